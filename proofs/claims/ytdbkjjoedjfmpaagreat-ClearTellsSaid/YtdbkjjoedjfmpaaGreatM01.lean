/- A part of the proof. -/
import Derived.Calls
import Derived.Still
import Derived.Below
import Derived.Laws.World
import Derived.Laws.Sem
import Derived.Laws.Entries
import Derived.Laws.Rows
import GoSem.ClaimData
import Derived.Laws.CopyRow
import Derived.Laws.MakeOwn
import Derived.Laws.Append
import Derived.Laws.AppendOwn
import Derived.Laws.Strings
import Derived.Laws.Strings2
import Derived.Laws.StructEq
import Derived.Laws.Slices
import Derived.Laws.Cells
import Derived.Attr
import Derived.LoopN
set_option linter.unusedSimpArgs false
set_option linter.unusedVariables false
set_option maxRecDepth 100000
set_option maxHeartbeats 4000000
noncomputable section
open Bool renaming and_eq_true->fw,false_eq_true->j3,or_eq_true->yD
open List renaming all_eq_true->pz,contains_iff_mem->afC,drop_drop->G0,drop_eq_getElem_cons->h9,drop_eq_nil_of_le->lO,drop_set_of_lt->tY,drop_take->aeE,eq_nil_of_length_eq_zero->tW,ext_getElem?->oR,flatten_cons->j1,foldl_cons->aeG,getD_eq_getElem?_getD->ep,getElem?_append->GK,getElem?_append_left->oe,getElem?_append_right->nc,getElem?_cons_zero->Cc,getElem?_drop->qX,getElem?_eq_getElem->bq,getElem?_eq_none->ja,getElem?_eq_some_iff->ej,getElem?_map->bj,getElem?_range->tU,getElem?_take->z0,getElem?_take_of_lt->rY,getElem?_toArray->aeX,getElem_mem->lq,getElem_of_mem->aeM,length->D,length_append->fX,length_cons->jO,length_eq_one_iff->afO,length_take->gv,mapM_cons->ny,map_congr_left->oi,map_map->oj,mem_append->jb,mem_attach->afU,mem_cons_self->g3,mem_flatMap->Ea,mem_of_getElem?->dn,mem_of_mem_take->z5,mem_zipIdx_iff_getElem?->afy,range->eN,replicate->et,replicate_succ->sR,take_append->aeB,take_of_length_le->dp
open Nat renaming add_assoc->tT,add_comm->zP,add_mul->qO,add_zero->lP,eq_or_lt_of_le->OA,eq_zero_or_pos->ko,le_mul_of_pos_right->aeQ,le_refl->cH,le_trans->e4,lt_asymm->afB,lt_of_lt_of_le->DO,lt_or_ge->g2,min_eq_left->oS,mul_le_mul_right->og,one_mul->JQ,sub_self->jy,succ_mul->py,testBit_or->afu,zero_add->qW,zero_le->fm
open Option renaming bind_eq_bind->hT,bind_eq_some_iff->fa,getD_some->Ku,map_eq_some_iff->e1,map_none->afd,map_some->lu,pure_def->hH
open Option.some renaming inj->oh,injEq->cL
open Prod.mk renaming injEq->fS
namespace Go.Mini
theorem b8 {α:Sort _}{a:α}:a=a:=_root_.id rfl
theorem ad {c:Prop}{h:Decidable c}(H:c){α:Sort _}{t e:α}:ite c t e=t:=if_pos H
theorem ag {c:Prop}{h:Decidable c}(H:¬c){α:Sort _}{t e:α}:ite c t e=e:=if_neg H
theorem jw {p:Prop}[inst:Decidable p](h:p):decide p=true:=decide_eq_true h
theorem h7 {p:Prop}[i:Decidable p](h:¬p):decide p=false:=decide_eq_false h
theorem cT {p:Prop}[inst:Decidable p](h:p:=by omega):decide p=true:=decide_eq_true h
theorem cl {p:Prop}[i:Decidable p](h:¬p:=by omega):decide p=false:=decide_eq_false h
open Go
abbrev Key:=Nat
inductive Data where
 |int (k:IntKind) (n:Int)
 |bool (b:Bool)
 |str (s:List UInt8)
 |X (es:List (List Data))
 |ptr (cs:List Data)
 |vi
 |fn (f:FuncId) (hb:List Data)
 |wP
 |agg (cs:List Data)
 |c1 (vs:List Data)
 deriving Inhabited
inductive R where
 |I (d:Data)
 |nil
 |ref (k:Key) (g sz off len:Nat)
 |ptr (k:Key) (g off:Nat)
 |gK (f:FuncId) (hb:List R)
 |agg (cs:List R)
 |c1 (vs:List R)
 |no
 |undef
 deriving Inhabited
inductive Den (w:World) (a2:Nat->Prop):Data->Value->Prop
 |int {k:IntKind} {n:Int}:Den w a2 (.int k n) (.int k n)
 |bool {b:Bool}:Den w a2 (.bool b) (.bool b)
 |str {s:List UInt8}:Den w a2 (.str s) (.string ⟨s.toArray⟩)
 |mc {a:Option Addr} {c:Nat}:Den w a2 (.X []) (.slice a 0 c)
 |X {es:List (List Data)} {b off c sz:Nat} (val:Nat->Value) (aw:(D es)<=c) (hm:(D es)<=maxLen) (ah:b<w.heap.size) (gj:¬ a2 b) (fg:∀e∈es,D e=sz)
   (H:∀i,i<D es*sz->w.cell? ⟨b,off+i,none⟩=some (val i)) (ab:∀i d,es.flatten[i]?=some d->Den w a2 d (val i)) :
   Den w a2 (.X es) (.slice (some ⟨b,off,none⟩) (D es) c)
 |ptr {cs:List Data} {b off:Nat} (val:Nat->Value) (ah:b<w.heap.size) (gj:¬ a2 b)
   (H:∀i,i<(D cs)->w.cell? ⟨b,off+i,none⟩=some (val i)) (ab:∀i d,cs[i]?=some d->Den w a2 d (val i)) :
   Den w a2 (.ptr cs) (.pointer (some ⟨b,off,none⟩))
 |vi:Den w a2 .vi (.pointer none)
 |fn {f:FuncId} {hb:List Data} {vs:List Value} (aw:(D vs)=D hb) (ab:∀(i:Nat) (d:Data) (v:Value),hb[i]?=some d->vs[i]?=some v->Den w a2 d v) :
   Den w a2 (.fn f hb) (.func (.func f) #[] vs.toArray)
 |wP:Den w a2 .wP .nilFunc
 |agg {cs:List Data} {vs:List Value} (aw:(D vs)=D cs) (ab:∀(i:Nat) (d:Data) (v:Value),cs[i]?=some d->vs[i]?=some v->Den w a2 d v) :
   Den w a2 (.agg cs) (.agg vs.toArray)
 |c1 {cs:List Data} {vs:List Value} (aw:(D vs)=D cs) (ab:∀(i:Nat) (d:Data) (v:Value),cs[i]?=some d->vs[i]?=some v->Den w a2 d v) :
   Den w a2 (.c1 cs) (.tuple vs.toArray)
theorem Od {es:List (List Data)}{sz:Nat}(h:∀e∈es,D e=sz):(D es.flatten)=D es*sz:=by
 induction es with
 |nil=>simp
 |cons e r aN =>
  have G:=h e (by simp);have J:=aN (λx M=>h x (by simp[M]));rw[j1,fX,G,J,jO,qO,JQ,zP]
theorem Den.sI {w a1:World}{a2 pr:Nat->Prop}(U:w.heap.size<=a1.heap.size)(h:∀b,b<w.heap.size->¬ a2 b->a1.heap[b]?=w.heap[b]?/\¬ pr b){d:Data}{v:Value}(ab:Den w a2 d v):Den a1 pr d v:=by
 induction ab with
 |int=>exact .int
 |bool=>exact .bool
 |str=>exact .str
 |mc=>exact .mc
 | @X es b off c sz val aw hm ah gj fg H ab aN =>
  obtain⟨G,J⟩:=h b ah gj;exact .X val aw hm (by omega) J fg (λi Q=>(World.cell?_of_block (a:=⟨b,off+i,none⟩) G).trans (H i Q)) aN
 |vi=>exact .vi
 |wP=>exact .wP
 | @ptr cs b off val ah gj H ab aN =>
  obtain⟨G,J⟩:=h b ah gj;exact .ptr val (by omega) J (λi Q=>(World.cell?_of_block (a:=⟨b,off+i,none⟩) G).trans (H i Q)) aN
 |fn aw ab aN=>exact .fn aw aN
 |agg aw ab aN=>exact .agg aw aN
 |c1 aw ab aN=>exact .c1 aw aN
structure mJ where
 g:Nat
 eo:Option Nat
 size:Nat
abbrev fu:=Key->Option mJ
def sJ (B:fu)(b:Nat):Prop:=∃k e,B k=some e/\e.eo=some b
def Gs (e:mJ)(g sz off len:Nat)(v:Value):Prop :=
 ∃a cap,v=.slice a len cap/\len<=cap/\cap<=maxLen/\(cap=0\/∃b,a=some ⟨b,off,none⟩/\(g=e.g->e.eo=some b/\off+cap*sz<=e.size))
def Oe (e:mJ)(g off:Nat)(v:Value):Prop:=∃b,v=.pointer (some ⟨b,off,none⟩)/\(g=e.g->e.eo=some b)
theorem Gs.JR {e e':mJ}{g sz off len:Nat}{v:Value}(h:Gs e g sz off len v)(aw:g<e'.g):Gs e' g sz off len v:=by
 obtain⟨a,cap,G,J,af,aT⟩:=h;refine⟨a,cap,G,J,af,aT.imp id ?_⟩;rintro⟨b,bx,_⟩;exact⟨b,bx,λh=>by omega⟩
theorem Oe.JR {e e':mJ}{g off:Nat}{v:Value}(h:Oe e g off v)(aw:g<e'.g):Oe e' g off v:=by
 obtain⟨b,G,_⟩:=h;exact⟨b,G,λh=>by omega⟩
inductive bN (w:World) (a2:Nat->Prop) (B:fu):R->Value->Prop
 |I {d:Data} {v:Value} (h:Den w a2 d v):bN w a2 B (.I d) v
 |nil {a:Option Addr}:bN w a2 B .nil (.slice a 0 0)
 |ref {k:Key} {g sz off len:Nat} {e:mJ} {v:Value} (he:B k=some e) (bz:g<=e.g) (aD:Gs e g sz off len v):bN w a2 B (.ref k g sz off len) v
 |ptr {k:Key} {g off:Nat} {e:mJ} {v:Value} (he:B k=some e) (bz:g<=e.g) (aD:Oe e g off v):bN w a2 B (.ptr k g off) v
 |gK {f:FuncId} {hb:List R} {vs:List Value} (aw:(D vs)=D hb) (ab:∀(i:Nat) (d:R) (v:Value),hb[i]?=some d->vs[i]?=some v->bN w a2 B d v) :
   bN w a2 B (.gK f hb) (.func (.func f) #[] vs.toArray)
 |agg {cs:List R} {vs:List Value} (aw:(D vs)=D cs) (ab:∀(i:Nat) (d:R) (v:Value),cs[i]?=some d->vs[i]?=some v->bN w a2 B d v) :
   bN w a2 B (.agg cs) (.agg vs.toArray)
 |c1 {cs:List R} {vs:List Value} (aw:(D vs)=D cs) (ab:∀(i:Nat) (d:R) (v:Value),cs[i]?=some d->vs[i]?=some v->bN w a2 B d v) :
   bN w a2 B (.c1 cs) (.tuple vs.toArray)
 |no:bN w a2 B .no undef
 |undef {v:Value}:bN w a2 B .undef v
def cV (A:Nat->Prop)(B:fu)(b:Nat):Prop:=sJ B b\/A b
structure Trans (A:Nat->Prop) (w:World) (B:fu) (a1:World) (bQ:fu):Prop where
 size:w.heap.size<=a1.heap.size
 JS:∀b,b<w.heap.size->¬ cV A B b->a1.heap[b]?=w.heap[b]?/\¬ sJ bQ b
 key:∀k e,B k=some e->∃e',bQ k=some e'/\(e'=e\/e.g<e'.g)
theorem Trans.trans {A:Nat->Prop}{w w1 rJ:World}{B DM DN:fu}(h:Trans A w B w1 DM)(cW:Trans A w1 DM rJ DN):Trans A w B rJ DN:=by
 refine⟨e4 h.size cW.size,λb ah bS=>?_,λk e he=>?_⟩
 ·obtain⟨G,J⟩:=h.JS b ah bS;obtain⟨af,aT⟩:=cW.JS b (DO ah h.size) (λM=>M.elim J λaW=>bS (.inr aW));exact⟨af.trans G,aT⟩
 ·obtain⟨av,api,aY⟩:=h.key k e he;obtain⟨aB,fG,ps⟩:=cW.key k av api;refine⟨aB,fG,?_⟩;rcases aY with rfl|aY<;>rcases ps with rfl|ps
  ·exact .inl rfl
  ·exact .inr ps
  ·exact .inr aY
  ·exact .inr (Nat.lt_trans aY ps)
theorem Den.trans {A:Nat->Prop}{w a1:World}{B bQ:fu}(t:Trans A w B a1 bQ){d:Data}{v:Value}(h:Den w (cV A B) d v):Den a1 (cV A bQ) d v :=
 h.sI t.size λb ah bS=>⟨(t.JS b ah bS).1,λM=>M.elim (t.JS b ah bS).2 λaW=>bS (.inr aW)⟩
theorem bN.sI {A:Nat->Prop}{w a1:World}{B bQ:fu}(t:Trans A w B a1 bQ){m:R}{v:Value}(h:bN w (cV A B) B m v):bN a1 (cV A bQ) bQ m v:=by
 induction h with
 |I h=>exact .I (h.trans t)
 |nil=>exact .nil
 | @ref k g sz off len e v he bz aD =>
  obtain⟨e',gL,aY⟩:=t.key k e he;rcases aY with rfl|aY
  ·exact .ref gL bz aD
  ·exact .ref gL (by omega) (aD.JR (by omega))
 | @ptr k g off e v he bz aD =>
  obtain⟨e',gL,aY⟩:=t.key k e he;rcases aY with rfl|aY
  ·exact .ptr gL bz aD
  ·exact .ptr gL (by omega) (aD.JR (by omega))
 |gK aw ab aN=>exact .gK aw aN
 |agg aw ab aN=>exact .agg aw aN
 |c1 aw ab aN=>exact .c1 aw aN
 |no=>exact .no
 |undef=>exact .undef
abbrev Mem:=Key->Option (Nat×List R)
def emp:Mem:=λ_=>none
def a9 (m:Mem)(k:Key)(g:Nat)(cs:List R):Mem:=λj=>if j=k then some (g,cs) else m j
def cy (m:Mem)(k:Key):Nat:=match m k with
 |none=>0
 |some (g,_)=>g+1
structure ga (A:Nat->Prop) (w:World) (B:fu) (mem:Mem):Prop where
 BP:∀k,mem k=none->B k=none
 inj:∀k k' e e' b,B k=some e->B k'=some e'->e.eo=some b->e'.eo=some b->k=k'
 sep:∀b,A b->¬ sJ B b
 lt:∀b,A b->b<w.heap.size
 eo:∀k g cs,mem k=some (g,cs)->∃e,B k=some e/\e.g=g/\(e.eo=none->cs=[]) /\
  ∀b,e.eo=some b->∃vs T,w.heap[b]?=some (.cells vs T (0,0))/\vs.size=e.size/\D cs<=vs.size /\
   ∀(i:Nat) (m:R),cs[i]?=some m->∃v,vs[i]?=some v/\bN w (cV A B) B m v
theorem ga.BQ {A:Nat->Prop}{w:World}{B:fu}{mem:Mem}(h:ga A w B mem){b:Nat}(ah:sJ B b):b<w.heap.size:=by
 obtain⟨k,e,he,ah⟩:=ah
 cases hm:mem k with
 |none=>rw[h.BP k hm] at he;cases he
 |some x =>
  obtain⟨g,cs⟩:=x;obtain⟨e',gL,_,_,aY⟩:=h.eo k g cs hm;rw[gL] at he
  cases he;obtain⟨vs,T,aD,_⟩:=aY b ah;exact (Array.getElem?_eq_some_iff.1 aD).1
structure Fr (zQ:Nat->Prop) (eW w:World):Prop where
 os:w.os=eW.os
 tape:w.tape=eW.tape
 output:w.output=eW.output
 size:eW.heap.size<=w.heap.size
 block:∀g,g<eW.heap.size->¬ zQ g->w.heap[g]?=eW.heap[g]?
theorem Fr.refl (zQ:Nat->Prop)(w:World):Fr zQ w w:=⟨rfl,rfl,rfl,cH _,λ_ _ _=>rfl⟩
theorem Fr.drew {zQ:Nat->Prop}{eW w:World}(h:Fr zQ eW w)(n:Nat):Fr zQ eW { w with drawn:=n }:=⟨h.os,h.tape,h.output,h.size,h.block⟩
theorem Fr.alloc {zQ:Nat->Prop}{eW w:World}(h:Fr zQ eW w)(o:Obj):Fr zQ eW (w.alloc o) :=
 ⟨h.os,h.tape,h.output,by simp;have:=h.size;omega,λg bz gj=>(RowKit.Below.heap_alloc w o g (by have:=h.size;omega)).trans (h.block g bz gj)⟩
inductive cv where
 |t (s:Nat)
 |c (m:R)
 deriving Inhabited
inductive kl where
 |bT (x:cv)
 |pick (c a b:cv)
 |alloc (k:Key) (z:List R)
 |box (k:Key) (x:cv)
 |build (z:List R) (parts:List (Nat×Nat×cv))
 |dU (k:Key) (own:Bool) (z:List R) (sz len:Nat) (parts:List (Nat×Nat×cv))
 |load (n:Nat) (eM:Bool) (x:cv)
 |store (n:Nat) (x v:cv)
 |bin (op:BinOp) (x y:cv)
 |beq (neg:Bool) (x y:cv)
 |eqs (neg:Bool) (g1:List Nat) (x y:cv)
 |rK (neg:Bool) (x:cv)
 |un (op:UnOp) (x:cv)
 |conv (k:IntKind) (x:cv)
 |nv (x:cv)
 |lg (k:Key) (z:List R) (bytes:Nat) (len cap:cv)
 |dt (off:Nat) (x:cv)
 |Of (off n:Nat) (eM:Bool) (x:cv)
 |ht (sz:Nat) (x i:cv)
 |pt (len sz:Nat) (x i:cv)
 |idxs (x i:cv)
 |tP (sz:Nat) (x:cv) (cY Q km:Option cv)
 |tQ (len sz:Nat) (x:cv) (cY Q km:Option cv)
 |Og (x:cv) (cY Q:Option cv)
 |ext (i:Nat) (x:cv)
 |len (x:cv)
 |lens (x:cv)
 |app (k:Key) (z:List R) (bytes:Nat) (s x:cv)
 |sK (sz:Nat) (d x:cv)
 |jx (km:Bool) (x y:cv)
 |call (f:FuncId) (args:List cv)
 |oO (k:Key) (sz:Nat) (f:FuncId) (args:List cv)
 |mK (f:cv) (args:List cv)
 |mL (cY:Nat) (f:FuncId) (args:List cv)
 |wQ (f:FuncId) (hb:List cv)
 |bad
 deriving Inhabited
structure du where
 dst:Option Nat
 g:Option (Nat×Bool)
 op:kl
 deriving Inhabited
inductive Oh where
 |mM (s:Nat) (k:Key) (sz:Nat)
 |BR (x:cv) (i:Nat) (k:Key) (sz:Nat)
 |freeze (s:Nat)
 |DP (x:cv) (i:Nat)
 |move
 |many
 deriving Inhabited
inductive er where
 |skip
 |ops (l:List du)
 |mN (l:List du) (c:List (List Nat))
 |seq (a b:er)
 |cond (c:cv) (a b:er)
 |block (id:Nat) (c:er)
 |loop (c:er)
 |exit (id:Nat)
 |ret
 |ghost (g:Oh) (c:er)
 deriving Inhabited
inductive pv where
 |t (s:Nat)
 |cell (s n:Nat) (eM:Bool)
 deriving Inhabited
structure bZ where
 n:Nat
 apj:Nat
 res:List pv
 body:er
 deriving Inhabited
structure bo where
 tm:Nat->R
 mem:Mem
def eb (tm:Nat->R)(s:Nat)(m:R):Nat->R:=λt=>if t=s then m else tm t
def put (tm:Nat->R):Option Nat->R->Nat->R
 |some s,m=>eb tm s m
 |none,_=>tm
@[simp] theorem dk (tm:Nat->R)(s:Nat)(m:R)(t:Nat):eb tm s m t=if t=s then m else tm t:=rfl
def bC (tm:Nat->R):cv->R
 |.t s=>tm s
 |.c m=>m
def R.cells:R->List R
 |.agg cs=>cs
 |.I (.agg ds)=>ds.map .I
 |m=>[m]
def R.known:R->Bool
 |.undef=>false
 |_=>true
def R.one:R->Bool
 |.I (.agg _)=>false
 |.I (.c1 _)=>false
 |.I _=>true
 |.nil=>true
 |.ref ..=>true
 |.ptr ..=>true
 |.gK ..=>true
 |_=>false
def rL (eM:Bool)(cs:List R):Option R :=
 if eM=true then some (.agg cs) else match cs with
  | [m]=>some m
  |_=>none
def cut (cs:List R)(off n:Nat):Option (List R) :=
 if off+n<=(D cs) then some ((cs.drop off).take n) else none
def lM (cs:List R)(off:Nat)(new:List R):List R:=cs.take off++new++cs.drop (off+D new)
def kQ (bC:cv->R)(cells:List R):List (Nat×Nat×cv)->Option (List R)
 | []=>some cells
 |(off,size,x)::rest =>
  if (bC x).known=true/\(bC x).cells.length=size/\off+size<=(D cells) then kQ bC (lM cells off (bC x).cells) rest else none
def DQ:R->Option Data
 |.I d=>some d
 |.nil=>some (.X [])
 |_=>none
def chunk (sz:Nat):Nat->List Data->List (List Data)
 |0,_=>[]
 |n+1,l=>l.take sz::chunk sz n (l.drop sz)
def Oi (op:BinOp)(k:IntKind)(a b:Int):Option Data :=
 match op with
 |.add=>some (.int k (k.wrap (a+b)))
 |.sub=>some (.int k (k.wrap (a-b)))
 |.mul=>some (.int k (k.wrap (a*b)))
 |.quo=>if b=0 then none else some (.int k (k.wrap (a.tdiv b)))
 |.rem=>if b=0 then none else some (.int k (a.tmod b))
 |.and=>some (.int k (bits .and k a b))
 |.or=>some (.int k (bits .or k a b))
 |.xor=>some (.int k (bits .xor k a b))
 |.andNot=>some (.int k (bits .andNot k a b))
 |.eql=>some (.bool (a==b))
 |.neq=>some (.bool (a != b))
 |.lss=>some (.bool (a<b))
 |.leq=>some (.bool (a<=b))
 |.gtr=>some (.bool (a>b))
 |.geq=>some (.bool (a>=b))
 |_=>none
def Oj (op:BinOp)(k:IntKind)(a b:Int):Option Data :=
 if b<0 then none else match op with
 |.shl=>some (.int k (k.wrap (a*2^(min b.toNat k.bits))))
 |.shr=>some (.int k (a.fdiv (2^(min b.toNat k.bits))))
 |_=>none
def Ok (op:BinOp)(a b:List UInt8):Option Data :=
 match op with
 |.add=>if (D a)+D b<=maxLen then some (.str (a++b)) else none
 |.eql=>some (.bool (a==b))
 |.neq=>some (.bool (!(a==b)))
 |.lss=>some (.bool (Op.bytesLess a b))
 |.leq=>some (.bool (Op.bytesLess a b||a==b))
 |.gtr=>some (.bool (!(Op.bytesLess a b||a==b)))
 |.geq=>some (.bool (!Op.bytesLess a b))
 |_=>none
def Gt:BinOp->Bool
 |.shl=>true
 |.shr=>true
 |_=>false
def JT (op:BinOp)(x y:R):Option R :=
 match x,y with
 |.I (.int k a),.I (.int k' b)=>if Gt op=true then (Oj op k a b).map .I else if k=k' then (Oi op k a b).map .I else none
 |.I (.str a),.I (.str b)=>(Ok op a b).map .I
 |_,_=>none
def JU (neg:Bool):R->R->Option R
 |.I (.bool a),.I (.bool b)=>some (.I (.bool (neg != (a==b))))
 |_,_=>none
def Ol:Nat->R->R->Option Bool
 |0,.I (.bool a),.I (.bool b)=>some (a==b)
 |1,.I (.int k a),.I (.int k' b)=>if k=k' then some (a==b) else none
 |2,.I (.str a),.I (.str b)=>some (a==b)
 |_,_,_=>none
def BS:List Nat->List R->List R->Option Bool
 | [],[],[]=>some true
 |k::g1,a::x,b::y=>match Ol k a b,BS g1 x y with
  |some c,some d=>some (c&&d)
  |_,_=>none
 |_,_,_=>none
def JV (op:UnOp)(x:R):Option R :=
 match op,x with
 |.neg,.I (.int k n)=>some (.I (.int k (k.wrap (0-n))))
 |.xor,.I (.int k n)=>some (.I (.int k (bits .xor k (if k.signed then -1 else k.max) n)))
 |.not,.I (.bool b)=>some (.I (.bool !b))
 |_,_=>none
def idx:R->Option Nat
 |.I (.int _ n)=>if 0<=n then some n.toNat else none
 |_=>none
def lh (d:Nat):Option R->Option Nat
 |none=>some d
 |some x=>idx x
def qP:R->Option Nat
 |.I (.X es)=>some (D es)
 |.nil=>some 0
 |.ref _ _ _ _ n=>some n
 |_=>none
def qQ (mem:Mem)(n:Nat)(eM:Bool):R->Option R
 |.ptr k g off=>match mem k with
  |some (eg,cs)=>if eg=g then (cut cs off n).bind (rL eM) else none
  |none=>none
 |.I (.ptr ds)=>(cut (ds.map .I) 0 n).bind (rL eM)
 |_=>none
def DR:R->Option Nat
 |.I (.str s)=>some (D s)
 |_=>none
def Gu:R->R->R->Option R
 |.I (.bool t),a,b=>some (if t=true then a else b)
 |_,_,_=>none
def JW (z:List R)(sz len:Nat)(x:Option (List R)):Option R :=
 if (D z)=len*sz then (match x with
  |some cs=>(cs.mapM DQ).map λds => .I (.X (chunk sz len ds))
  |none=>none) else none
def JX:R->Option (List R)
 |.agg cs=>some cs
 |.I (.agg ds)=>some (ds.map .I)
 |_=>none
def Om (neg:Bool)(g1:List Nat)(a b:R):Option R:=match JX a,JX b with
 |some x,some y=>(match BS g1 x y with
  |some c=>some (.I (.bool (neg != c)))
  |none=>none)
 |_,_=>none
def JY (k:IntKind):R->Option R
 |.I (.int _ n)=>some (.I (.int k (k.wrap n)))
 |_=>none
def JZ:R->Option R
 |.ptr k g off=>some (.ptr k g off)
 |.I (.ptr ds)=>some (.I (.ptr ds))
 |_=>none
def J0 (off:Nat):R->Option R
 |.ptr k g o=>some (.ptr k g (o+off))
 |.I (.ptr ds)=>if off<=(D ds) then some (.I (.ptr (ds.drop off))) else none
 |_=>none
def On (off n:Nat)(eM:Bool):R->Option R
 |.agg cs=>(cut cs off n).bind (rL eM)
 |.I (.agg ds)=>(cut (ds.map .I) off n).bind (rL eM)
 |_=>none
def zR (sz n:Nat):R->Option R
 |.ref k g eQ off len=>if n<len/\eQ=sz then some (.ptr k g (off+n*sz)) else none
 |.I (.X es)=>match es[n]? with
  |some e=>if (D e)=sz then some (.I (.ptr e)) else none
  |none=>none
 |_=>none
def J1 (len sz n:Nat):R->Option R
 |.ptr k g off=>if n<len then some (.ptr k g (off+n*sz)) else none
 |.I (.ptr ds)=>if n<len/\n*sz<=(D ds) then some (.I (.ptr (ds.drop (n*sz)))) else none
 |_=>none
def Oo (n:Nat):R->Option R
 |.I (.str s)=>(s[n]?).map λb => .I (.int .u8 b.toNat)
 |_=>none
def BT (sz:Nat)(es:List (List Data)):Bool:=es.all λe=>D e==sz
def J2 (sz l h:Nat):R->Option R
 |.I (.X es)=>if l<=h/\h<=D es/\BT sz es=true then some (.I (.X ((es.take h).drop l))) else none
 |.nil=>if l=0/\h=0 then some .nil else none
 |.ref k g eQ off len=>if eQ=sz/\l<=h/\h<=len then some (.ref k g sz (off+l*sz) (h-l)) else none
 |_=>none
def Oq (sz l h m:Nat):R->Option R
 |.I (.X es)=>if l<=h/\h<=m/\m<=D es/\BT sz es=true then (if m=l then some .nil else some (.I (.X ((es.take h).drop l)))) else none
 |.nil=>if l=0/\h=0/\m=0 then some .nil else none
 |.ref _ _ _ _ len=>if l<=h/\h<=m/\m<=len/\m=l then some .nil else none
 |_=>none
def Ot (l h:Nat):R->Option R
 |.I (.str s)=>if l<=h/\h<=(D s) then some (.I (.str ((s.take h).drop l))) else none
 |_=>none
def J3 (i:Nat):R->Option R
 |.c1 vs=>vs[i]?
 |.I (.c1 ds)=>(ds[i]?).map .I
 |_=>none
def J4 (km:Bool):R->R->Option R
 |.I (.int k a),.I (.int k' b)=>if k=k' then some (.I (.int k (if km=true then (if b>a then b else a) else (if b<a then b else a)))) else none
 |_,_=>none
def kR (x:Option Nat)(f:Nat->Option R):Option R:=match x with
 |some n=>f n
 |none=>none
def lj (tm:Nat->R):kl->Option R
 |.bT x=>some (bC tm x)
 |.pick c a b=>Gu (bC tm c) (bC tm a) (bC tm b)
 |.build z parts=>(kQ (bC tm) z parts).map .agg
 |.dU _ false z sz len parts=>JW z sz len (kQ (bC tm) z parts)
 |.bin op x y=>JT op (bC tm x) (bC tm y)
 |.beq neg x y=>JU neg (bC tm x) (bC tm y)
 |.eqs neg g1 x y=>Om neg g1 (bC tm x) (bC tm y)
 |.un op x=>JV op (bC tm x)
 |.conv k x=>JY k (bC tm x)
 |.nv x=>JZ (bC tm x)
 |.dt off x=>J0 off (bC tm x)
 |.Of off n eM x=>On off n eM (bC tm x)
 |.ht sz x i=>kR (idx (bC tm i)) λn=>zR sz n (bC tm x)
 |.pt len sz x i=>kR (idx (bC tm i)) λn=>J1 len sz n (bC tm x)
 |.idxs x i=>kR (idx (bC tm i)) λn=>Oo n (bC tm x)
 |.tP sz x cY Q none=>kR (lh 0 (cY.map (bC tm))) λl=>kR (qP (bC tm x)) λlen=>kR (lh len (Q.map (bC tm))) λh=>J2 sz l h (bC tm x)
 |.tP sz x cY (some Q) (some km)=>kR (lh 0 (cY.map (bC tm))) λl=>kR (idx (bC tm Q)) λh=>kR (idx (bC tm km)) λm=>Oq sz l h m (bC tm x)
 |.Og x cY Q=>kR (lh 0 (cY.map (bC tm))) λl=>kR (DR (bC tm x)) λlen=>kR (lh len (Q.map (bC tm))) λh=>Ot l h (bC tm x)
 |.ext i x=>J3 i (bC tm x)
 |.len x=>kR (qP (bC tm x)) λn=>some (.I (.int .i64 n))
 |.lens x=>kR (DR (bC tm x)) λn=>some (.I (.int .i64 n))
 |.jx km x y=>J4 km (bC tm x) (bC tm y)
 |.wQ f hb=>some (.gK f (hb.map (bC tm)))
 |_=>none
def TO (k:Key)(g off len sz l h:Nat):Option (Nat×List R)->Option R
 |some (eg,cs)=>if eg=g/\l<=h/\h<=len/\off+len*sz<=(D cs) then some (.ref k g sz (off+l*sz) (h-l)) else none
 |none=>none
def BU (mem:Mem)(len sz l h:Nat):R->Option R
 |.ptr k g off=>TO k g off len sz l h (mem k)
 |_=>none
def qR (mem:Mem)(sz:Nat):R->Option (Nat×List R)
 |.I (.X es)=>if BT sz es=true then some (D es,es.flatten.map R.I) else none
 |.nil=>some (0,[])
 |.ref k g eQ off len=>if eQ=sz then (match mem k with
  |some (eg,cs)=>if eg=g then (cut cs off (len*sz)).map λcs=>(len,cs) else none
  |none=>none) else none
 |_=>none
abbrev Out:=Option (R×Option (Key×Nat×List R))
def lN (x:Option R):Out:=match x with
 |some m=>some (m,none)
 |none=>none
def Gv (k:Key)(g:Nat)(z:List R)(sz len:Nat)(x:Option (List R)):Out :=
 if (D z)=len*sz then (match x with
  |some cs=>some (.ref k g sz 0 len,some (k,g,cs))
  |none=>none) else none
def Gw (k:Key)(g:Nat)(z:List R)(bytes:Nat)(n c:Nat):Out :=
 if n=c/\bytes*n<=140737488355328/\n<=maxLen then some (.ref k g (D z) 0 n,some (k,g,(et n z).flatten)) else none
def J5 (x y:Option Nat)(f:Nat->Nat->Out):Out:=match x,y with
 |some n,some m=>f n m
 |_,_=>none
def J6 (n:Nat)(k:Key)(g off:Nat)(v:List R)(x:Option (Nat×List R)):Out:=match x with
 |some (eg,cs)=>if eg=g/\D v=n/\off+n<=D cs/\v.all R.one=true then some (.no,some (k,g,lM cs off v)) else none
 |none=>none
def yq (mem:Mem)(n:Nat):R->List R->Out
 |.ptr k g off,v=>J6 n k g off v (mem k)
 |_,_=>none
def kS (k:Key)(g:Nat)(sz len bytes:Nat)(m:Nat)(new:List R)(x:Option (Nat×List R)):Out:=match x with
 |some (eg,cs)=>if eg=g/\len*sz<=D cs/\(len+m)*bytes<=140737488355328/\len+m<=maxLen/\new.all R.one=true
   then some (.ref k (g+1) sz 0 (len+m),some (k,g+1,cs.take (len*sz)++new)) else none
 |none=>none
def rM (mem:Mem)(k:Key)(z:List R)(bytes:Nat):R->Option (Nat×List R)->Out
 |.nil,some (m,new)=>if m*bytes<=140737488355328/\m<=maxLen/\new.all R.one=true then some (.ref k (cy mem k) (D z) 0 m,some (k,cy mem k,new)) else none
 |.ref k' g eQ off len,some (m,new)=>if eQ=D z/\off=0 then kS k' g eQ len bytes m new (mem k') else none
 |_,_=>none
def BV (k:Key)(g sz off len:Nat)(m:Nat)(new:List R)(x:Option (Nat×List R)):Out:=match x with
 |some (eg,cs)=>if eg=g/\off+len*sz<=D cs/\new.all R.one=true then some (.I (.int .i64 ((min m len:Nat):Int)),some (k,g,lM cs off (new.take (min m len*sz)))) else none
 |none=>none
def wR (mem:Mem)(sz:Nat):R->Option (Nat×List R)->Out
 |.ref k g eQ off len,some (m,new)=>if eQ=sz then BV k g sz off len m new (mem k) else none
 |_,_=>none
def c6 (mem:Mem)(tm:Nat->R):kl->Out
 |.alloc k z=>some (.ptr k (cy mem k) 0,some (k,cy mem k,z))
 |.box k x=>if (bC tm x).known=true then some (.ptr k (cy mem k) 0,some (k,cy mem k,(bC tm x).cells)) else none
 |.dU k true z sz len parts=>Gv k (cy mem k) z sz len (kQ (bC tm) z parts)
 |.lg k z bytes len cap=>J5 (idx (bC tm len)) (idx (bC tm cap)) (Gw k (cy mem k) z bytes)
 |.load n eM x=>lN (qQ mem n eM (bC tm x))
 |.tQ len sz x cY Q none=>lN (kR (lh 0 (cY.map (bC tm))) λl=>kR (lh len (Q.map (bC tm))) λh=>BU mem len sz l h (bC tm x))
 |.store n x v=>yq mem n (bC tm x) (bC tm v).cells
 |.app k z bytes s x=>rM mem k z bytes (bC tm s) (qR mem (D z) (bC tm x))
 |.sK sz d x=>wR mem sz (bC tm d) (qR mem sz (bC tm x))
 |op=>lN (lj tm op)
inductive h8 where
 |same (r:Data)
 |own (sz:Nat) (es:List (List Data))
 |rel (bU:R->Mem->Prop)
 |eb (r:Data) (k:Key) (g i:Nat) (c:R)
abbrev bl:=FuncId->List R->Mem->Option h8
def ji (mem:Mem):Option (Key×Nat×List R)->Mem
 |none=>mem
 |some (k,g,cs)=>a9 mem k g cs
def vj (mem:Mem)(k:Key):List R:=match mem k with
 |some (_,cs)=>cs
 |none=>[]
def vk (T:bl)(K:bo->Prop)(st:bo)(dst:Option Nat)(f:FuncId)(args:List R):Prop :=
 match T f args st.mem with
 |some (.same r)=>K ⟨put st.tm dst (.I r),st.mem⟩
 |some (.own _ es)=>K ⟨put st.tm dst (.I (.X es)),st.mem⟩
 |some (.rel bU)=>∀r mem',bU r mem'->K ⟨put st.tm dst r,mem'⟩
 |some (.eb r k g i c)=>K ⟨put st.tm dst (.I r),a9 st.mem k g ((vj st.mem k).set i c)⟩
 |none=>False
def DS:R->Option Bool
 |.I (.X es)=>some (!es.isEmpty)
 |.nil=>some false
 |.ref _ _ _ _ len=>some (decide (0<len))
 |_=>none
def hF (T:bl)(K:bo->Prop)(i:du)(st:bo):Prop :=
 match i.op with
 |.call f args=>vk T K st i.dst f (args.map (bC st.tm))
 |.oO k sz f args=>match T f (args.map (bC st.tm)) st.mem with
  |some (.own eQ es)=>if eQ=sz then K ⟨put st.tm i.dst (.ref k (cy st.mem k) sz 0 (D es)),a9 st.mem k (cy st.mem k) (es.flatten.map .I)⟩ else False
  |_=>False
 |.mK f args=>match bC st.tm f with
  |.gK g hb=>vk T K st i.dst g (args.map (bC st.tm)++hb)
  |.I (.fn g ds)=>vk T K st i.dst g (args.map (bC st.tm)++ds.map .I)
  |_=>False
 |.rK neg x=>match DS (bC st.tm x) with
  |some full=>∀b:Bool,(full=true->b=false)->K ⟨put st.tm i.dst (.I (.bool (neg != b))),st.mem⟩
  |none=>False
 |op=>match c6 st.mem st.tm op with
  |some (m,e)=>K ⟨put st.tm i.dst m,ji st.mem e⟩
  |none=>False
def pw (tm:Nat->R):Option (Nat×Bool)->Option Bool
 |none=>some true
 |some (s,b)=>match tm s with
  |.I (.bool t)=>some (t==b)
  |.no=>some false
  |_=>none
def yr (T:bl)(K:bo->Prop):List du->bo->Prop
 | [],st=>K st
 |i::r,st=>match pw st.tm i.g with
  |none=>False
  |some g=>if g=true then hF T (yr T K r) i st else yr T K r ⟨put st.tm i.dst .no,st.mem⟩
def keyOf:R->List Key
 |.ref k ..=>[k]
 |.ptr k ..=>[k]
 |_=>[]
inductive px where
 |iZ (k:Key)
 |rd (k:Key) (a b:Nat)
 |wr (k:Key) (i:Nat)
def px.key:px->Key
 |.iZ k=>k
 |.rd k _ _=>k
 |.wr k _=>k
def rN:px->px->Bool
 |.iZ k,.iZ k' => !(k==k')
 |.iZ k,.rd k' _ _ => !(k==k')
 |.rd k _ _,.iZ k' => !(k==k')
 |.rd _ _ _,.rd _ _ _=>true
 |.rd k a b,.wr k' i => !(k==k')||(decide (i<a)||decide (b<=i))
 |.wr k' i,.rd k a b => !(k==k')||(decide (i<a)||decide (b<=i))
 |.wr _ _,.wr _ _=>false
 |.iZ _,.wr _ _=>false
 |.wr _ _,.iZ _=>false
def Gx (n:Nat):R->List px
 |.ref k ..=>[.iZ k]
 |.ptr k _ off=>[.rd k off (off+n)]
 |_=>[]
def J7 (cY:Nat):List R->List px
 |.ptr k _ off::_=>[.wr k (off+cY)]
 |_=>[]
def eJ (tm:Nat->R):kl->List px
 |.load n _ x=>Gx n (bC tm x)
 |.tQ _ _ x _ _ _=>(keyOf (bC tm x)).map .iZ
 |.store _ x _=>(keyOf (bC tm x)).map .iZ
 |.alloc k _=>[.iZ k]
 |.box k _=>[.iZ k]
 |.dU k true _ _ _ _=>[.iZ k]
 |.lg k _ _ _ _=>[.iZ k]
 |.oO k _ _ _=>[.iZ k]
 |.app k _ _ s x => .iZ k::((keyOf (bC tm s)).map .iZ++(keyOf (bC tm x)).map .iZ)
 |.sK _ d x=>(keyOf (bC tm d)).map .iZ++(keyOf (bC tm x)).map .iZ
 |.mL cY _ args=>J7 cY (args.map (bC tm))
 |_=>[]
def j2:kl->Bool
 |.store ..=>true
 |.alloc ..=>true
 |.box ..=>true
 |.dU _ true _ _ _ _=>true
 |.lg ..=>true
 |.oO ..=>true
 |.app ..=>true
 |.sK ..=>true
 |.mL ..=>true
 |_=>false
def BW:R->R
 |.I d => .I d
 |.nil => .nil
 |.gK f [] => .gK f []
 |.agg cs=>match cs.mapM DQ with
  |some ds => .I (.agg ds)
  |none => .undef
 |_ => .undef
def Gy (cY:Nat)(mem:Mem):List R->Option h8->Option (R×Option (Key×Nat×List R))
 |.ptr k _ off::_,some (.eb r k' eg i c)=>match mem k with
  |some (g,cs)=>if k'=k/\eg=g/\i=off+cY then some (.I r,some (k,g,cs.set i c)) else none
  |none=>none
 |_,_=>none
def jP (T:bl)(mem:Mem)(tm:Nat->R):kl->Option (R×Option (Key×Nat×List R))
 |.call f args=>match T f (args.map λx=>BW (bC tm x)) emp with
  |some (.same r)=>some (.I r,none)
  |some (.own _ es)=>some (.I (.X es),none)
  |_=>none
 |.oO k sz f args=>match T f (args.map λx=>BW (bC tm x)) emp with
  |some (.own eQ es)=>if eQ=sz then some (.ref k (cy mem k) sz 0 (D es),some (k,cy mem k,es.flatten.map .I)) else none
  |_=>none
 |.mK ..=>none
 |.rK ..=>none
 |.mL cY f args=>Gy cY mem (args.map (bC tm)) (T f (args.map (bC tm)) mem)
 |op=>c6 mem tm op
abbrev Rec:=Nat->Option (Bool×List px)
def rO (a b:Bool×List px):Bool:=!(a.1||b.1)||a.2.all λx=>b.2.all λy=>rN x y
def Gz (rec:Rec)(p:Bool×List px)(c:List Nat):Bool:=c.all λi=>match rec i with
 |none=>true
 |some q=>rO q p
def vl (rec:Rec)(n:Nat)(p:Bool×List px):Rec:=λi=>if i=n then some p else rec i
def wS (T:bl)(K:bo->Prop):Nat->List du->List (List Nat)->Rec->bo->Prop
 |_,[],_,_,st=>K st
 |n,i::r,cs,rec,st=>match pw st.tm i.g with
  |none=>False
  |some g=>if g=true then (match jP T st.mem st.tm i.op with
    |some (m,e)=>Gz rec (j2 i.op,eJ st.tm i.op) (cs.headD [])=true/\wS T K (n+1) r cs.tail (vl rec n (j2 i.op,eJ st.tm i.op)) ⟨put st.tm i.dst m,ji st.mem e⟩
    |none=>False) else wS T K (n+1) r cs.tail rec ⟨put st.tm i.dst .no,st.mem⟩
inductive eI where
 |normal
 |exit (id:Nat)
 |ret
def dz:Nat->Mem->R->Option Data
 |_,_,.I d=>some d
 |_,_,.nil=>some (.X [])
 |0,_,_=>none
 |n+1,mem,.ref k g sz off len=>match mem k with
  |some (eg,cs)=>if eg=g then (match cut cs off (len*sz) with
   |some part=>(part.mapM (dz n mem)).map λds => .X (chunk sz len ds)
   |none=>none) else none
  |none=>none
 |n+1,mem,.ptr k g off=>match mem k with
  |some (eg,cs)=>if eg=g/\off<=(D cs) then ((cs.drop off).mapM (dz n mem)).map .ptr else none
  |none=>none
 |n+1,mem,.gK f cs=>(cs.mapM (dz n mem)).map (.fn f)
 |n+1,mem,.agg cs=>(cs.mapM (dz n mem)).map .agg
 |n+1,mem,.c1 cs=>(cs.mapM (dz n mem)).map .c1
 |_,_,.no=>none
 |_,_,.undef=>none
def kill (mem:Mem)(k:Key):Mem:=a9 mem k (cy mem k) []
def yt (cs:List R):Bool:=cs.all λm=>(DQ m).isSome
inductive sL (mem:Mem):Mem->Prop
 |Ou (fH gq:Nat) (gr:List R) (i k g sz off len:Nat) (cs:List R) (k':Nat) (G:mem fH=some (gq,gr)) (J:gr[i]?=some (.ref k g sz off len)) (af:mem k=some (g,cs)) (aT:k≠fH) (bx:k'≠k) (b0:k'≠fH) :
   sL mem (a9 (a9 (a9 mem k (cy mem k) []) k' (cy mem k') cs) fH gq (gr.set i (.ref k' (cy mem k') sz off len)))
 |aeo (fH gq:Nat) (gr:List R) (i k g off:Nat) (cs:List R) (k':Nat) (G:mem fH=some (gq,gr)) (J:gr[i]?=some (.ptr k g off)) (af:mem k=some (g,cs)) (aT:k≠fH) (bx:k'≠k) (b0:k'≠fH) :
   sL mem (a9 (a9 (a9 mem k (cy mem k) []) k' (cy mem k') cs) fH gq (gr.set i (.ptr k' (cy mem k') off)))
 |Ov (fH gq:Nat) (gr:List R) (i k g sz off len:Nat) (cs:List R) (d:Data) (G:mem fH=some (gq,gr)) (J:gr[i]?=some (.ref k g sz off len)) (af:mem k=some (g,cs)) (aT:k≠fH) (bx:dz 1 mem (.ref k g sz off len)=some d) :
   sL mem (a9 (kill mem k) fH gq (gr.set i (.I d)))
inductive tR:Mem->Mem->Prop
 |refl (mem:Mem):tR mem mem
 |step {mem J8 aep:Mem} (h:sL mem J8) (cW:tR J8 aep):tR mem aep
def kn (K:bo->Prop)(st:bo):Oh->Prop
 |.mM s k sz=>match st.tm s with
  |.nil=>K ⟨eb st.tm s (.ref k (cy st.mem k) sz 0 0),a9 st.mem k (cy st.mem k) []⟩
  |_=>False
 |.BR x i k sz=>match bC st.tm x with
  |.ptr kc g off=>match st.mem kc with
   |some (eg,cs)=>if eg=g then (match cs[off+i]? with
    |some .nil=>if k≠kc then K ⟨st.tm,a9 (a9 st.mem k (cy st.mem k) []) kc g (cs.set (off+i) (.ref k (cy st.mem k) sz 0 0))⟩ else False
    |_=>False) else False
   |none=>False
  |_=>False
 |.freeze s=>match st.tm s with
  |.ref k g _ _ _=>match st.mem k with
   |some (eg,cs)=>if eg=g/\yt cs=true then (match dz 1 st.mem (st.tm s) with
    |some d=>K ⟨eb st.tm s (.I d),kill st.mem k⟩
    |none=>False) else False
   |none=>False
  |_=>False
 |.DP x i=>match bC st.tm x with
  |.ptr kc gc off=>match st.mem kc with
   |some (J9,cc)=>if J9=gc then (match cc[off+i]? with
    |some (.ref k g sz o len)=>match st.mem k with
     |some (eg,cs)=>if eg=g/\yt cs=true/\k≠kc then (match dz 1 st.mem (.ref k g sz o len) with
      |some d=>K ⟨st.tm,a9 (kill st.mem k) kc gc (cc.set (off+i) (.I d))⟩
      |none=>False) else False
     |none=>False
    |_=>False) else False
   |none=>False
  |_=>False
 |.move=>K st\/(∃fH gq gr i k g sz off len cs k',st.mem fH=some (gq,gr)/\gr[i]?=some (.ref k g sz off len)/\st.mem k=some (g,cs)/\k≠fH/\k'≠k/\k'≠fH /\
   K ⟨st.tm,a9 (a9 (a9 st.mem k (cy st.mem k) []) k' (cy st.mem k') cs) fH gq (gr.set i (.ref k' (cy st.mem k') sz off len))⟩) \/
   ∃fH gq gr i k g sz off len cs d,st.mem fH=some (gq,gr)/\gr[i]?=some (.ref k g sz off len)/\st.mem k=some (g,cs)/\yt cs=true/\k≠fH/\dz 1 st.mem (.ref k g sz off len)=some d /\
   K ⟨st.tm,a9 (kill st.mem k) fH gq (gr.set i (.I d))⟩
 |.many=>∃mem',tR st.mem mem'/\K ⟨st.tm,mem'⟩
def wp (T:bl):er->(eI->bo->Prop)->bo->Prop
 |.skip,K,st=>K .normal st
 |.ops l,K,st=>yr T (K .normal) l st
 |.mN l c,K,st=>wS T (K .normal) 0 l c (λ_=>none) st
 |.seq a b,K,st=>wp T a (λe ew=>match e with
  |.normal=>wp T b K ew
  |e=>K e ew) st
 |.cond c a b,K,st=>match bC st.tm c with
  |.I (.bool t)=>if t=true then wp T a K st else wp T b K st
  |_=>False
 |.block id c,K,st=>wp T c (λe ew=>match e with
  |.exit j=>if j=id then K .normal ew else K (.exit j) ew
  |e=>K e ew) st
 |.loop c,K,st=>∃(DT:bo->Prop) (μ:bo->Nat),DT st/\∀st,DT st->wp T c (λe ew=>match e with
  |.normal=>DT ew/\μ ew<μ st
  |e=>K e ew) st
 |.exit id,K,st=>K (.exit id) st
 |.ret,K,st=>K .ret st
 |.ghost g c,K,st=>kn (wp T c K) st g
def GA (st:bo):pv->Option R
 |.t s=>some (st.tm s)
 |.cell s n eM=>qQ st.mem n eM (st.tm s)
def qS (st:bo)(l:List pv):Option R :=
 match l.mapM (GA st) with
 |some [m]=>some m
 |some ms=>some (.c1 ms)
 |none=>none
def lk (args:List R):Nat->R:=λs=>match args[s]? with
 |some m=>m
 |none => .no
def Ka:Value->Option R
 |.int k n=>some (.I (.int k n))
 |.bool b=>some (.I (.bool b))
 |.string s=>some (.I (.str s.data.toList))
 |.slice none 0 0=>some .nil
 |.pointer none=>some (.I .vi)
 |.nilFunc=>some (.I .wP)
 |_=>none
def TP:Value->Option R
 |.agg cs=>(cs.toList.mapM Ka).map .agg
 |v=>Ka v
def eD:Operand->Option cv
 |.tmp t=>some (.t t)
 |.const v=>(TP v).map .c
 |.func f=>some (.c (.gK f []))
 |.global _=>none
def zeroOf (P:Program)(t:TypeId):Option (List R):=((P.info? t).bind (·.zero)).bind λz=>z.cells.toList.mapM Ka
def gM (P:Program)(t:TypeId):Option Nat:=(P.info? t).map (·.size)
def GC (P:Program)(t:TypeId):Option Nat:=(P.info? t).map (·.bytes)
def zS (P:Program)(t:TypeId):Option Bool:=(P.underlying t).map fun|.struct _=>true|.array _ _=>true|_=>false
def partsOf (place:Nat->Option (Nat×Nat))(l:List (Nat×Operand)):Option (List (Nat×Nat×cv)) :=
 l.mapM λ(i,x)=>do
  let (o,s) <-place i
  let y <-eD x
  pure (o,s,y)
def vm (P:Program)(eh:Array Field)(i:Nat):Option (Nat×Nat):=do
 let f <-eh[i]?
 let s <-gM P f.type
 pure (f.offset,s)
def Kb (P:Program)(t:TypeId):Option Nat :=
 match P.underlying t with
 |some .bool=>some 0
 |some (.int _)=>some 1
 |some .string=>some 2
 |_=>none
def GD (P:Program):Nat->List Field->Option (List Nat)
 |_,[]=>some []
 | i, f :: r => if f.name ≠ "_" /\ f.offset = i then (match Kb P f.type, GD P (i + 1) r with
  |some k,some g1=>some (k::g1)
  |_,_=>none) else none
def zT (P:Program)(t:TypeId)(eh:Array Field)(neg:Bool)(x y:Operand):Option kl :=
 if P.stoodInHeld t=false/\P.eqGuardType P.depth t=false then (match GD P 0 eh.toList,eD x,eD y with
  |some g1,some x,some y=>some (.eqs neg g1 x y)
  |_,_,_=>none) else none
def TQ:Operand->Bool
 |.const (.slice none 0 0)=>true
 |_=>false
def DU (P:Program)(op:BinOp)(t:TypeId)(x y:Operand):Option kl :=
 match P.underlying t with
 |some (.int _)=>match eD x,eD y with
  |some x,some y=>some (.bin op x y)
  |_,_=>none
 |some .string=>match eD x,eD y with
  |some x,some y=>some (.bin op x y)
  |_,_=>none
 |some .bool=>match op,eD x,eD y with
  |.eql,some x,some y=>some (.beq false x y)
  |.neq,some x,some y=>some (.beq true x y)
  |_,_,_=>none
 |some (.struct eh)=>match op with
  |.eql=>zT P t eh false x y
  |.neq=>zT P t eh true x y
  |_=>none
 |some (.slice _)=>if TQ y=true then (match op with
  |.eql=>(eD x).map (.rK false)
  |.neq=>(eD x).map (.rK true)
  |_=>none) else none
 |_=>none
def tS:Option Operand->Option (Option cv)
 |none=>some none
 |some x=>(eD x).map some
def BX (P:Program)(kb:Nat)(own:List Nat)(dst:Option Nat)(type:TypeId)(c:Call):Option kl :=
 match c.callee,c.args.toList,c.argTypes.toList with
 |.builtin .len,[x],[t]=>match P.underlying t with
  |some (.slice _)=>(eD x).map .len
  |some .string=>(eD x).map .lens
  |_=>none
 |.builtin .append,[s,x],[t,u]=>match P.underlying t,P.underlying u with
  |some (.slice e),some (.slice _)=>do
   let z <-zeroOf P e
   let b <-GC P e
   let n <-gM P e
   let d <-dst
   let s <-eD s
   let x <-eD x
   if (D z)=n/\0<n/\t=u then pure (.app (kb+d) z b s x) else none
  |_,_=>none
 |.builtin .copy,[d,x],[t,u]=>match P.underlying t,P.underlying u with
  |some (.slice e),some (.slice _)=>do
   let n <-gM P e
   if 0<n then pure (.sK n (<-eD d) (<-eD x)) else none
  |_,_=>none
 |.builtin .max,[x,y],_=>do pure (.jx true (<-eD x) (<-eD y))
 |.builtin .min,[x,y],_=>do pure (.jx false (<-eD x) (<-eD y))
 |.value (.func f),l,_=>if dst.any (λd=>own.contains d) then (match P.underlying type with
   |some (.slice e)=>do pure (.oO (kb+(<-dst)) (<-gM P e) f (<-l.mapM eD))
   |_=>none) else match own.find? (λo=>decide (1000000<=o)&&dst==some (o%1000000)) with
   |some o=>do pure (.mL (o/1000000-1) f (<-l.mapM eD))
   |none=>do pure (.call f (<-l.mapM eD))
 |.value f,l,_=>do pure (.mK (<-eD f) (<-l.mapM eD))
 |_,_,_=>none
def mO (P:Program)(kb:Nat)(own:List Nat)(dst:Option Nat)(type:TypeId):Op->Option kl
 |.move x=>(eD x).map .bT
 |.assign x=>(eD x).map .bT
 |.pick c a b=>do pure (.pick (<-eD c) (<-eD a) (<-eD b))
 |.alloc e=>do pure (.alloc (kb+(<-dst)) (<-zeroOf P e))
 |.box _ x=>do pure (.box (kb+(<-dst)) (<-eD x))
 |.build t dP=>match P.underlying t with
  |some (.struct eh)=>if (eh.toList.all λf=>(gM P f.type).isSome)=true then do pure (.build (<-zeroOf P t) (<-partsOf (vm P eh) dP.toList)) else none
  |some (.array _ e)=>do
   let s <-gM P e
   pure (.build (<-zeroOf P t) (<-partsOf (λi=>some (i*s,s)) dP.toList))
  |_=>none
 |.buildSlice t len dP=>match P.underlying t with
  |some (.slice e)=>do
   let z <-zeroOf P e
   let s <-gM P e
   let dP <-partsOf (λi=>some (i*s,s)) dP.toList
   let d <-dst
   if (D z)=s/\0<s/\len*s<=16777216 then pure (.dU (kb+d) (own.contains d) ((et len z).flatten) s len dP) else none
  |_=>none
 |.load t x=>do pure (.load (<-gM P t) (<-zS P t) (<-eD x))
 |.store t x v=>do pure (.store (<-gM P t) (<-eD x) (<-eD v))
 |.binOp op t x y _=>DU P op t x y
 |.unOp op _ x=>(eD x).map (.un op)
 |.nilCheck x=>(eD x).map .nv
 |.convert s t x=>match P.underlying s,P.underlying t with
  |some (.int _),some (.int k)=>(eD x).map (.conv k)
  |_,_=>none
 |.makeFunc (.func f) fst hb=>if fst.size=0 then do pure (.wQ f (<-hb.toList.mapM eD)) else none
 |.makeSlice t l c=>match P.underlying t with
  |some (.slice e)=>do
   let z <-zeroOf P e
   let s <-gM P e
   let b <-GC P e
   let d <-dst
   if (D z)=s/\0<s then pure (.lg (kb+d) z b (<-eD l) (<-eD c)) else none
  |_=>none
 |.slice t x cY Q km=>match P.underlying t with
  |some (.slice e)=>do
   let s <-gM P e
   if 0<s then pure (.tP s (<-eD x) (<-tS cY) (<-tS Q) (<-tS km)) else none
  |some (.array n e)=>do
   let s <-gM P e
   if 0<s/\n<=16777216 then pure (.tQ n s (<-eD x) (<-tS cY) (<-tS Q) (<-tS km)) else none
  |some .string=>if km.isNone then do pure (.Og (<-eD x) (<-tS cY) (<-tS Q)) else none
  |_=>none
 |.fieldAddr t x f=>match P.underlying t with
  |some (.struct eh)=>do
   let (o,s) <-vm P eh f
   if 0<s then pure (.dt o (<-eD x)) else none
  |_=>none
 |.field t x f=>match P.underlying t with
  |some (.struct eh)=>do
   let fd <-eh[f]?
   let (o,s) <-vm P eh f
   pure (.Of o s (<-zS P fd.type) (<-eD x))
  |_=>none
 |.indexAddr t x i=>match P.underlying t with
  |some (.slice e)=>do
   let s <-gM P e
   if 0<s then pure (.ht s (<-eD x) (<-eD i)) else none
  |some (.array n e)=>do
   let s <-gM P e
   if 0<s then pure (.pt n s (<-eD x) (<-eD i)) else none
  |_=>none
 |.index t x i=>match P.underlying t with
  |some .string=>do pure (.idxs (<-eD x) (<-eD i))
  |_=>none
 |.extract x i=>(eD x).map (.ext i)
 |.call c=>BX P kb own dst type c
 |_=>none
def Kc (ops:Array Oper):Option (Nat×Bool)->Option (Option (Nat×Bool))
 |none=>some none
 |some (j,b)=>match (ops[j]?).bind (·.dst) with
  |some s=>some (some (s,b))
  |none=>none
def BZ (P:Program)(n kb:Nat)(own:List Nat)(ops:Array Oper)(o:Oper):Option du :=
 match Kc ops o.guard with
 |some g=>if o.dst.all (λd=>decide (d<n))=true then some ⟨o.dst,g,(mO P kb own o.dst o.type o.op).getD .bad⟩ else none
 |_=>none
def sM (m:kl):Nat:=match m with
 |.load ..=>1
 |.tQ ..=>1
 |m=>if j2 m=true then 2 else 0
def zU (a b:Nat):Bool:=a==0||b==0||(a==1&&b==1)
def fR:cv->List Nat
 |.t s=>[s]
 |.c _=>[]
def yu:Option cv->List Nat
 |some (.t s)=>[s]
 |_=>[]
def yv:kl->List Nat
 |.bT x=>fR x
 |.pick c a b=>fR c++fR a++fR b
 |.alloc _ _=>[]
 |.box _ x=>fR x
 |.build _ dP=>dP.flatMap λp=>fR p.2.2
 |.dU _ _ _ _ _ dP=>dP.flatMap λp=>fR p.2.2
 |.load _ _ x=>fR x
 |.store _ x v=>fR x++fR v
 |.bin _ x y=>fR x++fR y
 |.beq _ x y=>fR x++fR y
 |.eqs _ _ x y=>fR x++fR y
 |.rK _ x=>fR x
 |.un _ x=>fR x
 |.conv _ x=>fR x
 |.nv x=>fR x
 |.lg _ _ _ x y=>fR x++fR y
 |.dt _ x=>fR x
 |.Of _ _ _ x=>fR x
 |.ht _ x i=>fR x++fR i
 |.pt _ _ x i=>fR x++fR i
 |.idxs x i=>fR x++fR i
 |.tP _ x a b c=>fR x++yu a++yu b++yu c
 |.tQ _ _ x a b c=>fR x++yu a++yu b++yu c
 |.Og x a b=>fR x++yu a++yu b
 |.ext _ x=>fR x
 |.len x=>fR x
 |.lens x=>fR x
 |.app _ _ _ s x=>fR s++fR x
 |.sK _ s x=>fR s++fR x
 |.jx _ x y=>fR x++fR y
 |.call _ l=>l.flatMap fR
 |.oO _ _ _ l=>l.flatMap fR
 |.mK f l=>fR f++l.flatMap fR
 |.mL _ _ l=>l.flatMap fR
 |.wQ _ l=>l.flatMap fR
 |.bad=>[]
def B0 (i:du):List Nat:=yv i.op++(match i.g with|some (s,_)=>[s]|none=>[])
def yw (x y:du):Bool :=
 (
  match x.dst with
  |some d => !(B0 y).contains d&&y.dst != some d
  |none=>true) &&
 (
  match y.dst with
  |some d => !(B0 x).contains d
  |none=>true)
def qT:List Oper->List Nat->List Nat
 | [],acc=>acc
 |o::r,acc=>qT r (acc++[o.after.toList.foldl (λs e=>if Region.binds .any e=true then s ||| (2^e.on ||| acc.getD e.on 0) else s) 0])
def GF:List du->List du->List Nat->Bool
 |_,[],_=>true
 |pre,c::cs,a::as=>(pre.zipIdx.all λ(p,i)=>a.testBit i||yw p c)&&GF (pre++[c]) cs as
 |_,_::_,[]=>false
def GG:Nat->List Oper->Bool
 |_,[]=>true
 |n,o::r=>(o.after.all λe => !Region.binds .any e||decide (e.on<n))&&GG (n+1) r
def GH (ops:Array Oper)(l:List du):Bool:=GG 0 ops.toList&&GF [] l (qT ops.toList [])
def zV:List du->List du->List Nat->List (List Nat)
 |_,[],_=>[]
 |pre,c::cs,as=>((pre.zipIdx.filter λ(p,i) => !((as.headD 0).testBit i||zU (sM p.op) (sM c.op))).map (·.2))::zV (pre++[c]) cs as.tail
def qU (P:Program)(n kb:Nat)(own:List Nat):Code->Option er
 |.skip=>some .skip
 |.region _ ops draw=>match ops.toList.mapM (BZ P n kb own ops) with
  |some l=>if draw=true then (if GH ops l=true then some (.mN l (zV [] l (qT ops.toList []))) else none) else some (.ops l)
  |none=>none
 |.seq a b=>match qU P n kb own a,qU P n kb own b with
  |some x,some y=>some (.seq x y)
  |_,_=>none
 |.cond c a b=>match eD c,qU P n kb own a,qU P n kb own b with
  |some c,some x,some y=>some (.cond c x y)
  |_,_,_=>none
 |.block id c=>(qU P n kb own c).map (.block id)
 |.loop c=>(qU P n kb own c).map .loop
 |.exit id=>some (.exit id)
 |.ret=>some .ret
 |_=>none
def GI (P:Program):ResultVar->Option pv
 |.tmp t=>some (.t t)
 |.cell a t=>match gM P t,zS P t with
  |some s,some g=>some (.cell a s g)
  |_,_=>none
def sN (P:Program)(kb:Nat)(own:List Nat)(f:Func):Option bZ :=
 match f.body with
 |none=>none
 |some c=>match qU P f.ntmps kb own c,f.results.toList.mapM (GI P) with
  |some b,some r=>some { n:=f.ntmps,apj:=f.params.size+f.nfree,res:=r,body:=b }
  |_,_=>none
structure fl (A:Nat->Prop) (w:World) (B:fu) (a1:World) (bQ:fu) (mem':Mem):Prop where
 eX:ga A a1 bQ mem'
 nw:Trans A w B a1 bQ
 aK:Fr (sJ B) w a1
 fresh:∀b,sJ bQ b->sJ B b\/w.heap.size<=b
theorem fl.still {A:Nat->Prop}{w a1:World}{B:fu}{mem:Mem}(h:ga A w B mem)(f:Fr (λ_=>False) w a1):fl A w B a1 B mem:=by
 have nw:Trans A w B a1 B:=⟨f.size,λb ah bS=>⟨f.block b ah id,λM=>bS (.inl M)⟩,λ_ e he=>⟨e,he,.inl rfl⟩⟩;refine⟨⟨h.BP,h.inj,h.sep,λb ah=>DO (h.lt b ah) f.size,λk g cs hm=>?_⟩,nw,⟨f.os,f.tape,f.output,f.size,λb ah _=>f.block b ah id⟩,λb ah => .inl ah⟩;obtain⟨e,he,bz,aM,ah⟩:=h.eo k g cs hm;refine⟨e,he,bz,aM,λb kT=>?_⟩;obtain⟨vs,T,G,J,af,aT⟩:=ah b kT;have az:b<w.heap.size:=(Array.getElem?_eq_some_iff.1 G).1;exact⟨vs,T,(f.block b az id).trans G,J,af,λi m hm=>let ⟨v,aD,Y⟩:=aT i m hm;⟨v,aD,Y.sI nw⟩⟩
theorem fl.refl {A:Nat->Prop}{w:World}{B:fu}{mem:Mem}(h:ga A w B mem):fl A w B w B mem:=.still h (Fr.refl _ _)
def hn (B:fu)(k:Key)(e:mJ):fu:=λj=>if j=k then some e else B j
theorem hG (B:fu)(k:Key)(e:mJ):hn B k e k=some e:=by simp[hn]
theorem hv (B:fu){k j:Key}(e:mJ)(h:j≠k):hn B k e j=B j:=by simp[hn,h]
section
variable {A:Nat->Prop} {w a1:World} {B:fu} {mem:Mem} {k:Key} {e':mJ} {cs:List R}
theorem Trans.change (fg:w.heap.size<=a1.heap.size)
  (hold:∀b,b<w.heap.size->(∀e,B k=some e->e.eo≠some b)->a1.heap[b]?=w.heap[b]?)
  (bz:∀e,B k=some e->e'=e\/e.g<e'.g)
  (gh:∀b,e'.eo=some b->w.heap.size<=b\/∃e,B k=some e/\e.eo=some b):Trans A w B a1 (hn B k e'):=by
 refine⟨fg,λb ah bS=>⟨hold b ah λe he M=>bS (.inl ⟨k,e,he,M⟩),?_⟩,λj e he=>?_⟩
 ·rintro⟨j,e,he,M⟩
  by_cases aA:j=k
  ·subst aA;rw[hG] at he
   cases he;rcases gh b M with G|⟨e,G,J⟩
   ·omega
   ·exact bS (.inl ⟨_,e,G,J⟩)
  ·rw[hv B e' aA] at he;exact bS (.inl ⟨j,e,he,M⟩)
 ·by_cases aA:j=k
  ·subst aA;exact⟨e',hG _ _ _,bz e he⟩
  ·exact⟨e,(hv B e' aA).trans he,.inl rfl⟩
theorem TR (gh:∀b,e'.eo=some b->w.heap.size<=b\/∃e,B k=some e/\e.eo=some b)(b:Nat)(h:sJ (hn B k e') b):sJ B b\/w.heap.size<=b:=by
 obtain⟨j,e,he,M⟩:=h
 by_cases aA:j=k
 ·subst aA;rw[hG] at he
  cases he;rcases gh b M with G|⟨e,G,J⟩
  ·exact .inr G
  ·exact .inl ⟨_,e,G,J⟩
 ·rw[hv B e' aA] at he;exact .inl ⟨j,e,he,M⟩
theorem ga.aeq (h:ga A w B mem)(fg:w.heap.size<=a1.heap.size)
  (hold:∀b,b<w.heap.size->(∀e,B k=some e->e.eo≠some b)->a1.heap[b]?=w.heap[b]?)
  (bz:∀e,B k=some e->e'=e\/e.g<e'.g)
  (gh:∀b,e'.eo=some b->w.heap.size<=b\/∃e,B k=some e/\e.eo=some b)
  (aM:e'.eo=none->cs=[])
  (H:∀b,e'.eo=some b->∃vs T,a1.heap[b]?=some (.cells vs T (0,0))/\vs.size=e'.size/\D cs<=vs.size /\
   ∀(i:Nat) (m:R),cs[i]?=some m->∃v,vs[i]?=some v/\bN a1 (cV A (hn B k e')) (hn B k e') m v):ga A a1 (hn B k e') (a9 mem k e'.g cs):=by
 have nw:Trans A w B a1 (hn B k e'):=Trans.change fg hold bz gh;have fresh:=TR (w:=w) gh;refine⟨λj aA=>?_,λj nx e aB b he fG ah e5=>?_,λb aW bS=>?_,λb ah=>DO (h.lt b ah) fg,λj g qV hm=>?_⟩
 ·by_cases fY:j=k
  ·subst fY;simp[a9] at aA
  ·simp only[a9,fY,if_false] at aA;rw[hv B e' fY];exact h.BP j aA
 ·by_cases fY:j=k<;>by_cases hjk':nx=k
  ·rw[fY,hjk']
  ·subst fY;rw[hG] at he
   cases he;rw[hv B e' hjk'] at fG;rcases gh b ah with G|⟨e,G,J⟩
   ·have:=h.BQ ⟨nx,aB,fG,e5⟩;omega
   ·exact h.inj _ _ e aB b G fG J e5
  ·subst hjk';rw[hG] at fG
   cases fG;rw[hv B e' fY] at he;rcases gh b e5 with G|⟨bp,G,J⟩
   ·have:=h.BQ ⟨j,e,he,ah⟩;omega
   ·exact h.inj _ _ e bp b he G ah J
  ·rw[hv B e' fY] at he;rw[hv B e' hjk'] at fG;exact h.inj j nx e aB b he fG ah e5
 ·rcases fresh b bS with G|G
  ·exact h.sep b aW G
  ·have:=h.lt b aW;omega
 ·by_cases fY:j=k
  ·subst fY;simp only[a9,if_true,cL,fS] at hm;obtain⟨rfl,rfl⟩:=hm;refine⟨e',hG _ _ _,rfl,aM,λb ah=>?_⟩;obtain⟨vs,T,G,J,af,aT⟩:=H b ah;exact⟨vs,T,G,J,af,aT⟩
  ·simp only[a9,fY,if_false] at hm;obtain⟨e,he,TS,apk,mP⟩:=h.eo j g qV hm;refine⟨e,(hv B e' fY).trans he,TS,apk,λb ah=>?_⟩;obtain⟨vs,T,G,J,af,aT⟩:=mP b ah;have az:b<w.heap.size:=(Array.getElem?_eq_some_iff.1 G).1;have sO:a1.heap[b]?=w.heap[b]?:=hold b az λbp af aT=>fY (h.inj j k e bp b he af ah aT);exact⟨vs,T,sO.trans G,J,af,λi m hm=>let ⟨v,aD,Y⟩:=aT i m hm;⟨v,aD,Y.sI nw⟩⟩
theorem ga.change (h:ga A w B mem)(fg:w.heap.size<=a1.heap.size)
  (hold:∀b,b<w.heap.size->(∀e,B k=some e->e.eo≠some b)->a1.heap[b]?=w.heap[b]?)
  (bz:∀e,B k=some e->e'=e\/e.g<e'.g)
  (gh:∀b,e'.eo=some b->w.heap.size<=b\/∃e,B k=some e/\e.eo=some b)
  (aM:e'.eo=none->cs=[])
  (H:∀b,e'.eo=some b->∃vs T,a1.heap[b]?=some (.cells vs T (0,0))/\vs.size=e'.size/\D cs<=vs.size /\
   ∀(i:Nat) (m:R),cs[i]?=some m->∃v,vs[i]?=some v/\bN w (cV A B) B m v):ga A a1 (hn B k e') (a9 mem k e'.g cs) :=
 h.aeq fg hold bz gh aM λb ah=>by
  have nw:Trans A w B a1 (hn B k e'):=Trans.change fg hold bz gh;obtain⟨vs,T,G,J,af,aT⟩:=H b ah;exact⟨vs,T,G,J,af,λi m hm=>let ⟨v,aD,Y⟩:=aT i m hm;⟨v,aD,Y.sI nw⟩⟩
theorem fl.change (h:ga A w B mem)(f:Fr (λb=>∃e,B k=some e/\e.eo=some b) w a1)
  (bz:∀e,B k=some e->e'=e\/e.g<e'.g)
  (gh:∀b,e'.eo=some b->w.heap.size<=b\/∃e,B k=some e/\e.eo=some b)
  (aM:e'.eo=none->cs=[])
  (H:∀b,e'.eo=some b->∃vs T,a1.heap[b]?=some (.cells vs T (0,0))/\vs.size=e'.size/\D cs<=vs.size /\
   ∀(i:Nat) (m:R),cs[i]?=some m->∃v,vs[i]?=some v/\bN w (cV A B) B m v):fl A w B a1 (hn B k e') (a9 mem k e'.g cs):=by
 have hold:∀b,b<w.heap.size->(∀e,B k=some e->e.eo≠some b)->a1.heap[b]?=w.heap[b]? :=
  λb ah M=>f.block b ah fun⟨e,he,kT⟩=>M e he kT
 exact⟨h.change f.size hold bz gh aM H,Trans.change f.size hold bz gh,⟨f.os,f.tape,f.output,f.size,λb ah bS=>f.block b ah fun⟨e,he,kT⟩=>bS ⟨k,e,he,kT⟩⟩,TR gh⟩
theorem GJ (h:ga A w B mem)(k:Key)(e:mJ)(he:B k=some e):e.g<cy mem k:=by
 cases hm:mem k with
 |none=>rw[h.BP k hm] at he;cases he
 |some x =>
  obtain⟨g,cs⟩:=x;obtain⟨aB,G,J,_⟩:=h.eo k g cs hm;rw[G] at he
  cases he;simp[cy,hm,J]
theorem fl.alloc (h:ga A w B mem)(w1:World)(f:Fr (λ_=>False) w w1)(a3:w1.heap.size=w.heap.size)(k:Key)(vs:Array Value)(T:TypeId)(aw:(D cs)<=vs.size)
  (H:∀(i:Nat) (m:R),cs[i]?=some m->∃v,vs[i]?=some v/\bN w (cV A B) B m v) :
  fl A w B (w1.alloc (.cells vs T)) (hn B k ⟨cy mem k,some w.heap.size,vs.size⟩) (a9 mem k (cy mem k) cs):=by
 have f2:Fr (λ_=>False) w (w1.alloc (.cells vs T)):=f.alloc _;refine fl.change (e':=⟨cy mem k,some w.heap.size,vs.size⟩) h ⟨f2.os,f2.tape,f2.output,f2.size,λb ah _=>f2.block b ah id⟩ (λe he => .inr (GJ h k e he)) (λb ah => .inl ?_) (by simp) ?_
 ·simp at ah;omega
 ·intro b ah;simp at ah;subst ah;exact⟨vs,T,by rw[<-a3];exact heap_alloc_new w1 _,rfl,aw,H⟩
theorem fl.zW (h:ga A w B mem)(k:Key):fl A w B w (hn B k ⟨cy mem k,none,0⟩) (a9 mem k (cy mem k) []) :=
 fl.change (e':=⟨cy mem k,none,0⟩) h ⟨rfl,rfl,rfl,cH _,λ_ _ _=>rfl⟩ (λe he => .inr (GJ h k e he)) (λb ah=>by simp at ah) (λ_=>rfl) (λb ah=>by simp at ah)
end
theorem fl.trans {A:Nat->Prop}{w w1 rJ:World}{B DM DN:fu}{ea b7:Mem}(h:fl A w B w1 DM ea)(cW:fl A w1 DM rJ DN b7):fl A w B rJ DN b7:=by
 refine⟨cW.eX,h.nw.trans cW.nw,⟨cW.aK.os.trans h.aK.os,cW.aK.tape.trans h.aK.tape,cW.aK.output.trans h.aK.output,e4 h.aK.size cW.aK.size,λb ah bS=>?_⟩,λb ah=>?_⟩
 ·have G:=h.aK.block b ah bS;refine (cW.aK.block b (DO ah h.aK.size) λM=>?_).trans G;rcases h.fresh b M with J|J
  ·exact bS J
  ·omega
 ·rcases cW.fresh b ah with G|G
  ·exact h.fresh b G
  ·exact .inr (e4 h.aK.size G)
theorem TT {w:World}{a2:Nat->Prop}{B:fu}{v:Value}{m:R}(h:Ka v=some m):bN w a2 B m v:=by
 unfold Ka at h
 split at h<;>simp only[cL,reduceCtorEq] at h<;>subst h
 ·exact .I .int
 ·exact .I .bool
 ·rename_i s
  exact .I (by
   have:s=⟨s.data.toList.toArray⟩:=by simp
   rw[this]
   simpa using Den.str (s:=s.data.toList))
 ·exact .nil
 ·exact .I .vi
 ·exact .I .wP
theorem oP {α β:Type}{f:α->Option β}:∀{l:List α} {r:List β},l.mapM f=some r->(D r)=D l/\∀(i:Nat) (x:α) (y:β),l[i]?=some x->r[i]?=some y->f x=some y
 | [],r,h=>by
  simp at h;subst h;exact⟨rfl,λi x y G=>by simp at G⟩
 |a::l,r,h=>by
  simp only[ny,hH,hT,fa,cL] at h;obtain⟨b,ah,zX,Y,rfl⟩:=h;obtain⟨G,J⟩:=oP Y;refine⟨by simp[G],λi x y M aj=>?_⟩
  cases i with
  |zero=>simp at M aj;subst M;subst aj;exact ah
  |succ i=>exact J i x y (by simpa using M) (by simpa using aj)
theorem apl {w:World}{a2:Nat->Prop}{B:fu}{v:Value}{m:R}(h:TP v=some m):bN w a2 B m v:=by
 unfold TP at h
 split at h
 ·rename_i cs;simp only[e1] at h;obtain⟨ms,aH,rfl⟩:=h;obtain⟨G,J⟩:=oP aH;have:=bN.agg (w:=w) (a2:=a2) (B:=B) (cs:=ms) (vs:=cs.toList) (by simp[G]) λi d v ab aD=>TT (J i v d aD ab)
  simpa using this
 ·exact TT h
section
variable {P:Program} {w:World} {a2:Nat->Prop} {B:fu}
theorem bN.yx {k:IntKind}{n:Int}{v:Value}(h:bN w a2 B (.I (.int k n)) v):v=.int k n:=by
 cases h with
 |I h=>cases h;rfl
theorem bN.DV {b:Bool}{v:Value}(h:bN w a2 B (.I (.bool b)) v):v=.bool b:=by
 cases h with
 |I h=>cases h;rfl
theorem bN.DW {s:List UInt8}{v:Value}(h:bN w a2 B (.I (.str s)) v):v=.string ⟨s.toArray⟩:=by
 cases h with
 |I h=>cases h;rfl
theorem bN.ofInt {k:IntKind}{n:Int}:bN w a2 B (.I (.int k n)) (.int k n):=.I .int
theorem apm {op:BinOp}{k:IntKind}{a b:Int}{d:Data}(t:TypeId)(U:Gt op=false)(h:Oi op k a b=some d):
  ∃v,(binOp op t (.int k a) (.int k b)).run P w=.ok v w/\Den w a2 d v:=by
 cases op<;>simp only[Oi,cL,reduceCtorEq] at h<;>simp only[Gt,Bool.true_eq_false] at U
 case quo =>
  split at h
  ·cases h
  ·rename_i ah
   cases h;exact⟨_,by simp[go_sem,Op.intDiv,ah],.int⟩
 case rem =>
  split at h
  ·cases h
  ·rename_i ah
   cases h;exact⟨_,by simp[go_sem,Op.intDiv,ah],.int⟩
 all_goals
  subst h
  first
   |exact⟨_,by simp[go_sem,Op.intArith],.int⟩
   |exact⟨_,by simp[go_sem],.int⟩
   |exact⟨_,by simp[go_sem],.bool⟩
theorem apn {op:BinOp}{k k':IntKind}{a b:Int}{d:Data}(t:TypeId)(U:Gt op=true)(h:Oj op k a b=some d):
  ∃v,(binOp op t (.int k a) (.int k' b)).run P w=.ok v w/\Den w a2 d v:=by
 unfold Oj at h
 split at h
 ·cases h
 ·rename_i ah
  cases op<;>simp only[Gt,j3] at U
  ·simp only[cL] at h;subst h;exact⟨.int k _,by simp[binOp,Op.shift,ah],.int⟩
  ·simp only[cL] at h;subst h;exact⟨.int k _,by simp[binOp,Op.shift,ah],.int⟩
theorem Ow {op:BinOp}{t:TypeId}{x y:Operand}{u v:Value}(G:u ≠ .nilIface)(J:∀c,u ≠ .agg c):eqGuard op t x y u v=pure ():=by
 unfold eqGuard
 cases op<;>cases u<;>first|rfl|exact absurd rfl G|exact absurd rfl (J _)
theorem apo {op:BinOp}{a b:List UInt8}{d:Data}(t:TypeId)(h:Ok op a b=some d):
  ∃v,(binOp op t (.string ⟨a.toArray⟩) (.string ⟨b.toArray⟩)).run P w=.ok v w/\Den w a2 d v:=by
 have apq:binOp op t (.string ⟨a.toArray⟩) (.string ⟨b.toArray⟩)=Op.stringOp op ⟨a.toArray⟩ ⟨b.toArray⟩:=by
  cases op<;>rfl
 rw[apq]
 cases op<;>simp only[Ok,cL,reduceCtorEq] at h
 case add =>
  split at h
  ·rename_i aw
   cases h;refine⟨.string ⟨(a++b).toArray⟩,?_,.str⟩;have B1:¬ (9223372036854775807<(D a:Int)+(D b:Int)):=by unfold maxLen at aw;omega
   have av:(ByteArray.mk a.toArray).size=D a:=by simp[ByteArray.size]
   have aB:(ByteArray.mk b.toArray).size=D b:=by simp[ByteArray.size]
   have zY:(ByteArray.mk a.toArray)++(ByteArray.mk b.toArray)=⟨(a++b).toArray⟩:=by
    apply ByteArray.ext;simp
   simp[Op.stringOp,av,aB,B1,zY]
  ·cases h
 all_goals
  subst h;exact⟨_,by simp[Op.stringOp],.bool⟩
theorem aer {op:BinOp}{m n r:R}{u v:Value}(t:TypeId)(x y:Operand)(hm:bN w a2 B m u)(aM:bN w a2 B n v)(h:JT op m n=some r):
  ∃z,((do eqGuard op t x y u v;binOp op t u v:Sem Value)).run P w=.ok z w/\bN w a2 B r z:=by
 unfold JT at h
 split at h
 ·rename_i k a k' b
  cases hm.yx
  cases aM.yx;rw[Ow (by simp) (by simp)]
  split at h
  ·rename_i U;simp only[e1] at h;obtain⟨d,ab,rfl⟩:=h;obtain⟨z,G,J⟩:=apn (P:=P) (w:=w) (a2:=a2) (k':=k') t U ab;exact⟨z,by simpa using G,.I J⟩
  ·rename_i U
   split at h
   ·rename_i L;subst L;simp only[e1] at h;obtain⟨d,ab,rfl⟩:=h;obtain⟨z,G,J⟩:=apm (P:=P) (w:=w) (a2:=a2) t (by simpa using U) ab;exact⟨z,by simpa using G,.I J⟩
   ·cases h
 ·rename_i a b
  cases hm.DW
  cases aM.DW;rw[Ow (by simp) (by simp)];simp only[e1] at h;obtain⟨d,ab,rfl⟩:=h;obtain⟨z,G,J⟩:=apo (P:=P) (w:=w) (a2:=a2) t ab;exact⟨z,by simpa using G,.I J⟩
 ·cases h
theorem aes {neg:Bool}{m n r:R}{u v:Value}(t:TypeId)(x y:Operand)(ca:P.underlying t=some .bool)(hm:bN w a2 B m u)(aM:bN w a2 B n v)(h:JU neg m n=some r):
  ∃z,((do eqGuard (if neg then .neq else .eql) t x y u v;binOp (if neg then .neq else .eql) t u v:Sem Value)).run P w=.ok z w/\bN w a2 B r z:=by
 unfold JU at h
 split at h
 ·rename_i a b
  cases hm.DV
  cases aM.DV
  cases h;rw[Ow (by simp) (by simp)]
  cases neg
  ·exact⟨.bool (a==b),by simp[run_eql_bool w t a b ca],by cases a<;>cases b<;>exact .I .bool⟩
  ·exact⟨.bool (!(a==b)),by simp[run_neq_bool w t a b ca],by cases a<;>cases b<;>exact .I .bool⟩
 ·cases h
theorem apr {t:TypeId}{k:Nat}{m n:R}{c:Bool}{u v:Value}(d:Nat)(L:Kb P t=some k)(hm:bN w a2 B m u)(aM:bN w a2 B n v)(h:Ol k m n=some c):
  (Op.equalIn (d+1) t u v).run P w=.ok c w:=by
 unfold Kb at L;unfold Ol at h
 split at h
 ·simp only[cL] at h
  cases hm.DV
  cases aM.DV;subst h
  split at L<;>first|(exfalso;simp at L;done)|(rename_i hu;exact run_equalIn_bool w d t _ _ hu)
 ·split at h
  ·rename_i Kd;subst Kd
   cases hm.yx
   cases aM.yx
   cases h
   split at L<;>first|(exfalso;simp at L;done)|(rename_i hu;exact run_equalIn_int w d t _ _ _ _ hu)
  ·cases h
 ·simp only[cL] at h
  cases hm.DW
  cases aM.DW;subst h
  split at L<;>first|(exfalso;simp at L;done)|(rename_i hu;rw[run_equalIn_string w d t _ _ hu];simp)
 ·cases h
theorem aps {t:TypeId}{k:Nat}(h:Kb P t=some k):(isAgg t).run P w=.ok false w:=by
 unfold Kb at h
 split at h<;>simp only[cL,reduceCtorEq] at h<;>(rename_i hu;simp[isAgg,run_underlying hu])
theorem aet {d:Nat}{xs ys:Array Value}{cs ds:List R}(M:∀(i:Nat) (m:R) (v:Value),cs[i]?=some m->xs[i]?=some v->bN w a2 B m v)(vn:xs.size=D cs)
  (aj:∀(i:Nat) (m:R) (v:Value),ds[i]?=some m->ys[i]?=some v->bN w a2 B m v) (DX:ys.size=D ds) :
  ∀(eh:List Field) (i:Nat) (g1:List Nat) (c:Bool),GD P i eh=some g1->BS g1 (cs.drop i) (ds.drop i)=some c->(Op.eqFields (d+1) xs ys eh).run P w=.ok c w
 | [],i,g1,c,aC,H=>by
  simp[GD] at aC;subst aC
  cases G:cs.drop i<;>cases J:ds.drop i<;>simp[G,J,BS] at H;subst H;simp[Op.eqFields]
 |f::r,i,g1,c,aC,H=>by
  simp only[GD] at aC
  split at aC
  ·rename_i aM;obtain⟨wT,vo⟩:=aM
   split at aC
   ·rename_i k apt L apu
    cases aC
    cases G:cs.drop i with
    |nil=>simp[G,BS] at H
    |cons a x =>
     cases J:ds.drop i with
     |nil=>simp[G,J,BS] at H
     |cons b y =>
      rw[G,J] at H;simp only[BS] at H
      split at H
      ·rename_i aq c2 gb zZ
       cases H
       have oc:i<D cs:=by
        rcases g2 i (D cs) with h|h
        ·exact h
        ·rw[lO h] at G;cases G
       have rP:i<D ds:=by
        rcases g2 i (D ds) with h|h
        ·exact h
        ·rw[lO h] at J;cases J
       rw[h9 oc] at G;rw[h9 rP] at J
       injection G with aW Ox
       injection J with ah apv
       subst aW;subst ah;subst Ox;subst apv
       have ex:xs[f.offset]?=some (xs[i]'(by omega)):=by rw[vo];exact Array.getElem?_eq_getElem (by omega)
       have yy:ys[f.offset]?=some (ys[i]'(by omega)):=by rw[vo];exact Array.getElem?_eq_getElem (by omega)
       have rx:=M i _ _ (bq oc) (Array.getElem?_eq_getElem (by omega:i<xs.size));have apw:=aj i _ _ (bq rP) (Array.getElem?_eq_getElem (by omega:i<ys.size));have he:=apr (P:=P) d L rx apw gb;have aN:=aet (d:=d) M vn aj DX r (i+1) apt c2 apu zZ;have apx:(isAgg f.type).run P w=.ok false w:=aps L;simp only[Op.eqFields,wT,ne_eq,not_false_eq_true,if_true,Sem.run_bind,part,apx,Result.andThen_ok,j3,if_false,ex,yy,Sem.run_pure,he]
       cases aq
       ·simp
       ·simp[aN]
      ·cases H
   ·cases aC
  ·cases aC
theorem aeu {m:R}{v:Value}(h:bN w a2 B m v)(G:m.one=true):v.oneCell'=true:=by
 cases h with
 |I ab=>cases ab<;>first|rfl|simp[R.one] at G
 |nil=>rfl
 |ref he bz aD=>obtain⟨a,cap,rfl,_⟩:=aD;rfl
 |ptr he bz aD=>obtain⟨b,rfl,_⟩:=aD;rfl
 |gK aw ab=>rfl
 |agg aw ab=>simp[R.one] at G
 |c1 aw ab=>simp[R.one] at G
 |no=>simp[R.one] at G
 |undef=>simp[R.one] at G
theorem apy {v:Value}(h:∀c,v ≠ .agg c):v.cells=#[v]:=by
 unfold Value.cells
 split
 ·rename_i cs;exact absurd rfl (h cs)
 ·rfl
theorem apz {m:R}{v:Value}(h:bN w a2 B m v)(hu:m ≠ .undef):v.cells.size=D m.cells/\∀(i:Nat) (c:R) (u:Value),m.cells[i]?=some c->v.cells[i]?=some u->bN w a2 B c u:=by
 have one:(∀c,v ≠ .agg c)->m.cells=[m]->v.cells.size=D m.cells/\∀(i:Nat) (c:R) (u:Value),m.cells[i]?=some c->v.cells[i]?=some u->bN w a2 B c u:=by
  intro aD hm;rw[hm,apy aD];refine⟨rfl,λi c u H hu=>?_⟩
  cases i with
  |zero=>simp at H hu;subst H;subst hu;exact h
  |succ i=>simp at H
 cases h with
 |I ab =>
  cases ab with
  |agg aw ab =>
   refine⟨by simp[Value.cells,R.cells];exact aw,λi c u H hu=>?_⟩
   simp only[R.cells,bj,e1] at H;obtain⟨d,p2,rfl⟩:=H;exact .I (ab i d u p2 (by simpa [Value.cells] using hu))
  |_=>exact one (by simp) rfl
 |nil=>exact one (by simp) rfl
 |ref he bz aD=>obtain⟨a,cap,rfl,_⟩:=aD;exact one (by simp) rfl
 |ptr he bz aD=>obtain⟨b,rfl,_⟩:=aD;exact one (by simp) rfl
 |gK aw ab=>exact one (by simp) rfl
 |agg aw ab =>
  refine⟨by simp[Value.cells,R.cells];exact aw,λi c u H hu=>ab i c u (by simpa [R.cells] using H) (by simpa [Value.cells] using hu)⟩
 |c1 aw ab=>exact one (by simp) rfl
 |no=>exact one (by simp[undef]) rfl
 |undef=>exact absurd rfl hu
end
section
variable {P:Program} {w:World} {a2:Nat->Prop} {B:fu}
def dW (w:World)(a2:Nat->Prop)(B:fu)(cs:List R)(vs:List Value):Prop :=
 (D vs)=D cs/\∀(i:Nat) (m:R) (v:Value),cs[i]?=some m->vs[i]?=some v->bN w a2 B m v
theorem dW.get {cs:List R}{vs:List Value}(h:dW w a2 B cs vs){i:Nat}{m:R}(Q:cs[i]?=some m):∃v,vs[i]?=some v/\bN w a2 B m v:=by
 have aw:i<D cs:=(ej.1 Q).1;have aD:vs[i]?=some (vs[i]'(by rw[h.1];exact aw)):=bq _;exact⟨_,aD,h.2 i m _ Q aD⟩
theorem dW.nil:dW w a2 B [] []:=⟨rfl,λi m v h=>by simp at h⟩
theorem dW.cons {m:R}{v:Value}{cs:List R}{vs:List Value}(h:bN w a2 B m v)(Y:dW w a2 B cs vs):dW w a2 B (m::cs) (v::vs):=by
 refine⟨by simp[Y.1],λi m' DY G J=>?_⟩
 cases i with
 |zero=>simp at G J;subst G;subst J;exact h
 |succ i=>exact Y.2 i m' DY (by simpa using G) (by simpa using J)
theorem dW.append {a b:List R}{x y:List Value}(h:dW w a2 B a x)(cW:dW w a2 B b y):dW w a2 B (a++b) (x++y):=by
 refine⟨by simp[h.1,cW.1],λi m v G J=>?_⟩
 rw[GK] at G J
 split at G
 ·rename_i Q;rw[ad (by rw[h.1];exact Q)] at J;exact h.2 i m v G J
 ·rename_i Q;rw[ag (by rw[h.1];exact Q),h.1] at J;exact cW.2 _ m v G J
theorem dW.drop {a:List R}{x:List Value}(h:dW w a2 B a x)(n:Nat):dW w a2 B (a.drop n) (x.drop n) :=
 ⟨by simp[h.1],λi m v G J=>h.2 (n+i) m v (by simpa using G) (by simpa using J)⟩
theorem dW.take {a:List R}{x:List Value}(h:dW w a2 B a x)(n:Nat):dW w a2 B (a.take n) (x.take n):=by
 refine⟨by simp[h.1],λi m v G J=>?_⟩
 rw[z0] at G J
 split at G
 ·rename_i Q;rw[ad Q] at J;exact h.2 i m v G J
 ·cases G
theorem dW.lM {a b:List R}{x y:List Value}(h:dW w a2 B a x)(cW:dW w a2 B b y)(off:Nat):
  dW w a2 B (lM a off b) (x.take off++y++x.drop (off+D y)):=by
 unfold Mini.lM;rw[cW.1];exact ((h.take off).append cW).append (h.drop _)
theorem dW.TU {m:R}{v:Value}(h:bN w a2 B m v)(hu:m ≠ .undef):dW w a2 B m.cells v.cells.toList:=by
 obtain⟨G,J⟩:=apz h hu;exact⟨by simpa using G,λi c u H aD=>J i c u H (by simpa using aD)⟩
theorem dW.I {ds:List Data}{vs:List Value}(aw:(D vs)=D ds)(h:∀(i:Nat) (d:Data) (v:Value),ds[i]?=some d->vs[i]?=some v->Den w a2 d v):dW w a2 B (ds.map .I) vs:=by
 refine⟨by simp[aw],λi m v G J=>?_⟩
 simp only[bj,e1] at G;obtain⟨d,ab,rfl⟩:=G;exact .I (h i d v ab J)
theorem GL {cs:List R}{off n:Nat}{r:List R}(h:cut cs off n=some r):off+n<=D cs/\r=(cs.drop off).take n/\D r=n:=by
 unfold cut at h
 split at h
 ·rename_i aw
  cases h;exact⟨aw,rfl,by simp;omega⟩
 ·cases h
def e6 (w:World)(b off:Nat)(vs:List Value):Prop:=∀(j:Nat) (u:Value),vs[j]?=some u->w.cell? ⟨b,off+j,none⟩=some u
theorem e6.add {w:World}{b off:Nat}{vs:List Value}(h:e6 w b off vs)(n:Nat):e6 w b (off+n) (vs.drop n):=λj u aA=>by
 have:=h (n+j) u (by simpa using aA);rwa [<-tT] at this
theorem e6.take {w:World}{b off:Nat}{vs:List Value}(h:e6 w b off vs)(n:Nat):e6 w b off (vs.take n):=λj u aA=>by
 rw[z0] at aA
 split at aA
 ·exact h j u aA
 ·cases aA
theorem e6.row {w:World}{b:Nat}{vs:Array Value}{T:TypeId}{aK:Nat×Nat}(h:w.heap[b]?=some (.cells vs T aK)):e6 w b 0 vs.toList:=λj u aA=>by
 rw[qW,cell_of_row w b j vs T aK h]
 simpa using aA
theorem z1 (b off n:Nat):(⟨b,off,none⟩:Addr).add n=⟨b,off+n,none⟩:=by
 unfold Addr.add
 split<;>simp_all
theorem e6.load {b off:Nat}{vs:List Value}(h:e6 w b off vs):(loadCells ⟨b,off,none⟩ (D vs)).run P w=.ok vs.toArray w :=
 run_loadCells_list w _ vs λj v aA=>by rw[z1];exact h j v aA
theorem vp {t:TypeId}{n:Nat}(h:gM P t=some n):(sizeOf t).run P w=.ok n w:=by
 simp only[gM,e1] at h;obtain⟨i,Q,rfl⟩:=h;simp[sizeOf,typeInfo,Q]
theorem Oy {t:TypeId}{g:Bool}(h:zS P t=some g):(isAgg t).run P w=.ok g w:=by
 simp only[zS,e1] at h;obtain⟨d,ab,rfl⟩:=h;simp only[isAgg,Sem.run_bind,run_underlying ab,Result.andThen_ok]
 cases d<;>rfl
theorem aev {t:TypeId}{n:Nat}{eM:Bool}{b off:Nat}{ms:List R}{vs:List Value}{r:R}(U:gM P t=some n)(aW:zS P t=some eM)(aw:(D ms)=n)
  (cm:dW w a2 B ms vs) (bY:e6 w b off vs) (h:rL eM ms=some r):∃u,(loadVar t ⟨b,off,none⟩).run P w=.ok u w/\bN w a2 B r u:=by
 unfold rL at h
 split at h
 ·rename_i z2
  cases h;subst z2;refine⟨.agg vs.toArray,?_,.agg cm.1 cm.2⟩;have:=bY.load (P:=P);rw[cm.1,aw] at this;simp[loadVar,Oy aW,vp U,this]
 ·rename_i z2
  split at h
  ·cases h;obtain⟨u,hu,Y⟩:=cm.get (i:=0) (m:=r) rfl;have:=bY 0 u hu;have TV:eM=false:=by simpa using z2
   subst TV;exact⟨u,by simp[loadVar,Oy aW,this];simpa using by rw[show off=off+0 from rfl,this],Y⟩
  ·cases h
end
section
variable {P:Program} {A:Nat->Prop} {w:World} {B:fu} {mem:Mem}
theorem ga.at_ (h:ga A w B mem){k:Key}{g:Nat}{cs:List R}(L:mem k=some (g,cs)):
  ∃e,B k=some e/\e.g=g/\(e.eo=none->cs=[])/\∀b,e.eo=some b->∃(vs:Array Value) (T:TypeId),w.heap[b]?=some (.cells vs T (0,0))/\vs.size=e.size/\D cs<=vs.size /\
   dW w (cV A B) B cs (vs.toList.take (D cs)):=by
 obtain⟨e,he,bz,aM,ah⟩:=h.eo k g cs L;refine⟨e,he,bz,aM,λb kT=>?_⟩;obtain⟨vs,T,G,J,af,aT⟩:=ah b kT;refine⟨vs,T,G,J,af,by simp;omega,λi m v hm aD=>?_⟩
 obtain⟨u,hu,Y⟩:=aT i m hm;rw[z0] at aD
 split at aD
 ·rw[Array.getElem?_toList,hu] at aD
  cases aD;exact Y
 ·cases aD
theorem aew {n:Nat}{eM:Bool}{m r:R}{v:Value}(ct:ga A w B mem)(aD:bN w (cV A B) B m v)(h:qQ mem n eM m=some r):
  ∃b off ms vs,v=.pointer (some ⟨b,off,none⟩)/\D ms=n/\dW w (cV A B) B ms vs/\e6 w b off vs/\rL eM ms=some r:=by
 unfold qQ at h
 split at h
 ·rename_i k g off
  split at h
  ·rename_i eg cs L
   split at h
   ·rename_i bz;subst bz;simp only[fa] at h;obtain⟨ms,aH,Y⟩:=h;obtain⟨aw,rfl,aM⟩:=GL aH;obtain⟨e,he,b2,GM,ah⟩:=ct.at_ L
    cases aD with
    |ptr gL TS sP =>
     rw[he] at gL
     cases gL;obtain⟨b,rfl,kT⟩:=sP;have kT:=kT b2.symm;obtain⟨vs,T,aY,a3,hle,cm⟩:=ah b kT;refine⟨b,off,_,((vs.toList.take (D cs)).drop off).take n,rfl,aM,(cm.drop off).take n,?_,Y⟩;have:=(((e6.row aY).take (D cs)).add off).take n
     simpa using this
   ·cases h
  ·cases h
 ·rename_i ds;simp only[fa] at h;obtain⟨ms,aH,Y⟩:=h;obtain⟨aw,rfl,aM⟩:=GL aH
  cases aD with
  |I ab =>
   cases ab with
   | @ptr cs b off val ah gj H ab =>
    refine⟨b,off,_,((eN (D ds)).map val).take n,rfl,aM,?_,?_,Y⟩
    ·have:dW w (cV A B) B (ds.map .I) ((eN (D ds)).map val):=dW.I (by simp) λi d v G J=>by
      have Q:i<D ds:=(ej.1 G).1;simp[Q] at J;subst J;exact ab i d G
     simpa using this.take n
    ·refine e6.take (λj u aA=>?_) n;simp only[bj,e1] at aA;obtain⟨nx,vq,rfl⟩:=aA
     have G:nx=j/\j<D ds:=by
      rcases g2 j (D ds) with h|h
      ·rw[tU h] at vq;exact⟨by simpa using vq.symm,h⟩
      ·rw[ja (by simpa using h)] at vq
       cases vq
     obtain⟨rfl,nb⟩:=G;exact H nx nb
 ·cases h
theorem apA {t:TypeId}{n:Nat}{eM:Bool}{m r:R}{v:Value}(U:gM P t=some n)(aW:zS P t=some eM)(ct:ga A w B mem)(aD:bN w (cV A B) B m v)(h:qQ mem n eM m=some r):
  ∃u,(Instr.loadAt t v).run P w=.ok u w/\bN w (cV A B) B r u:=by
 obtain⟨b,off,ms,vs,rfl,aw,cm,bY,Y⟩:=aew ct aD h;obtain⟨u,G,J⟩:=aev (P:=P) U aW aw cm bY Y;exact⟨u,by simpa [Instr.loadAt,Instr.sureAddr] using G,J⟩
end
section
variable {P:Program} {w:World} {a2:Nat->Prop} {B:fu}
theorem aex {m:R}{cs:List R}{v:Value}(h:JX m=some cs)(aD:bN w a2 B m v):∃vs:List Value,v=.agg vs.toArray/\dW w a2 B cs vs:=by
 unfold JX at h
 split at h
 ·cases h
  cases aD with
  |agg aw ab=>exact⟨_,rfl,aw,ab⟩
 ·cases h
  cases aD with
  |I ab =>
   cases ab with
   |agg aw ab=>exact⟨_,rfl,dW.I aw ab⟩
 ·cases h
theorem aey {neg:Bool}{g1:List Nat}{m n r:R}{u v:Value}(t:TypeId)(x y:Operand)(eh:Array Field)(hu:P.underlying t=some (.struct eh))(U:P.stoodInHeld t=false)
  (bz:P.eqGuardType P.depth t=false) (L:GD P 0 eh.toList=some g1) (hm:bN w a2 B m u) (aM:bN w a2 B n v) (h:Om neg g1 m n=some r) :
  ∃z,((do eqGuard (if neg then .neq else .eql) t x y u v;binOp (if neg then .neq else .eql) t u v:Sem Value)).run P w=.ok z w/\bN w a2 B r z:=by
 unfold Om at h
 split at h
 ·rename_i cs ds jj hU
  split at h
  ·rename_i c H
   cases h;obtain⟨xs,rfl,M⟩:=aex jj hm;obtain⟨ys,rfl,aj⟩:=aex hU aM;have ll:P.fieldsOf t=eh:=by simp[Program.fieldsOf,hu]
   have he:=run_equalIn_struct (P:=P) w 9999 t xs.toArray ys.toArray (by rw[ll];exact hu) U;rw[ll] at he
   have aC:=aet (P:=P) (w:=w) (a2:=a2) (B:=B) (d:=9998) (xs:=xs.toArray) (ys:=ys.toArray) (cs:=cs) (ds:=ds)
    (λi m v G J=>M.2 i m v G (by simpa using J)) (by simpa using M.1) (λi m v G J=>aj.2 i m v G (by simpa using J)) (by simpa using aj.1) eh.toList 0 g1 c L (by simpa using H)
   have heq:(Op.equal t (.agg xs.toArray) (.agg ys.toArray)).run P w=.ok c w:=by
    show (Op.equalIn (9999+1) t _ _).run P w=_;rw[he];exact aC
   have z3:∀op,(op=BinOp.eql\/op=.neq)->(eqGuard op t x y (.agg xs.toArray) (.agg ys.toArray)).run P w=.ok () w:=by
    intro op od;rcases od with rfl|rfl<;>simp[eqGuard,bz]
   refine⟨.bool (neg != c),?_,.I .bool⟩
   cases neg
   ·simp only[j3,if_false,Sem.run_bind,z3 _ (.inl rfl),Result.andThen_ok];show (do pure (Value.bool (<-Op.equal t (.agg xs.toArray) (.agg ys.toArray))):Sem Value).run P w=_
    simp[heq]
   ·simp only[if_true,Sem.run_bind,z3 _ (.inr rfl),Result.andThen_ok];show (do pure (Value.bool (!(<-Op.equal t (.agg xs.toArray) (.agg ys.toArray)))):Sem Value).run P w=_
    simp[heq]
  ·cases h
 ·cases h
theorem apB {c a b r:R}{Ke vr sQ:Value}(H:bN w a2 B c Ke)(aW:bN w a2 B a vr)(ah:bN w a2 B b sQ)(h:Gu c a b=some r):
  ∃z,(do pure (if <-asBool Ke then vr else sQ):Sem Value).run P w=.ok z w/\bN w a2 B r z:=by
 unfold Gu at h
 split at h
 ·rename_i t
  cases H.DV
  cases t
  ·cases h;exact⟨sQ,by simp[asBool],ah⟩
  ·cases h;exact⟨vr,by simp[asBool],aW⟩
 ·cases h
theorem apC {op:UnOp}{m r:R}{v:Value}(hm:bN w a2 B m v)(h:JV op m=some r):∃z,(Op.unary op v).run P w=.ok z w/\bN w a2 B r z:=by
 unfold JV at h
 split at h
 ·cases h;cases hm.yx;exact⟨_,by simp[Op.unary,Op.intArith],.I .int⟩
 ·cases h;cases hm.yx;exact⟨_,by simp[Op.unary,go_sem],.I .int⟩
 ·cases h;cases hm.DV;exact⟨_,by simp[Op.unary],.I .bool⟩
 ·cases h
theorem apD {k:IntKind}{m r:R}{v:Value}(s t:TypeId)(g1:IntKind)(U:P.underlying s=some (.int g1))(ca:P.underlying t=some (.int k))(hm:bN w a2 B m v)(h:JY k m=some r):
  ∃z,(convert s t v).run P w=.ok z w/\bN w a2 B r z:=by
 unfold JY at h
 split at h
 ·cases h
  cases hm.yx;have Q:P.intKind t=k:=by simp[Program.intKind,ca]
  have:=run_convert_int (P:=P) w s t;exact⟨.int k _,by simp[convert,run_underlying U,run_underlying ca,Conv.intToInt],.I .int⟩
 ·cases h
theorem apE {off:Nat}{m r:R}{v:Value}(t:TypeId)(f:Nat)(eh:Array Field)(fd:Field)(s:Nat)(hu:P.underlying t=some (.struct eh))(aC:eh[f]?=some fd)(U:gM P fd.type=some s)(ax:0<s)
  (bS:fd.offset=off) (hm:bN w a2 B m v) (h:J0 off m=some r):∃z,(Instr.fieldAt t v f).run P w=.ok z w/\bN w a2 B r z:=by
 have b6:¬ s=0:=by omega
 have run:∀b o,(Instr.fieldAt t (.pointer (some ⟨b,o,none⟩)) f).run P w=.ok (.pointer (some ⟨b,o+off,none⟩)) w:=by
  intro b o;simp[Instr.fieldAt,run_underlying hu,aC,Instr.sureAddr,fieldPlace,vp U,b6,z1,bS]
 unfold J0 at h
 split at h
 ·cases h;rename_i k g o
  cases hm with
  |ptr he bz aD =>
   obtain⟨b,rfl,ah⟩:=aD;exact⟨_,run b o,.ptr he bz ⟨b,rfl,ah⟩⟩
 ·rename_i ds
  split at h
  ·rename_i aw
   cases h
   cases hm with
   |I ab =>
    cases ab with
    | @ptr cs b o val ah gj H ab =>
     refine⟨_,run b o,.I (.ptr (λi=>val (off+i)) ah gj (λi Q=>?_) λi d hI=>ab _ d (by simpa using hI))⟩;have:=H (off+i) (by simp at Q;omega);rwa [<-tT] at this
  ·cases h
 ·cases h
theorem apF {t:TypeId}{n off:Nat}{eM:Bool}{cs ms:List R}{vs:List Value}{r:R}(U:gM P t=some n)(aW:zS P t=some eM)(cm:dW w a2 B cs vs)(H:cut cs off n=some ms)(h:rL eM ms=some r):
  ∃u,(part t vs.toArray off).run P w=.ok u w/\bN w a2 B r u:=by
 obtain⟨aw,rfl,aM⟩:=GL H;have a8:=(cm.drop off).take n;unfold rL at h
 split at h
 ·rename_i z2
  cases h;subst z2;refine⟨.agg ((vs.drop off).take n).toArray,?_,.agg a8.1 a8.2⟩
  have e:vs.toArray.extract off (off+n)=((vs.drop off).take n).toArray:=by
   simp[List.extract_eq_take_drop]
  simp[part,Oy aW,vp U,e]
 ·rename_i z2;have TV:eM=false:=by simpa using z2
  subst TV
  split at h
  ·rename_i m aH
   cases h
   have Q:cs[off]?=some r:=by
    have:=congrArg (λl=>l[0]?) aH;simp[z0] at this;exact this.2
   obtain⟨u,hu,apG⟩:=cm.get Q;exact⟨u,by simp[part,Oy aW,hu],apG⟩
  ·cases h
theorem apH {off n:Nat}{eM:Bool}{m r:R}{v:Value}(t:TypeId)(f:Nat)(eh:Array Field)(fd:Field)(hu:P.underlying t=some (.struct eh))(aC:eh[f]?=some fd)(U:gM P fd.type=some n)
  (aW:zS P fd.type=some eM) (bS:fd.offset=off) (hm:bN w a2 B m v) (h:On off n eM m=some r):∃z,(Instr.field t v f).run P w=.ok z w/\bN w a2 B r z:=by
 subst bS
 have go:∀(cs:List R) (vs:List Value),dW w a2 B cs vs->(cut cs fd.offset n).bind (rL eM)=some r->∃z,(Instr.field t (.agg vs.toArray) f).run P w=.ok z w/\bN w a2 B r z:=by
  intro cs vs cm aY;simp only[fa] at aY;obtain⟨ms,G,J⟩:=aY;obtain⟨u,af,aT⟩:=apF (P:=P) U aW cm G J;exact⟨u,by simp[Instr.field,run_underlying hu,aC,asAgg,af],aT⟩
 unfold On at h
 split at h
 ·cases hm with
  |agg aw ab=>exact go _ _ ⟨aw,ab⟩ h
 ·cases hm with
  |I ab =>
   cases ab with
   |agg aw ab=>exact go _ _ (dW.I aw ab) h
 ·cases h
theorem GN {m:R}{n:Nat}{v:Value}(h:idx m=some n)(aD:bN w a2 B m v):∃k,v=.int k (n:Int):=by
 unfold idx at h
 split at h
 ·rename_i k i
  split at h
  ·rename_i ax
   cases h
   cases aD.yx;exact⟨k,by rw[Int.toNat_of_nonneg ax]⟩
  ·cases h
 ·cases h
theorem Gs.at_ {e:mJ}{g sz off len:Nat}{v:Value}(h:Gs e g sz off len v)(ax:0<len):∃b cap,v=.slice (some ⟨b,off,none⟩) len cap/\len<=cap/\cap<=maxLen/\(g=e.g->e.eo=some b/\off+cap*sz<=e.size):=by
 obtain⟨a,cap,rfl,J,af,aT⟩:=h;rcases aT with aT|⟨b,rfl,bx⟩
 ·omega
 ·exact⟨b,cap,rfl,J,af,bx⟩
theorem apI {es:List (List Data)}{sz:Nat}(fg:∀e∈es,D e=sz):∀(n i:Nat) (e:List Data),es[n]?=some e->i<sz->es.flatten[n*sz+i]?=e[i]?:=by
 induction es with
 |nil=>intro n i e h;simp at h
 |cons a r aN =>
  intro n i e h Q;have aW:=fg a (by simp)
  cases n with
  |zero =>
   simp at h;subst h;rw[j1,oe (by omega)];simp
  |succ n =>
   rw[j1,nc (by rw[aW,py];omega)];have:=aN (λx M=>fg x (by simp[M])) n i e (by simpa using h) Q;rw[<-this,aW]
   congr 1
   rw[py];omega
theorem apJ {sz n:Nat}{m r:R}{v:Value}{k:IntKind}(t e:TypeId)(hu:P.underlying t=some (.slice e))(U:gM P e=some sz)(hm:bN w a2 B m v)(h:zR sz n m=some r):
  ∃z,(Instr.indexAt t v (.int k (n:Int))).run P w=.ok z w/\bN w a2 B r z:=by
 have run:∀b off len cap,n<len->(Instr.indexAt t (.slice (some ⟨b,off,none⟩) len cap) (.int k (n:Int))).run P w=.ok (.pointer (some ⟨b,off+n*sz,none⟩)) w:=by
  intro b off len cap az;simp[Instr.indexAt,run_underlying hu,asIntOf,az,vp U,z1]
 unfold zR at h
 split at h
 ·split at h
  ·rename_i aw;obtain⟨az,rfl⟩:=aw
   cases h
   cases hm with
   |ref he bz aD =>
    obtain⟨b,cap,rfl,G,J,af⟩:=aD.at_ (by omega);exact⟨_,run _ _ _ _ az,.ptr he bz ⟨b,rfl,λh=>(af h).1⟩⟩
  ·cases h
 ·rename_i es
  split at h
  ·rename_i el ln
   split at h
   ·rename_i hle
    cases h
    cases hm with
    |I ab =>
     have az:n<D es:=(ej.1 ln).1
     cases ab with
     |mc=>simp at az
     | @X es b off c eQ val aw DZ ah gj fg H ab =>
      have Kf:eQ=sz:=by rw[<-hle];exact (fg _ (dn ln)).symm
      subst Kf
      have hmul:n*eQ+eQ<=D es*eQ:=by
       have:(n+1)*eQ<=D es*eQ:=og _ az;rwa [qO,JQ] at this
      refine⟨_,run _ _ _ _ az,.I (.ptr (λi=>val (n*eQ+i)) ah gj (λi Q=>?_) λi d hI=>?_)⟩
      ·have:=H (n*eQ+i) (by omega);rwa [<-tT] at this
      ·refine ab _ d ?_;rw[apI fg n i el ln (by have:=(ej.1 hI).1;omega)];exact hI
   ·cases h
  ·cases h
 ·cases h
theorem apK {len sz n:Nat}{m r:R}{v:Value}{k:IntKind}(t e:TypeId)(hu:P.underlying t=some (.array len e))(U:gM P e=some sz)(hm:bN w a2 B m v)(h:J1 len sz n m=some r):
  ∃z,(Instr.indexAt t v (.int k (n:Int))).run P w=.ok z w/\bN w a2 B r z:=by
 have run:∀b off,n<len->(Instr.indexAt t (.pointer (some ⟨b,off,none⟩)) (.int k (n:Int))).run P w=.ok (.pointer (some ⟨b,off+n*sz,none⟩)) w:=by
  intro b off az;simp[Instr.indexAt,run_underlying hu,asIntOf,Instr.sureAddr,az,vp U,z1]
 unfold J1 at h
 split at h
 ·split at h
  ·rename_i az
   cases h
   cases hm with
   |ptr he bz aD =>
    obtain⟨b,rfl,ah⟩:=aD;exact⟨_,run _ _ az,.ptr he bz ⟨b,rfl,ah⟩⟩
  ·cases h
 ·rename_i ds
  split at h
  ·rename_i aw;obtain⟨az,hle⟩:=aw
   cases h
   cases hm with
   |I ab =>
    cases ab with
    | @ptr cs b o val ah gj H ab =>
     refine⟨_,run _ _ az,.I (.ptr (λi=>val (n*sz+i)) ah gj (λi Q=>?_) λi d hI=>ab _ d (by simpa using hI))⟩;have:=H (n*sz+i) (by simp at Q;omega);rwa [<-tT] at this
  ·cases h
 ·cases h
theorem apL {n:Nat}{m r:R}{v:Value}{k:IntKind}(t:TypeId)(hu:P.underlying t=some .string)(hm:bN w a2 B m v)(h:Oo n m=some r):
  ∃z,(Instr.index t v (.int k (n:Int))).run P w=.ok z w/\bN w a2 B r z:=by
 unfold Oo at h
 split at h
 ·rename_i s;simp only[e1] at h;obtain⟨b,ah,rfl⟩:=h
  cases hm.DW;have az:n<D s:=(ej.1 ah).1
  have e:(ByteArray.mk s.toArray)[n]?=some b:=by
   rw[ByteArray.getElem?_lt' _ _ (by simpa [ByteArray.size] using az)];have:=(ej.1 ah).2;simp only[cL];rw[<-this]
   rfl
  exact⟨.int .u8 b.toNat,by simp[Instr.index,run_underlying hu,asIntOf,e],.I .int⟩
 ·cases h
theorem apM {i:Nat}{m r:R}{v:Value}(hm:bN w a2 B m v)(h:J3 i m=some r):∃z,(Instr.extract v i).run P w=.ok z w/\bN w a2 B r z:=by
 unfold J3 at h
 split at h
 ·cases hm with
  |c1 aw ab =>
   obtain⟨u,hu,Y⟩:=dW.get ⟨aw,ab⟩ h;exact⟨u,by simp[Instr.extract,hu],Y⟩
 ·simp only[e1] at h;obtain⟨d,p2,rfl⟩:=h
  cases hm with
  |I ab =>
   cases ab with
   |c1 aw ab =>
    obtain⟨u,hu,Y⟩:=dW.get (dW.I aw ab) (i:=i) (m:=.I d) (by simp[p2]);exact⟨u,by simp[Instr.extract,hu],Y⟩
 ·cases h
theorem apN {m:R}{n:Nat}{v:Value}(t ty e:TypeId)(ca:P.underlying t=some (.slice e))(hm:bN w a2 B m v)(h:qP m=some n):
  (Builtin.len_ #[t] ty #[v]).run P w=.ok (.int .i64 n) w:=by
 have run:∀a c,(Builtin.len_ #[t] ty #[.slice a n c]).run P w=.ok (.int .i64 n) w:=λa c=>by
  simp[Builtin.len_,run_underlying ca,goInt]
 unfold qP at h
 split at h<;>cases h
 ·cases hm with
  |I ab =>
   cases ab with
   |mc=>exact run _ _
   |X=>exact run _ _
 ·cases hm with
  |nil=>exact run _ _
 ·cases hm with
  |ref he bz aD=>obtain⟨a,cap,rfl,_⟩:=aD;exact run _ _
theorem apO {m:R}{n:Nat}{v:Value}(t ty:TypeId)(ca:P.underlying t=some .string)(hm:bN w a2 B m v)(h:DR m=some n):
  (Builtin.len_ #[t] ty #[v]).run P w=.ok (.int .i64 n) w:=by
 unfold DR at h
 split at h<;>cases h
 rename_i s
 cases hm.DW;have e:(ByteArray.mk s.toArray).size=D s:=by simp[ByteArray.size]
 simp[Builtin.len_,run_underlying ca,goInt,e]
theorem aez {km:Bool}{m n r:R}{u v:Value}(tV:Array TypeId)(t:TypeId)(hm:bN w a2 B m u)(aM:bN w a2 B n v)(h:J4 km m n=some r):
  ∃z,(if km=true then Builtin.max_ tV t #[u,v] else Builtin.min_ tV t #[u,v]).run P w=.ok z w/\bN w a2 B r z:=by
 unfold J4 at h
 split at h
 ·split at h
  ·rename_i L;subst L
   cases h
   cases hm.yx
   cases aM.yx
   cases km
   ·exact⟨_,by simp[run_min_int2],.I .int⟩
   ·exact⟨_,by simp[run_max_int2],.I .int⟩
  ·cases h
 ·cases h
theorem apP {m r:R}{v:Value}(hm:bN w a2 B m v)(h:JZ m=some r):(∃b off,v=.pointer (some ⟨b,off,none⟩))/\bN w a2 B r v:=by
 unfold JZ at h
 split at h
 ·cases h;refine⟨?_,hm⟩
  cases hm with
  |ptr he bz aD=>obtain⟨b,rfl,_⟩:=aD;exact⟨_,_,rfl⟩
 ·cases h;refine⟨?_,hm⟩
  cases hm with
  |I ab=>cases ab;exact⟨_,_,rfl⟩
 ·cases h
theorem GO {x:R}{n y:Nat}{v:Value}(code:BoundsCode)(M:idx x=some n)(aD:bN w a2 B x v)(aM:n<=y):(Instr.sliceBound v y code).run P w=.ok n w:=by
 obtain⟨k,rfl⟩:=GN M aD
 simpa using run_sliceBound (P:=P) w k (n:Int) y code (by omega) (by omega)
def rQ (w:World)(a2:Nat->Prop)(B:fu):Option R->Option Value->Prop
 |none,none=>True
 |some m,some v=>bN w a2 B m v
 |_,_=>False
theorem TW {len cap l h:Nat}{cY Q:Option R}{lo lp:Option Value}(TX:Bool)(iu:lh 0 cY=some l)(jQ:lh len Q=some h)
  (nd:rQ w a2 B cY lo) (md:rQ w a2 B Q lp) (aw:l<=h) (aY:h<=cap):(Instr.sliceBounds TX len cap lo lp none).run P w=.ok (l,h,cap) w:=by
 unfold Instr.sliceBounds
 cases cY with
 |none =>
  cases lo with
  |some v=>exact nd.elim
  |none =>
   simp[lh] at iu;subst iu
   cases Q with
   |none =>
    cases lp with
    |some v=>exact md.elim
    |none=>simp[lh] at jQ;subst jQ;simp
   |some m =>
    cases lp with
    |none=>exact md.elim
    |some v =>
     have aB:=λcode=>GO (P:=P) (y:=cap) code jQ md aY
     cases TX<;>simp[aB]
 |some GP =>
  cases lo with
  |none=>exact nd.elim
  |some bs =>
   have av:=λcode=>GO (P:=P) (y:=h) code iu nd aw
   cases Q with
   |none =>
    cases lp with
    |some v=>exact md.elim
    |none=>simp[lh] at jQ;subst jQ;simp[av]
   |some m =>
    cases lp with
    |none=>exact md.elim
    |some v =>
     have aB:=λcode=>GO (P:=P) (y:=cap) code jQ md aY
     cases TX<;>simp[av,aB]
theorem apQ {len cap l h m:Nat}{cY:Option R}{Q km:R}{lo:Option Value}{lp z4:Value}(iu:lh 0 cY=some l)(jQ:idx Q=some h)(iv:idx km=some m)
  (nd:rQ w a2 B cY lo) (md:bN w a2 B Q lp) (GQ:bN w a2 B km z4) (aw:l<=h) (aY:h<=m) (hm:m<=cap):(Instr.sliceBounds true len cap lo (some lp) (some z4)).run P w=.ok (l,h,m) w:=by
 have bw:=GO (P:=P) (y:=cap) .slice3Acap iv GQ hm;have aB:=GO (P:=P) (y:=m) .slice3B jQ md aY;unfold Instr.sliceBounds
 cases cY with
 |none =>
  cases lo with
  |some v=>exact nd.elim
  |none =>
   simp[lh] at iu;subst iu;simp[bw,aB]
 |some GP =>
  cases lo with
  |none=>exact nd.elim
  |some bs =>
   have av:=GO (P:=P) (y:=h) .slice3C iu nd aw;simp[bw,aB,av]
theorem Oz {m:R}{n:Nat}{v:Value}(hm:bN w a2 B m v)(h:qP m=some n):∃a c,v=.slice a n c/\n<=c:=by
 unfold qP at h
 split at h<;>cases h
 ·cases hm with
  |I ab =>
   cases ab with
   |mc=>exact⟨_,_,rfl,by simp⟩
   |X val aw=>exact⟨_,_,rfl,aw⟩
 ·cases hm with
  |nil=>exact⟨_,_,rfl,by simp⟩
 ·cases hm with
  |ref he bz aD=>obtain⟨a,cap,rfl,G,_⟩:=aD;exact⟨_,_,rfl,G⟩
theorem aeA {t e:TypeId}{sz l h jx:Nat}{a:Option Addr}{len cap:Nat}{lo lp z4:Option Value}(ca:P.underlying t=some (.slice e))(U:gM P e=some sz)
  (ah:(Instr.sliceBounds true len cap lo lp z4).run P w=.ok (l,h,jx) w) :
  (Instr.sliceAt t (.slice a len cap) lo lp z4).run P w=.ok (.slice (if jx=l then a else a.map (·.add (l*sz))) (h-l) (jx-l)) w:=by
 simp[Instr.sliceAt,Instr.slice,run_underlying ca,ah,vp U]
theorem apR {es:List (List Data)}{sz:Nat}(fg:∀e∈es,D e=sz)(l:Nat):(es.drop l).flatten=es.flatten.drop (l*sz):=by
 induction es generalizing l with
 |nil=>simp
 |cons a r aN =>
  cases l with
  |zero=>simp
  |succ l =>
   have aW:=fg a (by simp);rw[List.drop_succ_cons,aN (λx M=>fg x (by simp[M])) l,j1,List.drop_append,aW];have G:a.drop ((l+1)*sz)=[]:=lO (by rw[aW,py];omega);rw[G,List.nil_append]
   congr 1
   rw[py];omega
theorem apS {es:List (List Data)}{sz:Nat}(fg:∀e∈es,D e=sz)(l:Nat):(es.take l).flatten=es.flatten.take (l*sz):=by
 induction es generalizing l with
 |nil=>simp
 |cons a r aN =>
  cases l with
  |zero=>simp
  |succ l =>
   have aW:=fg a (by simp);rw[List.take_succ_cons,j1,aN (λx M=>fg x (by simp[M])) l,j1,aeB,aW];have G:a.take ((l+1)*sz)=a:=dp (by rw[aW,py];omega);rw[G]
   congr 2
   rw[py];omega
theorem aeC {es:List (List Data)}{a:Option Addr}{len c sz l h cc:Nat}(ab:Den w a2 (.X es) (.slice a len c))(aw:l<=h)(aY:h<=D es)(fg:0<(D es)->∀e∈es,D e=sz)(H:h-l<=cc):
  l=h\/Den w a2 (.X ((es.take h).drop l)) (.slice (a.map (·.add (l*sz))) (h-l) cc):=by
 rcases OA aw with rfl|az
 ·exact .inl rfl
 ·refine .inr ?_
  cases ab with
  |mc=>simp at aY;omega
  | @X es b off c eQ val B1 hm ah gj hsz' nf B2 =>
   have iF:0<D es:=by omega
   have Kf:eQ=sz:=by
    have ax:=lq (l:=es) (n:=0) iF;rw[<-hsz' _ ax,fg iF _ ax]
   subst Kf;have hlen:((es.take h).drop l).length=h-l:=by simp;omega
   have hmul:l*eQ+(h-l)*eQ<=D es*eQ:=by
    rw[<-qO];exact og _ (by omega)
   have:=Den.X (w:=w) (a2:=a2) (es:=(es.take h).drop l) (b:=b) (off:=off+l*eQ) (c:=cc) (sz:=eQ) (λi=>val (l*eQ+i)) (by rw[hlen];exact H) (by rw[hlen];omega) ah gj
    (λe he=>hsz' e (z5 (List.mem_of_mem_drop he)))
    (λi Q=>by
     rw[hlen] at Q;have:=nf (l*eQ+i) (by omega);rwa [<-tT] at this)
    (λi d hI=>by
     refine B2 _ d ?_;rw[apR (λe he=>hsz' e (z5 he)) l,apS hsz' h] at hI;rw[qX,z0] at hI
     split at hI
     ·exact hI
     ·cases hI)
   rw[hlen] at this
   simpa [z1] using this
end
section
variable {P:Program} {w:World} {a2:Nat->Prop} {B:fu}
theorem TY {sz:Nat}{es:List (List Data)}(h:BT sz es=true):∀e∈es,D e=sz:=λe he=>by
 simpa using pz.1 h e he
theorem apT {t e:TypeId}{sz l h len:Nat}{m r:R}{v:Value}{lo lp:Option Value}{cY Q:Option R}(ca:P.underlying t=some (.slice e))(U:gM P e=some sz)
  (iu:lh 0 cY=some l) (hlen:qP m=some len) (jQ:lh len Q=some h) (nd:rQ w a2 B cY lo) (md:rQ w a2 B Q lp) (hm:bN w a2 B m v) (Y:J2 sz l h m=some r) :
  ∃z,(Instr.sliceAt t v lo lp none).run P w=.ok z w/\bN w a2 B r z:=by
 obtain⟨a,cap,rfl,GR⟩:=Oz hm hlen
 have run:l<=h->h<=len->(Instr.sliceAt t (.slice a len cap) lo lp none).run P w=.ok (.slice (if cap=l then a else a.map (·.add (l*sz))) (h-l) (cap-l)) w:=λG J =>
  aeA ca U (TW true iu jQ nd md G (by omega))
 unfold J2 at Y
 split at Y
 ·rename_i es
  split at Y
  ·rename_i H;obtain⟨G,J,af⟩:=H
   cases Y;simp only[qP,cL] at hlen;subst hlen;refine⟨_,run G J,.I ?_⟩
   cases hm with
   |I ab =>
    rcases aeC (sz:=sz) ab G J (λ_=>TY af) (cc:=cap-l) (by omega) with rfl|aF
    ·rw[show ((es.take l).drop l)=[] from by simp]
     rw[jy];exact .mc
    ·rcases OA G with rfl|az
     ·rw[show ((es.take l).drop l)=[] from by simp]
      rw[jy];exact .mc
     ·rw[ag (by omega)];exact aF
  ·cases Y
 ·split at Y
  ·rename_i H;obtain⟨rfl,rfl⟩:=H
   cases Y
   cases hm with
   |nil=>exact⟨_,run (by omega) (by omega),by simpa using bN.nil⟩
  ·cases Y
 ·split at Y
  ·rename_i k g eQ off aeD H;obtain⟨rfl,G,J⟩:=H
   cases Y;simp only[qP,cL] at hlen;subst hlen
   cases hm with
   |ref he bz aD =>
    refine⟨_,run G J,.ref he bz ?_⟩;obtain⟨j4,aGU,rR,rS,aGV,apU⟩:=aD
    injection rR with av aB bp
    subst av;subst bp
    refine⟨_,cap-l,rfl,by omega,by omega,?_⟩
    rcases ko (cap-l) with ax|ax
    ·exact .inl ax
    ·refine .inr ?_;rcases apU with aT|⟨b,rfl,bx⟩
     ·omega
     ·refine⟨b,by rw[ag (by omega)];simp[z1],λb2=>?_⟩
      obtain⟨b0,bV⟩:=bx b2;refine⟨b0,?_⟩;rw[tT,<-qO];rwa [show l+(cap-l)=cap from by omega]
  ·cases Y
 ·cases Y
theorem apV {t e:TypeId}{sz l h jx:Nat}{m r:R}{v:Value}{lo:Option Value}{lp z4:Value}{cY:Option R}{Q km:R}(ca:P.underlying t=some (.slice e))(U:gM P e=some sz)
  (iu:lh 0 cY=some l) (jQ:idx Q=some h) (iv:idx km=some jx) (nd:rQ w a2 B cY lo) (md:bN w a2 B Q lp) (GQ:bN w a2 B km z4) (hm:bN w a2 B m v) (Y:Oq sz l h jx m=some r) :
  ∃z,(Instr.sliceAt t v lo (some lp) (some z4)).run P w=.ok z w/\bN w a2 B r z:=by
 have run:∀a len cap,l<=h->h<=jx->jx<=len->len<=cap->(Instr.sliceAt t (.slice a len cap) lo (some lp) (some z4)).run P w=.ok (.slice (if jx=l then a else a.map (·.add (l*sz))) (h-l) (jx-l)) w :=
  λa len cap G J af aT=>aeA ca U (apQ iu jQ iv nd md GQ G J (by omega))
 unfold Oq at Y
 split at Y
 ·rename_i es
  split at Y
  ·rename_i H;obtain⟨G,J,af,aT⟩:=H;obtain⟨a,cap,rfl,GR⟩:=Oz hm (n:=D es) rfl;refine⟨_,run a _ cap G J af GR,?_⟩
   split at Y
   ·rename_i p3
    cases Y;subst p3;have:h=jx:=by omega
    subst this
    simpa using bN.nil
   ·rename_i p3
    cases Y;rw[ag p3]
    cases hm with
    |I ab =>
     refine .I ?_;rcases OA G with rfl|az
     ·rw[show ((es.take l).drop l)=[] from by simp]
      rw[jy];exact .mc
     ·rcases aeC (sz:=sz) ab G (by omega) (λ_=>TY aT) (cc:=jx-l) (by omega) with ax|aF
      ·omega
      ·exact aF
  ·cases Y
 ·split at Y
  ·rename_i H;obtain⟨rfl,rfl,rfl⟩:=H
   cases Y;obtain⟨a,cap,rfl,GR⟩:=Oz hm (n:=0) rfl;exact⟨_,run a _ cap (by omega) (by omega) (by omega) GR,by simpa using bN.nil⟩
  ·cases Y
 ·rename_i k g eQ off len
  split at Y
  ·rename_i H;obtain⟨G,J,af,rfl⟩:=H
   cases Y;obtain⟨a,cap,rfl,GR⟩:=Oz hm (n:=len) rfl;have:h=jx:=by omega
   subst this;exact⟨_,run a _ cap (by omega) (by omega) (by omega) GR,by simpa using bN.nil⟩
  ·cases Y
 ·cases Y
theorem apW {t:TypeId}{l h len:Nat}{m r:R}{v:Value}{lo lp:Option Value}{cY Q:Option R}(ca:P.underlying t=some .string)
  (iu:lh 0 cY=some l) (hlen:DR m=some len) (jQ:lh len Q=some h) (nd:rQ w a2 B cY lo) (md:rQ w a2 B Q lp) (hm:bN w a2 B m v) (Y:Ot l h m=some r) :
  ∃z,(Instr.sliceAt t v lo lp none).run P w=.ok z w/\bN w a2 B r z:=by
 unfold Ot at Y
 split at Y
 ·rename_i s
  split at Y
  ·rename_i H;obtain⟨G,J⟩:=H
   cases Y;simp only[DR,cL] at hlen;subst hlen
   cases hm.DW;have e:(ByteArray.mk s.toArray).size=D s:=by simp[ByteArray.size]
   have ah:=TW (P:=P) (w:=w) (a2:=a2) (B:=B) (cap:=D s) false iu jQ nd md G J
   have M:(ByteArray.mk s.toArray).extract l h=⟨((s.take h).drop l).toArray⟩:=by
    rw[ByteArray.extract_mk,aeE]
   exact⟨.string ⟨((s.take h).drop l).toArray⟩,by simp[Instr.sliceAt,Instr.slice,run_underlying ca,e,ah,M],.I .str⟩
  ·cases Y
 ·cases Y
theorem aeF (off:Nat):∀(l:List Value) (k:Nat) (cs:Array Value),off+k+D l<=cs.size ->
  (l.zipIdx k).foldl (λ(cs:Array Value) (p:Value×Nat)=>cs.setIfInBounds (off+p.2) p.1) cs=(cs.toList.take (off+k)++l++cs.toList.drop (off+k+D l)).toArray
 | [],k,cs,_=>by simp
 |a::l,k,cs,h=>by
  rw[List.zipIdx_cons,aeG];have cW:off+k<cs.size:=by simp at h;omega
  rw[aeF off l (k+1) (cs.setIfInBounds (off+k) a) (by simp at h ⊢;omega)];apply Array.ext';simp only[Array.toList_setIfInBounds];have:=list_seg_step cs.toList (off+k) a l (by simp at h ⊢;omega)
  simpa [tT] using this
theorem OB {place:Nat->Option (Nat×Nat)}{ρ:Operand->Value}{tm:Nat->R}(hρ:∀x y,eD x=some y->bN w a2 B (bC tm y) (ρ x)):
  ∀(dP:List (Nat×Operand)) (e7:List (Nat×Nat×cv)) (cs r:List R) (vs:Array Value),partsOf place dP=some e7->dW w a2 B cs vs.toList->kQ (bC tm) cs e7=some r ->
   ∃oQ:Array Value,Instr.fill place vs (dP.map λp=>(p.1,ρ p.2))=some oQ/\dW w a2 B r oQ.toList
 | [],e7,cs,r,vs,aF,cm,h=>by
  simp[partsOf] at aF;subst aF;simp[kQ] at h;subst h;exact⟨vs,rfl,cm⟩
 |(i,x)::dP,e7,cs,r,vs,aF,cm,h=>by
  simp only[partsOf,ny,hH,hT,fa,cL] at aF;obtain⟨q,bF,apX,z6,rfl⟩:=aF;obtain⟨⟨o,s⟩,ia,y,aj,rfl⟩:=bF;simp only[kQ] at h
  split at h
  ·rename_i H;obtain⟨ax,G,J⟩:=H;have D0:=hρ x y aj;have apY:bC tm y ≠ .undef:=λe=>by rw[e] at ax;simp[R.known] at ax
   ·have iG:=dW.TU D0 apY;have fg:(ρ x).cells.size=s:=by have:=iG.1;simp at this;omega
    have OC:o+s<=vs.size:=by have:=cm.1;simp at this;omega
    have jk:=aeF o (ρ x).cells.toList 0 vs (by simp[fg];exact OC);simp only[lP,Array.length_toList] at jk;have TZ:=cm.lM iG o;obtain⟨oQ,aC,wU⟩:=OB hρ dP apX _ r ((vs.toList.take o++(ρ x).cells.toList++vs.toList.drop (o+(ρ x).cells.size)).toArray) z6 (by simpa using TZ) h;refine⟨oQ,?_,wU⟩;simp only[List.map_cons,Instr.fill,ia];rw[ag (by simp[fg];omega)]
    have a3:(ρ x).cells.zipIdx.foldl (λcs (p:Value×Nat)=>cs.setIfInBounds (o+p.2) p.1) vs=(vs.toList.take o++(ρ x).cells.toList++vs.toList.drop (o+(ρ x).cells.size)).toArray:=by
     rw[<-Array.foldl_toList,Array.toList_zipIdx];exact jk
    rw[<-aC]
    congr 1
  ·cases h
end
section
variable {P:Program} {A:Nat->Prop} {w:World} {B:fu} {mem:Mem}
theorem GS {a2:Nat->Prop}{t:TypeId}{z:List R}(h:zeroOf P t=some z):∃i kU,P.info? t=some i/\i.zero=some kU/\dW w a2 B z kU.cells.toList:=by
 simp only[zeroOf,fa] at h;obtain⟨kU,⟨i,Q,a3⟩,hm⟩:=h;obtain⟨G,J⟩:=oP hm;exact⟨i,kU,Q,a3,by simp[G],λj m v apZ ap0=>TT (J j v m ap0 apZ)⟩
theorem OD {t:TypeId}{i:TypeInfo}{kU:Value}(Q:P.info? t=some i)(a3:i.zero=some kU):(zeroValue t).run P w=.ok kU w:=by
 simp[zeroValue,typeInfo,Q,a3]
theorem aeH {t:TypeId}{i:TypeInfo}{n:Nat}(Q:P.info? t=some i)(U:gM P t=some n):i.size=n:=by
 simpa [gM,Q] using U
theorem aeI {t:TypeId}{i:TypeInfo}{n:Nat}(Q:P.info? t=some i)(U:GC P t=some n):i.bytes=n:=by
 simpa [GC,Q] using U
theorem T0 {z:Array Value}(ax:0<z.size):∀n,((Array.range (n*z.size)).map (z[·%z.size]!)).toList=(et n z.toList).flatten
 |0=>by simp
 |n+1=>by
  have aN:=T0 ax n;apply oR;intro i
  have av:∀m i,((Array.range (m*z.size)).map (z[·%z.size]!)).toList[i]?=if i<m*z.size then some (z[i%z.size]!) else none:=by
   intro m i;rw[Array.getElem?_toList,Array.getElem?_map]
   by_cases Q:i<m*z.size
   ·rw[ad Q,Array.getElem?_range];simp[Q]
   ·rw[ag Q,Array.getElem?_range];simp[Q]
  rw[av,List.replicate_succ',List.flatten_append,GK,<-aN];have el:((Array.range (n*z.size)).map (z[·%z.size]!)).toList.length=n*z.size:=by simp
  rw[el];have hmul:(n+1)*z.size=n*z.size+z.size:=by rw[qO,JQ]
  by_cases Q:i<n*z.size
  ·rw[ad Q,ad (by omega),av,ad Q]
  ·rw[ag Q]
   by_cases rP:i<(n+1)*z.size
   ·rw[ad rP];have az:i-n*z.size<z.size:=by omega
    have T1:i%z.size=i-n*z.size:=by
     have e:i=(i-n*z.size)+z.size*n:=by have:=Nat.mul_comm n z.size;omega
     have aB:((i-n*z.size)+z.size*n)%z.size=i-n*z.size:=by rw[Nat.add_mul_mod_self_left,Nat.mod_eq_of_lt az]
     rwa [<-e] at aB
    rw[T1];simp[az]
   ·rw[ag rP]
    symm
    rw[ja];simp;omega
theorem dW.replicate {a2:Nat->Prop}{z:List R}{aeJ:List Value}(h:dW w a2 B z aeJ):∀n,dW w a2 B (et n z).flatten (et n aeJ).flatten
 |0=>by simpa using dW.nil
 |n+1=>by
  rw[sR,j1,sR,j1];exact h.append (dW.replicate h n)
theorem dW.sI {cs:List R}{vs:List Value}{a1:World}{bQ:fu}(t:Trans A w B a1 bQ)(h:dW w (cV A B) B cs vs):dW a1 (cV A bQ) bQ cs vs :=
 ⟨h.1,λi m v G J=>(h.2 i m v G J).sI t⟩
theorem Kg {cs:List R}(ct:ga A w B mem)(w1:World)(f:Fr (λ_=>False) w w1)(a3:w1.heap.size=w.heap.size)(k:Key)(vs:Array Value)(T:TypeId)(aw:(D cs)<=vs.size)
  (cm:dW w (cV A B) B cs (vs.toList.take (D cs))):fl A w B (w1.alloc (.cells vs T)) (hn B k ⟨cy mem k,some w.heap.size,vs.size⟩) (a9 mem k (cy mem k) cs) :=
 fl.alloc ct w1 f a3 k vs T aw λi m hm=>by
  obtain⟨v,aD,Y⟩:=cm.get hm;rw[z0] at aD
  split at aD
  ·exact⟨v,by simpa using aD,Y⟩
  ·cases aD
theorem ap1 {t:TypeId}{z:List R}(k:Key)(ct:ga A w B mem)(a3:zeroOf P t=some z):
  ∃v a1 bQ,(Instr.alloc t true (.tuple #[])).run P w=.ok v a1/\fl A w B a1 bQ (a9 mem k (cy mem k) z)/\bN a1 (cV A bQ) bQ (.ptr k (cy mem k) 0) v:=by
 obtain⟨i,kU,Q,wV,cm⟩:=GS (P:=P) (w:=w) (B:=B) (a2:=cV A B) a3;have aw:(D z)=kU.cells.size:=by have:=cm.1;simp at this;omega
 refine⟨.pointer (some ⟨w.heap.size,0,none⟩),w.alloc (.cells kU.cells t),_,?_,Kg ct w (Fr.refl _ _) rfl k kU.cells t (by omega) (by rw[dp (by simp;omega)];exact cm),?_⟩
 ·simp[Instr.alloc,OD Q wV,newVar,newRow]
 ·exact .ptr (hG _ _ _) (cH _) ⟨_,rfl,λ_=>rfl⟩
theorem ap2 {t:TypeId}{m:R}{u:Value}(k:Key)(ct:ga A w B mem)(hu:bN w (cV A B) B m u)(L:m.known=true):
  ∃v a1 bQ,(Instr.box t u).run P w=.ok v a1/\fl A w B a1 bQ (a9 mem k (cy mem k) m.cells)/\bN a1 (cV A bQ) bQ (.ptr k (cy mem k) 0) v:=by
 have cm:=dW.TU hu (λe=>by rw[e] at L;simp[R.known] at L);have aw:(D m.cells)=u.cells.size:=by have:=cm.1;simp at this;omega
 refine⟨.pointer (some ⟨w.heap.size,0,none⟩),w.alloc (.cells u.cells t),_,?_,Kg ct w (Fr.refl _ _) rfl k u.cells t (by omega) (by rw[dp (by simp;omega)];exact cm),?_⟩
 ·simp[Instr.box,newVar,newRow]
 ·exact .ptr (hG _ _ _) (cH _) ⟨_,rfl,λ_=>rfl⟩
theorem ap3 {t e:TypeId}{z:List R}{bytes n c:Nat}{ea b7:R}{lQ ho:Value}{r:R}{lr:Option (Key×Nat×List R)}(k:Key)(ct:ga A w B mem)(ca:P.underlying t=some (.slice e))(a3:zeroOf P e=some z)(U:gM P e=some (D z))
  (ah:GC P e=some bytes) (G:idx ea=some n) (J:idx b7=some c) (eF:bN w (cV A B) B ea lQ) (eU:bN w (cV A B) B b7 ho) (ax:0<D z) (h:Gw k (cy mem k) z bytes n c=some (r,lr)) :
  ∃v a1 bQ,(Instr.makeSlice t lQ ho).run P w=.ok v a1/\fl A w B a1 bQ (ji mem lr)/\bN a1 (cV A bQ) bQ r v:=by
 unfold Gw at h
 split at h
 ·rename_i H;obtain⟨rfl,GU,wW⟩:=H
  cases h;obtain⟨cB,rfl⟩:=GN G eF;obtain⟨dA,rfl⟩:=GN J eU;obtain⟨i,kU,Q,wV,cm⟩:=GS (P:=P) (w:=w) (B:=B) (a2:=cV A B) a3;have aw:(D z)=kU.cells.size:=by have:=cm.1;simp at this;omega
  have fg:=aeH Q U;have Kh:=aeI Q ah
  have ng:=run_make (P:=P) w t e i kU ca Q wV cB dA (n:Int) (n:Int) (by omega) (by omega) (by
   have:((i.bytes*n:Nat):Int)<=281474976710656:=by rw[Kh];omega
   rwa [Int.natCast_mul] at this) (by unfold maxLen at wW;omega)
  simp only[Int.toNat_natCast] at ng
  have aeK:(madeCells kU.cells (n*i.size)).toList=(et n kU.cells.toList).flatten:=by
   rw[fg,aw];exact T0 (by omega) n
  have D3:(madeCells kU.cells (n*i.size)).size=n*D z:=by rw[size_madeCells,fg]
  have D4:=cm.replicate (n:=n)
  have hlen:(et n z).flatten.length=n*D z:=by
   have:=D4.1;rw[<-this,<-aeK,Array.length_toList,D3]
  refine⟨_,_,_,ng,Kg ct w (Fr.refl _ _) rfl k _ e (by rw[D3,hlen];exact cH _) ?_,?_⟩
  ·rw[dp (by rw[Array.length_toList,D3,hlen];exact cH _),aeK];exact D4
  ·refine .ref (hG _ _ _) (cH _) ⟨_,n,rfl,cH _,wW,.inr ⟨_,rfl,λ_=>⟨rfl,?_⟩⟩⟩;simp only[qW];rw[D3];exact cH _
 ·cases h
theorem aeL (ct:ga A w B mem){k:Key}{g:Nat}{cs new:List R}{e:mJ}{b:Nat}{vs:Array Value}{T:TypeId}{vals:List Value}{off:Nat}(L:mem k=some (g,cs))(he:B k=some e)(ah:e.eo=some b)
  (aY:w.heap[b]?=some (.cells vs T (0,0))) (fg:vs.size=e.size) (aw:(D cs)<=vs.size) (cm:dW w (cV A B) B cs (vs.toList.take (D cs))) (b2:e.g=g) (T2:off+D new<=D cs) (hV:dW w (cV A B) B new vals) :
  fl A w B (w.setRow b (vs.toList.take off++vals++vs.toList.drop (off+D vals)).toArray) B (a9 mem k g (lM cs off new)):=by
 have T3:(D vals)=D new:=hV.1
 have TZ:dW w (cV A B) B (lM cs off new) ((vs.toList.take off++vals++vs.toList.drop (off+D vals)).take (D cs)):=by
  have G:=cm.lM hV off
  have av:(vs.toList.take (D cs)).take off++vals++(vs.toList.take (D cs)).drop (off+D vals)=(vs.toList.take off++vals++vs.toList.drop (off+D vals)).take (D cs):=by
   have iH:(D vs.toList)=vs.size:=Array.length_toList;rw[List.take_take,oS (by omega),aeE,aeB,fX,gv,iH,oS (a:=off) (b:=vs.size) (by omega)];rw[dp (l:=vs.toList.take off++vals) (by rw[fX,gv,iH];omega)]
  rwa [av] at G
 have vt:(lM cs off new).length=D cs:=by unfold lM;simp;omega
 have heq:hn B k e=B:=by
  funext j
  unfold hn
  split
  ·rename_i aA;rw[aA,he]
  ·rfl
 have f:Fr (λb=>∃e,B k=some e/\e.eo=some b) w (w.setRow b (vs.toList.take off++vals++vs.toList.drop (off+D vals)).toArray):=by
  refine⟨rfl,rfl,rfl,by simp,λj aA bS=>?_⟩
  exact setRow_other w b j _ (λOE=>bS ⟨e,he,by rw[ah,OE]⟩)
 have:=fl.change (k:=k) (e':=e) (cs:=lM cs off new) ct f (λaB fG => .inl (by rw[he] at fG;exact oh fG)) (λee e5 => .inr ⟨e,he,e5⟩) (λaM=>by rw[ah] at aM;cases aM) (λee e5=>by
  rw[ah] at e5
  cases e5;refine⟨_,T,setRow_heap w b vs _ T (0,0) aY,by simp;omega,by rw[vt];simp;omega,λi m hm=>?_⟩
  obtain⟨v,aD,Y⟩:=TZ.get hm;rw[z0] at aD
  split at aD
  ·exact⟨v,by simpa using aD,Y⟩
  ·cases aD)
 rw[heq,b2] at this;exact this
theorem ap4 {t:TypeId}{n:Nat}{ea b7:R}{lQ ho:Value}{r:R}{lr:Option (Key×Nat×List R)}(ct:ga A w B mem)(U:gM P t=some n)(eF:bN w (cV A B) B ea lQ)(eU:bN w (cV A B) B b7 ho)
  (h:yq mem n ea b7.cells=some (r,lr)):∃a1,(Instr.storeAt t lQ ho).run P w=.ok () a1/\fl A w B a1 B (ji mem lr)/\r=.no:=by
 cases ea with
 |ptr k g off =>
  simp only[yq] at h;unfold J6 at h
  split at h
  ·rename_i eg cs L
   split at h
   ·rename_i H;obtain⟨rfl,G,J,af⟩:=H
    cases h;obtain⟨e,he,b2,aM,ah⟩:=ct.at_ L
    cases eF with
    |ptr gL TS aF =>
     rw[he] at gL
     cases gL;obtain⟨b,rfl,kT⟩:=aF;have kT:=kT b2.symm;obtain⟨vs,T,aY,fg,aw,cm⟩:=ah b kT;have ib:b7 ≠ .undef:=λe=>by rw[e] at af;simp[R.cells,R.one] at af
     have iG:=dW.TU eU ib
     have ap5:∀v∈ho.cells.toList,v.oneCell'=true:=by
      intro v aD;obtain⟨i,Q,j5⟩:=aeM aD;have lR:i<D b7.cells:=by rw[<-iG.1];exact Q
      have:=iG.2 i _ _ (bq lR) (bq Q);rw[j5] at this;exact aeu this (pz.1 af _ (lq lR))
     have aGW:ho.cells.size=n:=by have:=iG.1;simp at this;omega
     have dF:=run_storeCells_at P b off T ho.cells.toList 0 vs w aY (by simp;omega) ap5;simp only[lP] at dF;refine⟨_,?_,aeL ct L he kT aY fg aw cm b2 (by omega) iG,rfl⟩;have b6:¬ (ho.cells.size≠n):=by omega
     simp only[Instr.storeAt,Instr.sureAddr,storeVar,Sem.run_bind,Sem.run_pure,Result.andThen_ok,vp U];rw[ag b6];exact dF
   ·cases h
  ·cases h
 |_=>simp[yq] at h
end
section
variable {P:Program} {A:Nat->Prop} {w:World} {B:fu} {mem:Mem}
theorem OG (sz:Nat):∀(n:Nat) (l:List Data),(chunk sz n l).length=n
 |0,_=>rfl
 |n+1,l=>by simp[chunk,OG sz n]
theorem OH (sz:Nat):∀(n:Nat) (l:List Data),D l=n*sz->∀e∈chunk sz n l,D e=sz
 |0,_,_,e,he=>by simp[chunk] at he
 |n+1,l,aw,e,he=>by
  have hmul:(n+1)*sz=n*sz+sz:=by rw[qO,JQ]
  simp only[chunk,List.mem_cons] at he;rcases he with rfl|he
  ·simp;omega
  ·exact OH sz n _ (by simp;omega) e he
theorem OI (sz:Nat):∀(n:Nat) (l:List Data),D l=n*sz->(chunk sz n l).flatten=l
 |0,l,aw=>by simp at aw;simp[chunk,aw]
 |n+1,l,aw=>by
  have hmul:(n+1)*sz=n*sz+sz:=by rw[qO,JQ]
  simp only[chunk,j1];rw[OI sz n _ (by simp;omega),List.take_append_drop]
theorem aeN {a2:Nat->Prop}{m:R}{d:Data}{v:Value}(h:DQ m=some d)(aD:bN w a2 B m v):Den w a2 d v:=by
 unfold DQ at h
 split at h<;>cases h
 ·cases aD with
  |I h=>exact h
 ·cases aD with
  |nil=>exact .mc
theorem ap6 {ds:List Data}{vs:Array Value}{T:TypeId}{n sz:Nat}(ct:ga A w B mem)(a1:World)(hw:a1=w.alloc (.cells vs T))(aw:(D ds)=n*sz)(aD:vs.size=n*sz)(hm:n<=maxLen)
  (ab:∀(i:Nat) (d:Data) (v:Value),ds[i]?=some d->vs[i]?=some v->Den w (cV A B) d v):Den a1 (cV A B) (.X (chunk sz n ds)) (.slice (some ⟨w.heap.size,0,none⟩) n n):=by
 have ok:fl A w B a1 B mem:=by rw[hw];exact .still ct ((Fr.refl _ _).alloc _)
 have fv:=OG sz n ds
 have h:=Den.X (w:=a1) (a2:=cV A B) (es:=chunk sz n ds) (b:=w.heap.size) (off:=0) (c:=n) (sz:=sz) (λi=>vs.getD i undef) (by rw[fv];exact cH _) (by rw[fv];exact hm)
  (by rw[hw];simp) (λbS=>by
   rcases bS with bS|bS
   ·have:=ct.BQ bS;omega
   ·have:=ct.lt _ bS;omega) (OH sz n ds aw)
  (λi Q=>by
   rw[fv] at Q;rw[hw,qW];have:i<vs.size:=by omega
   simp[this])
  (λi d hI=>by
   rw[OI sz n ds aw] at hI;have az:i<D ds:=(ej.1 hI).1;have mQ:i<vs.size:=by omega
   have:vs.getD i undef=vs[i]:=by simp[mQ]
   simp only[this];exact (ab i d _ hI (Array.getElem?_eq_getElem mQ)).trans ok.nw)
 rw[fv] at h;exact h
theorem aeO {t e:TypeId}{z r:List R}{sz len:Nat}{dP:List (Nat×Operand)}{e7:List (Nat×Nat×cv)}{ρ:Operand->Value}{tm:Nat->R}{a2:Nat->Prop}(ca:P.underlying t=some (.slice e))(a3:zeroOf P e=some z)
  (U:gM P e=some sz) (D5:(D z)=sz) (ax:0<sz) (aw:len*sz<=16777216) (aF:partsOf (λi=>some (i*sz,sz)) dP=some e7) (hρ:∀x y,eD x=some y->bN w a2 B (bC tm y) (ρ x))
  (h:kQ (bC tm) (et len z).flatten e7=some r) :
  ∃vs:Array Value,(Instr.buildSlice t len (dP.map λp=>(p.1,ρ p.2)).toArray).run P w=.ok (.slice (some ⟨w.heap.size,0,none⟩) len len) (w.alloc (.cells vs e))/\dW w a2 B r vs.toList:=by
 obtain⟨i,kU,Q,wV,cm⟩:=GS (P:=P) (w:=w) (B:=B) (a2:=a2) a3;have OJ:kU.cells.size=sz:=by have:=cm.1;simp at this;omega
 have aeP:=T0 (z:=kU.cells) (by omega) len;rw[OJ] at aeP;have D4:=cm.replicate (n:=len);rw[<-aeP] at D4;obtain⟨oQ,aC,Y⟩:=OB (place:=λi=>some (i*sz,sz)) hρ dP e7 _ r _ aF D4 h;refine⟨oQ,?_,Y⟩;have aM:¬ (len*sz>2^24):=by omega
 by_cases sS:len*sz=0
 ·have bw:((Array.range (len*sz)).map (kU.cells[·%sz]!))=#[]:=by rw[sS];simp[Array.range_zero']
  have z7:Instr.fill (λi=>some (i*sz,sz)) #[] (dP.map λp=>(p.1,ρ p.2))=some oQ:=by rw[<-bw];exact aC
  simp only[Instr.buildSlice,Sem.run_bind,run_underlying ca,Result.andThen_ok,vp U];rw[ag aM];simp only[sS,if_true,Sem.run_bind,Sem.run_pure,Result.andThen_ok];simp[z7,newRow,Array.range_zero']
 ·simp only[Instr.buildSlice,Sem.run_bind,run_underlying ca,Result.andThen_ok,vp U];rw[ag aM];simp only[sS,if_false,Sem.run_bind,Sem.run_pure,Result.andThen_ok,OD Q wV,OJ];simp[aC,newRow]
theorem ap7 {t e:TypeId}{z:List R}{sz len:Nat}{dP:List (Nat×Operand)}{e7:List (Nat×Nat×cv)}{ρ:Operand->Value}{tm:Nat->R}{r:R}(ct:ga A w B mem)(ca:P.underlying t=some (.slice e))(a3:zeroOf P e=some z)
  (U:gM P e=some sz) (D5:(D z)=sz) (ax:0<sz) (aw:len*sz<=16777216) (aF:partsOf (λi=>some (i*sz,sz)) dP=some e7) (hρ:∀x y,eD x=some y->bN w (cV A B) B (bC tm y) (ρ x))
  (h:JW (et len z).flatten sz len (kQ (bC tm) (et len z).flatten e7)=some r) :
  ∃v a1,(Instr.buildSlice t len (dP.map λp=>(p.1,ρ p.2)).toArray).run P w=.ok v a1/\fl A w B a1 B mem/\bN a1 (cV A B) B r v:=by
 unfold JW at h
 split at h
 ·rename_i hlen
  cases aC:kQ (bC tm) (et len z).flatten e7 with
  |none=>rw[aC] at h;cases h
  |some cs =>
   rw[aC] at h;simp only[e1] at h;obtain⟨ds,hU,rfl⟩:=h;obtain⟨vs,ng,cm⟩:=aeO (P:=P) (B:=B) ca a3 U D5 ax aw aF hρ aC;obtain⟨G,J⟩:=oP hU
   have fv:(D cs)=len*sz:=by
    have:∀(e7:List (Nat×Nat×cv)) (a r:List R),kQ (bC tm) a e7=some r->(D r)=D a:=by
     intro e7
     induction e7 with
     |nil=>intro a r h;simp[kQ] at h;rw[h]
     |cons q e7 aN =>
      intro a r h;obtain⟨o,s,x⟩:=q;simp only[kQ] at h
      split at h
      ·rename_i H;rw[aN _ _ h];unfold lM;simp;omega
      ·cases h
    rw[this _ _ _ aC,hlen]
   have aJ:vs.size=len*sz:=by have:=cm.1;simp at this;omega
   refine⟨_,_,ng,.still ct ((Fr.refl _ _).alloc _),.I (ap6 ct _ rfl (by omega) aJ ?_ λi d v ab aD=>?_)⟩
   ·have:len<=len*sz:=aeQ _ ax;unfold maxLen;omega
   ·have az:i<D cs:=by have:=(ej.1 ab).1;omega
    have nz:=bq az;exact aeN (J i _ d nz ab) (cm.2 i _ v nz (by simpa using aD))
 ·cases h
theorem ap8 {t e:TypeId}{z:List R}{sz len:Nat}{dP:List (Nat×Operand)}{e7:List (Nat×Nat×cv)}{ρ:Operand->Value}{tm:Nat->R}{r:R}{lr:Option (Key×Nat×List R)}(k:Key)(ct:ga A w B mem)(ca:P.underlying t=some (.slice e))(a3:zeroOf P e=some z)
  (U:gM P e=some sz) (D5:(D z)=sz) (ax:0<sz) (aw:len*sz<=16777216) (aF:partsOf (λi=>some (i*sz,sz)) dP=some e7) (hρ:∀x y,eD x=some y->bN w (cV A B) B (bC tm y) (ρ x))
  (h:Gv k (cy mem k) (et len z).flatten sz len (kQ (bC tm) (et len z).flatten e7)=some (r,lr)) :
  ∃v a1 bQ,(Instr.buildSlice t len (dP.map λp=>(p.1,ρ p.2)).toArray).run P w=.ok v a1/\fl A w B a1 bQ (ji mem lr)/\bN a1 (cV A bQ) bQ r v:=by
 unfold Gv at h
 split at h
 ·rename_i hlen
  cases aC:kQ (bC tm) (et len z).flatten e7 with
  |none=>rw[aC] at h;cases h
  |some cs =>
   rw[aC] at h
   cases h;obtain⟨vs,ng,cm⟩:=aeO (P:=P) (B:=B) ca a3 U D5 ax aw aF hρ aC
   have fv:(D cs)=len*sz:=by
    have:∀(e7:List (Nat×Nat×cv)) (a r:List R),kQ (bC tm) a e7=some r->(D r)=D a:=by
     intro e7
     induction e7 with
     |nil=>intro a r h;simp[kQ] at h;rw[h]
     |cons q e7 aN =>
      intro a r h;obtain⟨o,s,x⟩:=q;simp only[kQ] at h
      split at h
      ·rename_i H;rw[aN _ _ h];unfold lM;simp;omega
      ·cases h
    rw[this _ _ _ aC,hlen]
   have aJ:vs.size=D cs:=by have:=cm.1;simp at this;omega
   refine⟨_,_,_,ng,Kg ct w (Fr.refl _ _) rfl k vs e (by omega) (by rw[dp (by simp;omega)];exact cm),?_⟩
   have iv:len<=maxLen:=by
    have:len<=len*sz:=aeQ _ ax;unfold maxLen;omega
   exact .ref (hG _ _ _) (cH _) ⟨_,len,rfl,cH _,iv,.inr ⟨_,rfl,λ_=>⟨rfl,by simp only[qW];omega⟩⟩⟩
 ·cases h
theorem aeR {m:R}{sz n:Nat}{new:List R}{v:Value}(ct:ga A w B mem)(aD:bN w (cV A B) B m v)(h:qR mem sz m=some (n,new)):
  ∃a c vals,v=.slice a n c/\dW w (cV A B) B new vals/\D vals=n*sz/\(0<n->∃b off,a=some ⟨b,off,none⟩/\e6 w b off vals):=by
 unfold qR at h
 split at h
 ·split at h
  ·rename_i es oT
   cases h;have oT:=TY oT
   cases aD with
   |I ab =>
    cases ab with
    |mc=>exact⟨_,_,[],rfl,by simpa using dW.nil,by simp,λh=>by simp at h⟩
    | @X es b off c eQ val aw hm ah gj fg H B2 =>
     have iI:=Od oT;rcases ko (D es) with ax|ax
     ·have:es=[]:=tW ax;subst this;exact⟨_,_,[],rfl,by simpa using dW.nil,by simp,λh=>by simp at h⟩
     ·have Kf:eQ=sz:=by
       have p4:=lq (l:=es) (n:=0) ax;rw[<-fg _ p4,oT _ p4]
      subst Kf;refine⟨_,_,(eN (D es*eQ)).map val,rfl,?_,by simp,λ_=>⟨b,off,rfl,λj u aA=>?_⟩⟩
      ·refine dW.I (by simp[iI]) λi d u G J=>?_;have Q:i<D es*eQ:=by have:=(ej.1 G).1;omega
       rw[bj,tU Q] at J;simp only[lu,cL] at J;subst J;exact B2 i d G
      ·have Q:j<D es*eQ:=by have:=(ej.1 aA).1;simpa using this
       rw[bj,tU Q] at aA;simp only[lu,cL] at aA;subst aA;exact H j Q
  ·cases h
 ·cases h
  cases aD with
  |nil=>exact⟨_,_,[],rfl,dW.nil,by simp,λh=>by simp at h⟩
 ·rename_i k g eQ off len
  split at h
  ·rename_i fg;subst fg
   split at h
   ·rename_i eg cs L
    split at h
    ·rename_i bz;subst bz;simp only[e1,fS] at h;obtain⟨part,sT,rfl,rfl⟩:=h;obtain⟨aw,rfl,aM⟩:=GL sT
     cases aD with
     |ref he bz Y =>
      obtain⟨e,gL,b2,GM,ah⟩:=ct.at_ L;rw[he] at gL
      cases gL;obtain⟨a,cap,rfl,G,J,af⟩:=Y;rcases af with af|⟨b,rfl,aT⟩
      ·have:len=0:=by omega
       subst this;exact⟨_,_,[],rfl,by simpa using dW.nil,by simp,λh=>by omega⟩
      ·obtain⟨bx,b0⟩:=aT b2.symm;obtain⟨vs,T,aY,a3,hle,cm⟩:=ah b bx;refine⟨_,_,((vs.toList.take (D cs)).drop off).take (len*eQ),rfl,(cm.drop off).take _,by have:=((cm.drop off).take (len*eQ)).1;omega,λ_=>⟨b,off,rfl,?_⟩⟩
       have:=(((e6.row aY).take (D cs)).add off).take (len*eQ)
       simpa using this
    ·cases h
   ·cases h
  ·cases h
 ·cases h
theorem OK {sz n c:Nat}{a:Option Addr}{vals:List Value}(aw:(D vals)=n*sz)(bY:0<n->∃b off,a=some ⟨b,off,none⟩/\e6 w b off vals)(a1:World)(hw:a1.heap=w.heap):
  (Builtin.firstCells sz n (.slice a n c)).run P a1 = .ok vals.toArray a1:=by
 have H:∀p,a1.cell? p=w.cell? p:=λp=>by simp[World.cell?,hw]
 rcases ko n with ax|ax
 ·subst ax;have:vals=[]:=tW (by simpa using aw);subst this
  cases a with
  |none=>simp[Builtin.firstCells]
  |some a=>simp[Builtin.firstCells,loadCells,loadCellsFrom]
 ·obtain⟨b,off,rfl,z8⟩:=bY ax;exact run_firstCells_some a1 sz n _ n c vals aw λj v aA=>by rw[z1,H];exact z8 j v aA
theorem dW.aeS {a2:Nat->Prop}{cs:List R}{vs:List Value}(h:dW w a2 B cs vs)(G:cs.all R.one=true):∀v∈vs,v.oneCell'=true:=by
 intro v aD;obtain⟨i,Q,j5⟩:=aeM aD;have lR:i<D cs:=by rw[<-h.1];exact Q
 have:=h.2 i _ _ (bq lR) (bq Q);rw[j5] at this;exact aeu this (pz.1 G _ (lq lR))
theorem T4 {t ty e:TypeId}{sz pA wX n c:Nat}{base a:Option Addr}{vals:List Value}(ca:P.underlying t=some (.slice e))(U:gM P e=some sz)(yz:pA+n<=wX)
  (aC:(Builtin.firstCells sz n (.slice a n c)).run P w=.ok vals.toArray w) (a1:World)
  (dF:∀b,base=some b->(storeCells (b.add (pA*sz)) vals).run P w=.ok () a1) (aM:base=none->a1=w) :
  (Builtin.append_ #[t,t] ty #[.slice base pA wX,.slice a n c]).run P w=.ok (.slice base (pA+n) wX) a1:=by
 simp only[gM,e1] at U;obtain⟨i,Q,rfl⟩:=U
 cases base with
 |none=>simp[Builtin.append_,run_underlying ca,sizeOf,typeInfo,Q,Builtin.lenOf,yz,aC,aM rfl]
 |some b=>simp[Builtin.append_,run_underlying ca,sizeOf,typeInfo,Q,Builtin.lenOf,yz,aC,dF b rfl]
theorem ap9 {t ty e:TypeId}{sz pA wX n c bytes:Nat}{base a:Option Addr}{p5 vals:List Value}{i:TypeInfo}{z:Value}(ca:P.underlying t=some (.slice e))(Q:P.info? e=some i)(a3:i.zero=some z)(fg:i.size=sz)(Kh:i.bytes=bytes)
  (yz:wX<pA+n) (ll:∀a1,a1.heap=w.heap->(Builtin.firstCells sz pA (.slice base pA wX)).run P a1 = .ok p5.toArray a1) (aC:∀a1,a1.heap=w.heap->(Builtin.firstCells sz n (.slice a n c)).run P a1 = .ok vals.toArray a1)
  (aqa:pA+n<=maxLen) (ah:(pA+n)*bytes<=140737488355328) :
  (Builtin.append_ #[t,t] ty #[.slice base pA wX,.slice a n c]).run P w =
   .ok (.slice (some ⟨w.heap.size,0,none⟩) (pA+n) (grownCap w (pA+n) wX e))
    (w.drew.alloc (.cells (p5.toArray++vals.toArray++Builtin.zeroCells z.cells (grownCap w (pA+n) wX e-(pA+n))) e)):=by
 subst fg;subst Kh
 have aM:¬ (pA+n<=wX):=by omega
 have aqb:¬ (9223372036854775807<((pA:Int)+(n:Int))):=by unfold maxLen at aqa;omega
 have OC:=growslice_fits yz ah;have aqc:¬ (281474976710656<Builtin.nextslicecap (pA+n) wX*i.bytes):=by omega
 have G:=ll w.drew rfl;have J:=aC w.drew rfl;simp[Builtin.append_,run_underlying ca,sizeOf,typeInfo,zeroValue,Q,a3,Builtin.lenOf,aM,aqb,aqc,Question.forced,G,J,newRow,grownCap,<-List.append_toArray,Array.append_assoc]
theorem aqd {t ty e:TypeId}{z:List R}{bytes n:Nat}{ea b7:R}{lQ ho:Value}{new:List R}{r:R}{lr:Option (Key×Nat×List R)}(k:Key)(ct:ga A w B mem)(ca:P.underlying t=some (.slice e))(a3:zeroOf P e=some z)(U:gM P e=some (D z))
  (Kh:GC P e=some bytes) (ax:0<D z) (eF:bN w (cV A B) B ea lQ) (eU:bN w (cV A B) B b7 ho) (gd:qR mem (D z) b7=some (n,new)) (h:rM mem k z bytes ea (some (n,new))=some (r,lr)) :
  ∃v a1 bQ,(Builtin.append_ #[t,t] ty #[lQ,ho]).run P w=.ok v a1/\fl A w B a1 bQ (ji mem lr)/\bN a1 (cV A bQ) bQ r v:=by
 obtain⟨cO,c2,vals,rfl,cm,iH,bY⟩:=aeR ct eU gd;obtain⟨i,kU,Q,wV,aqe⟩:=GS (P:=P) (w:=w) (B:=B) (a2:=cV A B) a3;have fg:=aeH Q U;have kT:=aeI Q Kh;have OJ:kU.cells.size=D z:=by have:=aqe.1;simp at this;omega
 have p6:(D new)=n*D z:=by rw[<-cm.1,iH]
 have aC:=λa1 hw=>OK (P:=P) (w:=w) (c:=c2) iH bY a1 hw
 -- a new block
 have grow:∀(base:Option Addr) (len cap:Nat) (g:Nat) (k':Key) (cs:List R) (p5:List Value),cap<len+n->(∀a1,a1.heap=w.heap->(Builtin.firstCells (D z) len (.slice base len cap)).run P a1 = .ok p5.toArray a1) ->
   dW w (cV A B) B cs p5->(D cs)=len*(D z)->len+n<=maxLen->(len+n)*bytes<=140737488355328->g=cy mem k' ->
   ∃v a1 bQ,(Builtin.append_ #[t,t] ty #[.slice base len cap,.slice cO n c2]).run P w=.ok v a1/\fl A w B a1 bQ (a9 mem k' g (cs++new))/\bN a1 (cV A bQ) bQ (.ref k' g (D z) 0 (len+n)) v:=by
  intro base len cap g k' cs p5 yz ll jj fv wW GU bz;subst bz;have ng:=ap9 (P:=P) (ty:=ty) ca Q wV fg kT yz ll aC wW GU;have b2:=grownCap_ge w (len+n) cap e;have hle:=grownCap_le_maxLen w (len+n) cap e wW
  have D3:(p5.toArray++vals.toArray++Builtin.zeroCells kU.cells (grownCap w (len+n) cap e-(len+n))).size=grownCap w (len+n) cap e*D z:=by
   have D6:=jj.1;simp only[Array.size_append,List.size_toArray,size_zeroCells,OJ,D6,fv,iH];rw[<-qO,<-qO]
   congr 1
   omega
  have dB:=jj.append cm;have hmul:(len+n)*D z<=grownCap w (len+n) cap e*D z:=og _ b2;have Ki:(cs++new).length=(len+n)*D z:=by rw[fX,fv,p6,qO]
  refine⟨_,_,_,ng,Kg (cs:=cs++new) ct w.drew ((Fr.refl _ _).drew _) rfl k' _ e (by rw[D3,Ki];exact hmul) ?_,?_⟩
  ·have:(p5.toArray++vals.toArray++Builtin.zeroCells kU.cells (grownCap w (len+n) cap e-(len+n))).toList.take (cs++new).length=p5++vals:=by
    simp only[Array.toList_append,List.toList_toArray];rw[List.take_append_of_le_length (by rw[dB.1];exact cH _),dp (by rw[dB.1];exact cH _)]
   rw[this];exact dB
  ·refine .ref (hG _ _ _) (cH _) ⟨_,_,rfl,b2,hle,.inr ⟨_,rfl,λ_=>⟨rfl,?_⟩⟩⟩;simp only[qW];rw[D3];exact cH _
 cases ea with
 |nil =>
  simp only[rM] at h
  split at h
  ·rename_i H;obtain⟨GU,wW,yA⟩:=H
   cases h
   cases eF with
   | @nil cE =>
    rcases ko n with mR|mR
    ·subst mR;have GV:vals=[]:=tW (by simpa using iH);have T5:new=[]:=tW (by simpa using p6);subst GV;subst T5
     refine⟨_,_,_,T4 (P:=P) (ty:=ty) ca U (cH _) (aC w rfl) w (λb _=>by simp[storeCells]) (λ_=>rfl),fl.zW ct k,?_⟩;exact .ref (hG _ _ _) (cH _) ⟨_,0,rfl,cH _,fm _,.inl rfl⟩
    ·have:=grow cE 0 0 (cy mem k) k [] [] (by omega) (λa1 hw=>by
      have:=OK (P:=P) (w:=w) (sz:=D z) (n:=0) (c:=0) (a:=cE) (vals:=[]) (by simp) (λh=>by omega) a1 hw;exact this) dW.nil (by simp) (by omega) (by simpa using GU) rfl
     simpa [ji] using this
  ·cases h
 |ref k' g eQ off len =>
  simp only[rM] at h
  split at h
  ·rename_i H;obtain⟨rfl,rfl⟩:=H;unfold kS at h
   split at h
   ·rename_i eg cs L
    split at h
    ·rename_i H;obtain⟨rfl,hlen,GU,wW,yA⟩:=H
     cases h;obtain⟨GW,sU,b2,GM,ah⟩:=ct.at_ L;have oU:eg+1=cy mem k':=by simp[cy,L]
     cases eF with
     |ref he bz Y =>
      rw[sU] at he
      cases he;obtain⟨cE,cap,rfl,G,J,af⟩:=Y
      have hold:∃p5,dW w (cV A B) B (cs.take (len*D z)) p5/\D p5=len*D z/\(0<len->∃b off,cE=some ⟨b,off,none⟩/\e6 w b off p5):=by
       rcases af with af|⟨b,rfl,aT⟩
       ·have:len=0:=by omega
        subst this;exact⟨[],by simpa using dW.nil,by simp,λh=>by omega⟩
       ·obtain⟨bx,b0⟩:=aT b2.symm;obtain⟨vs,T,aY,Kj,hle,D7⟩:=ah b bx;refine⟨(vs.toList.take (D cs)).take (len*D z),D7.take _,by have:=(D7.take (len*D z)).1;rw[this];simp;omega,λ_=>⟨b,0,rfl,((e6.row aY).take _).take _⟩⟩
      obtain⟨p5,OL,T6,aeT⟩:=hold
      by_cases yz:len+n<=cap
      ·rcases af with af|⟨b,rfl,aT⟩
       ·-- no room, and nothing comes
        have nA:len=0:=by omega
        have mR:n=0:=by omega
        subst nA;subst mR;subst af
        have GV:vals=[]:=tW (by simpa using iH);have T5:new=[]:=tW (by simpa using p6);subst GV;subst T5
        refine⟨_,_,hn B k' ⟨cy mem k',none,0⟩,T4 (P:=P) (ty:=ty) ca U (cH _) (aC w rfl) w (λb _=>by simp[storeCells]) (λ_=>rfl),?_,?_⟩
        ·have:=fl.zW ct k'
         simpa [ji,oU] using this
        ·rw[oU];exact .ref (hG _ _ _) (cH _) ⟨_,0,rfl,cH _,fm _,.inl rfl⟩
       ·obtain⟨bx,b0⟩:=aT b2.symm;obtain⟨vs,T,aY,Kj,hle,D7⟩:=ah b bx;have hmul:(len+n)*D z<=cap*D z:=og _ yz;have aeU:(len+n)*D z=len*D z+n*D z:=qO _ _ _;have dF:=run_storeCells_at P b (len*D z) T vals 0 vs w aY (by omega) (cm.aeS yA);simp only[lP] at dF
        have D6:p5=vs.toList.take (len*D z):=by
         apply oR;intro j;rcases g2 j (len*D z) with aA|aA
         ·have iF:0<len:=by
           rcases ko len with h|h
           ·subst h;simp at aA
           ·exact h
          obtain⟨fy,aGX,aeV,wY⟩:=aeT iF;simp only[cL,Addr.mk.injEq,and_true] at aeV;obtain⟨rfl,rfl⟩:=aeV;have vu:j<D p5:=by omega
          have nf:=wY j _ (bq vu);rw[qW,cell_of_row w b j vs T (0,0) aY] at nf;rw[bq vu,z0,ad aA,<-nf,Array.getElem?_toList]
         ·rw[ja (by omega),z0,ag (by omega)]
        have aeW:(vs.toList.take (len*D z)++vals++vs.toList.drop (len*D z+D vals)).toArray.size=GW.size:=by
         simp;omega
        have f:Fr (λb=>∃e,B k'=some e/\e.eo=some b) w (w.setRow b (vs.toList.take (len*D z)++vals++vs.toList.drop (len*D z+D vals)).toArray):=by
         refine⟨rfl,rfl,rfl,by simp,λj aA bS=>?_⟩
         exact setRow_other w b j _ (λOE=>bS ⟨GW,sU,by rw[bx,OE]⟩)
        have Ki:(cs.take (len*D z)++new).length=len*D z+D vals:=by
         rw[fX,p6,iH,gv,oS hlen]
        have ok:=fl.change (k:=k') (e':=⟨eg+1,some b,GW.size⟩) (cs:=cs.take (len*D z)++new) ct f
         (λaB fG => .inr (by rw[sU] at fG;cases fG;simp only;omega)) (λee e5 => .inr ⟨GW,sU,by rw[bx];exact e5⟩) (λaM=>by cases aM) (λee e5=>by
          cases e5;refine⟨_,T,setRow_heap w b vs _ T (0,0) aY,aeW,by rw[aeW,Ki,iH];omega,λi m hm=>?_⟩
          have dB:=OL.append cm;obtain⟨v,aD,Y⟩:=dB.get hm;refine⟨v,?_,Y⟩;rw[D6] at aD;have az:i<(vs.toList.take (len*D z)++vals).length:=(ej.1 aD).1;simp only[aeX];rw[oe az];exact aD)
        refine⟨_,_,_,T4 (P:=P) (ty:=ty) (a:=cO) (c:=c2) (vals:=vals) ca U yz (aC w rfl) _ (λfy mP=>by
         cases mP;rw[z1,qW];exact dF) (λh=>by cases h),ok,?_⟩
        exact .ref (hG _ _ _) (cH _) ⟨_,cap,rfl,yz,J,.inr ⟨b,rfl,λ_=>⟨rfl,b0⟩⟩⟩
      ·have:=grow cE len cap (eg+1) k' (cs.take (len*D z)) p5 (by omega) (λa1 hw=>OK (P:=P) (w:=w) T6 aeT a1 hw) OL (by rw[gv,oS hlen]) wW GU oU;exact this
    ·cases h
   ·cases h
  ·cases h
 |_=>simp[rM] at h
theorem aqf {t u ty e:TypeId}{sz n:Nat}{ea b7:R}{lQ ho:Value}{new:List R}{r:R}{lr:Option (Key×Nat×List R)}(ct:ga A w B mem)(ca:P.underlying t=some (.slice e))(U:gM P e=some sz)
  (eF:bN w (cV A B) B ea lQ) (eU:bN w (cV A B) B b7 ho) (gd:qR mem sz b7=some (n,new)) (h:wR mem sz ea (some (n,new))=some (r,lr)) :
  ∃v a1,(Builtin.copy_ #[t,u] ty #[lQ,ho]).run P w=.ok v a1/\fl A w B a1 B (ji mem lr)/\bN a1 (cV A B) B r v:=by
 obtain⟨cO,c2,vals,rfl,cm,iH,bY⟩:=aeR ct eU gd;have p6:(D new)=n*sz:=by rw[<-cm.1,iH]
 cases ea with
 |ref k g eQ off len =>
  simp only[wR] at h
  split at h
  ·rename_i fg;subst fg;unfold BV at h
   split at h
   ·rename_i eg cs L
    split at h
    ·rename_i H;obtain⟨rfl,OC,yA⟩:=H
     cases h;obtain⟨GW,sU,b2,GM,ah⟩:=ct.at_ L;have OM:Nat.min n len=min n len:=rfl;have hle:min n len<=n:=Nat.min_le_left _ _;have aqg:min n len<=len:=Nat.min_le_right _ _;have p3:min n len*eQ<=n*eQ:=og _ hle;have aGY:min n len*eQ<=len*eQ:=og _ aqg;have rS:(vals.take (min n len*eQ)).length=min n len*eQ:=by rw[gv,iH,oS p3]
     have B3:∀(a:Option Addr) (c:Nat),(0<n->∃b off,a=some ⟨b,off,none⟩/\e6 w b off vals)->(Builtin.firstCells eQ (min n len) (.slice a n c)).run P w=.ok (vals.take (min n len*eQ)).toArray w:=by
      intro a c bY
      have:=OK (P:=P) (w:=w) (sz:=eQ) (n:=min n len) (c:=c) (a:=a) (vals:=vals.take (min n len*eQ)) rS (λh=>by
       obtain⟨b,off,G,J⟩:=bY (by omega);exact⟨b,off,G,J.take _⟩) w rfl
      cases a with
      |none=>simpa [Builtin.firstCells] using this
      |some a=>simpa [Builtin.firstCells] using this
     cases eF with
     |ref he bz Y =>
      rw[sU] at he
      cases he;obtain⟨cE,cap,rfl,G,J,af⟩:=Y;simp only[gM,e1] at U;obtain⟨i,Q,T7⟩:=U;rcases af with af|⟨b,rfl,aT⟩
      ·have nA:len=0:=by omega
       subst nA;have p4:min n 0=0:=Nat.min_zero _;have jR:lM cs off (new.take (min n 0*eQ))=cs:=by simp[lM]
       have dF:∀a:Addr,(storeCells a ([]:List Value)).run P w=.ok () w:=λa=>by simp[storeCells]
       have Kk:=B3 cO c2 bY;simp only[p4,Nat.zero_mul,List.take_zero] at Kk
       have kp:hn B k GW=B:=by
        funext j;unfold hn;split
        ·rename_i aA;rw[aA,sU]
        ·rfl
       refine⟨.int .i64 0,w,?_,?_,by simpa using bN.ofInt⟩
       ·cases cE with
        |none=>simp[Builtin.copy_,run_underlying ca,Builtin.lenOf,sizeOf,typeInfo,Q,T7,Kk,goInt]
        |some a=>simp[Builtin.copy_,run_underlying ca,Builtin.lenOf,sizeOf,typeInfo,Q,T7,Kk,dF,goInt]
       ·have hJ:a9 mem k eg cs=mem:=by
         funext j;unfold a9;split
         ·rename_i aA;rw[aA,L]
         ·rfl
        simp only[ji,jR,hJ];exact .refl ct
      ·obtain⟨bx,b0⟩:=aT b2.symm;obtain⟨vs,T,aY,Kj,T8,D7⟩:=ah b bx;have dF:=run_storeCells_at P b off T (vals.take (min n len*eQ)) 0 vs w aY (by omega) (λv aD=>cm.aeS yA v (z5 aD));simp only[lP] at dF;refine⟨.int .i64 ((min n len:Nat):Int),_,?_,aeL ct L sU bx aY Kj T8 D7 b2 (by rw[gv,p6,oS p3];omega) (cm.take (min n len*eQ)),.ofInt⟩;have Kk:=B3 cO c2 bY;simp[Builtin.copy_,run_underlying ca,Builtin.lenOf,sizeOf,typeInfo,Q,T7,OM,Kk,dF,goInt]
    ·cases h
   ·cases h
  ·cases h
 |_=>simp[wR] at h
end
end Go.Mini
namespace Go.Mini
open Go
variable {P:Program} {A:Nat->Prop} {w:World} {B:fu} {mem:Mem}
theorem aqh {t e:TypeId}{sz l h len:Nat}{m r:R}{v:Value}{lo lp:Option Value}{cY Q:Option R}(ct:ga A w B mem)(ca:P.underlying t=some (.array len e))(U:gM P e=some sz)(aGZ:len<=16777216)
  (iu:lh 0 cY=some l) (jQ:lh len Q=some h) (nd:rQ w (cV A B) B cY lo) (md:rQ w (cV A B) B Q lp) (hm:bN w (cV A B) B m v) (Y:BU mem len sz l h m=some r) :
  ∃z,(Instr.sliceAt t v lo lp none).run P w=.ok z w/\bN w (cV A B) B r z:=by
 unfold BU at Y
 split at Y
 ·rename_i k g off;unfold TO at Y
  split at Y
  ·rename_i eg cs L
   split at Y
   ·rename_i H;obtain⟨rfl,G,J,af⟩:=H
    cases Y
    cases hm with
    |ptr he bz aD =>
     obtain⟨b,rfl,ah⟩:=aD;obtain⟨e',gL,b2,aM,gh⟩:=ct.at_ L;rw[gL] at he
     cases he;have kT:=ah b2.symm;obtain⟨vs,T,aY,a3,hle,_⟩:=gh b kT;refine⟨.slice (some (if len=l then ⟨b,off,none⟩ else ⟨b,off+l*sz,none⟩)) (h-l) (len-l),?_,.ref gL bz ⟨_,len-l,rfl,by omega,by unfold maxLen;omega,?_⟩⟩
     ·simp[Instr.sliceAt,run_underlying ca,Instr.sureAddr,TW (P:=P) (w:=w) false iu jQ nd md G J,vp U]
      split<;>simp[z1]
     ·rcases OA (e4 G J) with aw|aw
      ·exact .inl (by omega)
      ·refine .inr ⟨b,by rw[ag (by omega)],λ_=>⟨kT,?_⟩⟩
       have:off+l*sz+(len-l)*sz=off+len*sz:=by
        rw[tT,<-qO]
        congr 2
        omega
       omega
   ·cases Y
  ·cases Y
 ·cases Y
theorem aqi {eh:List Field}(h:(eh.all λf=>(gM P f.type).isSome)=true):∃dP:List (Nat×Nat),(eh.mapM λf=>(do pure (f.offset,<-sizeOf f.type):Sem (Nat×Nat))).run P w=.ok dP w /\
  ∀i:Nat,dP[i]?=vm P eh.toArray i:=by
 induction eh with
 |nil=>exact⟨[],by simp,λi=>by simp[vm]⟩
 |cons f r aN =>
  simp only[List.all_cons,fw] at h;obtain⟨dP,G,J⟩:=aN h.2;obtain⟨s,U⟩:=Option.isSome_iff_exists.1 h.1;refine⟨(f.offset,s)::dP,?_,λi=>?_⟩
  ·simp only[ny,Sem.run_bind,vp U,Result.andThen_ok,Sem.run_pure];rw[G]
   rfl
  ·cases i with
   |zero=>simp[vm,U]
   |succ i =>
    have:=J i;simp only[vm,aeX,List.getElem?_cons_succ] at this ⊢;exact this
theorem aqj {p q:Nat->Option (Nat×Nat)}(h:∀i,p i=q i)(cs:Array Value)(l:List (Nat×Value)):Instr.fill p cs l=Instr.fill q cs l:=by
 rw[show p=q from funext h]
theorem aqk {t:TypeId}{eh:Array Field}{z r:List R}{dP:List (Nat×Operand)}{e7:List (Nat×Nat×cv)}{ρ:Operand->Value}{tm:Nat->R}{a2:Nat->Prop}(ca:P.underlying t=some (.struct eh))(a3:zeroOf P t=some z)
  (aW:(eh.toList.all λf=>(gM P f.type).isSome)=true) (aF:partsOf (vm P eh) dP=some e7) (hρ:∀x y,eD x=some y->bN w a2 B (bC tm y) (ρ x))
  (h:kQ (bC tm) z e7=some r):∃v,(Instr.build t (dP.map λp=>(p.1,ρ p.2)).toArray).run P w=.ok v w/\bN w a2 B (.agg r) v:=by
 obtain⟨i,kU,Q,wV,cm⟩:=GS (P:=P) (w:=w) (B:=B) (a2:=a2) a3;obtain⟨pl,G,J⟩:=aqi (w:=w) aW;obtain⟨oQ,aC,Y⟩:=OB (place:=vm P eh) hρ dP e7 _ r _ aF cm h;refine⟨.agg oQ,?_,by rw[show oQ=oQ.toList.toArray from by simp];exact .agg Y.1 Y.2⟩
 ·have wZ:∀i,pl.toArray[i]?=vm P eh i:=λi=>by simpa using J i
  have hm:(eh.mapM λf=>(do pure (f.offset,<-sizeOf f.type):Sem (Nat×Nat))).run P w=.ok pl.toArray w:=by
   rw[Array.mapM_eq_mapM_toList];rw[map_eq_pure_bind];simp only[Sem.run_bind,G,Result.andThen_ok,Sem.run_pure]
  simp only[Instr.build,Sem.run_bind,OD Q wV,Result.andThen_ok,Sem.run_pure,run_underlying ca,hm,aqj wZ,aC]
theorem aql {t e:TypeId}{n sz:Nat}{z r:List R}{dP:List (Nat×Operand)}{e7:List (Nat×Nat×cv)}{ρ:Operand->Value}{tm:Nat->R}{a2:Nat->Prop}(ca:P.underlying t=some (.array n e))(a3:zeroOf P t=some z)
  (U:gM P e=some sz) (aF:partsOf (λi=>some (i*sz,sz)) dP=some e7) (hρ:∀x y,eD x=some y->bN w a2 B (bC tm y) (ρ x))
  (h:kQ (bC tm) z e7=some r):∃v,(Instr.build t (dP.map λp=>(p.1,ρ p.2)).toArray).run P w=.ok v w/\bN w a2 B (.agg r) v:=by
 obtain⟨i,kU,Q,wV,cm⟩:=GS (P:=P) (w:=w) (B:=B) (a2:=a2) a3;obtain⟨oQ,aC,Y⟩:=OB (place:=λi=>some (i*sz,sz)) hρ dP e7 _ r _ aF cm h;refine⟨.agg oQ,?_,by rw[show oQ=oQ.toList.toArray from by simp];exact .agg Y.1 Y.2⟩
 simp only[Instr.build,Sem.run_bind,OD Q wV,Result.andThen_ok,Sem.run_pure,run_underlying ca,vp U,aC]
end Go.Mini
namespace Go.Mini
open Go
variable {P:Program} {A:Nat->Prop} {w:World} {B:fu} {mem:Mem}
def aqm (n:Next)(v:Value):Prop:=n=.value v\/(n=.skip/\v=undef)
def iJ (A:Nat->Prop)(w:World)(B:fu)(run:Result Next)(mem':Mem)(r:R):Prop :=
 ∃n v a1 bQ,run=.ok n a1/\aqm n v/\fl A w B a1 bQ mem'/\bN a1 (cV A bQ) bQ r v
theorem iJ.mS {s:Sem Value}{r:R}(ct:ga A w B mem)(h:∃v,s.run P w=.ok v w/\bN w (cV A B) B r v):iJ A w B ((do pure (.value (<-s)):Sem Next).run P w) mem r:=by
 obtain⟨v,G,J⟩:=h;exact⟨.value v,v,w,B,by simp[G],.inl rfl,.refl ct,J⟩
theorem iJ.of {s:Sem Value}{mem':Mem}{r:R}(h:∃v a1 bQ,s.run P w=.ok v a1/\fl A w B a1 bQ mem'/\bN a1 (cV A bQ) bQ r v):iJ A w B ((do pure (.value (<-s)):Sem Next).run P w) mem' r:=by
 obtain⟨v,a1,bQ,G,J,af⟩:=h;exact⟨.value v,v,a1,bQ,by simp[G],.inl rfl,J,af⟩
theorem aeY {x:Option R}{r:R}{lr:Option (Key×Nat×List R)}(h:lN x=some (r,lr)):x=some r/\lr=none:=by
 unfold lN at h
 split at h<;>cases h
 exact⟨rfl,rfl⟩
theorem qY {x:Option Nat}{f:Nat->Option R}{r:R}(h:kR x f=some r):∃n,x=some n/\f n=some r:=by
 unfold kR at h
 split at h
 ·exact⟨_,rfl,h⟩
 ·cases h
theorem aeZ {x y:Option Nat}{f:Nat->Nat->Out}{r:R×Option (Key×Nat×List R)}(h:J5 x y f=some r):∃n m,x=some n/\y=some m/\f n m=some r:=by
 unfold J5 at h
 split at h
 ·exact⟨_,_,rfl,rfl,h⟩
 ·cases h
theorem D8 {a2:Nat->Prop}{ρ:Operand->Value}{tm:Nat->R}(hρ:∀x y,eD x=some y->bN w a2 B (bC tm y) (ρ x)){x:Option Operand}{y:Option cv}(h:tS x=some y):rQ w a2 B (y.map (bC tm)) (x.map ρ):=by
 cases x with
 |none=>simp[tS] at h;subst h;simp[rQ]
 |some x =>
  simp only[tS,e1] at h;obtain⟨y',aj,rfl⟩:=h;simp only[lu,rQ];exact hρ _ _ aj
theorem ae0 {eh:Array Field}{f o s:Nat}(h:vm P eh f=some (o,s)):∃fd,eh[f]?=some fd/\fd.offset=o/\gM P fd.type=some s:=by
 simp only[vm,hH,hT,fa,cL,fS] at h;obtain⟨fd,G,Kl,J,af,aT⟩:=h;exact⟨fd,G,af,aT ▸ J⟩
theorem B4 {a2:Nat->Prop}{ρ:Operand->Value}{tm:Nat->R}(hρ:∀x y,eD x=some y->bN w a2 B (bC tm y) (ρ x)):∀{l:List Operand} {r:List cv},l.mapM eD=some r->dW w a2 B (r.map (bC tm)) (l.map ρ)
 | [],r,h=>by simp at h;subst h;exact dW.nil
 |x::l,r,h=>by
  simp only[ny,hH,hT,fa,cL] at h;obtain⟨y,aj,zX,Y,rfl⟩:=h;exact dW.cons (hρ _ _ aj) (B4 hρ Y)
theorem B5 {α β:Type}(a:Array α)(f:α->β):a.map f=(a.toList.map f).toArray:=by
 apply Array.ext';simp
theorem jz {tm:Nat->R}{m:kl}{r:R}{lr:Option (Key×Nat×List R)}{x:Option R}(h:c6 mem tm m=some (r,lr))(e:c6 mem tm m=lN x):x=some r/\lr=none:=aeY (e.symm.trans h)
theorem aqn {ρ:Operand->Value}{tm:Nat->R}{kb:Nat}{own:List Nat}{dst:Option Tmp}{type:TypeId}{c:Call}{m:kl}{r:R}{lr:Option (Key×Nat×List R)}(ct:ga A w B mem)
  (hρ:∀x y,eD x=some y->bN w (cV A B) B (bC tm y) (ρ x)) (bc:BX P kb own dst type c=some m) (h:c6 mem tm m=some (r,lr)) :
  iJ A w B ((do let d <-resolve ρ c type;invoke d.target d.args:Sem Next).run P w) (ji mem lr) r:=by
 obtain⟨callee,args,argTypes⟩:=c;have two:∀{α:Type} (a:Array α) (x y:α),a.toList=[x,y]->a=#[x,y]:=λa x y h=>Array.ext' (by simpa using h);have one:∀{α:Type} (a:Array α) (x:α),a.toList=[x]->a=#[x]:=λa x h=>Array.ext' (by simpa using h);unfold BX at bc
 split at bc
 ·rename_i x t H aW ca;simp only at H aW ca;subst H;obtain rfl:=one _ _ aW;obtain rfl:=one _ _ ca
  split at bc
  ·rename_i e hu;simp only[e1] at bc;obtain⟨y,aj,rfl⟩:=bc;obtain⟨bF,rfl⟩:=jz h rfl;obtain⟨n,aM,bF⟩:=qY bF
   cases bF;have:=apN (P:=P) (w:=w) t type e hu (hρ _ _ aj) aM;exact⟨.value _,_,w,B,by simp[resolve,invoke,builtin,this],.inl rfl,.refl ct,.I .int⟩
  ·rename_i hu;simp only[e1] at bc;obtain⟨y,aj,rfl⟩:=bc;obtain⟨bF,rfl⟩:=jz h rfl;obtain⟨n,aM,bF⟩:=qY bF
   cases bF;have:=apO (P:=P) (w:=w) t type hu (hρ _ _ aj) aM;exact⟨.value _,_,w,B,by simp[resolve,invoke,builtin,this],.inl rfl,.refl ct,.I .int⟩
  ·cases bc
 ·rename_i s x t u H aW ca;simp only at H aW ca;subst H;obtain rfl:=two _ _ _ aW;obtain rfl:=two _ _ _ ca
  split at bc
  ·rename_i e aB hu ae1;simp only[hH,hT,fa] at bc;obtain⟨z,a3,b,ah,n,aM,d,ab,Kl,jS,jT,vv,aY⟩:=bc
   split at aY
   ·rename_i nB;obtain⟨rfl,ax,rfl⟩:=nB
    cases aY;simp only[c6] at h
    cases gd:qR mem (D z) (bC tm jT) with
    |none =>
     rw[gd] at h
     revert h
     cases bC tm Kl<;>simp[rM]
    |some p =>
     obtain⟨k,new⟩:=p;rw[gd] at h;obtain⟨v,a1,bQ,G,J,af⟩:=aqd (ty:=type) _ ct hu a3 aM ah ax (hρ _ _ jS) (hρ _ _ vv) gd h;exact⟨.value v,v,a1,bQ,by simp[resolve,invoke,builtin,G],.inl rfl,J,af⟩
   ·cases aY
  ·cases bc
 ·rename_i aG0 x t u H aW ca;simp only at H aW ca;subst H;obtain rfl:=two _ _ _ aW;obtain rfl:=two _ _ _ ca
  split at bc
  ·rename_i e aB hu ae1;simp only[hH,hT,fa] at bc;obtain⟨n,aM,aY⟩:=bc
   split at aY
   ·rename_i ax;simp only[fa,cL] at aY;obtain⟨yB,p2,jT,vv,rfl⟩:=aY;simp only[c6] at h
    cases gd:qR mem n (bC tm jT) with
    |none =>
     rw[gd] at h
     revert h
     cases bC tm yB<;>simp[wR]
    |some p =>
     obtain⟨k,new⟩:=p;rw[gd] at h;obtain⟨v,a1,G,J,af⟩:=aqf (u:=u) (ty:=type) ct hu aM (hρ _ _ p2) (hρ _ _ vv) gd h;exact⟨.value v,v,a1,B,by simp[resolve,invoke,builtin,G],.inl rfl,J,af⟩
   ·cases aY
  ·cases bc
 ·rename_i x y H aW;simp only at H aW;subst H;obtain rfl:=two _ _ _ aW;simp only[hH,hT,fa,cL] at bc;obtain⟨jT,M,y',aj,rfl⟩:=bc;obtain⟨bF,rfl⟩:=jz h rfl;obtain⟨z,G,J⟩:=aez (P:=P) argTypes type (hρ _ _ M) (hρ _ _ aj) bF;simp only[if_true] at G;exact⟨.value z,z,w,B,by simp[resolve,invoke,builtin,G],.inl rfl,.refl ct,J⟩
 ·rename_i x y H aW;simp only at H aW;subst H;obtain rfl:=two _ _ _ aW;simp only[hH,hT,fa,cL] at bc;obtain⟨jT,M,y',aj,rfl⟩:=bc;obtain⟨bF,rfl⟩:=jz h rfl;obtain⟨z,G,J⟩:=aez (P:=P) argTypes type (hρ _ _ M) (hρ _ _ aj) bF;simp only[j3,if_false] at G;exact⟨.value z,z,w,B,by simp[resolve,invoke,builtin,G],.inl rfl,.refl ct,J⟩
 ·split at bc
  ·split at bc
   ·simp only[hH,hT,fa,cL] at bc;obtain⟨_,_,_,_,_,_,rfl⟩:=bc
    cases h
   ·cases bc
  ·split at bc
   ·simp only[hH,hT,fa,cL] at bc;obtain⟨_,_,rfl⟩:=bc
    cases h
   ·simp only[hH,hT,fa,cL] at bc;obtain⟨_,_,rfl⟩:=bc
    cases h
 ·simp only[hH,hT,fa,cL] at bc;obtain⟨_,_,_,_,rfl⟩:=bc
  cases h
 ·cases bc
theorem ae2 {ρ:Operand->Value}{tm:Nat->R}{kb:Nat}{own:List Nat}{o:Oper}{m:kl}{r:R}{lr:Option (Key×Nat×List R)}(ct:ga A w B mem)
  (hρ:∀x y,eD x=some y->bN w (cV A B) B (bC tm y) (ρ x)) (bc:mO P kb own o.dst o.type o.op=some m) (h:c6 mem tm m=some (r,lr)) :
  iJ A w B ((execOp ρ o).run P w) (ji mem lr) r:=by
 obtain⟨dst,op,type,pos,after,guard⟩:=o;simp only at bc
 cases op<;>simp only[mO] at bc<;>simp only[execOp]
 case move x =>
  simp only[e1] at bc;obtain⟨y,aj,rfl⟩:=bc;obtain⟨bF,rfl⟩:=jz (x:=some (bC tm y)) h rfl
  cases bF;exact⟨_,_,w,B,rfl,.inl rfl,.refl ct,hρ _ _ aj⟩
 case assign x =>
  simp only[e1] at bc;obtain⟨y,aj,rfl⟩:=bc;obtain⟨bF,rfl⟩:=jz (x:=some (bC tm y)) h rfl
  cases bF;exact⟨_,_,w,B,rfl,.inl rfl,.refl ct,hρ _ _ aj⟩
 case pick c a b =>
  simp only[hH,hT,fa,cL] at bc;obtain⟨c',H,j4,aW,fy,ah,rfl⟩:=bc;obtain⟨bF,rfl⟩:=jz h rfl;have:=iJ.mS ct (apB (P:=P) (hρ _ _ H) (hρ _ _ aW) (hρ _ _ ah) bF)
  simpa [ji] using this
 case alloc e =>
  simp only[hH,hT,fa,cL] at bc;obtain⟨d,ab,z,a3,rfl⟩:=bc;simp only[c6,cL,fS] at h;obtain⟨rfl,rfl⟩:=h;exact iJ.of (ap1 _ ct a3)
 case box e x =>
  simp only[hH,hT,fa,cL] at bc;obtain⟨d,ab,y,aj,rfl⟩:=bc;simp only[c6] at h
  split at h
  ·rename_i L;simp only[cL,fS] at h;obtain⟨rfl,rfl⟩:=h;exact iJ.of (ap2 _ ct (hρ _ _ aj) L)
  ·cases h
 case build t dP =>
  split at bc
  ·rename_i eh hu
   split at bc
   ·rename_i aW;simp only[hH,hT,fa,cL] at bc;obtain⟨z,a3,e7,z6,rfl⟩:=bc;obtain⟨bF,rfl⟩:=jz h rfl;simp only[lj,e1] at bF;obtain⟨cs,jj,rfl⟩:=bF;rw[B5];exact iJ.mS ct (aqk hu a3 aW z6 hρ jj)
   ·cases bc
  ·rename_i n e hu;simp only[hH,hT,fa,cL] at bc;obtain⟨s,U,z,a3,e7,z6,rfl⟩:=bc;obtain⟨bF,rfl⟩:=jz h rfl;simp only[lj,e1] at bF;obtain⟨cs,jj,rfl⟩:=bF;rw[B5];exact iJ.mS ct (aql hu a3 U z6 hρ jj)
  ·cases bc
 case buildSlice t len dP =>
  split at bc
  ·rename_i e hu;simp only[hH,hT,fa] at bc;obtain⟨z,a3,s,U,e7,z6,d,ab,aY⟩:=bc
   split at aY
   ·rename_i H;obtain⟨D5,ax,aw⟩:=H;simp only[cL] at aY;subst aY;rw[B5]
    cases p7:own.contains d with
    |true =>
     rw[p7] at h;exact iJ.of (ap8 _ ct hu a3 U D5 ax aw z6 hρ h)
    |false =>
     rw[p7] at h;obtain⟨bF,rfl⟩:=jz h rfl;obtain⟨v,a1,G,J,af⟩:=ap7 ct hu a3 U D5 ax aw z6 hρ bF;exact iJ.of ⟨v,a1,B,G,J,af⟩
   ·cases aY
  ·cases bc
 case load t x =>
  simp only[hH,hT,fa,cL] at bc;obtain⟨n,aM,g,bz,y,aj,rfl⟩:=bc;obtain⟨bF,rfl⟩:=jz h rfl;exact iJ.mS ct (apA aM bz ct (hρ _ _ aj) bF)
 case store t x v =>
  simp only[hH,hT,fa,cL] at bc;obtain⟨n,aM,jT,M,DY,aD,rfl⟩:=bc;obtain⟨a1,G,J,rfl⟩:=ap4 ct aM (hρ _ _ M) (hρ _ _ aD) h;exact⟨.skip,undef,a1,B,by simp[G],.inr ⟨rfl,rfl⟩,J,.no⟩
 case nilCheck x =>
  simp only[e1] at bc;obtain⟨y,aj,rfl⟩:=bc;obtain⟨bF,rfl⟩:=jz h rfl;obtain⟨⟨b,off,M⟩,Y⟩:=apP (hρ _ _ aj) bF;rw[M] at Y ⊢;exact⟨_,_,w,B,rfl,.inl rfl,.refl ct,Y⟩
 case binOp bop t x y pos2 =>
  unfold DU at bc
  split at bc
  ·split at bc
   ·rename_i jT y' M aj
    cases bc;obtain⟨bF,rfl⟩:=jz h rfl;exact iJ.mS ct (aer t x y (hρ _ _ M) (hρ _ _ aj) bF)
   ·cases bc
  ·split at bc
   ·rename_i jT y' M aj
    cases bc;obtain⟨bF,rfl⟩:=jz h rfl;exact iJ.mS ct (aer t x y (hρ _ _ M) (hρ _ _ aj) bF)
   ·cases bc
  ·rename_i hu
   split at bc
   ·rename_i jT y' M aj
    cases bc;obtain⟨bF,rfl⟩:=jz h rfl;exact iJ.mS ct (aes (neg:=false) t x y hu (hρ _ _ M) (hρ _ _ aj) bF)
   ·rename_i jT y' M aj
    cases bc;obtain⟨bF,rfl⟩:=jz h rfl;exact iJ.mS ct (aes (neg:=true) t x y hu (hρ _ _ M) (hρ _ _ aj) bF)
   ·cases bc
  ·rename_i eh hu
   split at bc
   ·unfold zT at bc
    split at bc
    ·rename_i H
     split at bc
     ·rename_i g1 jT y' L M aj
      cases bc;obtain⟨bF,rfl⟩:=jz h rfl;exact iJ.mS ct (aey (neg:=false) t x y eh hu H.1 H.2 L (hρ _ _ M) (hρ _ _ aj) bF)
     ·cases bc
    ·cases bc
   ·unfold zT at bc
    split at bc
    ·rename_i H
     split at bc
     ·rename_i g1 jT y' L M aj
      cases bc;obtain⟨bF,rfl⟩:=jz h rfl;exact iJ.mS ct (aey (neg:=true) t x y eh hu H.1 H.2 L (hρ _ _ M) (hρ _ _ aj) bF)
     ·cases bc
    ·cases bc
   ·cases bc
  ·split at bc
   ·split at bc
    ·simp only[e1] at bc;obtain⟨_,_,rfl⟩:=bc
     cases h
    ·simp only[e1] at bc;obtain⟨_,_,rfl⟩:=bc
     cases h
    ·cases bc
   ·cases bc
  ·cases bc
 case unOp uop t x =>
  simp only[e1] at bc;obtain⟨y,aj,rfl⟩:=bc;obtain⟨bF,rfl⟩:=jz h rfl;exact iJ.mS ct (apC (hρ _ _ aj) bF)
 case convert s t x =>
  split at bc
  ·rename_i g1 k U ca;simp only[e1] at bc;obtain⟨y,aj,rfl⟩:=bc;obtain⟨bF,rfl⟩:=jz h rfl;exact iJ.mS ct (apD s t g1 U ca (hρ _ _ aj) bF)
  ·cases bc
 case makeFunc fn first hb =>
  cases fn<;>simp only[reduceCtorEq] at bc
  split at bc
  ·rename_i fg;simp only[hH,hT,fa,cL] at bc;obtain⟨cs,jj,rfl⟩:=bc;obtain⟨bF,rfl⟩:=jz (x:=some (.gK _ (cs.map (bC tm)))) h rfl
   cases bF;have vw:first=#[]:=Array.eq_empty_of_size_eq_zero fg
   subst vw;have aw:=B4 hρ jj;exact iJ.mS ct ⟨_,by rw[B5 hb,Array.map_empty];rfl,.gK aw.1 aw.2⟩
  ·cases bc
 case makeSlice t l c =>
  split at bc
  ·rename_i e he;simp only[hH,hT,fa] at bc;obtain⟨z,a3,s,U,b,ah,d,ab,aY⟩:=bc
   split at aY
   ·rename_i H;simp only[fa,cL] at aY;obtain⟨fI,aw,c',kV,rfl⟩:=aY;simp only[c6] at h;obtain⟨hK,iw,G,J,af⟩:=aeZ h;obtain⟨rfl,ax⟩:=H;exact iJ.of (ap3 _ ct he a3 U ah G J (hρ _ _ aw) (hρ _ _ kV) ax af)
   ·cases aY
  ·cases bc
 case slice t x cY Q km =>
  split at bc
  ·rename_i e hu;simp only[hH,hT,fa] at bc;obtain⟨s,U,aY⟩:=bc
   split at aY
   ·simp only[fa,cL] at aY;obtain⟨y,aj,ae3,iu,lR,jQ,Km,iv,rfl⟩:=aY;have nd:=D8 hρ iu;have md:=D8 hρ jQ;have GQ:=D8 hρ iv
    cases Km with
    |none =>
     cases km with
     |some v=>simp[tS,e1] at iv
     |none =>
      obtain⟨bF,rfl⟩:=jz h rfl;obtain⟨l,aw,bF⟩:=qY bF;obtain⟨len,hlen,bF⟩:=qY bF;obtain⟨aY,D9,bF⟩:=qY bF;exact iJ.mS ct (apT hu U aw hlen D9 nd md (hρ _ _ aj) bF)
    |some Km =>
     cases lR with
     |none=>cases h
     |some lR =>
      cases Q with
      |none=>simp[rQ] at md
      |some Q =>
       cases km with
       |none=>simp[rQ] at GQ
       |some km =>
        obtain⟨bF,rfl⟩:=jz h rfl;obtain⟨l,aw,bF⟩:=qY bF;obtain⟨aY,D9,bF⟩:=qY bF;obtain⟨m,hm,bF⟩:=qY bF;exact iJ.mS ct (apV hu U aw D9 hm nd md GQ (hρ _ _ aj) bF)
   ·cases aY
  ·rename_i n e hu;simp only[hH,hT,fa] at bc;obtain⟨s,U,aY⟩:=bc
   split at aY
   ·rename_i H;simp only[fa,cL] at aY;obtain⟨y,aj,ae3,iu,lR,jQ,Km,iv,rfl⟩:=aY;have nd:=D8 hρ iu;have md:=D8 hρ jQ
    cases Km with
    |none =>
     cases km with
     |some v=>simp[tS,e1] at iv
     |none =>
      obtain⟨bF,rfl⟩:=jz h rfl;obtain⟨l,aw,bF⟩:=qY bF;obtain⟨aY,D9,bF⟩:=qY bF;exact iJ.mS ct (aqh ct hu U H.2 aw D9 nd md (hρ _ _ aj) bF)
    |some Km=>cases h
   ·cases aY
  ·rename_i hu
   split at bc
   ·rename_i iv;simp only[hH,hT,fa,cL] at bc;obtain⟨y,aj,ae3,iu,lR,jQ,rfl⟩:=bc;have nd:=D8 hρ iu;have md:=D8 hρ jQ
    cases km with
    |some v=>cases iv
    |none =>
     obtain⟨bF,rfl⟩:=jz h rfl;obtain⟨l,aw,bF⟩:=qY bF;obtain⟨len,hlen,bF⟩:=qY bF;obtain⟨aY,D9,bF⟩:=qY bF;exact iJ.mS ct (apW hu aw hlen D9 nd md (hρ _ _ aj) bF)
   ·cases bc
  ·cases bc
 case fieldAddr t x f =>
  split at bc
  ·rename_i eh hu;simp only[hH,hT,fa] at bc;obtain⟨⟨o,s⟩,aF,aY⟩:=bc
   split at aY
   ·rename_i ax;simp only[fa,cL] at aY;obtain⟨y,aj,rfl⟩:=aY;obtain⟨fd,G,J,af⟩:=ae0 aF;obtain⟨bF,rfl⟩:=jz h rfl;exact iJ.mS ct (apE t f eh fd s hu G af ax J (hρ _ _ aj) bF)
   ·cases aY
  ·cases bc
 case field t x f =>
  split at bc
  ·rename_i eh hu;simp only[hH,hT,fa,cL] at bc;obtain⟨fd,T9,⟨o,s⟩,aF,g,bz,y,aj,rfl⟩:=bc;obtain⟨aG1,G,J,af⟩:=ae0 aF;rw[T9] at G
   cases G;obtain⟨bF,rfl⟩:=jz h rfl;exact iJ.mS ct (apH t f eh fd hu T9 af bz J (hρ _ _ aj) bF)
  ·cases bc
 case indexAddr t x i =>
  split at bc
  ·rename_i e hu;simp only[hH,hT,fa] at bc;obtain⟨s,U,aY⟩:=bc
   split at aY
   ·simp only[fa,cL] at aY;obtain⟨y,aj,j,aA,rfl⟩:=aY;obtain⟨bF,rfl⟩:=jz h rfl;obtain⟨n,aM,bF⟩:=qY bF;obtain⟨k,L⟩:=GN aM (hρ _ _ aA);rw[L];exact iJ.mS ct (apJ t e hu U (hρ _ _ aj) bF)
   ·cases aY
  ·rename_i len e hu;simp only[hH,hT,fa] at bc;obtain⟨s,U,aY⟩:=bc
   split at aY
   ·simp only[fa,cL] at aY;obtain⟨y,aj,j,aA,rfl⟩:=aY;obtain⟨bF,rfl⟩:=jz h rfl;obtain⟨n,aM,bF⟩:=qY bF;obtain⟨k,L⟩:=GN aM (hρ _ _ aA);rw[L];exact iJ.mS ct (apK t e hu U (hρ _ _ aj) bF)
   ·cases aY
  ·cases bc
 case index t x i =>
  split at bc
  ·rename_i hu;simp only[hH,hT,fa,cL] at bc;obtain⟨y,aj,j,aA,rfl⟩:=bc;obtain⟨bF,rfl⟩:=jz h rfl;obtain⟨n,aM,bF⟩:=qY bF;obtain⟨k,L⟩:=GN aM (hρ _ _ aA);rw[L];exact iJ.mS ct (apL t hu (hρ _ _ aj) bF)
  ·cases bc
 case extract x i =>
  simp only[e1] at bc;obtain⟨y,aj,rfl⟩:=bc;obtain⟨bF,rfl⟩:=jz h rfl;exact iJ.mS ct (apM (hρ _ _ aj) bF)
 case call c =>
  exact aqn ct hρ bc h
 all_goals cases bc
end Go.Mini
namespace Go.Mini
open Go
inductive fJ where
 |code (c:er)
 |inBlock (id:Nat)
def cd (T:bl)(K:eI->bo->Prop):List fJ->eI->bo->Prop
 | [],e,st=>K e st
 |.code c::k,.normal,st=>wp T c (cd T K k) st
 |.code _::k,.exit id,st=>cd T K k (.exit id) st
 |.code _::k,.ret,st=>cd T K k .ret st
 |.inBlock _::k,.normal,st=>cd T K k .normal st
 |.inBlock j::k,.exit id,st=>if id=j then cd T K k .normal st else cd T K k (.exit id) st
 |.inBlock _::k,.ret,st=>cd T K k .ret st
section
variable {T:bl} {K:eI->bo->Prop} {k:List fJ} {st:bo}
theorem aqo (c:er):(λe ew=>match e with
  |.normal=>wp T c (cd T K k) ew
  |e=>cd T K k e ew)=cd T K (.code c::k):=by
 funext e ew
 cases e<;>rfl
theorem aqp (id:Nat):(λe ew=>match e with
  |.exit j=>if j=id then cd T K k .normal ew else cd T K k (.exit j) ew
  |e=>cd T K k e ew)=cd T K (.inBlock id::k):=by
 funext e ew
 cases e<;>rfl
@[go_sem] theorem aqq (e:eI):cd T K [] e st=K e st:=by cases e<;>rfl
@[go_sem] theorem aG2 (c:er):cd T K (.code c::k) .normal st=wp T c (cd T K k) st:=b8
@[go_sem] theorem aG3 (c:er)(id:Nat):cd T K (.code c::k) (.exit id) st=cd T K k (.exit id) st:=b8
@[go_sem] theorem aG4 (c:er):cd T K (.code c::k) .ret st=cd T K k .ret st:=b8
@[go_sem] theorem aG5 (id:Nat):cd T K (.inBlock id::k) .normal st=cd T K k .normal st:=b8
@[go_sem] theorem aG6 (id j:Nat):cd T K (.inBlock j::k) (.exit id) st=if id=j then cd T K k .normal st else cd T K k (.exit id) st:=b8
@[go_sem] theorem aG7 (id:Nat):cd T K (.inBlock id::k) .ret st=cd T K k .ret st:=b8
theorem sV {c:er}(h:wp T c (cd T K []) st):wp T c K st:=by
 have:cd T K []=K:=by funext e st;cases e<;>rfl
 rwa [this] at h
@[go_sem] theorem wp_seq (a b:er):wp T (.seq a b) (cd T K k) st=wp T a (cd T K (.code b::k)) st:=by
 rw[<-aqo];rfl
@[go_sem] theorem wp_skip:wp T .skip (cd T K k) st=cd T K k .normal st:=b8
@[go_sem] theorem wp_ret:wp T .ret (cd T K k) st=cd T K k .ret st:=b8
@[go_sem] theorem wp_exit (id:Nat):wp T (.exit id) (cd T K k) st=cd T K k (.exit id) st:=b8
@[go_sem] theorem wp_block (id:Nat)(c:er):wp T (.block id c) (cd T K k) st=wp T c (cd T K (.inBlock id::k)) st:=by
 rw[<-aqp];rfl
def qZ (T:bl)(K:eI->bo->Prop)(k:List fJ)(m:R)(a b:er)(st:bo):Prop :=
 match m with
 |.I (.bool t)=>if t=true then wp T a (cd T K k) st else wp T b (cd T K k) st
 |_=>False
@[go_sem] theorem wp_cond (c:cv)(a b:er):wp T (.cond c a b) (cd T K k) st=qZ T K k (bC st.tm c) a b st:=b8
@[go_sem] theorem aqr (a b:er):qZ T K k (.I (.bool true)) a b st=wp T a (cd T K k) st:=b8
@[go_sem] theorem aqs (a b:er):qZ T K k (.I (.bool false)) a b st=wp T b (cd T K k) st:=b8
def GX (T:bl)(K:eI->bo->Prop)(k:List fJ)(l:List du)(st:bo):Prop:=yr T (cd T K k .normal) l st
@[go_sem] theorem wp_ops (l:List du):wp T (.ops l) (cd T K k) st=GX T K k l st:=b8
@[go_sem] theorem aG8:GX T K k [] st=cd T K k .normal st:=b8
def rT (T:bl)(K:eI->bo->Prop)(k:List fJ)(g:Option Bool)(i:du)(r:List du)(st:bo):Prop :=
 match g with
 |none=>False
 |some g=>if g=true then hF T (yr T (cd T K k .normal) r) i st else GX T K k r ⟨put st.tm i.dst .no,st.mem⟩
@[go_sem] theorem aG9 (i:du)(r:List du):GX T K k (i::r) st=rT T K k (pw st.tm i.g) i r st:=b8
@[go_sem] theorem aHa (i:du)(r:List du):rT T K k (some true) i r st=hF T (GX T K k r) i st:=b8
@[go_sem] theorem aHb (i:du)(r:List du):rT T K k (some false) i r st=GX T K k r ⟨put st.tm i.dst .no,st.mem⟩:=b8
def B6 (T:bl)(K:eI->bo->Prop)(k:List fJ)(n:Nat)(l:List du)(c:List (List Nat))(rec:Rec)(st:bo):Prop:=wS T (cd T K k .normal) n l c rec st
@[go_sem] theorem aHc (l:List du)(c:List (List Nat)):wp T (.mN l c) (cd T K k) st=B6 T K k 0 l c (λ_=>none) st:=b8
@[go_sem] theorem aHd (n:Nat)(c:List (List Nat))(rec:Rec):B6 T K k n [] c rec st=cd T K k .normal st:=b8
def rU (T:bl)(K:eI->bo->Prop)(k:List fJ)(n:Nat)(g:Option Bool)(i:du)(r:List du)(c:List (List Nat))(rec:Rec)(st:bo):Prop :=
 match g with
 |none=>False
 |some g=>if g=true then (match jP T st.mem st.tm i.op with
    |some (m,e)=>Gz rec (j2 i.op,eJ st.tm i.op) (c.headD [])=true/\B6 T K k (n+1) r c.tail (vl rec n (j2 i.op,eJ st.tm i.op)) ⟨put st.tm i.dst m,ji st.mem e⟩
    |none=>False) else B6 T K k (n+1) r c.tail rec ⟨put st.tm i.dst .no,st.mem⟩
@[go_sem] theorem aHe (n:Nat)(i:du)(r:List du)(c:List (List Nat))(rec:Rec):B6 T K k n (i::r) c rec st=rU T K k n (pw st.tm i.g) i r c rec st:=b8
def ae4 (T:bl)(K:eI->bo->Prop)(k:List fJ)(n:Nat)(x:Option (R×Option (Key×Nat×List R)))(i:du)(r:List du)(c:List (List Nat))(rec:Rec)(st:bo):Prop :=
 match x with
 |some (m,e)=>Gz rec (j2 i.op,eJ st.tm i.op) (c.headD [])=true/\B6 T K k (n+1) r c.tail (vl rec n (j2 i.op,eJ st.tm i.op)) ⟨put st.tm i.dst m,ji st.mem e⟩
 |none=>False
@[go_sem] theorem aHf (n:Nat)(i:du)(r:List du)(c:List (List Nat))(rec:Rec):rU T K k n (some true) i r c rec st=ae4 T K k n (jP T st.mem st.tm i.op) i r c rec st:=b8
@[go_sem] theorem aHg (n:Nat)(i:du)(r:List du)(c:List (List Nat))(rec:Rec):rU T K k n (some false) i r c rec st=B6 T K k (n+1) r c.tail rec ⟨put st.tm i.dst .no,st.mem⟩:=b8
@[go_sem] theorem aHh (n:Nat)(m:R)(e:Option (Key×Nat×List R))(i:du)(r:List du)(c:List (List Nat))(rec:Rec):ae4 T K k n (some (m,e)) i r c rec st =
 (Gz rec (j2 i.op,eJ st.tm i.op) (c.headD [])=true/\B6 T K k (n+1) r c.tail (vl rec n (j2 i.op,eJ st.tm i.op)) ⟨put st.tm i.dst m,ji st.mem e⟩):=b8
end
section
variable {T:bl} {K:bo->Prop} {st:bo} {tm:Nat->R} {mem:Mem}
def me (K:bo->Prop)(x:Option (R×Option (Key×Nat×List R)))(d:Option Nat)(st:bo):Prop :=
 match x with
 |some (m,e)=>K ⟨put st.tm d m,ji st.mem e⟩
 |none=>False
@[go_sem] theorem aHi (m:R)(e:Option (Key×Nat×List R))(d:Option Nat):me K (some (m,e)) d st=K ⟨put st.tm d m,ji st.mem e⟩:=b8
variable (d:Option Nat) (g:Option (Nat×Bool))
@[go_sem] theorem aHj (x:cv):hF T K ⟨d,g,.bT x⟩ st=K ⟨put st.tm d (bC st.tm x),st.mem⟩:=b8
@[go_sem] theorem aHk (c a b:cv):hF T K ⟨d,g,.pick c a b⟩ st=me K (c6 st.mem st.tm (.pick c a b)) d st:=b8
@[go_sem] theorem aHl (k:Key)(z:List R):hF T K ⟨d,g,.alloc k z⟩ st=K ⟨put st.tm d (.ptr k (cy st.mem k) 0),a9 st.mem k (cy st.mem k) z⟩:=b8
@[go_sem] theorem aHm (k:Key)(x:cv):hF T K ⟨d,g,.box k x⟩ st=me K (c6 st.mem st.tm (.box k x)) d st:=b8
@[go_sem] theorem aHn (z:List R)(dP:List (Nat×Nat×cv)):hF T K ⟨d,g,.build z dP⟩ st=me K (c6 st.mem st.tm (.build z dP)) d st:=b8
@[go_sem] theorem aHo (k:Key)(o:Bool)(z:List R)(sz len:Nat)(dP:List (Nat×Nat×cv)):hF T K ⟨d,g,.dU k o z sz len dP⟩ st=me K (c6 st.mem st.tm (.dU k o z sz len dP)) d st:=b8
@[go_sem] theorem aHp (n:Nat)(eM:Bool)(x:cv):hF T K ⟨d,g,.load n eM x⟩ st=me K (c6 st.mem st.tm (.load n eM x)) d st:=b8
@[go_sem] theorem aHq (n:Nat)(x v:cv):hF T K ⟨d,g,.store n x v⟩ st=me K (c6 st.mem st.tm (.store n x v)) d st:=b8
@[go_sem] theorem aHr (op:BinOp)(x y:cv):hF T K ⟨d,g,.bin op x y⟩ st=me K (c6 st.mem st.tm (.bin op x y)) d st:=b8
@[go_sem] theorem aHs (b:Bool)(x y:cv):hF T K ⟨d,g,.beq b x y⟩ st=me K (c6 st.mem st.tm (.beq b x y)) d st:=b8
@[go_sem] theorem aHt (op:UnOp)(x:cv):hF T K ⟨d,g,.un op x⟩ st=me K (c6 st.mem st.tm (.un op x)) d st:=b8
@[go_sem] theorem aHu (k:IntKind)(x:cv):hF T K ⟨d,g,.conv k x⟩ st=me K (c6 st.mem st.tm (.conv k x)) d st:=b8
@[go_sem] theorem aHv (x:cv):hF T K ⟨d,g,.nv x⟩ st=me K (c6 st.mem st.tm (.nv x)) d st:=b8
@[go_sem] theorem aHw (k:Key)(z:List R)(b:Nat)(x y:cv):hF T K ⟨d,g,.lg k z b x y⟩ st=me K (c6 st.mem st.tm (.lg k z b x y)) d st:=b8
@[go_sem] theorem aHx (o:Nat)(x:cv):hF T K ⟨d,g,.dt o x⟩ st=me K (c6 st.mem st.tm (.dt o x)) d st:=b8
@[go_sem] theorem aHy (s:Nat)(x i:cv):hF T K ⟨d,g,.ht s x i⟩ st=me K (c6 st.mem st.tm (.ht s x i)) d st:=b8
@[go_sem] theorem aHz (n s:Nat)(x i:cv):hF T K ⟨d,g,.pt n s x i⟩ st=me K (c6 st.mem st.tm (.pt n s x i)) d st:=b8
@[go_sem] theorem aHA (s:Nat)(x:cv)(a b c:Option cv):hF T K ⟨d,g,.tP s x a b c⟩ st=me K (c6 st.mem st.tm (.tP s x a b c)) d st:=b8
@[go_sem] theorem aHB (n s:Nat)(x:cv)(a b c:Option cv):hF T K ⟨d,g,.tQ n s x a b c⟩ st=me K (c6 st.mem st.tm (.tQ n s x a b c)) d st:=b8
@[go_sem] theorem aHC (i:Nat)(x:cv):hF T K ⟨d,g,.ext i x⟩ st=me K (c6 st.mem st.tm (.ext i x)) d st:=b8
@[go_sem] theorem aHD (x:cv):hF T K ⟨d,g,.len x⟩ st=me K (c6 st.mem st.tm (.len x)) d st:=b8
@[go_sem] theorem aHE (k:Key)(z:List R)(b:Nat)(s x:cv):hF T K ⟨d,g,.app k z b s x⟩ st=me K (c6 st.mem st.tm (.app k z b s x)) d st:=b8
@[go_sem] theorem aHF (s:Nat)(x y:cv):hF T K ⟨d,g,.sK s x y⟩ st=me K (c6 st.mem st.tm (.sK s x y)) d st:=b8
@[go_sem] theorem aHG (b:Bool)(x y:cv):hF T K ⟨d,g,.jx b x y⟩ st=me K (c6 st.mem st.tm (.jx b x y)) d st:=b8
@[go_sem] theorem aHH (f:FuncId)(l:List cv):hF T K ⟨d,g,.wQ f l⟩ st=me K (c6 st.mem st.tm (.wQ f l)) d st:=b8
def B7 (K:bo->Prop)(x:Option h8)(d:Option Nat)(st:bo):Prop :=
 match x with
 |some (.same r)=>K ⟨put st.tm d (.I r),st.mem⟩
 |some (.own _ es)=>K ⟨put st.tm d (.I (.X es)),st.mem⟩
 |some (.rel bU)=>∀r mem',bU r mem'->K ⟨put st.tm d r,mem'⟩
 |some (.eb r k g i c)=>K ⟨put st.tm d (.I r),a9 st.mem k g ((vj st.mem k).set i c)⟩
 |none=>False
@[go_sem] theorem aHI (f:FuncId)(l:List cv):hF T K ⟨d,g,.call f l⟩ st=B7 K (T f (l.map (bC st.tm)) st.mem) d st:=b8
@[go_sem] theorem aHJ (r:Data):B7 K (some (.same r)) d st=K ⟨put st.tm d (.I r),st.mem⟩:=b8
@[go_sem] theorem aHK (s:Nat)(es:List (List Data)):B7 K (some (.own s es)) d st=K ⟨put st.tm d (.I (.X es)),st.mem⟩:=b8
@[go_sem] theorem aqt (bU:R->Mem->Prop):B7 K (some (.rel bU)) d st=∀r mem',bU r mem'->K ⟨put st.tm d r,mem'⟩:=b8
def ae5 (T:bl)(K:bo->Prop)(m:R)(args:List R)(d:Option Nat)(st:bo):Prop :=
 match m with
 |.gK g hb=>B7 K (T g (args++hb) st.mem) d st
 |.I (.fn g ds)=>B7 K (T g (args++ds.map .I) st.mem) d st
 |_=>False
@[go_sem] theorem aHL (f:cv)(l:List cv):hF T K ⟨d,g,.mK f l⟩ st=ae5 T K (bC st.tm f) (l.map (bC st.tm)) d st:=b8
@[go_sem] theorem aHM (f:FuncId)(ds:List Data)(args:List R):ae5 T K (.I (.fn f ds)) args d st=B7 K (T f (args++ds.map .I) st.mem) d st:=b8
def Ua (K:bo->Prop)(x:Option h8)(k:Key)(sz:Nat)(d:Option Nat)(st:bo):Prop :=
 match x with
 |some (.own eQ es)=>if eQ=sz then K ⟨put st.tm d (.ref k (cy st.mem k) sz 0 (D es)),a9 st.mem k (cy st.mem k) (es.flatten.map .I)⟩ else False
 |_=>False
@[go_sem] theorem aHN (k:Key)(sz:Nat)(f:FuncId)(l:List cv):hF T K ⟨d,g,.oO k sz f l⟩ st=Ua K (T f (l.map (bC st.tm)) st.mem) k sz d st:=b8
@[go_sem] theorem aHO (k:Key)(sz:Nat)(es:List (List Data)):Ua K (some (.own sz es)) k sz d st=K ⟨put st.tm d (.ref k (cy st.mem k) sz 0 (D es)),a9 st.mem k (cy st.mem k) (es.flatten.map .I)⟩:=by simp[Ua]
def ae6 (K:bo->Prop)(neg:Bool)(x:Option Bool)(d:Option Nat)(st:bo):Prop :=
 match x with
 |some full=>∀b:Bool,(full=true->b=false)->K ⟨put st.tm d (.I (.bool (neg != b))),st.mem⟩
 |none=>False
@[go_sem] theorem aHP (neg:Bool)(x:cv):hF T K ⟨d,g,.rK neg x⟩ st=ae6 K neg (DS (bC st.tm x)) d st:=b8
@[go_sem] theorem aHQ (neg full:Bool):ae6 K neg (some full) d st=∀b:Bool,(full=true->b=false)->K ⟨put st.tm d (.I (.bool (neg != b))),st.mem⟩:=b8
end
section
variable {tm:Nat->R} {mem:Mem}
@[go_sem] theorem aHR (s:Nat):bC tm (.t s)=tm s:=b8
@[go_sem] theorem aHS (m:R):bC tm (.c m)=m:=b8
@[go_sem] theorem aHT (s:Nat)(m:R):put tm (some s) m=eb tm s m:=b8
@[go_sem] theorem aHU (m:R):put tm none m=tm:=b8
@[go_sem] theorem aHV (s:Nat)(m:R)(t:Nat):eb tm s m t=if t=s then m else tm t:=b8
@[go_sem] theorem B8 (k:Key)(g:Nat)(cs:List R)(j:Key):a9 mem k g cs j=if j=k then some (g,cs) else mem j:=b8
@[go_sem] theorem aHW:ji mem none=mem:=b8
@[go_sem] theorem aHX (k:Key)(g:Nat)(cs:List R):ji mem (some (k,g,cs))=a9 mem k g cs:=b8
def fN:Option (Nat×List R)->Nat
 |none=>0
 |some (g,_)=>g+1
@[go_sem] theorem aHY (k:Key):cy mem k=fN (mem k):=by unfold cy fN;rfl
@[go_sem] theorem aHZ:fN none=0:=b8
@[go_sem] theorem aH0 (g:Nat)(cs:List R):fN (some (g,cs))=g+1:=b8
@[go_sem] theorem aH1 (k:Key):emp k=none:=b8
@[go_sem] theorem aH2:pw tm none=some true:=b8
def ON (m:R)(b:Bool):Option Bool :=
 match m with
 |.I (.bool t)=>some (t==b)
 |.no=>some false
 |_=>none
@[go_sem] theorem aH3 (s:Nat)(b:Bool):pw tm (some (s,b))=ON (tm s) b:=b8
@[go_sem] theorem aH4 (b:Bool):ON .no b=some false:=b8
variable (op:kl)
@[go_sem] theorem aH5 (m:R):lN (some m)=some (m,none):=b8
@[go_sem] theorem aH6 (x:cv):c6 mem tm (.bT x)=some (bC tm x,none):=b8
@[go_sem] theorem aH7 (c a b:cv):c6 mem tm (.pick c a b)=lN (Gu (bC tm c) (bC tm a) (bC tm b)):=b8
@[go_sem] theorem aH8 (a b:R):Gu (.I (.bool true)) a b=some a:=b8
@[go_sem] theorem aH9 (a b:R):Gu (.I (.bool false)) a b=some b:=b8
@[go_sem] theorem aIa (k:Key)(z:List R):c6 mem tm (.alloc k z)=some (.ptr k (cy mem k) 0,some (k,cy mem k,z)):=b8
@[go_sem] theorem aIb (k:Key)(x:cv):c6 mem tm (.box k x)=if (bC tm x).known=true then some (.ptr k (cy mem k) 0,some (k,cy mem k,(bC tm x).cells)) else none:=b8
@[go_sem] theorem aIc (z:List R)(dP:List (Nat×Nat×cv)):c6 mem tm (.build z dP)=lN ((kQ (bC tm) z dP).map .agg):=b8
@[go_sem] theorem aId (k:Key)(z:List R)(sz len:Nat)(dP:List (Nat×Nat×cv)):c6 mem tm (.dU k false z sz len dP)=lN (JW z sz len (kQ (bC tm) z dP)):=b8
@[go_sem] theorem aIe (k:Key)(z:List R)(sz len:Nat)(dP:List (Nat×Nat×cv)):c6 mem tm (.dU k true z sz len dP)=Gv k (cy mem k) z sz len (kQ (bC tm) z dP):=b8
@[go_sem] theorem aIf (n:Nat)(eM:Bool)(x:cv):c6 mem tm (.load n eM x)=lN (qQ mem n eM (bC tm x)):=b8
@[go_sem] theorem aIg (n:Nat)(x v:cv):c6 mem tm (.store n x v)=yq mem n (bC tm x) (bC tm v).cells:=b8
@[go_sem] theorem aIh (b:BinOp)(x y:cv):c6 mem tm (.bin b x y)=lN (JT b (bC tm x) (bC tm y)):=b8
@[go_sem] theorem aIi (neg:Bool)(x y:cv):c6 mem tm (.beq neg x y)=lN (JU neg (bC tm x) (bC tm y)):=b8
@[go_sem] theorem aIj (u:UnOp)(x:cv):c6 mem tm (.un u x)=lN (JV u (bC tm x)):=b8
@[go_sem] theorem aIk (k:IntKind)(x:cv):c6 mem tm (.conv k x)=lN (JY k (bC tm x)):=b8
@[go_sem] theorem aIl (x:cv):c6 mem tm (.nv x)=lN (JZ (bC tm x)):=b8
@[go_sem] theorem aIm (k:Key)(z:List R)(b:Nat)(x y:cv):c6 mem tm (.lg k z b x y)=J5 (idx (bC tm x)) (idx (bC tm y)) (Gw k (cy mem k) z b):=b8
@[go_sem] theorem aIn (o:Nat)(x:cv):c6 mem tm (.dt o x)=lN (J0 o (bC tm x)):=b8
@[go_sem] theorem aIo (s:Nat)(x i:cv):c6 mem tm (.ht s x i)=lN (kR (idx (bC tm i)) λn=>zR s n (bC tm x)):=b8
@[go_sem] theorem aIp (n s:Nat)(x i:cv):c6 mem tm (.pt n s x i)=lN (kR (idx (bC tm i)) λm=>J1 n s m (bC tm x)):=b8
@[go_sem] theorem aIq (s:Nat)(x:cv)(cY Q:Option cv):c6 mem tm (.tP s x cY Q none)=lN (kR (lh 0 (cY.map (bC tm))) λl=>kR (qP (bC tm x)) λlen=>kR (lh len (Q.map (bC tm))) λh=>J2 s l h (bC tm x)):=b8
@[go_sem] theorem aIr (n s:Nat)(x:cv)(cY Q:Option cv):c6 mem tm (.tQ n s x cY Q none)=lN (kR (lh 0 (cY.map (bC tm))) λl=>kR (lh n (Q.map (bC tm))) λh=>BU mem n s l h (bC tm x)):=b8
@[go_sem] theorem aIs (i:Nat)(x:cv):c6 mem tm (.ext i x)=lN (J3 i (bC tm x)):=b8
@[go_sem] theorem aIt (x:cv):c6 mem tm (.len x)=lN (kR (qP (bC tm x)) λn=>some (.I (.int .i64 n))):=b8
@[go_sem] theorem aIu (k:Key)(z:List R)(b:Nat)(s x:cv):c6 mem tm (.app k z b s x)=rM mem k z b (bC tm s) (qR mem (D z) (bC tm x)):=b8
@[go_sem] theorem aIv (s:Nat)(x y:cv):c6 mem tm (.sK s x y)=wR mem s (bC tm x) (qR mem s (bC tm y)):=b8
@[go_sem] theorem aIw (b:Bool)(x y:cv):c6 mem tm (.jx b x y)=lN (J4 b (bC tm x) (bC tm y)):=b8
@[go_sem] theorem aIx (f:FuncId)(l:List cv):c6 mem tm (.wQ f l)=some (.gK f (l.map (bC tm)),none):=b8
@[go_sem] theorem aIy (n:Nat)(f:Nat->Option R):kR (some n) f=f n:=b8
@[go_sem] theorem aIz (n m:Nat)(f:Nat->Nat->Out):J5 (some n) (some m) f=f n m:=b8
def OO (n:Nat)(eM:Bool)(g off:Nat):Option (Nat×List R)->Option R
 |some (eg,cs)=>if eg=g then (cut cs off n).bind (rL eM) else none
 |none=>none
@[go_sem] theorem aIA (n:Nat)(eM:Bool)(k:Key)(g off:Nat):qQ mem n eM (.ptr k g off)=OO n eM g off (mem k):=by unfold qQ OO;rfl
@[go_sem] theorem aIB (n:Nat)(eM:Bool)(g off:Nat)(cs:List R):OO n eM g off (some (g,cs))=(cut cs off n).bind (rL eM):=by simp[OO]
@[go_sem] theorem aIC (n:Nat)(eM:Bool)(ds:List Data):qQ mem n eM (.I (.ptr ds))=(cut (ds.map .I) 0 n).bind (rL eM):=b8
@[go_sem] theorem aID (n:Nat)(k:Key)(g off:Nat)(v:List R):yq mem n (.ptr k g off) v=J6 n k g off v (mem k):=b8
@[go_sem] theorem aIE (cs:List R):rL true cs=some (.agg cs):=b8
@[go_sem] theorem aIF (m:R):rL false [m]=some m:=b8
@[go_sem] theorem aIG (cs:List R):(R.agg cs).cells=cs:=b8
@[go_sem] theorem aIH (cs:List Data):(R.I (.agg cs)).cells=cs.map .I:=b8
@[go_sem] theorem aII (k:IntKind)(n:Int):(R.I (.int k n)).cells=[.I (.int k n)]:=b8
@[go_sem] theorem aIJ (b:Bool):(R.I (.bool b)).cells=[.I (.bool b)]:=b8
@[go_sem] theorem aIK (l:List (List Data)):(R.I (.X l)).cells=[.I (.X l)]:=b8
@[go_sem] theorem aIL (k:Key)(g s o l:Nat):(R.ref k g s o l).cells=[.ref k g s o l]:=b8
@[go_sem] theorem aIM (k:Key)(g o:Nat):(R.ptr k g o).cells=[.ptr k g o]:=b8
@[go_sem] theorem aIN (f:FuncId)(l:List R):(R.gK f l).cells=[.gK f l]:=b8
@[go_sem] theorem aIO (k:IntKind)(n:Nat):idx (.I (.int k (n:Int)))=some n:=by simp[idx]
@[go_sem] theorem aIP (k:IntKind):idx (.I (.int k 0))=some 0:=b8
@[go_sem low] theorem aIQ (k:IntKind)(n:Int):idx (.I (.int k n))=if 0<=n then some n.toNat else none:=b8
end
attribute [go_sem] JX JU JT JV JY JZ J0 On zR J1 Oo J2 Oq BU TO Ot J3 J4 lh qP DR J6 wR BV Gw Gv JW Om BS Ol kQ lM cut chunk
 Gt Oi Oj Ok DS BW DQ R.one R.known qR BT eJ Gx J7 rN vj Gy keyOf j2 Gz rO vl jP lk GA qS
end Go.Mini
namespace Go.Mini
open Go
variable {P:Program} {A:Nat->Prop} {w:World} {B:fu} {mem:Mem}
def B9 (w a1:World)(a2:Nat->Prop)(sz:Nat)(es:List (List Data))(v:Value):Prop :=
 (∀e∈es,D e=sz)/\∃a cap,v=.slice a (D es) cap/\D es<=cap/\cap<=maxLen /\
  (cap=0\/∃b vs T,a=some ⟨b,0,none⟩/\w.heap.size<=b/\a1.heap[b]?=some (.cells vs T (0,0))/\cap*sz<=vs.size /\
   ∀(i:Nat) (d:Data),es.flatten[i]?=some d->∃u,vs[i]?=some u/\Den a1 (λfy=>a2 fy\/fy=b) d u)
def Ub (P:Program)(f:FuncId)(vs:List Value)(A:Nat->Prop)(w:World)(B:fu)(mem:Mem):h8->Prop
 |.same r=>Calls P f vs.toArray w λe a1=>∃v,e=.returned v/\Fr (λ_=>False) w a1/\Den a1 (cV A B) r v
 |.own sz es=>Calls P f vs.toArray w λe a1=>∃v,e=.returned v/\Fr (λ_=>False) w a1/\B9 w a1 (cV A B) sz es v
 |.rel bU=>Calls P f vs.toArray w λe a1=>∃v r mem' bQ,e=.returned v/\fl A w B a1 bQ mem'/\bN a1 (cV A bQ) bQ r v/\bU r mem'
 |.eb r k g i c=>Calls P f vs.toArray w λe a1=>∃v bQ,e=.returned v/\fl A w B a1 bQ (a9 mem k g ((vj mem k).set i c))/\bN a1 (cV A bQ) bQ (.I r) v
def Real (P : Program)(f : FuncId): Prop := ∃ fn c, P.funcs[f]? = some fn /\ fn.body = some c /\ (fn.name == "runtime.NumGoroutine") = false
def q0 (P:Program)(T:bl):Prop:=∀f args mem p8,T f args mem=some p8->Real P f /\
 ∀A w B vs,ga A w B mem->dW w (cV A B) B args vs->Ub P f vs A w B mem p8
theorem OP {f:FuncId}(h:Real P f)(args:Array Value):(callFunc f args).run P w=.ok (.enter f args) w:=by
 obtain⟨fn,c,aC,ah,aM⟩:=h;have G : fn.name ≠ "runtime.NumGoroutine" := by simpa using aM
 simp[callFunc,aC,G,ah]
theorem Den.less {w:World}{a2 pr:Nat->Prop}(h:∀b,pr b->a2 b){d:Data}{v:Value}(ab:Den w a2 d v):Den w pr d v :=
 ab.sI (cH _) λb _ ah=>⟨rfl,λM=>ah (h b M)⟩
theorem B9.den {w a1:World}{a2:Nat->Prop}{sz:Nat}{es:List (List Data)}{v:Value}(az:∀b,a2 b->b<w.heap.size)(h:B9 w a1 a2 sz es v):Den a1 a2 (.X es) v:=by
 obtain⟨he,a,cap,rfl,G,J,af⟩:=h;rcases af with rfl|⟨b,vs,T,rfl,aT,bx,b0,bV⟩
 ·have:es=[]:=tW (by omega);subst this;exact .mc
 ·have Kn:b<a1.heap.size:=(Array.getElem?_eq_some_iff.1 bx).1;refine .X (sz:=sz) (λi=>vs.getD i undef) G (by omega) Kn (λbS=>by have:=az b bS;omega) he (λi Q=>?_) λi d ab=>?_
  ·have az:i<D es.flatten:=by rw[Od he];exact Q
   obtain⟨u,hu,_⟩:=bV i _ (bq az);rw[cell_of_row a1 b _ vs T (0,0) bx,qW,Array.getD_eq_getD_getElem?,hu]
   rfl
  ·obtain⟨u,hu,ab⟩:=bV i d ab;rw[Array.getD_eq_getD_getElem?,hu];exact ab.less λb h => .inl h
theorem ae7 {a1:World}{sz:Nat}{es:List (List Data)}{v:Value}(k:Key)(ct:ga A w B mem)(f:Fr (λ_=>False) w a1)(h:B9 w a1 (cV A B) sz es v):
  ∃bQ,fl A w B a1 bQ (a9 mem k (cy mem k) (es.flatten.map .I))/\bN a1 (cV A bQ) bQ (.ref k (cy mem k) sz 0 (D es)) v:=by
 obtain⟨he,a,cap,rfl,G,J,af⟩:=h;have still:=fl.still ct f;rcases af with rfl|⟨b,vs,T,rfl,aT,bx,b0,bV⟩
 ·have:es=[]:=tW (by omega);subst this;exact⟨_,still.trans (fl.zW still.eX k),.ref (hG _ _ _) (cH _) ⟨_,0,rfl,G,J,.inl rfl⟩⟩
 ·have Kn:b<a1.heap.size:=(Array.getElem?_eq_some_iff.1 bx).1
  have gh:∀fy,(⟨cy mem k,some b,vs.size⟩:mJ).eo=some fy->w.heap.size<=fy\/∃e,B k=some e/\e.eo=some fy:=λfy mP=>by
   cases mP;exact .inl aT
  have iI:=Od he;have hmul:(D es)*sz<=cap*sz:=og _ G;have hold:∀fy,fy<w.heap.size->(∀e,B k=some e->e.eo≠some fy)->a1.heap[fy]?=w.heap[fy]?:=λfy mP _=>f.block fy mP id;have bz:∀e,B k=some e->(⟨cy mem k,some b,vs.size⟩:mJ)=e\/e.g<(⟨cy mem k,some b,vs.size⟩:mJ).g:=λe he => .inr (GJ ct k e he);refine⟨hn B k ⟨cy mem k,some b,vs.size⟩,⟨?_,Trans.change f.size hold bz gh,⟨f.os,f.tape,f.output,f.size,λfy mP _=>f.block fy mP id⟩,TR gh⟩,?_⟩
  ·refine ct.aeq (e':=⟨cy mem k,some b,vs.size⟩) f.size hold bz gh (λh=>by cases h) λfy mP=>?_
   cases mP;refine⟨vs,T,bx,rfl,by rw[List.length_map,iI];omega,λi m hm=>?_⟩
   rw[bj,e1] at hm;obtain⟨d,ab,rfl⟩:=hm;obtain⟨u,hu,vx⟩:=bV i d ab;refine⟨u,hu,.I (vx.less λfy mP=>?_)⟩;rcases mP with ⟨j,e,aA,M⟩|aW
   ·by_cases fY:j=k
    ·subst fY;rw[hG] at aA
     cases aA
     cases M;exact .inr rfl
    ·rw[hv B _ fY] at aA;exact .inl (.inl ⟨j,e,aA,M⟩)
   ·exact .inl (.inr aW)
  ·exact .ref (hG _ _ _) (cH _) ⟨_,cap,rfl,G,J,.inr ⟨b,rfl,λ_=>⟨rfl,by simpa using b0⟩⟩⟩
end Go.Mini
namespace Go.Mini
open Go
variable {P:Program} {T:bl} {A:Nat->Prop} {eW w:World} {hx B:fu} {mem:Mem} {n:Nat}
structure hW (n:Nat) (A:Nat->Prop) (eW:World) (hx:fu) (a:Act) (st:bo) (w:World) (B:fu):Prop where
 ok:fl A eW hx w B st.mem
 tm:∀s,bN w (cV A B) B (st.tm s) (a.eval (.tmp s))
 sz:a.tmps.size=n
 Ko:a.defers=[]
theorem hW.w0 {a:Act}{st:bo}(h:hW n A eW hx a st w B)(x:Operand)(y:cv)(M:eD x=some y):bN w (cV A B) B (bC st.tm y) (a.eval x):=by
 cases x<;>simp only[eD,cL,e1,reduceCtorEq] at M
 ·subst M;exact h.tm _
 ·obtain⟨m,hm,rfl⟩:=M;exact apl hm
 ·subst M;exact .gK (vs:=[]) rfl λi d v G=>by simp at G
theorem aqu {a:Act}{s:Nat}{v:Value}(h:s<a.tmps.size):(a.put (some s) v).eval (.tmp s)=v:=by
 simp[Act.eval,Act.put,h]
theorem hW.put {a:Act}{st:bo}{a1:World}{bQ:fu}{mem':Mem}{dst:Option Nat}{r:R}{v:Value}(h:hW n A eW hx a st w B)(U:fl A w B a1 bQ mem')(Y:bN a1 (cV A bQ) bQ r v)
  (ab:dst.all (λd=>decide (d<n))=true):hW n A eW hx (a.put dst v) ⟨Mini.put st.tm dst r,mem'⟩ a1 bQ:=by
 refine⟨h.ok.trans U,λs=>?_,?_,?_⟩
 ·cases dst with
  |none=>exact (h.tm s).sI U.nw
  |some d =>
   simp only[Option.all_some,decide_eq_true_eq] at ab
   by_cases Kp:s=d
   ·subst Kp;rw[aqu (by rw[h.sz];exact ab)];simp only[Mini.put,eb,if_true];exact Y
   ·rw[Act.eval_put (λyB G J=>by cases G;cases J;exact Kp rfl)];simp only[Mini.put,eb,ag Kp];exact (h.tm s).sI U.nw
 ·cases dst<;>simp[Act.put,h.sz]
 ·cases dst<;>simp[Act.put,h.Ko]
theorem Uc {a:Act}{st:bo}{ops:Array Oper}{o:Oper}{g:Option (Nat×Bool)}{b:Bool}(h:hW n A eW hx a st w B)(bz:Kc ops o.guard=some g)(ah:pw st.tm g=some b):
  Region.wanted o (yielded ops a.tmps)=b:=by
 unfold Region.wanted
 cases z3:o.guard with
 |none =>
  rw[z3] at bz;simp only[Kc,cL] at bz;subst bz;simp only[pw,cL] at ah;exact ah
 |some p =>
  obtain⟨j,c⟩:=p;rw[z3] at bz;simp only[Kc] at bz
  split at bz
  ·rename_i s U;simp only[cL] at bz;subst bz;have aD:=h.tm s
   have aj:yielded ops a.tmps j=match a.eval (.tmp s) with|.bool b=>some b|_=>none:=by
    unfold yielded;rw[U];simp only[Option.bind_some,Act.eval,Array.getD_eq_getD_getElem?]
    cases a.tmps[s]? with
    |none=>rfl
    |some v=>cases v<;>rfl
   simp only[pw] at ah;simp only[aj]
   split at ah
   ·rename_i t ca;rw[ca] at aD
    cases aD with
    |I aD =>
     generalize a.eval (.tmp s)=u at *
     cases aD;simp only[cL] at ah;subst ah
     cases t<;>cases c<;>simp
   ·rename_i ca;rw[ca] at aD;generalize a.eval (.tmp s)=u at *
    cases aD;simp only[cL] at ah;subst ah
    rfl
   ·cases ah
  ·cases bz
theorem ae8 {kb:Nat}{own:List Nat}{dst:Option Nat}{ty:TypeId}{op:Op}{f:FuncId}{args:List cv}(h:mO P kb own dst ty op=some (.call f args)):
  ∃c:Call,op=.call c/\c.callee=.value (.func f)/\c.args.toList.mapM eD=some args:=by
 cases op<;>simp only[mO,DU,zT] at h
 case call c =>
  refine⟨c,rfl,?_⟩;unfold BX at h
  (repeat' split at h)<;>simp_all [fa,e1]
 all_goals ((repeat' split at h)<;>simp_all [fa,e1])
theorem aqv {kb:Nat}{own:List Nat}{dst:Option Nat}{ty:TypeId}{op:Op}{f:FuncId}{cY:Nat}{args:List cv}(h:mO P kb own dst ty op=some (.mL cY f args)):
  ∃c:Call,op=.call c/\c.callee=.value (.func f)/\c.args.toList.mapM eD=some args:=by
 cases op<;>simp only[mO,DU,zT] at h
 case call c =>
  refine⟨c,rfl,?_⟩;unfold BX at h
  (repeat' split at h)<;>simp_all [fa,e1]
  obtain⟨_,G,_,rfl,rfl⟩:=h;exact⟨rfl,G⟩
 all_goals ((repeat' split at h)<;>simp_all [fa,e1])
theorem ae9 {kb:Nat}{own:List Nat}{dst:Option Nat}{ty:TypeId}{op:Op}{f:FuncId}{k:Key}{sz:Nat}{args:List cv}(h:mO P kb own dst ty op=some (.oO k sz f args)):
  ∃c:Call,op=.call c/\c.callee=.value (.func f)/\c.args.toList.mapM eD=some args:=by
 cases op<;>simp only[mO,DU,zT] at h
 case call c =>
  refine⟨c,rfl,?_⟩;unfold BX at h
  (repeat' split at h)<;>simp_all [fa,e1]
  obtain⟨_,_,_,_,_,G,_,_,rfl,rfl⟩:=h;exact⟨rfl,G⟩
 all_goals ((repeat' split at h)<;>simp_all [fa,e1])
theorem aqw {kb:Nat}{own:List Nat}{dst:Option Nat}{ty:TypeId}{op:Op}{f:cv}{args:List cv}(h:mO P kb own dst ty op=some (.mK f args)):
  ∃(c:Call) (x:Operand),op=.call c/\c.callee=.value x/\eD x=some f/\c.args.toList.mapM eD=some args:=by
 cases op<;>simp only[mO,DU,zT] at h
 case call c =>
  refine⟨c,?_⟩;unfold BX at h
  (repeat' split at h)<;>simp_all [fa,e1]
 all_goals ((repeat' split at h)<;>simp_all [fa,e1])
theorem aqx {kb:Nat}{own:List Nat}{dst:Option Nat}{ty:TypeId}{op:Op}{neg:Bool}{x:cv}(h:mO P kb own dst ty op=some (.rK neg x)):
  ∃(t e:TypeId) (y y':Operand) (z:TypeId),op=.binOp (if neg then .neq else .eql) t y y' z/\TQ y'=true/\P.underlying t=some (.slice e)/\eD y=some x:=by
 cases op<;>simp only[mO,DU,zT] at h
 case call c =>
  unfold BX at h
  (repeat' split at h)<;>simp_all [fa,e1]
 case binOp bop t y y' z =>
  (repeat' split at h)<;>simp_all [fa,e1]
  all_goals
   obtain⟨G,rfl⟩:=h;exact⟨_,_,_,_,⟨rfl,rfl,rfl⟩,by assumption,by assumption,G⟩
 all_goals ((repeat' split at h)<;>simp_all [fa,e1])
end Go.Mini
namespace Go.Mini
open Go
variable {P:Program} {T:bl} {A:Nat->Prop} {eW w:World} {hx B:fu} {mem:Mem} {n:Nat}
theorem aqy {t e:TypeId}{y y':Operand}{m:R}{u v:Value}{a2:Nat->Prop}{full:Bool}(neg:Bool)(ca:P.underlying t=some (.slice e))(hm:bN w a2 B m u)(aC:DS m=some full)(aD:v=.slice none 0 0):
  ∃b:Bool,(full=true->b=false)/\((do eqGuard (if neg then .neq else .eql) t y y' u v;binOp (if neg then .neq else .eql) t u v:Sem Value)).run P w=.ok (.bool (neg != b)) w:=by
 subst aD
 have shape:∃a len cap,u=.slice a len cap/\(full=true->a.isNone=false):=by
  cases m<;>simp only[DS,reduceCtorEq] at aC
  case I d =>
   cases d<;>simp only[DS,cL,reduceCtorEq] at aC
   cases hm with
   |I ab =>
    cases ab with
    |mc=>exact⟨_,_,_,rfl,λh=>by cases aC;cases h⟩
    |X=>exact⟨_,_,_,rfl,λ_=>rfl⟩
  case nil =>
   cases hm with
   |nil=>exact⟨_,_,_,rfl,λh=>by cases aC;cases h⟩
  case ref k g sz off len =>
   cases hm with
   |ref he bz Y =>
    obtain⟨a,cap,rfl,G,J,af⟩:=Y;refine⟨_,_,_,rfl,λh=>?_⟩;simp only[cL] at aC;subst aC;simp only[decide_eq_true_eq] at h;rcases af with af|⟨b,rfl,_⟩
    ·omega
    ·rfl
 obtain⟨a,len,cap,rfl,ah⟩:=shape;refine⟨a.isNone,ah,?_⟩
 have he:∀d,(Op.equalIn (d+1) t (.slice a len cap) (.slice none 0 0)).run P w=.ok a.isNone w:=λd=>by
  unfold Op.equalIn;simp only[Sem.run_bind,run_underlying ca,Result.andThen_ok]
  cases a<;>rfl
 have heq:(Op.equal t (.slice a len cap) (.slice none 0 0)).run P w=.ok a.isNone w:=he 9999;rw[Ow (by simp) (by simp)]
 cases neg
 ·simp only[j3,if_false,Sem.run_bind,Sem.run_pure,Result.andThen_ok];show (do pure (Value.bool (<-Op.equal t (.slice a len cap) (.slice none 0 0))):Sem Value).run P w=_
  simp[heq]
 ·simp only[if_true,Sem.run_bind,Sem.run_pure,Result.andThen_ok];show (do pure (Value.bool (!(<-Op.equal t (.slice a len cap) (.slice none 0 0)))):Sem Value).run P w=_
  simp[heq]
structure Ud (P:Program) (n kb:Nat) (own:List Nat) (ops:Array Oper) (o:Oper) (i:du):Prop where
 dst:i.dst=o.dst
 guard:Kc ops o.guard=some i.g
 op:i.op=(mO P kb own o.dst o.type o.op).getD .bad
 lt:o.dst.all (λd=>decide (d<n))=true
theorem afa {kb:Nat}{own:List Nat}{ops:Array Oper}{o:Oper}{i:du}(h:BZ P n kb own ops o=some i):Ud P n kb own ops o i:=by
 unfold BZ at h
 split at h
 ·rename_i g bz
  split at h
  ·rename_i az
   cases h;exact⟨rfl,bz,rfl,az⟩
  ·cases h
 ·cases h
theorem aqz {K:bo->Prop}{i:du}{st:bo}(h:hF T K i st):
  (∃m e,c6 st.mem st.tm i.op=some (m,e)/\K ⟨put st.tm i.dst m,ji st.mem e⟩) \/
  (∃f args,i.op=.call f args/\vk T K st i.dst f (args.map (bC st.tm))) \/
  (∃k sz f args es,i.op=.oO k sz f args/\T f (args.map (bC st.tm)) st.mem=some (.own sz es)/\K ⟨put st.tm i.dst (.ref k (cy st.mem k) sz 0 (D es)),a9 st.mem k (cy st.mem k) (es.flatten.map .I)⟩) \/
  (∃f args,i.op=.mK f args/\((∃g hb,bC st.tm f=.gK g hb/\vk T K st i.dst g (args.map (bC st.tm)++hb))\/(∃g ds,bC st.tm f=.I (.fn g ds)/\vk T K st i.dst g (args.map (bC st.tm)++ds.map .I)))) \/
  (∃neg x full,i.op=.rK neg x/\DS (bC st.tm x)=some full/\∀b:Bool,(full=true->b=false)->K ⟨put st.tm i.dst (.I (.bool (neg != b))),st.mem⟩):=by
 obtain⟨dst,g,op⟩:=i;unfold hF at h
 split at h
 ·rename_i f args od;exact .inr (.inl ⟨f,args,od,h⟩)
 ·rename_i k sz f args od
  split at h
  ·rename_i eQ es he
   split at h
   ·rename_i U;subst U;exact .inr (.inr (.inl ⟨k,_,f,args,es,od,he,h⟩))
   ·cases h
  ·cases h
 ·rename_i f args od;refine .inr (.inr (.inr (.inl ⟨f,args,od,?_⟩)))
  split at h
  ·rename_i g hb aC;exact .inl ⟨g,hb,aC,h⟩
  ·rename_i g ds aC;exact .inr ⟨g,ds,aC,h⟩
  ·cases h
 ·rename_i neg x od
  split at h
  ·rename_i full aC;exact .inr (.inr (.inr (.inr ⟨neg,x,full,od,aC,h⟩)))
  ·cases h
 ·split at h
  ·rename_i m e he;exact .inl ⟨m,e,he,h⟩
  ·cases h
theorem getD_some {α:Type}{x:Option α}{b c:α}(h:c=x.getD b)(ah:c≠b):x=some c:=by
 cases x with
 |none=>exact absurd h ah
 |some y=>simp at h;rw[h]
theorem afb (dK:q0 P T){K:bo->Prop}{a:Act}{st:bo}{o:Oper}{aZ:Exit->Act->World->Prop}{f:FuncId}{args:List R}{vs:List Value}(h:hW n A eW hx a st w B)(az:o.dst.all (λd=>decide (d<n))=true)
  (aD:dW w (cV A B) B args vs) (L:vk T K st o.dst f args) (ng:Real P f->(execOp a.eval o).run P w=.ok (.enter f vs.toArray) w) :
  o.wp P a w (λj4 a1=>∃ew bQ,K ew/\hW n A eW hx j4 ew a1 bQ) aZ:=by
 unfold vk at L;unfold Oper.wp
 cases kq:T f args st.mem with
 |none=>rw[kq] at L;exact L.elim
 |some p8 =>
  obtain⟨p9,mg⟩:=dK f args st.mem p8 kq;have H:=mg A w B vs h.ok.eX aD;rw[kq] at L;rw[ng p9]
  cases p8 with
  |same r =>
   refine Calls.mono H λe a1 he=>?_;obtain⟨v,rfl,bD,ab⟩:=he;exact⟨_,B,L,h.put (.still h.ok.eX bD) (.I ab) az⟩
  |own sz es =>
   refine Calls.mono H λe a1 he=>?_;obtain⟨v,rfl,bD,ab⟩:=he;refine⟨_,B,L,h.put (.still h.ok.eX bD) (.I (ab.den λb ah=>?_)) az⟩;rcases ah with ah|ah
   ·exact h.ok.eX.BQ ah
   ·exact h.ok.eX.lt b ah
  |rel bU =>
   refine Calls.mono H λe a1 he=>?_;obtain⟨v,r,mem',bQ,rfl,U,ab,hc⟩:=he;exact⟨_,bQ,L r mem' hc,h.put U ab az⟩
  |eb r k g i c =>
   refine Calls.mono H λe a1 he=>?_;obtain⟨v,bQ,rfl,U,ab⟩:=he;exact⟨_,bQ,L,h.put U ab az⟩
theorem aqA {a2:Nat->Prop}{m:R}{u:Value}{g:FuncId}{hb:List R}(hm:bN w a2 B m u)(h:m=.gK g hb\/∃ds,m=.I (.fn g ds)/\hb=ds.map .I):
  ∃cs:List Value,u=.func (.func g) #[] cs.toArray/\dW w a2 B hb cs:=by
 rcases h with rfl|⟨ds,rfl,rfl⟩
 ·cases hm with
  |gK aw ab=>exact⟨_,rfl,aw,ab⟩
 ·cases hm with
  |I ab =>
   cases ab with
   |fn aw ab=>exact⟨_,rfl,dW.I aw ab⟩
theorem aqB (dK:q0 P T){K:bo->Prop}{kb:Nat}{own:List Nat}{ops:Array Oper}{a:Act}{st:bo}{o:Oper}{i:du}{aZ:Exit->Act->World->Prop}(h:hW n A eW hx a st w B)(Q:Ud P n kb own ops o i)
  (L:hF T K i st):o.wp P a w (λj4 a1=>∃ew bQ,K ew/\hW n A eW hx j4 ew a1 bQ) aZ:=by
 have od:=Q.op;rcases aqz L with ⟨m,e,U,cZ⟩|⟨f,args,he,cZ⟩|⟨k,sz,f,args,es,he,kq,cZ⟩|⟨f,args,he,cZ⟩|⟨neg,x,full,he,aC,cZ⟩
 ·have bc:mO P kb own o.dst o.type o.op=some i.op:=getD_some od (by
   intro ah;rw[ah] at U
   cases U)
  obtain⟨GY,v,a1,bQ,ng,hd,dF,aD⟩:=ae2 h.ok.eX h.w0 bc U;unfold Oper.wp;rw[ng];rw[Q.dst] at cZ;have Kq:=h.put dF aD Q.lt;rcases hd with rfl|⟨rfl,rfl⟩
  ·exact⟨_,bQ,cZ,Kq⟩
  ·exact⟨_,bQ,cZ,Kq⟩
 ·have bc:mO P kb own o.dst o.type o.op=some i.op:=getD_some od (by rw[he];simp);rw[he] at bc;obtain⟨c,H,pB,q1⟩:=ae8 bc;rw[Q.dst] at cZ;refine afb dK h Q.lt (B4 h.w0 q1) cZ λp9=>?_;obtain⟨dst,op,type,pos,after,guard⟩:=o;simp only at H;subst H;obtain⟨callee,z9,OQ⟩:=c;simp only at pB;subst pB;simp only[execOp,resolve,Deferred.ofValue,Act.eval,invoke,Sem.run_bind,Sem.run_pure,Result.andThen_ok,OP p9];rw[B5 z9];simp
 ·have bc:mO P kb own o.dst o.type o.op=some i.op:=getD_some od (by rw[he];simp);rw[he] at bc;obtain⟨c,H,pB,q1⟩:=ae9 bc;rw[Q.dst] at cZ;obtain⟨p9,mg⟩:=dK f _ st.mem _ kq;have nB:=mg A w B _ h.ok.eX (B4 h.w0 q1);have az:=Q.lt;obtain⟨dst,op,type,pos,after,guard⟩:=o;simp only at H;subst H;obtain⟨callee,z9,OQ⟩:=c;simp only at pB q1;subst pB
  have ng:(execOp a.eval ⟨dst,.call ⟨.value (.func f),z9,OQ⟩,type,pos,after,guard⟩).run P w=.ok (.enter f (z9.toList.map a.eval).toArray) w:=by
   simp only[execOp,resolve,Deferred.ofValue,Act.eval,invoke,Sem.run_bind,Sem.run_pure,Result.andThen_ok,OP p9];rw[B5 z9];simp
  unfold Oper.wp;rw[ng];refine Calls.mono nB λe a1 sU=>?_;obtain⟨v,rfl,bD,ab⟩:=sU;obtain⟨bQ,dF,aD⟩:=ae7 k h.ok.eX bD ab;exact⟨_,bQ,cZ,h.put dF aD az⟩
 ·have bc:mO P kb own o.dst o.type o.op=some i.op:=getD_some od (by rw[he];simp);rw[he] at bc;obtain⟨c,x,H,pB,M,q1⟩:=aqw bc;rw[Q.dst] at cZ;have aqC:=h.w0 _ _ M
  have main:∀g hb,(bC st.tm f=.gK g hb\/∃ds,bC st.tm f=.I (.fn g ds)/\hb=ds.map .I)->vk T K st o.dst g (args.map (bC st.tm)++hb)->o.wp P a w (λj4 a1=>∃ew bQ,K ew/\hW n A eW hx j4 ew a1 bQ) aZ:=by
   intro g hb bz cZ;obtain⟨cs,hu,cm⟩:=aqA aqC bz;refine afb dK h Q.lt ((B4 h.w0 q1).append cm) cZ λp9=>?_;obtain⟨dst,op,type,pos,after,guard⟩:=o;simp only at H;subst H;obtain⟨callee,z9,OQ⟩:=c;simp only at pB;subst pB;simp only[execOp,resolve,hu,Deferred.ofValue,invoke,Sem.run_bind,Sem.run_pure,Result.andThen_ok,OP p9];rw[B5 z9];simp
  rcases cZ with ⟨g,hb,bz,cZ⟩|⟨g,ds,bz,cZ⟩
  ·exact main g hb (.inl bz) cZ
  ·exact main g _ (.inr ⟨ds,bz,rfl⟩) cZ
 ·have bc:mO P kb own o.dst o.type o.op=some i.op:=getD_some od (by rw[he];simp);rw[he] at bc;obtain⟨t,e,y,y',z,H,aM,ca,aj⟩:=aqx bc;rw[Q.dst] at cZ
  have Ue:a.eval y' = .slice none 0 0:=by
   unfold TQ at aM
   split at aM
   ·rfl
   ·cases aM
  obtain⟨b,ah,ng⟩:=aqy (y:=y) (y':=y') neg ca (h.w0 _ _ aj) aC Ue;obtain⟨dst,op,type,pos,after,guard⟩:=o;simp only at H;subst H;unfold Oper.wp
  have:(execOp a.eval ⟨dst,.binOp (if neg then .neq else .eql) t y y' z,type,pos,after,guard⟩).run P w=.ok (.value (.bool (neg != b))) w:=by
   simp only[execOp];rw[Sem.run_bind,ng]
   rfl
  rw[this];exact⟨_,B,cZ b ah,h.put (.refl h.ok.eX) (.I .bool) Q.lt⟩
end Go.Mini
namespace Go.Mini
open Go
variable {T:bl}
theorem gk {tm tm':Nat->R}{x:cv}(h:∀s∈fR x,tm s=tm' s):bC tm x=bC tm' x:=by
 cases x with
 |t s=>exact h s (by simp[fR])
 |c m=>rfl
theorem map_congr {tm tm':Nat->R}{l:List cv}(h:∀s∈l.flatMap fR,tm s=tm' s):l.map (bC tm)=l.map (bC tm') :=
 oi λx M=>gk λs U=>h s (Ea.2 ⟨x,M,U⟩)
theorem afc {tm tm':Nat->R}{l:List cv}(h:∀s∈l.flatMap fR,tm s=tm' s):(l.map λx=>BW (bC tm x))=l.map λx=>BW (bC tm' x) :=
 oi λx M=>by rw[gk λs U=>h s (Ea.2 ⟨x,M,U⟩)]
theorem Eb {tm tm':Nat->R}{x:Option cv}(h:∀s∈yu x,tm s=tm' s):x.map (bC tm)=x.map (bC tm'):=by
 cases x with
 |none=>rfl
 |some x =>
  cases x with
  |t s=>simp[bC,h s (by simp[yu])]
  |c m=>rfl
theorem Uf {tm tm':Nat->R}:∀{dP:List (Nat×Nat×cv)} (cs:List R),(∀s∈dP.flatMap (λp=>fR p.2.2),tm s=tm' s)->kQ (bC tm) cs dP=kQ (bC tm') cs dP
 | [],_,_=>rfl
 |(o,s,x)::dP,cs,h=>by
  have G:bC tm x=bC tm' x:=gk λt ca=>h t (Ea.2 ⟨(o,s,x),by simp,ca⟩);simp only[kQ,G]
  split
  ·exact Uf _ λt ca=>h t (by simp only[List.flatMap_cons,jb];exact .inr ca)
  ·rfl
theorem aqD {mem:Mem}{tm tm':Nat->R}{op:kl}(h:∀s∈yv op,tm s=tm' s):c6 mem tm op=c6 mem tm' op:=by
 cases op<;>simp only[yv,jb] at h
 case bT x=>simp only[c6,lj,gk h]
 case pick c a b=>simp only[c6,lj,gk (λs U=>h s (.inl (.inl U))),gk (λs U=>h s (.inl (.inr U))),gk (λs U=>h s (.inr U))]
 case alloc=>rfl
 case box k x=>simp only[c6,gk h]
 case build z dP=>simp only[c6,lj,Uf _ h]
 case dU k o z sz len dP=>cases o<;>simp only[c6,lj,Uf _ h]
 case load n eM x=>simp only[c6,gk h]
 case store n x v=>simp only[c6,gk (λs U=>h s (.inl U)),gk (λs U=>h s (.inr U))]
 case bin o x y=>simp only[c6,lj,gk (λs U=>h s (.inl U)),gk (λs U=>h s (.inr U))]
 case beq o x y=>simp only[c6,lj,gk (λs U=>h s (.inl U)),gk (λs U=>h s (.inr U))]
 case eqs o l x y=>simp only[c6,lj,gk (λs U=>h s (.inl U)),gk (λs U=>h s (.inr U))]
 case rK=>rfl
 case un o x=>simp only[c6,lj,gk h]
 case conv k x=>simp only[c6,lj,gk h]
 case nv x=>simp only[c6,lj,gk h]
 case lg k z b x y=>simp only[c6,gk (λs U=>h s (.inl U)),gk (λs U=>h s (.inr U))]
 case dt o x=>simp only[c6,lj,gk h]
 case Of o n eM x=>simp only[c6,lj,gk h]
 case ht s x i=>simp only[c6,lj,gk (λs U=>h s (.inl U)),gk (λs U=>h s (.inr U))]
 case pt n s x i=>simp only[c6,lj,gk (λs U=>h s (.inl U)),gk (λs U=>h s (.inr U))]
 case idxs x i=>simp only[c6,lj,gk (λs U=>h s (.inl U)),gk (λs U=>h s (.inr U))]
 case tP s x a b c =>
  have G:=gk (λs U=>h s (.inl (.inl (.inl U))));have J:=Eb (λs U=>h s (.inl (.inl (.inr U))));have af:=Eb (λs U=>h s (.inl (.inr U)));have aT:=Eb (λs U=>h s (.inr U))
  cases b<;>cases c<;>simp only[lu,afd,cL] at af aT<;>simp only[c6,lj,lu,afd,G,J,af,aT]
 case tQ n s x a b c =>
  have G:=gk (λs U=>h s (.inl (.inl (.inl U))));have J:=Eb (λs U=>h s (.inl (.inl (.inr U))));have af:=Eb (λs U=>h s (.inl (.inr U)))
  cases c<;>simp only[c6,lj,G,J,af]
 case Og x a b=>simp only[c6,lj,gk (λs U=>h s (.inl (.inl U))),Eb (λs U=>h s (.inl (.inr U))),Eb (λs U=>h s (.inr U))]
 case ext i x=>simp only[c6,lj,gk h]
 case len x=>simp only[c6,lj,gk h]
 case lens x=>simp only[c6,lj,gk h]
 case app k z b s x=>simp only[c6,gk (λs U=>h s (.inl U)),gk (λs U=>h s (.inr U))]
 case sK s d x=>simp only[c6,gk (λs U=>h s (.inl U)),gk (λs U=>h s (.inr U))]
 case jx o x y=>simp only[c6,lj,gk (λs U=>h s (.inl U)),gk (λs U=>h s (.inr U))]
 case call=>rfl
 case oO=>rfl
 case mK=>rfl
 case mL=>rfl
 case wQ f l=>simp only[c6,lj,map_congr h]
 case bad=>rfl
theorem afe {mem:Mem}{tm tm':Nat->R}{op:kl}(h:∀s∈yv op,tm s=tm' s):jP T mem tm op=jP T mem tm' op:=by
 cases op
 case call f l =>
  have:=afc (l:=l) (tm:=tm) (tm':=tm') (by simpa [yv] using h);simp only[jP,this]
 case oO k sz f l =>
  have:=afc (l:=l) (tm:=tm) (tm':=tm') (by simpa [yv] using h);simp only[jP,this]
 case mK=>rfl
 case rK=>rfl
 case mL cY f l =>
  have:=map_congr (l:=l) (tm:=tm) (tm':=tm') (by simpa [yv] using h);simp only[jP,this]
 all_goals exact aqD (mem:=mem) h
theorem aff {tm tm':Nat->R}{op:kl}(h:∀s∈yv op,tm s=tm' s):eJ tm op=eJ tm' op:=by
 cases op<;>simp only[yv,jb] at h<;>try rfl
 case dU k o z sz len dP=>cases o<;>rfl
 case load n eM x=>simp only[eJ,gk h]
 case tQ n s x a b c=>simp only[eJ,gk (λs U=>h s (.inl (.inl (.inl U))))]
 case store n x v=>simp only[eJ,gk (λs U=>h s (.inl U))]
 case app k z b s x=>simp only[eJ,gk (λs U=>h s (.inl U)),gk (λs U=>h s (.inr U))]
 case sK s d x=>simp only[eJ,gk (λs U=>h s (.inl U)),gk (λs U=>h s (.inr U))]
 case mL cY f l=>simp only[eJ,map_congr h]
theorem aqE {n:Nat}{m:R}{aZ:Key->Prop}(h:∀x∈Gx n m,aZ x.key):∀j∈keyOf m,aZ j:=by
 cases m<;>simp_all [Gx,keyOf,px.key]
theorem afg {mem mem':Mem}{sz:Nat}{m:R}(h:∀k∈keyOf m,mem k=mem' k):qR mem sz m=qR mem' sz m:=by
 cases m<;>try rfl
 case I d=>cases d<;>rfl
 simp only[qR];rw[h _ (by simp[keyOf])]
theorem aqF {mem mem':Mem}{k:Key}{z:List R}{b:Nat}{m:R}{row:Option (Nat×List R)}(L:mem k=mem' k)(h:∀j∈keyOf m,mem j=mem' j):rM mem k z b m row=rM mem' k z b m row:=by
 cases m<;>cases row<;>try rfl
 ·simp only[rM,cy,L]
 ·simp only[rM];rw[h _ (by simp[keyOf])]
theorem aqG {mem mem':Mem}{sz:Nat}{m:R}{row:Option (Nat×List R)}(h:∀j∈keyOf m,mem j=mem' j):wR mem sz m row=wR mem' sz m row:=by
 cases m<;>cases row<;>try rfl
 simp only[wR];rw[h _ (by simp[keyOf])]
theorem aqH {mem mem':Mem}{n:Nat}{eM:Bool}{m:R}(h:∀j∈keyOf m,mem j=mem' j):qQ mem n eM m=qQ mem' n eM m:=by
 cases m<;>try rfl
 case I d=>cases d<;>rfl
 simp only[qQ];rw[h _ (by simp[keyOf])]
theorem aqI {mem mem':Mem}{n:Nat}{m:R}{v:List R}(h:∀j∈keyOf m,mem j=mem' j):yq mem n m v=yq mem' n m v:=by
 cases m<;>try rfl
 simp only[yq];rw[h _ (by simp[keyOf])]
theorem aqJ {mem mem':Mem}{n s a b:Nat}{m:R}(h:∀j∈keyOf m,mem j=mem' j):BU mem n s a b m=BU mem' n s a b m:=by
 cases m<;>try rfl
 simp only[BU];rw[h _ (by simp[keyOf])]
theorem aqK {mem mem':Mem}{tm:Nat->R}{op:kl}(h:∀x∈eJ tm op,mem x.key=mem' x.key):c6 mem tm op=c6 mem' tm op:=by
 have GY:∀k,mem k=mem' k->cy mem k=cy mem' k:=λk L=>by simp only[cy,L]
 cases op<;>try rfl
 case alloc k z=>simp only[c6,GY k (h (.iZ k) (by simp[eJ]))]
 case box k x=>simp only[c6,GY k (h (.iZ k) (by simp[eJ]))]
 case dU k o z sz len dP =>
  cases o
  ·rfl
  ·simp only[c6,GY k (h (.iZ k) (by simp[eJ]))]
 case lg k z b x y=>simp only[c6,GY k (h (.iZ k) (by simp[eJ]))]
 case load n eM x =>
  simp only[c6];rw[aqH (aqE (aZ:=λj=>mem j=mem' j) h)]
 case tQ n s x a b c =>
  cases c
  ·simp only[c6]
   congr 2
   funext l
   congr 1
   funext aY
   exact aqJ λj aA=>h (.iZ j) (by simp[eJ,aA])
  ·rfl
 case store n x v =>
  simp only[c6];exact aqI λj aA=>h (.iZ j) (by simp[eJ,aA])
 case app k z b s x =>
  have cW:∀j,j=k\/j∈keyOf (bC tm s)\/j∈keyOf (bC tm x)->mem j=mem' j:=λj aA=>h (.iZ j) (by simpa [eJ] using aA);simp only[c6,afg (sz:=D z) (λj aA=>cW j (.inr (.inr aA)))];exact aqF (cW k (.inl rfl)) λj aA=>cW j (.inr (.inl aA))
 case sK s d x =>
  have cW:∀j,j∈keyOf (bC tm d)\/j∈keyOf (bC tm x)->mem j=mem' j:=λj aA=>h (.iZ j) (by simpa [eJ] using aA);simp only[c6,afg (sz:=s) (λj aA=>cW j (.inr aA))];exact aqG λj aA=>cW j (.inl aA)
theorem afh {mem mem':Mem}{tm:Nat->R}{op:kl}(H:∀cY f l,op ≠ .mL cY f l)(h:∀x∈eJ tm op,mem x.key=mem' x.key):jP T mem tm op=jP T mem' tm op:=by
 cases op
 case call=>rfl
 case oO k sz f l =>
  have:cy mem k=cy mem' k:=by
   have:=h (.iZ k) (by simp[eJ]);simp only[px.key] at this;simp only[cy,this]
  simp only[jP,this]
 case mL cY f l=>exact absurd rfl (H cY f l)
 case mK=>rfl
 case rK=>rfl
 all_goals exact aqK (mem:=mem) (mem':=mem') (tm:=tm) h
theorem OR {x:Option R}{m:R}{e:Option (Key×Nat×List R)}(h:lN x=some (m,e)):e=none:=(aeY h).2
theorem aqL {mem:Mem}{tm:Nat->R}{op:kl}{m:R}{e:Option (Key×Nat×List R)}(h:c6 mem tm op=some (m,e)):e=none\/(j2 op=true/\∃k g cs,e=some (k,g,cs) /\ .iZ k∈eJ tm op):=by
 cases op<;>try (first|exact .inl (OR h)|exact .inl (OR (x:=some _) h))
 case alloc k z =>
  simp only[c6,cL,fS] at h;exact .inr ⟨rfl,_,_,_,h.2.symm,by simp[eJ]⟩
 case box k x =>
  simp only[c6] at h
  split at h<;>simp only[cL,fS,reduceCtorEq] at h
  exact .inr ⟨rfl,_,_,_,h.2.symm,by simp[eJ]⟩
 case dU k o z sz len dP =>
  cases o
  ·exact .inl (OR h)
  ·simp only[c6,Gv] at h
   (repeat' split at h)<;>simp only[cL,fS,reduceCtorEq] at h
   exact .inr ⟨rfl,_,_,_,h.2.symm,by simp[eJ]⟩
 case lg k z b x y =>
  obtain⟨_,_,_,_,h⟩:=aeZ h;simp only[Gw] at h
  split at h<;>simp only[cL,fS,reduceCtorEq] at h
  exact .inr ⟨rfl,_,_,_,h.2.symm,by simp[eJ]⟩
 case tQ n s x a b c =>
  cases c
  ·exact .inl (OR h)
  ·cases h
 case store n x v =>
  simp only[c6] at h
  cases M:bC tm x<;>rw[M] at h<;>simp only[yq,reduceCtorEq] at h
  simp only[J6] at h
  (repeat' split at h)<;>simp only[cL,fS,reduceCtorEq] at h
  exact .inr ⟨rfl,_,_,_,h.2.symm,by simp[eJ,M,keyOf]⟩
 case app k z b s x =>
  simp only[c6] at h
  cases Y:qR mem (D z) (bC tm x)<;>cases U:bC tm s<;>rw[Y,U] at h<;>simp only[rM,reduceCtorEq] at h
  ·split at h<;>simp only[cL,fS,reduceCtorEq] at h
   exact .inr ⟨rfl,_,_,_,h.2.symm,by simp[eJ]⟩
  ·simp only[kS] at h
   (repeat' split at h)<;>simp only[cL,fS,reduceCtorEq] at h
   exact .inr ⟨rfl,_,_,_,h.2.symm,by simp[eJ,U,keyOf]⟩
 case sK s d x =>
  simp only[c6] at h
  cases Y:qR mem s (bC tm x)<;>cases U:bC tm d<;>rw[Y,U] at h<;>simp only[wR,reduceCtorEq] at h
  simp only[BV] at h
  (repeat' split at h)<;>simp only[cL,fS,reduceCtorEq] at h
  exact .inr ⟨rfl,_,_,_,h.2.symm,by simp[eJ,U,keyOf]⟩
 all_goals cases h
theorem afi {cY:Nat}{mem:Mem}{ms:List R}{x:Option h8}{m:R}{e:Option (Key×Nat×List R)}(h:Gy cY mem ms x=some (m,e)):
  ∃r k g i c cs,x=some (.eb r k g i c)/\mem k=some (g,cs)/\m=.I r/\e=some (k,g,cs.set i c)/\J7 cY ms=[.wr k i]:=by
 unfold Gy at h
 split at h
 ·rename_i k g off rest r k' eg i c
  split at h
  ·rename_i hy cs hm
   split at h
   ·rename_i H;obtain⟨rfl,rfl,rfl⟩:=H;simp only[cL,fS] at h;exact⟨r,_,_,_,c,cs,rfl,hm,h.1.symm,h.2.symm,rfl⟩
   ·cases h
  ·cases h
 ·cases h
theorem Ug {mem:Mem}{tm:Nat->R}{op:kl}{m:R}{e:Option (Key×Nat×List R)}(h:jP T mem tm op=some (m,e)):e=none\/(j2 op=true/\∃k g cs,e=some (k,g,cs)/\(.iZ k∈eJ tm op\/∃i c tX,eJ tm op=[.wr k i]/\mem k=some (g,tX)/\cs=tX.set i c)):=by
 have pl:c6 mem tm op=some (m,e)->e=none\/(j2 op=true/\∃k g cs,e=some (k,g,cs)/\(.iZ k∈eJ tm op\/∃i c tX,eJ tm op=[.wr k i]/\mem k=some (g,tX)/\cs=tX.set i c)):=λh=>by
  rcases aqL h with h|⟨G,k,g,cs,J,af⟩
  ·exact .inl h
  ·exact .inr ⟨G,k,g,cs,J,.inl af⟩
 cases op
 case call f l =>
  simp only[jP] at h
  split at h<;>simp only[cL,fS,reduceCtorEq] at h
  ·exact .inl h.2.symm
  ·exact .inl h.2.symm
 case oO k sz f l =>
  simp only[jP] at h
  (repeat' split at h)<;>simp only[cL,fS,reduceCtorEq] at h
  exact .inr ⟨rfl,_,_,_,h.2.symm,.inl (by simp[eJ])⟩
 case mK=>cases h
 case rK=>cases h
 case mL cY f l =>
  obtain⟨r,k,g,i,c,cs,-,hm,-,he,aC⟩:=afi h;exact .inr ⟨rfl,k,g,_,he,.inr ⟨i,c,cs,aC,hm,rfl⟩⟩
 all_goals exact pl h
theorem aqM {tm:Nat->R}{op:kl}{b:px}(ah:b∈eJ tm op):(∃k,b=.iZ k)\/(∃n eM x k g off,op=.load n eM x/\bC tm x=.ptr k g off/\b=.rd k off (off+n))\/∃cY f l,op=.mL cY f l:=by
 cases op
 case load n eM x =>
  simp only[eJ] at ah
  cases M:bC tm x<;>rw[M] at ah<;>simp[Gx] at ah
  ·exact .inl ⟨_,ah⟩
  ·exact .inr (.inl ⟨_,_,_,_,_,_,rfl,M,ah⟩)
 case mL cY f l=>exact .inr (.inr ⟨_,_,_,rfl⟩)
 case dU k o z sz len dP =>
  cases o<;>simp[eJ] at ah;exact .inl ⟨_,ah⟩
 all_goals
  simp[eJ] at ah
  try first
   |exact .inl ⟨_,ah⟩
   |(rcases ah with ⟨k,_,h⟩|⟨k,_,h⟩<;>exact .inl ⟨k,h.symm⟩)
   |(rcases ah with h|⟨k,_,h⟩|⟨k,_,h⟩<;>first|exact .inl ⟨_,h⟩|exact .inl ⟨_,h.symm⟩)
   |(obtain⟨k,_,h⟩:=ah;exact .inl ⟨k,h.symm⟩)
theorem aqN {cs:List R}{i off n:Nat}{c:R}(h:i<off\/off+n<=i):cut (cs.set i c) off n=cut cs off n:=by
 unfold cut;rw[List.length_set]
 split
 ·congr 1
  rcases h with h|h
  ·rw[tY h]
  ·by_cases Q:i<off
   ·rw[tY Q]
   ·rw[List.drop_set,ag Q,List.take_set_of_le (by omega)]
 ·rfl
theorem aqO {mem:Mem}{k g i:Nat}{c:R}{cs:List R}{n:Nat}{eM:Bool}{k' eg off:Nat}(hm:mem k=some (g,cs))(h:k'≠k\/i<off\/off+n<=i):
  qQ (a9 mem k g (cs.set i c)) n eM (.ptr k' eg off)=qQ mem n eM (.ptr k' eg off):=by
 by_cases L:k'=k
 ·subst L;have h:=h.resolve_left (λh=>h rfl);simp only[qQ,a9,if_true,hm,aqN h]
 ·simp only[qQ,a9,L,if_false]
theorem afj {mem:Mem}{tm:Nat->R}{x y:kl}{m:R}{e:Option (Key×Nat×List R)}(aqP:jP T mem tm x=some (m,e))(aW:rO (j2 x,eJ tm x) (j2 y,eJ tm y)=true):jP T (ji mem e) tm y=jP T mem tm y:=by
 rcases Ug aqP with rfl|⟨hw,k,g,cs,rfl,L⟩
 ·rfl
 ·have dB:∀a∈eJ tm x,∀b∈eJ tm y,rN a b=true:=by
   unfold rO at aW
   simpa [hw] using aW
  have aqQ:∀cY f l,y=.mL cY f l->eJ tm y=[]:=by
   rintro cY f l rfl
   cases ah:eJ tm (.mL cY f l) with
   |nil=>rfl
   |cons b r =>
    exfalso
    have mP:∃k' bm,b=.wr k' bm:=by
     simp only[eJ] at ah;unfold J7 at ah
     split at ah
     ·cases ah;exact⟨_,_,rfl⟩
     ·cases ah
    obtain⟨k',bm,rfl⟩:=mP;have hm:px.wr k' bm∈eJ tm (.mL cY f l):=by rw[ah];exact g3
    rcases L with L|⟨i,c,tX,aC,_,_⟩
    ·have:=dB _ L _ hm;simp[rN] at this
    ·have:=dB (.wr k i) (by rw[aC];exact g3) _ hm;simp[rN] at this
  by_cases aj:∃cY f l,y=.mL cY f l
  ·obtain⟨cY,f,l,rfl⟩:=aj;have ax:=aqQ _ _ _ rfl;simp only[eJ] at ax
   have a3:∀mem' jT,Gy cY mem' (l.map (bC tm)) jT=none:=by
    intro mem' jT;unfold Gy
    split
    ·rename_i heq;rw[heq] at ax;simp[J7] at ax
    ·rfl
   simp only[jP,a3]
  ·have H:∀cY f l,y ≠ .mL cY f l:=λcY f l h=>aj ⟨cY,f,l,h⟩;rcases L with L|⟨i,c,tX,aC,hm,rfl⟩
   ·refine (afh H λb ah=>?_).symm;have G:=dB _ L b ah
    have:b.key≠k:=by
     rintro rfl
     cases b<;>simp[rN,px.key] at G
    simp[ji,a9,this]
   ·have G:=dB (.wr k i) (by rw[aC];exact g3)
    by_cases aw:∃n eM z k' eg off,y=.load n eM z/\bC tm z=.ptr k' eg off
    ·obtain⟨n,eM,z,k',eg,off,rfl,a3⟩:=aw;have J:=G (.rd k' off (off+n)) (by simp[eJ,a3,Gx]);simp only[jP,c6,a3,ji];rw[aqO hm];simp[rN] at J;exact J
    ·refine (afh H λb ah=>?_).symm
     exfalso
     rcases aqM ah with ⟨k',rfl⟩|⟨n,eM,z,k',eg,off,af,aT,_⟩|⟨cY,f,l,af⟩
     ·have:=G _ ah;simp[rN] at this
     ·exact aw ⟨n,eM,z,k',eg,off,af,aT⟩
     ·exact H _ _ _ af
theorem afk {tm:Nat->R}{op:kl}(h:sM op=0):eJ tm op=[]/\j2 op=false:=by
 cases op<;>simp_all [sM,j2,eJ]
 all_goals (rename_i b _ _ _ _;cases b<;>simp_all [j2,eJ])
theorem afl {op:kl}(h:sM op=1):j2 op=false:=by
 cases op<;>simp_all [sM,j2]
 all_goals (rename_i b _ _ _ _;cases b<;>simp_all [j2])
end Go.Mini
namespace Go.Mini
open Go
variable {T:bl} {j6:Nat->Nat->Bool}
def yC (T:bl)(j6:Nat->Nat->Bool)(i:Nat)(x:du)(rec:Rec)(st:bo)(Aa:Rec)(ew:bo):Prop :=
 (pw st.tm x.g=some false/\Aa=rec/\ew=⟨put st.tm x.dst .no,st.mem⟩) \/
 (pw st.tm x.g=some true/\∃m e,jP T st.mem st.tm x.op=some (m,e)/\(∀p q,j6 p i=true->rec p=some q->rO q (j2 x.op,eJ st.tm x.op)=true) /\
  Aa=vl rec i (j2 x.op,eJ st.tm x.op)/\ew=⟨put st.tm x.dst m,ji st.mem e⟩)
theorem w2 {tm:Nat->R}{dst:Option Nat}{m:R}{s:Nat}(h:dst≠some s):put tm dst m s=tm s:=by
 cases dst with
 |none=>rfl
 |some d =>
  have:s≠d:=λe=>h (by rw[e]);simp[put,this]
theorem put_comm {tm:Nat->R}{d yB:Option Nat}{m m':R}(h:∀s,d=some s->yB≠some s):put (put tm d m) yB m'=put (put tm yB m') d m:=by
 funext s
 by_cases G:d=some s
 ·rw[w2 (h s G)];subst G;simp[put]
 ·rw[w2 (dst:=d) G]
  by_cases J:yB=some s
  ·subst J;simp[put]
  ·rw[w2 J,w2 J,w2 G]
theorem afm {tm tm':Nat->R}{g:Option (Nat×Bool)}(h:∀s b,g=some (s,b)->tm s=tm' s):pw tm g=pw tm' g:=by
 cases g with
 |none=>rfl
 |some p =>
  obtain⟨s,b⟩:=p;simp only[pw,h s b rfl]
theorem afn {x y:du}(h:yw x y=true):(∀d,x.dst=some d->d ∉ B0 y)/\(∀d,x.dst=some d->y.dst≠some d)/\(∀d,y.dst=some d->d ∉ B0 x):=by
 refine⟨λd ab=>?_,λd ab=>?_,λd ab=>?_⟩<;>simp[yw,ab] at h
 ·exact h.1.1
 ·exact h.1.2
 ·exact h.2
theorem OS {x:du}{s:Nat}(h:s∈yv x.op):s∈B0 x:=by simp[B0,h]
theorem afo {x:du}{s:Nat}{b:Bool}(h:x.g=some (s,b)):s∈B0 x:=by simp[B0,h]
theorem aqR (a b:px):rN a b=rN b a:=by
 have H:∀k k':Nat,(k==k')=(k'==k):=λk k'=>BEq.comm
 cases a<;>cases b<;>first|rfl|(unfold rN;dsimp only;rw[H])
theorem afp {a b:Bool×List px}(h:rO a b=true):rO b a=true:=by
 unfold rO at *;simp only[yD,Bool.not_eq_true',Bool.or_eq_false_iff,pz] at *;rcases h with ⟨G,J⟩|h
 ·exact .inl ⟨J,G⟩
 ·exact .inr λx M y aj=>by rw[aqR];exact h y aj x M
theorem aqS {mem:Mem}{e e':Option (Key×Nat×List R)}(h:∀j g cs nx eg qV,e=some (j,g,cs)->e'=some (nx,eg,qV)->j≠nx):ji (ji mem e) e'=ji (ji mem e') e:=by
 cases e with
 |none=>rfl
 |some p =>
  cases e' with
  |none=>rfl
  |some qa =>
   obtain⟨j,g,cs⟩:=p;obtain⟨nx,eg,qV⟩:=qa;have b6:=h _ _ _ _ _ _ rfl rfl
   funext k
   simp only[ji,a9]
   by_cases G:k=nx
   ·by_cases J:k=j
    ·exact absurd (J.symm.trans G) b6
    ·simp[G,J];intro af;exact absurd af.symm b6
   ·simp[G]
def Passes (j6:Nat->Nat->Bool)(i j:Nat)(x y:du):Prop:=j6 i j=true\/zU (sM x.op) (sM y.op)=true
theorem aqT {i j:Nat}{x y:du}{tm:Nat->R}(h:Passes j6 i j x y)(H:j6 i j=true->rO (j2 x.op,eJ tm x.op) (j2 y.op,eJ tm y.op)=true):
  rO (j2 x.op,eJ tm x.op) (j2 y.op,eJ tm y.op)=true:=by
 rcases h with h|h
 ·exact H h
 ·unfold zU at h;simp only[yD,fw,beq_iff_eq] at h;rcases h with (h|h)|⟨G,J⟩
  ·obtain⟨G,J⟩:=afk (tm:=tm) h;simp[rO,G]
  ·obtain⟨G,J⟩:=afk (tm:=tm) h;simp[rO,G]
  ·have G:=afl G;have J:=afl J;simp[rO,G,J]
theorem yC.comm {i j:Nat}{x y:du}{rec rV OT:Rec}{st rW OU:bo}(mT:i≠j)(dv:yw x y=true)(aF:Passes j6 i j x y)(Uh:∀a b,j6 a b=j6 b a)(j7:rec i=none)
  (G:yC T j6 i x rec st rV rW) (J:yC T j6 j y rV rW OT OU):∃Kr Ks,yC T j6 j y rec st Kr Ks/\yC T j6 i x Kr Ks OT OU:=by
 obtain⟨aW,ah,H⟩:=afn dv
 -- what one sees of the other's temporary: nothing
 have aqU:∀m,pw (put st.tm x.dst m) y.g=pw st.tm y.g:=λm=>afm λs b U=>w2 λab=>aW s ab (afo U);have aqV:∀mem m,jP T mem (put st.tm x.dst m) y.op=jP T mem st.tm y.op:=λmem m=>afe λs U=>w2 λab=>aW s ab (OS U);have aqW:∀m,eJ (put st.tm x.dst m) y.op=eJ st.tm y.op:=λm=>aff λs U=>w2 λab=>aW s ab (OS U);have OV:∀m,pw (put st.tm y.dst m) x.g=pw st.tm x.g:=λm=>afm λs b U=>w2 λab=>H s ab (afo U);have afq:∀mem m,jP T mem (put st.tm y.dst m) x.op=jP T mem st.tm x.op:=λmem m=>afe λs U=>w2 λab=>H s ab (OS U);have OW:∀m,eJ (put st.tm y.dst m) x.op=eJ st.tm x.op:=λm=>aff λs U=>w2 λab=>H s ab (OS U);have mh:∀m m',put (put st.tm x.dst m) y.dst m'=put (put st.tm y.dst m') x.dst m:=λm m'=>put_comm ah;rcases G with ⟨cQ,rfl,rfl⟩|⟨cQ,ea,av,s1,aq,rfl,rfl⟩<;>rcases J with ⟨dd,rfl,rfl⟩|⟨dd,b7,aB,s2,c2,rfl,rfl⟩<;>simp only[aqU,aqV,aqW] at *
 ·exact⟨_,_,.inl ⟨dd,rfl,rfl⟩,.inl ⟨by simp only[OV];exact cQ,rfl,by simp only[mh]⟩⟩
 ·exact⟨_,_,.inr ⟨dd,b7,aB,s2,c2,rfl,rfl⟩,.inl ⟨by simp only[OV];exact cQ,rfl,by simp only[mh]⟩⟩
 ·exact⟨_,_,.inl ⟨dd,rfl,rfl⟩,.inr ⟨by simp only[OV];exact cQ,ea,av,by simp only[afq];exact s1,by simp only[OW];exact aq,by simp only[OW],by simp only[mh]⟩⟩
 ·have afr:j6 i j=true->rO (j2 x.op,eJ st.tm x.op) (j2 y.op,eJ st.tm y.op)=true:=λh=>c2 i _ h (by simp[vl]);have Ca:=aqT (tm:=st.tm) aF afr;have Ui:jP T st.mem st.tm y.op=some (b7,aB):=by rw[<-s2];exact (afj s1 Ca).symm
  have fs:∀j g cs nx eg qV,av=some (j,g,cs)->aB=some (nx,eg,qV)->j≠nx:=by
   rintro k g cs k' eg qV rfl rfl rfl;rcases Ug s1 with h|⟨hw,dA,dd,vy,h,G⟩
   ·cases h
   ·cases h;rcases Ug Ui with h|⟨afs,ek,iK,aIR,h,J⟩
    ·cases h
    ·cases h;unfold rO at Ca;simp only[hw,Bool.true_or,Bool.not_true,Bool.false_or,pz] at Ca;rcases G with G|⟨i,c,tX,G,_,_⟩<;>rcases J with J|⟨bm,c',aIS,J,_,_⟩
     ·have:=Ca _ G _ J;simp[rN] at this
     ·have:=Ca _ G (.wr k bm) (by rw[J];exact g3);simp[rN] at this
     ·have:=Ca (.wr k i) (by rw[G];exact g3) _ J;simp[rN] at this
     ·have:=Ca (.wr k i) (by rw[G];exact g3) (.wr k bm) (by rw[J];exact g3);simp[rN] at this
  refine⟨_,_,.inr ⟨dd,b7,aB,Ui,λp q OX bF=>?_,rfl,rfl⟩,.inr ⟨by simp only[OV];exact cQ,ea,av,?_,?_,?_,?_⟩⟩
  ·have b6:p≠i:=λh=>by rw[h,j7] at bF;cases bF
   exact c2 p q OX (by simp[vl,b6,bF])
  ·simp only[afq];rw[<-s1];exact afj Ui (afp Ca)
  ·simp only[OW];intro p q oV bF
   by_cases OX:p=j
   ·subst OX;simp only[vl,if_true,cL] at bF;subst bF;exact afp (afr (by rw[Uh];exact oV))
   ·simp only[vl,OX,if_false] at bF;exact aq p q oV bF
  ·simp only[OW]
   funext p
   simp only[vl]
   by_cases G:p=i
   ·subst G;simp[mT]
   ·simp[G]
  ·simp only[mh];rw[aqS fs]
end Go.Mini
namespace Go.Mini
open Go
variable {T:bl} {j6:Nat->Nat->Bool} {ops:Array Oper} {l:List du} {K:bo->Prop}
def GZ (T:bl)(j6:Nat->Nat->Bool)(ops:Array Oper)(l:List du)(K:bo->Prop):Nat->Array Bool->Rec->bo->Prop
 |0,fc,_,st=>Region.ready .any ops fc=[]/\K st
 |fuel+1,fc,rec,st=>(Region.ready .any ops fc=[]->K st) /\
  ∀i∈Region.ready .any ops fc,∃x Aa ew,l[i]?=some x/\yC T j6 i x rec st Aa ew/\GZ T j6 ops l K fuel (fc.setIfInBounds i true) Aa ew
def Cb (ops:Array Oper)(fc:Array Bool):Prop :=
 fc.size=ops.size/\∀(j:Nat) (o:Oper),ops[j]?=some o->fc.getD j false=true->∀e∈o.after,Region.binds .any e=true->fc.getD e.on false=true
theorem Cb.set {fc:Array Bool}{i:Nat}(h:Cb ops fc)(Q:i∈Region.ready .any ops fc):Cb ops (fc.setIfInBounds i true):=by
 refine⟨by simp[h.1],λj o aA aw e he ah=>?_⟩
 by_cases kW:j=i
 ·subst kW;obtain⟨_,Kt,bS,dB⟩:=mem_ready.1 Q;rw[aA] at bS
  cases bS;exact getD_set_true (dB e he ah)
 ·rw[getD_set_ne false (Ne.symm kW)] at aw;exact getD_set_true (h.2 j o aA aw e he ah)
def Uj (j6:Nat->Nat->Bool)(ops:Array Oper)(l:List du):Prop :=
 ∀(i j:Nat) (x y:du),i≠j->l[i]?=some x->l[j]?=some y ->
  (∀fc,Cb ops fc->i∈Region.ready .any ops fc->j∈Region.ready .any ops fc->False)\/(yw x y=true/\Passes j6 i j x y)
theorem aft {i k:Nat}{x:du}{rec Aa:Rec}{st ew:bo}(h:yC T j6 i x rec st Aa ew)(L:k≠i):Aa k=rec k:=by
 rcases h with ⟨_,rfl,_⟩|⟨_,_,_,_,_,rfl,_⟩
 ·rfl
 ·simp[vl,L]
theorem aqX {fc:Array Bool}{i k:Nat}(h:(fc.setIfInBounds i true).getD k true=false):k≠i/\fc.getD k true=false:=by
 by_cases rX:i=k
 ·subst rX
  exfalso
  by_cases az:i<fc.size
  ·simp[az] at h
  ·have:(fc.setIfInBounds i true).size<=i:=by simp;omega
   rw[Array.getD_eq_getD_getElem?,Array.getElem?_eq_none this] at h;simp at h
 ·rw[getD_set_ne true rX] at h;exact⟨λcW=>rX cW.symm,h⟩
theorem aqY (aF:Uj j6 ops l)(Uh:∀a b,j6 a b=j6 b a){i:Nat}{x:du}(Q:l[i]?=some x):∀(fuel:Nat) (fc:Array Bool) (rec:Rec) (st:bo) (rV:Rec) (rW:bo),
  Cb ops fc->(∀k,fc.getD k true=false->rec k=none)->i∈Region.ready .any ops fc->yC T j6 i x rec st rV rW ->
  GZ T j6 ops l K fuel (fc.setIfInBounds i true) rV rW->GZ T j6 ops l K (fuel+1) fc rec st:=by
 intro fuel
 induction fuel with
 |zero =>
  intro fc rec st rV rW fv yE Y he gf;refine⟨λh=>(by rw[h] at Y;cases Y),λj aA=>?_⟩
  by_cases kW:j=i
  ·subst kW;exact⟨x,rV,rW,Q,he,gf⟩
  ·have:=ready_mono aA kW;rw[gf.1] at this
   cases this
 |succ fuel aN =>
  intro fc rec st rV rW fv yE Y he gf;refine⟨λh=>(by rw[h] at Y;cases Y),λj aA=>?_⟩
  by_cases kW:j=i
  ·subst kW;exact⟨x,rV,rW,Q,he,gf⟩
  ·obtain⟨y,OT,OU,aj,gF,cZ⟩:=gf.2 j (ready_mono aA kW);rcases aF i j x y (Ne.symm kW) Q aj with gw|⟨dv,aqZ⟩
   ·exact (gw fc fv Y aA).elim
   ·obtain⟨Kr,Ks,G,J⟩:=yC.comm (Ne.symm kW) dv aqZ Uh (yE i (mem_ready.1 Y).1) he gF;refine⟨y,Kr,Ks,aj,G,aN _ Kr Ks OT OU (fv.set aA) (λk L=>?_) (ready_mono Y (Ne.symm kW)) J ?_⟩
    ·obtain⟨af,aT⟩:=aqX L;rw[aft G af];exact yE k aT
    ·rw[Array.setIfInBounds_comm _ _ kW];exact cZ
theorem Uk:∀(r:List Oper) (acc:List Nat) (k:Nat),k<(D acc)->(qT r acc).getD k 0=acc.getD k 0
 | [],acc,k,_=>rfl
 |o::r,acc,k,L=>by
  simp only[qT];rw[Uk r _ k (by simp;omega)];simp only[ep];rw[oe L]
theorem aq0 {es:List Edge}{acc:List Nat}{i:Nat}:∀(s:Nat),(es.foldl (λs e=>if Region.binds .any e=true then s ||| (2^e.on ||| acc.getD e.on 0) else s) s).testBit i=true ->
  s.testBit i=true\/∃e∈es,Region.binds .any e=true/\(e.on=i\/(acc.getD e.on 0).testBit i=true):=by
 induction es with
 |nil=>exact λs h => .inl h
 |cons e es aN =>
  intro s h;rw[aeG] at h;rcases aN _ h with G|⟨e',G,J⟩
  ·split at G
   ·rename_i ah;rw[afu,afu,yD,yD] at G;rcases G with G|G|G
    ·exact .inl G
    ·rw[Nat.testBit_two_pow] at G;exact .inr ⟨e,by simp,ah,.inl (by simpa using G)⟩
    ·exact .inr ⟨e,by simp,ah,.inr G⟩
   ·exact .inl G
  ·exact .inr ⟨e',by simp[G],J⟩
theorem afv:∀(r:List Oper) (acc:List Nat) (t:Nat) (o:Oper),r[t]?=some o->∀i,((qT r acc).getD (D acc+t) 0).testBit i=true ->
  ∃e∈o.after.toList,Region.binds .any e=true/\(e.on=i\/(e.on<D acc+t/\((qT r acc).getD e.on 0).testBit i=true))
 | [],_,_,_,h,_,_=>by simp at h
 |Kt::r,acc,0,o,h,i,ah=>by
  simp at h;subst h;simp only[qT,lP] at ah ⊢;rw[Uk r _ _ (by simp)] at ah;simp only[ep] at ah;rw[nc (cH _)] at ah;simp only[jy,Cc,Ku] at ah;rcases aq0 (acc:=acc) 0 (by simpa only [ep] using ah) with G|⟨e,G,J,af⟩
  ·simp at G
  ·refine⟨e,G,J,af.imp id λh=>?_⟩
   have az:e.on<D acc:=by
    rcases g2 e.on (D acc) with cW|cW
    ·exact cW
    ·rw[ep,ja cW] at h;simp at h
   refine⟨az,?_⟩;rw[Uk r _ _ (by simp;omega),ep,oe az,<-ep];exact h
 |Kt::r,acc,t+1,o,h,i,ah=>by
  have cW:r[t]?=some o:=by simpa using h
  simp only[qT] at ah ⊢
  have:=afv r (acc++[Kt.after.toList.foldl (λs e=>if Region.binds .any e=true then s ||| (2^e.on ||| acc.getD e.on 0) else s) 0]) t o cW i (by
   rw[fX,List.length_singleton,tT,zP 1 t];exact ah)
  obtain⟨e,G,J,af⟩:=this;refine⟨e,G,J,af.imp id λh=>⟨by have:=h.1;simp at this;omega,h.2⟩⟩
theorem aq1 {fc:Array Bool}(fv:Cb ops fc):∀(j:Nat) (o:Oper),ops[j]?=some o->(∀e∈o.after,Region.binds .any e=true->fc.getD e.on false=true) ->
  ∀i,((qT ops.toList []).getD j 0).testBit i=true->fc.getD i false=true:=by
 intro j
 induction j using Nat.strongRecOn with
 |_ j aN =>
  intro o bS dB i Q;obtain⟨e,he,ah,h⟩:=afv ops.toList [] j o (by simpa using bS) i (by simpa using Q);have aw:=dB e (by simpa using he) ah;rcases h with rfl|⟨az,aq2⟩
  ·exact aw
  ·have fg:e.on<ops.size:=by
    rw[<-fv.1];rcases g2 e.on fc.size with cW|cW
    ·exact cW
    ·simp[Array.getElem?_eq_none cW] at aw
   have afw:ops[e.on]?=some ops[e.on]:=Array.getElem?_eq_getElem fg;exact aN e.on (by simpa using az) _ afw (fv.2 e.on _ afw aw) i aq2
theorem afx:∀(cs pre:List du) (as:List Nat),GF pre cs as=true->∀(t:Nat) (y:du),cs[t]?=some y->∀(i:Nat) (x:du),(pre++cs)[i]?=some x->i<D pre+t ->
  (as.getD t 0).testBit i=true\/yw x y=true
 | [],_,_,_,_,_,h,_,_,_,_=>by simp at h
 |_::_,_,[],h,_,_,_,_,_,_,_=>by simp[GF] at h
 |c::cs,pre,a::as,h,0,y,aj,i,x,M,az=>by
  simp only[GF,fw,pz] at h;simp at aj;subst aj;have Q:i<D pre:=by simpa using az
  rw[oe Q] at M;have:=h.1 (x,i) (by rw[afy];exact M)
  simpa using this
 |c::cs,pre,a::as,h,t+1,y,aj,i,x,M,az=>by
  simp only[GF,fw] at h;have:=afx cs (pre++[c]) as h.2 t y (by simpa using aj) i x (by simpa using M) (by simp;omega)
  simpa using this
theorem afz:∀(cs pre:List du) (as:List Nat) (t:Nat) (y:du),cs[t]?=some y->∀(i:Nat) (x:du),(pre++cs)[i]?=some x->i<D pre+t ->
  (as.getD t 0).testBit i=true\/zU (sM x.op) (sM y.op)=true\/i∈(zV pre cs as).getD t []
 | [],_,_,_,_,h,_,_,_,_=>by simp at h
 |c::cs,pre,as,0,y,aj,i,x,M,az=>by
  simp at aj;subst aj;have Q:i<D pre:=by simpa using az
  rw[oe Q] at M;have hJ:(x,i)∈pre.zipIdx:=by rw[afy];exact M
  by_cases G:(as.getD 0 0).testBit i=true
  ·exact .inl G
  ·by_cases J:zU (sM x.op) (sM c.op)=true
   ·exact .inr (.inl J)
   ·refine .inr (.inr ?_);simp only[zV,ep,Cc,Ku];refine List.mem_map.2 ⟨(x,i),List.mem_filter.2 ⟨hJ,?_⟩,rfl⟩;have af:as.headD 0=as.getD 0 0:=by cases as<;>rfl
    simp only[af];rw[ep] at G;simp[G,J]
 |c::cs,pre,as,t+1,y,aj,i,x,M,az=>by
  have:=afz cs (pre++[c]) as.tail t y (by simpa using aj) i x (by simpa using M) (by simp;omega);have af:as.tail.getD t 0=as.getD (t+1) 0:=by cases as<;>simp
  rw[af] at this
  simpa [zV] using this
def w3 (c:List (List Nat))(i j:Nat):Bool:=if i<j then (c.getD j []).contains i else if j<i then (c.getD i []).contains j else false
theorem afA (c:List (List Nat))(i j:Nat):w3 c i j=w3 c j i:=by
 unfold w3
 by_cases G:i<j
 ·simp[G,afB G]
 ·by_cases J:j<i
  ·simp[J,afB J]
  ·simp[G,J]
theorem aq3 {x y:du}(h:yw x y=true):yw y x=true:=by
 obtain⟨G,J,af⟩:=afn h;unfold yw;rw[fw]
 constructor
 ·cases aj:y.dst with
  |none=>rfl
  |some d =>
   have a:=af d aj;have b:x.dst≠some d:=λM=>J d M aj;simp[a,b]
 ·cases M:x.dst with
  |none=>rfl
  |some d =>
   have a:=G d M;simp[a]
theorem aq4 (a b:Nat):zU a b=zU b a:=by
 unfold zU
 cases (a==0)<;>cases (b==0)<;>cases (a==1)<;>cases (b==1)<;>rfl
theorem aq5 (ab:GH ops l=true):Uj (w3 (zV [] l (qT ops.toList []))) ops l:=by
 have key:∀(i j:Nat) (x y:du),i<j->l[i]?=some x->l[j]?=some y ->
   (∀fc,Cb ops fc->i∈Region.ready .any ops fc->j∈Region.ready .any ops fc->False) \/
   (yw x y=true/\(w3 (zV [] l (qT ops.toList [])) i j=true\/zU (sM x.op) (sM y.op)=true)):=by
  intro i j x y mT M aj;unfold GH at ab;rw[fw] at ab
  by_cases ah:((qT ops.toList []).getD j 0).testBit i=true
  ·refine .inl λfc fv Q aA=>?_;obtain⟨_,o,bS,dB⟩:=mem_ready.1 aA;have G:=aq1 fv j o bS dB i ah;have ax:=(mem_ready.1 Q).1;rcases g2 i fc.size with cW|cW
   ·simp[cW] at ax G;rw[ax] at G;cases G
   ·simp[Array.getElem?_eq_none cW] at G
  ·refine .inr ⟨?_,?_⟩
   ·rcases afx l [] _ ab.2 j y aj i x (by simpa using M) (by simpa using mT) with h|h
    ·exact absurd h ah
    ·exact h
   ·rcases afz l [] (qT ops.toList []) j y aj i x (by simpa using M) (by simpa using mT) with h|h|h
    ·exact absurd h ah
    ·exact .inr h
    ·exact .inl (by unfold w3;rw[ad mT];exact afC.2 h)
 intro i j x y mT M aj;rcases Nat.lt_or_gt_of_ne mT with h|h
 ·exact key i j x y h M aj
 ·rcases key j i y x h aj M with G|⟨G,J⟩
  ·exact .inl λfc fv Q aA=>G fc fv aA Q
  ·refine .inr ⟨aq3 G,?_⟩;rcases J with J|J
   ·exact .inl (by rw[afA];exact J)
   ·exact .inr (by rw[aq4];exact J)
end Go.Mini
namespace Go.Mini
open Go
variable {P:Program} {T:bl} {A:Nat->Prop} {eW w:World} {hx B:fu} {mem:Mem} {n kb:Nat} {own:List Nat} {ops:Array Oper} {l:List du} {K:bo->Prop} {aZ:Exit->Act->World->Prop}
theorem afD:∀(r:List Oper) (m:Nat),GG m r=true->∀(t:Nat) (o:Oper),r[t]?=some o->∀e∈o.after,Region.binds .any e=true->e.on<m+t
 | [],_,_,_,_,h,_,_,_=>by simp at h
 |Kt::r,m,h,0,o,bS,e,he,ah=>by
  simp only[GG,fw] at h;simp at bS;subst bS;have:=(Array.all_eq_true_iff_forall_mem.1 h.1) e he
  simpa [ah] using this
 |Kt::r,m,h,t+1,o,bS,e,he,ah=>by
  simp only[GG,fw] at h;have:=afD r (m+1) h.2 t o (by simpa using bS) e he ah;omega
theorem afE {c:List (List Nat)}(aF:Uj (w3 c) ops l)(aw:(D l)=ops.size)(he:GG 0 ops.toList=true):∀(r:List du) (m:Nat) (rec:Rec) (st:bo) (fc:Array Bool),l.drop m=r->m+D r=(D l) ->
  fc.size=ops.size->(∀i,i<ops.size->fc.getD i true=decide (i<m))->(∀k,m<=k->rec k=none)->wS T K m r (c.drop m) rec st->GZ T (w3 c) ops l K (D r) fc rec st
 | [],m,rec,st,fc,Y,hm,U,hli,yE,h=>by
  refine⟨List.eq_nil_iff_forall_not_mem.2 λi Q=>?_,h⟩;obtain⟨G,o,bS,_⟩:=mem_ready.1 Q;have az:i<ops.size:=(Array.getElem?_eq_some_iff.1 bS).1;rw[hli i az] at G;simp at G hm;omega
 |x::r,m,rec,st,fc,Y,hm,U,hli,yE,h=>by
  have az:m<ops.size:=by simp at hm;omega
  have bS:ops[m]?=some ops[m]:=Array.getElem?_eq_getElem az
  have M:l[m]?=some x:=by
   have:(l.drop m)[0]?=some x:=by rw[Y];rfl
   simpa using this
  have mg:=λ(j:Nat) (o:Oper) (aA:ops[j]?=some o)=>afD ops.toList 0 he j o (by simpa using aA)
  have cI:∀i,i<m->fc.getD i false=true:=λi Q=>by
   have G:=hli i (by omega);rw[jw Q] at G;have J:i<fc.size:=by omega
   simpa [J] using G
  have fv:Cb ops fc:=⟨U,λj o aA nb e sU ah=>by
   have G:=mg j o aA e sU ah;have vq:j<ops.size:=(Array.getElem?_eq_some_iff.1 aA).1
   have J:j<m:=by
    have:=hli j vq;have af:j<fc.size:=by omega
    simp[af] at nb this;rw[nb] at this
    simpa using this.symm
   exact cI _ (by omega)⟩
  have aq6:m∈Region.ready .any ops fc:=mem_ready.2 ⟨by rw[hli m az];simp,_,bS,λe sU ah=>cI _ (by have:=mg m _ bS e sU ah;omega)⟩
  have aq7:∀k,fc.getD k true=false->rec k=none:=λk L=>yE k (by
   rcases g2 k ops.size with cW|cW
   ·rw[hli k cW] at L
    simpa using L
   ·omega)
  have next:∀rV rW,yC T (w3 c) m x rec st rV rW->wS T K (m+1) r (c.drop m).tail rV rW->GZ T (w3 c) ops l K (D r+1) fc rec st:=by
   intro rV rW hex L;refine aqY aF (afA c) M _ fc rec st rV rW fv aq7 aq6 hex (afE aF aw he r (m+1) rV rW _ ?_ (by simp at hm;omega) (by simpa using U) (λi Q=>?_) (λk L=>?_) ?_)
   ·rw[<-G0,Y]
    rfl
   ·by_cases him:m=i
    ·subst him;have:m<fc.size:=by omega
     simp[this]
    ·rw[getD_set_ne true him,hli i Q]
     congr 1
     simp;omega
   ·rw[aft hex (by omega)];exact yE k (by omega)
   ·rw[List.tail_drop] at L;exact L
  simp only[wS] at h
  split at h
  ·cases h
  ·rename_i g bz
   split at h
   ·rename_i hL;subst hL
    split at h
    ·rename_i bT e U;refine next _ _ (.inr ⟨bz,bT,e,U,λp q G6 bF=>?_,rfl,rfl⟩) h.2
     have ia:p<m:=by
      rcases g2 p m with cW|cW
      ·exact cW
      ·rw[yE p cW] at bF;cases bF
     have Ul:=h.1;unfold Gz at Ul;rw[pz] at Ul
     have hJ:p∈(c.drop m).headD []:=by
      unfold w3 at G6;rw[ad ia] at G6
      have:(c.drop m).headD []=c.getD m []:=by
       rw[List.headD_eq_head?_getD,List.head?_drop,ep]
      rw[this];exact afC.1 G6
     have:=Ul p hJ;rw[bF] at this;exact this
    ·cases h
   ·rename_i aq8;have aq9:g=false:=by simpa using aq8
    subst aq9;exact next _ _ (.inl ⟨bz,rfl,rfl⟩) h
theorem Um (h:ga A w B mem):ga (cV A B) w (λ_=>none) emp :=
 ⟨λ_ _=>rfl,λ_ _ _ _ _ h=>(by cases h),λb _ ⟨_,_,h,_⟩=>(by cases h),λb ah=>ah.elim (λcW=>h.BQ cW) (h.lt b),λ_ _ _ h=>(by cases h)⟩
theorem Kv (b:Nat):cV (cV A B) (λ_=>none) b↔cV A B b :=
 ⟨λh=>h.elim (fun⟨_,_,h,_⟩=>by cases h) id,.inr⟩
theorem ara {m:R}{v:Value}(h:bN w (cV A B) B m v):bN w (cV (cV A B) λ_=>none) (λ_=>none) (BW m) v:=by
 cases h with
 |I h=>exact .I (h.less λb ah=>(Kv b).1 ah)
 |nil=>exact .nil
 |gK aw ab =>
  rename_i f hb vs
  cases hb with
  |nil=>exact .gK aw λi d v h=>by simp at h
  |cons c r=>exact .undef
 |agg aw ab =>
  rename_i cs vs;simp only[BW]
  cases H:cs.mapM DQ with
  |none=>exact .undef
  |some ds =>
   obtain⟨G,J⟩:=oP H;refine .I (.agg (aw.trans G.symm) λi d v Q aD=>?_);have az:i<D cs:=by have:=(ej.1 Q).1;omega
   have nz:=bq az;exact (aeN (J i _ d nz Q) (ab i _ v nz aD)).less λb ah=>(Kv b).1 ah
 |_=>exact .undef
theorem shut_list {ms:List R}{vs:List Value}(h:dW w (cV A B) B ms vs):dW w (cV (cV A B) λ_=>none) (λ_=>none) (ms.map BW) vs:=by
 refine⟨by simpa using h.1,λi m v hm aD=>?_⟩
 rw[bj,e1] at hm;obtain⟨m',Ab,rfl⟩:=hm;exact ara (h.2 i m' v Ab aD)
theorem B9.less {w a1:World}{a2 pr:Nat->Prop}{sz:Nat}{es:List (List Data)}{v:Value}(aw:∀b,pr b->a2 b)(h:B9 w a1 a2 sz es v):B9 w a1 pr sz es v:=by
 obtain⟨G,a,cap,J,af,aT,bx⟩:=h;refine⟨G,a,cap,J,af,aT,bx.imp id ?_⟩;rintro⟨b,vs,T,b0,bV,cu,eK,dS⟩;exact⟨b,vs,T,b0,bV,cu,eK,λi d ab=>let ⟨u,hu,vx⟩:=dS i d ab;⟨u,hu,vx.less λfy mP=>mP.imp (aw fy) id⟩⟩
theorem OY {o:Oper}{c:Call}{f:FuncId}{a:Act}(bS:o.op=.call c)(pB:c.callee=.value (.func f))(p9:Real P f):(execOp a.eval o).run P w=.ok (.enter f (c.args.toList.map a.eval).toArray) w:=by
 obtain⟨dst,op,type,pos,after,guard⟩:=o;simp only at bS;subst bS;obtain⟨callee,z9,OQ⟩:=c;simp only at pB;subst pB;simp only[execOp,resolve,Deferred.ofValue,Act.eval,invoke,Sem.run_bind,Sem.run_pure,Result.andThen_ok,OP p9];rw[B5 z9];simp
theorem arb (dK:q0 P T){a:Act}{st:bo}{o:Oper}{i:du}{m:R}{e:Option (Key×Nat×List R)}(h:hW n A eW hx a st w B)(Q:Ud P n kb own ops o i)
  (U:jP T st.mem st.tm i.op=some (m,e)):o.wp P a w (λj4 a1=>∃bQ,hW n A eW hx j4 ⟨put st.tm i.dst m,ji st.mem e⟩ a1 bQ) aZ:=by
 have od:=Q.op
 have plain:c6 st.mem st.tm i.op=some (m,e)->o.wp P a w (λj4 a1=>∃bQ,hW n A eW hx j4 ⟨put st.tm i.dst m,ji st.mem e⟩ a1 bQ) aZ:=by
  intro U
  have bc:mO P kb own o.dst o.type o.op=some i.op:=getD_some od (by
   intro ah;rw[ah] at U
   cases U)
  obtain⟨GY,v,a1,bQ,ng,hd,dF,aD⟩:=ae2 h.ok.eX h.w0 bc U;unfold Oper.wp;rw[ng,Q.dst];have Kq:=h.put dF aD Q.lt;rcases hd with rfl|⟨rfl,rfl⟩
  ·exact⟨bQ,Kq⟩
  ·exact⟨bQ,Kq⟩
 cases Ac:i.op with
 |call f args =>
  have bc:mO P kb own o.dst o.type o.op=some i.op:=getD_some od (by rw[Ac];simp);rw[Ac] at bc U;obtain⟨c,H,pB,q1⟩:=ae8 bc;have cm:=shut_list (B4 h.w0 q1);rw[oj] at cm;simp only[jP] at U
  split at U
  ·rename_i r kq
   cases U;obtain⟨p9,mg⟩:=dK f _ _ _ kq;have nB:=mg (cV A B) w (λ_=>none) _ (Um h.ok.eX) cm;unfold Oper.wp;rw[OY H pB p9,Q.dst];refine Calls.mono nB λe a1 he=>?_;obtain⟨v,rfl,bD,ab⟩:=he;exact⟨B,h.put (.still h.ok.eX bD) (.I (ab.less λb ah=>(Kv b).2 ah)) Q.lt⟩
  ·rename_i sz es kq
   cases U;obtain⟨p9,mg⟩:=dK f _ _ _ kq;have nB:=mg (cV A B) w (λ_=>none) _ (Um h.ok.eX) cm;unfold Oper.wp;rw[OY H pB p9,Q.dst];refine Calls.mono nB λe a1 he=>?_;obtain⟨v,rfl,bD,ab⟩:=he;exact⟨B,h.put (.still h.ok.eX bD) (.I ((ab.less λb ah=>(Kv b).2 ah).den λb ah=>ah.elim (λcW=>h.ok.eX.BQ cW) (h.ok.eX.lt b))) Q.lt⟩
  ·cases U
 |oO k sz f args =>
  have bc:mO P kb own o.dst o.type o.op=some i.op:=getD_some od (by rw[Ac];simp);rw[Ac] at bc U;obtain⟨c,H,pB,q1⟩:=ae9 bc;have cm:=shut_list (B4 h.w0 q1);rw[oj] at cm;simp only[jP] at U
  split at U
  ·rename_i eQ es kq
   split at U
   ·rename_i fg;subst fg
    cases U;obtain⟨p9,mg⟩:=dK f _ _ _ kq;have nB:=mg (cV A B) w (λ_=>none) _ (Um h.ok.eX) cm;unfold Oper.wp;rw[OY H pB p9,Q.dst];refine Calls.mono nB λe a1 he=>?_;obtain⟨v,rfl,bD,ab⟩:=he;obtain⟨bQ,dF,aD⟩:=ae7 k h.ok.eX bD (ab.less λb ah=>(Kv b).2 ah);exact⟨bQ,h.put dF aD Q.lt⟩
   ·cases U
  ·cases U
 |mL cY f args =>
  have bc:mO P kb own o.dst o.type o.op=some i.op:=getD_some od (by rw[Ac];simp);rw[Ac] at bc U;obtain⟨c,H,pB,q1⟩:=aqv bc;have cm:=B4 h.w0 q1;simp only[jP] at U;obtain⟨r,k,g,aIT,cc,cs,kq,hm,rfl,rfl,aC⟩:=afi U;obtain⟨p9,mg⟩:=dK f _ _ _ kq;have nB:=mg A w B _ h.ok.eX cm;unfold Oper.wp;rw[OY H pB p9,Q.dst];refine Calls.mono nB λe a1 he=>?_;obtain⟨v,bQ,rfl,dF,aD⟩:=he;refine⟨bQ,?_⟩;have nf:vj st.mem k=cs:=by simp only[vj,hm]
  rw[nf] at dF;exact h.put dF aD Q.lt
 |mK f args=>rw[Ac] at U;cases U
 |rK neg x=>rw[Ac] at U;cases U
 |_=>exact plain (by rw[Ac] at U ⊢;exact U)
theorem afF {α β:Type}{f:α->Option β}{xs:List α}{ys:List β}(h:xs.mapM f=some ys){i:Nat}{x:α}(M:xs[i]?=some x):∃y,ys[i]?=some y/\f x=some y:=by
 obtain⟨G,J⟩:=oP h;have az:i<D ys:=by rw[G];exact (ej.1 M).1
 exact⟨_,bq az,J i x _ M (bq az)⟩
theorem Un (dK:q0 P T){j6:Nat->Nat->Bool}(bc:ops.toList.mapM (BZ P n kb own ops)=some l)(fC:∀st a w B,K st->hW n A eW hx a st w B->aZ .normal a w):
  ∀(fuel:Nat) (fc:Array Bool) (rec:Rec) (st:bo) (a:Act) (w:World) (B:fu),hW n A eW hx a st w B->GZ T j6 ops l K fuel fc rec st->wpAny P .any ops aZ fuel fc a w
 |0,_,_,_,_,_,_,U,h=>⟨h.1,fC _ _ _ _ h.2 U⟩
 |fuel+1,fc,rec,st,a,w,B,U,h=>by
  refine⟨λax=>fC _ _ _ _ (h.1 ax) U,λi Q=>?_⟩;obtain⟨x,Aa,ew,M,hex,L⟩:=h.2 i Q;obtain⟨_,o,bS,_⟩:=mem_ready.1 Q;obtain⟨y,aj,Uo⟩:=afF bc (i:=i) (x:=o) (by simpa using bS);rw[M] at aj
  cases aj;have yF:=afa Uo;unfold wpOp;simp only[bS];rcases hex with ⟨bz,rfl,rfl⟩|⟨bz,m,e,arc,_,rfl,rfl⟩
  ·rw[Uc U yF.guard bz,ag (by simp)];exact Un dK bc fC fuel _ _ _ _ _ B (by rw[yF.dst];exact U.put (.refl U.ok.eX) .no yF.lt) L
  ·rw[Uc U yF.guard bz,ad rfl];refine .inl (Oper.wp_mono (λj4 a1 ⟨bQ,jS⟩=>Un dK bc fC fuel _ _ _ _ _ bQ jS L) (arb dK U yF arc))
theorem hW.drew {a:Act}{st:bo}(h:hW n A eW hx a st w B)(d:Nat):hW n A eW hx a st { w with drawn:=d } B:=by
 have U:fl A w B { w with drawn:=d } B st.mem:=.still h.ok.eX ((Fr.refl _ _).drew d);exact⟨h.ok.trans U,λs=>(h.tm s).sI U.nw,h.sz,h.Ko⟩
theorem ard (dK:q0 P T)(hm:P.follows .mixedOrders=true){id:Nat}{a:Act}{st:bo}(bc:ops.toList.mapM (BZ P n kb own ops)=some l)(ab:GH ops l=true)(U:hW n A eW hx a st w B)
  (h:wS T K 0 l (zV [] l (qT ops.toList [])) (λ_=>none) st) (fC:∀st a w B,K st->hW n A eW hx a st w B->aZ .normal a w):(Code.region id ops true).wp P aZ a w:=by
 refine wp_region_any hm ?_
 have aw:(D l)=ops.size:=by
  rw[(oP bc).1,Array.length_toList]
 have w4:=afE (aq5 ab) aw (by unfold GH at ab;rw[fw] at ab;exact ab.1) l 0 (λ_=>none) st (Array.replicate ops.size false) rfl (by simp) (by simp) (λi Q=>by simp[Q]) (λ_ _=>rfl) h;rw[aw] at w4;exact Un dK bc fC ops.size _ _ _ _ _ B (U.drew _) w4
theorem Up (dK:q0 P T)(bc:ops.toList.mapM (BZ P n kb own ops)=some l)(fC:∀st a w B,K st->hW n A eW hx a st w B->aZ .normal a w):
  ∀(r:List du) (m:Nat) (st:bo) (a:Act) (w:World) (B:fu),l.drop m=r->hW n A eW hx a st w B->yr T K r st->wpOps P ops aZ (List.range' m (D r)) a w
 | [],_,_,_,_,_,_,U,h=>fC _ _ _ _ h U
 |x::r,m,st,a,w,B,Y,U,h=>by
  have M:l[m]?=some x:=by
   have:(l.drop m)[0]?=some x:=by rw[Y];rfl
   simpa using this
  have wU:l.drop (m+1)=r:=by rw[<-G0,Y];rfl
  have az:m<ops.size:=by
   have G:=(oP bc).1;have J:=(ej.1 M).1;simp at G;omega
  have bS:ops[m]?=some ops[m]:=Array.getElem?_eq_getElem az;obtain⟨y,aj,Uo⟩:=afF bc (i:=m) (x:=ops[m]) (by simp);rw[M] at aj
  cases aj;have yF:=afa Uo;simp only[jO,List.range'_succ];rw[wpOps_cons];unfold wpOp;simp only[bS];simp only[yr] at h
  split at h
  ·cases h
  ·rename_i g bz;rw[Uc U yF.guard bz]
   cases g with
   |true =>
    simp only[if_true] at h ⊢;exact .inl (Oper.wp_mono (λj4 a1 ⟨ew,bQ,L,jS⟩=>Up dK bc fC r (m+1) ew j4 a1 bQ wU jS L) (aqB dK U yF h))
   |false =>
    simp only[j3,if_false] at h ⊢;exact Up dK bc fC r (m+1) _ _ _ B wU (U.put (.refl U.ok.eX) .no yF.lt) (by rw[<-yF.dst];exact h)
end Go.Mini
namespace Go.Mini
open Go
variable {A:Nat->Prop} {w:World} {B:fu} {mem:Mem}
theorem afG {a2:Nat->Prop}{b off c sz len:Nat}{vs:Array Value}{T:TypeId}{ds:List Data}(aY:w.heap[b]?=some (.cells vs T (0,0)))(gj:¬ a2 b)(aw:(D ds)=len*sz)(Kw:len<=c)(hm:len<=maxLen)(OC:off+len*sz<=vs.size)
  (ab:∀(i:Nat) (d:Data) (v:Value),ds[i]?=some d->vs[off+i]?=some v->Den w a2 d v):Den w a2 (.X (chunk sz len ds)) (.slice (some ⟨b,off,none⟩) len c):=by
 have fv:=OG sz len ds
 have h:=Den.X (w:=w) (a2:=a2) (es:=chunk sz len ds) (b:=b) (off:=off) (c:=c) (sz:=sz) (λi=>vs.getD (off+i) undef) (by rw[fv];exact Kw) (by rw[fv];exact hm)
  (Array.getElem?_eq_some_iff.1 aY).1 gj (OH sz len ds aw)
  (λi Q=>by
   rw[fv] at Q;rw[cell_of_row w b (off+i) vs T (0,0) aY];have:off+i<vs.size:=by omega
   simp[this])
  (λi d hI=>by
   rw[OI sz len ds aw] at hI;have az:i<D ds:=(ej.1 hI).1;have mQ:off+i<vs.size:=by omega
   have:vs.getD (off+i) undef=vs[off+i]:=by simp[mQ]
   simp only[this];exact ab i d _ hI (Array.getElem?_eq_getElem mQ))
 rw[fv] at h;exact h
theorem afH (ct:ga A w B mem){a2:Nat->Prop}(gj:∀b,a2 b->A b){k:Key}{e:mJ}{b:Nat}(he:B k=some e)(ah:e.eo=some b):¬ a2 b :=
 λh=>ct.sep b (gj b h) ⟨k,e,he,ah⟩
theorem snap (ct:ga A w B mem){a2:Nat->Prop}(gj:∀b,a2 b->A b):∀(d:Nat) (m:R) (v:Value) (r:Data),dz d mem m=some r->bN w (cV A B) B m v->Den w a2 r v:=by
 have afI:∀(d:Data) (v:Value),bN w (cV A B) B (.I d) v->Den w a2 d v:=λd v h=>by
  cases h with
  |I h=>exact h.less λb ah => .inr (gj b ah)
 have OZ:∀v,bN w (cV A B) B .nil v->Den w a2 (.X []) v:=λv h=>by
  cases h;exact .mc
 intro d
 induction d with
 |zero =>
  intro m v r h aD
  cases m<;>simp only[dz,cL,reduceCtorEq] at h
  ·subst h;exact afI _ _ aD
  ·subst h;exact OZ _ aD
 |succ d aN =>
  intro m v r h aD
  have lists:∀(cs:List R) (vs:List Value) (ds:List Data),cs.mapM (dz d mem)=some ds->(D vs)=(D cs)->(∀(i:Nat) (x:R) (u:Value),cs[i]?=some x->vs[i]?=some u->bN w (cV A B) B x u) ->
    (D vs)=D ds/\∀(i:Nat) (x:Data) (u:Value),ds[i]?=some x->vs[i]?=some u->Den w a2 x u:=by
   intro cs vs ds hU aw Y;obtain⟨G,J⟩:=oP hU;refine⟨by omega,λi x u M hu=>?_⟩
   have az:i<D cs:=by have:=(ej.1 M).1;omega
   have nz:=bq az;exact aN _ u x (J i _ x nz M) (Y i _ u nz hu)
  cases m<;>simp only[dz,cL,e1,reduceCtorEq] at h
  case I=>subst h;exact afI _ _ aD
  case nil=>subst h;exact OZ _ aD
  case ref k g sz off len =>
   split at h
   ·rename_i eg cs L
    split at h
    ·rename_i bz;subst bz
     split at h
     ·rename_i part Uq;simp only[e1] at h;obtain⟨ds,hU,rfl⟩:=h;obtain⟨fv,rfl,ia⟩:=GL Uq;obtain⟨G,J⟩:=oP hU
      cases aD with
      |ref he hgle Y =>
       obtain⟨e,gL,b2,aM,ah⟩:=ct.at_ L;rw[gL] at he
       cases he;obtain⟨a,cap,rfl,af,aT,bx⟩:=Y;rcases bx with bx|⟨b,rfl,b0⟩
       ·have:len=0:=by omega
        subst this;simp only[chunk];exact .mc
       ·obtain⟨bV,cu⟩:=b0 b2.symm;obtain⟨vs,T,aY,a3,hle,cm⟩:=ah b bV;refine afG aY (afH ct gj gL bV) (by omega) af (by omega) (by omega) λi x u M hu=>?_;have az:i<D ds:=(ej.1 M).1;have mQ:off+i<D cs:=by omega
        have nz:((cs.drop off).take (len*sz))[i]?=some cs[off+i]:=by
         rw[rY (by omega),qX,bq mQ]
        refine aN _ u x (J i _ x nz M) (cm.2 (off+i) _ u (bq mQ) ?_);rw[rY mQ,Array.getElem?_toList];exact hu
     ·cases h
    ·cases h
   ·cases h
  case ptr k g off =>
   split at h
   ·rename_i eg cs L
    split at h
    ·rename_i bz;obtain⟨rfl,T2⟩:=bz;simp only[e1] at h;obtain⟨ds,hU,rfl⟩:=h;obtain⟨G,J⟩:=oP hU
     cases aD with
     |ptr he hgle Y =>
      obtain⟨e,gL,b2,aM,ah⟩:=ct.at_ L;rw[gL] at he
      cases he;obtain⟨b,rfl,b0⟩:=Y;have bV:=b0 b2.symm;obtain⟨vs,T,aY,a3,hle,cm⟩:=ah b bV;rw[List.length_drop] at G;refine .ptr (λi=>vs.getD (off+i) undef) (Array.getElem?_eq_some_iff.1 aY).1 (afH ct gj gL bV) (λi Q=>?_) λi x M=>?_
      ·rw[cell_of_row w b (off+i) vs T (0,0) aY];have:off+i<vs.size:=by omega
       simp[this]
      ·have az:i<D ds:=(ej.1 M).1;have mQ:off+i<D cs:=by omega
       have Kx:off+i<vs.size:=by omega
       have nz:(cs.drop off)[i]?=some cs[off+i]:=by
        rw[qX,bq mQ]
       have hu:vs.getD (off+i) undef=vs[off+i]:=by simp[Kx]
       rw[hu];refine aN _ _ x (J i _ x nz M) (cm.2 (off+i) _ _ (bq mQ) ?_);rw[rY mQ,Array.getElem?_toList];exact Array.getElem?_eq_getElem Kx
    ·cases h
   ·cases h
  case gK f cs =>
   obtain⟨ds,hU,rfl⟩:=h
   cases aD with
   |gK aw ab=>obtain⟨G,J⟩:=lists _ _ _ hU aw ab;exact .fn G J
  case agg cs =>
   obtain⟨ds,hU,rfl⟩:=h
   cases aD with
   |agg aw ab=>obtain⟨G,J⟩:=lists _ _ _ hU aw ab;exact .agg G J
  case c1 cs =>
   obtain⟨ds,hU,rfl⟩:=h
   cases aD with
   |c1 aw ab=>obtain⟨G,J⟩:=lists _ _ _ hU aw ab;exact .c1 G J
theorem bN.shift {a2 pr:Nat->Prop}{bQ:fu}(gj:∀b,pr b->a2 b)(L:∀k e,B k=some e->∃e',bQ k=some e'/\(e'=e\/e.g<e'.g)){m:R}{v:Value}(h:bN w a2 B m v):bN w pr bQ m v:=by
 induction h with
 |I h=>exact .I (h.less gj)
 |nil=>exact .nil
 | @ref k g sz off len e v he bz aD =>
  obtain⟨e',gL,aY⟩:=L k e he;rcases aY with rfl|aY
  ·exact .ref gL bz aD
  ·exact .ref gL (by omega) (aD.JR (by omega))
 | @ptr k g off e v he bz aD =>
  obtain⟨e',gL,aY⟩:=L k e he;rcases aY with rfl|aY
  ·exact .ptr gL bz aD
  ·exact .ptr gL (by omega) (aD.JR (by omega))
 |gK aw ab aN=>exact .gK aw aN
 |agg aw ab aN=>exact .agg aw aN
 |c1 aw ab aN=>exact .c1 aw aN
 |no=>exact .no
 |undef=>exact .undef
theorem kill_shut (ct:ga A w B mem){k:Key}{g:Nat}{cs:List R}{e:mJ}{b:Nat}(L:mem k=some (g,cs))(he:B k=some e)(ah:e.eo=some b):
  ga (λfy=>A fy\/fy=b) w (hn B k ⟨cy mem k,none,0⟩) (kill mem k)/\(∀m v,bN w (cV A B) B m v->bN w (cV (λfy=>A fy\/fy=b) (hn B k ⟨cy mem k,none,0⟩)) (hn B k ⟨cy mem k,none,0⟩) m v):=by
 have bz:=GJ ct k e he
 have gj:∀fy,cV (λfy=>A fy\/fy=b) (hn B k ⟨cy mem k,none,0⟩) fy->cV A B fy:=λfy h=>by
  rcases h with ⟨j,aB,aA,M⟩|h|rfl
  ·by_cases fY:j=k
   ·subst fY;rw[hG] at aA;cases aA;cases M
   ·rw[hv B _ fY] at aA;exact .inl ⟨j,aB,aA,M⟩
  ·exact .inr h
  ·exact .inl ⟨k,e,he,ah⟩
 have arf:∀j aB,B j=some aB->∃e',hn B k ⟨cy mem k,none,0⟩ j=some e'/\(e'=aB\/aB.g<e'.g):=λj aB aA=>by
  by_cases fY:j=k
  ·subst fY;rw[he] at aA
   cases aA;exact⟨_,hG _ _ _,.inr bz⟩
  ·exact⟨aB,by rw[hv B _ fY];exact aA,.inl rfl⟩
 have shift:∀m v,bN w (cV A B) B m v->bN w (cV (λfy=>A fy\/fy=b) (hn B k ⟨cy mem k,none,0⟩)) (hn B k ⟨cy mem k,none,0⟩) m v:=λm v h=>h.shift gj arf;refine⟨⟨λj aA=>?_,λj nx av aB fy G J af aT=>?_,λfy aW bS=>?_,λfy aW=>?_,λj eg qV aA=>?_⟩,shift⟩
 ·by_cases fY:j=k
  ·subst fY;simp[kill,a9] at aA
  ·rw[hv B _ fY];simp only[kill,a9,fY,if_false] at aA;exact ct.BP j aA
 ·by_cases fY:j=k
  ·subst fY;rw[hG] at G;cases G;cases af
  ·by_cases hjk':nx=k
   ·subst hjk';rw[hG] at J;cases J;cases aT
   ·rw[hv B _ fY] at G;rw[hv B _ hjk'] at J;exact ct.inj j nx av aB fy G J af aT
 ·obtain⟨j,aB,aA,M⟩:=bS
  by_cases fY:j=k
  ·subst fY;rw[hG] at aA;cases aA;cases M
  ·rw[hv B _ fY] at aA;rcases aW with aW|rfl
   ·exact ct.sep fy aW ⟨j,aB,aA,M⟩
   ·exact fY (ct.inj j k aB e fy aA he M ah)
 ·rcases aW with aW|rfl
  ·exact ct.lt fy aW
  ·exact ct.BQ ⟨k,e,he,ah⟩
 ·by_cases fY:j=k
  ·subst fY;simp only[kill,a9,if_true,cL,fS] at aA;obtain⟨rfl,rfl⟩:=aA;exact⟨_,hG _ _ _,rfl,λ_=>rfl,λfy mP=>by cases mP⟩
  ·simp only[kill,a9,fY,if_false] at aA;obtain⟨aB,G,J,af,aT⟩:=ct.eo j eg qV aA;refine⟨aB,by rw[hv B _ fY];exact G,J,af,λfy mP=>?_⟩
   obtain⟨vs,T,bx,b0,bV,cu⟩:=aT fy mP;exact⟨vs,T,bx,b0,bV,λi m hm=>let ⟨v,aD,Y⟩:=cu i m hm;⟨v,aD,shift m v Y⟩⟩
end Go.Mini
namespace Go.Mini
open Go
variable {P:Program} {T:bl} {A:Nat->Prop} {eW w:World} {hx B:fu} {mem:Mem} {n kb:Nat} {own:List Nat} {aZ:Exit->Act->World->Prop}
theorem O0 {k:Key}{g sz off len:Nat}{cs:List R}{d:Data}{v:Value}(ct:ga A w B mem)(L:mem k=some (g,cs))(ab:dz 1 mem (.ref k g sz off len)=some d)(aD:bN w (cV A B) B (.ref k g sz off len) v):
  Den w (cV A (hn B k ⟨cy mem k,none,0⟩)) d v:=by
 have gj:∀b,cV A (hn B k ⟨cy mem k,none,0⟩) b->cV A B b:=λb h=>h.imp (fun⟨j,e,aA,M⟩=>by
  by_cases fY:j=k
  ·subst fY;rw[hG] at aA;cases aA;cases M
  ·rw[hv B _ fY] at aA;exact⟨j,e,aA,M⟩) id
 simp only[dz,L,if_true] at ab
 split at ab
 ·rename_i part Uq;simp only[e1] at ab;obtain⟨ds,hU,rfl⟩:=ab;obtain⟨fv,rfl,ia⟩:=GL Uq;obtain⟨G,J⟩:=oP hU
  cases aD with
  |ref he hgle Y =>
   obtain⟨e,gL,b2,aM,ah⟩:=ct.at_ L;rw[gL] at he;obtain rfl:=oh he;obtain⟨a,cap,rfl,af,aT,bx⟩:=Y;rcases bx with bx|⟨b,rfl,b0⟩
   ·have:len=0:=by omega
    subst this;simp only[chunk];exact .mc
   ·obtain⟨bV,cu⟩:=b0 b2.symm;obtain⟨vs,T,aY,a3,hle,cm⟩:=ah b bV
    have arh:¬ cV A (hn B k ⟨cy mem k,none,0⟩) b:=by
     rintro (⟨j,aB,aA,M⟩|aW)
     ·by_cases fY:j=k
      ·subst fY;rw[hG] at aA;cases aA;cases M
      ·rw[hv B _ fY] at aA;exact fY (ct.inj j k aB _ b aA gL M bV)
     ·exact ct.sep b aW ⟨k,_,gL,bV⟩
    refine afG aY arh (by omega) af (by omega) (by omega) λi x u M hu=>?_;have az:i<D ds:=(ej.1 M).1;have mQ:off+i<D cs:=by omega
    have nz:((cs.drop off).take (len*sz))[i]?=some cs[off+i]:=by
     rw[rY (by omega),qX,bq mQ]
    have vv:=J i _ x nz M
    have sP:bN w (cV A B) B cs[off+i] u:=cm.2 (off+i) _ u (bq mQ) (by
     rw[rY mQ,Array.getElem?_toList];exact hu)
    generalize cs[off+i]=m at *
    cases m<;>simp only[dz,cL,reduceCtorEq] at vv
    ·subst vv
     cases sP with
     |I h=>exact h.less gj
    ·subst vv
     cases sP;exact .mc
 ·cases ab
theorem afJ {k:Key}{a2 pr:Nat->Prop}{bQ:fu}{v:Value}{sz:Nat}{e:mJ}(he:B k=some e)(aD:bN w a2 bQ .nil v):bN w pr B (.ref k e.g sz 0 0) v:=by
 cases aD;exact .ref he (cH _) ⟨_,0,rfl,cH _,fm _,.inl rfl⟩
theorem Ec {k:Key}{g i:Nat}{cs:List R}{m m':R}{w1:World}(ct:ga A w B mem)(L:mem k=some (g,cs))(Q:cs[i]?=some m)
  (aD:∀e b v,B k=some e->e.eo=some b->w.cell? ⟨b,i,none⟩=some v->bN w (cV A B) B m' v):∃bQ,fl A w B w bQ (a9 mem k g (cs.set i m')):=by
 obtain⟨e,he,b2,aM,ah⟩:=ct.at_ L
 have ok:=fl.change (k:=k) (e':=e) (cs:=cs.set i m') ct (Fr.refl _ w) (λaB fG => .inl (by rw[he] at fG;cases fG;rfl)) (λb e5 => .inr ⟨e,he,e5⟩) (λh=>by
  have:=aM h;subst this
  rfl) (λb e5=>by
  obtain⟨vs,T,aY,a3,hle,cm⟩:=ah b e5;refine⟨vs,T,aY,a3,by simpa using hle,λj x M=>?_⟩
  by_cases mT:i=j
  ·subst mT;have az:i<D cs:=(ej.1 Q).1;rw[List.getElem?_set_self az] at M
   cases M;have rS:i<vs.size:=by omega
   exact⟨vs[i],Array.getElem?_eq_getElem rS,aD e b _ he e5 (by rw[cell_of_row w b i vs T (0,0) aY];exact Array.getElem?_eq_getElem rS)⟩
  ·rw[List.getElem?_set_ne mT] at M;obtain⟨v,Ky,Y⟩:=cm.get M;refine⟨v,?_,Y⟩;have az:j<D cs:=(ej.1 M).1;rw[rY az,Array.getElem?_toList] at Ky;exact Ky)
 rw[b2] at ok;exact⟨_,ok⟩
theorem fl.move {k k':Key}{g:Nat}{cs:List R}{e:mJ}(h:ga A w B mem)(L:mem k=some (g,cs))(he:B k=some e)(b6:k'≠k):
  fl A w B w (hn (hn B k ⟨cy mem k,none,0⟩) k' ⟨cy mem k',e.eo,e.size⟩) (a9 (a9 mem k (cy mem k) []) k' (cy mem k') cs):=by
 have p7:∀b,sJ (hn (hn B k ⟨cy mem k,none,0⟩) k' ⟨cy mem k',e.eo,e.size⟩) b->sJ B b:=by
  rintro b ⟨j,aB,aA,ah⟩
  by_cases G:j=k'
  ·subst G;rw[hG] at aA
   cases aA;exact⟨k,e,he,ah⟩
  ·rw[hv _ _ G] at aA
   by_cases J:j=k
   ·subst J;rw[hG] at aA
    cases aA
    cases ah
   ·rw[hv _ _ J] at aA;exact⟨j,aB,aA,ah⟩
 have nw:Trans A w B w (hn (hn B k ⟨cy mem k,none,0⟩) k' ⟨cy mem k',e.eo,e.size⟩):=by
  refine⟨cH _,λb _ ah=>⟨rfl,λbS=>ah (.inl (p7 b bS))⟩,λj aB aA=>?_⟩
  by_cases G:j=k'
  ·subst G;exact⟨_,hG _ _ _,.inr (GJ h j aB aA)⟩
  ·rw[hv _ _ G]
   by_cases J:j=k
   ·subst J;exact⟨_,hG _ _ _,.inr (GJ h j aB aA)⟩
   ·rw[hv _ _ J];exact⟨aB,aA,.inl rfl⟩
 refine⟨⟨λj aA=>?_,λj nx av aB b G J lv e5=>?_,λb aW bS=>h.sep b aW (p7 b bS),h.lt,λj dd vy aA=>?_⟩,nw,Fr.refl _ _,λb ah => .inl (p7 b ah)⟩
 ·simp only[a9] at aA
  by_cases G:j=k'
  ·simp[G] at aA
  ·by_cases J:j=k
   ·rw[ag G,ad J] at aA
    cases aA
   ·simp only[G,J,if_false] at aA;rw[hv _ _ G,hv _ _ J];exact h.BP j aA
 ·have main:∀(j:Key) (av:mJ),hn (hn B k ⟨cy mem k,none,0⟩) k' ⟨cy mem k',e.eo,e.size⟩ j=some av->av.eo=some b->(j=k'/\e.eo=some b)\/(j≠k'/\j≠k/\B j=some av):=by
   intro j av aA ah
   by_cases G:j=k'
   ·subst G;rw[hG] at aA
    cases aA;exact .inl ⟨rfl,ah⟩
   ·rw[hv _ _ G] at aA
    by_cases J:j=k
    ·subst J;rw[hG] at aA
     cases aA
     cases ah
    ·rw[hv _ _ J] at aA;exact .inr ⟨G,J,aA⟩
  rcases main j av G lv with ⟨eF,ic⟩|⟨eF,s1,ic⟩<;>rcases main nx aB J e5 with ⟨eU,kr⟩|⟨eU,s2,kr⟩
  ·rw[eF,eU]
  ·exact absurd (h.inj k nx e aB b he kr ic e5).symm s2
  ·exact absurd (h.inj k j e av b he ic kr lv).symm s1
  ·exact h.inj j nx av aB b ic kr lv e5
 ·simp only[a9] at aA
  by_cases G:j=k'
  ·subst G;simp only[if_true,cL,fS] at aA;obtain⟨rfl,rfl⟩:=aA;obtain⟨bw,Kz,bz,aM,ah⟩:=h.eo k g cs L;rw[he] at Kz
   cases Kz;refine⟨_,hG _ _ _,rfl,aM,λb kT=>?_⟩;obtain⟨vs,T,af,aT,bx,b0⟩:=ah b kT;exact⟨vs,T,af,aT,bx,λi m Q=>let ⟨v,aD,Y⟩:=b0 i m Q;⟨v,aD,Y.sI nw⟩⟩
  ·simp only[G,if_false] at aA;rw[hv _ _ G]
   by_cases J:j=k
   ·subst J;simp only[if_true,cL,fS] at aA;obtain⟨rfl,rfl⟩:=aA;exact⟨_,hG _ _ _,rfl,λ_=>rfl,λb ah=>by cases ah⟩
   ·simp only[J,if_false] at aA;rw[hv _ _ J];obtain⟨bw,Kz,bz,aM,ah⟩:=h.eo j dd vy aA;refine⟨bw,Kz,bz,aM,λb kT=>?_⟩;obtain⟨vs,T,af,aT,bx,b0⟩:=ah b kT;exact⟨vs,T,af,aT,bx,λi m Q=>let ⟨v,aD,Y⟩:=b0 i m Q;⟨v,aD,Y.sI nw⟩⟩
theorem hW.ghost {a:Act}{st:bo}{bQ:fu}{mem':Mem}{tm':Nat->R}(h:hW n A eW hx a st w B)(U:fl A w B w bQ mem')(ca:∀s,tm' s=st.tm s\/bN w (cV A bQ) bQ (tm' s) (a.eval (.tmp s))):
  hW n A eW hx a ⟨tm',mem'⟩ w bQ:=by
 refine⟨h.ok.trans U,λs=>?_,h.sz,h.Ko⟩;rcases ca s with G|G
 ·simp only[G];exact (h.tm s).sI U.nw
 ·exact G
theorem ari {K:bo->Prop}{a:Act}{st:bo}{g:Oh}(h:hW n A eW hx a st w B)(L:kn K st g):∃ew bQ,K ew/\hW n A eW hx a ew w bQ:=by
 have oT:∀x:cv,∃v,bN w (cV A B) B (bC st.tm x) v\/∃m,x=.c m:=λx=>by
  cases x with
  |t s=>exact⟨_,.inl (h.tm s)⟩
  |c m=>exact⟨undef,.inr ⟨m,rfl⟩⟩
 cases g with
 |mM s k sz =>
  simp only[kn] at L
  split at L
  ·rename_i U;have ok:=fl.zW h.ok.eX k;refine⟨_,_,L,h.ghost ok λt=>?_⟩
   by_cases tZ:t=s
   ·subst tZ;have:=h.tm t;rw[U] at this;simp only[eb,if_true];exact .inr (afJ (e:=⟨cy st.mem k,none,0⟩) (hG _ _ _) this)
   ·exact .inl (by simp[eb,tZ])
  ·cases L
 |freeze s =>
  simp only[kn] at L
  split at L
  ·rename_i k g sz off len U
   split at L
   ·rename_i eg cs hJ
    split at L
    ·rename_i bz;obtain⟨rfl,_⟩:=bz
     split at L
     ·rename_i d ab;have ok:=fl.zW h.ok.eX k;refine⟨_,_,L,h.ghost ok λt=>?_⟩
      by_cases tZ:t=s
      ·subst tZ;have aD:=h.tm t;rw[U] at aD ab;simp only[eb,if_true];exact .inr (.I (O0 h.ok.eX hJ ab aD))
      ·exact .inl (by simp[eb,tZ])
     ·cases L
    ·cases L
   ·cases L
  ·cases L
 |BR x i k sz =>
  simp only[kn] at L
  split at L
  ·rename_i kc g off M
   split at L
   ·rename_i eg cs hJ
    split at L
    ·rename_i bz;subst bz
     split at L
     ·rename_i H
      split at L
      ·rename_i b6;have ok:=fl.zW h.ok.eX k;have ua:a9 st.mem k (cy st.mem k) [] kc=some (eg,cs):=by simp[a9,Ne.symm b6,hJ]
       obtain⟨e,he,b2,aM,ah⟩:=h.ok.eX.at_ hJ
       obtain⟨bQ,ub⟩:=Ec (w1:=w) (m':=.ref k (cy st.mem k) sz 0 0) ok.eX ua H (λaB b v fG e5 aD=>by
        rw[hv B _ (Ne.symm b6)] at fG;rw[he] at fG
        cases fG;obtain⟨vs,T,aY,a3,hle,cm⟩:=ah b e5;have az:off+i<D cs:=(ej.1 H).1;rw[cell_of_row w b (off+i) vs T (0,0) aY] at aD;have Y:=cm.2 (off+i) _ v H (by rw[rY az,Array.getElem?_toList];exact aD);exact afJ (e:=⟨cy st.mem k,none,0⟩) (hG _ _ _) Y)
       exact⟨_,bQ,L,h.ghost (ok.trans ub) λt => .inl rfl⟩
      ·cases L
     ·cases L
    ·cases L
   ·cases L
  ·cases L
 |DP x i =>
  simp only[kn] at L
  split at L
  ·rename_i kc gc off M
   split at L
   ·rename_i J9 cc afK
    split at L
    ·rename_i bz;subst bz
     split at L
     ·rename_i k g sz o len H
      split at L
      ·rename_i eg cs hJ
       split at L
       ·rename_i bz;obtain⟨rfl,_,b6⟩:=bz
        split at L
        ·rename_i d ab;have ok:=fl.zW h.ok.eX k;have ua:a9 st.mem k (cy st.mem k) [] kc=some (J9,cc):=by simp[a9,Ne.symm b6,afK]
         obtain⟨e,he,b2,aM,ah⟩:=h.ok.eX.at_ afK
         obtain⟨bQ,ub⟩:=Ec (w1:=w) (m':=.I d) ok.eX ua H (λaB b v fG e5 aD=>by
          rw[hv B _ (Ne.symm b6)] at fG;rw[he] at fG
          cases fG;obtain⟨vs,T,aY,a3,hle,cm⟩:=ah b e5;have az:off+i<D cc:=(ej.1 H).1;rw[cell_of_row w b (off+i) vs T (0,0) aY] at aD;have Y:=cm.2 (off+i) _ v H (by rw[rY az,Array.getElem?_toList];exact aD);exact .I (O0 h.ok.eX hJ ab Y))
         exact⟨_,bQ,L,h.ghost (ok.trans ub) λt => .inl rfl⟩
        ·cases L
       ·cases L
      ·cases L
     ·cases L
    ·cases L
   ·cases L
  ·cases L
 |move =>
  rcases L with L|⟨fH,gq,gr,i,k,g,sz,off,len,cs,k',iv,H,om,G,J,af,L⟩|⟨fH,gq,gr,i,k,g,sz,off,len,cs,d,iv,H,hJ,-,b6,ab,L⟩
  ·exact⟨st,B,L,h⟩
  ·obtain⟨e,he,b2,aM,ah⟩:=h.ok.eX.at_ om;have ok:=fl.move h.ok.eX om he J;have ua:a9 (a9 st.mem k (cy st.mem k) []) k' (cy st.mem k') cs fH=some (gq,gr):=by simp[a9,Ne.symm G,Ne.symm af,iv]
   obtain⟨ex,hex,KA,hd,KB⟩:=h.ok.eX.at_ iv
   obtain⟨bQ,ub⟩:=Ec (w1:=w) (m':=.ref k' (cy st.mem k') sz off len) ok.eX ua H (λaB b v fG e5 aD=>by
    rw[hv _ _ (Ne.symm af),hv _ _ (Ne.symm G)] at fG;rw[hex] at fG
    cases fG;obtain⟨vs,T,aY,a3,hle,cm⟩:=KB b e5;have az:i<D gr:=(ej.1 H).1;rw[cell_of_row w b i vs T (0,0) aY] at aD;have Y:=cm.2 i _ v H (by rw[rY az,Array.getElem?_toList];exact aD)
    cases Y with
    |ref fG hgle Y =>
     rw[he] at fG
     cases fG;obtain⟨a,cap,rfl,aT,bx,b0⟩:=Y;refine .ref (hG _ _ _) (cH _) ⟨a,cap,rfl,aT,bx,b0.imp id ?_⟩;rintro⟨fy,rfl,bV⟩;exact⟨fy,rfl,λ_=>bV b2.symm⟩)
   exact⟨_,bQ,L,h.ghost (ok.trans ub) λt => .inl rfl⟩
  ·have ok:=fl.zW h.ok.eX k;have ua:a9 st.mem k (cy st.mem k) [] fH=some (gq,gr):=by simp[a9,Ne.symm b6,iv]
   obtain⟨e,he,b2,aM,ah⟩:=h.ok.eX.at_ iv
   obtain⟨bQ,ub⟩:=Ec (w1:=w) (m':=.I d) ok.eX ua H (λaB b v fG e5 aD=>by
    rw[hv B _ (Ne.symm b6)] at fG;rw[he] at fG
    cases fG;obtain⟨vs,T,aY,a3,hle,cm⟩:=ah b e5;have az:i<D gr:=(ej.1 H).1;rw[cell_of_row w b i vs T (0,0) aY] at aD;have Y:=cm.2 i _ v H (by rw[rY az,Array.getElem?_toList];exact aD);exact .I (O0 h.ok.eX hJ ab Y))
   exact⟨_,bQ,L,h.ghost (ok.trans ub) λt => .inl rfl⟩
 |many =>
  obtain⟨mem',Ur,L⟩:=L
  have main:∀{jl ea:Mem},tR jl ea->∀B,hW n A eW hx a ⟨st.tm,jl⟩ w B->∃bQ,hW n A eW hx a ⟨st.tm,ea⟩ w bQ:=by
   intro jl ea Ur
   induction Ur with
   |refl mem=>exact λB h=>⟨B,h⟩
   | @step jl ea b7 U _ aN =>
    intro B h
    have one:∃bQ,hW n A eW hx a ⟨st.tm,ea⟩ w bQ:=by
     cases U with
     |Ou fH gq gr i k g sz off len cs k' iv H om G J af =>
      obtain⟨e,he,b2,aM,ah⟩:=h.ok.eX.at_ om;have ok:=fl.move h.ok.eX om he J;have ua:a9 (a9 jl k (cy jl k) []) k' (cy jl k') cs fH=some (gq,gr):=by simp[a9,Ne.symm G,Ne.symm af,iv]
      obtain⟨ex,hex,KA,hd,KB⟩:=h.ok.eX.at_ iv
      obtain⟨bQ,ub⟩:=Ec (w1:=w) (m':=.ref k' (cy jl k') sz off len) ok.eX ua H (λaB b v fG e5 aD=>by
       rw[hv _ _ (Ne.symm af),hv _ _ (Ne.symm G)] at fG;rw[hex] at fG
       cases fG;obtain⟨vs,T,aY,a3,hle,cm⟩:=KB b e5;have az:i<D gr:=(ej.1 H).1;rw[cell_of_row w b i vs T (0,0) aY] at aD;have Y:=cm.2 i _ v H (by rw[rY az,Array.getElem?_toList];exact aD)
       cases Y with
       |ref fG hgle Y =>
        rw[he] at fG
        cases fG;obtain⟨a,cap,rfl,aT,bx,b0⟩:=Y;refine .ref (hG _ _ _) (cH _) ⟨a,cap,rfl,aT,bx,b0.imp id ?_⟩;rintro⟨fy,rfl,bV⟩;exact⟨fy,rfl,λ_=>bV b2.symm⟩)
      exact⟨bQ,h.ghost (ok.trans ub) λt => .inl rfl⟩
     |aeo fH gq gr i k g off cs k' iv H om G J af =>
      obtain⟨e,he,b2,aM,ah⟩:=h.ok.eX.at_ om;have ok:=fl.move h.ok.eX om he J;have ua:a9 (a9 jl k (cy jl k) []) k' (cy jl k') cs fH=some (gq,gr):=by simp[a9,Ne.symm G,Ne.symm af,iv]
      obtain⟨ex,hex,KA,hd,KB⟩:=h.ok.eX.at_ iv
      obtain⟨bQ,ub⟩:=Ec (w1:=w) (m':=.ptr k' (cy jl k') off) ok.eX ua H (λaB b v fG e5 aD=>by
       rw[hv _ _ (Ne.symm af),hv _ _ (Ne.symm G)] at fG;rw[hex] at fG
       cases fG;obtain⟨vs,T,aY,a3,hle,cm⟩:=KB b e5;have az:i<D gr:=(ej.1 H).1;rw[cell_of_row w b i vs T (0,0) aY] at aD;have Y:=cm.2 i _ v H (by rw[rY az,Array.getElem?_toList];exact aD)
       cases Y with
       |ptr fG hgle Y =>
        rw[he] at fG
        cases fG;obtain⟨fy,rfl,bV⟩:=Y;exact .ptr (hG _ _ _) (cH _) ⟨fy,rfl,λ_=>bV b2.symm⟩)
      exact⟨bQ,h.ghost (ok.trans ub) λt => .inl rfl⟩
     |Ov fH gq gr i k g sz off len cs d iv H hJ b6 ab =>
      have ok:=fl.zW h.ok.eX k;have ua:a9 jl k (cy jl k) [] fH=some (gq,gr):=by simp[a9,Ne.symm b6,iv]
      obtain⟨e,he,b2,aM,ah⟩:=h.ok.eX.at_ iv
      obtain⟨bQ,ub⟩:=Ec (w1:=w) (m':=.I d) ok.eX ua H (λaB b v fG e5 aD=>by
       rw[hv B _ (Ne.symm b6)] at fG;rw[he] at fG
       cases fG;obtain⟨vs,T,aY,a3,hle,cm⟩:=ah b e5;have az:i<D gr:=(ej.1 H).1;rw[cell_of_row w b i vs T (0,0) aY] at aD;have Y:=cm.2 i _ v H (by rw[rY az,Array.getElem?_toList];exact aD);exact .I (O0 h.ok.eX hJ ab Y))
      exact⟨bQ,h.ghost (ok.trans ub) λt => .inl rfl⟩
    obtain⟨bQ,cW⟩:=one;exact aN bQ cW
  obtain⟨bQ,cW⟩:=main Ur B h;exact⟨_,bQ,L,cW⟩
def erase:er->er
 |.skip => .skip
 |.ops l => .ops l
 |.mN l c => .mN l c
 |.seq a b => .seq (erase a) (erase b)
 |.cond c a b => .cond c (erase a) (erase b)
 |.block id c => .block id (erase c)
 |.loop c => .loop (erase c)
 |.exit id => .exit id
 |.ret => .ret
 |.ghost _ c=>erase c
def afL:eI->Exit
 |.normal => .normal
 |.exit id => .exit id
 |.ret => .ret
def arj (P:Program)(n kb:Nat)(own:List Nat)(c:Code):er->Prop
 |.skip=>c=.skip
 |.ops l=>∃id ops,c=.region id ops false/\ops.toList.mapM (BZ P n kb own ops)=some l
 |.mN l ch=>∃id ops,c=.region id ops true/\ops.toList.mapM (BZ P n kb own ops)=some l/\GH ops l=true/\ch=zV [] l (qT ops.toList [])
 |.seq x y=>∃a b,c=.seq a b/\qU P n kb own a=some x/\qU P n kb own b=some y
 |.cond x y z=>∃jT a b,c=.cond jT a b/\eD jT=some x/\qU P n kb own a=some y/\qU P n kb own b=some z
 |.block id x=>∃a,c=.block id a/\qU P n kb own a=some x
 |.loop x=>∃a,c=.loop a/\qU P n kb own a=some x
 |.exit id=>c=.exit id
 |.ret=>c=.ret
 |.ghost ..=>False
theorem Ad {c:Code}{m:er}(h:qU P n kb own c=some m):arj P n kb own c m:=by
 cases c<;>simp only[qU,cL,reduceCtorEq,e1] at h
 case skip=>subst h;rfl
 case region id ops draw =>
  split at h
  ·rename_i l aw
   split at h
   ·rename_i ab;subst ab
    split at h
    ·rename_i cM
     cases h;exact⟨id,ops,rfl,aw,cM,rfl⟩
    ·cases h
   ·rename_i ab
    cases h;exact⟨id,ops,by rw[Bool.not_eq_true] at ab;rw[ab],aw⟩
  ·cases h
 case seq a b =>
  split at h
  ·rename_i x y M aj
   cases h;exact⟨a,b,rfl,M,aj⟩
  ·cases h
 case cond x a b =>
  split at h
  ·rename_i jT y z M aj a3
   cases h;exact⟨x,a,b,rfl,M,aj,a3⟩
  ·cases h
 case block id a =>
  obtain⟨x,M,rfl⟩:=h;exact⟨a,rfl,M⟩
 case loop a =>
  obtain⟨x,M,rfl⟩:=h;exact⟨a,rfl,M⟩
 case exit id=>subst h;rfl
 case ret=>subst h;rfl
theorem Cd (dK:q0 P T)(hm:P.follows .mixedOrders=true):∀(O1:er) (c:Code) (K:eI->bo->Prop) (aZ:Exit->Act->World->Prop) (st:bo) (a:Act) (w:World) (B:fu),
  qU P n kb own c=some (erase O1)->hW n A eW hx a st w B->wp T O1 K st->(∀e st a w B,K e st->hW n A eW hx a st w B->aZ (afL e) a w)->c.wp P aZ a w
 |.ghost g O1,c,K,aZ,st,a,w,B,bc,U,h,fC=>by
  obtain⟨ew,bQ,L,jS⟩:=ari U h;exact Cd dK hm O1 c K aZ ew a w bQ bc jS L fC
 |.skip,c,K,aZ,st,a,w,B,bc,U,h,fC=>by
  obtain rfl:=Ad bc;exact Go.wp_skip (fC .normal st a w B h U)
 |.exit id,c,K,aZ,st,a,w,B,bc,U,h,fC=>by
  obtain rfl:=Ad bc;exact Go.wp_exit (fC (.exit id) st a w B h U)
 |.ret,c,K,aZ,st,a,w,B,bc,U,h,fC=>by
  obtain rfl:=Ad bc;exact Go.wp_ret (fC .ret st a w B h U)
 |.ops l,c,K,aZ,st,a,w,B,bc,U,h,fC=>by
  obtain⟨id,ops,rfl,aw⟩:=Ad bc;have:=Up (aZ:=aZ) (K:=K .normal) dK aw (λst a w B L U=>fC .normal st a w B L U) l 0 st a w B rfl U h;refine Go.wp_region ?_;rw[(oP aw).1,Array.length_toList] at this;rw[List.range_eq_range'];exact this
 |.mN l ch,c,K,aZ,st,a,w,B,bc,U,h,fC=>by
  obtain⟨id,ops,rfl,aw,ab,rfl⟩:=Ad bc;exact ard dK hm aw ab U h λst a w B L U=>fC .normal st a w B L U
 |.seq x y,c,K,aZ,st,a,w,B,bc,U,h,fC=>by
  obtain⟨jT,y',rfl,M,aj⟩:=Ad bc;refine Go.wp_seq (Cd dK hm x jT _ _ st a w B M U h λe ew j4 a1 bQ L jS=>?_)
  cases e with
  |normal=>exact Cd dK hm y y' _ _ ew j4 a1 bQ aj jS L fC
  |exit id=>exact fC (.exit id) ew j4 a1 bQ L jS
  |ret=>exact fC .ret ew j4 a1 bQ L jS
 |.cond x y z,c,K,aZ,st,a,w,B,bc,U,h,fC=>by
  obtain⟨jT,y',ark,rfl,M,aj,a3⟩:=Ad bc;have aD:=U.w0 jT x M;simp only[wp] at h
  split at h
  ·rename_i t ca;rw[ca] at aD;refine Go.wp_cond aD.DV ?_
   cases t with
   |true=>exact Cd dK hm y y' _ _ st a w B aj U h fC
   |false=>exact Cd dK hm z ark _ _ st a w B a3 U h fC
  ·cases h
 |.block id x,c,K,aZ,st,a,w,B,bc,U,h,fC=>by
  obtain⟨jT,rfl,M⟩:=Ad bc;refine Go.wp_block (Cd dK hm x jT _ _ st a w B M U h λe ew j4 a1 bQ L jS=>?_)
  cases e with
  |normal=>exact fC .normal ew j4 a1 bQ L jS
  |exit j =>
   simp only[afL,Exit.inBlock];simp only at L
   split
   ·rename_i aA;rw[ad aA] at L;exact fC .normal ew j4 a1 bQ L jS
   ·rename_i aA;rw[ag aA] at L;exact fC (.exit j) ew j4 a1 bQ L jS
  |ret=>exact fC .ret ew j4 a1 bQ L jS
 |.loop x,c,K,aZ,st,a,w,B,bc,U,h,fC=>by
  obtain⟨jT,rfl,M⟩:=Ad bc;obtain⟨DT,μ,KC,O2⟩:=h
  have key:∀m (st:bo) (a:Act) (w:World) (B:fu),μ st<m->DT st->hW n A eW hx a st w B->Code.rounds P jT aZ m a w:=by
   intro m
   induction m with
   |zero=>intro st a w B Ab;omega
   |succ m aN =>
    intro st a w B Ab KC U;refine Cd dK hm x jT _ _ st a w B M U (O2 st KC) λe ew j4 a1 bQ L jS=>?_
    cases e with
    |normal=>exact aN ew j4 a1 bQ (by have:=L.2;omega) L.1 jS
    |exit id=>exact fC (.exit id) ew j4 a1 bQ L jS
    |ret=>exact fC .ret ew j4 a1 bQ L jS
  exact wp_loop_rounds (μ st+1) (key _ st a w B (Nat.lt_succ_self _) KC U)
end Go.Mini
namespace Go.Mini
open Go
variable {P:Program} {T:bl} {A:Nat->Prop} {eW w:World} {hx B:fu} {mem:Mem} {n kb:Nat} {own:List Nat}
theorem arl {a:Act}{st:bo}{r:ResultVar}{eX:pv}{m:R}(U:hW n A eW hx a st w B)(bc:GI P r=some eX)(h:GA st eX=some m):
  ∃v,((match r with
   |.tmp t=>pure (a.tmps.getD t undef)
   |.cell b t=>do loadVar t (<-asAddr (a.tmps.getD b undef)):Sem Value)).run P w=.ok v w/\bN w (cV A B) B m v:=by
 cases r with
 |tmp t =>
  simp only[GI,cL] at bc;subst bc;simp only[GA,cL] at h;subst h;exact⟨_,rfl,U.tm t⟩
 |cell b t =>
  simp only[GI] at bc
  split at bc
  ·rename_i s g fg z2;simp only[cL] at bc;subst bc;obtain⟨eo,off,ms,vs,aD,aw,cm,bY,Y⟩:=aew U.ok.eX (U.tm b) h;obtain⟨u,G,J⟩:=aev (P:=P) fg z2 aw cm bY Y;refine⟨u,?_,J⟩;have:a.tmps.getD b undef=.pointer (some ⟨eo,off,none⟩):=aD;simp only[this,asAddr,Sem.run_bind,Sem.run_pure,Result.andThen_ok];exact G
  ·cases bc
theorem afM {a:Act}{st:bo}(U:hW n A eW hx a st w B):∀{l:List ResultVar} {rs:List pv} {ms:List R},l.mapM (GI P)=some rs->rs.mapM (GA st)=some ms ->
  ∃vs:List Value,(l.mapM λr=>((match r with
   |.tmp t=>pure (a.tmps.getD t undef)
   |.cell b t=>do loadVar t (<-asAddr (a.tmps.getD b undef)):Sem Value))).run P w=.ok vs w/\dW w (cV A B) B ms vs
 | [],rs,ms,G,J=>by
  simp at G;subst G;simp at J;subst J;exact⟨[],rfl,dW.nil⟩
 |r::l,rs,ms,G,J=>by
  simp only[ny,hH,hT,fa,cL] at G;obtain⟨x,M,xs,qb,rfl⟩:=G;simp only[ny,hH,hT,fa,cL] at J;obtain⟨m,hm,aIU,aH,rfl⟩:=J;obtain⟨v,aD,Y⟩:=arl U M hm;obtain⟨vs,aJ,cm⟩:=afM U qb aH;refine⟨v::vs,?_,dW.cons Y cm⟩;simp only[ny,Sem.run_bind,aD,Result.andThen_ok,aJ,Sem.run_pure]
theorem afN {a:Act}{st:bo}{fn:Func}{rs:List pv}{m:R}(U:hW n A eW hx a st w B)(bc:fn.results.toList.mapM (GI P)=some rs)(h:qS st rs=some m):
  ∃v,(results fn a.tmps).run P w=.ok v w/\bN w (cV A B) B m v:=by
 unfold qS at h
 have main:∀ms,rs.mapM (GA st)=some ms->∃vs:List Value,(results fn a.tmps).run P w=.ok (if h:vs.toArray.size=1 then vs.toArray[0] else .tuple vs.toArray) w/\dW w (cV A B) B ms vs:=by
  intro ms aH;obtain⟨vs,G,J⟩:=afM U bc aH;refine⟨vs,?_,J⟩;unfold results;rw[Array.mapM_eq_mapM_toList,map_eq_pure_bind];simp only[Sem.run_bind,Sem.run_pure];have w5:=G;generalize bF:(List.mapM _ fn.results.toList:Sem (List Value))=q;have:q.run P w=.ok vs w:=by rw[<-bF];exact w5
  rw[this]
  rfl
 split at h
 ·rename_i x aH;simp only[cL] at h;subst h;obtain⟨vs,G,J⟩:=main _ aH;have aw:=J.1;simp at aw;obtain⟨v,rfl⟩:=afO.1 aw;exact⟨v,G,J.2 0 _ v rfl rfl⟩
 ·rename_i ms b6 aH;simp only[cL] at h;subst h;obtain⟨vs,G,J⟩:=main _ aH;have aw:=J.1;refine⟨_,G,?_⟩
  have:¬ (vs.toArray.size=1):=λh=>by
   have cW:(D ms)=1:=by rw[<-aw];simpa using h
   obtain⟨x,rfl⟩:=afO.1 cW;exact b6 x rfl
  rw[dif_neg this];exact .c1 aw J.2
 ·cases h
def Us (mf:bZ)(Post:R->Mem->Prop):eI->bo->Prop
 |.exit _,_=>False
 |_,st=>∃m,qS st mf.res=some m/\Post m st.mem
theorem KD (dK:q0 P T)(hm:P.follows .mixedOrders=true){f:FuncId}{fn:Func}{mf:bZ}(aC:P.funcs[f]?=some fn)(bc:sN P kb own fn=some { mf with body:=erase mf.body }){args:List R}(q1:(D args)<=mf.n)
  {Post:R->Mem->Prop} {K:eI->bo->Prop} (cZ:∀e st,K e st->Us mf Post e st) (h:wp T mf.body K ⟨lk args,mem⟩) {A:Nat->Prop} {w:World} {B:fu} {vs:List Value} (ct:ga A w B mem) (aD:dW w (cV A B) B args vs) :
  Calls P f vs.toArray w λe a1=>∃v m mem' bQ,e=.returned v/\fl A w B a1 bQ mem'/\bN a1 (cV A bQ) bQ m v/\Post m mem':=by
 unfold sN at bc
 split at bc
 ·cases bc
 ·rename_i c ah
  split at bc
  ·rename_i b rs H w6;simp only[cL,bZ.mk.injEq] at bc;obtain⟨aM,aIV,ks,arn⟩:=bc;have fg:(D vs)=D args:=aD.1;refine calls_of_wp aC ah ?_;rw[arn] at H;refine Cd dK hm mf.body c K _ ⟨lk args,mem⟩ _ w B H ⟨.refl ct,λs=>?_,?_,rfl⟩ h λe st a a1 bQ rZ U=>?_
   ·simp only[lk,Act.eval,Array.getD_eq_getD_getElem?];rcases g2 s (D vs) with az|b2
    ·have G:args[s]?=some args[s]:=bq (by omega)
     have J:(vs.toArray++Array.replicate (fn.ntmps-vs.toArray.size) undef)[s]?=some vs[s]:=by
      rw[Array.getElem?_append_left (by simpa using az)];simp[az]
     rw[G,J];exact aD.2 s _ _ G (bq az)
    ·rw[ja (by omega),Array.getElem?_append_right (by simpa using b2)]
     have:((Array.replicate (fn.ntmps-vs.toArray.size) undef)[s-vs.toArray.size]?).getD undef=undef:=by
      cases bF:(Array.replicate (fn.ntmps-vs.toArray.size) undef)[s-vs.toArray.size]? with
      |none=>rfl
      |some u =>
       have:=Array.mem_of_getElem? bF;simp at this;simp[this.2]
     rw[this];exact .no
   ·simp;omega
   ·have L:=cZ e st rZ
    cases e with
    |exit id=>cases L
    |normal =>
     obtain⟨m,Ab,aF⟩:=L;obtain⟨v,ng,D0⟩:=afN U w6 (by rw[ks];exact Ab);exact⟨U.Ko,v,ng,v,m,_,bQ,rfl,U.ok,D0,aF⟩
    |ret =>
     obtain⟨m,Ab,aF⟩:=L;obtain⟨v,ng,D0⟩:=afN U w6 (by rw[ks];exact Ab);exact⟨U.Ko,v,ng,v,m,_,bQ,rfl,U.ok,D0,aF⟩
  ·cases bc
inductive eL where
 |same (r:Data)
 |own (sz:Nat) (es:List (List Data))
def Ae (w:World)(a2:Nat->Prop)(ds:List Data)(vs:List Value):Prop:=D vs=D ds/\∀(i:Nat) (d:Data) (v:Value),ds[i]?=some d->vs[i]?=some v->Den w a2 d v
def aro (w a1:World)(a2:Nat->Prop):eL->Value->Prop
 |.same r,v=>Den a1 a2 r v
 |.own sz es,v=>B9 w a1 a2 sz es v
structure q2 (P:Program) (f:FuncId) (aR:List Data->Option eL):Prop where
 real:Real P f
 run:∀ds r,aR ds=some r->∀(A:Nat->Prop) (w:World) (vs:List Value),(∀b,A b->b<w.heap.size)->Ae w A ds vs ->
  Calls P f vs.toArray w λe a1=>∃v,e=.returned v/\Fr (λ_=>False) w a1/\aro w a1 A r v
def afP:eL->R->Mem->Prop
 |.same r,m,mem=>∃d,dz d mem m=some r
 |.own sz es,m,mem=>(m=.nil/\es=[])\/∃k g len cs ds d,m=.ref k g sz 0 len/\mem k=some (g,cs)/\len*sz<=D cs/\(cs.take (len*sz)).mapM (dz d (kill mem k))=some ds/\es=chunk sz len ds
def uc (sz:Nat)(mem:Mem):R->Option (List (List Data))
 |.nil=>some []
 |.ref k g eQ off len=>if eQ=sz/\off=0 then (match mem k with
  |some (eg,cs)=>if eg=g/\len*sz<=(D cs) then ((cs.take (len*sz)).mapM (dz 6 (kill mem k))).map (chunk sz len) else none
  |none=>none) else none
 |_=>none
def Ce (res:List pv):eL->bo->Prop
 |.same r,st=>(qS st res).bind (dz 6 st.mem)=some r
 |.own sz es,st=>(qS st res).bind (uc sz st.mem)=some es
def Cf (res:List pv)(r:eL):eI->bo->Prop
 |.exit _,_=>False
 |.normal,st=>Ce res r st
 |.ret,st=>Ce res r st
theorem afQ {mf:bZ}{r:eL}{st:bo}(h:Ce mf.res r st):∃m,qS st mf.res=some m/\afP r m st.mem:=by
 cases r with
 |same r =>
  simp only[Ce,fa] at h;obtain⟨m,G,J⟩:=h;exact⟨m,G,6,J⟩
 |own sz es =>
  simp only[Ce,fa] at h;obtain⟨m,G,J⟩:=h;refine⟨m,G,?_⟩
  cases m<;>simp only[uc,cL,reduceCtorEq] at J
  ·exact .inl ⟨rfl,J.symm⟩
  ·split at J
   ·rename_i H;obtain⟨rfl,rfl⟩:=H
    split at J
    ·rename_i eg cs L
     split at J
     ·rename_i bz;obtain⟨rfl,hle⟩:=bz;simp only[e1] at J;obtain⟨ds,hU,rfl⟩:=J;exact .inr ⟨_,_,_,cs,ds,6,rfl,L,hle,hU,rfl⟩
     ·cases J
    ·cases J
   ·cases J
theorem arp {mf:bZ}{r:eL}{e:eI}{st:bo}(h:Cf mf.res r e st):Us mf (afP r) e st:=by
 cases e with
 |exit id=>exact h
 |normal=>exact afQ h
 |ret=>exact afQ h
theorem O3 (b:Nat):¬ sJ (λ_=>none) b:=fun⟨_,_,h,_⟩=>by cases h
theorem afR (dK : q0 P T)(hm : P.follows .mixedOrders = true){f : FuncId}{fn : Func}{mf : bZ}(aC : P.funcs[f]? = some fn)(ud : (fn.name == "runtime.NumGoroutine") = false)(bc : sN P kb own fn = some { mf with body := erase mf.body })
  {aR:List Data->Option eL} (h:∀ds r,aR ds=some r->(D ds)<=mf.n/\wp T mf.body (Cf mf.res r) ⟨lk (ds.map .I),emp⟩):q2 P f aR:=by
 refine⟨?_,λds r dG A w vs az vx=>?_⟩
 ·cases ah:fn.body with
  |none=>simp[sN,ah] at bc
  |some c=>exact⟨fn,c,aC,ah,ud⟩
 ·obtain⟨hlen,Af⟩:=h ds r dG;have ct:ga A w (λ_=>none) emp:=⟨λ_ _=>rfl,λ_ _ _ _ _ h=>(by cases h),λb _ bS=>O3 b bS,az,λ_ _ _ h=>(by cases h)⟩;have gj:∀b,cV A (λ_=>none) b->A b:=λb h=>h.elim (λh=>(O3 b h).elim) id;have cm:dW w (cV A λ_=>none) (λ_=>none) (ds.map .I) vs:=dW.I vx.1 λi d v G J=>(vx.2 i d v G J).less gj;refine Calls.mono (KD dK hm aC bc (by simpa using hlen) (λe st=>arp) Af ct cm) λe a1 he=>?_;obtain⟨v,m,mem',bQ,rfl,U,aD,aF⟩:=he;refine⟨v,rfl,⟨U.aK.os,U.aK.tape,U.aK.output,U.aK.size,λg bz _=>U.aK.block g bz (O3 g)⟩,?_⟩
  cases r with
  |same r =>
   obtain⟨d,ab⟩:=aF;exact snap U.eX (λb ah=>ah) d m v r ab aD
  |own sz es =>
   rcases aF with ⟨rfl,rfl⟩|⟨k,g,len,cs,O4,d,rfl,L,hle,hU,rfl⟩
   ·cases aD;exact⟨by simp,_,0,rfl,cH _,fm _,.inl rfl⟩
   ·obtain⟨G,J⟩:=oP hU;have Ed:(D O4)=len*sz:=by rw[G,gv];omega
    refine⟨OH sz len O4 Ed,?_⟩;rw[OG,OI sz len O4 Ed]
    cases aD with
    |ref he hgle Y =>
     obtain⟨e,gL,b2,aM,ah⟩:=U.eX.at_ L;rw[gL] at he;obtain rfl:=oh he;obtain⟨a,cap,rfl,af,aT,bx⟩:=Y;refine⟨a,cap,rfl,af,aT,bx.imp id ?_⟩;rintro⟨b,rfl,b0⟩;obtain⟨bV,cu⟩:=b0 b2.symm;obtain⟨oQ,arq,aY,a3,T8,D7⟩:=ah b bV;obtain⟨ars,pC⟩:=kill_shut U.eX L gL bV;refine⟨b,oQ,arq,rfl,?_,aY,by simpa [a3] using cu,λi x M=>?_⟩
     ·rcases U.fresh b ⟨k,_,gL,bV⟩ with h|h
      ·exact (O3 b h).elim
      ·exact h
     ·have afS:i<D O4:=(ej.1 M).1;have mQ:i<D cs:=by omega
      have nz:(cs.take (len*sz))[i]?=some cs[i]:=by
       rw[rY (by omega)];exact bq mQ
      have Kx:i<oQ.size:=by omega
      refine⟨oQ[i],Array.getElem?_eq_getElem Kx,snap ars (λb ah=>ah) d _ _ x (J i _ x nz M) (pC _ _ (D7.2 i _ _ (bq mQ) ?_))⟩;rw[rY mQ,Array.getElem?_toList];exact Array.getElem?_eq_getElem Kx
def scalar:Data->Bool
 |.int _ _=>true
 |.bool _=>true
 |.str _=>true
 |.vi=>true
 |.wP=>true
 |.X []=>true
 |.c1 ds=>ds.attach.all fun⟨d,_⟩=>scalar d
 |.agg ds=>ds.attach.all fun⟨d,_⟩=>scalar d
 |_=>false
theorem afT {a2 pr:Nat->Prop}{d:Data}{v:Value}(h:scalar d=true)(ab:Den w a2 d v):Den w pr d v:=by
 induction ab with
 |int=>exact .int
 |bool=>exact .bool
 |str=>exact .str
 |vi=>exact .vi
 |wP=>exact .wP
 |mc=>exact .mc
 | @X es b off c sz val aw hm ah gj fg H ab aN =>
  cases es with
  |nil=>exact .mc
  |cons=>simp[scalar] at h
 |ptr=>simp[scalar] at h
 |fn=>simp[scalar] at h
 | @agg cs vs aw ab aN =>
  simp only[scalar,pz,afU,true_imp_iff,Subtype.forall] at h;exact .agg aw λi d v G J=>aN i d v G J (h d (dn G))
 | @c1 cs vs aw ab aN =>
  simp only[scalar,pz,afU,true_imp_iff,Subtype.forall] at h;exact .c1 aw λi d v G J=>aN i d v G J (h d (dn G))
theorem Ut {a2:Nat->Prop}:∀(d:Nat) (m:R) (v:Value) (r:Data),dz d emp m=some r->bN w a2 B m v->Den w a2 r v:=by
 intro d
 induction d with
 |zero =>
  intro m v r h aD
  cases m<;>simp only[dz,cL,reduceCtorEq] at h
  ·subst h;cases aD with|I h=>exact h
  ·subst h;cases aD;exact .mc
 |succ d aN =>
  intro m v r h aD
  have lists:∀(cs:List R) (vs:List Value) (ds:List Data),cs.mapM (dz d emp)=some ds->(D vs)=(D cs)->(∀(i:Nat) (x:R) (u:Value),cs[i]?=some x->vs[i]?=some u->bN w a2 B x u) ->
    (D vs)=D ds/\∀(i:Nat) (x:Data) (u:Value),ds[i]?=some x->vs[i]?=some u->Den w a2 x u:=by
   intro cs vs ds hU aw Y;obtain⟨G,J⟩:=oP hU;refine⟨by omega,λi x u M hu=>?_⟩
   have az:i<D cs:=by have:=(ej.1 M).1;omega
   have nz:=bq az;exact aN _ u x (J i _ x nz M) (Y i _ u nz hu)
  cases m<;>simp only[dz,emp,cL,e1,reduceCtorEq] at h
  case I=>subst h;cases aD with|I h=>exact h
  case nil=>subst h;cases aD;exact .mc
  case gK f cs =>
   obtain⟨ds,hU,rfl⟩:=h
   cases aD with
   |gK aw ab=>obtain⟨G,J⟩:=lists _ _ _ hU aw ab;exact .fn G J
  case agg cs =>
   obtain⟨ds,hU,rfl⟩:=h
   cases aD with
   |agg aw ab=>obtain⟨G,J⟩:=lists _ _ _ hU aw ab;exact .agg G J
  case c1 cs =>
   obtain⟨ds,hU,rfl⟩:=h
   cases aD with
   |c1 aw ab=>obtain⟨G,J⟩:=lists _ _ _ hU aw ab;exact .c1 G J
def O5:eL->h8
 |.same r => .same r
 |.own sz es => .own sz es
def G7:eL->Option h8
 |.same r=>if scalar r=true then some (.same r) else none
 |.own sz es=>if (es.all λe=>e.all scalar)=true then some (.own sz es) else none
def O6 (aR:List Data->Option eL):Option (List Data)->Option h8
 |some ds=>(aR ds).bind G7
 |none=>none
def G8 (aR:List Data->Option eL):Option (List Data)->Option (List Data)->Option h8
 |some ds,_=>(aR ds).map O5
 |none,x=>O6 aR x
def aQ (aR:List Data->Option eL)(args:List R)(mem:Mem):Option h8:=G8 aR (args.mapM (dz 6 emp)) (args.mapM (dz 6 mem))
def Cg (mi:FuncId->Option (List Data->Option eL)):bl:=λf args mem=>match mi f with
 |some aR=>aQ aR args mem
 |none=>none
theorem afV {a2:Nat->Prop}{g:R->Option Data}{args:List R}{ds:List Data}{vs:List Value}(h:args.mapM g=some ds)(aD:dW w a2 B args vs){pr:Nat->Prop}(ab:∀m v r,g m=some r->bN w a2 B m v->Den w pr r v):Ae w pr ds vs:=by
 obtain⟨G,J⟩:=oP h;refine⟨by rw[aD.1,G],λi d v p2 sP=>?_⟩
 have az:i<D args:=by have:=(ej.1 p2).1;omega
 have Ch:=bq az;exact ab _ v d (J i _ d Ch p2) (aD.2 i _ v Ch sP)
theorem afW {mi:FuncId->Option (List Data->Option eL)}(h:∀f aR,mi f=some aR->q2 P f aR):q0 P (Cg mi):=by
 intro f args mem p8 kq;unfold Cg at kq
 split at kq
 ·rename_i aR dG;have mg:=h f aR dG;refine⟨mg.real,λA w B vs ct aD=>?_⟩;unfold aQ at kq
  cases hU:args.mapM (dz 6 emp) with
  |some ds =>
   rw[hU] at kq;simp only[G8,e1] at kq;obtain⟨r,Y,rfl⟩:=kq;have H:=mg.run ds r Y (cV A B) w vs (λb ah=>ah.elim (λh=>ct.BQ h) (ct.lt b)) (afV hU aD λm v r=>Ut 6 m v r)
   cases r with
   |same r=>exact H
   |own sz es=>exact H
  |none =>
   rw[hU] at kq;simp only[G8] at kq
   cases hU:args.mapM (dz 6 mem) with
   |none=>rw[hU] at kq;cases kq
   |some ds =>
    rw[hU] at kq;simp only[O6,fa] at kq;obtain⟨r,Y,aw⟩:=kq;have H:=mg.run ds r Y (λ_=>False) w vs (λb ah=>ah.elim) (afV hU aD λm v r h aD=>snap ct (λb ah=>ah.elim) 6 m v r h aD)
    cases r with
    |same r =>
     simp only[G7] at aw
     split at aw
     ·rename_i U
      cases aw
      exact Calls.mono H λe a1 ⟨v,he,bD,ab⟩=>⟨v,he,bD,afT U ab⟩
     ·cases aw
    |own sz es =>
     simp only[G7] at aw
     split at aw
     ·rename_i U
      cases aw
      refine Calls.mono H λe a1 ⟨v,he,bD,ab⟩=>⟨v,he,bD,?_⟩;obtain⟨G,a,cap,J,af,aT,bx⟩:=ab;refine⟨G,a,cap,J,af,aT,bx.imp id ?_⟩;rintro⟨b,vs,T,b0,bV,cu,eK,dS⟩;refine⟨b,vs,T,b0,bV,cu,eK,λi d ab=>?_⟩;obtain⟨u,hu,vx⟩:=dS i d ab;refine⟨u,hu,afT ?_ vx⟩;have hm:=dn ab;rw[List.mem_flatten] at hm;obtain⟨e,he,art⟩:=hm;rw[pz] at U;have:=U e he;rw[pz] at this;exact this d art
     ·cases aw
 ·cases kq
end Go.Mini
