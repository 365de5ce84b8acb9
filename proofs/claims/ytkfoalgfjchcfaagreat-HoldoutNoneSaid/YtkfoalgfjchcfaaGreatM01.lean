/- A part of the proof. -/
import Derived.Calls
import Derived.Still
import Derived.Below
import Derived.Laws.World
import Derived.Laws.Sem
import Derived.Laws.Entries
import Derived.Laws.Rows
import GoSem.ClaimData
import Derived.Laws.CopyRow
import Derived.Laws.MakeOwn
import Derived.Laws.Append
import Derived.Laws.AppendOwn
import Derived.Laws.Strings
import Derived.Laws.Strings2
import Derived.Laws.StructEq
import Derived.Laws.Slices
import Derived.Laws.Cells
import Derived.Attr
import Derived.LoopN
set_option linter.unusedSimpArgs false
set_option linter.unusedVariables false
set_option maxRecDepth 100000
set_option maxHeartbeats 4000000
noncomputable section
open Bool renaming and_eq_true->e3,false_eq_true->jU,or_eq_true->qn
open List renaming all_eq_true->oI,contains_iff_mem->Zy,drop_drop->DH,drop_eq_getElem_cons->hL,drop_eq_nil_of_le->lq,drop_set_of_lt->sa,drop_take->YB,eq_nil_of_length_eq_zero->r5,ext_getElem?->q6,flatten_cons->ko,foldl_cons->YD,getD_eq_getElem?_getD->ea,getElem?_append->Dp,getElem?_append_left->q3,getElem?_append_right->q4,getElem?_cons_zero->HB,getElem?_drop->uM,getElem?_eq_getElem->bx,getElem?_eq_none->lr,getElem?_eq_some_iff->dM,getElem?_map->bd,getElem?_range->r0,getElem?_take->xV,getElem?_take_of_lt->oO,getElem?_toArray->YU,getElem_mem->n7,getElem_of_mem->YJ,length->D,length_append->hj,length_cons->kJ,length_take->g7,mapM_cons->mn,map_congr_left->m5,map_map->oN,mem_append->iw,mem_cons_self->ha,mem_flatMap->Bo,mem_of_mem_take->Dv,mem_zipIdx_iff_getElem?->Zu,range->dQ,replicate->ep,replicate_succ->uN,take_append->Yy,take_of_length_le->dE
open Nat renaming add_assoc->rZ,add_comm->xL,add_mul->pk,add_zero->n8,eq_or_lt_of_le->KZ,eq_zero_or_pos->iU,le_mul_of_pos_right->Hq,le_refl->bM,le_trans->ey,lt_asymm->Zx,lt_of_lt_of_le->A8,lt_or_ge->hK,min_eq_left->nE,mul_le_mul_right->q5,one_mul->GM,sub_self->kL,succ_mul->r1,testBit_or->Zq,zero_add->oH,zero_le->fr
open Option renaming bind_eq_bind->g5,bind_eq_some_iff->ej,getD_some->DG,map_eq_some_iff->dV,map_none->Y9,map_some->iW,pure_def->gX
open Option.some renaming inj->m4,injEq->b8
open Prod.mk renaming injEq->fv
namespace Go.Mini
theorem bl {α:Sort _}{a:α}:a=a:=_root_.id rfl
theorem Z {c:Prop}{h:Decidable c}(G:c){α:Sort _}{t e:α}:ite c t e=t:=if_pos G
theorem aa {c:Prop}{h:Decidable c}(G:¬c){α:Sort _}{t e:α}:ite c t e=e:=if_neg G
theorem kH {p:Prop}[inst:Decidable p](h:p):decide p=true:=decide_eq_true h
theorem oE {p:Prop}[i:Decidable p](h:¬p):decide p=false:=decide_eq_false h
theorem dn {p:Prop}[inst:Decidable p](h:p:=by omega):decide p=true:=decide_eq_true h
theorem dr {p:Prop}[i:Decidable p](h:¬p:=by omega):decide p=false:=decide_eq_false h
open Go
abbrev Key:=Nat
inductive Data where
 |int (k:IntKind) (n:Int)
 |bool (b:Bool)
 |str (s:List UInt8)
 |ae (es:List (List Data))
 |ptr (cs:List Data)
 |ti
 |fn (f:FuncId) (eW:List Data)
 |tj
 |agg (cs:List Data)
 |cq (vs:List Data)
 deriving Inhabited
inductive M where
 |I (d:Data)
 |nil
 |ref (k:Key) (g sz off len:Nat)
 |ptr (k:Key) (g off:Nat)
 |fR (f:FuncId) (eW:List M)
 |agg (cs:List M)
 |cq (vs:List M)
 |no
 |undef
 deriving Inhabited
inductive Den (w:World) (aP:Nat->Prop):Data->Value->Prop
 |int {k:IntKind} {n:Int}:Den w aP (.int k n) (.int k n)
 |bool {b:Bool}:Den w aP (.bool b) (.bool b)
 |str {s:List UInt8}:Den w aP (.str s) (.string ⟨s.toArray⟩)
 |kI {a:Option Addr} {c:Nat}:Den w aP (.ae []) (.slice a 0 c)
 |ae {es:List (List Data)} {b off c sz:Nat} (val:Nat->Value) (aq:(D es)<=c) (hm:(D es)<=maxLen) (ad:b<w.heap.size) (fB:¬ aP b) (eP:∀e∈es,D e=sz)
   (G:∀i,i<D es*sz->w.cell? ⟨b,off+i,none⟩=some (val i)) (X:∀i d,es.flatten[i]?=some d->Den w aP d (val i)) :
   Den w aP (.ae es) (.slice (some ⟨b,off,none⟩) (D es) c)
 |ptr {cs:List Data} {b off:Nat} (val:Nat->Value) (ad:b<w.heap.size) (fB:¬ aP b)
   (G:∀i,i<(D cs)->w.cell? ⟨b,off+i,none⟩=some (val i)) (X:∀i d,cs[i]?=some d->Den w aP d (val i)) :
   Den w aP (.ptr cs) (.pointer (some ⟨b,off,none⟩))
 |ti:Den w aP .ti (.pointer none)
 |fn {f:FuncId} {eW:List Data} {vs:List Value} (aq:(D vs)=D eW) (X:∀(i:Nat) (d:Data) (v:Value),eW[i]?=some d->vs[i]?=some v->Den w aP d v) :
   Den w aP (.fn f eW) (.func (.func f) #[] vs.toArray)
 |tj:Den w aP .tj .nilFunc
 |agg {cs:List Data} {vs:List Value} (aq:(D vs)=D cs) (X:∀(i:Nat) (d:Data) (v:Value),cs[i]?=some d->vs[i]?=some v->Den w aP d v) :
   Den w aP (.agg cs) (.agg vs.toArray)
 |cq {cs:List Data} {vs:List Value} (aq:(D vs)=D cs) (X:∀(i:Nat) (d:Data) (v:Value),cs[i]?=some d->vs[i]?=some v->Den w aP d v) :
   Den w aP (.cq cs) (.tuple vs.toArray)
theorem KK {es:List (List Data)}{sz:Nat}(h:∀e∈es,D e=sz):(D es.flatten)=D es*sz:=by
 induction es with
 |nil=>simp
 |cons e r aw =>
  have E:=h e (by simp);have H:=aw (λx O=>h x (by simp[O]));rw[ko,hj,E,H,kJ,pk,GM,xL]
theorem Den.qU {w aL:World}{aP n1:Nat->Prop}(Q:w.heap.size<=aL.heap.size)(h:∀b,b<w.heap.size->¬ aP b->aL.heap[b]?=w.heap[b]?/\¬ n1 b){d:Data}{v:Value}(X:Den w aP d v):Den aL n1 d v:=by
 induction X with
 |int=>exact .int
 |bool=>exact .bool
 |str=>exact .str
 |kI=>exact .kI
 | @ae es b off c sz val aq hm ad fB eP G X aw =>
  obtain⟨E,H⟩:=h b ad fB;exact .ae val aq hm (by omega) H eP (λi L=>(World.cell?_of_block (a:=⟨b,off+i,none⟩) E).trans (G i L)) aw
 |ti=>exact .ti
 |tj=>exact .tj
 | @ptr cs b off val ad fB G X aw =>
  obtain⟨E,H⟩:=h b ad fB;exact .ptr val (by omega) H (λi L=>(World.cell?_of_block (a:=⟨b,off+i,none⟩) E).trans (G i L)) aw
 |fn aq X aw=>exact .fn aq aw
 |agg aq X aw=>exact .agg aq aw
 |cq aq X aw=>exact .cq aq aw
structure lh where
 g:Nat
 di:Option Nat
 size:Nat
abbrev eH:=Key->Option lh
def qV (B:eH)(b:Nat):Prop:=∃k e,B k=some e/\e.di=some b
def C8 (e:lh)(g sz off len:Nat)(v:Value):Prop :=
 ∃a cap,v=.slice a len cap/\len<=cap/\cap<=maxLen/\(cap=0\/∃b,a=some ⟨b,off,none⟩/\(g=e.g->e.di=some b/\off+cap*sz<=e.size))
def KL (e:lh)(g off:Nat)(v:Value):Prop:=∃b,v=.pointer (some ⟨b,off,none⟩)/\(g=e.g->e.di=some b)
theorem C8.GN {e e':lh}{g sz off len:Nat}{v:Value}(h:C8 e g sz off len v)(aq:g<e'.g):C8 e' g sz off len v:=by
 obtain⟨a,cap,E,H,ab,aM⟩:=h;refine⟨a,cap,E,H,ab,aM.imp id ?_⟩;rintro⟨b,bj,_⟩;exact⟨b,bj,λh=>by omega⟩
theorem KL.GN {e e':lh}{g off:Nat}{v:Value}(h:KL e g off v)(aq:g<e'.g):KL e' g off v:=by
 obtain⟨b,E,_⟩:=h;exact⟨b,E,λh=>by omega⟩
inductive bm (w:World) (aP:Nat->Prop) (B:eH):M->Value->Prop
 |I {d:Data} {v:Value} (h:Den w aP d v):bm w aP B (.I d) v
 |nil {a:Option Addr}:bm w aP B .nil (.slice a 0 0)
 |ref {k:Key} {g sz off len:Nat} {e:lh} {v:Value} (he:B k=some e) (aU:g<=e.g) (aI:C8 e g sz off len v):bm w aP B (.ref k g sz off len) v
 |ptr {k:Key} {g off:Nat} {e:lh} {v:Value} (he:B k=some e) (aU:g<=e.g) (aI:KL e g off v):bm w aP B (.ptr k g off) v
 |fR {f:FuncId} {eW:List M} {vs:List Value} (aq:(D vs)=D eW) (X:∀(i:Nat) (d:M) (v:Value),eW[i]?=some d->vs[i]?=some v->bm w aP B d v) :
   bm w aP B (.fR f eW) (.func (.func f) #[] vs.toArray)
 |agg {cs:List M} {vs:List Value} (aq:(D vs)=D cs) (X:∀(i:Nat) (d:M) (v:Value),cs[i]?=some d->vs[i]?=some v->bm w aP B d v) :
   bm w aP B (.agg cs) (.agg vs.toArray)
 |cq {cs:List M} {vs:List Value} (aq:(D vs)=D cs) (X:∀(i:Nat) (d:M) (v:Value),cs[i]?=some d->vs[i]?=some v->bm w aP B d v) :
   bm w aP B (.cq cs) (.tuple vs.toArray)
 |no:bm w aP B .no undef
 |undef {v:Value}:bm w aP B .undef v
def cb (A:Nat->Prop)(B:eH)(b:Nat):Prop:=qV B b\/A b
structure Trans (A:Nat->Prop) (w:World) (B:eH) (aL:World) (bo:eH):Prop where
 size:w.heap.size<=aL.heap.size
 GO:∀b,b<w.heap.size->¬ cb A B b->aL.heap[b]?=w.heap[b]?/\¬ qV bo b
 key:∀k e,B k=some e->∃e',bo k=some e'/\(e'=e\/e.g<e'.g)
theorem Trans.refl (A:Nat->Prop)(w:World)(B:eH):Trans A w B w B :=
 ⟨bM _,λ_ _ h=>⟨rfl,λbu=>h (.inl bu)⟩,λ_ e he=>⟨e,he,.inl rfl⟩⟩
theorem Trans.trans {A:Nat->Prop}{w w1 mZ:World}{B A6 A7:eH}(h:Trans A w B w1 A6)(b2:Trans A w1 A6 mZ A7):Trans A w B mZ A7:=by
 refine⟨ey h.size b2.size,λb ad bu=>?_,λk e he=>?_⟩
 ·obtain⟨E,H⟩:=h.GO b ad bu;obtain⟨ab,aM⟩:=b2.GO b (A8 ad h.size) (λO=>O.elim H λaZ=>bu (.inr aZ));exact⟨ab.trans E,aM⟩
 ·obtain⟨aA,aiZ,aQ⟩:=h.key k e he;obtain⟨ay,e0,n2⟩:=b2.key k aA aiZ;refine⟨ay,e0,?_⟩;rcases aQ with rfl|aQ<;>rcases n2 with rfl|n2
  ·exact .inl rfl
  ·exact .inr n2
  ·exact .inr aQ
  ·exact .inr (Nat.lt_trans aQ n2)
theorem Den.trans {A:Nat->Prop}{w aL:World}{B bo:eH}(t:Trans A w B aL bo){d:Data}{v:Value}(h:Den w (cb A B) d v):Den aL (cb A bo) d v :=
 h.qU t.size λb ad bu=>⟨(t.GO b ad bu).1,λO=>O.elim (t.GO b ad bu).2 λaZ=>bu (.inr aZ)⟩
theorem bm.qU {A:Nat->Prop}{w aL:World}{B bo:eH}(t:Trans A w B aL bo){m:M}{v:Value}(h:bm w (cb A B) B m v):bm aL (cb A bo) bo m v:=by
 induction h with
 |I h=>exact .I (h.trans t)
 |nil=>exact .nil
 | @ref k g sz off len e v he aU aI =>
  obtain⟨e',fS,aQ⟩:=t.key k e he;rcases aQ with rfl|aQ
  ·exact .ref fS aU aI
  ·exact .ref fS (by omega) (aI.GN (by omega))
 | @ptr k g off e v he aU aI =>
  obtain⟨e',fS,aQ⟩:=t.key k e he;rcases aQ with rfl|aQ
  ·exact .ptr fS aU aI
  ·exact .ptr fS (by omega) (aI.GN (by omega))
 |fR aq X aw=>exact .fR aq aw
 |agg aq X aw=>exact .agg aq aw
 |cq aq X aw=>exact .cq aq aw
 |no=>exact .no
 |undef=>exact .undef
abbrev Mem:=Key->Option (Nat×List M)
def emp:Mem:=λ_=>none
def a3 (m:Mem)(k:Key)(g:Nat)(cs:List M):Mem:=λj=>if j=k then some (g,cs) else m j
def bW (m:Mem)(k:Key):Nat:=match m k with
 |none=>0
 |some (g,_)=>g+1
structure fj (A:Nat->Prop) (w:World) (B:eH) (mem:Mem):Prop where
 zk:∀k,mem k=none->B k=none
 inj:∀k k' e e' b,B k=some e->B k'=some e'->e.di=some b->e'.di=some b->k=k'
 sep:∀b,A b->¬ qV B b
 lt:∀b,A b->b<w.heap.size
 di:∀k g cs,mem k=some (g,cs)->∃e,B k=some e/\e.g=g/\(e.di=none->cs=[]) /\
  ∀b,e.di=some b->∃vs T,w.heap[b]?=some (.cells vs T (0,0))/\vs.size=e.size/\D cs<=vs.size /\
   ∀(i:Nat) (m:M),cs[i]?=some m->∃v,vs[i]?=some v/\bm w (cb A B) B m v
theorem fj.zl {A:Nat->Prop}{w:World}{B:eH}{mem:Mem}(h:fj A w B mem){b:Nat}(ad:qV B b):b<w.heap.size:=by
 obtain⟨k,e,he,ad⟩:=ad
 cases hm:mem k with
 |none=>rw[h.zk k hm] at he;cases he
 |some x =>
  obtain⟨g,cs⟩:=x;obtain⟨e',fS,_,_,aQ⟩:=h.di k g cs hm;rw[fS] at he
  cases he;obtain⟨vs,T,aI,_⟩:=aQ b ad;exact (Array.getElem?_eq_some_iff.1 aI).1
structure Fr (xM:Nat->Prop) (dw w:World):Prop where
 os:w.os=dw.os
 tape:w.tape=dw.tape
 output:w.output=dw.output
 size:dw.heap.size<=w.heap.size
 block:∀g,g<dw.heap.size->¬ xM g->w.heap[g]?=dw.heap[g]?
theorem Fr.refl (xM:Nat->Prop)(w:World):Fr xM w w:=⟨rfl,rfl,rfl,bM _,λ_ _ _=>rfl⟩
theorem Fr.drew {xM:Nat->Prop}{dw w:World}(h:Fr xM dw w)(n:Nat):Fr xM dw { w with drawn:=n }:=⟨h.os,h.tape,h.output,h.size,h.block⟩
theorem Fr.alloc {xM:Nat->Prop}{dw w:World}(h:Fr xM dw w)(o:Obj):Fr xM dw (w.alloc o) :=
 ⟨h.os,h.tape,h.output,by simp;have:=h.size;omega,λg aU fB=>(RowKit.Below.heap_alloc w o g (by have:=h.size;omega)).trans (h.block g aU fB)⟩
theorem Fr.below {dw w:World}(h:Fr (λ_=>False) dw w):RowKit.Below dw.heap.size dw w:=⟨h.os,h.tape,h.output,h.size,λg aU=>h.block g aU id⟩
inductive bF where
 |t (s:Nat)
 |c (m:M)
 deriving Inhabited
inductive jo where
 |cn (x:bF)
 |pick (c a b:bF)
 |alloc (k:Key) (z:List M)
 |box (k:Key) (x:bF)
 |build (z:List M) (parts:List (Nat×Nat×bF))
 |e7 (k:Key) (own:Bool) (z:List M) (sz len:Nat) (parts:List (Nat×Nat×bF))
 |load (n:Nat) (dy:Bool) (x:bF)
 |store (n:Nat) (x v:bF)
 |bin (op:BinOp) (x y:bF)
 |beq (neg:Bool) (x y:bF)
 |eqs (neg:Bool) (gp:List Nat) (x y:bF)
 |pn (neg:Bool) (x:bF)
 |un (op:UnOp) (x:bF)
 |conv (k:IntKind) (x:bF)
 |qW (x:bF)
 |lj (k:Key) (z:List M) (bytes:Nat) (len cap:bF)
 |eX (off:Nat) (x:bF)
 |zm (off n:Nat) (dy:Bool) (x:bF)
 |jF (sz:Nat) (x i:bF)
 |n3 (len sz:Nat) (x i:bF)
 |idxs (x i:bF)
 |qX (sz:Nat) (x:bF) (bG L jq:Option bF)
 |rV (len sz:Nat) (x:bF) (bG L jq:Option bF)
 |A9 (x:bF) (bG L:Option bF)
 |ext (i:Nat) (x:bF)
 |len (x:bF)
 |lens (x:bF)
 |app (k:Key) (z:List M) (bytes:Nat) (s x:bF)
 |qY (sz:Nat) (d x:bF)
 |il (jq:Bool) (x y:bF)
 |call (f:FuncId) (args:List bF)
 |m0 (k:Key) (sz:Nat) (f:FuncId) (args:List bF)
 |lk (f:bF) (args:List bF)
 |ll (bG:Nat) (f:FuncId) (args:List bF)
 |tk (f:FuncId) (eW:List bF)
 |bad
 deriving Inhabited
structure cB where
 dst:Option Nat
 g:Option (Nat×Bool)
 op:jo
 deriving Inhabited
inductive KM where
 |po (s:Nat) (k:Key) (sz:Nat)
 |KN (x:bF) (i:Nat) (k:Key) (sz:Nat)
 |freeze (s:Nat)
 |KO (x:bF) (i:Nat)
 |move
 |many
 deriving Inhabited
inductive dY where
 |skip
 |ops (l:List cB)
 |m1 (l:List cB) (c:List (List Nat))
 |seq (a b:dY)
 |cond (c:bF) (a b:dY)
 |block (id:Nat) (c:dY)
 |loop (c:dY)
 |exit (id:Nat)
 |ret
 |ghost (g:KM) (c:dY)
 deriving Inhabited
inductive nz where
 |t (s:Nat)
 |cell (s n:Nat) (dy:Bool)
 deriving Inhabited
structure b5 where
 n:Nat
 ai0:Nat
 res:List nz
 body:dY
 deriving Inhabited
structure a2 where
 tm:Nat->M
 mem:Mem
def eK (tm:Nat->M)(s:Nat)(m:M):Nat->M:=λt=>if t=s then m else tm t
def put (tm:Nat->M):Option Nat->M->Nat->M
 |some s,m=>eK tm s m
 |none,_=>tm
@[simp] theorem eL (tm:Nat->M)(s:Nat)(m:M)(t:Nat):eK tm s m t=if t=s then m else tm t:=rfl
def a0 (tm:Nat->M):bF->M
 |.t s=>tm s
 |.c m=>m
def M.cells:M->List M
 |.agg cs=>cs
 |.I (.agg ds)=>ds.map .I
 |m=>[m]
def M.known:M->Bool
 |.undef=>false
 |_=>true
def M.one:M->Bool
 |.I (.agg _)=>false
 |.I (.cq _)=>false
 |.I _=>true
 |.nil=>true
 |.ref ..=>true
 |.ptr ..=>true
 |.fR ..=>true
 |_=>false
def qd (dy:Bool)(cs:List M):Option M :=
 if dy=true then some (.agg cs) else match cs with
  | [m]=>some m
  |_=>none
def cut (cs:List M)(off n:Nat):Option (List M) :=
 if off+n<=(D cs) then some ((cs.drop off).take n) else none
def ln (cs:List M)(off:Nat)(new:List M):List M:=cs.take off++new++cs.drop (off+D new)
def jG (a0:bF->M)(cells:List M):List (Nat×Nat×bF)->Option (List M)
 | []=>some cells
 |(off,size,x)::rest =>
  if (a0 x).known=true/\(a0 x).cells.length=size/\off+size<=(D cells) then jG a0 (ln cells off (a0 x).cells) rest else none
def Ba:M->Option Data
 |.I d=>some d
 |.nil=>some (.ae [])
 |_=>none
def chunk (sz:Nat):Nat->List Data->List (List Data)
 |0,_=>[]
 |n+1,l=>l.take sz::chunk sz n (l.drop sz)
def KP (op:BinOp)(k:IntKind)(a b:Int):Option Data :=
 match op with
 |.add=>some (.int k (k.wrap (a+b)))
 |.sub=>some (.int k (k.wrap (a-b)))
 |.mul=>some (.int k (k.wrap (a*b)))
 |.quo=>if b=0 then none else some (.int k (k.wrap (a.tdiv b)))
 |.rem=>if b=0 then none else some (.int k (a.tmod b))
 |.and=>some (.int k (bits .and k a b))
 |.or=>some (.int k (bits .or k a b))
 |.xor=>some (.int k (bits .xor k a b))
 |.andNot=>some (.int k (bits .andNot k a b))
 |.eql=>some (.bool (a==b))
 |.neq=>some (.bool (a != b))
 |.lss=>some (.bool (a<b))
 |.leq=>some (.bool (a<=b))
 |.gtr=>some (.bool (a>b))
 |.geq=>some (.bool (a>=b))
 |_=>none
def KQ (op:BinOp)(k:IntKind)(a b:Int):Option Data :=
 if b<0 then none else match op with
 |.shl=>some (.int k (k.wrap (a*2^(min b.toNat k.bits))))
 |.shr=>some (.int k (a.fdiv (2^(min b.toNat k.bits))))
 |_=>none
def KR (op:BinOp)(a b:List UInt8):Option Data :=
 match op with
 |.add=>if (D a)+D b<=maxLen then some (.str (a++b)) else none
 |.eql=>some (.bool (a==b))
 |.neq=>some (.bool (!(a==b)))
 |.lss=>some (.bool (Op.bytesLess a b))
 |.leq=>some (.bool (Op.bytesLess a b||a==b))
 |.gtr=>some (.bool (!(Op.bytesLess a b||a==b)))
 |.geq=>some (.bool (!Op.bytesLess a b))
 |_=>none
def C9:BinOp->Bool
 |.shl=>true
 |.shr=>true
 |_=>false
def GP (op:BinOp)(x y:M):Option M :=
 match x,y with
 |.I (.int k a),.I (.int k' b)=>if C9 op=true then (KQ op k a b).map .I else if k=k' then (KP op k a b).map .I else none
 |.I (.str a),.I (.str b)=>(KR op a b).map .I
 |_,_=>none
def GQ (neg:Bool):M->M->Option M
 |.I (.bool a),.I (.bool b)=>some (.I (.bool (neg != (a==b))))
 |_,_=>none
def KS:Nat->M->M->Option Bool
 |0,.I (.bool a),.I (.bool b)=>some (a==b)
 |1,.I (.int k a),.I (.int k' b)=>if k=k' then some (a==b) else none
 |2,.I (.str a),.I (.str b)=>some (a==b)
 |_,_,_=>none
def zn:List Nat->List M->List M->Option Bool
 | [],[],[]=>some true
 |k::gp,a::x,b::y=>match KS k a b,zn gp x y with
  |some c,some d=>some (c&&d)
  |_,_=>none
 |_,_,_=>none
def GR (op:UnOp)(x:M):Option M :=
 match op,x with
 |.neg,.I (.int k n)=>some (.I (.int k (k.wrap (0-n))))
 |.xor,.I (.int k n)=>some (.I (.int k (bits .xor k (if k.signed then -1 else k.max) n)))
 |.not,.I (.bool b)=>some (.I (.bool !b))
 |_,_=>none
def idx:M->Option Nat
 |.I (.int _ n)=>if 0<=n then some n.toNat else none
 |_=>none
def iS (d:Nat):Option M->Option Nat
 |none=>some d
 |some x=>idx x
def pq:M->Option Nat
 |.I (.ae es)=>some (D es)
 |.nil=>some 0
 |.ref _ _ _ _ n=>some n
 |_=>none
def pr (mem:Mem)(n:Nat)(dy:Bool):M->Option M
 |.ptr k g off=>match mem k with
  |some (df,cs)=>if df=g then (cut cs off n).bind (qd dy) else none
  |none=>none
 |.I (.ptr ds)=>(cut (ds.map .I) 0 n).bind (qd dy)
 |_=>none
def xN:M->Option Nat
 |.I (.str s)=>some (D s)
 |_=>none
def Da:M->M->M->Option M
 |.I (.bool t),a,b=>some (if t=true then a else b)
 |_,_,_=>none
def GS (z:List M)(sz len:Nat)(x:Option (List M)):Option M :=
 if (D z)=len*sz then (match x with
  |some cs=>(cs.mapM Ba).map λds => .I (.ae (chunk sz len ds))
  |none=>none) else none
def GU:M->Option (List M)
 |.agg cs=>some cs
 |.I (.agg ds)=>some (ds.map .I)
 |_=>none
def GV (neg:Bool)(gp:List Nat)(a b:M):Option M:=match GU a,GU b with
 |some x,some y=>(match zn gp x y with
  |some c=>some (.I (.bool (neg != c)))
  |none=>none)
 |_,_=>none
def GW (k:IntKind):M->Option M
 |.I (.int _ n)=>some (.I (.int k (k.wrap n)))
 |_=>none
def GX:M->Option M
 |.ptr k g off=>some (.ptr k g off)
 |.I (.ptr ds)=>some (.I (.ptr ds))
 |_=>none
def GY (off:Nat):M->Option M
 |.ptr k g o=>some (.ptr k g (o+off))
 |.I (.ptr ds)=>if off<=(D ds) then some (.I (.ptr (ds.drop off))) else none
 |_=>none
def GZ (off n:Nat)(dy:Bool):M->Option M
 |.agg cs=>(cut cs off n).bind (qd dy)
 |.I (.agg ds)=>(cut (ds.map .I) off n).bind (qd dy)
 |_=>none
def xO (sz n:Nat):M->Option M
 |.ref k g dU off len=>if n<len/\dU=sz then some (.ptr k g (off+n*sz)) else none
 |.I (.ae es)=>match es[n]? with
  |some e=>if (D e)=sz then some (.I (.ptr e)) else none
  |none=>none
 |_=>none
def G0 (len sz n:Nat):M->Option M
 |.ptr k g off=>if n<len then some (.ptr k g (off+n*sz)) else none
 |.I (.ptr ds)=>if n<len/\n*sz<=(D ds) then some (.I (.ptr (ds.drop (n*sz)))) else none
 |_=>none
def G6 (n:Nat):M->Option M
 |.I (.str s)=>(s[n]?).map λb => .I (.int .u8 b.toNat)
 |_=>none
def v3 (sz:Nat)(es:List (List Data)):Bool:=es.all λe=>D e==sz
def G7 (sz l h:Nat):M->Option M
 |.I (.ae es)=>if l<=h/\h<=D es/\v3 sz es=true then some (.I (.ae ((es.take h).drop l))) else none
 |.nil=>if l=0/\h=0 then some .nil else none
 |.ref k g dU off len=>if dU=sz/\l<=h/\h<=len then some (.ref k g sz (off+l*sz) (h-l)) else none
 |_=>none
def G8 (sz l h m:Nat):M->Option M
 |.I (.ae es)=>if l<=h/\h<=m/\m<=D es/\v3 sz es=true then (if m=l then some .nil else some (.I (.ae ((es.take h).drop l)))) else none
 |.nil=>if l=0/\h=0/\m=0 then some .nil else none
 |.ref _ _ _ _ len=>if l<=h/\h<=m/\m<=len/\m=l then some .nil else none
 |_=>none
def G9 (l h:Nat):M->Option M
 |.I (.str s)=>if l<=h/\h<=(D s) then some (.I (.str ((s.take h).drop l))) else none
 |_=>none
def Ha (i:Nat):M->Option M
 |.cq vs=>vs[i]?
 |.I (.cq ds)=>(ds[i]?).map .I
 |_=>none
def Hb (jq:Bool):M->M->Option M
 |.I (.int k a),.I (.int k' b)=>if k=k' then some (.I (.int k (if jq=true then (if b>a then b else a) else (if b<a then b else a)))) else none
 |_,_=>none
def hB (x:Option Nat)(f:Nat->Option M):Option M:=match x with
 |some n=>f n
 |none=>none
def jT (tm:Nat->M):jo->Option M
 |.cn x=>some (a0 tm x)
 |.pick c a b=>Da (a0 tm c) (a0 tm a) (a0 tm b)
 |.build z parts=>(jG (a0 tm) z parts).map .agg
 |.e7 _ false z sz len parts=>GS z sz len (jG (a0 tm) z parts)
 |.bin op x y=>GP op (a0 tm x) (a0 tm y)
 |.beq neg x y=>GQ neg (a0 tm x) (a0 tm y)
 |.eqs neg gp x y=>GV neg gp (a0 tm x) (a0 tm y)
 |.un op x=>GR op (a0 tm x)
 |.conv k x=>GW k (a0 tm x)
 |.qW x=>GX (a0 tm x)
 |.eX off x=>GY off (a0 tm x)
 |.zm off n dy x=>GZ off n dy (a0 tm x)
 |.jF sz x i=>hB (idx (a0 tm i)) λn=>xO sz n (a0 tm x)
 |.n3 len sz x i=>hB (idx (a0 tm i)) λn=>G0 len sz n (a0 tm x)
 |.idxs x i=>hB (idx (a0 tm i)) λn=>G6 n (a0 tm x)
 |.qX sz x bG L none=>hB (iS 0 (bG.map (a0 tm))) λl=>hB (pq (a0 tm x)) λlen=>hB (iS len (L.map (a0 tm))) λh=>G7 sz l h (a0 tm x)
 |.qX sz x bG (some L) (some jq)=>hB (iS 0 (bG.map (a0 tm))) λl=>hB (idx (a0 tm L)) λh=>hB (idx (a0 tm jq)) λm=>G8 sz l h m (a0 tm x)
 |.A9 x bG L=>hB (iS 0 (bG.map (a0 tm))) λl=>hB (xN (a0 tm x)) λlen=>hB (iS len (L.map (a0 tm))) λh=>G9 l h (a0 tm x)
 |.ext i x=>Ha i (a0 tm x)
 |.len x=>hB (pq (a0 tm x)) λn=>some (.I (.int .i64 n))
 |.lens x=>hB (xN (a0 tm x)) λn=>some (.I (.int .i64 n))
 |.il jq x y=>Hb jq (a0 tm x) (a0 tm y)
 |.tk f eW=>some (.fR f (eW.map (a0 tm)))
 |_=>none
def PC (k:Key)(g off len sz l h:Nat):Option (Nat×List M)->Option M
 |some (df,cs)=>if df=g/\l<=h/\h<=len/\off+len*sz<=(D cs) then some (.ref k g sz (off+l*sz) (h-l)) else none
 |none=>none
def zo (mem:Mem)(len sz l h:Nat):M->Option M
 |.ptr k g off=>PC k g off len sz l h (mem k)
 |_=>none
def ps (mem:Mem)(sz:Nat):M->Option (Nat×List M)
 |.I (.ae es)=>if v3 sz es=true then some (D es,es.flatten.map M.I) else none
 |.nil=>some (0,[])
 |.ref k g dU off len=>if dU=sz then (match mem k with
  |some (df,cs)=>if df=g then (cut cs off (len*sz)).map λcs=>(len,cs) else none
  |none=>none) else none
 |_=>none
abbrev Out:=Option (M×Option (Key×Nat×List M))
def im (x:Option M):Out:=match x with
 |some m=>some (m,none)
 |none=>none
def Db (k:Key)(g:Nat)(z:List M)(sz len:Nat)(x:Option (List M)):Out :=
 if (D z)=len*sz then (match x with
  |some cs=>some (.ref k g sz 0 len,some (k,g,cs))
  |none=>none) else none
def Dc (k:Key)(g:Nat)(z:List M)(bytes:Nat)(n c:Nat):Out :=
 if n=c/\bytes*n<=140737488355328/\n<=maxLen then some (.ref k g (D z) 0 n,some (k,g,(ep n z).flatten)) else none
def Hc (x y:Option Nat)(f:Nat->Nat->Out):Out:=match x,y with
 |some n,some m=>f n m
 |_,_=>none
def Hd (n:Nat)(k:Key)(g off:Nat)(v:List M)(x:Option (Nat×List M)):Out:=match x with
 |some (df,cs)=>if df=g/\D v=n/\off+n<=D cs/\v.all M.one=true then some (.no,some (k,g,ln cs off v)) else none
 |none=>none
def v5 (mem:Mem)(n:Nat):M->List M->Out
 |.ptr k g off,v=>Hd n k g off v (mem k)
 |_,_=>none
def lQ (k:Key)(g:Nat)(sz len bytes:Nat)(m:Nat)(new:List M)(x:Option (Nat×List M)):Out:=match x with
 |some (df,cs)=>if df=g/\len*sz<=D cs/\(len+m)*bytes<=140737488355328/\len+m<=maxLen/\new.all M.one=true
   then some (.ref k (g+1) sz 0 (len+m),some (k,g+1,cs.take (len*sz)++new)) else none
 |none=>none
def qe (mem:Mem)(k:Key)(z:List M)(bytes:Nat):M->Option (Nat×List M)->Out
 |.nil,some (m,new)=>if m*bytes<=140737488355328/\m<=maxLen/\new.all M.one=true then some (.ref k (bW mem k) (D z) 0 m,some (k,bW mem k,new)) else none
 |.ref k' g dU off len,some (m,new)=>if dU=D z/\off=0 then lQ k' g dU len bytes m new (mem k') else none
 |_,_=>none
def zp (k:Key)(g sz off len:Nat)(m:Nat)(new:List M)(x:Option (Nat×List M)):Out:=match x with
 |some (df,cs)=>if df=g/\off+len*sz<=D cs/\new.all M.one=true then some (.I (.int .i64 ((min m len:Nat):Int)),some (k,g,ln cs off (new.take (min m len*sz)))) else none
 |none=>none
def uJ (mem:Mem)(sz:Nat):M->Option (Nat×List M)->Out
 |.ref k g dU off len,some (m,new)=>if dU=sz then zp k g sz off len m new (mem k) else none
 |_,_=>none
def b3 (mem:Mem)(tm:Nat->M):jo->Out
 |.alloc k z=>some (.ptr k (bW mem k) 0,some (k,bW mem k,z))
 |.box k x=>if (a0 tm x).known=true then some (.ptr k (bW mem k) 0,some (k,bW mem k,(a0 tm x).cells)) else none
 |.e7 k true z sz len parts=>Db k (bW mem k) z sz len (jG (a0 tm) z parts)
 |.lj k z bytes len cap=>Hc (idx (a0 tm len)) (idx (a0 tm cap)) (Dc k (bW mem k) z bytes)
 |.load n dy x=>im (pr mem n dy (a0 tm x))
 |.rV len sz x bG L none=>im (hB (iS 0 (bG.map (a0 tm))) λl=>hB (iS len (L.map (a0 tm))) λh=>zo mem len sz l h (a0 tm x))
 |.store n x v=>v5 mem n (a0 tm x) (a0 tm v).cells
 |.app k z bytes s x=>qe mem k z bytes (a0 tm s) (ps mem (D z) (a0 tm x))
 |.qY sz d x=>uJ mem sz (a0 tm d) (ps mem sz (a0 tm x))
 |op=>im (jT tm op)
inductive gO where
 |same (r:Data)
 |own (sz:Nat) (es:List (List Data))
 |rel (bZ:M->Mem->Prop)
 |eK (r:Data) (k:Key) (g i:Nat) (c:M)
abbrev bk:=FuncId->List M->Mem->Option gO
def ib (mem:Mem):Option (Key×Nat×List M)->Mem
 |none=>mem
 |some (k,g,cs)=>a3 mem k g cs
def qf (mem:Mem)(k:Key):List M:=match mem k with
 |some (_,cs)=>cs
 |none=>[]
def tl (T:bk)(K:a2->Prop)(st:a2)(dst:Option Nat)(f:FuncId)(args:List M):Prop :=
 match T f args st.mem with
 |some (.same r)=>K ⟨put st.tm dst (.I r),st.mem⟩
 |some (.own _ es)=>K ⟨put st.tm dst (.I (.ae es)),st.mem⟩
 |some (.rel bZ)=>∀r mem',bZ r mem'->K ⟨put st.tm dst r,mem'⟩
 |some (.eK r k g i c)=>K ⟨put st.tm dst (.I r),a3 st.mem k g ((qf st.mem k).set i c)⟩
 |none=>False
def Bb:M->Option Bool
 |.I (.ae es)=>some (!es.isEmpty)
 |.nil=>some false
 |.ref _ _ _ _ len=>some (decide (0<len))
 |_=>none
def ga (T:bk)(K:a2->Prop)(i:cB)(st:a2):Prop :=
 match i.op with
 |.call f args=>tl T K st i.dst f (args.map (a0 st.tm))
 |.m0 k sz f args=>match T f (args.map (a0 st.tm)) st.mem with
  |some (.own dU es)=>if dU=sz then K ⟨put st.tm i.dst (.ref k (bW st.mem k) sz 0 (D es)),a3 st.mem k (bW st.mem k) (es.flatten.map .I)⟩ else False
  |_=>False
 |.lk f args=>match a0 st.tm f with
  |.fR g eW=>tl T K st i.dst g (args.map (a0 st.tm)++eW)
  |.I (.fn g ds)=>tl T K st i.dst g (args.map (a0 st.tm)++ds.map .I)
  |_=>False
 |.pn neg x=>match Bb (a0 st.tm x) with
  |some full=>∀b:Bool,(full=true->b=false)->K ⟨put st.tm i.dst (.I (.bool (neg != b))),st.mem⟩
  |none=>False
 |op=>match b3 st.mem st.tm op with
  |some (m,e)=>K ⟨put st.tm i.dst m,ib st.mem e⟩
  |none=>False
def n4 (tm:Nat->M):Option (Nat×Bool)->Option Bool
 |none=>some true
 |some (s,b)=>match tm s with
  |.I (.bool t)=>some (t==b)
  |.no=>some false
  |_=>none
def v7 (T:bk)(K:a2->Prop):List cB->a2->Prop
 | [],st=>K st
 |i::r,st=>match n4 st.tm i.g with
  |none=>False
  |some g=>if g=true then ga T (v7 T K r) i st else v7 T K r ⟨put st.tm i.dst .no,st.mem⟩
def keyOf:M->List Key
 |.ref k ..=>[k]
 |.ptr k ..=>[k]
 |_=>[]
inductive n5 where
 |h0 (k:Key)
 |rd (k:Key) (a b:Nat)
 |wr (k:Key) (i:Nat)
def n5.key:n5->Key
 |.h0 k=>k
 |.rd k _ _=>k
 |.wr k _=>k
def qg:n5->n5->Bool
 |.h0 k,.h0 k' => !(k==k')
 |.h0 k,.rd k' _ _ => !(k==k')
 |.rd k _ _,.h0 k' => !(k==k')
 |.rd _ _ _,.rd _ _ _=>true
 |.rd k a b,.wr k' i => !(k==k')||(decide (i<a)||decide (b<=i))
 |.wr k' i,.rd k a b => !(k==k')||(decide (i<a)||decide (b<=i))
 |.wr _ _,.wr _ _=>false
 |.h0 _,.wr _ _=>false
 |.wr _ _,.h0 _=>false
def Dd (n:Nat):M->List n5
 |.ref k ..=>[.h0 k]
 |.ptr k _ off=>[.rd k off (off+n)]
 |_=>[]
def He (bG:Nat):List M->List n5
 |.ptr k _ off::_=>[.wr k (off+bG)]
 |_=>[]
def dO (tm:Nat->M):jo->List n5
 |.load n _ x=>Dd n (a0 tm x)
 |.rV _ _ x _ _ _=>(keyOf (a0 tm x)).map .h0
 |.store _ x _=>(keyOf (a0 tm x)).map .h0
 |.alloc k _=>[.h0 k]
 |.box k _=>[.h0 k]
 |.e7 k true _ _ _ _=>[.h0 k]
 |.lj k _ _ _ _=>[.h0 k]
 |.m0 k _ _ _=>[.h0 k]
 |.app k _ _ s x => .h0 k::((keyOf (a0 tm s)).map .h0++(keyOf (a0 tm x)).map .h0)
 |.qY _ d x=>(keyOf (a0 tm d)).map .h0++(keyOf (a0 tm x)).map .h0
 |.ll bG _ args=>He bG (args.map (a0 tm))
 |_=>[]
def iT:jo->Bool
 |.store ..=>true
 |.alloc ..=>true
 |.box ..=>true
 |.e7 _ true _ _ _ _=>true
 |.lj ..=>true
 |.m0 ..=>true
 |.app ..=>true
 |.qY ..=>true
 |.ll ..=>true
 |_=>false
def zq:M->M
 |.I d => .I d
 |.nil => .nil
 |.fR f [] => .fR f []
 |.agg cs=>match cs.mapM Ba with
  |some ds => .I (.agg ds)
  |none => .undef
 |_ => .undef
def De (bG:Nat)(mem:Mem):List M->Option gO->Option (M×Option (Key×Nat×List M))
 |.ptr k _ off::_,some (.eK r k' df i c)=>match mem k with
  |some (g,cs)=>if k'=k/\df=g/\i=off+bG then some (.I r,some (k,g,cs.set i c)) else none
  |none=>none
 |_,_=>none
def iG (T:bk)(mem:Mem)(tm:Nat->M):jo->Option (M×Option (Key×Nat×List M))
 |.call f args=>match T f (args.map λx=>zq (a0 tm x)) emp with
  |some (.same r)=>some (.I r,none)
  |some (.own _ es)=>some (.I (.ae es),none)
  |_=>none
 |.m0 k sz f args=>match T f (args.map λx=>zq (a0 tm x)) emp with
  |some (.own dU es)=>if dU=sz then some (.ref k (bW mem k) sz 0 (D es),some (k,bW mem k,es.flatten.map .I)) else none
  |_=>none
 |.lk ..=>none
 |.pn ..=>none
 |.ll bG f args=>De bG mem (args.map (a0 tm)) (T f (args.map (a0 tm)) mem)
 |op=>b3 mem tm op
abbrev Rec:=Nat->Option (Bool×List n5)
def qh (a b:Bool×List n5):Bool:=!(a.1||b.1)||a.2.all λx=>b.2.all λy=>qg x y
def Df (rec:Rec)(p:Bool×List n5)(c:List Nat):Bool:=c.all λi=>match rec i with
 |none=>true
 |some q=>qh q p
def tn (rec:Rec)(n:Nat)(p:Bool×List n5):Rec:=λi=>if i=n then some p else rec i
def uK (T:bk)(K:a2->Prop):Nat->List cB->List (List Nat)->Rec->a2->Prop
 |_,[],_,_,st=>K st
 |n,i::r,cs,rec,st=>match n4 st.tm i.g with
  |none=>False
  |some g=>if g=true then (match iG T st.mem st.tm i.op with
    |some (m,e)=>Df rec (iT i.op,dO st.tm i.op) (cs.headD [])=true/\uK T K (n+1) r cs.tail (tn rec n (iT i.op,dO st.tm i.op)) ⟨put st.tm i.dst m,ib st.mem e⟩
    |none=>False) else uK T K (n+1) r cs.tail rec ⟨put st.tm i.dst .no,st.mem⟩
inductive er where
 |normal
 |exit (id:Nat)
 |ret
def cZ:Nat->Mem->M->Option Data
 |_,_,.I d=>some d
 |_,_,.nil=>some (.ae [])
 |0,_,_=>none
 |n+1,mem,.ref k g sz off len=>match mem k with
  |some (df,cs)=>if df=g then (match cut cs off (len*sz) with
   |some part=>(part.mapM (cZ n mem)).map λds => .ae (chunk sz len ds)
   |none=>none) else none
  |none=>none
 |n+1,mem,.ptr k g off=>match mem k with
  |some (df,cs)=>if df=g/\off<=(D cs) then ((cs.drop off).mapM (cZ n mem)).map .ptr else none
  |none=>none
 |n+1,mem,.fR f cs=>(cs.mapM (cZ n mem)).map (.fn f)
 |n+1,mem,.agg cs=>(cs.mapM (cZ n mem)).map .agg
 |n+1,mem,.cq cs=>(cs.mapM (cZ n mem)).map .cq
 |_,_,.no=>none
 |_,_,.undef=>none
def kill (mem:Mem)(k:Key):Mem:=a3 mem k (bW mem k) []
def v8 (cs:List M):Bool:=cs.all λm=>(Ba m).isSome
inductive qZ (mem:Mem):Mem->Prop
 |KT (fq gz:Nat) (gb:List M) (i k g sz off len:Nat) (cs:List M) (k':Nat) (E:mem fq=some (gz,gb)) (H:gb[i]?=some (.ref k g sz off len)) (ab:mem k=some (g,cs)) (aM:k≠fq) (bj:k'≠k) (bH:k'≠fq) :
   qZ mem (a3 (a3 (a3 mem k (bW mem k) []) k' (bW mem k') cs) fq gz (gb.set i (.ref k' (bW mem k') sz off len)))
 |Yj (fq gz:Nat) (gb:List M) (i k g off:Nat) (cs:List M) (k':Nat) (E:mem fq=some (gz,gb)) (H:gb[i]?=some (.ptr k g off)) (ab:mem k=some (g,cs)) (aM:k≠fq) (bj:k'≠k) (bH:k'≠fq) :
   qZ mem (a3 (a3 (a3 mem k (bW mem k) []) k' (bW mem k') cs) fq gz (gb.set i (.ptr k' (bW mem k') off)))
 |KU (fq gz:Nat) (gb:List M) (i k g sz off len:Nat) (cs:List M) (d:Data) (E:mem fq=some (gz,gb)) (H:gb[i]?=some (.ref k g sz off len)) (ab:mem k=some (g,cs)) (aM:k≠fq) (bj:cZ 1 mem (.ref k g sz off len)=some d) :
   qZ mem (a3 (kill mem k) fq gz (gb.set i (.I d)))
inductive rW:Mem->Mem->Prop
 |refl (mem:Mem):rW mem mem
 |step {mem Hf Yk:Mem} (h:qZ mem Hf) (b2:rW Hf Yk):rW mem Yk
def kp (K:a2->Prop)(st:a2):KM->Prop
 |.po s k sz=>match st.tm s with
  |.nil=>K ⟨eK st.tm s (.ref k (bW st.mem k) sz 0 0),a3 st.mem k (bW st.mem k) []⟩
  |_=>False
 |.KN x i k sz=>match a0 st.tm x with
  |.ptr kc g off=>match st.mem kc with
   |some (df,cs)=>if df=g then (match cs[off+i]? with
    |some .nil=>if k≠kc then K ⟨st.tm,a3 (a3 st.mem k (bW st.mem k) []) kc g (cs.set (off+i) (.ref k (bW st.mem k) sz 0 0))⟩ else False
    |_=>False) else False
   |none=>False
  |_=>False
 |.freeze s=>match st.tm s with
  |.ref k g _ _ _=>match st.mem k with
   |some (df,cs)=>if df=g/\v8 cs=true then (match cZ 1 st.mem (st.tm s) with
    |some d=>K ⟨eK st.tm s (.I d),kill st.mem k⟩
    |none=>False) else False
   |none=>False
  |_=>False
 |.KO x i=>match a0 st.tm x with
  |.ptr kc gc off=>match st.mem kc with
   |some (Hg,cc)=>if Hg=gc then (match cc[off+i]? with
    |some (.ref k g sz o len)=>match st.mem k with
     |some (df,cs)=>if df=g/\v8 cs=true/\k≠kc then (match cZ 1 st.mem (.ref k g sz o len) with
      |some d=>K ⟨st.tm,a3 (kill st.mem k) kc gc (cc.set (off+i) (.I d))⟩
      |none=>False) else False
     |none=>False
    |_=>False) else False
   |none=>False
  |_=>False
 |.move=>K st\/(∃fq gz gb i k g sz off len cs k',st.mem fq=some (gz,gb)/\gb[i]?=some (.ref k g sz off len)/\st.mem k=some (g,cs)/\k≠fq/\k'≠k/\k'≠fq /\
   K ⟨st.tm,a3 (a3 (a3 st.mem k (bW st.mem k) []) k' (bW st.mem k') cs) fq gz (gb.set i (.ref k' (bW st.mem k') sz off len))⟩) \/
   ∃fq gz gb i k g sz off len cs d,st.mem fq=some (gz,gb)/\gb[i]?=some (.ref k g sz off len)/\st.mem k=some (g,cs)/\v8 cs=true/\k≠fq/\cZ 1 st.mem (.ref k g sz off len)=some d /\
   K ⟨st.tm,a3 (kill st.mem k) fq gz (gb.set i (.I d))⟩
 |.many=>∃mem',rW st.mem mem'/\K ⟨st.tm,mem'⟩
def wp (T:bk):dY->(er->a2->Prop)->a2->Prop
 |.skip,K,st=>K .normal st
 |.ops l,K,st=>v7 T (K .normal) l st
 |.m1 l c,K,st=>uK T (K .normal) 0 l c (λ_=>none) st
 |.seq a b,K,st=>wp T a (λe dt=>match e with
  |.normal=>wp T b K dt
  |e=>K e dt) st
 |.cond c a b,K,st=>match a0 st.tm c with
  |.I (.bool t)=>if t=true then wp T a K st else wp T b K st
  |_=>False
 |.block id c,K,st=>wp T c (λe dt=>match e with
  |.exit j=>if j=id then K .normal dt else K (.exit j) dt
  |e=>K e dt) st
 |.loop c,K,st=>∃(uL:a2->Prop) (μ:a2->Nat),uL st/\∀st,uL st->wp T c (λe dt=>match e with
  |.normal=>uL dt/\μ dt<μ st
  |e=>K e dt) st
 |.exit id,K,st=>K (.exit id) st
 |.ret,K,st=>K .ret st
 |.ghost g c,K,st=>kp (wp T c K) st g
def Dg (st:a2):nz->Option M
 |.t s=>some (st.tm s)
 |.cell s n dy=>pr st.mem n dy (st.tm s)
def oF (st:a2)(l:List nz):Option M :=
 match l.mapM (Dg st) with
 |some [m]=>some m
 |some ms=>some (.cq ms)
 |none=>none
def mj (args:List M):Nat->M:=λs=>match args[s]? with
 |some m=>m
 |none => .no
def Hh:Value->Option M
 |.int k n=>some (.I (.int k n))
 |.bool b=>some (.I (.bool b))
 |.string s=>some (.I (.str s.data.toList))
 |.slice none 0 0=>some .nil
 |.pointer none=>some (.I .ti)
 |.nilFunc=>some (.I .tj)
 |_=>none
def PD:Value->Option M
 |.agg cs=>(cs.toList.mapM Hh).map .agg
 |v=>Hh v
def dB:Operand->Option bF
 |.tmp t=>some (.t t)
 |.const v=>(PD v).map .c
 |.func f=>some (.c (.fR f []))
 |.global _=>none
def zeroOf (P:Program)(t:TypeId):Option (List M):=((P.info? t).bind (·.zero)).bind λz=>z.cells.toList.mapM Hh
def fT (P:Program)(t:TypeId):Option Nat:=(P.info? t).map (·.size)
def Dh (P:Program)(t:TypeId):Option Nat:=(P.info? t).map (·.bytes)
def xP (P:Program)(t:TypeId):Option Bool:=(P.underlying t).map fun|.struct _=>true|.array _ _=>true|_=>false
def partsOf (place:Nat->Option (Nat×Nat))(l:List (Nat×Operand)):Option (List (Nat×Nat×bF)) :=
 l.mapM λ(i,x)=>do
  let (o,s) <-place i
  let y <-dB x
  pure (o,s,y)
def tp (P:Program)(dj:Array Field)(i:Nat):Option (Nat×Nat):=do
 let f <-dj[i]?
 let s <-fT P f.type
 pure (f.offset,s)
def Hi (P:Program)(t:TypeId):Option Nat :=
 match P.underlying t with
 |some .bool=>some 0
 |some (.int _)=>some 1
 |some .string=>some 2
 |_=>none
def Di (P:Program):Nat->List Field->Option (List Nat)
 |_,[]=>some []
 | i, f :: r => if f.name ≠ "_" /\ f.offset = i then (match Hi P f.type, Di P (i + 1) r with
  |some k,some gp=>some (k::gp)
  |_,_=>none) else none
def xQ (P:Program)(t:TypeId)(dj:Array Field)(neg:Bool)(x y:Operand):Option jo :=
 if P.stoodInHeld t=false/\P.eqGuardType P.depth t=false then (match Di P 0 dj.toList,dB x,dB y with
  |some gp,some x,some y=>some (.eqs neg gp x y)
  |_,_,_=>none) else none
def PE:Operand->Bool
 |.const (.slice none 0 0)=>true
 |_=>false
def Bc (P:Program)(op:BinOp)(t:TypeId)(x y:Operand):Option jo :=
 match P.underlying t with
 |some (.int _)=>match dB x,dB y with
  |some x,some y=>some (.bin op x y)
  |_,_=>none
 |some .string=>match dB x,dB y with
  |some x,some y=>some (.bin op x y)
  |_,_=>none
 |some .bool=>match op,dB x,dB y with
  |.eql,some x,some y=>some (.beq false x y)
  |.neq,some x,some y=>some (.beq true x y)
  |_,_,_=>none
 |some (.struct dj)=>match op with
  |.eql=>xQ P t dj false x y
  |.neq=>xQ P t dj true x y
  |_=>none
 |some (.slice _)=>if PE y=true then (match op with
  |.eql=>(dB x).map (.pn false)
  |.neq=>(dB x).map (.pn true)
  |_=>none) else none
 |_=>none
def rX:Option Operand->Option (Option bF)
 |none=>some none
 |some x=>(dB x).map some
def zr (P:Program)(kb:Nat)(own:List Nat)(dst:Option Nat)(type:TypeId)(c:Call):Option jo :=
 match c.callee,c.args.toList,c.argTypes.toList with
 |.builtin .len,[x],[t]=>match P.underlying t with
  |some (.slice _)=>(dB x).map .len
  |some .string=>(dB x).map .lens
  |_=>none
 |.builtin .append,[s,x],[t,u]=>match P.underlying t,P.underlying u with
  |some (.slice e),some (.slice _)=>do
   let z <-zeroOf P e
   let b <-Dh P e
   let n <-fT P e
   let d <-dst
   let s <-dB s
   let x <-dB x
   if (D z)=n/\0<n/\t=u then pure (.app (kb+d) z b s x) else none
  |_,_=>none
 |.builtin .copy,[d,x],[t,u]=>match P.underlying t,P.underlying u with
  |some (.slice e),some (.slice _)=>do
   let n <-fT P e
   if 0<n then pure (.qY n (<-dB d) (<-dB x)) else none
  |_,_=>none
 |.builtin .max,[x,y],_=>do pure (.il true (<-dB x) (<-dB y))
 |.builtin .min,[x,y],_=>do pure (.il false (<-dB x) (<-dB y))
 |.value (.func f),l,_=>if dst.any (λd=>own.contains d) then (match P.underlying type with
   |some (.slice e)=>do pure (.m0 (kb+(<-dst)) (<-fT P e) f (<-l.mapM dB))
   |_=>none) else match own.find? (λo=>decide (1000000<=o)&&dst==some (o%1000000)) with
   |some o=>do pure (.ll (o/1000000-1) f (<-l.mapM dB))
   |none=>do pure (.call f (<-l.mapM dB))
 |.value f,l,_=>do pure (.lk (<-dB f) (<-l.mapM dB))
 |_,_,_=>none
def lo (P:Program)(kb:Nat)(own:List Nat)(dst:Option Nat)(type:TypeId):Op->Option jo
 |.move x=>(dB x).map .cn
 |.assign x=>(dB x).map .cn
 |.pick c a b=>do pure (.pick (<-dB c) (<-dB a) (<-dB b))
 |.alloc e=>do pure (.alloc (kb+(<-dst)) (<-zeroOf P e))
 |.box _ x=>do pure (.box (kb+(<-dst)) (<-dB x))
 |.build t cS=>match P.underlying t with
  |some (.struct dj)=>if (dj.toList.all λf=>(fT P f.type).isSome)=true then do pure (.build (<-zeroOf P t) (<-partsOf (tp P dj) cS.toList)) else none
  |some (.array _ e)=>do
   let s <-fT P e
   pure (.build (<-zeroOf P t) (<-partsOf (λi=>some (i*s,s)) cS.toList))
  |_=>none
 |.buildSlice t len cS=>match P.underlying t with
  |some (.slice e)=>do
   let z <-zeroOf P e
   let s <-fT P e
   let cS <-partsOf (λi=>some (i*s,s)) cS.toList
   let d <-dst
   if (D z)=s/\0<s/\len*s<=16777216 then pure (.e7 (kb+d) (own.contains d) ((ep len z).flatten) s len cS) else none
  |_=>none
 |.load t x=>do pure (.load (<-fT P t) (<-xP P t) (<-dB x))
 |.store t x v=>do pure (.store (<-fT P t) (<-dB x) (<-dB v))
 |.binOp op t x y _=>Bc P op t x y
 |.unOp op _ x=>(dB x).map (.un op)
 |.nilCheck x=>(dB x).map .qW
 |.convert s t x=>match P.underlying s,P.underlying t with
  |some (.int _),some (.int k)=>(dB x).map (.conv k)
  |_,_=>none
 |.makeFunc (.func f) fst eW=>if fst.size=0 then do pure (.tk f (<-eW.toList.mapM dB)) else none
 |.makeSlice t l c=>match P.underlying t with
  |some (.slice e)=>do
   let z <-zeroOf P e
   let s <-fT P e
   let b <-Dh P e
   let d <-dst
   if (D z)=s/\0<s then pure (.lj (kb+d) z b (<-dB l) (<-dB c)) else none
  |_=>none
 |.slice t x bG L jq=>match P.underlying t with
  |some (.slice e)=>do
   let s <-fT P e
   if 0<s then pure (.qX s (<-dB x) (<-rX bG) (<-rX L) (<-rX jq)) else none
  |some (.array n e)=>do
   let s <-fT P e
   if 0<s/\n<=16777216 then pure (.rV n s (<-dB x) (<-rX bG) (<-rX L) (<-rX jq)) else none
  |some .string=>if jq.isNone then do pure (.A9 (<-dB x) (<-rX bG) (<-rX L)) else none
  |_=>none
 |.fieldAddr t x f=>match P.underlying t with
  |some (.struct dj)=>do
   let (o,s) <-tp P dj f
   if 0<s then pure (.eX o (<-dB x)) else none
  |_=>none
 |.field t x f=>match P.underlying t with
  |some (.struct dj)=>do
   let fd <-dj[f]?
   let (o,s) <-tp P dj f
   pure (.zm o s (<-xP P fd.type) (<-dB x))
  |_=>none
 |.indexAddr t x i=>match P.underlying t with
  |some (.slice e)=>do
   let s <-fT P e
   if 0<s then pure (.jF s (<-dB x) (<-dB i)) else none
  |some (.array n e)=>do
   let s <-fT P e
   if 0<s then pure (.n3 n s (<-dB x) (<-dB i)) else none
  |_=>none
 |.index t x i=>match P.underlying t with
  |some .string=>do pure (.idxs (<-dB x) (<-dB i))
  |_=>none
 |.extract x i=>(dB x).map (.ext i)
 |.call c=>zr P kb own dst type c
 |_=>none
def Hj (ops:Array Oper):Option (Nat×Bool)->Option (Option (Nat×Bool))
 |none=>some none
 |some (j,b)=>match (ops[j]?).bind (·.dst) with
  |some s=>some (some (s,b))
  |none=>none
def zs (P:Program)(n kb:Nat)(own:List Nat)(ops:Array Oper)(o:Oper):Option cB :=
 match Hj ops o.guard with
 |some g=>if o.dst.all (λd=>decide (d<n))=true then some ⟨o.dst,g,(lo P kb own o.dst o.type o.op).getD .bad⟩ else none
 |_=>none
def q0 (m:jo):Nat:=match m with
 |.load ..=>1
 |.rV ..=>1
 |m=>if iT m=true then 2 else 0
def xR (a b:Nat):Bool:=a==0||b==0||(a==1&&b==1)
def fa:bF->List Nat
 |.t s=>[s]
 |.c _=>[]
def v9:Option bF->List Nat
 |some (.t s)=>[s]
 |_=>[]
def wa:jo->List Nat
 |.cn x=>fa x
 |.pick c a b=>fa c++fa a++fa b
 |.alloc _ _=>[]
 |.box _ x=>fa x
 |.build _ cS=>cS.flatMap λp=>fa p.2.2
 |.e7 _ _ _ _ _ cS=>cS.flatMap λp=>fa p.2.2
 |.load _ _ x=>fa x
 |.store _ x v=>fa x++fa v
 |.bin _ x y=>fa x++fa y
 |.beq _ x y=>fa x++fa y
 |.eqs _ _ x y=>fa x++fa y
 |.pn _ x=>fa x
 |.un _ x=>fa x
 |.conv _ x=>fa x
 |.qW x=>fa x
 |.lj _ _ _ x y=>fa x++fa y
 |.eX _ x=>fa x
 |.zm _ _ _ x=>fa x
 |.jF _ x i=>fa x++fa i
 |.n3 _ _ x i=>fa x++fa i
 |.idxs x i=>fa x++fa i
 |.qX _ x a b c=>fa x++v9 a++v9 b++v9 c
 |.rV _ _ x a b c=>fa x++v9 a++v9 b++v9 c
 |.A9 x a b=>fa x++v9 a++v9 b
 |.ext _ x=>fa x
 |.len x=>fa x
 |.lens x=>fa x
 |.app _ _ _ s x=>fa s++fa x
 |.qY _ s x=>fa s++fa x
 |.il _ x y=>fa x++fa y
 |.call _ l=>l.flatMap fa
 |.m0 _ _ _ l=>l.flatMap fa
 |.lk f l=>fa f++l.flatMap fa
 |.ll _ _ l=>l.flatMap fa
 |.tk _ l=>l.flatMap fa
 |.bad=>[]
def zt (i:cB):List Nat:=wa i.op++(match i.g with|some (s,_)=>[s]|none=>[])
def wb (x y:cB):Bool :=
 (
  match x.dst with
  |some d => !(zt y).contains d&&y.dst != some d
  |none=>true) &&
 (
  match y.dst with
  |some d => !(zt x).contains d
  |none=>true)
def pt:List Oper->List Nat->List Nat
 | [],acc=>acc
 |o::r,acc=>pt r (acc++[o.after.toList.foldl (λs e=>if Region.binds .any e=true then s ||| (2^e.on ||| acc.getD e.on 0) else s) 0])
def Dj:List cB->List cB->List Nat->Bool
 |_,[],_=>true
 |pre,c::cs,a::as=>(pre.zipIdx.all λ(p,i)=>a.testBit i||wb p c)&&Dj (pre++[c]) cs as
 |_,_::_,[]=>false
def Dk:Nat->List Oper->Bool
 |_,[]=>true
 |n,o::r=>(o.after.all λe => !Region.binds .any e||decide (e.on<n))&&Dk (n+1) r
def Dl (ops:Array Oper)(l:List cB):Bool:=Dk 0 ops.toList&&Dj [] l (pt ops.toList [])
def xS:List cB->List cB->List Nat->List (List Nat)
 |_,[],_=>[]
 |pre,c::cs,as=>((pre.zipIdx.filter λ(p,i) => !((as.headD 0).testBit i||xR (q0 p.op) (q0 c.op))).map (·.2))::xS (pre++[c]) cs as.tail
def pv (P:Program)(n kb:Nat)(own:List Nat):Code->Option dY
 |.skip=>some .skip
 |.region _ ops draw=>match ops.toList.mapM (zs P n kb own ops) with
  |some l=>if draw=true then (if Dl ops l=true then some (.m1 l (xS [] l (pt ops.toList []))) else none) else some (.ops l)
  |none=>none
 |.seq a b=>match pv P n kb own a,pv P n kb own b with
  |some x,some y=>some (.seq x y)
  |_,_=>none
 |.cond c a b=>match dB c,pv P n kb own a,pv P n kb own b with
  |some c,some x,some y=>some (.cond c x y)
  |_,_,_=>none
 |.block id c=>(pv P n kb own c).map (.block id)
 |.loop c=>(pv P n kb own c).map .loop
 |.exit id=>some (.exit id)
 |.ret=>some .ret
 |_=>none
def Dm (P:Program):ResultVar->Option nz
 |.tmp t=>some (.t t)
 |.cell a t=>match fT P t,xP P t with
  |some s,some g=>some (.cell a s g)
  |_,_=>none
def rY (P:Program)(kb:Nat)(own:List Nat)(f:Func):Option b5 :=
 match f.body with
 |none=>none
 |some c=>match pv P f.ntmps kb own c,f.results.toList.mapM (Dm P) with
  |some b,some r=>some { n:=f.ntmps,ai0:=f.params.size+f.nfree,res:=r,body:=b }
  |_,_=>none
structure ez (A:Nat->Prop) (w:World) (B:eH) (aL:World) (bo:eH) (mem':Mem):Prop where
 ed:fj A aL bo mem'
 ml:Trans A w B aL bo
 ax:Fr (qV B) w aL
 fresh:∀b,qV bo b->qV B b\/w.heap.size<=b
theorem ez.still {A:Nat->Prop}{w aL:World}{B:eH}{mem:Mem}(h:fj A w B mem)(f:Fr (λ_=>False) w aL):ez A w B aL B mem:=by
 have ml:Trans A w B aL B:=⟨f.size,λb ad bu=>⟨f.block b ad id,λO=>bu (.inl O)⟩,λ_ e he=>⟨e,he,.inl rfl⟩⟩;refine⟨⟨h.zk,h.inj,h.sep,λb ad=>A8 (h.lt b ad) f.size,λk g cs hm=>?_⟩,ml,⟨f.os,f.tape,f.output,f.size,λb ad _=>f.block b ad id⟩,λb ad => .inl ad⟩;obtain⟨e,he,aU,aG,ad⟩:=h.di k g cs hm;refine⟨e,he,aU,aG,λb jH=>?_⟩;obtain⟨vs,T,E,H,ab,aM⟩:=ad b jH;have ao:b<w.heap.size:=(Array.getElem?_eq_some_iff.1 E).1;exact⟨vs,T,(f.block b ao id).trans E,H,ab,λi m hm=>let ⟨v,aI,Y⟩:=aM i m hm;⟨v,aI,Y.qU ml⟩⟩
theorem ez.refl {A:Nat->Prop}{w:World}{B:eH}{mem:Mem}(h:fj A w B mem):ez A w B w B mem:=.still h (Fr.refl _ _)
def gJ (B:eH)(k:Key)(e:lh):eH:=λj=>if j=k then some e else B j
theorem gW (B:eH)(k:Key)(e:lh):gJ B k e k=some e:=by simp[gJ]
theorem gP (B:eH){k j:Key}(e:lh)(h:j≠k):gJ B k e j=B j:=by simp[gJ,h]
section
variable {A:Nat->Prop} {w aL:World} {B:eH} {mem:Mem} {k:Key} {e':lh} {cs:List M}
theorem Trans.change (eP:w.heap.size<=aL.heap.size)
  (hold:∀b,b<w.heap.size->(∀e,B k=some e->e.di≠some b)->aL.heap[b]?=w.heap[b]?)
  (aU:∀e,B k=some e->e'=e\/e.g<e'.g)
  (eQ:∀b,e'.di=some b->w.heap.size<=b\/∃e,B k=some e/\e.di=some b):Trans A w B aL (gJ B k e'):=by
 refine⟨eP,λb ad bu=>⟨hold b ad λe he O=>bu (.inl ⟨k,e,he,O⟩),?_⟩,λj e he=>?_⟩
 ·rintro⟨j,e,he,O⟩
  by_cases ag:j=k
  ·subst ag;rw[gW] at he
   cases he;rcases eQ b O with E|⟨e,E,H⟩
   ·omega
   ·exact bu (.inl ⟨_,e,E,H⟩)
  ·rw[gP B e' ag] at he;exact bu (.inl ⟨j,e,he,O⟩)
 ·by_cases ag:j=k
  ·subst ag;exact⟨e',gW _ _ _,aU e he⟩
  ·exact⟨e,(gP B e' ag).trans he,.inl rfl⟩
theorem PF (eQ:∀b,e'.di=some b->w.heap.size<=b\/∃e,B k=some e/\e.di=some b)(b:Nat)(h:qV (gJ B k e') b):qV B b\/w.heap.size<=b:=by
 obtain⟨j,e,he,O⟩:=h
 by_cases ag:j=k
 ·subst ag;rw[gW] at he
  cases he;rcases eQ b O with E|⟨e,E,H⟩
  ·exact .inr E
  ·exact .inl ⟨_,e,E,H⟩
 ·rw[gP B e' ag] at he;exact .inl ⟨j,e,he,O⟩
theorem fj.Yl (h:fj A w B mem)(eP:w.heap.size<=aL.heap.size)
  (hold:∀b,b<w.heap.size->(∀e,B k=some e->e.di≠some b)->aL.heap[b]?=w.heap[b]?)
  (aU:∀e,B k=some e->e'=e\/e.g<e'.g)
  (eQ:∀b,e'.di=some b->w.heap.size<=b\/∃e,B k=some e/\e.di=some b)
  (aG:e'.di=none->cs=[])
  (G:∀b,e'.di=some b->∃vs T,aL.heap[b]?=some (.cells vs T (0,0))/\vs.size=e'.size/\D cs<=vs.size /\
   ∀(i:Nat) (m:M),cs[i]?=some m->∃v,vs[i]?=some v/\bm aL (cb A (gJ B k e')) (gJ B k e') m v):fj A aL (gJ B k e') (a3 mem k e'.g cs):=by
 have ml:Trans A w B aL (gJ B k e'):=Trans.change eP hold aU eQ;have fresh:=PF (w:=w) eQ;refine⟨λj ag=>?_,λj mm e ay b he e0 ad eh=>?_,λb aZ bu=>?_,λb ad=>A8 (h.lt b ad) eP,λj g nA hm=>?_⟩
 ·by_cases eR:j=k
  ·subst eR;simp[a3] at ag
  ·simp only[a3,eR,if_false] at ag;rw[gP B e' eR];exact h.zk j ag
 ·by_cases eR:j=k<;>by_cases hjk':mm=k
  ·rw[eR,hjk']
  ·subst eR;rw[gW] at he
   cases he;rw[gP B e' hjk'] at e0;rcases eQ b ad with E|⟨e,E,H⟩
   ·have:=h.zl ⟨mm,ay,e0,eh⟩;omega
   ·exact h.inj _ _ e ay b E e0 H eh
  ·subst hjk';rw[gW] at e0
   cases e0;rw[gP B e' eR] at he;rcases eQ b eh with E|⟨cV,E,H⟩
   ·have:=h.zl ⟨j,e,he,ad⟩;omega
   ·exact h.inj _ _ e cV b he E ad H
  ·rw[gP B e' eR] at he;rw[gP B e' hjk'] at e0;exact h.inj j mm e ay b he e0 ad eh
 ·rcases fresh b bu with E|E
  ·exact h.sep b aZ E
  ·have:=h.lt b aZ;omega
 ·by_cases eR:j=k
  ·subst eR;simp only[a3,if_true,b8,fv] at hm;obtain⟨rfl,rfl⟩:=hm;refine⟨e',gW _ _ _,rfl,aG,λb ad=>?_⟩;obtain⟨vs,T,E,H,ab,aM⟩:=G b ad;exact⟨vs,T,E,H,ab,aM⟩
  ·simp only[a3,eR,if_false] at hm;obtain⟨e,he,PG,ai1,lp⟩:=h.di j g nA hm;refine⟨e,(gP B e' eR).trans he,PG,ai1,λb ad=>?_⟩;obtain⟨vs,T,E,H,ab,aM⟩:=lp b ad;have ao:b<w.heap.size:=(Array.getElem?_eq_some_iff.1 E).1;have wc:aL.heap[b]?=w.heap[b]?:=hold b ao λcV ab aM=>eR (h.inj j k e cV b he ab ad aM);exact⟨vs,T,wc.trans E,H,ab,λi m hm=>let ⟨v,aI,Y⟩:=aM i m hm;⟨v,aI,Y.qU ml⟩⟩
theorem fj.change (h:fj A w B mem)(eP:w.heap.size<=aL.heap.size)
  (hold:∀b,b<w.heap.size->(∀e,B k=some e->e.di≠some b)->aL.heap[b]?=w.heap[b]?)
  (aU:∀e,B k=some e->e'=e\/e.g<e'.g)
  (eQ:∀b,e'.di=some b->w.heap.size<=b\/∃e,B k=some e/\e.di=some b)
  (aG:e'.di=none->cs=[])
  (G:∀b,e'.di=some b->∃vs T,aL.heap[b]?=some (.cells vs T (0,0))/\vs.size=e'.size/\D cs<=vs.size /\
   ∀(i:Nat) (m:M),cs[i]?=some m->∃v,vs[i]?=some v/\bm w (cb A B) B m v):fj A aL (gJ B k e') (a3 mem k e'.g cs) :=
 h.Yl eP hold aU eQ aG λb ad=>by
  have ml:Trans A w B aL (gJ B k e'):=Trans.change eP hold aU eQ;obtain⟨vs,T,E,H,ab,aM⟩:=G b ad;exact⟨vs,T,E,H,ab,λi m hm=>let ⟨v,aI,Y⟩:=aM i m hm;⟨v,aI,Y.qU ml⟩⟩
theorem ez.change (h:fj A w B mem)(f:Fr (λb=>∃e,B k=some e/\e.di=some b) w aL)
  (aU:∀e,B k=some e->e'=e\/e.g<e'.g)
  (eQ:∀b,e'.di=some b->w.heap.size<=b\/∃e,B k=some e/\e.di=some b)
  (aG:e'.di=none->cs=[])
  (G:∀b,e'.di=some b->∃vs T,aL.heap[b]?=some (.cells vs T (0,0))/\vs.size=e'.size/\D cs<=vs.size /\
   ∀(i:Nat) (m:M),cs[i]?=some m->∃v,vs[i]?=some v/\bm w (cb A B) B m v):ez A w B aL (gJ B k e') (a3 mem k e'.g cs):=by
 have hold:∀b,b<w.heap.size->(∀e,B k=some e->e.di≠some b)->aL.heap[b]?=w.heap[b]? :=
  λb ad O=>f.block b ad fun⟨e,he,jH⟩=>O e he jH
 exact⟨h.change f.size hold aU eQ aG G,Trans.change f.size hold aU eQ,⟨f.os,f.tape,f.output,f.size,λb ad bu=>f.block b ad fun⟨e,he,jH⟩=>bu ⟨k,e,he,jH⟩⟩,PF eQ⟩
theorem Dn (h:fj A w B mem)(k:Key)(e:lh)(he:B k=some e):e.g<bW mem k:=by
 cases hm:mem k with
 |none=>rw[h.zk k hm] at he;cases he
 |some x =>
  obtain⟨g,cs⟩:=x;obtain⟨ay,E,H,_⟩:=h.di k g cs hm;rw[E] at he
  cases he;simp[bW,hm,H]
theorem ez.alloc (h:fj A w B mem)(w1:World)(f:Fr (λ_=>False) w w1)(aR:w1.heap.size=w.heap.size)(k:Key)(vs:Array Value)(T:TypeId)(aq:(D cs)<=vs.size)
  (G:∀(i:Nat) (m:M),cs[i]?=some m->∃v,vs[i]?=some v/\bm w (cb A B) B m v) :
  ez A w B (w1.alloc (.cells vs T)) (gJ B k ⟨bW mem k,some w.heap.size,vs.size⟩) (a3 mem k (bW mem k) cs):=by
 have f2:Fr (λ_=>False) w (w1.alloc (.cells vs T)):=f.alloc _;refine ez.change (e':=⟨bW mem k,some w.heap.size,vs.size⟩) h ⟨f2.os,f2.tape,f2.output,f2.size,λb ad _=>f2.block b ad id⟩ (λe he => .inr (Dn h k e he)) (λb ad => .inl ?_) (by simp) ?_
 ·simp at ad;omega
 ·intro b ad;simp at ad;subst ad;exact⟨vs,T,by rw[<-aR];exact heap_alloc_new w1 _,rfl,aq,G⟩
theorem ez.xT (h:fj A w B mem)(k:Key):ez A w B w (gJ B k ⟨bW mem k,none,0⟩) (a3 mem k (bW mem k) []) :=
 ez.change (e':=⟨bW mem k,none,0⟩) h ⟨rfl,rfl,rfl,bM _,λ_ _ _=>rfl⟩ (λe he => .inr (Dn h k e he)) (λb ad=>by simp at ad) (λ_=>rfl) (λb ad=>by simp at ad)
end
theorem ez.trans {A:Nat->Prop}{w w1 mZ:World}{B A6 A7:eH}{dD bY:Mem}(h:ez A w B w1 A6 dD)(b2:ez A w1 A6 mZ A7 bY):ez A w B mZ A7 bY:=by
 refine⟨b2.ed,h.ml.trans b2.ml,⟨b2.ax.os.trans h.ax.os,b2.ax.tape.trans h.ax.tape,b2.ax.output.trans h.ax.output,ey h.ax.size b2.ax.size,λb ad bu=>?_⟩,λb ad=>?_⟩
 ·have E:=h.ax.block b ad bu;refine (b2.ax.block b (A8 ad h.ax.size) λO=>?_).trans E;rcases h.fresh b O with H|H
  ·exact bu H
  ·omega
 ·rcases b2.fresh b ad with E|E
  ·exact h.fresh b E
  ·exact .inr (ey h.ax.size E)
theorem PH {w:World}{aP:Nat->Prop}{B:eH}{v:Value}{m:M}(h:Hh v=some m):bm w aP B m v:=by
 unfold Hh at h
 split at h<;>simp only[b8,reduceCtorEq] at h<;>subst h
 ·exact .I .int
 ·exact .I .bool
 ·rename_i s
  exact .I (by
   have:s=⟨s.data.toList.toArray⟩:=by simp
   rw[this]
   simpa using Den.str (s:=s.data.toList))
 ·exact .nil
 ·exact .I .ti
 ·exact .I .tj
theorem nB {α β:Type}{f:α->Option β}:∀{l:List α} {r:List β},l.mapM f=some r->(D r)=D l/\∀(i:Nat) (x:α) (y:β),l[i]?=some x->r[i]?=some y->f x=some y
 | [],r,h=>by
  simp at h;subst h;exact⟨rfl,λi x y E=>by simp at E⟩
 |a::l,r,h=>by
  simp only[mn,gX,g5,ej,b8] at h;obtain⟨b,ad,Hk,Y,rfl⟩:=h;obtain⟨E,H⟩:=nB Y;refine⟨by simp[E],λi x y O ak=>?_⟩
  cases i with
  |zero=>simp at O ak;subst O;subst ak;exact ad
  |succ i=>exact H i x y (by simpa using O) (by simpa using ak)
theorem ai2 {w:World}{aP:Nat->Prop}{B:eH}{v:Value}{m:M}(h:PD v=some m):bm w aP B m v:=by
 unfold PD at h
 split at h
 ·rename_i cs;simp only[dV] at h;obtain⟨ms,aS,rfl⟩:=h;obtain⟨E,H⟩:=nB aS;have:=bm.agg (w:=w) (aP:=aP) (B:=B) (cs:=ms) (vs:=cs.toList) (by simp[E]) λi d v X aI=>PH (H i v d aI X)
  simpa using this
 ·exact PH h
section
variable {P:Program} {w:World} {aP:Nat->Prop} {B:eH}
theorem bm.we {k:IntKind}{n:Int}{v:Value}(h:bm w aP B (.I (.int k n)) v):v=.int k n:=by
 cases h with
 |I h=>cases h;rfl
theorem bm.Bd {b:Bool}{v:Value}(h:bm w aP B (.I (.bool b)) v):v=.bool b:=by
 cases h with
 |I h=>cases h;rfl
theorem bm.Be {s:List UInt8}{v:Value}(h:bm w aP B (.I (.str s)) v):v=.string ⟨s.toArray⟩:=by
 cases h with
 |I h=>cases h;rfl
theorem bm.ofInt {k:IntKind}{n:Int}:bm w aP B (.I (.int k n)) (.int k n):=.I .int
theorem ai3 {op:BinOp}{k:IntKind}{a b:Int}{d:Data}(t:TypeId)(Q:C9 op=false)(h:KP op k a b=some d):
  ∃v,(binOp op t (.int k a) (.int k b)).run P w=.ok v w/\Den w aP d v:=by
 cases op<;>simp only[KP,b8,reduceCtorEq] at h<;>simp only[C9,Bool.true_eq_false] at Q
 case quo =>
  split at h
  ·cases h
  ·rename_i ad
   cases h;exact⟨_,by simp[go_sem,Op.intDiv,ad],.int⟩
 case rem =>
  split at h
  ·cases h
  ·rename_i ad
   cases h;exact⟨_,by simp[go_sem,Op.intDiv,ad],.int⟩
 all_goals
  subst h
  first
   |exact⟨_,by simp[go_sem,Op.intArith],.int⟩
   |exact⟨_,by simp[go_sem],.int⟩
   |exact⟨_,by simp[go_sem],.bool⟩
theorem ai4 {op:BinOp}{k k':IntKind}{a b:Int}{d:Data}(t:TypeId)(Q:C9 op=true)(h:KQ op k a b=some d):
  ∃v,(binOp op t (.int k a) (.int k' b)).run P w=.ok v w/\Den w aP d v:=by
 unfold KQ at h
 split at h
 ·cases h
 ·rename_i ad
  cases op<;>simp only[C9,jU] at Q
  ·simp only[b8] at h;subst h;exact⟨.int k _,by simp[binOp,Op.shift,ad],.int⟩
  ·simp only[b8] at h;subst h;exact⟨.int k _,by simp[binOp,Op.shift,ad],.int⟩
theorem KV {op:BinOp}{t:TypeId}{x y:Operand}{u v:Value}(E:u ≠ .nilIface)(H:∀c,u ≠ .agg c):eqGuard op t x y u v=pure ():=by
 unfold eqGuard
 cases op<;>cases u<;>first|rfl|exact absurd rfl E|exact absurd rfl (H _)
theorem ai5 {op:BinOp}{a b:List UInt8}{d:Data}(t:TypeId)(h:KR op a b=some d):
  ∃v,(binOp op t (.string ⟨a.toArray⟩) (.string ⟨b.toArray⟩)).run P w=.ok v w/\Den w aP d v:=by
 have ai6:binOp op t (.string ⟨a.toArray⟩) (.string ⟨b.toArray⟩)=Op.stringOp op ⟨a.toArray⟩ ⟨b.toArray⟩:=by
  cases op<;>rfl
 rw[ai6]
 cases op<;>simp only[KR,b8,reduceCtorEq] at h
 case add =>
  split at h
  ·rename_i aq
   cases h;refine⟨.string ⟨(a++b).toArray⟩,?_,.str⟩;have KW:¬ (9223372036854775807<(D a:Int)+(D b:Int)):=by unfold maxLen at aq;omega
   have aA:(ByteArray.mk a.toArray).size=D a:=by simp[ByteArray.size]
   have ay:(ByteArray.mk b.toArray).size=D b:=by simp[ByteArray.size]
   have xU:(ByteArray.mk a.toArray)++(ByteArray.mk b.toArray)=⟨(a++b).toArray⟩:=by
    apply ByteArray.ext;simp
   simp[Op.stringOp,aA,ay,KW,xU]
  ·cases h
 all_goals
  subst h;exact⟨_,by simp[Op.stringOp],.bool⟩
theorem Ym {op:BinOp}{m n r:M}{u v:Value}(t:TypeId)(x y:Operand)(hm:bm w aP B m u)(aG:bm w aP B n v)(h:GP op m n=some r):
  ∃z,((do eqGuard op t x y u v;binOp op t u v:Sem Value)).run P w=.ok z w/\bm w aP B r z:=by
 unfold GP at h
 split at h
 ·rename_i k a k' b
  cases hm.we
  cases aG.we
  rw[KV (by simp) (by simp)]
  split at h
  ·rename_i Q;simp only[dV] at h;obtain⟨d,X,rfl⟩:=h;obtain⟨z,E,H⟩:=ai4 (P:=P) (w:=w) (aP:=aP) (k':=k') t Q X;exact⟨z,by simpa using E,.I H⟩
  ·rename_i Q
   split at h
   ·rename_i J;subst J;simp only[dV] at h;obtain⟨d,X,rfl⟩:=h;obtain⟨z,E,H⟩:=ai3 (P:=P) (w:=w) (aP:=aP) t (by simpa using Q) X;exact⟨z,by simpa using E,.I H⟩
   ·cases h
 ·rename_i a b
  cases hm.Be
  cases aG.Be;rw[KV (by simp) (by simp)];simp only[dV] at h;obtain⟨d,X,rfl⟩:=h;obtain⟨z,E,H⟩:=ai5 (P:=P) (w:=w) (aP:=aP) t X;exact⟨z,by simpa using E,.I H⟩
 ·cases h
theorem Yn {neg:Bool}{m n r:M}{u v:Value}(t:TypeId)(x y:Operand)(bI:P.underlying t=some .bool)(hm:bm w aP B m u)(aG:bm w aP B n v)(h:GQ neg m n=some r):
  ∃z,((do eqGuard (if neg then .neq else .eql) t x y u v;binOp (if neg then .neq else .eql) t u v:Sem Value)).run P w=.ok z w/\bm w aP B r z:=by
 unfold GQ at h
 split at h
 ·rename_i a b
  cases hm.Bd
  cases aG.Bd
  cases h;rw[KV (by simp) (by simp)]
  cases neg
  ·exact⟨.bool (a==b),by simp[run_eql_bool w t a b bI],by cases a<;>cases b<;>exact .I .bool⟩
  ·exact⟨.bool (!(a==b)),by simp[run_neq_bool w t a b bI],by cases a<;>cases b<;>exact .I .bool⟩
 ·cases h
theorem ai7 {t:TypeId}{k:Nat}{m n:M}{c:Bool}{u v:Value}(d:Nat)(J:Hi P t=some k)(hm:bm w aP B m u)(aG:bm w aP B n v)(h:KS k m n=some c):
  (Op.equalIn (d+1) t u v).run P w=.ok c w:=by
 unfold Hi at J;unfold KS at h
 split at h
 ·simp only[b8] at h
  cases hm.Bd
  cases aG.Bd;subst h
  split at J<;>first|(exfalso;simp at J;done)|(rename_i hu;exact run_equalIn_bool w d t _ _ hu)
 ·split at h
  ·rename_i Hl;subst Hl
   cases hm.we
   cases aG.we
   cases h
   split at J<;>first|(exfalso;simp at J;done)|(rename_i hu;exact run_equalIn_int w d t _ _ _ _ hu)
  ·cases h
 ·simp only[b8] at h
  cases hm.Be
  cases aG.Be;subst h
  split at J<;>first|(exfalso;simp at J;done)|(rename_i hu;rw[run_equalIn_string w d t _ _ hu];simp)
 ·cases h
theorem ai8 {t:TypeId}{k:Nat}(h:Hi P t=some k):(isAgg t).run P w=.ok false w:=by
 unfold Hi at h
 split at h<;>simp only[b8,reduceCtorEq] at h<;>(rename_i hu;simp[isAgg,run_underlying hu])
theorem Yo {d:Nat}{xs ys:Array Value}{cs ds:List M}(O:∀(i:Nat) (m:M) (v:Value),cs[i]?=some m->xs[i]?=some v->bm w aP B m v)(zu:xs.size=D cs)
  (ak:∀(i:Nat) (m:M) (v:Value),ds[i]?=some m->ys[i]?=some v->bm w aP B m v) (zv:ys.size=D ds) :
  ∀(dj:List Field) (i:Nat) (gp:List Nat) (c:Bool),Di P i dj=some gp->zn gp (cs.drop i) (ds.drop i)=some c->(Op.eqFields (d+1) xs ys dj).run P w=.ok c w
 | [],i,gp,c,aJ,G=>by
  simp[Di] at aJ;subst aJ
  cases E:cs.drop i<;>cases H:ds.drop i<;>simp[E,H,zn] at G;subst G;simp[Op.eqFields]
 |f::r,i,gp,c,aJ,G=>by
  simp only[Di] at aJ
  split at aJ
  ·rename_i aG;obtain⟨n6,wg⟩:=aG
   split at aJ
   ·rename_i k ai9 J aja
    cases aJ
    cases E:cs.drop i with
    |nil=>simp[E,zn] at G
    |cons a x =>
     cases H:ds.drop i with
     |nil=>simp[E,H,zn] at G
     |cons b y =>
      rw[E,H] at G;simp only[zn] at G
      split at G
      ·rename_i aH c2 gq tq
       cases G
       have qi:i<D cs:=by
        rcases hK i (D cs) with h|h
        ·exact h
        ·rw[lq h] at E;cases E
       have m2:i<D ds:=by
        rcases hK i (D ds) with h|h
        ·exact h
        ·rw[lq h] at H;cases H
       rw[hL qi] at E;rw[hL m2] at H
       injection E with aZ ajb
       injection H with ad ajc
       subst aZ;subst ad;subst ajb;subst ajc
       have ex:xs[f.offset]?=some (xs[i]'(by omega)):=by rw[wg];exact Array.getElem?_eq_getElem (by omega)
       have PI:ys[f.offset]?=some (ys[i]'(by omega)):=by rw[wg];exact Array.getElem?_eq_getElem (by omega)
       have rx:=O i _ _ (bx qi) (Array.getElem?_eq_getElem (by omega:i<xs.size));have ajd:=ak i _ _ (bx m2) (Array.getElem?_eq_getElem (by omega:i<ys.size));have he:=ai7 (P:=P) d J rx ajd gq;have aw:=Yo (d:=d) O zu ak zv r (i+1) ai9 c2 aja tq;have aje:(isAgg f.type).run P w=.ok false w:=ai8 J;simp only[Op.eqFields,n6,ne_eq,not_false_eq_true,if_true,Sem.run_bind,part,aje,Result.andThen_ok,jU,if_false,ex,PI,Sem.run_pure,he]
       cases aH
       ·simp
       ·simp[aw]
      ·cases G
   ·cases aJ
  ·cases aJ
theorem Yp {m:M}{v:Value}(h:bm w aP B m v)(E:m.one=true):v.oneCell'=true:=by
 cases h with
 |I X=>cases X<;>first|rfl|simp[M.one] at E
 |nil=>rfl
 |ref he aU aI=>obtain⟨a,cap,rfl,_⟩:=aI;rfl
 |ptr he aU aI=>obtain⟨b,rfl,_⟩:=aI;rfl
 |fR aq X=>rfl
 |agg aq X=>simp[M.one] at E
 |cq aq X=>simp[M.one] at E
 |no=>simp[M.one] at E
 |undef=>simp[M.one] at E
theorem ajf {v:Value}(h:∀c,v ≠ .agg c):v.cells=#[v]:=by
 unfold Value.cells
 split
 ·rename_i cs;exact absurd rfl (h cs)
 ·rfl
theorem ajg {m:M}{v:Value}(h:bm w aP B m v)(hu:m ≠ .undef):v.cells.size=D m.cells/\∀(i:Nat) (c:M) (u:Value),m.cells[i]?=some c->v.cells[i]?=some u->bm w aP B c u:=by
 have one:(∀c,v ≠ .agg c)->m.cells=[m]->v.cells.size=D m.cells/\∀(i:Nat) (c:M) (u:Value),m.cells[i]?=some c->v.cells[i]?=some u->bm w aP B c u:=by
  intro aI hm;rw[hm,ajf aI];refine⟨rfl,λi c u G hu=>?_⟩
  cases i with
  |zero=>simp at G hu;subst G;subst hu;exact h
  |succ i=>simp at G
 cases h with
 |I X =>
  cases X with
  |agg aq X =>
   refine⟨by simp[Value.cells,M.cells];exact aq,λi c u G hu=>?_⟩
   simp only[M.cells,bd,dV] at G;obtain⟨d,oG,rfl⟩:=G;exact .I (X i d u oG (by simpa [Value.cells] using hu))
  |_=>exact one (by simp) rfl
 |nil=>exact one (by simp) rfl
 |ref he aU aI=>obtain⟨a,cap,rfl,_⟩:=aI;exact one (by simp) rfl
 |ptr he aU aI=>obtain⟨b,rfl,_⟩:=aI;exact one (by simp) rfl
 |fR aq X=>exact one (by simp) rfl
 |agg aq X =>
  refine⟨by simp[Value.cells,M.cells];exact aq,λi c u G hu=>X i c u (by simpa [M.cells] using G) (by simpa [Value.cells] using hu)⟩
 |cq aq X=>exact one (by simp) rfl
 |no=>exact one (by simp[undef]) rfl
 |undef=>exact absurd rfl hu
end
section
variable {P:Program} {w:World} {aP:Nat->Prop} {B:eH}
def c0 (w:World)(aP:Nat->Prop)(B:eH)(cs:List M)(vs:List Value):Prop :=
 (D vs)=D cs/\∀(i:Nat) (m:M) (v:Value),cs[i]?=some m->vs[i]?=some v->bm w aP B m v
theorem c0.get {cs:List M}{vs:List Value}(h:c0 w aP B cs vs){i:Nat}{m:M}(L:cs[i]?=some m):∃v,vs[i]?=some v/\bm w aP B m v:=by
 have aq:i<D cs:=(dM.1 L).1;have aI:vs[i]?=some (vs[i]'(by rw[h.1];exact aq)):=bx _;exact⟨_,aI,h.2 i m _ L aI⟩
theorem c0.nil:c0 w aP B [] []:=⟨rfl,λi m v h=>by simp at h⟩
theorem c0.cons {m:M}{v:Value}{cs:List M}{vs:List Value}(h:bm w aP B m v)(Y:c0 w aP B cs vs):c0 w aP B (m::cs) (v::vs):=by
 refine⟨by simp[Y.1],λi m' Bf E H=>?_⟩
 cases i with
 |zero=>simp at E H;subst E;subst H;exact h
 |succ i=>exact Y.2 i m' Bf (by simpa using E) (by simpa using H)
theorem c0.append {a b:List M}{x y:List Value}(h:c0 w aP B a x)(b2:c0 w aP B b y):c0 w aP B (a++b) (x++y):=by
 refine⟨by simp[h.1,b2.1],λi m v E H=>?_⟩
 rw[Dp] at E H
 split at E
 ·rename_i L;rw[Z (by rw[h.1];exact L)] at H;exact h.2 i m v E H
 ·rename_i L;rw[aa (by rw[h.1];exact L),h.1] at H;exact b2.2 _ m v E H
theorem c0.drop {a:List M}{x:List Value}(h:c0 w aP B a x)(n:Nat):c0 w aP B (a.drop n) (x.drop n) :=
 ⟨by simp[h.1],λi m v E H=>h.2 (n+i) m v (by simpa using E) (by simpa using H)⟩
theorem c0.take {a:List M}{x:List Value}(h:c0 w aP B a x)(n:Nat):c0 w aP B (a.take n) (x.take n):=by
 refine⟨by simp[h.1],λi m v E H=>?_⟩
 rw[xV] at E H
 split at E
 ·rename_i L;rw[Z L] at H;exact h.2 i m v E H
 ·cases E
theorem c0.ln {a b:List M}{x y:List Value}(h:c0 w aP B a x)(b2:c0 w aP B b y)(off:Nat):
  c0 w aP B (ln a off b) (x.take off++y++x.drop (off+D y)):=by
 unfold Mini.ln;rw[b2.1];exact ((h.take off).append b2).append (h.drop _)
theorem c0.PJ {m:M}{v:Value}(h:bm w aP B m v)(hu:m ≠ .undef):c0 w aP B m.cells v.cells.toList:=by
 obtain⟨E,H⟩:=ajg h hu;exact⟨by simpa using E,λi c u G aI=>H i c u G (by simpa using aI)⟩
theorem c0.I {ds:List Data}{vs:List Value}(aq:(D vs)=D ds)(h:∀(i:Nat) (d:Data) (v:Value),ds[i]?=some d->vs[i]?=some v->Den w aP d v):c0 w aP B (ds.map .I) vs:=by
 refine⟨by simp[aq],λi m v E H=>?_⟩
 simp only[bd,dV] at E;obtain⟨d,X,rfl⟩:=E;exact .I (h i d v X H)
theorem Dq {cs:List M}{off n:Nat}{r:List M}(h:cut cs off n=some r):off+n<=D cs/\r=(cs.drop off).take n/\D r=n:=by
 unfold cut at h
 split at h
 ·rename_i aq
  cases h;exact⟨aq,rfl,by simp;omega⟩
 ·cases h
def eM (w:World)(b off:Nat)(vs:List Value):Prop:=∀(j:Nat) (u:Value),vs[j]?=some u->w.cell? ⟨b,off+j,none⟩=some u
theorem eM.add {w:World}{b off:Nat}{vs:List Value}(h:eM w b off vs)(n:Nat):eM w b (off+n) (vs.drop n):=λj u ag=>by
 have:=h (n+j) u (by simpa using ag);rwa [<-rZ] at this
theorem eM.take {w:World}{b off:Nat}{vs:List Value}(h:eM w b off vs)(n:Nat):eM w b off (vs.take n):=λj u ag=>by
 rw[xV] at ag
 split at ag
 ·exact h j u ag
 ·cases ag
theorem eM.row {w:World}{b:Nat}{vs:Array Value}{T:TypeId}{ax:Nat×Nat}(h:w.heap[b]?=some (.cells vs T ax)):eM w b 0 vs.toList:=λj u ag=>by
 rw[oH,cell_of_row w b j vs T ax h]
 simpa using ag
theorem xW (b off n:Nat):(⟨b,off,none⟩:Addr).add n=⟨b,off+n,none⟩:=by
 unfold Addr.add
 split<;>simp_all
theorem eM.load {b off:Nat}{vs:List Value}(h:eM w b off vs):(loadCells ⟨b,off,none⟩ (D vs)).run P w=.ok vs.toArray w :=
 run_loadCells_list w _ vs λj v ag=>by rw[xW];exact h j v ag
theorem tr {t:TypeId}{n:Nat}(h:fT P t=some n):(sizeOf t).run P w=.ok n w:=by
 simp only[fT,dV] at h;obtain⟨i,L,rfl⟩:=h;simp[sizeOf,typeInfo,L]
theorem KX {t:TypeId}{g:Bool}(h:xP P t=some g):(isAgg t).run P w=.ok g w:=by
 simp only[xP,dV] at h;obtain⟨d,X,rfl⟩:=h;simp only[isAgg,Sem.run_bind,run_underlying X,Result.andThen_ok]
 cases d<;>rfl
theorem Yq {t:TypeId}{n:Nat}{dy:Bool}{b off:Nat}{ms:List M}{vs:List Value}{r:M}(Q:fT P t=some n)(aZ:xP P t=some dy)(aq:(D ms)=n)
  (bV:c0 w aP B ms vs) (bJ:eM w b off vs) (h:qd dy ms=some r):∃u,(loadVar t ⟨b,off,none⟩).run P w=.ok u w/\bm w aP B r u:=by
 unfold qd at h
 split at h
 ·rename_i xX
  cases h;subst xX;refine⟨.agg vs.toArray,?_,.agg bV.1 bV.2⟩;have:=bJ.load (P:=P);rw[bV.1,aq] at this;simp[loadVar,KX aZ,tr Q,this]
 ·rename_i xX
  split at h
  ·cases h;obtain⟨u,hu,Y⟩:=bV.get (i:=0) (m:=r) rfl;have:=bJ 0 u hu;have PK:dy=false:=by simpa using xX
   subst PK;exact⟨u,by simp[loadVar,KX aZ,this];simpa using by rw[show off=off+0 from rfl,this],Y⟩
  ·cases h
end
section
variable {P:Program} {A:Nat->Prop} {w:World} {B:eH} {mem:Mem}
theorem fj.at_ (h:fj A w B mem){k:Key}{g:Nat}{cs:List M}(J:mem k=some (g,cs)):
  ∃e,B k=some e/\e.g=g/\(e.di=none->cs=[])/\∀b,e.di=some b->∃(vs:Array Value) (T:TypeId),w.heap[b]?=some (.cells vs T (0,0))/\vs.size=e.size/\D cs<=vs.size /\
   c0 w (cb A B) B cs (vs.toList.take (D cs)):=by
 obtain⟨e,he,aU,aG,ad⟩:=h.di k g cs J;refine⟨e,he,aU,aG,λb jH=>?_⟩;obtain⟨vs,T,E,H,ab,aM⟩:=ad b jH;refine⟨vs,T,E,H,ab,by simp;omega,λi m v hm aI=>?_⟩
 obtain⟨u,hu,Y⟩:=aM i m hm;rw[xV] at aI
 split at aI
 ·rw[Array.getElem?_toList,hu] at aI
  cases aI;exact Y
 ·cases aI
theorem Yr {n:Nat}{dy:Bool}{m r:M}{v:Value}(bO:fj A w B mem)(aI:bm w (cb A B) B m v)(h:pr mem n dy m=some r):
  ∃b off ms vs,v=.pointer (some ⟨b,off,none⟩)/\D ms=n/\c0 w (cb A B) B ms vs/\eM w b off vs/\qd dy ms=some r:=by
 unfold pr at h
 split at h
 ·rename_i k g off
  split at h
  ·rename_i df cs J
   split at h
   ·rename_i aU;subst aU;simp only[ej] at h;obtain⟨ms,aS,Y⟩:=h;obtain⟨aq,rfl,aG⟩:=Dq aS;obtain⟨e,he,cf,Dr,ad⟩:=bO.at_ J
    cases aI with
    |ptr fS PG q1 =>
     rw[he] at fS
     cases fS;obtain⟨b,rfl,jH⟩:=q1;have jH:=jH cf.symm;obtain⟨vs,T,aQ,aR,hle,bV⟩:=ad b jH;refine⟨b,off,_,((vs.toList.take (D cs)).drop off).take n,rfl,aG,(bV.drop off).take n,?_,Y⟩;have:=(((eM.row aQ).take (D cs)).add off).take n
     simpa using this
   ·cases h
  ·cases h
 ·rename_i ds;simp only[ej] at h;obtain⟨ms,aS,Y⟩:=h;obtain⟨aq,rfl,aG⟩:=Dq aS
  cases aI with
  |I X =>
   cases X with
   | @ptr cs b off val ad fB G X =>
    refine⟨b,off,_,((dQ (D ds)).map val).take n,rfl,aG,?_,?_,Y⟩
    ·have:c0 w (cb A B) B (ds.map .I) ((dQ (D ds)).map val):=c0.I (by simp) λi d v E H=>by
      have L:i<D ds:=(dM.1 E).1;simp[L] at H;subst H;exact X i d E
     simpa using this.take n
    ·refine eM.take (λj u ag=>?_) n;simp only[bd,dV] at ag;obtain⟨mm,ts,rfl⟩:=ag
     have E:mm=j/\j<D ds:=by
      rcases hK j (D ds) with h|h
      ·rw[r0 h] at ts;exact⟨by simpa using ts.symm,h⟩
      ·rw[lr (by simpa using h)] at ts
       cases ts
     obtain⟨rfl,jV⟩:=E;exact G mm jV
 ·cases h
theorem ajh {t:TypeId}{n:Nat}{dy:Bool}{m r:M}{v:Value}(Q:fT P t=some n)(aZ:xP P t=some dy)(bO:fj A w B mem)(aI:bm w (cb A B) B m v)(h:pr mem n dy m=some r):
  ∃u,(Instr.loadAt t v).run P w=.ok u w/\bm w (cb A B) B r u:=by
 obtain⟨b,off,ms,vs,rfl,aq,bV,bJ,Y⟩:=Yr bO aI h;obtain⟨u,E,H⟩:=Yq (P:=P) Q aZ aq bV bJ Y;exact⟨u,by simpa [Instr.loadAt,Instr.sureAddr] using E,H⟩
end
section
variable {P:Program} {w:World} {aP:Nat->Prop} {B:eH}
theorem Ys {m:M}{cs:List M}{v:Value}(h:GU m=some cs)(aI:bm w aP B m v):∃vs:List Value,v=.agg vs.toArray/\c0 w aP B cs vs:=by
 unfold GU at h
 split at h
 ·cases h
  cases aI with
  |agg aq X=>exact⟨_,rfl,aq,X⟩
 ·cases h
  cases aI with
  |I X =>
   cases X with
   |agg aq X=>exact⟨_,rfl,c0.I aq X⟩
 ·cases h
theorem Yt {neg:Bool}{gp:List Nat}{m n r:M}{u v:Value}(t:TypeId)(x y:Operand)(dj:Array Field)(hu:P.underlying t=some (.struct dj))(Q:P.stoodInHeld t=false)
  (aU:P.eqGuardType P.depth t=false) (J:Di P 0 dj.toList=some gp) (hm:bm w aP B m u) (aG:bm w aP B n v) (h:GV neg gp m n=some r) :
  ∃z,((do eqGuard (if neg then .neq else .eql) t x y u v;binOp (if neg then .neq else .eql) t u v:Sem Value)).run P w=.ok z w/\bm w aP B r z:=by
 unfold GV at h
 split at h
 ·rename_i cs ds jW g6
  split at h
  ·rename_i c G
   cases h;obtain⟨xs,rfl,O⟩:=Ys jW hm;obtain⟨ys,rfl,ak⟩:=Ys g6 aG;have tt:P.fieldsOf t=dj:=by simp[Program.fieldsOf,hu]
   have he:=run_equalIn_struct (P:=P) w 9999 t xs.toArray ys.toArray (by rw[tt];exact hu) Q;rw[tt] at he
   have aJ:=Yo (P:=P) (w:=w) (aP:=aP) (B:=B) (d:=9998) (xs:=xs.toArray) (ys:=ys.toArray) (cs:=cs) (ds:=ds)
    (λi m v E H=>O.2 i m v E (by simpa using H)) (by simpa using O.1) (λi m v E H=>ak.2 i m v E (by simpa using H)) (by simpa using ak.1) dj.toList 0 gp c J (by simpa using G)
   have heq:(Op.equal t (.agg xs.toArray) (.agg ys.toArray)).run P w=.ok c w:=by
    show (Op.equalIn (9999+1) t _ _).run P w=_;rw[he];exact aJ
   have xY:∀op,(op=BinOp.eql\/op=.neq)->(eqGuard op t x y (.agg xs.toArray) (.agg ys.toArray)).run P w=.ok () w:=by
    intro op m3;rcases m3 with rfl|rfl<;>simp[eqGuard,aU]
   refine⟨.bool (neg != c),?_,.I .bool⟩
   cases neg
   ·simp only[jU,if_false,Sem.run_bind,xY _ (.inl rfl),Result.andThen_ok];show (do pure (Value.bool (<-Op.equal t (.agg xs.toArray) (.agg ys.toArray))):Sem Value).run P w=_
    simp[heq]
   ·simp only[if_true,Sem.run_bind,xY _ (.inr rfl),Result.andThen_ok];show (do pure (Value.bool (!(<-Op.equal t (.agg xs.toArray) (.agg ys.toArray)))):Sem Value).run P w=_
    simp[heq]
  ·cases h
 ·cases h
theorem aji {c a b r:M}{Yu tu q2:Value}(G:bm w aP B c Yu)(aZ:bm w aP B a tu)(ad:bm w aP B b q2)(h:Da c a b=some r):
  ∃z,(do pure (if <-asBool Yu then tu else q2):Sem Value).run P w=.ok z w/\bm w aP B r z:=by
 unfold Da at h
 split at h
 ·rename_i t
  cases G.Bd
  cases t
  ·cases h;exact⟨q2,by simp[asBool],ad⟩
  ·cases h;exact⟨tu,by simp[asBool],aZ⟩
 ·cases h
theorem ajj {op:UnOp}{m r:M}{v:Value}(hm:bm w aP B m v)(h:GR op m=some r):∃z,(Op.unary op v).run P w=.ok z w/\bm w aP B r z:=by
 unfold GR at h
 split at h
 ·cases h;cases hm.we;exact⟨_,by simp[Op.unary,Op.intArith],.I .int⟩
 ·cases h;cases hm.we;exact⟨_,by simp[Op.unary,go_sem],.I .int⟩
 ·cases h;cases hm.Bd;exact⟨_,by simp[Op.unary],.I .bool⟩
 ·cases h
theorem ajk {k:IntKind}{m r:M}{v:Value}(s t:TypeId)(gp:IntKind)(Q:P.underlying s=some (.int gp))(bI:P.underlying t=some (.int k))(hm:bm w aP B m v)(h:GW k m=some r):
  ∃z,(convert s t v).run P w=.ok z w/\bm w aP B r z:=by
 unfold GW at h
 split at h
 ·cases h
  cases hm.we
  have L:P.intKind t=k:=by simp[Program.intKind,bI]
  have:=run_convert_int (P:=P) w s t;exact⟨.int k _,by simp[convert,run_underlying Q,run_underlying bI,Conv.intToInt],.I .int⟩
 ·cases h
theorem ajl {off:Nat}{m r:M}{v:Value}(t:TypeId)(f:Nat)(dj:Array Field)(fd:Field)(s:Nat)(hu:P.underlying t=some (.struct dj))(aJ:dj[f]?=some fd)(Q:fT P fd.type=some s)(ai:0<s)
  (bu:fd.offset=off) (hm:bm w aP B m v) (h:GY off m=some r):∃z,(Instr.fieldAt t v f).run P w=.ok z w/\bm w aP B r z:=by
 have bP:¬ s=0:=by omega
 have run:∀b o,(Instr.fieldAt t (.pointer (some ⟨b,o,none⟩)) f).run P w=.ok (.pointer (some ⟨b,o+off,none⟩)) w:=by
  intro b o;simp[Instr.fieldAt,run_underlying hu,aJ,Instr.sureAddr,fieldPlace,tr Q,bP,xW,bu]
 unfold GY at h
 split at h
 ·cases h;rename_i k g o
  cases hm with
  |ptr he aU aI =>
   obtain⟨b,rfl,ad⟩:=aI;exact⟨_,run b o,.ptr he aU ⟨b,rfl,ad⟩⟩
 ·rename_i ds
  split at h
  ·rename_i aq
   cases h
   cases hm with
   |I X =>
    cases X with
    | @ptr cs b o val ad fB G X =>
     refine⟨_,run b o,.I (.ptr (λi=>val (off+i)) ad fB (λi L=>?_) λi d jX=>X _ d (by simpa using jX))⟩;have:=G (off+i) (by simp at L;omega);rwa [<-rZ] at this
  ·cases h
 ·cases h
theorem ajm {t:TypeId}{n off:Nat}{dy:Bool}{cs ms:List M}{vs:List Value}{r:M}(Q:fT P t=some n)(aZ:xP P t=some dy)(bV:c0 w aP B cs vs)(G:cut cs off n=some ms)(h:qd dy ms=some r):
  ∃u,(part t vs.toArray off).run P w=.ok u w/\bm w aP B r u:=by
 obtain⟨aq,rfl,aG⟩:=Dq G;have br:=(bV.drop off).take n;unfold qd at h
 split at h
 ·rename_i xX
  cases h;subst xX;refine⟨.agg ((vs.drop off).take n).toArray,?_,.agg br.1 br.2⟩
  have e:vs.toArray.extract off (off+n)=((vs.drop off).take n).toArray:=by
   simp[List.extract_eq_take_drop]
  simp[part,KX aZ,tr Q,e]
 ·rename_i xX;have PK:dy=false:=by simpa using xX
  subst PK
  split at h
  ·rename_i m aS
   cases h
   have L:cs[off]?=some r:=by
    have:=congrArg (λl=>l[0]?) aS;simp[xV] at this;exact this.2
   obtain⟨u,hu,ajn⟩:=bV.get L;exact⟨u,by simp[part,KX aZ,hu],ajn⟩
  ·cases h
theorem ajo {off n:Nat}{dy:Bool}{m r:M}{v:Value}(t:TypeId)(f:Nat)(dj:Array Field)(fd:Field)(hu:P.underlying t=some (.struct dj))(aJ:dj[f]?=some fd)(Q:fT P fd.type=some n)
  (aZ:xP P fd.type=some dy) (bu:fd.offset=off) (hm:bm w aP B m v) (h:GZ off n dy m=some r):∃z,(Instr.field t v f).run P w=.ok z w/\bm w aP B r z:=by
 subst bu
 have go:∀(cs:List M) (vs:List Value),c0 w aP B cs vs->(cut cs fd.offset n).bind (qd dy)=some r->∃z,(Instr.field t (.agg vs.toArray) f).run P w=.ok z w/\bm w aP B r z:=by
  intro cs vs bV aQ;simp only[ej] at aQ;obtain⟨ms,E,H⟩:=aQ;obtain⟨u,ab,aM⟩:=ajm (P:=P) Q aZ bV E H;exact⟨u,by simp[Instr.field,run_underlying hu,aJ,asAgg,ab],aM⟩
 unfold GZ at h
 split at h
 ·cases hm with
  |agg aq X=>exact go _ _ ⟨aq,X⟩ h
 ·cases hm with
  |I X =>
   cases X with
   |agg aq X=>exact go _ _ (c0.I aq X) h
 ·cases h
theorem Ds {m:M}{n:Nat}{v:Value}(h:idx m=some n)(aI:bm w aP B m v):∃k,v=.int k (n:Int):=by
 unfold idx at h
 split at h
 ·rename_i k i
  split at h
  ·rename_i ai
   cases h
   cases aI.we
   exact⟨k,by rw[Int.toNat_of_nonneg ai]⟩
  ·cases h
 ·cases h
theorem C8.at_ {e:lh}{g sz off len:Nat}{v:Value}(h:C8 e g sz off len v)(ai:0<len):∃b cap,v=.slice (some ⟨b,off,none⟩) len cap/\len<=cap/\cap<=maxLen/\(g=e.g->e.di=some b/\off+cap*sz<=e.size):=by
 obtain⟨a,cap,rfl,H,ab,aM⟩:=h;rcases aM with aM|⟨b,rfl,bj⟩
 ·omega
 ·exact⟨b,cap,rfl,H,ab,bj⟩
theorem ajp {es:List (List Data)}{sz:Nat}(eP:∀e∈es,D e=sz):∀(n i:Nat) (e:List Data),es[n]?=some e->i<sz->es.flatten[n*sz+i]?=e[i]?:=by
 induction es with
 |nil=>intro n i e h;simp at h
 |cons a r aw =>
  intro n i e h L;have aZ:=eP a (by simp)
  cases n with
  |zero =>
   simp at h;subst h;rw[ko,q3 (by omega)];simp
  |succ n =>
   rw[ko,q4 (by rw[aZ,r1];omega)];have:=aw (λx O=>eP x (by simp[O])) n i e (by simpa using h) L;rw[<-this,aZ]
   congr 1
   rw[r1];omega
theorem ajq {sz n:Nat}{m r:M}{v:Value}{k:IntKind}(t e:TypeId)(hu:P.underlying t=some (.slice e))(Q:fT P e=some sz)(hm:bm w aP B m v)(h:xO sz n m=some r):
  ∃z,(Instr.indexAt t v (.int k (n:Int))).run P w=.ok z w/\bm w aP B r z:=by
 have run:∀b off len cap,n<len->(Instr.indexAt t (.slice (some ⟨b,off,none⟩) len cap) (.int k (n:Int))).run P w=.ok (.pointer (some ⟨b,off+n*sz,none⟩)) w:=by
  intro b off len cap ao;simp[Instr.indexAt,run_underlying hu,asIntOf,ao,tr Q,xW]
 unfold xO at h
 split at h
 ·split at h
  ·rename_i aq;obtain⟨ao,rfl⟩:=aq
   cases h
   cases hm with
   |ref he aU aI =>
    obtain⟨b,cap,rfl,E,H,ab⟩:=aI.at_ (by omega);exact⟨_,run _ _ _ _ ao,.ptr he aU ⟨b,rfl,λh=>(ab h).1⟩⟩
  ·cases h
 ·rename_i es
  split at h
  ·rename_i el jY
   split at h
   ·rename_i hle
    cases h
    cases hm with
    |I X =>
     have ao:n<D es:=(dM.1 jY).1
     cases X with
     |kI=>simp at ao
     | @ae es b off c dU val aq Yv ad fB eP G X =>
      have Hm:dU=sz:=by rw[<-hle];exact (eP _ (List.mem_of_getElem? jY)).symm
      subst Hm
      have hmul:n*dU+dU<=D es*dU:=by
       have:(n+1)*dU<=D es*dU:=q5 _ ao;rwa [pk,GM] at this
      refine⟨_,run _ _ _ _ ao,.I (.ptr (λi=>val (n*dU+i)) ad fB (λi L=>?_) λi d jX=>?_)⟩
      ·have:=G (n*dU+i) (by omega);rwa [<-rZ] at this
      ·refine X _ d ?_;rw[ajp eP n i el jY (by have:=(dM.1 jX).1;omega)];exact jX
   ·cases h
  ·cases h
 ·cases h
theorem ajr {len sz n:Nat}{m r:M}{v:Value}{k:IntKind}(t e:TypeId)(hu:P.underlying t=some (.array len e))(Q:fT P e=some sz)(hm:bm w aP B m v)(h:G0 len sz n m=some r):
  ∃z,(Instr.indexAt t v (.int k (n:Int))).run P w=.ok z w/\bm w aP B r z:=by
 have run:∀b off,n<len->(Instr.indexAt t (.pointer (some ⟨b,off,none⟩)) (.int k (n:Int))).run P w=.ok (.pointer (some ⟨b,off+n*sz,none⟩)) w:=by
  intro b off ao;simp[Instr.indexAt,run_underlying hu,asIntOf,Instr.sureAddr,ao,tr Q,xW]
 unfold G0 at h
 split at h
 ·split at h
  ·rename_i ao
   cases h
   cases hm with
   |ptr he aU aI =>
    obtain⟨b,rfl,ad⟩:=aI;exact⟨_,run _ _ ao,.ptr he aU ⟨b,rfl,ad⟩⟩
  ·cases h
 ·rename_i ds
  split at h
  ·rename_i aq;obtain⟨ao,hle⟩:=aq
   cases h
   cases hm with
   |I X =>
    cases X with
    | @ptr cs b o val ad fB G X =>
     refine⟨_,run _ _ ao,.I (.ptr (λi=>val (n*sz+i)) ad fB (λi L=>?_) λi d jX=>X _ d (by simpa using jX))⟩;have:=G (n*sz+i) (by simp at L;omega);rwa [<-rZ] at this
  ·cases h
 ·cases h
theorem ajs {n:Nat}{m r:M}{v:Value}{k:IntKind}(t:TypeId)(hu:P.underlying t=some .string)(hm:bm w aP B m v)(h:G6 n m=some r):
  ∃z,(Instr.index t v (.int k (n:Int))).run P w=.ok z w/\bm w aP B r z:=by
 unfold G6 at h
 split at h
 ·rename_i s;simp only[dV] at h;obtain⟨b,ad,rfl⟩:=h
  cases hm.Be;have ao:n<D s:=(dM.1 ad).1
  have e:(ByteArray.mk s.toArray)[n]?=some b:=by
   rw[ByteArray.getElem?_lt' _ _ (by simpa [ByteArray.size] using ao)];have:=(dM.1 ad).2;simp only[b8];rw[<-this]
   rfl
  exact⟨.int .u8 b.toNat,by simp[Instr.index,run_underlying hu,asIntOf,e],.I .int⟩
 ·cases h
theorem ajt {i:Nat}{m r:M}{v:Value}(hm:bm w aP B m v)(h:Ha i m=some r):∃z,(Instr.extract v i).run P w=.ok z w/\bm w aP B r z:=by
 unfold Ha at h
 split at h
 ·cases hm with
  |cq aq X =>
   obtain⟨u,hu,Y⟩:=c0.get ⟨aq,X⟩ h;exact⟨u,by simp[Instr.extract,hu],Y⟩
 ·simp only[dV] at h;obtain⟨d,oG,rfl⟩:=h
  cases hm with
  |I X =>
   cases X with
   |cq aq X =>
    obtain⟨u,hu,Y⟩:=c0.get (c0.I aq X) (i:=i) (m:=.I d) (by simp[oG]);exact⟨u,by simp[Instr.extract,hu],Y⟩
 ·cases h
theorem aju {m:M}{n:Nat}{v:Value}(t ty e:TypeId)(bI:P.underlying t=some (.slice e))(hm:bm w aP B m v)(h:pq m=some n):
  (Builtin.len_ #[t] ty #[v]).run P w=.ok (.int .i64 n) w:=by
 have run:∀a c,(Builtin.len_ #[t] ty #[.slice a n c]).run P w=.ok (.int .i64 n) w:=λa c=>by
  simp[Builtin.len_,run_underlying bI,goInt]
 unfold pq at h
 split at h<;>cases h
 ·cases hm with
  |I X =>
   cases X with
   |kI=>exact run _ _
   |ae=>exact run _ _
 ·cases hm with
  |nil=>exact run _ _
 ·cases hm with
  |ref he aU aI=>obtain⟨a,cap,rfl,_⟩:=aI;exact run _ _
theorem ajv {m:M}{n:Nat}{v:Value}(t ty:TypeId)(bI:P.underlying t=some .string)(hm:bm w aP B m v)(h:xN m=some n):
  (Builtin.len_ #[t] ty #[v]).run P w=.ok (.int .i64 n) w:=by
 unfold xN at h
 split at h<;>cases h
 rename_i s
 cases hm.Be;have e:(ByteArray.mk s.toArray).size=D s:=by simp[ByteArray.size]
 simp[Builtin.len_,run_underlying bI,goInt,e]
theorem Yw {jq:Bool}{m n r:M}{u v:Value}(r2:Array TypeId)(t:TypeId)(hm:bm w aP B m u)(aG:bm w aP B n v)(h:Hb jq m n=some r):
  ∃z,(if jq=true then Builtin.max_ r2 t #[u,v] else Builtin.min_ r2 t #[u,v]).run P w=.ok z w/\bm w aP B r z:=by
 unfold Hb at h
 split at h
 ·split at h
  ·rename_i J;subst J
   cases h
   cases hm.we
   cases aG.we
   cases jq
   ·exact⟨_,by simp[run_min_int2],.I .int⟩
   ·exact⟨_,by simp[run_max_int2],.I .int⟩
  ·cases h
 ·cases h
theorem ajw {m r:M}{v:Value}(hm:bm w aP B m v)(h:GX m=some r):(∃b off,v=.pointer (some ⟨b,off,none⟩))/\bm w aP B r v:=by
 unfold GX at h
 split at h
 ·cases h;refine⟨?_,hm⟩
  cases hm with
  |ptr he aU aI=>obtain⟨b,rfl,_⟩:=aI;exact⟨_,_,rfl⟩
 ·cases h;refine⟨?_,hm⟩
  cases hm with
  |I X=>cases X;exact⟨_,_,rfl⟩
 ·cases h
theorem Dt {x:M}{n y:Nat}{v:Value}(code:BoundsCode)(O:idx x=some n)(aI:bm w aP B x v)(aG:n<=y):(Instr.sliceBound v y code).run P w=.ok n w:=by
 obtain⟨k,rfl⟩:=Ds O aI
 simpa using run_sliceBound (P:=P) w k (n:Int) y code (by omega) (by omega)
def qj (w:World)(aP:Nat->Prop)(B:eH):Option M->Option Value->Prop
 |none,none=>True
 |some m,some v=>bm w aP B m v
 |_,_=>False
theorem PL {len cap l h:Nat}{bG L:Option M}{jZ j0:Option Value}(PM:Bool)(fg:iS 0 bG=some l)(iq:iS len L=some h)
  (lR:qj w aP B bG jZ) (kK:qj w aP B L j0) (aq:l<=h) (aQ:h<=cap):(Instr.sliceBounds PM len cap jZ j0 none).run P w=.ok (l,h,cap) w:=by
 unfold Instr.sliceBounds
 cases bG with
 |none =>
  cases jZ with
  |some v=>exact lR.elim
  |none =>
   simp[iS] at fg;subst fg
   cases L with
   |none =>
    cases j0 with
    |some v=>exact kK.elim
    |none=>simp[iS] at iq;subst iq;simp
   |some m =>
    cases j0 with
    |none=>exact kK.elim
    |some v =>
     have ay:=λcode=>Dt (P:=P) (y:=cap) code iq kK aQ
     cases PM<;>simp[ay]
 |some Bg =>
  cases jZ with
  |none=>exact lR.elim
  |some a1 =>
   have aA:=λcode=>Dt (P:=P) (y:=h) code fg lR aq
   cases L with
   |none =>
    cases j0 with
    |some v=>exact kK.elim
    |none=>simp[iS] at iq;subst iq;simp[aA]
   |some m =>
    cases j0 with
    |none=>exact kK.elim
    |some v =>
     have ay:=λcode=>Dt (P:=P) (y:=cap) code iq kK aQ
     cases PM<;>simp[aA,ay]
theorem ajx {len cap l h m:Nat}{bG:Option M}{L jq:M}{jZ:Option Value}{j0 xZ:Value}(fg:iS 0 bG=some l)(iq:idx L=some h)(hC:idx jq=some m)
  (lR:qj w aP B bG jZ) (kK:bm w aP B L j0) (Du:bm w aP B jq xZ) (aq:l<=h) (aQ:h<=m) (hm:m<=cap):(Instr.sliceBounds true len cap jZ (some j0) (some xZ)).run P w=.ok (l,h,m) w:=by
 have cw:=Dt (P:=P) (y:=cap) .slice3Acap hC Du hm;have ay:=Dt (P:=P) (y:=m) .slice3B iq kK aQ;unfold Instr.sliceBounds
 cases bG with
 |none =>
  cases jZ with
  |some v=>exact lR.elim
  |none =>
   simp[iS] at fg;subst fg;simp[cw,ay]
 |some Bg =>
  cases jZ with
  |none=>exact lR.elim
  |some a1 =>
   have aA:=Dt (P:=P) (y:=h) .slice3C fg lR aq;simp[cw,ay,aA]
theorem KY {m:M}{n:Nat}{v:Value}(hm:bm w aP B m v)(h:pq m=some n):∃a c,v=.slice a n c/\n<=c:=by
 unfold pq at h
 split at h<;>cases h
 ·cases hm with
  |I X =>
   cases X with
   |kI=>exact⟨_,_,rfl,by simp⟩
   |ae val aq=>exact⟨_,_,rfl,aq⟩
 ·cases hm with
  |nil=>exact⟨_,_,rfl,by simp⟩
 ·cases hm with
  |ref he aU aI=>obtain⟨a,cap,rfl,E,_⟩:=aI;exact⟨_,_,rfl,E⟩
theorem Yx {t e:TypeId}{sz l h il:Nat}{a:Option Addr}{len cap:Nat}{jZ j0 xZ:Option Value}(bI:P.underlying t=some (.slice e))(Q:fT P e=some sz)
  (ad:(Instr.sliceBounds true len cap jZ j0 xZ).run P w=.ok (l,h,il) w) :
  (Instr.sliceAt t (.slice a len cap) jZ j0 xZ).run P w=.ok (.slice (if il=l then a else a.map (·.add (l*sz))) (h-l) (il-l)) w:=by
 simp[Instr.sliceAt,Instr.slice,run_underlying bI,ad,tr Q]
theorem ajy {es:List (List Data)}{sz:Nat}(eP:∀e∈es,D e=sz)(l:Nat):(es.drop l).flatten=es.flatten.drop (l*sz):=by
 induction es generalizing l with
 |nil=>simp
 |cons a r aw =>
  cases l with
  |zero=>simp
  |succ l =>
   have aZ:=eP a (by simp);rw[List.drop_succ_cons,aw (λx O=>eP x (by simp[O])) l,ko,List.drop_append,aZ];have E:a.drop ((l+1)*sz)=[]:=lq (by rw[aZ,r1];omega);rw[E,List.nil_append]
   congr 1
   rw[r1];omega
theorem ajz {es:List (List Data)}{sz:Nat}(eP:∀e∈es,D e=sz)(l:Nat):(es.take l).flatten=es.flatten.take (l*sz):=by
 induction es generalizing l with
 |nil=>simp
 |cons a r aw =>
  cases l with
  |zero=>simp
  |succ l =>
   have aZ:=eP a (by simp);rw[List.take_succ_cons,ko,aw (λx O=>eP x (by simp[O])) l,ko,Yy,aZ];have E:a.take ((l+1)*sz)=a:=dE (by rw[aZ,r1];omega);rw[E]
   congr 2
   rw[r1];omega
theorem Yz {es:List (List Data)}{a:Option Addr}{len c sz l h cc:Nat}(X:Den w aP (.ae es) (.slice a len c))(aq:l<=h)(aQ:h<=D es)(eP:0<(D es)->∀e∈es,D e=sz)(G:h-l<=cc):
  l=h\/Den w aP (.ae ((es.take h).drop l)) (.slice (a.map (·.add (l*sz))) (h-l) cc):=by
 rcases KZ aq with rfl|ao
 ·exact .inl rfl
 ·refine .inr ?_
  cases X with
  |kI=>simp at aQ;omega
  | @ae es b off c dU val KW hm ad fB hsz' tv zw =>
   have hD:0<D es:=by omega
   have Hm:dU=sz:=by
    have ai:=n7 (l:=es) (n:=0) hD;rw[<-hsz' _ ai,eP hD _ ai]
   subst Hm;have hlen:((es.take h).drop l).length=h-l:=by simp;omega
   have hmul:l*dU+(h-l)*dU<=D es*dU:=by
    rw[<-pk];exact q5 _ (by omega)
   have:=Den.ae (w:=w) (aP:=aP) (es:=(es.take h).drop l) (b:=b) (off:=off+l*dU) (c:=cc) (sz:=dU) (λi=>val (l*dU+i)) (by rw[hlen];exact G) (by rw[hlen];omega) ad fB
    (λe he=>hsz' e (Dv (List.mem_of_mem_drop he)))
    (λi L=>by
     rw[hlen] at L;have:=tv (l*dU+i) (by omega);rwa [<-rZ] at this)
    (λi d jX=>by
     refine zw _ d ?_;rw[ajy (λe he=>hsz' e (Dv he)) l,ajz hsz' h] at jX;rw[uM,xV] at jX
     split at jX
     ·exact jX
     ·cases jX)
   rw[hlen] at this
   simpa [xW] using this
end
section
variable {P:Program} {w:World} {aP:Nat->Prop} {B:eH}
theorem PN {sz:Nat}{es:List (List Data)}(h:v3 sz es=true):∀e∈es,D e=sz:=λe he=>by
 simpa using oI.1 h e he
theorem ajA {t e:TypeId}{sz l h len:Nat}{m r:M}{v:Value}{jZ j0:Option Value}{bG L:Option M}(bI:P.underlying t=some (.slice e))(Q:fT P e=some sz)
  (fg:iS 0 bG=some l) (hlen:pq m=some len) (iq:iS len L=some h) (lR:qj w aP B bG jZ) (kK:qj w aP B L j0) (hm:bm w aP B m v) (Y:G7 sz l h m=some r) :
  ∃z,(Instr.sliceAt t v jZ j0 none).run P w=.ok z w/\bm w aP B r z:=by
 obtain⟨a,cap,rfl,Dw⟩:=KY hm hlen
 have run:l<=h->h<=len->(Instr.sliceAt t (.slice a len cap) jZ j0 none).run P w=.ok (.slice (if cap=l then a else a.map (·.add (l*sz))) (h-l) (cap-l)) w:=λE H =>
  Yx bI Q (PL true fg iq lR kK E (by omega))
 unfold G7 at Y
 split at Y
 ·rename_i es
  split at Y
  ·rename_i G;obtain⟨E,H,ab⟩:=G
   cases Y;simp only[pq,b8] at hlen;subst hlen;refine⟨_,run E H,.I ?_⟩
   cases hm with
   |I X =>
    rcases Yz (sz:=sz) X E H (λ_=>PN ab) (cc:=cap-l) (by omega) with rfl|aC
    ·rw[show ((es.take l).drop l)=[] from by simp]
     rw[kL];exact .kI
    ·rcases KZ E with rfl|ao
     ·rw[show ((es.take l).drop l)=[] from by simp]
      rw[kL];exact .kI
     ·rw[aa (by omega)];exact aC
  ·cases Y
 ·split at Y
  ·rename_i G;obtain⟨rfl,rfl⟩:=G
   cases Y
   cases hm with
   |nil=>exact⟨_,run (by omega) (by omega),by simpa using bm.nil⟩
  ·cases Y
 ·split at Y
  ·rename_i k g dU off YA G;obtain⟨rfl,E,H⟩:=G
   cases Y;simp only[pq,b8] at hlen;subst hlen
   cases hm with
   |ref he aU aI =>
    refine⟨_,run E H,.ref he aU ?_⟩;obtain⟨eS,ayp,wh,wi,ayq,ajB⟩:=aI
    injection wh with aA ay cV
    subst aA;subst cV
    refine⟨_,cap-l,rfl,by omega,by omega,?_⟩
    rcases iU (cap-l) with ai|ai
    ·exact .inl ai
    ·refine .inr ?_;rcases ajB with aM|⟨b,rfl,bj⟩
     ·omega
     ·refine⟨b,by rw[aa (by omega)];simp[xW],λcf=>?_⟩
      obtain⟨bH,bA⟩:=bj cf;refine⟨bH,?_⟩;rw[rZ,<-pk];rwa [show l+(cap-l)=cap from by omega]
  ·cases Y
 ·cases Y
theorem ajC {t e:TypeId}{sz l h il:Nat}{m r:M}{v:Value}{jZ:Option Value}{j0 xZ:Value}{bG:Option M}{L jq:M}(bI:P.underlying t=some (.slice e))(Q:fT P e=some sz)
  (fg:iS 0 bG=some l) (iq:idx L=some h) (hC:idx jq=some il) (lR:qj w aP B bG jZ) (kK:bm w aP B L j0) (Du:bm w aP B jq xZ) (hm:bm w aP B m v) (Y:G8 sz l h il m=some r) :
  ∃z,(Instr.sliceAt t v jZ (some j0) (some xZ)).run P w=.ok z w/\bm w aP B r z:=by
 have run:∀a len cap,l<=h->h<=il->il<=len->len<=cap->(Instr.sliceAt t (.slice a len cap) jZ (some j0) (some xZ)).run P w=.ok (.slice (if il=l then a else a.map (·.add (l*sz))) (h-l) (il-l)) w :=
  λa len cap E H ab aM=>Yx bI Q (ajx fg iq hC lR kK Du E H (by omega))
 unfold G8 at Y
 split at Y
 ·rename_i es
  split at Y
  ·rename_i G;obtain⟨E,H,ab,aM⟩:=G;obtain⟨a,cap,rfl,Dw⟩:=KY hm (n:=D es) rfl;refine⟨_,run a _ cap E H ab Dw,?_⟩
   split at Y
   ·rename_i lS
    cases Y;subst lS;have:h=il:=by omega
    subst this
    simpa using bm.nil
   ·rename_i lS
    cases Y;rw[aa lS]
    cases hm with
    |I X =>
     refine .I ?_;rcases KZ E with rfl|ao
     ·rw[show ((es.take l).drop l)=[] from by simp]
      rw[kL];exact .kI
     ·rcases Yz (sz:=sz) X E (by omega) (λ_=>PN aM) (cc:=il-l) (by omega) with ai|aC
      ·omega
      ·exact aC
  ·cases Y
 ·split at Y
  ·rename_i G;obtain⟨rfl,rfl,rfl⟩:=G
   cases Y;obtain⟨a,cap,rfl,Dw⟩:=KY hm (n:=0) rfl;exact⟨_,run a _ cap (by omega) (by omega) (by omega) Dw,by simpa using bm.nil⟩
  ·cases Y
 ·rename_i k g dU off len
  split at Y
  ·rename_i G;obtain⟨E,H,ab,rfl⟩:=G
   cases Y;obtain⟨a,cap,rfl,Dw⟩:=KY hm (n:=len) rfl;have:h=il:=by omega
   subst this;exact⟨_,run a _ cap (by omega) (by omega) (by omega) Dw,by simpa using bm.nil⟩
  ·cases Y
 ·cases Y
theorem ajD {t:TypeId}{l h len:Nat}{m r:M}{v:Value}{jZ j0:Option Value}{bG L:Option M}(bI:P.underlying t=some .string)
  (fg:iS 0 bG=some l) (hlen:xN m=some len) (iq:iS len L=some h) (lR:qj w aP B bG jZ) (kK:qj w aP B L j0) (hm:bm w aP B m v) (Y:G9 l h m=some r) :
  ∃z,(Instr.sliceAt t v jZ j0 none).run P w=.ok z w/\bm w aP B r z:=by
 unfold G9 at Y
 split at Y
 ·rename_i s
  split at Y
  ·rename_i G;obtain⟨E,H⟩:=G
   cases Y;simp only[xN,b8] at hlen;subst hlen
   cases hm.Be;have e:(ByteArray.mk s.toArray).size=D s:=by simp[ByteArray.size]
   have ad:=PL (P:=P) (w:=w) (aP:=aP) (B:=B) (cap:=D s) false fg iq lR kK E H
   have O:(ByteArray.mk s.toArray).extract l h=⟨((s.take h).drop l).toArray⟩:=by
    rw[ByteArray.extract_mk,YB]
   exact⟨.string ⟨((s.take h).drop l).toArray⟩,by simp[Instr.sliceAt,Instr.slice,run_underlying bI,e,ad,O],.I .str⟩
  ·cases Y
 ·cases Y
theorem YC (off:Nat):∀(l:List Value) (k:Nat) (cs:Array Value),off+k+D l<=cs.size ->
  (l.zipIdx k).foldl (λ(cs:Array Value) (p:Value×Nat)=>cs.setIfInBounds (off+p.2) p.1) cs=(cs.toList.take (off+k)++l++cs.toList.drop (off+k+D l)).toArray
 | [],k,cs,_=>by simp
 |a::l,k,cs,h=>by
  rw[List.zipIdx_cons,YD];have b2:off+k<cs.size:=by simp at h;omega
  rw[YC off l (k+1) (cs.setIfInBounds (off+k) a) (by simp at h ⊢;omega)];apply Array.ext';simp only[Array.toList_setIfInBounds];have:=list_seg_step cs.toList (off+k) a l (by simp at h ⊢;omega)
  simpa [rZ] using this
theorem K0 {place:Nat->Option (Nat×Nat)}{ρ:Operand->Value}{tm:Nat->M}(hρ:∀x y,dB x=some y->bm w aP B (a0 tm y) (ρ x)):
  ∀(cS:List (Nat×Operand)) (dZ:List (Nat×Nat×bF)) (cs r:List M) (vs:Array Value),partsOf place cS=some dZ->c0 w aP B cs vs.toList->jG (a0 tm) cs dZ=some r ->
   ∃nC:Array Value,Instr.fill place vs (cS.map λp=>(p.1,ρ p.2))=some nC/\c0 w aP B r nC.toList
 | [],dZ,cs,r,vs,aC,bV,h=>by
  simp[partsOf] at aC;subst aC;simp[jG] at h;subst h;exact⟨vs,rfl,bV⟩
 |(i,x)::cS,dZ,cs,r,vs,aC,bV,h=>by
  simp only[partsOf,mn,gX,g5,ej,b8] at aC;obtain⟨q,a9,ajE,zx,rfl⟩:=aC;obtain⟨⟨o,s⟩,nD,y,ak,rfl⟩:=a9;simp only[jG] at h
  split at h
  ·rename_i G;obtain⟨ai,E,H⟩:=G;have Bh:=hρ x y ak;have ajF:a0 tm y ≠ .undef:=λe=>by rw[e] at ai;simp[M.known] at ai
   ·have mo:=c0.PJ Bh ajF;have eP:(ρ x).cells.size=s:=by have:=mo.1;simp at this;omega
    have K1:o+s<=vs.size:=by have:=bV.1;simp at this;omega
    have gd:=YC o (ρ x).cells.toList 0 vs (by simp[eP];exact K1);simp only[n8,Array.length_toList] at gd;have PO:=bV.ln mo o;obtain⟨nC,aJ,K2⟩:=K0 hρ cS ajE _ r ((vs.toList.take o++(ρ x).cells.toList++vs.toList.drop (o+(ρ x).cells.size)).toArray) zx (by simpa using PO) h;refine⟨nC,?_,K2⟩;simp only[List.map_cons,Instr.fill,nD];rw[aa (by simp[eP];omega)]
    have aR:(ρ x).cells.zipIdx.foldl (λcs (p:Value×Nat)=>cs.setIfInBounds (o+p.2) p.1) vs=(vs.toList.take o++(ρ x).cells.toList++vs.toList.drop (o+(ρ x).cells.size)).toArray:=by
     rw[<-Array.foldl_toList,Array.toList_zipIdx];exact gd
    rw[<-aJ]
    congr 1
  ·cases h
end
section
variable {P:Program} {A:Nat->Prop} {w:World} {B:eH} {mem:Mem}
theorem Dx {aP:Nat->Prop}{t:TypeId}{z:List M}(h:zeroOf P t=some z):∃i jI,P.info? t=some i/\i.zero=some jI/\c0 w aP B z jI.cells.toList:=by
 simp only[zeroOf,ej] at h;obtain⟨jI,⟨i,L,aR⟩,hm⟩:=h;obtain⟨E,H⟩:=nB hm;exact⟨i,jI,L,aR,by simp[E],λj m v ajG ajH=>PH (H j v m ajH ajG)⟩
theorem K3 {t:TypeId}{i:TypeInfo}{jI:Value}(L:P.info? t=some i)(aR:i.zero=some jI):(zeroValue t).run P w=.ok jI w:=by
 simp[zeroValue,typeInfo,L,aR]
theorem YE {t:TypeId}{i:TypeInfo}{n:Nat}(L:P.info? t=some i)(Q:fT P t=some n):i.size=n:=by
 simpa [fT,L] using Q
theorem YF {t:TypeId}{i:TypeInfo}{n:Nat}(L:P.info? t=some i)(Q:Dh P t=some n):i.bytes=n:=by
 simpa [Dh,L] using Q
theorem PQ {z:Array Value}(ai:0<z.size):∀n,((Array.range (n*z.size)).map (z[·%z.size]!)).toList=(ep n z.toList).flatten
 |0=>by simp
 |n+1=>by
  have aw:=PQ ai n;apply q6;intro i
  have aA:∀m i,((Array.range (m*z.size)).map (z[·%z.size]!)).toList[i]?=if i<m*z.size then some (z[i%z.size]!) else none:=by
   intro m i;rw[Array.getElem?_toList,Array.getElem?_map]
   by_cases L:i<m*z.size
   ·rw[Z L,Array.getElem?_range];simp[L]
   ·rw[aa L,Array.getElem?_range];simp[L]
  rw[aA,List.replicate_succ',List.flatten_append,Dp,<-aw];have el:((Array.range (n*z.size)).map (z[·%z.size]!)).toList.length=n*z.size:=by simp
  rw[el];have hmul:(n+1)*z.size=n*z.size+z.size:=by rw[pk,GM]
  by_cases L:i<n*z.size
  ·rw[Z L,Z (by omega),aA,Z L]
  ·rw[aa L]
   by_cases m2:i<(n+1)*z.size
   ·rw[Z m2];have ao:i-n*z.size<z.size:=by omega
    have PR:i%z.size=i-n*z.size:=by
     have e:i=(i-n*z.size)+z.size*n:=by have:=Nat.mul_comm n z.size;omega
     have ay:((i-n*z.size)+z.size*n)%z.size=i-n*z.size:=by rw[Nat.add_mul_mod_self_left,Nat.mod_eq_of_lt ao]
     rwa [<-e] at ay
    rw[PR];simp[ao]
   ·rw[aa m2]
    symm
    rw[lr];simp;omega
theorem c0.replicate {aP:Nat->Prop}{z:List M}{YG:List Value}(h:c0 w aP B z YG):∀n,c0 w aP B (ep n z).flatten (ep n YG).flatten
 |0=>by simpa using c0.nil
 |n+1=>by
  rw[uN,ko,uN,ko];exact h.append (c0.replicate h n)
theorem c0.qU {cs:List M}{vs:List Value}{aL:World}{bo:eH}(t:Trans A w B aL bo)(h:c0 w (cb A B) B cs vs):c0 aL (cb A bo) bo cs vs :=
 ⟨h.1,λi m v E H=>(h.2 i m v E H).qU t⟩
theorem Hn {cs:List M}(bO:fj A w B mem)(w1:World)(f:Fr (λ_=>False) w w1)(aR:w1.heap.size=w.heap.size)(k:Key)(vs:Array Value)(T:TypeId)(aq:(D cs)<=vs.size)
  (bV:c0 w (cb A B) B cs (vs.toList.take (D cs))):ez A w B (w1.alloc (.cells vs T)) (gJ B k ⟨bW mem k,some w.heap.size,vs.size⟩) (a3 mem k (bW mem k) cs) :=
 ez.alloc bO w1 f aR k vs T aq λi m hm=>by
  obtain⟨v,aI,Y⟩:=bV.get hm;rw[xV] at aI
  split at aI
  ·exact⟨v,by simpa using aI,Y⟩
  ·cases aI
theorem ajI {t:TypeId}{z:List M}(k:Key)(bO:fj A w B mem)(aR:zeroOf P t=some z):
  ∃v aL bo,(Instr.alloc t true (.tuple #[])).run P w=.ok v aL/\ez A w B aL bo (a3 mem k (bW mem k) z)/\bm aL (cb A bo) bo (.ptr k (bW mem k) 0) v:=by
 obtain⟨i,jI,L,uO,bV⟩:=Dx (P:=P) (w:=w) (B:=B) (aP:=cb A B) aR;have aq:(D z)=jI.cells.size:=by have:=bV.1;simp at this;omega
 refine⟨.pointer (some ⟨w.heap.size,0,none⟩),w.alloc (.cells jI.cells t),_,?_,Hn bO w (Fr.refl _ _) rfl k jI.cells t (by omega) (by rw[dE (by simp;omega)];exact bV),?_⟩
 ·simp[Instr.alloc,K3 L uO,newVar,newRow]
 ·exact .ptr (gW _ _ _) (bM _) ⟨_,rfl,λ_=>rfl⟩
theorem ajJ {t:TypeId}{m:M}{u:Value}(k:Key)(bO:fj A w B mem)(hu:bm w (cb A B) B m u)(J:m.known=true):
  ∃v aL bo,(Instr.box t u).run P w=.ok v aL/\ez A w B aL bo (a3 mem k (bW mem k) m.cells)/\bm aL (cb A bo) bo (.ptr k (bW mem k) 0) v:=by
 have bV:=c0.PJ hu (λe=>by rw[e] at J;simp[M.known] at J);have aq:(D m.cells)=u.cells.size:=by have:=bV.1;simp at this;omega
 refine⟨.pointer (some ⟨w.heap.size,0,none⟩),w.alloc (.cells u.cells t),_,?_,Hn bO w (Fr.refl _ _) rfl k u.cells t (by omega) (by rw[dE (by simp;omega)];exact bV),?_⟩
 ·simp[Instr.box,newVar,newRow]
 ·exact .ptr (gW _ _ _) (bM _) ⟨_,rfl,λ_=>rfl⟩
theorem ajK {t e:TypeId}{z:List M}{bytes n c:Nat}{dD bY:M}{r3 jJ:Value}{r:M}{j1:Option (Key×Nat×List M)}(k:Key)(bO:fj A w B mem)(bI:P.underlying t=some (.slice e))(aR:zeroOf P e=some z)(Q:fT P e=some (D z))
  (ad:Dh P e=some bytes) (E:idx dD=some n) (H:idx bY=some c) (eT:bm w (cb A B) B dD r3) (ei:bm w (cb A B) B bY jJ) (ai:0<D z) (h:Dc k (bW mem k) z bytes n c=some (r,j1)) :
  ∃v aL bo,(Instr.makeSlice t r3 jJ).run P w=.ok v aL/\ez A w B aL bo (ib mem j1)/\bm aL (cb A bo) bo r v:=by
 unfold Dc at h
 split at h
 ·rename_i G;obtain⟨rfl,Dy,uP⟩:=G
  cases h;obtain⟨cF,rfl⟩:=Ds E eT;obtain⟨dk,rfl⟩:=Ds H ei;obtain⟨i,jI,L,uO,bV⟩:=Dx (P:=P) (w:=w) (B:=B) (aP:=cb A B) aR;have aq:(D z)=jI.cells.size:=by have:=bV.1;simp at this;omega
  have eP:=YE L Q;have Ho:=YF L ad
  have lT:=run_make (P:=P) w t e i jI bI L uO cF dk (n:Int) (n:Int) (by omega) (by omega) (by
   have:((i.bytes*n:Nat):Int)<=281474976710656:=by rw[Ho];omega
   rwa [Int.natCast_mul] at this) (by unfold maxLen at uP;omega)
  simp only[Int.toNat_natCast] at lT
  have YH:(madeCells jI.cells (n*i.size)).toList=(ep n jI.cells.toList).flatten:=by
   rw[eP,aq];exact PQ (by omega) n
  have Bi:(madeCells jI.cells (n*i.size)).size=n*D z:=by rw[size_madeCells,eP]
  have Hp:=bV.replicate (n:=n)
  have hlen:(ep n z).flatten.length=n*D z:=by
   have:=Hp.1;rw[<-this,<-YH,Array.length_toList,Bi]
  refine⟨_,_,_,lT,Hn bO w (Fr.refl _ _) rfl k _ e (by rw[Bi,hlen];exact bM _) ?_,?_⟩
  ·rw[dE (by rw[Array.length_toList,Bi,hlen];exact bM _),YH];exact Hp
  ·refine .ref (gW _ _ _) (bM _) ⟨_,n,rfl,bM _,uP,.inr ⟨_,rfl,λ_=>⟨rfl,?_⟩⟩⟩;simp only[oH];rw[Bi];exact bM _
 ·cases h
theorem YI (bO:fj A w B mem){k:Key}{g:Nat}{cs new:List M}{e:lh}{b:Nat}{vs:Array Value}{T:TypeId}{vals:List Value}{off:Nat}(J:mem k=some (g,cs))(he:B k=some e)(ad:e.di=some b)
  (aQ:w.heap[b]?=some (.cells vs T (0,0))) (eP:vs.size=e.size) (aq:(D cs)<=vs.size) (bV:c0 w (cb A B) B cs (vs.toList.take (D cs))) (cf:e.g=g) (PS:off+D new<=D cs) (kq:c0 w (cb A B) B new vals) :
  ez A w B (w.setRow b (vs.toList.take off++vals++vs.toList.drop (off+D vals)).toArray) B (a3 mem k g (ln cs off new)):=by
 have PT:(D vals)=D new:=kq.1
 have PO:c0 w (cb A B) B (ln cs off new) ((vs.toList.take off++vals++vs.toList.drop (off+D vals)).take (D cs)):=by
  have E:=bV.ln kq off
  have aA:(vs.toList.take (D cs)).take off++vals++(vs.toList.take (D cs)).drop (off+D vals)=(vs.toList.take off++vals++vs.toList.drop (off+D vals)).take (D cs):=by
   have lU:(D vs.toList)=vs.size:=Array.length_toList;rw[List.take_take,nE (by omega),YB,Yy,hj,g7,lU,nE (a:=off) (b:=vs.size) (by omega)];rw[dE (l:=vs.toList.take off++vals) (by rw[hj,g7,lU];omega)]
  rwa [aA] at E
 have K4:(ln cs off new).length=D cs:=by unfold ln;simp;omega
 have heq:gJ B k e=B:=by
  funext j
  unfold gJ
  split
  ·rename_i ag;rw[ag,he]
  ·rfl
 have f:Fr (λb=>∃e,B k=some e/\e.di=some b) w (w.setRow b (vs.toList.take off++vals++vs.toList.drop (off+D vals)).toArray):=by
  refine⟨rfl,rfl,rfl,by simp,λj ag bu=>?_⟩
  exact setRow_other w b j _ (λK5=>bu ⟨e,he,by rw[ad,K5]⟩)
 have:=ez.change (k:=k) (e':=e) (cs:=ln cs off new) bO f (λay e0 => .inl (by rw[he] at e0;exact m4 e0)) (λgQ eh => .inr ⟨e,he,eh⟩) (λaG=>by rw[ad] at aG;cases aG) (λgQ eh=>by
  rw[ad] at eh
  cases eh;refine⟨_,T,setRow_heap w b vs _ T (0,0) aQ,by simp;omega,by rw[K4];simp;omega,λi m hm=>?_⟩
  obtain⟨v,aI,Y⟩:=PO.get hm;rw[xV] at aI
  split at aI
  ·exact⟨v,by simpa using aI,Y⟩
  ·cases aI)
 rw[heq,cf] at this;exact this
theorem ajL {t:TypeId}{n:Nat}{dD bY:M}{r3 jJ:Value}{r:M}{j1:Option (Key×Nat×List M)}(bO:fj A w B mem)(Q:fT P t=some n)(eT:bm w (cb A B) B dD r3)(ei:bm w (cb A B) B bY jJ)
  (h:v5 mem n dD bY.cells=some (r,j1)):∃aL,(Instr.storeAt t r3 jJ).run P w=.ok () aL/\ez A w B aL B (ib mem j1)/\r=.no:=by
 cases dD with
 |ptr k g off =>
  simp only[v5] at h;unfold Hd at h
  split at h
  ·rename_i df cs J
   split at h
   ·rename_i G;obtain⟨rfl,E,H,ab⟩:=G
    cases h;obtain⟨e,he,cf,aG,ad⟩:=bO.at_ J
    cases eT with
    |ptr fS PG aC =>
     rw[he] at fS
     cases fS;obtain⟨b,rfl,jH⟩:=aC;have jH:=jH cf.symm;obtain⟨vs,T,aQ,eP,aq,bV⟩:=ad b jH;have g8:bY ≠ .undef:=λe=>by rw[e] at ab;simp[M.cells,M.one] at ab
     have mo:=c0.PJ ei g8
     have ajM:∀v∈jJ.cells.toList,v.oneCell'=true:=by
      intro v aI;obtain⟨i,L,iV⟩:=YJ aI;have kr:i<D bY.cells:=by rw[<-mo.1];exact L
      have:=mo.2 i _ _ (bx kr) (bx L);rw[iV] at this;exact Yp this (oI.1 ab _ (n7 kr))
     have ayr:jJ.cells.size=n:=by have:=mo.1;simp at this;omega
     have eA:=run_storeCells_at P b off T jJ.cells.toList 0 vs w aQ (by simp;omega) ajM;simp only[n8] at eA;refine⟨_,?_,YI bO J he jH aQ eP aq bV cf (by omega) mo,rfl⟩;have bP:¬ (jJ.cells.size≠n):=by omega
     simp only[Instr.storeAt,Instr.sureAddr,storeVar,Sem.run_bind,Sem.run_pure,Result.andThen_ok,tr Q];rw[aa bP];exact eA
   ·cases h
  ·cases h
 |_=>simp[v5] at h
end
section
variable {P:Program} {A:Nat->Prop} {w:World} {B:eH} {mem:Mem}
theorem K6 (sz:Nat):∀(n:Nat) (l:List Data),(chunk sz n l).length=n
 |0,_=>rfl
 |n+1,l=>by simp[chunk,K6 sz n]
theorem K7 (sz:Nat):∀(n:Nat) (l:List Data),D l=n*sz->∀e∈chunk sz n l,D e=sz
 |0,_,_,e,he=>by simp[chunk] at he
 |n+1,l,aq,e,he=>by
  have hmul:(n+1)*sz=n*sz+sz:=by rw[pk,GM]
  simp only[chunk,List.mem_cons] at he;rcases he with rfl|he
  ·simp;omega
  ·exact K7 sz n _ (by simp;omega) e he
theorem K8 (sz:Nat):∀(n:Nat) (l:List Data),D l=n*sz->(chunk sz n l).flatten=l
 |0,l,aq=>by simp at aq;simp[chunk,aq]
 |n+1,l,aq=>by
  have hmul:(n+1)*sz=n*sz+sz:=by rw[pk,GM]
  simp only[chunk,ko];rw[K8 sz n _ (by simp;omega),List.take_append_drop]
theorem YK {aP:Nat->Prop}{m:M}{d:Data}{v:Value}(h:Ba m=some d)(aI:bm w aP B m v):Den w aP d v:=by
 unfold Ba at h
 split at h<;>cases h
 ·cases aI with
  |I h=>exact h
 ·cases aI with
  |nil=>exact .kI
theorem ajN {ds:List Data}{vs:Array Value}{T:TypeId}{n sz:Nat}(bO:fj A w B mem)(aL:World)(hw:aL=w.alloc (.cells vs T))(aq:(D ds)=n*sz)(aI:vs.size=n*sz)(hm:n<=maxLen)
  (X:∀(i:Nat) (d:Data) (v:Value),ds[i]?=some d->vs[i]?=some v->Den w (cb A B) d v):Den aL (cb A B) (.ae (chunk sz n ds)) (.slice (some ⟨w.heap.size,0,none⟩) n n):=by
 have ok:ez A w B aL B mem:=by rw[hw];exact .still bO ((Fr.refl _ _).alloc _)
 have dF:=K6 sz n ds
 have h:=Den.ae (w:=aL) (aP:=cb A B) (es:=chunk sz n ds) (b:=w.heap.size) (off:=0) (c:=n) (sz:=sz) (λi=>vs.getD i undef) (by rw[dF];exact bM _) (by rw[dF];exact hm)
  (by rw[hw];simp) (λbu=>by
   rcases bu with bu|bu
   ·have:=bO.zl bu;omega
   ·have:=bO.lt _ bu;omega) (K7 sz n ds aq)
  (λi L=>by
   rw[dF] at L;rw[hw,oH];have:i<vs.size:=by omega
   simp[this])
  (λi d jX=>by
   rw[K8 sz n ds aq] at jX;have ao:i<D ds:=(dM.1 jX).1;have lu:i<vs.size:=by omega
   have:vs.getD i undef=vs[i]:=by simp[lu]
   simp only[this];exact (X i d _ jX (Array.getElem?_eq_getElem lu)).trans ok.ml)
 rw[dF] at h;exact h
theorem YL {t e:TypeId}{z r:List M}{sz len:Nat}{cS:List (Nat×Operand)}{dZ:List (Nat×Nat×bF)}{ρ:Operand->Value}{tm:Nat->M}{aP:Nat->Prop}(bI:P.underlying t=some (.slice e))(aR:zeroOf P e=some z)
  (Q:fT P e=some sz) (Bj:(D z)=sz) (ai:0<sz) (aq:len*sz<=16777216) (aC:partsOf (λi=>some (i*sz,sz)) cS=some dZ) (hρ:∀x y,dB x=some y->bm w aP B (a0 tm y) (ρ x))
  (h:jG (a0 tm) (ep len z).flatten dZ=some r) :
  ∃vs:Array Value,(Instr.buildSlice t len (cS.map λp=>(p.1,ρ p.2)).toArray).run P w=.ok (.slice (some ⟨w.heap.size,0,none⟩) len len) (w.alloc (.cells vs e))/\c0 w aP B r vs.toList:=by
 obtain⟨i,jI,L,uO,bV⟩:=Dx (P:=P) (w:=w) (B:=B) (aP:=aP) aR;have K9:jI.cells.size=sz:=by have:=bV.1;simp at this;omega
 have YM:=PQ (z:=jI.cells) (by omega) len;rw[K9] at YM;have Hp:=bV.replicate (n:=len);rw[<-YM] at Hp;obtain⟨nC,aJ,Y⟩:=K0 (place:=λi=>some (i*sz,sz)) hρ cS dZ _ r _ aC Hp h;refine⟨nC,?_,Y⟩;have aG:¬ (len*sz>2^24):=by omega
 by_cases tw:len*sz=0
 ·have cw:((Array.range (len*sz)).map (jI.cells[·%sz]!))=#[]:=by rw[tw];simp[Array.range_zero']
  have ajO:Instr.fill (λi=>some (i*sz,sz)) #[] (cS.map λp=>(p.1,ρ p.2))=some nC:=by rw[<-cw];exact aJ
  simp only[Instr.buildSlice,Sem.run_bind,run_underlying bI,Result.andThen_ok,tr Q];rw[aa aG];simp only[tw,if_true,Sem.run_bind,Sem.run_pure,Result.andThen_ok];simp[ajO,newRow,Array.range_zero']
 ·simp only[Instr.buildSlice,Sem.run_bind,run_underlying bI,Result.andThen_ok,tr Q];rw[aa aG];simp only[tw,if_false,Sem.run_bind,Sem.run_pure,Result.andThen_ok,K3 L uO,K9];simp[aJ,newRow]
theorem ajP {t e:TypeId}{z:List M}{sz len:Nat}{cS:List (Nat×Operand)}{dZ:List (Nat×Nat×bF)}{ρ:Operand->Value}{tm:Nat->M}{r:M}(bO:fj A w B mem)(bI:P.underlying t=some (.slice e))(aR:zeroOf P e=some z)
  (Q:fT P e=some sz) (Bj:(D z)=sz) (ai:0<sz) (aq:len*sz<=16777216) (aC:partsOf (λi=>some (i*sz,sz)) cS=some dZ) (hρ:∀x y,dB x=some y->bm w (cb A B) B (a0 tm y) (ρ x))
  (h:GS (ep len z).flatten sz len (jG (a0 tm) (ep len z).flatten dZ)=some r) :
  ∃v aL,(Instr.buildSlice t len (cS.map λp=>(p.1,ρ p.2)).toArray).run P w=.ok v aL/\ez A w B aL B mem/\bm aL (cb A B) B r v:=by
 unfold GS at h
 split at h
 ·rename_i hlen
  cases aJ:jG (a0 tm) (ep len z).flatten dZ with
  |none=>rw[aJ] at h;cases h
  |some cs =>
   rw[aJ] at h;simp only[dV] at h;obtain⟨ds,g6,rfl⟩:=h;obtain⟨vs,lT,bV⟩:=YL (P:=P) (B:=B) bI aR Q Bj ai aq aC hρ aJ;obtain⟨E,H⟩:=nB g6
   have dF:(D cs)=len*sz:=by
    have:∀(dZ:List (Nat×Nat×bF)) (a r:List M),jG (a0 tm) a dZ=some r->(D r)=D a:=by
     intro dZ
     induction dZ with
     |nil=>intro a r h;simp[jG] at h;rw[h]
     |cons q dZ aw =>
      intro a r h;obtain⟨o,s,x⟩:=q;simp only[jG] at h
      split at h
      ·rename_i G;rw[aw _ _ h];unfold ln;simp;omega
      ·cases h
    rw[this _ _ _ aJ,hlen]
   have aV:vs.size=len*sz:=by have:=bV.1;simp at this;omega
   refine⟨_,_,lT,.still bO ((Fr.refl _ _).alloc _),.I (ajN bO _ rfl (by omega) aV ?_ λi d v X aI=>?_)⟩
   ·have:len<=len*sz:=Hq _ ai;unfold maxLen;omega
   ·have ao:i<D cs:=by have:=(dM.1 X).1;omega
    have mq:=bx ao;exact YK (H i _ d mq X) (bV.2 i _ v mq (by simpa using aI))
 ·cases h
theorem ajQ {t e:TypeId}{z:List M}{sz len:Nat}{cS:List (Nat×Operand)}{dZ:List (Nat×Nat×bF)}{ρ:Operand->Value}{tm:Nat->M}{r:M}{j1:Option (Key×Nat×List M)}(k:Key)(bO:fj A w B mem)(bI:P.underlying t=some (.slice e))(aR:zeroOf P e=some z)
  (Q:fT P e=some sz) (Bj:(D z)=sz) (ai:0<sz) (aq:len*sz<=16777216) (aC:partsOf (λi=>some (i*sz,sz)) cS=some dZ) (hρ:∀x y,dB x=some y->bm w (cb A B) B (a0 tm y) (ρ x))
  (h:Db k (bW mem k) (ep len z).flatten sz len (jG (a0 tm) (ep len z).flatten dZ)=some (r,j1)) :
  ∃v aL bo,(Instr.buildSlice t len (cS.map λp=>(p.1,ρ p.2)).toArray).run P w=.ok v aL/\ez A w B aL bo (ib mem j1)/\bm aL (cb A bo) bo r v:=by
 unfold Db at h
 split at h
 ·rename_i hlen
  cases aJ:jG (a0 tm) (ep len z).flatten dZ with
  |none=>rw[aJ] at h;cases h
  |some cs =>
   rw[aJ] at h
   cases h;obtain⟨vs,lT,bV⟩:=YL (P:=P) (B:=B) bI aR Q Bj ai aq aC hρ aJ
   have dF:(D cs)=len*sz:=by
    have:∀(dZ:List (Nat×Nat×bF)) (a r:List M),jG (a0 tm) a dZ=some r->(D r)=D a:=by
     intro dZ
     induction dZ with
     |nil=>intro a r h;simp[jG] at h;rw[h]
     |cons q dZ aw =>
      intro a r h;obtain⟨o,s,x⟩:=q;simp only[jG] at h
      split at h
      ·rename_i G;rw[aw _ _ h];unfold ln;simp;omega
      ·cases h
    rw[this _ _ _ aJ,hlen]
   have aV:vs.size=D cs:=by have:=bV.1;simp at this;omega
   refine⟨_,_,_,lT,Hn bO w (Fr.refl _ _) rfl k vs e (by omega) (by rw[dE (by simp;omega)];exact bV),?_⟩
   have hC:len<=maxLen:=by
    have:len<=len*sz:=Hq _ ai;unfold maxLen;omega
   exact .ref (gW _ _ _) (bM _) ⟨_,len,rfl,bM _,hC,.inr ⟨_,rfl,λ_=>⟨rfl,by simp only[oH];omega⟩⟩⟩
 ·cases h
theorem YN {m:M}{sz n:Nat}{new:List M}{v:Value}(bO:fj A w B mem)(aI:bm w (cb A B) B m v)(h:ps mem sz m=some (n,new)):
  ∃a c vals,v=.slice a n c/\c0 w (cb A B) B new vals/\D vals=n*sz/\(0<n->∃b off,a=some ⟨b,off,none⟩/\eM w b off vals):=by
 unfold ps at h
 split at h
 ·split at h
  ·rename_i es r4
   cases h;have r4:=PN r4
   cases aI with
   |I X =>
    cases X with
    |kI=>exact⟨_,_,[],rfl,by simpa using c0.nil,by simp,λh=>by simp at h⟩
    | @ae es b off c dU val aq hm ad fB eP G zw =>
     have ir:=KK r4;rcases iU (D es) with ai|ai
     ·have:es=[]:=r5 ai;subst this;exact⟨_,_,[],rfl,by simpa using c0.nil,by simp,λh=>by simp at h⟩
     ·have Hm:dU=sz:=by
       have r6:=n7 (l:=es) (n:=0) ai;rw[<-eP _ r6,r4 _ r6]
      subst Hm;refine⟨_,_,(dQ (D es*dU)).map val,rfl,?_,by simp,λ_=>⟨b,off,rfl,λj u ag=>?_⟩⟩
      ·refine c0.I (by simp[ir]) λi d u E H=>?_;have L:i<D es*dU:=by have:=(dM.1 E).1;omega
       rw[bd,r0 L] at H;simp only[iW,b8] at H;subst H;exact zw i d E
      ·have L:j<D es*dU:=by have:=(dM.1 ag).1;simpa using this
       rw[bd,r0 L] at ag;simp only[iW,b8] at ag;subst ag;exact G j L
  ·cases h
 ·cases h
  cases aI with
  |nil=>exact⟨_,_,[],rfl,c0.nil,by simp,λh=>by simp at h⟩
 ·rename_i k g dU off len
  split at h
  ·rename_i eP;subst eP
   split at h
   ·rename_i df cs J
    split at h
    ·rename_i aU;subst aU;simp only[dV,fv] at h;obtain⟨part,wj,rfl,rfl⟩:=h;obtain⟨aq,rfl,aG⟩:=Dq wj
     cases aI with
     |ref he aU Y =>
      obtain⟨e,fS,cf,Dr,ad⟩:=bO.at_ J;rw[he] at fS
      cases fS;obtain⟨a,cap,rfl,E,H,ab⟩:=Y;rcases ab with ab|⟨b,rfl,aM⟩
      ·have:len=0:=by omega
       subst this;exact⟨_,_,[],rfl,by simpa using c0.nil,by simp,λh=>by omega⟩
      ·obtain⟨bj,bH⟩:=aM cf.symm;obtain⟨vs,T,aQ,aR,hle,bV⟩:=ad b bj;refine⟨_,_,((vs.toList.take (D cs)).drop off).take (len*dU),rfl,(bV.drop off).take _,by have:=((bV.drop off).take (len*dU)).1;omega,λ_=>⟨b,off,rfl,?_⟩⟩
       have:=(((eM.row aQ).take (D cs)).add off).take (len*dU)
       simpa using this
    ·cases h
   ·cases h
  ·cases h
 ·cases h
theorem La {sz n c:Nat}{a:Option Addr}{vals:List Value}(aq:(D vals)=n*sz)(bJ:0<n->∃b off,a=some ⟨b,off,none⟩/\eM w b off vals)(aL:World)(hw:aL.heap=w.heap):
  (Builtin.firstCells sz n (.slice a n c)).run P aL = .ok vals.toArray aL:=by
 have G:∀p,aL.cell? p=w.cell? p:=λp=>by simp[World.cell?,hw]
 rcases iU n with ai|ai
 ·subst ai;have:vals=[]:=r5 (by simpa using aq);subst this
  cases a with
  |none=>simp[Builtin.firstCells]
  |some a=>simp[Builtin.firstCells,loadCells,loadCellsFrom]
 ·obtain⟨b,off,rfl,x0⟩:=bJ ai;exact run_firstCells_some aL sz n _ n c vals aq λj v ag=>by rw[xW,G];exact x0 j v ag
theorem c0.YO {aP:Nat->Prop}{cs:List M}{vs:List Value}(h:c0 w aP B cs vs)(E:cs.all M.one=true):∀v∈vs,v.oneCell'=true:=by
 intro v aI;obtain⟨i,L,iV⟩:=YJ aI;have kr:i<D cs:=by rw[<-h.1];exact L
 have:=h.2 i _ _ (bx kr) (bx L);rw[iV] at this;exact Yp this (oI.1 E _ (n7 kr))
theorem PU {t ty e:TypeId}{sz n9 uQ n c:Nat}{base a:Option Addr}{vals:List Value}(bI:P.underlying t=some (.slice e))(Q:fT P e=some sz)(wk:n9+n<=uQ)
  (aJ:(Builtin.firstCells sz n (.slice a n c)).run P w=.ok vals.toArray w) (aL:World)
  (eA:∀b,base=some b->(storeCells (b.add (n9*sz)) vals).run P w=.ok () aL) (aG:base=none->aL=w) :
  (Builtin.append_ #[t,t] ty #[.slice base n9 uQ,.slice a n c]).run P w=.ok (.slice base (n9+n) uQ) aL:=by
 simp only[fT,dV] at Q;obtain⟨i,L,rfl⟩:=Q
 cases base with
 |none=>simp[Builtin.append_,run_underlying bI,sizeOf,typeInfo,L,Builtin.lenOf,wk,aJ,aG rfl]
 |some b=>simp[Builtin.append_,run_underlying bI,sizeOf,typeInfo,L,Builtin.lenOf,wk,aJ,eA b rfl]
theorem ajR {t ty e:TypeId}{sz n9 uQ n c bytes:Nat}{base a:Option Addr}{oJ vals:List Value}{i:TypeInfo}{z:Value}(bI:P.underlying t=some (.slice e))(L:P.info? e=some i)(aR:i.zero=some z)(eP:i.size=sz)(Ho:i.bytes=bytes)
  (wk:uQ<n9+n) (tt:∀aL,aL.heap=w.heap->(Builtin.firstCells sz n9 (.slice base n9 uQ)).run P aL = .ok oJ.toArray aL) (aJ:∀aL,aL.heap=w.heap->(Builtin.firstCells sz n (.slice a n c)).run P aL = .ok vals.toArray aL)
  (ajS:n9+n<=maxLen) (ad:(n9+n)*bytes<=140737488355328) :
  (Builtin.append_ #[t,t] ty #[.slice base n9 uQ,.slice a n c]).run P w =
   .ok (.slice (some ⟨w.heap.size,0,none⟩) (n9+n) (grownCap w (n9+n) uQ e))
    (w.drew.alloc (.cells (oJ.toArray++vals.toArray++Builtin.zeroCells z.cells (grownCap w (n9+n) uQ e-(n9+n))) e)):=by
 subst eP;subst Ho
 have aG:¬ (n9+n<=uQ):=by omega
 have ajT:¬ (9223372036854775807<((n9:Int)+(n:Int))):=by unfold maxLen at ajS;omega
 have K1:=growslice_fits wk ad;have ajU:¬ (281474976710656<Builtin.nextslicecap (n9+n) uQ*i.bytes):=by omega
 have E:=tt w.drew rfl;have H:=aJ w.drew rfl;simp[Builtin.append_,run_underlying bI,sizeOf,typeInfo,zeroValue,L,aR,Builtin.lenOf,aG,ajT,ajU,Question.forced,E,H,newRow,grownCap,<-List.append_toArray,Array.append_assoc]
theorem ajV {t ty e:TypeId}{z:List M}{bytes n:Nat}{dD bY:M}{r3 jJ:Value}{new:List M}{r:M}{j1:Option (Key×Nat×List M)}(k:Key)(bO:fj A w B mem)(bI:P.underlying t=some (.slice e))(aR:zeroOf P e=some z)(Q:fT P e=some (D z))
  (Ho:Dh P e=some bytes) (ai:0<D z) (eT:bm w (cb A B) B dD r3) (ei:bm w (cb A B) B bY jJ) (e8:ps mem (D z) bY=some (n,new)) (h:qe mem k z bytes dD (some (n,new))=some (r,j1)) :
  ∃v aL bo,(Builtin.append_ #[t,t] ty #[r3,jJ]).run P w=.ok v aL/\ez A w B aL bo (ib mem j1)/\bm aL (cb A bo) bo r v:=by
 obtain⟨dK,c2,vals,rfl,bV,lU,bJ⟩:=YN bO ei e8;obtain⟨i,jI,L,uO,ajW⟩:=Dx (P:=P) (w:=w) (B:=B) (aP:=cb A B) aR;have eP:=YE L Q;have jH:=YF L Ho;have K9:jI.cells.size=D z:=by have:=ajW.1;simp at this;omega
 have iX:(D new)=n*D z:=by rw[<-bV.1,lU]
 have aJ:=λaL hw=>La (P:=P) (w:=w) (c:=c2) lU bJ aL hw
 -- a new block
 have grow:∀(base:Option Addr) (len cap:Nat) (g:Nat) (k':Key) (cs:List M) (oJ:List Value),cap<len+n->(∀aL,aL.heap=w.heap->(Builtin.firstCells (D z) len (.slice base len cap)).run P aL = .ok oJ.toArray aL) ->
   c0 w (cb A B) B cs oJ->(D cs)=len*(D z)->len+n<=maxLen->(len+n)*bytes<=140737488355328->g=bW mem k' ->
   ∃v aL bo,(Builtin.append_ #[t,t] ty #[.slice base len cap,.slice dK n c2]).run P w=.ok v aL/\ez A w B aL bo (a3 mem k' g (cs++new))/\bm aL (cb A bo) bo (.ref k' g (D z) 0 (len+n)) v:=by
  intro base len cap g k' cs oJ wk tt jW dF uP Dy aU;subst aU;have lT:=ajR (P:=P) (ty:=ty) bI L uO eP jH wk tt aJ uP Dy;have cf:=grownCap_ge w (len+n) cap e;have hle:=grownCap_le_maxLen w (len+n) cap e uP
  have Bi:(oJ.toArray++vals.toArray++Builtin.zeroCells jI.cells (grownCap w (len+n) cap e-(len+n))).size=grownCap w (len+n) cap e*D z:=by
   have Lb:=jW.1;simp only[Array.size_append,List.size_toArray,size_zeroCells,K9,Lb,dF,lU];rw[<-pk,<-pk]
   congr 1
   omega
  have e1:=jW.append bV;have hmul:(len+n)*D z<=grownCap w (len+n) cap e*D z:=q5 _ cf;have tx:(cs++new).length=(len+n)*D z:=by rw[hj,dF,iX,pk]
  refine⟨_,_,_,lT,Hn (cs:=cs++new) bO w.drew ((Fr.refl _ _).drew _) rfl k' _ e (by rw[Bi,tx];exact hmul) ?_,?_⟩
  ·have:(oJ.toArray++vals.toArray++Builtin.zeroCells jI.cells (grownCap w (len+n) cap e-(len+n))).toList.take (cs++new).length=oJ++vals:=by
    simp only[Array.toList_append,List.toList_toArray];rw[List.take_append_of_le_length (by rw[e1.1];exact bM _),dE (by rw[e1.1];exact bM _)]
   rw[this];exact e1
  ·refine .ref (gW _ _ _) (bM _) ⟨_,_,rfl,cf,hle,.inr ⟨_,rfl,λ_=>⟨rfl,?_⟩⟩⟩;simp only[oH];rw[Bi];exact bM _
 cases dD with
 |nil =>
  simp only[qe] at h
  split at h
  ·rename_i G;obtain⟨Dy,uP,Bk⟩:=G
   cases h
   cases eT with
   | @nil c5 =>
    rcases iU n with nF|nF
    ·subst nF;have Dz:vals=[]:=r5 (by simpa using lU);have PV:new=[]:=r5 (by simpa using iX);subst Dz;subst PV
     refine⟨_,_,_,PU (P:=P) (ty:=ty) bI Q (bM _) (aJ w rfl) w (λb _=>by simp[storeCells]) (λ_=>rfl),ez.xT bO k,?_⟩;exact .ref (gW _ _ _) (bM _) ⟨_,0,rfl,bM _,fr _,.inl rfl⟩
    ·have:=grow c5 0 0 (bW mem k) k [] [] (by omega) (λaL hw=>by
      have:=La (P:=P) (w:=w) (sz:=D z) (n:=0) (c:=0) (a:=c5) (vals:=[]) (by simp) (λh=>by omega) aL hw;exact this) c0.nil (by simp) (by omega) (by simpa using Dy) rfl
     simpa [ib] using this
  ·cases h
 |ref k' g dU off len =>
  simp only[qe] at h
  split at h
  ·rename_i G;obtain⟨rfl,rfl⟩:=G;unfold lQ at h
   split at h
   ·rename_i df cs J
    split at h
    ·rename_i G;obtain⟨rfl,hlen,Dy,uP,Bk⟩:=G
     cases h;obtain⟨DA,q7,cf,Dr,ad⟩:=bO.at_ J;have tz:df+1=bW mem k':=by simp[bW,J]
     cases eT with
     |ref he aU Y =>
      rw[q7] at he
      cases he;obtain⟨c5,cap,rfl,E,H,ab⟩:=Y
      have hold:∃oJ,c0 w (cb A B) B (cs.take (len*D z)) oJ/\D oJ=len*D z/\(0<len->∃b off,c5=some ⟨b,off,none⟩/\eM w b off oJ):=by
       rcases ab with ab|⟨b,rfl,aM⟩
       ·have:len=0:=by omega
        subst this;exact⟨[],by simpa using c0.nil,by simp,λh=>by omega⟩
       ·obtain⟨bj,bH⟩:=aM cf.symm;obtain⟨vs,T,aQ,Hr,hle,Bl⟩:=ad b bj;refine⟨(vs.toList.take (D cs)).take (len*D z),Bl.take _,by have:=(Bl.take (len*D z)).1;rw[this];simp;omega,λ_=>⟨b,0,rfl,((eM.row aQ).take _).take _⟩⟩
      obtain⟨oJ,YP,ajX,YQ⟩:=hold
      by_cases wk:len+n<=cap
      ·rcases ab with ab|⟨b,rfl,aM⟩
       ·-- no room, and nothing comes
        have lv:len=0:=by omega
        have nF:n=0:=by omega
        subst lv;subst nF;subst ab
        have Dz:vals=[]:=r5 (by simpa using lU);have PV:new=[]:=r5 (by simpa using iX);subst Dz;subst PV
        refine⟨_,_,gJ B k' ⟨bW mem k',none,0⟩,PU (P:=P) (ty:=ty) bI Q (bM _) (aJ w rfl) w (λb _=>by simp[storeCells]) (λ_=>rfl),?_,?_⟩
        ·have:=ez.xT bO k'
         simpa [ib,tz] using this
        ·rw[tz];exact .ref (gW _ _ _) (bM _) ⟨_,0,rfl,bM _,fr _,.inl rfl⟩
       ·obtain⟨bj,bH⟩:=aM cf.symm;obtain⟨vs,T,aQ,Hr,hle,Bl⟩:=ad b bj;have hmul:(len+n)*D z<=cap*D z:=q5 _ wk;have YR:(len+n)*D z=len*D z+n*D z:=pk _ _ _;have eA:=run_storeCells_at P b (len*D z) T vals 0 vs w aQ (by omega) (bV.YO Bk);simp only[n8] at eA
        have Lb:oJ=vs.toList.take (len*D z):=by
         apply q6;intro j;rcases hK j (len*D z) with ag|ag
         ·have hD:0<len:=by
           rcases iU len with h|h
           ·subst h;simp at ag
           ·exact h
          obtain⟨e2,ays,YS,Lc⟩:=YQ hD;simp only[b8,Addr.mk.injEq,and_true] at YS;obtain⟨rfl,rfl⟩:=YS;have tA:j<D oJ:=by omega
          have tv:=Lc j _ (bx tA);rw[oH,cell_of_row w b j vs T (0,0) aQ] at tv;rw[bx tA,xV,Z ag,<-tv,Array.getElem?_toList]
         ·rw[lr (by omega),xV,aa (by omega)]
        have YT:(vs.toList.take (len*D z)++vals++vs.toList.drop (len*D z+D vals)).toArray.size=DA.size:=by
         simp;omega
        have f:Fr (λb=>∃e,B k'=some e/\e.di=some b) w (w.setRow b (vs.toList.take (len*D z)++vals++vs.toList.drop (len*D z+D vals)).toArray):=by
         refine⟨rfl,rfl,rfl,by simp,λj ag bu=>?_⟩
         exact setRow_other w b j _ (λK5=>bu ⟨DA,q7,by rw[bj,K5]⟩)
        have tx:(cs.take (len*D z)++new).length=len*D z+D vals:=by
         rw[hj,iX,lU,g7,nE hlen]
        have ok:=ez.change (k:=k') (e':=⟨df+1,some b,DA.size⟩) (cs:=cs.take (len*D z)++new) bO f
         (λay e0 => .inr (by rw[q7] at e0;cases e0;simp only;omega)) (λgQ eh => .inr ⟨DA,q7,by rw[bj];exact eh⟩) (λaG=>by cases aG) (λgQ eh=>by
          cases eh;refine⟨_,T,setRow_heap w b vs _ T (0,0) aQ,YT,by rw[YT,tx,lU];omega,λi m hm=>?_⟩
          have e1:=YP.append bV;obtain⟨v,aI,Y⟩:=e1.get hm;refine⟨v,?_,Y⟩;rw[Lb] at aI;have ao:i<(vs.toList.take (len*D z)++vals).length:=(dM.1 aI).1;simp only[YU];rw[q3 ao];exact aI)
        refine⟨_,_,_,PU (P:=P) (ty:=ty) (a:=dK) (c:=c2) (vals:=vals) bI Q wk (aJ w rfl) _ (λe2 lp=>by
         cases lp;rw[xW,oH];exact eA) (λh=>by cases h),ok,?_⟩
        exact .ref (gW _ _ _) (bM _) ⟨_,cap,rfl,wk,H,.inr ⟨b,rfl,λ_=>⟨rfl,bH⟩⟩⟩
      ·have:=grow c5 len cap (df+1) k' (cs.take (len*D z)) oJ (by omega) (λaL hw=>La (P:=P) (w:=w) ajX YQ aL hw) YP (by rw[g7,nE hlen]) uP Dy tz;exact this
    ·cases h
   ·cases h
  ·cases h
 |_=>simp[qe] at h
theorem ajY {t u ty e:TypeId}{sz n:Nat}{dD bY:M}{r3 jJ:Value}{new:List M}{r:M}{j1:Option (Key×Nat×List M)}(bO:fj A w B mem)(bI:P.underlying t=some (.slice e))(Q:fT P e=some sz)
  (eT:bm w (cb A B) B dD r3) (ei:bm w (cb A B) B bY jJ) (e8:ps mem sz bY=some (n,new)) (h:uJ mem sz dD (some (n,new))=some (r,j1)) :
  ∃v aL,(Builtin.copy_ #[t,u] ty #[r3,jJ]).run P w=.ok v aL/\ez A w B aL B (ib mem j1)/\bm aL (cb A B) B r v:=by
 obtain⟨dK,c2,vals,rfl,bV,lU,bJ⟩:=YN bO ei e8;have iX:(D new)=n*sz:=by rw[<-bV.1,lU]
 cases dD with
 |ref k g dU off len =>
  simp only[uJ] at h
  split at h
  ·rename_i eP;subst eP;unfold zp at h
   split at h
   ·rename_i df cs J
    split at h
    ·rename_i G;obtain⟨rfl,K1,Bk⟩:=G
     cases h;obtain⟨DA,q7,cf,Dr,ad⟩:=bO.at_ J;have DB:Nat.min n len=min n len:=rfl;have hle:min n len<=n:=Nat.min_le_left _ _;have ajZ:min n len<=len:=Nat.min_le_right _ _;have lS:min n len*dU<=n*dU:=q5 _ hle;have ayt:min n len*dU<=len*dU:=q5 _ ajZ;have wi:(vals.take (min n len*dU)).length=min n len*dU:=by rw[g7,lU,nE lS]
     have zy:∀(a:Option Addr) (c:Nat),(0<n->∃b off,a=some ⟨b,off,none⟩/\eM w b off vals)->(Builtin.firstCells dU (min n len) (.slice a n c)).run P w=.ok (vals.take (min n len*dU)).toArray w:=by
      intro a c bJ
      have:=La (P:=P) (w:=w) (sz:=dU) (n:=min n len) (c:=c) (a:=a) (vals:=vals.take (min n len*dU)) wi (λh=>by
       obtain⟨b,off,E,H⟩:=bJ (by omega);exact⟨b,off,E,H.take _⟩) w rfl
      cases a with
      |none=>simpa [Builtin.firstCells] using this
      |some a=>simpa [Builtin.firstCells] using this
     cases eT with
     |ref he aU Y =>
      rw[q7] at he
      cases he;obtain⟨c5,cap,rfl,E,H,ab⟩:=Y;simp only[fT,dV] at Q;obtain⟨i,L,PW⟩:=Q;rcases ab with ab|⟨b,rfl,aM⟩
      ·have lv:len=0:=by omega
       subst lv;have r6:min n 0=0:=Nat.min_zero _;have r7:ln cs off (new.take (min n 0*dU))=cs:=by simp[ln]
       have eA:∀a:Addr,(storeCells a ([]:List Value)).run P w=.ok () w:=λa=>by simp[storeCells]
       have Hs:=zy dK c2 bJ;simp only[r6,Nat.zero_mul,List.take_zero] at Hs
       have fh:gJ B k DA=B:=by
        funext j;unfold gJ;split
        ·rename_i ag;rw[ag,q7]
        ·rfl
       refine⟨.int .i64 0,w,?_,?_,by simpa using bm.ofInt⟩
       ·cases c5 with
        |none=>simp[Builtin.copy_,run_underlying bI,Builtin.lenOf,sizeOf,typeInfo,L,PW,Hs,goInt]
        |some a=>simp[Builtin.copy_,run_underlying bI,Builtin.lenOf,sizeOf,typeInfo,L,PW,Hs,eA,goInt]
       ·have gR:a3 mem k df cs=mem:=by
         funext j;unfold a3;split
         ·rename_i ag;rw[ag,J]
         ·rfl
        simp only[ib,r7,gR];exact .refl bO
      ·obtain⟨bj,bH⟩:=aM cf.symm;obtain⟨vs,T,aQ,Hr,PX,Bl⟩:=ad b bj;have eA:=run_storeCells_at P b off T (vals.take (min n len*dU)) 0 vs w aQ (by omega) (λv aI=>bV.YO Bk v (Dv aI));simp only[n8] at eA;refine⟨.int .i64 ((min n len:Nat):Int),_,?_,YI bO J q7 bj aQ Hr PX Bl cf (by rw[g7,iX,nE lS];omega) (bV.take (min n len*dU)),.ofInt⟩;have Hs:=zy dK c2 bJ;simp[Builtin.copy_,run_underlying bI,Builtin.lenOf,sizeOf,typeInfo,L,PW,DB,Hs,eA,goInt]
    ·cases h
   ·cases h
  ·cases h
 |_=>simp[uJ] at h
end
end Go.Mini
namespace Go.Mini
open Go
variable {P:Program} {A:Nat->Prop} {w:World} {B:eH} {mem:Mem}
theorem aj0 {t e:TypeId}{sz l h len:Nat}{m r:M}{v:Value}{jZ j0:Option Value}{bG L:Option M}(bO:fj A w B mem)(bI:P.underlying t=some (.array len e))(Q:fT P e=some sz)(ayu:len<=16777216)
  (fg:iS 0 bG=some l) (iq:iS len L=some h) (lR:qj w (cb A B) B bG jZ) (kK:qj w (cb A B) B L j0) (hm:bm w (cb A B) B m v) (Y:zo mem len sz l h m=some r) :
  ∃z,(Instr.sliceAt t v jZ j0 none).run P w=.ok z w/\bm w (cb A B) B r z:=by
 unfold zo at Y
 split at Y
 ·rename_i k g off;unfold PC at Y
  split at Y
  ·rename_i df cs J
   split at Y
   ·rename_i G;obtain⟨rfl,E,H,ab⟩:=G
    cases Y
    cases hm with
    |ptr he aU aI =>
     obtain⟨b,rfl,ad⟩:=aI;obtain⟨e',fS,cf,aG,eQ⟩:=bO.at_ J;rw[fS] at he
     cases he;have jH:=ad cf.symm;obtain⟨vs,T,aQ,aR,hle,_⟩:=eQ b jH;refine⟨.slice (some (if len=l then ⟨b,off,none⟩ else ⟨b,off+l*sz,none⟩)) (h-l) (len-l),?_,.ref fS aU ⟨_,len-l,rfl,by omega,by unfold maxLen;omega,?_⟩⟩
     ·simp[Instr.sliceAt,run_underlying bI,Instr.sureAddr,PL (P:=P) (w:=w) false fg iq lR kK E H,tr Q]
      split<;>simp[xW]
     ·rcases KZ (ey E H) with aq|aq
      ·exact .inl (by omega)
      ·refine .inr ⟨b,by rw[aa (by omega)],λ_=>⟨jH,?_⟩⟩
       have:off+l*sz+(len-l)*sz=off+len*sz:=by
        rw[rZ,<-pk]
        congr 2
        omega
       omega
   ·cases Y
  ·cases Y
 ·cases Y
theorem aj1 {dj:List Field}(h:(dj.all λf=>(fT P f.type).isSome)=true):∃cS:List (Nat×Nat),(dj.mapM λf=>(do pure (f.offset,<-sizeOf f.type):Sem (Nat×Nat))).run P w=.ok cS w /\
  ∀i:Nat,cS[i]?=tp P dj.toArray i:=by
 induction dj with
 |nil=>exact⟨[],by simp,λi=>by simp[tp]⟩
 |cons f r aw =>
  simp only[List.all_cons,e3] at h;obtain⟨cS,E,H⟩:=aw h.2;obtain⟨s,Q⟩:=Option.isSome_iff_exists.1 h.1;refine⟨(f.offset,s)::cS,?_,λi=>?_⟩
  ·simp only[mn,Sem.run_bind,tr Q,Result.andThen_ok,Sem.run_pure];rw[E]
   rfl
  ·cases i with
   |zero=>simp[tp,Q]
   |succ i =>
    have:=H i;simp only[tp,YU,List.getElem?_cons_succ] at this ⊢;exact this
theorem aj2 {p q:Nat->Option (Nat×Nat)}(h:∀i,p i=q i)(cs:Array Value)(l:List (Nat×Value)):Instr.fill p cs l=Instr.fill q cs l:=by
 rw[show p=q from funext h]
theorem aj3 {t:TypeId}{dj:Array Field}{z r:List M}{cS:List (Nat×Operand)}{dZ:List (Nat×Nat×bF)}{ρ:Operand->Value}{tm:Nat->M}{aP:Nat->Prop}(bI:P.underlying t=some (.struct dj))(aR:zeroOf P t=some z)
  (aZ:(dj.toList.all λf=>(fT P f.type).isSome)=true) (aC:partsOf (tp P dj) cS=some dZ) (hρ:∀x y,dB x=some y->bm w aP B (a0 tm y) (ρ x))
  (h:jG (a0 tm) z dZ=some r):∃v,(Instr.build t (cS.map λp=>(p.1,ρ p.2)).toArray).run P w=.ok v w/\bm w aP B (.agg r) v:=by
 obtain⟨i,jI,L,uO,bV⟩:=Dx (P:=P) (w:=w) (B:=B) (aP:=aP) aR;obtain⟨pl,E,H⟩:=aj1 (w:=w) aZ;obtain⟨nC,aJ,Y⟩:=K0 (place:=tp P dj) hρ cS dZ _ r _ aC bV h;refine⟨.agg nC,?_,by rw[show nC=nC.toList.toArray from by simp];exact .agg Y.1 Y.2⟩
 ·have uR:∀i,pl.toArray[i]?=tp P dj i:=λi=>by simpa using H i
  have hm:(dj.mapM λf=>(do pure (f.offset,<-sizeOf f.type):Sem (Nat×Nat))).run P w=.ok pl.toArray w:=by
   rw[Array.mapM_eq_mapM_toList];rw[map_eq_pure_bind];simp only[Sem.run_bind,E,Result.andThen_ok,Sem.run_pure]
  simp only[Instr.build,Sem.run_bind,K3 L uO,Result.andThen_ok,Sem.run_pure,run_underlying bI,hm,aj2 uR,aJ]
theorem aj4 {t e:TypeId}{n sz:Nat}{z r:List M}{cS:List (Nat×Operand)}{dZ:List (Nat×Nat×bF)}{ρ:Operand->Value}{tm:Nat->M}{aP:Nat->Prop}(bI:P.underlying t=some (.array n e))(aR:zeroOf P t=some z)
  (Q:fT P e=some sz) (aC:partsOf (λi=>some (i*sz,sz)) cS=some dZ) (hρ:∀x y,dB x=some y->bm w aP B (a0 tm y) (ρ x))
  (h:jG (a0 tm) z dZ=some r):∃v,(Instr.build t (cS.map λp=>(p.1,ρ p.2)).toArray).run P w=.ok v w/\bm w aP B (.agg r) v:=by
 obtain⟨i,jI,L,uO,bV⟩:=Dx (P:=P) (w:=w) (B:=B) (aP:=aP) aR;obtain⟨nC,aJ,Y⟩:=K0 (place:=λi=>some (i*sz,sz)) hρ cS dZ _ r _ aC bV h;refine⟨.agg nC,?_,by rw[show nC=nC.toList.toArray from by simp];exact .agg Y.1 Y.2⟩
 simp only[Instr.build,Sem.run_bind,K3 L uO,Result.andThen_ok,Sem.run_pure,run_underlying bI,tr Q,aJ]
end Go.Mini
namespace Go.Mini
open Go
variable {P:Program} {A:Nat->Prop} {w:World} {B:eH} {mem:Mem}
def aj5 (n:Next)(v:Value):Prop:=n=.value v\/(n=.skip/\v=undef)
def hM (A:Nat->Prop)(w:World)(B:eH)(run:Result Next)(mem':Mem)(r:M):Prop :=
 ∃n v aL bo,run=.ok n aL/\aj5 n v/\ez A w B aL bo mem'/\bm aL (cb A bo) bo r v
theorem hM.lx {s:Sem Value}{r:M}(bO:fj A w B mem)(h:∃v,s.run P w=.ok v w/\bm w (cb A B) B r v):hM A w B ((do pure (.value (<-s)):Sem Next).run P w) mem r:=by
 obtain⟨v,E,H⟩:=h;exact⟨.value v,v,w,B,by simp[E],.inl rfl,.refl bO,H⟩
theorem hM.of {s:Sem Value}{mem':Mem}{r:M}(h:∃v aL bo,s.run P w=.ok v aL/\ez A w B aL bo mem'/\bm aL (cb A bo) bo r v):hM A w B ((do pure (.value (<-s)):Sem Next).run P w) mem' r:=by
 obtain⟨v,aL,bo,E,H,ab⟩:=h;exact⟨.value v,v,aL,bo,by simp[E],.inl rfl,H,ab⟩
theorem YV {x:Option M}{r:M}{j1:Option (Key×Nat×List M)}(h:im x=some (r,j1)):x=some r/\j1=none:=by
 unfold im at h
 split at h<;>cases h
 exact⟨rfl,rfl⟩
theorem pw {x:Option Nat}{f:Nat->Option M}{r:M}(h:hB x f=some r):∃n,x=some n/\f n=some r:=by
 unfold hB at h
 split at h
 ·exact⟨_,rfl,h⟩
 ·cases h
theorem YW {x y:Option Nat}{f:Nat->Nat->Out}{r:M×Option (Key×Nat×List M)}(h:Hc x y f=some r):∃n m,x=some n/\y=some m/\f n m=some r:=by
 unfold Hc at h
 split at h
 ·exact⟨_,_,rfl,rfl,h⟩
 ·cases h
theorem Bm {aP:Nat->Prop}{ρ:Operand->Value}{tm:Nat->M}(hρ:∀x y,dB x=some y->bm w aP B (a0 tm y) (ρ x)){x:Option Operand}{y:Option bF}(h:rX x=some y):qj w aP B (y.map (a0 tm)) (x.map ρ):=by
 cases x with
 |none=>simp[rX] at h;subst h;simp[qj]
 |some x =>
  simp only[rX,dV] at h;obtain⟨y',ak,rfl⟩:=h;simp only[iW,qj];exact hρ _ _ ak
theorem YX {dj:Array Field}{f o s:Nat}(h:tp P dj f=some (o,s)):∃fd,dj[f]?=some fd/\fd.offset=o/\fT P fd.type=some s:=by
 simp only[tp,gX,g5,ej,b8,fv] at h;obtain⟨fd,E,r8,H,ab,aM⟩:=h;exact⟨fd,E,ab,aM ▸ H⟩
theorem zz {aP:Nat->Prop}{ρ:Operand->Value}{tm:Nat->M}(hρ:∀x y,dB x=some y->bm w aP B (a0 tm y) (ρ x)):∀{l:List Operand} {r:List bF},l.mapM dB=some r->c0 w aP B (r.map (a0 tm)) (l.map ρ)
 | [],r,h=>by simp at h;subst h;exact c0.nil
 |x::l,r,h=>by
  simp only[mn,gX,g5,ej,b8] at h;obtain⟨y,ak,Hk,Y,rfl⟩:=h;exact c0.cons (hρ _ _ ak) (zz hρ Y)
theorem zA {α β:Type}(a:Array α)(f:α->β):a.map f=(a.toList.map f).toArray:=by
 apply Array.ext';simp
theorem iu {tm:Nat->M}{m:jo}{r:M}{j1:Option (Key×Nat×List M)}{x:Option M}(h:b3 mem tm m=some (r,j1))(e:b3 mem tm m=im x):x=some r/\j1=none:=YV (e.symm.trans h)
theorem aj6 {ρ:Operand->Value}{tm:Nat->M}{kb:Nat}{own:List Nat}{dst:Option Tmp}{type:TypeId}{c:Call}{m:jo}{r:M}{j1:Option (Key×Nat×List M)}(bO:fj A w B mem)
  (hρ:∀x y,dB x=some y->bm w (cb A B) B (a0 tm y) (ρ x)) (aT:zr P kb own dst type c=some m) (h:b3 mem tm m=some (r,j1)) :
  hM A w B ((do let d <-resolve ρ c type;invoke d.target d.args:Sem Next).run P w) (ib mem j1) r:=by
 obtain⟨callee,args,argTypes⟩:=c;have two:∀{α:Type} (a:Array α) (x y:α),a.toList=[x,y]->a=#[x,y]:=λa x y h=>Array.ext' (by simpa using h);have one:∀{α:Type} (a:Array α) (x:α),a.toList=[x]->a=#[x]:=λa x h=>Array.ext' (by simpa using h);unfold zr at aT
 split at aT
 ·rename_i x t G aZ bI;simp only at G aZ bI;subst G;obtain rfl:=one _ _ aZ;obtain rfl:=one _ _ bI
  split at aT
  ·rename_i e hu;simp only[dV] at aT;obtain⟨y,ak,rfl⟩:=aT;obtain⟨a9,rfl⟩:=iu h rfl;obtain⟨n,aG,a9⟩:=pw a9
   cases a9;have:=aju (P:=P) (w:=w) t type e hu (hρ _ _ ak) aG;exact⟨.value _,_,w,B,by simp[resolve,invoke,builtin,this],.inl rfl,.refl bO,.I .int⟩
  ·rename_i hu;simp only[dV] at aT;obtain⟨y,ak,rfl⟩:=aT;obtain⟨a9,rfl⟩:=iu h rfl;obtain⟨n,aG,a9⟩:=pw a9
   cases a9;have:=ajv (P:=P) (w:=w) t type hu (hρ _ _ ak) aG;exact⟨.value _,_,w,B,by simp[resolve,invoke,builtin,this],.inl rfl,.refl bO,.I .int⟩
  ·cases aT
 ·rename_i s x t u G aZ bI;simp only at G aZ bI;subst G;obtain rfl:=two _ _ _ aZ;obtain rfl:=two _ _ _ bI
  split at aT
  ·rename_i e ay hu YY;simp only[gX,g5,ej] at aT;obtain⟨z,aR,b,ad,n,aG,d,X,r8,hE,iH,zB,aQ⟩:=aT
   split at aQ
   ·rename_i mr;obtain⟨rfl,ai,rfl⟩:=mr
    cases aQ;simp only[b3] at h
    cases e8:ps mem (D z) (a0 tm iH) with
    |none =>
     rw[e8] at h
     revert h
     cases a0 tm r8<;>simp[qe]
    |some p =>
     obtain⟨k,new⟩:=p;rw[e8] at h;obtain⟨v,aL,bo,E,H,ab⟩:=ajV (ty:=type) _ bO hu aR aG ad ai (hρ _ _ hE) (hρ _ _ zB) e8 h;exact⟨.value v,v,aL,bo,by simp[resolve,invoke,builtin,E],.inl rfl,H,ab⟩
   ·cases aQ
  ·cases aT
 ·rename_i ayv x t u G aZ bI;simp only at G aZ bI;subst G;obtain rfl:=two _ _ _ aZ;obtain rfl:=two _ _ _ bI
  split at aT
  ·rename_i e ay hu YY;simp only[gX,g5,ej] at aT;obtain⟨n,aG,aQ⟩:=aT
   split at aQ
   ·rename_i ai;simp only[ej,b8] at aQ;obtain⟨wm,oG,iH,zB,rfl⟩:=aQ;simp only[b3] at h
    cases e8:ps mem n (a0 tm iH) with
    |none =>
     rw[e8] at h
     revert h
     cases a0 tm wm<;>simp[uJ]
    |some p =>
     obtain⟨k,new⟩:=p;rw[e8] at h;obtain⟨v,aL,E,H,ab⟩:=ajY (u:=u) (ty:=type) bO hu aG (hρ _ _ oG) (hρ _ _ zB) e8 h;exact⟨.value v,v,aL,B,by simp[resolve,invoke,builtin,E],.inl rfl,H,ab⟩
   ·cases aQ
  ·cases aT
 ·rename_i x y G aZ;simp only at G aZ;subst G;obtain rfl:=two _ _ _ aZ;simp only[gX,g5,ej,b8] at aT;obtain⟨iH,O,y',ak,rfl⟩:=aT;obtain⟨a9,rfl⟩:=iu h rfl;obtain⟨z,E,H⟩:=Yw (P:=P) argTypes type (hρ _ _ O) (hρ _ _ ak) a9;simp only[if_true] at E;exact⟨.value z,z,w,B,by simp[resolve,invoke,builtin,E],.inl rfl,.refl bO,H⟩
 ·rename_i x y G aZ;simp only at G aZ;subst G;obtain rfl:=two _ _ _ aZ;simp only[gX,g5,ej,b8] at aT;obtain⟨iH,O,y',ak,rfl⟩:=aT;obtain⟨a9,rfl⟩:=iu h rfl;obtain⟨z,E,H⟩:=Yw (P:=P) argTypes type (hρ _ _ O) (hρ _ _ ak) a9;simp only[jU,if_false] at E;exact⟨.value z,z,w,B,by simp[resolve,invoke,builtin,E],.inl rfl,.refl bO,H⟩
 ·split at aT
  ·split at aT
   ·simp only[gX,g5,ej,b8] at aT;obtain⟨_,_,_,_,_,_,rfl⟩:=aT
    cases h
   ·cases aT
  ·split at aT
   ·simp only[gX,g5,ej,b8] at aT;obtain⟨_,_,rfl⟩:=aT
    cases h
   ·simp only[gX,g5,ej,b8] at aT;obtain⟨_,_,rfl⟩:=aT
    cases h
 ·simp only[gX,g5,ej,b8] at aT;obtain⟨_,_,_,_,rfl⟩:=aT
  cases h
 ·cases aT
theorem YZ {ρ:Operand->Value}{tm:Nat->M}{kb:Nat}{own:List Nat}{o:Oper}{m:jo}{r:M}{j1:Option (Key×Nat×List M)}(bO:fj A w B mem)
  (hρ:∀x y,dB x=some y->bm w (cb A B) B (a0 tm y) (ρ x)) (aT:lo P kb own o.dst o.type o.op=some m) (h:b3 mem tm m=some (r,j1)) :
  hM A w B ((execOp ρ o).run P w) (ib mem j1) r:=by
 obtain⟨dst,op,type,pos,after,guard⟩:=o;simp only at aT
 cases op<;>simp only[lo] at aT<;>simp only[execOp]
 case move x =>
  simp only[dV] at aT;obtain⟨y,ak,rfl⟩:=aT;obtain⟨a9,rfl⟩:=iu (x:=some (a0 tm y)) h rfl
  cases a9;exact⟨_,_,w,B,rfl,.inl rfl,.refl bO,hρ _ _ ak⟩
 case assign x =>
  simp only[dV] at aT;obtain⟨y,ak,rfl⟩:=aT;obtain⟨a9,rfl⟩:=iu (x:=some (a0 tm y)) h rfl
  cases a9;exact⟨_,_,w,B,rfl,.inl rfl,.refl bO,hρ _ _ ak⟩
 case pick c a b =>
  simp only[gX,g5,ej,b8] at aT;obtain⟨c',G,eS,aZ,e2,ad,rfl⟩:=aT;obtain⟨a9,rfl⟩:=iu h rfl;have:=hM.lx bO (aji (P:=P) (hρ _ _ G) (hρ _ _ aZ) (hρ _ _ ad) a9)
  simpa [ib] using this
 case alloc e =>
  simp only[gX,g5,ej,b8] at aT;obtain⟨d,X,z,aR,rfl⟩:=aT;simp only[b3,b8,fv] at h;obtain⟨rfl,rfl⟩:=h;exact hM.of (ajI _ bO aR)
 case box e x =>
  simp only[gX,g5,ej,b8] at aT;obtain⟨d,X,y,ak,rfl⟩:=aT;simp only[b3] at h
  split at h
  ·rename_i J;simp only[b8,fv] at h;obtain⟨rfl,rfl⟩:=h;exact hM.of (ajJ _ bO (hρ _ _ ak) J)
  ·cases h
 case build t cS =>
  split at aT
  ·rename_i dj hu
   split at aT
   ·rename_i aZ;simp only[gX,g5,ej,b8] at aT;obtain⟨z,aR,dZ,zx,rfl⟩:=aT;obtain⟨a9,rfl⟩:=iu h rfl;simp only[jT,dV] at a9;obtain⟨cs,jW,rfl⟩:=a9;rw[zA];exact hM.lx bO (aj3 hu aR aZ zx hρ jW)
   ·cases aT
  ·rename_i n e hu;simp only[gX,g5,ej,b8] at aT;obtain⟨s,Q,z,aR,dZ,zx,rfl⟩:=aT;obtain⟨a9,rfl⟩:=iu h rfl;simp only[jT,dV] at a9;obtain⟨cs,jW,rfl⟩:=a9;rw[zA];exact hM.lx bO (aj4 hu aR Q zx hρ jW)
  ·cases aT
 case buildSlice t len cS =>
  split at aT
  ·rename_i e hu;simp only[gX,g5,ej] at aT;obtain⟨z,aR,s,Q,dZ,zx,d,X,aQ⟩:=aT
   split at aQ
   ·rename_i G;obtain⟨Bj,ai,aq⟩:=G;simp only[b8] at aQ;subst aQ;rw[zA]
    cases uS:own.contains d with
    |true =>
     rw[uS] at h;exact hM.of (ajQ _ bO hu aR Q Bj ai aq zx hρ h)
    |false =>
     rw[uS] at h;obtain⟨a9,rfl⟩:=iu h rfl;obtain⟨v,aL,E,H,ab⟩:=ajP bO hu aR Q Bj ai aq zx hρ a9;exact hM.of ⟨v,aL,B,E,H,ab⟩
   ·cases aQ
  ·cases aT
 case load t x =>
  simp only[gX,g5,ej,b8] at aT;obtain⟨n,aG,g,aU,y,ak,rfl⟩:=aT;obtain⟨a9,rfl⟩:=iu h rfl;exact hM.lx bO (ajh aG aU bO (hρ _ _ ak) a9)
 case store t x v =>
  simp only[gX,g5,ej,b8] at aT;obtain⟨n,aG,iH,O,Bf,aI,rfl⟩:=aT;obtain⟨aL,E,H,rfl⟩:=ajL bO aG (hρ _ _ O) (hρ _ _ aI) h;exact⟨.skip,undef,aL,B,by simp[E],.inr ⟨rfl,rfl⟩,H,.no⟩
 case nilCheck x =>
  simp only[dV] at aT;obtain⟨y,ak,rfl⟩:=aT;obtain⟨a9,rfl⟩:=iu h rfl;obtain⟨⟨b,off,O⟩,Y⟩:=ajw (hρ _ _ ak) a9;rw[O] at Y ⊢;exact⟨_,_,w,B,rfl,.inl rfl,.refl bO,Y⟩
 case binOp bop t x y pos2 =>
  unfold Bc at aT
  split at aT
  ·split at aT
   ·rename_i iH y' O ak
    cases aT;obtain⟨a9,rfl⟩:=iu h rfl;exact hM.lx bO (Ym t x y (hρ _ _ O) (hρ _ _ ak) a9)
   ·cases aT
  ·split at aT
   ·rename_i iH y' O ak
    cases aT;obtain⟨a9,rfl⟩:=iu h rfl;exact hM.lx bO (Ym t x y (hρ _ _ O) (hρ _ _ ak) a9)
   ·cases aT
  ·rename_i hu
   split at aT
   ·rename_i iH y' O ak
    cases aT;obtain⟨a9,rfl⟩:=iu h rfl;exact hM.lx bO (Yn (neg:=false) t x y hu (hρ _ _ O) (hρ _ _ ak) a9)
   ·rename_i iH y' O ak
    cases aT;obtain⟨a9,rfl⟩:=iu h rfl;exact hM.lx bO (Yn (neg:=true) t x y hu (hρ _ _ O) (hρ _ _ ak) a9)
   ·cases aT
  ·rename_i dj hu
   split at aT
   ·unfold xQ at aT
    split at aT
    ·rename_i G
     split at aT
     ·rename_i gp iH y' J O ak
      cases aT;obtain⟨a9,rfl⟩:=iu h rfl;exact hM.lx bO (Yt (neg:=false) t x y dj hu G.1 G.2 J (hρ _ _ O) (hρ _ _ ak) a9)
     ·cases aT
    ·cases aT
   ·unfold xQ at aT
    split at aT
    ·rename_i G
     split at aT
     ·rename_i gp iH y' J O ak
      cases aT;obtain⟨a9,rfl⟩:=iu h rfl;exact hM.lx bO (Yt (neg:=true) t x y dj hu G.1 G.2 J (hρ _ _ O) (hρ _ _ ak) a9)
     ·cases aT
    ·cases aT
   ·cases aT
  ·split at aT
   ·split at aT
    ·simp only[dV] at aT;obtain⟨_,_,rfl⟩:=aT
     cases h
    ·simp only[dV] at aT;obtain⟨_,_,rfl⟩:=aT
     cases h
    ·cases aT
   ·cases aT
  ·cases aT
 case unOp uop t x =>
  simp only[dV] at aT;obtain⟨y,ak,rfl⟩:=aT;obtain⟨a9,rfl⟩:=iu h rfl;exact hM.lx bO (ajj (hρ _ _ ak) a9)
 case convert s t x =>
  split at aT
  ·rename_i gp k Q bI;simp only[dV] at aT;obtain⟨y,ak,rfl⟩:=aT;obtain⟨a9,rfl⟩:=iu h rfl;exact hM.lx bO (ajk s t gp Q bI (hρ _ _ ak) a9)
  ·cases aT
 case makeFunc fn first eW =>
  cases fn<;>simp only[reduceCtorEq] at aT
  split at aT
  ·rename_i eP;simp only[gX,g5,ej,b8] at aT;obtain⟨cs,jW,rfl⟩:=aT;obtain⟨a9,rfl⟩:=iu (x:=some (.fR _ (cs.map (a0 tm)))) h rfl
   cases a9;have aj7:first=#[]:=Array.eq_empty_of_size_eq_zero eP
   subst aj7;have aq:=zz hρ jW;exact hM.lx bO ⟨_,by rw[zA eW,Array.map_empty];rfl,.fR aq.1 aq.2⟩
  ·cases aT
 case makeSlice t l c =>
  split at aT
  ·rename_i e he;simp only[gX,g5,ej] at aT;obtain⟨z,aR,s,Q,b,ad,d,X,aQ⟩:=aT
   split at aQ
   ·rename_i G;simp only[ej,b8] at aQ;obtain⟨fw,aq,c',nG,rfl⟩:=aQ;simp only[b3] at h;obtain⟨iv,jr,E,H,ab⟩:=YW h;obtain⟨rfl,ai⟩:=G;exact hM.of (ajK _ bO he aR Q ad E H (hρ _ _ aq) (hρ _ _ nG) ai ab)
   ·cases aQ
  ·cases aT
 case slice t x bG L jq =>
  split at aT
  ·rename_i e hu;simp only[gX,g5,ej] at aT;obtain⟨s,Q,aQ⟩:=aT
   split at aQ
   ·simp only[ej,b8] at aQ;obtain⟨y,ak,Y0,fg,kr,iq,Ht,hC,rfl⟩:=aQ;have lR:=Bm hρ fg;have kK:=Bm hρ iq;have Du:=Bm hρ hC
    cases Ht with
    |none =>
     cases jq with
     |some v=>simp[rX,dV] at hC
     |none =>
      obtain⟨a9,rfl⟩:=iu h rfl;obtain⟨l,aq,a9⟩:=pw a9;obtain⟨len,hlen,a9⟩:=pw a9;obtain⟨aQ,Bn,a9⟩:=pw a9;exact hM.lx bO (ajA hu Q aq hlen Bn lR kK (hρ _ _ ak) a9)
    |some Ht =>
     cases kr with
     |none=>cases h
     |some kr =>
      cases L with
      |none=>simp[qj] at kK
      |some L =>
       cases jq with
       |none=>simp[qj] at Du
       |some jq =>
        obtain⟨a9,rfl⟩:=iu h rfl;obtain⟨l,aq,a9⟩:=pw a9;obtain⟨aQ,Bn,a9⟩:=pw a9;obtain⟨m,hm,a9⟩:=pw a9;exact hM.lx bO (ajC hu Q aq Bn hm lR kK Du (hρ _ _ ak) a9)
   ·cases aQ
  ·rename_i n e hu;simp only[gX,g5,ej] at aT;obtain⟨s,Q,aQ⟩:=aT
   split at aQ
   ·rename_i G;simp only[ej,b8] at aQ;obtain⟨y,ak,Y0,fg,kr,iq,Ht,hC,rfl⟩:=aQ;have lR:=Bm hρ fg;have kK:=Bm hρ iq
    cases Ht with
    |none =>
     cases jq with
     |some v=>simp[rX,dV] at hC
     |none =>
      obtain⟨a9,rfl⟩:=iu h rfl;obtain⟨l,aq,a9⟩:=pw a9;obtain⟨aQ,Bn,a9⟩:=pw a9;exact hM.lx bO (aj0 bO hu Q G.2 aq Bn lR kK (hρ _ _ ak) a9)
    |some Ht=>cases h
   ·cases aQ
  ·rename_i hu
   split at aT
   ·rename_i hC;simp only[gX,g5,ej,b8] at aT;obtain⟨y,ak,Y0,fg,kr,iq,rfl⟩:=aT;have lR:=Bm hρ fg;have kK:=Bm hρ iq
    cases jq with
    |some v=>cases hC
    |none =>
     obtain⟨a9,rfl⟩:=iu h rfl;obtain⟨l,aq,a9⟩:=pw a9;obtain⟨len,hlen,a9⟩:=pw a9;obtain⟨aQ,Bn,a9⟩:=pw a9;exact hM.lx bO (ajD hu aq hlen Bn lR kK (hρ _ _ ak) a9)
   ·cases aT
  ·cases aT
 case fieldAddr t x f =>
  split at aT
  ·rename_i dj hu;simp only[gX,g5,ej] at aT;obtain⟨⟨o,s⟩,aC,aQ⟩:=aT
   split at aQ
   ·rename_i ai;simp only[ej,b8] at aQ;obtain⟨y,ak,rfl⟩:=aQ;obtain⟨fd,E,H,ab⟩:=YX aC;obtain⟨a9,rfl⟩:=iu h rfl;exact hM.lx bO (ajl t f dj fd s hu E ab ai H (hρ _ _ ak) a9)
   ·cases aQ
  ·cases aT
 case field t x f =>
  split at aT
  ·rename_i dj hu;simp only[gX,g5,ej,b8] at aT;obtain⟨fd,PY,⟨o,s⟩,aC,g,aU,y,ak,rfl⟩:=aT;obtain⟨ayw,E,H,ab⟩:=YX aC;rw[PY] at E
   cases E;obtain⟨a9,rfl⟩:=iu h rfl;exact hM.lx bO (ajo t f dj fd hu PY ab aU H (hρ _ _ ak) a9)
  ·cases aT
 case indexAddr t x i =>
  split at aT
  ·rename_i e hu;simp only[gX,g5,ej] at aT;obtain⟨s,Q,aQ⟩:=aT
   split at aQ
   ·simp only[ej,b8] at aQ;obtain⟨y,ak,j,ag,rfl⟩:=aQ;obtain⟨a9,rfl⟩:=iu h rfl;obtain⟨n,aG,a9⟩:=pw a9;obtain⟨k,J⟩:=Ds aG (hρ _ _ ag);rw[J];exact hM.lx bO (ajq t e hu Q (hρ _ _ ak) a9)
   ·cases aQ
  ·rename_i len e hu;simp only[gX,g5,ej] at aT;obtain⟨s,Q,aQ⟩:=aT
   split at aQ
   ·simp only[ej,b8] at aQ;obtain⟨y,ak,j,ag,rfl⟩:=aQ;obtain⟨a9,rfl⟩:=iu h rfl;obtain⟨n,aG,a9⟩:=pw a9;obtain⟨k,J⟩:=Ds aG (hρ _ _ ag);rw[J];exact hM.lx bO (ajr t e hu Q (hρ _ _ ak) a9)
   ·cases aQ
  ·cases aT
 case index t x i =>
  split at aT
  ·rename_i hu;simp only[gX,g5,ej,b8] at aT;obtain⟨y,ak,j,ag,rfl⟩:=aT;obtain⟨a9,rfl⟩:=iu h rfl;obtain⟨n,aG,a9⟩:=pw a9;obtain⟨k,J⟩:=Ds aG (hρ _ _ ag);rw[J];exact hM.lx bO (ajs t hu (hρ _ _ ak) a9)
  ·cases aT
 case extract x i =>
  simp only[dV] at aT;obtain⟨y,ak,rfl⟩:=aT;obtain⟨a9,rfl⟩:=iu h rfl;exact hM.lx bO (ajt (hρ _ _ ak) a9)
 case call c =>
  exact aj6 bO hρ aT h
 all_goals cases aT
end Go.Mini
namespace Go.Mini
open Go
inductive fU where
 |code (c:dY)
 |inBlock (id:Nat)
def b7 (T:bk)(K:er->a2->Prop):List fU->er->a2->Prop
 | [],e,st=>K e st
 |.code c::k,.normal,st=>wp T c (b7 T K k) st
 |.code _::k,.exit id,st=>b7 T K k (.exit id) st
 |.code _::k,.ret,st=>b7 T K k .ret st
 |.inBlock _::k,.normal,st=>b7 T K k .normal st
 |.inBlock j::k,.exit id,st=>if id=j then b7 T K k .normal st else b7 T K k (.exit id) st
 |.inBlock _::k,.ret,st=>b7 T K k .ret st
section
variable {T:bk} {K:er->a2->Prop} {k:List fU} {st:a2}
theorem aj8 (c:dY):(λe dt=>match e with
  |.normal=>wp T c (b7 T K k) dt
  |e=>b7 T K k e dt)=b7 T K (.code c::k):=by
 funext e dt
 cases e<;>rfl
theorem aj9 (id:Nat):(λe dt=>match e with
  |.exit j=>if j=id then b7 T K k .normal dt else b7 T K k (.exit j) dt
  |e=>b7 T K k e dt)=b7 T K (.inBlock id::k):=by
 funext e dt
 cases e<;>rfl
@[go_sem] theorem aka (e:er):b7 T K [] e st=K e st:=by cases e<;>rfl
@[go_sem] theorem ayx (c:dY):b7 T K (.code c::k) .normal st=wp T c (b7 T K k) st:=bl
@[go_sem] theorem ayy (c:dY)(id:Nat):b7 T K (.code c::k) (.exit id) st=b7 T K k (.exit id) st:=bl
@[go_sem] theorem ayz (c:dY):b7 T K (.code c::k) .ret st=b7 T K k .ret st:=bl
@[go_sem] theorem ayA (id:Nat):b7 T K (.inBlock id::k) .normal st=b7 T K k .normal st:=bl
@[go_sem] theorem ayB (id j:Nat):b7 T K (.inBlock j::k) (.exit id) st=if id=j then b7 T K k .normal st else b7 T K k (.exit id) st:=bl
@[go_sem] theorem ayC (id:Nat):b7 T K (.inBlock id::k) .ret st=b7 T K k .ret st:=bl
theorem wo {c:dY}(h:wp T c (b7 T K []) st):wp T c K st:=by
 have:b7 T K []=K:=by funext e st;cases e<;>rfl
 rwa [this] at h
@[go_sem] theorem wp_seq (a b:dY):wp T (.seq a b) (b7 T K k) st=wp T a (b7 T K (.code b::k)) st:=by
 rw[<-aj8];rfl
@[go_sem] theorem wp_skip:wp T .skip (b7 T K k) st=b7 T K k .normal st:=bl
@[go_sem] theorem wp_ret:wp T .ret (b7 T K k) st=b7 T K k .ret st:=bl
@[go_sem] theorem wp_exit (id:Nat):wp T (.exit id) (b7 T K k) st=b7 T K k (.exit id) st:=bl
@[go_sem] theorem wp_block (id:Nat)(c:dY):wp T (.block id c) (b7 T K k) st=wp T c (b7 T K (.inBlock id::k)) st:=by
 rw[<-aj9];rfl
def px (T:bk)(K:er->a2->Prop)(k:List fU)(m:M)(a b:dY)(st:a2):Prop :=
 match m with
 |.I (.bool t)=>if t=true then wp T a (b7 T K k) st else wp T b (b7 T K k) st
 |_=>False
@[go_sem] theorem wp_cond (c:bF)(a b:dY):wp T (.cond c a b) (b7 T K k) st=px T K k (a0 st.tm c) a b st:=bl
@[go_sem] theorem akb (a b:dY):px T K k (.I (.bool true)) a b st=wp T a (b7 T K k) st:=bl
@[go_sem] theorem akc (a b:dY):px T K k (.I (.bool false)) a b st=wp T b (b7 T K k) st:=bl
def DD (T:bk)(K:er->a2->Prop)(k:List fU)(l:List cB)(st:a2):Prop:=v7 T (b7 T K k .normal) l st
@[go_sem] theorem wp_ops (l:List cB):wp T (.ops l) (b7 T K k) st=DD T K k l st:=bl
@[go_sem] theorem ayD:DD T K k [] st=b7 T K k .normal st:=bl
def qk (T:bk)(K:er->a2->Prop)(k:List fU)(g:Option Bool)(i:cB)(r:List cB)(st:a2):Prop :=
 match g with
 |none=>False
 |some g=>if g=true then ga T (v7 T (b7 T K k .normal) r) i st else DD T K k r ⟨put st.tm i.dst .no,st.mem⟩
@[go_sem] theorem ayE (i:cB)(r:List cB):DD T K k (i::r) st=qk T K k (n4 st.tm i.g) i r st:=bl
@[go_sem] theorem ayF (i:cB)(r:List cB):qk T K k (some true) i r st=ga T (DD T K k r) i st:=bl
@[go_sem] theorem ayG (i:cB)(r:List cB):qk T K k (some false) i r st=DD T K k r ⟨put st.tm i.dst .no,st.mem⟩:=bl
def zC (T:bk)(K:er->a2->Prop)(k:List fU)(n:Nat)(l:List cB)(c:List (List Nat))(rec:Rec)(st:a2):Prop:=uK T (b7 T K k .normal) n l c rec st
@[go_sem] theorem ayH (l:List cB)(c:List (List Nat)):wp T (.m1 l c) (b7 T K k) st=zC T K k 0 l c (λ_=>none) st:=bl
@[go_sem] theorem ayI (n:Nat)(c:List (List Nat))(rec:Rec):zC T K k n [] c rec st=b7 T K k .normal st:=bl
def ql (T:bk)(K:er->a2->Prop)(k:List fU)(n:Nat)(g:Option Bool)(i:cB)(r:List cB)(c:List (List Nat))(rec:Rec)(st:a2):Prop :=
 match g with
 |none=>False
 |some g=>if g=true then (match iG T st.mem st.tm i.op with
    |some (m,e)=>Df rec (iT i.op,dO st.tm i.op) (c.headD [])=true/\zC T K k (n+1) r c.tail (tn rec n (iT i.op,dO st.tm i.op)) ⟨put st.tm i.dst m,ib st.mem e⟩
    |none=>False) else zC T K k (n+1) r c.tail rec ⟨put st.tm i.dst .no,st.mem⟩
@[go_sem] theorem ayJ (n:Nat)(i:cB)(r:List cB)(c:List (List Nat))(rec:Rec):zC T K k n (i::r) c rec st=ql T K k n (n4 st.tm i.g) i r c rec st:=bl
def Y1 (T:bk)(K:er->a2->Prop)(k:List fU)(n:Nat)(x:Option (M×Option (Key×Nat×List M)))(i:cB)(r:List cB)(c:List (List Nat))(rec:Rec)(st:a2):Prop :=
 match x with
 |some (m,e)=>Df rec (iT i.op,dO st.tm i.op) (c.headD [])=true/\zC T K k (n+1) r c.tail (tn rec n (iT i.op,dO st.tm i.op)) ⟨put st.tm i.dst m,ib st.mem e⟩
 |none=>False
@[go_sem] theorem ayK (n:Nat)(i:cB)(r:List cB)(c:List (List Nat))(rec:Rec):ql T K k n (some true) i r c rec st=Y1 T K k n (iG T st.mem st.tm i.op) i r c rec st:=bl
@[go_sem] theorem ayL (n:Nat)(i:cB)(r:List cB)(c:List (List Nat))(rec:Rec):ql T K k n (some false) i r c rec st=zC T K k (n+1) r c.tail rec ⟨put st.tm i.dst .no,st.mem⟩:=bl
@[go_sem] theorem ayM (n:Nat)(m:M)(e:Option (Key×Nat×List M))(i:cB)(r:List cB)(c:List (List Nat))(rec:Rec):Y1 T K k n (some (m,e)) i r c rec st =
 (Df rec (iT i.op,dO st.tm i.op) (c.headD [])=true/\zC T K k (n+1) r c.tail (tn rec n (iT i.op,dO st.tm i.op)) ⟨put st.tm i.dst m,ib st.mem e⟩):=bl
end
section
variable {T:bk} {K:a2->Prop} {st:a2} {tm:Nat->M} {mem:Mem}
def iY (K:a2->Prop)(x:Option (M×Option (Key×Nat×List M)))(d:Option Nat)(st:a2):Prop :=
 match x with
 |some (m,e)=>K ⟨put st.tm d m,ib st.mem e⟩
 |none=>False
@[go_sem] theorem ayN (m:M)(e:Option (Key×Nat×List M))(d:Option Nat):iY K (some (m,e)) d st=K ⟨put st.tm d m,ib st.mem e⟩:=bl
variable (d:Option Nat) (g:Option (Nat×Bool))
@[go_sem] theorem ayO (x:bF):ga T K ⟨d,g,.cn x⟩ st=K ⟨put st.tm d (a0 st.tm x),st.mem⟩:=bl
@[go_sem] theorem ayP (c a b:bF):ga T K ⟨d,g,.pick c a b⟩ st=iY K (b3 st.mem st.tm (.pick c a b)) d st:=bl
@[go_sem] theorem ayQ (k:Key)(z:List M):ga T K ⟨d,g,.alloc k z⟩ st=K ⟨put st.tm d (.ptr k (bW st.mem k) 0),a3 st.mem k (bW st.mem k) z⟩:=bl
@[go_sem] theorem ayR (k:Key)(x:bF):ga T K ⟨d,g,.box k x⟩ st=iY K (b3 st.mem st.tm (.box k x)) d st:=bl
@[go_sem] theorem ayS (z:List M)(cS:List (Nat×Nat×bF)):ga T K ⟨d,g,.build z cS⟩ st=iY K (b3 st.mem st.tm (.build z cS)) d st:=bl
@[go_sem] theorem ayT (k:Key)(o:Bool)(z:List M)(sz len:Nat)(cS:List (Nat×Nat×bF)):ga T K ⟨d,g,.e7 k o z sz len cS⟩ st=iY K (b3 st.mem st.tm (.e7 k o z sz len cS)) d st:=bl
@[go_sem] theorem ayU (n:Nat)(dy:Bool)(x:bF):ga T K ⟨d,g,.load n dy x⟩ st=iY K (b3 st.mem st.tm (.load n dy x)) d st:=bl
@[go_sem] theorem ayV (n:Nat)(x v:bF):ga T K ⟨d,g,.store n x v⟩ st=iY K (b3 st.mem st.tm (.store n x v)) d st:=bl
@[go_sem] theorem ayW (op:BinOp)(x y:bF):ga T K ⟨d,g,.bin op x y⟩ st=iY K (b3 st.mem st.tm (.bin op x y)) d st:=bl
@[go_sem] theorem ayX (b:Bool)(n:List Nat)(x y:bF):ga T K ⟨d,g,.eqs b n x y⟩ st=iY K (b3 st.mem st.tm (.eqs b n x y)) d st:=bl
@[go_sem] theorem ayY (b:Bool)(x y:bF):ga T K ⟨d,g,.beq b x y⟩ st=iY K (b3 st.mem st.tm (.beq b x y)) d st:=bl
@[go_sem] theorem ayZ (op:UnOp)(x:bF):ga T K ⟨d,g,.un op x⟩ st=iY K (b3 st.mem st.tm (.un op x)) d st:=bl
@[go_sem] theorem ay0 (k:IntKind)(x:bF):ga T K ⟨d,g,.conv k x⟩ st=iY K (b3 st.mem st.tm (.conv k x)) d st:=bl
@[go_sem] theorem ay1 (x:bF):ga T K ⟨d,g,.qW x⟩ st=iY K (b3 st.mem st.tm (.qW x)) d st:=bl
@[go_sem] theorem ay2 (k:Key)(z:List M)(b:Nat)(x y:bF):ga T K ⟨d,g,.lj k z b x y⟩ st=iY K (b3 st.mem st.tm (.lj k z b x y)) d st:=bl
@[go_sem] theorem ay3 (o:Nat)(x:bF):ga T K ⟨d,g,.eX o x⟩ st=iY K (b3 st.mem st.tm (.eX o x)) d st:=bl
@[go_sem] theorem ay4 (o n:Nat)(dy:Bool)(x:bF):ga T K ⟨d,g,.zm o n dy x⟩ st=iY K (b3 st.mem st.tm (.zm o n dy x)) d st:=bl
@[go_sem] theorem ay5 (s:Nat)(x i:bF):ga T K ⟨d,g,.jF s x i⟩ st=iY K (b3 st.mem st.tm (.jF s x i)) d st:=bl
@[go_sem] theorem ay6 (n s:Nat)(x i:bF):ga T K ⟨d,g,.n3 n s x i⟩ st=iY K (b3 st.mem st.tm (.n3 n s x i)) d st:=bl
@[go_sem] theorem ay7 (x i:bF):ga T K ⟨d,g,.idxs x i⟩ st=iY K (b3 st.mem st.tm (.idxs x i)) d st:=bl
@[go_sem] theorem ay8 (s:Nat)(x:bF)(a b c:Option bF):ga T K ⟨d,g,.qX s x a b c⟩ st=iY K (b3 st.mem st.tm (.qX s x a b c)) d st:=bl
@[go_sem] theorem ay9 (n s:Nat)(x:bF)(a b c:Option bF):ga T K ⟨d,g,.rV n s x a b c⟩ st=iY K (b3 st.mem st.tm (.rV n s x a b c)) d st:=bl
@[go_sem] theorem aza (x:bF)(a b:Option bF):ga T K ⟨d,g,.A9 x a b⟩ st=iY K (b3 st.mem st.tm (.A9 x a b)) d st:=bl
@[go_sem] theorem azb (i:Nat)(x:bF):ga T K ⟨d,g,.ext i x⟩ st=iY K (b3 st.mem st.tm (.ext i x)) d st:=bl
@[go_sem] theorem azc (x:bF):ga T K ⟨d,g,.len x⟩ st=iY K (b3 st.mem st.tm (.len x)) d st:=bl
@[go_sem] theorem azd (x:bF):ga T K ⟨d,g,.lens x⟩ st=iY K (b3 st.mem st.tm (.lens x)) d st:=bl
@[go_sem] theorem aze (k:Key)(z:List M)(b:Nat)(s x:bF):ga T K ⟨d,g,.app k z b s x⟩ st=iY K (b3 st.mem st.tm (.app k z b s x)) d st:=bl
@[go_sem] theorem azf (s:Nat)(x y:bF):ga T K ⟨d,g,.qY s x y⟩ st=iY K (b3 st.mem st.tm (.qY s x y)) d st:=bl
@[go_sem] theorem azg (b:Bool)(x y:bF):ga T K ⟨d,g,.il b x y⟩ st=iY K (b3 st.mem st.tm (.il b x y)) d st:=bl
@[go_sem] theorem azh (f:FuncId)(l:List bF):ga T K ⟨d,g,.tk f l⟩ st=iY K (b3 st.mem st.tm (.tk f l)) d st:=bl
def wq (K:a2->Prop)(x:Option gO)(d:Option Nat)(st:a2):Prop :=
 match x with
 |some (.same r)=>K ⟨put st.tm d (.I r),st.mem⟩
 |some (.own _ es)=>K ⟨put st.tm d (.I (.ae es)),st.mem⟩
 |some (.rel bZ)=>∀r mem',bZ r mem'->K ⟨put st.tm d r,mem'⟩
 |some (.eK r k g i c)=>K ⟨put st.tm d (.I r),a3 st.mem k g ((qf st.mem k).set i c)⟩
 |none=>False
@[go_sem] theorem azi (f:FuncId)(l:List bF):ga T K ⟨d,g,.call f l⟩ st=wq K (T f (l.map (a0 st.tm)) st.mem) d st:=bl
@[go_sem] theorem azj (r:Data)(k:Key)(g i:Nat)(c:M):wq K (some (.eK r k g i c)) d st=K ⟨put st.tm d (.I r),a3 st.mem k g ((qf st.mem k).set i c)⟩:=bl
@[go_sem] theorem azk (r:Data):wq K (some (.same r)) d st=K ⟨put st.tm d (.I r),st.mem⟩:=bl
@[go_sem] theorem azl (s:Nat)(es:List (List Data)):wq K (some (.own s es)) d st=K ⟨put st.tm d (.I (.ae es)),st.mem⟩:=bl
@[go_sem] theorem akd (bZ:M->Mem->Prop):wq K (some (.rel bZ)) d st=∀r mem',bZ r mem'->K ⟨put st.tm d r,mem'⟩:=bl
def PZ (T:bk)(K:a2->Prop)(m:M)(args:List M)(d:Option Nat)(st:a2):Prop :=
 match m with
 |.fR g eW=>wq K (T g (args++eW) st.mem) d st
 |.I (.fn g ds)=>wq K (T g (args++ds.map .I) st.mem) d st
 |_=>False
@[go_sem] theorem azm (f:bF)(l:List bF):ga T K ⟨d,g,.lk f l⟩ st=PZ T K (a0 st.tm f) (l.map (a0 st.tm)) d st:=bl
@[go_sem] theorem azn (f:FuncId)(eW args:List M):PZ T K (.fR f eW) args d st=wq K (T f (args++eW) st.mem) d st:=bl
@[go_sem] theorem azo (f:FuncId)(ds:List Data)(args:List M):PZ T K (.I (.fn f ds)) args d st=wq K (T f (args++ds.map .I) st.mem) d st:=bl
def P0 (K:a2->Prop)(x:Option gO)(k:Key)(sz:Nat)(d:Option Nat)(st:a2):Prop :=
 match x with
 |some (.own dU es)=>if dU=sz then K ⟨put st.tm d (.ref k (bW st.mem k) sz 0 (D es)),a3 st.mem k (bW st.mem k) (es.flatten.map .I)⟩ else False
 |_=>False
@[go_sem] theorem azp (k:Key)(sz:Nat)(f:FuncId)(l:List bF):ga T K ⟨d,g,.m0 k sz f l⟩ st=P0 K (T f (l.map (a0 st.tm)) st.mem) k sz d st:=bl
@[go_sem] theorem azq (k:Key)(sz:Nat)(es:List (List Data)):P0 K (some (.own sz es)) k sz d st=K ⟨put st.tm d (.ref k (bW st.mem k) sz 0 (D es)),a3 st.mem k (bW st.mem k) (es.flatten.map .I)⟩:=by simp[P0]
def Y2 (K:a2->Prop)(neg:Bool)(x:Option Bool)(d:Option Nat)(st:a2):Prop :=
 match x with
 |some full=>∀b:Bool,(full=true->b=false)->K ⟨put st.tm d (.I (.bool (neg != b))),st.mem⟩
 |none=>False
@[go_sem] theorem azr (neg:Bool)(x:bF):ga T K ⟨d,g,.pn neg x⟩ st=Y2 K neg (Bb (a0 st.tm x)) d st:=bl
@[go_sem] theorem azs (neg full:Bool):Y2 K neg (some full) d st=∀b:Bool,(full=true->b=false)->K ⟨put st.tm d (.I (.bool (neg != b))),st.mem⟩:=bl
end
section
variable {tm:Nat->M} {mem:Mem}
@[go_sem] theorem azt (s:Nat):a0 tm (.t s)=tm s:=bl
@[go_sem] theorem azu (m:M):a0 tm (.c m)=m:=bl
@[go_sem] theorem azv (s:Nat)(m:M):put tm (some s) m=eK tm s m:=bl
@[go_sem] theorem azw (m:M):put tm none m=tm:=bl
@[go_sem] theorem azx (s:Nat)(m:M)(t:Nat):eK tm s m t=if t=s then m else tm t:=bl
@[go_sem] theorem zD (k:Key)(g:Nat)(cs:List M)(j:Key):a3 mem k g cs j=if j=k then some (g,cs) else mem j:=bl
@[go_sem] theorem azy:ib mem none=mem:=bl
@[go_sem] theorem azz (k:Key)(g:Nat)(cs:List M):ib mem (some (k,g,cs))=a3 mem k g cs:=bl
def gf:Option (Nat×List M)->Nat
 |none=>0
 |some (g,_)=>g+1
@[go_sem] theorem azA (k:Key):bW mem k=gf (mem k):=by unfold bW gf;rfl
@[go_sem] theorem azB:gf none=0:=bl
@[go_sem] theorem azC (g:Nat)(cs:List M):gf (some (g,cs))=g+1:=bl
@[go_sem] theorem azD (k:Key):emp k=none:=bl
@[go_sem] theorem azE:n4 tm none=some true:=bl
def Ld (m:M)(b:Bool):Option Bool :=
 match m with
 |.I (.bool t)=>some (t==b)
 |.no=>some false
 |_=>none
@[go_sem] theorem azF (s:Nat)(b:Bool):n4 tm (some (s,b))=Ld (tm s) b:=bl
@[go_sem] theorem azG (b:Bool):Ld .no b=some false:=bl
variable (op:jo)
@[go_sem] theorem azH (m:M):im (some m)=some (m,none):=bl
@[go_sem] theorem azI (x:bF):b3 mem tm (.cn x)=some (a0 tm x,none):=bl
@[go_sem] theorem azJ (c a b:bF):b3 mem tm (.pick c a b)=im (Da (a0 tm c) (a0 tm a) (a0 tm b)):=bl
@[go_sem] theorem azK (a b:M):Da (.I (.bool true)) a b=some a:=bl
@[go_sem] theorem azL (a b:M):Da (.I (.bool false)) a b=some b:=bl
@[go_sem] theorem azM (k:Key)(z:List M):b3 mem tm (.alloc k z)=some (.ptr k (bW mem k) 0,some (k,bW mem k,z)):=bl
@[go_sem] theorem azN (k:Key)(x:bF):b3 mem tm (.box k x)=if (a0 tm x).known=true then some (.ptr k (bW mem k) 0,some (k,bW mem k,(a0 tm x).cells)) else none:=bl
@[go_sem] theorem azO (z:List M)(cS:List (Nat×Nat×bF)):b3 mem tm (.build z cS)=im ((jG (a0 tm) z cS).map .agg):=bl
@[go_sem] theorem azP (k:Key)(z:List M)(sz len:Nat)(cS:List (Nat×Nat×bF)):b3 mem tm (.e7 k false z sz len cS)=im (GS z sz len (jG (a0 tm) z cS)):=bl
@[go_sem] theorem azQ (k:Key)(z:List M)(sz len:Nat)(cS:List (Nat×Nat×bF)):b3 mem tm (.e7 k true z sz len cS)=Db k (bW mem k) z sz len (jG (a0 tm) z cS):=bl
@[go_sem] theorem azR (n:Nat)(dy:Bool)(x:bF):b3 mem tm (.load n dy x)=im (pr mem n dy (a0 tm x)):=bl
@[go_sem] theorem azS (n:Nat)(x v:bF):b3 mem tm (.store n x v)=v5 mem n (a0 tm x) (a0 tm v).cells:=bl
@[go_sem] theorem azT (b:BinOp)(x y:bF):b3 mem tm (.bin b x y)=im (GP b (a0 tm x) (a0 tm y)):=bl
@[go_sem] theorem azU (neg:Bool)(x y:bF):b3 mem tm (.beq neg x y)=im (GQ neg (a0 tm x) (a0 tm y)):=bl
@[go_sem] theorem azV (neg:Bool)(n:List Nat)(x y:bF):b3 mem tm (.eqs neg n x y)=im (GV neg n (a0 tm x) (a0 tm y)):=bl
@[go_sem] theorem azW (u:UnOp)(x:bF):b3 mem tm (.un u x)=im (GR u (a0 tm x)):=bl
@[go_sem] theorem azX (k:IntKind)(x:bF):b3 mem tm (.conv k x)=im (GW k (a0 tm x)):=bl
@[go_sem] theorem azY (x:bF):b3 mem tm (.qW x)=im (GX (a0 tm x)):=bl
@[go_sem] theorem azZ (k:Key)(z:List M)(b:Nat)(x y:bF):b3 mem tm (.lj k z b x y)=Hc (idx (a0 tm x)) (idx (a0 tm y)) (Dc k (bW mem k) z b):=bl
@[go_sem] theorem az0 (o:Nat)(x:bF):b3 mem tm (.eX o x)=im (GY o (a0 tm x)):=bl
@[go_sem] theorem az1 (o n:Nat)(dy:Bool)(x:bF):b3 mem tm (.zm o n dy x)=im (GZ o n dy (a0 tm x)):=bl
@[go_sem] theorem az2 (s:Nat)(x i:bF):b3 mem tm (.jF s x i)=im (hB (idx (a0 tm i)) λn=>xO s n (a0 tm x)):=bl
@[go_sem] theorem az3 (n s:Nat)(x i:bF):b3 mem tm (.n3 n s x i)=im (hB (idx (a0 tm i)) λm=>G0 n s m (a0 tm x)):=bl
@[go_sem] theorem az4 (x i:bF):b3 mem tm (.idxs x i)=im (hB (idx (a0 tm i)) λn=>G6 n (a0 tm x)):=bl
@[go_sem] theorem az5 (s:Nat)(x:bF)(bG L:Option bF):b3 mem tm (.qX s x bG L none)=im (hB (iS 0 (bG.map (a0 tm))) λl=>hB (pq (a0 tm x)) λlen=>hB (iS len (L.map (a0 tm))) λh=>G7 s l h (a0 tm x)):=bl
@[go_sem] theorem az6 (s:Nat)(x h m:bF)(bG:Option bF):b3 mem tm (.qX s x bG (some h) (some m)) =
 im (hB (iS 0 (bG.map (a0 tm))) λl=>hB (idx (a0 tm h)) λh=>hB (idx (a0 tm m)) λm=>G8 s l h m (a0 tm x)):=bl
@[go_sem] theorem az7 (n s:Nat)(x:bF)(bG L:Option bF):b3 mem tm (.rV n s x bG L none)=im (hB (iS 0 (bG.map (a0 tm))) λl=>hB (iS n (L.map (a0 tm))) λh=>zo mem n s l h (a0 tm x)):=bl
@[go_sem] theorem az8 (x:bF)(bG L:Option bF):b3 mem tm (.A9 x bG L)=im (hB (iS 0 (bG.map (a0 tm))) λl=>hB (xN (a0 tm x)) λlen=>hB (iS len (L.map (a0 tm))) λh=>G9 l h (a0 tm x)):=bl
@[go_sem] theorem az9 (i:Nat)(x:bF):b3 mem tm (.ext i x)=im (Ha i (a0 tm x)):=bl
@[go_sem] theorem aAa (x:bF):b3 mem tm (.len x)=im (hB (pq (a0 tm x)) λn=>some (.I (.int .i64 n))):=bl
@[go_sem] theorem aAb (x:bF):b3 mem tm (.lens x)=im (hB (xN (a0 tm x)) λn=>some (.I (.int .i64 n))):=bl
@[go_sem] theorem aAc (k:Key)(z:List M)(b:Nat)(s x:bF):b3 mem tm (.app k z b s x)=qe mem k z b (a0 tm s) (ps mem (D z) (a0 tm x)):=bl
@[go_sem] theorem aAd (s:Nat)(x y:bF):b3 mem tm (.qY s x y)=uJ mem s (a0 tm x) (ps mem s (a0 tm y)):=bl
@[go_sem] theorem aAe (b:Bool)(x y:bF):b3 mem tm (.il b x y)=im (Hb b (a0 tm x) (a0 tm y)):=bl
@[go_sem] theorem aAf (f:FuncId)(l:List bF):b3 mem tm (.tk f l)=some (.fR f (l.map (a0 tm)),none):=bl
@[go_sem] theorem aAg (n:Nat)(f:Nat->Option M):hB (some n) f=f n:=bl
@[go_sem] theorem aAh (n m:Nat)(f:Nat->Nat->Out):Hc (some n) (some m) f=f n m:=bl
def Le (n:Nat)(dy:Bool)(g off:Nat):Option (Nat×List M)->Option M
 |some (df,cs)=>if df=g then (cut cs off n).bind (qd dy) else none
 |none=>none
@[go_sem] theorem aAi (n:Nat)(dy:Bool)(k:Key)(g off:Nat):pr mem n dy (.ptr k g off)=Le n dy g off (mem k):=by unfold pr Le;rfl
@[go_sem] theorem aAj (n:Nat)(dy:Bool)(g off:Nat)(cs:List M):Le n dy g off (some (g,cs))=(cut cs off n).bind (qd dy):=by simp[Le]
@[go_sem] theorem aAk (n:Nat)(dy:Bool)(ds:List Data):pr mem n dy (.I (.ptr ds))=(cut (ds.map .I) 0 n).bind (qd dy):=bl
@[go_sem] theorem aAl (n:Nat)(k:Key)(g off:Nat)(v:List M):v5 mem n (.ptr k g off) v=Hd n k g off v (mem k):=bl
@[go_sem] theorem aAm (cs:List M):qd true cs=some (.agg cs):=bl
@[go_sem] theorem aAn (m:M):qd false [m]=some m:=bl
@[go_sem] theorem aAo (cs:List M):(M.agg cs).cells=cs:=bl
@[go_sem] theorem aAp (cs:List Data):(M.I (.agg cs)).cells=cs.map .I:=bl
@[go_sem] theorem aAq (k:IntKind)(n:Int):(M.I (.int k n)).cells=[.I (.int k n)]:=bl
@[go_sem] theorem aAr (b:Bool):(M.I (.bool b)).cells=[.I (.bool b)]:=bl
@[go_sem] theorem aAs (l:List UInt8):(M.I (.str l)).cells=[.I (.str l)]:=bl
@[go_sem] theorem aAt (l:List (List Data)):(M.I (.ae l)).cells=[.I (.ae l)]:=bl
@[go_sem] theorem aAu (l:List Data):(M.I (.ptr l)).cells=[.I (.ptr l)]:=bl
@[go_sem] theorem aAv (f:FuncId)(l:List Data):(M.I (.fn f l)).cells=[.I (.fn f l)]:=bl
@[go_sem] theorem aAw:M.nil.cells=[.nil]:=bl
@[go_sem] theorem aAx (k:Key)(g s o l:Nat):(M.ref k g s o l).cells=[.ref k g s o l]:=bl
@[go_sem] theorem aAy (k:Key)(g o:Nat):(M.ptr k g o).cells=[.ptr k g o]:=bl
@[go_sem] theorem aAz (f:FuncId)(l:List M):(M.fR f l).cells=[.fR f l]:=bl
@[go_sem] theorem aAA (k:IntKind)(n:Nat):idx (.I (.int k (n:Int)))=some n:=by simp[idx]
@[go_sem] theorem aAB (k:IntKind):idx (.I (.int k 0))=some 0:=bl
@[go_sem low] theorem aAC (k:IntKind)(n:Int):idx (.I (.int k n))=if 0<=n then some n.toNat else none:=bl
end
attribute [go_sem] GU GQ GP GR GW GX GY GZ xO G0 G6 G7 G8 zo PC G9 Ha Hb iS pq xN Hd uJ zp Dc Db GS GV zn KS jG ln cut chunk
 C9 KP KQ KR Bb zq Ba M.one M.known ps v3 dO Dd He qg qf De keyOf iT Df qh tn iG mj Dg oF
end Go.Mini
namespace Go.Mini
open Go
variable {P:Program} {A:Nat->Prop} {w:World} {B:eH} {mem:Mem}
def zE (w aL:World)(aP:Nat->Prop)(sz:Nat)(es:List (List Data))(v:Value):Prop :=
 (∀e∈es,D e=sz)/\∃a cap,v=.slice a (D es) cap/\D es<=cap/\cap<=maxLen /\
  (cap=0\/∃b vs T,a=some ⟨b,0,none⟩/\w.heap.size<=b/\aL.heap[b]?=some (.cells vs T (0,0))/\cap*sz<=vs.size /\
   ∀(i:Nat) (d:Data),es.flatten[i]?=some d->∃u,vs[i]?=some u/\Den aL (λe2=>aP e2\/e2=b) d u)
def P1 (P:Program)(f:FuncId)(vs:List Value)(A:Nat->Prop)(w:World)(B:eH)(mem:Mem):gO->Prop
 |.same r=>Calls P f vs.toArray w λe aL=>∃v,e=.returned v/\Fr (λ_=>False) w aL/\Den aL (cb A B) r v
 |.own sz es=>Calls P f vs.toArray w λe aL=>∃v,e=.returned v/\Fr (λ_=>False) w aL/\zE w aL (cb A B) sz es v
 |.rel bZ=>Calls P f vs.toArray w λe aL=>∃v r mem' bo,e=.returned v/\ez A w B aL bo mem'/\bm aL (cb A bo) bo r v/\bZ r mem'
 |.eK r k g i c=>Calls P f vs.toArray w λe aL=>∃v bo,e=.returned v/\ez A w B aL bo (a3 mem k g ((qf mem k).set i c))/\bm aL (cb A bo) bo (.I r) v
def Real (P : Program)(f : FuncId): Prop := ∃ fn c, P.funcs[f]? = some fn /\ fn.body = some c /\ (fn.name == "runtime.NumGoroutine") = false
def qm (P:Program)(T:bk):Prop:=∀f args mem oK,T f args mem=some oK->Real P f /\
 ∀A w B vs,fj A w B mem->c0 w (cb A B) B args vs->P1 P f vs A w B mem oK
theorem Lf {f:FuncId}(h:Real P f)(args:Array Value):(callFunc f args).run P w=.ok (.enter f args) w:=by
 obtain⟨fn,c,aJ,ad,aG⟩:=h;have E : fn.name ≠ "runtime.NumGoroutine" := by simpa using aG
 simp[callFunc,aJ,E,ad]
theorem Den.less {w:World}{aP n1:Nat->Prop}(h:∀b,n1 b->aP b){d:Data}{v:Value}(X:Den w aP d v):Den w n1 d v :=
 X.qU (bM _) λb _ ad=>⟨rfl,λO=>ad (h b O)⟩
theorem zE.den {w aL:World}{aP:Nat->Prop}{sz:Nat}{es:List (List Data)}{v:Value}(ao:∀b,aP b->b<w.heap.size)(h:zE w aL aP sz es v):Den aL aP (.ae es) v:=by
 obtain⟨he,a,cap,rfl,E,H,ab⟩:=h;rcases ab with rfl|⟨b,vs,T,rfl,aM,bj,bH,bA⟩
 ·have:es=[]:=r5 (by omega);subst this;exact .kI
 ·have Hu:b<aL.heap.size:=(Array.getElem?_eq_some_iff.1 bj).1;refine .ae (sz:=sz) (λi=>vs.getD i undef) E (by omega) Hu (λbu=>by have:=ao b bu;omega) he (λi L=>?_) λi d X=>?_
  ·have ao:i<D es.flatten:=by rw[KK he];exact L
   obtain⟨u,hu,_⟩:=bA i _ (bx ao);rw[cell_of_row aL b _ vs T (0,0) bj,oH,Array.getD_eq_getD_getElem?,hu]
   rfl
  ·obtain⟨u,hu,X⟩:=bA i d X;rw[Array.getD_eq_getD_getElem?,hu];exact X.less λb h => .inl h
theorem Y3 {aL:World}{sz:Nat}{es:List (List Data)}{v:Value}(k:Key)(bO:fj A w B mem)(f:Fr (λ_=>False) w aL)(h:zE w aL (cb A B) sz es v):
  ∃bo,ez A w B aL bo (a3 mem k (bW mem k) (es.flatten.map .I))/\bm aL (cb A bo) bo (.ref k (bW mem k) sz 0 (D es)) v:=by
 obtain⟨he,a,cap,rfl,E,H,ab⟩:=h;have still:=ez.still bO f;rcases ab with rfl|⟨b,vs,T,rfl,aM,bj,bH,bA⟩
 ·have:es=[]:=r5 (by omega);subst this;exact⟨_,still.trans (ez.xT still.ed k),.ref (gW _ _ _) (bM _) ⟨_,0,rfl,E,H,.inl rfl⟩⟩
 ·have Hu:b<aL.heap.size:=(Array.getElem?_eq_some_iff.1 bj).1
  have eQ:∀e2,(⟨bW mem k,some b,vs.size⟩:lh).di=some e2->w.heap.size<=e2\/∃e,B k=some e/\e.di=some e2:=λe2 lp=>by
   cases lp;exact .inl aM
  have ir:=KK he;have hmul:(D es)*sz<=cap*sz:=q5 _ E;have hold:∀e2,e2<w.heap.size->(∀e,B k=some e->e.di≠some e2)->aL.heap[e2]?=w.heap[e2]?:=λe2 lp _=>f.block e2 lp id;have aU:∀e,B k=some e->(⟨bW mem k,some b,vs.size⟩:lh)=e\/e.g<(⟨bW mem k,some b,vs.size⟩:lh).g:=λe he => .inr (Dn bO k e he);refine⟨gJ B k ⟨bW mem k,some b,vs.size⟩,⟨?_,Trans.change f.size hold aU eQ,⟨f.os,f.tape,f.output,f.size,λe2 lp _=>f.block e2 lp id⟩,PF eQ⟩,?_⟩
  ·refine bO.Yl (e':=⟨bW mem k,some b,vs.size⟩) f.size hold aU eQ (λh=>by cases h) λe2 lp=>?_
   cases lp;refine⟨vs,T,bj,rfl,by rw[List.length_map,ir];omega,λi m hm=>?_⟩
   rw[bd,dV] at hm;obtain⟨d,X,rfl⟩:=hm;obtain⟨u,hu,uT⟩:=bA i d X;refine⟨u,hu,.I (uT.less λe2 lp=>?_)⟩;rcases lp with ⟨j,e,ag,O⟩|aZ
   ·by_cases eR:j=k
    ·subst eR;rw[gW] at ag
     cases ag
     cases O;exact .inr rfl
    ·rw[gP B _ eR] at ag;exact .inl (.inl ⟨j,e,ag,O⟩)
   ·exact .inl (.inr aZ)
  ·exact .ref (gW _ _ _) (bM _) ⟨_,cap,rfl,E,H,.inr ⟨b,rfl,λ_=>⟨rfl,by simpa using bH⟩⟩⟩
end Go.Mini
namespace Go.Mini
open Go
variable {P:Program} {T:bk} {A:Nat->Prop} {dw w:World} {gS B:eH} {mem:Mem} {n:Nat}
structure g9 (n:Nat) (A:Nat->Prop) (dw:World) (gS:eH) (a:Act) (st:a2) (w:World) (B:eH):Prop where
 ok:ez A dw gS w B st.mem
 tm:∀s,bm w (cb A B) B (st.tm s) (a.eval (.tmp s))
 sz:a.tmps.size=n
 Hv:a.defers=[]
theorem g9.uU {a:Act}{st:a2}(h:g9 n A dw gS a st w B)(x:Operand)(y:bF)(O:dB x=some y):bm w (cb A B) B (a0 st.tm y) (a.eval x):=by
 cases x<;>simp only[dB,b8,dV,reduceCtorEq] at O
 ·subst O;exact h.tm _
 ·obtain⟨m,hm,rfl⟩:=O;exact ai2 hm
 ·subst O;exact .fR (vs:=[]) rfl λi d v E=>by simp at E
theorem ake {a:Act}{s:Nat}{v:Value}(h:s<a.tmps.size):(a.put (some s) v).eval (.tmp s)=v:=by
 simp[Act.eval,Act.put,h]
theorem g9.put {a:Act}{st:a2}{aL:World}{bo:eH}{mem':Mem}{dst:Option Nat}{r:M}{v:Value}(h:g9 n A dw gS a st w B)(Q:ez A w B aL bo mem')(Y:bm aL (cb A bo) bo r v)
  (X:dst.all (λd=>decide (d<n))=true):g9 n A dw gS (a.put dst v) ⟨Mini.put st.tm dst r,mem'⟩ aL bo:=by
 refine⟨h.ok.trans Q,λs=>?_,?_,?_⟩
 ·cases dst with
  |none=>exact (h.tm s).qU Q.ml
  |some d =>
   simp only[Option.all_some,decide_eq_true_eq] at X
   by_cases Hw:s=d
   ·subst Hw;rw[ake (by rw[h.sz];exact X)];simp only[Mini.put,eK,if_true];exact Y
   ·rw[Act.eval_put (λwm E H=>by cases E;cases H;exact Hw rfl)];simp only[Mini.put,eK,aa Hw];exact (h.tm s).qU Q.ml
 ·cases dst<;>simp[Act.put,h.sz]
 ·cases dst<;>simp[Act.put,h.Hv]
theorem P2 {a:Act}{st:a2}{ops:Array Oper}{o:Oper}{g:Option (Nat×Bool)}{b:Bool}(h:g9 n A dw gS a st w B)(aU:Hj ops o.guard=some g)(ad:n4 st.tm g=some b):
  Region.wanted o (yielded ops a.tmps)=b:=by
 unfold Region.wanted
 cases xY:o.guard with
 |none =>
  rw[xY] at aU;simp only[Hj,b8] at aU;subst aU;simp only[n4,b8] at ad;exact ad
 |some p =>
  obtain⟨j,c⟩:=p;rw[xY] at aU;simp only[Hj] at aU
  split at aU
  ·rename_i s Q;simp only[b8] at aU;subst aU;have aI:=h.tm s
   have ak:yielded ops a.tmps j=match a.eval (.tmp s) with|.bool b=>some b|_=>none:=by
    unfold yielded;rw[Q];simp only[Option.bind_some,Act.eval,Array.getD_eq_getD_getElem?]
    cases a.tmps[s]? with
    |none=>rfl
    |some v=>cases v<;>rfl
   simp only[n4] at ad;simp only[ak]
   split at ad
   ·rename_i t bI;rw[bI] at aI
    cases aI with
    |I aI =>
     generalize a.eval (.tmp s)=u at *
     cases aI;simp only[b8] at ad;subst ad
     cases t<;>cases c<;>simp
   ·rename_i bI;rw[bI] at aI;generalize a.eval (.tmp s)=u at *
    cases aI;simp only[b8] at ad;subst ad
    rfl
   ·cases ad
  ·cases aU
theorem Y4 {kb:Nat}{own:List Nat}{dst:Option Nat}{ty:TypeId}{op:Op}{f:FuncId}{args:List bF}(h:lo P kb own dst ty op=some (.call f args)):
  ∃c:Call,op=.call c/\c.callee=.value (.func f)/\c.args.toList.mapM dB=some args:=by
 cases op<;>simp only[lo,Bc,xQ] at h
 case call c =>
  refine⟨c,rfl,?_⟩;unfold zr at h
  (repeat' split at h)<;>simp_all [ej,dV]
 all_goals ((repeat' split at h)<;>simp_all [ej,dV])
theorem akf {kb:Nat}{own:List Nat}{dst:Option Nat}{ty:TypeId}{op:Op}{f:FuncId}{bG:Nat}{args:List bF}(h:lo P kb own dst ty op=some (.ll bG f args)):
  ∃c:Call,op=.call c/\c.callee=.value (.func f)/\c.args.toList.mapM dB=some args:=by
 cases op<;>simp only[lo,Bc,xQ] at h
 case call c =>
  refine⟨c,rfl,?_⟩;unfold zr at h
  (repeat' split at h)<;>simp_all [ej,dV]
  obtain⟨_,E,_,rfl,rfl⟩:=h;exact⟨rfl,E⟩
 all_goals ((repeat' split at h)<;>simp_all [ej,dV])
theorem Y5 {kb:Nat}{own:List Nat}{dst:Option Nat}{ty:TypeId}{op:Op}{f:FuncId}{k:Key}{sz:Nat}{args:List bF}(h:lo P kb own dst ty op=some (.m0 k sz f args)):
  ∃c:Call,op=.call c/\c.callee=.value (.func f)/\c.args.toList.mapM dB=some args:=by
 cases op<;>simp only[lo,Bc,xQ] at h
 case call c =>
  refine⟨c,rfl,?_⟩;unfold zr at h
  (repeat' split at h)<;>simp_all [ej,dV]
  obtain⟨_,_,_,_,_,E,_,_,rfl,rfl⟩:=h;exact⟨rfl,E⟩
 all_goals ((repeat' split at h)<;>simp_all [ej,dV])
theorem akg {kb:Nat}{own:List Nat}{dst:Option Nat}{ty:TypeId}{op:Op}{f:bF}{args:List bF}(h:lo P kb own dst ty op=some (.lk f args)):
  ∃(c:Call) (x:Operand),op=.call c/\c.callee=.value x/\dB x=some f/\c.args.toList.mapM dB=some args:=by
 cases op<;>simp only[lo,Bc,xQ] at h
 case call c =>
  refine⟨c,?_⟩;unfold zr at h
  (repeat' split at h)<;>simp_all [ej,dV]
 all_goals ((repeat' split at h)<;>simp_all [ej,dV])
theorem akh {kb:Nat}{own:List Nat}{dst:Option Nat}{ty:TypeId}{op:Op}{neg:Bool}{x:bF}(h:lo P kb own dst ty op=some (.pn neg x)):
  ∃(t e:TypeId) (y y':Operand) (z:TypeId),op=.binOp (if neg then .neq else .eql) t y y' z/\PE y'=true/\P.underlying t=some (.slice e)/\dB y=some x:=by
 cases op<;>simp only[lo,Bc,xQ] at h
 case call c =>
  unfold zr at h
  (repeat' split at h)<;>simp_all [ej,dV]
 case binOp bop t y y' z =>
  (repeat' split at h)<;>simp_all [ej,dV]
  all_goals
   obtain⟨E,rfl⟩:=h;exact⟨_,_,_,_,⟨rfl,rfl,rfl⟩,by assumption,by assumption,E⟩
 all_goals ((repeat' split at h)<;>simp_all [ej,dV])
end Go.Mini
namespace Go.Mini
open Go
variable {P:Program} {T:bk} {A:Nat->Prop} {dw w:World} {gS B:eH} {mem:Mem} {n:Nat}
theorem aki {t e:TypeId}{y y':Operand}{m:M}{u v:Value}{aP:Nat->Prop}{full:Bool}(neg:Bool)(bI:P.underlying t=some (.slice e))(hm:bm w aP B m u)(aJ:Bb m=some full)(aI:v=.slice none 0 0):
  ∃b:Bool,(full=true->b=false)/\((do eqGuard (if neg then .neq else .eql) t y y' u v;binOp (if neg then .neq else .eql) t u v:Sem Value)).run P w=.ok (.bool (neg != b)) w:=by
 subst aI
 have shape:∃a len cap,u=.slice a len cap/\(full=true->a.isNone=false):=by
  cases m<;>simp only[Bb,reduceCtorEq] at aJ
  case I d =>
   cases d<;>simp only[Bb,b8,reduceCtorEq] at aJ
   cases hm with
   |I X =>
    cases X with
    |kI=>exact⟨_,_,_,rfl,λh=>by cases aJ;cases h⟩
    |ae=>exact⟨_,_,_,rfl,λ_=>rfl⟩
  case nil =>
   cases hm with
   |nil=>exact⟨_,_,_,rfl,λh=>by cases aJ;cases h⟩
  case ref k g sz off len =>
   cases hm with
   |ref he aU Y =>
    obtain⟨a,cap,rfl,E,H,ab⟩:=Y;refine⟨_,_,_,rfl,λh=>?_⟩;simp only[b8] at aJ;subst aJ;simp only[decide_eq_true_eq] at h;rcases ab with ab|⟨b,rfl,_⟩
    ·omega
    ·rfl
 obtain⟨a,len,cap,rfl,ad⟩:=shape;refine⟨a.isNone,ad,?_⟩
 have he:∀d,(Op.equalIn (d+1) t (.slice a len cap) (.slice none 0 0)).run P w=.ok a.isNone w:=λd=>by
  unfold Op.equalIn;simp only[Sem.run_bind,run_underlying bI,Result.andThen_ok]
  cases a<;>rfl
 have heq:(Op.equal t (.slice a len cap) (.slice none 0 0)).run P w=.ok a.isNone w:=he 9999;rw[KV (by simp) (by simp)]
 cases neg
 ·simp only[jU,if_false,Sem.run_bind,Sem.run_pure,Result.andThen_ok];show (do pure (Value.bool (<-Op.equal t (.slice a len cap) (.slice none 0 0))):Sem Value).run P w=_
  simp[heq]
 ·simp only[if_true,Sem.run_bind,Sem.run_pure,Result.andThen_ok];show (do pure (Value.bool (!(<-Op.equal t (.slice a len cap) (.slice none 0 0)))):Sem Value).run P w=_
  simp[heq]
structure P3 (P:Program) (n kb:Nat) (own:List Nat) (ops:Array Oper) (o:Oper) (i:cB):Prop where
 dst:i.dst=o.dst
 guard:Hj ops o.guard=some i.g
 op:i.op=(lo P kb own o.dst o.type o.op).getD .bad
 lt:o.dst.all (λd=>decide (d<n))=true
theorem Y6 {kb:Nat}{own:List Nat}{ops:Array Oper}{o:Oper}{i:cB}(h:zs P n kb own ops o=some i):P3 P n kb own ops o i:=by
 unfold zs at h
 split at h
 ·rename_i g aU
  split at h
  ·rename_i ao
   cases h;exact⟨rfl,aU,rfl,ao⟩
  ·cases h
 ·cases h
theorem akj {K:a2->Prop}{i:cB}{st:a2}(h:ga T K i st):
  (∃m e,b3 st.mem st.tm i.op=some (m,e)/\K ⟨put st.tm i.dst m,ib st.mem e⟩) \/
  (∃f args,i.op=.call f args/\tl T K st i.dst f (args.map (a0 st.tm))) \/
  (∃k sz f args es,i.op=.m0 k sz f args/\T f (args.map (a0 st.tm)) st.mem=some (.own sz es)/\K ⟨put st.tm i.dst (.ref k (bW st.mem k) sz 0 (D es)),a3 st.mem k (bW st.mem k) (es.flatten.map .I)⟩) \/
  (∃f args,i.op=.lk f args/\((∃g eW,a0 st.tm f=.fR g eW/\tl T K st i.dst g (args.map (a0 st.tm)++eW))\/(∃g ds,a0 st.tm f=.I (.fn g ds)/\tl T K st i.dst g (args.map (a0 st.tm)++ds.map .I)))) \/
  (∃neg x full,i.op=.pn neg x/\Bb (a0 st.tm x)=some full/\∀b:Bool,(full=true->b=false)->K ⟨put st.tm i.dst (.I (.bool (neg != b))),st.mem⟩):=by
 obtain⟨dst,g,op⟩:=i;unfold ga at h
 split at h
 ·rename_i f args m3;exact .inr (.inl ⟨f,args,m3,h⟩)
 ·rename_i k sz f args m3
  split at h
  ·rename_i dU es he
   split at h
   ·rename_i Q;subst Q;exact .inr (.inr (.inl ⟨k,_,f,args,es,m3,he,h⟩))
   ·cases h
  ·cases h
 ·rename_i f args m3;refine .inr (.inr (.inr (.inl ⟨f,args,m3,?_⟩)))
  split at h
  ·rename_i g eW aJ;exact .inl ⟨g,eW,aJ,h⟩
  ·rename_i g ds aJ;exact .inr ⟨g,ds,aJ,h⟩
  ·cases h
 ·rename_i neg x m3
  split at h
  ·rename_i full aJ;exact .inr (.inr (.inr (.inr ⟨neg,x,full,m3,aJ,h⟩)))
  ·cases h
 ·split at h
  ·rename_i m e he;exact .inl ⟨m,e,he,h⟩
  ·cases h
theorem getD_some {α:Type}{x:Option α}{b c:α}(h:c=x.getD b)(ad:c≠b):x=some c:=by
 cases x with
 |none=>exact absurd h ad
 |some y=>simp at h;rw[h]
theorem Y7 (cz:qm P T){K:a2->Prop}{a:Act}{st:a2}{o:Oper}{aF:Exit->Act->World->Prop}{f:FuncId}{args:List M}{vs:List Value}(h:g9 n A dw gS a st w B)(ao:o.dst.all (λd=>decide (d<n))=true)
  (aI:c0 w (cb A B) B args vs) (J:tl T K st o.dst f args) (lT:Real P f->(execOp a.eval o).run P w=.ok (.enter f vs.toArray) w) :
  o.wp P a w (λeS aL=>∃dt bo,K dt/\g9 n A dw gS eS dt aL bo) aF:=by
 unfold tl at J;unfold Oper.wp
 cases js:T f args st.mem with
 |none=>rw[js] at J;exact J.elim
 |some oK =>
  obtain⟨oL,kM⟩:=cz f args st.mem oK js;have G:=kM A w B vs h.ok.ed aI;rw[js] at J;rw[lT oL]
  cases oK with
  |same r =>
   refine Calls.mono G λe aL he=>?_;obtain⟨v,rfl,bK,X⟩:=he;exact⟨_,B,J,h.put (.still h.ok.ed bK) (.I X) ao⟩
  |own sz es =>
   refine Calls.mono G λe aL he=>?_;obtain⟨v,rfl,bK,X⟩:=he;refine⟨_,B,J,h.put (.still h.ok.ed bK) (.I (X.den λb ad=>?_)) ao⟩;rcases ad with ad|ad
   ·exact h.ok.ed.zl ad
   ·exact h.ok.ed.lt b ad
  |rel bZ =>
   refine Calls.mono G λe aL he=>?_;obtain⟨v,r,mem',bo,rfl,Q,X,jK⟩:=he;exact⟨_,bo,J r mem' jK,h.put Q X ao⟩
  |eK r k g i c =>
   refine Calls.mono G λe aL he=>?_;obtain⟨v,bo,rfl,Q,X⟩:=he;exact⟨_,bo,J,h.put Q X ao⟩
theorem akk {aP:Nat->Prop}{m:M}{u:Value}{g:FuncId}{eW:List M}(hm:bm w aP B m u)(h:m=.fR g eW\/∃ds,m=.I (.fn g ds)/\eW=ds.map .I):
  ∃cs:List Value,u=.func (.func g) #[] cs.toArray/\c0 w aP B eW cs:=by
 rcases h with rfl|⟨ds,rfl,rfl⟩
 ·cases hm with
  |fR aq X=>exact⟨_,rfl,aq,X⟩
 ·cases hm with
  |I X =>
   cases X with
   |fn aq X=>exact⟨_,rfl,c0.I aq X⟩
theorem akl (cz:qm P T){K:a2->Prop}{kb:Nat}{own:List Nat}{ops:Array Oper}{a:Act}{st:a2}{o:Oper}{i:cB}{aF:Exit->Act->World->Prop}(h:g9 n A dw gS a st w B)(L:P3 P n kb own ops o i)
  (J:ga T K i st):o.wp P a w (λeS aL=>∃dt bo,K dt/\g9 n A dw gS eS dt aL bo) aF:=by
 have m3:=L.op;rcases akj J with ⟨m,e,Q,dp⟩|⟨f,args,he,dp⟩|⟨k,sz,f,args,es,he,js,dp⟩|⟨f,args,he,dp⟩|⟨neg,x,full,he,aJ,dp⟩
 ·have aT:lo P kb own o.dst o.type o.op=some i.op:=getD_some m3 (by
   intro ad;rw[ad] at Q
   cases Q)
  obtain⟨DE,v,aL,bo,lT,fV,eA,aI⟩:=YZ h.ok.ed h.uU aT Q;unfold Oper.wp;rw[lT];rw[L.dst] at dp;have Hx:=h.put eA aI L.lt;rcases fV with rfl|⟨rfl,rfl⟩
  ·exact⟨_,bo,dp,Hx⟩
  ·exact⟨_,bo,dp,Hx⟩
 ·have aT:lo P kb own o.dst o.type o.op=some i.op:=getD_some m3 (by rw[he];simp);rw[he] at aT;obtain⟨c,G,oa,py⟩:=Y4 aT;rw[L.dst] at dp;refine Y7 cz h L.lt (zz h.uU py) dp λoL=>?_;obtain⟨dst,op,type,pos,after,guard⟩:=o;simp only at G;subst G;obtain⟨callee,x1,Lg⟩:=c;simp only at oa;subst oa;simp only[execOp,resolve,Deferred.ofValue,Act.eval,invoke,Sem.run_bind,Sem.run_pure,Result.andThen_ok,Lf oL];rw[zA x1];simp
 ·have aT:lo P kb own o.dst o.type o.op=some i.op:=getD_some m3 (by rw[he];simp);rw[he] at aT;obtain⟨c,G,oa,py⟩:=Y5 aT;rw[L.dst] at dp;obtain⟨oL,kM⟩:=cz f _ st.mem _ js;have mr:=kM A w B _ h.ok.ed (zz h.uU py);have ao:=L.lt;obtain⟨dst,op,type,pos,after,guard⟩:=o;simp only at G;subst G;obtain⟨callee,x1,Lg⟩:=c;simp only at oa py;subst oa
  have lT:(execOp a.eval ⟨dst,.call ⟨.value (.func f),x1,Lg⟩,type,pos,after,guard⟩).run P w=.ok (.enter f (x1.toList.map a.eval).toArray) w:=by
   simp only[execOp,resolve,Deferred.ofValue,Act.eval,invoke,Sem.run_bind,Sem.run_pure,Result.andThen_ok,Lf oL];rw[zA x1];simp
  unfold Oper.wp;rw[lT];refine Calls.mono mr λe aL q7=>?_;obtain⟨v,rfl,bK,X⟩:=q7;obtain⟨bo,eA,aI⟩:=Y3 k h.ok.ed bK X;exact⟨_,bo,dp,h.put eA aI ao⟩
 ·have aT:lo P kb own o.dst o.type o.op=some i.op:=getD_some m3 (by rw[he];simp);rw[he] at aT;obtain⟨c,x,G,oa,O,py⟩:=akg aT;rw[L.dst] at dp;have akm:=h.uU _ _ O
  have main:∀g eW,(a0 st.tm f=.fR g eW\/∃ds,a0 st.tm f=.I (.fn g ds)/\eW=ds.map .I)->tl T K st o.dst g (args.map (a0 st.tm)++eW)->o.wp P a w (λeS aL=>∃dt bo,K dt/\g9 n A dw gS eS dt aL bo) aF:=by
   intro g eW aU dp;obtain⟨cs,hu,bV⟩:=akk akm aU;refine Y7 cz h L.lt ((zz h.uU py).append bV) dp λoL=>?_;obtain⟨dst,op,type,pos,after,guard⟩:=o;simp only at G;subst G;obtain⟨callee,x1,Lg⟩:=c;simp only at oa;subst oa;simp only[execOp,resolve,hu,Deferred.ofValue,invoke,Sem.run_bind,Sem.run_pure,Result.andThen_ok,Lf oL];rw[zA x1];simp
  rcases dp with ⟨g,eW,aU,dp⟩|⟨g,ds,aU,dp⟩
  ·exact main g eW (.inl aU) dp
  ·exact main g _ (.inr ⟨ds,aU,rfl⟩) dp
 ·have aT:lo P kb own o.dst o.type o.op=some i.op:=getD_some m3 (by rw[he];simp);rw[he] at aT;obtain⟨t,e,y,y',z,G,aG,bI,ak⟩:=akh aT;rw[L.dst] at dp
  have P4:a.eval y' = .slice none 0 0:=by
   unfold PE at aG
   split at aG
   ·rfl
   ·cases aG
  obtain⟨b,ad,lT⟩:=aki (y:=y) (y':=y') neg bI (h.uU _ _ ak) aJ P4;obtain⟨dst,op,type,pos,after,guard⟩:=o;simp only at G;subst G;unfold Oper.wp
  have:(execOp a.eval ⟨dst,.binOp (if neg then .neq else .eql) t y y' z,type,pos,after,guard⟩).run P w=.ok (.value (.bool (neg != b))) w:=by
   simp only[execOp];rw[Sem.run_bind,lT]
   rfl
  rw[this];exact⟨_,B,dp b ad,h.put (.refl h.ok.ed) (.I .bool) L.lt⟩
end Go.Mini
namespace Go.Mini
open Go
variable {T:bk}
theorem fx {tm tm':Nat->M}{x:bF}(h:∀s∈fa x,tm s=tm' s):a0 tm x=a0 tm' x:=by
 cases x with
 |t s=>exact h s (by simp[fa])
 |c m=>rfl
theorem map_congr {tm tm':Nat->M}{l:List bF}(h:∀s∈l.flatMap fa,tm s=tm' s):l.map (a0 tm)=l.map (a0 tm') :=
 m5 λx O=>fx λs Q=>h s (Bo.2 ⟨x,O,Q⟩)
theorem Y8 {tm tm':Nat->M}{l:List bF}(h:∀s∈l.flatMap fa,tm s=tm' s):(l.map λx=>zq (a0 tm x))=l.map λx=>zq (a0 tm' x) :=
 m5 λx O=>by rw[fx λs Q=>h s (Bo.2 ⟨x,O,Q⟩)]
theorem Bp {tm tm':Nat->M}{x:Option bF}(h:∀s∈v9 x,tm s=tm' s):x.map (a0 tm)=x.map (a0 tm'):=by
 cases x with
 |none=>rfl
 |some x =>
  cases x with
  |t s=>simp[a0,h s (by simp[v9])]
  |c m=>rfl
theorem P5 {tm tm':Nat->M}:∀{cS:List (Nat×Nat×bF)} (cs:List M),(∀s∈cS.flatMap (λp=>fa p.2.2),tm s=tm' s)->jG (a0 tm) cs cS=jG (a0 tm') cs cS
 | [],_,_=>rfl
 |(o,s,x)::cS,cs,h=>by
  have E:a0 tm x=a0 tm' x:=fx λt bI=>h t (Bo.2 ⟨(o,s,x),by simp,bI⟩);simp only[jG,E]
  split
  ·exact P5 _ λt bI=>h t (by simp only[List.flatMap_cons,iw];exact .inr bI)
  ·rfl
theorem akn {mem:Mem}{tm tm':Nat->M}{op:jo}(h:∀s∈wa op,tm s=tm' s):b3 mem tm op=b3 mem tm' op:=by
 cases op<;>simp only[wa,iw] at h
 case cn x=>simp only[b3,jT,fx h]
 case pick c a b=>simp only[b3,jT,fx (λs Q=>h s (.inl (.inl Q))),fx (λs Q=>h s (.inl (.inr Q))),fx (λs Q=>h s (.inr Q))]
 case alloc=>rfl
 case box k x=>simp only[b3,fx h]
 case build z cS=>simp only[b3,jT,P5 _ h]
 case e7 k o z sz len cS=>cases o<;>simp only[b3,jT,P5 _ h]
 case load n dy x=>simp only[b3,fx h]
 case store n x v=>simp only[b3,fx (λs Q=>h s (.inl Q)),fx (λs Q=>h s (.inr Q))]
 case bin o x y=>simp only[b3,jT,fx (λs Q=>h s (.inl Q)),fx (λs Q=>h s (.inr Q))]
 case beq o x y=>simp only[b3,jT,fx (λs Q=>h s (.inl Q)),fx (λs Q=>h s (.inr Q))]
 case eqs o l x y=>simp only[b3,jT,fx (λs Q=>h s (.inl Q)),fx (λs Q=>h s (.inr Q))]
 case pn=>rfl
 case un o x=>simp only[b3,jT,fx h]
 case conv k x=>simp only[b3,jT,fx h]
 case qW x=>simp only[b3,jT,fx h]
 case lj k z b x y=>simp only[b3,fx (λs Q=>h s (.inl Q)),fx (λs Q=>h s (.inr Q))]
 case eX o x=>simp only[b3,jT,fx h]
 case zm o n dy x=>simp only[b3,jT,fx h]
 case jF s x i=>simp only[b3,jT,fx (λs Q=>h s (.inl Q)),fx (λs Q=>h s (.inr Q))]
 case n3 n s x i=>simp only[b3,jT,fx (λs Q=>h s (.inl Q)),fx (λs Q=>h s (.inr Q))]
 case idxs x i=>simp only[b3,jT,fx (λs Q=>h s (.inl Q)),fx (λs Q=>h s (.inr Q))]
 case qX s x a b c =>
  have E:=fx (λs Q=>h s (.inl (.inl (.inl Q))));have H:=Bp (λs Q=>h s (.inl (.inl (.inr Q))));have ab:=Bp (λs Q=>h s (.inl (.inr Q)));have aM:=Bp (λs Q=>h s (.inr Q))
  cases b<;>cases c<;>simp only[iW,Y9,b8] at ab aM<;>simp only[b3,jT,iW,Y9,E,H,ab,aM]
 case rV n s x a b c =>
  have E:=fx (λs Q=>h s (.inl (.inl (.inl Q))));have H:=Bp (λs Q=>h s (.inl (.inl (.inr Q))));have ab:=Bp (λs Q=>h s (.inl (.inr Q)))
  cases c<;>simp only[b3,jT,E,H,ab]
 case A9 x a b=>simp only[b3,jT,fx (λs Q=>h s (.inl (.inl Q))),Bp (λs Q=>h s (.inl (.inr Q))),Bp (λs Q=>h s (.inr Q))]
 case ext i x=>simp only[b3,jT,fx h]
 case len x=>simp only[b3,jT,fx h]
 case lens x=>simp only[b3,jT,fx h]
 case app k z b s x=>simp only[b3,fx (λs Q=>h s (.inl Q)),fx (λs Q=>h s (.inr Q))]
 case qY s d x=>simp only[b3,fx (λs Q=>h s (.inl Q)),fx (λs Q=>h s (.inr Q))]
 case il o x y=>simp only[b3,jT,fx (λs Q=>h s (.inl Q)),fx (λs Q=>h s (.inr Q))]
 case call=>rfl
 case m0=>rfl
 case lk=>rfl
 case ll=>rfl
 case tk f l=>simp only[b3,jT,map_congr h]
 case bad=>rfl
theorem Za {mem:Mem}{tm tm':Nat->M}{op:jo}(h:∀s∈wa op,tm s=tm' s):iG T mem tm op=iG T mem tm' op:=by
 cases op
 case call f l =>
  have:=Y8 (l:=l) (tm:=tm) (tm':=tm') (by simpa [wa] using h);simp only[iG,this]
 case m0 k sz f l =>
  have:=Y8 (l:=l) (tm:=tm) (tm':=tm') (by simpa [wa] using h);simp only[iG,this]
 case lk=>rfl
 case pn=>rfl
 case ll bG f l =>
  have:=map_congr (l:=l) (tm:=tm) (tm':=tm') (by simpa [wa] using h);simp only[iG,this]
 all_goals exact akn (mem:=mem) h
theorem Zb {tm tm':Nat->M}{op:jo}(h:∀s∈wa op,tm s=tm' s):dO tm op=dO tm' op:=by
 cases op<;>simp only[wa,iw] at h<;>try rfl
 case e7 k o z sz len cS=>cases o<;>rfl
 case load n dy x=>simp only[dO,fx h]
 case rV n s x a b c=>simp only[dO,fx (λs Q=>h s (.inl (.inl (.inl Q))))]
 case store n x v=>simp only[dO,fx (λs Q=>h s (.inl Q))]
 case app k z b s x=>simp only[dO,fx (λs Q=>h s (.inl Q)),fx (λs Q=>h s (.inr Q))]
 case qY s d x=>simp only[dO,fx (λs Q=>h s (.inl Q)),fx (λs Q=>h s (.inr Q))]
 case ll bG f l=>simp only[dO,map_congr h]
theorem ako {n:Nat}{m:M}{aF:Key->Prop}(h:∀x∈Dd n m,aF x.key):∀j∈keyOf m,aF j:=by
 cases m<;>simp_all [Dd,keyOf,n5.key]
theorem Zc {mem mem':Mem}{sz:Nat}{m:M}(h:∀k∈keyOf m,mem k=mem' k):ps mem sz m=ps mem' sz m:=by
 cases m<;>try rfl
 case I d=>cases d<;>rfl
 simp only[ps];rw[h _ (by simp[keyOf])]
theorem akp {mem mem':Mem}{k:Key}{z:List M}{b:Nat}{m:M}{row:Option (Nat×List M)}(J:mem k=mem' k)(h:∀j∈keyOf m,mem j=mem' j):qe mem k z b m row=qe mem' k z b m row:=by
 cases m<;>cases row<;>try rfl
 ·simp only[qe,bW,J]
 ·simp only[qe];rw[h _ (by simp[keyOf])]
theorem akq {mem mem':Mem}{sz:Nat}{m:M}{row:Option (Nat×List M)}(h:∀j∈keyOf m,mem j=mem' j):uJ mem sz m row=uJ mem' sz m row:=by
 cases m<;>cases row<;>try rfl
 simp only[uJ];rw[h _ (by simp[keyOf])]
theorem akr {mem mem':Mem}{n:Nat}{dy:Bool}{m:M}(h:∀j∈keyOf m,mem j=mem' j):pr mem n dy m=pr mem' n dy m:=by
 cases m<;>try rfl
 case I d=>cases d<;>rfl
 simp only[pr];rw[h _ (by simp[keyOf])]
theorem aks {mem mem':Mem}{n:Nat}{m:M}{v:List M}(h:∀j∈keyOf m,mem j=mem' j):v5 mem n m v=v5 mem' n m v:=by
 cases m<;>try rfl
 simp only[v5];rw[h _ (by simp[keyOf])]
theorem akt {mem mem':Mem}{n s a b:Nat}{m:M}(h:∀j∈keyOf m,mem j=mem' j):zo mem n s a b m=zo mem' n s a b m:=by
 cases m<;>try rfl
 simp only[zo];rw[h _ (by simp[keyOf])]
theorem aku {mem mem':Mem}{tm:Nat->M}{op:jo}(h:∀x∈dO tm op,mem x.key=mem' x.key):b3 mem tm op=b3 mem' tm op:=by
 have DE:∀k,mem k=mem' k->bW mem k=bW mem' k:=λk J=>by simp only[bW,J]
 cases op<;>try rfl
 case alloc k z=>simp only[b3,DE k (h (.h0 k) (by simp[dO]))]
 case box k x=>simp only[b3,DE k (h (.h0 k) (by simp[dO]))]
 case e7 k o z sz len cS =>
  cases o
  ·rfl
  ·simp only[b3,DE k (h (.h0 k) (by simp[dO]))]
 case lj k z b x y=>simp only[b3,DE k (h (.h0 k) (by simp[dO]))]
 case load n dy x =>
  simp only[b3];rw[akr (ako (aF:=λj=>mem j=mem' j) h)]
 case rV n s x a b c =>
  cases c
  ·simp only[b3]
   congr 2
   funext l
   congr 1
   funext aQ
   exact akt λj ag=>h (.h0 j) (by simp[dO,ag])
  ·rfl
 case store n x v =>
  simp only[b3];exact aks λj ag=>h (.h0 j) (by simp[dO,ag])
 case app k z b s x =>
  have b2:∀j,j=k\/j∈keyOf (a0 tm s)\/j∈keyOf (a0 tm x)->mem j=mem' j:=λj ag=>h (.h0 j) (by simpa [dO] using ag);simp only[b3,Zc (sz:=D z) (λj ag=>b2 j (.inr (.inr ag)))];exact akp (b2 k (.inl rfl)) λj ag=>b2 j (.inr (.inl ag))
 case qY s d x =>
  have b2:∀j,j∈keyOf (a0 tm d)\/j∈keyOf (a0 tm x)->mem j=mem' j:=λj ag=>h (.h0 j) (by simpa [dO] using ag);simp only[b3,Zc (sz:=s) (λj ag=>b2 j (.inr ag))];exact akq λj ag=>b2 j (.inl ag)
theorem Zd {mem mem':Mem}{tm:Nat->M}{op:jo}(G:∀bG f l,op ≠ .ll bG f l)(h:∀x∈dO tm op,mem x.key=mem' x.key):iG T mem tm op=iG T mem' tm op:=by
 cases op
 case call=>rfl
 case m0 k sz f l =>
  have:bW mem k=bW mem' k:=by
   have:=h (.h0 k) (by simp[dO]);simp only[n5.key] at this;simp only[bW,this]
  simp only[iG,this]
 case ll bG f l=>exact absurd rfl (G bG f l)
 case lk=>rfl
 case pn=>rfl
 all_goals exact aku (mem:=mem) (mem':=mem') (tm:=tm) h
theorem Lh {x:Option M}{m:M}{e:Option (Key×Nat×List M)}(h:im x=some (m,e)):e=none:=(YV h).2
theorem akv {mem:Mem}{tm:Nat->M}{op:jo}{m:M}{e:Option (Key×Nat×List M)}(h:b3 mem tm op=some (m,e)):e=none\/(iT op=true/\∃k g cs,e=some (k,g,cs) /\ .h0 k∈dO tm op):=by
 cases op<;>try (first|exact .inl (Lh h)|exact .inl (Lh (x:=some _) h))
 case alloc k z =>
  simp only[b3,b8,fv] at h;exact .inr ⟨rfl,_,_,_,h.2.symm,by simp[dO]⟩
 case box k x =>
  simp only[b3] at h
  split at h<;>simp only[b8,fv,reduceCtorEq] at h
  exact .inr ⟨rfl,_,_,_,h.2.symm,by simp[dO]⟩
 case e7 k o z sz len cS =>
  cases o
  ·exact .inl (Lh h)
  ·simp only[b3,Db] at h
   (repeat' split at h)<;>simp only[b8,fv,reduceCtorEq] at h
   exact .inr ⟨rfl,_,_,_,h.2.symm,by simp[dO]⟩
 case lj k z b x y =>
  obtain⟨_,_,_,_,h⟩:=YW h;simp only[Dc] at h
  split at h<;>simp only[b8,fv,reduceCtorEq] at h
  exact .inr ⟨rfl,_,_,_,h.2.symm,by simp[dO]⟩
 case rV n s x a b c =>
  cases c
  ·exact .inl (Lh h)
  ·cases h
 case store n x v =>
  simp only[b3] at h
  cases O:a0 tm x<;>rw[O] at h<;>simp only[v5,reduceCtorEq] at h
  simp only[Hd] at h
  (repeat' split at h)<;>simp only[b8,fv,reduceCtorEq] at h
  exact .inr ⟨rfl,_,_,_,h.2.symm,by simp[dO,O,keyOf]⟩
 case app k z b s x =>
  simp only[b3] at h
  cases Y:ps mem (D z) (a0 tm x)<;>cases Q:a0 tm s<;>rw[Y,Q] at h<;>simp only[qe,reduceCtorEq] at h
  ·split at h<;>simp only[b8,fv,reduceCtorEq] at h
   exact .inr ⟨rfl,_,_,_,h.2.symm,by simp[dO]⟩
  ·simp only[lQ] at h
   (repeat' split at h)<;>simp only[b8,fv,reduceCtorEq] at h
   exact .inr ⟨rfl,_,_,_,h.2.symm,by simp[dO,Q,keyOf]⟩
 case qY s d x =>
  simp only[b3] at h
  cases Y:ps mem s (a0 tm x)<;>cases Q:a0 tm d<;>rw[Y,Q] at h<;>simp only[uJ,reduceCtorEq] at h
  simp only[zp] at h
  (repeat' split at h)<;>simp only[b8,fv,reduceCtorEq] at h
  exact .inr ⟨rfl,_,_,_,h.2.symm,by simp[dO,Q,keyOf]⟩
 all_goals cases h
theorem Ze {bG:Nat}{mem:Mem}{ms:List M}{x:Option gO}{m:M}{e:Option (Key×Nat×List M)}(h:De bG mem ms x=some (m,e)):
  ∃r k g i c cs,x=some (.eK r k g i c)/\mem k=some (g,cs)/\m=.I r/\e=some (k,g,cs.set i c)/\He bG ms=[.wr k i]:=by
 unfold De at h
 split at h
 ·rename_i k g off rest r k' df i c
  split at h
  ·rename_i Bq cs hm
   split at h
   ·rename_i G;obtain⟨rfl,rfl,rfl⟩:=G;simp only[b8,fv] at h;exact⟨r,_,_,_,c,cs,rfl,hm,h.1.symm,h.2.symm,rfl⟩
   ·cases h
  ·cases h
 ·cases h
theorem P6 {mem:Mem}{tm:Nat->M}{op:jo}{m:M}{e:Option (Key×Nat×List M)}(h:iG T mem tm op=some (m,e)):e=none\/(iT op=true/\∃k g cs,e=some (k,g,cs)/\(.h0 k∈dO tm op\/∃i c r9,dO tm op=[.wr k i]/\mem k=some (g,r9)/\cs=r9.set i c)):=by
 have pl:b3 mem tm op=some (m,e)->e=none\/(iT op=true/\∃k g cs,e=some (k,g,cs)/\(.h0 k∈dO tm op\/∃i c r9,dO tm op=[.wr k i]/\mem k=some (g,r9)/\cs=r9.set i c)):=λh=>by
  rcases akv h with h|⟨E,k,g,cs,H,ab⟩
  ·exact .inl h
  ·exact .inr ⟨E,k,g,cs,H,.inl ab⟩
 cases op
 case call f l =>
  simp only[iG] at h
  split at h<;>simp only[b8,fv,reduceCtorEq] at h
  ·exact .inl h.2.symm
  ·exact .inl h.2.symm
 case m0 k sz f l =>
  simp only[iG] at h
  (repeat' split at h)<;>simp only[b8,fv,reduceCtorEq] at h
  exact .inr ⟨rfl,_,_,_,h.2.symm,.inl (by simp[dO])⟩
 case lk=>cases h
 case pn=>cases h
 case ll bG f l =>
  obtain⟨r,k,g,i,c,cs,-,hm,-,he,aJ⟩:=Ze h;exact .inr ⟨rfl,k,g,_,he,.inr ⟨i,c,cs,aJ,hm,rfl⟩⟩
 all_goals exact pl h
theorem akw {tm:Nat->M}{op:jo}{b:n5}(ad:b∈dO tm op):(∃k,b=.h0 k)\/(∃n dy x k g off,op=.load n dy x/\a0 tm x=.ptr k g off/\b=.rd k off (off+n))\/∃bG f l,op=.ll bG f l:=by
 cases op
 case load n dy x =>
  simp only[dO] at ad
  cases O:a0 tm x<;>rw[O] at ad<;>simp[Dd] at ad
  ·exact .inl ⟨_,ad⟩
  ·exact .inr (.inl ⟨_,_,_,_,_,_,rfl,O,ad⟩)
 case ll bG f l=>exact .inr (.inr ⟨_,_,_,rfl⟩)
 case e7 k o z sz len cS =>
  cases o<;>simp[dO] at ad;exact .inl ⟨_,ad⟩
 all_goals
  simp[dO] at ad
  try first
   |exact .inl ⟨_,ad⟩
   |(rcases ad with ⟨k,_,h⟩|⟨k,_,h⟩<;>exact .inl ⟨k,h.symm⟩)
   |(rcases ad with h|⟨k,_,h⟩|⟨k,_,h⟩<;>first|exact .inl ⟨_,h⟩|exact .inl ⟨_,h.symm⟩)
   |(obtain⟨k,_,h⟩:=ad;exact .inl ⟨k,h.symm⟩)
theorem akx {cs:List M}{i off n:Nat}{c:M}(h:i<off\/off+n<=i):cut (cs.set i c) off n=cut cs off n:=by
 unfold cut;rw[List.length_set]
 split
 ·congr 1
  rcases h with h|h
  ·rw[sa h]
  ·by_cases L:i<off
   ·rw[sa L]
   ·rw[List.drop_set,aa L,List.take_set_of_le (by omega)]
 ·rfl
theorem aky {mem:Mem}{k g i:Nat}{c:M}{cs:List M}{n:Nat}{dy:Bool}{k' df off:Nat}(hm:mem k=some (g,cs))(h:k'≠k\/i<off\/off+n<=i):
  pr (a3 mem k g (cs.set i c)) n dy (.ptr k' df off)=pr mem n dy (.ptr k' df off):=by
 by_cases J:k'=k
 ·subst J;have h:=h.resolve_left (λh=>h rfl);simp only[pr,a3,if_true,hm,akx h]
 ·simp only[pr,a3,J,if_false]
theorem Zf {mem:Mem}{tm:Nat->M}{x y:jo}{m:M}{e:Option (Key×Nat×List M)}(akz:iG T mem tm x=some (m,e))(aZ:qh (iT x,dO tm x) (iT y,dO tm y)=true):iG T (ib mem e) tm y=iG T mem tm y:=by
 rcases P6 akz with rfl|⟨hw,k,g,cs,rfl,J⟩
 ·rfl
 ·have e1:∀a∈dO tm x,∀b∈dO tm y,qg a b=true:=by
   unfold qh at aZ
   simpa [hw] using aZ
  have akA:∀bG f l,y=.ll bG f l->dO tm y=[]:=by
   rintro bG f l rfl
   cases ad:dO tm (.ll bG f l) with
   |nil=>rfl
   |cons b r =>
    exfalso
    have lp:∃k' a4,b=.wr k' a4:=by
     simp only[dO] at ad;unfold He at ad
     split at ad
     ·cases ad;exact⟨_,_,rfl⟩
     ·cases ad
    obtain⟨k',a4,rfl⟩:=lp;have hm:n5.wr k' a4∈dO tm (.ll bG f l):=by rw[ad];exact ha
    rcases J with J|⟨i,c,r9,aJ,_,_⟩
    ·have:=e1 _ J _ hm;simp[qg] at this
    ·have:=e1 (.wr k i) (by rw[aJ];exact ha) _ hm;simp[qg] at this
  by_cases ak:∃bG f l,y=.ll bG f l
  ·obtain⟨bG,f,l,rfl⟩:=ak;have ai:=akA _ _ _ rfl;simp only[dO] at ai
   have aR:∀mem' iH,De bG mem' (l.map (a0 tm)) iH=none:=by
    intro mem' iH;unfold De
    split
    ·rename_i heq;rw[heq] at ai;simp[He] at ai
    ·rfl
   simp only[iG,aR]
  ·have G:∀bG f l,y ≠ .ll bG f l:=λbG f l h=>ak ⟨bG,f,l,h⟩;rcases J with J|⟨i,c,r9,aJ,hm,rfl⟩
   ·refine (Zd G λb ad=>?_).symm;have E:=e1 _ J b ad
    have:b.key≠k:=by
     rintro rfl
     cases b<;>simp[qg,n5.key] at E
    simp[ib,a3,this]
   ·have E:=e1 (.wr k i) (by rw[aJ];exact ha)
    by_cases aq:∃n dy z k' df off,y=.load n dy z/\a0 tm z=.ptr k' df off
    ·obtain⟨n,dy,z,k',df,off,rfl,aR⟩:=aq;have H:=E (.rd k' off (off+n)) (by simp[dO,aR,Dd]);simp only[iG,b3,aR,ib];rw[aky hm];simp[qg] at H;exact H
    ·refine (Zd G λb ad=>?_).symm
     exfalso
     rcases akw ad with ⟨k',rfl⟩|⟨n,dy,z,k',df,off,ab,aM,_⟩|⟨bG,f,l,ab⟩
     ·have:=E _ ad;simp[qg] at this
     ·exact aq ⟨n,dy,z,k',df,off,ab,aM⟩
     ·exact G _ _ _ ab
theorem Zg {tm:Nat->M}{op:jo}(h:q0 op=0):dO tm op=[]/\iT op=false:=by
 cases op<;>simp_all [q0,iT,dO]
 all_goals (rename_i b _ _ _ _;cases b<;>simp_all [iT,dO])
theorem Zh {op:jo}(h:q0 op=1):iT op=false:=by
 cases op<;>simp_all [q0,iT]
 all_goals (rename_i b _ _ _ _;cases b<;>simp_all [iT])
end Go.Mini
namespace Go.Mini
open Go
variable {T:bk} {iZ:Nat->Nat->Bool}
def wu (T:bk)(iZ:Nat->Nat->Bool)(i:Nat)(x:cB)(rec:Rec)(st:a2)(x2:Rec)(dt:a2):Prop :=
 (n4 st.tm x.g=some false/\x2=rec/\dt=⟨put st.tm x.dst .no,st.mem⟩) \/
 (n4 st.tm x.g=some true/\∃m e,iG T st.mem st.tm x.op=some (m,e)/\(∀p q,iZ p i=true->rec p=some q->qh q (iT x.op,dO st.tm x.op)=true) /\
  x2=tn rec i (iT x.op,dO st.tm x.op)/\dt=⟨put st.tm x.dst m,ib st.mem e⟩)
theorem uV {tm:Nat->M}{dst:Option Nat}{m:M}{s:Nat}(h:dst≠some s):put tm dst m s=tm s:=by
 cases dst with
 |none=>rfl
 |some d =>
  have:s≠d:=λe=>h (by rw[e]);simp[put,this]
theorem put_comm {tm:Nat->M}{d wm:Option Nat}{m m':M}(h:∀s,d=some s->wm≠some s):put (put tm d m) wm m'=put (put tm wm m') d m:=by
 funext s
 by_cases E:d=some s
 ·rw[uV (h s E)];subst E;simp[put]
 ·rw[uV (dst:=d) E]
  by_cases H:wm=some s
  ·subst H;simp[put]
  ·rw[uV H,uV H,uV E]
theorem Zi {tm tm':Nat->M}{g:Option (Nat×Bool)}(h:∀s b,g=some (s,b)->tm s=tm' s):n4 tm g=n4 tm' g:=by
 cases g with
 |none=>rfl
 |some p =>
  obtain⟨s,b⟩:=p;simp only[n4,h s b rfl]
theorem Zj {x y:cB}(h:wb x y=true):(∀d,x.dst=some d->d ∉ zt y)/\(∀d,x.dst=some d->y.dst≠some d)/\(∀d,y.dst=some d->d ∉ zt x):=by
 refine⟨λd X=>?_,λd X=>?_,λd X=>?_⟩<;>simp[wb,X] at h
 ·exact h.1.1
 ·exact h.1.2
 ·exact h.2
theorem Li {x:cB}{s:Nat}(h:s∈wa x.op):s∈zt x:=by simp[zt,h]
theorem Zk {x:cB}{s:Nat}{b:Bool}(h:x.g=some (s,b)):s∈zt x:=by simp[zt,h]
theorem akB (a b:n5):qg a b=qg b a:=by
 have G:∀k k':Nat,(k==k')=(k'==k):=λk k'=>BEq.comm
 cases a<;>cases b<;>first|rfl|(unfold qg;dsimp only;rw[G])
theorem Zl {a b:Bool×List n5}(h:qh a b=true):qh b a=true:=by
 unfold qh at *;simp only[qn,Bool.not_eq_true',Bool.or_eq_false_iff,oI] at *;rcases h with ⟨E,H⟩|h
 ·exact .inl ⟨H,E⟩
 ·exact .inr λx O y ak=>by rw[akB];exact h y ak x O
theorem akC {mem:Mem}{e e':Option (Key×Nat×List M)}(h:∀j g cs mm df nA,e=some (j,g,cs)->e'=some (mm,df,nA)->j≠mm):ib (ib mem e) e'=ib (ib mem e') e:=by
 cases e with
 |none=>rfl
 |some p =>
  cases e' with
  |none=>rfl
  |some oM =>
   obtain⟨j,g,cs⟩:=p;obtain⟨mm,df,nA⟩:=oM;have bP:=h _ _ _ _ _ _ rfl rfl
   funext k
   simp only[ib,a3]
   by_cases E:k=mm
   ·by_cases H:k=j
    ·exact absurd (H.symm.trans E) bP
    ·simp[E,H];intro ab;exact absurd ab.symm bP
   ·simp[E]
def Passes (iZ:Nat->Nat->Bool)(i j:Nat)(x y:cB):Prop:=iZ i j=true\/xR (q0 x.op) (q0 y.op)=true
theorem akD {i j:Nat}{x y:cB}{tm:Nat->M}(h:Passes iZ i j x y)(G:iZ i j=true->qh (iT x.op,dO tm x.op) (iT y.op,dO tm y.op)=true):
  qh (iT x.op,dO tm x.op) (iT y.op,dO tm y.op)=true:=by
 rcases h with h|h
 ·exact G h
 ·unfold xR at h;simp only[qn,e3,beq_iff_eq] at h;rcases h with (h|h)|⟨E,H⟩
  ·obtain⟨E,H⟩:=Zg (tm:=tm) h;simp[qh,E]
  ·obtain⟨E,H⟩:=Zg (tm:=tm) h;simp[qh,E]
  ·have E:=Zh E;have H:=Zh H;simp[qh,E,H]
theorem wu.comm {i j:Nat}{x y:cB}{rec qo Lj:Rec}{st qp Lk:a2}(ly:i≠j)(dm:wb x y=true)(aC:Passes iZ i j x y)(P7:∀a b,iZ a b=iZ b a)(hN:rec i=none)
  (E:wu T iZ i x rec st qo qp) (H:wu T iZ j y qo qp Lj Lk):∃Hy Hz,wu T iZ j y rec st Hy Hz/\wu T iZ i x Hy Hz Lj Lk:=by
 obtain⟨aZ,ad,G⟩:=Zj dm
 -- what one sees of the other's temporary: nothing
 have akE:∀m,n4 (put st.tm x.dst m) y.g=n4 st.tm y.g:=λm=>Zi λs b Q=>uV λX=>aZ s X (Zk Q);have akF:∀mem m,iG T mem (put st.tm x.dst m) y.op=iG T mem st.tm y.op:=λmem m=>Za λs Q=>uV λX=>aZ s X (Li Q);have akG:∀m,dO (put st.tm x.dst m) y.op=dO st.tm y.op:=λm=>Zb λs Q=>uV λX=>aZ s X (Li Q);have Ll:∀m,n4 (put st.tm y.dst m) x.g=n4 st.tm x.g:=λm=>Zi λs b Q=>uV λX=>G s X (Zk Q);have Zm:∀mem m,iG T mem (put st.tm y.dst m) x.op=iG T mem st.tm x.op:=λmem m=>Za λs Q=>uV λX=>G s X (Li Q);have Lm:∀m,dO (put st.tm y.dst m) x.op=dO st.tm x.op:=λm=>Zb λs Q=>uV λX=>G s X (Li Q);have kN:∀m m',put (put st.tm x.dst m) y.dst m'=put (put st.tm y.dst m') x.dst m:=λm m'=>put_comm ad;rcases E with ⟨cG,rfl,rfl⟩|⟨cG,dD,aA,s1,aH,rfl,rfl⟩<;>rcases H with ⟨cO,rfl,rfl⟩|⟨cO,bY,ay,s2,c2,rfl,rfl⟩<;>simp only[akE,akF,akG] at *
 ·exact⟨_,_,.inl ⟨cO,rfl,rfl⟩,.inl ⟨by simp only[Ll];exact cG,rfl,by simp only[kN]⟩⟩
 ·exact⟨_,_,.inr ⟨cO,bY,ay,s2,c2,rfl,rfl⟩,.inl ⟨by simp only[Ll];exact cG,rfl,by simp only[kN]⟩⟩
 ·exact⟨_,_,.inl ⟨cO,rfl,rfl⟩,.inr ⟨by simp only[Ll];exact cG,dD,aA,by simp only[Zm];exact s1,by simp only[Lm];exact aH,by simp only[Lm],by simp only[kN]⟩⟩
 ·have Zn:iZ i j=true->qh (iT x.op,dO st.tm x.op) (iT y.op,dO st.tm y.op)=true:=λh=>c2 i _ h (by simp[tn]);have zF:=akD (tm:=st.tm) aC Zn;have P8:iG T st.mem st.tm y.op=some (bY,ay):=by rw[<-s2];exact (Zf s1 zF).symm
  have gr:∀j g cs mm df nA,aA=some (j,g,cs)->ay=some (mm,df,nA)->j≠mm:=by
   rintro k g cs k' df nA rfl rfl rfl;rcases P6 s1 with h|⟨hw,dk,cO,wv,h,E⟩
   ·cases h
   ·cases h;rcases P6 P8 with h|⟨Zo,dN,h1,aAD,h,H⟩
    ·cases h
    ·cases h;unfold qh at zF;simp only[hw,Bool.true_or,Bool.not_true,Bool.false_or,oI] at zF;rcases E with E|⟨i,c,r9,E,_,_⟩<;>rcases H with H|⟨a4,c',aAE,H,_,_⟩
     ·have:=zF _ E _ H;simp[qg] at this
     ·have:=zF _ E (.wr k a4) (by rw[H];exact ha);simp[qg] at this
     ·have:=zF (.wr k i) (by rw[E];exact ha) _ H;simp[qg] at this
     ·have:=zF (.wr k i) (by rw[E];exact ha) (.wr k a4) (by rw[H];exact ha);simp[qg] at this
  refine⟨_,_,.inr ⟨cO,bY,ay,P8,λp q Ln a9=>?_,rfl,rfl⟩,.inr ⟨by simp only[Ll];exact cG,dD,aA,?_,?_,?_,?_⟩⟩
  ·have bP:p≠i:=λh=>by rw[h,hN] at a9;cases a9
   exact c2 p q Ln (by simp[tn,bP,a9])
  ·simp only[Zm];rw[<-s1];exact Zf P8 (Zl zF)
  ·simp only[Lm];intro p q x3 a9
   by_cases Ln:p=j
   ·subst Ln;simp only[tn,if_true,b8] at a9;subst a9;exact Zl (Zn (by rw[P7];exact x3))
   ·simp only[tn,Ln,if_false] at a9;exact aH p q x3 a9
  ·simp only[Lm]
   funext p
   simp only[tn]
   by_cases E:p=i
   ·subst E;simp[ly]
   ·simp[E]
  ·simp only[kN];rw[akC gr]
end Go.Mini
namespace Go.Mini
open Go
variable {T:bk} {iZ:Nat->Nat->Bool} {ops:Array Oper} {l:List cB} {K:a2->Prop}
def DF (T:bk)(iZ:Nat->Nat->Bool)(ops:Array Oper)(l:List cB)(K:a2->Prop):Nat->Array Bool->Rec->a2->Prop
 |0,ek,_,st=>Region.ready .any ops ek=[]/\K st
 |fuel+1,ek,rec,st=>(Region.ready .any ops ek=[]->K st) /\
  ∀i∈Region.ready .any ops ek,∃x x2 dt,l[i]?=some x/\wu T iZ i x rec st x2 dt/\DF T iZ ops l K fuel (ek.setIfInBounds i true) x2 dt
def zG (ops:Array Oper)(ek:Array Bool):Prop :=
 ek.size=ops.size/\∀(j:Nat) (o:Oper),ops[j]?=some o->ek.getD j false=true->∀e∈o.after,Region.binds .any e=true->ek.getD e.on false=true
theorem zG.set {ek:Array Bool}{i:Nat}(h:zG ops ek)(L:i∈Region.ready .any ops ek):zG ops (ek.setIfInBounds i true):=by
 refine⟨by simp[h.1],λj o ag aq e he ad=>?_⟩
 by_cases jL:j=i
 ·subst jL;obtain⟨_,HA,bu,e1⟩:=mem_ready.1 L;rw[ag] at bu
  cases bu;exact getD_set_true (e1 e he ad)
 ·rw[getD_set_ne false (Ne.symm jL)] at aq;exact getD_set_true (h.2 j o ag aq e he ad)
def P9 (iZ:Nat->Nat->Bool)(ops:Array Oper)(l:List cB):Prop :=
 ∀(i j:Nat) (x y:cB),i≠j->l[i]?=some x->l[j]?=some y ->
  (∀ek,zG ops ek->i∈Region.ready .any ops ek->j∈Region.ready .any ops ek->False)\/(wb x y=true/\Passes iZ i j x y)
theorem Zp {i k:Nat}{x:cB}{rec x2:Rec}{st dt:a2}(h:wu T iZ i x rec st x2 dt)(J:k≠i):x2 k=rec k:=by
 rcases h with ⟨_,rfl,_⟩|⟨_,_,_,_,_,rfl,_⟩
 ·rfl
 ·simp[tn,J]
theorem akH {ek:Array Bool}{i k:Nat}(h:(ek.setIfInBounds i true).getD k true=false):k≠i/\ek.getD k true=false:=by
 by_cases sb:i=k
 ·subst sb
  exfalso
  by_cases ao:i<ek.size
  ·simp[ao] at h
  ·have:(ek.setIfInBounds i true).size<=i:=by simp;omega
   rw[Array.getD_eq_getD_getElem?,Array.getElem?_eq_none this] at h;simp at h
 ·rw[getD_set_ne true sb] at h;exact⟨λb2=>sb b2.symm,h⟩
theorem akI (aC:P9 iZ ops l)(P7:∀a b,iZ a b=iZ b a){i:Nat}{x:cB}(L:l[i]?=some x):∀(fuel:Nat) (ek:Array Bool) (rec:Rec) (st:a2) (qo:Rec) (qp:a2),
  zG ops ek->(∀k,ek.getD k true=false->rec k=none)->i∈Region.ready .any ops ek->wu T iZ i x rec st qo qp ->
  DF T iZ ops l K fuel (ek.setIfInBounds i true) qo qp->DF T iZ ops l K (fuel+1) ek rec st:=by
 intro fuel
 induction fuel with
 |zero =>
  intro ek rec st qo qp dF zH Y he hk;refine⟨λh=>(by rw[h] at Y;cases Y),λj ag=>?_⟩
  by_cases jL:j=i
  ·subst jL;exact⟨x,qo,qp,L,he,hk⟩
  ·have:=ready_mono ag jL;rw[hk.1] at this
   cases this
 |succ fuel aw =>
  intro ek rec st qo qp dF zH Y he hk;refine⟨λh=>(by rw[h] at Y;cases Y),λj ag=>?_⟩
  by_cases jL:j=i
  ·subst jL;exact⟨x,qo,qp,L,he,hk⟩
  ·obtain⟨y,Lj,Lk,ak,iI,dp⟩:=hk.2 j (ready_mono ag jL);rcases aC i j x y (Ne.symm jL) L ak with jt|⟨dm,akJ⟩
   ·exact (jt ek dF Y ag).elim
   ·obtain⟨Hy,Hz,E,H⟩:=wu.comm (Ne.symm jL) dm akJ P7 (zH i (mem_ready.1 Y).1) he iI;refine⟨y,Hy,Hz,ak,E,aw _ Hy Hz Lj Lk (dF.set ag) (λk J=>?_) (ready_mono Y (Ne.symm jL)) H ?_⟩
    ·obtain⟨ab,aM⟩:=akH J;rw[Zp E ab];exact zH k aM
    ·rw[Array.setIfInBounds_comm _ _ jL];exact dp
theorem Qa:∀(r:List Oper) (acc:List Nat) (k:Nat),k<(D acc)->(pt r acc).getD k 0=acc.getD k 0
 | [],acc,k,_=>rfl
 |o::r,acc,k,J=>by
  simp only[pt];rw[Qa r _ k (by simp;omega)];simp only[ea];rw[q3 J]
theorem akK {es:List Edge}{acc:List Nat}{i:Nat}:∀(s:Nat),(es.foldl (λs e=>if Region.binds .any e=true then s ||| (2^e.on ||| acc.getD e.on 0) else s) s).testBit i=true ->
  s.testBit i=true\/∃e∈es,Region.binds .any e=true/\(e.on=i\/(acc.getD e.on 0).testBit i=true):=by
 induction es with
 |nil=>exact λs h => .inl h
 |cons e es aw =>
  intro s h;rw[YD] at h;rcases aw _ h with E|⟨e',E,H⟩
  ·split at E
   ·rename_i ad;rw[Zq,Zq,qn,qn] at E;rcases E with E|E|E
    ·exact .inl E
    ·rw[Nat.testBit_two_pow] at E;exact .inr ⟨e,by simp,ad,.inl (by simpa using E)⟩
    ·exact .inr ⟨e,by simp,ad,.inr E⟩
   ·exact .inl E
  ·exact .inr ⟨e',by simp[E],H⟩
theorem Zr:∀(r:List Oper) (acc:List Nat) (t:Nat) (o:Oper),r[t]?=some o->∀i,((pt r acc).getD (D acc+t) 0).testBit i=true ->
  ∃e∈o.after.toList,Region.binds .any e=true/\(e.on=i\/(e.on<D acc+t/\((pt r acc).getD e.on 0).testBit i=true))
 | [],_,_,_,h,_,_=>by simp at h
 |HA::r,acc,0,o,h,i,ad=>by
  simp at h;subst h;simp only[pt,n8] at ad ⊢;rw[Qa r _ _ (by simp)] at ad;simp only[ea] at ad;rw[q4 (bM _)] at ad;simp only[kL,HB,DG] at ad;rcases akK (acc:=acc) 0 (by simpa only [ea] using ad) with E|⟨e,E,H,ab⟩
  ·simp at E
  ·refine⟨e,E,H,ab.imp id λh=>?_⟩
   have ao:e.on<D acc:=by
    rcases hK e.on (D acc) with b2|b2
    ·exact b2
    ·rw[ea,lr b2] at h;simp at h
   refine⟨ao,?_⟩;rw[Qa r _ _ (by simp;omega),ea,q3 ao,<-ea];exact h
 |HA::r,acc,t+1,o,h,i,ad=>by
  have b2:r[t]?=some o:=by simpa using h
  simp only[pt] at ad ⊢
  have:=Zr r (acc++[HA.after.toList.foldl (λs e=>if Region.binds .any e=true then s ||| (2^e.on ||| acc.getD e.on 0) else s) 0]) t o b2 i (by
   rw[hj,List.length_singleton,rZ,xL 1 t];exact ad)
  obtain⟨e,E,H,ab⟩:=this;refine⟨e,E,H,ab.imp id λh=>⟨by have:=h.1;simp at this;omega,h.2⟩⟩
theorem akL {ek:Array Bool}(dF:zG ops ek):∀(j:Nat) (o:Oper),ops[j]?=some o->(∀e∈o.after,Region.binds .any e=true->ek.getD e.on false=true) ->
  ∀i,((pt ops.toList []).getD j 0).testBit i=true->ek.getD i false=true:=by
 intro j
 induction j using Nat.strongRecOn with
 |_ j aw =>
  intro o bu e1 i L;obtain⟨e,he,ad,h⟩:=Zr ops.toList [] j o (by simpa using bu) i (by simpa using L);have aq:=e1 e (by simpa using he) ad;rcases h with rfl|⟨ao,akM⟩
  ·exact aq
  ·have eP:e.on<ops.size:=by
    rw[<-dF.1];rcases hK e.on ek.size with b2|b2
    ·exact b2
    ·simp[Array.getElem?_eq_none b2] at aq
   have Zs:ops[e.on]?=some ops[e.on]:=Array.getElem?_eq_getElem eP;exact aw e.on (by simpa using ao) _ Zs (dF.2 e.on _ Zs aq) i akM
theorem Zt:∀(cs pre:List cB) (as:List Nat),Dj pre cs as=true->∀(t:Nat) (y:cB),cs[t]?=some y->∀(i:Nat) (x:cB),(pre++cs)[i]?=some x->i<D pre+t ->
  (as.getD t 0).testBit i=true\/wb x y=true
 | [],_,_,_,_,_,h,_,_,_,_=>by simp at h
 |_::_,_,[],h,_,_,_,_,_,_,_=>by simp[Dj] at h
 |c::cs,pre,a::as,h,0,y,ak,i,x,O,ao=>by
  simp only[Dj,e3,oI] at h;simp at ak;subst ak;have L:i<D pre:=by simpa using ao
  rw[q3 L] at O;have:=h.1 (x,i) (by rw[Zu];exact O)
  simpa using this
 |c::cs,pre,a::as,h,t+1,y,ak,i,x,O,ao=>by
  simp only[Dj,e3] at h;have:=Zt cs (pre++[c]) as h.2 t y (by simpa using ak) i x (by simpa using O) (by simp;omega)
  simpa using this
theorem Zv:∀(cs pre:List cB) (as:List Nat) (t:Nat) (y:cB),cs[t]?=some y->∀(i:Nat) (x:cB),(pre++cs)[i]?=some x->i<D pre+t ->
  (as.getD t 0).testBit i=true\/xR (q0 x.op) (q0 y.op)=true\/i∈(xS pre cs as).getD t []
 | [],_,_,_,_,h,_,_,_,_=>by simp at h
 |c::cs,pre,as,0,y,ak,i,x,O,ao=>by
  simp at ak;subst ak;have L:i<D pre:=by simpa using ao
  rw[q3 L] at O;have gR:(x,i)∈pre.zipIdx:=by rw[Zu];exact O
  by_cases E:(as.getD 0 0).testBit i=true
  ·exact .inl E
  ·by_cases H:xR (q0 x.op) (q0 c.op)=true
   ·exact .inr (.inl H)
   ·refine .inr (.inr ?_);simp only[xS,ea,HB,DG];refine List.mem_map.2 ⟨(x,i),List.mem_filter.2 ⟨gR,?_⟩,rfl⟩;have ab:as.headD 0=as.getD 0 0:=by cases as<;>rfl
    simp only[ab];rw[ea] at E;simp[E,H]
 |c::cs,pre,as,t+1,y,ak,i,x,O,ao=>by
  have:=Zv cs (pre++[c]) as.tail t y (by simpa using ak) i x (by simpa using O) (by simp;omega);have ab:as.tail.getD t 0=as.getD (t+1) 0:=by cases as<;>simp
  rw[ab] at this
  simpa [xS] using this
def uW (c:List (List Nat))(i j:Nat):Bool:=if i<j then (c.getD j []).contains i else if j<i then (c.getD i []).contains j else false
theorem Zw (c:List (List Nat))(i j:Nat):uW c i j=uW c j i:=by
 unfold uW
 by_cases E:i<j
 ·simp[E,Zx E]
 ·by_cases H:j<i
  ·simp[H,Zx H]
  ·simp[E,H]
theorem akN {x y:cB}(h:wb x y=true):wb y x=true:=by
 obtain⟨E,H,ab⟩:=Zj h;unfold wb;rw[e3]
 constructor
 ·cases ak:y.dst with
  |none=>rfl
  |some d =>
   have a:=ab d ak;have b:x.dst≠some d:=λO=>H d O ak;simp[a,b]
 ·cases O:x.dst with
  |none=>rfl
  |some d =>
   have a:=E d O;simp[a]
theorem akO (a b:Nat):xR a b=xR b a:=by
 unfold xR
 cases (a==0)<;>cases (b==0)<;>cases (a==1)<;>cases (b==1)<;>rfl
theorem akP (X:Dl ops l=true):P9 (uW (xS [] l (pt ops.toList []))) ops l:=by
 have key:∀(i j:Nat) (x y:cB),i<j->l[i]?=some x->l[j]?=some y ->
   (∀ek,zG ops ek->i∈Region.ready .any ops ek->j∈Region.ready .any ops ek->False) \/
   (wb x y=true/\(uW (xS [] l (pt ops.toList [])) i j=true\/xR (q0 x.op) (q0 y.op)=true)):=by
  intro i j x y ly O ak;unfold Dl at X;rw[e3] at X
  by_cases ad:((pt ops.toList []).getD j 0).testBit i=true
  ·refine .inl λek dF L ag=>?_;obtain⟨_,o,bu,e1⟩:=mem_ready.1 ag;have E:=akL dF j o bu e1 i ad;have ai:=(mem_ready.1 L).1;rcases hK i ek.size with b2|b2
   ·simp[b2] at ai E;rw[ai] at E;cases E
   ·simp[Array.getElem?_eq_none b2] at E
  ·refine .inr ⟨?_,?_⟩
   ·rcases Zt l [] _ X.2 j y ak i x (by simpa using O) (by simpa using ly) with h|h
    ·exact absurd h ad
    ·exact h
   ·rcases Zv l [] (pt ops.toList []) j y ak i x (by simpa using O) (by simpa using ly) with h|h|h
    ·exact absurd h ad
    ·exact .inr h
    ·exact .inl (by unfold uW;rw[Z ly];exact Zy.2 h)
 intro i j x y ly O ak;rcases Nat.lt_or_gt_of_ne ly with h|h
 ·exact key i j x y h O ak
 ·rcases key j i y x h ak O with E|⟨E,H⟩
  ·exact .inl λek dF L ag=>E ek dF ag L
  ·refine .inr ⟨akN E,?_⟩;rcases H with H|H
   ·exact .inl (by rw[Zw];exact H)
   ·exact .inr (by rw[akO];exact H)
end Go.Mini
namespace Go.Mini
open Go
variable {P:Program} {T:bk} {A:Nat->Prop} {dw w:World} {gS B:eH} {mem:Mem} {n kb:Nat} {own:List Nat} {ops:Array Oper} {l:List cB} {K:a2->Prop} {aF:Exit->Act->World->Prop}
theorem Zz:∀(r:List Oper) (m:Nat),Dk m r=true->∀(t:Nat) (o:Oper),r[t]?=some o->∀e∈o.after,Region.binds .any e=true->e.on<m+t
 | [],_,_,_,_,h,_,_,_=>by simp at h
 |HA::r,m,h,0,o,bu,e,he,ad=>by
  simp only[Dk,e3] at h;simp at bu;subst bu;have:=(Array.all_eq_true_iff_forall_mem.1 h.1) e he
  simpa [ad] using this
 |HA::r,m,h,t+1,o,bu,e,he,ad=>by
  simp only[Dk,e3] at h;have:=Zz r (m+1) h.2 t o (by simpa using bu) e he ad;omega
theorem ZA {c:List (List Nat)}(aC:P9 (uW c) ops l)(aq:(D l)=ops.size)(he:Dk 0 ops.toList=true):∀(r:List cB) (m:Nat) (rec:Rec) (st:a2) (ek:Array Bool),l.drop m=r->m+D r=(D l) ->
  ek.size=ops.size->(∀i,i<ops.size->ek.getD i true=decide (i<m))->(∀k,m<=k->rec k=none)->uK T K m r (c.drop m) rec st->DF T (uW c) ops l K (D r) ek rec st
 | [],m,rec,st,ek,Y,hm,Q,hli,zH,h=>by
  refine⟨List.eq_nil_iff_forall_not_mem.2 λi L=>?_,h⟩;obtain⟨E,o,bu,_⟩:=mem_ready.1 L;have ao:i<ops.size:=(Array.getElem?_eq_some_iff.1 bu).1;rw[hli i ao] at E;simp at E hm;omega
 |x::r,m,rec,st,ek,Y,hm,Q,hli,zH,h=>by
  have ao:m<ops.size:=by simp at hm;omega
  have bu:ops[m]?=some ops[m]:=Array.getElem?_eq_getElem ao
  have O:l[m]?=some x:=by
   have:(l.drop m)[0]?=some x:=by rw[Y];rfl
   simpa using this
  have kM:=λ(j:Nat) (o:Oper) (ag:ops[j]?=some o)=>Zz ops.toList 0 he j o (by simpa using ag)
  have b9:∀i,i<m->ek.getD i false=true:=λi L=>by
   have E:=hli i (by omega);rw[kH L] at E;have H:i<ek.size:=by omega
   simpa [H] using E
  have dF:zG ops ek:=⟨Q,λj o ag jV e q7 ad=>by
   have E:=kM j o ag e q7 ad;have ts:j<ops.size:=(Array.getElem?_eq_some_iff.1 ag).1
   have H:j<m:=by
    have:=hli j ts;have ab:j<ek.size:=by omega
    simp[ab] at jV this;rw[jV] at this
    simpa using this.symm
   exact b9 _ (by omega)⟩
  have akQ:m∈Region.ready .any ops ek:=mem_ready.2 ⟨by rw[hli m ao];simp,_,bu,λe q7 ad=>b9 _ (by have:=kM m _ bu e q7 ad;omega)⟩
  have akR:∀k,ek.getD k true=false->rec k=none:=λk J=>zH k (by
   rcases hK k ops.size with b2|b2
   ·rw[hli k b2] at J
    simpa using J
   ·omega)
  have next:∀qo qp,wu T (uW c) m x rec st qo qp->uK T K (m+1) r (c.drop m).tail qo qp->DF T (uW c) ops l K (D r+1) ek rec st:=by
   intro qo qp hex J;refine akI aC (Zw c) O _ ek rec st qo qp dF akR akQ hex (ZA aC aq he r (m+1) qo qp _ ?_ (by simp at hm;omega) (by simpa using Q) (λi L=>?_) (λk J=>?_) ?_)
   ·rw[<-DH,Y]
    rfl
   ·by_cases him:m=i
    ·subst him;have:m<ek.size:=by omega
     simp[this]
    ·rw[getD_set_ne true him,hli i L]
     congr 1
     simp;omega
   ·rw[Zp hex (by omega)];exact zH k (by omega)
   ·rw[List.tail_drop] at J;exact J
  simp only[uK] at h
  split at h
  ·cases h
  ·rename_i g aU
   split at h
   ·rename_i ic;subst ic
    split at h
    ·rename_i cn e Q;refine next _ _ (.inr ⟨aU,cn,e,Q,λp q nH a9=>?_,rfl,rfl⟩) h.2
     have nD:p<m:=by
      rcases hK p m with b2|b2
      ·exact b2
      ·rw[zH p b2] at a9;cases a9
     have Qb:=h.1;unfold Df at Qb;rw[oI] at Qb
     have gR:p∈(c.drop m).headD []:=by
      unfold uW at nH;rw[Z nD] at nH
      have:(c.drop m).headD []=c.getD m []:=by
       rw[List.headD_eq_head?_getD,List.head?_drop,ea]
      rw[this];exact Zy.1 nH
     have:=Qb p gR;rw[a9] at this;exact this
    ·cases h
   ·rename_i akS;have akT:g=false:=by simpa using akS
    subst akT;exact next _ _ (.inl ⟨aU,rfl,rfl⟩) h
theorem Qc (h:fj A w B mem):fj (cb A B) w (λ_=>none) emp :=
 ⟨λ_ _=>rfl,λ_ _ _ _ _ h=>(by cases h),λb _ ⟨_,_,h,_⟩=>(by cases h),λb ad=>ad.elim (λb2=>h.zl b2) (h.lt b),λ_ _ _ h=>(by cases h)⟩
theorem HC (b:Nat):cb (cb A B) (λ_=>none) b↔cb A B b :=
 ⟨λh=>h.elim (fun⟨_,_,h,_⟩=>by cases h) id,.inr⟩
theorem akU {m:M}{v:Value}(h:bm w (cb A B) B m v):bm w (cb (cb A B) λ_=>none) (λ_=>none) (zq m) v:=by
 cases h with
 |I h=>exact .I (h.less λb ad=>(HC b).1 ad)
 |nil=>exact .nil
 |fR aq X =>
  rename_i f eW vs
  cases eW with
  |nil=>exact .fR aq λi d v h=>by simp at h
  |cons c r=>exact .undef
 |agg aq X =>
  rename_i cs vs;simp only[zq]
  cases G:cs.mapM Ba with
  |none=>exact .undef
  |some ds =>
   obtain⟨E,H⟩:=nB G;refine .I (.agg (aq.trans E.symm) λi d v L aI=>?_);have ao:i<D cs:=by have:=(dM.1 L).1;omega
   have mq:=bx ao;exact (YK (H i _ d mq L) (X i _ v mq aI)).less λb ad=>(HC b).1 ad
 |_=>exact .undef
theorem shut_list {ms:List M}{vs:List Value}(h:c0 w (cb A B) B ms vs):c0 w (cb (cb A B) λ_=>none) (λ_=>none) (ms.map zq) vs:=by
 refine⟨by simpa using h.1,λi m v hm aI=>?_⟩
 rw[bd,dV] at hm;obtain⟨m',x4,rfl⟩:=hm;exact akU (h.2 i m' v x4 aI)
theorem zE.less {w aL:World}{aP n1:Nat->Prop}{sz:Nat}{es:List (List Data)}{v:Value}(aq:∀b,n1 b->aP b)(h:zE w aL aP sz es v):zE w aL n1 sz es v:=by
 obtain⟨E,a,cap,H,ab,aM,bj⟩:=h;refine⟨E,a,cap,H,ab,aM,bj.imp id ?_⟩;rintro⟨b,vs,T,bH,bA,bT,ix,fH⟩;exact⟨b,vs,T,bH,bA,bT,ix,λi d X=>let ⟨u,hu,uT⟩:=fH i d X;⟨u,hu,uT.less λe2 lp=>lp.imp (aq e2) id⟩⟩
theorem Lo {o:Oper}{c:Call}{f:FuncId}{a:Act}(bu:o.op=.call c)(oa:c.callee=.value (.func f))(oL:Real P f):(execOp a.eval o).run P w=.ok (.enter f (c.args.toList.map a.eval).toArray) w:=by
 obtain⟨dst,op,type,pos,after,guard⟩:=o;simp only at bu;subst bu;obtain⟨callee,x1,Lg⟩:=c;simp only at oa;subst oa;simp only[execOp,resolve,Deferred.ofValue,Act.eval,invoke,Sem.run_bind,Sem.run_pure,Result.andThen_ok,Lf oL];rw[zA x1];simp
theorem akV (cz:qm P T){a:Act}{st:a2}{o:Oper}{i:cB}{m:M}{e:Option (Key×Nat×List M)}(h:g9 n A dw gS a st w B)(L:P3 P n kb own ops o i)
  (Q:iG T st.mem st.tm i.op=some (m,e)):o.wp P a w (λeS aL=>∃bo,g9 n A dw gS eS ⟨put st.tm i.dst m,ib st.mem e⟩ aL bo) aF:=by
 have m3:=L.op
 have plain:b3 st.mem st.tm i.op=some (m,e)->o.wp P a w (λeS aL=>∃bo,g9 n A dw gS eS ⟨put st.tm i.dst m,ib st.mem e⟩ aL bo) aF:=by
  intro Q
  have aT:lo P kb own o.dst o.type o.op=some i.op:=getD_some m3 (by
   intro ad;rw[ad] at Q
   cases Q)
  obtain⟨DE,v,aL,bo,lT,fV,eA,aI⟩:=YZ h.ok.ed h.uU aT Q;unfold Oper.wp;rw[lT,L.dst];have Hx:=h.put eA aI L.lt;rcases fV with rfl|⟨rfl,rfl⟩
  ·exact⟨bo,Hx⟩
  ·exact⟨bo,Hx⟩
 cases x5:i.op with
 |call f args =>
  have aT:lo P kb own o.dst o.type o.op=some i.op:=getD_some m3 (by rw[x5];simp);rw[x5] at aT Q;obtain⟨c,G,oa,py⟩:=Y4 aT;have bV:=shut_list (zz h.uU py);rw[oN] at bV;simp only[iG] at Q
  split at Q
  ·rename_i r js
   cases Q;obtain⟨oL,kM⟩:=cz f _ _ _ js;have mr:=kM (cb A B) w (λ_=>none) _ (Qc h.ok.ed) bV;unfold Oper.wp;rw[Lo G oa oL,L.dst];refine Calls.mono mr λe aL he=>?_;obtain⟨v,rfl,bK,X⟩:=he;exact⟨B,h.put (.still h.ok.ed bK) (.I (X.less λb ad=>(HC b).2 ad)) L.lt⟩
  ·rename_i sz es js
   cases Q;obtain⟨oL,kM⟩:=cz f _ _ _ js;have mr:=kM (cb A B) w (λ_=>none) _ (Qc h.ok.ed) bV;unfold Oper.wp;rw[Lo G oa oL,L.dst];refine Calls.mono mr λe aL he=>?_;obtain⟨v,rfl,bK,X⟩:=he;exact⟨B,h.put (.still h.ok.ed bK) (.I ((X.less λb ad=>(HC b).2 ad).den λb ad=>ad.elim (λb2=>h.ok.ed.zl b2) (h.ok.ed.lt b))) L.lt⟩
  ·cases Q
 |m0 k sz f args =>
  have aT:lo P kb own o.dst o.type o.op=some i.op:=getD_some m3 (by rw[x5];simp);rw[x5] at aT Q;obtain⟨c,G,oa,py⟩:=Y5 aT;have bV:=shut_list (zz h.uU py);rw[oN] at bV;simp only[iG] at Q
  split at Q
  ·rename_i dU es js
   split at Q
   ·rename_i eP;subst eP
    cases Q;obtain⟨oL,kM⟩:=cz f _ _ _ js;have mr:=kM (cb A B) w (λ_=>none) _ (Qc h.ok.ed) bV;unfold Oper.wp;rw[Lo G oa oL,L.dst];refine Calls.mono mr λe aL he=>?_;obtain⟨v,rfl,bK,X⟩:=he;obtain⟨bo,eA,aI⟩:=Y3 k h.ok.ed bK (X.less λb ad=>(HC b).2 ad);exact⟨bo,h.put eA aI L.lt⟩
   ·cases Q
  ·cases Q
 |ll bG f args =>
  have aT:lo P kb own o.dst o.type o.op=some i.op:=getD_some m3 (by rw[x5];simp);rw[x5] at aT Q;obtain⟨c,G,oa,py⟩:=akf aT;have bV:=zz h.uU py;simp only[iG] at Q;obtain⟨r,k,g,aAF,cc,cs,js,hm,rfl,rfl,aJ⟩:=Ze Q;obtain⟨oL,kM⟩:=cz f _ _ _ js;have mr:=kM A w B _ h.ok.ed bV;unfold Oper.wp;rw[Lo G oa oL,L.dst];refine Calls.mono mr λe aL he=>?_;obtain⟨v,bo,rfl,eA,aI⟩:=he;refine⟨bo,?_⟩;have tv:qf st.mem k=cs:=by simp only[qf,hm]
  rw[tv] at eA;exact h.put eA aI L.lt
 |lk f args=>rw[x5] at Q;cases Q
 |pn neg x=>rw[x5] at Q;cases Q
 |_=>exact plain (by rw[x5] at Q ⊢;exact Q)
theorem ZB {α β:Type}{f:α->Option β}{xs:List α}{ys:List β}(h:xs.mapM f=some ys){i:Nat}{x:α}(O:xs[i]?=some x):∃y,ys[i]?=some y/\f x=some y:=by
 obtain⟨E,H⟩:=nB h;have ao:i<D ys:=by rw[E];exact (dM.1 O).1
 exact⟨_,bx ao,H i x _ O (bx ao)⟩
theorem Qd (cz:qm P T){iZ:Nat->Nat->Bool}(aT:ops.toList.mapM (zs P n kb own ops)=some l)(fi:∀st a w B,K st->g9 n A dw gS a st w B->aF .normal a w):
  ∀(fuel:Nat) (ek:Array Bool) (rec:Rec) (st:a2) (a:Act) (w:World) (B:eH),g9 n A dw gS a st w B->DF T iZ ops l K fuel ek rec st->wpAny P .any ops aF fuel ek a w
 |0,_,_,_,_,_,_,Q,h=>⟨h.1,fi _ _ _ _ h.2 Q⟩
 |fuel+1,ek,rec,st,a,w,B,Q,h=>by
  refine⟨λai=>fi _ _ _ _ (h.1 ai) Q,λi L=>?_⟩;obtain⟨x,x2,dt,O,hex,J⟩:=h.2 i L;obtain⟨_,o,bu,_⟩:=mem_ready.1 L;obtain⟨y,ak,Qe⟩:=ZB aT (i:=i) (x:=o) (by simpa using bu);rw[O] at ak
  cases ak;have wx:=Y6 Qe;unfold wpOp;simp only[bu];rcases hex with ⟨aU,rfl,rfl⟩|⟨aU,m,e,akW,_,rfl,rfl⟩
  ·rw[P2 Q wx.guard aU,aa (by simp)];exact Qd cz aT fi fuel _ _ _ _ _ B (by rw[wx.dst];exact Q.put (.refl Q.ok.ed) .no wx.lt) J
  ·rw[P2 Q wx.guard aU,Z rfl];refine .inl (Oper.wp_mono (λeS aL ⟨bo,hE⟩=>Qd cz aT fi fuel _ _ _ _ _ bo hE J) (akV cz Q wx akW))
theorem g9.drew {a:Act}{st:a2}(h:g9 n A dw gS a st w B)(d:Nat):g9 n A dw gS a st { w with drawn:=d } B:=by
 have Q:ez A w B { w with drawn:=d } B st.mem:=.still h.ok.ed ((Fr.refl _ _).drew d);exact⟨h.ok.trans Q,λs=>(h.tm s).qU Q.ml,h.sz,h.Hv⟩
theorem akX (cz:qm P T)(hm:P.follows .mixedOrders=true){id:Nat}{a:Act}{st:a2}(aT:ops.toList.mapM (zs P n kb own ops)=some l)(X:Dl ops l=true)(Q:g9 n A dw gS a st w B)
  (h:uK T K 0 l (xS [] l (pt ops.toList [])) (λ_=>none) st) (fi:∀st a w B,K st->g9 n A dw gS a st w B->aF .normal a w):(Code.region id ops true).wp P aF a w:=by
 refine wp_region_any hm ?_
 have aq:(D l)=ops.size:=by
  rw[(nB aT).1,Array.length_toList]
 have HD:=ZA (akP X) aq (by unfold Dl at X;rw[e3] at X;exact X.1) l 0 (λ_=>none) st (Array.replicate ops.size false) rfl (by simp) (by simp) (λi L=>by simp[L]) (λ_ _=>rfl) h;rw[aq] at HD;exact Qd cz aT fi ops.size _ _ _ _ _ B (Q.drew _) HD
theorem Qf (cz:qm P T)(aT:ops.toList.mapM (zs P n kb own ops)=some l)(fi:∀st a w B,K st->g9 n A dw gS a st w B->aF .normal a w):
  ∀(r:List cB) (m:Nat) (st:a2) (a:Act) (w:World) (B:eH),l.drop m=r->g9 n A dw gS a st w B->v7 T K r st->wpOps P ops aF (List.range' m (D r)) a w
 | [],_,_,_,_,_,_,Q,h=>fi _ _ _ _ h Q
 |x::r,m,st,a,w,B,Y,Q,h=>by
  have O:l[m]?=some x:=by
   have:(l.drop m)[0]?=some x:=by rw[Y];rfl
   simpa using this
  have K2:l.drop (m+1)=r:=by rw[<-DH,Y];rfl
  have ao:m<ops.size:=by
   have E:=(nB aT).1;have H:=(dM.1 O).1;simp at E;omega
  have bu:ops[m]?=some ops[m]:=Array.getElem?_eq_getElem ao;obtain⟨y,ak,Qe⟩:=ZB aT (i:=m) (x:=ops[m]) (by simp);rw[O] at ak
  cases ak;have wx:=Y6 Qe;simp only[kJ,List.range'_succ];rw[wpOps_cons];unfold wpOp;simp only[bu];simp only[v7] at h
  split at h
  ·cases h
  ·rename_i g aU;rw[P2 Q wx.guard aU]
   cases g with
   |true =>
    simp only[if_true] at h ⊢;exact .inl (Oper.wp_mono (λeS aL ⟨dt,bo,J,hE⟩=>Qf cz aT fi r (m+1) dt eS aL bo K2 hE J) (akl cz Q wx h))
   |false =>
    simp only[jU,if_false] at h ⊢;exact Qf cz aT fi r (m+1) _ _ _ B K2 (Q.put (.refl Q.ok.ed) .no wx.lt) (by rw[<-wx.dst];exact h)
end Go.Mini
namespace Go.Mini
open Go
variable {A:Nat->Prop} {w:World} {B:eH} {mem:Mem}
theorem ZC {aP:Nat->Prop}{b off c sz len:Nat}{vs:Array Value}{T:TypeId}{ds:List Data}(aQ:w.heap[b]?=some (.cells vs T (0,0)))(fB:¬ aP b)(aq:(D ds)=len*sz)(Lp:len<=c)(hm:len<=maxLen)(K1:off+len*sz<=vs.size)
  (X:∀(i:Nat) (d:Data) (v:Value),ds[i]?=some d->vs[off+i]?=some v->Den w aP d v):Den w aP (.ae (chunk sz len ds)) (.slice (some ⟨b,off,none⟩) len c):=by
 have dF:=K6 sz len ds
 have h:=Den.ae (w:=w) (aP:=aP) (es:=chunk sz len ds) (b:=b) (off:=off) (c:=c) (sz:=sz) (λi=>vs.getD (off+i) undef) (by rw[dF];exact Lp) (by rw[dF];exact hm)
  (Array.getElem?_eq_some_iff.1 aQ).1 fB (K7 sz len ds aq)
  (λi L=>by
   rw[dF] at L;rw[cell_of_row w b (off+i) vs T (0,0) aQ];have:off+i<vs.size:=by omega
   simp[this])
  (λi d jX=>by
   rw[K8 sz len ds aq] at jX;have ao:i<D ds:=(dM.1 jX).1;have lu:off+i<vs.size:=by omega
   have:vs.getD (off+i) undef=vs[off+i]:=by simp[lu]
   simp only[this];exact X i d _ jX (Array.getElem?_eq_getElem lu))
 rw[dF] at h;exact h
theorem ZD (bO:fj A w B mem){aP:Nat->Prop}(fB:∀b,aP b->A b){k:Key}{e:lh}{b:Nat}(he:B k=some e)(ad:e.di=some b):¬ aP b :=
 λh=>bO.sep b (fB b h) ⟨k,e,he,ad⟩
theorem snap (bO:fj A w B mem){aP:Nat->Prop}(fB:∀b,aP b->A b):∀(d:Nat) (m:M) (v:Value) (r:Data),cZ d mem m=some r->bm w (cb A B) B m v->Den w aP r v:=by
 have ZE:∀(d:Data) (v:Value),bm w (cb A B) B (.I d) v->Den w aP d v:=λd v h=>by
  cases h with
  |I h=>exact h.less λb ad => .inr (fB b ad)
 have Lq:∀v,bm w (cb A B) B .nil v->Den w aP (.ae []) v:=λv h=>by
  cases h;exact .kI
 intro d
 induction d with
 |zero =>
  intro m v r h aI
  cases m<;>simp only[cZ,b8,reduceCtorEq] at h
  ·subst h;exact ZE _ _ aI
  ·subst h;exact Lq _ aI
 |succ d aw =>
  intro m v r h aI
  have lists:∀(cs:List M) (vs:List Value) (ds:List Data),cs.mapM (cZ d mem)=some ds->(D vs)=(D cs)->(∀(i:Nat) (x:M) (u:Value),cs[i]?=some x->vs[i]?=some u->bm w (cb A B) B x u) ->
    (D vs)=D ds/\∀(i:Nat) (x:Data) (u:Value),ds[i]?=some x->vs[i]?=some u->Den w aP x u:=by
   intro cs vs ds g6 aq Y;obtain⟨E,H⟩:=nB g6;refine⟨by omega,λi x u O hu=>?_⟩
   have ao:i<D cs:=by have:=(dM.1 O).1;omega
   have mq:=bx ao;exact aw _ u x (H i _ x mq O) (Y i _ u mq hu)
  cases m<;>simp only[cZ,b8,dV,reduceCtorEq] at h
  case I=>subst h;exact ZE _ _ aI
  case nil=>subst h;exact Lq _ aI
  case ref k g sz off len =>
   split at h
   ·rename_i df cs J
    split at h
    ·rename_i aU;subst aU
     split at h
     ·rename_i part Qg;simp only[dV] at h;obtain⟨ds,g6,rfl⟩:=h;obtain⟨dF,rfl,nD⟩:=Dq Qg;obtain⟨E,H⟩:=nB g6
      cases aI with
      |ref he hgle Y =>
       obtain⟨e,fS,cf,aG,ad⟩:=bO.at_ J;rw[fS] at he
       cases he;obtain⟨a,cap,rfl,ab,aM,bj⟩:=Y;rcases bj with bj|⟨b,rfl,bH⟩
       ·have:len=0:=by omega
        subst this;simp only[chunk];exact .kI
       ·obtain⟨bA,bT⟩:=bH cf.symm;obtain⟨vs,T,aQ,aR,hle,bV⟩:=ad b bA;refine ZC aQ (ZD bO fB fS bA) (by omega) ab (by omega) (by omega) λi x u O hu=>?_;have ao:i<D ds:=(dM.1 O).1;have lu:off+i<D cs:=by omega
        have mq:((cs.drop off).take (len*sz))[i]?=some cs[off+i]:=by
         rw[oO (by omega),uM,bx lu]
        refine aw _ u x (H i _ x mq O) (bV.2 (off+i) _ u (bx lu) ?_);rw[oO lu,Array.getElem?_toList];exact hu
     ·cases h
    ·cases h
   ·cases h
  case ptr k g off =>
   split at h
   ·rename_i df cs J
    split at h
    ·rename_i aU;obtain⟨rfl,PS⟩:=aU;simp only[dV] at h;obtain⟨ds,g6,rfl⟩:=h;obtain⟨E,H⟩:=nB g6
     cases aI with
     |ptr he hgle Y =>
      obtain⟨e,fS,cf,aG,ad⟩:=bO.at_ J;rw[fS] at he
      cases he;obtain⟨b,rfl,bH⟩:=Y;have bA:=bH cf.symm;obtain⟨vs,T,aQ,aR,hle,bV⟩:=ad b bA;rw[List.length_drop] at E;refine .ptr (λi=>vs.getD (off+i) undef) (Array.getElem?_eq_some_iff.1 aQ).1 (ZD bO fB fS bA) (λi L=>?_) λi x O=>?_
      ·rw[cell_of_row w b (off+i) vs T (0,0) aQ];have:off+i<vs.size:=by omega
       simp[this]
      ·have ao:i<D ds:=(dM.1 O).1;have lu:off+i<D cs:=by omega
       have HE:off+i<vs.size:=by omega
       have mq:(cs.drop off)[i]?=some cs[off+i]:=by
        rw[uM,bx lu]
       have hu:vs.getD (off+i) undef=vs[off+i]:=by simp[HE]
       rw[hu];refine aw _ _ x (H i _ x mq O) (bV.2 (off+i) _ _ (bx lu) ?_);rw[oO lu,Array.getElem?_toList];exact Array.getElem?_eq_getElem HE
    ·cases h
   ·cases h
  case fR f cs =>
   obtain⟨ds,g6,rfl⟩:=h
   cases aI with
   |fR aq X=>obtain⟨E,H⟩:=lists _ _ _ g6 aq X;exact .fn E H
  case agg cs =>
   obtain⟨ds,g6,rfl⟩:=h
   cases aI with
   |agg aq X=>obtain⟨E,H⟩:=lists _ _ _ g6 aq X;exact .agg E H
  case cq cs =>
   obtain⟨ds,g6,rfl⟩:=h
   cases aI with
   |cq aq X=>obtain⟨E,H⟩:=lists _ _ _ g6 aq X;exact .cq E H
theorem bm.shift {aP n1:Nat->Prop}{bo:eH}(fB:∀b,n1 b->aP b)(J:∀k e,B k=some e->∃e',bo k=some e'/\(e'=e\/e.g<e'.g)){m:M}{v:Value}(h:bm w aP B m v):bm w n1 bo m v:=by
 induction h with
 |I h=>exact .I (h.less fB)
 |nil=>exact .nil
 | @ref k g sz off len e v he aU aI =>
  obtain⟨e',fS,aQ⟩:=J k e he;rcases aQ with rfl|aQ
  ·exact .ref fS aU aI
  ·exact .ref fS (by omega) (aI.GN (by omega))
 | @ptr k g off e v he aU aI =>
  obtain⟨e',fS,aQ⟩:=J k e he;rcases aQ with rfl|aQ
  ·exact .ptr fS aU aI
  ·exact .ptr fS (by omega) (aI.GN (by omega))
 |fR aq X aw=>exact .fR aq aw
 |agg aq X aw=>exact .agg aq aw
 |cq aq X aw=>exact .cq aq aw
 |no=>exact .no
 |undef=>exact .undef
theorem kill_shut (bO:fj A w B mem){k:Key}{g:Nat}{cs:List M}{e:lh}{b:Nat}(J:mem k=some (g,cs))(he:B k=some e)(ad:e.di=some b):
  fj (λe2=>A e2\/e2=b) w (gJ B k ⟨bW mem k,none,0⟩) (kill mem k)/\(∀m v,bm w (cb A B) B m v->bm w (cb (λe2=>A e2\/e2=b) (gJ B k ⟨bW mem k,none,0⟩)) (gJ B k ⟨bW mem k,none,0⟩) m v):=by
 have aU:=Dn bO k e he
 have fB:∀e2,cb (λe2=>A e2\/e2=b) (gJ B k ⟨bW mem k,none,0⟩) e2->cb A B e2:=λe2 h=>by
  rcases h with ⟨j,ay,ag,O⟩|h|rfl
  ·by_cases eR:j=k
   ·subst eR;rw[gW] at ag;cases ag;cases O
   ·rw[gP B _ eR] at ag;exact .inl ⟨j,ay,ag,O⟩
  ·exact .inr h
  ·exact .inl ⟨k,e,he,ad⟩
 have akY:∀j ay,B j=some ay->∃e',gJ B k ⟨bW mem k,none,0⟩ j=some e'/\(e'=ay\/ay.g<e'.g):=λj ay ag=>by
  by_cases eR:j=k
  ·subst eR;rw[he] at ag
   cases ag;exact⟨_,gW _ _ _,.inr aU⟩
  ·exact⟨ay,by rw[gP B _ eR];exact ag,.inl rfl⟩
 have shift:∀m v,bm w (cb A B) B m v->bm w (cb (λe2=>A e2\/e2=b) (gJ B k ⟨bW mem k,none,0⟩)) (gJ B k ⟨bW mem k,none,0⟩) m v:=λm v h=>h.shift fB akY;refine⟨⟨λj ag=>?_,λj mm aA ay e2 E H ab aM=>?_,λe2 aZ bu=>?_,λe2 aZ=>?_,λj df nA ag=>?_⟩,shift⟩
 ·by_cases eR:j=k
  ·subst eR;simp[kill,a3] at ag
  ·rw[gP B _ eR];simp only[kill,a3,eR,if_false] at ag;exact bO.zk j ag
 ·by_cases eR:j=k
  ·subst eR;rw[gW] at E;cases E;cases ab
  ·by_cases hjk':mm=k
   ·subst hjk';rw[gW] at H;cases H;cases aM
   ·rw[gP B _ eR] at E;rw[gP B _ hjk'] at H;exact bO.inj j mm aA ay e2 E H ab aM
 ·obtain⟨j,ay,ag,O⟩:=bu
  by_cases eR:j=k
  ·subst eR;rw[gW] at ag;cases ag;cases O
  ·rw[gP B _ eR] at ag;rcases aZ with aZ|rfl
   ·exact bO.sep e2 aZ ⟨j,ay,ag,O⟩
   ·exact eR (bO.inj j k ay e e2 ag he O ad)
 ·rcases aZ with aZ|rfl
  ·exact bO.lt e2 aZ
  ·exact bO.zl ⟨k,e,he,ad⟩
 ·by_cases eR:j=k
  ·subst eR;simp only[kill,a3,if_true,b8,fv] at ag;obtain⟨rfl,rfl⟩:=ag;exact⟨_,gW _ _ _,rfl,λ_=>rfl,λe2 lp=>by cases lp⟩
  ·simp only[kill,a3,eR,if_false] at ag;obtain⟨ay,E,H,ab,aM⟩:=bO.di j df nA ag;refine⟨ay,by rw[gP B _ eR];exact E,H,ab,λe2 lp=>?_⟩
   obtain⟨vs,T,bj,bH,bA,bT⟩:=aM e2 lp;exact⟨vs,T,bj,bH,bA,λi m hm=>let ⟨v,aI,Y⟩:=bT i m hm;⟨v,aI,shift m v Y⟩⟩
end Go.Mini
namespace Go.Mini
open Go
variable {P:Program} {T:bk} {A:Nat->Prop} {dw w:World} {gS B:eH} {mem:Mem} {n kb:Nat} {own:List Nat} {aF:Exit->Act->World->Prop}
theorem Lr {k:Key}{g sz off len:Nat}{cs:List M}{d:Data}{v:Value}(bO:fj A w B mem)(J:mem k=some (g,cs))(X:cZ 1 mem (.ref k g sz off len)=some d)(aI:bm w (cb A B) B (.ref k g sz off len) v):
  Den w (cb A (gJ B k ⟨bW mem k,none,0⟩)) d v:=by
 have fB:∀b,cb A (gJ B k ⟨bW mem k,none,0⟩) b->cb A B b:=λb h=>h.imp (fun⟨j,e,ag,O⟩=>by
  by_cases eR:j=k
  ·subst eR;rw[gW] at ag;cases ag;cases O
  ·rw[gP B _ eR] at ag;exact⟨j,e,ag,O⟩) id
 simp only[cZ,J,if_true] at X
 split at X
 ·rename_i part Qg;simp only[dV] at X;obtain⟨ds,g6,rfl⟩:=X;obtain⟨dF,rfl,nD⟩:=Dq Qg;obtain⟨E,H⟩:=nB g6
  cases aI with
  |ref he hgle Y =>
   obtain⟨e,fS,cf,aG,ad⟩:=bO.at_ J;rw[fS] at he;obtain rfl:=m4 he;obtain⟨a,cap,rfl,ab,aM,bj⟩:=Y;rcases bj with bj|⟨b,rfl,bH⟩
   ·have:len=0:=by omega
    subst this;simp only[chunk];exact .kI
   ·obtain⟨bA,bT⟩:=bH cf.symm;obtain⟨vs,T,aQ,aR,hle,bV⟩:=ad b bA
    have akZ:¬ cb A (gJ B k ⟨bW mem k,none,0⟩) b:=by
     rintro (⟨j,ay,ag,O⟩|aZ)
     ·by_cases eR:j=k
      ·subst eR;rw[gW] at ag;cases ag;cases O
      ·rw[gP B _ eR] at ag;exact eR (bO.inj j k ay _ b ag fS O bA)
     ·exact bO.sep b aZ ⟨k,_,fS,bA⟩
    refine ZC aQ akZ (by omega) ab (by omega) (by omega) λi x u O hu=>?_;have ao:i<D ds:=(dM.1 O).1;have lu:off+i<D cs:=by omega
    have mq:((cs.drop off).take (len*sz))[i]?=some cs[off+i]:=by
     rw[oO (by omega),uM,bx lu]
    have zB:=H i _ x mq O
    have q1:bm w (cb A B) B cs[off+i] u:=bV.2 (off+i) _ u (bx lu) (by
     rw[oO lu,Array.getElem?_toList];exact hu)
    generalize cs[off+i]=m at *
    cases m<;>simp only[cZ,b8,reduceCtorEq] at zB
    ·subst zB
     cases q1 with
     |I h=>exact h.less fB
    ·subst zB
     cases q1;exact .kI
 ·cases X
theorem ZF {k:Key}{aP n1:Nat->Prop}{bo:eH}{v:Value}{sz:Nat}{e:lh}(he:B k=some e)(aI:bm w aP bo .nil v):bm w n1 B (.ref k e.g sz 0 0) v:=by
 cases aI;exact .ref he (bM _) ⟨_,0,rfl,bM _,fr _,.inl rfl⟩
theorem Br {k:Key}{g i:Nat}{cs:List M}{m m':M}{w1:World}(bO:fj A w B mem)(J:mem k=some (g,cs))(L:cs[i]?=some m)
  (aI:∀e b v,B k=some e->e.di=some b->w.cell? ⟨b,i,none⟩=some v->bm w (cb A B) B m' v):∃bo,ez A w B w bo (a3 mem k g (cs.set i m')):=by
 obtain⟨e,he,cf,aG,ad⟩:=bO.at_ J
 have ok:=ez.change (k:=k) (e':=e) (cs:=cs.set i m') bO (Fr.refl _ w) (λay e0 => .inl (by rw[he] at e0;cases e0;rfl)) (λb eh => .inr ⟨e,he,eh⟩) (λh=>by
  have:=aG h;subst this
  rfl) (λb eh=>by
  obtain⟨vs,T,aQ,aR,hle,bV⟩:=ad b eh;refine⟨vs,T,aQ,aR,by simpa using hle,λj x O=>?_⟩
  by_cases ly:i=j
  ·subst ly;have ao:i<D cs:=(dM.1 L).1;rw[List.getElem?_set_self ao] at O
   cases O;have wi:i<vs.size:=by omega
   exact⟨vs[i],Array.getElem?_eq_getElem wi,aI e b _ he eh (by rw[cell_of_row w b i vs T (0,0) aQ];exact Array.getElem?_eq_getElem wi)⟩
  ·rw[List.getElem?_set_ne ly] at O;obtain⟨v,HF,Y⟩:=bV.get O;refine⟨v,?_,Y⟩;have ao:j<D cs:=(dM.1 O).1;rw[oO ao,Array.getElem?_toList] at HF;exact HF)
 rw[cf] at ok;exact⟨_,ok⟩
theorem ez.move {k k':Key}{g:Nat}{cs:List M}{e:lh}(h:fj A w B mem)(J:mem k=some (g,cs))(he:B k=some e)(bP:k'≠k):
  ez A w B w (gJ (gJ B k ⟨bW mem k,none,0⟩) k' ⟨bW mem k',e.di,e.size⟩) (a3 (a3 mem k (bW mem k) []) k' (bW mem k') cs):=by
 have uS:∀b,qV (gJ (gJ B k ⟨bW mem k,none,0⟩) k' ⟨bW mem k',e.di,e.size⟩) b->qV B b:=by
  rintro b ⟨j,ay,ag,ad⟩
  by_cases E:j=k'
  ·subst E;rw[gW] at ag
   cases ag;exact⟨k,e,he,ad⟩
  ·rw[gP _ _ E] at ag
   by_cases H:j=k
   ·subst H;rw[gW] at ag
    cases ag
    cases ad
   ·rw[gP _ _ H] at ag;exact⟨j,ay,ag,ad⟩
 have ml:Trans A w B w (gJ (gJ B k ⟨bW mem k,none,0⟩) k' ⟨bW mem k',e.di,e.size⟩):=by
  refine⟨bM _,λb _ ad=>⟨rfl,λbu=>ad (.inl (uS b bu))⟩,λj ay ag=>?_⟩
  by_cases E:j=k'
  ·subst E;exact⟨_,gW _ _ _,.inr (Dn h j ay ag)⟩
  ·rw[gP _ _ E]
   by_cases H:j=k
   ·subst H;exact⟨_,gW _ _ _,.inr (Dn h j ay ag)⟩
   ·rw[gP _ _ H];exact⟨ay,ag,.inl rfl⟩
 refine⟨⟨λj ag=>?_,λj mm aA ay b E H j2 eh=>?_,λb aZ bu=>h.sep b aZ (uS b bu),h.lt,λj cO wv ag=>?_⟩,ml,Fr.refl _ _,λb ad => .inl (uS b ad)⟩
 ·simp only[a3] at ag
  by_cases E:j=k'
  ·simp[E] at ag
  ·by_cases H:j=k
   ·rw[aa E,Z H] at ag
    cases ag
   ·simp only[E,H,if_false] at ag;rw[gP _ _ E,gP _ _ H];exact h.zk j ag
 ·have main:∀(j:Key) (aA:lh),gJ (gJ B k ⟨bW mem k,none,0⟩) k' ⟨bW mem k',e.di,e.size⟩ j=some aA->aA.di=some b->(j=k'/\e.di=some b)\/(j≠k'/\j≠k/\B j=some aA):=by
   intro j aA ag ad
   by_cases E:j=k'
   ·subst E;rw[gW] at ag
    cases ag;exact .inl ⟨rfl,ad⟩
   ·rw[gP _ _ E] at ag
    by_cases H:j=k
    ·subst H;rw[gW] at ag
     cases ag
     cases ad
    ·rw[gP _ _ H] at ag;exact .inr ⟨E,H,ag⟩
  rcases main j aA E j2 with ⟨eT,nI⟩|⟨eT,s1,nI⟩<;>rcases main mm ay H eh with ⟨ei,nJ⟩|⟨ei,s2,nJ⟩
  ·rw[eT,ei]
  ·exact absurd (h.inj k mm e ay b he nJ nI eh).symm s2
  ·exact absurd (h.inj k j e aA b he nI nJ j2).symm s1
  ·exact h.inj j mm aA ay b nI nJ j2 eh
 ·simp only[a3] at ag
  by_cases E:j=k'
  ·subst E;simp only[if_true,b8,fv] at ag;obtain⟨rfl,rfl⟩:=ag;obtain⟨cw,HG,aU,aG,ad⟩:=h.di k g cs J;rw[he] at HG
   cases HG;refine⟨_,gW _ _ _,rfl,aG,λb jH=>?_⟩;obtain⟨vs,T,ab,aM,bj,bH⟩:=ad b jH;exact⟨vs,T,ab,aM,bj,λi m L=>let ⟨v,aI,Y⟩:=bH i m L;⟨v,aI,Y.qU ml⟩⟩
  ·simp only[E,if_false] at ag;rw[gP _ _ E]
   by_cases H:j=k
   ·subst H;simp only[if_true,b8,fv] at ag;obtain⟨rfl,rfl⟩:=ag;exact⟨_,gW _ _ _,rfl,λ_=>rfl,λb ad=>by cases ad⟩
   ·simp only[H,if_false] at ag;rw[gP _ _ H];obtain⟨cw,HG,aU,aG,ad⟩:=h.di j cO wv ag;refine⟨cw,HG,aU,aG,λb jH=>?_⟩;obtain⟨vs,T,ab,aM,bj,bH⟩:=ad b jH;exact⟨vs,T,ab,aM,bj,λi m L=>let ⟨v,aI,Y⟩:=bH i m L;⟨v,aI,Y.qU ml⟩⟩
theorem g9.ghost {a:Act}{st:a2}{bo:eH}{mem':Mem}{tm':Nat->M}(h:g9 n A dw gS a st w B)(Q:ez A w B w bo mem')(bI:∀s,tm' s=st.tm s\/bm w (cb A bo) bo (tm' s) (a.eval (.tmp s))):
  g9 n A dw gS a ⟨tm',mem'⟩ w bo:=by
 refine⟨h.ok.trans Q,λs=>?_,h.sz,h.Hv⟩;rcases bI s with E|E
 ·simp only[E];exact (h.tm s).qU Q.ml
 ·exact E
theorem ak0 {K:a2->Prop}{a:Act}{st:a2}{g:KM}(h:g9 n A dw gS a st w B)(J:kp K st g):∃dt bo,K dt/\g9 n A dw gS a dt w bo:=by
 have r4:∀x:bF,∃v,bm w (cb A B) B (a0 st.tm x) v\/∃m,x=.c m:=λx=>by
  cases x with
  |t s=>exact⟨_,.inl (h.tm s)⟩
  |c m=>exact⟨undef,.inr ⟨m,rfl⟩⟩
 cases g with
 |po s k sz =>
  simp only[kp] at J
  split at J
  ·rename_i Q;have ok:=ez.xT h.ok.ed k;refine⟨_,_,J,h.ghost ok λt=>?_⟩
   by_cases sc:t=s
   ·subst sc;have:=h.tm t;rw[Q] at this;simp only[eK,if_true];exact .inr (ZF (e:=⟨bW st.mem k,none,0⟩) (gW _ _ _) this)
   ·exact .inl (by simp[eK,sc])
  ·cases J
 |freeze s =>
  simp only[kp] at J
  split at J
  ·rename_i k g sz off len Q
   split at J
   ·rename_i df cs gR
    split at J
    ·rename_i aU;obtain⟨rfl,_⟩:=aU
     split at J
     ·rename_i d X;have ok:=ez.xT h.ok.ed k;refine⟨_,_,J,h.ghost ok λt=>?_⟩
      by_cases sc:t=s
      ·subst sc;have aI:=h.tm t;rw[Q] at aI X;simp only[eK,if_true];exact .inr (.I (Lr h.ok.ed gR X aI))
      ·exact .inl (by simp[eK,sc])
     ·cases J
    ·cases J
   ·cases J
  ·cases J
 |KN x i k sz =>
  simp only[kp] at J
  split at J
  ·rename_i kc g off O
   split at J
   ·rename_i df cs gR
    split at J
    ·rename_i aU;subst aU
     split at J
     ·rename_i G
      split at J
      ·rename_i bP;have ok:=ez.xT h.ok.ed k;have sd:a3 st.mem k (bW st.mem k) [] kc=some (df,cs):=by simp[a3,Ne.symm bP,gR]
       obtain⟨e,he,cf,aG,ad⟩:=h.ok.ed.at_ gR
       obtain⟨bo,se⟩:=Br (w1:=w) (m':=.ref k (bW st.mem k) sz 0 0) ok.ed sd G (λay b v e0 eh aI=>by
        rw[gP B _ (Ne.symm bP)] at e0;rw[he] at e0
        cases e0;obtain⟨vs,T,aQ,aR,hle,bV⟩:=ad b eh;have ao:off+i<D cs:=(dM.1 G).1;rw[cell_of_row w b (off+i) vs T (0,0) aQ] at aI;have Y:=bV.2 (off+i) _ v G (by rw[oO ao,Array.getElem?_toList];exact aI);exact ZF (e:=⟨bW st.mem k,none,0⟩) (gW _ _ _) Y)
       exact⟨_,bo,J,h.ghost (ok.trans se) λt => .inl rfl⟩
      ·cases J
     ·cases J
    ·cases J
   ·cases J
  ·cases J
 |KO x i =>
  simp only[kp] at J
  split at J
  ·rename_i kc gc off O
   split at J
   ·rename_i Hg cc ZG
    split at J
    ·rename_i aU;subst aU
     split at J
     ·rename_i k g sz o len G
      split at J
      ·rename_i df cs gR
       split at J
       ·rename_i aU;obtain⟨rfl,_,bP⟩:=aU
        split at J
        ·rename_i d X;have ok:=ez.xT h.ok.ed k;have sd:a3 st.mem k (bW st.mem k) [] kc=some (Hg,cc):=by simp[a3,Ne.symm bP,ZG]
         obtain⟨e,he,cf,aG,ad⟩:=h.ok.ed.at_ ZG
         obtain⟨bo,se⟩:=Br (w1:=w) (m':=.I d) ok.ed sd G (λay b v e0 eh aI=>by
          rw[gP B _ (Ne.symm bP)] at e0;rw[he] at e0
          cases e0;obtain⟨vs,T,aQ,aR,hle,bV⟩:=ad b eh;have ao:off+i<D cc:=(dM.1 G).1;rw[cell_of_row w b (off+i) vs T (0,0) aQ] at aI;have Y:=bV.2 (off+i) _ v G (by rw[oO ao,Array.getElem?_toList];exact aI);exact .I (Lr h.ok.ed gR X Y))
         exact⟨_,bo,J,h.ghost (ok.trans se) λt => .inl rfl⟩
        ·cases J
       ·cases J
      ·cases J
     ·cases J
    ·cases J
   ·cases J
  ·cases J
 |move =>
  rcases J with J|⟨fq,gz,gb,i,k,g,sz,off,len,cs,k',hC,G,wy,E,H,ab,J⟩|⟨fq,gz,gb,i,k,g,sz,off,len,cs,d,hC,G,gR,-,bP,X,J⟩
  ·exact⟨st,B,J,h⟩
  ·obtain⟨e,he,cf,aG,ad⟩:=h.ok.ed.at_ wy;have ok:=ez.move h.ok.ed wy he H;have sd:a3 (a3 st.mem k (bW st.mem k) []) k' (bW st.mem k') cs fq=some (gz,gb):=by simp[a3,Ne.symm E,Ne.symm ab,hC]
   obtain⟨ex,hex,ZH,fV,HH⟩:=h.ok.ed.at_ hC
   obtain⟨bo,se⟩:=Br (w1:=w) (m':=.ref k' (bW st.mem k') sz off len) ok.ed sd G (λay b v e0 eh aI=>by
    rw[gP _ _ (Ne.symm ab),gP _ _ (Ne.symm E)] at e0;rw[hex] at e0
    cases e0;obtain⟨vs,T,aQ,aR,hle,bV⟩:=HH b eh;have ao:i<D gb:=(dM.1 G).1;rw[cell_of_row w b i vs T (0,0) aQ] at aI;have Y:=bV.2 i _ v G (by rw[oO ao,Array.getElem?_toList];exact aI)
    cases Y with
    |ref e0 hgle Y =>
     rw[he] at e0
     cases e0;obtain⟨a,cap,rfl,aM,bj,bH⟩:=Y;refine .ref (gW _ _ _) (bM _) ⟨a,cap,rfl,aM,bj,bH.imp id ?_⟩;rintro⟨e2,rfl,bA⟩;exact⟨e2,rfl,λ_=>bA cf.symm⟩)
   exact⟨_,bo,J,h.ghost (ok.trans se) λt => .inl rfl⟩
  ·have ok:=ez.xT h.ok.ed k;have sd:a3 st.mem k (bW st.mem k) [] fq=some (gz,gb):=by simp[a3,Ne.symm bP,hC]
   obtain⟨e,he,cf,aG,ad⟩:=h.ok.ed.at_ hC
   obtain⟨bo,se⟩:=Br (w1:=w) (m':=.I d) ok.ed sd G (λay b v e0 eh aI=>by
    rw[gP B _ (Ne.symm bP)] at e0;rw[he] at e0
    cases e0;obtain⟨vs,T,aQ,aR,hle,bV⟩:=ad b eh;have ao:i<D gb:=(dM.1 G).1;rw[cell_of_row w b i vs T (0,0) aQ] at aI;have Y:=bV.2 i _ v G (by rw[oO ao,Array.getElem?_toList];exact aI);exact .I (Lr h.ok.ed gR X Y))
   exact⟨_,bo,J,h.ghost (ok.trans se) λt => .inl rfl⟩
 |many =>
  obtain⟨mem',Qh,J⟩:=J
  have main:∀{ks dD:Mem},rW ks dD->∀B,g9 n A dw gS a ⟨st.tm,ks⟩ w B->∃bo,g9 n A dw gS a ⟨st.tm,dD⟩ w bo:=by
   intro ks dD Qh
   induction Qh with
   |refl mem=>exact λB h=>⟨B,h⟩
   | @step ks dD bY Q _ aw =>
    intro B h
    have one:∃bo,g9 n A dw gS a ⟨st.tm,dD⟩ w bo:=by
     cases Q with
     |KT fq gz gb i k g sz off len cs k' hC G wy E H ab =>
      obtain⟨e,he,cf,aG,ad⟩:=h.ok.ed.at_ wy;have ok:=ez.move h.ok.ed wy he H;have sd:a3 (a3 ks k (bW ks k) []) k' (bW ks k') cs fq=some (gz,gb):=by simp[a3,Ne.symm E,Ne.symm ab,hC]
      obtain⟨ex,hex,ZH,fV,HH⟩:=h.ok.ed.at_ hC
      obtain⟨bo,se⟩:=Br (w1:=w) (m':=.ref k' (bW ks k') sz off len) ok.ed sd G (λay b v e0 eh aI=>by
       rw[gP _ _ (Ne.symm ab),gP _ _ (Ne.symm E)] at e0;rw[hex] at e0
       cases e0;obtain⟨vs,T,aQ,aR,hle,bV⟩:=HH b eh;have ao:i<D gb:=(dM.1 G).1;rw[cell_of_row w b i vs T (0,0) aQ] at aI;have Y:=bV.2 i _ v G (by rw[oO ao,Array.getElem?_toList];exact aI)
       cases Y with
       |ref e0 hgle Y =>
        rw[he] at e0
        cases e0;obtain⟨a,cap,rfl,aM,bj,bH⟩:=Y;refine .ref (gW _ _ _) (bM _) ⟨a,cap,rfl,aM,bj,bH.imp id ?_⟩;rintro⟨e2,rfl,bA⟩;exact⟨e2,rfl,λ_=>bA cf.symm⟩)
      exact⟨bo,h.ghost (ok.trans se) λt => .inl rfl⟩
     |Yj fq gz gb i k g off cs k' hC G wy E H ab =>
      obtain⟨e,he,cf,aG,ad⟩:=h.ok.ed.at_ wy;have ok:=ez.move h.ok.ed wy he H;have sd:a3 (a3 ks k (bW ks k) []) k' (bW ks k') cs fq=some (gz,gb):=by simp[a3,Ne.symm E,Ne.symm ab,hC]
      obtain⟨ex,hex,ZH,fV,HH⟩:=h.ok.ed.at_ hC
      obtain⟨bo,se⟩:=Br (w1:=w) (m':=.ptr k' (bW ks k') off) ok.ed sd G (λay b v e0 eh aI=>by
       rw[gP _ _ (Ne.symm ab),gP _ _ (Ne.symm E)] at e0;rw[hex] at e0
       cases e0;obtain⟨vs,T,aQ,aR,hle,bV⟩:=HH b eh;have ao:i<D gb:=(dM.1 G).1;rw[cell_of_row w b i vs T (0,0) aQ] at aI;have Y:=bV.2 i _ v G (by rw[oO ao,Array.getElem?_toList];exact aI)
       cases Y with
       |ptr e0 hgle Y =>
        rw[he] at e0
        cases e0;obtain⟨e2,rfl,bA⟩:=Y;exact .ptr (gW _ _ _) (bM _) ⟨e2,rfl,λ_=>bA cf.symm⟩)
      exact⟨bo,h.ghost (ok.trans se) λt => .inl rfl⟩
     |KU fq gz gb i k g sz off len cs d hC G gR bP X =>
      have ok:=ez.xT h.ok.ed k;have sd:a3 ks k (bW ks k) [] fq=some (gz,gb):=by simp[a3,Ne.symm bP,hC]
      obtain⟨e,he,cf,aG,ad⟩:=h.ok.ed.at_ hC
      obtain⟨bo,se⟩:=Br (w1:=w) (m':=.I d) ok.ed sd G (λay b v e0 eh aI=>by
       rw[gP B _ (Ne.symm bP)] at e0;rw[he] at e0
       cases e0;obtain⟨vs,T,aQ,aR,hle,bV⟩:=ad b eh;have ao:i<D gb:=(dM.1 G).1;rw[cell_of_row w b i vs T (0,0) aQ] at aI;have Y:=bV.2 i _ v G (by rw[oO ao,Array.getElem?_toList];exact aI);exact .I (Lr h.ok.ed gR X Y))
      exact⟨bo,h.ghost (ok.trans se) λt => .inl rfl⟩
    obtain⟨bo,b2⟩:=one;exact aw bo b2
  obtain⟨bo,b2⟩:=main Qh B h;exact⟨_,bo,J,b2⟩
def erase:dY->dY
 |.skip => .skip
 |.ops l => .ops l
 |.m1 l c => .m1 l c
 |.seq a b => .seq (erase a) (erase b)
 |.cond c a b => .cond c (erase a) (erase b)
 |.block id c => .block id (erase c)
 |.loop c => .loop (erase c)
 |.exit id => .exit id
 |.ret => .ret
 |.ghost _ c=>erase c
def ZI:er->Exit
 |.normal => .normal
 |.exit id => .exit id
 |.ret => .ret
def ak1 (P:Program)(n kb:Nat)(own:List Nat)(c:Code):dY->Prop
 |.skip=>c=.skip
 |.ops l=>∃id ops,c=.region id ops false/\ops.toList.mapM (zs P n kb own ops)=some l
 |.m1 l ch=>∃id ops,c=.region id ops true/\ops.toList.mapM (zs P n kb own ops)=some l/\Dl ops l=true/\ch=xS [] l (pt ops.toList [])
 |.seq x y=>∃a b,c=.seq a b/\pv P n kb own a=some x/\pv P n kb own b=some y
 |.cond x y z=>∃iH a b,c=.cond iH a b/\dB iH=some x/\pv P n kb own a=some y/\pv P n kb own b=some z
 |.block id x=>∃a,c=.block id a/\pv P n kb own a=some x
 |.loop x=>∃a,c=.loop a/\pv P n kb own a=some x
 |.exit id=>c=.exit id
 |.ret=>c=.ret
 |.ghost ..=>False
theorem x6 {c:Code}{m:dY}(h:pv P n kb own c=some m):ak1 P n kb own c m:=by
 cases c<;>simp only[pv,b8,reduceCtorEq,dV] at h
 case skip=>subst h;rfl
 case region id ops draw =>
  split at h
  ·rename_i l aq
   split at h
   ·rename_i X;subst X
    split at h
    ·rename_i cU
     cases h;exact⟨id,ops,rfl,aq,cU,rfl⟩
    ·cases h
   ·rename_i X
    cases h;exact⟨id,ops,by rw[Bool.not_eq_true] at X;rw[X],aq⟩
  ·cases h
 case seq a b =>
  split at h
  ·rename_i x y O ak
   cases h;exact⟨a,b,rfl,O,ak⟩
  ·cases h
 case cond x a b =>
  split at h
  ·rename_i iH y z O ak aR
   cases h;exact⟨x,a,b,rfl,O,ak,aR⟩
  ·cases h
 case block id a =>
  obtain⟨x,O,rfl⟩:=h;exact⟨a,rfl,O⟩
 case loop a =>
  obtain⟨x,O,rfl⟩:=h;exact⟨a,rfl,O⟩
 case exit id=>subst h;rfl
 case ret=>subst h;rfl
theorem zI (cz:qm P T)(hm:P.follows .mixedOrders=true):∀(Ls:dY) (c:Code) (K:er->a2->Prop) (aF:Exit->Act->World->Prop) (st:a2) (a:Act) (w:World) (B:eH),
  pv P n kb own c=some (erase Ls)->g9 n A dw gS a st w B->wp T Ls K st->(∀e st a w B,K e st->g9 n A dw gS a st w B->aF (ZI e) a w)->c.wp P aF a w
 |.ghost g Ls,c,K,aF,st,a,w,B,aT,Q,h,fi=>by
  obtain⟨dt,bo,J,hE⟩:=ak0 Q h;exact zI cz hm Ls c K aF dt a w bo aT hE J fi
 |.skip,c,K,aF,st,a,w,B,aT,Q,h,fi=>by
  obtain rfl:=x6 aT;exact Go.wp_skip (fi .normal st a w B h Q)
 |.exit id,c,K,aF,st,a,w,B,aT,Q,h,fi=>by
  obtain rfl:=x6 aT;exact Go.wp_exit (fi (.exit id) st a w B h Q)
 |.ret,c,K,aF,st,a,w,B,aT,Q,h,fi=>by
  obtain rfl:=x6 aT;exact Go.wp_ret (fi .ret st a w B h Q)
 |.ops l,c,K,aF,st,a,w,B,aT,Q,h,fi=>by
  obtain⟨id,ops,rfl,aq⟩:=x6 aT;have:=Qf (aF:=aF) (K:=K .normal) cz aq (λst a w B J Q=>fi .normal st a w B J Q) l 0 st a w B rfl Q h;refine Go.wp_region ?_;rw[(nB aq).1,Array.length_toList] at this;rw[List.range_eq_range'];exact this
 |.m1 l ch,c,K,aF,st,a,w,B,aT,Q,h,fi=>by
  obtain⟨id,ops,rfl,aq,X,rfl⟩:=x6 aT;exact akX cz hm aq X Q h λst a w B J Q=>fi .normal st a w B J Q
 |.seq x y,c,K,aF,st,a,w,B,aT,Q,h,fi=>by
  obtain⟨iH,y',rfl,O,ak⟩:=x6 aT;refine Go.wp_seq (zI cz hm x iH _ _ st a w B O Q h λe dt eS aL bo J hE=>?_)
  cases e with
  |normal=>exact zI cz hm y y' _ _ dt eS aL bo ak hE J fi
  |exit id=>exact fi (.exit id) dt eS aL bo J hE
  |ret=>exact fi .ret dt eS aL bo J hE
 |.cond x y z,c,K,aF,st,a,w,B,aT,Q,h,fi=>by
  obtain⟨iH,y',ak2,rfl,O,ak,aR⟩:=x6 aT;have aI:=Q.uU iH x O;simp only[wp] at h
  split at h
  ·rename_i t bI;rw[bI] at aI;refine Go.wp_cond aI.Bd ?_
   cases t with
   |true=>exact zI cz hm y y' _ _ st a w B ak Q h fi
   |false=>exact zI cz hm z ak2 _ _ st a w B aR Q h fi
  ·cases h
 |.block id x,c,K,aF,st,a,w,B,aT,Q,h,fi=>by
  obtain⟨iH,rfl,O⟩:=x6 aT;refine Go.wp_block (zI cz hm x iH _ _ st a w B O Q h λe dt eS aL bo J hE=>?_)
  cases e with
  |normal=>exact fi .normal dt eS aL bo J hE
  |exit j =>
   simp only[ZI,Exit.inBlock];simp only at J
   split
   ·rename_i ag;rw[Z ag] at J;exact fi .normal dt eS aL bo J hE
   ·rename_i ag;rw[aa ag] at J;exact fi (.exit j) dt eS aL bo J hE
  |ret=>exact fi .ret dt eS aL bo J hE
 |.loop x,c,K,aF,st,a,w,B,aT,Q,h,fi=>by
  obtain⟨iH,rfl,O⟩:=x6 aT;obtain⟨uL,μ,HI,Lt⟩:=h
  have key:∀m (st:a2) (a:Act) (w:World) (B:eH),μ st<m->uL st->g9 n A dw gS a st w B->Code.rounds P iH aF m a w:=by
   intro m
   induction m with
   |zero=>intro st a w B x4;omega
   |succ m aw =>
    intro st a w B x4 HI Q;refine zI cz hm x iH _ _ st a w B O Q (Lt st HI) λe dt eS aL bo J hE=>?_
    cases e with
    |normal=>exact aw dt eS aL bo (by have:=J.2;omega) J.1 hE
    |exit id=>exact fi (.exit id) dt eS aL bo J hE
    |ret=>exact fi .ret dt eS aL bo J hE
  exact wp_loop_rounds (μ st+1) (key _ st a w B (Nat.lt_succ_self _) HI Q)
end Go.Mini
