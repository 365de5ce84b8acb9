/- A part of the proof. -/
import Derived.Calls
import Derived.Still
import Derived.Below
import Derived.Laws.World
import Derived.Laws.Sem
import Derived.Laws.Entries
import Derived.Laws.Rows
import GoSem.ClaimData
import Derived.Laws.CopyRow
import Derived.Laws.MakeOwn
import Derived.Laws.Append
import Derived.Laws.AppendOwn
import Derived.Laws.Strings
import Derived.Laws.Strings2
import Derived.Laws.StructEq
import Derived.Laws.Slices
import Derived.Laws.Cells
import Derived.Attr
set_option linter.unusedSimpArgs false
set_option linter.unusedVariables false
set_option maxRecDepth 100000
set_option maxHeartbeats 4000000
noncomputable section
open Bool renaming and_eq_true->e4,false_eq_true->kX,or_eq_true->yg
open List renaming all_eq_true->kG,contains_iff_mem->aeB,drop_drop->Gk,drop_eq_getElem_cons->im,drop_eq_nil_of_le->jQ,drop_set_of_lt->tG,drop_take->adC,eq_nil_of_length_eq_zero->tC,ext_getElem?->pH,flatten_cons->jL,foldl_cons->F9,getD_eq_getElem?_getD->dY,getElem?_append->FW,getElem?_append_left->rj,getElem?_append_right->ss,getElem?_cons_zero->zB,getElem?_drop->lv,getElem?_eq_getElem->bx,getElem?_eq_none->kF,getElem?_eq_some_iff->dP,getElem?_map->bl,getElem?_range->tv,getElem?_set_ne->aeG,getElem?_set_self->Kt,getElem?_take->vh,getElem?_take_of_lt->pL,getElem?_toArray->adS,getElem_mem->o1,getElem_of_mem->adI,length->D,length_append->fH,length_cons->hN,length_map->al,length_set->hP,length_take->gf,mapM_cons->lu,map_congr_left->lY,map_map->nq,mem_append->ko,mem_cons_self->fZ,mem_flatMap->yd,mem_of_getElem?->ec,mem_of_mem_take->F7,mem_zipIdx_iff_getElem?->aex,range->dS,replicate->dG,replicate_succ->qo,take_append->Di,take_of_length_le->dy
open Nat renaming add_assoc->qn,add_comm->A1,add_mul->qg,add_zero->nZ,eq_or_lt_of_le->N6,eq_zero_or_pos->k4,le_mul_of_pos_right->Kf,le_refl->bZ,le_trans->eQ,lt_asymm->aeA,lt_of_lt_of_le->C6,lt_or_ge->il,min_eq_left->oE,mul_le_mul_right->vl,one_mul->xX,sub_self->lV,succ_mul->tx,testBit_or->aes,zero_add->kY,zero_le->fv
open Option renaming bind_eq_bind->hg,bind_eq_some_iff->eo,getD_some->aeu,isSome_iff_exists->adU,map_eq_some_iff->eb,map_none->ad9,map_some->lB,pure_def->g9
open Option.some renaming inj->o3,injEq->cn
open Prod.mk renaming injEq->fb
namespace Go.Mini
theorem bw {α:Sort _}{a:α}:a=a:=_root_.id rfl
theorem ad {c:Prop}{h:Decidable c}(H:c){α:Sort _}{t e:α}:ite c t e=t:=if_pos H
theorem ag {c:Prop}{h:Decidable c}(H:¬c){α:Sort _}{t e:α}:ite c t e=e:=if_neg H
theorem lq {p:Prop}[inst:Decidable p](h:p):decide p=true:=decide_eq_true h
theorem mq {p:Prop}[i:Decidable p](h:¬p):decide p=false:=decide_eq_false h
theorem di {p:Prop}[inst:Decidable p](h:p:=by omega):decide p=true:=decide_eq_true h
theorem c9 {p:Prop}[i:Decidable p](h:¬p:=by omega):decide p=false:=decide_eq_false h
open Go
abbrev Key:=Nat
inductive Data where
 |int (k:IntKind) (n:Int)
 |bool (b:Bool)
 |str (s:List UInt8)
 |Y (es:List (List Data))
 |ptr (cs:List Data)
 |u7
 |fn (f:FuncId) (eP:List Data)
 |u9
 |agg (cs:List Data)
 |cI (vs:List Data)
 deriving Inhabited
inductive R where
 |J (d:Data)
 |nil
 |ref (k:Key) (g sz off len:Nat)
 |ptr (k:Key) (g off:Nat)
 |fu (f:FuncId) (eP:List R)
 |agg (cs:List R)
 |cI (vs:List R)
 |no
 |undef
 deriving Inhabited
inductive Den (w:World) (aZ:Nat->Prop):Data->Value->Prop
 |int {k:IntKind} {n:Int}:Den w aZ (.int k n) (.int k n)
 |bool {b:Bool}:Den w aZ (.bool b) (.bool b)
 |str {s:List UInt8}:Den w aZ (.str s) (.string ⟨s.toArray⟩)
 |lS {a:Option Addr} {c:Nat}:Den w aZ (.Y []) (.slice a 0 c)
 |Y {es:List (List Data)} {b off c sz:Nat} (val:Nat->Value) (ar:(D es)<=c) (hm:(D es)<=maxLen) (ah:b<w.heap.size) (fJ:¬ aZ b) (e8:∀e∈es,D e=sz)
   (H:∀i,i<D es*sz->w.cell? ⟨b,off+i,none⟩=some (val i)) (aa:∀i d,es.flatten[i]?=some d->Den w aZ d (val i)) :
   Den w aZ (.Y es) (.slice (some ⟨b,off,none⟩) (D es) c)
 |ptr {cs:List Data} {b off:Nat} (val:Nat->Value) (ah:b<w.heap.size) (fJ:¬ aZ b)
   (H:∀i,i<(D cs)->w.cell? ⟨b,off+i,none⟩=some (val i)) (aa:∀i d,cs[i]?=some d->Den w aZ d (val i)) :
   Den w aZ (.ptr cs) (.pointer (some ⟨b,off,none⟩))
 |u7:Den w aZ .u7 (.pointer none)
 |fn {f:FuncId} {eP:List Data} {vs:List Value} (ar:(D vs)=D eP) (aa:∀(i:Nat) (d:Data) (v:Value),eP[i]?=some d->vs[i]?=some v->Den w aZ d v) :
   Den w aZ (.fn f eP) (.func (.func f) #[] vs.toArray)
 |u9:Den w aZ .u9 .nilFunc
 |agg {cs:List Data} {vs:List Value} (ar:(D vs)=D cs) (aa:∀(i:Nat) (d:Data) (v:Value),cs[i]?=some d->vs[i]?=some v->Den w aZ d v) :
   Den w aZ (.agg cs) (.agg vs.toArray)
 |cI {cs:List Data} {vs:List Value} (ar:(D vs)=D cs) (aa:∀(i:Nat) (d:Data) (v:Value),cs[i]?=some d->vs[i]?=some v->Den w aZ d v) :
   Den w aZ (.cI cs) (.tuple vs.toArray)
theorem NP {es:List (List Data)}{sz:Nat}(h:∀e∈es,D e=sz):(D es.flatten)=D es*sz:=by
 induction es with
 |nil=>simp
 |cons e r az =>
  have F:=h e (by simp);have I:=az (λx Q=>h x (by simp[Q]));rw[jL,fH,F,I,hN,qg,xX,A1]
theorem Den.q8 {w aR:World}{aZ mr:Nat->Prop}(X:w.heap.size<=aR.heap.size)(h:∀b,b<w.heap.size->¬ aZ b->aR.heap[b]?=w.heap[b]?/\¬ mr b){d:Data}{v:Value}(aa:Den w aZ d v):Den aR mr d v:=by
 induction aa with
 |int=>exact .int
 |bool=>exact .bool
 |str=>exact .str
 |lS=>exact .lS
 | @Y es b off c sz val ar hm ah fJ e8 H aa az =>
  obtain⟨F,I⟩:=h b ah fJ;exact .Y val ar hm (by omega) I e8 (λi M=>(World.cell?_of_block (a:=⟨b,off+i,none⟩) F).trans (H i M)) az
 |u7=>exact .u7
 |u9=>exact .u9
 | @ptr cs b off val ah fJ H aa az =>
  obtain⟨F,I⟩:=h b ah fJ;exact .ptr val (by omega) I (λi M=>(World.cell?_of_block (a:=⟨b,off+i,none⟩) F).trans (H i M)) az
 |fn ar aa az=>exact .fn ar az
 |agg ar aa az=>exact .agg ar az
 |cI ar aa az=>exact .cI ar az
structure mu where
 g:Nat
 dx:Option Nat
 size:Nat
abbrev e9:=Key->Option mu
def sf (B:e9)(b:Nat):Prop:=∃k e,B k=some e/\e.dx=some b
def FF (e:mu)(g sz off len:Nat)(v:Value):Prop :=
 ∃a cap,v=.slice a len cap/\len<=cap/\cap<=maxLen/\(cap=0\/∃b,a=some ⟨b,off,none⟩/\(g=e.g->e.dx=some b/\off+cap*sz<=e.size))
def NQ (e:mu)(g off:Nat)(v:Value):Prop:=∃b,v=.pointer (some ⟨b,off,none⟩)/\(g=e.g->e.dx=some b)
theorem FF.JE {e e':mu}{g sz off len:Nat}{v:Value}(h:FF e g sz off len v)(ar:g<e'.g):FF e' g sz off len v:=by
 obtain⟨a,cap,F,I,af,aO⟩:=h;refine⟨a,cap,F,I,af,aO.imp id ?_⟩;rintro⟨b,bm,_⟩;exact⟨b,bm,λh=>by omega⟩
theorem NQ.JE {e e':mu}{g off:Nat}{v:Value}(h:NQ e g off v)(ar:g<e'.g):NQ e' g off v:=by
 obtain⟨b,F,_⟩:=h;exact⟨b,F,λh=>by omega⟩
inductive bs (w:World) (aZ:Nat->Prop) (B:e9):R->Value->Prop
 |J {d:Data} {v:Value} (h:Den w aZ d v):bs w aZ B (.J d) v
 |nil {a:Option Addr}:bs w aZ B .nil (.slice a 0 0)
 |ref {k:Key} {g sz off len:Nat} {e:mu} {v:Value} (he:B k=some e) (a7:g<=e.g) (aA:FF e g sz off len v):bs w aZ B (.ref k g sz off len) v
 |ptr {k:Key} {g off:Nat} {e:mu} {v:Value} (he:B k=some e) (a7:g<=e.g) (aA:NQ e g off v):bs w aZ B (.ptr k g off) v
 |fu {f:FuncId} {eP:List R} {vs:List Value} (ar:(D vs)=D eP) (aa:∀(i:Nat) (d:R) (v:Value),eP[i]?=some d->vs[i]?=some v->bs w aZ B d v) :
   bs w aZ B (.fu f eP) (.func (.func f) #[] vs.toArray)
 |agg {cs:List R} {vs:List Value} (ar:(D vs)=D cs) (aa:∀(i:Nat) (d:R) (v:Value),cs[i]?=some d->vs[i]?=some v->bs w aZ B d v) :
   bs w aZ B (.agg cs) (.agg vs.toArray)
 |cI {cs:List R} {vs:List Value} (ar:(D vs)=D cs) (aa:∀(i:Nat) (d:R) (v:Value),cs[i]?=some d->vs[i]?=some v->bs w aZ B d v) :
   bs w aZ B (.cI cs) (.tuple vs.toArray)
 |no:bs w aZ B .no undef
 |undef {v:Value}:bs w aZ B .undef v
def cg (A:Nat->Prop)(B:e9)(b:Nat):Prop:=sf B b\/A b
structure Trans (A:Nat->Prop) (w:World) (B:e9) (aR:World) (bu:e9):Prop where
 size:w.heap.size<=aR.heap.size
 JF:∀b,b<w.heap.size->¬ cg A B b->aR.heap[b]?=w.heap[b]?/\¬ sf bu b
 key:∀k e,B k=some e->∃e',bu k=some e'/\(e'=e\/e.g<e'.g)
theorem Trans.refl (A:Nat->Prop)(w:World)(B:e9):Trans A w B w B :=
 ⟨bZ _,λ_ _ h=>⟨rfl,λbO=>h (.inl bO)⟩,λ_ e he=>⟨e,he,.inl rfl⟩⟩
theorem Trans.trans {A:Nat->Prop}{w w1 ni:World}{B A2 C5:e9}(h:Trans A w B w1 A2)(cG:Trans A w1 A2 ni C5):Trans A w B ni C5:=by
 refine⟨eQ h.size cG.size,λb ah bO=>?_,λk e he=>?_⟩
 ·obtain⟨F,I⟩:=h.JF b ah bO;obtain⟨af,aO⟩:=cG.JF b (C6 ah h.size) (λQ=>Q.elim I λaP=>bO (.inr aP));exact⟨af.trans F,aO⟩
 ·obtain⟨aC,aox,aU⟩:=h.key k e he;obtain⟨aD,fq,oW⟩:=cG.key k aC aox;refine⟨aD,fq,?_⟩;rcases aU with rfl|aU<;>rcases oW with rfl|oW
  ·exact .inl rfl
  ·exact .inr oW
  ·exact .inr aU
  ·exact .inr (Nat.lt_trans aU oW)
theorem Den.trans {A:Nat->Prop}{w aR:World}{B bu:e9}(t:Trans A w B aR bu){d:Data}{v:Value}(h:Den w (cg A B) d v):Den aR (cg A bu) d v :=
 h.q8 t.size λb ah bO=>⟨(t.JF b ah bO).1,λQ=>Q.elim (t.JF b ah bO).2 λaP=>bO (.inr aP)⟩
theorem bs.q8 {A:Nat->Prop}{w aR:World}{B bu:e9}(t:Trans A w B aR bu){m:R}{v:Value}(h:bs w (cg A B) B m v):bs aR (cg A bu) bu m v:=by
 induction h with
 |J h=>exact .J (h.trans t)
 |nil=>exact .nil
 | @ref k g sz off len e v he a7 aA =>
  obtain⟨e',gz,aU⟩:=t.key k e he;rcases aU with rfl|aU
  ·exact .ref gz a7 aA
  ·exact .ref gz (by omega) (aA.JE (by omega))
 | @ptr k g off e v he a7 aA =>
  obtain⟨e',gz,aU⟩:=t.key k e he;rcases aU with rfl|aU
  ·exact .ptr gz a7 aA
  ·exact .ptr gz (by omega) (aA.JE (by omega))
 |fu ar aa az=>exact .fu ar az
 |agg ar aa az=>exact .agg ar az
 |cI ar aa az=>exact .cI ar az
 |no=>exact .no
 |undef=>exact .undef
abbrev Mem:=Key->Option (Nat×List R)
def emp:Mem:=λ_=>none
def a4 (m:Mem)(k:Key)(g:Nat)(cs:List R):Mem:=λj=>if j=k then some (g,cs) else m j
def bV (m:Mem)(k:Key):Nat:=match m k with
 |none=>0
 |some (g,_)=>g+1
structure fr (A:Nat->Prop) (w:World) (B:e9) (mem:Mem):Prop where
 A5:∀k,mem k=none->B k=none
 inj:∀k k' e e' b,B k=some e->B k'=some e'->e.dx=some b->e'.dx=some b->k=k'
 sep:∀b,A b->¬ sf B b
 lt:∀b,A b->b<w.heap.size
 dx:∀k g cs,mem k=some (g,cs)->∃e,B k=some e/\e.g=g/\(e.dx=none->cs=[]) /\
  ∀b,e.dx=some b->∃vs T,w.heap[b]?=some (.cells vs T (0,0))/\vs.size=e.size/\D cs<=vs.size /\
   ∀(i:Nat) (m:R),cs[i]?=some m->∃v,vs[i]?=some v/\bs w (cg A B) B m v
theorem fr.xY {A:Nat->Prop}{w:World}{B:e9}{mem:Mem}(h:fr A w B mem){b:Nat}(ah:sf B b):b<w.heap.size:=by
 obtain⟨k,e,he,ah⟩:=ah
 cases hm:mem k with
 |none=>rw[h.A5 k hm] at he;cases he
 |some x =>
  obtain⟨g,cs⟩:=x;obtain⟨e',gz,_,_,aU⟩:=h.dx k g cs hm;rw[gz] at he
  cases he;obtain⟨vs,T,aA,_⟩:=aU b ah;exact (Array.getElem?_eq_some_iff.1 aA).1
structure Fr (va:Nat->Prop) (en w:World):Prop where
 os:w.os=en.os
 tape:w.tape=en.tape
 output:w.output=en.output
 size:en.heap.size<=w.heap.size
 block:∀g,g<en.heap.size->¬ va g->w.heap[g]?=en.heap[g]?
theorem Fr.refl (va:Nat->Prop)(w:World):Fr va w w:=⟨rfl,rfl,rfl,bZ _,λ_ _ _=>rfl⟩
theorem Fr.drew {va:Nat->Prop}{en w:World}(h:Fr va en w)(n:Nat):Fr va en { w with drawn:=n }:=⟨h.os,h.tape,h.output,h.size,h.block⟩
theorem Fr.alloc {va:Nat->Prop}{en w:World}(h:Fr va en w)(o:Obj):Fr va en (w.alloc o) :=
 ⟨h.os,h.tape,h.output,by simp;have:=h.size;omega,λg a7 fJ=>(RowKit.Below.heap_alloc w o g (by have:=h.size;omega)).trans (h.block g a7 fJ)⟩
theorem Fr.below {en w:World}(h:Fr (λ_=>False) en w):RowKit.Below en.heap.size en w:=⟨h.os,h.tape,h.output,h.size,λg a7=>h.block g a7 id⟩
inductive bS where
 |t (s:Nat)
 |c (m:R)
 deriving Inhabited
inductive kj where
 |b6 (x:bS)
 |pick (c a b:bS)
 |alloc (k:Key) (z:List R)
 |box (k:Key) (x:bS)
 |build (z:List R) (parts:List (Nat×Nat×bS))
 |fe (k:Key) (own:Bool) (z:List R) (sz len:Nat) (parts:List (Nat×Nat×bS))
 |load (n:Nat) (dU:Bool) (x:bS)
 |store (n:Nat) (x v:bS)
 |bin (op:BinOp) (x y:bS)
 |beq (neg:Bool) (x y:bS)
 |eqs (neg:Bool) (gT:List Nat) (x y:bS)
 |q9 (neg:Bool) (x:bS)
 |un (op:UnOp) (x:bS)
 |conv (k:IntKind) (x:bS)
 |sg (x:bS)
 |mv (k:Key) (z:List R) (bytes:Nat) (len cap:bS)
 |ei (off:Nat) (x:bS)
 |C7 (off n:Nat) (dU:Bool) (x:bS)
 |jy (sz:Nat) (x i:bS)
 |oX (len sz:Nat) (x i:bS)
 |idxs (x i:bS)
 |oz (sz:Nat) (x:bS) (cH M kl:Option bS)
 |tq (len sz:Nat) (x:bS) (cH M kl:Option bS)
 |C8 (x:bS) (cH M:Option bS)
 |ext (i:Nat) (x:bS)
 |len (x:bS)
 |lens (x:bS)
 |app (k:Key) (z:List R) (bytes:Nat) (s x:bS)
 |si (sz:Nat) (d x:bS)
 |iH (kl:Bool) (x y:bS)
 |call (f:FuncId) (args:List bS)
 |nT (k:Key) (sz:Nat) (f:FuncId) (args:List bS)
 |jM (f:bS) (args:List bS)
 |mw (cH:Nat) (f:FuncId) (args:List bS)
 |tr (j:Nat) (f:FuncId) (args:List bS)
 |sj (j:Nat) (f:FuncId) (args:List bS)
 |sk (z:List R) (x:bS)
 |oY (f:FuncId) (eP:List bS)
 |bad
 deriving Inhabited
structure c8 where
 dst:Option Nat
 g:Option (Nat×Bool)
 op:kj
 deriving Inhabited
inductive NR where
 |nU (s:Nat) (k:Key) (sz:Nat)
 |NS (x:bS) (i:Nat) (k:Key) (sz:Nat)
 |freeze (s:Nat)
 |NT (x:bS) (i:Nat)
 |move
 |many
 deriving Inhabited
inductive ez where
 |skip
 |ops (l:List c8)
 |mU (l:List c8) (c:List (List Nat))
 |seq (a b:ez)
 |cond (c:bS) (a b:ez)
 |block (id:Nat) (c:ez)
 |loop (c:ez)
 |exit (id:Nat)
 |ret
 |ghost (g:NR) (c:ez)
 deriving Inhabited
inductive oA where
 |t (s:Nat)
 |cell (s n:Nat) (dU:Bool)
 deriving Inhabited
structure bN where
 n:Nat
 aoy:Nat
 res:List oA
 body:ez
 deriving Inhabited
structure bb where
 tm:Nat->R
 mem:Mem
def fa (tm:Nat->R)(s:Nat)(m:R):Nat->R:=λt=>if t=s then m else tm t
def put (tm:Nat->R):Option Nat->R->Nat->R
 |some s,m=>fa tm s m
 |none,_=>tm
@[simp] theorem eV (tm:Nat->R)(s:Nat)(m:R)(t:Nat):fa tm s m t=if t=s then m else tm t:=rfl
def a6 (tm:Nat->R):bS->R
 |.t s=>tm s
 |.c m=>m
def R.cells:R->List R
 |.agg cs=>cs
 |.J (.agg ds)=>ds.map .J
 |m=>[m]
def R.known:R->Bool
 |.undef=>false
 |_=>true
def R.one:R->Bool
 |.J (.agg _)=>false
 |.J (.cI _)=>false
 |.J _=>true
 |.nil=>true
 |.ref ..=>true
 |.ptr ..=>true
 |.fu ..=>true
 |_=>false
def ra (dU:Bool)(cs:List R):Option R :=
 if dU=true then some (.agg cs) else match cs with
  | [m]=>some m
  |_=>none
def cut (cs:List R)(off n:Nat):Option (List R) :=
 if off+n<=(D cs) then some ((cs.drop off).take n) else none
def kV (cs:List R)(off:Nat)(new:List R):List R:=cs.take off++new++cs.drop (off+D new)
def kD (a6:bS->R)(cells:List R):List (Nat×Nat×bS)->Option (List R)
 | []=>some cells
 |(off,size,x)::rest =>
  if (a6 x).known=true/\(a6 x).cells.length=size/\off+size<=(D cells) then kD a6 (kV cells off (a6 x).cells) rest else none
def vb:R->Option Data
 |.J d=>some d
 |.nil=>some (.Y [])
 |_=>none
def chunk (sz:Nat):Nat->List Data->List (List Data)
 |0,_=>[]
 |n+1,l=>l.take sz::chunk sz n (l.drop sz)
def NU (op:BinOp)(k:IntKind)(a b:Int):Option Data :=
 match op with
 |.add=>some (.int k (k.wrap (a+b)))
 |.sub=>some (.int k (k.wrap (a-b)))
 |.mul=>some (.int k (k.wrap (a*b)))
 |.quo=>if b=0 then none else some (.int k (k.wrap (a.tdiv b)))
 |.rem=>if b=0 then none else some (.int k (a.tmod b))
 |.and=>some (.int k (bits .and k a b))
 |.or=>some (.int k (bits .or k a b))
 |.xor=>some (.int k (bits .xor k a b))
 |.andNot=>some (.int k (bits .andNot k a b))
 |.eql=>some (.bool (a==b))
 |.neq=>some (.bool (a != b))
 |.lss=>some (.bool (a<b))
 |.leq=>some (.bool (a<=b))
 |.gtr=>some (.bool (a>b))
 |.geq=>some (.bool (a>=b))
 |_=>none
def NV (op:BinOp)(k:IntKind)(a b:Int):Option Data :=
 if b<0 then none else match op with
 |.shl=>some (.int k (k.wrap (a*2^(min b.toNat k.bits))))
 |.shr=>some (.int k (a.fdiv (2^(min b.toNat k.bits))))
 |_=>none
def NW (op:BinOp)(a b:List UInt8):Option Data :=
 match op with
 |.add=>if (D a)+D b<=maxLen then some (.str (a++b)) else none
 |.eql=>some (.bool (a==b))
 |.neq=>some (.bool (!(a==b)))
 |.lss=>some (.bool (Op.bytesLess a b))
 |.leq=>some (.bool (Op.bytesLess a b||a==b))
 |.gtr=>some (.bool (!(Op.bytesLess a b||a==b)))
 |.geq=>some (.bool (!Op.bytesLess a b))
 |_=>none
def FG:BinOp->Bool
 |.shl=>true
 |.shr=>true
 |_=>false
def JG (op:BinOp)(x y:R):Option R :=
 match x,y with
 |.J (.int k a),.J (.int k' b)=>if FG op=true then (NV op k a b).map .J else if k=k' then (NU op k a b).map .J else none
 |.J (.str a),.J (.str b)=>(NW op a b).map .J
 |_,_=>none
def JH (neg:Bool):R->R->Option R
 |.J (.bool a),.J (.bool b)=>some (.J (.bool (neg != (a==b))))
 |_,_=>none
def NX:Nat->R->R->Option Bool
 |0,.J (.bool a),.J (.bool b)=>some (a==b)
 |1,.J (.int k a),.J (.int k' b)=>if k=k' then some (a==b) else none
 |2,.J (.str a),.J (.str b)=>some (a==b)
 |_,_,_=>none
def A6:List Nat->List R->List R->Option Bool
 | [],[],[]=>some true
 |k::gT,a::x,b::y=>match NX k a b,A6 gT x y with
  |some c,some d=>some (c&&d)
  |_,_=>none
 |_,_,_=>none
def JI (op:UnOp)(x:R):Option R :=
 match op,x with
 |.neg,.J (.int k n)=>some (.J (.int k (k.wrap (0-n))))
 |.xor,.J (.int k n)=>some (.J (.int k (bits .xor k (if k.signed then -1 else k.max) n)))
 |.not,.J (.bool b)=>some (.J (.bool !b))
 |_,_=>none
def idx:R->Option Nat
 |.J (.int _ n)=>if 0<=n then some n.toNat else none
 |_=>none
def jN (d:Nat):Option R->Option Nat
 |none=>some d
 |some x=>idx x
def qh:R->Option Nat
 |.J (.Y es)=>some (D es)
 |.nil=>some 0
 |.ref _ _ _ _ n=>some n
 |_=>none
def qi (mem:Mem)(n:Nat)(dU:Bool):R->Option R
 |.ptr k g off=>match mem k with
  |some (c6,cs)=>if c6=g then (cut cs off n).bind (ra dU) else none
  |none=>none
 |.J (.ptr ds)=>(cut (ds.map .J) 0 n).bind (ra dU)
 |_=>none
def zj:R->Option Nat
 |.J (.str s)=>some (D s)
 |_=>none
def FH:R->R->R->Option R
 |.J (.bool t),a,b=>some (if t=true then a else b)
 |_,_,_=>none
def JJ (z:List R)(sz len:Nat)(x:Option (List R)):Option R :=
 if (D z)=len*sz then (match x with
  |some cs=>(cs.mapM vb).map λds => .J (.Y (chunk sz len ds))
  |none=>none) else none
def JK:R->Option (List R)
 |.agg cs=>some cs
 |.J (.agg ds)=>some (ds.map .J)
 |_=>none
def JL (neg:Bool)(gT:List Nat)(a b:R):Option R:=match JK a,JK b with
 |some x,some y=>(match A6 gT x y with
  |some c=>some (.J (.bool (neg != c)))
  |none=>none)
 |_,_=>none
def JM (k:IntKind):R->Option R
 |.J (.int _ n)=>some (.J (.int k (k.wrap n)))
 |_=>none
def JN:R->Option R
 |.ptr k g off=>some (.ptr k g off)
 |.J (.ptr ds)=>some (.J (.ptr ds))
 |_=>none
def JO (off:Nat):R->Option R
 |.ptr k g o=>some (.ptr k g (o+off))
 |.J (.ptr ds)=>if off<=(D ds) then some (.J (.ptr (ds.drop off))) else none
 |_=>none
def JP (off n:Nat)(dU:Bool):R->Option R
 |.agg cs=>(cut cs off n).bind (ra dU)
 |.J (.agg ds)=>(cut (ds.map .J) off n).bind (ra dU)
 |_=>none
def zk (sz n:Nat):R->Option R
 |.ref k g eu off len=>if n<len/\eu=sz then some (.ptr k g (off+n*sz)) else none
 |.J (.Y es)=>match es[n]? with
  |some e=>if (D e)=sz then some (.J (.ptr e)) else none
  |none=>none
 |_=>none
def JQ (len sz n:Nat):R->Option R
 |.ptr k g off=>if n<len then some (.ptr k g (off+n*sz)) else none
 |.J (.ptr ds)=>if n<len/\n*sz<=(D ds) then some (.J (.ptr (ds.drop (n*sz)))) else none
 |_=>none
def JR (n:Nat):R->Option R
 |.J (.str s)=>(s[n]?).map λb => .J (.int .u8 b.toNat)
 |_=>none
def nj (sz:Nat)(es:List (List Data)):Bool:=es.all λe=>D e==sz
def JS (sz l h:Nat):R->Option R
 |.J (.Y es)=>if l<=h/\h<=D es/\nj sz es=true then some (.J (.Y ((es.take h).drop l))) else none
 |.nil=>if l=0/\h=0 then some .nil else none
 |.ref k g eu off len=>if eu=sz/\l<=h/\h<=len then some (.ref k g sz (off+l*sz) (h-l)) else none
 |_=>none
def JT (sz l h m:Nat):R->Option R
 |.J (.Y es)=>if l<=h/\h<=m/\m<=D es/\nj sz es=true then (if m=l then some .nil else some (.J (.Y ((es.take h).drop l)))) else none
 |.nil=>if l=0/\h=0/\m=0 then some .nil else none
 |.ref _ _ _ _ len=>if l<=h/\h<=m/\m<=len/\m=l then some .nil else none
 |_=>none
def JU (l h:Nat):R->Option R
 |.J (.str s)=>if l<=h/\h<=(D s) then some (.J (.str ((s.take h).drop l))) else none
 |_=>none
def JV (i:Nat):R->Option R
 |.cI vs=>vs[i]?
 |.J (.cI ds)=>(ds[i]?).map .J
 |_=>none
def JW (kl:Bool):R->R->Option R
 |.J (.int k a),.J (.int k' b)=>if k=k' then some (.J (.int k (if kl=true then (if b>a then b else a) else (if b<a then b else a)))) else none
 |_,_=>none
def h2 (x:Option Nat)(f:Nat->Option R):Option R:=match x with
 |some n=>f n
 |none=>none
def kW (tm:Nat->R):kj->Option R
 |.b6 x=>some (a6 tm x)
 |.pick c a b=>FH (a6 tm c) (a6 tm a) (a6 tm b)
 |.build z parts=>(kD (a6 tm) z parts).map .agg
 |.fe _ false z sz len parts=>JJ z sz len (kD (a6 tm) z parts)
 |.bin op x y=>JG op (a6 tm x) (a6 tm y)
 |.beq neg x y=>JH neg (a6 tm x) (a6 tm y)
 |.eqs neg gT x y=>JL neg gT (a6 tm x) (a6 tm y)
 |.un op x=>JI op (a6 tm x)
 |.conv k x=>JM k (a6 tm x)
 |.sg x=>JN (a6 tm x)
 |.ei off x=>JO off (a6 tm x)
 |.C7 off n dU x=>JP off n dU (a6 tm x)
 |.jy sz x i=>h2 (idx (a6 tm i)) λn=>zk sz n (a6 tm x)
 |.oX len sz x i=>h2 (idx (a6 tm i)) λn=>JQ len sz n (a6 tm x)
 |.idxs x i=>h2 (idx (a6 tm i)) λn=>JR n (a6 tm x)
 |.oz sz x cH M none=>h2 (jN 0 (cH.map (a6 tm))) λl=>h2 (qh (a6 tm x)) λlen=>h2 (jN len (M.map (a6 tm))) λh=>JS sz l h (a6 tm x)
 |.oz sz x cH (some M) (some kl)=>h2 (jN 0 (cH.map (a6 tm))) λl=>h2 (idx (a6 tm M)) λh=>h2 (idx (a6 tm kl)) λm=>JT sz l h m (a6 tm x)
 |.C8 x cH M=>h2 (jN 0 (cH.map (a6 tm))) λl=>h2 (zj (a6 tm x)) λlen=>h2 (jN len (M.map (a6 tm))) λh=>JU l h (a6 tm x)
 |.ext i x=>JV i (a6 tm x)
 |.len x=>h2 (qh (a6 tm x)) λn=>some (.J (.int .i64 n))
 |.lens x=>h2 (zj (a6 tm x)) λn=>some (.J (.int .i64 n))
 |.iH kl x y=>JW kl (a6 tm x) (a6 tm y)
 |.oY f eP=>some (.fu f (eP.map (a6 tm)))
 |_=>none
def Tn (k:Key)(g off len sz l h:Nat):Option (Nat×List R)->Option R
 |some (c6,cs)=>if c6=g/\l<=h/\h<=len/\off+len*sz<=(D cs) then some (.ref k g sz (off+l*sz) (h-l)) else none
 |none=>none
def A7 (mem:Mem)(len sz l h:Nat):R->Option R
 |.ptr k g off=>Tn k g off len sz l h (mem k)
 |_=>none
def qj (mem:Mem)(sz:Nat):R->Option (Nat×List R)
 |.J (.Y es)=>if nj sz es=true then some (D es,es.flatten.map R.J) else none
 |.nil=>some (0,[])
 |.ref k g eu off len=>if eu=sz then (match mem k with
  |some (c6,cs)=>if c6=g then (cut cs off (len*sz)).map λcs=>(len,cs) else none
  |none=>none) else none
 |_=>none
abbrev Out:=Option (R×Option (Key×Nat×List R))
def jh (x:Option R):Out:=match x with
 |some m=>some (m,none)
 |none=>none
def FI (k:Key)(g:Nat)(z:List R)(sz len:Nat)(x:Option (List R)):Out :=
 if (D z)=len*sz then (match x with
  |some cs=>some (.ref k g sz 0 len,some (k,g,cs))
  |none=>none) else none
def FJ (k:Key)(g:Nat)(z:List R)(bytes:Nat)(n c:Nat):Out :=
 if n=c/\bytes*n<=140737488355328/\n<=maxLen then some (.ref k g (D z) 0 n,some (k,g,(dG n z).flatten)) else none
def JX (x y:Option Nat)(f:Nat->Nat->Out):Out:=match x,y with
 |some n,some m=>f n m
 |_,_=>none
def JY (n:Nat)(k:Key)(g off:Nat)(v:List R)(x:Option (Nat×List R)):Out:=match x with
 |some (c6,cs)=>if c6=g/\D v=n/\off+n<=D cs/\v.all R.one=true then some (.no,some (k,g,kV cs off v)) else none
 |none=>none
def xZ (mem:Mem)(n:Nat):R->List R->Out
 |.ptr k g off,v=>JY n k g off v (mem k)
 |_,_=>none
def mx (k:Key)(g:Nat)(sz len bytes:Nat)(m:Nat)(new:List R)(x:Option (Nat×List R)):Out:=match x with
 |some (c6,cs)=>if c6=g/\len*sz<=D cs/\(len+m)*bytes<=140737488355328/\len+m<=maxLen/\new.all R.one=true
   then some (.ref k (g+1) sz 0 (len+m),some (k,g+1,cs.take (len*sz)++new)) else none
 |none=>none
def rb (mem:Mem)(k:Key)(z:List R)(bytes:Nat):R->Option (Nat×List R)->Out
 |.nil,some (m,new)=>if m*bytes<=140737488355328/\m<=maxLen/\new.all R.one=true then some (.ref k (bV mem k) (D z) 0 m,some (k,bV mem k,new)) else none
 |.ref k' g eu off len,some (m,new)=>if eu=D z/\off=0 then mx k' g eu len bytes m new (mem k') else none
 |_,_=>none
def A8 (k:Key)(g sz off len:Nat)(m:Nat)(new:List R)(x:Option (Nat×List R)):Out:=match x with
 |some (c6,cs)=>if c6=g/\off+len*sz<=D cs/\new.all R.one=true then some (.J (.int .i64 ((min m len:Nat):Int)),some (k,g,kV cs off (new.take (min m len*sz)))) else none
 |none=>none
def wC (mem:Mem)(sz:Nat):R->Option (Nat×List R)->Out
 |.ref k g eu off len,some (m,new)=>if eu=sz then A8 k g sz off len m new (mem k) else none
 |_,_=>none
def NY (z:List R)(k:Key)(g off len:Nat)(x:Option (Nat×List R)):Out:=match x with
 |some (c6,cs)=>if c6=g/\off+len*D z<=D cs/\z.all R.one=true then some (.cI [],some (k,g,kV cs off (dG len z).flatten)) else none
 |none=>none
def x0 (mem:Mem)(z:List R):R->Out
 |.ref k g sz off len=>if sz=(D z) then NY z k g off len (mem k) else none
 |_=>none
def cw (mem:Mem)(tm:Nat->R):kj->Out
 |.alloc k z=>some (.ptr k (bV mem k) 0,some (k,bV mem k,z))
 |.box k x=>if (a6 tm x).known=true then some (.ptr k (bV mem k) 0,some (k,bV mem k,(a6 tm x).cells)) else none
 |.fe k true z sz len parts=>FI k (bV mem k) z sz len (kD (a6 tm) z parts)
 |.mv k z bytes len cap=>JX (idx (a6 tm len)) (idx (a6 tm cap)) (FJ k (bV mem k) z bytes)
 |.load n dU x=>jh (qi mem n dU (a6 tm x))
 |.tq len sz x cH M none=>jh (h2 (jN 0 (cH.map (a6 tm))) λl=>h2 (jN len (M.map (a6 tm))) λh=>A7 mem len sz l h (a6 tm x))
 |.store n x v=>xZ mem n (a6 tm x) (a6 tm v).cells
 |.app k z bytes s x=>rb mem k z bytes (a6 tm s) (qj mem (D z) (a6 tm x))
 |.si sz d x=>wC mem sz (a6 tm d) (qj mem sz (a6 tm x))
 |.sk z x=>x0 mem z (a6 tm x)
 |op=>jh (kW tm op)
inductive gZ where
 |same (r:Data)
 |own (sz:Nat) (es:List (List Data))
 |rel (bU:R->Mem->Prop)
 |fa (r:Data) (k:Key) (g i:Nat) (c:R)
 |zl (r:Data) (k:Key)
abbrev bd:=FuncId->List R->Mem->Option gZ
def ik (mem:Mem):Option (Key×Nat×List R)->Mem
 |none=>mem
 |some (k,g,cs)=>a4 mem k g cs
def re (mem:Mem)(k:Key):List R:=match mem k with
 |some (_,cs)=>cs
 |none=>[]
def vc (T:bd)(K:bb->Prop)(st:bb)(dst:Option Nat)(f:FuncId)(args:List R):Prop :=
 match T f args st.mem with
 |some (.same r)=>K ⟨put st.tm dst (.J r),st.mem⟩
 |some (.own _ es)=>K ⟨put st.tm dst (.J (.Y es)),st.mem⟩
 |some (.rel bU)=>∀r mem',bU r mem'->K ⟨put st.tm dst r,mem'⟩
 |some (.fa r k g i c)=>K ⟨put st.tm dst (.J r),a4 st.mem k g ((re st.mem k).set i c)⟩
 |some (.zl r k)=>K ⟨put st.tm dst (.J r),a4 st.mem k (bV st.mem k) []⟩
 |none=>False
def C9:R->Option Bool
 |.J (.Y es)=>some (!es.isEmpty)
 |.nil=>some false
 |.ref _ _ _ _ len=>some (decide (0<len))
 |_=>none
def gA (T:bd)(K:bb->Prop)(i:c8)(st:bb):Prop :=
 match i.op with
 |.call f args=>vc T K st i.dst f (args.map (a6 st.tm))
 |.nT k sz f args=>match T f (args.map (a6 st.tm)) st.mem with
  |some (.own eu es)=>if eu=sz then K ⟨put st.tm i.dst (.ref k (bV st.mem k) sz 0 (D es)),a4 st.mem k (bV st.mem k) (es.flatten.map .J)⟩ else False
  |_=>False
 |.jM f args=>match a6 st.tm f with
  |.fu g eP=>vc T K st i.dst g (args.map (a6 st.tm)++eP)
  |.J (.fn g ds)=>vc T K st i.dst g (args.map (a6 st.tm)++ds.map .J)
  |_=>False
 |.q9 neg x=>match C9 (a6 st.tm x) with
  |some full=>∀b:Bool,(full=true->b=false)->K ⟨put st.tm i.dst (.J (.bool (neg != b))),st.mem⟩
  |none=>False
 |op=>match cw st.mem st.tm op with
  |some (m,e)=>K ⟨put st.tm i.dst m,ik st.mem e⟩
  |none=>False
def oZ (tm:Nat->R):Option (Nat×Bool)->Option Bool
 |none=>some true
 |some (s,b)=>match tm s with
  |.J (.bool t)=>some (t==b)
  |.no=>some false
  |_=>none
def x1 (T:bd)(K:bb->Prop):List c8->bb->Prop
 | [],st=>K st
 |i::r,st=>match oZ st.tm i.g with
  |none=>False
  |some g=>if g=true then gA T (x1 T K r) i st else x1 T K r ⟨put st.tm i.dst .no,st.mem⟩
def keyOf:R->List Key
 |.ref k ..=>[k]
 |.ptr k ..=>[k]
 |_=>[]
inductive nk where
 |hr (k:Key)
 |rd (k:Key) (a b:Nat)
 |wr (k:Key) (i:Nat)
def nk.key:nk->Key
 |.hr k=>k
 |.rd k _ _=>k
 |.wr k _=>k
def rf:nk->nk->Bool
 |.hr k,.hr k' => !(k==k')
 |.hr k,.rd k' _ _ => !(k==k')
 |.rd k _ _,.hr k' => !(k==k')
 |.rd _ _ _,.rd _ _ _=>true
 |.rd k a b,.wr k' i => !(k==k')||(decide (i<a)||decide (b<=i))
 |.wr k' i,.rd k a b => !(k==k')||(decide (i<a)||decide (b<=i))
 |.wr _ _,.wr _ _=>false
 |.hr _,.wr _ _=>false
 |.wr _ _,.hr _=>false
def FK (n:Nat):R->List nk
 |.ref k ..=>[.hr k]
 |.ptr k _ off=>[.rd k off (off+n)]
 |_=>[]
def JZ (cH:Nat):List R->List nk
 |.ptr k _ off::_=>[.wr k (off+cH)]
 |_=>[]
def wD:Option R->List nk
 |some (.ref k ..)=>[.hr k]
 |_=>[]
def dH (tm:Nat->R):kj->List nk
 |.load n _ x=>FK n (a6 tm x)
 |.tq _ _ x _ _ _=>(keyOf (a6 tm x)).map .hr
 |.store _ x _=>(keyOf (a6 tm x)).map .hr
 |.alloc k _=>[.hr k]
 |.box k _=>[.hr k]
 |.fe k true _ _ _ _=>[.hr k]
 |.mv k _ _ _ _=>[.hr k]
 |.nT k _ _ _=>[.hr k]
 |.app k _ _ s x => .hr k::((keyOf (a6 tm s)).map .hr++(keyOf (a6 tm x)).map .hr)
 |.si _ d x=>(keyOf (a6 tm d)).map .hr++(keyOf (a6 tm x)).map .hr
 |.mw cH _ args=>JZ cH (args.map (a6 tm))
 |.tr j _ args=>wD (args.map (a6 tm))[j]?
 |.sj j _ args=>wD (args.map (a6 tm))[j]?
 |.sk _ x=>(keyOf (a6 tm x)).map .hr
 |_=>[]
def jO:kj->Bool
 |.store ..=>true
 |.alloc ..=>true
 |.box ..=>true
 |.fe _ true _ _ _ _=>true
 |.mv ..=>true
 |.nT ..=>true
 |.app ..=>true
 |.si ..=>true
 |.mw ..=>true
 |.tr ..=>true
 |.sj ..=>true
 |.sk ..=>true
 |_=>false
def qk:R->R
 |.J d => .J d
 |.nil => .nil
 |.fu f [] => .fu f []
 |.agg cs=>match cs.mapM vb with
  |some ds => .J (.agg ds)
  |none => .undef
 |_ => .undef
def FL (cH:Nat)(mem:Mem):List R->Option gZ->Option (R×Option (Key×Nat×List R))
 |.ptr k _ off::_,some (.fa r k' c6 i c)=>match mem k with
  |some (g,cs)=>if k'=k/\c6=g/\i=off+cH then some (.J r,some (k,g,cs.set i c)) else none
  |none=>none
 |_,_=>none
def To (cs:List R):Option (List Data):=cs.mapM vb
def J0 (sz off len:Nat)(cs:List R):Option Data:=match cut cs off (len*sz) with
 |some part=>(To part).map λds => .Y (chunk sz len ds)
 |none=>none
def NZ:Option gZ->Option Data
 |some (.same r)=>some r
 |some (.own _ es)=>some (.Y es)
 |_=>none
def Tp (T:bd)(j:Nat)(f:FuncId)(ms:List R)(k:Key)(g sz off len:Nat):Option (Nat×List R)->Option (R×Option (Key×Nat×List R))
 |some (c6,cs)=>if c6=g then (match J0 sz off len cs with
  |some d=>(match NZ (T f (ms.set j (.J d)) emp) with
   |some r=>some (.J r,some (k,c6+1,[]))
   |none=>none)
  |none=>none) else none
 |none=>none
def J1 (T:bd)(mem:Mem)(j:Nat)(f:FuncId)(ms:List R):Option R->Option (R×Option (Key×Nat×List R))
 |some (.ref k g sz off len)=>Tp T j f ms k g sz off len (mem k)
 |_=>none
def nV (cs:List R):Bool:=cs.all λm=>(vb m).isSome
def Tq (T:bd)(j:Nat)(f:FuncId)(ms:List R)(k:Key)(g sz off len:Nat):Option (Nat×List R)->Option (R×Option (Key×Nat×List R))
 |some (c6,cs)=>if nV cs=true then (match T f (ms.set j (.ref k g sz off len)) (a4 emp k c6 cs) with
  |some (.zl r k')=>if k'=k then some (.J r,some (k,c6+1,[])) else none
  |_=>none) else none
 |none=>none
def J2 (T:bd)(mem:Mem)(j:Nat)(f:FuncId)(ms:List R):Option R->Option (R×Option (Key×Nat×List R))
 |some (.ref k g sz off len)=>Tq T j f ms k g sz off len (mem k)
 |_=>none
def hs (T:bd)(mem:Mem)(tm:Nat->R):kj->Option (R×Option (Key×Nat×List R))
 |.call f args=>match T f (args.map λx=>qk (a6 tm x)) emp with
  |some (.same r)=>some (.J r,none)
  |some (.own _ es)=>some (.J (.Y es),none)
  |_=>none
 |.nT k sz f args=>match T f (args.map λx=>qk (a6 tm x)) emp with
  |some (.own eu es)=>if eu=sz then some (.ref k (bV mem k) sz 0 (D es),some (k,bV mem k,es.flatten.map .J)) else none
  |_=>none
 |.jM ..=>none
 |.q9 ..=>none
 |.mw cH f args=>FL cH mem (args.map (a6 tm)) (T f (args.map (a6 tm)) mem)
 |.tr j f args=>J1 T mem j f (args.map λx=>qk (a6 tm x)) (args.map (a6 tm))[j]?
 |.sj j f args=>J2 T mem j f (args.map λx=>qk (a6 tm x)) (args.map (a6 tm))[j]?
 |op=>cw mem tm op
abbrev Rec:=Nat->Option (Bool×List nk)
def rh (a b:Bool×List nk):Bool:=!(a.1||b.1)||a.2.all λx=>b.2.all λy=>rf x y
def FM (rec:Rec)(p:Bool×List nk)(c:List Nat):Bool:=c.all λi=>match rec i with
 |none=>true
 |some q=>rh q p
def vd (rec:Rec)(n:Nat)(p:Bool×List nk):Rec:=λi=>if i=n then some p else rec i
def wE (T:bd)(K:bb->Prop):Nat->List c8->List (List Nat)->Rec->bb->Prop
 |_,[],_,_,st=>K st
 |n,i::r,cs,rec,st=>match oZ st.tm i.g with
  |none=>False
  |some g=>if g=true then (match hs T st.mem st.tm i.op with
    |some (m,e)=>FM rec (jO i.op,dH st.tm i.op) (cs.headD [])=true/\wE T K (n+1) r cs.tail (vd rec n (jO i.op,dH st.tm i.op)) ⟨put st.tm i.dst m,ik st.mem e⟩
    |none=>False) else wE T K (n+1) r cs.tail rec ⟨put st.tm i.dst .no,st.mem⟩
inductive eW where
 |normal
 |exit (id:Nat)
 |ret
def cE:Nat->Mem->R->Option Data
 |_,_,.J d=>some d
 |_,_,.nil=>some (.Y [])
 |0,_,_=>none
 |n+1,mem,.ref k g sz off len=>match mem k with
  |some (c6,cs)=>if c6=g then (match cut cs off (len*sz) with
   |some part=>(part.mapM (cE n mem)).map λds => .Y (chunk sz len ds)
   |none=>none) else none
  |none=>none
 |n+1,mem,.ptr k g off=>match mem k with
  |some (c6,cs)=>if c6=g/\off<=(D cs) then ((cs.drop off).mapM (cE n mem)).map .ptr else none
  |none=>none
 |n+1,mem,.fu f cs=>(cs.mapM (cE n mem)).map (.fn f)
 |n+1,mem,.agg cs=>(cs.mapM (cE n mem)).map .agg
 |n+1,mem,.cI cs=>(cs.mapM (cE n mem)).map .cI
 |_,_,.no=>none
 |_,_,.undef=>none
def kill (mem:Mem)(k:Key):Mem:=a4 mem k (bV mem k) []
inductive sl (mem:Mem):Mem->Prop
 |N0 (fO g0:Nat) (gK:List R) (i k g sz off len:Nat) (cs:List R) (k':Nat) (F:mem fO=some (g0,gK)) (I:gK[i]?=some (.ref k g sz off len)) (af:mem k=some (g,cs)) (aO:k≠fO) (bm:k'≠k) (bK:k'≠fO) :
   sl mem (a4 (a4 (a4 mem k (bV mem k) []) k' (bV mem k') cs) fO g0 (gK.set i (.ref k' (bV mem k') sz off len)))
 |adm (fO g0:Nat) (gK:List R) (i k g off:Nat) (cs:List R) (k':Nat) (F:mem fO=some (g0,gK)) (I:gK[i]?=some (.ptr k g off)) (af:mem k=some (g,cs)) (aO:k≠fO) (bm:k'≠k) (bK:k'≠fO) :
   sl mem (a4 (a4 (a4 mem k (bV mem k) []) k' (bV mem k') cs) fO g0 (gK.set i (.ptr k' (bV mem k') off)))
 |N1 (fO g0:Nat) (gK:List R) (i k g sz off len:Nat) (cs:List R) (d:Data) (F:mem fO=some (g0,gK)) (I:gK[i]?=some (.ref k g sz off len)) (af:mem k=some (g,cs)) (aO:k≠fO) (bm:cE 1 mem (.ref k g sz off len)=some d) :
   sl mem (a4 (kill mem k) fO g0 (gK.set i (.J d)))
inductive ts:Mem->Mem->Prop
 |refl (mem:Mem):ts mem mem
 |step {mem J3 adn:Mem} (h:sl mem J3) (cG:ts J3 adn):ts mem adn
def lr (K:bb->Prop)(st:bb):NR->Prop
 |.nU s k sz=>match st.tm s with
  |.nil=>K ⟨fa st.tm s (.ref k (bV st.mem k) sz 0 0),a4 st.mem k (bV st.mem k) []⟩
  |_=>False
 |.NS x i k sz=>match a6 st.tm x with
  |.ptr kc g off=>match st.mem kc with
   |some (c6,cs)=>if c6=g then (match cs[off+i]? with
    |some .nil=>if k≠kc then K ⟨st.tm,a4 (a4 st.mem k (bV st.mem k) []) kc g (cs.set (off+i) (.ref k (bV st.mem k) sz 0 0))⟩ else False
    |_=>False) else False
   |none=>False
  |_=>False
 |.freeze s=>match st.tm s with
  |.ref k g _ _ _=>match st.mem k with
   |some (c6,cs)=>if c6=g/\nV cs=true then (match cE 1 st.mem (st.tm s) with
    |some d=>K ⟨fa st.tm s (.J d),kill st.mem k⟩
    |none=>False) else False
   |none=>False
  |_=>False
 |.NT x i=>match a6 st.tm x with
  |.ptr kc gc off=>match st.mem kc with
   |some (J4,cc)=>if J4=gc then (match cc[off+i]? with
    |some (.ref k g sz o len)=>match st.mem k with
     |some (c6,cs)=>if c6=g/\nV cs=true/\k≠kc then (match cE 1 st.mem (.ref k g sz o len) with
      |some d=>K ⟨st.tm,a4 (kill st.mem k) kc gc (cc.set (off+i) (.J d))⟩
      |none=>False) else False
     |none=>False
    |_=>False) else False
   |none=>False
  |_=>False
 |.move=>K st\/(∃fO g0 gK i k g sz off len cs k',st.mem fO=some (g0,gK)/\gK[i]?=some (.ref k g sz off len)/\st.mem k=some (g,cs)/\k≠fO/\k'≠k/\k'≠fO /\
   K ⟨st.tm,a4 (a4 (a4 st.mem k (bV st.mem k) []) k' (bV st.mem k') cs) fO g0 (gK.set i (.ref k' (bV st.mem k') sz off len))⟩) \/
   ∃fO g0 gK i k g sz off len cs d,st.mem fO=some (g0,gK)/\gK[i]?=some (.ref k g sz off len)/\st.mem k=some (g,cs)/\nV cs=true/\k≠fO/\cE 1 st.mem (.ref k g sz off len)=some d /\
   K ⟨st.tm,a4 (kill st.mem k) fO g0 (gK.set i (.J d))⟩
 |.many=>∃mem',ts st.mem mem'/\K ⟨st.tm,mem'⟩
def wp (T:bd):ez->(eW->bb->Prop)->bb->Prop
 |.skip,K,st=>K .normal st
 |.ops l,K,st=>x1 T (K .normal) l st
 |.mU l c,K,st=>wE T (K .normal) 0 l c (λ_=>none) st
 |.seq a b,K,st=>wp T a (λe dR=>match e with
  |.normal=>wp T b K dR
  |e=>K e dR) st
 |.cond c a b,K,st=>match a6 st.tm c with
  |.J (.bool t)=>if t=true then wp T a K st else wp T b K st
  |_=>False
 |.block id c,K,st=>wp T c (λe dR=>match e with
  |.exit j=>if j=id then K .normal dR else K (.exit j) dR
  |e=>K e dR) st
 |.loop c,K,st=>∃(Da:bb->Prop) (μ:bb->Nat),Da st/\∀st,Da st->wp T c (λe dR=>match e with
  |.normal=>Da dR/\μ dR<μ st
  |e=>K e dR) st
 |.exit id,K,st=>K (.exit id) st
 |.ret,K,st=>K .ret st
 |.ghost g c,K,st=>lr (wp T c K) st g
def FN (st:bb):oA->Option R
 |.t s=>some (st.tm s)
 |.cell s n dU=>qi st.mem n dU (st.tm s)
def pF (st:bb)(l:List oA):Option R :=
 match l.mapM (FN st) with
 |some [m]=>some m
 |some ms=>some (.cI ms)
 |none=>none
def km (args:List R):Nat->R:=λs=>match args[s]? with
 |some m=>m
 |none => .no
def J5:Value->Option R
 |.int k n=>some (.J (.int k n))
 |.bool b=>some (.J (.bool b))
 |.string s=>some (.J (.str s.data.toList))
 |.slice none 0 0=>some .nil
 |.pointer none=>some (.J .u7)
 |.nilFunc=>some (.J .u9)
 |_=>none
def Tr:Value->Option R
 |.agg cs=>(cs.toList.mapM J5).map .agg
 |v=>J5 v
def dL:Operand->Option bS
 |.tmp t=>some (.t t)
 |.const v=>(Tr v).map .c
 |.func f=>some (.c (.fu f []))
 |.global _=>none
def zeroOf (P:Program)(t:TypeId):Option (List R):=((P.info? t).bind (·.zero)).bind λz=>z.cells.toList.mapM J5
def gl (P:Program)(t:TypeId):Option Nat:=(P.info? t).map (·.size)
def FO (P:Program)(t:TypeId):Option Nat:=(P.info? t).map (·.bytes)
def zm (P:Program)(t:TypeId):Option Bool:=(P.underlying t).map fun|.struct _=>true|.array _ _=>true|_=>false
def partsOf (place:Nat->Option (Nat×Nat))(l:List (Nat×Operand)):Option (List (Nat×Nat×bS)) :=
 l.mapM λ(i,x)=>do
  let (o,s) <-place i
  let y <-dL x
  pure (o,s,y)
def ve (P:Program)(dM:Array Field)(i:Nat):Option (Nat×Nat):=do
 let f <-dM[i]?
 let s <-gl P f.type
 pure (f.offset,s)
def J6 (P:Program)(t:TypeId):Option Nat :=
 match P.underlying t with
 |some .bool=>some 0
 |some (.int _)=>some 1
 |some .string=>some 2
 |_=>none
def FP (P:Program):Nat->List Field->Option (List Nat)
 |_,[]=>some []
 | i, f :: r => if f.name ≠ "_" /\ f.offset = i then (match J6 P f.type, FP P (i + 1) r with
  |some k,some gT=>some (k::gT)
  |_,_=>none) else none
def wF (P:Program)(t:TypeId)(dM:Array Field)(neg:Bool)(x y:Operand):Option kj :=
 if P.stoodInHeld t=false/\P.eqGuardType P.depth t=false then (match FP P 0 dM.toList,dL x,dL y with
  |some gT,some x,some y=>some (.eqs neg gT x y)
  |_,_,_=>none) else none
def Ts:Operand->Bool
 |.const (.slice none 0 0)=>true
 |_=>false
def zn (P:Program)(op:BinOp)(t:TypeId)(x y:Operand):Option kj :=
 match P.underlying t with
 |some (.int _)=>match dL x,dL y with
  |some x,some y=>some (.bin op x y)
  |_,_=>none
 |some .string=>match dL x,dL y with
  |some x,some y=>some (.bin op x y)
  |_,_=>none
 |some .bool=>match op,dL x,dL y with
  |.eql,some x,some y=>some (.beq false x y)
  |.neq,some x,some y=>some (.beq true x y)
  |_,_,_=>none
 |some (.struct dM)=>match op with
  |.eql=>wF P t dM false x y
  |.neq=>wF P t dM true x y
  |_=>none
 |some (.slice _)=>if Ts y=true then (match op with
  |.eql=>(dL x).map (.q9 false)
  |.neq=>(dL x).map (.q9 true)
  |_=>none) else none
 |_=>none
def tt:Option Operand->Option (Option bS)
 |none=>some none
 |some x=>(dL x).map some
def x2 (P:Program)(kb:Nat)(own:List Nat)(dst:Option Nat)(type:TypeId)(c:Call):Option kj :=
 match c.callee,c.args.toList,c.argTypes.toList with
 |.builtin .len,[x],[t]=>match P.underlying t with
  |some (.slice _)=>(dL x).map .len
  |some .string=>(dL x).map .lens
  |_=>none
 |.builtin .append,[s,x],[t,u]=>match P.underlying t,P.underlying u with
  |some (.slice e),some (.slice _)=>do
   let z <-zeroOf P e
   let b <-FO P e
   let n <-gl P e
   let d <-dst
   let s <-dL s
   let x <-dL x
   if (D z)=n/\0<n/\t=u then pure (.app (kb+d) z b s x) else none
  |_,_=>none
 |.builtin .copy,[d,x],[t,u]=>match P.underlying t,P.underlying u with
  |some (.slice e),some (.slice _)=>do
   let n <-gl P e
   if 0<n then pure (.si n (<-dL d) (<-dL x)) else none
  |_,_=>none
 |.builtin .clear,[x],[t]=>match P.underlying t with
  |some (.slice e)=>do
   let z <-zeroOf P e
   let n <-gl P e
   if (D z)=n/\0<n then pure (.sk z (<-dL x)) else none
  |_=>none
 |.builtin .max,[x,y],_=>do pure (.iH true (<-dL x) (<-dL y))
 |.builtin .min,[x,y],_=>do pure (.iH false (<-dL x) (<-dL y))
 |.value (.func f),l,_=>if dst.any (λd=>own.contains d) then (match P.underlying type with
   |some (.slice e)=>do pure (.nT (kb+(<-dst)) (<-gl P e) f (<-l.mapM dL))
   |_=>none) else match own.find? (λo=>decide (1000000<=o)&&dst==some (o%1000000)) with
   |some o=>if 1000000000000<=o then do pure (.sj (o/1000000000000-1) f (<-l.mapM dL)) else if 1000000000<=o then do pure (.tr (o/1000000000-1) f (<-l.mapM dL)) else do pure (.mw (o/1000000-1) f (<-l.mapM dL))
   |none=>do pure (.call f (<-l.mapM dL))
 |.value f,l,_=>do pure (.jM (<-dL f) (<-l.mapM dL))
 |_,_,_=>none
def jP (P:Program)(kb:Nat)(own:List Nat)(dst:Option Nat)(type:TypeId):Op->Option kj
 |.move x=>(dL x).map .b6
 |.assign x=>(dL x).map .b6
 |.pick c a b=>do pure (.pick (<-dL c) (<-dL a) (<-dL b))
 |.alloc e=>do pure (.alloc (kb+(<-dst)) (<-zeroOf P e))
 |.box _ x=>do pure (.box (kb+(<-dst)) (<-dL x))
 |.build t ps=>match P.underlying t with
  |some (.struct dM)=>if (dM.toList.all λf=>(gl P f.type).isSome)=true then do pure (.build (<-zeroOf P t) (<-partsOf (ve P dM) ps.toList)) else none
  |some (.array _ e)=>do
   let s <-gl P e
   pure (.build (<-zeroOf P t) (<-partsOf (λi=>some (i*s,s)) ps.toList))
  |_=>none
 |.buildSlice t len ps=>match P.underlying t with
  |some (.slice e)=>do
   let z <-zeroOf P e
   let s <-gl P e
   let ps <-partsOf (λi=>some (i*s,s)) ps.toList
   let d <-dst
   if (D z)=s/\0<s/\len*s<=16777216 then pure (.fe (kb+d) (own.contains d) ((dG len z).flatten) s len ps) else none
  |_=>none
 |.load t x=>do pure (.load (<-gl P t) (<-zm P t) (<-dL x))
 |.store t x v=>do pure (.store (<-gl P t) (<-dL x) (<-dL v))
 |.binOp op t x y _=>zn P op t x y
 |.unOp op _ x=>(dL x).map (.un op)
 |.nilCheck x=>(dL x).map .sg
 |.convert s t x=>match P.underlying s,P.underlying t with
  |some (.int _),some (.int k)=>(dL x).map (.conv k)
  |_,_=>none
 |.makeFunc (.func f) fst eP=>if fst.size=0 then do pure (.oY f (<-eP.toList.mapM dL)) else none
 |.makeSlice t l c=>match P.underlying t with
  |some (.slice e)=>do
   let z <-zeroOf P e
   let s <-gl P e
   let b <-FO P e
   let d <-dst
   if (D z)=s/\0<s then pure (.mv (kb+d) z b (<-dL l) (<-dL c)) else none
  |_=>none
 |.slice t x cH M kl=>match P.underlying t with
  |some (.slice e)=>do
   let s <-gl P e
   if 0<s then pure (.oz s (<-dL x) (<-tt cH) (<-tt M) (<-tt kl)) else none
  |some (.array n e)=>do
   let s <-gl P e
   if 0<s/\n<=16777216 then pure (.tq n s (<-dL x) (<-tt cH) (<-tt M) (<-tt kl)) else none
  |some .string=>if kl.isNone then do pure (.C8 (<-dL x) (<-tt cH) (<-tt M)) else none
  |_=>none
 |.fieldAddr t x f=>match P.underlying t with
  |some (.struct dM)=>do
   let (o,s) <-ve P dM f
   if 0<s then pure (.ei o (<-dL x)) else none
  |_=>none
 |.field t x f=>match P.underlying t with
  |some (.struct dM)=>do
   let fd <-dM[f]?
   let (o,s) <-ve P dM f
   pure (.C7 o s (<-zm P fd.type) (<-dL x))
  |_=>none
 |.indexAddr t x i=>match P.underlying t with
  |some (.slice e)=>do
   let s <-gl P e
   if 0<s then pure (.jy s (<-dL x) (<-dL i)) else none
  |some (.array n e)=>do
   let s <-gl P e
   if 0<s then pure (.oX n s (<-dL x) (<-dL i)) else none
  |_=>none
 |.index t x i=>match P.underlying t with
  |some .string=>do pure (.idxs (<-dL x) (<-dL i))
  |_=>none
 |.extract x i=>(dL x).map (.ext i)
 |.call c=>x2 P kb own dst type c
 |_=>none
def J7 (ops:Array Oper):Option (Nat×Bool)->Option (Option (Nat×Bool))
 |none=>some none
 |some (j,b)=>match (ops[j]?).bind (·.dst) with
  |some s=>some (some (s,b))
  |none=>none
def A9 (P:Program)(n kb:Nat)(own:List Nat)(ops:Array Oper)(o:Oper):Option c8 :=
 match J7 ops o.guard with
 |some g=>if o.dst.all (λd=>decide (d<n))=true then some ⟨o.dst,g,(jP P kb own o.dst o.type o.op).getD .bad⟩ else none
 |_=>none
def sm (m:kj):Nat:=match m with
 |.load ..=>1
 |.tq ..=>1
 |m=>if jO m=true then 2 else 0
def zo (a b:Nat):Bool:=a==0||b==0||(a==1&&b==1)
def fo:bS->List Nat
 |.t s=>[s]
 |.c _=>[]
def x3:Option bS->List Nat
 |some (.t s)=>[s]
 |_=>[]
def sn:kj->List Nat
 |.b6 x=>fo x
 |.pick c a b=>fo c++fo a++fo b
 |.alloc _ _=>[]
 |.box _ x=>fo x
 |.build _ ps=>ps.flatMap λp=>fo p.2.2
 |.fe _ _ _ _ _ ps=>ps.flatMap λp=>fo p.2.2
 |.load _ _ x=>fo x
 |.store _ x v=>fo x++fo v
 |.bin _ x y=>fo x++fo y
 |.beq _ x y=>fo x++fo y
 |.eqs _ _ x y=>fo x++fo y
 |.q9 _ x=>fo x
 |.un _ x=>fo x
 |.conv _ x=>fo x
 |.sg x=>fo x
 |.mv _ _ _ x y=>fo x++fo y
 |.ei _ x=>fo x
 |.C7 _ _ _ x=>fo x
 |.jy _ x i=>fo x++fo i
 |.oX _ _ x i=>fo x++fo i
 |.idxs x i=>fo x++fo i
 |.oz _ x a b c=>fo x++x3 a++x3 b++x3 c
 |.tq _ _ x a b c=>fo x++x3 a++x3 b++x3 c
 |.C8 x a b=>fo x++x3 a++x3 b
 |.ext _ x=>fo x
 |.len x=>fo x
 |.lens x=>fo x
 |.app _ _ _ s x=>fo s++fo x
 |.si _ s x=>fo s++fo x
 |.iH _ x y=>fo x++fo y
 |.call _ l=>l.flatMap fo
 |.nT _ _ _ l=>l.flatMap fo
 |.jM f l=>fo f++l.flatMap fo
 |.mw _ _ l=>l.flatMap fo
 |.tr _ _ l=>l.flatMap fo
 |.sj _ _ l=>l.flatMap fo
 |.sk _ x=>fo x
 |.oY _ l=>l.flatMap fo
 |.bad=>[]
def Ba (i:c8):List Nat:=sn i.op++(match i.g with|some (s,_)=>[s]|none=>[])
def x4 (x y:c8):Bool :=
 (
  match x.dst with
  |some d => !(Ba y).contains d&&y.dst != some d
  |none=>true) &&
 (
  match y.dst with
  |some d => !(Ba x).contains d
  |none=>true)
def ql:List Oper->List Nat->List Nat
 | [],acc=>acc
 |o::r,acc=>ql r (acc++[o.after.toList.foldl (λs e=>if Region.binds .any e=true then s ||| (2^e.on ||| acc.getD e.on 0) else s) 0])
def FQ:List c8->List c8->List Nat->Bool
 |_,[],_=>true
 |pre,c::cs,a::as=>(pre.zipIdx.all λ(p,i)=>a.testBit i||x4 p c)&&FQ (pre++[c]) cs as
 |_,_::_,[]=>false
def FR:Nat->List Oper->Bool
 |_,[]=>true
 |n,o::r=>(o.after.all λe => !Region.binds .any e||decide (e.on<n))&&FR (n+1) r
def FT (ops:Array Oper)(l:List c8):Bool:=FR 0 ops.toList&&FQ [] l (ql ops.toList [])
def zp:List c8->List c8->List Nat->List (List Nat)
 |_,[],_=>[]
 |pre,c::cs,as=>((pre.zipIdx.filter λ(p,i) => !((as.headD 0).testBit i||zo (sm p.op) (sm c.op))).map (·.2))::zp (pre++[c]) cs as.tail
def qm (P:Program)(n kb:Nat)(own:List Nat):Code->Option ez
 |.skip=>some .skip
 |.region _ ops draw=>match ops.toList.mapM (A9 P n kb own ops) with
  |some l=>if draw=true then (if FT ops l=true then some (.mU l (zp [] l (ql ops.toList []))) else none) else some (.ops l)
  |none=>none
 |.seq a b=>match qm P n kb own a,qm P n kb own b with
  |some x,some y=>some (.seq x y)
  |_,_=>none
 |.cond c a b=>match dL c,qm P n kb own a,qm P n kb own b with
  |some c,some x,some y=>some (.cond c x y)
  |_,_,_=>none
 |.block id c=>(qm P n kb own c).map (.block id)
 |.loop c=>(qm P n kb own c).map .loop
 |.exit id=>some (.exit id)
 |.ret=>some .ret
 |_=>none
def FU (P:Program):ResultVar->Option oA
 |.tmp t=>some (.t t)
 |.cell a t=>match gl P t,zm P t with
  |some s,some g=>some (.cell a s g)
  |_,_=>none
def sq (P:Program)(kb:Nat)(own:List Nat)(f:Func):Option bN :=
 match f.body with
 |none=>none
 |some c=>match qm P f.ntmps kb own c,f.results.toList.mapM (FU P) with
  |some b,some r=>some { n:=f.ntmps,aoy:=f.params.size+f.nfree,res:=r,body:=b }
  |_,_=>none
structure eE (A:Nat->Prop) (w:World) (B:e9) (aR:World) (bu:e9) (mem':Mem):Prop where
 dV:fr A aR bu mem'
 mV:Trans A w B aR bu
 aE:Fr (sf B) w aR
 fresh:∀b,sf bu b->sf B b\/w.heap.size<=b
theorem eE.still {A:Nat->Prop}{w aR:World}{B:e9}{mem:Mem}(h:fr A w B mem)(f:Fr (λ_=>False) w aR):eE A w B aR B mem:=by
 have mV:Trans A w B aR B:=⟨f.size,λb ah bO=>⟨f.block b ah id,λQ=>bO (.inl Q)⟩,λ_ e he=>⟨e,he,.inl rfl⟩⟩;refine⟨⟨h.A5,h.inj,h.sep,λb ah=>C6 (h.lt b ah) f.size,λk g cs hm=>?_⟩,mV,⟨f.os,f.tape,f.output,f.size,λb ah _=>f.block b ah id⟩,λb ah => .inl ah⟩;obtain⟨e,he,a7,aL,ah⟩:=h.dx k g cs hm;refine⟨e,he,a7,aL,λb iS=>?_⟩;obtain⟨vs,T,F,I,af,aO⟩:=ah b iS;have ay:b<w.heap.size:=(Array.getElem?_eq_some_iff.1 F).1;exact⟨vs,T,(f.block b ay id).trans F,I,af,λi m hm=>let ⟨v,aA,ab⟩:=aO i m hm;⟨v,aA,ab.q8 mV⟩⟩
theorem eE.refl {A:Nat->Prop}{w:World}{B:e9}{mem:Mem}(h:fr A w B mem):eE A w B w B mem:=.still h (Fr.refl _ _)
def gB (B:e9)(k:Key)(e:mu):e9:=λj=>if j=k then some e else B j
theorem hf (B:e9)(k:Key)(e:mu):gB B k e k=some e:=by simp[gB]
theorem g8 (B:e9){k j:Key}(e:mu)(h:j≠k):gB B k e j=B j:=by simp[gB,h]
section
variable {A:Nat->Prop} {w aR:World} {B:e9} {mem:Mem} {k:Key} {e':mu} {cs:List R}
theorem Trans.change (e8:w.heap.size<=aR.heap.size)
  (hold:∀b,b<w.heap.size->(∀e,B k=some e->e.dx≠some b)->aR.heap[b]?=w.heap[b]?)
  (a7:∀e,B k=some e->e'=e\/e.g<e'.g)
  (fk:∀b,e'.dx=some b->w.heap.size<=b\/∃e,B k=some e/\e.dx=some b):Trans A w B aR (gB B k e'):=by
 refine⟨e8,λb ah bO=>⟨hold b ah λe he Q=>bO (.inl ⟨k,e,he,Q⟩),?_⟩,λj e he=>?_⟩
 ·rintro⟨j,e,he,Q⟩
  by_cases ai:j=k
  ·subst ai;rw[hf] at he
   cases he;rcases fk b Q with F|⟨e,F,I⟩
   ·omega
   ·exact bO (.inl ⟨_,e,F,I⟩)
  ·rw[g8 B e' ai] at he;exact bO (.inl ⟨j,e,he,Q⟩)
 ·by_cases ai:j=k
  ·subst ai;exact⟨e',hf _ _ _,a7 e he⟩
  ·exact⟨e,(g8 B e' ai).trans he,.inl rfl⟩
theorem Tt (fk:∀b,e'.dx=some b->w.heap.size<=b\/∃e,B k=some e/\e.dx=some b)(b:Nat)(h:sf (gB B k e') b):sf B b\/w.heap.size<=b:=by
 obtain⟨j,e,he,Q⟩:=h
 by_cases ai:j=k
 ·subst ai;rw[hf] at he
  cases he;rcases fk b Q with F|⟨e,F,I⟩
  ·exact .inr F
  ·exact .inl ⟨_,e,F,I⟩
 ·rw[g8 B e' ai] at he;exact .inl ⟨j,e,he,Q⟩
theorem fr.ado (h:fr A w B mem)(e8:w.heap.size<=aR.heap.size)
  (hold:∀b,b<w.heap.size->(∀e,B k=some e->e.dx≠some b)->aR.heap[b]?=w.heap[b]?)
  (a7:∀e,B k=some e->e'=e\/e.g<e'.g)
  (fk:∀b,e'.dx=some b->w.heap.size<=b\/∃e,B k=some e/\e.dx=some b)
  (aL:e'.dx=none->cs=[])
  (H:∀b,e'.dx=some b->∃vs T,aR.heap[b]?=some (.cells vs T (0,0))/\vs.size=e'.size/\D cs<=vs.size /\
   ∀(i:Nat) (m:R),cs[i]?=some m->∃v,vs[i]?=some v/\bs aR (cg A (gB B k e')) (gB B k e') m v):fr A aR (gB B k e') (a4 mem k e'.g cs):=by
 have mV:Trans A w B aR (gB B k e'):=Trans.change e8 hold a7 fk;have fresh:=Tt (w:=w) fk;refine⟨λj ai=>?_,λj lT e aD b he fq ah eJ=>?_,λb aP bO=>?_,λb ah=>C6 (h.lt b ah) e8,λj g nm hm=>?_⟩
 ·by_cases ea:j=k
  ·subst ea;simp[a4] at ai
  ·simp only[a4,ea,if_false] at ai;rw[g8 B e' ea];exact h.A5 j ai
 ·by_cases ea:j=k<;>by_cases hjk':lT=k
  ·rw[ea,hjk']
  ·subst ea;rw[hf] at he
   cases he;rw[g8 B e' hjk'] at fq;rcases fk b ah with F|⟨e,F,I⟩
   ·have:=h.xY ⟨lT,aD,fq,eJ⟩;omega
   ·exact h.inj _ _ e aD b F fq I eJ
  ·subst hjk';rw[hf] at fq
   cases fq;rw[g8 B e' ea] at he;rcases fk b eJ with F|⟨b9,F,I⟩
   ·have:=h.xY ⟨j,e,he,ah⟩;omega
   ·exact h.inj _ _ e b9 b he F ah I
  ·rw[g8 B e' ea] at he;rw[g8 B e' hjk'] at fq;exact h.inj j lT e aD b he fq ah eJ
 ·rcases fresh b bO with F|F
  ·exact h.sep b aP F
  ·have:=h.lt b aP;omega
 ·by_cases ea:j=k
  ·subst ea;simp only[a4,if_true,cn,fb] at hm;obtain⟨rfl,rfl⟩:=hm;refine⟨e',hf _ _ _,rfl,aL,λb ah=>?_⟩;obtain⟨vs,T,F,I,af,aO⟩:=H b ah;exact⟨vs,T,F,I,af,aO⟩
  ·simp only[a4,ea,if_false] at hm;obtain⟨e,he,J8,Tu,kE⟩:=h.dx j g nm hm;refine⟨e,(g8 B e' ea).trans he,J8,Tu,λb ah=>?_⟩;obtain⟨vs,T,F,I,af,aO⟩:=kE b ah;have ay:b<w.heap.size:=(Array.getElem?_eq_some_iff.1 F).1;have x5:aR.heap[b]?=w.heap[b]?:=hold b ay λb9 af aO=>ea (h.inj j k e b9 b he af ah aO);exact⟨vs,T,x5.trans F,I,af,λi m hm=>let ⟨v,aA,ab⟩:=aO i m hm;⟨v,aA,ab.q8 mV⟩⟩
theorem fr.change (h:fr A w B mem)(e8:w.heap.size<=aR.heap.size)
  (hold:∀b,b<w.heap.size->(∀e,B k=some e->e.dx≠some b)->aR.heap[b]?=w.heap[b]?)
  (a7:∀e,B k=some e->e'=e\/e.g<e'.g)
  (fk:∀b,e'.dx=some b->w.heap.size<=b\/∃e,B k=some e/\e.dx=some b)
  (aL:e'.dx=none->cs=[])
  (H:∀b,e'.dx=some b->∃vs T,aR.heap[b]?=some (.cells vs T (0,0))/\vs.size=e'.size/\D cs<=vs.size /\
   ∀(i:Nat) (m:R),cs[i]?=some m->∃v,vs[i]?=some v/\bs w (cg A B) B m v):fr A aR (gB B k e') (a4 mem k e'.g cs) :=
 h.ado e8 hold a7 fk aL λb ah=>by
  have mV:Trans A w B aR (gB B k e'):=Trans.change e8 hold a7 fk;obtain⟨vs,T,F,I,af,aO⟩:=H b ah;exact⟨vs,T,F,I,af,λi m hm=>let ⟨v,aA,ab⟩:=aO i m hm;⟨v,aA,ab.q8 mV⟩⟩
theorem eE.change (h:fr A w B mem)(f:Fr (λb=>∃e,B k=some e/\e.dx=some b) w aR)
  (a7:∀e,B k=some e->e'=e\/e.g<e'.g)
  (fk:∀b,e'.dx=some b->w.heap.size<=b\/∃e,B k=some e/\e.dx=some b)
  (aL:e'.dx=none->cs=[])
  (H:∀b,e'.dx=some b->∃vs T,aR.heap[b]?=some (.cells vs T (0,0))/\vs.size=e'.size/\D cs<=vs.size /\
   ∀(i:Nat) (m:R),cs[i]?=some m->∃v,vs[i]?=some v/\bs w (cg A B) B m v):eE A w B aR (gB B k e') (a4 mem k e'.g cs):=by
 have hold:∀b,b<w.heap.size->(∀e,B k=some e->e.dx≠some b)->aR.heap[b]?=w.heap[b]? :=
  λb ah Q=>f.block b ah fun⟨e,he,iS⟩=>Q e he iS
 exact⟨h.change f.size hold a7 fk aL H,Trans.change f.size hold a7 fk,⟨f.os,f.tape,f.output,f.size,λb ah bO=>f.block b ah fun⟨e,he,iS⟩=>bO ⟨k,e,he,iS⟩⟩,Tt fk⟩
theorem Db (h:fr A w B mem)(k:Key)(e:mu)(he:B k=some e):e.g<bV mem k:=by
 cases hm:mem k with
 |none=>rw[h.A5 k hm] at he;cases he
 |some x =>
  obtain⟨g,cs⟩:=x;obtain⟨aD,F,I,_⟩:=h.dx k g cs hm;rw[F] at he
  cases he;simp[bV,hm,I]
theorem eE.alloc (h:fr A w B mem)(w1:World)(f:Fr (λ_=>False) w w1)(aX:w1.heap.size=w.heap.size)(k:Key)(vs:Array Value)(T:TypeId)(ar:(D cs)<=vs.size)
  (H:∀(i:Nat) (m:R),cs[i]?=some m->∃v,vs[i]?=some v/\bs w (cg A B) B m v) :
  eE A w B (w1.alloc (.cells vs T)) (gB B k ⟨bV mem k,some w.heap.size,vs.size⟩) (a4 mem k (bV mem k) cs):=by
 have f2:Fr (λ_=>False) w (w1.alloc (.cells vs T)):=f.alloc _;refine eE.change (e':=⟨bV mem k,some w.heap.size,vs.size⟩) h ⟨f2.os,f2.tape,f2.output,f2.size,λb ah _=>f2.block b ah id⟩ (λe he => .inr (Db h k e he)) (λb ah => .inl ?_) (by simp) ?_
 ·simp at ah;omega
 ·intro b ah;simp at ah;subst ah;exact⟨vs,T,by rw[<-aX];exact heap_alloc_new w1 _,rfl,ar,H⟩
theorem eE.x6 (h:fr A w B mem)(k:Key):eE A w B w (gB B k ⟨bV mem k,none,0⟩) (a4 mem k (bV mem k) []) :=
 eE.change (e':=⟨bV mem k,none,0⟩) h ⟨rfl,rfl,rfl,bZ _,λ_ _ _=>rfl⟩ (λe he => .inr (Db h k e he)) (λb ah=>by simp at ah) (λ_=>rfl) (λb ah=>by simp at ah)
end
theorem eE.trans {A:Nat->Prop}{w w1 ni:World}{B A2 C5:e9}{dN cO:Mem}(h:eE A w B w1 A2 dN)(cG:eE A w1 A2 ni C5 cO):eE A w B ni C5 cO:=by
 refine⟨cG.dV,h.mV.trans cG.mV,⟨cG.aE.os.trans h.aE.os,cG.aE.tape.trans h.aE.tape,cG.aE.output.trans h.aE.output,eQ h.aE.size cG.aE.size,λb ah bO=>?_⟩,λb ah=>?_⟩
 ·have F:=h.aE.block b ah bO;refine (cG.aE.block b (C6 ah h.aE.size) λQ=>?_).trans F;rcases h.fresh b Q with I|I
  ·exact bO I
  ·omega
 ·rcases cG.fresh b ah with F|F
  ·exact h.fresh b F
  ·exact .inr (eQ h.aE.size F)
theorem Tv {w:World}{aZ:Nat->Prop}{B:e9}{v:Value}{m:R}(h:J5 v=some m):bs w aZ B m v:=by
 unfold J5 at h
 split at h<;>simp only[cn,reduceCtorEq] at h<;>subst h
 ·exact .J .int
 ·exact .J .bool
 ·rename_i s
  exact .J (by
   have:s=⟨s.data.toList.toArray⟩:=by simp
   rw[this]
   simpa using Den.str (s:=s.data.toList))
 ·exact .nil
 ·exact .J .u7
 ·exact .J .u9
theorem oB {α β:Type}{f:α->Option β}:∀{l:List α} {r:List β},l.mapM f=some r->(D r)=D l/\∀(i:Nat) (x:α) (y:β),l[i]?=some x->r[i]?=some y->f x=some y
 | [],r,h=>by
  simp at h;subst h;exact⟨rfl,λi x y F=>by simp at F⟩
 |a::l,r,h=>by
  simp only[lu,g9,hg,eo,cn] at h;obtain⟨b,ah,FV,ab,rfl⟩:=h;obtain⟨F,I⟩:=oB ab;refine⟨by simp[F],λi x y Q av=>?_⟩
  cases i with
  |zero=>simp at Q av;subst Q;subst av;exact ah
  |succ i=>exact I i x y (by simpa using Q) (by simpa using av)
theorem aoz {w:World}{aZ:Nat->Prop}{B:e9}{v:Value}{m:R}(h:Tr v=some m):bs w aZ B m v:=by
 unfold Tr at h
 split at h
 ·rename_i cs;simp only[eb] at h;obtain⟨ms,aS,rfl⟩:=h;obtain⟨F,I⟩:=oB aS;have:=bs.agg (w:=w) (aZ:=aZ) (B:=B) (cs:=ms) (vs:=cs.toList) (by simp[F]) λi d v aa aA=>Tv (I i v d aA aa)
  simpa using this
 ·exact Tv h
section
variable {P:Program} {w:World} {aZ:Nat->Prop} {B:e9}
theorem bs.x7 {k:IntKind}{n:Int}{v:Value}(h:bs w aZ B (.J (.int k n)) v):v=.int k n:=by
 cases h with
 |J h=>cases h;rfl
theorem bs.Dc {b:Bool}{v:Value}(h:bs w aZ B (.J (.bool b)) v):v=.bool b:=by
 cases h with
 |J h=>cases h;rfl
theorem bs.Dd {s:List UInt8}{v:Value}(h:bs w aZ B (.J (.str s)) v):v=.string ⟨s.toArray⟩:=by
 cases h with
 |J h=>cases h;rfl
theorem bs.ofInt {k:IntKind}{n:Int}:bs w aZ B (.J (.int k n)) (.int k n):=.J .int
theorem aoA {op:BinOp}{k:IntKind}{a b:Int}{d:Data}(t:TypeId)(X:FG op=false)(h:NU op k a b=some d):
  ∃v,(binOp op t (.int k a) (.int k b)).run P w=.ok v w/\Den w aZ d v:=by
 cases op<;>simp only[NU,cn,reduceCtorEq] at h<;>simp only[FG,Bool.true_eq_false] at X
 case quo =>
  split at h
  ·cases h
  ·rename_i ah
   cases h;exact⟨_,by simp[go_sem,Op.intDiv,ah],.int⟩
 case rem =>
  split at h
  ·cases h
  ·rename_i ah
   cases h;exact⟨_,by simp[go_sem,Op.intDiv,ah],.int⟩
 all_goals
  subst h
  first
   |exact⟨_,by simp[go_sem,Op.intArith],.int⟩
   |exact⟨_,by simp[go_sem],.int⟩
   |exact⟨_,by simp[go_sem],.bool⟩
theorem aoB {op:BinOp}{k k':IntKind}{a b:Int}{d:Data}(t:TypeId)(X:FG op=true)(h:NV op k a b=some d):
  ∃v,(binOp op t (.int k a) (.int k' b)).run P w=.ok v w/\Den w aZ d v:=by
 unfold NV at h
 split at h
 ·cases h
 ·rename_i ah
  cases op<;>simp only[FG,kX] at X
  ·simp only[cn] at h;subst h;exact⟨.int k _,by simp[binOp,Op.shift,ah],.int⟩
  ·simp only[cn] at h;subst h;exact⟨.int k _,by simp[binOp,Op.shift,ah],.int⟩
theorem N2 {op:BinOp}{t:TypeId}{x y:Operand}{u v:Value}(F:u ≠ .nilIface)(I:∀c,u ≠ .agg c):eqGuard op t x y u v=pure ():=by
 unfold eqGuard
 cases op<;>cases u<;>first|rfl|exact absurd rfl F|exact absurd rfl (I _)
theorem aoC {op:BinOp}{a b:List UInt8}{d:Data}(t:TypeId)(h:NW op a b=some d):
  ∃v,(binOp op t (.string ⟨a.toArray⟩) (.string ⟨b.toArray⟩)).run P w=.ok v w/\Den w aZ d v:=by
 have aoD:binOp op t (.string ⟨a.toArray⟩) (.string ⟨b.toArray⟩)=Op.stringOp op ⟨a.toArray⟩ ⟨b.toArray⟩:=by
  cases op<;>rfl
 rw[aoD]
 cases op<;>simp only[NW,cn,reduceCtorEq] at h
 case add =>
  split at h
  ·rename_i ar
   cases h;refine⟨.string ⟨(a++b).toArray⟩,?_,.str⟩;have N3:¬ (9223372036854775807<(D a:Int)+(D b:Int)):=by unfold maxLen at ar;omega
   have aC:(ByteArray.mk a.toArray).size=D a:=by simp[ByteArray.size]
   have aD:(ByteArray.mk b.toArray).size=D b:=by simp[ByteArray.size]
   have zq:(ByteArray.mk a.toArray)++(ByteArray.mk b.toArray)=⟨(a++b).toArray⟩:=by
    apply ByteArray.ext;simp
   simp[Op.stringOp,aC,aD,N3,zq]
  ·cases h
 all_goals
  subst h;exact⟨_,by simp[Op.stringOp],.bool⟩
theorem adp {op:BinOp}{m n r:R}{u v:Value}(t:TypeId)(x y:Operand)(hm:bs w aZ B m u)(aL:bs w aZ B n v)(h:JG op m n=some r):
  ∃z,((do eqGuard op t x y u v;binOp op t u v:Sem Value)).run P w=.ok z w/\bs w aZ B r z:=by
 unfold JG at h
 split at h
 ·rename_i k a k' b
  cases hm.x7
  cases aL.x7;rw[N2 (by simp) (by simp)]
  split at h
  ·rename_i X;simp only[eb] at h;obtain⟨d,aa,rfl⟩:=h;obtain⟨z,F,I⟩:=aoB (P:=P) (w:=w) (aZ:=aZ) (k':=k') t X aa;exact⟨z,by simpa using F,.J I⟩
  ·rename_i X
   split at h
   ·rename_i O;subst O;simp only[eb] at h;obtain⟨d,aa,rfl⟩:=h;obtain⟨z,F,I⟩:=aoA (P:=P) (w:=w) (aZ:=aZ) t (by simpa using X) aa;exact⟨z,by simpa using F,.J I⟩
   ·cases h
 ·rename_i a b
  cases hm.Dd
  cases aL.Dd;rw[N2 (by simp) (by simp)];simp only[eb] at h;obtain⟨d,aa,rfl⟩:=h;obtain⟨z,F,I⟩:=aoC (P:=P) (w:=w) (aZ:=aZ) t aa;exact⟨z,by simpa using F,.J I⟩
 ·cases h
theorem adq {neg:Bool}{m n r:R}{u v:Value}(t:TypeId)(x y:Operand)(bF:P.underlying t=some .bool)(hm:bs w aZ B m u)(aL:bs w aZ B n v)(h:JH neg m n=some r):
  ∃z,((do eqGuard (if neg then .neq else .eql) t x y u v;binOp (if neg then .neq else .eql) t u v:Sem Value)).run P w=.ok z w/\bs w aZ B r z:=by
 unfold JH at h
 split at h
 ·rename_i a b
  cases hm.Dc
  cases aL.Dc
  cases h;rw[N2 (by simp) (by simp)]
  cases neg
  ·exact⟨.bool (a==b),by simp[run_eql_bool w t a b bF],by cases a<;>cases b<;>exact .J .bool⟩
  ·exact⟨.bool (!(a==b)),by simp[run_neq_bool w t a b bF],by cases a<;>cases b<;>exact .J .bool⟩
 ·cases h
theorem aoE {t:TypeId}{k:Nat}{m n:R}{c:Bool}{u v:Value}(d:Nat)(O:J6 P t=some k)(hm:bs w aZ B m u)(aL:bs w aZ B n v)(h:NX k m n=some c):
  (Op.equalIn (d+1) t u v).run P w=.ok c w:=by
 unfold J6 at O;unfold NX at h
 split at h
 ·simp only[cn] at h
  cases hm.Dc
  cases aL.Dc;subst h
  split at O<;>first|(exfalso;simp at O;done)|(rename_i hu;exact run_equalIn_bool w d t _ _ hu)
 ·split at h
  ·rename_i De;subst De
   cases hm.x7
   cases aL.x7
   cases h
   split at O<;>first|(exfalso;simp at O;done)|(rename_i hu;exact run_equalIn_int w d t _ _ _ _ hu)
  ·cases h
 ·simp only[cn] at h
  cases hm.Dd
  cases aL.Dd;subst h
  split at O<;>first|(exfalso;simp at O;done)|(rename_i hu;rw[run_equalIn_string w d t _ _ hu];simp)
 ·cases h
theorem aoF {t:TypeId}{k:Nat}(h:J6 P t=some k):(isAgg t).run P w=.ok false w:=by
 unfold J6 at h
 split at h<;>simp only[cn,reduceCtorEq] at h<;>(rename_i hu;simp[isAgg,run_underlying hu])
theorem adr {d:Nat}{xs ys:Array Value}{cs ds:List R}(Q:∀(i:Nat) (m:R) (v:Value),cs[i]?=some m->xs[i]?=some v->bs w aZ B m v)(tu:xs.size=D cs)
  (av:∀(i:Nat) (m:R) (v:Value),ds[i]?=some m->ys[i]?=some v->bs w aZ B m v) (zr:ys.size=D ds) :
  ∀(dM:List Field) (i:Nat) (gT:List Nat) (c:Bool),FP P i dM=some gT->A6 gT (cs.drop i) (ds.drop i)=some c->(Op.eqFields (d+1) xs ys dM).run P w=.ok c w
 | [],i,gT,c,aI,H=>by
  simp[FP] at aI;subst aI
  cases F:cs.drop i<;>cases I:ds.drop i<;>simp[F,I,A6] at H;subst H;simp[Op.eqFields]
 |f::r,i,gT,c,aI,H=>by
  simp only[FP] at aI
  split at aI
  ·rename_i aL;obtain⟨oC,vf⟩:=aL
   split at aI
   ·rename_i k aoG O zs
    cases aI
    cases F:cs.drop i with
    |nil=>simp[F,A6] at H
    |cons a x =>
     cases I:ds.drop i with
     |nil=>simp[F,I,A6] at H
     |cons b y =>
      rw[F,I] at H;simp only[A6] at H
      split at H
      ·rename_i aJ c2 gU vg
       cases H
       have ri:i<D cs:=by
        rcases il i (D cs) with h|h
        ·exact h
        ·rw[jQ h] at F;cases F
       have nW:i<D ds:=by
        rcases il i (D ds) with h|h
        ·exact h
        ·rw[jQ h] at I;cases I
       rw[im ri] at F;rw[im nW] at I
       injection F with aP aoH
       injection I with ah aoI
       subst aP;subst ah;subst aoH;subst aoI
       have ex:xs[f.offset]?=some (xs[i]'(by omega)):=by rw[vf];exact Array.getElem?_eq_getElem (by omega)
       have Tw:ys[f.offset]?=some (ys[i]'(by omega)):=by rw[vf];exact Array.getElem?_eq_getElem (by omega)
       have rx:=Q i _ _ (bx ri) (Array.getElem?_eq_getElem (by omega:i<xs.size));have aoJ:=av i _ _ (bx nW) (Array.getElem?_eq_getElem (by omega:i<ys.size));have he:=aoE (P:=P) d O rx aoJ gU;have az:=adr (d:=d) Q tu av zr r (i+1) aoG c2 zs vg;have aoK:(isAgg f.type).run P w=.ok false w:=aoF O;simp only[Op.eqFields,oC,ne_eq,not_false_eq_true,if_true,Sem.run_bind,part,aoK,Result.andThen_ok,kX,if_false,ex,Tw,Sem.run_pure,he]
       cases aJ
       ·simp
       ·simp[az]
      ·cases H
   ·cases aI
  ·cases aI
theorem ads {m:R}{v:Value}(h:bs w aZ B m v)(F:m.one=true):v.oneCell'=true:=by
 cases h with
 |J aa=>cases aa<;>first|rfl|simp[R.one] at F
 |nil=>rfl
 |ref he a7 aA=>obtain⟨a,cap,rfl,_⟩:=aA;rfl
 |ptr he a7 aA=>obtain⟨b,rfl,_⟩:=aA;rfl
 |fu ar aa=>rfl
 |agg ar aa=>simp[R.one] at F
 |cI ar aa=>simp[R.one] at F
 |no=>simp[R.one] at F
 |undef=>simp[R.one] at F
theorem aoL {v:Value}(h:∀c,v ≠ .agg c):v.cells=#[v]:=by
 unfold Value.cells
 split
 ·rename_i cs;exact absurd rfl (h cs)
 ·rfl
theorem aoM {m:R}{v:Value}(h:bs w aZ B m v)(hu:m ≠ .undef):v.cells.size=D m.cells/\∀(i:Nat) (c:R) (u:Value),m.cells[i]?=some c->v.cells[i]?=some u->bs w aZ B c u:=by
 have one:(∀c,v ≠ .agg c)->m.cells=[m]->v.cells.size=D m.cells/\∀(i:Nat) (c:R) (u:Value),m.cells[i]?=some c->v.cells[i]?=some u->bs w aZ B c u:=by
  intro aA hm;rw[hm,aoL aA];refine⟨rfl,λi c u H hu=>?_⟩
  cases i with
  |zero=>simp at H hu;subst H;subst hu;exact h
  |succ i=>simp at H
 cases h with
 |J aa =>
  cases aa with
  |agg ar aa =>
   refine⟨by simp[Value.cells,R.cells];exact ar,λi c u H hu=>?_⟩
   simp only[R.cells,bl,eb] at H;obtain⟨d,nn,rfl⟩:=H;exact .J (aa i d u nn (by simpa [Value.cells] using hu))
  |_=>exact one (by simp) rfl
 |nil=>exact one (by simp) rfl
 |ref he a7 aA=>obtain⟨a,cap,rfl,_⟩:=aA;exact one (by simp) rfl
 |ptr he a7 aA=>obtain⟨b,rfl,_⟩:=aA;exact one (by simp) rfl
 |fu ar aa=>exact one (by simp) rfl
 |agg ar aa =>
  refine⟨by simp[Value.cells,R.cells];exact ar,λi c u H hu=>aa i c u (by simpa [R.cells] using H) (by simpa [Value.cells] using hu)⟩
 |cI ar aa=>exact one (by simp) rfl
 |no=>exact one (by simp[undef]) rfl
 |undef=>exact absurd rfl hu
end
section
variable {P:Program} {w:World} {aZ:Nat->Prop} {B:e9}
def dp (w:World)(aZ:Nat->Prop)(B:e9)(cs:List R)(vs:List Value):Prop :=
 (D vs)=D cs/\∀(i:Nat) (m:R) (v:Value),cs[i]?=some m->vs[i]?=some v->bs w aZ B m v
theorem dp.get {cs:List R}{vs:List Value}(h:dp w aZ B cs vs){i:Nat}{m:R}(M:cs[i]?=some m):∃v,vs[i]?=some v/\bs w aZ B m v:=by
 have ar:i<D cs:=(dP.1 M).1;have aA:vs[i]?=some (vs[i]'(by rw[h.1];exact ar)):=bx _;exact⟨_,aA,h.2 i m _ M aA⟩
theorem dp.nil:dp w aZ B [] []:=⟨rfl,λi m v h=>by simp at h⟩
theorem dp.cons {m:R}{v:Value}{cs:List R}{vs:List Value}(h:bs w aZ B m v)(ab:dp w aZ B cs vs):dp w aZ B (m::cs) (v::vs):=by
 refine⟨by simp[ab.1],λi m' Df F I=>?_⟩
 cases i with
 |zero=>simp at F I;subst F;subst I;exact h
 |succ i=>exact ab.2 i m' Df (by simpa using F) (by simpa using I)
theorem dp.append {a b:List R}{x y:List Value}(h:dp w aZ B a x)(cG:dp w aZ B b y):dp w aZ B (a++b) (x++y):=by
 refine⟨by simp[h.1,cG.1],λi m v F I=>?_⟩
 rw[FW] at F I
 split at F
 ·rename_i M;rw[ad (by rw[h.1];exact M)] at I;exact h.2 i m v F I
 ·rename_i M;rw[ag (by rw[h.1];exact M),h.1] at I;exact cG.2 _ m v F I
theorem dp.drop {a:List R}{x:List Value}(h:dp w aZ B a x)(n:Nat):dp w aZ B (a.drop n) (x.drop n) :=
 ⟨by simp[h.1],λi m v F I=>h.2 (n+i) m v (by simpa using F) (by simpa using I)⟩
theorem dp.take {a:List R}{x:List Value}(h:dp w aZ B a x)(n:Nat):dp w aZ B (a.take n) (x.take n):=by
 refine⟨by simp[h.1],λi m v F I=>?_⟩
 rw[vh] at F I
 split at F
 ·rename_i M;rw[ad M] at I;exact h.2 i m v F I
 ·cases F
theorem dp.kV {a b:List R}{x y:List Value}(h:dp w aZ B a x)(cG:dp w aZ B b y)(off:Nat):
  dp w aZ B (kV a off b) (x.take off++y++x.drop (off+D y)):=by
 unfold Mini.kV;rw[cG.1];exact ((h.take off).append cG).append (h.drop _)
theorem dp.Tx {m:R}{v:Value}(h:bs w aZ B m v)(hu:m ≠ .undef):dp w aZ B m.cells v.cells.toList:=by
 obtain⟨F,I⟩:=aoM h hu;exact⟨by simpa using F,λi c u H aA=>I i c u H (by simpa using aA)⟩
theorem dp.J {ds:List Data}{vs:List Value}(ar:(D vs)=D ds)(h:∀(i:Nat) (d:Data) (v:Value),ds[i]?=some d->vs[i]?=some v->Den w aZ d v):dp w aZ B (ds.map .J) vs:=by
 refine⟨by simp[ar],λi m v F I=>?_⟩
 simp only[bl,eb] at F;obtain⟨d,aa,rfl⟩:=F;exact .J (h i d v aa I)
theorem FX {cs:List R}{off n:Nat}{r:List R}(h:cut cs off n=some r):off+n<=D cs/\r=(cs.drop off).take n/\D r=n:=by
 unfold cut at h
 split at h
 ·rename_i ar
  cases h;exact⟨ar,rfl,by simp;omega⟩
 ·cases h
def eF (w:World)(b off:Nat)(vs:List Value):Prop:=∀(j:Nat) (u:Value),vs[j]?=some u->w.cell? ⟨b,off+j,none⟩=some u
theorem eF.add {w:World}{b off:Nat}{vs:List Value}(h:eF w b off vs)(n:Nat):eF w b (off+n) (vs.drop n):=λj u ai=>by
 have:=h (n+j) u (by simpa using ai);rwa [<-qn] at this
theorem eF.take {w:World}{b off:Nat}{vs:List Value}(h:eF w b off vs)(n:Nat):eF w b off (vs.take n):=λj u ai=>by
 rw[vh] at ai
 split at ai
 ·exact h j u ai
 ·cases ai
theorem eF.row {w:World}{b:Nat}{vs:Array Value}{T:TypeId}{aE:Nat×Nat}(h:w.heap[b]?=some (.cells vs T aE)):eF w b 0 vs.toList:=λj u ai=>by
 rw[kY,cell_of_row w b j vs T aE h]
 simpa using ai
theorem zt (b off n:Nat):(⟨b,off,none⟩:Addr).add n=⟨b,off+n,none⟩:=by
 unfold Addr.add
 split<;>simp_all
theorem eF.load {b off:Nat}{vs:List Value}(h:eF w b off vs):(loadCells ⟨b,off,none⟩ (D vs)).run P w=.ok vs.toArray w :=
 run_loadCells_list w _ vs λj v ai=>by rw[zt];exact h j v ai
theorem vi {t:TypeId}{n:Nat}(h:gl P t=some n):(sizeOf t).run P w=.ok n w:=by
 simp only[gl,eb] at h;obtain⟨i,M,rfl⟩:=h;simp[sizeOf,typeInfo,M]
theorem N4 {t:TypeId}{g:Bool}(h:zm P t=some g):(isAgg t).run P w=.ok g w:=by
 simp only[zm,eb] at h;obtain⟨d,aa,rfl⟩:=h;simp only[isAgg,Sem.run_bind,run_underlying aa,Result.andThen_ok]
 cases d<;>rfl
theorem adt {t:TypeId}{n:Nat}{dU:Bool}{b off:Nat}{ms:List R}{vs:List Value}{r:R}(X:gl P t=some n)(aP:zm P t=some dU)(ar:(D ms)=n)
  (b0:dp w aZ B ms vs) (cp:eF w b off vs) (h:ra dU ms=some r):∃u,(loadVar t ⟨b,off,none⟩).run P w=.ok u w/\bs w aZ B r u:=by
 unfold ra at h
 split at h
 ·rename_i zu
  cases h;subst zu;refine⟨.agg vs.toArray,?_,.agg b0.1 b0.2⟩;have:=cp.load (P:=P);rw[b0.1,ar] at this;simp[loadVar,N4 aP,vi X,this]
 ·rename_i zu
  split at h
  ·cases h;obtain⟨u,hu,ab⟩:=b0.get (i:=0) (m:=r) rfl;have:=cp 0 u hu;have Ty:dU=false:=by simpa using zu
   subst Ty;exact⟨u,by simp[loadVar,N4 aP,this];simpa using by rw[show off=off+0 from rfl,this],ab⟩
  ·cases h
end
section
variable {P:Program} {A:Nat->Prop} {w:World} {B:e9} {mem:Mem}
theorem fr.at_ (h:fr A w B mem){k:Key}{g:Nat}{cs:List R}(O:mem k=some (g,cs)):
  ∃e,B k=some e/\e.g=g/\(e.dx=none->cs=[])/\∀b,e.dx=some b->∃(vs:Array Value) (T:TypeId),w.heap[b]?=some (.cells vs T (0,0))/\vs.size=e.size/\D cs<=vs.size /\
   dp w (cg A B) B cs (vs.toList.take (D cs)):=by
 obtain⟨e,he,a7,aL,ah⟩:=h.dx k g cs O;refine⟨e,he,a7,aL,λb iS=>?_⟩;obtain⟨vs,T,F,I,af,aO⟩:=ah b iS;refine⟨vs,T,F,I,af,by simp;omega,λi m v hm aA=>?_⟩
 obtain⟨u,hu,ab⟩:=aO i m hm;rw[vh] at aA
 split at aA
 ·rw[Array.getElem?_toList,hu] at aA
  cases aA;exact ab
 ·cases aA
theorem adu {n:Nat}{dU:Bool}{m r:R}{v:Value}(b2:fr A w B mem)(aA:bs w (cg A B) B m v)(h:qi mem n dU m=some r):
  ∃b off ms vs,v=.pointer (some ⟨b,off,none⟩)/\D ms=n/\dp w (cg A B) B ms vs/\eF w b off vs/\ra dU ms=some r:=by
 unfold qi at h
 split at h
 ·rename_i k g off
  split at h
  ·rename_i c6 cs O
   split at h
   ·rename_i a7;subst a7;simp only[eo] at h;obtain⟨ms,aS,ab⟩:=h;obtain⟨ar,rfl,aL⟩:=FX aS;obtain⟨e,he,cj,Dg,ah⟩:=b2.at_ O
    cases aA with
    |ptr gz J8 mW =>
     rw[he] at gz
     cases gz;obtain⟨b,rfl,iS⟩:=mW;have iS:=iS cj.symm;obtain⟨vs,T,aU,aX,hle,b0⟩:=ah b iS;refine⟨b,off,_,((vs.toList.take (D cs)).drop off).take n,rfl,aL,(b0.drop off).take n,?_,ab⟩;have:=(((eF.row aU).take (D cs)).add off).take n
     simpa using this
   ·cases h
  ·cases h
 ·rename_i ds;simp only[eo] at h;obtain⟨ms,aS,ab⟩:=h;obtain⟨ar,rfl,aL⟩:=FX aS
  cases aA with
  |J aa =>
   cases aa with
   | @ptr cs b off val ah fJ H aa =>
    refine⟨b,off,_,((dS (D ds)).map val).take n,rfl,aL,?_,?_,ab⟩
    ·have:dp w (cg A B) B (ds.map .J) ((dS (D ds)).map val):=dp.J (by simp) λi d v F I=>by
      have M:i<D ds:=(dP.1 F).1;simp[M] at I;subst I;exact aa i d F
     simpa using this.take n
    ·refine eF.take (λj u ai=>?_) n;simp only[bl,eb] at ai;obtain⟨lT,pG,rfl⟩:=ai
     have F:lT=j/\j<D ds:=by
      rcases il j (D ds) with h|h
      ·rw[tv h] at pG;exact⟨by simpa using pG.symm,h⟩
      ·rw[kF (by simpa using h)] at pG
       cases pG
     obtain⟨rfl,ji⟩:=F;exact H lT ji
 ·cases h
theorem aoN {t:TypeId}{n:Nat}{dU:Bool}{m r:R}{v:Value}(X:gl P t=some n)(aP:zm P t=some dU)(b2:fr A w B mem)(aA:bs w (cg A B) B m v)(h:qi mem n dU m=some r):
  ∃u,(Instr.loadAt t v).run P w=.ok u w/\bs w (cg A B) B r u:=by
 obtain⟨b,off,ms,vs,rfl,ar,b0,cp,ab⟩:=adu b2 aA h;obtain⟨u,F,I⟩:=adt (P:=P) X aP ar b0 cp ab;exact⟨u,by simpa [Instr.loadAt,Instr.sureAddr] using F,I⟩
end
section
variable {P:Program} {w:World} {aZ:Nat->Prop} {B:e9}
theorem adv {m:R}{cs:List R}{v:Value}(h:JK m=some cs)(aA:bs w aZ B m v):∃vs:List Value,v=.agg vs.toArray/\dp w aZ B cs vs:=by
 unfold JK at h
 split at h
 ·cases h
  cases aA with
  |agg ar aa=>exact⟨_,rfl,ar,aa⟩
 ·cases h
  cases aA with
  |J aa =>
   cases aa with
   |agg ar aa=>exact⟨_,rfl,dp.J ar aa⟩
 ·cases h
theorem adw {neg:Bool}{gT:List Nat}{m n r:R}{u v:Value}(t:TypeId)(x y:Operand)(dM:Array Field)(hu:P.underlying t=some (.struct dM))(X:P.stoodInHeld t=false)
  (a7:P.eqGuardType P.depth t=false) (O:FP P 0 dM.toList=some gT) (hm:bs w aZ B m u) (aL:bs w aZ B n v) (h:JL neg gT m n=some r) :
  ∃z,((do eqGuard (if neg then .neq else .eql) t x y u v;binOp (if neg then .neq else .eql) t u v:Sem Value)).run P w=.ok z w/\bs w aZ B r z:=by
 unfold JL at h
 split at h
 ·rename_i cs ds kZ g1
  split at h
  ·rename_i c H
   cases h;obtain⟨xs,rfl,Q⟩:=adv kZ hm;obtain⟨ys,rfl,av⟩:=adv g1 aL;have vj:P.fieldsOf t=dM:=by simp[Program.fieldsOf,hu]
   have he:=run_equalIn_struct (P:=P) w 9999 t xs.toArray ys.toArray (by rw[vj];exact hu) X;rw[vj] at he
   have aI:=adr (P:=P) (w:=w) (aZ:=aZ) (B:=B) (d:=9998) (xs:=xs.toArray) (ys:=ys.toArray) (cs:=cs) (ds:=ds)
    (λi m v F I=>Q.2 i m v F (by simpa using I)) (by simpa using Q.1) (λi m v F I=>av.2 i m v F (by simpa using I)) (by simpa using av.1) dM.toList 0 gT c O (by simpa using H)
   have heq:(Op.equal t (.agg xs.toArray) (.agg ys.toArray)).run P w=.ok c w:=by
    show (Op.equalIn (9999+1) t _ _).run P w=_;rw[he];exact aI
   have wG:∀op,(op=BinOp.eql\/op=.neq)->(eqGuard op t x y (.agg xs.toArray) (.agg ys.toArray)).run P w=.ok () w:=by
    intro op mX;rcases mX with rfl|rfl<;>simp[eqGuard,a7]
   refine⟨.bool (neg != c),?_,.J .bool⟩
   cases neg
   ·simp only[kX,if_false,Sem.run_bind,wG _ (.inl rfl),Result.andThen_ok];show (do pure (Value.bool (<-Op.equal t (.agg xs.toArray) (.agg ys.toArray))):Sem Value).run P w=_
    simp[heq]
   ·simp only[if_true,Sem.run_bind,wG _ (.inr rfl),Result.andThen_ok];show (do pure (Value.bool (!(<-Op.equal t (.agg xs.toArray) (.agg ys.toArray)))):Sem Value).run P w=_
    simp[heq]
  ·cases h
 ·cases h
theorem aoO {c a b r:R}{adx vk sr:Value}(H:bs w aZ B c adx)(aP:bs w aZ B a vk)(ah:bs w aZ B b sr)(h:FH c a b=some r):
  ∃z,(do pure (if <-asBool adx then vk else sr):Sem Value).run P w=.ok z w/\bs w aZ B r z:=by
 unfold FH at h
 split at h
 ·rename_i t
  cases H.Dc
  cases t
  ·cases h;exact⟨sr,by simp[asBool],ah⟩
  ·cases h;exact⟨vk,by simp[asBool],aP⟩
 ·cases h
theorem aoP {op:UnOp}{m r:R}{v:Value}(hm:bs w aZ B m v)(h:JI op m=some r):∃z,(Op.unary op v).run P w=.ok z w/\bs w aZ B r z:=by
 unfold JI at h
 split at h
 ·cases h;cases hm.x7;exact⟨_,by simp[Op.unary,Op.intArith],.J .int⟩
 ·cases h;cases hm.x7;exact⟨_,by simp[Op.unary,go_sem],.J .int⟩
 ·cases h;cases hm.Dc;exact⟨_,by simp[Op.unary],.J .bool⟩
 ·cases h
theorem aoQ {k:IntKind}{m r:R}{v:Value}(s t:TypeId)(gT:IntKind)(X:P.underlying s=some (.int gT))(bF:P.underlying t=some (.int k))(hm:bs w aZ B m v)(h:JM k m=some r):
  ∃z,(convert s t v).run P w=.ok z w/\bs w aZ B r z:=by
 unfold JM at h
 split at h
 ·cases h
  cases hm.x7;have M:P.intKind t=k:=by simp[Program.intKind,bF]
  have:=run_convert_int (P:=P) w s t;exact⟨.int k _,by simp[convert,run_underlying X,run_underlying bF,Conv.intToInt],.J .int⟩
 ·cases h
theorem aoR {off:Nat}{m r:R}{v:Value}(t:TypeId)(f:Nat)(dM:Array Field)(fd:Field)(s:Nat)(hu:P.underlying t=some (.struct dM))(aI:dM[f]?=some fd)(X:gl P fd.type=some s)(ao:0<s)
  (bO:fd.offset=off) (hm:bs w aZ B m v) (h:JO off m=some r):∃z,(Instr.fieldAt t v f).run P w=.ok z w/\bs w aZ B r z:=by
 have bG:¬ s=0:=by omega
 have run:∀b o,(Instr.fieldAt t (.pointer (some ⟨b,o,none⟩)) f).run P w=.ok (.pointer (some ⟨b,o+off,none⟩)) w:=by
  intro b o;simp[Instr.fieldAt,run_underlying hu,aI,Instr.sureAddr,fieldPlace,vi X,bG,zt,bO]
 unfold JO at h
 split at h
 ·cases h;rename_i k g o
  cases hm with
  |ptr he a7 aA =>
   obtain⟨b,rfl,ah⟩:=aA;exact⟨_,run b o,.ptr he a7 ⟨b,rfl,ah⟩⟩
 ·rename_i ds
  split at h
  ·rename_i ar
   cases h
   cases hm with
   |J aa =>
    cases aa with
    | @ptr cs b o val ah fJ H aa =>
     refine⟨_,run b o,.J (.ptr (λi=>val (off+i)) ah fJ (λi M=>?_) λi d k0=>aa _ d (by simpa using k0))⟩;have:=H (off+i) (by simp at M;omega);rwa [<-qn] at this
  ·cases h
 ·cases h
theorem aoS {t:TypeId}{n off:Nat}{dU:Bool}{cs ms:List R}{vs:List Value}{r:R}(X:gl P t=some n)(aP:zm P t=some dU)(b0:dp w aZ B cs vs)(H:cut cs off n=some ms)(h:ra dU ms=some r):
  ∃u,(part t vs.toArray off).run P w=.ok u w/\bs w aZ B r u:=by
 obtain⟨ar,rfl,aL⟩:=FX H;have bC:=(b0.drop off).take n;unfold ra at h
 split at h
 ·rename_i zu
  cases h;subst zu;refine⟨.agg ((vs.drop off).take n).toArray,?_,.agg bC.1 bC.2⟩
  have e:vs.toArray.extract off (off+n)=((vs.drop off).take n).toArray:=by
   simp[List.extract_eq_take_drop]
  simp[part,N4 aP,vi X,e]
 ·rename_i zu;have Ty:dU=false:=by simpa using zu
  subst Ty
  split at h
  ·rename_i m aS
   cases h
   have M:cs[off]?=some r:=by
    have:=congrArg (λl=>l[0]?) aS;simp[vh] at this;exact this.2
   obtain⟨u,hu,aoT⟩:=b0.get M;exact⟨u,by simp[part,N4 aP,hu],aoT⟩
  ·cases h
theorem aoU {off n:Nat}{dU:Bool}{m r:R}{v:Value}(t:TypeId)(f:Nat)(dM:Array Field)(fd:Field)(hu:P.underlying t=some (.struct dM))(aI:dM[f]?=some fd)(X:gl P fd.type=some n)
  (aP:zm P fd.type=some dU) (bO:fd.offset=off) (hm:bs w aZ B m v) (h:JP off n dU m=some r):∃z,(Instr.field t v f).run P w=.ok z w/\bs w aZ B r z:=by
 subst bO
 have go:∀(cs:List R) (vs:List Value),dp w aZ B cs vs->(cut cs fd.offset n).bind (ra dU)=some r->∃z,(Instr.field t (.agg vs.toArray) f).run P w=.ok z w/\bs w aZ B r z:=by
  intro cs vs b0 aU;simp only[eo] at aU;obtain⟨ms,F,I⟩:=aU;obtain⟨u,af,aO⟩:=aoS (P:=P) X aP b0 F I;exact⟨u,by simp[Instr.field,run_underlying hu,aI,asAgg,af],aO⟩
 unfold JP at h
 split at h
 ·cases hm with
  |agg ar aa=>exact go _ _ ⟨ar,aa⟩ h
 ·cases hm with
  |J aa =>
   cases aa with
   |agg ar aa=>exact go _ _ (dp.J ar aa) h
 ·cases h
theorem FY {m:R}{n:Nat}{v:Value}(h:idx m=some n)(aA:bs w aZ B m v):∃k,v=.int k (n:Int):=by
 unfold idx at h
 split at h
 ·rename_i k i
  split at h
  ·rename_i ao
   cases h
   cases aA.x7;exact⟨k,by rw[Int.toNat_of_nonneg ao]⟩
  ·cases h
 ·cases h
theorem FF.at_ {e:mu}{g sz off len:Nat}{v:Value}(h:FF e g sz off len v)(ao:0<len):∃b cap,v=.slice (some ⟨b,off,none⟩) len cap/\len<=cap/\cap<=maxLen/\(g=e.g->e.dx=some b/\off+cap*sz<=e.size):=by
 obtain⟨a,cap,rfl,I,af,aO⟩:=h;rcases aO with aO|⟨b,rfl,bm⟩
 ·omega
 ·exact⟨b,cap,rfl,I,af,bm⟩
theorem aoV {es:List (List Data)}{sz:Nat}(e8:∀e∈es,D e=sz):∀(n i:Nat) (e:List Data),es[n]?=some e->i<sz->es.flatten[n*sz+i]?=e[i]?:=by
 induction es with
 |nil=>intro n i e h;simp at h
 |cons a r az =>
  intro n i e h M;have aP:=e8 a (by simp)
  cases n with
  |zero =>
   simp at h;subst h;rw[jL,rj (by omega)];simp
  |succ n =>
   rw[jL,ss (by rw[aP,tx];omega)];have:=az (λx Q=>e8 x (by simp[Q])) n i e (by simpa using h) M;rw[<-this,aP]
   congr 1
   rw[tx];omega
theorem aoW {sz n:Nat}{m r:R}{v:Value}{k:IntKind}(t e:TypeId)(hu:P.underlying t=some (.slice e))(X:gl P e=some sz)(hm:bs w aZ B m v)(h:zk sz n m=some r):
  ∃z,(Instr.indexAt t v (.int k (n:Int))).run P w=.ok z w/\bs w aZ B r z:=by
 have run:∀b off len cap,n<len->(Instr.indexAt t (.slice (some ⟨b,off,none⟩) len cap) (.int k (n:Int))).run P w=.ok (.pointer (some ⟨b,off+n*sz,none⟩)) w:=by
  intro b off len cap ay;simp[Instr.indexAt,run_underlying hu,asIntOf,ay,vi X,zt]
 unfold zk at h
 split at h
 ·split at h
  ·rename_i ar;obtain⟨ay,rfl⟩:=ar
   cases h
   cases hm with
   |ref he a7 aA =>
    obtain⟨b,cap,rfl,F,I,af⟩:=aA.at_ (by omega);exact⟨_,run _ _ _ _ ay,.ptr he a7 ⟨b,rfl,λh=>(af h).1⟩⟩
  ·cases h
 ·rename_i es
  split at h
  ·rename_i el k1
   split at h
   ·rename_i hle
    cases h
    cases hm with
    |J aa =>
     have ay:n<D es:=(dP.1 k1).1
     cases aa with
     |lS=>simp at ay
     | @Y es b off c eu val ar ady ah fJ e8 H aa =>
      have J9:eu=sz:=by rw[<-hle];exact (e8 _ (ec k1)).symm
      subst J9
      have hmul:n*eu+eu<=D es*eu:=by
       have:(n+1)*eu<=D es*eu:=vl _ ay;rwa [qg,xX] at this
      refine⟨_,run _ _ _ _ ay,.J (.ptr (λi=>val (n*eu+i)) ah fJ (λi M=>?_) λi d k0=>?_)⟩
      ·have:=H (n*eu+i) (by omega);rwa [<-qn] at this
      ·refine aa _ d ?_;rw[aoV e8 n i el k1 (by have:=(dP.1 k0).1;omega)];exact k0
   ·cases h
  ·cases h
 ·cases h
theorem aoX {len sz n:Nat}{m r:R}{v:Value}{k:IntKind}(t e:TypeId)(hu:P.underlying t=some (.array len e))(X:gl P e=some sz)(hm:bs w aZ B m v)(h:JQ len sz n m=some r):
  ∃z,(Instr.indexAt t v (.int k (n:Int))).run P w=.ok z w/\bs w aZ B r z:=by
 have run:∀b off,n<len->(Instr.indexAt t (.pointer (some ⟨b,off,none⟩)) (.int k (n:Int))).run P w=.ok (.pointer (some ⟨b,off+n*sz,none⟩)) w:=by
  intro b off ay;simp[Instr.indexAt,run_underlying hu,asIntOf,Instr.sureAddr,ay,vi X,zt]
 unfold JQ at h
 split at h
 ·split at h
  ·rename_i ay
   cases h
   cases hm with
   |ptr he a7 aA =>
    obtain⟨b,rfl,ah⟩:=aA;exact⟨_,run _ _ ay,.ptr he a7 ⟨b,rfl,ah⟩⟩
  ·cases h
 ·rename_i ds
  split at h
  ·rename_i ar;obtain⟨ay,hle⟩:=ar
   cases h
   cases hm with
   |J aa =>
    cases aa with
    | @ptr cs b o val ah fJ H aa =>
     refine⟨_,run _ _ ay,.J (.ptr (λi=>val (n*sz+i)) ah fJ (λi M=>?_) λi d k0=>aa _ d (by simpa using k0))⟩;have:=H (n*sz+i) (by simp at M;omega);rwa [<-qn] at this
  ·cases h
 ·cases h
theorem aoY {n:Nat}{m r:R}{v:Value}{k:IntKind}(t:TypeId)(hu:P.underlying t=some .string)(hm:bs w aZ B m v)(h:JR n m=some r):
  ∃z,(Instr.index t v (.int k (n:Int))).run P w=.ok z w/\bs w aZ B r z:=by
 unfold JR at h
 split at h
 ·rename_i s;simp only[eb] at h;obtain⟨b,ah,rfl⟩:=h
  cases hm.Dd;have ay:n<D s:=(dP.1 ah).1
  have e:(ByteArray.mk s.toArray)[n]?=some b:=by
   rw[ByteArray.getElem?_lt' _ _ (by simpa [ByteArray.size] using ay)];have:=(dP.1 ah).2;simp only[cn];rw[<-this]
   rfl
  exact⟨.int .u8 b.toNat,by simp[Instr.index,run_underlying hu,asIntOf,e],.J .int⟩
 ·cases h
theorem aoZ {i:Nat}{m r:R}{v:Value}(hm:bs w aZ B m v)(h:JV i m=some r):∃z,(Instr.extract v i).run P w=.ok z w/\bs w aZ B r z:=by
 unfold JV at h
 split at h
 ·cases hm with
  |cI ar aa =>
   obtain⟨u,hu,ab⟩:=dp.get ⟨ar,aa⟩ h;exact⟨u,by simp[Instr.extract,hu],ab⟩
 ·simp only[eb] at h;obtain⟨d,nn,rfl⟩:=h
  cases hm with
  |J aa =>
   cases aa with
   |cI ar aa =>
    obtain⟨u,hu,ab⟩:=dp.get (dp.J ar aa) (i:=i) (m:=.J d) (by simp[nn]);exact⟨u,by simp[Instr.extract,hu],ab⟩
 ·cases h
theorem ao0 {m:R}{n:Nat}{v:Value}(t ty e:TypeId)(bF:P.underlying t=some (.slice e))(hm:bs w aZ B m v)(h:qh m=some n):
  (Builtin.len_ #[t] ty #[v]).run P w=.ok (.int .i64 n) w:=by
 have run:∀a c,(Builtin.len_ #[t] ty #[.slice a n c]).run P w=.ok (.int .i64 n) w:=λa c=>by
  simp[Builtin.len_,run_underlying bF,goInt]
 unfold qh at h
 split at h<;>cases h
 ·cases hm with
  |J aa =>
   cases aa with
   |lS=>exact run _ _
   |Y=>exact run _ _
 ·cases hm with
  |nil=>exact run _ _
 ·cases hm with
  |ref he a7 aA=>obtain⟨a,cap,rfl,_⟩:=aA;exact run _ _
theorem ao1 {m:R}{n:Nat}{v:Value}(t ty:TypeId)(bF:P.underlying t=some .string)(hm:bs w aZ B m v)(h:zj m=some n):
  (Builtin.len_ #[t] ty #[v]).run P w=.ok (.int .i64 n) w:=by
 unfold zj at h
 split at h<;>cases h
 rename_i s
 cases hm.Dd;have e:(ByteArray.mk s.toArray).size=D s:=by simp[ByteArray.size]
 simp[Builtin.len_,run_underlying bF,goInt,e]
theorem adz {kl:Bool}{m n r:R}{u v:Value}(tz:Array TypeId)(t:TypeId)(hm:bs w aZ B m u)(aL:bs w aZ B n v)(h:JW kl m n=some r):
  ∃z,(if kl=true then Builtin.max_ tz t #[u,v] else Builtin.min_ tz t #[u,v]).run P w=.ok z w/\bs w aZ B r z:=by
 unfold JW at h
 split at h
 ·split at h
  ·rename_i O;subst O
   cases h
   cases hm.x7
   cases aL.x7
   cases kl
   ·exact⟨_,by simp[run_min_int2],.J .int⟩
   ·exact⟨_,by simp[run_max_int2],.J .int⟩
  ·cases h
 ·cases h
theorem ao2 {m r:R}{v:Value}(hm:bs w aZ B m v)(h:JN m=some r):(∃b off,v=.pointer (some ⟨b,off,none⟩))/\bs w aZ B r v:=by
 unfold JN at h
 split at h
 ·cases h;refine⟨?_,hm⟩
  cases hm with
  |ptr he a7 aA=>obtain⟨b,rfl,_⟩:=aA;exact⟨_,_,rfl⟩
 ·cases h;refine⟨?_,hm⟩
  cases hm with
  |J aa=>cases aa;exact⟨_,_,rfl⟩
 ·cases h
theorem FZ {x:R}{n y:Nat}{v:Value}(code:BoundsCode)(Q:idx x=some n)(aA:bs w aZ B x v)(aL:n<=y):(Instr.sliceBound v y code).run P w=.ok n w:=by
 obtain⟨k,rfl⟩:=FY Q aA
 simpa using run_sliceBound (P:=P) w k (n:Int) y code (by omega) (by omega)
def rk (w:World)(aZ:Nat->Prop)(B:e9):Option R->Option Value->Prop
 |none,none=>True
 |some m,some v=>bs w aZ B m v
 |_,_=>False
theorem Tz {len cap l h:Nat}{cH M:Option R}{k2 k3:Option Value}(TA:Bool)(hh:jN 0 cH=some l)(jj:jN len M=some h)
  (mY:rk w aZ B cH k2) (lU:rk w aZ B M k3) (ar:l<=h) (aU:h<=cap):(Instr.sliceBounds TA len cap k2 k3 none).run P w=.ok (l,h,cap) w:=by
 unfold Instr.sliceBounds
 cases cH with
 |none =>
  cases k2 with
  |some v=>exact mY.elim
  |none =>
   simp[jN] at hh;subst hh
   cases M with
   |none =>
    cases k3 with
    |some v=>exact lU.elim
    |none=>simp[jN] at jj;subst jj;simp
   |some m =>
    cases k3 with
    |none=>exact lU.elim
    |some v =>
     have aD:=λcode=>FZ (P:=P) (y:=cap) code jj lU aU
     cases TA<;>simp[aD]
 |some Dh =>
  cases k2 with
  |none=>exact mY.elim
  |some bf =>
   have aC:=λcode=>FZ (P:=P) (y:=h) code hh mY ar
   cases M with
   |none =>
    cases k3 with
    |some v=>exact lU.elim
    |none=>simp[jN] at jj;subst jj;simp[aC]
   |some m =>
    cases k3 with
    |none=>exact lU.elim
    |some v =>
     have aD:=λcode=>FZ (P:=P) (y:=cap) code jj lU aU
     cases TA<;>simp[aC,aD]
theorem ao3 {len cap l h m:Nat}{cH:Option R}{M kl:R}{k2:Option Value}{k3 zv:Value}(hh:jN 0 cH=some l)(jj:idx M=some h)(gV:idx kl=some m)
  (mY:rk w aZ B cH k2) (lU:bs w aZ B M k3) (F6:bs w aZ B kl zv) (ar:l<=h) (aU:h<=m) (hm:m<=cap):(Instr.sliceBounds true len cap k2 (some k3) (some zv)).run P w=.ok (l,h,m) w:=by
 have bI:=FZ (P:=P) (y:=cap) .slice3Acap gV F6 hm;have aD:=FZ (P:=P) (y:=m) .slice3B jj lU aU;unfold Instr.sliceBounds
 cases cH with
 |none =>
  cases k2 with
  |some v=>exact mY.elim
  |none =>
   simp[jN] at hh;subst hh;simp[bI,aD]
 |some Dh =>
  cases k2 with
  |none=>exact mY.elim
  |some bf =>
   have aC:=FZ (P:=P) (y:=h) .slice3C hh mY ar;simp[bI,aD,aC]
theorem N5 {m:R}{n:Nat}{v:Value}(hm:bs w aZ B m v)(h:qh m=some n):∃a c,v=.slice a n c/\n<=c:=by
 unfold qh at h
 split at h<;>cases h
 ·cases hm with
  |J aa =>
   cases aa with
   |lS=>exact⟨_,_,rfl,by simp⟩
   |Y val ar=>exact⟨_,_,rfl,ar⟩
 ·cases hm with
  |nil=>exact⟨_,_,rfl,by simp⟩
 ·cases hm with
  |ref he a7 aA=>obtain⟨a,cap,rfl,F,_⟩:=aA;exact⟨_,_,rfl,F⟩
theorem adA {t e:TypeId}{sz l h iH:Nat}{a:Option Addr}{len cap:Nat}{k2 k3 zv:Option Value}(bF:P.underlying t=some (.slice e))(X:gl P e=some sz)
  (ah:(Instr.sliceBounds true len cap k2 k3 zv).run P w=.ok (l,h,iH) w) :
  (Instr.sliceAt t (.slice a len cap) k2 k3 zv).run P w=.ok (.slice (if iH=l then a else a.map (·.add (l*sz))) (h-l) (iH-l)) w:=by
 simp[Instr.sliceAt,Instr.slice,run_underlying bF,ah,vi X]
theorem ao4 {es:List (List Data)}{sz:Nat}(e8:∀e∈es,D e=sz)(l:Nat):(es.drop l).flatten=es.flatten.drop (l*sz):=by
 induction es generalizing l with
 |nil=>simp
 |cons a r az =>
  cases l with
  |zero=>simp
  |succ l =>
   have aP:=e8 a (by simp);rw[List.drop_succ_cons,az (λx Q=>e8 x (by simp[Q])) l,jL,List.drop_append,aP];have F:a.drop ((l+1)*sz)=[]:=jQ (by rw[aP,tx];omega);rw[F,List.nil_append]
   congr 1
   rw[tx];omega
theorem ao5 {es:List (List Data)}{sz:Nat}(e8:∀e∈es,D e=sz)(l:Nat):(es.take l).flatten=es.flatten.take (l*sz):=by
 induction es generalizing l with
 |nil=>simp
 |cons a r az =>
  cases l with
  |zero=>simp
  |succ l =>
   have aP:=e8 a (by simp);rw[List.take_succ_cons,jL,az (λx Q=>e8 x (by simp[Q])) l,jL,Di,aP];have F:a.take ((l+1)*sz)=a:=dy (by rw[aP,tx];omega);rw[F]
   congr 2
   rw[tx];omega
theorem adB {es:List (List Data)}{a:Option Addr}{len c sz l h cc:Nat}(aa:Den w aZ (.Y es) (.slice a len c))(ar:l<=h)(aU:h<=D es)(e8:0<(D es)->∀e∈es,D e=sz)(H:h-l<=cc):
  l=h\/Den w aZ (.Y ((es.take h).drop l)) (.slice (a.map (·.add (l*sz))) (h-l) cc):=by
 rcases N6 ar with rfl|ay
 ·exact .inl rfl
 ·refine .inr ?_
  cases aa with
  |lS=>simp at aU;omega
  | @Y es b off c eu val N3 hm ah fJ hsz' o0 Bb =>
   have h3:0<D es:=by omega
   have J9:eu=sz:=by
    have ao:=o1 (l:=es) (n:=0) h3;rw[<-hsz' _ ao,e8 h3 _ ao]
   subst J9;have hlen:((es.take h).drop l).length=h-l:=by simp;omega
   have hmul:l*eu+(h-l)*eu<=D es*eu:=by
    rw[<-qg];exact vl _ (by omega)
   have:=Den.Y (w:=w) (aZ:=aZ) (es:=(es.take h).drop l) (b:=b) (off:=off+l*eu) (c:=cc) (sz:=eu) (λi=>val (l*eu+i)) (by rw[hlen];exact H) (by rw[hlen];omega) ah fJ
    (λe he=>hsz' e (F7 (List.mem_of_mem_drop he)))
    (λi M=>by
     rw[hlen] at M;have:=o0 (l*eu+i) (by omega);rwa [<-qn] at this)
    (λi d k0=>by
     refine Bb _ d ?_;rw[ao4 (λe he=>hsz' e (F7 he)) l,ao5 hsz' h] at k0;rw[lv,vh] at k0
     split at k0
     ·exact k0
     ·cases k0)
   rw[hlen] at this
   simpa [zt] using this
end
section
variable {P:Program} {w:World} {aZ:Nat->Prop} {B:e9}
theorem TB {sz:Nat}{es:List (List Data)}(h:nj sz es=true):∀e∈es,D e=sz:=λe he=>by
 simpa using kG.1 h e he
theorem ao6 {t e:TypeId}{sz l h len:Nat}{m r:R}{v:Value}{k2 k3:Option Value}{cH M:Option R}(bF:P.underlying t=some (.slice e))(X:gl P e=some sz)
  (hh:jN 0 cH=some l) (hlen:qh m=some len) (jj:jN len M=some h) (mY:rk w aZ B cH k2) (lU:rk w aZ B M k3) (hm:bs w aZ B m v) (ab:JS sz l h m=some r) :
  ∃z,(Instr.sliceAt t v k2 k3 none).run P w=.ok z w/\bs w aZ B r z:=by
 obtain⟨a,cap,rfl,F8⟩:=N5 hm hlen
 have run:l<=h->h<=len->(Instr.sliceAt t (.slice a len cap) k2 k3 none).run P w=.ok (.slice (if cap=l then a else a.map (·.add (l*sz))) (h-l) (cap-l)) w:=λF I =>
  adA bF X (Tz true hh jj mY lU F (by omega))
 unfold JS at ab
 split at ab
 ·rename_i es
  split at ab
  ·rename_i H;obtain⟨F,I,af⟩:=H
   cases ab;simp only[qh,cn] at hlen;subst hlen;refine⟨_,run F I,.J ?_⟩
   cases hm with
   |J aa =>
    rcases adB (sz:=sz) aa F I (λ_=>TB af) (cc:=cap-l) (by omega) with rfl|aF
    ·rw[show ((es.take l).drop l)=[] from by simp]
     rw[lV];exact .lS
    ·rcases N6 F with rfl|ay
     ·rw[show ((es.take l).drop l)=[] from by simp]
      rw[lV];exact .lS
     ·rw[ag (by omega)];exact aF
  ·cases ab
 ·split at ab
  ·rename_i H;obtain⟨rfl,rfl⟩:=H
   cases ab
   cases hm with
   |nil=>exact⟨_,run (by omega) (by omega),by simpa using bs.nil⟩
  ·cases ab
 ·split at ab
  ·rename_i k g eu off TC H;obtain⟨rfl,F,I⟩:=H
   cases ab;simp only[qh,cn] at hlen;subst hlen
   cases hm with
   |ref he a7 aA =>
    refine⟨_,run F I,.ref he a7 ?_⟩;obtain⟨kH,aHg,o2,nX,aHh,ao7⟩:=aA
    injection o2 with aC aD b9
    subst aC;subst b9
    refine⟨_,cap-l,rfl,by omega,by omega,?_⟩
    rcases k4 (cap-l) with ao|ao
    ·exact .inl ao
    ·refine .inr ?_;rcases ao7 with aO|⟨b,rfl,bm⟩
     ·omega
     ·refine⟨b,by rw[ag (by omega)];simp[zt],λcj=>?_⟩
      obtain⟨bK,bP⟩:=bm cj;refine⟨bK,?_⟩;rw[qn,<-qg];rwa [show l+(cap-l)=cap from by omega]
  ·cases ab
 ·cases ab
theorem ao8 {t e:TypeId}{sz l h iH:Nat}{m r:R}{v:Value}{k2:Option Value}{k3 zv:Value}{cH:Option R}{M kl:R}(bF:P.underlying t=some (.slice e))(X:gl P e=some sz)
  (hh:jN 0 cH=some l) (jj:idx M=some h) (gV:idx kl=some iH) (mY:rk w aZ B cH k2) (lU:bs w aZ B M k3) (F6:bs w aZ B kl zv) (hm:bs w aZ B m v) (ab:JT sz l h iH m=some r) :
  ∃z,(Instr.sliceAt t v k2 (some k3) (some zv)).run P w=.ok z w/\bs w aZ B r z:=by
 have run:∀a len cap,l<=h->h<=iH->iH<=len->len<=cap->(Instr.sliceAt t (.slice a len cap) k2 (some k3) (some zv)).run P w=.ok (.slice (if iH=l then a else a.map (·.add (l*sz))) (h-l) (iH-l)) w :=
  λa len cap F I af aO=>adA bF X (ao3 hh jj gV mY lU F6 F I (by omega))
 unfold JT at ab
 split at ab
 ·rename_i es
  split at ab
  ·rename_i H;obtain⟨F,I,af,aO⟩:=H;obtain⟨a,cap,rfl,F8⟩:=N5 hm (n:=D es) rfl;refine⟨_,run a _ cap F I af F8,?_⟩
   split at ab
   ·rename_i my
    cases ab;subst my;have:h=iH:=by omega
    subst this
    simpa using bs.nil
   ·rename_i my
    cases ab;rw[ag my]
    cases hm with
    |J aa =>
     refine .J ?_;rcases N6 F with rfl|ay
     ·rw[show ((es.take l).drop l)=[] from by simp]
      rw[lV];exact .lS
     ·rcases adB (sz:=sz) aa F (by omega) (λ_=>TB aO) (cc:=iH-l) (by omega) with ao|aF
      ·omega
      ·exact aF
  ·cases ab
 ·split at ab
  ·rename_i H;obtain⟨rfl,rfl,rfl⟩:=H
   cases ab;obtain⟨a,cap,rfl,F8⟩:=N5 hm (n:=0) rfl;exact⟨_,run a _ cap (by omega) (by omega) (by omega) F8,by simpa using bs.nil⟩
  ·cases ab
 ·rename_i k g eu off len
  split at ab
  ·rename_i H;obtain⟨F,I,af,rfl⟩:=H
   cases ab;obtain⟨a,cap,rfl,F8⟩:=N5 hm (n:=len) rfl;have:h=iH:=by omega
   subst this;exact⟨_,run a _ cap (by omega) (by omega) (by omega) F8,by simpa using bs.nil⟩
  ·cases ab
 ·cases ab
theorem ao9 {t:TypeId}{l h len:Nat}{m r:R}{v:Value}{k2 k3:Option Value}{cH M:Option R}(bF:P.underlying t=some .string)
  (hh:jN 0 cH=some l) (hlen:zj m=some len) (jj:jN len M=some h) (mY:rk w aZ B cH k2) (lU:rk w aZ B M k3) (hm:bs w aZ B m v) (ab:JU l h m=some r) :
  ∃z,(Instr.sliceAt t v k2 k3 none).run P w=.ok z w/\bs w aZ B r z:=by
 unfold JU at ab
 split at ab
 ·rename_i s
  split at ab
  ·rename_i H;obtain⟨F,I⟩:=H
   cases ab;simp only[zj,cn] at hlen;subst hlen
   cases hm.Dd;have e:(ByteArray.mk s.toArray).size=D s:=by simp[ByteArray.size]
   have ah:=Tz (P:=P) (w:=w) (aZ:=aZ) (B:=B) (cap:=D s) false hh jj mY lU F I
   have Q:(ByteArray.mk s.toArray).extract l h=⟨((s.take h).drop l).toArray⟩:=by
    rw[ByteArray.extract_mk,adC]
   exact⟨.string ⟨((s.take h).drop l).toArray⟩,by simp[Instr.sliceAt,Instr.slice,run_underlying bF,e,ah,Q],.J .str⟩
  ·cases ab
 ·cases ab
theorem adD (off:Nat):∀(l:List Value) (k:Nat) (cs:Array Value),off+k+D l<=cs.size ->
  (l.zipIdx k).foldl (λ(cs:Array Value) (p:Value×Nat)=>cs.setIfInBounds (off+p.2) p.1) cs=(cs.toList.take (off+k)++l++cs.toList.drop (off+k+D l)).toArray
 | [],k,cs,_=>by simp
 |a::l,k,cs,h=>by
  rw[List.zipIdx_cons,F9];have cG:off+k<cs.size:=by simp at h;omega
  rw[adD off l (k+1) (cs.setIfInBounds (off+k) a) (by simp at h ⊢;omega)];apply Array.ext';simp only[Array.toList_setIfInBounds];have:=list_seg_step cs.toList (off+k) a l (by simp at h ⊢;omega)
  simpa [qn] using this
theorem N7 {place:Nat->Option (Nat×Nat)}{ρ:Operand->Value}{tm:Nat->R}(hρ:∀x y,dL x=some y->bs w aZ B (a6 tm y) (ρ x)):
  ∀(ps:List (Nat×Operand)) (eB:List (Nat×Nat×bS)) (cs r:List R) (vs:Array Value),partsOf place ps=some eB->dp w aZ B cs vs.toList->kD (a6 tm) cs eB=some r ->
   ∃oD:Array Value,Instr.fill place vs (ps.map λp=>(p.1,ρ p.2))=some oD/\dp w aZ B r oD.toList
 | [],eB,cs,r,vs,aF,b0,h=>by
  simp[partsOf] at aF;subst aF;simp[kD] at h;subst h;exact⟨vs,rfl,b0⟩
 |(i,x)::ps,eB,cs,r,vs,aF,b0,h=>by
  simp only[partsOf,lu,g9,hg,eo,cn] at aF;obtain⟨q,aT,apa,Bc,rfl⟩:=aF;obtain⟨⟨o,s⟩,nY,y,av,rfl⟩:=aT;simp only[kD] at h
  split at h
  ·rename_i H;obtain⟨ao,F,I⟩:=H;have vm:=hρ x y av;have apb:a6 tm y ≠ .undef:=λe=>by rw[e] at ao;simp[R.known] at ao
   ·have lx:=dp.Tx vm apb;have e8:(ρ x).cells.size=s:=by have:=lx.1;simp at this;omega
    have Ka:o+s<=vs.size:=by have:=b0.1;simp at this;omega
    have gL:=adD o (ρ x).cells.toList 0 vs (by simp[e8];exact Ka);simp only[nZ,Array.length_toList] at gL;have TD:=b0.kV lx o;obtain⟨oD,aI,Ga⟩:=N7 hρ ps apa _ r ((vs.toList.take o++(ρ x).cells.toList++vs.toList.drop (o+(ρ x).cells.size)).toArray) Bc (by simpa using TD) h;refine⟨oD,?_,Ga⟩;simp only[List.map_cons,Instr.fill,nY];rw[ag (by simp[e8];omega)]
    have aX:(ρ x).cells.zipIdx.foldl (λcs (p:Value×Nat)=>cs.setIfInBounds (o+p.2) p.1) vs=(vs.toList.take o++(ρ x).cells.toList++vs.toList.drop (o+(ρ x).cells.size)).toArray:=by
     rw[<-Array.foldl_toList,Array.toList_zipIdx];exact gL
    rw[<-aI]
    congr 1
  ·cases h
end
section
variable {P:Program} {A:Nat->Prop} {w:World} {B:e9} {mem:Mem}
theorem Dj {aZ:Nat->Prop}{t:TypeId}{z:List R}(h:zeroOf P t=some z):∃i iT,P.info? t=some i/\i.zero=some iT/\dp w aZ B z iT.cells.toList:=by
 simp only[zeroOf,eo] at h;obtain⟨iT,⟨i,M,aX⟩,hm⟩:=h;obtain⟨F,I⟩:=oB hm;exact⟨i,iT,M,aX,by simp[F],λj m v apc Kb=>Tv (I j v m Kb apc)⟩
theorem Kc {t:TypeId}{i:TypeInfo}{iT:Value}(M:P.info? t=some i)(aX:i.zero=some iT):(zeroValue t).run P w=.ok iT w:=by
 simp[zeroValue,typeInfo,M,aX]
theorem adE {t:TypeId}{i:TypeInfo}{n:Nat}(M:P.info? t=some i)(X:gl P t=some n):i.size=n:=by
 simpa [gl,M] using X
theorem adF {t:TypeId}{i:TypeInfo}{n:Nat}(M:P.info? t=some i)(X:FO P t=some n):i.bytes=n:=by
 simpa [FO,M] using X
theorem N8 {z:Array Value}(ao:0<z.size):∀n,((Array.range (n*z.size)).map (z[·%z.size]!)).toList=(dG n z.toList).flatten
 |0=>by simp
 |n+1=>by
  have az:=N8 ao n;apply pH;intro i
  have aC:∀m i,((Array.range (m*z.size)).map (z[·%z.size]!)).toList[i]?=if i<m*z.size then some (z[i%z.size]!) else none:=by
   intro m i;rw[Array.getElem?_toList,Array.getElem?_map]
   by_cases M:i<m*z.size
   ·rw[ad M,Array.getElem?_range];simp[M]
   ·rw[ag M,Array.getElem?_range];simp[M]
  rw[aC,List.replicate_succ',List.flatten_append,FW,<-az];have el:((Array.range (n*z.size)).map (z[·%z.size]!)).toList.length=n*z.size:=by simp
  rw[el];have hmul:(n+1)*z.size=n*z.size+z.size:=by rw[qg,xX]
  by_cases M:i<n*z.size
  ·rw[ad M,ad (by omega),aC,ad M]
  ·rw[ag M]
   by_cases nW:i<(n+1)*z.size
   ·rw[ad nW];have ay:i-n*z.size<z.size:=by omega
    have TE:i%z.size=i-n*z.size:=by
     have e:i=(i-n*z.size)+z.size*n:=by have:=Nat.mul_comm n z.size;omega
     have aD:((i-n*z.size)+z.size*n)%z.size=i-n*z.size:=by rw[Nat.add_mul_mod_self_left,Nat.mod_eq_of_lt ay]
     rwa [<-e] at aD
    rw[TE];simp[ay]
   ·rw[ag nW]
    symm
    rw[kF];simp;omega
theorem dp.replicate {aZ:Nat->Prop}{z:List R}{adG:List Value}(h:dp w aZ B z adG):∀n,dp w aZ B (dG n z).flatten (dG n adG).flatten
 |0=>by simpa using dp.nil
 |n+1=>by
  rw[qo,jL,qo,jL];exact h.append (dp.replicate h n)
theorem dp.q8 {cs:List R}{vs:List Value}{aR:World}{bu:e9}(t:Trans A w B aR bu)(h:dp w (cg A B) B cs vs):dp aR (cg A bu) bu cs vs :=
 ⟨h.1,λi m v F I=>(h.2 i m v F I).q8 t⟩
theorem Kd {cs:List R}(b2:fr A w B mem)(w1:World)(f:Fr (λ_=>False) w w1)(aX:w1.heap.size=w.heap.size)(k:Key)(vs:Array Value)(T:TypeId)(ar:(D cs)<=vs.size)
  (b0:dp w (cg A B) B cs (vs.toList.take (D cs))):eE A w B (w1.alloc (.cells vs T)) (gB B k ⟨bV mem k,some w.heap.size,vs.size⟩) (a4 mem k (bV mem k) cs) :=
 eE.alloc b2 w1 f aX k vs T ar λi m hm=>by
  obtain⟨v,aA,ab⟩:=b0.get hm;rw[vh] at aA
  split at aA
  ·exact⟨v,by simpa using aA,ab⟩
  ·cases aA
theorem apd {t:TypeId}{z:List R}(k:Key)(b2:fr A w B mem)(aX:zeroOf P t=some z):
  ∃v aR bu,(Instr.alloc t true (.tuple #[])).run P w=.ok v aR/\eE A w B aR bu (a4 mem k (bV mem k) z)/\bs aR (cg A bu) bu (.ptr k (bV mem k) 0) v:=by
 obtain⟨i,iT,M,tA,b0⟩:=Dj (P:=P) (w:=w) (B:=B) (aZ:=cg A B) aX;have ar:(D z)=iT.cells.size:=by have:=b0.1;simp at this;omega
 refine⟨.pointer (some ⟨w.heap.size,0,none⟩),w.alloc (.cells iT.cells t),_,?_,Kd b2 w (Fr.refl _ _) rfl k iT.cells t (by omega) (by rw[dy (by simp;omega)];exact b0),?_⟩
 ·simp[Instr.alloc,Kc M tA,newVar,newRow]
 ·exact .ptr (hf _ _ _) (bZ _) ⟨_,rfl,λ_=>rfl⟩
theorem ape {t:TypeId}{m:R}{u:Value}(k:Key)(b2:fr A w B mem)(hu:bs w (cg A B) B m u)(O:m.known=true):
  ∃v aR bu,(Instr.box t u).run P w=.ok v aR/\eE A w B aR bu (a4 mem k (bV mem k) m.cells)/\bs aR (cg A bu) bu (.ptr k (bV mem k) 0) v:=by
 have b0:=dp.Tx hu (λe=>by rw[e] at O;simp[R.known] at O);have ar:(D m.cells)=u.cells.size:=by have:=b0.1;simp at this;omega
 refine⟨.pointer (some ⟨w.heap.size,0,none⟩),w.alloc (.cells u.cells t),_,?_,Kd b2 w (Fr.refl _ _) rfl k u.cells t (by omega) (by rw[dy (by simp;omega)];exact b0),?_⟩
 ·simp[Instr.box,newVar,newRow]
 ·exact .ptr (hf _ _ _) (bZ _) ⟨_,rfl,λ_=>rfl⟩
theorem apf {t e:TypeId}{z:List R}{bytes n c:Nat}{dN cO:R}{qp kI:Value}{r:R}{jR:Option (Key×Nat×List R)}(k:Key)(b2:fr A w B mem)(bF:P.underlying t=some (.slice e))(aX:zeroOf P e=some z)(X:gl P e=some (D z))
  (ah:FO P e=some bytes) (F:idx dN=some n) (I:idx cO=some c) (fc:bs w (cg A B) B dN qp) (ep:bs w (cg A B) B cO kI) (ao:0<D z) (h:FJ k (bV mem k) z bytes n c=some (r,jR)) :
  ∃v aR bu,(Instr.makeSlice t qp kI).run P w=.ok v aR/\eE A w B aR bu (ik mem jR)/\bs aR (cg A bu) bu r v:=by
 unfold FJ at h
 split at h
 ·rename_i H;obtain⟨rfl,Gb,wH⟩:=H
  cases h;obtain⟨cd,rfl⟩:=FY F fc;obtain⟨c0,rfl⟩:=FY I ep;obtain⟨i,iT,M,tA,b0⟩:=Dj (P:=P) (w:=w) (B:=B) (aZ:=cg A B) aX;have ar:(D z)=iT.cells.size:=by have:=b0.1;simp at this;omega
  have e8:=adE M X;have Ke:=adF M ah
  have mZ:=run_make (P:=P) w t e i iT bF M tA cd c0 (n:Int) (n:Int) (by omega) (by omega) (by
   have:((i.bytes*n:Nat):Int)<=281474976710656:=by rw[Ke];omega
   rwa [Int.natCast_mul] at this) (by unfold maxLen at wH;omega)
  simp only[Int.toNat_natCast] at mZ
  have adH:(madeCells iT.cells (n*i.size)).toList=(dG n iT.cells.toList).flatten:=by
   rw[e8,ar];exact N8 (by omega) n
  have Dk:(madeCells iT.cells (n*i.size)).size=n*D z:=by rw[size_madeCells,e8]
  have Bd:=b0.replicate (n:=n)
  have hlen:(dG n z).flatten.length=n*D z:=by
   have:=Bd.1;rw[<-this,<-adH,Array.length_toList,Dk]
  refine⟨_,_,_,mZ,Kd b2 w (Fr.refl _ _) rfl k _ e (by rw[Dk,hlen];exact bZ _) ?_,?_⟩
  ·rw[dy (by rw[Array.length_toList,Dk,hlen];exact bZ _),adH];exact Bd
  ·refine .ref (hf _ _ _) (bZ _) ⟨_,n,rfl,bZ _,wH,.inr ⟨_,rfl,λ_=>⟨rfl,?_⟩⟩⟩;simp only[kY];rw[Dk];exact bZ _
 ·cases h
theorem TF (b2:fr A w B mem){k:Key}{g:Nat}{cs new:List R}{e:mu}{b:Nat}{vs:Array Value}{T:TypeId}{vals:List Value}{off:Nat}(O:mem k=some (g,cs))(he:B k=some e)(ah:e.dx=some b)
  (aU:w.heap[b]?=some (.cells vs T (0,0))) (e8:vs.size=e.size) (ar:(D cs)<=vs.size) (b0:dp w (cg A B) B cs (vs.toList.take (D cs))) (cj:e.g=g) (TG:off+D new<=D cs) (ly:dp w (cg A B) B new vals) :
  eE A w B (w.setRow b (vs.toList.take off++vals++vs.toList.drop (off+D vals)).toArray) B (a4 mem k g (kV cs off new)):=by
 have TH:(D vals)=D new:=ly.1
 have TD:dp w (cg A B) B (kV cs off new) ((vs.toList.take off++vals++vs.toList.drop (off+D vals)).take (D cs)):=by
  have F:=b0.kV ly off
  have aC:(vs.toList.take (D cs)).take off++vals++(vs.toList.take (D cs)).drop (off+D vals)=(vs.toList.take off++vals++vs.toList.drop (off+D vals)).take (D cs):=by
   have lz:(D vs.toList)=vs.size:=Array.length_toList;rw[List.take_take,oE (by omega),adC,Di,fH,gf,lz,oE (a:=off) (b:=vs.size) (by omega)];rw[dy (l:=vs.toList.take off++vals) (by rw[fH,gf,lz];omega)]
  rwa [aC] at F
 have Dl:(kV cs off new).length=D cs:=by unfold kV;simp;omega
 have heq:gB B k e=B:=by
  funext j
  unfold gB
  split
  ·rename_i ai;rw[ai,he]
  ·rfl
 have f:Fr (λb=>∃e,B k=some e/\e.dx=some b) w (w.setRow b (vs.toList.take off++vals++vs.toList.drop (off+D vals)).toArray):=by
  refine⟨rfl,rfl,rfl,by simp,λj ai bO=>?_⟩
  exact setRow_other w b j _ (λN9=>bO ⟨e,he,by rw[ah,N9]⟩)
 have:=eE.change (k:=k) (e':=e) (cs:=kV cs off new) b2 f (λaD fq => .inl (by rw[he] at fq;exact o3 fq)) (λeK eJ => .inr ⟨e,he,eJ⟩) (λaL=>by rw[ah] at aL;cases aL) (λeK eJ=>by
  rw[ah] at eJ
  cases eJ;refine⟨_,T,setRow_heap w b vs _ T (0,0) aU,by simp;omega,by rw[Dl];simp;omega,λi m hm=>?_⟩
  obtain⟨v,aA,ab⟩:=TD.get hm;rw[vh] at aA
  split at aA
  ·exact⟨v,by simpa using aA,ab⟩
  ·cases aA)
 rw[heq,cj] at this;exact this
theorem apg {t:TypeId}{n:Nat}{dN cO:R}{qp kI:Value}{r:R}{jR:Option (Key×Nat×List R)}(b2:fr A w B mem)(X:gl P t=some n)(fc:bs w (cg A B) B dN qp)(ep:bs w (cg A B) B cO kI)
  (h:xZ mem n dN cO.cells=some (r,jR)):∃aR,(Instr.storeAt t qp kI).run P w=.ok () aR/\eE A w B aR B (ik mem jR)/\r=.no:=by
 cases dN with
 |ptr k g off =>
  simp only[xZ] at h;unfold JY at h
  split at h
  ·rename_i c6 cs O
   split at h
   ·rename_i H;obtain⟨rfl,F,I,af⟩:=H
    cases h;obtain⟨e,he,cj,aL,ah⟩:=b2.at_ O
    cases fc with
    |ptr gz J8 aF =>
     rw[he] at gz
     cases gz;obtain⟨b,rfl,iS⟩:=aF;have iS:=iS cj.symm;obtain⟨vs,T,aU,e8,ar,b0⟩:=ah b iS;have gC:cO ≠ .undef:=λe=>by rw[e] at af;simp[R.cells,R.one] at af
     have lx:=dp.Tx ep gC
     have aph:∀v∈kI.cells.toList,v.oneCell'=true:=by
      intro v aA;obtain⟨i,M,jS⟩:=adI aA;have kn:i<D cO.cells:=by rw[<-lx.1];exact M
      have:=lx.2 i _ _ (bx kn) (bx M);rw[jS] at this;exact ads this (kG.1 af _ (o1 kn))
     have aHi:kI.cells.size=n:=by have:=lx.1;simp at this;omega
     have dv:=run_storeCells_at P b off T kI.cells.toList 0 vs w aU (by simp;omega) aph;simp only[nZ] at dv;refine⟨_,?_,TF b2 O he iS aU e8 ar b0 cj (by omega) lx,rfl⟩;have bG:¬ (kI.cells.size≠n):=by omega
     simp only[Instr.storeAt,Instr.sureAddr,storeVar,Sem.run_bind,Sem.run_pure,Result.andThen_ok,vi X];rw[ag bG];exact dv
   ·cases h
  ·cases h
 |_=>simp[xZ] at h
end
section
variable {P:Program} {A:Nat->Prop} {w:World} {B:e9} {mem:Mem}
theorem Oa (sz:Nat):∀(n:Nat) (l:List Data),(chunk sz n l).length=n
 |0,_=>rfl
 |n+1,l=>by simp[chunk,Oa sz n]
theorem Ob (sz:Nat):∀(n:Nat) (l:List Data),D l=n*sz->∀e∈chunk sz n l,D e=sz
 |0,_,_,e,he=>by simp[chunk] at he
 |n+1,l,ar,e,he=>by
  have hmul:(n+1)*sz=n*sz+sz:=by rw[qg,xX]
  simp only[chunk,List.mem_cons] at he;rcases he with rfl|he
  ·simp;omega
  ·exact Ob sz n _ (by simp;omega) e he
theorem Oc (sz:Nat):∀(n:Nat) (l:List Data),D l=n*sz->(chunk sz n l).flatten=l
 |0,l,ar=>by simp at ar;simp[chunk,ar]
 |n+1,l,ar=>by
  have hmul:(n+1)*sz=n*sz+sz:=by rw[qg,xX]
  simp only[chunk,jL];rw[Oc sz n _ (by simp;omega),List.take_append_drop]
theorem adJ {aZ:Nat->Prop}{m:R}{d:Data}{v:Value}(h:vb m=some d)(aA:bs w aZ B m v):Den w aZ d v:=by
 unfold vb at h
 split at h<;>cases h
 ·cases aA with
  |J h=>exact h
 ·cases aA with
  |nil=>exact .lS
theorem api {ds:List Data}{vs:Array Value}{T:TypeId}{n sz:Nat}(b2:fr A w B mem)(aR:World)(hw:aR=w.alloc (.cells vs T))(ar:(D ds)=n*sz)(aA:vs.size=n*sz)(hm:n<=maxLen)
  (aa:∀(i:Nat) (d:Data) (v:Value),ds[i]?=some d->vs[i]?=some v->Den w (cg A B) d v):Den aR (cg A B) (.Y (chunk sz n ds)) (.slice (some ⟨w.heap.size,0,none⟩) n n):=by
 have ok:eE A w B aR B mem:=by rw[hw];exact .still b2 ((Fr.refl _ _).alloc _)
 have dq:=Oa sz n ds
 have h:=Den.Y (w:=aR) (aZ:=cg A B) (es:=chunk sz n ds) (b:=w.heap.size) (off:=0) (c:=n) (sz:=sz) (λi=>vs.getD i undef) (by rw[dq];exact bZ _) (by rw[dq];exact hm)
  (by rw[hw];simp) (λbO=>by
   rcases bO with bO|bO
   ·have:=b2.xY bO;omega
   ·have:=b2.lt _ bO;omega) (Ob sz n ds ar)
  (λi M=>by
   rw[dq] at M;rw[hw,kY];have:i<vs.size:=by omega
   simp[this])
  (λi d k0=>by
   rw[Oc sz n ds ar] at k0;have ay:i<D ds:=(dP.1 k0).1;have k5:i<vs.size:=by omega
   have:vs.getD i undef=vs[i]:=by simp[k5]
   simp only[this];exact (aa i d _ k0 (Array.getElem?_eq_getElem k5)).trans ok.mV)
 rw[dq] at h;exact h
theorem adK {t e:TypeId}{z r:List R}{sz len:Nat}{ps:List (Nat×Operand)}{eB:List (Nat×Nat×bS)}{ρ:Operand->Value}{tm:Nat->R}{aZ:Nat->Prop}(bF:P.underlying t=some (.slice e))(aX:zeroOf P e=some z)
  (X:gl P e=some sz) (wI:(D z)=sz) (ao:0<sz) (ar:len*sz<=16777216) (aF:partsOf (λi=>some (i*sz,sz)) ps=some eB) (hρ:∀x y,dL x=some y->bs w aZ B (a6 tm y) (ρ x))
  (h:kD (a6 tm) (dG len z).flatten eB=some r) :
  ∃vs:Array Value,(Instr.buildSlice t len (ps.map λp=>(p.1,ρ p.2)).toArray).run P w=.ok (.slice (some ⟨w.heap.size,0,none⟩) len len) (w.alloc (.cells vs e))/\dp w aZ B r vs.toList:=by
 obtain⟨i,iT,M,tA,b0⟩:=Dj (P:=P) (w:=w) (B:=B) (aZ:=aZ) aX;have Gc:iT.cells.size=sz:=by have:=b0.1;simp at this;omega
 have adL:=N8 (z:=iT.cells) (by omega) len;rw[Gc] at adL;have Bd:=b0.replicate (n:=len);rw[<-adL] at Bd;obtain⟨oD,aI,ab⟩:=N7 (place:=λi=>some (i*sz,sz)) hρ ps eB _ r _ aF Bd h;refine⟨oD,?_,ab⟩;have aL:¬ (len*sz>2^24):=by omega
 by_cases vn:len*sz=0
 ·have bI:((Array.range (len*sz)).map (iT.cells[·%sz]!))=#[]:=by rw[vn];simp[Array.range_zero']
  have apj:Instr.fill (λi=>some (i*sz,sz)) #[] (ps.map λp=>(p.1,ρ p.2))=some oD:=by rw[<-bI];exact aI
  simp only[Instr.buildSlice,Sem.run_bind,run_underlying bF,Result.andThen_ok,vi X];rw[ag aL];simp only[vn,if_true,Sem.run_bind,Sem.run_pure,Result.andThen_ok];simp[apj,newRow,Array.range_zero']
 ·simp only[Instr.buildSlice,Sem.run_bind,run_underlying bF,Result.andThen_ok,vi X];rw[ag aL];simp only[vn,if_false,Sem.run_bind,Sem.run_pure,Result.andThen_ok,Kc M tA,Gc];simp[aI,newRow]
theorem apk {t e:TypeId}{z:List R}{sz len:Nat}{ps:List (Nat×Operand)}{eB:List (Nat×Nat×bS)}{ρ:Operand->Value}{tm:Nat->R}{r:R}(b2:fr A w B mem)(bF:P.underlying t=some (.slice e))(aX:zeroOf P e=some z)
  (X:gl P e=some sz) (wI:(D z)=sz) (ao:0<sz) (ar:len*sz<=16777216) (aF:partsOf (λi=>some (i*sz,sz)) ps=some eB) (hρ:∀x y,dL x=some y->bs w (cg A B) B (a6 tm y) (ρ x))
  (h:JJ (dG len z).flatten sz len (kD (a6 tm) (dG len z).flatten eB)=some r) :
  ∃v aR,(Instr.buildSlice t len (ps.map λp=>(p.1,ρ p.2)).toArray).run P w=.ok v aR/\eE A w B aR B mem/\bs aR (cg A B) B r v:=by
 unfold JJ at h
 split at h
 ·rename_i hlen
  cases aI:kD (a6 tm) (dG len z).flatten eB with
  |none=>rw[aI] at h;cases h
  |some cs =>
   rw[aI] at h;simp only[eb] at h;obtain⟨ds,g1,rfl⟩:=h;obtain⟨vs,mZ,b0⟩:=adK (P:=P) (B:=B) bF aX X wI ao ar aF hρ aI;obtain⟨F,I⟩:=oB g1
   have dq:(D cs)=len*sz:=by
    have:∀(eB:List (Nat×Nat×bS)) (a r:List R),kD (a6 tm) a eB=some r->(D r)=D a:=by
     intro eB
     induction eB with
     |nil=>intro a r h;simp[kD] at h;rw[h]
     |cons q eB az =>
      intro a r h;obtain⟨o,s,x⟩:=q;simp only[kD] at h
      split at h
      ·rename_i H;rw[az _ _ h];unfold kV;simp;omega
      ·cases h
    rw[this _ _ _ aI,hlen]
   have aV:vs.size=len*sz:=by have:=b0.1;simp at this;omega
   refine⟨_,_,mZ,.still b2 ((Fr.refl _ _).alloc _),.J (api b2 _ rfl (by omega) aV ?_ λi d v aa aA=>?_)⟩
   ·have:len<=len*sz:=Kf _ ao;unfold maxLen;omega
   ·have ay:i<D cs:=by have:=(dP.1 aa).1;omega
    have jT:=bx ay;exact adJ (I i _ d jT aa) (b0.2 i _ v jT (by simpa using aA))
 ·cases h
theorem apl {t e:TypeId}{z:List R}{sz len:Nat}{ps:List (Nat×Operand)}{eB:List (Nat×Nat×bS)}{ρ:Operand->Value}{tm:Nat->R}{r:R}{jR:Option (Key×Nat×List R)}(k:Key)(b2:fr A w B mem)(bF:P.underlying t=some (.slice e))(aX:zeroOf P e=some z)
  (X:gl P e=some sz) (wI:(D z)=sz) (ao:0<sz) (ar:len*sz<=16777216) (aF:partsOf (λi=>some (i*sz,sz)) ps=some eB) (hρ:∀x y,dL x=some y->bs w (cg A B) B (a6 tm y) (ρ x))
  (h:FI k (bV mem k) (dG len z).flatten sz len (kD (a6 tm) (dG len z).flatten eB)=some (r,jR)) :
  ∃v aR bu,(Instr.buildSlice t len (ps.map λp=>(p.1,ρ p.2)).toArray).run P w=.ok v aR/\eE A w B aR bu (ik mem jR)/\bs aR (cg A bu) bu r v:=by
 unfold FI at h
 split at h
 ·rename_i hlen
  cases aI:kD (a6 tm) (dG len z).flatten eB with
  |none=>rw[aI] at h;cases h
  |some cs =>
   rw[aI] at h
   cases h;obtain⟨vs,mZ,b0⟩:=adK (P:=P) (B:=B) bF aX X wI ao ar aF hρ aI
   have dq:(D cs)=len*sz:=by
    have:∀(eB:List (Nat×Nat×bS)) (a r:List R),kD (a6 tm) a eB=some r->(D r)=D a:=by
     intro eB
     induction eB with
     |nil=>intro a r h;simp[kD] at h;rw[h]
     |cons q eB az =>
      intro a r h;obtain⟨o,s,x⟩:=q;simp only[kD] at h
      split at h
      ·rename_i H;rw[az _ _ h];unfold kV;simp;omega
      ·cases h
    rw[this _ _ _ aI,hlen]
   have aV:vs.size=D cs:=by have:=b0.1;simp at this;omega
   refine⟨_,_,_,mZ,Kd b2 w (Fr.refl _ _) rfl k vs e (by omega) (by rw[dy (by simp;omega)];exact b0),?_⟩
   have gV:len<=maxLen:=by
    have:len<=len*sz:=Kf _ ao;unfold maxLen;omega
   exact .ref (hf _ _ _) (bZ _) ⟨_,len,rfl,bZ _,gV,.inr ⟨_,rfl,λ_=>⟨rfl,by simp only[kY];omega⟩⟩⟩
 ·cases h
theorem adM {m:R}{sz n:Nat}{new:List R}{v:Value}(b2:fr A w B mem)(aA:bs w (cg A B) B m v)(h:qj mem sz m=some (n,new)):
  ∃a c vals,v=.slice a n c/\dp w (cg A B) B new vals/\D vals=n*sz/\(0<n->∃b off,a=some ⟨b,off,none⟩/\eF w b off vals):=by
 unfold qj at h
 split at h
 ·split at h
  ·rename_i es tB
   cases h;have tB:=TB tB
   cases aA with
   |J aa =>
    cases aa with
    |lS=>exact⟨_,_,[],rfl,by simpa using dp.nil,by simp,λh=>by simp at h⟩
    | @Y es b off c eu val ar hm ah fJ e8 H Bb =>
     have lA:=NP tB;rcases k4 (D es) with ao|ao
     ·have:es=[]:=tC ao;subst this;exact⟨_,_,[],rfl,by simpa using dp.nil,by simp,λh=>by simp at h⟩
     ·have J9:eu=sz:=by
       have k6:=o1 (l:=es) (n:=0) ao;rw[<-e8 _ k6,tB _ k6]
      subst J9;refine⟨_,_,(dS (D es*eu)).map val,rfl,?_,by simp,λ_=>⟨b,off,rfl,λj u ai=>?_⟩⟩
      ·refine dp.J (by simp[lA]) λi d u F I=>?_;have M:i<D es*eu:=by have:=(dP.1 F).1;omega
       rw[bl,tv M] at I;simp only[lB,cn] at I;subst I;exact Bb i d F
      ·have M:j<D es*eu:=by have:=(dP.1 ai).1;simpa using this
       rw[bl,tv M] at ai;simp only[lB,cn] at ai;subst ai;exact H j M
  ·cases h
 ·cases h
  cases aA with
  |nil=>exact⟨_,_,[],rfl,dp.nil,by simp,λh=>by simp at h⟩
 ·rename_i k g eu off len
  split at h
  ·rename_i e8;subst e8
   split at h
   ·rename_i c6 cs O
    split at h
    ·rename_i a7;subst a7;simp only[eb,fb] at h;obtain⟨part,x8,rfl,rfl⟩:=h;obtain⟨ar,rfl,aL⟩:=FX x8
     cases aA with
     |ref he a7 ab =>
      obtain⟨e,gz,cj,Dg,ah⟩:=b2.at_ O;rw[he] at gz
      cases gz;obtain⟨a,cap,rfl,F,I,af⟩:=ab;rcases af with af|⟨b,rfl,aO⟩
      ·have:len=0:=by omega
       subst this;exact⟨_,_,[],rfl,by simpa using dp.nil,by simp,λh=>by omega⟩
      ·obtain⟨bm,bK⟩:=aO cj.symm;obtain⟨vs,T,aU,aX,hle,b0⟩:=ah b bm;refine⟨_,_,((vs.toList.take (D cs)).drop off).take (len*eu),rfl,(b0.drop off).take _,by have:=((b0.drop off).take (len*eu)).1;omega,λ_=>⟨b,off,rfl,?_⟩⟩
       have:=(((eF.row aU).take (D cs)).add off).take (len*eu)
       simpa using this
    ·cases h
   ·cases h
  ·cases h
 ·cases h
theorem Od {sz n c:Nat}{a:Option Addr}{vals:List Value}(ar:(D vals)=n*sz)(cp:0<n->∃b off,a=some ⟨b,off,none⟩/\eF w b off vals)(aR:World)(hw:aR.heap=w.heap):
  (Builtin.firstCells sz n (.slice a n c)).run P aR = .ok vals.toArray aR:=by
 have H:∀p,aR.cell? p=w.cell? p:=λp=>by simp[World.cell?,hw]
 rcases k4 n with ao|ao
 ·subst ao;have:vals=[]:=tC (by simpa using ar);subst this
  cases a with
  |none=>simp[Builtin.firstCells]
  |some a=>simp[Builtin.firstCells,loadCells,loadCellsFrom]
 ·obtain⟨b,off,rfl,zw⟩:=cp ao;exact run_firstCells_some aR sz n _ n c vals ar λj v ai=>by rw[zt,H];exact zw j v ai
theorem dp.TI {aZ:Nat->Prop}{cs:List R}{vs:List Value}(h:dp w aZ B cs vs)(F:cs.all R.one=true):∀v∈vs,v.oneCell'=true:=by
 intro v aA;obtain⟨i,M,jS⟩:=adI aA;have kn:i<D cs:=by rw[<-h.1];exact M
 have:=h.2 i _ _ (bx kn) (bx M);rw[jS] at this;exact ads this (kG.1 F _ (o1 kn))
theorem TJ {t ty e:TypeId}{sz o4 wJ n c:Nat}{base a:Option Addr}{vals:List Value}(bF:P.underlying t=some (.slice e))(X:gl P e=some sz)(x9:o4+n<=wJ)
  (aI:(Builtin.firstCells sz n (.slice a n c)).run P w=.ok vals.toArray w) (aR:World)
  (dv:∀b,base=some b->(storeCells (b.add (o4*sz)) vals).run P w=.ok () aR) (aL:base=none->aR=w) :
  (Builtin.append_ #[t,t] ty #[.slice base o4 wJ,.slice a n c]).run P w=.ok (.slice base (o4+n) wJ) aR:=by
 simp only[gl,eb] at X;obtain⟨i,M,rfl⟩:=X
 cases base with
 |none=>simp[Builtin.append_,run_underlying bF,sizeOf,typeInfo,M,Builtin.lenOf,x9,aI,aL rfl]
 |some b=>simp[Builtin.append_,run_underlying bF,sizeOf,typeInfo,M,Builtin.lenOf,x9,aI,dv b rfl]
theorem apm {t ty e:TypeId}{sz o4 wJ n c bytes:Nat}{base a:Option Addr}{pI vals:List Value}{i:TypeInfo}{z:Value}(bF:P.underlying t=some (.slice e))(M:P.info? e=some i)(aX:i.zero=some z)(e8:i.size=sz)(Ke:i.bytes=bytes)
  (x9:wJ<o4+n) (vj:∀aR,aR.heap=w.heap->(Builtin.firstCells sz o4 (.slice base o4 wJ)).run P aR = .ok pI.toArray aR) (aI:∀aR,aR.heap=w.heap->(Builtin.firstCells sz n (.slice a n c)).run P aR = .ok vals.toArray aR)
  (apn:o4+n<=maxLen) (ah:(o4+n)*bytes<=140737488355328) :
  (Builtin.append_ #[t,t] ty #[.slice base o4 wJ,.slice a n c]).run P w =
   .ok (.slice (some ⟨w.heap.size,0,none⟩) (o4+n) (grownCap w (o4+n) wJ e))
    (w.drew.alloc (.cells (pI.toArray++vals.toArray++Builtin.zeroCells z.cells (grownCap w (o4+n) wJ e-(o4+n))) e)):=by
 subst e8;subst Ke
 have aL:¬ (o4+n<=wJ):=by omega
 have apo:¬ (9223372036854775807<((o4:Int)+(n:Int))):=by unfold maxLen at apn;omega
 have Ka:=growslice_fits x9 ah;have apq:¬ (281474976710656<Builtin.nextslicecap (o4+n) wJ*i.bytes):=by omega
 have F:=vj w.drew rfl;have I:=aI w.drew rfl;simp[Builtin.append_,run_underlying bF,sizeOf,typeInfo,zeroValue,M,aX,Builtin.lenOf,aL,apo,apq,Question.forced,F,I,newRow,grownCap,<-List.append_toArray,Array.append_assoc]
theorem apr {t ty e:TypeId}{z:List R}{bytes n:Nat}{dN cO:R}{qp kI:Value}{new:List R}{r:R}{jR:Option (Key×Nat×List R)}(k:Key)(b2:fr A w B mem)(bF:P.underlying t=some (.slice e))(aX:zeroOf P e=some z)(X:gl P e=some (D z))
  (Ke:FO P e=some bytes) (ao:0<D z) (fc:bs w (cg A B) B dN qp) (ep:bs w (cg A B) B cO kI) (eR:qj mem (D z) cO=some (n,new)) (h:rb mem k z bytes dN (some (n,new))=some (r,jR)) :
  ∃v aR bu,(Builtin.append_ #[t,t] ty #[qp,kI]).run P w=.ok v aR/\eE A w B aR bu (ik mem jR)/\bs aR (cg A bu) bu r v:=by
 obtain⟨c7,c2,vals,rfl,b0,lz,cp⟩:=adM b2 ep eR;obtain⟨i,iT,M,tA,aps⟩:=Dj (P:=P) (w:=w) (B:=B) (aZ:=cg A B) aX;have e8:=adE M X;have iS:=adF M Ke;have Gc:iT.cells.size=D z:=by have:=aps.1;simp at this;omega
 have o5:(D new)=n*D z:=by rw[<-b0.1,lz]
 have aI:=λaR hw=>Od (P:=P) (w:=w) (c:=c2) lz cp aR hw
 -- a new block
 have grow:∀(base:Option Addr) (len cap:Nat) (g:Nat) (k':Key) (cs:List R) (pI:List Value),cap<len+n->(∀aR,aR.heap=w.heap->(Builtin.firstCells (D z) len (.slice base len cap)).run P aR = .ok pI.toArray aR) ->
   dp w (cg A B) B cs pI->(D cs)=len*(D z)->len+n<=maxLen->(len+n)*bytes<=140737488355328->g=bV mem k' ->
   ∃v aR bu,(Builtin.append_ #[t,t] ty #[.slice base len cap,.slice c7 n c2]).run P w=.ok v aR/\eE A w B aR bu (a4 mem k' g (cs++new))/\bs aR (cg A bu) bu (.ref k' g (D z) 0 (len+n)) v:=by
  intro base len cap g k' cs pI x9 vj kZ dq wH Gb a7;subst a7;have mZ:=apm (P:=P) (ty:=ty) bF M tA e8 iS x9 vj aI wH Gb;have cj:=grownCap_ge w (len+n) cap e;have hle:=grownCap_le_maxLen w (len+n) cap e wH
  have Dk:(pI.toArray++vals.toArray++Builtin.zeroCells iT.cells (grownCap w (len+n) cap e-(len+n))).size=grownCap w (len+n) cap e*D z:=by
   have Gd:=kZ.1;simp only[Array.size_append,List.size_toArray,size_zeroCells,Gc,Gd,dq,lz];rw[<-qg,<-qg]
   congr 1
   omega
  have fi:=kZ.append b0;have hmul:(len+n)*D z<=grownCap w (len+n) cap e*D z:=vl _ cj;have Kg:(cs++new).length=(len+n)*D z:=by rw[fH,dq,o5,qg]
  refine⟨_,_,_,mZ,Kd (cs:=cs++new) b2 w.drew ((Fr.refl _ _).drew _) rfl k' _ e (by rw[Dk,Kg];exact hmul) ?_,?_⟩
  ·have:(pI.toArray++vals.toArray++Builtin.zeroCells iT.cells (grownCap w (len+n) cap e-(len+n))).toList.take (cs++new).length=pI++vals:=by
    simp only[Array.toList_append,List.toList_toArray];rw[List.take_append_of_le_length (by rw[fi.1];exact bZ _),dy (by rw[fi.1];exact bZ _)]
   rw[this];exact fi
  ·refine .ref (hf _ _ _) (bZ _) ⟨_,_,rfl,cj,hle,.inr ⟨_,rfl,λ_=>⟨rfl,?_⟩⟩⟩;simp only[kY];rw[Dk];exact bZ _
 cases dN with
 |nil =>
  simp only[rb] at h
  split at h
  ·rename_i H;obtain⟨Gb,wH,ya⟩:=H
   cases h
   cases fc with
   | @nil cT =>
    rcases k4 n with iU|iU
    ·subst iU;have Ge:vals=[]:=tC (by simpa using lz);have TK:new=[]:=tC (by simpa using o5);subst Ge;subst TK
     refine⟨_,_,_,TJ (P:=P) (ty:=ty) bF X (bZ _) (aI w rfl) w (λb _=>by simp[storeCells]) (λ_=>rfl),eE.x6 b2 k,?_⟩;exact .ref (hf _ _ _) (bZ _) ⟨_,0,rfl,bZ _,fv _,.inl rfl⟩
    ·have:=grow cT 0 0 (bV mem k) k [] [] (by omega) (λaR hw=>by
      have:=Od (P:=P) (w:=w) (sz:=D z) (n:=0) (c:=0) (a:=cT) (vals:=[]) (by simp) (λh=>by omega) aR hw;exact this) dp.nil (by simp) (by omega) (by simpa using Gb) rfl
     simpa [ik] using this
  ·cases h
 |ref k' g eu off len =>
  simp only[rb] at h
  split at h
  ·rename_i H;obtain⟨rfl,rfl⟩:=H;unfold mx at h
   split at h
   ·rename_i c6 cs O
    split at h
    ·rename_i H;obtain⟨rfl,hlen,Gb,wH,ya⟩:=H
     cases h;obtain⟨Dm,pJ,cj,Dg,ah⟩:=b2.at_ O;have vo:c6+1=bV mem k':=by simp[bV,O]
     cases fc with
     |ref he a7 ab =>
      rw[pJ] at he
      cases he;obtain⟨cT,cap,rfl,F,I,af⟩:=ab
      have hold:∃pI,dp w (cg A B) B (cs.take (len*D z)) pI/\D pI=len*D z/\(0<len->∃b off,cT=some ⟨b,off,none⟩/\eF w b off pI):=by
       rcases af with af|⟨b,rfl,aO⟩
       ·have:len=0:=by omega
        subst this;exact⟨[],by simpa using dp.nil,by simp,λh=>by omega⟩
       ·obtain⟨bm,bK⟩:=aO cj.symm;obtain⟨vs,T,aU,Dn,hle,zx⟩:=ah b bm;refine⟨(vs.toList.take (D cs)).take (len*D z),zx.take _,by have:=(zx.take (len*D z)).1;rw[this];simp;omega,λ_=>⟨b,0,rfl,((eF.row aU).take _).take _⟩⟩
      obtain⟨pI,adN,apt,adO⟩:=hold
      by_cases x9:len+n<=cap
      ·rcases af with af|⟨b,rfl,aO⟩
       ·-- no room, and nothing comes
        have np:len=0:=by omega
        have iU:n=0:=by omega
        subst np;subst iU;subst af
        have Ge:vals=[]:=tC (by simpa using lz);have TK:new=[]:=tC (by simpa using o5);subst Ge;subst TK
        refine⟨_,_,gB B k' ⟨bV mem k',none,0⟩,TJ (P:=P) (ty:=ty) bF X (bZ _) (aI w rfl) w (λb _=>by simp[storeCells]) (λ_=>rfl),?_,?_⟩
        ·have:=eE.x6 b2 k'
         simpa [ik,vo] using this
        ·rw[vo];exact .ref (hf _ _ _) (bZ _) ⟨_,0,rfl,bZ _,fv _,.inl rfl⟩
       ·obtain⟨bm,bK⟩:=aO cj.symm;obtain⟨vs,T,aU,Dn,hle,zx⟩:=ah b bm;have hmul:(len+n)*D z<=cap*D z:=vl _ x9;have adP:(len+n)*D z=len*D z+n*D z:=qg _ _ _;have dv:=run_storeCells_at P b (len*D z) T vals 0 vs w aU (by omega) (b0.TI ya);simp only[nZ] at dv
        have Gd:pI=vs.toList.take (len*D z):=by
         apply pH;intro j;rcases il j (len*D z) with ai|ai
         ·have h3:0<len:=by
           rcases k4 len with h|h
           ·subst h;simp at ai
           ·exact h
          obtain⟨fs,aHj,adQ,Oe⟩:=adO h3;simp only[cn,Addr.mk.injEq,and_true] at adQ;obtain⟨rfl,rfl⟩:=adQ;have vp:j<D pI:=by omega
          have o0:=Oe j _ (bx vp);rw[kY,cell_of_row w b j vs T (0,0) aU] at o0;rw[bx vp,vh,ad ai,<-o0,Array.getElem?_toList]
         ·rw[kF (by omega),vh,ag (by omega)]
        have adR:(vs.toList.take (len*D z)++vals++vs.toList.drop (len*D z+D vals)).toArray.size=Dm.size:=by
         simp;omega
        have f:Fr (λb=>∃e,B k'=some e/\e.dx=some b) w (w.setRow b (vs.toList.take (len*D z)++vals++vs.toList.drop (len*D z+D vals)).toArray):=by
         refine⟨rfl,rfl,rfl,by simp,λj ai bO=>?_⟩
         exact setRow_other w b j _ (λN9=>bO ⟨Dm,pJ,by rw[bm,N9]⟩)
        have Kg:(cs.take (len*D z)++new).length=len*D z+D vals:=by
         rw[fH,o5,lz,gf,oE hlen]
        have ok:=eE.change (k:=k') (e':=⟨c6+1,some b,Dm.size⟩) (cs:=cs.take (len*D z)++new) b2 f
         (λaD fq => .inr (by rw[pJ] at fq;cases fq;simp only;omega)) (λeK eJ => .inr ⟨Dm,pJ,by rw[bm];exact eJ⟩) (λaL=>by cases aL) (λeK eJ=>by
          cases eJ;refine⟨_,T,setRow_heap w b vs _ T (0,0) aU,adR,by rw[adR,Kg,lz];omega,λi m hm=>?_⟩
          have fi:=adN.append b0;obtain⟨v,aA,ab⟩:=fi.get hm;refine⟨v,?_,ab⟩;rw[Gd] at aA;have ay:i<(vs.toList.take (len*D z)++vals).length:=(dP.1 aA).1;simp only[adS];rw[rj ay];exact aA)
        refine⟨_,_,_,TJ (P:=P) (ty:=ty) (a:=c7) (c:=c2) (vals:=vals) bF X x9 (aI w rfl) _ (λfs kE=>by
         cases kE;rw[zt,kY];exact dv) (λh=>by cases h),ok,?_⟩
        exact .ref (hf _ _ _) (bZ _) ⟨_,cap,rfl,x9,I,.inr ⟨b,rfl,λ_=>⟨rfl,bK⟩⟩⟩
      ·have:=grow cT len cap (c6+1) k' (cs.take (len*D z)) pI (by omega) (λaR hw=>Od (P:=P) (w:=w) apt adO aR hw) adN (by rw[gf,oE hlen]) wH Gb vo;exact this
    ·cases h
   ·cases h
  ·cases h
 |_=>simp[rb] at h
theorem apu {t u ty e:TypeId}{sz n:Nat}{dN cO:R}{qp kI:Value}{new:List R}{r:R}{jR:Option (Key×Nat×List R)}(b2:fr A w B mem)(bF:P.underlying t=some (.slice e))(X:gl P e=some sz)
  (fc:bs w (cg A B) B dN qp) (ep:bs w (cg A B) B cO kI) (eR:qj mem sz cO=some (n,new)) (h:wC mem sz dN (some (n,new))=some (r,jR)) :
  ∃v aR,(Builtin.copy_ #[t,u] ty #[qp,kI]).run P w=.ok v aR/\eE A w B aR B (ik mem jR)/\bs aR (cg A B) B r v:=by
 obtain⟨c7,c2,vals,rfl,b0,lz,cp⟩:=adM b2 ep eR;have o5:(D new)=n*sz:=by rw[<-b0.1,lz]
 cases dN with
 |ref k g eu off len =>
  simp only[wC] at h
  split at h
  ·rename_i e8;subst e8;unfold A8 at h
   split at h
   ·rename_i c6 cs O
    split at h
    ·rename_i H;obtain⟨rfl,Ka,ya⟩:=H
     cases h;obtain⟨Dm,pJ,cj,Dg,ah⟩:=b2.at_ O;have Gf:Nat.min n len=min n len:=rfl;have hle:min n len<=n:=Nat.min_le_left _ _;have apv:min n len<=len:=Nat.min_le_right _ _;have my:min n len*eu<=n*eu:=vl _ hle;have aHk:min n len*eu<=len*eu:=vl _ apv;have nX:(vals.take (min n len*eu)).length=min n len*eu:=by rw[gf,lz,oE my]
     have Be:∀(a:Option Addr) (c:Nat),(0<n->∃b off,a=some ⟨b,off,none⟩/\eF w b off vals)->(Builtin.firstCells eu (min n len) (.slice a n c)).run P w=.ok (vals.take (min n len*eu)).toArray w:=by
      intro a c cp
      have:=Od (P:=P) (w:=w) (sz:=eu) (n:=min n len) (c:=c) (a:=a) (vals:=vals.take (min n len*eu)) nX (λh=>by
       obtain⟨b,off,F,I⟩:=cp (by omega);exact⟨b,off,F,I.take _⟩) w rfl
      cases a with
      |none=>simpa [Builtin.firstCells] using this
      |some a=>simpa [Builtin.firstCells] using this
     cases fc with
     |ref he a7 ab =>
      rw[pJ] at he
      cases he;obtain⟨cT,cap,rfl,F,I,af⟩:=ab;simp only[gl,eb] at X;obtain⟨i,M,Gg⟩:=X;rcases af with af|⟨b,rfl,aO⟩
      ·have np:len=0:=by omega
       subst np;have k6:min n 0=0:=Nat.min_zero _;have rl:kV cs off (new.take (min n 0*eu))=cs:=by simp[kV]
       have dv:∀a:Addr,(storeCells a ([]:List Value)).run P w=.ok () w:=λa=>by simp[storeCells]
       have Kh:=Be c7 c2 cp;simp only[k6,Nat.zero_mul,List.take_zero] at Kh
       have fw:gB B k Dm=B:=by
        funext j;unfold gB;split
        ·rename_i ai;rw[ai,pJ]
        ·rfl
       refine⟨.int .i64 0,w,?_,?_,by simpa using bs.ofInt⟩
       ·cases cT with
        |none=>simp[Builtin.copy_,run_underlying bF,Builtin.lenOf,sizeOf,typeInfo,M,Gg,Kh,goInt]
        |some a=>simp[Builtin.copy_,run_underlying bF,Builtin.lenOf,sizeOf,typeInfo,M,Gg,Kh,dv,goInt]
       ·have gm:a4 mem k c6 cs=mem:=by
         funext j;unfold a4;split
         ·rename_i ai;rw[ai,O]
         ·rfl
        simp only[ik,rl,gm];exact .refl b2
      ·obtain⟨bm,bK⟩:=aO cj.symm;obtain⟨vs,T,aU,Dn,Ki,zx⟩:=ah b bm;have dv:=run_storeCells_at P b off T (vals.take (min n len*eu)) 0 vs w aU (by omega) (λv aA=>b0.TI ya v (F7 aA));simp only[nZ] at dv;refine⟨.int .i64 ((min n len:Nat):Int),_,?_,TF b2 O pJ bm aU Dn Ki zx cj (by rw[gf,o5,oE my];omega) (b0.take (min n len*eu)),.ofInt⟩;have Kh:=Be c7 c2 cp;simp[Builtin.copy_,run_underlying bF,Builtin.lenOf,sizeOf,typeInfo,M,Gg,Gf,Kh,dv,goInt]
    ·cases h
   ·cases h
  ·cases h
 |_=>simp[wC] at h
theorem apw {z:Array Value}(ao:0<z.size)(n:Nat):(Builtin.zeroCells z n).toList=(dG n z.toList).flatten:=by
 unfold Builtin.zeroCells;exact N8 ao n
theorem apx {t ty e:TypeId}{z:List R}{dN:R}{qp:Value}{r:R}{jR:Option (Key×Nat×List R)}(b2:fr A w B mem)(bF:P.underlying t=some (.slice e))(aX:zeroOf P e=some z)(ao:0<D z)
  (fc:bs w (cg A B) B dN qp) (h:x0 mem z dN=some (r,jR)) :
  ∃v aR,(Builtin.clear_ #[t] ty #[qp]).run P w=.ok v aR/\eE A w B aR B (ik mem jR)/\bs aR (cg A B) B r v:=by
 have adT:∀aR:World,bs aR (cg A B) B (.cI []) (.tuple #[]):=λaR=>bs.cI (cs:=[]) (vs:=[]) rfl λi d v aa=>by simp at aa
 cases dN with
 |ref k g sz off len =>
  simp only[x0] at h
  split at h
  ·rename_i e8;subst e8;unfold NY at h
   split at h
   ·rename_i c6 cs O
    split at h
    ·rename_i H;obtain⟨rfl,Ka,ya⟩:=H
     cases h;obtain⟨i,iT,M,tA,b0⟩:=Dj (P:=P) (w:=w) (B:=B) (aZ:=cg A B) aX;have Gc:iT.cells.size=D z:=by have:=b0.1;simp at this;omega
     obtain⟨Dm,pJ,cj,Dg,ah⟩:=b2.at_ O
     cases fc with
     |ref he a7 ab =>
      rw[pJ] at he
      cases he;obtain⟨cT,cap,rfl,F,I,af⟩:=ab;rcases k4 len with np|np
      ·subst np;have rl:kV cs off (dG 0 z).flatten=cs:=by simp[kV]
       have gm:a4 mem k c6 cs=mem:=by
        funext j;unfold a4;split
        ·rename_i ai;rw[ai,O]
        ·rfl
       refine⟨.tuple #[],w,?_,?_,adT _⟩
       ·cases cT<;>simp[Builtin.clear_,run_underlying bF]
       ·simp only[ik,rl,gm];exact .refl b2
      ·rcases af with af|⟨b,rfl,aO⟩
       ·omega
       ·obtain⟨bm,bK⟩:=aO cj.symm;obtain⟨vs,T,aU,Dn,Ki,zx⟩:=ah b bm;have Bd:=b0.replicate len;have wI:=apw (z:=iT.cells) (by omega) len;have o5:(dG len z).flatten.length=len*D z:=by simp
        have lz:(dG len iT.cells.toList).flatten.length=len*D z:=by simp[Gc]
        have apy:(dG len z).flatten.all R.one=true:=by
         rw[kG] at ya ⊢;intro x Q;obtain⟨y,av,jk⟩:=List.mem_flatten.1 Q;exact ya x (by rw[<-(List.mem_replicate.1 av).2];exact jk)
        have dv:=run_storeCells_at P b off T (dG len iT.cells.toList).flatten 0 vs w aU (by omega) (Bd.TI apy);simp only[nZ] at dv;refine⟨.tuple #[],_,?_,TF b2 O pJ bm aU Dn Ki zx cj (by omega) Bd,adT _⟩;obtain⟨TC,rfl⟩:∃l,len=l+1:=⟨len-1,by omega⟩
        simp[Builtin.clear_,run_underlying bF,Kc M tA,wI,dv]
    ·cases h
   ·cases h
  ·cases h
 |_=>simp[x0] at h
end
end Go.Mini
namespace Go.Mini
open Go
variable {P:Program} {A:Nat->Prop} {w:World} {B:e9} {mem:Mem}
theorem apz {t e:TypeId}{sz l h len:Nat}{m r:R}{v:Value}{k2 k3:Option Value}{cH M:Option R}(b2:fr A w B mem)(bF:P.underlying t=some (.array len e))(X:gl P e=some sz)(aHl:len<=16777216)
  (hh:jN 0 cH=some l) (jj:jN len M=some h) (mY:rk w (cg A B) B cH k2) (lU:rk w (cg A B) B M k3) (hm:bs w (cg A B) B m v) (ab:A7 mem len sz l h m=some r) :
  ∃z,(Instr.sliceAt t v k2 k3 none).run P w=.ok z w/\bs w (cg A B) B r z:=by
 unfold A7 at ab
 split at ab
 ·rename_i k g off;unfold Tn at ab
  split at ab
  ·rename_i c6 cs O
   split at ab
   ·rename_i H;obtain⟨rfl,F,I,af⟩:=H
    cases ab
    cases hm with
    |ptr he a7 aA =>
     obtain⟨b,rfl,ah⟩:=aA;obtain⟨e',gz,cj,aL,fk⟩:=b2.at_ O;rw[gz] at he
     cases he;have iS:=ah cj.symm;obtain⟨vs,T,aU,aX,hle,_⟩:=fk b iS;refine⟨.slice (some (if len=l then ⟨b,off,none⟩ else ⟨b,off+l*sz,none⟩)) (h-l) (len-l),?_,.ref gz a7 ⟨_,len-l,rfl,by omega,by unfold maxLen;omega,?_⟩⟩
     ·simp[Instr.sliceAt,run_underlying bF,Instr.sureAddr,Tz (P:=P) (w:=w) false hh jj mY lU F I,vi X]
      split<;>simp[zt]
     ·rcases N6 (eQ F I) with ar|ar
      ·exact .inl (by omega)
      ·refine .inr ⟨b,by rw[ag (by omega)],λ_=>⟨iS,?_⟩⟩
       have:off+l*sz+(len-l)*sz=off+len*sz:=by
        rw[qn,<-qg]
        congr 2
        omega
       omega
   ·cases ab
  ·cases ab
 ·cases ab
theorem apA {dM:List Field}(h:(dM.all λf=>(gl P f.type).isSome)=true):∃ps:List (Nat×Nat),(dM.mapM λf=>(do pure (f.offset,<-sizeOf f.type):Sem (Nat×Nat))).run P w=.ok ps w /\
  ∀i:Nat,ps[i]?=ve P dM.toArray i:=by
 induction dM with
 |nil=>exact⟨[],by simp,λi=>by simp[ve]⟩
 |cons f r az =>
  simp only[List.all_cons,e4] at h;obtain⟨ps,F,I⟩:=az h.2;obtain⟨s,X⟩:=adU.1 h.1;refine⟨(f.offset,s)::ps,?_,λi=>?_⟩
  ·simp only[lu,Sem.run_bind,vi X,Result.andThen_ok,Sem.run_pure];rw[F]
   rfl
  ·cases i with
   |zero=>simp[ve,X]
   |succ i =>
    have:=I i;simp only[ve,adS,List.getElem?_cons_succ] at this ⊢;exact this
theorem apB {p q:Nat->Option (Nat×Nat)}(h:∀i,p i=q i)(cs:Array Value)(l:List (Nat×Value)):Instr.fill p cs l=Instr.fill q cs l:=by
 rw[show p=q from funext h]
theorem apC {t:TypeId}{dM:Array Field}{z r:List R}{ps:List (Nat×Operand)}{eB:List (Nat×Nat×bS)}{ρ:Operand->Value}{tm:Nat->R}{aZ:Nat->Prop}(bF:P.underlying t=some (.struct dM))(aX:zeroOf P t=some z)
  (aP:(dM.toList.all λf=>(gl P f.type).isSome)=true) (aF:partsOf (ve P dM) ps=some eB) (hρ:∀x y,dL x=some y->bs w aZ B (a6 tm y) (ρ x))
  (h:kD (a6 tm) z eB=some r):∃v,(Instr.build t (ps.map λp=>(p.1,ρ p.2)).toArray).run P w=.ok v w/\bs w aZ B (.agg r) v:=by
 obtain⟨i,iT,M,tA,b0⟩:=Dj (P:=P) (w:=w) (B:=B) (aZ:=aZ) aX;obtain⟨pl,F,I⟩:=apA (w:=w) aP;obtain⟨oD,aI,ab⟩:=N7 (place:=ve P dM) hρ ps eB _ r _ aF b0 h;refine⟨.agg oD,?_,by rw[show oD=oD.toList.toArray from by simp];exact .agg ab.1 ab.2⟩
 ·have su:∀i,pl.toArray[i]?=ve P dM i:=λi=>by simpa using I i
  have hm:(dM.mapM λf=>(do pure (f.offset,<-sizeOf f.type):Sem (Nat×Nat))).run P w=.ok pl.toArray w:=by
   rw[Array.mapM_eq_mapM_toList];rw[map_eq_pure_bind];simp only[Sem.run_bind,F,Result.andThen_ok,Sem.run_pure]
  simp only[Instr.build,Sem.run_bind,Kc M tA,Result.andThen_ok,Sem.run_pure,run_underlying bF,hm,apB su,aI]
theorem apD {t e:TypeId}{n sz:Nat}{z r:List R}{ps:List (Nat×Operand)}{eB:List (Nat×Nat×bS)}{ρ:Operand->Value}{tm:Nat->R}{aZ:Nat->Prop}(bF:P.underlying t=some (.array n e))(aX:zeroOf P t=some z)
  (X:gl P e=some sz) (aF:partsOf (λi=>some (i*sz,sz)) ps=some eB) (hρ:∀x y,dL x=some y->bs w aZ B (a6 tm y) (ρ x))
  (h:kD (a6 tm) z eB=some r):∃v,(Instr.build t (ps.map λp=>(p.1,ρ p.2)).toArray).run P w=.ok v w/\bs w aZ B (.agg r) v:=by
 obtain⟨i,iT,M,tA,b0⟩:=Dj (P:=P) (w:=w) (B:=B) (aZ:=aZ) aX;obtain⟨oD,aI,ab⟩:=N7 (place:=λi=>some (i*sz,sz)) hρ ps eB _ r _ aF b0 h;refine⟨.agg oD,?_,by rw[show oD=oD.toList.toArray from by simp];exact .agg ab.1 ab.2⟩
 simp only[Instr.build,Sem.run_bind,Kc M tA,Result.andThen_ok,Sem.run_pure,run_underlying bF,vi X,aI]
end Go.Mini
namespace Go.Mini
open Go
variable {P:Program} {A:Nat->Prop} {w:World} {B:e9} {mem:Mem}
def apE (n:Next)(v:Value):Prop:=n=.value v\/(n=.skip/\v=undef)
def iq (A:Nat->Prop)(w:World)(B:e9)(run:Result Next)(mem':Mem)(r:R):Prop :=
 ∃n v aR bu,run=.ok n aR/\apE n v/\eE A w B aR bu mem'/\bs aR (cg A bu) bu r v
theorem iq.mz {s:Sem Value}{r:R}(b2:fr A w B mem)(h:∃v,s.run P w=.ok v w/\bs w (cg A B) B r v):iq A w B ((do pure (.value (<-s)):Sem Next).run P w) mem r:=by
 obtain⟨v,F,I⟩:=h;exact⟨.value v,v,w,B,by simp[F],.inl rfl,.refl b2,I⟩
theorem iq.of {s:Sem Value}{mem':Mem}{r:R}(h:∃v aR bu,s.run P w=.ok v aR/\eE A w B aR bu mem'/\bs aR (cg A bu) bu r v):iq A w B ((do pure (.value (<-s)):Sem Next).run P w) mem' r:=by
 obtain⟨v,aR,bu,F,I,af⟩:=h;exact⟨.value v,v,aR,bu,by simp[F],.inl rfl,I,af⟩
theorem adV {x:Option R}{r:R}{jR:Option (Key×Nat×List R)}(h:jh x=some (r,jR)):x=some r/\jR=none:=by
 unfold jh at h
 split at h<;>cases h
 exact⟨rfl,rfl⟩
theorem qq {x:Option Nat}{f:Nat->Option R}{r:R}(h:h2 x f=some r):∃n,x=some n/\f n=some r:=by
 unfold h2 at h
 split at h
 ·exact⟨_,rfl,h⟩
 ·cases h
theorem adW {x y:Option Nat}{f:Nat->Nat->Out}{r:R×Option (Key×Nat×List R)}(h:JX x y f=some r):∃n m,x=some n/\y=some m/\f n m=some r:=by
 unfold JX at h
 split at h
 ·exact⟨_,_,rfl,rfl,h⟩
 ·cases h
theorem Dp {aZ:Nat->Prop}{ρ:Operand->Value}{tm:Nat->R}(hρ:∀x y,dL x=some y->bs w aZ B (a6 tm y) (ρ x)){x:Option Operand}{y:Option bS}(h:tt x=some y):rk w aZ B (y.map (a6 tm)) (x.map ρ):=by
 cases x with
 |none=>simp[tt] at h;subst h;simp[rk]
 |some x =>
  simp only[tt,eb] at h;obtain⟨y',av,rfl⟩:=h;simp only[lB,rk];exact hρ _ _ av
theorem adX {dM:Array Field}{f o s:Nat}(h:ve P dM f=some (o,s)):∃fd,dM[f]?=some fd/\fd.offset=o/\gl P fd.type=some s:=by
 simp only[ve,g9,hg,eo,cn,fb] at h;obtain⟨fd,F,adY,I,af,aO⟩:=h;exact⟨fd,F,af,aO ▸ I⟩
theorem yb {aZ:Nat->Prop}{ρ:Operand->Value}{tm:Nat->R}(hρ:∀x y,dL x=some y->bs w aZ B (a6 tm y) (ρ x)):∀{l:List Operand} {r:List bS},l.mapM dL=some r->dp w aZ B (r.map (a6 tm)) (l.map ρ)
 | [],r,h=>by simp at h;subst h;exact dp.nil
 |x::l,r,h=>by
  simp only[lu,g9,hg,eo,cn] at h;obtain⟨y,av,FV,ab,rfl⟩:=h;exact dp.cons (hρ _ _ av) (yb hρ ab)
theorem Bf {α β:Type}(a:Array α)(f:α->β):a.map f=(a.toList.map f).toArray:=by
 apply Array.ext';simp
theorem jl {tm:Nat->R}{m:kj}{r:R}{jR:Option (Key×Nat×List R)}{x:Option R}(h:cw mem tm m=some (r,jR))(e:cw mem tm m=jh x):x=some r/\jR=none:=adV (e.symm.trans h)
theorem apF {ρ:Operand->Value}{tm:Nat->R}{kb:Nat}{own:List Nat}{dst:Option Tmp}{type:TypeId}{c:Call}{m:kj}{r:R}{jR:Option (Key×Nat×List R)}(b2:fr A w B mem)
  (hρ:∀x y,dL x=some y->bs w (cg A B) B (a6 tm y) (ρ x)) (a1:x2 P kb own dst type c=some m) (h:cw mem tm m=some (r,jR)) :
  iq A w B ((do let d <-resolve ρ c type;invoke d.target d.args:Sem Next).run P w) (ik mem jR) r:=by
 obtain⟨callee,args,argTypes⟩:=c;have two:∀{α:Type} (a:Array α) (x y:α),a.toList=[x,y]->a=#[x,y]:=λa x y h=>Array.ext' (by simpa using h);have one:∀{α:Type} (a:Array α) (x:α),a.toList=[x]->a=#[x]:=λa x h=>Array.ext' (by simpa using h);unfold x2 at a1
 split at a1
 ·rename_i x t H aP bF;simp only at H aP bF;subst H;obtain rfl:=one _ _ aP;obtain rfl:=one _ _ bF
  split at a1
  ·rename_i e hu;simp only[eb] at a1;obtain⟨y,av,rfl⟩:=a1;obtain⟨aT,rfl⟩:=jl h rfl;obtain⟨n,aL,aT⟩:=qq aT
   cases aT;have:=ao0 (P:=P) (w:=w) t type e hu (hρ _ _ av) aL;exact⟨.value _,_,w,B,by simp[resolve,invoke,builtin,this],.inl rfl,.refl b2,.J .int⟩
  ·rename_i hu;simp only[eb] at a1;obtain⟨y,av,rfl⟩:=a1;obtain⟨aT,rfl⟩:=jl h rfl;obtain⟨n,aL,aT⟩:=qq aT
   cases aT;have:=ao1 (P:=P) (w:=w) t type hu (hρ _ _ av) aL;exact⟨.value _,_,w,B,by simp[resolve,invoke,builtin,this],.inl rfl,.refl b2,.J .int⟩
  ·cases a1
 ·rename_i s x t u H aP bF;simp only at H aP bF;subst H;obtain rfl:=two _ _ _ aP;obtain rfl:=two _ _ _ bF
  split at a1
  ·rename_i e aD hu adZ;simp only[g9,hg,eo] at a1;obtain⟨z,aX,b,ah,n,aL,d,aa,adY,iV,jm,vq,aU⟩:=a1
   split at aU
   ·rename_i ht;obtain⟨rfl,ao,rfl⟩:=ht
    cases aU;simp only[cw] at h
    cases eR:qj mem (D z) (a6 tm jm) with
    |none =>
     rw[eR] at h
     revert h
     cases a6 tm adY<;>simp[rb]
    |some p =>
     obtain⟨k,new⟩:=p;rw[eR] at h;obtain⟨v,aR,bu,F,I,af⟩:=apr (ty:=type) _ b2 hu aX aL ah ao (hρ _ _ iV) (hρ _ _ vq) eR h;exact⟨.value v,v,aR,bu,by simp[resolve,invoke,builtin,F],.inl rfl,I,af⟩
   ·cases aU
  ·cases a1
 ·rename_i aHm x t u H aP bF;simp only at H aP bF;subst H;obtain rfl:=two _ _ _ aP;obtain rfl:=two _ _ _ bF
  split at a1
  ·rename_i e aD hu adZ;simp only[g9,hg,eo] at a1;obtain⟨n,aL,aU⟩:=a1
   split at aU
   ·rename_i ao;simp only[eo,cn] at aU;obtain⟨yc,nn,jm,vq,rfl⟩:=aU;simp only[cw] at h
    cases eR:qj mem n (a6 tm jm) with
    |none =>
     rw[eR] at h
     revert h
     cases a6 tm yc<;>simp[wC]
    |some p =>
     obtain⟨k,new⟩:=p;rw[eR] at h;obtain⟨v,aR,F,I,af⟩:=apu (u:=u) (ty:=type) b2 hu aL (hρ _ _ nn) (hρ _ _ vq) eR h;exact⟨.value v,v,aR,B,by simp[resolve,invoke,builtin,F],.inl rfl,I,af⟩
   ·cases aU
  ·cases a1
 ·rename_i x t H aP bF;simp only at H aP bF;subst H;obtain rfl:=one _ _ aP;obtain rfl:=one _ _ bF
  split at a1
  ·rename_i e hu;simp only[g9,hg,eo] at a1;obtain⟨z,aX,n,aL,aU⟩:=a1
   split at aU
   ·rename_i ao;simp only[eo,cn] at aU;obtain⟨jm,vq,rfl⟩:=aU;simp only[cw] at h;obtain⟨v,aR,F,I,af⟩:=apx (ty:=type) b2 hu aX (by omega) (hρ _ _ vq) h;exact⟨.value v,v,aR,B,by simp[resolve,invoke,builtin,F],.inl rfl,I,af⟩
   ·cases aU
  ·cases a1
 ·rename_i x y H aP;simp only at H aP;subst H;obtain rfl:=two _ _ _ aP;simp only[g9,hg,eo,cn] at a1;obtain⟨jm,Q,y',av,rfl⟩:=a1;obtain⟨aT,rfl⟩:=jl h rfl;obtain⟨z,F,I⟩:=adz (P:=P) argTypes type (hρ _ _ Q) (hρ _ _ av) aT;simp only[if_true] at F;exact⟨.value z,z,w,B,by simp[resolve,invoke,builtin,F],.inl rfl,.refl b2,I⟩
 ·rename_i x y H aP;simp only at H aP;subst H;obtain rfl:=two _ _ _ aP;simp only[g9,hg,eo,cn] at a1;obtain⟨jm,Q,y',av,rfl⟩:=a1;obtain⟨aT,rfl⟩:=jl h rfl;obtain⟨z,F,I⟩:=adz (P:=P) argTypes type (hρ _ _ Q) (hρ _ _ av) aT;simp only[kX,if_false] at F;exact⟨.value z,z,w,B,by simp[resolve,invoke,builtin,F],.inl rfl,.refl b2,I⟩
 ·split at a1
  ·split at a1
   ·simp only[g9,hg,eo,cn] at a1;obtain⟨_,_,_,_,_,_,rfl⟩:=a1
    cases h
   ·cases a1
  ·split at a1
   ·(repeat' split at a1)<;>simp only[g9,hg,eo,cn] at a1
    all_goals
     obtain⟨_,_,rfl⟩:=a1
     cases h
   ·simp only[g9,hg,eo,cn] at a1;obtain⟨_,_,rfl⟩:=a1
    cases h
 ·simp only[g9,hg,eo,cn] at a1;obtain⟨_,_,_,_,rfl⟩:=a1
  cases h
 ·cases a1
theorem ad0 {ρ:Operand->Value}{tm:Nat->R}{kb:Nat}{own:List Nat}{o:Oper}{m:kj}{r:R}{jR:Option (Key×Nat×List R)}(b2:fr A w B mem)
  (hρ:∀x y,dL x=some y->bs w (cg A B) B (a6 tm y) (ρ x)) (a1:jP P kb own o.dst o.type o.op=some m) (h:cw mem tm m=some (r,jR)) :
  iq A w B ((execOp ρ o).run P w) (ik mem jR) r:=by
 obtain⟨dst,op,type,pos,after,guard⟩:=o;simp only at a1
 cases op<;>simp only[jP] at a1<;>simp only[execOp]
 case move x =>
  simp only[eb] at a1;obtain⟨y,av,rfl⟩:=a1;obtain⟨aT,rfl⟩:=jl (x:=some (a6 tm y)) h rfl
  cases aT;exact⟨_,_,w,B,rfl,.inl rfl,.refl b2,hρ _ _ av⟩
 case assign x =>
  simp only[eb] at a1;obtain⟨y,av,rfl⟩:=a1;obtain⟨aT,rfl⟩:=jl (x:=some (a6 tm y)) h rfl
  cases aT;exact⟨_,_,w,B,rfl,.inl rfl,.refl b2,hρ _ _ av⟩
 case pick c a b =>
  simp only[g9,hg,eo,cn] at a1;obtain⟨c',H,kH,aP,fs,ah,rfl⟩:=a1;obtain⟨aT,rfl⟩:=jl h rfl;have:=iq.mz b2 (aoO (P:=P) (hρ _ _ H) (hρ _ _ aP) (hρ _ _ ah) aT)
  simpa [ik] using this
 case alloc e =>
  simp only[g9,hg,eo,cn] at a1;obtain⟨d,aa,z,aX,rfl⟩:=a1;simp only[cw,cn,fb] at h;obtain⟨rfl,rfl⟩:=h;exact iq.of (apd _ b2 aX)
 case box e x =>
  simp only[g9,hg,eo,cn] at a1;obtain⟨d,aa,y,av,rfl⟩:=a1;simp only[cw] at h
  split at h
  ·rename_i O;simp only[cn,fb] at h;obtain⟨rfl,rfl⟩:=h;exact iq.of (ape _ b2 (hρ _ _ av) O)
  ·cases h
 case build t ps =>
  split at a1
  ·rename_i dM hu
   split at a1
   ·rename_i aP;simp only[g9,hg,eo,cn] at a1;obtain⟨z,aX,eB,Bc,rfl⟩:=a1;obtain⟨aT,rfl⟩:=jl h rfl;simp only[kW,eb] at aT;obtain⟨cs,kZ,rfl⟩:=aT;rw[Bf];exact iq.mz b2 (apC hu aX aP Bc hρ kZ)
   ·cases a1
  ·rename_i n e hu;simp only[g9,hg,eo,cn] at a1;obtain⟨s,X,z,aX,eB,Bc,rfl⟩:=a1;obtain⟨aT,rfl⟩:=jl h rfl;simp only[kW,eb] at aT;obtain⟨cs,kZ,rfl⟩:=aT;rw[Bf];exact iq.mz b2 (apD hu aX X Bc hρ kZ)
  ·cases a1
 case buildSlice t len ps =>
  split at a1
  ·rename_i e hu;simp only[g9,hg,eo] at a1;obtain⟨z,aX,s,X,eB,Bc,d,aa,aU⟩:=a1
   split at aU
   ·rename_i H;obtain⟨wI,ao,ar⟩:=H;simp only[cn] at aU;subst aU;rw[Bf]
    cases lW:own.contains d with
    |true =>
     rw[lW] at h;exact iq.of (apl _ b2 hu aX X wI ao ar Bc hρ h)
    |false =>
     rw[lW] at h;obtain⟨aT,rfl⟩:=jl h rfl;obtain⟨v,aR,F,I,af⟩:=apk b2 hu aX X wI ao ar Bc hρ aT;exact iq.of ⟨v,aR,B,F,I,af⟩
   ·cases aU
  ·cases a1
 case load t x =>
  simp only[g9,hg,eo,cn] at a1;obtain⟨n,aL,g,a7,y,av,rfl⟩:=a1;obtain⟨aT,rfl⟩:=jl h rfl;exact iq.mz b2 (aoN aL a7 b2 (hρ _ _ av) aT)
 case store t x v =>
  simp only[g9,hg,eo,cn] at a1;obtain⟨n,aL,jm,Q,Df,aA,rfl⟩:=a1;obtain⟨aR,F,I,rfl⟩:=apg b2 aL (hρ _ _ Q) (hρ _ _ aA) h;exact⟨.skip,undef,aR,B,by simp[F],.inr ⟨rfl,rfl⟩,I,.no⟩
 case nilCheck x =>
  simp only[eb] at a1;obtain⟨y,av,rfl⟩:=a1;obtain⟨aT,rfl⟩:=jl h rfl;obtain⟨⟨b,off,Q⟩,ab⟩:=ao2 (hρ _ _ av) aT;rw[Q] at ab ⊢;exact⟨_,_,w,B,rfl,.inl rfl,.refl b2,ab⟩
 case binOp bop t x y pos2 =>
  unfold zn at a1
  split at a1
  ·split at a1
   ·rename_i jm y' Q av
    cases a1;obtain⟨aT,rfl⟩:=jl h rfl;exact iq.mz b2 (adp t x y (hρ _ _ Q) (hρ _ _ av) aT)
   ·cases a1
  ·split at a1
   ·rename_i jm y' Q av
    cases a1;obtain⟨aT,rfl⟩:=jl h rfl;exact iq.mz b2 (adp t x y (hρ _ _ Q) (hρ _ _ av) aT)
   ·cases a1
  ·rename_i hu
   split at a1
   ·rename_i jm y' Q av
    cases a1;obtain⟨aT,rfl⟩:=jl h rfl;exact iq.mz b2 (adq (neg:=false) t x y hu (hρ _ _ Q) (hρ _ _ av) aT)
   ·rename_i jm y' Q av
    cases a1;obtain⟨aT,rfl⟩:=jl h rfl;exact iq.mz b2 (adq (neg:=true) t x y hu (hρ _ _ Q) (hρ _ _ av) aT)
   ·cases a1
  ·rename_i dM hu
   split at a1
   ·unfold wF at a1
    split at a1
    ·rename_i H
     split at a1
     ·rename_i gT jm y' O Q av
      cases a1;obtain⟨aT,rfl⟩:=jl h rfl;exact iq.mz b2 (adw (neg:=false) t x y dM hu H.1 H.2 O (hρ _ _ Q) (hρ _ _ av) aT)
     ·cases a1
    ·cases a1
   ·unfold wF at a1
    split at a1
    ·rename_i H
     split at a1
     ·rename_i gT jm y' O Q av
      cases a1;obtain⟨aT,rfl⟩:=jl h rfl;exact iq.mz b2 (adw (neg:=true) t x y dM hu H.1 H.2 O (hρ _ _ Q) (hρ _ _ av) aT)
     ·cases a1
    ·cases a1
   ·cases a1
  ·split at a1
   ·split at a1
    ·simp only[eb] at a1;obtain⟨_,_,rfl⟩:=a1
     cases h
    ·simp only[eb] at a1;obtain⟨_,_,rfl⟩:=a1
     cases h
    ·cases a1
   ·cases a1
  ·cases a1
 case unOp uop t x =>
  simp only[eb] at a1;obtain⟨y,av,rfl⟩:=a1;obtain⟨aT,rfl⟩:=jl h rfl;exact iq.mz b2 (aoP (hρ _ _ av) aT)
 case convert s t x =>
  split at a1
  ·rename_i gT k X bF;simp only[eb] at a1;obtain⟨y,av,rfl⟩:=a1;obtain⟨aT,rfl⟩:=jl h rfl;exact iq.mz b2 (aoQ s t gT X bF (hρ _ _ av) aT)
  ·cases a1
 case makeFunc fn first eP =>
  cases fn<;>simp only[reduceCtorEq] at a1
  split at a1
  ·rename_i e8;simp only[g9,hg,eo,cn] at a1;obtain⟨cs,kZ,rfl⟩:=a1;obtain⟨aT,rfl⟩:=jl (x:=some (.fu _ (cs.map (a6 tm)))) h rfl
   cases aT;have apG:first=#[]:=Array.eq_empty_of_size_eq_zero e8
   subst apG;have ar:=yb hρ kZ;exact iq.mz b2 ⟨_,by rw[Bf eP,Array.map_empty];rfl,.fu ar.1 ar.2⟩
  ·cases a1
 case makeSlice t l c =>
  split at a1
  ·rename_i e he;simp only[g9,hg,eo] at a1;obtain⟨z,aX,s,X,b,ah,d,aa,aU⟩:=a1
   split at aU
   ·rename_i H;simp only[eo,cn] at aU;obtain⟨fP,ar,c',lX,rfl⟩:=aU;simp only[cw] at h;obtain⟨hF,ir,F,I,af⟩:=adW h;obtain⟨rfl,ao⟩:=H;exact iq.of (apf _ b2 he aX X ah F I (hρ _ _ ar) (hρ _ _ lX) ao af)
   ·cases aU
  ·cases a1
 case slice t x cH M kl =>
  split at a1
  ·rename_i e hu;simp only[g9,hg,eo] at a1;obtain⟨s,X,aU⟩:=a1
   split at aU
   ·simp only[eo,cn] at aU;obtain⟨y,av,ad1,hh,kn,jj,Kj,gV,rfl⟩:=aU;have mY:=Dp hρ hh;have lU:=Dp hρ jj;have F6:=Dp hρ gV
    cases Kj with
    |none =>
     cases kl with
     |some v=>simp[tt,eb] at gV
     |none =>
      obtain⟨aT,rfl⟩:=jl h rfl;obtain⟨l,ar,aT⟩:=qq aT;obtain⟨len,hlen,aT⟩:=qq aT;obtain⟨aU,Dq,aT⟩:=qq aT;exact iq.mz b2 (ao6 hu X ar hlen Dq mY lU (hρ _ _ av) aT)
    |some Kj =>
     cases kn with
     |none=>cases h
     |some kn =>
      cases M with
      |none=>simp[rk] at lU
      |some M =>
       cases kl with
       |none=>simp[rk] at F6
       |some kl =>
        obtain⟨aT,rfl⟩:=jl h rfl;obtain⟨l,ar,aT⟩:=qq aT;obtain⟨aU,Dq,aT⟩:=qq aT;obtain⟨m,hm,aT⟩:=qq aT;exact iq.mz b2 (ao8 hu X ar Dq hm mY lU F6 (hρ _ _ av) aT)
   ·cases aU
  ·rename_i n e hu;simp only[g9,hg,eo] at a1;obtain⟨s,X,aU⟩:=a1
   split at aU
   ·rename_i H;simp only[eo,cn] at aU;obtain⟨y,av,ad1,hh,kn,jj,Kj,gV,rfl⟩:=aU;have mY:=Dp hρ hh;have lU:=Dp hρ jj
    cases Kj with
    |none =>
     cases kl with
     |some v=>simp[tt,eb] at gV
     |none =>
      obtain⟨aT,rfl⟩:=jl h rfl;obtain⟨l,ar,aT⟩:=qq aT;obtain⟨aU,Dq,aT⟩:=qq aT;exact iq.mz b2 (apz b2 hu X H.2 ar Dq mY lU (hρ _ _ av) aT)
    |some Kj=>cases h
   ·cases aU
  ·rename_i hu
   split at a1
   ·rename_i gV;simp only[g9,hg,eo,cn] at a1;obtain⟨y,av,ad1,hh,kn,jj,rfl⟩:=a1;have mY:=Dp hρ hh;have lU:=Dp hρ jj
    cases kl with
    |some v=>cases gV
    |none =>
     obtain⟨aT,rfl⟩:=jl h rfl;obtain⟨l,ar,aT⟩:=qq aT;obtain⟨len,hlen,aT⟩:=qq aT;obtain⟨aU,Dq,aT⟩:=qq aT;exact iq.mz b2 (ao9 hu ar hlen Dq mY lU (hρ _ _ av) aT)
   ·cases a1
  ·cases a1
 case fieldAddr t x f =>
  split at a1
  ·rename_i dM hu;simp only[g9,hg,eo] at a1;obtain⟨⟨o,s⟩,aF,aU⟩:=a1
   split at aU
   ·rename_i ao;simp only[eo,cn] at aU;obtain⟨y,av,rfl⟩:=aU;obtain⟨fd,F,I,af⟩:=adX aF;obtain⟨aT,rfl⟩:=jl h rfl;exact iq.mz b2 (aoR t f dM fd s hu F af ao I (hρ _ _ av) aT)
   ·cases aU
  ·cases a1
 case field t x f =>
  split at a1
  ·rename_i dM hu;simp only[g9,hg,eo,cn] at a1;obtain⟨fd,TL,⟨o,s⟩,aF,g,a7,y,av,rfl⟩:=a1;obtain⟨aHn,F,I,af⟩:=adX aF;rw[TL] at F
   cases F;obtain⟨aT,rfl⟩:=jl h rfl;exact iq.mz b2 (aoU t f dM fd hu TL af a7 I (hρ _ _ av) aT)
  ·cases a1
 case indexAddr t x i =>
  split at a1
  ·rename_i e hu;simp only[g9,hg,eo] at a1;obtain⟨s,X,aU⟩:=a1
   split at aU
   ·simp only[eo,cn] at aU;obtain⟨y,av,j,ai,rfl⟩:=aU;obtain⟨aT,rfl⟩:=jl h rfl;obtain⟨n,aL,aT⟩:=qq aT;obtain⟨k,O⟩:=FY aL (hρ _ _ ai);rw[O];exact iq.mz b2 (aoW t e hu X (hρ _ _ av) aT)
   ·cases aU
  ·rename_i len e hu;simp only[g9,hg,eo] at a1;obtain⟨s,X,aU⟩:=a1
   split at aU
   ·simp only[eo,cn] at aU;obtain⟨y,av,j,ai,rfl⟩:=aU;obtain⟨aT,rfl⟩:=jl h rfl;obtain⟨n,aL,aT⟩:=qq aT;obtain⟨k,O⟩:=FY aL (hρ _ _ ai);rw[O];exact iq.mz b2 (aoX t e hu X (hρ _ _ av) aT)
   ·cases aU
  ·cases a1
 case index t x i =>
  split at a1
  ·rename_i hu;simp only[g9,hg,eo,cn] at a1;obtain⟨y,av,j,ai,rfl⟩:=a1;obtain⟨aT,rfl⟩:=jl h rfl;obtain⟨n,aL,aT⟩:=qq aT;obtain⟨k,O⟩:=FY aL (hρ _ _ ai);rw[O];exact iq.mz b2 (aoY t hu (hρ _ _ av) aT)
  ·cases a1
 case extract x i =>
  simp only[eb] at a1;obtain⟨y,av,rfl⟩:=a1;obtain⟨aT,rfl⟩:=jl h rfl;exact iq.mz b2 (aoZ (hρ _ _ av) aT)
 case call c =>
  exact apF b2 hρ a1 h
 all_goals cases a1
end Go.Mini
namespace Go.Mini
open Go
inductive gn where
 |code (c:ez)
 |inBlock (id:Nat)
def cJ (T:bd)(K:eW->bb->Prop):List gn->eW->bb->Prop
 | [],e,st=>K e st
 |.code c::k,.normal,st=>wp T c (cJ T K k) st
 |.code _::k,.exit id,st=>cJ T K k (.exit id) st
 |.code _::k,.ret,st=>cJ T K k .ret st
 |.inBlock _::k,.normal,st=>cJ T K k .normal st
 |.inBlock j::k,.exit id,st=>if id=j then cJ T K k .normal st else cJ T K k (.exit id) st
 |.inBlock _::k,.ret,st=>cJ T K k .ret st
section
variable {T:bd} {K:eW->bb->Prop} {k:List gn} {st:bb}
theorem apH (c:ez):(λe dR=>match e with
  |.normal=>wp T c (cJ T K k) dR
  |e=>cJ T K k e dR)=cJ T K (.code c::k):=by
 funext e dR
 cases e<;>rfl
theorem apI (id:Nat):(λe dR=>match e with
  |.exit j=>if j=id then cJ T K k .normal dR else cJ T K k (.exit j) dR
  |e=>cJ T K k e dR)=cJ T K (.inBlock id::k):=by
 funext e dR
 cases e<;>rfl
@[go_sem] theorem apJ (e:eW):cJ T K [] e st=K e st:=by cases e<;>rfl
@[go_sem] theorem aHo (c:ez):cJ T K (.code c::k) .normal st=wp T c (cJ T K k) st:=bw
@[go_sem] theorem aHp (c:ez)(id:Nat):cJ T K (.code c::k) (.exit id) st=cJ T K k (.exit id) st:=bw
@[go_sem] theorem aHq (c:ez):cJ T K (.code c::k) .ret st=cJ T K k .ret st:=bw
@[go_sem] theorem aHr (id:Nat):cJ T K (.inBlock id::k) .normal st=cJ T K k .normal st:=bw
@[go_sem] theorem aHs (id j:Nat):cJ T K (.inBlock j::k) (.exit id) st=if id=j then cJ T K k .normal st else cJ T K k (.exit id) st:=bw
@[go_sem] theorem aHt (id:Nat):cJ T K (.inBlock id::k) .ret st=cJ T K k .ret st:=bw
theorem qs {c:ez}(h:wp T c (cJ T K []) st):wp T c K st:=by
 have:cJ T K []=K:=by funext e st;cases e<;>rfl
 rwa [this] at h
@[go_sem] theorem wp_seq (a b:ez):wp T (.seq a b) (cJ T K k) st=wp T a (cJ T K (.code b::k)) st:=by
 rw[<-apH];rfl
@[go_sem] theorem wp_skip:wp T .skip (cJ T K k) st=cJ T K k .normal st:=bw
@[go_sem] theorem wp_ret:wp T .ret (cJ T K k) st=cJ T K k .ret st:=bw
@[go_sem] theorem wp_exit (id:Nat):wp T (.exit id) (cJ T K k) st=cJ T K k (.exit id) st:=bw
@[go_sem] theorem wp_block (id:Nat)(c:ez):wp T (.block id c) (cJ T K k) st=wp T c (cJ T K (.inBlock id::k)) st:=by
 rw[<-apI];rfl
def qt (T:bd)(K:eW->bb->Prop)(k:List gn)(m:R)(a b:ez)(st:bb):Prop :=
 match m with
 |.J (.bool t)=>if t=true then wp T a (cJ T K k) st else wp T b (cJ T K k) st
 |_=>False
@[go_sem] theorem wp_cond (c:bS)(a b:ez):wp T (.cond c a b) (cJ T K k) st=qt T K k (a6 st.tm c) a b st:=bw
@[go_sem] theorem apK (a b:ez):qt T K k (.J (.bool true)) a b st=wp T a (cJ T K k) st:=bw
@[go_sem] theorem apL (a b:ez):qt T K k (.J (.bool false)) a b st=wp T b (cJ T K k) st:=bw
def Gh (T:bd)(K:eW->bb->Prop)(k:List gn)(l:List c8)(st:bb):Prop:=x1 T (cJ T K k .normal) l st
@[go_sem] theorem wp_ops (l:List c8):wp T (.ops l) (cJ T K k) st=Gh T K k l st:=bw
@[go_sem] theorem aHu:Gh T K k [] st=cJ T K k .normal st:=bw
def rm (T:bd)(K:eW->bb->Prop)(k:List gn)(g:Option Bool)(i:c8)(r:List c8)(st:bb):Prop :=
 match g with
 |none=>False
 |some g=>if g=true then gA T (x1 T (cJ T K k .normal) r) i st else Gh T K k r ⟨put st.tm i.dst .no,st.mem⟩
@[go_sem] theorem aHv (i:c8)(r:List c8):Gh T K k (i::r) st=rm T K k (oZ st.tm i.g) i r st:=bw
@[go_sem] theorem aHw (i:c8)(r:List c8):rm T K k (some true) i r st=gA T (Gh T K k r) i st:=bw
@[go_sem] theorem aHx (i:c8)(r:List c8):rm T K k (some false) i r st=Gh T K k r ⟨put st.tm i.dst .no,st.mem⟩:=bw
def Bg (T:bd)(K:eW->bb->Prop)(k:List gn)(n:Nat)(l:List c8)(c:List (List Nat))(rec:Rec)(st:bb):Prop:=wE T (cJ T K k .normal) n l c rec st
@[go_sem] theorem aHy (l:List c8)(c:List (List Nat)):wp T (.mU l c) (cJ T K k) st=Bg T K k 0 l c (λ_=>none) st:=bw
@[go_sem] theorem aHz (n:Nat)(c:List (List Nat))(rec:Rec):Bg T K k n [] c rec st=cJ T K k .normal st:=bw
def rn (T:bd)(K:eW->bb->Prop)(k:List gn)(n:Nat)(g:Option Bool)(i:c8)(r:List c8)(c:List (List Nat))(rec:Rec)(st:bb):Prop :=
 match g with
 |none=>False
 |some g=>if g=true then (match hs T st.mem st.tm i.op with
    |some (m,e)=>FM rec (jO i.op,dH st.tm i.op) (c.headD [])=true/\Bg T K k (n+1) r c.tail (vd rec n (jO i.op,dH st.tm i.op)) ⟨put st.tm i.dst m,ik st.mem e⟩
    |none=>False) else Bg T K k (n+1) r c.tail rec ⟨put st.tm i.dst .no,st.mem⟩
@[go_sem] theorem aHA (n:Nat)(i:c8)(r:List c8)(c:List (List Nat))(rec:Rec):Bg T K k n (i::r) c rec st=rn T K k n (oZ st.tm i.g) i r c rec st:=bw
def ad2 (T:bd)(K:eW->bb->Prop)(k:List gn)(n:Nat)(x:Option (R×Option (Key×Nat×List R)))(i:c8)(r:List c8)(c:List (List Nat))(rec:Rec)(st:bb):Prop :=
 match x with
 |some (m,e)=>FM rec (jO i.op,dH st.tm i.op) (c.headD [])=true/\Bg T K k (n+1) r c.tail (vd rec n (jO i.op,dH st.tm i.op)) ⟨put st.tm i.dst m,ik st.mem e⟩
 |none=>False
@[go_sem] theorem aHB (n:Nat)(i:c8)(r:List c8)(c:List (List Nat))(rec:Rec):rn T K k n (some true) i r c rec st=ad2 T K k n (hs T st.mem st.tm i.op) i r c rec st:=bw
@[go_sem] theorem aHC (n:Nat)(i:c8)(r:List c8)(c:List (List Nat))(rec:Rec):rn T K k n (some false) i r c rec st=Bg T K k (n+1) r c.tail rec ⟨put st.tm i.dst .no,st.mem⟩:=bw
@[go_sem] theorem aHD (n:Nat)(m:R)(e:Option (Key×Nat×List R))(i:c8)(r:List c8)(c:List (List Nat))(rec:Rec):ad2 T K k n (some (m,e)) i r c rec st =
 (FM rec (jO i.op,dH st.tm i.op) (c.headD [])=true/\Bg T K k (n+1) r c.tail (vd rec n (jO i.op,dH st.tm i.op)) ⟨put st.tm i.dst m,ik st.mem e⟩):=bw
end
section
variable {T:bd} {K:bb->Prop} {st:bb} {tm:Nat->R} {mem:Mem}
def jz (K:bb->Prop)(x:Option (R×Option (Key×Nat×List R)))(d:Option Nat)(st:bb):Prop :=
 match x with
 |some (m,e)=>K ⟨put st.tm d m,ik st.mem e⟩
 |none=>False
@[go_sem] theorem aHE (m:R)(e:Option (Key×Nat×List R))(d:Option Nat):jz K (some (m,e)) d st=K ⟨put st.tm d m,ik st.mem e⟩:=bw
variable (d:Option Nat) (g:Option (Nat×Bool))
@[go_sem] theorem aHF (x:bS):gA T K ⟨d,g,.b6 x⟩ st=K ⟨put st.tm d (a6 st.tm x),st.mem⟩:=bw
@[go_sem] theorem aHG (c a b:bS):gA T K ⟨d,g,.pick c a b⟩ st=jz K (cw st.mem st.tm (.pick c a b)) d st:=bw
@[go_sem] theorem aHH (k:Key)(z:List R):gA T K ⟨d,g,.alloc k z⟩ st=K ⟨put st.tm d (.ptr k (bV st.mem k) 0),a4 st.mem k (bV st.mem k) z⟩:=bw
@[go_sem] theorem aHI (k:Key)(x:bS):gA T K ⟨d,g,.box k x⟩ st=jz K (cw st.mem st.tm (.box k x)) d st:=bw
@[go_sem] theorem aHJ (z:List R)(ps:List (Nat×Nat×bS)):gA T K ⟨d,g,.build z ps⟩ st=jz K (cw st.mem st.tm (.build z ps)) d st:=bw
@[go_sem] theorem aHK (k:Key)(o:Bool)(z:List R)(sz len:Nat)(ps:List (Nat×Nat×bS)):gA T K ⟨d,g,.fe k o z sz len ps⟩ st=jz K (cw st.mem st.tm (.fe k o z sz len ps)) d st:=bw
@[go_sem] theorem aHL (n:Nat)(dU:Bool)(x:bS):gA T K ⟨d,g,.load n dU x⟩ st=jz K (cw st.mem st.tm (.load n dU x)) d st:=bw
@[go_sem] theorem aHM (n:Nat)(x v:bS):gA T K ⟨d,g,.store n x v⟩ st=jz K (cw st.mem st.tm (.store n x v)) d st:=bw
@[go_sem] theorem aHN (op:BinOp)(x y:bS):gA T K ⟨d,g,.bin op x y⟩ st=jz K (cw st.mem st.tm (.bin op x y)) d st:=bw
@[go_sem] theorem aHO (b:Bool)(n:List Nat)(x y:bS):gA T K ⟨d,g,.eqs b n x y⟩ st=jz K (cw st.mem st.tm (.eqs b n x y)) d st:=bw
@[go_sem] theorem aHP (b:Bool)(x y:bS):gA T K ⟨d,g,.beq b x y⟩ st=jz K (cw st.mem st.tm (.beq b x y)) d st:=bw
@[go_sem] theorem aHQ (op:UnOp)(x:bS):gA T K ⟨d,g,.un op x⟩ st=jz K (cw st.mem st.tm (.un op x)) d st:=bw
@[go_sem] theorem aHR (k:IntKind)(x:bS):gA T K ⟨d,g,.conv k x⟩ st=jz K (cw st.mem st.tm (.conv k x)) d st:=bw
@[go_sem] theorem aHS (x:bS):gA T K ⟨d,g,.sg x⟩ st=jz K (cw st.mem st.tm (.sg x)) d st:=bw
@[go_sem] theorem aHT (k:Key)(z:List R)(b:Nat)(x y:bS):gA T K ⟨d,g,.mv k z b x y⟩ st=jz K (cw st.mem st.tm (.mv k z b x y)) d st:=bw
@[go_sem] theorem aHU (o:Nat)(x:bS):gA T K ⟨d,g,.ei o x⟩ st=jz K (cw st.mem st.tm (.ei o x)) d st:=bw
@[go_sem] theorem aHV (o n:Nat)(dU:Bool)(x:bS):gA T K ⟨d,g,.C7 o n dU x⟩ st=jz K (cw st.mem st.tm (.C7 o n dU x)) d st:=bw
@[go_sem] theorem aHW (s:Nat)(x i:bS):gA T K ⟨d,g,.jy s x i⟩ st=jz K (cw st.mem st.tm (.jy s x i)) d st:=bw
@[go_sem] theorem aHX (n s:Nat)(x i:bS):gA T K ⟨d,g,.oX n s x i⟩ st=jz K (cw st.mem st.tm (.oX n s x i)) d st:=bw
@[go_sem] theorem aHY (x i:bS):gA T K ⟨d,g,.idxs x i⟩ st=jz K (cw st.mem st.tm (.idxs x i)) d st:=bw
@[go_sem] theorem aHZ (s:Nat)(x:bS)(a b c:Option bS):gA T K ⟨d,g,.oz s x a b c⟩ st=jz K (cw st.mem st.tm (.oz s x a b c)) d st:=bw
@[go_sem] theorem aH0 (n s:Nat)(x:bS)(a b c:Option bS):gA T K ⟨d,g,.tq n s x a b c⟩ st=jz K (cw st.mem st.tm (.tq n s x a b c)) d st:=bw
@[go_sem] theorem aH1 (x:bS)(a b:Option bS):gA T K ⟨d,g,.C8 x a b⟩ st=jz K (cw st.mem st.tm (.C8 x a b)) d st:=bw
@[go_sem] theorem aH2 (i:Nat)(x:bS):gA T K ⟨d,g,.ext i x⟩ st=jz K (cw st.mem st.tm (.ext i x)) d st:=bw
@[go_sem] theorem aH3 (x:bS):gA T K ⟨d,g,.len x⟩ st=jz K (cw st.mem st.tm (.len x)) d st:=bw
@[go_sem] theorem aH4 (x:bS):gA T K ⟨d,g,.lens x⟩ st=jz K (cw st.mem st.tm (.lens x)) d st:=bw
@[go_sem] theorem aH5 (k:Key)(z:List R)(b:Nat)(s x:bS):gA T K ⟨d,g,.app k z b s x⟩ st=jz K (cw st.mem st.tm (.app k z b s x)) d st:=bw
@[go_sem] theorem aH6 (z:List R)(x:bS):gA T K ⟨d,g,.sk z x⟩ st=jz K (cw st.mem st.tm (.sk z x)) d st:=bw
@[go_sem] theorem aH7 (s:Nat)(x y:bS):gA T K ⟨d,g,.si s x y⟩ st=jz K (cw st.mem st.tm (.si s x y)) d st:=bw
@[go_sem] theorem aH8 (b:Bool)(x y:bS):gA T K ⟨d,g,.iH b x y⟩ st=jz K (cw st.mem st.tm (.iH b x y)) d st:=bw
@[go_sem] theorem aH9 (f:FuncId)(l:List bS):gA T K ⟨d,g,.oY f l⟩ st=jz K (cw st.mem st.tm (.oY f l)) d st:=bw
def wK (K:bb->Prop)(x:Option gZ)(d:Option Nat)(st:bb):Prop :=
 match x with
 |some (.same r)=>K ⟨put st.tm d (.J r),st.mem⟩
 |some (.own _ es)=>K ⟨put st.tm d (.J (.Y es)),st.mem⟩
 |some (.rel bU)=>∀r mem',bU r mem'->K ⟨put st.tm d r,mem'⟩
 |some (.fa r k g i c)=>K ⟨put st.tm d (.J r),a4 st.mem k g ((re st.mem k).set i c)⟩
 |some (.zl r k)=>K ⟨put st.tm d (.J r),a4 st.mem k (bV st.mem k) []⟩
 |none=>False
@[go_sem] theorem aIa (f:FuncId)(l:List bS):gA T K ⟨d,g,.call f l⟩ st=wK K (T f (l.map (a6 st.tm)) st.mem) d st:=bw
@[go_sem] theorem aIb (r:Data)(k:Key)(g i:Nat)(c:R):wK K (some (.fa r k g i c)) d st=K ⟨put st.tm d (.J r),a4 st.mem k g ((re st.mem k).set i c)⟩:=bw
@[go_sem] theorem aIc (r:Data)(k:Key):wK K (some (.zl r k)) d st=K ⟨put st.tm d (.J r),a4 st.mem k (bV st.mem k) []⟩:=bw
@[go_sem] theorem aId (r:Data):wK K (some (.same r)) d st=K ⟨put st.tm d (.J r),st.mem⟩:=bw
@[go_sem] theorem aIe (s:Nat)(es:List (List Data)):wK K (some (.own s es)) d st=K ⟨put st.tm d (.J (.Y es)),st.mem⟩:=bw
@[go_sem] theorem apM (bU:R->Mem->Prop):wK K (some (.rel bU)) d st=∀r mem',bU r mem'->K ⟨put st.tm d r,mem'⟩:=bw
def TM (T:bd)(K:bb->Prop)(m:R)(args:List R)(d:Option Nat)(st:bb):Prop :=
 match m with
 |.fu g eP=>wK K (T g (args++eP) st.mem) d st
 |.J (.fn g ds)=>wK K (T g (args++ds.map .J) st.mem) d st
 |_=>False
@[go_sem] theorem aIf (f:bS)(l:List bS):gA T K ⟨d,g,.jM f l⟩ st=TM T K (a6 st.tm f) (l.map (a6 st.tm)) d st:=bw
@[go_sem] theorem aIg (f:FuncId)(eP args:List R):TM T K (.fu f eP) args d st=wK K (T f (args++eP) st.mem) d st:=bw
@[go_sem] theorem aIh (f:FuncId)(ds:List Data)(args:List R):TM T K (.J (.fn f ds)) args d st=wK K (T f (args++ds.map .J) st.mem) d st:=bw
def TN (K:bb->Prop)(x:Option gZ)(k:Key)(sz:Nat)(d:Option Nat)(st:bb):Prop :=
 match x with
 |some (.own eu es)=>if eu=sz then K ⟨put st.tm d (.ref k (bV st.mem k) sz 0 (D es)),a4 st.mem k (bV st.mem k) (es.flatten.map .J)⟩ else False
 |_=>False
@[go_sem] theorem aIi (k:Key)(sz:Nat)(f:FuncId)(l:List bS):gA T K ⟨d,g,.nT k sz f l⟩ st=TN K (T f (l.map (a6 st.tm)) st.mem) k sz d st:=bw
@[go_sem] theorem aIj (k:Key)(sz:Nat)(es:List (List Data)):TN K (some (.own sz es)) k sz d st=K ⟨put st.tm d (.ref k (bV st.mem k) sz 0 (D es)),a4 st.mem k (bV st.mem k) (es.flatten.map .J)⟩:=by simp[TN]
def ad3 (K:bb->Prop)(neg:Bool)(x:Option Bool)(d:Option Nat)(st:bb):Prop :=
 match x with
 |some full=>∀b:Bool,(full=true->b=false)->K ⟨put st.tm d (.J (.bool (neg != b))),st.mem⟩
 |none=>False
@[go_sem] theorem aIk (neg:Bool)(x:bS):gA T K ⟨d,g,.q9 neg x⟩ st=ad3 K neg (C9 (a6 st.tm x)) d st:=bw
@[go_sem] theorem aIl (neg full:Bool):ad3 K neg (some full) d st=∀b:Bool,(full=true->b=false)->K ⟨put st.tm d (.J (.bool (neg != b))),st.mem⟩:=bw
end
section
variable {tm:Nat->R} {mem:Mem}
@[go_sem] theorem aIm (s:Nat):a6 tm (.t s)=tm s:=bw
@[go_sem] theorem aIn (m:R):a6 tm (.c m)=m:=bw
@[go_sem] theorem aIo (s:Nat)(m:R):put tm (some s) m=fa tm s m:=bw
@[go_sem] theorem aIp (m:R):put tm none m=tm:=bw
@[go_sem] theorem aIq (s:Nat)(m:R)(t:Nat):fa tm s m t=if t=s then m else tm t:=bw
@[go_sem] theorem Bh (k:Key)(g:Nat)(cs:List R)(j:Key):a4 mem k g cs j=if j=k then some (g,cs) else mem j:=bw
@[go_sem] theorem aIr:ik mem none=mem:=bw
@[go_sem] theorem aIs (k:Key)(g:Nat)(cs:List R):ik mem (some (k,g,cs))=a4 mem k g cs:=bw
def gD:Option (Nat×List R)->Nat
 |none=>0
 |some (g,_)=>g+1
@[go_sem] theorem aIt (k:Key):bV mem k=gD (mem k):=by unfold bV gD;rfl
@[go_sem] theorem aIu:gD none=0:=bw
@[go_sem] theorem aIv (g:Nat)(cs:List R):gD (some (g,cs))=g+1:=bw
@[go_sem] theorem aIw (k:Key):emp k=none:=bw
@[go_sem] theorem aIx:oZ tm none=some true:=bw
def Of (m:R)(b:Bool):Option Bool :=
 match m with
 |.J (.bool t)=>some (t==b)
 |.no=>some false
 |_=>none
@[go_sem] theorem aIy (s:Nat)(b:Bool):oZ tm (some (s,b))=Of (tm s) b:=bw
@[go_sem] theorem aIz (b:Bool):Of .no b=some false:=bw
variable (op:kj)
@[go_sem] theorem aIA (m:R):jh (some m)=some (m,none):=bw
@[go_sem] theorem aIB (x:bS):cw mem tm (.b6 x)=some (a6 tm x,none):=bw
@[go_sem] theorem aIC (c a b:bS):cw mem tm (.pick c a b)=jh (FH (a6 tm c) (a6 tm a) (a6 tm b)):=bw
@[go_sem] theorem aID (a b:R):FH (.J (.bool true)) a b=some a:=bw
@[go_sem] theorem aIE (a b:R):FH (.J (.bool false)) a b=some b:=bw
@[go_sem] theorem aIF (k:Key)(z:List R):cw mem tm (.alloc k z)=some (.ptr k (bV mem k) 0,some (k,bV mem k,z)):=bw
@[go_sem] theorem aIG (k:Key)(x:bS):cw mem tm (.box k x)=if (a6 tm x).known=true then some (.ptr k (bV mem k) 0,some (k,bV mem k,(a6 tm x).cells)) else none:=bw
@[go_sem] theorem aIH (z:List R)(ps:List (Nat×Nat×bS)):cw mem tm (.build z ps)=jh ((kD (a6 tm) z ps).map .agg):=bw
@[go_sem] theorem aII (k:Key)(z:List R)(sz len:Nat)(ps:List (Nat×Nat×bS)):cw mem tm (.fe k false z sz len ps)=jh (JJ z sz len (kD (a6 tm) z ps)):=bw
@[go_sem] theorem aIJ (k:Key)(z:List R)(sz len:Nat)(ps:List (Nat×Nat×bS)):cw mem tm (.fe k true z sz len ps)=FI k (bV mem k) z sz len (kD (a6 tm) z ps):=bw
@[go_sem] theorem aIK (n:Nat)(dU:Bool)(x:bS):cw mem tm (.load n dU x)=jh (qi mem n dU (a6 tm x)):=bw
@[go_sem] theorem aIL (n:Nat)(x v:bS):cw mem tm (.store n x v)=xZ mem n (a6 tm x) (a6 tm v).cells:=bw
@[go_sem] theorem aIM (b:BinOp)(x y:bS):cw mem tm (.bin b x y)=jh (JG b (a6 tm x) (a6 tm y)):=bw
@[go_sem] theorem aIN (neg:Bool)(x y:bS):cw mem tm (.beq neg x y)=jh (JH neg (a6 tm x) (a6 tm y)):=bw
@[go_sem] theorem aIO (neg:Bool)(n:List Nat)(x y:bS):cw mem tm (.eqs neg n x y)=jh (JL neg n (a6 tm x) (a6 tm y)):=bw
@[go_sem] theorem aIP (u:UnOp)(x:bS):cw mem tm (.un u x)=jh (JI u (a6 tm x)):=bw
@[go_sem] theorem aIQ (k:IntKind)(x:bS):cw mem tm (.conv k x)=jh (JM k (a6 tm x)):=bw
@[go_sem] theorem aIR (x:bS):cw mem tm (.sg x)=jh (JN (a6 tm x)):=bw
@[go_sem] theorem aIS (k:Key)(z:List R)(b:Nat)(x y:bS):cw mem tm (.mv k z b x y)=JX (idx (a6 tm x)) (idx (a6 tm y)) (FJ k (bV mem k) z b):=bw
@[go_sem] theorem aIT (o:Nat)(x:bS):cw mem tm (.ei o x)=jh (JO o (a6 tm x)):=bw
@[go_sem] theorem aIU (o n:Nat)(dU:Bool)(x:bS):cw mem tm (.C7 o n dU x)=jh (JP o n dU (a6 tm x)):=bw
@[go_sem] theorem aIV (s:Nat)(x i:bS):cw mem tm (.jy s x i)=jh (h2 (idx (a6 tm i)) λn=>zk s n (a6 tm x)):=bw
@[go_sem] theorem aIW (n s:Nat)(x i:bS):cw mem tm (.oX n s x i)=jh (h2 (idx (a6 tm i)) λm=>JQ n s m (a6 tm x)):=bw
@[go_sem] theorem aIX (x i:bS):cw mem tm (.idxs x i)=jh (h2 (idx (a6 tm i)) λn=>JR n (a6 tm x)):=bw
@[go_sem] theorem aIY (s:Nat)(x:bS)(cH M:Option bS):cw mem tm (.oz s x cH M none)=jh (h2 (jN 0 (cH.map (a6 tm))) λl=>h2 (qh (a6 tm x)) λlen=>h2 (jN len (M.map (a6 tm))) λh=>JS s l h (a6 tm x)):=bw
@[go_sem] theorem aIZ (s:Nat)(x h m:bS)(cH:Option bS):cw mem tm (.oz s x cH (some h) (some m)) =
 jh (h2 (jN 0 (cH.map (a6 tm))) λl=>h2 (idx (a6 tm h)) λh=>h2 (idx (a6 tm m)) λm=>JT s l h m (a6 tm x)):=bw
@[go_sem] theorem aI0 (n s:Nat)(x:bS)(cH M:Option bS):cw mem tm (.tq n s x cH M none)=jh (h2 (jN 0 (cH.map (a6 tm))) λl=>h2 (jN n (M.map (a6 tm))) λh=>A7 mem n s l h (a6 tm x)):=bw
@[go_sem] theorem aI1 (x:bS)(cH M:Option bS):cw mem tm (.C8 x cH M)=jh (h2 (jN 0 (cH.map (a6 tm))) λl=>h2 (zj (a6 tm x)) λlen=>h2 (jN len (M.map (a6 tm))) λh=>JU l h (a6 tm x)):=bw
@[go_sem] theorem aI2 (i:Nat)(x:bS):cw mem tm (.ext i x)=jh (JV i (a6 tm x)):=bw
@[go_sem] theorem aI3 (x:bS):cw mem tm (.len x)=jh (h2 (qh (a6 tm x)) λn=>some (.J (.int .i64 n))):=bw
@[go_sem] theorem aI4 (x:bS):cw mem tm (.lens x)=jh (h2 (zj (a6 tm x)) λn=>some (.J (.int .i64 n))):=bw
@[go_sem] theorem aI5 (k:Key)(z:List R)(b:Nat)(s x:bS):cw mem tm (.app k z b s x)=rb mem k z b (a6 tm s) (qj mem (D z) (a6 tm x)):=bw
@[go_sem] theorem aI6 (z:List R)(x:bS):cw mem tm (.sk z x)=x0 mem z (a6 tm x):=bw
@[go_sem] theorem aI7 (s:Nat)(x y:bS):cw mem tm (.si s x y)=wC mem s (a6 tm x) (qj mem s (a6 tm y)):=bw
@[go_sem] theorem aI8 (b:Bool)(x y:bS):cw mem tm (.iH b x y)=jh (JW b (a6 tm x) (a6 tm y)):=bw
@[go_sem] theorem aI9 (f:FuncId)(l:List bS):cw mem tm (.oY f l)=some (.fu f (l.map (a6 tm)),none):=bw
@[go_sem] theorem aJa (n:Nat)(f:Nat->Option R):h2 (some n) f=f n:=bw
@[go_sem] theorem aJb (n m:Nat)(f:Nat->Nat->Out):JX (some n) (some m) f=f n m:=bw
def Og (n:Nat)(dU:Bool)(g off:Nat):Option (Nat×List R)->Option R
 |some (c6,cs)=>if c6=g then (cut cs off n).bind (ra dU) else none
 |none=>none
@[go_sem] theorem aJc (n:Nat)(dU:Bool)(k:Key)(g off:Nat):qi mem n dU (.ptr k g off)=Og n dU g off (mem k):=by unfold qi Og;rfl
@[go_sem] theorem aJd (n:Nat)(dU:Bool)(g off:Nat)(cs:List R):Og n dU g off (some (g,cs))=(cut cs off n).bind (ra dU):=by simp[Og]
@[go_sem] theorem aJe (n:Nat)(dU:Bool)(ds:List Data):qi mem n dU (.J (.ptr ds))=(cut (ds.map .J) 0 n).bind (ra dU):=bw
@[go_sem] theorem aJf (n:Nat)(k:Key)(g off:Nat)(v:List R):xZ mem n (.ptr k g off) v=JY n k g off v (mem k):=bw
@[go_sem] theorem aJg (cs:List R):ra true cs=some (.agg cs):=bw
@[go_sem] theorem aJh (m:R):ra false [m]=some m:=bw
@[go_sem] theorem aJi (cs:List R):(R.agg cs).cells=cs:=bw
@[go_sem] theorem aJj (cs:List Data):(R.J (.agg cs)).cells=cs.map .J:=bw
@[go_sem] theorem aJk (k:IntKind)(n:Int):(R.J (.int k n)).cells=[.J (.int k n)]:=bw
@[go_sem] theorem aJl (b:Bool):(R.J (.bool b)).cells=[.J (.bool b)]:=bw
@[go_sem] theorem aJm (l:List UInt8):(R.J (.str l)).cells=[.J (.str l)]:=bw
@[go_sem] theorem aJn (l:List (List Data)):(R.J (.Y l)).cells=[.J (.Y l)]:=bw
@[go_sem] theorem aJo (l:List Data):(R.J (.ptr l)).cells=[.J (.ptr l)]:=bw
@[go_sem] theorem aJp (f:FuncId)(l:List Data):(R.J (.fn f l)).cells=[.J (.fn f l)]:=bw
@[go_sem] theorem aJq:R.nil.cells=[.nil]:=bw
@[go_sem] theorem aJr (k:Key)(g s o l:Nat):(R.ref k g s o l).cells=[.ref k g s o l]:=bw
@[go_sem] theorem aJs (k:Key)(g o:Nat):(R.ptr k g o).cells=[.ptr k g o]:=bw
@[go_sem] theorem aJt (f:FuncId)(l:List R):(R.fu f l).cells=[.fu f l]:=bw
@[go_sem] theorem aJu (k:IntKind)(n:Nat):idx (.J (.int k (n:Int)))=some n:=by simp[idx]
@[go_sem] theorem aJv (k:IntKind):idx (.J (.int k 0))=some 0:=bw
@[go_sem low] theorem aJw (k:IntKind)(n:Int):idx (.J (.int k n))=if 0<=n then some n.toNat else none:=bw
end
attribute [go_sem] JK JH JG JI JM JN JO JP zk JQ JR JS JT A7 Tn JU JV JW jN qh zj JY wC A8 x0 NY FJ FI JJ JL A6 NX kD kV cut chunk
 FG NU NV NW C9 qk vb R.one R.known qj nj dH FK JZ rf re FL J1 Tp J2 Tq J0 To NZ wD keyOf jO FM rh vd hs km FN pF
end Go.Mini
namespace Go.Mini
open Go
variable {P:Program} {A:Nat->Prop} {w:World} {B:e9} {mem:Mem}
def Bi (w aR:World)(aZ:Nat->Prop)(sz:Nat)(es:List (List Data))(v:Value):Prop :=
 (∀e∈es,D e=sz)/\∃a cap,v=.slice a (D es) cap/\D es<=cap/\cap<=maxLen /\
  (cap=0\/∃b vs T,a=some ⟨b,0,none⟩/\w.heap.size<=b/\aR.heap[b]?=some (.cells vs T (0,0))/\cap*sz<=vs.size /\
   ∀(i:Nat) (d:Data),es.flatten[i]?=some d->∃u,vs[i]?=some u/\Den aR (λfs=>aZ fs\/fs=b) d u)
def TO (P:Program)(f:FuncId)(vs:List Value)(A:Nat->Prop)(w:World)(B:e9)(mem:Mem):gZ->Prop
 |.same r=>Calls P f vs.toArray w λe aR=>∃v,e=.returned v/\Fr (λ_=>False) w aR/\Den aR (cg A B) r v
 |.own sz es=>Calls P f vs.toArray w λe aR=>∃v,e=.returned v/\Fr (λ_=>False) w aR/\Bi w aR (cg A B) sz es v
 |.rel bU=>Calls P f vs.toArray w λe aR=>∃v r mem' bu,e=.returned v/\eE A w B aR bu mem'/\bs aR (cg A bu) bu r v/\bU r mem'
 |.zl r k=>Calls P f vs.toArray w λe aR=>∃v bu,e=.returned v/\eE A w B aR bu (a4 mem k (bV mem k) [])/\bs aR (cg A bu) bu (.J r) v
 |.fa r k g i c=>Calls P f vs.toArray w λe aR=>∃v bu,e=.returned v/\eE A w B aR bu (a4 mem k g ((re mem k).set i c))/\bs aR (cg A bu) bu (.J r) v
def Real (P : Program)(f : FuncId): Prop := ∃ fn c, P.funcs[f]? = some fn /\ fn.body = some c /\ (fn.name == "runtime.NumGoroutine") = false
def qu (P:Program)(T:bd):Prop:=∀f args mem o6,T f args mem=some o6->Real P f /\
 ∀A w B vs,fr A w B mem->dp w (cg A B) B args vs->TO P f vs A w B mem o6
theorem Oh {f:FuncId}(h:Real P f)(args:Array Value):(callFunc f args).run P w=.ok (.enter f args) w:=by
 obtain⟨fn,c,aI,ah,aL⟩:=h;have F : fn.name ≠ "runtime.NumGoroutine" := by simpa using aL
 simp[callFunc,aI,F,ah]
theorem Den.less {w:World}{aZ mr:Nat->Prop}(h:∀b,mr b->aZ b){d:Data}{v:Value}(aa:Den w aZ d v):Den w mr d v :=
 aa.q8 (bZ _) λb _ ah=>⟨rfl,λQ=>ah (h b Q)⟩
theorem Bi.den {w aR:World}{aZ:Nat->Prop}{sz:Nat}{es:List (List Data)}{v:Value}(ay:∀b,aZ b->b<w.heap.size)(h:Bi w aR aZ sz es v):Den aR aZ (.Y es) v:=by
 obtain⟨he,a,cap,rfl,F,I,af⟩:=h;rcases af with rfl|⟨b,vs,T,rfl,aO,bm,bK,bP⟩
 ·have:es=[]:=tC (by omega);subst this;exact .lS
 ·have Kk:b<aR.heap.size:=(Array.getElem?_eq_some_iff.1 bm).1;refine .Y (sz:=sz) (λi=>vs.getD i undef) F (by omega) Kk (λbO=>by have:=ay b bO;omega) he (λi M=>?_) λi d aa=>?_
  ·have ay:i<D es.flatten:=by rw[NP he];exact M
   obtain⟨u,hu,_⟩:=bP i _ (bx ay);rw[cell_of_row aR b _ vs T (0,0) bm,kY,Array.getD_eq_getD_getElem?,hu]
   rfl
  ·obtain⟨u,hu,aa⟩:=bP i d aa;rw[Array.getD_eq_getD_getElem?,hu];exact aa.less λb h => .inl h
theorem ad4 {aR:World}{sz:Nat}{es:List (List Data)}{v:Value}(k:Key)(b2:fr A w B mem)(f:Fr (λ_=>False) w aR)(h:Bi w aR (cg A B) sz es v):
  ∃bu,eE A w B aR bu (a4 mem k (bV mem k) (es.flatten.map .J))/\bs aR (cg A bu) bu (.ref k (bV mem k) sz 0 (D es)) v:=by
 obtain⟨he,a,cap,rfl,F,I,af⟩:=h;have still:=eE.still b2 f;rcases af with rfl|⟨b,vs,T,rfl,aO,bm,bK,bP⟩
 ·have:es=[]:=tC (by omega);subst this;exact⟨_,still.trans (eE.x6 still.dV k),.ref (hf _ _ _) (bZ _) ⟨_,0,rfl,F,I,.inl rfl⟩⟩
 ·have Kk:b<aR.heap.size:=(Array.getElem?_eq_some_iff.1 bm).1
  have fk:∀fs,(⟨bV mem k,some b,vs.size⟩:mu).dx=some fs->w.heap.size<=fs\/∃e,B k=some e/\e.dx=some fs:=λfs kE=>by
   cases kE;exact .inl aO
  have lA:=NP he;have hmul:(D es)*sz<=cap*sz:=vl _ F;have hold:∀fs,fs<w.heap.size->(∀e,B k=some e->e.dx≠some fs)->aR.heap[fs]?=w.heap[fs]?:=λfs kE _=>f.block fs kE id;have a7:∀e,B k=some e->(⟨bV mem k,some b,vs.size⟩:mu)=e\/e.g<(⟨bV mem k,some b,vs.size⟩:mu).g:=λe he => .inr (Db b2 k e he);refine⟨gB B k ⟨bV mem k,some b,vs.size⟩,⟨?_,Trans.change f.size hold a7 fk,⟨f.os,f.tape,f.output,f.size,λfs kE _=>f.block fs kE id⟩,Tt fk⟩,?_⟩
  ·refine b2.ado (e':=⟨bV mem k,some b,vs.size⟩) f.size hold a7 fk (λh=>by cases h) λfs kE=>?_
   cases kE;refine⟨vs,T,bm,rfl,by rw[al,lA];omega,λi m hm=>?_⟩
   rw[bl,eb] at hm;obtain⟨d,aa,rfl⟩:=hm;obtain⟨u,hu,tD⟩:=bP i d aa;refine⟨u,hu,.J (tD.less λfs kE=>?_)⟩;rcases kE with ⟨j,e,ai,Q⟩|aP
   ·by_cases ea:j=k
    ·subst ea;rw[hf] at ai
     cases ai
     cases Q;exact .inr rfl
    ·rw[g8 B _ ea] at ai;exact .inl (.inl ⟨j,e,ai,Q⟩)
   ·exact .inl (.inr aP)
  ·exact .ref (hf _ _ _) (bZ _) ⟨_,cap,rfl,F,I,.inr ⟨b,rfl,λ_=>⟨rfl,by simpa using bK⟩⟩⟩
end Go.Mini
namespace Go.Mini
open Go
variable {P:Program} {T:bd} {A:Nat->Prop} {en w:World} {hi B:e9} {mem:Mem} {n:Nat}
structure hG (n:Nat) (A:Nat->Prop) (en:World) (hi:e9) (a:Act) (st:bb) (w:World) (B:e9):Prop where
 ok:eE A en hi w B st.mem
 tm:∀s,bs w (cg A B) B (st.tm s) (a.eval (.tmp s))
 sz:a.tmps.size=n
 Kl:a.defers=[]
theorem hG.tE {a:Act}{st:bb}(h:hG n A en hi a st w B)(x:Operand)(y:bS)(Q:dL x=some y):bs w (cg A B) B (a6 st.tm y) (a.eval x):=by
 cases x<;>simp only[dL,cn,eb,reduceCtorEq] at Q
 ·subst Q;exact h.tm _
 ·obtain⟨m,hm,rfl⟩:=Q;exact aoz hm
 ·subst Q;exact .fu (vs:=[]) rfl λi d v F=>by simp at F
theorem apN {a:Act}{s:Nat}{v:Value}(h:s<a.tmps.size):(a.put (some s) v).eval (.tmp s)=v:=by
 simp[Act.eval,Act.put,h]
theorem hG.put {a:Act}{st:bb}{aR:World}{bu:e9}{mem':Mem}{dst:Option Nat}{r:R}{v:Value}(h:hG n A en hi a st w B)(X:eE A w B aR bu mem')(ab:bs aR (cg A bu) bu r v)
  (aa:dst.all (λd=>decide (d<n))=true):hG n A en hi (a.put dst v) ⟨Mini.put st.tm dst r,mem'⟩ aR bu:=by
 refine⟨h.ok.trans X,λs=>?_,?_,?_⟩
 ·cases dst with
  |none=>exact (h.tm s).q8 X.mV
  |some d =>
   simp only[Option.all_some,decide_eq_true_eq] at aa
   by_cases Km:s=d
   ·subst Km;rw[apN (by rw[h.sz];exact aa)];simp only[Mini.put,fa,if_true];exact ab
   ·rw[Act.eval_put (λyc F I=>by cases F;cases I;exact Km rfl)];simp only[Mini.put,fa,ag Km];exact (h.tm s).q8 X.mV
 ·cases dst<;>simp[Act.put,h.sz]
 ·cases dst<;>simp[Act.put,h.Kl]
theorem TP {a:Act}{st:bb}{ops:Array Oper}{o:Oper}{g:Option (Nat×Bool)}{b:Bool}(h:hG n A en hi a st w B)(a7:J7 ops o.guard=some g)(ah:oZ st.tm g=some b):
  Region.wanted o (yielded ops a.tmps)=b:=by
 unfold Region.wanted
 cases wG:o.guard with
 |none =>
  rw[wG] at a7;simp only[J7,cn] at a7;subst a7;simp only[oZ,cn] at ah;exact ah
 |some p =>
  obtain⟨j,c⟩:=p;rw[wG] at a7;simp only[J7] at a7
  split at a7
  ·rename_i s X;simp only[cn] at a7;subst a7;have aA:=h.tm s
   have av:yielded ops a.tmps j=match a.eval (.tmp s) with|.bool b=>some b|_=>none:=by
    unfold yielded;rw[X];simp only[Option.bind_some,Act.eval,Array.getD_eq_getD_getElem?]
    cases a.tmps[s]? with
    |none=>rfl
    |some v=>cases v<;>rfl
   simp only[oZ] at ah;simp only[av]
   split at ah
   ·rename_i t bF;rw[bF] at aA
    cases aA with
    |J aA =>
     generalize a.eval (.tmp s)=u at *
     cases aA;simp only[cn] at ah;subst ah
     cases t<;>cases c<;>simp
   ·rename_i bF;rw[bF] at aA;generalize a.eval (.tmp s)=u at *
    cases aA;simp only[cn] at ah;subst ah
    rfl
   ·cases ah
  ·cases a7
theorem ad5 {kb:Nat}{own:List Nat}{dst:Option Nat}{ty:TypeId}{op:Op}{f:FuncId}{args:List bS}(h:jP P kb own dst ty op=some (.call f args)):
  ∃c:Call,op=.call c/\c.callee=.value (.func f)/\c.args.toList.mapM dL=some args:=by
 cases op<;>simp only[jP,zn,wF] at h
 case call c =>
  refine⟨c,rfl,?_⟩;unfold x2 at h
  (repeat' split at h)<;>simp_all [eo,eb]
 all_goals ((repeat' split at h)<;>simp_all [eo,eb])
theorem apO {kb:Nat}{own:List Nat}{dst:Option Nat}{ty:TypeId}{op:Op}{f:FuncId}{cH:Nat}{args:List bS}(h:jP P kb own dst ty op=some (.mw cH f args)):
  ∃c:Call,op=.call c/\c.callee=.value (.func f)/\c.args.toList.mapM dL=some args:=by
 cases op<;>simp only[jP,zn,wF] at h
 case call c =>
  refine⟨c,rfl,?_⟩;unfold x2 at h
  (repeat' split at h)<;>simp_all [eo,eb]
  all_goals
   obtain⟨_,F,_,rfl,rfl⟩:=h;exact⟨rfl,F⟩
 all_goals ((repeat' split at h)<;>simp_all [eo,eb])
theorem apP {kb:Nat}{own:List Nat}{dst:Option Nat}{ty:TypeId}{op:Op}{f:FuncId}{cH:Nat}{args:List bS}(h:jP P kb own dst ty op=some (.tr cH f args)):
  ∃c:Call,op=.call c/\c.callee=.value (.func f)/\c.args.toList.mapM dL=some args:=by
 cases op<;>simp only[jP,zn,wF] at h
 case call c =>
  refine⟨c,rfl,?_⟩;unfold x2 at h
  (repeat' split at h)<;>simp_all [eo,eb]
  all_goals
   obtain⟨_,F,_,rfl,rfl⟩:=h;exact⟨rfl,F⟩
 all_goals ((repeat' split at h)<;>simp_all [eo,eb])
theorem apQ {kb:Nat}{own:List Nat}{dst:Option Nat}{ty:TypeId}{op:Op}{f:FuncId}{cH:Nat}{args:List bS}(h:jP P kb own dst ty op=some (.sj cH f args)):
  ∃c:Call,op=.call c/\c.callee=.value (.func f)/\c.args.toList.mapM dL=some args:=by
 cases op<;>simp only[jP,zn,wF] at h
 case call c =>
  refine⟨c,rfl,?_⟩;unfold x2 at h
  (repeat' split at h)<;>simp_all [eo,eb]
  all_goals
   obtain⟨_,F,_,rfl,rfl⟩:=h;exact⟨rfl,F⟩
 all_goals ((repeat' split at h)<;>simp_all [eo,eb])
theorem ad6 {kb:Nat}{own:List Nat}{dst:Option Nat}{ty:TypeId}{op:Op}{f:FuncId}{k:Key}{sz:Nat}{args:List bS}(h:jP P kb own dst ty op=some (.nT k sz f args)):
  ∃c:Call,op=.call c/\c.callee=.value (.func f)/\c.args.toList.mapM dL=some args:=by
 cases op<;>simp only[jP,zn,wF] at h
 case call c =>
  refine⟨c,rfl,?_⟩;unfold x2 at h
  (repeat' split at h)<;>simp_all [eo,eb]
  obtain⟨_,_,_,_,_,F,_,_,rfl,rfl⟩:=h;exact⟨rfl,F⟩
 all_goals ((repeat' split at h)<;>simp_all [eo,eb])
theorem apR {kb:Nat}{own:List Nat}{dst:Option Nat}{ty:TypeId}{op:Op}{f:bS}{args:List bS}(h:jP P kb own dst ty op=some (.jM f args)):
  ∃(c:Call) (x:Operand),op=.call c/\c.callee=.value x/\dL x=some f/\c.args.toList.mapM dL=some args:=by
 cases op<;>simp only[jP,zn,wF] at h
 case call c =>
  refine⟨c,?_⟩;unfold x2 at h
  (repeat' split at h)<;>simp_all [eo,eb]
 all_goals ((repeat' split at h)<;>simp_all [eo,eb])
theorem apS {kb:Nat}{own:List Nat}{dst:Option Nat}{ty:TypeId}{op:Op}{neg:Bool}{x:bS}(h:jP P kb own dst ty op=some (.q9 neg x)):
  ∃(t e:TypeId) (y y':Operand) (z:TypeId),op=.binOp (if neg then .neq else .eql) t y y' z/\Ts y'=true/\P.underlying t=some (.slice e)/\dL y=some x:=by
 cases op<;>simp only[jP,zn,wF] at h
 case call c =>
  unfold x2 at h
  (repeat' split at h)<;>simp_all [eo,eb]
 case binOp bop t y y' z =>
  (repeat' split at h)<;>simp_all [eo,eb]
  all_goals
   obtain⟨F,rfl⟩:=h;exact⟨_,_,_,_,⟨rfl,rfl,rfl⟩,by assumption,by assumption,F⟩
 all_goals ((repeat' split at h)<;>simp_all [eo,eb])
end Go.Mini
namespace Go.Mini
open Go
variable {P:Program} {T:bd} {A:Nat->Prop} {en w:World} {hi B:e9} {mem:Mem} {n:Nat}
theorem apT {t e:TypeId}{y y':Operand}{m:R}{u v:Value}{aZ:Nat->Prop}{full:Bool}(neg:Bool)(bF:P.underlying t=some (.slice e))(hm:bs w aZ B m u)(aI:C9 m=some full)(aA:v=.slice none 0 0):
  ∃b:Bool,(full=true->b=false)/\((do eqGuard (if neg then .neq else .eql) t y y' u v;binOp (if neg then .neq else .eql) t u v:Sem Value)).run P w=.ok (.bool (neg != b)) w:=by
 subst aA
 have shape:∃a len cap,u=.slice a len cap/\(full=true->a.isNone=false):=by
  cases m<;>simp only[C9,reduceCtorEq] at aI
  case J d =>
   cases d<;>simp only[C9,cn,reduceCtorEq] at aI
   cases hm with
   |J aa =>
    cases aa with
    |lS=>exact⟨_,_,_,rfl,λh=>by cases aI;cases h⟩
    |Y=>exact⟨_,_,_,rfl,λ_=>rfl⟩
  case nil =>
   cases hm with
   |nil=>exact⟨_,_,_,rfl,λh=>by cases aI;cases h⟩
  case ref k g sz off len =>
   cases hm with
   |ref he a7 ab =>
    obtain⟨a,cap,rfl,F,I,af⟩:=ab;refine⟨_,_,_,rfl,λh=>?_⟩;simp only[cn] at aI;subst aI;simp only[decide_eq_true_eq] at h;rcases af with af|⟨b,rfl,_⟩
    ·omega
    ·rfl
 obtain⟨a,len,cap,rfl,ah⟩:=shape;refine⟨a.isNone,ah,?_⟩
 have he:∀d,(Op.equalIn (d+1) t (.slice a len cap) (.slice none 0 0)).run P w=.ok a.isNone w:=λd=>by
  unfold Op.equalIn;simp only[Sem.run_bind,run_underlying bF,Result.andThen_ok]
  cases a<;>rfl
 have heq:(Op.equal t (.slice a len cap) (.slice none 0 0)).run P w=.ok a.isNone w:=he 9999;rw[N2 (by simp) (by simp)]
 cases neg
 ·simp only[kX,if_false,Sem.run_bind,Sem.run_pure,Result.andThen_ok];show (do pure (Value.bool (<-Op.equal t (.slice a len cap) (.slice none 0 0))):Sem Value).run P w=_
  simp[heq]
 ·simp only[if_true,Sem.run_bind,Sem.run_pure,Result.andThen_ok];show (do pure (Value.bool (!(<-Op.equal t (.slice a len cap) (.slice none 0 0)))):Sem Value).run P w=_
  simp[heq]
structure TQ (P:Program) (n kb:Nat) (own:List Nat) (ops:Array Oper) (o:Oper) (i:c8):Prop where
 dst:i.dst=o.dst
 guard:J7 ops o.guard=some i.g
 op:i.op=(jP P kb own o.dst o.type o.op).getD .bad
 lt:o.dst.all (λd=>decide (d<n))=true
theorem ad7 {kb:Nat}{own:List Nat}{ops:Array Oper}{o:Oper}{i:c8}(h:A9 P n kb own ops o=some i):TQ P n kb own ops o i:=by
 unfold A9 at h
 split at h
 ·rename_i g a7
  split at h
  ·rename_i ay
   cases h;exact⟨rfl,a7,rfl,ay⟩
  ·cases h
 ·cases h
theorem apU {K:bb->Prop}{i:c8}{st:bb}(h:gA T K i st):
  (∃m e,cw st.mem st.tm i.op=some (m,e)/\K ⟨put st.tm i.dst m,ik st.mem e⟩) \/
  (∃f args,i.op=.call f args/\vc T K st i.dst f (args.map (a6 st.tm))) \/
  (∃k sz f args es,i.op=.nT k sz f args/\T f (args.map (a6 st.tm)) st.mem=some (.own sz es)/\K ⟨put st.tm i.dst (.ref k (bV st.mem k) sz 0 (D es)),a4 st.mem k (bV st.mem k) (es.flatten.map .J)⟩) \/
  (∃f args,i.op=.jM f args/\((∃g eP,a6 st.tm f=.fu g eP/\vc T K st i.dst g (args.map (a6 st.tm)++eP))\/(∃g ds,a6 st.tm f=.J (.fn g ds)/\vc T K st i.dst g (args.map (a6 st.tm)++ds.map .J)))) \/
  (∃neg x full,i.op=.q9 neg x/\C9 (a6 st.tm x)=some full/\∀b:Bool,(full=true->b=false)->K ⟨put st.tm i.dst (.J (.bool (neg != b))),st.mem⟩):=by
 obtain⟨dst,g,op⟩:=i;unfold gA at h
 split at h
 ·rename_i f args mX;exact .inr (.inl ⟨f,args,mX,h⟩)
 ·rename_i k sz f args mX
  split at h
  ·rename_i eu es he
   split at h
   ·rename_i X;subst X;exact .inr (.inr (.inl ⟨k,_,f,args,es,mX,he,h⟩))
   ·cases h
  ·cases h
 ·rename_i f args mX;refine .inr (.inr (.inr (.inl ⟨f,args,mX,?_⟩)))
  split at h
  ·rename_i g eP aI;exact .inl ⟨g,eP,aI,h⟩
  ·rename_i g ds aI;exact .inr ⟨g,ds,aI,h⟩
  ·cases h
 ·rename_i neg x mX
  split at h
  ·rename_i full aI;exact .inr (.inr (.inr (.inr ⟨neg,x,full,mX,aI,h⟩)))
  ·cases h
 ·split at h
  ·rename_i m e he;exact .inl ⟨m,e,he,h⟩
  ·cases h
theorem getD_some {α:Type}{x:Option α}{b c:α}(h:c=x.getD b)(ah:c≠b):x=some c:=by
 cases x with
 |none=>exact absurd h ah
 |some y=>simp at h;rw[h]
theorem ad8 (cQ:qu P T){K:bb->Prop}{a:Act}{st:bb}{o:Oper}{aN:Exit->Act->World->Prop}{f:FuncId}{args:List R}{vs:List Value}(h:hG n A en hi a st w B)(ay:o.dst.all (λd=>decide (d<n))=true)
  (aA:dp w (cg A B) B args vs) (O:vc T K st o.dst f args) (mZ:Real P f->(execOp a.eval o).run P w=.ok (.enter f vs.toArray) w) :
  o.wp P a w (λkH aR=>∃dR bu,K dR/\hG n A en hi kH dR aR bu) aN:=by
 unfold vc at O;unfold Oper.wp
 cases iu:T f args st.mem with
 |none=>rw[iu] at O;exact O.elim
 |some o6 =>
  obtain⟨mA,jA⟩:=cQ f args st.mem o6 iu;have H:=jA A w B vs h.ok.dV aA;rw[iu] at O;rw[mZ mA]
  cases o6 with
  |same r =>
   refine Calls.mono H λe aR he=>?_;obtain⟨v,rfl,bT,aa⟩:=he;exact⟨_,B,O,h.put (.still h.ok.dV bT) (.J aa) ay⟩
  |own sz es =>
   refine Calls.mono H λe aR he=>?_;obtain⟨v,rfl,bT,aa⟩:=he;refine⟨_,B,O,h.put (.still h.ok.dV bT) (.J (aa.den λb ah=>?_)) ay⟩;rcases ah with ah|ah
   ·exact h.ok.dV.xY ah
   ·exact h.ok.dV.lt b ah
  |zl r k =>
   refine Calls.mono H λe aR he=>?_;obtain⟨v,bu,rfl,dv,mW⟩:=he;exact⟨_,bu,O,h.put dv mW ay⟩
  |rel bU =>
   refine Calls.mono H λe aR he=>?_;obtain⟨v,r,mem',bu,rfl,X,aa,gE⟩:=he;exact⟨_,bu,O r mem' gE,h.put X aa ay⟩
  |fa r k g i c =>
   refine Calls.mono H λe aR he=>?_;obtain⟨v,bu,rfl,X,aa⟩:=he;exact⟨_,bu,O,h.put X aa ay⟩
theorem apV {aZ:Nat->Prop}{m:R}{u:Value}{g:FuncId}{eP:List R}(hm:bs w aZ B m u)(h:m=.fu g eP\/∃ds,m=.J (.fn g ds)/\eP=ds.map .J):
  ∃cs:List Value,u=.func (.func g) #[] cs.toArray/\dp w aZ B eP cs:=by
 rcases h with rfl|⟨ds,rfl,rfl⟩
 ·cases hm with
  |fu ar aa=>exact⟨_,rfl,ar,aa⟩
 ·cases hm with
  |J aa =>
   cases aa with
   |fn ar aa=>exact⟨_,rfl,dp.J ar aa⟩
theorem apW (cQ:qu P T){K:bb->Prop}{kb:Nat}{own:List Nat}{ops:Array Oper}{a:Act}{st:bb}{o:Oper}{i:c8}{aN:Exit->Act->World->Prop}(h:hG n A en hi a st w B)(M:TQ P n kb own ops o i)
  (O:gA T K i st):o.wp P a w (λkH aR=>∃dR bu,K dR/\hG n A en hi kH dR aR bu) aN:=by
 have mX:=M.op;rcases apU O with ⟨m,e,X,dK⟩|⟨f,args,he,dK⟩|⟨k,sz,f,args,es,he,iu,dK⟩|⟨f,args,he,dK⟩|⟨neg,x,full,he,aI,dK⟩
 ·have a1:jP P kb own o.dst o.type o.op=some i.op:=getD_some mX (by
   intro ah;rw[ah] at X
   cases X)
  obtain⟨Gi,v,aR,bu,mZ,hO,dv,aA⟩:=ad0 h.ok.dV h.tE a1 X;unfold Oper.wp;rw[mZ];rw[M.dst] at dK;have Kn:=h.put dv aA M.lt;rcases hO with rfl|⟨rfl,rfl⟩
  ·exact⟨_,bu,dK,Kn⟩
  ·exact⟨_,bu,dK,Kn⟩
 ·have a1:jP P kb own o.dst o.type o.op=some i.op:=getD_some mX (by rw[he];simp);rw[he] at a1;obtain⟨c,H,mB,n0⟩:=ad5 a1;rw[M.dst] at dK;refine ad8 cQ h M.lt (yb h.tE n0) dK λmA=>?_;obtain⟨dst,op,type,pos,after,guard⟩:=o;simp only at H;subst H;obtain⟨callee,zy,Oi⟩:=c;simp only at mB;subst mB;simp only[execOp,resolve,Deferred.ofValue,Act.eval,invoke,Sem.run_bind,Sem.run_pure,Result.andThen_ok,Oh mA];rw[Bf zy];simp
 ·have a1:jP P kb own o.dst o.type o.op=some i.op:=getD_some mX (by rw[he];simp);rw[he] at a1;obtain⟨c,H,mB,n0⟩:=ad6 a1;rw[M.dst] at dK;obtain⟨mA,jA⟩:=cQ f _ st.mem _ iu;have ht:=jA A w B _ h.ok.dV (yb h.tE n0);have ay:=M.lt;obtain⟨dst,op,type,pos,after,guard⟩:=o;simp only at H;subst H;obtain⟨callee,zy,Oi⟩:=c;simp only at mB n0;subst mB
  have mZ:(execOp a.eval ⟨dst,.call ⟨.value (.func f),zy,Oi⟩,type,pos,after,guard⟩).run P w=.ok (.enter f (zy.toList.map a.eval).toArray) w:=by
   simp only[execOp,resolve,Deferred.ofValue,Act.eval,invoke,Sem.run_bind,Sem.run_pure,Result.andThen_ok,Oh mA];rw[Bf zy];simp
  unfold Oper.wp;rw[mZ];refine Calls.mono ht λe aR pJ=>?_;obtain⟨v,rfl,bT,aa⟩:=pJ;obtain⟨bu,dv,aA⟩:=ad4 k h.ok.dV bT aa;exact⟨_,bu,dK,h.put dv aA ay⟩
 ·have a1:jP P kb own o.dst o.type o.op=some i.op:=getD_some mX (by rw[he];simp);rw[he] at a1;obtain⟨c,x,H,mB,Q,n0⟩:=apR a1;rw[M.dst] at dK;have apX:=h.tE _ _ Q
  have main:∀g eP,(a6 st.tm f=.fu g eP\/∃ds,a6 st.tm f=.J (.fn g ds)/\eP=ds.map .J)->vc T K st o.dst g (args.map (a6 st.tm)++eP)->o.wp P a w (λkH aR=>∃dR bu,K dR/\hG n A en hi kH dR aR bu) aN:=by
   intro g eP a7 dK;obtain⟨cs,hu,b0⟩:=apV apX a7;refine ad8 cQ h M.lt ((yb h.tE n0).append b0) dK λmA=>?_;obtain⟨dst,op,type,pos,after,guard⟩:=o;simp only at H;subst H;obtain⟨callee,zy,Oi⟩:=c;simp only at mB;subst mB;simp only[execOp,resolve,hu,Deferred.ofValue,invoke,Sem.run_bind,Sem.run_pure,Result.andThen_ok,Oh mA];rw[Bf zy];simp
  rcases dK with ⟨g,eP,a7,dK⟩|⟨g,ds,a7,dK⟩
  ·exact main g eP (.inl a7) dK
  ·exact main g _ (.inr ⟨ds,a7,rfl⟩) dK
 ·have a1:jP P kb own o.dst o.type o.op=some i.op:=getD_some mX (by rw[he];simp);rw[he] at a1;obtain⟨t,e,y,y',z,H,aL,bF,av⟩:=apS a1;rw[M.dst] at dK
  have TR:a.eval y' = .slice none 0 0:=by
   unfold Ts at aL
   split at aL
   ·rfl
   ·cases aL
  obtain⟨b,ah,mZ⟩:=apT (y:=y) (y':=y') neg bF (h.tE _ _ av) aI TR;obtain⟨dst,op,type,pos,after,guard⟩:=o;simp only at H;subst H;unfold Oper.wp
  have:(execOp a.eval ⟨dst,.binOp (if neg then .neq else .eql) t y y' z,type,pos,after,guard⟩).run P w=.ok (.value (.bool (neg != b))) w:=by
   simp only[execOp];rw[Sem.run_bind,mZ]
   rfl
  rw[this];exact⟨_,B,dK b ah,h.put (.refl h.ok.dV) (.J .bool) M.lt⟩
end Go.Mini
namespace Go.Mini
open Go
variable {T:bd}
theorem fK {tm tm':Nat->R}{x:bS}(h:∀s∈fo x,tm s=tm' s):a6 tm x=a6 tm' x:=by
 cases x with
 |t s=>exact h s (by simp[fo])
 |c m=>rfl
theorem map_congr {tm tm':Nat->R}{l:List bS}(h:∀s∈l.flatMap fo,tm s=tm' s):l.map (a6 tm)=l.map (a6 tm') :=
 lY λx Q=>fK λs X=>h s (yd.2 ⟨x,Q,X⟩)
theorem Oj {tm tm':Nat->R}{l:List bS}(h:∀s∈l.flatMap fo,tm s=tm' s):(l.map λx=>qk (a6 tm x))=l.map λx=>qk (a6 tm' x) :=
 lY λx Q=>by rw[fK λs X=>h s (yd.2 ⟨x,Q,X⟩)]
theorem Dr {tm tm':Nat->R}{x:Option bS}(h:∀s∈x3 x,tm s=tm' s):x.map (a6 tm)=x.map (a6 tm'):=by
 cases x with
 |none=>rfl
 |some x =>
  cases x with
  |t s=>simp[a6,h s (by simp[x3])]
  |c m=>rfl
theorem TS {tm tm':Nat->R}:∀{ps:List (Nat×Nat×bS)} (cs:List R),(∀s∈ps.flatMap (λp=>fo p.2.2),tm s=tm' s)->kD (a6 tm) cs ps=kD (a6 tm') cs ps
 | [],_,_=>rfl
 |(o,s,x)::ps,cs,h=>by
  have F:a6 tm x=a6 tm' x:=fK λt bF=>h t (yd.2 ⟨(o,s,x),by simp,bF⟩);simp only[kD,F]
  split
  ·exact TS _ λt bF=>h t (by simp only[List.flatMap_cons,ko];exact .inr bF)
  ·rfl
theorem apY {mem:Mem}{tm tm':Nat->R}{op:kj}(h:∀s∈sn op,tm s=tm' s):cw mem tm op=cw mem tm' op:=by
 cases op<;>simp only[sn,ko] at h
 case b6 x=>simp only[cw,kW,fK h]
 case pick c a b=>simp only[cw,kW,fK (λs X=>h s (.inl (.inl X))),fK (λs X=>h s (.inl (.inr X))),fK (λs X=>h s (.inr X))]
 case alloc=>rfl
 case box k x=>simp only[cw,fK h]
 case build z ps=>simp only[cw,kW,TS _ h]
 case fe k o z sz len ps=>cases o<;>simp only[cw,kW,TS _ h]
 case load n dU x=>simp only[cw,fK h]
 case store n x v=>simp only[cw,fK (λs X=>h s (.inl X)),fK (λs X=>h s (.inr X))]
 case bin o x y=>simp only[cw,kW,fK (λs X=>h s (.inl X)),fK (λs X=>h s (.inr X))]
 case beq o x y=>simp only[cw,kW,fK (λs X=>h s (.inl X)),fK (λs X=>h s (.inr X))]
 case eqs o l x y=>simp only[cw,kW,fK (λs X=>h s (.inl X)),fK (λs X=>h s (.inr X))]
 case q9=>rfl
 case un o x=>simp only[cw,kW,fK h]
 case conv k x=>simp only[cw,kW,fK h]
 case sg x=>simp only[cw,kW,fK h]
 case mv k z b x y=>simp only[cw,fK (λs X=>h s (.inl X)),fK (λs X=>h s (.inr X))]
 case ei o x=>simp only[cw,kW,fK h]
 case C7 o n dU x=>simp only[cw,kW,fK h]
 case jy s x i=>simp only[cw,kW,fK (λs X=>h s (.inl X)),fK (λs X=>h s (.inr X))]
 case oX n s x i=>simp only[cw,kW,fK (λs X=>h s (.inl X)),fK (λs X=>h s (.inr X))]
 case idxs x i=>simp only[cw,kW,fK (λs X=>h s (.inl X)),fK (λs X=>h s (.inr X))]
 case oz s x a b c =>
  have F:=fK (λs X=>h s (.inl (.inl (.inl X))));have I:=Dr (λs X=>h s (.inl (.inl (.inr X))));have af:=Dr (λs X=>h s (.inl (.inr X)));have aO:=Dr (λs X=>h s (.inr X))
  cases b<;>cases c<;>simp only[lB,ad9,cn] at af aO<;>simp only[cw,kW,lB,ad9,F,I,af,aO]
 case tq n s x a b c =>
  have F:=fK (λs X=>h s (.inl (.inl (.inl X))));have I:=Dr (λs X=>h s (.inl (.inl (.inr X))));have af:=Dr (λs X=>h s (.inl (.inr X)))
  cases c<;>simp only[cw,kW,F,I,af]
 case C8 x a b=>simp only[cw,kW,fK (λs X=>h s (.inl (.inl X))),Dr (λs X=>h s (.inl (.inr X))),Dr (λs X=>h s (.inr X))]
 case ext i x=>simp only[cw,kW,fK h]
 case len x=>simp only[cw,kW,fK h]
 case lens x=>simp only[cw,kW,fK h]
 case app k z b s x=>simp only[cw,fK (λs X=>h s (.inl X)),fK (λs X=>h s (.inr X))]
 case si s d x=>simp only[cw,fK (λs X=>h s (.inl X)),fK (λs X=>h s (.inr X))]
 case sk z x=>simp only[cw,fK h]
 case iH o x y=>simp only[cw,kW,fK (λs X=>h s (.inl X)),fK (λs X=>h s (.inr X))]
 case call=>rfl
 case nT=>rfl
 case jM=>rfl
 case mw=>rfl
 case tr=>rfl
 case sj=>rfl
 case oY f l=>simp only[cw,kW,map_congr h]
 case bad=>rfl
theorem aea {mem:Mem}{tm tm':Nat->R}{op:kj}(h:∀s∈sn op,tm s=tm' s):hs T mem tm op=hs T mem tm' op:=by
 cases op
 case call f l =>
  have:=Oj (l:=l) (tm:=tm) (tm':=tm') (by simpa [sn] using h);simp only[hs,this]
 case nT k sz f l =>
  have:=Oj (l:=l) (tm:=tm) (tm':=tm') (by simpa [sn] using h);simp only[hs,this]
 case jM=>rfl
 case q9=>rfl
 case mw cH f l =>
  have:=map_congr (l:=l) (tm:=tm) (tm':=tm') (by simpa [sn] using h);simp only[hs,this]
 case tr j f l =>
  have F:=map_congr (l:=l) (tm:=tm) (tm':=tm') (by simpa [sn] using h);have I:=Oj (l:=l) (tm:=tm) (tm':=tm') (by simpa [sn] using h);simp only[hs,F,I]
 case sj j f l =>
  have F:=map_congr (l:=l) (tm:=tm) (tm':=tm') (by simpa [sn] using h);have I:=Oj (l:=l) (tm:=tm) (tm':=tm') (by simpa [sn] using h);simp only[hs,F,I]
 all_goals exact apY (mem:=mem) h
theorem aeb {tm tm':Nat->R}{op:kj}(h:∀s∈sn op,tm s=tm' s):dH tm op=dH tm' op:=by
 cases op<;>simp only[sn,ko] at h<;>try rfl
 case fe k o z sz len ps=>cases o<;>rfl
 case load n dU x=>simp only[dH,fK h]
 case tq n s x a b c=>simp only[dH,fK (λs X=>h s (.inl (.inl (.inl X))))]
 case store n x v=>simp only[dH,fK (λs X=>h s (.inl X))]
 case app k z b s x=>simp only[dH,fK (λs X=>h s (.inl X)),fK (λs X=>h s (.inr X))]
 case si s d x=>simp only[dH,fK (λs X=>h s (.inl X)),fK (λs X=>h s (.inr X))]
 case mw cH f l=>simp only[dH,map_congr h]
 case tr j f l=>simp only[dH,map_congr h]
 case sj j f l=>simp only[dH,map_congr h]
 case sk z x=>simp only[dH,fK h]
theorem apZ {n:Nat}{m:R}{aN:Key->Prop}(h:∀x∈FK n m,aN x.key):∀j∈keyOf m,aN j:=by
 cases m<;>simp_all [FK,keyOf,nk.key]
theorem aec {mem mem':Mem}{sz:Nat}{m:R}(h:∀k∈keyOf m,mem k=mem' k):qj mem sz m=qj mem' sz m:=by
 cases m<;>try rfl
 case J d=>cases d<;>rfl
 simp only[qj];rw[h _ (by simp[keyOf])]
theorem ap0 {mem mem':Mem}{k:Key}{z:List R}{b:Nat}{m:R}{row:Option (Nat×List R)}(O:mem k=mem' k)(h:∀j∈keyOf m,mem j=mem' j):rb mem k z b m row=rb mem' k z b m row:=by
 cases m<;>cases row<;>try rfl
 ·simp only[rb,bV,O]
 ·simp only[rb];rw[h _ (by simp[keyOf])]
theorem ap1 {mem mem':Mem}{sz:Nat}{m:R}{row:Option (Nat×List R)}(h:∀j∈keyOf m,mem j=mem' j):wC mem sz m row=wC mem' sz m row:=by
 cases m<;>cases row<;>try rfl
 simp only[wC];rw[h _ (by simp[keyOf])]
theorem ap2 {mem mem':Mem}{z:List R}{m:R}(h:∀j∈keyOf m,mem j=mem' j):x0 mem z m=x0 mem' z m:=by
 cases m<;>try rfl
 simp only[x0];rw[h _ (by simp[keyOf])]
theorem ap3 {mem mem':Mem}{n:Nat}{dU:Bool}{m:R}(h:∀j∈keyOf m,mem j=mem' j):qi mem n dU m=qi mem' n dU m:=by
 cases m<;>try rfl
 case J d=>cases d<;>rfl
 simp only[qi];rw[h _ (by simp[keyOf])]
theorem ap4 {mem mem':Mem}{n:Nat}{m:R}{v:List R}(h:∀j∈keyOf m,mem j=mem' j):xZ mem n m v=xZ mem' n m v:=by
 cases m<;>try rfl
 simp only[xZ];rw[h _ (by simp[keyOf])]
theorem ap5 {mem mem':Mem}{n s a b:Nat}{m:R}(h:∀j∈keyOf m,mem j=mem' j):A7 mem n s a b m=A7 mem' n s a b m:=by
 cases m<;>try rfl
 simp only[A7];rw[h _ (by simp[keyOf])]
theorem ap6 {mem mem':Mem}{tm:Nat->R}{op:kj}(h:∀x∈dH tm op,mem x.key=mem' x.key):cw mem tm op=cw mem' tm op:=by
 have Gi:∀k,mem k=mem' k->bV mem k=bV mem' k:=λk O=>by simp only[bV,O]
 cases op<;>try rfl
 case alloc k z=>simp only[cw,Gi k (h (.hr k) (by simp[dH]))]
 case box k x=>simp only[cw,Gi k (h (.hr k) (by simp[dH]))]
 case fe k o z sz len ps =>
  cases o
  ·rfl
  ·simp only[cw,Gi k (h (.hr k) (by simp[dH]))]
 case mv k z b x y=>simp only[cw,Gi k (h (.hr k) (by simp[dH]))]
 case load n dU x =>
  simp only[cw];rw[ap3 (apZ (aN:=λj=>mem j=mem' j) h)]
 case tq n s x a b c =>
  cases c
  ·simp only[cw]
   congr 2
   funext l
   congr 1
   funext aU
   exact ap5 λj ai=>h (.hr j) (by simp[dH,ai])
  ·rfl
 case store n x v =>
  simp only[cw];exact ap4 λj ai=>h (.hr j) (by simp[dH,ai])
 case app k z b s x =>
  have cG:∀j,j=k\/j∈keyOf (a6 tm s)\/j∈keyOf (a6 tm x)->mem j=mem' j:=λj ai=>h (.hr j) (by simpa [dH] using ai);simp only[cw,aec (sz:=D z) (λj ai=>cG j (.inr (.inr ai)))];exact ap0 (cG k (.inl rfl)) λj ai=>cG j (.inr (.inl ai))
 case si s d x =>
  have cG:∀j,j∈keyOf (a6 tm d)\/j∈keyOf (a6 tm x)->mem j=mem' j:=λj ai=>h (.hr j) (by simpa [dH] using ai);simp only[cw,aec (sz:=s) (λj ai=>cG j (.inr ai))];exact ap1 λj ai=>cG j (.inl ai)
 case sk z x =>
  simp only[cw];exact ap2 λj ai=>h (.hr j) (by simp[dH,ai])
theorem aed {mem mem':Mem}{tm:Nat->R}{op:kj}(H:∀cH f l,op ≠ .mw cH f l)(h:∀x∈dH tm op,mem x.key=mem' x.key):hs T mem tm op=hs T mem' tm op:=by
 cases op
 case call=>rfl
 case nT k sz f l =>
  have:bV mem k=bV mem' k:=by
   have:=h (.hr k) (by simp[dH]);simp only[nk.key] at this;simp only[bV,this]
  simp only[hs,this]
 case mw cH f l=>exact absurd rfl (H cH f l)
 case tr j f l =>
  simp only[hs]
  cases hm:(l.map (a6 tm))[j]? with
  |none=>rfl
  |some m =>
   cases m<;>try rfl
   have:=h (.hr _) (by simp only[dH,hm,wD];exact fZ);simp only[nk.key] at this;simp only[J1,this]
 case sj j f l =>
  simp only[hs]
  cases hm:(l.map (a6 tm))[j]? with
  |none=>rfl
  |some m =>
   cases m<;>try rfl
   have:=h (.hr _) (by simp only[dH,hm,wD];exact fZ);simp only[nk.key] at this;simp only[J2,this]
 case jM=>rfl
 case q9=>rfl
 all_goals exact ap6 (mem:=mem) (mem':=mem') (tm:=tm) h
theorem Ok {x:Option R}{m:R}{e:Option (Key×Nat×List R)}(h:jh x=some (m,e)):e=none:=(adV h).2
theorem ap7 {mem:Mem}{tm:Nat->R}{op:kj}{m:R}{e:Option (Key×Nat×List R)}(h:cw mem tm op=some (m,e)):e=none\/(jO op=true/\∃k g cs,e=some (k,g,cs) /\ .hr k∈dH tm op):=by
 cases op<;>try (first|exact .inl (Ok h)|exact .inl (Ok (x:=some _) h))
 case alloc k z =>
  simp only[cw,cn,fb] at h;exact .inr ⟨rfl,_,_,_,h.2.symm,by simp[dH]⟩
 case box k x =>
  simp only[cw] at h
  split at h<;>simp only[cn,fb,reduceCtorEq] at h
  exact .inr ⟨rfl,_,_,_,h.2.symm,by simp[dH]⟩
 case fe k o z sz len ps =>
  cases o
  ·exact .inl (Ok h)
  ·simp only[cw,FI] at h
   (repeat' split at h)<;>simp only[cn,fb,reduceCtorEq] at h
   exact .inr ⟨rfl,_,_,_,h.2.symm,by simp[dH]⟩
 case mv k z b x y =>
  obtain⟨_,_,_,_,h⟩:=adW h;simp only[FJ] at h
  split at h<;>simp only[cn,fb,reduceCtorEq] at h
  exact .inr ⟨rfl,_,_,_,h.2.symm,by simp[dH]⟩
 case tq n s x a b c =>
  cases c
  ·exact .inl (Ok h)
  ·cases h
 case store n x v =>
  simp only[cw] at h
  cases Q:a6 tm x<;>rw[Q] at h<;>simp only[xZ,reduceCtorEq] at h
  simp only[JY] at h
  (repeat' split at h)<;>simp only[cn,fb,reduceCtorEq] at h
  exact .inr ⟨rfl,_,_,_,h.2.symm,by simp[dH,Q,keyOf]⟩
 case app k z b s x =>
  simp only[cw] at h
  cases ab:qj mem (D z) (a6 tm x)<;>cases X:a6 tm s<;>rw[ab,X] at h<;>simp only[rb,reduceCtorEq] at h
  ·split at h<;>simp only[cn,fb,reduceCtorEq] at h
   exact .inr ⟨rfl,_,_,_,h.2.symm,by simp[dH]⟩
  ·simp only[mx] at h
   (repeat' split at h)<;>simp only[cn,fb,reduceCtorEq] at h
   exact .inr ⟨rfl,_,_,_,h.2.symm,by simp[dH,X,keyOf]⟩
 case si s d x =>
  simp only[cw] at h
  cases ab:qj mem s (a6 tm x)<;>cases X:a6 tm d<;>rw[ab,X] at h<;>simp only[wC,reduceCtorEq] at h
  simp only[A8] at h
  (repeat' split at h)<;>simp only[cn,fb,reduceCtorEq] at h
  exact .inr ⟨rfl,_,_,_,h.2.symm,by simp[dH,X,keyOf]⟩
 case sk z x =>
  simp only[cw] at h
  cases X:a6 tm x<;>rw[X] at h<;>simp only[x0,reduceCtorEq] at h
  simp only[NY] at h
  (repeat' split at h)<;>simp only[cn,fb,reduceCtorEq] at h
  exact .inr ⟨rfl,_,_,_,h.2.symm,by simp[dH,X,keyOf]⟩
 all_goals cases h
theorem aee {mem:Mem}{j:Nat}{f:FuncId}{ms:List R}{x:Option R}{m:R}{e:Option (Key×Nat×List R)}(h:J1 T mem j f ms x=some (m,e)):
  ∃k g sz off len cs d r,x=some (.ref k g sz off len)/\mem k=some (g,cs)/\J0 sz off len cs=some d/\NZ (T f (ms.set j (.J d)) emp)=some r/\m=.J r/\e=some (k,bV mem k,[]):=by
 unfold J1 at h
 split at h
 ·rename_i k g sz off len;unfold Tp at h
  split at h
  ·rename_i c6 cs hm
   split at h
   ·rename_i a7;subst a7
    split at h
    ·rename_i d aa
     split at h
     ·rename_i r ab;simp only[cn,fb] at h;exact⟨k,_,sz,off,len,cs,d,r,rfl,hm,aa,ab,h.1.symm,by rw[<-h.2];simp[bV,hm]⟩
     ·cases h
    ·cases h
   ·cases h
  ·cases h
 ·cases h
theorem aef {mem:Mem}{j:Nat}{f:FuncId}{ms:List R}{x:Option R}{m:R}{e:Option (Key×Nat×List R)}(h:J2 T mem j f ms x=some (m,e)):
  ∃k g sz off len c6 cs r,x=some (.ref k g sz off len)/\mem k=some (c6,cs)/\nV cs=true/\T f (ms.set j (.ref k g sz off len)) (a4 emp k c6 cs)=some (.zl r k)/\m=.J r/\e=some (k,bV mem k,[]):=by
 unfold J2 at h
 split at h
 ·rename_i k g sz off len;unfold Tq at h
  split at h
  ·rename_i c6 cs hm
   split at h
   ·rename_i aa
    split at h
    ·rename_i r k' ab
     split at h
     ·rename_i O;subst O;simp only[cn,fb] at h;exact⟨_,g,sz,off,len,c6,cs,r,rfl,hm,aa,ab,h.1.symm,by rw[<-h.2];simp[bV,hm]⟩
     ·cases h
    ·cases h
   ·cases h
  ·cases h
 ·cases h
theorem aeg {cH:Nat}{mem:Mem}{ms:List R}{x:Option gZ}{m:R}{e:Option (Key×Nat×List R)}(h:FL cH mem ms x=some (m,e)):
  ∃r k g i c cs,x=some (.fa r k g i c)/\mem k=some (g,cs)/\m=.J r/\e=some (k,g,cs.set i c)/\JZ cH ms=[.wr k i]:=by
 unfold FL at h
 split at h
 ·rename_i k g off rest r k' c6 i c
  split at h
  ·rename_i ye cs hm
   split at h
   ·rename_i H;obtain⟨rfl,rfl,rfl⟩:=H;simp only[cn,fb] at h;exact⟨r,_,_,_,c,cs,rfl,hm,h.1.symm,h.2.symm,rfl⟩
   ·cases h
  ·cases h
 ·cases h
theorem TT {mem:Mem}{tm:Nat->R}{op:kj}{m:R}{e:Option (Key×Nat×List R)}(h:hs T mem tm op=some (m,e)):e=none\/(jO op=true/\∃k g cs,e=some (k,g,cs)/\(.hr k∈dH tm op\/∃i c tF,dH tm op=[.wr k i]/\mem k=some (g,tF)/\cs=tF.set i c)):=by
 have pl:cw mem tm op=some (m,e)->e=none\/(jO op=true/\∃k g cs,e=some (k,g,cs)/\(.hr k∈dH tm op\/∃i c tF,dH tm op=[.wr k i]/\mem k=some (g,tF)/\cs=tF.set i c)):=λh=>by
  rcases ap7 h with h|⟨F,k,g,cs,I,af⟩
  ·exact .inl h
  ·exact .inr ⟨F,k,g,cs,I,.inl af⟩
 cases op
 case call f l =>
  simp only[hs] at h
  split at h<;>simp only[cn,fb,reduceCtorEq] at h
  ·exact .inl h.2.symm
  ·exact .inl h.2.symm
 case nT k sz f l =>
  simp only[hs] at h
  (repeat' split at h)<;>simp only[cn,fb,reduceCtorEq] at h
  exact .inr ⟨rfl,_,_,_,h.2.symm,.inl (by simp[dH])⟩
 case jM=>cases h
 case q9=>cases h
 case mw cH f l =>
  obtain⟨r,k,g,i,c,cs,-,hm,-,he,aI⟩:=aeg h;exact .inr ⟨rfl,k,g,_,he,.inr ⟨i,c,cs,aI,hm,rfl⟩⟩
 case tr j f l =>
  simp only[hs] at h;obtain⟨k,g,sz,off,len,cs,d,r,Q,hm,-,-,-,he⟩:=aee h;exact .inr ⟨rfl,k,_,_,he,.inl (by simp only[dH,Q,wD];exact fZ)⟩
 case sj j f l =>
  simp only[hs] at h;obtain⟨k,g,sz,off,len,c6,cs,r,Q,hm,-,-,-,he⟩:=aef h;exact .inr ⟨rfl,k,_,_,he,.inl (by simp only[dH,Q,wD];exact fZ)⟩
 all_goals exact pl h
theorem ap8 {tm:Nat->R}{op:kj}{b:nk}(ah:b∈dH tm op):(∃k,b=.hr k)\/(∃n dU x k g off,op=.load n dU x/\a6 tm x=.ptr k g off/\b=.rd k off (off+n))\/∃cH f l,op=.mw cH f l:=by
 cases op
 case load n dU x =>
  simp only[dH] at ah
  cases Q:a6 tm x<;>rw[Q] at ah<;>simp[FK] at ah
  ·exact .inl ⟨_,ah⟩
  ·exact .inr (.inl ⟨_,_,_,_,_,_,rfl,Q,ah⟩)
 case mw cH f l=>exact .inr (.inr ⟨_,_,_,rfl⟩)
 case tr j f l =>
  simp only[dH] at ah
  cases hm:(l.map (a6 tm))[j]? with
  |none=>rw[hm] at ah;simp[wD] at ah
  |some m =>
   rw[hm] at ah
   cases m<;>simp[wD] at ah
   exact .inl ⟨_,ah⟩
 case sj j f l =>
  simp only[dH] at ah
  cases hm:(l.map (a6 tm))[j]? with
  |none=>rw[hm] at ah;simp[wD] at ah
  |some m =>
   rw[hm] at ah
   cases m<;>simp[wD] at ah
   exact .inl ⟨_,ah⟩
 case fe k o z sz len ps =>
  cases o<;>simp[dH] at ah;exact .inl ⟨_,ah⟩
 all_goals
  simp[dH] at ah
  try first
   |exact .inl ⟨_,ah⟩
   |(rcases ah with ⟨k,_,h⟩|⟨k,_,h⟩<;>exact .inl ⟨k,h.symm⟩)
   |(rcases ah with h|⟨k,_,h⟩|⟨k,_,h⟩<;>first|exact .inl ⟨_,h⟩|exact .inl ⟨_,h.symm⟩)
   |(obtain⟨k,_,h⟩:=ah;exact .inl ⟨k,h.symm⟩)
theorem ap9 {cs:List R}{i off n:Nat}{c:R}(h:i<off\/off+n<=i):cut (cs.set i c) off n=cut cs off n:=by
 unfold cut;rw[hP]
 split
 ·congr 1
  rcases h with h|h
  ·rw[tG h]
  ·by_cases M:i<off
   ·rw[tG M]
   ·rw[List.drop_set,ag M,List.take_set_of_le (by omega)]
 ·rfl
theorem aqa {mem:Mem}{k g i:Nat}{c:R}{cs:List R}{n:Nat}{dU:Bool}{k' c6 off:Nat}(hm:mem k=some (g,cs))(h:k'≠k\/i<off\/off+n<=i):
  qi (a4 mem k g (cs.set i c)) n dU (.ptr k' c6 off)=qi mem n dU (.ptr k' c6 off):=by
 by_cases O:k'=k
 ·subst O;have h:=h.resolve_left (λh=>h rfl);simp only[qi,a4,if_true,hm,ap9 h]
 ·simp only[qi,a4,O,if_false]
theorem aeh {mem:Mem}{tm:Nat->R}{x y:kj}{m:R}{e:Option (Key×Nat×List R)}(aqb:hs T mem tm x=some (m,e))(aP:rh (jO x,dH tm x) (jO y,dH tm y)=true):hs T (ik mem e) tm y=hs T mem tm y:=by
 rcases TT aqb with rfl|⟨hw,k,g,cs,rfl,O⟩
 ·rfl
 ·have fi:∀a∈dH tm x,∀b∈dH tm y,rf a b=true:=by
   unfold rh at aP
   simpa [hw] using aP
  have aqc:∀cH f l,y=.mw cH f l->dH tm y=[]:=by
   rintro cH f l rfl
   cases ah:dH tm (.mw cH f l) with
   |nil=>rfl
   |cons b r =>
    exfalso
    have kE:∃k' bk,b=.wr k' bk:=by
     simp only[dH] at ah;unfold JZ at ah
     split at ah
     ·cases ah;exact⟨_,_,rfl⟩
     ·cases ah
    obtain⟨k',bk,rfl⟩:=kE;have hm:nk.wr k' bk∈dH tm (.mw cH f l):=by rw[ah];exact fZ
    rcases O with O|⟨i,c,tF,aI,_,_⟩
    ·have:=fi _ O _ hm;simp[rf] at this
    ·have:=fi (.wr k i) (by rw[aI];exact fZ) _ hm;simp[rf] at this
  by_cases av:∃cH f l,y=.mw cH f l
  ·obtain⟨cH,f,l,rfl⟩:=av;have ao:=aqc _ _ _ rfl;simp only[dH] at ao
   have aX:∀mem' jm,FL cH mem' (l.map (a6 tm)) jm=none:=by
    intro mem' jm;unfold FL
    split
    ·rename_i heq;rw[heq] at ao;simp[JZ] at ao
    ·rfl
   simp only[hs,aX]
  ·have H:∀cH f l,y ≠ .mw cH f l:=λcH f l h=>av ⟨cH,f,l,h⟩;rcases O with O|⟨i,c,tF,aI,hm,rfl⟩
   ·refine (aed H λb ah=>?_).symm;have F:=fi _ O b ah
    have:b.key≠k:=by
     rintro rfl
     cases b<;>simp[rf,nk.key] at F
    simp[ik,a4,this]
   ·have F:=fi (.wr k i) (by rw[aI];exact fZ)
    by_cases ar:∃n dU z k' c6 off,y=.load n dU z/\a6 tm z=.ptr k' c6 off
    ·obtain⟨n,dU,z,k',c6,off,rfl,aX⟩:=ar;have I:=F (.rd k' off (off+n)) (by simp[dH,aX,FK]);simp only[hs,cw,aX,ik];rw[aqa hm];simp[rf] at I;exact I
    ·refine (aed H λb ah=>?_).symm
     exfalso
     rcases ap8 ah with ⟨k',rfl⟩|⟨n,dU,z,k',c6,off,af,aO,_⟩|⟨cH,f,l,af⟩
     ·have:=F _ ah;simp[rf] at this
     ·exact ar ⟨n,dU,z,k',c6,off,af,aO⟩
     ·exact H _ _ _ af
theorem aei {tm:Nat->R}{op:kj}(h:sm op=0):dH tm op=[]/\jO op=false:=by
 cases op<;>simp_all [sm,jO,dH]
 all_goals (rename_i b _ _ _ _;cases b<;>simp_all [jO,dH])
theorem aej {op:kj}(h:sm op=1):jO op=false:=by
 cases op<;>simp_all [sm,jO]
 all_goals (rename_i b _ _ _ _;cases b<;>simp_all [jO])
end Go.Mini
namespace Go.Mini
open Go
variable {T:bd} {jU:Nat->Nat->Bool}
def yf (T:bd)(jU:Nat->Nat->Bool)(i:Nat)(x:c8)(rec:Rec)(st:bb)(zz:Rec)(dR:bb):Prop :=
 (oZ st.tm x.g=some false/\zz=rec/\dR=⟨put st.tm x.dst .no,st.mem⟩) \/
 (oZ st.tm x.g=some true/\∃m e,hs T st.mem st.tm x.op=some (m,e)/\(∀p q,jU p i=true->rec p=some q->rh q (jO x.op,dH st.tm x.op)=true) /\
  zz=vd rec i (jO x.op,dH st.tm x.op)/\dR=⟨put st.tm x.dst m,ik st.mem e⟩)
theorem wL {tm:Nat->R}{dst:Option Nat}{m:R}{s:Nat}(h:dst≠some s):put tm dst m s=tm s:=by
 cases dst with
 |none=>rfl
 |some d =>
  have:s≠d:=λe=>h (by rw[e]);simp[put,this]
theorem put_comm {tm:Nat->R}{d yc:Option Nat}{m m':R}(h:∀s,d=some s->yc≠some s):put (put tm d m) yc m'=put (put tm yc m') d m:=by
 funext s
 by_cases F:d=some s
 ·rw[wL (h s F)];subst F;simp[put]
 ·rw[wL (dst:=d) F]
  by_cases I:yc=some s
  ·subst I;simp[put]
  ·rw[wL I,wL I,wL F]
theorem aek {tm tm':Nat->R}{g:Option (Nat×Bool)}(h:∀s b,g=some (s,b)->tm s=tm' s):oZ tm g=oZ tm' g:=by
 cases g with
 |none=>rfl
 |some p =>
  obtain⟨s,b⟩:=p;simp only[oZ,h s b rfl]
theorem ael {x y:c8}(h:x4 x y=true):(∀d,x.dst=some d->d ∉ Ba y)/\(∀d,x.dst=some d->y.dst≠some d)/\(∀d,y.dst=some d->d ∉ Ba x):=by
 refine⟨λd aa=>?_,λd aa=>?_,λd aa=>?_⟩<;>simp[x4,aa] at h
 ·exact h.1.1
 ·exact h.1.2
 ·exact h.2
theorem Ol {x:c8}{s:Nat}(h:s∈sn x.op):s∈Ba x:=by simp[Ba,h]
theorem aem {x:c8}{s:Nat}{b:Bool}(h:x.g=some (s,b)):s∈Ba x:=by simp[Ba,h]
theorem aqd (a b:nk):rf a b=rf b a:=by
 have H:∀k k':Nat,(k==k')=(k'==k):=λk k'=>BEq.comm
 cases a<;>cases b<;>first|rfl|(unfold rf;dsimp only;rw[H])
theorem aen {a b:Bool×List nk}(h:rh a b=true):rh b a=true:=by
 unfold rh at *;simp only[yg,Bool.not_eq_true',Bool.or_eq_false_iff,kG] at *;rcases h with ⟨F,I⟩|h
 ·exact .inl ⟨I,F⟩
 ·exact .inr λx Q y av=>by rw[aqd];exact h y av x Q
theorem aqe {mem:Mem}{e e':Option (Key×Nat×List R)}(h:∀j g cs lT c6 nm,e=some (j,g,cs)->e'=some (lT,c6,nm)->j≠lT):ik (ik mem e) e'=ik (ik mem e') e:=by
 cases e with
 |none=>rfl
 |some p =>
  cases e' with
  |none=>rfl
  |some pK =>
   obtain⟨j,g,cs⟩:=p;obtain⟨lT,c6,nm⟩:=pK;have bG:=h _ _ _ _ _ _ rfl rfl
   funext k
   simp only[ik,a4]
   by_cases F:k=lT
   ·by_cases I:k=j
    ·exact absurd (I.symm.trans F) bG
    ·simp[F,I];intro af;exact absurd af.symm bG
   ·simp[F]
def Passes (jU:Nat->Nat->Bool)(i j:Nat)(x y:c8):Prop:=jU i j=true\/zo (sm x.op) (sm y.op)=true
theorem aqf {i j:Nat}{x y:c8}{tm:Nat->R}(h:Passes jU i j x y)(H:jU i j=true->rh (jO x.op,dH tm x.op) (jO y.op,dH tm y.op)=true):
  rh (jO x.op,dH tm x.op) (jO y.op,dH tm y.op)=true:=by
 rcases h with h|h
 ·exact H h
 ·unfold zo at h;simp only[yg,e4,beq_iff_eq] at h;rcases h with (h|h)|⟨F,I⟩
  ·obtain⟨F,I⟩:=aei (tm:=tm) h;simp[rh,F]
  ·obtain⟨F,I⟩:=aei (tm:=tm) h;simp[rh,F]
  ·have F:=aej F;have I:=aej I;simp[rh,F,I]
theorem yf.comm {i j:Nat}{x y:c8}{rec rp Om:Rec}{st rq On:bb}(mC:i≠j)(dC:x4 x y=true)(aF:Passes jU i j x y)(TU:∀a b,jU a b=jU b a)(iv:rec i=none)
  (F:yf T jU i x rec st rp rq) (I:yf T jU j y rp rq Om On):∃Ko Kp,yf T jU j y rec st Ko Kp/\yf T jU i x Ko Kp Om On:=by
 obtain⟨aP,ah,H⟩:=ael dC
 -- what one sees of the other's temporary: nothing
 have aqg:∀m,oZ (put st.tm x.dst m) y.g=oZ st.tm y.g:=λm=>aek λs b X=>wL λaa=>aP s aa (aem X);have aqh:∀mem m,hs T mem (put st.tm x.dst m) y.op=hs T mem st.tm y.op:=λmem m=>aea λs X=>wL λaa=>aP s aa (Ol X);have aqi:∀m,dH (put st.tm x.dst m) y.op=dH st.tm y.op:=λm=>aeb λs X=>wL λaa=>aP s aa (Ol X);have Oo:∀m,oZ (put st.tm y.dst m) x.g=oZ st.tm x.g:=λm=>aek λs b X=>wL λaa=>H s aa (aem X);have aeo:∀mem m,hs T mem (put st.tm y.dst m) x.op=hs T mem st.tm x.op:=λmem m=>aea λs X=>wL λaa=>H s aa (Ol X);have Oq:∀m,dH (put st.tm y.dst m) x.op=dH st.tm x.op:=λm=>aeb λs X=>wL λaa=>H s aa (Ol X);have lZ:∀m m',put (put st.tm x.dst m) y.dst m'=put (put st.tm y.dst m') x.dst m:=λm m'=>put_comm ah;rcases F with ⟨cq,rfl,rfl⟩|⟨cq,dN,aC,s1,aJ,rfl,rfl⟩<;>rcases I with ⟨cr,rfl,rfl⟩|⟨cr,cO,aD,s2,c2,rfl,rfl⟩<;>simp only[aqg,aqh,aqi] at *
 ·exact⟨_,_,.inl ⟨cr,rfl,rfl⟩,.inl ⟨by simp only[Oo];exact cq,rfl,by simp only[lZ]⟩⟩
 ·exact⟨_,_,.inr ⟨cr,cO,aD,s2,c2,rfl,rfl⟩,.inl ⟨by simp only[Oo];exact cq,rfl,by simp only[lZ]⟩⟩
 ·exact⟨_,_,.inl ⟨cr,rfl,rfl⟩,.inr ⟨by simp only[Oo];exact cq,dN,aC,by simp only[aeo];exact s1,by simp only[Oq];exact aJ,by simp only[Oq],by simp only[lZ]⟩⟩
 ·have aep:jU i j=true->rh (jO x.op,dH st.tm x.op) (jO y.op,dH st.tm y.op)=true:=λh=>c2 i _ h (by simp[vd]);have Bj:=aqf (tm:=st.tm) aF aep;have TV:hs T st.mem st.tm y.op=some (cO,aD):=by rw[<-s2];exact (aeh s1 Bj).symm
  have gp:∀j g cs lT c6 nm,aC=some (j,g,cs)->aD=some (lT,c6,nm)->j≠lT:=by
   rintro k g cs k' c6 nm rfl rfl rfl;rcases TT s1 with h|⟨hw,c0,cr,n1,h,F⟩
   ·cases h
   ·cases h;rcases TT TV with h|⟨aeq,ev,g2,aJx,h,I⟩
    ·cases h
    ·cases h;unfold rh at Bj;simp only[hw,Bool.true_or,Bool.not_true,Bool.false_or,kG] at Bj;rcases F with F|⟨i,c,tF,F,_,_⟩<;>rcases I with I|⟨bk,c',aJy,I,_,_⟩
     ·have:=Bj _ F _ I;simp[rf] at this
     ·have:=Bj _ F (.wr k bk) (by rw[I];exact fZ);simp[rf] at this
     ·have:=Bj (.wr k i) (by rw[F];exact fZ) _ I;simp[rf] at this
     ·have:=Bj (.wr k i) (by rw[F];exact fZ) (.wr k bk) (by rw[I];exact fZ);simp[rf] at this
  refine⟨_,_,.inr ⟨cr,cO,aD,TV,λp q Ot aT=>?_,rfl,rfl⟩,.inr ⟨by simp only[Oo];exact cq,dN,aC,?_,?_,?_,?_⟩⟩
  ·have bG:p≠i:=λh=>by rw[h,iv] at aT;cases aT
   exact c2 p q Ot (by simp[vd,bG,aT])
  ·simp only[aeo];rw[<-s1];exact aeh TV (aen Bj)
  ·simp only[Oq];intro p q zA aT
   by_cases Ot:p=j
   ·subst Ot;simp only[vd,if_true,cn] at aT;subst aT;exact aen (aep (by rw[TU];exact zA))
   ·simp only[vd,Ot,if_false] at aT;exact aJ p q zA aT
  ·simp only[Oq]
   funext p
   simp only[vd]
   by_cases F:p=i
   ·subst F;simp[mC]
   ·simp[F]
  ·simp only[lZ];rw[aqe gp]
end Go.Mini
namespace Go.Mini
open Go
variable {T:bd} {jU:Nat->Nat->Bool} {ops:Array Oper} {l:List c8} {K:bb->Prop}
def Gj (T:bd)(jU:Nat->Nat->Bool)(ops:Array Oper)(l:List c8)(K:bb->Prop):Nat->Array Bool->Rec->bb->Prop
 |0,eX,_,st=>Region.ready .any ops eX=[]/\K st
 |fuel+1,eX,rec,st=>(Region.ready .any ops eX=[]->K st) /\
  ∀i∈Region.ready .any ops eX,∃x zz dR,l[i]?=some x/\yf T jU i x rec st zz dR/\Gj T jU ops l K fuel (eX.setIfInBounds i true) zz dR
def Bk (ops:Array Oper)(eX:Array Bool):Prop :=
 eX.size=ops.size/\∀(j:Nat) (o:Oper),ops[j]?=some o->eX.getD j false=true->∀e∈o.after,Region.binds .any e=true->eX.getD e.on false=true
theorem Bk.set {eX:Array Bool}{i:Nat}(h:Bk ops eX)(M:i∈Region.ready .any ops eX):Bk ops (eX.setIfInBounds i true):=by
 refine⟨by simp[h.1],λj o ai ar e he ah=>?_⟩
 by_cases h4:j=i
 ·subst h4;obtain⟨_,Kq,bO,fi⟩:=mem_ready.1 M;rw[ai] at bO
  cases bO;exact getD_set_true (fi e he ah)
 ·rw[getD_set_ne false (Ne.symm h4)] at ar;exact getD_set_true (h.2 j o ai ar e he ah)
def TW (jU:Nat->Nat->Bool)(ops:Array Oper)(l:List c8):Prop :=
 ∀(i j:Nat) (x y:c8),i≠j->l[i]?=some x->l[j]?=some y ->
  (∀eX,Bk ops eX->i∈Region.ready .any ops eX->j∈Region.ready .any ops eX->False)\/(x4 x y=true/\Passes jU i j x y)
theorem aer {i k:Nat}{x:c8}{rec zz:Rec}{st dR:bb}(h:yf T jU i x rec st zz dR)(O:k≠i):zz k=rec k:=by
 rcases h with ⟨_,rfl,_⟩|⟨_,_,_,_,_,rfl,_⟩
 ·rfl
 ·simp[vd,O]
theorem aqj {eX:Array Bool}{i k:Nat}(h:(eX.setIfInBounds i true).getD k true=false):k≠i/\eX.getD k true=false:=by
 by_cases qv:i=k
 ·subst qv
  exfalso
  by_cases ay:i<eX.size
  ·simp[ay] at h
  ·have:(eX.setIfInBounds i true).size<=i:=by simp;omega
   rw[Array.getD_eq_getD_getElem?,Array.getElem?_eq_none this] at h;simp at h
 ·rw[getD_set_ne true qv] at h;exact⟨λcG=>qv cG.symm,h⟩
theorem aqk (aF:TW jU ops l)(TU:∀a b,jU a b=jU b a){i:Nat}{x:c8}(M:l[i]?=some x):∀(fuel:Nat) (eX:Array Bool) (rec:Rec) (st:bb) (rp:Rec) (rq:bb),
  Bk ops eX->(∀k,eX.getD k true=false->rec k=none)->i∈Region.ready .any ops eX->yf T jU i x rec st rp rq ->
  Gj T jU ops l K fuel (eX.setIfInBounds i true) rp rq->Gj T jU ops l K (fuel+1) eX rec st:=by
 intro fuel
 induction fuel with
 |zero =>
  intro eX rec st rp rq dq Bl ab he hQ;refine⟨λh=>(by rw[h] at ab;cases ab),λj ai=>?_⟩
  by_cases h4:j=i
  ·subst h4;exact⟨x,rp,rq,M,he,hQ⟩
  ·have:=ready_mono ai h4;rw[hQ.1] at this
   cases this
 |succ fuel az =>
  intro eX rec st rp rq dq Bl ab he hQ;refine⟨λh=>(by rw[h] at ab;cases ab),λj ai=>?_⟩
  by_cases h4:j=i
  ·subst h4;exact⟨x,rp,rq,M,he,hQ⟩
  ·obtain⟨y,Om,On,av,iw,dK⟩:=hQ.2 j (ready_mono ai h4);rcases aF i j x y (Ne.symm h4) M av with h5|⟨dC,aql⟩
   ·exact (h5 eX dq ab ai).elim
   ·obtain⟨Ko,Kp,F,I⟩:=yf.comm (Ne.symm h4) dC aql TU (Bl i (mem_ready.1 ab).1) he iw;refine⟨y,Ko,Kp,av,F,az _ Ko Kp Om On (dq.set ai) (λk O=>?_) (ready_mono ab (Ne.symm h4)) I ?_⟩
    ·obtain⟨af,aO⟩:=aqj O;rw[aer F af];exact Bl k aO
    ·rw[Array.setIfInBounds_comm _ _ h4];exact dK
theorem TX:∀(r:List Oper) (acc:List Nat) (k:Nat),k<(D acc)->(ql r acc).getD k 0=acc.getD k 0
 | [],acc,k,_=>rfl
 |o::r,acc,k,O=>by
  simp only[ql];rw[TX r _ k (by simp;omega)];simp only[dY];rw[rj O]
theorem aqm {es:List Edge}{acc:List Nat}{i:Nat}:∀(s:Nat),(es.foldl (λs e=>if Region.binds .any e=true then s ||| (2^e.on ||| acc.getD e.on 0) else s) s).testBit i=true ->
  s.testBit i=true\/∃e∈es,Region.binds .any e=true/\(e.on=i\/(acc.getD e.on 0).testBit i=true):=by
 induction es with
 |nil=>exact λs h => .inl h
 |cons e es az =>
  intro s h;rw[F9] at h;rcases az _ h with F|⟨e',F,I⟩
  ·split at F
   ·rename_i ah;rw[aes,aes,yg,yg] at F;rcases F with F|F|F
    ·exact .inl F
    ·rw[Nat.testBit_two_pow] at F;exact .inr ⟨e,by simp,ah,.inl (by simpa using F)⟩
    ·exact .inr ⟨e,by simp,ah,.inr F⟩
   ·exact .inl F
  ·exact .inr ⟨e',by simp[F],I⟩
theorem aet:∀(r:List Oper) (acc:List Nat) (t:Nat) (o:Oper),r[t]?=some o->∀i,((ql r acc).getD (D acc+t) 0).testBit i=true ->
  ∃e∈o.after.toList,Region.binds .any e=true/\(e.on=i\/(e.on<D acc+t/\((ql r acc).getD e.on 0).testBit i=true))
 | [],_,_,_,h,_,_=>by simp at h
 |Kq::r,acc,0,o,h,i,ah=>by
  simp at h;subst h;simp only[ql,nZ] at ah ⊢;rw[TX r _ _ (by simp)] at ah;simp only[dY] at ah;rw[ss (bZ _)] at ah;simp only[lV,zB,aeu] at ah;rcases aqm (acc:=acc) 0 (by simpa only [dY] using ah) with F|⟨e,F,I,af⟩
  ·simp at F
  ·refine⟨e,F,I,af.imp id λh=>?_⟩
   have ay:e.on<D acc:=by
    rcases il e.on (D acc) with cG|cG
    ·exact cG
    ·rw[dY,kF cG] at h;simp at h
   refine⟨ay,?_⟩;rw[TX r _ _ (by simp;omega),dY,rj ay,<-dY];exact h
 |Kq::r,acc,t+1,o,h,i,ah=>by
  have cG:r[t]?=some o:=by simpa using h
  simp only[ql] at ah ⊢
  have:=aet r (acc++[Kq.after.toList.foldl (λs e=>if Region.binds .any e=true then s ||| (2^e.on ||| acc.getD e.on 0) else s) 0]) t o cG i (by
   rw[fH,List.length_singleton,qn,A1 1 t];exact ah)
  obtain⟨e,F,I,af⟩:=this;refine⟨e,F,I,af.imp id λh=>⟨by have:=h.1;simp at this;omega,h.2⟩⟩
theorem aqn {eX:Array Bool}(dq:Bk ops eX):∀(j:Nat) (o:Oper),ops[j]?=some o->(∀e∈o.after,Region.binds .any e=true->eX.getD e.on false=true) ->
  ∀i,((ql ops.toList []).getD j 0).testBit i=true->eX.getD i false=true:=by
 intro j
 induction j using Nat.strongRecOn with
 |_ j az =>
  intro o bO fi i M;obtain⟨e,he,ah,h⟩:=aet ops.toList [] j o (by simpa using bO) i (by simpa using M);have ar:=fi e (by simpa using he) ah;rcases h with rfl|⟨ay,aqo⟩
  ·exact ar
  ·have e8:e.on<ops.size:=by
    rw[<-dq.1];rcases il e.on eX.size with cG|cG
    ·exact cG
    ·simp[Array.getElem?_eq_none cG] at ar
   have aev:ops[e.on]?=some ops[e.on]:=Array.getElem?_eq_getElem e8;exact az e.on (by simpa using ay) _ aev (dq.2 e.on _ aev ar) i aqo
theorem aew:∀(cs pre:List c8) (as:List Nat),FQ pre cs as=true->∀(t:Nat) (y:c8),cs[t]?=some y->∀(i:Nat) (x:c8),(pre++cs)[i]?=some x->i<D pre+t ->
  (as.getD t 0).testBit i=true\/x4 x y=true
 | [],_,_,_,_,_,h,_,_,_,_=>by simp at h
 |_::_,_,[],h,_,_,_,_,_,_,_=>by simp[FQ] at h
 |c::cs,pre,a::as,h,0,y,av,i,x,Q,ay=>by
  simp only[FQ,e4,kG] at h;simp at av;subst av;have M:i<D pre:=by simpa using ay
  rw[rj M] at Q;have:=h.1 (x,i) (by rw[aex];exact Q)
  simpa using this
 |c::cs,pre,a::as,h,t+1,y,av,i,x,Q,ay=>by
  simp only[FQ,e4] at h;have:=aew cs (pre++[c]) as h.2 t y (by simpa using av) i x (by simpa using Q) (by simp;omega)
  simpa using this
theorem aey:∀(cs pre:List c8) (as:List Nat) (t:Nat) (y:c8),cs[t]?=some y->∀(i:Nat) (x:c8),(pre++cs)[i]?=some x->i<D pre+t ->
  (as.getD t 0).testBit i=true\/zo (sm x.op) (sm y.op)=true\/i∈(zp pre cs as).getD t []
 | [],_,_,_,_,h,_,_,_,_=>by simp at h
 |c::cs,pre,as,0,y,av,i,x,Q,ay=>by
  simp at av;subst av;have M:i<D pre:=by simpa using ay
  rw[rj M] at Q;have gm:(x,i)∈pre.zipIdx:=by rw[aex];exact Q
  by_cases F:(as.getD 0 0).testBit i=true
  ·exact .inl F
  ·by_cases I:zo (sm x.op) (sm c.op)=true
   ·exact .inr (.inl I)
   ·refine .inr (.inr ?_);simp only[zp,dY,zB,aeu];refine List.mem_map.2 ⟨(x,i),List.mem_filter.2 ⟨gm,?_⟩,rfl⟩;have af:as.headD 0=as.getD 0 0:=by cases as<;>rfl
    simp only[af];rw[dY] at F;simp[F,I]
 |c::cs,pre,as,t+1,y,av,i,x,Q,ay=>by
  have:=aey cs (pre++[c]) as.tail t y (by simpa using av) i x (by simpa using Q) (by simp;omega);have af:as.tail.getD t 0=as.getD (t+1) 0:=by cases as<;>simp
  rw[af] at this
  simpa [zp] using this
def wM (c:List (List Nat))(i j:Nat):Bool:=if i<j then (c.getD j []).contains i else if j<i then (c.getD i []).contains j else false
theorem aez (c:List (List Nat))(i j:Nat):wM c i j=wM c j i:=by
 unfold wM
 by_cases F:i<j
 ·simp[F,aeA F]
 ·by_cases I:j<i
  ·simp[I,aeA I]
  ·simp[F,I]
theorem aqp {x y:c8}(h:x4 x y=true):x4 y x=true:=by
 obtain⟨F,I,af⟩:=ael h;unfold x4;rw[e4]
 constructor
 ·cases av:y.dst with
  |none=>rfl
  |some d =>
   have a:=af d av;have b:x.dst≠some d:=λQ=>I d Q av;simp[a,b]
 ·cases Q:x.dst with
  |none=>rfl
  |some d =>
   have a:=F d Q;simp[a]
theorem aqq (a b:Nat):zo a b=zo b a:=by
 unfold zo
 cases (a==0)<;>cases (b==0)<;>cases (a==1)<;>cases (b==1)<;>rfl
theorem aqr (aa:FT ops l=true):TW (wM (zp [] l (ql ops.toList []))) ops l:=by
 have key:∀(i j:Nat) (x y:c8),i<j->l[i]?=some x->l[j]?=some y ->
   (∀eX,Bk ops eX->i∈Region.ready .any ops eX->j∈Region.ready .any ops eX->False) \/
   (x4 x y=true/\(wM (zp [] l (ql ops.toList [])) i j=true\/zo (sm x.op) (sm y.op)=true)):=by
  intro i j x y mC Q av;unfold FT at aa;rw[e4] at aa
  by_cases ah:((ql ops.toList []).getD j 0).testBit i=true
  ·refine .inl λeX dq M ai=>?_;obtain⟨_,o,bO,fi⟩:=mem_ready.1 ai;have F:=aqn dq j o bO fi i ah;have ao:=(mem_ready.1 M).1;rcases il i eX.size with cG|cG
   ·simp[cG] at ao F;rw[ao] at F;cases F
   ·simp[Array.getElem?_eq_none cG] at F
  ·refine .inr ⟨?_,?_⟩
   ·rcases aew l [] _ aa.2 j y av i x (by simpa using Q) (by simpa using mC) with h|h
    ·exact absurd h ah
    ·exact h
   ·rcases aey l [] (ql ops.toList []) j y av i x (by simpa using Q) (by simpa using mC) with h|h|h
    ·exact absurd h ah
    ·exact .inr h
    ·exact .inl (by unfold wM;rw[ad mC];exact aeB.2 h)
 intro i j x y mC Q av;rcases Nat.lt_or_gt_of_ne mC with h|h
 ·exact key i j x y h Q av
 ·rcases key j i y x h av Q with F|⟨F,I⟩
  ·exact .inl λeX dq M ai=>F eX dq ai M
  ·refine .inr ⟨aqp F,?_⟩;rcases I with I|I
   ·exact .inl (by rw[aez];exact I)
   ·exact .inr (by rw[aqq];exact I)
end Go.Mini
namespace Go.Mini
open Go
variable {P:Program} {T:bd} {A:Nat->Prop} {en w:World} {hi B:e9} {mem:Mem} {n kb:Nat} {own:List Nat} {ops:Array Oper} {l:List c8} {K:bb->Prop} {aN:Exit->Act->World->Prop}
theorem aeC:∀(r:List Oper) (m:Nat),FR m r=true->∀(t:Nat) (o:Oper),r[t]?=some o->∀e∈o.after,Region.binds .any e=true->e.on<m+t
 | [],_,_,_,_,h,_,_,_=>by simp at h
 |Kq::r,m,h,0,o,bO,e,he,ah=>by
  simp only[FR,e4] at h;simp at bO;subst bO;have:=(Array.all_eq_true_iff_forall_mem.1 h.1) e he
  simpa [ah] using this
 |Kq::r,m,h,t+1,o,bO,e,he,ah=>by
  simp only[FR,e4] at h;have:=aeC r (m+1) h.2 t o (by simpa using bO) e he ah;omega
theorem aeD {c:List (List Nat)}(aF:TW (wM c) ops l)(ar:(D l)=ops.size)(he:FR 0 ops.toList=true):∀(r:List c8) (m:Nat) (rec:Rec) (st:bb) (eX:Array Bool),l.drop m=r->m+D r=(D l) ->
  eX.size=ops.size->(∀i,i<ops.size->eX.getD i true=decide (i<m))->(∀k,m<=k->rec k=none)->wE T K m r (c.drop m) rec st->Gj T (wM c) ops l K (D r) eX rec st
 | [],m,rec,st,eX,ab,hm,X,hli,Bl,h=>by
  refine⟨List.eq_nil_iff_forall_not_mem.2 λi M=>?_,h⟩;obtain⟨F,o,bO,_⟩:=mem_ready.1 M;have ay:i<ops.size:=(Array.getElem?_eq_some_iff.1 bO).1;rw[hli i ay] at F;simp at F hm;omega
 |x::r,m,rec,st,eX,ab,hm,X,hli,Bl,h=>by
  have ay:m<ops.size:=by simp at hm;omega
  have bO:ops[m]?=some ops[m]:=Array.getElem?_eq_getElem ay
  have Q:l[m]?=some x:=by
   have:(l.drop m)[0]?=some x:=by rw[ab];rfl
   simpa using this
  have jA:=λ(j:Nat) (o:Oper) (ai:ops[j]?=some o)=>aeC ops.toList 0 he j o (by simpa using ai)
  have cD:∀i,i<m->eX.getD i false=true:=λi M=>by
   have F:=hli i (by omega);rw[lq M] at F;have I:i<eX.size:=by omega
   simpa [I] using F
  have dq:Bk ops eX:=⟨X,λj o ai ji e pJ ah=>by
   have F:=jA j o ai e pJ ah;have pG:j<ops.size:=(Array.getElem?_eq_some_iff.1 ai).1
   have I:j<m:=by
    have:=hli j pG;have af:j<eX.size:=by omega
    simp[af] at ji this;rw[ji] at this
    simpa using this.symm
   exact cD _ (by omega)⟩
  have aqs:m∈Region.ready .any ops eX:=mem_ready.2 ⟨by rw[hli m ay];simp,_,bO,λe pJ ah=>cD _ (by have:=jA m _ bO e pJ ah;omega)⟩
  have aqt:∀k,eX.getD k true=false->rec k=none:=λk O=>Bl k (by
   rcases il k ops.size with cG|cG
   ·rw[hli k cG] at O
    simpa using O
   ·omega)
  have next:∀rp rq,yf T (wM c) m x rec st rp rq->wE T K (m+1) r (c.drop m).tail rp rq->Gj T (wM c) ops l K (D r+1) eX rec st:=by
   intro rp rq hex O;refine aqk aF (aez c) Q _ eX rec st rp rq dq aqt aqs hex (aeD aF ar he r (m+1) rp rq _ ?_ (by simp at hm;omega) (by simpa using X) (λi M=>?_) (λk O=>?_) ?_)
   ·rw[<-Gk,ab]
    rfl
   ·by_cases him:m=i
    ·subst him;have:m<eX.size:=by omega
     simp[this]
    ·rw[getD_set_ne true him,hli i M]
     congr 1
     simp;omega
   ·rw[aer hex (by omega)];exact Bl k (by omega)
   ·rw[List.tail_drop] at O;exact O
  simp only[wE] at h
  split at h
  ·cases h
  ·rename_i g a7
   split at h
   ·rename_i iW;subst iW
    split at h
    ·rename_i b6 e X;refine next _ _ (.inr ⟨a7,b6,e,X,λp q mD aT=>?_,rfl,rfl⟩) h.2
     have nY:p<m:=by
      rcases il p m with cG|cG
      ·exact cG
      ·rw[Bl p cG] at aT;cases aT
     have TY:=h.1;unfold FM at TY;rw[kG] at TY
     have gm:p∈(c.drop m).headD []:=by
      unfold wM at mD;rw[ad nY] at mD
      have:(c.drop m).headD []=c.getD m []:=by
       rw[List.headD_eq_head?_getD,List.head?_drop,dY]
      rw[this];exact aeB.1 mD
     have:=TY p gm;rw[aT] at this;exact this
    ·cases h
   ·rename_i aqu;have aqv:g=false:=by simpa using aqu
    subst aqv;exact next _ _ (.inl ⟨a7,rfl,rfl⟩) h
theorem Kr (h:fr A w B mem):fr (cg A B) w (λ_=>none) emp :=
 ⟨λ_ _=>rfl,λ_ _ _ _ _ h=>(by cases h),λb _ ⟨_,_,h,_⟩=>(by cases h),λb ah=>ah.elim (λcG=>h.xY cG) (h.lt b),λ_ _ _ h=>(by cases h)⟩
theorem zC (b:Nat):cg (cg A B) (λ_=>none) b↔cg A B b :=
 ⟨λh=>h.elim (fun⟨_,_,h,_⟩=>by cases h) id,.inr⟩
theorem aeE {m:R}{v:Value}(h:bs w (cg A B) B m v):bs w (cg (cg A B) λ_=>none) (λ_=>none) (qk m) v:=by
 cases h with
 |J h=>exact .J (h.less λb ah=>(zC b).1 ah)
 |nil=>exact .nil
 |fu ar aa =>
  rename_i f eP vs
  cases eP with
  |nil=>exact .fu ar λi d v h=>by simp at h
  |cons c r=>exact .undef
 |agg ar aa =>
  rename_i cs vs;simp only[qk]
  cases H:cs.mapM vb with
  |none=>exact .undef
  |some ds =>
   obtain⟨F,I⟩:=oB H;refine .J (.agg (ar.trans F.symm) λi d v M aA=>?_);have ay:i<D cs:=by have:=(dP.1 M).1;omega
   have jT:=bx ay;exact (adJ (I i _ d jT M) (aa i _ v jT aA)).less λb ah=>(zC b).1 ah
 |_=>exact .undef
theorem shut_list {ms:List R}{vs:List Value}(h:dp w (cg A B) B ms vs):dp w (cg (cg A B) λ_=>none) (λ_=>none) (ms.map qk) vs:=by
 refine⟨by simpa using h.1,λi m v hm aA=>?_⟩
 rw[bl,eb] at hm;obtain⟨m',n2,rfl⟩:=hm;exact aeE (h.2 i m' v n2 aA)
theorem Bi.less {w aR:World}{aZ mr:Nat->Prop}{sz:Nat}{es:List (List Data)}{v:Value}(ar:∀b,mr b->aZ b)(h:Bi w aR aZ sz es v):Bi w aR mr sz es v:=by
 obtain⟨F,a,cap,I,af,aO,bm⟩:=h;refine⟨F,a,cap,I,af,aO,bm.imp id ?_⟩;rintro⟨b,vs,T,bK,bP,cl,jn,gq⟩;exact⟨b,vs,T,bK,bP,cl,jn,λi d aa=>let ⟨u,hu,tD⟩:=gq i d aa;⟨u,hu,tD.less λfs kE=>kE.imp (ar fs) id⟩⟩
theorem Ds {o:Oper}{c:Call}{f:FuncId}{a:Act}(bO:o.op=.call c)(mB:c.callee=.value (.func f))(mA:Real P f):(execOp a.eval o).run P w=.ok (.enter f (c.args.toList.map a.eval).toArray) w:=by
 obtain⟨dst,op,type,pos,after,guard⟩:=o;simp only at bO;subst bO;obtain⟨callee,zy,Oi⟩:=c;simp only at mB;subst mB;simp only[execOp,resolve,Deferred.ofValue,Act.eval,invoke,Sem.run_bind,Sem.run_pure,Result.andThen_ok,Oh mA];rw[Bf zy];simp
theorem aeF {aZ:Nat->Prop}{b off c sz len:Nat}{vs:Array Value}{T:TypeId}{ds:List Data}(aU:w.heap[b]?=some (.cells vs T (0,0)))(fJ:¬ aZ b)(ar:(D ds)=len*sz)(Ou:len<=c)(hm:len<=maxLen)(Ka:off+len*sz<=vs.size)
  (aa:∀(i:Nat) (d:Data) (v:Value),ds[i]?=some d->vs[off+i]?=some v->Den w aZ d v):Den w aZ (.Y (chunk sz len ds)) (.slice (some ⟨b,off,none⟩) len c):=by
 have dq:=Oa sz len ds
 have h:=Den.Y (w:=w) (aZ:=aZ) (es:=chunk sz len ds) (b:=b) (off:=off) (c:=c) (sz:=sz) (λi=>vs.getD (off+i) undef) (by rw[dq];exact Ou) (by rw[dq];exact hm)
  (Array.getElem?_eq_some_iff.1 aU).1 fJ (Ob sz len ds ar)
  (λi M=>by
   rw[dq] at M;rw[cell_of_row w b (off+i) vs T (0,0) aU];have:off+i<vs.size:=by omega
   simp[this])
  (λi d k0=>by
   rw[Oc sz len ds ar] at k0;have ay:i<D ds:=(dP.1 k0).1;have k5:off+i<vs.size:=by omega
   have:vs.getD (off+i) undef=vs[off+i]:=by simp[k5]
   simp only[this];exact aa i d _ k0 (Array.getElem?_eq_getElem k5))
 rw[dq] at h;exact h
theorem aqw {mem:Mem}{k g sz off len:Nat}{cs:List R}{d:Data}(hm:mem k=some (g,cs))(h:J0 sz off len cs=some d):cE 1 mem (.ref k g sz off len)=some d:=by
 have aX:∀(m:R) (d:Data),vb m=some d->cE 0 mem m=some d:=λm d h=>by
  unfold vb at h
  split at h<;>simp_all [cE]
 have ar:∀(l:List R) (ds:List Data),l.mapM vb=some ds->l.mapM (cE 0 mem)=some ds:=by
  intro l
  induction l with
  |nil=>intro ds h;simpa using h
  |cons m l az =>
   intro ds h;simp only[lu,g9,hg,eo,cn] at h ⊢;obtain⟨x,Q,Dt,g1,rfl⟩:=h;exact⟨x,aX m x Q,Dt,az Dt g1,rfl⟩
 unfold J0 at h
 split at h
 ·rename_i part aF;simp only[To,eb] at h;obtain⟨ds,g1,rfl⟩:=h;simp only[cE,hm,if_true,aF];rw[ar _ _ g1]
  rfl
 ·cases h
theorem Ks {k:Key}{g sz off len:Nat}{cs:List R}{d:Data}{v:Value}(b2:fr A w B mem)(O:mem k=some (g,cs))(aa:cE 1 mem (.ref k g sz off len)=some d)(aA:bs w (cg A B) B (.ref k g sz off len) v):
  Den w (cg A (gB B k ⟨bV mem k,none,0⟩)) d v:=by
 have fJ:∀b,cg A (gB B k ⟨bV mem k,none,0⟩) b->cg A B b:=λb h=>h.imp (fun⟨j,e,ai,Q⟩=>by
  by_cases ea:j=k
  ·subst ea;rw[hf] at ai;cases ai;cases Q
  ·rw[g8 B _ ea] at ai;exact⟨j,e,ai,Q⟩) id
 simp only[cE,O,if_true] at aa
 split at aa
 ·rename_i part TZ;simp only[eb] at aa;obtain⟨ds,g1,rfl⟩:=aa;obtain⟨dq,rfl,nY⟩:=FX TZ;obtain⟨F,I⟩:=oB g1
  cases aA with
  |ref he hgle ab =>
   obtain⟨e,gz,cj,aL,ah⟩:=b2.at_ O;rw[gz] at he;obtain rfl:=o3 he;obtain⟨a,cap,rfl,af,aO,bm⟩:=ab;rcases bm with bm|⟨b,rfl,bK⟩
   ·have:len=0:=by omega
    subst this;simp only[chunk];exact .lS
   ·obtain⟨bP,cl⟩:=bK cj.symm;obtain⟨vs,T,aU,aX,hle,b0⟩:=ah b bP
    have aqx:¬ cg A (gB B k ⟨bV mem k,none,0⟩) b:=by
     rintro (⟨j,aD,ai,Q⟩|aP)
     ·by_cases ea:j=k
      ·subst ea;rw[hf] at ai;cases ai;cases Q
      ·rw[g8 B _ ea] at ai;exact ea (b2.inj j k aD _ b ai gz Q bP)
     ·exact b2.sep b aP ⟨k,_,gz,bP⟩
    refine aeF aU aqx (by omega) af (by omega) (by omega) λi x u Q hu=>?_;have ay:i<D ds:=(dP.1 Q).1;have k5:off+i<D cs:=by omega
    have jT:((cs.drop off).take (len*sz))[i]?=some cs[off+i]:=by
     rw[pL (by omega),lv,bx k5]
    have vq:=I i _ x jT Q
    have mW:bs w (cg A B) B cs[off+i] u:=b0.2 (off+i) _ u (bx k5) (by
     rw[pL k5,Array.getElem?_toList];exact hu)
    generalize cs[off+i]=m at *
    cases m<;>simp only[cE,cn,reduceCtorEq] at vq
    ·subst vq
     cases mW with
     |J h=>exact h.less fJ
    ·subst vq
     cases mW;exact .lS
 ·cases aa
theorem aqy {mr:Nat->Prop}{bu:e9}(fJ:∀b,mr b->cg A B b){m:R}{v:Value}(h:bs w (cg A B) B m v):bs w mr bu (qk m) v:=by
 have ao:=aeE h;have aqz:∀b,mr b->cg (cg A B) (λ_=>none) b:=λb ah=>(zC b).2 (fJ b ah)
 have go:∀{m:R},(∃d,m=.J d)\/m=.nil\/(∃f,m=.fu f [])\/m=.undef->bs w (cg (cg A B) λ_=>none) (λ_=>none) m v->bs w mr bu m v:=by
  intro m hm h;rcases hm with ⟨d,rfl⟩|rfl|⟨f,rfl⟩|rfl
  ·cases h with
   |J h=>exact .J (h.less aqz)
  ·cases h;exact .nil
  ·cases h with
   |fu ar aa=>exact .fu ar λi d v h=>by simp at h
  ·exact .undef
 refine go ?_ ao
 cases m<;>simp only[qk]
 case J d=>simp
 case nil=>simp
 case fu f eP=>cases eP<;>simp
 case agg cs=>split<;>simp
 all_goals simp
theorem aqA {k:Key}{g:Nat}{cs:List R}(h:fr A w B mem)(O:mem k=some (g,cs))(aa:nV cs=true):
  fr (λb=>A b\/∃j e,j≠k/\B j=some e/\e.dx=some b) w (λj=>if j=k then B k else none) (a4 emp k g cs):=by
 have fJ:∀b,cg (λb=>A b\/∃j e,j≠k/\B j=some e/\e.dx=some b) (λj=>if j=k then B k else none) b->cg A B b:=λb ah=>by
  rcases ah with ⟨j,e,ai,Q⟩|aP|⟨j,e,_,ai,Q⟩
  ·by_cases ea:j=k
   ·subst ea;simp only[if_true] at ai;exact .inl ⟨_,e,ai,Q⟩
   ·simp only[ea,if_false] at ai;cases ai
  ·exact .inr aP
  ·exact .inl ⟨j,e,ai,Q⟩
 refine⟨λj ai=>?_,λj lT e e' b F I _ _=>?_,λb aP bO=>?_,λb ah=>?_,λj c6 nm ai=>?_⟩
 ·by_cases ea:j=k
  ·subst ea;simp[a4] at ai
  ·simp only[ea,if_false]
 ·by_cases ai:j=k<;>by_cases pG:lT=k
  ·rw[ai,pG]
  ·simp only[pG,if_false] at I;cases I
  ·simp only[ai,if_false] at F;cases F
  ·simp only[ai,if_false] at F;cases F
 ·obtain⟨j,e,ai,Q⟩:=bO
  by_cases ea:j=k
  ·subst ea;simp only[if_true] at ai;rcases aP with aP|⟨lT,e',bG,pG,vq⟩
   ·exact h.sep b aP ⟨_,e,ai,Q⟩
   ·exact bG (h.inj _ _ e' e b pG ai vq Q)
  ·simp only[ea,if_false] at ai;cases ai
 ·rcases ah with ah|⟨j,e,_,ai,Q⟩
  ·exact h.lt b ah
  ·exact h.xY ⟨j,e,ai,Q⟩
 ·by_cases ea:j=k
  ·subst ea;simp only[a4,if_true,cn,fb] at ai;obtain⟨rfl,rfl⟩:=ai;obtain⟨e,he,a7,aL,ah⟩:=h.dx _ _ _ O;refine⟨e,by simp only[if_true];exact he,a7,aL,λb iS=>?_⟩
   obtain⟨vs,T,aU,aX,hle,ab⟩:=ah b iS;refine⟨vs,T,aU,aX,hle,λi m M=>?_⟩;obtain⟨v,aA,vm⟩:=ab i m M;refine⟨v,aA,?_⟩;unfold nV at aa;rw[kG] at aa;have hm:=aa m (ec M);rw[adU] at hm;obtain⟨d,hm⟩:=hm;unfold vb at hm
   split at hm<;>cases hm
   ·cases vm with
    |J vm=>exact .J (vm.less fJ)
   ·cases vm;exact .nil
  ·simp only[a4,ea,if_false,emp] at ai;cases ai
theorem aqB {aR:World}{k:Key}{va:Nat->Prop}(h:fr A w B mem)(aqC:∀b,va b->∃e,B k=some e/\e.dx=some b)(f:Fr va w aR):eE A w B aR (gB B k ⟨bV mem k,none,0⟩) (a4 mem k (bV mem k) []) :=
 eE.change (e':=⟨bV mem k,none,0⟩) h ⟨f.os,f.tape,f.output,f.size,λb ah bO=>f.block b ah λQ=>bO (aqC b Q)⟩ (λe he => .inr (Db h k e he)) (λb ah=>by simp at ah) (λ_=>rfl) (λb ah=>by simp at ah)
theorem aqD (cQ:qu P T){a:Act}{st:bb}{o:Oper}{i:c8}{m:R}{e:Option (Key×Nat×List R)}(h:hG n A en hi a st w B)(M:TQ P n kb own ops o i)
  (X:hs T st.mem st.tm i.op=some (m,e)):o.wp P a w (λkH aR=>∃bu,hG n A en hi kH ⟨put st.tm i.dst m,ik st.mem e⟩ aR bu) aN:=by
 have mX:=M.op
 have plain:cw st.mem st.tm i.op=some (m,e)->o.wp P a w (λkH aR=>∃bu,hG n A en hi kH ⟨put st.tm i.dst m,ik st.mem e⟩ aR bu) aN:=by
  intro X
  have a1:jP P kb own o.dst o.type o.op=some i.op:=getD_some mX (by
   intro ah;rw[ah] at X
   cases X)
  obtain⟨Gi,v,aR,bu,mZ,hO,dv,aA⟩:=ad0 h.ok.dV h.tE a1 X;unfold Oper.wp;rw[mZ,M.dst];have Kn:=h.put dv aA M.lt;rcases hO with rfl|⟨rfl,rfl⟩
  ·exact⟨bu,Kn⟩
  ·exact⟨bu,Kn⟩
 cases tH:i.op with
 |call f args =>
  have a1:jP P kb own o.dst o.type o.op=some i.op:=getD_some mX (by rw[tH];simp);rw[tH] at a1 X;obtain⟨c,H,mB,n0⟩:=ad5 a1;have b0:=shut_list (yb h.tE n0);rw[nq] at b0;simp only[hs] at X
  split at X
  ·rename_i r iu
   cases X;obtain⟨mA,jA⟩:=cQ f _ _ _ iu;have ht:=jA (cg A B) w (λ_=>none) _ (Kr h.ok.dV) b0;unfold Oper.wp;rw[Ds H mB mA,M.dst];refine Calls.mono ht λe aR he=>?_;obtain⟨v,rfl,bT,aa⟩:=he;exact⟨B,h.put (.still h.ok.dV bT) (.J (aa.less λb ah=>(zC b).2 ah)) M.lt⟩
  ·rename_i sz es iu
   cases X;obtain⟨mA,jA⟩:=cQ f _ _ _ iu;have ht:=jA (cg A B) w (λ_=>none) _ (Kr h.ok.dV) b0;unfold Oper.wp;rw[Ds H mB mA,M.dst];refine Calls.mono ht λe aR he=>?_;obtain⟨v,rfl,bT,aa⟩:=he;exact⟨B,h.put (.still h.ok.dV bT) (.J ((aa.less λb ah=>(zC b).2 ah).den λb ah=>ah.elim (λcG=>h.ok.dV.xY cG) (h.ok.dV.lt b))) M.lt⟩
  ·cases X
 |nT k sz f args =>
  have a1:jP P kb own o.dst o.type o.op=some i.op:=getD_some mX (by rw[tH];simp);rw[tH] at a1 X;obtain⟨c,H,mB,n0⟩:=ad6 a1;have b0:=shut_list (yb h.tE n0);rw[nq] at b0;simp only[hs] at X
  split at X
  ·rename_i eu es iu
   split at X
   ·rename_i e8;subst e8
    cases X;obtain⟨mA,jA⟩:=cQ f _ _ _ iu;have ht:=jA (cg A B) w (λ_=>none) _ (Kr h.ok.dV) b0;unfold Oper.wp;rw[Ds H mB mA,M.dst];refine Calls.mono ht λe aR he=>?_;obtain⟨v,rfl,bT,aa⟩:=he;obtain⟨bu,dv,aA⟩:=ad4 k h.ok.dV bT (aa.less λb ah=>(zC b).2 ah);exact⟨bu,h.put dv aA M.lt⟩
   ·cases X
  ·cases X
 |mw cH f args =>
  have a1:jP P kb own o.dst o.type o.op=some i.op:=getD_some mX (by rw[tH];simp);rw[tH] at a1 X;obtain⟨c,H,mB,n0⟩:=apO a1;have b0:=yb h.tE n0;simp only[hs] at X;obtain⟨r,k,g,aJz,cc,cs,iu,hm,rfl,rfl,aI⟩:=aeg X;obtain⟨mA,jA⟩:=cQ f _ _ _ iu;have ht:=jA A w B _ h.ok.dV b0;unfold Oper.wp;rw[Ds H mB mA,M.dst];refine Calls.mono ht λe aR he=>?_;obtain⟨v,bu,rfl,dv,aA⟩:=he;refine⟨bu,?_⟩;have o0:re st.mem k=cs:=by simp only[re,hm]
  rw[o0] at dv;exact h.put dv aA M.lt
 |tr j f args =>
  have a1:jP P kb own o.dst o.type o.op=some i.op:=getD_some mX (by rw[tH];simp);rw[tH] at a1 X;obtain⟨c,H,mB,n0⟩:=apP a1;have Bm:=yb h.tE n0;simp only[hs] at X;obtain⟨k,g,sz,off,len,cs,d,r,Q,hm,aa,ab,rfl,rfl⟩:=aee X;have ok:=eE.x6 h.ok.dV k
  have ay:j<(c.args.toList.map a.eval).length:=by
   rw[Bm.1];exact (dP.1 Q).1
  have Kb:=bx ay;have tD:=Ks h.ok.dV hm (aqw hm aa) (Bm.2 j _ _ Q Kb);have Ov:=shut_list (Bm.q8 ok.mV);rw[nq] at Ov
  have Ow:dp w (cg (cg A (gB B k ⟨bV st.mem k,none,0⟩)) λ_=>none) (λ_=>none) ((args.map (qk ∘ a6 st.tm)).set j (.J d)) (c.args.toList.map a.eval):=by
   refine⟨by rw[Ov.1,hP],λi m v F I=>?_⟩
   by_cases h4:j=i
   ·subst h4;rw[Kb] at I
    cases I;have ji:j<(args.map (qk ∘ a6 st.tm)).length:=by rw[<-Ov.1];exact ay
    rw[Kt ji] at F
    cases F;exact .J (tD.less λb ah=>(zC b).1 ah)
   ·rw[aeG h4] at F;exact Ov.2 i m v F I
  unfold NZ at ab
  split at ab
  ·rename_i FV iu
   cases ab;obtain⟨mA,jA⟩:=cQ f _ _ _ iu;have ht:=jA (cg A (gB B k ⟨bV st.mem k,none,0⟩)) w (λ_=>none) _ (Kr ok.dV) Ow;unfold Oper.wp;rw[Ds H mB mA,M.dst];refine Calls.mono ht λe aR he=>?_;obtain⟨v,rfl,bT,nn⟩:=he;exact⟨_,h.put (ok.trans (.still ok.dV bT)) (.J (nn.less λb ah=>(zC b).2 ah)) M.lt⟩
  ·rename_i eu es iu
   cases ab;obtain⟨mA,jA⟩:=cQ f _ _ _ iu;have ht:=jA (cg A (gB B k ⟨bV st.mem k,none,0⟩)) w (λ_=>none) _ (Kr ok.dV) Ow;unfold Oper.wp;rw[Ds H mB mA,M.dst];refine Calls.mono ht λe aR he=>?_;obtain⟨v,rfl,bT,nn⟩:=he;exact⟨_,h.put (ok.trans (.still ok.dV bT)) (.J ((nn.less λb ah=>(zC b).2 ah).den λb ah=>ah.elim (λcG=>ok.dV.xY cG) (ok.dV.lt b))) M.lt⟩
  ·cases ab
 |sj j f args =>
  have a1:jP P kb own o.dst o.type o.op=some i.op:=getD_some mX (by rw[tH];simp);rw[tH] at a1 X;obtain⟨c,H,mB,n0⟩:=apQ a1;have Bm:=yb h.tE n0;simp only[hs] at X;obtain⟨k,g,sz,off,len,c6,cs,r,Q,hm,aa,iu,rfl,rfl⟩:=aef X;have b2:=aqA h.ok.dV hm aa
  have aqE:∀b,cg (λb=>A b\/∃j e,j≠k/\B j=some e/\e.dx=some b) (λj=>if j=k then B k else none) b->cg A B b:=λb ah=>by
   rcases ah with ⟨yh,e,ai,tI⟩|aP|⟨yh,e,_,ai,tI⟩
   ·by_cases ea:yh=k
    ·simp only[ad ea] at ai;exact .inl ⟨k,e,ai,tI⟩
    ·simp only[ag ea] at ai;cases ai
   ·exact .inr aP
   ·exact .inl ⟨yh,e,ai,tI⟩
  have ay:j<(c.args.toList.map a.eval).length:=by
   rw[Bm.1];exact (dP.1 Q).1
  have Kb:=bx ay
  have Ow:dp w (cg (λb=>A b\/∃j e,j≠k/\B j=some e/\e.dx=some b) (λj=>if j=k then B k else none)) (λj=>if j=k then B k else none) ((args.map λx=>qk (a6 st.tm x)).set j (.ref k g sz off len)) (c.args.toList.map a.eval):=by
   refine⟨by rw[Bm.1,hP,al,al],λi m v F I=>?_⟩
   by_cases h4:j=i
   ·subst h4
    have ji:j<(args.map λx=>qk (a6 st.tm x)).length:=by
     have:=(dP.1 Q).1
     simpa using this
    rw[Kt ji] at F
    cases F;have aA:=Bm.2 j _ v Q I
    cases aA with
    |ref he a7 ab=>exact .ref (by simp only[if_true];exact he) a7 ab
   ·rw[aeG h4,bl,eb] at F;obtain⟨y,av,rfl⟩:=F;exact aqy aqE (Bm.2 i (a6 st.tm y) v (by rw[bl,av];rfl) I)
  obtain⟨mA,jA⟩:=cQ f _ _ _ iu;have ht:=jA _ w _ _ b2 Ow;unfold Oper.wp;rw[Ds H mB mA,M.dst];refine Calls.mono ht λe aR he=>?_;obtain⟨v,A2,rfl,dv,aA⟩:=he;refine⟨_,h.put (aqB h.ok.dV (λb ah=>?_) dv.aE) ?_ M.lt⟩
  ·obtain⟨yh,e,ai,tI⟩:=ah
   by_cases ea:yh=k
   ·simp only[ad ea] at ai;exact⟨e,ai,tI⟩
   ·simp only[ag ea] at ai;cases ai
  ·cases aA with
   |J aA =>
    refine .J (aA.less λb ah=>?_);rcases ah with ⟨yh,e,ai,tI⟩|aP
    ·by_cases ea:yh=k
     ·rw[ea,hf] at ai;cases ai;cases tI
     ·rw[g8 B _ ea] at ai;exact .inr (.inr ⟨yh,e,ea,ai,tI⟩)
    ·exact .inr (.inl aP)
 |jM f args=>rw[tH] at X;cases X
 |q9 neg x=>rw[tH] at X;cases X
 |_=>exact plain (by rw[tH] at X ⊢;exact X)
theorem aeH {α β:Type}{f:α->Option β}{xs:List α}{ys:List β}(h:xs.mapM f=some ys){i:Nat}{x:α}(Q:xs[i]?=some x):∃y,ys[i]?=some y/\f x=some y:=by
 obtain⟨F,I⟩:=oB h;have ay:i<D ys:=by rw[F];exact (dP.1 Q).1
 exact⟨_,bx ay,I i x _ Q (bx ay)⟩
theorem T0 (cQ:qu P T){jU:Nat->Nat->Bool}(a1:ops.toList.mapM (A9 P n kb own ops)=some l)(e5:∀st a w B,K st->hG n A en hi a st w B->aN .normal a w):
  ∀(fuel:Nat) (eX:Array Bool) (rec:Rec) (st:bb) (a:Act) (w:World) (B:e9),hG n A en hi a st w B->Gj T jU ops l K fuel eX rec st->wpAny P .any ops aN fuel eX a w
 |0,_,_,_,_,_,_,X,h=>⟨h.1,e5 _ _ _ _ h.2 X⟩
 |fuel+1,eX,rec,st,a,w,B,X,h=>by
  refine⟨λao=>e5 _ _ _ _ (h.1 ao) X,λi M=>?_⟩;obtain⟨x,zz,dR,Q,hex,O⟩:=h.2 i M;obtain⟨_,o,bO,_⟩:=mem_ready.1 M;obtain⟨y,av,T1⟩:=aeH a1 (i:=i) (x:=o) (by simpa using bO);rw[Q] at av
  cases av;have yi:=ad7 T1;unfold wpOp;simp only[bO];rcases hex with ⟨a7,rfl,rfl⟩|⟨a7,m,e,aqF,_,rfl,rfl⟩
  ·rw[TP X yi.guard a7,ag (by simp)];exact T0 cQ a1 e5 fuel _ _ _ _ _ B (by rw[yi.dst];exact X.put (.refl X.ok.dV) .no yi.lt) O
  ·rw[TP X yi.guard a7,ad rfl];refine .inl (Oper.wp_mono (λkH aR ⟨bu,iV⟩=>T0 cQ a1 e5 fuel _ _ _ _ _ bu iV O) (aqD cQ X yi aqF))
theorem hG.drew {a:Act}{st:bb}(h:hG n A en hi a st w B)(d:Nat):hG n A en hi a st { w with drawn:=d } B:=by
 have X:eE A w B { w with drawn:=d } B st.mem:=.still h.ok.dV ((Fr.refl _ _).drew d);exact⟨h.ok.trans X,λs=>(h.tm s).q8 X.mV,h.sz,h.Kl⟩
theorem aqG (cQ:qu P T)(hm:P.follows .mixedOrders=true){id:Nat}{a:Act}{st:bb}(a1:ops.toList.mapM (A9 P n kb own ops)=some l)(aa:FT ops l=true)(X:hG n A en hi a st w B)
  (h:wE T K 0 l (zp [] l (ql ops.toList [])) (λ_=>none) st) (e5:∀st a w B,K st->hG n A en hi a st w B->aN .normal a w):(Code.region id ops true).wp P aN a w:=by
 refine wp_region_any hm ?_
 have ar:(D l)=ops.size:=by
  rw[(oB a1).1,Array.length_toList]
 have Ku:=aeD (aqr aa) ar (by unfold FT at aa;rw[e4] at aa;exact aa.1) l 0 (λ_=>none) st (Array.replicate ops.size false) rfl (by simp) (by simp) (λi M=>by simp[M]) (λ_ _=>rfl) h;rw[ar] at Ku;exact T0 cQ a1 e5 ops.size _ _ _ _ _ B (X.drew _) Ku
theorem T2 (cQ:qu P T)(a1:ops.toList.mapM (A9 P n kb own ops)=some l)(e5:∀st a w B,K st->hG n A en hi a st w B->aN .normal a w):
  ∀(r:List c8) (m:Nat) (st:bb) (a:Act) (w:World) (B:e9),l.drop m=r->hG n A en hi a st w B->x1 T K r st->wpOps P ops aN (List.range' m (D r)) a w
 | [],_,_,_,_,_,_,X,h=>e5 _ _ _ _ h X
 |x::r,m,st,a,w,B,ab,X,h=>by
  have Q:l[m]?=some x:=by
   have:(l.drop m)[0]?=some x:=by rw[ab];rfl
   simpa using this
  have Ga:l.drop (m+1)=r:=by rw[<-Gk,ab];rfl
  have ay:m<ops.size:=by
   have F:=(oB a1).1;have I:=(dP.1 Q).1;simp at F;omega
  have bO:ops[m]?=some ops[m]:=Array.getElem?_eq_getElem ay;obtain⟨y,av,T1⟩:=aeH a1 (i:=m) (x:=ops[m]) (by simp);rw[Q] at av
  cases av;have yi:=ad7 T1;simp only[hN,List.range'_succ];rw[wpOps_cons];unfold wpOp;simp only[bO];simp only[x1] at h
  split at h
  ·cases h
  ·rename_i g a7;rw[TP X yi.guard a7]
   cases g with
   |true =>
    simp only[if_true] at h ⊢;exact .inl (Oper.wp_mono (λkH aR ⟨dR,bu,O,iV⟩=>T2 cQ a1 e5 r (m+1) dR kH aR bu Ga iV O) (apW cQ X yi h))
   |false =>
    simp only[kX,if_false] at h ⊢;exact T2 cQ a1 e5 r (m+1) _ _ _ B Ga (X.put (.refl X.ok.dV) .no yi.lt) (by rw[<-yi.dst];exact h)
end Go.Mini
namespace Go.Mini
open Go
variable {A:Nat->Prop} {w:World} {B:e9} {mem:Mem}
theorem aeI (b2:fr A w B mem){aZ:Nat->Prop}(fJ:∀b,aZ b->A b){k:Key}{e:mu}{b:Nat}(he:B k=some e)(ah:e.dx=some b):¬ aZ b :=
 λh=>b2.sep b (fJ b h) ⟨k,e,he,ah⟩
theorem snap (b2:fr A w B mem){aZ:Nat->Prop}(fJ:∀b,aZ b->A b):∀(d:Nat) (m:R) (v:Value) (r:Data),cE d mem m=some r->bs w (cg A B) B m v->Den w aZ r v:=by
 have aeJ:∀(d:Data) (v:Value),bs w (cg A B) B (.J d) v->Den w aZ d v:=λd v h=>by
  cases h with
  |J h=>exact h.less λb ah => .inr (fJ b ah)
 have Ox:∀v,bs w (cg A B) B .nil v->Den w aZ (.Y []) v:=λv h=>by
  cases h;exact .lS
 intro d
 induction d with
 |zero =>
  intro m v r h aA
  cases m<;>simp only[cE,cn,reduceCtorEq] at h
  ·subst h;exact aeJ _ _ aA
  ·subst h;exact Ox _ aA
 |succ d az =>
  intro m v r h aA
  have lists:∀(cs:List R) (vs:List Value) (ds:List Data),cs.mapM (cE d mem)=some ds->(D vs)=(D cs)->(∀(i:Nat) (x:R) (u:Value),cs[i]?=some x->vs[i]?=some u->bs w (cg A B) B x u) ->
    (D vs)=D ds/\∀(i:Nat) (x:Data) (u:Value),ds[i]?=some x->vs[i]?=some u->Den w aZ x u:=by
   intro cs vs ds g1 ar ab;obtain⟨F,I⟩:=oB g1;refine⟨by omega,λi x u Q hu=>?_⟩
   have ay:i<D cs:=by have:=(dP.1 Q).1;omega
   have jT:=bx ay;exact az _ u x (I i _ x jT Q) (ab i _ u jT hu)
  cases m<;>simp only[cE,cn,eb,reduceCtorEq] at h
  case J=>subst h;exact aeJ _ _ aA
  case nil=>subst h;exact Ox _ aA
  case ref k g sz off len =>
   split at h
   ·rename_i c6 cs O
    split at h
    ·rename_i a7;subst a7
     split at h
     ·rename_i part TZ;simp only[eb] at h;obtain⟨ds,g1,rfl⟩:=h;obtain⟨dq,rfl,nY⟩:=FX TZ;obtain⟨F,I⟩:=oB g1
      cases aA with
      |ref he hgle ab =>
       obtain⟨e,gz,cj,aL,ah⟩:=b2.at_ O;rw[gz] at he
       cases he;obtain⟨a,cap,rfl,af,aO,bm⟩:=ab;rcases bm with bm|⟨b,rfl,bK⟩
       ·have:len=0:=by omega
        subst this;simp only[chunk];exact .lS
       ·obtain⟨bP,cl⟩:=bK cj.symm;obtain⟨vs,T,aU,aX,hle,b0⟩:=ah b bP;refine aeF aU (aeI b2 fJ gz bP) (by omega) af (by omega) (by omega) λi x u Q hu=>?_;have ay:i<D ds:=(dP.1 Q).1;have k5:off+i<D cs:=by omega
        have jT:((cs.drop off).take (len*sz))[i]?=some cs[off+i]:=by
         rw[pL (by omega),lv,bx k5]
        refine az _ u x (I i _ x jT Q) (b0.2 (off+i) _ u (bx k5) ?_);rw[pL k5,Array.getElem?_toList];exact hu
     ·cases h
    ·cases h
   ·cases h
  case ptr k g off =>
   split at h
   ·rename_i c6 cs O
    split at h
    ·rename_i a7;obtain⟨rfl,TG⟩:=a7;simp only[eb] at h;obtain⟨ds,g1,rfl⟩:=h;obtain⟨F,I⟩:=oB g1
     cases aA with
     |ptr he hgle ab =>
      obtain⟨e,gz,cj,aL,ah⟩:=b2.at_ O;rw[gz] at he
      cases he;obtain⟨b,rfl,bK⟩:=ab;have bP:=bK cj.symm;obtain⟨vs,T,aU,aX,hle,b0⟩:=ah b bP;rw[List.length_drop] at F;refine .ptr (λi=>vs.getD (off+i) undef) (Array.getElem?_eq_some_iff.1 aU).1 (aeI b2 fJ gz bP) (λi M=>?_) λi x Q=>?_
      ·rw[cell_of_row w b (off+i) vs T (0,0) aU];have:off+i<vs.size:=by omega
       simp[this]
      ·have ay:i<D ds:=(dP.1 Q).1;have k5:off+i<D cs:=by omega
       have Kv:off+i<vs.size:=by omega
       have jT:(cs.drop off)[i]?=some cs[off+i]:=by
        rw[lv,bx k5]
       have hu:vs.getD (off+i) undef=vs[off+i]:=by simp[Kv]
       rw[hu];refine az _ _ x (I i _ x jT Q) (b0.2 (off+i) _ _ (bx k5) ?_);rw[pL k5,Array.getElem?_toList];exact Array.getElem?_eq_getElem Kv
    ·cases h
   ·cases h
  case fu f cs =>
   obtain⟨ds,g1,rfl⟩:=h
   cases aA with
   |fu ar aa=>obtain⟨F,I⟩:=lists _ _ _ g1 ar aa;exact .fn F I
  case agg cs =>
   obtain⟨ds,g1,rfl⟩:=h
   cases aA with
   |agg ar aa=>obtain⟨F,I⟩:=lists _ _ _ g1 ar aa;exact .agg F I
  case cI cs =>
   obtain⟨ds,g1,rfl⟩:=h
   cases aA with
   |cI ar aa=>obtain⟨F,I⟩:=lists _ _ _ g1 ar aa;exact .cI F I
theorem bs.shift {aZ mr:Nat->Prop}{bu:e9}(fJ:∀b,mr b->aZ b)(O:∀k e,B k=some e->∃e',bu k=some e'/\(e'=e\/e.g<e'.g)){m:R}{v:Value}(h:bs w aZ B m v):bs w mr bu m v:=by
 induction h with
 |J h=>exact .J (h.less fJ)
 |nil=>exact .nil
 | @ref k g sz off len e v he a7 aA =>
  obtain⟨e',gz,aU⟩:=O k e he;rcases aU with rfl|aU
  ·exact .ref gz a7 aA
  ·exact .ref gz (by omega) (aA.JE (by omega))
 | @ptr k g off e v he a7 aA =>
  obtain⟨e',gz,aU⟩:=O k e he;rcases aU with rfl|aU
  ·exact .ptr gz a7 aA
  ·exact .ptr gz (by omega) (aA.JE (by omega))
 |fu ar aa az=>exact .fu ar az
 |agg ar aa az=>exact .agg ar az
 |cI ar aa az=>exact .cI ar az
 |no=>exact .no
 |undef=>exact .undef
theorem kill_shut (b2:fr A w B mem){k:Key}{g:Nat}{cs:List R}{e:mu}{b:Nat}(O:mem k=some (g,cs))(he:B k=some e)(ah:e.dx=some b):
  fr (λfs=>A fs\/fs=b) w (gB B k ⟨bV mem k,none,0⟩) (kill mem k)/\(∀m v,bs w (cg A B) B m v->bs w (cg (λfs=>A fs\/fs=b) (gB B k ⟨bV mem k,none,0⟩)) (gB B k ⟨bV mem k,none,0⟩) m v):=by
 have a7:=Db b2 k e he
 have fJ:∀fs,cg (λfs=>A fs\/fs=b) (gB B k ⟨bV mem k,none,0⟩) fs->cg A B fs:=λfs h=>by
  rcases h with ⟨j,aD,ai,Q⟩|h|rfl
  ·by_cases ea:j=k
   ·subst ea;rw[hf] at ai;cases ai;cases Q
   ·rw[g8 B _ ea] at ai;exact .inl ⟨j,aD,ai,Q⟩
  ·exact .inr h
  ·exact .inl ⟨k,e,he,ah⟩
 have aqH:∀j aD,B j=some aD->∃e',gB B k ⟨bV mem k,none,0⟩ j=some e'/\(e'=aD\/aD.g<e'.g):=λj aD ai=>by
  by_cases ea:j=k
  ·subst ea;rw[he] at ai
   cases ai;exact⟨_,hf _ _ _,.inr a7⟩
  ·exact⟨aD,by rw[g8 B _ ea];exact ai,.inl rfl⟩
 have shift:∀m v,bs w (cg A B) B m v->bs w (cg (λfs=>A fs\/fs=b) (gB B k ⟨bV mem k,none,0⟩)) (gB B k ⟨bV mem k,none,0⟩) m v:=λm v h=>h.shift fJ aqH;refine⟨⟨λj ai=>?_,λj lT aC aD fs F I af aO=>?_,λfs aP bO=>?_,λfs aP=>?_,λj c6 nm ai=>?_⟩,shift⟩
 ·by_cases ea:j=k
  ·subst ea;simp[kill,a4] at ai
  ·rw[g8 B _ ea];simp only[kill,a4,ea,if_false] at ai;exact b2.A5 j ai
 ·by_cases ea:j=k
  ·subst ea;rw[hf] at F;cases F;cases af
  ·by_cases hjk':lT=k
   ·subst hjk';rw[hf] at I;cases I;cases aO
   ·rw[g8 B _ ea] at F;rw[g8 B _ hjk'] at I;exact b2.inj j lT aC aD fs F I af aO
 ·obtain⟨j,aD,ai,Q⟩:=bO
  by_cases ea:j=k
  ·subst ea;rw[hf] at ai;cases ai;cases Q
  ·rw[g8 B _ ea] at ai;rcases aP with aP|rfl
   ·exact b2.sep fs aP ⟨j,aD,ai,Q⟩
   ·exact ea (b2.inj j k aD e fs ai he Q ah)
 ·rcases aP with aP|rfl
  ·exact b2.lt fs aP
  ·exact b2.xY ⟨k,e,he,ah⟩
 ·by_cases ea:j=k
  ·subst ea;simp only[kill,a4,if_true,cn,fb] at ai;obtain⟨rfl,rfl⟩:=ai;exact⟨_,hf _ _ _,rfl,λ_=>rfl,λfs kE=>by cases kE⟩
  ·simp only[kill,a4,ea,if_false] at ai;obtain⟨aD,F,I,af,aO⟩:=b2.dx j c6 nm ai;refine⟨aD,by rw[g8 B _ ea];exact F,I,af,λfs kE=>?_⟩
   obtain⟨vs,T,bm,bK,bP,cl⟩:=aO fs kE;exact⟨vs,T,bm,bK,bP,λi m hm=>let ⟨v,aA,ab⟩:=cl i m hm;⟨v,aA,shift m v ab⟩⟩
end Go.Mini
