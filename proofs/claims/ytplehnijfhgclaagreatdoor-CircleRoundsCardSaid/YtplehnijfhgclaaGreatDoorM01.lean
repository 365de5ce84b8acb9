/- A part of the proof. -/
import Derived.Calls
import Derived.Still
import Derived.Below
import Derived.Laws.World
import Derived.Laws.Sem
import Derived.Laws.Entries
import Derived.Laws.Rows
import GoSem.ClaimData
import Derived.Laws.CopyRow
import Derived.Laws.MakeOwn
import Derived.Laws.Append
import Derived.Laws.AppendOwn
import Derived.Laws.Strings
import Derived.Laws.Strings2
import Derived.Laws.StructEq
import Derived.Laws.Slices
import Derived.Laws.Cells
import Derived.MapKept
import Derived.Attr
set_option linter.unusedSimpArgs false
set_option linter.unusedVariables false
set_option linter.defProp false
set_option maxRecDepth 100000
set_option maxHeartbeats 4000000
noncomputable section
open Bool renaming and_eq_true->dH,false_eq_true->df,or_eq_true->sF
open List renaming all_eq_true->jO,contains_iff_mem->XW,drop_drop->xo,drop_eq_getElem_cons->fY,drop_eq_nil_of_le->lq,drop_set_of_lt->ri,drop_take->WZ,eq_nil_of_length_eq_zero->qf,ext_getElem?->tB,flatten_cons->lj,foldl_cons->W1,getD_eq_getElem?_getD->eF,getElem?_append->C7,getElem?_append_left->C9,getElem?_append_right->Av,getElem?_cons_zero->G4,getElem?_drop->sC,getElem?_eq_getElem->bB,getElem?_eq_none->mO,getElem?_eq_some_iff->dn,getElem?_map->bG,getElem?_range->q9,getElem?_set_ne->X1,getElem?_set_self->X0,getElem?_take->xb,getElem?_take_of_lt->xq,getElem?_toArray->Xd,getElem_mem->kT,getElem_of_mem->W7,length->D,length_append->lk,length_cons->jG,length_map->az,length_set->fN,length_take->hf,mapM_cons->mx,map_congr_left->GW,map_map->rj,mem_append->hs,mem_cons->ia,mem_cons_self->kV,mem_flatMap->AJ,mem_of_getElem?->du,mem_of_mem_take->Aw,mem_zipIdx_iff_getElem?->Dp,range->je,replicate->cK,replicate_succ->pw,take_append->WX,take_of_length_le->dz
open Nat renaming add_assoc->q7,add_comm->An,add_mul->ou,add_zero->kv,eq_or_lt_of_le->K7,eq_zero_or_pos->iK,le_mul_of_pos_right->yQ,le_refl->bM,le_trans->cN,lt_asymm->XV,lt_of_lt_of_le->u9,lt_or_ge->fE,min_eq_left->mS,mul_le_mul_right->mP,one_mul->tk,sub_self->lW,succ_mul->tz,testBit_or->XP,zero_add->lr,zero_le->eL
open Option renaming bind_eq_bind->fD,bind_eq_some_iff->di,getD_some->Qg,isSome_iff_exists->Xf,map_eq_some_iff->cO,map_none->XB,map_some->kx,pure_def->ft
open Option.some renaming inj->mT,injEq->bH
open Prod.mk renaming injEq->ei
namespace Go.Mini
open Go
def KI:Nat->Option (List (List UInt8)):=λb=>if b=0 then some [[61,61],[59],[44],[61],[60],[43],[45],[42],[47],[40],[41]] else none
def bj {α:Sort _}{a:α}:a=a:=_root_.id rfl
def aq {c:Prop}{h:Decidable c}(Z:c){α:Sort _}{t e:α}:ite c t e=t:=if_pos Z
def ar {c:Prop}{h:Decidable c}(Z:¬c){α:Sort _}{t e:α}:ite c t e=e:=if_neg Z
def lU {p:Prop}[inst:Decidable p](h:p):decide p=true:=decide_eq_true h
def j2 {p:Prop}[i:Decidable p](h:¬p):decide p=false:=decide_eq_false h
def dW {p:Prop}[inst:Decidable p](h:p:=by omega):decide p=true:=decide_eq_true h
def ef {p:Prop}[i:Decidable p](h:¬p:=by omega):decide p=false:=decide_eq_false h
abbrev Key:=Nat
inductive Data where
 |int (k:IntKind) (n:Int)
 |bool (b:Bool)
 |str (s:List UInt8)
 |ay (es:List (List Data))
 |ptr (cs:List Data)
 |p8
 |fn (f:FuncId) (cZ:List Data)
 |qY
 |agg (cs:List Data)
 |de (vs:List Data)
 |ni (t:TypeId) (d:Data)
 |mL
 deriving Inhabited
inductive I where
 |L (d:Data)
 |nil
 |ref (k:Key) (g sz off len:Nat)
 |ptr (k:Key) (g off:Nat)
 |dK (f:FuncId) (cZ:List I)
 |agg (cs:List I)
 |de (vs:List I)
 |gV (k:Key) (g:Nat)
 |no
 |undef
 deriving Inhabited
inductive Den (w:World) (av:Nat->Prop):Data->Value->Prop
 |int {k:IntKind} {n:Int}:Den w av (.int k n) (.int k n)
 |bool {b:Bool}:Den w av (.bool b) (.bool b)
 |str {s:List UInt8}:Den w av (.str s) (.string ⟨s.toArray⟩)
 |j3 {a:Option Addr} {c:Nat}:Den w av (.ay []) (.slice a 0 c)
 |ay {es:List (List Data)} {b off c sz:Nat} (val:Nat->Value) (af:(D es)<=c) (hm:(D es)<=maxLen) (U:b<w.heap.size) (eA:¬ av b) (dC:∀e∈es,D e=sz)
   (Z:∀i,i<D es*sz->w.cell? ⟨b,off+i,none⟩=some (val i)) (ae:∀i d,es.flatten[i]?=some d->Den w av d (val i)) :
   Den w av (.ay es) (.slice (some ⟨b,off,none⟩) (D es) c)
 |ptr {cs:List Data} {b off:Nat} (val:Nat->Value) (U:b<w.heap.size) (eA:¬ av b)
   (Z:∀i,i<(D cs)->w.cell? ⟨b,off+i,none⟩=some (val i)) (ae:∀i d,cs[i]?=some d->Den w av d (val i)) :
   Den w av (.ptr cs) (.pointer (some ⟨b,off,none⟩))
 |p8:Den w av .p8 (.pointer none)
 |fn {f:FuncId} {cZ:List Data} {vs:List Value} (af:(D vs)=D cZ) (ae:∀(i:Nat) (d:Data) (v:Value),cZ[i]?=some d->vs[i]?=some v->Den w av d v) :
   Den w av (.fn f cZ) (.func (.func f) #[] vs.toArray)
 |qY:Den w av .qY .nilFunc
 |agg {cs:List Data} {vs:List Value} (af:(D vs)=D cs) (ae:∀(i:Nat) (d:Data) (v:Value),cs[i]?=some d->vs[i]?=some v->Den w av d v) :
   Den w av (.agg cs) (.agg vs.toArray)
 |de {cs:List Data} {vs:List Value} (af:(D vs)=D cs) (ae:∀(i:Nat) (d:Data) (v:Value),cs[i]?=some d->vs[i]?=some v->Den w av d v) :
   Den w av (.de cs) (.tuple vs.toArray)
 |ni {t:TypeId} {d:Data} {v:Value} (h:Den w av d v):Den w av (.ni t d) (.iface t v)
 |mL:Den w av .mL .nilIface
def KJ {es:List (List Data)}{sz:Nat}(h:∀e∈es,D e=sz):(D es.flatten)=D es*sz:=by
 induction es with
 |nil=>simp
 |cons e r aF =>
  have E:=h e (by simp);have G:=aF (λx J=>h x (by simp[J]));rw[lj,lk,E,G,jG,ou,tk,An]
def Den.jw {w ah:World}{av gD:Nat->Prop}(R:w.heap.size<=ah.heap.size)(h:∀b,b<w.heap.size->¬ av b->ah.heap[b]?=w.heap[b]?/\¬ gD b){d:Data}{v:Value}(ae:Den w av d v):Den ah gD d v:=by
 induction ae with
 |int=>exact .int
 |bool=>exact .bool
 |str=>exact .str
 |j3=>exact .j3
 | @ay es b off c sz val af hm U eA dC Z ae aF =>
  obtain⟨E,G⟩:=h b U eA;exact .ay val af hm (by omega) G dC (λi O=>(World.cell?_of_block (a:=⟨b,off+i,none⟩) E).trans (Z i O)) aF
 |p8=>exact .p8
 |qY=>exact .qY
 | @ptr cs b off val U eA Z ae aF =>
  obtain⟨E,G⟩:=h b U eA;exact .ptr val (by omega) G (λi O=>(World.cell?_of_block (a:=⟨b,off+i,none⟩) E).trans (Z i O)) aF
 |fn af ae aF=>exact .fn af aF
 |agg af ae aF=>exact .agg af aF
 |de af ae aF=>exact .de af aF
 |ni h aF=>exact .ni aF
 |mL=>exact .mL
structure gN where
 g:Nat
 c1:Option Nat
 size:Nat
 mp:Bool
abbrev cG:=Key->Option gN
def nj (B:cG)(b:Nat):Prop:=∃k e,B k=some e/\e.c1=some b
def CP (e:gN)(g sz off len:Nat)(v:Value):Prop :=
 ∃a cap,v=.slice a len cap/\len<=cap/\cap<=maxLen/\(cap=0\/∃b,a=some ⟨b,off,none⟩/\(g=e.g->e.c1=some b/\off+cap*sz<=e.size/\e.mp=false))
def KK (e:gN)(g off:Nat)(v:Value):Prop:=∃b,v=.pointer (some ⟨b,off,none⟩)/\(g=e.g->e.c1=some b/\e.mp=false)
def ahn (e:gN)(g:Nat)(v:Value):Prop:=∃b,v=.map (some b)/\(g=e.g->e.c1=some b/\e.mp=true)
def CP.later {e e':gN}{g sz off len:Nat}{v:Value}(h:CP e g sz off len v)(af:g<e'.g):CP e' g sz off len v:=by
 obtain⟨a,cap,E,G,ad,aK⟩:=h;refine⟨a,cap,E,G,ad,aK.imp id ?_⟩;rintro⟨b,bp,_⟩;exact⟨b,bp,λh=>by omega⟩
def KK.later {e e':gN}{g off:Nat}{v:Value}(h:KK e g off v)(af:g<e'.g):KK e' g off v:=by
 obtain⟨b,E,_⟩:=h;exact⟨b,E,λh=>by omega⟩
inductive aN (w:World) (av:Nat->Prop) (B:cG):I->Value->Prop
 |L {d:Data} {v:Value} (h:Den w av d v):aN w av B (.L d) v
 |nil {a:Option Addr}:aN w av B .nil (.slice a 0 0)
 |ref {k:Key} {g sz off len:Nat} {e:gN} {v:Value} (he:B k=some e) (aC:g<=e.g) (ai:CP e g sz off len v):aN w av B (.ref k g sz off len) v
 |ptr {k:Key} {g off:Nat} {e:gN} {v:Value} (he:B k=some e) (aC:g<=e.g) (ai:KK e g off v):aN w av B (.ptr k g off) v
 |dK {f:FuncId} {cZ:List I} {vs:List Value} (af:(D vs)=D cZ) (ae:∀(i:Nat) (d:I) (v:Value),cZ[i]?=some d->vs[i]?=some v->aN w av B d v) :
   aN w av B (.dK f cZ) (.func (.func f) #[] vs.toArray)
 |agg {cs:List I} {vs:List Value} (af:(D vs)=D cs) (ae:∀(i:Nat) (d:I) (v:Value),cs[i]?=some d->vs[i]?=some v->aN w av B d v) :
   aN w av B (.agg cs) (.agg vs.toArray)
 |de {cs:List I} {vs:List Value} (af:(D vs)=D cs) (ae:∀(i:Nat) (d:I) (v:Value),cs[i]?=some d->vs[i]?=some v->aN w av B d v) :
   aN w av B (.de cs) (.tuple vs.toArray)
 |gV {k:Key} {g:Nat} {e:gN} {v:Value} (he:B k=some e) (aC:g<=e.g) (ai:ahn e g v):aN w av B (.gV k g) v
 |no:aN w av B .no undef
 |undef {v:Value}:aN w av B .undef v
def bg (A:Nat->Prop)(B:cG)(b:Nat):Prop:=nj B b\/A b
structure Trans (A:Nat->Prop) (w:World) (B:cG) (ah:World) (aB:cG):Prop where
 size:w.heap.size<=ah.heap.size
 CQ:∀b,b<w.heap.size->¬ bg A B b->ah.heap[b]?=w.heap[b]?/\¬ nj aB b
 key:∀k e,B k=some e->∃e',aB k=some e'/\(e'=e\/e.g<e'.g)
def Trans.refl (A:Nat->Prop)(w:World)(B:cG):Trans A w B w B :=
 ⟨bM _,λ_ _ h=>⟨rfl,λaZ=>h (.inl aZ)⟩,λ_ e he=>⟨e,he,.inl rfl⟩⟩
def Trans.trans {A:Nat->Prop}{w w1 gi:World}{B hE sk:cG}(h:Trans A w B w1 hE)(bT:Trans A w1 hE gi sk):Trans A w B gi sk:=by
 refine⟨cN h.size bT.size,λb U aZ=>?_,λk e he=>?_⟩
 ·obtain⟨E,G⟩:=h.CQ b U aZ;obtain⟨ad,aK⟩:=bT.CQ b (u9 U h.size) (λJ=>J.elim G λa5=>aZ (.inr a5));exact⟨ad.trans E,aK⟩
 ·obtain⟨aL,tl,a8⟩:=h.key k e he;obtain⟨ax,dF,nk⟩:=bT.key k aL tl;refine⟨ax,dF,?_⟩;rcases a8 with rfl|a8<;>rcases nk with rfl|nk
  ·exact .inl rfl
  ·exact .inr nk
  ·exact .inr a8
  ·exact .inr (Nat.lt_trans a8 nk)
def Den.trans {A:Nat->Prop}{w ah:World}{B aB:cG}(t:Trans A w B ah aB){d:Data}{v:Value}(h:Den w (bg A B) d v):Den ah (bg A aB) d v :=
 h.jw t.size λb U aZ=>⟨(t.CQ b U aZ).1,λJ=>J.elim (t.CQ b U aZ).2 λa5=>aZ (.inr a5)⟩
def aN.jw {A:Nat->Prop}{w ah:World}{B aB:cG}(t:Trans A w B ah aB){m:I}{v:Value}(h:aN w (bg A B) B m v):aN ah (bg A aB) aB m v:=by
 induction h with
 |L h=>exact .L (h.trans t)
 |nil=>exact .nil
 | @ref k g sz off len e v he aC ai =>
  obtain⟨e',ea,a8⟩:=t.key k e he;rcases a8 with rfl|a8
  ·exact .ref ea aC ai
  ·exact .ref ea (by omega) (ai.later (by omega))
 | @ptr k g off e v he aC ai =>
  obtain⟨e',ea,a8⟩:=t.key k e he;rcases a8 with rfl|a8
  ·exact .ptr ea aC ai
  ·exact .ptr ea (by omega) (ai.later (by omega))
 |dK af ae aF=>exact .dK af aF
 |agg af ae aF=>exact .agg af aF
 |de af ae aF=>exact .de af aF
 | @gV k g e v he aC ai =>
  obtain⟨e',ea,a8⟩:=t.key k e he;rcases a8 with rfl|a8
  ·exact .gV ea aC ai
  ·obtain⟨b,U,_⟩:=ai;exact .gV ea (by omega) ⟨b,U,λh=>by omega⟩
 |no=>exact .no
 |undef=>exact .undef
abbrev Mem:=Key->Option (Nat×List I)
def emp:Mem:=λ_=>none
def aV (m:Mem)(k:Key)(g:Nat)(cs:List I):Mem:=λj=>if j=k then some (g,cs) else m j
def bw (m:Mem)(k:Key):Nat:=match m k with
 |none=>0
 |some (g,_)=>g+1
inductive jx (w:World) (av:Nat->Prop) (B:cG):List MapEntry->List I->Prop
 |nil:jx w av B [] []
 |cons {e:MapEntry} {es:List MapEntry} {s:List UInt8} {m:I} {ms:List I} (Q:e.key=.string ⟨s.toArray⟩) (ai:aN w av B m e.val) (h:jx w av B es ms):jx w av B (e::es) (.L (.str s)::m::ms)
def jx.jw {A:Nat->Prop}{w ah:World}{B aB:cG}(t:Trans A w B ah aB){es:List MapEntry}{ms:List I}(h:jx w (bg A B) B es ms):jx ah (bg A aB) aB es ms:=by
 induction h with
 |nil=>exact .nil
 |cons Q ai _ aF=>exact .cons Q (ai.jw t) aF
def p9 (w:World)(av:Nat->Prop)(B:cG)(e:gN)(b:Nat)(cs:List I):Prop :=
 (e.mp=false/\∃vs T,w.heap[b]?=some (.cells vs T (0,0))/\vs.size=e.size/\D cs<=vs.size/\∀(i:Nat) (m:I),cs[i]?=some m->∃v,vs[i]?=some v/\aN w av B m v) \/
 (e.mp=true/\∃hF im,w.heap[b]?=some (.map hF im)/\jx w av B hF.toList cs)
def p9.lt {w:World}{av:Nat->Prop}{B:cG}{e:gN}{b:Nat}{cs:List I}(h:p9 w av B e b cs):b<w.heap.size:=by
 rcases h with ⟨_,vs,T,h,_⟩|⟨_,hF,im,h,_⟩<;>exact (Array.getElem?_eq_some_iff.1 h).1
def p9.jw {A:Nat->Prop}{w ah:World}{B aB:cG}(t:Trans A w B ah aB){e:gN}{b:Nat}{cs:List I}(h:p9 w (bg A B) B e b cs)(R:ah.heap[b]?=w.heap[b]?):p9 ah (bg A aB) aB e b cs:=by
 rcases h with ⟨al,vs,T,E,G,ad,aK⟩|⟨E,hF,im,G,ad⟩
 ·exact .inl ⟨al,vs,T,R.trans E,G,ad,λi m hm=>let ⟨v,ai,M⟩:=aK i m hm;⟨v,ai,M.jw t⟩⟩
 ·exact .inr ⟨E,hF,im,R.trans G,ad.jw t⟩
def p9.cells {w:World}{av:Nat->Prop}{B:cG}{e:gN}{b:Nat}{cs:List I}(h:p9 w av B e b cs)(al:e.mp=false):∃vs T,w.heap[b]?=some (.cells vs T (0,0))/\vs.size=e.size/\D cs<=vs.size/\∀(i:Nat) (m:I),cs[i]?=some m->∃v,vs[i]?=some v/\aN w av B m v:=by
 rcases h with ⟨_,h⟩|⟨h,_⟩
 ·exact h
 ·rw[al] at h;cases h
def jx.imp {w:World}{av gD:Nat->Prop}{B aB:cG}{es:List MapEntry}{ms:List I}(h:jx w av B es ms)(O:∀m∈ms,∀v,aN w av B m v->aN w gD aB m v):jx w gD aB es ms:=by
 induction h with
 |nil=>exact .nil
 |cons Q ai _ aF=>exact .cons Q (O _ (by simp) _ ai) (aF λm hm=>O m (by simp[hm]))
def p9.imp {w:World}{av gD:Nat->Prop}{B aB:cG}{e e':gN}{b:Nat}{cs:List I}(h:p9 w av B e b cs)(R:e'.size=e.size)(aD:e'.mp=e.mp)(O:∀m∈cs,∀v,aN w av B m v->aN w gD aB m v):p9 w gD aB e' b cs:=by
 rcases h with ⟨al,vs,T,E,G,ad,aK⟩|⟨E,hF,im,G,ad⟩
 ·exact .inl ⟨aD.trans al,vs,T,E,G.trans R.symm,ad,λi m hm=>let ⟨v,ai,M⟩:=aK i m hm;⟨v,ai,O m (du hm) v M⟩⟩
 ·exact .inr ⟨aD.trans E,hF,im,G,ad.imp O⟩
def jx.has {w:World}{av:Nat->Prop}{B:cG}{es:List MapEntry}{ms:List I}(h:jx w av B es ms):∀m∈ms,∃v,aN w av B m v:=by
 induction h with
 |nil=>intro m hm;cases hm
 |cons Q ai _ aF =>
  intro m hm;simp only[ia] at hm;rcases hm with rfl|rfl|hm
  ·exact⟨_,.L .str⟩
  ·exact⟨_,ai⟩
  ·exact aF m hm
def p9.has {w:World}{av:Nat->Prop}{B:cG}{e:gN}{b:Nat}{cs:List I}(h:p9 w av B e b cs):∀m∈cs,∃v,aN w av B m v:=by
 intro m hm;rcases h with ⟨_,vs,T,_,_,_,aK⟩|⟨_,hF,im,_,ad⟩
 ·obtain⟨i,O⟩:=List.mem_iff_getElem?.1 hm;obtain⟨v,_,M⟩:=aK i m O;exact⟨v,M⟩
 ·exact ad.has m hm
def yD (l:List (List UInt8)):List Value:=l.map λs => .string ⟨s.toArray⟩
def CR (w:World):Prop:=∀b l,KI b=some l->∃T,w.heap[b]?=some (.cells (yD l).toArray T (0,0))
structure dq (A:Nat->Prop) (w:World) (B:cG) (mem:Mem):Prop where
 qZ:∀k,mem k=none->B k=none
 inj:∀k k' e e' b,B k=some e->B k'=some e'->e.c1=some b->e'.c1=some b->k=k'
 sep:∀b,A b->¬ nj B b
 lt:∀b,A b->b<w.heap.size
 gl:CR w
 va:∀b l,KI b=some l->¬ nj B b
 c1:∀k g cs,mem k=some (g,cs)->∃e,B k=some e/\e.g=g/\(e.c1=none->cs=[]) /\
  ∀b,e.c1=some b->p9 w (bg A B) B e b cs
def dq.q0 {A:Nat->Prop}{w:World}{B:cG}{mem:Mem}(h:dq A w B mem){b:Nat}(U:nj B b):b<w.heap.size:=by
 obtain⟨k,e,he,U⟩:=U
 cases hm:mem k with
 |none=>rw[h.qZ k hm] at he;cases he
 |some x =>
  obtain⟨g,cs⟩:=x;obtain⟨e',ea,_,_,a8⟩:=h.c1 k g cs hm;rw[ea] at he
  cases he;exact (a8 b U).lt
structure Fr (sl:Nat->Prop) (b5 w:World):Prop where
 os:w.os=b5.os
 tape:w.tape=b5.tape
 output:w.output=b5.output
 size:b5.heap.size<=w.heap.size
 block:∀g,g<b5.heap.size->¬ sl g->w.heap[g]?=b5.heap[g]?
def Fr.refl (sl:Nat->Prop)(w:World):Fr sl w w:=⟨rfl,rfl,rfl,bM _,λ_ _ _=>rfl⟩
def Fr.drew {sl:Nat->Prop}{b5 w:World}(h:Fr sl b5 w)(n:Nat):Fr sl b5 { w with drawn:=n }:=⟨h.os,h.tape,h.output,h.size,h.block⟩
def Fr.alloc {sl:Nat->Prop}{b5 w:World}(h:Fr sl b5 w)(o:Obj):Fr sl b5 (w.alloc o) :=
 ⟨h.os,h.tape,h.output,by simp;have:=h.size;omega,λg aC eA=>(RowKit.Below.heap_alloc w o g (by have:=h.size;omega)).trans (h.block g aC eA)⟩
def Fr.aho {b5 w:World}(h:Fr (λ_=>False) b5 w)(aC:CR b5):CR w:=λb o U=>let ⟨T,cp⟩:=aC b o U;⟨T,(h.block b (Array.getElem?_eq_some_iff.1 cp).1 id).trans cp⟩
inductive bm where
 |t (s:Nat)
 |c (m:I)
 deriving Inhabited
inductive fe where
 |hG (x:bm)
 |pick (c a b:bm)
 |alloc (k:Key) (z:List I)
 |box (k:Key) (x:bm)
 |build (z:List I) (parts:List (Nat×Nat×bm))
 |eg (k:Key) (own:Bool) (z:List I) (sz len:Nat) (parts:List (Nat×Nat×bm))
 |load (n:Nat) (bF:Bool) (x:bm)
 |store (n:Nat) (x v:bm)
 |bin (op:BinOp) (x y:bm)
 |beq (neg:Bool) (x y:bm)
 |eqs (neg:Bool) (fQ:List Nat) (x y:bm)
 |kQ (neg:Bool) (x:bm)
 |un (op:UnOp) (x:bm)
 |conv (k:IntKind) (x:bm)
 |tn (x:bm)
 |ll (k:Key) (z:List I) (bytes:Nat) (len cap:bm)
 |sm (off:Nat) (x:bm)
 |w0 (off n:Nat) (bF:Bool) (x:bm)
 |tp (sz:Nat) (x i:bm)
 |Ao (len sz:Nat) (x i:bm)
 |idxs (x i:bm)
 |qa (sz:Nat) (x:bm) (bP O jb:Option bm)
 |sn (len sz:Nat) (x:bm) (bP O jb:Option bm)
 |Ap (x:bm) (bP O:Option bm)
 |ext (i:Nat) (x:bm)
 |len (x:bm)
 |lens (x:bm)
 |app (k:Key) (z:List I) (bytes:Nat) (s x:bm)
 |qb (sz:Nat) (d x:bm)
 |kR (jb:Bool) (x y:bm)
 |call (f:FuncId) (args:List bm)
 |ln (k:Key) (sz:Nat) (f:FuncId) (args:List bm)
 |jH (f:bm) (args:List bm)
 |j4 (bP:Nat) (f:FuncId) (args:List bm)
 |ph (j:Nat) (f:FuncId) (args:List bm)
 |pj (j:Nat) (f:FuncId) (args:List bm)
 |so (z:List I) (x:bm)
 |vb (f:FuncId) (cZ:List bm)
 |CS (t:TypeId) (x:bm)
 |KL (t:TypeId) (ok:Bool) (z:I) (x:bm)
 |Aq (neg KM:Bool) (x:bm)
 |KN (len sz:Nat) (bF:Bool) (x i:bm)
 |vc (k:Key)
 |yE (ok:Bool) (z:I) (x i:bm)
 |w2 (x i v:bm)
 |bad
 deriving Inhabited
structure bn where
 dst:Option Nat
 g:Option (Nat×Bool)
 op:fe
 deriving Inhabited
inductive KO where
 |q1 (s:Nat) (k:Key) (sz:Nat)
 |WI (x:bm) (i:Nat) (k:Key) (sz:Nat)
 |freeze (s:Nat)
 |F7 (x:bm) (i:Nat)
 |move
 |many
 deriving Inhabited
inductive eh where
 |skip
 |ops (l:List bn)
 |ov (l:List bn) (c:List (List Nat))
 |seq (a b:eh)
 |cond (c:bm) (a b:eh)
 |block (id:Nat) (c:eh)
 |loop (c:eh)
 |exit (id:Nat)
 |ret
 |ghost (g:KO) (c:eh)
 deriving Inhabited
inductive jI where
 |t (s:Nat)
 |cell (s n:Nat) (bF:Bool)
 deriving Inhabited
structure bQ where
 n:Nat
 ahp:Nat
 res:List jI
 body:eh
 deriving Inhabited
structure a1 where
 tm:Nat->I
 mem:Mem
def eM (tm:Nat->I)(s:Nat)(m:I):Nat->I:=λt=>if t=s then m else tm t
def put (tm:Nat->I):Option Nat->I->Nat->I
 |some s,m=>eM tm s m
 |none,_=>tm
@[simp] def vd (tm:Nat->I)(s:Nat)(m:I)(t:Nat):eM tm s m t=if t=s then m else tm t:=rfl
def aI (tm:Nat->I):bm->I
 |.t s=>tm s
 |.c m=>m
def I.cells:I->List I
 |.agg cs=>cs
 |.L (.agg ds)=>ds.map .L
 |m=>[m]
def I.known:I->Bool
 |.undef=>false
 |_=>true
def I.one:I->Bool
 |.L (.agg _)=>false
 |.L (.de _)=>false
 |.L _=>true
 |.nil=>true
 |.ref ..=>true
 |.ptr ..=>true
 |.dK ..=>true
 |.gV ..=>true
 |_=>false
def nT (bF:Bool)(cs:List I):Option I :=
 if bF=true then some (.agg cs) else match cs with
  | [m]=>some m
  |_=>none
def cut (cs:List I)(off n:Nat):Option (List I) :=
 if off+n<=(D cs) then some ((cs.drop off).take n) else none
def jJ (cs:List I)(off:Nat)(new:List I):List I:=cs.take off++new++cs.drop (off+D new)
def jy (aI:bm->I)(cells:List I):List (Nat×Nat×bm)->Option (List I)
 | []=>some cells
 |(off,size,x)::rest =>
  if (aI x).known=true/\(aI x).cells.length=size/\off+size<=(D cells) then jy aI (jJ cells off (aI x).cells) rest else none
def q2:I->Option Data
 |.L d=>some d
 |.nil=>some (.ay [])
 |_=>none
def chunk (sz:Nat):Nat->List Data->List (List Data)
 |0,_=>[]
 |n+1,l=>l.take sz::chunk sz n (l.drop sz)
def KP (op:BinOp)(k:IntKind)(a b:Int):Option Data :=
 match op with
 |.add=>some (.int k (k.wrap (a+b)))
 |.sub=>some (.int k (k.wrap (a-b)))
 |.mul=>some (.int k (k.wrap (a*b)))
 |.quo=>if b=0 then none else some (.int k (k.wrap (a.tdiv b)))
 |.rem=>if b=0 then none else some (.int k (a.tmod b))
 |.and=>some (.int k (bits .and k a b))
 |.or=>some (.int k (bits .or k a b))
 |.xor=>some (.int k (bits .xor k a b))
 |.andNot=>some (.int k (bits .andNot k a b))
 |.eql=>some (.bool (a==b))
 |.neq=>some (.bool (a != b))
 |.lss=>some (.bool (a<b))
 |.leq=>some (.bool (a<=b))
 |.gtr=>some (.bool (a>b))
 |.geq=>some (.bool (a>=b))
 |_=>none
def KQ (op:BinOp)(k:IntKind)(a b:Int):Option Data :=
 if b<0 then none else match op with
 |.shl=>some (.int k (k.wrap (a*2^(min b.toNat k.bits))))
 |.shr=>some (.int k (a.fdiv (2^(min b.toNat k.bits))))
 |_=>none
def KR (op:BinOp)(a b:List UInt8):Option Data :=
 match op with
 |.add=>if (D a)+D b<=maxLen then some (.str (a++b)) else none
 |.eql=>some (.bool (a==b))
 |.neq=>some (.bool (!(a==b)))
 |.lss=>some (.bool (Op.bytesLess a b))
 |.leq=>some (.bool (Op.bytesLess a b||a==b))
 |.gtr=>some (.bool (!(Op.bytesLess a b||a==b)))
 |.geq=>some (.bool (!Op.bytesLess a b))
 |_=>none
def CT:BinOp->Bool
 |.shl=>true
 |.shr=>true
 |_=>false
def CU (op:BinOp)(x y:I):Option I :=
 match x,y with
 |.L (.int k a),.L (.int k' b)=>if CT op=true then (KQ op k a b).map .L else if k=k' then (KP op k a b).map .L else none
 |.L (.str a),.L (.str b)=>(KR op a b).map .L
 |_,_=>none
def CV (neg:Bool):I->I->Option I
 |.L (.bool a),.L (.bool b)=>some (.L (.bool (neg != (a==b))))
 |_,_=>none
def KS:Nat->I->I->Option Bool
 |0,.L (.bool a),.L (.bool b)=>some (a==b)
 |1,.L (.int k a),.L (.int k' b)=>if k=k' then some (a==b) else none
 |2,.L (.str a),.L (.str b)=>some (a==b)
 |_,_,_=>none
def yF:List Nat->List I->List I->Option Bool
 | [],[],[]=>some true
 |k::fQ,a::x,b::y=>match KS k a b,yF fQ x y with
  |some c,some d=>some (c&&d)
  |_,_=>none
 |_,_,_=>none
def F8 (op:UnOp)(x:I):Option I :=
 match op,x with
 |.neg,.L (.int k n)=>some (.L (.int k (k.wrap (0-n))))
 |.xor,.L (.int k n)=>some (.L (.int k (bits .xor k (if k.signed then -1 else k.max) n)))
 |.not,.L (.bool b)=>some (.L (.bool !b))
 |_,_=>none
def idx:I->Option Nat
 |.L (.int _ n)=>if 0<=n then some n.toNat else none
 |_=>none
def iJ (d:Nat):Option I->Option Nat
 |none=>some d
 |some x=>idx x
def sq:I->Option Nat
 |.L (.ay es)=>some (D es)
 |.nil=>some 0
 |.ref _ _ _ _ n=>some n
 |_=>none
def ib (mem:Mem)(n:Nat)(bF:Bool):I->Option I
 |.ptr k g off=>match mem k with
  |some (cf,cs)=>if cf=g then (cut cs off n).bind (nT bF) else none
  |none=>none
 |.L (.ptr ds)=>(cut (ds.map .L) 0 n).bind (nT bF)
 |_=>none
def w3:I->Option Nat
 |.L (.str s)=>some (D s)
 |_=>none
def CW:I->I->I->Option I
 |.L (.bool t),a,b=>some (if t=true then a else b)
 |_,_,_=>none
def F9 (z:List I)(sz len:Nat)(x:Option (List I)):Option I :=
 if (D z)=len*sz then (match x with
  |some cs=>(cs.mapM q2).map λds => .L (.ay (chunk sz len ds))
  |none=>none) else none
def Ar:I->Option (List I)
 |.agg cs=>some cs
 |.L (.agg ds)=>some (ds.map .L)
 |_=>none
def Ga (neg:Bool)(fQ:List Nat)(a b:I):Option I:=match Ar a,Ar b with
 |some x,some y=>(match yF fQ x y with
  |some c=>some (.L (.bool (neg != c)))
  |none=>none)
 |_,_=>none
def Gb (k:IntKind):I->Option I
 |.L (.int _ n)=>some (.L (.int k (k.wrap n)))
 |_=>none
def Gc:I->Option I
 |.ptr k g off=>some (.ptr k g off)
 |.L (.ptr ds)=>some (.L (.ptr ds))
 |_=>none
def CX (off:Nat):I->Option I
 |.ptr k g o=>some (.ptr k g (o+off))
 |.L (.ptr ds)=>if off<=(D ds) then some (.L (.ptr (ds.drop off))) else none
 |_=>none
def CY (off n:Nat)(bF:Bool):I->Option I
 |.agg cs=>(cut cs off n).bind (nT bF)
 |.L (.agg ds)=>(cut (ds.map .L) off n).bind (nT bF)
 |_=>none
def Gd (sz n:Nat):I->Option I
 |.ref k g dG off len=>if n<len/\dG=sz then some (.ptr k g (off+n*sz)) else none
 |.L (.ay es)=>match es[n]? with
  |some e=>if (D e)=sz then some (.L (.ptr e)) else none
  |none=>none
 |_=>none
def Ge (len sz n:Nat):I->Option I
 |.ptr k g off=>if n<len then some (.ptr k g (off+n*sz)) else none
 |.L (.ptr ds)=>if n<len/\n*sz<=(D ds) then some (.L (.ptr (ds.drop (n*sz)))) else none
 |_=>none
def Gf (n:Nat):I->Option I
 |.L (.str s)=>(s[n]?).map λb => .L (.int .u8 b.toNat)
 |_=>none
def w4 (sz:Nat)(es:List (List Data)):Bool:=es.all λe=>D e==sz
def Gg (sz l h:Nat):I->Option I
 |.L (.ay es)=>if l<=h/\h<=D es/\w4 sz es=true then some (.L (.ay ((es.take h).drop l))) else none
 |.nil=>if l=0/\h=0 then some .nil else none
 |.ref k g dG off len=>if dG=sz/\l<=h/\h<=len then some (.ref k g sz (off+l*sz) (h-l)) else none
 |_=>none
def Gh (sz l h m:Nat):I->Option I
 |.L (.ay es)=>if l<=h/\h<=m/\m<=D es/\w4 sz es=true then (if m=l then some .nil else some (.L (.ay ((es.take h).drop l)))) else none
 |.nil=>if l=0/\h=0/\m=0 then some .nil else none
 |.ref _ _ _ _ len=>if l<=h/\h<=m/\m<=len/\m=l then some .nil else none
 |_=>none
def Gi (l h:Nat):I->Option I
 |.L (.str s)=>if l<=h/\h<=(D s) then some (.L (.str ((s.take h).drop l))) else none
 |_=>none
def Gj (i:Nat):I->Option I
 |.de vs=>vs[i]?
 |.L (.de ds)=>(ds[i]?).map .L
 |_=>none
def Gk (jb:Bool):I->I->Option I
 |.L (.int k a),.L (.int k' b)=>if k=k' then some (.L (.int k (if jb=true then (if b>a then b else a) else (if b<a then b else a)))) else none
 |_,_=>none
def PI:I->Option Data
 |.L d=>some d
 |.nil=>some (.ay [])
 |.agg cs=>(cs.mapM q2).map .agg
 |_=>none
def As (ok b:Bool)(m:I):I:=if ok=true then .de [m,.L (.bool b)] else m
def PJ (t:TypeId)(m:I):Option I:=(PI m).map λd => .L (.ni t d)
def PK (t:TypeId)(ok:Bool)(z:I):I->Option I
 |.L (.ni ks d)=>if ks=t then some (As ok true (.L d)) else if ok=true then some (As true false z) else none
 |.L .mL=>if ok=true then some (As true false z) else none
 |_=>none
def isNil:Bool->I->Option Bool
 |false,.L .p8=>some true
 |false,.L (.ptr _)=>some false
 |false,.ptr ..=>some false
 |true,.L .mL=>some true
 |true,.L (.ni ..)=>some false
 |_,_=>none
def Gl (neg KM:Bool)(m:I):Option I:=(isNil KM m).map λb => .L (.bool (neg != b))
def PL (len sz:Nat)(bF:Bool)(n:Nat)(m:I):Option I:=if n<len then (Ar m).bind λcs=>if len*sz<=(D cs) then (cut cs (n*sz) sz).bind (nT bF) else none else none
def KT (s:List UInt8):List I->Option (Option I)
 | []=>some none
 |.L (.str k)::v::r=>if s=k then some (some v) else KT s r
 |_=>none
def KU (s:List UInt8)(x:I):List I->Option (List I)
 | []=>some [.L (.str s),x]
 |.L (.str k)::v::r=>if s=k then some (.L (.str k)::x::r) else (KU s x r).map λr => .L (.str k)::v::r
 |_=>none
def gW (x:Option Nat)(f:Nat->Option I):Option I:=match x with
 |some n=>f n
 |none=>none
def iq (tm:Nat->I):fe->Option I
 |.hG x=>some (aI tm x)
 |.pick c a b=>CW (aI tm c) (aI tm a) (aI tm b)
 |.build z parts=>(jy (aI tm) z parts).map .agg
 |.eg _ false z sz len parts=>F9 z sz len (jy (aI tm) z parts)
 |.bin op x y=>CU op (aI tm x) (aI tm y)
 |.beq neg x y=>CV neg (aI tm x) (aI tm y)
 |.eqs neg fQ x y=>Ga neg fQ (aI tm x) (aI tm y)
 |.un op x=>F8 op (aI tm x)
 |.conv k x=>Gb k (aI tm x)
 |.tn x=>Gc (aI tm x)
 |.sm off x=>CX off (aI tm x)
 |.w0 off n bF x=>CY off n bF (aI tm x)
 |.tp sz x i=>gW (idx (aI tm i)) λn=>Gd sz n (aI tm x)
 |.Ao len sz x i=>gW (idx (aI tm i)) λn=>Ge len sz n (aI tm x)
 |.idxs x i=>gW (idx (aI tm i)) λn=>Gf n (aI tm x)
 |.qa sz x bP O none=>gW (iJ 0 (bP.map (aI tm))) λl=>gW (sq (aI tm x)) λlen=>gW (iJ len (O.map (aI tm))) λh=>Gg sz l h (aI tm x)
 |.qa sz x bP (some O) (some jb)=>gW (iJ 0 (bP.map (aI tm))) λl=>gW (idx (aI tm O)) λh=>gW (idx (aI tm jb)) λm=>Gh sz l h m (aI tm x)
 |.Ap x bP O=>gW (iJ 0 (bP.map (aI tm))) λl=>gW (w3 (aI tm x)) λlen=>gW (iJ len (O.map (aI tm))) λh=>Gi l h (aI tm x)
 |.ext i x=>Gj i (aI tm x)
 |.len x=>gW (sq (aI tm x)) λn=>some (.L (.int .i64 n))
 |.lens x=>gW (w3 (aI tm x)) λn=>some (.L (.int .i64 n))
 |.kR jb x y=>Gk jb (aI tm x) (aI tm y)
 |.vb f cZ=>some (.dK f (cZ.map (aI tm)))
 |.CS t x=>PJ t (aI tm x)
 |.KL t ok z x=>PK t ok z (aI tm x)
 |.Aq neg KM x=>Gl neg KM (aI tm x)
 |.KN len sz bF x i=>gW (idx (aI tm i)) λn=>PL len sz bF n (aI tm x)
 |_=>none
def PM (k:Key)(g off len sz l h:Nat):Option (Nat×List I)->Option I
 |some (cf,cs)=>if cf=g/\l<=h/\h<=len/\off+len*sz<=(D cs) then some (.ref k g sz (off+l*sz) (h-l)) else none
 |none=>none
def yG (mem:Mem)(len sz l h:Nat):I->Option I
 |.ptr k g off=>PM k g off len sz l h (mem k)
 |_=>none
def ow (mem:Mem)(sz:Nat):I->Option (Nat×List I)
 |.L (.ay es)=>if w4 sz es=true then some (D es,es.flatten.map I.L) else none
 |.nil=>some (0,[])
 |.ref k g dG off len=>if dG=sz then (match mem k with
  |some (cf,cs)=>if cf=g then (cut cs off (len*sz)).map λcs=>(len,cs) else none
  |none=>none) else none
 |_=>none
abbrev Out:=Option (I×Option (Key×Nat×List I))
def hH (x:Option I):Out:=match x with
 |some m=>some (m,none)
 |none=>none
def CZ (k:Key)(g:Nat)(z:List I)(sz len:Nat)(x:Option (List I)):Out :=
 if (D z)=len*sz then (match x with
  |some cs=>some (.ref k g sz 0 len,some (k,g,cs))
  |none=>none) else none
def C0 (k:Key)(g:Nat)(z:List I)(bytes:Nat)(n c:Nat):Out :=
 if n=c/\bytes*n<=140737488355328/\n<=maxLen then some (.ref k g (D z) 0 n,some (k,g,(cK n z).flatten)) else none
def Gm (x y:Option Nat)(f:Nat->Nat->Out):Out:=match x,y with
 |some n,some m=>f n m
 |_,_=>none
def Gn (n:Nat)(k:Key)(g off:Nat)(v:List I)(x:Option (Nat×List I)):Out:=match x with
 |some (cf,cs)=>if cf=g/\D v=n/\off+n<=D cs/\v.all I.one=true then some (.no,some (k,g,jJ cs off v)) else none
 |none=>none
def ve (mem:Mem)(n:Nat):I->List I->Out
 |.ptr k g off,v=>Gn n k g off v (mem k)
 |_,_=>none
def mw (k:Key)(g:Nat)(sz len bytes:Nat)(m:Nat)(new:List I)(x:Option (Nat×List I)):Out:=match x with
 |some (cf,cs)=>if cf=g/\len*sz<=D cs/\(len+m)*bytes<=140737488355328/\len+m<=maxLen/\new.all I.one=true
   then some (.ref k (g+1) sz 0 (len+m),some (k,g+1,cs.take (len*sz)++new)) else none
 |none=>none
def pk (mem:Mem)(k:Key)(z:List I)(bytes:Nat):I->Option (Nat×List I)->Out
 |.nil,some (m,new)=>if m*bytes<=140737488355328/\m<=maxLen/\new.all I.one=true then some (.ref k (bw mem k) (D z) 0 m,some (k,bw mem k,new)) else none
 |.ref k' g dG off len,some (m,new)=>if dG=D z/\off=0 then mw k' g dG len bytes m new (mem k') else none
 |_,_=>none
def yH (k:Key)(g sz off len:Nat)(m:Nat)(new:List I)(x:Option (Nat×List I)):Out:=match x with
 |some (cf,cs)=>if cf=g/\off+len*sz<=D cs/\new.all I.one=true then some (.L (.int .i64 ((min m len:Nat):Int)),some (k,g,jJ cs off (new.take (min m len*sz)))) else none
 |none=>none
def tq (mem:Mem)(sz:Nat):I->Option (Nat×List I)->Out
 |.ref k g dG off len,some (m,new)=>if dG=sz then yH k g sz off len m new (mem k) else none
 |_,_=>none
def KV (z:List I)(k:Key)(g off len:Nat)(x:Option (Nat×List I)):Out:=match x with
 |some (cf,cs)=>if cf=g/\off+len*D z<=D cs/\z.all I.one=true then some (.de [],some (k,g,jJ cs off (cK len z).flatten)) else none
 |none=>none
def vf (mem:Mem)(z:List I):I->Out
 |.ref k g sz off len=>if sz=(D z) then KV z k g off len (mem k) else none
 |_=>none
def yI (mem:Mem):I->Option (Key×Nat×List I)
 |.gV k g=>match mem k with
  |some (cf,cs)=>if cf=g then some (k,g,cs) else none
  |none=>none
 |_=>none
def KW:I->Option (List UInt8)
 |.L (.str s)=>some s
 |_=>none
def KX (mem:Mem)(ok:Bool)(z:I)(x i:I):Option I:=match yI mem x,KW i with
 |some (_,_,cs),some s=>match KT s cs with
  |some (some v)=>some (As ok true v)
  |some none=>some (As ok false z)
  |none=>none
 |_,_=>none
def I.whole:I->Bool
 |.undef=>false
 |.no=>false
 |.de _=>false
 |_=>true
def Gp (mem:Mem)(x i v:I):Out:=match yI mem x,KW i with
 |some (k,g,cs),some s=>if v.whole=true then (match KU s v cs with
  |some gu=>some (.no,some (k,g,gu))
  |none=>none) else none
 |_,_=>none
def bx (mem:Mem)(tm:Nat->I):fe->Out
 |.alloc k z=>some (.ptr k (bw mem k) 0,some (k,bw mem k,z))
 |.box k x=>if (aI tm x).known=true then some (.ptr k (bw mem k) 0,some (k,bw mem k,(aI tm x).cells)) else none
 |.eg k true z sz len parts=>CZ k (bw mem k) z sz len (jy (aI tm) z parts)
 |.ll k z bytes len cap=>Gm (idx (aI tm len)) (idx (aI tm cap)) (C0 k (bw mem k) z bytes)
 |.load n bF x=>hH (ib mem n bF (aI tm x))
 |.sn len sz x bP O none=>hH (gW (iJ 0 (bP.map (aI tm))) λl=>gW (iJ len (O.map (aI tm))) λh=>yG mem len sz l h (aI tm x))
 |.store n x v=>ve mem n (aI tm x) (aI tm v).cells
 |.app k z bytes s x=>pk mem k z bytes (aI tm s) (ow mem (D z) (aI tm x))
 |.qb sz d x=>tq mem sz (aI tm d) (ow mem sz (aI tm x))
 |.so z x=>vf mem z (aI tm x)
 |.vc k=>some (.gV k (bw mem k),some (k,bw mem k,[]))
 |.yE ok z x i=>hH (KX mem ok z (aI tm x) (aI tm i))
 |.w2 x i v=>Gp mem (aI tm x) (aI tm i) (aI tm v)
 |op=>hH (iq tm op)
inductive fR where
 |same (r:Data)
 |own (sz:Nat) (es:List (List Data))
 |rel (bS:I->Mem->Prop)
 |eM (r:Data) (k:Key) (g i:Nat) (c:I)
 |w5 (r:Data) (k:Key)
abbrev bl:=FuncId->List I->Mem->Option fR
def fA (mem:Mem):Option (Key×Nat×List I)->Mem
 |none=>mem
 |some (k,g,cs)=>aV mem k g cs
def pn (mem:Mem)(k:Key):List I:=match mem k with
 |some (_,cs)=>cs
 |none=>[]
def sr (T:bl)(K:a1->Prop)(st:a1)(dst:Option Nat)(f:FuncId)(args:List I):Prop :=
 match T f args st.mem with
 |some (.same r)=>K ⟨put st.tm dst (.L r),st.mem⟩
 |some (.own _ es)=>K ⟨put st.tm dst (.L (.ay es)),st.mem⟩
 |some (.rel bS)=>∀r mem',bS r mem'->K ⟨put st.tm dst r,mem'⟩
 |some (.eM r k g i c)=>K ⟨put st.tm dst (.L r),aV st.mem k g ((pn st.mem k).set i c)⟩
 |some (.w5 r k)=>K ⟨put st.tm dst (.L r),aV st.mem k (bw st.mem k) []⟩
 |none=>False
def w6:I->Option Bool
 |.L (.ay es)=>some (!es.isEmpty)
 |.nil=>some false
 |.ref _ _ _ _ len=>some (decide (0<len))
 |_=>none
def fB (T:bl)(K:a1->Prop)(i:bn)(st:a1):Prop :=
 match i.op with
 |.call f args=>sr T K st i.dst f (args.map (aI st.tm))
 |.ln k sz f args=>match T f (args.map (aI st.tm)) st.mem with
  |some (.own dG es)=>if dG=sz then K ⟨put st.tm i.dst (.ref k (bw st.mem k) sz 0 (D es)),aV st.mem k (bw st.mem k) (es.flatten.map .L)⟩ else False
  |_=>False
 |.jH f args=>match aI st.tm f with
  |.dK g cZ=>sr T K st i.dst g (args.map (aI st.tm)++cZ)
  |.L (.fn g ds)=>sr T K st i.dst g (args.map (aI st.tm)++ds.map .L)
  |_=>False
 |.kQ neg x=>match w6 (aI st.tm x) with
  |some full=>∀b:Bool,(full=true->b=false)->K ⟨put st.tm i.dst (.L (.bool (neg != b))),st.mem⟩
  |none=>False
 |op=>match bx st.mem st.tm op with
  |some (m,e)=>K ⟨put st.tm i.dst m,fA st.mem e⟩
  |none=>False
def gv (tm:Nat->I):Option (Nat×Bool)->Option Bool
 |none=>some true
 |some (s,b)=>match tm s with
  |.L (.bool t)=>some (t==b)
  |.no=>some false
  |_=>none
def vg (T:bl)(K:a1->Prop):List bn->a1->Prop
 | [],st=>K st
 |i::r,st=>match gv st.tm i.g with
  |none=>False
  |some g=>if g=true then fB T (vg T K r) i st else vg T K r ⟨put st.tm i.dst .no,st.mem⟩
def keyOf:I->List Key
 |.ref k ..=>[k]
 |.ptr k ..=>[k]
 |_=>[]
def Gq:I->List Key
 |.gV k _=>[k]
 |_=>[]
inductive kt where
 |fm (k:Key)
 |rd (k:Key) (a b:Nat)
 |wr (k:Key) (i:Nat)
def kt.key:kt->Key
 |.fm k=>k
 |.rd k _ _=>k
 |.wr k _=>k
def po:kt->kt->Bool
 |.fm k,.fm k' => !(k==k')
 |.fm k,.rd k' _ _ => !(k==k')
 |.rd k _ _,.fm k' => !(k==k')
 |.rd _ _ _,.rd _ _ _=>true
 |.rd k a b,.wr k' i => !(k==k')||(decide (i<a)||decide (b<=i))
 |.wr k' i,.rd k a b => !(k==k')||(decide (i<a)||decide (b<=i))
 |.wr _ _,.wr _ _=>false
 |.fm _,.wr _ _=>false
 |.wr _ _,.fm _=>false
def yJ (n:Nat):I->List kt
 |.ref k ..=>[.fm k]
 |.ptr k _ off=>[.rd k off (off+n)]
 |_=>[]
def Gr (bP:Nat):List I->List kt
 |.ptr k _ off::_=>[.wr k (off+bP)]
 |_=>[]
def tr:Option I->List kt
 |some (.ref k ..)=>[.fm k]
 |_=>[]
def cb (tm:Nat->I):fe->List kt
 |.load n _ x=>yJ n (aI tm x)
 |.sn _ _ x _ _ _=>(keyOf (aI tm x)).map .fm
 |.store _ x _=>(keyOf (aI tm x)).map .fm
 |.alloc k _=>[.fm k]
 |.box k _=>[.fm k]
 |.eg k true _ _ _ _=>[.fm k]
 |.ll k _ _ _ _=>[.fm k]
 |.ln k _ _ _=>[.fm k]
 |.app k _ _ s x => .fm k::((keyOf (aI tm s)).map .fm++(keyOf (aI tm x)).map .fm)
 |.qb _ d x=>(keyOf (aI tm d)).map .fm++(keyOf (aI tm x)).map .fm
 |.j4 bP _ args=>Gr bP (args.map (aI tm))
 |.ph j _ args=>tr (args.map (aI tm))[j]?
 |.pj j _ args=>tr (args.map (aI tm))[j]?
 |.so _ x=>(keyOf (aI tm x)).map .fm
 |.vc k=>[.fm k]
 |.yE _ _ x _=>(Gq (aI tm x)).map .fm
 |.w2 x _ _=>(Gq (aI tm x)).map .fm
 |_=>[]
def fC:fe->Bool
 |.store ..=>true
 |.alloc ..=>true
 |.box ..=>true
 |.eg _ true _ _ _ _=>true
 |.ll ..=>true
 |.ln ..=>true
 |.app ..=>true
 |.qb ..=>true
 |.j4 ..=>true
 |.ph ..=>true
 |.pj ..=>true
 |.so ..=>true
 |.vc ..=>true
 |.w2 ..=>true
 |_=>false
def shut:I->I
 |.L d => .L d
 |.nil => .nil
 |.dK f [] => .dK f []
 |.agg cs=>match cs.mapM q2 with
  |some ds => .L (.agg ds)
  |none => .undef
 |_ => .undef
def C1 (bP:Nat)(mem:Mem):List I->Option fR->Option (I×Option (Key×Nat×List I))
 |.ptr k _ off::_,some (.eM r k' cf i c)=>match mem k with
  |some (g,cs)=>if k'=k/\cf=g/\i=off+bP then some (.L r,some (k,g,cs.set i c)) else none
  |none=>none
 |_,_=>none
def PN (cs:List I):Option (List Data):=cs.mapM q2
def Gs (sz off len:Nat)(cs:List I):Option Data:=match cut cs off (len*sz) with
 |some part=>(PN part).map λds => .ay (chunk sz len ds)
 |none=>none
def KY:Option fR->Option Data
 |some (.same r)=>some r
 |some (.own _ es)=>some (.ay es)
 |_=>none
def PO (T:bl)(j:Nat)(f:FuncId)(ms:List I)(k:Key)(g sz off len:Nat):Option (Nat×List I)->Option (I×Option (Key×Nat×List I))
 |some (cf,cs)=>if cf=g then (match Gs sz off len cs with
  |some d=>(match KY (T f (ms.set j (.L d)) emp) with
   |some r=>some (.L r,some (k,cf+1,[]))
   |none=>none)
  |none=>none) else none
 |none=>none
def Gu (T:bl)(mem:Mem)(j:Nat)(f:FuncId)(ms:List I):Option I->Option (I×Option (Key×Nat×List I))
 |some (.ref k g sz off len)=>PO T j f ms k g sz off len (mem k)
 |_=>none
def q3 (cs:List I):Bool:=cs.all λm=>(q2 m).isSome
def PQ (T:bl)(j:Nat)(f:FuncId)(ms:List I)(k:Key)(g sz off len:Nat):Option (Nat×List I)->Option (I×Option (Key×Nat×List I))
 |some (cf,cs)=>if q3 cs=true then (match T f (ms.set j (.ref k g sz off len)) (aV emp k cf cs) with
  |some (.w5 r k')=>if k'=k then some (.L r,some (k,cf+1,[])) else none
  |_=>none) else none
 |none=>none
def Gv (T:bl)(mem:Mem)(j:Nat)(f:FuncId)(ms:List I):Option I->Option (I×Option (Key×Nat×List I))
 |some (.ref k g sz off len)=>PQ T j f ms k g sz off len (mem k)
 |_=>none
def ek (T:bl)(mem:Mem)(tm:Nat->I):fe->Option (I×Option (Key×Nat×List I))
 |.call f args=>match T f (args.map λx=>shut (aI tm x)) emp with
  |some (.same r)=>some (.L r,none)
  |some (.own _ es)=>some (.L (.ay es),none)
  |_=>none
 |.ln k sz f args=>match T f (args.map λx=>shut (aI tm x)) emp with
  |some (.own dG es)=>if dG=sz then some (.ref k (bw mem k) sz 0 (D es),some (k,bw mem k,es.flatten.map .L)) else none
  |_=>none
 |.jH f args=>match shut (aI tm f) with
  |.dK g []=>(match T g (args.map λx=>shut (aI tm x)) emp with
   |some (.same r)=>some (.L r,none)
   |_=>none)
  |_=>none
 |.kQ ..=>none
 |.j4 bP f args=>C1 bP mem (args.map (aI tm)) (T f (args.map (aI tm)) mem)
 |.ph j f args=>Gu T mem j f (args.map λx=>shut (aI tm x)) (args.map (aI tm))[j]?
 |.pj j f args=>Gv T mem j f (args.map λx=>shut (aI tm x)) (args.map (aI tm))[j]?
 |op=>bx mem tm op
abbrev Rec:=Nat->Option (Bool×List kt)
def pq (a b:Bool×List kt):Bool:=!(a.1||b.1)||a.2.all λx=>b.2.all λy=>po x y
def q4 (rec:Rec)(p:Bool×List kt)(c:List Nat):Bool:=c.all λi=>match rec i with
 |none=>true
 |some q=>pq q p
def ir (rec:Rec)(n:Nat)(p:Bool×List kt):Rec:=λi=>if i=n then some p else rec i
def ss (T:bl)(K:a1->Prop):Nat->List bn->List (List Nat)->Rec->a1->Prop
 |_,[],_,_,st=>K st
 |n,i::r,cs,rec,st=>match gv st.tm i.g with
  |none=>False
  |some g=>if g=true then (match ek T st.mem st.tm i.op with
    |some (m,e)=>q4 rec (fC i.op,cb st.tm i.op) (cs.headD [])=true/\ss T K (n+1) r cs.tail (ir rec n (fC i.op,cb st.tm i.op)) ⟨put st.tm i.dst m,fA st.mem e⟩
    |none=>False) else ss T K (n+1) r cs.tail rec ⟨put st.tm i.dst .no,st.mem⟩
inductive eZ where
 |normal
 |exit (id:Nat)
 |ret
def c2:Nat->Mem->I->Option Data
 |_,_,.L d=>some d
 |_,_,.nil=>some (.ay [])
 |0,_,_=>none
 |n+1,mem,.ref k g sz off len=>match mem k with
  |some (cf,cs)=>if cf=g then (match cut cs off (len*sz) with
   |some part=>(part.mapM (c2 n mem)).map λds => .ay (chunk sz len ds)
   |none=>none) else none
  |none=>none
 |n+1,mem,.ptr k g off=>match mem k with
  |some (cf,cs)=>if cf=g/\off<=(D cs) then ((cs.drop off).mapM (c2 n mem)).map .ptr else none
  |none=>none
 |n+1,mem,.dK f cs=>(cs.mapM (c2 n mem)).map (.fn f)
 |n+1,mem,.agg cs=>(cs.mapM (c2 n mem)).map .agg
 |n+1,mem,.de cs=>(cs.mapM (c2 n mem)).map .de
 |_,_,.gV _ _=>none
 |_,_,.no=>none
 |_,_,.undef=>none
def kill (mem:Mem)(k:Key):Mem:=aV mem k (bw mem k) []
inductive KZ (mem:Mem):Mem->Prop
 |ahq (fS fX:Nat) (gE:List I) (i k g sz off len:Nat) (cs:List I) (k':Nat) (E:mem fS=some (fX,gE)) (G:gE[i]?=some (.ref k g sz off len)) (ad:mem k=some (g,cs)) (aK:k≠fS) (bp:k'≠k) (bD:k'≠fS) :
   KZ mem (aV (aV (aV mem k (bw mem k) []) k' (bw mem k') cs) fS fX (gE.set i (.ref k' (bw mem k') sz off len)))
 |ahr (fS fX:Nat) (gE:List I) (i k g off:Nat) (cs:List I) (k':Nat) (E:mem fS=some (fX,gE)) (G:gE[i]?=some (.ptr k g off)) (ad:mem k=some (g,cs)) (aK:k≠fS) (bp:k'≠k) (bD:k'≠fS) :
   KZ mem (aV (aV (aV mem k (bw mem k) []) k' (bw mem k') cs) fS fX (gE.set i (.ptr k' (bw mem k') off)))
 |ahs (fS fX:Nat) (gE:List I) (i k g sz off len:Nat) (cs:List I) (d:Data) (E:mem fS=some (fX,gE)) (G:gE[i]?=some (.ref k g sz off len)) (ad:mem k=some (g,cs)) (aK:k≠fS) (bp:c2 1 mem (.ref k g sz off len)=some d) :
   KZ mem (aV (kill mem k) fS fX (gE.set i (.L d)))
inductive Gw:Mem->Mem->Prop
 |refl (mem:Mem):Gw mem mem
 |step {mem C2 WJ:Mem} (h:KZ mem C2) (bT:Gw C2 WJ):Gw mem WJ
def mM (K:a1->Prop)(st:a1):KO->Prop
 |.q1 s k sz=>match st.tm s with
  |.nil=>K ⟨eM st.tm s (.ref k (bw st.mem k) sz 0 0),aV st.mem k (bw st.mem k) []⟩
  |_=>False
 |.WI x i k sz=>match aI st.tm x with
  |.ptr kc g off=>match st.mem kc with
   |some (cf,cs)=>if cf=g then (match cs[off+i]? with
    |some .nil=>if k≠kc then K ⟨st.tm,aV (aV st.mem k (bw st.mem k) []) kc g (cs.set (off+i) (.ref k (bw st.mem k) sz 0 0))⟩ else False
    |_=>False) else False
   |none=>False
  |_=>False
 |.freeze s=>match st.tm s with
  |.ref k g _ _ _=>match st.mem k with
   |some (cf,cs)=>if cf=g/\q3 cs=true then (match c2 1 st.mem (st.tm s) with
    |some d=>K ⟨eM st.tm s (.L d),kill st.mem k⟩
    |none=>False) else False
   |none=>False
  |_=>False
 |.F7 x i=>match aI st.tm x with
  |.ptr kc gc off=>match st.mem kc with
   |some (PR,cc)=>if PR=gc then (match cc[off+i]? with
    |some (.ref k g sz o len)=>match st.mem k with
     |some (cf,cs)=>if cf=g/\q3 cs=true/\k≠kc then (match c2 1 st.mem (.ref k g sz o len) with
      |some d=>K ⟨st.tm,aV (kill st.mem k) kc gc (cc.set (off+i) (.L d))⟩
      |none=>False) else False
     |none=>False
    |_=>False) else False
   |none=>False
  |_=>False
 |.move=>K st\/(∃fS fX gE i k g sz off len cs k',st.mem fS=some (fX,gE)/\gE[i]?=some (.ref k g sz off len)/\st.mem k=some (g,cs)/\k≠fS/\k'≠k/\k'≠fS /\
   K ⟨st.tm,aV (aV (aV st.mem k (bw st.mem k) []) k' (bw st.mem k') cs) fS fX (gE.set i (.ref k' (bw st.mem k') sz off len))⟩) \/
   ∃fS fX gE i k g sz off len cs d,st.mem fS=some (fX,gE)/\gE[i]?=some (.ref k g sz off len)/\st.mem k=some (g,cs)/\q3 cs=true/\k≠fS/\c2 1 st.mem (.ref k g sz off len)=some d /\
   K ⟨st.tm,aV (kill st.mem k) fS fX (gE.set i (.L d))⟩
 |.many=>∃mem',Gw st.mem mem'/\K ⟨st.tm,mem'⟩
def wp (T:bl):eh->(eZ->a1->Prop)->a1->Prop
 |.skip,K,st=>K .normal st
 |.ops l,K,st=>vg T (K .normal) l st
 |.ov l c,K,st=>ss T (K .normal) 0 l c (λ_=>none) st
 |.seq a b,K,st=>wp T a (λe bX=>match e with
  |.normal=>wp T b K bX
  |e=>K e bX) st
 |.cond c a b,K,st=>match aI st.tm c with
  |.L (.bool t)=>if t=true then wp T a K st else wp T b K st
  |_=>False
 |.block id c,K,st=>wp T c (λe bX=>match e with
  |.exit j=>if j=id then K .normal bX else K (.exit j) bX
  |e=>K e bX) st
 |.loop c,K,st=>∃(At:a1->Prop) (μ:a1->Nat),At st/\∀st,At st->wp T c (λe bX=>match e with
  |.normal=>At bX/\μ bX<μ st
  |e=>K e bX) st
 |.exit id,K,st=>K (.exit id) st
 |.ret,K,st=>K .ret st
 |.ghost g c,K,st=>mM (wp T c K) st g
def C3 (st:a1):jI->Option I
 |.t s=>some (st.tm s)
 |.cell s n bF=>ib st.mem n bF (st.tm s)
def jc (st:a1)(l:List jI):Option I :=
 match l.mapM (C3 st) with
 |some [m]=>some m
 |some ms=>some (.de ms)
 |none=>none
def j5 (args:List I):Nat->I:=λs=>match args[s]? with
 |some m=>m
 |none => .no
def Gx:Value->Option I
 |.int k n=>some (.L (.int k n))
 |.bool b=>some (.L (.bool b))
 |.string s=>some (.L (.str s.data.toList))
 |.slice none 0 0=>some .nil
 |.pointer none=>some (.L .p8)
 |.nilFunc=>some (.L .qY)
 |.nilIface=>some (.L .mL)
 |.map none=>some .undef
 |_=>none
def K0:Value->Option I
 |.agg cs=>(cs.toList.mapM Gx).map .agg
 |v=>Gx v
def cw:Operand->Option bm
 |.tmp t=>some (.t t)
 |.const v=>(K0 v).map .c
 |.func f=>some (.c (.dK f []))
 |.global _=>none
def zeroOf (P:Program)(t:TypeId):Option (List I):=((P.info? t).bind (·.zero)).bind λz=>z.cells.toList.mapM Gx
def zeroV (P:Program)(t:TypeId):Option I:=((P.info? t).bind (·.zero)).bind K0
def e8 (P:Program)(t:TypeId):Option Nat:=(P.info? t).map (·.size)
def C4 (P:Program)(t:TypeId):Option Nat:=(P.info? t).map (·.bytes)
def su (P:Program)(t:TypeId):Option Bool:=(P.underlying t).map fun|.struct _=>true|.array _ _=>true|_=>false
def partsOf (place:Nat->Option (Nat×Nat))(l:List (Nat×Operand)):Option (List (Nat×Nat×bm)) :=
 l.mapM λ(i,x)=>do
  let (o,s) <-place i
  let y <-cw x
  pure (o,s,y)
def sv (P:Program)(db:Array Field)(i:Nat):Option (Nat×Nat):=do
 let f <-db[i]?
 let s <-e8 P f.type
 pure (f.offset,s)
def ts (P:Program)(t:TypeId):Option Nat :=
 match P.underlying t with
 |some .bool=>some 0
 |some (.int _)=>some 1
 |some .string=>some 2
 |_=>none
def C5 (P:Program):Nat->List Field->Option (List Nat)
 |_,[]=>some []
 | i, f :: r => if f.name ≠ "_" /\ f.offset = i then (match ts P f.type, C5 P (i + 1) r with
  |some k,some fQ=>some (k::fQ)
  |_,_=>none) else none
def sw (P:Program)(t:TypeId)(db:Array Field)(neg:Bool)(x y:Operand):Option fe :=
 if P.stoodInHeld t=false/\P.eqGuardType P.depth t=false then (match C5 P 0 db.toList,cw x,cw y with
  |some fQ,some x,some y=>some (.eqs neg fQ x y)
  |_,_,_=>none) else none
def K1:Bool->Operand->Bool
 |false,.const (.pointer none)=>true
 |true,.const .nilIface=>true
 |_,_=>false
def K2:Operand->Bool
 |.const (.slice none 0 0)=>true
 |_=>false
def sx (P:Program)(op:BinOp)(t:TypeId)(x y:Operand):Option fe :=
 match P.underlying t with
 |some (.int _)=>match cw x,cw y with
  |some x,some y=>some (.bin op x y)
  |_,_=>none
 |some .string=>match cw x,cw y with
  |some x,some y=>some (.bin op x y)
  |_,_=>none
 |some .bool=>match op,cw x,cw y with
  |.eql,some x,some y=>some (.beq false x y)
  |.neq,some x,some y=>some (.beq true x y)
  |_,_,_=>none
 |some (.struct db)=>match op with
  |.eql=>sw P t db false x y
  |.neq=>sw P t db true x y
  |_=>none
 |some (.slice _)=>if K2 y=true then (match op with
  |.eql=>(cw x).map (.kQ false)
  |.neq=>(cw x).map (.kQ true)
  |_=>none) else none
 |some (.pointer _)=>if K1 false y=true then (match op with
  |.eql=>(cw x).map (.Aq false false)
  |.neq=>(cw x).map (.Aq true false)
  |_=>none) else none
 |some (.interface _)=>if K1 true y=true then (match op with
  |.eql=>(cw x).map (.Aq false true)
  |.neq=>(cw x).map (.Aq true true)
  |_=>none) else none
 |_=>none
def q5:Option Operand->Option (Option bm)
 |none=>some none
 |some x=>(cw x).map some
def q6 (P:Program)(kb:Nat)(own:List Nat)(dst:Option Nat)(type:TypeId)(c:Call):Option fe :=
 match c.callee,c.args.toList,c.argTypes.toList with
 |.builtin .len,[x],[t]=>match P.underlying t with
  |some (.slice _)=>(cw x).map .len
  |some .string=>(cw x).map .lens
  |_=>none
 |.builtin .append,[s,x],[t,u]=>match P.underlying t,P.underlying u with
  |some (.slice e),some (.slice _)=>do
   let z <-zeroOf P e
   let b <-C4 P e
   let n <-e8 P e
   let d <-dst
   let s <-cw s
   let x <-cw x
   if (D z)=n/\0<n/\t=u then pure (.app (kb+d) z b s x) else none
  |_,_=>none
 |.builtin .copy,[d,x],[t,u]=>match P.underlying t,P.underlying u with
  |some (.slice e),some (.slice _)=>do
   let n <-e8 P e
   if 0<n then pure (.qb n (<-cw d) (<-cw x)) else none
  |_,_=>none
 |.builtin .clear,[x],[t]=>match P.underlying t with
  |some (.slice e)=>do
   let z <-zeroOf P e
   let n <-e8 P e
   if (D z)=n/\0<n then pure (.so z (<-cw x)) else none
  |_=>none
 |.builtin .max,[x,y],_=>do pure (.kR true (<-cw x) (<-cw y))
 |.builtin .min,[x,y],_=>do pure (.kR false (<-cw x) (<-cw y))
 |.value (.func f),l,_=>if dst.any (λd=>own.contains d) then (match P.underlying type with
   |some (.slice e)=>do pure (.ln (kb+(<-dst)) (<-e8 P e) f (<-l.mapM cw))
   |_=>none) else match own.find? (λo=>decide (1000000<=o)&&dst==some (o%1000000)) with
   |some o=>if 1000000000000<=o then do pure (.pj (o/1000000000000-1) f (<-l.mapM cw)) else if 1000000000<=o then do pure (.ph (o/1000000000-1) f (<-l.mapM cw)) else do pure (.j4 (o/1000000-1) f (<-l.mapM cw))
   |none=>do pure (.call f (<-l.mapM cw))
 |.value f,l,_=>do pure (.jH (<-cw f) (<-l.mapM cw))
 |_,_,_=>none
def gj (P:Program)(kb:Nat)(own:List Nat)(dst:Option Nat)(type:TypeId):Op->Option fe
 |.move x=>(cw x).map .hG
 |.assign x=>(cw x).map .hG
 |.pick c a b=>do pure (.pick (<-cw c) (<-cw a) (<-cw b))
 |.alloc e=>do pure (.alloc (kb+(<-dst)) (<-zeroOf P e))
 |.box _ x=>do pure (.box (kb+(<-dst)) (<-cw x))
 |.build t cH=>match P.underlying t with
  |some (.struct db)=>if (db.toList.all λf=>(e8 P f.type).isSome)=true then do pure (.build (<-zeroOf P t) (<-partsOf (sv P db) cH.toList)) else none
  |some (.array _ e)=>do
   let s <-e8 P e
   pure (.build (<-zeroOf P t) (<-partsOf (λi=>some (i*s,s)) cH.toList))
  |_=>none
 |.buildSlice t len cH=>match P.underlying t with
  |some (.slice e)=>do
   let z <-zeroOf P e
   let s <-e8 P e
   let cH <-partsOf (λi=>some (i*s,s)) cH.toList
   let d <-dst
   if (D z)=s/\0<s/\len*s<=16777216 then pure (.eg (kb+d) (own.contains d) ((cK len z).flatten) s len cH) else none
  |_=>none
 |.load t x=>do pure (.load (<-e8 P t) (<-su P t) (<-cw x))
 |.store t x v=>do pure (.store (<-e8 P t) (<-cw x) (<-cw v))
 |.binOp op t x y _=>sx P op t x y
 |.unOp op _ x=>(cw x).map (.un op)
 |.nilCheck x=>(cw x).map .tn
 |.convert s t x=>match P.underlying s,P.underlying t with
  |some (.int _),some (.int k)=>(cw x).map (.conv k)
  |_,_=>none
 |.makeFunc (.func f) fst cZ=>if fst.size=0 then do pure (.vb f (<-cZ.toList.mapM cw)) else none
 |.makeSlice t l c=>match P.underlying t with
  |some (.slice e)=>do
   let z <-zeroOf P e
   let s <-e8 P e
   let b <-C4 P e
   let d <-dst
   if (D z)=s/\0<s then pure (.ll (kb+d) z b (<-cw l) (<-cw c)) else none
  |_=>none
 |.slice t x bP O jb=>match P.underlying t with
  |some (.slice e)=>do
   let s <-e8 P e
   if 0<s then pure (.qa s (<-cw x) (<-q5 bP) (<-q5 O) (<-q5 jb)) else none
  |some (.array n e)=>do
   let s <-e8 P e
   if 0<s/\n<=16777216 then pure (.sn n s (<-cw x) (<-q5 bP) (<-q5 O) (<-q5 jb)) else none
  |some .string=>if jb.isNone then do pure (.Ap (<-cw x) (<-q5 bP) (<-q5 O)) else none
  |_=>none
 |.fieldAddr t x f=>match P.underlying t with
  |some (.struct db)=>do
   let (o,s) <-sv P db f
   if 0<s then pure (.sm o (<-cw x)) else none
  |_=>none
 |.field t x f=>match P.underlying t with
  |some (.struct db)=>do
   let fd <-db[f]?
   let (o,s) <-sv P db f
   pure (.w0 o s (<-su P fd.type) (<-cw x))
  |_=>none
 |.indexAddr t x i=>match P.underlying t with
  |some (.slice e)=>do
   let s <-e8 P e
   if 0<s then pure (.tp s (<-cw x) (<-cw i)) else none
  |some (.array n e)=>do
   let s <-e8 P e
   if 0<s then pure (.Ao n s (<-cw x) (<-cw i)) else none
  |_=>none
 |.index t x i=>match P.underlying t with
  |some .string=>do pure (.idxs (<-cw x) (<-cw i))
  |some (.array n e)=>do pure (.KN n (<-e8 P e) (<-su P e) (<-cw x) (<-cw i))
  |_=>none
 |.makeInterface t x=>match P.underlying t with
  |some (.interface _)=>none
  |some _=>(cw x).map (.CS t)
  |none=>none
 |.typeAssert x _ t ok=>match P.underlying t with
  |some (.interface _)=>none
  |some _=>do pure (.KL t ok (<-zeroV P t) (<-cw x))
  |none=>none
 |.makeMap t none=>match P.underlying t with
  |some (.map _ _)=>do pure (.vc (kb+(<-dst)))
  |_=>none
 |.lookup t x i ok=>match P.underlying t with
  |some (.map k e)=>if ts P k=some 2 then do pure (.yE ok (<-zeroV P e) (<-cw x) (<-cw i)) else none
  |_=>none
 |.mapUpdate t x i v=>match P.underlying t with
  |some (.map k e)=>if ts P k=some 2 then do pure (.w2 (<-cw x) (<-cw i) (<-cw v)) else none
  |_=>none
 |.extract x i=>(cw x).map (.ext i)
 |.call c=>q6 P kb own dst type c
 |_=>none
def Gy (ops:Array Oper):Option (Nat×Bool)->Option (Option (Nat×Bool))
 |none=>some none
 |some (j,b)=>match (ops[j]?).bind (·.dst) with
  |some s=>some (some (s,b))
  |none=>none
def mN (P:Program)(n kb:Nat)(own:List Nat)(ops:Array Oper)(o:Oper):Option bn :=
 match Gy ops o.guard with
 |some g=>if o.dst.all (λd=>decide (d<n))=true then some ⟨o.dst,g,(gj P kb own o.dst o.type o.op).getD .bad⟩ else none
 |_=>none
def lo (m:fe):Nat:=match m with
 |.load ..=>1
 |.sn ..=>1
 |.yE ..=>1
 |m=>if fC m=true then 2 else 0
def tt (a b:Nat):Bool:=a==0||b==0||(a==1&&b==1)
def dL:bm->List Nat
 |.t s=>[s]
 |.c _=>[]
def vh:Option bm->List Nat
 |some (.t s)=>[s]
 |_=>[]
def nU:fe->List Nat
 |.hG x=>dL x
 |.pick c a b=>dL c++dL a++dL b
 |.alloc _ _=>[]
 |.box _ x=>dL x
 |.build _ cH=>cH.flatMap λp=>dL p.2.2
 |.eg _ _ _ _ _ cH=>cH.flatMap λp=>dL p.2.2
 |.load _ _ x=>dL x
 |.store _ x v=>dL x++dL v
 |.bin _ x y=>dL x++dL y
 |.beq _ x y=>dL x++dL y
 |.eqs _ _ x y=>dL x++dL y
 |.kQ _ x=>dL x
 |.un _ x=>dL x
 |.conv _ x=>dL x
 |.tn x=>dL x
 |.ll _ _ _ x y=>dL x++dL y
 |.sm _ x=>dL x
 |.w0 _ _ _ x=>dL x
 |.tp _ x i=>dL x++dL i
 |.Ao _ _ x i=>dL x++dL i
 |.idxs x i=>dL x++dL i
 |.qa _ x a b c=>dL x++vh a++vh b++vh c
 |.sn _ _ x a b c=>dL x++vh a++vh b++vh c
 |.Ap x a b=>dL x++vh a++vh b
 |.ext _ x=>dL x
 |.len x=>dL x
 |.lens x=>dL x
 |.app _ _ _ s x=>dL s++dL x
 |.qb _ s x=>dL s++dL x
 |.kR _ x y=>dL x++dL y
 |.call _ l=>l.flatMap dL
 |.ln _ _ _ l=>l.flatMap dL
 |.jH f l=>dL f++l.flatMap dL
 |.j4 _ _ l=>l.flatMap dL
 |.ph _ _ l=>l.flatMap dL
 |.pj _ _ l=>l.flatMap dL
 |.so _ x=>dL x
 |.vb _ l=>l.flatMap dL
 |.CS _ x=>dL x
 |.KL _ _ _ x=>dL x
 |.Aq _ _ x=>dL x
 |.KN _ _ _ x i=>dL x++dL i
 |.vc _=>[]
 |.yE _ _ x i=>dL x++dL i
 |.w2 x i v=>dL x++dL i++dL v
 |.bad=>[]
def looks (i:bn):List Nat:=nU i.op++(match i.g with|some (s,_)=>[s]|none=>[])
def nV (x y:bn):Bool :=
 (
  match x.dst with
  |some d => !(looks y).contains d&&y.dst != some d
  |none=>true) &&
 (
  match y.dst with
  |some d => !(looks x).contains d
  |none=>true)
def fo:List Oper->List Nat->List Nat
 | [],acc=>acc
 |o::r,acc=>fo r (acc++[o.after.toList.foldl (λs e=>if Region.binds .any e=true then s ||| (2^e.on ||| acc.getD e.on 0) else s) 0])
def w7:List bn->List bn->List Nat->Bool
 |_,[],_=>true
 |pre,c::cs,a::as=>(pre.zipIdx.all λ(p,i)=>a.testBit i||nV p c)&&w7 (pre++[c]) cs as
 |_,_::_,[]=>false
def w8:Nat->List Oper->Bool
 |_,[]=>true
 |n,o::r=>(o.after.all λe => !Region.binds .any e||decide (e.on<n))&&w8 (n+1) r
def pr (ops:Array Oper)(l:List bn):Bool:=w8 0 ops.toList&&w7 [] l (fo ops.toList [])
def lp:List bn->List bn->List Nat->List (List Nat)
 |_,[],_=>[]
 |pre,c::cs,as=>((pre.zipIdx.filter λ(p,i) => !((as.headD 0).testBit i||tt (lo p.op) (lo c.op))).map (·.2))::lp (pre++[c]) cs as.tail
def ox (P:Program)(n kb:Nat)(own:List Nat):Code->Option eh
 |.skip=>some .skip
 |.region _ ops draw=>match ops.toList.mapM (mN P n kb own ops) with
  |some l=>if draw=true then (if pr ops l=true then some (.ov l (lp [] l (fo ops.toList []))) else none) else some (.ops l)
  |none=>none
 |.seq a b=>match ox P n kb own a,ox P n kb own b with
  |some x,some y=>some (.seq x y)
  |_,_=>none
 |.cond c a b=>match cw c,ox P n kb own a,ox P n kb own b with
  |some c,some x,some y=>some (.cond c x y)
  |_,_,_=>none
 |.block id c=>(ox P n kb own c).map (.block id)
 |.loop c=>(ox P n kb own c).map .loop
 |.exit id=>some (.exit id)
 |.ret=>some .ret
 |_=>none
def vi (P:Program):ResultVar->Option jI
 |.tmp t=>some (.t t)
 |.cell a t=>match e8 P t,su P t with
  |some s,some g=>some (.cell a s g)
  |_,_=>none
def ps (P:Program)(kb:Nat)(own:List Nat)(f:Func):Option bQ :=
 match f.body with
 |none=>none
 |some c=>match ox P f.ntmps kb own c,f.results.toList.mapM (vi P) with
  |some b,some r=>some { n:=f.ntmps,ahp:=f.params.size+f.nfree,res:=r,body:=b }
  |_,_=>none
structure cX (A:Nat->Prop) (w:World) (B:cG) (ah:World) (aB:cG) (mem':Mem):Prop where
 b4:dq A ah aB mem'
 hW:Trans A w B ah aB
 fs:Fr (nj B) w ah
 fresh:∀b,nj aB b->nj B b\/w.heap.size<=b
def cX.still {A:Nat->Prop}{w ah:World}{B:cG}{mem:Mem}(h:dq A w B mem)(f:Fr (λ_=>False) w ah):cX A w B ah B mem:=by
 have hW:Trans A w B ah B:=⟨f.size,λb U aZ=>⟨f.block b U id,λJ=>aZ (.inl J)⟩,λ_ e he=>⟨e,he,.inl rfl⟩⟩;refine⟨⟨h.qZ,h.inj,h.sep,λb U=>u9 (h.lt b U) f.size,f.aho h.gl,h.va,λk g cs hm=>?_⟩,hW,⟨f.os,f.tape,f.output,f.size,λb U _=>f.block b U id⟩,λb U => .inl U⟩;obtain⟨e,he,aC,aE,U⟩:=h.c1 k g cs hm;refine⟨e,he,aC,aE,λb fp=>?_⟩;exact (U b fp).jw hW (f.block b (U b fp).lt id)
def cX.refl {A:Nat->Prop}{w:World}{B:cG}{mem:Mem}(h:dq A w B mem):cX A w B w B mem:=.still h (Fr.refl _ _)
def eu (B:cG)(k:Key)(e:gN):cG:=λj=>if j=k then some e else B j
def e2 (B:cG)(k:Key)(e:gN):eu B k e k=some e:=by simp[eu]
def eR (B:cG){k j:Key}(e:gN)(h:j≠k):eu B k e j=B j:=by simp[eu,h]
section
variable {A:Nat->Prop} {w ah:World} {B:cG} {mem:Mem} {k:Key} {e':gN} {cs:List I}
def Trans.change (dC:w.heap.size<=ah.heap.size)
  (hold:∀b,b<w.heap.size->(∀e,B k=some e->e.c1≠some b)->ah.heap[b]?=w.heap[b]?)
  (aC:∀e,B k=some e->e'=e\/e.g<e'.g)
  (jd:∀b,e'.c1=some b->w.heap.size<=b\/∃e,B k=some e/\e.c1=some b):Trans A w B ah (eu B k e'):=by
 refine⟨dC,λb U aZ=>⟨hold b U λe he J=>aZ (.inl ⟨k,e,he,J⟩),?_⟩,λj e he=>?_⟩
 ·rintro⟨j,e,he,J⟩
  by_cases aa:j=k
  ·subst aa;rw[e2] at he
   cases he;rcases jd b J with E|⟨e,E,G⟩
   ·omega
   ·exact aZ (.inl ⟨_,e,E,G⟩)
  ·rw[eR B e' aa] at he;exact aZ (.inl ⟨j,e,he,J⟩)
 ·by_cases aa:j=k
  ·subst aa;exact⟨e',e2 _ _ _,aC e he⟩
  ·exact⟨e,(eR B e' aa).trans he,.inl rfl⟩
def K3 (jd:∀b,e'.c1=some b->w.heap.size<=b\/∃e,B k=some e/\e.c1=some b)(b:Nat)(h:nj (eu B k e') b):nj B b\/w.heap.size<=b:=by
 obtain⟨j,e,he,J⟩:=h
 by_cases aa:j=k
 ·subst aa;rw[e2] at he
  cases he;rcases jd b J with E|⟨e,E,G⟩
  ·exact .inr E
  ·exact .inl ⟨_,e,E,G⟩
 ·rw[eR B e' aa] at he;exact .inl ⟨j,e,he,J⟩
def dq.PS (h:dq A w B mem)(dC:w.heap.size<=ah.heap.size)
  (hold:∀b,b<w.heap.size->(∀e,B k=some e->e.c1≠some b)->ah.heap[b]?=w.heap[b]?)
  (aC:∀e,B k=some e->e'=e\/e.g<e'.g)
  (jd:∀b,e'.c1=some b->w.heap.size<=b\/∃e,B k=some e/\e.c1=some b)
  (aE:e'.c1=none->cs=[])
  (Z:∀b,e'.c1=some b->p9 ah (bg A (eu B k e')) (eu B k e') e' b cs):dq A ah (eu B k e') (aV mem k e'.g cs):=by
 have hW:Trans A w B ah (eu B k e'):=Trans.change dC hold aC jd;have fresh:=K3 (w:=w) jd;refine⟨λj aa=>?_,λj hX e ax b he dF U dm=>?_,λb a5 aZ=>?_,λb U=>u9 (h.lt b U) dC,λb o U=>?_,λb o U aZ=>?_,λj g gu hm=>?_⟩
 ·by_cases bN:j=k
  ·subst bN;simp[aV] at aa
  ·simp only[aV,bN,if_false] at aa;rw[eR B e' bN];exact h.qZ j aa
 ·by_cases bN:j=k<;>by_cases hjk':hX=k
  ·rw[bN,hjk']
  ·subst bN;rw[e2] at he
   cases he;rw[eR B e' hjk'] at dF;rcases jd b U with E|⟨e,E,G⟩
   ·have:=h.q0 ⟨hX,ax,dF,dm⟩;omega
   ·exact h.inj _ _ e ax b E dF G dm
  ·subst hjk';rw[e2] at dF
   cases dF;rw[eR B e' bN] at he;rcases jd b dm with E|⟨eo,E,G⟩
   ·have:=h.q0 ⟨j,e,he,U⟩;omega
   ·exact h.inj _ _ e eo b he E U G
  ·rw[eR B e' bN] at he;rw[eR B e' hjk'] at dF;exact h.inj j hX e ax b he dF U dm
 ·rcases fresh b aZ with E|E
  ·exact h.sep b a5 E
  ·have:=h.lt b a5;omega
 ·obtain⟨T,E⟩:=h.gl b o U;exact⟨T,(hold b (Array.getElem?_eq_some_iff.1 E).1 λe he J=>h.va b o U ⟨k,e,he,J⟩).trans E⟩
 ·have E:=(Array.getElem?_eq_some_iff.1 (h.gl b o U).choose_spec).1;rcases fresh b aZ with G|G
  ·exact h.va b o U G
  ·omega
 ·by_cases bN:j=k
  ·subst bN;simp only[aV,if_true,bH,ei] at hm;obtain⟨rfl,rfl⟩:=hm;exact⟨e',e2 _ _ _,rfl,aE,Z⟩
  ·simp only[aV,bN,if_false] at hm;obtain⟨e,he,w9,Gz,gX⟩:=h.c1 j g gu hm;refine⟨e,(eR B e' bN).trans he,w9,Gz,λb U=>?_⟩;exact (gX b U).jw hW (hold b (gX b U).lt λeo ad aK=>bN (h.inj j k e eo b he ad U aK))
def dq.change (h:dq A w B mem)(dC:w.heap.size<=ah.heap.size)
  (hold:∀b,b<w.heap.size->(∀e,B k=some e->e.c1≠some b)->ah.heap[b]?=w.heap[b]?)
  (aC:∀e,B k=some e->e'=e\/e.g<e'.g)
  (jd:∀b,e'.c1=some b->w.heap.size<=b\/∃e,B k=some e/\e.c1=some b)
  (aE:e'.c1=none->cs=[])
  (Z:∀b,e'.c1=some b->e'.mp=false/\∃vs T,ah.heap[b]?=some (.cells vs T (0,0))/\vs.size=e'.size/\D cs<=vs.size /\
   ∀(i:Nat) (m:I),cs[i]?=some m->∃v,vs[i]?=some v/\aN w (bg A B) B m v):dq A ah (eu B k e') (aV mem k e'.g cs) :=
 h.PS dC hold aC jd aE λb U=>by
  have hW:Trans A w B ah (eu B k e'):=Trans.change dC hold aC jd;obtain⟨al,vs,T,E,G,ad,aK⟩:=Z b U;exact .inl ⟨al,vs,T,E,G,ad,λi m hm=>let ⟨v,ai,M⟩:=aK i m hm;⟨v,ai,M.jw hW⟩⟩
def cX.change (h:dq A w B mem)(f:Fr (λb=>∃e,B k=some e/\e.c1=some b) w ah)
  (aC:∀e,B k=some e->e'=e\/e.g<e'.g)
  (jd:∀b,e'.c1=some b->w.heap.size<=b\/∃e,B k=some e/\e.c1=some b)
  (aE:e'.c1=none->cs=[])
  (Z:∀b,e'.c1=some b->e'.mp=false/\∃vs T,ah.heap[b]?=some (.cells vs T (0,0))/\vs.size=e'.size/\D cs<=vs.size /\
   ∀(i:Nat) (m:I),cs[i]?=some m->∃v,vs[i]?=some v/\aN w (bg A B) B m v):cX A w B ah (eu B k e') (aV mem k e'.g cs):=by
 have hold:∀b,b<w.heap.size->(∀e,B k=some e->e.c1≠some b)->ah.heap[b]?=w.heap[b]? :=
  λb U J=>f.block b U fun⟨e,he,fp⟩=>J e he fp
 exact⟨h.change f.size hold aC jd aE Z,Trans.change f.size hold aC jd,⟨f.os,f.tape,f.output,f.size,λb U aZ=>f.block b U fun⟨e,he,fp⟩=>aZ ⟨k,e,he,fp⟩⟩,K3 jd⟩
def yK (h:dq A w B mem)(k:Key)(e:gN)(he:B k=some e):e.g<bw mem k:=by
 cases hm:mem k with
 |none=>rw[h.qZ k hm] at he;cases he
 |some x =>
  obtain⟨g,cs⟩:=x;obtain⟨ax,E,G,_⟩:=h.c1 k g cs hm;rw[E] at he
  cases he;simp[bw,hm,G]
def cX.alloc (h:dq A w B mem)(w1:World)(f:Fr (λ_=>False) w w1)(aQ:w1.heap.size=w.heap.size)(k:Key)(vs:Array Value)(T:TypeId)(af:(D cs)<=vs.size)
  (Z:∀(i:Nat) (m:I),cs[i]?=some m->∃v,vs[i]?=some v/\aN w (bg A B) B m v) :
  cX A w B (w1.alloc (.cells vs T)) (eu B k ⟨bw mem k,some w.heap.size,vs.size,false⟩) (aV mem k (bw mem k) cs):=by
 have f2:Fr (λ_=>False) w (w1.alloc (.cells vs T)):=f.alloc _;refine cX.change (e':=⟨bw mem k,some w.heap.size,vs.size,false⟩) h ⟨f2.os,f2.tape,f2.output,f2.size,λb U _=>f2.block b U id⟩ (λe he => .inr (yK h k e he)) (λb U => .inl ?_) (by simp) ?_
 ·simp at U;omega
 ·intro b U;simp at U;subst U;exact⟨rfl,vs,T,by rw[<-aQ];exact heap_alloc_new w1 _,rfl,af,Z⟩
def cX.vj (h:dq A w B mem)(k:Key):cX A w B w (eu B k ⟨bw mem k,none,0,false⟩) (aV mem k (bw mem k) []) :=
 cX.change (e':=⟨bw mem k,none,0,false⟩) h ⟨rfl,rfl,rfl,bM _,λ_ _ _=>rfl⟩ (λe he => .inr (yK h k e he)) (λb U=>by simp at U) (λ_=>rfl) (λb U=>by simp at U)
end
def cX.trans {A:Nat->Prop}{w w1 gi:World}{B hE sk:cG}{ba bJ:Mem}(h:cX A w B w1 hE ba)(bT:cX A w1 hE gi sk bJ):cX A w B gi sk bJ:=by
 refine⟨bT.b4,h.hW.trans bT.hW,⟨bT.fs.os.trans h.fs.os,bT.fs.tape.trans h.fs.tape,bT.fs.output.trans h.fs.output,cN h.fs.size bT.fs.size,λb U aZ=>?_⟩,λb U=>?_⟩
 ·have E:=h.fs.block b U aZ;refine (bT.fs.block b (u9 U h.fs.size) λJ=>?_).trans E;rcases h.fresh b J with G|G
  ·exact aZ G
  ·omega
 ·rcases bT.fresh b U with E|E
  ·exact h.fresh b E
  ·exact .inr (cN h.fs.size E)
def PT {w:World}{av:Nat->Prop}{B:cG}{v:Value}{m:I}(h:Gx v=some m):aN w av B m v:=by
 unfold Gx at h
 split at h<;>simp only[bH,reduceCtorEq] at h<;>subst h
 ·exact .L .int
 ·exact .L .bool
 ·rename_i s
  exact .L (by
   have:s=⟨s.data.toList.toArray⟩:=by simp
   rw[this]
   simpa using Den.str (s:=s.data.toList))
 ·exact .nil
 ·exact .L .p8
 ·exact .L .qY
 ·exact .L .mL
 ·exact .undef
def mapM_get {α β:Type}{f:α->Option β}:∀{l:List α} {r:List β},l.mapM f=some r->(D r)=D l/\∀(i:Nat) (x:α) (y:β),l[i]?=some x->r[i]?=some y->f x=some y
 | [],r,h=>by
  simp at h;subst h;exact⟨rfl,λi x y E=>by simp at E⟩
 |a::l,r,h=>by
  simp only[mx,ft,fD,di,bH] at h;obtain⟨b,U,C6,M,rfl⟩:=h;obtain⟨E,G⟩:=mapM_get M;refine⟨by simp[E],λi x y J ag=>?_⟩
  cases i with
  |zero=>simp at J ag;subst J;subst ag;exact U
  |succ i=>exact G i x y (by simpa using J) (by simpa using ag)
def WK {w:World}{av:Nat->Prop}{B:cG}{v:Value}{m:I}(h:K0 v=some m):aN w av B m v:=by
 unfold K0 at h
 split at h
 ·rename_i cs;simp only[cO] at h;obtain⟨ms,aY,rfl⟩:=h;obtain⟨E,G⟩:=mapM_get aY;have:=aN.agg (w:=w) (av:=av) (B:=B) (cs:=ms) (vs:=cs.toList) (by simp[E]) λi d v ae ai=>PT (G i v d ai ae)
  simpa using this
 ·exact PT h
section
variable {P:Program} {w:World} {av:Nat->Prop} {B:cG}
def aN.vk {k:IntKind}{n:Int}{v:Value}(h:aN w av B (.L (.int k n)) v):v=.int k n:=by
 cases h with
 |L h=>cases h;rfl
def aN.yL {b:Bool}{v:Value}(h:aN w av B (.L (.bool b)) v):v=.bool b:=by
 cases h with
 |L h=>cases h;rfl
def aN.yM {s:List UInt8}{v:Value}(h:aN w av B (.L (.str s)) v):v=.string ⟨s.toArray⟩:=by
 cases h with
 |L h=>cases h;rfl
def aN.ofInt {k:IntKind}{n:Int}:aN w av B (.L (.int k n)) (.int k n):=.L .int
def aht {op:BinOp}{k:IntKind}{a b:Int}{d:Data}(t:TypeId)(R:CT op=false)(h:KP op k a b=some d):
  ∃v,(binOp op t (.int k a) (.int k b)).run P w=.ok v w/\Den w av d v:=by
 cases op<;>simp only[KP,bH,reduceCtorEq] at h<;>simp only[CT,Bool.true_eq_false] at R
 case quo =>
  split at h
  ·cases h
  ·rename_i U
   cases h;exact⟨_,by simp[go_sem,Op.intDiv,U],.int⟩
 case rem =>
  split at h
  ·cases h
  ·rename_i U
   cases h;exact⟨_,by simp[go_sem,Op.intDiv,U],.int⟩
 all_goals
  subst h
  first
   |exact⟨_,by simp[go_sem,Op.intArith],.int⟩
   |exact⟨_,by simp[go_sem],.int⟩
   |exact⟨_,by simp[go_sem],.bool⟩
def ahu {op:BinOp}{k k':IntKind}{a b:Int}{d:Data}(t:TypeId)(R:CT op=true)(h:KQ op k a b=some d):
  ∃v,(binOp op t (.int k a) (.int k' b)).run P w=.ok v w/\Den w av d v:=by
 unfold KQ at h
 split at h
 ·cases h
 ·rename_i U
  cases op<;>simp only[CT,df] at R
  ·simp only[bH] at h;subst h;exact⟨.int k _,by simp[binOp,Op.shift,U],.int⟩
  ·simp only[bH] at h;subst h;exact⟨.int k _,by simp[binOp,Op.shift,U],.int⟩
def K4 {op:BinOp}{t:TypeId}{x y:Operand}{u v:Value}(E:u ≠ .nilIface)(G:∀c,u ≠ .agg c):eqGuard op t x y u v=pure ():=by
 unfold eqGuard
 cases op<;>cases u<;>first|rfl|exact absurd rfl E|exact absurd rfl (G _)
def ahv {op:BinOp}{a b:List UInt8}{d:Data}(t:TypeId)(h:KR op a b=some d):
  ∃v,(binOp op t (.string ⟨a.toArray⟩) (.string ⟨b.toArray⟩)).run P w=.ok v w/\Den w av d v:=by
 have ahw:binOp op t (.string ⟨a.toArray⟩) (.string ⟨b.toArray⟩)=Op.stringOp op ⟨a.toArray⟩ ⟨b.toArray⟩:=by
  cases op<;>rfl
 rw[ahw]
 cases op<;>simp only[KR,bH,reduceCtorEq] at h
 case add =>
  split at h
  ·rename_i af
   cases h;refine⟨.string ⟨(a++b).toArray⟩,?_,.str⟩;have sy:¬ (9223372036854775807<(D a:Int)+(D b:Int)):=by unfold maxLen at af;omega
   have aL:(ByteArray.mk a.toArray).size=D a:=by simp[ByteArray.size]
   have ax:(ByteArray.mk b.toArray).size=D b:=by simp[ByteArray.size]
   have xa:(ByteArray.mk a.toArray)++(ByteArray.mk b.toArray)=⟨(a++b).toArray⟩:=by
    apply ByteArray.ext;simp
   simp[Op.stringOp,aL,ax,sy,xa]
  ·cases h
 all_goals
  subst h;exact⟨_,by simp[Op.stringOp],.bool⟩
def WL {op:BinOp}{m n r:I}{u v:Value}(t:TypeId)(x y:Operand)(hm:aN w av B m u)(aE:aN w av B n v)(h:CU op m n=some r):
  ∃z,((do eqGuard op t x y u v;binOp op t u v:Sem Value)).run P w=.ok z w/\aN w av B r z:=by
 unfold CU at h
 split at h
 ·rename_i k a k' b
  cases hm.vk
  cases aE.vk;rw[K4 (by simp) (by simp)]
  split at h
  ·rename_i R;simp only[cO] at h;obtain⟨d,ae,rfl⟩:=h;obtain⟨z,E,G⟩:=ahu (P:=P) (w:=w) (av:=av) (k':=k') t R ae;exact⟨z,by simpa using E,.L G⟩
  ·rename_i R
   split at h
   ·rename_i Q;subst Q;simp only[cO] at h;obtain⟨d,ae,rfl⟩:=h;obtain⟨z,E,G⟩:=aht (P:=P) (w:=w) (av:=av) t (by simpa using R) ae;exact⟨z,by simpa using E,.L G⟩
   ·cases h
 ·rename_i a b
  cases hm.yM
  cases aE.yM;rw[K4 (by simp) (by simp)];simp only[cO] at h;obtain⟨d,ae,rfl⟩:=h;obtain⟨z,E,G⟩:=ahv (P:=P) (w:=w) (av:=av) t ae;exact⟨z,by simpa using E,.L G⟩
 ·cases h
def WM {neg:Bool}{m n r:I}{u v:Value}(t:TypeId)(x y:Operand)(bC:P.underlying t=some .bool)(hm:aN w av B m u)(aE:aN w av B n v)(h:CV neg m n=some r):
  ∃z,((do eqGuard (if neg then .neq else .eql) t x y u v;binOp (if neg then .neq else .eql) t u v:Sem Value)).run P w=.ok z w/\aN w av B r z:=by
 unfold CV at h
 split at h
 ·rename_i a b
  cases hm.yL
  cases aE.yL
  cases h;rw[K4 (by simp) (by simp)]
  cases neg
  ·exact⟨.bool (a==b),by simp[run_eql_bool w t a b bC],by cases a<;>cases b<;>exact .L .bool⟩
  ·exact⟨.bool (!(a==b)),by simp[run_neq_bool w t a b bC],by cases a<;>cases b<;>exact .L .bool⟩
 ·cases h
def ahx {t:TypeId}{k:Nat}{m n:I}{c:Bool}{u v:Value}(d:Nat)(Q:ts P t=some k)(hm:aN w av B m u)(aE:aN w av B n v)(h:KS k m n=some c):
  (Op.equalIn (d+1) t u v).run P w=.ok c w:=by
 unfold ts at Q;unfold KS at h
 split at h
 ·simp only[bH] at h
  cases hm.yL
  cases aE.yL;subst h
  split at Q<;>first|(exfalso;simp at Q;done)|(rename_i hu;exact run_equalIn_bool w d t _ _ hu)
 ·split at h
  ·rename_i ahy;subst ahy
   cases hm.vk
   cases aE.vk
   cases h
   split at Q<;>first|(exfalso;simp at Q;done)|(rename_i hu;exact run_equalIn_int w d t _ _ _ _ hu)
  ·cases h
 ·simp only[bH] at h
  cases hm.yM
  cases aE.yM;subst h
  split at Q<;>first|(exfalso;simp at Q;done)|(rename_i hu;rw[run_equalIn_string w d t _ _ hu];simp)
 ·cases h
def ahz {t:TypeId}{k:Nat}(h:ts P t=some k):(isAgg t).run P w=.ok false w:=by
 unfold ts at h
 split at h<;>simp only[bH,reduceCtorEq] at h<;>(rename_i hu;simp[isAgg,run_underlying hu])
def WN {d:Nat}{xs ys:Array Value}{cs ds:List I}(J:∀(i:Nat) (m:I) (v:Value),cs[i]?=some m->xs[i]?=some v->aN w av B m v)(tu:xs.size=D cs)
  (ag:∀(i:Nat) (m:I) (v:Value),ds[i]?=some m->ys[i]?=some v->aN w av B m v) (PU:ys.size=D ds) :
  ∀(db:List Field) (i:Nat) (fQ:List Nat) (c:Bool),C5 P i db=some fQ->yF fQ (cs.drop i) (ds.drop i)=some c->(Op.eqFields (d+1) xs ys db).run P w=.ok c w
 | [],i,fQ,c,ao,Z=>by
  simp[C5] at ao;subst ao
  cases E:cs.drop i<;>cases G:ds.drop i<;>simp[E,G,yF] at Z;subst Z;simp[Op.eqFields]
 |f::r,i,fQ,c,ao,Z=>by
  simp only[C5] at ao
  split at ao
  ·rename_i aE;obtain⟨tv,pt⟩:=aE
   split at ao
   ·rename_i k ahA Q tw
    cases ao
    cases E:cs.drop i with
    |nil=>simp[E,yF] at Z
    |cons a x =>
     cases G:ds.drop i with
     |nil=>simp[E,G,yF] at Z
     |cons b y =>
      rw[E,G] at Z;simp only[yF] at Z
      split at Z
      ·rename_i bU c6 iu nm
       cases Z
       have qc:i<D cs:=by
        rcases fE i (D cs) with h|h
        ·exact h
        ·rw[lq h] at E;cases E
       have dX:i<D ds:=by
        rcases fE i (D ds) with h|h
        ·exact h
        ·rw[lq h] at G;cases G
       rw[fY qc] at E;rw[fY dX] at G
       injection E with a5 ahB
       injection G with U ahC
       subst a5;subst U;subst ahB;subst ahC
       have ex:xs[f.offset]?=some (xs[i]'(by omega)):=by rw[pt];exact Array.getElem?_eq_getElem (by omega)
       have PV:ys[f.offset]?=some (ys[i]'(by omega)):=by rw[pt];exact Array.getElem?_eq_getElem (by omega)
       have rx:=J i _ _ (bB qc) (Array.getElem?_eq_getElem (by omega:i<xs.size));have ahD:=ag i _ _ (bB dX) (Array.getElem?_eq_getElem (by omega:i<ys.size));have he:=ahx (P:=P) d Q rx ahD iu;have aF:=WN (d:=d) J tu ag PU r (i+1) ahA c6 tw nm;have ahE:(isAgg f.type).run P w=.ok false w:=ahz Q;simp only[Op.eqFields,tv,ne_eq,not_false_eq_true,if_true,Sem.run_bind,part,ahE,Result.andThen_ok,df,if_false,ex,PV,Sem.run_pure,he]
       cases bU
       ·simp
       ·simp[aF]
      ·cases Z
   ·cases ao
  ·cases ao
def WO {m:I}{v:Value}(h:aN w av B m v)(E:m.one=true):v.oneCell'=true:=by
 cases h with
 |L ae=>cases ae<;>first|rfl|simp[I.one] at E
 |nil=>rfl
 |ref he aC ai=>obtain⟨a,cap,rfl,_⟩:=ai;rfl
 |ptr he aC ai=>obtain⟨b,rfl,_⟩:=ai;rfl
 |gV he aC ai=>obtain⟨b,rfl,_⟩:=ai;rfl
 |dK af ae=>rfl
 |agg af ae=>simp[I.one] at E
 |de af ae=>simp[I.one] at E
 |no=>simp[I.one] at E
 |undef=>simp[I.one] at E
def ahF {v:Value}(h:∀c,v ≠ .agg c):v.cells=#[v]:=by
 unfold Value.cells
 split
 ·rename_i cs;exact absurd rfl (h cs)
 ·rfl
def ahG {m:I}{v:Value}(h:aN w av B m v)(hu:m ≠ .undef):v.cells.size=D m.cells/\∀(i:Nat) (c:I) (u:Value),m.cells[i]?=some c->v.cells[i]?=some u->aN w av B c u:=by
 have one:(∀c,v ≠ .agg c)->m.cells=[m]->v.cells.size=D m.cells/\∀(i:Nat) (c:I) (u:Value),m.cells[i]?=some c->v.cells[i]?=some u->aN w av B c u:=by
  intro ai hm;rw[hm,ahF ai];refine⟨rfl,λi c u Z hu=>?_⟩
  cases i with
  |zero=>simp at Z hu;subst Z;subst hu;exact h
  |succ i=>simp at Z
 cases h with
 |L ae =>
  cases ae with
  |agg af ae =>
   refine⟨by simp[Value.cells,I.cells];exact af,λi c u Z hu=>?_⟩
   simp only[I.cells,bG,cO] at Z;obtain⟨d,kS,rfl⟩:=Z;exact .L (ae i d u kS (by simpa [Value.cells] using hu))
  |_=>exact one (by simp) rfl
 |nil=>exact one (by simp) rfl
 |ref he aC ai=>obtain⟨a,cap,rfl,_⟩:=ai;exact one (by simp) rfl
 |ptr he aC ai=>obtain⟨b,rfl,_⟩:=ai;exact one (by simp) rfl
 |gV he aC ai=>obtain⟨b,rfl,_⟩:=ai;exact one (by simp) rfl
 |dK af ae=>exact one (by simp) rfl
 |agg af ae =>
  refine⟨by simp[Value.cells,I.cells];exact af,λi c u Z hu=>ae i c u (by simpa [I.cells] using Z) (by simpa [Value.cells] using hu)⟩
 |de af ae=>exact one (by simp) rfl
 |no=>exact one (by simp[undef]) rfl
 |undef=>exact absurd rfl hu
end
section
variable {P:Program} {w:World} {av:Nat->Prop} {B:cG}
def cj (w:World)(av:Nat->Prop)(B:cG)(cs:List I)(vs:List Value):Prop :=
 (D vs)=D cs/\∀(i:Nat) (m:I) (v:Value),cs[i]?=some m->vs[i]?=some v->aN w av B m v
def cj.get {cs:List I}{vs:List Value}(h:cj w av B cs vs){i:Nat}{m:I}(O:cs[i]?=some m):∃v,vs[i]?=some v/\aN w av B m v:=by
 have af:i<D cs:=(dn.1 O).1;have ai:vs[i]?=some (vs[i]'(by rw[h.1];exact af)):=bB _;exact⟨_,ai,h.2 i m _ O ai⟩
def cj.nil:cj w av B [] []:=⟨rfl,λi m v h=>by simp at h⟩
def cj.cons {m:I}{v:Value}{cs:List I}{vs:List Value}(h:aN w av B m v)(M:cj w av B cs vs):cj w av B (m::cs) (v::vs):=by
 refine⟨by simp[M.1],λi m' oy E G=>?_⟩
 cases i with
 |zero=>simp at E G;subst E;subst G;exact h
 |succ i=>exact M.2 i m' oy (by simpa using E) (by simpa using G)
def cj.append {a b:List I}{x y:List Value}(h:cj w av B a x)(bT:cj w av B b y):cj w av B (a++b) (x++y):=by
 refine⟨by simp[h.1,bT.1],λi m v E G=>?_⟩
 rw[C7] at E G
 split at E
 ·rename_i O;rw[aq (by rw[h.1];exact O)] at G;exact h.2 i m v E G
 ·rename_i O;rw[ar (by rw[h.1];exact O),h.1] at G;exact bT.2 _ m v E G
def cj.drop {a:List I}{x:List Value}(h:cj w av B a x)(n:Nat):cj w av B (a.drop n) (x.drop n) :=
 ⟨by simp[h.1],λi m v E G=>h.2 (n+i) m v (by simpa using E) (by simpa using G)⟩
def cj.take {a:List I}{x:List Value}(h:cj w av B a x)(n:Nat):cj w av B (a.take n) (x.take n):=by
 refine⟨by simp[h.1],λi m v E G=>?_⟩
 rw[xb] at E G
 split at E
 ·rename_i O;rw[aq O] at G;exact h.2 i m v E G
 ·cases E
def cj.jJ {a b:List I}{x y:List Value}(h:cj w av B a x)(bT:cj w av B b y)(off:Nat):
  cj w av B (jJ a off b) (x.take off++y++x.drop (off+D y)):=by
 unfold Mini.jJ;rw[bT.1];exact ((h.take off).append bT).append (h.drop _)
def cj.PW {m:I}{v:Value}(h:aN w av B m v)(hu:m ≠ .undef):cj w av B m.cells v.cells.toList:=by
 obtain⟨E,G⟩:=ahG h hu;exact⟨by simpa using E,λi c u Z ai=>G i c u Z (by simpa using ai)⟩
def cj.L {ds:List Data}{vs:List Value}(af:(D vs)=D ds)(h:∀(i:Nat) (d:Data) (v:Value),ds[i]?=some d->vs[i]?=some v->Den w av d v):cj w av B (ds.map .L) vs:=by
 refine⟨by simp[af],λi m v E G=>?_⟩
 simp only[bG,cO] at E;obtain⟨d,ae,rfl⟩:=E;exact .L (h i d v ae G)
def C8 {cs:List I}{off n:Nat}{r:List I}(h:cut cs off n=some r):off+n<=D cs/\r=(cs.drop off).take n/\D r=n:=by
 unfold cut at h
 split at h
 ·rename_i af
  cases h;exact⟨af,rfl,by simp;omega⟩
 ·cases h
def lV (w:World)(b off:Nat)(vs:List Value):Prop:=∀(j:Nat) (u:Value),vs[j]?=some u->w.cell? ⟨b,off+j,none⟩=some u
def lV.add {w:World}{b off:Nat}{vs:List Value}(h:lV w b off vs)(n:Nat):lV w b (off+n) (vs.drop n):=λj u aa=>by
 have:=h (n+j) u (by simpa using aa);rwa [<-q7] at this
def lV.take {w:World}{b off:Nat}{vs:List Value}(h:lV w b off vs)(n:Nat):lV w b off (vs.take n):=λj u aa=>by
 rw[xb] at aa
 split at aa
 ·exact h j u aa
 ·cases aa
def lV.row {w:World}{b:Nat}{vs:Array Value}{T:TypeId}{fs:Nat×Nat}(h:w.heap[b]?=some (.cells vs T fs)):lV w b 0 vs.toList:=λj u aa=>by
 rw[lr,cell_of_row w b j vs T fs h]
 simpa using aa
def xc (b off n:Nat):(⟨b,off,none⟩:Addr).add n=⟨b,off+n,none⟩:=by
 unfold Addr.add
 split<;>simp_all
def lV.load {b off:Nat}{vs:List Value}(h:lV w b off vs):(loadCells ⟨b,off,none⟩ (D vs)).run P w=.ok vs.toArray w :=
 run_loadCells_list w _ vs λj v aa=>by rw[xc];exact h j v aa
def q8 {t:TypeId}{n:Nat}(h:e8 P t=some n):(sizeOf t).run P w=.ok n w:=by
 simp only[e8,cO] at h;obtain⟨i,O,rfl⟩:=h;simp[sizeOf,typeInfo,O]
def K5 {t:TypeId}{g:Bool}(h:su P t=some g):(isAgg t).run P w=.ok g w:=by
 simp only[su,cO] at h;obtain⟨d,ae,rfl⟩:=h;simp only[isAgg,Sem.run_bind,run_underlying ae,Result.andThen_ok]
 cases d<;>rfl
def PX {t:TypeId}{n:Nat}{bF:Bool}{b off:Nat}{ms:List I}{vs:List Value}{r:I}(R:e8 P t=some n)(a5:su P t=some bF)(af:(D ms)=n)
  (bY:cj w av B ms vs) (gO:lV w b off vs) (h:nT bF ms=some r):∃u,(loadVar t ⟨b,off,none⟩).run P w=.ok u w/\aN w av B r u:=by
 unfold nT at h
 split at h
 ·rename_i tx
  cases h;subst tx;refine⟨.agg vs.toArray,?_,.agg bY.1 bY.2⟩;have:=gO.load (P:=P);rw[bY.1,af] at this;simp[loadVar,K5 a5,q8 R,this]
 ·rename_i tx
  split at h
  ·cases h;obtain⟨u,hu,M⟩:=bY.get (i:=0) (m:=r) rfl;have:=gO 0 u hu;have PY:bF=false:=by simpa using tx
   subst PY;exact⟨u,by simp[loadVar,K5 a5,this];simpa using by rw[show off=off+0 from rfl,this],M⟩
  ·cases h
end
section
variable {P:Program} {A:Nat->Prop} {w:World} {B:cG} {mem:Mem}
def dq.at_ (h:dq A w B mem){k:Key}{g:Nat}{cs:List I}(Q:mem k=some (g,cs)):
  ∃e,B k=some e/\e.g=g/\(e.c1=none->cs=[])/\∀b,e.c1=some b->e.mp=false->∃(vs:Array Value) (T:TypeId),w.heap[b]?=some (.cells vs T (0,0))/\vs.size=e.size/\D cs<=vs.size /\
   cj w (bg A B) B cs (vs.toList.take (D cs)):=by
 obtain⟨e,he,aC,aE,U⟩:=h.c1 k g cs Q;refine⟨e,he,aC,aE,λb fp gF=>?_⟩;obtain⟨vs,T,E,G,ad,aK⟩:=(U b fp).cells gF;refine⟨vs,T,E,G,ad,by simp;omega,λi m v hm ai=>?_⟩
 obtain⟨u,hu,M⟩:=aK i m hm;rw[xb] at ai
 split at ai
 ·rw[Array.getElem?_toList,hu] at ai
  cases ai;exact M
 ·cases ai
def WQ {n:Nat}{bF:Bool}{m r:I}{v:Value}(a3:dq A w B mem)(ai:aN w (bg A B) B m v)(h:ib mem n bF m=some r):
  ∃b off ms vs,v=.pointer (some ⟨b,off,none⟩)/\D ms=n/\cj w (bg A B) B ms vs/\lV w b off vs/\nT bF ms=some r:=by
 unfold ib at h
 split at h
 ·rename_i k g off
  split at h
  ·rename_i cf cs Q
   split at h
   ·rename_i aC;subst aC;simp only[di] at h;obtain⟨ms,aY,M⟩:=h;obtain⟨af,rfl,aE⟩:=C8 aY;obtain⟨e,he,bO,vl,U⟩:=a3.at_ Q
    cases ai with
    |ptr ea w9 j6 =>
     rw[he] at ea
     cases ea;obtain⟨b,rfl,fp⟩:=j6;obtain⟨fp,gF⟩:=fp bO.symm;obtain⟨vs,T,a8,aQ,hle,bY⟩:=U b fp gF;refine⟨b,off,_,((vs.toList.take (D cs)).drop off).take n,rfl,aE,(bY.drop off).take n,?_,M⟩;have:=(((lV.row a8).take (D cs)).add off).take n
     simpa using this
   ·cases h
  ·cases h
 ·rename_i ds;simp only[di] at h;obtain⟨ms,aY,M⟩:=h;obtain⟨af,rfl,aE⟩:=C8 aY
  cases ai with
  |L ae =>
   cases ae with
   | @ptr cs b off val U eA Z ae =>
    refine⟨b,off,_,((je (D ds)).map val).take n,rfl,aE,?_,?_,M⟩
    ·have:cj w (bg A B) B (ds.map .L) ((je (D ds)).map val):=cj.L (by simp) λi d v E G=>by
      have O:i<D ds:=(dn.1 E).1;simp[O] at G;subst G;exact ae i d E
     simpa using this.take n
    ·refine lV.take (λj u aa=>?_) n;simp only[bG,cO] at aa;obtain⟨hX,jz,rfl⟩:=aa
     have E:hX=j/\j<D ds:=by
      rcases fE j (D ds) with h|h
      ·rw[q9 h] at jz;exact⟨by simpa using jz.symm,h⟩
      ·rw[mO (by simpa using h)] at jz
       cases jz
     obtain⟨rfl,iv⟩:=E;exact Z hX iv
 ·cases h
def ahH {t:TypeId}{n:Nat}{bF:Bool}{m r:I}{v:Value}(R:e8 P t=some n)(a5:su P t=some bF)(a3:dq A w B mem)(ai:aN w (bg A B) B m v)(h:ib mem n bF m=some r):
  ∃u,(Instr.loadAt t v).run P w=.ok u w/\aN w (bg A B) B r u:=by
 obtain⟨b,off,ms,vs,rfl,af,bY,gO,M⟩:=WQ a3 ai h;obtain⟨u,E,G⟩:=PX (P:=P) R a5 af bY gO M;exact⟨u,by simpa [Instr.loadAt,Instr.sureAddr] using E,G⟩
end
section
variable {P:Program} {w:World} {av:Nat->Prop} {B:cG}
def WR {m:I}{cs:List I}{v:Value}(h:Ar m=some cs)(ai:aN w av B m v):∃vs:List Value,v=.agg vs.toArray/\cj w av B cs vs:=by
 unfold Ar at h
 split at h
 ·cases h
  cases ai with
  |agg af ae=>exact⟨_,rfl,af,ae⟩
 ·cases h
  cases ai with
  |L ae =>
   cases ae with
   |agg af ae=>exact⟨_,rfl,cj.L af ae⟩
 ·cases h
def WS {neg:Bool}{fQ:List Nat}{m n r:I}{u v:Value}(t:TypeId)(x y:Operand)(db:Array Field)(hu:P.underlying t=some (.struct db))(R:P.stoodInHeld t=false)
  (aC:P.eqGuardType P.depth t=false) (Q:C5 P 0 db.toList=some fQ) (hm:aN w av B m u) (aE:aN w av B n v) (h:Ga neg fQ m n=some r) :
  ∃z,((do eqGuard (if neg then .neq else .eql) t x y u v;binOp (if neg then .neq else .eql) t u v:Sem Value)).run P w=.ok z w/\aN w av B r z:=by
 unfold Ga at h
 split at h
 ·rename_i cs ds jK e4
  split at h
  ·rename_i c Z
   cases h;obtain⟨xs,rfl,J⟩:=WR jK hm;obtain⟨ys,rfl,ag⟩:=WR e4 aE;have xd:P.fieldsOf t=db:=by simp[Program.fieldsOf,hu]
   have he:=run_equalIn_struct (P:=P) w 9999 t xs.toArray ys.toArray (by rw[xd];exact hu) R;rw[xd] at he
   have ao:=WN (P:=P) (w:=w) (av:=av) (B:=B) (d:=9998) (xs:=xs.toArray) (ys:=ys.toArray) (cs:=cs) (ds:=ds)
    (λi m v E G=>J.2 i m v E (by simpa using G)) (by simpa using J.1) (λi m v E G=>ag.2 i m v E (by simpa using G)) (by simpa using ag.1) db.toList 0 fQ c Q (by simpa using Z)
   have heq:(Op.equal t (.agg xs.toArray) (.agg ys.toArray)).run P w=.ok c w:=by
    show (Op.equalIn (9999+1) t _ _).run P w=_;rw[he];exact ao
   have ra:∀op,(op=BinOp.eql\/op=.neq)->(eqGuard op t x y (.agg xs.toArray) (.agg ys.toArray)).run P w=.ok () w:=by
    intro op ev;rcases ev with rfl|rfl<;>simp[eqGuard,aC]
   refine⟨.bool (neg != c),?_,.L .bool⟩
   cases neg
   ·simp only[df,if_false,Sem.run_bind,ra _ (.inl rfl),Result.andThen_ok];show (do pure (Value.bool (<-Op.equal t (.agg xs.toArray) (.agg ys.toArray))):Sem Value).run P w=_
    simp[heq]
   ·simp only[if_true,Sem.run_bind,ra _ (.inr rfl),Result.andThen_ok];show (do pure (Value.bool (!(<-Op.equal t (.agg xs.toArray) (.agg ys.toArray)))):Sem Value).run P w=_
    simp[heq]
  ·cases h
 ·cases h
def ahI {c a b r:I}{WT sA qd:Value}(Z:aN w av B c WT)(a5:aN w av B a sA)(U:aN w av B b qd)(h:CW c a b=some r):
  ∃z,(do pure (if <-asBool WT then sA else qd):Sem Value).run P w=.ok z w/\aN w av B r z:=by
 unfold CW at h
 split at h
 ·rename_i t
  cases Z.yL
  cases t
  ·cases h;exact⟨qd,by simp[asBool],U⟩
  ·cases h;exact⟨sA,by simp[asBool],a5⟩
 ·cases h
def ahJ {op:UnOp}{m r:I}{v:Value}(hm:aN w av B m v)(h:F8 op m=some r):∃z,(Op.unary op v).run P w=.ok z w/\aN w av B r z:=by
 unfold F8 at h
 split at h
 ·cases h;cases hm.vk;exact⟨_,by simp[Op.unary,Op.intArith],.L .int⟩
 ·cases h;cases hm.vk;exact⟨_,by simp[Op.unary,go_sem],.L .int⟩
 ·cases h;cases hm.yL;exact⟨_,by simp[Op.unary],.L .bool⟩
 ·cases h
def ahK {k:IntKind}{m r:I}{v:Value}(s t:TypeId)(fQ:IntKind)(R:P.underlying s=some (.int fQ))(bC:P.underlying t=some (.int k))(hm:aN w av B m v)(h:Gb k m=some r):
  ∃z,(convert s t v).run P w=.ok z w/\aN w av B r z:=by
 unfold Gb at h
 split at h
 ·cases h
  cases hm.vk;have O:P.intKind t=k:=by simp[Program.intKind,bC]
  have:=run_convert_int (P:=P) w s t;exact⟨.int k _,by simp[convert,run_underlying R,run_underlying bC,Conv.intToInt],.L .int⟩
 ·cases h
def ahL {off:Nat}{m r:I}{v:Value}(t:TypeId)(f:Nat)(db:Array Field)(fd:Field)(s:Nat)(hu:P.underlying t=some (.struct db))(ao:db[f]?=some fd)(R:e8 P fd.type=some s)(al:0<s)
  (aZ:fd.offset=off) (hm:aN w av B m v) (h:CX off m=some r):∃z,(Instr.fieldAt t v f).run P w=.ok z w/\aN w av B r z:=by
 have bc:¬ s=0:=by omega
 have run:∀b o,(Instr.fieldAt t (.pointer (some ⟨b,o,none⟩)) f).run P w=.ok (.pointer (some ⟨b,o+off,none⟩)) w:=by
  intro b o;simp[Instr.fieldAt,run_underlying hu,ao,Instr.sureAddr,fieldPlace,q8 R,bc,xc,aZ]
 unfold CX at h
 split at h
 ·cases h;rename_i k g o
  cases hm with
  |ptr he aC ai =>
   obtain⟨b,rfl,U⟩:=ai;exact⟨_,run b o,.ptr he aC ⟨b,rfl,U⟩⟩
 ·rename_i ds
  split at h
  ·rename_i af
   cases h
   cases hm with
   |L ae =>
    cases ae with
    | @ptr cs b o val U eA Z ae =>
     refine⟨_,run b o,.L (.ptr (λi=>val (off+i)) U eA (λi O=>?_) λi d my=>ae _ d (by simpa using my))⟩;have:=Z (off+i) (by simp at O;omega);rwa [<-q7] at this
  ·cases h
 ·cases h
def WU {t:TypeId}{n off:Nat}{bF:Bool}{cs ms:List I}{vs:List Value}{r:I}(R:e8 P t=some n)(a5:su P t=some bF)(bY:cj w av B cs vs)(Z:cut cs off n=some ms)(h:nT bF ms=some r):
  ∃u,(part t vs.toArray off).run P w=.ok u w/\aN w av B r u:=by
 obtain⟨af,rfl,aE⟩:=C8 Z;have aP:=(bY.drop off).take n;unfold nT at h
 split at h
 ·rename_i tx
  cases h;subst tx;refine⟨.agg ((vs.drop off).take n).toArray,?_,.agg aP.1 aP.2⟩
  have e:vs.toArray.extract off (off+n)=((vs.drop off).take n).toArray:=by
   simp[List.extract_eq_take_drop]
  simp[part,K5 a5,q8 R,e]
 ·rename_i tx;have PY:bF=false:=by simpa using tx
  subst PY
  split at h
  ·rename_i m aY
   cases h
   have O:cs[off]?=some r:=by
    have:=congrArg (λl=>l[0]?) aY;simp[xb] at this;exact this.2
   obtain⟨u,hu,ahM⟩:=bY.get O;exact⟨u,by simp[part,K5 a5,hu],ahM⟩
  ·cases h
def ahN {off n:Nat}{bF:Bool}{m r:I}{v:Value}(t:TypeId)(f:Nat)(db:Array Field)(fd:Field)(hu:P.underlying t=some (.struct db))(ao:db[f]?=some fd)(R:e8 P fd.type=some n)
  (a5:su P fd.type=some bF) (aZ:fd.offset=off) (hm:aN w av B m v) (h:CY off n bF m=some r):∃z,(Instr.field t v f).run P w=.ok z w/\aN w av B r z:=by
 subst aZ
 have go:∀(cs:List I) (vs:List Value),cj w av B cs vs->(cut cs fd.offset n).bind (nT bF)=some r->∃z,(Instr.field t (.agg vs.toArray) f).run P w=.ok z w/\aN w av B r z:=by
  intro cs vs bY a8;simp only[di] at a8;obtain⟨ms,E,G⟩:=a8;obtain⟨u,ad,aK⟩:=WU (P:=P) R a5 bY E G;exact⟨u,by simp[Instr.field,run_underlying hu,ao,asAgg,ad],aK⟩
 unfold CY at h
 split at h
 ·cases hm with
  |agg af ae=>exact go _ _ ⟨af,ae⟩ h
 ·cases hm with
  |L ae =>
   cases ae with
   |agg af ae=>exact go _ _ (cj.L af ae) h
 ·cases h
def Au {m:I}{n:Nat}{v:Value}(h:idx m=some n)(ai:aN w av B m v):∃k,v=.int k (n:Int):=by
 unfold idx at h
 split at h
 ·rename_i k i
  split at h
  ·rename_i al
   cases h
   cases ai.vk;exact⟨k,by rw[Int.toNat_of_nonneg al]⟩
  ·cases h
 ·cases h
def CP.at_ {e:gN}{g sz off len:Nat}{v:Value}(h:CP e g sz off len v)(al:0<len):∃b cap,v=.slice (some ⟨b,off,none⟩) len cap/\len<=cap/\cap<=maxLen/\(g=e.g->e.c1=some b/\off+cap*sz<=e.size/\e.mp=false):=by
 obtain⟨a,cap,rfl,G,ad,aK⟩:=h;rcases aK with aK|⟨b,rfl,bp⟩
 ·omega
 ·exact⟨b,cap,rfl,G,ad,bp⟩
def ahO {es:List (List Data)}{sz:Nat}(dC:∀e∈es,D e=sz):∀(n i:Nat) (e:List Data),es[n]?=some e->i<sz->es.flatten[n*sz+i]?=e[i]?:=by
 induction es with
 |nil=>intro n i e h;simp at h
 |cons a r aF =>
  intro n i e h O;have a5:=dC a (by simp)
  cases n with
  |zero =>
   simp at h;subst h;rw[lj,C9 (by omega)];simp
  |succ n =>
   rw[lj,Av (by rw[a5,tz];omega)];have:=aF (λx J=>dC x (by simp[J])) n i e (by simpa using h) O;rw[<-this,a5]
   congr 1
   rw[tz];omega
def ahP {sz n:Nat}{m r:I}{v:Value}{k:IntKind}(t e:TypeId)(hu:P.underlying t=some (.slice e))(R:e8 P e=some sz)(hm:aN w av B m v)(h:Gd sz n m=some r):
  ∃z,(Instr.indexAt t v (.int k (n:Int))).run P w=.ok z w/\aN w av B r z:=by
 have run:∀b off len cap,n<len->(Instr.indexAt t (.slice (some ⟨b,off,none⟩) len cap) (.int k (n:Int))).run P w=.ok (.pointer (some ⟨b,off+n*sz,none⟩)) w:=by
  intro b off len cap au;simp[Instr.indexAt,run_underlying hu,asIntOf,au,q8 R,xc]
 unfold Gd at h
 split at h
 ·split at h
  ·rename_i af;obtain⟨au,rfl⟩:=af
   cases h
   cases hm with
   |ref he aC ai =>
    obtain⟨b,cap,rfl,E,G,ad⟩:=ai.at_ (by omega);exact⟨_,run _ _ _ _ au,.ptr he aC ⟨b,rfl,λh=>⟨(ad h).1,(ad h).2.2⟩⟩⟩
  ·cases h
 ·rename_i es
  split at h
  ·rename_i el jL
   split at h
   ·rename_i hle
    cases h
    cases hm with
    |L ae =>
     have au:n<D es:=(dn.1 jL).1
     cases ae with
     |j3=>simp at au
     | @ay es b off c dG val af Da U eA dC Z ae =>
      have GA:dG=sz:=by rw[<-hle];exact (dC _ (du jL)).symm
      subst GA
      have hmul:n*dG+dG<=D es*dG:=by
       have:(n+1)*dG<=D es*dG:=mP _ au;rwa [ou,tk] at this
      refine⟨_,run _ _ _ _ au,.L (.ptr (λi=>val (n*dG+i)) U eA (λi O=>?_) λi d my=>?_)⟩
      ·have:=Z (n*dG+i) (by omega);rwa [<-q7] at this
      ·refine ae _ d ?_;rw[ahO dC n i el jL (by have:=(dn.1 my).1;omega)];exact my
   ·cases h
  ·cases h
 ·cases h
def ahQ {len sz n:Nat}{m r:I}{v:Value}{k:IntKind}(t e:TypeId)(hu:P.underlying t=some (.array len e))(R:e8 P e=some sz)(hm:aN w av B m v)(h:Ge len sz n m=some r):
  ∃z,(Instr.indexAt t v (.int k (n:Int))).run P w=.ok z w/\aN w av B r z:=by
 have run:∀b off,n<len->(Instr.indexAt t (.pointer (some ⟨b,off,none⟩)) (.int k (n:Int))).run P w=.ok (.pointer (some ⟨b,off+n*sz,none⟩)) w:=by
  intro b off au;simp[Instr.indexAt,run_underlying hu,asIntOf,Instr.sureAddr,au,q8 R,xc]
 unfold Ge at h
 split at h
 ·split at h
  ·rename_i au
   cases h
   cases hm with
   |ptr he aC ai =>
    obtain⟨b,rfl,U⟩:=ai;exact⟨_,run _ _ au,.ptr he aC ⟨b,rfl,U⟩⟩
  ·cases h
 ·rename_i ds
  split at h
  ·rename_i af;obtain⟨au,hle⟩:=af
   cases h
   cases hm with
   |L ae =>
    cases ae with
    | @ptr cs b o val U eA Z ae =>
     refine⟨_,run _ _ au,.L (.ptr (λi=>val (n*sz+i)) U eA (λi O=>?_) λi d my=>ae _ d (by simpa using my))⟩;have:=Z (n*sz+i) (by simp at O;omega);rwa [<-q7] at this
  ·cases h
 ·cases h
def ahR {n:Nat}{m r:I}{v:Value}{k:IntKind}(t:TypeId)(hu:P.underlying t=some .string)(hm:aN w av B m v)(h:Gf n m=some r):
  ∃z,(Instr.index t v (.int k (n:Int))).run P w=.ok z w/\aN w av B r z:=by
 unfold Gf at h
 split at h
 ·rename_i s;simp only[cO] at h;obtain⟨b,U,rfl⟩:=h
  cases hm.yM;have au:n<D s:=(dn.1 U).1
  have e:(ByteArray.mk s.toArray)[n]?=some b:=by
   rw[ByteArray.getElem?_lt' _ _ (by simpa [ByteArray.size] using au)];have:=(dn.1 U).2;simp only[bH];rw[<-this]
   rfl
  exact⟨.int .u8 b.toNat,by simp[Instr.index,run_underlying hu,asIntOf,e],.L .int⟩
 ·cases h
def ahS {i:Nat}{m r:I}{v:Value}(hm:aN w av B m v)(h:Gj i m=some r):∃z,(Instr.extract v i).run P w=.ok z w/\aN w av B r z:=by
 unfold Gj at h
 split at h
 ·cases hm with
  |de af ae =>
   obtain⟨u,hu,M⟩:=cj.get ⟨af,ae⟩ h;exact⟨u,by simp[Instr.extract,hu],M⟩
 ·simp only[cO] at h;obtain⟨d,kS,rfl⟩:=h
  cases hm with
  |L ae =>
   cases ae with
   |de af ae =>
    obtain⟨u,hu,M⟩:=cj.get (cj.L af ae) (i:=i) (m:=.L d) (by simp[kS]);exact⟨u,by simp[Instr.extract,hu],M⟩
 ·cases h
def ahT {m:I}{n:Nat}{v:Value}(t ty e:TypeId)(bC:P.underlying t=some (.slice e))(hm:aN w av B m v)(h:sq m=some n):
  (Builtin.len_ #[t] ty #[v]).run P w=.ok (.int .i64 n) w:=by
 have run:∀a c,(Builtin.len_ #[t] ty #[.slice a n c]).run P w=.ok (.int .i64 n) w:=λa c=>by
  simp[Builtin.len_,run_underlying bC,goInt]
 unfold sq at h
 split at h<;>cases h
 ·cases hm with
  |L ae =>
   cases ae with
   |j3=>exact run _ _
   |ay=>exact run _ _
 ·cases hm with
  |nil=>exact run _ _
 ·cases hm with
  |ref he aC ai=>obtain⟨a,cap,rfl,_⟩:=ai;exact run _ _
def ahU {m:I}{n:Nat}{v:Value}(t ty:TypeId)(bC:P.underlying t=some .string)(hm:aN w av B m v)(h:w3 m=some n):
  (Builtin.len_ #[t] ty #[v]).run P w=.ok (.int .i64 n) w:=by
 unfold w3 at h
 split at h<;>cases h
 rename_i s
 cases hm.yM;have e:(ByteArray.mk s.toArray).size=D s:=by simp[ByteArray.size]
 simp[Builtin.len_,run_underlying bC,goInt,e]
def WV {jb:Bool}{m n r:I}{u v:Value}(rb:Array TypeId)(t:TypeId)(hm:aN w av B m u)(aE:aN w av B n v)(h:Gk jb m n=some r):
  ∃z,(if jb=true then Builtin.max_ rb t #[u,v] else Builtin.min_ rb t #[u,v]).run P w=.ok z w/\aN w av B r z:=by
 unfold Gk at h
 split at h
 ·split at h
  ·rename_i Q;subst Q
   cases h
   cases hm.vk
   cases aE.vk
   cases jb
   ·exact⟨_,by simp[run_min_int2],.L .int⟩
   ·exact⟨_,by simp[run_max_int2],.L .int⟩
  ·cases h
 ·cases h
def ahV {m r:I}{v:Value}(hm:aN w av B m v)(h:Gc m=some r):(∃b off,v=.pointer (some ⟨b,off,none⟩))/\aN w av B r v:=by
 unfold Gc at h
 split at h
 ·cases h;refine⟨?_,hm⟩
  cases hm with
  |ptr he aC ai=>obtain⟨b,rfl,_⟩:=ai;exact⟨_,_,rfl⟩
 ·cases h;refine⟨?_,hm⟩
  cases hm with
  |L ae=>cases ae;exact⟨_,_,rfl⟩
 ·cases h
def Db {x:I}{n y:Nat}{v:Value}(code:BoundsCode)(J:idx x=some n)(ai:aN w av B x v)(aE:n<=y):(Instr.sliceBound v y code).run P w=.ok n w:=by
 obtain⟨k,rfl⟩:=Au J ai
 simpa using run_sliceBound (P:=P) w k (n:Int) y code (by omega) (by omega)
def pv (w:World)(av:Nat->Prop)(B:cG):Option I->Option Value->Prop
 |none,none=>True
 |some m,some v=>aN w av B m v
 |_,_=>False
def PZ {len cap l h:Nat}{bP O:Option I}{jM jN:Option Value}(P0:Bool)(fZ:iJ 0 bP=some l)(jf:iJ len O=some h)
  (lu:pv w av B bP jM) (ku:pv w av B O jN) (af:l<=h) (a8:h<=cap):(Instr.sliceBounds P0 len cap jM jN none).run P w=.ok (l,h,cap) w:=by
 unfold Instr.sliceBounds
 cases bP with
 |none =>
  cases jM with
  |some v=>exact lu.elim
  |none =>
   simp[iJ] at fZ;subst fZ
   cases O with
   |none =>
    cases jN with
    |some v=>exact ku.elim
    |none=>simp[iJ] at jf;subst jf;simp
   |some m =>
    cases jN with
    |none=>exact ku.elim
    |some v =>
     have ax:=λcode=>Db (P:=P) (y:=cap) code jf ku a8
     cases P0<;>simp[ax]
 |some ml =>
  cases jM with
  |none=>exact lu.elim
  |some aW =>
   have aL:=λcode=>Db (P:=P) (y:=h) code fZ lu af
   cases O with
   |none =>
    cases jN with
    |some v=>exact ku.elim
    |none=>simp[iJ] at jf;subst jf;simp[aL]
   |some m =>
    cases jN with
    |none=>exact ku.elim
    |some v =>
     have ax:=λcode=>Db (P:=P) (y:=cap) code jf ku a8
     cases P0<;>simp[aL,ax]
def ahW {len cap l h m:Nat}{bP:Option I}{O jb:I}{jM:Option Value}{jN xe:Value}(fZ:iJ 0 bP=some l)(jf:idx O=some h)(gk:idx jb=some m)
  (lu:pv w av B bP jM) (ku:aN w av B O jN) (Dc:aN w av B jb xe) (af:l<=h) (a8:h<=m) (hm:m<=cap):(Instr.sliceBounds true len cap jM (some jN) (some xe)).run P w=.ok (l,h,m) w:=by
 have fF:=Db (P:=P) (y:=cap) .slice3Acap gk Dc hm;have ax:=Db (P:=P) (y:=m) .slice3B jf ku a8;unfold Instr.sliceBounds
 cases bP with
 |none =>
  cases jM with
  |some v=>exact lu.elim
  |none =>
   simp[iJ] at fZ;subst fZ;simp[fF,ax]
 |some ml =>
  cases jM with
  |none=>exact lu.elim
  |some aW =>
   have aL:=Db (P:=P) (y:=h) .slice3C fZ lu af;simp[fF,ax,aL]
def K6 {m:I}{n:Nat}{v:Value}(hm:aN w av B m v)(h:sq m=some n):∃a c,v=.slice a n c/\n<=c:=by
 unfold sq at h
 split at h<;>cases h
 ·cases hm with
  |L ae =>
   cases ae with
   |j3=>exact⟨_,_,rfl,by simp⟩
   |ay val af=>exact⟨_,_,rfl,af⟩
 ·cases hm with
  |nil=>exact⟨_,_,rfl,by simp⟩
 ·cases hm with
  |ref he aC ai=>obtain⟨a,cap,rfl,E,_⟩:=ai;exact⟨_,_,rfl,E⟩
def WW {t e:TypeId}{sz l h kR:Nat}{a:Option Addr}{len cap:Nat}{jM jN xe:Option Value}(bC:P.underlying t=some (.slice e))(R:e8 P e=some sz)
  (U:(Instr.sliceBounds true len cap jM jN xe).run P w=.ok (l,h,kR) w) :
  (Instr.sliceAt t (.slice a len cap) jM jN xe).run P w=.ok (.slice (if kR=l then a else a.map (·.add (l*sz))) (h-l) (kR-l)) w:=by
 simp[Instr.sliceAt,Instr.slice,run_underlying bC,U,q8 R]
def ahX {es:List (List Data)}{sz:Nat}(dC:∀e∈es,D e=sz)(l:Nat):(es.drop l).flatten=es.flatten.drop (l*sz):=by
 induction es generalizing l with
 |nil=>simp
 |cons a r aF =>
  cases l with
  |zero=>simp
  |succ l =>
   have a5:=dC a (by simp);rw[List.drop_succ_cons,aF (λx J=>dC x (by simp[J])) l,lj,List.drop_append,a5];have E:a.drop ((l+1)*sz)=[]:=lq (by rw[a5,tz];omega);rw[E,List.nil_append]
   congr 1
   rw[tz];omega
def ahY {es:List (List Data)}{sz:Nat}(dC:∀e∈es,D e=sz)(l:Nat):(es.take l).flatten=es.flatten.take (l*sz):=by
 induction es generalizing l with
 |nil=>simp
 |cons a r aF =>
  cases l with
  |zero=>simp
  |succ l =>
   have a5:=dC a (by simp);rw[List.take_succ_cons,lj,aF (λx J=>dC x (by simp[J])) l,lj,WX,a5];have E:a.take ((l+1)*sz)=a:=dz (by rw[a5,tz];omega);rw[E]
   congr 2
   rw[tz];omega
def WY {es:List (List Data)}{a:Option Addr}{len c sz l h cc:Nat}(ae:Den w av (.ay es) (.slice a len c))(af:l<=h)(a8:h<=D es)(dC:0<(D es)->∀e∈es,D e=sz)(Z:h-l<=cc):
  l=h\/Den w av (.ay ((es.take h).drop l)) (.slice (a.map (·.add (l*sz))) (h-l) cc):=by
 rcases K7 af with rfl|au
 ·exact .inl rfl
 ·refine .inr ?_
  cases ae with
  |j3=>simp at a8;omega
  | @ay es b off c dG val sy hm U eA hsz' sB yN =>
   have hn:0<D es:=by omega
   have GA:dG=sz:=by
    have al:=kT (l:=es) (n:=0) hn;rw[<-hsz' _ al,dC hn _ al]
   subst GA;have hlen:((es.take h).drop l).length=h-l:=by simp;omega
   have hmul:l*dG+(h-l)*dG<=D es*dG:=by
    rw[<-ou];exact mP _ (by omega)
   have:=Den.ay (w:=w) (av:=av) (es:=(es.take h).drop l) (b:=b) (off:=off+l*dG) (c:=cc) (sz:=dG) (λi=>val (l*dG+i)) (by rw[hlen];exact Z) (by rw[hlen];omega) U eA
    (λe he=>hsz' e (Aw (List.mem_of_mem_drop he)))
    (λi O=>by
     rw[hlen] at O;have:=sB (l*dG+i) (by omega);rwa [<-q7] at this)
    (λi d my=>by
     refine yN _ d ?_;rw[ahX (λe he=>hsz' e (Aw he)) l,ahY hsz' h] at my;rw[sC,xb] at my
     split at my
     ·exact my
     ·cases my)
   rw[hlen] at this
   simpa [xc] using this
end
section
variable {P:Program} {w:World} {av:Nat->Prop} {B:cG}
def P2 {sz:Nat}{es:List (List Data)}(h:w4 sz es=true):∀e∈es,D e=sz:=λe he=>by
 simpa using jO.1 h e he
def ahZ {t e:TypeId}{sz l h len:Nat}{m r:I}{v:Value}{jM jN:Option Value}{bP O:Option I}(bC:P.underlying t=some (.slice e))(R:e8 P e=some sz)
  (fZ:iJ 0 bP=some l) (hlen:sq m=some len) (jf:iJ len O=some h) (lu:pv w av B bP jM) (ku:pv w av B O jN) (hm:aN w av B m v) (M:Gg sz l h m=some r) :
  ∃z,(Instr.sliceAt t v jM jN none).run P w=.ok z w/\aN w av B r z:=by
 obtain⟨a,cap,rfl,Dd⟩:=K6 hm hlen
 have run:l<=h->h<=len->(Instr.sliceAt t (.slice a len cap) jM jN none).run P w=.ok (.slice (if cap=l then a else a.map (·.add (l*sz))) (h-l) (cap-l)) w:=λE G =>
  WW bC R (PZ true fZ jf lu ku E (by omega))
 unfold Gg at M
 split at M
 ·rename_i es
  split at M
  ·rename_i Z;obtain⟨E,G,ad⟩:=Z
   cases M;simp only[sq,bH] at hlen;subst hlen;refine⟨_,run E G,.L ?_⟩
   cases hm with
   |L ae =>
    rcases WY (sz:=sz) ae E G (λ_=>P2 ad) (cc:=cap-l) (by omega) with rfl|aD
    ·rw[show ((es.take l).drop l)=[] from by simp]
     rw[lW];exact .j3
    ·rcases K7 E with rfl|au
     ·rw[show ((es.take l).drop l)=[] from by simp]
      rw[lW];exact .j3
     ·rw[ar (by omega)];exact aD
  ·cases M
 ·split at M
  ·rename_i Z;obtain⟨rfl,rfl⟩:=Z
   cases M
   cases hm with
   |nil=>exact⟨_,run (by omega) (by omega),by simpa using aN.nil⟩
  ·cases M
 ·split at M
  ·rename_i k g dG off ah0 Z;obtain⟨rfl,E,G⟩:=Z
   cases M;simp only[sq,bH] at hlen;subst hlen
   cases hm with
   |ref he aC ai =>
    refine⟨_,run E G,.ref he aC ?_⟩;obtain⟨ck,Ax,sD,mQ,avt,ah1⟩:=ai
    injection sD with aL ax eo
    subst aL;subst eo
    refine⟨_,cap-l,rfl,by omega,by omega,?_⟩
    rcases iK (cap-l) with al|al
    ·exact .inl al
    ·refine .inr ?_;rcases ah1 with aK|⟨b,rfl,bp⟩
     ·omega
     ·refine⟨b,by rw[ar (by omega)];simp[xc],λbO=>?_⟩
      obtain⟨bD,bL⟩:=bp bO;refine⟨bD,?_⟩;rw[q7,<-ou];rwa [show l+(cap-l)=cap from by omega]
  ·cases M
 ·cases M
def ah2 {t e:TypeId}{sz l h kR:Nat}{m r:I}{v:Value}{jM:Option Value}{jN xe:Value}{bP:Option I}{O jb:I}(bC:P.underlying t=some (.slice e))(R:e8 P e=some sz)
  (fZ:iJ 0 bP=some l) (jf:idx O=some h) (gk:idx jb=some kR) (lu:pv w av B bP jM) (ku:aN w av B O jN) (Dc:aN w av B jb xe) (hm:aN w av B m v) (M:Gh sz l h kR m=some r) :
  ∃z,(Instr.sliceAt t v jM (some jN) (some xe)).run P w=.ok z w/\aN w av B r z:=by
 have run:∀a len cap,l<=h->h<=kR->kR<=len->len<=cap->(Instr.sliceAt t (.slice a len cap) jM (some jN) (some xe)).run P w=.ok (.slice (if kR=l then a else a.map (·.add (l*sz))) (h-l) (kR-l)) w :=
  λa len cap E G ad aK=>WW bC R (ahW fZ jf gk lu ku Dc E G (by omega))
 unfold Gh at M
 split at M
 ·rename_i es
  split at M
  ·rename_i Z;obtain⟨E,G,ad,aK⟩:=Z;obtain⟨a,cap,rfl,Dd⟩:=K6 hm (n:=D es) rfl;refine⟨_,run a _ cap E G ad Dd,?_⟩
   split at M
   ·rename_i tA
    cases M;subst tA;have:h=kR:=by omega
    subst this
    simpa using aN.nil
   ·rename_i tA
    cases M;rw[ar tA]
    cases hm with
    |L ae =>
     refine .L ?_;rcases K7 E with rfl|au
     ·rw[show ((es.take l).drop l)=[] from by simp]
      rw[lW];exact .j3
     ·rcases WY (sz:=sz) ae E (by omega) (λ_=>P2 aK) (cc:=kR-l) (by omega) with al|aD
      ·omega
      ·exact aD
  ·cases M
 ·split at M
  ·rename_i Z;obtain⟨rfl,rfl,rfl⟩:=Z
   cases M;obtain⟨a,cap,rfl,Dd⟩:=K6 hm (n:=0) rfl;exact⟨_,run a _ cap (by omega) (by omega) (by omega) Dd,by simpa using aN.nil⟩
  ·cases M
 ·rename_i k g dG off len
  split at M
  ·rename_i Z;obtain⟨E,G,ad,rfl⟩:=Z
   cases M;obtain⟨a,cap,rfl,Dd⟩:=K6 hm (n:=len) rfl;have:h=kR:=by omega
   subst this;exact⟨_,run a _ cap (by omega) (by omega) (by omega) Dd,by simpa using aN.nil⟩
  ·cases M
 ·cases M
def ah3 {t:TypeId}{l h len:Nat}{m r:I}{v:Value}{jM jN:Option Value}{bP O:Option I}(bC:P.underlying t=some .string)
  (fZ:iJ 0 bP=some l) (hlen:w3 m=some len) (jf:iJ len O=some h) (lu:pv w av B bP jM) (ku:pv w av B O jN) (hm:aN w av B m v) (M:Gi l h m=some r) :
  ∃z,(Instr.sliceAt t v jM jN none).run P w=.ok z w/\aN w av B r z:=by
 unfold Gi at M
 split at M
 ·rename_i s
  split at M
  ·rename_i Z;obtain⟨E,G⟩:=Z
   cases M;simp only[w3,bH] at hlen;subst hlen
   cases hm.yM;have e:(ByteArray.mk s.toArray).size=D s:=by simp[ByteArray.size]
   have U:=PZ (P:=P) (w:=w) (av:=av) (B:=B) (cap:=D s) false fZ jf lu ku E G
   have J:(ByteArray.mk s.toArray).extract l h=⟨((s.take h).drop l).toArray⟩:=by
    rw[ByteArray.extract_mk,WZ]
   exact⟨.string ⟨((s.take h).drop l).toArray⟩,by simp[Instr.sliceAt,Instr.slice,run_underlying bC,e,U,J],.L .str⟩
  ·cases M
 ·cases M
def W0 (off:Nat):∀(l:List Value) (k:Nat) (cs:Array Value),off+k+D l<=cs.size ->
  (l.zipIdx k).foldl (λ(cs:Array Value) (p:Value×Nat)=>cs.setIfInBounds (off+p.2) p.1) cs=(cs.toList.take (off+k)++l++cs.toList.drop (off+k+D l)).toArray
 | [],k,cs,_=>by simp
 |a::l,k,cs,h=>by
  rw[List.zipIdx_cons,W1];have bT:off+k<cs.size:=by simp at h;omega
  rw[W0 off l (k+1) (cs.setIfInBounds (off+k) a) (by simp at h ⊢;omega)];apply Array.ext';simp only[Array.toList_setIfInBounds];have:=list_seg_step cs.toList (off+k) a l (by simp at h ⊢;omega)
  simpa [q7] using this
def K8 {place:Nat->Option (Nat×Nat)}{ρ:Operand->Value}{tm:Nat->I}(hρ:∀x y,cw x=some y->aN w av B (aI tm y) (ρ x)):
  ∀(cH:List (Nat×Operand)) (eK:List (Nat×Nat×bm)) (cs r:List I) (vs:Array Value),partsOf place cH=some eK->cj w av B cs vs.toList->jy (aI tm) cs eK=some r ->
   ∃mR:Array Value,Instr.fill place vs (cH.map λp=>(p.1,ρ p.2))=some mR/\cj w av B r mR.toList
 | [],eK,cs,r,vs,aD,bY,h=>by
  simp[partsOf] at aD;subst aD;simp[jy] at h;subst h;exact⟨vs,rfl,bY⟩
 |(i,x)::cH,eK,cs,r,vs,aD,bY,h=>by
  simp only[partsOf,mx,ft,fD,di,bH] at aD;obtain⟨q,aM,ah4,yO,rfl⟩:=aD;obtain⟨⟨o,s⟩,vm,y,ag,rfl⟩:=aM;simp only[jy] at h
  split at h
  ·rename_i Z;obtain⟨al,E,G⟩:=Z;have iw:=hρ x y ag;have ah5:aI tm y ≠ .undef:=λe=>by rw[e] at al;simp[I.known] at al
   ·have yP:=cj.PW iw ah5;have dC:(ρ x).cells.size=s:=by have:=yP.1;simp at this;omega
    have GB:o+s<=vs.size:=by have:=bY.1;simp at this;omega
    have ix:=W0 o (ρ x).cells.toList 0 vs (by simp[dC];exact GB);simp only[kv,Array.length_toList] at ix;have P3:=bY.jJ yP o;obtain⟨mR,ao,c7⟩:=K8 hρ cH ah4 _ r ((vs.toList.take o++(ρ x).cells.toList++vs.toList.drop (o+(ρ x).cells.size)).toArray) yO (by simpa using P3) h;refine⟨mR,?_,c7⟩;simp only[List.map_cons,Instr.fill,vm];rw[ar (by simp[dC];omega)]
    have aQ:(ρ x).cells.zipIdx.foldl (λcs (p:Value×Nat)=>cs.setIfInBounds (o+p.2) p.1) vs=(vs.toList.take o++(ρ x).cells.toList++vs.toList.drop (o+(ρ x).cells.size)).toArray:=by
     rw[<-Array.foldl_toList,Array.toList_zipIdx];exact ix
    rw[<-ao]
    congr 1
  ·cases h
end
section
variable {P:Program} {A:Nat->Prop} {w:World} {B:cG} {mem:Mem}
def Ay {av:Nat->Prop}{t:TypeId}{z:List I}(h:zeroOf P t=some z):∃i ho,P.info? t=some i/\i.zero=some ho/\cj w av B z ho.cells.toList:=by
 simp only[zeroOf,di] at h;obtain⟨ho,⟨i,O,aQ⟩,hm⟩:=h;obtain⟨E,G⟩:=mapM_get hm;exact⟨i,ho,O,aQ,by simp[E],λj m v ah6 GC=>PT (G j v m GC ah6)⟩
def GD {t:TypeId}{i:TypeInfo}{ho:Value}(O:P.info? t=some i)(aQ:i.zero=some ho):(zeroValue t).run P w=.ok ho w:=by
 simp[zeroValue,typeInfo,O,aQ]
def W2 {t:TypeId}{i:TypeInfo}{n:Nat}(O:P.info? t=some i)(R:e8 P t=some n):i.size=n:=by
 simpa [e8,O] using R
def W3 {t:TypeId}{i:TypeInfo}{n:Nat}(O:P.info? t=some i)(R:C4 P t=some n):i.bytes=n:=by
 simpa [C4,O] using R
def K9 {z:Array Value}(al:0<z.size):∀n,((Array.range (n*z.size)).map (z[·%z.size]!)).toList=(cK n z.toList).flatten
 |0=>by simp
 |n+1=>by
  have aF:=K9 al n;apply tB;intro i
  have aL:∀m i,((Array.range (m*z.size)).map (z[·%z.size]!)).toList[i]?=if i<m*z.size then some (z[i%z.size]!) else none:=by
   intro m i;rw[Array.getElem?_toList,Array.getElem?_map]
   by_cases O:i<m*z.size
   ·rw[aq O,Array.getElem?_range];simp[O]
   ·rw[ar O,Array.getElem?_range];simp[O]
  rw[aL,List.replicate_succ',List.flatten_append,C7,<-aF];have el:((Array.range (n*z.size)).map (z[·%z.size]!)).toList.length=n*z.size:=by simp
  rw[el];have hmul:(n+1)*z.size=n*z.size+z.size:=by rw[ou,tk]
  by_cases O:i<n*z.size
  ·rw[aq O,aq (by omega),aL,aq O]
  ·rw[ar O]
   by_cases dX:i<(n+1)*z.size
   ·rw[aq dX];have au:i-n*z.size<z.size:=by omega
    have P4:i%z.size=i-n*z.size:=by
     have e:i=(i-n*z.size)+z.size*n:=by have:=Nat.mul_comm n z.size;omega
     have ax:((i-n*z.size)+z.size*n)%z.size=i-n*z.size:=by rw[Nat.add_mul_mod_self_left,Nat.mod_eq_of_lt au]
     rwa [<-e] at ax
    rw[P4];simp[au]
   ·rw[ar dX]
    symm
    rw[mO];simp;omega
def cj.replicate {av:Nat->Prop}{z:List I}{W4:List Value}(h:cj w av B z W4):∀n,cj w av B (cK n z).flatten (cK n W4).flatten
 |0=>by simpa using cj.nil
 |n+1=>by
  rw[pw,lj,pw,lj];exact h.append (cj.replicate h n)
def cj.jw {cs:List I}{vs:List Value}{ah:World}{aB:cG}(t:Trans A w B ah aB)(h:cj w (bg A B) B cs vs):cj ah (bg A aB) aB cs vs :=
 ⟨h.1,λi m v E G=>(h.2 i m v E G).jw t⟩
def GF {cs:List I}(a3:dq A w B mem)(w1:World)(f:Fr (λ_=>False) w w1)(aQ:w1.heap.size=w.heap.size)(k:Key)(vs:Array Value)(T:TypeId)(af:(D cs)<=vs.size)
  (bY:cj w (bg A B) B cs (vs.toList.take (D cs))):cX A w B (w1.alloc (.cells vs T)) (eu B k ⟨bw mem k,some w.heap.size,vs.size,false⟩) (aV mem k (bw mem k) cs) :=
 cX.alloc a3 w1 f aQ k vs T af λi m hm=>by
  obtain⟨v,ai,M⟩:=bY.get hm;rw[xb] at ai
  split at ai
  ·exact⟨v,by simpa using ai,M⟩
  ·cases ai
def ah7 {t:TypeId}{z:List I}(k:Key)(a3:dq A w B mem)(aQ:zeroOf P t=some z):
  ∃v ah aB,(Instr.alloc t true (.tuple #[])).run P w=.ok v ah/\cX A w B ah aB (aV mem k (bw mem k) z)/\aN ah (bg A aB) aB (.ptr k (bw mem k) 0) v:=by
 obtain⟨i,ho,O,nn,bY⟩:=Ay (P:=P) (w:=w) (B:=B) (av:=bg A B) aQ;have af:(D z)=ho.cells.size:=by have:=bY.1;simp at this;omega
 refine⟨.pointer (some ⟨w.heap.size,0,none⟩),w.alloc (.cells ho.cells t),_,?_,GF a3 w (Fr.refl _ _) rfl k ho.cells t (by omega) (by rw[dz (by simp;omega)];exact bY),?_⟩
 ·simp[Instr.alloc,GD O nn,newVar,newRow]
 ·exact .ptr (e2 _ _ _) (bM _) ⟨_,rfl,λ_=>⟨rfl,rfl⟩⟩
def ah8 {t:TypeId}{m:I}{u:Value}(k:Key)(a3:dq A w B mem)(hu:aN w (bg A B) B m u)(Q:m.known=true):
  ∃v ah aB,(Instr.box t u).run P w=.ok v ah/\cX A w B ah aB (aV mem k (bw mem k) m.cells)/\aN ah (bg A aB) aB (.ptr k (bw mem k) 0) v:=by
 have bY:=cj.PW hu (λe=>by rw[e] at Q;simp[I.known] at Q);have af:(D m.cells)=u.cells.size:=by have:=bY.1;simp at this;omega
 refine⟨.pointer (some ⟨w.heap.size,0,none⟩),w.alloc (.cells u.cells t),_,?_,GF a3 w (Fr.refl _ _) rfl k u.cells t (by omega) (by rw[dz (by simp;omega)];exact bY),?_⟩
 ·simp[Instr.box,newVar,newRow]
 ·exact .ptr (e2 _ _ _) (bM _) ⟨_,rfl,λ_=>⟨rfl,rfl⟩⟩
def ah9 {t e:TypeId}{z:List I}{bytes n c:Nat}{ba bJ:I}{j7 hp:Value}{r:I}{hY:Option (Key×Nat×List I)}(k:Key)(a3:dq A w B mem)(bC:P.underlying t=some (.slice e))(aQ:zeroOf P e=some z)(R:e8 P e=some (D z))
  (U:C4 P e=some bytes) (E:idx ba=some n) (G:idx bJ=some c) (fK:aN w (bg A B) B ba j7) (hd:aN w (bg A B) B bJ hp) (al:0<D z) (h:C0 k (bw mem k) z bytes n c=some (r,hY)) :
  ∃v ah aB,(Instr.makeSlice t j7 hp).run P w=.ok v ah/\cX A w B ah aB (fA mem hY)/\aN ah (bg A aB) aB r v:=by
 unfold C0 at h
 split at h
 ·rename_i Z;obtain⟨rfl,De,tC⟩:=Z
  cases h;obtain⟨cP,rfl⟩:=Au E fK;obtain⟨e0,rfl⟩:=Au G hd;obtain⟨i,ho,O,nn,bY⟩:=Ay (P:=P) (w:=w) (B:=B) (av:=bg A B) aQ;have af:(D z)=ho.cells.size:=by have:=bY.1;simp at this;omega
  have dC:=W2 O R;have GG:=W3 O U
  have eb:=run_make (P:=P) w t e i ho bC O nn cP e0 (n:Int) (n:Int) (by omega) (by omega) (by
   have:((i.bytes*n:Nat):Int)<=281474976710656:=by rw[GG];omega
   rwa [Int.natCast_mul] at this) (by unfold maxLen at tC;omega)
  simp only[Int.toNat_natCast] at eb
  have W5:(madeCells ho.cells (n*i.size)).toList=(cK n ho.cells.toList).flatten:=by
   rw[dC,af];exact K9 (by omega) n
  have Az:(madeCells ho.cells (n*i.size)).size=n*D z:=by rw[size_madeCells,dC]
  have qe:=bY.replicate (n:=n)
  have hlen:(cK n z).flatten.length=n*D z:=by
   have:=qe.1;rw[<-this,<-W5,Array.length_toList,Az]
  refine⟨_,_,_,eb,GF a3 w (Fr.refl _ _) rfl k _ e (by rw[Az,hlen];exact bM _) ?_,?_⟩
  ·rw[dz (by rw[Array.length_toList,Az,hlen];exact bM _),W5];exact qe
  ·refine .ref (e2 _ _ _) (bM _) ⟨_,n,rfl,bM _,tC,.inr ⟨_,rfl,λ_=>⟨rfl,?_,rfl⟩⟩⟩;simp only[lr];rw[Az];exact bM _
 ·cases h
def P5 (a3:dq A w B mem){k:Key}{g:Nat}{cs new:List I}{e:gN}{b:Nat}{vs:Array Value}{T:TypeId}{vals:List Value}{off:Nat}(Q:mem k=some (g,cs))(he:B k=some e)(U:e.c1=some b)(gF:e.mp=false)
  (a8:w.heap[b]?=some (.cells vs T (0,0))) (dC:vs.size=e.size) (af:(D cs)<=vs.size) (bY:cj w (bg A B) B cs (vs.toList.take (D cs))) (bO:e.g=g) (P6:off+D new<=D cs) (xf:cj w (bg A B) B new vals) :
  cX A w B (w.setRow b (vs.toList.take off++vals++vs.toList.drop (off+D vals)).toArray) B (aV mem k g (jJ cs off new)):=by
 have xg:(D vals)=D new:=xf.1
 have P3:cj w (bg A B) B (jJ cs off new) ((vs.toList.take off++vals++vs.toList.drop (off+D vals)).take (D cs)):=by
  have E:=bY.jJ xf off
  have aL:(vs.toList.take (D cs)).take off++vals++(vs.toList.take (D cs)).drop (off+D vals)=(vs.toList.take off++vals++vs.toList.drop (off+D vals)).take (D cs):=by
   have nW:(D vs.toList)=vs.size:=Array.length_toList;rw[List.take_take,mS (by omega),WZ,WX,lk,hf,nW,mS (a:=off) (b:=vs.size) (by omega)];rw[dz (l:=vs.toList.take off++vals) (by rw[lk,hf,nW];omega)]
  rwa [aL] at E
 have W6:(jJ cs off new).length=D cs:=by unfold jJ;simp;omega
 have heq:eu B k e=B:=by
  funext j
  unfold eu
  split
  ·rename_i aa;rw[aa,he]
  ·rfl
 have f:Fr (λb=>∃e,B k=some e/\e.c1=some b) w (w.setRow b (vs.toList.take off++vals++vs.toList.drop (off+D vals)).toArray):=by
  refine⟨rfl,rfl,rfl,by simp,λj aa aZ=>?_⟩
  exact setRow_other w b j _ (λDf=>aZ ⟨e,he,by rw[U,Df]⟩)
 have:=cX.change (k:=k) (e':=e) (cs:=jJ cs off new) a3 f (λax dF => .inl (by rw[he] at dF;exact mT dF)) (λdO dm => .inr ⟨e,he,dm⟩) (λaE=>by rw[U] at aE;cases aE) (λdO dm=>by
  rw[U] at dm
  cases dm;refine⟨gF,_,T,setRow_heap w b vs _ T (0,0) a8,by simp;omega,by rw[W6];simp;omega,λi m hm=>?_⟩
  obtain⟨v,ai,M⟩:=P3.get hm;rw[xb] at ai
  split at ai
  ·exact⟨v,by simpa using ai,M⟩
  ·cases ai)
 rw[heq,bO] at this;exact this
def aia {t:TypeId}{n:Nat}{ba bJ:I}{j7 hp:Value}{r:I}{hY:Option (Key×Nat×List I)}(a3:dq A w B mem)(R:e8 P t=some n)(fK:aN w (bg A B) B ba j7)(hd:aN w (bg A B) B bJ hp)
  (h:ve mem n ba bJ.cells=some (r,hY)):∃ah,(Instr.storeAt t j7 hp).run P w=.ok () ah/\cX A w B ah B (fA mem hY)/\r=.no:=by
 cases ba with
 |ptr k g off =>
  simp only[ve] at h;unfold Gn at h
  split at h
  ·rename_i cf cs Q
   split at h
   ·rename_i Z;obtain⟨rfl,E,G,ad⟩:=Z
    cases h;obtain⟨e,he,bO,aE,U⟩:=a3.at_ Q
    cases fK with
    |ptr ea w9 aD =>
     rw[he] at ea
     cases ea;obtain⟨b,rfl,fp⟩:=aD;obtain⟨fp,gF⟩:=fp bO.symm;obtain⟨vs,T,a8,dC,af,bY⟩:=U b fp gF;have gm:bJ ≠ .undef:=λe=>by rw[e] at ad;simp[I.cells,I.one] at ad
     have yP:=cj.PW hd gm
     have aib:∀v∈hp.cells.toList,v.oneCell'=true:=by
      intro v ai;obtain⟨i,O,iL⟩:=W7 ai;have vn:i<D bJ.cells:=by rw[<-yP.1];exact O
      have:=yP.2 i _ _ (bB vn) (bB O);rw[iL] at this;exact WO this (jO.1 ad _ (kT vn))
     have avu:hp.cells.size=n:=by have:=yP.1;simp at this;omega
     have dc:=run_storeCells_at P b off T hp.cells.toList 0 vs w a8 (by simp;omega) aib;simp only[kv] at dc;refine⟨_,?_,P5 a3 Q he fp gF a8 dC af bY bO (by omega) yP,rfl⟩;have bc:¬ (hp.cells.size≠n):=by omega
     simp only[Instr.storeAt,Instr.sureAddr,storeVar,Sem.run_bind,Sem.run_pure,Result.andThen_ok,q8 R];rw[ar bc];exact dc
   ·cases h
  ·cases h
 |_=>simp[ve] at h
end
section
variable {P:Program} {A:Nat->Prop} {w:World} {B:cG} {mem:Mem}
def La (sz:Nat):∀(n:Nat) (l:List Data),(chunk sz n l).length=n
 |0,_=>rfl
 |n+1,l=>by simp[chunk,La sz n]
def Lb (sz:Nat):∀(n:Nat) (l:List Data),D l=n*sz->∀e∈chunk sz n l,D e=sz
 |0,_,_,e,he=>by simp[chunk] at he
 |n+1,l,af,e,he=>by
  have hmul:(n+1)*sz=n*sz+sz:=by rw[ou,tk]
  simp only[chunk,ia] at he;rcases he with rfl|he
  ·simp;omega
  ·exact Lb sz n _ (by simp;omega) e he
def Lc (sz:Nat):∀(n:Nat) (l:List Data),D l=n*sz->(chunk sz n l).flatten=l
 |0,l,af=>by simp at af;simp[chunk,af]
 |n+1,l,af=>by
  have hmul:(n+1)*sz=n*sz+sz:=by rw[ou,tk]
  simp only[chunk,lj];rw[Lc sz n _ (by simp;omega),List.take_append_drop]
def P7 {av:Nat->Prop}{m:I}{d:Data}{v:Value}(h:q2 m=some d)(ai:aN w av B m v):Den w av d v:=by
 unfold q2 at h
 split at h<;>cases h
 ·cases ai with
  |L h=>exact h
 ·cases ai with
  |nil=>exact .j3
def aic {ds:List Data}{vs:Array Value}{T:TypeId}{n sz:Nat}(a3:dq A w B mem)(ah:World)(hw:ah=w.alloc (.cells vs T))(af:(D ds)=n*sz)(ai:vs.size=n*sz)(hm:n<=maxLen)
  (ae:∀(i:Nat) (d:Data) (v:Value),ds[i]?=some d->vs[i]?=some v->Den w (bg A B) d v):Den ah (bg A B) (.ay (chunk sz n ds)) (.slice (some ⟨w.heap.size,0,none⟩) n n):=by
 have ok:cX A w B ah B mem:=by rw[hw];exact .still a3 ((Fr.refl _ _).alloc _)
 have dP:=La sz n ds
 have h:=Den.ay (w:=ah) (av:=bg A B) (es:=chunk sz n ds) (b:=w.heap.size) (off:=0) (c:=n) (sz:=sz) (λi=>vs.getD i undef) (by rw[dP];exact bM _) (by rw[dP];exact hm)
  (by rw[hw];simp) (λaZ=>by
   rcases aZ with aZ|aZ
   ·have:=a3.q0 aZ;omega
   ·have:=a3.lt _ aZ;omega) (Lb sz n ds af)
  (λi O=>by
   rw[dP] at O;rw[hw,lr];have:i<vs.size:=by omega
   simp[this])
  (λi d my=>by
   rw[Lc sz n ds af] at my;have au:i<D ds:=(dn.1 my).1;have kU:i<vs.size:=by omega
   have:vs.getD i undef=vs[i]:=by simp[kU]
   simp only[this];exact (ae i d _ my (Array.getElem?_eq_getElem kU)).trans ok.hW)
 rw[dP] at h;exact h
def W8 {t e:TypeId}{z r:List I}{sz len:Nat}{cH:List (Nat×Operand)}{eK:List (Nat×Nat×bm)}{ρ:Operand->Value}{tm:Nat->I}{av:Nat->Prop}(bC:P.underlying t=some (.slice e))(aQ:zeroOf P e=some z)
  (R:e8 P e=some sz) (xh:(D z)=sz) (al:0<sz) (af:len*sz<=16777216) (aD:partsOf (λi=>some (i*sz,sz)) cH=some eK) (hρ:∀x y,cw x=some y->aN w av B (aI tm y) (ρ x))
  (h:jy (aI tm) (cK len z).flatten eK=some r) :
  ∃vs:Array Value,(Instr.buildSlice t len (cH.map λp=>(p.1,ρ p.2)).toArray).run P w=.ok (.slice (some ⟨w.heap.size,0,none⟩) len len) (w.alloc (.cells vs e))/\cj w av B r vs.toList:=by
 obtain⟨i,ho,O,nn,bY⟩:=Ay (P:=P) (w:=w) (B:=B) (av:=av) aQ;have Dg:ho.cells.size=sz:=by have:=bY.1;simp at this;omega
 have vo:=K9 (z:=ho.cells) (by omega) len;rw[Dg] at vo;have qe:=bY.replicate (n:=len);rw[<-vo] at qe;obtain⟨mR,ao,M⟩:=K8 (place:=λi=>some (i*sz,sz)) hρ cH eK _ r _ aD qe h;refine⟨mR,?_,M⟩;have aE:¬ (len*sz>2^24):=by omega
 by_cases AA:len*sz=0
 ·have fF:((Array.range (len*sz)).map (ho.cells[·%sz]!))=#[]:=by rw[AA];simp[Array.range_zero']
  have aid:Instr.fill (λi=>some (i*sz,sz)) #[] (cH.map λp=>(p.1,ρ p.2))=some mR:=by rw[<-fF];exact ao
  simp only[Instr.buildSlice,Sem.run_bind,run_underlying bC,Result.andThen_ok,q8 R];rw[ar aE];simp only[AA,if_true,Sem.run_bind,Sem.run_pure,Result.andThen_ok];simp[aid,newRow,Array.range_zero']
 ·simp only[Instr.buildSlice,Sem.run_bind,run_underlying bC,Result.andThen_ok,q8 R];rw[ar aE];simp only[AA,if_false,Sem.run_bind,Sem.run_pure,Result.andThen_ok,GD O nn,Dg];simp[ao,newRow]
def aie {t e:TypeId}{z:List I}{sz len:Nat}{cH:List (Nat×Operand)}{eK:List (Nat×Nat×bm)}{ρ:Operand->Value}{tm:Nat->I}{r:I}(a3:dq A w B mem)(bC:P.underlying t=some (.slice e))(aQ:zeroOf P e=some z)
  (R:e8 P e=some sz) (xh:(D z)=sz) (al:0<sz) (af:len*sz<=16777216) (aD:partsOf (λi=>some (i*sz,sz)) cH=some eK) (hρ:∀x y,cw x=some y->aN w (bg A B) B (aI tm y) (ρ x))
  (h:F9 (cK len z).flatten sz len (jy (aI tm) (cK len z).flatten eK)=some r) :
  ∃v ah,(Instr.buildSlice t len (cH.map λp=>(p.1,ρ p.2)).toArray).run P w=.ok v ah/\cX A w B ah B mem/\aN ah (bg A B) B r v:=by
 unfold F9 at h
 split at h
 ·rename_i hlen
  cases ao:jy (aI tm) (cK len z).flatten eK with
  |none=>rw[ao] at h;cases h
  |some cs =>
   rw[ao] at h;simp only[cO] at h;obtain⟨ds,e4,rfl⟩:=h;obtain⟨vs,eb,bY⟩:=W8 (P:=P) (B:=B) bC aQ R xh al af aD hρ ao;obtain⟨E,G⟩:=mapM_get e4
   have dP:(D cs)=len*sz:=by
    have:∀(eK:List (Nat×Nat×bm)) (a r:List I),jy (aI tm) a eK=some r->(D r)=D a:=by
     intro eK
     induction eK with
     |nil=>intro a r h;simp[jy] at h;rw[h]
     |cons q eK aF =>
      intro a r h;obtain⟨o,s,x⟩:=q;simp only[jy] at h
      split at h
      ·rename_i Z;rw[aF _ _ h];unfold jJ;simp;omega
      ·cases h
    rw[this _ _ _ ao,hlen]
   have a7:vs.size=len*sz:=by have:=bY.1;simp at this;omega
   refine⟨_,_,eb,.still a3 ((Fr.refl _ _).alloc _),.L (aic a3 _ rfl (by omega) a7 ?_ λi d v ae ai=>?_)⟩
   ·have:len<=len*sz:=yQ _ al;unfold maxLen;omega
   ·have au:i<D cs:=by have:=(dn.1 ae).1;omega
    have eN:=bB au;exact P7 (G i _ d eN ae) (bY.2 i _ v eN (by simpa using ai))
 ·cases h
def aif {t e:TypeId}{z:List I}{sz len:Nat}{cH:List (Nat×Operand)}{eK:List (Nat×Nat×bm)}{ρ:Operand->Value}{tm:Nat->I}{r:I}{hY:Option (Key×Nat×List I)}(k:Key)(a3:dq A w B mem)(bC:P.underlying t=some (.slice e))(aQ:zeroOf P e=some z)
  (R:e8 P e=some sz) (xh:(D z)=sz) (al:0<sz) (af:len*sz<=16777216) (aD:partsOf (λi=>some (i*sz,sz)) cH=some eK) (hρ:∀x y,cw x=some y->aN w (bg A B) B (aI tm y) (ρ x))
  (h:CZ k (bw mem k) (cK len z).flatten sz len (jy (aI tm) (cK len z).flatten eK)=some (r,hY)) :
  ∃v ah aB,(Instr.buildSlice t len (cH.map λp=>(p.1,ρ p.2)).toArray).run P w=.ok v ah/\cX A w B ah aB (fA mem hY)/\aN ah (bg A aB) aB r v:=by
 unfold CZ at h
 split at h
 ·rename_i hlen
  cases ao:jy (aI tm) (cK len z).flatten eK with
  |none=>rw[ao] at h;cases h
  |some cs =>
   rw[ao] at h
   cases h;obtain⟨vs,eb,bY⟩:=W8 (P:=P) (B:=B) bC aQ R xh al af aD hρ ao
   have dP:(D cs)=len*sz:=by
    have:∀(eK:List (Nat×Nat×bm)) (a r:List I),jy (aI tm) a eK=some r->(D r)=D a:=by
     intro eK
     induction eK with
     |nil=>intro a r h;simp[jy] at h;rw[h]
     |cons q eK aF =>
      intro a r h;obtain⟨o,s,x⟩:=q;simp only[jy] at h
      split at h
      ·rename_i Z;rw[aF _ _ h];unfold jJ;simp;omega
      ·cases h
    rw[this _ _ _ ao,hlen]
   have a7:vs.size=D cs:=by have:=bY.1;simp at this;omega
   refine⟨_,_,_,eb,GF a3 w (Fr.refl _ _) rfl k vs e (by omega) (by rw[dz (by simp;omega)];exact bY),?_⟩
   have gk:len<=maxLen:=by
    have:len<=len*sz:=yQ _ al;unfold maxLen;omega
   exact .ref (e2 _ _ _) (bM _) ⟨_,len,rfl,bM _,gk,.inr ⟨_,rfl,λ_=>⟨rfl,by simp only[lr];omega,rfl⟩⟩⟩
 ·cases h
def W9 {m:I}{sz n:Nat}{new:List I}{v:Value}(a3:dq A w B mem)(ai:aN w (bg A B) B m v)(h:ow mem sz m=some (n,new)):
  ∃a c vals,v=.slice a n c/\cj w (bg A B) B new vals/\D vals=n*sz/\(0<n->∃b off,a=some ⟨b,off,none⟩/\lV w b off vals):=by
 unfold ow at h
 split at h
 ·split at h
  ·rename_i es mU
   cases h;have mU:=P2 mU
   cases ai with
   |L ae =>
    cases ae with
    |j3=>exact⟨_,_,[],rfl,by simpa using cj.nil,by simp,λh=>by simp at h⟩
    | @ay es b off c dG val af hm U eA dC Z yN =>
     have oz:=KJ mU;rcases iK (D es) with al|al
     ·have:es=[]:=qf al;subst this;exact⟨_,_,[],rfl,by simpa using cj.nil,by simp,λh=>by simp at h⟩
     ·have GA:dG=sz:=by
       have mV:=kT (l:=es) (n:=0) al;rw[<-dC _ mV,mU _ mV]
      subst GA;refine⟨_,_,(je (D es*dG)).map val,rfl,?_,by simp,λ_=>⟨b,off,rfl,λj u aa=>?_⟩⟩
      ·refine cj.L (by simp[oz]) λi d u E G=>?_;have O:i<D es*dG:=by have:=(dn.1 E).1;omega
       rw[bG,q9 O] at G;simp only[kx,bH] at G;subst G;exact yN i d E
      ·have O:j<D es*dG:=by have:=(dn.1 aa).1;simpa using this
       rw[bG,q9 O] at aa;simp only[kx,bH] at aa;subst aa;exact Z j O
  ·cases h
 ·cases h
  cases ai with
  |nil=>exact⟨_,_,[],rfl,cj.nil,by simp,λh=>by simp at h⟩
 ·rename_i k g dG off len
  split at h
  ·rename_i dC;subst dC
   split at h
   ·rename_i cf cs Q
    split at h
    ·rename_i aC;subst aC;simp only[cO,ei] at h;obtain⟨part,vp,rfl,rfl⟩:=h;obtain⟨af,rfl,aE⟩:=C8 vp
     cases ai with
     |ref he aC M =>
      obtain⟨e,ea,bO,vl,U⟩:=a3.at_ Q;rw[he] at ea
      cases ea;obtain⟨a,cap,rfl,E,G,ad⟩:=M;rcases ad with ad|⟨b,rfl,aK⟩
      ·have:len=0:=by omega
       subst this;exact⟨_,_,[],rfl,by simpa using cj.nil,by simp,λh=>by omega⟩
      ·obtain⟨bp,bD,gF⟩:=aK bO.symm;obtain⟨vs,T,a8,aQ,hle,bY⟩:=U b bp gF;refine⟨_,_,((vs.toList.take (D cs)).drop off).take (len*dG),rfl,(bY.drop off).take _,by have:=((bY.drop off).take (len*dG)).1;omega,λ_=>⟨b,off,rfl,?_⟩⟩
       have:=(((lV.row a8).take (D cs)).add off).take (len*dG)
       simpa using this
    ·cases h
   ·cases h
  ·cases h
 ·cases h
def Ld {sz n c:Nat}{a:Option Addr}{vals:List Value}(af:(D vals)=n*sz)(gO:0<n->∃b off,a=some ⟨b,off,none⟩/\lV w b off vals)(ah:World)(hw:ah.heap=w.heap):
  (Builtin.firstCells sz n (.slice a n c)).run P ah = .ok vals.toArray ah:=by
 have Z:∀p,ah.cell? p=w.cell? p:=λp=>by simp[World.cell?,hw]
 rcases iK n with al|al
 ·subst al;have:vals=[]:=qf (by simpa using af);subst this
  cases a with
  |none=>simp[Builtin.firstCells]
  |some a=>simp[Builtin.firstCells,loadCells,loadCellsFrom]
 ·obtain⟨b,off,rfl,aih⟩:=gO al;exact run_firstCells_some ah sz n _ n c vals af λj v aa=>by rw[xc,Z];exact aih j v aa
def cj.P8 {av:Nat->Prop}{cs:List I}{vs:List Value}(h:cj w av B cs vs)(E:cs.all I.one=true):∀v∈vs,v.oneCell'=true:=by
 intro v ai;obtain⟨i,O,iL⟩:=W7 ai;have vn:i<D cs:=by rw[<-h.1];exact O
 have:=h.2 i _ _ (bB vn) (bB O);rw[iL] at this;exact WO this (jO.1 E _ (kT vn))
def P9 {t ty e:TypeId}{sz np tD n c:Nat}{base a:Option Addr}{vals:List Value}(bC:P.underlying t=some (.slice e))(R:e8 P e=some sz)(vq:np+n<=tD)
  (ao:(Builtin.firstCells sz n (.slice a n c)).run P w=.ok vals.toArray w) (ah:World)
  (dc:∀b,base=some b->(storeCells (b.add (np*sz)) vals).run P w=.ok () ah) (aE:base=none->ah=w) :
  (Builtin.append_ #[t,t] ty #[.slice base np tD,.slice a n c]).run P w=.ok (.slice base (np+n) tD) ah:=by
 simp only[e8,cO] at R;obtain⟨i,O,rfl⟩:=R
 cases base with
 |none=>simp[Builtin.append_,run_underlying bC,sizeOf,typeInfo,O,Builtin.lenOf,vq,ao,aE rfl]
 |some b=>simp[Builtin.append_,run_underlying bC,sizeOf,typeInfo,O,Builtin.lenOf,vq,ao,dc b rfl]
def aii {t ty e:TypeId}{sz np tD n c bytes:Nat}{base a:Option Addr}{nX vals:List Value}{i:TypeInfo}{z:Value}(bC:P.underlying t=some (.slice e))(O:P.info? e=some i)(aQ:i.zero=some z)(dC:i.size=sz)(GG:i.bytes=bytes)
  (vq:tD<np+n) (xd:∀ah,ah.heap=w.heap->(Builtin.firstCells sz np (.slice base np tD)).run P ah = .ok nX.toArray ah) (ao:∀ah,ah.heap=w.heap->(Builtin.firstCells sz n (.slice a n c)).run P ah = .ok vals.toArray ah)
  (aij:np+n<=maxLen) (U:(np+n)*bytes<=140737488355328) :
  (Builtin.append_ #[t,t] ty #[.slice base np tD,.slice a n c]).run P w =
   .ok (.slice (some ⟨w.heap.size,0,none⟩) (np+n) (grownCap w (np+n) tD e))
    (w.drew.alloc (.cells (nX.toArray++vals.toArray++Builtin.zeroCells z.cells (grownCap w (np+n) tD e-(np+n))) e)):=by
 subst dC;subst GG
 have aE:¬ (np+n<=tD):=by omega
 have aik:¬ (9223372036854775807<((np:Int)+(n:Int))):=by unfold maxLen at aij;omega
 have GB:=growslice_fits vq U;have ail:¬ (281474976710656<Builtin.nextslicecap (np+n) tD*i.bytes):=by omega
 have E:=xd w.drew rfl;have G:=ao w.drew rfl;simp[Builtin.append_,run_underlying bC,sizeOf,typeInfo,zeroValue,O,aQ,Builtin.lenOf,aE,aik,ail,Question.forced,E,G,newRow,grownCap,<-List.append_toArray,Array.append_assoc]
def aim {t ty e:TypeId}{z:List I}{bytes n:Nat}{ba bJ:I}{j7 hp:Value}{new:List I}{r:I}{hY:Option (Key×Nat×List I)}(k:Key)(a3:dq A w B mem)(bC:P.underlying t=some (.slice e))(aQ:zeroOf P e=some z)(R:e8 P e=some (D z))
  (GG:C4 P e=some bytes) (al:0<D z) (fK:aN w (bg A B) B ba j7) (hd:aN w (bg A B) B bJ hp) (oA:ow mem (D z) bJ=some (n,new)) (h:pk mem k z bytes ba (some (n,new))=some (r,hY)) :
  ∃v ah aB,(Builtin.append_ #[t,t] ty #[j7,hp]).run P w=.ok v ah/\cX A w B ah aB (fA mem hY)/\aN ah (bg A aB) aB r v:=by
 obtain⟨dj,c6,vals,rfl,bY,nW,gO⟩:=W9 a3 hd oA;obtain⟨i,ho,O,nn,ain⟩:=Ay (P:=P) (w:=w) (B:=B) (av:=bg A B) aQ;have dC:=W2 O R;have fp:=W3 O GG;have Dg:ho.cells.size=D z:=by have:=ain.1;simp at this;omega
 have mW:(D new)=n*D z:=by rw[<-bY.1,nW]
 have ao:=λah hw=>Ld (P:=P) (w:=w) (c:=c6) nW gO ah hw
 -- a new block
 have grow:∀(base:Option Addr) (len cap:Nat) (g:Nat) (k':Key) (cs:List I) (nX:List Value),cap<len+n->(∀ah,ah.heap=w.heap->(Builtin.firstCells (D z) len (.slice base len cap)).run P ah = .ok nX.toArray ah) ->
   cj w (bg A B) B cs nX->(D cs)=len*(D z)->len+n<=maxLen->(len+n)*bytes<=140737488355328->g=bw mem k' ->
   ∃v ah aB,(Builtin.append_ #[t,t] ty #[.slice base len cap,.slice dj n c6]).run P w=.ok v ah/\cX A w B ah aB (aV mem k' g (cs++new))/\aN ah (bg A aB) aB (.ref k' g (D z) 0 (len+n)) v:=by
  intro base len cap g k' cs nX vq xd jK dP tC De aC;subst aC;have eb:=aii (P:=P) (ty:=ty) bC O nn dC fp vq xd ao tC De;have bO:=grownCap_ge w (len+n) cap e;have hle:=grownCap_le_maxLen w (len+n) cap e tC
  have Az:(nX.toArray++vals.toArray++Builtin.zeroCells ho.cells (grownCap w (len+n) cap e-(len+n))).size=grownCap w (len+n) cap e*D z:=by
   have Qa:=jK.1;simp only[Array.size_append,List.size_toArray,size_zeroCells,Dg,Qa,dP,nW];rw[<-ou,<-ou]
   congr 1
   omega
  have dQ:=jK.append bY;have hmul:(len+n)*D z<=grownCap w (len+n) cap e*D z:=mP _ bO;have AB:(cs++new).length=(len+n)*D z:=by rw[lk,dP,mW,ou]
  refine⟨_,_,_,eb,GF (cs:=cs++new) a3 w.drew ((Fr.refl _ _).drew _) rfl k' _ e (by rw[Az,AB];exact hmul) ?_,?_⟩
  ·have:(nX.toArray++vals.toArray++Builtin.zeroCells ho.cells (grownCap w (len+n) cap e-(len+n))).toList.take (cs++new).length=nX++vals:=by
    simp only[Array.toList_append,List.toList_toArray];rw[List.take_append_of_le_length (by rw[dQ.1];exact bM _),dz (by rw[dQ.1];exact bM _)]
   rw[this];exact dQ
  ·refine .ref (e2 _ _ _) (bM _) ⟨_,_,rfl,bO,hle,.inr ⟨_,rfl,λ_=>⟨rfl,?_,rfl⟩⟩⟩;simp only[lr];rw[Az];exact bM _
 cases ba with
 |nil =>
  simp only[pk] at h
  split at h
  ·rename_i Z;obtain⟨De,tC,AD⟩:=Z
   cases h
   cases fK with
   | @nil cz =>
    rcases iK n with lx|lx
    ·subst lx;have xi:vals=[]:=qf (by simpa using nW);have Qb:new=[]:=qf (by simpa using mW);subst xi;subst Qb
     refine⟨_,_,_,P9 (P:=P) (ty:=ty) bC R (bM _) (ao w rfl) w (λb _=>by simp[storeCells]) (λ_=>rfl),cX.vj a3 k,?_⟩;exact .ref (e2 _ _ _) (bM _) ⟨_,0,rfl,bM _,eL _,.inl rfl⟩
    ·have:=grow cz 0 0 (bw mem k) k [] [] (by omega) (λah hw=>by
      have:=Ld (P:=P) (w:=w) (sz:=D z) (n:=0) (c:=0) (a:=cz) (vals:=[]) (by simp) (λh=>by omega) ah hw;exact this) cj.nil (by simp) (by omega) (by simpa using De) rfl
     simpa [fA] using this
  ·cases h
 |ref k' g dG off len =>
  simp only[pk] at h
  split at h
  ·rename_i Z;obtain⟨rfl,rfl⟩:=Z;unfold mw at h
   split at h
   ·rename_i cf cs Q
    split at h
    ·rename_i Z;obtain⟨rfl,hlen,De,tC,AD⟩:=Z
     cases h;obtain⟨re,lX,bO,vl,U⟩:=a3.at_ Q;have Dh:cf+1=bw mem k':=by simp[bw,Q]
     cases fK with
     |ref he aC M =>
      rw[lX] at he
      cases he;obtain⟨cz,cap,rfl,E,G,ad⟩:=M
      have hold:∃nX,cj w (bg A B) B (cs.take (len*D z)) nX/\D nX=len*D z/\(0<len->∃b off,cz=some ⟨b,off,none⟩/\lV w b off nX):=by
       rcases ad with ad|⟨b,rfl,aK⟩
       ·have:len=0:=by omega
        subst this;exact⟨[],by simpa using cj.nil,by simp,λh=>by omega⟩
       ·obtain⟨bp,bD,gF⟩:=aK bO.symm;obtain⟨vs,T,a8,GH,hle,tE⟩:=U b bp gF;refine⟨(vs.toList.take (D cs)).take (len*D z),tE.take _,by have:=(tE.take (len*D z)).1;rw[this];simp;omega,λ_=>⟨b,0,rfl,((lV.row a8).take _).take _⟩⟩
      obtain⟨nX,Le,Qc,Xa⟩:=hold
      by_cases vq:len+n<=cap
      ·rcases ad with ad|⟨b,rfl,aK⟩
       ·-- no room, and nothing comes
        have Di:len=0:=by omega
        have lx:n=0:=by omega
        subst Di;subst lx;subst ad
        have xi:vals=[]:=qf (by simpa using nW);have Qb:new=[]:=qf (by simpa using mW);subst xi;subst Qb
        refine⟨_,_,eu B k' ⟨bw mem k',none,0,false⟩,P9 (P:=P) (ty:=ty) bC R (bM _) (ao w rfl) w (λb _=>by simp[storeCells]) (λ_=>rfl),?_,?_⟩
        ·have:=cX.vj a3 k'
         simpa [fA,Dh] using this
        ·rw[Dh];exact .ref (e2 _ _ _) (bM _) ⟨_,0,rfl,bM _,eL _,.inl rfl⟩
       ·obtain⟨bp,bD,gF⟩:=aK bO.symm;obtain⟨vs,T,a8,GH,hle,tE⟩:=U b bp gF;have hmul:(len+n)*D z<=cap*D z:=mP _ vq;have Lf:(len+n)*D z=len*D z+n*D z:=ou _ _ _;have dc:=run_storeCells_at P b (len*D z) T vals 0 vs w a8 (by omega) (bY.P8 AD);simp only[kv] at dc
        have Qa:nX=vs.toList.take (len*D z):=by
         apply tB;intro j;rcases fE j (len*D z) with aa|aa
         ·have hn:0<len:=by
           rcases iK len with h|h
           ·subst h;simp at aa
           ·exact h
          obtain⟨dA,avv,Xb,aio⟩:=Xa hn;simp only[bH,Addr.mk.injEq,and_true] at Xb;obtain⟨rfl,rfl⟩:=Xb;have yR:j<D nX:=by omega
          have sB:=aio j _ (bB yR);rw[lr,cell_of_row w b j vs T (0,0) a8] at sB;rw[bB yR,xb,aq aa,<-sB,Array.getElem?_toList]
         ·rw[mO (by omega),xb,ar (by omega)]
        have Xc:(vs.toList.take (len*D z)++vals++vs.toList.drop (len*D z+D vals)).toArray.size=re.size:=by
         simp;omega
        have f:Fr (λb=>∃e,B k'=some e/\e.c1=some b) w (w.setRow b (vs.toList.take (len*D z)++vals++vs.toList.drop (len*D z+D vals)).toArray):=by
         refine⟨rfl,rfl,rfl,by simp,λj aa aZ=>?_⟩
         exact setRow_other w b j _ (λDf=>aZ ⟨re,lX,by rw[bp,Df]⟩)
        have AB:(cs.take (len*D z)++new).length=len*D z+D vals:=by
         rw[lk,mW,nW,hf,mS hlen]
        have ok:=cX.change (k:=k') (e':=⟨cf+1,some b,re.size,false⟩) (cs:=cs.take (len*D z)++new) a3 f
         (λax dF => .inr (by rw[lX] at dF;cases dF;simp only;omega)) (λdO dm => .inr ⟨re,lX,by rw[bp];exact dm⟩) (λaE=>by cases aE) (λdO dm=>by
          cases dm;refine⟨rfl,_,T,setRow_heap w b vs _ T (0,0) a8,Xc,by rw[Xc,AB,nW];omega,λi m hm=>?_⟩
          have dQ:=Le.append bY;obtain⟨v,ai,M⟩:=dQ.get hm;refine⟨v,?_,M⟩;rw[Qa] at ai;have au:i<(vs.toList.take (len*D z)++vals).length:=(dn.1 ai).1;simp only[Xd];rw[C9 au];exact ai)
        refine⟨_,_,_,P9 (P:=P) (ty:=ty) (a:=dj) (c:=c6) (vals:=vals) bC R vq (ao w rfl) _ (λdA gX=>by
         cases gX;rw[xc,lr];exact dc) (λh=>by cases h),ok,?_⟩
        exact .ref (e2 _ _ _) (bM _) ⟨_,cap,rfl,vq,G,.inr ⟨b,rfl,λ_=>⟨rfl,bD,rfl⟩⟩⟩
      ·have:=grow cz len cap (cf+1) k' (cs.take (len*D z)) nX (by omega) (λah hw=>Ld (P:=P) (w:=w) Qc Xa ah hw) Le (by rw[hf,mS hlen]) tC De Dh;exact this
    ·cases h
   ·cases h
  ·cases h
 |_=>simp[pk] at h
def aip {t u ty e:TypeId}{sz n:Nat}{ba bJ:I}{j7 hp:Value}{new:List I}{r:I}{hY:Option (Key×Nat×List I)}(a3:dq A w B mem)(bC:P.underlying t=some (.slice e))(R:e8 P e=some sz)
  (fK:aN w (bg A B) B ba j7) (hd:aN w (bg A B) B bJ hp) (oA:ow mem sz bJ=some (n,new)) (h:tq mem sz ba (some (n,new))=some (r,hY)) :
  ∃v ah,(Builtin.copy_ #[t,u] ty #[j7,hp]).run P w=.ok v ah/\cX A w B ah B (fA mem hY)/\aN ah (bg A B) B r v:=by
 obtain⟨dj,c6,vals,rfl,bY,nW,gO⟩:=W9 a3 hd oA;have mW:(D new)=n*sz:=by rw[<-bY.1,nW]
 cases ba with
 |ref k g dG off len =>
  simp only[tq] at h
  split at h
  ·rename_i dC;subst dC;unfold yH at h
   split at h
   ·rename_i cf cs Q
    split at h
    ·rename_i Z;obtain⟨rfl,GB,AD⟩:=Z
     cases h;obtain⟨re,lX,bO,vl,U⟩:=a3.at_ Q;have Lg:Nat.min n len=min n len:=rfl;have hle:min n len<=n:=Nat.min_le_left _ _;have aiq:min n len<=len:=Nat.min_le_right _ _;have tA:min n len*dG<=n*dG:=mP _ hle;have avw:min n len*dG<=len*dG:=mP _ aiq;have mQ:(vals.take (min n len*dG)).length=min n len*dG:=by rw[hf,nW,mS tA]
     have yS:∀(a:Option Addr) (c:Nat),(0<n->∃b off,a=some ⟨b,off,none⟩/\lV w b off vals)->(Builtin.firstCells dG (min n len) (.slice a n c)).run P w=.ok (vals.take (min n len*dG)).toArray w:=by
      intro a c gO
      have:=Ld (P:=P) (w:=w) (sz:=dG) (n:=min n len) (c:=c) (a:=a) (vals:=vals.take (min n len*dG)) mQ (λh=>by
       obtain⟨b,off,E,G⟩:=gO (by omega);exact⟨b,off,E,G.take _⟩) w rfl
      cases a with
      |none=>simpa [Builtin.firstCells] using this
      |some a=>simpa [Builtin.firstCells] using this
     cases fK with
     |ref he aC M =>
      rw[lX] at he
      cases he;obtain⟨cz,cap,rfl,E,G,ad⟩:=M;simp only[e8,cO] at R;obtain⟨i,O,Qd⟩:=R;rcases ad with ad|⟨b,rfl,aK⟩
      ·have Di:len=0:=by omega
       subst Di;have mV:min n 0=0:=Nat.min_zero _;have px:jJ cs off (new.take (min n 0*dG))=cs:=by simp[jJ]
       have dc:∀a:Addr,(storeCells a ([]:List Value)).run P w=.ok () w:=λa=>by simp[storeCells]
       have AE:=yS dj c6 gO;simp only[mV,Nat.zero_mul,List.take_zero] at AE
       have hq:eu B k re=B:=by
        funext j;unfold eu;split
        ·rename_i aa;rw[aa,lX]
        ·rfl
       refine⟨.int .i64 0,w,?_,?_,by simpa using aN.ofInt⟩
       ·cases cz with
        |none=>simp[Builtin.copy_,run_underlying bC,Builtin.lenOf,sizeOf,typeInfo,O,Qd,AE,goInt]
        |some a=>simp[Builtin.copy_,run_underlying bC,Builtin.lenOf,sizeOf,typeInfo,O,Qd,AE,dc,goInt]
       ·have gw:aV mem k cf cs=mem:=by
         funext j;unfold aV;split
         ·rename_i aa;rw[aa,Q]
         ·rfl
        simp only[fA,px,gw];exact .refl a3
      ·obtain⟨bp,bD,gF⟩:=aK bO.symm;obtain⟨vs,T,a8,GH,GI,tE⟩:=U b bp gF;have dc:=run_storeCells_at P b off T (vals.take (min n len*dG)) 0 vs w a8 (by omega) (λv ai=>bY.P8 AD v (Aw ai));simp only[kv] at dc;refine⟨.int .i64 ((min n len:Nat):Int),_,?_,P5 a3 Q lX bp gF a8 GH GI tE bO (by rw[hf,mW,mS tA];omega) (bY.take (min n len*dG)),.ofInt⟩;have AE:=yS dj c6 gO;simp[Builtin.copy_,run_underlying bC,Builtin.lenOf,sizeOf,typeInfo,O,Qd,Lg,AE,dc,goInt]
    ·cases h
   ·cases h
  ·cases h
 |_=>simp[tq] at h
def air {z:Array Value}(al:0<z.size)(n:Nat):(Builtin.zeroCells z n).toList=(cK n z.toList).flatten:=by
 unfold Builtin.zeroCells;exact K9 al n
def ais {t ty e:TypeId}{z:List I}{ba:I}{j7:Value}{r:I}{hY:Option (Key×Nat×List I)}(a3:dq A w B mem)(bC:P.underlying t=some (.slice e))(aQ:zeroOf P e=some z)(al:0<D z)
  (fK:aN w (bg A B) B ba j7) (h:vf mem z ba=some (r,hY)) :
  ∃v ah,(Builtin.clear_ #[t] ty #[j7]).run P w=.ok v ah/\cX A w B ah B (fA mem hY)/\aN ah (bg A B) B r v:=by
 have Xe:∀ah:World,aN ah (bg A B) B (.de []) (.tuple #[]):=λah=>aN.de (cs:=[]) (vs:=[]) rfl λi d v ae=>by simp at ae
 cases ba with
 |ref k g sz off len =>
  simp only[vf] at h
  split at h
  ·rename_i dC;subst dC;unfold KV at h
   split at h
   ·rename_i cf cs Q
    split at h
    ·rename_i Z;obtain⟨rfl,GB,AD⟩:=Z
     cases h;obtain⟨i,ho,O,nn,bY⟩:=Ay (P:=P) (w:=w) (B:=B) (av:=bg A B) aQ;have Dg:ho.cells.size=D z:=by have:=bY.1;simp at this;omega
     obtain⟨re,lX,bO,vl,U⟩:=a3.at_ Q
     cases fK with
     |ref he aC M =>
      rw[lX] at he
      cases he;obtain⟨cz,cap,rfl,E,G,ad⟩:=M;rcases iK len with Di|Di
      ·subst Di;have px:jJ cs off (cK 0 z).flatten=cs:=by simp[jJ]
       have gw:aV mem k cf cs=mem:=by
        funext j;unfold aV;split
        ·rename_i aa;rw[aa,Q]
        ·rfl
       refine⟨.tuple #[],w,?_,?_,Xe _⟩
       ·cases cz<;>simp[Builtin.clear_,run_underlying bC]
       ·simp only[fA,px,gw];exact .refl a3
      ·rcases ad with ad|⟨b,rfl,aK⟩
       ·omega
       ·obtain⟨bp,bD,gF⟩:=aK bO.symm;obtain⟨vs,T,a8,GH,GI,tE⟩:=U b bp gF;have qe:=bY.replicate len;have xh:=air (z:=ho.cells) (by omega) len;have mW:(cK len z).flatten.length=len*D z:=by simp
        have nW:(cK len ho.cells.toList).flatten.length=len*D z:=by simp[Dg]
        have ait:(cK len z).flatten.all I.one=true:=by
         rw[jO] at AD ⊢;intro x J;obtain⟨y,ag,ky⟩:=List.mem_flatten.1 J;exact AD x (by rw[<-(List.mem_replicate.1 ag).2];exact ky)
        have dc:=run_storeCells_at P b off T (cK len ho.cells.toList).flatten 0 vs w a8 (by omega) (qe.P8 ait);simp only[kv] at dc;refine⟨.tuple #[],_,?_,P5 a3 Q lX bp gF a8 GH GI tE bO (by omega) qe,Xe _⟩;obtain⟨ah0,rfl⟩:∃l,len=l+1:=⟨len-1,by omega⟩
        simp[Builtin.clear_,run_underlying bC,GD O nn,xh,dc]
    ·cases h
   ·cases h
  ·cases h
 |_=>simp[vf] at h
end
end Go.Mini
namespace Go.Mini
open Go
variable {P:Program} {A:Nat->Prop} {w:World} {B:cG} {mem:Mem}
def aiu {t e:TypeId}{sz l h len:Nat}{m r:I}{v:Value}{jM jN:Option Value}{bP O:Option I}(a3:dq A w B mem)(bC:P.underlying t=some (.array len e))(R:e8 P e=some sz)(avx:len<=16777216)
  (fZ:iJ 0 bP=some l) (jf:iJ len O=some h) (lu:pv w (bg A B) B bP jM) (ku:pv w (bg A B) B O jN) (hm:aN w (bg A B) B m v) (M:yG mem len sz l h m=some r) :
  ∃z,(Instr.sliceAt t v jM jN none).run P w=.ok z w/\aN w (bg A B) B r z:=by
 unfold yG at M
 split at M
 ·rename_i k g off;unfold PM at M
  split at M
  ·rename_i cf cs Q
   split at M
   ·rename_i Z;obtain⟨rfl,E,G,ad⟩:=Z
    cases M
    cases hm with
    |ptr he aC ai =>
     obtain⟨b,rfl,U⟩:=ai;obtain⟨e',ea,bO,aE,jd⟩:=a3.at_ Q;rw[ea] at he
     cases he;obtain⟨fp,gF⟩:=U bO.symm;obtain⟨vs,T,a8,aQ,hle,_⟩:=jd b fp gF;refine⟨.slice (some (if len=l then ⟨b,off,none⟩ else ⟨b,off+l*sz,none⟩)) (h-l) (len-l),?_,.ref ea aC ⟨_,len-l,rfl,by omega,by unfold maxLen;omega,?_⟩⟩
     ·simp[Instr.sliceAt,run_underlying bC,Instr.sureAddr,PZ (P:=P) (w:=w) false fZ jf lu ku E G,q8 R]
      split<;>simp[xc]
     ·rcases K7 (cN E G) with af|af
      ·exact .inl (by omega)
      ·refine .inr ⟨b,by rw[ar (by omega)],λ_=>⟨fp,?_,gF⟩⟩
       have:off+l*sz+(len-l)*sz=off+len*sz:=by
        rw[q7,<-ou]
        congr 2
        omega
       omega
   ·cases M
  ·cases M
 ·cases M
def aiv {db:List Field}(h:(db.all λf=>(e8 P f.type).isSome)=true):∃cH:List (Nat×Nat),(db.mapM λf=>(do pure (f.offset,<-sizeOf f.type):Sem (Nat×Nat))).run P w=.ok cH w /\
  ∀i:Nat,cH[i]?=sv P db.toArray i:=by
 induction db with
 |nil=>exact⟨[],by simp,λi=>by simp[sv]⟩
 |cons f r aF =>
  simp only[List.all_cons,dH] at h;obtain⟨cH,E,G⟩:=aF h.2;obtain⟨s,R⟩:=Xf.1 h.1;refine⟨(f.offset,s)::cH,?_,λi=>?_⟩
  ·simp only[mx,Sem.run_bind,q8 R,Result.andThen_ok,Sem.run_pure];rw[E]
   rfl
  ·cases i with
   |zero=>simp[sv,R]
   |succ i =>
    have:=G i;simp only[sv,Xd,List.getElem?_cons_succ] at this ⊢;exact this
def aiw {p q:Nat->Option (Nat×Nat)}(h:∀i,p i=q i)(cs:Array Value)(l:List (Nat×Value)):Instr.fill p cs l=Instr.fill q cs l:=by
 rw[show p=q from funext h]
def aix {t:TypeId}{db:Array Field}{z r:List I}{cH:List (Nat×Operand)}{eK:List (Nat×Nat×bm)}{ρ:Operand->Value}{tm:Nat->I}{av:Nat->Prop}(bC:P.underlying t=some (.struct db))(aQ:zeroOf P t=some z)
  (a5:(db.toList.all λf=>(e8 P f.type).isSome)=true) (aD:partsOf (sv P db) cH=some eK) (hρ:∀x y,cw x=some y->aN w av B (aI tm y) (ρ x))
  (h:jy (aI tm) z eK=some r):∃v,(Instr.build t (cH.map λp=>(p.1,ρ p.2)).toArray).run P w=.ok v w/\aN w av B (.agg r) v:=by
 obtain⟨i,ho,O,nn,bY⟩:=Ay (P:=P) (w:=w) (B:=B) (av:=av) aQ;obtain⟨pl,E,G⟩:=aiv (w:=w) a5;obtain⟨mR,ao,M⟩:=K8 (place:=sv P db) hρ cH eK _ r _ aD bY h;refine⟨.agg mR,?_,by rw[show mR=mR.toList.toArray from by simp];exact .agg M.1 M.2⟩
 ·have tF:∀i,pl.toArray[i]?=sv P db i:=λi=>by simpa using G i
  have hm:(db.mapM λf=>(do pure (f.offset,<-sizeOf f.type):Sem (Nat×Nat))).run P w=.ok pl.toArray w:=by
   rw[Array.mapM_eq_mapM_toList];rw[map_eq_pure_bind];simp only[Sem.run_bind,E,Result.andThen_ok,Sem.run_pure]
  simp only[Instr.build,Sem.run_bind,GD O nn,Result.andThen_ok,Sem.run_pure,run_underlying bC,hm,aiw tF,ao]
def aiy {t e:TypeId}{n sz:Nat}{z r:List I}{cH:List (Nat×Operand)}{eK:List (Nat×Nat×bm)}{ρ:Operand->Value}{tm:Nat->I}{av:Nat->Prop}(bC:P.underlying t=some (.array n e))(aQ:zeroOf P t=some z)
  (R:e8 P e=some sz) (aD:partsOf (λi=>some (i*sz,sz)) cH=some eK) (hρ:∀x y,cw x=some y->aN w av B (aI tm y) (ρ x))
  (h:jy (aI tm) z eK=some r):∃v,(Instr.build t (cH.map λp=>(p.1,ρ p.2)).toArray).run P w=.ok v w/\aN w av B (.agg r) v:=by
 obtain⟨i,ho,O,nn,bY⟩:=Ay (P:=P) (w:=w) (B:=B) (av:=av) aQ;obtain⟨mR,ao,M⟩:=K8 (place:=λi=>some (i*sz,sz)) hρ cH eK _ r _ aD bY h;refine⟨.agg mR,?_,by rw[show mR=mR.toList.toArray from by simp];exact .agg M.1 M.2⟩
 simp only[Instr.build,Sem.run_bind,GD O nn,Result.andThen_ok,Sem.run_pure,run_underlying bC,q8 R,ao]
end Go.Mini
namespace Go.Mini
open Go
section
variable {P:Program} {w:World} {av:Nat->Prop} {B:cG}
def aiz {m:I}{d:Data}{v:Value}(h:PI m=some d)(ai:aN w av B m v):Den w av d v:=by
 unfold PI at h
 split at h
 ·cases h;cases ai with|L h=>exact h
 ·cases h;cases ai;exact .j3
 ·simp only[cO] at h;obtain⟨ds,e4,rfl⟩:=h;obtain⟨E,G⟩:=mapM_get e4
  cases ai with
  |agg af ae =>
   refine .agg (by omega) λi d v O hu=>?_;rename_i cs vs;have au:i<D cs:=by have:=(dn.1 O).1;omega
   have eN:=bB au;exact P7 (G i _ d eN O) (ae i _ v eN hu)
 ·cases h
def Xg {t:TypeId}{z:I}(h:zeroV P t=some z):∃v,(zeroValue t).run P w=.ok v w/\aN w av B z v:=by
 simp only[zeroV,di] at h;obtain⟨v,⟨i,O,ai⟩,aQ⟩:=h;exact⟨v,by simp[zeroValue,typeInfo,O,ai],WK aQ⟩
def GJ {ok b:Bool}{m:I}{v:Value}(h:aN w av B m v):aN w av B (As ok b m) (if ok=true then .tuple #[v,.bool b] else v):=by
 unfold As
 split
 ·have:=aN.de (w:=w) (av:=av) (B:=B) (cs:=[m,.L (.bool b)]) (vs:=[v,.bool b]) rfl λi d u O hu=>by
   match i,O,hu with
   |0,O,hu=>simp at O hu;subst O;subst hu;exact h
   |1,O,hu=>simp at O hu;subst O;subst hu;exact .L .bool
  exact this
 ·exact h
def aiA {t:TypeId}{aU:TypeDesc}{m r:I}{v:Value}(hu:P.underlying t=some aU)(aE:∀ms,aU ≠ .interface ms)(hm:aN w av B m v)(h:PJ t m=some r):
  ∃z,(Instr.makeInterface t v).run P w=.ok z w/\aN w av B r z:=by
 simp only[PJ,cO] at h;obtain⟨d,ae,rfl⟩:=h;refine⟨.iface t v,?_,.L (.ni (aiz ae hm))⟩;simp only[Instr.makeInterface,Sem.run_bind,run_underlying hu,Result.andThen_ok]
 cases aU<;>first|rfl|exact absurd rfl (aE _)
def aiB {t Xh:TypeId}{aU:TypeDesc}{ok:Bool}{z m r:I}{v:Value}(hu:P.underlying t=some aU)(aE:∀ms,aU ≠ .interface ms)(aQ:zeroV P t=some z)(hm:aN w av B m v)(h:PK t ok z m=some r):
  ∃u,(Instr.typeAssert v Xh t ok).run P w=.ok u w/\aN w av B r u:=by
 obtain⟨ho,nn,lY⟩:=Xg (P:=P) (w:=w) (av:=av) (B:=B) aQ;unfold PK at h
 split at h
 ·rename_i ks d
  cases hm with
  |L ae =>
   cases ae with
   | @ni _ _ u ae =>
    split at h
    ·rename_i bC;subst bC
     cases h;refine⟨_,?_,GJ (.L ae)⟩;simp only[Instr.typeAssert,Sem.run_bind,run_underlying hu,Result.andThen_ok]
     cases aU<;>first|exact absurd rfl (aE _)|simp
    ·rename_i bC
     split at h
     ·rename_i dp;subst dp
      cases h;refine⟨_,?_,GJ lY⟩;simp only[Instr.typeAssert,Sem.run_bind,run_underlying hu,Result.andThen_ok]
      cases aU<;>first|exact absurd rfl (aE _)|simp[bC,nn]
     ·cases h
 ·cases hm with
  |L ae =>
   cases ae
   split at h
   ·rename_i dp;subst dp
    cases h;refine⟨_,?_,GJ lY⟩;simp only[Instr.typeAssert,Sem.run_bind,run_underlying hu,Result.andThen_ok]
    cases aU<;>first|exact absurd rfl (aE _)|simp[nn]
   ·cases h
 ·cases h
def Xi {neg:Bool}{t e:TypeId}{x:Operand}{y:Operand}{m r:I}{v c:Value}(hu:P.underlying t=some (.pointer e))(Z:c=.pointer none)(hm:aN w av B m v)(h:Gl neg false m=some r):
  ∃z,((do eqGuard (if neg then .neq else .eql) t x y v c;binOp (if neg then .neq else .eql) t v c:Sem Value)).run P w=.ok z w/\aN w av B r z:=by
 subst Z;simp only[Gl,cO] at h;obtain⟨b,U,rfl⟩:=h
 have ai:∃a,v=.pointer a/\a.isNone=b:=by
  unfold isNil at U
  split at U<;>cases U
  ·cases hm with|L ae=>cases ae;exact⟨none,rfl,rfl⟩
  ·cases hm with|L ae=>cases ae;exact⟨_,rfl,rfl⟩
  ·cases hm with|ptr he aC aD=>obtain⟨b,rfl,_⟩:=aD;exact⟨_,rfl,rfl⟩
  all_goals contradiction
 obtain⟨a,rfl,rfl⟩:=ai
 have he:(Op.equal t (.pointer a) (.pointer none)).run P w=.ok a.isNone w:=by
  show (Op.equalIn (9999+1) t (.pointer a) (.pointer none)).run P w=_;unfold Op.equalIn;simp only[Sem.run_bind,run_underlying hu,Result.andThen_ok]
  cases a<;>rfl
 refine⟨.bool (neg != a.isNone),?_,.L .bool⟩;rw[eqGuard_at_pointer]
 cases neg
 ·simp only[df,if_false,Sem.run_bind,Sem.run_pure,Result.andThen_ok];show (do pure (Value.bool (<-Op.equal t (.pointer a) (.pointer none))):Sem Value).run P w=_
  simp[he]
 ·simp only[if_true,Sem.run_bind,Sem.run_pure,Result.andThen_ok];show (do pure (Value.bool (!(<-Op.equal t (.pointer a) (.pointer none)))):Sem Value).run P w=_
  simp[he]
def Xj {neg:Bool}{t:TypeId}{ms:Array (String×TypeId)}{x:Operand}{c:Value}{m r:I}{v:Value}(hu:P.underlying t=some (.interface ms))(Z:c=.nilIface)(hm:aN w av B m v)(h:Gl neg true m=some r):
  ∃z,((do eqGuard (if neg then .neq else .eql) t x (.const c) v c;binOp (if neg then .neq else .eql) t v c:Sem Value)).run P w=.ok z w/\aN w av B r z:=by
 subst Z;simp only[Gl,cO] at h;obtain⟨b,U,rfl⟩:=h
 have ai:(v=.nilIface/\b=true)\/∃ks u,v=.iface ks u/\b=false:=by
  unfold isNil at U
  split at U<;>cases U
  ·contradiction
  ·contradiction
  ·contradiction
  ·cases hm with|L ae=>cases ae;exact .inl ⟨rfl,rfl⟩
  ·cases hm with|L ae=>cases ae;exact .inr ⟨_,_,rfl,rfl⟩
 have he:(Op.equal t v .nilIface).run P w=.ok b w:=by
  show (Op.equalIn (9999+1) t v .nilIface).run P w=_;unfold Op.equalIn;simp only[Sem.run_bind,run_underlying hu,Result.andThen_ok];rcases ai with ⟨rfl,rfl⟩|⟨ks,u,rfl,rfl⟩<;>rfl
 have aC:∀op,eqGuard op t x (.const .nilIface) v .nilIface=pure ():=λop=>by
  rcases ai with ⟨rfl,rfl⟩|⟨ks,u,rfl,rfl⟩
  ·exact eqGuard_nil_constR _ _ _ _
  ·exact eqGuard_at_iface _ _ _ _ _ _ _
 refine⟨.bool (neg != b),?_,.L .bool⟩;rw[aC];rcases ai with ⟨rfl,rfl⟩|⟨ks,u,rfl,rfl⟩<;>cases neg
 ·show (do pure (Value.bool (<-Op.equal t .nilIface .nilIface)):Sem Value).run P w=_;simp[he]
 ·show (do pure (Value.bool (!(<-Op.equal t .nilIface .nilIface))):Sem Value).run P w=_
  simp[he]
 ·show (do pure (Value.bool (<-Op.equal t (.iface ks u) .nilIface)):Sem Value).run P w=_
  simp[he]
 ·show (do pure (Value.bool (!(<-Op.equal t (.iface ks u) .nilIface))):Sem Value).run P w=_
  simp[he]
def aiC {t e:TypeId}{len sz n:Nat}{bF:Bool}{k:IntKind}{m r:I}{v:Value}(hu:P.underlying t=some (.array len e))(R:e8 P e=some sz)(a5:su P e=some bF)(hm:aN w av B m v)(h:PL len sz bF n m=some r):
  ∃z,(Instr.index t v (.int k (n:Int))).run P w=.ok z w/\aN w av B r z:=by
 unfold PL at h
 split at h
 ·rename_i aE
  have go:∀(cs:List I) (vs:List Value),cj w av B cs vs->(cut cs (n*sz) sz).bind (nT bF)=some r->∃z,(Instr.index t (.agg vs.toArray) (.int k (n:Int))).run P w=.ok z w/\aN w av B r z:=by
   intro cs vs bY a8;simp only[di] at a8;obtain⟨ms,E,G⟩:=a8;obtain⟨u,ad,aK⟩:=WU (P:=P) R a5 bY E G;exact⟨u,by simp[Instr.index,asIntOf,run_underlying hu,q8 R,aE,ad],aK⟩
  simp only[di] at h;obtain⟨cs,jK,h⟩:=h
  split at h
  ·unfold Ar at jK
   split at jK<;>cases jK
   ·cases hm with
    |agg af ae=>exact go _ _ ⟨af,ae⟩ h
   ·cases hm with
    |L ae =>
     cases ae with
     |agg af ae=>exact go _ _ (cj.L af ae) h
  ·cases h
 ·cases h
end
section
variable {P:Program} {A:Nat->Prop} {w:World} {B:cG} {mem:Mem}
def cX.Qe {ah:World}{k:Key}{e':gN}{cs:List I}(h:dq A w B mem)(f:Fr (λb=>∃e,B k=some e/\e.c1=some b) w ah)
  (aC:∀e,B k=some e->e'=e\/e.g<e'.g)
  (jd:∀b,e'.c1=some b->w.heap.size<=b\/∃e,B k=some e/\e.c1=some b)
  (aE:e'.c1=none->cs=[])
  (Z:∀b,e'.c1=some b->e'.mp=true/\∃hF im,ah.heap[b]?=some (.map hF im)/\jx w (bg A B) B hF.toList cs):cX A w B ah (eu B k e') (aV mem k e'.g cs):=by
 have hold:∀b,b<w.heap.size->(∀e,B k=some e->e.c1≠some b)->ah.heap[b]?=w.heap[b]? :=
  λb U J=>f.block b U fun⟨e,he,fp⟩=>J e he fp
 have hW:Trans A w B ah (eu B k e'):=Trans.change f.size hold aC jd;exact⟨h.PS f.size hold aC jd aE λb U=>let ⟨E,hF,im,G,ad⟩:=Z b U;.inr ⟨E,hF,im,G,ad.jw hW⟩,hW,⟨f.os,f.tape,f.output,f.size,λb U aZ=>f.block b U fun⟨e,he,fp⟩=>aZ ⟨k,e,he,fp⟩⟩,K3 jd⟩
def aiD {t:TypeId}(k:Key)(a3:dq A w B mem):∃v ah aB,(Instr.makeMap t none).run P w=.ok v ah/\cX A w B ah aB (aV mem k (bw mem k) [])/\aN ah (bg A aB) aB (.gV k (bw mem k)) v:=by
 refine⟨.map (some w.heap.size),w.alloc (.map #[] 0),eu B k ⟨bw mem k,some w.heap.size,0,true⟩,?_,?_,.gV (e2 _ _ _) (bM _) ⟨_,rfl,λ_=>⟨rfl,rfl⟩⟩⟩
 ·simp[Instr.makeMap]
 ·have f2:Fr (λ_=>False) w (w.alloc (.map #[] 0)):=(Fr.refl _ _).alloc _;refine cX.Qe (e':=⟨bw mem k,some w.heap.size,0,true⟩) a3 ⟨f2.os,f2.tape,f2.output,f2.size,λb U _=>f2.block b U id⟩ (λe he => .inr (yK a3 k e he)) (λb U => .inl ?_) (by simp) ?_
  ·simp at U;omega
  ·intro b U;simp at U;subst U;exact⟨rfl,#[],0,heap_alloc_new w _,.nil⟩
def Xk {m:I}{v:Value}{k:Key}{g:Nat}{cs:List I}(a3:dq A w B mem)(ai:aN w (bg A B) B m v)(h:yI mem m=some (k,g,cs)):
  ∃b e hF im,v=.map (some b)/\mem k=some (g,cs)/\B k=some e/\e.g=g/\e.c1=some b/\e.mp=true/\w.heap[b]?=some (.map hF im)/\jx w (bg A B) B hF.toList cs:=by
 unfold yI at h
 split at h
 ·split at h
  ·rename_i k' cf cY GK Q
   split at h
   ·rename_i aC;subst aC
    cases h;obtain⟨e,he,bO,aE,U⟩:=a3.c1 _ _ _ Q
    cases ai with
    |gV ea w9 aD =>
     rw[he] at ea
     cases ea;obtain⟨b,rfl,fp⟩:=aD;obtain⟨E,G⟩:=fp bO.symm;rcases U b E with ⟨ad,_⟩|⟨_,hF,im,aK,bp⟩
     ·rw[G] at ad;cases ad
     ·exact⟨b,e,hF,im,rfl,Q,he,bO,E,G,aK,bp⟩
   ·cases h
  ·cases h
 ·cases h
def GL (a b:List UInt8):((⟨a.toArray⟩:ByteArray)==⟨b.toArray⟩)=decide (a=b):=by
 show (a.toArray==b.toArray)=_
 by_cases h:a=b
 ·subst h;simp
 ·simp[h]
def Qf {av:Nat->Prop}{s:List UInt8}:∀{es:List MapEntry} {cs:List I} (n:Nat) {r:Option I},jx w av B es cs->KT s cs=some r ->
  ∃q,Instr.findNow .string (.string ⟨s.toArray⟩) es n=some q/\((q=none/\r=none)\/∃i u m,q=some (i,u)/\r=some m/\aN w av B m u)
 |_,_,n,r,.nil,h=>by
  cases h;exact⟨none,rfl,.inl ⟨rfl,rfl⟩⟩
 |_,_,n,r,.cons (e:=e) (s:=k) Q ai M,h=>by
  simp only[KT] at h
  split at h
  ·rename_i R;subst R
   cases h;exact⟨_,by simp[Instr.findNow,Q,Instr.sameNow,GL];rfl,.inr ⟨_,_,_,rfl,rfl,ai⟩⟩
  ·rename_i R;obtain⟨q,E,G⟩:=Qf (n+1) M h;exact⟨q,by simp[Instr.findNow,Q,Instr.sameNow,GL,R,E],G⟩
def Xl {av:Nat->Prop}{s:List UInt8}{x:I}{u:Value}(J:aN w av B x u):∀{es:List MapEntry} {cs:List I} (n:Nat) {gu:List I},jx w av B es cs->KU s x cs=some gu ->
  (Instr.findNow .string (.string ⟨s.toArray⟩) es n=some none/\∀c,jx w av B (es++[⟨.string ⟨s.toArray⟩,u,c⟩]) gu) \/
  ∃i v0 fF,Instr.findNow .string (.string ⟨s.toArray⟩) es n=some (some (n+i,v0))/\es[i]?=some fF/\fF.key=.string ⟨s.toArray⟩/\jx w av B (es.modify i λe=>{ e with key:=.string ⟨s.toArray⟩,val:=u }) gu
 |_,_,n,gu,.nil,h=>by
  cases h;exact .inl ⟨rfl,λc => .cons rfl J .nil⟩
 |_,_,n,gu,.cons (e:=e) (s:=k) (es:=es) Q ai M,h=>by
  simp only[KU] at h
  split at h
  ·rename_i R;subst R
   cases h;exact .inr ⟨0,e.val,e,by simp[Instr.findNow,Q,Instr.sameNow,GL],rfl,Q,.cons rfl J M⟩
  ·rename_i R;simp only[cO] at h;obtain⟨r,h,rfl⟩:=h
   have ao:Instr.findNow .string (.string ⟨s.toArray⟩) (e::es) n=Instr.findNow .string (.string ⟨s.toArray⟩) es (n+1):=by
    simp[Instr.findNow,Q,Instr.sameNow,GL,R]
   rcases Xl J (n+1) M h with ⟨E,G⟩|⟨i,v0,fF,E,G,ad,aK⟩
   ·exact .inl ⟨ao.trans E,λc => .cons Q ai (G c)⟩
   ·exact .inr ⟨i+1,v0,fF,by rw[ao,E];congr 3;omega,by simpa using G,ad,.cons Q ai aK⟩
def Xm {k:TypeId}(h:ts P k=some 2):P.underlying k=some .string:=by
 unfold ts at h
 split at h<;>simp at h
 assumption
def Lh {k:TypeId}(h:P.underlying k=some .string)(b:Bool)(s:ByteArray):(Instr.checkKey b 10000 k (.string s)).run P w=.ok () w:=by
 show (Instr.checkKey b (9999+1) k (.string s)).run P w=_;unfold Instr.checkKey;simp only[Sem.run_bind,run_underlying h,Result.andThen_ok]
 rfl
def Xn {m:I}{s:List UInt8}{v:Value}{av:Nat->Prop}(h:KW m=some s)(ai:aN w av B m v):v=.string ⟨s.toArray⟩:=by
 unfold KW at h
 split at h
 ·cases h;exact ai.yM
 ·cases h
def aiE {t k e:TypeId}{ok:Bool}{z ba bJ r:I}{v1 v2:Value}(a3:dq A w B mem)(hu:P.underlying t=some (.map k e))(Q:ts P k=some 2)(aQ:zeroV P e=some z)(fK:aN w (bg A B) B ba v1)(hd:aN w (bg A B) B bJ v2)
  (h:KX mem ok z ba bJ=some r):∃u,(Instr.lookup t v1 v2 ok).run P w=.ok u w/\aN w (bg A B) B r u:=by
 unfold KX at h
 split at h
 ·rename_i gY g cs s eB cm;obtain⟨b,re,hF,im,rfl,E,G,ad,aK,bp,bD,bL⟩:=Xk a3 fK eB;obtain rfl:=Xn cm hd;have tw:=Xm Q;obtain⟨ho,nn,lY⟩:=Xg (P:=P) (w:=w) (av:=bg A B) (B:=B) aQ
  split at h
  ·rename_i m af
   cases h;obtain⟨q,aM,a8⟩:=Qf 0 bL af;rcases a8 with ⟨_,h⟩|⟨i,u,m',rfl,hm,M⟩
   ·cases h
   ·cases hm;refine⟨_,?_,GJ M⟩;simp only[Instr.lookup,Sem.run_bind,run_underlying hu,Result.andThen_ok,MapKept.run_getObj_map bD,Sem.run_pure,Lh tw,Instr.findKey,run_underlying tw,aM]
  ·rename_i af
   cases h;obtain⟨q,aM,a8⟩:=Qf 0 bL af;rcases a8 with ⟨rfl,_⟩|⟨i,u,m',rfl,hm,M⟩
   ·refine⟨_,?_,GJ lY⟩;simp only[Instr.lookup,Sem.run_bind,run_underlying hu,Result.andThen_ok,MapKept.run_getObj_map bD,Sem.run_pure,Lh tw,Instr.findKey,run_underlying tw,aM,nn]
   ·cases hm
  ·cases h
 ·cases h
def aiF {t k e:TypeId}{ba bJ dD r:I}{v1 v2 hr:Value}{hY:Option (Key×Nat×List I)}(a3:dq A w B mem)(hu:P.underlying t=some (.map k e))(Q:ts P k=some 2)(fK:aN w (bg A B) B ba v1)(hd:aN w (bg A B) B bJ v2)(qg:aN w (bg A B) B dD hr)
  (h:Gp mem ba bJ dD=some (r,hY)):∃ah,(Instr.mapUpdate t v1 v2 hr).run P w=.ok () ah/\cX A w B ah B (fA mem hY)/\r=.no:=by
 unfold Gp at h
 split at h
 ·rename_i gY g cs s eB cm
  split at h
  ·split at h
   ·rename_i gu GM
    cases h;obtain⟨b,re,hF,im,rfl,E,G,ad,aK,bp,bD,bL⟩:=Xk a3 fK eB;obtain rfl:=Xn cm hd;have tw:=Xm Q;have au:b<w.heap.size:=(Array.getElem?_eq_some_iff.1 bD).1
    have main:∀Dj GN,jx w (bg A B) B Dj.toList gu->cX A w B { w with heap:=w.heap.setIfInBounds b (.map Dj GN) } B (aV mem gY g gu):=by
     intro Dj GN M
     have heq:eu B gY re=B:=by
      funext j
      unfold eu
      split
      ·rename_i aa;rw[aa,G]
      ·rfl
     have f:Fr (λb=>∃e,B gY=some e/\e.c1=some b) w { w with heap:=w.heap.setIfInBounds b (.map Dj GN) }:=by
      refine⟨rfl,rfl,rfl,by simp,λj aa aZ=>?_⟩
      have bc:b≠j:=λDf=>aZ ⟨re,G,by rw[aK,Df]⟩
      simp[bc]
     have:=cX.Qe (k:=gY) (e':=re) (cs:=gu) a3 f (λax dF => .inl (by rw[G] at dF;exact mT dF)) (λdO dm => .inr ⟨re,G,dm⟩) (λaE=>by rw[aK] at aE;cases aE) (λdO dm=>by
      rw[aK] at dm
      cases dm;exact⟨bp,Dj,GN,by simp[au],M⟩)
     rw[heq,ad] at this;exact this
    rcases Xl qg 0 bL GM with ⟨ao,M⟩|⟨i,v0,fF,ao,qh,AF,M⟩
    ·refine⟨_,?_,main (hF.push ⟨.string ⟨s.toArray⟩,hr,im⟩) (im+1) (by simpa using M im),rfl⟩;simp only[Instr.mapUpdate,Sem.run_bind,run_underlying hu,Result.andThen_ok,MapKept.run_getObj_map bD,Sem.run_pure,Lh tw,Instr.findKey,run_underlying tw,ao,MapKept.run_setObj_map _ bD]
    ·refine⟨_,?_,main (hF.modify i λe=>{ e with key:=.string ⟨s.toArray⟩,val:=hr }) im (by simpa using M),rfl⟩
     have aiG:Instr.sameBits 10000 (.string ⟨s.toArray⟩) (.string ⟨s.toArray⟩)=true:=by
      show ((⟨s.toArray⟩:ByteArray)==⟨s.toArray⟩)=true;rw[GL];simp
     have O:hF[i]?=some fF:=by simpa using qh
     simp only[lr] at ao;simp only[Instr.mapUpdate,Sem.run_bind,run_underlying hu,Result.andThen_ok,MapKept.run_getObj_map bD,Sem.run_pure,Lh tw,Instr.findKey,run_underlying tw,ao,O,kx,Qg,AF,Instr.keyThatStays,aiG,if_true,MapKept.run_setObj_map _ bD]
   ·cases h
  ·cases h
 ·cases h
end
end Go.Mini
namespace Go.Mini
open Go
variable {P:Program} {A:Nat->Prop} {w:World} {B:cG} {mem:Mem}
def aiH (n:Next)(v:Value):Prop:=n=.value v\/(n=.skip/\v=undef)
def fL (A:Nat->Prop)(w:World)(B:cG)(run:Result Next)(mem':Mem)(r:I):Prop :=
 ∃n v ah aB,run=.ok n ah/\aiH n v/\cX A w B ah aB mem'/\aN ah (bg A aB) aB r v
def fL.ic {s:Sem Value}{r:I}(a3:dq A w B mem)(h:∃v,s.run P w=.ok v w/\aN w (bg A B) B r v):fL A w B ((do pure (.value (<-s)):Sem Next).run P w) mem r:=by
 obtain⟨v,E,G⟩:=h;exact⟨.value v,v,w,B,by simp[E],.inl rfl,.refl a3,G⟩
def fL.of {s:Sem Value}{mem':Mem}{r:I}(h:∃v ah aB,s.run P w=.ok v ah/\cX A w B ah aB mem'/\aN ah (bg A aB) aB r v):fL A w B ((do pure (.value (<-s)):Sem Next).run P w) mem' r:=by
 obtain⟨v,ah,aB,E,G,ad⟩:=h;exact⟨.value v,v,ah,aB,by simp[E],.inl rfl,G,ad⟩
def Xo {x:Option I}{r:I}{hY:Option (Key×Nat×List I)}(h:hH x=some (r,hY)):x=some r/\hY=none:=by
 unfold hH at h
 split at h<;>cases h
 exact⟨rfl,rfl⟩
def nY {x:Option Nat}{f:Nat->Option I}{r:I}(h:gW x f=some r):∃n,x=some n/\f n=some r:=by
 unfold gW at h
 split at h
 ·exact⟨_,rfl,h⟩
 ·cases h
def Xp {x y:Option Nat}{f:Nat->Nat->Out}{r:I×Option (Key×Nat×List I)}(h:Gm x y f=some r):∃n m,x=some n/\y=some m/\f n m=some r:=by
 unfold Gm at h
 split at h
 ·exact⟨_,_,rfl,rfl,h⟩
 ·cases h
def AG {av:Nat->Prop}{ρ:Operand->Value}{tm:Nat->I}(hρ:∀x y,cw x=some y->aN w av B (aI tm y) (ρ x)){x:Option Operand}{y:Option bm}(h:q5 x=some y):pv w av B (y.map (aI tm)) (x.map ρ):=by
 cases x with
 |none=>simp[q5] at h;subst h;simp[pv]
 |some x =>
  simp only[q5,cO] at h;obtain⟨y',ag,rfl⟩:=h;simp only[kx,pv];exact hρ _ _ ag
def Xq {db:Array Field}{f o s:Nat}(h:sv P db f=some (o,s)):∃fd,db[f]?=some fd/\fd.offset=o/\e8 P fd.type=some s:=by
 simp only[sv,ft,fD,di,bH,ei] at h;obtain⟨fd,E,yT,G,ad,aK⟩:=h;exact⟨fd,E,ad,aK ▸ G⟩
def py {av:Nat->Prop}{ρ:Operand->Value}{tm:Nat->I}(hρ:∀x y,cw x=some y->aN w av B (aI tm y) (ρ x)):∀{l:List Operand} {r:List bm},l.mapM cw=some r->cj w av B (r.map (aI tm)) (l.map ρ)
 | [],r,h=>by simp at h;subst h;exact cj.nil
 |x::l,r,h=>by
  simp only[mx,ft,fD,di,bH] at h;obtain⟨y,ag,C6,M,rfl⟩:=h;exact cj.cons (hρ _ _ ag) (py hρ M)
def vr {α β:Type}(a:Array α)(f:α->β):a.map f=(a.toList.map f).toArray:=by
 apply Array.ext';simp
def gx {tm:Nat->I}{m:fe}{r:I}{hY:Option (Key×Nat×List I)}{x:Option I}(h:bx mem tm m=some (r,hY))(e:bx mem tm m=hH x):x=some r/\hY=none:=Xo (e.symm.trans h)
def aiI {ρ:Operand->Value}{tm:Nat->I}{kb:Nat}{own:List Nat}{dst:Option Tmp}{type:TypeId}{c:Call}{m:fe}{r:I}{hY:Option (Key×Nat×List I)}(a3:dq A w B mem)
  (hρ:∀x y,cw x=some y->aN w (bg A B) B (aI tm y) (ρ x)) (aA:q6 P kb own dst type c=some m) (h:bx mem tm m=some (r,hY)) :
  fL A w B ((do let d <-resolve ρ c type;invoke d.target d.args:Sem Next).run P w) (fA mem hY) r:=by
 obtain⟨callee,args,argTypes⟩:=c;have two:∀{α:Type} (a:Array α) (x y:α),a.toList=[x,y]->a=#[x,y]:=λa x y h=>Array.ext' (by simpa using h);have one:∀{α:Type} (a:Array α) (x:α),a.toList=[x]->a=#[x]:=λa x h=>Array.ext' (by simpa using h);unfold q6 at aA
 split at aA
 ·rename_i x t Z a5 bC;simp only at Z a5 bC;subst Z;obtain rfl:=one _ _ a5;obtain rfl:=one _ _ bC
  split at aA
  ·rename_i e hu;simp only[cO] at aA;obtain⟨y,ag,rfl⟩:=aA;obtain⟨aM,rfl⟩:=gx h rfl;obtain⟨n,aE,aM⟩:=nY aM
   cases aM;have:=ahT (P:=P) (w:=w) t type e hu (hρ _ _ ag) aE;exact⟨.value _,_,w,B,by simp[resolve,invoke,builtin,this],.inl rfl,.refl a3,.L .int⟩
  ·rename_i hu;simp only[cO] at aA;obtain⟨y,ag,rfl⟩:=aA;obtain⟨aM,rfl⟩:=gx h rfl;obtain⟨n,aE,aM⟩:=nY aM
   cases aM;have:=ahU (P:=P) (w:=w) t type hu (hρ _ _ ag) aE;exact⟨.value _,_,w,B,by simp[resolve,invoke,builtin,this],.inl rfl,.refl a3,.L .int⟩
  ·cases aA
 ·rename_i s x t u Z a5 bC;simp only at Z a5 bC;subst Z;obtain rfl:=two _ _ _ a5;obtain rfl:=two _ _ _ bC
  split at aA
  ·rename_i e ax hu Xr;simp only[ft,fD,di] at aA;obtain⟨z,aQ,b,U,n,aE,d,ae,yT,dI,eE,oB,a8⟩:=aA
   split at a8
   ·rename_i lZ;obtain⟨rfl,al,rfl⟩:=lZ
    cases a8;simp only[bx] at h
    cases oA:ow mem (D z) (aI tm eE) with
    |none =>
     rw[oA] at h
     revert h
     cases aI tm yT<;>simp[pk]
    |some p =>
     obtain⟨k,new⟩:=p;rw[oA] at h;obtain⟨v,ah,aB,E,G,ad⟩:=aim (ty:=type) _ a3 hu aQ aE U al (hρ _ _ dI) (hρ _ _ oB) oA h;exact⟨.value v,v,ah,aB,by simp[resolve,invoke,builtin,E],.inl rfl,G,ad⟩
   ·cases a8
  ·cases aA
 ·rename_i aiJ x t u Z a5 bC;simp only at Z a5 bC;subst Z;obtain rfl:=two _ _ _ a5;obtain rfl:=two _ _ _ bC
  split at aA
  ·rename_i e ax hu Xr;simp only[ft,fD,di] at aA;obtain⟨n,aE,a8⟩:=aA
   split at a8
   ·rename_i al;simp only[di,bH] at a8;obtain⟨pz,kS,eE,oB,rfl⟩:=a8;simp only[bx] at h
    cases oA:ow mem n (aI tm eE) with
    |none =>
     rw[oA] at h
     revert h
     cases aI tm pz<;>simp[tq]
    |some p =>
     obtain⟨k,new⟩:=p;rw[oA] at h;obtain⟨v,ah,E,G,ad⟩:=aip (u:=u) (ty:=type) a3 hu aE (hρ _ _ kS) (hρ _ _ oB) oA h;exact⟨.value v,v,ah,B,by simp[resolve,invoke,builtin,E],.inl rfl,G,ad⟩
   ·cases a8
  ·cases aA
 ·rename_i x t Z a5 bC;simp only at Z a5 bC;subst Z;obtain rfl:=one _ _ a5;obtain rfl:=one _ _ bC
  split at aA
  ·rename_i e hu;simp only[ft,fD,di] at aA;obtain⟨z,aQ,n,aE,a8⟩:=aA
   split at a8
   ·rename_i al;simp only[di,bH] at a8;obtain⟨eE,oB,rfl⟩:=a8;simp only[bx] at h;obtain⟨v,ah,E,G,ad⟩:=ais (ty:=type) a3 hu aQ (by omega) (hρ _ _ oB) h;exact⟨.value v,v,ah,B,by simp[resolve,invoke,builtin,E],.inl rfl,G,ad⟩
   ·cases a8
  ·cases aA
 ·rename_i x y Z a5;simp only at Z a5;subst Z;obtain rfl:=two _ _ _ a5;simp only[ft,fD,di,bH] at aA;obtain⟨eE,J,y',ag,rfl⟩:=aA;obtain⟨aM,rfl⟩:=gx h rfl;obtain⟨z,E,G⟩:=WV (P:=P) argTypes type (hρ _ _ J) (hρ _ _ ag) aM;simp only[if_true] at E;exact⟨.value z,z,w,B,by simp[resolve,invoke,builtin,E],.inl rfl,.refl a3,G⟩
 ·rename_i x y Z a5;simp only at Z a5;subst Z;obtain rfl:=two _ _ _ a5;simp only[ft,fD,di,bH] at aA;obtain⟨eE,J,y',ag,rfl⟩:=aA;obtain⟨aM,rfl⟩:=gx h rfl;obtain⟨z,E,G⟩:=WV (P:=P) argTypes type (hρ _ _ J) (hρ _ _ ag) aM;simp only[df,if_false] at E;exact⟨.value z,z,w,B,by simp[resolve,invoke,builtin,E],.inl rfl,.refl a3,G⟩
 ·split at aA
  ·split at aA
   ·simp only[ft,fD,di,bH] at aA;obtain⟨_,_,_,_,_,_,rfl⟩:=aA
    cases h
   ·cases aA
  ·split at aA
   ·(repeat' split at aA)<;>simp only[ft,fD,di,bH] at aA
    all_goals
     obtain⟨_,_,rfl⟩:=aA
     cases h
   ·simp only[ft,fD,di,bH] at aA;obtain⟨_,_,rfl⟩:=aA
    cases h
 ·simp only[ft,fD,di,bH] at aA;obtain⟨_,_,_,_,rfl⟩:=aA
  cases h
 ·cases aA
def Qh {ρ:Operand->Value}{tm:Nat->I}{kb:Nat}{own:List Nat}{o:Oper}{m:fe}{r:I}{hY:Option (Key×Nat×List I)}(a3:dq A w B mem)
  (hρ:∀x y,cw x=some y->aN w (bg A B) B (aI tm y) (ρ x)) (Dk:∀c,ρ (.const c)=c) (aA:gj P kb own o.dst o.type o.op=some m) (h:bx mem tm m=some (r,hY)) :
  fL A w B ((execOp ρ o).run P w) (fA mem hY) r:=by
 obtain⟨dst,op,type,pos,after,guard⟩:=o;simp only at aA
 cases op<;>simp only[gj] at aA<;>simp only[execOp]
 case move x =>
  simp only[cO] at aA;obtain⟨y,ag,rfl⟩:=aA;obtain⟨aM,rfl⟩:=gx (x:=some (aI tm y)) h rfl
  cases aM;exact⟨_,_,w,B,rfl,.inl rfl,.refl a3,hρ _ _ ag⟩
 case assign x =>
  simp only[cO] at aA;obtain⟨y,ag,rfl⟩:=aA;obtain⟨aM,rfl⟩:=gx (x:=some (aI tm y)) h rfl
  cases aM;exact⟨_,_,w,B,rfl,.inl rfl,.refl a3,hρ _ _ ag⟩
 case pick c a b =>
  simp only[ft,fD,di,bH] at aA;obtain⟨c',Z,ck,a5,dA,U,rfl⟩:=aA;obtain⟨aM,rfl⟩:=gx h rfl;have:=fL.ic a3 (ahI (P:=P) (hρ _ _ Z) (hρ _ _ a5) (hρ _ _ U) aM)
  simpa [fA] using this
 case alloc e =>
  simp only[ft,fD,di,bH] at aA;obtain⟨d,ae,z,aQ,rfl⟩:=aA;simp only[bx,bH,ei] at h;obtain⟨rfl,rfl⟩:=h;exact fL.of (ah7 _ a3 aQ)
 case box e x =>
  simp only[ft,fD,di,bH] at aA;obtain⟨d,ae,y,ag,rfl⟩:=aA;simp only[bx] at h
  split at h
  ·rename_i Q;simp only[bH,ei] at h;obtain⟨rfl,rfl⟩:=h;exact fL.of (ah8 _ a3 (hρ _ _ ag) Q)
  ·cases h
 case build t cH =>
  split at aA
  ·rename_i db hu
   split at aA
   ·rename_i a5;simp only[ft,fD,di,bH] at aA;obtain⟨z,aQ,eK,yO,rfl⟩:=aA;obtain⟨aM,rfl⟩:=gx h rfl;simp only[iq,cO] at aM;obtain⟨cs,jK,rfl⟩:=aM;rw[vr];exact fL.ic a3 (aix hu aQ a5 yO hρ jK)
   ·cases aA
  ·rename_i n e hu;simp only[ft,fD,di,bH] at aA;obtain⟨s,R,z,aQ,eK,yO,rfl⟩:=aA;obtain⟨aM,rfl⟩:=gx h rfl;simp only[iq,cO] at aM;obtain⟨cs,jK,rfl⟩:=aM;rw[vr];exact fL.ic a3 (aiy hu aQ R yO hρ jK)
  ·cases aA
 case buildSlice t len cH =>
  split at aA
  ·rename_i e hu;simp only[ft,fD,di] at aA;obtain⟨z,aQ,s,R,eK,yO,d,ae,a8⟩:=aA
   split at a8
   ·rename_i Z;obtain⟨xh,al,af⟩:=Z;simp only[bH] at a8;subst a8;rw[vr]
    cases vt:own.contains d with
    |true =>
     rw[vt] at h;exact fL.of (aif _ a3 hu aQ R xh al af yO hρ h)
    |false =>
     rw[vt] at h;obtain⟨aM,rfl⟩:=gx h rfl;obtain⟨v,ah,E,G,ad⟩:=aie a3 hu aQ R xh al af yO hρ aM;exact fL.of ⟨v,ah,B,E,G,ad⟩
   ·cases a8
  ·cases aA
 case load t x =>
  simp only[ft,fD,di,bH] at aA;obtain⟨n,aE,g,aC,y,ag,rfl⟩:=aA;obtain⟨aM,rfl⟩:=gx h rfl;exact fL.ic a3 (ahH aE aC a3 (hρ _ _ ag) aM)
 case store t x v =>
  simp only[ft,fD,di,bH] at aA;obtain⟨n,aE,eE,J,oy,ai,rfl⟩:=aA;obtain⟨ah,E,G,rfl⟩:=aia a3 aE (hρ _ _ J) (hρ _ _ ai) h;exact⟨.skip,undef,ah,B,by simp[E],.inr ⟨rfl,rfl⟩,G,.no⟩
 case nilCheck x =>
  simp only[cO] at aA;obtain⟨y,ag,rfl⟩:=aA;obtain⟨aM,rfl⟩:=gx h rfl;obtain⟨⟨b,off,J⟩,M⟩:=ahV (hρ _ _ ag) aM;rw[J] at M ⊢;exact⟨_,_,w,B,rfl,.inl rfl,.refl a3,M⟩
 case binOp GP t x y pos2 =>
  unfold sx at aA
  split at aA
  ·split at aA
   ·rename_i eE y' J ag
    cases aA;obtain⟨aM,rfl⟩:=gx h rfl;exact fL.ic a3 (WL t x y (hρ _ _ J) (hρ _ _ ag) aM)
   ·cases aA
  ·split at aA
   ·rename_i eE y' J ag
    cases aA;obtain⟨aM,rfl⟩:=gx h rfl;exact fL.ic a3 (WL t x y (hρ _ _ J) (hρ _ _ ag) aM)
   ·cases aA
  ·rename_i hu
   split at aA
   ·rename_i eE y' J ag
    cases aA;obtain⟨aM,rfl⟩:=gx h rfl;exact fL.ic a3 (WM (neg:=false) t x y hu (hρ _ _ J) (hρ _ _ ag) aM)
   ·rename_i eE y' J ag
    cases aA;obtain⟨aM,rfl⟩:=gx h rfl;exact fL.ic a3 (WM (neg:=true) t x y hu (hρ _ _ J) (hρ _ _ ag) aM)
   ·cases aA
  ·rename_i db hu
   split at aA
   ·unfold sw at aA
    split at aA
    ·rename_i Z
     split at aA
     ·rename_i fQ eE y' Q J ag
      cases aA;obtain⟨aM,rfl⟩:=gx h rfl;exact fL.ic a3 (WS (neg:=false) t x y db hu Z.1 Z.2 Q (hρ _ _ J) (hρ _ _ ag) aM)
     ·cases aA
    ·cases aA
   ·unfold sw at aA
    split at aA
    ·rename_i Z
     split at aA
     ·rename_i fQ eE y' Q J ag
      cases aA;obtain⟨aM,rfl⟩:=gx h rfl;exact fL.ic a3 (WS (neg:=true) t x y db hu Z.1 Z.2 Q (hρ _ _ J) (hρ _ _ ag) aM)
     ·cases aA
    ·cases aA
   ·cases aA
  ·split at aA
   ·split at aA
    ·simp only[cO] at aA;obtain⟨_,_,rfl⟩:=aA
     cases h
    ·simp only[cO] at aA;obtain⟨_,_,rfl⟩:=aA
     cases h
    ·cases aA
   ·cases aA
  ·rename_i e hu
   split at aA
   ·rename_i aE
    have ag:ρ y=.pointer none:=by
     unfold K1 at aE
     split at aE
     ·exact Dk _
     ·contradiction
     ·cases aE
    split at aA
    ·simp only[cO] at aA;obtain⟨eE,J,rfl⟩:=aA;obtain⟨aM,rfl⟩:=gx h rfl;exact fL.ic a3 (Xi (neg:=false) hu ag (hρ _ _ J) aM)
    ·simp only[cO] at aA;obtain⟨eE,J,rfl⟩:=aA;obtain⟨aM,rfl⟩:=gx h rfl;exact fL.ic a3 (Xi (neg:=true) hu ag (hρ _ _ J) aM)
    ·cases aA
   ·cases aA
  ·rename_i ms hu
   split at aA
   ·rename_i aE
    obtain rfl:y=.const .nilIface:=by
     unfold K1 at aE
     split at aE
     ·contradiction
     ·rfl
     ·cases aE
    rw[Dk]
    split at aA
    ·simp only[cO] at aA;obtain⟨eE,J,rfl⟩:=aA;obtain⟨aM,rfl⟩:=gx h rfl;exact fL.ic a3 (Xj (neg:=false) hu rfl (hρ _ _ J) aM)
    ·simp only[cO] at aA;obtain⟨eE,J,rfl⟩:=aA;obtain⟨aM,rfl⟩:=gx h rfl;exact fL.ic a3 (Xj (neg:=true) hu rfl (hρ _ _ J) aM)
    ·cases aA
   ·cases aA
  ·cases aA
 case unOp uop t x =>
  simp only[cO] at aA;obtain⟨y,ag,rfl⟩:=aA;obtain⟨aM,rfl⟩:=gx h rfl;exact fL.ic a3 (ahJ (hρ _ _ ag) aM)
 case convert s t x =>
  split at aA
  ·rename_i fQ k R bC;simp only[cO] at aA;obtain⟨y,ag,rfl⟩:=aA;obtain⟨aM,rfl⟩:=gx h rfl;exact fL.ic a3 (ahK s t fQ R bC (hρ _ _ ag) aM)
  ·cases aA
 case makeFunc fn first cZ =>
  cases fn<;>simp only[reduceCtorEq] at aA
  split at aA
  ·rename_i dC;simp only[ft,fD,di,bH] at aA;obtain⟨cs,jK,rfl⟩:=aA;obtain⟨aM,rfl⟩:=gx (x:=some (.dK _ (cs.map (aI tm)))) h rfl
   cases aM;have aiK:first=#[]:=Array.eq_empty_of_size_eq_zero dC
   subst aiK;have af:=py hρ jK;exact fL.ic a3 ⟨_,by rw[vr cZ,Array.map_empty];rfl,.dK af.1 af.2⟩
  ·cases aA
 case makeSlice t l c =>
  split at aA
  ·rename_i e he;simp only[ft,fD,di] at aA;obtain⟨z,aQ,s,R,b,U,d,ae,a8⟩:=aA
   split at a8
   ·rename_i Z;simp only[di,bH] at a8;obtain⟨mz,af,c',tG,rfl⟩:=a8;simp only[bx] at h;obtain⟨pA,sE,E,G,ad⟩:=Xp h;obtain⟨rfl,al⟩:=Z;exact fL.of (ah9 _ a3 he aQ R U E G (hρ _ _ af) (hρ _ _ tG) al ad)
   ·cases a8
  ·cases aA
 case slice t x bP O jb =>
  split at aA
  ·rename_i e hu;simp only[ft,fD,di] at aA;obtain⟨s,R,a8⟩:=aA
   split at a8
   ·simp only[di,bH] at a8;obtain⟨y,ag,Xs,fZ,vn,jf,GQ,gk,rfl⟩:=a8;have lu:=AG hρ fZ;have ku:=AG hρ jf;have Dc:=AG hρ gk
    cases GQ with
    |none =>
     cases jb with
     |some v=>simp[q5,cO] at gk
     |none =>
      obtain⟨aM,rfl⟩:=gx h rfl;obtain⟨l,af,aM⟩:=nY aM;obtain⟨len,hlen,aM⟩:=nY aM;obtain⟨a8,AH,aM⟩:=nY aM;exact fL.ic a3 (ahZ hu R af hlen AH lu ku (hρ _ _ ag) aM)
    |some GQ =>
     cases vn with
     |none=>cases h
     |some vn =>
      cases O with
      |none=>simp[pv] at ku
      |some O =>
       cases jb with
       |none=>simp[pv] at Dc
       |some jb =>
        obtain⟨aM,rfl⟩:=gx h rfl;obtain⟨l,af,aM⟩:=nY aM;obtain⟨a8,AH,aM⟩:=nY aM;obtain⟨m,hm,aM⟩:=nY aM;exact fL.ic a3 (ah2 hu R af AH hm lu ku Dc (hρ _ _ ag) aM)
   ·cases a8
  ·rename_i n e hu;simp only[ft,fD,di] at aA;obtain⟨s,R,a8⟩:=aA
   split at a8
   ·rename_i Z;simp only[di,bH] at a8;obtain⟨y,ag,Xs,fZ,vn,jf,GQ,gk,rfl⟩:=a8;have lu:=AG hρ fZ;have ku:=AG hρ jf
    cases GQ with
    |none =>
     cases jb with
     |some v=>simp[q5,cO] at gk
     |none =>
      obtain⟨aM,rfl⟩:=gx h rfl;obtain⟨l,af,aM⟩:=nY aM;obtain⟨a8,AH,aM⟩:=nY aM;exact fL.ic a3 (aiu a3 hu R Z.2 af AH lu ku (hρ _ _ ag) aM)
    |some GQ=>cases h
   ·cases a8
  ·rename_i hu
   split at aA
   ·rename_i gk;simp only[ft,fD,di,bH] at aA;obtain⟨y,ag,Xs,fZ,vn,jf,rfl⟩:=aA;have lu:=AG hρ fZ;have ku:=AG hρ jf
    cases jb with
    |some v=>cases gk
    |none =>
     obtain⟨aM,rfl⟩:=gx h rfl;obtain⟨l,af,aM⟩:=nY aM;obtain⟨len,hlen,aM⟩:=nY aM;obtain⟨a8,AH,aM⟩:=nY aM;exact fL.ic a3 (ah3 hu af hlen AH lu ku (hρ _ _ ag) aM)
   ·cases aA
  ·cases aA
 case fieldAddr t x f =>
  split at aA
  ·rename_i db hu;simp only[ft,fD,di] at aA;obtain⟨⟨o,s⟩,aD,a8⟩:=aA
   split at a8
   ·rename_i al;simp only[di,bH] at a8;obtain⟨y,ag,rfl⟩:=a8;obtain⟨fd,E,G,ad⟩:=Xq aD;obtain⟨aM,rfl⟩:=gx h rfl;exact fL.ic a3 (ahL t f db fd s hu E ad al G (hρ _ _ ag) aM)
   ·cases a8
  ·cases aA
 case field t x f =>
  split at aA
  ·rename_i db hu;simp only[ft,fD,di,bH] at aA;obtain⟨fd,Xt,⟨o,s⟩,aD,g,aC,y,ag,rfl⟩:=aA;obtain⟨avy,E,G,ad⟩:=Xq aD;rw[Xt] at E
   cases E;obtain⟨aM,rfl⟩:=gx h rfl;exact fL.ic a3 (ahN t f db fd hu Xt ad aC G (hρ _ _ ag) aM)
  ·cases aA
 case indexAddr t x i =>
  split at aA
  ·rename_i e hu;simp only[ft,fD,di] at aA;obtain⟨s,R,a8⟩:=aA
   split at a8
   ·simp only[di,bH] at a8;obtain⟨y,ag,j,aa,rfl⟩:=a8;obtain⟨aM,rfl⟩:=gx h rfl;obtain⟨n,aE,aM⟩:=nY aM;obtain⟨k,Q⟩:=Au aE (hρ _ _ aa);rw[Q];exact fL.ic a3 (ahP t e hu R (hρ _ _ ag) aM)
   ·cases a8
  ·rename_i len e hu;simp only[ft,fD,di] at aA;obtain⟨s,R,a8⟩:=aA
   split at a8
   ·simp only[di,bH] at a8;obtain⟨y,ag,j,aa,rfl⟩:=a8;obtain⟨aM,rfl⟩:=gx h rfl;obtain⟨n,aE,aM⟩:=nY aM;obtain⟨k,Q⟩:=Au aE (hρ _ _ aa);rw[Q];exact fL.ic a3 (ahQ t e hu R (hρ _ _ ag) aM)
   ·cases a8
  ·cases aA
 case index t x i =>
  split at aA
  ·rename_i hu;simp only[ft,fD,di,bH] at aA;obtain⟨y,ag,j,aa,rfl⟩:=aA;obtain⟨aM,rfl⟩:=gx h rfl;obtain⟨n,aE,aM⟩:=nY aM;obtain⟨k,Q⟩:=Au aE (hρ _ _ aa);rw[Q];exact fL.ic a3 (ahR t hu (hρ _ _ ag) aM)
  ·rename_i n e hu;simp only[ft,fD,di,bH] at aA;obtain⟨s,R,g,aC,y,ag,j,aa,rfl⟩:=aA;obtain⟨aM,rfl⟩:=gx h rfl;obtain⟨n,aE,aM⟩:=nY aM;obtain⟨k,Q⟩:=Au aE (hρ _ _ aa);rw[Q];exact fL.ic a3 (aiC hu R aC (hρ _ _ ag) aM)
  ·cases aA
 case makeInterface t x =>
  split at aA
  ·cases aA
  ·rename_i aU aE hu;simp only[cO] at aA;obtain⟨y,ag,rfl⟩:=aA;obtain⟨aM,rfl⟩:=gx h rfl;exact fL.ic a3 (aiA hu aE (hρ _ _ ag) aM)
  ·cases aA
 case typeAssert x Xh t ok =>
  split at aA
  ·cases aA
  ·rename_i aU aE hu;simp only[ft,fD,di,bH] at aA;obtain⟨z,aQ,y,ag,rfl⟩:=aA;obtain⟨aM,rfl⟩:=gx h rfl;exact fL.ic a3 (aiB hu aE aQ (hρ _ _ ag) aM)
  ·cases aA
 case makeMap t rs =>
  cases rs with
  |some _=>cases aA
  |none =>
   simp only at aA
   split at aA
   ·simp only[ft,fD,di,bH] at aA;obtain⟨d,ae,rfl⟩:=aA;simp only[bx,bH,ei] at h;obtain⟨rfl,rfl⟩:=h;exact fL.of (aiD _ a3)
   ·cases aA
 case lookup t x i ok =>
  split at aA
  ·rename_i k e hu
   split at aA
   ·rename_i Q;simp only[ft,fD,di,bH] at aA;obtain⟨z,aQ,y,ag,j,aa,rfl⟩:=aA;obtain⟨aM,rfl⟩:=gx h rfl;exact fL.ic a3 (aiE a3 hu Q aQ (hρ _ _ ag) (hρ _ _ aa) aM)
   ·cases aA
  ·cases aA
 case mapUpdate t x i v =>
  split at aA
  ·rename_i k e hu
   split at aA
   ·rename_i Q;simp only[ft,fD,di,bH] at aA;obtain⟨eE,J,a0,O,oy,ai,rfl⟩:=aA;obtain⟨ah,E,G,rfl⟩:=aiF a3 hu Q (hρ _ _ J) (hρ _ _ O) (hρ _ _ ai) h;exact⟨.skip,undef,ah,B,by simp[E],.inr ⟨rfl,rfl⟩,G,.no⟩
   ·cases aA
  ·cases aA
 case extract x i =>
  simp only[cO] at aA;obtain⟨y,ag,rfl⟩:=aA;obtain⟨aM,rfl⟩:=gx h rfl;exact fL.ic a3 (ahS (hρ _ _ ag) aM)
 case call c =>
  exact aiI a3 hρ aA h
 all_goals cases aA
end Go.Mini
namespace Go.Mini
open Go
inductive hI where
 |code (c:eh)
 |inBlock (id:Nat)
def cg (T:bl)(K:eZ->a1->Prop):List hI->eZ->a1->Prop
 | [],e,st=>K e st
 |.code c::k,.normal,st=>wp T c (cg T K k) st
 |.code _::k,.exit id,st=>cg T K k (.exit id) st
 |.code _::k,.ret,st=>cg T K k .ret st
 |.inBlock _::k,.normal,st=>cg T K k .normal st
 |.inBlock j::k,.exit id,st=>if id=j then cg T K k .normal st else cg T K k (.exit id) st
 |.inBlock _::k,.ret,st=>cg T K k .ret st
section
variable {T:bl} {K:eZ->a1->Prop} {k:List hI} {st:a1}
def aiL (c:eh):(λe bX=>match e with
  |.normal=>wp T c (cg T K k) bX
  |e=>cg T K k e bX)=cg T K (.code c::k):=by
 funext e bX
 cases e<;>rfl
def aiM (id:Nat):(λe bX=>match e with
  |.exit j=>if j=id then cg T K k .normal bX else cg T K k (.exit j) bX
  |e=>cg T K k e bX)=cg T K (.inBlock id::k):=by
 funext e bX
 cases e<;>rfl
@[go_sem] def aiN (e:eZ):cg T K [] e st=K e st:=by cases e<;>rfl
@[go_sem] def avz (c:eh):cg T K (.code c::k) .normal st=wp T c (cg T K k) st:=bj
@[go_sem] def avA (c:eh)(id:Nat):cg T K (.code c::k) (.exit id) st=cg T K k (.exit id) st:=bj
@[go_sem] def avB (c:eh):cg T K (.code c::k) .ret st=cg T K k .ret st:=bj
@[go_sem] def avC (id:Nat):cg T K (.inBlock id::k) .normal st=cg T K k .normal st:=bj
@[go_sem] def avD (id j:Nat):cg T K (.inBlock j::k) (.exit id) st=if id=j then cg T K k .normal st else cg T K k (.exit id) st:=bj
@[go_sem] def avE (id:Nat):cg T K (.inBlock id::k) .ret st=cg T K k .ret st:=bj
def yU {c:eh}(h:wp T c (cg T K []) st):wp T c K st:=by
 have:cg T K []=K:=by funext e st;cases e<;>rfl
 rwa [this] at h
@[go_sem] def wp_seq (a b:eh):wp T (.seq a b) (cg T K k) st=wp T a (cg T K (.code b::k)) st:=by
 rw[<-aiL];rfl
@[go_sem] def wp_skip:wp T .skip (cg T K k) st=cg T K k .normal st:=bj
@[go_sem] def wp_ret:wp T .ret (cg T K k) st=cg T K k .ret st:=bj
@[go_sem] def wp_exit (id:Nat):wp T (.exit id) (cg T K k) st=cg T K k (.exit id) st:=bj
@[go_sem] def wp_block (id:Nat)(c:eh):wp T (.block id c) (cg T K k) st=wp T c (cg T K (.inBlock id::k)) st:=by
 rw[<-aiM];rfl
def oC (T:bl)(K:eZ->a1->Prop)(k:List hI)(m:I)(a b:eh)(st:a1):Prop :=
 match m with
 |.L (.bool t)=>if t=true then wp T a (cg T K k) st else wp T b (cg T K k) st
 |_=>False
@[go_sem] def wp_cond (c:bm)(a b:eh):wp T (.cond c a b) (cg T K k) st=oC T K k (aI st.tm c) a b st:=bj
@[go_sem] def aiO (a b:eh):oC T K k (.L (.bool true)) a b st=wp T a (cg T K k) st:=bj
@[go_sem] def aiP (a b:eh):oC T K k (.L (.bool false)) a b st=wp T b (cg T K k) st:=bj
def Dl (T:bl)(K:eZ->a1->Prop)(k:List hI)(l:List bn)(st:a1):Prop:=vg T (cg T K k .normal) l st
@[go_sem] def wp_ops (l:List bn):wp T (.ops l) (cg T K k) st=Dl T K k l st:=bj
@[go_sem] def avF:Dl T K k [] st=cg T K k .normal st:=bj
def pB (T:bl)(K:eZ->a1->Prop)(k:List hI)(g:Option Bool)(i:bn)(r:List bn)(st:a1):Prop :=
 match g with
 |none=>False
 |some g=>if g=true then fB T (vg T (cg T K k .normal) r) i st else Dl T K k r ⟨put st.tm i.dst .no,st.mem⟩
@[go_sem] def avG (i:bn)(r:List bn):Dl T K k (i::r) st=pB T K k (gv st.tm i.g) i r st:=bj
@[go_sem] def avH (i:bn)(r:List bn):pB T K k (some true) i r st=fB T (Dl T K k r) i st:=bj
@[go_sem] def avI (i:bn)(r:List bn):pB T K k (some false) i r st=Dl T K k r ⟨put st.tm i.dst .no,st.mem⟩:=bj
def yV (T:bl)(K:eZ->a1->Prop)(k:List hI)(n:Nat)(l:List bn)(c:List (List Nat))(rec:Rec)(st:a1):Prop:=ss T (cg T K k .normal) n l c rec st
@[go_sem] def avJ (l:List bn)(c:List (List Nat)):wp T (.ov l c) (cg T K k) st=yV T K k 0 l c (λ_=>none) st:=bj
@[go_sem] def avK (n:Nat)(c:List (List Nat))(rec:Rec):yV T K k n [] c rec st=cg T K k .normal st:=bj
def pC (T:bl)(K:eZ->a1->Prop)(k:List hI)(n:Nat)(g:Option Bool)(i:bn)(r:List bn)(c:List (List Nat))(rec:Rec)(st:a1):Prop :=
 match g with
 |none=>False
 |some g=>if g=true then (match ek T st.mem st.tm i.op with
    |some (m,e)=>q4 rec (fC i.op,cb st.tm i.op) (c.headD [])=true/\yV T K k (n+1) r c.tail (ir rec n (fC i.op,cb st.tm i.op)) ⟨put st.tm i.dst m,fA st.mem e⟩
    |none=>False) else yV T K k (n+1) r c.tail rec ⟨put st.tm i.dst .no,st.mem⟩
@[go_sem] def avL (n:Nat)(i:bn)(r:List bn)(c:List (List Nat))(rec:Rec):yV T K k n (i::r) c rec st=pC T K k n (gv st.tm i.g) i r c rec st:=bj
def Xu (T:bl)(K:eZ->a1->Prop)(k:List hI)(n:Nat)(x:Option (I×Option (Key×Nat×List I)))(i:bn)(r:List bn)(c:List (List Nat))(rec:Rec)(st:a1):Prop :=
 match x with
 |some (m,e)=>q4 rec (fC i.op,cb st.tm i.op) (c.headD [])=true/\yV T K k (n+1) r c.tail (ir rec n (fC i.op,cb st.tm i.op)) ⟨put st.tm i.dst m,fA st.mem e⟩
 |none=>False
@[go_sem] def avM (n:Nat)(i:bn)(r:List bn)(c:List (List Nat))(rec:Rec):pC T K k n (some true) i r c rec st=Xu T K k n (ek T st.mem st.tm i.op) i r c rec st:=bj
@[go_sem] def avN (n:Nat)(i:bn)(r:List bn)(c:List (List Nat))(rec:Rec):pC T K k n (some false) i r c rec st=yV T K k (n+1) r c.tail rec ⟨put st.tm i.dst .no,st.mem⟩:=bj
@[go_sem] def avO (n:Nat)(m:I)(e:Option (Key×Nat×List I))(i:bn)(r:List bn)(c:List (List Nat))(rec:Rec):Xu T K k n (some (m,e)) i r c rec st =
 (q4 rec (fC i.op,cb st.tm i.op) (c.headD [])=true/\yV T K k (n+1) r c.tail (ir rec n (fC i.op,cb st.tm i.op)) ⟨put st.tm i.dst m,fA st.mem e⟩):=bj
end
section
variable {T:bl} {K:a1->Prop} {st:a1} {tm:Nat->I} {mem:Mem}
def wpS (K:a1->Prop)(x:Option (I×Option (Key×Nat×List I)))(d:Option Nat)(st:a1):Prop :=
 match x with
 |some (m,e)=>K ⟨put st.tm d m,fA st.mem e⟩
 |none=>False
@[go_sem] def avP (m:I)(e:Option (Key×Nat×List I))(d:Option Nat):wpS K (some (m,e)) d st=K ⟨put st.tm d m,fA st.mem e⟩:=bj
variable (d:Option Nat) (g:Option (Nat×Bool))
@[go_sem] def avQ (x:bm):fB T K ⟨d,g,.hG x⟩ st=K ⟨put st.tm d (aI st.tm x),st.mem⟩:=bj
@[go_sem] def avR (c a b:bm):fB T K ⟨d,g,.pick c a b⟩ st=wpS K (bx st.mem st.tm (.pick c a b)) d st:=bj
@[go_sem] def avS (k:Key)(z:List I):fB T K ⟨d,g,.alloc k z⟩ st=K ⟨put st.tm d (.ptr k (bw st.mem k) 0),aV st.mem k (bw st.mem k) z⟩:=bj
@[go_sem] def avT (k:Key)(x:bm):fB T K ⟨d,g,.box k x⟩ st=wpS K (bx st.mem st.tm (.box k x)) d st:=bj
@[go_sem] def avU (z:List I)(cH:List (Nat×Nat×bm)):fB T K ⟨d,g,.build z cH⟩ st=wpS K (bx st.mem st.tm (.build z cH)) d st:=bj
@[go_sem] def avV (k:Key)(o:Bool)(z:List I)(sz len:Nat)(cH:List (Nat×Nat×bm)):fB T K ⟨d,g,.eg k o z sz len cH⟩ st=wpS K (bx st.mem st.tm (.eg k o z sz len cH)) d st:=bj
@[go_sem] def avW (n:Nat)(bF:Bool)(x:bm):fB T K ⟨d,g,.load n bF x⟩ st=wpS K (bx st.mem st.tm (.load n bF x)) d st:=bj
@[go_sem] def avX (n:Nat)(x v:bm):fB T K ⟨d,g,.store n x v⟩ st=wpS K (bx st.mem st.tm (.store n x v)) d st:=bj
@[go_sem] def avY (op:BinOp)(x y:bm):fB T K ⟨d,g,.bin op x y⟩ st=wpS K (bx st.mem st.tm (.bin op x y)) d st:=bj
@[go_sem] def avZ (b:Bool)(n:List Nat)(x y:bm):fB T K ⟨d,g,.eqs b n x y⟩ st=wpS K (bx st.mem st.tm (.eqs b n x y)) d st:=bj
@[go_sem] def av0 (b:Bool)(x y:bm):fB T K ⟨d,g,.beq b x y⟩ st=wpS K (bx st.mem st.tm (.beq b x y)) d st:=bj
@[go_sem] def av1 (op:UnOp)(x:bm):fB T K ⟨d,g,.un op x⟩ st=wpS K (bx st.mem st.tm (.un op x)) d st:=bj
@[go_sem] def av2 (k:IntKind)(x:bm):fB T K ⟨d,g,.conv k x⟩ st=wpS K (bx st.mem st.tm (.conv k x)) d st:=bj
@[go_sem] def av3 (x:bm):fB T K ⟨d,g,.tn x⟩ st=wpS K (bx st.mem st.tm (.tn x)) d st:=bj
@[go_sem] def av4 (k:Key)(z:List I)(b:Nat)(x y:bm):fB T K ⟨d,g,.ll k z b x y⟩ st=wpS K (bx st.mem st.tm (.ll k z b x y)) d st:=bj
@[go_sem] def av5 (o:Nat)(x:bm):fB T K ⟨d,g,.sm o x⟩ st=wpS K (bx st.mem st.tm (.sm o x)) d st:=bj
@[go_sem] def av6 (o n:Nat)(bF:Bool)(x:bm):fB T K ⟨d,g,.w0 o n bF x⟩ st=wpS K (bx st.mem st.tm (.w0 o n bF x)) d st:=bj
@[go_sem] def av7 (s:Nat)(x i:bm):fB T K ⟨d,g,.tp s x i⟩ st=wpS K (bx st.mem st.tm (.tp s x i)) d st:=bj
@[go_sem] def av8 (n s:Nat)(x i:bm):fB T K ⟨d,g,.Ao n s x i⟩ st=wpS K (bx st.mem st.tm (.Ao n s x i)) d st:=bj
@[go_sem] def av9 (x i:bm):fB T K ⟨d,g,.idxs x i⟩ st=wpS K (bx st.mem st.tm (.idxs x i)) d st:=bj
@[go_sem] def awa (s:Nat)(x:bm)(a b c:Option bm):fB T K ⟨d,g,.qa s x a b c⟩ st=wpS K (bx st.mem st.tm (.qa s x a b c)) d st:=bj
@[go_sem] def awb (n s:Nat)(x:bm)(a b c:Option bm):fB T K ⟨d,g,.sn n s x a b c⟩ st=wpS K (bx st.mem st.tm (.sn n s x a b c)) d st:=bj
@[go_sem] def awc (x:bm)(a b:Option bm):fB T K ⟨d,g,.Ap x a b⟩ st=wpS K (bx st.mem st.tm (.Ap x a b)) d st:=bj
@[go_sem] def awd (i:Nat)(x:bm):fB T K ⟨d,g,.ext i x⟩ st=wpS K (bx st.mem st.tm (.ext i x)) d st:=bj
@[go_sem] def awe (x:bm):fB T K ⟨d,g,.len x⟩ st=wpS K (bx st.mem st.tm (.len x)) d st:=bj
@[go_sem] def awf (x:bm):fB T K ⟨d,g,.lens x⟩ st=wpS K (bx st.mem st.tm (.lens x)) d st:=bj
@[go_sem] def awg (k:Key)(z:List I)(b:Nat)(s x:bm):fB T K ⟨d,g,.app k z b s x⟩ st=wpS K (bx st.mem st.tm (.app k z b s x)) d st:=bj
@[go_sem] def awh (z:List I)(x:bm):fB T K ⟨d,g,.so z x⟩ st=wpS K (bx st.mem st.tm (.so z x)) d st:=bj
@[go_sem] def awi (s:Nat)(x y:bm):fB T K ⟨d,g,.qb s x y⟩ st=wpS K (bx st.mem st.tm (.qb s x y)) d st:=bj
@[go_sem] def awj (b:Bool)(x y:bm):fB T K ⟨d,g,.kR b x y⟩ st=wpS K (bx st.mem st.tm (.kR b x y)) d st:=bj
@[go_sem] def awk (f:FuncId)(l:List bm):fB T K ⟨d,g,.vb f l⟩ st=wpS K (bx st.mem st.tm (.vb f l)) d st:=bj
def tH (K:a1->Prop)(x:Option fR)(d:Option Nat)(st:a1):Prop :=
 match x with
 |some (.same r)=>K ⟨put st.tm d (.L r),st.mem⟩
 |some (.own _ es)=>K ⟨put st.tm d (.L (.ay es)),st.mem⟩
 |some (.rel bS)=>∀r mem',bS r mem'->K ⟨put st.tm d r,mem'⟩
 |some (.eM r k g i c)=>K ⟨put st.tm d (.L r),aV st.mem k g ((pn st.mem k).set i c)⟩
 |some (.w5 r k)=>K ⟨put st.tm d (.L r),aV st.mem k (bw st.mem k) []⟩
 |none=>False
@[go_sem] def awl (f:FuncId)(l:List bm):fB T K ⟨d,g,.call f l⟩ st=tH K (T f (l.map (aI st.tm)) st.mem) d st:=bj
@[go_sem] def awm (r:Data)(k:Key)(g i:Nat)(c:I):tH K (some (.eM r k g i c)) d st=K ⟨put st.tm d (.L r),aV st.mem k g ((pn st.mem k).set i c)⟩:=bj
@[go_sem] def awn (r:Data)(k:Key):tH K (some (.w5 r k)) d st=K ⟨put st.tm d (.L r),aV st.mem k (bw st.mem k) []⟩:=bj
@[go_sem] def awo (r:Data):tH K (some (.same r)) d st=K ⟨put st.tm d (.L r),st.mem⟩:=bj
@[go_sem] def awp (s:Nat)(es:List (List Data)):tH K (some (.own s es)) d st=K ⟨put st.tm d (.L (.ay es)),st.mem⟩:=bj
@[go_sem] def aiQ (bS:I->Mem->Prop):tH K (some (.rel bS)) d st=∀r mem',bS r mem'->K ⟨put st.tm d r,mem'⟩:=bj
def Qi (T:bl)(K:a1->Prop)(m:I)(args:List I)(d:Option Nat)(st:a1):Prop :=
 match m with
 |.dK g cZ=>tH K (T g (args++cZ) st.mem) d st
 |.L (.fn g ds)=>tH K (T g (args++ds.map .L) st.mem) d st
 |_=>False
@[go_sem] def awq (f:bm)(l:List bm):fB T K ⟨d,g,.jH f l⟩ st=Qi T K (aI st.tm f) (l.map (aI st.tm)) d st:=bj
@[go_sem] def awr (f:FuncId)(cZ args:List I):Qi T K (.dK f cZ) args d st=tH K (T f (args++cZ) st.mem) d st:=bj
@[go_sem] def aws (f:FuncId)(ds:List Data)(args:List I):Qi T K (.L (.fn f ds)) args d st=tH K (T f (args++ds.map .L) st.mem) d st:=bj
def Qj (K:a1->Prop)(x:Option fR)(k:Key)(sz:Nat)(d:Option Nat)(st:a1):Prop :=
 match x with
 |some (.own dG es)=>if dG=sz then K ⟨put st.tm d (.ref k (bw st.mem k) sz 0 (D es)),aV st.mem k (bw st.mem k) (es.flatten.map .L)⟩ else False
 |_=>False
@[go_sem] def awt (k:Key)(sz:Nat)(f:FuncId)(l:List bm):fB T K ⟨d,g,.ln k sz f l⟩ st=Qj K (T f (l.map (aI st.tm)) st.mem) k sz d st:=bj
@[go_sem] def awu (k:Key)(sz:Nat)(es:List (List Data)):Qj K (some (.own sz es)) k sz d st=K ⟨put st.tm d (.ref k (bw st.mem k) sz 0 (D es)),aV st.mem k (bw st.mem k) (es.flatten.map .L)⟩:=by simp[Qj]
def Xv (K:a1->Prop)(neg:Bool)(x:Option Bool)(d:Option Nat)(st:a1):Prop :=
 match x with
 |some full=>∀b:Bool,(full=true->b=false)->K ⟨put st.tm d (.L (.bool (neg != b))),st.mem⟩
 |none=>False
@[go_sem] def awv (neg:Bool)(x:bm):fB T K ⟨d,g,.kQ neg x⟩ st=Xv K neg (w6 (aI st.tm x)) d st:=bj
@[go_sem] def aww (neg full:Bool):Xv K neg (some full) d st=∀b:Bool,(full=true->b=false)->K ⟨put st.tm d (.L (.bool (neg != b))),st.mem⟩:=bj
end
section
variable {tm:Nat->I} {mem:Mem}
@[go_sem] def awx (s:Nat):aI tm (.t s)=tm s:=bj
@[go_sem] def awy (m:I):aI tm (.c m)=m:=bj
@[go_sem] def awz (s:Nat)(m:I):put tm (some s) m=eM tm s m:=bj
@[go_sem] def awA (m:I):put tm none m=tm:=bj
@[go_sem] def awB (s:Nat)(m:I)(t:Nat):eM tm s m t=if t=s then m else tm t:=bj
@[go_sem] def awC (k:Key)(g:Nat)(cs:List I)(j:Key):aV mem k g cs j=if j=k then some (g,cs) else mem j:=bj
@[go_sem] def awD:fA mem none=mem:=bj
@[go_sem] def awE (k:Key)(g:Nat)(cs:List I):fA mem (some (k,g,cs))=aV mem k g cs:=bj
def j8:Option (Nat×List I)->Nat
 |none=>0
 |some (g,_)=>g+1
@[go_sem] def awF (k:Key):bw mem k=j8 (mem k):=by unfold bw j8;rfl
@[go_sem] def awG:j8 none=0:=bj
@[go_sem] def awH (g:Nat)(cs:List I):j8 (some (g,cs))=g+1:=bj
@[go_sem] def awI (k:Key):emp k=none:=bj
@[go_sem] def awJ:gv tm none=some true:=bj
def Li (m:I)(b:Bool):Option Bool :=
 match m with
 |.L (.bool t)=>some (t==b)
 |.no=>some false
 |_=>none
@[go_sem] def awK (s:Nat)(b:Bool):gv tm (some (s,b))=Li (tm s) b:=bj
@[go_sem] def awL (b:Bool):Li .no b=some false:=bj
variable (op:fe)
@[go_sem] def awM (m:I):hH (some m)=some (m,none):=bj
@[go_sem] def awN (x:bm):bx mem tm (.hG x)=some (aI tm x,none):=bj
@[go_sem] def awO (c a b:bm):bx mem tm (.pick c a b)=hH (CW (aI tm c) (aI tm a) (aI tm b)):=bj
@[go_sem] def awP (a b:I):CW (.L (.bool true)) a b=some a:=bj
@[go_sem] def awQ (a b:I):CW (.L (.bool false)) a b=some b:=bj
@[go_sem] def awR (k:Key)(z:List I):bx mem tm (.alloc k z)=some (.ptr k (bw mem k) 0,some (k,bw mem k,z)):=bj
@[go_sem] def awS (k:Key)(x:bm):bx mem tm (.box k x)=if (aI tm x).known=true then some (.ptr k (bw mem k) 0,some (k,bw mem k,(aI tm x).cells)) else none:=bj
@[go_sem] def awT (z:List I)(cH:List (Nat×Nat×bm)):bx mem tm (.build z cH)=hH ((jy (aI tm) z cH).map .agg):=bj
@[go_sem] def awU (k:Key)(z:List I)(sz len:Nat)(cH:List (Nat×Nat×bm)):bx mem tm (.eg k false z sz len cH)=hH (F9 z sz len (jy (aI tm) z cH)):=bj
@[go_sem] def awV (k:Key)(z:List I)(sz len:Nat)(cH:List (Nat×Nat×bm)):bx mem tm (.eg k true z sz len cH)=CZ k (bw mem k) z sz len (jy (aI tm) z cH):=bj
@[go_sem] def awW (n:Nat)(bF:Bool)(x:bm):bx mem tm (.load n bF x)=hH (ib mem n bF (aI tm x)):=bj
@[go_sem] def awX (n:Nat)(x v:bm):bx mem tm (.store n x v)=ve mem n (aI tm x) (aI tm v).cells:=bj
@[go_sem] def awY (b:BinOp)(x y:bm):bx mem tm (.bin b x y)=hH (CU b (aI tm x) (aI tm y)):=bj
@[go_sem] def awZ (neg:Bool)(x y:bm):bx mem tm (.beq neg x y)=hH (CV neg (aI tm x) (aI tm y)):=bj
@[go_sem] def aw0 (neg:Bool)(n:List Nat)(x y:bm):bx mem tm (.eqs neg n x y)=hH (Ga neg n (aI tm x) (aI tm y)):=bj
@[go_sem] def aw1 (u:UnOp)(x:bm):bx mem tm (.un u x)=hH (F8 u (aI tm x)):=bj
@[go_sem] def aw2 (k:IntKind)(x:bm):bx mem tm (.conv k x)=hH (Gb k (aI tm x)):=bj
@[go_sem] def aw3 (x:bm):bx mem tm (.tn x)=hH (Gc (aI tm x)):=bj
@[go_sem] def aw4 (k:Key)(z:List I)(b:Nat)(x y:bm):bx mem tm (.ll k z b x y)=Gm (idx (aI tm x)) (idx (aI tm y)) (C0 k (bw mem k) z b):=bj
@[go_sem] def aw5 (o:Nat)(x:bm):bx mem tm (.sm o x)=hH (CX o (aI tm x)):=bj
@[go_sem] def aw6 (o n:Nat)(bF:Bool)(x:bm):bx mem tm (.w0 o n bF x)=hH (CY o n bF (aI tm x)):=bj
@[go_sem] def aw7 (s:Nat)(x i:bm):bx mem tm (.tp s x i)=hH (gW (idx (aI tm i)) λn=>Gd s n (aI tm x)):=bj
@[go_sem] def aw8 (n s:Nat)(x i:bm):bx mem tm (.Ao n s x i)=hH (gW (idx (aI tm i)) λm=>Ge n s m (aI tm x)):=bj
@[go_sem] def aw9 (x i:bm):bx mem tm (.idxs x i)=hH (gW (idx (aI tm i)) λn=>Gf n (aI tm x)):=bj
@[go_sem] def axa (s:Nat)(x:bm)(bP O:Option bm):bx mem tm (.qa s x bP O none)=hH (gW (iJ 0 (bP.map (aI tm))) λl=>gW (sq (aI tm x)) λlen=>gW (iJ len (O.map (aI tm))) λh=>Gg s l h (aI tm x)):=bj
@[go_sem] def axb (s:Nat)(x h m:bm)(bP:Option bm):bx mem tm (.qa s x bP (some h) (some m)) =
 hH (gW (iJ 0 (bP.map (aI tm))) λl=>gW (idx (aI tm h)) λh=>gW (idx (aI tm m)) λm=>Gh s l h m (aI tm x)):=bj
@[go_sem] def axc (n s:Nat)(x:bm)(bP O:Option bm):bx mem tm (.sn n s x bP O none)=hH (gW (iJ 0 (bP.map (aI tm))) λl=>gW (iJ n (O.map (aI tm))) λh=>yG mem n s l h (aI tm x)):=bj
@[go_sem] def axd (x:bm)(bP O:Option bm):bx mem tm (.Ap x bP O)=hH (gW (iJ 0 (bP.map (aI tm))) λl=>gW (w3 (aI tm x)) λlen=>gW (iJ len (O.map (aI tm))) λh=>Gi l h (aI tm x)):=bj
@[go_sem] def axe (i:Nat)(x:bm):bx mem tm (.ext i x)=hH (Gj i (aI tm x)):=bj
@[go_sem] def axf (x:bm):bx mem tm (.len x)=hH (gW (sq (aI tm x)) λn=>some (.L (.int .i64 n))):=bj
@[go_sem] def axg (x:bm):bx mem tm (.lens x)=hH (gW (w3 (aI tm x)) λn=>some (.L (.int .i64 n))):=bj
@[go_sem] def axh (k:Key)(z:List I)(b:Nat)(s x:bm):bx mem tm (.app k z b s x)=pk mem k z b (aI tm s) (ow mem (D z) (aI tm x)):=bj
@[go_sem] def axi (z:List I)(x:bm):bx mem tm (.so z x)=vf mem z (aI tm x):=bj
@[go_sem] def axj (s:Nat)(x y:bm):bx mem tm (.qb s x y)=tq mem s (aI tm x) (ow mem s (aI tm y)):=bj
@[go_sem] def axk (b:Bool)(x y:bm):bx mem tm (.kR b x y)=hH (Gk b (aI tm x) (aI tm y)):=bj
@[go_sem] def axl (f:FuncId)(l:List bm):bx mem tm (.vb f l)=some (.dK f (l.map (aI tm)),none):=bj
@[go_sem] def axm (n:Nat)(f:Nat->Option I):gW (some n) f=f n:=bj
@[go_sem] def axn (n m:Nat)(f:Nat->Nat->Out):Gm (some n) (some m) f=f n m:=bj
def Lj (n:Nat)(bF:Bool)(g off:Nat):Option (Nat×List I)->Option I
 |some (cf,cs)=>if cf=g then (cut cs off n).bind (nT bF) else none
 |none=>none
@[go_sem] def axo (n:Nat)(bF:Bool)(k:Key)(g off:Nat):ib mem n bF (.ptr k g off)=Lj n bF g off (mem k):=by unfold ib Lj;rfl
@[go_sem] def axp (n:Nat)(bF:Bool)(g off:Nat)(cs:List I):Lj n bF g off (some (g,cs))=(cut cs off n).bind (nT bF):=by simp[Lj]
@[go_sem] def axq (n:Nat)(bF:Bool)(ds:List Data):ib mem n bF (.L (.ptr ds))=(cut (ds.map .L) 0 n).bind (nT bF):=bj
@[go_sem] def axr (n:Nat)(k:Key)(g off:Nat)(v:List I):ve mem n (.ptr k g off) v=Gn n k g off v (mem k):=bj
@[go_sem] def axs (cs:List I):nT true cs=some (.agg cs):=bj
@[go_sem] def axt (m:I):nT false [m]=some m:=bj
@[go_sem] def axu (cs:List I):(I.agg cs).cells=cs:=bj
@[go_sem] def axv (cs:List Data):(I.L (.agg cs)).cells=cs.map .L:=bj
@[go_sem] def axw (k:IntKind)(n:Int):(I.L (.int k n)).cells=[.L (.int k n)]:=bj
@[go_sem] def axx (b:Bool):(I.L (.bool b)).cells=[.L (.bool b)]:=bj
@[go_sem] def axy (l:List UInt8):(I.L (.str l)).cells=[.L (.str l)]:=bj
@[go_sem] def axz (l:List (List Data)):(I.L (.ay l)).cells=[.L (.ay l)]:=bj
@[go_sem] def axA (l:List Data):(I.L (.ptr l)).cells=[.L (.ptr l)]:=bj
@[go_sem] def axB (f:FuncId)(l:List Data):(I.L (.fn f l)).cells=[.L (.fn f l)]:=bj
@[go_sem] def axC:I.nil.cells=[.nil]:=bj
@[go_sem] def axD (k:Key)(g s o l:Nat):(I.ref k g s o l).cells=[.ref k g s o l]:=bj
@[go_sem] def axE (k:Key)(g o:Nat):(I.ptr k g o).cells=[.ptr k g o]:=bj
@[go_sem] def axF (f:FuncId)(l:List I):(I.dK f l).cells=[.dK f l]:=bj
@[go_sem] def axG (k:IntKind)(n:Nat):idx (.L (.int k (n:Int)))=some n:=by simp[idx]
@[go_sem] def axH (k:IntKind):idx (.L (.int k 0))=some 0:=bj
@[go_sem low] def axI (k:IntKind)(n:Int):idx (.L (.int k n))=if 0<=n then some n.toNat else none:=bj
end
attribute [go_sem] Ar CV CU F8 Gb Gc CX CY Gd Ge Gf Gg Gh yG PM Gi Gj Gk iJ sq w3 Gn tq yH vf KV C0 CZ F9 Ga yF KS jy jJ cut chunk
 CT KP KQ KR w6 shut q2 I.one I.known ow w4 cb yJ Gr po pn C1 Gu PO Gv PQ Gs PN KY tr keyOf fC q4 pq ir ek j5 C3 jc
end Go.Mini
namespace Go.Mini
open Go
variable {P:Program} {A:Nat->Prop} {w:World} {B:cG} {mem:Mem}
def xj (w ah:World)(av:Nat->Prop)(sz:Nat)(es:List (List Data))(v:Value):Prop :=
 (∀e∈es,D e=sz)/\∃a cap,v=.slice a (D es) cap/\D es<=cap/\cap<=maxLen /\
  (cap=0\/∃b vs T,a=some ⟨b,0,none⟩/\w.heap.size<=b/\ah.heap[b]?=some (.cells vs T (0,0))/\cap*sz<=vs.size /\
   ∀(i:Nat) (d:Data),es.flatten[i]?=some d->∃u,vs[i]?=some u/\Den ah (λdA=>av dA\/dA=b) d u)
def Qk (P:Program)(f:FuncId)(vs:List Value)(A:Nat->Prop)(w:World)(B:cG)(mem:Mem):fR->Prop
 |.same r=>Calls P f vs.toArray w λe ah=>∃v,e=.returned v/\Fr (λ_=>False) w ah/\Den ah (bg A B) r v
 |.own sz es=>Calls P f vs.toArray w λe ah=>∃v,e=.returned v/\Fr (λ_=>False) w ah/\xj w ah (bg A B) sz es v
 |.rel bS=>Calls P f vs.toArray w λe ah=>∃v r mem' aB,e=.returned v/\cX A w B ah aB mem'/\aN ah (bg A aB) aB r v/\bS r mem'
 |.w5 r k=>Calls P f vs.toArray w λe ah=>∃v aB,e=.returned v/\cX A w B ah aB (aV mem k (bw mem k) [])/\aN ah (bg A aB) aB (.L r) v
 |.eM r k g i c=>Calls P f vs.toArray w λe ah=>∃v aB,e=.returned v/\cX A w B ah aB (aV mem k g ((pn mem k).set i c))/\aN ah (bg A aB) aB (.L r) v
def Real (P : Program)(f : FuncId): Prop := ∃ fn c, P.funcs[f]? = some fn /\ fn.body = some c /\ (fn.name == "runtime.NumGoroutine") = false
def mX (P:Program)(T:bl):Prop:=∀f args mem nq,T f args mem=some nq->Real P f /\
 ∀A w B vs,dq A w B mem->cj w (bg A B) B args vs->Qk P f vs A w B mem nq
def AI {f:FuncId}(h:Real P f)(args:Array Value):(callFunc f args).run P w=.ok (.enter f args) w:=by
 obtain⟨fn,c,ao,U,aE⟩:=h;have E : fn.name ≠ "runtime.NumGoroutine" := by simpa using aE
 simp[callFunc,ao,E,U]
def Den.less {w:World}{av gD:Nat->Prop}(h:∀b,gD b->av b){d:Data}{v:Value}(ae:Den w av d v):Den w gD d v :=
 ae.jw (bM _) λb _ U=>⟨rfl,λJ=>U (h b J)⟩
def xj.den {w ah:World}{av:Nat->Prop}{sz:Nat}{es:List (List Data)}{v:Value}(au:∀b,av b->b<w.heap.size)(h:xj w ah av sz es v):Den ah av (.ay es) v:=by
 obtain⟨he,a,cap,rfl,E,G,ad⟩:=h;rcases ad with rfl|⟨b,vs,T,rfl,aK,bp,bD,bL⟩
 ·have:es=[]:=qf (by omega);subst this;exact .j3
 ·have yW:b<ah.heap.size:=(Array.getElem?_eq_some_iff.1 bp).1;refine .ay (sz:=sz) (λi=>vs.getD i undef) E (by omega) yW (λaZ=>by have:=au b aZ;omega) he (λi O=>?_) λi d ae=>?_
  ·have au:i<D es.flatten:=by rw[KJ he];exact O
   obtain⟨u,hu,_⟩:=bL i _ (bB au);rw[cell_of_row ah b _ vs T (0,0) bp,lr,Array.getD_eq_getD_getElem?,hu]
   rfl
  ·obtain⟨u,hu,ae⟩:=bL i d ae;rw[Array.getD_eq_getD_getElem?,hu];exact ae.less λb h => .inl h
def Xw {ah:World}{sz:Nat}{es:List (List Data)}{v:Value}(k:Key)(a3:dq A w B mem)(f:Fr (λ_=>False) w ah)(h:xj w ah (bg A B) sz es v):
  ∃aB,cX A w B ah aB (aV mem k (bw mem k) (es.flatten.map .L))/\aN ah (bg A aB) aB (.ref k (bw mem k) sz 0 (D es)) v:=by
 obtain⟨he,a,cap,rfl,E,G,ad⟩:=h;have still:=cX.still a3 f;rcases ad with rfl|⟨b,vs,T,rfl,aK,bp,bD,bL⟩
 ·have:es=[]:=qf (by omega);subst this;exact⟨_,still.trans (cX.vj still.b4 k),.ref (e2 _ _ _) (bM _) ⟨_,0,rfl,E,G,.inl rfl⟩⟩
 ·have yW:b<ah.heap.size:=(Array.getElem?_eq_some_iff.1 bp).1
  have jd:∀dA,(⟨bw mem k,some b,vs.size,false⟩:gN).c1=some dA->w.heap.size<=dA\/∃e,B k=some e/\e.c1=some dA:=λdA gX=>by
   cases gX;exact .inl aK
  have oz:=KJ he;have hmul:(D es)*sz<=cap*sz:=mP _ E;have hold:∀dA,dA<w.heap.size->(∀e,B k=some e->e.c1≠some dA)->ah.heap[dA]?=w.heap[dA]?:=λdA gX _=>f.block dA gX id;have aC:∀e,B k=some e->(⟨bw mem k,some b,vs.size,false⟩:gN)=e\/e.g<(⟨bw mem k,some b,vs.size,false⟩:gN).g:=λe he => .inr (yK a3 k e he);refine⟨eu B k ⟨bw mem k,some b,vs.size,false⟩,⟨?_,Trans.change f.size hold aC jd,⟨f.os,f.tape,f.output,f.size,λdA gX _=>f.block dA gX id⟩,K3 jd⟩,?_⟩
  ·refine a3.PS (e':=⟨bw mem k,some b,vs.size,false⟩) f.size hold aC jd (λh=>by cases h) λdA gX=>?_
   cases gX;refine .inl ⟨rfl,vs,T,bp,rfl,by rw[az,oz];omega,λi m hm=>?_⟩
   rw[bG,cO] at hm;obtain⟨d,ae,rfl⟩:=hm;obtain⟨u,hu,mY⟩:=bL i d ae;refine⟨u,hu,.L (mY.less λdA gX=>?_)⟩;rcases gX with ⟨j,e,aa,J⟩|a5
   ·by_cases bN:j=k
    ·subst bN;rw[e2] at aa
     cases aa
     cases J;exact .inr rfl
    ·rw[eR B _ bN] at aa;exact .inl (.inl ⟨j,e,aa,J⟩)
   ·exact .inl (.inr a5)
  ·exact .ref (e2 _ _ _) (bM _) ⟨_,cap,rfl,E,G,.inr ⟨b,rfl,λ_=>⟨rfl,by simpa using bD,rfl⟩⟩⟩
end Go.Mini
namespace Go.Mini
open Go
variable {P:Program} {aU:Option I} {T:bl} {A:Nat->Prop} {b5 w:World} {c8 B:cG} {mem:Mem} {n:Nat}
def GR (w:World)(av:Nat->Prop)(B:cG):Option I->List Deferred->Prop
 |none,ds=>ds=[]
 |some m,ds=>∃f cZ vs,m=.dK f cZ/\ds=[{ target:=.fn (.func f) vs,args:=#[] }]/\aN w av B m (.func (.func f) #[] vs)
def GR.jw {ah:World}{aB:cG}(t:Trans A w B ah aB):∀{d:Option I} {ds:List Deferred},GR w (bg A B) B d ds->GR ah (bg A aB) aB d ds
 |none,_,h=>h
 |some _,_,⟨f,cZ,vs,E,G,ad⟩=>⟨f,cZ,vs,E,G,ad.jw t⟩
structure dr (aU:Option I) (n:Nat) (A:Nat->Prop) (b5:World) (c8:cG) (a:Act) (st:a1) (w:World) (B:cG):Prop where
 ok:cX A b5 c8 w B st.mem
 tm:∀s,aN w (bg A B) B (st.tm s) (a.eval (.tmp s))
 sz:a.tmps.size=n
 vu:GR w (bg A B) B aU a.defers
def dr.jA {a:Act}{st:a1}(h:dr aU n A b5 c8 a st w B)(x:Operand)(y:bm)(J:cw x=some y):aN w (bg A B) B (aI st.tm y) (a.eval x):=by
 cases x<;>simp only[cw,bH,cO,reduceCtorEq] at J
 ·subst J;exact h.tm _
 ·obtain⟨m,hm,rfl⟩:=J;exact WK hm
 ·subst J;exact .dK (vs:=[]) rfl λi d v E=>by simp at E
def aiR {a:Act}{s:Nat}{v:Value}(h:s<a.tmps.size):(a.put (some s) v).eval (.tmp s)=v:=by
 simp[Act.eval,Act.put,h]
def dr.put {a:Act}{st:a1}{ah:World}{aB:cG}{mem':Mem}{dst:Option Nat}{r:I}{v:Value}(h:dr aU n A b5 c8 a st w B)(R:cX A w B ah aB mem')(M:aN ah (bg A aB) aB r v)
  (ae:dst.all (λd=>decide (d<n))=true):dr aU n A b5 c8 (a.put dst v) ⟨Mini.put st.tm dst r,mem'⟩ ah aB:=by
 refine⟨h.ok.trans R,λs=>?_,?_,?_⟩
 ·cases dst with
  |none=>exact (h.tm s).jw R.hW
  |some d =>
   simp only[Option.all_some,decide_eq_true_eq] at ae
   by_cases Ql:s=d
   ·subst Ql;rw[aiR (by rw[h.sz];exact ae)];simp only[Mini.put,eM,if_true];exact M
   ·rw[Act.eval_put (λpz E G=>by cases E;cases G;exact Ql rfl)];simp only[Mini.put,eM,ar Ql];exact (h.tm s).jw R.hW
 ·cases dst<;>simp[Act.put,h.sz]
 ·have kS:(a.put dst v).defers=a.defers:=by cases dst<;>rfl
  rw[kS];exact h.vu.jw R.hW
def yX {a:Act}{st:a1}{ops:Array Oper}{o:Oper}{g:Option (Nat×Bool)}{b:Bool}(h:dr aU n A b5 c8 a st w B)(aC:Gy ops o.guard=some g)(U:gv st.tm g=some b):
  Region.wanted o (yielded ops a.tmps)=b:=by
 unfold Region.wanted
 cases ra:o.guard with
 |none =>
  rw[ra] at aC;simp only[Gy,bH] at aC;subst aC;simp only[gv,bH] at U;exact U
 |some p =>
  obtain⟨j,c⟩:=p;rw[ra] at aC;simp only[Gy] at aC
  split at aC
  ·rename_i s R;simp only[bH] at aC;subst aC;have ai:=h.tm s
   have ag:yielded ops a.tmps j=match a.eval (.tmp s) with|.bool b=>some b|_=>none:=by
    unfold yielded;rw[R];simp only[Option.bind_some,Act.eval,Array.getD_eq_getD_getElem?]
    cases a.tmps[s]? with
    |none=>rfl
    |some v=>cases v<;>rfl
   simp only[gv] at U;simp only[ag]
   split at U
   ·rename_i t bC;rw[bC] at ai
    cases ai with
    |L ai =>
     generalize a.eval (.tmp s)=u at *
     cases ai;simp only[bH] at U;subst U
     cases t<;>cases c<;>simp
   ·rename_i bC;rw[bC] at ai;generalize a.eval (.tmp s)=u at *
    cases ai;simp only[bH] at U;subst U
    rfl
   ·cases U
  ·cases aC
def GS {kb:Nat}{own:List Nat}{dst:Option Nat}{ty:TypeId}{op:Op}{f:FuncId}{args:List bm}(h:gj P kb own dst ty op=some (.call f args)):
  ∃c:Call,op=.call c/\c.callee=.value (.func f)/\c.args.toList.mapM cw=some args:=by
 cases op<;>simp only[gj,sx,sw] at h
 case call c =>
  refine⟨c,rfl,?_⟩;unfold q6 at h
  (repeat' split at h)<;>simp_all [di,cO]
 all_goals ((repeat' split at h)<;>simp_all [di,cO])
def aiS {kb:Nat}{own:List Nat}{dst:Option Nat}{ty:TypeId}{op:Op}{f:FuncId}{bP:Nat}{args:List bm}(h:gj P kb own dst ty op=some (.j4 bP f args)):
  ∃c:Call,op=.call c/\c.callee=.value (.func f)/\c.args.toList.mapM cw=some args:=by
 cases op<;>simp only[gj,sx,sw] at h
 case call c =>
  refine⟨c,rfl,?_⟩;unfold q6 at h
  (repeat' split at h)<;>simp_all [di,cO]
  all_goals
   obtain⟨_,E,_,rfl,rfl⟩:=h;exact⟨rfl,E⟩
 all_goals ((repeat' split at h)<;>simp_all [di,cO])
def aiT {kb:Nat}{own:List Nat}{dst:Option Nat}{ty:TypeId}{op:Op}{f:FuncId}{bP:Nat}{args:List bm}(h:gj P kb own dst ty op=some (.ph bP f args)):
  ∃c:Call,op=.call c/\c.callee=.value (.func f)/\c.args.toList.mapM cw=some args:=by
 cases op<;>simp only[gj,sx,sw] at h
 case call c =>
  refine⟨c,rfl,?_⟩;unfold q6 at h
  (repeat' split at h)<;>simp_all [di,cO]
  all_goals
   obtain⟨_,E,_,rfl,rfl⟩:=h;exact⟨rfl,E⟩
 all_goals ((repeat' split at h)<;>simp_all [di,cO])
def aiU {kb:Nat}{own:List Nat}{dst:Option Nat}{ty:TypeId}{op:Op}{f:FuncId}{bP:Nat}{args:List bm}(h:gj P kb own dst ty op=some (.pj bP f args)):
  ∃c:Call,op=.call c/\c.callee=.value (.func f)/\c.args.toList.mapM cw=some args:=by
 cases op<;>simp only[gj,sx,sw] at h
 case call c =>
  refine⟨c,rfl,?_⟩;unfold q6 at h
  (repeat' split at h)<;>simp_all [di,cO]
  all_goals
   obtain⟨_,E,_,rfl,rfl⟩:=h;exact⟨rfl,E⟩
 all_goals ((repeat' split at h)<;>simp_all [di,cO])
def Xx {kb:Nat}{own:List Nat}{dst:Option Nat}{ty:TypeId}{op:Op}{f:FuncId}{k:Key}{sz:Nat}{args:List bm}(h:gj P kb own dst ty op=some (.ln k sz f args)):
  ∃c:Call,op=.call c/\c.callee=.value (.func f)/\c.args.toList.mapM cw=some args:=by
 cases op<;>simp only[gj,sx,sw] at h
 case call c =>
  refine⟨c,rfl,?_⟩;unfold q6 at h
  (repeat' split at h)<;>simp_all [di,cO]
  obtain⟨_,_,_,_,_,E,_,_,rfl,rfl⟩:=h;exact⟨rfl,E⟩
 all_goals ((repeat' split at h)<;>simp_all [di,cO])
def Qm {kb:Nat}{own:List Nat}{dst:Option Nat}{ty:TypeId}{op:Op}{f:bm}{args:List bm}(h:gj P kb own dst ty op=some (.jH f args)):
  ∃(c:Call) (x:Operand),op=.call c/\c.callee=.value x/\cw x=some f/\c.args.toList.mapM cw=some args:=by
 cases op<;>simp only[gj,sx,sw] at h
 case call c =>
  refine⟨c,?_⟩;unfold q6 at h
  (repeat' split at h)<;>simp_all [di,cO]
 all_goals ((repeat' split at h)<;>simp_all [di,cO])
def Xy {kb:Nat}{own:List Nat}{dst:Option Nat}{ty:TypeId}{op:Op}{neg:Bool}{x:bm}(h:gj P kb own dst ty op=some (.kQ neg x)):
  ∃(t e:TypeId) (y y':Operand) (z:TypeId),op=.binOp (if neg then .neq else .eql) t y y' z/\K2 y'=true/\P.underlying t=some (.slice e)/\cw y=some x:=by
 cases op<;>simp only[gj,sx,sw] at h
 case call c =>
  unfold q6 at h
  (repeat' split at h)<;>simp_all [di,cO]
 case binOp GP t y y' z =>
  (repeat' split at h)<;>simp_all [di,cO]
  all_goals
   obtain⟨E,rfl⟩:=h;exact⟨_,_,_,_,⟨rfl,rfl,rfl⟩,by assumption,by assumption,E⟩
 all_goals ((repeat' split at h)<;>simp_all [di,cO])
end Go.Mini
namespace Go.Mini
open Go
variable {P:Program} {aU:Option I} {T:bl} {A:Nat->Prop} {b5 w:World} {c8 B:cG} {mem:Mem} {n:Nat}
def Xz {t e:TypeId}{y y':Operand}{m:I}{u v:Value}{av:Nat->Prop}{full:Bool}(neg:Bool)(bC:P.underlying t=some (.slice e))(hm:aN w av B m u)(ao:w6 m=some full)(ai:v=.slice none 0 0):
  ∃b:Bool,(full=true->b=false)/\((do eqGuard (if neg then .neq else .eql) t y y' u v;binOp (if neg then .neq else .eql) t u v:Sem Value)).run P w=.ok (.bool (neg != b)) w:=by
 subst ai
 have shape:∃a len cap,u=.slice a len cap/\(full=true->a.isNone=false):=by
  cases m<;>simp only[w6,reduceCtorEq] at ao
  case L d =>
   cases d<;>simp only[w6,bH,reduceCtorEq] at ao
   cases hm with
   |L ae =>
    cases ae with
    |j3=>exact⟨_,_,_,rfl,λh=>by cases ao;cases h⟩
    |ay=>exact⟨_,_,_,rfl,λ_=>rfl⟩
  case nil =>
   cases hm with
   |nil=>exact⟨_,_,_,rfl,λh=>by cases ao;cases h⟩
  case ref k g sz off len =>
   cases hm with
   |ref he aC M =>
    obtain⟨a,cap,rfl,E,G,ad⟩:=M;refine⟨_,_,_,rfl,λh=>?_⟩;simp only[bH] at ao;subst ao;simp only[decide_eq_true_eq] at h;rcases ad with ad|⟨b,rfl,_⟩
    ·omega
    ·rfl
 obtain⟨a,len,cap,rfl,U⟩:=shape;refine⟨a.isNone,U,?_⟩
 have he:∀d,(Op.equalIn (d+1) t (.slice a len cap) (.slice none 0 0)).run P w=.ok a.isNone w:=λd=>by
  unfold Op.equalIn;simp only[Sem.run_bind,run_underlying bC,Result.andThen_ok]
  cases a<;>rfl
 have heq:(Op.equal t (.slice a len cap) (.slice none 0 0)).run P w=.ok a.isNone w:=he 9999;rw[K4 (by simp) (by simp)]
 cases neg
 ·simp only[df,if_false,Sem.run_bind,Sem.run_pure,Result.andThen_ok];show (do pure (Value.bool (<-Op.equal t (.slice a len cap) (.slice none 0 0))):Sem Value).run P w=_
  simp[heq]
 ·simp only[if_true,Sem.run_bind,Sem.run_pure,Result.andThen_ok];show (do pure (Value.bool (!(<-Op.equal t (.slice a len cap) (.slice none 0 0)))):Sem Value).run P w=_
  simp[heq]
structure Dm (P:Program) (n kb:Nat) (own:List Nat) (ops:Array Oper) (o:Oper) (i:bn):Prop where
 dst:i.dst=o.dst
 guard:Gy ops o.guard=some i.g
 op:i.op=(gj P kb own o.dst o.type o.op).getD .bad
 lt:o.dst.all (λd=>decide (d<n))=true
def GU {kb:Nat}{own:List Nat}{ops:Array Oper}{o:Oper}{i:bn}(h:mN P n kb own ops o=some i):Dm P n kb own ops o i:=by
 unfold mN at h
 split at h
 ·rename_i g aC
  split at h
  ·rename_i au
   cases h;exact⟨rfl,aC,rfl,au⟩
  ·cases h
 ·cases h
def aiV {K:a1->Prop}{i:bn}{st:a1}(h:fB T K i st):
  (∃m e,bx st.mem st.tm i.op=some (m,e)/\K ⟨put st.tm i.dst m,fA st.mem e⟩) \/
  (∃f args,i.op=.call f args/\sr T K st i.dst f (args.map (aI st.tm))) \/
  (∃k sz f args es,i.op=.ln k sz f args/\T f (args.map (aI st.tm)) st.mem=some (.own sz es)/\K ⟨put st.tm i.dst (.ref k (bw st.mem k) sz 0 (D es)),aV st.mem k (bw st.mem k) (es.flatten.map .L)⟩) \/
  (∃f args,i.op=.jH f args/\((∃g cZ,aI st.tm f=.dK g cZ/\sr T K st i.dst g (args.map (aI st.tm)++cZ))\/(∃g ds,aI st.tm f=.L (.fn g ds)/\sr T K st i.dst g (args.map (aI st.tm)++ds.map .L)))) \/
  (∃neg x full,i.op=.kQ neg x/\w6 (aI st.tm x)=some full/\∀b:Bool,(full=true->b=false)->K ⟨put st.tm i.dst (.L (.bool (neg != b))),st.mem⟩):=by
 obtain⟨dst,g,op⟩:=i;unfold fB at h
 split at h
 ·rename_i f args ev;exact .inr (.inl ⟨f,args,ev,h⟩)
 ·rename_i k sz f args ev
  split at h
  ·rename_i dG es he
   split at h
   ·rename_i R;subst R;exact .inr (.inr (.inl ⟨k,_,f,args,es,ev,he,h⟩))
   ·cases h
  ·cases h
 ·rename_i f args ev;refine .inr (.inr (.inr (.inl ⟨f,args,ev,?_⟩)))
  split at h
  ·rename_i g cZ ao;exact .inl ⟨g,cZ,ao,h⟩
  ·rename_i g ds ao;exact .inr ⟨g,ds,ao,h⟩
  ·cases h
 ·rename_i neg x ev
  split at h
  ·rename_i full ao;exact .inr (.inr (.inr (.inr ⟨neg,x,full,ev,ao,h⟩)))
  ·cases h
 ·split at h
  ·rename_i m e he;exact .inl ⟨m,e,he,h⟩
  ·cases h
def getD_some {α:Type}{x:Option α}{b c:α}(h:c=x.getD b)(U:c≠b):x=some c:=by
 cases x with
 |none=>exact absurd h U
 |some y=>simp at h;rw[h]
def XA (cp:mX P T){K:a1->Prop}{a:Act}{st:a1}{o:Oper}{ak:Exit->Act->World->Prop}{f:FuncId}{args:List I}{vs:List Value}(h:dr aU n A b5 c8 a st w B)(au:o.dst.all (λd=>decide (d<n))=true)
  (ai:cj w (bg A B) B args vs) (Q:sr T K st o.dst f args) (eb:Real P f->(execOp a.eval o).run P w=.ok (.enter f vs.toArray) w) :
  o.wp P a w (λck ah=>∃bX aB,K bX/\dr aU n A b5 c8 ck bX ah aB) ak:=by
 unfold sr at Q;unfold Oper.wp
 cases gZ:T f args st.mem with
 |none=>rw[gZ] at Q;exact Q.elim
 |some nq =>
  obtain⟨fM,hZ⟩:=cp f args st.mem nq gZ;have Z:=hZ A w B vs h.ok.b4 ai;rw[gZ] at Q;rw[eb fM]
  cases nq with
  |same r =>
   refine Calls.mono Z λe ah he=>?_;obtain⟨v,rfl,dw,ae⟩:=he;exact⟨_,B,Q,h.put (.still h.ok.b4 dw) (.L ae) au⟩
  |own sz es =>
   refine Calls.mono Z λe ah he=>?_;obtain⟨v,rfl,dw,ae⟩:=he;refine⟨_,B,Q,h.put (.still h.ok.b4 dw) (.L (ae.den λb U=>?_)) au⟩;rcases U with U|U
   ·exact h.ok.b4.q0 U
   ·exact h.ok.b4.lt b U
  |w5 r k =>
   refine Calls.mono Z λe ah he=>?_;obtain⟨v,aB,rfl,dc,j6⟩:=he;exact⟨_,aB,Q,h.put dc j6 au⟩
  |rel bS =>
   refine Calls.mono Z λe ah he=>?_;obtain⟨v,r,mem',aB,rfl,R,ae,ew⟩:=he;exact⟨_,aB,Q r mem' ew,h.put R ae au⟩
  |eM r k g i c =>
   refine Calls.mono Z λe ah he=>?_;obtain⟨v,aB,rfl,R,ae⟩:=he;exact⟨_,aB,Q,h.put R ae au⟩
def GV {av:Nat->Prop}{m:I}{u:Value}{g:FuncId}{cZ:List I}(hm:aN w av B m u)(h:m=.dK g cZ\/∃ds,m=.L (.fn g ds)/\cZ=ds.map .L):
  ∃cs:List Value,u=.func (.func g) #[] cs.toArray/\cj w av B cZ cs:=by
 rcases h with rfl|⟨ds,rfl,rfl⟩
 ·cases hm with
  |dK af ae=>exact⟨_,rfl,af,ae⟩
 ·cases hm with
  |L ae =>
   cases ae with
   |fn af ae=>exact⟨_,rfl,cj.L af ae⟩
def aiW (cp:mX P T){K:a1->Prop}{kb:Nat}{own:List Nat}{ops:Array Oper}{a:Act}{st:a1}{o:Oper}{i:bn}{ak:Exit->Act->World->Prop}(h:dr aU n A b5 c8 a st w B)(O:Dm P n kb own ops o i)
  (Q:fB T K i st):o.wp P a w (λck ah=>∃bX aB,K bX/\dr aU n A b5 c8 ck bX ah aB) ak:=by
 have ev:=O.op;rcases aiV Q with ⟨m,e,R,ep⟩|⟨f,args,he,ep⟩|⟨k,sz,f,args,es,he,gZ,ep⟩|⟨f,args,he,ep⟩|⟨neg,x,full,he,ao,ep⟩
 ·have aA:gj P kb own o.dst o.type o.op=some i.op:=getD_some ev (by
   intro U;rw[U] at R
   cases R)
  obtain⟨yY,v,ah,aB,eb,nr,dc,ai⟩:=Qh h.ok.b4 h.jA (λ_=>rfl) aA R;unfold Oper.wp;rw[eb];rw[O.dst] at ep;have xk:=h.put dc ai O.lt;rcases nr with rfl|⟨rfl,rfl⟩
  ·exact⟨_,aB,ep,xk⟩
  ·exact⟨_,aB,ep,xk⟩
 ·have aA:gj P kb own o.dst o.type o.op=some i.op:=getD_some ev (by rw[he];simp);rw[he] at aA;obtain⟨c,Z,hg,iy⟩:=GS aA;rw[O.dst] at ep;refine XA cp h O.lt (py h.jA iy) ep λfM=>?_;obtain⟨dst,op,type,pos,after,guard⟩:=o;simp only at Z;subst Z;obtain⟨callee,rf,yZ⟩:=c;simp only at hg;subst hg;simp only[execOp,resolve,Deferred.ofValue,Act.eval,invoke,Sem.run_bind,Sem.run_pure,Result.andThen_ok,AI fM];rw[vr rf];simp
 ·have aA:gj P kb own o.dst o.type o.op=some i.op:=getD_some ev (by rw[he];simp);rw[he] at aA;obtain⟨c,Z,hg,iy⟩:=Xx aA;rw[O.dst] at ep;obtain⟨fM,hZ⟩:=cp f _ st.mem _ gZ;have lZ:=hZ A w B _ h.ok.b4 (py h.jA iy);have au:=O.lt;obtain⟨dst,op,type,pos,after,guard⟩:=o;simp only at Z;subst Z;obtain⟨callee,rf,yZ⟩:=c;simp only at hg iy;subst hg
  have eb:(execOp a.eval ⟨dst,.call ⟨.value (.func f),rf,yZ⟩,type,pos,after,guard⟩).run P w=.ok (.enter f (rf.toList.map a.eval).toArray) w:=by
   simp only[execOp,resolve,Deferred.ofValue,Act.eval,invoke,Sem.run_bind,Sem.run_pure,Result.andThen_ok,AI fM];rw[vr rf];simp
  unfold Oper.wp;rw[eb];refine Calls.mono lZ λe ah lX=>?_;obtain⟨v,rfl,dw,ae⟩:=lX;obtain⟨aB,dc,ai⟩:=Xw k h.ok.b4 dw ae;exact⟨_,aB,ep,h.put dc ai au⟩
 ·have aA:gj P kb own o.dst o.type o.op=some i.op:=getD_some ev (by rw[he];simp);rw[he] at aA;obtain⟨c,x,Z,hg,J,iy⟩:=Qm aA;rw[O.dst] at ep;have Lk:=h.jA _ _ J
  have main:∀g cZ,(aI st.tm f=.dK g cZ\/∃ds,aI st.tm f=.L (.fn g ds)/\cZ=ds.map .L)->sr T K st o.dst g (args.map (aI st.tm)++cZ)->o.wp P a w (λck ah=>∃bX aB,K bX/\dr aU n A b5 c8 ck bX ah aB) ak:=by
   intro g cZ aC ep;obtain⟨cs,hu,bY⟩:=GV Lk aC;refine XA cp h O.lt ((py h.jA iy).append bY) ep λfM=>?_;obtain⟨dst,op,type,pos,after,guard⟩:=o;simp only at Z;subst Z;obtain⟨callee,rf,yZ⟩:=c;simp only at hg;subst hg;simp only[execOp,resolve,hu,Deferred.ofValue,invoke,Sem.run_bind,Sem.run_pure,Result.andThen_ok,AI fM];rw[vr rf];simp
  rcases ep with ⟨g,cZ,aC,ep⟩|⟨g,ds,aC,ep⟩
  ·exact main g cZ (.inl aC) ep
  ·exact main g _ (.inr ⟨ds,aC,rfl⟩) ep
 ·have aA:gj P kb own o.dst o.type o.op=some i.op:=getD_some ev (by rw[he];simp);rw[he] at aA;obtain⟨t,e,y,y',z,Z,aE,bC,ag⟩:=Xy aA;rw[O.dst] at ep
  have Dn:a.eval y' = .slice none 0 0:=by
   unfold K2 at aE
   split at aE
   ·rfl
   ·cases aE
  obtain⟨b,U,eb⟩:=Xz (y:=y) (y':=y') neg bC (h.jA _ _ ag) ao Dn;obtain⟨dst,op,type,pos,after,guard⟩:=o;simp only at Z;subst Z;unfold Oper.wp
  have:(execOp a.eval ⟨dst,.binOp (if neg then .neq else .eql) t y y' z,type,pos,after,guard⟩).run P w=.ok (.value (.bool (neg != b))) w:=by
   simp only[execOp];rw[Sem.run_bind,eb]
   rfl
  rw[this];exact⟨_,B,ep b U,h.put (.refl h.ok.b4) (.L .bool) O.lt⟩
end Go.Mini
namespace Go.Mini
open Go
variable {T:bl}
def dR {tm tm':Nat->I}{x:bm}(h:∀s∈dL x,tm s=tm' s):aI tm x=aI tm' x:=by
 cases x with
 |t s=>exact h s (by simp[dL])
 |c m=>rfl
def map_congr {tm tm':Nat->I}{l:List bm}(h:∀s∈l.flatMap dL,tm s=tm' s):l.map (aI tm)=l.map (aI tm') :=
 GW λx J=>dR λs R=>h s (AJ.2 ⟨x,J,R⟩)
def GX {tm tm':Nat->I}{l:List bm}(h:∀s∈l.flatMap dL,tm s=tm' s):(l.map λx=>shut (aI tm x))=l.map λx=>shut (aI tm' x) :=
 GW λx J=>by rw[dR λs R=>h s (AJ.2 ⟨x,J,R⟩)]
def AK {tm tm':Nat->I}{x:Option bm}(h:∀s∈vh x,tm s=tm' s):x.map (aI tm)=x.map (aI tm'):=by
 cases x with
 |none=>rfl
 |some x =>
  cases x with
  |t s=>simp[aI,h s (by simp[vh])]
  |c m=>rfl
def Qn {tm tm':Nat->I}:∀{cH:List (Nat×Nat×bm)} (cs:List I),(∀s∈cH.flatMap (λp=>dL p.2.2),tm s=tm' s)->jy (aI tm) cs cH=jy (aI tm') cs cH
 | [],_,_=>rfl
 |(o,s,x)::cH,cs,h=>by
  have E:aI tm x=aI tm' x:=dR λt bC=>h t (AJ.2 ⟨(o,s,x),by simp,bC⟩);simp only[jy,E]
  split
  ·exact Qn _ λt bC=>h t (by simp only[List.flatMap_cons,hs];exact .inr bC)
  ·rfl
def aiX {mem:Mem}{tm tm':Nat->I}{op:fe}(h:∀s∈nU op,tm s=tm' s):bx mem tm op=bx mem tm' op:=by
 cases op<;>simp only[nU,hs] at h
 case hG x=>simp only[bx,iq,dR h]
 case pick c a b=>simp only[bx,iq,dR (λs R=>h s (.inl (.inl R))),dR (λs R=>h s (.inl (.inr R))),dR (λs R=>h s (.inr R))]
 case alloc=>rfl
 case box k x=>simp only[bx,dR h]
 case build z cH=>simp only[bx,iq,Qn _ h]
 case eg k o z sz len cH=>cases o<;>simp only[bx,iq,Qn _ h]
 case load n bF x=>simp only[bx,dR h]
 case store n x v=>simp only[bx,dR (λs R=>h s (.inl R)),dR (λs R=>h s (.inr R))]
 case bin o x y=>simp only[bx,iq,dR (λs R=>h s (.inl R)),dR (λs R=>h s (.inr R))]
 case beq o x y=>simp only[bx,iq,dR (λs R=>h s (.inl R)),dR (λs R=>h s (.inr R))]
 case eqs o l x y=>simp only[bx,iq,dR (λs R=>h s (.inl R)),dR (λs R=>h s (.inr R))]
 case kQ=>rfl
 case un o x=>simp only[bx,iq,dR h]
 case conv k x=>simp only[bx,iq,dR h]
 case tn x=>simp only[bx,iq,dR h]
 case ll k z b x y=>simp only[bx,dR (λs R=>h s (.inl R)),dR (λs R=>h s (.inr R))]
 case sm o x=>simp only[bx,iq,dR h]
 case w0 o n bF x=>simp only[bx,iq,dR h]
 case tp s x i=>simp only[bx,iq,dR (λs R=>h s (.inl R)),dR (λs R=>h s (.inr R))]
 case Ao n s x i=>simp only[bx,iq,dR (λs R=>h s (.inl R)),dR (λs R=>h s (.inr R))]
 case idxs x i=>simp only[bx,iq,dR (λs R=>h s (.inl R)),dR (λs R=>h s (.inr R))]
 case qa s x a b c =>
  have E:=dR (λs R=>h s (.inl (.inl (.inl R))));have G:=AK (λs R=>h s (.inl (.inl (.inr R))));have ad:=AK (λs R=>h s (.inl (.inr R)));have aK:=AK (λs R=>h s (.inr R))
  cases b<;>cases c<;>simp only[kx,XB,bH] at ad aK<;>simp only[bx,iq,kx,XB,E,G,ad,aK]
 case sn n s x a b c =>
  have E:=dR (λs R=>h s (.inl (.inl (.inl R))));have G:=AK (λs R=>h s (.inl (.inl (.inr R))));have ad:=AK (λs R=>h s (.inl (.inr R)))
  cases c<;>simp only[bx,iq,E,G,ad]
 case Ap x a b=>simp only[bx,iq,dR (λs R=>h s (.inl (.inl R))),AK (λs R=>h s (.inl (.inr R))),AK (λs R=>h s (.inr R))]
 case ext i x=>simp only[bx,iq,dR h]
 case len x=>simp only[bx,iq,dR h]
 case lens x=>simp only[bx,iq,dR h]
 case app k z b s x=>simp only[bx,dR (λs R=>h s (.inl R)),dR (λs R=>h s (.inr R))]
 case qb s d x=>simp only[bx,dR (λs R=>h s (.inl R)),dR (λs R=>h s (.inr R))]
 case so z x=>simp only[bx,dR h]
 case kR o x y=>simp only[bx,iq,dR (λs R=>h s (.inl R)),dR (λs R=>h s (.inr R))]
 case call=>rfl
 case ln=>rfl
 case jH=>rfl
 case j4=>rfl
 case ph=>rfl
 case pj=>rfl
 case vb f l=>simp only[bx,iq,map_congr h]
 case CS t x=>simp only[bx,iq,dR h]
 case KL t o z x=>simp only[bx,iq,dR h]
 case Aq n i x=>simp only[bx,iq,dR h]
 case KN l s a x i=>simp only[bx,iq,dR (λs R=>h s (.inl R)),dR (λs R=>h s (.inr R))]
 case vc=>rfl
 case yE o z x i=>simp only[bx,dR (λs R=>h s (.inl R)),dR (λs R=>h s (.inr R))]
 case w2 x i v=>simp only[bx,dR (λs R=>h s (.inl (.inl R))),dR (λs R=>h s (.inl (.inr R))),dR (λs R=>h s (.inr R))]
 case bad=>rfl
def Ll {mem:Mem}{tm tm':Nat->I}{op:fe}(h:∀s∈nU op,tm s=tm' s):ek T mem tm op=ek T mem tm' op:=by
 cases op
 case call f l =>
  have:=GX (l:=l) (tm:=tm) (tm':=tm') (by simpa [nU] using h);simp only[ek,this]
 case ln k sz f l =>
  have:=GX (l:=l) (tm:=tm) (tm':=tm') (by simpa [nU] using h);simp only[ek,this]
 case jH f l =>
  simp only[nU,hs] at h;have E:=dR (x:=f) (tm:=tm) (tm':=tm') λs R=>h s (.inl R);have G:=GX (l:=l) (tm:=tm) (tm':=tm') λs R=>h s (.inr R);simp only[ek,E,G]
 case kQ=>rfl
 case j4 bP f l =>
  have:=map_congr (l:=l) (tm:=tm) (tm':=tm') (by simpa [nU] using h);simp only[ek,this]
 case ph j f l =>
  have E:=map_congr (l:=l) (tm:=tm) (tm':=tm') (by simpa [nU] using h);have G:=GX (l:=l) (tm:=tm) (tm':=tm') (by simpa [nU] using h);simp only[ek,E,G]
 case pj j f l =>
  have E:=map_congr (l:=l) (tm:=tm) (tm':=tm') (by simpa [nU] using h);have G:=GX (l:=l) (tm:=tm) (tm':=tm') (by simpa [nU] using h);simp only[ek,E,G]
 all_goals exact aiX (mem:=mem) h
def Lm {tm tm':Nat->I}{op:fe}(h:∀s∈nU op,tm s=tm' s):cb tm op=cb tm' op:=by
 cases op<;>simp only[nU,hs] at h<;>try rfl
 case eg k o z sz len cH=>cases o<;>rfl
 case load n bF x=>simp only[cb,dR h]
 case sn n s x a b c=>simp only[cb,dR (λs R=>h s (.inl (.inl (.inl R))))]
 case store n x v=>simp only[cb,dR (λs R=>h s (.inl R))]
 case app k z b s x=>simp only[cb,dR (λs R=>h s (.inl R)),dR (λs R=>h s (.inr R))]
 case qb s d x=>simp only[cb,dR (λs R=>h s (.inl R)),dR (λs R=>h s (.inr R))]
 case j4 bP f l=>simp only[cb,map_congr h]
 case ph j f l=>simp only[cb,map_congr h]
 case pj j f l=>simp only[cb,map_congr h]
 case so z x=>simp only[cb,dR h]
 case yE o z x i=>simp only[cb,dR (λs R=>h s (.inl R))]
 case w2 x i v=>simp only[cb,dR (λs R=>h s (.inl (.inl R)))]
def aiY {n:Nat}{m:I}{ak:Key->Prop}(h:∀x∈yJ n m,ak x.key):∀j∈keyOf m,ak j:=by
 cases m<;>simp_all [yJ,keyOf,kt.key]
def XC {mem mem':Mem}{sz:Nat}{m:I}(h:∀k∈keyOf m,mem k=mem' k):ow mem sz m=ow mem' sz m:=by
 cases m<;>try rfl
 case L d=>cases d<;>rfl
 simp only[ow];rw[h _ (by simp[keyOf])]
def aiZ {mem mem':Mem}{k:Key}{z:List I}{b:Nat}{m:I}{row:Option (Nat×List I)}(Q:mem k=mem' k)(h:∀j∈keyOf m,mem j=mem' j):pk mem k z b m row=pk mem' k z b m row:=by
 cases m<;>cases row<;>try rfl
 ·simp only[pk,bw,Q]
 ·simp only[pk];rw[h _ (by simp[keyOf])]
def ai0 {mem mem':Mem}{sz:Nat}{m:I}{row:Option (Nat×List I)}(h:∀j∈keyOf m,mem j=mem' j):tq mem sz m row=tq mem' sz m row:=by
 cases m<;>cases row<;>try rfl
 simp only[tq];rw[h _ (by simp[keyOf])]
def ai1 {mem mem':Mem}{z:List I}{m:I}(h:∀j∈keyOf m,mem j=mem' j):vf mem z m=vf mem' z m:=by
 cases m<;>try rfl
 simp only[vf];rw[h _ (by simp[keyOf])]
def Qo {mem mem':Mem}{n:Nat}{bF:Bool}{m:I}(h:∀j∈keyOf m,mem j=mem' j):ib mem n bF m=ib mem' n bF m:=by
 cases m<;>try rfl
 case L d=>cases d<;>rfl
 simp only[ib];rw[h _ (by simp[keyOf])]
def ai2 {mem mem':Mem}{n:Nat}{m:I}{v:List I}(h:∀j∈keyOf m,mem j=mem' j):ve mem n m v=ve mem' n m v:=by
 cases m<;>try rfl
 simp only[ve];rw[h _ (by simp[keyOf])]
def ai3 {mem mem':Mem}{n s a b:Nat}{m:I}(h:∀j∈keyOf m,mem j=mem' j):yG mem n s a b m=yG mem' n s a b m:=by
 cases m<;>try rfl
 simp only[yG];rw[h _ (by simp[keyOf])]
def XD {mem mem':Mem}{m:I}(h:∀j∈Gq m,mem j=mem' j):yI mem m=yI mem' m:=by
 cases m<;>try rfl
 simp only[yI];rw[h _ (by simp[Gq])]
def ai4 {mem mem':Mem}{tm:Nat->I}{op:fe}(h:∀x∈cb tm op,mem x.key=mem' x.key):bx mem tm op=bx mem' tm op:=by
 have yY:∀k,mem k=mem' k->bw mem k=bw mem' k:=λk Q=>by simp only[bw,Q]
 cases op<;>try rfl
 case alloc k z=>simp only[bx,yY k (h (.fm k) (by simp[cb]))]
 case box k x=>simp only[bx,yY k (h (.fm k) (by simp[cb]))]
 case eg k o z sz len cH =>
  cases o
  ·rfl
  ·simp only[bx,yY k (h (.fm k) (by simp[cb]))]
 case ll k z b x y=>simp only[bx,yY k (h (.fm k) (by simp[cb]))]
 case load n bF x =>
  simp only[bx];rw[Qo (aiY (ak:=λj=>mem j=mem' j) h)]
 case sn n s x a b c =>
  cases c
  ·simp only[bx]
   congr 2
   funext l
   congr 1
   funext a8
   exact ai3 λj aa=>h (.fm j) (by simp[cb,aa])
  ·rfl
 case store n x v =>
  simp only[bx];exact ai2 λj aa=>h (.fm j) (by simp[cb,aa])
 case app k z b s x =>
  have bT:∀j,j=k\/j∈keyOf (aI tm s)\/j∈keyOf (aI tm x)->mem j=mem' j:=λj aa=>h (.fm j) (by simpa [cb] using aa);simp only[bx,XC (sz:=D z) (λj aa=>bT j (.inr (.inr aa)))];exact aiZ (bT k (.inl rfl)) λj aa=>bT j (.inr (.inl aa))
 case qb s d x =>
  have bT:∀j,j∈keyOf (aI tm d)\/j∈keyOf (aI tm x)->mem j=mem' j:=λj aa=>h (.fm j) (by simpa [cb] using aa);simp only[bx,XC (sz:=s) (λj aa=>bT j (.inr aa))];exact ai0 λj aa=>bT j (.inl aa)
 case so z x =>
  simp only[bx];exact ai1 λj aa=>h (.fm j) (by simp[cb,aa])
 case vc k=>simp only[bx,yY k (h (.fm k) (by simp[cb]))]
 case yE o z x i =>
  simp only[bx,KX];rw[XD (mem:=mem) (mem':=mem') (m:=aI tm x) λj aa=>h (.fm j) (by simp[cb,aa])]
 case w2 x i v =>
  simp only[bx,Gp];rw[XD (mem:=mem) (mem':=mem') (m:=aI tm x) λj aa=>h (.fm j) (by simp[cb,aa])]
def Qp {mem mem':Mem}{tm:Nat->I}{op:fe}(Z:∀bP f l,op ≠ .j4 bP f l)(h:∀x∈cb tm op,mem x.key=mem' x.key):ek T mem tm op=ek T mem' tm op:=by
 cases op
 case call=>rfl
 case ln k sz f l =>
  have:bw mem k=bw mem' k:=by
   have:=h (.fm k) (by simp[cb]);simp only[kt.key] at this;simp only[bw,this]
  simp only[ek,this]
 case j4 bP f l=>exact absurd rfl (Z bP f l)
 case ph j f l =>
  simp only[ek]
  cases hm:(l.map (aI tm))[j]? with
  |none=>rfl
  |some m =>
   cases m<;>try rfl
   have:=h (.fm _) (by simp only[cb,hm,tr];exact kV);simp only[kt.key] at this;simp only[Gu,this]
 case pj j f l =>
  simp only[ek]
  cases hm:(l.map (aI tm))[j]? with
  |none=>rfl
  |some m =>
   cases m<;>try rfl
   have:=h (.fm _) (by simp only[cb,hm,tr];exact kV);simp only[kt.key] at this;simp only[Gv,this]
 case jH=>rfl
 case kQ=>rfl
 all_goals exact ai4 (mem:=mem) (mem':=mem') (tm:=tm) h
def Ln {x:Option I}{m:I}{e:Option (Key×Nat×List I)}(h:hH x=some (m,e)):e=none:=(Xo h).2
def ai5 {mem:Mem}{tm:Nat->I}{op:fe}{m:I}{e:Option (Key×Nat×List I)}(h:bx mem tm op=some (m,e)):e=none\/(fC op=true/\∃k g cs,e=some (k,g,cs) /\ .fm k∈cb tm op):=by
 cases op<;>try (first|exact .inl (Ln h)|exact .inl (Ln (x:=some _) h))
 case alloc k z =>
  simp only[bx,bH,ei] at h;exact .inr ⟨rfl,_,_,_,h.2.symm,by simp[cb]⟩
 case box k x =>
  simp only[bx] at h
  split at h<;>simp only[bH,ei,reduceCtorEq] at h
  exact .inr ⟨rfl,_,_,_,h.2.symm,by simp[cb]⟩
 case eg k o z sz len cH =>
  cases o
  ·exact .inl (Ln h)
  ·simp only[bx,CZ] at h
   (repeat' split at h)<;>simp only[bH,ei,reduceCtorEq] at h
   exact .inr ⟨rfl,_,_,_,h.2.symm,by simp[cb]⟩
 case ll k z b x y =>
  obtain⟨_,_,_,_,h⟩:=Xp h;simp only[C0] at h
  split at h<;>simp only[bH,ei,reduceCtorEq] at h
  exact .inr ⟨rfl,_,_,_,h.2.symm,by simp[cb]⟩
 case sn n s x a b c =>
  cases c
  ·exact .inl (Ln h)
  ·cases h
 case store n x v =>
  simp only[bx] at h
  cases J:aI tm x<;>rw[J] at h<;>simp only[ve,reduceCtorEq] at h
  simp only[Gn] at h
  (repeat' split at h)<;>simp only[bH,ei,reduceCtorEq] at h
  exact .inr ⟨rfl,_,_,_,h.2.symm,by simp[cb,J,keyOf]⟩
 case app k z b s x =>
  simp only[bx] at h
  cases M:ow mem (D z) (aI tm x)<;>cases R:aI tm s<;>rw[M,R] at h<;>simp only[pk,reduceCtorEq] at h
  ·split at h<;>simp only[bH,ei,reduceCtorEq] at h
   exact .inr ⟨rfl,_,_,_,h.2.symm,by simp[cb]⟩
  ·simp only[mw] at h
   (repeat' split at h)<;>simp only[bH,ei,reduceCtorEq] at h
   exact .inr ⟨rfl,_,_,_,h.2.symm,by simp[cb,R,keyOf]⟩
 case qb s d x =>
  simp only[bx] at h
  cases M:ow mem s (aI tm x)<;>cases R:aI tm d<;>rw[M,R] at h<;>simp only[tq,reduceCtorEq] at h
  simp only[yH] at h
  (repeat' split at h)<;>simp only[bH,ei,reduceCtorEq] at h
  exact .inr ⟨rfl,_,_,_,h.2.symm,by simp[cb,R,keyOf]⟩
 case so z x =>
  simp only[bx] at h
  cases R:aI tm x<;>rw[R] at h<;>simp only[vf,reduceCtorEq] at h
  simp only[KV] at h
  (repeat' split at h)<;>simp only[bH,ei,reduceCtorEq] at h
  exact .inr ⟨rfl,_,_,_,h.2.symm,by simp[cb,R,keyOf]⟩
 case vc k =>
  simp only[bx,bH,ei] at h;exact .inr ⟨rfl,_,_,_,h.2.symm,by simp[cb]⟩
 case w2 x i v =>
  simp only[bx] at h;unfold Gp at h
  split at h
  ·rename_i k g cs s eB cm
   split at h
   ·split at h
    ·cases h;refine .inr ⟨rfl,_,_,_,rfl,?_⟩;unfold yI at eB
     split at eB
     ·rename_i J
      (repeat' split at eB)<;>cases eB
      simp[cb,J,Gq]
     ·cases eB
    ·cases h
   ·cases h
  ·cases h
 all_goals cases h
def XE {mem:Mem}{j:Nat}{f:FuncId}{ms:List I}{x:Option I}{m:I}{e:Option (Key×Nat×List I)}(h:Gu T mem j f ms x=some (m,e)):
  ∃k g sz off len cs d r,x=some (.ref k g sz off len)/\mem k=some (g,cs)/\Gs sz off len cs=some d/\KY (T f (ms.set j (.L d)) emp)=some r/\m=.L r/\e=some (k,bw mem k,[]):=by
 unfold Gu at h
 split at h
 ·rename_i k g sz off len;unfold PO at h
  split at h
  ·rename_i cf cs hm
   split at h
   ·rename_i aC;subst aC
    split at h
    ·rename_i d ae
     split at h
     ·rename_i r M;simp only[bH,ei] at h;exact⟨k,_,sz,off,len,cs,d,r,rfl,hm,ae,M,h.1.symm,by rw[<-h.2];simp[bw,hm]⟩
     ·cases h
    ·cases h
   ·cases h
  ·cases h
 ·cases h
def XF {mem:Mem}{j:Nat}{f:FuncId}{ms:List I}{x:Option I}{m:I}{e:Option (Key×Nat×List I)}(h:Gv T mem j f ms x=some (m,e)):
  ∃k g sz off len cf cs r,x=some (.ref k g sz off len)/\mem k=some (cf,cs)/\q3 cs=true/\T f (ms.set j (.ref k g sz off len)) (aV emp k cf cs)=some (.w5 r k)/\m=.L r/\e=some (k,bw mem k,[]):=by
 unfold Gv at h
 split at h
 ·rename_i k g sz off len;unfold PQ at h
  split at h
  ·rename_i cf cs hm
   split at h
   ·rename_i ae
    split at h
    ·rename_i r k' M
     split at h
     ·rename_i Q;subst Q;simp only[bH,ei] at h;exact⟨_,g,sz,off,len,cf,cs,r,rfl,hm,ae,M,h.1.symm,by rw[<-h.2];simp[bw,hm]⟩
     ·cases h
    ·cases h
   ·cases h
  ·cases h
 ·cases h
def XG {bP:Nat}{mem:Mem}{ms:List I}{x:Option fR}{m:I}{e:Option (Key×Nat×List I)}(h:C1 bP mem ms x=some (m,e)):
  ∃r k g i c cs,x=some (.eM r k g i c)/\mem k=some (g,cs)/\m=.L r/\e=some (k,g,cs.set i c)/\Gr bP ms=[.wr k i]:=by
 unfold C1 at h
 split at h
 ·rename_i k g off rest r k' cf i c
  split at h
  ·rename_i GY cs hm
   split at h
   ·rename_i Z;obtain⟨rfl,rfl,rfl⟩:=Z;simp only[bH,ei] at h;exact⟨r,_,_,_,c,cs,rfl,hm,h.1.symm,h.2.symm,rfl⟩
   ·cases h
  ·cases h
 ·cases h
def Lo {mem:Mem}{tm:Nat->I}{op:fe}{m:I}{e:Option (Key×Nat×List I)}(h:ek T mem tm op=some (m,e)):e=none\/(fC op=true/\∃k g cs,e=some (k,g,cs)/\(.fm k∈cb tm op\/∃i c rh,cb tm op=[.wr k i]/\mem k=some (g,rh)/\cs=rh.set i c)):=by
 have pl:bx mem tm op=some (m,e)->e=none\/(fC op=true/\∃k g cs,e=some (k,g,cs)/\(.fm k∈cb tm op\/∃i c rh,cb tm op=[.wr k i]/\mem k=some (g,rh)/\cs=rh.set i c)):=λh=>by
  rcases ai5 h with h|⟨E,k,g,cs,G,ad⟩
  ·exact .inl h
  ·exact .inr ⟨E,k,g,cs,G,.inl ad⟩
 cases op
 case call f l =>
  simp only[ek] at h
  split at h<;>simp only[bH,ei,reduceCtorEq] at h
  ·exact .inl h.2.symm
  ·exact .inl h.2.symm
 case ln k sz f l =>
  simp only[ek] at h
  (repeat' split at h)<;>simp only[bH,ei,reduceCtorEq] at h
  exact .inr ⟨rfl,_,_,_,h.2.symm,.inl (by simp[cb])⟩
 case jH f l =>
  simp only[ek] at h
  (repeat' split at h)<;>simp only[bH,ei,reduceCtorEq] at h
  exact .inl h.2.symm
 case kQ=>cases h
 case j4 bP f l =>
  obtain⟨r,k,g,i,c,cs,-,hm,-,he,ao⟩:=XG h;exact .inr ⟨rfl,k,g,_,he,.inr ⟨i,c,cs,ao,hm,rfl⟩⟩
 case ph j f l =>
  simp only[ek] at h;obtain⟨k,g,sz,off,len,cs,d,r,J,hm,-,-,-,he⟩:=XE h;exact .inr ⟨rfl,k,_,_,he,.inl (by simp only[cb,J,tr];exact kV)⟩
 case pj j f l =>
  simp only[ek] at h;obtain⟨k,g,sz,off,len,cf,cs,r,J,hm,-,-,-,he⟩:=XF h;exact .inr ⟨rfl,k,_,_,he,.inl (by simp only[cb,J,tr];exact kV)⟩
 all_goals exact pl h
def ai6 {tm:Nat->I}{op:fe}{b:kt}(U:b∈cb tm op):(∃k,b=.fm k)\/(∃n bF x k g off,op=.load n bF x/\aI tm x=.ptr k g off/\b=.rd k off (off+n))\/∃bP f l,op=.j4 bP f l:=by
 cases op
 case load n bF x =>
  simp only[cb] at U
  cases J:aI tm x<;>rw[J] at U<;>simp[yJ] at U
  ·exact .inl ⟨_,U⟩
  ·exact .inr (.inl ⟨_,_,_,_,_,_,rfl,J,U⟩)
 case j4 bP f l=>exact .inr (.inr ⟨_,_,_,rfl⟩)
 case ph j f l =>
  simp only[cb] at U
  cases hm:(l.map (aI tm))[j]? with
  |none=>rw[hm] at U;simp[tr] at U
  |some m =>
   rw[hm] at U
   cases m<;>simp[tr] at U;exact .inl ⟨_,U⟩
 case pj j f l =>
  simp only[cb] at U
  cases hm:(l.map (aI tm))[j]? with
  |none=>rw[hm] at U;simp[tr] at U
  |some m =>
   rw[hm] at U
   cases m<;>simp[tr] at U;exact .inl ⟨_,U⟩
 case eg k o z sz len cH =>
  cases o<;>simp[cb] at U;exact .inl ⟨_,U⟩
 all_goals
  simp[cb] at U
  try first
   |exact .inl ⟨_,U⟩
   |(rcases U with ⟨k,_,h⟩|⟨k,_,h⟩<;>exact .inl ⟨k,h.symm⟩)
   |(rcases U with h|⟨k,_,h⟩|⟨k,_,h⟩<;>first|exact .inl ⟨_,h⟩|exact .inl ⟨_,h.symm⟩)
   |(obtain⟨k,_,h⟩:=U;exact .inl ⟨k,h.symm⟩)
def ai7 {cs:List I}{i off n:Nat}{c:I}(h:i<off\/off+n<=i):cut (cs.set i c) off n=cut cs off n:=by
 unfold cut;rw[fN]
 split
 ·congr 1
  rcases h with h|h
  ·rw[ri h]
  ·by_cases O:i<off
   ·rw[ri O]
   ·rw[List.drop_set,ar O,List.take_set_of_le (by omega)]
 ·rfl
def ai8 {mem:Mem}{k g i:Nat}{c:I}{cs:List I}{n:Nat}{bF:Bool}{k' cf off:Nat}(hm:mem k=some (g,cs))(h:k'≠k\/i<off\/off+n<=i):
  ib (aV mem k g (cs.set i c)) n bF (.ptr k' cf off)=ib mem n bF (.ptr k' cf off):=by
 by_cases Q:k'=k
 ·subst Q;have h:=h.resolve_left (λh=>h rfl);simp only[ib,aV,if_true,hm,ai7 h]
 ·simp only[ib,aV,Q,if_false]
def XH {mem:Mem}{tm:Nat->I}{x y:fe}{m:I}{e:Option (Key×Nat×List I)}(ai9:ek T mem tm x=some (m,e))(a5:pq (fC x,cb tm x) (fC y,cb tm y)=true):ek T (fA mem e) tm y=ek T mem tm y:=by
 rcases Lo ai9 with rfl|⟨hw,k,g,cs,rfl,Q⟩
 ·rfl
 ·have dQ:∀a∈cb tm x,∀b∈cb tm y,po a b=true:=by
   unfold pq at a5
   simpa [hw] using a5
  have aja:∀bP f l,y=.j4 bP f l->cb tm y=[]:=by
   rintro bP f l rfl
   cases U:cb tm (.j4 bP f l) with
   |nil=>rfl
   |cons b r =>
    exfalso
    have gX:∃k' a0,b=.wr k' a0:=by
     simp only[cb] at U;unfold Gr at U
     split at U
     ·cases U;exact⟨_,_,rfl⟩
     ·cases U
    obtain⟨k',a0,rfl⟩:=gX;have hm:kt.wr k' a0∈cb tm (.j4 bP f l):=by rw[U];exact kV
    rcases Q with Q|⟨i,c,rh,ao,_,_⟩
    ·have:=dQ _ Q _ hm;simp[po] at this
    ·have:=dQ (.wr k i) (by rw[ao];exact kV) _ hm;simp[po] at this
  by_cases ag:∃bP f l,y=.j4 bP f l
  ·obtain⟨bP,f,l,rfl⟩:=ag;have al:=aja _ _ _ rfl;simp only[cb] at al
   have aQ:∀mem' eE,C1 bP mem' (l.map (aI tm)) eE=none:=by
    intro mem' eE;unfold C1
    split
    ·rename_i heq;rw[heq] at al;simp[Gr] at al
    ·rfl
   simp only[ek,aQ]
  ·have Z:∀bP f l,y ≠ .j4 bP f l:=λbP f l h=>ag ⟨bP,f,l,h⟩;rcases Q with Q|⟨i,c,rh,ao,hm,rfl⟩
   ·refine (Qp Z λb U=>?_).symm;have E:=dQ _ Q b U
    have:b.key≠k:=by
     rintro rfl
     cases b<;>simp[po,kt.key] at E
    simp[fA,aV,this]
   ·have E:=dQ (.wr k i) (by rw[ao];exact kV)
    by_cases af:∃n bF z k' cf off,y=.load n bF z/\aI tm z=.ptr k' cf off
    ·obtain⟨n,bF,z,k',cf,off,rfl,aQ⟩:=af;have G:=E (.rd k' off (off+n)) (by simp[cb,aQ,yJ]);simp only[ek,bx,aQ,fA];rw[ai8 hm];simp[po] at G;exact G
    ·refine (Qp Z λb U=>?_).symm
     exfalso
     rcases ai6 U with ⟨k',rfl⟩|⟨n,bF,z,k',cf,off,ad,aK,_⟩|⟨bP,f,l,ad⟩
     ·have:=E _ U;simp[po] at this
     ·exact af ⟨n,bF,z,k',cf,off,ad,aK⟩
     ·exact Z _ _ _ ad
def Qq {tm:Nat->I}{op:fe}(h:lo op=0):cb tm op=[]/\fC op=false:=by
 cases op<;>simp_all [lo,fC,cb]
 all_goals (rename_i b _ _ _ _;cases b<;>simp_all [fC,cb])
def XI {op:fe}(h:lo op=1):fC op=false:=by
 cases op<;>simp_all [lo,fC]
 all_goals (rename_i b _ _ _ _;cases b<;>simp_all [fC])
end Go.Mini
namespace Go.Mini
open Go
variable {T:bl} {fG:Nat->Nat->Bool}
def iz (T:bl)(fG:Nat->Nat->Bool)(i:Nat)(x:bn)(rec:Rec)(st:a1)(h0:Rec)(bX:a1):Prop :=
 (gv st.tm x.g=some false/\h0=rec/\bX=⟨put st.tm x.dst .no,st.mem⟩) \/
 (gv st.tm x.g=some true/\∃m e,ek T st.mem st.tm x.op=some (m,e)/\(∀p q,fG p i=true->rec p=some q->pq q (fC x.op,cb st.tm x.op)=true) /\
  h0=ir rec i (fC x.op,cb st.tm x.op)/\bX=⟨put st.tm x.dst m,fA st.mem e⟩)
def kW {tm:Nat->I}{dst:Option Nat}{m:I}{s:Nat}(h:dst≠some s):put tm dst m s=tm s:=by
 cases dst with
 |none=>rfl
 |some d =>
  have:s≠d:=λe=>h (by rw[e]);simp[put,this]
def put_comm {tm:Nat->I}{d pz:Option Nat}{m m':I}(h:∀s,d=some s->pz≠some s):put (put tm d m) pz m'=put (put tm pz m') d m:=by
 funext s
 by_cases E:d=some s
 ·rw[kW (h s E)];subst E;simp[put]
 ·rw[kW (dst:=d) E]
  by_cases G:pz=some s
  ·subst G;simp[put]
  ·rw[kW G,kW G,kW E]
def GZ {tm tm':Nat->I}{g:Option (Nat×Bool)}(h:∀s b,g=some (s,b)->tm s=tm' s):gv tm g=gv tm' g:=by
 cases g with
 |none=>rfl
 |some p =>
  obtain⟨s,b⟩:=p;simp only[gv,h s b rfl]
def AL {x y:bn}(h:nV x y=true):(∀d,x.dst=some d->d ∉ looks y)/\(∀d,x.dst=some d->y.dst≠some d)/\(∀d,y.dst=some d->d ∉ looks x):=by
 refine⟨λd ae=>?_,λd ae=>?_,λd ae=>?_⟩<;>simp[nV,ae] at h
 ·exact h.1.1
 ·exact h.1.2
 ·exact h.2
def tI {x:bn}{s:Nat}(h:s∈nU x.op):s∈looks x:=by simp[looks,h]
def G0 {x:bn}{s:Nat}{b:Bool}(h:x.g=some (s,b)):s∈looks x:=by simp[looks,h]
def ajb (a b:kt):po a b=po b a:=by
 have Z:∀k k':Nat,(k==k')=(k'==k):=λk k'=>BEq.comm
 cases a<;>cases b<;>first|rfl|(unfold po;dsimp only;rw[Z])
def XJ {a b:Bool×List kt}(h:pq a b=true):pq b a=true:=by
 unfold pq at *;simp only[sF,Bool.not_eq_true',Bool.or_eq_false_iff,jO] at *;rcases h with ⟨E,G⟩|h
 ·exact .inl ⟨G,E⟩
 ·exact .inr λx J y ag=>by rw[ajb];exact h y ag x J
def ajc {mem:Mem}{e e':Option (Key×Nat×List I)}(h:∀j g cs hX cf gu,e=some (j,g,cs)->e'=some (hX,cf,gu)->j≠hX):fA (fA mem e) e'=fA (fA mem e') e:=by
 cases e with
 |none=>rfl
 |some p =>
  cases e' with
  |none=>rfl
  |some tJ =>
   obtain⟨j,g,cs⟩:=p;obtain⟨hX,cf,gu⟩:=tJ;have bc:=h _ _ _ _ _ _ rfl rfl
   funext k
   simp only[fA,aV]
   by_cases E:k=hX
   ·by_cases G:k=j
    ·exact absurd (G.symm.trans E) bc
    ·simp[E,G];intro ad;exact absurd ad.symm bc
   ·simp[E]
def Passes (fG:Nat->Nat->Bool)(i j:Nat)(x y:bn):Prop:=fG i j=true\/tt (lo x.op) (lo y.op)=true
def ajd {i j:Nat}{x y:bn}{tm:Nat->I}(h:Passes fG i j x y)(Z:fG i j=true->pq (fC x.op,cb tm x.op) (fC y.op,cb tm y.op)=true):
  pq (fC x.op,cb tm x.op) (fC y.op,cb tm y.op)=true:=by
 rcases h with h|h
 ·exact Z h
 ·unfold tt at h;simp only[sF,dH,beq_iff_eq] at h;rcases h with (h|h)|⟨E,G⟩
  ·obtain⟨E,G⟩:=Qq (tm:=tm) h;simp[pq,E]
  ·obtain⟨E,G⟩:=Qq (tm:=tm) h;simp[pq,E]
  ·have E:=XI E;have G:=XI G;simp[pq,E,G]
def iz.comm {i j:Nat}{x y:bn}{rec rec1 jP:Rec}{st st1 jg:a1}(hJ:i≠j)(dS:nV x y=true)(aD:Passes fG i j x y)(Qr:∀a b,fG a b=fG b a)(ly:rec i=none)
  (E:iz T fG i x rec st rec1 st1) (G:iz T fG j y rec1 st1 jP jg):∃vv iM,iz T fG j y rec st vv iM/\iz T fG i x vv iM jP jg:=by
 obtain⟨a5,U,Z⟩:=AL dS
 -- what one sees of xl other's temporary: nothing
 have AM:∀m,gv (put st.tm x.dst m) y.g=gv st.tm y.g:=λm=>GZ λs b R=>kW λae=>a5 s ae (G0 R);have G1:∀mem m,ek T mem (put st.tm x.dst m) y.op=ek T mem st.tm y.op:=λmem m=>Ll λs R=>kW λae=>a5 s ae (tI R);have y0:∀m,cb (put st.tm x.dst m) y.op=cb st.tm y.op:=λm=>Lm λs R=>kW λae=>a5 s ae (tI R);have Lp:∀m,gv (put st.tm y.dst m) x.g=gv st.tm x.g:=λm=>GZ λs b R=>kW λae=>Z s ae (G0 R);have XK:∀mem m,ek T mem (put st.tm y.dst m) x.op=ek T mem st.tm x.op:=λmem m=>Ll λs R=>kW λae=>Z s ae (tI R);have Lq:∀m,cb (put st.tm y.dst m) x.op=cb st.tm x.op:=λm=>Lm λs R=>kW λae=>Z s ae (tI R);have pD:∀m m',put (put st.tm x.dst m) y.dst m'=put (put st.tm y.dst m') x.dst m:=λm m'=>put_comm U;rcases E with ⟨cA,rfl,rfl⟩|⟨cA,ba,aL,s1,bU,rfl,rfl⟩<;>rcases G with ⟨cY,rfl,rfl⟩|⟨cY,bJ,ax,s2,c6,rfl,rfl⟩<;>simp only[AM,G1,y0] at *
 ·exact⟨_,_,.inl ⟨cY,rfl,rfl⟩,.inl ⟨by simp only[Lp];exact cA,rfl,by simp only[pD]⟩⟩
 ·exact⟨_,_,.inr ⟨cY,bJ,ax,s2,c6,rfl,rfl⟩,.inl ⟨by simp only[Lp];exact cA,rfl,by simp only[pD]⟩⟩
 ·exact⟨_,_,.inl ⟨cY,rfl,rfl⟩,.inr ⟨by simp only[Lp];exact cA,ba,aL,by simp only[XK];exact s1,by simp only[Lq];exact bU,by simp only[Lq],by simp only[pD]⟩⟩
 ·have XL:fG i j=true->pq (fC x.op,cb st.tm x.op) (fC y.op,cb st.tm y.op)=true:=λh=>c6 i _ h (by simp[ir]);have y1:=ajd (tm:=st.tm) aD XL;have Qs:ek T st.mem st.tm y.op=some (bJ,ax):=by rw[<-s2];exact (XH s1 y1).symm
  have g0:∀j g cs hX cf gu,aL=some (j,g,cs)->ax=some (hX,cf,gu)->j≠hX:=by
   rintro k g cs k' cf gu rfl rfl rfl;rcases Lo s1 with h|⟨hw,e0,cY,GK,h,E⟩
   ·cases h
   ·cases h;rcases Lo Qs with h|⟨XM,c9,ht,axJ,h,G⟩
    ·cases h
    ·cases h;unfold pq at y1;simp only[hw,Bool.true_or,Bool.not_true,Bool.false_or,jO] at y1;rcases E with E|⟨i,c,rh,E,_,_⟩<;>rcases G with G|⟨a0,c',axK,G,_,_⟩
     ·have:=y1 _ E _ G;simp[po] at this
     ·have:=y1 _ E (.wr k a0) (by rw[G];exact kV);simp[po] at this
     ·have:=y1 (.wr k i) (by rw[E];exact kV) _ G;simp[po] at this
     ·have:=y1 (.wr k i) (by rw[E];exact kV) (.wr k a0) (by rw[G];exact kV);simp[po] at this
  refine⟨_,_,.inr ⟨cY,bJ,ax,Qs,λp q y2 aM=>?_,rfl,rfl⟩,.inr ⟨by simp only[Lp];exact cA,ba,aL,?_,?_,?_,?_⟩⟩
  ·have bc:p≠i:=λh=>by rw[h,ly] at aM;cases aM
   exact c6 p q y2 (by simp[ir,bc,aM])
  ·simp only[XK];rw[<-s1];exact XH Qs (XJ y1)
  ·simp only[Lq];intro p q Lr aM
   by_cases y2:p=j
   ·subst y2;simp only[ir,if_true,bH] at aM;subst aM;exact XJ (XL (by rw[Qr];exact Lr))
   ·simp only[ir,y2,if_false] at aM;exact bU p q Lr aM
  ·simp only[Lq]
   funext p
   simp only[ir]
   by_cases E:p=i
   ·subst E;simp[hJ]
   ·simp[E]
  ·simp only[pD];rw[ajc g0]
end Go.Mini
namespace Go.Mini
open Go
variable {T:bl} {fG:Nat->Nat->Bool} {ops:Array Oper} {l:List bn} {K:a1->Prop}
abbrev tK:=Nat->bn->Rec->a1->Rec->a1->Prop
variable {b6:tK}
def AN (b6:tK)(ops:Array Oper)(l:List bn)(K:a1->Prop):Nat->Array Bool->Rec->a1->Prop
 |0,listed,_,st=>Region.ready .any ops listed=[]/\K st
 |fuel+1,listed,rec,st=>(Region.ready .any ops listed=[]->K st) /\
  ∀i∈Region.ready .any ops listed,∃x h0 bX,l[i]?=some x/\b6 i x rec st h0 bX/\AN b6 ops l K fuel (listed.setIfInBounds i true) h0 bX
def vw (ops:Array Oper)(listed:Array Bool):Prop :=
 listed.size=ops.size/\∀(j:Nat) (o:Oper),ops[j]?=some o->listed.getD j false=true->∀e∈o.after,Region.binds .any e=true->listed.getD e.on false=true
def vw.set {listed:Array Bool}{i:Nat}(h:vw ops listed)(O:i∈Region.ready .any ops listed):vw ops (listed.setIfInBounds i true):=by
 refine⟨by simp[h.1],λj o aa af e he U=>?_⟩
 by_cases hK:j=i
 ·subst hK;obtain⟨_,xm,aZ,dQ⟩:=mem_ready.1 O;rw[aa] at aZ
  cases aZ;exact getD_set_true (dQ e he U)
 ·rw[getD_set_ne false (Ne.symm hK)] at af;exact getD_set_true (h.2 j o aa af e he U)
def Qt (fG:Nat->Nat->Bool)(ops:Array Oper)(l:List bn):Prop :=
 ∀(i j:Nat) (x y:bn),i≠j->l[i]?=some x->l[j]?=some y ->
  (∀listed,vw ops listed->i∈Region.ready .any ops listed->j∈Region.ready .any ops listed->False)\/(nV x y=true/\Passes fG i j x y)
def Qu {i k:Nat}{x:bn}{rec h0:Rec}{st bX:a1}(h:iz T fG i x rec st h0 bX)(Q:k≠i):h0 k=rec k:=by
 rcases h with ⟨_,rfl,_⟩|⟨_,_,_,_,_,rfl,_⟩
 ·rfl
 ·simp[ir,Q]
def aje {listed:Array Bool}{i k:Nat}(h:(listed.setIfInBounds i true).getD k true=false):k≠i/\listed.getD k true=false:=by
 by_cases vx:i=k
 ·subst vx
  exfalso
  by_cases au:i<listed.size
  ·simp[au] at h
  ·have:(listed.setIfInBounds i true).size<=i:=by simp;omega
   rw[Array.getD_eq_getD_getElem?,Array.getElem?_eq_none this] at h;simp at h
 ·rw[getD_set_ne true vx] at h;exact⟨λbT=>vx bT.symm,h⟩
def G2 (b6:tK)(ops:Array Oper)(l:List bn):Prop :=
 ∀(i j:Nat) (x y:bn),i≠j->l[i]?=some x->l[j]?=some y ->
  (∀listed,vw ops listed->i∈Region.ready .any ops listed->j∈Region.ready .any ops listed->False) \/
  ∀rec st rec1 st1 jP jg,rec i=none->rec j=none->b6 i x rec st rec1 st1->b6 j y rec1 st1 jP jg->∃vv iM,b6 j y rec st vv iM/\b6 i x vv iM jP jg
def G3 (b6:tK):Prop:=∀i x rec st h0 bX,b6 i x rec st h0 bX->∀k,k≠i->h0 k=rec k
def XN (aD:Qt fG ops l)(Qr:∀a b,fG a b=fG b a):G2 (iz T fG) ops l:=λi j x y hJ O aa =>
 (aD i j x y hJ O aa).imp id fun⟨a5,U⟩ _ _ _ _ _ _ M _ E G=>iz.comm hJ a5 U Qr M E G
def XO:G3 (iz T fG):=λ_ _ _ _ _ _ h _ Q=>Qu h Q
def ajf (aD:G2 b6 ops l)(AO:G3 b6){i:Nat}{x:bn}(O:l[i]?=some x):∀(fuel:Nat) (listed:Array Bool) (rec:Rec) (st:a1) (rec1:Rec) (st1:a1),
  vw ops listed->(∀k,listed.getD k true=false->rec k=none)->i∈Region.ready .any ops listed->b6 i x rec st rec1 st1 ->
  AN b6 ops l K fuel (listed.setIfInBounds i true) rec1 st1->AN b6 ops l K (fuel+1) listed rec st:=by
 intro fuel
 induction fuel with
 |zero =>
  intro listed rec st rec1 st1 dP jQ M he H;refine⟨λh=>(by rw[h] at M;cases M),λj aa=>?_⟩
  by_cases hK:j=i
  ·subst hK;exact⟨x,rec1,st1,O,he,H⟩
  ·have:=ready_mono aa hK;rw[H.1] at this
   cases this
 |succ fuel aF =>
  intro listed rec st rec1 st1 dP jQ M he H;refine⟨λh=>(by rw[h] at M;cases M),λj aa=>?_⟩
  by_cases hK:j=i
  ·subst hK;exact⟨x,rec1,st1,O,he,H⟩
  ·obtain⟨y,jP,jg,ag,eB,ep⟩:=H.2 j (ready_mono aa hK);rcases aD i j x y (Ne.symm hK) O ag with kz|g0
   ·exact (kz listed dP M aa).elim
   ·obtain⟨vv,iM,E,G⟩:=g0 _ _ _ _ _ _ (jQ i (mem_ready.1 M).1) (jQ j (mem_ready.1 aa).1) he eB;refine⟨y,vv,iM,ag,E,aF _ vv iM jP jg (dP.set aa) (λk Q=>?_) (ready_mono M (Ne.symm hK)) G ?_⟩
    ·obtain⟨ad,aK⟩:=aje Q;rw[AO _ _ _ _ _ _ E k ad];exact jQ k aK
    ·rw[Array.setIfInBounds_comm _ _ hK];exact ep
def Qv:∀(r:List Oper) (acc:List Nat) (k:Nat),k<(D acc)->(fo r acc).getD k 0=acc.getD k 0
 | [],acc,k,_=>rfl
 |o::r,acc,k,Q=>by
  simp only[fo];rw[Qv r _ k (by simp;omega)];simp only[eF];rw[C9 Q]
def ajg {es:List Edge}{acc:List Nat}{i:Nat}:∀(s:Nat),(es.foldl (λs e=>if Region.binds .any e=true then s ||| (2^e.on ||| acc.getD e.on 0) else s) s).testBit i=true ->
  s.testBit i=true\/∃e∈es,Region.binds .any e=true/\(e.on=i\/(acc.getD e.on 0).testBit i=true):=by
 induction es with
 |nil=>exact λs h => .inl h
 |cons e es aF =>
  intro s h;rw[W1] at h;rcases aF _ h with E|⟨e',E,G⟩
  ·split at E
   ·rename_i U;rw[XP,XP,sF,sF] at E;rcases E with E|E|E
    ·exact .inl E
    ·rw[Nat.testBit_two_pow] at E;exact .inr ⟨e,by simp,U,.inl (by simpa using E)⟩
    ·exact .inr ⟨e,by simp,U,.inr E⟩
   ·exact .inl E
  ·exact .inr ⟨e',by simp[E],G⟩
def XQ:∀(r:List Oper) (acc:List Nat) (t:Nat) (o:Oper),r[t]?=some o->∀i,((fo r acc).getD (D acc+t) 0).testBit i=true ->
  ∃e∈o.after.toList,Region.binds .any e=true/\(e.on=i\/(e.on<D acc+t/\((fo r acc).getD e.on 0).testBit i=true))
 | [],_,_,_,h,_,_=>by simp at h
 |xm::r,acc,0,o,h,i,U=>by
  simp at h;subst h;simp only[fo,kv] at U ⊢;rw[Qv r _ _ (by simp)] at U;simp only[eF] at U;rw[Av (bM _)] at U;simp only[lW,G4,Qg] at U;rcases ajg (acc:=acc) 0 (by simpa only [eF] using U) with E|⟨e,E,G,ad⟩
  ·simp at E
  ·refine⟨e,E,G,ad.imp id λh=>?_⟩
   have au:e.on<D acc:=by
    rcases fE e.on (D acc) with bT|bT
    ·exact bT
    ·rw[eF,mO bT] at h;simp at h
   refine⟨au,?_⟩;rw[Qv r _ _ (by simp;omega),eF,C9 au,<-eF];exact h
 |xm::r,acc,t+1,o,h,i,U=>by
  have bT:r[t]?=some o:=by simpa using h
  simp only[fo] at U ⊢
  have:=XQ r (acc++[xm.after.toList.foldl (λs e=>if Region.binds .any e=true then s ||| (2^e.on ||| acc.getD e.on 0) else s) 0]) t o bT i (by
   rw[lk,List.length_singleton,q7,An 1 t];exact U)
  obtain⟨e,E,G,ad⟩:=this;refine⟨e,E,G,ad.imp id λh=>⟨by have:=h.1;simp at this;omega,h.2⟩⟩
def XR {listed:Array Bool}(dP:vw ops listed):∀(j:Nat) (o:Oper),ops[j]?=some o->(∀e∈o.after,Region.binds .any e=true->listed.getD e.on false=true) ->
  ∀i,((fo ops.toList []).getD j 0).testBit i=true->listed.getD i false=true:=by
 intro j
 induction j using Nat.strongRecOn with
 |_ j aF =>
  intro o aZ dQ i O;obtain⟨e,he,U,h⟩:=XQ ops.toList [] j o (by simpa using aZ) i (by simpa using O);have af:=dQ e (by simpa using he) U;rcases h with rfl|⟨au,ajh⟩
  ·exact af
  ·have dC:e.on<ops.size:=by
    rw[<-dP.1];rcases fE e.on listed.size with bT|bT
    ·exact bT
    ·simp[Array.getElem?_eq_none bT] at af
   have XS:ops[e.on]?=some ops[e.on]:=Array.getElem?_eq_getElem dC;exact aF e.on (by simpa using au) _ XS (dP.2 e.on _ XS af) i ajh
def XT:∀(cs pre:List bn) (as:List Nat),w7 pre cs as=true->∀(t:Nat) (y:bn),cs[t]?=some y->∀(i:Nat) (x:bn),(pre++cs)[i]?=some x->i<D pre+t ->
  (as.getD t 0).testBit i=true\/nV x y=true
 | [],_,_,_,_,_,h,_,_,_,_=>by simp at h
 |_::_,_,[],h,_,_,_,_,_,_,_=>by simp[w7] at h
 |c::cs,pre,a::as,h,0,y,ag,i,x,J,au=>by
  simp only[w7,dH,jO] at h;simp at ag;subst ag;have O:i<D pre:=by simpa using au
  rw[C9 O] at J;have:=h.1 (x,i) (by rw[Dp];exact J)
  simpa using this
 |c::cs,pre,a::as,h,t+1,y,ag,i,x,J,au=>by
  simp only[w7,dH] at h;have:=XT cs (pre++[c]) as h.2 t y (by simpa using ag) i x (by simpa using J) (by simp;omega)
  simpa using this
def XU:∀(cs pre:List bn) (as:List Nat) (t:Nat) (y:bn),cs[t]?=some y->∀(i:Nat) (x:bn),(pre++cs)[i]?=some x->i<D pre+t ->
  (as.getD t 0).testBit i=true\/tt (lo x.op) (lo y.op)=true\/i∈(lp pre cs as).getD t []
 | [],_,_,_,_,h,_,_,_,_=>by simp at h
 |c::cs,pre,as,0,y,ag,i,x,J,au=>by
  simp at ag;subst ag;have O:i<D pre:=by simpa using au
  rw[C9 O] at J;have gw:(x,i)∈pre.zipIdx:=by rw[Dp];exact J
  by_cases E:(as.getD 0 0).testBit i=true
  ·exact .inl E
  ·by_cases G:tt (lo x.op) (lo c.op)=true
   ·exact .inr (.inl G)
   ·refine .inr (.inr ?_);simp only[lp,eF,G4,Qg];refine List.mem_map.2 ⟨(x,i),List.mem_filter.2 ⟨gw,?_⟩,rfl⟩;have ad:as.headD 0=as.getD 0 0:=by cases as<;>rfl
    simp only[ad];rw[eF] at E;simp[E,G]
 |c::cs,pre,as,t+1,y,ag,i,x,J,au=>by
  have:=XU cs (pre++[c]) as.tail t y (by simpa using ag) i x (by simpa using J) (by simp;omega);have ad:as.tail.getD t 0=as.getD (t+1) 0:=by cases as<;>simp
  rw[ad] at this
  simpa [lp] using this
def l0 (c:List (List Nat))(i j:Nat):Bool:=if i<j then (c.getD j []).contains i else if j<i then (c.getD i []).contains j else false
def Ls (c:List (List Nat))(i j:Nat):l0 c i j=l0 c j i:=by
 unfold l0
 by_cases E:i<j
 ·simp[E,XV E]
 ·by_cases G:j<i
  ·simp[G,XV G]
  ·simp[E,G]
def aji {x y:bn}(h:nV x y=true):nV y x=true:=by
 obtain⟨E,G,ad⟩:=AL h;unfold nV;rw[dH]
 constructor
 ·cases ag:y.dst with
  |none=>rfl
  |some d =>
   have a:=ad d ag;have b:x.dst≠some d:=λJ=>G d J ag;simp[a,b]
 ·cases J:x.dst with
  |none=>rfl
  |some d =>
   have a:=E d J;simp[a]
def ajj (a b:Nat):tt a b=tt b a:=by
 unfold tt
 cases (a==0)<;>cases (b==0)<;>cases (a==1)<;>cases (b==1)<;>rfl
def Qw (ae:pr ops l=true):Qt (l0 (lp [] l (fo ops.toList []))) ops l:=by
 have key:∀(i j:Nat) (x y:bn),i<j->l[i]?=some x->l[j]?=some y ->
   (∀listed,vw ops listed->i∈Region.ready .any ops listed->j∈Region.ready .any ops listed->False) \/
   (nV x y=true/\(l0 (lp [] l (fo ops.toList [])) i j=true\/tt (lo x.op) (lo y.op)=true)):=by
  intro i j x y hJ J ag;unfold pr at ae;rw[dH] at ae
  by_cases U:((fo ops.toList []).getD j 0).testBit i=true
  ·refine .inl λlisted dP O aa=>?_;obtain⟨_,o,aZ,dQ⟩:=mem_ready.1 aa;have E:=XR dP j o aZ dQ i U;have al:=(mem_ready.1 O).1;rcases fE i listed.size with bT|bT
   ·simp[bT] at al E;rw[al] at E;cases E
   ·simp[Array.getElem?_eq_none bT] at E
  ·refine .inr ⟨?_,?_⟩
   ·rcases XT l [] _ ae.2 j y ag i x (by simpa using J) (by simpa using hJ) with h|h
    ·exact absurd h U
    ·exact h
   ·rcases XU l [] (fo ops.toList []) j y ag i x (by simpa using J) (by simpa using hJ) with h|h|h
    ·exact absurd h U
    ·exact .inr h
    ·exact .inl (by unfold l0;rw[aq hJ];exact XW.2 h)
 intro i j x y hJ J ag;rcases Nat.lt_or_gt_of_ne hJ with h|h
 ·exact key i j x y h J ag
 ·rcases key j i y x h ag J with E|⟨E,G⟩
  ·exact .inl λlisted dP O aa=>E listed dP aa O
  ·refine .inr ⟨aji E,?_⟩;rcases G with G|G
   ·exact .inl (by rw[Ls];exact G)
   ·exact .inr (by rw[ajj];exact G)
end Go.Mini
namespace Go.Mini
open Go
variable {P:Program} {aU:Option I} {T:bl} {A:Nat->Prop} {b5 w:World} {c8 B:cG} {mem:Mem} {n kb:Nat} {own:List Nat} {ops:Array Oper} {l:List bn} {K:a1->Prop} {ak:Exit->Act->World->Prop}
def XX:∀(r:List Oper) (m:Nat),w8 m r=true->∀(t:Nat) (o:Oper),r[t]?=some o->∀e∈o.after,Region.binds .any e=true->e.on<m+t
 | [],_,_,_,_,h,_,_,_=>by simp at h
 |xm::r,m,h,0,o,aZ,e,he,U=>by
  simp only[w8,dH] at h;simp at aZ;subst aZ;have:=(Array.all_eq_true_iff_forall_mem.1 h.1) e he
  simpa [U] using this
 |xm::r,m,h,t+1,o,aZ,e,he,U=>by
  simp only[w8,dH] at h;have:=XX r (m+1) h.2 t o (by simpa using aZ) e he U;omega
inductive xn (b6:tK) (K:a1->Prop):Nat->List bn->Rec->a1->Prop
 |nil {m:Nat} {rec:Rec} {st:a1} (h:K st):xn b6 K m [] rec st
 |cons {m:Nat} {x:bn} {r:List bn} {rec rec1:Rec} {st st1:a1} (h:b6 m x rec st rec1 st1) (M:xn b6 K (m+1) r rec1 st1):xn b6 K m (x::r) rec st
def Qx {b6:tK}(aD:G2 b6 ops l)(AO:G3 b6)(af:(D l)=ops.size)(he:w8 0 ops.toList=true):∀(r:List bn) (m:Nat) (rec:Rec) (st:a1) (listed:Array Bool),l.drop m=r->m+D r=(D l) ->
  listed.size=ops.size->(∀i,i<ops.size->listed.getD i true=decide (i<m))->(∀k,m<=k->rec k=none)->xn b6 K m r rec st->AN b6 ops l K (D r) listed rec st
 | [],m,rec,st,listed,M,hm,R,fv,jQ,.nil h=>by
  refine⟨List.eq_nil_iff_forall_not_mem.2 λi O=>?_,h⟩;obtain⟨E,o,aZ,_⟩:=mem_ready.1 O;have au:i<ops.size:=(Array.getElem?_eq_some_iff.1 aZ).1;rw[fv i au] at E;simp at E hm;omega
 |x::r,m,rec,st,listed,M,hm,R,fv,jQ,.cons (rec1:=rec1) (st1:=st1) hex Q=>by
  have au:m<ops.size:=by simp at hm;omega
  have aZ:ops[m]?=some ops[m]:=Array.getElem?_eq_getElem au
  have J:l[m]?=some x:=by
   have:(l.drop m)[0]?=some x:=by rw[M];rfl
   simpa using this
  have hZ:=λ(j:Nat) (o:Oper) (aa:ops[j]?=some o)=>XX ops.toList 0 he j o (by simpa using aa)
  have ga:∀i,i<m->listed.getD i false=true:=λi O=>by
   have E:=fv i (by omega);rw[lU O] at E;have G:i<listed.size:=by omega
   simpa [G] using E
  have dP:vw ops listed:=⟨R,λj o aa iv e lX U=>by
   have E:=hZ j o aa e lX U;have jz:j<ops.size:=(Array.getElem?_eq_some_iff.1 aa).1
   have G:j<m:=by
    have:=fv j jz;have ad:j<listed.size:=by omega
    simp[ad] at iv this;rw[iv] at this
    simpa using this.symm
   exact ga _ (by omega)⟩
  have ajk:m∈Region.ready .any ops listed:=mem_ready.2 ⟨by rw[fv m au];simp,_,aZ,λe lX U=>ga _ (by have:=hZ m _ aZ e lX U;omega)⟩
  have ajl:∀k,listed.getD k true=false->rec k=none:=λk Q=>jQ k (by
   rcases fE k ops.size with bT|bT
   ·rw[fv k bT] at Q
    simpa using Q
   ·omega)
  refine ajf aD AO J _ listed rec st rec1 st1 dP ajl ajk hex (Qx aD AO af he r (m+1) rec1 st1 _ ?_ (by simp at hm;omega) (by simpa using R) (λi O=>?_) (λk Q=>?_) Q)
  ·rw[<-xo,M]
   rfl
  ·by_cases him:m=i
   ·subst him;have:m<listed.size:=by omega
    simp[this]
   ·rw[getD_set_ne true him,fv i O]
    congr 1
    simp;omega
  ·rw[AO _ _ _ _ _ _ hex k (by omega)];exact jQ k (by omega)
def XY {c:List (List Nat)}:∀(r:List bn) (m:Nat) (rec:Rec) (st:a1),(∀k,m<=k->rec k=none)->ss T K m r (c.drop m) rec st->xn (iz T (l0 c)) K m r rec st
 | [],m,rec,st,_,h => .nil h
 |x::r,m,rec,st,jQ,h=>by
  simp only[ss] at h
  split at h
  ·cases h
  ·rename_i g aC
   have next:∀rec1 st1,iz T (l0 c) m x rec st rec1 st1->ss T K (m+1) r (c.drop m).tail rec1 st1->xn (iz T (l0 c)) K m (x::r) rec st:=λrec1 st1 hex Q=>by
    rw[List.tail_drop] at Q;exact .cons hex (XY r (m+1) rec1 st1 (λk Q=>by rw[Qu hex (by omega)];exact jQ k (by omega)) Q)
   split at h
   ·rename_i lz;subst lz
    split at h
    ·rename_i hG e R;refine next _ _ (.inr ⟨aC,hG,e,R,λp q lA aM=>?_,rfl,rfl⟩) h.2
     have vm:p<m:=by
      rcases fE p m with bT|bT
      ·exact bT
      ·rw[jQ p bT] at aM;cases aM
     have xp:=h.1;unfold q4 at xp;rw[jO] at xp
     have gw:p∈(c.drop m).headD []:=by
      unfold l0 at lA;rw[aq vm] at lA
      have:(c.drop m).headD []=c.getD m []:=by
       rw[List.headD_eq_head?_getD,List.head?_drop,eF]
      rw[this];exact XW.1 lA
     have:=xp p gw;rw[aM] at this;exact this
    ·cases h
   ·rename_i ajm;have ajn:g=false:=by simpa using ajm
    subst ajn;exact next _ _ (.inl ⟨aC,rfl,rfl⟩) h
def ajo {c:List (List Nat)}(aD:Qt (l0 c) ops l)(af:(D l)=ops.size)(he:w8 0 ops.toList=true)(r:List bn)(m:Nat)(rec:Rec)(st:a1)(listed:Array Bool)(M:l.drop m=r)(hm:m+D r=D l)
  (R:listed.size=ops.size) (fv:∀i,i<ops.size->listed.getD i true=decide (i<m)) (jQ:∀k,m<=k->rec k=none) (h:ss T K m r (c.drop m) rec st):AN (iz T (l0 c)) ops l K (D r) listed rec st :=
 Qx (XN aD (Ls c)) XO af he r m rec st listed M hm R fv jQ (XY r m rec st jQ h)
def Dq (h:dq A w B mem):dq (bg A B) w (λ_=>none) emp :=
 ⟨λ_ _=>rfl,λ_ _ _ _ _ h=>(by cases h),λb _ ⟨_,_,h,_⟩=>(by cases h),λb U=>U.elim (λbT=>h.q0 bT) (h.lt b),h.gl,λb o _ ⟨_,_,h,_⟩=>(by cases h),λ_ _ _ h=>(by cases h)⟩
def vy (b:Nat):bg (bg A B) (λ_=>none) b↔bg A B b :=
 ⟨λh=>h.elim (fun⟨_,_,h,_⟩=>by cases h) id,.inr⟩
def Qy {m:I}{v:Value}(h:aN w (bg A B) B m v):aN w (bg (bg A B) λ_=>none) (λ_=>none) (shut m) v:=by
 cases h with
 |L h=>exact .L (h.less λb U=>(vy b).1 U)
 |nil=>exact .nil
 |dK af ae =>
  rename_i f cZ vs
  cases cZ with
  |nil=>exact .dK af λi d v h=>by simp at h
  |cons c r=>exact .undef
 |agg af ae =>
  rename_i cs vs;simp only[shut]
  cases Z:cs.mapM q2 with
  |none=>exact .undef
  |some ds =>
   obtain⟨E,G⟩:=mapM_get Z;refine .L (.agg (af.trans E.symm) λi d v O ai=>?_);have au:i<D cs:=by have:=(dn.1 O).1;omega
   have eN:=bB au;exact (P7 (G i _ d eN O) (ae i _ v eN ai)).less λb U=>(vy b).1 U
 |_=>exact .undef
def shut_list {ms:List I}{vs:List Value}(h:cj w (bg A B) B ms vs):cj w (bg (bg A B) λ_=>none) (λ_=>none) (ms.map shut) vs:=by
 refine⟨by simpa using h.1,λi m v hm ai=>?_⟩
 rw[bG,cO] at hm;obtain⟨m',tL,rfl⟩:=hm;exact Qy (h.2 i m' v tL ai)
def xj.less {w ah:World}{av gD:Nat->Prop}{sz:Nat}{es:List (List Data)}{v:Value}(af:∀b,gD b->av b)(h:xj w ah av sz es v):xj w ah gD sz es v:=by
 obtain⟨E,a,cap,G,ad,aK,bp⟩:=h;refine⟨E,a,cap,G,ad,aK,bp.imp id ?_⟩;rintro⟨b,vs,T,bD,bL,ct,jh,kA⟩;exact⟨b,vs,T,bD,bL,ct,jh,λi d ae=>let ⟨u,hu,mY⟩:=kA i d ae;⟨u,hu,mY.less λdA gX=>gX.imp (af dA) id⟩⟩
def vz {o:Oper}{c:Call}{f:FuncId}{a:Act}(aZ:o.op=.call c)(hg:c.callee=.value (.func f))(fM:Real P f):(execOp a.eval o).run P w=.ok (.enter f (c.args.toList.map a.eval).toArray) w:=by
 obtain⟨dst,op,type,pos,after,guard⟩:=o;simp only at aZ;subst aZ;obtain⟨callee,rf,yZ⟩:=c;simp only at hg;subst hg;simp only[execOp,resolve,Deferred.ofValue,Act.eval,invoke,Sem.run_bind,Sem.run_pure,Result.andThen_ok,AI fM];rw[vr rf];simp
def XZ {av:Nat->Prop}{b off c sz len:Nat}{vs:Array Value}{T:TypeId}{ds:List Data}(a8:w.heap[b]?=some (.cells vs T (0,0)))(eA:¬ av b)(af:(D ds)=len*sz)(ajp:len<=c)(hm:len<=maxLen)(GB:off+len*sz<=vs.size)
  (ae:∀(i:Nat) (d:Data) (v:Value),ds[i]?=some d->vs[off+i]?=some v->Den w av d v):Den w av (.ay (chunk sz len ds)) (.slice (some ⟨b,off,none⟩) len c):=by
 have dP:=La sz len ds
 have h:=Den.ay (w:=w) (av:=av) (es:=chunk sz len ds) (b:=b) (off:=off) (c:=c) (sz:=sz) (λi=>vs.getD (off+i) undef) (by rw[dP];exact ajp) (by rw[dP];exact hm)
  (Array.getElem?_eq_some_iff.1 a8).1 eA (Lb sz len ds af)
  (λi O=>by
   rw[dP] at O;rw[cell_of_row w b (off+i) vs T (0,0) a8];have:off+i<vs.size:=by omega
   simp[this])
  (λi d my=>by
   rw[Lc sz len ds af] at my;have au:i<D ds:=(dn.1 my).1;have kU:off+i<vs.size:=by omega
   have:vs.getD (off+i) undef=vs[off+i]:=by simp[kU]
   simp only[this];exact ae i d _ my (Array.getElem?_eq_getElem kU))
 rw[dP] at h;exact h
def ajq {mem:Mem}{k g sz off len:Nat}{cs:List I}{d:Data}(hm:mem k=some (g,cs))(h:Gs sz off len cs=some d):c2 1 mem (.ref k g sz off len)=some d:=by
 have aQ:∀(m:I) (d:Data),q2 m=some d->c2 0 mem m=some d:=λm d h=>by
  unfold q2 at h
  split at h<;>simp_all [c2]
 have af:∀(l:List I) (ds:List Data),l.mapM q2=some ds->l.mapM (c2 0 mem)=some ds:=by
  intro l
  induction l with
  |nil=>intro ds h;simpa using h
  |cons m l aF =>
   intro ds h;simp only[mx,ft,fD,di,bH] at h ⊢;obtain⟨x,J,vA,e4,rfl⟩:=h;exact⟨x,aQ m x J,vA,aF vA e4,rfl⟩
 unfold Gs at h
 split at h
 ·rename_i part aD;simp only[PN,cO] at h;obtain⟨ds,e4,rfl⟩:=h;simp only[c2,hm,if_true,aD];rw[af _ _ e4]
  rfl
 ·cases h
def G5 {k:Key}{g sz off len:Nat}{cs:List I}{d:Data}{v:Value}(a3:dq A w B mem)(Q:mem k=some (g,cs))(ae:c2 1 mem (.ref k g sz off len)=some d)(ai:aN w (bg A B) B (.ref k g sz off len) v):
  Den w (bg A (eu B k ⟨bw mem k,none,0,false⟩)) d v:=by
 have eA:∀b,bg A (eu B k ⟨bw mem k,none,0,false⟩) b->bg A B b:=λb h=>h.imp (fun⟨j,e,aa,J⟩=>by
  by_cases bN:j=k
  ·subst bN;rw[e2] at aa;cases aa;cases J
  ·rw[eR B _ bN] at aa;exact⟨j,e,aa,J⟩) id
 simp only[c2,Q,if_true] at ae
 split at ae
 ·rename_i part Qz;simp only[cO] at ae;obtain⟨ds,e4,rfl⟩:=ae;obtain⟨dP,rfl,vm⟩:=C8 Qz;obtain⟨E,G⟩:=mapM_get e4
  cases ai with
  |ref he hgle M =>
   obtain⟨e,ea,bO,aE,U⟩:=a3.at_ Q;rw[ea] at he;obtain rfl:=mT he;obtain⟨a,cap,rfl,ad,aK,bp⟩:=M;rcases bp with bp|⟨b,rfl,bD⟩
   ·have:len=0:=by omega
    subst this;simp only[chunk];exact .j3
   ·obtain⟨bL,ct,gF⟩:=bD bO.symm;obtain⟨vs,T,a8,aQ,hle,bY⟩:=U b bL gF
    have QA:¬ bg A (eu B k ⟨bw mem k,none,0,false⟩) b:=by
     rintro (⟨j,ax,aa,J⟩|a5)
     ·by_cases bN:j=k
      ·subst bN;rw[e2] at aa;cases aa;cases J
      ·rw[eR B _ bN] at aa;exact bN (a3.inj j k ax _ b aa ea J bL)
     ·exact a3.sep b a5 ⟨k,_,ea,bL⟩
    refine XZ a8 QA (by omega) ad (by omega) (by omega) λi x u J hu=>?_;have au:i<D ds:=(dn.1 J).1;have kU:off+i<D cs:=by omega
    have eN:((cs.drop off).take (len*sz))[i]?=some cs[off+i]:=by
     rw[xq (by omega),sC,bB kU]
    have oB:=G i _ x eN J
    have j6:aN w (bg A B) B cs[off+i] u:=bY.2 (off+i) _ u (bB kU) (by
     rw[xq kU,Array.getElem?_toList];exact hu)
    generalize cs[off+i]=m at *
    cases m<;>simp only[c2,bH,reduceCtorEq] at oB
    ·subst oB
     cases j6 with
     |L h=>exact h.less eA
    ·subst oB
     cases j6;exact .j3
 ·cases ae
def ajr {gD:Nat->Prop}{aB:cG}(eA:∀b,gD b->bg A B b){m:I}{v:Value}(h:aN w (bg A B) B m v):aN w gD aB (shut m) v:=by
 have al:=Qy h;have ajs:∀b,gD b->bg (bg A B) (λ_=>none) b:=λb U=>(vy b).2 (eA b U)
 have go:∀{m:I},(∃d,m=.L d)\/m=.nil\/(∃f,m=.dK f [])\/m=.undef->aN w (bg (bg A B) λ_=>none) (λ_=>none) m v->aN w gD aB m v:=by
  intro m hm h;rcases hm with ⟨d,rfl⟩|rfl|⟨f,rfl⟩|rfl
  ·cases h with
   |L h=>exact .L (h.less ajs)
  ·cases h;exact .nil
  ·cases h with
   |dK af ae=>exact .dK af λi d v h=>by simp at h
  ·exact .undef
 refine go ?_ al
 cases m<;>simp only[shut]
 case L d=>simp
 case nil=>simp
 case dK f cZ=>cases cZ<;>simp
 case agg cs=>split<;>simp
 all_goals simp
def ajt {k:Key}{g:Nat}{cs:List I}(h:dq A w B mem)(Q:mem k=some (g,cs))(ae:q3 cs=true):
  dq (λb=>A b\/∃j e,j≠k/\B j=some e/\e.c1=some b) w (λj=>if j=k then B k else none) (aV emp k g cs):=by
 have eA:∀b,bg (λb=>A b\/∃j e,j≠k/\B j=some e/\e.c1=some b) (λj=>if j=k then B k else none) b->bg A B b:=λb U=>by
  rcases U with ⟨j,e,aa,J⟩|a5|⟨j,e,_,aa,J⟩
  ·by_cases bN:j=k
   ·subst bN;simp only[if_true] at aa;exact .inl ⟨_,e,aa,J⟩
   ·simp only[bN,if_false] at aa;cases aa
  ·exact .inr a5
  ·exact .inl ⟨j,e,aa,J⟩
 refine⟨λj aa=>?_,λj hX e e' b E G _ _=>?_,λb a5 aZ=>?_,λb U=>?_,h.gl,λb o U ⟨j,e,aa,J⟩=>?_,λj cf gu aa=>?_⟩
 ·by_cases bN:j=k
  ·subst bN;simp[aV] at aa
  ·simp only[bN,if_false]
 ·by_cases aa:j=k<;>by_cases jz:hX=k
  ·rw[aa,jz]
  ·simp only[jz,if_false] at G;cases G
  ·simp only[aa,if_false] at E;cases E
  ·simp only[aa,if_false] at E;cases E
 ·obtain⟨j,e,aa,J⟩:=aZ
  by_cases bN:j=k
  ·subst bN;simp only[if_true] at aa;rcases a5 with a5|⟨hX,e',bc,jz,oB⟩
   ·exact h.sep b a5 ⟨_,e,aa,J⟩
   ·exact bc (h.inj _ _ e' e b jz aa oB J)
  ·simp only[bN,if_false] at aa;cases aa
 ·rcases U with U|⟨j,e,_,aa,J⟩
  ·exact h.lt b U
  ·exact h.q0 ⟨j,e,aa,J⟩
 ·by_cases bN:j=k
  ·subst bN;simp only[if_true] at aa;exact h.va b o U ⟨_,e,aa,J⟩
  ·simp only[bN,if_false] at aa;cases aa
 ·by_cases bN:j=k
  ·subst bN;simp only[aV,if_true,bH,ei] at aa;obtain⟨rfl,rfl⟩:=aa;obtain⟨e,he,aC,aE,U⟩:=h.c1 _ _ _ Q;refine⟨e,by simp only[if_true];exact he,aC,aE,λb fp=>?_⟩
   refine (U b fp).imp rfl rfl λm O v iw=>?_;unfold q3 at ae;rw[jO] at ae;have hm:=ae m O;rw[Xf] at hm;obtain⟨d,hm⟩:=hm;unfold q2 at hm
   split at hm<;>cases hm
   ·cases iw with
    |L iw=>exact .L (iw.less eA)
   ·cases iw
    exact .nil
  ·simp only[aV,bN,if_false,emp] at aa;cases aa
def aju {ah:World}{k:Key}{sl:Nat->Prop}(h:dq A w B mem)(ajv:∀b,sl b->∃e,B k=some e/\e.c1=some b)(f:Fr sl w ah):cX A w B ah (eu B k ⟨bw mem k,none,0,false⟩) (aV mem k (bw mem k) []) :=
 cX.change (e':=⟨bw mem k,none,0,false⟩) h ⟨f.os,f.tape,f.output,f.size,λb U aZ=>f.block b U λJ=>aZ (ajv b J)⟩ (λe he => .inr (yK h k e he)) (λb U=>by simp at U) (λ_=>rfl) (λb U=>by simp at U)
def ajw (cp:mX P T){a:Act}{st:a1}{o:Oper}{i:bn}{m:I}{e:Option (Key×Nat×List I)}(h:dr aU n A b5 c8 a st w B)(O:Dm P n kb own ops o i)
  (R:ek T st.mem st.tm i.op=some (m,e)):o.wp P a w (λck ah=>∃aB,dr aU n A b5 c8 ck ⟨put st.tm i.dst m,fA st.mem e⟩ ah aB) ak:=by
 have ev:=O.op
 have plain:bx st.mem st.tm i.op=some (m,e)->o.wp P a w (λck ah=>∃aB,dr aU n A b5 c8 ck ⟨put st.tm i.dst m,fA st.mem e⟩ ah aB) ak:=by
  intro R
  have aA:gj P kb own o.dst o.type o.op=some i.op:=getD_some ev (by
   intro U;rw[U] at R
   cases R)
  obtain⟨yY,v,ah,aB,eb,nr,dc,ai⟩:=Qh h.ok.b4 h.jA (λ_=>rfl) aA R;unfold Oper.wp;rw[eb,O.dst];have xk:=h.put dc ai O.lt;rcases nr with rfl|⟨rfl,rfl⟩
  ·exact⟨aB,xk⟩
  ·exact⟨aB,xk⟩
 cases qi:i.op with
 |call f args =>
  have aA:gj P kb own o.dst o.type o.op=some i.op:=getD_some ev (by rw[qi];simp);rw[qi] at aA R;obtain⟨c,Z,hg,iy⟩:=GS aA;have bY:=shut_list (py h.jA iy);rw[rj] at bY;simp only[ek] at R
  split at R
  ·rename_i r gZ
   cases R;obtain⟨fM,hZ⟩:=cp f _ _ _ gZ;have lZ:=hZ (bg A B) w (λ_=>none) _ (Dq h.ok.b4) bY;unfold Oper.wp;rw[vz Z hg fM,O.dst];refine Calls.mono lZ λe ah he=>?_;obtain⟨v,rfl,dw,ae⟩:=he;exact⟨B,h.put (.still h.ok.b4 dw) (.L (ae.less λb U=>(vy b).2 U)) O.lt⟩
  ·rename_i sz es gZ
   cases R;obtain⟨fM,hZ⟩:=cp f _ _ _ gZ;have lZ:=hZ (bg A B) w (λ_=>none) _ (Dq h.ok.b4) bY;unfold Oper.wp;rw[vz Z hg fM,O.dst];refine Calls.mono lZ λe ah he=>?_;obtain⟨v,rfl,dw,ae⟩:=he;exact⟨B,h.put (.still h.ok.b4 dw) (.L ((ae.less λb U=>(vy b).2 U).den λb U=>U.elim (λbT=>h.ok.b4.q0 bT) (h.ok.b4.lt b))) O.lt⟩
  ·cases R
 |ln k sz f args =>
  have aA:gj P kb own o.dst o.type o.op=some i.op:=getD_some ev (by rw[qi];simp);rw[qi] at aA R;obtain⟨c,Z,hg,iy⟩:=Xx aA;have bY:=shut_list (py h.jA iy);rw[rj] at bY;simp only[ek] at R
  split at R
  ·rename_i dG es gZ
   split at R
   ·rename_i dC;subst dC
    cases R;obtain⟨fM,hZ⟩:=cp f _ _ _ gZ;have lZ:=hZ (bg A B) w (λ_=>none) _ (Dq h.ok.b4) bY;unfold Oper.wp;rw[vz Z hg fM,O.dst];refine Calls.mono lZ λe ah he=>?_;obtain⟨v,rfl,dw,ae⟩:=he;obtain⟨aB,dc,ai⟩:=Xw k h.ok.b4 dw (ae.less λb U=>(vy b).2 U);exact⟨aB,h.put dc ai O.lt⟩
   ·cases R
  ·cases R
 |j4 bP f args =>
  have aA:gj P kb own o.dst o.type o.op=some i.op:=getD_some ev (by rw[qi];simp);rw[qi] at aA R;obtain⟨c,Z,hg,iy⟩:=aiS aA;have bY:=py h.jA iy;simp only[ek] at R;obtain⟨r,k,g,axL,cc,cs,gZ,hm,rfl,rfl,ao⟩:=XG R;obtain⟨fM,hZ⟩:=cp f _ _ _ gZ;have lZ:=hZ A w B _ h.ok.b4 bY;unfold Oper.wp;rw[vz Z hg fM,O.dst];refine Calls.mono lZ λe ah he=>?_;obtain⟨v,aB,rfl,dc,ai⟩:=he;refine⟨aB,?_⟩;have sB:pn st.mem k=cs:=by simp only[pn,hm]
  rw[sB] at dc;exact h.put dc ai O.lt
 |ph j f args =>
  have aA:gj P kb own o.dst o.type o.op=some i.op:=getD_some ev (by rw[qi];simp);rw[qi] at aA R;obtain⟨c,Z,hg,iy⟩:=aiT aA;have y3:=py h.jA iy;simp only[ek] at R;obtain⟨k,g,sz,off,len,cs,d,r,J,hm,ae,M,rfl,rfl⟩:=XE R;have ok:=cX.vj h.ok.b4 k
  have au:j<(c.args.toList.map a.eval).length:=by
   rw[y3.1];exact (dn.1 J).1
  have GC:=bB au;have mY:=G5 h.ok.b4 hm (ajq hm ae) (y3.2 j _ _ J GC);have Lt:=shut_list (y3.jw ok.hW);rw[rj] at Lt
  have Lu:cj w (bg (bg A (eu B k ⟨bw st.mem k,none,0,false⟩)) λ_=>none) (λ_=>none) ((args.map (shut ∘ aI st.tm)).set j (.L d)) (c.args.toList.map a.eval):=by
   refine⟨by rw[Lt.1,fN],λi m v E G=>?_⟩
   by_cases hK:j=i
   ·subst hK;rw[GC] at G
    cases G;have iv:j<(args.map (shut ∘ aI st.tm)).length:=by rw[<-Lt.1];exact au
    rw[X0 iv] at E
    cases E;exact .L (mY.less λb U=>(vy b).1 U)
   ·rw[X1 hK] at E;exact Lt.2 i m v E G
  unfold KY at M
  split at M
  ·rename_i C6 gZ
   cases M;obtain⟨fM,hZ⟩:=cp f _ _ _ gZ;have lZ:=hZ (bg A (eu B k ⟨bw st.mem k,none,0,false⟩)) w (λ_=>none) _ (Dq ok.b4) Lu;unfold Oper.wp;rw[vz Z hg fM,O.dst];refine Calls.mono lZ λe ah he=>?_;obtain⟨v,rfl,dw,kS⟩:=he;exact⟨_,h.put (ok.trans (.still ok.b4 dw)) (.L (kS.less λb U=>(vy b).2 U)) O.lt⟩
  ·rename_i dG es gZ
   cases M;obtain⟨fM,hZ⟩:=cp f _ _ _ gZ;have lZ:=hZ (bg A (eu B k ⟨bw st.mem k,none,0,false⟩)) w (λ_=>none) _ (Dq ok.b4) Lu;unfold Oper.wp;rw[vz Z hg fM,O.dst];refine Calls.mono lZ λe ah he=>?_;obtain⟨v,rfl,dw,kS⟩:=he;exact⟨_,h.put (ok.trans (.still ok.b4 dw)) (.L ((kS.less λb U=>(vy b).2 U).den λb U=>U.elim (λbT=>ok.b4.q0 bT) (ok.b4.lt b))) O.lt⟩
  ·cases M
 |pj j f args =>
  have aA:gj P kb own o.dst o.type o.op=some i.op:=getD_some ev (by rw[qi];simp);rw[qi] at aA R;obtain⟨c,Z,hg,iy⟩:=aiU aA;have y3:=py h.jA iy;simp only[ek] at R;obtain⟨k,g,sz,off,len,cf,cs,r,J,hm,ae,gZ,rfl,rfl⟩:=XF R;have a3:=ajt h.ok.b4 hm ae
  have ajx:∀b,bg (λb=>A b\/∃j e,j≠k/\B j=some e/\e.c1=some b) (λj=>if j=k then B k else none) b->bg A B b:=λb U=>by
   rcases U with ⟨vB,e,aa,qj⟩|a5|⟨vB,e,_,aa,qj⟩
   ·by_cases bN:vB=k
    ·simp only[aq bN] at aa;exact .inl ⟨k,e,aa,qj⟩
    ·simp only[ar bN] at aa;cases aa
   ·exact .inr a5
   ·exact .inl ⟨vB,e,aa,qj⟩
  have au:j<(c.args.toList.map a.eval).length:=by
   rw[y3.1];exact (dn.1 J).1
  have GC:=bB au
  have Lu:cj w (bg (λb=>A b\/∃j e,j≠k/\B j=some e/\e.c1=some b) (λj=>if j=k then B k else none)) (λj=>if j=k then B k else none) ((args.map λx=>shut (aI st.tm x)).set j (.ref k g sz off len)) (c.args.toList.map a.eval):=by
   refine⟨by rw[y3.1,fN,az,az],λi m v E G=>?_⟩
   by_cases hK:j=i
   ·subst hK
    have iv:j<(args.map λx=>shut (aI st.tm x)).length:=by
     have:=(dn.1 J).1
     simpa using this
    rw[X0 iv] at E
    cases E;have ai:=y3.2 j _ v J G
    cases ai with
    |ref he aC M=>exact .ref (by simp only[if_true];exact he) aC M
   ·rw[X1 hK,bG,cO] at E;obtain⟨y,ag,rfl⟩:=E;exact ajr ajx (y3.2 i (aI st.tm y) v (by rw[bG,ag];rfl) G)
  obtain⟨fM,hZ⟩:=cp f _ _ _ gZ;have lZ:=hZ _ w _ _ a3 Lu;unfold Oper.wp;rw[vz Z hg fM,O.dst];refine Calls.mono lZ λe ah he=>?_;obtain⟨v,hE,rfl,dc,ai⟩:=he;refine⟨_,h.put (aju h.ok.b4 (λb U=>?_) dc.fs) ?_ O.lt⟩
  ·obtain⟨vB,e,aa,qj⟩:=U
   by_cases bN:vB=k
   ·simp only[aq bN] at aa;exact⟨e,aa,qj⟩
   ·simp only[ar bN] at aa;cases aa
  ·cases ai with
   |L ai =>
    refine .L (ai.less λb U=>?_);rcases U with ⟨vB,e,aa,qj⟩|a5
    ·by_cases bN:vB=k
     ·rw[bN,e2] at aa;cases aa;cases qj
     ·rw[eR B _ bN] at aa;exact .inr (.inr ⟨vB,e,bN,aa,qj⟩)
    ·exact .inr (.inl a5)
 |jH f args =>
  have aA:gj P kb own o.dst o.type o.op=some i.op:=getD_some ev (by rw[qi];simp);rw[qi] at aA R;obtain⟨c,x,Z,hg,J,iy⟩:=Qm aA;have bY:=shut_list (py h.jA iy);rw[rj] at bY;simp only[ek] at R
  split at R
  ·rename_i g aC
   split at R
   ·rename_i r gZ
    cases R;have Lk:=Qy (h.jA _ _ J);rw[aC] at Lk;obtain⟨cs,hu,dP⟩:=GV Lk (.inl rfl);have jK:cs=[]:=qf dP.1;subst jK;obtain⟨fM,hZ⟩:=cp g _ _ _ gZ;have lZ:=hZ (bg A B) w (λ_=>none) _ (Dq h.ok.b4) bY
    have hex:(execOp a.eval o).run P w=.ok (.enter g (c.args.toList.map a.eval).toArray) w:=by
     obtain⟨dst,op,type,pos,after,guard⟩:=o;simp only at Z;subst Z;obtain⟨callee,rf,yZ⟩:=c;simp only at hg;subst hg;simp only[execOp,resolve,hu,Deferred.ofValue,invoke,Sem.run_bind,Sem.run_pure,Result.andThen_ok,AI fM];rw[vr rf];simp
    unfold Oper.wp;rw[hex,O.dst];refine Calls.mono lZ λe ah he=>?_;obtain⟨v,rfl,dw,ae⟩:=he;exact⟨B,h.put (.still h.ok.b4 dw) (.L (ae.less λb U=>(vy b).2 U)) O.lt⟩
   ·cases R
  ·cases R
 |kQ neg x=>rw[qi] at R;cases R
 |_=>exact plain (by rw[qi] at R ⊢;exact R)
def Lv {α β:Type}{f:α->Option β}{xs:List α}{ys:List β}(h:xs.mapM f=some ys){i:Nat}{x:α}(J:xs[i]?=some x):∃y,ys[i]?=some y/\f x=some y:=by
 obtain⟨E,G⟩:=mapM_get h;have au:i<D ys:=by rw[E];exact (dn.1 J).1
 exact⟨_,bB au,G i x _ J (bB au)⟩
def Lw (P:Program)(aU:Option I)(n:Nat)(A:Nat->Prop)(b5:World)(c8:cG)(ops:Array Oper)(l:List bn)(b6:tK)(ak:Exit->Act->World->Prop):Prop :=
 ∀i x o rec st h0 bX a w B,l[i]?=some x->ops[i]?=some o->b6 i x rec st h0 bX->dr aU n A b5 c8 a st w B ->
  (Region.wanted o (yielded ops a.tmps)=false/\dr aU n A b5 c8 (a.put o.dst undef) bX w B)\/(Region.wanted o (yielded ops a.tmps)=true/\o.wp P a w (λck ah=>∃aB,dr aU n A b5 c8 ck bX ah aB) ak)
def QB (cp:mX P T){fG:Nat->Nat->Bool}(aA:ops.toList.mapM (mN P n kb own ops)=some l):Lw P aU n A b5 c8 ops l (iz T fG) ak:=by
 intro i x o rec st h0 bX a w B J aZ hex R;obtain⟨y,ag,G6⟩:=Lv aA (i:=i) (x:=o) (by simpa using aZ);rw[J] at ag
 cases ag;have vC:=GU G6;rcases hex with ⟨aC,rfl,rfl⟩|⟨aC,m,e,G7,_,rfl,rfl⟩
 ·exact .inl ⟨yX R vC.guard aC,by rw[vC.dst];exact R.put (.refl R.ok.b4) .no vC.lt⟩
 ·exact .inr ⟨yX R vC.guard aC,ajw cp R vC G7⟩
def Lx {b6:tK}(dc:Lw P aU n A b5 c8 ops l b6 ak)(eO:∀st a w B,K st->dr aU n A b5 c8 a st w B->ak .normal a w):
  ∀(fuel:Nat) (listed:Array Bool) (rec:Rec) (st:a1) (a:Act) (w:World) (B:cG),dr aU n A b5 c8 a st w B->AN b6 ops l K fuel listed rec st->wpAny P .any ops ak fuel listed a w
 |0,_,_,_,_,_,_,R,h=>⟨h.1,eO _ _ _ _ h.2 R⟩
 |fuel+1,listed,rec,st,a,w,B,R,h=>by
  refine⟨λal=>eO _ _ _ _ (h.1 al) R,λi O=>?_⟩;obtain⟨x,h0,bX,J,hex,Q⟩:=h.2 i O;obtain⟨_,o,aZ,_⟩:=mem_ready.1 O;unfold wpOp;simp only[aZ];rcases dc i x o rec st h0 bX a w B J aZ hex R with ⟨hw,dI⟩|⟨hw,dI⟩
  ·rw[hw,ar (by simp)];exact Lx dc eO fuel _ _ _ _ _ B dI Q
  ·rw[hw,aq rfl];exact .inl (Oper.wp_mono (λck ah ⟨aB,dI⟩=>Lx dc eO fuel _ _ _ _ _ aB dI Q) dI)
def ajy (cp:mX P T){fG:Nat->Nat->Bool}(aA:ops.toList.mapM (mN P n kb own ops)=some l)(eO:∀st a w B,K st->dr aU n A b5 c8 a st w B->ak .normal a w):
  ∀(fuel:Nat) (listed:Array Bool) (rec:Rec) (st:a1) (a:Act) (w:World) (B:cG),dr aU n A b5 c8 a st w B->AN (iz T fG) ops l K fuel listed rec st->wpAny P .any ops ak fuel listed a w :=
 Lx (QB cp aA) eO
def dr.drew {a:Act}{st:a1}(h:dr aU n A b5 c8 a st w B)(d:Nat):dr aU n A b5 c8 a st { w with drawn:=d } B:=by
 have R:cX A w B { w with drawn:=d } B st.mem:=.still h.ok.b4 ((Fr.refl _ _).drew d);exact⟨h.ok.trans R,λs=>(h.tm s).jw R.hW,h.sz,h.vu.jw R.hW⟩
def ajz (cp:mX P T)(hm:P.follows .mixedOrders=true){id:Nat}{a:Act}{st:a1}(aA:ops.toList.mapM (mN P n kb own ops)=some l)(ae:pr ops l=true)(R:dr aU n A b5 c8 a st w B)
  (h:ss T K 0 l (lp [] l (fo ops.toList [])) (λ_=>none) st) (eO:∀st a w B,K st->dr aU n A b5 c8 a st w B->ak .normal a w):(Code.region id ops true).wp P ak a w:=by
 refine wp_region_any hm ?_
 have af:(D l)=ops.size:=by
  rw[(mapM_get aA).1,Array.length_toList]
 have tM:=ajo (Qw ae) af (by unfold pr at ae;rw[dH] at ae;exact ae.1) l 0 (λ_=>none) st (Array.replicate ops.size false) rfl (by simp) (by simp) (λi O=>by simp[O]) (λ_ _=>rfl) h;rw[af] at tM;exact ajy cp aA eO ops.size _ _ _ _ _ B (R.drew _) tM
def QC (cp:mX P T)(aA:ops.toList.mapM (mN P n kb own ops)=some l)(eO:∀st a w B,K st->dr aU n A b5 c8 a st w B->ak .normal a w):
  ∀(r:List bn) (m:Nat) (st:a1) (a:Act) (w:World) (B:cG),l.drop m=r->dr aU n A b5 c8 a st w B->vg T K r st->wpOps P ops ak (List.range' m (D r)) a w
 | [],_,_,_,_,_,_,R,h=>eO _ _ _ _ h R
 |x::r,m,st,a,w,B,M,R,h=>by
  have J:l[m]?=some x:=by
   have:(l.drop m)[0]?=some x:=by rw[M];rfl
   simpa using this
  have c7:l.drop (m+1)=r:=by rw[<-xo,M];rfl
  have au:m<ops.size:=by
   have E:=(mapM_get aA).1;have G:=(dn.1 J).1;simp at E;omega
  have aZ:ops[m]?=some ops[m]:=Array.getElem?_eq_getElem au;obtain⟨y,ag,G6⟩:=Lv aA (i:=m) (x:=ops[m]) (by simp);rw[J] at ag
  cases ag;have vC:=GU G6;simp only[jG,List.range'_succ];rw[wpOps_cons];unfold wpOp;simp only[aZ];simp only[vg] at h
  split at h
  ·cases h
  ·rename_i g aC;rw[yX R vC.guard aC]
   cases g with
   |true =>
    simp only[if_true] at h ⊢;exact .inl (Oper.wp_mono (λck ah ⟨bX,aB,Q,dI⟩=>QC cp aA eO r (m+1) bX ck ah aB c7 dI Q) (aiW cp R vC h))
   |false =>
    simp only[df,if_false] at h ⊢;exact QC cp aA eO r (m+1) _ _ _ B c7 (R.put (.refl R.ok.b4) .no vC.lt) (by rw[<-vC.dst];exact h)
end Go.Mini
namespace Go.Mini
open Go
variable {A:Nat->Prop} {w:World} {B:cG} {mem:Mem}
def X2 (a3:dq A w B mem){av:Nat->Prop}(eA:∀b,av b->A b){k:Key}{e:gN}{b:Nat}(he:B k=some e)(U:e.c1=some b):¬ av b :=
 λh=>a3.sep b (eA b h) ⟨k,e,he,U⟩
def snap (a3:dq A w B mem){av:Nat->Prop}(eA:∀b,av b->A b):∀(d:Nat) (m:I) (v:Value) (r:Data),c2 d mem m=some r->aN w (bg A B) B m v->Den w av r v:=by
 have X3:∀(d:Data) (v:Value),aN w (bg A B) B (.L d) v->Den w av d v:=λd v h=>by
  cases h with
  |L h=>exact h.less λb U => .inr (eA b U)
 have Ly:∀v,aN w (bg A B) B .nil v->Den w av (.ay []) v:=λv h=>by
  cases h;exact .j3
 intro d
 induction d with
 |zero =>
  intro m v r h ai
  cases m<;>simp only[c2,bH,reduceCtorEq] at h
  ·subst h;exact X3 _ _ ai
  ·subst h;exact Ly _ ai
 |succ d aF =>
  intro m v r h ai
  have lists:∀(cs:List I) (vs:List Value) (ds:List Data),cs.mapM (c2 d mem)=some ds->(D vs)=(D cs)->(∀(i:Nat) (x:I) (u:Value),cs[i]?=some x->vs[i]?=some u->aN w (bg A B) B x u) ->
    (D vs)=D ds/\∀(i:Nat) (x:Data) (u:Value),ds[i]?=some x->vs[i]?=some u->Den w av x u:=by
   intro cs vs ds e4 af M;obtain⟨E,G⟩:=mapM_get e4;refine⟨by omega,λi x u J hu=>?_⟩
   have au:i<D cs:=by have:=(dn.1 J).1;omega
   have eN:=bB au;exact aF _ u x (G i _ x eN J) (M i _ u eN hu)
  cases m<;>simp only[c2,bH,cO,reduceCtorEq] at h
  case L=>subst h;exact X3 _ _ ai
  case nil=>subst h;exact Ly _ ai
  case ref k g sz off len =>
   split at h
   ·rename_i cf cs Q
    split at h
    ·rename_i aC;subst aC
     split at h
     ·rename_i part Qz;simp only[cO] at h;obtain⟨ds,e4,rfl⟩:=h;obtain⟨dP,rfl,vm⟩:=C8 Qz;obtain⟨E,G⟩:=mapM_get e4
      cases ai with
      |ref he hgle M =>
       obtain⟨e,ea,bO,aE,U⟩:=a3.at_ Q;rw[ea] at he
       cases he;obtain⟨a,cap,rfl,ad,aK,bp⟩:=M;rcases bp with bp|⟨b,rfl,bD⟩
       ·have:len=0:=by omega
        subst this;simp only[chunk];exact .j3
       ·obtain⟨bL,ct,gF⟩:=bD bO.symm;obtain⟨vs,T,a8,aQ,hle,bY⟩:=U b bL gF;refine XZ a8 (X2 a3 eA ea bL) (by omega) ad (by omega) (by omega) λi x u J hu=>?_;have au:i<D ds:=(dn.1 J).1;have kU:off+i<D cs:=by omega
        have eN:((cs.drop off).take (len*sz))[i]?=some cs[off+i]:=by
         rw[xq (by omega),sC,bB kU]
        refine aF _ u x (G i _ x eN J) (bY.2 (off+i) _ u (bB kU) ?_);rw[xq kU,Array.getElem?_toList];exact hu
     ·cases h
    ·cases h
   ·cases h
  case ptr k g off =>
   split at h
   ·rename_i cf cs Q
    split at h
    ·rename_i aC;obtain⟨rfl,P6⟩:=aC;simp only[cO] at h;obtain⟨ds,e4,rfl⟩:=h;obtain⟨E,G⟩:=mapM_get e4
     cases ai with
     |ptr he hgle M =>
      obtain⟨e,ea,bO,aE,U⟩:=a3.at_ Q;rw[ea] at he
      cases he;obtain⟨b,rfl,bD⟩:=M;obtain⟨bL,gF⟩:=bD bO.symm;obtain⟨vs,T,a8,aQ,hle,bY⟩:=U b bL gF;rw[List.length_drop] at E;refine .ptr (λi=>vs.getD (off+i) undef) (Array.getElem?_eq_some_iff.1 a8).1 (X2 a3 eA ea bL) (λi O=>?_) λi x J=>?_
      ·rw[cell_of_row w b (off+i) vs T (0,0) a8];have:off+i<vs.size:=by omega
       simp[this]
      ·have au:i<D ds:=(dn.1 J).1;have kU:off+i<D cs:=by omega
       have G8:off+i<vs.size:=by omega
       have eN:(cs.drop off)[i]?=some cs[off+i]:=by
        rw[sC,bB kU]
       have hu:vs.getD (off+i) undef=vs[off+i]:=by simp[G8]
       rw[hu];refine aF _ _ x (G i _ x eN J) (bY.2 (off+i) _ _ (bB kU) ?_);rw[xq kU,Array.getElem?_toList];exact Array.getElem?_eq_getElem G8
    ·cases h
   ·cases h
  case dK f cs =>
   obtain⟨ds,e4,rfl⟩:=h
   cases ai with
   |dK af ae=>obtain⟨E,G⟩:=lists _ _ _ e4 af ae;exact .fn E G
  case agg cs =>
   obtain⟨ds,e4,rfl⟩:=h
   cases ai with
   |agg af ae=>obtain⟨E,G⟩:=lists _ _ _ e4 af ae;exact .agg E G
  case de cs =>
   obtain⟨ds,e4,rfl⟩:=h
   cases ai with
   |de af ae=>obtain⟨E,G⟩:=lists _ _ _ e4 af ae;exact .de E G
def aN.shift {av gD:Nat->Prop}{aB:cG}(eA:∀b,gD b->av b)(Q:∀k e,B k=some e->∃e',aB k=some e'/\(e'=e\/e.g<e'.g)){m:I}{v:Value}(h:aN w av B m v):aN w gD aB m v:=by
 induction h with
 |L h=>exact .L (h.less eA)
 |nil=>exact .nil
 | @ref k g sz off len e v he aC ai =>
  obtain⟨e',ea,a8⟩:=Q k e he;rcases a8 with rfl|a8
  ·exact .ref ea aC ai
  ·exact .ref ea (by omega) (ai.later (by omega))
 | @ptr k g off e v he aC ai =>
  obtain⟨e',ea,a8⟩:=Q k e he;rcases a8 with rfl|a8
  ·exact .ptr ea aC ai
  ·exact .ptr ea (by omega) (ai.later (by omega))
 |dK af ae aF=>exact .dK af aF
 |agg af ae aF=>exact .agg af aF
 |de af ae aF=>exact .de af aF
 | @gV k g e v he aC ai =>
  obtain⟨e',ea,a8⟩:=Q k e he;rcases a8 with rfl|a8
  ·exact .gV ea aC ai
  ·obtain⟨b,U,_⟩:=ai;exact .gV ea (by omega) ⟨b,U,λh=>by omega⟩
 |no=>exact .no
 |undef=>exact .undef
def kill_shut (a3:dq A w B mem){k:Key}{g:Nat}{cs:List I}{e:gN}{b:Nat}(Q:mem k=some (g,cs))(he:B k=some e)(U:e.c1=some b):
  dq (λdA=>A dA\/dA=b) w (eu B k ⟨bw mem k,none,0,false⟩) (kill mem k)/\(∀m v,aN w (bg A B) B m v->aN w (bg (λdA=>A dA\/dA=b) (eu B k ⟨bw mem k,none,0,false⟩)) (eu B k ⟨bw mem k,none,0,false⟩) m v):=by
 have aC:=yK a3 k e he
 have eA:∀dA,bg (λdA=>A dA\/dA=b) (eu B k ⟨bw mem k,none,0,false⟩) dA->bg A B dA:=λdA h=>by
  rcases h with ⟨j,ax,aa,J⟩|h|rfl
  ·by_cases bN:j=k
   ·subst bN;rw[e2] at aa;cases aa;cases J
   ·rw[eR B _ bN] at aa;exact .inl ⟨j,ax,aa,J⟩
  ·exact .inr h
  ·exact .inl ⟨k,e,he,U⟩
 have ajA:∀j ax,B j=some ax->∃e',eu B k ⟨bw mem k,none,0,false⟩ j=some e'/\(e'=ax\/ax.g<e'.g):=λj ax aa=>by
  by_cases bN:j=k
  ·subst bN;rw[he] at aa
   cases aa;exact⟨_,e2 _ _ _,.inr aC⟩
  ·exact⟨ax,by rw[eR B _ bN];exact aa,.inl rfl⟩
 have shift:∀m v,aN w (bg A B) B m v->aN w (bg (λdA=>A dA\/dA=b) (eu B k ⟨bw mem k,none,0,false⟩)) (eu B k ⟨bw mem k,none,0,false⟩) m v:=λm v h=>h.shift eA ajA;refine⟨⟨λj aa=>?_,λj hX aL ax dA E G ad aK=>?_,λdA a5 aZ=>?_,λdA a5=>?_,a3.gl,λdA o gX ⟨j,ax,aa,J⟩=>?_,λj cf gu aa=>?_⟩,shift⟩
 ·by_cases bN:j=k
  ·subst bN;simp[kill,aV] at aa
  ·rw[eR B _ bN];simp only[kill,aV,bN,if_false] at aa;exact a3.qZ j aa
 ·by_cases bN:j=k
  ·subst bN;rw[e2] at E;cases E;cases ad
  ·by_cases hjk':hX=k
   ·subst hjk';rw[e2] at G;cases G;cases aK
   ·rw[eR B _ bN] at E;rw[eR B _ hjk'] at G;exact a3.inj j hX aL ax dA E G ad aK
 ·obtain⟨j,ax,aa,J⟩:=aZ
  by_cases bN:j=k
  ·subst bN;rw[e2] at aa;cases aa;cases J
  ·rw[eR B _ bN] at aa;rcases a5 with a5|rfl
   ·exact a3.sep dA a5 ⟨j,ax,aa,J⟩
   ·exact bN (a3.inj j k ax e dA aa he J U)
 ·rcases a5 with a5|rfl
  ·exact a3.lt dA a5
  ·exact a3.q0 ⟨k,e,he,U⟩
 ·by_cases bN:j=k
  ·subst bN;rw[e2] at aa;cases aa;cases J
  ·rw[eR B _ bN] at aa;exact a3.va dA o gX ⟨j,ax,aa,J⟩
 ·by_cases bN:j=k
  ·subst bN;simp only[kill,aV,if_true,bH,ei] at aa;obtain⟨rfl,rfl⟩:=aa;exact⟨_,e2 _ _ _,rfl,λ_=>rfl,λdA gX=>by cases gX⟩
  ·simp only[kill,aV,bN,if_false] at aa;obtain⟨ax,E,G,ad,aK⟩:=a3.c1 j cf gu aa;refine⟨ax,by rw[eR B _ bN];exact E,G,ad,λdA gX=>?_⟩
   exact (aK dA gX).imp rfl rfl λm _ v M=>shift m v M
end Go.Mini
