/- A part of the proof. -/
import Derived.Calls
import Derived.Still
import Derived.Below
import Derived.Laws.World
import Derived.Laws.Sem
import Derived.Laws.Entries
import Derived.Laws.Rows
import GoSem.ClaimData
import Derived.Laws.CopyRow
import Derived.Laws.MakeOwn
import Derived.Laws.Append
import Derived.Laws.AppendOwn
import Derived.Laws.Strings
import Derived.Laws.Strings2
import Derived.Laws.StructEq
import Derived.Laws.Slices
import Derived.Laws.Cells
import Derived.MapKept
import Derived.Attr
set_option linter.unusedSimpArgs false
set_option linter.unusedVariables false
set_option linter.defProp false
set_option maxRecDepth 100000
set_option maxHeartbeats 4000000
noncomputable section
open Bool renaming and_eq_true->fe,false_eq_true->cC,or_eq_true->tz
open List renaming all_eq_true->kA,contains_iff_mem->Y9,drop_drop->x2,drop_eq_getElem_cons->gw,drop_eq_nil_of_le->lj,drop_set_of_lt->se,drop_take->Ya,eq_nil_of_length_eq_zero->q9,ext_getElem?->qm,flatten_cons->mg,foldl_cons->Yc,getD_eq_getElem?_getD->dG,getElem?_append->Ec,getElem?_append_left->uP,getElem?_append_right->r4,getElem?_cons_zero->Y3,getElem?_drop->oI,getElem?_eq_getElem->bc,getElem?_eq_none->lk,getElem?_eq_some_iff->dK,getElem?_map->bd,getElem?_range->r3,getElem?_set_ne->Ze,getElem?_set_self->Zd,getElem?_take->xO,getElem?_take_of_lt->x5,getElem?_toArray->Yo,getElem_mem->ha,getElem_of_mem->Yh,length->D,length_append->ks,length_cons->lQ,length_map->ah,length_set->fj,length_take->gj,mapM_cons->nf,map_congr_left->YL,map_map->x6,mem_append->h5,mem_cons->kt,mem_cons_self->lU,mem_flatMap->By,mem_of_getElem?->cJ,mem_of_mem_take->Eh,mem_zipIdx_iff_getElem?->Et,range->qj,replicate->cf,replicate_succ->qn,take_append->X8,take_of_length_le->dE
open Nat renaming add_assoc->r0,add_comm->Hi,add_mul->pw,add_zero->lo,eq_or_lt_of_le->Mx,eq_zero_or_pos->ln,le_mul_of_pos_right->Yj,le_refl->c8,le_trans->iG,lt_asymm->Y8,lt_of_lt_of_le->Bg,lt_or_ge->gX,min_eq_left->n7,mul_le_mul_right->q7,one_mul->Hh,sub_self->hF,succ_mul->Ee,testBit_or->Y1,zero_add->r1,zero_le->dF
open Option renaming bind_eq_bind->gi,bind_eq_some_iff->dH,getD_some->RF,isSome_iff_exists->Yq,map_eq_some_iff->c2,map_none->YM,map_some->kU,pure_def->fZ
open Option.some renaming inj->mm,injEq->bM
open Prod.mk renaming injEq->eL
namespace Go.Mini
open Go
def L5:Nat->Option (List (List UInt8)):=λb=>if b=0 then some [[61,61],[59],[44],[61],[60],[43],[45],[42],[47],[40],[41]] else none
def bs {α:Sort _}{a:α}:a=a:=_root_.id rfl
def aJ {c:Prop}{h:Decidable c}(U:c){α:Sort _}{t e:α}:ite c t e=t:=if_pos U
def aR {c:Prop}{h:Decidable c}(U:¬c){α:Sort _}{t e:α}:ite c t e=e:=if_neg U
def mL {p:Prop}[inst:Decidable p](h:p):decide p=true:=decide_eq_true h
def me {p:Prop}[i:Decidable p](h:¬p):decide p=false:=decide_eq_false h
def c5 {p:Prop}[inst:Decidable p](h:p:=by omega):decide p=true:=decide_eq_true h
def de {p:Prop}[i:Decidable p](h:¬p:=by omega):decide p=false:=decide_eq_false h
abbrev Key:=Nat
inductive Data where
 |int (k:IntKind) (n:Int)
 |bool (b:Bool)
 |str (s:List UInt8)
 |ao (es:List (List Data))
 |ptr (cs:List Data)
 |qZ
 |fn (f:FuncId) (dc:List Data)
 |rS
 |agg (cs:List Data)
 |dp (vs:List Data)
 |n2 (t:TypeId) (d:Data)
 |nB
 deriving Inhabited
inductive H where
 |I (d:Data)
 |nil
 |ref (k:Key) (g sz off len:Nat)
 |ptr (k:Key) (g off:Nat)
 |ee (f:FuncId) (dc:List H)
 |agg (cs:List H)
 |dp (vs:List H)
 |hB (k:Key) (g:Nat)
 |no
 |undef
 deriving Inhabited
inductive Den (w:World) (au:Nat->Prop):Data->Value->Prop
 |int {k:IntKind} {n:Int}:Den w au (.int k n) (.int k n)
 |bool {b:Bool}:Den w au (.bool b) (.bool b)
 |str {s:List UInt8}:Den w au (.str s) (.string ⟨s.toArray⟩)
 |kP {a:Option Addr} {c:Nat}:Den w au (.ao []) (.slice a 0 c)
 |ao {es:List (List Data)} {b off c sz:Nat} (val:Nat->Value) (ae:(D es)<=c) (hm:(D es)<=maxLen) (R:b<w.heap.size) (e8:¬ au b) (eb:∀e∈es,D e=sz)
   (U:∀i,i<D es*sz->w.cell? ⟨b,off+i,none⟩=some (val i)) (ad:∀i d,es.flatten[i]?=some d->Den w au d (val i)) :
   Den w au (.ao es) (.slice (some ⟨b,off,none⟩) (D es) c)
 |ptr {cs:List Data} {b off:Nat} (val:Nat->Value) (R:b<w.heap.size) (e8:¬ au b)
   (U:∀i,i<(D cs)->w.cell? ⟨b,off+i,none⟩=some (val i)) (ad:∀i d,cs[i]?=some d->Den w au d (val i)) :
   Den w au (.ptr cs) (.pointer (some ⟨b,off,none⟩))
 |qZ:Den w au .qZ (.pointer none)
 |fn {f:FuncId} {dc:List Data} {vs:List Value} (ae:(D vs)=D dc) (ad:∀(i:Nat) (d:Data) (v:Value),dc[i]?=some d->vs[i]?=some v->Den w au d v) :
   Den w au (.fn f dc) (.func (.func f) #[] vs.toArray)
 |rS:Den w au .rS .nilFunc
 |agg {cs:List Data} {vs:List Value} (ae:(D vs)=D cs) (ad:∀(i:Nat) (d:Data) (v:Value),cs[i]?=some d->vs[i]?=some v->Den w au d v) :
   Den w au (.agg cs) (.agg vs.toArray)
 |dp {cs:List Data} {vs:List Value} (ae:(D vs)=D cs) (ad:∀(i:Nat) (d:Data) (v:Value),cs[i]?=some d->vs[i]?=some v->Den w au d v) :
   Den w au (.dp cs) (.tuple vs.toArray)
 |n2 {t:TypeId} {d:Data} {v:Value} (h:Den w au d v):Den w au (.n2 t d) (.iface t v)
 |nB:Den w au .nB .nilIface
def L6 {es:List (List Data)}{sz:Nat}(h:∀e∈es,D e=sz):(D es.flatten)=D es*sz:=by
 induction es with
 |nil=>simp
 |cons e r a2 =>
  have F:=h e (by simp);have G:=a2 (λx J=>h x (by simp[J]));rw[mg,ks,F,G,lQ,pw,Hh,Hi]
def Den.j9 {w ak:World}{au hi:Nat->Prop}(O:w.heap.size<=ak.heap.size)(h:∀b,b<w.heap.size->¬ au b->ak.heap[b]?=w.heap[b]?/\¬ hi b){d:Data}{v:Value}(ad:Den w au d v):Den ak hi d v:=by
 induction ad with
 |int=>exact .int
 |bool=>exact .bool
 |str=>exact .str
 |kP=>exact .kP
 | @ao es b off c sz val ae hm R e8 eb U ad a2 =>
  obtain⟨F,G⟩:=h b R e8;exact .ao val ae hm (by omega) G eb (λi Z=>(World.cell?_of_block (a:=⟨b,off+i,none⟩) F).trans (U i Z)) a2
 |qZ=>exact .qZ
 |rS=>exact .rS
 | @ptr cs b off val R e8 U ad a2 =>
  obtain⟨F,G⟩:=h b R e8;exact .ptr val (by omega) G (λi Z=>(World.cell?_of_block (a:=⟨b,off+i,none⟩) F).trans (U i Z)) a2
 |fn ae ad a2=>exact .fn ae a2
 |agg ae ad a2=>exact .agg ae a2
 |dp ae ad a2=>exact .dp ae a2
 |n2 h a2=>exact .n2 a2
 |nB=>exact .nB
structure ht where
 g:Nat
 dj:Option Nat
 size:Nat
 mp:Bool
abbrev cS:=Key->Option ht
def n3 (B:cS)(b:Nat):Prop:=∃k e,B k=some e/\e.dj=some b
def DU (e:ht)(g sz off len:Nat)(v:Value):Prop :=
 ∃a cap,v=.slice a len cap/\len<=cap/\cap<=maxLen/\(cap=0\/∃b,a=some ⟨b,off,none⟩/\(g=e.g->e.dj=some b/\off+cap*sz<=e.size/\e.mp=false))
def L7 (e:ht)(g off:Nat)(v:Value):Prop:=∃b,v=.pointer (some ⟨b,off,none⟩)/\(g=e.g->e.dj=some b/\e.mp=false)
def aiy (e:ht)(g:Nat)(v:Value):Prop:=∃b,v=.map (some b)/\(g=e.g->e.dj=some b/\e.mp=true)
def DU.later {e e':ht}{g sz off len:Nat}{v:Value}(h:DU e g sz off len v)(ae:g<e'.g):DU e' g sz off len v:=by
 obtain⟨a,cap,F,G,aa,aX⟩:=h;refine⟨a,cap,F,G,aa,aX.imp id ?_⟩;rintro⟨b,bt,_⟩;exact⟨b,bt,λh=>by omega⟩
def L7.later {e e':ht}{g off:Nat}{v:Value}(h:L7 e g off v)(ae:g<e'.g):L7 e' g off v:=by
 obtain⟨b,F,_⟩:=h;exact⟨b,F,λh=>by omega⟩
inductive aY (w:World) (au:Nat->Prop) (B:cS):H->Value->Prop
 |I {d:Data} {v:Value} (h:Den w au d v):aY w au B (.I d) v
 |nil {a:Option Addr}:aY w au B .nil (.slice a 0 0)
 |ref {k:Key} {g sz off len:Nat} {e:ht} {v:Value} (he:B k=some e) (aL:g<=e.g) (al:DU e g sz off len v):aY w au B (.ref k g sz off len) v
 |ptr {k:Key} {g off:Nat} {e:ht} {v:Value} (he:B k=some e) (aL:g<=e.g) (al:L7 e g off v):aY w au B (.ptr k g off) v
 |ee {f:FuncId} {dc:List H} {vs:List Value} (ae:(D vs)=D dc) (ad:∀(i:Nat) (d:H) (v:Value),dc[i]?=some d->vs[i]?=some v->aY w au B d v) :
   aY w au B (.ee f dc) (.func (.func f) #[] vs.toArray)
 |agg {cs:List H} {vs:List Value} (ae:(D vs)=D cs) (ad:∀(i:Nat) (d:H) (v:Value),cs[i]?=some d->vs[i]?=some v->aY w au B d v) :
   aY w au B (.agg cs) (.agg vs.toArray)
 |dp {cs:List H} {vs:List Value} (ae:(D vs)=D cs) (ad:∀(i:Nat) (d:H) (v:Value),cs[i]?=some d->vs[i]?=some v->aY w au B d v) :
   aY w au B (.dp cs) (.tuple vs.toArray)
 |hB {k:Key} {g:Nat} {e:ht} {v:Value} (he:B k=some e) (aL:g<=e.g) (al:aiy e g v):aY w au B (.hB k g) v
 |no:aY w au B .no undef
 |undef {v:Value}:aY w au B .undef v
def bn (A:Nat->Prop)(B:cS)(b:Nat):Prop:=n3 B b\/A b
structure Trans (A:Nat->Prop) (w:World) (B:cS) (ak:World) (ay:cS):Prop where
 size:w.heap.size<=ak.heap.size
 DV:∀b,b<w.heap.size->¬ bn A B b->ak.heap[b]?=w.heap[b]?/\¬ n3 ay b
 key:∀k e,B k=some e->∃e',ay k=some e'/\(e'=e\/e.g<e'.g)
def Trans.refl (A:Nat->Prop)(w:World)(B:cS):Trans A w B w B :=
 ⟨c8 _,λ_ _ h=>⟨rfl,λa4=>h (.inl a4)⟩,λ_ e he=>⟨e,he,.inl rfl⟩⟩
def Trans.trans {A:Nat->Prop}{w w1 gE:World}{B iV Hj:cS}(h:Trans A w B w1 iV)(cG:Trans A w1 iV gE Hj):Trans A w B gE Hj:=by
 refine⟨iG h.size cG.size,λb R a4=>?_,λk e he=>?_⟩
 ·obtain⟨F,G⟩:=h.DV b R a4;obtain⟨aa,aX⟩:=cG.DV b (Bg R h.size) (λJ=>J.elim G λba=>a4 (.inr ba));exact⟨aa.trans F,aX⟩
 ·obtain⟨aO,uE,bk⟩:=h.key k e he;obtain⟨ax,ef,n4⟩:=cG.key k aO uE;refine⟨ax,ef,?_⟩;rcases bk with rfl|bk<;>rcases n4 with rfl|n4
  ·exact .inl rfl
  ·exact .inr n4
  ·exact .inr bk
  ·exact .inr (Nat.lt_trans bk n4)
def Den.trans {A:Nat->Prop}{w ak:World}{B ay:cS}(t:Trans A w B ak ay){d:Data}{v:Value}(h:Den w (bn A B) d v):Den ak (bn A ay) d v :=
 h.j9 t.size λb R a4=>⟨(t.DV b R a4).1,λJ=>J.elim (t.DV b R a4).2 λba=>a4 (.inr ba)⟩
def aY.j9 {A:Nat->Prop}{w ak:World}{B ay:cS}(t:Trans A w B ak ay){m:H}{v:Value}(h:aY w (bn A B) B m v):aY ak (bn A ay) ay m v:=by
 induction h with
 |I h=>exact .I (h.trans t)
 |nil=>exact .nil
 | @ref k g sz off len e v he aL al =>
  obtain⟨e',eK,bk⟩:=t.key k e he;rcases bk with rfl|bk
  ·exact .ref eK aL al
  ·exact .ref eK (by omega) (al.later (by omega))
 | @ptr k g off e v he aL al =>
  obtain⟨e',eK,bk⟩:=t.key k e he;rcases bk with rfl|bk
  ·exact .ptr eK aL al
  ·exact .ptr eK (by omega) (al.later (by omega))
 |ee ae ad a2=>exact .ee ae a2
 |agg ae ad a2=>exact .agg ae a2
 |dp ae ad a2=>exact .dp ae a2
 | @hB k g e v he aL al =>
  obtain⟨e',eK,bk⟩:=t.key k e he;rcases bk with rfl|bk
  ·exact .hB eK aL al
  ·obtain⟨b,R,_⟩:=al;exact .hB eK (by omega) ⟨b,R,λh=>by omega⟩
 |no=>exact .no
 |undef=>exact .undef
abbrev Mem:=Key->Option (Nat×List H)
def emp:Mem:=λ_=>none
def aT (m:Mem)(k:Key)(g:Nat)(cs:List H):Mem:=λj=>if j=k then some (g,cs) else m j
def bz (m:Mem)(k:Key):Nat:=match m k with
 |none=>0
 |some (g,_)=>g+1
inductive ka (w:World) (au:Nat->Prop) (B:cS):List MapEntry->List H->Prop
 |nil:ka w au B [] []
 |cons {e:MapEntry} {es:List MapEntry} {s:List UInt8} {m:H} {ms:List H} (Q:e.key=.string ⟨s.toArray⟩) (al:aY w au B m e.val) (h:ka w au B es ms):ka w au B (e::es) (.I (.str s)::m::ms)
def ka.j9 {A:Nat->Prop}{w ak:World}{B ay:cS}(t:Trans A w B ak ay){es:List MapEntry}{ms:List H}(h:ka w (bn A B) B es ms):ka ak (bn A ay) ay es ms:=by
 induction h with
 |nil=>exact .nil
 |cons Q al _ a2=>exact .cons Q (al.j9 t) a2
def q0 (w:World)(au:Nat->Prop)(B:cS)(e:ht)(b:Nat)(cs:List H):Prop :=
 (e.mp=false/\∃vs T,w.heap[b]?=some (.cells vs T (0,0))/\vs.size=e.size/\D cs<=vs.size/\∀(i:Nat) (m:H),cs[i]?=some m->∃v,vs[i]?=some v/\aY w au B m v) \/
 (e.mp=true/\∃ir jj,w.heap[b]?=some (.map ir jj)/\ka w au B ir.toList cs)
def q0.lt {w:World}{au:Nat->Prop}{B:cS}{e:ht}{b:Nat}{cs:List H}(h:q0 w au B e b cs):b<w.heap.size:=by
 rcases h with ⟨_,vs,T,h,_⟩|⟨_,ir,jj,h,_⟩<;>exact (Array.getElem?_eq_some_iff.1 h).1
def q0.j9 {A:Nat->Prop}{w ak:World}{B ay:cS}(t:Trans A w B ak ay){e:ht}{b:Nat}{cs:List H}(h:q0 w (bn A B) B e b cs)(O:ak.heap[b]?=w.heap[b]?):q0 ak (bn A ay) ay e b cs:=by
 rcases h with ⟨aq,vs,T,F,G,aa,aX⟩|⟨F,ir,jj,G,aa⟩
 ·exact .inl ⟨aq,vs,T,O.trans F,G,aa,λi m hm=>let ⟨v,al,L⟩:=aX i m hm;⟨v,al,L.j9 t⟩⟩
 ·exact .inr ⟨F,ir,jj,O.trans G,aa.j9 t⟩
def q0.cells {w:World}{au:Nat->Prop}{B:cS}{e:ht}{b:Nat}{cs:List H}(h:q0 w au B e b cs)(aq:e.mp=false):∃vs T,w.heap[b]?=some (.cells vs T (0,0))/\vs.size=e.size/\D cs<=vs.size/\∀(i:Nat) (m:H),cs[i]?=some m->∃v,vs[i]?=some v/\aY w au B m v:=by
 rcases h with ⟨_,h⟩|⟨h,_⟩
 ·exact h
 ·rw[aq] at h;cases h
def ka.imp {w:World}{au hi:Nat->Prop}{B ay:cS}{es:List MapEntry}{ms:List H}(h:ka w au B es ms)(Z:∀m∈ms,∀v,aY w au B m v->aY w hi ay m v):ka w hi ay es ms:=by
 induction h with
 |nil=>exact .nil
 |cons Q al _ a2=>exact .cons Q (Z _ (by simp) _ al) (a2 λm hm=>Z m (by simp[hm]))
def q0.imp {w:World}{au hi:Nat->Prop}{B ay:cS}{e e':ht}{b:Nat}{cs:List H}(h:q0 w au B e b cs)(O:e'.size=e.size)(aP:e'.mp=e.mp)(Z:∀m∈cs,∀v,aY w au B m v->aY w hi ay m v):q0 w hi ay e' b cs:=by
 rcases h with ⟨aq,vs,T,F,G,aa,aX⟩|⟨F,ir,jj,G,aa⟩
 ·exact .inl ⟨aP.trans aq,vs,T,F,G.trans O.symm,aa,λi m hm=>let ⟨v,al,L⟩:=aX i m hm;⟨v,al,Z m (cJ hm) v L⟩⟩
 ·exact .inr ⟨aP.trans F,ir,jj,G,aa.imp Z⟩
def ka.has {w:World}{au:Nat->Prop}{B:cS}{es:List MapEntry}{ms:List H}(h:ka w au B es ms):∀m∈ms,∃v,aY w au B m v:=by
 induction h with
 |nil=>intro m hm;cases hm
 |cons Q al _ a2 =>
  intro m hm;simp only[kt] at hm;rcases hm with rfl|rfl|hm
  ·exact⟨_,.I .str⟩
  ·exact⟨_,al⟩
  ·exact a2 m hm
def q0.has {w:World}{au:Nat->Prop}{B:cS}{e:ht}{b:Nat}{cs:List H}(h:q0 w au B e b cs):∀m∈cs,∃v,aY w au B m v:=by
 intro m hm;rcases h with ⟨_,vs,T,_,_,_,aX⟩|⟨_,ir,jj,_,aa⟩
 ·obtain⟨i,Z⟩:=List.mem_iff_getElem?.1 hm;obtain⟨v,_,L⟩:=aX i m Z;exact⟨v,L⟩
 ·exact aa.has m hm
def zz (l:List (List UInt8)):List Value:=l.map λs => .string ⟨s.toArray⟩
def DW (w:World):Prop:=∀b l,L5 b=some l->∃T,w.heap[b]?=some (.cells (zz l).toArray T (0,0))
structure dP (A:Nat->Prop) (w:World) (B:cS) (mem:Mem):Prop where
 rT:∀k,mem k=none->B k=none
 inj:∀k k' e e' b,B k=some e->B k'=some e'->e.dj=some b->e'.dj=some b->k=k'
 sep:∀b,A b->¬ n3 B b
 lt:∀b,A b->b<w.heap.size
 gl:DW w
 v7:∀b l,L5 b=some l->¬ n3 B b
 dj:∀k g cs,mem k=some (g,cs)->∃e,B k=some e/\e.g=g/\(e.dj=none->cs=[]) /\
  ∀b,e.dj=some b->q0 w (bn A B) B e b cs
def dP.rU {A:Nat->Prop}{w:World}{B:cS}{mem:Mem}(h:dP A w B mem){b:Nat}(R:n3 B b):b<w.heap.size:=by
 obtain⟨k,e,he,R⟩:=R
 cases hm:mem k with
 |none=>rw[h.rT k hm] at he;cases he
 |some x =>
  obtain⟨g,cs⟩:=x;obtain⟨e',eK,_,_,bk⟩:=h.dj k g cs hm;rw[eK] at he
  cases he;exact (bk b R).lt
structure Fr (ti:Nat->Prop) (cq w:World):Prop where
 os:w.os=cq.os
 tape:w.tape=cq.tape
 output:w.output=cq.output
 size:cq.heap.size<=w.heap.size
 block:∀g,g<cq.heap.size->¬ ti g->w.heap[g]?=cq.heap[g]?
def Fr.refl (ti:Nat->Prop)(w:World):Fr ti w w:=⟨rfl,rfl,rfl,c8 _,λ_ _ _=>rfl⟩
def Fr.drew {ti:Nat->Prop}{cq w:World}(h:Fr ti cq w)(n:Nat):Fr ti cq { w with drawn:=n }:=⟨h.os,h.tape,h.output,h.size,h.block⟩
def Fr.alloc {ti:Nat->Prop}{cq w:World}(h:Fr ti cq w)(o:Obj):Fr ti cq (w.alloc o) :=
 ⟨h.os,h.tape,h.output,by simp;have:=h.size;omega,λg aL e8=>(RowKit.Below.heap_alloc w o g (by have:=h.size;omega)).trans (h.block g aL e8)⟩
def Fr.aiz {cq w:World}(h:Fr (λ_=>False) cq w)(aL:DW cq):DW w:=λb o R=>let ⟨T,cu⟩:=aL b o R;⟨T,(h.block b (Array.getElem?_eq_some_iff.1 cu).1 id).trans cu⟩
inductive bu where
 |t (s:Nat)
 |c (m:H)
 deriving Inhabited
inductive fM where
 |iu (x:bu)
 |pick (c a b:bu)
 |alloc (k:Key) (z:List H)
 |box (k:Key) (x:bu)
 |build (z:List H) (parts:List (Nat×Nat×bu))
 |dM (k:Key) (own:Bool) (z:List H) (sz len:Nat) (parts:List (Nat×Nat×bu))
 |load (n:Nat) (bH:Bool) (x:bu)
 |store (n:Nat) (x v:bu)
 |bin (op:BinOp) (x y:bu)
 |beq (neg:Bool) (x y:bu)
 |eqs (neg:Bool) (gF:List Nat) (x y:bu)
 |lR (neg:Bool) (x:bu)
 |un (op:UnOp) (x:bu)
 |conv (k:IntKind) (x:bu)
 |uF (x:bu)
 |la (k:Key) (z:List H) (bytes:Nat) (len cap:bu)
 |tj (off:Nat) (x:bu)
 |xC (off n:Nat) (bH:Bool) (x:bu)
 |uG (sz:Nat) (x i:bu)
 |Bh (len sz:Nat) (x i:bu)
 |idxs (x i:bu)
 |q1 (sz:Nat) (x:bu) (b6 Z jM:Option bu)
 |tk (len sz:Nat) (x:bu) (b6 Z jM:Option bu)
 |Bi (x:bu) (b6 Z:Option bu)
 |ext (i:Nat) (x:bu)
 |len (x:bu)
 |lens (x:bu)
 |app (k:Key) (z:List H) (bytes:Nat) (s x:bu)
 |q2 (sz:Nat) (d x:bu)
 |lS (jM:Bool) (x y:bu)
 |call (f:FuncId) (args:List bu)
 |lb (k:Key) (sz:Nat) (f:FuncId) (args:List bu)
 |jN (f:bu) (args:List bu)
 |kQ (b6:Nat) (f:FuncId) (args:List bu)
 |qb (j:Nat) (f:FuncId) (args:List bu)
 |qc (j:Nat) (f:FuncId) (args:List bu)
 |tl (z:List H) (x:bu)
 |uH (f:FuncId) (dc:List bu)
 |DX (t:TypeId) (x:bu)
 |L8 (t:TypeId) (ok:Bool) (z:H) (x:bu)
 |Bj (neg L9:Bool) (x:bu)
 |Ma (len sz:Nat) (bH:Bool) (x i:bu)
 |v8 (k:Key)
 |zA (ok:Bool) (z:H) (x i:bu)
 |xD (x i v:bu)
 |bad
 deriving Inhabited
structure bw where
 dst:Option Nat
 g:Option (Nat×Bool)
 op:fM
 deriving Inhabited
inductive Mb where
 |mM (s:Nat) (k:Key) (sz:Nat)
 |DY (x:bu) (i:Nat) (k:Key) (sz:Nat)
 |freeze (s:Nat)
 |Mc (x:bu) (i:Nat)
 |move
 |many
 deriving Inhabited
inductive e0 where
 |skip
 |ops (l:List bw)
 |mN (l:List bw) (c:List (List Nat))
 |seq (a b:e0)
 |cond (c:bu) (a b:e0)
 |block (id:Nat) (c:e0)
 |loop (c:e0)
 |exit (id:Nat)
 |ret
 |ghost (g:Mb) (c:e0)
 deriving Inhabited
inductive ku where
 |t (s:Nat)
 |cell (s n:Nat) (bH:Bool)
 deriving Inhabited
structure bE where
 n:Nat
 aiA:Nat
 res:List ku
 body:e0
 deriving Inhabited
structure a6 where
 tm:Nat->H
 mem:Mem
def dZ (tm:Nat->H)(s:Nat)(m:H):Nat->H:=λt=>if t=s then m else tm t
def put (tm:Nat->H):Option Nat->H->Nat->H
 |some s,m=>dZ tm s m
 |none,_=>tm
@[simp] def q3 (tm:Nat->H)(s:Nat)(m:H)(t:Nat):dZ tm s m t=if t=s then m else tm t:=rfl
def aK (tm:Nat->H):bu->H
 |.t s=>tm s
 |.c m=>m
def H.cells:H->List H
 |.agg cs=>cs
 |.I (.agg ds)=>ds.map .I
 |m=>[m]
def H.known:H->Bool
 |.undef=>false
 |_=>true
def H.one:H->Bool
 |.I (.agg _)=>false
 |.I (.dp _)=>false
 |.I _=>true
 |.nil=>true
 |.ref ..=>true
 |.ptr ..=>true
 |.ee ..=>true
 |.hB ..=>true
 |_=>false
def oF (bH:Bool)(cs:List H):Option H :=
 if bH=true then some (.agg cs) else match cs with
  | [m]=>some m
  |_=>none
def cut (cs:List H)(off n:Nat):Option (List H) :=
 if off+n<=(D cs) then some ((cs.drop off).take n) else none
def kv (cs:List H)(off:Nat)(new:List H):List H:=cs.take off++new++cs.drop (off+D new)
def kd (aK:bu->H)(cells:List H):List (Nat×Nat×bu)->Option (List H)
 | []=>some cells
 |(off,size,x)::rest =>
  if (aK x).known=true/\(aK x).cells.length=size/\off+size<=(D cells) then kd aK (kv cells off (aK x).cells) rest else none
def rV:H->Option Data
 |.I d=>some d
 |.nil=>some (.ao [])
 |_=>none
def chunk (sz:Nat):Nat->List Data->List (List Data)
 |0,_=>[]
 |n+1,l=>l.take sz::chunk sz n (l.drop sz)
def Md (op:BinOp)(k:IntKind)(a b:Int):Option Data :=
 match op with
 |.add=>some (.int k (k.wrap (a+b)))
 |.sub=>some (.int k (k.wrap (a-b)))
 |.mul=>some (.int k (k.wrap (a*b)))
 |.quo=>if b=0 then none else some (.int k (k.wrap (a.tdiv b)))
 |.rem=>if b=0 then none else some (.int k (a.tmod b))
 |.and=>some (.int k (bits .and k a b))
 |.or=>some (.int k (bits .or k a b))
 |.xor=>some (.int k (bits .xor k a b))
 |.andNot=>some (.int k (bits .andNot k a b))
 |.eql=>some (.bool (a==b))
 |.neq=>some (.bool (a != b))
 |.lss=>some (.bool (a<b))
 |.leq=>some (.bool (a<=b))
 |.gtr=>some (.bool (a>b))
 |.geq=>some (.bool (a>=b))
 |_=>none
def Me (op:BinOp)(k:IntKind)(a b:Int):Option Data :=
 if b<0 then none else match op with
 |.shl=>some (.int k (k.wrap (a*2^(min b.toNat k.bits))))
 |.shr=>some (.int k (a.fdiv (2^(min b.toNat k.bits))))
 |_=>none
def Mf (op:BinOp)(a b:List UInt8):Option Data :=
 match op with
 |.add=>if (D a)+D b<=maxLen then some (.str (a++b)) else none
 |.eql=>some (.bool (a==b))
 |.neq=>some (.bool (!(a==b)))
 |.lss=>some (.bool (Op.bytesLess a b))
 |.leq=>some (.bool (Op.bytesLess a b||a==b))
 |.gtr=>some (.bool (!(Op.bytesLess a b||a==b)))
 |.geq=>some (.bool (!Op.bytesLess a b))
 |_=>none
def DZ:BinOp->Bool
 |.shl=>true
 |.shr=>true
 |_=>false
def D0 (op:BinOp)(x y:H):Option H :=
 match x,y with
 |.I (.int k a),.I (.int k' b)=>if DZ op=true then (Me op k a b).map .I else if k=k' then (Md op k a b).map .I else none
 |.I (.str a),.I (.str b)=>(Mf op a b).map .I
 |_,_=>none
def D1 (neg:Bool):H->H->Option H
 |.I (.bool a),.I (.bool b)=>some (.I (.bool (neg != (a==b))))
 |_,_=>none
def Mg:Nat->H->H->Option Bool
 |0,.I (.bool a),.I (.bool b)=>some (a==b)
 |1,.I (.int k a),.I (.int k' b)=>if k=k' then some (a==b) else none
 |2,.I (.str a),.I (.str b)=>some (a==b)
 |_,_,_=>none
def zB:List Nat->List H->List H->Option Bool
 | [],[],[]=>some true
 |k::gF,a::x,b::y=>match Mg k a b,zB gF x y with
  |some c,some d=>some (c&&d)
  |_,_=>none
 |_,_,_=>none
def Hk (op:UnOp)(x:H):Option H :=
 match op,x with
 |.neg,.I (.int k n)=>some (.I (.int k (k.wrap (0-n))))
 |.xor,.I (.int k n)=>some (.I (.int k (bits .xor k (if k.signed then -1 else k.max) n)))
 |.not,.I (.bool b)=>some (.I (.bool !b))
 |_,_=>none
def idx:H->Option Nat
 |.I (.int _ n)=>if 0<=n then some n.toNat else none
 |_=>none
def jx (d:Nat):Option H->Option Nat
 |none=>some d
 |some x=>idx x
def tn:H->Option Nat
 |.I (.ao es)=>some (D es)
 |.nil=>some 0
 |.ref _ _ _ _ n=>some n
 |_=>none
def iW (mem:Mem)(n:Nat)(bH:Bool):H->Option H
 |.ptr k g off=>match mem k with
  |some (cv,cs)=>if cv=g then (cut cs off n).bind (oF bH) else none
  |none=>none
 |.I (.ptr ds)=>(cut (ds.map .I) 0 n).bind (oF bH)
 |_=>none
def xE:H->Option Nat
 |.I (.str s)=>some (D s)
 |_=>none
def D2:H->H->H->Option H
 |.I (.bool t),a,b=>some (if t=true then a else b)
 |_,_,_=>none
def Hl (z:List H)(sz len:Nat)(x:Option (List H)):Option H :=
 if (D z)=len*sz then (match x with
  |some cs=>(cs.mapM rV).map λds => .I (.ao (chunk sz len ds))
  |none=>none) else none
def Bk:H->Option (List H)
 |.agg cs=>some cs
 |.I (.agg ds)=>some (ds.map .I)
 |_=>none
def Hm (neg:Bool)(gF:List Nat)(a b:H):Option H:=match Bk a,Bk b with
 |some x,some y=>(match zB gF x y with
  |some c=>some (.I (.bool (neg != c)))
  |none=>none)
 |_,_=>none
def Hn (k:IntKind):H->Option H
 |.I (.int _ n)=>some (.I (.int k (k.wrap n)))
 |_=>none
def Ho:H->Option H
 |.ptr k g off=>some (.ptr k g off)
 |.I (.ptr ds)=>some (.I (.ptr ds))
 |_=>none
def D3 (off:Nat):H->Option H
 |.ptr k g o=>some (.ptr k g (o+off))
 |.I (.ptr ds)=>if off<=(D ds) then some (.I (.ptr (ds.drop off))) else none
 |_=>none
def D4 (off n:Nat)(bH:Bool):H->Option H
 |.agg cs=>(cut cs off n).bind (oF bH)
 |.I (.agg ds)=>(cut (ds.map .I) off n).bind (oF bH)
 |_=>none
def Hp (sz n:Nat):H->Option H
 |.ref k g eg off len=>if n<len/\eg=sz then some (.ptr k g (off+n*sz)) else none
 |.I (.ao es)=>match es[n]? with
  |some e=>if (D e)=sz then some (.I (.ptr e)) else none
  |none=>none
 |_=>none
def Hq (len sz n:Nat):H->Option H
 |.ptr k g off=>if n<len then some (.ptr k g (off+n*sz)) else none
 |.I (.ptr ds)=>if n<len/\n*sz<=(D ds) then some (.I (.ptr (ds.drop (n*sz)))) else none
 |_=>none
def Hr (n:Nat):H->Option H
 |.I (.str s)=>(s[n]?).map λb => .I (.int .u8 b.toNat)
 |_=>none
def rW (sz:Nat)(es:List (List Data)):Bool:=es.all λe=>D e==sz
def Hs (sz l h:Nat):H->Option H
 |.I (.ao es)=>if l<=h/\h<=D es/\rW sz es=true then some (.I (.ao ((es.take h).drop l))) else none
 |.nil=>if l=0/\h=0 then some .nil else none
 |.ref k g eg off len=>if eg=sz/\l<=h/\h<=len then some (.ref k g sz (off+l*sz) (h-l)) else none
 |_=>none
def Ht (sz l h m:Nat):H->Option H
 |.I (.ao es)=>if l<=h/\h<=m/\m<=D es/\rW sz es=true then (if m=l then some .nil else some (.I (.ao ((es.take h).drop l)))) else none
 |.nil=>if l=0/\h=0/\m=0 then some .nil else none
 |.ref _ _ _ _ len=>if l<=h/\h<=m/\m<=len/\m=l then some .nil else none
 |_=>none
def Hu (l h:Nat):H->Option H
 |.I (.str s)=>if l<=h/\h<=(D s) then some (.I (.str ((s.take h).drop l))) else none
 |_=>none
def Hv (i:Nat):H->Option H
 |.dp vs=>vs[i]?
 |.I (.dp ds)=>(ds[i]?).map .I
 |_=>none
def Hw (jM:Bool):H->H->Option H
 |.I (.int k a),.I (.int k' b)=>if k=k' then some (.I (.int k (if jM=true then (if b>a then b else a) else (if b<a then b else a)))) else none
 |_,_=>none
def Q8:H->Option Data
 |.I d=>some d
 |.nil=>some (.ao [])
 |.agg cs=>(cs.mapM rV).map .agg
 |_=>none
def Bl (ok b:Bool)(m:H):H:=if ok=true then .dp [m,.I (.bool b)] else m
def Q9 (t:TypeId)(m:H):Option H:=(Q8 m).map λd => .I (.n2 t d)
def Ra (t:TypeId)(ok:Bool)(z:H):H->Option H
 |.I (.n2 ld d)=>if ld=t then some (Bl ok true (.I d)) else if ok=true then some (Bl true false z) else none
 |.I .nB=>if ok=true then some (Bl true false z) else none
 |_=>none
def isNil:Bool->H->Option Bool
 |false,.I .qZ=>some true
 |false,.I (.ptr _)=>some false
 |false,.ptr ..=>some false
 |true,.I .nB=>some true
 |true,.I (.n2 ..)=>some false
 |_,_=>none
def Hx (neg L9:Bool)(m:H):Option H:=(isNil L9 m).map λb => .I (.bool (neg != b))
def Rb (len sz:Nat)(bH:Bool)(n:Nat)(m:H):Option H:=if n<len then (Bk m).bind λcs=>if len*sz<=(D cs) then (cut cs (n*sz) sz).bind (oF bH) else none else none
def Mh (s:List UInt8):List H->Option (Option H)
 | []=>some none
 |.I (.str k)::v::r=>if s=k then some (some v) else Mh s r
 |_=>none
def Mi (s:List UInt8)(x:H):List H->Option (List H)
 | []=>some [.I (.str s),x]
 |.I (.str k)::v::r=>if s=k then some (.I (.str k)::x::r) else (Mi s x r).map λr => .I (.str k)::v::r
 |_=>none
def hC (x:Option Nat)(f:Nat->Option H):Option H:=match x with
 |some n=>f n
 |none=>none
def jk (tm:Nat->H):fM->Option H
 |.iu x=>some (aK tm x)
 |.pick c a b=>D2 (aK tm c) (aK tm a) (aK tm b)
 |.build z parts=>(kd (aK tm) z parts).map .agg
 |.dM _ false z sz len parts=>Hl z sz len (kd (aK tm) z parts)
 |.bin op x y=>D0 op (aK tm x) (aK tm y)
 |.beq neg x y=>D1 neg (aK tm x) (aK tm y)
 |.eqs neg gF x y=>Hm neg gF (aK tm x) (aK tm y)
 |.un op x=>Hk op (aK tm x)
 |.conv k x=>Hn k (aK tm x)
 |.uF x=>Ho (aK tm x)
 |.tj off x=>D3 off (aK tm x)
 |.xC off n bH x=>D4 off n bH (aK tm x)
 |.uG sz x i=>hC (idx (aK tm i)) λn=>Hp sz n (aK tm x)
 |.Bh len sz x i=>hC (idx (aK tm i)) λn=>Hq len sz n (aK tm x)
 |.idxs x i=>hC (idx (aK tm i)) λn=>Hr n (aK tm x)
 |.q1 sz x b6 Z none=>hC (jx 0 (b6.map (aK tm))) λl=>hC (tn (aK tm x)) λlen=>hC (jx len (Z.map (aK tm))) λh=>Hs sz l h (aK tm x)
 |.q1 sz x b6 (some Z) (some jM)=>hC (jx 0 (b6.map (aK tm))) λl=>hC (idx (aK tm Z)) λh=>hC (idx (aK tm jM)) λm=>Ht sz l h m (aK tm x)
 |.Bi x b6 Z=>hC (jx 0 (b6.map (aK tm))) λl=>hC (xE (aK tm x)) λlen=>hC (jx len (Z.map (aK tm))) λh=>Hu l h (aK tm x)
 |.ext i x=>Hv i (aK tm x)
 |.len x=>hC (tn (aK tm x)) λn=>some (.I (.int .i64 n))
 |.lens x=>hC (xE (aK tm x)) λn=>some (.I (.int .i64 n))
 |.lS jM x y=>Hw jM (aK tm x) (aK tm y)
 |.uH f dc=>some (.ee f (dc.map (aK tm)))
 |.DX t x=>Q9 t (aK tm x)
 |.L8 t ok z x=>Ra t ok z (aK tm x)
 |.Bj neg L9 x=>Hx neg L9 (aK tm x)
 |.Ma len sz bH x i=>hC (idx (aK tm i)) λn=>Rb len sz bH n (aK tm x)
 |_=>none
def Rc (k:Key)(g off len sz l h:Nat):Option (Nat×List H)->Option H
 |some (cv,cs)=>if cv=g/\l<=h/\h<=len/\off+len*sz<=(D cs) then some (.ref k g sz (off+l*sz) (h-l)) else none
 |none=>none
def zC (mem:Mem)(len sz l h:Nat):H->Option H
 |.ptr k g off=>Rc k g off len sz l h (mem k)
 |_=>none
def px (mem:Mem)(sz:Nat):H->Option (Nat×List H)
 |.I (.ao es)=>if rW sz es=true then some (D es,es.flatten.map H.I) else none
 |.nil=>some (0,[])
 |.ref k g eg off len=>if eg=sz then (match mem k with
  |some (cv,cs)=>if cv=g then (cut cs off (len*sz)).map λcs=>(len,cs) else none
  |none=>none) else none
 |_=>none
abbrev Out:=Option (H×Option (Key×Nat×List H))
def iv (x:Option H):Out:=match x with
 |some m=>some (m,none)
 |none=>none
def D5 (k:Key)(g:Nat)(z:List H)(sz len:Nat)(x:Option (List H)):Out :=
 if (D z)=len*sz then (match x with
  |some cs=>some (.ref k g sz 0 len,some (k,g,cs))
  |none=>none) else none
def D6 (k:Key)(g:Nat)(z:List H)(bytes:Nat)(n c:Nat):Out :=
 if n=c/\bytes*n<=140737488355328/\n<=maxLen then some (.ref k g (D z) 0 n,some (k,g,(cf n z).flatten)) else none
def Hy (x y:Option Nat)(f:Nat->Nat->Out):Out:=match x,y with
 |some n,some m=>f n m
 |_,_=>none
def Hz (n:Nat)(k:Key)(g off:Nat)(v:List H)(x:Option (Nat×List H)):Out:=match x with
 |some (cv,cs)=>if cv=g/\D v=n/\off+n<=D cs/\v.all H.one=true then some (.no,some (k,g,kv cs off v)) else none
 |none=>none
def v9 (mem:Mem)(n:Nat):H->List H->Out
 |.ptr k g off,v=>Hz n k g off v (mem k)
 |_,_=>none
def lf (k:Key)(g:Nat)(sz len bytes:Nat)(m:Nat)(new:List H)(x:Option (Nat×List H)):Out:=match x with
 |some (cv,cs)=>if cv=g/\len*sz<=D cs/\(len+m)*bytes<=140737488355328/\len+m<=maxLen/\new.all H.one=true
   then some (.ref k (g+1) sz 0 (len+m),some (k,g+1,cs.take (len*sz)++new)) else none
 |none=>none
def qd (mem:Mem)(k:Key)(z:List H)(bytes:Nat):H->Option (Nat×List H)->Out
 |.nil,some (m,new)=>if m*bytes<=140737488355328/\m<=maxLen/\new.all H.one=true then some (.ref k (bz mem k) (D z) 0 m,some (k,bz mem k,new)) else none
 |.ref k' g eg off len,some (m,new)=>if eg=D z/\off=0 then lf k' g eg len bytes m new (mem k') else none
 |_,_=>none
def zD (k:Key)(g sz off len:Nat)(m:Nat)(new:List H)(x:Option (Nat×List H)):Out:=match x with
 |some (cv,cs)=>if cv=g/\off+len*sz<=D cs/\new.all H.one=true then some (.I (.int .i64 ((min m len:Nat):Int)),some (k,g,kv cs off (new.take (min m len*sz)))) else none
 |none=>none
def uI (mem:Mem)(sz:Nat):H->Option (Nat×List H)->Out
 |.ref k g eg off len,some (m,new)=>if eg=sz then zD k g sz off len m new (mem k) else none
 |_,_=>none
def Mj (z:List H)(k:Key)(g off len:Nat)(x:Option (Nat×List H)):Out:=match x with
 |some (cv,cs)=>if cv=g/\off+len*D z<=D cs/\z.all H.one=true then some (.dp [],some (k,g,kv cs off (cf len z).flatten)) else none
 |none=>none
def wa (mem:Mem)(z:List H):H->Out
 |.ref k g sz off len=>if sz=(D z) then Mj z k g off len (mem k) else none
 |_=>none
def zE (mem:Mem):H->Option (Key×Nat×List H)
 |.hB k g=>match mem k with
  |some (cv,cs)=>if cv=g then some (k,g,cs) else none
  |none=>none
 |_=>none
def Mk:H->Option (List UInt8)
 |.I (.str s)=>some s
 |_=>none
def Ml (mem:Mem)(ok:Bool)(z:H)(x i:H):Option H:=match zE mem x,Mk i with
 |some (_,_,cs),some s=>match Mh s cs with
  |some (some v)=>some (Bl ok true v)
  |some none=>some (Bl ok false z)
  |none=>none
 |_,_=>none
def H.whole:H->Bool
 |.undef=>false
 |.no=>false
 |.dp _=>false
 |_=>true
def HA (mem:Mem)(x i v:H):Out:=match zE mem x,Mk i with
 |some (k,g,cs),some s=>if v.whole=true then (match Mi s v cs with
  |some g7=>some (.no,some (k,g,g7))
  |none=>none) else none
 |_,_=>none
def bD (mem:Mem)(tm:Nat->H):fM->Out
 |.alloc k z=>some (.ptr k (bz mem k) 0,some (k,bz mem k,z))
 |.box k x=>if (aK tm x).known=true then some (.ptr k (bz mem k) 0,some (k,bz mem k,(aK tm x).cells)) else none
 |.dM k true z sz len parts=>D5 k (bz mem k) z sz len (kd (aK tm) z parts)
 |.la k z bytes len cap=>Hy (idx (aK tm len)) (idx (aK tm cap)) (D6 k (bz mem k) z bytes)
 |.load n bH x=>iv (iW mem n bH (aK tm x))
 |.tk len sz x b6 Z none=>iv (hC (jx 0 (b6.map (aK tm))) λl=>hC (jx len (Z.map (aK tm))) λh=>zC mem len sz l h (aK tm x))
 |.store n x v=>v9 mem n (aK tm x) (aK tm v).cells
 |.app k z bytes s x=>qd mem k z bytes (aK tm s) (px mem (D z) (aK tm x))
 |.q2 sz d x=>uI mem sz (aK tm d) (px mem sz (aK tm x))
 |.tl z x=>wa mem z (aK tm x)
 |.v8 k=>some (.hB k (bz mem k),some (k,bz mem k,[]))
 |.zA ok z x i=>iv (Ml mem ok z (aK tm x) (aK tm i))
 |.xD x i v=>HA mem (aK tm x) (aK tm i) (aK tm v)
 |op=>iv (jk tm op)
inductive gG where
 |same (r:Data)
 |own (sz:Nat) (es:List (List Data))
 |rel (bF:H->Mem->Prop)
 |dZ (r:Data) (k:Key) (g i:Nat) (c:H)
 |xF (r:Data) (k:Key)
abbrev bg:=FuncId->List H->Mem->Option gG
def gf (mem:Mem):Option (Key×Nat×List H)->Mem
 |none=>mem
 |some (k,g,cs)=>aT mem k g cs
def qe (mem:Mem)(k:Key):List H:=match mem k with
 |some (_,cs)=>cs
 |none=>[]
def tp (T:bg)(K:a6->Prop)(st:a6)(dst:Option Nat)(f:FuncId)(args:List H):Prop :=
 match T f args st.mem with
 |some (.same r)=>K ⟨put st.tm dst (.I r),st.mem⟩
 |some (.own _ es)=>K ⟨put st.tm dst (.I (.ao es)),st.mem⟩
 |some (.rel bF)=>∀r mem',bF r mem'->K ⟨put st.tm dst r,mem'⟩
 |some (.dZ r k g i c)=>K ⟨put st.tm dst (.I r),aT st.mem k g ((qe st.mem k).set i c)⟩
 |some (.xF r k)=>K ⟨put st.tm dst (.I r),aT st.mem k (bz st.mem k) []⟩
 |none=>False
def xG:H->Option Bool
 |.I (.ao es)=>some (!es.isEmpty)
 |.nil=>some false
 |.ref _ _ _ _ len=>some (decide (0<len))
 |_=>none
def gg (T:bg)(K:a6->Prop)(i:bw)(st:a6):Prop :=
 match i.op with
 |.call f args=>tp T K st i.dst f (args.map (aK st.tm))
 |.lb k sz f args=>match T f (args.map (aK st.tm)) st.mem with
  |some (.own eg es)=>if eg=sz then K ⟨put st.tm i.dst (.ref k (bz st.mem k) sz 0 (D es)),aT st.mem k (bz st.mem k) (es.flatten.map .I)⟩ else False
  |_=>False
 |.jN f args=>match aK st.tm f with
  |.ee g dc=>tp T K st i.dst g (args.map (aK st.tm)++dc)
  |.I (.fn g ds)=>tp T K st i.dst g (args.map (aK st.tm)++ds.map .I)
  |_=>False
 |.lR neg x=>match xG (aK st.tm x) with
  |some full=>∀b:Bool,(full=true->b=false)->K ⟨put st.tm i.dst (.I (.bool (neg != b))),st.mem⟩
  |none=>False
 |op=>match bD st.mem st.tm op with
  |some (m,e)=>K ⟨put st.tm i.dst m,gf st.mem e⟩
  |none=>False
def g8 (tm:Nat->H):Option (Nat×Bool)->Option Bool
 |none=>some true
 |some (s,b)=>match tm s with
  |.I (.bool t)=>some (t==b)
  |.no=>some false
  |_=>none
def wb (T:bg)(K:a6->Prop):List bw->a6->Prop
 | [],st=>K st
 |i::r,st=>match g8 st.tm i.g with
  |none=>False
  |some g=>if g=true then gg T (wb T K r) i st else wb T K r ⟨put st.tm i.dst .no,st.mem⟩
def keyOf:H->List Key
 |.ref k ..=>[k]
 |.ptr k ..=>[k]
 |_=>[]
def HB:H->List Key
 |.hB k _=>[k]
 |_=>[]
inductive lg where
 |fT (k:Key)
 |rd (k:Key) (a b:Nat)
 |wr (k:Key) (i:Nat)
def lg.key:lg->Key
 |.fT k=>k
 |.rd k _ _=>k
 |.wr k _=>k
def qf:lg->lg->Bool
 |.fT k,.fT k' => !(k==k')
 |.fT k,.rd k' _ _ => !(k==k')
 |.rd k _ _,.fT k' => !(k==k')
 |.rd _ _ _,.rd _ _ _=>true
 |.rd k a b,.wr k' i => !(k==k')||(decide (i<a)||decide (b<=i))
 |.wr k' i,.rd k a b => !(k==k')||(decide (i<a)||decide (b<=i))
 |.wr _ _,.wr _ _=>false
 |.fT _,.wr _ _=>false
 |.wr _ _,.fT _=>false
def zF (n:Nat):H->List lg
 |.ref k ..=>[.fT k]
 |.ptr k _ off=>[.rd k off (off+n)]
 |_=>[]
def HC (b6:Nat):List H->List lg
 |.ptr k _ off::_=>[.wr k (off+b6)]
 |_=>[]
def uJ:Option H->List lg
 |some (.ref k ..)=>[.fT k]
 |_=>[]
def cw (tm:Nat->H):fM->List lg
 |.load n _ x=>zF n (aK tm x)
 |.tk _ _ x _ _ _=>(keyOf (aK tm x)).map .fT
 |.store _ x _=>(keyOf (aK tm x)).map .fT
 |.alloc k _=>[.fT k]
 |.box k _=>[.fT k]
 |.dM k true _ _ _ _=>[.fT k]
 |.la k _ _ _ _=>[.fT k]
 |.lb k _ _ _=>[.fT k]
 |.app k _ _ s x => .fT k::((keyOf (aK tm s)).map .fT++(keyOf (aK tm x)).map .fT)
 |.q2 _ d x=>(keyOf (aK tm d)).map .fT++(keyOf (aK tm x)).map .fT
 |.kQ b6 _ args=>HC b6 (args.map (aK tm))
 |.qb j _ args=>uJ (args.map (aK tm))[j]?
 |.qc j _ args=>uJ (args.map (aK tm))[j]?
 |.tl _ x=>(keyOf (aK tm x)).map .fT
 |.v8 k=>[.fT k]
 |.zA _ _ x _=>(HB (aK tm x)).map .fT
 |.xD x _ _=>(HB (aK tm x)).map .fT
 |_=>[]
def gh:fM->Bool
 |.store ..=>true
 |.alloc ..=>true
 |.box ..=>true
 |.dM _ true _ _ _ _=>true
 |.la ..=>true
 |.lb ..=>true
 |.app ..=>true
 |.q2 ..=>true
 |.kQ ..=>true
 |.qb ..=>true
 |.qc ..=>true
 |.tl ..=>true
 |.v8 ..=>true
 |.xD ..=>true
 |_=>false
def shut:H->H
 |.I d => .I d
 |.nil => .nil
 |.ee f [] => .ee f []
 |.agg cs=>match cs.mapM rV with
  |some ds => .I (.agg ds)
  |none => .undef
 |_ => .undef
def D7 (b6:Nat)(mem:Mem):List H->Option gG->Option (H×Option (Key×Nat×List H))
 |.ptr k _ off::_,some (.dZ r k' cv i c)=>match mem k with
  |some (g,cs)=>if k'=k/\cv=g/\i=off+b6 then some (.I r,some (k,g,cs.set i c)) else none
  |none=>none
 |_,_=>none
def Rd (cs:List H):Option (List Data):=cs.mapM rV
def HD (sz off len:Nat)(cs:List H):Option Data:=match cut cs off (len*sz) with
 |some part=>(Rd part).map λds => .ao (chunk sz len ds)
 |none=>none
def Mm:Option gG->Option Data
 |some (.same r)=>some r
 |some (.own _ es)=>some (.ao es)
 |_=>none
def Re (T:bg)(j:Nat)(f:FuncId)(ms:List H)(k:Key)(g sz off len:Nat):Option (Nat×List H)->Option (H×Option (Key×Nat×List H))
 |some (cv,cs)=>if cv=g then (match HD sz off len cs with
  |some d=>(match Mm (T f (ms.set j (.I d)) emp) with
   |some r=>some (.I r,some (k,cv+1,[]))
   |none=>none)
  |none=>none) else none
 |none=>none
def HE (T:bg)(mem:Mem)(j:Nat)(f:FuncId)(ms:List H):Option H->Option (H×Option (Key×Nat×List H))
 |some (.ref k g sz off len)=>Re T j f ms k g sz off len (mem k)
 |_=>none
def q4 (cs:List H):Bool:=cs.all λm=>(rV m).isSome
def Rf (T:bg)(j:Nat)(f:FuncId)(ms:List H)(k:Key)(g sz off len:Nat):Option (Nat×List H)->Option (H×Option (Key×Nat×List H))
 |some (cv,cs)=>if q4 cs=true then (match T f (ms.set j (.ref k g sz off len)) (aT emp k cv cs) with
  |some (.xF r k')=>if k'=k then some (.I r,some (k,cv+1,[])) else none
  |_=>none) else none
 |none=>none
def HF (T:bg)(mem:Mem)(j:Nat)(f:FuncId)(ms:List H):Option H->Option (H×Option (Key×Nat×List H))
 |some (.ref k g sz off len)=>Rf T j f ms k g sz off len (mem k)
 |_=>none
def eW (T:bg)(mem:Mem)(tm:Nat->H):fM->Option (H×Option (Key×Nat×List H))
 |.call f args=>match T f (args.map λx=>shut (aK tm x)) emp with
  |some (.same r)=>some (.I r,none)
  |some (.own _ es)=>some (.I (.ao es),none)
  |_=>none
 |.lb k sz f args=>match T f (args.map λx=>shut (aK tm x)) emp with
  |some (.own eg es)=>if eg=sz then some (.ref k (bz mem k) sz 0 (D es),some (k,bz mem k,es.flatten.map .I)) else none
  |_=>none
 |.jN f args=>match shut (aK tm f) with
  |.ee g []=>(match T g (args.map λx=>shut (aK tm x)) emp with
   |some (.same r)=>some (.I r,none)
   |_=>none)
  |_=>none
 |.lR ..=>none
 |.kQ b6 f args=>D7 b6 mem (args.map (aK tm)) (T f (args.map (aK tm)) mem)
 |.qb j f args=>HE T mem j f (args.map λx=>shut (aK tm x)) (args.map (aK tm))[j]?
 |.qc j f args=>HF T mem j f (args.map λx=>shut (aK tm x)) (args.map (aK tm))[j]?
 |op=>bD mem tm op
abbrev Rec:=Nat->Option (Bool×List lg)
def qg (a b:Bool×List lg):Bool:=!(a.1||b.1)||a.2.all λx=>b.2.all λy=>qf x y
def rX (rec:Rec)(p:Bool×List lg)(c:List Nat):Bool:=c.all λi=>match rec i with
 |none=>true
 |some q=>qg q p
def jl (rec:Rec)(n:Nat)(p:Bool×List lg):Rec:=λi=>if i=n then some p else rec i
def tq (T:bg)(K:a6->Prop):Nat->List bw->List (List Nat)->Rec->a6->Prop
 |_,[],_,_,st=>K st
 |n,i::r,cs,rec,st=>match g8 st.tm i.g with
  |none=>False
  |some g=>if g=true then (match eW T st.mem st.tm i.op with
    |some (m,e)=>rX rec (gh i.op,cw st.tm i.op) (cs.headD [])=true/\tq T K (n+1) r cs.tail (jl rec n (gh i.op,cw st.tm i.op)) ⟨put st.tm i.dst m,gf st.mem e⟩
    |none=>False) else tq T K (n+1) r cs.tail rec ⟨put st.tm i.dst .no,st.mem⟩
inductive fC where
 |normal
 |exit (id:Nat)
 |ret
def cL:Nat->Mem->H->Option Data
 |_,_,.I d=>some d
 |_,_,.nil=>some (.ao [])
 |0,_,_=>none
 |n+1,mem,.ref k g sz off len=>match mem k with
  |some (cv,cs)=>if cv=g then (match cut cs off (len*sz) with
   |some part=>(part.mapM (cL n mem)).map λds => .ao (chunk sz len ds)
   |none=>none) else none
  |none=>none
 |n+1,mem,.ptr k g off=>match mem k with
  |some (cv,cs)=>if cv=g/\off<=(D cs) then ((cs.drop off).mapM (cL n mem)).map .ptr else none
  |none=>none
 |n+1,mem,.ee f cs=>(cs.mapM (cL n mem)).map (.fn f)
 |n+1,mem,.agg cs=>(cs.mapM (cL n mem)).map .agg
 |n+1,mem,.dp cs=>(cs.mapM (cL n mem)).map .dp
 |_,_,.hB _ _=>none
 |_,_,.no=>none
 |_,_,.undef=>none
def kill (mem:Mem)(k:Key):Mem:=aT mem k (bz mem k) []
inductive Mn (mem:Mem):Mem->Prop
 |aiB (fN fx:Nat) (gv:List H) (i k g sz off len:Nat) (cs:List H) (k':Nat) (F:mem fN=some (fx,gv)) (G:gv[i]?=some (.ref k g sz off len)) (aa:mem k=some (g,cs)) (aX:k≠fN) (bt:k'≠k) (bx:k'≠fN) :
   Mn mem (aT (aT (aT mem k (bz mem k) []) k' (bz mem k') cs) fN fx (gv.set i (.ref k' (bz mem k') sz off len)))
 |aiC (fN fx:Nat) (gv:List H) (i k g off:Nat) (cs:List H) (k':Nat) (F:mem fN=some (fx,gv)) (G:gv[i]?=some (.ptr k g off)) (aa:mem k=some (g,cs)) (aX:k≠fN) (bt:k'≠k) (bx:k'≠fN) :
   Mn mem (aT (aT (aT mem k (bz mem k) []) k' (bz mem k') cs) fN fx (gv.set i (.ptr k' (bz mem k') off)))
 |aiD (fN fx:Nat) (gv:List H) (i k g sz off len:Nat) (cs:List H) (d:Data) (F:mem fN=some (fx,gv)) (G:gv[i]?=some (.ref k g sz off len)) (aa:mem k=some (g,cs)) (aX:k≠fN) (bt:cL 1 mem (.ref k g sz off len)=some d) :
   Mn mem (aT (kill mem k) fN fx (gv.set i (.I d)))
inductive HG:Mem->Mem->Prop
 |refl (mem:Mem):HG mem mem
 |step {mem D8 XV:Mem} (h:Mn mem D8) (cG:HG D8 XV):HG mem XV
def lh (K:a6->Prop)(st:a6):Mb->Prop
 |.mM s k sz=>match st.tm s with
  |.nil=>K ⟨dZ st.tm s (.ref k (bz st.mem k) sz 0 0),aT st.mem k (bz st.mem k) []⟩
  |_=>False
 |.DY x i k sz=>match aK st.tm x with
  |.ptr kc g off=>match st.mem kc with
   |some (cv,cs)=>if cv=g then (match cs[off+i]? with
    |some .nil=>if k≠kc then K ⟨st.tm,aT (aT st.mem k (bz st.mem k) []) kc g (cs.set (off+i) (.ref k (bz st.mem k) sz 0 0))⟩ else False
    |_=>False) else False
   |none=>False
  |_=>False
 |.freeze s=>match st.tm s with
  |.ref k g _ _ _=>match st.mem k with
   |some (cv,cs)=>if cv=g/\q4 cs=true then (match cL 1 st.mem (st.tm s) with
    |some d=>K ⟨dZ st.tm s (.I d),kill st.mem k⟩
    |none=>False) else False
   |none=>False
  |_=>False
 |.Mc x i=>match aK st.tm x with
  |.ptr kc gc off=>match st.mem kc with
   |some (Rg,cc)=>if Rg=gc then (match cc[off+i]? with
    |some (.ref k g sz o len)=>match st.mem k with
     |some (cv,cs)=>if cv=g/\q4 cs=true/\k≠kc then (match cL 1 st.mem (.ref k g sz o len) with
      |some d=>K ⟨st.tm,aT (kill st.mem k) kc gc (cc.set (off+i) (.I d))⟩
      |none=>False) else False
     |none=>False
    |_=>False) else False
   |none=>False
  |_=>False
 |.move=>K st\/(∃fN fx gv i k g sz off len cs k',st.mem fN=some (fx,gv)/\gv[i]?=some (.ref k g sz off len)/\st.mem k=some (g,cs)/\k≠fN/\k'≠k/\k'≠fN /\
   K ⟨st.tm,aT (aT (aT st.mem k (bz st.mem k) []) k' (bz st.mem k') cs) fN fx (gv.set i (.ref k' (bz st.mem k') sz off len))⟩) \/
   ∃fN fx gv i k g sz off len cs d,st.mem fN=some (fx,gv)/\gv[i]?=some (.ref k g sz off len)/\st.mem k=some (g,cs)/\q4 cs=true/\k≠fN/\cL 1 st.mem (.ref k g sz off len)=some d /\
   K ⟨st.tm,aT (kill st.mem k) fN fx (gv.set i (.I d))⟩
 |.many=>∃mem',HG st.mem mem'/\K ⟨st.tm,mem'⟩
def wp (T:bg):e0->(fC->a6->Prop)->a6->Prop
 |.skip,K,st=>K .normal st
 |.ops l,K,st=>wb T (K .normal) l st
 |.mN l c,K,st=>tq T (K .normal) 0 l c (λ_=>none) st
 |.seq a b,K,st=>wp T a (λe cb=>match e with
  |.normal=>wp T b K cb
  |e=>K e cb) st
 |.cond c a b,K,st=>match aK st.tm c with
  |.I (.bool t)=>if t=true then wp T a K st else wp T b K st
  |_=>False
 |.block id c,K,st=>wp T c (λe cb=>match e with
  |.exit j=>if j=id then K .normal cb else K (.exit j) cb
  |e=>K e cb) st
 |.loop c,K,st=>∃(Bm:a6->Prop) (μ:a6->Nat),Bm st/\∀st,Bm st->wp T c (λe cb=>match e with
  |.normal=>Bm cb/\μ cb<μ st
  |e=>K e cb) st
 |.exit id,K,st=>K (.exit id) st
 |.ret,K,st=>K .ret st
 |.ghost g c,K,st=>lh (wp T c K) st g
def D9 (st:a6):ku->Option H
 |.t s=>some (st.tm s)
 |.cell s n bH=>iW st.mem n bH (st.tm s)
def jO (st:a6)(l:List ku):Option H :=
 match l.mapM (D9 st) with
 |some [m]=>some m
 |some ms=>some (.dp ms)
 |none=>none
def ke (args:List H):Nat->H:=λs=>match args[s]? with
 |some m=>m
 |none => .no
def HH:Value->Option H
 |.int k n=>some (.I (.int k n))
 |.bool b=>some (.I (.bool b))
 |.string s=>some (.I (.str s.data.toList))
 |.slice none 0 0=>some .nil
 |.pointer none=>some (.I .qZ)
 |.nilFunc=>some (.I .rS)
 |.nilIface=>some (.I .nB)
 |.map none=>some .undef
 |_=>none
def Mo:Value->Option H
 |.agg cs=>(cs.toList.mapM HH).map .agg
 |v=>HH v
def cN:Operand->Option bu
 |.tmp t=>some (.t t)
 |.const v=>(Mo v).map .c
 |.func f=>some (.c (.ee f []))
 |.global _=>none
def zeroOf (P:Program)(t:TypeId):Option (List H):=((P.info? t).bind (·.zero)).bind λz=>z.cells.toList.mapM HH
def zeroV (P:Program)(t:TypeId):Option H:=((P.info? t).bind (·.zero)).bind Mo
def fG (P:Program)(t:TypeId):Option Nat:=(P.info? t).map (·.size)
def Ea (P:Program)(t:TypeId):Option Nat:=(P.info? t).map (·.bytes)
def tr (P:Program)(t:TypeId):Option Bool:=(P.underlying t).map fun|.struct _=>true|.array _ _=>true|_=>false
def partsOf (place:Nat->Option (Nat×Nat))(l:List (Nat×Operand)):Option (List (Nat×Nat×bu)) :=
 l.mapM λ(i,x)=>do
  let (o,s) <-place i
  let y <-cN x
  pure (o,s,y)
def ts (P:Program)(dA:Array Field)(i:Nat):Option (Nat×Nat):=do
 let f <-dA[i]?
 let s <-fG P f.type
 pure (f.offset,s)
def uK (P:Program)(t:TypeId):Option Nat :=
 match P.underlying t with
 |some .bool=>some 0
 |some (.int _)=>some 1
 |some .string=>some 2
 |_=>none
def Eb (P:Program):Nat->List Field->Option (List Nat)
 |_,[]=>some []
 | i, f :: r => if f.name ≠ "_" /\ f.offset = i then (match uK P f.type, Eb P (i + 1) r with
  |some k,some gF=>some (k::gF)
  |_,_=>none) else none
def tt (P:Program)(t:TypeId)(dA:Array Field)(neg:Bool)(x y:Operand):Option fM :=
 if P.stoodInHeld t=false/\P.eqGuardType P.depth t=false then (match Eb P 0 dA.toList,cN x,cN y with
  |some gF,some x,some y=>some (.eqs neg gF x y)
  |_,_,_=>none) else none
def Mp:Bool->Operand->Bool
 |false,.const (.pointer none)=>true
 |true,.const .nilIface=>true
 |_,_=>false
def Mq:Operand->Bool
 |.const (.slice none 0 0)=>true
 |_=>false
def tu (P:Program)(op:BinOp)(t:TypeId)(x y:Operand):Option fM :=
 match P.underlying t with
 |some (.int _)=>match cN x,cN y with
  |some x,some y=>some (.bin op x y)
  |_,_=>none
 |some .string=>match cN x,cN y with
  |some x,some y=>some (.bin op x y)
  |_,_=>none
 |some .bool=>match op,cN x,cN y with
  |.eql,some x,some y=>some (.beq false x y)
  |.neq,some x,some y=>some (.beq true x y)
  |_,_,_=>none
 |some (.struct dA)=>match op with
  |.eql=>tt P t dA false x y
  |.neq=>tt P t dA true x y
  |_=>none
 |some (.slice _)=>if Mq y=true then (match op with
  |.eql=>(cN x).map (.lR false)
  |.neq=>(cN x).map (.lR true)
  |_=>none) else none
 |some (.pointer _)=>if Mp false y=true then (match op with
  |.eql=>(cN x).map (.Bj false false)
  |.neq=>(cN x).map (.Bj true false)
  |_=>none) else none
 |some (.interface _)=>if Mp true y=true then (match op with
  |.eql=>(cN x).map (.Bj false true)
  |.neq=>(cN x).map (.Bj true true)
  |_=>none) else none
 |_=>none
def rY:Option Operand->Option (Option bu)
 |none=>some none
 |some x=>(cN x).map some
def rZ (P:Program)(kb:Nat)(own:List Nat)(dst:Option Nat)(type:TypeId)(c:Call):Option fM :=
 match c.callee,c.args.toList,c.argTypes.toList with
 |.builtin .len,[x],[t]=>match P.underlying t with
  |some (.slice _)=>(cN x).map .len
  |some .string=>(cN x).map .lens
  |_=>none
 |.builtin .append,[s,x],[t,u]=>match P.underlying t,P.underlying u with
  |some (.slice e),some (.slice _)=>do
   let z <-zeroOf P e
   let b <-Ea P e
   let n <-fG P e
   let d <-dst
   let s <-cN s
   let x <-cN x
   if (D z)=n/\0<n/\t=u then pure (.app (kb+d) z b s x) else none
  |_,_=>none
 |.builtin .copy,[d,x],[t,u]=>match P.underlying t,P.underlying u with
  |some (.slice e),some (.slice _)=>do
   let n <-fG P e
   if 0<n then pure (.q2 n (<-cN d) (<-cN x)) else none
  |_,_=>none
 |.builtin .clear,[x],[t]=>match P.underlying t with
  |some (.slice e)=>do
   let z <-zeroOf P e
   let n <-fG P e
   if (D z)=n/\0<n then pure (.tl z (<-cN x)) else none
  |_=>none
 |.builtin .max,[x,y],_=>do pure (.lS true (<-cN x) (<-cN y))
 |.builtin .min,[x,y],_=>do pure (.lS false (<-cN x) (<-cN y))
 |.value (.func f),l,_=>if dst.any (λd=>own.contains d) then (match P.underlying type with
   |some (.slice e)=>do pure (.lb (kb+(<-dst)) (<-fG P e) f (<-l.mapM cN))
   |_=>none) else match own.find? (λo=>decide (1000000<=o)&&dst==some (o%1000000)) with
   |some o=>if 1000000000000<=o then do pure (.qc (o/1000000000000-1) f (<-l.mapM cN)) else if 1000000000<=o then do pure (.qb (o/1000000000-1) f (<-l.mapM cN)) else do pure (.kQ (o/1000000-1) f (<-l.mapM cN))
   |none=>do pure (.call f (<-l.mapM cN))
 |.value f,l,_=>do pure (.jN (<-cN f) (<-l.mapM cN))
 |_,_,_=>none
def gW (P:Program)(kb:Nat)(own:List Nat)(dst:Option Nat)(type:TypeId):Op->Option fM
 |.move x=>(cN x).map .iu
 |.assign x=>(cN x).map .iu
 |.pick c a b=>do pure (.pick (<-cN c) (<-cN a) (<-cN b))
 |.alloc e=>do pure (.alloc (kb+(<-dst)) (<-zeroOf P e))
 |.box _ x=>do pure (.box (kb+(<-dst)) (<-cN x))
 |.build t cT=>match P.underlying t with
  |some (.struct dA)=>if (dA.toList.all λf=>(fG P f.type).isSome)=true then do pure (.build (<-zeroOf P t) (<-partsOf (ts P dA) cT.toList)) else none
  |some (.array _ e)=>do
   let s <-fG P e
   pure (.build (<-zeroOf P t) (<-partsOf (λi=>some (i*s,s)) cT.toList))
  |_=>none
 |.buildSlice t len cT=>match P.underlying t with
  |some (.slice e)=>do
   let z <-zeroOf P e
   let s <-fG P e
   let cT <-partsOf (λi=>some (i*s,s)) cT.toList
   let d <-dst
   if (D z)=s/\0<s/\len*s<=16777216 then pure (.dM (kb+d) (own.contains d) ((cf len z).flatten) s len cT) else none
  |_=>none
 |.load t x=>do pure (.load (<-fG P t) (<-tr P t) (<-cN x))
 |.store t x v=>do pure (.store (<-fG P t) (<-cN x) (<-cN v))
 |.binOp op t x y _=>tu P op t x y
 |.unOp op _ x=>(cN x).map (.un op)
 |.nilCheck x=>(cN x).map .uF
 |.convert s t x=>match P.underlying s,P.underlying t with
  |some (.int _),some (.int k)=>(cN x).map (.conv k)
  |_,_=>none
 |.makeFunc (.func f) fst dc=>if fst.size=0 then do pure (.uH f (<-dc.toList.mapM cN)) else none
 |.makeSlice t l c=>match P.underlying t with
  |some (.slice e)=>do
   let z <-zeroOf P e
   let s <-fG P e
   let b <-Ea P e
   let d <-dst
   if (D z)=s/\0<s then pure (.la (kb+d) z b (<-cN l) (<-cN c)) else none
  |_=>none
 |.slice t x b6 Z jM=>match P.underlying t with
  |some (.slice e)=>do
   let s <-fG P e
   if 0<s then pure (.q1 s (<-cN x) (<-rY b6) (<-rY Z) (<-rY jM)) else none
  |some (.array n e)=>do
   let s <-fG P e
   if 0<s/\n<=16777216 then pure (.tk n s (<-cN x) (<-rY b6) (<-rY Z) (<-rY jM)) else none
  |some .string=>if jM.isNone then do pure (.Bi (<-cN x) (<-rY b6) (<-rY Z)) else none
  |_=>none
 |.fieldAddr t x f=>match P.underlying t with
  |some (.struct dA)=>do
   let (o,s) <-ts P dA f
   if 0<s then pure (.tj o (<-cN x)) else none
  |_=>none
 |.field t x f=>match P.underlying t with
  |some (.struct dA)=>do
   let fd <-dA[f]?
   let (o,s) <-ts P dA f
   pure (.xC o s (<-tr P fd.type) (<-cN x))
  |_=>none
 |.indexAddr t x i=>match P.underlying t with
  |some (.slice e)=>do
   let s <-fG P e
   if 0<s then pure (.uG s (<-cN x) (<-cN i)) else none
  |some (.array n e)=>do
   let s <-fG P e
   if 0<s then pure (.Bh n s (<-cN x) (<-cN i)) else none
  |_=>none
 |.index t x i=>match P.underlying t with
  |some .string=>do pure (.idxs (<-cN x) (<-cN i))
  |some (.array n e)=>do pure (.Ma n (<-fG P e) (<-tr P e) (<-cN x) (<-cN i))
  |_=>none
 |.makeInterface t x=>match P.underlying t with
  |some (.interface _)=>none
  |some _=>(cN x).map (.DX t)
  |none=>none
 |.typeAssert x _ t ok=>match P.underlying t with
  |some (.interface _)=>none
  |some _=>do pure (.L8 t ok (<-zeroV P t) (<-cN x))
  |none=>none
 |.makeMap t none=>match P.underlying t with
  |some (.map _ _)=>do pure (.v8 (kb+(<-dst)))
  |_=>none
 |.lookup t x i ok=>match P.underlying t with
  |some (.map k e)=>if uK P k=some 2 then do pure (.zA ok (<-zeroV P e) (<-cN x) (<-cN i)) else none
  |_=>none
 |.mapUpdate t x i v=>match P.underlying t with
  |some (.map k e)=>if uK P k=some 2 then do pure (.xD (<-cN x) (<-cN i) (<-cN v)) else none
  |_=>none
 |.extract x i=>(cN x).map (.ext i)
 |.call c=>rZ P kb own dst type c
 |_=>none
def HI (ops:Array Oper):Option (Nat×Bool)->Option (Option (Nat×Bool))
 |none=>some none
 |some (j,b)=>match (ops[j]?).bind (·.dst) with
  |some s=>some (some (s,b))
  |none=>none
def nC (P:Program)(n kb:Nat)(own:List Nat)(ops:Array Oper)(o:Oper):Option bw :=
 match HI ops o.guard with
 |some g=>if o.dst.all (λd=>decide (d<n))=true then some ⟨o.dst,g,(gW P kb own o.dst o.type o.op).getD .bad⟩ else none
 |_=>none
def mh (m:fM):Nat:=match m with
 |.load ..=>1
 |.tk ..=>1
 |.zA ..=>1
 |m=>if gh m=true then 2 else 0
def uL (a b:Nat):Bool:=a==0||b==0||(a==1&&b==1)
def et:bu->List Nat
 |.t s=>[s]
 |.c _=>[]
def wc:Option bu->List Nat
 |some (.t s)=>[s]
 |_=>[]
def oG:fM->List Nat
 |.iu x=>et x
 |.pick c a b=>et c++et a++et b
 |.alloc _ _=>[]
 |.box _ x=>et x
 |.build _ cT=>cT.flatMap λp=>et p.2.2
 |.dM _ _ _ _ _ cT=>cT.flatMap λp=>et p.2.2
 |.load _ _ x=>et x
 |.store _ x v=>et x++et v
 |.bin _ x y=>et x++et y
 |.beq _ x y=>et x++et y
 |.eqs _ _ x y=>et x++et y
 |.lR _ x=>et x
 |.un _ x=>et x
 |.conv _ x=>et x
 |.uF x=>et x
 |.la _ _ _ x y=>et x++et y
 |.tj _ x=>et x
 |.xC _ _ _ x=>et x
 |.uG _ x i=>et x++et i
 |.Bh _ _ x i=>et x++et i
 |.idxs x i=>et x++et i
 |.q1 _ x a b c=>et x++wc a++wc b++wc c
 |.tk _ _ x a b c=>et x++wc a++wc b++wc c
 |.Bi x a b=>et x++wc a++wc b
 |.ext _ x=>et x
 |.len x=>et x
 |.lens x=>et x
 |.app _ _ _ s x=>et s++et x
 |.q2 _ s x=>et s++et x
 |.lS _ x y=>et x++et y
 |.call _ l=>l.flatMap et
 |.lb _ _ _ l=>l.flatMap et
 |.jN f l=>et f++l.flatMap et
 |.kQ _ _ l=>l.flatMap et
 |.qb _ _ l=>l.flatMap et
 |.qc _ _ l=>l.flatMap et
 |.tl _ x=>et x
 |.uH _ l=>l.flatMap et
 |.DX _ x=>et x
 |.L8 _ _ _ x=>et x
 |.Bj _ _ x=>et x
 |.Ma _ _ _ x i=>et x++et i
 |.v8 _=>[]
 |.zA _ _ x i=>et x++et i
 |.xD x i v=>et x++et i++et v
 |.bad=>[]
def looks (i:bw):List Nat:=oG i.op++(match i.g with|some (s,_)=>[s]|none=>[])
def oH (x y:bw):Bool :=
 (
  match x.dst with
  |some d => !(looks y).contains d&&y.dst != some d
  |none=>true) &&
 (
  match y.dst with
  |some d => !(looks x).contains d
  |none=>true)
def fU:List Oper->List Nat->List Nat
 | [],acc=>acc
 |o::r,acc=>fU r (acc++[o.after.toList.foldl (λs e=>if Region.binds .any e=true then s ||| (2^e.on ||| acc.getD e.on 0) else s) 0])
def xH:List bw->List bw->List Nat->Bool
 |_,[],_=>true
 |pre,c::cs,a::as=>(pre.zipIdx.all λ(p,i)=>a.testBit i||oH p c)&&xH (pre++[c]) cs as
 |_,_::_,[]=>false
def xI:Nat->List Oper->Bool
 |_,[]=>true
 |n,o::r=>(o.after.all λe => !Region.binds .any e||decide (e.on<n))&&xI (n+1) r
def qh (ops:Array Oper)(l:List bw):Bool:=xI 0 ops.toList&&xH [] l (fU ops.toList [])
def mi:List bw->List bw->List Nat->List (List Nat)
 |_,[],_=>[]
 |pre,c::cs,as=>((pre.zipIdx.filter λ(p,i) => !((as.headD 0).testBit i||uL (mh p.op) (mh c.op))).map (·.2))::mi (pre++[c]) cs as.tail
def py (P:Program)(n kb:Nat)(own:List Nat):Code->Option e0
 |.skip=>some .skip
 |.region _ ops draw=>match ops.toList.mapM (nC P n kb own ops) with
  |some l=>if draw=true then (if qh ops l=true then some (.mN l (mi [] l (fU ops.toList []))) else none) else some (.ops l)
  |none=>none
 |.seq a b=>match py P n kb own a,py P n kb own b with
  |some x,some y=>some (.seq x y)
  |_,_=>none
 |.cond c a b=>match cN c,py P n kb own a,py P n kb own b with
  |some c,some x,some y=>some (.cond c x y)
  |_,_,_=>none
 |.block id c=>(py P n kb own c).map (.block id)
 |.loop c=>(py P n kb own c).map .loop
 |.exit id=>some (.exit id)
 |.ret=>some .ret
 |_=>none
def we (P:Program):ResultVar->Option ku
 |.tmp t=>some (.t t)
 |.cell a t=>match fG P t,tr P t with
  |some s,some g=>some (.cell a s g)
  |_,_=>none
def pz (P:Program)(kb:Nat)(own:List Nat)(f:Func):Option bE :=
 match f.body with
 |none=>none
 |some c=>match py P f.ntmps kb own c,f.results.toList.mapM (we P) with
  |some b,some r=>some { n:=f.ntmps,aiA:=f.params.size+f.nfree,res:=r,body:=b }
  |_,_=>none
structure c9 (A:Nat->Prop) (w:World) (B:cS) (ak:World) (ay:cS) (mem':Mem):Prop where
 cr:dP A ak ay mem'
 iH:Trans A w B ak ay
 fY:Fr (n3 B) w ak
 fresh:∀b,n3 ay b->n3 B b\/w.heap.size<=b
def c9.still {A:Nat->Prop}{w ak:World}{B:cS}{mem:Mem}(h:dP A w B mem)(f:Fr (λ_=>False) w ak):c9 A w B ak B mem:=by
 have iH:Trans A w B ak B:=⟨f.size,λb R a4=>⟨f.block b R id,λJ=>a4 (.inl J)⟩,λ_ e he=>⟨e,he,.inl rfl⟩⟩;refine⟨⟨h.rT,h.inj,h.sep,λb R=>Bg (h.lt b R) f.size,f.aiz h.gl,h.v7,λk g cs hm=>?_⟩,iH,⟨f.os,f.tape,f.output,f.size,λb R _=>f.block b R id⟩,λb R => .inl R⟩;obtain⟨e,he,aL,aA,R⟩:=h.dj k g cs hm;refine⟨e,he,aL,aA,λb fV=>?_⟩;exact (R b fV).j9 iH (f.block b (R b fV).lt id)
def c9.refl {A:Nat->Prop}{w:World}{B:cS}{mem:Mem}(h:dP A w B mem):c9 A w B w B mem:=.still h (Fr.refl _ _)
def e3 (B:cS)(k:Key)(e:ht):cS:=λj=>if j=k then some e else B j
def fy (B:cS)(k:Key)(e:ht):e3 B k e k=some e:=by simp[e3]
def fl (B:cS){k j:Key}(e:ht)(h:j≠k):e3 B k e j=B j:=by simp[e3,h]
section
variable {A:Nat->Prop} {w ak:World} {B:cS} {mem:Mem} {k:Key} {e':ht} {cs:List H}
def Trans.change (eb:w.heap.size<=ak.heap.size)
  (hold:∀b,b<w.heap.size->(∀e,B k=some e->e.dj≠some b)->ak.heap[b]?=w.heap[b]?)
  (aL:∀e,B k=some e->e'=e\/e.g<e'.g)
  (jP:∀b,e'.dj=some b->w.heap.size<=b\/∃e,B k=some e/\e.dj=some b):Trans A w B ak (e3 B k e'):=by
 refine⟨eb,λb R a4=>⟨hold b R λe he J=>a4 (.inl ⟨k,e,he,J⟩),?_⟩,λj e he=>?_⟩
 ·rintro⟨j,e,he,J⟩
  by_cases Y:j=k
  ·subst Y;rw[fy] at he
   cases he;rcases jP b J with F|⟨e,F,G⟩
   ·omega
   ·exact a4 (.inl ⟨_,e,F,G⟩)
  ·rw[fl B e' Y] at he;exact a4 (.inl ⟨j,e,he,J⟩)
 ·by_cases Y:j=k
  ·subst Y;exact⟨e',fy _ _ _,aL e he⟩
  ·exact⟨e,(fl B e' Y).trans he,.inl rfl⟩
def Mr (jP:∀b,e'.dj=some b->w.heap.size<=b\/∃e,B k=some e/\e.dj=some b)(b:Nat)(h:n3 (e3 B k e') b):n3 B b\/w.heap.size<=b:=by
 obtain⟨j,e,he,J⟩:=h
 by_cases Y:j=k
 ·subst Y;rw[fy] at he
  cases he;rcases jP b J with F|⟨e,F,G⟩
  ·exact .inr F
  ·exact .inl ⟨_,e,F,G⟩
 ·rw[fl B e' Y] at he;exact .inl ⟨j,e,he,J⟩
def dP.Rh (h:dP A w B mem)(eb:w.heap.size<=ak.heap.size)
  (hold:∀b,b<w.heap.size->(∀e,B k=some e->e.dj≠some b)->ak.heap[b]?=w.heap[b]?)
  (aL:∀e,B k=some e->e'=e\/e.g<e'.g)
  (jP:∀b,e'.dj=some b->w.heap.size<=b\/∃e,B k=some e/\e.dj=some b)
  (aA:e'.dj=none->cs=[])
  (U:∀b,e'.dj=some b->q0 ak (bn A (e3 B k e')) (e3 B k e') e' b cs):dP A ak (e3 B k e') (aT mem k e'.g cs):=by
 have iH:Trans A w B ak (e3 B k e'):=Trans.change eb hold aL jP;have fresh:=Mr (w:=w) jP;refine⟨λj Y=>?_,λj iI e ax b he ef R eE=>?_,λb ba a4=>?_,λb R=>Bg (h.lt b R) eb,λb o R=>?_,λb o R a4=>?_,λj g g7 hm=>?_⟩
 ·by_cases b1:j=k
  ·subst b1;simp[aT] at Y
  ·simp only[aT,b1,if_false] at Y;rw[fl B e' b1];exact h.rT j Y
 ·by_cases b1:j=k<;>by_cases hjk':iI=k
  ·rw[b1,hjk']
  ·subst b1;rw[fy] at he
   cases he;rw[fl B e' hjk'] at ef;rcases jP b R with F|⟨e,F,G⟩
   ·have:=h.rU ⟨iI,ax,ef,eE⟩;omega
   ·exact h.inj _ _ e ax b F ef G eE
  ·subst hjk';rw[fy] at ef
   cases ef;rw[fl B e' b1] at he;rcases jP b eE with F|⟨eS,F,G⟩
   ·have:=h.rU ⟨j,e,he,R⟩;omega
   ·exact h.inj _ _ e eS b he F R G
  ·rw[fl B e' b1] at he;rw[fl B e' hjk'] at ef;exact h.inj j iI e ax b he ef R eE
 ·rcases fresh b a4 with F|F
  ·exact h.sep b ba F
  ·have:=h.lt b ba;omega
 ·obtain⟨T,F⟩:=h.gl b o R;exact⟨T,(hold b (Array.getElem?_eq_some_iff.1 F).1 λe he J=>h.v7 b o R ⟨k,e,he,J⟩).trans F⟩
 ·have F:=(Array.getElem?_eq_some_iff.1 (h.gl b o R).choose_spec).1;rcases fresh b a4 with G|G
  ·exact h.v7 b o R G
  ·omega
 ·by_cases b1:j=k
  ·subst b1;simp only[aT,if_true,bM,eL] at hm;obtain⟨rfl,rfl⟩:=hm;exact⟨e',fy _ _ _,rfl,aA,U⟩
  ·simp only[aT,b1,if_false] at hm;obtain⟨e,he,xJ,HJ,hD⟩:=h.dj j g g7 hm;refine⟨e,(fl B e' b1).trans he,xJ,HJ,λb R=>?_⟩;exact (hD b R).j9 iH (hold b (hD b R).lt λeS aa aX=>b1 (h.inj j k e eS b he aa R aX))
def dP.change (h:dP A w B mem)(eb:w.heap.size<=ak.heap.size)
  (hold:∀b,b<w.heap.size->(∀e,B k=some e->e.dj≠some b)->ak.heap[b]?=w.heap[b]?)
  (aL:∀e,B k=some e->e'=e\/e.g<e'.g)
  (jP:∀b,e'.dj=some b->w.heap.size<=b\/∃e,B k=some e/\e.dj=some b)
  (aA:e'.dj=none->cs=[])
  (U:∀b,e'.dj=some b->e'.mp=false/\∃vs T,ak.heap[b]?=some (.cells vs T (0,0))/\vs.size=e'.size/\D cs<=vs.size /\
   ∀(i:Nat) (m:H),cs[i]?=some m->∃v,vs[i]?=some v/\aY w (bn A B) B m v):dP A ak (e3 B k e') (aT mem k e'.g cs) :=
 h.Rh eb hold aL jP aA λb R=>by
  have iH:Trans A w B ak (e3 B k e'):=Trans.change eb hold aL jP;obtain⟨aq,vs,T,F,G,aa,aX⟩:=U b R;exact .inl ⟨aq,vs,T,F,G,aa,λi m hm=>let ⟨v,al,L⟩:=aX i m hm;⟨v,al,L.j9 iH⟩⟩
def c9.change (h:dP A w B mem)(f:Fr (λb=>∃e,B k=some e/\e.dj=some b) w ak)
  (aL:∀e,B k=some e->e'=e\/e.g<e'.g)
  (jP:∀b,e'.dj=some b->w.heap.size<=b\/∃e,B k=some e/\e.dj=some b)
  (aA:e'.dj=none->cs=[])
  (U:∀b,e'.dj=some b->e'.mp=false/\∃vs T,ak.heap[b]?=some (.cells vs T (0,0))/\vs.size=e'.size/\D cs<=vs.size /\
   ∀(i:Nat) (m:H),cs[i]?=some m->∃v,vs[i]?=some v/\aY w (bn A B) B m v):c9 A w B ak (e3 B k e') (aT mem k e'.g cs):=by
 have hold:∀b,b<w.heap.size->(∀e,B k=some e->e.dj≠some b)->ak.heap[b]?=w.heap[b]? :=
  λb R J=>f.block b R fun⟨e,he,fV⟩=>J e he fV
 exact⟨h.change f.size hold aL jP aA U,Trans.change f.size hold aL jP,⟨f.os,f.tape,f.output,f.size,λb R a4=>f.block b R fun⟨e,he,fV⟩=>a4 ⟨k,e,he,fV⟩⟩,Mr jP⟩
def zG (h:dP A w B mem)(k:Key)(e:ht)(he:B k=some e):e.g<bz mem k:=by
 cases hm:mem k with
 |none=>rw[h.rT k hm] at he;cases he
 |some x =>
  obtain⟨g,cs⟩:=x;obtain⟨ax,F,G,_⟩:=h.dj k g cs hm;rw[F] at he
  cases he;simp[bz,hm,G]
def c9.alloc (h:dP A w B mem)(w1:World)(f:Fr (λ_=>False) w w1)(a0:w1.heap.size=w.heap.size)(k:Key)(vs:Array Value)(T:TypeId)(ae:(D cs)<=vs.size)
  (U:∀(i:Nat) (m:H),cs[i]?=some m->∃v,vs[i]?=some v/\aY w (bn A B) B m v) :
  c9 A w B (w1.alloc (.cells vs T)) (e3 B k ⟨bz mem k,some w.heap.size,vs.size,false⟩) (aT mem k (bz mem k) cs):=by
 have f2:Fr (λ_=>False) w (w1.alloc (.cells vs T)):=f.alloc _;refine c9.change (e':=⟨bz mem k,some w.heap.size,vs.size,false⟩) h ⟨f2.os,f2.tape,f2.output,f2.size,λb R _=>f2.block b R id⟩ (λe he => .inr (zG h k e he)) (λb R => .inl ?_) (by simp) ?_
 ·simp at R;omega
 ·intro b R;simp at R;subst R;exact⟨rfl,vs,T,by rw[<-a0];exact heap_alloc_new w1 _,rfl,ae,U⟩
def c9.wg (h:dP A w B mem)(k:Key):c9 A w B w (e3 B k ⟨bz mem k,none,0,false⟩) (aT mem k (bz mem k) []) :=
 c9.change (e':=⟨bz mem k,none,0,false⟩) h ⟨rfl,rfl,rfl,c8 _,λ_ _ _=>rfl⟩ (λe he => .inr (zG h k e he)) (λb R=>by simp at R) (λ_=>rfl) (λb R=>by simp at R)
end
def c9.trans {A:Nat->Prop}{w w1 gE:World}{B iV Hj:cS}{aW bY:Mem}(h:c9 A w B w1 iV aW)(cG:c9 A w1 iV gE Hj bY):c9 A w B gE Hj bY:=by
 refine⟨cG.cr,h.iH.trans cG.iH,⟨cG.fY.os.trans h.fY.os,cG.fY.tape.trans h.fY.tape,cG.fY.output.trans h.fY.output,iG h.fY.size cG.fY.size,λb R a4=>?_⟩,λb R=>?_⟩
 ·have F:=h.fY.block b R a4;refine (cG.fY.block b (Bg R h.fY.size) λJ=>?_).trans F;rcases h.fresh b J with G|G
  ·exact a4 G
  ·omega
 ·rcases cG.fresh b R with F|F
  ·exact h.fresh b F
  ·exact .inr (iG h.fY.size F)
def Ri {w:World}{au:Nat->Prop}{B:cS}{v:Value}{m:H}(h:HH v=some m):aY w au B m v:=by
 unfold HH at h
 split at h<;>simp only[bM,reduceCtorEq] at h<;>subst h
 ·exact .I .int
 ·exact .I .bool
 ·rename_i s
  exact .I (by
   have:s=⟨s.data.toList.toArray⟩:=by simp
   rw[this]
   simpa using Den.str (s:=s.data.toList))
 ·exact .nil
 ·exact .I .qZ
 ·exact .I .rS
 ·exact .I .nB
 ·exact .undef
def mapM_get {α β:Type}{f:α->Option β}:∀{l:List α} {r:List β},l.mapM f=some r->(D r)=D l/\∀(i:Nat) (x:α) (y:β),l[i]?=some x->r[i]?=some y->f x=some y
 | [],r,h=>by
  simp at h;subst h;exact⟨rfl,λi x y F=>by simp at F⟩
 |a::l,r,h=>by
  simp only[nf,fZ,gi,dH,bM] at h;obtain⟨b,R,xK,L,rfl⟩:=h;obtain⟨F,G⟩:=mapM_get L;refine⟨by simp[F],λi x y J ai=>?_⟩
  cases i with
  |zero=>simp at J ai;subst J;subst ai;exact R
  |succ i=>exact G i x y (by simpa using J) (by simpa using ai)
def XW {w:World}{au:Nat->Prop}{B:cS}{v:Value}{m:H}(h:Mo v=some m):aY w au B m v:=by
 unfold Mo at h
 split at h
 ·rename_i cs;simp only[c2] at h;obtain⟨ms,aD,rfl⟩:=h;obtain⟨F,G⟩:=mapM_get aD;have:=aY.agg (w:=w) (au:=au) (B:=B) (cs:=ms) (vs:=cs.toList) (by simp[F]) λi d v ad al=>Ri (G i v d al ad)
  simpa using this
 ·exact Ri h
section
variable {P:Program} {w:World} {au:Nat->Prop} {B:cS}
def aY.wh {k:IntKind}{n:Int}{v:Value}(h:aY w au B (.I (.int k n)) v):v=.int k n:=by
 cases h with
 |I h=>cases h;rfl
def aY.zH {b:Bool}{v:Value}(h:aY w au B (.I (.bool b)) v):v=.bool b:=by
 cases h with
 |I h=>cases h;rfl
def aY.zI {s:List UInt8}{v:Value}(h:aY w au B (.I (.str s)) v):v=.string ⟨s.toArray⟩:=by
 cases h with
 |I h=>cases h;rfl
def aY.ofInt {k:IntKind}{n:Int}:aY w au B (.I (.int k n)) (.int k n):=.I .int
def aiE {op:BinOp}{k:IntKind}{a b:Int}{d:Data}(t:TypeId)(O:DZ op=false)(h:Md op k a b=some d):
  ∃v,(binOp op t (.int k a) (.int k b)).run P w=.ok v w/\Den w au d v:=by
 cases op<;>simp only[Md,bM,reduceCtorEq] at h<;>simp only[DZ,Bool.true_eq_false] at O
 case quo =>
  split at h
  ·cases h
  ·rename_i R
   cases h;exact⟨_,by simp[go_sem,Op.intDiv,R],.int⟩
 case rem =>
  split at h
  ·cases h
  ·rename_i R
   cases h;exact⟨_,by simp[go_sem,Op.intDiv,R],.int⟩
 all_goals
  subst h
  first
   |exact⟨_,by simp[go_sem,Op.intArith],.int⟩
   |exact⟨_,by simp[go_sem],.int⟩
   |exact⟨_,by simp[go_sem],.bool⟩
def aiF {op:BinOp}{k k':IntKind}{a b:Int}{d:Data}(t:TypeId)(O:DZ op=true)(h:Me op k a b=some d):
  ∃v,(binOp op t (.int k a) (.int k' b)).run P w=.ok v w/\Den w au d v:=by
 unfold Me at h
 split at h
 ·cases h
 ·rename_i R
  cases op<;>simp only[DZ,cC] at O
  ·simp only[bM] at h;subst h;exact⟨.int k _,by simp[binOp,Op.shift,R],.int⟩
  ·simp only[bM] at h;subst h;exact⟨.int k _,by simp[binOp,Op.shift,R],.int⟩
def Ms {op:BinOp}{t:TypeId}{x y:Operand}{u v:Value}(F:u ≠ .nilIface)(G:∀c,u ≠ .agg c):eqGuard op t x y u v=pure ():=by
 unfold eqGuard
 cases op<;>cases u<;>first|rfl|exact absurd rfl F|exact absurd rfl (G _)
def aiG {op:BinOp}{a b:List UInt8}{d:Data}(t:TypeId)(h:Mf op a b=some d):
  ∃v,(binOp op t (.string ⟨a.toArray⟩) (.string ⟨b.toArray⟩)).run P w=.ok v w/\Den w au d v:=by
 have aiH:binOp op t (.string ⟨a.toArray⟩) (.string ⟨b.toArray⟩)=Op.stringOp op ⟨a.toArray⟩ ⟨b.toArray⟩:=by
  cases op<;>rfl
 rw[aiH]
 cases op<;>simp only[Mf,bM,reduceCtorEq] at h
 case add =>
  split at h
  ·rename_i ae
   cases h;refine⟨.string ⟨(a++b).toArray⟩,?_,.str⟩;have nD:¬ (9223372036854775807<(D a:Int)+(D b:Int)):=by unfold maxLen at ae;omega
   have aO:(ByteArray.mk a.toArray).size=D a:=by simp[ByteArray.size]
   have ax:(ByteArray.mk b.toArray).size=D b:=by simp[ByteArray.size]
   have xL:(ByteArray.mk a.toArray)++(ByteArray.mk b.toArray)=⟨(a++b).toArray⟩:=by
    apply ByteArray.ext;simp
   simp[Op.stringOp,aO,ax,nD,xL]
  ·cases h
 all_goals
  subst h;exact⟨_,by simp[Op.stringOp],.bool⟩
def XX {op:BinOp}{m n r:H}{u v:Value}(t:TypeId)(x y:Operand)(hm:aY w au B m u)(aA:aY w au B n v)(h:D0 op m n=some r):
  ∃z,((do eqGuard op t x y u v;binOp op t u v:Sem Value)).run P w=.ok z w/\aY w au B r z:=by
 unfold D0 at h
 split at h
 ·rename_i k a k' b
  cases hm.wh
  cases aA.wh
  rw[Ms (by simp) (by simp)]
  split at h
  ·rename_i O;simp only[c2] at h;obtain⟨d,ad,rfl⟩:=h;obtain⟨z,F,G⟩:=aiF (P:=P) (w:=w) (au:=au) (k':=k') t O ad;exact⟨z,by simpa using F,.I G⟩
  ·rename_i O
   split at h
   ·rename_i Q;subst Q;simp only[c2] at h;obtain⟨d,ad,rfl⟩:=h;obtain⟨z,F,G⟩:=aiE (P:=P) (w:=w) (au:=au) t (by simpa using O) ad;exact⟨z,by simpa using F,.I G⟩
   ·cases h
 ·rename_i a b
  cases hm.zI
  cases aA.zI;rw[Ms (by simp) (by simp)];simp only[c2] at h;obtain⟨d,ad,rfl⟩:=h;obtain⟨z,F,G⟩:=aiG (P:=P) (w:=w) (au:=au) t ad;exact⟨z,by simpa using F,.I G⟩
 ·cases h
def XY {neg:Bool}{m n r:H}{u v:Value}(t:TypeId)(x y:Operand)(bL:P.underlying t=some .bool)(hm:aY w au B m u)(aA:aY w au B n v)(h:D1 neg m n=some r):
  ∃z,((do eqGuard (if neg then .neq else .eql) t x y u v;binOp (if neg then .neq else .eql) t u v:Sem Value)).run P w=.ok z w/\aY w au B r z:=by
 unfold D1 at h
 split at h
 ·rename_i a b
  cases hm.zH
  cases aA.zH
  cases h;rw[Ms (by simp) (by simp)]
  cases neg
  ·exact⟨.bool (a==b),by simp[run_eql_bool w t a b bL],by cases a<;>cases b<;>exact .I .bool⟩
  ·exact⟨.bool (!(a==b)),by simp[run_neq_bool w t a b bL],by cases a<;>cases b<;>exact .I .bool⟩
 ·cases h
def aiI {t:TypeId}{k:Nat}{m n:H}{c:Bool}{u v:Value}(d:Nat)(Q:uK P t=some k)(hm:aY w au B m u)(aA:aY w au B n v)(h:Mg k m n=some c):
  (Op.equalIn (d+1) t u v).run P w=.ok c w:=by
 unfold uK at Q;unfold Mg at h
 split at h
 ·simp only[bM] at h
  cases hm.zH
  cases aA.zH;subst h
  split at Q<;>first|(exfalso;simp at Q;done)|(rename_i hu;exact run_equalIn_bool w d t _ _ hu)
 ·split at h
  ·rename_i aiJ;subst aiJ
   cases hm.wh
   cases aA.wh
   cases h
   split at Q<;>first|(exfalso;simp at Q;done)|(rename_i hu;exact run_equalIn_int w d t _ _ _ _ hu)
  ·cases h
 ·simp only[bM] at h
  cases hm.zI
  cases aA.zI;subst h
  split at Q<;>first|(exfalso;simp at Q;done)|(rename_i hu;rw[run_equalIn_string w d t _ _ hu];simp)
 ·cases h
def aiK {t:TypeId}{k:Nat}(h:uK P t=some k):(isAgg t).run P w=.ok false w:=by
 unfold uK at h
 split at h<;>simp only[bM,reduceCtorEq] at h<;>(rename_i hu;simp[isAgg,run_underlying hu])
def XZ {d:Nat}{xs ys:Array Value}{cs ds:List H}(J:∀(i:Nat) (m:H) (v:Value),cs[i]?=some m->xs[i]?=some v->aY w au B m v)(q5:xs.size=D cs)
  (ai:∀(i:Nat) (m:H) (v:Value),ds[i]?=some m->ys[i]?=some v->aY w au B m v) (Rj:ys.size=D ds) :
  ∀(dA:List Field) (i:Nat) (gF:List Nat) (c:Bool),Eb P i dA=some gF->zB gF (cs.drop i) (ds.drop i)=some c->(Op.eqFields (d+1) xs ys dA).run P w=.ok c w
 | [],i,gF,c,aj,U=>by
  simp[Eb] at aj;subst aj
  cases F:cs.drop i<;>cases G:ds.drop i<;>simp[F,G,zB] at U;subst U;simp[Op.eqFields]
 |f::r,i,gF,c,aj,U=>by
  simp only[Eb] at aj
  split at aj
  ·rename_i aA;obtain⟨uM,qi⟩:=aA
   split at aj
   ·rename_i k aiL Q uN
    cases aj
    cases F:cs.drop i with
    |nil=>simp[F,zB] at U
    |cons a x =>
     cases G:ds.drop i with
     |nil=>simp[F,G,zB] at U
     |cons b y =>
      rw[F,G] at U;simp only[zB] at U
      split at U
      ·rename_i ch dB iw mO
       cases U
       have zJ:i<D cs:=by
        rcases gX i (D cs) with h|h
        ·exact h
        ·rw[lj h] at F;cases F
       have xM:i<D ds:=by
        rcases gX i (D ds) with h|h
        ·exact h
        ·rw[lj h] at G;cases G
       rw[gw zJ] at F;rw[gw xM] at G
       injection F with ba aiM
       injection G with R aiN
       subst ba;subst R;subst aiM;subst aiN
       have ex:xs[f.offset]?=some (xs[i]'(by omega)):=by rw[qi];exact Array.getElem?_eq_getElem (by omega)
       have xN:ys[f.offset]?=some (ys[i]'(by omega)):=by rw[qi];exact Array.getElem?_eq_getElem (by omega)
       have rx:=J i _ _ (bc zJ) (Array.getElem?_eq_getElem (by omega:i<xs.size));have aiO:=ai i _ _ (bc xM) (Array.getElem?_eq_getElem (by omega:i<ys.size));have he:=aiI (P:=P) d Q rx aiO iw;have a2:=XZ (d:=d) J q5 ai Rj r (i+1) aiL dB uN mO;have aiP:(isAgg f.type).run P w=.ok false w:=aiK Q;simp only[Op.eqFields,uM,ne_eq,not_false_eq_true,if_true,Sem.run_bind,part,aiP,Result.andThen_ok,cC,if_false,ex,xN,Sem.run_pure,he]
       cases ch
       ·simp
       ·simp[a2]
      ·cases U
   ·cases aj
  ·cases aj
def X0 {m:H}{v:Value}(h:aY w au B m v)(F:m.one=true):v.oneCell'=true:=by
 cases h with
 |I ad=>cases ad<;>first|rfl|simp[H.one] at F
 |nil=>rfl
 |ref he aL al=>obtain⟨a,cap,rfl,_⟩:=al;rfl
 |ptr he aL al=>obtain⟨b,rfl,_⟩:=al;rfl
 |hB he aL al=>obtain⟨b,rfl,_⟩:=al;rfl
 |ee ae ad=>rfl
 |agg ae ad=>simp[H.one] at F
 |dp ae ad=>simp[H.one] at F
 |no=>simp[H.one] at F
 |undef=>simp[H.one] at F
def aiQ {v:Value}(h:∀c,v ≠ .agg c):v.cells=#[v]:=by
 unfold Value.cells
 split
 ·rename_i cs;exact absurd rfl (h cs)
 ·rfl
def aiR {m:H}{v:Value}(h:aY w au B m v)(hu:m ≠ .undef):v.cells.size=D m.cells/\∀(i:Nat) (c:H) (u:Value),m.cells[i]?=some c->v.cells[i]?=some u->aY w au B c u:=by
 have one:(∀c,v ≠ .agg c)->m.cells=[m]->v.cells.size=D m.cells/\∀(i:Nat) (c:H) (u:Value),m.cells[i]?=some c->v.cells[i]?=some u->aY w au B c u:=by
  intro al hm;rw[hm,aiQ al];refine⟨rfl,λi c u U hu=>?_⟩
  cases i with
  |zero=>simp at U hu;subst U;subst hu;exact h
  |succ i=>simp at U
 cases h with
 |I ad =>
  cases ad with
  |agg ae ad =>
   refine⟨by simp[Value.cells,H.cells];exact ae,λi c u U hu=>?_⟩
   simp only[H.cells,bd,c2] at U;obtain⟨d,mP,rfl⟩:=U;exact .I (ad i d u mP (by simpa [Value.cells] using hu))
  |_=>exact one (by simp) rfl
 |nil=>exact one (by simp) rfl
 |ref he aL al=>obtain⟨a,cap,rfl,_⟩:=al;exact one (by simp) rfl
 |ptr he aL al=>obtain⟨b,rfl,_⟩:=al;exact one (by simp) rfl
 |hB he aL al=>obtain⟨b,rfl,_⟩:=al;exact one (by simp) rfl
 |ee ae ad=>exact one (by simp) rfl
 |agg ae ad =>
  refine⟨by simp[Value.cells,H.cells];exact ae,λi c u U hu=>ad i c u (by simpa [H.cells] using U) (by simpa [Value.cells] using hu)⟩
 |dp ae ad=>exact one (by simp) rfl
 |no=>exact one (by simp[undef]) rfl
 |undef=>exact absurd rfl hu
end
section
variable {P:Program} {w:World} {au:Nat->Prop} {B:cS}
def cA (w:World)(au:Nat->Prop)(B:cS)(cs:List H)(vs:List Value):Prop :=
 (D vs)=D cs/\∀(i:Nat) (m:H) (v:Value),cs[i]?=some m->vs[i]?=some v->aY w au B m v
def cA.get {cs:List H}{vs:List Value}(h:cA w au B cs vs){i:Nat}{m:H}(Z:cs[i]?=some m):∃v,vs[i]?=some v/\aY w au B m v:=by
 have ae:i<D cs:=(dK.1 Z).1;have al:vs[i]?=some (vs[i]'(by rw[h.1];exact ae)):=bc _;exact⟨_,al,h.2 i m _ Z al⟩
def cA.nil:cA w au B [] []:=⟨rfl,λi m v h=>by simp at h⟩
def cA.cons {m:H}{v:Value}{cs:List H}{vs:List Value}(h:aY w au B m v)(L:cA w au B cs vs):cA w au B (m::cs) (v::vs):=by
 refine⟨by simp[L.1],λi m' pA F G=>?_⟩
 cases i with
 |zero=>simp at F G;subst F;subst G;exact h
 |succ i=>exact L.2 i m' pA (by simpa using F) (by simpa using G)
def cA.append {a b:List H}{x y:List Value}(h:cA w au B a x)(cG:cA w au B b y):cA w au B (a++b) (x++y):=by
 refine⟨by simp[h.1,cG.1],λi m v F G=>?_⟩
 rw[Ec] at F G
 split at F
 ·rename_i Z;rw[aJ (by rw[h.1];exact Z)] at G;exact h.2 i m v F G
 ·rename_i Z;rw[aR (by rw[h.1];exact Z),h.1] at G;exact cG.2 _ m v F G
def cA.drop {a:List H}{x:List Value}(h:cA w au B a x)(n:Nat):cA w au B (a.drop n) (x.drop n) :=
 ⟨by simp[h.1],λi m v F G=>h.2 (n+i) m v (by simpa using F) (by simpa using G)⟩
def cA.take {a:List H}{x:List Value}(h:cA w au B a x)(n:Nat):cA w au B (a.take n) (x.take n):=by
 refine⟨by simp[h.1],λi m v F G=>?_⟩
 rw[xO] at F G
 split at F
 ·rename_i Z;rw[aJ Z] at G;exact h.2 i m v F G
 ·cases F
def cA.kv {a b:List H}{x y:List Value}(h:cA w au B a x)(cG:cA w au B b y)(off:Nat):
  cA w au B (kv a off b) (x.take off++y++x.drop (off+D y)):=by
 unfold Mini.kv;rw[cG.1];exact ((h.take off).append cG).append (h.drop _)
def cA.Rk {m:H}{v:Value}(h:aY w au B m v)(hu:m ≠ .undef):cA w au B m.cells v.cells.toList:=by
 obtain⟨F,G⟩:=aiR h hu;exact⟨by simpa using F,λi c u U al=>G i c u U (by simpa using al)⟩
def cA.I {ds:List Data}{vs:List Value}(ae:(D vs)=D ds)(h:∀(i:Nat) (d:Data) (v:Value),ds[i]?=some d->vs[i]?=some v->Den w au d v):cA w au B (ds.map .I) vs:=by
 refine⟨by simp[ae],λi m v F G=>?_⟩
 simp only[bd,c2] at F;obtain⟨d,ad,rfl⟩:=F;exact .I (h i d v ad G)
def Ed {cs:List H}{off n:Nat}{r:List H}(h:cut cs off n=some r):off+n<=D cs/\r=(cs.drop off).take n/\D r=n:=by
 unfold cut at h
 split at h
 ·rename_i ae
  cases h;exact⟨ae,rfl,by simp;omega⟩
 ·cases h
def mQ (w:World)(b off:Nat)(vs:List Value):Prop:=∀(j:Nat) (u:Value),vs[j]?=some u->w.cell? ⟨b,off+j,none⟩=some u
def mQ.add {w:World}{b off:Nat}{vs:List Value}(h:mQ w b off vs)(n:Nat):mQ w b (off+n) (vs.drop n):=λj u Y=>by
 have:=h (n+j) u (by simpa using Y);rwa [<-r0] at this
def mQ.take {w:World}{b off:Nat}{vs:List Value}(h:mQ w b off vs)(n:Nat):mQ w b off (vs.take n):=λj u Y=>by
 rw[xO] at Y
 split at Y
 ·exact h j u Y
 ·cases Y
def mQ.row {w:World}{b:Nat}{vs:Array Value}{T:TypeId}{fY:Nat×Nat}(h:w.heap[b]?=some (.cells vs T fY)):mQ w b 0 vs.toList:=λj u Y=>by
 rw[r1,cell_of_row w b j vs T fY h]
 simpa using Y
def xP (b off n:Nat):(⟨b,off,none⟩:Addr).add n=⟨b,off+n,none⟩:=by
 unfold Addr.add
 split<;>simp_all
def mQ.load {b off:Nat}{vs:List Value}(h:mQ w b off vs):(loadCells ⟨b,off,none⟩ (D vs)).run P w=.ok vs.toArray w :=
 run_loadCells_list w _ vs λj v Y=>by rw[xP];exact h j v Y
def r2 {t:TypeId}{n:Nat}(h:fG P t=some n):(sizeOf t).run P w=.ok n w:=by
 simp only[fG,c2] at h;obtain⟨i,Z,rfl⟩:=h;simp[sizeOf,typeInfo,Z]
def Mt {t:TypeId}{g:Bool}(h:tr P t=some g):(isAgg t).run P w=.ok g w:=by
 simp only[tr,c2] at h;obtain⟨d,ad,rfl⟩:=h;simp only[isAgg,Sem.run_bind,run_underlying ad,Result.andThen_ok]
 cases d<;>rfl
def Rl {t:TypeId}{n:Nat}{bH:Bool}{b off:Nat}{ms:List H}{vs:List Value}{r:H}(O:fG P t=some n)(ba:tr P t=some bH)(ae:(D ms)=n)
  (b7:cA w au B ms vs) (g9:mQ w b off vs) (h:oF bH ms=some r):∃u,(loadVar t ⟨b,off,none⟩).run P w=.ok u w/\aY w au B r u:=by
 unfold oF at h
 split at h
 ·rename_i uO
  cases h;subst uO;refine⟨.agg vs.toArray,?_,.agg b7.1 b7.2⟩;have:=g9.load (P:=P);rw[b7.1,ae] at this;simp[loadVar,Mt ba,r2 O,this]
 ·rename_i uO
  split at h
  ·cases h;obtain⟨u,hu,L⟩:=b7.get (i:=0) (m:=r) rfl;have:=g9 0 u hu;have Rm:bH=false:=by simpa using uO
   subst Rm;exact⟨u,by simp[loadVar,Mt ba,this];simpa using by rw[show off=off+0 from rfl,this],L⟩
  ·cases h
end
section
variable {P:Program} {A:Nat->Prop} {w:World} {B:cS} {mem:Mem}
def dP.at_ (h:dP A w B mem){k:Key}{g:Nat}{cs:List H}(Q:mem k=some (g,cs)):
  ∃e,B k=some e/\e.g=g/\(e.dj=none->cs=[])/\∀b,e.dj=some b->e.mp=false->∃(vs:Array Value) (T:TypeId),w.heap[b]?=some (.cells vs T (0,0))/\vs.size=e.size/\D cs<=vs.size /\
   cA w (bn A B) B cs (vs.toList.take (D cs)):=by
 obtain⟨e,he,aL,aA,R⟩:=h.dj k g cs Q;refine⟨e,he,aL,aA,λb fV hE=>?_⟩;obtain⟨vs,T,F,G,aa,aX⟩:=(R b fV).cells hE;refine⟨vs,T,F,G,aa,by simp;omega,λi m v hm al=>?_⟩
 obtain⟨u,hu,L⟩:=aX i m hm;rw[xO] at al
 split at al
 ·rw[Array.getElem?_toList,hu] at al
  cases al;exact L
 ·cases al
def X1 {n:Nat}{bH:Bool}{m r:H}{v:Value}(bh:dP A w B mem)(al:aY w (bn A B) B m v)(h:iW mem n bH m=some r):
  ∃b off ms vs,v=.pointer (some ⟨b,off,none⟩)/\D ms=n/\cA w (bn A B) B ms vs/\mQ w b off vs/\oF bH ms=some r:=by
 unfold iW at h
 split at h
 ·rename_i k g off
  split at h
  ·rename_i cv cs Q
   split at h
   ·rename_i aL;subst aL;simp only[dH] at h;obtain⟨ms,aD,L⟩:=h;obtain⟨ae,rfl,aA⟩:=Ed aD;obtain⟨e,he,bB,Mu,R⟩:=bh.at_ Q
    cases al with
    |ptr eK xJ kR =>
     rw[he] at eK
     cases eK;obtain⟨b,rfl,fV⟩:=kR;obtain⟨fV,hE⟩:=fV bB.symm;obtain⟨vs,T,bk,a0,hle,b7⟩:=R b fV hE;refine⟨b,off,_,((vs.toList.take (D cs)).drop off).take n,rfl,aA,(b7.drop off).take n,?_,L⟩;have:=(((mQ.row bk).take (D cs)).add off).take n
     simpa using this
   ·cases h
  ·cases h
 ·rename_i ds;simp only[dH] at h;obtain⟨ms,aD,L⟩:=h;obtain⟨ae,rfl,aA⟩:=Ed aD
  cases al with
  |I ad =>
   cases ad with
   | @ptr cs b off val R e8 U ad =>
    refine⟨b,off,_,((qj (D ds)).map val).take n,rfl,aA,?_,?_,L⟩
    ·have:cA w (bn A B) B (ds.map .I) ((qj (D ds)).map val):=cA.I (by simp) λi d v F G=>by
      have Z:i<D ds:=(dK.1 F).1;simp[Z] at G;subst G;exact ad i d F
     simpa using this.take n
    ·refine mQ.take (λj u Y=>?_) n;simp only[bd,c2] at Y;obtain⟨iI,kf,rfl⟩:=Y
     have F:iI=j/\j<D ds:=by
      rcases gX j (D ds) with h|h
      ·rw[r3 h] at kf;exact⟨by simpa using kf.symm,h⟩
      ·rw[lk (by simpa using h)] at kf
       cases kf
     obtain⟨rfl,hj⟩:=F;exact U iI hj
 ·cases h
def aiS {t:TypeId}{n:Nat}{bH:Bool}{m r:H}{v:Value}(O:fG P t=some n)(ba:tr P t=some bH)(bh:dP A w B mem)(al:aY w (bn A B) B m v)(h:iW mem n bH m=some r):
  ∃u,(Instr.loadAt t v).run P w=.ok u w/\aY w (bn A B) B r u:=by
 obtain⟨b,off,ms,vs,rfl,ae,b7,g9,L⟩:=X1 bh al h;obtain⟨u,F,G⟩:=Rl (P:=P) O ba ae b7 g9 L;exact⟨u,by simpa [Instr.loadAt,Instr.sureAddr] using F,G⟩
end
section
variable {P:Program} {w:World} {au:Nat->Prop} {B:cS}
def X2 {m:H}{cs:List H}{v:Value}(h:Bk m=some cs)(al:aY w au B m v):∃vs:List Value,v=.agg vs.toArray/\cA w au B cs vs:=by
 unfold Bk at h
 split at h
 ·cases h
  cases al with
  |agg ae ad=>exact⟨_,rfl,ae,ad⟩
 ·cases h
  cases al with
  |I ad =>
   cases ad with
   |agg ae ad=>exact⟨_,rfl,cA.I ae ad⟩
 ·cases h
def X3 {neg:Bool}{gF:List Nat}{m n r:H}{u v:Value}(t:TypeId)(x y:Operand)(dA:Array Field)(hu:P.underlying t=some (.struct dA))(O:P.stoodInHeld t=false)
  (aL:P.eqGuardType P.depth t=false) (Q:Eb P 0 dA.toList=some gF) (hm:aY w au B m u) (aA:aY w au B n v) (h:Hm neg gF m n=some r) :
  ∃z,((do eqGuard (if neg then .neq else .eql) t x y u v;binOp (if neg then .neq else .eql) t u v:Sem Value)).run P w=.ok z w/\aY w au B r z:=by
 unfold Hm at h
 split at h
 ·rename_i cs ds iJ fD
  split at h
  ·rename_i c U
   cases h;obtain⟨xs,rfl,J⟩:=X2 iJ hm;obtain⟨ys,rfl,ai⟩:=X2 fD aA;have xQ:P.fieldsOf t=dA:=by simp[Program.fieldsOf,hu]
   have he:=run_equalIn_struct (P:=P) w 9999 t xs.toArray ys.toArray (by rw[xQ];exact hu) O;rw[xQ] at he
   have aj:=XZ (P:=P) (w:=w) (au:=au) (B:=B) (d:=9998) (xs:=xs.toArray) (ys:=ys.toArray) (cs:=cs) (ds:=ds)
    (λi m v F G=>J.2 i m v F (by simpa using G)) (by simpa using J.1) (λi m v F G=>ai.2 i m v F (by simpa using G)) (by simpa using ai.1) dA.toList 0 gF c Q (by simpa using U)
   have heq:(Op.equal t (.agg xs.toArray) (.agg ys.toArray)).run P w=.ok c w:=by
    show (Op.equalIn (9999+1) t _ _).run P w=_;rw[he];exact aj
   have qk:∀op,(op=BinOp.eql\/op=.neq)->(eqGuard op t x y (.agg xs.toArray) (.agg ys.toArray)).run P w=.ok () w:=by
    intro op e4;rcases e4 with rfl|rfl<;>simp[eqGuard,aL]
   refine⟨.bool (neg != c),?_,.I .bool⟩
   cases neg
   ·simp only[cC,if_false,Sem.run_bind,qk _ (.inl rfl),Result.andThen_ok];show (do pure (Value.bool (<-Op.equal t (.agg xs.toArray) (.agg ys.toArray))):Sem Value).run P w=_
    simp[heq]
   ·simp only[if_true,Sem.run_bind,qk _ (.inr rfl),Result.andThen_ok];show (do pure (Value.bool (!(<-Op.equal t (.agg xs.toArray) (.agg ys.toArray)))):Sem Value).run P w=_
    simp[heq]
  ·cases h
 ·cases h
def aiT {c a b r:H}{X4 tv q6:Value}(U:aY w au B c X4)(ba:aY w au B a tv)(R:aY w au B b q6)(h:D2 c a b=some r):
  ∃z,(do pure (if <-asBool X4 then tv else q6):Sem Value).run P w=.ok z w/\aY w au B r z:=by
 unfold D2 at h
 split at h
 ·rename_i t
  cases U.zH
  cases t
  ·cases h;exact⟨q6,by simp[asBool],R⟩
  ·cases h;exact⟨tv,by simp[asBool],ba⟩
 ·cases h
def aiU {op:UnOp}{m r:H}{v:Value}(hm:aY w au B m v)(h:Hk op m=some r):∃z,(Op.unary op v).run P w=.ok z w/\aY w au B r z:=by
 unfold Hk at h
 split at h
 ·cases h;cases hm.wh;exact⟨_,by simp[Op.unary,Op.intArith],.I .int⟩
 ·cases h;cases hm.wh;exact⟨_,by simp[Op.unary,go_sem],.I .int⟩
 ·cases h;cases hm.zH;exact⟨_,by simp[Op.unary],.I .bool⟩
 ·cases h
def aiV {k:IntKind}{m r:H}{v:Value}(s t:TypeId)(gF:IntKind)(O:P.underlying s=some (.int gF))(bL:P.underlying t=some (.int k))(hm:aY w au B m v)(h:Hn k m=some r):
  ∃z,(convert s t v).run P w=.ok z w/\aY w au B r z:=by
 unfold Hn at h
 split at h
 ·cases h
  cases hm.wh
  have Z:P.intKind t=k:=by simp[Program.intKind,bL]
  have:=run_convert_int (P:=P) w s t;exact⟨.int k _,by simp[convert,run_underlying O,run_underlying bL,Conv.intToInt],.I .int⟩
 ·cases h
def aiW {off:Nat}{m r:H}{v:Value}(t:TypeId)(f:Nat)(dA:Array Field)(fd:Field)(s:Nat)(hu:P.underlying t=some (.struct dA))(aj:dA[f]?=some fd)(O:fG P fd.type=some s)(aq:0<s)
  (a4:fd.offset=off) (hm:aY w au B m v) (h:D3 off m=some r):∃z,(Instr.fieldAt t v f).run P w=.ok z w/\aY w au B r z:=by
 have bo:¬ s=0:=by omega
 have run:∀b o,(Instr.fieldAt t (.pointer (some ⟨b,o,none⟩)) f).run P w=.ok (.pointer (some ⟨b,o+off,none⟩)) w:=by
  intro b o;simp[Instr.fieldAt,run_underlying hu,aj,Instr.sureAddr,fieldPlace,r2 O,bo,xP,a4]
 unfold D3 at h
 split at h
 ·cases h;rename_i k g o
  cases hm with
  |ptr he aL al =>
   obtain⟨b,rfl,R⟩:=al;exact⟨_,run b o,.ptr he aL ⟨b,rfl,R⟩⟩
 ·rename_i ds
  split at h
  ·rename_i ae
   cases h
   cases hm with
   |I ad =>
    cases ad with
    | @ptr cs b o val R e8 U ad =>
     refine⟨_,run b o,.I (.ptr (λi=>val (off+i)) R e8 (λi Z=>?_) λi d ng=>ad _ d (by simpa using ng))⟩;have:=U (off+i) (by simp at Z;omega);rwa [<-r0] at this
  ·cases h
 ·cases h
def X5 {t:TypeId}{n off:Nat}{bH:Bool}{cs ms:List H}{vs:List Value}{r:H}(O:fG P t=some n)(ba:tr P t=some bH)(b7:cA w au B cs vs)(U:cut cs off n=some ms)(h:oF bH ms=some r):
  ∃u,(part t vs.toArray off).run P w=.ok u w/\aY w au B r u:=by
 obtain⟨ae,rfl,aA⟩:=Ed U;have aU:=(b7.drop off).take n;unfold oF at h
 split at h
 ·rename_i uO
  cases h;subst uO;refine⟨.agg ((vs.drop off).take n).toArray,?_,.agg aU.1 aU.2⟩
  have e:vs.toArray.extract off (off+n)=((vs.drop off).take n).toArray:=by
   simp[List.extract_eq_take_drop]
  simp[part,Mt ba,r2 O,e]
 ·rename_i uO;have Rm:bH=false:=by simpa using uO
  subst Rm
  split at h
  ·rename_i m aD
   cases h
   have Z:cs[off]?=some r:=by
    have:=congrArg (λl=>l[0]?) aD;simp[xO] at this;exact this.2
   obtain⟨u,hu,aiX⟩:=b7.get Z;exact⟨u,by simp[part,Mt ba,hu],aiX⟩
  ·cases h
def aiY {off n:Nat}{bH:Bool}{m r:H}{v:Value}(t:TypeId)(f:Nat)(dA:Array Field)(fd:Field)(hu:P.underlying t=some (.struct dA))(aj:dA[f]?=some fd)(O:fG P fd.type=some n)
  (ba:tr P fd.type=some bH) (a4:fd.offset=off) (hm:aY w au B m v) (h:D4 off n bH m=some r):∃z,(Instr.field t v f).run P w=.ok z w/\aY w au B r z:=by
 subst a4
 have go:∀(cs:List H) (vs:List Value),cA w au B cs vs->(cut cs fd.offset n).bind (oF bH)=some r->∃z,(Instr.field t (.agg vs.toArray) f).run P w=.ok z w/\aY w au B r z:=by
  intro cs vs b7 bk;simp only[dH] at bk;obtain⟨ms,F,G⟩:=bk;obtain⟨u,aa,aX⟩:=X5 (P:=P) O ba b7 F G;exact⟨u,by simp[Instr.field,run_underlying hu,aj,asAgg,aa],aX⟩
 unfold D4 at h
 split at h
 ·cases hm with
  |agg ae ad=>exact go _ _ ⟨ae,ad⟩ h
 ·cases hm with
  |I ad =>
   cases ad with
   |agg ae ad=>exact go _ _ (cA.I ae ad) h
 ·cases h
def Bn {m:H}{n:Nat}{v:Value}(h:idx m=some n)(al:aY w au B m v):∃k,v=.int k (n:Int):=by
 unfold idx at h
 split at h
 ·rename_i k i
  split at h
  ·rename_i aq
   cases h
   cases al.wh
   exact⟨k,by rw[Int.toNat_of_nonneg aq]⟩
  ·cases h
 ·cases h
def DU.at_ {e:ht}{g sz off len:Nat}{v:Value}(h:DU e g sz off len v)(aq:0<len):∃b cap,v=.slice (some ⟨b,off,none⟩) len cap/\len<=cap/\cap<=maxLen/\(g=e.g->e.dj=some b/\off+cap*sz<=e.size/\e.mp=false):=by
 obtain⟨a,cap,rfl,G,aa,aX⟩:=h;rcases aX with aX|⟨b,rfl,bt⟩
 ·omega
 ·exact⟨b,cap,rfl,G,aa,bt⟩
def aiZ {es:List (List Data)}{sz:Nat}(eb:∀e∈es,D e=sz):∀(n i:Nat) (e:List Data),es[n]?=some e->i<sz->es.flatten[n*sz+i]?=e[i]?:=by
 induction es with
 |nil=>intro n i e h;simp at h
 |cons a r a2 =>
  intro n i e h Z;have ba:=eb a (by simp)
  cases n with
  |zero =>
   simp at h;subst h;rw[mg,uP (by omega)];simp
  |succ n =>
   rw[mg,r4 (by rw[ba,Ee];omega)];have:=a2 (λx J=>eb x (by simp[J])) n i e (by simpa using h) Z;rw[<-this,ba]
   congr 1
   rw[Ee];omega
def ai0 {sz n:Nat}{m r:H}{v:Value}{k:IntKind}(t e:TypeId)(hu:P.underlying t=some (.slice e))(O:fG P e=some sz)(hm:aY w au B m v)(h:Hp sz n m=some r):
  ∃z,(Instr.indexAt t v (.int k (n:Int))).run P w=.ok z w/\aY w au B r z:=by
 have run:∀b off len cap,n<len->(Instr.indexAt t (.slice (some ⟨b,off,none⟩) len cap) (.int k (n:Int))).run P w=.ok (.pointer (some ⟨b,off+n*sz,none⟩)) w:=by
  intro b off len cap an;simp[Instr.indexAt,run_underlying hu,asIntOf,an,r2 O,xP]
 unfold Hp at h
 split at h
 ·split at h
  ·rename_i ae;obtain⟨an,rfl⟩:=ae
   cases h
   cases hm with
   |ref he aL al =>
    obtain⟨b,cap,rfl,F,G,aa⟩:=al.at_ (by omega);exact⟨_,run _ _ _ _ an,.ptr he aL ⟨b,rfl,λh=>⟨(aa h).1,(aa h).2.2⟩⟩⟩
  ·cases h
 ·rename_i es
  split at h
  ·rename_i el kx
   split at h
   ·rename_i hle
    cases h
    cases hm with
    |I ad =>
     have an:n<D es:=(dK.1 kx).1
     cases ad with
     |kP=>simp at an
     | @ao es b off c eg val ae Mv R e8 eb U ad =>
      have HK:eg=sz:=by rw[<-hle];exact (eb _ (cJ kx)).symm
      subst HK
      have hmul:n*eg+eg<=D es*eg:=by
       have:(n+1)*eg<=D es*eg:=q7 _ an;rwa [pw,Hh] at this
      refine⟨_,run _ _ _ _ an,.I (.ptr (λi=>val (n*eg+i)) R e8 (λi Z=>?_) λi d ng=>?_)⟩
      ·have:=U (n*eg+i) (by omega);rwa [<-r0] at this
      ·refine ad _ d ?_;rw[aiZ eb n i el kx (by have:=(dK.1 ng).1;omega)];exact ng
   ·cases h
  ·cases h
 ·cases h
def ai1 {len sz n:Nat}{m r:H}{v:Value}{k:IntKind}(t e:TypeId)(hu:P.underlying t=some (.array len e))(O:fG P e=some sz)(hm:aY w au B m v)(h:Hq len sz n m=some r):
  ∃z,(Instr.indexAt t v (.int k (n:Int))).run P w=.ok z w/\aY w au B r z:=by
 have run:∀b off,n<len->(Instr.indexAt t (.pointer (some ⟨b,off,none⟩)) (.int k (n:Int))).run P w=.ok (.pointer (some ⟨b,off+n*sz,none⟩)) w:=by
  intro b off an;simp[Instr.indexAt,run_underlying hu,asIntOf,Instr.sureAddr,an,r2 O,xP]
 unfold Hq at h
 split at h
 ·split at h
  ·rename_i an
   cases h
   cases hm with
   |ptr he aL al =>
    obtain⟨b,rfl,R⟩:=al;exact⟨_,run _ _ an,.ptr he aL ⟨b,rfl,R⟩⟩
  ·cases h
 ·rename_i ds
  split at h
  ·rename_i ae;obtain⟨an,hle⟩:=ae
   cases h
   cases hm with
   |I ad =>
    cases ad with
    | @ptr cs b o val R e8 U ad =>
     refine⟨_,run _ _ an,.I (.ptr (λi=>val (n*sz+i)) R e8 (λi Z=>?_) λi d ng=>ad _ d (by simpa using ng))⟩;have:=U (n*sz+i) (by simp at Z;omega);rwa [<-r0] at this
  ·cases h
 ·cases h
def ai2 {n:Nat}{m r:H}{v:Value}{k:IntKind}(t:TypeId)(hu:P.underlying t=some .string)(hm:aY w au B m v)(h:Hr n m=some r):
  ∃z,(Instr.index t v (.int k (n:Int))).run P w=.ok z w/\aY w au B r z:=by
 unfold Hr at h
 split at h
 ·rename_i s;simp only[c2] at h;obtain⟨b,R,rfl⟩:=h
  cases hm.zI;have an:n<D s:=(dK.1 R).1
  have e:(ByteArray.mk s.toArray)[n]?=some b:=by
   rw[ByteArray.getElem?_lt' _ _ (by simpa [ByteArray.size] using an)];have:=(dK.1 R).2;simp only[bM];rw[<-this]
   rfl
  exact⟨.int .u8 b.toNat,by simp[Instr.index,run_underlying hu,asIntOf,e],.I .int⟩
 ·cases h
def ai3 {i:Nat}{m r:H}{v:Value}(hm:aY w au B m v)(h:Hv i m=some r):∃z,(Instr.extract v i).run P w=.ok z w/\aY w au B r z:=by
 unfold Hv at h
 split at h
 ·cases hm with
  |dp ae ad =>
   obtain⟨u,hu,L⟩:=cA.get ⟨ae,ad⟩ h;exact⟨u,by simp[Instr.extract,hu],L⟩
 ·simp only[c2] at h;obtain⟨d,mP,rfl⟩:=h
  cases hm with
  |I ad =>
   cases ad with
   |dp ae ad =>
    obtain⟨u,hu,L⟩:=cA.get (cA.I ae ad) (i:=i) (m:=.I d) (by simp[mP]);exact⟨u,by simp[Instr.extract,hu],L⟩
 ·cases h
def ai4 {m:H}{n:Nat}{v:Value}(t ty e:TypeId)(bL:P.underlying t=some (.slice e))(hm:aY w au B m v)(h:tn m=some n):
  (Builtin.len_ #[t] ty #[v]).run P w=.ok (.int .i64 n) w:=by
 have run:∀a c,(Builtin.len_ #[t] ty #[.slice a n c]).run P w=.ok (.int .i64 n) w:=λa c=>by
  simp[Builtin.len_,run_underlying bL,goInt]
 unfold tn at h
 split at h<;>cases h
 ·cases hm with
  |I ad =>
   cases ad with
   |kP=>exact run _ _
   |ao=>exact run _ _
 ·cases hm with
  |nil=>exact run _ _
 ·cases hm with
  |ref he aL al=>obtain⟨a,cap,rfl,_⟩:=al;exact run _ _
def ai5 {m:H}{n:Nat}{v:Value}(t ty:TypeId)(bL:P.underlying t=some .string)(hm:aY w au B m v)(h:xE m=some n):
  (Builtin.len_ #[t] ty #[v]).run P w=.ok (.int .i64 n) w:=by
 unfold xE at h
 split at h<;>cases h
 rename_i s
 cases hm.zI;have e:(ByteArray.mk s.toArray).size=D s:=by simp[ByteArray.size]
 simp[Builtin.len_,run_underlying bL,goInt,e]
def X6 {jM:Bool}{m n r:H}{u v:Value}(r5:Array TypeId)(t:TypeId)(hm:aY w au B m u)(aA:aY w au B n v)(h:Hw jM m n=some r):
  ∃z,(if jM=true then Builtin.max_ r5 t #[u,v] else Builtin.min_ r5 t #[u,v]).run P w=.ok z w/\aY w au B r z:=by
 unfold Hw at h
 split at h
 ·split at h
  ·rename_i Q;subst Q
   cases h
   cases hm.wh
   cases aA.wh
   cases jM
   ·exact⟨_,by simp[run_min_int2],.I .int⟩
   ·exact⟨_,by simp[run_max_int2],.I .int⟩
  ·cases h
 ·cases h
def ai6 {m r:H}{v:Value}(hm:aY w au B m v)(h:Ho m=some r):(∃b off,v=.pointer (some ⟨b,off,none⟩))/\aY w au B r v:=by
 unfold Ho at h
 split at h
 ·cases h;refine⟨?_,hm⟩
  cases hm with
  |ptr he aL al=>obtain⟨b,rfl,_⟩:=al;exact⟨_,_,rfl⟩
 ·cases h;refine⟨?_,hm⟩
  cases hm with
  |I ad=>cases ad;exact⟨_,_,rfl⟩
 ·cases h
def Ef {x:H}{n y:Nat}{v:Value}(code:BoundsCode)(J:idx x=some n)(al:aY w au B x v)(aA:n<=y):(Instr.sliceBound v y code).run P w=.ok n w:=by
 obtain⟨k,rfl⟩:=Bn J al
 simpa using run_sliceBound (P:=P) w k (n:Int) y code (by omega) (by omega)
def ql (w:World)(au:Nat->Prop)(B:cS):Option H->Option Value->Prop
 |none,none=>True
 |some m,some v=>aY w au B m v
 |_,_=>False
def Rn {len cap l h:Nat}{b6 Z:Option H}{ky kz:Option Value}(Ro:Bool)(ga:jx 0 b6=some l)(kS:jx len Z=some h)
  (mj:ql w au B b6 ky) (ll:ql w au B Z kz) (ae:l<=h) (bk:h<=cap):(Instr.sliceBounds Ro len cap ky kz none).run P w=.ok (l,h,cap) w:=by
 unfold Instr.sliceBounds
 cases b6 with
 |none =>
  cases ky with
  |some v=>exact mj.elim
  |none =>
   simp[jx] at ga;subst ga
   cases Z with
   |none =>
    cases kz with
    |some v=>exact ll.elim
    |none=>simp[jx] at kS;subst kS;simp
   |some m =>
    cases kz with
    |none=>exact ll.elim
    |some v =>
     have ax:=λcode=>Ef (P:=P) (y:=cap) code kS ll bk
     cases Ro<;>simp[ax]
 |some ml =>
  cases ky with
  |none=>exact mj.elim
  |some a7 =>
   have aO:=λcode=>Ef (P:=P) (y:=h) code ga mj ae
   cases Z with
   |none =>
    cases kz with
    |some v=>exact ll.elim
    |none=>simp[jx] at kS;subst kS;simp[aO]
   |some m =>
    cases kz with
    |none=>exact ll.elim
    |some v =>
     have ax:=λcode=>Ef (P:=P) (y:=cap) code kS ll bk
     cases Ro<;>simp[aO,ax]
def ai7 {len cap l h m:Nat}{b6:Option H}{Z jM:H}{ky:Option Value}{kz xR:Value}(ga:jx 0 b6=some l)(kS:idx Z=some h)(gY:idx jM=some m)
  (mj:ql w au B b6 ky) (ll:aY w au B Z kz) (Eg:aY w au B jM xR) (ae:l<=h) (bk:h<=m) (hm:m<=cap):(Instr.sliceBounds true len cap ky (some kz) (some xR)).run P w=.ok (l,h,m) w:=by
 have fH:=Ef (P:=P) (y:=cap) .slice3Acap gY Eg hm;have ax:=Ef (P:=P) (y:=m) .slice3B kS ll bk;unfold Instr.sliceBounds
 cases b6 with
 |none =>
  cases ky with
  |some v=>exact mj.elim
  |none =>
   simp[jx] at ga;subst ga;simp[fH,ax]
 |some ml =>
  cases ky with
  |none=>exact mj.elim
  |some a7 =>
   have aO:=Ef (P:=P) (y:=h) .slice3C ga mj ae;simp[fH,ax,aO]
def Mw {m:H}{n:Nat}{v:Value}(hm:aY w au B m v)(h:tn m=some n):∃a c,v=.slice a n c/\n<=c:=by
 unfold tn at h
 split at h<;>cases h
 ·cases hm with
  |I ad =>
   cases ad with
   |kP=>exact⟨_,_,rfl,by simp⟩
   |ao val ae=>exact⟨_,_,rfl,ae⟩
 ·cases hm with
  |nil=>exact⟨_,_,rfl,by simp⟩
 ·cases hm with
  |ref he aL al=>obtain⟨a,cap,rfl,F,_⟩:=al;exact⟨_,_,rfl,F⟩
def X7 {t e:TypeId}{sz l h lS:Nat}{a:Option Addr}{len cap:Nat}{ky kz xR:Option Value}(bL:P.underlying t=some (.slice e))(O:fG P e=some sz)
  (R:(Instr.sliceBounds true len cap ky kz xR).run P w=.ok (l,h,lS) w) :
  (Instr.sliceAt t (.slice a len cap) ky kz xR).run P w=.ok (.slice (if lS=l then a else a.map (·.add (l*sz))) (h-l) (lS-l)) w:=by
 simp[Instr.sliceAt,Instr.slice,run_underlying bL,R,r2 O]
def ai8 {es:List (List Data)}{sz:Nat}(eb:∀e∈es,D e=sz)(l:Nat):(es.drop l).flatten=es.flatten.drop (l*sz):=by
 induction es generalizing l with
 |nil=>simp
 |cons a r a2 =>
  cases l with
  |zero=>simp
  |succ l =>
   have ba:=eb a (by simp);rw[List.drop_succ_cons,a2 (λx J=>eb x (by simp[J])) l,mg,List.drop_append,ba];have F:a.drop ((l+1)*sz)=[]:=lj (by rw[ba,Ee];omega);rw[F,List.nil_append]
   congr 1
   rw[Ee];omega
def ai9 {es:List (List Data)}{sz:Nat}(eb:∀e∈es,D e=sz)(l:Nat):(es.take l).flatten=es.flatten.take (l*sz):=by
 induction es generalizing l with
 |nil=>simp
 |cons a r a2 =>
  cases l with
  |zero=>simp
  |succ l =>
   have ba:=eb a (by simp);rw[List.take_succ_cons,mg,a2 (λx J=>eb x (by simp[J])) l,mg,X8,ba];have F:a.take ((l+1)*sz)=a:=dE (by rw[ba,Ee];omega);rw[F]
   congr 2
   rw[Ee];omega
def X9 {es:List (List Data)}{a:Option Addr}{len c sz l h cc:Nat}(ad:Den w au (.ao es) (.slice a len c))(ae:l<=h)(bk:h<=D es)(eb:0<(D es)->∀e∈es,D e=sz)(U:h-l<=cc):
  l=h\/Den w au (.ao ((es.take h).drop l)) (.slice (a.map (·.add (l*sz))) (h-l) cc):=by
 rcases Mx ae with rfl|an
 ·exact .inl rfl
 ·refine .inr ?_
  cases ad with
  |kP=>simp at bk;omega
  | @ao es b off c eg val nD hm R e8 hsz' n5 zK =>
   have h3:0<D es:=by omega
   have HK:eg=sz:=by
    have aq:=ha (l:=es) (n:=0) h3;rw[<-hsz' _ aq,eb h3 _ aq]
   subst HK;have hlen:((es.take h).drop l).length=h-l:=by simp;omega
   have hmul:l*eg+(h-l)*eg<=D es*eg:=by
    rw[<-pw];exact q7 _ (by omega)
   have:=Den.ao (w:=w) (au:=au) (es:=(es.take h).drop l) (b:=b) (off:=off+l*eg) (c:=cc) (sz:=eg) (λi=>val (l*eg+i)) (by rw[hlen];exact U) (by rw[hlen];omega) R e8
    (λe he=>hsz' e (Eh (List.mem_of_mem_drop he)))
    (λi Z=>by
     rw[hlen] at Z;have:=n5 (l*eg+i) (by omega);rwa [<-r0] at this)
    (λi d ng=>by
     refine zK _ d ?_;rw[ai8 (λe he=>hsz' e (Eh he)) l,ai9 hsz' h] at ng;rw[oI,xO] at ng
     split at ng
     ·exact ng
     ·cases ng)
   rw[hlen] at this
   simpa [xP] using this
end
section
variable {P:Program} {w:World} {au:Nat->Prop} {B:cS}
def Rp {sz:Nat}{es:List (List Data)}(h:rW sz es=true):∀e∈es,D e=sz:=λe he=>by
 simpa using kA.1 h e he
def aja {t e:TypeId}{sz l h len:Nat}{m r:H}{v:Value}{ky kz:Option Value}{b6 Z:Option H}(bL:P.underlying t=some (.slice e))(O:fG P e=some sz)
  (ga:jx 0 b6=some l) (hlen:tn m=some len) (kS:jx len Z=some h) (mj:ql w au B b6 ky) (ll:ql w au B Z kz) (hm:aY w au B m v) (L:Hs sz l h m=some r) :
  ∃z,(Instr.sliceAt t v ky kz none).run P w=.ok z w/\aY w au B r z:=by
 obtain⟨a,cap,rfl,Ei⟩:=Mw hm hlen
 have run:l<=h->h<=len->(Instr.sliceAt t (.slice a len cap) ky kz none).run P w=.ok (.slice (if cap=l then a else a.map (·.add (l*sz))) (h-l) (cap-l)) w:=λF G =>
  X7 bL O (Rn true ga kS mj ll F (by omega))
 unfold Hs at L
 split at L
 ·rename_i es
  split at L
  ·rename_i U;obtain⟨F,G,aa⟩:=U
   cases L;simp only[tn,bM] at hlen;subst hlen;refine⟨_,run F G,.I ?_⟩
   cases hm with
   |I ad =>
    rcases X9 (sz:=sz) ad F G (λ_=>Rp aa) (cc:=cap-l) (by omega) with rfl|aP
    ·rw[show ((es.take l).drop l)=[] from by simp]
     rw[hF];exact .kP
    ·rcases Mx F with rfl|an
     ·rw[show ((es.take l).drop l)=[] from by simp]
      rw[hF];exact .kP
     ·rw[aR (by omega)];exact aP
  ·cases L
 ·split at L
  ·rename_i U;obtain⟨rfl,rfl⟩:=U
   cases L
   cases hm with
   |nil=>exact⟨_,run (by omega) (by omega),by simpa using aY.nil⟩
  ·cases L
 ·split at L
  ·rename_i k g eg off ajb U;obtain⟨rfl,F,G⟩:=U
   cases L;simp only[tn,bM] at hlen;subst hlen
   cases hm with
   |ref he aL al =>
    refine⟨_,run F G,.ref he aL ?_⟩;obtain⟨cB,Rq,tw,nE,awk,ajc⟩:=al
    injection tw with aO ax eS
    subst aO;subst eS
    refine⟨_,cap-l,rfl,by omega,by omega,?_⟩
    rcases ln (cap-l) with aq|aq
    ·exact .inl aq
    ·refine .inr ?_;rcases ajc with aX|⟨b,rfl,bt⟩
     ·omega
     ·refine⟨b,by rw[aR (by omega)];simp[xP],λbB=>?_⟩
      obtain⟨bx,bK⟩:=bt bB;refine⟨bx,?_⟩;rw[r0,<-pw];rwa [show l+(cap-l)=cap from by omega]
  ·cases L
 ·cases L
def ajd {t e:TypeId}{sz l h lS:Nat}{m r:H}{v:Value}{ky:Option Value}{kz xR:Value}{b6:Option H}{Z jM:H}(bL:P.underlying t=some (.slice e))(O:fG P e=some sz)
  (ga:jx 0 b6=some l) (kS:idx Z=some h) (gY:idx jM=some lS) (mj:ql w au B b6 ky) (ll:aY w au B Z kz) (Eg:aY w au B jM xR) (hm:aY w au B m v) (L:Ht sz l h lS m=some r) :
  ∃z,(Instr.sliceAt t v ky (some kz) (some xR)).run P w=.ok z w/\aY w au B r z:=by
 have run:∀a len cap,l<=h->h<=lS->lS<=len->len<=cap->(Instr.sliceAt t (.slice a len cap) ky (some kz) (some xR)).run P w=.ok (.slice (if lS=l then a else a.map (·.add (l*sz))) (h-l) (lS-l)) w :=
  λa len cap F G aa aX=>X7 bL O (ai7 ga kS gY mj ll Eg F G (by omega))
 unfold Ht at L
 split at L
 ·rename_i es
  split at L
  ·rename_i U;obtain⟨F,G,aa,aX⟩:=U;obtain⟨a,cap,rfl,Ei⟩:=Mw hm (n:=D es) rfl;refine⟨_,run a _ cap F G aa Ei,?_⟩
   split at L
   ·rename_i xS
    cases L;subst xS;have:h=lS:=by omega
    subst this
    simpa using aY.nil
   ·rename_i xS
    cases L;rw[aR xS]
    cases hm with
    |I ad =>
     refine .I ?_;rcases Mx F with rfl|an
     ·rw[show ((es.take l).drop l)=[] from by simp]
      rw[hF];exact .kP
     ·rcases X9 (sz:=sz) ad F (by omega) (λ_=>Rp aX) (cc:=lS-l) (by omega) with aq|aP
      ·omega
      ·exact aP
  ·cases L
 ·split at L
  ·rename_i U;obtain⟨rfl,rfl,rfl⟩:=U
   cases L;obtain⟨a,cap,rfl,Ei⟩:=Mw hm (n:=0) rfl;exact⟨_,run a _ cap (by omega) (by omega) (by omega) Ei,by simpa using aY.nil⟩
  ·cases L
 ·rename_i k g eg off len
  split at L
  ·rename_i U;obtain⟨F,G,aa,rfl⟩:=U
   cases L;obtain⟨a,cap,rfl,Ei⟩:=Mw hm (n:=len) rfl;have:h=lS:=by omega
   subst this;exact⟨_,run a _ cap (by omega) (by omega) (by omega) Ei,by simpa using aY.nil⟩
  ·cases L
 ·cases L
def aje {t:TypeId}{l h len:Nat}{m r:H}{v:Value}{ky kz:Option Value}{b6 Z:Option H}(bL:P.underlying t=some .string)
  (ga:jx 0 b6=some l) (hlen:xE m=some len) (kS:jx len Z=some h) (mj:ql w au B b6 ky) (ll:ql w au B Z kz) (hm:aY w au B m v) (L:Hu l h m=some r) :
  ∃z,(Instr.sliceAt t v ky kz none).run P w=.ok z w/\aY w au B r z:=by
 unfold Hu at L
 split at L
 ·rename_i s
  split at L
  ·rename_i U;obtain⟨F,G⟩:=U
   cases L;simp only[xE,bM] at hlen;subst hlen
   cases hm.zI;have e:(ByteArray.mk s.toArray).size=D s:=by simp[ByteArray.size]
   have R:=Rn (P:=P) (w:=w) (au:=au) (B:=B) (cap:=D s) false ga kS mj ll F G
   have J:(ByteArray.mk s.toArray).extract l h=⟨((s.take h).drop l).toArray⟩:=by
    rw[ByteArray.extract_mk,Ya]
   exact⟨.string ⟨((s.take h).drop l).toArray⟩,by simp[Instr.sliceAt,Instr.slice,run_underlying bL,e,R,J],.I .str⟩
  ·cases L
 ·cases L
def Yb (off:Nat):∀(l:List Value) (k:Nat) (cs:Array Value),off+k+D l<=cs.size ->
  (l.zipIdx k).foldl (λ(cs:Array Value) (p:Value×Nat)=>cs.setIfInBounds (off+p.2) p.1) cs=(cs.toList.take (off+k)++l++cs.toList.drop (off+k+D l)).toArray
 | [],k,cs,_=>by simp
 |a::l,k,cs,h=>by
  rw[List.zipIdx_cons,Yc];have cG:off+k<cs.size:=by simp at h;omega
  rw[Yb off l (k+1) (cs.setIfInBounds (off+k) a) (by simp at h ⊢;omega)];apply Array.ext';simp only[Array.toList_setIfInBounds];have:=list_seg_step cs.toList (off+k) a l (by simp at h ⊢;omega)
  simpa [r0] using this
def My {place:Nat->Option (Nat×Nat)}{ρ:Operand->Value}{tm:Nat->H}(hρ:∀x y,cN x=some y->aY w au B (aK tm y) (ρ x)):
  ∀(cT:List (Nat×Operand)) (fh:List (Nat×Nat×bu)) (cs r:List H) (vs:Array Value),partsOf place cT=some fh->cA w au B cs vs.toList->kd (aK tm) cs fh=some r ->
   ∃nF:Array Value,Instr.fill place vs (cT.map λp=>(p.1,ρ p.2))=some nF/\cA w au B r nF.toList
 | [],fh,cs,r,vs,aP,b7,h=>by
  simp[partsOf] at aP;subst aP;simp[kd] at h;subst h;exact⟨vs,rfl,b7⟩
 |(i,x)::cT,fh,cs,r,vs,aP,b7,h=>by
  simp only[partsOf,nf,fZ,gi,dH,bM] at aP;obtain⟨q,aS,ajf,xT,rfl⟩:=aP;obtain⟨⟨o,s⟩,ix,y,ai,rfl⟩:=aS;simp only[kd] at h
  split at h
  ·rename_i U;obtain⟨aq,F,G⟩:=U;have jm:=hρ x y ai;have ajg:aK tm y ≠ .undef:=λe=>by rw[e] at aq;simp[H.known] at aq
   ·have wi:=cA.Rk jm ajg;have eb:(ρ x).cells.size=s:=by have:=wi.1;simp at this;omega
    have HL:o+s<=vs.size:=by have:=b7.1;simp at this;omega
    have iK:=Yb o (ρ x).cells.toList 0 vs (by simp[eb];exact HL);simp only[lo,Array.length_toList] at iK;have Rr:=b7.kv wi o;obtain⟨nF,aj,dC⟩:=My hρ cT ajf _ r ((vs.toList.take o++(ρ x).cells.toList++vs.toList.drop (o+(ρ x).cells.size)).toArray) xT (by simpa using Rr) h;refine⟨nF,?_,dC⟩;simp only[List.map_cons,Instr.fill,ix];rw[aR (by simp[eb];omega)]
    have a0:(ρ x).cells.zipIdx.foldl (λcs (p:Value×Nat)=>cs.setIfInBounds (o+p.2) p.1) vs=(vs.toList.take o++(ρ x).cells.toList++vs.toList.drop (o+(ρ x).cells.size)).toArray:=by
     rw[<-Array.foldl_toList,Array.toList_zipIdx];exact iK
    rw[<-aj]
    congr 1
  ·cases h
end
section
variable {P:Program} {A:Nat->Prop} {w:World} {B:cS} {mem:Mem}
def Bo {au:Nat->Prop}{t:TypeId}{z:List H}(h:zeroOf P t=some z):∃i h4,P.info? t=some i/\i.zero=some h4/\cA w au B z h4.cells.toList:=by
 simp only[zeroOf,dH] at h;obtain⟨h4,⟨i,Z,a0⟩,hm⟩:=h;obtain⟨F,G⟩:=mapM_get hm;exact⟨i,h4,Z,a0,by simp[F],λj m v ajh HM=>Ri (G j v m HM ajh)⟩
def HN {t:TypeId}{i:TypeInfo}{h4:Value}(Z:P.info? t=some i)(a0:i.zero=some h4):(zeroValue t).run P w=.ok h4 w:=by
 simp[zeroValue,typeInfo,Z,a0]
def Yd {t:TypeId}{i:TypeInfo}{n:Nat}(Z:P.info? t=some i)(O:fG P t=some n):i.size=n:=by
 simpa [fG,Z] using O
def Ye {t:TypeId}{i:TypeInfo}{n:Nat}(Z:P.info? t=some i)(O:Ea P t=some n):i.bytes=n:=by
 simpa [Ea,Z] using O
def Mz {z:Array Value}(aq:0<z.size):∀n,((Array.range (n*z.size)).map (z[·%z.size]!)).toList=(cf n z.toList).flatten
 |0=>by simp
 |n+1=>by
  have a2:=Mz aq n;apply qm;intro i
  have aO:∀m i,((Array.range (m*z.size)).map (z[·%z.size]!)).toList[i]?=if i<m*z.size then some (z[i%z.size]!) else none:=by
   intro m i;rw[Array.getElem?_toList,Array.getElem?_map]
   by_cases Z:i<m*z.size
   ·rw[aJ Z,Array.getElem?_range];simp[Z]
   ·rw[aR Z,Array.getElem?_range];simp[Z]
  rw[aO,List.replicate_succ',List.flatten_append,Ec,<-a2];have el:((Array.range (n*z.size)).map (z[·%z.size]!)).toList.length=n*z.size:=by simp
  rw[el];have hmul:(n+1)*z.size=n*z.size+z.size:=by rw[pw,Hh]
  by_cases Z:i<n*z.size
  ·rw[aJ Z,aJ (by omega),aO,aJ Z]
  ·rw[aR Z]
   by_cases xM:i<(n+1)*z.size
   ·rw[aJ xM];have an:i-n*z.size<z.size:=by omega
    have Rs:i%z.size=i-n*z.size:=by
     have e:i=(i-n*z.size)+z.size*n:=by have:=Nat.mul_comm n z.size;omega
     have ax:((i-n*z.size)+z.size*n)%z.size=i-n*z.size:=by rw[Nat.add_mul_mod_self_left,Nat.mod_eq_of_lt an]
     rwa [<-e] at ax
    rw[Rs];simp[an]
   ·rw[aR xM]
    symm
    rw[lk];simp;omega
def cA.replicate {au:Nat->Prop}{z:List H}{Yf:List Value}(h:cA w au B z Yf):∀n,cA w au B (cf n z).flatten (cf n Yf).flatten
 |0=>by simpa using cA.nil
 |n+1=>by
  rw[qn,mg,qn,mg];exact h.append (cA.replicate h n)
def cA.j9 {cs:List H}{vs:List Value}{ak:World}{ay:cS}(t:Trans A w B ak ay)(h:cA w (bn A B) B cs vs):cA ak (bn A ay) ay cs vs :=
 ⟨h.1,λi m v F G=>(h.2 i m v F G).j9 t⟩
def HO {cs:List H}(bh:dP A w B mem)(w1:World)(f:Fr (λ_=>False) w w1)(a0:w1.heap.size=w.heap.size)(k:Key)(vs:Array Value)(T:TypeId)(ae:(D cs)<=vs.size)
  (b7:cA w (bn A B) B cs (vs.toList.take (D cs))):c9 A w B (w1.alloc (.cells vs T)) (e3 B k ⟨bz mem k,some w.heap.size,vs.size,false⟩) (aT mem k (bz mem k) cs) :=
 c9.alloc bh w1 f a0 k vs T ae λi m hm=>by
  obtain⟨v,al,L⟩:=b7.get hm;rw[xO] at al
  split at al
  ·exact⟨v,by simpa using al,L⟩
  ·cases al
def aji {t:TypeId}{z:List H}(k:Key)(bh:dP A w B mem)(a0:zeroOf P t=some z):
  ∃v ak ay,(Instr.alloc t true (.tuple #[])).run P w=.ok v ak/\c9 A w B ak ay (aT mem k (bz mem k) z)/\aY ak (bn A ay) ay (.ptr k (bz mem k) 0) v:=by
 obtain⟨i,h4,Z,n6,b7⟩:=Bo (P:=P) (w:=w) (B:=B) (au:=bn A B) a0;have ae:(D z)=h4.cells.size:=by have:=b7.1;simp at this;omega
 refine⟨.pointer (some ⟨w.heap.size,0,none⟩),w.alloc (.cells h4.cells t),_,?_,HO bh w (Fr.refl _ _) rfl k h4.cells t (by omega) (by rw[dE (by simp;omega)];exact b7),?_⟩
 ·simp[Instr.alloc,HN Z n6,newVar,newRow]
 ·exact .ptr (fy _ _ _) (c8 _) ⟨_,rfl,λ_=>⟨rfl,rfl⟩⟩
def ajj {t:TypeId}{m:H}{u:Value}(k:Key)(bh:dP A w B mem)(hu:aY w (bn A B) B m u)(Q:m.known=true):
  ∃v ak ay,(Instr.box t u).run P w=.ok v ak/\c9 A w B ak ay (aT mem k (bz mem k) m.cells)/\aY ak (bn A ay) ay (.ptr k (bz mem k) 0) v:=by
 have b7:=cA.Rk hu (λe=>by rw[e] at Q;simp[H.known] at Q);have ae:(D m.cells)=u.cells.size:=by have:=b7.1;simp at this;omega
 refine⟨.pointer (some ⟨w.heap.size,0,none⟩),w.alloc (.cells u.cells t),_,?_,HO bh w (Fr.refl _ _) rfl k u.cells t (by omega) (by rw[dE (by simp;omega)];exact b7),?_⟩
 ·simp[Instr.box,newVar,newRow]
 ·exact .ptr (fy _ _ _) (c8 _) ⟨_,rfl,λ_=>⟨rfl,rfl⟩⟩
def ajk {t e:TypeId}{z:List H}{bytes n c:Nat}{aW bY:H}{jn gH:Value}{r:H}{iL:Option (Key×Nat×List H)}(k:Key)(bh:dP A w B mem)(bL:P.underlying t=some (.slice e))(a0:zeroOf P e=some z)(O:fG P e=some (D z))
  (R:Ea P e=some bytes) (F:idx aW=some n) (G:idx bY=some c) (gI:aY w (bn A B) B aW jn) (lp:aY w (bn A B) B bY gH) (aq:0<D z) (h:D6 k (bz mem k) z bytes n c=some (r,iL)) :
  ∃v ak ay,(Instr.makeSlice t jn gH).run P w=.ok v ak/\c9 A w B ak ay (gf mem iL)/\aY ak (bn A ay) ay r v:=by
 unfold D6 at h
 split at h
 ·rename_i U;obtain⟨rfl,Ej,uQ⟩:=U
  cases h;obtain⟨bm,rfl⟩:=Bn F gI;obtain⟨c3,rfl⟩:=Bn G lp;obtain⟨i,h4,Z,n6,b7⟩:=Bo (P:=P) (w:=w) (B:=B) (au:=bn A B) a0;have ae:(D z)=h4.cells.size:=by have:=b7.1;simp at this;omega
  have eb:=Yd Z O;have HP:=Ye Z R
  have eM:=run_make (P:=P) w t e i h4 bL Z n6 bm c3 (n:Int) (n:Int) (by omega) (by omega) (by
   have:((i.bytes*n:Nat):Int)<=281474976710656:=by rw[HP];omega
   rwa [Int.natCast_mul] at this) (by unfold maxLen at uQ;omega)
  simp only[Int.toNat_natCast] at eM
  have Yg:(madeCells h4.cells (n*i.size)).toList=(cf n h4.cells.toList).flatten:=by
   rw[eb,ae];exact Mz (by omega) n
  have Bp:(madeCells h4.cells (n*i.size)).size=n*D z:=by rw[size_madeCells,eb]
  have q8:=b7.replicate (n:=n)
  have hlen:(cf n z).flatten.length=n*D z:=by
   have:=q8.1;rw[<-this,<-Yg,Array.length_toList,Bp]
  refine⟨_,_,_,eM,HO bh w (Fr.refl _ _) rfl k _ e (by rw[Bp,hlen];exact c8 _) ?_,?_⟩
  ·rw[dE (by rw[Array.length_toList,Bp,hlen];exact c8 _),Yg];exact q8
  ·refine .ref (fy _ _ _) (c8 _) ⟨_,n,rfl,c8 _,uQ,.inr ⟨_,rfl,λ_=>⟨rfl,?_,rfl⟩⟩⟩;simp only[r1];rw[Bp];exact c8 _
 ·cases h
def Rt (bh:dP A w B mem){k:Key}{g:Nat}{cs new:List H}{e:ht}{b:Nat}{vs:Array Value}{T:TypeId}{vals:List Value}{off:Nat}(Q:mem k=some (g,cs))(he:B k=some e)(R:e.dj=some b)(hE:e.mp=false)
  (bk:w.heap[b]?=some (.cells vs T (0,0))) (eb:vs.size=e.size) (ae:(D cs)<=vs.size) (b7:cA w (bn A B) B cs (vs.toList.take (D cs))) (bB:e.g=g) (Ru:off+D new<=D cs) (xU:cA w (bn A B) B new vals) :
  c9 A w B (w.setRow b (vs.toList.take off++vals++vs.toList.drop (off+D vals)).toArray) B (aT mem k g (kv cs off new)):=by
 have Bq:(D vals)=D new:=xU.1
 have Rr:cA w (bn A B) B (kv cs off new) ((vs.toList.take off++vals++vs.toList.drop (off+D vals)).take (D cs)):=by
  have F:=b7.kv xU off
  have aO:(vs.toList.take (D cs)).take off++vals++(vs.toList.take (D cs)).drop (off+D vals)=(vs.toList.take off++vals++vs.toList.drop (off+D vals)).take (D cs):=by
   have oJ:(D vs.toList)=vs.size:=Array.length_toList;rw[List.take_take,n7 (by omega),Ya,X8,ks,gj,oJ,n7 (a:=off) (b:=vs.size) (by omega)];rw[dE (l:=vs.toList.take off++vals) (by rw[ks,gj,oJ];omega)]
  rwa [aO] at F
 have zL:(kv cs off new).length=D cs:=by unfold kv;simp;omega
 have heq:e3 B k e=B:=by
  funext j
  unfold e3
  split
  ·rename_i Y;rw[Y,he]
  ·rfl
 have f:Fr (λb=>∃e,B k=some e/\e.dj=some b) w (w.setRow b (vs.toList.take off++vals++vs.toList.drop (off+D vals)).toArray):=by
  refine⟨rfl,rfl,rfl,by simp,λj Y a4=>?_⟩
  exact setRow_other w b j _ (λEk=>a4 ⟨e,he,by rw[R,Ek]⟩)
 have:=c9.change (k:=k) (e':=e) (cs:=kv cs off new) bh f (λax ef => .inl (by rw[he] at ef;exact mm ef)) (λcz eE => .inr ⟨e,he,eE⟩) (λaA=>by rw[R] at aA;cases aA) (λcz eE=>by
  rw[R] at eE
  cases eE;refine⟨hE,_,T,setRow_heap w b vs _ T (0,0) bk,by simp;omega,by rw[zL];simp;omega,λi m hm=>?_⟩
  obtain⟨v,al,L⟩:=Rr.get hm;rw[xO] at al
  split at al
  ·exact⟨v,by simpa using al,L⟩
  ·cases al)
 rw[heq,bB] at this;exact this
def ajl {t:TypeId}{n:Nat}{aW bY:H}{jn gH:Value}{r:H}{iL:Option (Key×Nat×List H)}(bh:dP A w B mem)(O:fG P t=some n)(gI:aY w (bn A B) B aW jn)(lp:aY w (bn A B) B bY gH)
  (h:v9 mem n aW bY.cells=some (r,iL)):∃ak,(Instr.storeAt t jn gH).run P w=.ok () ak/\c9 A w B ak B (gf mem iL)/\r=.no:=by
 cases aW with
 |ptr k g off =>
  simp only[v9] at h;unfold Hz at h
  split at h
  ·rename_i cv cs Q
   split at h
   ·rename_i U;obtain⟨rfl,F,G,aa⟩:=U
    cases h;obtain⟨e,he,bB,aA,R⟩:=bh.at_ Q
    cases gI with
    |ptr eK xJ aP =>
     rw[he] at eK
     cases eK;obtain⟨b,rfl,fV⟩:=aP;obtain⟨fV,hE⟩:=fV bB.symm;obtain⟨vs,T,bk,eb,ae,b7⟩:=R b fV hE;have MA:bY ≠ .undef:=λe=>by rw[e] at aa;simp[H.cells,H.one] at aa
     have wi:=cA.Rk lp MA
     have ajm:∀v∈gH.cells.toList,v.oneCell'=true:=by
      intro v al;obtain⟨i,Z,jy⟩:=Yh al;have r6:i<D bY.cells:=by rw[<-wi.1];exact Z
      have:=wi.2 i _ _ (bc r6) (bc Z);rw[jy] at this;exact X0 this (kA.1 aa _ (ha r6))
     have awl:gH.cells.size=n:=by have:=wi.1;simp at this;omega
     have df:=run_storeCells_at P b off T gH.cells.toList 0 vs w bk (by simp;omega) ajm;simp only[lo] at df;refine⟨_,?_,Rt bh Q he fV hE bk eb ae b7 bB (by omega) wi,rfl⟩;have bo:¬ (gH.cells.size≠n):=by omega
     simp only[Instr.storeAt,Instr.sureAddr,storeVar,Sem.run_bind,Sem.run_pure,Result.andThen_ok,r2 O];rw[aR bo];exact df
   ·cases h
  ·cases h
 |_=>simp[v9] at h
end
section
variable {P:Program} {A:Nat->Prop} {w:World} {B:cS} {mem:Mem}
def MB (sz:Nat):∀(n:Nat) (l:List Data),(chunk sz n l).length=n
 |0,_=>rfl
 |n+1,l=>by simp[chunk,MB sz n]
def MC (sz:Nat):∀(n:Nat) (l:List Data),D l=n*sz->∀e∈chunk sz n l,D e=sz
 |0,_,_,e,he=>by simp[chunk] at he
 |n+1,l,ae,e,he=>by
  have hmul:(n+1)*sz=n*sz+sz:=by rw[pw,Hh]
  simp only[chunk,kt] at he;rcases he with rfl|he
  ·simp;omega
  ·exact MC sz n _ (by simp;omega) e he
def MD (sz:Nat):∀(n:Nat) (l:List Data),D l=n*sz->(chunk sz n l).flatten=l
 |0,l,ae=>by simp at ae;simp[chunk,ae]
 |n+1,l,ae=>by
  have hmul:(n+1)*sz=n*sz+sz:=by rw[pw,Hh]
  simp only[chunk,mg];rw[MD sz n _ (by simp;omega),List.take_append_drop]
def Rv {au:Nat->Prop}{m:H}{d:Data}{v:Value}(h:rV m=some d)(al:aY w au B m v):Den w au d v:=by
 unfold rV at h
 split at h<;>cases h
 ·cases al with
  |I h=>exact h
 ·cases al with
  |nil=>exact .kP
def ajn {ds:List Data}{vs:Array Value}{T:TypeId}{n sz:Nat}(bh:dP A w B mem)(ak:World)(hw:ak=w.alloc (.cells vs T))(ae:(D ds)=n*sz)(al:vs.size=n*sz)(hm:n<=maxLen)
  (ad:∀(i:Nat) (d:Data) (v:Value),ds[i]?=some d->vs[i]?=some v->Den w (bn A B) d v):Den ak (bn A B) (.ao (chunk sz n ds)) (.slice (some ⟨w.heap.size,0,none⟩) n n):=by
 have ok:c9 A w B ak B mem:=by rw[hw];exact .still bh ((Fr.refl _ _).alloc _)
 have ea:=MB sz n ds
 have h:=Den.ao (w:=ak) (au:=bn A B) (es:=chunk sz n ds) (b:=w.heap.size) (off:=0) (c:=n) (sz:=sz) (λi=>vs.getD i undef) (by rw[ea];exact c8 _) (by rw[ea];exact hm)
  (by rw[hw];simp) (λa4=>by
   rcases a4 with a4|a4
   ·have:=bh.rU a4;omega
   ·have:=bh.lt _ a4;omega) (MC sz n ds ae)
  (λi Z=>by
   rw[ea] at Z;rw[hw,r1];have:i<vs.size:=by omega
   simp[this])
  (λi d ng=>by
   rw[MD sz n ds ae] at ng;have an:i<D ds:=(dK.1 ng).1;have lT:i<vs.size:=by omega
   have:vs.getD i undef=vs[i]:=by simp[lT]
   simp only[this];exact (ad i d _ ng (Array.getElem?_eq_getElem lT)).trans ok.iH)
 rw[ea] at h;exact h
def Yi {t e:TypeId}{z r:List H}{sz len:Nat}{cT:List (Nat×Operand)}{fh:List (Nat×Nat×bu)}{ρ:Operand->Value}{tm:Nat->H}{au:Nat->Prop}(bL:P.underlying t=some (.slice e))(a0:zeroOf P e=some z)
  (O:fG P e=some sz) (xV:(D z)=sz) (aq:0<sz) (ae:len*sz<=16777216) (aP:partsOf (λi=>some (i*sz,sz)) cT=some fh) (hρ:∀x y,cN x=some y->aY w au B (aK tm y) (ρ x))
  (h:kd (aK tm) (cf len z).flatten fh=some r) :
  ∃vs:Array Value,(Instr.buildSlice t len (cT.map λp=>(p.1,ρ p.2)).toArray).run P w=.ok (.slice (some ⟨w.heap.size,0,none⟩) len len) (w.alloc (.cells vs e))/\cA w au B r vs.toList:=by
 obtain⟨i,h4,Z,n6,b7⟩:=Bo (P:=P) (w:=w) (B:=B) (au:=au) a0;have El:h4.cells.size=sz:=by have:=b7.1;simp at this;omega
 have wj:=Mz (z:=h4.cells) (by omega) len;rw[El] at wj;have q8:=b7.replicate (n:=len);rw[<-wj] at q8;obtain⟨nF,aj,L⟩:=My (place:=λi=>some (i*sz,sz)) hρ cT fh _ r _ aP q8 h;refine⟨nF,?_,L⟩;have aA:¬ (len*sz>2^24):=by omega
 by_cases qo:len*sz=0
 ·have fH:((Array.range (len*sz)).map (h4.cells[·%sz]!))=#[]:=by rw[qo];simp[Array.range_zero']
  have Rw:Instr.fill (λi=>some (i*sz,sz)) #[] (cT.map λp=>(p.1,ρ p.2))=some nF:=by rw[<-fH];exact aj
  simp only[Instr.buildSlice,Sem.run_bind,run_underlying bL,Result.andThen_ok,r2 O];rw[aR aA];simp only[qo,if_true,Sem.run_bind,Sem.run_pure,Result.andThen_ok];simp[Rw,newRow,Array.range_zero']
 ·simp only[Instr.buildSlice,Sem.run_bind,run_underlying bL,Result.andThen_ok,r2 O];rw[aR aA];simp only[qo,if_false,Sem.run_bind,Sem.run_pure,Result.andThen_ok,HN Z n6,El];simp[aj,newRow]
def ajo {t e:TypeId}{z:List H}{sz len:Nat}{cT:List (Nat×Operand)}{fh:List (Nat×Nat×bu)}{ρ:Operand->Value}{tm:Nat->H}{r:H}(bh:dP A w B mem)(bL:P.underlying t=some (.slice e))(a0:zeroOf P e=some z)
  (O:fG P e=some sz) (xV:(D z)=sz) (aq:0<sz) (ae:len*sz<=16777216) (aP:partsOf (λi=>some (i*sz,sz)) cT=some fh) (hρ:∀x y,cN x=some y->aY w (bn A B) B (aK tm y) (ρ x))
  (h:Hl (cf len z).flatten sz len (kd (aK tm) (cf len z).flatten fh)=some r) :
  ∃v ak,(Instr.buildSlice t len (cT.map λp=>(p.1,ρ p.2)).toArray).run P w=.ok v ak/\c9 A w B ak B mem/\aY ak (bn A B) B r v:=by
 unfold Hl at h
 split at h
 ·rename_i hlen
  cases aj:kd (aK tm) (cf len z).flatten fh with
  |none=>rw[aj] at h;cases h
  |some cs =>
   rw[aj] at h;simp only[c2] at h;obtain⟨ds,fD,rfl⟩:=h;obtain⟨vs,eM,b7⟩:=Yi (P:=P) (B:=B) bL a0 O xV aq ae aP hρ aj;obtain⟨F,G⟩:=mapM_get fD
   have ea:(D cs)=len*sz:=by
    have:∀(fh:List (Nat×Nat×bu)) (a r:List H),kd (aK tm) a fh=some r->(D r)=D a:=by
     intro fh
     induction fh with
     |nil=>intro a r h;simp[kd] at h;rw[h]
     |cons q fh a2 =>
      intro a r h;obtain⟨o,s,x⟩:=q;simp only[kd] at h
      split at h
      ·rename_i U;rw[a2 _ _ h];unfold kv;simp;omega
      ·cases h
    rw[this _ _ _ aj,hlen]
   have aI:vs.size=len*sz:=by have:=b7.1;simp at this;omega
   refine⟨_,_,eM,.still bh ((Fr.refl _ _).alloc _),.I (ajn bh _ rfl (by omega) aI ?_ λi d v ad al=>?_)⟩
   ·have:len<=len*sz:=Yj _ aq;unfold maxLen;omega
   ·have an:i<D cs:=by have:=(dK.1 ad).1;omega
    have dg:=bc an;exact Rv (G i _ d dg ad) (b7.2 i _ v dg (by simpa using al))
 ·cases h
def ajp {t e:TypeId}{z:List H}{sz len:Nat}{cT:List (Nat×Operand)}{fh:List (Nat×Nat×bu)}{ρ:Operand->Value}{tm:Nat->H}{r:H}{iL:Option (Key×Nat×List H)}(k:Key)(bh:dP A w B mem)(bL:P.underlying t=some (.slice e))(a0:zeroOf P e=some z)
  (O:fG P e=some sz) (xV:(D z)=sz) (aq:0<sz) (ae:len*sz<=16777216) (aP:partsOf (λi=>some (i*sz,sz)) cT=some fh) (hρ:∀x y,cN x=some y->aY w (bn A B) B (aK tm y) (ρ x))
  (h:D5 k (bz mem k) (cf len z).flatten sz len (kd (aK tm) (cf len z).flatten fh)=some (r,iL)) :
  ∃v ak ay,(Instr.buildSlice t len (cT.map λp=>(p.1,ρ p.2)).toArray).run P w=.ok v ak/\c9 A w B ak ay (gf mem iL)/\aY ak (bn A ay) ay r v:=by
 unfold D5 at h
 split at h
 ·rename_i hlen
  cases aj:kd (aK tm) (cf len z).flatten fh with
  |none=>rw[aj] at h;cases h
  |some cs =>
   rw[aj] at h
   cases h;obtain⟨vs,eM,b7⟩:=Yi (P:=P) (B:=B) bL a0 O xV aq ae aP hρ aj
   have ea:(D cs)=len*sz:=by
    have:∀(fh:List (Nat×Nat×bu)) (a r:List H),kd (aK tm) a fh=some r->(D r)=D a:=by
     intro fh
     induction fh with
     |nil=>intro a r h;simp[kd] at h;rw[h]
     |cons q fh a2 =>
      intro a r h;obtain⟨o,s,x⟩:=q;simp only[kd] at h
      split at h
      ·rename_i U;rw[a2 _ _ h];unfold kv;simp;omega
      ·cases h
    rw[this _ _ _ aj,hlen]
   have aI:vs.size=D cs:=by have:=b7.1;simp at this;omega
   refine⟨_,_,_,eM,HO bh w (Fr.refl _ _) rfl k vs e (by omega) (by rw[dE (by simp;omega)];exact b7),?_⟩
   have gY:len<=maxLen:=by
    have:len<=len*sz:=Yj _ aq;unfold maxLen;omega
   exact .ref (fy _ _ _) (c8 _) ⟨_,len,rfl,c8 _,gY,.inr ⟨_,rfl,λ_=>⟨rfl,by simp only[r1];omega,rfl⟩⟩⟩
 ·cases h
def Yk {m:H}{sz n:Nat}{new:List H}{v:Value}(bh:dP A w B mem)(al:aY w (bn A B) B m v)(h:px mem sz m=some (n,new)):
  ∃a c vals,v=.slice a n c/\cA w (bn A B) B new vals/\D vals=n*sz/\(0<n->∃b off,a=some ⟨b,off,none⟩/\mQ w b off vals):=by
 unfold px at h
 split at h
 ·split at h
  ·rename_i es kT
   cases h;have kT:=Rp kT
   cases al with
   |I ad =>
    cases ad with
    |kP=>exact⟨_,_,[],rfl,by simpa using cA.nil,by simp,λh=>by simp at h⟩
    | @ao es b off c eg val ae hm R e8 eb U zK =>
     have jQ:=L6 kT;rcases ln (D es) with aq|aq
     ·have:es=[]:=q9 aq;subst this;exact⟨_,_,[],rfl,by simpa using cA.nil,by simp,λh=>by simp at h⟩
     ·have HK:eg=sz:=by
       have oK:=ha (l:=es) (n:=0) aq;rw[<-eb _ oK,kT _ oK]
      subst HK;refine⟨_,_,(qj (D es*eg)).map val,rfl,?_,by simp,λ_=>⟨b,off,rfl,λj u Y=>?_⟩⟩
      ·refine cA.I (by simp[jQ]) λi d u F G=>?_;have Z:i<D es*eg:=by have:=(dK.1 F).1;omega
       rw[bd,r3 Z] at G;simp only[kU,bM] at G;subst G;exact zK i d F
      ·have Z:j<D es*eg:=by have:=(dK.1 Y).1;simpa using this
       rw[bd,r3 Z] at Y;simp only[kU,bM] at Y;subst Y;exact U j Z
  ·cases h
 ·cases h
  cases al with
  |nil=>exact⟨_,_,[],rfl,cA.nil,by simp,λh=>by simp at h⟩
 ·rename_i k g eg off len
  split at h
  ·rename_i eb;subst eb
   split at h
   ·rename_i cv cs Q
    split at h
    ·rename_i aL;subst aL;simp only[c2,eL] at h;obtain⟨part,ra,rfl,rfl⟩:=h;obtain⟨ae,rfl,aA⟩:=Ed ra
     cases al with
     |ref he aL L =>
      obtain⟨e,eK,bB,Mu,R⟩:=bh.at_ Q;rw[he] at eK
      cases eK;obtain⟨a,cap,rfl,F,G,aa⟩:=L;rcases aa with aa|⟨b,rfl,aX⟩
      ·have:len=0:=by omega
       subst this;exact⟨_,_,[],rfl,by simpa using cA.nil,by simp,λh=>by omega⟩
      ·obtain⟨bt,bx,hE⟩:=aX bB.symm;obtain⟨vs,T,bk,a0,hle,b7⟩:=R b bt hE;refine⟨_,_,((vs.toList.take (D cs)).drop off).take (len*eg),rfl,(b7.drop off).take _,by have:=((b7.drop off).take (len*eg)).1;omega,λ_=>⟨b,off,rfl,?_⟩⟩
       have:=(((mQ.row bk).take (D cs)).add off).take (len*eg)
       simpa using this
    ·cases h
   ·cases h
  ·cases h
 ·cases h
def ME {sz n c:Nat}{a:Option Addr}{vals:List Value}(ae:(D vals)=n*sz)(g9:0<n->∃b off,a=some ⟨b,off,none⟩/\mQ w b off vals)(ak:World)(hw:ak.heap=w.heap):
  (Builtin.firstCells sz n (.slice a n c)).run P ak = .ok vals.toArray ak:=by
 have U:∀p,ak.cell? p=w.cell? p:=λp=>by simp[World.cell?,hw]
 rcases ln n with aq|aq
 ·subst aq;have:vals=[]:=q9 (by simpa using ae);subst this
  cases a with
  |none=>simp[Builtin.firstCells]
  |some a=>simp[Builtin.firstCells,loadCells,loadCellsFrom]
 ·obtain⟨b,off,rfl,ajq⟩:=g9 aq;exact run_firstCells_some ak sz n _ n c vals ae λj v Y=>by rw[xP,U];exact ajq j v Y
def cA.Rx {au:Nat->Prop}{cs:List H}{vs:List Value}(h:cA w au B cs vs)(F:cs.all H.one=true):∀v∈vs,v.oneCell'=true:=by
 intro v al;obtain⟨i,Z,jy⟩:=Yh al;have r6:i<D cs:=by rw[<-h.1];exact Z
 have:=h.2 i _ _ (bc r6) (bc Z);rw[jy] at this;exact X0 this (kA.1 F _ (ha r6))
def Ry {t ty e:TypeId}{sz n8 uR n c:Nat}{base a:Option Addr}{vals:List Value}(bL:P.underlying t=some (.slice e))(O:fG P e=some sz)(wk:n8+n<=uR)
  (aj:(Builtin.firstCells sz n (.slice a n c)).run P w=.ok vals.toArray w) (ak:World)
  (df:∀b,base=some b->(storeCells (b.add (n8*sz)) vals).run P w=.ok () ak) (aA:base=none->ak=w) :
  (Builtin.append_ #[t,t] ty #[.slice base n8 uR,.slice a n c]).run P w=.ok (.slice base (n8+n) uR) ak:=by
 simp only[fG,c2] at O;obtain⟨i,Z,rfl⟩:=O
 cases base with
 |none=>simp[Builtin.append_,run_underlying bL,sizeOf,typeInfo,Z,Builtin.lenOf,wk,aj,aA rfl]
 |some b=>simp[Builtin.append_,run_underlying bL,sizeOf,typeInfo,Z,Builtin.lenOf,wk,aj,df b rfl]
def ajr {t ty e:TypeId}{sz n8 uR n c bytes:Nat}{base a:Option Addr}{oL vals:List Value}{i:TypeInfo}{z:Value}(bL:P.underlying t=some (.slice e))(Z:P.info? e=some i)(a0:i.zero=some z)(eb:i.size=sz)(HP:i.bytes=bytes)
  (wk:uR<n8+n) (xQ:∀ak,ak.heap=w.heap->(Builtin.firstCells sz n8 (.slice base n8 uR)).run P ak = .ok oL.toArray ak) (aj:∀ak,ak.heap=w.heap->(Builtin.firstCells sz n (.slice a n c)).run P ak = .ok vals.toArray ak)
  (ajs:n8+n<=maxLen) (R:(n8+n)*bytes<=140737488355328) :
  (Builtin.append_ #[t,t] ty #[.slice base n8 uR,.slice a n c]).run P w =
   .ok (.slice (some ⟨w.heap.size,0,none⟩) (n8+n) (grownCap w (n8+n) uR e))
    (w.drew.alloc (.cells (oL.toArray++vals.toArray++Builtin.zeroCells z.cells (grownCap w (n8+n) uR e-(n8+n))) e)):=by
 subst eb;subst HP
 have aA:¬ (n8+n<=uR):=by omega
 have ajt:¬ (9223372036854775807<((n8:Int)+(n:Int))):=by unfold maxLen at ajs;omega
 have HL:=growslice_fits wk R;have aju:¬ (281474976710656<Builtin.nextslicecap (n8+n) uR*i.bytes):=by omega
 have F:=xQ w.drew rfl;have G:=aj w.drew rfl;simp[Builtin.append_,run_underlying bL,sizeOf,typeInfo,zeroValue,Z,a0,Builtin.lenOf,aA,ajt,aju,Question.forced,F,G,newRow,grownCap,<-List.append_toArray,Array.append_assoc]
def ajv {t ty e:TypeId}{z:List H}{bytes n:Nat}{aW bY:H}{jn gH:Value}{new:List H}{r:H}{iL:Option (Key×Nat×List H)}(k:Key)(bh:dP A w B mem)(bL:P.underlying t=some (.slice e))(a0:zeroOf P e=some z)(O:fG P e=some (D z))
  (HP:Ea P e=some bytes) (aq:0<D z) (gI:aY w (bn A B) B aW jn) (lp:aY w (bn A B) B bY gH) (nG:px mem (D z) bY=some (n,new)) (h:qd mem k z bytes aW (some (n,new))=some (r,iL)) :
  ∃v ak ay,(Builtin.append_ #[t,t] ty #[jn,gH]).run P w=.ok v ak/\c9 A w B ak ay (gf mem iL)/\aY ak (bn A ay) ay r v:=by
 obtain⟨dV,dB,vals,rfl,b7,oJ,g9⟩:=Yk bh lp nG;obtain⟨i,h4,Z,n6,ajw⟩:=Bo (P:=P) (w:=w) (B:=B) (au:=bn A B) a0;have eb:=Yd Z O;have fV:=Ye Z HP;have El:h4.cells.size=D z:=by have:=ajw.1;simp at this;omega
 have mn:(D new)=n*D z:=by rw[<-b7.1,oJ]
 have aj:=λak hw=>ME (P:=P) (w:=w) (c:=dB) oJ g9 ak hw
 -- a new block
 have grow:∀(base:Option Addr) (len cap:Nat) (g:Nat) (k':Key) (cs:List H) (oL:List Value),cap<len+n->(∀ak,ak.heap=w.heap->(Builtin.firstCells (D z) len (.slice base len cap)).run P ak = .ok oL.toArray ak) ->
   cA w (bn A B) B cs oL->(D cs)=len*(D z)->len+n<=maxLen->(len+n)*bytes<=140737488355328->g=bz mem k' ->
   ∃v ak ay,(Builtin.append_ #[t,t] ty #[.slice base len cap,.slice dV n dB]).run P w=.ok v ak/\c9 A w B ak ay (aT mem k' g (cs++new))/\aY ak (bn A ay) ay (.ref k' g (D z) 0 (len+n)) v:=by
  intro base len cap g k' cs oL wk xQ iJ ea uQ Ej aL;subst aL;have eM:=ajr (P:=P) (ty:=ty) bL Z n6 eb fV wk xQ aj uQ Ej;have bB:=grownCap_ge w (len+n) cap e;have hle:=grownCap_le_maxLen w (len+n) cap e uQ
  have Bp:(oL.toArray++vals.toArray++Builtin.zeroCells h4.cells (grownCap w (len+n) cap e-(len+n))).size=grownCap w (len+n) cap e*D z:=by
   have Rz:=iJ.1;simp only[Array.size_append,List.size_toArray,size_zeroCells,El,Rz,ea,oJ];rw[<-pw,<-pw]
   congr 1
   omega
  have cX:=iJ.append b7;have hmul:(len+n)*D z<=grownCap w (len+n) cap e*D z:=q7 _ bB;have Br:(cs++new).length=(len+n)*D z:=by rw[ks,ea,mn,pw]
  refine⟨_,_,_,eM,HO (cs:=cs++new) bh w.drew ((Fr.refl _ _).drew _) rfl k' _ e (by rw[Bp,Br];exact hmul) ?_,?_⟩
  ·have:(oL.toArray++vals.toArray++Builtin.zeroCells h4.cells (grownCap w (len+n) cap e-(len+n))).toList.take (cs++new).length=oL++vals:=by
    simp only[Array.toList_append,List.toList_toArray];rw[List.take_append_of_le_length (by rw[cX.1];exact c8 _),dE (by rw[cX.1];exact c8 _)]
   rw[this];exact cX
  ·refine .ref (fy _ _ _) (c8 _) ⟨_,_,rfl,bB,hle,.inr ⟨_,rfl,λ_=>⟨rfl,?_,rfl⟩⟩⟩;simp only[r1];rw[Bp];exact c8 _
 cases aW with
 |nil =>
  simp only[qd] at h
  split at h
  ·rename_i U;obtain⟨Ej,uQ,Bs⟩:=U
   cases h
   cases gI with
   | @nil dw =>
    rcases ln n with qp|qp
    ·subst qp;have Em:vals=[]:=q9 (by simpa using oJ);have RA:new=[]:=q9 (by simpa using mn);subst Em;subst RA
     refine⟨_,_,_,Ry (P:=P) (ty:=ty) bL O (c8 _) (aj w rfl) w (λb _=>by simp[storeCells]) (λ_=>rfl),c9.wg bh k,?_⟩;exact .ref (fy _ _ _) (c8 _) ⟨_,0,rfl,c8 _,dF _,.inl rfl⟩
    ·have:=grow dw 0 0 (bz mem k) k [] [] (by omega) (λak hw=>by
      have:=ME (P:=P) (w:=w) (sz:=D z) (n:=0) (c:=0) (a:=dw) (vals:=[]) (by simp) (λh=>by omega) ak hw;exact this) cA.nil (by simp) (by omega) (by simpa using Ej) rfl
     simpa [gf] using this
  ·cases h
 |ref k' g eg off len =>
  simp only[qd] at h
  split at h
  ·rename_i U;obtain⟨rfl,rfl⟩:=U;unfold lf at h
   split at h
   ·rename_i cv cs Q
    split at h
    ·rename_i U;obtain⟨rfl,hlen,Ej,uQ,Bs⟩:=U
     cases h;obtain⟨r7,oM,bB,Mu,R⟩:=bh.at_ Q;have En:cv+1=bz mem k':=by simp[bz,Q]
     cases gI with
     |ref he aL L =>
      rw[oM] at he
      cases he;obtain⟨dw,cap,rfl,F,G,aa⟩:=L
      have hold:∃oL,cA w (bn A B) B (cs.take (len*D z)) oL/\D oL=len*D z/\(0<len->∃b off,dw=some ⟨b,off,none⟩/\mQ w b off oL):=by
       rcases aa with aa|⟨b,rfl,aX⟩
       ·have:len=0:=by omega
        subst this;exact⟨[],by simpa using cA.nil,by simp,λh=>by omega⟩
       ·obtain⟨bt,bx,hE⟩:=aX bB.symm;obtain⟨vs,T,bk,HQ,hle,uS⟩:=R b bt hE;refine⟨(vs.toList.take (D cs)).take (len*D z),uS.take _,by have:=(uS.take (len*D z)).1;rw[this];simp;omega,λ_=>⟨b,0,rfl,((mQ.row bk).take _).take _⟩⟩
      obtain⟨oL,MF,RB,Yl⟩:=hold
      by_cases wk:len+n<=cap
      ·rcases aa with aa|⟨b,rfl,aX⟩
       ·-- no room, and nothing comes
        have r8:len=0:=by omega
        have qp:n=0:=by omega
        subst r8;subst qp;subst aa
        have Em:vals=[]:=q9 (by simpa using oJ);have RA:new=[]:=q9 (by simpa using mn);subst Em;subst RA
        refine⟨_,_,e3 B k' ⟨bz mem k',none,0,false⟩,Ry (P:=P) (ty:=ty) bL O (c8 _) (aj w rfl) w (λb _=>by simp[storeCells]) (λ_=>rfl),?_,?_⟩
        ·have:=c9.wg bh k'
         simpa [gf,En] using this
        ·rw[En];exact .ref (fy _ _ _) (c8 _) ⟨_,0,rfl,c8 _,dF _,.inl rfl⟩
       ·obtain⟨bt,bx,hE⟩:=aX bB.symm;obtain⟨vs,T,bk,HQ,hle,uS⟩:=R b bt hE;have hmul:(len+n)*D z<=cap*D z:=q7 _ wk;have MG:(len+n)*D z=len*D z+n*D z:=pw _ _ _;have df:=run_storeCells_at P b (len*D z) T vals 0 vs w bk (by omega) (b7.Rx Bs);simp only[lo] at df
        have Rz:oL=vs.toList.take (len*D z):=by
         apply qm;intro j;rcases gX j (len*D z) with Y|Y
         ·have h3:0<len:=by
           rcases ln len with h|h
           ·subst h;simp at Y
           ·exact h
          obtain⟨eF,awm,Ym,ajx⟩:=Yl h3;simp only[bM,Addr.mk.injEq,and_true] at Ym;obtain⟨rfl,rfl⟩:=Ym;have wm:j<D oL:=by omega
          have n5:=ajx j _ (bc wm);rw[r1,cell_of_row w b j vs T (0,0) bk] at n5;rw[bc wm,xO,aJ Y,<-n5,Array.getElem?_toList]
         ·rw[lk (by omega),xO,aR (by omega)]
        have Yn:(vs.toList.take (len*D z)++vals++vs.toList.drop (len*D z+D vals)).toArray.size=r7.size:=by
         simp;omega
        have f:Fr (λb=>∃e,B k'=some e/\e.dj=some b) w (w.setRow b (vs.toList.take (len*D z)++vals++vs.toList.drop (len*D z+D vals)).toArray):=by
         refine⟨rfl,rfl,rfl,by simp,λj Y a4=>?_⟩
         exact setRow_other w b j _ (λEk=>a4 ⟨r7,oM,by rw[bt,Ek]⟩)
        have Br:(cs.take (len*D z)++new).length=len*D z+D vals:=by
         rw[ks,mn,oJ,gj,n7 hlen]
        have ok:=c9.change (k:=k') (e':=⟨cv+1,some b,r7.size,false⟩) (cs:=cs.take (len*D z)++new) bh f
         (λax ef => .inr (by rw[oM] at ef;cases ef;simp only;omega)) (λcz eE => .inr ⟨r7,oM,by rw[bt];exact eE⟩) (λaA=>by cases aA) (λcz eE=>by
          cases eE;refine⟨rfl,_,T,setRow_heap w b vs _ T (0,0) bk,Yn,by rw[Yn,Br,oJ];omega,λi m hm=>?_⟩
          have cX:=MF.append b7;obtain⟨v,al,L⟩:=cX.get hm;refine⟨v,?_,L⟩;rw[Rz] at al;have an:i<(vs.toList.take (len*D z)++vals).length:=(dK.1 al).1;simp only[Yo];rw[uP an];exact al)
        refine⟨_,_,_,Ry (P:=P) (ty:=ty) (a:=dV) (c:=dB) (vals:=vals) bL O wk (aj w rfl) _ (λeF hD=>by
         cases hD;rw[xP,r1];exact df) (λh=>by cases h),ok,?_⟩
        exact .ref (fy _ _ _) (c8 _) ⟨_,cap,rfl,wk,G,.inr ⟨b,rfl,λ_=>⟨rfl,bx,rfl⟩⟩⟩
      ·have:=grow dw len cap (cv+1) k' (cs.take (len*D z)) oL (by omega) (λak hw=>ME (P:=P) (w:=w) RB Yl ak hw) MF (by rw[gj,n7 hlen]) uQ Ej En;exact this
    ·cases h
   ·cases h
  ·cases h
 |_=>simp[qd] at h
def ajy {t u ty e:TypeId}{sz n:Nat}{aW bY:H}{jn gH:Value}{new:List H}{r:H}{iL:Option (Key×Nat×List H)}(bh:dP A w B mem)(bL:P.underlying t=some (.slice e))(O:fG P e=some sz)
  (gI:aY w (bn A B) B aW jn) (lp:aY w (bn A B) B bY gH) (nG:px mem sz bY=some (n,new)) (h:uI mem sz aW (some (n,new))=some (r,iL)) :
  ∃v ak,(Builtin.copy_ #[t,u] ty #[jn,gH]).run P w=.ok v ak/\c9 A w B ak B (gf mem iL)/\aY ak (bn A B) B r v:=by
 obtain⟨dV,dB,vals,rfl,b7,oJ,g9⟩:=Yk bh lp nG;have mn:(D new)=n*sz:=by rw[<-b7.1,oJ]
 cases aW with
 |ref k g eg off len =>
  simp only[uI] at h
  split at h
  ·rename_i eb;subst eb;unfold zD at h
   split at h
   ·rename_i cv cs Q
    split at h
    ·rename_i U;obtain⟨rfl,HL,Bs⟩:=U
     cases h;obtain⟨r7,oM,bB,Mu,R⟩:=bh.at_ Q;have MH:Nat.min n len=min n len:=rfl;have hle:min n len<=n:=Nat.min_le_left _ _;have ajz:min n len<=len:=Nat.min_le_right _ _;have xS:min n len*eg<=n*eg:=q7 _ hle;have awn:min n len*eg<=len*eg:=q7 _ ajz;have nE:(vals.take (min n len*eg)).length=min n len*eg:=by rw[gj,oJ,n7 xS]
     have zM:∀(a:Option Addr) (c:Nat),(0<n->∃b off,a=some ⟨b,off,none⟩/\mQ w b off vals)->(Builtin.firstCells eg (min n len) (.slice a n c)).run P w=.ok (vals.take (min n len*eg)).toArray w:=by
      intro a c g9
      have:=ME (P:=P) (w:=w) (sz:=eg) (n:=min n len) (c:=c) (a:=a) (vals:=vals.take (min n len*eg)) nE (λh=>by
       obtain⟨b,off,F,G⟩:=g9 (by omega);exact⟨b,off,F,G.take _⟩) w rfl
      cases a with
      |none=>simpa [Builtin.firstCells] using this
      |some a=>simpa [Builtin.firstCells] using this
     cases gI with
     |ref he aL L =>
      rw[oM] at he
      cases he;obtain⟨dw,cap,rfl,F,G,aa⟩:=L;simp only[fG,c2] at O;obtain⟨i,Z,RC⟩:=O;rcases aa with aa|⟨b,rfl,aX⟩
      ·have r8:len=0:=by omega
       subst r8;have oK:min n 0=0:=Nat.min_zero _;have r9:kv cs off (new.take (min n 0*eg))=cs:=by simp[kv]
       have df:∀a:Addr,(storeCells a ([]:List Value)).run P w=.ok () w:=λa=>by simp[storeCells]
       have qq:=zM dV dB g9;simp only[oK,Nat.zero_mul,List.take_zero] at qq
       have n9:e3 B k r7=B:=by
        funext j;unfold e3;split
        ·rename_i Y;rw[Y,oM]
        ·rfl
       refine⟨.int .i64 0,w,?_,?_,by simpa using aY.ofInt⟩
       ·cases dw with
        |none=>simp[Builtin.copy_,run_underlying bL,Builtin.lenOf,sizeOf,typeInfo,Z,RC,qq,goInt]
        |some a=>simp[Builtin.copy_,run_underlying bL,Builtin.lenOf,sizeOf,typeInfo,Z,RC,qq,df,goInt]
       ·have gJ:aT mem k cv cs=mem:=by
         funext j;unfold aT;split
         ·rename_i Y;rw[Y,Q]
         ·rfl
        simp only[gf,r9,gJ];exact .refl bh
      ·obtain⟨bt,bx,hE⟩:=aX bB.symm;obtain⟨vs,T,bk,HQ,Bt,uS⟩:=R b bt hE;have df:=run_storeCells_at P b off T (vals.take (min n len*eg)) 0 vs w bk (by omega) (λv al=>b7.Rx Bs v (Eh al));simp only[lo] at df;refine⟨.int .i64 ((min n len:Nat):Int),_,?_,Rt bh Q oM bt hE bk HQ Bt uS bB (by rw[gj,mn,n7 xS];omega) (b7.take (min n len*eg)),.ofInt⟩;have qq:=zM dV dB g9;simp[Builtin.copy_,run_underlying bL,Builtin.lenOf,sizeOf,typeInfo,Z,RC,MH,qq,df,goInt]
    ·cases h
   ·cases h
  ·cases h
 |_=>simp[uI] at h
def ajA {z:Array Value}(aq:0<z.size)(n:Nat):(Builtin.zeroCells z n).toList=(cf n z.toList).flatten:=by
 unfold Builtin.zeroCells;exact Mz aq n
def ajB {t ty e:TypeId}{z:List H}{aW:H}{jn:Value}{r:H}{iL:Option (Key×Nat×List H)}(bh:dP A w B mem)(bL:P.underlying t=some (.slice e))(a0:zeroOf P e=some z)(aq:0<D z)
  (gI:aY w (bn A B) B aW jn) (h:wa mem z aW=some (r,iL)) :
  ∃v ak,(Builtin.clear_ #[t] ty #[jn]).run P w=.ok v ak/\c9 A w B ak B (gf mem iL)/\aY ak (bn A B) B r v:=by
 have Yp:∀ak:World,aY ak (bn A B) B (.dp []) (.tuple #[]):=λak=>aY.dp (cs:=[]) (vs:=[]) rfl λi d v ad=>by simp at ad
 cases aW with
 |ref k g sz off len =>
  simp only[wa] at h
  split at h
  ·rename_i eb;subst eb;unfold Mj at h
   split at h
   ·rename_i cv cs Q
    split at h
    ·rename_i U;obtain⟨rfl,HL,Bs⟩:=U
     cases h;obtain⟨i,h4,Z,n6,b7⟩:=Bo (P:=P) (w:=w) (B:=B) (au:=bn A B) a0;have El:h4.cells.size=D z:=by have:=b7.1;simp at this;omega
     obtain⟨r7,oM,bB,Mu,R⟩:=bh.at_ Q
     cases gI with
     |ref he aL L =>
      rw[oM] at he
      cases he;obtain⟨dw,cap,rfl,F,G,aa⟩:=L;rcases ln len with r8|r8
      ·subst r8;have r9:kv cs off (cf 0 z).flatten=cs:=by simp[kv]
       have gJ:aT mem k cv cs=mem:=by
        funext j;unfold aT;split
        ·rename_i Y;rw[Y,Q]
        ·rfl
       refine⟨.tuple #[],w,?_,?_,Yp _⟩
       ·cases dw<;>simp[Builtin.clear_,run_underlying bL]
       ·simp only[gf,r9,gJ];exact .refl bh
      ·rcases aa with aa|⟨b,rfl,aX⟩
       ·omega
       ·obtain⟨bt,bx,hE⟩:=aX bB.symm;obtain⟨vs,T,bk,HQ,Bt,uS⟩:=R b bt hE;have q8:=b7.replicate len;have xV:=ajA (z:=h4.cells) (by omega) len;have mn:(cf len z).flatten.length=len*D z:=by simp
        have oJ:(cf len h4.cells.toList).flatten.length=len*D z:=by simp[El]
        have ajC:(cf len z).flatten.all H.one=true:=by
         rw[kA] at Bs ⊢;intro x J;obtain⟨y,ai,hk⟩:=List.mem_flatten.1 J;exact Bs x (by rw[<-(List.mem_replicate.1 ai).2];exact hk)
        have df:=run_storeCells_at P b off T (cf len h4.cells.toList).flatten 0 vs w bk (by omega) (q8.Rx ajC);simp only[lo] at df;refine⟨.tuple #[],_,?_,Rt bh Q oM bt hE bk HQ Bt uS bB (by omega) q8,Yp _⟩;obtain⟨ajb,rfl⟩:∃l,len=l+1:=⟨len-1,by omega⟩
        simp[Builtin.clear_,run_underlying bL,HN Z n6,xV,df]
    ·cases h
   ·cases h
  ·cases h
 |_=>simp[wa] at h
end
end Go.Mini
namespace Go.Mini
open Go
variable {P:Program} {A:Nat->Prop} {w:World} {B:cS} {mem:Mem}
def ajD {t e:TypeId}{sz l h len:Nat}{m r:H}{v:Value}{ky kz:Option Value}{b6 Z:Option H}(bh:dP A w B mem)(bL:P.underlying t=some (.array len e))(O:fG P e=some sz)(awo:len<=16777216)
  (ga:jx 0 b6=some l) (kS:jx len Z=some h) (mj:ql w (bn A B) B b6 ky) (ll:ql w (bn A B) B Z kz) (hm:aY w (bn A B) B m v) (L:zC mem len sz l h m=some r) :
  ∃z,(Instr.sliceAt t v ky kz none).run P w=.ok z w/\aY w (bn A B) B r z:=by
 unfold zC at L
 split at L
 ·rename_i k g off;unfold Rc at L
  split at L
  ·rename_i cv cs Q
   split at L
   ·rename_i U;obtain⟨rfl,F,G,aa⟩:=U
    cases L
    cases hm with
    |ptr he aL al =>
     obtain⟨b,rfl,R⟩:=al;obtain⟨e',eK,bB,aA,jP⟩:=bh.at_ Q;rw[eK] at he
     cases he;obtain⟨fV,hE⟩:=R bB.symm;obtain⟨vs,T,bk,a0,hle,_⟩:=jP b fV hE;refine⟨.slice (some (if len=l then ⟨b,off,none⟩ else ⟨b,off+l*sz,none⟩)) (h-l) (len-l),?_,.ref eK aL ⟨_,len-l,rfl,by omega,by unfold maxLen;omega,?_⟩⟩
     ·simp[Instr.sliceAt,run_underlying bL,Instr.sureAddr,Rn (P:=P) (w:=w) false ga kS mj ll F G,r2 O]
      split<;>simp[xP]
     ·rcases Mx (iG F G) with ae|ae
      ·exact .inl (by omega)
      ·refine .inr ⟨b,by rw[aR (by omega)],λ_=>⟨fV,?_,hE⟩⟩
       have:off+l*sz+(len-l)*sz=off+len*sz:=by
        rw[r0,<-pw]
        congr 2
        omega
       omega
   ·cases L
  ·cases L
 ·cases L
def ajE {dA:List Field}(h:(dA.all λf=>(fG P f.type).isSome)=true):∃cT:List (Nat×Nat),(dA.mapM λf=>(do pure (f.offset,<-sizeOf f.type):Sem (Nat×Nat))).run P w=.ok cT w /\
  ∀i:Nat,cT[i]?=ts P dA.toArray i:=by
 induction dA with
 |nil=>exact⟨[],by simp,λi=>by simp[ts]⟩
 |cons f r a2 =>
  simp only[List.all_cons,fe] at h;obtain⟨cT,F,G⟩:=a2 h.2;obtain⟨s,O⟩:=Yq.1 h.1;refine⟨(f.offset,s)::cT,?_,λi=>?_⟩
  ·simp only[nf,Sem.run_bind,r2 O,Result.andThen_ok,Sem.run_pure];rw[F]
   rfl
  ·cases i with
   |zero=>simp[ts,O]
   |succ i =>
    have:=G i;simp only[ts,Yo,List.getElem?_cons_succ] at this ⊢;exact this
def ajF {p q:Nat->Option (Nat×Nat)}(h:∀i,p i=q i)(cs:Array Value)(l:List (Nat×Value)):Instr.fill p cs l=Instr.fill q cs l:=by
 rw[show p=q from funext h]
def ajG {t:TypeId}{dA:Array Field}{z r:List H}{cT:List (Nat×Operand)}{fh:List (Nat×Nat×bu)}{ρ:Operand->Value}{tm:Nat->H}{au:Nat->Prop}(bL:P.underlying t=some (.struct dA))(a0:zeroOf P t=some z)
  (ba:(dA.toList.all λf=>(fG P f.type).isSome)=true) (aP:partsOf (ts P dA) cT=some fh) (hρ:∀x y,cN x=some y->aY w au B (aK tm y) (ρ x))
  (h:kd (aK tm) z fh=some r):∃v,(Instr.build t (cT.map λp=>(p.1,ρ p.2)).toArray).run P w=.ok v w/\aY w au B (.agg r) v:=by
 obtain⟨i,h4,Z,n6,b7⟩:=Bo (P:=P) (w:=w) (B:=B) (au:=au) a0;obtain⟨pl,F,G⟩:=ajE (w:=w) ba;obtain⟨nF,aj,L⟩:=My (place:=ts P dA) hρ cT fh _ r _ aP b7 h;refine⟨.agg nF,?_,by rw[show nF=nF.toList.toArray from by simp];exact .agg L.1 L.2⟩
 ·have uT:∀i,pl.toArray[i]?=ts P dA i:=λi=>by simpa using G i
  have hm:(dA.mapM λf=>(do pure (f.offset,<-sizeOf f.type):Sem (Nat×Nat))).run P w=.ok pl.toArray w:=by
   rw[Array.mapM_eq_mapM_toList];rw[map_eq_pure_bind];simp only[Sem.run_bind,F,Result.andThen_ok,Sem.run_pure]
  simp only[Instr.build,Sem.run_bind,HN Z n6,Result.andThen_ok,Sem.run_pure,run_underlying bL,hm,ajF uT,aj]
def ajH {t e:TypeId}{n sz:Nat}{z r:List H}{cT:List (Nat×Operand)}{fh:List (Nat×Nat×bu)}{ρ:Operand->Value}{tm:Nat->H}{au:Nat->Prop}(bL:P.underlying t=some (.array n e))(a0:zeroOf P t=some z)
  (O:fG P e=some sz) (aP:partsOf (λi=>some (i*sz,sz)) cT=some fh) (hρ:∀x y,cN x=some y->aY w au B (aK tm y) (ρ x))
  (h:kd (aK tm) z fh=some r):∃v,(Instr.build t (cT.map λp=>(p.1,ρ p.2)).toArray).run P w=.ok v w/\aY w au B (.agg r) v:=by
 obtain⟨i,h4,Z,n6,b7⟩:=Bo (P:=P) (w:=w) (B:=B) (au:=au) a0;obtain⟨nF,aj,L⟩:=My (place:=λi=>some (i*sz,sz)) hρ cT fh _ r _ aP b7 h;refine⟨.agg nF,?_,by rw[show nF=nF.toList.toArray from by simp];exact .agg L.1 L.2⟩
 simp only[Instr.build,Sem.run_bind,HN Z n6,Result.andThen_ok,Sem.run_pure,run_underlying bL,r2 O,aj]
end Go.Mini
namespace Go.Mini
open Go
section
variable {P:Program} {w:World} {au:Nat->Prop} {B:cS}
def ajI {m:H}{d:Data}{v:Value}(h:Q8 m=some d)(al:aY w au B m v):Den w au d v:=by
 unfold Q8 at h
 split at h
 ·cases h;cases al with|I h=>exact h
 ·cases h;cases al;exact .kP
 ·simp only[c2] at h;obtain⟨ds,fD,rfl⟩:=h;obtain⟨F,G⟩:=mapM_get fD
  cases al with
  |agg ae ad =>
   refine .agg (by omega) λi d v Z hu=>?_;rename_i cs vs;have an:i<D cs:=by have:=(dK.1 Z).1;omega
   have dg:=bc an;exact Rv (G i _ d dg Z) (ad i _ v dg hu)
 ·cases h
def Yr {t:TypeId}{z:H}(h:zeroV P t=some z):∃v,(zeroValue t).run P w=.ok v w/\aY w au B z v:=by
 simp only[zeroV,dH] at h;obtain⟨v,⟨i,Z,al⟩,a0⟩:=h;exact⟨v,by simp[zeroValue,typeInfo,Z,al],XW a0⟩
def HR {ok b:Bool}{m:H}{v:Value}(h:aY w au B m v):aY w au B (Bl ok b m) (if ok=true then .tuple #[v,.bool b] else v):=by
 unfold Bl
 split
 ·have:=aY.dp (w:=w) (au:=au) (B:=B) (cs:=[m,.I (.bool b)]) (vs:=[v,.bool b]) rfl λi d u Z hu=>by
   match i,Z,hu with
   |0,Z,hu=>simp at Z hu;subst Z;subst hu;exact h
   |1,Z,hu=>simp at Z hu;subst Z;subst hu;exact .I .bool
  exact this
 ·exact h
def ajJ {t:TypeId}{b2:TypeDesc}{m r:H}{v:Value}(hu:P.underlying t=some b2)(aA:∀ms,b2 ≠ .interface ms)(hm:aY w au B m v)(h:Q9 t m=some r):
  ∃z,(Instr.makeInterface t v).run P w=.ok z w/\aY w au B r z:=by
 simp only[Q9,c2] at h;obtain⟨d,ad,rfl⟩:=h;refine⟨.iface t v,?_,.I (.n2 (ajI ad hm))⟩;simp only[Instr.makeInterface,Sem.run_bind,run_underlying hu,Result.andThen_ok]
 cases b2<;>first|rfl|exact absurd rfl (aA _)
def ajK {t Ys:TypeId}{b2:TypeDesc}{ok:Bool}{z m r:H}{v:Value}(hu:P.underlying t=some b2)(aA:∀ms,b2 ≠ .interface ms)(a0:zeroV P t=some z)(hm:aY w au B m v)(h:Ra t ok z m=some r):
  ∃u,(Instr.typeAssert v Ys t ok).run P w=.ok u w/\aY w au B r u:=by
 obtain⟨h4,n6,nH⟩:=Yr (P:=P) (w:=w) (au:=au) (B:=B) a0;unfold Ra at h
 split at h
 ·rename_i ld d
  cases hm with
  |I ad =>
   cases ad with
   | @n2 _ _ u ad =>
    split at h
    ·rename_i bL;subst bL
     cases h;refine⟨_,?_,HR (.I ad)⟩;simp only[Instr.typeAssert,Sem.run_bind,run_underlying hu,Result.andThen_ok]
     cases b2<;>first|exact absurd rfl (aA _)|simp
    ·rename_i bL
     split at h
     ·rename_i dx;subst dx
      cases h;refine⟨_,?_,HR nH⟩;simp only[Instr.typeAssert,Sem.run_bind,run_underlying hu,Result.andThen_ok]
      cases b2<;>first|exact absurd rfl (aA _)|simp[bL,n6]
     ·cases h
 ·cases hm with
  |I ad =>
   cases ad
   split at h
   ·rename_i dx;subst dx
    cases h;refine⟨_,?_,HR nH⟩;simp only[Instr.typeAssert,Sem.run_bind,run_underlying hu,Result.andThen_ok]
    cases b2<;>first|exact absurd rfl (aA _)|simp[n6]
   ·cases h
 ·cases h
def Yt {neg:Bool}{t e:TypeId}{x:Operand}{y:Operand}{m r:H}{v c:Value}(hu:P.underlying t=some (.pointer e))(U:c=.pointer none)(hm:aY w au B m v)(h:Hx neg false m=some r):
  ∃z,((do eqGuard (if neg then .neq else .eql) t x y v c;binOp (if neg then .neq else .eql) t v c:Sem Value)).run P w=.ok z w/\aY w au B r z:=by
 subst U;simp only[Hx,c2] at h;obtain⟨b,R,rfl⟩:=h
 have al:∃a,v=.pointer a/\a.isNone=b:=by
  unfold isNil at R
  split at R<;>cases R
  ·cases hm with|I ad=>cases ad;exact⟨none,rfl,rfl⟩
  ·cases hm with|I ad=>cases ad;exact⟨_,rfl,rfl⟩
  ·cases hm with|ptr he aL aP=>obtain⟨b,rfl,_⟩:=aP;exact⟨_,rfl,rfl⟩
  all_goals contradiction
 obtain⟨a,rfl,rfl⟩:=al
 have he:(Op.equal t (.pointer a) (.pointer none)).run P w=.ok a.isNone w:=by
  show (Op.equalIn (9999+1) t (.pointer a) (.pointer none)).run P w=_;unfold Op.equalIn;simp only[Sem.run_bind,run_underlying hu,Result.andThen_ok]
  cases a<;>rfl
 refine⟨.bool (neg != a.isNone),?_,.I .bool⟩;rw[eqGuard_at_pointer]
 cases neg
 ·simp only[cC,if_false,Sem.run_bind,Sem.run_pure,Result.andThen_ok];show (do pure (Value.bool (<-Op.equal t (.pointer a) (.pointer none))):Sem Value).run P w=_
  simp[he]
 ·simp only[if_true,Sem.run_bind,Sem.run_pure,Result.andThen_ok];show (do pure (Value.bool (!(<-Op.equal t (.pointer a) (.pointer none)))):Sem Value).run P w=_
  simp[he]
def Yu {neg:Bool}{t:TypeId}{ms:Array (String×TypeId)}{x:Operand}{c:Value}{m r:H}{v:Value}(hu:P.underlying t=some (.interface ms))(U:c=.nilIface)(hm:aY w au B m v)(h:Hx neg true m=some r):
  ∃z,((do eqGuard (if neg then .neq else .eql) t x (.const c) v c;binOp (if neg then .neq else .eql) t v c:Sem Value)).run P w=.ok z w/\aY w au B r z:=by
 subst U;simp only[Hx,c2] at h;obtain⟨b,R,rfl⟩:=h
 have al:(v=.nilIface/\b=true)\/∃ld u,v=.iface ld u/\b=false:=by
  unfold isNil at R
  split at R<;>cases R
  ·contradiction
  ·contradiction
  ·contradiction
  ·cases hm with|I ad=>cases ad;exact .inl ⟨rfl,rfl⟩
  ·cases hm with|I ad=>cases ad;exact .inr ⟨_,_,rfl,rfl⟩
 have he:(Op.equal t v .nilIface).run P w=.ok b w:=by
  show (Op.equalIn (9999+1) t v .nilIface).run P w=_;unfold Op.equalIn;simp only[Sem.run_bind,run_underlying hu,Result.andThen_ok];rcases al with ⟨rfl,rfl⟩|⟨ld,u,rfl,rfl⟩<;>rfl
 have aL:∀op,eqGuard op t x (.const .nilIface) v .nilIface=pure ():=λop=>by
  rcases al with ⟨rfl,rfl⟩|⟨ld,u,rfl,rfl⟩
  ·exact eqGuard_nil_constR _ _ _ _
  ·exact eqGuard_at_iface _ _ _ _ _ _ _
 refine⟨.bool (neg != b),?_,.I .bool⟩;rw[aL];rcases al with ⟨rfl,rfl⟩|⟨ld,u,rfl,rfl⟩<;>cases neg
 ·show (do pure (Value.bool (<-Op.equal t .nilIface .nilIface)):Sem Value).run P w=_;simp[he]
 ·show (do pure (Value.bool (!(<-Op.equal t .nilIface .nilIface))):Sem Value).run P w=_
  simp[he]
 ·show (do pure (Value.bool (<-Op.equal t (.iface ld u) .nilIface)):Sem Value).run P w=_
  simp[he]
 ·show (do pure (Value.bool (!(<-Op.equal t (.iface ld u) .nilIface))):Sem Value).run P w=_
  simp[he]
def ajL {t e:TypeId}{len sz n:Nat}{bH:Bool}{k:IntKind}{m r:H}{v:Value}(hu:P.underlying t=some (.array len e))(O:fG P e=some sz)(ba:tr P e=some bH)(hm:aY w au B m v)(h:Rb len sz bH n m=some r):
  ∃z,(Instr.index t v (.int k (n:Int))).run P w=.ok z w/\aY w au B r z:=by
 unfold Rb at h
 split at h
 ·rename_i aA
  have go:∀(cs:List H) (vs:List Value),cA w au B cs vs->(cut cs (n*sz) sz).bind (oF bH)=some r->∃z,(Instr.index t (.agg vs.toArray) (.int k (n:Int))).run P w=.ok z w/\aY w au B r z:=by
   intro cs vs b7 bk;simp only[dH] at bk;obtain⟨ms,F,G⟩:=bk;obtain⟨u,aa,aX⟩:=X5 (P:=P) O ba b7 F G;exact⟨u,by simp[Instr.index,asIntOf,run_underlying hu,r2 O,aA,aa],aX⟩
  simp only[dH] at h;obtain⟨cs,iJ,h⟩:=h
  split at h
  ·unfold Bk at iJ
   split at iJ<;>cases iJ
   ·cases hm with
    |agg ae ad=>exact go _ _ ⟨ae,ad⟩ h
   ·cases hm with
    |I ad =>
     cases ad with
     |agg ae ad=>exact go _ _ (cA.I ae ad) h
  ·cases h
 ·cases h
end
section
variable {P:Program} {A:Nat->Prop} {w:World} {B:cS} {mem:Mem}
def c9.RD {ak:World}{k:Key}{e':ht}{cs:List H}(h:dP A w B mem)(f:Fr (λb=>∃e,B k=some e/\e.dj=some b) w ak)
  (aL:∀e,B k=some e->e'=e\/e.g<e'.g)
  (jP:∀b,e'.dj=some b->w.heap.size<=b\/∃e,B k=some e/\e.dj=some b)
  (aA:e'.dj=none->cs=[])
  (U:∀b,e'.dj=some b->e'.mp=true/\∃ir jj,ak.heap[b]?=some (.map ir jj)/\ka w (bn A B) B ir.toList cs):c9 A w B ak (e3 B k e') (aT mem k e'.g cs):=by
 have hold:∀b,b<w.heap.size->(∀e,B k=some e->e.dj≠some b)->ak.heap[b]?=w.heap[b]? :=
  λb R J=>f.block b R fun⟨e,he,fV⟩=>J e he fV
 have iH:Trans A w B ak (e3 B k e'):=Trans.change f.size hold aL jP;exact⟨h.Rh f.size hold aL jP aA λb R=>let ⟨F,ir,jj,G,aa⟩:=U b R;.inr ⟨F,ir,jj,G,aa.j9 iH⟩,iH,⟨f.os,f.tape,f.output,f.size,λb R a4=>f.block b R fun⟨e,he,fV⟩=>a4 ⟨k,e,he,fV⟩⟩,Mr jP⟩
def ajM {t:TypeId}(k:Key)(bh:dP A w B mem):∃v ak ay,(Instr.makeMap t none).run P w=.ok v ak/\c9 A w B ak ay (aT mem k (bz mem k) [])/\aY ak (bn A ay) ay (.hB k (bz mem k)) v:=by
 refine⟨.map (some w.heap.size),w.alloc (.map #[] 0),e3 B k ⟨bz mem k,some w.heap.size,0,true⟩,?_,?_,.hB (fy _ _ _) (c8 _) ⟨_,rfl,λ_=>⟨rfl,rfl⟩⟩⟩
 ·simp[Instr.makeMap]
 ·have f2:Fr (λ_=>False) w (w.alloc (.map #[] 0)):=(Fr.refl _ _).alloc _;refine c9.RD (e':=⟨bz mem k,some w.heap.size,0,true⟩) bh ⟨f2.os,f2.tape,f2.output,f2.size,λb R _=>f2.block b R id⟩ (λe he => .inr (zG bh k e he)) (λb R => .inl ?_) (by simp) ?_
  ·simp at R;omega
  ·intro b R;simp at R;subst R;exact⟨rfl,#[],0,heap_alloc_new w _,.nil⟩
def Yv {m:H}{v:Value}{k:Key}{g:Nat}{cs:List H}(bh:dP A w B mem)(al:aY w (bn A B) B m v)(h:zE mem m=some (k,g,cs)):
  ∃b e ir jj,v=.map (some b)/\mem k=some (g,cs)/\B k=some e/\e.g=g/\e.dj=some b/\e.mp=true/\w.heap[b]?=some (.map ir jj)/\ka w (bn A B) B ir.toList cs:=by
 unfold zE at h
 split at h
 ·split at h
  ·rename_i k' cv cO HS Q
   split at h
   ·rename_i aL;subst aL
    cases h;obtain⟨e,he,bB,aA,R⟩:=bh.dj _ _ _ Q
    cases al with
    |hB eK xJ aP =>
     rw[he] at eK
     cases eK;obtain⟨b,rfl,fV⟩:=aP;obtain⟨F,G⟩:=fV bB.symm;rcases R b F with ⟨aa,_⟩|⟨_,ir,jj,aX,bt⟩
     ·rw[G] at aa;cases aa
     ·exact⟨b,e,ir,jj,rfl,Q,he,bB,F,G,aX,bt⟩
   ·cases h
  ·cases h
 ·cases h
def HT (a b:List UInt8):((⟨a.toArray⟩:ByteArray)==⟨b.toArray⟩)=decide (a=b):=by
 show (a.toArray==b.toArray)=_
 by_cases h:a=b
 ·subst h;simp
 ·simp[h]
def RE {au:Nat->Prop}{s:List UInt8}:∀{es:List MapEntry} {cs:List H} (n:Nat) {r:Option H},ka w au B es cs->Mh s cs=some r ->
  ∃q,Instr.findNow .string (.string ⟨s.toArray⟩) es n=some q/\((q=none/\r=none)\/∃i u m,q=some (i,u)/\r=some m/\aY w au B m u)
 |_,_,n,r,.nil,h=>by
  cases h;exact⟨none,rfl,.inl ⟨rfl,rfl⟩⟩
 |_,_,n,r,.cons (e:=e) (s:=k) Q al L,h=>by
  simp only[Mh] at h
  split at h
  ·rename_i O;subst O
   cases h;exact⟨_,by simp[Instr.findNow,Q,Instr.sameNow,HT];rfl,.inr ⟨_,_,_,rfl,rfl,al⟩⟩
  ·rename_i O;obtain⟨q,F,G⟩:=RE (n+1) L h;exact⟨q,by simp[Instr.findNow,Q,Instr.sameNow,HT,O,F],G⟩
def Yw {au:Nat->Prop}{s:List UInt8}{x:H}{u:Value}(J:aY w au B x u):∀{es:List MapEntry} {cs:List H} (n:Nat) {g7:List H},ka w au B es cs->Mi s x cs=some g7 ->
  (Instr.findNow .string (.string ⟨s.toArray⟩) es n=some none/\∀c,ka w au B (es++[⟨.string ⟨s.toArray⟩,u,c⟩]) g7) \/
  ∃i v0 fH,Instr.findNow .string (.string ⟨s.toArray⟩) es n=some (some (n+i,v0))/\es[i]?=some fH/\fH.key=.string ⟨s.toArray⟩/\ka w au B (es.modify i λe=>{ e with key:=.string ⟨s.toArray⟩,val:=u }) g7
 |_,_,n,g7,.nil,h=>by
  cases h;exact .inl ⟨rfl,λc => .cons rfl J .nil⟩
 |_,_,n,g7,.cons (e:=e) (s:=k) (es:=es) Q al L,h=>by
  simp only[Mi] at h
  split at h
  ·rename_i O;subst O
   cases h;exact .inr ⟨0,e.val,e,by simp[Instr.findNow,Q,Instr.sameNow,HT],rfl,Q,.cons rfl J L⟩
  ·rename_i O;simp only[c2] at h;obtain⟨r,h,rfl⟩:=h
   have aj:Instr.findNow .string (.string ⟨s.toArray⟩) (e::es) n=Instr.findNow .string (.string ⟨s.toArray⟩) es (n+1):=by
    simp[Instr.findNow,Q,Instr.sameNow,HT,O]
   rcases Yw J (n+1) L h with ⟨F,G⟩|⟨i,v0,fH,F,G,aa,aX⟩
   ·exact .inl ⟨aj.trans F,λc => .cons Q al (G c)⟩
   ·exact .inr ⟨i+1,v0,fH,by rw[aj,F];congr 3;omega,by simpa using G,aa,.cons Q al aX⟩
def Yx {k:TypeId}(h:uK P k=some 2):P.underlying k=some .string:=by
 unfold uK at h
 split at h<;>simp at h
 assumption
def MI {k:TypeId}(h:P.underlying k=some .string)(b:Bool)(s:ByteArray):(Instr.checkKey b 10000 k (.string s)).run P w=.ok () w:=by
 show (Instr.checkKey b (9999+1) k (.string s)).run P w=_;unfold Instr.checkKey;simp only[Sem.run_bind,run_underlying h,Result.andThen_ok]
 rfl
def Yy {m:H}{s:List UInt8}{v:Value}{au:Nat->Prop}(h:Mk m=some s)(al:aY w au B m v):v=.string ⟨s.toArray⟩:=by
 unfold Mk at h
 split at h
 ·cases h;exact al.zI
 ·cases h
def ajN {t k e:TypeId}{ok:Bool}{z aW bY r:H}{v1 v2:Value}(bh:dP A w B mem)(hu:P.underlying t=some (.map k e))(Q:uK P k=some 2)(a0:zeroV P e=some z)(gI:aY w (bn A B) B aW v1)(lp:aY w (bn A B) B bY v2)
  (h:Ml mem ok z aW bY=some r):∃u,(Instr.lookup t v1 v2 ok).run P w=.ok u w/\aY w (bn A B) B r u:=by
 unfold Ml at h
 split at h
 ·rename_i kg g cs s dN cU;obtain⟨b,r7,ir,jj,rfl,F,G,aa,aX,bt,bx,bK⟩:=Yv bh gI dN;obtain rfl:=Yy cU lp;have uN:=Yx Q;obtain⟨h4,n6,nH⟩:=Yr (P:=P) (w:=w) (au:=bn A B) (B:=B) a0
  split at h
  ·rename_i m ae
   cases h;obtain⟨q,aS,bk⟩:=RE 0 bK ae;rcases bk with ⟨_,h⟩|⟨i,u,m',rfl,hm,L⟩
   ·cases h
   ·cases hm;refine⟨_,?_,HR L⟩;simp only[Instr.lookup,Sem.run_bind,run_underlying hu,Result.andThen_ok,MapKept.run_getObj_map bx,Sem.run_pure,MI uN,Instr.findKey,run_underlying uN,aS]
  ·rename_i ae
   cases h;obtain⟨q,aS,bk⟩:=RE 0 bK ae;rcases bk with ⟨rfl,_⟩|⟨i,u,m',rfl,hm,L⟩
   ·refine⟨_,?_,HR nH⟩;simp only[Instr.lookup,Sem.run_bind,run_underlying hu,Result.andThen_ok,MapKept.run_getObj_map bx,Sem.run_pure,MI uN,Instr.findKey,run_underlying uN,aS,n6]
   ·cases hm
  ·cases h
 ·cases h
def ajO {t k e:TypeId}{aW bY fI r:H}{v1 v2 ff:Value}{iL:Option (Key×Nat×List H)}(bh:dP A w B mem)(hu:P.underlying t=some (.map k e))(Q:uK P k=some 2)(gI:aY w (bn A B) B aW v1)(lp:aY w (bn A B) B bY v2)(ajP:aY w (bn A B) B fI ff)
  (h:HA mem aW bY fI=some (r,iL)):∃ak,(Instr.mapUpdate t v1 v2 ff).run P w=.ok () ak/\c9 A w B ak B (gf mem iL)/\r=.no:=by
 unfold HA at h
 split at h
 ·rename_i kg g cs s dN cU
  split at h
  ·split at h
   ·rename_i g7 tx
    cases h;obtain⟨b,r7,ir,jj,rfl,F,G,aa,aX,bt,bx,bK⟩:=Yv bh gI dN;obtain rfl:=Yy cU lp;have uN:=Yx Q;have an:b<w.heap.size:=(Array.getElem?_eq_some_iff.1 bx).1
    have main:∀Eo HU,ka w (bn A B) B Eo.toList g7->c9 A w B { w with heap:=w.heap.setIfInBounds b (.map Eo HU) } B (aT mem kg g g7):=by
     intro Eo HU L
     have heq:e3 B kg r7=B:=by
      funext j
      unfold e3
      split
      ·rename_i Y;rw[Y,G]
      ·rfl
     have f:Fr (λb=>∃e,B kg=some e/\e.dj=some b) w { w with heap:=w.heap.setIfInBounds b (.map Eo HU) }:=by
      refine⟨rfl,rfl,rfl,by simp,λj Y a4=>?_⟩
      have bo:b≠j:=λEk=>a4 ⟨r7,G,by rw[aX,Ek]⟩
      simp[bo]
     have:=c9.RD (k:=kg) (e':=r7) (cs:=g7) bh f (λax ef => .inl (by rw[G] at ef;exact mm ef)) (λcz eE => .inr ⟨r7,G,eE⟩) (λaA=>by rw[aX] at aA;cases aA) (λcz eE=>by
      rw[aX] at eE
      cases eE;exact⟨bt,Eo,HU,by simp[an],L⟩)
     rw[heq,aa] at this;exact this
    rcases Yw ajP 0 bK tx with ⟨aj,L⟩|⟨i,v0,fH,aj,sa,zN,L⟩
    ·refine⟨_,?_,main (ir.push ⟨.string ⟨s.toArray⟩,ff,jj⟩) (jj+1) (by simpa using L jj),rfl⟩;simp only[Instr.mapUpdate,Sem.run_bind,run_underlying hu,Result.andThen_ok,MapKept.run_getObj_map bx,Sem.run_pure,MI uN,Instr.findKey,run_underlying uN,aj,MapKept.run_setObj_map _ bx]
    ·refine⟨_,?_,main (ir.modify i λe=>{ e with key:=.string ⟨s.toArray⟩,val:=ff }) jj (by simpa using L),rfl⟩
     have ajQ:Instr.sameBits 10000 (.string ⟨s.toArray⟩) (.string ⟨s.toArray⟩)=true:=by
      show ((⟨s.toArray⟩:ByteArray)==⟨s.toArray⟩)=true;rw[HT];simp
     have Z:ir[i]?=some fH:=by simpa using sa
     simp only[r1] at aj;simp only[Instr.mapUpdate,Sem.run_bind,run_underlying hu,Result.andThen_ok,MapKept.run_getObj_map bx,Sem.run_pure,MI uN,Instr.findKey,run_underlying uN,aj,Z,kU,RF,zN,Instr.keyThatStays,ajQ,if_true,MapKept.run_setObj_map _ bx]
   ·cases h
  ·cases h
 ·cases h
end
end Go.Mini
namespace Go.Mini
open Go
variable {P:Program} {A:Nat->Prop} {w:World} {B:cS} {mem:Mem}
def ajR (n:Next)(v:Value):Prop:=n=.value v\/(n=.skip/\v=undef)
def gx (A:Nat->Prop)(w:World)(B:cS)(run:Result Next)(mem':Mem)(r:H):Prop :=
 ∃n v ak ay,run=.ok n ak/\ajR n v/\c9 A w B ak ay mem'/\aY ak (bn A ay) ay r v
def gx.iX {s:Sem Value}{r:H}(bh:dP A w B mem)(h:∃v,s.run P w=.ok v w/\aY w (bn A B) B r v):gx A w B ((do pure (.value (<-s)):Sem Next).run P w) mem r:=by
 obtain⟨v,F,G⟩:=h;exact⟨.value v,v,w,B,by simp[F],.inl rfl,.refl bh,G⟩
def gx.of {s:Sem Value}{mem':Mem}{r:H}(h:∃v ak ay,s.run P w=.ok v ak/\c9 A w B ak ay mem'/\aY ak (bn A ay) ay r v):gx A w B ((do pure (.value (<-s)):Sem Next).run P w) mem' r:=by
 obtain⟨v,ak,ay,F,G,aa⟩:=h;exact⟨.value v,v,ak,ay,by simp[F],.inl rfl,G,aa⟩
def Yz {x:Option H}{r:H}{iL:Option (Key×Nat×List H)}(h:iv x=some (r,iL)):x=some r/\iL=none:=by
 unfold iv at h
 split at h<;>cases h
 exact⟨rfl,rfl⟩
def oN {x:Option Nat}{f:Nat->Option H}{r:H}(h:hC x f=some r):∃n,x=some n/\f n=some r:=by
 unfold hC at h
 split at h
 ·exact⟨_,rfl,h⟩
 ·cases h
def YA {x y:Option Nat}{f:Nat->Nat->Out}{r:H×Option (Key×Nat×List H)}(h:Hy x y f=some r):∃n m,x=some n/\y=some m/\f n m=some r:=by
 unfold Hy at h
 split at h
 ·exact⟨_,_,rfl,rfl,h⟩
 ·cases h
def Bu {au:Nat->Prop}{ρ:Operand->Value}{tm:Nat->H}(hρ:∀x y,cN x=some y->aY w au B (aK tm y) (ρ x)){x:Option Operand}{y:Option bu}(h:rY x=some y):ql w au B (y.map (aK tm)) (x.map ρ):=by
 cases x with
 |none=>simp[rY] at h;subst h;simp[ql]
 |some x =>
  simp only[rY,c2] at h;obtain⟨y',ai,rfl⟩:=h;simp only[kU,ql];exact hρ _ _ ai
def YB {dA:Array Field}{f o s:Nat}(h:ts P dA f=some (o,s)):∃fd,dA[f]?=some fd/\fd.offset=o/\fG P fd.type=some s:=by
 simp only[ts,fZ,gi,dH,bM,eL] at h;obtain⟨fd,F,xW,G,aa,aX⟩:=h;exact⟨fd,F,aa,aX ▸ G⟩
def qs {au:Nat->Prop}{ρ:Operand->Value}{tm:Nat->H}(hρ:∀x y,cN x=some y->aY w au B (aK tm y) (ρ x)):∀{l:List Operand} {r:List bu},l.mapM cN=some r->cA w au B (r.map (aK tm)) (l.map ρ)
 | [],r,h=>by simp at h;subst h;exact cA.nil
 |x::l,r,h=>by
  simp only[nf,fZ,gi,dH,bM] at h;obtain⟨y,ai,xK,L,rfl⟩:=h;exact cA.cons (hρ _ _ ai) (qs hρ L)
def wo {α β:Type}(a:Array α)(f:α->β):a.map f=(a.toList.map f).toArray:=by
 apply Array.ext';simp
def hb {tm:Nat->H}{m:fM}{r:H}{iL:Option (Key×Nat×List H)}{x:Option H}(h:bD mem tm m=some (r,iL))(e:bD mem tm m=iv x):x=some r/\iL=none:=Yz (e.symm.trans h)
def ajS {ρ:Operand->Value}{tm:Nat->H}{kb:Nat}{own:List Nat}{dst:Option Tmp}{type:TypeId}{c:Call}{m:fM}{r:H}{iL:Option (Key×Nat×List H)}(bh:dP A w B mem)
  (hρ:∀x y,cN x=some y->aY w (bn A B) B (aK tm y) (ρ x)) (aw:rZ P kb own dst type c=some m) (h:bD mem tm m=some (r,iL)) :
  gx A w B ((do let d <-resolve ρ c type;invoke d.target d.args:Sem Next).run P w) (gf mem iL) r:=by
 obtain⟨callee,args,argTypes⟩:=c;have two:∀{α:Type} (a:Array α) (x y:α),a.toList=[x,y]->a=#[x,y]:=λa x y h=>Array.ext' (by simpa using h);have one:∀{α:Type} (a:Array α) (x:α),a.toList=[x]->a=#[x]:=λa x h=>Array.ext' (by simpa using h);unfold rZ at aw
 split at aw
 ·rename_i x t U ba bL;simp only at U ba bL;subst U;obtain rfl:=one _ _ ba;obtain rfl:=one _ _ bL
  split at aw
  ·rename_i e hu;simp only[c2] at aw;obtain⟨y,ai,rfl⟩:=aw;obtain⟨aS,rfl⟩:=hb h rfl;obtain⟨n,aA,aS⟩:=oN aS
   cases aS;have:=ai4 (P:=P) (w:=w) t type e hu (hρ _ _ ai) aA;exact⟨.value _,_,w,B,by simp[resolve,invoke,builtin,this],.inl rfl,.refl bh,.I .int⟩
  ·rename_i hu;simp only[c2] at aw;obtain⟨y,ai,rfl⟩:=aw;obtain⟨aS,rfl⟩:=hb h rfl;obtain⟨n,aA,aS⟩:=oN aS
   cases aS;have:=ai5 (P:=P) (w:=w) t type hu (hρ _ _ ai) aA;exact⟨.value _,_,w,B,by simp[resolve,invoke,builtin,this],.inl rfl,.refl bh,.I .int⟩
  ·cases aw
 ·rename_i s x t u U ba bL;simp only at U ba bL;subst U;obtain rfl:=two _ _ _ ba;obtain rfl:=two _ _ _ bL
  split at aw
  ·rename_i e ax hu YC;simp only[fZ,gi,dH] at aw;obtain⟨z,a0,b,R,n,aA,d,ad,xW,eG,gK,oO,bk⟩:=aw
   split at bk
   ·rename_i mo;obtain⟨rfl,aq,rfl⟩:=mo
    cases bk;simp only[bD] at h
    cases nG:px mem (D z) (aK tm gK) with
    |none =>
     rw[nG] at h
     revert h
     cases aK tm xW<;>simp[qd]
    |some p =>
     obtain⟨k,new⟩:=p;rw[nG] at h;obtain⟨v,ak,ay,F,G,aa⟩:=ajv (ty:=type) _ bh hu a0 aA R aq (hρ _ _ eG) (hρ _ _ oO) nG h;exact⟨.value v,v,ak,ay,by simp[resolve,invoke,builtin,F],.inl rfl,G,aa⟩
   ·cases bk
  ·cases aw
 ·rename_i awp x t u U ba bL;simp only at U ba bL;subst U;obtain rfl:=two _ _ _ ba;obtain rfl:=two _ _ _ bL
  split at aw
  ·rename_i e ax hu YC;simp only[fZ,gi,dH] at aw;obtain⟨n,aA,bk⟩:=aw
   split at bk
   ·rename_i aq;simp only[dH,bM] at bk;obtain⟨qt,mP,gK,oO,rfl⟩:=bk;simp only[bD] at h
    cases nG:px mem n (aK tm gK) with
    |none =>
     rw[nG] at h
     revert h
     cases aK tm qt<;>simp[uI]
    |some p =>
     obtain⟨k,new⟩:=p;rw[nG] at h;obtain⟨v,ak,F,G,aa⟩:=ajy (u:=u) (ty:=type) bh hu aA (hρ _ _ mP) (hρ _ _ oO) nG h;exact⟨.value v,v,ak,B,by simp[resolve,invoke,builtin,F],.inl rfl,G,aa⟩
   ·cases bk
  ·cases aw
 ·rename_i x t U ba bL;simp only at U ba bL;subst U;obtain rfl:=one _ _ ba;obtain rfl:=one _ _ bL
  split at aw
  ·rename_i e hu;simp only[fZ,gi,dH] at aw;obtain⟨z,a0,n,aA,bk⟩:=aw
   split at bk
   ·rename_i aq;simp only[dH,bM] at bk;obtain⟨gK,oO,rfl⟩:=bk;simp only[bD] at h;obtain⟨v,ak,F,G,aa⟩:=ajB (ty:=type) bh hu a0 (by omega) (hρ _ _ oO) h;exact⟨.value v,v,ak,B,by simp[resolve,invoke,builtin,F],.inl rfl,G,aa⟩
   ·cases bk
  ·cases aw
 ·rename_i x y U ba;simp only at U ba;subst U;obtain rfl:=two _ _ _ ba;simp only[fZ,gi,dH,bM] at aw;obtain⟨gK,J,y',ai,rfl⟩:=aw;obtain⟨aS,rfl⟩:=hb h rfl;obtain⟨z,F,G⟩:=X6 (P:=P) argTypes type (hρ _ _ J) (hρ _ _ ai) aS;simp only[if_true] at F;exact⟨.value z,z,w,B,by simp[resolve,invoke,builtin,F],.inl rfl,.refl bh,G⟩
 ·rename_i x y U ba;simp only at U ba;subst U;obtain rfl:=two _ _ _ ba;simp only[fZ,gi,dH,bM] at aw;obtain⟨gK,J,y',ai,rfl⟩:=aw;obtain⟨aS,rfl⟩:=hb h rfl;obtain⟨z,F,G⟩:=X6 (P:=P) argTypes type (hρ _ _ J) (hρ _ _ ai) aS;simp only[cC,if_false] at F;exact⟨.value z,z,w,B,by simp[resolve,invoke,builtin,F],.inl rfl,.refl bh,G⟩
 ·split at aw
  ·split at aw
   ·simp only[fZ,gi,dH,bM] at aw;obtain⟨_,_,_,_,_,_,rfl⟩:=aw
    cases h
   ·cases aw
  ·split at aw
   ·(repeat' split at aw)<;>simp only[fZ,gi,dH,bM] at aw
    all_goals
     obtain⟨_,_,rfl⟩:=aw
     cases h
   ·simp only[fZ,gi,dH,bM] at aw;obtain⟨_,_,rfl⟩:=aw
    cases h
 ·simp only[fZ,gi,dH,bM] at aw;obtain⟨_,_,_,_,rfl⟩:=aw
  cases h
 ·cases aw
def RG {ρ:Operand->Value}{tm:Nat->H}{kb:Nat}{own:List Nat}{o:Oper}{m:fM}{r:H}{iL:Option (Key×Nat×List H)}(bh:dP A w B mem)
  (hρ:∀x y,cN x=some y->aY w (bn A B) B (aK tm y) (ρ x)) (Ep:∀c,ρ (.const c)=c) (aw:gW P kb own o.dst o.type o.op=some m) (h:bD mem tm m=some (r,iL)) :
  gx A w B ((execOp ρ o).run P w) (gf mem iL) r:=by
 obtain⟨dst,op,type,pos,after,guard⟩:=o;simp only at aw
 cases op<;>simp only[gW] at aw<;>simp only[execOp]
 case move x =>
  simp only[c2] at aw;obtain⟨y,ai,rfl⟩:=aw;obtain⟨aS,rfl⟩:=hb (x:=some (aK tm y)) h rfl
  cases aS;exact⟨_,_,w,B,rfl,.inl rfl,.refl bh,hρ _ _ ai⟩
 case assign x =>
  simp only[c2] at aw;obtain⟨y,ai,rfl⟩:=aw;obtain⟨aS,rfl⟩:=hb (x:=some (aK tm y)) h rfl
  cases aS;exact⟨_,_,w,B,rfl,.inl rfl,.refl bh,hρ _ _ ai⟩
 case pick c a b =>
  simp only[fZ,gi,dH,bM] at aw;obtain⟨kB,U,cB,ba,eF,R,rfl⟩:=aw;obtain⟨aS,rfl⟩:=hb h rfl;have:=gx.iX bh (aiT (P:=P) (hρ _ _ U) (hρ _ _ ba) (hρ _ _ R) aS)
  simpa [gf] using this
 case alloc e =>
  simp only[fZ,gi,dH,bM] at aw;obtain⟨d,ad,z,a0,rfl⟩:=aw;simp only[bD,bM,eL] at h;obtain⟨rfl,rfl⟩:=h;exact gx.of (aji _ bh a0)
 case box e x =>
  simp only[fZ,gi,dH,bM] at aw;obtain⟨d,ad,y,ai,rfl⟩:=aw;simp only[bD] at h
  split at h
  ·rename_i Q;simp only[bM,eL] at h;obtain⟨rfl,rfl⟩:=h;exact gx.of (ajj _ bh (hρ _ _ ai) Q)
  ·cases h
 case build t cT =>
  split at aw
  ·rename_i dA hu
   split at aw
   ·rename_i ba;simp only[fZ,gi,dH,bM] at aw;obtain⟨z,a0,fh,xT,rfl⟩:=aw;obtain⟨aS,rfl⟩:=hb h rfl;simp only[jk,c2] at aS;obtain⟨cs,iJ,rfl⟩:=aS;rw[wo];exact gx.iX bh (ajG hu a0 ba xT hρ iJ)
   ·cases aw
  ·rename_i n e hu;simp only[fZ,gi,dH,bM] at aw;obtain⟨s,O,z,a0,fh,xT,rfl⟩:=aw;obtain⟨aS,rfl⟩:=hb h rfl;simp only[jk,c2] at aS;obtain⟨cs,iJ,rfl⟩:=aS;rw[wo];exact gx.iX bh (ajH hu a0 O xT hρ iJ)
  ·cases aw
 case buildSlice t len cT =>
  split at aw
  ·rename_i e hu;simp only[fZ,gi,dH] at aw;obtain⟨z,a0,s,O,fh,xT,d,ad,bk⟩:=aw
   split at bk
   ·rename_i U;obtain⟨xV,aq,ae⟩:=U;simp only[bM] at bk;subst bk;rw[wo]
    cases wq:own.contains d with
    |true =>
     rw[wq] at h;exact gx.of (ajp _ bh hu a0 O xV aq ae xT hρ h)
    |false =>
     rw[wq] at h;obtain⟨aS,rfl⟩:=hb h rfl;obtain⟨v,ak,F,G,aa⟩:=ajo bh hu a0 O xV aq ae xT hρ aS;exact gx.of ⟨v,ak,B,F,G,aa⟩
   ·cases bk
  ·cases aw
 case load t x =>
  simp only[fZ,gi,dH,bM] at aw;obtain⟨n,aA,g,aL,y,ai,rfl⟩:=aw;obtain⟨aS,rfl⟩:=hb h rfl;exact gx.iX bh (aiS aA aL bh (hρ _ _ ai) aS)
 case store t x v =>
  simp only[fZ,gi,dH,bM] at aw;obtain⟨n,aA,gK,J,pA,al,rfl⟩:=aw;obtain⟨ak,F,G,rfl⟩:=ajl bh aA (hρ _ _ J) (hρ _ _ al) h;exact⟨.skip,undef,ak,B,by simp[F],.inr ⟨rfl,rfl⟩,G,.no⟩
 case nilCheck x =>
  simp only[c2] at aw;obtain⟨y,ai,rfl⟩:=aw;obtain⟨aS,rfl⟩:=hb h rfl;obtain⟨⟨b,off,J⟩,L⟩:=ai6 (hρ _ _ ai) aS;rw[J] at L ⊢;exact⟨_,_,w,B,rfl,.inl rfl,.refl bh,L⟩
 case binOp HV t x y pos2 =>
  unfold tu at aw
  split at aw
  ·split at aw
   ·rename_i gK y' J ai
    cases aw
    obtain⟨aS,rfl⟩:=hb h rfl;exact gx.iX bh (XX t x y (hρ _ _ J) (hρ _ _ ai) aS)
   ·cases aw
  ·split at aw
   ·rename_i gK y' J ai
    cases aw
    obtain⟨aS,rfl⟩:=hb h rfl;exact gx.iX bh (XX t x y (hρ _ _ J) (hρ _ _ ai) aS)
   ·cases aw
  ·rename_i hu
   split at aw
   ·rename_i gK y' J ai
    cases aw
    obtain⟨aS,rfl⟩:=hb h rfl;exact gx.iX bh (XY (neg:=false) t x y hu (hρ _ _ J) (hρ _ _ ai) aS)
   ·rename_i gK y' J ai
    cases aw
    obtain⟨aS,rfl⟩:=hb h rfl;exact gx.iX bh (XY (neg:=true) t x y hu (hρ _ _ J) (hρ _ _ ai) aS)
   ·cases aw
  ·rename_i dA hu
   split at aw
   ·unfold tt at aw
    split at aw
    ·rename_i U
     split at aw
     ·rename_i gF gK y' Q J ai
      cases aw
      obtain⟨aS,rfl⟩:=hb h rfl;exact gx.iX bh (X3 (neg:=false) t x y dA hu U.1 U.2 Q (hρ _ _ J) (hρ _ _ ai) aS)
     ·cases aw
    ·cases aw
   ·unfold tt at aw
    split at aw
    ·rename_i U
     split at aw
     ·rename_i gF gK y' Q J ai
      cases aw
      obtain⟨aS,rfl⟩:=hb h rfl;exact gx.iX bh (X3 (neg:=true) t x y dA hu U.1 U.2 Q (hρ _ _ J) (hρ _ _ ai) aS)
     ·cases aw
    ·cases aw
   ·cases aw
  ·split at aw
   ·split at aw
    ·simp only[c2] at aw;obtain⟨_,_,rfl⟩:=aw
     cases h
    ·simp only[c2] at aw;obtain⟨_,_,rfl⟩:=aw
     cases h
    ·cases aw
   ·cases aw
  ·rename_i e hu
   split at aw
   ·rename_i aA
    have ai:ρ y=.pointer none:=by
     unfold Mp at aA
     split at aA
     ·exact Ep _
     ·contradiction
     ·cases aA
    split at aw
    ·simp only[c2] at aw;obtain⟨gK,J,rfl⟩:=aw;obtain⟨aS,rfl⟩:=hb h rfl;exact gx.iX bh (Yt (neg:=false) hu ai (hρ _ _ J) aS)
    ·simp only[c2] at aw;obtain⟨gK,J,rfl⟩:=aw;obtain⟨aS,rfl⟩:=hb h rfl;exact gx.iX bh (Yt (neg:=true) hu ai (hρ _ _ J) aS)
    ·cases aw
   ·cases aw
  ·rename_i ms hu
   split at aw
   ·rename_i aA
    obtain rfl:y=.const .nilIface:=by
     unfold Mp at aA
     split at aA
     ·contradiction
     ·rfl
     ·cases aA
    rw[Ep]
    split at aw
    ·simp only[c2] at aw;obtain⟨gK,J,rfl⟩:=aw;obtain⟨aS,rfl⟩:=hb h rfl;exact gx.iX bh (Yu (neg:=false) hu rfl (hρ _ _ J) aS)
    ·simp only[c2] at aw;obtain⟨gK,J,rfl⟩:=aw;obtain⟨aS,rfl⟩:=hb h rfl;exact gx.iX bh (Yu (neg:=true) hu rfl (hρ _ _ J) aS)
    ·cases aw
   ·cases aw
  ·cases aw
 case unOp uop t x =>
  simp only[c2] at aw;obtain⟨y,ai,rfl⟩:=aw;obtain⟨aS,rfl⟩:=hb h rfl;exact gx.iX bh (aiU (hρ _ _ ai) aS)
 case convert s t x =>
  split at aw
  ·rename_i gF k O bL;simp only[c2] at aw;obtain⟨y,ai,rfl⟩:=aw;obtain⟨aS,rfl⟩:=hb h rfl;exact gx.iX bh (aiV s t gF O bL (hρ _ _ ai) aS)
  ·cases aw
 case makeFunc fn first dc =>
  cases fn<;>simp only[reduceCtorEq] at aw
  split at aw
  ·rename_i eb;simp only[fZ,gi,dH,bM] at aw;obtain⟨cs,iJ,rfl⟩:=aw;obtain⟨aS,rfl⟩:=hb (x:=some (.ee _ (cs.map (aK tm)))) h rfl
   cases aS;have ajT:first=#[]:=Array.eq_empty_of_size_eq_zero eb
   subst ajT;have ae:=qs hρ iJ;exact gx.iX bh ⟨_,by rw[wo dc,Array.map_empty];rfl,.ee ae.1 ae.2⟩
  ·cases aw
 case makeSlice t l c =>
  split at aw
  ·rename_i e he;simp only[fZ,gi,dH] at aw;obtain⟨z,a0,s,O,b,R,d,ad,bk⟩:=aw
   split at bk
   ·rename_i U;simp only[dH,bM] at bk;obtain⟨mR,ae,kB,uU,rfl⟩:=bk;simp only[bD] at h;obtain⟨rb,re,F,G,aa⟩:=YA h;obtain⟨rfl,aq⟩:=U;exact gx.of (ajk _ bh he a0 O R F G (hρ _ _ ae) (hρ _ _ uU) aq aa)
   ·cases bk
  ·cases aw
 case slice t x b6 Z jM =>
  split at aw
  ·rename_i e hu;simp only[fZ,gi,dH] at aw;obtain⟨s,O,bk⟩:=aw
   split at bk
   ·simp only[dH,bM] at bk;obtain⟨y,ai,YD,ga,r6,kS,HW,gY,rfl⟩:=bk;have mj:=Bu hρ ga;have ll:=Bu hρ kS;have Eg:=Bu hρ gY
    cases HW with
    |none =>
     cases jM with
     |some v=>simp[rY,c2] at gY
     |none =>
      obtain⟨aS,rfl⟩:=hb h rfl;obtain⟨l,ae,aS⟩:=oN aS;obtain⟨len,hlen,aS⟩:=oN aS;obtain⟨bk,Bv,aS⟩:=oN aS;exact gx.iX bh (aja hu O ae hlen Bv mj ll (hρ _ _ ai) aS)
    |some HW =>
     cases r6 with
     |none=>cases h
     |some r6 =>
      cases Z with
      |none=>simp[ql] at ll
      |some Z =>
       cases jM with
       |none=>simp[ql] at Eg
       |some jM =>
        obtain⟨aS,rfl⟩:=hb h rfl;obtain⟨l,ae,aS⟩:=oN aS;obtain⟨bk,Bv,aS⟩:=oN aS;obtain⟨m,hm,aS⟩:=oN aS;exact gx.iX bh (ajd hu O ae Bv hm mj ll Eg (hρ _ _ ai) aS)
   ·cases bk
  ·rename_i n e hu;simp only[fZ,gi,dH] at aw;obtain⟨s,O,bk⟩:=aw
   split at bk
   ·rename_i U;simp only[dH,bM] at bk;obtain⟨y,ai,YD,ga,r6,kS,HW,gY,rfl⟩:=bk;have mj:=Bu hρ ga;have ll:=Bu hρ kS
    cases HW with
    |none =>
     cases jM with
     |some v=>simp[rY,c2] at gY
     |none =>
      obtain⟨aS,rfl⟩:=hb h rfl;obtain⟨l,ae,aS⟩:=oN aS;obtain⟨bk,Bv,aS⟩:=oN aS;exact gx.iX bh (ajD bh hu O U.2 ae Bv mj ll (hρ _ _ ai) aS)
    |some HW=>cases h
   ·cases bk
  ·rename_i hu
   split at aw
   ·rename_i gY;simp only[fZ,gi,dH,bM] at aw;obtain⟨y,ai,YD,ga,r6,kS,rfl⟩:=aw;have mj:=Bu hρ ga;have ll:=Bu hρ kS
    cases jM with
    |some v=>cases gY
    |none =>
     obtain⟨aS,rfl⟩:=hb h rfl;obtain⟨l,ae,aS⟩:=oN aS;obtain⟨len,hlen,aS⟩:=oN aS;obtain⟨bk,Bv,aS⟩:=oN aS;exact gx.iX bh (aje hu ae hlen Bv mj ll (hρ _ _ ai) aS)
   ·cases aw
  ·cases aw
 case fieldAddr t x f =>
  split at aw
  ·rename_i dA hu;simp only[fZ,gi,dH] at aw;obtain⟨⟨o,s⟩,aP,bk⟩:=aw
   split at bk
   ·rename_i aq;simp only[dH,bM] at bk;obtain⟨y,ai,rfl⟩:=bk;obtain⟨fd,F,G,aa⟩:=YB aP;obtain⟨aS,rfl⟩:=hb h rfl;exact gx.iX bh (aiW t f dA fd s hu F aa aq G (hρ _ _ ai) aS)
   ·cases bk
  ·cases aw
 case field t x f =>
  split at aw
  ·rename_i dA hu;simp only[fZ,gi,dH,bM] at aw;obtain⟨fd,Bw,⟨o,s⟩,aP,g,aL,y,ai,rfl⟩:=aw;obtain⟨awq,F,G,aa⟩:=YB aP;rw[Bw] at F
   cases F;obtain⟨aS,rfl⟩:=hb h rfl;exact gx.iX bh (aiY t f dA fd hu Bw aa aL G (hρ _ _ ai) aS)
  ·cases aw
 case indexAddr t x i =>
  split at aw
  ·rename_i e hu;simp only[fZ,gi,dH] at aw;obtain⟨s,O,bk⟩:=aw
   split at bk
   ·simp only[dH,bM] at bk;obtain⟨y,ai,j,Y,rfl⟩:=bk;obtain⟨aS,rfl⟩:=hb h rfl;obtain⟨n,aA,aS⟩:=oN aS;obtain⟨k,Q⟩:=Bn aA (hρ _ _ Y);rw[Q];exact gx.iX bh (ai0 t e hu O (hρ _ _ ai) aS)
   ·cases bk
  ·rename_i len e hu;simp only[fZ,gi,dH] at aw;obtain⟨s,O,bk⟩:=aw
   split at bk
   ·simp only[dH,bM] at bk;obtain⟨y,ai,j,Y,rfl⟩:=bk;obtain⟨aS,rfl⟩:=hb h rfl;obtain⟨n,aA,aS⟩:=oN aS;obtain⟨k,Q⟩:=Bn aA (hρ _ _ Y);rw[Q];exact gx.iX bh (ai1 t e hu O (hρ _ _ ai) aS)
   ·cases bk
  ·cases aw
 case index t x i =>
  split at aw
  ·rename_i hu;simp only[fZ,gi,dH,bM] at aw;obtain⟨y,ai,j,Y,rfl⟩:=aw;obtain⟨aS,rfl⟩:=hb h rfl;obtain⟨n,aA,aS⟩:=oN aS;obtain⟨k,Q⟩:=Bn aA (hρ _ _ Y);rw[Q];exact gx.iX bh (ai2 t hu (hρ _ _ ai) aS)
  ·rename_i n e hu;simp only[fZ,gi,dH,bM] at aw;obtain⟨s,O,g,aL,y,ai,j,Y,rfl⟩:=aw;obtain⟨aS,rfl⟩:=hb h rfl;obtain⟨n,aA,aS⟩:=oN aS;obtain⟨k,Q⟩:=Bn aA (hρ _ _ Y);rw[Q];exact gx.iX bh (ajL hu O aL (hρ _ _ ai) aS)
  ·cases aw
 case makeInterface t x =>
  split at aw
  ·cases aw
  ·rename_i b2 aA hu;simp only[c2] at aw;obtain⟨y,ai,rfl⟩:=aw;obtain⟨aS,rfl⟩:=hb h rfl;exact gx.iX bh (ajJ hu aA (hρ _ _ ai) aS)
  ·cases aw
 case typeAssert x Ys t ok =>
  split at aw
  ·cases aw
  ·rename_i b2 aA hu;simp only[fZ,gi,dH,bM] at aw;obtain⟨z,a0,y,ai,rfl⟩:=aw;obtain⟨aS,rfl⟩:=hb h rfl;exact gx.iX bh (ajK hu aA a0 (hρ _ _ ai) aS)
  ·cases aw
 case makeMap t rs =>
  cases rs with
  |some _=>cases aw
  |none =>
   simp only at aw
   split at aw
   ·simp only[fZ,gi,dH,bM] at aw;obtain⟨d,ad,rfl⟩:=aw;simp only[bD,bM,eL] at h;obtain⟨rfl,rfl⟩:=h;exact gx.of (ajM _ bh)
   ·cases aw
 case lookup t x i ok =>
  split at aw
  ·rename_i k e hu
   split at aw
   ·rename_i Q;simp only[fZ,gi,dH,bM] at aw;obtain⟨z,a0,y,ai,j,Y,rfl⟩:=aw;obtain⟨aS,rfl⟩:=hb h rfl;exact gx.iX bh (ajN bh hu Q a0 (hρ _ _ ai) (hρ _ _ Y) aS)
   ·cases aw
  ·cases aw
 case mapUpdate t x i v =>
  split at aw
  ·rename_i k e hu
   split at aw
   ·rename_i Q;simp only[fZ,gi,dH,bM] at aw;obtain⟨gK,J,a1,Z,pA,al,rfl⟩:=aw;obtain⟨ak,F,G,rfl⟩:=ajO bh hu Q (hρ _ _ J) (hρ _ _ Z) (hρ _ _ al) h;exact⟨.skip,undef,ak,B,by simp[F],.inr ⟨rfl,rfl⟩,G,.no⟩
   ·cases aw
  ·cases aw
 case extract x i =>
  simp only[c2] at aw;obtain⟨y,ai,rfl⟩:=aw;obtain⟨aS,rfl⟩:=hb h rfl;exact gx.iX bh (ai3 (hρ _ _ ai) aS)
 case call c =>
  exact ajS bh hρ aw h
 all_goals cases aw
end Go.Mini
namespace Go.Mini
open Go
inductive iY where
 |code (c:e0)
 |inBlock (id:Nat)
def cM (T:bg)(K:fC->a6->Prop):List iY->fC->a6->Prop
 | [],e,st=>K e st
 |.code c::k,.normal,st=>wp T c (cM T K k) st
 |.code _::k,.exit id,st=>cM T K k (.exit id) st
 |.code _::k,.ret,st=>cM T K k .ret st
 |.inBlock _::k,.normal,st=>cM T K k .normal st
 |.inBlock j::k,.exit id,st=>if id=j then cM T K k .normal st else cM T K k (.exit id) st
 |.inBlock _::k,.ret,st=>cM T K k .ret st
section
variable {T:bg} {K:fC->a6->Prop} {k:List iY} {st:a6}
def ajU (c:e0):(λe cb=>match e with
  |.normal=>wp T c (cM T K k) cb
  |e=>cM T K k e cb)=cM T K (.code c::k):=by
 funext e cb
 cases e<;>rfl
def ajV (id:Nat):(λe cb=>match e with
  |.exit j=>if j=id then cM T K k .normal cb else cM T K k (.exit j) cb
  |e=>cM T K k e cb)=cM T K (.inBlock id::k):=by
 funext e cb
 cases e<;>rfl
@[go_sem] def ajW (e:fC):cM T K [] e st=K e st:=by cases e<;>rfl
@[go_sem] def awr (c:e0):cM T K (.code c::k) .normal st=wp T c (cM T K k) st:=bs
@[go_sem] def aws (c:e0)(id:Nat):cM T K (.code c::k) (.exit id) st=cM T K k (.exit id) st:=bs
@[go_sem] def awt (c:e0):cM T K (.code c::k) .ret st=cM T K k .ret st:=bs
@[go_sem] def awu (id:Nat):cM T K (.inBlock id::k) .normal st=cM T K k .normal st:=bs
@[go_sem] def awv (id j:Nat):cM T K (.inBlock j::k) (.exit id) st=if id=j then cM T K k .normal st else cM T K k (.exit id) st:=bs
@[go_sem] def aww (id:Nat):cM T K (.inBlock id::k) .ret st=cM T K k .ret st:=bs
def xX {c:e0}(h:wp T c (cM T K []) st):wp T c K st:=by
 have:cM T K []=K:=by funext e st;cases e<;>rfl
 rwa [this] at h
@[go_sem] def wp_seq (a b:e0):wp T (.seq a b) (cM T K k) st=wp T a (cM T K (.code b::k)) st:=by
 rw[<-ajU];rfl
@[go_sem] def wp_skip:wp T .skip (cM T K k) st=cM T K k .normal st:=bs
@[go_sem] def wp_ret:wp T .ret (cM T K k) st=cM T K k .ret st:=bs
@[go_sem] def wp_exit (id:Nat):wp T (.exit id) (cM T K k) st=cM T K k (.exit id) st:=bs
@[go_sem] def wp_block (id:Nat)(c:e0):wp T (.block id c) (cM T K k) st=wp T c (cM T K (.inBlock id::k)) st:=by
 rw[<-ajV];rfl
def pB (T:bg)(K:fC->a6->Prop)(k:List iY)(m:H)(a b:e0)(st:a6):Prop :=
 match m with
 |.I (.bool t)=>if t=true then wp T a (cM T K k) st else wp T b (cM T K k) st
 |_=>False
@[go_sem] def wp_cond (c:bu)(a b:e0):wp T (.cond c a b) (cM T K k) st=pB T K k (aK st.tm c) a b st:=bs
@[go_sem] def ajX (a b:e0):pB T K k (.I (.bool true)) a b st=wp T a (cM T K k) st:=bs
@[go_sem] def ajY (a b:e0):pB T K k (.I (.bool false)) a b st=wp T b (cM T K k) st:=bs
def Er (T:bg)(K:fC->a6->Prop)(k:List iY)(l:List bw)(st:a6):Prop:=wb T (cM T K k .normal) l st
@[go_sem] def wp_ops (l:List bw):wp T (.ops l) (cM T K k) st=Er T K k l st:=bs
@[go_sem] def awx:Er T K k [] st=cM T K k .normal st:=bs
def qu (T:bg)(K:fC->a6->Prop)(k:List iY)(g:Option Bool)(i:bw)(r:List bw)(st:a6):Prop :=
 match g with
 |none=>False
 |some g=>if g=true then gg T (wb T (cM T K k .normal) r) i st else Er T K k r ⟨put st.tm i.dst .no,st.mem⟩
@[go_sem] def awy (i:bw)(r:List bw):Er T K k (i::r) st=qu T K k (g8 st.tm i.g) i r st:=bs
@[go_sem] def awz (i:bw)(r:List bw):qu T K k (some true) i r st=gg T (Er T K k r) i st:=bs
@[go_sem] def awA (i:bw)(r:List bw):qu T K k (some false) i r st=Er T K k r ⟨put st.tm i.dst .no,st.mem⟩:=bs
def zO (T:bg)(K:fC->a6->Prop)(k:List iY)(n:Nat)(l:List bw)(c:List (List Nat))(rec:Rec)(st:a6):Prop:=tq T (cM T K k .normal) n l c rec st
@[go_sem] def awB (l:List bw)(c:List (List Nat)):wp T (.mN l c) (cM T K k) st=zO T K k 0 l c (λ_=>none) st:=bs
@[go_sem] def awC (n:Nat)(c:List (List Nat))(rec:Rec):zO T K k n [] c rec st=cM T K k .normal st:=bs
def qv (T:bg)(K:fC->a6->Prop)(k:List iY)(n:Nat)(g:Option Bool)(i:bw)(r:List bw)(c:List (List Nat))(rec:Rec)(st:a6):Prop :=
 match g with
 |none=>False
 |some g=>if g=true then (match eW T st.mem st.tm i.op with
    |some (m,e)=>rX rec (gh i.op,cw st.tm i.op) (c.headD [])=true/\zO T K k (n+1) r c.tail (jl rec n (gh i.op,cw st.tm i.op)) ⟨put st.tm i.dst m,gf st.mem e⟩
    |none=>False) else zO T K k (n+1) r c.tail rec ⟨put st.tm i.dst .no,st.mem⟩
@[go_sem] def awD (n:Nat)(i:bw)(r:List bw)(c:List (List Nat))(rec:Rec):zO T K k n (i::r) c rec st=qv T K k n (g8 st.tm i.g) i r c rec st:=bs
def YE (T:bg)(K:fC->a6->Prop)(k:List iY)(n:Nat)(x:Option (H×Option (Key×Nat×List H)))(i:bw)(r:List bw)(c:List (List Nat))(rec:Rec)(st:a6):Prop :=
 match x with
 |some (m,e)=>rX rec (gh i.op,cw st.tm i.op) (c.headD [])=true/\zO T K k (n+1) r c.tail (jl rec n (gh i.op,cw st.tm i.op)) ⟨put st.tm i.dst m,gf st.mem e⟩
 |none=>False
@[go_sem] def awE (n:Nat)(i:bw)(r:List bw)(c:List (List Nat))(rec:Rec):qv T K k n (some true) i r c rec st=YE T K k n (eW T st.mem st.tm i.op) i r c rec st:=bs
@[go_sem] def awF (n:Nat)(i:bw)(r:List bw)(c:List (List Nat))(rec:Rec):qv T K k n (some false) i r c rec st=zO T K k (n+1) r c.tail rec ⟨put st.tm i.dst .no,st.mem⟩:=bs
@[go_sem] def awG (n:Nat)(m:H)(e:Option (Key×Nat×List H))(i:bw)(r:List bw)(c:List (List Nat))(rec:Rec):YE T K k n (some (m,e)) i r c rec st =
 (rX rec (gh i.op,cw st.tm i.op) (c.headD [])=true/\zO T K k (n+1) r c.tail (jl rec n (gh i.op,cw st.tm i.op)) ⟨put st.tm i.dst m,gf st.mem e⟩):=bs
end
section
variable {T:bg} {K:a6->Prop} {st:a6} {tm:Nat->H} {mem:Mem}
def wpS (K:a6->Prop)(x:Option (H×Option (Key×Nat×List H)))(d:Option Nat)(st:a6):Prop :=
 match x with
 |some (m,e)=>K ⟨put st.tm d m,gf st.mem e⟩
 |none=>False
@[go_sem] def awH (m:H)(e:Option (Key×Nat×List H))(d:Option Nat):wpS K (some (m,e)) d st=K ⟨put st.tm d m,gf st.mem e⟩:=bs
variable (d:Option Nat) (g:Option (Nat×Bool))
@[go_sem] def awI (x:bu):gg T K ⟨d,g,.iu x⟩ st=K ⟨put st.tm d (aK st.tm x),st.mem⟩:=bs
@[go_sem] def awJ (c a b:bu):gg T K ⟨d,g,.pick c a b⟩ st=wpS K (bD st.mem st.tm (.pick c a b)) d st:=bs
@[go_sem] def awK (k:Key)(z:List H):gg T K ⟨d,g,.alloc k z⟩ st=K ⟨put st.tm d (.ptr k (bz st.mem k) 0),aT st.mem k (bz st.mem k) z⟩:=bs
@[go_sem] def awL (k:Key)(x:bu):gg T K ⟨d,g,.box k x⟩ st=wpS K (bD st.mem st.tm (.box k x)) d st:=bs
@[go_sem] def awM (z:List H)(cT:List (Nat×Nat×bu)):gg T K ⟨d,g,.build z cT⟩ st=wpS K (bD st.mem st.tm (.build z cT)) d st:=bs
@[go_sem] def awN (k:Key)(o:Bool)(z:List H)(sz len:Nat)(cT:List (Nat×Nat×bu)):gg T K ⟨d,g,.dM k o z sz len cT⟩ st=wpS K (bD st.mem st.tm (.dM k o z sz len cT)) d st:=bs
@[go_sem] def awO (n:Nat)(bH:Bool)(x:bu):gg T K ⟨d,g,.load n bH x⟩ st=wpS K (bD st.mem st.tm (.load n bH x)) d st:=bs
@[go_sem] def awP (n:Nat)(x v:bu):gg T K ⟨d,g,.store n x v⟩ st=wpS K (bD st.mem st.tm (.store n x v)) d st:=bs
@[go_sem] def awQ (op:BinOp)(x y:bu):gg T K ⟨d,g,.bin op x y⟩ st=wpS K (bD st.mem st.tm (.bin op x y)) d st:=bs
@[go_sem] def awR (b:Bool)(n:List Nat)(x y:bu):gg T K ⟨d,g,.eqs b n x y⟩ st=wpS K (bD st.mem st.tm (.eqs b n x y)) d st:=bs
@[go_sem] def awS (b:Bool)(x y:bu):gg T K ⟨d,g,.beq b x y⟩ st=wpS K (bD st.mem st.tm (.beq b x y)) d st:=bs
@[go_sem] def awT (op:UnOp)(x:bu):gg T K ⟨d,g,.un op x⟩ st=wpS K (bD st.mem st.tm (.un op x)) d st:=bs
@[go_sem] def awU (k:IntKind)(x:bu):gg T K ⟨d,g,.conv k x⟩ st=wpS K (bD st.mem st.tm (.conv k x)) d st:=bs
@[go_sem] def awV (x:bu):gg T K ⟨d,g,.uF x⟩ st=wpS K (bD st.mem st.tm (.uF x)) d st:=bs
@[go_sem] def awW (k:Key)(z:List H)(b:Nat)(x y:bu):gg T K ⟨d,g,.la k z b x y⟩ st=wpS K (bD st.mem st.tm (.la k z b x y)) d st:=bs
@[go_sem] def awX (o:Nat)(x:bu):gg T K ⟨d,g,.tj o x⟩ st=wpS K (bD st.mem st.tm (.tj o x)) d st:=bs
@[go_sem] def awY (o n:Nat)(bH:Bool)(x:bu):gg T K ⟨d,g,.xC o n bH x⟩ st=wpS K (bD st.mem st.tm (.xC o n bH x)) d st:=bs
@[go_sem] def awZ (s:Nat)(x i:bu):gg T K ⟨d,g,.uG s x i⟩ st=wpS K (bD st.mem st.tm (.uG s x i)) d st:=bs
@[go_sem] def aw0 (n s:Nat)(x i:bu):gg T K ⟨d,g,.Bh n s x i⟩ st=wpS K (bD st.mem st.tm (.Bh n s x i)) d st:=bs
@[go_sem] def aw1 (x i:bu):gg T K ⟨d,g,.idxs x i⟩ st=wpS K (bD st.mem st.tm (.idxs x i)) d st:=bs
@[go_sem] def aw2 (s:Nat)(x:bu)(a b c:Option bu):gg T K ⟨d,g,.q1 s x a b c⟩ st=wpS K (bD st.mem st.tm (.q1 s x a b c)) d st:=bs
@[go_sem] def aw3 (n s:Nat)(x:bu)(a b c:Option bu):gg T K ⟨d,g,.tk n s x a b c⟩ st=wpS K (bD st.mem st.tm (.tk n s x a b c)) d st:=bs
@[go_sem] def aw4 (x:bu)(a b:Option bu):gg T K ⟨d,g,.Bi x a b⟩ st=wpS K (bD st.mem st.tm (.Bi x a b)) d st:=bs
@[go_sem] def aw5 (i:Nat)(x:bu):gg T K ⟨d,g,.ext i x⟩ st=wpS K (bD st.mem st.tm (.ext i x)) d st:=bs
@[go_sem] def aw6 (x:bu):gg T K ⟨d,g,.len x⟩ st=wpS K (bD st.mem st.tm (.len x)) d st:=bs
@[go_sem] def aw7 (x:bu):gg T K ⟨d,g,.lens x⟩ st=wpS K (bD st.mem st.tm (.lens x)) d st:=bs
@[go_sem] def aw8 (k:Key)(z:List H)(b:Nat)(s x:bu):gg T K ⟨d,g,.app k z b s x⟩ st=wpS K (bD st.mem st.tm (.app k z b s x)) d st:=bs
@[go_sem] def aw9 (z:List H)(x:bu):gg T K ⟨d,g,.tl z x⟩ st=wpS K (bD st.mem st.tm (.tl z x)) d st:=bs
@[go_sem] def axa (s:Nat)(x y:bu):gg T K ⟨d,g,.q2 s x y⟩ st=wpS K (bD st.mem st.tm (.q2 s x y)) d st:=bs
@[go_sem] def axb (b:Bool)(x y:bu):gg T K ⟨d,g,.lS b x y⟩ st=wpS K (bD st.mem st.tm (.lS b x y)) d st:=bs
@[go_sem] def axc (f:FuncId)(l:List bu):gg T K ⟨d,g,.uH f l⟩ st=wpS K (bD st.mem st.tm (.uH f l)) d st:=bs
def uV (K:a6->Prop)(x:Option gG)(d:Option Nat)(st:a6):Prop :=
 match x with
 |some (.same r)=>K ⟨put st.tm d (.I r),st.mem⟩
 |some (.own _ es)=>K ⟨put st.tm d (.I (.ao es)),st.mem⟩
 |some (.rel bF)=>∀r mem',bF r mem'->K ⟨put st.tm d r,mem'⟩
 |some (.dZ r k g i c)=>K ⟨put st.tm d (.I r),aT st.mem k g ((qe st.mem k).set i c)⟩
 |some (.xF r k)=>K ⟨put st.tm d (.I r),aT st.mem k (bz st.mem k) []⟩
 |none=>False
@[go_sem] def axd (f:FuncId)(l:List bu):gg T K ⟨d,g,.call f l⟩ st=uV K (T f (l.map (aK st.tm)) st.mem) d st:=bs
@[go_sem] def axe (r:Data)(k:Key)(g i:Nat)(c:H):uV K (some (.dZ r k g i c)) d st=K ⟨put st.tm d (.I r),aT st.mem k g ((qe st.mem k).set i c)⟩:=bs
@[go_sem] def axf (r:Data)(k:Key):uV K (some (.xF r k)) d st=K ⟨put st.tm d (.I r),aT st.mem k (bz st.mem k) []⟩:=bs
@[go_sem] def axg (r:Data):uV K (some (.same r)) d st=K ⟨put st.tm d (.I r),st.mem⟩:=bs
@[go_sem] def axh (s:Nat)(es:List (List Data)):uV K (some (.own s es)) d st=K ⟨put st.tm d (.I (.ao es)),st.mem⟩:=bs
@[go_sem] def ajZ (bF:H->Mem->Prop):uV K (some (.rel bF)) d st=∀r mem',bF r mem'->K ⟨put st.tm d r,mem'⟩:=bs
def RH (T:bg)(K:a6->Prop)(m:H)(args:List H)(d:Option Nat)(st:a6):Prop :=
 match m with
 |.ee g dc=>uV K (T g (args++dc) st.mem) d st
 |.I (.fn g ds)=>uV K (T g (args++ds.map .I) st.mem) d st
 |_=>False
@[go_sem] def axi (f:bu)(l:List bu):gg T K ⟨d,g,.jN f l⟩ st=RH T K (aK st.tm f) (l.map (aK st.tm)) d st:=bs
@[go_sem] def axj (f:FuncId)(dc args:List H):RH T K (.ee f dc) args d st=uV K (T f (args++dc) st.mem) d st:=bs
@[go_sem] def axk (f:FuncId)(ds:List Data)(args:List H):RH T K (.I (.fn f ds)) args d st=uV K (T f (args++ds.map .I) st.mem) d st:=bs
def RI (K:a6->Prop)(x:Option gG)(k:Key)(sz:Nat)(d:Option Nat)(st:a6):Prop :=
 match x with
 |some (.own eg es)=>if eg=sz then K ⟨put st.tm d (.ref k (bz st.mem k) sz 0 (D es)),aT st.mem k (bz st.mem k) (es.flatten.map .I)⟩ else False
 |_=>False
@[go_sem] def axl (k:Key)(sz:Nat)(f:FuncId)(l:List bu):gg T K ⟨d,g,.lb k sz f l⟩ st=RI K (T f (l.map (aK st.tm)) st.mem) k sz d st:=bs
@[go_sem] def axm (k:Key)(sz:Nat)(es:List (List Data)):RI K (some (.own sz es)) k sz d st=K ⟨put st.tm d (.ref k (bz st.mem k) sz 0 (D es)),aT st.mem k (bz st.mem k) (es.flatten.map .I)⟩:=by simp[RI]
def YF (K:a6->Prop)(neg:Bool)(x:Option Bool)(d:Option Nat)(st:a6):Prop :=
 match x with
 |some full=>∀b:Bool,(full=true->b=false)->K ⟨put st.tm d (.I (.bool (neg != b))),st.mem⟩
 |none=>False
@[go_sem] def axn (neg:Bool)(x:bu):gg T K ⟨d,g,.lR neg x⟩ st=YF K neg (xG (aK st.tm x)) d st:=bs
@[go_sem] def axo (neg full:Bool):YF K neg (some full) d st=∀b:Bool,(full=true->b=false)->K ⟨put st.tm d (.I (.bool (neg != b))),st.mem⟩:=bs
end
section
variable {tm:Nat->H} {mem:Mem}
@[go_sem] def axp (s:Nat):aK tm (.t s)=tm s:=bs
@[go_sem] def axq (m:H):aK tm (.c m)=m:=bs
@[go_sem] def axr (s:Nat)(m:H):put tm (some s) m=dZ tm s m:=bs
@[go_sem] def axs (m:H):put tm none m=tm:=bs
@[go_sem] def axt (s:Nat)(m:H)(t:Nat):dZ tm s m t=if t=s then m else tm t:=bs
@[go_sem] def axu (k:Key)(g:Nat)(cs:List H)(j:Key):aT mem k g cs j=if j=k then some (g,cs) else mem j:=bs
@[go_sem] def axv:gf mem none=mem:=bs
@[go_sem] def axw (k:Key)(g:Nat)(cs:List H):gf mem (some (k,g,cs))=aT mem k g cs:=bs
def gL:Option (Nat×List H)->Nat
 |none=>0
 |some (g,_)=>g+1
@[go_sem] def axx (k:Key):bz mem k=gL (mem k):=by unfold bz gL;rfl
@[go_sem] def axy:gL none=0:=bs
@[go_sem] def axz (g:Nat)(cs:List H):gL (some (g,cs))=g+1:=bs
@[go_sem] def axA (k:Key):emp k=none:=bs
@[go_sem] def axB:g8 tm none=some true:=bs
def MJ (m:H)(b:Bool):Option Bool :=
 match m with
 |.I (.bool t)=>some (t==b)
 |.no=>some false
 |_=>none
@[go_sem] def axC (s:Nat)(b:Bool):g8 tm (some (s,b))=MJ (tm s) b:=bs
@[go_sem] def axD (b:Bool):MJ .no b=some false:=bs
variable (op:fM)
@[go_sem] def axE (m:H):iv (some m)=some (m,none):=bs
@[go_sem] def axF (x:bu):bD mem tm (.iu x)=some (aK tm x,none):=bs
@[go_sem] def axG (c a b:bu):bD mem tm (.pick c a b)=iv (D2 (aK tm c) (aK tm a) (aK tm b)):=bs
@[go_sem] def axH (a b:H):D2 (.I (.bool true)) a b=some a:=bs
@[go_sem] def axI (a b:H):D2 (.I (.bool false)) a b=some b:=bs
@[go_sem] def axJ (k:Key)(z:List H):bD mem tm (.alloc k z)=some (.ptr k (bz mem k) 0,some (k,bz mem k,z)):=bs
@[go_sem] def axK (k:Key)(x:bu):bD mem tm (.box k x)=if (aK tm x).known=true then some (.ptr k (bz mem k) 0,some (k,bz mem k,(aK tm x).cells)) else none:=bs
@[go_sem] def axL (z:List H)(cT:List (Nat×Nat×bu)):bD mem tm (.build z cT)=iv ((kd (aK tm) z cT).map .agg):=bs
@[go_sem] def axM (k:Key)(z:List H)(sz len:Nat)(cT:List (Nat×Nat×bu)):bD mem tm (.dM k false z sz len cT)=iv (Hl z sz len (kd (aK tm) z cT)):=bs
@[go_sem] def axN (k:Key)(z:List H)(sz len:Nat)(cT:List (Nat×Nat×bu)):bD mem tm (.dM k true z sz len cT)=D5 k (bz mem k) z sz len (kd (aK tm) z cT):=bs
@[go_sem] def axO (n:Nat)(bH:Bool)(x:bu):bD mem tm (.load n bH x)=iv (iW mem n bH (aK tm x)):=bs
@[go_sem] def axP (n:Nat)(x v:bu):bD mem tm (.store n x v)=v9 mem n (aK tm x) (aK tm v).cells:=bs
@[go_sem] def axQ (b:BinOp)(x y:bu):bD mem tm (.bin b x y)=iv (D0 b (aK tm x) (aK tm y)):=bs
@[go_sem] def axR (neg:Bool)(x y:bu):bD mem tm (.beq neg x y)=iv (D1 neg (aK tm x) (aK tm y)):=bs
@[go_sem] def axS (neg:Bool)(n:List Nat)(x y:bu):bD mem tm (.eqs neg n x y)=iv (Hm neg n (aK tm x) (aK tm y)):=bs
@[go_sem] def axT (u:UnOp)(x:bu):bD mem tm (.un u x)=iv (Hk u (aK tm x)):=bs
@[go_sem] def axU (k:IntKind)(x:bu):bD mem tm (.conv k x)=iv (Hn k (aK tm x)):=bs
@[go_sem] def axV (x:bu):bD mem tm (.uF x)=iv (Ho (aK tm x)):=bs
@[go_sem] def axW (k:Key)(z:List H)(b:Nat)(x y:bu):bD mem tm (.la k z b x y)=Hy (idx (aK tm x)) (idx (aK tm y)) (D6 k (bz mem k) z b):=bs
@[go_sem] def axX (o:Nat)(x:bu):bD mem tm (.tj o x)=iv (D3 o (aK tm x)):=bs
@[go_sem] def axY (o n:Nat)(bH:Bool)(x:bu):bD mem tm (.xC o n bH x)=iv (D4 o n bH (aK tm x)):=bs
@[go_sem] def axZ (s:Nat)(x i:bu):bD mem tm (.uG s x i)=iv (hC (idx (aK tm i)) λn=>Hp s n (aK tm x)):=bs
@[go_sem] def ax0 (n s:Nat)(x i:bu):bD mem tm (.Bh n s x i)=iv (hC (idx (aK tm i)) λm=>Hq n s m (aK tm x)):=bs
@[go_sem] def ax1 (x i:bu):bD mem tm (.idxs x i)=iv (hC (idx (aK tm i)) λn=>Hr n (aK tm x)):=bs
@[go_sem] def ax2 (s:Nat)(x:bu)(b6 Z:Option bu):bD mem tm (.q1 s x b6 Z none)=iv (hC (jx 0 (b6.map (aK tm))) λl=>hC (tn (aK tm x)) λlen=>hC (jx len (Z.map (aK tm))) λh=>Hs s l h (aK tm x)):=bs
@[go_sem] def ax3 (s:Nat)(x h m:bu)(b6:Option bu):bD mem tm (.q1 s x b6 (some h) (some m)) =
 iv (hC (jx 0 (b6.map (aK tm))) λl=>hC (idx (aK tm h)) λh=>hC (idx (aK tm m)) λm=>Ht s l h m (aK tm x)):=bs
@[go_sem] def ax4 (n s:Nat)(x:bu)(b6 Z:Option bu):bD mem tm (.tk n s x b6 Z none)=iv (hC (jx 0 (b6.map (aK tm))) λl=>hC (jx n (Z.map (aK tm))) λh=>zC mem n s l h (aK tm x)):=bs
@[go_sem] def ax5 (x:bu)(b6 Z:Option bu):bD mem tm (.Bi x b6 Z)=iv (hC (jx 0 (b6.map (aK tm))) λl=>hC (xE (aK tm x)) λlen=>hC (jx len (Z.map (aK tm))) λh=>Hu l h (aK tm x)):=bs
@[go_sem] def ax6 (i:Nat)(x:bu):bD mem tm (.ext i x)=iv (Hv i (aK tm x)):=bs
@[go_sem] def ax7 (x:bu):bD mem tm (.len x)=iv (hC (tn (aK tm x)) λn=>some (.I (.int .i64 n))):=bs
@[go_sem] def ax8 (x:bu):bD mem tm (.lens x)=iv (hC (xE (aK tm x)) λn=>some (.I (.int .i64 n))):=bs
@[go_sem] def ax9 (k:Key)(z:List H)(b:Nat)(s x:bu):bD mem tm (.app k z b s x)=qd mem k z b (aK tm s) (px mem (D z) (aK tm x)):=bs
@[go_sem] def aya (z:List H)(x:bu):bD mem tm (.tl z x)=wa mem z (aK tm x):=bs
@[go_sem] def ayb (s:Nat)(x y:bu):bD mem tm (.q2 s x y)=uI mem s (aK tm x) (px mem s (aK tm y)):=bs
@[go_sem] def ayc (b:Bool)(x y:bu):bD mem tm (.lS b x y)=iv (Hw b (aK tm x) (aK tm y)):=bs
@[go_sem] def ayd (f:FuncId)(l:List bu):bD mem tm (.uH f l)=some (.ee f (l.map (aK tm)),none):=bs
@[go_sem] def aye (n:Nat)(f:Nat->Option H):hC (some n) f=f n:=bs
@[go_sem] def ayf (n m:Nat)(f:Nat->Nat->Out):Hy (some n) (some m) f=f n m:=bs
def MK (n:Nat)(bH:Bool)(g off:Nat):Option (Nat×List H)->Option H
 |some (cv,cs)=>if cv=g then (cut cs off n).bind (oF bH) else none
 |none=>none
@[go_sem] def ayg (n:Nat)(bH:Bool)(k:Key)(g off:Nat):iW mem n bH (.ptr k g off)=MK n bH g off (mem k):=by unfold iW MK;rfl
@[go_sem] def ayh (n:Nat)(bH:Bool)(g off:Nat)(cs:List H):MK n bH g off (some (g,cs))=(cut cs off n).bind (oF bH):=by simp[MK]
@[go_sem] def ayi (n:Nat)(bH:Bool)(ds:List Data):iW mem n bH (.I (.ptr ds))=(cut (ds.map .I) 0 n).bind (oF bH):=bs
@[go_sem] def ayj (n:Nat)(k:Key)(g off:Nat)(v:List H):v9 mem n (.ptr k g off) v=Hz n k g off v (mem k):=bs
@[go_sem] def ayk (cs:List H):oF true cs=some (.agg cs):=bs
@[go_sem] def ayl (m:H):oF false [m]=some m:=bs
@[go_sem] def aym (cs:List H):(H.agg cs).cells=cs:=bs
@[go_sem] def ayn (cs:List Data):(H.I (.agg cs)).cells=cs.map .I:=bs
@[go_sem] def ayo (k:IntKind)(n:Int):(H.I (.int k n)).cells=[.I (.int k n)]:=bs
@[go_sem] def ayp (b:Bool):(H.I (.bool b)).cells=[.I (.bool b)]:=bs
@[go_sem] def ayq (l:List UInt8):(H.I (.str l)).cells=[.I (.str l)]:=bs
@[go_sem] def ayr (l:List (List Data)):(H.I (.ao l)).cells=[.I (.ao l)]:=bs
@[go_sem] def ays (l:List Data):(H.I (.ptr l)).cells=[.I (.ptr l)]:=bs
@[go_sem] def ayt (f:FuncId)(l:List Data):(H.I (.fn f l)).cells=[.I (.fn f l)]:=bs
@[go_sem] def ayu:H.nil.cells=[.nil]:=bs
@[go_sem] def ayv (k:Key)(g s o l:Nat):(H.ref k g s o l).cells=[.ref k g s o l]:=bs
@[go_sem] def ayw (k:Key)(g o:Nat):(H.ptr k g o).cells=[.ptr k g o]:=bs
@[go_sem] def ayx (f:FuncId)(l:List H):(H.ee f l).cells=[.ee f l]:=bs
@[go_sem] def ayy (k:IntKind)(n:Nat):idx (.I (.int k (n:Int)))=some n:=by simp[idx]
@[go_sem] def ayz (k:IntKind):idx (.I (.int k 0))=some 0:=bs
@[go_sem low] def ayA (k:IntKind)(n:Int):idx (.I (.int k n))=if 0<=n then some n.toNat else none:=bs
end
attribute [go_sem] Bk D1 D0 Hk Hn Ho D3 D4 Hp Hq Hr Hs Ht zC Rc Hu Hv Hw jx tn xE Hz uI zD wa Mj D6 D5 Hl Hm zB Mg kd kv cut chunk
 DZ Md Me Mf xG shut rV H.one H.known px rW cw zF HC qf qe D7 HE Re HF Rf HD Rd Mm uJ keyOf gh rX qg jl eW ke D9 jO
end Go.Mini
namespace Go.Mini
open Go
variable {P:Program} {A:Nat->Prop} {w:World} {B:cS} {mem:Mem}
def xY (w ak:World)(au:Nat->Prop)(sz:Nat)(es:List (List Data))(v:Value):Prop :=
 (∀e∈es,D e=sz)/\∃a cap,v=.slice a (D es) cap/\D es<=cap/\cap<=maxLen /\
  (cap=0\/∃b vs T,a=some ⟨b,0,none⟩/\w.heap.size<=b/\ak.heap[b]?=some (.cells vs T (0,0))/\cap*sz<=vs.size /\
   ∀(i:Nat) (d:Data),es.flatten[i]?=some d->∃u,vs[i]?=some u/\Den ak (λeF=>au eF\/eF=b) d u)
def RJ (P:Program)(f:FuncId)(vs:List Value)(A:Nat->Prop)(w:World)(B:cS)(mem:Mem):gG->Prop
 |.same r=>Calls P f vs.toArray w λe ak=>∃v,e=.returned v/\Fr (λ_=>False) w ak/\Den ak (bn A B) r v
 |.own sz es=>Calls P f vs.toArray w λe ak=>∃v,e=.returned v/\Fr (λ_=>False) w ak/\xY w ak (bn A B) sz es v
 |.rel bF=>Calls P f vs.toArray w λe ak=>∃v r mem' ay,e=.returned v/\c9 A w B ak ay mem'/\aY ak (bn A ay) ay r v/\bF r mem'
 |.xF r k=>Calls P f vs.toArray w λe ak=>∃v ay,e=.returned v/\c9 A w B ak ay (aT mem k (bz mem k) [])/\aY ak (bn A ay) ay (.I r) v
 |.dZ r k g i c=>Calls P f vs.toArray w λe ak=>∃v ay,e=.returned v/\c9 A w B ak ay (aT mem k g ((qe mem k).set i c))/\aY ak (bn A ay) ay (.I r) v
def Real (P : Program)(f : FuncId): Prop := ∃ fn c, P.funcs[f]? = some fn /\ fn.body = some c /\ (fn.name == "runtime.NumGoroutine") = false
def nh (P:Program)(T:bg):Prop:=∀f args mem oa,T f args mem=some oa->Real P f /\
 ∀A w B vs,dP A w B mem->cA w (bn A B) B args vs->RJ P f vs A w B mem oa
def Bx {f:FuncId}(h:Real P f)(args:Array Value):(callFunc f args).run P w=.ok (.enter f args) w:=by
 obtain⟨fn,c,aj,R,aA⟩:=h;have F : fn.name ≠ "runtime.NumGoroutine" := by simpa using aA
 simp[callFunc,aj,F,R]
def Den.less {w:World}{au hi:Nat->Prop}(h:∀b,hi b->au b){d:Data}{v:Value}(ad:Den w au d v):Den w hi d v :=
 ad.j9 (c8 _) λb _ R=>⟨rfl,λJ=>R (h b J)⟩
def xY.den {w ak:World}{au:Nat->Prop}{sz:Nat}{es:List (List Data)}{v:Value}(an:∀b,au b->b<w.heap.size)(h:xY w ak au sz es v):Den ak au (.ao es) v:=by
 obtain⟨he,a,cap,rfl,F,G,aa⟩:=h;rcases aa with rfl|⟨b,vs,T,rfl,aX,bt,bx,bK⟩
 ·have:es=[]:=q9 (by omega);subst this;exact .kP
 ·have mq:b<ak.heap.size:=(Array.getElem?_eq_some_iff.1 bt).1;refine .ao (sz:=sz) (λi=>vs.getD i undef) F (by omega) mq (λa4=>by have:=an b a4;omega) he (λi Z=>?_) λi d ad=>?_
  ·have an:i<D es.flatten:=by rw[L6 he];exact Z
   obtain⟨u,hu,_⟩:=bK i _ (bc an);rw[cell_of_row ak b _ vs T (0,0) bt,r1,Array.getD_eq_getD_getElem?,hu]
   rfl
  ·obtain⟨u,hu,ad⟩:=bK i d ad;rw[Array.getD_eq_getD_getElem?,hu];exact ad.less λb h => .inl h
def YG {ak:World}{sz:Nat}{es:List (List Data)}{v:Value}(k:Key)(bh:dP A w B mem)(f:Fr (λ_=>False) w ak)(h:xY w ak (bn A B) sz es v):
  ∃ay,c9 A w B ak ay (aT mem k (bz mem k) (es.flatten.map .I))/\aY ak (bn A ay) ay (.ref k (bz mem k) sz 0 (D es)) v:=by
 obtain⟨he,a,cap,rfl,F,G,aa⟩:=h;have still:=c9.still bh f;rcases aa with rfl|⟨b,vs,T,rfl,aX,bt,bx,bK⟩
 ·have:es=[]:=q9 (by omega);subst this;exact⟨_,still.trans (c9.wg still.cr k),.ref (fy _ _ _) (c8 _) ⟨_,0,rfl,F,G,.inl rfl⟩⟩
 ·have mq:b<ak.heap.size:=(Array.getElem?_eq_some_iff.1 bt).1
  have jP:∀eF,(⟨bz mem k,some b,vs.size,false⟩:ht).dj=some eF->w.heap.size<=eF\/∃e,B k=some e/\e.dj=some eF:=λeF hD=>by
   cases hD;exact .inl aX
  have jQ:=L6 he;have hmul:(D es)*sz<=cap*sz:=q7 _ F;have hold:∀eF,eF<w.heap.size->(∀e,B k=some e->e.dj≠some eF)->ak.heap[eF]?=w.heap[eF]?:=λeF hD _=>f.block eF hD id;have aL:∀e,B k=some e->(⟨bz mem k,some b,vs.size,false⟩:ht)=e\/e.g<(⟨bz mem k,some b,vs.size,false⟩:ht).g:=λe he => .inr (zG bh k e he);refine⟨e3 B k ⟨bz mem k,some b,vs.size,false⟩,⟨?_,Trans.change f.size hold aL jP,⟨f.os,f.tape,f.output,f.size,λeF hD _=>f.block eF hD id⟩,Mr jP⟩,?_⟩
  ·refine bh.Rh (e':=⟨bz mem k,some b,vs.size,false⟩) f.size hold aL jP (λh=>by cases h) λeF hD=>?_
   cases hD;refine .inl ⟨rfl,vs,T,bt,rfl,by rw[ah,jQ];omega,λi m hm=>?_⟩
   rw[bd,c2] at hm;obtain⟨d,ad,rfl⟩:=hm;obtain⟨u,hu,sb⟩:=bK i d ad;refine⟨u,hu,.I (sb.less λeF hD=>?_)⟩;rcases hD with ⟨j,e,Y,J⟩|ba
   ·by_cases b1:j=k
    ·subst b1;rw[fy] at Y
     cases Y
     cases J;exact .inr rfl
    ·rw[fl B _ b1] at Y;exact .inl (.inl ⟨j,e,Y,J⟩)
   ·exact .inl (.inr ba)
  ·exact .ref (fy _ _ _) (c8 _) ⟨_,cap,rfl,F,G,.inr ⟨b,rfl,λ_=>⟨rfl,by simpa using bx,rfl⟩⟩⟩
end Go.Mini
namespace Go.Mini
open Go
variable {P:Program} {b2:Option H} {T:bg} {A:Nat->Prop} {cq w:World} {dD B:cS} {mem:Mem} {n:Nat}
def HX (w:World)(au:Nat->Prop)(B:cS):Option H->List Deferred->Prop
 |none,ds=>ds=[]
 |some m,ds=>∃f dc vs,m=.ee f dc/\ds=[{ target:=.fn (.func f) vs,args:=#[] }]/\aY w au B m (.func (.func f) #[] vs)
def HX.j9 {ak:World}{ay:cS}(t:Trans A w B ak ay):∀{d:Option H} {ds:List Deferred},HX w (bn A B) B d ds->HX ak (bn A ay) ay d ds
 |none,_,h=>h
 |some _,_,⟨f,dc,vs,F,G,aa⟩=>⟨f,dc,vs,F,G,aa.j9 t⟩
structure dR (b2:Option H) (n:Nat) (A:Nat->Prop) (cq:World) (dD:cS) (a:Act) (st:a6) (w:World) (B:cS):Prop where
 ok:c9 A cq dD w B st.mem
 tm:∀s,aY w (bn A B) B (st.tm s) (a.eval (.tmp s))
 sz:a.tmps.size=n
 wu:HX w (bn A B) B b2 a.defers
def dR.kh {a:Act}{st:a6}(h:dR b2 n A cq dD a st w B)(x:Operand)(y:bu)(J:cN x=some y):aY w (bn A B) B (aK st.tm y) (a.eval x):=by
 cases x<;>simp only[cN,bM,c2,reduceCtorEq] at J
 ·subst J;exact h.tm _
 ·obtain⟨m,hm,rfl⟩:=J;exact XW hm
 ·subst J;exact .ee (vs:=[]) rfl λi d v F=>by simp at F
def aj0 {a:Act}{s:Nat}{v:Value}(h:s<a.tmps.size):(a.put (some s) v).eval (.tmp s)=v:=by
 simp[Act.eval,Act.put,h]
def dR.put {a:Act}{st:a6}{ak:World}{ay:cS}{mem':Mem}{dst:Option Nat}{r:H}{v:Value}(h:dR b2 n A cq dD a st w B)(O:c9 A w B ak ay mem')(L:aY ak (bn A ay) ay r v)
  (ad:dst.all (λd=>decide (d<n))=true):dR b2 n A cq dD (a.put dst v) ⟨Mini.put st.tm dst r,mem'⟩ ak ay:=by
 refine⟨h.ok.trans O,λs=>?_,?_,?_⟩
 ·cases dst with
  |none=>exact (h.tm s).j9 O.iH
  |some d =>
   simp only[Option.all_some,decide_eq_true_eq] at ad
   by_cases RK:s=d
   ·subst RK;rw[aj0 (by rw[h.sz];exact ad)];simp only[Mini.put,dZ,if_true];exact L
   ·rw[Act.eval_put (λqt F G=>by cases F;cases G;exact RK rfl)];simp only[Mini.put,dZ,aR RK];exact (h.tm s).j9 O.iH
 ·cases dst<;>simp[Act.put,h.sz]
 ·have mP:(a.put dst v).defers=a.defers:=by cases dst<;>rfl
  rw[mP];exact h.wu.j9 O.iH
def zP {a:Act}{st:a6}{ops:Array Oper}{o:Oper}{g:Option (Nat×Bool)}{b:Bool}(h:dR b2 n A cq dD a st w B)(aL:HI ops o.guard=some g)(R:g8 st.tm g=some b):
  Region.wanted o (yielded ops a.tmps)=b:=by
 unfold Region.wanted
 cases qk:o.guard with
 |none =>
  rw[qk] at aL;simp only[HI,bM] at aL;subst aL;simp only[g8,bM] at R;exact R
 |some p =>
  obtain⟨j,c⟩:=p;rw[qk] at aL;simp only[HI] at aL
  split at aL
  ·rename_i s O;simp only[bM] at aL;subst aL;have al:=h.tm s
   have ai:yielded ops a.tmps j=match a.eval (.tmp s) with|.bool b=>some b|_=>none:=by
    unfold yielded;rw[O];simp only[Option.bind_some,Act.eval,Array.getD_eq_getD_getElem?]
    cases a.tmps[s]? with
    |none=>rfl
    |some v=>cases v<;>rfl
   simp only[g8] at R;simp only[ai]
   split at R
   ·rename_i t bL;rw[bL] at al
    cases al with
    |I al =>
     generalize a.eval (.tmp s)=u at *
     cases al;simp only[bM] at R;subst R
     cases t<;>cases c<;>simp
   ·rename_i bL;rw[bL] at al;generalize a.eval (.tmp s)=u at *
    cases al;simp only[bM] at R;subst R
    rfl
   ·cases R
  ·cases aL
def HY {kb:Nat}{own:List Nat}{dst:Option Nat}{ty:TypeId}{op:Op}{f:FuncId}{args:List bu}(h:gW P kb own dst ty op=some (.call f args)):
  ∃c:Call,op=.call c/\c.callee=.value (.func f)/\c.args.toList.mapM cN=some args:=by
 cases op<;>simp only[gW,tu,tt] at h
 case call c =>
  refine⟨c,rfl,?_⟩;unfold rZ at h
  (repeat' split at h)<;>simp_all [dH,c2]
 all_goals ((repeat' split at h)<;>simp_all [dH,c2])
def aj1 {kb:Nat}{own:List Nat}{dst:Option Nat}{ty:TypeId}{op:Op}{f:FuncId}{b6:Nat}{args:List bu}(h:gW P kb own dst ty op=some (.kQ b6 f args)):
  ∃c:Call,op=.call c/\c.callee=.value (.func f)/\c.args.toList.mapM cN=some args:=by
 cases op<;>simp only[gW,tu,tt] at h
 case call c =>
  refine⟨c,rfl,?_⟩;unfold rZ at h
  (repeat' split at h)<;>simp_all [dH,c2]
  all_goals
   obtain⟨_,F,_,rfl,rfl⟩:=h;exact⟨rfl,F⟩
 all_goals ((repeat' split at h)<;>simp_all [dH,c2])
def aj2 {kb:Nat}{own:List Nat}{dst:Option Nat}{ty:TypeId}{op:Op}{f:FuncId}{b6:Nat}{args:List bu}(h:gW P kb own dst ty op=some (.qb b6 f args)):
  ∃c:Call,op=.call c/\c.callee=.value (.func f)/\c.args.toList.mapM cN=some args:=by
 cases op<;>simp only[gW,tu,tt] at h
 case call c =>
  refine⟨c,rfl,?_⟩;unfold rZ at h
  (repeat' split at h)<;>simp_all [dH,c2]
  all_goals
   obtain⟨_,F,_,rfl,rfl⟩:=h;exact⟨rfl,F⟩
 all_goals ((repeat' split at h)<;>simp_all [dH,c2])
def aj3 {kb:Nat}{own:List Nat}{dst:Option Nat}{ty:TypeId}{op:Op}{f:FuncId}{b6:Nat}{args:List bu}(h:gW P kb own dst ty op=some (.qc b6 f args)):
  ∃c:Call,op=.call c/\c.callee=.value (.func f)/\c.args.toList.mapM cN=some args:=by
 cases op<;>simp only[gW,tu,tt] at h
 case call c =>
  refine⟨c,rfl,?_⟩;unfold rZ at h
  (repeat' split at h)<;>simp_all [dH,c2]
  all_goals
   obtain⟨_,F,_,rfl,rfl⟩:=h;exact⟨rfl,F⟩
 all_goals ((repeat' split at h)<;>simp_all [dH,c2])
def YH {kb:Nat}{own:List Nat}{dst:Option Nat}{ty:TypeId}{op:Op}{f:FuncId}{k:Key}{sz:Nat}{args:List bu}(h:gW P kb own dst ty op=some (.lb k sz f args)):
  ∃c:Call,op=.call c/\c.callee=.value (.func f)/\c.args.toList.mapM cN=some args:=by
 cases op<;>simp only[gW,tu,tt] at h
 case call c =>
  refine⟨c,rfl,?_⟩;unfold rZ at h
  (repeat' split at h)<;>simp_all [dH,c2]
  obtain⟨_,_,_,_,_,F,_,_,rfl,rfl⟩:=h;exact⟨rfl,F⟩
 all_goals ((repeat' split at h)<;>simp_all [dH,c2])
def RL {kb:Nat}{own:List Nat}{dst:Option Nat}{ty:TypeId}{op:Op}{f:bu}{args:List bu}(h:gW P kb own dst ty op=some (.jN f args)):
  ∃(c:Call) (x:Operand),op=.call c/\c.callee=.value x/\cN x=some f/\c.args.toList.mapM cN=some args:=by
 cases op<;>simp only[gW,tu,tt] at h
 case call c =>
  refine⟨c,?_⟩;unfold rZ at h
  (repeat' split at h)<;>simp_all [dH,c2]
 all_goals ((repeat' split at h)<;>simp_all [dH,c2])
def YI {kb:Nat}{own:List Nat}{dst:Option Nat}{ty:TypeId}{op:Op}{neg:Bool}{x:bu}(h:gW P kb own dst ty op=some (.lR neg x)):
  ∃(t e:TypeId) (y y':Operand) (z:TypeId),op=.binOp (if neg then .neq else .eql) t y y' z/\Mq y'=true/\P.underlying t=some (.slice e)/\cN y=some x:=by
 cases op<;>simp only[gW,tu,tt] at h
 case call c =>
  unfold rZ at h
  (repeat' split at h)<;>simp_all [dH,c2]
 case binOp HV t y y' z =>
  (repeat' split at h)<;>simp_all [dH,c2]
  all_goals
   obtain⟨F,rfl⟩:=h;exact⟨_,_,_,_,⟨rfl,rfl,rfl⟩,by assumption,by assumption,F⟩
 all_goals ((repeat' split at h)<;>simp_all [dH,c2])
end Go.Mini
namespace Go.Mini
open Go
variable {P:Program} {b2:Option H} {T:bg} {A:Nat->Prop} {cq w:World} {dD B:cS} {mem:Mem} {n:Nat}
def YJ {t e:TypeId}{y y':Operand}{m:H}{u v:Value}{au:Nat->Prop}{full:Bool}(neg:Bool)(bL:P.underlying t=some (.slice e))(hm:aY w au B m u)(aj:xG m=some full)(al:v=.slice none 0 0):
  ∃b:Bool,(full=true->b=false)/\((do eqGuard (if neg then .neq else .eql) t y y' u v;binOp (if neg then .neq else .eql) t u v:Sem Value)).run P w=.ok (.bool (neg != b)) w:=by
 subst al
 have shape:∃a len cap,u=.slice a len cap/\(full=true->a.isNone=false):=by
  cases m<;>simp only[xG,reduceCtorEq] at aj
  case I d =>
   cases d<;>simp only[xG,bM,reduceCtorEq] at aj
   cases hm with
   |I ad =>
    cases ad with
    |kP=>exact⟨_,_,_,rfl,λh=>by cases aj;cases h⟩
    |ao=>exact⟨_,_,_,rfl,λ_=>rfl⟩
  case nil =>
   cases hm with
   |nil=>exact⟨_,_,_,rfl,λh=>by cases aj;cases h⟩
  case ref k g sz off len =>
   cases hm with
   |ref he aL L =>
    obtain⟨a,cap,rfl,F,G,aa⟩:=L;refine⟨_,_,_,rfl,λh=>?_⟩;simp only[bM] at aj;subst aj;simp only[decide_eq_true_eq] at h;rcases aa with aa|⟨b,rfl,_⟩
    ·omega
    ·rfl
 obtain⟨a,len,cap,rfl,R⟩:=shape;refine⟨a.isNone,R,?_⟩
 have he:∀d,(Op.equalIn (d+1) t (.slice a len cap) (.slice none 0 0)).run P w=.ok a.isNone w:=λd=>by
  unfold Op.equalIn;simp only[Sem.run_bind,run_underlying bL,Result.andThen_ok]
  cases a<;>rfl
 have heq:(Op.equal t (.slice a len cap) (.slice none 0 0)).run P w=.ok a.isNone w:=he 9999;rw[Ms (by simp) (by simp)]
 cases neg
 ·simp only[cC,if_false,Sem.run_bind,Sem.run_pure,Result.andThen_ok];show (do pure (Value.bool (<-Op.equal t (.slice a len cap) (.slice none 0 0))):Sem Value).run P w=_
  simp[heq]
 ·simp only[if_true,Sem.run_bind,Sem.run_pure,Result.andThen_ok];show (do pure (Value.bool (!(<-Op.equal t (.slice a len cap) (.slice none 0 0)))):Sem Value).run P w=_
  simp[heq]
structure Es (P:Program) (n kb:Nat) (own:List Nat) (ops:Array Oper) (o:Oper) (i:bw):Prop where
 dst:i.dst=o.dst
 guard:HI ops o.guard=some i.g
 op:i.op=(gW P kb own o.dst o.type o.op).getD .bad
 lt:o.dst.all (λd=>decide (d<n))=true
def HZ {kb:Nat}{own:List Nat}{ops:Array Oper}{o:Oper}{i:bw}(h:nC P n kb own ops o=some i):Es P n kb own ops o i:=by
 unfold nC at h
 split at h
 ·rename_i g aL
  split at h
  ·rename_i an
   cases h;exact⟨rfl,aL,rfl,an⟩
  ·cases h
 ·cases h
def aj4 {K:a6->Prop}{i:bw}{st:a6}(h:gg T K i st):
  (∃m e,bD st.mem st.tm i.op=some (m,e)/\K ⟨put st.tm i.dst m,gf st.mem e⟩) \/
  (∃f args,i.op=.call f args/\tp T K st i.dst f (args.map (aK st.tm))) \/
  (∃k sz f args es,i.op=.lb k sz f args/\T f (args.map (aK st.tm)) st.mem=some (.own sz es)/\K ⟨put st.tm i.dst (.ref k (bz st.mem k) sz 0 (D es)),aT st.mem k (bz st.mem k) (es.flatten.map .I)⟩) \/
  (∃f args,i.op=.jN f args/\((∃g dc,aK st.tm f=.ee g dc/\tp T K st i.dst g (args.map (aK st.tm)++dc))\/(∃g ds,aK st.tm f=.I (.fn g ds)/\tp T K st i.dst g (args.map (aK st.tm)++ds.map .I)))) \/
  (∃neg x full,i.op=.lR neg x/\xG (aK st.tm x)=some full/\∀b:Bool,(full=true->b=false)->K ⟨put st.tm i.dst (.I (.bool (neg != b))),st.mem⟩):=by
 obtain⟨dst,g,op⟩:=i;unfold gg at h
 split at h
 ·rename_i f args e4;exact .inr (.inl ⟨f,args,e4,h⟩)
 ·rename_i k sz f args e4
  split at h
  ·rename_i eg es he
   split at h
   ·rename_i O;subst O;exact .inr (.inr (.inl ⟨k,_,f,args,es,e4,he,h⟩))
   ·cases h
  ·cases h
 ·rename_i f args e4;refine .inr (.inr (.inr (.inl ⟨f,args,e4,?_⟩)))
  split at h
  ·rename_i g dc aj;exact .inl ⟨g,dc,aj,h⟩
  ·rename_i g ds aj;exact .inr ⟨g,ds,aj,h⟩
  ·cases h
 ·rename_i neg x e4
  split at h
  ·rename_i full aj;exact .inr (.inr (.inr (.inr ⟨neg,x,full,e4,aj,h⟩)))
  ·cases h
 ·split at h
  ·rename_i m e he;exact .inl ⟨m,e,he,h⟩
  ·cases h
def getD_some {α:Type}{x:Option α}{b c:α}(h:c=x.getD b)(R:c≠b):x=some c:=by
 cases x with
 |none=>exact absurd h R
 |some y=>simp at h;rw[h]
def YK (cu:nh P T){K:a6->Prop}{a:Act}{st:a6}{o:Oper}{a3:Exit->Act->World->Prop}{f:FuncId}{args:List H}{vs:List Value}(h:dR b2 n A cq dD a st w B)(an:o.dst.all (λd=>decide (d<n))=true)
  (al:cA w (bn A B) B args vs) (Q:tp T K st o.dst f args) (eM:Real P f->(execOp a.eval o).run P w=.ok (.enter f vs.toArray) w) :
  o.wp P a w (λcB ak=>∃cb ay,K cb/\dR b2 n A cq dD cB cb ak ay) a3:=by
 unfold tp at Q;unfold Oper.wp
 cases hG:T f args st.mem with
 |none=>rw[hG] at Q;exact Q.elim
 |some oa =>
  obtain⟨gy,iM⟩:=cu f args st.mem oa hG;have U:=iM A w B vs h.ok.cr al;rw[hG] at Q;rw[eM gy]
  cases oa with
  |same r =>
   refine Calls.mono U λe ak he=>?_;obtain⟨v,rfl,dq,ad⟩:=he;exact⟨_,B,Q,h.put (.still h.ok.cr dq) (.I ad) an⟩
  |own sz es =>
   refine Calls.mono U λe ak he=>?_;obtain⟨v,rfl,dq,ad⟩:=he;refine⟨_,B,Q,h.put (.still h.ok.cr dq) (.I (ad.den λb R=>?_)) an⟩;rcases R with R|R
   ·exact h.ok.cr.rU R
   ·exact h.ok.cr.lt b R
  |xF r k =>
   refine Calls.mono U λe ak he=>?_;obtain⟨v,ay,rfl,df,kR⟩:=he;exact⟨_,ay,Q,h.put df kR an⟩
  |rel bF =>
   refine Calls.mono U λe ak he=>?_;obtain⟨v,r,mem',ay,rfl,O,ad,ec⟩:=he;exact⟨_,ay,Q r mem' ec,h.put O ad an⟩
  |dZ r k g i c =>
   refine Calls.mono U λe ak he=>?_;obtain⟨v,ay,rfl,O,ad⟩:=he;exact⟨_,ay,Q,h.put O ad an⟩
def H0 {au:Nat->Prop}{m:H}{u:Value}{g:FuncId}{dc:List H}(hm:aY w au B m u)(h:m=.ee g dc\/∃ds,m=.I (.fn g ds)/\dc=ds.map .I):
  ∃cs:List Value,u=.func (.func g) #[] cs.toArray/\cA w au B dc cs:=by
 rcases h with rfl|⟨ds,rfl,rfl⟩
 ·cases hm with
  |ee ae ad=>exact⟨_,rfl,ae,ad⟩
 ·cases hm with
  |I ad =>
   cases ad with
   |fn ae ad=>exact⟨_,rfl,cA.I ae ad⟩
def aj5 (cu:nh P T){K:a6->Prop}{kb:Nat}{own:List Nat}{ops:Array Oper}{a:Act}{st:a6}{o:Oper}{i:bw}{a3:Exit->Act->World->Prop}(h:dR b2 n A cq dD a st w B)(Z:Es P n kb own ops o i)
  (Q:gg T K i st):o.wp P a w (λcB ak=>∃cb ay,K cb/\dR b2 n A cq dD cB cb ak ay) a3:=by
 have e4:=Z.op;rcases aj4 Q with ⟨m,e,O,eh⟩|⟨f,args,he,eh⟩|⟨k,sz,f,args,es,he,hG,eh⟩|⟨f,args,he,eh⟩|⟨neg,x,full,he,aj,eh⟩
 ·have aw:gW P kb own o.dst o.type o.op=some i.op:=getD_some e4 (by
   intro R;rw[R] at O
   cases O)
  obtain⟨zQ,v,ak,ay,eM,jo,df,al⟩:=RG h.ok.cr h.kh (λ_=>rfl) aw O;unfold Oper.wp;rw[eM];rw[Z.dst] at eh;have xZ:=h.put df al Z.lt;rcases jo with rfl|⟨rfl,rfl⟩
  ·exact⟨_,ay,eh,xZ⟩
  ·exact⟨_,ay,eh,xZ⟩
 ·have aw:gW P kb own o.dst o.type o.op=some i.op:=getD_some e4 (by rw[he];simp);rw[he] at aw;obtain⟨c,U,hV,jq⟩:=HY aw;rw[Z.dst] at eh;refine YK cu h Z.lt (qs h.kh jq) eh λgy=>?_;obtain⟨dst,op,type,pos,after,guard⟩:=o;simp only at U;subst U;obtain⟨callee,sc,zR⟩:=c;simp only at hV;subst hV;simp only[execOp,resolve,Deferred.ofValue,Act.eval,invoke,Sem.run_bind,Sem.run_pure,Result.andThen_ok,Bx gy];rw[wo sc];simp
 ·have aw:gW P kb own o.dst o.type o.op=some i.op:=getD_some e4 (by rw[he];simp);rw[he] at aw;obtain⟨c,U,hV,jq⟩:=YH aw;rw[Z.dst] at eh;obtain⟨gy,iM⟩:=cu f _ st.mem _ hG;have mo:=iM A w B _ h.ok.cr (qs h.kh jq);have an:=Z.lt;obtain⟨dst,op,type,pos,after,guard⟩:=o;simp only at U;subst U;obtain⟨callee,sc,zR⟩:=c;simp only at hV jq;subst hV
  have eM:(execOp a.eval ⟨dst,.call ⟨.value (.func f),sc,zR⟩,type,pos,after,guard⟩).run P w=.ok (.enter f (sc.toList.map a.eval).toArray) w:=by
   simp only[execOp,resolve,Deferred.ofValue,Act.eval,invoke,Sem.run_bind,Sem.run_pure,Result.andThen_ok,Bx gy];rw[wo sc];simp
  unfold Oper.wp;rw[eM];refine Calls.mono mo λe ak oM=>?_;obtain⟨v,rfl,dq,ad⟩:=oM;obtain⟨ay,df,al⟩:=YG k h.ok.cr dq ad;exact⟨_,ay,eh,h.put df al an⟩
 ·have aw:gW P kb own o.dst o.type o.op=some i.op:=getD_some e4 (by rw[he];simp);rw[he] at aw;obtain⟨c,x,U,hV,J,jq⟩:=RL aw;rw[Z.dst] at eh;have ML:=h.kh _ _ J
  have main:∀g dc,(aK st.tm f=.ee g dc\/∃ds,aK st.tm f=.I (.fn g ds)/\dc=ds.map .I)->tp T K st o.dst g (args.map (aK st.tm)++dc)->o.wp P a w (λcB ak=>∃cb ay,K cb/\dR b2 n A cq dD cB cb ak ay) a3:=by
   intro g dc aL eh;obtain⟨cs,hu,b7⟩:=H0 ML aL;refine YK cu h Z.lt ((qs h.kh jq).append b7) eh λgy=>?_;obtain⟨dst,op,type,pos,after,guard⟩:=o;simp only at U;subst U;obtain⟨callee,sc,zR⟩:=c;simp only at hV;subst hV;simp only[execOp,resolve,hu,Deferred.ofValue,invoke,Sem.run_bind,Sem.run_pure,Result.andThen_ok,Bx gy];rw[wo sc];simp
  rcases eh with ⟨g,dc,aL,eh⟩|⟨g,ds,aL,eh⟩
  ·exact main g dc (.inl aL) eh
  ·exact main g _ (.inr ⟨ds,aL,rfl⟩) eh
 ·have aw:gW P kb own o.dst o.type o.op=some i.op:=getD_some e4 (by rw[he];simp);rw[he] at aw;obtain⟨t,e,y,y',z,U,aA,bL,ai⟩:=YI aw;rw[Z.dst] at eh
  have H2:a.eval y' = .slice none 0 0:=by
   unfold Mq at aA
   split at aA
   ·rfl
   ·cases aA
  obtain⟨b,R,eM⟩:=YJ (y:=y) (y':=y') neg bL (h.kh _ _ ai) aj H2;obtain⟨dst,op,type,pos,after,guard⟩:=o;simp only at U;subst U;unfold Oper.wp
  have:(execOp a.eval ⟨dst,.binOp (if neg then .neq else .eql) t y y' z,type,pos,after,guard⟩).run P w=.ok (.value (.bool (neg != b))) w:=by
   simp only[execOp];rw[Sem.run_bind,eM]
   rfl
  rw[this];exact⟨_,B,eh b R,h.put (.refl h.ok.cr) (.I .bool) Z.lt⟩
end Go.Mini
namespace Go.Mini
open Go
variable {T:bg}
def ew {tm tm':Nat->H}{x:bu}(h:∀s∈et x,tm s=tm' s):aK tm x=aK tm' x:=by
 cases x with
 |t s=>exact h s (by simp[et])
 |c m=>rfl
def map_congr {tm tm':Nat->H}{l:List bu}(h:∀s∈l.flatMap et,tm s=tm' s):l.map (aK tm)=l.map (aK tm') :=
 YL λx J=>ew λs O=>h s (By.2 ⟨x,J,O⟩)
def H3 {tm tm':Nat->H}{l:List bu}(h:∀s∈l.flatMap et,tm s=tm' s):(l.map λx=>shut (aK tm x))=l.map λx=>shut (aK tm' x) :=
 YL λx J=>by rw[ew λs O=>h s (By.2 ⟨x,J,O⟩)]
def Bz {tm tm':Nat->H}{x:Option bu}(h:∀s∈wc x,tm s=tm' s):x.map (aK tm)=x.map (aK tm'):=by
 cases x with
 |none=>rfl
 |some x =>
  cases x with
  |t s=>simp[aK,h s (by simp[wc])]
  |c m=>rfl
def RM {tm tm':Nat->H}:∀{cT:List (Nat×Nat×bu)} (cs:List H),(∀s∈cT.flatMap (λp=>et p.2.2),tm s=tm' s)->kd (aK tm) cs cT=kd (aK tm') cs cT
 | [],_,_=>rfl
 |(o,s,x)::cT,cs,h=>by
  have F:aK tm x=aK tm' x:=ew λt bL=>h t (By.2 ⟨(o,s,x),by simp,bL⟩);simp only[kd,F]
  split
  ·exact RM _ λt bL=>h t (by simp only[List.flatMap_cons,h5];exact .inr bL)
  ·rfl
def aj6 {mem:Mem}{tm tm':Nat->H}{op:fM}(h:∀s∈oG op,tm s=tm' s):bD mem tm op=bD mem tm' op:=by
 cases op<;>simp only[oG,h5] at h
 case iu x=>simp only[bD,jk,ew h]
 case pick c a b=>simp only[bD,jk,ew (λs O=>h s (.inl (.inl O))),ew (λs O=>h s (.inl (.inr O))),ew (λs O=>h s (.inr O))]
 case alloc=>rfl
 case box k x=>simp only[bD,ew h]
 case build z cT=>simp only[bD,jk,RM _ h]
 case dM k o z sz len cT=>cases o<;>simp only[bD,jk,RM _ h]
 case load n bH x=>simp only[bD,ew h]
 case store n x v=>simp only[bD,ew (λs O=>h s (.inl O)),ew (λs O=>h s (.inr O))]
 case bin o x y=>simp only[bD,jk,ew (λs O=>h s (.inl O)),ew (λs O=>h s (.inr O))]
 case beq o x y=>simp only[bD,jk,ew (λs O=>h s (.inl O)),ew (λs O=>h s (.inr O))]
 case eqs o l x y=>simp only[bD,jk,ew (λs O=>h s (.inl O)),ew (λs O=>h s (.inr O))]
 case lR=>rfl
 case un o x=>simp only[bD,jk,ew h]
 case conv k x=>simp only[bD,jk,ew h]
 case uF x=>simp only[bD,jk,ew h]
 case la k z b x y=>simp only[bD,ew (λs O=>h s (.inl O)),ew (λs O=>h s (.inr O))]
 case tj o x=>simp only[bD,jk,ew h]
 case xC o n bH x=>simp only[bD,jk,ew h]
 case uG s x i=>simp only[bD,jk,ew (λs O=>h s (.inl O)),ew (λs O=>h s (.inr O))]
 case Bh n s x i=>simp only[bD,jk,ew (λs O=>h s (.inl O)),ew (λs O=>h s (.inr O))]
 case idxs x i=>simp only[bD,jk,ew (λs O=>h s (.inl O)),ew (λs O=>h s (.inr O))]
 case q1 s x a b c =>
  have F:=ew (λs O=>h s (.inl (.inl (.inl O))));have G:=Bz (λs O=>h s (.inl (.inl (.inr O))));have aa:=Bz (λs O=>h s (.inl (.inr O)));have aX:=Bz (λs O=>h s (.inr O))
  cases b<;>cases c<;>simp only[kU,YM,bM] at aa aX<;>simp only[bD,jk,kU,YM,F,G,aa,aX]
 case tk n s x a b c =>
  have F:=ew (λs O=>h s (.inl (.inl (.inl O))));have G:=Bz (λs O=>h s (.inl (.inl (.inr O))));have aa:=Bz (λs O=>h s (.inl (.inr O)))
  cases c<;>simp only[bD,jk,F,G,aa]
 case Bi x a b=>simp only[bD,jk,ew (λs O=>h s (.inl (.inl O))),Bz (λs O=>h s (.inl (.inr O))),Bz (λs O=>h s (.inr O))]
 case ext i x=>simp only[bD,jk,ew h]
 case len x=>simp only[bD,jk,ew h]
 case lens x=>simp only[bD,jk,ew h]
 case app k z b s x=>simp only[bD,ew (λs O=>h s (.inl O)),ew (λs O=>h s (.inr O))]
 case q2 s d x=>simp only[bD,ew (λs O=>h s (.inl O)),ew (λs O=>h s (.inr O))]
 case tl z x=>simp only[bD,ew h]
 case lS o x y=>simp only[bD,jk,ew (λs O=>h s (.inl O)),ew (λs O=>h s (.inr O))]
 case call=>rfl
 case lb=>rfl
 case jN=>rfl
 case kQ=>rfl
 case qb=>rfl
 case qc=>rfl
 case uH f l=>simp only[bD,jk,map_congr h]
 case DX t x=>simp only[bD,jk,ew h]
 case L8 t o z x=>simp only[bD,jk,ew h]
 case Bj n i x=>simp only[bD,jk,ew h]
 case Ma l s a x i=>simp only[bD,jk,ew (λs O=>h s (.inl O)),ew (λs O=>h s (.inr O))]
 case v8=>rfl
 case zA o z x i=>simp only[bD,ew (λs O=>h s (.inl O)),ew (λs O=>h s (.inr O))]
 case xD x i v=>simp only[bD,ew (λs O=>h s (.inl (.inl O))),ew (λs O=>h s (.inl (.inr O))),ew (λs O=>h s (.inr O))]
 case bad=>rfl
def MM {mem:Mem}{tm tm':Nat->H}{op:fM}(h:∀s∈oG op,tm s=tm' s):eW T mem tm op=eW T mem tm' op:=by
 cases op
 case call f l =>
  have:=H3 (l:=l) (tm:=tm) (tm':=tm') (by simpa [oG] using h);simp only[eW,this]
 case lb k sz f l =>
  have:=H3 (l:=l) (tm:=tm) (tm':=tm') (by simpa [oG] using h);simp only[eW,this]
 case jN f l =>
  simp only[oG,h5] at h;have F:=ew (x:=f) (tm:=tm) (tm':=tm') λs O=>h s (.inl O);have G:=H3 (l:=l) (tm:=tm) (tm':=tm') λs O=>h s (.inr O);simp only[eW,F,G]
 case lR=>rfl
 case kQ b6 f l =>
  have:=map_congr (l:=l) (tm:=tm) (tm':=tm') (by simpa [oG] using h);simp only[eW,this]
 case qb j f l =>
  have F:=map_congr (l:=l) (tm:=tm) (tm':=tm') (by simpa [oG] using h);have G:=H3 (l:=l) (tm:=tm) (tm':=tm') (by simpa [oG] using h);simp only[eW,F,G]
 case qc j f l =>
  have F:=map_congr (l:=l) (tm:=tm) (tm':=tm') (by simpa [oG] using h);have G:=H3 (l:=l) (tm:=tm) (tm':=tm') (by simpa [oG] using h);simp only[eW,F,G]
 all_goals exact aj6 (mem:=mem) h
def MN {tm tm':Nat->H}{op:fM}(h:∀s∈oG op,tm s=tm' s):cw tm op=cw tm' op:=by
 cases op<;>simp only[oG,h5] at h<;>try rfl
 case dM k o z sz len cT=>cases o<;>rfl
 case load n bH x=>simp only[cw,ew h]
 case tk n s x a b c=>simp only[cw,ew (λs O=>h s (.inl (.inl (.inl O))))]
 case store n x v=>simp only[cw,ew (λs O=>h s (.inl O))]
 case app k z b s x=>simp only[cw,ew (λs O=>h s (.inl O)),ew (λs O=>h s (.inr O))]
 case q2 s d x=>simp only[cw,ew (λs O=>h s (.inl O)),ew (λs O=>h s (.inr O))]
 case kQ b6 f l=>simp only[cw,map_congr h]
 case qb j f l=>simp only[cw,map_congr h]
 case qc j f l=>simp only[cw,map_congr h]
 case tl z x=>simp only[cw,ew h]
 case zA o z x i=>simp only[cw,ew (λs O=>h s (.inl O))]
 case xD x i v=>simp only[cw,ew (λs O=>h s (.inl (.inl O)))]
def aj7 {n:Nat}{m:H}{a3:Key->Prop}(h:∀x∈zF n m,a3 x.key):∀j∈keyOf m,a3 j:=by
 cases m<;>simp_all [zF,keyOf,lg.key]
def YN {mem mem':Mem}{sz:Nat}{m:H}(h:∀k∈keyOf m,mem k=mem' k):px mem sz m=px mem' sz m:=by
 cases m<;>try rfl
 case I d=>cases d<;>rfl
 simp only[px];rw[h _ (by simp[keyOf])]
def aj8 {mem mem':Mem}{k:Key}{z:List H}{b:Nat}{m:H}{row:Option (Nat×List H)}(Q:mem k=mem' k)(h:∀j∈keyOf m,mem j=mem' j):qd mem k z b m row=qd mem' k z b m row:=by
 cases m<;>cases row<;>try rfl
 ·simp only[qd,bz,Q]
 ·simp only[qd];rw[h _ (by simp[keyOf])]
def aj9 {mem mem':Mem}{sz:Nat}{m:H}{row:Option (Nat×List H)}(h:∀j∈keyOf m,mem j=mem' j):uI mem sz m row=uI mem' sz m row:=by
 cases m<;>cases row<;>try rfl
 simp only[uI];rw[h _ (by simp[keyOf])]
def aka {mem mem':Mem}{z:List H}{m:H}(h:∀j∈keyOf m,mem j=mem' j):wa mem z m=wa mem' z m:=by
 cases m<;>try rfl
 simp only[wa];rw[h _ (by simp[keyOf])]
def RN {mem mem':Mem}{n:Nat}{bH:Bool}{m:H}(h:∀j∈keyOf m,mem j=mem' j):iW mem n bH m=iW mem' n bH m:=by
 cases m<;>try rfl
 case I d=>cases d<;>rfl
 simp only[iW];rw[h _ (by simp[keyOf])]
def akb {mem mem':Mem}{n:Nat}{m:H}{v:List H}(h:∀j∈keyOf m,mem j=mem' j):v9 mem n m v=v9 mem' n m v:=by
 cases m<;>try rfl
 simp only[v9];rw[h _ (by simp[keyOf])]
def akc {mem mem':Mem}{n s a b:Nat}{m:H}(h:∀j∈keyOf m,mem j=mem' j):zC mem n s a b m=zC mem' n s a b m:=by
 cases m<;>try rfl
 simp only[zC];rw[h _ (by simp[keyOf])]
def YO {mem mem':Mem}{m:H}(h:∀j∈HB m,mem j=mem' j):zE mem m=zE mem' m:=by
 cases m<;>try rfl
 simp only[zE];rw[h _ (by simp[HB])]
def akd {mem mem':Mem}{tm:Nat->H}{op:fM}(h:∀x∈cw tm op,mem x.key=mem' x.key):bD mem tm op=bD mem' tm op:=by
 have zQ:∀k,mem k=mem' k->bz mem k=bz mem' k:=λk Q=>by simp only[bz,Q]
 cases op<;>try rfl
 case alloc k z=>simp only[bD,zQ k (h (.fT k) (by simp[cw]))]
 case box k x=>simp only[bD,zQ k (h (.fT k) (by simp[cw]))]
 case dM k o z sz len cT =>
  cases o
  ·rfl
  ·simp only[bD,zQ k (h (.fT k) (by simp[cw]))]
 case la k z b x y=>simp only[bD,zQ k (h (.fT k) (by simp[cw]))]
 case load n bH x =>
  simp only[bD];rw[RN (aj7 (a3:=λj=>mem j=mem' j) h)]
 case tk n s x a b c =>
  cases c
  ·simp only[bD]
   congr 2
   funext l
   congr 1
   funext bk
   exact akc λj Y=>h (.fT j) (by simp[cw,Y])
  ·rfl
 case store n x v =>
  simp only[bD];exact akb λj Y=>h (.fT j) (by simp[cw,Y])
 case app k z b s x =>
  have cG:∀j,j=k\/j∈keyOf (aK tm s)\/j∈keyOf (aK tm x)->mem j=mem' j:=λj Y=>h (.fT j) (by simpa [cw] using Y);simp only[bD,YN (sz:=D z) (λj Y=>cG j (.inr (.inr Y)))];exact aj8 (cG k (.inl rfl)) λj Y=>cG j (.inr (.inl Y))
 case q2 s d x =>
  have cG:∀j,j∈keyOf (aK tm d)\/j∈keyOf (aK tm x)->mem j=mem' j:=λj Y=>h (.fT j) (by simpa [cw] using Y);simp only[bD,YN (sz:=s) (λj Y=>cG j (.inr Y))];exact aj9 λj Y=>cG j (.inl Y)
 case tl z x =>
  simp only[bD];exact aka λj Y=>h (.fT j) (by simp[cw,Y])
 case v8 k=>simp only[bD,zQ k (h (.fT k) (by simp[cw]))]
 case zA o z x i =>
  simp only[bD,Ml];rw[YO (mem:=mem) (mem':=mem') (m:=aK tm x) λj Y=>h (.fT j) (by simp[cw,Y])]
 case xD x i v =>
  simp only[bD,HA];rw[YO (mem:=mem) (mem':=mem') (m:=aK tm x) λj Y=>h (.fT j) (by simp[cw,Y])]
def RO {mem mem':Mem}{tm:Nat->H}{op:fM}(U:∀b6 f l,op ≠ .kQ b6 f l)(h:∀x∈cw tm op,mem x.key=mem' x.key):eW T mem tm op=eW T mem' tm op:=by
 cases op
 case call=>rfl
 case lb k sz f l =>
  have:bz mem k=bz mem' k:=by
   have:=h (.fT k) (by simp[cw]);simp only[lg.key] at this;simp only[bz,this]
  simp only[eW,this]
 case kQ b6 f l=>exact absurd rfl (U b6 f l)
 case qb j f l =>
  simp only[eW]
  cases hm:(l.map (aK tm))[j]? with
  |none=>rfl
  |some m =>
   cases m<;>try rfl
   have:=h (.fT _) (by simp only[cw,hm,uJ];exact lU);simp only[lg.key] at this;simp only[HE,this]
 case qc j f l =>
  simp only[eW]
  cases hm:(l.map (aK tm))[j]? with
  |none=>rfl
  |some m =>
   cases m<;>try rfl
   have:=h (.fT _) (by simp only[cw,hm,uJ];exact lU);simp only[lg.key] at this;simp only[HF,this]
 case jN=>rfl
 case lR=>rfl
 all_goals exact akd (mem:=mem) (mem':=mem') (tm:=tm) h
def MO {x:Option H}{m:H}{e:Option (Key×Nat×List H)}(h:iv x=some (m,e)):e=none:=(Yz h).2
def ake {mem:Mem}{tm:Nat->H}{op:fM}{m:H}{e:Option (Key×Nat×List H)}(h:bD mem tm op=some (m,e)):e=none\/(gh op=true/\∃k g cs,e=some (k,g,cs) /\ .fT k∈cw tm op):=by
 cases op<;>try (first|exact .inl (MO h)|exact .inl (MO (x:=some _) h))
 case alloc k z =>
  simp only[bD,bM,eL] at h;exact .inr ⟨rfl,_,_,_,h.2.symm,by simp[cw]⟩
 case box k x =>
  simp only[bD] at h
  split at h<;>simp only[bM,eL,reduceCtorEq] at h
  exact .inr ⟨rfl,_,_,_,h.2.symm,by simp[cw]⟩
 case dM k o z sz len cT =>
  cases o
  ·exact .inl (MO h)
  ·simp only[bD,D5] at h
   (repeat' split at h)<;>simp only[bM,eL,reduceCtorEq] at h
   exact .inr ⟨rfl,_,_,_,h.2.symm,by simp[cw]⟩
 case la k z b x y =>
  obtain⟨_,_,_,_,h⟩:=YA h;simp only[D6] at h
  split at h<;>simp only[bM,eL,reduceCtorEq] at h
  exact .inr ⟨rfl,_,_,_,h.2.symm,by simp[cw]⟩
 case tk n s x a b c =>
  cases c
  ·exact .inl (MO h)
  ·cases h
 case store n x v =>
  simp only[bD] at h
  cases J:aK tm x<;>rw[J] at h<;>simp only[v9,reduceCtorEq] at h
  simp only[Hz] at h
  (repeat' split at h)<;>simp only[bM,eL,reduceCtorEq] at h
  exact .inr ⟨rfl,_,_,_,h.2.symm,by simp[cw,J,keyOf]⟩
 case app k z b s x =>
  simp only[bD] at h
  cases L:px mem (D z) (aK tm x)<;>cases O:aK tm s<;>rw[L,O] at h<;>simp only[qd,reduceCtorEq] at h
  ·split at h<;>simp only[bM,eL,reduceCtorEq] at h
   exact .inr ⟨rfl,_,_,_,h.2.symm,by simp[cw]⟩
  ·simp only[lf] at h
   (repeat' split at h)<;>simp only[bM,eL,reduceCtorEq] at h
   exact .inr ⟨rfl,_,_,_,h.2.symm,by simp[cw,O,keyOf]⟩
 case q2 s d x =>
  simp only[bD] at h
  cases L:px mem s (aK tm x)<;>cases O:aK tm d<;>rw[L,O] at h<;>simp only[uI,reduceCtorEq] at h
  simp only[zD] at h
  (repeat' split at h)<;>simp only[bM,eL,reduceCtorEq] at h
  exact .inr ⟨rfl,_,_,_,h.2.symm,by simp[cw,O,keyOf]⟩
 case tl z x =>
  simp only[bD] at h
  cases O:aK tm x<;>rw[O] at h<;>simp only[wa,reduceCtorEq] at h
  simp only[Mj] at h
  (repeat' split at h)<;>simp only[bM,eL,reduceCtorEq] at h
  exact .inr ⟨rfl,_,_,_,h.2.symm,by simp[cw,O,keyOf]⟩
 case v8 k =>
  simp only[bD,bM,eL] at h;exact .inr ⟨rfl,_,_,_,h.2.symm,by simp[cw]⟩
 case xD x i v =>
  simp only[bD] at h;unfold HA at h
  split at h
  ·rename_i k g cs s dN cU
   split at h
   ·split at h
    ·cases h;refine .inr ⟨rfl,_,_,_,rfl,?_⟩;unfold zE at dN
     split at dN
     ·rename_i J
      (repeat' split at dN)<;>cases dN
      simp[cw,J,HB]
     ·cases dN
    ·cases h
   ·cases h
  ·cases h
 all_goals cases h
def YP {mem:Mem}{j:Nat}{f:FuncId}{ms:List H}{x:Option H}{m:H}{e:Option (Key×Nat×List H)}(h:HE T mem j f ms x=some (m,e)):
  ∃k g sz off len cs d r,x=some (.ref k g sz off len)/\mem k=some (g,cs)/\HD sz off len cs=some d/\Mm (T f (ms.set j (.I d)) emp)=some r/\m=.I r/\e=some (k,bz mem k,[]):=by
 unfold HE at h
 split at h
 ·rename_i k g sz off len;unfold Re at h
  split at h
  ·rename_i cv cs hm
   split at h
   ·rename_i aL;subst aL
    split at h
    ·rename_i d ad
     split at h
     ·rename_i r L;simp only[bM,eL] at h;exact⟨k,_,sz,off,len,cs,d,r,rfl,hm,ad,L,h.1.symm,by rw[<-h.2];simp[bz,hm]⟩
     ·cases h
    ·cases h
   ·cases h
  ·cases h
 ·cases h
def YQ {mem:Mem}{j:Nat}{f:FuncId}{ms:List H}{x:Option H}{m:H}{e:Option (Key×Nat×List H)}(h:HF T mem j f ms x=some (m,e)):
  ∃k g sz off len cv cs r,x=some (.ref k g sz off len)/\mem k=some (cv,cs)/\q4 cs=true/\T f (ms.set j (.ref k g sz off len)) (aT emp k cv cs)=some (.xF r k)/\m=.I r/\e=some (k,bz mem k,[]):=by
 unfold HF at h
 split at h
 ·rename_i k g sz off len;unfold Rf at h
  split at h
  ·rename_i cv cs hm
   split at h
   ·rename_i ad
    split at h
    ·rename_i r k' L
     split at h
     ·rename_i Q;subst Q;simp only[bM,eL] at h;exact⟨_,g,sz,off,len,cv,cs,r,rfl,hm,ad,L,h.1.symm,by rw[<-h.2];simp[bz,hm]⟩
     ·cases h
    ·cases h
   ·cases h
  ·cases h
 ·cases h
def YR {b6:Nat}{mem:Mem}{ms:List H}{x:Option gG}{m:H}{e:Option (Key×Nat×List H)}(h:D7 b6 mem ms x=some (m,e)):
  ∃r k g i c cs,x=some (.dZ r k g i c)/\mem k=some (g,cs)/\m=.I r/\e=some (k,g,cs.set i c)/\HC b6 ms=[.wr k i]:=by
 unfold D7 at h
 split at h
 ·rename_i k g off rest r k' cv i c
  split at h
  ·rename_i H4 cs hm
   split at h
   ·rename_i U;obtain⟨rfl,rfl,rfl⟩:=U;simp only[bM,eL] at h;exact⟨r,_,_,_,c,cs,rfl,hm,h.1.symm,h.2.symm,rfl⟩
   ·cases h
  ·cases h
 ·cases h
def MP {mem:Mem}{tm:Nat->H}{op:fM}{m:H}{e:Option (Key×Nat×List H)}(h:eW T mem tm op=some (m,e)):e=none\/(gh op=true/\∃k g cs,e=some (k,g,cs)/\(.fT k∈cw tm op\/∃i c sd,cw tm op=[.wr k i]/\mem k=some (g,sd)/\cs=sd.set i c)):=by
 have pl:bD mem tm op=some (m,e)->e=none\/(gh op=true/\∃k g cs,e=some (k,g,cs)/\(.fT k∈cw tm op\/∃i c sd,cw tm op=[.wr k i]/\mem k=some (g,sd)/\cs=sd.set i c)):=λh=>by
  rcases ake h with h|⟨F,k,g,cs,G,aa⟩
  ·exact .inl h
  ·exact .inr ⟨F,k,g,cs,G,.inl aa⟩
 cases op
 case call f l =>
  simp only[eW] at h
  split at h<;>simp only[bM,eL,reduceCtorEq] at h
  ·exact .inl h.2.symm
  ·exact .inl h.2.symm
 case lb k sz f l =>
  simp only[eW] at h
  (repeat' split at h)<;>simp only[bM,eL,reduceCtorEq] at h
  exact .inr ⟨rfl,_,_,_,h.2.symm,.inl (by simp[cw])⟩
 case jN f l =>
  simp only[eW] at h
  (repeat' split at h)<;>simp only[bM,eL,reduceCtorEq] at h
  exact .inl h.2.symm
 case lR=>cases h
 case kQ b6 f l =>
  obtain⟨r,k,g,i,c,cs,-,hm,-,he,aj⟩:=YR h;exact .inr ⟨rfl,k,g,_,he,.inr ⟨i,c,cs,aj,hm,rfl⟩⟩
 case qb j f l =>
  simp only[eW] at h;obtain⟨k,g,sz,off,len,cs,d,r,J,hm,-,-,-,he⟩:=YP h;exact .inr ⟨rfl,k,_,_,he,.inl (by simp only[cw,J,uJ];exact lU)⟩
 case qc j f l =>
  simp only[eW] at h;obtain⟨k,g,sz,off,len,cv,cs,r,J,hm,-,-,-,he⟩:=YQ h;exact .inr ⟨rfl,k,_,_,he,.inl (by simp only[cw,J,uJ];exact lU)⟩
 all_goals exact pl h
def akf {tm:Nat->H}{op:fM}{b:lg}(R:b∈cw tm op):(∃k,b=.fT k)\/(∃n bH x k g off,op=.load n bH x/\aK tm x=.ptr k g off/\b=.rd k off (off+n))\/∃b6 f l,op=.kQ b6 f l:=by
 cases op
 case load n bH x =>
  simp only[cw] at R
  cases J:aK tm x<;>rw[J] at R<;>simp[zF] at R
  ·exact .inl ⟨_,R⟩
  ·exact .inr (.inl ⟨_,_,_,_,_,_,rfl,J,R⟩)
 case kQ b6 f l=>exact .inr (.inr ⟨_,_,_,rfl⟩)
 case qb j f l =>
  simp only[cw] at R
  cases hm:(l.map (aK tm))[j]? with
  |none=>rw[hm] at R;simp[uJ] at R
  |some m =>
   rw[hm] at R
   cases m<;>simp[uJ] at R;exact .inl ⟨_,R⟩
 case qc j f l =>
  simp only[cw] at R
  cases hm:(l.map (aK tm))[j]? with
  |none=>rw[hm] at R;simp[uJ] at R
  |some m =>
   rw[hm] at R
   cases m<;>simp[uJ] at R;exact .inl ⟨_,R⟩
 case dM k o z sz len cT =>
  cases o<;>simp[cw] at R
  exact .inl ⟨_,R⟩
 all_goals
  simp[cw] at R
  try first
   |exact .inl ⟨_,R⟩
   |(rcases R with ⟨k,_,h⟩|⟨k,_,h⟩<;>exact .inl ⟨k,h.symm⟩)
   |(rcases R with h|⟨k,_,h⟩|⟨k,_,h⟩<;>first|exact .inl ⟨_,h⟩|exact .inl ⟨_,h.symm⟩)
   |(obtain⟨k,_,h⟩:=R;exact .inl ⟨k,h.symm⟩)
def akg {cs:List H}{i off n:Nat}{c:H}(h:i<off\/off+n<=i):cut (cs.set i c) off n=cut cs off n:=by
 unfold cut;rw[fj]
 split
 ·congr 1
  rcases h with h|h
  ·rw[se h]
  ·by_cases Z:i<off
   ·rw[se Z]
   ·rw[List.drop_set,aR Z,List.take_set_of_le (by omega)]
 ·rfl
def akh {mem:Mem}{k g i:Nat}{c:H}{cs:List H}{n:Nat}{bH:Bool}{k' cv off:Nat}(hm:mem k=some (g,cs))(h:k'≠k\/i<off\/off+n<=i):
  iW (aT mem k g (cs.set i c)) n bH (.ptr k' cv off)=iW mem n bH (.ptr k' cv off):=by
 by_cases Q:k'=k
 ·subst Q;have h:=h.resolve_left (λh=>h rfl);simp only[iW,aT,if_true,hm,akg h]
 ·simp only[iW,aT,Q,if_false]
def YS {mem:Mem}{tm:Nat->H}{x y:fM}{m:H}{e:Option (Key×Nat×List H)}(H5:eW T mem tm x=some (m,e))(ba:qg (gh x,cw tm x) (gh y,cw tm y)=true):eW T (gf mem e) tm y=eW T mem tm y:=by
 rcases MP H5 with rfl|⟨hw,k,g,cs,rfl,Q⟩
 ·rfl
 ·have cX:∀a∈cw tm x,∀b∈cw tm y,qf a b=true:=by
   unfold qg at ba
   simpa [hw] using ba
  have aki:∀b6 f l,y=.kQ b6 f l->cw tm y=[]:=by
   rintro b6 f l rfl
   cases R:cw tm (.kQ b6 f l) with
   |nil=>rfl
   |cons b r =>
    exfalso
    have hD:∃k' a1,b=.wr k' a1:=by
     simp only[cw] at R;unfold HC at R
     split at R
     ·cases R;exact⟨_,_,rfl⟩
     ·cases R
    obtain⟨k',a1,rfl⟩:=hD;have hm:lg.wr k' a1∈cw tm (.kQ b6 f l):=by rw[R];exact lU
    rcases Q with Q|⟨i,c,sd,aj,_,_⟩
    ·have:=cX _ Q _ hm;simp[qf] at this
    ·have:=cX (.wr k i) (by rw[aj];exact lU) _ hm;simp[qf] at this
  by_cases ai:∃b6 f l,y=.kQ b6 f l
  ·obtain⟨b6,f,l,rfl⟩:=ai;have aq:=aki _ _ _ rfl;simp only[cw] at aq
   have a0:∀mem' gK,D7 b6 mem' (l.map (aK tm)) gK=none:=by
    intro mem' gK;unfold D7
    split
    ·rename_i heq;rw[heq] at aq;simp[HC] at aq
    ·rfl
   simp only[eW,a0]
  ·have U:∀b6 f l,y ≠ .kQ b6 f l:=λb6 f l h=>ai ⟨b6,f,l,h⟩;rcases Q with Q|⟨i,c,sd,aj,hm,rfl⟩
   ·refine (RO U λb R=>?_).symm;have F:=cX _ Q b R
    have:b.key≠k:=by
     rintro rfl
     cases b<;>simp[qf,lg.key] at F
    simp[gf,aT,this]
   ·have F:=cX (.wr k i) (by rw[aj];exact lU)
    by_cases ae:∃n bH z k' cv off,y=.load n bH z/\aK tm z=.ptr k' cv off
    ·obtain⟨n,bH,z,k',cv,off,rfl,a0⟩:=ae;have G:=F (.rd k' off (off+n)) (by simp[cw,a0,zF]);simp only[eW,bD,a0,gf];rw[akh hm];simp[qf] at G;exact G
    ·refine (RO U λb R=>?_).symm
     exfalso
     rcases akf R with ⟨k',rfl⟩|⟨n,bH,z,k',cv,off,aa,aX,_⟩|⟨b6,f,l,aa⟩
     ·have:=F _ R;simp[qf] at this
     ·exact ae ⟨n,bH,z,k',cv,off,aa,aX⟩
     ·exact U _ _ _ aa
def RP {tm:Nat->H}{op:fM}(h:mh op=0):cw tm op=[]/\gh op=false:=by
 cases op<;>simp_all [mh,gh,cw]
 all_goals (rename_i b _ _ _ _;cases b<;>simp_all [gh,cw])
def YT {op:fM}(h:mh op=1):gh op=false:=by
 cases op<;>simp_all [mh,gh]
 all_goals (rename_i b _ _ _ _;cases b<;>simp_all [gh])
end Go.Mini
namespace Go.Mini
open Go
variable {T:bg} {gk:Nat->Nat->Bool}
def jr (T:bg)(gk:Nat->Nat->Bool)(i:Nat)(x:bw)(rec:Rec)(st:a6)(iN:Rec)(cb:a6):Prop :=
 (g8 st.tm x.g=some false/\iN=rec/\cb=⟨put st.tm x.dst .no,st.mem⟩) \/
 (g8 st.tm x.g=some true/\∃m e,eW T st.mem st.tm x.op=some (m,e)/\(∀p q,gk p i=true->rec p=some q->qg q (gh x.op,cw st.tm x.op)=true) /\
  iN=jl rec i (gh x.op,cw st.tm x.op)/\cb=⟨put st.tm x.dst m,gf st.mem e⟩)
def lV {tm:Nat->H}{dst:Option Nat}{m:H}{s:Nat}(h:dst≠some s):put tm dst m s=tm s:=by
 cases dst with
 |none=>rfl
 |some d =>
  have:s≠d:=λe=>h (by rw[e]);simp[put,this]
def put_comm {tm:Nat->H}{d qt:Option Nat}{m m':H}(h:∀s,d=some s->qt≠some s):put (put tm d m) qt m'=put (put tm qt m') d m:=by
 funext s
 by_cases F:d=some s
 ·rw[lV (h s F)];subst F;simp[put]
 ·rw[lV (dst:=d) F]
  by_cases G:qt=some s
  ·subst G;simp[put]
  ·rw[lV G,lV G,lV F]
def H6 {tm tm':Nat->H}{g:Option (Nat×Bool)}(h:∀s b,g=some (s,b)->tm s=tm' s):g8 tm g=g8 tm' g:=by
 cases g with
 |none=>rfl
 |some p =>
  obtain⟨s,b⟩:=p;simp only[g8,h s b rfl]
def BA {x y:bw}(h:oH x y=true):(∀d,x.dst=some d->d ∉ looks y)/\(∀d,x.dst=some d->y.dst≠some d)/\(∀d,y.dst=some d->d ∉ looks x):=by
 refine⟨λd ad=>?_,λd ad=>?_,λd ad=>?_⟩<;>simp[oH,ad] at h
 ·exact h.1.1
 ·exact h.1.2
 ·exact h.2
def uW {x:bw}{s:Nat}(h:s∈oG x.op):s∈looks x:=by simp[looks,h]
def H7 {x:bw}{s:Nat}{b:Bool}(h:x.g=some (s,b)):s∈looks x:=by simp[looks,h]
def akj (a b:lg):qf a b=qf b a:=by
 have U:∀k k':Nat,(k==k')=(k'==k):=λk k'=>BEq.comm
 cases a<;>cases b<;>first|rfl|(unfold qf;dsimp only;rw[U])
def YU {a b:Bool×List lg}(h:qg a b=true):qg b a=true:=by
 unfold qg at *;simp only[tz,Bool.not_eq_true',Bool.or_eq_false_iff,kA] at *;rcases h with ⟨F,G⟩|h
 ·exact .inl ⟨G,F⟩
 ·exact .inr λx J y ai=>by rw[akj];exact h y ai x J
def akk {mem:Mem}{e e':Option (Key×Nat×List H)}(h:∀j g cs iI cv g7,e=some (j,g,cs)->e'=some (iI,cv,g7)->j≠iI):gf (gf mem e) e'=gf (gf mem e') e:=by
 cases e with
 |none=>rfl
 |some p =>
  cases e' with
  |none=>rfl
  |some p' =>
   obtain⟨j,g,cs⟩:=p;obtain⟨iI,cv,g7⟩:=p';have bo:=h _ _ _ _ _ _ rfl rfl
   funext k
   simp only[gf,aT]
   by_cases F:k=iI
   ·by_cases G:k=j
    ·exact absurd (G.symm.trans F) bo
    ·simp[F,G];intro aa;exact absurd aa.symm bo
   ·simp[F]
def Passes (gk:Nat->Nat->Bool)(i j:Nat)(x y:bw):Prop:=gk i j=true\/uL (mh x.op) (mh y.op)=true
def akl {i j:Nat}{x y:bw}{tm:Nat->H}(h:Passes gk i j x y)(U:gk i j=true->qg (gh x.op,cw tm x.op) (gh y.op,cw tm y.op)=true):
  qg (gh x.op,cw tm x.op) (gh y.op,cw tm y.op)=true:=by
 rcases h with h|h
 ·exact U h
 ·unfold uL at h;simp only[tz,fe,beq_iff_eq] at h;rcases h with (h|h)|⟨F,G⟩
  ·obtain⟨F,G⟩:=RP (tm:=tm) h;simp[qg,F]
  ·obtain⟨F,G⟩:=RP (tm:=tm) h;simp[qg,F]
  ·have F:=YT F;have G:=YT G;simp[qg,F,G]
def jr.comm {i j:Nat}{x y:bw}{rec rec1 kC:Rec}{st st1 kD:a6}(hW:i≠j)(cY:oH x y=true)(aP:Passes gk i j x y)(RQ:∀a b,gk a b=gk b a)(wv:rec i=none)
  (F:jr T gk i x rec st rec1 st1) (G:jr T gk j y rec1 st1 kC kD):∃wx jz,jr T gk j y rec st wx jz/\jr T gk i x wx jz kC kD:=by
 obtain⟨ba,R,U⟩:=BA cY
 -- what one sees of the other's temporary: nothing
 have BB:∀m,g8 (put st.tm x.dst m) y.g=g8 st.tm y.g:=λm=>H6 λs b O=>lV λad=>ba s ad (H7 O);have H8:∀mem m,eW T mem (put st.tm x.dst m) y.op=eW T mem st.tm y.op:=λmem m=>MM λs O=>lV λad=>ba s ad (uW O);have zS:∀m,cw (put st.tm x.dst m) y.op=cw st.tm y.op:=λm=>MN λs O=>lV λad=>ba s ad (uW O);have MQ:∀m,g8 (put st.tm y.dst m) x.g=g8 st.tm x.g:=λm=>H6 λs b O=>lV λad=>U s ad (H7 O);have YV:∀mem m,eW T mem (put st.tm y.dst m) x.op=eW T mem st.tm x.op:=λmem m=>MM λs O=>lV λad=>U s ad (uW O);have MR:∀m,cw (put st.tm y.dst m) x.op=cw st.tm x.op:=λm=>MN λs O=>lV λad=>U s ad (uW O);have qw:∀m m',put (put st.tm x.dst m) y.dst m'=put (put st.tm y.dst m') x.dst m:=λm m'=>put_comm R;rcases F with ⟨cH,rfl,rfl⟩|⟨cH,aW,aO,s1,ch,rfl,rfl⟩<;>rcases G with ⟨cO,rfl,rfl⟩|⟨cO,bY,ax,s2,dB,rfl,rfl⟩<;>simp only[BB,H8,zS] at *
 ·exact⟨_,_,.inl ⟨cO,rfl,rfl⟩,.inl ⟨by simp only[MQ];exact cH,rfl,by simp only[qw]⟩⟩
 ·exact⟨_,_,.inr ⟨cO,bY,ax,s2,dB,rfl,rfl⟩,.inl ⟨by simp only[MQ];exact cH,rfl,by simp only[qw]⟩⟩
 ·exact⟨_,_,.inl ⟨cO,rfl,rfl⟩,.inr ⟨by simp only[MQ];exact cH,aW,aO,by simp only[YV];exact s1,by simp only[MR];exact ch,by simp only[MR],by simp only[qw]⟩⟩
 ·have YW:gk i j=true->qg (gh x.op,cw st.tm x.op) (gh y.op,cw st.tm y.op)=true:=λh=>dB i _ h (by simp[jl]);have zT:=akl (tm:=st.tm) aP YW;have BC:eW T st.mem st.tm y.op=some (bY,ax):=by rw[<-s2];exact (YS s1 zT).symm
  have eX:∀j g cs iI cv g7,aO=some (j,g,cs)->ax=some (iI,cv,g7)->j≠iI:=by
   rintro k g cs k' cv g7 rfl rfl rfl;rcases MP s1 with h|⟨hw,c3,cO,HS,h,F⟩
   ·cases h
   ·cases h;rcases MP BC with h|⟨YX,ei,gT,ayB,h,G⟩
    ·cases h
    ·cases h;unfold qg at zT;simp only[hw,Bool.true_or,Bool.not_true,Bool.false_or,kA] at zT;rcases F with F|⟨i,c,sd,F,_,_⟩<;>rcases G with G|⟨a1,kB,ayC,G,_,_⟩
     ·have:=zT _ F _ G;simp[qf] at this
     ·have:=zT _ F (.wr k a1) (by rw[G];exact lU);simp[qf] at this
     ·have:=zT (.wr k i) (by rw[F];exact lU) _ G;simp[qf] at this
     ·have:=zT (.wr k i) (by rw[F];exact lU) (.wr k a1) (by rw[G];exact lU);simp[qf] at this
  refine⟨_,_,.inr ⟨cO,bY,ax,BC,λp q MS aS=>?_,rfl,rfl⟩,.inr ⟨by simp only[MQ];exact cH,aW,aO,?_,?_,?_,?_⟩⟩
  ·have bo:p≠i:=λh=>by rw[h,wv] at aS;cases aS
   exact dB p q MS (by simp[jl,bo,aS])
  ·simp only[YV];rw[<-s1];exact YS BC (YU zT)
  ·simp only[MR];intro p q YY aS
   by_cases MS:p=j
   ·subst MS;simp only[jl,if_true,bM] at aS;subst aS;exact YU (YW (by rw[RQ];exact YY))
   ·simp only[jl,MS,if_false] at aS;exact ch p q YY aS
  ·simp only[MR]
   funext p
   simp only[jl]
   by_cases F:p=i
   ·subst F;simp[hW]
   ·simp[F]
  ·simp only[qw];rw[akk eX]
end Go.Mini
namespace Go.Mini
open Go
variable {T:bg} {gk:Nat->Nat->Bool} {ops:Array Oper} {l:List bw} {K:a6->Prop}
abbrev uX:=Nat->bw->Rec->a6->Rec->a6->Prop
variable {da:uX}
def BD (da:uX)(ops:Array Oper)(l:List bw)(K:a6->Prop):Nat->Array Bool->Rec->a6->Prop
 |0,listed,_,st=>Region.ready .any ops listed=[]/\K st
 |fuel+1,listed,rec,st=>(Region.ready .any ops listed=[]->K st) /\
  ∀i∈Region.ready .any ops listed,∃x iN cb,l[i]?=some x/\da i x rec st iN cb/\BD da ops l K fuel (listed.setIfInBounds i true) iN cb
def wy (ops:Array Oper)(listed:Array Bool):Prop :=
 listed.size=ops.size/\∀(j:Nat) (o:Oper),ops[j]?=some o->listed.getD j false=true->∀e∈o.after,Region.binds .any e=true->listed.getD e.on false=true
def wy.set {listed:Array Bool}{i:Nat}(h:wy ops listed)(Z:i∈Region.ready .any ops listed):wy ops (listed.setIfInBounds i true):=by
 refine⟨by simp[h.1],λj o Y ae e he R=>?_⟩
 by_cases kV:j=i
 ·subst kV;obtain⟨_,x0,a4,cX⟩:=mem_ready.1 Z;rw[Y] at a4
  cases a4;exact getD_set_true (cX e he R)
 ·rw[getD_set_ne false (Ne.symm kV)] at ae;exact getD_set_true (h.2 j o Y ae e he R)
def RR (gk:Nat->Nat->Bool)(ops:Array Oper)(l:List bw):Prop :=
 ∀(i j:Nat) (x y:bw),i≠j->l[i]?=some x->l[j]?=some y ->
  (∀listed,wy ops listed->i∈Region.ready .any ops listed->j∈Region.ready .any ops listed->False)\/(oH x y=true/\Passes gk i j x y)
def RS {i k:Nat}{x:bw}{rec iN:Rec}{st cb:a6}(h:jr T gk i x rec st iN cb)(Q:k≠i):iN k=rec k:=by
 rcases h with ⟨_,rfl,_⟩|⟨_,_,_,_,_,rfl,_⟩
 ·rfl
 ·simp[jl,Q]
def akm {listed:Array Bool}{i k:Nat}(h:(listed.setIfInBounds i true).getD k true=false):k≠i/\listed.getD k true=false:=by
 by_cases BE:i=k
 ·subst BE
  exfalso
  by_cases an:i<listed.size
  ·simp[an] at h
  ·have:(listed.setIfInBounds i true).size<=i:=by simp;omega
   rw[Array.getD_eq_getD_getElem?,Array.getElem?_eq_none this] at h;simp at h
 ·rw[getD_set_ne true BE] at h;exact⟨λcG=>BE cG.symm,h⟩
def H9 (da:uX)(ops:Array Oper)(l:List bw):Prop :=
 ∀(i j:Nat) (x y:bw),i≠j->l[i]?=some x->l[j]?=some y ->
  (∀listed,wy ops listed->i∈Region.ready .any ops listed->j∈Region.ready .any ops listed->False) \/
  ∀rec st rec1 st1 kC kD,rec i=none->rec j=none->da i x rec st rec1 st1->da j y rec1 st1 kC kD->∃wx jz,da j y rec st wx jz/\da i x wx jz kC kD
def Ia (da:uX):Prop:=∀i x rec st iN cb,da i x rec st iN cb->∀k,k≠i->iN k=rec k
def YZ (aP:RR gk ops l)(RQ:∀a b,gk a b=gk b a):H9 (jr T gk) ops l:=λi j x y hW Z Y =>
 (aP i j x y hW Z Y).imp id fun⟨ba,R⟩ _ _ _ _ _ _ L _ F G=>jr.comm hW ba R RQ L F G
def Y0:Ia (jr T gk):=λ_ _ _ _ _ _ h _ Q=>RS h Q
def akn (aP:H9 da ops l)(BF:Ia da){i:Nat}{x:bw}(Z:l[i]?=some x):∀(fuel:Nat) (listed:Array Bool) (rec:Rec) (st:a6) (rec1:Rec) (st1:a6),
  wy ops listed->(∀k,listed.getD k true=false->rec k=none)->i∈Region.ready .any ops listed->da i x rec st rec1 st1 ->
  BD da ops l K fuel (listed.setIfInBounds i true) rec1 st1->BD da ops l K (fuel+1) listed rec st:=by
 intro fuel
 induction fuel with
 |zero =>
  intro listed rec st rec1 st1 ea jR L he hX;refine⟨λh=>(by rw[h] at L;cases L),λj Y=>?_⟩
  by_cases kV:j=i
  ·subst kV;exact⟨x,rec1,st1,Z,he,hX⟩
  ·have:=ready_mono Y kV;rw[hX.1] at this
   cases this
 |succ fuel a2 =>
  intro listed rec st rec1 st1 ea jR L he hX;refine⟨λh=>(by rw[h] at L;cases L),λj Y=>?_⟩
  by_cases kV:j=i
  ·subst kV;exact⟨x,rec1,st1,Z,he,hX⟩
  ·obtain⟨y,kC,kD,ai,dN,eh⟩:=hX.2 j (ready_mono Y kV);rcases aP i j x y (Ne.symm kV) Z ai with h6|eX
   ·exact (h6 listed ea L Y).elim
   ·obtain⟨wx,jz,F,G⟩:=eX _ _ _ _ _ _ (jR i (mem_ready.1 L).1) (jR j (mem_ready.1 Y).1) he dN;refine⟨y,wx,jz,ai,F,a2 _ wx jz kC kD (ea.set Y) (λk Q=>?_) (ready_mono L (Ne.symm kV)) G ?_⟩
    ·obtain⟨aa,aX⟩:=akm Q;rw[BF _ _ _ _ _ _ F k aa];exact jR k aX
    ·rw[Array.setIfInBounds_comm _ _ kV];exact eh
def RT:∀(r:List Oper) (acc:List Nat) (k:Nat),k<(D acc)->(fU r acc).getD k 0=acc.getD k 0
 | [],acc,k,_=>rfl
 |o::r,acc,k,Q=>by
  simp only[fU];rw[RT r _ k (by simp;omega)];simp only[dG];rw[uP Q]
def ako {es:List Edge}{acc:List Nat}{i:Nat}:∀(s:Nat),(es.foldl (λs e=>if Region.binds .any e=true then s ||| (2^e.on ||| acc.getD e.on 0) else s) s).testBit i=true ->
  s.testBit i=true\/∃e∈es,Region.binds .any e=true/\(e.on=i\/(acc.getD e.on 0).testBit i=true):=by
 induction es with
 |nil=>exact λs h => .inl h
 |cons e es a2 =>
  intro s h;rw[Yc] at h;rcases a2 _ h with F|⟨e',F,G⟩
  ·split at F
   ·rename_i R;rw[Y1,Y1,tz,tz] at F;rcases F with F|F|F
    ·exact .inl F
    ·rw[Nat.testBit_two_pow] at F;exact .inr ⟨e,by simp,R,.inl (by simpa using F)⟩
    ·exact .inr ⟨e,by simp,R,.inr F⟩
   ·exact .inl F
  ·exact .inr ⟨e',by simp[F],G⟩
def Y2:∀(r:List Oper) (acc:List Nat) (t:Nat) (o:Oper),r[t]?=some o->∀i,((fU r acc).getD (D acc+t) 0).testBit i=true ->
  ∃e∈o.after.toList,Region.binds .any e=true/\(e.on=i\/(e.on<D acc+t/\((fU r acc).getD e.on 0).testBit i=true))
 | [],_,_,_,h,_,_=>by simp at h
 |x0::r,acc,0,o,h,i,R=>by
  simp at h;subst h;simp only[fU,lo] at R ⊢;rw[RT r _ _ (by simp)] at R;simp only[dG] at R;rw[r4 (c8 _)] at R;simp only[hF,Y3,RF] at R;rcases ako (acc:=acc) 0 (by simpa only [dG] using R) with F|⟨e,F,G,aa⟩
  ·simp at F
  ·refine⟨e,F,G,aa.imp id λh=>?_⟩
   have an:e.on<D acc:=by
    rcases gX e.on (D acc) with cG|cG
    ·exact cG
    ·rw[dG,lk cG] at h;simp at h
   refine⟨an,?_⟩;rw[RT r _ _ (by simp;omega),dG,uP an,<-dG];exact h
 |x0::r,acc,t+1,o,h,i,R=>by
  have cG:r[t]?=some o:=by simpa using h
  simp only[fU] at R ⊢
  have:=Y2 r (acc++[x0.after.toList.foldl (λs e=>if Region.binds .any e=true then s ||| (2^e.on ||| acc.getD e.on 0) else s) 0]) t o cG i (by
   rw[ks,List.length_singleton,r0,Hi 1 t];exact R)
  obtain⟨e,F,G,aa⟩:=this;refine⟨e,F,G,aa.imp id λh=>⟨by have:=h.1;simp at this;omega,h.2⟩⟩
def Y4 {listed:Array Bool}(ea:wy ops listed):∀(j:Nat) (o:Oper),ops[j]?=some o->(∀e∈o.after,Region.binds .any e=true->listed.getD e.on false=true) ->
  ∀i,((fU ops.toList []).getD j 0).testBit i=true->listed.getD i false=true:=by
 intro j
 induction j using Nat.strongRecOn with
 |_ j a2 =>
  intro o a4 cX i Z;obtain⟨e,he,R,h⟩:=Y2 ops.toList [] j o (by simpa using a4) i (by simpa using Z);have ae:=cX e (by simpa using he) R;rcases h with rfl|⟨an,akp⟩
  ·exact ae
  ·have eb:e.on<ops.size:=by
    rw[<-ea.1];rcases gX e.on listed.size with cG|cG
    ·exact cG
    ·simp[Array.getElem?_eq_none cG] at ae
   have Y5:ops[e.on]?=some ops[e.on]:=Array.getElem?_eq_getElem eb;exact a2 e.on (by simpa using an) _ Y5 (ea.2 e.on _ Y5 ae) i akp
def Y6:∀(cs pre:List bw) (as:List Nat),xH pre cs as=true->∀(t:Nat) (y:bw),cs[t]?=some y->∀(i:Nat) (x:bw),(pre++cs)[i]?=some x->i<D pre+t ->
  (as.getD t 0).testBit i=true\/oH x y=true
 | [],_,_,_,_,_,h,_,_,_,_=>by simp at h
 |_::_,_,[],h,_,_,_,_,_,_,_=>by simp[xH] at h
 |c::cs,pre,a::as,h,0,y,ai,i,x,J,an=>by
  simp only[xH,fe,kA] at h;simp at ai;subst ai;have Z:i<D pre:=by simpa using an
  rw[uP Z] at J;have:=h.1 (x,i) (by rw[Et];exact J)
  simpa using this
 |c::cs,pre,a::as,h,t+1,y,ai,i,x,J,an=>by
  simp only[xH,fe] at h;have:=Y6 cs (pre++[c]) as h.2 t y (by simpa using ai) i x (by simpa using J) (by simp;omega)
  simpa using this
def Y7:∀(cs pre:List bw) (as:List Nat) (t:Nat) (y:bw),cs[t]?=some y->∀(i:Nat) (x:bw),(pre++cs)[i]?=some x->i<D pre+t ->
  (as.getD t 0).testBit i=true\/uL (mh x.op) (mh y.op)=true\/i∈(mi pre cs as).getD t []
 | [],_,_,_,_,h,_,_,_,_=>by simp at h
 |c::cs,pre,as,0,y,ai,i,x,J,an=>by
  simp at ai;subst ai;have Z:i<D pre:=by simpa using an
  rw[uP Z] at J;have gJ:(x,i)∈pre.zipIdx:=by rw[Et];exact J
  by_cases F:(as.getD 0 0).testBit i=true
  ·exact .inl F
  ·by_cases G:uL (mh x.op) (mh c.op)=true
   ·exact .inr (.inl G)
   ·refine .inr (.inr ?_);simp only[mi,dG,Y3,RF];refine List.mem_map.2 ⟨(x,i),List.mem_filter.2 ⟨gJ,?_⟩,rfl⟩;have aa:as.headD 0=as.getD 0 0:=by cases as<;>rfl
    simp only[aa];rw[dG] at F;simp[F,G]
 |c::cs,pre,as,t+1,y,ai,i,x,J,an=>by
  have:=Y7 cs (pre++[c]) as.tail t y (by simpa using ai) i x (by simpa using J) (by simp;omega);have aa:as.tail.getD t 0=as.getD (t+1) 0:=by cases as<;>simp
  rw[aa] at this
  simpa [mi] using this
def mS (c:List (List Nat))(i j:Nat):Bool:=if i<j then (c.getD j []).contains i else if j<i then (c.getD i []).contains j else false
def MT (c:List (List Nat))(i j:Nat):mS c i j=mS c j i:=by
 unfold mS
 by_cases F:i<j
 ·simp[F,Y8 F]
 ·by_cases G:j<i
  ·simp[G,Y8 G]
  ·simp[F,G]
def akq {x y:bw}(h:oH x y=true):oH y x=true:=by
 obtain⟨F,G,aa⟩:=BA h;unfold oH;rw[fe]
 constructor
 ·cases ai:y.dst with
  |none=>rfl
  |some d =>
   have a:=aa d ai;have b:x.dst≠some d:=λJ=>G d J ai;simp[a,b]
 ·cases J:x.dst with
  |none=>rfl
  |some d =>
   have a:=F d J;simp[a]
def akr (a b:Nat):uL a b=uL b a:=by
 unfold uL
 cases (a==0)<;>cases (b==0)<;>cases (a==1)<;>cases (b==1)<;>rfl
def RU (ad:qh ops l=true):RR (mS (mi [] l (fU ops.toList []))) ops l:=by
 have key:∀(i j:Nat) (x y:bw),i<j->l[i]?=some x->l[j]?=some y ->
   (∀listed,wy ops listed->i∈Region.ready .any ops listed->j∈Region.ready .any ops listed->False) \/
   (oH x y=true/\(mS (mi [] l (fU ops.toList [])) i j=true\/uL (mh x.op) (mh y.op)=true)):=by
  intro i j x y hW J ai;unfold qh at ad;rw[fe] at ad
  by_cases R:((fU ops.toList []).getD j 0).testBit i=true
  ·refine .inl λlisted ea Z Y=>?_;obtain⟨_,o,a4,cX⟩:=mem_ready.1 Y;have F:=Y4 ea j o a4 cX i R;have aq:=(mem_ready.1 Z).1;rcases gX i listed.size with cG|cG
   ·simp[cG] at aq F;rw[aq] at F;cases F
   ·simp[Array.getElem?_eq_none cG] at F
  ·refine .inr ⟨?_,?_⟩
   ·rcases Y6 l [] _ ad.2 j y ai i x (by simpa using J) (by simpa using hW) with h|h
    ·exact absurd h R
    ·exact h
   ·rcases Y7 l [] (fU ops.toList []) j y ai i x (by simpa using J) (by simpa using hW) with h|h|h
    ·exact absurd h R
    ·exact .inr h
    ·exact .inl (by unfold mS;rw[aJ hW];exact Y9.2 h)
 intro i j x y hW J ai;rcases Nat.lt_or_gt_of_ne hW with h|h
 ·exact key i j x y h J ai
 ·rcases key j i y x h ai J with F|⟨F,G⟩
  ·exact .inl λlisted ea Z Y=>F listed ea Y Z
  ·refine .inr ⟨akq F,?_⟩;rcases G with G|G
   ·exact .inl (by rw[MT];exact G)
   ·exact .inr (by rw[akr];exact G)
end Go.Mini
namespace Go.Mini
open Go
variable {P:Program} {b2:Option H} {T:bg} {A:Nat->Prop} {cq w:World} {dD B:cS} {mem:Mem} {n kb:Nat} {own:List Nat} {ops:Array Oper} {l:List bw} {K:a6->Prop} {a3:Exit->Act->World->Prop}
def Za:∀(r:List Oper) (m:Nat),xI m r=true->∀(t:Nat) (o:Oper),r[t]?=some o->∀e∈o.after,Region.binds .any e=true->e.on<m+t
 | [],_,_,_,_,h,_,_,_=>by simp at h
 |x0::r,m,h,0,o,a4,e,he,R=>by
  simp only[xI,fe] at h;simp at a4;subst a4;have:=(Array.all_eq_true_iff_forall_mem.1 h.1) e he
  simpa [R] using this
 |x0::r,m,h,t+1,o,a4,e,he,R=>by
  simp only[xI,fe] at h;have:=Za r (m+1) h.2 t o (by simpa using a4) e he R;omega
inductive x1 (da:uX) (K:a6->Prop):Nat->List bw->Rec->a6->Prop
 |nil {m:Nat} {rec:Rec} {st:a6} (h:K st):x1 da K m [] rec st
 |cons {m:Nat} {x:bw} {r:List bw} {rec rec1:Rec} {st st1:a6} (h:da m x rec st rec1 st1) (L:x1 da K (m+1) r rec1 st1):x1 da K m (x::r) rec st
def RV {da:uX}(aP:H9 da ops l)(BF:Ia da)(ae:(D l)=ops.size)(he:xI 0 ops.toList=true):∀(r:List bw) (m:Nat) (rec:Rec) (st:a6) (listed:Array Bool),l.drop m=r->m+D r=(D l) ->
  listed.size=ops.size->(∀i,i<ops.size->listed.getD i true=decide (i<m))->(∀k,m<=k->rec k=none)->x1 da K m r rec st->BD da ops l K (D r) listed rec st
 | [],m,rec,st,listed,L,hm,O,dr,jR,.nil h=>by
  refine⟨List.eq_nil_iff_forall_not_mem.2 λi Z=>?_,h⟩;obtain⟨F,o,a4,_⟩:=mem_ready.1 Z;have an:i<ops.size:=(Array.getElem?_eq_some_iff.1 a4).1;rw[dr i an] at F;simp at F hm;omega
 |x::r,m,rec,st,listed,L,hm,O,dr,jR,.cons (rec1:=rec1) (st1:=st1) hex Q=>by
  have an:m<ops.size:=by simp at hm;omega
  have a4:ops[m]?=some ops[m]:=Array.getElem?_eq_getElem an
  have J:l[m]?=some x:=by
   have:(l.drop m)[0]?=some x:=by rw[L];rfl
   simpa using this
  have iM:=λ(j:Nat) (o:Oper) (Y:ops[j]?=some o)=>Za ops.toList 0 he j o (by simpa using Y)
  have eY:∀i,i<m->listed.getD i false=true:=λi Z=>by
   have F:=dr i (by omega);rw[mL Z] at F;have G:i<listed.size:=by omega
   simpa [G] using F
  have ea:wy ops listed:=⟨O,λj o Y hj e oM R=>by
   have F:=iM j o Y e oM R;have kf:j<ops.size:=(Array.getElem?_eq_some_iff.1 Y).1
   have G:j<m:=by
    have:=dr j kf;have aa:j<listed.size:=by omega
    simp[aa] at hj this;rw[hj] at this
    simpa using this.symm
   exact eY _ (by omega)⟩
  have aks:m∈Region.ready .any ops listed:=mem_ready.2 ⟨by rw[dr m an];simp,_,a4,λe oM R=>eY _ (by have:=iM m _ a4 e oM R;omega)⟩
  have akt:∀k,listed.getD k true=false->rec k=none:=λk Q=>jR k (by
   rcases gX k ops.size with cG|cG
   ·rw[dr k cG] at Q
    simpa using Q
   ·omega)
  refine akn aP BF J _ listed rec st rec1 st1 ea akt aks hex (RV aP BF ae he r (m+1) rec1 st1 _ ?_ (by simp at hm;omega) (by simpa using O) (λi Z=>?_) (λk Q=>?_) Q)
  ·rw[<-x2,L]
   rfl
  ·by_cases him:m=i
   ·subst him;have:m<listed.size:=by omega
    simp[this]
   ·rw[getD_set_ne true him,dr i Z]
    congr 1
    simp;omega
  ·rw[BF _ _ _ _ _ _ hex k (by omega)];exact jR k (by omega)
def Zb {c:List (List Nat)}:∀(r:List bw) (m:Nat) (rec:Rec) (st:a6),(∀k,m<=k->rec k=none)->tq T K m r (c.drop m) rec st->x1 (jr T (mS c)) K m r rec st
 | [],m,rec,st,_,h => .nil h
 |x::r,m,rec,st,jR,h=>by
  simp only[tq] at h
  split at h
  ·cases h
  ·rename_i g aL
   have next:∀rec1 st1,jr T (mS c) m x rec st rec1 st1->tq T K (m+1) r (c.drop m).tail rec1 st1->x1 (jr T (mS c)) K m (x::r) rec st:=λrec1 st1 hex Q=>by
    rw[List.tail_drop] at Q;exact .cons hex (Zb r (m+1) rec1 st1 (λk Q=>by rw[RS hex (by omega)];exact jR k (by omega)) Q)
   split at h
   ·rename_i kE;subst kE
    split at h
    ·rename_i iu e O;refine next _ _ (.inr ⟨aL,iu,e,O,λp q x3 aS=>?_,rfl,rfl⟩) h.2
     have ix:p<m:=by
      rcases gX p m with cG|cG
      ·exact cG
      ·rw[jR p cG] at aS;cases aS
     have x4:=h.1;unfold rX at x4;rw[kA] at x4
     have gJ:p∈(c.drop m).headD []:=by
      unfold mS at x3;rw[aJ ix] at x3
      have:(c.drop m).headD []=c.getD m []:=by
       rw[List.headD_eq_head?_getD,List.head?_drop,dG]
      rw[this];exact Y9.1 x3
     have:=x4 p gJ;rw[aS] at this;exact this
    ·cases h
   ·rename_i aku;have akv:g=false:=by simpa using aku
    subst akv;exact next _ _ (.inl ⟨aL,rfl,rfl⟩) h
def akw {c:List (List Nat)}(aP:RR (mS c) ops l)(ae:(D l)=ops.size)(he:xI 0 ops.toList=true)(r:List bw)(m:Nat)(rec:Rec)(st:a6)(listed:Array Bool)(L:l.drop m=r)(hm:m+D r=D l)
  (O:listed.size=ops.size) (dr:∀i,i<ops.size->listed.getD i true=decide (i<m)) (jR:∀k,m<=k->rec k=none) (h:tq T K m r (c.drop m) rec st):BD (jr T (mS c)) ops l K (D r) listed rec st :=
 RV (YZ aP (MT c)) Y0 ae he r m rec st listed L hm O dr jR (Zb r m rec st jR h)
def Eu (h:dP A w B mem):dP (bn A B) w (λ_=>none) emp :=
 ⟨λ_ _=>rfl,λ_ _ _ _ _ h=>(by cases h),λb _ ⟨_,_,h,_⟩=>(by cases h),λb R=>R.elim (λcG=>h.rU cG) (h.lt b),h.gl,λb o _ ⟨_,_,h,_⟩=>(by cases h),λ_ _ _ h=>(by cases h)⟩
def wz (b:Nat):bn (bn A B) (λ_=>none) b↔bn A B b :=
 ⟨λh=>h.elim (fun⟨_,_,h,_⟩=>by cases h) id,.inr⟩
def RW {m:H}{v:Value}(h:aY w (bn A B) B m v):aY w (bn (bn A B) λ_=>none) (λ_=>none) (shut m) v:=by
 cases h with
 |I h=>exact .I (h.less λb R=>(wz b).1 R)
 |nil=>exact .nil
 |ee ae ad =>
  rename_i f dc vs
  cases dc with
  |nil=>exact .ee ae λi d v h=>by simp at h
  |cons c r=>exact .undef
 |agg ae ad =>
  rename_i cs vs;simp only[shut]
  cases U:cs.mapM rV with
  |none=>exact .undef
  |some ds =>
   obtain⟨F,G⟩:=mapM_get U;refine .I (.agg (ae.trans F.symm) λi d v Z al=>?_);have an:i<D cs:=by have:=(dK.1 Z).1;omega
   have dg:=bc an;exact (Rv (G i _ d dg Z) (ad i _ v dg al)).less λb R=>(wz b).1 R
 |_=>exact .undef
def shut_list {ms:List H}{vs:List Value}(h:cA w (bn A B) B ms vs):cA w (bn (bn A B) λ_=>none) (λ_=>none) (ms.map shut) vs:=by
 refine⟨by simpa using h.1,λi m v hm al=>?_⟩
 rw[bd,c2] at hm;obtain⟨m',uY,rfl⟩:=hm;exact RW (h.2 i m' v uY al)
def xY.less {w ak:World}{au hi:Nat->Prop}{sz:Nat}{es:List (List Data)}{v:Value}(ae:∀b,hi b->au b)(h:xY w ak au sz es v):xY w ak hi sz es v:=by
 obtain⟨F,a,cap,G,aa,aX,bt⟩:=h;refine⟨F,a,cap,G,aa,aX,bt.imp id ?_⟩;rintro⟨b,vs,T,bx,bK,ca,dh,dy⟩;exact⟨b,vs,T,bx,bK,ca,dh,λi d ad=>let ⟨u,hu,sb⟩:=dy i d ad;⟨u,hu,sb.less λeF hD=>hD.imp (ae eF) id⟩⟩
def wA {o:Oper}{c:Call}{f:FuncId}{a:Act}(a4:o.op=.call c)(hV:c.callee=.value (.func f))(gy:Real P f):(execOp a.eval o).run P w=.ok (.enter f (c.args.toList.map a.eval).toArray) w:=by
 obtain⟨dst,op,type,pos,after,guard⟩:=o;simp only at a4;subst a4;obtain⟨callee,sc,zR⟩:=c;simp only at hV;subst hV;simp only[execOp,resolve,Deferred.ofValue,Act.eval,invoke,Sem.run_bind,Sem.run_pure,Result.andThen_ok,Bx gy];rw[wo sc];simp
def Zc {au:Nat->Prop}{b off c sz len:Nat}{vs:Array Value}{T:TypeId}{ds:List Data}(bk:w.heap[b]?=some (.cells vs T (0,0)))(e8:¬ au b)(ae:(D ds)=len*sz)(akx:len<=c)(hm:len<=maxLen)(HL:off+len*sz<=vs.size)
  (ad:∀(i:Nat) (d:Data) (v:Value),ds[i]?=some d->vs[off+i]?=some v->Den w au d v):Den w au (.ao (chunk sz len ds)) (.slice (some ⟨b,off,none⟩) len c):=by
 have ea:=MB sz len ds
 have h:=Den.ao (w:=w) (au:=au) (es:=chunk sz len ds) (b:=b) (off:=off) (c:=c) (sz:=sz) (λi=>vs.getD (off+i) undef) (by rw[ea];exact akx) (by rw[ea];exact hm)
  (Array.getElem?_eq_some_iff.1 bk).1 e8 (MC sz len ds ae)
  (λi Z=>by
   rw[ea] at Z;rw[cell_of_row w b (off+i) vs T (0,0) bk];have:off+i<vs.size:=by omega
   simp[this])
  (λi d ng=>by
   rw[MD sz len ds ae] at ng;have an:i<D ds:=(dK.1 ng).1;have lT:off+i<vs.size:=by omega
   have:vs.getD (off+i) undef=vs[off+i]:=by simp[lT]
   simp only[this];exact ad i d _ ng (Array.getElem?_eq_getElem lT))
 rw[ea] at h;exact h
def aky {mem:Mem}{k g sz off len:Nat}{cs:List H}{d:Data}(hm:mem k=some (g,cs))(h:HD sz off len cs=some d):cL 1 mem (.ref k g sz off len)=some d:=by
 have a0:∀(m:H) (d:Data),rV m=some d->cL 0 mem m=some d:=λm d h=>by
  unfold rV at h
  split at h<;>simp_all [cL]
 have ae:∀(l:List H) (ds:List Data),l.mapM rV=some ds->l.mapM (cL 0 mem)=some ds:=by
  intro l
  induction l with
  |nil=>intro ds h;simpa using h
  |cons m l a2 =>
   intro ds h;simp only[nf,fZ,gi,dH,bM] at h ⊢;obtain⟨x,J,wB,fD,rfl⟩:=h;exact⟨x,a0 m x J,wB,a2 wB fD,rfl⟩
 unfold HD at h
 split at h
 ·rename_i part aP;simp only[Rd,c2] at h;obtain⟨ds,fD,rfl⟩:=h;simp only[cL,hm,if_true,aP];rw[ae _ _ fD]
  rfl
 ·cases h
def Ib {k:Key}{g sz off len:Nat}{cs:List H}{d:Data}{v:Value}(bh:dP A w B mem)(Q:mem k=some (g,cs))(ad:cL 1 mem (.ref k g sz off len)=some d)(al:aY w (bn A B) B (.ref k g sz off len) v):
  Den w (bn A (e3 B k ⟨bz mem k,none,0,false⟩)) d v:=by
 have e8:∀b,bn A (e3 B k ⟨bz mem k,none,0,false⟩) b->bn A B b:=λb h=>h.imp (fun⟨j,e,Y,J⟩=>by
  by_cases b1:j=k
  ·subst b1;rw[fy] at Y;cases Y;cases J
  ·rw[fl B _ b1] at Y;exact⟨j,e,Y,J⟩) id
 simp only[cL,Q,if_true] at ad
 split at ad
 ·rename_i part RX;simp only[c2] at ad;obtain⟨ds,fD,rfl⟩:=ad;obtain⟨ea,rfl,ix⟩:=Ed RX;obtain⟨F,G⟩:=mapM_get fD
  cases al with
  |ref he hgle L =>
   obtain⟨e,eK,bB,aA,R⟩:=bh.at_ Q;rw[eK] at he;obtain rfl:=mm he;obtain⟨a,cap,rfl,aa,aX,bt⟩:=L;rcases bt with bt|⟨b,rfl,bx⟩
   ·have:len=0:=by omega
    subst this;simp only[chunk];exact .kP
   ·obtain⟨bK,ca,hE⟩:=bx bB.symm;obtain⟨vs,T,bk,a0,hle,b7⟩:=R b bK hE
    have RY:¬ bn A (e3 B k ⟨bz mem k,none,0,false⟩) b:=by
     rintro (⟨j,ax,Y,J⟩|ba)
     ·by_cases b1:j=k
      ·subst b1;rw[fy] at Y;cases Y;cases J
      ·rw[fl B _ b1] at Y;exact b1 (bh.inj j k ax _ b Y eK J bK)
     ·exact bh.sep b ba ⟨k,_,eK,bK⟩
    refine Zc bk RY (by omega) aa (by omega) (by omega) λi x u J hu=>?_;have an:i<D ds:=(dK.1 J).1;have lT:off+i<D cs:=by omega
    have dg:((cs.drop off).take (len*sz))[i]?=some cs[off+i]:=by
     rw[x5 (by omega),oI,bc lT]
    have oO:=G i _ x dg J
    have kR:aY w (bn A B) B cs[off+i] u:=b7.2 (off+i) _ u (bc lT) (by
     rw[x5 lT,Array.getElem?_toList];exact hu)
    generalize cs[off+i]=m at *
    cases m<;>simp only[cL,bM,reduceCtorEq] at oO
    ·subst oO
     cases kR with
     |I h=>exact h.less e8
    ·subst oO
     cases kR;exact .kP
 ·cases ad
def akz {hi:Nat->Prop}{ay:cS}(e8:∀b,hi b->bn A B b){m:H}{v:Value}(h:aY w (bn A B) B m v):aY w hi ay (shut m) v:=by
 have aq:=RW h;have akA:∀b,hi b->bn (bn A B) (λ_=>none) b:=λb R=>(wz b).2 (e8 b R)
 have go:∀{m:H},(∃d,m=.I d)\/m=.nil\/(∃f,m=.ee f [])\/m=.undef->aY w (bn (bn A B) λ_=>none) (λ_=>none) m v->aY w hi ay m v:=by
  intro m hm h;rcases hm with ⟨d,rfl⟩|rfl|⟨f,rfl⟩|rfl
  ·cases h with
   |I h=>exact .I (h.less akA)
  ·cases h;exact .nil
  ·cases h with
   |ee ae ad=>exact .ee ae λi d v h=>by simp at h
  ·exact .undef
 refine go ?_ aq
 cases m<;>simp only[shut]
 case I d=>simp
 case nil=>simp
 case ee f dc=>cases dc<;>simp
 case agg cs=>split<;>simp
 all_goals simp
def akB {k:Key}{g:Nat}{cs:List H}(h:dP A w B mem)(Q:mem k=some (g,cs))(ad:q4 cs=true):
  dP (λb=>A b\/∃j e,j≠k/\B j=some e/\e.dj=some b) w (λj=>if j=k then B k else none) (aT emp k g cs):=by
 have e8:∀b,bn (λb=>A b\/∃j e,j≠k/\B j=some e/\e.dj=some b) (λj=>if j=k then B k else none) b->bn A B b:=λb R=>by
  rcases R with ⟨j,e,Y,J⟩|ba|⟨j,e,_,Y,J⟩
  ·by_cases b1:j=k
   ·subst b1;simp only[if_true] at Y;exact .inl ⟨_,e,Y,J⟩
   ·simp only[b1,if_false] at Y;cases Y
  ·exact .inr ba
  ·exact .inl ⟨j,e,Y,J⟩
 refine⟨λj Y=>?_,λj iI e e' b F G _ _=>?_,λb ba a4=>?_,λb R=>?_,h.gl,λb o R ⟨j,e,Y,J⟩=>?_,λj cv g7 Y=>?_⟩
 ·by_cases b1:j=k
  ·subst b1;simp[aT] at Y
  ·simp only[b1,if_false]
 ·by_cases Y:j=k<;>by_cases kf:iI=k
  ·rw[Y,kf]
  ·simp only[kf,if_false] at G;cases G
  ·simp only[Y,if_false] at F;cases F
  ·simp only[Y,if_false] at F;cases F
 ·obtain⟨j,e,Y,J⟩:=a4
  by_cases b1:j=k
  ·subst b1;simp only[if_true] at Y;rcases ba with ba|⟨iI,e',bo,kf,oO⟩
   ·exact h.sep b ba ⟨_,e,Y,J⟩
   ·exact bo (h.inj _ _ e' e b kf Y oO J)
  ·simp only[b1,if_false] at Y;cases Y
 ·rcases R with R|⟨j,e,_,Y,J⟩
  ·exact h.lt b R
  ·exact h.rU ⟨j,e,Y,J⟩
 ·by_cases b1:j=k
  ·subst b1;simp only[if_true] at Y;exact h.v7 b o R ⟨_,e,Y,J⟩
  ·simp only[b1,if_false] at Y;cases Y
 ·by_cases b1:j=k
  ·subst b1;simp only[aT,if_true,bM,eL] at Y;obtain⟨rfl,rfl⟩:=Y;obtain⟨e,he,aL,aA,R⟩:=h.dj _ _ _ Q;refine⟨e,by simp only[if_true];exact he,aL,aA,λb fV=>?_⟩
   refine (R b fV).imp rfl rfl λm Z v jm=>?_;unfold q4 at ad;rw[kA] at ad;have hm:=ad m Z;rw[Yq] at hm;obtain⟨d,hm⟩:=hm;unfold rV at hm
   split at hm<;>cases hm
   ·cases jm with
    |I jm=>exact .I (jm.less e8)
   ·cases jm;exact .nil
  ·simp only[aT,b1,if_false,emp] at Y;cases Y
def akC {ak:World}{k:Key}{ti:Nat->Prop}(h:dP A w B mem)(akD:∀b,ti b->∃e,B k=some e/\e.dj=some b)(f:Fr ti w ak):c9 A w B ak (e3 B k ⟨bz mem k,none,0,false⟩) (aT mem k (bz mem k) []) :=
 c9.change (e':=⟨bz mem k,none,0,false⟩) h ⟨f.os,f.tape,f.output,f.size,λb R a4=>f.block b R λJ=>a4 (akD b J)⟩ (λe he => .inr (zG h k e he)) (λb R=>by simp at R) (λ_=>rfl) (λb R=>by simp at R)
def akE (cu:nh P T){a:Act}{st:a6}{o:Oper}{i:bw}{m:H}{e:Option (Key×Nat×List H)}(h:dR b2 n A cq dD a st w B)(Z:Es P n kb own ops o i)
  (O:eW T st.mem st.tm i.op=some (m,e)):o.wp P a w (λcB ak=>∃ay,dR b2 n A cq dD cB ⟨put st.tm i.dst m,gf st.mem e⟩ ak ay) a3:=by
 have e4:=Z.op
 have plain:bD st.mem st.tm i.op=some (m,e)->o.wp P a w (λcB ak=>∃ay,dR b2 n A cq dD cB ⟨put st.tm i.dst m,gf st.mem e⟩ ak ay) a3:=by
  intro O
  have aw:gW P kb own o.dst o.type o.op=some i.op:=getD_some e4 (by
   intro R;rw[R] at O
   cases O)
  obtain⟨zQ,v,ak,ay,eM,jo,df,al⟩:=RG h.ok.cr h.kh (λ_=>rfl) aw O;unfold Oper.wp;rw[eM,Z.dst];have xZ:=h.put df al Z.lt;rcases jo with rfl|⟨rfl,rfl⟩
  ·exact⟨ay,xZ⟩
  ·exact⟨ay,xZ⟩
 cases rf:i.op with
 |call f args =>
  have aw:gW P kb own o.dst o.type o.op=some i.op:=getD_some e4 (by rw[rf];simp);rw[rf] at aw O;obtain⟨c,U,hV,jq⟩:=HY aw;have b7:=shut_list (qs h.kh jq);rw[x6] at b7;simp only[eW] at O
  split at O
  ·rename_i r hG
   cases O;obtain⟨gy,iM⟩:=cu f _ _ _ hG;have mo:=iM (bn A B) w (λ_=>none) _ (Eu h.ok.cr) b7;unfold Oper.wp;rw[wA U hV gy,Z.dst];refine Calls.mono mo λe ak he=>?_;obtain⟨v,rfl,dq,ad⟩:=he;exact⟨B,h.put (.still h.ok.cr dq) (.I (ad.less λb R=>(wz b).2 R)) Z.lt⟩
  ·rename_i sz es hG
   cases O;obtain⟨gy,iM⟩:=cu f _ _ _ hG;have mo:=iM (bn A B) w (λ_=>none) _ (Eu h.ok.cr) b7;unfold Oper.wp;rw[wA U hV gy,Z.dst];refine Calls.mono mo λe ak he=>?_;obtain⟨v,rfl,dq,ad⟩:=he;exact⟨B,h.put (.still h.ok.cr dq) (.I ((ad.less λb R=>(wz b).2 R).den λb R=>R.elim (λcG=>h.ok.cr.rU cG) (h.ok.cr.lt b))) Z.lt⟩
  ·cases O
 |lb k sz f args =>
  have aw:gW P kb own o.dst o.type o.op=some i.op:=getD_some e4 (by rw[rf];simp);rw[rf] at aw O;obtain⟨c,U,hV,jq⟩:=YH aw;have b7:=shut_list (qs h.kh jq);rw[x6] at b7;simp only[eW] at O
  split at O
  ·rename_i eg es hG
   split at O
   ·rename_i eb;subst eb
    cases O;obtain⟨gy,iM⟩:=cu f _ _ _ hG;have mo:=iM (bn A B) w (λ_=>none) _ (Eu h.ok.cr) b7;unfold Oper.wp;rw[wA U hV gy,Z.dst];refine Calls.mono mo λe ak he=>?_;obtain⟨v,rfl,dq,ad⟩:=he;obtain⟨ay,df,al⟩:=YG k h.ok.cr dq (ad.less λb R=>(wz b).2 R);exact⟨ay,h.put df al Z.lt⟩
   ·cases O
  ·cases O
 |kQ b6 f args =>
  have aw:gW P kb own o.dst o.type o.op=some i.op:=getD_some e4 (by rw[rf];simp);rw[rf] at aw O;obtain⟨c,U,hV,jq⟩:=aj1 aw;have b7:=qs h.kh jq;simp only[eW] at O;obtain⟨r,k,g,ayD,cc,cs,hG,hm,rfl,rfl,aj⟩:=YR O;obtain⟨gy,iM⟩:=cu f _ _ _ hG;have mo:=iM A w B _ h.ok.cr b7;unfold Oper.wp;rw[wA U hV gy,Z.dst];refine Calls.mono mo λe ak he=>?_;obtain⟨v,ay,rfl,df,al⟩:=he;refine⟨ay,?_⟩;have n5:qe st.mem k=cs:=by simp only[qe,hm]
  rw[n5] at df;exact h.put df al Z.lt
 |qb j f args =>
  have aw:gW P kb own o.dst o.type o.op=some i.op:=getD_some e4 (by rw[rf];simp);rw[rf] at aw O;obtain⟨c,U,hV,jq⟩:=aj2 aw;have zU:=qs h.kh jq;simp only[eW] at O;obtain⟨k,g,sz,off,len,cs,d,r,J,hm,ad,L,rfl,rfl⟩:=YP O;have ok:=c9.wg h.ok.cr k
  have an:j<(c.args.toList.map a.eval).length:=by
   rw[zU.1];exact (dK.1 J).1
  have HM:=bc an;have sb:=Ib h.ok.cr hm (aky hm ad) (zU.2 j _ _ J HM);have MU:=shut_list (zU.j9 ok.iH);rw[x6] at MU
  have MV:cA w (bn (bn A (e3 B k ⟨bz st.mem k,none,0,false⟩)) λ_=>none) (λ_=>none) ((args.map (shut ∘ aK st.tm)).set j (.I d)) (c.args.toList.map a.eval):=by
   refine⟨by rw[MU.1,fj],λi m v F G=>?_⟩
   by_cases kV:j=i
   ·subst kV;rw[HM] at G
    cases G;have hj:j<(args.map (shut ∘ aK st.tm)).length:=by rw[<-MU.1];exact an
    rw[Zd hj] at F
    cases F;exact .I (sb.less λb R=>(wz b).1 R)
   ·rw[Ze kV] at F;exact MU.2 i m v F G
  unfold Mm at L
  split at L
  ·rename_i xK hG
   cases L;obtain⟨gy,iM⟩:=cu f _ _ _ hG;have mo:=iM (bn A (e3 B k ⟨bz st.mem k,none,0,false⟩)) w (λ_=>none) _ (Eu ok.cr) MV;unfold Oper.wp;rw[wA U hV gy,Z.dst];refine Calls.mono mo λe ak he=>?_;obtain⟨v,rfl,dq,mP⟩:=he;exact⟨_,h.put (ok.trans (.still ok.cr dq)) (.I (mP.less λb R=>(wz b).2 R)) Z.lt⟩
  ·rename_i eg es hG
   cases L;obtain⟨gy,iM⟩:=cu f _ _ _ hG;have mo:=iM (bn A (e3 B k ⟨bz st.mem k,none,0,false⟩)) w (λ_=>none) _ (Eu ok.cr) MV;unfold Oper.wp;rw[wA U hV gy,Z.dst];refine Calls.mono mo λe ak he=>?_;obtain⟨v,rfl,dq,mP⟩:=he;exact⟨_,h.put (ok.trans (.still ok.cr dq)) (.I ((mP.less λb R=>(wz b).2 R).den λb R=>R.elim (λcG=>ok.cr.rU cG) (ok.cr.lt b))) Z.lt⟩
  ·cases L
 |qc j f args =>
  have aw:gW P kb own o.dst o.type o.op=some i.op:=getD_some e4 (by rw[rf];simp);rw[rf] at aw O;obtain⟨c,U,hV,jq⟩:=aj3 aw;have zU:=qs h.kh jq;simp only[eW] at O;obtain⟨k,g,sz,off,len,cv,cs,r,J,hm,ad,hG,rfl,rfl⟩:=YQ O;have bh:=akB h.ok.cr hm ad
  have akF:∀b,bn (λb=>A b\/∃j e,j≠k/\B j=some e/\e.dj=some b) (λj=>if j=k then B k else none) b->bn A B b:=λb R=>by
   rcases R with ⟨wC,e,Y,rh⟩|ba|⟨wC,e,_,Y,rh⟩
   ·by_cases b1:wC=k
    ·simp only[aJ b1] at Y;exact .inl ⟨k,e,Y,rh⟩
    ·simp only[aR b1] at Y;cases Y
   ·exact .inr ba
   ·exact .inl ⟨wC,e,Y,rh⟩
  have an:j<(c.args.toList.map a.eval).length:=by
   rw[zU.1];exact (dK.1 J).1
  have HM:=bc an
  have MV:cA w (bn (λb=>A b\/∃j e,j≠k/\B j=some e/\e.dj=some b) (λj=>if j=k then B k else none)) (λj=>if j=k then B k else none) ((args.map λx=>shut (aK st.tm x)).set j (.ref k g sz off len)) (c.args.toList.map a.eval):=by
   refine⟨by rw[zU.1,fj,ah,ah],λi m v F G=>?_⟩
   by_cases kV:j=i
   ·subst kV
    have hj:j<(args.map λx=>shut (aK st.tm x)).length:=by
     have:=(dK.1 J).1
     simpa using this
    rw[Zd hj] at F
    cases F;have al:=zU.2 j _ v J G
    cases al with
    |ref he aL L=>exact .ref (by simp only[if_true];exact he) aL L
   ·rw[Ze kV,bd,c2] at F;obtain⟨y,ai,rfl⟩:=F;exact akz akF (zU.2 i (aK st.tm y) v (by rw[bd,ai];rfl) G)
  obtain⟨gy,iM⟩:=cu f _ _ _ hG;have mo:=iM _ w _ _ bh MV;unfold Oper.wp;rw[wA U hV gy,Z.dst];refine Calls.mono mo λe ak he=>?_;obtain⟨v,iV,rfl,df,al⟩:=he;refine⟨_,h.put (akC h.ok.cr (λb R=>?_) df.fY) ?_ Z.lt⟩
  ·obtain⟨wC,e,Y,rh⟩:=R
   by_cases b1:wC=k
   ·simp only[aJ b1] at Y;exact⟨e,Y,rh⟩
   ·simp only[aR b1] at Y;cases Y
  ·cases al with
   |I al =>
    refine .I (al.less λb R=>?_);rcases R with ⟨wC,e,Y,rh⟩|ba
    ·by_cases b1:wC=k
     ·rw[b1,fy] at Y;cases Y;cases rh
     ·rw[fl B _ b1] at Y;exact .inr (.inr ⟨wC,e,b1,Y,rh⟩)
    ·exact .inr (.inl ba)
 |jN f args =>
  have aw:gW P kb own o.dst o.type o.op=some i.op:=getD_some e4 (by rw[rf];simp);rw[rf] at aw O;obtain⟨c,x,U,hV,J,jq⟩:=RL aw;have b7:=shut_list (qs h.kh jq);rw[x6] at b7;simp only[eW] at O
  split at O
  ·rename_i g aL
   split at O
   ·rename_i r hG
    cases O;have ML:=RW (h.kh _ _ J);rw[aL] at ML;obtain⟨cs,hu,ea⟩:=H0 ML (.inl rfl);have iJ:cs=[]:=q9 ea.1;subst iJ;obtain⟨gy,iM⟩:=cu g _ _ _ hG;have mo:=iM (bn A B) w (λ_=>none) _ (Eu h.ok.cr) b7
    have hex:(execOp a.eval o).run P w=.ok (.enter g (c.args.toList.map a.eval).toArray) w:=by
     obtain⟨dst,op,type,pos,after,guard⟩:=o;simp only at U;subst U;obtain⟨callee,sc,zR⟩:=c;simp only at hV;subst hV;simp only[execOp,resolve,hu,Deferred.ofValue,invoke,Sem.run_bind,Sem.run_pure,Result.andThen_ok,Bx gy];rw[wo sc];simp
    unfold Oper.wp;rw[hex,Z.dst];refine Calls.mono mo λe ak he=>?_;obtain⟨v,rfl,dq,ad⟩:=he;exact⟨B,h.put (.still h.ok.cr dq) (.I (ad.less λb R=>(wz b).2 R)) Z.lt⟩
   ·cases O
  ·cases O
 |lR neg x=>rw[rf] at O;cases O
 |_=>exact plain (by rw[rf] at O ⊢;exact O)
def MW {α β:Type}{f:α->Option β}{xs:List α}{ys:List β}(h:xs.mapM f=some ys){i:Nat}{x:α}(J:xs[i]?=some x):∃y,ys[i]?=some y/\f x=some y:=by
 obtain⟨F,G⟩:=mapM_get h;have an:i<D ys:=by rw[F];exact (dK.1 J).1
 exact⟨_,bc an,G i x _ J (bc an)⟩
def MX (P:Program)(b2:Option H)(n:Nat)(A:Nat->Prop)(cq:World)(dD:cS)(ops:Array Oper)(l:List bw)(da:uX)(a3:Exit->Act->World->Prop):Prop :=
 ∀i x o rec st iN cb a w B,l[i]?=some x->ops[i]?=some o->da i x rec st iN cb->dR b2 n A cq dD a st w B ->
  (Region.wanted o (yielded ops a.tmps)=false/\dR b2 n A cq dD (a.put o.dst undef) cb w B)\/(Region.wanted o (yielded ops a.tmps)=true/\o.wp P a w (λcB ak=>∃ay,dR b2 n A cq dD cB cb ak ay) a3)
def RZ (cu:nh P T){gk:Nat->Nat->Bool}(aw:ops.toList.mapM (nC P n kb own ops)=some l):MX P b2 n A cq dD ops l (jr T gk) a3:=by
 intro i x o rec st iN cb a w B J a4 hex O;obtain⟨y,ai,Ic⟩:=MW aw (i:=i) (x:=o) (by simpa using a4);rw[J] at ai
 cases ai;have wD:=HZ Ic;rcases hex with ⟨aL,rfl,rfl⟩|⟨aL,m,e,Ie,_,rfl,rfl⟩
 ·exact .inl ⟨zP O wD.guard aL,by rw[wD.dst];exact O.put (.refl O.ok.cr) .no wD.lt⟩
 ·exact .inr ⟨zP O wD.guard aL,akE cu O wD Ie⟩
def MY {da:uX}(df:MX P b2 n A cq dD ops l da a3)(e5:∀st a w B,K st->dR b2 n A cq dD a st w B->a3 .normal a w):
  ∀(fuel:Nat) (listed:Array Bool) (rec:Rec) (st:a6) (a:Act) (w:World) (B:cS),dR b2 n A cq dD a st w B->BD da ops l K fuel listed rec st->wpAny P .any ops a3 fuel listed a w
 |0,_,_,_,_,_,_,O,h=>⟨h.1,e5 _ _ _ _ h.2 O⟩
 |fuel+1,listed,rec,st,a,w,B,O,h=>by
  refine⟨λaq=>e5 _ _ _ _ (h.1 aq) O,λi Z=>?_⟩;obtain⟨x,iN,cb,J,hex,Q⟩:=h.2 i Z;obtain⟨_,o,a4,_⟩:=mem_ready.1 Z;unfold wpOp;simp only[a4];rcases df i x o rec st iN cb a w B J a4 hex O with ⟨hw,eG⟩|⟨hw,eG⟩
  ·rw[hw,aR (by simp)];exact MY df e5 fuel _ _ _ _ _ B eG Q
  ·rw[hw,aJ rfl];exact .inl (Oper.wp_mono (λcB ak ⟨ay,eG⟩=>MY df e5 fuel _ _ _ _ _ ay eG Q) eG)
def akG (cu:nh P T){gk:Nat->Nat->Bool}(aw:ops.toList.mapM (nC P n kb own ops)=some l)(e5:∀st a w B,K st->dR b2 n A cq dD a st w B->a3 .normal a w):
  ∀(fuel:Nat) (listed:Array Bool) (rec:Rec) (st:a6) (a:Act) (w:World) (B:cS),dR b2 n A cq dD a st w B->BD (jr T gk) ops l K fuel listed rec st->wpAny P .any ops a3 fuel listed a w :=
 MY (RZ cu aw) e5
def dR.drew {a:Act}{st:a6}(h:dR b2 n A cq dD a st w B)(d:Nat):dR b2 n A cq dD a st { w with drawn:=d } B:=by
 have O:c9 A w B { w with drawn:=d } B st.mem:=.still h.ok.cr ((Fr.refl _ _).drew d);exact⟨h.ok.trans O,λs=>(h.tm s).j9 O.iH,h.sz,h.wu.j9 O.iH⟩
def akH (cu:nh P T)(hm:P.follows .mixedOrders=true){id:Nat}{a:Act}{st:a6}(aw:ops.toList.mapM (nC P n kb own ops)=some l)(ad:qh ops l=true)(O:dR b2 n A cq dD a st w B)
  (h:tq T K 0 l (mi [] l (fU ops.toList [])) (λ_=>none) st) (e5:∀st a w B,K st->dR b2 n A cq dD a st w B->a3 .normal a w):(Code.region id ops true).wp P a3 a w:=by
 refine wp_region_any hm ?_
 have ae:(D l)=ops.size:=by
  rw[(mapM_get aw).1,Array.length_toList]
 have uZ:=akw (RU ad) ae (by unfold qh at ad;rw[fe] at ad;exact ad.1) l 0 (λ_=>none) st (Array.replicate ops.size false) rfl (by simp) (by simp) (λi Z=>by simp[Z]) (λ_ _=>rfl) h;rw[ae] at uZ;exact akG cu aw e5 ops.size _ _ _ _ _ B (O.drew _) uZ
def R0 (cu:nh P T)(aw:ops.toList.mapM (nC P n kb own ops)=some l)(e5:∀st a w B,K st->dR b2 n A cq dD a st w B->a3 .normal a w):
  ∀(r:List bw) (m:Nat) (st:a6) (a:Act) (w:World) (B:cS),l.drop m=r->dR b2 n A cq dD a st w B->wb T K r st->wpOps P ops a3 (List.range' m (D r)) a w
 | [],_,_,_,_,_,_,O,h=>e5 _ _ _ _ h O
 |x::r,m,st,a,w,B,L,O,h=>by
  have J:l[m]?=some x:=by
   have:(l.drop m)[0]?=some x:=by rw[L];rfl
   simpa using this
  have dC:l.drop (m+1)=r:=by rw[<-x2,L];rfl
  have an:m<ops.size:=by
   have F:=(mapM_get aw).1;have G:=(dK.1 J).1;simp at F;omega
  have a4:ops[m]?=some ops[m]:=Array.getElem?_eq_getElem an;obtain⟨y,ai,Ic⟩:=MW aw (i:=m) (x:=ops[m]) (by simp);rw[J] at ai
  cases ai;have wD:=HZ Ic;simp only[lQ,List.range'_succ];rw[wpOps_cons];unfold wpOp;simp only[a4];simp only[wb] at h
  split at h
  ·cases h
  ·rename_i g aL;rw[zP O wD.guard aL]
   cases g with
   |true =>
    simp only[if_true] at h ⊢;exact .inl (Oper.wp_mono (λcB ak ⟨cb,ay,Q,eG⟩=>R0 cu aw e5 r (m+1) cb cB ak ay dC eG Q) (aj5 cu O wD h))
   |false =>
    simp only[cC,if_false] at h ⊢;exact R0 cu aw e5 r (m+1) _ _ _ B dC (O.put (.refl O.ok.cr) .no wD.lt) (by rw[<-wD.dst];exact h)
end Go.Mini
namespace Go.Mini
open Go
variable {A:Nat->Prop} {w:World} {B:cS} {mem:Mem}
def Zf (bh:dP A w B mem){au:Nat->Prop}(e8:∀b,au b->A b){k:Key}{e:ht}{b:Nat}(he:B k=some e)(R:e.dj=some b):¬ au b :=
 λh=>bh.sep b (e8 b h) ⟨k,e,he,R⟩
def snap (bh:dP A w B mem){au:Nat->Prop}(e8:∀b,au b->A b):∀(d:Nat) (m:H) (v:Value) (r:Data),cL d mem m=some r->aY w (bn A B) B m v->Den w au r v:=by
 have Zg:∀(d:Data) (v:Value),aY w (bn A B) B (.I d) v->Den w au d v:=λd v h=>by
  cases h with
  |I h=>exact h.less λb R => .inr (e8 b R)
 have zV:∀v,aY w (bn A B) B .nil v->Den w au (.ao []) v:=λv h=>by
  cases h;exact .kP
 intro d
 induction d with
 |zero =>
  intro m v r h al
  cases m<;>simp only[cL,bM,reduceCtorEq] at h
  ·subst h;exact Zg _ _ al
  ·subst h;exact zV _ al
 |succ d a2 =>
  intro m v r h al
  have lists:∀(cs:List H) (vs:List Value) (ds:List Data),cs.mapM (cL d mem)=some ds->(D vs)=(D cs)->(∀(i:Nat) (x:H) (u:Value),cs[i]?=some x->vs[i]?=some u->aY w (bn A B) B x u) ->
    (D vs)=D ds/\∀(i:Nat) (x:Data) (u:Value),ds[i]?=some x->vs[i]?=some u->Den w au x u:=by
   intro cs vs ds fD ae L;obtain⟨F,G⟩:=mapM_get fD;refine⟨by omega,λi x u J hu=>?_⟩
   have an:i<D cs:=by have:=(dK.1 J).1;omega
   have dg:=bc an;exact a2 _ u x (G i _ x dg J) (L i _ u dg hu)
  cases m<;>simp only[cL,bM,c2,reduceCtorEq] at h
  case I=>subst h;exact Zg _ _ al
  case nil=>subst h;exact zV _ al
  case ref k g sz off len =>
   split at h
   ·rename_i cv cs Q
    split at h
    ·rename_i aL;subst aL
     split at h
     ·rename_i part RX;simp only[c2] at h;obtain⟨ds,fD,rfl⟩:=h;obtain⟨ea,rfl,ix⟩:=Ed RX;obtain⟨F,G⟩:=mapM_get fD
      cases al with
      |ref he hgle L =>
       obtain⟨e,eK,bB,aA,R⟩:=bh.at_ Q;rw[eK] at he
       cases he;obtain⟨a,cap,rfl,aa,aX,bt⟩:=L;rcases bt with bt|⟨b,rfl,bx⟩
       ·have:len=0:=by omega
        subst this;simp only[chunk];exact .kP
       ·obtain⟨bK,ca,hE⟩:=bx bB.symm;obtain⟨vs,T,bk,a0,hle,b7⟩:=R b bK hE;refine Zc bk (Zf bh e8 eK bK) (by omega) aa (by omega) (by omega) λi x u J hu=>?_;have an:i<D ds:=(dK.1 J).1;have lT:off+i<D cs:=by omega
        have dg:((cs.drop off).take (len*sz))[i]?=some cs[off+i]:=by
         rw[x5 (by omega),oI,bc lT]
        refine a2 _ u x (G i _ x dg J) (b7.2 (off+i) _ u (bc lT) ?_);rw[x5 lT,Array.getElem?_toList];exact hu
     ·cases h
    ·cases h
   ·cases h
  case ptr k g off =>
   split at h
   ·rename_i cv cs Q
    split at h
    ·rename_i aL;obtain⟨rfl,Ru⟩:=aL;simp only[c2] at h;obtain⟨ds,fD,rfl⟩:=h;obtain⟨F,G⟩:=mapM_get fD
     cases al with
     |ptr he hgle L =>
      obtain⟨e,eK,bB,aA,R⟩:=bh.at_ Q;rw[eK] at he
      cases he;obtain⟨b,rfl,bx⟩:=L;obtain⟨bK,hE⟩:=bx bB.symm;obtain⟨vs,T,bk,a0,hle,b7⟩:=R b bK hE;rw[List.length_drop] at F;refine .ptr (λi=>vs.getD (off+i) undef) (Array.getElem?_eq_some_iff.1 bk).1 (Zf bh e8 eK bK) (λi Z=>?_) λi x J=>?_
      ·rw[cell_of_row w b (off+i) vs T (0,0) bk];have:off+i<vs.size:=by omega
       simp[this]
      ·have an:i<D ds:=(dK.1 J).1;have lT:off+i<D cs:=by omega
       have Ig:off+i<vs.size:=by omega
       have dg:(cs.drop off)[i]?=some cs[off+i]:=by
        rw[oI,bc lT]
       have hu:vs.getD (off+i) undef=vs[off+i]:=by simp[Ig]
       rw[hu];refine a2 _ _ x (G i _ x dg J) (b7.2 (off+i) _ _ (bc lT) ?_);rw[x5 lT,Array.getElem?_toList];exact Array.getElem?_eq_getElem Ig
    ·cases h
   ·cases h
  case ee f cs =>
   obtain⟨ds,fD,rfl⟩:=h
   cases al with
   |ee ae ad=>obtain⟨F,G⟩:=lists _ _ _ fD ae ad;exact .fn F G
  case agg cs =>
   obtain⟨ds,fD,rfl⟩:=h
   cases al with
   |agg ae ad=>obtain⟨F,G⟩:=lists _ _ _ fD ae ad;exact .agg F G
  case dp cs =>
   obtain⟨ds,fD,rfl⟩:=h
   cases al with
   |dp ae ad=>obtain⟨F,G⟩:=lists _ _ _ fD ae ad;exact .dp F G
def aY.shift {au hi:Nat->Prop}{ay:cS}(e8:∀b,hi b->au b)(Q:∀k e,B k=some e->∃e',ay k=some e'/\(e'=e\/e.g<e'.g)){m:H}{v:Value}(h:aY w au B m v):aY w hi ay m v:=by
 induction h with
 |I h=>exact .I (h.less e8)
 |nil=>exact .nil
 | @ref k g sz off len e v he aL al =>
  obtain⟨e',eK,bk⟩:=Q k e he;rcases bk with rfl|bk
  ·exact .ref eK aL al
  ·exact .ref eK (by omega) (al.later (by omega))
 | @ptr k g off e v he aL al =>
  obtain⟨e',eK,bk⟩:=Q k e he;rcases bk with rfl|bk
  ·exact .ptr eK aL al
  ·exact .ptr eK (by omega) (al.later (by omega))
 |ee ae ad a2=>exact .ee ae a2
 |agg ae ad a2=>exact .agg ae a2
 |dp ae ad a2=>exact .dp ae a2
 | @hB k g e v he aL al =>
  obtain⟨e',eK,bk⟩:=Q k e he;rcases bk with rfl|bk
  ·exact .hB eK aL al
  ·obtain⟨b,R,_⟩:=al;exact .hB eK (by omega) ⟨b,R,λh=>by omega⟩
 |no=>exact .no
 |undef=>exact .undef
def kill_shut (bh:dP A w B mem){k:Key}{g:Nat}{cs:List H}{e:ht}{b:Nat}(Q:mem k=some (g,cs))(he:B k=some e)(R:e.dj=some b):
  dP (λeF=>A eF\/eF=b) w (e3 B k ⟨bz mem k,none,0,false⟩) (kill mem k)/\(∀m v,aY w (bn A B) B m v->aY w (bn (λeF=>A eF\/eF=b) (e3 B k ⟨bz mem k,none,0,false⟩)) (e3 B k ⟨bz mem k,none,0,false⟩) m v):=by
 have aL:=zG bh k e he
 have e8:∀eF,bn (λeF=>A eF\/eF=b) (e3 B k ⟨bz mem k,none,0,false⟩) eF->bn A B eF:=λeF h=>by
  rcases h with ⟨j,ax,Y,J⟩|h|rfl
  ·by_cases b1:j=k
   ·subst b1;rw[fy] at Y;cases Y;cases J
   ·rw[fl B _ b1] at Y;exact .inl ⟨j,ax,Y,J⟩
  ·exact .inr h
  ·exact .inl ⟨k,e,he,R⟩
 have akI:∀j ax,B j=some ax->∃e',e3 B k ⟨bz mem k,none,0,false⟩ j=some e'/\(e'=ax\/ax.g<e'.g):=λj ax Y=>by
  by_cases b1:j=k
  ·subst b1;rw[he] at Y
   cases Y;exact⟨_,fy _ _ _,.inr aL⟩
  ·exact⟨ax,by rw[fl B _ b1];exact Y,.inl rfl⟩
 have shift:∀m v,aY w (bn A B) B m v->aY w (bn (λeF=>A eF\/eF=b) (e3 B k ⟨bz mem k,none,0,false⟩)) (e3 B k ⟨bz mem k,none,0,false⟩) m v:=λm v h=>h.shift e8 akI;refine⟨⟨λj Y=>?_,λj iI aO ax eF F G aa aX=>?_,λeF ba a4=>?_,λeF ba=>?_,bh.gl,λeF o hD ⟨j,ax,Y,J⟩=>?_,λj cv g7 Y=>?_⟩,shift⟩
 ·by_cases b1:j=k
  ·subst b1;simp[kill,aT] at Y
  ·rw[fl B _ b1];simp only[kill,aT,b1,if_false] at Y;exact bh.rT j Y
 ·by_cases b1:j=k
  ·subst b1;rw[fy] at F;cases F;cases aa
  ·by_cases hjk':iI=k
   ·subst hjk';rw[fy] at G;cases G;cases aX
   ·rw[fl B _ b1] at F;rw[fl B _ hjk'] at G;exact bh.inj j iI aO ax eF F G aa aX
 ·obtain⟨j,ax,Y,J⟩:=a4
  by_cases b1:j=k
  ·subst b1;rw[fy] at Y;cases Y;cases J
  ·rw[fl B _ b1] at Y;rcases ba with ba|rfl
   ·exact bh.sep eF ba ⟨j,ax,Y,J⟩
   ·exact b1 (bh.inj j k ax e eF Y he J R)
 ·rcases ba with ba|rfl
  ·exact bh.lt eF ba
  ·exact bh.rU ⟨k,e,he,R⟩
 ·by_cases b1:j=k
  ·subst b1;rw[fy] at Y;cases Y;cases J
  ·rw[fl B _ b1] at Y;exact bh.v7 eF o hD ⟨j,ax,Y,J⟩
 ·by_cases b1:j=k
  ·subst b1;simp only[kill,aT,if_true,bM,eL] at Y;obtain⟨rfl,rfl⟩:=Y;exact⟨_,fy _ _ _,rfl,λ_=>rfl,λeF hD=>by cases hD⟩
  ·simp only[kill,aT,b1,if_false] at Y;obtain⟨ax,F,G,aa,aX⟩:=bh.dj j cv g7 Y;refine⟨ax,by rw[fl B _ b1];exact F,G,aa,λeF hD=>?_⟩
   exact (aX eF hD).imp rfl rfl λm _ v L=>shift m v L
end Go.Mini
