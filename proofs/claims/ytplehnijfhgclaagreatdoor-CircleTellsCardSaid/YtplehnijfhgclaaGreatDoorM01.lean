/- A part of the proof. -/
import Derived.Calls
import Derived.Still
import Derived.Below
import Derived.Laws.World
import Derived.Laws.Sem
import Derived.Laws.Entries
import Derived.Laws.Rows
import GoSem.ClaimData
import Derived.Laws.CopyRow
import Derived.Laws.MakeOwn
import Derived.Laws.Append
import Derived.Laws.AppendOwn
import Derived.Laws.Strings
import Derived.Laws.Strings2
import Derived.Laws.StructEq
import Derived.Laws.Slices
import Derived.Laws.Cells
import Derived.MapKept
import Derived.Attr
set_option linter.unusedSimpArgs false
set_option linter.unusedVariables false
set_option linter.defProp false
set_option maxRecDepth 100000
set_option maxHeartbeats 4000000
noncomputable section
open Bool renaming and_eq_true->ff,false_eq_true->cE,or_eq_true->tA
open List renaming all_eq_true->kA,contains_iff_mem->Za,drop_drop->x3,drop_eq_getElem_cons->gx,drop_eq_nil_of_le->lj,drop_set_of_lt->se,drop_take->Yb,eq_nil_of_length_eq_zero->q9,ext_getElem?->qm,flatten_cons->mg,foldl_cons->Yd,getD_eq_getElem?_getD->dH,getElem?_append->Ed,getElem?_append_left->uQ,getElem?_append_right->r4,getElem?_cons_zero->Y4,getElem?_drop->oI,getElem?_eq_getElem->bf,getElem?_eq_none->lk,getElem?_eq_some_iff->dL,getElem?_map->bg,getElem?_range->r3,getElem?_set_ne->Zf,getElem?_set_self->Ze,getElem?_take->xP,getElem?_take_of_lt->x6,getElem?_toArray->Yp,getElem_mem->hb,getElem_of_mem->Yi,length->D,length_append->ks,length_cons->lQ,length_map->aj,length_set->fk,length_take->gk,mapM_cons->nf,map_congr_left->YM,map_map->x7,mem_append->h5,mem_cons->kt,mem_cons_self->lU,mem_flatMap->Bz,mem_of_getElem?->cL,mem_of_mem_take->Ei,mem_zipIdx_iff_getElem?->Eu,range->qj,replicate->ch,replicate_succ->qn,take_append->X9,take_of_length_le->dF
open Nat renaming add_assoc->r0,add_comm->Hj,add_mul->pw,add_zero->lo,eq_or_lt_of_le->My,eq_zero_or_pos->ln,le_mul_of_pos_right->Yk,le_refl->c9,le_trans->iG,lt_asymm->Y9,lt_of_lt_of_le->Bh,lt_or_ge->gY,min_eq_left->n7,mul_le_mul_right->q7,one_mul->Hi,sub_self->hG,succ_mul->Ef,testBit_or->Y2,zero_add->r1,zero_le->dG
open Option renaming bind_eq_bind->gj,bind_eq_some_iff->dI,getD_some->RG,isSome_iff_exists->Yr,map_eq_some_iff->c4,map_none->YN,map_some->kU,pure_def->ga
open Option.some renaming inj->mm,injEq->bO
open Prod.mk renaming injEq->eM
namespace Go.Mini
open Go
def L6:Nat->Option (List (List UInt8)):=λb=>if b=0 then some [[61,61],[59],[44],[61],[60],[43],[45],[42],[47],[40],[41]] else none
def bu {α:Sort _}{a:α}:a=a:=_root_.id rfl
def aL {c:Prop}{h:Decidable c}(Y:c){α:Sort _}{t e:α}:ite c t e=t:=if_pos Y
def aT {c:Prop}{h:Decidable c}(Y:¬c){α:Sort _}{t e:α}:ite c t e=e:=if_neg Y
def mL {p:Prop}[inst:Decidable p](h:p):decide p=true:=decide_eq_true h
def me {p:Prop}[i:Decidable p](h:¬p):decide p=false:=decide_eq_false h
def c7 {p:Prop}[inst:Decidable p](h:p:=by omega):decide p=true:=decide_eq_true h
def df {p:Prop}[i:Decidable p](h:¬p:=by omega):decide p=false:=decide_eq_false h
abbrev Key:=Nat
inductive Data where
 |int (k:IntKind) (n:Int)
 |bool (b:Bool)
 |str (s:List UInt8)
 |ar (es:List (List Data))
 |ptr (cs:List Data)
 |qZ
 |fn (f:FuncId) (dd:List Data)
 |rS
 |agg (cs:List Data)
 |dq (vs:List Data)
 |n2 (t:TypeId) (d:Data)
 |nB
 deriving Inhabited
inductive I where
 |J (d:Data)
 |nil
 |ref (k:Key) (g sz off len:Nat)
 |ptr (k:Key) (g off:Nat)
 |ef (f:FuncId) (dd:List I)
 |agg (cs:List I)
 |dq (vs:List I)
 |hC (k:Key) (g:Nat)
 |no
 |undef
 deriving Inhabited
inductive Den (w:World) (aw:Nat->Prop):Data->Value->Prop
 |int {k:IntKind} {n:Int}:Den w aw (.int k n) (.int k n)
 |bool {b:Bool}:Den w aw (.bool b) (.bool b)
 |str {s:List UInt8}:Den w aw (.str s) (.string ⟨s.toArray⟩)
 |kP {a:Option Addr} {c:Nat}:Den w aw (.ar []) (.slice a 0 c)
 |ar {es:List (List Data)} {b off c sz:Nat} (val:Nat->Value) (ag:(D es)<=c) (hm:(D es)<=maxLen) (U:b<w.heap.size) (e9:¬ aw b) (ec:∀e∈es,D e=sz)
   (Y:∀i,i<D es*sz->w.cell? ⟨b,off+i,none⟩=some (val i)) (af:∀i d,es.flatten[i]?=some d->Den w aw d (val i)) :
   Den w aw (.ar es) (.slice (some ⟨b,off,none⟩) (D es) c)
 |ptr {cs:List Data} {b off:Nat} (val:Nat->Value) (U:b<w.heap.size) (e9:¬ aw b)
   (Y:∀i,i<(D cs)->w.cell? ⟨b,off+i,none⟩=some (val i)) (af:∀i d,cs[i]?=some d->Den w aw d (val i)) :
   Den w aw (.ptr cs) (.pointer (some ⟨b,off,none⟩))
 |qZ:Den w aw .qZ (.pointer none)
 |fn {f:FuncId} {dd:List Data} {vs:List Value} (ag:(D vs)=D dd) (af:∀(i:Nat) (d:Data) (v:Value),dd[i]?=some d->vs[i]?=some v->Den w aw d v) :
   Den w aw (.fn f dd) (.func (.func f) #[] vs.toArray)
 |rS:Den w aw .rS .nilFunc
 |agg {cs:List Data} {vs:List Value} (ag:(D vs)=D cs) (af:∀(i:Nat) (d:Data) (v:Value),cs[i]?=some d->vs[i]?=some v->Den w aw d v) :
   Den w aw (.agg cs) (.agg vs.toArray)
 |dq {cs:List Data} {vs:List Value} (ag:(D vs)=D cs) (af:∀(i:Nat) (d:Data) (v:Value),cs[i]?=some d->vs[i]?=some v->Den w aw d v) :
   Den w aw (.dq cs) (.tuple vs.toArray)
 |n2 {t:TypeId} {d:Data} {v:Value} (h:Den w aw d v):Den w aw (.n2 t d) (.iface t v)
 |nB:Den w aw .nB .nilIface
def L7 {es:List (List Data)}{sz:Nat}(h:∀e∈es,D e=sz):(D es.flatten)=D es*sz:=by
 induction es with
 |nil=>simp
 |cons e r a4 =>
  have F:=h e (by simp);have G:=a4 (λx L=>h x (by simp[L]));rw[mg,ks,F,G,lQ,pw,Hi,Hj]
def Den.j9 {w an:World}{aw hj:Nat->Prop}(Q:w.heap.size<=an.heap.size)(h:∀b,b<w.heap.size->¬ aw b->an.heap[b]?=w.heap[b]?/\¬ hj b){d:Data}{v:Value}(af:Den w aw d v):Den an hj d v:=by
 induction af with
 |int=>exact .int
 |bool=>exact .bool
 |str=>exact .str
 |kP=>exact .kP
 | @ar es b off c sz val ag hm U e9 ec Y af a4 =>
  obtain⟨F,G⟩:=h b U e9;exact .ar val ag hm (by omega) G ec (λi ab=>(World.cell?_of_block (a:=⟨b,off+i,none⟩) F).trans (Y i ab)) a4
 |qZ=>exact .qZ
 |rS=>exact .rS
 | @ptr cs b off val U e9 Y af a4 =>
  obtain⟨F,G⟩:=h b U e9;exact .ptr val (by omega) G (λi ab=>(World.cell?_of_block (a:=⟨b,off+i,none⟩) F).trans (Y i ab)) a4
 |fn ag af a4=>exact .fn ag a4
 |agg ag af a4=>exact .agg ag a4
 |dq ag af a4=>exact .dq ag a4
 |n2 h a4=>exact .n2 a4
 |nB=>exact .nB
structure hv where
 g:Nat
 dk:Option Nat
 size:Nat
 mp:Bool
abbrev cU:=Key->Option hv
def n3 (B:cU)(b:Nat):Prop:=∃k e,B k=some e/\e.dk=some b
def DV (e:hv)(g sz off len:Nat)(v:Value):Prop :=
 ∃a cap,v=.slice a len cap/\len<=cap/\cap<=maxLen/\(cap=0\/∃b,a=some ⟨b,off,none⟩/\(g=e.g->e.dk=some b/\off+cap*sz<=e.size/\e.mp=false))
def L8 (e:hv)(g off:Nat)(v:Value):Prop:=∃b,v=.pointer (some ⟨b,off,none⟩)/\(g=e.g->e.dk=some b/\e.mp=false)
def aiz (e:hv)(g:Nat)(v:Value):Prop:=∃b,v=.map (some b)/\(g=e.g->e.dk=some b/\e.mp=true)
def DV.later {e e':hv}{g sz off len:Nat}{v:Value}(h:DV e g sz off len v)(ag:g<e'.g):DV e' g sz off len v:=by
 obtain⟨a,cap,F,G,ad,aZ⟩:=h;refine⟨a,cap,F,G,ad,aZ.imp id ?_⟩;rintro⟨b,bw,_⟩;exact⟨b,bw,λh=>by omega⟩
def L8.later {e e':hv}{g off:Nat}{v:Value}(h:L8 e g off v)(ag:g<e'.g):L8 e' g off v:=by
 obtain⟨b,F,_⟩:=h;exact⟨b,F,λh=>by omega⟩
inductive a0 (w:World) (aw:Nat->Prop) (B:cU):I->Value->Prop
 |J {d:Data} {v:Value} (h:Den w aw d v):a0 w aw B (.J d) v
 |nil {a:Option Addr}:a0 w aw B .nil (.slice a 0 0)
 |ref {k:Key} {g sz off len:Nat} {e:hv} {v:Value} (he:B k=some e) (aN:g<=e.g) (ao:DV e g sz off len v):a0 w aw B (.ref k g sz off len) v
 |ptr {k:Key} {g off:Nat} {e:hv} {v:Value} (he:B k=some e) (aN:g<=e.g) (ao:L8 e g off v):a0 w aw B (.ptr k g off) v
 |ef {f:FuncId} {dd:List I} {vs:List Value} (ag:(D vs)=D dd) (af:∀(i:Nat) (d:I) (v:Value),dd[i]?=some d->vs[i]?=some v->a0 w aw B d v) :
   a0 w aw B (.ef f dd) (.func (.func f) #[] vs.toArray)
 |agg {cs:List I} {vs:List Value} (ag:(D vs)=D cs) (af:∀(i:Nat) (d:I) (v:Value),cs[i]?=some d->vs[i]?=some v->a0 w aw B d v) :
   a0 w aw B (.agg cs) (.agg vs.toArray)
 |dq {cs:List I} {vs:List Value} (ag:(D vs)=D cs) (af:∀(i:Nat) (d:I) (v:Value),cs[i]?=some d->vs[i]?=some v->a0 w aw B d v) :
   a0 w aw B (.dq cs) (.tuple vs.toArray)
 |hC {k:Key} {g:Nat} {e:hv} {v:Value} (he:B k=some e) (aN:g<=e.g) (ao:aiz e g v):a0 w aw B (.hC k g) v
 |no:a0 w aw B .no undef
 |undef {v:Value}:a0 w aw B .undef v
def bp (A:Nat->Prop)(B:cU)(b:Nat):Prop:=n3 B b\/A b
structure Trans (A:Nat->Prop) (w:World) (B:cU) (an:World) (aA:cU):Prop where
 size:w.heap.size<=an.heap.size
 DW:∀b,b<w.heap.size->¬ bp A B b->an.heap[b]?=w.heap[b]?/\¬ n3 aA b
 key:∀k e,B k=some e->∃e',aA k=some e'/\(e'=e\/e.g<e'.g)
def Trans.refl (A:Nat->Prop)(w:World)(B:cU):Trans A w B w B :=
 ⟨c9 _,λ_ _ h=>⟨rfl,λa6=>h (.inl a6)⟩,λ_ e he=>⟨e,he,.inl rfl⟩⟩
def Trans.trans {A:Nat->Prop}{w w1 gF:World}{B iV Hk:cU}(h:Trans A w B w1 iV)(cI:Trans A w1 iV gF Hk):Trans A w B gF Hk:=by
 refine⟨iG h.size cI.size,λb U a6=>?_,λk e he=>?_⟩
 ·obtain⟨F,G⟩:=h.DW b U a6;obtain⟨ad,aZ⟩:=cI.DW b (Bh U h.size) (λL=>L.elim G λbc=>a6 (.inr bc));exact⟨ad.trans F,aZ⟩
 ·obtain⟨aQ,uF,bm⟩:=h.key k e he;obtain⟨az,eg,n4⟩:=cI.key k aQ uF;refine⟨az,eg,?_⟩;rcases bm with rfl|bm<;>rcases n4 with rfl|n4
  ·exact .inl rfl
  ·exact .inr n4
  ·exact .inr bm
  ·exact .inr (Nat.lt_trans bm n4)
def Den.trans {A:Nat->Prop}{w an:World}{B aA:cU}(t:Trans A w B an aA){d:Data}{v:Value}(h:Den w (bp A B) d v):Den an (bp A aA) d v :=
 h.j9 t.size λb U a6=>⟨(t.DW b U a6).1,λL=>L.elim (t.DW b U a6).2 λbc=>a6 (.inr bc)⟩
def a0.j9 {A:Nat->Prop}{w an:World}{B aA:cU}(t:Trans A w B an aA){m:I}{v:Value}(h:a0 w (bp A B) B m v):a0 an (bp A aA) aA m v:=by
 induction h with
 |J h=>exact .J (h.trans t)
 |nil=>exact .nil
 | @ref k g sz off len e v he aN ao =>
  obtain⟨e',eL,bm⟩:=t.key k e he;rcases bm with rfl|bm
  ·exact .ref eL aN ao
  ·exact .ref eL (by omega) (ao.later (by omega))
 | @ptr k g off e v he aN ao =>
  obtain⟨e',eL,bm⟩:=t.key k e he;rcases bm with rfl|bm
  ·exact .ptr eL aN ao
  ·exact .ptr eL (by omega) (ao.later (by omega))
 |ef ag af a4=>exact .ef ag a4
 |agg ag af a4=>exact .agg ag a4
 |dq ag af a4=>exact .dq ag a4
 | @hC k g e v he aN ao =>
  obtain⟨e',eL,bm⟩:=t.key k e he;rcases bm with rfl|bm
  ·exact .hC eL aN ao
  ·obtain⟨b,U,_⟩:=ao;exact .hC eL (by omega) ⟨b,U,λh=>by omega⟩
 |no=>exact .no
 |undef=>exact .undef
abbrev Mem:=Key->Option (Nat×List I)
def emp:Mem:=λ_=>none
def aV (m:Mem)(k:Key)(g:Nat)(cs:List I):Mem:=λj=>if j=k then some (g,cs) else m j
def bB (m:Mem)(k:Key):Nat:=match m k with
 |none=>0
 |some (g,_)=>g+1
inductive ka (w:World) (aw:Nat->Prop) (B:cU):List MapEntry->List I->Prop
 |nil:ka w aw B [] []
 |cons {e:MapEntry} {es:List MapEntry} {s:List UInt8} {m:I} {ms:List I} (R:e.key=.string ⟨s.toArray⟩) (ao:a0 w aw B m e.val) (h:ka w aw B es ms):ka w aw B (e::es) (.J (.str s)::m::ms)
def ka.j9 {A:Nat->Prop}{w an:World}{B aA:cU}(t:Trans A w B an aA){es:List MapEntry}{ms:List I}(h:ka w (bp A B) B es ms):ka an (bp A aA) aA es ms:=by
 induction h with
 |nil=>exact .nil
 |cons R ao _ a4=>exact .cons R (ao.j9 t) a4
def q0 (w:World)(aw:Nat->Prop)(B:cU)(e:hv)(b:Nat)(cs:List I):Prop :=
 (e.mp=false/\∃vs T,w.heap[b]?=some (.cells vs T (0,0))/\vs.size=e.size/\D cs<=vs.size/\∀(i:Nat) (m:I),cs[i]?=some m->∃v,vs[i]?=some v/\a0 w aw B m v) \/
 (e.mp=true/\∃ir jj,w.heap[b]?=some (.map ir jj)/\ka w aw B ir.toList cs)
def q0.lt {w:World}{aw:Nat->Prop}{B:cU}{e:hv}{b:Nat}{cs:List I}(h:q0 w aw B e b cs):b<w.heap.size:=by
 rcases h with ⟨_,vs,T,h,_⟩|⟨_,ir,jj,h,_⟩<;>exact (Array.getElem?_eq_some_iff.1 h).1
def q0.j9 {A:Nat->Prop}{w an:World}{B aA:cU}(t:Trans A w B an aA){e:hv}{b:Nat}{cs:List I}(h:q0 w (bp A B) B e b cs)(Q:an.heap[b]?=w.heap[b]?):q0 an (bp A aA) aA e b cs:=by
 rcases h with ⟨au,vs,T,F,G,ad,aZ⟩|⟨F,ir,jj,G,ad⟩
 ·exact .inl ⟨au,vs,T,Q.trans F,G,ad,λi m hm=>let ⟨v,ao,M⟩:=aZ i m hm;⟨v,ao,M.j9 t⟩⟩
 ·exact .inr ⟨F,ir,jj,Q.trans G,ad.j9 t⟩
def q0.cells {w:World}{aw:Nat->Prop}{B:cU}{e:hv}{b:Nat}{cs:List I}(h:q0 w aw B e b cs)(au:e.mp=false):∃vs T,w.heap[b]?=some (.cells vs T (0,0))/\vs.size=e.size/\D cs<=vs.size/\∀(i:Nat) (m:I),cs[i]?=some m->∃v,vs[i]?=some v/\a0 w aw B m v:=by
 rcases h with ⟨_,h⟩|⟨h,_⟩
 ·exact h
 ·rw[au] at h;cases h
def ka.imp {w:World}{aw hj:Nat->Prop}{B aA:cU}{es:List MapEntry}{ms:List I}(h:ka w aw B es ms)(ab:∀m∈ms,∀v,a0 w aw B m v->a0 w hj aA m v):ka w hj aA es ms:=by
 induction h with
 |nil=>exact .nil
 |cons R ao _ a4=>exact .cons R (ab _ (by simp) _ ao) (a4 λm hm=>ab m (by simp[hm]))
def q0.imp {w:World}{aw hj:Nat->Prop}{B aA:cU}{e e':hv}{b:Nat}{cs:List I}(h:q0 w aw B e b cs)(Q:e'.size=e.size)(aR:e'.mp=e.mp)(ab:∀m∈cs,∀v,a0 w aw B m v->a0 w hj aA m v):q0 w hj aA e' b cs:=by
 rcases h with ⟨au,vs,T,F,G,ad,aZ⟩|⟨F,ir,jj,G,ad⟩
 ·exact .inl ⟨aR.trans au,vs,T,F,G.trans Q.symm,ad,λi m hm=>let ⟨v,ao,M⟩:=aZ i m hm;⟨v,ao,ab m (cL hm) v M⟩⟩
 ·exact .inr ⟨aR.trans F,ir,jj,G,ad.imp ab⟩
def ka.has {w:World}{aw:Nat->Prop}{B:cU}{es:List MapEntry}{ms:List I}(h:ka w aw B es ms):∀m∈ms,∃v,a0 w aw B m v:=by
 induction h with
 |nil=>intro m hm;cases hm
 |cons R ao _ a4 =>
  intro m hm;simp only[kt] at hm;rcases hm with rfl|rfl|hm
  ·exact⟨_,.J .str⟩
  ·exact⟨_,ao⟩
  ·exact a4 m hm
def q0.has {w:World}{aw:Nat->Prop}{B:cU}{e:hv}{b:Nat}{cs:List I}(h:q0 w aw B e b cs):∀m∈cs,∃v,a0 w aw B m v:=by
 intro m hm;rcases h with ⟨_,vs,T,_,_,_,aZ⟩|⟨_,ir,jj,_,ad⟩
 ·obtain⟨i,ab⟩:=List.mem_iff_getElem?.1 hm;obtain⟨v,_,M⟩:=aZ i m ab;exact⟨v,M⟩
 ·exact ad.has m hm
def zA (l:List (List UInt8)):List Value:=l.map λs => .string ⟨s.toArray⟩
def DX (w:World):Prop:=∀b l,L6 b=some l->∃T,w.heap[b]?=some (.cells (zA l).toArray T (0,0))
structure dQ (A:Nat->Prop) (w:World) (B:cU) (mem:Mem):Prop where
 rT:∀k,mem k=none->B k=none
 inj:∀k k' e e' b,B k=some e->B k'=some e'->e.dk=some b->e'.dk=some b->k=k'
 sep:∀b,A b->¬ n3 B b
 lt:∀b,A b->b<w.heap.size
 gl:DX w
 v8:∀b l,L6 b=some l->¬ n3 B b
 dk:∀k g cs,mem k=some (g,cs)->∃e,B k=some e/\e.g=g/\(e.dk=none->cs=[]) /\
  ∀b,e.dk=some b->q0 w (bp A B) B e b cs
def dQ.rU {A:Nat->Prop}{w:World}{B:cU}{mem:Mem}(h:dQ A w B mem){b:Nat}(U:n3 B b):b<w.heap.size:=by
 obtain⟨k,e,he,U⟩:=U
 cases hm:mem k with
 |none=>rw[h.rT k hm] at he;cases he
 |some x =>
  obtain⟨g,cs⟩:=x;obtain⟨e',eL,_,_,bm⟩:=h.dk k g cs hm;rw[eL] at he
  cases he;exact (bm b U).lt
structure Fr (tj:Nat->Prop) (ct w:World):Prop where
 os:w.os=ct.os
 tape:w.tape=ct.tape
 output:w.output=ct.output
 size:ct.heap.size<=w.heap.size
 block:∀g,g<ct.heap.size->¬ tj g->w.heap[g]?=ct.heap[g]?
def Fr.refl (tj:Nat->Prop)(w:World):Fr tj w w:=⟨rfl,rfl,rfl,c9 _,λ_ _ _=>rfl⟩
def Fr.drew {tj:Nat->Prop}{ct w:World}(h:Fr tj ct w)(n:Nat):Fr tj ct { w with drawn:=n }:=⟨h.os,h.tape,h.output,h.size,h.block⟩
def Fr.alloc {tj:Nat->Prop}{ct w:World}(h:Fr tj ct w)(o:Obj):Fr tj ct (w.alloc o) :=
 ⟨h.os,h.tape,h.output,by simp;have:=h.size;omega,λg aN e9=>(RowKit.Below.heap_alloc w o g (by have:=h.size;omega)).trans (h.block g aN e9)⟩
def Fr.aiA {ct w:World}(h:Fr (λ_=>False) ct w)(aN:DX ct):DX w:=λb o U=>let ⟨T,cw⟩:=aN b o U;⟨T,(h.block b (Array.getElem?_eq_some_iff.1 cw).1 id).trans cw⟩
inductive bx where
 |t (s:Nat)
 |c (m:I)
 deriving Inhabited
inductive fN where
 |iu (x:bx)
 |pick (c a b:bx)
 |alloc (k:Key) (z:List I)
 |box (k:Key) (x:bx)
 |build (z:List I) (parts:List (Nat×Nat×bx))
 |dN (k:Key) (own:Bool) (z:List I) (sz len:Nat) (parts:List (Nat×Nat×bx))
 |load (n:Nat) (bJ:Bool) (x:bx)
 |store (n:Nat) (x v:bx)
 |bin (op:BinOp) (x y:bx)
 |beq (neg:Bool) (x y:bx)
 |eqs (neg:Bool) (gG:List Nat) (x y:bx)
 |lR (neg:Bool) (x:bx)
 |un (op:UnOp) (x:bx)
 |conv (k:IntKind) (x:bx)
 |uG (x:bx)
 |la (k:Key) (z:List I) (bytes:Nat) (len cap:bx)
 |tk (off:Nat) (x:bx)
 |xD (off n:Nat) (bJ:Bool) (x:bx)
 |uH (sz:Nat) (x i:bx)
 |Bi (len sz:Nat) (x i:bx)
 |idxs (x i:bx)
 |q1 (sz:Nat) (x:bx) (b8 ab jM:Option bx)
 |tl (len sz:Nat) (x:bx) (b8 ab jM:Option bx)
 |Bj (x:bx) (b8 ab:Option bx)
 |ext (i:Nat) (x:bx)
 |len (x:bx)
 |lens (x:bx)
 |app (k:Key) (z:List I) (bytes:Nat) (s x:bx)
 |q2 (sz:Nat) (d x:bx)
 |lS (jM:Bool) (x y:bx)
 |call (f:FuncId) (args:List bx)
 |lb (k:Key) (sz:Nat) (f:FuncId) (args:List bx)
 |jN (f:bx) (args:List bx)
 |kQ (b8:Nat) (f:FuncId) (args:List bx)
 |qb (j:Nat) (f:FuncId) (args:List bx)
 |qc (j:Nat) (f:FuncId) (args:List bx)
 |tn (z:List I) (x:bx)
 |uI (f:FuncId) (dd:List bx)
 |DY (t:TypeId) (x:bx)
 |L9 (t:TypeId) (ok:Bool) (z:I) (x:bx)
 |Bk (neg Ma:Bool) (x:bx)
 |Mb (len sz:Nat) (bJ:Bool) (x i:bx)
 |v9 (k:Key)
 |zB (ok:Bool) (z:I) (x i:bx)
 |xE (x i v:bx)
 |bad
 deriving Inhabited
structure bz where
 dst:Option Nat
 g:Option (Nat×Bool)
 op:fN
 deriving Inhabited
inductive Mc where
 |mM (s:Nat) (k:Key) (sz:Nat)
 |DZ (x:bx) (i:Nat) (k:Key) (sz:Nat)
 |freeze (s:Nat)
 |Md (x:bx) (i:Nat)
 |move
 |many
 deriving Inhabited
inductive e1 where
 |skip
 |ops (l:List bz)
 |mN (l:List bz) (c:List (List Nat))
 |seq (a b:e1)
 |cond (c:bx) (a b:e1)
 |block (id:Nat) (c:e1)
 |loop (c:e1)
 |exit (id:Nat)
 |ret
 |ghost (g:Mc) (c:e1)
 deriving Inhabited
inductive ku where
 |t (s:Nat)
 |cell (s n:Nat) (bJ:Bool)
 deriving Inhabited
structure bG where
 n:Nat
 aiB:Nat
 res:List ku
 body:e1
 deriving Inhabited
structure a8 where
 tm:Nat->I
 mem:Mem
def ea (tm:Nat->I)(s:Nat)(m:I):Nat->I:=λt=>if t=s then m else tm t
def put (tm:Nat->I):Option Nat->I->Nat->I
 |some s,m=>ea tm s m
 |none,_=>tm
@[simp] def q3 (tm:Nat->I)(s:Nat)(m:I)(t:Nat):ea tm s m t=if t=s then m else tm t:=rfl
def aM (tm:Nat->I):bx->I
 |.t s=>tm s
 |.c m=>m
def I.cells:I->List I
 |.agg cs=>cs
 |.J (.agg ds)=>ds.map .J
 |m=>[m]
def I.known:I->Bool
 |.undef=>false
 |_=>true
def I.one:I->Bool
 |.J (.agg _)=>false
 |.J (.dq _)=>false
 |.J _=>true
 |.nil=>true
 |.ref ..=>true
 |.ptr ..=>true
 |.ef ..=>true
 |.hC ..=>true
 |_=>false
def oF (bJ:Bool)(cs:List I):Option I :=
 if bJ=true then some (.agg cs) else match cs with
  | [m]=>some m
  |_=>none
def cut (cs:List I)(off n:Nat):Option (List I) :=
 if off+n<=(D cs) then some ((cs.drop off).take n) else none
def kv (cs:List I)(off:Nat)(new:List I):List I:=cs.take off++new++cs.drop (off+D new)
def kd (aM:bx->I)(cells:List I):List (Nat×Nat×bx)->Option (List I)
 | []=>some cells
 |(off,size,x)::rest =>
  if (aM x).known=true/\(aM x).cells.length=size/\off+size<=(D cells) then kd aM (kv cells off (aM x).cells) rest else none
def rV:I->Option Data
 |.J d=>some d
 |.nil=>some (.ar [])
 |_=>none
def chunk (sz:Nat):Nat->List Data->List (List Data)
 |0,_=>[]
 |n+1,l=>l.take sz::chunk sz n (l.drop sz)
def Me (op:BinOp)(k:IntKind)(a b:Int):Option Data :=
 match op with
 |.add=>some (.int k (k.wrap (a+b)))
 |.sub=>some (.int k (k.wrap (a-b)))
 |.mul=>some (.int k (k.wrap (a*b)))
 |.quo=>if b=0 then none else some (.int k (k.wrap (a.tdiv b)))
 |.rem=>if b=0 then none else some (.int k (a.tmod b))
 |.and=>some (.int k (bits .and k a b))
 |.or=>some (.int k (bits .or k a b))
 |.xor=>some (.int k (bits .xor k a b))
 |.andNot=>some (.int k (bits .andNot k a b))
 |.eql=>some (.bool (a==b))
 |.neq=>some (.bool (a != b))
 |.lss=>some (.bool (a<b))
 |.leq=>some (.bool (a<=b))
 |.gtr=>some (.bool (a>b))
 |.geq=>some (.bool (a>=b))
 |_=>none
def Mf (op:BinOp)(k:IntKind)(a b:Int):Option Data :=
 if b<0 then none else match op with
 |.shl=>some (.int k (k.wrap (a*2^(min b.toNat k.bits))))
 |.shr=>some (.int k (a.fdiv (2^(min b.toNat k.bits))))
 |_=>none
def Mg (op:BinOp)(a b:List UInt8):Option Data :=
 match op with
 |.add=>if (D a)+D b<=maxLen then some (.str (a++b)) else none
 |.eql=>some (.bool (a==b))
 |.neq=>some (.bool (!(a==b)))
 |.lss=>some (.bool (Op.bytesLess a b))
 |.leq=>some (.bool (Op.bytesLess a b||a==b))
 |.gtr=>some (.bool (!(Op.bytesLess a b||a==b)))
 |.geq=>some (.bool (!Op.bytesLess a b))
 |_=>none
def D0:BinOp->Bool
 |.shl=>true
 |.shr=>true
 |_=>false
def D1 (op:BinOp)(x y:I):Option I :=
 match x,y with
 |.J (.int k a),.J (.int k' b)=>if D0 op=true then (Mf op k a b).map .J else if k=k' then (Me op k a b).map .J else none
 |.J (.str a),.J (.str b)=>(Mg op a b).map .J
 |_,_=>none
def D2 (neg:Bool):I->I->Option I
 |.J (.bool a),.J (.bool b)=>some (.J (.bool (neg != (a==b))))
 |_,_=>none
def Mh:Nat->I->I->Option Bool
 |0,.J (.bool a),.J (.bool b)=>some (a==b)
 |1,.J (.int k a),.J (.int k' b)=>if k=k' then some (a==b) else none
 |2,.J (.str a),.J (.str b)=>some (a==b)
 |_,_,_=>none
def zC:List Nat->List I->List I->Option Bool
 | [],[],[]=>some true
 |k::gG,a::x,b::y=>match Mh k a b,zC gG x y with
  |some c,some d=>some (c&&d)
  |_,_=>none
 |_,_,_=>none
def Hl (op:UnOp)(x:I):Option I :=
 match op,x with
 |.neg,.J (.int k n)=>some (.J (.int k (k.wrap (0-n))))
 |.xor,.J (.int k n)=>some (.J (.int k (bits .xor k (if k.signed then -1 else k.max) n)))
 |.not,.J (.bool b)=>some (.J (.bool !b))
 |_,_=>none
def idx:I->Option Nat
 |.J (.int _ n)=>if 0<=n then some n.toNat else none
 |_=>none
def jx (d:Nat):Option I->Option Nat
 |none=>some d
 |some x=>idx x
def tp:I->Option Nat
 |.J (.ar es)=>some (D es)
 |.nil=>some 0
 |.ref _ _ _ _ n=>some n
 |_=>none
def iW (mem:Mem)(n:Nat)(bJ:Bool):I->Option I
 |.ptr k g off=>match mem k with
  |some (cx,cs)=>if cx=g then (cut cs off n).bind (oF bJ) else none
  |none=>none
 |.J (.ptr ds)=>(cut (ds.map .J) 0 n).bind (oF bJ)
 |_=>none
def xF:I->Option Nat
 |.J (.str s)=>some (D s)
 |_=>none
def D3:I->I->I->Option I
 |.J (.bool t),a,b=>some (if t=true then a else b)
 |_,_,_=>none
def Hm (z:List I)(sz len:Nat)(x:Option (List I)):Option I :=
 if (D z)=len*sz then (match x with
  |some cs=>(cs.mapM rV).map λds => .J (.ar (chunk sz len ds))
  |none=>none) else none
def Bl:I->Option (List I)
 |.agg cs=>some cs
 |.J (.agg ds)=>some (ds.map .J)
 |_=>none
def Hn (neg:Bool)(gG:List Nat)(a b:I):Option I:=match Bl a,Bl b with
 |some x,some y=>(match zC gG x y with
  |some c=>some (.J (.bool (neg != c)))
  |none=>none)
 |_,_=>none
def Ho (k:IntKind):I->Option I
 |.J (.int _ n)=>some (.J (.int k (k.wrap n)))
 |_=>none
def Hp:I->Option I
 |.ptr k g off=>some (.ptr k g off)
 |.J (.ptr ds)=>some (.J (.ptr ds))
 |_=>none
def D4 (off:Nat):I->Option I
 |.ptr k g o=>some (.ptr k g (o+off))
 |.J (.ptr ds)=>if off<=(D ds) then some (.J (.ptr (ds.drop off))) else none
 |_=>none
def D5 (off n:Nat)(bJ:Bool):I->Option I
 |.agg cs=>(cut cs off n).bind (oF bJ)
 |.J (.agg ds)=>(cut (ds.map .J) off n).bind (oF bJ)
 |_=>none
def Hq (sz n:Nat):I->Option I
 |.ref k g eh off len=>if n<len/\eh=sz then some (.ptr k g (off+n*sz)) else none
 |.J (.ar es)=>match es[n]? with
  |some e=>if (D e)=sz then some (.J (.ptr e)) else none
  |none=>none
 |_=>none
def Hr (len sz n:Nat):I->Option I
 |.ptr k g off=>if n<len then some (.ptr k g (off+n*sz)) else none
 |.J (.ptr ds)=>if n<len/\n*sz<=(D ds) then some (.J (.ptr (ds.drop (n*sz)))) else none
 |_=>none
def Hs (n:Nat):I->Option I
 |.J (.str s)=>(s[n]?).map λb => .J (.int .u8 b.toNat)
 |_=>none
def rW (sz:Nat)(es:List (List Data)):Bool:=es.all λe=>D e==sz
def Ht (sz l h:Nat):I->Option I
 |.J (.ar es)=>if l<=h/\h<=D es/\rW sz es=true then some (.J (.ar ((es.take h).drop l))) else none
 |.nil=>if l=0/\h=0 then some .nil else none
 |.ref k g eh off len=>if eh=sz/\l<=h/\h<=len then some (.ref k g sz (off+l*sz) (h-l)) else none
 |_=>none
def Hu (sz l h m:Nat):I->Option I
 |.J (.ar es)=>if l<=h/\h<=m/\m<=D es/\rW sz es=true then (if m=l then some .nil else some (.J (.ar ((es.take h).drop l)))) else none
 |.nil=>if l=0/\h=0/\m=0 then some .nil else none
 |.ref _ _ _ _ len=>if l<=h/\h<=m/\m<=len/\m=l then some .nil else none
 |_=>none
def Hv (l h:Nat):I->Option I
 |.J (.str s)=>if l<=h/\h<=(D s) then some (.J (.str ((s.take h).drop l))) else none
 |_=>none
def Hw (i:Nat):I->Option I
 |.dq vs=>vs[i]?
 |.J (.dq ds)=>(ds[i]?).map .J
 |_=>none
def Hx (jM:Bool):I->I->Option I
 |.J (.int k a),.J (.int k' b)=>if k=k' then some (.J (.int k (if jM=true then (if b>a then b else a) else (if b<a then b else a)))) else none
 |_,_=>none
def Q9:I->Option Data
 |.J d=>some d
 |.nil=>some (.ar [])
 |.agg cs=>(cs.mapM rV).map .agg
 |_=>none
def Bm (ok b:Bool)(m:I):I:=if ok=true then .dq [m,.J (.bool b)] else m
def Ra (t:TypeId)(m:I):Option I:=(Q9 m).map λd => .J (.n2 t d)
def Rb (t:TypeId)(ok:Bool)(z:I):I->Option I
 |.J (.n2 ld d)=>if ld=t then some (Bm ok true (.J d)) else if ok=true then some (Bm true false z) else none
 |.J .nB=>if ok=true then some (Bm true false z) else none
 |_=>none
def isNil:Bool->I->Option Bool
 |false,.J .qZ=>some true
 |false,.J (.ptr _)=>some false
 |false,.ptr ..=>some false
 |true,.J .nB=>some true
 |true,.J (.n2 ..)=>some false
 |_,_=>none
def Hy (neg Ma:Bool)(m:I):Option I:=(isNil Ma m).map λb => .J (.bool (neg != b))
def Rc (len sz:Nat)(bJ:Bool)(n:Nat)(m:I):Option I:=if n<len then (Bl m).bind λcs=>if len*sz<=(D cs) then (cut cs (n*sz) sz).bind (oF bJ) else none else none
def Mi (s:List UInt8):List I->Option (Option I)
 | []=>some none
 |.J (.str k)::v::r=>if s=k then some (some v) else Mi s r
 |_=>none
def Mj (s:List UInt8)(x:I):List I->Option (List I)
 | []=>some [.J (.str s),x]
 |.J (.str k)::v::r=>if s=k then some (.J (.str k)::x::r) else (Mj s x r).map λr => .J (.str k)::v::r
 |_=>none
def hD (x:Option Nat)(f:Nat->Option I):Option I:=match x with
 |some n=>f n
 |none=>none
def jk (tm:Nat->I):fN->Option I
 |.iu x=>some (aM tm x)
 |.pick c a b=>D3 (aM tm c) (aM tm a) (aM tm b)
 |.build z parts=>(kd (aM tm) z parts).map .agg
 |.dN _ false z sz len parts=>Hm z sz len (kd (aM tm) z parts)
 |.bin op x y=>D1 op (aM tm x) (aM tm y)
 |.beq neg x y=>D2 neg (aM tm x) (aM tm y)
 |.eqs neg gG x y=>Hn neg gG (aM tm x) (aM tm y)
 |.un op x=>Hl op (aM tm x)
 |.conv k x=>Ho k (aM tm x)
 |.uG x=>Hp (aM tm x)
 |.tk off x=>D4 off (aM tm x)
 |.xD off n bJ x=>D5 off n bJ (aM tm x)
 |.uH sz x i=>hD (idx (aM tm i)) λn=>Hq sz n (aM tm x)
 |.Bi len sz x i=>hD (idx (aM tm i)) λn=>Hr len sz n (aM tm x)
 |.idxs x i=>hD (idx (aM tm i)) λn=>Hs n (aM tm x)
 |.q1 sz x b8 ab none=>hD (jx 0 (b8.map (aM tm))) λl=>hD (tp (aM tm x)) λlen=>hD (jx len (ab.map (aM tm))) λh=>Ht sz l h (aM tm x)
 |.q1 sz x b8 (some ab) (some jM)=>hD (jx 0 (b8.map (aM tm))) λl=>hD (idx (aM tm ab)) λh=>hD (idx (aM tm jM)) λm=>Hu sz l h m (aM tm x)
 |.Bj x b8 ab=>hD (jx 0 (b8.map (aM tm))) λl=>hD (xF (aM tm x)) λlen=>hD (jx len (ab.map (aM tm))) λh=>Hv l h (aM tm x)
 |.ext i x=>Hw i (aM tm x)
 |.len x=>hD (tp (aM tm x)) λn=>some (.J (.int .i64 n))
 |.lens x=>hD (xF (aM tm x)) λn=>some (.J (.int .i64 n))
 |.lS jM x y=>Hx jM (aM tm x) (aM tm y)
 |.uI f dd=>some (.ef f (dd.map (aM tm)))
 |.DY t x=>Ra t (aM tm x)
 |.L9 t ok z x=>Rb t ok z (aM tm x)
 |.Bk neg Ma x=>Hy neg Ma (aM tm x)
 |.Mb len sz bJ x i=>hD (idx (aM tm i)) λn=>Rc len sz bJ n (aM tm x)
 |_=>none
def Rd (k:Key)(g off len sz l h:Nat):Option (Nat×List I)->Option I
 |some (cx,cs)=>if cx=g/\l<=h/\h<=len/\off+len*sz<=(D cs) then some (.ref k g sz (off+l*sz) (h-l)) else none
 |none=>none
def zD (mem:Mem)(len sz l h:Nat):I->Option I
 |.ptr k g off=>Rd k g off len sz l h (mem k)
 |_=>none
def px (mem:Mem)(sz:Nat):I->Option (Nat×List I)
 |.J (.ar es)=>if rW sz es=true then some (D es,es.flatten.map I.J) else none
 |.nil=>some (0,[])
 |.ref k g eh off len=>if eh=sz then (match mem k with
  |some (cx,cs)=>if cx=g then (cut cs off (len*sz)).map λcs=>(len,cs) else none
  |none=>none) else none
 |_=>none
abbrev Out:=Option (I×Option (Key×Nat×List I))
def iv (x:Option I):Out:=match x with
 |some m=>some (m,none)
 |none=>none
def D6 (k:Key)(g:Nat)(z:List I)(sz len:Nat)(x:Option (List I)):Out :=
 if (D z)=len*sz then (match x with
  |some cs=>some (.ref k g sz 0 len,some (k,g,cs))
  |none=>none) else none
def D7 (k:Key)(g:Nat)(z:List I)(bytes:Nat)(n c:Nat):Out :=
 if n=c/\bytes*n<=140737488355328/\n<=maxLen then some (.ref k g (D z) 0 n,some (k,g,(ch n z).flatten)) else none
def Hz (x y:Option Nat)(f:Nat->Nat->Out):Out:=match x,y with
 |some n,some m=>f n m
 |_,_=>none
def HA (n:Nat)(k:Key)(g off:Nat)(v:List I)(x:Option (Nat×List I)):Out:=match x with
 |some (cx,cs)=>if cx=g/\D v=n/\off+n<=D cs/\v.all I.one=true then some (.no,some (k,g,kv cs off v)) else none
 |none=>none
def wa (mem:Mem)(n:Nat):I->List I->Out
 |.ptr k g off,v=>HA n k g off v (mem k)
 |_,_=>none
def lf (k:Key)(g:Nat)(sz len bytes:Nat)(m:Nat)(new:List I)(x:Option (Nat×List I)):Out:=match x with
 |some (cx,cs)=>if cx=g/\len*sz<=D cs/\(len+m)*bytes<=140737488355328/\len+m<=maxLen/\new.all I.one=true
   then some (.ref k (g+1) sz 0 (len+m),some (k,g+1,cs.take (len*sz)++new)) else none
 |none=>none
def qd (mem:Mem)(k:Key)(z:List I)(bytes:Nat):I->Option (Nat×List I)->Out
 |.nil,some (m,new)=>if m*bytes<=140737488355328/\m<=maxLen/\new.all I.one=true then some (.ref k (bB mem k) (D z) 0 m,some (k,bB mem k,new)) else none
 |.ref k' g eh off len,some (m,new)=>if eh=D z/\off=0 then lf k' g eh len bytes m new (mem k') else none
 |_,_=>none
def zE (k:Key)(g sz off len:Nat)(m:Nat)(new:List I)(x:Option (Nat×List I)):Out:=match x with
 |some (cx,cs)=>if cx=g/\off+len*sz<=D cs/\new.all I.one=true then some (.J (.int .i64 ((min m len:Nat):Int)),some (k,g,kv cs off (new.take (min m len*sz)))) else none
 |none=>none
def uJ (mem:Mem)(sz:Nat):I->Option (Nat×List I)->Out
 |.ref k g eh off len,some (m,new)=>if eh=sz then zE k g sz off len m new (mem k) else none
 |_,_=>none
def Mk (z:List I)(k:Key)(g off len:Nat)(x:Option (Nat×List I)):Out:=match x with
 |some (cx,cs)=>if cx=g/\off+len*D z<=D cs/\z.all I.one=true then some (.dq [],some (k,g,kv cs off (ch len z).flatten)) else none
 |none=>none
def wb (mem:Mem)(z:List I):I->Out
 |.ref k g sz off len=>if sz=(D z) then Mk z k g off len (mem k) else none
 |_=>none
def zF (mem:Mem):I->Option (Key×Nat×List I)
 |.hC k g=>match mem k with
  |some (cx,cs)=>if cx=g then some (k,g,cs) else none
  |none=>none
 |_=>none
def Ml:I->Option (List UInt8)
 |.J (.str s)=>some s
 |_=>none
def Mm (mem:Mem)(ok:Bool)(z:I)(x i:I):Option I:=match zF mem x,Ml i with
 |some (_,_,cs),some s=>match Mi s cs with
  |some (some v)=>some (Bm ok true v)
  |some none=>some (Bm ok false z)
  |none=>none
 |_,_=>none
def I.whole:I->Bool
 |.undef=>false
 |.no=>false
 |.dq _=>false
 |_=>true
def HB (mem:Mem)(x i v:I):Out:=match zF mem x,Ml i with
 |some (k,g,cs),some s=>if v.whole=true then (match Mj s v cs with
  |some g8=>some (.no,some (k,g,g8))
  |none=>none) else none
 |_,_=>none
def bF (mem:Mem)(tm:Nat->I):fN->Out
 |.alloc k z=>some (.ptr k (bB mem k) 0,some (k,bB mem k,z))
 |.box k x=>if (aM tm x).known=true then some (.ptr k (bB mem k) 0,some (k,bB mem k,(aM tm x).cells)) else none
 |.dN k true z sz len parts=>D6 k (bB mem k) z sz len (kd (aM tm) z parts)
 |.la k z bytes len cap=>Hz (idx (aM tm len)) (idx (aM tm cap)) (D7 k (bB mem k) z bytes)
 |.load n bJ x=>iv (iW mem n bJ (aM tm x))
 |.tl len sz x b8 ab none=>iv (hD (jx 0 (b8.map (aM tm))) λl=>hD (jx len (ab.map (aM tm))) λh=>zD mem len sz l h (aM tm x))
 |.store n x v=>wa mem n (aM tm x) (aM tm v).cells
 |.app k z bytes s x=>qd mem k z bytes (aM tm s) (px mem (D z) (aM tm x))
 |.q2 sz d x=>uJ mem sz (aM tm d) (px mem sz (aM tm x))
 |.tn z x=>wb mem z (aM tm x)
 |.v9 k=>some (.hC k (bB mem k),some (k,bB mem k,[]))
 |.zB ok z x i=>iv (Mm mem ok z (aM tm x) (aM tm i))
 |.xE x i v=>HB mem (aM tm x) (aM tm i) (aM tm v)
 |op=>iv (jk tm op)
inductive gH where
 |same (r:Data)
 |own (sz:Nat) (es:List (List Data))
 |rel (bH:I->Mem->Prop)
 |ea (r:Data) (k:Key) (g i:Nat) (c:I)
 |xG (r:Data) (k:Key)
abbrev bj:=FuncId->List I->Mem->Option gH
def gg (mem:Mem):Option (Key×Nat×List I)->Mem
 |none=>mem
 |some (k,g,cs)=>aV mem k g cs
def qe (mem:Mem)(k:Key):List I:=match mem k with
 |some (_,cs)=>cs
 |none=>[]
def tq (T:bj)(K:a8->Prop)(st:a8)(dst:Option Nat)(f:FuncId)(args:List I):Prop :=
 match T f args st.mem with
 |some (.same r)=>K ⟨put st.tm dst (.J r),st.mem⟩
 |some (.own _ es)=>K ⟨put st.tm dst (.J (.ar es)),st.mem⟩
 |some (.rel bH)=>∀r mem',bH r mem'->K ⟨put st.tm dst r,mem'⟩
 |some (.ea r k g i c)=>K ⟨put st.tm dst (.J r),aV st.mem k g ((qe st.mem k).set i c)⟩
 |some (.xG r k)=>K ⟨put st.tm dst (.J r),aV st.mem k (bB st.mem k) []⟩
 |none=>False
def xH:I->Option Bool
 |.J (.ar es)=>some (!es.isEmpty)
 |.nil=>some false
 |.ref _ _ _ _ len=>some (decide (0<len))
 |_=>none
def gh (T:bj)(K:a8->Prop)(i:bz)(st:a8):Prop :=
 match i.op with
 |.call f args=>tq T K st i.dst f (args.map (aM st.tm))
 |.lb k sz f args=>match T f (args.map (aM st.tm)) st.mem with
  |some (.own eh es)=>if eh=sz then K ⟨put st.tm i.dst (.ref k (bB st.mem k) sz 0 (D es)),aV st.mem k (bB st.mem k) (es.flatten.map .J)⟩ else False
  |_=>False
 |.jN f args=>match aM st.tm f with
  |.ef g dd=>tq T K st i.dst g (args.map (aM st.tm)++dd)
  |.J (.fn g ds)=>tq T K st i.dst g (args.map (aM st.tm)++ds.map .J)
  |_=>False
 |.lR neg x=>match xH (aM st.tm x) with
  |some full=>∀b:Bool,(full=true->b=false)->K ⟨put st.tm i.dst (.J (.bool (neg != b))),st.mem⟩
  |none=>False
 |op=>match bF st.mem st.tm op with
  |some (m,e)=>K ⟨put st.tm i.dst m,gg st.mem e⟩
  |none=>False
def g9 (tm:Nat->I):Option (Nat×Bool)->Option Bool
 |none=>some true
 |some (s,b)=>match tm s with
  |.J (.bool t)=>some (t==b)
  |.no=>some false
  |_=>none
def wc (T:bj)(K:a8->Prop):List bz->a8->Prop
 | [],st=>K st
 |i::r,st=>match g9 st.tm i.g with
  |none=>False
  |some g=>if g=true then gh T (wc T K r) i st else wc T K r ⟨put st.tm i.dst .no,st.mem⟩
def keyOf:I->List Key
 |.ref k ..=>[k]
 |.ptr k ..=>[k]
 |_=>[]
def HC:I->List Key
 |.hC k _=>[k]
 |_=>[]
inductive lg where
 |fU (k:Key)
 |rd (k:Key) (a b:Nat)
 |wr (k:Key) (i:Nat)
def lg.key:lg->Key
 |.fU k=>k
 |.rd k _ _=>k
 |.wr k _=>k
def qf:lg->lg->Bool
 |.fU k,.fU k' => !(k==k')
 |.fU k,.rd k' _ _ => !(k==k')
 |.rd k _ _,.fU k' => !(k==k')
 |.rd _ _ _,.rd _ _ _=>true
 |.rd k a b,.wr k' i => !(k==k')||(decide (i<a)||decide (b<=i))
 |.wr k' i,.rd k a b => !(k==k')||(decide (i<a)||decide (b<=i))
 |.wr _ _,.wr _ _=>false
 |.fU _,.wr _ _=>false
 |.wr _ _,.fU _=>false
def zG (n:Nat):I->List lg
 |.ref k ..=>[.fU k]
 |.ptr k _ off=>[.rd k off (off+n)]
 |_=>[]
def HD (b8:Nat):List I->List lg
 |.ptr k _ off::_=>[.wr k (off+b8)]
 |_=>[]
def uK:Option I->List lg
 |some (.ref k ..)=>[.fU k]
 |_=>[]
def cy (tm:Nat->I):fN->List lg
 |.load n _ x=>zG n (aM tm x)
 |.tl _ _ x _ _ _=>(keyOf (aM tm x)).map .fU
 |.store _ x _=>(keyOf (aM tm x)).map .fU
 |.alloc k _=>[.fU k]
 |.box k _=>[.fU k]
 |.dN k true _ _ _ _=>[.fU k]
 |.la k _ _ _ _=>[.fU k]
 |.lb k _ _ _=>[.fU k]
 |.app k _ _ s x => .fU k::((keyOf (aM tm s)).map .fU++(keyOf (aM tm x)).map .fU)
 |.q2 _ d x=>(keyOf (aM tm d)).map .fU++(keyOf (aM tm x)).map .fU
 |.kQ b8 _ args=>HD b8 (args.map (aM tm))
 |.qb j _ args=>uK (args.map (aM tm))[j]?
 |.qc j _ args=>uK (args.map (aM tm))[j]?
 |.tn _ x=>(keyOf (aM tm x)).map .fU
 |.v9 k=>[.fU k]
 |.zB _ _ x _=>(HC (aM tm x)).map .fU
 |.xE x _ _=>(HC (aM tm x)).map .fU
 |_=>[]
def gi:fN->Bool
 |.store ..=>true
 |.alloc ..=>true
 |.box ..=>true
 |.dN _ true _ _ _ _=>true
 |.la ..=>true
 |.lb ..=>true
 |.app ..=>true
 |.q2 ..=>true
 |.kQ ..=>true
 |.qb ..=>true
 |.qc ..=>true
 |.tn ..=>true
 |.v9 ..=>true
 |.xE ..=>true
 |_=>false
def shut:I->I
 |.J d => .J d
 |.nil => .nil
 |.ef f [] => .ef f []
 |.agg cs=>match cs.mapM rV with
  |some ds => .J (.agg ds)
  |none => .undef
 |_ => .undef
def D8 (b8:Nat)(mem:Mem):List I->Option gH->Option (I×Option (Key×Nat×List I))
 |.ptr k _ off::_,some (.ea r k' cx i c)=>match mem k with
  |some (g,cs)=>if k'=k/\cx=g/\i=off+b8 then some (.J r,some (k,g,cs.set i c)) else none
  |none=>none
 |_,_=>none
def Re (cs:List I):Option (List Data):=cs.mapM rV
def HE (sz off len:Nat)(cs:List I):Option Data:=match cut cs off (len*sz) with
 |some part=>(Re part).map λds => .ar (chunk sz len ds)
 |none=>none
def Mn:Option gH->Option Data
 |some (.same r)=>some r
 |some (.own _ es)=>some (.ar es)
 |_=>none
def Rf (T:bj)(j:Nat)(f:FuncId)(ms:List I)(k:Key)(g sz off len:Nat):Option (Nat×List I)->Option (I×Option (Key×Nat×List I))
 |some (cx,cs)=>if cx=g then (match HE sz off len cs with
  |some d=>(match Mn (T f (ms.set j (.J d)) emp) with
   |some r=>some (.J r,some (k,cx+1,[]))
   |none=>none)
  |none=>none) else none
 |none=>none
def HF (T:bj)(mem:Mem)(j:Nat)(f:FuncId)(ms:List I):Option I->Option (I×Option (Key×Nat×List I))
 |some (.ref k g sz off len)=>Rf T j f ms k g sz off len (mem k)
 |_=>none
def q4 (cs:List I):Bool:=cs.all λm=>(rV m).isSome
def Rg (T:bj)(j:Nat)(f:FuncId)(ms:List I)(k:Key)(g sz off len:Nat):Option (Nat×List I)->Option (I×Option (Key×Nat×List I))
 |some (cx,cs)=>if q4 cs=true then (match T f (ms.set j (.ref k g sz off len)) (aV emp k cx cs) with
  |some (.xG r k')=>if k'=k then some (.J r,some (k,cx+1,[])) else none
  |_=>none) else none
 |none=>none
def HG (T:bj)(mem:Mem)(j:Nat)(f:FuncId)(ms:List I):Option I->Option (I×Option (Key×Nat×List I))
 |some (.ref k g sz off len)=>Rg T j f ms k g sz off len (mem k)
 |_=>none
def eX (T:bj)(mem:Mem)(tm:Nat->I):fN->Option (I×Option (Key×Nat×List I))
 |.call f args=>match T f (args.map λx=>shut (aM tm x)) emp with
  |some (.same r)=>some (.J r,none)
  |some (.own _ es)=>some (.J (.ar es),none)
  |_=>none
 |.lb k sz f args=>match T f (args.map λx=>shut (aM tm x)) emp with
  |some (.own eh es)=>if eh=sz then some (.ref k (bB mem k) sz 0 (D es),some (k,bB mem k,es.flatten.map .J)) else none
  |_=>none
 |.jN f args=>match shut (aM tm f) with
  |.ef g []=>(match T g (args.map λx=>shut (aM tm x)) emp with
   |some (.same r)=>some (.J r,none)
   |_=>none)
  |_=>none
 |.lR ..=>none
 |.kQ b8 f args=>D8 b8 mem (args.map (aM tm)) (T f (args.map (aM tm)) mem)
 |.qb j f args=>HF T mem j f (args.map λx=>shut (aM tm x)) (args.map (aM tm))[j]?
 |.qc j f args=>HG T mem j f (args.map λx=>shut (aM tm x)) (args.map (aM tm))[j]?
 |op=>bF mem tm op
abbrev Rec:=Nat->Option (Bool×List lg)
def qg (a b:Bool×List lg):Bool:=!(a.1||b.1)||a.2.all λx=>b.2.all λy=>qf x y
def rX (rec:Rec)(p:Bool×List lg)(c:List Nat):Bool:=c.all λi=>match rec i with
 |none=>true
 |some q=>qg q p
def jl (rec:Rec)(n:Nat)(p:Bool×List lg):Rec:=λi=>if i=n then some p else rec i
def tr (T:bj)(K:a8->Prop):Nat->List bz->List (List Nat)->Rec->a8->Prop
 |_,[],_,_,st=>K st
 |n,i::r,cs,rec,st=>match g9 st.tm i.g with
  |none=>False
  |some g=>if g=true then (match eX T st.mem st.tm i.op with
    |some (m,e)=>rX rec (gi i.op,cy st.tm i.op) (cs.headD [])=true/\tr T K (n+1) r cs.tail (jl rec n (gi i.op,cy st.tm i.op)) ⟨put st.tm i.dst m,gg st.mem e⟩
    |none=>False) else tr T K (n+1) r cs.tail rec ⟨put st.tm i.dst .no,st.mem⟩
inductive fD where
 |normal
 |exit (id:Nat)
 |ret
def cN:Nat->Mem->I->Option Data
 |_,_,.J d=>some d
 |_,_,.nil=>some (.ar [])
 |0,_,_=>none
 |n+1,mem,.ref k g sz off len=>match mem k with
  |some (cx,cs)=>if cx=g then (match cut cs off (len*sz) with
   |some part=>(part.mapM (cN n mem)).map λds => .ar (chunk sz len ds)
   |none=>none) else none
  |none=>none
 |n+1,mem,.ptr k g off=>match mem k with
  |some (cx,cs)=>if cx=g/\off<=(D cs) then ((cs.drop off).mapM (cN n mem)).map .ptr else none
  |none=>none
 |n+1,mem,.ef f cs=>(cs.mapM (cN n mem)).map (.fn f)
 |n+1,mem,.agg cs=>(cs.mapM (cN n mem)).map .agg
 |n+1,mem,.dq cs=>(cs.mapM (cN n mem)).map .dq
 |_,_,.hC _ _=>none
 |_,_,.no=>none
 |_,_,.undef=>none
def kill (mem:Mem)(k:Key):Mem:=aV mem k (bB mem k) []
inductive Mo (mem:Mem):Mem->Prop
 |aiC (fO fy:Nat) (gw:List I) (i k g sz off len:Nat) (cs:List I) (k':Nat) (F:mem fO=some (fy,gw)) (G:gw[i]?=some (.ref k g sz off len)) (ad:mem k=some (g,cs)) (aZ:k≠fO) (bw:k'≠k) (bA:k'≠fO) :
   Mo mem (aV (aV (aV mem k (bB mem k) []) k' (bB mem k') cs) fO fy (gw.set i (.ref k' (bB mem k') sz off len)))
 |aiD (fO fy:Nat) (gw:List I) (i k g off:Nat) (cs:List I) (k':Nat) (F:mem fO=some (fy,gw)) (G:gw[i]?=some (.ptr k g off)) (ad:mem k=some (g,cs)) (aZ:k≠fO) (bw:k'≠k) (bA:k'≠fO) :
   Mo mem (aV (aV (aV mem k (bB mem k) []) k' (bB mem k') cs) fO fy (gw.set i (.ptr k' (bB mem k') off)))
 |aiE (fO fy:Nat) (gw:List I) (i k g sz off len:Nat) (cs:List I) (d:Data) (F:mem fO=some (fy,gw)) (G:gw[i]?=some (.ref k g sz off len)) (ad:mem k=some (g,cs)) (aZ:k≠fO) (bw:cN 1 mem (.ref k g sz off len)=some d) :
   Mo mem (aV (kill mem k) fO fy (gw.set i (.J d)))
inductive HH:Mem->Mem->Prop
 |refl (mem:Mem):HH mem mem
 |step {mem D9 XW:Mem} (h:Mo mem D9) (cI:HH D9 XW):HH mem XW
def lh (K:a8->Prop)(st:a8):Mc->Prop
 |.mM s k sz=>match st.tm s with
  |.nil=>K ⟨ea st.tm s (.ref k (bB st.mem k) sz 0 0),aV st.mem k (bB st.mem k) []⟩
  |_=>False
 |.DZ x i k sz=>match aM st.tm x with
  |.ptr kc g off=>match st.mem kc with
   |some (cx,cs)=>if cx=g then (match cs[off+i]? with
    |some .nil=>if k≠kc then K ⟨st.tm,aV (aV st.mem k (bB st.mem k) []) kc g (cs.set (off+i) (.ref k (bB st.mem k) sz 0 0))⟩ else False
    |_=>False) else False
   |none=>False
  |_=>False
 |.freeze s=>match st.tm s with
  |.ref k g _ _ _=>match st.mem k with
   |some (cx,cs)=>if cx=g/\q4 cs=true then (match cN 1 st.mem (st.tm s) with
    |some d=>K ⟨ea st.tm s (.J d),kill st.mem k⟩
    |none=>False) else False
   |none=>False
  |_=>False
 |.Md x i=>match aM st.tm x with
  |.ptr kc gc off=>match st.mem kc with
   |some (Rh,cc)=>if Rh=gc then (match cc[off+i]? with
    |some (.ref k g sz o len)=>match st.mem k with
     |some (cx,cs)=>if cx=g/\q4 cs=true/\k≠kc then (match cN 1 st.mem (.ref k g sz o len) with
      |some d=>K ⟨st.tm,aV (kill st.mem k) kc gc (cc.set (off+i) (.J d))⟩
      |none=>False) else False
     |none=>False
    |_=>False) else False
   |none=>False
  |_=>False
 |.move=>K st\/(∃fO fy gw i k g sz off len cs k',st.mem fO=some (fy,gw)/\gw[i]?=some (.ref k g sz off len)/\st.mem k=some (g,cs)/\k≠fO/\k'≠k/\k'≠fO /\
   K ⟨st.tm,aV (aV (aV st.mem k (bB st.mem k) []) k' (bB st.mem k') cs) fO fy (gw.set i (.ref k' (bB st.mem k') sz off len))⟩) \/
   ∃fO fy gw i k g sz off len cs d,st.mem fO=some (fy,gw)/\gw[i]?=some (.ref k g sz off len)/\st.mem k=some (g,cs)/\q4 cs=true/\k≠fO/\cN 1 st.mem (.ref k g sz off len)=some d /\
   K ⟨st.tm,aV (kill st.mem k) fO fy (gw.set i (.J d))⟩
 |.many=>∃mem',HH st.mem mem'/\K ⟨st.tm,mem'⟩
def wp (T:bj):e1->(fD->a8->Prop)->a8->Prop
 |.skip,K,st=>K .normal st
 |.ops l,K,st=>wc T (K .normal) l st
 |.mN l c,K,st=>tr T (K .normal) 0 l c (λ_=>none) st
 |.seq a b,K,st=>wp T a (λe cf=>match e with
  |.normal=>wp T b K cf
  |e=>K e cf) st
 |.cond c a b,K,st=>match aM st.tm c with
  |.J (.bool t)=>if t=true then wp T a K st else wp T b K st
  |_=>False
 |.block id c,K,st=>wp T c (λe cf=>match e with
  |.exit j=>if j=id then K .normal cf else K (.exit j) cf
  |e=>K e cf) st
 |.loop c,K,st=>∃(Bn:a8->Prop) (μ:a8->Nat),Bn st/\∀st,Bn st->wp T c (λe cf=>match e with
  |.normal=>Bn cf/\μ cf<μ st
  |e=>K e cf) st
 |.exit id,K,st=>K (.exit id) st
 |.ret,K,st=>K .ret st
 |.ghost g c,K,st=>lh (wp T c K) st g
def Ea (st:a8):ku->Option I
 |.t s=>some (st.tm s)
 |.cell s n bJ=>iW st.mem n bJ (st.tm s)
def jO (st:a8)(l:List ku):Option I :=
 match l.mapM (Ea st) with
 |some [m]=>some m
 |some ms=>some (.dq ms)
 |none=>none
def ke (args:List I):Nat->I:=λs=>match args[s]? with
 |some m=>m
 |none => .no
def HI:Value->Option I
 |.int k n=>some (.J (.int k n))
 |.bool b=>some (.J (.bool b))
 |.string s=>some (.J (.str s.data.toList))
 |.slice none 0 0=>some .nil
 |.pointer none=>some (.J .qZ)
 |.nilFunc=>some (.J .rS)
 |.nilIface=>some (.J .nB)
 |.map none=>some .undef
 |_=>none
def Mp:Value->Option I
 |.agg cs=>(cs.toList.mapM HI).map .agg
 |v=>HI v
def cP:Operand->Option bx
 |.tmp t=>some (.t t)
 |.const v=>(Mp v).map .c
 |.func f=>some (.c (.ef f []))
 |.global _=>none
def zeroOf (P:Program)(t:TypeId):Option (List I):=((P.info? t).bind (·.zero)).bind λz=>z.cells.toList.mapM HI
def zeroV (P:Program)(t:TypeId):Option I:=((P.info? t).bind (·.zero)).bind Mp
def fH (P:Program)(t:TypeId):Option Nat:=(P.info? t).map (·.size)
def Eb (P:Program)(t:TypeId):Option Nat:=(P.info? t).map (·.bytes)
def ts (P:Program)(t:TypeId):Option Bool:=(P.underlying t).map fun|.struct _=>true|.array _ _=>true|_=>false
def partsOf (place:Nat->Option (Nat×Nat))(l:List (Nat×Operand)):Option (List (Nat×Nat×bx)) :=
 l.mapM λ(i,x)=>do
  let (o,s) <-place i
  let y <-cP x
  pure (o,s,y)
def tt (P:Program)(dB:Array Field)(i:Nat):Option (Nat×Nat):=do
 let f <-dB[i]?
 let s <-fH P f.type
 pure (f.offset,s)
def uL (P:Program)(t:TypeId):Option Nat :=
 match P.underlying t with
 |some .bool=>some 0
 |some (.int _)=>some 1
 |some .string=>some 2
 |_=>none
def Ec (P:Program):Nat->List Field->Option (List Nat)
 |_,[]=>some []
 | i, f :: r => if f.name ≠ "_" /\ f.offset = i then (match uL P f.type, Ec P (i + 1) r with
  |some k,some gG=>some (k::gG)
  |_,_=>none) else none
def tu (P:Program)(t:TypeId)(dB:Array Field)(neg:Bool)(x y:Operand):Option fN :=
 if P.stoodInHeld t=false/\P.eqGuardType P.depth t=false then (match Ec P 0 dB.toList,cP x,cP y with
  |some gG,some x,some y=>some (.eqs neg gG x y)
  |_,_,_=>none) else none
def Mq:Bool->Operand->Bool
 |false,.const (.pointer none)=>true
 |true,.const .nilIface=>true
 |_,_=>false
def Mr:Operand->Bool
 |.const (.slice none 0 0)=>true
 |_=>false
def tv (P:Program)(op:BinOp)(t:TypeId)(x y:Operand):Option fN :=
 match P.underlying t with
 |some (.int _)=>match cP x,cP y with
  |some x,some y=>some (.bin op x y)
  |_,_=>none
 |some .string=>match cP x,cP y with
  |some x,some y=>some (.bin op x y)
  |_,_=>none
 |some .bool=>match op,cP x,cP y with
  |.eql,some x,some y=>some (.beq false x y)
  |.neq,some x,some y=>some (.beq true x y)
  |_,_,_=>none
 |some (.struct dB)=>match op with
  |.eql=>tu P t dB false x y
  |.neq=>tu P t dB true x y
  |_=>none
 |some (.slice _)=>if Mr y=true then (match op with
  |.eql=>(cP x).map (.lR false)
  |.neq=>(cP x).map (.lR true)
  |_=>none) else none
 |some (.pointer _)=>if Mq false y=true then (match op with
  |.eql=>(cP x).map (.Bk false false)
  |.neq=>(cP x).map (.Bk true false)
  |_=>none) else none
 |some (.interface _)=>if Mq true y=true then (match op with
  |.eql=>(cP x).map (.Bk false true)
  |.neq=>(cP x).map (.Bk true true)
  |_=>none) else none
 |_=>none
def rY:Option Operand->Option (Option bx)
 |none=>some none
 |some x=>(cP x).map some
def rZ (P:Program)(kb:Nat)(own:List Nat)(dst:Option Nat)(type:TypeId)(c:Call):Option fN :=
 match c.callee,c.args.toList,c.argTypes.toList with
 |.builtin .len,[x],[t]=>match P.underlying t with
  |some (.slice _)=>(cP x).map .len
  |some .string=>(cP x).map .lens
  |_=>none
 |.builtin .append,[s,x],[t,u]=>match P.underlying t,P.underlying u with
  |some (.slice e),some (.slice _)=>do
   let z <-zeroOf P e
   let b <-Eb P e
   let n <-fH P e
   let d <-dst
   let s <-cP s
   let x <-cP x
   if (D z)=n/\0<n/\t=u then pure (.app (kb+d) z b s x) else none
  |_,_=>none
 |.builtin .copy,[d,x],[t,u]=>match P.underlying t,P.underlying u with
  |some (.slice e),some (.slice _)=>do
   let n <-fH P e
   if 0<n then pure (.q2 n (<-cP d) (<-cP x)) else none
  |_,_=>none
 |.builtin .clear,[x],[t]=>match P.underlying t with
  |some (.slice e)=>do
   let z <-zeroOf P e
   let n <-fH P e
   if (D z)=n/\0<n then pure (.tn z (<-cP x)) else none
  |_=>none
 |.builtin .max,[x,y],_=>do pure (.lS true (<-cP x) (<-cP y))
 |.builtin .min,[x,y],_=>do pure (.lS false (<-cP x) (<-cP y))
 |.value (.func f),l,_=>if dst.any (λd=>own.contains d) then (match P.underlying type with
   |some (.slice e)=>do pure (.lb (kb+(<-dst)) (<-fH P e) f (<-l.mapM cP))
   |_=>none) else match own.find? (λo=>decide (1000000<=o)&&dst==some (o%1000000)) with
   |some o=>if 1000000000000<=o then do pure (.qc (o/1000000000000-1) f (<-l.mapM cP)) else if 1000000000<=o then do pure (.qb (o/1000000000-1) f (<-l.mapM cP)) else do pure (.kQ (o/1000000-1) f (<-l.mapM cP))
   |none=>do pure (.call f (<-l.mapM cP))
 |.value f,l,_=>do pure (.jN (<-cP f) (<-l.mapM cP))
 |_,_,_=>none
def gX (P:Program)(kb:Nat)(own:List Nat)(dst:Option Nat)(type:TypeId):Op->Option fN
 |.move x=>(cP x).map .iu
 |.assign x=>(cP x).map .iu
 |.pick c a b=>do pure (.pick (<-cP c) (<-cP a) (<-cP b))
 |.alloc e=>do pure (.alloc (kb+(<-dst)) (<-zeroOf P e))
 |.box _ x=>do pure (.box (kb+(<-dst)) (<-cP x))
 |.build t cV=>match P.underlying t with
  |some (.struct dB)=>if (dB.toList.all λf=>(fH P f.type).isSome)=true then do pure (.build (<-zeroOf P t) (<-partsOf (tt P dB) cV.toList)) else none
  |some (.array _ e)=>do
   let s <-fH P e
   pure (.build (<-zeroOf P t) (<-partsOf (λi=>some (i*s,s)) cV.toList))
  |_=>none
 |.buildSlice t len cV=>match P.underlying t with
  |some (.slice e)=>do
   let z <-zeroOf P e
   let s <-fH P e
   let cV <-partsOf (λi=>some (i*s,s)) cV.toList
   let d <-dst
   if (D z)=s/\0<s/\len*s<=16777216 then pure (.dN (kb+d) (own.contains d) ((ch len z).flatten) s len cV) else none
  |_=>none
 |.load t x=>do pure (.load (<-fH P t) (<-ts P t) (<-cP x))
 |.store t x v=>do pure (.store (<-fH P t) (<-cP x) (<-cP v))
 |.binOp op t x y _=>tv P op t x y
 |.unOp op _ x=>(cP x).map (.un op)
 |.nilCheck x=>(cP x).map .uG
 |.convert s t x=>match P.underlying s,P.underlying t with
  |some (.int _),some (.int k)=>(cP x).map (.conv k)
  |_,_=>none
 |.makeFunc (.func f) fst dd=>if fst.size=0 then do pure (.uI f (<-dd.toList.mapM cP)) else none
 |.makeSlice t l c=>match P.underlying t with
  |some (.slice e)=>do
   let z <-zeroOf P e
   let s <-fH P e
   let b <-Eb P e
   let d <-dst
   if (D z)=s/\0<s then pure (.la (kb+d) z b (<-cP l) (<-cP c)) else none
  |_=>none
 |.slice t x b8 ab jM=>match P.underlying t with
  |some (.slice e)=>do
   let s <-fH P e
   if 0<s then pure (.q1 s (<-cP x) (<-rY b8) (<-rY ab) (<-rY jM)) else none
  |some (.array n e)=>do
   let s <-fH P e
   if 0<s/\n<=16777216 then pure (.tl n s (<-cP x) (<-rY b8) (<-rY ab) (<-rY jM)) else none
  |some .string=>if jM.isNone then do pure (.Bj (<-cP x) (<-rY b8) (<-rY ab)) else none
  |_=>none
 |.fieldAddr t x f=>match P.underlying t with
  |some (.struct dB)=>do
   let (o,s) <-tt P dB f
   if 0<s then pure (.tk o (<-cP x)) else none
  |_=>none
 |.field t x f=>match P.underlying t with
  |some (.struct dB)=>do
   let fd <-dB[f]?
   let (o,s) <-tt P dB f
   pure (.xD o s (<-ts P fd.type) (<-cP x))
  |_=>none
 |.indexAddr t x i=>match P.underlying t with
  |some (.slice e)=>do
   let s <-fH P e
   if 0<s then pure (.uH s (<-cP x) (<-cP i)) else none
  |some (.array n e)=>do
   let s <-fH P e
   if 0<s then pure (.Bi n s (<-cP x) (<-cP i)) else none
  |_=>none
 |.index t x i=>match P.underlying t with
  |some .string=>do pure (.idxs (<-cP x) (<-cP i))
  |some (.array n e)=>do pure (.Mb n (<-fH P e) (<-ts P e) (<-cP x) (<-cP i))
  |_=>none
 |.makeInterface t x=>match P.underlying t with
  |some (.interface _)=>none
  |some _=>(cP x).map (.DY t)
  |none=>none
 |.typeAssert x _ t ok=>match P.underlying t with
  |some (.interface _)=>none
  |some _=>do pure (.L9 t ok (<-zeroV P t) (<-cP x))
  |none=>none
 |.makeMap t none=>match P.underlying t with
  |some (.map _ _)=>do pure (.v9 (kb+(<-dst)))
  |_=>none
 |.lookup t x i ok=>match P.underlying t with
  |some (.map k e)=>if uL P k=some 2 then do pure (.zB ok (<-zeroV P e) (<-cP x) (<-cP i)) else none
  |_=>none
 |.mapUpdate t x i v=>match P.underlying t with
  |some (.map k e)=>if uL P k=some 2 then do pure (.xE (<-cP x) (<-cP i) (<-cP v)) else none
  |_=>none
 |.extract x i=>(cP x).map (.ext i)
 |.call c=>rZ P kb own dst type c
 |_=>none
def HJ (ops:Array Oper):Option (Nat×Bool)->Option (Option (Nat×Bool))
 |none=>some none
 |some (j,b)=>match (ops[j]?).bind (·.dst) with
  |some s=>some (some (s,b))
  |none=>none
def nC (P:Program)(n kb:Nat)(own:List Nat)(ops:Array Oper)(o:Oper):Option bz :=
 match HJ ops o.guard with
 |some g=>if o.dst.all (λd=>decide (d<n))=true then some ⟨o.dst,g,(gX P kb own o.dst o.type o.op).getD .bad⟩ else none
 |_=>none
def mh (m:fN):Nat:=match m with
 |.load ..=>1
 |.tl ..=>1
 |.zB ..=>1
 |m=>if gi m=true then 2 else 0
def uM (a b:Nat):Bool:=a==0||b==0||(a==1&&b==1)
def eu:bx->List Nat
 |.t s=>[s]
 |.c _=>[]
def we:Option bx->List Nat
 |some (.t s)=>[s]
 |_=>[]
def oG:fN->List Nat
 |.iu x=>eu x
 |.pick c a b=>eu c++eu a++eu b
 |.alloc _ _=>[]
 |.box _ x=>eu x
 |.build _ cV=>cV.flatMap λp=>eu p.2.2
 |.dN _ _ _ _ _ cV=>cV.flatMap λp=>eu p.2.2
 |.load _ _ x=>eu x
 |.store _ x v=>eu x++eu v
 |.bin _ x y=>eu x++eu y
 |.beq _ x y=>eu x++eu y
 |.eqs _ _ x y=>eu x++eu y
 |.lR _ x=>eu x
 |.un _ x=>eu x
 |.conv _ x=>eu x
 |.uG x=>eu x
 |.la _ _ _ x y=>eu x++eu y
 |.tk _ x=>eu x
 |.xD _ _ _ x=>eu x
 |.uH _ x i=>eu x++eu i
 |.Bi _ _ x i=>eu x++eu i
 |.idxs x i=>eu x++eu i
 |.q1 _ x a b c=>eu x++we a++we b++we c
 |.tl _ _ x a b c=>eu x++we a++we b++we c
 |.Bj x a b=>eu x++we a++we b
 |.ext _ x=>eu x
 |.len x=>eu x
 |.lens x=>eu x
 |.app _ _ _ s x=>eu s++eu x
 |.q2 _ s x=>eu s++eu x
 |.lS _ x y=>eu x++eu y
 |.call _ l=>l.flatMap eu
 |.lb _ _ _ l=>l.flatMap eu
 |.jN f l=>eu f++l.flatMap eu
 |.kQ _ _ l=>l.flatMap eu
 |.qb _ _ l=>l.flatMap eu
 |.qc _ _ l=>l.flatMap eu
 |.tn _ x=>eu x
 |.uI _ l=>l.flatMap eu
 |.DY _ x=>eu x
 |.L9 _ _ _ x=>eu x
 |.Bk _ _ x=>eu x
 |.Mb _ _ _ x i=>eu x++eu i
 |.v9 _=>[]
 |.zB _ _ x i=>eu x++eu i
 |.xE x i v=>eu x++eu i++eu v
 |.bad=>[]
def looks (i:bz):List Nat:=oG i.op++(match i.g with|some (s,_)=>[s]|none=>[])
def oH (x y:bz):Bool :=
 (
  match x.dst with
  |some d => !(looks y).contains d&&y.dst != some d
  |none=>true) &&
 (
  match y.dst with
  |some d => !(looks x).contains d
  |none=>true)
def fV:List Oper->List Nat->List Nat
 | [],acc=>acc
 |o::r,acc=>fV r (acc++[o.after.toList.foldl (λs e=>if Region.binds .any e=true then s ||| (2^e.on ||| acc.getD e.on 0) else s) 0])
def xI:List bz->List bz->List Nat->Bool
 |_,[],_=>true
 |pre,c::cs,a::as=>(pre.zipIdx.all λ(p,i)=>a.testBit i||oH p c)&&xI (pre++[c]) cs as
 |_,_::_,[]=>false
def xJ:Nat->List Oper->Bool
 |_,[]=>true
 |n,o::r=>(o.after.all λe => !Region.binds .any e||decide (e.on<n))&&xJ (n+1) r
def qh (ops:Array Oper)(l:List bz):Bool:=xJ 0 ops.toList&&xI [] l (fV ops.toList [])
def mi:List bz->List bz->List Nat->List (List Nat)
 |_,[],_=>[]
 |pre,c::cs,as=>((pre.zipIdx.filter λ(p,i) => !((as.headD 0).testBit i||uM (mh p.op) (mh c.op))).map (·.2))::mi (pre++[c]) cs as.tail
def py (P:Program)(n kb:Nat)(own:List Nat):Code->Option e1
 |.skip=>some .skip
 |.region _ ops draw=>match ops.toList.mapM (nC P n kb own ops) with
  |some l=>if draw=true then (if qh ops l=true then some (.mN l (mi [] l (fV ops.toList []))) else none) else some (.ops l)
  |none=>none
 |.seq a b=>match py P n kb own a,py P n kb own b with
  |some x,some y=>some (.seq x y)
  |_,_=>none
 |.cond c a b=>match cP c,py P n kb own a,py P n kb own b with
  |some c,some x,some y=>some (.cond c x y)
  |_,_,_=>none
 |.block id c=>(py P n kb own c).map (.block id)
 |.loop c=>(py P n kb own c).map .loop
 |.exit id=>some (.exit id)
 |.ret=>some .ret
 |_=>none
def wg (P:Program):ResultVar->Option ku
 |.tmp t=>some (.t t)
 |.cell a t=>match fH P t,ts P t with
  |some s,some g=>some (.cell a s g)
  |_,_=>none
def pz (P:Program)(kb:Nat)(own:List Nat)(f:Func):Option bG :=
 match f.body with
 |none=>none
 |some c=>match py P f.ntmps kb own c,f.results.toList.mapM (wg P) with
  |some b,some r=>some { n:=f.ntmps,aiB:=f.params.size+f.nfree,res:=r,body:=b }
  |_,_=>none
structure da (A:Nat->Prop) (w:World) (B:cU) (an:World) (aA:cU) (mem':Mem):Prop where
 cu:dQ A an aA mem'
 iH:Trans A w B an aA
 fZ:Fr (n3 B) w an
 fresh:∀b,n3 aA b->n3 B b\/w.heap.size<=b
def da.still {A:Nat->Prop}{w an:World}{B:cU}{mem:Mem}(h:dQ A w B mem)(f:Fr (λ_=>False) w an):da A w B an B mem:=by
 have iH:Trans A w B an B:=⟨f.size,λb U a6=>⟨f.block b U id,λL=>a6 (.inl L)⟩,λ_ e he=>⟨e,he,.inl rfl⟩⟩;refine⟨⟨h.rT,h.inj,h.sep,λb U=>Bh (h.lt b U) f.size,f.aiA h.gl,h.v8,λk g cs hm=>?_⟩,iH,⟨f.os,f.tape,f.output,f.size,λb U _=>f.block b U id⟩,λb U => .inl U⟩;obtain⟨e,he,aN,aC,U⟩:=h.dk k g cs hm;refine⟨e,he,aN,aC,λb fW=>?_⟩;exact (U b fW).j9 iH (f.block b (U b fW).lt id)
def da.refl {A:Nat->Prop}{w:World}{B:cU}{mem:Mem}(h:dQ A w B mem):da A w B w B mem:=.still h (Fr.refl _ _)
def e4 (B:cU)(k:Key)(e:hv):cU:=λj=>if j=k then some e else B j
def fz (B:cU)(k:Key)(e:hv):e4 B k e k=some e:=by simp[e4]
def fm (B:cU){k j:Key}(e:hv)(h:j≠k):e4 B k e j=B j:=by simp[e4,h]
section
variable {A:Nat->Prop} {w an:World} {B:cU} {mem:Mem} {k:Key} {e':hv} {cs:List I}
def Trans.change (ec:w.heap.size<=an.heap.size)
  (hold:∀b,b<w.heap.size->(∀e,B k=some e->e.dk≠some b)->an.heap[b]?=w.heap[b]?)
  (aN:∀e,B k=some e->e'=e\/e.g<e'.g)
  (jP:∀b,e'.dk=some b->w.heap.size<=b\/∃e,B k=some e/\e.dk=some b):Trans A w B an (e4 B k e'):=by
 refine⟨ec,λb U a6=>⟨hold b U λe he L=>a6 (.inl ⟨k,e,he,L⟩),?_⟩,λj e he=>?_⟩
 ·rintro⟨j,e,he,L⟩
  by_cases aa:j=k
  ·subst aa;rw[fz] at he
   cases he;rcases jP b L with F|⟨e,F,G⟩
   ·omega
   ·exact a6 (.inl ⟨_,e,F,G⟩)
  ·rw[fm B e' aa] at he;exact a6 (.inl ⟨j,e,he,L⟩)
 ·by_cases aa:j=k
  ·subst aa;exact⟨e',fz _ _ _,aN e he⟩
  ·exact⟨e,(fm B e' aa).trans he,.inl rfl⟩
def Ms (jP:∀b,e'.dk=some b->w.heap.size<=b\/∃e,B k=some e/\e.dk=some b)(b:Nat)(h:n3 (e4 B k e') b):n3 B b\/w.heap.size<=b:=by
 obtain⟨j,e,he,L⟩:=h
 by_cases aa:j=k
 ·subst aa;rw[fz] at he
  cases he;rcases jP b L with F|⟨e,F,G⟩
  ·exact .inr F
  ·exact .inl ⟨_,e,F,G⟩
 ·rw[fm B e' aa] at he;exact .inl ⟨j,e,he,L⟩
def dQ.Ri (h:dQ A w B mem)(ec:w.heap.size<=an.heap.size)
  (hold:∀b,b<w.heap.size->(∀e,B k=some e->e.dk≠some b)->an.heap[b]?=w.heap[b]?)
  (aN:∀e,B k=some e->e'=e\/e.g<e'.g)
  (jP:∀b,e'.dk=some b->w.heap.size<=b\/∃e,B k=some e/\e.dk=some b)
  (aC:e'.dk=none->cs=[])
  (Y:∀b,e'.dk=some b->q0 an (bp A (e4 B k e')) (e4 B k e') e' b cs):dQ A an (e4 B k e') (aV mem k e'.g cs):=by
 have iH:Trans A w B an (e4 B k e'):=Trans.change ec hold aN jP;have fresh:=Ms (w:=w) jP;refine⟨λj aa=>?_,λj iI e az b he eg U eF=>?_,λb bc a6=>?_,λb U=>Bh (h.lt b U) ec,λb o U=>?_,λb o U a6=>?_,λj g g8 hm=>?_⟩
 ·by_cases b3:j=k
  ·subst b3;simp[aV] at aa
  ·simp only[aV,b3,if_false] at aa;rw[fm B e' b3];exact h.rT j aa
 ·by_cases b3:j=k<;>by_cases hjk':iI=k
  ·rw[b3,hjk']
  ·subst b3;rw[fz] at he
   cases he;rw[fm B e' hjk'] at eg;rcases jP b U with F|⟨e,F,G⟩
   ·have:=h.rU ⟨iI,az,eg,eF⟩;omega
   ·exact h.inj _ _ e az b F eg G eF
  ·subst hjk';rw[fz] at eg
   cases eg;rw[fm B e' b3] at he;rcases jP b eF with F|⟨eT,F,G⟩
   ·have:=h.rU ⟨j,e,he,U⟩;omega
   ·exact h.inj _ _ e eT b he F U G
  ·rw[fm B e' b3] at he;rw[fm B e' hjk'] at eg;exact h.inj j iI e az b he eg U eF
 ·rcases fresh b a6 with F|F
  ·exact h.sep b bc F
  ·have:=h.lt b bc;omega
 ·obtain⟨T,F⟩:=h.gl b o U;exact⟨T,(hold b (Array.getElem?_eq_some_iff.1 F).1 λe he L=>h.v8 b o U ⟨k,e,he,L⟩).trans F⟩
 ·have F:=(Array.getElem?_eq_some_iff.1 (h.gl b o U).choose_spec).1;rcases fresh b a6 with G|G
  ·exact h.v8 b o U G
  ·omega
 ·by_cases b3:j=k
  ·subst b3;simp only[aV,if_true,bO,eM] at hm;obtain⟨rfl,rfl⟩:=hm;exact⟨e',fz _ _ _,rfl,aC,Y⟩
  ·simp only[aV,b3,if_false] at hm;obtain⟨e,he,xK,HK,hE⟩:=h.dk j g g8 hm;refine⟨e,(fm B e' b3).trans he,xK,HK,λb U=>?_⟩;exact (hE b U).j9 iH (hold b (hE b U).lt λeT ad aZ=>b3 (h.inj j k e eT b he ad U aZ))
def dQ.change (h:dQ A w B mem)(ec:w.heap.size<=an.heap.size)
  (hold:∀b,b<w.heap.size->(∀e,B k=some e->e.dk≠some b)->an.heap[b]?=w.heap[b]?)
  (aN:∀e,B k=some e->e'=e\/e.g<e'.g)
  (jP:∀b,e'.dk=some b->w.heap.size<=b\/∃e,B k=some e/\e.dk=some b)
  (aC:e'.dk=none->cs=[])
  (Y:∀b,e'.dk=some b->e'.mp=false/\∃vs T,an.heap[b]?=some (.cells vs T (0,0))/\vs.size=e'.size/\D cs<=vs.size /\
   ∀(i:Nat) (m:I),cs[i]?=some m->∃v,vs[i]?=some v/\a0 w (bp A B) B m v):dQ A an (e4 B k e') (aV mem k e'.g cs) :=
 h.Ri ec hold aN jP aC λb U=>by
  have iH:Trans A w B an (e4 B k e'):=Trans.change ec hold aN jP;obtain⟨au,vs,T,F,G,ad,aZ⟩:=Y b U;exact .inl ⟨au,vs,T,F,G,ad,λi m hm=>let ⟨v,ao,M⟩:=aZ i m hm;⟨v,ao,M.j9 iH⟩⟩
def da.change (h:dQ A w B mem)(f:Fr (λb=>∃e,B k=some e/\e.dk=some b) w an)
  (aN:∀e,B k=some e->e'=e\/e.g<e'.g)
  (jP:∀b,e'.dk=some b->w.heap.size<=b\/∃e,B k=some e/\e.dk=some b)
  (aC:e'.dk=none->cs=[])
  (Y:∀b,e'.dk=some b->e'.mp=false/\∃vs T,an.heap[b]?=some (.cells vs T (0,0))/\vs.size=e'.size/\D cs<=vs.size /\
   ∀(i:Nat) (m:I),cs[i]?=some m->∃v,vs[i]?=some v/\a0 w (bp A B) B m v):da A w B an (e4 B k e') (aV mem k e'.g cs):=by
 have hold:∀b,b<w.heap.size->(∀e,B k=some e->e.dk≠some b)->an.heap[b]?=w.heap[b]? :=
  λb U L=>f.block b U fun⟨e,he,fW⟩=>L e he fW
 exact⟨h.change f.size hold aN jP aC Y,Trans.change f.size hold aN jP,⟨f.os,f.tape,f.output,f.size,λb U a6=>f.block b U fun⟨e,he,fW⟩=>a6 ⟨k,e,he,fW⟩⟩,Ms jP⟩
def zH (h:dQ A w B mem)(k:Key)(e:hv)(he:B k=some e):e.g<bB mem k:=by
 cases hm:mem k with
 |none=>rw[h.rT k hm] at he;cases he
 |some x =>
  obtain⟨g,cs⟩:=x;obtain⟨az,F,G,_⟩:=h.dk k g cs hm;rw[F] at he
  cases he;simp[bB,hm,G]
def da.alloc (h:dQ A w B mem)(w1:World)(f:Fr (λ_=>False) w w1)(a2:w1.heap.size=w.heap.size)(k:Key)(vs:Array Value)(T:TypeId)(ag:(D cs)<=vs.size)
  (Y:∀(i:Nat) (m:I),cs[i]?=some m->∃v,vs[i]?=some v/\a0 w (bp A B) B m v) :
  da A w B (w1.alloc (.cells vs T)) (e4 B k ⟨bB mem k,some w.heap.size,vs.size,false⟩) (aV mem k (bB mem k) cs):=by
 have f2:Fr (λ_=>False) w (w1.alloc (.cells vs T)):=f.alloc _;refine da.change (e':=⟨bB mem k,some w.heap.size,vs.size,false⟩) h ⟨f2.os,f2.tape,f2.output,f2.size,λb U _=>f2.block b U id⟩ (λe he => .inr (zH h k e he)) (λb U => .inl ?_) (by simp) ?_
 ·simp at U;omega
 ·intro b U;simp at U;subst U;exact⟨rfl,vs,T,by rw[<-a2];exact heap_alloc_new w1 _,rfl,ag,Y⟩
def da.wh (h:dQ A w B mem)(k:Key):da A w B w (e4 B k ⟨bB mem k,none,0,false⟩) (aV mem k (bB mem k) []) :=
 da.change (e':=⟨bB mem k,none,0,false⟩) h ⟨rfl,rfl,rfl,c9 _,λ_ _ _=>rfl⟩ (λe he => .inr (zH h k e he)) (λb U=>by simp at U) (λ_=>rfl) (λb U=>by simp at U)
end
def da.trans {A:Nat->Prop}{w w1 gF:World}{B iV Hk:cU}{aY b0:Mem}(h:da A w B w1 iV aY)(cI:da A w1 iV gF Hk b0):da A w B gF Hk b0:=by
 refine⟨cI.cu,h.iH.trans cI.iH,⟨cI.fZ.os.trans h.fZ.os,cI.fZ.tape.trans h.fZ.tape,cI.fZ.output.trans h.fZ.output,iG h.fZ.size cI.fZ.size,λb U a6=>?_⟩,λb U=>?_⟩
 ·have F:=h.fZ.block b U a6;refine (cI.fZ.block b (Bh U h.fZ.size) λL=>?_).trans F;rcases h.fresh b L with G|G
  ·exact a6 G
  ·omega
 ·rcases cI.fresh b U with F|F
  ·exact h.fresh b F
  ·exact .inr (iG h.fZ.size F)
def Rj {w:World}{aw:Nat->Prop}{B:cU}{v:Value}{m:I}(h:HI v=some m):a0 w aw B m v:=by
 unfold HI at h
 split at h<;>simp only[bO,reduceCtorEq] at h<;>subst h
 ·exact .J .int
 ·exact .J .bool
 ·rename_i s
  exact .J (by
   have:s=⟨s.data.toList.toArray⟩:=by simp
   rw[this]
   simpa using Den.str (s:=s.data.toList))
 ·exact .nil
 ·exact .J .qZ
 ·exact .J .rS
 ·exact .J .nB
 ·exact .undef
def mapM_get {α β:Type}{f:α->Option β}:∀{l:List α} {r:List β},l.mapM f=some r->(D r)=D l/\∀(i:Nat) (x:α) (y:β),l[i]?=some x->r[i]?=some y->f x=some y
 | [],r,h=>by
  simp at h;subst h;exact⟨rfl,λi x y F=>by simp at F⟩
 |a::l,r,h=>by
  simp only[nf,ga,gj,dI,bO] at h;obtain⟨b,U,xL,M,rfl⟩:=h;obtain⟨F,G⟩:=mapM_get M;refine⟨by simp[F],λi x y L ak=>?_⟩
  cases i with
  |zero=>simp at L ak;subst L;subst ak;exact U
  |succ i=>exact G i x y (by simpa using L) (by simpa using ak)
def XX {w:World}{aw:Nat->Prop}{B:cU}{v:Value}{m:I}(h:Mp v=some m):a0 w aw B m v:=by
 unfold Mp at h
 split at h
 ·rename_i cs;simp only[c4] at h;obtain⟨ms,aF,rfl⟩:=h;obtain⟨F,G⟩:=mapM_get aF;have:=a0.agg (w:=w) (aw:=aw) (B:=B) (cs:=ms) (vs:=cs.toList) (by simp[F]) λi d v af ao=>Rj (G i v d ao af)
  simpa using this
 ·exact Rj h
section
variable {P:Program} {w:World} {aw:Nat->Prop} {B:cU}
def a0.wi {k:IntKind}{n:Int}{v:Value}(h:a0 w aw B (.J (.int k n)) v):v=.int k n:=by
 cases h with
 |J h=>cases h;rfl
def a0.zI {b:Bool}{v:Value}(h:a0 w aw B (.J (.bool b)) v):v=.bool b:=by
 cases h with
 |J h=>cases h;rfl
def a0.zJ {s:List UInt8}{v:Value}(h:a0 w aw B (.J (.str s)) v):v=.string ⟨s.toArray⟩:=by
 cases h with
 |J h=>cases h;rfl
def a0.ofInt {k:IntKind}{n:Int}:a0 w aw B (.J (.int k n)) (.int k n):=.J .int
def aiF {op:BinOp}{k:IntKind}{a b:Int}{d:Data}(t:TypeId)(Q:D0 op=false)(h:Me op k a b=some d):
  ∃v,(binOp op t (.int k a) (.int k b)).run P w=.ok v w/\Den w aw d v:=by
 cases op<;>simp only[Me,bO,reduceCtorEq] at h<;>simp only[D0,Bool.true_eq_false] at Q
 case quo =>
  split at h
  ·cases h
  ·rename_i U
   cases h;exact⟨_,by simp[go_sem,Op.intDiv,U],.int⟩
 case rem =>
  split at h
  ·cases h
  ·rename_i U
   cases h;exact⟨_,by simp[go_sem,Op.intDiv,U],.int⟩
 all_goals
  subst h
  first
   |exact⟨_,by simp[go_sem,Op.intArith],.int⟩
   |exact⟨_,by simp[go_sem],.int⟩
   |exact⟨_,by simp[go_sem],.bool⟩
def aiG {op:BinOp}{k k':IntKind}{a b:Int}{d:Data}(t:TypeId)(Q:D0 op=true)(h:Mf op k a b=some d):
  ∃v,(binOp op t (.int k a) (.int k' b)).run P w=.ok v w/\Den w aw d v:=by
 unfold Mf at h
 split at h
 ·cases h
 ·rename_i U
  cases op<;>simp only[D0,cE] at Q
  ·simp only[bO] at h;subst h;exact⟨.int k _,by simp[binOp,Op.shift,U],.int⟩
  ·simp only[bO] at h;subst h;exact⟨.int k _,by simp[binOp,Op.shift,U],.int⟩
def Mt {op:BinOp}{t:TypeId}{x y:Operand}{u v:Value}(F:u ≠ .nilIface)(G:∀c,u ≠ .agg c):eqGuard op t x y u v=pure ():=by
 unfold eqGuard
 cases op<;>cases u<;>first|rfl|exact absurd rfl F|exact absurd rfl (G _)
def aiH {op:BinOp}{a b:List UInt8}{d:Data}(t:TypeId)(h:Mg op a b=some d):
  ∃v,(binOp op t (.string ⟨a.toArray⟩) (.string ⟨b.toArray⟩)).run P w=.ok v w/\Den w aw d v:=by
 have aiI:binOp op t (.string ⟨a.toArray⟩) (.string ⟨b.toArray⟩)=Op.stringOp op ⟨a.toArray⟩ ⟨b.toArray⟩:=by
  cases op<;>rfl
 rw[aiI]
 cases op<;>simp only[Mg,bO,reduceCtorEq] at h
 case add =>
  split at h
  ·rename_i ag
   cases h;refine⟨.string ⟨(a++b).toArray⟩,?_,.str⟩;have nD:¬ (9223372036854775807<(D a:Int)+(D b:Int)):=by unfold maxLen at ag;omega
   have aQ:(ByteArray.mk a.toArray).size=D a:=by simp[ByteArray.size]
   have az:(ByteArray.mk b.toArray).size=D b:=by simp[ByteArray.size]
   have xM:(ByteArray.mk a.toArray)++(ByteArray.mk b.toArray)=⟨(a++b).toArray⟩:=by
    apply ByteArray.ext;simp
   simp[Op.stringOp,aQ,az,nD,xM]
  ·cases h
 all_goals
  subst h;exact⟨_,by simp[Op.stringOp],.bool⟩
def XY {op:BinOp}{m n r:I}{u v:Value}(t:TypeId)(x y:Operand)(hm:a0 w aw B m u)(aC:a0 w aw B n v)(h:D1 op m n=some r):
  ∃z,((do eqGuard op t x y u v;binOp op t u v:Sem Value)).run P w=.ok z w/\a0 w aw B r z:=by
 unfold D1 at h
 split at h
 ·rename_i k a k' b
  cases hm.wi
  cases aC.wi
  rw[Mt (by simp) (by simp)]
  split at h
  ·rename_i Q;simp only[c4] at h;obtain⟨d,af,rfl⟩:=h;obtain⟨z,F,G⟩:=aiG (P:=P) (w:=w) (aw:=aw) (k':=k') t Q af;exact⟨z,by simpa using F,.J G⟩
  ·rename_i Q
   split at h
   ·rename_i R;subst R;simp only[c4] at h;obtain⟨d,af,rfl⟩:=h;obtain⟨z,F,G⟩:=aiF (P:=P) (w:=w) (aw:=aw) t (by simpa using Q) af;exact⟨z,by simpa using F,.J G⟩
   ·cases h
 ·rename_i a b
  cases hm.zJ
  cases aC.zJ;rw[Mt (by simp) (by simp)];simp only[c4] at h;obtain⟨d,af,rfl⟩:=h;obtain⟨z,F,G⟩:=aiH (P:=P) (w:=w) (aw:=aw) t af;exact⟨z,by simpa using F,.J G⟩
 ·cases h
def XZ {neg:Bool}{m n r:I}{u v:Value}(t:TypeId)(x y:Operand)(bN:P.underlying t=some .bool)(hm:a0 w aw B m u)(aC:a0 w aw B n v)(h:D2 neg m n=some r):
  ∃z,((do eqGuard (if neg then .neq else .eql) t x y u v;binOp (if neg then .neq else .eql) t u v:Sem Value)).run P w=.ok z w/\a0 w aw B r z:=by
 unfold D2 at h
 split at h
 ·rename_i a b
  cases hm.zI
  cases aC.zI
  cases h;rw[Mt (by simp) (by simp)]
  cases neg
  ·exact⟨.bool (a==b),by simp[run_eql_bool w t a b bN],by cases a<;>cases b<;>exact .J .bool⟩
  ·exact⟨.bool (!(a==b)),by simp[run_neq_bool w t a b bN],by cases a<;>cases b<;>exact .J .bool⟩
 ·cases h
def aiJ {t:TypeId}{k:Nat}{m n:I}{c:Bool}{u v:Value}(d:Nat)(R:uL P t=some k)(hm:a0 w aw B m u)(aC:a0 w aw B n v)(h:Mh k m n=some c):
  (Op.equalIn (d+1) t u v).run P w=.ok c w:=by
 unfold uL at R;unfold Mh at h
 split at h
 ·simp only[bO] at h
  cases hm.zI
  cases aC.zI;subst h
  split at R<;>first|(exfalso;simp at R;done)|(rename_i hu;exact run_equalIn_bool w d t _ _ hu)
 ·split at h
  ·rename_i aiK;subst aiK
   cases hm.wi
   cases aC.wi
   cases h
   split at R<;>first|(exfalso;simp at R;done)|(rename_i hu;exact run_equalIn_int w d t _ _ _ _ hu)
  ·cases h
 ·simp only[bO] at h
  cases hm.zJ
  cases aC.zJ;subst h
  split at R<;>first|(exfalso;simp at R;done)|(rename_i hu;rw[run_equalIn_string w d t _ _ hu];simp)
 ·cases h
def aiL {t:TypeId}{k:Nat}(h:uL P t=some k):(isAgg t).run P w=.ok false w:=by
 unfold uL at h
 split at h<;>simp only[bO,reduceCtorEq] at h<;>(rename_i hu;simp[isAgg,run_underlying hu])
def X0 {d:Nat}{xs ys:Array Value}{cs ds:List I}(L:∀(i:Nat) (m:I) (v:Value),cs[i]?=some m->xs[i]?=some v->a0 w aw B m v)(q5:xs.size=D cs)
  (ak:∀(i:Nat) (m:I) (v:Value),ds[i]?=some m->ys[i]?=some v->a0 w aw B m v) (Rk:ys.size=D ds) :
  ∀(dB:List Field) (i:Nat) (gG:List Nat) (c:Bool),Ec P i dB=some gG->zC gG (cs.drop i) (ds.drop i)=some c->(Op.eqFields (d+1) xs ys dB).run P w=.ok c w
 | [],i,gG,c,al,Y=>by
  simp[Ec] at al;subst al
  cases F:cs.drop i<;>cases G:ds.drop i<;>simp[F,G,zC] at Y;subst Y;simp[Op.eqFields]
 |f::r,i,gG,c,al,Y=>by
  simp only[Ec] at al
  split at al
  ·rename_i aC;obtain⟨uN,qi⟩:=aC
   split at al
   ·rename_i k aiM R uO
    cases al
    cases F:cs.drop i with
    |nil=>simp[F,zC] at Y
    |cons a x =>
     cases G:ds.drop i with
     |nil=>simp[F,G,zC] at Y
     |cons b y =>
      rw[F,G] at Y;simp only[zC] at Y
      split at Y
      ·rename_i ck dC iw mO
       cases Y
       have zK:i<D cs:=by
        rcases gY i (D cs) with h|h
        ·exact h
        ·rw[lj h] at F;cases F
       have xN:i<D ds:=by
        rcases gY i (D ds) with h|h
        ·exact h
        ·rw[lj h] at G;cases G
       rw[gx zK] at F;rw[gx xN] at G
       injection F with bc aiN
       injection G with U aiO
       subst bc;subst U;subst aiN;subst aiO
       have ex:xs[f.offset]?=some (xs[i]'(by omega)):=by rw[qi];exact Array.getElem?_eq_getElem (by omega)
       have xO:ys[f.offset]?=some (ys[i]'(by omega)):=by rw[qi];exact Array.getElem?_eq_getElem (by omega)
       have rx:=L i _ _ (bf zK) (Array.getElem?_eq_getElem (by omega:i<xs.size));have aiP:=ak i _ _ (bf xN) (Array.getElem?_eq_getElem (by omega:i<ys.size));have he:=aiJ (P:=P) d R rx aiP iw;have a4:=X0 (d:=d) L q5 ak Rk r (i+1) aiM dC uO mO;have aiQ:(isAgg f.type).run P w=.ok false w:=aiL R;simp only[Op.eqFields,uN,ne_eq,not_false_eq_true,if_true,Sem.run_bind,part,aiQ,Result.andThen_ok,cE,if_false,ex,xO,Sem.run_pure,he]
       cases ck
       ·simp
       ·simp[a4]
      ·cases Y
   ·cases al
  ·cases al
def X1 {m:I}{v:Value}(h:a0 w aw B m v)(F:m.one=true):v.oneCell'=true:=by
 cases h with
 |J af=>cases af<;>first|rfl|simp[I.one] at F
 |nil=>rfl
 |ref he aN ao=>obtain⟨a,cap,rfl,_⟩:=ao;rfl
 |ptr he aN ao=>obtain⟨b,rfl,_⟩:=ao;rfl
 |hC he aN ao=>obtain⟨b,rfl,_⟩:=ao;rfl
 |ef ag af=>rfl
 |agg ag af=>simp[I.one] at F
 |dq ag af=>simp[I.one] at F
 |no=>simp[I.one] at F
 |undef=>simp[I.one] at F
def aiR {v:Value}(h:∀c,v ≠ .agg c):v.cells=#[v]:=by
 unfold Value.cells
 split
 ·rename_i cs;exact absurd rfl (h cs)
 ·rfl
def aiS {m:I}{v:Value}(h:a0 w aw B m v)(hu:m ≠ .undef):v.cells.size=D m.cells/\∀(i:Nat) (c:I) (u:Value),m.cells[i]?=some c->v.cells[i]?=some u->a0 w aw B c u:=by
 have one:(∀c,v ≠ .agg c)->m.cells=[m]->v.cells.size=D m.cells/\∀(i:Nat) (c:I) (u:Value),m.cells[i]?=some c->v.cells[i]?=some u->a0 w aw B c u:=by
  intro ao hm;rw[hm,aiR ao];refine⟨rfl,λi c u Y hu=>?_⟩
  cases i with
  |zero=>simp at Y hu;subst Y;subst hu;exact h
  |succ i=>simp at Y
 cases h with
 |J af =>
  cases af with
  |agg ag af =>
   refine⟨by simp[Value.cells,I.cells];exact ag,λi c u Y hu=>?_⟩
   simp only[I.cells,bg,c4] at Y;obtain⟨d,mP,rfl⟩:=Y;exact .J (af i d u mP (by simpa [Value.cells] using hu))
  |_=>exact one (by simp) rfl
 |nil=>exact one (by simp) rfl
 |ref he aN ao=>obtain⟨a,cap,rfl,_⟩:=ao;exact one (by simp) rfl
 |ptr he aN ao=>obtain⟨b,rfl,_⟩:=ao;exact one (by simp) rfl
 |hC he aN ao=>obtain⟨b,rfl,_⟩:=ao;exact one (by simp) rfl
 |ef ag af=>exact one (by simp) rfl
 |agg ag af =>
  refine⟨by simp[Value.cells,I.cells];exact ag,λi c u Y hu=>af i c u (by simpa [I.cells] using Y) (by simpa [Value.cells] using hu)⟩
 |dq ag af=>exact one (by simp) rfl
 |no=>exact one (by simp[undef]) rfl
 |undef=>exact absurd rfl hu
end
section
variable {P:Program} {w:World} {aw:Nat->Prop} {B:cU}
def cC (w:World)(aw:Nat->Prop)(B:cU)(cs:List I)(vs:List Value):Prop :=
 (D vs)=D cs/\∀(i:Nat) (m:I) (v:Value),cs[i]?=some m->vs[i]?=some v->a0 w aw B m v
def cC.get {cs:List I}{vs:List Value}(h:cC w aw B cs vs){i:Nat}{m:I}(ab:cs[i]?=some m):∃v,vs[i]?=some v/\a0 w aw B m v:=by
 have ag:i<D cs:=(dL.1 ab).1;have ao:vs[i]?=some (vs[i]'(by rw[h.1];exact ag)):=bf _;exact⟨_,ao,h.2 i m _ ab ao⟩
def cC.nil:cC w aw B [] []:=⟨rfl,λi m v h=>by simp at h⟩
def cC.cons {m:I}{v:Value}{cs:List I}{vs:List Value}(h:a0 w aw B m v)(M:cC w aw B cs vs):cC w aw B (m::cs) (v::vs):=by
 refine⟨by simp[M.1],λi m' pA F G=>?_⟩
 cases i with
 |zero=>simp at F G;subst F;subst G;exact h
 |succ i=>exact M.2 i m' pA (by simpa using F) (by simpa using G)
def cC.append {a b:List I}{x y:List Value}(h:cC w aw B a x)(cI:cC w aw B b y):cC w aw B (a++b) (x++y):=by
 refine⟨by simp[h.1,cI.1],λi m v F G=>?_⟩
 rw[Ed] at F G
 split at F
 ·rename_i ab;rw[aL (by rw[h.1];exact ab)] at G;exact h.2 i m v F G
 ·rename_i ab;rw[aT (by rw[h.1];exact ab),h.1] at G;exact cI.2 _ m v F G
def cC.drop {a:List I}{x:List Value}(h:cC w aw B a x)(n:Nat):cC w aw B (a.drop n) (x.drop n) :=
 ⟨by simp[h.1],λi m v F G=>h.2 (n+i) m v (by simpa using F) (by simpa using G)⟩
def cC.take {a:List I}{x:List Value}(h:cC w aw B a x)(n:Nat):cC w aw B (a.take n) (x.take n):=by
 refine⟨by simp[h.1],λi m v F G=>?_⟩
 rw[xP] at F G
 split at F
 ·rename_i ab;rw[aL ab] at G;exact h.2 i m v F G
 ·cases F
def cC.kv {a b:List I}{x y:List Value}(h:cC w aw B a x)(cI:cC w aw B b y)(off:Nat):
  cC w aw B (kv a off b) (x.take off++y++x.drop (off+D y)):=by
 unfold Mini.kv;rw[cI.1];exact ((h.take off).append cI).append (h.drop _)
def cC.Rl {m:I}{v:Value}(h:a0 w aw B m v)(hu:m ≠ .undef):cC w aw B m.cells v.cells.toList:=by
 obtain⟨F,G⟩:=aiS h hu;exact⟨by simpa using F,λi c u Y ao=>G i c u Y (by simpa using ao)⟩
def cC.J {ds:List Data}{vs:List Value}(ag:(D vs)=D ds)(h:∀(i:Nat) (d:Data) (v:Value),ds[i]?=some d->vs[i]?=some v->Den w aw d v):cC w aw B (ds.map .J) vs:=by
 refine⟨by simp[ag],λi m v F G=>?_⟩
 simp only[bg,c4] at F;obtain⟨d,af,rfl⟩:=F;exact .J (h i d v af G)
def Ee {cs:List I}{off n:Nat}{r:List I}(h:cut cs off n=some r):off+n<=D cs/\r=(cs.drop off).take n/\D r=n:=by
 unfold cut at h
 split at h
 ·rename_i ag
  cases h;exact⟨ag,rfl,by simp;omega⟩
 ·cases h
def mQ (w:World)(b off:Nat)(vs:List Value):Prop:=∀(j:Nat) (u:Value),vs[j]?=some u->w.cell? ⟨b,off+j,none⟩=some u
def mQ.add {w:World}{b off:Nat}{vs:List Value}(h:mQ w b off vs)(n:Nat):mQ w b (off+n) (vs.drop n):=λj u aa=>by
 have:=h (n+j) u (by simpa using aa);rwa [<-r0] at this
def mQ.take {w:World}{b off:Nat}{vs:List Value}(h:mQ w b off vs)(n:Nat):mQ w b off (vs.take n):=λj u aa=>by
 rw[xP] at aa
 split at aa
 ·exact h j u aa
 ·cases aa
def mQ.row {w:World}{b:Nat}{vs:Array Value}{T:TypeId}{fZ:Nat×Nat}(h:w.heap[b]?=some (.cells vs T fZ)):mQ w b 0 vs.toList:=λj u aa=>by
 rw[r1,cell_of_row w b j vs T fZ h]
 simpa using aa
def xQ (b off n:Nat):(⟨b,off,none⟩:Addr).add n=⟨b,off+n,none⟩:=by
 unfold Addr.add
 split<;>simp_all
def mQ.load {b off:Nat}{vs:List Value}(h:mQ w b off vs):(loadCells ⟨b,off,none⟩ (D vs)).run P w=.ok vs.toArray w :=
 run_loadCells_list w _ vs λj v aa=>by rw[xQ];exact h j v aa
def r2 {t:TypeId}{n:Nat}(h:fH P t=some n):(sizeOf t).run P w=.ok n w:=by
 simp only[fH,c4] at h;obtain⟨i,ab,rfl⟩:=h;simp[sizeOf,typeInfo,ab]
def Mu {t:TypeId}{g:Bool}(h:ts P t=some g):(isAgg t).run P w=.ok g w:=by
 simp only[ts,c4] at h;obtain⟨d,af,rfl⟩:=h;simp only[isAgg,Sem.run_bind,run_underlying af,Result.andThen_ok]
 cases d<;>rfl
def Rm {t:TypeId}{n:Nat}{bJ:Bool}{b off:Nat}{ms:List I}{vs:List Value}{r:I}(Q:fH P t=some n)(bc:ts P t=some bJ)(ag:(D ms)=n)
  (b9:cC w aw B ms vs) (ha:mQ w b off vs) (h:oF bJ ms=some r):∃u,(loadVar t ⟨b,off,none⟩).run P w=.ok u w/\a0 w aw B r u:=by
 unfold oF at h
 split at h
 ·rename_i uP
  cases h;subst uP;refine⟨.agg vs.toArray,?_,.agg b9.1 b9.2⟩;have:=ha.load (P:=P);rw[b9.1,ag] at this;simp[loadVar,Mu bc,r2 Q,this]
 ·rename_i uP
  split at h
  ·cases h;obtain⟨u,hu,M⟩:=b9.get (i:=0) (m:=r) rfl;have:=ha 0 u hu;have Rn:bJ=false:=by simpa using uP
   subst Rn;exact⟨u,by simp[loadVar,Mu bc,this];simpa using by rw[show off=off+0 from rfl,this],M⟩
  ·cases h
end
section
variable {P:Program} {A:Nat->Prop} {w:World} {B:cU} {mem:Mem}
def dQ.at_ (h:dQ A w B mem){k:Key}{g:Nat}{cs:List I}(R:mem k=some (g,cs)):
  ∃e,B k=some e/\e.g=g/\(e.dk=none->cs=[])/\∀b,e.dk=some b->e.mp=false->∃(vs:Array Value) (T:TypeId),w.heap[b]?=some (.cells vs T (0,0))/\vs.size=e.size/\D cs<=vs.size /\
   cC w (bp A B) B cs (vs.toList.take (D cs)):=by
 obtain⟨e,he,aN,aC,U⟩:=h.dk k g cs R;refine⟨e,he,aN,aC,λb fW hF=>?_⟩;obtain⟨vs,T,F,G,ad,aZ⟩:=(U b fW).cells hF;refine⟨vs,T,F,G,ad,by simp;omega,λi m v hm ao=>?_⟩
 obtain⟨u,hu,M⟩:=aZ i m hm;rw[xP] at ao
 split at ao
 ·rw[Array.getElem?_toList,hu] at ao
  cases ao;exact M
 ·cases ao
def X2 {n:Nat}{bJ:Bool}{m r:I}{v:Value}(bk:dQ A w B mem)(ao:a0 w (bp A B) B m v)(h:iW mem n bJ m=some r):
  ∃b off ms vs,v=.pointer (some ⟨b,off,none⟩)/\D ms=n/\cC w (bp A B) B ms vs/\mQ w b off vs/\oF bJ ms=some r:=by
 unfold iW at h
 split at h
 ·rename_i k g off
  split at h
  ·rename_i cx cs R
   split at h
   ·rename_i aN;subst aN;simp only[dI] at h;obtain⟨ms,aF,M⟩:=h;obtain⟨ag,rfl,aC⟩:=Ee aF;obtain⟨e,he,bD,Mv,U⟩:=bk.at_ R
    cases ao with
    |ptr eL xK kR =>
     rw[he] at eL
     cases eL;obtain⟨b,rfl,fW⟩:=kR;obtain⟨fW,hF⟩:=fW bD.symm;obtain⟨vs,T,bm,a2,hle,b9⟩:=U b fW hF;refine⟨b,off,_,((vs.toList.take (D cs)).drop off).take n,rfl,aC,(b9.drop off).take n,?_,M⟩;have:=(((mQ.row bm).take (D cs)).add off).take n
     simpa using this
   ·cases h
  ·cases h
 ·rename_i ds;simp only[dI] at h;obtain⟨ms,aF,M⟩:=h;obtain⟨ag,rfl,aC⟩:=Ee aF
  cases ao with
  |J af =>
   cases af with
   | @ptr cs b off val U e9 Y af =>
    refine⟨b,off,_,((qj (D ds)).map val).take n,rfl,aC,?_,?_,M⟩
    ·have:cC w (bp A B) B (ds.map .J) ((qj (D ds)).map val):=cC.J (by simp) λi d v F G=>by
      have ab:i<D ds:=(dL.1 F).1;simp[ab] at G;subst G;exact af i d F
     simpa using this.take n
    ·refine mQ.take (λj u aa=>?_) n;simp only[bg,c4] at aa;obtain⟨iI,kf,rfl⟩:=aa
     have F:iI=j/\j<D ds:=by
      rcases gY j (D ds) with h|h
      ·rw[r3 h] at kf;exact⟨by simpa using kf.symm,h⟩
      ·rw[lk (by simpa using h)] at kf
       cases kf
     obtain⟨rfl,hk⟩:=F;exact Y iI hk
 ·cases h
def aiT {t:TypeId}{n:Nat}{bJ:Bool}{m r:I}{v:Value}(Q:fH P t=some n)(bc:ts P t=some bJ)(bk:dQ A w B mem)(ao:a0 w (bp A B) B m v)(h:iW mem n bJ m=some r):
  ∃u,(Instr.loadAt t v).run P w=.ok u w/\a0 w (bp A B) B r u:=by
 obtain⟨b,off,ms,vs,rfl,ag,b9,ha,M⟩:=X2 bk ao h;obtain⟨u,F,G⟩:=Rm (P:=P) Q bc ag b9 ha M;exact⟨u,by simpa [Instr.loadAt,Instr.sureAddr] using F,G⟩
end
section
variable {P:Program} {w:World} {aw:Nat->Prop} {B:cU}
def X3 {m:I}{cs:List I}{v:Value}(h:Bl m=some cs)(ao:a0 w aw B m v):∃vs:List Value,v=.agg vs.toArray/\cC w aw B cs vs:=by
 unfold Bl at h
 split at h
 ·cases h
  cases ao with
  |agg ag af=>exact⟨_,rfl,ag,af⟩
 ·cases h
  cases ao with
  |J af =>
   cases af with
   |agg ag af=>exact⟨_,rfl,cC.J ag af⟩
 ·cases h
def X4 {neg:Bool}{gG:List Nat}{m n r:I}{u v:Value}(t:TypeId)(x y:Operand)(dB:Array Field)(hu:P.underlying t=some (.struct dB))(Q:P.stoodInHeld t=false)
  (aN:P.eqGuardType P.depth t=false) (R:Ec P 0 dB.toList=some gG) (hm:a0 w aw B m u) (aC:a0 w aw B n v) (h:Hn neg gG m n=some r) :
  ∃z,((do eqGuard (if neg then .neq else .eql) t x y u v;binOp (if neg then .neq else .eql) t u v:Sem Value)).run P w=.ok z w/\a0 w aw B r z:=by
 unfold Hn at h
 split at h
 ·rename_i cs ds iJ fE
  split at h
  ·rename_i c Y
   cases h;obtain⟨xs,rfl,L⟩:=X3 iJ hm;obtain⟨ys,rfl,ak⟩:=X3 fE aC;have xR:P.fieldsOf t=dB:=by simp[Program.fieldsOf,hu]
   have he:=run_equalIn_struct (P:=P) w 9999 t xs.toArray ys.toArray (by rw[xR];exact hu) Q;rw[xR] at he
   have al:=X0 (P:=P) (w:=w) (aw:=aw) (B:=B) (d:=9998) (xs:=xs.toArray) (ys:=ys.toArray) (cs:=cs) (ds:=ds)
    (λi m v F G=>L.2 i m v F (by simpa using G)) (by simpa using L.1) (λi m v F G=>ak.2 i m v F (by simpa using G)) (by simpa using ak.1) dB.toList 0 gG c R (by simpa using Y)
   have heq:(Op.equal t (.agg xs.toArray) (.agg ys.toArray)).run P w=.ok c w:=by
    show (Op.equalIn (9999+1) t _ _).run P w=_;rw[he];exact al
   have qk:∀op,(op=BinOp.eql\/op=.neq)->(eqGuard op t x y (.agg xs.toArray) (.agg ys.toArray)).run P w=.ok () w:=by
    intro op e5;rcases e5 with rfl|rfl<;>simp[eqGuard,aN]
   refine⟨.bool (neg != c),?_,.J .bool⟩
   cases neg
   ·simp only[cE,if_false,Sem.run_bind,qk _ (.inl rfl),Result.andThen_ok];show (do pure (Value.bool (<-Op.equal t (.agg xs.toArray) (.agg ys.toArray))):Sem Value).run P w=_
    simp[heq]
   ·simp only[if_true,Sem.run_bind,qk _ (.inr rfl),Result.andThen_ok];show (do pure (Value.bool (!(<-Op.equal t (.agg xs.toArray) (.agg ys.toArray)))):Sem Value).run P w=_
    simp[heq]
  ·cases h
 ·cases h
def aiU {c a b r:I}{X5 tw q6:Value}(Y:a0 w aw B c X5)(bc:a0 w aw B a tw)(U:a0 w aw B b q6)(h:D3 c a b=some r):
  ∃z,(do pure (if <-asBool X5 then tw else q6):Sem Value).run P w=.ok z w/\a0 w aw B r z:=by
 unfold D3 at h
 split at h
 ·rename_i t
  cases Y.zI
  cases t
  ·cases h;exact⟨q6,by simp[asBool],U⟩
  ·cases h;exact⟨tw,by simp[asBool],bc⟩
 ·cases h
def aiV {op:UnOp}{m r:I}{v:Value}(hm:a0 w aw B m v)(h:Hl op m=some r):∃z,(Op.unary op v).run P w=.ok z w/\a0 w aw B r z:=by
 unfold Hl at h
 split at h
 ·cases h;cases hm.wi;exact⟨_,by simp[Op.unary,Op.intArith],.J .int⟩
 ·cases h;cases hm.wi;exact⟨_,by simp[Op.unary,go_sem],.J .int⟩
 ·cases h;cases hm.zI;exact⟨_,by simp[Op.unary],.J .bool⟩
 ·cases h
def aiW {k:IntKind}{m r:I}{v:Value}(s t:TypeId)(gG:IntKind)(Q:P.underlying s=some (.int gG))(bN:P.underlying t=some (.int k))(hm:a0 w aw B m v)(h:Ho k m=some r):
  ∃z,(convert s t v).run P w=.ok z w/\a0 w aw B r z:=by
 unfold Ho at h
 split at h
 ·cases h
  cases hm.wi
  have ab:P.intKind t=k:=by simp[Program.intKind,bN]
  have:=run_convert_int (P:=P) w s t;exact⟨.int k _,by simp[convert,run_underlying Q,run_underlying bN,Conv.intToInt],.J .int⟩
 ·cases h
def aiX {off:Nat}{m r:I}{v:Value}(t:TypeId)(f:Nat)(dB:Array Field)(fd:Field)(s:Nat)(hu:P.underlying t=some (.struct dB))(al:dB[f]?=some fd)(Q:fH P fd.type=some s)(au:0<s)
  (a6:fd.offset=off) (hm:a0 w aw B m v) (h:D4 off m=some r):∃z,(Instr.fieldAt t v f).run P w=.ok z w/\a0 w aw B r z:=by
 have bq:¬ s=0:=by omega
 have run:∀b o,(Instr.fieldAt t (.pointer (some ⟨b,o,none⟩)) f).run P w=.ok (.pointer (some ⟨b,o+off,none⟩)) w:=by
  intro b o;simp[Instr.fieldAt,run_underlying hu,al,Instr.sureAddr,fieldPlace,r2 Q,bq,xQ,a6]
 unfold D4 at h
 split at h
 ·cases h;rename_i k g o
  cases hm with
  |ptr he aN ao =>
   obtain⟨b,rfl,U⟩:=ao;exact⟨_,run b o,.ptr he aN ⟨b,rfl,U⟩⟩
 ·rename_i ds
  split at h
  ·rename_i ag
   cases h
   cases hm with
   |J af =>
    cases af with
    | @ptr cs b o val U e9 Y af =>
     refine⟨_,run b o,.J (.ptr (λi=>val (off+i)) U e9 (λi ab=>?_) λi d ng=>af _ d (by simpa using ng))⟩;have:=Y (off+i) (by simp at ab;omega);rwa [<-r0] at this
  ·cases h
 ·cases h
def X6 {t:TypeId}{n off:Nat}{bJ:Bool}{cs ms:List I}{vs:List Value}{r:I}(Q:fH P t=some n)(bc:ts P t=some bJ)(b9:cC w aw B cs vs)(Y:cut cs off n=some ms)(h:oF bJ ms=some r):
  ∃u,(part t vs.toArray off).run P w=.ok u w/\a0 w aw B r u:=by
 obtain⟨ag,rfl,aC⟩:=Ee Y;have aW:=(b9.drop off).take n;unfold oF at h
 split at h
 ·rename_i uP
  cases h;subst uP;refine⟨.agg ((vs.drop off).take n).toArray,?_,.agg aW.1 aW.2⟩
  have e:vs.toArray.extract off (off+n)=((vs.drop off).take n).toArray:=by
   simp[List.extract_eq_take_drop]
  simp[part,Mu bc,r2 Q,e]
 ·rename_i uP;have Rn:bJ=false:=by simpa using uP
  subst Rn
  split at h
  ·rename_i m aF
   cases h
   have ab:cs[off]?=some r:=by
    have:=congrArg (λl=>l[0]?) aF;simp[xP] at this;exact this.2
   obtain⟨u,hu,aiY⟩:=b9.get ab;exact⟨u,by simp[part,Mu bc,hu],aiY⟩
  ·cases h
def aiZ {off n:Nat}{bJ:Bool}{m r:I}{v:Value}(t:TypeId)(f:Nat)(dB:Array Field)(fd:Field)(hu:P.underlying t=some (.struct dB))(al:dB[f]?=some fd)(Q:fH P fd.type=some n)
  (bc:ts P fd.type=some bJ) (a6:fd.offset=off) (hm:a0 w aw B m v) (h:D5 off n bJ m=some r):∃z,(Instr.field t v f).run P w=.ok z w/\a0 w aw B r z:=by
 subst a6
 have go:∀(cs:List I) (vs:List Value),cC w aw B cs vs->(cut cs fd.offset n).bind (oF bJ)=some r->∃z,(Instr.field t (.agg vs.toArray) f).run P w=.ok z w/\a0 w aw B r z:=by
  intro cs vs b9 bm;simp only[dI] at bm;obtain⟨ms,F,G⟩:=bm;obtain⟨u,ad,aZ⟩:=X6 (P:=P) Q bc b9 F G;exact⟨u,by simp[Instr.field,run_underlying hu,al,asAgg,ad],aZ⟩
 unfold D5 at h
 split at h
 ·cases hm with
  |agg ag af=>exact go _ _ ⟨ag,af⟩ h
 ·cases hm with
  |J af =>
   cases af with
   |agg ag af=>exact go _ _ (cC.J ag af) h
 ·cases h
def Bo {m:I}{n:Nat}{v:Value}(h:idx m=some n)(ao:a0 w aw B m v):∃k,v=.int k (n:Int):=by
 unfold idx at h
 split at h
 ·rename_i k i
  split at h
  ·rename_i au
   cases h
   cases ao.wi
   exact⟨k,by rw[Int.toNat_of_nonneg au]⟩
  ·cases h
 ·cases h
def DV.at_ {e:hv}{g sz off len:Nat}{v:Value}(h:DV e g sz off len v)(au:0<len):∃b cap,v=.slice (some ⟨b,off,none⟩) len cap/\len<=cap/\cap<=maxLen/\(g=e.g->e.dk=some b/\off+cap*sz<=e.size/\e.mp=false):=by
 obtain⟨a,cap,rfl,G,ad,aZ⟩:=h;rcases aZ with aZ|⟨b,rfl,bw⟩
 ·omega
 ·exact⟨b,cap,rfl,G,ad,bw⟩
def ai0 {es:List (List Data)}{sz:Nat}(ec:∀e∈es,D e=sz):∀(n i:Nat) (e:List Data),es[n]?=some e->i<sz->es.flatten[n*sz+i]?=e[i]?:=by
 induction es with
 |nil=>intro n i e h;simp at h
 |cons a r a4 =>
  intro n i e h ab;have bc:=ec a (by simp)
  cases n with
  |zero =>
   simp at h;subst h;rw[mg,uQ (by omega)];simp
  |succ n =>
   rw[mg,r4 (by rw[bc,Ef];omega)];have:=a4 (λx L=>ec x (by simp[L])) n i e (by simpa using h) ab;rw[<-this,bc]
   congr 1
   rw[Ef];omega
def ai1 {sz n:Nat}{m r:I}{v:Value}{k:IntKind}(t e:TypeId)(hu:P.underlying t=some (.slice e))(Q:fH P e=some sz)(hm:a0 w aw B m v)(h:Hq sz n m=some r):
  ∃z,(Instr.indexAt t v (.int k (n:Int))).run P w=.ok z w/\a0 w aw B r z:=by
 have run:∀b off len cap,n<len->(Instr.indexAt t (.slice (some ⟨b,off,none⟩) len cap) (.int k (n:Int))).run P w=.ok (.pointer (some ⟨b,off+n*sz,none⟩)) w:=by
  intro b off len cap aq;simp[Instr.indexAt,run_underlying hu,asIntOf,aq,r2 Q,xQ]
 unfold Hq at h
 split at h
 ·split at h
  ·rename_i ag;obtain⟨aq,rfl⟩:=ag
   cases h
   cases hm with
   |ref he aN ao =>
    obtain⟨b,cap,rfl,F,G,ad⟩:=ao.at_ (by omega);exact⟨_,run _ _ _ _ aq,.ptr he aN ⟨b,rfl,λh=>⟨(ad h).1,(ad h).2.2⟩⟩⟩
  ·cases h
 ·rename_i es
  split at h
  ·rename_i el kx
   split at h
   ·rename_i hle
    cases h
    cases hm with
    |J af =>
     have aq:n<D es:=(dL.1 kx).1
     cases af with
     |kP=>simp at aq
     | @ar es b off c eh val ag Mw U e9 ec Y af =>
      have HL:eh=sz:=by rw[<-hle];exact (ec _ (cL kx)).symm
      subst HL
      have hmul:n*eh+eh<=D es*eh:=by
       have:(n+1)*eh<=D es*eh:=q7 _ aq;rwa [pw,Hi] at this
      refine⟨_,run _ _ _ _ aq,.J (.ptr (λi=>val (n*eh+i)) U e9 (λi ab=>?_) λi d ng=>?_)⟩
      ·have:=Y (n*eh+i) (by omega);rwa [<-r0] at this
      ·refine af _ d ?_;rw[ai0 ec n i el kx (by have:=(dL.1 ng).1;omega)];exact ng
   ·cases h
  ·cases h
 ·cases h
def ai2 {len sz n:Nat}{m r:I}{v:Value}{k:IntKind}(t e:TypeId)(hu:P.underlying t=some (.array len e))(Q:fH P e=some sz)(hm:a0 w aw B m v)(h:Hr len sz n m=some r):
  ∃z,(Instr.indexAt t v (.int k (n:Int))).run P w=.ok z w/\a0 w aw B r z:=by
 have run:∀b off,n<len->(Instr.indexAt t (.pointer (some ⟨b,off,none⟩)) (.int k (n:Int))).run P w=.ok (.pointer (some ⟨b,off+n*sz,none⟩)) w:=by
  intro b off aq;simp[Instr.indexAt,run_underlying hu,asIntOf,Instr.sureAddr,aq,r2 Q,xQ]
 unfold Hr at h
 split at h
 ·split at h
  ·rename_i aq
   cases h
   cases hm with
   |ptr he aN ao =>
    obtain⟨b,rfl,U⟩:=ao;exact⟨_,run _ _ aq,.ptr he aN ⟨b,rfl,U⟩⟩
  ·cases h
 ·rename_i ds
  split at h
  ·rename_i ag;obtain⟨aq,hle⟩:=ag
   cases h
   cases hm with
   |J af =>
    cases af with
    | @ptr cs b o val U e9 Y af =>
     refine⟨_,run _ _ aq,.J (.ptr (λi=>val (n*sz+i)) U e9 (λi ab=>?_) λi d ng=>af _ d (by simpa using ng))⟩;have:=Y (n*sz+i) (by simp at ab;omega);rwa [<-r0] at this
  ·cases h
 ·cases h
def ai3 {n:Nat}{m r:I}{v:Value}{k:IntKind}(t:TypeId)(hu:P.underlying t=some .string)(hm:a0 w aw B m v)(h:Hs n m=some r):
  ∃z,(Instr.index t v (.int k (n:Int))).run P w=.ok z w/\a0 w aw B r z:=by
 unfold Hs at h
 split at h
 ·rename_i s;simp only[c4] at h;obtain⟨b,U,rfl⟩:=h
  cases hm.zJ;have aq:n<D s:=(dL.1 U).1
  have e:(ByteArray.mk s.toArray)[n]?=some b:=by
   rw[ByteArray.getElem?_lt' _ _ (by simpa [ByteArray.size] using aq)];have:=(dL.1 U).2;simp only[bO];rw[<-this]
   rfl
  exact⟨.int .u8 b.toNat,by simp[Instr.index,run_underlying hu,asIntOf,e],.J .int⟩
 ·cases h
def ai4 {i:Nat}{m r:I}{v:Value}(hm:a0 w aw B m v)(h:Hw i m=some r):∃z,(Instr.extract v i).run P w=.ok z w/\a0 w aw B r z:=by
 unfold Hw at h
 split at h
 ·cases hm with
  |dq ag af =>
   obtain⟨u,hu,M⟩:=cC.get ⟨ag,af⟩ h;exact⟨u,by simp[Instr.extract,hu],M⟩
 ·simp only[c4] at h;obtain⟨d,mP,rfl⟩:=h
  cases hm with
  |J af =>
   cases af with
   |dq ag af =>
    obtain⟨u,hu,M⟩:=cC.get (cC.J ag af) (i:=i) (m:=.J d) (by simp[mP]);exact⟨u,by simp[Instr.extract,hu],M⟩
 ·cases h
def ai5 {m:I}{n:Nat}{v:Value}(t ty e:TypeId)(bN:P.underlying t=some (.slice e))(hm:a0 w aw B m v)(h:tp m=some n):
  (Builtin.len_ #[t] ty #[v]).run P w=.ok (.int .i64 n) w:=by
 have run:∀a c,(Builtin.len_ #[t] ty #[.slice a n c]).run P w=.ok (.int .i64 n) w:=λa c=>by
  simp[Builtin.len_,run_underlying bN,goInt]
 unfold tp at h
 split at h<;>cases h
 ·cases hm with
  |J af =>
   cases af with
   |kP=>exact run _ _
   |ar=>exact run _ _
 ·cases hm with
  |nil=>exact run _ _
 ·cases hm with
  |ref he aN ao=>obtain⟨a,cap,rfl,_⟩:=ao;exact run _ _
def ai6 {m:I}{n:Nat}{v:Value}(t ty:TypeId)(bN:P.underlying t=some .string)(hm:a0 w aw B m v)(h:xF m=some n):
  (Builtin.len_ #[t] ty #[v]).run P w=.ok (.int .i64 n) w:=by
 unfold xF at h
 split at h<;>cases h
 rename_i s
 cases hm.zJ;have e:(ByteArray.mk s.toArray).size=D s:=by simp[ByteArray.size]
 simp[Builtin.len_,run_underlying bN,goInt,e]
def X7 {jM:Bool}{m n r:I}{u v:Value}(r5:Array TypeId)(t:TypeId)(hm:a0 w aw B m u)(aC:a0 w aw B n v)(h:Hx jM m n=some r):
  ∃z,(if jM=true then Builtin.max_ r5 t #[u,v] else Builtin.min_ r5 t #[u,v]).run P w=.ok z w/\a0 w aw B r z:=by
 unfold Hx at h
 split at h
 ·split at h
  ·rename_i R;subst R
   cases h
   cases hm.wi
   cases aC.wi
   cases jM
   ·exact⟨_,by simp[run_min_int2],.J .int⟩
   ·exact⟨_,by simp[run_max_int2],.J .int⟩
  ·cases h
 ·cases h
def ai7 {m r:I}{v:Value}(hm:a0 w aw B m v)(h:Hp m=some r):(∃b off,v=.pointer (some ⟨b,off,none⟩))/\a0 w aw B r v:=by
 unfold Hp at h
 split at h
 ·cases h;refine⟨?_,hm⟩
  cases hm with
  |ptr he aN ao=>obtain⟨b,rfl,_⟩:=ao;exact⟨_,_,rfl⟩
 ·cases h;refine⟨?_,hm⟩
  cases hm with
  |J af=>cases af;exact⟨_,_,rfl⟩
 ·cases h
def Eg {x:I}{n y:Nat}{v:Value}(code:BoundsCode)(L:idx x=some n)(ao:a0 w aw B x v)(aC:n<=y):(Instr.sliceBound v y code).run P w=.ok n w:=by
 obtain⟨k,rfl⟩:=Bo L ao
 simpa using run_sliceBound (P:=P) w k (n:Int) y code (by omega) (by omega)
def ql (w:World)(aw:Nat->Prop)(B:cU):Option I->Option Value->Prop
 |none,none=>True
 |some m,some v=>a0 w aw B m v
 |_,_=>False
def Ro {len cap l h:Nat}{b8 ab:Option I}{ky kz:Option Value}(Rp:Bool)(gb:jx 0 b8=some l)(kS:jx len ab=some h)
  (mj:ql w aw B b8 ky) (ll:ql w aw B ab kz) (ag:l<=h) (bm:h<=cap):(Instr.sliceBounds Rp len cap ky kz none).run P w=.ok (l,h,cap) w:=by
 unfold Instr.sliceBounds
 cases b8 with
 |none =>
  cases ky with
  |some v=>exact mj.elim
  |none =>
   simp[jx] at gb;subst gb
   cases ab with
   |none =>
    cases kz with
    |some v=>exact ll.elim
    |none=>simp[jx] at kS;subst kS;simp
   |some m =>
    cases kz with
    |none=>exact ll.elim
    |some v =>
     have az:=λcode=>Eg (P:=P) (y:=cap) code kS ll bm
     cases Rp<;>simp[az]
 |some ml =>
  cases ky with
  |none=>exact mj.elim
  |some a9 =>
   have aQ:=λcode=>Eg (P:=P) (y:=h) code gb mj ag
   cases ab with
   |none =>
    cases kz with
    |some v=>exact ll.elim
    |none=>simp[jx] at kS;subst kS;simp[aQ]
   |some m =>
    cases kz with
    |none=>exact ll.elim
    |some v =>
     have az:=λcode=>Eg (P:=P) (y:=cap) code kS ll bm
     cases Rp<;>simp[aQ,az]
def ai8 {len cap l h m:Nat}{b8:Option I}{ab jM:I}{ky:Option Value}{kz xS:Value}(gb:jx 0 b8=some l)(kS:idx ab=some h)(gZ:idx jM=some m)
  (mj:ql w aw B b8 ky) (ll:a0 w aw B ab kz) (Eh:a0 w aw B jM xS) (ag:l<=h) (bm:h<=m) (hm:m<=cap):(Instr.sliceBounds true len cap ky (some kz) (some xS)).run P w=.ok (l,h,m) w:=by
 have fI:=Eg (P:=P) (y:=cap) .slice3Acap gZ Eh hm;have az:=Eg (P:=P) (y:=m) .slice3B kS ll bm;unfold Instr.sliceBounds
 cases b8 with
 |none =>
  cases ky with
  |some v=>exact mj.elim
  |none =>
   simp[jx] at gb;subst gb;simp[fI,az]
 |some ml =>
  cases ky with
  |none=>exact mj.elim
  |some a9 =>
   have aQ:=Eg (P:=P) (y:=h) .slice3C gb mj ag;simp[fI,az,aQ]
def Mx {m:I}{n:Nat}{v:Value}(hm:a0 w aw B m v)(h:tp m=some n):∃a c,v=.slice a n c/\n<=c:=by
 unfold tp at h
 split at h<;>cases h
 ·cases hm with
  |J af =>
   cases af with
   |kP=>exact⟨_,_,rfl,by simp⟩
   |ar val ag=>exact⟨_,_,rfl,ag⟩
 ·cases hm with
  |nil=>exact⟨_,_,rfl,by simp⟩
 ·cases hm with
  |ref he aN ao=>obtain⟨a,cap,rfl,F,_⟩:=ao;exact⟨_,_,rfl,F⟩
def X8 {t e:TypeId}{sz l h lS:Nat}{a:Option Addr}{len cap:Nat}{ky kz xS:Option Value}(bN:P.underlying t=some (.slice e))(Q:fH P e=some sz)
  (U:(Instr.sliceBounds true len cap ky kz xS).run P w=.ok (l,h,lS) w) :
  (Instr.sliceAt t (.slice a len cap) ky kz xS).run P w=.ok (.slice (if lS=l then a else a.map (·.add (l*sz))) (h-l) (lS-l)) w:=by
 simp[Instr.sliceAt,Instr.slice,run_underlying bN,U,r2 Q]
def ai9 {es:List (List Data)}{sz:Nat}(ec:∀e∈es,D e=sz)(l:Nat):(es.drop l).flatten=es.flatten.drop (l*sz):=by
 induction es generalizing l with
 |nil=>simp
 |cons a r a4 =>
  cases l with
  |zero=>simp
  |succ l =>
   have bc:=ec a (by simp);rw[List.drop_succ_cons,a4 (λx L=>ec x (by simp[L])) l,mg,List.drop_append,bc];have F:a.drop ((l+1)*sz)=[]:=lj (by rw[bc,Ef];omega);rw[F,List.nil_append]
   congr 1
   rw[Ef];omega
def aja {es:List (List Data)}{sz:Nat}(ec:∀e∈es,D e=sz)(l:Nat):(es.take l).flatten=es.flatten.take (l*sz):=by
 induction es generalizing l with
 |nil=>simp
 |cons a r a4 =>
  cases l with
  |zero=>simp
  |succ l =>
   have bc:=ec a (by simp);rw[List.take_succ_cons,mg,a4 (λx L=>ec x (by simp[L])) l,mg,X9,bc];have F:a.take ((l+1)*sz)=a:=dF (by rw[bc,Ef];omega);rw[F]
   congr 2
   rw[Ef];omega
def Ya {es:List (List Data)}{a:Option Addr}{len c sz l h cc:Nat}(af:Den w aw (.ar es) (.slice a len c))(ag:l<=h)(bm:h<=D es)(ec:0<(D es)->∀e∈es,D e=sz)(Y:h-l<=cc):
  l=h\/Den w aw (.ar ((es.take h).drop l)) (.slice (a.map (·.add (l*sz))) (h-l) cc):=by
 rcases My ag with rfl|aq
 ·exact .inl rfl
 ·refine .inr ?_
  cases af with
  |kP=>simp at bm;omega
  | @ar es b off c eh val nD hm U e9 hsz' n5 zL =>
   have h3:0<D es:=by omega
   have HL:eh=sz:=by
    have au:=hb (l:=es) (n:=0) h3;rw[<-hsz' _ au,ec h3 _ au]
   subst HL;have hlen:((es.take h).drop l).length=h-l:=by simp;omega
   have hmul:l*eh+(h-l)*eh<=D es*eh:=by
    rw[<-pw];exact q7 _ (by omega)
   have:=Den.ar (w:=w) (aw:=aw) (es:=(es.take h).drop l) (b:=b) (off:=off+l*eh) (c:=cc) (sz:=eh) (λi=>val (l*eh+i)) (by rw[hlen];exact Y) (by rw[hlen];omega) U e9
    (λe he=>hsz' e (Ei (List.mem_of_mem_drop he)))
    (λi ab=>by
     rw[hlen] at ab;have:=n5 (l*eh+i) (by omega);rwa [<-r0] at this)
    (λi d ng=>by
     refine zL _ d ?_;rw[ai9 (λe he=>hsz' e (Ei he)) l,aja hsz' h] at ng;rw[oI,xP] at ng
     split at ng
     ·exact ng
     ·cases ng)
   rw[hlen] at this
   simpa [xQ] using this
end
section
variable {P:Program} {w:World} {aw:Nat->Prop} {B:cU}
def Rq {sz:Nat}{es:List (List Data)}(h:rW sz es=true):∀e∈es,D e=sz:=λe he=>by
 simpa using kA.1 h e he
def ajb {t e:TypeId}{sz l h len:Nat}{m r:I}{v:Value}{ky kz:Option Value}{b8 ab:Option I}(bN:P.underlying t=some (.slice e))(Q:fH P e=some sz)
  (gb:jx 0 b8=some l) (hlen:tp m=some len) (kS:jx len ab=some h) (mj:ql w aw B b8 ky) (ll:ql w aw B ab kz) (hm:a0 w aw B m v) (M:Ht sz l h m=some r) :
  ∃z,(Instr.sliceAt t v ky kz none).run P w=.ok z w/\a0 w aw B r z:=by
 obtain⟨a,cap,rfl,Ej⟩:=Mx hm hlen
 have run:l<=h->h<=len->(Instr.sliceAt t (.slice a len cap) ky kz none).run P w=.ok (.slice (if cap=l then a else a.map (·.add (l*sz))) (h-l) (cap-l)) w:=λF G =>
  X8 bN Q (Ro true gb kS mj ll F (by omega))
 unfold Ht at M
 split at M
 ·rename_i es
  split at M
  ·rename_i Y;obtain⟨F,G,ad⟩:=Y
   cases M;simp only[tp,bO] at hlen;subst hlen;refine⟨_,run F G,.J ?_⟩
   cases hm with
   |J af =>
    rcases Ya (sz:=sz) af F G (λ_=>Rq ad) (cc:=cap-l) (by omega) with rfl|aR
    ·rw[show ((es.take l).drop l)=[] from by simp]
     rw[hG];exact .kP
    ·rcases My F with rfl|aq
     ·rw[show ((es.take l).drop l)=[] from by simp]
      rw[hG];exact .kP
     ·rw[aT (by omega)];exact aR
  ·cases M
 ·split at M
  ·rename_i Y;obtain⟨rfl,rfl⟩:=Y
   cases M
   cases hm with
   |nil=>exact⟨_,run (by omega) (by omega),by simpa using a0.nil⟩
  ·cases M
 ·split at M
  ·rename_i k g eh off ajc Y;obtain⟨rfl,F,G⟩:=Y
   cases M;simp only[tp,bO] at hlen;subst hlen
   cases hm with
   |ref he aN ao =>
    refine⟨_,run F G,.ref he aN ?_⟩;obtain⟨cD,Rr,tx,nE,awl,ajd⟩:=ao
    injection tx with aQ az eT
    subst aQ;subst eT
    refine⟨_,cap-l,rfl,by omega,by omega,?_⟩
    rcases ln (cap-l) with au|au
    ·exact .inl au
    ·refine .inr ?_;rcases ajd with aZ|⟨b,rfl,bw⟩
     ·omega
     ·refine⟨b,by rw[aT (by omega)];simp[xQ],λbD=>?_⟩
      obtain⟨bA,bM⟩:=bw bD;refine⟨bA,?_⟩;rw[r0,<-pw];rwa [show l+(cap-l)=cap from by omega]
  ·cases M
 ·cases M
def aje {t e:TypeId}{sz l h lS:Nat}{m r:I}{v:Value}{ky:Option Value}{kz xS:Value}{b8:Option I}{ab jM:I}(bN:P.underlying t=some (.slice e))(Q:fH P e=some sz)
  (gb:jx 0 b8=some l) (kS:idx ab=some h) (gZ:idx jM=some lS) (mj:ql w aw B b8 ky) (ll:a0 w aw B ab kz) (Eh:a0 w aw B jM xS) (hm:a0 w aw B m v) (M:Hu sz l h lS m=some r) :
  ∃z,(Instr.sliceAt t v ky (some kz) (some xS)).run P w=.ok z w/\a0 w aw B r z:=by
 have run:∀a len cap,l<=h->h<=lS->lS<=len->len<=cap->(Instr.sliceAt t (.slice a len cap) ky (some kz) (some xS)).run P w=.ok (.slice (if lS=l then a else a.map (·.add (l*sz))) (h-l) (lS-l)) w :=
  λa len cap F G ad aZ=>X8 bN Q (ai8 gb kS gZ mj ll Eh F G (by omega))
 unfold Hu at M
 split at M
 ·rename_i es
  split at M
  ·rename_i Y;obtain⟨F,G,ad,aZ⟩:=Y;obtain⟨a,cap,rfl,Ej⟩:=Mx hm (n:=D es) rfl;refine⟨_,run a _ cap F G ad Ej,?_⟩
   split at M
   ·rename_i xT
    cases M;subst xT;have:h=lS:=by omega
    subst this
    simpa using a0.nil
   ·rename_i xT
    cases M;rw[aT xT]
    cases hm with
    |J af =>
     refine .J ?_;rcases My F with rfl|aq
     ·rw[show ((es.take l).drop l)=[] from by simp]
      rw[hG];exact .kP
     ·rcases Ya (sz:=sz) af F (by omega) (λ_=>Rq aZ) (cc:=lS-l) (by omega) with au|aR
      ·omega
      ·exact aR
  ·cases M
 ·split at M
  ·rename_i Y;obtain⟨rfl,rfl,rfl⟩:=Y
   cases M;obtain⟨a,cap,rfl,Ej⟩:=Mx hm (n:=0) rfl;exact⟨_,run a _ cap (by omega) (by omega) (by omega) Ej,by simpa using a0.nil⟩
  ·cases M
 ·rename_i k g eh off len
  split at M
  ·rename_i Y;obtain⟨F,G,ad,rfl⟩:=Y
   cases M;obtain⟨a,cap,rfl,Ej⟩:=Mx hm (n:=len) rfl;have:h=lS:=by omega
   subst this;exact⟨_,run a _ cap (by omega) (by omega) (by omega) Ej,by simpa using a0.nil⟩
  ·cases M
 ·cases M
def ajf {t:TypeId}{l h len:Nat}{m r:I}{v:Value}{ky kz:Option Value}{b8 ab:Option I}(bN:P.underlying t=some .string)
  (gb:jx 0 b8=some l) (hlen:xF m=some len) (kS:jx len ab=some h) (mj:ql w aw B b8 ky) (ll:ql w aw B ab kz) (hm:a0 w aw B m v) (M:Hv l h m=some r) :
  ∃z,(Instr.sliceAt t v ky kz none).run P w=.ok z w/\a0 w aw B r z:=by
 unfold Hv at M
 split at M
 ·rename_i s
  split at M
  ·rename_i Y;obtain⟨F,G⟩:=Y
   cases M;simp only[xF,bO] at hlen;subst hlen
   cases hm.zJ;have e:(ByteArray.mk s.toArray).size=D s:=by simp[ByteArray.size]
   have U:=Ro (P:=P) (w:=w) (aw:=aw) (B:=B) (cap:=D s) false gb kS mj ll F G
   have L:(ByteArray.mk s.toArray).extract l h=⟨((s.take h).drop l).toArray⟩:=by
    rw[ByteArray.extract_mk,Yb]
   exact⟨.string ⟨((s.take h).drop l).toArray⟩,by simp[Instr.sliceAt,Instr.slice,run_underlying bN,e,U,L],.J .str⟩
  ·cases M
 ·cases M
def Yc (off:Nat):∀(l:List Value) (k:Nat) (cs:Array Value),off+k+D l<=cs.size ->
  (l.zipIdx k).foldl (λ(cs:Array Value) (p:Value×Nat)=>cs.setIfInBounds (off+p.2) p.1) cs=(cs.toList.take (off+k)++l++cs.toList.drop (off+k+D l)).toArray
 | [],k,cs,_=>by simp
 |a::l,k,cs,h=>by
  rw[List.zipIdx_cons,Yd];have cI:off+k<cs.size:=by simp at h;omega
  rw[Yc off l (k+1) (cs.setIfInBounds (off+k) a) (by simp at h ⊢;omega)];apply Array.ext';simp only[Array.toList_setIfInBounds];have:=list_seg_step cs.toList (off+k) a l (by simp at h ⊢;omega)
  simpa [r0] using this
def Mz {place:Nat->Option (Nat×Nat)}{ρ:Operand->Value}{tm:Nat->I}(hρ:∀x y,cP x=some y->a0 w aw B (aM tm y) (ρ x)):
  ∀(cV:List (Nat×Operand)) (fi:List (Nat×Nat×bx)) (cs r:List I) (vs:Array Value),partsOf place cV=some fi->cC w aw B cs vs.toList->kd (aM tm) cs fi=some r ->
   ∃nF:Array Value,Instr.fill place vs (cV.map λp=>(p.1,ρ p.2))=some nF/\cC w aw B r nF.toList
 | [],fi,cs,r,vs,aR,b9,h=>by
  simp[partsOf] at aR;subst aR;simp[kd] at h;subst h;exact⟨vs,rfl,b9⟩
 |(i,x)::cV,fi,cs,r,vs,aR,b9,h=>by
  simp only[partsOf,nf,ga,gj,dI,bO] at aR;obtain⟨q,aU,ajg,xU,rfl⟩:=aR;obtain⟨⟨o,s⟩,ix,y,ak,rfl⟩:=aU;simp only[kd] at h
  split at h
  ·rename_i Y;obtain⟨au,F,G⟩:=Y;have jm:=hρ x y ak;have ajh:aM tm y ≠ .undef:=λe=>by rw[e] at au;simp[I.known] at au
   ·have wj:=cC.Rl jm ajh;have ec:(ρ x).cells.size=s:=by have:=wj.1;simp at this;omega
    have HM:o+s<=vs.size:=by have:=b9.1;simp at this;omega
    have iK:=Yc o (ρ x).cells.toList 0 vs (by simp[ec];exact HM);simp only[lo,Array.length_toList] at iK;have Rs:=b9.kv wj o;obtain⟨nF,al,dD⟩:=Mz hρ cV ajg _ r ((vs.toList.take o++(ρ x).cells.toList++vs.toList.drop (o+(ρ x).cells.size)).toArray) xU (by simpa using Rs) h;refine⟨nF,?_,dD⟩;simp only[List.map_cons,Instr.fill,ix];rw[aT (by simp[ec];omega)]
    have a2:(ρ x).cells.zipIdx.foldl (λcs (p:Value×Nat)=>cs.setIfInBounds (o+p.2) p.1) vs=(vs.toList.take o++(ρ x).cells.toList++vs.toList.drop (o+(ρ x).cells.size)).toArray:=by
     rw[<-Array.foldl_toList,Array.toList_zipIdx];exact iK
    rw[<-al]
    congr 1
  ·cases h
end
section
variable {P:Program} {A:Nat->Prop} {w:World} {B:cU} {mem:Mem}
def Bp {aw:Nat->Prop}{t:TypeId}{z:List I}(h:zeroOf P t=some z):∃i h4,P.info? t=some i/\i.zero=some h4/\cC w aw B z h4.cells.toList:=by
 simp only[zeroOf,dI] at h;obtain⟨h4,⟨i,ab,a2⟩,hm⟩:=h;obtain⟨F,G⟩:=mapM_get hm;exact⟨i,h4,ab,a2,by simp[F],λj m v aji HN=>Rj (G j v m HN aji)⟩
def HO {t:TypeId}{i:TypeInfo}{h4:Value}(ab:P.info? t=some i)(a2:i.zero=some h4):(zeroValue t).run P w=.ok h4 w:=by
 simp[zeroValue,typeInfo,ab,a2]
def Ye {t:TypeId}{i:TypeInfo}{n:Nat}(ab:P.info? t=some i)(Q:fH P t=some n):i.size=n:=by
 simpa [fH,ab] using Q
def Yf {t:TypeId}{i:TypeInfo}{n:Nat}(ab:P.info? t=some i)(Q:Eb P t=some n):i.bytes=n:=by
 simpa [Eb,ab] using Q
def MA {z:Array Value}(au:0<z.size):∀n,((Array.range (n*z.size)).map (z[·%z.size]!)).toList=(ch n z.toList).flatten
 |0=>by simp
 |n+1=>by
  have a4:=MA au n;apply qm;intro i
  have aQ:∀m i,((Array.range (m*z.size)).map (z[·%z.size]!)).toList[i]?=if i<m*z.size then some (z[i%z.size]!) else none:=by
   intro m i;rw[Array.getElem?_toList,Array.getElem?_map]
   by_cases ab:i<m*z.size
   ·rw[aL ab,Array.getElem?_range];simp[ab]
   ·rw[aT ab,Array.getElem?_range];simp[ab]
  rw[aQ,List.replicate_succ',List.flatten_append,Ed,<-a4];have el:((Array.range (n*z.size)).map (z[·%z.size]!)).toList.length=n*z.size:=by simp
  rw[el];have hmul:(n+1)*z.size=n*z.size+z.size:=by rw[pw,Hi]
  by_cases ab:i<n*z.size
  ·rw[aL ab,aL (by omega),aQ,aL ab]
  ·rw[aT ab]
   by_cases xN:i<(n+1)*z.size
   ·rw[aL xN];have aq:i-n*z.size<z.size:=by omega
    have Rt:i%z.size=i-n*z.size:=by
     have e:i=(i-n*z.size)+z.size*n:=by have:=Nat.mul_comm n z.size;omega
     have az:((i-n*z.size)+z.size*n)%z.size=i-n*z.size:=by rw[Nat.add_mul_mod_self_left,Nat.mod_eq_of_lt aq]
     rwa [<-e] at az
    rw[Rt];simp[aq]
   ·rw[aT xN]
    symm
    rw[lk];simp;omega
def cC.replicate {aw:Nat->Prop}{z:List I}{Yg:List Value}(h:cC w aw B z Yg):∀n,cC w aw B (ch n z).flatten (ch n Yg).flatten
 |0=>by simpa using cC.nil
 |n+1=>by
  rw[qn,mg,qn,mg];exact h.append (cC.replicate h n)
def cC.j9 {cs:List I}{vs:List Value}{an:World}{aA:cU}(t:Trans A w B an aA)(h:cC w (bp A B) B cs vs):cC an (bp A aA) aA cs vs :=
 ⟨h.1,λi m v F G=>(h.2 i m v F G).j9 t⟩
def HP {cs:List I}(bk:dQ A w B mem)(w1:World)(f:Fr (λ_=>False) w w1)(a2:w1.heap.size=w.heap.size)(k:Key)(vs:Array Value)(T:TypeId)(ag:(D cs)<=vs.size)
  (b9:cC w (bp A B) B cs (vs.toList.take (D cs))):da A w B (w1.alloc (.cells vs T)) (e4 B k ⟨bB mem k,some w.heap.size,vs.size,false⟩) (aV mem k (bB mem k) cs) :=
 da.alloc bk w1 f a2 k vs T ag λi m hm=>by
  obtain⟨v,ao,M⟩:=b9.get hm;rw[xP] at ao
  split at ao
  ·exact⟨v,by simpa using ao,M⟩
  ·cases ao
def ajj {t:TypeId}{z:List I}(k:Key)(bk:dQ A w B mem)(a2:zeroOf P t=some z):
  ∃v an aA,(Instr.alloc t true (.tuple #[])).run P w=.ok v an/\da A w B an aA (aV mem k (bB mem k) z)/\a0 an (bp A aA) aA (.ptr k (bB mem k) 0) v:=by
 obtain⟨i,h4,ab,n6,b9⟩:=Bp (P:=P) (w:=w) (B:=B) (aw:=bp A B) a2;have ag:(D z)=h4.cells.size:=by have:=b9.1;simp at this;omega
 refine⟨.pointer (some ⟨w.heap.size,0,none⟩),w.alloc (.cells h4.cells t),_,?_,HP bk w (Fr.refl _ _) rfl k h4.cells t (by omega) (by rw[dF (by simp;omega)];exact b9),?_⟩
 ·simp[Instr.alloc,HO ab n6,newVar,newRow]
 ·exact .ptr (fz _ _ _) (c9 _) ⟨_,rfl,λ_=>⟨rfl,rfl⟩⟩
def ajk {t:TypeId}{m:I}{u:Value}(k:Key)(bk:dQ A w B mem)(hu:a0 w (bp A B) B m u)(R:m.known=true):
  ∃v an aA,(Instr.box t u).run P w=.ok v an/\da A w B an aA (aV mem k (bB mem k) m.cells)/\a0 an (bp A aA) aA (.ptr k (bB mem k) 0) v:=by
 have b9:=cC.Rl hu (λe=>by rw[e] at R;simp[I.known] at R);have ag:(D m.cells)=u.cells.size:=by have:=b9.1;simp at this;omega
 refine⟨.pointer (some ⟨w.heap.size,0,none⟩),w.alloc (.cells u.cells t),_,?_,HP bk w (Fr.refl _ _) rfl k u.cells t (by omega) (by rw[dF (by simp;omega)];exact b9),?_⟩
 ·simp[Instr.box,newVar,newRow]
 ·exact .ptr (fz _ _ _) (c9 _) ⟨_,rfl,λ_=>⟨rfl,rfl⟩⟩
def ajl {t e:TypeId}{z:List I}{bytes n c:Nat}{aY b0:I}{jn gI:Value}{r:I}{iL:Option (Key×Nat×List I)}(k:Key)(bk:dQ A w B mem)(bN:P.underlying t=some (.slice e))(a2:zeroOf P e=some z)(Q:fH P e=some (D z))
  (U:Eb P e=some bytes) (F:idx aY=some n) (G:idx b0=some c) (gJ:a0 w (bp A B) B aY jn) (lp:a0 w (bp A B) B b0 gI) (au:0<D z) (h:D7 k (bB mem k) z bytes n c=some (r,iL)) :
  ∃v an aA,(Instr.makeSlice t jn gI).run P w=.ok v an/\da A w B an aA (gg mem iL)/\a0 an (bp A aA) aA r v:=by
 unfold D7 at h
 split at h
 ·rename_i Y;obtain⟨rfl,Ek,uR⟩:=Y
  cases h;obtain⟨bo,rfl⟩:=Bo F gJ;obtain⟨c5,rfl⟩:=Bo G lp;obtain⟨i,h4,ab,n6,b9⟩:=Bp (P:=P) (w:=w) (B:=B) (aw:=bp A B) a2;have ag:(D z)=h4.cells.size:=by have:=b9.1;simp at this;omega
  have ec:=Ye ab Q;have HQ:=Yf ab U
  have eN:=run_make (P:=P) w t e i h4 bN ab n6 bo c5 (n:Int) (n:Int) (by omega) (by omega) (by
   have:((i.bytes*n:Nat):Int)<=281474976710656:=by rw[HQ];omega
   rwa [Int.natCast_mul] at this) (by unfold maxLen at uR;omega)
  simp only[Int.toNat_natCast] at eN
  have Yh:(madeCells h4.cells (n*i.size)).toList=(ch n h4.cells.toList).flatten:=by
   rw[ec,ag];exact MA (by omega) n
  have Bq:(madeCells h4.cells (n*i.size)).size=n*D z:=by rw[size_madeCells,ec]
  have q8:=b9.replicate (n:=n)
  have hlen:(ch n z).flatten.length=n*D z:=by
   have:=q8.1;rw[<-this,<-Yh,Array.length_toList,Bq]
  refine⟨_,_,_,eN,HP bk w (Fr.refl _ _) rfl k _ e (by rw[Bq,hlen];exact c9 _) ?_,?_⟩
  ·rw[dF (by rw[Array.length_toList,Bq,hlen];exact c9 _),Yh];exact q8
  ·refine .ref (fz _ _ _) (c9 _) ⟨_,n,rfl,c9 _,uR,.inr ⟨_,rfl,λ_=>⟨rfl,?_,rfl⟩⟩⟩;simp only[r1];rw[Bq];exact c9 _
 ·cases h
def Ru (bk:dQ A w B mem){k:Key}{g:Nat}{cs new:List I}{e:hv}{b:Nat}{vs:Array Value}{T:TypeId}{vals:List Value}{off:Nat}(R:mem k=some (g,cs))(he:B k=some e)(U:e.dk=some b)(hF:e.mp=false)
  (bm:w.heap[b]?=some (.cells vs T (0,0))) (ec:vs.size=e.size) (ag:(D cs)<=vs.size) (b9:cC w (bp A B) B cs (vs.toList.take (D cs))) (bD:e.g=g) (Rv:off+D new<=D cs) (xV:cC w (bp A B) B new vals) :
  da A w B (w.setRow b (vs.toList.take off++vals++vs.toList.drop (off+D vals)).toArray) B (aV mem k g (kv cs off new)):=by
 have Br:(D vals)=D new:=xV.1
 have Rs:cC w (bp A B) B (kv cs off new) ((vs.toList.take off++vals++vs.toList.drop (off+D vals)).take (D cs)):=by
  have F:=b9.kv xV off
  have aQ:(vs.toList.take (D cs)).take off++vals++(vs.toList.take (D cs)).drop (off+D vals)=(vs.toList.take off++vals++vs.toList.drop (off+D vals)).take (D cs):=by
   have oJ:(D vs.toList)=vs.size:=Array.length_toList;rw[List.take_take,n7 (by omega),Yb,X9,ks,gk,oJ,n7 (a:=off) (b:=vs.size) (by omega)];rw[dF (l:=vs.toList.take off++vals) (by rw[ks,gk,oJ];omega)]
  rwa [aQ] at F
 have zM:(kv cs off new).length=D cs:=by unfold kv;simp;omega
 have heq:e4 B k e=B:=by
  funext j
  unfold e4
  split
  ·rename_i aa;rw[aa,he]
  ·rfl
 have f:Fr (λb=>∃e,B k=some e/\e.dk=some b) w (w.setRow b (vs.toList.take off++vals++vs.toList.drop (off+D vals)).toArray):=by
  refine⟨rfl,rfl,rfl,by simp,λj aa a6=>?_⟩
  exact setRow_other w b j _ (λEl=>a6 ⟨e,he,by rw[U,El]⟩)
 have:=da.change (k:=k) (e':=e) (cs:=kv cs off new) bk f (λaz eg => .inl (by rw[he] at eg;exact mm eg)) (λcB eF => .inr ⟨e,he,eF⟩) (λaC=>by rw[U] at aC;cases aC) (λcB eF=>by
  rw[U] at eF
  cases eF;refine⟨hF,_,T,setRow_heap w b vs _ T (0,0) bm,by simp;omega,by rw[zM];simp;omega,λi m hm=>?_⟩
  obtain⟨v,ao,M⟩:=Rs.get hm;rw[xP] at ao
  split at ao
  ·exact⟨v,by simpa using ao,M⟩
  ·cases ao)
 rw[heq,bD] at this;exact this
def ajm {t:TypeId}{n:Nat}{aY b0:I}{jn gI:Value}{r:I}{iL:Option (Key×Nat×List I)}(bk:dQ A w B mem)(Q:fH P t=some n)(gJ:a0 w (bp A B) B aY jn)(lp:a0 w (bp A B) B b0 gI)
  (h:wa mem n aY b0.cells=some (r,iL)):∃an,(Instr.storeAt t jn gI).run P w=.ok () an/\da A w B an B (gg mem iL)/\r=.no:=by
 cases aY with
 |ptr k g off =>
  simp only[wa] at h;unfold HA at h
  split at h
  ·rename_i cx cs R
   split at h
   ·rename_i Y;obtain⟨rfl,F,G,ad⟩:=Y
    cases h;obtain⟨e,he,bD,aC,U⟩:=bk.at_ R
    cases gJ with
    |ptr eL xK aR =>
     rw[he] at eL
     cases eL;obtain⟨b,rfl,fW⟩:=aR;obtain⟨fW,hF⟩:=fW bD.symm;obtain⟨vs,T,bm,ec,ag,b9⟩:=U b fW hF;have MB:b0 ≠ .undef:=λe=>by rw[e] at ad;simp[I.cells,I.one] at ad
     have wj:=cC.Rl lp MB
     have ajn:∀v∈gI.cells.toList,v.oneCell'=true:=by
      intro v ao;obtain⟨i,ab,jy⟩:=Yi ao;have r6:i<D b0.cells:=by rw[<-wj.1];exact ab
      have:=wj.2 i _ _ (bf r6) (bf ab);rw[jy] at this;exact X1 this (kA.1 ad _ (hb r6))
     have awm:gI.cells.size=n:=by have:=wj.1;simp at this;omega
     have dg:=run_storeCells_at P b off T gI.cells.toList 0 vs w bm (by simp;omega) ajn;simp only[lo] at dg;refine⟨_,?_,Ru bk R he fW hF bm ec ag b9 bD (by omega) wj,rfl⟩;have bq:¬ (gI.cells.size≠n):=by omega
     simp only[Instr.storeAt,Instr.sureAddr,storeVar,Sem.run_bind,Sem.run_pure,Result.andThen_ok,r2 Q];rw[aT bq];exact dg
   ·cases h
  ·cases h
 |_=>simp[wa] at h
end
section
variable {P:Program} {A:Nat->Prop} {w:World} {B:cU} {mem:Mem}
def MC (sz:Nat):∀(n:Nat) (l:List Data),(chunk sz n l).length=n
 |0,_=>rfl
 |n+1,l=>by simp[chunk,MC sz n]
def MD (sz:Nat):∀(n:Nat) (l:List Data),D l=n*sz->∀e∈chunk sz n l,D e=sz
 |0,_,_,e,he=>by simp[chunk] at he
 |n+1,l,ag,e,he=>by
  have hmul:(n+1)*sz=n*sz+sz:=by rw[pw,Hi]
  simp only[chunk,kt] at he;rcases he with rfl|he
  ·simp;omega
  ·exact MD sz n _ (by simp;omega) e he
def ME (sz:Nat):∀(n:Nat) (l:List Data),D l=n*sz->(chunk sz n l).flatten=l
 |0,l,ag=>by simp at ag;simp[chunk,ag]
 |n+1,l,ag=>by
  have hmul:(n+1)*sz=n*sz+sz:=by rw[pw,Hi]
  simp only[chunk,mg];rw[ME sz n _ (by simp;omega),List.take_append_drop]
def Rw {aw:Nat->Prop}{m:I}{d:Data}{v:Value}(h:rV m=some d)(ao:a0 w aw B m v):Den w aw d v:=by
 unfold rV at h
 split at h<;>cases h
 ·cases ao with
  |J h=>exact h
 ·cases ao with
  |nil=>exact .kP
def ajo {ds:List Data}{vs:Array Value}{T:TypeId}{n sz:Nat}(bk:dQ A w B mem)(an:World)(hw:an=w.alloc (.cells vs T))(ag:(D ds)=n*sz)(ao:vs.size=n*sz)(hm:n<=maxLen)
  (af:∀(i:Nat) (d:Data) (v:Value),ds[i]?=some d->vs[i]?=some v->Den w (bp A B) d v):Den an (bp A B) (.ar (chunk sz n ds)) (.slice (some ⟨w.heap.size,0,none⟩) n n):=by
 have ok:da A w B an B mem:=by rw[hw];exact .still bk ((Fr.refl _ _).alloc _)
 have eb:=MC sz n ds
 have h:=Den.ar (w:=an) (aw:=bp A B) (es:=chunk sz n ds) (b:=w.heap.size) (off:=0) (c:=n) (sz:=sz) (λi=>vs.getD i undef) (by rw[eb];exact c9 _) (by rw[eb];exact hm)
  (by rw[hw];simp) (λa6=>by
   rcases a6 with a6|a6
   ·have:=bk.rU a6;omega
   ·have:=bk.lt _ a6;omega) (MD sz n ds ag)
  (λi ab=>by
   rw[eb] at ab;rw[hw,r1];have:i<vs.size:=by omega
   simp[this])
  (λi d ng=>by
   rw[ME sz n ds ag] at ng;have aq:i<D ds:=(dL.1 ng).1;have lT:i<vs.size:=by omega
   have:vs.getD i undef=vs[i]:=by simp[lT]
   simp only[this];exact (af i d _ ng (Array.getElem?_eq_getElem lT)).trans ok.iH)
 rw[eb] at h;exact h
def Yj {t e:TypeId}{z r:List I}{sz len:Nat}{cV:List (Nat×Operand)}{fi:List (Nat×Nat×bx)}{ρ:Operand->Value}{tm:Nat->I}{aw:Nat->Prop}(bN:P.underlying t=some (.slice e))(a2:zeroOf P e=some z)
  (Q:fH P e=some sz) (xW:(D z)=sz) (au:0<sz) (ag:len*sz<=16777216) (aR:partsOf (λi=>some (i*sz,sz)) cV=some fi) (hρ:∀x y,cP x=some y->a0 w aw B (aM tm y) (ρ x))
  (h:kd (aM tm) (ch len z).flatten fi=some r) :
  ∃vs:Array Value,(Instr.buildSlice t len (cV.map λp=>(p.1,ρ p.2)).toArray).run P w=.ok (.slice (some ⟨w.heap.size,0,none⟩) len len) (w.alloc (.cells vs e))/\cC w aw B r vs.toList:=by
 obtain⟨i,h4,ab,n6,b9⟩:=Bp (P:=P) (w:=w) (B:=B) (aw:=aw) a2;have Em:h4.cells.size=sz:=by have:=b9.1;simp at this;omega
 have wk:=MA (z:=h4.cells) (by omega) len;rw[Em] at wk;have q8:=b9.replicate (n:=len);rw[<-wk] at q8;obtain⟨nF,al,M⟩:=Mz (place:=λi=>some (i*sz,sz)) hρ cV fi _ r _ aR q8 h;refine⟨nF,?_,M⟩;have aC:¬ (len*sz>2^24):=by omega
 by_cases qo:len*sz=0
 ·have fI:((Array.range (len*sz)).map (h4.cells[·%sz]!))=#[]:=by rw[qo];simp[Array.range_zero']
  have Rx:Instr.fill (λi=>some (i*sz,sz)) #[] (cV.map λp=>(p.1,ρ p.2))=some nF:=by rw[<-fI];exact al
  simp only[Instr.buildSlice,Sem.run_bind,run_underlying bN,Result.andThen_ok,r2 Q];rw[aT aC];simp only[qo,if_true,Sem.run_bind,Sem.run_pure,Result.andThen_ok];simp[Rx,newRow,Array.range_zero']
 ·simp only[Instr.buildSlice,Sem.run_bind,run_underlying bN,Result.andThen_ok,r2 Q];rw[aT aC];simp only[qo,if_false,Sem.run_bind,Sem.run_pure,Result.andThen_ok,HO ab n6,Em];simp[al,newRow]
def ajp {t e:TypeId}{z:List I}{sz len:Nat}{cV:List (Nat×Operand)}{fi:List (Nat×Nat×bx)}{ρ:Operand->Value}{tm:Nat->I}{r:I}(bk:dQ A w B mem)(bN:P.underlying t=some (.slice e))(a2:zeroOf P e=some z)
  (Q:fH P e=some sz) (xW:(D z)=sz) (au:0<sz) (ag:len*sz<=16777216) (aR:partsOf (λi=>some (i*sz,sz)) cV=some fi) (hρ:∀x y,cP x=some y->a0 w (bp A B) B (aM tm y) (ρ x))
  (h:Hm (ch len z).flatten sz len (kd (aM tm) (ch len z).flatten fi)=some r) :
  ∃v an,(Instr.buildSlice t len (cV.map λp=>(p.1,ρ p.2)).toArray).run P w=.ok v an/\da A w B an B mem/\a0 an (bp A B) B r v:=by
 unfold Hm at h
 split at h
 ·rename_i hlen
  cases al:kd (aM tm) (ch len z).flatten fi with
  |none=>rw[al] at h;cases h
  |some cs =>
   rw[al] at h;simp only[c4] at h;obtain⟨ds,fE,rfl⟩:=h;obtain⟨vs,eN,b9⟩:=Yj (P:=P) (B:=B) bN a2 Q xW au ag aR hρ al;obtain⟨F,G⟩:=mapM_get fE
   have eb:(D cs)=len*sz:=by
    have:∀(fi:List (Nat×Nat×bx)) (a r:List I),kd (aM tm) a fi=some r->(D r)=D a:=by
     intro fi
     induction fi with
     |nil=>intro a r h;simp[kd] at h;rw[h]
     |cons q fi a4 =>
      intro a r h;obtain⟨o,s,x⟩:=q;simp only[kd] at h
      split at h
      ·rename_i Y;rw[a4 _ _ h];unfold kv;simp;omega
      ·cases h
    rw[this _ _ _ al,hlen]
   have aK:vs.size=len*sz:=by have:=b9.1;simp at this;omega
   refine⟨_,_,eN,.still bk ((Fr.refl _ _).alloc _),.J (ajo bk _ rfl (by omega) aK ?_ λi d v af ao=>?_)⟩
   ·have:len<=len*sz:=Yk _ au;unfold maxLen;omega
   ·have aq:i<D cs:=by have:=(dL.1 af).1;omega
    have dh:=bf aq;exact Rw (G i _ d dh af) (b9.2 i _ v dh (by simpa using ao))
 ·cases h
def ajq {t e:TypeId}{z:List I}{sz len:Nat}{cV:List (Nat×Operand)}{fi:List (Nat×Nat×bx)}{ρ:Operand->Value}{tm:Nat->I}{r:I}{iL:Option (Key×Nat×List I)}(k:Key)(bk:dQ A w B mem)(bN:P.underlying t=some (.slice e))(a2:zeroOf P e=some z)
  (Q:fH P e=some sz) (xW:(D z)=sz) (au:0<sz) (ag:len*sz<=16777216) (aR:partsOf (λi=>some (i*sz,sz)) cV=some fi) (hρ:∀x y,cP x=some y->a0 w (bp A B) B (aM tm y) (ρ x))
  (h:D6 k (bB mem k) (ch len z).flatten sz len (kd (aM tm) (ch len z).flatten fi)=some (r,iL)) :
  ∃v an aA,(Instr.buildSlice t len (cV.map λp=>(p.1,ρ p.2)).toArray).run P w=.ok v an/\da A w B an aA (gg mem iL)/\a0 an (bp A aA) aA r v:=by
 unfold D6 at h
 split at h
 ·rename_i hlen
  cases al:kd (aM tm) (ch len z).flatten fi with
  |none=>rw[al] at h;cases h
  |some cs =>
   rw[al] at h
   cases h;obtain⟨vs,eN,b9⟩:=Yj (P:=P) (B:=B) bN a2 Q xW au ag aR hρ al
   have eb:(D cs)=len*sz:=by
    have:∀(fi:List (Nat×Nat×bx)) (a r:List I),kd (aM tm) a fi=some r->(D r)=D a:=by
     intro fi
     induction fi with
     |nil=>intro a r h;simp[kd] at h;rw[h]
     |cons q fi a4 =>
      intro a r h;obtain⟨o,s,x⟩:=q;simp only[kd] at h
      split at h
      ·rename_i Y;rw[a4 _ _ h];unfold kv;simp;omega
      ·cases h
    rw[this _ _ _ al,hlen]
   have aK:vs.size=D cs:=by have:=b9.1;simp at this;omega
   refine⟨_,_,_,eN,HP bk w (Fr.refl _ _) rfl k vs e (by omega) (by rw[dF (by simp;omega)];exact b9),?_⟩
   have gZ:len<=maxLen:=by
    have:len<=len*sz:=Yk _ au;unfold maxLen;omega
   exact .ref (fz _ _ _) (c9 _) ⟨_,len,rfl,c9 _,gZ,.inr ⟨_,rfl,λ_=>⟨rfl,by simp only[r1];omega,rfl⟩⟩⟩
 ·cases h
def Yl {m:I}{sz n:Nat}{new:List I}{v:Value}(bk:dQ A w B mem)(ao:a0 w (bp A B) B m v)(h:px mem sz m=some (n,new)):
  ∃a c vals,v=.slice a n c/\cC w (bp A B) B new vals/\D vals=n*sz/\(0<n->∃b off,a=some ⟨b,off,none⟩/\mQ w b off vals):=by
 unfold px at h
 split at h
 ·split at h
  ·rename_i es kT
   cases h;have kT:=Rq kT
   cases ao with
   |J af =>
    cases af with
    |kP=>exact⟨_,_,[],rfl,by simpa using cC.nil,by simp,λh=>by simp at h⟩
    | @ar es b off c eh val ag hm U e9 ec Y zL =>
     have jQ:=L7 kT;rcases ln (D es) with au|au
     ·have:es=[]:=q9 au;subst this;exact⟨_,_,[],rfl,by simpa using cC.nil,by simp,λh=>by simp at h⟩
     ·have HL:eh=sz:=by
       have oK:=hb (l:=es) (n:=0) au;rw[<-ec _ oK,kT _ oK]
      subst HL;refine⟨_,_,(qj (D es*eh)).map val,rfl,?_,by simp,λ_=>⟨b,off,rfl,λj u aa=>?_⟩⟩
      ·refine cC.J (by simp[jQ]) λi d u F G=>?_;have ab:i<D es*eh:=by have:=(dL.1 F).1;omega
       rw[bg,r3 ab] at G;simp only[kU,bO] at G;subst G;exact zL i d F
      ·have ab:j<D es*eh:=by have:=(dL.1 aa).1;simpa using this
       rw[bg,r3 ab] at aa;simp only[kU,bO] at aa;subst aa;exact Y j ab
  ·cases h
 ·cases h
  cases ao with
  |nil=>exact⟨_,_,[],rfl,cC.nil,by simp,λh=>by simp at h⟩
 ·rename_i k g eh off len
  split at h
  ·rename_i ec;subst ec
   split at h
   ·rename_i cx cs R
    split at h
    ·rename_i aN;subst aN;simp only[c4,eM] at h;obtain⟨part,ra,rfl,rfl⟩:=h;obtain⟨ag,rfl,aC⟩:=Ee ra
     cases ao with
     |ref he aN M =>
      obtain⟨e,eL,bD,Mv,U⟩:=bk.at_ R;rw[he] at eL
      cases eL;obtain⟨a,cap,rfl,F,G,ad⟩:=M;rcases ad with ad|⟨b,rfl,aZ⟩
      ·have:len=0:=by omega
       subst this;exact⟨_,_,[],rfl,by simpa using cC.nil,by simp,λh=>by omega⟩
      ·obtain⟨bw,bA,hF⟩:=aZ bD.symm;obtain⟨vs,T,bm,a2,hle,b9⟩:=U b bw hF;refine⟨_,_,((vs.toList.take (D cs)).drop off).take (len*eh),rfl,(b9.drop off).take _,by have:=((b9.drop off).take (len*eh)).1;omega,λ_=>⟨b,off,rfl,?_⟩⟩
       have:=(((mQ.row bm).take (D cs)).add off).take (len*eh)
       simpa using this
    ·cases h
   ·cases h
  ·cases h
 ·cases h
def MF {sz n c:Nat}{a:Option Addr}{vals:List Value}(ag:(D vals)=n*sz)(ha:0<n->∃b off,a=some ⟨b,off,none⟩/\mQ w b off vals)(an:World)(hw:an.heap=w.heap):
  (Builtin.firstCells sz n (.slice a n c)).run P an = .ok vals.toArray an:=by
 have Y:∀p,an.cell? p=w.cell? p:=λp=>by simp[World.cell?,hw]
 rcases ln n with au|au
 ·subst au;have:vals=[]:=q9 (by simpa using ag);subst this
  cases a with
  |none=>simp[Builtin.firstCells]
  |some a=>simp[Builtin.firstCells,loadCells,loadCellsFrom]
 ·obtain⟨b,off,rfl,ajr⟩:=ha au;exact run_firstCells_some an sz n _ n c vals ag λj v aa=>by rw[xQ,Y];exact ajr j v aa
def cC.Ry {aw:Nat->Prop}{cs:List I}{vs:List Value}(h:cC w aw B cs vs)(F:cs.all I.one=true):∀v∈vs,v.oneCell'=true:=by
 intro v ao;obtain⟨i,ab,jy⟩:=Yi ao;have r6:i<D cs:=by rw[<-h.1];exact ab
 have:=h.2 i _ _ (bf r6) (bf ab);rw[jy] at this;exact X1 this (kA.1 F _ (hb r6))
def Rz {t ty e:TypeId}{sz n8 uS n c:Nat}{base a:Option Addr}{vals:List Value}(bN:P.underlying t=some (.slice e))(Q:fH P e=some sz)(wm:n8+n<=uS)
  (al:(Builtin.firstCells sz n (.slice a n c)).run P w=.ok vals.toArray w) (an:World)
  (dg:∀b,base=some b->(storeCells (b.add (n8*sz)) vals).run P w=.ok () an) (aC:base=none->an=w) :
  (Builtin.append_ #[t,t] ty #[.slice base n8 uS,.slice a n c]).run P w=.ok (.slice base (n8+n) uS) an:=by
 simp only[fH,c4] at Q;obtain⟨i,ab,rfl⟩:=Q
 cases base with
 |none=>simp[Builtin.append_,run_underlying bN,sizeOf,typeInfo,ab,Builtin.lenOf,wm,al,aC rfl]
 |some b=>simp[Builtin.append_,run_underlying bN,sizeOf,typeInfo,ab,Builtin.lenOf,wm,al,dg b rfl]
def ajs {t ty e:TypeId}{sz n8 uS n c bytes:Nat}{base a:Option Addr}{oL vals:List Value}{i:TypeInfo}{z:Value}(bN:P.underlying t=some (.slice e))(ab:P.info? e=some i)(a2:i.zero=some z)(ec:i.size=sz)(HQ:i.bytes=bytes)
  (wm:uS<n8+n) (xR:∀an,an.heap=w.heap->(Builtin.firstCells sz n8 (.slice base n8 uS)).run P an = .ok oL.toArray an) (al:∀an,an.heap=w.heap->(Builtin.firstCells sz n (.slice a n c)).run P an = .ok vals.toArray an)
  (ajt:n8+n<=maxLen) (U:(n8+n)*bytes<=140737488355328) :
  (Builtin.append_ #[t,t] ty #[.slice base n8 uS,.slice a n c]).run P w =
   .ok (.slice (some ⟨w.heap.size,0,none⟩) (n8+n) (grownCap w (n8+n) uS e))
    (w.drew.alloc (.cells (oL.toArray++vals.toArray++Builtin.zeroCells z.cells (grownCap w (n8+n) uS e-(n8+n))) e)):=by
 subst ec;subst HQ
 have aC:¬ (n8+n<=uS):=by omega
 have aju:¬ (9223372036854775807<((n8:Int)+(n:Int))):=by unfold maxLen at ajt;omega
 have HM:=growslice_fits wm U;have ajv:¬ (281474976710656<Builtin.nextslicecap (n8+n) uS*i.bytes):=by omega
 have F:=xR w.drew rfl;have G:=al w.drew rfl;simp[Builtin.append_,run_underlying bN,sizeOf,typeInfo,zeroValue,ab,a2,Builtin.lenOf,aC,aju,ajv,Question.forced,F,G,newRow,grownCap,<-List.append_toArray,Array.append_assoc]
def ajw {t ty e:TypeId}{z:List I}{bytes n:Nat}{aY b0:I}{jn gI:Value}{new:List I}{r:I}{iL:Option (Key×Nat×List I)}(k:Key)(bk:dQ A w B mem)(bN:P.underlying t=some (.slice e))(a2:zeroOf P e=some z)(Q:fH P e=some (D z))
  (HQ:Eb P e=some bytes) (au:0<D z) (gJ:a0 w (bp A B) B aY jn) (lp:a0 w (bp A B) B b0 gI) (nG:px mem (D z) b0=some (n,new)) (h:qd mem k z bytes aY (some (n,new))=some (r,iL)) :
  ∃v an aA,(Builtin.append_ #[t,t] ty #[jn,gI]).run P w=.ok v an/\da A w B an aA (gg mem iL)/\a0 an (bp A aA) aA r v:=by
 obtain⟨dW,dC,vals,rfl,b9,oJ,ha⟩:=Yl bk lp nG;obtain⟨i,h4,ab,n6,ajx⟩:=Bp (P:=P) (w:=w) (B:=B) (aw:=bp A B) a2;have ec:=Ye ab Q;have fW:=Yf ab HQ;have Em:h4.cells.size=D z:=by have:=ajx.1;simp at this;omega
 have mn:(D new)=n*D z:=by rw[<-b9.1,oJ]
 have al:=λan hw=>MF (P:=P) (w:=w) (c:=dC) oJ ha an hw
 -- a new block
 have grow:∀(base:Option Addr) (len cap:Nat) (g:Nat) (k':Key) (cs:List I) (oL:List Value),cap<len+n->(∀an,an.heap=w.heap->(Builtin.firstCells (D z) len (.slice base len cap)).run P an = .ok oL.toArray an) ->
   cC w (bp A B) B cs oL->(D cs)=len*(D z)->len+n<=maxLen->(len+n)*bytes<=140737488355328->g=bB mem k' ->
   ∃v an aA,(Builtin.append_ #[t,t] ty #[.slice base len cap,.slice dW n dC]).run P w=.ok v an/\da A w B an aA (aV mem k' g (cs++new))/\a0 an (bp A aA) aA (.ref k' g (D z) 0 (len+n)) v:=by
  intro base len cap g k' cs oL wm xR iJ eb uR Ek aN;subst aN;have eN:=ajs (P:=P) (ty:=ty) bN ab n6 ec fW wm xR al uR Ek;have bD:=grownCap_ge w (len+n) cap e;have hle:=grownCap_le_maxLen w (len+n) cap e uR
  have Bq:(oL.toArray++vals.toArray++Builtin.zeroCells h4.cells (grownCap w (len+n) cap e-(len+n))).size=grownCap w (len+n) cap e*D z:=by
   have RA:=iJ.1;simp only[Array.size_append,List.size_toArray,size_zeroCells,Em,RA,eb,oJ];rw[<-pw,<-pw]
   congr 1
   omega
  have cZ:=iJ.append b9;have hmul:(len+n)*D z<=grownCap w (len+n) cap e*D z:=q7 _ bD;have Bs:(cs++new).length=(len+n)*D z:=by rw[ks,eb,mn,pw]
  refine⟨_,_,_,eN,HP (cs:=cs++new) bk w.drew ((Fr.refl _ _).drew _) rfl k' _ e (by rw[Bq,Bs];exact hmul) ?_,?_⟩
  ·have:(oL.toArray++vals.toArray++Builtin.zeroCells h4.cells (grownCap w (len+n) cap e-(len+n))).toList.take (cs++new).length=oL++vals:=by
    simp only[Array.toList_append,List.toList_toArray];rw[List.take_append_of_le_length (by rw[cZ.1];exact c9 _),dF (by rw[cZ.1];exact c9 _)]
   rw[this];exact cZ
  ·refine .ref (fz _ _ _) (c9 _) ⟨_,_,rfl,bD,hle,.inr ⟨_,rfl,λ_=>⟨rfl,?_,rfl⟩⟩⟩;simp only[r1];rw[Bq];exact c9 _
 cases aY with
 |nil =>
  simp only[qd] at h
  split at h
  ·rename_i Y;obtain⟨Ek,uR,Bt⟩:=Y
   cases h
   cases gJ with
   | @nil dx =>
    rcases ln n with qp|qp
    ·subst qp;have En:vals=[]:=q9 (by simpa using oJ);have RB:new=[]:=q9 (by simpa using mn);subst En;subst RB
     refine⟨_,_,_,Rz (P:=P) (ty:=ty) bN Q (c9 _) (al w rfl) w (λb _=>by simp[storeCells]) (λ_=>rfl),da.wh bk k,?_⟩;exact .ref (fz _ _ _) (c9 _) ⟨_,0,rfl,c9 _,dG _,.inl rfl⟩
    ·have:=grow dx 0 0 (bB mem k) k [] [] (by omega) (λan hw=>by
      have:=MF (P:=P) (w:=w) (sz:=D z) (n:=0) (c:=0) (a:=dx) (vals:=[]) (by simp) (λh=>by omega) an hw;exact this) cC.nil (by simp) (by omega) (by simpa using Ek) rfl
     simpa [gg] using this
  ·cases h
 |ref k' g eh off len =>
  simp only[qd] at h
  split at h
  ·rename_i Y;obtain⟨rfl,rfl⟩:=Y;unfold lf at h
   split at h
   ·rename_i cx cs R
    split at h
    ·rename_i Y;obtain⟨rfl,hlen,Ek,uR,Bt⟩:=Y
     cases h;obtain⟨r7,oM,bD,Mv,U⟩:=bk.at_ R;have Eo:cx+1=bB mem k':=by simp[bB,R]
     cases gJ with
     |ref he aN M =>
      rw[oM] at he
      cases he;obtain⟨dx,cap,rfl,F,G,ad⟩:=M
      have hold:∃oL,cC w (bp A B) B (cs.take (len*D z)) oL/\D oL=len*D z/\(0<len->∃b off,dx=some ⟨b,off,none⟩/\mQ w b off oL):=by
       rcases ad with ad|⟨b,rfl,aZ⟩
       ·have:len=0:=by omega
        subst this;exact⟨[],by simpa using cC.nil,by simp,λh=>by omega⟩
       ·obtain⟨bw,bA,hF⟩:=aZ bD.symm;obtain⟨vs,T,bm,HR,hle,uT⟩:=U b bw hF;refine⟨(vs.toList.take (D cs)).take (len*D z),uT.take _,by have:=(uT.take (len*D z)).1;rw[this];simp;omega,λ_=>⟨b,0,rfl,((mQ.row bm).take _).take _⟩⟩
      obtain⟨oL,MG,RC,Ym⟩:=hold
      by_cases wm:len+n<=cap
      ·rcases ad with ad|⟨b,rfl,aZ⟩
       ·-- no room, and nothing comes
        have r8:len=0:=by omega
        have qp:n=0:=by omega
        subst r8;subst qp;subst ad
        have En:vals=[]:=q9 (by simpa using oJ);have RB:new=[]:=q9 (by simpa using mn);subst En;subst RB
        refine⟨_,_,e4 B k' ⟨bB mem k',none,0,false⟩,Rz (P:=P) (ty:=ty) bN Q (c9 _) (al w rfl) w (λb _=>by simp[storeCells]) (λ_=>rfl),?_,?_⟩
        ·have:=da.wh bk k'
         simpa [gg,Eo] using this
        ·rw[Eo];exact .ref (fz _ _ _) (c9 _) ⟨_,0,rfl,c9 _,dG _,.inl rfl⟩
       ·obtain⟨bw,bA,hF⟩:=aZ bD.symm;obtain⟨vs,T,bm,HR,hle,uT⟩:=U b bw hF;have hmul:(len+n)*D z<=cap*D z:=q7 _ wm;have MH:(len+n)*D z=len*D z+n*D z:=pw _ _ _;have dg:=run_storeCells_at P b (len*D z) T vals 0 vs w bm (by omega) (b9.Ry Bt);simp only[lo] at dg
        have RA:oL=vs.toList.take (len*D z):=by
         apply qm;intro j;rcases gY j (len*D z) with aa|aa
         ·have h3:0<len:=by
           rcases ln len with h|h
           ·subst h;simp at aa
           ·exact h
          obtain⟨eG,awn,Yn,ajy⟩:=Ym h3;simp only[bO,Addr.mk.injEq,and_true] at Yn;obtain⟨rfl,rfl⟩:=Yn;have wo:j<D oL:=by omega
          have n5:=ajy j _ (bf wo);rw[r1,cell_of_row w b j vs T (0,0) bm] at n5;rw[bf wo,xP,aL aa,<-n5,Array.getElem?_toList]
         ·rw[lk (by omega),xP,aT (by omega)]
        have Yo:(vs.toList.take (len*D z)++vals++vs.toList.drop (len*D z+D vals)).toArray.size=r7.size:=by
         simp;omega
        have f:Fr (λb=>∃e,B k'=some e/\e.dk=some b) w (w.setRow b (vs.toList.take (len*D z)++vals++vs.toList.drop (len*D z+D vals)).toArray):=by
         refine⟨rfl,rfl,rfl,by simp,λj aa a6=>?_⟩
         exact setRow_other w b j _ (λEl=>a6 ⟨r7,oM,by rw[bw,El]⟩)
        have Bs:(cs.take (len*D z)++new).length=len*D z+D vals:=by
         rw[ks,mn,oJ,gk,n7 hlen]
        have ok:=da.change (k:=k') (e':=⟨cx+1,some b,r7.size,false⟩) (cs:=cs.take (len*D z)++new) bk f
         (λaz eg => .inr (by rw[oM] at eg;cases eg;simp only;omega)) (λcB eF => .inr ⟨r7,oM,by rw[bw];exact eF⟩) (λaC=>by cases aC) (λcB eF=>by
          cases eF;refine⟨rfl,_,T,setRow_heap w b vs _ T (0,0) bm,Yo,by rw[Yo,Bs,oJ];omega,λi m hm=>?_⟩
          have cZ:=MG.append b9;obtain⟨v,ao,M⟩:=cZ.get hm;refine⟨v,?_,M⟩;rw[RA] at ao;have aq:i<(vs.toList.take (len*D z)++vals).length:=(dL.1 ao).1;simp only[Yp];rw[uQ aq];exact ao)
        refine⟨_,_,_,Rz (P:=P) (ty:=ty) (a:=dW) (c:=dC) (vals:=vals) bN Q wm (al w rfl) _ (λeG hE=>by
         cases hE;rw[xQ,r1];exact dg) (λh=>by cases h),ok,?_⟩
        exact .ref (fz _ _ _) (c9 _) ⟨_,cap,rfl,wm,G,.inr ⟨b,rfl,λ_=>⟨rfl,bA,rfl⟩⟩⟩
      ·have:=grow dx len cap (cx+1) k' (cs.take (len*D z)) oL (by omega) (λan hw=>MF (P:=P) (w:=w) RC Ym an hw) MG (by rw[gk,n7 hlen]) uR Ek Eo;exact this
    ·cases h
   ·cases h
  ·cases h
 |_=>simp[qd] at h
def ajz {t u ty e:TypeId}{sz n:Nat}{aY b0:I}{jn gI:Value}{new:List I}{r:I}{iL:Option (Key×Nat×List I)}(bk:dQ A w B mem)(bN:P.underlying t=some (.slice e))(Q:fH P e=some sz)
  (gJ:a0 w (bp A B) B aY jn) (lp:a0 w (bp A B) B b0 gI) (nG:px mem sz b0=some (n,new)) (h:uJ mem sz aY (some (n,new))=some (r,iL)) :
  ∃v an,(Builtin.copy_ #[t,u] ty #[jn,gI]).run P w=.ok v an/\da A w B an B (gg mem iL)/\a0 an (bp A B) B r v:=by
 obtain⟨dW,dC,vals,rfl,b9,oJ,ha⟩:=Yl bk lp nG;have mn:(D new)=n*sz:=by rw[<-b9.1,oJ]
 cases aY with
 |ref k g eh off len =>
  simp only[uJ] at h
  split at h
  ·rename_i ec;subst ec;unfold zE at h
   split at h
   ·rename_i cx cs R
    split at h
    ·rename_i Y;obtain⟨rfl,HM,Bt⟩:=Y
     cases h;obtain⟨r7,oM,bD,Mv,U⟩:=bk.at_ R;have MI:Nat.min n len=min n len:=rfl;have hle:min n len<=n:=Nat.min_le_left _ _;have ajA:min n len<=len:=Nat.min_le_right _ _;have xT:min n len*eh<=n*eh:=q7 _ hle;have awo:min n len*eh<=len*eh:=q7 _ ajA;have nE:(vals.take (min n len*eh)).length=min n len*eh:=by rw[gk,oJ,n7 xT]
     have zN:∀(a:Option Addr) (c:Nat),(0<n->∃b off,a=some ⟨b,off,none⟩/\mQ w b off vals)->(Builtin.firstCells eh (min n len) (.slice a n c)).run P w=.ok (vals.take (min n len*eh)).toArray w:=by
      intro a c ha
      have:=MF (P:=P) (w:=w) (sz:=eh) (n:=min n len) (c:=c) (a:=a) (vals:=vals.take (min n len*eh)) nE (λh=>by
       obtain⟨b,off,F,G⟩:=ha (by omega);exact⟨b,off,F,G.take _⟩) w rfl
      cases a with
      |none=>simpa [Builtin.firstCells] using this
      |some a=>simpa [Builtin.firstCells] using this
     cases gJ with
     |ref he aN M =>
      rw[oM] at he
      cases he;obtain⟨dx,cap,rfl,F,G,ad⟩:=M;simp only[fH,c4] at Q;obtain⟨i,ab,RD⟩:=Q;rcases ad with ad|⟨b,rfl,aZ⟩
      ·have r8:len=0:=by omega
       subst r8;have oK:min n 0=0:=Nat.min_zero _;have r9:kv cs off (new.take (min n 0*eh))=cs:=by simp[kv]
       have dg:∀a:Addr,(storeCells a ([]:List Value)).run P w=.ok () w:=λa=>by simp[storeCells]
       have qq:=zN dW dC ha;simp only[oK,Nat.zero_mul,List.take_zero] at qq
       have n9:e4 B k r7=B:=by
        funext j;unfold e4;split
        ·rename_i aa;rw[aa,oM]
        ·rfl
       refine⟨.int .i64 0,w,?_,?_,by simpa using a0.ofInt⟩
       ·cases dx with
        |none=>simp[Builtin.copy_,run_underlying bN,Builtin.lenOf,sizeOf,typeInfo,ab,RD,qq,goInt]
        |some a=>simp[Builtin.copy_,run_underlying bN,Builtin.lenOf,sizeOf,typeInfo,ab,RD,qq,dg,goInt]
       ·have gK:aV mem k cx cs=mem:=by
         funext j;unfold aV;split
         ·rename_i aa;rw[aa,R]
         ·rfl
        simp only[gg,r9,gK];exact .refl bk
      ·obtain⟨bw,bA,hF⟩:=aZ bD.symm;obtain⟨vs,T,bm,HR,Bu,uT⟩:=U b bw hF;have dg:=run_storeCells_at P b off T (vals.take (min n len*eh)) 0 vs w bm (by omega) (λv ao=>b9.Ry Bt v (Ei ao));simp only[lo] at dg;refine⟨.int .i64 ((min n len:Nat):Int),_,?_,Ru bk R oM bw hF bm HR Bu uT bD (by rw[gk,mn,n7 xT];omega) (b9.take (min n len*eh)),.ofInt⟩;have qq:=zN dW dC ha;simp[Builtin.copy_,run_underlying bN,Builtin.lenOf,sizeOf,typeInfo,ab,RD,MI,qq,dg,goInt]
    ·cases h
   ·cases h
  ·cases h
 |_=>simp[uJ] at h
def ajB {z:Array Value}(au:0<z.size)(n:Nat):(Builtin.zeroCells z n).toList=(ch n z.toList).flatten:=by
 unfold Builtin.zeroCells;exact MA au n
def ajC {t ty e:TypeId}{z:List I}{aY:I}{jn:Value}{r:I}{iL:Option (Key×Nat×List I)}(bk:dQ A w B mem)(bN:P.underlying t=some (.slice e))(a2:zeroOf P e=some z)(au:0<D z)
  (gJ:a0 w (bp A B) B aY jn) (h:wb mem z aY=some (r,iL)) :
  ∃v an,(Builtin.clear_ #[t] ty #[jn]).run P w=.ok v an/\da A w B an B (gg mem iL)/\a0 an (bp A B) B r v:=by
 have Yq:∀an:World,a0 an (bp A B) B (.dq []) (.tuple #[]):=λan=>a0.dq (cs:=[]) (vs:=[]) rfl λi d v af=>by simp at af
 cases aY with
 |ref k g sz off len =>
  simp only[wb] at h
  split at h
  ·rename_i ec;subst ec;unfold Mk at h
   split at h
   ·rename_i cx cs R
    split at h
    ·rename_i Y;obtain⟨rfl,HM,Bt⟩:=Y
     cases h;obtain⟨i,h4,ab,n6,b9⟩:=Bp (P:=P) (w:=w) (B:=B) (aw:=bp A B) a2;have Em:h4.cells.size=D z:=by have:=b9.1;simp at this;omega
     obtain⟨r7,oM,bD,Mv,U⟩:=bk.at_ R
     cases gJ with
     |ref he aN M =>
      rw[oM] at he
      cases he;obtain⟨dx,cap,rfl,F,G,ad⟩:=M;rcases ln len with r8|r8
      ·subst r8;have r9:kv cs off (ch 0 z).flatten=cs:=by simp[kv]
       have gK:aV mem k cx cs=mem:=by
        funext j;unfold aV;split
        ·rename_i aa;rw[aa,R]
        ·rfl
       refine⟨.tuple #[],w,?_,?_,Yq _⟩
       ·cases dx<;>simp[Builtin.clear_,run_underlying bN]
       ·simp only[gg,r9,gK];exact .refl bk
      ·rcases ad with ad|⟨b,rfl,aZ⟩
       ·omega
       ·obtain⟨bw,bA,hF⟩:=aZ bD.symm;obtain⟨vs,T,bm,HR,Bu,uT⟩:=U b bw hF;have q8:=b9.replicate len;have xW:=ajB (z:=h4.cells) (by omega) len;have mn:(ch len z).flatten.length=len*D z:=by simp
        have oJ:(ch len h4.cells.toList).flatten.length=len*D z:=by simp[Em]
        have ajD:(ch len z).flatten.all I.one=true:=by
         rw[kA] at Bt ⊢;intro x L;obtain⟨y,ak,hl⟩:=List.mem_flatten.1 L;exact Bt x (by rw[<-(List.mem_replicate.1 ak).2];exact hl)
        have dg:=run_storeCells_at P b off T (ch len h4.cells.toList).flatten 0 vs w bm (by omega) (q8.Ry ajD);simp only[lo] at dg;refine⟨.tuple #[],_,?_,Ru bk R oM bw hF bm HR Bu uT bD (by omega) q8,Yq _⟩;obtain⟨ajc,rfl⟩:∃l,len=l+1:=⟨len-1,by omega⟩
        simp[Builtin.clear_,run_underlying bN,HO ab n6,xW,dg]
    ·cases h
   ·cases h
  ·cases h
 |_=>simp[wb] at h
end
end Go.Mini
namespace Go.Mini
open Go
variable {P:Program} {A:Nat->Prop} {w:World} {B:cU} {mem:Mem}
def ajE {t e:TypeId}{sz l h len:Nat}{m r:I}{v:Value}{ky kz:Option Value}{b8 ab:Option I}(bk:dQ A w B mem)(bN:P.underlying t=some (.array len e))(Q:fH P e=some sz)(awp:len<=16777216)
  (gb:jx 0 b8=some l) (kS:jx len ab=some h) (mj:ql w (bp A B) B b8 ky) (ll:ql w (bp A B) B ab kz) (hm:a0 w (bp A B) B m v) (M:zD mem len sz l h m=some r) :
  ∃z,(Instr.sliceAt t v ky kz none).run P w=.ok z w/\a0 w (bp A B) B r z:=by
 unfold zD at M
 split at M
 ·rename_i k g off;unfold Rd at M
  split at M
  ·rename_i cx cs R
   split at M
   ·rename_i Y;obtain⟨rfl,F,G,ad⟩:=Y
    cases M
    cases hm with
    |ptr he aN ao =>
     obtain⟨b,rfl,U⟩:=ao;obtain⟨e',eL,bD,aC,jP⟩:=bk.at_ R;rw[eL] at he
     cases he;obtain⟨fW,hF⟩:=U bD.symm;obtain⟨vs,T,bm,a2,hle,_⟩:=jP b fW hF;refine⟨.slice (some (if len=l then ⟨b,off,none⟩ else ⟨b,off+l*sz,none⟩)) (h-l) (len-l),?_,.ref eL aN ⟨_,len-l,rfl,by omega,by unfold maxLen;omega,?_⟩⟩
     ·simp[Instr.sliceAt,run_underlying bN,Instr.sureAddr,Ro (P:=P) (w:=w) false gb kS mj ll F G,r2 Q]
      split<;>simp[xQ]
     ·rcases My (iG F G) with ag|ag
      ·exact .inl (by omega)
      ·refine .inr ⟨b,by rw[aT (by omega)],λ_=>⟨fW,?_,hF⟩⟩
       have:off+l*sz+(len-l)*sz=off+len*sz:=by
        rw[r0,<-pw]
        congr 2
        omega
       omega
   ·cases M
  ·cases M
 ·cases M
def ajF {dB:List Field}(h:(dB.all λf=>(fH P f.type).isSome)=true):∃cV:List (Nat×Nat),(dB.mapM λf=>(do pure (f.offset,<-sizeOf f.type):Sem (Nat×Nat))).run P w=.ok cV w /\
  ∀i:Nat,cV[i]?=tt P dB.toArray i:=by
 induction dB with
 |nil=>exact⟨[],by simp,λi=>by simp[tt]⟩
 |cons f r a4 =>
  simp only[List.all_cons,ff] at h;obtain⟨cV,F,G⟩:=a4 h.2;obtain⟨s,Q⟩:=Yr.1 h.1;refine⟨(f.offset,s)::cV,?_,λi=>?_⟩
  ·simp only[nf,Sem.run_bind,r2 Q,Result.andThen_ok,Sem.run_pure];rw[F]
   rfl
  ·cases i with
   |zero=>simp[tt,Q]
   |succ i =>
    have:=G i;simp only[tt,Yp,List.getElem?_cons_succ] at this ⊢;exact this
def ajG {p q:Nat->Option (Nat×Nat)}(h:∀i,p i=q i)(cs:Array Value)(l:List (Nat×Value)):Instr.fill p cs l=Instr.fill q cs l:=by
 rw[show p=q from funext h]
def ajH {t:TypeId}{dB:Array Field}{z r:List I}{cV:List (Nat×Operand)}{fi:List (Nat×Nat×bx)}{ρ:Operand->Value}{tm:Nat->I}{aw:Nat->Prop}(bN:P.underlying t=some (.struct dB))(a2:zeroOf P t=some z)
  (bc:(dB.toList.all λf=>(fH P f.type).isSome)=true) (aR:partsOf (tt P dB) cV=some fi) (hρ:∀x y,cP x=some y->a0 w aw B (aM tm y) (ρ x))
  (h:kd (aM tm) z fi=some r):∃v,(Instr.build t (cV.map λp=>(p.1,ρ p.2)).toArray).run P w=.ok v w/\a0 w aw B (.agg r) v:=by
 obtain⟨i,h4,ab,n6,b9⟩:=Bp (P:=P) (w:=w) (B:=B) (aw:=aw) a2;obtain⟨pl,F,G⟩:=ajF (w:=w) bc;obtain⟨nF,al,M⟩:=Mz (place:=tt P dB) hρ cV fi _ r _ aR b9 h;refine⟨.agg nF,?_,by rw[show nF=nF.toList.toArray from by simp];exact .agg M.1 M.2⟩
 ·have uU:∀i,pl.toArray[i]?=tt P dB i:=λi=>by simpa using G i
  have hm:(dB.mapM λf=>(do pure (f.offset,<-sizeOf f.type):Sem (Nat×Nat))).run P w=.ok pl.toArray w:=by
   rw[Array.mapM_eq_mapM_toList];rw[map_eq_pure_bind];simp only[Sem.run_bind,F,Result.andThen_ok,Sem.run_pure]
  simp only[Instr.build,Sem.run_bind,HO ab n6,Result.andThen_ok,Sem.run_pure,run_underlying bN,hm,ajG uU,al]
def ajI {t e:TypeId}{n sz:Nat}{z r:List I}{cV:List (Nat×Operand)}{fi:List (Nat×Nat×bx)}{ρ:Operand->Value}{tm:Nat->I}{aw:Nat->Prop}(bN:P.underlying t=some (.array n e))(a2:zeroOf P t=some z)
  (Q:fH P e=some sz) (aR:partsOf (λi=>some (i*sz,sz)) cV=some fi) (hρ:∀x y,cP x=some y->a0 w aw B (aM tm y) (ρ x))
  (h:kd (aM tm) z fi=some r):∃v,(Instr.build t (cV.map λp=>(p.1,ρ p.2)).toArray).run P w=.ok v w/\a0 w aw B (.agg r) v:=by
 obtain⟨i,h4,ab,n6,b9⟩:=Bp (P:=P) (w:=w) (B:=B) (aw:=aw) a2;obtain⟨nF,al,M⟩:=Mz (place:=λi=>some (i*sz,sz)) hρ cV fi _ r _ aR b9 h;refine⟨.agg nF,?_,by rw[show nF=nF.toList.toArray from by simp];exact .agg M.1 M.2⟩
 simp only[Instr.build,Sem.run_bind,HO ab n6,Result.andThen_ok,Sem.run_pure,run_underlying bN,r2 Q,al]
end Go.Mini
namespace Go.Mini
open Go
section
variable {P:Program} {w:World} {aw:Nat->Prop} {B:cU}
def ajJ {m:I}{d:Data}{v:Value}(h:Q9 m=some d)(ao:a0 w aw B m v):Den w aw d v:=by
 unfold Q9 at h
 split at h
 ·cases h;cases ao with|J h=>exact h
 ·cases h;cases ao;exact .kP
 ·simp only[c4] at h;obtain⟨ds,fE,rfl⟩:=h;obtain⟨F,G⟩:=mapM_get fE
  cases ao with
  |agg ag af =>
   refine .agg (by omega) λi d v ab hu=>?_;rename_i cs vs;have aq:i<D cs:=by have:=(dL.1 ab).1;omega
   have dh:=bf aq;exact Rw (G i _ d dh ab) (af i _ v dh hu)
 ·cases h
def Ys {t:TypeId}{z:I}(h:zeroV P t=some z):∃v,(zeroValue t).run P w=.ok v w/\a0 w aw B z v:=by
 simp only[zeroV,dI] at h;obtain⟨v,⟨i,ab,ao⟩,a2⟩:=h;exact⟨v,by simp[zeroValue,typeInfo,ab,ao],XX a2⟩
def HS {ok b:Bool}{m:I}{v:Value}(h:a0 w aw B m v):a0 w aw B (Bm ok b m) (if ok=true then .tuple #[v,.bool b] else v):=by
 unfold Bm
 split
 ·have:=a0.dq (w:=w) (aw:=aw) (B:=B) (cs:=[m,.J (.bool b)]) (vs:=[v,.bool b]) rfl λi d u ab hu=>by
   match i,ab,hu with
   |0,ab,hu=>simp at ab hu;subst ab;subst hu;exact h
   |1,ab,hu=>simp at ab hu;subst ab;subst hu;exact .J .bool
  exact this
 ·exact h
def ajK {t:TypeId}{b4:TypeDesc}{m r:I}{v:Value}(hu:P.underlying t=some b4)(aC:∀ms,b4 ≠ .interface ms)(hm:a0 w aw B m v)(h:Ra t m=some r):
  ∃z,(Instr.makeInterface t v).run P w=.ok z w/\a0 w aw B r z:=by
 simp only[Ra,c4] at h;obtain⟨d,af,rfl⟩:=h;refine⟨.iface t v,?_,.J (.n2 (ajJ af hm))⟩;simp only[Instr.makeInterface,Sem.run_bind,run_underlying hu,Result.andThen_ok]
 cases b4<;>first|rfl|exact absurd rfl (aC _)
def ajL {t Yt:TypeId}{b4:TypeDesc}{ok:Bool}{z m r:I}{v:Value}(hu:P.underlying t=some b4)(aC:∀ms,b4 ≠ .interface ms)(a2:zeroV P t=some z)(hm:a0 w aw B m v)(h:Rb t ok z m=some r):
  ∃u,(Instr.typeAssert v Yt t ok).run P w=.ok u w/\a0 w aw B r u:=by
 obtain⟨h4,n6,nH⟩:=Ys (P:=P) (w:=w) (aw:=aw) (B:=B) a2;unfold Rb at h
 split at h
 ·rename_i ld d
  cases hm with
  |J af =>
   cases af with
   | @n2 _ _ u af =>
    split at h
    ·rename_i bN;subst bN
     cases h;refine⟨_,?_,HS (.J af)⟩;simp only[Instr.typeAssert,Sem.run_bind,run_underlying hu,Result.andThen_ok]
     cases b4<;>first|exact absurd rfl (aC _)|simp
    ·rename_i bN
     split at h
     ·rename_i dy;subst dy
      cases h;refine⟨_,?_,HS nH⟩;simp only[Instr.typeAssert,Sem.run_bind,run_underlying hu,Result.andThen_ok]
      cases b4<;>first|exact absurd rfl (aC _)|simp[bN,n6]
     ·cases h
 ·cases hm with
  |J af =>
   cases af
   split at h
   ·rename_i dy;subst dy
    cases h;refine⟨_,?_,HS nH⟩;simp only[Instr.typeAssert,Sem.run_bind,run_underlying hu,Result.andThen_ok]
    cases b4<;>first|exact absurd rfl (aC _)|simp[n6]
   ·cases h
 ·cases h
def Yu {neg:Bool}{t e:TypeId}{x:Operand}{y:Operand}{m r:I}{v c:Value}(hu:P.underlying t=some (.pointer e))(Y:c=.pointer none)(hm:a0 w aw B m v)(h:Hy neg false m=some r):
  ∃z,((do eqGuard (if neg then .neq else .eql) t x y v c;binOp (if neg then .neq else .eql) t v c:Sem Value)).run P w=.ok z w/\a0 w aw B r z:=by
 subst Y;simp only[Hy,c4] at h;obtain⟨b,U,rfl⟩:=h
 have ao:∃a,v=.pointer a/\a.isNone=b:=by
  unfold isNil at U
  split at U<;>cases U
  ·cases hm with|J af=>cases af;exact⟨none,rfl,rfl⟩
  ·cases hm with|J af=>cases af;exact⟨_,rfl,rfl⟩
  ·cases hm with|ptr he aN aR=>obtain⟨b,rfl,_⟩:=aR;exact⟨_,rfl,rfl⟩
  all_goals contradiction
 obtain⟨a,rfl,rfl⟩:=ao
 have he:(Op.equal t (.pointer a) (.pointer none)).run P w=.ok a.isNone w:=by
  show (Op.equalIn (9999+1) t (.pointer a) (.pointer none)).run P w=_;unfold Op.equalIn;simp only[Sem.run_bind,run_underlying hu,Result.andThen_ok]
  cases a<;>rfl
 refine⟨.bool (neg != a.isNone),?_,.J .bool⟩;rw[eqGuard_at_pointer]
 cases neg
 ·simp only[cE,if_false,Sem.run_bind,Sem.run_pure,Result.andThen_ok];show (do pure (Value.bool (<-Op.equal t (.pointer a) (.pointer none))):Sem Value).run P w=_
  simp[he]
 ·simp only[if_true,Sem.run_bind,Sem.run_pure,Result.andThen_ok];show (do pure (Value.bool (!(<-Op.equal t (.pointer a) (.pointer none)))):Sem Value).run P w=_
  simp[he]
def Yv {neg:Bool}{t:TypeId}{ms:Array (String×TypeId)}{x:Operand}{c:Value}{m r:I}{v:Value}(hu:P.underlying t=some (.interface ms))(Y:c=.nilIface)(hm:a0 w aw B m v)(h:Hy neg true m=some r):
  ∃z,((do eqGuard (if neg then .neq else .eql) t x (.const c) v c;binOp (if neg then .neq else .eql) t v c:Sem Value)).run P w=.ok z w/\a0 w aw B r z:=by
 subst Y;simp only[Hy,c4] at h;obtain⟨b,U,rfl⟩:=h
 have ao:(v=.nilIface/\b=true)\/∃ld u,v=.iface ld u/\b=false:=by
  unfold isNil at U
  split at U<;>cases U
  ·contradiction
  ·contradiction
  ·contradiction
  ·cases hm with|J af=>cases af;exact .inl ⟨rfl,rfl⟩
  ·cases hm with|J af=>cases af;exact .inr ⟨_,_,rfl,rfl⟩
 have he:(Op.equal t v .nilIface).run P w=.ok b w:=by
  show (Op.equalIn (9999+1) t v .nilIface).run P w=_;unfold Op.equalIn;simp only[Sem.run_bind,run_underlying hu,Result.andThen_ok];rcases ao with ⟨rfl,rfl⟩|⟨ld,u,rfl,rfl⟩<;>rfl
 have aN:∀op,eqGuard op t x (.const .nilIface) v .nilIface=pure ():=λop=>by
  rcases ao with ⟨rfl,rfl⟩|⟨ld,u,rfl,rfl⟩
  ·exact eqGuard_nil_constR _ _ _ _
  ·exact eqGuard_at_iface _ _ _ _ _ _ _
 refine⟨.bool (neg != b),?_,.J .bool⟩;rw[aN];rcases ao with ⟨rfl,rfl⟩|⟨ld,u,rfl,rfl⟩<;>cases neg
 ·show (do pure (Value.bool (<-Op.equal t .nilIface .nilIface)):Sem Value).run P w=_;simp[he]
 ·show (do pure (Value.bool (!(<-Op.equal t .nilIface .nilIface))):Sem Value).run P w=_
  simp[he]
 ·show (do pure (Value.bool (<-Op.equal t (.iface ld u) .nilIface)):Sem Value).run P w=_
  simp[he]
 ·show (do pure (Value.bool (!(<-Op.equal t (.iface ld u) .nilIface))):Sem Value).run P w=_
  simp[he]
def ajM {t e:TypeId}{len sz n:Nat}{bJ:Bool}{k:IntKind}{m r:I}{v:Value}(hu:P.underlying t=some (.array len e))(Q:fH P e=some sz)(bc:ts P e=some bJ)(hm:a0 w aw B m v)(h:Rc len sz bJ n m=some r):
  ∃z,(Instr.index t v (.int k (n:Int))).run P w=.ok z w/\a0 w aw B r z:=by
 unfold Rc at h
 split at h
 ·rename_i aC
  have go:∀(cs:List I) (vs:List Value),cC w aw B cs vs->(cut cs (n*sz) sz).bind (oF bJ)=some r->∃z,(Instr.index t (.agg vs.toArray) (.int k (n:Int))).run P w=.ok z w/\a0 w aw B r z:=by
   intro cs vs b9 bm;simp only[dI] at bm;obtain⟨ms,F,G⟩:=bm;obtain⟨u,ad,aZ⟩:=X6 (P:=P) Q bc b9 F G;exact⟨u,by simp[Instr.index,asIntOf,run_underlying hu,r2 Q,aC,ad],aZ⟩
  simp only[dI] at h;obtain⟨cs,iJ,h⟩:=h
  split at h
  ·unfold Bl at iJ
   split at iJ<;>cases iJ
   ·cases hm with
    |agg ag af=>exact go _ _ ⟨ag,af⟩ h
   ·cases hm with
    |J af =>
     cases af with
     |agg ag af=>exact go _ _ (cC.J ag af) h
  ·cases h
 ·cases h
end
section
variable {P:Program} {A:Nat->Prop} {w:World} {B:cU} {mem:Mem}
def da.RE {an:World}{k:Key}{e':hv}{cs:List I}(h:dQ A w B mem)(f:Fr (λb=>∃e,B k=some e/\e.dk=some b) w an)
  (aN:∀e,B k=some e->e'=e\/e.g<e'.g)
  (jP:∀b,e'.dk=some b->w.heap.size<=b\/∃e,B k=some e/\e.dk=some b)
  (aC:e'.dk=none->cs=[])
  (Y:∀b,e'.dk=some b->e'.mp=true/\∃ir jj,an.heap[b]?=some (.map ir jj)/\ka w (bp A B) B ir.toList cs):da A w B an (e4 B k e') (aV mem k e'.g cs):=by
 have hold:∀b,b<w.heap.size->(∀e,B k=some e->e.dk≠some b)->an.heap[b]?=w.heap[b]? :=
  λb U L=>f.block b U fun⟨e,he,fW⟩=>L e he fW
 have iH:Trans A w B an (e4 B k e'):=Trans.change f.size hold aN jP;exact⟨h.Ri f.size hold aN jP aC λb U=>let ⟨F,ir,jj,G,ad⟩:=Y b U;.inr ⟨F,ir,jj,G,ad.j9 iH⟩,iH,⟨f.os,f.tape,f.output,f.size,λb U a6=>f.block b U fun⟨e,he,fW⟩=>a6 ⟨k,e,he,fW⟩⟩,Ms jP⟩
def ajN {t:TypeId}(k:Key)(bk:dQ A w B mem):∃v an aA,(Instr.makeMap t none).run P w=.ok v an/\da A w B an aA (aV mem k (bB mem k) [])/\a0 an (bp A aA) aA (.hC k (bB mem k)) v:=by
 refine⟨.map (some w.heap.size),w.alloc (.map #[] 0),e4 B k ⟨bB mem k,some w.heap.size,0,true⟩,?_,?_,.hC (fz _ _ _) (c9 _) ⟨_,rfl,λ_=>⟨rfl,rfl⟩⟩⟩
 ·simp[Instr.makeMap]
 ·have f2:Fr (λ_=>False) w (w.alloc (.map #[] 0)):=(Fr.refl _ _).alloc _;refine da.RE (e':=⟨bB mem k,some w.heap.size,0,true⟩) bk ⟨f2.os,f2.tape,f2.output,f2.size,λb U _=>f2.block b U id⟩ (λe he => .inr (zH bk k e he)) (λb U => .inl ?_) (by simp) ?_
  ·simp at U;omega
  ·intro b U;simp at U;subst U;exact⟨rfl,#[],0,heap_alloc_new w _,.nil⟩
def Yw {m:I}{v:Value}{k:Key}{g:Nat}{cs:List I}(bk:dQ A w B mem)(ao:a0 w (bp A B) B m v)(h:zF mem m=some (k,g,cs)):
  ∃b e ir jj,v=.map (some b)/\mem k=some (g,cs)/\B k=some e/\e.g=g/\e.dk=some b/\e.mp=true/\w.heap[b]?=some (.map ir jj)/\ka w (bp A B) B ir.toList cs:=by
 unfold zF at h
 split at h
 ·split at h
  ·rename_i k' cx cQ HT R
   split at h
   ·rename_i aN;subst aN
    cases h;obtain⟨e,he,bD,aC,U⟩:=bk.dk _ _ _ R
    cases ao with
    |hC eL xK aR =>
     rw[he] at eL
     cases eL;obtain⟨b,rfl,fW⟩:=aR;obtain⟨F,G⟩:=fW bD.symm;rcases U b F with ⟨ad,_⟩|⟨_,ir,jj,aZ,bw⟩
     ·rw[G] at ad;cases ad
     ·exact⟨b,e,ir,jj,rfl,R,he,bD,F,G,aZ,bw⟩
   ·cases h
  ·cases h
 ·cases h
def HU (a b:List UInt8):((⟨a.toArray⟩:ByteArray)==⟨b.toArray⟩)=decide (a=b):=by
 show (a.toArray==b.toArray)=_
 by_cases h:a=b
 ·subst h;simp
 ·simp[h]
def RF {aw:Nat->Prop}{s:List UInt8}:∀{es:List MapEntry} {cs:List I} (n:Nat) {r:Option I},ka w aw B es cs->Mi s cs=some r ->
  ∃q,Instr.findNow .string (.string ⟨s.toArray⟩) es n=some q/\((q=none/\r=none)\/∃i u m,q=some (i,u)/\r=some m/\a0 w aw B m u)
 |_,_,n,r,.nil,h=>by
  cases h;exact⟨none,rfl,.inl ⟨rfl,rfl⟩⟩
 |_,_,n,r,.cons (e:=e) (s:=k) R ao M,h=>by
  simp only[Mi] at h
  split at h
  ·rename_i Q;subst Q
   cases h;exact⟨_,by simp[Instr.findNow,R,Instr.sameNow,HU];rfl,.inr ⟨_,_,_,rfl,rfl,ao⟩⟩
  ·rename_i Q;obtain⟨q,F,G⟩:=RF (n+1) M h;exact⟨q,by simp[Instr.findNow,R,Instr.sameNow,HU,Q,F],G⟩
def Yx {aw:Nat->Prop}{s:List UInt8}{x:I}{u:Value}(L:a0 w aw B x u):∀{es:List MapEntry} {cs:List I} (n:Nat) {g8:List I},ka w aw B es cs->Mj s x cs=some g8 ->
  (Instr.findNow .string (.string ⟨s.toArray⟩) es n=some none/\∀c,ka w aw B (es++[⟨.string ⟨s.toArray⟩,u,c⟩]) g8) \/
  ∃i v0 fI,Instr.findNow .string (.string ⟨s.toArray⟩) es n=some (some (n+i,v0))/\es[i]?=some fI/\fI.key=.string ⟨s.toArray⟩/\ka w aw B (es.modify i λe=>{ e with key:=.string ⟨s.toArray⟩,val:=u }) g8
 |_,_,n,g8,.nil,h=>by
  cases h;exact .inl ⟨rfl,λc => .cons rfl L .nil⟩
 |_,_,n,g8,.cons (e:=e) (s:=k) (es:=es) R ao M,h=>by
  simp only[Mj] at h
  split at h
  ·rename_i Q;subst Q
   cases h;exact .inr ⟨0,e.val,e,by simp[Instr.findNow,R,Instr.sameNow,HU],rfl,R,.cons rfl L M⟩
  ·rename_i Q;simp only[c4] at h;obtain⟨r,h,rfl⟩:=h
   have al:Instr.findNow .string (.string ⟨s.toArray⟩) (e::es) n=Instr.findNow .string (.string ⟨s.toArray⟩) es (n+1):=by
    simp[Instr.findNow,R,Instr.sameNow,HU,Q]
   rcases Yx L (n+1) M h with ⟨F,G⟩|⟨i,v0,fI,F,G,ad,aZ⟩
   ·exact .inl ⟨al.trans F,λc => .cons R ao (G c)⟩
   ·exact .inr ⟨i+1,v0,fI,by rw[al,F];congr 3;omega,by simpa using G,ad,.cons R ao aZ⟩
def Yy {k:TypeId}(h:uL P k=some 2):P.underlying k=some .string:=by
 unfold uL at h
 split at h<;>simp at h
 assumption
def MJ {k:TypeId}(h:P.underlying k=some .string)(b:Bool)(s:ByteArray):(Instr.checkKey b 10000 k (.string s)).run P w=.ok () w:=by
 show (Instr.checkKey b (9999+1) k (.string s)).run P w=_;unfold Instr.checkKey;simp only[Sem.run_bind,run_underlying h,Result.andThen_ok]
 rfl
def Yz {m:I}{s:List UInt8}{v:Value}{aw:Nat->Prop}(h:Ml m=some s)(ao:a0 w aw B m v):v=.string ⟨s.toArray⟩:=by
 unfold Ml at h
 split at h
 ·cases h;exact ao.zJ
 ·cases h
def ajO {t k e:TypeId}{ok:Bool}{z aY b0 r:I}{v1 v2:Value}(bk:dQ A w B mem)(hu:P.underlying t=some (.map k e))(R:uL P k=some 2)(a2:zeroV P e=some z)(gJ:a0 w (bp A B) B aY v1)(lp:a0 w (bp A B) B b0 v2)
  (h:Mm mem ok z aY b0=some r):∃u,(Instr.lookup t v1 v2 ok).run P w=.ok u w/\a0 w (bp A B) B r u:=by
 unfold Mm at h
 split at h
 ·rename_i kg g cs s dO cW;obtain⟨b,r7,ir,jj,rfl,F,G,ad,aZ,bw,bA,bM⟩:=Yw bk gJ dO;obtain rfl:=Yz cW lp;have uO:=Yy R;obtain⟨h4,n6,nH⟩:=Ys (P:=P) (w:=w) (aw:=bp A B) (B:=B) a2
  split at h
  ·rename_i m ag
   cases h;obtain⟨q,aU,bm⟩:=RF 0 bM ag;rcases bm with ⟨_,h⟩|⟨i,u,m',rfl,hm,M⟩
   ·cases h
   ·cases hm;refine⟨_,?_,HS M⟩;simp only[Instr.lookup,Sem.run_bind,run_underlying hu,Result.andThen_ok,MapKept.run_getObj_map bA,Sem.run_pure,MJ uO,Instr.findKey,run_underlying uO,aU]
  ·rename_i ag
   cases h;obtain⟨q,aU,bm⟩:=RF 0 bM ag;rcases bm with ⟨rfl,_⟩|⟨i,u,m',rfl,hm,M⟩
   ·refine⟨_,?_,HS nH⟩;simp only[Instr.lookup,Sem.run_bind,run_underlying hu,Result.andThen_ok,MapKept.run_getObj_map bA,Sem.run_pure,MJ uO,Instr.findKey,run_underlying uO,aU,n6]
   ·cases hm
  ·cases h
 ·cases h
def ajP {t k e:TypeId}{aY b0 fJ r:I}{v1 v2 fg:Value}{iL:Option (Key×Nat×List I)}(bk:dQ A w B mem)(hu:P.underlying t=some (.map k e))(R:uL P k=some 2)(gJ:a0 w (bp A B) B aY v1)(lp:a0 w (bp A B) B b0 v2)(ajQ:a0 w (bp A B) B fJ fg)
  (h:HB mem aY b0 fJ=some (r,iL)):∃an,(Instr.mapUpdate t v1 v2 fg).run P w=.ok () an/\da A w B an B (gg mem iL)/\r=.no:=by
 unfold HB at h
 split at h
 ·rename_i kg g cs s dO cW
  split at h
  ·split at h
   ·rename_i g8 tz
    cases h;obtain⟨b,r7,ir,jj,rfl,F,G,ad,aZ,bw,bA,bM⟩:=Yw bk gJ dO;obtain rfl:=Yz cW lp;have uO:=Yy R;have aq:b<w.heap.size:=(Array.getElem?_eq_some_iff.1 bA).1
    have main:∀Ep HV,ka w (bp A B) B Ep.toList g8->da A w B { w with heap:=w.heap.setIfInBounds b (.map Ep HV) } B (aV mem kg g g8):=by
     intro Ep HV M
     have heq:e4 B kg r7=B:=by
      funext j
      unfold e4
      split
      ·rename_i aa;rw[aa,G]
      ·rfl
     have f:Fr (λb=>∃e,B kg=some e/\e.dk=some b) w { w with heap:=w.heap.setIfInBounds b (.map Ep HV) }:=by
      refine⟨rfl,rfl,rfl,by simp,λj aa a6=>?_⟩
      have bq:b≠j:=λEl=>a6 ⟨r7,G,by rw[aZ,El]⟩
      simp[bq]
     have:=da.RE (k:=kg) (e':=r7) (cs:=g8) bk f (λaz eg => .inl (by rw[G] at eg;exact mm eg)) (λcB eF => .inr ⟨r7,G,eF⟩) (λaC=>by rw[aZ] at aC;cases aC) (λcB eF=>by
      rw[aZ] at eF
      cases eF;exact⟨bw,Ep,HV,by simp[aq],M⟩)
     rw[heq,ad] at this;exact this
    rcases Yx ajQ 0 bM tz with ⟨al,M⟩|⟨i,v0,fI,al,sa,zO,M⟩
    ·refine⟨_,?_,main (ir.push ⟨.string ⟨s.toArray⟩,fg,jj⟩) (jj+1) (by simpa using M jj),rfl⟩;simp only[Instr.mapUpdate,Sem.run_bind,run_underlying hu,Result.andThen_ok,MapKept.run_getObj_map bA,Sem.run_pure,MJ uO,Instr.findKey,run_underlying uO,al,MapKept.run_setObj_map _ bA]
    ·refine⟨_,?_,main (ir.modify i λe=>{ e with key:=.string ⟨s.toArray⟩,val:=fg }) jj (by simpa using M),rfl⟩
     have ajR:Instr.sameBits 10000 (.string ⟨s.toArray⟩) (.string ⟨s.toArray⟩)=true:=by
      show ((⟨s.toArray⟩:ByteArray)==⟨s.toArray⟩)=true;rw[HU];simp
     have ab:ir[i]?=some fI:=by simpa using sa
     simp only[r1] at al;simp only[Instr.mapUpdate,Sem.run_bind,run_underlying hu,Result.andThen_ok,MapKept.run_getObj_map bA,Sem.run_pure,MJ uO,Instr.findKey,run_underlying uO,al,ab,kU,RG,zO,Instr.keyThatStays,ajR,if_true,MapKept.run_setObj_map _ bA]
   ·cases h
  ·cases h
 ·cases h
end
end Go.Mini
namespace Go.Mini
open Go
variable {P:Program} {A:Nat->Prop} {w:World} {B:cU} {mem:Mem}
def ajS (n:Next)(v:Value):Prop:=n=.value v\/(n=.skip/\v=undef)
def gy (A:Nat->Prop)(w:World)(B:cU)(run:Result Next)(mem':Mem)(r:I):Prop :=
 ∃n v an aA,run=.ok n an/\ajS n v/\da A w B an aA mem'/\a0 an (bp A aA) aA r v
def gy.iX {s:Sem Value}{r:I}(bk:dQ A w B mem)(h:∃v,s.run P w=.ok v w/\a0 w (bp A B) B r v):gy A w B ((do pure (.value (<-s)):Sem Next).run P w) mem r:=by
 obtain⟨v,F,G⟩:=h;exact⟨.value v,v,w,B,by simp[F],.inl rfl,.refl bk,G⟩
def gy.of {s:Sem Value}{mem':Mem}{r:I}(h:∃v an aA,s.run P w=.ok v an/\da A w B an aA mem'/\a0 an (bp A aA) aA r v):gy A w B ((do pure (.value (<-s)):Sem Next).run P w) mem' r:=by
 obtain⟨v,an,aA,F,G,ad⟩:=h;exact⟨.value v,v,an,aA,by simp[F],.inl rfl,G,ad⟩
def YA {x:Option I}{r:I}{iL:Option (Key×Nat×List I)}(h:iv x=some (r,iL)):x=some r/\iL=none:=by
 unfold iv at h
 split at h<;>cases h
 exact⟨rfl,rfl⟩
def oN {x:Option Nat}{f:Nat->Option I}{r:I}(h:hD x f=some r):∃n,x=some n/\f n=some r:=by
 unfold hD at h
 split at h
 ·exact⟨_,rfl,h⟩
 ·cases h
def YB {x y:Option Nat}{f:Nat->Nat->Out}{r:I×Option (Key×Nat×List I)}(h:Hz x y f=some r):∃n m,x=some n/\y=some m/\f n m=some r:=by
 unfold Hz at h
 split at h
 ·exact⟨_,_,rfl,rfl,h⟩
 ·cases h
def Bv {aw:Nat->Prop}{ρ:Operand->Value}{tm:Nat->I}(hρ:∀x y,cP x=some y->a0 w aw B (aM tm y) (ρ x)){x:Option Operand}{y:Option bx}(h:rY x=some y):ql w aw B (y.map (aM tm)) (x.map ρ):=by
 cases x with
 |none=>simp[rY] at h;subst h;simp[ql]
 |some x =>
  simp only[rY,c4] at h;obtain⟨y',ak,rfl⟩:=h;simp only[kU,ql];exact hρ _ _ ak
def YC {dB:Array Field}{f o s:Nat}(h:tt P dB f=some (o,s)):∃fd,dB[f]?=some fd/\fd.offset=o/\fH P fd.type=some s:=by
 simp only[tt,ga,gj,dI,bO,eM] at h;obtain⟨fd,F,xX,G,ad,aZ⟩:=h;exact⟨fd,F,ad,aZ ▸ G⟩
def qs {aw:Nat->Prop}{ρ:Operand->Value}{tm:Nat->I}(hρ:∀x y,cP x=some y->a0 w aw B (aM tm y) (ρ x)):∀{l:List Operand} {r:List bx},l.mapM cP=some r->cC w aw B (r.map (aM tm)) (l.map ρ)
 | [],r,h=>by simp at h;subst h;exact cC.nil
 |x::l,r,h=>by
  simp only[nf,ga,gj,dI,bO] at h;obtain⟨y,ak,xL,M,rfl⟩:=h;exact cC.cons (hρ _ _ ak) (qs hρ M)
def wq {α β:Type}(a:Array α)(f:α->β):a.map f=(a.toList.map f).toArray:=by
 apply Array.ext';simp
def hc {tm:Nat->I}{m:fN}{r:I}{iL:Option (Key×Nat×List I)}{x:Option I}(h:bF mem tm m=some (r,iL))(e:bF mem tm m=iv x):x=some r/\iL=none:=YA (e.symm.trans h)
def ajT {ρ:Operand->Value}{tm:Nat->I}{kb:Nat}{own:List Nat}{dst:Option Tmp}{type:TypeId}{c:Call}{m:fN}{r:I}{iL:Option (Key×Nat×List I)}(bk:dQ A w B mem)
  (hρ:∀x y,cP x=some y->a0 w (bp A B) B (aM tm y) (ρ x)) (ay:rZ P kb own dst type c=some m) (h:bF mem tm m=some (r,iL)) :
  gy A w B ((do let d <-resolve ρ c type;invoke d.target d.args:Sem Next).run P w) (gg mem iL) r:=by
 obtain⟨callee,args,argTypes⟩:=c;have two:∀{α:Type} (a:Array α) (x y:α),a.toList=[x,y]->a=#[x,y]:=λa x y h=>Array.ext' (by simpa using h);have one:∀{α:Type} (a:Array α) (x:α),a.toList=[x]->a=#[x]:=λa x h=>Array.ext' (by simpa using h);unfold rZ at ay
 split at ay
 ·rename_i x t Y bc bN;simp only at Y bc bN;subst Y;obtain rfl:=one _ _ bc;obtain rfl:=one _ _ bN
  split at ay
  ·rename_i e hu;simp only[c4] at ay;obtain⟨y,ak,rfl⟩:=ay;obtain⟨aU,rfl⟩:=hc h rfl;obtain⟨n,aC,aU⟩:=oN aU
   cases aU;have:=ai5 (P:=P) (w:=w) t type e hu (hρ _ _ ak) aC;exact⟨.value _,_,w,B,by simp[resolve,invoke,builtin,this],.inl rfl,.refl bk,.J .int⟩
  ·rename_i hu;simp only[c4] at ay;obtain⟨y,ak,rfl⟩:=ay;obtain⟨aU,rfl⟩:=hc h rfl;obtain⟨n,aC,aU⟩:=oN aU
   cases aU;have:=ai6 (P:=P) (w:=w) t type hu (hρ _ _ ak) aC;exact⟨.value _,_,w,B,by simp[resolve,invoke,builtin,this],.inl rfl,.refl bk,.J .int⟩
  ·cases ay
 ·rename_i s x t u Y bc bN;simp only at Y bc bN;subst Y;obtain rfl:=two _ _ _ bc;obtain rfl:=two _ _ _ bN
  split at ay
  ·rename_i e az hu YD;simp only[ga,gj,dI] at ay;obtain⟨z,a2,b,U,n,aC,d,af,xX,eH,gL,oO,bm⟩:=ay
   split at bm
   ·rename_i mo;obtain⟨rfl,au,rfl⟩:=mo
    cases bm;simp only[bF] at h
    cases nG:px mem (D z) (aM tm gL) with
    |none =>
     rw[nG] at h
     revert h
     cases aM tm xX<;>simp[qd]
    |some p =>
     obtain⟨k,new⟩:=p;rw[nG] at h;obtain⟨v,an,aA,F,G,ad⟩:=ajw (ty:=type) _ bk hu a2 aC U au (hρ _ _ eH) (hρ _ _ oO) nG h;exact⟨.value v,v,an,aA,by simp[resolve,invoke,builtin,F],.inl rfl,G,ad⟩
   ·cases bm
  ·cases ay
 ·rename_i awq x t u Y bc bN;simp only at Y bc bN;subst Y;obtain rfl:=two _ _ _ bc;obtain rfl:=two _ _ _ bN
  split at ay
  ·rename_i e az hu YD;simp only[ga,gj,dI] at ay;obtain⟨n,aC,bm⟩:=ay
   split at bm
   ·rename_i au;simp only[dI,bO] at bm;obtain⟨qt,mP,gL,oO,rfl⟩:=bm;simp only[bF] at h
    cases nG:px mem n (aM tm gL) with
    |none =>
     rw[nG] at h
     revert h
     cases aM tm qt<;>simp[uJ]
    |some p =>
     obtain⟨k,new⟩:=p;rw[nG] at h;obtain⟨v,an,F,G,ad⟩:=ajz (u:=u) (ty:=type) bk hu aC (hρ _ _ mP) (hρ _ _ oO) nG h;exact⟨.value v,v,an,B,by simp[resolve,invoke,builtin,F],.inl rfl,G,ad⟩
   ·cases bm
  ·cases ay
 ·rename_i x t Y bc bN;simp only at Y bc bN;subst Y;obtain rfl:=one _ _ bc;obtain rfl:=one _ _ bN
  split at ay
  ·rename_i e hu;simp only[ga,gj,dI] at ay;obtain⟨z,a2,n,aC,bm⟩:=ay
   split at bm
   ·rename_i au;simp only[dI,bO] at bm;obtain⟨gL,oO,rfl⟩:=bm;simp only[bF] at h;obtain⟨v,an,F,G,ad⟩:=ajC (ty:=type) bk hu a2 (by omega) (hρ _ _ oO) h;exact⟨.value v,v,an,B,by simp[resolve,invoke,builtin,F],.inl rfl,G,ad⟩
   ·cases bm
  ·cases ay
 ·rename_i x y Y bc;simp only at Y bc;subst Y;obtain rfl:=two _ _ _ bc;simp only[ga,gj,dI,bO] at ay;obtain⟨gL,L,y',ak,rfl⟩:=ay;obtain⟨aU,rfl⟩:=hc h rfl;obtain⟨z,F,G⟩:=X7 (P:=P) argTypes type (hρ _ _ L) (hρ _ _ ak) aU;simp only[if_true] at F;exact⟨.value z,z,w,B,by simp[resolve,invoke,builtin,F],.inl rfl,.refl bk,G⟩
 ·rename_i x y Y bc;simp only at Y bc;subst Y;obtain rfl:=two _ _ _ bc;simp only[ga,gj,dI,bO] at ay;obtain⟨gL,L,y',ak,rfl⟩:=ay;obtain⟨aU,rfl⟩:=hc h rfl;obtain⟨z,F,G⟩:=X7 (P:=P) argTypes type (hρ _ _ L) (hρ _ _ ak) aU;simp only[cE,if_false] at F;exact⟨.value z,z,w,B,by simp[resolve,invoke,builtin,F],.inl rfl,.refl bk,G⟩
 ·split at ay
  ·split at ay
   ·simp only[ga,gj,dI,bO] at ay;obtain⟨_,_,_,_,_,_,rfl⟩:=ay
    cases h
   ·cases ay
  ·split at ay
   ·(repeat' split at ay)<;>simp only[ga,gj,dI,bO] at ay
    all_goals
     obtain⟨_,_,rfl⟩:=ay
     cases h
   ·simp only[ga,gj,dI,bO] at ay;obtain⟨_,_,rfl⟩:=ay
    cases h
 ·simp only[ga,gj,dI,bO] at ay;obtain⟨_,_,_,_,rfl⟩:=ay
  cases h
 ·cases ay
def RH {ρ:Operand->Value}{tm:Nat->I}{kb:Nat}{own:List Nat}{o:Oper}{m:fN}{r:I}{iL:Option (Key×Nat×List I)}(bk:dQ A w B mem)
  (hρ:∀x y,cP x=some y->a0 w (bp A B) B (aM tm y) (ρ x)) (Er:∀c,ρ (.const c)=c) (ay:gX P kb own o.dst o.type o.op=some m) (h:bF mem tm m=some (r,iL)) :
  gy A w B ((execOp ρ o).run P w) (gg mem iL) r:=by
 obtain⟨dst,op,type,pos,after,guard⟩:=o;simp only at ay
 cases op<;>simp only[gX] at ay<;>simp only[execOp]
 case move x =>
  simp only[c4] at ay;obtain⟨y,ak,rfl⟩:=ay;obtain⟨aU,rfl⟩:=hc (x:=some (aM tm y)) h rfl
  cases aU;exact⟨_,_,w,B,rfl,.inl rfl,.refl bk,hρ _ _ ak⟩
 case assign x =>
  simp only[c4] at ay;obtain⟨y,ak,rfl⟩:=ay;obtain⟨aU,rfl⟩:=hc (x:=some (aM tm y)) h rfl
  cases aU;exact⟨_,_,w,B,rfl,.inl rfl,.refl bk,hρ _ _ ak⟩
 case pick c a b =>
  simp only[ga,gj,dI,bO] at ay;obtain⟨kB,Y,cD,bc,eG,U,rfl⟩:=ay;obtain⟨aU,rfl⟩:=hc h rfl;have:=gy.iX bk (aiU (P:=P) (hρ _ _ Y) (hρ _ _ bc) (hρ _ _ U) aU)
  simpa [gg] using this
 case alloc e =>
  simp only[ga,gj,dI,bO] at ay;obtain⟨d,af,z,a2,rfl⟩:=ay;simp only[bF,bO,eM] at h;obtain⟨rfl,rfl⟩:=h;exact gy.of (ajj _ bk a2)
 case box e x =>
  simp only[ga,gj,dI,bO] at ay;obtain⟨d,af,y,ak,rfl⟩:=ay;simp only[bF] at h
  split at h
  ·rename_i R;simp only[bO,eM] at h;obtain⟨rfl,rfl⟩:=h;exact gy.of (ajk _ bk (hρ _ _ ak) R)
  ·cases h
 case build t cV =>
  split at ay
  ·rename_i dB hu
   split at ay
   ·rename_i bc;simp only[ga,gj,dI,bO] at ay;obtain⟨z,a2,fi,xU,rfl⟩:=ay;obtain⟨aU,rfl⟩:=hc h rfl;simp only[jk,c4] at aU;obtain⟨cs,iJ,rfl⟩:=aU;rw[wq];exact gy.iX bk (ajH hu a2 bc xU hρ iJ)
   ·cases ay
  ·rename_i n e hu;simp only[ga,gj,dI,bO] at ay;obtain⟨s,Q,z,a2,fi,xU,rfl⟩:=ay;obtain⟨aU,rfl⟩:=hc h rfl;simp only[jk,c4] at aU;obtain⟨cs,iJ,rfl⟩:=aU;rw[wq];exact gy.iX bk (ajI hu a2 Q xU hρ iJ)
  ·cases ay
 case buildSlice t len cV =>
  split at ay
  ·rename_i e hu;simp only[ga,gj,dI] at ay;obtain⟨z,a2,s,Q,fi,xU,d,af,bm⟩:=ay
   split at bm
   ·rename_i Y;obtain⟨xW,au,ag⟩:=Y;simp only[bO] at bm;subst bm;rw[wq]
    cases wu:own.contains d with
    |true =>
     rw[wu] at h;exact gy.of (ajq _ bk hu a2 Q xW au ag xU hρ h)
    |false =>
     rw[wu] at h;obtain⟨aU,rfl⟩:=hc h rfl;obtain⟨v,an,F,G,ad⟩:=ajp bk hu a2 Q xW au ag xU hρ aU;exact gy.of ⟨v,an,B,F,G,ad⟩
   ·cases bm
  ·cases ay
 case load t x =>
  simp only[ga,gj,dI,bO] at ay;obtain⟨n,aC,g,aN,y,ak,rfl⟩:=ay;obtain⟨aU,rfl⟩:=hc h rfl;exact gy.iX bk (aiT aC aN bk (hρ _ _ ak) aU)
 case store t x v =>
  simp only[ga,gj,dI,bO] at ay;obtain⟨n,aC,gL,L,pA,ao,rfl⟩:=ay;obtain⟨an,F,G,rfl⟩:=ajm bk aC (hρ _ _ L) (hρ _ _ ao) h;exact⟨.skip,undef,an,B,by simp[F],.inr ⟨rfl,rfl⟩,G,.no⟩
 case nilCheck x =>
  simp only[c4] at ay;obtain⟨y,ak,rfl⟩:=ay;obtain⟨aU,rfl⟩:=hc h rfl;obtain⟨⟨b,off,L⟩,M⟩:=ai7 (hρ _ _ ak) aU;rw[L] at M ⊢;exact⟨_,_,w,B,rfl,.inl rfl,.refl bk,M⟩
 case binOp HW t x y pos2 =>
  unfold tv at ay
  split at ay
  ·split at ay
   ·rename_i gL y' L ak
    cases ay;obtain⟨aU,rfl⟩:=hc h rfl;exact gy.iX bk (XY t x y (hρ _ _ L) (hρ _ _ ak) aU)
   ·cases ay
  ·split at ay
   ·rename_i gL y' L ak
    cases ay;obtain⟨aU,rfl⟩:=hc h rfl;exact gy.iX bk (XY t x y (hρ _ _ L) (hρ _ _ ak) aU)
   ·cases ay
  ·rename_i hu
   split at ay
   ·rename_i gL y' L ak
    cases ay;obtain⟨aU,rfl⟩:=hc h rfl;exact gy.iX bk (XZ (neg:=false) t x y hu (hρ _ _ L) (hρ _ _ ak) aU)
   ·rename_i gL y' L ak
    cases ay;obtain⟨aU,rfl⟩:=hc h rfl;exact gy.iX bk (XZ (neg:=true) t x y hu (hρ _ _ L) (hρ _ _ ak) aU)
   ·cases ay
  ·rename_i dB hu
   split at ay
   ·unfold tu at ay
    split at ay
    ·rename_i Y
     split at ay
     ·rename_i gG gL y' R L ak
      cases ay;obtain⟨aU,rfl⟩:=hc h rfl;exact gy.iX bk (X4 (neg:=false) t x y dB hu Y.1 Y.2 R (hρ _ _ L) (hρ _ _ ak) aU)
     ·cases ay
    ·cases ay
   ·unfold tu at ay
    split at ay
    ·rename_i Y
     split at ay
     ·rename_i gG gL y' R L ak
      cases ay;obtain⟨aU,rfl⟩:=hc h rfl;exact gy.iX bk (X4 (neg:=true) t x y dB hu Y.1 Y.2 R (hρ _ _ L) (hρ _ _ ak) aU)
     ·cases ay
    ·cases ay
   ·cases ay
  ·split at ay
   ·split at ay
    ·simp only[c4] at ay;obtain⟨_,_,rfl⟩:=ay
     cases h
    ·simp only[c4] at ay;obtain⟨_,_,rfl⟩:=ay
     cases h
    ·cases ay
   ·cases ay
  ·rename_i e hu
   split at ay
   ·rename_i aC
    have ak:ρ y=.pointer none:=by
     unfold Mq at aC
     split at aC
     ·exact Er _
     ·contradiction
     ·cases aC
    split at ay
    ·simp only[c4] at ay;obtain⟨gL,L,rfl⟩:=ay;obtain⟨aU,rfl⟩:=hc h rfl;exact gy.iX bk (Yu (neg:=false) hu ak (hρ _ _ L) aU)
    ·simp only[c4] at ay;obtain⟨gL,L,rfl⟩:=ay;obtain⟨aU,rfl⟩:=hc h rfl;exact gy.iX bk (Yu (neg:=true) hu ak (hρ _ _ L) aU)
    ·cases ay
   ·cases ay
  ·rename_i ms hu
   split at ay
   ·rename_i aC
    obtain rfl:y=.const .nilIface:=by
     unfold Mq at aC
     split at aC
     ·contradiction
     ·rfl
     ·cases aC
    rw[Er]
    split at ay
    ·simp only[c4] at ay;obtain⟨gL,L,rfl⟩:=ay;obtain⟨aU,rfl⟩:=hc h rfl;exact gy.iX bk (Yv (neg:=false) hu rfl (hρ _ _ L) aU)
    ·simp only[c4] at ay;obtain⟨gL,L,rfl⟩:=ay;obtain⟨aU,rfl⟩:=hc h rfl;exact gy.iX bk (Yv (neg:=true) hu rfl (hρ _ _ L) aU)
    ·cases ay
   ·cases ay
  ·cases ay
 case unOp uop t x =>
  simp only[c4] at ay;obtain⟨y,ak,rfl⟩:=ay;obtain⟨aU,rfl⟩:=hc h rfl;exact gy.iX bk (aiV (hρ _ _ ak) aU)
 case convert s t x =>
  split at ay
  ·rename_i gG k Q bN;simp only[c4] at ay;obtain⟨y,ak,rfl⟩:=ay;obtain⟨aU,rfl⟩:=hc h rfl;exact gy.iX bk (aiW s t gG Q bN (hρ _ _ ak) aU)
  ·cases ay
 case makeFunc fn first dd =>
  cases fn<;>simp only[reduceCtorEq] at ay
  split at ay
  ·rename_i ec;simp only[ga,gj,dI,bO] at ay;obtain⟨cs,iJ,rfl⟩:=ay;obtain⟨aU,rfl⟩:=hc (x:=some (.ef _ (cs.map (aM tm)))) h rfl
   cases aU;have ajU:first=#[]:=Array.eq_empty_of_size_eq_zero ec
   subst ajU;have ag:=qs hρ iJ;exact gy.iX bk ⟨_,by rw[wq dd,Array.map_empty];rfl,.ef ag.1 ag.2⟩
  ·cases ay
 case makeSlice t l c =>
  split at ay
  ·rename_i e he;simp only[ga,gj,dI] at ay;obtain⟨z,a2,s,Q,b,U,d,af,bm⟩:=ay
   split at bm
   ·rename_i Y;simp only[dI,bO] at bm;obtain⟨mR,ag,kB,uV,rfl⟩:=bm;simp only[bF] at h;obtain⟨rb,re,F,G,ad⟩:=YB h;obtain⟨rfl,au⟩:=Y;exact gy.of (ajl _ bk he a2 Q U F G (hρ _ _ ag) (hρ _ _ uV) au ad)
   ·cases bm
  ·cases ay
 case slice t x b8 ab jM =>
  split at ay
  ·rename_i e hu;simp only[ga,gj,dI] at ay;obtain⟨s,Q,bm⟩:=ay
   split at bm
   ·simp only[dI,bO] at bm;obtain⟨y,ak,YE,gb,r6,kS,HX,gZ,rfl⟩:=bm;have mj:=Bv hρ gb;have ll:=Bv hρ kS;have Eh:=Bv hρ gZ
    cases HX with
    |none =>
     cases jM with
     |some v=>simp[rY,c4] at gZ
     |none =>
      obtain⟨aU,rfl⟩:=hc h rfl;obtain⟨l,ag,aU⟩:=oN aU;obtain⟨len,hlen,aU⟩:=oN aU;obtain⟨bm,Bw,aU⟩:=oN aU;exact gy.iX bk (ajb hu Q ag hlen Bw mj ll (hρ _ _ ak) aU)
    |some HX =>
     cases r6 with
     |none=>cases h
     |some r6 =>
      cases ab with
      |none=>simp[ql] at ll
      |some ab =>
       cases jM with
       |none=>simp[ql] at Eh
       |some jM =>
        obtain⟨aU,rfl⟩:=hc h rfl;obtain⟨l,ag,aU⟩:=oN aU;obtain⟨bm,Bw,aU⟩:=oN aU;obtain⟨m,hm,aU⟩:=oN aU;exact gy.iX bk (aje hu Q ag Bw hm mj ll Eh (hρ _ _ ak) aU)
   ·cases bm
  ·rename_i n e hu;simp only[ga,gj,dI] at ay;obtain⟨s,Q,bm⟩:=ay
   split at bm
   ·rename_i Y;simp only[dI,bO] at bm;obtain⟨y,ak,YE,gb,r6,kS,HX,gZ,rfl⟩:=bm;have mj:=Bv hρ gb;have ll:=Bv hρ kS
    cases HX with
    |none =>
     cases jM with
     |some v=>simp[rY,c4] at gZ
     |none =>
      obtain⟨aU,rfl⟩:=hc h rfl;obtain⟨l,ag,aU⟩:=oN aU;obtain⟨bm,Bw,aU⟩:=oN aU;exact gy.iX bk (ajE bk hu Q Y.2 ag Bw mj ll (hρ _ _ ak) aU)
    |some HX=>cases h
   ·cases bm
  ·rename_i hu
   split at ay
   ·rename_i gZ;simp only[ga,gj,dI,bO] at ay;obtain⟨y,ak,YE,gb,r6,kS,rfl⟩:=ay;have mj:=Bv hρ gb;have ll:=Bv hρ kS
    cases jM with
    |some v=>cases gZ
    |none =>
     obtain⟨aU,rfl⟩:=hc h rfl;obtain⟨l,ag,aU⟩:=oN aU;obtain⟨len,hlen,aU⟩:=oN aU;obtain⟨bm,Bw,aU⟩:=oN aU;exact gy.iX bk (ajf hu ag hlen Bw mj ll (hρ _ _ ak) aU)
   ·cases ay
  ·cases ay
 case fieldAddr t x f =>
  split at ay
  ·rename_i dB hu;simp only[ga,gj,dI] at ay;obtain⟨⟨o,s⟩,aR,bm⟩:=ay
   split at bm
   ·rename_i au;simp only[dI,bO] at bm;obtain⟨y,ak,rfl⟩:=bm;obtain⟨fd,F,G,ad⟩:=YC aR;obtain⟨aU,rfl⟩:=hc h rfl;exact gy.iX bk (aiX t f dB fd s hu F ad au G (hρ _ _ ak) aU)
   ·cases bm
  ·cases ay
 case field t x f =>
  split at ay
  ·rename_i dB hu;simp only[ga,gj,dI,bO] at ay;obtain⟨fd,Bx,⟨o,s⟩,aR,g,aN,y,ak,rfl⟩:=ay;obtain⟨awr,F,G,ad⟩:=YC aR;rw[Bx] at F
   cases F;obtain⟨aU,rfl⟩:=hc h rfl;exact gy.iX bk (aiZ t f dB fd hu Bx ad aN G (hρ _ _ ak) aU)
  ·cases ay
 case indexAddr t x i =>
  split at ay
  ·rename_i e hu;simp only[ga,gj,dI] at ay;obtain⟨s,Q,bm⟩:=ay
   split at bm
   ·simp only[dI,bO] at bm;obtain⟨y,ak,j,aa,rfl⟩:=bm;obtain⟨aU,rfl⟩:=hc h rfl;obtain⟨n,aC,aU⟩:=oN aU;obtain⟨k,R⟩:=Bo aC (hρ _ _ aa);rw[R];exact gy.iX bk (ai1 t e hu Q (hρ _ _ ak) aU)
   ·cases bm
  ·rename_i len e hu;simp only[ga,gj,dI] at ay;obtain⟨s,Q,bm⟩:=ay
   split at bm
   ·simp only[dI,bO] at bm;obtain⟨y,ak,j,aa,rfl⟩:=bm;obtain⟨aU,rfl⟩:=hc h rfl;obtain⟨n,aC,aU⟩:=oN aU;obtain⟨k,R⟩:=Bo aC (hρ _ _ aa);rw[R];exact gy.iX bk (ai2 t e hu Q (hρ _ _ ak) aU)
   ·cases bm
  ·cases ay
 case index t x i =>
  split at ay
  ·rename_i hu;simp only[ga,gj,dI,bO] at ay;obtain⟨y,ak,j,aa,rfl⟩:=ay;obtain⟨aU,rfl⟩:=hc h rfl;obtain⟨n,aC,aU⟩:=oN aU;obtain⟨k,R⟩:=Bo aC (hρ _ _ aa);rw[R];exact gy.iX bk (ai3 t hu (hρ _ _ ak) aU)
  ·rename_i n e hu;simp only[ga,gj,dI,bO] at ay;obtain⟨s,Q,g,aN,y,ak,j,aa,rfl⟩:=ay;obtain⟨aU,rfl⟩:=hc h rfl;obtain⟨n,aC,aU⟩:=oN aU;obtain⟨k,R⟩:=Bo aC (hρ _ _ aa);rw[R];exact gy.iX bk (ajM hu Q aN (hρ _ _ ak) aU)
  ·cases ay
 case makeInterface t x =>
  split at ay
  ·cases ay
  ·rename_i b4 aC hu;simp only[c4] at ay;obtain⟨y,ak,rfl⟩:=ay;obtain⟨aU,rfl⟩:=hc h rfl;exact gy.iX bk (ajK hu aC (hρ _ _ ak) aU)
  ·cases ay
 case typeAssert x Yt t ok =>
  split at ay
  ·cases ay
  ·rename_i b4 aC hu;simp only[ga,gj,dI,bO] at ay;obtain⟨z,a2,y,ak,rfl⟩:=ay;obtain⟨aU,rfl⟩:=hc h rfl;exact gy.iX bk (ajL hu aC a2 (hρ _ _ ak) aU)
  ·cases ay
 case makeMap t rs =>
  cases rs with
  |some _=>cases ay
  |none =>
   simp only at ay
   split at ay
   ·simp only[ga,gj,dI,bO] at ay;obtain⟨d,af,rfl⟩:=ay;simp only[bF,bO,eM] at h;obtain⟨rfl,rfl⟩:=h;exact gy.of (ajN _ bk)
   ·cases ay
 case lookup t x i ok =>
  split at ay
  ·rename_i k e hu
   split at ay
   ·rename_i R;simp only[ga,gj,dI,bO] at ay;obtain⟨z,a2,y,ak,j,aa,rfl⟩:=ay;obtain⟨aU,rfl⟩:=hc h rfl;exact gy.iX bk (ajO bk hu R a2 (hρ _ _ ak) (hρ _ _ aa) aU)
   ·cases ay
  ·cases ay
 case mapUpdate t x i v =>
  split at ay
  ·rename_i k e hu
   split at ay
   ·rename_i R;simp only[ga,gj,dI,bO] at ay;obtain⟨gL,L,a3,ab,pA,ao,rfl⟩:=ay;obtain⟨an,F,G,rfl⟩:=ajP bk hu R (hρ _ _ L) (hρ _ _ ab) (hρ _ _ ao) h;exact⟨.skip,undef,an,B,by simp[F],.inr ⟨rfl,rfl⟩,G,.no⟩
   ·cases ay
  ·cases ay
 case extract x i =>
  simp only[c4] at ay;obtain⟨y,ak,rfl⟩:=ay;obtain⟨aU,rfl⟩:=hc h rfl;exact gy.iX bk (ai4 (hρ _ _ ak) aU)
 case call c =>
  exact ajT bk hρ ay h
 all_goals cases ay
end Go.Mini
namespace Go.Mini
open Go
inductive iY where
 |code (c:e1)
 |inBlock (id:Nat)
def cO (T:bj)(K:fD->a8->Prop):List iY->fD->a8->Prop
 | [],e,st=>K e st
 |.code c::k,.normal,st=>wp T c (cO T K k) st
 |.code _::k,.exit id,st=>cO T K k (.exit id) st
 |.code _::k,.ret,st=>cO T K k .ret st
 |.inBlock _::k,.normal,st=>cO T K k .normal st
 |.inBlock j::k,.exit id,st=>if id=j then cO T K k .normal st else cO T K k (.exit id) st
 |.inBlock _::k,.ret,st=>cO T K k .ret st
section
variable {T:bj} {K:fD->a8->Prop} {k:List iY} {st:a8}
def ajV (c:e1):(λe cf=>match e with
  |.normal=>wp T c (cO T K k) cf
  |e=>cO T K k e cf)=cO T K (.code c::k):=by
 funext e cf
 cases e<;>rfl
def ajW (id:Nat):(λe cf=>match e with
  |.exit j=>if j=id then cO T K k .normal cf else cO T K k (.exit j) cf
  |e=>cO T K k e cf)=cO T K (.inBlock id::k):=by
 funext e cf
 cases e<;>rfl
@[go_sem] def ajX (e:fD):cO T K [] e st=K e st:=by cases e<;>rfl
@[go_sem] def aws (c:e1):cO T K (.code c::k) .normal st=wp T c (cO T K k) st:=bu
@[go_sem] def awt (c:e1)(id:Nat):cO T K (.code c::k) (.exit id) st=cO T K k (.exit id) st:=bu
@[go_sem] def awu (c:e1):cO T K (.code c::k) .ret st=cO T K k .ret st:=bu
@[go_sem] def awv (id:Nat):cO T K (.inBlock id::k) .normal st=cO T K k .normal st:=bu
@[go_sem] def aww (id j:Nat):cO T K (.inBlock j::k) (.exit id) st=if id=j then cO T K k .normal st else cO T K k (.exit id) st:=bu
@[go_sem] def awx (id:Nat):cO T K (.inBlock id::k) .ret st=cO T K k .ret st:=bu
def xY {c:e1}(h:wp T c (cO T K []) st):wp T c K st:=by
 have:cO T K []=K:=by funext e st;cases e<;>rfl
 rwa [this] at h
@[go_sem] def wp_seq (a b:e1):wp T (.seq a b) (cO T K k) st=wp T a (cO T K (.code b::k)) st:=by
 rw[<-ajV];rfl
@[go_sem] def wp_skip:wp T .skip (cO T K k) st=cO T K k .normal st:=bu
@[go_sem] def wp_ret:wp T .ret (cO T K k) st=cO T K k .ret st:=bu
@[go_sem] def wp_exit (id:Nat):wp T (.exit id) (cO T K k) st=cO T K k (.exit id) st:=bu
@[go_sem] def wp_block (id:Nat)(c:e1):wp T (.block id c) (cO T K k) st=wp T c (cO T K (.inBlock id::k)) st:=by
 rw[<-ajW];rfl
def pB (T:bj)(K:fD->a8->Prop)(k:List iY)(m:I)(a b:e1)(st:a8):Prop :=
 match m with
 |.J (.bool t)=>if t=true then wp T a (cO T K k) st else wp T b (cO T K k) st
 |_=>False
@[go_sem] def wp_cond (c:bx)(a b:e1):wp T (.cond c a b) (cO T K k) st=pB T K k (aM st.tm c) a b st:=bu
@[go_sem] def ajY (a b:e1):pB T K k (.J (.bool true)) a b st=wp T a (cO T K k) st:=bu
@[go_sem] def ajZ (a b:e1):pB T K k (.J (.bool false)) a b st=wp T b (cO T K k) st:=bu
def Es (T:bj)(K:fD->a8->Prop)(k:List iY)(l:List bz)(st:a8):Prop:=wc T (cO T K k .normal) l st
@[go_sem] def wp_ops (l:List bz):wp T (.ops l) (cO T K k) st=Es T K k l st:=bu
@[go_sem] def awy:Es T K k [] st=cO T K k .normal st:=bu
def qu (T:bj)(K:fD->a8->Prop)(k:List iY)(g:Option Bool)(i:bz)(r:List bz)(st:a8):Prop :=
 match g with
 |none=>False
 |some g=>if g=true then gh T (wc T (cO T K k .normal) r) i st else Es T K k r ⟨put st.tm i.dst .no,st.mem⟩
@[go_sem] def awz (i:bz)(r:List bz):Es T K k (i::r) st=qu T K k (g9 st.tm i.g) i r st:=bu
@[go_sem] def awA (i:bz)(r:List bz):qu T K k (some true) i r st=gh T (Es T K k r) i st:=bu
@[go_sem] def awB (i:bz)(r:List bz):qu T K k (some false) i r st=Es T K k r ⟨put st.tm i.dst .no,st.mem⟩:=bu
def zP (T:bj)(K:fD->a8->Prop)(k:List iY)(n:Nat)(l:List bz)(c:List (List Nat))(rec:Rec)(st:a8):Prop:=tr T (cO T K k .normal) n l c rec st
@[go_sem] def awC (l:List bz)(c:List (List Nat)):wp T (.mN l c) (cO T K k) st=zP T K k 0 l c (λ_=>none) st:=bu
@[go_sem] def awD (n:Nat)(c:List (List Nat))(rec:Rec):zP T K k n [] c rec st=cO T K k .normal st:=bu
def qv (T:bj)(K:fD->a8->Prop)(k:List iY)(n:Nat)(g:Option Bool)(i:bz)(r:List bz)(c:List (List Nat))(rec:Rec)(st:a8):Prop :=
 match g with
 |none=>False
 |some g=>if g=true then (match eX T st.mem st.tm i.op with
    |some (m,e)=>rX rec (gi i.op,cy st.tm i.op) (c.headD [])=true/\zP T K k (n+1) r c.tail (jl rec n (gi i.op,cy st.tm i.op)) ⟨put st.tm i.dst m,gg st.mem e⟩
    |none=>False) else zP T K k (n+1) r c.tail rec ⟨put st.tm i.dst .no,st.mem⟩
@[go_sem] def awE (n:Nat)(i:bz)(r:List bz)(c:List (List Nat))(rec:Rec):zP T K k n (i::r) c rec st=qv T K k n (g9 st.tm i.g) i r c rec st:=bu
def YF (T:bj)(K:fD->a8->Prop)(k:List iY)(n:Nat)(x:Option (I×Option (Key×Nat×List I)))(i:bz)(r:List bz)(c:List (List Nat))(rec:Rec)(st:a8):Prop :=
 match x with
 |some (m,e)=>rX rec (gi i.op,cy st.tm i.op) (c.headD [])=true/\zP T K k (n+1) r c.tail (jl rec n (gi i.op,cy st.tm i.op)) ⟨put st.tm i.dst m,gg st.mem e⟩
 |none=>False
@[go_sem] def awF (n:Nat)(i:bz)(r:List bz)(c:List (List Nat))(rec:Rec):qv T K k n (some true) i r c rec st=YF T K k n (eX T st.mem st.tm i.op) i r c rec st:=bu
@[go_sem] def awG (n:Nat)(i:bz)(r:List bz)(c:List (List Nat))(rec:Rec):qv T K k n (some false) i r c rec st=zP T K k (n+1) r c.tail rec ⟨put st.tm i.dst .no,st.mem⟩:=bu
@[go_sem] def awH (n:Nat)(m:I)(e:Option (Key×Nat×List I))(i:bz)(r:List bz)(c:List (List Nat))(rec:Rec):YF T K k n (some (m,e)) i r c rec st =
 (rX rec (gi i.op,cy st.tm i.op) (c.headD [])=true/\zP T K k (n+1) r c.tail (jl rec n (gi i.op,cy st.tm i.op)) ⟨put st.tm i.dst m,gg st.mem e⟩):=bu
end
section
variable {T:bj} {K:a8->Prop} {st:a8} {tm:Nat->I} {mem:Mem}
def wpS (K:a8->Prop)(x:Option (I×Option (Key×Nat×List I)))(d:Option Nat)(st:a8):Prop :=
 match x with
 |some (m,e)=>K ⟨put st.tm d m,gg st.mem e⟩
 |none=>False
@[go_sem] def awI (m:I)(e:Option (Key×Nat×List I))(d:Option Nat):wpS K (some (m,e)) d st=K ⟨put st.tm d m,gg st.mem e⟩:=bu
variable (d:Option Nat) (g:Option (Nat×Bool))
@[go_sem] def awJ (x:bx):gh T K ⟨d,g,.iu x⟩ st=K ⟨put st.tm d (aM st.tm x),st.mem⟩:=bu
@[go_sem] def awK (c a b:bx):gh T K ⟨d,g,.pick c a b⟩ st=wpS K (bF st.mem st.tm (.pick c a b)) d st:=bu
@[go_sem] def awL (k:Key)(z:List I):gh T K ⟨d,g,.alloc k z⟩ st=K ⟨put st.tm d (.ptr k (bB st.mem k) 0),aV st.mem k (bB st.mem k) z⟩:=bu
@[go_sem] def awM (k:Key)(x:bx):gh T K ⟨d,g,.box k x⟩ st=wpS K (bF st.mem st.tm (.box k x)) d st:=bu
@[go_sem] def awN (z:List I)(cV:List (Nat×Nat×bx)):gh T K ⟨d,g,.build z cV⟩ st=wpS K (bF st.mem st.tm (.build z cV)) d st:=bu
@[go_sem] def awO (k:Key)(o:Bool)(z:List I)(sz len:Nat)(cV:List (Nat×Nat×bx)):gh T K ⟨d,g,.dN k o z sz len cV⟩ st=wpS K (bF st.mem st.tm (.dN k o z sz len cV)) d st:=bu
@[go_sem] def awP (n:Nat)(bJ:Bool)(x:bx):gh T K ⟨d,g,.load n bJ x⟩ st=wpS K (bF st.mem st.tm (.load n bJ x)) d st:=bu
@[go_sem] def awQ (n:Nat)(x v:bx):gh T K ⟨d,g,.store n x v⟩ st=wpS K (bF st.mem st.tm (.store n x v)) d st:=bu
@[go_sem] def awR (op:BinOp)(x y:bx):gh T K ⟨d,g,.bin op x y⟩ st=wpS K (bF st.mem st.tm (.bin op x y)) d st:=bu
@[go_sem] def awS (b:Bool)(n:List Nat)(x y:bx):gh T K ⟨d,g,.eqs b n x y⟩ st=wpS K (bF st.mem st.tm (.eqs b n x y)) d st:=bu
@[go_sem] def awT (b:Bool)(x y:bx):gh T K ⟨d,g,.beq b x y⟩ st=wpS K (bF st.mem st.tm (.beq b x y)) d st:=bu
@[go_sem] def awU (op:UnOp)(x:bx):gh T K ⟨d,g,.un op x⟩ st=wpS K (bF st.mem st.tm (.un op x)) d st:=bu
@[go_sem] def awV (k:IntKind)(x:bx):gh T K ⟨d,g,.conv k x⟩ st=wpS K (bF st.mem st.tm (.conv k x)) d st:=bu
@[go_sem] def awW (x:bx):gh T K ⟨d,g,.uG x⟩ st=wpS K (bF st.mem st.tm (.uG x)) d st:=bu
@[go_sem] def awX (k:Key)(z:List I)(b:Nat)(x y:bx):gh T K ⟨d,g,.la k z b x y⟩ st=wpS K (bF st.mem st.tm (.la k z b x y)) d st:=bu
@[go_sem] def awY (o:Nat)(x:bx):gh T K ⟨d,g,.tk o x⟩ st=wpS K (bF st.mem st.tm (.tk o x)) d st:=bu
@[go_sem] def awZ (o n:Nat)(bJ:Bool)(x:bx):gh T K ⟨d,g,.xD o n bJ x⟩ st=wpS K (bF st.mem st.tm (.xD o n bJ x)) d st:=bu
@[go_sem] def aw0 (s:Nat)(x i:bx):gh T K ⟨d,g,.uH s x i⟩ st=wpS K (bF st.mem st.tm (.uH s x i)) d st:=bu
@[go_sem] def aw1 (n s:Nat)(x i:bx):gh T K ⟨d,g,.Bi n s x i⟩ st=wpS K (bF st.mem st.tm (.Bi n s x i)) d st:=bu
@[go_sem] def aw2 (x i:bx):gh T K ⟨d,g,.idxs x i⟩ st=wpS K (bF st.mem st.tm (.idxs x i)) d st:=bu
@[go_sem] def aw3 (s:Nat)(x:bx)(a b c:Option bx):gh T K ⟨d,g,.q1 s x a b c⟩ st=wpS K (bF st.mem st.tm (.q1 s x a b c)) d st:=bu
@[go_sem] def aw4 (n s:Nat)(x:bx)(a b c:Option bx):gh T K ⟨d,g,.tl n s x a b c⟩ st=wpS K (bF st.mem st.tm (.tl n s x a b c)) d st:=bu
@[go_sem] def aw5 (x:bx)(a b:Option bx):gh T K ⟨d,g,.Bj x a b⟩ st=wpS K (bF st.mem st.tm (.Bj x a b)) d st:=bu
@[go_sem] def aw6 (i:Nat)(x:bx):gh T K ⟨d,g,.ext i x⟩ st=wpS K (bF st.mem st.tm (.ext i x)) d st:=bu
@[go_sem] def aw7 (x:bx):gh T K ⟨d,g,.len x⟩ st=wpS K (bF st.mem st.tm (.len x)) d st:=bu
@[go_sem] def aw8 (x:bx):gh T K ⟨d,g,.lens x⟩ st=wpS K (bF st.mem st.tm (.lens x)) d st:=bu
@[go_sem] def aw9 (k:Key)(z:List I)(b:Nat)(s x:bx):gh T K ⟨d,g,.app k z b s x⟩ st=wpS K (bF st.mem st.tm (.app k z b s x)) d st:=bu
@[go_sem] def axa (z:List I)(x:bx):gh T K ⟨d,g,.tn z x⟩ st=wpS K (bF st.mem st.tm (.tn z x)) d st:=bu
@[go_sem] def axb (s:Nat)(x y:bx):gh T K ⟨d,g,.q2 s x y⟩ st=wpS K (bF st.mem st.tm (.q2 s x y)) d st:=bu
@[go_sem] def axc (b:Bool)(x y:bx):gh T K ⟨d,g,.lS b x y⟩ st=wpS K (bF st.mem st.tm (.lS b x y)) d st:=bu
@[go_sem] def axd (f:FuncId)(l:List bx):gh T K ⟨d,g,.uI f l⟩ st=wpS K (bF st.mem st.tm (.uI f l)) d st:=bu
def uW (K:a8->Prop)(x:Option gH)(d:Option Nat)(st:a8):Prop :=
 match x with
 |some (.same r)=>K ⟨put st.tm d (.J r),st.mem⟩
 |some (.own _ es)=>K ⟨put st.tm d (.J (.ar es)),st.mem⟩
 |some (.rel bH)=>∀r mem',bH r mem'->K ⟨put st.tm d r,mem'⟩
 |some (.ea r k g i c)=>K ⟨put st.tm d (.J r),aV st.mem k g ((qe st.mem k).set i c)⟩
 |some (.xG r k)=>K ⟨put st.tm d (.J r),aV st.mem k (bB st.mem k) []⟩
 |none=>False
@[go_sem] def axe (f:FuncId)(l:List bx):gh T K ⟨d,g,.call f l⟩ st=uW K (T f (l.map (aM st.tm)) st.mem) d st:=bu
@[go_sem] def axf (r:Data)(k:Key)(g i:Nat)(c:I):uW K (some (.ea r k g i c)) d st=K ⟨put st.tm d (.J r),aV st.mem k g ((qe st.mem k).set i c)⟩:=bu
@[go_sem] def axg (r:Data)(k:Key):uW K (some (.xG r k)) d st=K ⟨put st.tm d (.J r),aV st.mem k (bB st.mem k) []⟩:=bu
@[go_sem] def axh (r:Data):uW K (some (.same r)) d st=K ⟨put st.tm d (.J r),st.mem⟩:=bu
@[go_sem] def axi (s:Nat)(es:List (List Data)):uW K (some (.own s es)) d st=K ⟨put st.tm d (.J (.ar es)),st.mem⟩:=bu
@[go_sem] def aj0 (bH:I->Mem->Prop):uW K (some (.rel bH)) d st=∀r mem',bH r mem'->K ⟨put st.tm d r,mem'⟩:=bu
def RI (T:bj)(K:a8->Prop)(m:I)(args:List I)(d:Option Nat)(st:a8):Prop :=
 match m with
 |.ef g dd=>uW K (T g (args++dd) st.mem) d st
 |.J (.fn g ds)=>uW K (T g (args++ds.map .J) st.mem) d st
 |_=>False
@[go_sem] def axj (f:bx)(l:List bx):gh T K ⟨d,g,.jN f l⟩ st=RI T K (aM st.tm f) (l.map (aM st.tm)) d st:=bu
@[go_sem] def axk (f:FuncId)(dd args:List I):RI T K (.ef f dd) args d st=uW K (T f (args++dd) st.mem) d st:=bu
@[go_sem] def axl (f:FuncId)(ds:List Data)(args:List I):RI T K (.J (.fn f ds)) args d st=uW K (T f (args++ds.map .J) st.mem) d st:=bu
def RJ (K:a8->Prop)(x:Option gH)(k:Key)(sz:Nat)(d:Option Nat)(st:a8):Prop :=
 match x with
 |some (.own eh es)=>if eh=sz then K ⟨put st.tm d (.ref k (bB st.mem k) sz 0 (D es)),aV st.mem k (bB st.mem k) (es.flatten.map .J)⟩ else False
 |_=>False
@[go_sem] def axm (k:Key)(sz:Nat)(f:FuncId)(l:List bx):gh T K ⟨d,g,.lb k sz f l⟩ st=RJ K (T f (l.map (aM st.tm)) st.mem) k sz d st:=bu
@[go_sem] def axn (k:Key)(sz:Nat)(es:List (List Data)):RJ K (some (.own sz es)) k sz d st=K ⟨put st.tm d (.ref k (bB st.mem k) sz 0 (D es)),aV st.mem k (bB st.mem k) (es.flatten.map .J)⟩:=by simp[RJ]
def YG (K:a8->Prop)(neg:Bool)(x:Option Bool)(d:Option Nat)(st:a8):Prop :=
 match x with
 |some full=>∀b:Bool,(full=true->b=false)->K ⟨put st.tm d (.J (.bool (neg != b))),st.mem⟩
 |none=>False
@[go_sem] def axo (neg:Bool)(x:bx):gh T K ⟨d,g,.lR neg x⟩ st=YG K neg (xH (aM st.tm x)) d st:=bu
@[go_sem] def axp (neg full:Bool):YG K neg (some full) d st=∀b:Bool,(full=true->b=false)->K ⟨put st.tm d (.J (.bool (neg != b))),st.mem⟩:=bu
end
section
variable {tm:Nat->I} {mem:Mem}
@[go_sem] def axq (s:Nat):aM tm (.t s)=tm s:=bu
@[go_sem] def axr (m:I):aM tm (.c m)=m:=bu
@[go_sem] def axs (s:Nat)(m:I):put tm (some s) m=ea tm s m:=bu
@[go_sem] def axt (m:I):put tm none m=tm:=bu
@[go_sem] def axu (s:Nat)(m:I)(t:Nat):ea tm s m t=if t=s then m else tm t:=bu
@[go_sem] def axv (k:Key)(g:Nat)(cs:List I)(j:Key):aV mem k g cs j=if j=k then some (g,cs) else mem j:=bu
@[go_sem] def axw:gg mem none=mem:=bu
@[go_sem] def axx (k:Key)(g:Nat)(cs:List I):gg mem (some (k,g,cs))=aV mem k g cs:=bu
def gM:Option (Nat×List I)->Nat
 |none=>0
 |some (g,_)=>g+1
@[go_sem] def axy (k:Key):bB mem k=gM (mem k):=by unfold bB gM;rfl
@[go_sem] def axz:gM none=0:=bu
@[go_sem] def axA (g:Nat)(cs:List I):gM (some (g,cs))=g+1:=bu
@[go_sem] def axB (k:Key):emp k=none:=bu
@[go_sem] def axC:g9 tm none=some true:=bu
def MK (m:I)(b:Bool):Option Bool :=
 match m with
 |.J (.bool t)=>some (t==b)
 |.no=>some false
 |_=>none
@[go_sem] def axD (s:Nat)(b:Bool):g9 tm (some (s,b))=MK (tm s) b:=bu
@[go_sem] def axE (b:Bool):MK .no b=some false:=bu
variable (op:fN)
@[go_sem] def axF (m:I):iv (some m)=some (m,none):=bu
@[go_sem] def axG (x:bx):bF mem tm (.iu x)=some (aM tm x,none):=bu
@[go_sem] def axH (c a b:bx):bF mem tm (.pick c a b)=iv (D3 (aM tm c) (aM tm a) (aM tm b)):=bu
@[go_sem] def axI (a b:I):D3 (.J (.bool true)) a b=some a:=bu
@[go_sem] def axJ (a b:I):D3 (.J (.bool false)) a b=some b:=bu
@[go_sem] def axK (k:Key)(z:List I):bF mem tm (.alloc k z)=some (.ptr k (bB mem k) 0,some (k,bB mem k,z)):=bu
@[go_sem] def axL (k:Key)(x:bx):bF mem tm (.box k x)=if (aM tm x).known=true then some (.ptr k (bB mem k) 0,some (k,bB mem k,(aM tm x).cells)) else none:=bu
@[go_sem] def axM (z:List I)(cV:List (Nat×Nat×bx)):bF mem tm (.build z cV)=iv ((kd (aM tm) z cV).map .agg):=bu
@[go_sem] def axN (k:Key)(z:List I)(sz len:Nat)(cV:List (Nat×Nat×bx)):bF mem tm (.dN k false z sz len cV)=iv (Hm z sz len (kd (aM tm) z cV)):=bu
@[go_sem] def axO (k:Key)(z:List I)(sz len:Nat)(cV:List (Nat×Nat×bx)):bF mem tm (.dN k true z sz len cV)=D6 k (bB mem k) z sz len (kd (aM tm) z cV):=bu
@[go_sem] def axP (n:Nat)(bJ:Bool)(x:bx):bF mem tm (.load n bJ x)=iv (iW mem n bJ (aM tm x)):=bu
@[go_sem] def axQ (n:Nat)(x v:bx):bF mem tm (.store n x v)=wa mem n (aM tm x) (aM tm v).cells:=bu
@[go_sem] def axR (b:BinOp)(x y:bx):bF mem tm (.bin b x y)=iv (D1 b (aM tm x) (aM tm y)):=bu
@[go_sem] def axS (neg:Bool)(x y:bx):bF mem tm (.beq neg x y)=iv (D2 neg (aM tm x) (aM tm y)):=bu
@[go_sem] def axT (neg:Bool)(n:List Nat)(x y:bx):bF mem tm (.eqs neg n x y)=iv (Hn neg n (aM tm x) (aM tm y)):=bu
@[go_sem] def axU (u:UnOp)(x:bx):bF mem tm (.un u x)=iv (Hl u (aM tm x)):=bu
@[go_sem] def axV (k:IntKind)(x:bx):bF mem tm (.conv k x)=iv (Ho k (aM tm x)):=bu
@[go_sem] def axW (x:bx):bF mem tm (.uG x)=iv (Hp (aM tm x)):=bu
@[go_sem] def axX (k:Key)(z:List I)(b:Nat)(x y:bx):bF mem tm (.la k z b x y)=Hz (idx (aM tm x)) (idx (aM tm y)) (D7 k (bB mem k) z b):=bu
@[go_sem] def axY (o:Nat)(x:bx):bF mem tm (.tk o x)=iv (D4 o (aM tm x)):=bu
@[go_sem] def axZ (o n:Nat)(bJ:Bool)(x:bx):bF mem tm (.xD o n bJ x)=iv (D5 o n bJ (aM tm x)):=bu
@[go_sem] def ax0 (s:Nat)(x i:bx):bF mem tm (.uH s x i)=iv (hD (idx (aM tm i)) λn=>Hq s n (aM tm x)):=bu
@[go_sem] def ax1 (n s:Nat)(x i:bx):bF mem tm (.Bi n s x i)=iv (hD (idx (aM tm i)) λm=>Hr n s m (aM tm x)):=bu
@[go_sem] def ax2 (x i:bx):bF mem tm (.idxs x i)=iv (hD (idx (aM tm i)) λn=>Hs n (aM tm x)):=bu
@[go_sem] def ax3 (s:Nat)(x:bx)(b8 ab:Option bx):bF mem tm (.q1 s x b8 ab none)=iv (hD (jx 0 (b8.map (aM tm))) λl=>hD (tp (aM tm x)) λlen=>hD (jx len (ab.map (aM tm))) λh=>Ht s l h (aM tm x)):=bu
@[go_sem] def ax4 (s:Nat)(x h m:bx)(b8:Option bx):bF mem tm (.q1 s x b8 (some h) (some m)) =
 iv (hD (jx 0 (b8.map (aM tm))) λl=>hD (idx (aM tm h)) λh=>hD (idx (aM tm m)) λm=>Hu s l h m (aM tm x)):=bu
@[go_sem] def ax5 (n s:Nat)(x:bx)(b8 ab:Option bx):bF mem tm (.tl n s x b8 ab none)=iv (hD (jx 0 (b8.map (aM tm))) λl=>hD (jx n (ab.map (aM tm))) λh=>zD mem n s l h (aM tm x)):=bu
@[go_sem] def ax6 (x:bx)(b8 ab:Option bx):bF mem tm (.Bj x b8 ab)=iv (hD (jx 0 (b8.map (aM tm))) λl=>hD (xF (aM tm x)) λlen=>hD (jx len (ab.map (aM tm))) λh=>Hv l h (aM tm x)):=bu
@[go_sem] def ax7 (i:Nat)(x:bx):bF mem tm (.ext i x)=iv (Hw i (aM tm x)):=bu
@[go_sem] def ax8 (x:bx):bF mem tm (.len x)=iv (hD (tp (aM tm x)) λn=>some (.J (.int .i64 n))):=bu
@[go_sem] def ax9 (x:bx):bF mem tm (.lens x)=iv (hD (xF (aM tm x)) λn=>some (.J (.int .i64 n))):=bu
@[go_sem] def aya (k:Key)(z:List I)(b:Nat)(s x:bx):bF mem tm (.app k z b s x)=qd mem k z b (aM tm s) (px mem (D z) (aM tm x)):=bu
@[go_sem] def ayb (z:List I)(x:bx):bF mem tm (.tn z x)=wb mem z (aM tm x):=bu
@[go_sem] def ayc (s:Nat)(x y:bx):bF mem tm (.q2 s x y)=uJ mem s (aM tm x) (px mem s (aM tm y)):=bu
@[go_sem] def ayd (b:Bool)(x y:bx):bF mem tm (.lS b x y)=iv (Hx b (aM tm x) (aM tm y)):=bu
@[go_sem] def aye (f:FuncId)(l:List bx):bF mem tm (.uI f l)=some (.ef f (l.map (aM tm)),none):=bu
@[go_sem] def ayf (n:Nat)(f:Nat->Option I):hD (some n) f=f n:=bu
@[go_sem] def ayg (n m:Nat)(f:Nat->Nat->Out):Hz (some n) (some m) f=f n m:=bu
def ML (n:Nat)(bJ:Bool)(g off:Nat):Option (Nat×List I)->Option I
 |some (cx,cs)=>if cx=g then (cut cs off n).bind (oF bJ) else none
 |none=>none
@[go_sem] def ayh (n:Nat)(bJ:Bool)(k:Key)(g off:Nat):iW mem n bJ (.ptr k g off)=ML n bJ g off (mem k):=by unfold iW ML;rfl
@[go_sem] def ayi (n:Nat)(bJ:Bool)(g off:Nat)(cs:List I):ML n bJ g off (some (g,cs))=(cut cs off n).bind (oF bJ):=by simp[ML]
@[go_sem] def ayj (n:Nat)(bJ:Bool)(ds:List Data):iW mem n bJ (.J (.ptr ds))=(cut (ds.map .J) 0 n).bind (oF bJ):=bu
@[go_sem] def ayk (n:Nat)(k:Key)(g off:Nat)(v:List I):wa mem n (.ptr k g off) v=HA n k g off v (mem k):=bu
@[go_sem] def ayl (cs:List I):oF true cs=some (.agg cs):=bu
@[go_sem] def aym (m:I):oF false [m]=some m:=bu
@[go_sem] def ayn (cs:List I):(I.agg cs).cells=cs:=bu
@[go_sem] def ayo (cs:List Data):(I.J (.agg cs)).cells=cs.map .J:=bu
@[go_sem] def ayp (k:IntKind)(n:Int):(I.J (.int k n)).cells=[.J (.int k n)]:=bu
@[go_sem] def ayq (b:Bool):(I.J (.bool b)).cells=[.J (.bool b)]:=bu
@[go_sem] def ayr (l:List UInt8):(I.J (.str l)).cells=[.J (.str l)]:=bu
@[go_sem] def ays (l:List (List Data)):(I.J (.ar l)).cells=[.J (.ar l)]:=bu
@[go_sem] def ayt (l:List Data):(I.J (.ptr l)).cells=[.J (.ptr l)]:=bu
@[go_sem] def ayu (f:FuncId)(l:List Data):(I.J (.fn f l)).cells=[.J (.fn f l)]:=bu
@[go_sem] def ayv:I.nil.cells=[.nil]:=bu
@[go_sem] def ayw (k:Key)(g s o l:Nat):(I.ref k g s o l).cells=[.ref k g s o l]:=bu
@[go_sem] def ayx (k:Key)(g o:Nat):(I.ptr k g o).cells=[.ptr k g o]:=bu
@[go_sem] def ayy (f:FuncId)(l:List I):(I.ef f l).cells=[.ef f l]:=bu
@[go_sem] def ayz (k:IntKind)(n:Nat):idx (.J (.int k (n:Int)))=some n:=by simp[idx]
@[go_sem] def ayA (k:IntKind):idx (.J (.int k 0))=some 0:=bu
@[go_sem low] def ayB (k:IntKind)(n:Int):idx (.J (.int k n))=if 0<=n then some n.toNat else none:=bu
end
attribute [go_sem] Bl D2 D1 Hl Ho Hp D4 D5 Hq Hr Hs Ht Hu zD Rd Hv Hw Hx jx tp xF HA uJ zE wb Mk D7 D6 Hm Hn zC Mh kd kv cut chunk
 D0 Me Mf Mg xH shut rV I.one I.known px rW cy zG HD qf qe D8 HF Rf HG Rg HE Re Mn uK keyOf gi rX qg jl eX ke Ea jO
end Go.Mini
namespace Go.Mini
open Go
variable {P:Program} {A:Nat->Prop} {w:World} {B:cU} {mem:Mem}
def xZ (w an:World)(aw:Nat->Prop)(sz:Nat)(es:List (List Data))(v:Value):Prop :=
 (∀e∈es,D e=sz)/\∃a cap,v=.slice a (D es) cap/\D es<=cap/\cap<=maxLen /\
  (cap=0\/∃b vs T,a=some ⟨b,0,none⟩/\w.heap.size<=b/\an.heap[b]?=some (.cells vs T (0,0))/\cap*sz<=vs.size /\
   ∀(i:Nat) (d:Data),es.flatten[i]?=some d->∃u,vs[i]?=some u/\Den an (λeG=>aw eG\/eG=b) d u)
def RK (P:Program)(f:FuncId)(vs:List Value)(A:Nat->Prop)(w:World)(B:cU)(mem:Mem):gH->Prop
 |.same r=>Calls P f vs.toArray w λe an=>∃v,e=.returned v/\Fr (λ_=>False) w an/\Den an (bp A B) r v
 |.own sz es=>Calls P f vs.toArray w λe an=>∃v,e=.returned v/\Fr (λ_=>False) w an/\xZ w an (bp A B) sz es v
 |.rel bH=>Calls P f vs.toArray w λe an=>∃v r mem' aA,e=.returned v/\da A w B an aA mem'/\a0 an (bp A aA) aA r v/\bH r mem'
 |.xG r k=>Calls P f vs.toArray w λe an=>∃v aA,e=.returned v/\da A w B an aA (aV mem k (bB mem k) [])/\a0 an (bp A aA) aA (.J r) v
 |.ea r k g i c=>Calls P f vs.toArray w λe an=>∃v aA,e=.returned v/\da A w B an aA (aV mem k g ((qe mem k).set i c))/\a0 an (bp A aA) aA (.J r) v
def Real (P : Program)(f : FuncId): Prop := ∃ fn c, P.funcs[f]? = some fn /\ fn.body = some c /\ (fn.name == "runtime.NumGoroutine") = false
def nh (P:Program)(T:bj):Prop:=∀f args mem oa,T f args mem=some oa->Real P f /\
 ∀A w B vs,dQ A w B mem->cC w (bp A B) B args vs->RK P f vs A w B mem oa
def By {f:FuncId}(h:Real P f)(args:Array Value):(callFunc f args).run P w=.ok (.enter f args) w:=by
 obtain⟨fn,c,al,U,aC⟩:=h;have F : fn.name ≠ "runtime.NumGoroutine" := by simpa using aC
 simp[callFunc,al,F,U]
def Den.less {w:World}{aw hj:Nat->Prop}(h:∀b,hj b->aw b){d:Data}{v:Value}(af:Den w aw d v):Den w hj d v :=
 af.j9 (c9 _) λb _ U=>⟨rfl,λL=>U (h b L)⟩
def xZ.den {w an:World}{aw:Nat->Prop}{sz:Nat}{es:List (List Data)}{v:Value}(aq:∀b,aw b->b<w.heap.size)(h:xZ w an aw sz es v):Den an aw (.ar es) v:=by
 obtain⟨he,a,cap,rfl,F,G,ad⟩:=h;rcases ad with rfl|⟨b,vs,T,rfl,aZ,bw,bA,bM⟩
 ·have:es=[]:=q9 (by omega);subst this;exact .kP
 ·have mq:b<an.heap.size:=(Array.getElem?_eq_some_iff.1 bw).1;refine .ar (sz:=sz) (λi=>vs.getD i undef) F (by omega) mq (λa6=>by have:=aq b a6;omega) he (λi ab=>?_) λi d af=>?_
  ·have aq:i<D es.flatten:=by rw[L7 he];exact ab
   obtain⟨u,hu,_⟩:=bM i _ (bf aq);rw[cell_of_row an b _ vs T (0,0) bw,r1,Array.getD_eq_getD_getElem?,hu]
   rfl
  ·obtain⟨u,hu,af⟩:=bM i d af;rw[Array.getD_eq_getD_getElem?,hu];exact af.less λb h => .inl h
def YH {an:World}{sz:Nat}{es:List (List Data)}{v:Value}(k:Key)(bk:dQ A w B mem)(f:Fr (λ_=>False) w an)(h:xZ w an (bp A B) sz es v):
  ∃aA,da A w B an aA (aV mem k (bB mem k) (es.flatten.map .J))/\a0 an (bp A aA) aA (.ref k (bB mem k) sz 0 (D es)) v:=by
 obtain⟨he,a,cap,rfl,F,G,ad⟩:=h;have still:=da.still bk f;rcases ad with rfl|⟨b,vs,T,rfl,aZ,bw,bA,bM⟩
 ·have:es=[]:=q9 (by omega);subst this;exact⟨_,still.trans (da.wh still.cu k),.ref (fz _ _ _) (c9 _) ⟨_,0,rfl,F,G,.inl rfl⟩⟩
 ·have mq:b<an.heap.size:=(Array.getElem?_eq_some_iff.1 bw).1
  have jP:∀eG,(⟨bB mem k,some b,vs.size,false⟩:hv).dk=some eG->w.heap.size<=eG\/∃e,B k=some e/\e.dk=some eG:=λeG hE=>by
   cases hE;exact .inl aZ
  have jQ:=L7 he;have hmul:(D es)*sz<=cap*sz:=q7 _ F;have hold:∀eG,eG<w.heap.size->(∀e,B k=some e->e.dk≠some eG)->an.heap[eG]?=w.heap[eG]?:=λeG hE _=>f.block eG hE id;have aN:∀e,B k=some e->(⟨bB mem k,some b,vs.size,false⟩:hv)=e\/e.g<(⟨bB mem k,some b,vs.size,false⟩:hv).g:=λe he => .inr (zH bk k e he);refine⟨e4 B k ⟨bB mem k,some b,vs.size,false⟩,⟨?_,Trans.change f.size hold aN jP,⟨f.os,f.tape,f.output,f.size,λeG hE _=>f.block eG hE id⟩,Ms jP⟩,?_⟩
  ·refine bk.Ri (e':=⟨bB mem k,some b,vs.size,false⟩) f.size hold aN jP (λh=>by cases h) λeG hE=>?_
   cases hE;refine .inl ⟨rfl,vs,T,bw,rfl,by rw[aj,jQ];omega,λi m hm=>?_⟩
   rw[bg,c4] at hm;obtain⟨d,af,rfl⟩:=hm;obtain⟨u,hu,sb⟩:=bM i d af;refine⟨u,hu,.J (sb.less λeG hE=>?_)⟩;rcases hE with ⟨j,e,aa,L⟩|bc
   ·by_cases b3:j=k
    ·subst b3;rw[fz] at aa
     cases aa
     cases L;exact .inr rfl
    ·rw[fm B _ b3] at aa;exact .inl (.inl ⟨j,e,aa,L⟩)
   ·exact .inl (.inr bc)
  ·exact .ref (fz _ _ _) (c9 _) ⟨_,cap,rfl,F,G,.inr ⟨b,rfl,λ_=>⟨rfl,by simpa using bA,rfl⟩⟩⟩
end Go.Mini
namespace Go.Mini
open Go
variable {P:Program} {b4:Option I} {T:bj} {A:Nat->Prop} {ct w:World} {dE B:cU} {mem:Mem} {n:Nat}
def HY (w:World)(aw:Nat->Prop)(B:cU):Option I->List Deferred->Prop
 |none,ds=>ds=[]
 |some m,ds=>∃f dd vs,m=.ef f dd/\ds=[{ target:=.fn (.func f) vs,args:=#[] }]/\a0 w aw B m (.func (.func f) #[] vs)
def HY.j9 {an:World}{aA:cU}(t:Trans A w B an aA):∀{d:Option I} {ds:List Deferred},HY w (bp A B) B d ds->HY an (bp A aA) aA d ds
 |none,_,h=>h
 |some _,_,⟨f,dd,vs,F,G,ad⟩=>⟨f,dd,vs,F,G,ad.j9 t⟩
structure dS (b4:Option I) (n:Nat) (A:Nat->Prop) (ct:World) (dE:cU) (a:Act) (st:a8) (w:World) (B:cU):Prop where
 ok:da A ct dE w B st.mem
 tm:∀s,a0 w (bp A B) B (st.tm s) (a.eval (.tmp s))
 sz:a.tmps.size=n
 wv:HY w (bp A B) B b4 a.defers
def dS.kh {a:Act}{st:a8}(h:dS b4 n A ct dE a st w B)(x:Operand)(y:bx)(L:cP x=some y):a0 w (bp A B) B (aM st.tm y) (a.eval x):=by
 cases x<;>simp only[cP,bO,c4,reduceCtorEq] at L
 ·subst L;exact h.tm _
 ·obtain⟨m,hm,rfl⟩:=L;exact XX hm
 ·subst L;exact .ef (vs:=[]) rfl λi d v F=>by simp at F
def aj1 {a:Act}{s:Nat}{v:Value}(h:s<a.tmps.size):(a.put (some s) v).eval (.tmp s)=v:=by
 simp[Act.eval,Act.put,h]
def dS.put {a:Act}{st:a8}{an:World}{aA:cU}{mem':Mem}{dst:Option Nat}{r:I}{v:Value}(h:dS b4 n A ct dE a st w B)(Q:da A w B an aA mem')(M:a0 an (bp A aA) aA r v)
  (af:dst.all (λd=>decide (d<n))=true):dS b4 n A ct dE (a.put dst v) ⟨Mini.put st.tm dst r,mem'⟩ an aA:=by
 refine⟨h.ok.trans Q,λs=>?_,?_,?_⟩
 ·cases dst with
  |none=>exact (h.tm s).j9 Q.iH
  |some d =>
   simp only[Option.all_some,decide_eq_true_eq] at af
   by_cases RL:s=d
   ·subst RL;rw[aj1 (by rw[h.sz];exact af)];simp only[Mini.put,ea,if_true];exact M
   ·rw[Act.eval_put (λqt F G=>by cases F;cases G;exact RL rfl)];simp only[Mini.put,ea,aT RL];exact (h.tm s).j9 Q.iH
 ·cases dst<;>simp[Act.put,h.sz]
 ·have mP:(a.put dst v).defers=a.defers:=by cases dst<;>rfl
  rw[mP];exact h.wv.j9 Q.iH
def zQ {a:Act}{st:a8}{ops:Array Oper}{o:Oper}{g:Option (Nat×Bool)}{b:Bool}(h:dS b4 n A ct dE a st w B)(aN:HJ ops o.guard=some g)(U:g9 st.tm g=some b):
  Region.wanted o (yielded ops a.tmps)=b:=by
 unfold Region.wanted
 cases qk:o.guard with
 |none =>
  rw[qk] at aN;simp only[HJ,bO] at aN;subst aN;simp only[g9,bO] at U;exact U
 |some p =>
  obtain⟨j,c⟩:=p;rw[qk] at aN;simp only[HJ] at aN
  split at aN
  ·rename_i s Q;simp only[bO] at aN;subst aN;have ao:=h.tm s
   have ak:yielded ops a.tmps j=match a.eval (.tmp s) with|.bool b=>some b|_=>none:=by
    unfold yielded;rw[Q];simp only[Option.bind_some,Act.eval,Array.getD_eq_getD_getElem?]
    cases a.tmps[s]? with
    |none=>rfl
    |some v=>cases v<;>rfl
   simp only[g9] at U;simp only[ak]
   split at U
   ·rename_i t bN;rw[bN] at ao
    cases ao with
    |J ao =>
     generalize a.eval (.tmp s)=u at *
     cases ao;simp only[bO] at U;subst U
     cases t<;>cases c<;>simp
   ·rename_i bN;rw[bN] at ao;generalize a.eval (.tmp s)=u at *
    cases ao;simp only[bO] at U;subst U
    rfl
   ·cases U
  ·cases aN
def HZ {kb:Nat}{own:List Nat}{dst:Option Nat}{ty:TypeId}{op:Op}{f:FuncId}{args:List bx}(h:gX P kb own dst ty op=some (.call f args)):
  ∃c:Call,op=.call c/\c.callee=.value (.func f)/\c.args.toList.mapM cP=some args:=by
 cases op<;>simp only[gX,tv,tu] at h
 case call c =>
  refine⟨c,rfl,?_⟩;unfold rZ at h
  (repeat' split at h)<;>simp_all [dI,c4]
 all_goals ((repeat' split at h)<;>simp_all [dI,c4])
def aj2 {kb:Nat}{own:List Nat}{dst:Option Nat}{ty:TypeId}{op:Op}{f:FuncId}{b8:Nat}{args:List bx}(h:gX P kb own dst ty op=some (.kQ b8 f args)):
  ∃c:Call,op=.call c/\c.callee=.value (.func f)/\c.args.toList.mapM cP=some args:=by
 cases op<;>simp only[gX,tv,tu] at h
 case call c =>
  refine⟨c,rfl,?_⟩;unfold rZ at h
  (repeat' split at h)<;>simp_all [dI,c4]
  all_goals
   obtain⟨_,F,_,rfl,rfl⟩:=h;exact⟨rfl,F⟩
 all_goals ((repeat' split at h)<;>simp_all [dI,c4])
def aj3 {kb:Nat}{own:List Nat}{dst:Option Nat}{ty:TypeId}{op:Op}{f:FuncId}{b8:Nat}{args:List bx}(h:gX P kb own dst ty op=some (.qb b8 f args)):
  ∃c:Call,op=.call c/\c.callee=.value (.func f)/\c.args.toList.mapM cP=some args:=by
 cases op<;>simp only[gX,tv,tu] at h
 case call c =>
  refine⟨c,rfl,?_⟩;unfold rZ at h
  (repeat' split at h)<;>simp_all [dI,c4]
  all_goals
   obtain⟨_,F,_,rfl,rfl⟩:=h;exact⟨rfl,F⟩
 all_goals ((repeat' split at h)<;>simp_all [dI,c4])
def aj4 {kb:Nat}{own:List Nat}{dst:Option Nat}{ty:TypeId}{op:Op}{f:FuncId}{b8:Nat}{args:List bx}(h:gX P kb own dst ty op=some (.qc b8 f args)):
  ∃c:Call,op=.call c/\c.callee=.value (.func f)/\c.args.toList.mapM cP=some args:=by
 cases op<;>simp only[gX,tv,tu] at h
 case call c =>
  refine⟨c,rfl,?_⟩;unfold rZ at h
  (repeat' split at h)<;>simp_all [dI,c4]
  all_goals
   obtain⟨_,F,_,rfl,rfl⟩:=h;exact⟨rfl,F⟩
 all_goals ((repeat' split at h)<;>simp_all [dI,c4])
def YI {kb:Nat}{own:List Nat}{dst:Option Nat}{ty:TypeId}{op:Op}{f:FuncId}{k:Key}{sz:Nat}{args:List bx}(h:gX P kb own dst ty op=some (.lb k sz f args)):
  ∃c:Call,op=.call c/\c.callee=.value (.func f)/\c.args.toList.mapM cP=some args:=by
 cases op<;>simp only[gX,tv,tu] at h
 case call c =>
  refine⟨c,rfl,?_⟩;unfold rZ at h
  (repeat' split at h)<;>simp_all [dI,c4]
  obtain⟨_,_,_,_,_,F,_,_,rfl,rfl⟩:=h;exact⟨rfl,F⟩
 all_goals ((repeat' split at h)<;>simp_all [dI,c4])
def RM {kb:Nat}{own:List Nat}{dst:Option Nat}{ty:TypeId}{op:Op}{f:bx}{args:List bx}(h:gX P kb own dst ty op=some (.jN f args)):
  ∃(c:Call) (x:Operand),op=.call c/\c.callee=.value x/\cP x=some f/\c.args.toList.mapM cP=some args:=by
 cases op<;>simp only[gX,tv,tu] at h
 case call c =>
  refine⟨c,?_⟩;unfold rZ at h
  (repeat' split at h)<;>simp_all [dI,c4]
 all_goals ((repeat' split at h)<;>simp_all [dI,c4])
def YJ {kb:Nat}{own:List Nat}{dst:Option Nat}{ty:TypeId}{op:Op}{neg:Bool}{x:bx}(h:gX P kb own dst ty op=some (.lR neg x)):
  ∃(t e:TypeId) (y y':Operand) (z:TypeId),op=.binOp (if neg then .neq else .eql) t y y' z/\Mr y'=true/\P.underlying t=some (.slice e)/\cP y=some x:=by
 cases op<;>simp only[gX,tv,tu] at h
 case call c =>
  unfold rZ at h
  (repeat' split at h)<;>simp_all [dI,c4]
 case binOp HW t y y' z =>
  (repeat' split at h)<;>simp_all [dI,c4]
  all_goals
   obtain⟨F,rfl⟩:=h;exact⟨_,_,_,_,⟨rfl,rfl,rfl⟩,by assumption,by assumption,F⟩
 all_goals ((repeat' split at h)<;>simp_all [dI,c4])
end Go.Mini
namespace Go.Mini
open Go
variable {P:Program} {b4:Option I} {T:bj} {A:Nat->Prop} {ct w:World} {dE B:cU} {mem:Mem} {n:Nat}
def YK {t e:TypeId}{y y':Operand}{m:I}{u v:Value}{aw:Nat->Prop}{full:Bool}(neg:Bool)(bN:P.underlying t=some (.slice e))(hm:a0 w aw B m u)(al:xH m=some full)(ao:v=.slice none 0 0):
  ∃b:Bool,(full=true->b=false)/\((do eqGuard (if neg then .neq else .eql) t y y' u v;binOp (if neg then .neq else .eql) t u v:Sem Value)).run P w=.ok (.bool (neg != b)) w:=by
 subst ao
 have shape:∃a len cap,u=.slice a len cap/\(full=true->a.isNone=false):=by
  cases m<;>simp only[xH,reduceCtorEq] at al
  case J d =>
   cases d<;>simp only[xH,bO,reduceCtorEq] at al
   cases hm with
   |J af =>
    cases af with
    |kP=>exact⟨_,_,_,rfl,λh=>by cases al;cases h⟩
    |ar=>exact⟨_,_,_,rfl,λ_=>rfl⟩
  case nil =>
   cases hm with
   |nil=>exact⟨_,_,_,rfl,λh=>by cases al;cases h⟩
  case ref k g sz off len =>
   cases hm with
   |ref he aN M =>
    obtain⟨a,cap,rfl,F,G,ad⟩:=M;refine⟨_,_,_,rfl,λh=>?_⟩;simp only[bO] at al;subst al;simp only[decide_eq_true_eq] at h;rcases ad with ad|⟨b,rfl,_⟩
    ·omega
    ·rfl
 obtain⟨a,len,cap,rfl,U⟩:=shape;refine⟨a.isNone,U,?_⟩
 have he:∀d,(Op.equalIn (d+1) t (.slice a len cap) (.slice none 0 0)).run P w=.ok a.isNone w:=λd=>by
  unfold Op.equalIn;simp only[Sem.run_bind,run_underlying bN,Result.andThen_ok]
  cases a<;>rfl
 have heq:(Op.equal t (.slice a len cap) (.slice none 0 0)).run P w=.ok a.isNone w:=he 9999;rw[Mt (by simp) (by simp)]
 cases neg
 ·simp only[cE,if_false,Sem.run_bind,Sem.run_pure,Result.andThen_ok];show (do pure (Value.bool (<-Op.equal t (.slice a len cap) (.slice none 0 0))):Sem Value).run P w=_
  simp[heq]
 ·simp only[if_true,Sem.run_bind,Sem.run_pure,Result.andThen_ok];show (do pure (Value.bool (!(<-Op.equal t (.slice a len cap) (.slice none 0 0)))):Sem Value).run P w=_
  simp[heq]
structure Et (P:Program) (n kb:Nat) (own:List Nat) (ops:Array Oper) (o:Oper) (i:bz):Prop where
 dst:i.dst=o.dst
 guard:HJ ops o.guard=some i.g
 op:i.op=(gX P kb own o.dst o.type o.op).getD .bad
 lt:o.dst.all (λd=>decide (d<n))=true
def H0 {kb:Nat}{own:List Nat}{ops:Array Oper}{o:Oper}{i:bz}(h:nC P n kb own ops o=some i):Et P n kb own ops o i:=by
 unfold nC at h
 split at h
 ·rename_i g aN
  split at h
  ·rename_i aq
   cases h;exact⟨rfl,aN,rfl,aq⟩
  ·cases h
 ·cases h
def aj5 {K:a8->Prop}{i:bz}{st:a8}(h:gh T K i st):
  (∃m e,bF st.mem st.tm i.op=some (m,e)/\K ⟨put st.tm i.dst m,gg st.mem e⟩) \/
  (∃f args,i.op=.call f args/\tq T K st i.dst f (args.map (aM st.tm))) \/
  (∃k sz f args es,i.op=.lb k sz f args/\T f (args.map (aM st.tm)) st.mem=some (.own sz es)/\K ⟨put st.tm i.dst (.ref k (bB st.mem k) sz 0 (D es)),aV st.mem k (bB st.mem k) (es.flatten.map .J)⟩) \/
  (∃f args,i.op=.jN f args/\((∃g dd,aM st.tm f=.ef g dd/\tq T K st i.dst g (args.map (aM st.tm)++dd))\/(∃g ds,aM st.tm f=.J (.fn g ds)/\tq T K st i.dst g (args.map (aM st.tm)++ds.map .J)))) \/
  (∃neg x full,i.op=.lR neg x/\xH (aM st.tm x)=some full/\∀b:Bool,(full=true->b=false)->K ⟨put st.tm i.dst (.J (.bool (neg != b))),st.mem⟩):=by
 obtain⟨dst,g,op⟩:=i;unfold gh at h
 split at h
 ·rename_i f args e5;exact .inr (.inl ⟨f,args,e5,h⟩)
 ·rename_i k sz f args e5
  split at h
  ·rename_i eh es he
   split at h
   ·rename_i Q;subst Q;exact .inr (.inr (.inl ⟨k,_,f,args,es,e5,he,h⟩))
   ·cases h
  ·cases h
 ·rename_i f args e5;refine .inr (.inr (.inr (.inl ⟨f,args,e5,?_⟩)))
  split at h
  ·rename_i g dd al;exact .inl ⟨g,dd,al,h⟩
  ·rename_i g ds al;exact .inr ⟨g,ds,al,h⟩
  ·cases h
 ·rename_i neg x e5
  split at h
  ·rename_i full al;exact .inr (.inr (.inr (.inr ⟨neg,x,full,e5,al,h⟩)))
  ·cases h
 ·split at h
  ·rename_i m e he;exact .inl ⟨m,e,he,h⟩
  ·cases h
def getD_some {α:Type}{x:Option α}{b c:α}(h:c=x.getD b)(U:c≠b):x=some c:=by
 cases x with
 |none=>exact absurd h U
 |some y=>simp at h;rw[h]
def YL (cw:nh P T){K:a8->Prop}{a:Act}{st:a8}{o:Oper}{a5:Exit->Act->World->Prop}{f:FuncId}{args:List I}{vs:List Value}(h:dS b4 n A ct dE a st w B)(aq:o.dst.all (λd=>decide (d<n))=true)
  (ao:cC w (bp A B) B args vs) (R:tq T K st o.dst f args) (eN:Real P f->(execOp a.eval o).run P w=.ok (.enter f vs.toArray) w) :
  o.wp P a w (λcD an=>∃cf aA,K cf/\dS b4 n A ct dE cD cf an aA) a5:=by
 unfold tq at R;unfold Oper.wp
 cases hH:T f args st.mem with
 |none=>rw[hH] at R;exact R.elim
 |some oa =>
  obtain⟨gz,iM⟩:=cw f args st.mem oa hH;have Y:=iM A w B vs h.ok.cu ao;rw[hH] at R;rw[eN gz]
  cases oa with
  |same r =>
   refine Calls.mono Y λe an he=>?_;obtain⟨v,rfl,dr,af⟩:=he;exact⟨_,B,R,h.put (.still h.ok.cu dr) (.J af) aq⟩
  |own sz es =>
   refine Calls.mono Y λe an he=>?_;obtain⟨v,rfl,dr,af⟩:=he;refine⟨_,B,R,h.put (.still h.ok.cu dr) (.J (af.den λb U=>?_)) aq⟩;rcases U with U|U
   ·exact h.ok.cu.rU U
   ·exact h.ok.cu.lt b U
  |xG r k =>
   refine Calls.mono Y λe an he=>?_;obtain⟨v,aA,rfl,dg,kR⟩:=he;exact⟨_,aA,R,h.put dg kR aq⟩
  |rel bH =>
   refine Calls.mono Y λe an he=>?_;obtain⟨v,r,mem',aA,rfl,Q,af,ed⟩:=he;exact⟨_,aA,R r mem' ed,h.put Q af aq⟩
  |ea r k g i c =>
   refine Calls.mono Y λe an he=>?_;obtain⟨v,aA,rfl,Q,af⟩:=he;exact⟨_,aA,R,h.put Q af aq⟩
def H2 {aw:Nat->Prop}{m:I}{u:Value}{g:FuncId}{dd:List I}(hm:a0 w aw B m u)(h:m=.ef g dd\/∃ds,m=.J (.fn g ds)/\dd=ds.map .J):
  ∃cs:List Value,u=.func (.func g) #[] cs.toArray/\cC w aw B dd cs:=by
 rcases h with rfl|⟨ds,rfl,rfl⟩
 ·cases hm with
  |ef ag af=>exact⟨_,rfl,ag,af⟩
 ·cases hm with
  |J af =>
   cases af with
   |fn ag af=>exact⟨_,rfl,cC.J ag af⟩
def aj6 (cw:nh P T){K:a8->Prop}{kb:Nat}{own:List Nat}{ops:Array Oper}{a:Act}{st:a8}{o:Oper}{i:bz}{a5:Exit->Act->World->Prop}(h:dS b4 n A ct dE a st w B)(ab:Et P n kb own ops o i)
  (R:gh T K i st):o.wp P a w (λcD an=>∃cf aA,K cf/\dS b4 n A ct dE cD cf an aA) a5:=by
 have e5:=ab.op;rcases aj5 R with ⟨m,e,Q,ei⟩|⟨f,args,he,ei⟩|⟨k,sz,f,args,es,he,hH,ei⟩|⟨f,args,he,ei⟩|⟨neg,x,full,he,al,ei⟩
 ·have ay:gX P kb own o.dst o.type o.op=some i.op:=getD_some e5 (by
   intro U;rw[U] at Q
   cases Q)
  obtain⟨zR,v,an,aA,eN,jo,dg,ao⟩:=RH h.ok.cu h.kh (λ_=>rfl) ay Q;unfold Oper.wp;rw[eN];rw[ab.dst] at ei;have x0:=h.put dg ao ab.lt;rcases jo with rfl|⟨rfl,rfl⟩
  ·exact⟨_,aA,ei,x0⟩
  ·exact⟨_,aA,ei,x0⟩
 ·have ay:gX P kb own o.dst o.type o.op=some i.op:=getD_some e5 (by rw[he];simp);rw[he] at ay;obtain⟨c,Y,hW,jq⟩:=HZ ay;rw[ab.dst] at ei;refine YL cw h ab.lt (qs h.kh jq) ei λgz=>?_;obtain⟨dst,op,type,pos,after,guard⟩:=o;simp only at Y;subst Y;obtain⟨callee,sc,zS⟩:=c;simp only at hW;subst hW;simp only[execOp,resolve,Deferred.ofValue,Act.eval,invoke,Sem.run_bind,Sem.run_pure,Result.andThen_ok,By gz];rw[wq sc];simp
 ·have ay:gX P kb own o.dst o.type o.op=some i.op:=getD_some e5 (by rw[he];simp);rw[he] at ay;obtain⟨c,Y,hW,jq⟩:=YI ay;rw[ab.dst] at ei;obtain⟨gz,iM⟩:=cw f _ st.mem _ hH;have mo:=iM A w B _ h.ok.cu (qs h.kh jq);have aq:=ab.lt;obtain⟨dst,op,type,pos,after,guard⟩:=o;simp only at Y;subst Y;obtain⟨callee,sc,zS⟩:=c;simp only at hW jq;subst hW
  have eN:(execOp a.eval ⟨dst,.call ⟨.value (.func f),sc,zS⟩,type,pos,after,guard⟩).run P w=.ok (.enter f (sc.toList.map a.eval).toArray) w:=by
   simp only[execOp,resolve,Deferred.ofValue,Act.eval,invoke,Sem.run_bind,Sem.run_pure,Result.andThen_ok,By gz];rw[wq sc];simp
  unfold Oper.wp;rw[eN];refine Calls.mono mo λe an oM=>?_;obtain⟨v,rfl,dr,af⟩:=oM;obtain⟨aA,dg,ao⟩:=YH k h.ok.cu dr af;exact⟨_,aA,ei,h.put dg ao aq⟩
 ·have ay:gX P kb own o.dst o.type o.op=some i.op:=getD_some e5 (by rw[he];simp);rw[he] at ay;obtain⟨c,x,Y,hW,L,jq⟩:=RM ay;rw[ab.dst] at ei;have MM:=h.kh _ _ L
  have main:∀g dd,(aM st.tm f=.ef g dd\/∃ds,aM st.tm f=.J (.fn g ds)/\dd=ds.map .J)->tq T K st o.dst g (args.map (aM st.tm)++dd)->o.wp P a w (λcD an=>∃cf aA,K cf/\dS b4 n A ct dE cD cf an aA) a5:=by
   intro g dd aN ei;obtain⟨cs,hu,b9⟩:=H2 MM aN;refine YL cw h ab.lt ((qs h.kh jq).append b9) ei λgz=>?_;obtain⟨dst,op,type,pos,after,guard⟩:=o;simp only at Y;subst Y;obtain⟨callee,sc,zS⟩:=c;simp only at hW;subst hW;simp only[execOp,resolve,hu,Deferred.ofValue,invoke,Sem.run_bind,Sem.run_pure,Result.andThen_ok,By gz];rw[wq sc];simp
  rcases ei with ⟨g,dd,aN,ei⟩|⟨g,ds,aN,ei⟩
  ·exact main g dd (.inl aN) ei
  ·exact main g _ (.inr ⟨ds,aN,rfl⟩) ei
 ·have ay:gX P kb own o.dst o.type o.op=some i.op:=getD_some e5 (by rw[he];simp);rw[he] at ay;obtain⟨t,e,y,y',z,Y,aC,bN,ak⟩:=YJ ay;rw[ab.dst] at ei
  have H3:a.eval y' = .slice none 0 0:=by
   unfold Mr at aC
   split at aC
   ·rfl
   ·cases aC
  obtain⟨b,U,eN⟩:=YK (y:=y) (y':=y') neg bN (h.kh _ _ ak) al H3;obtain⟨dst,op,type,pos,after,guard⟩:=o;simp only at Y;subst Y;unfold Oper.wp
  have:(execOp a.eval ⟨dst,.binOp (if neg then .neq else .eql) t y y' z,type,pos,after,guard⟩).run P w=.ok (.value (.bool (neg != b))) w:=by
   simp only[execOp];rw[Sem.run_bind,eN]
   rfl
  rw[this];exact⟨_,B,ei b U,h.put (.refl h.ok.cu) (.J .bool) ab.lt⟩
end Go.Mini
namespace Go.Mini
open Go
variable {T:bj}
def ey {tm tm':Nat->I}{x:bx}(h:∀s∈eu x,tm s=tm' s):aM tm x=aM tm' x:=by
 cases x with
 |t s=>exact h s (by simp[eu])
 |c m=>rfl
def map_congr {tm tm':Nat->I}{l:List bx}(h:∀s∈l.flatMap eu,tm s=tm' s):l.map (aM tm)=l.map (aM tm') :=
 YM λx L=>ey λs Q=>h s (Bz.2 ⟨x,L,Q⟩)
def H4 {tm tm':Nat->I}{l:List bx}(h:∀s∈l.flatMap eu,tm s=tm' s):(l.map λx=>shut (aM tm x))=l.map λx=>shut (aM tm' x) :=
 YM λx L=>by rw[ey λs Q=>h s (Bz.2 ⟨x,L,Q⟩)]
def BA {tm tm':Nat->I}{x:Option bx}(h:∀s∈we x,tm s=tm' s):x.map (aM tm)=x.map (aM tm'):=by
 cases x with
 |none=>rfl
 |some x =>
  cases x with
  |t s=>simp[aM,h s (by simp[we])]
  |c m=>rfl
def RN {tm tm':Nat->I}:∀{cV:List (Nat×Nat×bx)} (cs:List I),(∀s∈cV.flatMap (λp=>eu p.2.2),tm s=tm' s)->kd (aM tm) cs cV=kd (aM tm') cs cV
 | [],_,_=>rfl
 |(o,s,x)::cV,cs,h=>by
  have F:aM tm x=aM tm' x:=ey λt bN=>h t (Bz.2 ⟨(o,s,x),by simp,bN⟩);simp only[kd,F]
  split
  ·exact RN _ λt bN=>h t (by simp only[List.flatMap_cons,h5];exact .inr bN)
  ·rfl
def aj7 {mem:Mem}{tm tm':Nat->I}{op:fN}(h:∀s∈oG op,tm s=tm' s):bF mem tm op=bF mem tm' op:=by
 cases op<;>simp only[oG,h5] at h
 case iu x=>simp only[bF,jk,ey h]
 case pick c a b=>simp only[bF,jk,ey (λs Q=>h s (.inl (.inl Q))),ey (λs Q=>h s (.inl (.inr Q))),ey (λs Q=>h s (.inr Q))]
 case alloc=>rfl
 case box k x=>simp only[bF,ey h]
 case build z cV=>simp only[bF,jk,RN _ h]
 case dN k o z sz len cV=>cases o<;>simp only[bF,jk,RN _ h]
 case load n bJ x=>simp only[bF,ey h]
 case store n x v=>simp only[bF,ey (λs Q=>h s (.inl Q)),ey (λs Q=>h s (.inr Q))]
 case bin o x y=>simp only[bF,jk,ey (λs Q=>h s (.inl Q)),ey (λs Q=>h s (.inr Q))]
 case beq o x y=>simp only[bF,jk,ey (λs Q=>h s (.inl Q)),ey (λs Q=>h s (.inr Q))]
 case eqs o l x y=>simp only[bF,jk,ey (λs Q=>h s (.inl Q)),ey (λs Q=>h s (.inr Q))]
 case lR=>rfl
 case un o x=>simp only[bF,jk,ey h]
 case conv k x=>simp only[bF,jk,ey h]
 case uG x=>simp only[bF,jk,ey h]
 case la k z b x y=>simp only[bF,ey (λs Q=>h s (.inl Q)),ey (λs Q=>h s (.inr Q))]
 case tk o x=>simp only[bF,jk,ey h]
 case xD o n bJ x=>simp only[bF,jk,ey h]
 case uH s x i=>simp only[bF,jk,ey (λs Q=>h s (.inl Q)),ey (λs Q=>h s (.inr Q))]
 case Bi n s x i=>simp only[bF,jk,ey (λs Q=>h s (.inl Q)),ey (λs Q=>h s (.inr Q))]
 case idxs x i=>simp only[bF,jk,ey (λs Q=>h s (.inl Q)),ey (λs Q=>h s (.inr Q))]
 case q1 s x a b c =>
  have F:=ey (λs Q=>h s (.inl (.inl (.inl Q))));have G:=BA (λs Q=>h s (.inl (.inl (.inr Q))));have ad:=BA (λs Q=>h s (.inl (.inr Q)));have aZ:=BA (λs Q=>h s (.inr Q))
  cases b<;>cases c<;>simp only[kU,YN,bO] at ad aZ<;>simp only[bF,jk,kU,YN,F,G,ad,aZ]
 case tl n s x a b c =>
  have F:=ey (λs Q=>h s (.inl (.inl (.inl Q))));have G:=BA (λs Q=>h s (.inl (.inl (.inr Q))));have ad:=BA (λs Q=>h s (.inl (.inr Q)))
  cases c<;>simp only[bF,jk,F,G,ad]
 case Bj x a b=>simp only[bF,jk,ey (λs Q=>h s (.inl (.inl Q))),BA (λs Q=>h s (.inl (.inr Q))),BA (λs Q=>h s (.inr Q))]
 case ext i x=>simp only[bF,jk,ey h]
 case len x=>simp only[bF,jk,ey h]
 case lens x=>simp only[bF,jk,ey h]
 case app k z b s x=>simp only[bF,ey (λs Q=>h s (.inl Q)),ey (λs Q=>h s (.inr Q))]
 case q2 s d x=>simp only[bF,ey (λs Q=>h s (.inl Q)),ey (λs Q=>h s (.inr Q))]
 case tn z x=>simp only[bF,ey h]
 case lS o x y=>simp only[bF,jk,ey (λs Q=>h s (.inl Q)),ey (λs Q=>h s (.inr Q))]
 case call=>rfl
 case lb=>rfl
 case jN=>rfl
 case kQ=>rfl
 case qb=>rfl
 case qc=>rfl
 case uI f l=>simp only[bF,jk,map_congr h]
 case DY t x=>simp only[bF,jk,ey h]
 case L9 t o z x=>simp only[bF,jk,ey h]
 case Bk n i x=>simp only[bF,jk,ey h]
 case Mb l s a x i=>simp only[bF,jk,ey (λs Q=>h s (.inl Q)),ey (λs Q=>h s (.inr Q))]
 case v9=>rfl
 case zB o z x i=>simp only[bF,ey (λs Q=>h s (.inl Q)),ey (λs Q=>h s (.inr Q))]
 case xE x i v=>simp only[bF,ey (λs Q=>h s (.inl (.inl Q))),ey (λs Q=>h s (.inl (.inr Q))),ey (λs Q=>h s (.inr Q))]
 case bad=>rfl
def MN {mem:Mem}{tm tm':Nat->I}{op:fN}(h:∀s∈oG op,tm s=tm' s):eX T mem tm op=eX T mem tm' op:=by
 cases op
 case call f l =>
  have:=H4 (l:=l) (tm:=tm) (tm':=tm') (by simpa [oG] using h);simp only[eX,this]
 case lb k sz f l =>
  have:=H4 (l:=l) (tm:=tm) (tm':=tm') (by simpa [oG] using h);simp only[eX,this]
 case jN f l =>
  simp only[oG,h5] at h;have F:=ey (x:=f) (tm:=tm) (tm':=tm') λs Q=>h s (.inl Q);have G:=H4 (l:=l) (tm:=tm) (tm':=tm') λs Q=>h s (.inr Q);simp only[eX,F,G]
 case lR=>rfl
 case kQ b8 f l =>
  have:=map_congr (l:=l) (tm:=tm) (tm':=tm') (by simpa [oG] using h);simp only[eX,this]
 case qb j f l =>
  have F:=map_congr (l:=l) (tm:=tm) (tm':=tm') (by simpa [oG] using h);have G:=H4 (l:=l) (tm:=tm) (tm':=tm') (by simpa [oG] using h);simp only[eX,F,G]
 case qc j f l =>
  have F:=map_congr (l:=l) (tm:=tm) (tm':=tm') (by simpa [oG] using h);have G:=H4 (l:=l) (tm:=tm) (tm':=tm') (by simpa [oG] using h);simp only[eX,F,G]
 all_goals exact aj7 (mem:=mem) h
def MO {tm tm':Nat->I}{op:fN}(h:∀s∈oG op,tm s=tm' s):cy tm op=cy tm' op:=by
 cases op<;>simp only[oG,h5] at h<;>try rfl
 case dN k o z sz len cV=>cases o<;>rfl
 case load n bJ x=>simp only[cy,ey h]
 case tl n s x a b c=>simp only[cy,ey (λs Q=>h s (.inl (.inl (.inl Q))))]
 case store n x v=>simp only[cy,ey (λs Q=>h s (.inl Q))]
 case app k z b s x=>simp only[cy,ey (λs Q=>h s (.inl Q)),ey (λs Q=>h s (.inr Q))]
 case q2 s d x=>simp only[cy,ey (λs Q=>h s (.inl Q)),ey (λs Q=>h s (.inr Q))]
 case kQ b8 f l=>simp only[cy,map_congr h]
 case qb j f l=>simp only[cy,map_congr h]
 case qc j f l=>simp only[cy,map_congr h]
 case tn z x=>simp only[cy,ey h]
 case zB o z x i=>simp only[cy,ey (λs Q=>h s (.inl Q))]
 case xE x i v=>simp only[cy,ey (λs Q=>h s (.inl (.inl Q)))]
def aj8 {n:Nat}{m:I}{a5:Key->Prop}(h:∀x∈zG n m,a5 x.key):∀j∈keyOf m,a5 j:=by
 cases m<;>simp_all [zG,keyOf,lg.key]
def YO {mem mem':Mem}{sz:Nat}{m:I}(h:∀k∈keyOf m,mem k=mem' k):px mem sz m=px mem' sz m:=by
 cases m<;>try rfl
 case J d=>cases d<;>rfl
 simp only[px];rw[h _ (by simp[keyOf])]
def aj9 {mem mem':Mem}{k:Key}{z:List I}{b:Nat}{m:I}{row:Option (Nat×List I)}(R:mem k=mem' k)(h:∀j∈keyOf m,mem j=mem' j):qd mem k z b m row=qd mem' k z b m row:=by
 cases m<;>cases row<;>try rfl
 ·simp only[qd,bB,R]
 ·simp only[qd];rw[h _ (by simp[keyOf])]
def aka {mem mem':Mem}{sz:Nat}{m:I}{row:Option (Nat×List I)}(h:∀j∈keyOf m,mem j=mem' j):uJ mem sz m row=uJ mem' sz m row:=by
 cases m<;>cases row<;>try rfl
 simp only[uJ];rw[h _ (by simp[keyOf])]
def akb {mem mem':Mem}{z:List I}{m:I}(h:∀j∈keyOf m,mem j=mem' j):wb mem z m=wb mem' z m:=by
 cases m<;>try rfl
 simp only[wb];rw[h _ (by simp[keyOf])]
def RO {mem mem':Mem}{n:Nat}{bJ:Bool}{m:I}(h:∀j∈keyOf m,mem j=mem' j):iW mem n bJ m=iW mem' n bJ m:=by
 cases m<;>try rfl
 case J d=>cases d<;>rfl
 simp only[iW];rw[h _ (by simp[keyOf])]
def akc {mem mem':Mem}{n:Nat}{m:I}{v:List I}(h:∀j∈keyOf m,mem j=mem' j):wa mem n m v=wa mem' n m v:=by
 cases m<;>try rfl
 simp only[wa];rw[h _ (by simp[keyOf])]
def akd {mem mem':Mem}{n s a b:Nat}{m:I}(h:∀j∈keyOf m,mem j=mem' j):zD mem n s a b m=zD mem' n s a b m:=by
 cases m<;>try rfl
 simp only[zD];rw[h _ (by simp[keyOf])]
def YP {mem mem':Mem}{m:I}(h:∀j∈HC m,mem j=mem' j):zF mem m=zF mem' m:=by
 cases m<;>try rfl
 simp only[zF];rw[h _ (by simp[HC])]
def ake {mem mem':Mem}{tm:Nat->I}{op:fN}(h:∀x∈cy tm op,mem x.key=mem' x.key):bF mem tm op=bF mem' tm op:=by
 have zR:∀k,mem k=mem' k->bB mem k=bB mem' k:=λk R=>by simp only[bB,R]
 cases op<;>try rfl
 case alloc k z=>simp only[bF,zR k (h (.fU k) (by simp[cy]))]
 case box k x=>simp only[bF,zR k (h (.fU k) (by simp[cy]))]
 case dN k o z sz len cV =>
  cases o
  ·rfl
  ·simp only[bF,zR k (h (.fU k) (by simp[cy]))]
 case la k z b x y=>simp only[bF,zR k (h (.fU k) (by simp[cy]))]
 case load n bJ x =>
  simp only[bF];rw[RO (aj8 (a5:=λj=>mem j=mem' j) h)]
 case tl n s x a b c =>
  cases c
  ·simp only[bF]
   congr 2
   funext l
   congr 1
   funext bm
   exact akd λj aa=>h (.fU j) (by simp[cy,aa])
  ·rfl
 case store n x v =>
  simp only[bF];exact akc λj aa=>h (.fU j) (by simp[cy,aa])
 case app k z b s x =>
  have cI:∀j,j=k\/j∈keyOf (aM tm s)\/j∈keyOf (aM tm x)->mem j=mem' j:=λj aa=>h (.fU j) (by simpa [cy] using aa);simp only[bF,YO (sz:=D z) (λj aa=>cI j (.inr (.inr aa)))];exact aj9 (cI k (.inl rfl)) λj aa=>cI j (.inr (.inl aa))
 case q2 s d x =>
  have cI:∀j,j∈keyOf (aM tm d)\/j∈keyOf (aM tm x)->mem j=mem' j:=λj aa=>h (.fU j) (by simpa [cy] using aa);simp only[bF,YO (sz:=s) (λj aa=>cI j (.inr aa))];exact aka λj aa=>cI j (.inl aa)
 case tn z x =>
  simp only[bF];exact akb λj aa=>h (.fU j) (by simp[cy,aa])
 case v9 k=>simp only[bF,zR k (h (.fU k) (by simp[cy]))]
 case zB o z x i =>
  simp only[bF,Mm];rw[YP (mem:=mem) (mem':=mem') (m:=aM tm x) λj aa=>h (.fU j) (by simp[cy,aa])]
 case xE x i v =>
  simp only[bF,HB];rw[YP (mem:=mem) (mem':=mem') (m:=aM tm x) λj aa=>h (.fU j) (by simp[cy,aa])]
def RP {mem mem':Mem}{tm:Nat->I}{op:fN}(Y:∀b8 f l,op ≠ .kQ b8 f l)(h:∀x∈cy tm op,mem x.key=mem' x.key):eX T mem tm op=eX T mem' tm op:=by
 cases op
 case call=>rfl
 case lb k sz f l =>
  have:bB mem k=bB mem' k:=by
   have:=h (.fU k) (by simp[cy]);simp only[lg.key] at this;simp only[bB,this]
  simp only[eX,this]
 case kQ b8 f l=>exact absurd rfl (Y b8 f l)
 case qb j f l =>
  simp only[eX]
  cases hm:(l.map (aM tm))[j]? with
  |none=>rfl
  |some m =>
   cases m<;>try rfl
   have:=h (.fU _) (by simp only[cy,hm,uK];exact lU);simp only[lg.key] at this;simp only[HF,this]
 case qc j f l =>
  simp only[eX]
  cases hm:(l.map (aM tm))[j]? with
  |none=>rfl
  |some m =>
   cases m<;>try rfl
   have:=h (.fU _) (by simp only[cy,hm,uK];exact lU);simp only[lg.key] at this;simp only[HG,this]
 case jN=>rfl
 case lR=>rfl
 all_goals exact ake (mem:=mem) (mem':=mem') (tm:=tm) h
def MP {x:Option I}{m:I}{e:Option (Key×Nat×List I)}(h:iv x=some (m,e)):e=none:=(YA h).2
def akf {mem:Mem}{tm:Nat->I}{op:fN}{m:I}{e:Option (Key×Nat×List I)}(h:bF mem tm op=some (m,e)):e=none\/(gi op=true/\∃k g cs,e=some (k,g,cs) /\ .fU k∈cy tm op):=by
 cases op<;>try (first|exact .inl (MP h)|exact .inl (MP (x:=some _) h))
 case alloc k z =>
  simp only[bF,bO,eM] at h;exact .inr ⟨rfl,_,_,_,h.2.symm,by simp[cy]⟩
 case box k x =>
  simp only[bF] at h
  split at h<;>simp only[bO,eM,reduceCtorEq] at h
  exact .inr ⟨rfl,_,_,_,h.2.symm,by simp[cy]⟩
 case dN k o z sz len cV =>
  cases o
  ·exact .inl (MP h)
  ·simp only[bF,D6] at h
   (repeat' split at h)<;>simp only[bO,eM,reduceCtorEq] at h
   exact .inr ⟨rfl,_,_,_,h.2.symm,by simp[cy]⟩
 case la k z b x y =>
  obtain⟨_,_,_,_,h⟩:=YB h;simp only[D7] at h
  split at h<;>simp only[bO,eM,reduceCtorEq] at h
  exact .inr ⟨rfl,_,_,_,h.2.symm,by simp[cy]⟩
 case tl n s x a b c =>
  cases c
  ·exact .inl (MP h)
  ·cases h
 case store n x v =>
  simp only[bF] at h
  cases L:aM tm x<;>rw[L] at h<;>simp only[wa,reduceCtorEq] at h
  simp only[HA] at h
  (repeat' split at h)<;>simp only[bO,eM,reduceCtorEq] at h
  exact .inr ⟨rfl,_,_,_,h.2.symm,by simp[cy,L,keyOf]⟩
 case app k z b s x =>
  simp only[bF] at h
  cases M:px mem (D z) (aM tm x)<;>cases Q:aM tm s<;>rw[M,Q] at h<;>simp only[qd,reduceCtorEq] at h
  ·split at h<;>simp only[bO,eM,reduceCtorEq] at h
   exact .inr ⟨rfl,_,_,_,h.2.symm,by simp[cy]⟩
  ·simp only[lf] at h
   (repeat' split at h)<;>simp only[bO,eM,reduceCtorEq] at h
   exact .inr ⟨rfl,_,_,_,h.2.symm,by simp[cy,Q,keyOf]⟩
 case q2 s d x =>
  simp only[bF] at h
  cases M:px mem s (aM tm x)<;>cases Q:aM tm d<;>rw[M,Q] at h<;>simp only[uJ,reduceCtorEq] at h
  simp only[zE] at h
  (repeat' split at h)<;>simp only[bO,eM,reduceCtorEq] at h
  exact .inr ⟨rfl,_,_,_,h.2.symm,by simp[cy,Q,keyOf]⟩
 case tn z x =>
  simp only[bF] at h
  cases Q:aM tm x<;>rw[Q] at h<;>simp only[wb,reduceCtorEq] at h
  simp only[Mk] at h
  (repeat' split at h)<;>simp only[bO,eM,reduceCtorEq] at h
  exact .inr ⟨rfl,_,_,_,h.2.symm,by simp[cy,Q,keyOf]⟩
 case v9 k =>
  simp only[bF,bO,eM] at h;exact .inr ⟨rfl,_,_,_,h.2.symm,by simp[cy]⟩
 case xE x i v =>
  simp only[bF] at h;unfold HB at h
  split at h
  ·rename_i k g cs s dO cW
   split at h
   ·split at h
    ·cases h;refine .inr ⟨rfl,_,_,_,rfl,?_⟩;unfold zF at dO
     split at dO
     ·rename_i L
      (repeat' split at dO)<;>cases dO
      simp[cy,L,HC]
     ·cases dO
    ·cases h
   ·cases h
  ·cases h
 all_goals cases h
def YQ {mem:Mem}{j:Nat}{f:FuncId}{ms:List I}{x:Option I}{m:I}{e:Option (Key×Nat×List I)}(h:HF T mem j f ms x=some (m,e)):
  ∃k g sz off len cs d r,x=some (.ref k g sz off len)/\mem k=some (g,cs)/\HE sz off len cs=some d/\Mn (T f (ms.set j (.J d)) emp)=some r/\m=.J r/\e=some (k,bB mem k,[]):=by
 unfold HF at h
 split at h
 ·rename_i k g sz off len;unfold Rf at h
  split at h
  ·rename_i cx cs hm
   split at h
   ·rename_i aN;subst aN
    split at h
    ·rename_i d af
     split at h
     ·rename_i r M;simp only[bO,eM] at h;exact⟨k,_,sz,off,len,cs,d,r,rfl,hm,af,M,h.1.symm,by rw[<-h.2];simp[bB,hm]⟩
     ·cases h
    ·cases h
   ·cases h
  ·cases h
 ·cases h
def YR {mem:Mem}{j:Nat}{f:FuncId}{ms:List I}{x:Option I}{m:I}{e:Option (Key×Nat×List I)}(h:HG T mem j f ms x=some (m,e)):
  ∃k g sz off len cx cs r,x=some (.ref k g sz off len)/\mem k=some (cx,cs)/\q4 cs=true/\T f (ms.set j (.ref k g sz off len)) (aV emp k cx cs)=some (.xG r k)/\m=.J r/\e=some (k,bB mem k,[]):=by
 unfold HG at h
 split at h
 ·rename_i k g sz off len;unfold Rg at h
  split at h
  ·rename_i cx cs hm
   split at h
   ·rename_i af
    split at h
    ·rename_i r k' M
     split at h
     ·rename_i R;subst R;simp only[bO,eM] at h;exact⟨_,g,sz,off,len,cx,cs,r,rfl,hm,af,M,h.1.symm,by rw[<-h.2];simp[bB,hm]⟩
     ·cases h
    ·cases h
   ·cases h
  ·cases h
 ·cases h
def YS {b8:Nat}{mem:Mem}{ms:List I}{x:Option gH}{m:I}{e:Option (Key×Nat×List I)}(h:D8 b8 mem ms x=some (m,e)):
  ∃r k g i c cs,x=some (.ea r k g i c)/\mem k=some (g,cs)/\m=.J r/\e=some (k,g,cs.set i c)/\HD b8 ms=[.wr k i]:=by
 unfold D8 at h
 split at h
 ·rename_i k g off rest r k' cx i c
  split at h
  ·rename_i H5 cs hm
   split at h
   ·rename_i Y;obtain⟨rfl,rfl,rfl⟩:=Y;simp only[bO,eM] at h;exact⟨r,_,_,_,c,cs,rfl,hm,h.1.symm,h.2.symm,rfl⟩
   ·cases h
  ·cases h
 ·cases h
def MQ {mem:Mem}{tm:Nat->I}{op:fN}{m:I}{e:Option (Key×Nat×List I)}(h:eX T mem tm op=some (m,e)):e=none\/(gi op=true/\∃k g cs,e=some (k,g,cs)/\(.fU k∈cy tm op\/∃i c sd,cy tm op=[.wr k i]/\mem k=some (g,sd)/\cs=sd.set i c)):=by
 have pl:bF mem tm op=some (m,e)->e=none\/(gi op=true/\∃k g cs,e=some (k,g,cs)/\(.fU k∈cy tm op\/∃i c sd,cy tm op=[.wr k i]/\mem k=some (g,sd)/\cs=sd.set i c)):=λh=>by
  rcases akf h with h|⟨F,k,g,cs,G,ad⟩
  ·exact .inl h
  ·exact .inr ⟨F,k,g,cs,G,.inl ad⟩
 cases op
 case call f l =>
  simp only[eX] at h
  split at h<;>simp only[bO,eM,reduceCtorEq] at h
  ·exact .inl h.2.symm
  ·exact .inl h.2.symm
 case lb k sz f l =>
  simp only[eX] at h
  (repeat' split at h)<;>simp only[bO,eM,reduceCtorEq] at h
  exact .inr ⟨rfl,_,_,_,h.2.symm,.inl (by simp[cy])⟩
 case jN f l =>
  simp only[eX] at h
  (repeat' split at h)<;>simp only[bO,eM,reduceCtorEq] at h
  exact .inl h.2.symm
 case lR=>cases h
 case kQ b8 f l =>
  obtain⟨r,k,g,i,c,cs,-,hm,-,he,al⟩:=YS h;exact .inr ⟨rfl,k,g,_,he,.inr ⟨i,c,cs,al,hm,rfl⟩⟩
 case qb j f l =>
  simp only[eX] at h;obtain⟨k,g,sz,off,len,cs,d,r,L,hm,-,-,-,he⟩:=YQ h;exact .inr ⟨rfl,k,_,_,he,.inl (by simp only[cy,L,uK];exact lU)⟩
 case qc j f l =>
  simp only[eX] at h;obtain⟨k,g,sz,off,len,cx,cs,r,L,hm,-,-,-,he⟩:=YR h;exact .inr ⟨rfl,k,_,_,he,.inl (by simp only[cy,L,uK];exact lU)⟩
 all_goals exact pl h
def akg {tm:Nat->I}{op:fN}{b:lg}(U:b∈cy tm op):(∃k,b=.fU k)\/(∃n bJ x k g off,op=.load n bJ x/\aM tm x=.ptr k g off/\b=.rd k off (off+n))\/∃b8 f l,op=.kQ b8 f l:=by
 cases op
 case load n bJ x =>
  simp only[cy] at U
  cases L:aM tm x<;>rw[L] at U<;>simp[zG] at U
  ·exact .inl ⟨_,U⟩
  ·exact .inr (.inl ⟨_,_,_,_,_,_,rfl,L,U⟩)
 case kQ b8 f l=>exact .inr (.inr ⟨_,_,_,rfl⟩)
 case qb j f l =>
  simp only[cy] at U
  cases hm:(l.map (aM tm))[j]? with
  |none=>rw[hm] at U;simp[uK] at U
  |some m =>
   rw[hm] at U
   cases m<;>simp[uK] at U;exact .inl ⟨_,U⟩
 case qc j f l =>
  simp only[cy] at U
  cases hm:(l.map (aM tm))[j]? with
  |none=>rw[hm] at U;simp[uK] at U
  |some m =>
   rw[hm] at U
   cases m<;>simp[uK] at U;exact .inl ⟨_,U⟩
 case dN k o z sz len cV =>
  cases o<;>simp[cy] at U;exact .inl ⟨_,U⟩
 all_goals
  simp[cy] at U
  try first
   |exact .inl ⟨_,U⟩
   |(rcases U with ⟨k,_,h⟩|⟨k,_,h⟩<;>exact .inl ⟨k,h.symm⟩)
   |(rcases U with h|⟨k,_,h⟩|⟨k,_,h⟩<;>first|exact .inl ⟨_,h⟩|exact .inl ⟨_,h.symm⟩)
   |(obtain⟨k,_,h⟩:=U;exact .inl ⟨k,h.symm⟩)
def akh {cs:List I}{i off n:Nat}{c:I}(h:i<off\/off+n<=i):cut (cs.set i c) off n=cut cs off n:=by
 unfold cut;rw[fk]
 split
 ·congr 1
  rcases h with h|h
  ·rw[se h]
  ·by_cases ab:i<off
   ·rw[se ab]
   ·rw[List.drop_set,aT ab,List.take_set_of_le (by omega)]
 ·rfl
def aki {mem:Mem}{k g i:Nat}{c:I}{cs:List I}{n:Nat}{bJ:Bool}{k' cx off:Nat}(hm:mem k=some (g,cs))(h:k'≠k\/i<off\/off+n<=i):
  iW (aV mem k g (cs.set i c)) n bJ (.ptr k' cx off)=iW mem n bJ (.ptr k' cx off):=by
 by_cases R:k'=k
 ·subst R;have h:=h.resolve_left (λh=>h rfl);simp only[iW,aV,if_true,hm,akh h]
 ·simp only[iW,aV,R,if_false]
def YT {mem:Mem}{tm:Nat->I}{x y:fN}{m:I}{e:Option (Key×Nat×List I)}(H6:eX T mem tm x=some (m,e))(bc:qg (gi x,cy tm x) (gi y,cy tm y)=true):eX T (gg mem e) tm y=eX T mem tm y:=by
 rcases MQ H6 with rfl|⟨hw,k,g,cs,rfl,R⟩
 ·rfl
 ·have cZ:∀a∈cy tm x,∀b∈cy tm y,qf a b=true:=by
   unfold qg at bc
   simpa [hw] using bc
  have akj:∀b8 f l,y=.kQ b8 f l->cy tm y=[]:=by
   rintro b8 f l rfl
   cases U:cy tm (.kQ b8 f l) with
   |nil=>rfl
   |cons b r =>
    exfalso
    have hE:∃k' a3,b=.wr k' a3:=by
     simp only[cy] at U;unfold HD at U
     split at U
     ·cases U;exact⟨_,_,rfl⟩
     ·cases U
    obtain⟨k',a3,rfl⟩:=hE;have hm:lg.wr k' a3∈cy tm (.kQ b8 f l):=by rw[U];exact lU
    rcases R with R|⟨i,c,sd,al,_,_⟩
    ·have:=cZ _ R _ hm;simp[qf] at this
    ·have:=cZ (.wr k i) (by rw[al];exact lU) _ hm;simp[qf] at this
  by_cases ak:∃b8 f l,y=.kQ b8 f l
  ·obtain⟨b8,f,l,rfl⟩:=ak;have au:=akj _ _ _ rfl;simp only[cy] at au
   have a2:∀mem' gL,D8 b8 mem' (l.map (aM tm)) gL=none:=by
    intro mem' gL;unfold D8
    split
    ·rename_i heq;rw[heq] at au;simp[HD] at au
    ·rfl
   simp only[eX,a2]
  ·have Y:∀b8 f l,y ≠ .kQ b8 f l:=λb8 f l h=>ak ⟨b8,f,l,h⟩;rcases R with R|⟨i,c,sd,al,hm,rfl⟩
   ·refine (RP Y λb U=>?_).symm;have F:=cZ _ R b U
    have:b.key≠k:=by
     rintro rfl
     cases b<;>simp[qf,lg.key] at F
    simp[gg,aV,this]
   ·have F:=cZ (.wr k i) (by rw[al];exact lU)
    by_cases ag:∃n bJ z k' cx off,y=.load n bJ z/\aM tm z=.ptr k' cx off
    ·obtain⟨n,bJ,z,k',cx,off,rfl,a2⟩:=ag;have G:=F (.rd k' off (off+n)) (by simp[cy,a2,zG]);simp only[eX,bF,a2,gg];rw[aki hm];simp[qf] at G;exact G
    ·refine (RP Y λb U=>?_).symm
     exfalso
     rcases akg U with ⟨k',rfl⟩|⟨n,bJ,z,k',cx,off,ad,aZ,_⟩|⟨b8,f,l,ad⟩
     ·have:=F _ U;simp[qf] at this
     ·exact ag ⟨n,bJ,z,k',cx,off,ad,aZ⟩
     ·exact Y _ _ _ ad
def RQ {tm:Nat->I}{op:fN}(h:mh op=0):cy tm op=[]/\gi op=false:=by
 cases op<;>simp_all [mh,gi,cy]
 all_goals (rename_i b _ _ _ _;cases b<;>simp_all [gi,cy])
def YU {op:fN}(h:mh op=1):gi op=false:=by
 cases op<;>simp_all [mh,gi]
 all_goals (rename_i b _ _ _ _;cases b<;>simp_all [gi])
end Go.Mini
namespace Go.Mini
open Go
variable {T:bj} {gm:Nat->Nat->Bool}
def jr (T:bj)(gm:Nat->Nat->Bool)(i:Nat)(x:bz)(rec:Rec)(st:a8)(iN:Rec)(cf:a8):Prop :=
 (g9 st.tm x.g=some false/\iN=rec/\cf=⟨put st.tm x.dst .no,st.mem⟩) \/
 (g9 st.tm x.g=some true/\∃m e,eX T st.mem st.tm x.op=some (m,e)/\(∀p q,gm p i=true->rec p=some q->qg q (gi x.op,cy st.tm x.op)=true) /\
  iN=jl rec i (gi x.op,cy st.tm x.op)/\cf=⟨put st.tm x.dst m,gg st.mem e⟩)
def lV {tm:Nat->I}{dst:Option Nat}{m:I}{s:Nat}(h:dst≠some s):put tm dst m s=tm s:=by
 cases dst with
 |none=>rfl
 |some d =>
  have:s≠d:=λe=>h (by rw[e]);simp[put,this]
def put_comm {tm:Nat->I}{d qt:Option Nat}{m m':I}(h:∀s,d=some s->qt≠some s):put (put tm d m) qt m'=put (put tm qt m') d m:=by
 funext s
 by_cases F:d=some s
 ·rw[lV (h s F)];subst F;simp[put]
 ·rw[lV (dst:=d) F]
  by_cases G:qt=some s
  ·subst G;simp[put]
  ·rw[lV G,lV G,lV F]
def H7 {tm tm':Nat->I}{g:Option (Nat×Bool)}(h:∀s b,g=some (s,b)->tm s=tm' s):g9 tm g=g9 tm' g:=by
 cases g with
 |none=>rfl
 |some p =>
  obtain⟨s,b⟩:=p;simp only[g9,h s b rfl]
def BB {x y:bz}(h:oH x y=true):(∀d,x.dst=some d->d ∉ looks y)/\(∀d,x.dst=some d->y.dst≠some d)/\(∀d,y.dst=some d->d ∉ looks x):=by
 refine⟨λd af=>?_,λd af=>?_,λd af=>?_⟩<;>simp[oH,af] at h
 ·exact h.1.1
 ·exact h.1.2
 ·exact h.2
def uX {x:bz}{s:Nat}(h:s∈oG x.op):s∈looks x:=by simp[looks,h]
def H8 {x:bz}{s:Nat}{b:Bool}(h:x.g=some (s,b)):s∈looks x:=by simp[looks,h]
def akk (a b:lg):qf a b=qf b a:=by
 have Y:∀k k':Nat,(k==k')=(k'==k):=λk k'=>BEq.comm
 cases a<;>cases b<;>first|rfl|(unfold qf;dsimp only;rw[Y])
def YV {a b:Bool×List lg}(h:qg a b=true):qg b a=true:=by
 unfold qg at *;simp only[tA,Bool.not_eq_true',Bool.or_eq_false_iff,kA] at *;rcases h with ⟨F,G⟩|h
 ·exact .inl ⟨G,F⟩
 ·exact .inr λx L y ak=>by rw[akk];exact h y ak x L
def akl {mem:Mem}{e e':Option (Key×Nat×List I)}(h:∀j g cs iI cx g8,e=some (j,g,cs)->e'=some (iI,cx,g8)->j≠iI):gg (gg mem e) e'=gg (gg mem e') e:=by
 cases e with
 |none=>rfl
 |some p =>
  cases e' with
  |none=>rfl
  |some p' =>
   obtain⟨j,g,cs⟩:=p;obtain⟨iI,cx,g8⟩:=p';have bq:=h _ _ _ _ _ _ rfl rfl
   funext k
   simp only[gg,aV]
   by_cases F:k=iI
   ·by_cases G:k=j
    ·exact absurd (G.symm.trans F) bq
    ·simp[F,G];intro ad;exact absurd ad.symm bq
   ·simp[F]
def Passes (gm:Nat->Nat->Bool)(i j:Nat)(x y:bz):Prop:=gm i j=true\/uM (mh x.op) (mh y.op)=true
def akm {i j:Nat}{x y:bz}{tm:Nat->I}(h:Passes gm i j x y)(Y:gm i j=true->qg (gi x.op,cy tm x.op) (gi y.op,cy tm y.op)=true):
  qg (gi x.op,cy tm x.op) (gi y.op,cy tm y.op)=true:=by
 rcases h with h|h
 ·exact Y h
 ·unfold uM at h;simp only[tA,ff,beq_iff_eq] at h;rcases h with (h|h)|⟨F,G⟩
  ·obtain⟨F,G⟩:=RQ (tm:=tm) h;simp[qg,F]
  ·obtain⟨F,G⟩:=RQ (tm:=tm) h;simp[qg,F]
  ·have F:=YU F;have G:=YU G;simp[qg,F,G]
def jr.comm {i j:Nat}{x y:bz}{rec rec1 kC:Rec}{st st1 kD:a8}(hX:i≠j)(c1:oH x y=true)(aR:Passes gm i j x y)(RR:∀a b,gm a b=gm b a)(wx:rec i=none)
  (F:jr T gm i x rec st rec1 st1) (G:jr T gm j y rec1 st1 kC kD):∃wy jz,jr T gm j y rec st wy jz/\jr T gm i x wy jz kC kD:=by
 obtain⟨bc,U,Y⟩:=BB c1
 -- what one sees of the other's temporary: nothing
 have BC:∀m,g9 (put st.tm x.dst m) y.g=g9 st.tm y.g:=λm=>H7 λs b Q=>lV λaf=>bc s af (H8 Q);have H9:∀mem m,eX T mem (put st.tm x.dst m) y.op=eX T mem st.tm y.op:=λmem m=>MN λs Q=>lV λaf=>bc s af (uX Q);have zT:∀m,cy (put st.tm x.dst m) y.op=cy st.tm y.op:=λm=>MO λs Q=>lV λaf=>bc s af (uX Q);have MR:∀m,g9 (put st.tm y.dst m) x.g=g9 st.tm x.g:=λm=>H7 λs b Q=>lV λaf=>Y s af (H8 Q);have YW:∀mem m,eX T mem (put st.tm y.dst m) x.op=eX T mem st.tm x.op:=λmem m=>MN λs Q=>lV λaf=>Y s af (uX Q);have MS:∀m,cy (put st.tm y.dst m) x.op=cy st.tm x.op:=λm=>MO λs Q=>lV λaf=>Y s af (uX Q);have qw:∀m m',put (put st.tm x.dst m) y.dst m'=put (put st.tm y.dst m') x.dst m:=λm m'=>put_comm U;rcases F with ⟨cJ,rfl,rfl⟩|⟨cJ,aY,aQ,s1,ck,rfl,rfl⟩<;>rcases G with ⟨cQ,rfl,rfl⟩|⟨cQ,b0,az,s2,dC,rfl,rfl⟩<;>simp only[BC,H9,zT] at *
 ·exact⟨_,_,.inl ⟨cQ,rfl,rfl⟩,.inl ⟨by simp only[MR];exact cJ,rfl,by simp only[qw]⟩⟩
 ·exact⟨_,_,.inr ⟨cQ,b0,az,s2,dC,rfl,rfl⟩,.inl ⟨by simp only[MR];exact cJ,rfl,by simp only[qw]⟩⟩
 ·exact⟨_,_,.inl ⟨cQ,rfl,rfl⟩,.inr ⟨by simp only[MR];exact cJ,aY,aQ,by simp only[YW];exact s1,by simp only[MS];exact ck,by simp only[MS],by simp only[qw]⟩⟩
 ·have YX:gm i j=true->qg (gi x.op,cy st.tm x.op) (gi y.op,cy st.tm y.op)=true:=λh=>dC i _ h (by simp[jl]);have zU:=akm (tm:=st.tm) aR YX;have BD:eX T st.mem st.tm y.op=some (b0,az):=by rw[<-s2];exact (YT s1 zU).symm
  have eY:∀j g cs iI cx g8,aQ=some (j,g,cs)->az=some (iI,cx,g8)->j≠iI:=by
   rintro k g cs k' cx g8 rfl rfl rfl;rcases MQ s1 with h|⟨hw,c5,cQ,HT,h,F⟩
   ·cases h
   ·cases h;rcases MQ BD with h|⟨YY,ej,gU,ayC,h,G⟩
    ·cases h
    ·cases h;unfold qg at zU;simp only[hw,Bool.true_or,Bool.not_true,Bool.false_or,kA] at zU;rcases F with F|⟨i,c,sd,F,_,_⟩<;>rcases G with G|⟨a3,kB,ayD,G,_,_⟩
     ·have:=zU _ F _ G;simp[qf] at this
     ·have:=zU _ F (.wr k a3) (by rw[G];exact lU);simp[qf] at this
     ·have:=zU (.wr k i) (by rw[F];exact lU) _ G;simp[qf] at this
     ·have:=zU (.wr k i) (by rw[F];exact lU) (.wr k a3) (by rw[G];exact lU);simp[qf] at this
  refine⟨_,_,.inr ⟨cQ,b0,az,BD,λp q MT aU=>?_,rfl,rfl⟩,.inr ⟨by simp only[MR];exact cJ,aY,aQ,?_,?_,?_,?_⟩⟩
  ·have bq:p≠i:=λh=>by rw[h,wx] at aU;cases aU
   exact dC p q MT (by simp[jl,bq,aU])
  ·simp only[YW];rw[<-s1];exact YT BD (YV zU)
  ·simp only[MS];intro p q YZ aU
   by_cases MT:p=j
   ·subst MT;simp only[jl,if_true,bO] at aU;subst aU;exact YV (YX (by rw[RR];exact YZ))
   ·simp only[jl,MT,if_false] at aU;exact ck p q YZ aU
  ·simp only[MS]
   funext p
   simp only[jl]
   by_cases F:p=i
   ·subst F;simp[hX]
   ·simp[F]
  ·simp only[qw];rw[akl eY]
end Go.Mini
namespace Go.Mini
open Go
variable {T:bj} {gm:Nat->Nat->Bool} {ops:Array Oper} {l:List bz} {K:a8->Prop}
abbrev uY:=Nat->bz->Rec->a8->Rec->a8->Prop
variable {db:uY}
def BE (db:uY)(ops:Array Oper)(l:List bz)(K:a8->Prop):Nat->Array Bool->Rec->a8->Prop
 |0,listed,_,st=>Region.ready .any ops listed=[]/\K st
 |fuel+1,listed,rec,st=>(Region.ready .any ops listed=[]->K st) /\
  ∀i∈Region.ready .any ops listed,∃x iN cf,l[i]?=some x/\db i x rec st iN cf/\BE db ops l K fuel (listed.setIfInBounds i true) iN cf
def wz (ops:Array Oper)(listed:Array Bool):Prop :=
 listed.size=ops.size/\∀(j:Nat) (o:Oper),ops[j]?=some o->listed.getD j false=true->∀e∈o.after,Region.binds .any e=true->listed.getD e.on false=true
def wz.set {listed:Array Bool}{i:Nat}(h:wz ops listed)(ab:i∈Region.ready .any ops listed):wz ops (listed.setIfInBounds i true):=by
 refine⟨by simp[h.1],λj o aa ag e he U=>?_⟩
 by_cases kV:j=i
 ·subst kV;obtain⟨_,x1,a6,cZ⟩:=mem_ready.1 ab;rw[aa] at a6
  cases a6;exact getD_set_true (cZ e he U)
 ·rw[getD_set_ne false (Ne.symm kV)] at ag;exact getD_set_true (h.2 j o aa ag e he U)
def RS (gm:Nat->Nat->Bool)(ops:Array Oper)(l:List bz):Prop :=
 ∀(i j:Nat) (x y:bz),i≠j->l[i]?=some x->l[j]?=some y ->
  (∀listed,wz ops listed->i∈Region.ready .any ops listed->j∈Region.ready .any ops listed->False)\/(oH x y=true/\Passes gm i j x y)
def RT {i k:Nat}{x:bz}{rec iN:Rec}{st cf:a8}(h:jr T gm i x rec st iN cf)(R:k≠i):iN k=rec k:=by
 rcases h with ⟨_,rfl,_⟩|⟨_,_,_,_,_,rfl,_⟩
 ·rfl
 ·simp[jl,R]
def akn {listed:Array Bool}{i k:Nat}(h:(listed.setIfInBounds i true).getD k true=false):k≠i/\listed.getD k true=false:=by
 by_cases BF:i=k
 ·subst BF
  exfalso
  by_cases aq:i<listed.size
  ·simp[aq] at h
  ·have:(listed.setIfInBounds i true).size<=i:=by simp;omega
   rw[Array.getD_eq_getD_getElem?,Array.getElem?_eq_none this] at h;simp at h
 ·rw[getD_set_ne true BF] at h;exact⟨λcI=>BF cI.symm,h⟩
def Ia (db:uY)(ops:Array Oper)(l:List bz):Prop :=
 ∀(i j:Nat) (x y:bz),i≠j->l[i]?=some x->l[j]?=some y ->
  (∀listed,wz ops listed->i∈Region.ready .any ops listed->j∈Region.ready .any ops listed->False) \/
  ∀rec st rec1 st1 kC kD,rec i=none->rec j=none->db i x rec st rec1 st1->db j y rec1 st1 kC kD->∃wy jz,db j y rec st wy jz/\db i x wy jz kC kD
def Ib (db:uY):Prop:=∀i x rec st iN cf,db i x rec st iN cf->∀k,k≠i->iN k=rec k
def Y0 (aR:RS gm ops l)(RR:∀a b,gm a b=gm b a):Ia (jr T gm) ops l:=λi j x y hX ab aa =>
 (aR i j x y hX ab aa).imp id fun⟨bc,U⟩ _ _ _ _ _ _ M _ F G=>jr.comm hX bc U RR M F G
def Y1:Ib (jr T gm):=λ_ _ _ _ _ _ h _ R=>RT h R
def ako (aR:Ia db ops l)(BG:Ib db){i:Nat}{x:bz}(ab:l[i]?=some x):∀(fuel:Nat) (listed:Array Bool) (rec:Rec) (st:a8) (rec1:Rec) (st1:a8),
  wz ops listed->(∀k,listed.getD k true=false->rec k=none)->i∈Region.ready .any ops listed->db i x rec st rec1 st1 ->
  BE db ops l K fuel (listed.setIfInBounds i true) rec1 st1->BE db ops l K (fuel+1) listed rec st:=by
 intro fuel
 induction fuel with
 |zero =>
  intro listed rec st rec1 st1 eb jR M he H;refine⟨λh=>(by rw[h] at M;cases M),λj aa=>?_⟩
  by_cases kV:j=i
  ·subst kV;exact⟨x,rec1,st1,ab,he,H⟩
  ·have:=ready_mono aa kV;rw[H.1] at this
   cases this
 |succ fuel a4 =>
  intro listed rec st rec1 st1 eb jR M he H;refine⟨λh=>(by rw[h] at M;cases M),λj aa=>?_⟩
  by_cases kV:j=i
  ·subst kV;exact⟨x,rec1,st1,ab,he,H⟩
  ·obtain⟨y,kC,kD,ak,dO,ei⟩:=H.2 j (ready_mono aa kV);rcases aR i j x y (Ne.symm kV) ab ak with h6|eY
   ·exact (h6 listed eb M aa).elim
   ·obtain⟨wy,jz,F,G⟩:=eY _ _ _ _ _ _ (jR i (mem_ready.1 M).1) (jR j (mem_ready.1 aa).1) he dO;refine⟨y,wy,jz,ak,F,a4 _ wy jz kC kD (eb.set aa) (λk R=>?_) (ready_mono M (Ne.symm kV)) G ?_⟩
    ·obtain⟨ad,aZ⟩:=akn R;rw[BG _ _ _ _ _ _ F k ad];exact jR k aZ
    ·rw[Array.setIfInBounds_comm _ _ kV];exact ei
def RU:∀(r:List Oper) (acc:List Nat) (k:Nat),k<(D acc)->(fV r acc).getD k 0=acc.getD k 0
 | [],acc,k,_=>rfl
 |o::r,acc,k,R=>by
  simp only[fV];rw[RU r _ k (by simp;omega)];simp only[dH];rw[uQ R]
def akp {es:List Edge}{acc:List Nat}{i:Nat}:∀(s:Nat),(es.foldl (λs e=>if Region.binds .any e=true then s ||| (2^e.on ||| acc.getD e.on 0) else s) s).testBit i=true ->
  s.testBit i=true\/∃e∈es,Region.binds .any e=true/\(e.on=i\/(acc.getD e.on 0).testBit i=true):=by
 induction es with
 |nil=>exact λs h => .inl h
 |cons e es a4 =>
  intro s h;rw[Yd] at h;rcases a4 _ h with F|⟨e',F,G⟩
  ·split at F
   ·rename_i U;rw[Y2,Y2,tA,tA] at F;rcases F with F|F|F
    ·exact .inl F
    ·rw[Nat.testBit_two_pow] at F;exact .inr ⟨e,by simp,U,.inl (by simpa using F)⟩
    ·exact .inr ⟨e,by simp,U,.inr F⟩
   ·exact .inl F
  ·exact .inr ⟨e',by simp[F],G⟩
def Y3:∀(r:List Oper) (acc:List Nat) (t:Nat) (o:Oper),r[t]?=some o->∀i,((fV r acc).getD (D acc+t) 0).testBit i=true ->
  ∃e∈o.after.toList,Region.binds .any e=true/\(e.on=i\/(e.on<D acc+t/\((fV r acc).getD e.on 0).testBit i=true))
 | [],_,_,_,h,_,_=>by simp at h
 |x1::r,acc,0,o,h,i,U=>by
  simp at h;subst h;simp only[fV,lo] at U ⊢;rw[RU r _ _ (by simp)] at U;simp only[dH] at U;rw[r4 (c9 _)] at U;simp only[hG,Y4,RG] at U;rcases akp (acc:=acc) 0 (by simpa only [dH] using U) with F|⟨e,F,G,ad⟩
  ·simp at F
  ·refine⟨e,F,G,ad.imp id λh=>?_⟩
   have aq:e.on<D acc:=by
    rcases gY e.on (D acc) with cI|cI
    ·exact cI
    ·rw[dH,lk cI] at h;simp at h
   refine⟨aq,?_⟩;rw[RU r _ _ (by simp;omega),dH,uQ aq,<-dH];exact h
 |x1::r,acc,t+1,o,h,i,U=>by
  have cI:r[t]?=some o:=by simpa using h
  simp only[fV] at U ⊢
  have:=Y3 r (acc++[x1.after.toList.foldl (λs e=>if Region.binds .any e=true then s ||| (2^e.on ||| acc.getD e.on 0) else s) 0]) t o cI i (by
   rw[ks,List.length_singleton,r0,Hj 1 t];exact U)
  obtain⟨e,F,G,ad⟩:=this;refine⟨e,F,G,ad.imp id λh=>⟨by have:=h.1;simp at this;omega,h.2⟩⟩
def Y5 {listed:Array Bool}(eb:wz ops listed):∀(j:Nat) (o:Oper),ops[j]?=some o->(∀e∈o.after,Region.binds .any e=true->listed.getD e.on false=true) ->
  ∀i,((fV ops.toList []).getD j 0).testBit i=true->listed.getD i false=true:=by
 intro j
 induction j using Nat.strongRecOn with
 |_ j a4 =>
  intro o a6 cZ i ab;obtain⟨e,he,U,h⟩:=Y3 ops.toList [] j o (by simpa using a6) i (by simpa using ab);have ag:=cZ e (by simpa using he) U;rcases h with rfl|⟨aq,akq⟩
  ·exact ag
  ·have ec:e.on<ops.size:=by
    rw[<-eb.1];rcases gY e.on listed.size with cI|cI
    ·exact cI
    ·simp[Array.getElem?_eq_none cI] at ag
   have Y6:ops[e.on]?=some ops[e.on]:=Array.getElem?_eq_getElem ec;exact a4 e.on (by simpa using aq) _ Y6 (eb.2 e.on _ Y6 ag) i akq
def Y7:∀(cs pre:List bz) (as:List Nat),xI pre cs as=true->∀(t:Nat) (y:bz),cs[t]?=some y->∀(i:Nat) (x:bz),(pre++cs)[i]?=some x->i<D pre+t ->
  (as.getD t 0).testBit i=true\/oH x y=true
 | [],_,_,_,_,_,h,_,_,_,_=>by simp at h
 |_::_,_,[],h,_,_,_,_,_,_,_=>by simp[xI] at h
 |c::cs,pre,a::as,h,0,y,ak,i,x,L,aq=>by
  simp only[xI,ff,kA] at h;simp at ak;subst ak;have ab:i<D pre:=by simpa using aq
  rw[uQ ab] at L;have:=h.1 (x,i) (by rw[Eu];exact L)
  simpa using this
 |c::cs,pre,a::as,h,t+1,y,ak,i,x,L,aq=>by
  simp only[xI,ff] at h;have:=Y7 cs (pre++[c]) as h.2 t y (by simpa using ak) i x (by simpa using L) (by simp;omega)
  simpa using this
def Y8:∀(cs pre:List bz) (as:List Nat) (t:Nat) (y:bz),cs[t]?=some y->∀(i:Nat) (x:bz),(pre++cs)[i]?=some x->i<D pre+t ->
  (as.getD t 0).testBit i=true\/uM (mh x.op) (mh y.op)=true\/i∈(mi pre cs as).getD t []
 | [],_,_,_,_,h,_,_,_,_=>by simp at h
 |c::cs,pre,as,0,y,ak,i,x,L,aq=>by
  simp at ak;subst ak;have ab:i<D pre:=by simpa using aq
  rw[uQ ab] at L;have gK:(x,i)∈pre.zipIdx:=by rw[Eu];exact L
  by_cases F:(as.getD 0 0).testBit i=true
  ·exact .inl F
  ·by_cases G:uM (mh x.op) (mh c.op)=true
   ·exact .inr (.inl G)
   ·refine .inr (.inr ?_);simp only[mi,dH,Y4,RG];refine List.mem_map.2 ⟨(x,i),List.mem_filter.2 ⟨gK,?_⟩,rfl⟩;have ad:as.headD 0=as.getD 0 0:=by cases as<;>rfl
    simp only[ad];rw[dH] at F;simp[F,G]
 |c::cs,pre,as,t+1,y,ak,i,x,L,aq=>by
  have:=Y8 cs (pre++[c]) as.tail t y (by simpa using ak) i x (by simpa using L) (by simp;omega);have ad:as.tail.getD t 0=as.getD (t+1) 0:=by cases as<;>simp
  rw[ad] at this
  simpa [mi] using this
def mS (c:List (List Nat))(i j:Nat):Bool:=if i<j then (c.getD j []).contains i else if j<i then (c.getD i []).contains j else false
def MU (c:List (List Nat))(i j:Nat):mS c i j=mS c j i:=by
 unfold mS
 by_cases F:i<j
 ·simp[F,Y9 F]
 ·by_cases G:j<i
  ·simp[G,Y9 G]
  ·simp[F,G]
def akr {x y:bz}(h:oH x y=true):oH y x=true:=by
 obtain⟨F,G,ad⟩:=BB h;unfold oH;rw[ff]
 constructor
 ·cases ak:y.dst with
  |none=>rfl
  |some d =>
   have a:=ad d ak;have b:x.dst≠some d:=λL=>G d L ak;simp[a,b]
 ·cases L:x.dst with
  |none=>rfl
  |some d =>
   have a:=F d L;simp[a]
def aks (a b:Nat):uM a b=uM b a:=by
 unfold uM
 cases (a==0)<;>cases (b==0)<;>cases (a==1)<;>cases (b==1)<;>rfl
def RV (af:qh ops l=true):RS (mS (mi [] l (fV ops.toList []))) ops l:=by
 have key:∀(i j:Nat) (x y:bz),i<j->l[i]?=some x->l[j]?=some y ->
   (∀listed,wz ops listed->i∈Region.ready .any ops listed->j∈Region.ready .any ops listed->False) \/
   (oH x y=true/\(mS (mi [] l (fV ops.toList [])) i j=true\/uM (mh x.op) (mh y.op)=true)):=by
  intro i j x y hX L ak;unfold qh at af;rw[ff] at af
  by_cases U:((fV ops.toList []).getD j 0).testBit i=true
  ·refine .inl λlisted eb ab aa=>?_;obtain⟨_,o,a6,cZ⟩:=mem_ready.1 aa;have F:=Y5 eb j o a6 cZ i U;have au:=(mem_ready.1 ab).1;rcases gY i listed.size with cI|cI
   ·simp[cI] at au F;rw[au] at F;cases F
   ·simp[Array.getElem?_eq_none cI] at F
  ·refine .inr ⟨?_,?_⟩
   ·rcases Y7 l [] _ af.2 j y ak i x (by simpa using L) (by simpa using hX) with h|h
    ·exact absurd h U
    ·exact h
   ·rcases Y8 l [] (fV ops.toList []) j y ak i x (by simpa using L) (by simpa using hX) with h|h|h
    ·exact absurd h U
    ·exact .inr h
    ·exact .inl (by unfold mS;rw[aL hX];exact Za.2 h)
 intro i j x y hX L ak;rcases Nat.lt_or_gt_of_ne hX with h|h
 ·exact key i j x y h L ak
 ·rcases key j i y x h ak L with F|⟨F,G⟩
  ·exact .inl λlisted eb ab aa=>F listed eb aa ab
  ·refine .inr ⟨akr F,?_⟩;rcases G with G|G
   ·exact .inl (by rw[MU];exact G)
   ·exact .inr (by rw[aks];exact G)
end Go.Mini
namespace Go.Mini
open Go
variable {P:Program} {b4:Option I} {T:bj} {A:Nat->Prop} {ct w:World} {dE B:cU} {mem:Mem} {n kb:Nat} {own:List Nat} {ops:Array Oper} {l:List bz} {K:a8->Prop} {a5:Exit->Act->World->Prop}
def Zb:∀(r:List Oper) (m:Nat),xJ m r=true->∀(t:Nat) (o:Oper),r[t]?=some o->∀e∈o.after,Region.binds .any e=true->e.on<m+t
 | [],_,_,_,_,h,_,_,_=>by simp at h
 |x1::r,m,h,0,o,a6,e,he,U=>by
  simp only[xJ,ff] at h;simp at a6;subst a6;have:=(Array.all_eq_true_iff_forall_mem.1 h.1) e he
  simpa [U] using this
 |x1::r,m,h,t+1,o,a6,e,he,U=>by
  simp only[xJ,ff] at h;have:=Zb r (m+1) h.2 t o (by simpa using a6) e he U;omega
inductive x2 (db:uY) (K:a8->Prop):Nat->List bz->Rec->a8->Prop
 |nil {m:Nat} {rec:Rec} {st:a8} (h:K st):x2 db K m [] rec st
 |cons {m:Nat} {x:bz} {r:List bz} {rec rec1:Rec} {st st1:a8} (h:db m x rec st rec1 st1) (M:x2 db K (m+1) r rec1 st1):x2 db K m (x::r) rec st
def RW {db:uY}(aR:Ia db ops l)(BG:Ib db)(ag:(D l)=ops.size)(he:xJ 0 ops.toList=true):∀(r:List bz) (m:Nat) (rec:Rec) (st:a8) (listed:Array Bool),l.drop m=r->m+D r=(D l) ->
  listed.size=ops.size->(∀i,i<ops.size->listed.getD i true=decide (i<m))->(∀k,m<=k->rec k=none)->x2 db K m r rec st->BE db ops l K (D r) listed rec st
 | [],m,rec,st,listed,M,hm,Q,dt,jR,.nil h=>by
  refine⟨List.eq_nil_iff_forall_not_mem.2 λi ab=>?_,h⟩;obtain⟨F,o,a6,_⟩:=mem_ready.1 ab;have aq:i<ops.size:=(Array.getElem?_eq_some_iff.1 a6).1;rw[dt i aq] at F;simp at F hm;omega
 |x::r,m,rec,st,listed,M,hm,Q,dt,jR,.cons (rec1:=rec1) (st1:=st1) hex R=>by
  have aq:m<ops.size:=by simp at hm;omega
  have a6:ops[m]?=some ops[m]:=Array.getElem?_eq_getElem aq
  have L:l[m]?=some x:=by
   have:(l.drop m)[0]?=some x:=by rw[M];rfl
   simpa using this
  have iM:=λ(j:Nat) (o:Oper) (aa:ops[j]?=some o)=>Zb ops.toList 0 he j o (by simpa using aa)
  have eZ:∀i,i<m->listed.getD i false=true:=λi ab=>by
   have F:=dt i (by omega);rw[mL ab] at F;have G:i<listed.size:=by omega
   simpa [G] using F
  have eb:wz ops listed:=⟨Q,λj o aa hk e oM U=>by
   have F:=iM j o aa e oM U;have kf:j<ops.size:=(Array.getElem?_eq_some_iff.1 aa).1
   have G:j<m:=by
    have:=dt j kf;have ad:j<listed.size:=by omega
    simp[ad] at hk this;rw[hk] at this
    simpa using this.symm
   exact eZ _ (by omega)⟩
  have akt:m∈Region.ready .any ops listed:=mem_ready.2 ⟨by rw[dt m aq];simp,_,a6,λe oM U=>eZ _ (by have:=iM m _ a6 e oM U;omega)⟩
  have aku:∀k,listed.getD k true=false->rec k=none:=λk R=>jR k (by
   rcases gY k ops.size with cI|cI
   ·rw[dt k cI] at R
    simpa using R
   ·omega)
  refine ako aR BG L _ listed rec st rec1 st1 eb aku akt hex (RW aR BG ag he r (m+1) rec1 st1 _ ?_ (by simp at hm;omega) (by simpa using Q) (λi ab=>?_) (λk R=>?_) R)
  ·rw[<-x3,M]
   rfl
  ·by_cases him:m=i
   ·subst him;have:m<listed.size:=by omega
    simp[this]
   ·rw[getD_set_ne true him,dt i ab]
    congr 1
    simp;omega
  ·rw[BG _ _ _ _ _ _ hex k (by omega)];exact jR k (by omega)
def Zc {c:List (List Nat)}:∀(r:List bz) (m:Nat) (rec:Rec) (st:a8),(∀k,m<=k->rec k=none)->tr T K m r (c.drop m) rec st->x2 (jr T (mS c)) K m r rec st
 | [],m,rec,st,_,h => .nil h
 |x::r,m,rec,st,jR,h=>by
  simp only[tr] at h
  split at h
  ·cases h
  ·rename_i g aN
   have next:∀rec1 st1,jr T (mS c) m x rec st rec1 st1->tr T K (m+1) r (c.drop m).tail rec1 st1->x2 (jr T (mS c)) K m (x::r) rec st:=λrec1 st1 hex R=>by
    rw[List.tail_drop] at R;exact .cons hex (Zc r (m+1) rec1 st1 (λk R=>by rw[RT hex (by omega)];exact jR k (by omega)) R)
   split at h
   ·rename_i kE;subst kE
    split at h
    ·rename_i iu e Q;refine next _ _ (.inr ⟨aN,iu,e,Q,λp q x4 aU=>?_,rfl,rfl⟩) h.2
     have ix:p<m:=by
      rcases gY p m with cI|cI
      ·exact cI
      ·rw[jR p cI] at aU;cases aU
     have x5:=h.1;unfold rX at x5;rw[kA] at x5
     have gK:p∈(c.drop m).headD []:=by
      unfold mS at x4;rw[aL ix] at x4
      have:(c.drop m).headD []=c.getD m []:=by
       rw[List.headD_eq_head?_getD,List.head?_drop,dH]
      rw[this];exact Za.1 x4
     have:=x5 p gK;rw[aU] at this;exact this
    ·cases h
   ·rename_i akv;have akw:g=false:=by simpa using akv
    subst akw;exact next _ _ (.inl ⟨aN,rfl,rfl⟩) h
def akx {c:List (List Nat)}(aR:RS (mS c) ops l)(ag:(D l)=ops.size)(he:xJ 0 ops.toList=true)(r:List bz)(m:Nat)(rec:Rec)(st:a8)(listed:Array Bool)(M:l.drop m=r)(hm:m+D r=D l)
  (Q:listed.size=ops.size) (dt:∀i,i<ops.size->listed.getD i true=decide (i<m)) (jR:∀k,m<=k->rec k=none) (h:tr T K m r (c.drop m) rec st):BE (jr T (mS c)) ops l K (D r) listed rec st :=
 RW (Y0 aR (MU c)) Y1 ag he r m rec st listed M hm Q dt jR (Zc r m rec st jR h)
def Ev (h:dQ A w B mem):dQ (bp A B) w (λ_=>none) emp :=
 ⟨λ_ _=>rfl,λ_ _ _ _ _ h=>(by cases h),λb _ ⟨_,_,h,_⟩=>(by cases h),λb U=>U.elim (λcI=>h.rU cI) (h.lt b),h.gl,λb o _ ⟨_,_,h,_⟩=>(by cases h),λ_ _ _ h=>(by cases h)⟩
def wA (b:Nat):bp (bp A B) (λ_=>none) b↔bp A B b :=
 ⟨λh=>h.elim (fun⟨_,_,h,_⟩=>by cases h) id,.inr⟩
def RX {m:I}{v:Value}(h:a0 w (bp A B) B m v):a0 w (bp (bp A B) λ_=>none) (λ_=>none) (shut m) v:=by
 cases h with
 |J h=>exact .J (h.less λb U=>(wA b).1 U)
 |nil=>exact .nil
 |ef ag af =>
  rename_i f dd vs
  cases dd with
  |nil=>exact .ef ag λi d v h=>by simp at h
  |cons c r=>exact .undef
 |agg ag af =>
  rename_i cs vs;simp only[shut]
  cases Y:cs.mapM rV with
  |none=>exact .undef
  |some ds =>
   obtain⟨F,G⟩:=mapM_get Y;refine .J (.agg (ag.trans F.symm) λi d v ab ao=>?_);have aq:i<D cs:=by have:=(dL.1 ab).1;omega
   have dh:=bf aq;exact (Rw (G i _ d dh ab) (af i _ v dh ao)).less λb U=>(wA b).1 U
 |_=>exact .undef
def shut_list {ms:List I}{vs:List Value}(h:cC w (bp A B) B ms vs):cC w (bp (bp A B) λ_=>none) (λ_=>none) (ms.map shut) vs:=by
 refine⟨by simpa using h.1,λi m v hm ao=>?_⟩
 rw[bg,c4] at hm;obtain⟨m',uZ,rfl⟩:=hm;exact RX (h.2 i m' v uZ ao)
def xZ.less {w an:World}{aw hj:Nat->Prop}{sz:Nat}{es:List (List Data)}{v:Value}(ag:∀b,hj b->aw b)(h:xZ w an aw sz es v):xZ w an hj sz es v:=by
 obtain⟨F,a,cap,G,ad,aZ,bw⟩:=h;refine⟨F,a,cap,G,ad,aZ,bw.imp id ?_⟩;rintro⟨b,vs,T,bA,bM,cd,di,dz⟩;exact⟨b,vs,T,bA,bM,cd,di,λi d af=>let ⟨u,hu,sb⟩:=dz i d af;⟨u,hu,sb.less λeG hE=>hE.imp (ag eG) id⟩⟩
def wB {o:Oper}{c:Call}{f:FuncId}{a:Act}(a6:o.op=.call c)(hW:c.callee=.value (.func f))(gz:Real P f):(execOp a.eval o).run P w=.ok (.enter f (c.args.toList.map a.eval).toArray) w:=by
 obtain⟨dst,op,type,pos,after,guard⟩:=o;simp only at a6;subst a6;obtain⟨callee,sc,zS⟩:=c;simp only at hW;subst hW;simp only[execOp,resolve,Deferred.ofValue,Act.eval,invoke,Sem.run_bind,Sem.run_pure,Result.andThen_ok,By gz];rw[wq sc];simp
def Zd {aw:Nat->Prop}{b off c sz len:Nat}{vs:Array Value}{T:TypeId}{ds:List Data}(bm:w.heap[b]?=some (.cells vs T (0,0)))(e9:¬ aw b)(ag:(D ds)=len*sz)(aky:len<=c)(hm:len<=maxLen)(HM:off+len*sz<=vs.size)
  (af:∀(i:Nat) (d:Data) (v:Value),ds[i]?=some d->vs[off+i]?=some v->Den w aw d v):Den w aw (.ar (chunk sz len ds)) (.slice (some ⟨b,off,none⟩) len c):=by
 have eb:=MC sz len ds
 have h:=Den.ar (w:=w) (aw:=aw) (es:=chunk sz len ds) (b:=b) (off:=off) (c:=c) (sz:=sz) (λi=>vs.getD (off+i) undef) (by rw[eb];exact aky) (by rw[eb];exact hm)
  (Array.getElem?_eq_some_iff.1 bm).1 e9 (MD sz len ds ag)
  (λi ab=>by
   rw[eb] at ab;rw[cell_of_row w b (off+i) vs T (0,0) bm];have:off+i<vs.size:=by omega
   simp[this])
  (λi d ng=>by
   rw[ME sz len ds ag] at ng;have aq:i<D ds:=(dL.1 ng).1;have lT:off+i<vs.size:=by omega
   have:vs.getD (off+i) undef=vs[off+i]:=by simp[lT]
   simp only[this];exact af i d _ ng (Array.getElem?_eq_getElem lT))
 rw[eb] at h;exact h
def akz {mem:Mem}{k g sz off len:Nat}{cs:List I}{d:Data}(hm:mem k=some (g,cs))(h:HE sz off len cs=some d):cN 1 mem (.ref k g sz off len)=some d:=by
 have a2:∀(m:I) (d:Data),rV m=some d->cN 0 mem m=some d:=λm d h=>by
  unfold rV at h
  split at h<;>simp_all [cN]
 have ag:∀(l:List I) (ds:List Data),l.mapM rV=some ds->l.mapM (cN 0 mem)=some ds:=by
  intro l
  induction l with
  |nil=>intro ds h;simpa using h
  |cons m l a4 =>
   intro ds h;simp only[nf,ga,gj,dI,bO] at h ⊢;obtain⟨x,L,wC,fE,rfl⟩:=h;exact⟨x,a2 m x L,wC,a4 wC fE,rfl⟩
 unfold HE at h
 split at h
 ·rename_i part aR;simp only[Re,c4] at h;obtain⟨ds,fE,rfl⟩:=h;simp only[cN,hm,if_true,aR];rw[ag _ _ fE]
  rfl
 ·cases h
def Ic {k:Key}{g sz off len:Nat}{cs:List I}{d:Data}{v:Value}(bk:dQ A w B mem)(R:mem k=some (g,cs))(af:cN 1 mem (.ref k g sz off len)=some d)(ao:a0 w (bp A B) B (.ref k g sz off len) v):
  Den w (bp A (e4 B k ⟨bB mem k,none,0,false⟩)) d v:=by
 have e9:∀b,bp A (e4 B k ⟨bB mem k,none,0,false⟩) b->bp A B b:=λb h=>h.imp (fun⟨j,e,aa,L⟩=>by
  by_cases b3:j=k
  ·subst b3;rw[fz] at aa;cases aa;cases L
  ·rw[fm B _ b3] at aa;exact⟨j,e,aa,L⟩) id
 simp only[cN,R,if_true] at af
 split at af
 ·rename_i part RY;simp only[c4] at af;obtain⟨ds,fE,rfl⟩:=af;obtain⟨eb,rfl,ix⟩:=Ee RY;obtain⟨F,G⟩:=mapM_get fE
  cases ao with
  |ref he hgle M =>
   obtain⟨e,eL,bD,aC,U⟩:=bk.at_ R;rw[eL] at he;obtain rfl:=mm he;obtain⟨a,cap,rfl,ad,aZ,bw⟩:=M;rcases bw with bw|⟨b,rfl,bA⟩
   ·have:len=0:=by omega
    subst this;simp only[chunk];exact .kP
   ·obtain⟨bM,cd,hF⟩:=bA bD.symm;obtain⟨vs,T,bm,a2,hle,b9⟩:=U b bM hF
    have RZ:¬ bp A (e4 B k ⟨bB mem k,none,0,false⟩) b:=by
     rintro (⟨j,az,aa,L⟩|bc)
     ·by_cases b3:j=k
      ·subst b3;rw[fz] at aa;cases aa;cases L
      ·rw[fm B _ b3] at aa;exact b3 (bk.inj j k az _ b aa eL L bM)
     ·exact bk.sep b bc ⟨k,_,eL,bM⟩
    refine Zd bm RZ (by omega) ad (by omega) (by omega) λi x u L hu=>?_;have aq:i<D ds:=(dL.1 L).1;have lT:off+i<D cs:=by omega
    have dh:((cs.drop off).take (len*sz))[i]?=some cs[off+i]:=by
     rw[x6 (by omega),oI,bf lT]
    have oO:=G i _ x dh L
    have kR:a0 w (bp A B) B cs[off+i] u:=b9.2 (off+i) _ u (bf lT) (by
     rw[x6 lT,Array.getElem?_toList];exact hu)
    generalize cs[off+i]=m at *
    cases m<;>simp only[cN,bO,reduceCtorEq] at oO
    ·subst oO
     cases kR with
     |J h=>exact h.less e9
    ·subst oO
     cases kR;exact .kP
 ·cases af
def akA {hj:Nat->Prop}{aA:cU}(e9:∀b,hj b->bp A B b){m:I}{v:Value}(h:a0 w (bp A B) B m v):a0 w hj aA (shut m) v:=by
 have au:=RX h;have akB:∀b,hj b->bp (bp A B) (λ_=>none) b:=λb U=>(wA b).2 (e9 b U)
 have go:∀{m:I},(∃d,m=.J d)\/m=.nil\/(∃f,m=.ef f [])\/m=.undef->a0 w (bp (bp A B) λ_=>none) (λ_=>none) m v->a0 w hj aA m v:=by
  intro m hm h;rcases hm with ⟨d,rfl⟩|rfl|⟨f,rfl⟩|rfl
  ·cases h with
   |J h=>exact .J (h.less akB)
  ·cases h;exact .nil
  ·cases h with
   |ef ag af=>exact .ef ag λi d v h=>by simp at h
  ·exact .undef
 refine go ?_ au
 cases m<;>simp only[shut]
 case J d=>simp
 case nil=>simp
 case ef f dd=>cases dd<;>simp
 case agg cs=>split<;>simp
 all_goals simp
def akC {k:Key}{g:Nat}{cs:List I}(h:dQ A w B mem)(R:mem k=some (g,cs))(af:q4 cs=true):
  dQ (λb=>A b\/∃j e,j≠k/\B j=some e/\e.dk=some b) w (λj=>if j=k then B k else none) (aV emp k g cs):=by
 have e9:∀b,bp (λb=>A b\/∃j e,j≠k/\B j=some e/\e.dk=some b) (λj=>if j=k then B k else none) b->bp A B b:=λb U=>by
  rcases U with ⟨j,e,aa,L⟩|bc|⟨j,e,_,aa,L⟩
  ·by_cases b3:j=k
   ·subst b3;simp only[if_true] at aa;exact .inl ⟨_,e,aa,L⟩
   ·simp only[b3,if_false] at aa;cases aa
  ·exact .inr bc
  ·exact .inl ⟨j,e,aa,L⟩
 refine⟨λj aa=>?_,λj iI e e' b F G _ _=>?_,λb bc a6=>?_,λb U=>?_,h.gl,λb o U ⟨j,e,aa,L⟩=>?_,λj cx g8 aa=>?_⟩
 ·by_cases b3:j=k
  ·subst b3;simp[aV] at aa
  ·simp only[b3,if_false]
 ·by_cases aa:j=k<;>by_cases kf:iI=k
  ·rw[aa,kf]
  ·simp only[kf,if_false] at G;cases G
  ·simp only[aa,if_false] at F;cases F
  ·simp only[aa,if_false] at F;cases F
 ·obtain⟨j,e,aa,L⟩:=a6
  by_cases b3:j=k
  ·subst b3;simp only[if_true] at aa;rcases bc with bc|⟨iI,e',bq,kf,oO⟩
   ·exact h.sep b bc ⟨_,e,aa,L⟩
   ·exact bq (h.inj _ _ e' e b kf aa oO L)
  ·simp only[b3,if_false] at aa;cases aa
 ·rcases U with U|⟨j,e,_,aa,L⟩
  ·exact h.lt b U
  ·exact h.rU ⟨j,e,aa,L⟩
 ·by_cases b3:j=k
  ·subst b3;simp only[if_true] at aa;exact h.v8 b o U ⟨_,e,aa,L⟩
  ·simp only[b3,if_false] at aa;cases aa
 ·by_cases b3:j=k
  ·subst b3;simp only[aV,if_true,bO,eM] at aa;obtain⟨rfl,rfl⟩:=aa;obtain⟨e,he,aN,aC,U⟩:=h.dk _ _ _ R;refine⟨e,by simp only[if_true];exact he,aN,aC,λb fW=>?_⟩
   refine (U b fW).imp rfl rfl λm ab v jm=>?_;unfold q4 at af;rw[kA] at af;have hm:=af m ab;rw[Yr] at hm;obtain⟨d,hm⟩:=hm;unfold rV at hm
   split at hm<;>cases hm
   ·cases jm with
    |J jm=>exact .J (jm.less e9)
   ·cases jm;exact .nil
  ·simp only[aV,b3,if_false,emp] at aa;cases aa
def akD {an:World}{k:Key}{tj:Nat->Prop}(h:dQ A w B mem)(akE:∀b,tj b->∃e,B k=some e/\e.dk=some b)(f:Fr tj w an):da A w B an (e4 B k ⟨bB mem k,none,0,false⟩) (aV mem k (bB mem k) []) :=
 da.change (e':=⟨bB mem k,none,0,false⟩) h ⟨f.os,f.tape,f.output,f.size,λb U a6=>f.block b U λL=>a6 (akE b L)⟩ (λe he => .inr (zH h k e he)) (λb U=>by simp at U) (λ_=>rfl) (λb U=>by simp at U)
def akF (cw:nh P T){a:Act}{st:a8}{o:Oper}{i:bz}{m:I}{e:Option (Key×Nat×List I)}(h:dS b4 n A ct dE a st w B)(ab:Et P n kb own ops o i)
  (Q:eX T st.mem st.tm i.op=some (m,e)):o.wp P a w (λcD an=>∃aA,dS b4 n A ct dE cD ⟨put st.tm i.dst m,gg st.mem e⟩ an aA) a5:=by
 have e5:=ab.op
 have plain:bF st.mem st.tm i.op=some (m,e)->o.wp P a w (λcD an=>∃aA,dS b4 n A ct dE cD ⟨put st.tm i.dst m,gg st.mem e⟩ an aA) a5:=by
  intro Q
  have ay:gX P kb own o.dst o.type o.op=some i.op:=getD_some e5 (by
   intro U;rw[U] at Q
   cases Q)
  obtain⟨zR,v,an,aA,eN,jo,dg,ao⟩:=RH h.ok.cu h.kh (λ_=>rfl) ay Q;unfold Oper.wp;rw[eN,ab.dst];have x0:=h.put dg ao ab.lt;rcases jo with rfl|⟨rfl,rfl⟩
  ·exact⟨aA,x0⟩
  ·exact⟨aA,x0⟩
 cases rf:i.op with
 |call f args =>
  have ay:gX P kb own o.dst o.type o.op=some i.op:=getD_some e5 (by rw[rf];simp);rw[rf] at ay Q;obtain⟨c,Y,hW,jq⟩:=HZ ay;have b9:=shut_list (qs h.kh jq);rw[x7] at b9;simp only[eX] at Q
  split at Q
  ·rename_i r hH
   cases Q;obtain⟨gz,iM⟩:=cw f _ _ _ hH;have mo:=iM (bp A B) w (λ_=>none) _ (Ev h.ok.cu) b9;unfold Oper.wp;rw[wB Y hW gz,ab.dst];refine Calls.mono mo λe an he=>?_;obtain⟨v,rfl,dr,af⟩:=he;exact⟨B,h.put (.still h.ok.cu dr) (.J (af.less λb U=>(wA b).2 U)) ab.lt⟩
  ·rename_i sz es hH
   cases Q;obtain⟨gz,iM⟩:=cw f _ _ _ hH;have mo:=iM (bp A B) w (λ_=>none) _ (Ev h.ok.cu) b9;unfold Oper.wp;rw[wB Y hW gz,ab.dst];refine Calls.mono mo λe an he=>?_;obtain⟨v,rfl,dr,af⟩:=he;exact⟨B,h.put (.still h.ok.cu dr) (.J ((af.less λb U=>(wA b).2 U).den λb U=>U.elim (λcI=>h.ok.cu.rU cI) (h.ok.cu.lt b))) ab.lt⟩
  ·cases Q
 |lb k sz f args =>
  have ay:gX P kb own o.dst o.type o.op=some i.op:=getD_some e5 (by rw[rf];simp);rw[rf] at ay Q;obtain⟨c,Y,hW,jq⟩:=YI ay;have b9:=shut_list (qs h.kh jq);rw[x7] at b9;simp only[eX] at Q
  split at Q
  ·rename_i eh es hH
   split at Q
   ·rename_i ec;subst ec
    cases Q;obtain⟨gz,iM⟩:=cw f _ _ _ hH;have mo:=iM (bp A B) w (λ_=>none) _ (Ev h.ok.cu) b9;unfold Oper.wp;rw[wB Y hW gz,ab.dst];refine Calls.mono mo λe an he=>?_;obtain⟨v,rfl,dr,af⟩:=he;obtain⟨aA,dg,ao⟩:=YH k h.ok.cu dr (af.less λb U=>(wA b).2 U);exact⟨aA,h.put dg ao ab.lt⟩
   ·cases Q
  ·cases Q
 |kQ b8 f args =>
  have ay:gX P kb own o.dst o.type o.op=some i.op:=getD_some e5 (by rw[rf];simp);rw[rf] at ay Q;obtain⟨c,Y,hW,jq⟩:=aj2 ay;have b9:=qs h.kh jq;simp only[eX] at Q;obtain⟨r,k,g,ayE,cc,cs,hH,hm,rfl,rfl,al⟩:=YS Q;obtain⟨gz,iM⟩:=cw f _ _ _ hH;have mo:=iM A w B _ h.ok.cu b9;unfold Oper.wp;rw[wB Y hW gz,ab.dst];refine Calls.mono mo λe an he=>?_;obtain⟨v,aA,rfl,dg,ao⟩:=he;refine⟨aA,?_⟩;have n5:qe st.mem k=cs:=by simp only[qe,hm]
  rw[n5] at dg;exact h.put dg ao ab.lt
 |qb j f args =>
  have ay:gX P kb own o.dst o.type o.op=some i.op:=getD_some e5 (by rw[rf];simp);rw[rf] at ay Q;obtain⟨c,Y,hW,jq⟩:=aj3 ay;have zV:=qs h.kh jq;simp only[eX] at Q;obtain⟨k,g,sz,off,len,cs,d,r,L,hm,af,M,rfl,rfl⟩:=YQ Q;have ok:=da.wh h.ok.cu k
  have aq:j<(c.args.toList.map a.eval).length:=by
   rw[zV.1];exact (dL.1 L).1
  have HN:=bf aq;have sb:=Ic h.ok.cu hm (akz hm af) (zV.2 j _ _ L HN);have MV:=shut_list (zV.j9 ok.iH);rw[x7] at MV
  have MW:cC w (bp (bp A (e4 B k ⟨bB st.mem k,none,0,false⟩)) λ_=>none) (λ_=>none) ((args.map (shut ∘ aM st.tm)).set j (.J d)) (c.args.toList.map a.eval):=by
   refine⟨by rw[MV.1,fk],λi m v F G=>?_⟩
   by_cases kV:j=i
   ·subst kV;rw[HN] at G
    cases G;have hk:j<(args.map (shut ∘ aM st.tm)).length:=by rw[<-MV.1];exact aq
    rw[Ze hk] at F
    cases F;exact .J (sb.less λb U=>(wA b).1 U)
   ·rw[Zf kV] at F;exact MV.2 i m v F G
  unfold Mn at M
  split at M
  ·rename_i xL hH
   cases M;obtain⟨gz,iM⟩:=cw f _ _ _ hH;have mo:=iM (bp A (e4 B k ⟨bB st.mem k,none,0,false⟩)) w (λ_=>none) _ (Ev ok.cu) MW;unfold Oper.wp;rw[wB Y hW gz,ab.dst];refine Calls.mono mo λe an he=>?_;obtain⟨v,rfl,dr,mP⟩:=he;exact⟨_,h.put (ok.trans (.still ok.cu dr)) (.J (mP.less λb U=>(wA b).2 U)) ab.lt⟩
  ·rename_i eh es hH
   cases M;obtain⟨gz,iM⟩:=cw f _ _ _ hH;have mo:=iM (bp A (e4 B k ⟨bB st.mem k,none,0,false⟩)) w (λ_=>none) _ (Ev ok.cu) MW;unfold Oper.wp;rw[wB Y hW gz,ab.dst];refine Calls.mono mo λe an he=>?_;obtain⟨v,rfl,dr,mP⟩:=he;exact⟨_,h.put (ok.trans (.still ok.cu dr)) (.J ((mP.less λb U=>(wA b).2 U).den λb U=>U.elim (λcI=>ok.cu.rU cI) (ok.cu.lt b))) ab.lt⟩
  ·cases M
 |qc j f args =>
  have ay:gX P kb own o.dst o.type o.op=some i.op:=getD_some e5 (by rw[rf];simp);rw[rf] at ay Q;obtain⟨c,Y,hW,jq⟩:=aj4 ay;have zV:=qs h.kh jq;simp only[eX] at Q;obtain⟨k,g,sz,off,len,cx,cs,r,L,hm,af,hH,rfl,rfl⟩:=YR Q;have bk:=akC h.ok.cu hm af
  have akG:∀b,bp (λb=>A b\/∃j e,j≠k/\B j=some e/\e.dk=some b) (λj=>if j=k then B k else none) b->bp A B b:=λb U=>by
   rcases U with ⟨wD,e,aa,rh⟩|bc|⟨wD,e,_,aa,rh⟩
   ·by_cases b3:wD=k
    ·simp only[aL b3] at aa;exact .inl ⟨k,e,aa,rh⟩
    ·simp only[aT b3] at aa;cases aa
   ·exact .inr bc
   ·exact .inl ⟨wD,e,aa,rh⟩
  have aq:j<(c.args.toList.map a.eval).length:=by
   rw[zV.1];exact (dL.1 L).1
  have HN:=bf aq
  have MW:cC w (bp (λb=>A b\/∃j e,j≠k/\B j=some e/\e.dk=some b) (λj=>if j=k then B k else none)) (λj=>if j=k then B k else none) ((args.map λx=>shut (aM st.tm x)).set j (.ref k g sz off len)) (c.args.toList.map a.eval):=by
   refine⟨by rw[zV.1,fk,aj,aj],λi m v F G=>?_⟩
   by_cases kV:j=i
   ·subst kV
    have hk:j<(args.map λx=>shut (aM st.tm x)).length:=by
     have:=(dL.1 L).1
     simpa using this
    rw[Ze hk] at F
    cases F;have ao:=zV.2 j _ v L G
    cases ao with
    |ref he aN M=>exact .ref (by simp only[if_true];exact he) aN M
   ·rw[Zf kV,bg,c4] at F;obtain⟨y,ak,rfl⟩:=F;exact akA akG (zV.2 i (aM st.tm y) v (by rw[bg,ak];rfl) G)
  obtain⟨gz,iM⟩:=cw f _ _ _ hH;have mo:=iM _ w _ _ bk MW;unfold Oper.wp;rw[wB Y hW gz,ab.dst];refine Calls.mono mo λe an he=>?_;obtain⟨v,iV,rfl,dg,ao⟩:=he;refine⟨_,h.put (akD h.ok.cu (λb U=>?_) dg.fZ) ?_ ab.lt⟩
  ·obtain⟨wD,e,aa,rh⟩:=U
   by_cases b3:wD=k
   ·simp only[aL b3] at aa;exact⟨e,aa,rh⟩
   ·simp only[aT b3] at aa;cases aa
  ·cases ao with
   |J ao =>
    refine .J (ao.less λb U=>?_);rcases U with ⟨wD,e,aa,rh⟩|bc
    ·by_cases b3:wD=k
     ·rw[b3,fz] at aa;cases aa;cases rh
     ·rw[fm B _ b3] at aa;exact .inr (.inr ⟨wD,e,b3,aa,rh⟩)
    ·exact .inr (.inl bc)
 |jN f args =>
  have ay:gX P kb own o.dst o.type o.op=some i.op:=getD_some e5 (by rw[rf];simp);rw[rf] at ay Q;obtain⟨c,x,Y,hW,L,jq⟩:=RM ay;have b9:=shut_list (qs h.kh jq);rw[x7] at b9;simp only[eX] at Q
  split at Q
  ·rename_i g aN
   split at Q
   ·rename_i r hH
    cases Q;have MM:=RX (h.kh _ _ L);rw[aN] at MM;obtain⟨cs,hu,eb⟩:=H2 MM (.inl rfl);have iJ:cs=[]:=q9 eb.1;subst iJ;obtain⟨gz,iM⟩:=cw g _ _ _ hH;have mo:=iM (bp A B) w (λ_=>none) _ (Ev h.ok.cu) b9
    have hex:(execOp a.eval o).run P w=.ok (.enter g (c.args.toList.map a.eval).toArray) w:=by
     obtain⟨dst,op,type,pos,after,guard⟩:=o;simp only at Y;subst Y;obtain⟨callee,sc,zS⟩:=c;simp only at hW;subst hW;simp only[execOp,resolve,hu,Deferred.ofValue,invoke,Sem.run_bind,Sem.run_pure,Result.andThen_ok,By gz];rw[wq sc];simp
    unfold Oper.wp;rw[hex,ab.dst];refine Calls.mono mo λe an he=>?_;obtain⟨v,rfl,dr,af⟩:=he;exact⟨B,h.put (.still h.ok.cu dr) (.J (af.less λb U=>(wA b).2 U)) ab.lt⟩
   ·cases Q
  ·cases Q
 |lR neg x=>rw[rf] at Q;cases Q
 |_=>exact plain (by rw[rf] at Q ⊢;exact Q)
def MX {α β:Type}{f:α->Option β}{xs:List α}{ys:List β}(h:xs.mapM f=some ys){i:Nat}{x:α}(L:xs[i]?=some x):∃y,ys[i]?=some y/\f x=some y:=by
 obtain⟨F,G⟩:=mapM_get h;have aq:i<D ys:=by rw[F];exact (dL.1 L).1
 exact⟨_,bf aq,G i x _ L (bf aq)⟩
def MY (P:Program)(b4:Option I)(n:Nat)(A:Nat->Prop)(ct:World)(dE:cU)(ops:Array Oper)(l:List bz)(db:uY)(a5:Exit->Act->World->Prop):Prop :=
 ∀i x o rec st iN cf a w B,l[i]?=some x->ops[i]?=some o->db i x rec st iN cf->dS b4 n A ct dE a st w B ->
  (Region.wanted o (yielded ops a.tmps)=false/\dS b4 n A ct dE (a.put o.dst undef) cf w B)\/(Region.wanted o (yielded ops a.tmps)=true/\o.wp P a w (λcD an=>∃aA,dS b4 n A ct dE cD cf an aA) a5)
def R0 (cw:nh P T){gm:Nat->Nat->Bool}(ay:ops.toList.mapM (nC P n kb own ops)=some l):MY P b4 n A ct dE ops l (jr T gm) a5:=by
 intro i x o rec st iN cf a w B L a6 hex Q;obtain⟨y,ak,Ie⟩:=MX ay (i:=i) (x:=o) (by simpa using a6);rw[L] at ak
 cases ak;have wE:=H0 Ie;rcases hex with ⟨aN,rfl,rfl⟩|⟨aN,m,e,Ig,_,rfl,rfl⟩
 ·exact .inl ⟨zQ Q wE.guard aN,by rw[wE.dst];exact Q.put (.refl Q.ok.cu) .no wE.lt⟩
 ·exact .inr ⟨zQ Q wE.guard aN,akF cw Q wE Ig⟩
def MZ {db:uY}(dg:MY P b4 n A ct dE ops l db a5)(e6:∀st a w B,K st->dS b4 n A ct dE a st w B->a5 .normal a w):
  ∀(fuel:Nat) (listed:Array Bool) (rec:Rec) (st:a8) (a:Act) (w:World) (B:cU),dS b4 n A ct dE a st w B->BE db ops l K fuel listed rec st->wpAny P .any ops a5 fuel listed a w
 |0,_,_,_,_,_,_,Q,h=>⟨h.1,e6 _ _ _ _ h.2 Q⟩
 |fuel+1,listed,rec,st,a,w,B,Q,h=>by
  refine⟨λau=>e6 _ _ _ _ (h.1 au) Q,λi ab=>?_⟩;obtain⟨x,iN,cf,L,hex,R⟩:=h.2 i ab;obtain⟨_,o,a6,_⟩:=mem_ready.1 ab;unfold wpOp;simp only[a6];rcases dg i x o rec st iN cf a w B L a6 hex Q with ⟨hw,eH⟩|⟨hw,eH⟩
  ·rw[hw,aT (by simp)];exact MZ dg e6 fuel _ _ _ _ _ B eH R
  ·rw[hw,aL rfl];exact .inl (Oper.wp_mono (λcD an ⟨aA,eH⟩=>MZ dg e6 fuel _ _ _ _ _ aA eH R) eH)
def akH (cw:nh P T){gm:Nat->Nat->Bool}(ay:ops.toList.mapM (nC P n kb own ops)=some l)(e6:∀st a w B,K st->dS b4 n A ct dE a st w B->a5 .normal a w):
  ∀(fuel:Nat) (listed:Array Bool) (rec:Rec) (st:a8) (a:Act) (w:World) (B:cU),dS b4 n A ct dE a st w B->BE (jr T gm) ops l K fuel listed rec st->wpAny P .any ops a5 fuel listed a w :=
 MZ (R0 cw ay) e6
def dS.drew {a:Act}{st:a8}(h:dS b4 n A ct dE a st w B)(d:Nat):dS b4 n A ct dE a st { w with drawn:=d } B:=by
 have Q:da A w B { w with drawn:=d } B st.mem:=.still h.ok.cu ((Fr.refl _ _).drew d);exact⟨h.ok.trans Q,λs=>(h.tm s).j9 Q.iH,h.sz,h.wv.j9 Q.iH⟩
def akI (cw:nh P T)(hm:P.follows .mixedOrders=true){id:Nat}{a:Act}{st:a8}(ay:ops.toList.mapM (nC P n kb own ops)=some l)(af:qh ops l=true)(Q:dS b4 n A ct dE a st w B)
  (h:tr T K 0 l (mi [] l (fV ops.toList [])) (λ_=>none) st) (e6:∀st a w B,K st->dS b4 n A ct dE a st w B->a5 .normal a w):(Code.region id ops true).wp P a5 a w:=by
 refine wp_region_any hm ?_
 have ag:(D l)=ops.size:=by
  rw[(mapM_get ay).1,Array.length_toList]
 have u0:=akx (RV af) ag (by unfold qh at af;rw[ff] at af;exact af.1) l 0 (λ_=>none) st (Array.replicate ops.size false) rfl (by simp) (by simp) (λi ab=>by simp[ab]) (λ_ _=>rfl) h;rw[ag] at u0;exact akH cw ay e6 ops.size _ _ _ _ _ B (Q.drew _) u0
def R1 (cw:nh P T)(ay:ops.toList.mapM (nC P n kb own ops)=some l)(e6:∀st a w B,K st->dS b4 n A ct dE a st w B->a5 .normal a w):
  ∀(r:List bz) (m:Nat) (st:a8) (a:Act) (w:World) (B:cU),l.drop m=r->dS b4 n A ct dE a st w B->wc T K r st->wpOps P ops a5 (List.range' m (D r)) a w
 | [],_,_,_,_,_,_,Q,h=>e6 _ _ _ _ h Q
 |x::r,m,st,a,w,B,M,Q,h=>by
  have L:l[m]?=some x:=by
   have:(l.drop m)[0]?=some x:=by rw[M];rfl
   simpa using this
  have dD:l.drop (m+1)=r:=by rw[<-x3,M];rfl
  have aq:m<ops.size:=by
   have F:=(mapM_get ay).1;have G:=(dL.1 L).1;simp at F;omega
  have a6:ops[m]?=some ops[m]:=Array.getElem?_eq_getElem aq;obtain⟨y,ak,Ie⟩:=MX ay (i:=m) (x:=ops[m]) (by simp);rw[L] at ak
  cases ak;have wE:=H0 Ie;simp only[lQ,List.range'_succ];rw[wpOps_cons];unfold wpOp;simp only[a6];simp only[wc] at h
  split at h
  ·cases h
  ·rename_i g aN;rw[zQ Q wE.guard aN]
   cases g with
   |true =>
    simp only[if_true] at h ⊢;exact .inl (Oper.wp_mono (λcD an ⟨cf,aA,R,eH⟩=>R1 cw ay e6 r (m+1) cf cD an aA dD eH R) (aj6 cw Q wE h))
   |false =>
    simp only[cE,if_false] at h ⊢;exact R1 cw ay e6 r (m+1) _ _ _ B dD (Q.put (.refl Q.ok.cu) .no wE.lt) (by rw[<-wE.dst];exact h)
end Go.Mini
namespace Go.Mini
open Go
variable {A:Nat->Prop} {w:World} {B:cU} {mem:Mem}
def Zg (bk:dQ A w B mem){aw:Nat->Prop}(e9:∀b,aw b->A b){k:Key}{e:hv}{b:Nat}(he:B k=some e)(U:e.dk=some b):¬ aw b :=
 λh=>bk.sep b (e9 b h) ⟨k,e,he,U⟩
def snap (bk:dQ A w B mem){aw:Nat->Prop}(e9:∀b,aw b->A b):∀(d:Nat) (m:I) (v:Value) (r:Data),cN d mem m=some r->a0 w (bp A B) B m v->Den w aw r v:=by
 have Zh:∀(d:Data) (v:Value),a0 w (bp A B) B (.J d) v->Den w aw d v:=λd v h=>by
  cases h with
  |J h=>exact h.less λb U => .inr (e9 b U)
 have zW:∀v,a0 w (bp A B) B .nil v->Den w aw (.ar []) v:=λv h=>by
  cases h;exact .kP
 intro d
 induction d with
 |zero =>
  intro m v r h ao
  cases m<;>simp only[cN,bO,reduceCtorEq] at h
  ·subst h;exact Zh _ _ ao
  ·subst h;exact zW _ ao
 |succ d a4 =>
  intro m v r h ao
  have lists:∀(cs:List I) (vs:List Value) (ds:List Data),cs.mapM (cN d mem)=some ds->(D vs)=(D cs)->(∀(i:Nat) (x:I) (u:Value),cs[i]?=some x->vs[i]?=some u->a0 w (bp A B) B x u) ->
    (D vs)=D ds/\∀(i:Nat) (x:Data) (u:Value),ds[i]?=some x->vs[i]?=some u->Den w aw x u:=by
   intro cs vs ds fE ag M;obtain⟨F,G⟩:=mapM_get fE;refine⟨by omega,λi x u L hu=>?_⟩
   have aq:i<D cs:=by have:=(dL.1 L).1;omega
   have dh:=bf aq;exact a4 _ u x (G i _ x dh L) (M i _ u dh hu)
  cases m<;>simp only[cN,bO,c4,reduceCtorEq] at h
  case J=>subst h;exact Zh _ _ ao
  case nil=>subst h;exact zW _ ao
  case ref k g sz off len =>
   split at h
   ·rename_i cx cs R
    split at h
    ·rename_i aN;subst aN
     split at h
     ·rename_i part RY;simp only[c4] at h;obtain⟨ds,fE,rfl⟩:=h;obtain⟨eb,rfl,ix⟩:=Ee RY;obtain⟨F,G⟩:=mapM_get fE
      cases ao with
      |ref he hgle M =>
       obtain⟨e,eL,bD,aC,U⟩:=bk.at_ R;rw[eL] at he
       cases he;obtain⟨a,cap,rfl,ad,aZ,bw⟩:=M;rcases bw with bw|⟨b,rfl,bA⟩
       ·have:len=0:=by omega
        subst this;simp only[chunk];exact .kP
       ·obtain⟨bM,cd,hF⟩:=bA bD.symm;obtain⟨vs,T,bm,a2,hle,b9⟩:=U b bM hF;refine Zd bm (Zg bk e9 eL bM) (by omega) ad (by omega) (by omega) λi x u L hu=>?_;have aq:i<D ds:=(dL.1 L).1;have lT:off+i<D cs:=by omega
        have dh:((cs.drop off).take (len*sz))[i]?=some cs[off+i]:=by
         rw[x6 (by omega),oI,bf lT]
        refine a4 _ u x (G i _ x dh L) (b9.2 (off+i) _ u (bf lT) ?_);rw[x6 lT,Array.getElem?_toList];exact hu
     ·cases h
    ·cases h
   ·cases h
  case ptr k g off =>
   split at h
   ·rename_i cx cs R
    split at h
    ·rename_i aN;obtain⟨rfl,Rv⟩:=aN;simp only[c4] at h;obtain⟨ds,fE,rfl⟩:=h;obtain⟨F,G⟩:=mapM_get fE
     cases ao with
     |ptr he hgle M =>
      obtain⟨e,eL,bD,aC,U⟩:=bk.at_ R;rw[eL] at he
      cases he;obtain⟨b,rfl,bA⟩:=M;obtain⟨bM,hF⟩:=bA bD.symm;obtain⟨vs,T,bm,a2,hle,b9⟩:=U b bM hF;rw[List.length_drop] at F;refine .ptr (λi=>vs.getD (off+i) undef) (Array.getElem?_eq_some_iff.1 bm).1 (Zg bk e9 eL bM) (λi ab=>?_) λi x L=>?_
      ·rw[cell_of_row w b (off+i) vs T (0,0) bm];have:off+i<vs.size:=by omega
       simp[this]
      ·have aq:i<D ds:=(dL.1 L).1;have lT:off+i<D cs:=by omega
       have Ih:off+i<vs.size:=by omega
       have dh:(cs.drop off)[i]?=some cs[off+i]:=by
        rw[oI,bf lT]
       have hu:vs.getD (off+i) undef=vs[off+i]:=by simp[Ih]
       rw[hu];refine a4 _ _ x (G i _ x dh L) (b9.2 (off+i) _ _ (bf lT) ?_);rw[x6 lT,Array.getElem?_toList];exact Array.getElem?_eq_getElem Ih
    ·cases h
   ·cases h
  case ef f cs =>
   obtain⟨ds,fE,rfl⟩:=h
   cases ao with
   |ef ag af=>obtain⟨F,G⟩:=lists _ _ _ fE ag af;exact .fn F G
  case agg cs =>
   obtain⟨ds,fE,rfl⟩:=h
   cases ao with
   |agg ag af=>obtain⟨F,G⟩:=lists _ _ _ fE ag af;exact .agg F G
  case dq cs =>
   obtain⟨ds,fE,rfl⟩:=h
   cases ao with
   |dq ag af=>obtain⟨F,G⟩:=lists _ _ _ fE ag af;exact .dq F G
def a0.shift {aw hj:Nat->Prop}{aA:cU}(e9:∀b,hj b->aw b)(R:∀k e,B k=some e->∃e',aA k=some e'/\(e'=e\/e.g<e'.g)){m:I}{v:Value}(h:a0 w aw B m v):a0 w hj aA m v:=by
 induction h with
 |J h=>exact .J (h.less e9)
 |nil=>exact .nil
 | @ref k g sz off len e v he aN ao =>
  obtain⟨e',eL,bm⟩:=R k e he;rcases bm with rfl|bm
  ·exact .ref eL aN ao
  ·exact .ref eL (by omega) (ao.later (by omega))
 | @ptr k g off e v he aN ao =>
  obtain⟨e',eL,bm⟩:=R k e he;rcases bm with rfl|bm
  ·exact .ptr eL aN ao
  ·exact .ptr eL (by omega) (ao.later (by omega))
 |ef ag af a4=>exact .ef ag a4
 |agg ag af a4=>exact .agg ag a4
 |dq ag af a4=>exact .dq ag a4
 | @hC k g e v he aN ao =>
  obtain⟨e',eL,bm⟩:=R k e he;rcases bm with rfl|bm
  ·exact .hC eL aN ao
  ·obtain⟨b,U,_⟩:=ao;exact .hC eL (by omega) ⟨b,U,λh=>by omega⟩
 |no=>exact .no
 |undef=>exact .undef
def kill_shut (bk:dQ A w B mem){k:Key}{g:Nat}{cs:List I}{e:hv}{b:Nat}(R:mem k=some (g,cs))(he:B k=some e)(U:e.dk=some b):
  dQ (λeG=>A eG\/eG=b) w (e4 B k ⟨bB mem k,none,0,false⟩) (kill mem k)/\(∀m v,a0 w (bp A B) B m v->a0 w (bp (λeG=>A eG\/eG=b) (e4 B k ⟨bB mem k,none,0,false⟩)) (e4 B k ⟨bB mem k,none,0,false⟩) m v):=by
 have aN:=zH bk k e he
 have e9:∀eG,bp (λeG=>A eG\/eG=b) (e4 B k ⟨bB mem k,none,0,false⟩) eG->bp A B eG:=λeG h=>by
  rcases h with ⟨j,az,aa,L⟩|h|rfl
  ·by_cases b3:j=k
   ·subst b3;rw[fz] at aa;cases aa;cases L
   ·rw[fm B _ b3] at aa;exact .inl ⟨j,az,aa,L⟩
  ·exact .inr h
  ·exact .inl ⟨k,e,he,U⟩
 have akJ:∀j az,B j=some az->∃e',e4 B k ⟨bB mem k,none,0,false⟩ j=some e'/\(e'=az\/az.g<e'.g):=λj az aa=>by
  by_cases b3:j=k
  ·subst b3;rw[he] at aa
   cases aa;exact⟨_,fz _ _ _,.inr aN⟩
  ·exact⟨az,by rw[fm B _ b3];exact aa,.inl rfl⟩
 have shift:∀m v,a0 w (bp A B) B m v->a0 w (bp (λeG=>A eG\/eG=b) (e4 B k ⟨bB mem k,none,0,false⟩)) (e4 B k ⟨bB mem k,none,0,false⟩) m v:=λm v h=>h.shift e9 akJ;refine⟨⟨λj aa=>?_,λj iI aQ az eG F G ad aZ=>?_,λeG bc a6=>?_,λeG bc=>?_,bk.gl,λeG o hE ⟨j,az,aa,L⟩=>?_,λj cx g8 aa=>?_⟩,shift⟩
 ·by_cases b3:j=k
  ·subst b3;simp[kill,aV] at aa
  ·rw[fm B _ b3];simp only[kill,aV,b3,if_false] at aa;exact bk.rT j aa
 ·by_cases b3:j=k
  ·subst b3;rw[fz] at F;cases F;cases ad
  ·by_cases hjk':iI=k
   ·subst hjk';rw[fz] at G;cases G;cases aZ
   ·rw[fm B _ b3] at F;rw[fm B _ hjk'] at G;exact bk.inj j iI aQ az eG F G ad aZ
 ·obtain⟨j,az,aa,L⟩:=a6
  by_cases b3:j=k
  ·subst b3;rw[fz] at aa;cases aa;cases L
  ·rw[fm B _ b3] at aa;rcases bc with bc|rfl
   ·exact bk.sep eG bc ⟨j,az,aa,L⟩
   ·exact b3 (bk.inj j k az e eG aa he L U)
 ·rcases bc with bc|rfl
  ·exact bk.lt eG bc
  ·exact bk.rU ⟨k,e,he,U⟩
 ·by_cases b3:j=k
  ·subst b3;rw[fz] at aa;cases aa;cases L
  ·rw[fm B _ b3] at aa;exact bk.v8 eG o hE ⟨j,az,aa,L⟩
 ·by_cases b3:j=k
  ·subst b3;simp only[kill,aV,if_true,bO,eM] at aa;obtain⟨rfl,rfl⟩:=aa;exact⟨_,fz _ _ _,rfl,λ_=>rfl,λeG hE=>by cases hE⟩
  ·simp only[kill,aV,b3,if_false] at aa;obtain⟨az,F,G,ad,aZ⟩:=bk.dk j cx g8 aa;refine⟨az,by rw[fm B _ b3];exact F,G,ad,λeG hE=>?_⟩
   exact (aZ eG hE).imp rfl rfl λm _ v M=>shift m v M
end Go.Mini
