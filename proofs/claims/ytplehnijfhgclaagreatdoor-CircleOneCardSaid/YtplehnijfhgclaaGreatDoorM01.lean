/- A part of the proof. -/
import Derived.Calls
import Derived.Still
import Derived.Below
import Derived.Laws.World
import Derived.Laws.Sem
import Derived.Laws.Entries
import Derived.Laws.Rows
import GoSem.ClaimData
import Derived.Laws.CopyRow
import Derived.Laws.MakeOwn
import Derived.Laws.Append
import Derived.Laws.AppendOwn
import Derived.Laws.Strings
import Derived.Laws.Strings2
import Derived.Laws.StructEq
import Derived.Laws.Slices
import Derived.Laws.Cells
import Derived.MapKept
import Derived.Attr
set_option linter.unusedSimpArgs false
set_option linter.unusedVariables false
set_option linter.defProp false
set_option maxRecDepth 100000
set_option maxHeartbeats 4000000
noncomputable section
open Bool renaming and_eq_true->dp,false_eq_true->dm,or_eq_true->sN
open List renaming all_eq_true->jP,contains_iff_mem->X9,drop_drop->xy,drop_eq_getElem_cons->gK,drop_eq_nil_of_le->mH,drop_set_of_lt->ry,drop_take->Xc,eq_nil_of_length_eq_zero->qt,ext_getElem?->ub,flatten_cons->k9,foldl_cons->Xe,getD_eq_getElem?_getD->eH,getElem?_append->C8,getElem?_append_left->Da,getElem?_append_right->AH,getElem?_cons_zero->Hb,getElem?_drop->sL,getElem?_eq_getElem->bw,getElem?_eq_none->mI,getElem?_eq_some_iff->dh,getElem?_map->bD,getElem?_range->qq,getElem?_set_ne->Ye,getElem?_set_self->Yd,getElem?_take->xh,getElem?_take_of_lt->xA,getElem?_toArray->Xp,getElem_mem->iJ,getElem_of_mem->Xj,length->D,length_append->la,length_cons->jt,length_map->au,length_set->gg,length_take->hg,mapM_cons->ma,map_congr_left->G3,map_map->rz,mem_append->hv,mem_cons->hq,mem_cons_self->kP,mem_flatMap->AR,mem_of_getElem?->dM,mem_of_mem_take->AI,mem_zipIdx_iff_getElem?->Dp,range->jf,replicate->bT,replicate_succ->pF,take_append->Xa,take_of_length_le->dx
open Nat renaming add_assoc->rk,add_comm->Ax,add_mul->oF,add_zero->ko,eq_or_lt_of_le->Ld,eq_zero_or_pos->jh,le_mul_of_pos_right->vG,le_refl->bI,le_trans->cS,lt_asymm->X8,lt_of_lt_of_le->vt,lt_or_ge->fF,min_eq_left->mM,mul_le_mul_right->mJ,one_mul->tL,sub_self->lS,succ_mul->tZ,testBit_or->X1,zero_add->kM,zero_le->ej
open Option renaming bind_eq_bind->fE,bind_eq_some_iff->dd,getD_some->Qk,isSome_iff_exists->Xr,map_eq_some_iff->cJ,map_none->XN,map_some->jQ,pure_def->fy
open Option.some renaming inj->mN,injEq->bF
open Prod.mk renaming injEq->ec
namespace Go.Mini
open Go
def KN:Nat->Option (List (List UInt8)):=λb=>if b=0 then some [[61,61],[59],[44],[61],[60],[43],[45],[42],[47],[40],[41]] else none
def bf {α:Sort _}{a:α}:a=a:=_root_.id rfl
def aq {c:Prop}{h:Decidable c}(Z:c){α:Sort _}{t e:α}:ite c t e=t:=if_pos Z
def ar {c:Prop}{h:Decidable c}(Z:¬c){α:Sort _}{t e:α}:ite c t e=e:=if_neg Z
def kG {p:Prop}[inst:Decidable p](h:p):decide p=true:=decide_eq_true h
def lP {p:Prop}[i:Decidable p](h:¬p):decide p=false:=decide_eq_false h
def dI {p:Prop}[inst:Decidable p](h:p:=by omega):decide p=true:=decide_eq_true h
def dV {p:Prop}[i:Decidable p](h:¬p:=by omega):decide p=false:=decide_eq_false h
abbrev Key:=Nat
inductive Data where
 |int (k:IntKind) (n:Int)
 |bool (b:Bool)
 |str (s:List UInt8)
 |ay (es:List (List Data))
 |ptr (cs:List Data)
 |ql
 |fn (f:FuncId) (cU:List Data)
 |q8
 |agg (cs:List Data)
 |dc (vs:List Data)
 |nh (t:TypeId) (d:Data)
 |mE
 deriving Inhabited
inductive I where
 |M (d:Data)
 |nil
 |ref (k:Key) (g sz off len:Nat)
 |ptr (k:Key) (g off:Nat)
 |dB (f:FuncId) (cU:List I)
 |agg (cs:List I)
 |dc (vs:List I)
 |g1 (k:Key) (g:Nat)
 |no
 |undef
 deriving Inhabited
inductive Den (w:World) (ax:Nat->Prop):Data->Value->Prop
 |int {k:IntKind} {n:Int}:Den w ax (.int k n) (.int k n)
 |bool {b:Bool}:Den w ax (.bool b) (.bool b)
 |str {s:List UInt8}:Den w ax (.str s) (.string ⟨s.toArray⟩)
 |j6 {a:Option Addr} {c:Nat}:Den w ax (.ay []) (.slice a 0 c)
 |ay {es:List (List Data)} {b off c sz:Nat} (val:Nat->Value) (ad:(D es)<=c) (hm:(D es)<=maxLen) (U:b<w.heap.size) (eE:¬ ax b) (dz:∀e∈es,D e=sz)
   (Z:∀i,i<D es*sz->w.cell? ⟨b,off+i,none⟩=some (val i)) (ae:∀i d,es.flatten[i]?=some d->Den w ax d (val i)) :
   Den w ax (.ay es) (.slice (some ⟨b,off,none⟩) (D es) c)
 |ptr {cs:List Data} {b off:Nat} (val:Nat->Value) (U:b<w.heap.size) (eE:¬ ax b)
   (Z:∀i,i<(D cs)->w.cell? ⟨b,off+i,none⟩=some (val i)) (ae:∀i d,cs[i]?=some d->Den w ax d (val i)) :
   Den w ax (.ptr cs) (.pointer (some ⟨b,off,none⟩))
 |ql:Den w ax .ql (.pointer none)
 |fn {f:FuncId} {cU:List Data} {vs:List Value} (ad:(D vs)=D cU) (ae:∀(i:Nat) (d:Data) (v:Value),cU[i]?=some d->vs[i]?=some v->Den w ax d v) :
   Den w ax (.fn f cU) (.func (.func f) #[] vs.toArray)
 |q8:Den w ax .q8 .nilFunc
 |agg {cs:List Data} {vs:List Value} (ad:(D vs)=D cs) (ae:∀(i:Nat) (d:Data) (v:Value),cs[i]?=some d->vs[i]?=some v->Den w ax d v) :
   Den w ax (.agg cs) (.agg vs.toArray)
 |dc {cs:List Data} {vs:List Value} (ad:(D vs)=D cs) (ae:∀(i:Nat) (d:Data) (v:Value),cs[i]?=some d->vs[i]?=some v->Den w ax d v) :
   Den w ax (.dc cs) (.tuple vs.toArray)
 |nh {t:TypeId} {d:Data} {v:Value} (h:Den w ax d v):Den w ax (.nh t d) (.iface t v)
 |mE:Den w ax .mE .nilIface
def KO {es:List (List Data)}{sz:Nat}(h:∀e∈es,D e=sz):(D es.flatten)=D es*sz:=by
 induction es with
 |nil=>simp
 |cons e r aD =>
  have E:=h e (by simp);have G:=aD (λx J=>h x (by simp[J]));rw[k9,la,E,G,jt,oF,tL,Ax]
def Den.ju {w aj:World}{ax gI:Nat->Prop}(R:w.heap.size<=aj.heap.size)(h:∀b,b<w.heap.size->¬ ax b->aj.heap[b]?=w.heap[b]?/\¬ gI b){d:Data}{v:Value}(ae:Den w ax d v):Den aj gI d v:=by
 induction ae with
 |int=>exact .int
 |bool=>exact .bool
 |str=>exact .str
 |j6=>exact .j6
 | @ay es b off c sz val ad hm U eE dz Z ae aD =>
  obtain⟨E,G⟩:=h b U eE;exact .ay val ad hm (by omega) G dz (λi L=>(World.cell?_of_block (a:=⟨b,off+i,none⟩) E).trans (Z i L)) aD
 |ql=>exact .ql
 |q8=>exact .q8
 | @ptr cs b off val U eE Z ae aD =>
  obtain⟨E,G⟩:=h b U eE;exact .ptr val (by omega) G (λi L=>(World.cell?_of_block (a:=⟨b,off+i,none⟩) E).trans (Z i L)) aD
 |fn ad ae aD=>exact .fn ad aD
 |agg ad ae aD=>exact .agg ad aD
 |dc ad ae aD=>exact .dc ad aD
 |nh h aD=>exact .nh aD
 |mE=>exact .mE
structure gU where
 g:Nat
 cW:Option Nat
 size:Nat
 mp:Bool
abbrev cB:=Key->Option gU
def ni (B:cB)(b:Nat):Prop:=∃k e,B k=some e/\e.cW=some b
def CQ (e:gU)(g sz off len:Nat)(v:Value):Prop :=
 ∃a cap,v=.slice a len cap/\len<=cap/\cap<=maxLen/\(cap=0\/∃b,a=some ⟨b,off,none⟩/\(g=e.g->e.cW=some b/\off+cap*sz<=e.size/\e.mp=false))
def KP (e:gU)(g off:Nat)(v:Value):Prop:=∃b,v=.pointer (some ⟨b,off,none⟩)/\(g=e.g->e.cW=some b/\e.mp=false)
def ahN (e:gU)(g:Nat)(v:Value):Prop:=∃b,v=.map (some b)/\(g=e.g->e.cW=some b/\e.mp=true)
def CQ.later {e e':gU}{g sz off len:Nat}{v:Value}(h:CQ e g sz off len v)(ad:g<e'.g):CQ e' g sz off len v:=by
 obtain⟨a,cap,E,G,ab,aM⟩:=h;refine⟨a,cap,E,G,ab,aM.imp id ?_⟩;rintro⟨b,bl,_⟩;exact⟨b,bl,λh=>by omega⟩
def KP.later {e e':gU}{g off:Nat}{v:Value}(h:KP e g off v)(ad:g<e'.g):KP e' g off v:=by
 obtain⟨b,E,_⟩:=h;exact⟨b,E,λh=>by omega⟩
inductive aN (w:World) (ax:Nat->Prop) (B:cB):I->Value->Prop
 |M {d:Data} {v:Value} (h:Den w ax d v):aN w ax B (.M d) v
 |nil {a:Option Addr}:aN w ax B .nil (.slice a 0 0)
 |ref {k:Key} {g sz off len:Nat} {e:gU} {v:Value} (he:B k=some e) (aC:g<=e.g) (ai:CQ e g sz off len v):aN w ax B (.ref k g sz off len) v
 |ptr {k:Key} {g off:Nat} {e:gU} {v:Value} (he:B k=some e) (aC:g<=e.g) (ai:KP e g off v):aN w ax B (.ptr k g off) v
 |dB {f:FuncId} {cU:List I} {vs:List Value} (ad:(D vs)=D cU) (ae:∀(i:Nat) (d:I) (v:Value),cU[i]?=some d->vs[i]?=some v->aN w ax B d v) :
   aN w ax B (.dB f cU) (.func (.func f) #[] vs.toArray)
 |agg {cs:List I} {vs:List Value} (ad:(D vs)=D cs) (ae:∀(i:Nat) (d:I) (v:Value),cs[i]?=some d->vs[i]?=some v->aN w ax B d v) :
   aN w ax B (.agg cs) (.agg vs.toArray)
 |dc {cs:List I} {vs:List Value} (ad:(D vs)=D cs) (ae:∀(i:Nat) (d:I) (v:Value),cs[i]?=some d->vs[i]?=some v->aN w ax B d v) :
   aN w ax B (.dc cs) (.tuple vs.toArray)
 |g1 {k:Key} {g:Nat} {e:gU} {v:Value} (he:B k=some e) (aC:g<=e.g) (ai:ahN e g v):aN w ax B (.g1 k g) v
 |no:aN w ax B .no undef
 |undef {v:Value}:aN w ax B .undef v
def bb (A:Nat->Prop)(B:cB)(b:Nat):Prop:=ni B b\/A b
structure Trans (A:Nat->Prop) (w:World) (B:cB) (aj:World) (aB:cB):Prop where
 size:w.heap.size<=aj.heap.size
 CR:∀b,b<w.heap.size->¬ bb A B b->aj.heap[b]?=w.heap[b]?/\¬ ni aB b
 key:∀k e,B k=some e->∃e',aB k=some e'/\(e'=e\/e.g<e'.g)
def Trans.refl (A:Nat->Prop)(w:World)(B:cB):Trans A w B w B :=
 ⟨bI _,λ_ _ h=>⟨rfl,λa0=>h (.inl a0)⟩,λ_ e he=>⟨e,he,.inl rfl⟩⟩
def Trans.trans {A:Nat->Prop}{w w1 fw:World}{B hG Ay:cB}(h:Trans A w B w1 hG)(bS:Trans A w1 hG fw Ay):Trans A w B fw Ay:=by
 refine⟨cS h.size bS.size,λb U a0=>?_,λk e he=>?_⟩
 ·obtain⟨E,G⟩:=h.CR b U a0;obtain⟨ab,aM⟩:=bS.CR b (vt U h.size) (λJ=>J.elim G λa2=>a0 (.inr a2));exact⟨ab.trans E,aM⟩
 ·obtain⟨aK,Ga,a1⟩:=h.key k e he;obtain⟨az,eb,nj⟩:=bS.key k aK Ga;refine⟨az,eb,?_⟩;rcases a1 with rfl|a1<;>rcases nj with rfl|nj
  ·exact .inl rfl
  ·exact .inr nj
  ·exact .inr a1
  ·exact .inr (Nat.lt_trans a1 nj)
def Den.trans {A:Nat->Prop}{w aj:World}{B aB:cB}(t:Trans A w B aj aB){d:Data}{v:Value}(h:Den w (bb A B) d v):Den aj (bb A aB) d v :=
 h.ju t.size λb U a0=>⟨(t.CR b U a0).1,λJ=>J.elim (t.CR b U a0).2 λa2=>a0 (.inr a2)⟩
def aN.ju {A:Nat->Prop}{w aj:World}{B aB:cB}(t:Trans A w B aj aB){m:I}{v:Value}(h:aN w (bb A B) B m v):aN aj (bb A aB) aB m v:=by
 induction h with
 |M h=>exact .M (h.trans t)
 |nil=>exact .nil
 | @ref k g sz off len e v he aC ai =>
  obtain⟨e',dW,a1⟩:=t.key k e he;rcases a1 with rfl|a1
  ·exact .ref dW aC ai
  ·exact .ref dW (by omega) (ai.later (by omega))
 | @ptr k g off e v he aC ai =>
  obtain⟨e',dW,a1⟩:=t.key k e he;rcases a1 with rfl|a1
  ·exact .ptr dW aC ai
  ·exact .ptr dW (by omega) (ai.later (by omega))
 |dB ad ae aD=>exact .dB ad aD
 |agg ad ae aD=>exact .agg ad aD
 |dc ad ae aD=>exact .dc ad aD
 | @g1 k g e v he aC ai =>
  obtain⟨e',dW,a1⟩:=t.key k e he;rcases a1 with rfl|a1
  ·exact .g1 dW aC ai
  ·obtain⟨b,U,_⟩:=ai;exact .g1 dW (by omega) ⟨b,U,λh=>by omega⟩
 |no=>exact .no
 |undef=>exact .undef
abbrev Mem:=Key->Option (Nat×List I)
def emp:Mem:=λ_=>none
def aR (m:Mem)(k:Key)(g:Nat)(cs:List I):Mem:=λj=>if j=k then some (g,cs) else m j
def bp (m:Mem)(k:Key):Nat:=match m k with
 |none=>0
 |some (g,_)=>g+1
inductive jv (w:World) (ax:Nat->Prop) (B:cB):List MapEntry->List I->Prop
 |nil:jv w ax B [] []
 |cons {e:MapEntry} {es:List MapEntry} {s:List UInt8} {m:I} {ms:List I} (O:e.key=.string ⟨s.toArray⟩) (ai:aN w ax B m e.val) (h:jv w ax B es ms):jv w ax B (e::es) (.M (.str s)::m::ms)
def jv.ju {A:Nat->Prop}{w aj:World}{B aB:cB}(t:Trans A w B aj aB){es:List MapEntry}{ms:List I}(h:jv w (bb A B) B es ms):jv aj (bb A aB) aB es ms:=by
 induction h with
 |nil=>exact .nil
 |cons O ai _ aD=>exact .cons O (ai.ju t) aD
def qm (w:World)(ax:Nat->Prop)(B:cB)(e:gU)(b:Nat)(cs:List I):Prop :=
 (e.mp=false/\∃vs T,w.heap[b]?=some (.cells vs T (0,0))/\vs.size=e.size/\D cs<=vs.size/\∀(i:Nat) (m:I),cs[i]?=some m->∃v,vs[i]?=some v/\aN w ax B m v) \/
 (e.mp=true/\∃hH iw,w.heap[b]?=some (.map hH iw)/\jv w ax B hH.toList cs)
def qm.lt {w:World}{ax:Nat->Prop}{B:cB}{e:gU}{b:Nat}{cs:List I}(h:qm w ax B e b cs):b<w.heap.size:=by
 rcases h with ⟨_,vs,T,h,_⟩|⟨_,hH,iw,h,_⟩<;>exact (Array.getElem?_eq_some_iff.1 h).1
def qm.ju {A:Nat->Prop}{w aj:World}{B aB:cB}(t:Trans A w B aj aB){e:gU}{b:Nat}{cs:List I}(h:qm w (bb A B) B e b cs)(R:aj.heap[b]?=w.heap[b]?):qm aj (bb A aB) aB e b cs:=by
 rcases h with ⟨ak,vs,T,E,G,ab,aM⟩|⟨E,hH,iw,G,ab⟩
 ·exact .inl ⟨ak,vs,T,R.trans E,G,ab,λi m hm=>let ⟨v,ai,Q⟩:=aM i m hm;⟨v,ai,Q.ju t⟩⟩
 ·exact .inr ⟨E,hH,iw,R.trans G,ab.ju t⟩
def qm.cells {w:World}{ax:Nat->Prop}{B:cB}{e:gU}{b:Nat}{cs:List I}(h:qm w ax B e b cs)(ak:e.mp=false):∃vs T,w.heap[b]?=some (.cells vs T (0,0))/\vs.size=e.size/\D cs<=vs.size/\∀(i:Nat) (m:I),cs[i]?=some m->∃v,vs[i]?=some v/\aN w ax B m v:=by
 rcases h with ⟨_,h⟩|⟨h,_⟩
 ·exact h
 ·rw[ak] at h;cases h
def jv.imp {w:World}{ax gI:Nat->Prop}{B aB:cB}{es:List MapEntry}{ms:List I}(h:jv w ax B es ms)(L:∀m∈ms,∀v,aN w ax B m v->aN w gI aB m v):jv w gI aB es ms:=by
 induction h with
 |nil=>exact .nil
 |cons O ai _ aD=>exact .cons O (L _ (by simp) _ ai) (aD λm hm=>L m (by simp[hm]))
def qm.imp {w:World}{ax gI:Nat->Prop}{B aB:cB}{e e':gU}{b:Nat}{cs:List I}(h:qm w ax B e b cs)(R:e'.size=e.size)(aF:e'.mp=e.mp)(L:∀m∈cs,∀v,aN w ax B m v->aN w gI aB m v):qm w gI aB e' b cs:=by
 rcases h with ⟨ak,vs,T,E,G,ab,aM⟩|⟨E,hH,iw,G,ab⟩
 ·exact .inl ⟨aF.trans ak,vs,T,E,G.trans R.symm,ab,λi m hm=>let ⟨v,ai,Q⟩:=aM i m hm;⟨v,ai,L m (dM hm) v Q⟩⟩
 ·exact .inr ⟨aF.trans E,hH,iw,G,ab.imp L⟩
def jv.has {w:World}{ax:Nat->Prop}{B:cB}{es:List MapEntry}{ms:List I}(h:jv w ax B es ms):∀m∈ms,∃v,aN w ax B m v:=by
 induction h with
 |nil=>intro m hm;cases hm
 |cons O ai _ aD =>
  intro m hm;simp only[hq] at hm;rcases hm with rfl|rfl|hm
  ·exact⟨_,.M .str⟩
  ·exact⟨_,ai⟩
  ·exact aD m hm
def qm.has {w:World}{ax:Nat->Prop}{B:cB}{e:gU}{b:Nat}{cs:List I}(h:qm w ax B e b cs):∀m∈cs,∃v,aN w ax B m v:=by
 intro m hm;rcases h with ⟨_,vs,T,_,_,_,aM⟩|⟨_,hH,iw,_,ab⟩
 ·obtain⟨i,L⟩:=List.mem_iff_getElem?.1 hm;obtain⟨v,_,Q⟩:=aM i m L;exact⟨v,Q⟩
 ·exact ab.has m hm
def yQ (l:List (List UInt8)):List Value:=l.map λs => .string ⟨s.toArray⟩
def CS (w:World):Prop:=∀b l,KN b=some l->∃T,w.heap[b]?=some (.cells (yQ l).toArray T (0,0))
structure dj (A:Nat->Prop) (w:World) (B:cB) (mem:Mem):Prop where
 q9:∀k,mem k=none->B k=none
 inj:∀k k' e e' b,B k=some e->B k'=some e'->e.cW=some b->e'.cW=some b->k=k'
 sep:∀b,A b->¬ ni B b
 lt:∀b,A b->b<w.heap.size
 gl:CS w
 vu:∀b l,KN b=some l->¬ ni B b
 cW:∀k g cs,mem k=some (g,cs)->∃e,B k=some e/\e.g=g/\(e.cW=none->cs=[]) /\
  ∀b,e.cW=some b->qm w (bb A B) B e b cs
def dj.ra {A:Nat->Prop}{w:World}{B:cB}{mem:Mem}(h:dj A w B mem){b:Nat}(U:ni B b):b<w.heap.size:=by
 obtain⟨k,e,he,U⟩:=U
 cases hm:mem k with
 |none=>rw[h.q9 k hm] at he;cases he
 |some x =>
  obtain⟨g,cs⟩:=x;obtain⟨e',dW,_,_,a1⟩:=h.cW k g cs hm;rw[dW] at he
  cases he;exact (a1 b U).lt
structure Fr (sw:Nat->Prop) (b5 w:World):Prop where
 os:w.os=b5.os
 tape:w.tape=b5.tape
 output:w.output=b5.output
 size:b5.heap.size<=w.heap.size
 block:∀g,g<b5.heap.size->¬ sw g->w.heap[g]?=b5.heap[g]?
def Fr.refl (sw:Nat->Prop)(w:World):Fr sw w w:=⟨rfl,rfl,rfl,bI _,λ_ _ _=>rfl⟩
def Fr.drew {sw:Nat->Prop}{b5 w:World}(h:Fr sw b5 w)(n:Nat):Fr sw b5 { w with drawn:=n }:=⟨h.os,h.tape,h.output,h.size,h.block⟩
def Fr.alloc {sw:Nat->Prop}{b5 w:World}(h:Fr sw b5 w)(o:Obj):Fr sw b5 (w.alloc o) :=
 ⟨h.os,h.tape,h.output,by simp;have:=h.size;omega,λg aC eE=>(RowKit.Below.heap_alloc w o g (by have:=h.size;omega)).trans (h.block g aC eE)⟩
def Fr.ahO {b5 w:World}(h:Fr (λ_=>False) b5 w)(aC:CS b5):CS w:=λb o U=>let ⟨T,cn⟩:=aC b o U;⟨T,(h.block b (Array.getElem?_eq_some_iff.1 cn).1 id).trans cn⟩
inductive bg where
 |t (s:Nat)
 |c (m:I)
 deriving Inhabited
inductive fh where
 |hI (x:bg)
 |pick (c a b:bg)
 |alloc (k:Key) (z:List I)
 |box (k:Key) (x:bg)
 |build (z:List I) (parts:List (Nat×Nat×bg))
 |ed (k:Key) (own:Bool) (z:List I) (sz len:Nat) (parts:List (Nat×Nat×bg))
 |load (n:Nat) (bC:Bool) (x:bg)
 |store (n:Nat) (x v:bg)
 |bin (op:BinOp) (x y:bg)
 |beq (neg:Bool) (x y:bg)
 |eqs (neg:Bool) (fU:List Nat) (x y:bg)
 |kH (neg:Bool) (x:bg)
 |un (op:UnOp) (x:bg)
 |conv (k:IntKind) (x:bg)
 |tM (x:bg)
 |lb (k:Key) (z:List I) (bytes:Nat) (len cap:bg)
 |sx (off:Nat) (x:bg)
 |w8 (off n:Nat) (bC:Bool) (x:bg)
 |tN (sz:Nat) (x i:bg)
 |Az (len sz:Nat) (x i:bg)
 |idxs (x i:bg)
 |qn (sz:Nat) (x:bg) (bQ L jb:Option bg)
 |sy (len sz:Nat) (x:bg) (bQ L jb:Option bg)
 |AA (x:bg) (bQ L:Option bg)
 |ext (i:Nat) (x:bg)
 |len (x:bg)
 |lens (x:bg)
 |app (k:Key) (z:List I) (bytes:Nat) (s x:bg)
 |qo (sz:Nat) (d x:bg)
 |kI (jb:Bool) (x y:bg)
 |call (f:FuncId) (args:List bg)
 |kJ (k:Key) (sz:Nat) (f:FuncId) (args:List bg)
 |jc (f:bg) (args:List bg)
 |j7 (bQ:Nat) (f:FuncId) (args:List bg)
 |pv (j:Nat) (f:FuncId) (args:List bg)
 |pw (j:Nat) (f:FuncId) (args:List bg)
 |sA (z:List I) (x:bg)
 |tO (f:FuncId) (cU:List bg)
 |CT (t:TypeId) (x:bg)
 |KQ (t:TypeId) (ok:Bool) (z:I) (x:bg)
 |AB (neg KR:Bool) (x:bg)
 |KS (len sz:Nat) (bC:Bool) (x i:bg)
 |vv (k:Key)
 |yR (ok:Bool) (z:I) (x i:bg)
 |w9 (x i v:bg)
 |bad
 deriving Inhabited
structure bh where
 dst:Option Nat
 g:Option (Nat×Bool)
 op:fh
 deriving Inhabited
inductive KT where
 |rb (s:Nat) (k:Key) (sz:Nat)
 |Gb (x:bg) (i:Nat) (k:Key) (sz:Nat)
 |freeze (s:Nat)
 |KU (x:bg) (i:Nat)
 |move
 |many
 deriving Inhabited
inductive eF where
 |skip
 |ops (l:List bh)
 |nk (l:List bh) (c:List (List Nat))
 |seq (a b:eF)
 |cond (c:bg) (a b:eF)
 |block (id:Nat) (c:eF)
 |loop (c:eF)
 |exit (id:Nat)
 |ret
 |ghost (g:KT) (c:eF)
 deriving Inhabited
inductive jI where
 |t (s:Nat)
 |cell (s n:Nat) (bC:Bool)
 deriving Inhabited
structure bN where
 n:Nat
 ahP:Nat
 res:List jI
 body:eF
 deriving Inhabited
structure a3 where
 tm:Nat->I
 mem:Mem
def er (tm:Nat->I)(s:Nat)(m:I):Nat->I:=λt=>if t=s then m else tm t
def put (tm:Nat->I):Option Nat->I->Nat->I
 |some s,m=>er tm s m
 |none,_=>tm
@[simp] def tP (tm:Nat->I)(s:Nat)(m:I)(t:Nat):er tm s m t=if t=s then m else tm t:=rfl
def aI (tm:Nat->I):bg->I
 |.t s=>tm s
 |.c m=>m
def I.cells:I->List I
 |.agg cs=>cs
 |.M (.agg ds)=>ds.map .M
 |m=>[m]
def I.known:I->Bool
 |.undef=>false
 |_=>true
def I.one:I->Bool
 |.M (.agg _)=>false
 |.M (.dc _)=>false
 |.M _=>true
 |.nil=>true
 |.ref ..=>true
 |.ptr ..=>true
 |.dB ..=>true
 |.g1 ..=>true
 |_=>false
def nR (bC:Bool)(cs:List I):Option I :=
 if bC=true then some (.agg cs) else match cs with
  | [m]=>some m
  |_=>none
def cut (cs:List I)(off n:Nat):Option (List I) :=
 if off+n<=(D cs) then some ((cs.drop off).take n) else none
def jJ (cs:List I)(off:Nat)(new:List I):List I:=cs.take off++new++cs.drop (off+D new)
def jw (aI:bg->I)(cells:List I):List (Nat×Nat×bg)->Option (List I)
 | []=>some cells
 |(off,size,x)::rest =>
  if (aI x).known=true/\(aI x).cells.length=size/\off+size<=(D cells) then jw aI (jJ cells off (aI x).cells) rest else none
def re:I->Option Data
 |.M d=>some d
 |.nil=>some (.ay [])
 |_=>none
def chunk (sz:Nat):Nat->List Data->List (List Data)
 |0,_=>[]
 |n+1,l=>l.take sz::chunk sz n (l.drop sz)
def KV (op:BinOp)(k:IntKind)(a b:Int):Option Data :=
 match op with
 |.add=>some (.int k (k.wrap (a+b)))
 |.sub=>some (.int k (k.wrap (a-b)))
 |.mul=>some (.int k (k.wrap (a*b)))
 |.quo=>if b=0 then none else some (.int k (k.wrap (a.tdiv b)))
 |.rem=>if b=0 then none else some (.int k (a.tmod b))
 |.and=>some (.int k (bits .and k a b))
 |.or=>some (.int k (bits .or k a b))
 |.xor=>some (.int k (bits .xor k a b))
 |.andNot=>some (.int k (bits .andNot k a b))
 |.eql=>some (.bool (a==b))
 |.neq=>some (.bool (a != b))
 |.lss=>some (.bool (a<b))
 |.leq=>some (.bool (a<=b))
 |.gtr=>some (.bool (a>b))
 |.geq=>some (.bool (a>=b))
 |_=>none
def KW (op:BinOp)(k:IntKind)(a b:Int):Option Data :=
 if b<0 then none else match op with
 |.shl=>some (.int k (k.wrap (a*2^(min b.toNat k.bits))))
 |.shr=>some (.int k (a.fdiv (2^(min b.toNat k.bits))))
 |_=>none
def KX (op:BinOp)(a b:List UInt8):Option Data :=
 match op with
 |.add=>if (D a)+D b<=maxLen then some (.str (a++b)) else none
 |.eql=>some (.bool (a==b))
 |.neq=>some (.bool (!(a==b)))
 |.lss=>some (.bool (Op.bytesLess a b))
 |.leq=>some (.bool (Op.bytesLess a b||a==b))
 |.gtr=>some (.bool (!(Op.bytesLess a b||a==b)))
 |.geq=>some (.bool (!Op.bytesLess a b))
 |_=>none
def CU:BinOp->Bool
 |.shl=>true
 |.shr=>true
 |_=>false
def CV (op:BinOp)(x y:I):Option I :=
 match x,y with
 |.M (.int k a),.M (.int k' b)=>if CU op=true then (KW op k a b).map .M else if k=k' then (KV op k a b).map .M else none
 |.M (.str a),.M (.str b)=>(KX op a b).map .M
 |_,_=>none
def CW (neg:Bool):I->I->Option I
 |.M (.bool a),.M (.bool b)=>some (.M (.bool (neg != (a==b))))
 |_,_=>none
def KY:Nat->I->I->Option Bool
 |0,.M (.bool a),.M (.bool b)=>some (a==b)
 |1,.M (.int k a),.M (.int k' b)=>if k=k' then some (a==b) else none
 |2,.M (.str a),.M (.str b)=>some (a==b)
 |_,_,_=>none
def yS:List Nat->List I->List I->Option Bool
 | [],[],[]=>some true
 |k::fU,a::x,b::y=>match KY k a b,yS fU x y with
  |some c,some d=>some (c&&d)
  |_,_=>none
 |_,_,_=>none
def Gc (op:UnOp)(x:I):Option I :=
 match op,x with
 |.neg,.M (.int k n)=>some (.M (.int k (k.wrap (0-n))))
 |.xor,.M (.int k n)=>some (.M (.int k (bits .xor k (if k.signed then -1 else k.max) n)))
 |.not,.M (.bool b)=>some (.M (.bool !b))
 |_,_=>none
def idx:I->Option Nat
 |.M (.int _ n)=>if 0<=n then some n.toNat else none
 |_=>none
def iI (d:Nat):Option I->Option Nat
 |none=>some d
 |some x=>idx x
def sB:I->Option Nat
 |.M (.ay es)=>some (D es)
 |.nil=>some 0
 |.ref _ _ _ _ n=>some n
 |_=>none
def ic (mem:Mem)(n:Nat)(bC:Bool):I->Option I
 |.ptr k g off=>match mem k with
  |some (cd,cs)=>if cd=g then (cut cs off n).bind (nR bC) else none
  |none=>none
 |.M (.ptr ds)=>(cut (ds.map .M) 0 n).bind (nR bC)
 |_=>none
def xa:I->Option Nat
 |.M (.str s)=>some (D s)
 |_=>none
def CX:I->I->I->Option I
 |.M (.bool t),a,b=>some (if t=true then a else b)
 |_,_,_=>none
def Gd (z:List I)(sz len:Nat)(x:Option (List I)):Option I :=
 if (D z)=len*sz then (match x with
  |some cs=>(cs.mapM re).map λds => .M (.ay (chunk sz len ds))
  |none=>none) else none
def AD:I->Option (List I)
 |.agg cs=>some cs
 |.M (.agg ds)=>some (ds.map .M)
 |_=>none
def Ge (neg:Bool)(fU:List Nat)(a b:I):Option I:=match AD a,AD b with
 |some x,some y=>(match yS fU x y with
  |some c=>some (.M (.bool (neg != c)))
  |none=>none)
 |_,_=>none
def Gf (k:IntKind):I->Option I
 |.M (.int _ n)=>some (.M (.int k (k.wrap n)))
 |_=>none
def Gg:I->Option I
 |.ptr k g off=>some (.ptr k g off)
 |.M (.ptr ds)=>some (.M (.ptr ds))
 |_=>none
def CY (off:Nat):I->Option I
 |.ptr k g o=>some (.ptr k g (o+off))
 |.M (.ptr ds)=>if off<=(D ds) then some (.M (.ptr (ds.drop off))) else none
 |_=>none
def CZ (off n:Nat)(bC:Bool):I->Option I
 |.agg cs=>(cut cs off n).bind (nR bC)
 |.M (.agg ds)=>(cut (ds.map .M) off n).bind (nR bC)
 |_=>none
def Gh (sz n:Nat):I->Option I
 |.ref k g dC off len=>if n<len/\dC=sz then some (.ptr k g (off+n*sz)) else none
 |.M (.ay es)=>match es[n]? with
  |some e=>if (D e)=sz then some (.M (.ptr e)) else none
  |none=>none
 |_=>none
def Gi (len sz n:Nat):I->Option I
 |.ptr k g off=>if n<len then some (.ptr k g (off+n*sz)) else none
 |.M (.ptr ds)=>if n<len/\n*sz<=(D ds) then some (.M (.ptr (ds.drop (n*sz)))) else none
 |_=>none
def Gj (n:Nat):I->Option I
 |.M (.str s)=>(s[n]?).map λb => .M (.int .u8 b.toNat)
 |_=>none
def l9 (sz:Nat)(es:List (List Data)):Bool:=es.all λe=>D e==sz
def Gk (sz l h:Nat):I->Option I
 |.M (.ay es)=>if l<=h/\h<=D es/\l9 sz es=true then some (.M (.ay ((es.take h).drop l))) else none
 |.nil=>if l=0/\h=0 then some .nil else none
 |.ref k g dC off len=>if dC=sz/\l<=h/\h<=len then some (.ref k g sz (off+l*sz) (h-l)) else none
 |_=>none
def Gl (sz l h m:Nat):I->Option I
 |.M (.ay es)=>if l<=h/\h<=m/\m<=D es/\l9 sz es=true then (if m=l then some .nil else some (.M (.ay ((es.take h).drop l)))) else none
 |.nil=>if l=0/\h=0/\m=0 then some .nil else none
 |.ref _ _ _ _ len=>if l<=h/\h<=m/\m<=len/\m=l then some .nil else none
 |_=>none
def Gm (l h:Nat):I->Option I
 |.M (.str s)=>if l<=h/\h<=(D s) then some (.M (.str ((s.take h).drop l))) else none
 |_=>none
def Gn (i:Nat):I->Option I
 |.dc vs=>vs[i]?
 |.M (.dc ds)=>(ds[i]?).map .M
 |_=>none
def Gp (jb:Bool):I->I->Option I
 |.M (.int k a),.M (.int k' b)=>if k=k' then some (.M (.int k (if jb=true then (if b>a then b else a) else (if b<a then b else a)))) else none
 |_,_=>none
def PJ:I->Option Data
 |.M d=>some d
 |.nil=>some (.ay [])
 |.agg cs=>(cs.mapM re).map .agg
 |_=>none
def AE (ok b:Bool)(m:I):I:=if ok=true then .dc [m,.M (.bool b)] else m
def PK (t:TypeId)(m:I):Option I:=(PJ m).map λd => .M (.nh t d)
def PL (t:TypeId)(ok:Bool)(z:I):I->Option I
 |.M (.nh kl d)=>if kl=t then some (AE ok true (.M d)) else if ok=true then some (AE true false z) else none
 |.M .mE=>if ok=true then some (AE true false z) else none
 |_=>none
def isNil:Bool->I->Option Bool
 |false,.M .ql=>some true
 |false,.M (.ptr _)=>some false
 |false,.ptr ..=>some false
 |true,.M .mE=>some true
 |true,.M (.nh ..)=>some false
 |_,_=>none
def Gq (neg KR:Bool)(m:I):Option I:=(isNil KR m).map λb => .M (.bool (neg != b))
def PM (len sz:Nat)(bC:Bool)(n:Nat)(m:I):Option I:=if n<len then (AD m).bind λcs=>if len*sz<=(D cs) then (cut cs (n*sz) sz).bind (nR bC) else none else none
def KZ (s:List UInt8):List I->Option (Option I)
 | []=>some none
 |.M (.str k)::v::r=>if s=k then some (some v) else KZ s r
 |_=>none
def K0 (s:List UInt8)(x:I):List I->Option (List I)
 | []=>some [.M (.str s),x]
 |.M (.str k)::v::r=>if s=k then some (.M (.str k)::x::r) else (K0 s x r).map λr => .M (.str k)::v::r
 |_=>none
def g2 (x:Option Nat)(f:Nat->Option I):Option I:=match x with
 |some n=>f n
 |none=>none
def ix (tm:Nat->I):fh->Option I
 |.hI x=>some (aI tm x)
 |.pick c a b=>CX (aI tm c) (aI tm a) (aI tm b)
 |.build z parts=>(jw (aI tm) z parts).map .agg
 |.ed _ false z sz len parts=>Gd z sz len (jw (aI tm) z parts)
 |.bin op x y=>CV op (aI tm x) (aI tm y)
 |.beq neg x y=>CW neg (aI tm x) (aI tm y)
 |.eqs neg fU x y=>Ge neg fU (aI tm x) (aI tm y)
 |.un op x=>Gc op (aI tm x)
 |.conv k x=>Gf k (aI tm x)
 |.tM x=>Gg (aI tm x)
 |.sx off x=>CY off (aI tm x)
 |.w8 off n bC x=>CZ off n bC (aI tm x)
 |.tN sz x i=>g2 (idx (aI tm i)) λn=>Gh sz n (aI tm x)
 |.Az len sz x i=>g2 (idx (aI tm i)) λn=>Gi len sz n (aI tm x)
 |.idxs x i=>g2 (idx (aI tm i)) λn=>Gj n (aI tm x)
 |.qn sz x bQ L none=>g2 (iI 0 (bQ.map (aI tm))) λl=>g2 (sB (aI tm x)) λlen=>g2 (iI len (L.map (aI tm))) λh=>Gk sz l h (aI tm x)
 |.qn sz x bQ (some L) (some jb)=>g2 (iI 0 (bQ.map (aI tm))) λl=>g2 (idx (aI tm L)) λh=>g2 (idx (aI tm jb)) λm=>Gl sz l h m (aI tm x)
 |.AA x bQ L=>g2 (iI 0 (bQ.map (aI tm))) λl=>g2 (xa (aI tm x)) λlen=>g2 (iI len (L.map (aI tm))) λh=>Gm l h (aI tm x)
 |.ext i x=>Gn i (aI tm x)
 |.len x=>g2 (sB (aI tm x)) λn=>some (.M (.int .i64 n))
 |.lens x=>g2 (xa (aI tm x)) λn=>some (.M (.int .i64 n))
 |.kI jb x y=>Gp jb (aI tm x) (aI tm y)
 |.tO f cU=>some (.dB f (cU.map (aI tm)))
 |.CT t x=>PK t (aI tm x)
 |.KQ t ok z x=>PL t ok z (aI tm x)
 |.AB neg KR x=>Gq neg KR (aI tm x)
 |.KS len sz bC x i=>g2 (idx (aI tm i)) λn=>PM len sz bC n (aI tm x)
 |_=>none
def PN (k:Key)(g off len sz l h:Nat):Option (Nat×List I)->Option I
 |some (cd,cs)=>if cd=g/\l<=h/\h<=len/\off+len*sz<=(D cs) then some (.ref k g sz (off+l*sz) (h-l)) else none
 |none=>none
def yT (mem:Mem)(len sz l h:Nat):I->Option I
 |.ptr k g off=>PN k g off len sz l h (mem k)
 |_=>none
def oG (mem:Mem)(sz:Nat):I->Option (Nat×List I)
 |.M (.ay es)=>if l9 sz es=true then some (D es,es.flatten.map I.M) else none
 |.nil=>some (0,[])
 |.ref k g dC off len=>if dC=sz then (match mem k with
  |some (cd,cs)=>if cd=g then (cut cs off (len*sz)).map λcs=>(len,cs) else none
  |none=>none) else none
 |_=>none
abbrev Out:=Option (I×Option (Key×Nat×List I))
def hJ (x:Option I):Out:=match x with
 |some m=>some (m,none)
 |none=>none
def C0 (k:Key)(g:Nat)(z:List I)(sz len:Nat)(x:Option (List I)):Out :=
 if (D z)=len*sz then (match x with
  |some cs=>some (.ref k g sz 0 len,some (k,g,cs))
  |none=>none) else none
def C1 (k:Key)(g:Nat)(z:List I)(bytes:Nat)(n c:Nat):Out :=
 if n=c/\bytes*n<=140737488355328/\n<=maxLen then some (.ref k g (D z) 0 n,some (k,g,(bT n z).flatten)) else none
def Gr (x y:Option Nat)(f:Nat->Nat->Out):Out:=match x,y with
 |some n,some m=>f n m
 |_,_=>none
def Gs (n:Nat)(k:Key)(g off:Nat)(v:List I)(x:Option (Nat×List I)):Out:=match x with
 |some (cd,cs)=>if cd=g/\D v=n/\off+n<=D cs/\v.all I.one=true then some (.no,some (k,g,jJ cs off v)) else none
 |none=>none
def vw (mem:Mem)(n:Nat):I->List I->Out
 |.ptr k g off,v=>Gs n k g off v (mem k)
 |_,_=>none
def mF (k:Key)(g:Nat)(sz len bytes:Nat)(m:Nat)(new:List I)(x:Option (Nat×List I)):Out:=match x with
 |some (cd,cs)=>if cd=g/\len*sz<=D cs/\(len+m)*bytes<=140737488355328/\len+m<=maxLen/\new.all I.one=true
   then some (.ref k (g+1) sz 0 (len+m),some (k,g+1,cs.take (len*sz)++new)) else none
 |none=>none
def px (mem:Mem)(k:Key)(z:List I)(bytes:Nat):I->Option (Nat×List I)->Out
 |.nil,some (m,new)=>if m*bytes<=140737488355328/\m<=maxLen/\new.all I.one=true then some (.ref k (bp mem k) (D z) 0 m,some (k,bp mem k,new)) else none
 |.ref k' g dC off len,some (m,new)=>if dC=D z/\off=0 then mF k' g dC len bytes m new (mem k') else none
 |_,_=>none
def yU (k:Key)(g sz off len:Nat)(m:Nat)(new:List I)(x:Option (Nat×List I)):Out:=match x with
 |some (cd,cs)=>if cd=g/\off+len*sz<=D cs/\new.all I.one=true then some (.M (.int .i64 ((min m len:Nat):Int)),some (k,g,jJ cs off (new.take (min m len*sz)))) else none
 |none=>none
def tQ (mem:Mem)(sz:Nat):I->Option (Nat×List I)->Out
 |.ref k g dC off len,some (m,new)=>if dC=sz then yU k g sz off len m new (mem k) else none
 |_,_=>none
def K1 (z:List I)(k:Key)(g off len:Nat)(x:Option (Nat×List I)):Out:=match x with
 |some (cd,cs)=>if cd=g/\off+len*D z<=D cs/\z.all I.one=true then some (.dc [],some (k,g,jJ cs off (bT len z).flatten)) else none
 |none=>none
def vx (mem:Mem)(z:List I):I->Out
 |.ref k g sz off len=>if sz=(D z) then K1 z k g off len (mem k) else none
 |_=>none
def yV (mem:Mem):I->Option (Key×Nat×List I)
 |.g1 k g=>match mem k with
  |some (cd,cs)=>if cd=g then some (k,g,cs) else none
  |none=>none
 |_=>none
def K2:I->Option (List UInt8)
 |.M (.str s)=>some s
 |_=>none
def K3 (mem:Mem)(ok:Bool)(z:I)(x i:I):Option I:=match yV mem x,K2 i with
 |some (_,_,cs),some s=>match KZ s cs with
  |some (some v)=>some (AE ok true v)
  |some none=>some (AE ok false z)
  |none=>none
 |_,_=>none
def I.whole:I->Bool
 |.undef=>false
 |.no=>false
 |.dc _=>false
 |_=>true
def Gu (mem:Mem)(x i v:I):Out:=match yV mem x,K2 i with
 |some (k,g,cs),some s=>if v.whole=true then (match K0 s v cs with
  |some gx=>some (.no,some (k,g,gx))
  |none=>none) else none
 |_,_=>none
def br (mem:Mem)(tm:Nat->I):fh->Out
 |.alloc k z=>some (.ptr k (bp mem k) 0,some (k,bp mem k,z))
 |.box k x=>if (aI tm x).known=true then some (.ptr k (bp mem k) 0,some (k,bp mem k,(aI tm x).cells)) else none
 |.ed k true z sz len parts=>C0 k (bp mem k) z sz len (jw (aI tm) z parts)
 |.lb k z bytes len cap=>Gr (idx (aI tm len)) (idx (aI tm cap)) (C1 k (bp mem k) z bytes)
 |.load n bC x=>hJ (ic mem n bC (aI tm x))
 |.sy len sz x bQ L none=>hJ (g2 (iI 0 (bQ.map (aI tm))) λl=>g2 (iI len (L.map (aI tm))) λh=>yT mem len sz l h (aI tm x))
 |.store n x v=>vw mem n (aI tm x) (aI tm v).cells
 |.app k z bytes s x=>px mem k z bytes (aI tm s) (oG mem (D z) (aI tm x))
 |.qo sz d x=>tQ mem sz (aI tm d) (oG mem sz (aI tm x))
 |.sA z x=>vx mem z (aI tm x)
 |.vv k=>some (.g1 k (bp mem k),some (k,bp mem k,[]))
 |.yR ok z x i=>hJ (K3 mem ok z (aI tm x) (aI tm i))
 |.w9 x i v=>Gu mem (aI tm x) (aI tm i) (aI tm v)
 |op=>hJ (ix tm op)
inductive fV where
 |same (r:Data)
 |own (sz:Nat) (es:List (List Data))
 |rel (bR:I->Mem->Prop)
 |er (r:Data) (k:Key) (g i:Nat) (c:I)
 |xb (r:Data) (k:Key)
abbrev bj:=FuncId->List I->Mem->Option fV
def fB (mem:Mem):Option (Key×Nat×List I)->Mem
 |none=>mem
 |some (k,g,cs)=>aR mem k g cs
def py (mem:Mem)(k:Key):List I:=match mem k with
 |some (_,cs)=>cs
 |none=>[]
def sC (T:bj)(K:a3->Prop)(st:a3)(dst:Option Nat)(f:FuncId)(args:List I):Prop :=
 match T f args st.mem with
 |some (.same r)=>K ⟨put st.tm dst (.M r),st.mem⟩
 |some (.own _ es)=>K ⟨put st.tm dst (.M (.ay es)),st.mem⟩
 |some (.rel bR)=>∀r mem',bR r mem'->K ⟨put st.tm dst r,mem'⟩
 |some (.er r k g i c)=>K ⟨put st.tm dst (.M r),aR st.mem k g ((py st.mem k).set i c)⟩
 |some (.xb r k)=>K ⟨put st.tm dst (.M r),aR st.mem k (bp st.mem k) []⟩
 |none=>False
def xc:I->Option Bool
 |.M (.ay es)=>some (!es.isEmpty)
 |.nil=>some false
 |.ref _ _ _ _ len=>some (decide (0<len))
 |_=>none
def fC (T:bj)(K:a3->Prop)(i:bh)(st:a3):Prop :=
 match i.op with
 |.call f args=>sC T K st i.dst f (args.map (aI st.tm))
 |.kJ k sz f args=>match T f (args.map (aI st.tm)) st.mem with
  |some (.own dC es)=>if dC=sz then K ⟨put st.tm i.dst (.ref k (bp st.mem k) sz 0 (D es)),aR st.mem k (bp st.mem k) (es.flatten.map .M)⟩ else False
  |_=>False
 |.jc f args=>match aI st.tm f with
  |.dB g cU=>sC T K st i.dst g (args.map (aI st.tm)++cU)
  |.M (.fn g ds)=>sC T K st i.dst g (args.map (aI st.tm)++ds.map .M)
  |_=>False
 |.kH neg x=>match xc (aI st.tm x) with
  |some full=>∀b:Bool,(full=true->b=false)->K ⟨put st.tm i.dst (.M (.bool (neg != b))),st.mem⟩
  |none=>False
 |op=>match br st.mem st.tm op with
  |some (m,e)=>K ⟨put st.tm i.dst m,fB st.mem e⟩
  |none=>False
def gy (tm:Nat->I):Option (Nat×Bool)->Option Bool
 |none=>some true
 |some (s,b)=>match tm s with
  |.M (.bool t)=>some (t==b)
  |.no=>some false
  |_=>none
def vy (T:bj)(K:a3->Prop):List bh->a3->Prop
 | [],st=>K st
 |i::r,st=>match gy st.tm i.g with
  |none=>False
  |some g=>if g=true then fC T (vy T K r) i st else vy T K r ⟨put st.tm i.dst .no,st.mem⟩
def keyOf:I->List Key
 |.ref k ..=>[k]
 |.ptr k ..=>[k]
 |_=>[]
def Gv:I->List Key
 |.g1 k _=>[k]
 |_=>[]
inductive km where
 |fo (k:Key)
 |rd (k:Key) (a b:Nat)
 |wr (k:Key) (i:Nat)
def km.key:km->Key
 |.fo k=>k
 |.rd k _ _=>k
 |.wr k _=>k
def pz:km->km->Bool
 |.fo k,.fo k' => !(k==k')
 |.fo k,.rd k' _ _ => !(k==k')
 |.rd k _ _,.fo k' => !(k==k')
 |.rd _ _ _,.rd _ _ _=>true
 |.rd k a b,.wr k' i => !(k==k')||(decide (i<a)||decide (b<=i))
 |.wr k' i,.rd k a b => !(k==k')||(decide (i<a)||decide (b<=i))
 |.wr _ _,.wr _ _=>false
 |.fo _,.wr _ _=>false
 |.wr _ _,.fo _=>false
def yW (n:Nat):I->List km
 |.ref k ..=>[.fo k]
 |.ptr k _ off=>[.rd k off (off+n)]
 |_=>[]
def Gw (bQ:Nat):List I->List km
 |.ptr k _ off::_=>[.wr k (off+bQ)]
 |_=>[]
def tR:Option I->List km
 |some (.ref k ..)=>[.fo k]
 |_=>[]
def cf (tm:Nat->I):fh->List km
 |.load n _ x=>yW n (aI tm x)
 |.sy _ _ x _ _ _=>(keyOf (aI tm x)).map .fo
 |.store _ x _=>(keyOf (aI tm x)).map .fo
 |.alloc k _=>[.fo k]
 |.box k _=>[.fo k]
 |.ed k true _ _ _ _=>[.fo k]
 |.lb k _ _ _ _=>[.fo k]
 |.kJ k _ _ _=>[.fo k]
 |.app k _ _ s x => .fo k::((keyOf (aI tm s)).map .fo++(keyOf (aI tm x)).map .fo)
 |.qo _ d x=>(keyOf (aI tm d)).map .fo++(keyOf (aI tm x)).map .fo
 |.j7 bQ _ args=>Gw bQ (args.map (aI tm))
 |.pv j _ args=>tR (args.map (aI tm))[j]?
 |.pw j _ args=>tR (args.map (aI tm))[j]?
 |.sA _ x=>(keyOf (aI tm x)).map .fo
 |.vv k=>[.fo k]
 |.yR _ _ x _=>(Gv (aI tm x)).map .fo
 |.w9 x _ _=>(Gv (aI tm x)).map .fo
 |_=>[]
def fD:fh->Bool
 |.store ..=>true
 |.alloc ..=>true
 |.box ..=>true
 |.ed _ true _ _ _ _=>true
 |.lb ..=>true
 |.kJ ..=>true
 |.app ..=>true
 |.qo ..=>true
 |.j7 ..=>true
 |.pv ..=>true
 |.pw ..=>true
 |.sA ..=>true
 |.vv ..=>true
 |.w9 ..=>true
 |_=>false
def shut:I->I
 |.M d => .M d
 |.nil => .nil
 |.dB f [] => .dB f []
 |.agg cs=>match cs.mapM re with
  |some ds => .M (.agg ds)
  |none => .undef
 |_ => .undef
def C2 (bQ:Nat)(mem:Mem):List I->Option fV->Option (I×Option (Key×Nat×List I))
 |.ptr k _ off::_,some (.er r k' cd i c)=>match mem k with
  |some (g,cs)=>if k'=k/\cd=g/\i=off+bQ then some (.M r,some (k,g,cs.set i c)) else none
  |none=>none
 |_,_=>none
def PO (cs:List I):Option (List Data):=cs.mapM re
def Gx (sz off len:Nat)(cs:List I):Option Data:=match cut cs off (len*sz) with
 |some part=>(PO part).map λds => .ay (chunk sz len ds)
 |none=>none
def K4:Option fV->Option Data
 |some (.same r)=>some r
 |some (.own _ es)=>some (.ay es)
 |_=>none
def PQ (T:bj)(j:Nat)(f:FuncId)(ms:List I)(k:Key)(g sz off len:Nat):Option (Nat×List I)->Option (I×Option (Key×Nat×List I))
 |some (cd,cs)=>if cd=g then (match Gx sz off len cs with
  |some d=>(match K4 (T f (ms.set j (.M d)) emp) with
   |some r=>some (.M r,some (k,cd+1,[]))
   |none=>none)
  |none=>none) else none
 |none=>none
def Gy (T:bj)(mem:Mem)(j:Nat)(f:FuncId)(ms:List I):Option I->Option (I×Option (Key×Nat×List I))
 |some (.ref k g sz off len)=>PQ T j f ms k g sz off len (mem k)
 |_=>none
def rf (cs:List I):Bool:=cs.all λm=>(re m).isSome
def PR (T:bj)(j:Nat)(f:FuncId)(ms:List I)(k:Key)(g sz off len:Nat):Option (Nat×List I)->Option (I×Option (Key×Nat×List I))
 |some (cd,cs)=>if rf cs=true then (match T f (ms.set j (.ref k g sz off len)) (aR emp k cd cs) with
  |some (.xb r k')=>if k'=k then some (.M r,some (k,cd+1,[])) else none
  |_=>none) else none
 |none=>none
def Gz (T:bj)(mem:Mem)(j:Nat)(f:FuncId)(ms:List I):Option I->Option (I×Option (Key×Nat×List I))
 |some (.ref k g sz off len)=>PR T j f ms k g sz off len (mem k)
 |_=>none
def ei (T:bj)(mem:Mem)(tm:Nat->I):fh->Option (I×Option (Key×Nat×List I))
 |.call f args=>match T f (args.map λx=>shut (aI tm x)) emp with
  |some (.same r)=>some (.M r,none)
  |some (.own _ es)=>some (.M (.ay es),none)
  |_=>none
 |.kJ k sz f args=>match T f (args.map λx=>shut (aI tm x)) emp with
  |some (.own dC es)=>if dC=sz then some (.ref k (bp mem k) sz 0 (D es),some (k,bp mem k,es.flatten.map .M)) else none
  |_=>none
 |.jc f args=>match shut (aI tm f) with
  |.dB g []=>(match T g (args.map λx=>shut (aI tm x)) emp with
   |some (.same r)=>some (.M r,none)
   |_=>none)
  |_=>none
 |.kH ..=>none
 |.j7 bQ f args=>C2 bQ mem (args.map (aI tm)) (T f (args.map (aI tm)) mem)
 |.pv j f args=>Gy T mem j f (args.map λx=>shut (aI tm x)) (args.map (aI tm))[j]?
 |.pw j f args=>Gz T mem j f (args.map λx=>shut (aI tm x)) (args.map (aI tm))[j]?
 |op=>br mem tm op
abbrev Rec:=Nat->Option (Bool×List km)
def pA (a b:Bool×List km):Bool:=!(a.1||b.1)||a.2.all λx=>b.2.all λy=>pz x y
def rh (rec:Rec)(p:Bool×List km)(c:List Nat):Bool:=c.all λi=>match rec i with
 |none=>true
 |some q=>pA q p
def iy (rec:Rec)(n:Nat)(p:Bool×List km):Rec:=λi=>if i=n then some p else rec i
def sD (T:bj)(K:a3->Prop):Nat->List bh->List (List Nat)->Rec->a3->Prop
 |_,[],_,_,st=>K st
 |n,i::r,cs,rec,st=>match gy st.tm i.g with
  |none=>False
  |some g=>if g=true then (match ei T st.mem st.tm i.op with
    |some (m,e)=>rh rec (fD i.op,cf st.tm i.op) (cs.headD [])=true/\sD T K (n+1) r cs.tail (iy rec n (fD i.op,cf st.tm i.op)) ⟨put st.tm i.dst m,fB st.mem e⟩
    |none=>False) else sD T K (n+1) r cs.tail rec ⟨put st.tm i.dst .no,st.mem⟩
inductive fi where
 |normal
 |exit (id:Nat)
 |ret
def cC:Nat->Mem->I->Option Data
 |_,_,.M d=>some d
 |_,_,.nil=>some (.ay [])
 |0,_,_=>none
 |n+1,mem,.ref k g sz off len=>match mem k with
  |some (cd,cs)=>if cd=g then (match cut cs off (len*sz) with
   |some part=>(part.mapM (cC n mem)).map λds => .ay (chunk sz len ds)
   |none=>none) else none
  |none=>none
 |n+1,mem,.ptr k g off=>match mem k with
  |some (cd,cs)=>if cd=g/\off<=(D cs) then ((cs.drop off).mapM (cC n mem)).map .ptr else none
  |none=>none
 |n+1,mem,.dB f cs=>(cs.mapM (cC n mem)).map (.fn f)
 |n+1,mem,.agg cs=>(cs.mapM (cC n mem)).map .agg
 |n+1,mem,.dc cs=>(cs.mapM (cC n mem)).map .dc
 |_,_,.g1 _ _=>none
 |_,_,.no=>none
 |_,_,.undef=>none
def kill (mem:Mem)(k:Key):Mem:=aR mem k (bp mem k) []
inductive K5 (mem:Mem):Mem->Prop
 |ahQ (fW gz:Nat) (gJ:List I) (i k g sz off len:Nat) (cs:List I) (k':Nat) (E:mem fW=some (gz,gJ)) (G:gJ[i]?=some (.ref k g sz off len)) (ab:mem k=some (g,cs)) (aM:k≠fW) (bl:k'≠k) (bz:k'≠fW) :
   K5 mem (aR (aR (aR mem k (bp mem k) []) k' (bp mem k') cs) fW gz (gJ.set i (.ref k' (bp mem k') sz off len)))
 |ahR (fW gz:Nat) (gJ:List I) (i k g off:Nat) (cs:List I) (k':Nat) (E:mem fW=some (gz,gJ)) (G:gJ[i]?=some (.ptr k g off)) (ab:mem k=some (g,cs)) (aM:k≠fW) (bl:k'≠k) (bz:k'≠fW) :
   K5 mem (aR (aR (aR mem k (bp mem k) []) k' (bp mem k') cs) fW gz (gJ.set i (.ptr k' (bp mem k') off)))
 |ahS (fW gz:Nat) (gJ:List I) (i k g sz off len:Nat) (cs:List I) (d:Data) (E:mem fW=some (gz,gJ)) (G:gJ[i]?=some (.ref k g sz off len)) (ab:mem k=some (g,cs)) (aM:k≠fW) (bl:cC 1 mem (.ref k g sz off len)=some d) :
   K5 mem (aR (kill mem k) fW gz (gJ.set i (.M d)))
inductive GA:Mem->Mem->Prop
 |refl (mem:Mem):GA mem mem
 |step {mem C3 WX:Mem} (h:K5 mem C3) (bS:GA C3 WX):GA mem WX
def lQ (K:a3->Prop)(st:a3):KT->Prop
 |.rb s k sz=>match st.tm s with
  |.nil=>K ⟨er st.tm s (.ref k (bp st.mem k) sz 0 0),aR st.mem k (bp st.mem k) []⟩
  |_=>False
 |.Gb x i k sz=>match aI st.tm x with
  |.ptr kc g off=>match st.mem kc with
   |some (cd,cs)=>if cd=g then (match cs[off+i]? with
    |some .nil=>if k≠kc then K ⟨st.tm,aR (aR st.mem k (bp st.mem k) []) kc g (cs.set (off+i) (.ref k (bp st.mem k) sz 0 0))⟩ else False
    |_=>False) else False
   |none=>False
  |_=>False
 |.freeze s=>match st.tm s with
  |.ref k g _ _ _=>match st.mem k with
   |some (cd,cs)=>if cd=g/\rf cs=true then (match cC 1 st.mem (st.tm s) with
    |some d=>K ⟨er st.tm s (.M d),kill st.mem k⟩
    |none=>False) else False
   |none=>False
  |_=>False
 |.KU x i=>match aI st.tm x with
  |.ptr kc gc off=>match st.mem kc with
   |some (PS,cc)=>if PS=gc then (match cc[off+i]? with
    |some (.ref k g sz o len)=>match st.mem k with
     |some (cd,cs)=>if cd=g/\rf cs=true/\k≠kc then (match cC 1 st.mem (.ref k g sz o len) with
      |some d=>K ⟨st.tm,aR (kill st.mem k) kc gc (cc.set (off+i) (.M d))⟩
      |none=>False) else False
     |none=>False
    |_=>False) else False
   |none=>False
  |_=>False
 |.move=>K st\/(∃fW gz gJ i k g sz off len cs k',st.mem fW=some (gz,gJ)/\gJ[i]?=some (.ref k g sz off len)/\st.mem k=some (g,cs)/\k≠fW/\k'≠k/\k'≠fW /\
   K ⟨st.tm,aR (aR (aR st.mem k (bp st.mem k) []) k' (bp st.mem k') cs) fW gz (gJ.set i (.ref k' (bp st.mem k') sz off len))⟩) \/
   ∃fW gz gJ i k g sz off len cs d,st.mem fW=some (gz,gJ)/\gJ[i]?=some (.ref k g sz off len)/\st.mem k=some (g,cs)/\rf cs=true/\k≠fW/\cC 1 st.mem (.ref k g sz off len)=some d /\
   K ⟨st.tm,aR (kill st.mem k) fW gz (gJ.set i (.M d))⟩
 |.many=>∃mem',GA st.mem mem'/\K ⟨st.tm,mem'⟩
def wp (T:bj):eF->(fi->a3->Prop)->a3->Prop
 |.skip,K,st=>K .normal st
 |.ops l,K,st=>vy T (K .normal) l st
 |.nk l c,K,st=>sD T (K .normal) 0 l c (λ_=>none) st
 |.seq a b,K,st=>wp T a (λe bV=>match e with
  |.normal=>wp T b K bV
  |e=>K e bV) st
 |.cond c a b,K,st=>match aI st.tm c with
  |.M (.bool t)=>if t=true then wp T a K st else wp T b K st
  |_=>False
 |.block id c,K,st=>wp T c (λe bV=>match e with
  |.exit j=>if j=id then K .normal bV else K (.exit j) bV
  |e=>K e bV) st
 |.loop c,K,st=>∃(AF:a3->Prop) (μ:a3->Nat),AF st/\∀st,AF st->wp T c (λe bV=>match e with
  |.normal=>AF bV/\μ bV<μ st
  |e=>K e bV) st
 |.exit id,K,st=>K (.exit id) st
 |.ret,K,st=>K .ret st
 |.ghost g c,K,st=>lQ (wp T c K) st g
def C4 (st:a3):jI->Option I
 |.t s=>some (st.tm s)
 |.cell s n bC=>ic st.mem n bC (st.tm s)
def jd (st:a3)(l:List jI):Option I :=
 match l.mapM (C4 st) with
 |some [m]=>some m
 |some ms=>some (.dc ms)
 |none=>none
def jK (args:List I):Nat->I:=λs=>match args[s]? with
 |some m=>m
 |none => .no
def GB:Value->Option I
 |.int k n=>some (.M (.int k n))
 |.bool b=>some (.M (.bool b))
 |.string s=>some (.M (.str s.data.toList))
 |.slice none 0 0=>some .nil
 |.pointer none=>some (.M .ql)
 |.nilFunc=>some (.M .q8)
 |.nilIface=>some (.M .mE)
 |.map none=>some .undef
 |_=>none
def K6:Value->Option I
 |.agg cs=>(cs.toList.mapM GB).map .agg
 |v=>GB v
def cu:Operand->Option bg
 |.tmp t=>some (.t t)
 |.const v=>(K6 v).map .c
 |.func f=>some (.c (.dB f []))
 |.global _=>none
def zeroOf (P:Program)(t:TypeId):Option (List I):=((P.info? t).bind (·.zero)).bind λz=>z.cells.toList.mapM GB
def zeroV (P:Program)(t:TypeId):Option I:=((P.info? t).bind (·.zero)).bind K6
def e9 (P:Program)(t:TypeId):Option Nat:=(P.info? t).map (·.size)
def C5 (P:Program)(t:TypeId):Option Nat:=(P.info? t).map (·.bytes)
def sE (P:Program)(t:TypeId):Option Bool:=(P.underlying t).map fun|.struct _=>true|.array _ _=>true|_=>false
def partsOf (place:Nat->Option (Nat×Nat))(l:List (Nat×Operand)):Option (List (Nat×Nat×bg)) :=
 l.mapM λ(i,x)=>do
  let (o,s) <-place i
  let y <-cu x
  pure (o,s,y)
def sF (P:Program)(c5:Array Field)(i:Nat):Option (Nat×Nat):=do
 let f <-c5[i]?
 let s <-e9 P f.type
 pure (f.offset,s)
def tS (P:Program)(t:TypeId):Option Nat :=
 match P.underlying t with
 |some .bool=>some 0
 |some (.int _)=>some 1
 |some .string=>some 2
 |_=>none
def C6 (P:Program):Nat->List Field->Option (List Nat)
 |_,[]=>some []
 | i, f :: r => if f.name ≠ "_" /\ f.offset = i then (match tS P f.type, C6 P (i + 1) r with
  |some k,some fU=>some (k::fU)
  |_,_=>none) else none
def sG (P:Program)(t:TypeId)(c5:Array Field)(neg:Bool)(x y:Operand):Option fh :=
 if P.stoodInHeld t=false/\P.eqGuardType P.depth t=false then (match C6 P 0 c5.toList,cu x,cu y with
  |some fU,some x,some y=>some (.eqs neg fU x y)
  |_,_,_=>none) else none
def K7:Bool->Operand->Bool
 |false,.const (.pointer none)=>true
 |true,.const .nilIface=>true
 |_,_=>false
def K8:Operand->Bool
 |.const (.slice none 0 0)=>true
 |_=>false
def sH (P:Program)(op:BinOp)(t:TypeId)(x y:Operand):Option fh :=
 match P.underlying t with
 |some (.int _)=>match cu x,cu y with
  |some x,some y=>some (.bin op x y)
  |_,_=>none
 |some .string=>match cu x,cu y with
  |some x,some y=>some (.bin op x y)
  |_,_=>none
 |some .bool=>match op,cu x,cu y with
  |.eql,some x,some y=>some (.beq false x y)
  |.neq,some x,some y=>some (.beq true x y)
  |_,_,_=>none
 |some (.struct c5)=>match op with
  |.eql=>sG P t c5 false x y
  |.neq=>sG P t c5 true x y
  |_=>none
 |some (.slice _)=>if K8 y=true then (match op with
  |.eql=>(cu x).map (.kH false)
  |.neq=>(cu x).map (.kH true)
  |_=>none) else none
 |some (.pointer _)=>if K7 false y=true then (match op with
  |.eql=>(cu x).map (.AB false false)
  |.neq=>(cu x).map (.AB true false)
  |_=>none) else none
 |some (.interface _)=>if K7 true y=true then (match op with
  |.eql=>(cu x).map (.AB false true)
  |.neq=>(cu x).map (.AB true true)
  |_=>none) else none
 |_=>none
def ri:Option Operand->Option (Option bg)
 |none=>some none
 |some x=>(cu x).map some
def rj (P:Program)(kb:Nat)(own:List Nat)(dst:Option Nat)(type:TypeId)(c:Call):Option fh :=
 match c.callee,c.args.toList,c.argTypes.toList with
 |.builtin .len,[x],[t]=>match P.underlying t with
  |some (.slice _)=>(cu x).map .len
  |some .string=>(cu x).map .lens
  |_=>none
 |.builtin .append,[s,x],[t,u]=>match P.underlying t,P.underlying u with
  |some (.slice e),some (.slice _)=>do
   let z <-zeroOf P e
   let b <-C5 P e
   let n <-e9 P e
   let d <-dst
   let s <-cu s
   let x <-cu x
   if (D z)=n/\0<n/\t=u then pure (.app (kb+d) z b s x) else none
  |_,_=>none
 |.builtin .copy,[d,x],[t,u]=>match P.underlying t,P.underlying u with
  |some (.slice e),some (.slice _)=>do
   let n <-e9 P e
   if 0<n then pure (.qo n (<-cu d) (<-cu x)) else none
  |_,_=>none
 |.builtin .clear,[x],[t]=>match P.underlying t with
  |some (.slice e)=>do
   let z <-zeroOf P e
   let n <-e9 P e
   if (D z)=n/\0<n then pure (.sA z (<-cu x)) else none
  |_=>none
 |.builtin .max,[x,y],_=>do pure (.kI true (<-cu x) (<-cu y))
 |.builtin .min,[x,y],_=>do pure (.kI false (<-cu x) (<-cu y))
 |.value (.func f),l,_=>if dst.any (λd=>own.contains d) then (match P.underlying type with
   |some (.slice e)=>do pure (.kJ (kb+(<-dst)) (<-e9 P e) f (<-l.mapM cu))
   |_=>none) else match own.find? (λo=>decide (1000000<=o)&&dst==some (o%1000000)) with
   |some o=>if 1000000000000<=o then do pure (.pw (o/1000000000000-1) f (<-l.mapM cu)) else if 1000000000<=o then do pure (.pv (o/1000000000-1) f (<-l.mapM cu)) else do pure (.j7 (o/1000000-1) f (<-l.mapM cu))
   |none=>do pure (.call f (<-l.mapM cu))
 |.value f,l,_=>do pure (.jc (<-cu f) (<-l.mapM cu))
 |_,_,_=>none
def gk (P:Program)(kb:Nat)(own:List Nat)(dst:Option Nat)(type:TypeId):Op->Option fh
 |.move x=>(cu x).map .hI
 |.assign x=>(cu x).map .hI
 |.pick c a b=>do pure (.pick (<-cu c) (<-cu a) (<-cu b))
 |.alloc e=>do pure (.alloc (kb+(<-dst)) (<-zeroOf P e))
 |.box _ x=>do pure (.box (kb+(<-dst)) (<-cu x))
 |.build t cD=>match P.underlying t with
  |some (.struct c5)=>if (c5.toList.all λf=>(e9 P f.type).isSome)=true then do pure (.build (<-zeroOf P t) (<-partsOf (sF P c5) cD.toList)) else none
  |some (.array _ e)=>do
   let s <-e9 P e
   pure (.build (<-zeroOf P t) (<-partsOf (λi=>some (i*s,s)) cD.toList))
  |_=>none
 |.buildSlice t len cD=>match P.underlying t with
  |some (.slice e)=>do
   let z <-zeroOf P e
   let s <-e9 P e
   let cD <-partsOf (λi=>some (i*s,s)) cD.toList
   let d <-dst
   if (D z)=s/\0<s/\len*s<=16777216 then pure (.ed (kb+d) (own.contains d) ((bT len z).flatten) s len cD) else none
  |_=>none
 |.load t x=>do pure (.load (<-e9 P t) (<-sE P t) (<-cu x))
 |.store t x v=>do pure (.store (<-e9 P t) (<-cu x) (<-cu v))
 |.binOp op t x y _=>sH P op t x y
 |.unOp op _ x=>(cu x).map (.un op)
 |.nilCheck x=>(cu x).map .tM
 |.convert s t x=>match P.underlying s,P.underlying t with
  |some (.int _),some (.int k)=>(cu x).map (.conv k)
  |_,_=>none
 |.makeFunc (.func f) fst cU=>if fst.size=0 then do pure (.tO f (<-cU.toList.mapM cu)) else none
 |.makeSlice t l c=>match P.underlying t with
  |some (.slice e)=>do
   let z <-zeroOf P e
   let s <-e9 P e
   let b <-C5 P e
   let d <-dst
   if (D z)=s/\0<s then pure (.lb (kb+d) z b (<-cu l) (<-cu c)) else none
  |_=>none
 |.slice t x bQ L jb=>match P.underlying t with
  |some (.slice e)=>do
   let s <-e9 P e
   if 0<s then pure (.qn s (<-cu x) (<-ri bQ) (<-ri L) (<-ri jb)) else none
  |some (.array n e)=>do
   let s <-e9 P e
   if 0<s/\n<=16777216 then pure (.sy n s (<-cu x) (<-ri bQ) (<-ri L) (<-ri jb)) else none
  |some .string=>if jb.isNone then do pure (.AA (<-cu x) (<-ri bQ) (<-ri L)) else none
  |_=>none
 |.fieldAddr t x f=>match P.underlying t with
  |some (.struct c5)=>do
   let (o,s) <-sF P c5 f
   if 0<s then pure (.sx o (<-cu x)) else none
  |_=>none
 |.field t x f=>match P.underlying t with
  |some (.struct c5)=>do
   let fd <-c5[f]?
   let (o,s) <-sF P c5 f
   pure (.w8 o s (<-sE P fd.type) (<-cu x))
  |_=>none
 |.indexAddr t x i=>match P.underlying t with
  |some (.slice e)=>do
   let s <-e9 P e
   if 0<s then pure (.tN s (<-cu x) (<-cu i)) else none
  |some (.array n e)=>do
   let s <-e9 P e
   if 0<s then pure (.Az n s (<-cu x) (<-cu i)) else none
  |_=>none
 |.index t x i=>match P.underlying t with
  |some .string=>do pure (.idxs (<-cu x) (<-cu i))
  |some (.array n e)=>do pure (.KS n (<-e9 P e) (<-sE P e) (<-cu x) (<-cu i))
  |_=>none
 |.makeInterface t x=>match P.underlying t with
  |some (.interface _)=>none
  |some _=>(cu x).map (.CT t)
  |none=>none
 |.typeAssert x _ t ok=>match P.underlying t with
  |some (.interface _)=>none
  |some _=>do pure (.KQ t ok (<-zeroV P t) (<-cu x))
  |none=>none
 |.makeMap t none=>match P.underlying t with
  |some (.map _ _)=>do pure (.vv (kb+(<-dst)))
  |_=>none
 |.lookup t x i ok=>match P.underlying t with
  |some (.map k e)=>if tS P k=some 2 then do pure (.yR ok (<-zeroV P e) (<-cu x) (<-cu i)) else none
  |_=>none
 |.mapUpdate t x i v=>match P.underlying t with
  |some (.map k e)=>if tS P k=some 2 then do pure (.w9 (<-cu x) (<-cu i) (<-cu v)) else none
  |_=>none
 |.extract x i=>(cu x).map (.ext i)
 |.call c=>rj P kb own dst type c
 |_=>none
def GC (ops:Array Oper):Option (Nat×Bool)->Option (Option (Nat×Bool))
 |none=>some none
 |some (j,b)=>match (ops[j]?).bind (·.dst) with
  |some s=>some (some (s,b))
  |none=>none
def mG (P:Program)(n kb:Nat)(own:List Nat)(ops:Array Oper)(o:Oper):Option bh :=
 match GC ops o.guard with
 |some g=>if o.dst.all (λd=>decide (d<n))=true then some ⟨o.dst,g,(gk P kb own o.dst o.type o.op).getD .bad⟩ else none
 |_=>none
def ld (m:fh):Nat:=match m with
 |.load ..=>1
 |.sy ..=>1
 |.yR ..=>1
 |m=>if fD m=true then 2 else 0
def tT (a b:Nat):Bool:=a==0||b==0||(a==1&&b==1)
def dJ:bg->List Nat
 |.t s=>[s]
 |.c _=>[]
def vz:Option bg->List Nat
 |some (.t s)=>[s]
 |_=>[]
def nS:fh->List Nat
 |.hI x=>dJ x
 |.pick c a b=>dJ c++dJ a++dJ b
 |.alloc _ _=>[]
 |.box _ x=>dJ x
 |.build _ cD=>cD.flatMap λp=>dJ p.2.2
 |.ed _ _ _ _ _ cD=>cD.flatMap λp=>dJ p.2.2
 |.load _ _ x=>dJ x
 |.store _ x v=>dJ x++dJ v
 |.bin _ x y=>dJ x++dJ y
 |.beq _ x y=>dJ x++dJ y
 |.eqs _ _ x y=>dJ x++dJ y
 |.kH _ x=>dJ x
 |.un _ x=>dJ x
 |.conv _ x=>dJ x
 |.tM x=>dJ x
 |.lb _ _ _ x y=>dJ x++dJ y
 |.sx _ x=>dJ x
 |.w8 _ _ _ x=>dJ x
 |.tN _ x i=>dJ x++dJ i
 |.Az _ _ x i=>dJ x++dJ i
 |.idxs x i=>dJ x++dJ i
 |.qn _ x a b c=>dJ x++vz a++vz b++vz c
 |.sy _ _ x a b c=>dJ x++vz a++vz b++vz c
 |.AA x a b=>dJ x++vz a++vz b
 |.ext _ x=>dJ x
 |.len x=>dJ x
 |.lens x=>dJ x
 |.app _ _ _ s x=>dJ s++dJ x
 |.qo _ s x=>dJ s++dJ x
 |.kI _ x y=>dJ x++dJ y
 |.call _ l=>l.flatMap dJ
 |.kJ _ _ _ l=>l.flatMap dJ
 |.jc f l=>dJ f++l.flatMap dJ
 |.j7 _ _ l=>l.flatMap dJ
 |.pv _ _ l=>l.flatMap dJ
 |.pw _ _ l=>l.flatMap dJ
 |.sA _ x=>dJ x
 |.tO _ l=>l.flatMap dJ
 |.CT _ x=>dJ x
 |.KQ _ _ _ x=>dJ x
 |.AB _ _ x=>dJ x
 |.KS _ _ _ x i=>dJ x++dJ i
 |.vv _=>[]
 |.yR _ _ x i=>dJ x++dJ i
 |.w9 x i v=>dJ x++dJ i++dJ v
 |.bad=>[]
def looks (i:bh):List Nat:=nS i.op++(match i.g with|some (s,_)=>[s]|none=>[])
def nT (x y:bh):Bool :=
 (
  match x.dst with
  |some d => !(looks y).contains d&&y.dst != some d
  |none=>true) &&
 (
  match y.dst with
  |some d => !(looks x).contains d
  |none=>true)
def fp:List Oper->List Nat->List Nat
 | [],acc=>acc
 |o::r,acc=>fp r (acc++[o.after.toList.foldl (λs e=>if Region.binds .any e=true then s ||| (2^e.on ||| acc.getD e.on 0) else s) 0])
def xd:List bh->List bh->List Nat->Bool
 |_,[],_=>true
 |pre,c::cs,a::as=>(pre.zipIdx.all λ(p,i)=>a.testBit i||nT p c)&&xd (pre++[c]) cs as
 |_,_::_,[]=>false
def xe:Nat->List Oper->Bool
 |_,[]=>true
 |n,o::r=>(o.after.all λe => !Region.binds .any e||decide (e.on<n))&&xe (n+1) r
def pB (ops:Array Oper)(l:List bh):Bool:=xe 0 ops.toList&&xd [] l (fp ops.toList [])
def lf:List bh->List bh->List Nat->List (List Nat)
 |_,[],_=>[]
 |pre,c::cs,as=>((pre.zipIdx.filter λ(p,i) => !((as.headD 0).testBit i||tT (ld p.op) (ld c.op))).map (·.2))::lf (pre++[c]) cs as.tail
def oH (P:Program)(n kb:Nat)(own:List Nat):Code->Option eF
 |.skip=>some .skip
 |.region _ ops draw=>match ops.toList.mapM (mG P n kb own ops) with
  |some l=>if draw=true then (if pB ops l=true then some (.nk l (lf [] l (fp ops.toList []))) else none) else some (.ops l)
  |none=>none
 |.seq a b=>match oH P n kb own a,oH P n kb own b with
  |some x,some y=>some (.seq x y)
  |_,_=>none
 |.cond c a b=>match cu c,oH P n kb own a,oH P n kb own b with
  |some c,some x,some y=>some (.cond c x y)
  |_,_,_=>none
 |.block id c=>(oH P n kb own c).map (.block id)
 |.loop c=>(oH P n kb own c).map .loop
 |.exit id=>some (.exit id)
 |.ret=>some .ret
 |_=>none
def vA (P:Program):ResultVar->Option jI
 |.tmp t=>some (.t t)
 |.cell a t=>match e9 P t,sE P t with
  |some s,some g=>some (.cell a s g)
  |_,_=>none
def pC (P:Program)(kb:Nat)(own:List Nat)(f:Func):Option bN :=
 match f.body with
 |none=>none
 |some c=>match oH P f.ntmps kb own c,f.results.toList.mapM (vA P) with
  |some b,some r=>some { n:=f.ntmps,ahP:=f.params.size+f.nfree,res:=r,body:=b }
  |_,_=>none
structure cT (A:Nat->Prop) (w:World) (B:cB) (aj:World) (aB:cB) (mem':Mem):Prop where
 b4:dj A aj aB mem'
 h0:Trans A w B aj aB
 fx:Fr (ni B) w aj
 fresh:∀b,ni aB b->ni B b\/w.heap.size<=b
def cT.still {A:Nat->Prop}{w aj:World}{B:cB}{mem:Mem}(h:dj A w B mem)(f:Fr (λ_=>False) w aj):cT A w B aj B mem:=by
 have h0:Trans A w B aj B:=⟨f.size,λb U a0=>⟨f.block b U id,λJ=>a0 (.inl J)⟩,λ_ e he=>⟨e,he,.inl rfl⟩⟩;refine⟨⟨h.q9,h.inj,h.sep,λb U=>vt (h.lt b U) f.size,f.ahO h.gl,h.vu,λk g cs hm=>?_⟩,h0,⟨f.os,f.tape,f.output,f.size,λb U _=>f.block b U id⟩,λb U => .inl U⟩;obtain⟨e,he,aC,aE,U⟩:=h.cW k g cs hm;refine⟨e,he,aC,aE,λb fq=>?_⟩;exact (U b fq).ju h0 (f.block b (U b fq).lt id)
def cT.refl {A:Nat->Prop}{w:World}{B:cB}{mem:Mem}(h:dj A w B mem):cT A w B w B mem:=.still h (Fr.refl _ _)
def eu (B:cB)(k:Key)(e:gU):cB:=λj=>if j=k then some e else B j
def eX (B:cB)(k:Key)(e:gU):eu B k e k=some e:=by simp[eu]
def eR (B:cB){k j:Key}(e:gU)(h:j≠k):eu B k e j=B j:=by simp[eu,h]
section
variable {A:Nat->Prop} {w aj:World} {B:cB} {mem:Mem} {k:Key} {e':gU} {cs:List I}
def Trans.change (dz:w.heap.size<=aj.heap.size)
  (hold:∀b,b<w.heap.size->(∀e,B k=some e->e.cW≠some b)->aj.heap[b]?=w.heap[b]?)
  (aC:∀e,B k=some e->e'=e\/e.g<e'.g)
  (je:∀b,e'.cW=some b->w.heap.size<=b\/∃e,B k=some e/\e.cW=some b):Trans A w B aj (eu B k e'):=by
 refine⟨dz,λb U a0=>⟨hold b U λe he J=>a0 (.inl ⟨k,e,he,J⟩),?_⟩,λj e he=>?_⟩
 ·rintro⟨j,e,he,J⟩
  by_cases aa:j=k
  ·subst aa;rw[eX] at he
   cases he;rcases je b J with E|⟨e,E,G⟩
   ·omega
   ·exact a0 (.inl ⟨_,e,E,G⟩)
  ·rw[eR B e' aa] at he;exact a0 (.inl ⟨j,e,he,J⟩)
 ·by_cases aa:j=k
  ·subst aa;exact⟨e',eX _ _ _,aC e he⟩
  ·exact⟨e,(eR B e' aa).trans he,.inl rfl⟩
def K9 (je:∀b,e'.cW=some b->w.heap.size<=b\/∃e,B k=some e/\e.cW=some b)(b:Nat)(h:ni (eu B k e') b):ni B b\/w.heap.size<=b:=by
 obtain⟨j,e,he,J⟩:=h
 by_cases aa:j=k
 ·subst aa;rw[eX] at he
  cases he;rcases je b J with E|⟨e,E,G⟩
  ·exact .inr E
  ·exact .inl ⟨_,e,E,G⟩
 ·rw[eR B e' aa] at he;exact .inl ⟨j,e,he,J⟩
def dj.PT (h:dj A w B mem)(dz:w.heap.size<=aj.heap.size)
  (hold:∀b,b<w.heap.size->(∀e,B k=some e->e.cW≠some b)->aj.heap[b]?=w.heap[b]?)
  (aC:∀e,B k=some e->e'=e\/e.g<e'.g)
  (je:∀b,e'.cW=some b->w.heap.size<=b\/∃e,B k=some e/\e.cW=some b)
  (aE:e'.cW=none->cs=[])
  (Z:∀b,e'.cW=some b->qm aj (bb A (eu B k e')) (eu B k e') e' b cs):dj A aj (eu B k e') (aR mem k e'.g cs):=by
 have h0:Trans A w B aj (eu B k e'):=Trans.change dz hold aC je;have fresh:=K9 (w:=w) je;refine⟨λj aa=>?_,λj h1 e az b he eb U dr=>?_,λb a2 a0=>?_,λb U=>vt (h.lt b U) dz,λb o U=>?_,λb o U a0=>?_,λj g gx hm=>?_⟩
 ·by_cases bL:j=k
  ·subst bL;simp[aR] at aa
  ·simp only[aR,bL,if_false] at aa;rw[eR B e' bL];exact h.q9 j aa
 ·by_cases bL:j=k<;>by_cases hjk':h1=k
  ·rw[bL,hjk']
  ·subst bL;rw[eX] at he
   cases he;rw[eR B e' hjk'] at eb;rcases je b U with E|⟨e,E,G⟩
   ·have:=h.ra ⟨h1,az,eb,dr⟩;omega
   ·exact h.inj _ _ e az b E eb G dr
  ·subst hjk';rw[eX] at eb
   cases eb;rw[eR B e' bL] at he;rcases je b dr with E|⟨ee,E,G⟩
   ·have:=h.ra ⟨j,e,he,U⟩;omega
   ·exact h.inj _ _ e ee b he E U G
  ·rw[eR B e' bL] at he;rw[eR B e' hjk'] at eb;exact h.inj j h1 e az b he eb U dr
 ·rcases fresh b a0 with E|E
  ·exact h.sep b a2 E
  ·have:=h.lt b a2;omega
 ·obtain⟨T,E⟩:=h.gl b o U;exact⟨T,(hold b (Array.getElem?_eq_some_iff.1 E).1 λe he J=>h.vu b o U ⟨k,e,he,J⟩).trans E⟩
 ·have E:=(Array.getElem?_eq_some_iff.1 (h.gl b o U).choose_spec).1;rcases fresh b a0 with G|G
  ·exact h.vu b o U G
  ·omega
 ·by_cases bL:j=k
  ·subst bL;simp only[aR,if_true,bF,ec] at hm;obtain⟨rfl,rfl⟩:=hm;exact⟨e',eX _ _ _,rfl,aE,Z⟩
  ·simp only[aR,bL,if_false] at hm;obtain⟨e,he,xf,GD,g3⟩:=h.cW j g gx hm;refine⟨e,(eR B e' bL).trans he,xf,GD,λb U=>?_⟩;exact (g3 b U).ju h0 (hold b (g3 b U).lt λee ab aM=>bL (h.inj j k e ee b he ab U aM))
def dj.change (h:dj A w B mem)(dz:w.heap.size<=aj.heap.size)
  (hold:∀b,b<w.heap.size->(∀e,B k=some e->e.cW≠some b)->aj.heap[b]?=w.heap[b]?)
  (aC:∀e,B k=some e->e'=e\/e.g<e'.g)
  (je:∀b,e'.cW=some b->w.heap.size<=b\/∃e,B k=some e/\e.cW=some b)
  (aE:e'.cW=none->cs=[])
  (Z:∀b,e'.cW=some b->e'.mp=false/\∃vs T,aj.heap[b]?=some (.cells vs T (0,0))/\vs.size=e'.size/\D cs<=vs.size /\
   ∀(i:Nat) (m:I),cs[i]?=some m->∃v,vs[i]?=some v/\aN w (bb A B) B m v):dj A aj (eu B k e') (aR mem k e'.g cs) :=
 h.PT dz hold aC je aE λb U=>by
  have h0:Trans A w B aj (eu B k e'):=Trans.change dz hold aC je;obtain⟨ak,vs,T,E,G,ab,aM⟩:=Z b U;exact .inl ⟨ak,vs,T,E,G,ab,λi m hm=>let ⟨v,ai,Q⟩:=aM i m hm;⟨v,ai,Q.ju h0⟩⟩
def cT.change (h:dj A w B mem)(f:Fr (λb=>∃e,B k=some e/\e.cW=some b) w aj)
  (aC:∀e,B k=some e->e'=e\/e.g<e'.g)
  (je:∀b,e'.cW=some b->w.heap.size<=b\/∃e,B k=some e/\e.cW=some b)
  (aE:e'.cW=none->cs=[])
  (Z:∀b,e'.cW=some b->e'.mp=false/\∃vs T,aj.heap[b]?=some (.cells vs T (0,0))/\vs.size=e'.size/\D cs<=vs.size /\
   ∀(i:Nat) (m:I),cs[i]?=some m->∃v,vs[i]?=some v/\aN w (bb A B) B m v):cT A w B aj (eu B k e') (aR mem k e'.g cs):=by
 have hold:∀b,b<w.heap.size->(∀e,B k=some e->e.cW≠some b)->aj.heap[b]?=w.heap[b]? :=
  λb U J=>f.block b U fun⟨e,he,fq⟩=>J e he fq
 exact⟨h.change f.size hold aC je aE Z,Trans.change f.size hold aC je,⟨f.os,f.tape,f.output,f.size,λb U a0=>f.block b U fun⟨e,he,fq⟩=>a0 ⟨k,e,he,fq⟩⟩,K9 je⟩
def yX (h:dj A w B mem)(k:Key)(e:gU)(he:B k=some e):e.g<bp mem k:=by
 cases hm:mem k with
 |none=>rw[h.q9 k hm] at he;cases he
 |some x =>
  obtain⟨g,cs⟩:=x;obtain⟨az,E,G,_⟩:=h.cW k g cs hm;rw[E] at he
  cases he;simp[bp,hm,G]
def cT.alloc (h:dj A w B mem)(w1:World)(f:Fr (λ_=>False) w w1)(aP:w1.heap.size=w.heap.size)(k:Key)(vs:Array Value)(T:TypeId)(ad:(D cs)<=vs.size)
  (Z:∀(i:Nat) (m:I),cs[i]?=some m->∃v,vs[i]?=some v/\aN w (bb A B) B m v) :
  cT A w B (w1.alloc (.cells vs T)) (eu B k ⟨bp mem k,some w.heap.size,vs.size,false⟩) (aR mem k (bp mem k) cs):=by
 have f2:Fr (λ_=>False) w (w1.alloc (.cells vs T)):=f.alloc _;refine cT.change (e':=⟨bp mem k,some w.heap.size,vs.size,false⟩) h ⟨f2.os,f2.tape,f2.output,f2.size,λb U _=>f2.block b U id⟩ (λe he => .inr (yX h k e he)) (λb U => .inl ?_) (by simp) ?_
 ·simp at U;omega
 ·intro b U;simp at U;subst U;exact⟨rfl,vs,T,by rw[<-aP];exact heap_alloc_new w1 _,rfl,ad,Z⟩
def cT.vB (h:dj A w B mem)(k:Key):cT A w B w (eu B k ⟨bp mem k,none,0,false⟩) (aR mem k (bp mem k) []) :=
 cT.change (e':=⟨bp mem k,none,0,false⟩) h ⟨rfl,rfl,rfl,bI _,λ_ _ _=>rfl⟩ (λe he => .inr (yX h k e he)) (λb U=>by simp at U) (λ_=>rfl) (λb U=>by simp at U)
end
def cT.trans {A:Nat->Prop}{w w1 fw:World}{B hG Ay:cB}{aU bO:Mem}(h:cT A w B w1 hG aU)(bS:cT A w1 hG fw Ay bO):cT A w B fw Ay bO:=by
 refine⟨bS.b4,h.h0.trans bS.h0,⟨bS.fx.os.trans h.fx.os,bS.fx.tape.trans h.fx.tape,bS.fx.output.trans h.fx.output,cS h.fx.size bS.fx.size,λb U a0=>?_⟩,λb U=>?_⟩
 ·have E:=h.fx.block b U a0;refine (bS.fx.block b (vt U h.fx.size) λJ=>?_).trans E;rcases h.fresh b J with G|G
  ·exact a0 G
  ·omega
 ·rcases bS.fresh b U with E|E
  ·exact h.fresh b E
  ·exact .inr (cS h.fx.size E)
def PU {w:World}{ax:Nat->Prop}{B:cB}{v:Value}{m:I}(h:GB v=some m):aN w ax B m v:=by
 unfold GB at h
 split at h<;>simp only[bF,reduceCtorEq] at h<;>subst h
 ·exact .M .int
 ·exact .M .bool
 ·rename_i s
  exact .M (by
   have:s=⟨s.data.toList.toArray⟩:=by simp
   rw[this]
   simpa using Den.str (s:=s.data.toList))
 ·exact .nil
 ·exact .M .ql
 ·exact .M .q8
 ·exact .M .mE
 ·exact .undef
def mapM_get {α β:Type}{f:α->Option β}:∀{l:List α} {r:List β},l.mapM f=some r->(D r)=D l/\∀(i:Nat) (x:α) (y:β),l[i]?=some x->r[i]?=some y->f x=some y
 | [],r,h=>by
  simp at h;subst h;exact⟨rfl,λi x y E=>by simp at E⟩
 |a::l,r,h=>by
  simp only[ma,fy,fE,dd,bF] at h;obtain⟨b,U,C7,Q,rfl⟩:=h;obtain⟨E,G⟩:=mapM_get Q;refine⟨by simp[E],λi x y J af=>?_⟩
  cases i with
  |zero=>simp at J af;subst J;subst af;exact U
  |succ i=>exact G i x y (by simpa using J) (by simpa using af)
def WY {w:World}{ax:Nat->Prop}{B:cB}{v:Value}{m:I}(h:K6 v=some m):aN w ax B m v:=by
 unfold K6 at h
 split at h
 ·rename_i cs;simp only[cJ] at h;obtain⟨ms,aT,rfl⟩:=h;obtain⟨E,G⟩:=mapM_get aT;have:=aN.agg (w:=w) (ax:=ax) (B:=B) (cs:=ms) (vs:=cs.toList) (by simp[E]) λi d v ae ai=>PU (G i v d ai ae)
  simpa using this
 ·exact PU h
section
variable {P:Program} {w:World} {ax:Nat->Prop} {B:cB}
def aN.vC {k:IntKind}{n:Int}{v:Value}(h:aN w ax B (.M (.int k n)) v):v=.int k n:=by
 cases h with
 |M h=>cases h;rfl
def aN.yY {b:Bool}{v:Value}(h:aN w ax B (.M (.bool b)) v):v=.bool b:=by
 cases h with
 |M h=>cases h;rfl
def aN.yZ {s:List UInt8}{v:Value}(h:aN w ax B (.M (.str s)) v):v=.string ⟨s.toArray⟩:=by
 cases h with
 |M h=>cases h;rfl
def aN.ofInt {k:IntKind}{n:Int}:aN w ax B (.M (.int k n)) (.int k n):=.M .int
def ahT {op:BinOp}{k:IntKind}{a b:Int}{d:Data}(t:TypeId)(R:CU op=false)(h:KV op k a b=some d):
  ∃v,(binOp op t (.int k a) (.int k b)).run P w=.ok v w/\Den w ax d v:=by
 cases op<;>simp only[KV,bF,reduceCtorEq] at h<;>simp only[CU,Bool.true_eq_false] at R
 case quo =>
  split at h
  ·cases h
  ·rename_i U
   cases h;exact⟨_,by simp[go_sem,Op.intDiv,U],.int⟩
 case rem =>
  split at h
  ·cases h
  ·rename_i U
   cases h;exact⟨_,by simp[go_sem,Op.intDiv,U],.int⟩
 all_goals
  subst h
  first
   |exact⟨_,by simp[go_sem,Op.intArith],.int⟩
   |exact⟨_,by simp[go_sem],.int⟩
   |exact⟨_,by simp[go_sem],.bool⟩
def ahU {op:BinOp}{k k':IntKind}{a b:Int}{d:Data}(t:TypeId)(R:CU op=true)(h:KW op k a b=some d):
  ∃v,(binOp op t (.int k a) (.int k' b)).run P w=.ok v w/\Den w ax d v:=by
 unfold KW at h
 split at h
 ·cases h
 ·rename_i U
  cases op<;>simp only[CU,dm] at R
  ·simp only[bF] at h;subst h;exact⟨.int k _,by simp[binOp,Op.shift,U],.int⟩
  ·simp only[bF] at h;subst h;exact⟨.int k _,by simp[binOp,Op.shift,U],.int⟩
def La {op:BinOp}{t:TypeId}{x y:Operand}{u v:Value}(E:u ≠ .nilIface)(G:∀c,u ≠ .agg c):eqGuard op t x y u v=pure ():=by
 unfold eqGuard
 cases op<;>cases u<;>first|rfl|exact absurd rfl E|exact absurd rfl (G _)
def ahV {op:BinOp}{a b:List UInt8}{d:Data}(t:TypeId)(h:KX op a b=some d):
  ∃v,(binOp op t (.string ⟨a.toArray⟩) (.string ⟨b.toArray⟩)).run P w=.ok v w/\Den w ax d v:=by
 have ahW:binOp op t (.string ⟨a.toArray⟩) (.string ⟨b.toArray⟩)=Op.stringOp op ⟨a.toArray⟩ ⟨b.toArray⟩:=by
  cases op<;>rfl
 rw[ahW]
 cases op<;>simp only[KX,bF,reduceCtorEq] at h
 case add =>
  split at h
  ·rename_i ad
   cases h;refine⟨.string ⟨(a++b).toArray⟩,?_,.str⟩;have sI:¬ (9223372036854775807<(D a:Int)+(D b:Int)):=by unfold maxLen at ad;omega
   have aK:(ByteArray.mk a.toArray).size=D a:=by simp[ByteArray.size]
   have az:(ByteArray.mk b.toArray).size=D b:=by simp[ByteArray.size]
   have xg:(ByteArray.mk a.toArray)++(ByteArray.mk b.toArray)=⟨(a++b).toArray⟩:=by
    apply ByteArray.ext;simp
   simp[Op.stringOp,aK,az,sI,xg]
  ·cases h
 all_goals
  subst h;exact⟨_,by simp[Op.stringOp],.bool⟩
def WZ {op:BinOp}{m n r:I}{u v:Value}(t:TypeId)(x y:Operand)(hm:aN w ax B m u)(aE:aN w ax B n v)(h:CV op m n=some r):
  ∃z,((do eqGuard op t x y u v;binOp op t u v:Sem Value)).run P w=.ok z w/\aN w ax B r z:=by
 unfold CV at h
 split at h
 ·rename_i k a k' b
  cases hm.vC
  cases aE.vC;rw[La (by simp) (by simp)]
  split at h
  ·rename_i R;simp only[cJ] at h;obtain⟨d,ae,rfl⟩:=h;obtain⟨z,E,G⟩:=ahU (P:=P) (w:=w) (ax:=ax) (k':=k') t R ae;exact⟨z,by simpa using E,.M G⟩
  ·rename_i R
   split at h
   ·rename_i O;subst O;simp only[cJ] at h;obtain⟨d,ae,rfl⟩:=h;obtain⟨z,E,G⟩:=ahT (P:=P) (w:=w) (ax:=ax) t (by simpa using R) ae;exact⟨z,by simpa using E,.M G⟩
   ·cases h
 ·rename_i a b
  cases hm.yZ
  cases aE.yZ;rw[La (by simp) (by simp)];simp only[cJ] at h;obtain⟨d,ae,rfl⟩:=h;obtain⟨z,E,G⟩:=ahV (P:=P) (w:=w) (ax:=ax) t ae;exact⟨z,by simpa using E,.M G⟩
 ·cases h
def W0 {neg:Bool}{m n r:I}{u v:Value}(t:TypeId)(x y:Operand)(bx:P.underlying t=some .bool)(hm:aN w ax B m u)(aE:aN w ax B n v)(h:CW neg m n=some r):
  ∃z,((do eqGuard (if neg then .neq else .eql) t x y u v;binOp (if neg then .neq else .eql) t u v:Sem Value)).run P w=.ok z w/\aN w ax B r z:=by
 unfold CW at h
 split at h
 ·rename_i a b
  cases hm.yY
  cases aE.yY
  cases h;rw[La (by simp) (by simp)]
  cases neg
  ·exact⟨.bool (a==b),by simp[run_eql_bool w t a b bx],by cases a<;>cases b<;>exact .M .bool⟩
  ·exact⟨.bool (!(a==b)),by simp[run_neq_bool w t a b bx],by cases a<;>cases b<;>exact .M .bool⟩
 ·cases h
def ahX {t:TypeId}{k:Nat}{m n:I}{c:Bool}{u v:Value}(d:Nat)(O:tS P t=some k)(hm:aN w ax B m u)(aE:aN w ax B n v)(h:KY k m n=some c):
  (Op.equalIn (d+1) t u v).run P w=.ok c w:=by
 unfold tS at O;unfold KY at h
 split at h
 ·simp only[bF] at h
  cases hm.yY
  cases aE.yY;subst h
  split at O<;>first|(exfalso;simp at O;done)|(rename_i hu;exact run_equalIn_bool w d t _ _ hu)
 ·split at h
  ·rename_i ahY;subst ahY
   cases hm.vC
   cases aE.vC
   cases h
   split at O<;>first|(exfalso;simp at O;done)|(rename_i hu;exact run_equalIn_int w d t _ _ _ _ hu)
  ·cases h
 ·simp only[bF] at h
  cases hm.yZ
  cases aE.yZ;subst h
  split at O<;>first|(exfalso;simp at O;done)|(rename_i hu;rw[run_equalIn_string w d t _ _ hu];simp)
 ·cases h
def ahZ {t:TypeId}{k:Nat}(h:tS P t=some k):(isAgg t).run P w=.ok false w:=by
 unfold tS at h
 split at h<;>simp only[bF,reduceCtorEq] at h<;>(rename_i hu;simp[isAgg,run_underlying hu])
def W1 {d:Nat}{xs ys:Array Value}{cs ds:List I}(J:∀(i:Nat) (m:I) (v:Value),cs[i]?=some m->xs[i]?=some v->aN w ax B m v)(vD:xs.size=D cs)
  (af:∀(i:Nat) (m:I) (v:Value),ds[i]?=some m->ys[i]?=some v->aN w ax B m v) (PV:ys.size=D ds) :
  ∀(c5:List Field) (i:Nat) (fU:List Nat) (c:Bool),C6 P i c5=some fU->yS fU (cs.drop i) (ds.drop i)=some c->(Op.eqFields (d+1) xs ys c5).run P w=.ok c w
 | [],i,fU,c,ag,Z=>by
  simp[C6] at ag;subst ag
  cases E:cs.drop i<;>cases G:ds.drop i<;>simp[E,G,yS] at Z;subst Z;simp[Op.eqFields]
 |f::r,i,fU,c,ag,Z=>by
  simp only[C6] at ag
  split at ag
  ·rename_i aE;obtain⟨tU,pD⟩:=aE
   split at ag
   ·rename_i k ah0 O tV
    cases ag
    cases E:cs.drop i with
    |nil=>simp[E,yS] at Z
    |cons a x =>
     cases G:ds.drop i with
     |nil=>simp[E,G,yS] at Z
     |cons b y =>
      rw[E,G] at Z;simp only[yS] at Z
      split at Z
      ·rename_i cH dR kK tW
       cases Z
       have qp:i<D cs:=by
        rcases fF i (D cs) with h|h
        ·exact h
        ·rw[mH h] at E;cases E
       have dS:i<D ds:=by
        rcases fF i (D ds) with h|h
        ·exact h
        ·rw[mH h] at G;cases G
       rw[gK qp] at E;rw[gK dS] at G
       injection E with a2 ah1
       injection G with U ah2
       subst a2;subst U;subst ah1;subst ah2
       have ex:xs[f.offset]?=some (xs[i]'(by omega)):=by rw[pD];exact Array.getElem?_eq_getElem (by omega)
       have PW:ys[f.offset]?=some (ys[i]'(by omega)):=by rw[pD];exact Array.getElem?_eq_getElem (by omega)
       have rx:=J i _ _ (bw qp) (Array.getElem?_eq_getElem (by omega:i<xs.size));have ah3:=af i _ _ (bw dS) (Array.getElem?_eq_getElem (by omega:i<ys.size));have he:=ahX (P:=P) d O rx ah3 kK;have aD:=W1 (d:=d) J vD af PV r (i+1) ah0 dR tV tW;have ah4:(isAgg f.type).run P w=.ok false w:=ahZ O;simp only[Op.eqFields,tU,ne_eq,not_false_eq_true,if_true,Sem.run_bind,part,ah4,Result.andThen_ok,dm,if_false,ex,PW,Sem.run_pure,he]
       cases cH
       ·simp
       ·simp[aD]
      ·cases Z
   ·cases ag
  ·cases ag
def W2 {m:I}{v:Value}(h:aN w ax B m v)(E:m.one=true):v.oneCell'=true:=by
 cases h with
 |M ae=>cases ae<;>first|rfl|simp[I.one] at E
 |nil=>rfl
 |ref he aC ai=>obtain⟨a,cap,rfl,_⟩:=ai;rfl
 |ptr he aC ai=>obtain⟨b,rfl,_⟩:=ai;rfl
 |g1 he aC ai=>obtain⟨b,rfl,_⟩:=ai;rfl
 |dB ad ae=>rfl
 |agg ad ae=>simp[I.one] at E
 |dc ad ae=>simp[I.one] at E
 |no=>simp[I.one] at E
 |undef=>simp[I.one] at E
def ah5 {v:Value}(h:∀c,v ≠ .agg c):v.cells=#[v]:=by
 unfold Value.cells
 split
 ·rename_i cs;exact absurd rfl (h cs)
 ·rfl
def ah6 {m:I}{v:Value}(h:aN w ax B m v)(hu:m ≠ .undef):v.cells.size=D m.cells/\∀(i:Nat) (c:I) (u:Value),m.cells[i]?=some c->v.cells[i]?=some u->aN w ax B c u:=by
 have one:(∀c,v ≠ .agg c)->m.cells=[m]->v.cells.size=D m.cells/\∀(i:Nat) (c:I) (u:Value),m.cells[i]?=some c->v.cells[i]?=some u->aN w ax B c u:=by
  intro ai hm;rw[hm,ah5 ai];refine⟨rfl,λi c u Z hu=>?_⟩
  cases i with
  |zero=>simp at Z hu;subst Z;subst hu;exact h
  |succ i=>simp at Z
 cases h with
 |M ae =>
  cases ae with
  |agg ad ae =>
   refine⟨by simp[Value.cells,I.cells];exact ad,λi c u Z hu=>?_⟩
   simp only[I.cells,bD,cJ] at Z;obtain⟨d,kL,rfl⟩:=Z;exact .M (ae i d u kL (by simpa [Value.cells] using hu))
  |_=>exact one (by simp) rfl
 |nil=>exact one (by simp) rfl
 |ref he aC ai=>obtain⟨a,cap,rfl,_⟩:=ai;exact one (by simp) rfl
 |ptr he aC ai=>obtain⟨b,rfl,_⟩:=ai;exact one (by simp) rfl
 |g1 he aC ai=>obtain⟨b,rfl,_⟩:=ai;exact one (by simp) rfl
 |dB ad ae=>exact one (by simp) rfl
 |agg ad ae =>
  refine⟨by simp[Value.cells,I.cells];exact ad,λi c u Z hu=>ae i c u (by simpa [I.cells] using Z) (by simpa [Value.cells] using hu)⟩
 |dc ad ae=>exact one (by simp) rfl
 |no=>exact one (by simp[undef]) rfl
 |undef=>exact absurd rfl hu
end
section
variable {P:Program} {w:World} {ax:Nat->Prop} {B:cB}
def ck (w:World)(ax:Nat->Prop)(B:cB)(cs:List I)(vs:List Value):Prop :=
 (D vs)=D cs/\∀(i:Nat) (m:I) (v:Value),cs[i]?=some m->vs[i]?=some v->aN w ax B m v
def ck.get {cs:List I}{vs:List Value}(h:ck w ax B cs vs){i:Nat}{m:I}(L:cs[i]?=some m):∃v,vs[i]?=some v/\aN w ax B m v:=by
 have ad:i<D cs:=(dh.1 L).1;have ai:vs[i]?=some (vs[i]'(by rw[h.1];exact ad)):=bw _;exact⟨_,ai,h.2 i m _ L ai⟩
def ck.nil:ck w ax B [] []:=⟨rfl,λi m v h=>by simp at h⟩
def ck.cons {m:I}{v:Value}{cs:List I}{vs:List Value}(h:aN w ax B m v)(Q:ck w ax B cs vs):ck w ax B (m::cs) (v::vs):=by
 refine⟨by simp[Q.1],λi m' oI E G=>?_⟩
 cases i with
 |zero=>simp at E G;subst E;subst G;exact h
 |succ i=>exact Q.2 i m' oI (by simpa using E) (by simpa using G)
def ck.append {a b:List I}{x y:List Value}(h:ck w ax B a x)(bS:ck w ax B b y):ck w ax B (a++b) (x++y):=by
 refine⟨by simp[h.1,bS.1],λi m v E G=>?_⟩
 rw[C8] at E G
 split at E
 ·rename_i L;rw[aq (by rw[h.1];exact L)] at G;exact h.2 i m v E G
 ·rename_i L;rw[ar (by rw[h.1];exact L),h.1] at G;exact bS.2 _ m v E G
def ck.drop {a:List I}{x:List Value}(h:ck w ax B a x)(n:Nat):ck w ax B (a.drop n) (x.drop n) :=
 ⟨by simp[h.1],λi m v E G=>h.2 (n+i) m v (by simpa using E) (by simpa using G)⟩
def ck.take {a:List I}{x:List Value}(h:ck w ax B a x)(n:Nat):ck w ax B (a.take n) (x.take n):=by
 refine⟨by simp[h.1],λi m v E G=>?_⟩
 rw[xh] at E G
 split at E
 ·rename_i L;rw[aq L] at G;exact h.2 i m v E G
 ·cases E
def ck.jJ {a b:List I}{x y:List Value}(h:ck w ax B a x)(bS:ck w ax B b y)(off:Nat):
  ck w ax B (jJ a off b) (x.take off++y++x.drop (off+D y)):=by
 unfold Mini.jJ;rw[bS.1];exact ((h.take off).append bS).append (h.drop _)
def ck.PX {m:I}{v:Value}(h:aN w ax B m v)(hu:m ≠ .undef):ck w ax B m.cells v.cells.toList:=by
 obtain⟨E,G⟩:=ah6 h hu;exact⟨by simpa using E,λi c u Z ai=>G i c u Z (by simpa using ai)⟩
def ck.M {ds:List Data}{vs:List Value}(ad:(D vs)=D ds)(h:∀(i:Nat) (d:Data) (v:Value),ds[i]?=some d->vs[i]?=some v->Den w ax d v):ck w ax B (ds.map .M) vs:=by
 refine⟨by simp[ad],λi m v E G=>?_⟩
 simp only[bD,cJ] at E;obtain⟨d,ae,rfl⟩:=E;exact .M (h i d v ae G)
def C9 {cs:List I}{off n:Nat}{r:List I}(h:cut cs off n=some r):off+n<=D cs/\r=(cs.drop off).take n/\D r=n:=by
 unfold cut at h
 split at h
 ·rename_i ad
  cases h;exact⟨ad,rfl,by simp;omega⟩
 ·cases h
def lR (w:World)(b off:Nat)(vs:List Value):Prop:=∀(j:Nat) (u:Value),vs[j]?=some u->w.cell? ⟨b,off+j,none⟩=some u
def lR.add {w:World}{b off:Nat}{vs:List Value}(h:lR w b off vs)(n:Nat):lR w b (off+n) (vs.drop n):=λj u aa=>by
 have:=h (n+j) u (by simpa using aa);rwa [<-rk] at this
def lR.take {w:World}{b off:Nat}{vs:List Value}(h:lR w b off vs)(n:Nat):lR w b off (vs.take n):=λj u aa=>by
 rw[xh] at aa
 split at aa
 ·exact h j u aa
 ·cases aa
def lR.row {w:World}{b:Nat}{vs:Array Value}{T:TypeId}{fx:Nat×Nat}(h:w.heap[b]?=some (.cells vs T fx)):lR w b 0 vs.toList:=λj u aa=>by
 rw[kM,cell_of_row w b j vs T fx h]
 simpa using aa
def xi (b off n:Nat):(⟨b,off,none⟩:Addr).add n=⟨b,off+n,none⟩:=by
 unfold Addr.add
 split<;>simp_all
def lR.load {b off:Nat}{vs:List Value}(h:lR w b off vs):(loadCells ⟨b,off,none⟩ (D vs)).run P w=.ok vs.toArray w :=
 run_loadCells_list w _ vs λj v aa=>by rw[xi];exact h j v aa
def rl {t:TypeId}{n:Nat}(h:e9 P t=some n):(sizeOf t).run P w=.ok n w:=by
 simp only[e9,cJ] at h;obtain⟨i,L,rfl⟩:=h;simp[sizeOf,typeInfo,L]
def Lb {t:TypeId}{g:Bool}(h:sE P t=some g):(isAgg t).run P w=.ok g w:=by
 simp only[sE,cJ] at h;obtain⟨d,ae,rfl⟩:=h;simp only[isAgg,Sem.run_bind,run_underlying ae,Result.andThen_ok]
 cases d<;>rfl
def PY {t:TypeId}{n:Nat}{bC:Bool}{b off:Nat}{ms:List I}{vs:List Value}{r:I}(R:e9 P t=some n)(a2:sE P t=some bC)(ad:(D ms)=n)
  (b0:ck w ax B ms vs) (fX:lR w b off vs) (h:nR bC ms=some r):∃u,(loadVar t ⟨b,off,none⟩).run P w=.ok u w/\aN w ax B r u:=by
 unfold nR at h
 split at h
 ·rename_i tX
  cases h;subst tX;refine⟨.agg vs.toArray,?_,.agg b0.1 b0.2⟩;have:=fX.load (P:=P);rw[b0.1,ad] at this;simp[loadVar,Lb a2,rl R,this]
 ·rename_i tX
  split at h
  ·cases h;obtain⟨u,hu,Q⟩:=b0.get (i:=0) (m:=r) rfl;have:=fX 0 u hu;have PZ:bC=false:=by simpa using tX
   subst PZ;exact⟨u,by simp[loadVar,Lb a2,this];simpa using by rw[show off=off+0 from rfl,this],Q⟩
  ·cases h
end
section
variable {P:Program} {A:Nat->Prop} {w:World} {B:cB} {mem:Mem}
def dj.at_ (h:dj A w B mem){k:Key}{g:Nat}{cs:List I}(O:mem k=some (g,cs)):
  ∃e,B k=some e/\e.g=g/\(e.cW=none->cs=[])/\∀b,e.cW=some b->e.mp=false->∃(vs:Array Value) (T:TypeId),w.heap[b]?=some (.cells vs T (0,0))/\vs.size=e.size/\D cs<=vs.size /\
   ck w (bb A B) B cs (vs.toList.take (D cs)):=by
 obtain⟨e,he,aC,aE,U⟩:=h.cW k g cs O;refine⟨e,he,aC,aE,λb fq gL=>?_⟩;obtain⟨vs,T,E,G,ab,aM⟩:=(U b fq).cells gL;refine⟨vs,T,E,G,ab,by simp;omega,λi m v hm ai=>?_⟩
 obtain⟨u,hu,Q⟩:=aM i m hm;rw[xh] at ai
 split at ai
 ·rw[Array.getElem?_toList,hu] at ai
  cases ai;exact Q
 ·cases ai
def W3 {n:Nat}{bC:Bool}{m r:I}{v:Value}(a4:dj A w B mem)(ai:aN w (bb A B) B m v)(h:ic mem n bC m=some r):
  ∃b off ms vs,v=.pointer (some ⟨b,off,none⟩)/\D ms=n/\ck w (bb A B) B ms vs/\lR w b off vs/\nR bC ms=some r:=by
 unfold ic at h
 split at h
 ·rename_i k g off
  split at h
  ·rename_i cd cs O
   split at h
   ·rename_i aC;subst aC;simp only[dd] at h;obtain⟨ms,aT,Q⟩:=h;obtain⟨ad,rfl,aE⟩:=C9 aT;obtain⟨e,he,bM,vE,U⟩:=a4.at_ O
    cases ai with
    |ptr dW xf j8 =>
     rw[he] at dW
     cases dW;obtain⟨b,rfl,fq⟩:=j8;obtain⟨fq,gL⟩:=fq bM.symm;obtain⟨vs,T,a1,aP,hle,b0⟩:=U b fq gL;refine⟨b,off,_,((vs.toList.take (D cs)).drop off).take n,rfl,aE,(b0.drop off).take n,?_,Q⟩;have:=(((lR.row a1).take (D cs)).add off).take n
     simpa using this
   ·cases h
  ·cases h
 ·rename_i ds;simp only[dd] at h;obtain⟨ms,aT,Q⟩:=h;obtain⟨ad,rfl,aE⟩:=C9 aT
  cases ai with
  |M ae =>
   cases ae with
   | @ptr cs b off val U eE Z ae =>
    refine⟨b,off,_,((jf (D ds)).map val).take n,rfl,aE,?_,?_,Q⟩
    ·have:ck w (bb A B) B (ds.map .M) ((jf (D ds)).map val):=ck.M (by simp) λi d v E G=>by
      have L:i<D ds:=(dh.1 E).1;simp[L] at G;subst G;exact ae i d E
     simpa using this.take n
    ·refine lR.take (λj u aa=>?_) n;simp only[bD,cJ] at aa;obtain⟨h1,jx,rfl⟩:=aa
     have E:h1=j/\j<D ds:=by
      rcases fF j (D ds) with h|h
      ·rw[qq h] at jx;exact⟨by simpa using jx.symm,h⟩
      ·rw[mI (by simpa using h)] at jx
       cases jx
     obtain⟨rfl,h2⟩:=E;exact Z h1 h2
 ·cases h
def ah7 {t:TypeId}{n:Nat}{bC:Bool}{m r:I}{v:Value}(R:e9 P t=some n)(a2:sE P t=some bC)(a4:dj A w B mem)(ai:aN w (bb A B) B m v)(h:ic mem n bC m=some r):
  ∃u,(Instr.loadAt t v).run P w=.ok u w/\aN w (bb A B) B r u:=by
 obtain⟨b,off,ms,vs,rfl,ad,b0,fX,Q⟩:=W3 a4 ai h;obtain⟨u,E,G⟩:=PY (P:=P) R a2 ad b0 fX Q;exact⟨u,by simpa [Instr.loadAt,Instr.sureAddr] using E,G⟩
end
section
variable {P:Program} {w:World} {ax:Nat->Prop} {B:cB}
def W4 {m:I}{cs:List I}{v:Value}(h:AD m=some cs)(ai:aN w ax B m v):∃vs:List Value,v=.agg vs.toArray/\ck w ax B cs vs:=by
 unfold AD at h
 split at h
 ·cases h
  cases ai with
  |agg ad ae=>exact⟨_,rfl,ad,ae⟩
 ·cases h
  cases ai with
  |M ae =>
   cases ae with
   |agg ad ae=>exact⟨_,rfl,ck.M ad ae⟩
 ·cases h
def W5 {neg:Bool}{fU:List Nat}{m n r:I}{u v:Value}(t:TypeId)(x y:Operand)(c5:Array Field)(hu:P.underlying t=some (.struct c5))(R:P.stoodInHeld t=false)
  (aC:P.eqGuardType P.depth t=false) (O:C6 P 0 c5.toList=some fU) (hm:aN w ax B m u) (aE:aN w ax B n v) (h:Ge neg fU m n=some r) :
  ∃z,((do eqGuard (if neg then .neq else .eql) t x y u v;binOp (if neg then .neq else .eql) t u v:Sem Value)).run P w=.ok z w/\aN w ax B r z:=by
 unfold Ge at h
 split at h
 ·rename_i cs ds jL e3
  split at h
  ·rename_i c Z
   cases h;obtain⟨xs,rfl,J⟩:=W4 jL hm;obtain⟨ys,rfl,af⟩:=W4 e3 aE;have xj:P.fieldsOf t=c5:=by simp[Program.fieldsOf,hu]
   have he:=run_equalIn_struct (P:=P) w 9999 t xs.toArray ys.toArray (by rw[xj];exact hu) R;rw[xj] at he
   have ag:=W1 (P:=P) (w:=w) (ax:=ax) (B:=B) (d:=9998) (xs:=xs.toArray) (ys:=ys.toArray) (cs:=cs) (ds:=ds)
    (λi m v E G=>J.2 i m v E (by simpa using G)) (by simpa using J.1) (λi m v E G=>af.2 i m v E (by simpa using G)) (by simpa using af.1) c5.toList 0 fU c O (by simpa using Z)
   have heq:(Op.equal t (.agg xs.toArray) (.agg ys.toArray)).run P w=.ok c w:=by
    show (Op.equalIn (9999+1) t _ _).run P w=_;rw[he];exact ag
   have tY:∀op,(op=BinOp.eql\/op=.neq)->(eqGuard op t x y (.agg xs.toArray) (.agg ys.toArray)).run P w=.ok () w:=by
    intro op ev;rcases ev with rfl|rfl<;>simp[eqGuard,aC]
   refine⟨.bool (neg != c),?_,.M .bool⟩
   cases neg
   ·simp only[dm,if_false,Sem.run_bind,tY _ (.inl rfl),Result.andThen_ok];show (do pure (Value.bool (<-Op.equal t (.agg xs.toArray) (.agg ys.toArray))):Sem Value).run P w=_
    simp[heq]
   ·simp only[if_true,Sem.run_bind,tY _ (.inr rfl),Result.andThen_ok];show (do pure (Value.bool (!(<-Op.equal t (.agg xs.toArray) (.agg ys.toArray)))):Sem Value).run P w=_
    simp[heq]
  ·cases h
 ·cases h
def ah8 {c a b r:I}{W6 sJ qs:Value}(Z:aN w ax B c W6)(a2:aN w ax B a sJ)(U:aN w ax B b qs)(h:CX c a b=some r):
  ∃z,(do pure (if <-asBool W6 then sJ else qs):Sem Value).run P w=.ok z w/\aN w ax B r z:=by
 unfold CX at h
 split at h
 ·rename_i t
  cases Z.yY
  cases t
  ·cases h;exact⟨qs,by simp[asBool],U⟩
  ·cases h;exact⟨sJ,by simp[asBool],a2⟩
 ·cases h
def ah9 {op:UnOp}{m r:I}{v:Value}(hm:aN w ax B m v)(h:Gc op m=some r):∃z,(Op.unary op v).run P w=.ok z w/\aN w ax B r z:=by
 unfold Gc at h
 split at h
 ·cases h;cases hm.vC;exact⟨_,by simp[Op.unary,Op.intArith],.M .int⟩
 ·cases h;cases hm.vC;exact⟨_,by simp[Op.unary,go_sem],.M .int⟩
 ·cases h;cases hm.yY;exact⟨_,by simp[Op.unary],.M .bool⟩
 ·cases h
def aia {k:IntKind}{m r:I}{v:Value}(s t:TypeId)(fU:IntKind)(R:P.underlying s=some (.int fU))(bx:P.underlying t=some (.int k))(hm:aN w ax B m v)(h:Gf k m=some r):
  ∃z,(convert s t v).run P w=.ok z w/\aN w ax B r z:=by
 unfold Gf at h
 split at h
 ·cases h
  cases hm.vC;have L:P.intKind t=k:=by simp[Program.intKind,bx]
  have:=run_convert_int (P:=P) w s t;exact⟨.int k _,by simp[convert,run_underlying R,run_underlying bx,Conv.intToInt],.M .int⟩
 ·cases h
def aib {off:Nat}{m r:I}{v:Value}(t:TypeId)(f:Nat)(c5:Array Field)(fd:Field)(s:Nat)(hu:P.underlying t=some (.struct c5))(ag:c5[f]?=some fd)(R:e9 P fd.type=some s)(ak:0<s)
  (a0:fd.offset=off) (hm:aN w ax B m v) (h:CY off m=some r):∃z,(Instr.fieldAt t v f).run P w=.ok z w/\aN w ax B r z:=by
 have a6:¬ s=0:=by omega
 have run:∀b o,(Instr.fieldAt t (.pointer (some ⟨b,o,none⟩)) f).run P w=.ok (.pointer (some ⟨b,o+off,none⟩)) w:=by
  intro b o;simp[Instr.fieldAt,run_underlying hu,ag,Instr.sureAddr,fieldPlace,rl R,a6,xi,a0]
 unfold CY at h
 split at h
 ·cases h;rename_i k g o
  cases hm with
  |ptr he aC ai =>
   obtain⟨b,rfl,U⟩:=ai;exact⟨_,run b o,.ptr he aC ⟨b,rfl,U⟩⟩
 ·rename_i ds
  split at h
  ·rename_i ad
   cases h
   cases hm with
   |M ae =>
    cases ae with
    | @ptr cs b o val U eE Z ae =>
     refine⟨_,run b o,.M (.ptr (λi=>val (off+i)) U eE (λi L=>?_) λi d mb=>ae _ d (by simpa using mb))⟩;have:=Z (off+i) (by simp at L;omega);rwa [<-rk] at this
  ·cases h
 ·cases h
def W7 {t:TypeId}{n off:Nat}{bC:Bool}{cs ms:List I}{vs:List Value}{r:I}(R:e9 P t=some n)(a2:sE P t=some bC)(b0:ck w ax B cs vs)(Z:cut cs off n=some ms)(h:nR bC ms=some r):
  ∃u,(part t vs.toArray off).run P w=.ok u w/\aN w ax B r u:=by
 obtain⟨ad,rfl,aE⟩:=C9 Z;have a5:=(b0.drop off).take n;unfold nR at h
 split at h
 ·rename_i tX
  cases h;subst tX;refine⟨.agg ((vs.drop off).take n).toArray,?_,.agg a5.1 a5.2⟩
  have e:vs.toArray.extract off (off+n)=((vs.drop off).take n).toArray:=by
   simp[List.extract_eq_take_drop]
  simp[part,Lb a2,rl R,e]
 ·rename_i tX;have PZ:bC=false:=by simpa using tX
  subst PZ
  split at h
  ·rename_i m aT
   cases h
   have L:cs[off]?=some r:=by
    have:=congrArg (λl=>l[0]?) aT;simp[xh] at this;exact this.2
   obtain⟨u,hu,aic⟩:=b0.get L;exact⟨u,by simp[part,Lb a2,hu],aic⟩
  ·cases h
def aid {off n:Nat}{bC:Bool}{m r:I}{v:Value}(t:TypeId)(f:Nat)(c5:Array Field)(fd:Field)(hu:P.underlying t=some (.struct c5))(ag:c5[f]?=some fd)(R:e9 P fd.type=some n)
  (a2:sE P fd.type=some bC) (a0:fd.offset=off) (hm:aN w ax B m v) (h:CZ off n bC m=some r):∃z,(Instr.field t v f).run P w=.ok z w/\aN w ax B r z:=by
 subst a0
 have go:∀(cs:List I) (vs:List Value),ck w ax B cs vs->(cut cs fd.offset n).bind (nR bC)=some r->∃z,(Instr.field t (.agg vs.toArray) f).run P w=.ok z w/\aN w ax B r z:=by
  intro cs vs b0 a1;simp only[dd] at a1;obtain⟨ms,E,G⟩:=a1;obtain⟨u,ab,aM⟩:=W7 (P:=P) R a2 b0 E G;exact⟨u,by simp[Instr.field,run_underlying hu,ag,asAgg,ab],aM⟩
 unfold CZ at h
 split at h
 ·cases hm with
  |agg ad ae=>exact go _ _ ⟨ad,ae⟩ h
 ·cases hm with
  |M ae =>
   cases ae with
   |agg ad ae=>exact go _ _ (ck.M ad ae) h
 ·cases h
def AG {m:I}{n:Nat}{v:Value}(h:idx m=some n)(ai:aN w ax B m v):∃k,v=.int k (n:Int):=by
 unfold idx at h
 split at h
 ·rename_i k i
  split at h
  ·rename_i ak
   cases h
   cases ai.vC;exact⟨k,by rw[Int.toNat_of_nonneg ak]⟩
  ·cases h
 ·cases h
def CQ.at_ {e:gU}{g sz off len:Nat}{v:Value}(h:CQ e g sz off len v)(ak:0<len):∃b cap,v=.slice (some ⟨b,off,none⟩) len cap/\len<=cap/\cap<=maxLen/\(g=e.g->e.cW=some b/\off+cap*sz<=e.size/\e.mp=false):=by
 obtain⟨a,cap,rfl,G,ab,aM⟩:=h;rcases aM with aM|⟨b,rfl,bl⟩
 ·omega
 ·exact⟨b,cap,rfl,G,ab,bl⟩
def aie {es:List (List Data)}{sz:Nat}(dz:∀e∈es,D e=sz):∀(n i:Nat) (e:List Data),es[n]?=some e->i<sz->es.flatten[n*sz+i]?=e[i]?:=by
 induction es with
 |nil=>intro n i e h;simp at h
 |cons a r aD =>
  intro n i e h L;have a2:=dz a (by simp)
  cases n with
  |zero =>
   simp at h;subst h;rw[k9,Da (by omega)];simp
  |succ n =>
   rw[k9,AH (by rw[a2,tZ];omega)];have:=aD (λx J=>dz x (by simp[J])) n i e (by simpa using h) L;rw[<-this,a2]
   congr 1
   rw[tZ];omega
def aif {sz n:Nat}{m r:I}{v:Value}{k:IntKind}(t e:TypeId)(hu:P.underlying t=some (.slice e))(R:e9 P e=some sz)(hm:aN w ax B m v)(h:Gh sz n m=some r):
  ∃z,(Instr.indexAt t v (.int k (n:Int))).run P w=.ok z w/\aN w ax B r z:=by
 have run:∀b off len cap,n<len->(Instr.indexAt t (.slice (some ⟨b,off,none⟩) len cap) (.int k (n:Int))).run P w=.ok (.pointer (some ⟨b,off+n*sz,none⟩)) w:=by
  intro b off len cap av;simp[Instr.indexAt,run_underlying hu,asIntOf,av,rl R,xi]
 unfold Gh at h
 split at h
 ·split at h
  ·rename_i ad;obtain⟨av,rfl⟩:=ad
   cases h
   cases hm with
   |ref he aC ai =>
    obtain⟨b,cap,rfl,E,G,ab⟩:=ai.at_ (by omega);exact⟨_,run _ _ _ _ av,.ptr he aC ⟨b,rfl,λh=>⟨(ab h).1,(ab h).2.2⟩⟩⟩
  ·cases h
 ·rename_i es
  split at h
  ·rename_i el jM
   split at h
   ·rename_i hle
    cases h
    cases hm with
    |M ae =>
     have av:n<D es:=(dh.1 jM).1
     cases ae with
     |j6=>simp at av
     | @ay es b off c dC val ad Db U eE dz Z ae =>
      have GF:dC=sz:=by rw[<-hle];exact (dz _ (dM jM)).symm
      subst GF
      have hmul:n*dC+dC<=D es*dC:=by
       have:(n+1)*dC<=D es*dC:=mJ _ av;rwa [oF,tL] at this
      refine⟨_,run _ _ _ _ av,.M (.ptr (λi=>val (n*dC+i)) U eE (λi L=>?_) λi d mb=>?_)⟩
      ·have:=Z (n*dC+i) (by omega);rwa [<-rk] at this
      ·refine ae _ d ?_;rw[aie dz n i el jM (by have:=(dh.1 mb).1;omega)];exact mb
   ·cases h
  ·cases h
 ·cases h
def aih {len sz n:Nat}{m r:I}{v:Value}{k:IntKind}(t e:TypeId)(hu:P.underlying t=some (.array len e))(R:e9 P e=some sz)(hm:aN w ax B m v)(h:Gi len sz n m=some r):
  ∃z,(Instr.indexAt t v (.int k (n:Int))).run P w=.ok z w/\aN w ax B r z:=by
 have run:∀b off,n<len->(Instr.indexAt t (.pointer (some ⟨b,off,none⟩)) (.int k (n:Int))).run P w=.ok (.pointer (some ⟨b,off+n*sz,none⟩)) w:=by
  intro b off av;simp[Instr.indexAt,run_underlying hu,asIntOf,Instr.sureAddr,av,rl R,xi]
 unfold Gi at h
 split at h
 ·split at h
  ·rename_i av
   cases h
   cases hm with
   |ptr he aC ai =>
    obtain⟨b,rfl,U⟩:=ai;exact⟨_,run _ _ av,.ptr he aC ⟨b,rfl,U⟩⟩
  ·cases h
 ·rename_i ds
  split at h
  ·rename_i ad;obtain⟨av,hle⟩:=ad
   cases h
   cases hm with
   |M ae =>
    cases ae with
    | @ptr cs b o val U eE Z ae =>
     refine⟨_,run _ _ av,.M (.ptr (λi=>val (n*sz+i)) U eE (λi L=>?_) λi d mb=>ae _ d (by simpa using mb))⟩;have:=Z (n*sz+i) (by simp at L;omega);rwa [<-rk] at this
  ·cases h
 ·cases h
def aii {n:Nat}{m r:I}{v:Value}{k:IntKind}(t:TypeId)(hu:P.underlying t=some .string)(hm:aN w ax B m v)(h:Gj n m=some r):
  ∃z,(Instr.index t v (.int k (n:Int))).run P w=.ok z w/\aN w ax B r z:=by
 unfold Gj at h
 split at h
 ·rename_i s;simp only[cJ] at h;obtain⟨b,U,rfl⟩:=h
  cases hm.yZ;have av:n<D s:=(dh.1 U).1
  have e:(ByteArray.mk s.toArray)[n]?=some b:=by
   rw[ByteArray.getElem?_lt' _ _ (by simpa [ByteArray.size] using av)];have:=(dh.1 U).2;simp only[bF];rw[<-this]
   rfl
  exact⟨.int .u8 b.toNat,by simp[Instr.index,run_underlying hu,asIntOf,e],.M .int⟩
 ·cases h
def aij {i:Nat}{m r:I}{v:Value}(hm:aN w ax B m v)(h:Gn i m=some r):∃z,(Instr.extract v i).run P w=.ok z w/\aN w ax B r z:=by
 unfold Gn at h
 split at h
 ·cases hm with
  |dc ad ae =>
   obtain⟨u,hu,Q⟩:=ck.get ⟨ad,ae⟩ h;exact⟨u,by simp[Instr.extract,hu],Q⟩
 ·simp only[cJ] at h;obtain⟨d,kL,rfl⟩:=h
  cases hm with
  |M ae =>
   cases ae with
   |dc ad ae =>
    obtain⟨u,hu,Q⟩:=ck.get (ck.M ad ae) (i:=i) (m:=.M d) (by simp[kL]);exact⟨u,by simp[Instr.extract,hu],Q⟩
 ·cases h
def aik {m:I}{n:Nat}{v:Value}(t ty e:TypeId)(bx:P.underlying t=some (.slice e))(hm:aN w ax B m v)(h:sB m=some n):
  (Builtin.len_ #[t] ty #[v]).run P w=.ok (.int .i64 n) w:=by
 have run:∀a c,(Builtin.len_ #[t] ty #[.slice a n c]).run P w=.ok (.int .i64 n) w:=λa c=>by
  simp[Builtin.len_,run_underlying bx,goInt]
 unfold sB at h
 split at h<;>cases h
 ·cases hm with
  |M ae =>
   cases ae with
   |j6=>exact run _ _
   |ay=>exact run _ _
 ·cases hm with
  |nil=>exact run _ _
 ·cases hm with
  |ref he aC ai=>obtain⟨a,cap,rfl,_⟩:=ai;exact run _ _
def ail {m:I}{n:Nat}{v:Value}(t ty:TypeId)(bx:P.underlying t=some .string)(hm:aN w ax B m v)(h:xa m=some n):
  (Builtin.len_ #[t] ty #[v]).run P w=.ok (.int .i64 n) w:=by
 unfold xa at h
 split at h<;>cases h
 rename_i s
 cases hm.yZ;have e:(ByteArray.mk s.toArray).size=D s:=by simp[ByteArray.size]
 simp[Builtin.len_,run_underlying bx,goInt,e]
def W8 {jb:Bool}{m n r:I}{u v:Value}(rm:Array TypeId)(t:TypeId)(hm:aN w ax B m u)(aE:aN w ax B n v)(h:Gp jb m n=some r):
  ∃z,(if jb=true then Builtin.max_ rm t #[u,v] else Builtin.min_ rm t #[u,v]).run P w=.ok z w/\aN w ax B r z:=by
 unfold Gp at h
 split at h
 ·split at h
  ·rename_i O;subst O
   cases h
   cases hm.vC
   cases aE.vC
   cases jb
   ·exact⟨_,by simp[run_min_int2],.M .int⟩
   ·exact⟨_,by simp[run_max_int2],.M .int⟩
  ·cases h
 ·cases h
def aim {m r:I}{v:Value}(hm:aN w ax B m v)(h:Gg m=some r):(∃b off,v=.pointer (some ⟨b,off,none⟩))/\aN w ax B r v:=by
 unfold Gg at h
 split at h
 ·cases h;refine⟨?_,hm⟩
  cases hm with
  |ptr he aC ai=>obtain⟨b,rfl,_⟩:=ai;exact⟨_,_,rfl⟩
 ·cases h;refine⟨?_,hm⟩
  cases hm with
  |M ae=>cases ae;exact⟨_,_,rfl⟩
 ·cases h
def Dc {x:I}{n y:Nat}{v:Value}(code:BoundsCode)(J:idx x=some n)(ai:aN w ax B x v)(aE:n<=y):(Instr.sliceBound v y code).run P w=.ok n w:=by
 obtain⟨k,rfl⟩:=AG J ai
 simpa using run_sliceBound (P:=P) w k (n:Int) y code (by omega) (by omega)
def pE (w:World)(ax:Nat->Prop)(B:cB):Option I->Option Value->Prop
 |none,none=>True
 |some m,some v=>aN w ax B m v
 |_,_=>False
def P0 {len cap l h:Nat}{bQ L:Option I}{jN jO:Option Value}(P4:Bool)(fG:iI 0 bQ=some l)(jg:iI len L=some h)
  (lg:pE w ax B bQ jN) (kn:pE w ax B L jO) (ad:l<=h) (a1:h<=cap):(Instr.sliceBounds P4 len cap jN jO none).run P w=.ok (l,h,cap) w:=by
 unfold Instr.sliceBounds
 cases bQ with
 |none =>
  cases jN with
  |some v=>exact lg.elim
  |none =>
   simp[iI] at fG;subst fG
   cases L with
   |none =>
    cases jO with
    |some v=>exact kn.elim
    |none=>simp[iI] at jg;subst jg;simp
   |some m =>
    cases jO with
    |none=>exact kn.elim
    |some v =>
     have az:=λcode=>Dc (P:=P) (y:=cap) code jg kn a1
     cases P4<;>simp[az]
 |some ml =>
  cases jN with
  |none=>exact lg.elim
  |some aX =>
   have aK:=λcode=>Dc (P:=P) (y:=h) code fG lg ad
   cases L with
   |none =>
    cases jO with
    |some v=>exact kn.elim
    |none=>simp[iI] at jg;subst jg;simp[aK]
   |some m =>
    cases jO with
    |none=>exact kn.elim
    |some v =>
     have az:=λcode=>Dc (P:=P) (y:=cap) code jg kn a1
     cases P4<;>simp[aK,az]
def ain {len cap l h m:Nat}{bQ:Option I}{L jb:I}{jN:Option Value}{jO xk:Value}(fG:iI 0 bQ=some l)(jg:idx L=some h)(gm:idx jb=some m)
  (lg:pE w ax B bQ jN) (kn:aN w ax B L jO) (Dd:aN w ax B jb xk) (ad:l<=h) (a1:h<=m) (hm:m<=cap):(Instr.sliceBounds true len cap jN (some jO) (some xk)).run P w=.ok (l,h,m) w:=by
 have eO:=Dc (P:=P) (y:=cap) .slice3Acap gm Dd hm;have az:=Dc (P:=P) (y:=m) .slice3B jg kn a1;unfold Instr.sliceBounds
 cases bQ with
 |none =>
  cases jN with
  |some v=>exact lg.elim
  |none =>
   simp[iI] at fG;subst fG;simp[eO,az]
 |some ml =>
  cases jN with
  |none=>exact lg.elim
  |some aX =>
   have aK:=Dc (P:=P) (y:=h) .slice3C fG lg ad;simp[eO,az,aK]
def Lc {m:I}{n:Nat}{v:Value}(hm:aN w ax B m v)(h:sB m=some n):∃a c,v=.slice a n c/\n<=c:=by
 unfold sB at h
 split at h<;>cases h
 ·cases hm with
  |M ae =>
   cases ae with
   |j6=>exact⟨_,_,rfl,by simp⟩
   |ay val ad=>exact⟨_,_,rfl,ad⟩
 ·cases hm with
  |nil=>exact⟨_,_,rfl,by simp⟩
 ·cases hm with
  |ref he aC ai=>obtain⟨a,cap,rfl,E,_⟩:=ai;exact⟨_,_,rfl,E⟩
def W9 {t e:TypeId}{sz l h kI:Nat}{a:Option Addr}{len cap:Nat}{jN jO xk:Option Value}(bx:P.underlying t=some (.slice e))(R:e9 P e=some sz)
  (U:(Instr.sliceBounds true len cap jN jO xk).run P w=.ok (l,h,kI) w) :
  (Instr.sliceAt t (.slice a len cap) jN jO xk).run P w=.ok (.slice (if kI=l then a else a.map (·.add (l*sz))) (h-l) (kI-l)) w:=by
 simp[Instr.sliceAt,Instr.slice,run_underlying bx,U,rl R]
def aio {es:List (List Data)}{sz:Nat}(dz:∀e∈es,D e=sz)(l:Nat):(es.drop l).flatten=es.flatten.drop (l*sz):=by
 induction es generalizing l with
 |nil=>simp
 |cons a r aD =>
  cases l with
  |zero=>simp
  |succ l =>
   have a2:=dz a (by simp);rw[List.drop_succ_cons,aD (λx J=>dz x (by simp[J])) l,k9,List.drop_append,a2];have E:a.drop ((l+1)*sz)=[]:=mH (by rw[a2,tZ];omega);rw[E,List.nil_append]
   congr 1
   rw[tZ];omega
def aip {es:List (List Data)}{sz:Nat}(dz:∀e∈es,D e=sz)(l:Nat):(es.take l).flatten=es.flatten.take (l*sz):=by
 induction es generalizing l with
 |nil=>simp
 |cons a r aD =>
  cases l with
  |zero=>simp
  |succ l =>
   have a2:=dz a (by simp);rw[List.take_succ_cons,k9,aD (λx J=>dz x (by simp[J])) l,k9,Xa,a2];have E:a.take ((l+1)*sz)=a:=dx (by rw[a2,tZ];omega);rw[E]
   congr 2
   rw[tZ];omega
def Xb {es:List (List Data)}{a:Option Addr}{len c sz l h cc:Nat}(ae:Den w ax (.ay es) (.slice a len c))(ad:l<=h)(a1:h<=D es)(dz:0<(D es)->∀e∈es,D e=sz)(Z:h-l<=cc):
  l=h\/Den w ax (.ay ((es.take h).drop l)) (.slice (a.map (·.add (l*sz))) (h-l) cc):=by
 rcases Ld ad with rfl|av
 ·exact .inl rfl
 ·refine .inr ?_
  cases ae with
  |j6=>simp at a1;omega
  | @ay es b off c dC val sI hm U eE hsz' sK y0 =>
   have hr:0<D es:=by omega
   have GF:dC=sz:=by
    have ak:=iJ (l:=es) (n:=0) hr;rw[<-hsz' _ ak,dz hr _ ak]
   subst GF;have hlen:((es.take h).drop l).length=h-l:=by simp;omega
   have hmul:l*dC+(h-l)*dC<=D es*dC:=by
    rw[<-oF];exact mJ _ (by omega)
   have:=Den.ay (w:=w) (ax:=ax) (es:=(es.take h).drop l) (b:=b) (off:=off+l*dC) (c:=cc) (sz:=dC) (λi=>val (l*dC+i)) (by rw[hlen];exact Z) (by rw[hlen];omega) U eE
    (λe he=>hsz' e (AI (List.mem_of_mem_drop he)))
    (λi L=>by
     rw[hlen] at L;have:=sK (l*dC+i) (by omega);rwa [<-rk] at this)
    (λi d mb=>by
     refine y0 _ d ?_;rw[aio (λe he=>hsz' e (AI he)) l,aip hsz' h] at mb;rw[sL,xh] at mb
     split at mb
     ·exact mb
     ·cases mb)
   rw[hlen] at this
   simpa [xi] using this
end
section
variable {P:Program} {w:World} {ax:Nat->Prop} {B:cB}
def P5 {sz:Nat}{es:List (List Data)}(h:l9 sz es=true):∀e∈es,D e=sz:=λe he=>by
 simpa using jP.1 h e he
def aiq {t e:TypeId}{sz l h len:Nat}{m r:I}{v:Value}{jN jO:Option Value}{bQ L:Option I}(bx:P.underlying t=some (.slice e))(R:e9 P e=some sz)
  (fG:iI 0 bQ=some l) (hlen:sB m=some len) (jg:iI len L=some h) (lg:pE w ax B bQ jN) (kn:pE w ax B L jO) (hm:aN w ax B m v) (Q:Gk sz l h m=some r) :
  ∃z,(Instr.sliceAt t v jN jO none).run P w=.ok z w/\aN w ax B r z:=by
 obtain⟨a,cap,rfl,De⟩:=Lc hm hlen
 have run:l<=h->h<=len->(Instr.sliceAt t (.slice a len cap) jN jO none).run P w=.ok (.slice (if cap=l then a else a.map (·.add (l*sz))) (h-l) (cap-l)) w:=λE G =>
  W9 bx R (P0 true fG jg lg kn E (by omega))
 unfold Gk at Q
 split at Q
 ·rename_i es
  split at Q
  ·rename_i Z;obtain⟨E,G,ab⟩:=Z
   cases Q;simp only[sB,bF] at hlen;subst hlen;refine⟨_,run E G,.M ?_⟩
   cases hm with
   |M ae =>
    rcases Xb (sz:=sz) ae E G (λ_=>P5 ab) (cc:=cap-l) (by omega) with rfl|aF
    ·rw[show ((es.take l).drop l)=[] from by simp]
     rw[lS];exact .j6
    ·rcases Ld E with rfl|av
     ·rw[show ((es.take l).drop l)=[] from by simp]
      rw[lS];exact .j6
     ·rw[ar (by omega)];exact aF
  ·cases Q
 ·split at Q
  ·rename_i Z;obtain⟨rfl,rfl⟩:=Z
   cases Q
   cases hm with
   |nil=>exact⟨_,run (by omega) (by omega),by simpa using aN.nil⟩
  ·cases Q
 ·split at Q
  ·rename_i k g dC off air Z;obtain⟨rfl,E,G⟩:=Z
   cases Q;simp only[sB,bF] at hlen;subst hlen
   cases hm with
   |ref he aC ai =>
    refine⟨_,run E G,.ref he aC ?_⟩;obtain⟨cl,AJ,sM,mK,avF,ais⟩:=ai
    injection sM with aK az ee
    subst aK;subst ee
    refine⟨_,cap-l,rfl,by omega,by omega,?_⟩
    rcases jh (cap-l) with ak|ak
    ·exact .inl ak
    ·refine .inr ?_;rcases ais with aM|⟨b,rfl,bl⟩
     ·omega
     ·refine⟨b,by rw[ar (by omega)];simp[xi],λbM=>?_⟩
      obtain⟨bz,bP⟩:=bl bM;refine⟨bz,?_⟩;rw[rk,<-oF];rwa [show l+(cap-l)=cap from by omega]
  ·cases Q
 ·cases Q
def ait {t e:TypeId}{sz l h kI:Nat}{m r:I}{v:Value}{jN:Option Value}{jO xk:Value}{bQ:Option I}{L jb:I}(bx:P.underlying t=some (.slice e))(R:e9 P e=some sz)
  (fG:iI 0 bQ=some l) (jg:idx L=some h) (gm:idx jb=some kI) (lg:pE w ax B bQ jN) (kn:aN w ax B L jO) (Dd:aN w ax B jb xk) (hm:aN w ax B m v) (Q:Gl sz l h kI m=some r) :
  ∃z,(Instr.sliceAt t v jN (some jO) (some xk)).run P w=.ok z w/\aN w ax B r z:=by
 have run:∀a len cap,l<=h->h<=kI->kI<=len->len<=cap->(Instr.sliceAt t (.slice a len cap) jN (some jO) (some xk)).run P w=.ok (.slice (if kI=l then a else a.map (·.add (l*sz))) (h-l) (kI-l)) w :=
  λa len cap E G ab aM=>W9 bx R (ain fG jg gm lg kn Dd E G (by omega))
 unfold Gl at Q
 split at Q
 ·rename_i es
  split at Q
  ·rename_i Z;obtain⟨E,G,ab,aM⟩:=Z;obtain⟨a,cap,rfl,De⟩:=Lc hm (n:=D es) rfl;refine⟨_,run a _ cap E G ab De,?_⟩
   split at Q
   ·rename_i ua
    cases Q;subst ua;have:h=kI:=by omega
    subst this
    simpa using aN.nil
   ·rename_i ua
    cases Q;rw[ar ua]
    cases hm with
    |M ae =>
     refine .M ?_;rcases Ld E with rfl|av
     ·rw[show ((es.take l).drop l)=[] from by simp]
      rw[lS];exact .j6
     ·rcases Xb (sz:=sz) ae E (by omega) (λ_=>P5 aM) (cc:=kI-l) (by omega) with ak|aF
      ·omega
      ·exact aF
  ·cases Q
 ·split at Q
  ·rename_i Z;obtain⟨rfl,rfl,rfl⟩:=Z
   cases Q;obtain⟨a,cap,rfl,De⟩:=Lc hm (n:=0) rfl;exact⟨_,run a _ cap (by omega) (by omega) (by omega) De,by simpa using aN.nil⟩
  ·cases Q
 ·rename_i k g dC off len
  split at Q
  ·rename_i Z;obtain⟨E,G,ab,rfl⟩:=Z
   cases Q;obtain⟨a,cap,rfl,De⟩:=Lc hm (n:=len) rfl;have:h=kI:=by omega
   subst this;exact⟨_,run a _ cap (by omega) (by omega) (by omega) De,by simpa using aN.nil⟩
  ·cases Q
 ·cases Q
def aiu {t:TypeId}{l h len:Nat}{m r:I}{v:Value}{jN jO:Option Value}{bQ L:Option I}(bx:P.underlying t=some .string)
  (fG:iI 0 bQ=some l) (hlen:xa m=some len) (jg:iI len L=some h) (lg:pE w ax B bQ jN) (kn:pE w ax B L jO) (hm:aN w ax B m v) (Q:Gm l h m=some r) :
  ∃z,(Instr.sliceAt t v jN jO none).run P w=.ok z w/\aN w ax B r z:=by
 unfold Gm at Q
 split at Q
 ·rename_i s
  split at Q
  ·rename_i Z;obtain⟨E,G⟩:=Z
   cases Q;simp only[xa,bF] at hlen;subst hlen
   cases hm.yZ;have e:(ByteArray.mk s.toArray).size=D s:=by simp[ByteArray.size]
   have U:=P0 (P:=P) (w:=w) (ax:=ax) (B:=B) (cap:=D s) false fG jg lg kn E G
   have J:(ByteArray.mk s.toArray).extract l h=⟨((s.take h).drop l).toArray⟩:=by
    rw[ByteArray.extract_mk,Xc]
   exact⟨.string ⟨((s.take h).drop l).toArray⟩,by simp[Instr.sliceAt,Instr.slice,run_underlying bx,e,U,J],.M .str⟩
  ·cases Q
 ·cases Q
def Xd (off:Nat):∀(l:List Value) (k:Nat) (cs:Array Value),off+k+D l<=cs.size ->
  (l.zipIdx k).foldl (λ(cs:Array Value) (p:Value×Nat)=>cs.setIfInBounds (off+p.2) p.1) cs=(cs.toList.take (off+k)++l++cs.toList.drop (off+k+D l)).toArray
 | [],k,cs,_=>by simp
 |a::l,k,cs,h=>by
  rw[List.zipIdx_cons,Xe];have bS:off+k<cs.size:=by simp at h;omega
  rw[Xd off l (k+1) (cs.setIfInBounds (off+k) a) (by simp at h ⊢;omega)];apply Array.ext';simp only[Array.toList_setIfInBounds];have:=list_seg_step cs.toList (off+k) a l (by simp at h ⊢;omega)
  simpa [rk] using this
def Le {place:Nat->Option (Nat×Nat)}{ρ:Operand->Value}{tm:Nat->I}(hρ:∀x y,cu x=some y->aN w ax B (aI tm y) (ρ x)):
  ∀(cD:List (Nat×Operand)) (eM:List (Nat×Nat×bg)) (cs r:List I) (vs:Array Value),partsOf place cD=some eM->ck w ax B cs vs.toList->jw (aI tm) cs eM=some r ->
   ∃mL:Array Value,Instr.fill place vs (cD.map λp=>(p.1,ρ p.2))=some mL/\ck w ax B r mL.toList
 | [],eM,cs,r,vs,aF,b0,h=>by
  simp[partsOf] at aF;subst aF;simp[jw] at h;subst h;exact⟨vs,rfl,b0⟩
 |(i,x)::cD,eM,cs,r,vs,aF,b0,h=>by
  simp only[partsOf,ma,fy,fE,dd,bF] at aF;obtain⟨q,aL,aiv,y1,rfl⟩:=aF;obtain⟨⟨o,s⟩,j9,y,af,rfl⟩:=aL;simp only[jw] at h
  split at h
  ·rename_i Z;obtain⟨ak,E,G⟩:=Z;have iz:=hρ x y af;have aiw:aI tm y ≠ .undef:=λe=>by rw[e] at ak;simp[I.known] at ak
   ·have y2:=ck.PX iz aiw;have dz:(ρ x).cells.size=s:=by have:=y2.1;simp at this;omega
    have GG:o+s<=vs.size:=by have:=b0.1;simp at this;omega
    have h3:=Xd o (ρ x).cells.toList 0 vs (by simp[dz];exact GG);simp only[ko,Array.length_toList] at h3;have P6:=b0.jJ y2 o;obtain⟨mL,ag,c2⟩:=Le hρ cD aiv _ r ((vs.toList.take o++(ρ x).cells.toList++vs.toList.drop (o+(ρ x).cells.size)).toArray) y1 (by simpa using P6) h;refine⟨mL,?_,c2⟩;simp only[List.map_cons,Instr.fill,j9];rw[ar (by simp[dz];omega)]
    have aP:(ρ x).cells.zipIdx.foldl (λcs (p:Value×Nat)=>cs.setIfInBounds (o+p.2) p.1) vs=(vs.toList.take o++(ρ x).cells.toList++vs.toList.drop (o+(ρ x).cells.size)).toArray:=by
     rw[<-Array.foldl_toList,Array.toList_zipIdx];exact h3
    rw[<-ag]
    congr 1
  ·cases h
end
section
variable {P:Program} {A:Nat->Prop} {w:World} {B:cB} {mem:Mem}
def AK {ax:Nat->Prop}{t:TypeId}{z:List I}(h:zeroOf P t=some z):∃i hs,P.info? t=some i/\i.zero=some hs/\ck w ax B z hs.cells.toList:=by
 simp only[zeroOf,dd] at h;obtain⟨hs,⟨i,L,aP⟩,hm⟩:=h;obtain⟨E,G⟩:=mapM_get hm;exact⟨i,hs,L,aP,by simp[E],λj m v aix GH=>PU (G j v m GH aix)⟩
def GI {t:TypeId}{i:TypeInfo}{hs:Value}(L:P.info? t=some i)(aP:i.zero=some hs):(zeroValue t).run P w=.ok hs w:=by
 simp[zeroValue,typeInfo,L,aP]
def Xf {t:TypeId}{i:TypeInfo}{n:Nat}(L:P.info? t=some i)(R:e9 P t=some n):i.size=n:=by
 simpa [e9,L] using R
def Xg {t:TypeId}{i:TypeInfo}{n:Nat}(L:P.info? t=some i)(R:C5 P t=some n):i.bytes=n:=by
 simpa [C5,L] using R
def Lf {z:Array Value}(ak:0<z.size):∀n,((Array.range (n*z.size)).map (z[·%z.size]!)).toList=(bT n z.toList).flatten
 |0=>by simp
 |n+1=>by
  have aD:=Lf ak n;apply ub;intro i
  have aK:∀m i,((Array.range (m*z.size)).map (z[·%z.size]!)).toList[i]?=if i<m*z.size then some (z[i%z.size]!) else none:=by
   intro m i;rw[Array.getElem?_toList,Array.getElem?_map]
   by_cases L:i<m*z.size
   ·rw[aq L,Array.getElem?_range];simp[L]
   ·rw[ar L,Array.getElem?_range];simp[L]
  rw[aK,List.replicate_succ',List.flatten_append,C8,<-aD];have el:((Array.range (n*z.size)).map (z[·%z.size]!)).toList.length=n*z.size:=by simp
  rw[el];have hmul:(n+1)*z.size=n*z.size+z.size:=by rw[oF,tL]
  by_cases L:i<n*z.size
  ·rw[aq L,aq (by omega),aK,aq L]
  ·rw[ar L]
   by_cases dS:i<(n+1)*z.size
   ·rw[aq dS];have av:i-n*z.size<z.size:=by omega
    have P7:i%z.size=i-n*z.size:=by
     have e:i=(i-n*z.size)+z.size*n:=by have:=Nat.mul_comm n z.size;omega
     have az:((i-n*z.size)+z.size*n)%z.size=i-n*z.size:=by rw[Nat.add_mul_mod_self_left,Nat.mod_eq_of_lt av]
     rwa [<-e] at az
    rw[P7];simp[av]
   ·rw[ar dS]
    symm
    rw[mI];simp;omega
def ck.replicate {ax:Nat->Prop}{z:List I}{Xh:List Value}(h:ck w ax B z Xh):∀n,ck w ax B (bT n z).flatten (bT n Xh).flatten
 |0=>by simpa using ck.nil
 |n+1=>by
  rw[pF,k9,pF,k9];exact h.append (ck.replicate h n)
def ck.ju {cs:List I}{vs:List Value}{aj:World}{aB:cB}(t:Trans A w B aj aB)(h:ck w (bb A B) B cs vs):ck aj (bb A aB) aB cs vs :=
 ⟨h.1,λi m v E G=>(h.2 i m v E G).ju t⟩
def GJ {cs:List I}(a4:dj A w B mem)(w1:World)(f:Fr (λ_=>False) w w1)(aP:w1.heap.size=w.heap.size)(k:Key)(vs:Array Value)(T:TypeId)(ad:(D cs)<=vs.size)
  (b0:ck w (bb A B) B cs (vs.toList.take (D cs))):cT A w B (w1.alloc (.cells vs T)) (eu B k ⟨bp mem k,some w.heap.size,vs.size,false⟩) (aR mem k (bp mem k) cs) :=
 cT.alloc a4 w1 f aP k vs T ad λi m hm=>by
  obtain⟨v,ai,Q⟩:=b0.get hm;rw[xh] at ai
  split at ai
  ·exact⟨v,by simpa using ai,Q⟩
  ·cases ai
def aiy {t:TypeId}{z:List I}(k:Key)(a4:dj A w B mem)(aP:zeroOf P t=some z):
  ∃v aj aB,(Instr.alloc t true (.tuple #[])).run P w=.ok v aj/\cT A w B aj aB (aR mem k (bp mem k) z)/\aN aj (bb A aB) aB (.ptr k (bp mem k) 0) v:=by
 obtain⟨i,hs,L,nm,b0⟩:=AK (P:=P) (w:=w) (B:=B) (ax:=bb A B) aP;have ad:(D z)=hs.cells.size:=by have:=b0.1;simp at this;omega
 refine⟨.pointer (some ⟨w.heap.size,0,none⟩),w.alloc (.cells hs.cells t),_,?_,GJ a4 w (Fr.refl _ _) rfl k hs.cells t (by omega) (by rw[dx (by simp;omega)];exact b0),?_⟩
 ·simp[Instr.alloc,GI L nm,newVar,newRow]
 ·exact .ptr (eX _ _ _) (bI _) ⟨_,rfl,λ_=>⟨rfl,rfl⟩⟩
def aiz {t:TypeId}{m:I}{u:Value}(k:Key)(a4:dj A w B mem)(hu:aN w (bb A B) B m u)(O:m.known=true):
  ∃v aj aB,(Instr.box t u).run P w=.ok v aj/\cT A w B aj aB (aR mem k (bp mem k) m.cells)/\aN aj (bb A aB) aB (.ptr k (bp mem k) 0) v:=by
 have b0:=ck.PX hu (λe=>by rw[e] at O;simp[I.known] at O);have ad:(D m.cells)=u.cells.size:=by have:=b0.1;simp at this;omega
 refine⟨.pointer (some ⟨w.heap.size,0,none⟩),w.alloc (.cells u.cells t),_,?_,GJ a4 w (Fr.refl _ _) rfl k u.cells t (by omega) (by rw[dx (by simp;omega)];exact b0),?_⟩
 ·simp[Instr.box,newVar,newRow]
 ·exact .ptr (eX _ _ _) (bI _) ⟨_,rfl,λ_=>⟨rfl,rfl⟩⟩
def aiA {t e:TypeId}{z:List I}{bytes n c:Nat}{aU bO:I}{mc iA:Value}{r:I}{h4:Option (Key×Nat×List I)}(k:Key)(a4:dj A w B mem)(bx:P.underlying t=some (.slice e))(aP:zeroOf P e=some z)(R:e9 P e=some (D z))
  (U:C5 P e=some bytes) (E:idx aU=some n) (G:idx bO=some c) (gf:aN w (bb A B) B aU mc) (gV:aN w (bb A B) B bO iA) (ak:0<D z) (h:C1 k (bp mem k) z bytes n c=some (r,h4)) :
  ∃v aj aB,(Instr.makeSlice t mc iA).run P w=.ok v aj/\cT A w B aj aB (fB mem h4)/\aN aj (bb A aB) aB r v:=by
 unfold C1 at h
 split at h
 ·rename_i Z;obtain⟨rfl,Df,uc⟩:=Z
  cases h;obtain⟨cm,rfl⟩:=AG E gf;obtain⟨dX,rfl⟩:=AG G gV;obtain⟨i,hs,L,nm,b0⟩:=AK (P:=P) (w:=w) (B:=B) (ax:=bb A B) aP;have ad:(D z)=hs.cells.size:=by have:=b0.1;simp at this;omega
  have dz:=Xf L R;have GK:=Xg L U
  have dY:=run_make (P:=P) w t e i hs bx L nm cm dX (n:Int) (n:Int) (by omega) (by omega) (by
   have:((i.bytes*n:Nat):Int)<=281474976710656:=by rw[GK];omega
   rwa [Int.natCast_mul] at this) (by unfold maxLen at uc;omega)
  simp only[Int.toNat_natCast] at dY
  have Xi:(madeCells hs.cells (n*i.size)).toList=(bT n hs.cells.toList).flatten:=by
   rw[dz,ad];exact Lf (by omega) n
  have AL:(madeCells hs.cells (n*i.size)).size=n*D z:=by rw[size_madeCells,dz]
  have oJ:=b0.replicate (n:=n)
  have hlen:(bT n z).flatten.length=n*D z:=by
   have:=oJ.1;rw[<-this,<-Xi,Array.length_toList,AL]
  refine⟨_,_,_,dY,GJ a4 w (Fr.refl _ _) rfl k _ e (by rw[AL,hlen];exact bI _) ?_,?_⟩
  ·rw[dx (by rw[Array.length_toList,AL,hlen];exact bI _),Xi];exact oJ
  ·refine .ref (eX _ _ _) (bI _) ⟨_,n,rfl,bI _,uc,.inr ⟨_,rfl,λ_=>⟨rfl,?_,rfl⟩⟩⟩;simp only[kM];rw[AL];exact bI _
 ·cases h
def P8 (a4:dj A w B mem){k:Key}{g:Nat}{cs new:List I}{e:gU}{b:Nat}{vs:Array Value}{T:TypeId}{vals:List Value}{off:Nat}(O:mem k=some (g,cs))(he:B k=some e)(U:e.cW=some b)(gL:e.mp=false)
  (a1:w.heap[b]?=some (.cells vs T (0,0))) (dz:vs.size=e.size) (ad:(D cs)<=vs.size) (b0:ck w (bb A B) B cs (vs.toList.take (D cs))) (bM:e.g=g) (P9:off+D new<=D cs) (xl:ck w (bb A B) B new vals) :
  cT A w B (w.setRow b (vs.toList.take off++vals++vs.toList.drop (off+D vals)).toArray) B (aR mem k g (jJ cs off new)):=by
 have xm:(D vals)=D new:=xl.1
 have P6:ck w (bb A B) B (jJ cs off new) ((vs.toList.take off++vals++vs.toList.drop (off+D vals)).take (D cs)):=by
  have E:=b0.jJ xl off
  have aK:(vs.toList.take (D cs)).take off++vals++(vs.toList.take (D cs)).drop (off+D vals)=(vs.toList.take off++vals++vs.toList.drop (off+D vals)).take (D cs):=by
   have nU:(D vs.toList)=vs.size:=Array.length_toList;rw[List.take_take,mM (by omega),Xc,Xa,la,hg,nU,mM (a:=off) (b:=vs.size) (by omega)];rw[dx (l:=vs.toList.take off++vals) (by rw[la,hg,nU];omega)]
  rwa [aK] at E
 have Lg:(jJ cs off new).length=D cs:=by unfold jJ;simp;omega
 have heq:eu B k e=B:=by
  funext j
  unfold eu
  split
  ·rename_i aa;rw[aa,he]
  ·rfl
 have f:Fr (λb=>∃e,B k=some e/\e.cW=some b) w (w.setRow b (vs.toList.take off++vals++vs.toList.drop (off+D vals)).toArray):=by
  refine⟨rfl,rfl,rfl,by simp,λj aa a0=>?_⟩
  exact setRow_other w b j _ (λDg=>a0 ⟨e,he,by rw[U,Dg]⟩)
 have:=cT.change (k:=k) (e':=e) (cs:=jJ cs off new) a4 f (λaz eb => .inl (by rw[he] at eb;exact mN eb)) (λef dr => .inr ⟨e,he,dr⟩) (λaE=>by rw[U] at aE;cases aE) (λef dr=>by
  rw[U] at dr
  cases dr;refine⟨gL,_,T,setRow_heap w b vs _ T (0,0) a1,by simp;omega,by rw[Lg];simp;omega,λi m hm=>?_⟩
  obtain⟨v,ai,Q⟩:=P6.get hm;rw[xh] at ai
  split at ai
  ·exact⟨v,by simpa using ai,Q⟩
  ·cases ai)
 rw[heq,bM] at this;exact this
def aiB {t:TypeId}{n:Nat}{aU bO:I}{mc iA:Value}{r:I}{h4:Option (Key×Nat×List I)}(a4:dj A w B mem)(R:e9 P t=some n)(gf:aN w (bb A B) B aU mc)(gV:aN w (bb A B) B bO iA)
  (h:vw mem n aU bO.cells=some (r,h4)):∃aj,(Instr.storeAt t mc iA).run P w=.ok () aj/\cT A w B aj B (fB mem h4)/\r=.no:=by
 cases aU with
 |ptr k g off =>
  simp only[vw] at h;unfold Gs at h
  split at h
  ·rename_i cd cs O
   split at h
   ·rename_i Z;obtain⟨rfl,E,G,ab⟩:=Z
    cases h;obtain⟨e,he,bM,aE,U⟩:=a4.at_ O
    cases gf with
    |ptr dW xf aF =>
     rw[he] at dW
     cases dW;obtain⟨b,rfl,fq⟩:=aF;obtain⟨fq,gL⟩:=fq bM.symm;obtain⟨vs,T,a1,dz,ad,b0⟩:=U b fq gL;have gn:bO ≠ .undef:=λe=>by rw[e] at ab;simp[I.cells,I.one] at ab
     have y2:=ck.PX gV gn
     have aiC:∀v∈iA.cells.toList,v.oneCell'=true:=by
      intro v ai;obtain⟨i,L,iK⟩:=Xj ai;have rn:i<D bO.cells:=by rw[<-y2.1];exact L
      have:=y2.2 i _ _ (bw rn) (bw L);rw[iK] at this;exact W2 this (jP.1 ab _ (iJ rn))
     have avG:iA.cells.size=n:=by have:=y2.1;simp at this;omega
     have c6:=run_storeCells_at P b off T iA.cells.toList 0 vs w a1 (by simp;omega) aiC;simp only[ko] at c6;refine⟨_,?_,P8 a4 O he fq gL a1 dz ad b0 bM (by omega) y2,rfl⟩;have a6:¬ (iA.cells.size≠n):=by omega
     simp only[Instr.storeAt,Instr.sureAddr,storeVar,Sem.run_bind,Sem.run_pure,Result.andThen_ok,rl R];rw[ar a6];exact c6
   ·cases h
  ·cases h
 |_=>simp[vw] at h
end
section
variable {P:Program} {A:Nat->Prop} {w:World} {B:cB} {mem:Mem}
def Lh (sz:Nat):∀(n:Nat) (l:List Data),(chunk sz n l).length=n
 |0,_=>rfl
 |n+1,l=>by simp[chunk,Lh sz n]
def Li (sz:Nat):∀(n:Nat) (l:List Data),D l=n*sz->∀e∈chunk sz n l,D e=sz
 |0,_,_,e,he=>by simp[chunk] at he
 |n+1,l,ad,e,he=>by
  have hmul:(n+1)*sz=n*sz+sz:=by rw[oF,tL]
  simp only[chunk,hq] at he;rcases he with rfl|he
  ·simp;omega
  ·exact Li sz n _ (by simp;omega) e he
def Lj (sz:Nat):∀(n:Nat) (l:List Data),D l=n*sz->(chunk sz n l).flatten=l
 |0,l,ad=>by simp at ad;simp[chunk,ad]
 |n+1,l,ad=>by
  have hmul:(n+1)*sz=n*sz+sz:=by rw[oF,tL]
  simp only[chunk,k9];rw[Lj sz n _ (by simp;omega),List.take_append_drop]
def Qa {ax:Nat->Prop}{m:I}{d:Data}{v:Value}(h:re m=some d)(ai:aN w ax B m v):Den w ax d v:=by
 unfold re at h
 split at h<;>cases h
 ·cases ai with
  |M h=>exact h
 ·cases ai with
  |nil=>exact .j6
def aiD {ds:List Data}{vs:Array Value}{T:TypeId}{n sz:Nat}(a4:dj A w B mem)(aj:World)(hw:aj=w.alloc (.cells vs T))(ad:(D ds)=n*sz)(ai:vs.size=n*sz)(hm:n<=maxLen)
  (ae:∀(i:Nat) (d:Data) (v:Value),ds[i]?=some d->vs[i]?=some v->Den w (bb A B) d v):Den aj (bb A B) (.ay (chunk sz n ds)) (.slice (some ⟨w.heap.size,0,none⟩) n n):=by
 have ok:cT A w B aj B mem:=by rw[hw];exact .still a4 ((Fr.refl _ _).alloc _)
 have dN:=Lh sz n ds
 have h:=Den.ay (w:=aj) (ax:=bb A B) (es:=chunk sz n ds) (b:=w.heap.size) (off:=0) (c:=n) (sz:=sz) (λi=>vs.getD i undef) (by rw[dN];exact bI _) (by rw[dN];exact hm)
  (by rw[hw];simp) (λa0=>by
   rcases a0 with a0|a0
   ·have:=a4.ra a0;omega
   ·have:=a4.lt _ a0;omega) (Li sz n ds ad)
  (λi L=>by
   rw[dN] at L;rw[hw,kM];have:i<vs.size:=by omega
   simp[this])
  (λi d mb=>by
   rw[Lj sz n ds ad] at mb;have av:i<D ds:=(dh.1 mb).1;have kN:i<vs.size:=by omega
   have:vs.getD i undef=vs[i]:=by simp[kN]
   simp only[this];exact (ae i d _ mb (Array.getElem?_eq_getElem kN)).trans ok.h0)
 rw[dN] at h;exact h
def Xk {t e:TypeId}{z r:List I}{sz len:Nat}{cD:List (Nat×Operand)}{eM:List (Nat×Nat×bg)}{ρ:Operand->Value}{tm:Nat->I}{ax:Nat->Prop}(bx:P.underlying t=some (.slice e))(aP:zeroOf P e=some z)
  (R:e9 P e=some sz) (xn:(D z)=sz) (ak:0<sz) (ad:len*sz<=16777216) (aF:partsOf (λi=>some (i*sz,sz)) cD=some eM) (hρ:∀x y,cu x=some y->aN w ax B (aI tm y) (ρ x))
  (h:jw (aI tm) (bT len z).flatten eM=some r) :
  ∃vs:Array Value,(Instr.buildSlice t len (cD.map λp=>(p.1,ρ p.2)).toArray).run P w=.ok (.slice (some ⟨w.heap.size,0,none⟩) len len) (w.alloc (.cells vs e))/\ck w ax B r vs.toList:=by
 obtain⟨i,hs,L,nm,b0⟩:=AK (P:=P) (w:=w) (B:=B) (ax:=ax) aP;have Dh:hs.cells.size=sz:=by have:=b0.1;simp at this;omega
 have vF:=Lf (z:=hs.cells) (by omega) len;rw[Dh] at vF;have oJ:=b0.replicate (n:=len);rw[<-vF] at oJ;obtain⟨mL,ag,Q⟩:=Le (place:=λi=>some (i*sz,sz)) hρ cD eM _ r _ aF oJ h;refine⟨mL,?_,Q⟩;have aE:¬ (len*sz>2^24):=by omega
 by_cases pG:len*sz=0
 ·have eO:((Array.range (len*sz)).map (hs.cells[·%sz]!))=#[]:=by rw[pG];simp[Array.range_zero']
  have Qb:Instr.fill (λi=>some (i*sz,sz)) #[] (cD.map λp=>(p.1,ρ p.2))=some mL:=by rw[<-eO];exact ag
  simp only[Instr.buildSlice,Sem.run_bind,run_underlying bx,Result.andThen_ok,rl R];rw[ar aE];simp only[pG,if_true,Sem.run_bind,Sem.run_pure,Result.andThen_ok];simp[Qb,newRow,Array.range_zero']
 ·simp only[Instr.buildSlice,Sem.run_bind,run_underlying bx,Result.andThen_ok,rl R];rw[ar aE];simp only[pG,if_false,Sem.run_bind,Sem.run_pure,Result.andThen_ok,GI L nm,Dh];simp[ag,newRow]
def aiE {t e:TypeId}{z:List I}{sz len:Nat}{cD:List (Nat×Operand)}{eM:List (Nat×Nat×bg)}{ρ:Operand->Value}{tm:Nat->I}{r:I}(a4:dj A w B mem)(bx:P.underlying t=some (.slice e))(aP:zeroOf P e=some z)
  (R:e9 P e=some sz) (xn:(D z)=sz) (ak:0<sz) (ad:len*sz<=16777216) (aF:partsOf (λi=>some (i*sz,sz)) cD=some eM) (hρ:∀x y,cu x=some y->aN w (bb A B) B (aI tm y) (ρ x))
  (h:Gd (bT len z).flatten sz len (jw (aI tm) (bT len z).flatten eM)=some r) :
  ∃v aj,(Instr.buildSlice t len (cD.map λp=>(p.1,ρ p.2)).toArray).run P w=.ok v aj/\cT A w B aj B mem/\aN aj (bb A B) B r v:=by
 unfold Gd at h
 split at h
 ·rename_i hlen
  cases ag:jw (aI tm) (bT len z).flatten eM with
  |none=>rw[ag] at h;cases h
  |some cs =>
   rw[ag] at h;simp only[cJ] at h;obtain⟨ds,e3,rfl⟩:=h;obtain⟨vs,dY,b0⟩:=Xk (P:=P) (B:=B) bx aP R xn ak ad aF hρ ag;obtain⟨E,G⟩:=mapM_get e3
   have dN:(D cs)=len*sz:=by
    have:∀(eM:List (Nat×Nat×bg)) (a r:List I),jw (aI tm) a eM=some r->(D r)=D a:=by
     intro eM
     induction eM with
     |nil=>intro a r h;simp[jw] at h;rw[h]
     |cons q eM aD =>
      intro a r h;obtain⟨o,s,x⟩:=q;simp only[jw] at h
      split at h
      ·rename_i Z;rw[aD _ _ h];unfold jJ;simp;omega
      ·cases h
    rw[this _ _ _ ag,hlen]
   have aY:vs.size=len*sz:=by have:=b0.1;simp at this;omega
   refine⟨_,_,dY,.still a4 ((Fr.refl _ _).alloc _),.M (aiD a4 _ rfl (by omega) aY ?_ λi d v ae ai=>?_)⟩
   ·have:len<=len*sz:=vG _ ak;unfold maxLen;omega
   ·have av:i<D cs:=by have:=(dh.1 ae).1;omega
    have ew:=bw av;exact Qa (G i _ d ew ae) (b0.2 i _ v ew (by simpa using ai))
 ·cases h
def aiF {t e:TypeId}{z:List I}{sz len:Nat}{cD:List (Nat×Operand)}{eM:List (Nat×Nat×bg)}{ρ:Operand->Value}{tm:Nat->I}{r:I}{h4:Option (Key×Nat×List I)}(k:Key)(a4:dj A w B mem)(bx:P.underlying t=some (.slice e))(aP:zeroOf P e=some z)
  (R:e9 P e=some sz) (xn:(D z)=sz) (ak:0<sz) (ad:len*sz<=16777216) (aF:partsOf (λi=>some (i*sz,sz)) cD=some eM) (hρ:∀x y,cu x=some y->aN w (bb A B) B (aI tm y) (ρ x))
  (h:C0 k (bp mem k) (bT len z).flatten sz len (jw (aI tm) (bT len z).flatten eM)=some (r,h4)) :
  ∃v aj aB,(Instr.buildSlice t len (cD.map λp=>(p.1,ρ p.2)).toArray).run P w=.ok v aj/\cT A w B aj aB (fB mem h4)/\aN aj (bb A aB) aB r v:=by
 unfold C0 at h
 split at h
 ·rename_i hlen
  cases ag:jw (aI tm) (bT len z).flatten eM with
  |none=>rw[ag] at h;cases h
  |some cs =>
   rw[ag] at h
   cases h;obtain⟨vs,dY,b0⟩:=Xk (P:=P) (B:=B) bx aP R xn ak ad aF hρ ag
   have dN:(D cs)=len*sz:=by
    have:∀(eM:List (Nat×Nat×bg)) (a r:List I),jw (aI tm) a eM=some r->(D r)=D a:=by
     intro eM
     induction eM with
     |nil=>intro a r h;simp[jw] at h;rw[h]
     |cons q eM aD =>
      intro a r h;obtain⟨o,s,x⟩:=q;simp only[jw] at h
      split at h
      ·rename_i Z;rw[aD _ _ h];unfold jJ;simp;omega
      ·cases h
    rw[this _ _ _ ag,hlen]
   have aY:vs.size=D cs:=by have:=b0.1;simp at this;omega
   refine⟨_,_,_,dY,GJ a4 w (Fr.refl _ _) rfl k vs e (by omega) (by rw[dx (by simp;omega)];exact b0),?_⟩
   have gm:len<=maxLen:=by
    have:len<=len*sz:=vG _ ak;unfold maxLen;omega
   exact .ref (eX _ _ _) (bI _) ⟨_,len,rfl,bI _,gm,.inr ⟨_,rfl,λ_=>⟨rfl,by simp only[kM];omega,rfl⟩⟩⟩
 ·cases h
def Xl {m:I}{sz n:Nat}{new:List I}{v:Value}(a4:dj A w B mem)(ai:aN w (bb A B) B m v)(h:oG mem sz m=some (n,new)):
  ∃a c vals,v=.slice a n c/\ck w (bb A B) B new vals/\D vals=n*sz/\(0<n->∃b off,a=some ⟨b,off,none⟩/\lR w b off vals):=by
 unfold oG at h
 split at h
 ·split at h
  ·rename_i es mO
   cases h;have mO:=P5 mO
   cases ai with
   |M ae =>
    cases ae with
    |j6=>exact⟨_,_,[],rfl,by simpa using ck.nil,by simp,λh=>by simp at h⟩
    | @ay es b off c dC val ad hm U eE dz Z y0 =>
     have kO:=KO mO;rcases jh (D es) with ak|ak
     ·have:es=[]:=qt ak;subst this;exact⟨_,_,[],rfl,by simpa using ck.nil,by simp,λh=>by simp at h⟩
     ·have GF:dC=sz:=by
       have mP:=iJ (l:=es) (n:=0) ak;rw[<-dz _ mP,mO _ mP]
      subst GF;refine⟨_,_,(jf (D es*dC)).map val,rfl,?_,by simp,λ_=>⟨b,off,rfl,λj u aa=>?_⟩⟩
      ·refine ck.M (by simp[kO]) λi d u E G=>?_;have L:i<D es*dC:=by have:=(dh.1 E).1;omega
       rw[bD,qq L] at G;simp only[jQ,bF] at G;subst G;exact y0 i d E
      ·have L:j<D es*dC:=by have:=(dh.1 aa).1;simpa using this
       rw[bD,qq L] at aa;simp only[jQ,bF] at aa;subst aa;exact Z j L
  ·cases h
 ·cases h
  cases ai with
  |nil=>exact⟨_,_,[],rfl,ck.nil,by simp,λh=>by simp at h⟩
 ·rename_i k g dC off len
  split at h
  ·rename_i dz;subst dz
   split at h
   ·rename_i cd cs O
    split at h
    ·rename_i aC;subst aC;simp only[cJ,ec] at h;obtain⟨part,vH,rfl,rfl⟩:=h;obtain⟨ad,rfl,aE⟩:=C9 vH
     cases ai with
     |ref he aC Q =>
      obtain⟨e,dW,bM,vE,U⟩:=a4.at_ O;rw[he] at dW
      cases dW;obtain⟨a,cap,rfl,E,G,ab⟩:=Q;rcases ab with ab|⟨b,rfl,aM⟩
      ·have:len=0:=by omega
       subst this;exact⟨_,_,[],rfl,by simpa using ck.nil,by simp,λh=>by omega⟩
      ·obtain⟨bl,bz,gL⟩:=aM bM.symm;obtain⟨vs,T,a1,aP,hle,b0⟩:=U b bl gL;refine⟨_,_,((vs.toList.take (D cs)).drop off).take (len*dC),rfl,(b0.drop off).take _,by have:=((b0.drop off).take (len*dC)).1;omega,λ_=>⟨b,off,rfl,?_⟩⟩
       have:=(((lR.row a1).take (D cs)).add off).take (len*dC)
       simpa using this
    ·cases h
   ·cases h
  ·cases h
 ·cases h
def Lk {sz n c:Nat}{a:Option Addr}{vals:List Value}(ad:(D vals)=n*sz)(fX:0<n->∃b off,a=some ⟨b,off,none⟩/\lR w b off vals)(aj:World)(hw:aj.heap=w.heap):
  (Builtin.firstCells sz n (.slice a n c)).run P aj = .ok vals.toArray aj:=by
 have Z:∀p,aj.cell? p=w.cell? p:=λp=>by simp[World.cell?,hw]
 rcases jh n with ak|ak
 ·subst ak;have:vals=[]:=qt (by simpa using ad);subst this
  cases a with
  |none=>simp[Builtin.firstCells]
  |some a=>simp[Builtin.firstCells,loadCells,loadCellsFrom]
 ·obtain⟨b,off,rfl,aiG⟩:=fX ak;exact run_firstCells_some aj sz n _ n c vals ad λj v aa=>by rw[xi,Z];exact aiG j v aa
def ck.Qc {ax:Nat->Prop}{cs:List I}{vs:List Value}(h:ck w ax B cs vs)(E:cs.all I.one=true):∀v∈vs,v.oneCell'=true:=by
 intro v ai;obtain⟨i,L,iK⟩:=Xj ai;have rn:i<D cs:=by rw[<-h.1];exact L
 have:=h.2 i _ _ (bw rn) (bw L);rw[iK] at this;exact W2 this (jP.1 E _ (iJ rn))
def Qd {t ty e:TypeId}{sz nn ud n c:Nat}{base a:Option Addr}{vals:List Value}(bx:P.underlying t=some (.slice e))(R:e9 P e=some sz)(vI:nn+n<=ud)
  (ag:(Builtin.firstCells sz n (.slice a n c)).run P w=.ok vals.toArray w) (aj:World)
  (c6:∀b,base=some b->(storeCells (b.add (nn*sz)) vals).run P w=.ok () aj) (aE:base=none->aj=w) :
  (Builtin.append_ #[t,t] ty #[.slice base nn ud,.slice a n c]).run P w=.ok (.slice base (nn+n) ud) aj:=by
 simp only[e9,cJ] at R;obtain⟨i,L,rfl⟩:=R
 cases base with
 |none=>simp[Builtin.append_,run_underlying bx,sizeOf,typeInfo,L,Builtin.lenOf,vI,ag,aE rfl]
 |some b=>simp[Builtin.append_,run_underlying bx,sizeOf,typeInfo,L,Builtin.lenOf,vI,ag,c6 b rfl]
def aiH {t ty e:TypeId}{sz nn ud n c bytes:Nat}{base a:Option Addr}{nV vals:List Value}{i:TypeInfo}{z:Value}(bx:P.underlying t=some (.slice e))(L:P.info? e=some i)(aP:i.zero=some z)(dz:i.size=sz)(GK:i.bytes=bytes)
  (vI:ud<nn+n) (xj:∀aj,aj.heap=w.heap->(Builtin.firstCells sz nn (.slice base nn ud)).run P aj = .ok nV.toArray aj) (ag:∀aj,aj.heap=w.heap->(Builtin.firstCells sz n (.slice a n c)).run P aj = .ok vals.toArray aj)
  (aiI:nn+n<=maxLen) (U:(nn+n)*bytes<=140737488355328) :
  (Builtin.append_ #[t,t] ty #[.slice base nn ud,.slice a n c]).run P w =
   .ok (.slice (some ⟨w.heap.size,0,none⟩) (nn+n) (grownCap w (nn+n) ud e))
    (w.drew.alloc (.cells (nV.toArray++vals.toArray++Builtin.zeroCells z.cells (grownCap w (nn+n) ud e-(nn+n))) e)):=by
 subst dz;subst GK
 have aE:¬ (nn+n<=ud):=by omega
 have aiJ:¬ (9223372036854775807<((nn:Int)+(n:Int))):=by unfold maxLen at aiI;omega
 have GG:=growslice_fits vI U;have aiK:¬ (281474976710656<Builtin.nextslicecap (nn+n) ud*i.bytes):=by omega
 have E:=xj w.drew rfl;have G:=ag w.drew rfl;simp[Builtin.append_,run_underlying bx,sizeOf,typeInfo,zeroValue,L,aP,Builtin.lenOf,aE,aiJ,aiK,Question.forced,E,G,newRow,grownCap,<-List.append_toArray,Array.append_assoc]
def aiL {t ty e:TypeId}{z:List I}{bytes n:Nat}{aU bO:I}{mc iA:Value}{new:List I}{r:I}{h4:Option (Key×Nat×List I)}(k:Key)(a4:dj A w B mem)(bx:P.underlying t=some (.slice e))(aP:zeroOf P e=some z)(R:e9 P e=some (D z))
  (GK:C5 P e=some bytes) (ak:0<D z) (gf:aN w (bb A B) B aU mc) (gV:aN w (bb A B) B bO iA) (oK:oG mem (D z) bO=some (n,new)) (h:px mem k z bytes aU (some (n,new))=some (r,h4)) :
  ∃v aj aB,(Builtin.append_ #[t,t] ty #[mc,iA]).run P w=.ok v aj/\cT A w B aj aB (fB mem h4)/\aN aj (bb A aB) aB r v:=by
 obtain⟨c3,dR,vals,rfl,b0,nU,fX⟩:=Xl a4 gV oK;obtain⟨i,hs,L,nm,aiM⟩:=AK (P:=P) (w:=w) (B:=B) (ax:=bb A B) aP;have dz:=Xf L R;have fq:=Xg L GK;have Dh:hs.cells.size=D z:=by have:=aiM.1;simp at this;omega
 have mQ:(D new)=n*D z:=by rw[<-b0.1,nU]
 have ag:=λaj hw=>Lk (P:=P) (w:=w) (c:=dR) nU fX aj hw
 -- a new block
 have grow:∀(base:Option Addr) (len cap:Nat) (g:Nat) (k':Key) (cs:List I) (nV:List Value),cap<len+n->(∀aj,aj.heap=w.heap->(Builtin.firstCells (D z) len (.slice base len cap)).run P aj = .ok nV.toArray aj) ->
   ck w (bb A B) B cs nV->(D cs)=len*(D z)->len+n<=maxLen->(len+n)*bytes<=140737488355328->g=bp mem k' ->
   ∃v aj aB,(Builtin.append_ #[t,t] ty #[.slice base len cap,.slice c3 n dR]).run P w=.ok v aj/\cT A w B aj aB (aR mem k' g (cs++new))/\aN aj (bb A aB) aB (.ref k' g (D z) 0 (len+n)) v:=by
  intro base len cap g k' cs nV vI xj jL dN uc Df aC;subst aC;have dY:=aiH (P:=P) (ty:=ty) bx L nm dz fq vI xj ag uc Df;have bM:=grownCap_ge w (len+n) cap e;have hle:=grownCap_le_maxLen w (len+n) cap e uc
  have AL:(nV.toArray++vals.toArray++Builtin.zeroCells hs.cells (grownCap w (len+n) cap e-(len+n))).size=grownCap w (len+n) cap e*D z:=by
   have Qe:=jL.1;simp only[Array.size_append,List.size_toArray,size_zeroCells,Dh,Qe,dN,nU];rw[<-oF,<-oF]
   congr 1
   omega
  have dn:=jL.append b0;have hmul:(len+n)*D z<=grownCap w (len+n) cap e*D z:=mJ _ bM;have xo:(cs++new).length=(len+n)*D z:=by rw[la,dN,mQ,oF]
  refine⟨_,_,_,dY,GJ (cs:=cs++new) a4 w.drew ((Fr.refl _ _).drew _) rfl k' _ e (by rw[AL,xo];exact hmul) ?_,?_⟩
  ·have:(nV.toArray++vals.toArray++Builtin.zeroCells hs.cells (grownCap w (len+n) cap e-(len+n))).toList.take (cs++new).length=nV++vals:=by
    simp only[Array.toList_append,List.toList_toArray];rw[List.take_append_of_le_length (by rw[dn.1];exact bI _),dx (by rw[dn.1];exact bI _)]
   rw[this];exact dn
  ·refine .ref (eX _ _ _) (bI _) ⟨_,_,rfl,bM,hle,.inr ⟨_,rfl,λ_=>⟨rfl,?_,rfl⟩⟩⟩;simp only[kM];rw[AL];exact bI _
 cases aU with
 |nil =>
  simp only[px] at h
  split at h
  ·rename_i Z;obtain⟨Df,uc,AM⟩:=Z
   cases h
   cases gf with
   | @nil cx =>
    rcases jh n with pH|pH
    ·subst pH;have xp:vals=[]:=qt (by simpa using nU);have Qf:new=[]:=qt (by simpa using mQ);subst xp;subst Qf
     refine⟨_,_,_,Qd (P:=P) (ty:=ty) bx R (bI _) (ag w rfl) w (λb _=>by simp[storeCells]) (λ_=>rfl),cT.vB a4 k,?_⟩;exact .ref (eX _ _ _) (bI _) ⟨_,0,rfl,bI _,ej _,.inl rfl⟩
    ·have:=grow cx 0 0 (bp mem k) k [] [] (by omega) (λaj hw=>by
      have:=Lk (P:=P) (w:=w) (sz:=D z) (n:=0) (c:=0) (a:=cx) (vals:=[]) (by simp) (λh=>by omega) aj hw;exact this) ck.nil (by simp) (by omega) (by simpa using Df) rfl
     simpa [fB] using this
  ·cases h
 |ref k' g dC off len =>
  simp only[px] at h
  split at h
  ·rename_i Z;obtain⟨rfl,rfl⟩:=Z;unfold mF at h
   split at h
   ·rename_i cd cs O
    split at h
    ·rename_i Z;obtain⟨rfl,hlen,Df,uc,AM⟩:=Z
     cases h;obtain⟨rp,lT,bM,vE,U⟩:=a4.at_ O;have Di:cd+1=bp mem k':=by simp[bp,O]
     cases gf with
     |ref he aC Q =>
      rw[lT] at he
      cases he;obtain⟨cx,cap,rfl,E,G,ab⟩:=Q
      have hold:∃nV,ck w (bb A B) B (cs.take (len*D z)) nV/\D nV=len*D z/\(0<len->∃b off,cx=some ⟨b,off,none⟩/\lR w b off nV):=by
       rcases ab with ab|⟨b,rfl,aM⟩
       ·have:len=0:=by omega
        subst this;exact⟨[],by simpa using ck.nil,by simp,λh=>by omega⟩
       ·obtain⟨bl,bz,gL⟩:=aM bM.symm;obtain⟨vs,T,a1,GL,hle,ue⟩:=U b bl gL;refine⟨(vs.toList.take (D cs)).take (len*D z),ue.take _,by have:=(ue.take (len*D z)).1;rw[this];simp;omega,λ_=>⟨b,0,rfl,((lR.row a1).take _).take _⟩⟩
      obtain⟨nV,Ll,Qg,Xm⟩:=hold
      by_cases vI:len+n<=cap
      ·rcases ab with ab|⟨b,rfl,aM⟩
       ·-- no room, and nothing comes
        have Dj:len=0:=by omega
        have pH:n=0:=by omega
        subst Dj;subst pH;subst ab
        have xp:vals=[]:=qt (by simpa using nU);have Qf:new=[]:=qt (by simpa using mQ);subst xp;subst Qf
        refine⟨_,_,eu B k' ⟨bp mem k',none,0,false⟩,Qd (P:=P) (ty:=ty) bx R (bI _) (ag w rfl) w (λb _=>by simp[storeCells]) (λ_=>rfl),?_,?_⟩
        ·have:=cT.vB a4 k'
         simpa [fB,Di] using this
        ·rw[Di];exact .ref (eX _ _ _) (bI _) ⟨_,0,rfl,bI _,ej _,.inl rfl⟩
       ·obtain⟨bl,bz,gL⟩:=aM bM.symm;obtain⟨vs,T,a1,GL,hle,ue⟩:=U b bl gL;have hmul:(len+n)*D z<=cap*D z:=mJ _ vI;have Lm:(len+n)*D z=len*D z+n*D z:=oF _ _ _;have c6:=run_storeCells_at P b (len*D z) T vals 0 vs w a1 (by omega) (b0.Qc AM);simp only[ko] at c6
        have Qe:nV=vs.toList.take (len*D z):=by
         apply ub;intro j;rcases fF j (len*D z) with aa|aa
         ·have hr:0<len:=by
           rcases jh len with h|h
           ·subst h;simp at aa
           ·exact h
          obtain⟨dt,avH,Xn,aiN⟩:=Xm hr;simp only[bF,Addr.mk.injEq,and_true] at Xn;obtain⟨rfl,rfl⟩:=Xn;have vJ:j<D nV:=by omega
          have sK:=aiN j _ (bw vJ);rw[kM,cell_of_row w b j vs T (0,0) a1] at sK;rw[bw vJ,xh,aq aa,<-sK,Array.getElem?_toList]
         ·rw[mI (by omega),xh,ar (by omega)]
        have Xo:(vs.toList.take (len*D z)++vals++vs.toList.drop (len*D z+D vals)).toArray.size=rp.size:=by
         simp;omega
        have f:Fr (λb=>∃e,B k'=some e/\e.cW=some b) w (w.setRow b (vs.toList.take (len*D z)++vals++vs.toList.drop (len*D z+D vals)).toArray):=by
         refine⟨rfl,rfl,rfl,by simp,λj aa a0=>?_⟩
         exact setRow_other w b j _ (λDg=>a0 ⟨rp,lT,by rw[bl,Dg]⟩)
        have xo:(cs.take (len*D z)++new).length=len*D z+D vals:=by
         rw[la,mQ,nU,hg,mM hlen]
        have ok:=cT.change (k:=k') (e':=⟨cd+1,some b,rp.size,false⟩) (cs:=cs.take (len*D z)++new) a4 f
         (λaz eb => .inr (by rw[lT] at eb;cases eb;simp only;omega)) (λef dr => .inr ⟨rp,lT,by rw[bl];exact dr⟩) (λaE=>by cases aE) (λef dr=>by
          cases dr;refine⟨rfl,_,T,setRow_heap w b vs _ T (0,0) a1,Xo,by rw[Xo,xo,nU];omega,λi m hm=>?_⟩
          have dn:=Ll.append b0;obtain⟨v,ai,Q⟩:=dn.get hm;refine⟨v,?_,Q⟩;rw[Qe] at ai;have av:i<(vs.toList.take (len*D z)++vals).length:=(dh.1 ai).1;simp only[Xp];rw[Da av];exact ai)
        refine⟨_,_,_,Qd (P:=P) (ty:=ty) (a:=c3) (c:=dR) (vals:=vals) bx R vI (ag w rfl) _ (λdt g3=>by
         cases g3;rw[xi,kM];exact c6) (λh=>by cases h),ok,?_⟩
        exact .ref (eX _ _ _) (bI _) ⟨_,cap,rfl,vI,G,.inr ⟨b,rfl,λ_=>⟨rfl,bz,rfl⟩⟩⟩
      ·have:=grow cx len cap (cd+1) k' (cs.take (len*D z)) nV (by omega) (λaj hw=>Lk (P:=P) (w:=w) Qg Xm aj hw) Ll (by rw[hg,mM hlen]) uc Df Di;exact this
    ·cases h
   ·cases h
  ·cases h
 |_=>simp[px] at h
def aiO {t u ty e:TypeId}{sz n:Nat}{aU bO:I}{mc iA:Value}{new:List I}{r:I}{h4:Option (Key×Nat×List I)}(a4:dj A w B mem)(bx:P.underlying t=some (.slice e))(R:e9 P e=some sz)
  (gf:aN w (bb A B) B aU mc) (gV:aN w (bb A B) B bO iA) (oK:oG mem sz bO=some (n,new)) (h:tQ mem sz aU (some (n,new))=some (r,h4)) :
  ∃v aj,(Builtin.copy_ #[t,u] ty #[mc,iA]).run P w=.ok v aj/\cT A w B aj B (fB mem h4)/\aN aj (bb A B) B r v:=by
 obtain⟨c3,dR,vals,rfl,b0,nU,fX⟩:=Xl a4 gV oK;have mQ:(D new)=n*sz:=by rw[<-b0.1,nU]
 cases aU with
 |ref k g dC off len =>
  simp only[tQ] at h
  split at h
  ·rename_i dz;subst dz;unfold yU at h
   split at h
   ·rename_i cd cs O
    split at h
    ·rename_i Z;obtain⟨rfl,GG,AM⟩:=Z
     cases h;obtain⟨rp,lT,bM,vE,U⟩:=a4.at_ O;have Ln:Nat.min n len=min n len:=rfl;have hle:min n len<=n:=Nat.min_le_left _ _;have aiP:min n len<=len:=Nat.min_le_right _ _;have ua:min n len*dC<=n*dC:=mJ _ hle;have avI:min n len*dC<=len*dC:=mJ _ aiP;have mK:(vals.take (min n len*dC)).length=min n len*dC:=by rw[hg,nU,mM ua]
     have y3:∀(a:Option Addr) (c:Nat),(0<n->∃b off,a=some ⟨b,off,none⟩/\lR w b off vals)->(Builtin.firstCells dC (min n len) (.slice a n c)).run P w=.ok (vals.take (min n len*dC)).toArray w:=by
      intro a c fX
      have:=Lk (P:=P) (w:=w) (sz:=dC) (n:=min n len) (c:=c) (a:=a) (vals:=vals.take (min n len*dC)) mK (λh=>by
       obtain⟨b,off,E,G⟩:=fX (by omega);exact⟨b,off,E,G.take _⟩) w rfl
      cases a with
      |none=>simpa [Builtin.firstCells] using this
      |some a=>simpa [Builtin.firstCells] using this
     cases gf with
     |ref he aC Q =>
      rw[lT] at he
      cases he;obtain⟨cx,cap,rfl,E,G,ab⟩:=Q;simp only[e9,cJ] at R;obtain⟨i,L,Qh⟩:=R;rcases ab with ab|⟨b,rfl,aM⟩
      ·have Dj:len=0:=by omega
       subst Dj;have mP:min n 0=0:=Nat.min_zero _;have pI:jJ cs off (new.take (min n 0*dC))=cs:=by simp[jJ]
       have c6:∀a:Addr,(storeCells a ([]:List Value)).run P w=.ok () w:=λa=>by simp[storeCells]
       have GM:=y3 c3 dR fX;simp only[mP,Nat.zero_mul,List.take_zero] at GM
       have ht:eu B k rp=B:=by
        funext j;unfold eu;split
        ·rename_i aa;rw[aa,lT]
        ·rfl
       refine⟨.int .i64 0,w,?_,?_,by simpa using aN.ofInt⟩
       ·cases cx with
        |none=>simp[Builtin.copy_,run_underlying bx,Builtin.lenOf,sizeOf,typeInfo,L,Qh,GM,goInt]
        |some a=>simp[Builtin.copy_,run_underlying bx,Builtin.lenOf,sizeOf,typeInfo,L,Qh,GM,c6,goInt]
       ·have gA:aR mem k cd cs=mem:=by
         funext j;unfold aR;split
         ·rename_i aa;rw[aa,O]
         ·rfl
        simp only[fB,pI,gA];exact .refl a4
      ·obtain⟨bl,bz,gL⟩:=aM bM.symm;obtain⟨vs,T,a1,GL,GN,ue⟩:=U b bl gL;have c6:=run_storeCells_at P b off T (vals.take (min n len*dC)) 0 vs w a1 (by omega) (λv ai=>b0.Qc AM v (AI ai));simp only[ko] at c6;refine⟨.int .i64 ((min n len:Nat):Int),_,?_,P8 a4 O lT bl gL a1 GL GN ue bM (by rw[hg,mQ,mM ua];omega) (b0.take (min n len*dC)),.ofInt⟩;have GM:=y3 c3 dR fX;simp[Builtin.copy_,run_underlying bx,Builtin.lenOf,sizeOf,typeInfo,L,Qh,Ln,GM,c6,goInt]
    ·cases h
   ·cases h
  ·cases h
 |_=>simp[tQ] at h
def aiQ {z:Array Value}(ak:0<z.size)(n:Nat):(Builtin.zeroCells z n).toList=(bT n z.toList).flatten:=by
 unfold Builtin.zeroCells;exact Lf ak n
def aiR {t ty e:TypeId}{z:List I}{aU:I}{mc:Value}{r:I}{h4:Option (Key×Nat×List I)}(a4:dj A w B mem)(bx:P.underlying t=some (.slice e))(aP:zeroOf P e=some z)(ak:0<D z)
  (gf:aN w (bb A B) B aU mc) (h:vx mem z aU=some (r,h4)) :
  ∃v aj,(Builtin.clear_ #[t] ty #[mc]).run P w=.ok v aj/\cT A w B aj B (fB mem h4)/\aN aj (bb A B) B r v:=by
 have Xq:∀aj:World,aN aj (bb A B) B (.dc []) (.tuple #[]):=λaj=>aN.dc (cs:=[]) (vs:=[]) rfl λi d v ae=>by simp at ae
 cases aU with
 |ref k g sz off len =>
  simp only[vx] at h
  split at h
  ·rename_i dz;subst dz;unfold K1 at h
   split at h
   ·rename_i cd cs O
    split at h
    ·rename_i Z;obtain⟨rfl,GG,AM⟩:=Z
     cases h;obtain⟨i,hs,L,nm,b0⟩:=AK (P:=P) (w:=w) (B:=B) (ax:=bb A B) aP;have Dh:hs.cells.size=D z:=by have:=b0.1;simp at this;omega
     obtain⟨rp,lT,bM,vE,U⟩:=a4.at_ O
     cases gf with
     |ref he aC Q =>
      rw[lT] at he
      cases he;obtain⟨cx,cap,rfl,E,G,ab⟩:=Q;rcases jh len with Dj|Dj
      ·subst Dj;have pI:jJ cs off (bT 0 z).flatten=cs:=by simp[jJ]
       have gA:aR mem k cd cs=mem:=by
        funext j;unfold aR;split
        ·rename_i aa;rw[aa,O]
        ·rfl
       refine⟨.tuple #[],w,?_,?_,Xq _⟩
       ·cases cx<;>simp[Builtin.clear_,run_underlying bx]
       ·simp only[fB,pI,gA];exact .refl a4
      ·rcases ab with ab|⟨b,rfl,aM⟩
       ·omega
       ·obtain⟨bl,bz,gL⟩:=aM bM.symm;obtain⟨vs,T,a1,GL,GN,ue⟩:=U b bl gL;have oJ:=b0.replicate len;have xn:=aiQ (z:=hs.cells) (by omega) len;have mQ:(bT len z).flatten.length=len*D z:=by simp
        have nU:(bT len hs.cells.toList).flatten.length=len*D z:=by simp[Dh]
        have aiS:(bT len z).flatten.all I.one=true:=by
         rw[jP] at AM ⊢;intro x J;obtain⟨y,af,kp⟩:=List.mem_flatten.1 J;exact AM x (by rw[<-(List.mem_replicate.1 af).2];exact kp)
        have c6:=run_storeCells_at P b off T (bT len hs.cells.toList).flatten 0 vs w a1 (by omega) (oJ.Qc aiS);simp only[ko] at c6;refine⟨.tuple #[],_,?_,P8 a4 O lT bl gL a1 GL GN ue bM (by omega) oJ,Xq _⟩;obtain⟨air,rfl⟩:∃l,len=l+1:=⟨len-1,by omega⟩
        simp[Builtin.clear_,run_underlying bx,GI L nm,xn,c6]
    ·cases h
   ·cases h
  ·cases h
 |_=>simp[vx] at h
end
end Go.Mini
namespace Go.Mini
open Go
variable {P:Program} {A:Nat->Prop} {w:World} {B:cB} {mem:Mem}
def aiT {t e:TypeId}{sz l h len:Nat}{m r:I}{v:Value}{jN jO:Option Value}{bQ L:Option I}(a4:dj A w B mem)(bx:P.underlying t=some (.array len e))(R:e9 P e=some sz)(avJ:len<=16777216)
  (fG:iI 0 bQ=some l) (jg:iI len L=some h) (lg:pE w (bb A B) B bQ jN) (kn:pE w (bb A B) B L jO) (hm:aN w (bb A B) B m v) (Q:yT mem len sz l h m=some r) :
  ∃z,(Instr.sliceAt t v jN jO none).run P w=.ok z w/\aN w (bb A B) B r z:=by
 unfold yT at Q
 split at Q
 ·rename_i k g off;unfold PN at Q
  split at Q
  ·rename_i cd cs O
   split at Q
   ·rename_i Z;obtain⟨rfl,E,G,ab⟩:=Z
    cases Q
    cases hm with
    |ptr he aC ai =>
     obtain⟨b,rfl,U⟩:=ai;obtain⟨e',dW,bM,aE,je⟩:=a4.at_ O;rw[dW] at he
     cases he;obtain⟨fq,gL⟩:=U bM.symm;obtain⟨vs,T,a1,aP,hle,_⟩:=je b fq gL;refine⟨.slice (some (if len=l then ⟨b,off,none⟩ else ⟨b,off+l*sz,none⟩)) (h-l) (len-l),?_,.ref dW aC ⟨_,len-l,rfl,by omega,by unfold maxLen;omega,?_⟩⟩
     ·simp[Instr.sliceAt,run_underlying bx,Instr.sureAddr,P0 (P:=P) (w:=w) false fG jg lg kn E G,rl R]
      split<;>simp[xi]
     ·rcases Ld (cS E G) with ad|ad
      ·exact .inl (by omega)
      ·refine .inr ⟨b,by rw[ar (by omega)],λ_=>⟨fq,?_,gL⟩⟩
       have:off+l*sz+(len-l)*sz=off+len*sz:=by
        rw[rk,<-oF]
        congr 2
        omega
       omega
   ·cases Q
  ·cases Q
 ·cases Q
def aiU {c5:List Field}(h:(c5.all λf=>(e9 P f.type).isSome)=true):∃cD:List (Nat×Nat),(c5.mapM λf=>(do pure (f.offset,<-sizeOf f.type):Sem (Nat×Nat))).run P w=.ok cD w /\
  ∀i:Nat,cD[i]?=sF P c5.toArray i:=by
 induction c5 with
 |nil=>exact⟨[],by simp,λi=>by simp[sF]⟩
 |cons f r aD =>
  simp only[List.all_cons,dp] at h;obtain⟨cD,E,G⟩:=aD h.2;obtain⟨s,R⟩:=Xr.1 h.1;refine⟨(f.offset,s)::cD,?_,λi=>?_⟩
  ·simp only[ma,Sem.run_bind,rl R,Result.andThen_ok,Sem.run_pure];rw[E]
   rfl
  ·cases i with
   |zero=>simp[sF,R]
   |succ i =>
    have:=G i;simp only[sF,Xp,List.getElem?_cons_succ] at this ⊢;exact this
def aiV {p q:Nat->Option (Nat×Nat)}(h:∀i,p i=q i)(cs:Array Value)(l:List (Nat×Value)):Instr.fill p cs l=Instr.fill q cs l:=by
 rw[show p=q from funext h]
def aiW {t:TypeId}{c5:Array Field}{z r:List I}{cD:List (Nat×Operand)}{eM:List (Nat×Nat×bg)}{ρ:Operand->Value}{tm:Nat->I}{ax:Nat->Prop}(bx:P.underlying t=some (.struct c5))(aP:zeroOf P t=some z)
  (a2:(c5.toList.all λf=>(e9 P f.type).isSome)=true) (aF:partsOf (sF P c5) cD=some eM) (hρ:∀x y,cu x=some y->aN w ax B (aI tm y) (ρ x))
  (h:jw (aI tm) z eM=some r):∃v,(Instr.build t (cD.map λp=>(p.1,ρ p.2)).toArray).run P w=.ok v w/\aN w ax B (.agg r) v:=by
 obtain⟨i,hs,L,nm,b0⟩:=AK (P:=P) (w:=w) (B:=B) (ax:=ax) aP;obtain⟨pl,E,G⟩:=aiU (w:=w) a2;obtain⟨mL,ag,Q⟩:=Le (place:=sF P c5) hρ cD eM _ r _ aF b0 h;refine⟨.agg mL,?_,by rw[show mL=mL.toList.toArray from by simp];exact .agg Q.1 Q.2⟩
 ·have uf:∀i,pl.toArray[i]?=sF P c5 i:=λi=>by simpa using G i
  have hm:(c5.mapM λf=>(do pure (f.offset,<-sizeOf f.type):Sem (Nat×Nat))).run P w=.ok pl.toArray w:=by
   rw[Array.mapM_eq_mapM_toList];rw[map_eq_pure_bind];simp only[Sem.run_bind,E,Result.andThen_ok,Sem.run_pure]
  simp only[Instr.build,Sem.run_bind,GI L nm,Result.andThen_ok,Sem.run_pure,run_underlying bx,hm,aiV uf,ag]
def aiX {t e:TypeId}{n sz:Nat}{z r:List I}{cD:List (Nat×Operand)}{eM:List (Nat×Nat×bg)}{ρ:Operand->Value}{tm:Nat->I}{ax:Nat->Prop}(bx:P.underlying t=some (.array n e))(aP:zeroOf P t=some z)
  (R:e9 P e=some sz) (aF:partsOf (λi=>some (i*sz,sz)) cD=some eM) (hρ:∀x y,cu x=some y->aN w ax B (aI tm y) (ρ x))
  (h:jw (aI tm) z eM=some r):∃v,(Instr.build t (cD.map λp=>(p.1,ρ p.2)).toArray).run P w=.ok v w/\aN w ax B (.agg r) v:=by
 obtain⟨i,hs,L,nm,b0⟩:=AK (P:=P) (w:=w) (B:=B) (ax:=ax) aP;obtain⟨mL,ag,Q⟩:=Le (place:=λi=>some (i*sz,sz)) hρ cD eM _ r _ aF b0 h;refine⟨.agg mL,?_,by rw[show mL=mL.toList.toArray from by simp];exact .agg Q.1 Q.2⟩
 simp only[Instr.build,Sem.run_bind,GI L nm,Result.andThen_ok,Sem.run_pure,run_underlying bx,rl R,ag]
end Go.Mini
namespace Go.Mini
open Go
section
variable {P:Program} {w:World} {ax:Nat->Prop} {B:cB}
def aiY {m:I}{d:Data}{v:Value}(h:PJ m=some d)(ai:aN w ax B m v):Den w ax d v:=by
 unfold PJ at h
 split at h
 ·cases h;cases ai with|M h=>exact h
 ·cases h;cases ai;exact .j6
 ·simp only[cJ] at h;obtain⟨ds,e3,rfl⟩:=h;obtain⟨E,G⟩:=mapM_get e3
  cases ai with
  |agg ad ae =>
   refine .agg (by omega) λi d v L hu=>?_;rename_i cs vs;have av:i<D cs:=by have:=(dh.1 L).1;omega
   have ew:=bw av;exact Qa (G i _ d ew L) (ae i _ v ew hu)
 ·cases h
def Xs {t:TypeId}{z:I}(h:zeroV P t=some z):∃v,(zeroValue t).run P w=.ok v w/\aN w ax B z v:=by
 simp only[zeroV,dd] at h;obtain⟨v,⟨i,L,ai⟩,aP⟩:=h;exact⟨v,by simp[zeroValue,typeInfo,L,ai],WY aP⟩
def GP {ok b:Bool}{m:I}{v:Value}(h:aN w ax B m v):aN w ax B (AE ok b m) (if ok=true then .tuple #[v,.bool b] else v):=by
 unfold AE
 split
 ·have:=aN.dc (w:=w) (ax:=ax) (B:=B) (cs:=[m,.M (.bool b)]) (vs:=[v,.bool b]) rfl λi d u L hu=>by
   match i,L,hu with
   |0,L,hu=>simp at L hu;subst L;subst hu;exact h
   |1,L,hu=>simp at L hu;subst L;subst hu;exact .M .bool
  exact this
 ·exact h
def aiZ {t:TypeId}{aQ:TypeDesc}{m r:I}{v:Value}(hu:P.underlying t=some aQ)(aE:∀ms,aQ ≠ .interface ms)(hm:aN w ax B m v)(h:PK t m=some r):
  ∃z,(Instr.makeInterface t v).run P w=.ok z w/\aN w ax B r z:=by
 simp only[PK,cJ] at h;obtain⟨d,ae,rfl⟩:=h;refine⟨.iface t v,?_,.M (.nh (aiY ae hm))⟩;simp only[Instr.makeInterface,Sem.run_bind,run_underlying hu,Result.andThen_ok]
 cases aQ<;>first|rfl|exact absurd rfl (aE _)
def ai0 {t Xt:TypeId}{aQ:TypeDesc}{ok:Bool}{z m r:I}{v:Value}(hu:P.underlying t=some aQ)(aE:∀ms,aQ ≠ .interface ms)(aP:zeroV P t=some z)(hm:aN w ax B m v)(h:PL t ok z m=some r):
  ∃u,(Instr.typeAssert v Xt t ok).run P w=.ok u w/\aN w ax B r u:=by
 obtain⟨hs,nm,mR⟩:=Xs (P:=P) (w:=w) (ax:=ax) (B:=B) aP;unfold PL at h
 split at h
 ·rename_i kl d
  cases hm with
  |M ae =>
   cases ae with
   | @nh _ _ u ae =>
    split at h
    ·rename_i bx;subst bx
     cases h;refine⟨_,?_,GP (.M ae)⟩;simp only[Instr.typeAssert,Sem.run_bind,run_underlying hu,Result.andThen_ok]
     cases aQ<;>first|exact absurd rfl (aE _)|simp
    ·rename_i bx
     split at h
     ·rename_i dD;subst dD
      cases h;refine⟨_,?_,GP mR⟩;simp only[Instr.typeAssert,Sem.run_bind,run_underlying hu,Result.andThen_ok]
      cases aQ<;>first|exact absurd rfl (aE _)|simp[bx,nm]
     ·cases h
 ·cases hm with
  |M ae =>
   cases ae
   split at h
   ·rename_i dD;subst dD
    cases h;refine⟨_,?_,GP mR⟩;simp only[Instr.typeAssert,Sem.run_bind,run_underlying hu,Result.andThen_ok]
    cases aQ<;>first|exact absurd rfl (aE _)|simp[nm]
   ·cases h
 ·cases h
def Xu {neg:Bool}{t e:TypeId}{x:Operand}{y:Operand}{m r:I}{v c:Value}(hu:P.underlying t=some (.pointer e))(Z:c=.pointer none)(hm:aN w ax B m v)(h:Gq neg false m=some r):
  ∃z,((do eqGuard (if neg then .neq else .eql) t x y v c;binOp (if neg then .neq else .eql) t v c:Sem Value)).run P w=.ok z w/\aN w ax B r z:=by
 subst Z;simp only[Gq,cJ] at h;obtain⟨b,U,rfl⟩:=h
 have ai:∃a,v=.pointer a/\a.isNone=b:=by
  unfold isNil at U
  split at U<;>cases U
  ·cases hm with|M ae=>cases ae;exact⟨none,rfl,rfl⟩
  ·cases hm with|M ae=>cases ae;exact⟨_,rfl,rfl⟩
  ·cases hm with|ptr he aC aF=>obtain⟨b,rfl,_⟩:=aF;exact⟨_,rfl,rfl⟩
  all_goals contradiction
 obtain⟨a,rfl,rfl⟩:=ai
 have he:(Op.equal t (.pointer a) (.pointer none)).run P w=.ok a.isNone w:=by
  show (Op.equalIn (9999+1) t (.pointer a) (.pointer none)).run P w=_;unfold Op.equalIn;simp only[Sem.run_bind,run_underlying hu,Result.andThen_ok]
  cases a<;>rfl
 refine⟨.bool (neg != a.isNone),?_,.M .bool⟩;rw[eqGuard_at_pointer]
 cases neg
 ·simp only[dm,if_false,Sem.run_bind,Sem.run_pure,Result.andThen_ok];show (do pure (Value.bool (<-Op.equal t (.pointer a) (.pointer none))):Sem Value).run P w=_
  simp[he]
 ·simp only[if_true,Sem.run_bind,Sem.run_pure,Result.andThen_ok];show (do pure (Value.bool (!(<-Op.equal t (.pointer a) (.pointer none)))):Sem Value).run P w=_
  simp[he]
def Xv {neg:Bool}{t:TypeId}{ms:Array (String×TypeId)}{x:Operand}{c:Value}{m r:I}{v:Value}(hu:P.underlying t=some (.interface ms))(Z:c=.nilIface)(hm:aN w ax B m v)(h:Gq neg true m=some r):
  ∃z,((do eqGuard (if neg then .neq else .eql) t x (.const c) v c;binOp (if neg then .neq else .eql) t v c:Sem Value)).run P w=.ok z w/\aN w ax B r z:=by
 subst Z;simp only[Gq,cJ] at h;obtain⟨b,U,rfl⟩:=h
 have ai:(v=.nilIface/\b=true)\/∃kl u,v=.iface kl u/\b=false:=by
  unfold isNil at U
  split at U<;>cases U
  ·contradiction
  ·contradiction
  ·contradiction
  ·cases hm with|M ae=>cases ae;exact .inl ⟨rfl,rfl⟩
  ·cases hm with|M ae=>cases ae;exact .inr ⟨_,_,rfl,rfl⟩
 have he:(Op.equal t v .nilIface).run P w=.ok b w:=by
  show (Op.equalIn (9999+1) t v .nilIface).run P w=_;unfold Op.equalIn;simp only[Sem.run_bind,run_underlying hu,Result.andThen_ok];rcases ai with ⟨rfl,rfl⟩|⟨kl,u,rfl,rfl⟩<;>rfl
 have aC:∀op,eqGuard op t x (.const .nilIface) v .nilIface=pure ():=λop=>by
  rcases ai with ⟨rfl,rfl⟩|⟨kl,u,rfl,rfl⟩
  ·exact eqGuard_nil_constR _ _ _ _
  ·exact eqGuard_at_iface _ _ _ _ _ _ _
 refine⟨.bool (neg != b),?_,.M .bool⟩;rw[aC];rcases ai with ⟨rfl,rfl⟩|⟨kl,u,rfl,rfl⟩<;>cases neg
 ·show (do pure (Value.bool (<-Op.equal t .nilIface .nilIface)):Sem Value).run P w=_;simp[he]
 ·show (do pure (Value.bool (!(<-Op.equal t .nilIface .nilIface))):Sem Value).run P w=_
  simp[he]
 ·show (do pure (Value.bool (<-Op.equal t (.iface kl u) .nilIface)):Sem Value).run P w=_
  simp[he]
 ·show (do pure (Value.bool (!(<-Op.equal t (.iface kl u) .nilIface))):Sem Value).run P w=_
  simp[he]
def ai1 {t e:TypeId}{len sz n:Nat}{bC:Bool}{k:IntKind}{m r:I}{v:Value}(hu:P.underlying t=some (.array len e))(R:e9 P e=some sz)(a2:sE P e=some bC)(hm:aN w ax B m v)(h:PM len sz bC n m=some r):
  ∃z,(Instr.index t v (.int k (n:Int))).run P w=.ok z w/\aN w ax B r z:=by
 unfold PM at h
 split at h
 ·rename_i aE
  have go:∀(cs:List I) (vs:List Value),ck w ax B cs vs->(cut cs (n*sz) sz).bind (nR bC)=some r->∃z,(Instr.index t (.agg vs.toArray) (.int k (n:Int))).run P w=.ok z w/\aN w ax B r z:=by
   intro cs vs b0 a1;simp only[dd] at a1;obtain⟨ms,E,G⟩:=a1;obtain⟨u,ab,aM⟩:=W7 (P:=P) R a2 b0 E G;exact⟨u,by simp[Instr.index,asIntOf,run_underlying hu,rl R,aE,ab],aM⟩
  simp only[dd] at h;obtain⟨cs,jL,h⟩:=h
  split at h
  ·unfold AD at jL
   split at jL<;>cases jL
   ·cases hm with
    |agg ad ae=>exact go _ _ ⟨ad,ae⟩ h
   ·cases hm with
    |M ae =>
     cases ae with
     |agg ad ae=>exact go _ _ (ck.M ad ae) h
  ·cases h
 ·cases h
end
section
variable {P:Program} {A:Nat->Prop} {w:World} {B:cB} {mem:Mem}
def cT.Qi {aj:World}{k:Key}{e':gU}{cs:List I}(h:dj A w B mem)(f:Fr (λb=>∃e,B k=some e/\e.cW=some b) w aj)
  (aC:∀e,B k=some e->e'=e\/e.g<e'.g)
  (je:∀b,e'.cW=some b->w.heap.size<=b\/∃e,B k=some e/\e.cW=some b)
  (aE:e'.cW=none->cs=[])
  (Z:∀b,e'.cW=some b->e'.mp=true/\∃hH iw,aj.heap[b]?=some (.map hH iw)/\jv w (bb A B) B hH.toList cs):cT A w B aj (eu B k e') (aR mem k e'.g cs):=by
 have hold:∀b,b<w.heap.size->(∀e,B k=some e->e.cW≠some b)->aj.heap[b]?=w.heap[b]? :=
  λb U J=>f.block b U fun⟨e,he,fq⟩=>J e he fq
 have h0:Trans A w B aj (eu B k e'):=Trans.change f.size hold aC je;exact⟨h.PT f.size hold aC je aE λb U=>let ⟨E,hH,iw,G,ab⟩:=Z b U;.inr ⟨E,hH,iw,G,ab.ju h0⟩,h0,⟨f.os,f.tape,f.output,f.size,λb U a0=>f.block b U fun⟨e,he,fq⟩=>a0 ⟨k,e,he,fq⟩⟩,K9 je⟩
def ai2 {t:TypeId}(k:Key)(a4:dj A w B mem):∃v aj aB,(Instr.makeMap t none).run P w=.ok v aj/\cT A w B aj aB (aR mem k (bp mem k) [])/\aN aj (bb A aB) aB (.g1 k (bp mem k)) v:=by
 refine⟨.map (some w.heap.size),w.alloc (.map #[] 0),eu B k ⟨bp mem k,some w.heap.size,0,true⟩,?_,?_,.g1 (eX _ _ _) (bI _) ⟨_,rfl,λ_=>⟨rfl,rfl⟩⟩⟩
 ·simp[Instr.makeMap]
 ·have f2:Fr (λ_=>False) w (w.alloc (.map #[] 0)):=(Fr.refl _ _).alloc _;refine cT.Qi (e':=⟨bp mem k,some w.heap.size,0,true⟩) a4 ⟨f2.os,f2.tape,f2.output,f2.size,λb U _=>f2.block b U id⟩ (λe he => .inr (yX a4 k e he)) (λb U => .inl ?_) (by simp) ?_
  ·simp at U;omega
  ·intro b U;simp at U;subst U;exact⟨rfl,#[],0,heap_alloc_new w _,.nil⟩
def Xw {m:I}{v:Value}{k:Key}{g:Nat}{cs:List I}(a4:dj A w B mem)(ai:aN w (bb A B) B m v)(h:yV mem m=some (k,g,cs)):
  ∃b e hH iw,v=.map (some b)/\mem k=some (g,cs)/\B k=some e/\e.g=g/\e.cW=some b/\e.mp=true/\w.heap[b]?=some (.map hH iw)/\jv w (bb A B) B hH.toList cs:=by
 unfold yV at h
 split at h
 ·split at h
  ·rename_i k' cd bX GQ O
   split at h
   ·rename_i aC;subst aC
    cases h;obtain⟨e,he,bM,aE,U⟩:=a4.cW _ _ _ O
    cases ai with
    |g1 dW xf aF =>
     rw[he] at dW
     cases dW;obtain⟨b,rfl,fq⟩:=aF;obtain⟨E,G⟩:=fq bM.symm;rcases U b E with ⟨ab,_⟩|⟨_,hH,iw,aM,bl⟩
     ·rw[G] at ab;cases ab
     ·exact⟨b,e,hH,iw,rfl,O,he,bM,E,G,aM,bl⟩
   ·cases h
  ·cases h
 ·cases h
def GR (a b:List UInt8):((⟨a.toArray⟩:ByteArray)==⟨b.toArray⟩)=decide (a=b):=by
 show (a.toArray==b.toArray)=_
 by_cases h:a=b
 ·subst h;simp
 ·simp[h]
def Qj {ax:Nat->Prop}{s:List UInt8}:∀{es:List MapEntry} {cs:List I} (n:Nat) {r:Option I},jv w ax B es cs->KZ s cs=some r ->
  ∃q,Instr.findNow .string (.string ⟨s.toArray⟩) es n=some q/\((q=none/\r=none)\/∃i u m,q=some (i,u)/\r=some m/\aN w ax B m u)
 |_,_,n,r,.nil,h=>by
  cases h;exact⟨none,rfl,.inl ⟨rfl,rfl⟩⟩
 |_,_,n,r,.cons (e:=e) (s:=k) O ai Q,h=>by
  simp only[KZ] at h
  split at h
  ·rename_i R;subst R
   cases h;exact⟨_,by simp[Instr.findNow,O,Instr.sameNow,GR];rfl,.inr ⟨_,_,_,rfl,rfl,ai⟩⟩
  ·rename_i R;obtain⟨q,E,G⟩:=Qj (n+1) Q h;exact⟨q,by simp[Instr.findNow,O,Instr.sameNow,GR,R,E],G⟩
def Xx {ax:Nat->Prop}{s:List UInt8}{x:I}{u:Value}(J:aN w ax B x u):∀{es:List MapEntry} {cs:List I} (n:Nat) {gx:List I},jv w ax B es cs->K0 s x cs=some gx ->
  (Instr.findNow .string (.string ⟨s.toArray⟩) es n=some none/\∀c,jv w ax B (es++[⟨.string ⟨s.toArray⟩,u,c⟩]) gx) \/
  ∃i v0 eO,Instr.findNow .string (.string ⟨s.toArray⟩) es n=some (some (n+i,v0))/\es[i]?=some eO/\eO.key=.string ⟨s.toArray⟩/\jv w ax B (es.modify i λe=>{ e with key:=.string ⟨s.toArray⟩,val:=u }) gx
 |_,_,n,gx,.nil,h=>by
  cases h;exact .inl ⟨rfl,λc => .cons rfl J .nil⟩
 |_,_,n,gx,.cons (e:=e) (s:=k) (es:=es) O ai Q,h=>by
  simp only[K0] at h
  split at h
  ·rename_i R;subst R
   cases h;exact .inr ⟨0,e.val,e,by simp[Instr.findNow,O,Instr.sameNow,GR],rfl,O,.cons rfl J Q⟩
  ·rename_i R;simp only[cJ] at h;obtain⟨r,h,rfl⟩:=h
   have ag:Instr.findNow .string (.string ⟨s.toArray⟩) (e::es) n=Instr.findNow .string (.string ⟨s.toArray⟩) es (n+1):=by
    simp[Instr.findNow,O,Instr.sameNow,GR,R]
   rcases Xx J (n+1) Q h with ⟨E,G⟩|⟨i,v0,eO,E,G,ab,aM⟩
   ·exact .inl ⟨ag.trans E,λc => .cons O ai (G c)⟩
   ·exact .inr ⟨i+1,v0,eO,by rw[ag,E];congr 3;omega,by simpa using G,ab,.cons O ai aM⟩
def Xy {k:TypeId}(h:tS P k=some 2):P.underlying k=some .string:=by
 unfold tS at h
 split at h<;>simp at h
 assumption
def Lo {k:TypeId}(h:P.underlying k=some .string)(b:Bool)(s:ByteArray):(Instr.checkKey b 10000 k (.string s)).run P w=.ok () w:=by
 show (Instr.checkKey b (9999+1) k (.string s)).run P w=_;unfold Instr.checkKey;simp only[Sem.run_bind,run_underlying h,Result.andThen_ok]
 rfl
def Xz {m:I}{s:List UInt8}{v:Value}{ax:Nat->Prop}(h:K2 m=some s)(ai:aN w ax B m v):v=.string ⟨s.toArray⟩:=by
 unfold K2 at h
 split at h
 ·cases h;exact ai.yZ
 ·cases h
def ai3 {t k e:TypeId}{ok:Bool}{z aU bO r:I}{v1 v2:Value}(a4:dj A w B mem)(hu:P.underlying t=some (.map k e))(O:tS P k=some 2)(aP:zeroV P e=some z)(gf:aN w (bb A B) B aU v1)(gV:aN w (bb A B) B bO v2)
  (h:K3 mem ok z aU bO=some r):∃u,(Instr.lookup t v1 v2 ok).run P w=.ok u w/\aN w (bb A B) B r u:=by
 unfold K3 at h
 split at h
 ·rename_i md g cs s eG cr;obtain⟨b,rp,hH,iw,rfl,E,G,ab,aM,bl,bz,bP⟩:=Xw a4 gf eG;obtain rfl:=Xz cr gV;have tV:=Xy O;obtain⟨hs,nm,mR⟩:=Xs (P:=P) (w:=w) (ax:=bb A B) (B:=B) aP
  split at h
  ·rename_i m ad
   cases h;obtain⟨q,aL,a1⟩:=Qj 0 bP ad;rcases a1 with ⟨_,h⟩|⟨i,u,m',rfl,hm,Q⟩
   ·cases h
   ·cases hm;refine⟨_,?_,GP Q⟩;simp only[Instr.lookup,Sem.run_bind,run_underlying hu,Result.andThen_ok,MapKept.run_getObj_map bz,Sem.run_pure,Lo tV,Instr.findKey,run_underlying tV,aL]
  ·rename_i ad
   cases h;obtain⟨q,aL,a1⟩:=Qj 0 bP ad;rcases a1 with ⟨rfl,_⟩|⟨i,u,m',rfl,hm,Q⟩
   ·refine⟨_,?_,GP mR⟩;simp only[Instr.lookup,Sem.run_bind,run_underlying hu,Result.andThen_ok,MapKept.run_getObj_map bz,Sem.run_pure,Lo tV,Instr.findKey,run_underlying tV,aL,nm]
   ·cases hm
  ·cases h
 ·cases h
def ai4 {t k e:TypeId}{aU bO hK r:I}{v1 v2 iL:Value}{h4:Option (Key×Nat×List I)}(a4:dj A w B mem)(hu:P.underlying t=some (.map k e))(O:tS P k=some 2)(gf:aN w (bb A B) B aU v1)(gV:aN w (bb A B) B bO v2)(AN:aN w (bb A B) B hK iL)
  (h:Gu mem aU bO hK=some (r,h4)):∃aj,(Instr.mapUpdate t v1 v2 iL).run P w=.ok () aj/\cT A w B aj B (fB mem h4)/\r=.no:=by
 unfold Gu at h
 split at h
 ·rename_i md g cs s eG cr
  split at h
  ·split at h
   ·rename_i gx GS
    cases h;obtain⟨b,rp,hH,iw,rfl,E,G,ab,aM,bl,bz,bP⟩:=Xw a4 gf eG;obtain rfl:=Xz cr gV;have tV:=Xy O;have av:b<w.heap.size:=(Array.getElem?_eq_some_iff.1 bz).1
    have main:∀Dk GU,jv w (bb A B) B Dk.toList gx->cT A w B { w with heap:=w.heap.setIfInBounds b (.map Dk GU) } B (aR mem md g gx):=by
     intro Dk GU Q
     have heq:eu B md rp=B:=by
      funext j
      unfold eu
      split
      ·rename_i aa;rw[aa,G]
      ·rfl
     have f:Fr (λb=>∃e,B md=some e/\e.cW=some b) w { w with heap:=w.heap.setIfInBounds b (.map Dk GU) }:=by
      refine⟨rfl,rfl,rfl,by simp,λj aa a0=>?_⟩
      have a6:b≠j:=λDg=>a0 ⟨rp,G,by rw[aM,Dg]⟩
      simp[a6]
     have:=cT.Qi (k:=md) (e':=rp) (cs:=gx) a4 f (λaz eb => .inl (by rw[G] at eb;exact mN eb)) (λef dr => .inr ⟨rp,G,dr⟩) (λaE=>by rw[aM] at aE;cases aE) (λef dr=>by
      rw[aM] at dr
      cases dr;exact⟨bl,Dk,GU,by simp[av],Q⟩)
     rw[heq,ab] at this;exact this
    rcases Xx AN 0 bP GS with ⟨ag,Q⟩|⟨i,v0,eO,ag,ug,y4,Q⟩
    ·refine⟨_,?_,main (hH.push ⟨.string ⟨s.toArray⟩,iL,iw⟩) (iw+1) (by simpa using Q iw),rfl⟩;simp only[Instr.mapUpdate,Sem.run_bind,run_underlying hu,Result.andThen_ok,MapKept.run_getObj_map bz,Sem.run_pure,Lo tV,Instr.findKey,run_underlying tV,ag,MapKept.run_setObj_map _ bz]
    ·refine⟨_,?_,main (hH.modify i λe=>{ e with key:=.string ⟨s.toArray⟩,val:=iL }) iw (by simpa using Q),rfl⟩
     have ai5:Instr.sameBits 10000 (.string ⟨s.toArray⟩) (.string ⟨s.toArray⟩)=true:=by
      show ((⟨s.toArray⟩:ByteArray)==⟨s.toArray⟩)=true;rw[GR];simp
     have L:hH[i]?=some eO:=by simpa using ug
     simp only[kM] at ag;simp only[Instr.mapUpdate,Sem.run_bind,run_underlying hu,Result.andThen_ok,MapKept.run_getObj_map bz,Sem.run_pure,Lo tV,Instr.findKey,run_underlying tV,ag,L,jQ,Qk,y4,Instr.keyThatStays,ai5,if_true,MapKept.run_setObj_map _ bz]
   ·cases h
  ·cases h
 ·cases h
end
end Go.Mini
namespace Go.Mini
open Go
variable {P:Program} {A:Nat->Prop} {w:World} {B:cB} {mem:Mem}
def ai6 (n:Next)(v:Value):Prop:=n=.value v\/(n=.skip/\v=undef)
def fN (A:Nat->Prop)(w:World)(B:cB)(run:Result Next)(mem':Mem)(r:I):Prop :=
 ∃n v aj aB,run=.ok n aj/\ai6 n v/\cT A w B aj aB mem'/\aN aj (bb A aB) aB r v
def fN.ie {s:Sem Value}{r:I}(a4:dj A w B mem)(h:∃v,s.run P w=.ok v w/\aN w (bb A B) B r v):fN A w B ((do pure (.value (<-s)):Sem Next).run P w) mem r:=by
 obtain⟨v,E,G⟩:=h;exact⟨.value v,v,w,B,by simp[E],.inl rfl,.refl a4,G⟩
def fN.of {s:Sem Value}{mem':Mem}{r:I}(h:∃v aj aB,s.run P w=.ok v aj/\cT A w B aj aB mem'/\aN aj (bb A aB) aB r v):fN A w B ((do pure (.value (<-s)):Sem Next).run P w) mem' r:=by
 obtain⟨v,aj,aB,E,G,ab⟩:=h;exact⟨.value v,v,aj,aB,by simp[E],.inl rfl,G,ab⟩
def XA {x:Option I}{r:I}{h4:Option (Key×Nat×List I)}(h:hJ x=some (r,h4)):x=some r/\h4=none:=by
 unfold hJ at h
 split at h<;>cases h
 exact⟨rfl,rfl⟩
def nW {x:Option Nat}{f:Nat->Option I}{r:I}(h:g2 x f=some r):∃n,x=some n/\f n=some r:=by
 unfold g2 at h
 split at h
 ·exact⟨_,rfl,h⟩
 ·cases h
def XB {x y:Option Nat}{f:Nat->Nat->Out}{r:I×Option (Key×Nat×List I)}(h:Gr x y f=some r):∃n m,x=some n/\y=some m/\f n m=some r:=by
 unfold Gr at h
 split at h
 ·exact⟨_,_,rfl,rfl,h⟩
 ·cases h
def AO {ax:Nat->Prop}{ρ:Operand->Value}{tm:Nat->I}(hρ:∀x y,cu x=some y->aN w ax B (aI tm y) (ρ x)){x:Option Operand}{y:Option bg}(h:ri x=some y):pE w ax B (y.map (aI tm)) (x.map ρ):=by
 cases x with
 |none=>simp[ri] at h;subst h;simp[pE]
 |some x =>
  simp only[ri,cJ] at h;obtain⟨y',af,rfl⟩:=h;simp only[jQ,pE];exact hρ _ _ af
def XC {c5:Array Field}{f o s:Nat}(h:sF P c5 f=some (o,s)):∃fd,c5[f]?=some fd/\fd.offset=o/\e9 P fd.type=some s:=by
 simp only[sF,fy,fE,dd,bF,ec] at h;obtain⟨fd,E,xq,G,ab,aM⟩:=h;exact⟨fd,E,ab,aM ▸ G⟩
def pJ {ax:Nat->Prop}{ρ:Operand->Value}{tm:Nat->I}(hρ:∀x y,cu x=some y->aN w ax B (aI tm y) (ρ x)):∀{l:List Operand} {r:List bg},l.mapM cu=some r->ck w ax B (r.map (aI tm)) (l.map ρ)
 | [],r,h=>by simp at h;subst h;exact ck.nil
 |x::l,r,h=>by
  simp only[ma,fy,fE,dd,bF] at h;obtain⟨y,af,C7,Q,rfl⟩:=h;exact ck.cons (hρ _ _ af) (pJ hρ Q)
def vK {α β:Type}(a:Array α)(f:α->β):a.map f=(a.toList.map f).toArray:=by
 apply Array.ext';simp
def gB {tm:Nat->I}{m:fh}{r:I}{h4:Option (Key×Nat×List I)}{x:Option I}(h:br mem tm m=some (r,h4))(e:br mem tm m=hJ x):x=some r/\h4=none:=XA (e.symm.trans h)
def ai7 {ρ:Operand->Value}{tm:Nat->I}{kb:Nat}{own:List Nat}{dst:Option Tmp}{type:TypeId}{c:Call}{m:fh}{r:I}{h4:Option (Key×Nat×List I)}(a4:dj A w B mem)
  (hρ:∀x y,cu x=some y->aN w (bb A B) B (aI tm y) (ρ x)) (aA:rj P kb own dst type c=some m) (h:br mem tm m=some (r,h4)) :
  fN A w B ((do let d <-resolve ρ c type;invoke d.target d.args:Sem Next).run P w) (fB mem h4) r:=by
 obtain⟨callee,args,argTypes⟩:=c;have two:∀{α:Type} (a:Array α) (x y:α),a.toList=[x,y]->a=#[x,y]:=λa x y h=>Array.ext' (by simpa using h);have one:∀{α:Type} (a:Array α) (x:α),a.toList=[x]->a=#[x]:=λa x h=>Array.ext' (by simpa using h);unfold rj at aA
 split at aA
 ·rename_i x t Z a2 bx;simp only at Z a2 bx;subst Z;obtain rfl:=one _ _ a2;obtain rfl:=one _ _ bx
  split at aA
  ·rename_i e hu;simp only[cJ] at aA;obtain⟨y,af,rfl⟩:=aA;obtain⟨aL,rfl⟩:=gB h rfl;obtain⟨n,aE,aL⟩:=nW aL
   cases aL;have:=aik (P:=P) (w:=w) t type e hu (hρ _ _ af) aE;exact⟨.value _,_,w,B,by simp[resolve,invoke,builtin,this],.inl rfl,.refl a4,.M .int⟩
  ·rename_i hu;simp only[cJ] at aA;obtain⟨y,af,rfl⟩:=aA;obtain⟨aL,rfl⟩:=gB h rfl;obtain⟨n,aE,aL⟩:=nW aL
   cases aL;have:=ail (P:=P) (w:=w) t type hu (hρ _ _ af) aE;exact⟨.value _,_,w,B,by simp[resolve,invoke,builtin,this],.inl rfl,.refl a4,.M .int⟩
  ·cases aA
 ·rename_i s x t u Z a2 bx;simp only at Z a2 bx;subst Z;obtain rfl:=two _ _ _ a2;obtain rfl:=two _ _ _ bx
  split at aA
  ·rename_i e az hu XD;simp only[fy,fE,dd] at aA;obtain⟨z,aP,b,U,n,aE,d,ae,xq,dE,eJ,oL,a1⟩:=aA
   split at a1
   ·rename_i lU;obtain⟨rfl,ak,rfl⟩:=lU
    cases a1;simp only[br] at h
    cases oK:oG mem (D z) (aI tm eJ) with
    |none =>
     rw[oK] at h
     revert h
     cases aI tm xq<;>simp[px]
    |some p =>
     obtain⟨k,new⟩:=p;rw[oK] at h;obtain⟨v,aj,aB,E,G,ab⟩:=aiL (ty:=type) _ a4 hu aP aE U ak (hρ _ _ dE) (hρ _ _ oL) oK h;exact⟨.value v,v,aj,aB,by simp[resolve,invoke,builtin,E],.inl rfl,G,ab⟩
   ·cases a1
  ·cases aA
 ·rename_i ai8 x t u Z a2 bx;simp only at Z a2 bx;subst Z;obtain rfl:=two _ _ _ a2;obtain rfl:=two _ _ _ bx
  split at aA
  ·rename_i e az hu XD;simp only[fy,fE,dd] at aA;obtain⟨n,aE,a1⟩:=aA
   split at a1
   ·rename_i ak;simp only[dd,bF] at a1;obtain⟨pK,kL,eJ,oL,rfl⟩:=a1;simp only[br] at h
    cases oK:oG mem n (aI tm eJ) with
    |none =>
     rw[oK] at h
     revert h
     cases aI tm pK<;>simp[tQ]
    |some p =>
     obtain⟨k,new⟩:=p;rw[oK] at h;obtain⟨v,aj,E,G,ab⟩:=aiO (u:=u) (ty:=type) a4 hu aE (hρ _ _ kL) (hρ _ _ oL) oK h;exact⟨.value v,v,aj,B,by simp[resolve,invoke,builtin,E],.inl rfl,G,ab⟩
   ·cases a1
  ·cases aA
 ·rename_i x t Z a2 bx;simp only at Z a2 bx;subst Z;obtain rfl:=one _ _ a2;obtain rfl:=one _ _ bx
  split at aA
  ·rename_i e hu;simp only[fy,fE,dd] at aA;obtain⟨z,aP,n,aE,a1⟩:=aA
   split at a1
   ·rename_i ak;simp only[dd,bF] at a1;obtain⟨eJ,oL,rfl⟩:=a1;simp only[br] at h;obtain⟨v,aj,E,G,ab⟩:=aiR (ty:=type) a4 hu aP (by omega) (hρ _ _ oL) h;exact⟨.value v,v,aj,B,by simp[resolve,invoke,builtin,E],.inl rfl,G,ab⟩
   ·cases a1
  ·cases aA
 ·rename_i x y Z a2;simp only at Z a2;subst Z;obtain rfl:=two _ _ _ a2;simp only[fy,fE,dd,bF] at aA;obtain⟨eJ,J,y',af,rfl⟩:=aA;obtain⟨aL,rfl⟩:=gB h rfl;obtain⟨z,E,G⟩:=W8 (P:=P) argTypes type (hρ _ _ J) (hρ _ _ af) aL;simp only[if_true] at E;exact⟨.value z,z,w,B,by simp[resolve,invoke,builtin,E],.inl rfl,.refl a4,G⟩
 ·rename_i x y Z a2;simp only at Z a2;subst Z;obtain rfl:=two _ _ _ a2;simp only[fy,fE,dd,bF] at aA;obtain⟨eJ,J,y',af,rfl⟩:=aA;obtain⟨aL,rfl⟩:=gB h rfl;obtain⟨z,E,G⟩:=W8 (P:=P) argTypes type (hρ _ _ J) (hρ _ _ af) aL;simp only[dm,if_false] at E;exact⟨.value z,z,w,B,by simp[resolve,invoke,builtin,E],.inl rfl,.refl a4,G⟩
 ·split at aA
  ·split at aA
   ·simp only[fy,fE,dd,bF] at aA;obtain⟨_,_,_,_,_,_,rfl⟩:=aA
    cases h
   ·cases aA
  ·split at aA
   ·(repeat' split at aA)<;>simp only[fy,fE,dd,bF] at aA
    all_goals
     obtain⟨_,_,rfl⟩:=aA
     cases h
   ·simp only[fy,fE,dd,bF] at aA;obtain⟨_,_,rfl⟩:=aA
    cases h
 ·simp only[fy,fE,dd,bF] at aA;obtain⟨_,_,_,_,rfl⟩:=aA
  cases h
 ·cases aA
def Ql {ρ:Operand->Value}{tm:Nat->I}{kb:Nat}{own:List Nat}{o:Oper}{m:fh}{r:I}{h4:Option (Key×Nat×List I)}(a4:dj A w B mem)
  (hρ:∀x y,cu x=some y->aN w (bb A B) B (aI tm y) (ρ x)) (Dl:∀c,ρ (.const c)=c) (aA:gk P kb own o.dst o.type o.op=some m) (h:br mem tm m=some (r,h4)) :
  fN A w B ((execOp ρ o).run P w) (fB mem h4) r:=by
 obtain⟨dst,op,type,pos,after,guard⟩:=o;simp only at aA
 cases op<;>simp only[gk] at aA<;>simp only[execOp]
 case move x =>
  simp only[cJ] at aA;obtain⟨y,af,rfl⟩:=aA;obtain⟨aL,rfl⟩:=gB (x:=some (aI tm y)) h rfl
  cases aL;exact⟨_,_,w,B,rfl,.inl rfl,.refl a4,hρ _ _ af⟩
 case assign x =>
  simp only[cJ] at aA;obtain⟨y,af,rfl⟩:=aA;obtain⟨aL,rfl⟩:=gB (x:=some (aI tm y)) h rfl
  cases aL;exact⟨_,_,w,B,rfl,.inl rfl,.refl a4,hρ _ _ af⟩
 case pick c a b =>
  simp only[fy,fE,dd,bF] at aA;obtain⟨c',Z,cl,a2,dt,U,rfl⟩:=aA;obtain⟨aL,rfl⟩:=gB h rfl;have:=fN.ie a4 (ah8 (P:=P) (hρ _ _ Z) (hρ _ _ a2) (hρ _ _ U) aL)
  simpa [fB] using this
 case alloc e =>
  simp only[fy,fE,dd,bF] at aA;obtain⟨d,ae,z,aP,rfl⟩:=aA;simp only[br,bF,ec] at h;obtain⟨rfl,rfl⟩:=h;exact fN.of (aiy _ a4 aP)
 case box e x =>
  simp only[fy,fE,dd,bF] at aA;obtain⟨d,ae,y,af,rfl⟩:=aA;simp only[br] at h
  split at h
  ·rename_i O;simp only[bF,ec] at h;obtain⟨rfl,rfl⟩:=h;exact fN.of (aiz _ a4 (hρ _ _ af) O)
  ·cases h
 case build t cD =>
  split at aA
  ·rename_i c5 hu
   split at aA
   ·rename_i a2;simp only[fy,fE,dd,bF] at aA;obtain⟨z,aP,eM,y1,rfl⟩:=aA;obtain⟨aL,rfl⟩:=gB h rfl;simp only[ix,cJ] at aL;obtain⟨cs,jL,rfl⟩:=aL;rw[vK];exact fN.ie a4 (aiW hu aP a2 y1 hρ jL)
   ·cases aA
  ·rename_i n e hu;simp only[fy,fE,dd,bF] at aA;obtain⟨s,R,z,aP,eM,y1,rfl⟩:=aA;obtain⟨aL,rfl⟩:=gB h rfl;simp only[ix,cJ] at aL;obtain⟨cs,jL,rfl⟩:=aL;rw[vK];exact fN.ie a4 (aiX hu aP R y1 hρ jL)
  ·cases aA
 case buildSlice t len cD =>
  split at aA
  ·rename_i e hu;simp only[fy,fE,dd] at aA;obtain⟨z,aP,s,R,eM,y1,d,ae,a1⟩:=aA
   split at a1
   ·rename_i Z;obtain⟨xn,ak,ad⟩:=Z;simp only[bF] at a1;subst a1;rw[vK]
    cases vL:own.contains d with
    |true =>
     rw[vL] at h;exact fN.of (aiF _ a4 hu aP R xn ak ad y1 hρ h)
    |false =>
     rw[vL] at h;obtain⟨aL,rfl⟩:=gB h rfl;obtain⟨v,aj,E,G,ab⟩:=aiE a4 hu aP R xn ak ad y1 hρ aL;exact fN.of ⟨v,aj,B,E,G,ab⟩
   ·cases a1
  ·cases aA
 case load t x =>
  simp only[fy,fE,dd,bF] at aA;obtain⟨n,aE,g,aC,y,af,rfl⟩:=aA;obtain⟨aL,rfl⟩:=gB h rfl;exact fN.ie a4 (ah7 aE aC a4 (hρ _ _ af) aL)
 case store t x v =>
  simp only[fy,fE,dd,bF] at aA;obtain⟨n,aE,eJ,J,oI,ai,rfl⟩:=aA;obtain⟨aj,E,G,rfl⟩:=aiB a4 aE (hρ _ _ J) (hρ _ _ ai) h;exact⟨.skip,undef,aj,B,by simp[E],.inr ⟨rfl,rfl⟩,G,.no⟩
 case nilCheck x =>
  simp only[cJ] at aA;obtain⟨y,af,rfl⟩:=aA;obtain⟨aL,rfl⟩:=gB h rfl;obtain⟨⟨b,off,J⟩,Q⟩:=aim (hρ _ _ af) aL;rw[J] at Q ⊢;exact⟨_,_,w,B,rfl,.inl rfl,.refl a4,Q⟩
 case binOp GV t x y pos2 =>
  unfold sH at aA
  split at aA
  ·split at aA
   ·rename_i eJ y' J af
    cases aA;obtain⟨aL,rfl⟩:=gB h rfl;exact fN.ie a4 (WZ t x y (hρ _ _ J) (hρ _ _ af) aL)
   ·cases aA
  ·split at aA
   ·rename_i eJ y' J af
    cases aA;obtain⟨aL,rfl⟩:=gB h rfl;exact fN.ie a4 (WZ t x y (hρ _ _ J) (hρ _ _ af) aL)
   ·cases aA
  ·rename_i hu
   split at aA
   ·rename_i eJ y' J af
    cases aA;obtain⟨aL,rfl⟩:=gB h rfl;exact fN.ie a4 (W0 (neg:=false) t x y hu (hρ _ _ J) (hρ _ _ af) aL)
   ·rename_i eJ y' J af
    cases aA;obtain⟨aL,rfl⟩:=gB h rfl;exact fN.ie a4 (W0 (neg:=true) t x y hu (hρ _ _ J) (hρ _ _ af) aL)
   ·cases aA
  ·rename_i c5 hu
   split at aA
   ·unfold sG at aA
    split at aA
    ·rename_i Z
     split at aA
     ·rename_i fU eJ y' O J af
      cases aA;obtain⟨aL,rfl⟩:=gB h rfl;exact fN.ie a4 (W5 (neg:=false) t x y c5 hu Z.1 Z.2 O (hρ _ _ J) (hρ _ _ af) aL)
     ·cases aA
    ·cases aA
   ·unfold sG at aA
    split at aA
    ·rename_i Z
     split at aA
     ·rename_i fU eJ y' O J af
      cases aA;obtain⟨aL,rfl⟩:=gB h rfl;exact fN.ie a4 (W5 (neg:=true) t x y c5 hu Z.1 Z.2 O (hρ _ _ J) (hρ _ _ af) aL)
     ·cases aA
    ·cases aA
   ·cases aA
  ·split at aA
   ·split at aA
    ·simp only[cJ] at aA;obtain⟨_,_,rfl⟩:=aA
     cases h
    ·simp only[cJ] at aA;obtain⟨_,_,rfl⟩:=aA
     cases h
    ·cases aA
   ·cases aA
  ·rename_i e hu
   split at aA
   ·rename_i aE
    have af:ρ y=.pointer none:=by
     unfold K7 at aE
     split at aE
     ·exact Dl _
     ·contradiction
     ·cases aE
    split at aA
    ·simp only[cJ] at aA;obtain⟨eJ,J,rfl⟩:=aA;obtain⟨aL,rfl⟩:=gB h rfl;exact fN.ie a4 (Xu (neg:=false) hu af (hρ _ _ J) aL)
    ·simp only[cJ] at aA;obtain⟨eJ,J,rfl⟩:=aA;obtain⟨aL,rfl⟩:=gB h rfl;exact fN.ie a4 (Xu (neg:=true) hu af (hρ _ _ J) aL)
    ·cases aA
   ·cases aA
  ·rename_i ms hu
   split at aA
   ·rename_i aE
    obtain rfl:y=.const .nilIface:=by
     unfold K7 at aE
     split at aE
     ·contradiction
     ·rfl
     ·cases aE
    rw[Dl]
    split at aA
    ·simp only[cJ] at aA;obtain⟨eJ,J,rfl⟩:=aA;obtain⟨aL,rfl⟩:=gB h rfl;exact fN.ie a4 (Xv (neg:=false) hu rfl (hρ _ _ J) aL)
    ·simp only[cJ] at aA;obtain⟨eJ,J,rfl⟩:=aA;obtain⟨aL,rfl⟩:=gB h rfl;exact fN.ie a4 (Xv (neg:=true) hu rfl (hρ _ _ J) aL)
    ·cases aA
   ·cases aA
  ·cases aA
 case unOp uop t x =>
  simp only[cJ] at aA;obtain⟨y,af,rfl⟩:=aA;obtain⟨aL,rfl⟩:=gB h rfl;exact fN.ie a4 (ah9 (hρ _ _ af) aL)
 case convert s t x =>
  split at aA
  ·rename_i fU k R bx;simp only[cJ] at aA;obtain⟨y,af,rfl⟩:=aA;obtain⟨aL,rfl⟩:=gB h rfl;exact fN.ie a4 (aia s t fU R bx (hρ _ _ af) aL)
  ·cases aA
 case makeFunc fn first cU =>
  cases fn<;>simp only[reduceCtorEq] at aA
  split at aA
  ·rename_i dz;simp only[fy,fE,dd,bF] at aA;obtain⟨cs,jL,rfl⟩:=aA;obtain⟨aL,rfl⟩:=gB (x:=some (.dB _ (cs.map (aI tm)))) h rfl
   cases aL;have ai9:first=#[]:=Array.eq_empty_of_size_eq_zero dz
   subst ai9;have ad:=pJ hρ jL;exact fN.ie a4 ⟨_,by rw[vK cU,Array.map_empty];rfl,.dB ad.1 ad.2⟩
  ·cases aA
 case makeSlice t l c =>
  split at aA
  ·rename_i e he;simp only[fy,fE,dd] at aA;obtain⟨z,aP,s,R,b,U,d,ae,a1⟩:=aA
   split at a1
   ·rename_i Z;simp only[dd,bF] at a1;obtain⟨lV,ad,c',uh,rfl⟩:=a1;simp only[br] at h;obtain⟨rq,rr,E,G,ab⟩:=XB h;obtain⟨rfl,ak⟩:=Z;exact fN.of (aiA _ a4 he aP R U E G (hρ _ _ ad) (hρ _ _ uh) ak ab)
   ·cases a1
  ·cases aA
 case slice t x bQ L jb =>
  split at aA
  ·rename_i e hu;simp only[fy,fE,dd] at aA;obtain⟨s,R,a1⟩:=aA
   split at a1
   ·simp only[dd,bF] at a1;obtain⟨y,af,XE,fG,rn,jg,GW,gm,rfl⟩:=a1;have lg:=AO hρ fG;have kn:=AO hρ jg;have Dd:=AO hρ gm
    cases GW with
    |none =>
     cases jb with
     |some v=>simp[ri,cJ] at gm
     |none =>
      obtain⟨aL,rfl⟩:=gB h rfl;obtain⟨l,ad,aL⟩:=nW aL;obtain⟨len,hlen,aL⟩:=nW aL;obtain⟨a1,AP,aL⟩:=nW aL;exact fN.ie a4 (aiq hu R ad hlen AP lg kn (hρ _ _ af) aL)
    |some GW =>
     cases rn with
     |none=>cases h
     |some rn =>
      cases L with
      |none=>simp[pE] at kn
      |some L =>
       cases jb with
       |none=>simp[pE] at Dd
       |some jb =>
        obtain⟨aL,rfl⟩:=gB h rfl;obtain⟨l,ad,aL⟩:=nW aL;obtain⟨a1,AP,aL⟩:=nW aL;obtain⟨m,hm,aL⟩:=nW aL;exact fN.ie a4 (ait hu R ad AP hm lg kn Dd (hρ _ _ af) aL)
   ·cases a1
  ·rename_i n e hu;simp only[fy,fE,dd] at aA;obtain⟨s,R,a1⟩:=aA
   split at a1
   ·rename_i Z;simp only[dd,bF] at a1;obtain⟨y,af,XE,fG,rn,jg,GW,gm,rfl⟩:=a1;have lg:=AO hρ fG;have kn:=AO hρ jg
    cases GW with
    |none =>
     cases jb with
     |some v=>simp[ri,cJ] at gm
     |none =>
      obtain⟨aL,rfl⟩:=gB h rfl;obtain⟨l,ad,aL⟩:=nW aL;obtain⟨a1,AP,aL⟩:=nW aL;exact fN.ie a4 (aiT a4 hu R Z.2 ad AP lg kn (hρ _ _ af) aL)
    |some GW=>cases h
   ·cases a1
  ·rename_i hu
   split at aA
   ·rename_i gm;simp only[fy,fE,dd,bF] at aA;obtain⟨y,af,XE,fG,rn,jg,rfl⟩:=aA;have lg:=AO hρ fG;have kn:=AO hρ jg
    cases jb with
    |some v=>cases gm
    |none =>
     obtain⟨aL,rfl⟩:=gB h rfl;obtain⟨l,ad,aL⟩:=nW aL;obtain⟨len,hlen,aL⟩:=nW aL;obtain⟨a1,AP,aL⟩:=nW aL;exact fN.ie a4 (aiu hu ad hlen AP lg kn (hρ _ _ af) aL)
   ·cases aA
  ·cases aA
 case fieldAddr t x f =>
  split at aA
  ·rename_i c5 hu;simp only[fy,fE,dd] at aA;obtain⟨⟨o,s⟩,aF,a1⟩:=aA
   split at a1
   ·rename_i ak;simp only[dd,bF] at a1;obtain⟨y,af,rfl⟩:=a1;obtain⟨fd,E,G,ab⟩:=XC aF;obtain⟨aL,rfl⟩:=gB h rfl;exact fN.ie a4 (aib t f c5 fd s hu E ab ak G (hρ _ _ af) aL)
   ·cases a1
  ·cases aA
 case field t x f =>
  split at aA
  ·rename_i c5 hu;simp only[fy,fE,dd,bF] at aA;obtain⟨fd,XF,⟨o,s⟩,aF,g,aC,y,af,rfl⟩:=aA;obtain⟨avK,E,G,ab⟩:=XC aF;rw[XF] at E
   cases E;obtain⟨aL,rfl⟩:=gB h rfl;exact fN.ie a4 (aid t f c5 fd hu XF ab aC G (hρ _ _ af) aL)
  ·cases aA
 case indexAddr t x i =>
  split at aA
  ·rename_i e hu;simp only[fy,fE,dd] at aA;obtain⟨s,R,a1⟩:=aA
   split at a1
   ·simp only[dd,bF] at a1;obtain⟨y,af,j,aa,rfl⟩:=a1;obtain⟨aL,rfl⟩:=gB h rfl;obtain⟨n,aE,aL⟩:=nW aL;obtain⟨k,O⟩:=AG aE (hρ _ _ aa);rw[O];exact fN.ie a4 (aif t e hu R (hρ _ _ af) aL)
   ·cases a1
  ·rename_i len e hu;simp only[fy,fE,dd] at aA;obtain⟨s,R,a1⟩:=aA
   split at a1
   ·simp only[dd,bF] at a1;obtain⟨y,af,j,aa,rfl⟩:=a1;obtain⟨aL,rfl⟩:=gB h rfl;obtain⟨n,aE,aL⟩:=nW aL;obtain⟨k,O⟩:=AG aE (hρ _ _ aa);rw[O];exact fN.ie a4 (aih t e hu R (hρ _ _ af) aL)
   ·cases a1
  ·cases aA
 case index t x i =>
  split at aA
  ·rename_i hu;simp only[fy,fE,dd,bF] at aA;obtain⟨y,af,j,aa,rfl⟩:=aA;obtain⟨aL,rfl⟩:=gB h rfl;obtain⟨n,aE,aL⟩:=nW aL;obtain⟨k,O⟩:=AG aE (hρ _ _ aa);rw[O];exact fN.ie a4 (aii t hu (hρ _ _ af) aL)
  ·rename_i n e hu;simp only[fy,fE,dd,bF] at aA;obtain⟨s,R,g,aC,y,af,j,aa,rfl⟩:=aA;obtain⟨aL,rfl⟩:=gB h rfl;obtain⟨n,aE,aL⟩:=nW aL;obtain⟨k,O⟩:=AG aE (hρ _ _ aa);rw[O];exact fN.ie a4 (ai1 hu R aC (hρ _ _ af) aL)
  ·cases aA
 case makeInterface t x =>
  split at aA
  ·cases aA
  ·rename_i aQ aE hu;simp only[cJ] at aA;obtain⟨y,af,rfl⟩:=aA;obtain⟨aL,rfl⟩:=gB h rfl;exact fN.ie a4 (aiZ hu aE (hρ _ _ af) aL)
  ·cases aA
 case typeAssert x Xt t ok =>
  split at aA
  ·cases aA
  ·rename_i aQ aE hu;simp only[fy,fE,dd,bF] at aA;obtain⟨z,aP,y,af,rfl⟩:=aA;obtain⟨aL,rfl⟩:=gB h rfl;exact fN.ie a4 (ai0 hu aE aP (hρ _ _ af) aL)
  ·cases aA
 case makeMap t rs =>
  cases rs with
  |some _=>cases aA
  |none =>
   simp only at aA
   split at aA
   ·simp only[fy,fE,dd,bF] at aA;obtain⟨d,ae,rfl⟩:=aA;simp only[br,bF,ec] at h;obtain⟨rfl,rfl⟩:=h;exact fN.of (ai2 _ a4)
   ·cases aA
 case lookup t x i ok =>
  split at aA
  ·rename_i k e hu
   split at aA
   ·rename_i O;simp only[fy,fE,dd,bF] at aA;obtain⟨z,aP,y,af,j,aa,rfl⟩:=aA;obtain⟨aL,rfl⟩:=gB h rfl;exact fN.ie a4 (ai3 a4 hu O aP (hρ _ _ af) (hρ _ _ aa) aL)
   ·cases aA
  ·cases aA
 case mapUpdate t x i v =>
  split at aA
  ·rename_i k e hu
   split at aA
   ·rename_i O;simp only[fy,fE,dd,bF] at aA;obtain⟨eJ,J,aZ,L,oI,ai,rfl⟩:=aA;obtain⟨aj,E,G,rfl⟩:=ai4 a4 hu O (hρ _ _ J) (hρ _ _ L) (hρ _ _ ai) h;exact⟨.skip,undef,aj,B,by simp[E],.inr ⟨rfl,rfl⟩,G,.no⟩
   ·cases aA
  ·cases aA
 case extract x i =>
  simp only[cJ] at aA;obtain⟨y,af,rfl⟩:=aA;obtain⟨aL,rfl⟩:=gB h rfl;exact fN.ie a4 (aij (hρ _ _ af) aL)
 case call c =>
  exact ai7 a4 hρ aA h
 all_goals cases aA
end Go.Mini
namespace Go.Mini
open Go
inductive iM where
 |code (c:eF)
 |inBlock (id:Nat)
def cI (T:bj)(K:fi->a3->Prop):List iM->fi->a3->Prop
 | [],e,st=>K e st
 |.code c::k,.normal,st=>wp T c (cI T K k) st
 |.code _::k,.exit id,st=>cI T K k (.exit id) st
 |.code _::k,.ret,st=>cI T K k .ret st
 |.inBlock _::k,.normal,st=>cI T K k .normal st
 |.inBlock j::k,.exit id,st=>if id=j then cI T K k .normal st else cI T K k (.exit id) st
 |.inBlock _::k,.ret,st=>cI T K k .ret st
section
variable {T:bj} {K:fi->a3->Prop} {k:List iM} {st:a3}
def aja (c:eF):(λe bV=>match e with
  |.normal=>wp T c (cI T K k) bV
  |e=>cI T K k e bV)=cI T K (.code c::k):=by
 funext e bV
 cases e<;>rfl
def ajb (id:Nat):(λe bV=>match e with
  |.exit j=>if j=id then cI T K k .normal bV else cI T K k (.exit j) bV
  |e=>cI T K k e bV)=cI T K (.inBlock id::k):=by
 funext e bV
 cases e<;>rfl
@[go_sem] def ajc (e:fi):cI T K [] e st=K e st:=by cases e<;>rfl
@[go_sem] def avL (c:eF):cI T K (.code c::k) .normal st=wp T c (cI T K k) st:=bf
@[go_sem] def avM (c:eF)(id:Nat):cI T K (.code c::k) (.exit id) st=cI T K k (.exit id) st:=bf
@[go_sem] def avN (c:eF):cI T K (.code c::k) .ret st=cI T K k .ret st:=bf
@[go_sem] def avO (id:Nat):cI T K (.inBlock id::k) .normal st=cI T K k .normal st:=bf
@[go_sem] def avP (id j:Nat):cI T K (.inBlock j::k) (.exit id) st=if id=j then cI T K k .normal st else cI T K k (.exit id) st:=bf
@[go_sem] def avQ (id:Nat):cI T K (.inBlock id::k) .ret st=cI T K k .ret st:=bf
def xr {c:eF}(h:wp T c (cI T K []) st):wp T c K st:=by
 have:cI T K []=K:=by funext e st;cases e<;>rfl
 rwa [this] at h
@[go_sem] def wp_seq (a b:eF):wp T (.seq a b) (cI T K k) st=wp T a (cI T K (.code b::k)) st:=by
 rw[<-aja];rfl
@[go_sem] def wp_skip:wp T .skip (cI T K k) st=cI T K k .normal st:=bf
@[go_sem] def wp_ret:wp T .ret (cI T K k) st=cI T K k .ret st:=bf
@[go_sem] def wp_exit (id:Nat):wp T (.exit id) (cI T K k) st=cI T K k (.exit id) st:=bf
@[go_sem] def wp_block (id:Nat)(c:eF):wp T (.block id c) (cI T K k) st=wp T c (cI T K (.inBlock id::k)) st:=by
 rw[<-ajb];rfl
def oM (T:bj)(K:fi->a3->Prop)(k:List iM)(m:I)(a b:eF)(st:a3):Prop :=
 match m with
 |.M (.bool t)=>if t=true then wp T a (cI T K k) st else wp T b (cI T K k) st
 |_=>False
@[go_sem] def wp_cond (c:bg)(a b:eF):wp T (.cond c a b) (cI T K k) st=oM T K k (aI st.tm c) a b st:=bf
@[go_sem] def ajd (a b:eF):oM T K k (.M (.bool true)) a b st=wp T a (cI T K k) st:=bf
@[go_sem] def aje (a b:eF):oM T K k (.M (.bool false)) a b st=wp T b (cI T K k) st:=bf
def Dm (T:bj)(K:fi->a3->Prop)(k:List iM)(l:List bh)(st:a3):Prop:=vy T (cI T K k .normal) l st
@[go_sem] def wp_ops (l:List bh):wp T (.ops l) (cI T K k) st=Dm T K k l st:=bf
@[go_sem] def avR:Dm T K k [] st=cI T K k .normal st:=bf
def pL (T:bj)(K:fi->a3->Prop)(k:List iM)(g:Option Bool)(i:bh)(r:List bh)(st:a3):Prop :=
 match g with
 |none=>False
 |some g=>if g=true then fC T (vy T (cI T K k .normal) r) i st else Dm T K k r ⟨put st.tm i.dst .no,st.mem⟩
@[go_sem] def avS (i:bh)(r:List bh):Dm T K k (i::r) st=pL T K k (gy st.tm i.g) i r st:=bf
@[go_sem] def avT (i:bh)(r:List bh):pL T K k (some true) i r st=fC T (Dm T K k r) i st:=bf
@[go_sem] def avU (i:bh)(r:List bh):pL T K k (some false) i r st=Dm T K k r ⟨put st.tm i.dst .no,st.mem⟩:=bf
def y5 (T:bj)(K:fi->a3->Prop)(k:List iM)(n:Nat)(l:List bh)(c:List (List Nat))(rec:Rec)(st:a3):Prop:=sD T (cI T K k .normal) n l c rec st
@[go_sem] def avV (l:List bh)(c:List (List Nat)):wp T (.nk l c) (cI T K k) st=y5 T K k 0 l c (λ_=>none) st:=bf
@[go_sem] def avW (n:Nat)(c:List (List Nat))(rec:Rec):y5 T K k n [] c rec st=cI T K k .normal st:=bf
def pM (T:bj)(K:fi->a3->Prop)(k:List iM)(n:Nat)(g:Option Bool)(i:bh)(r:List bh)(c:List (List Nat))(rec:Rec)(st:a3):Prop :=
 match g with
 |none=>False
 |some g=>if g=true then (match ei T st.mem st.tm i.op with
    |some (m,e)=>rh rec (fD i.op,cf st.tm i.op) (c.headD [])=true/\y5 T K k (n+1) r c.tail (iy rec n (fD i.op,cf st.tm i.op)) ⟨put st.tm i.dst m,fB st.mem e⟩
    |none=>False) else y5 T K k (n+1) r c.tail rec ⟨put st.tm i.dst .no,st.mem⟩
@[go_sem] def avX (n:Nat)(i:bh)(r:List bh)(c:List (List Nat))(rec:Rec):y5 T K k n (i::r) c rec st=pM T K k n (gy st.tm i.g) i r c rec st:=bf
def XG (T:bj)(K:fi->a3->Prop)(k:List iM)(n:Nat)(x:Option (I×Option (Key×Nat×List I)))(i:bh)(r:List bh)(c:List (List Nat))(rec:Rec)(st:a3):Prop :=
 match x with
 |some (m,e)=>rh rec (fD i.op,cf st.tm i.op) (c.headD [])=true/\y5 T K k (n+1) r c.tail (iy rec n (fD i.op,cf st.tm i.op)) ⟨put st.tm i.dst m,fB st.mem e⟩
 |none=>False
@[go_sem] def avY (n:Nat)(i:bh)(r:List bh)(c:List (List Nat))(rec:Rec):pM T K k n (some true) i r c rec st=XG T K k n (ei T st.mem st.tm i.op) i r c rec st:=bf
@[go_sem] def avZ (n:Nat)(i:bh)(r:List bh)(c:List (List Nat))(rec:Rec):pM T K k n (some false) i r c rec st=y5 T K k (n+1) r c.tail rec ⟨put st.tm i.dst .no,st.mem⟩:=bf
@[go_sem] def av0 (n:Nat)(m:I)(e:Option (Key×Nat×List I))(i:bh)(r:List bh)(c:List (List Nat))(rec:Rec):XG T K k n (some (m,e)) i r c rec st =
 (rh rec (fD i.op,cf st.tm i.op) (c.headD [])=true/\y5 T K k (n+1) r c.tail (iy rec n (fD i.op,cf st.tm i.op)) ⟨put st.tm i.dst m,fB st.mem e⟩):=bf
end
section
variable {T:bj} {K:a3->Prop} {st:a3} {tm:Nat->I} {mem:Mem}
def wpS (K:a3->Prop)(x:Option (I×Option (Key×Nat×List I)))(d:Option Nat)(st:a3):Prop :=
 match x with
 |some (m,e)=>K ⟨put st.tm d m,fB st.mem e⟩
 |none=>False
@[go_sem] def av1 (m:I)(e:Option (Key×Nat×List I))(d:Option Nat):wpS K (some (m,e)) d st=K ⟨put st.tm d m,fB st.mem e⟩:=bf
variable (d:Option Nat) (g:Option (Nat×Bool))
@[go_sem] def av2 (x:bg):fC T K ⟨d,g,.hI x⟩ st=K ⟨put st.tm d (aI st.tm x),st.mem⟩:=bf
@[go_sem] def av3 (c a b:bg):fC T K ⟨d,g,.pick c a b⟩ st=wpS K (br st.mem st.tm (.pick c a b)) d st:=bf
@[go_sem] def av4 (k:Key)(z:List I):fC T K ⟨d,g,.alloc k z⟩ st=K ⟨put st.tm d (.ptr k (bp st.mem k) 0),aR st.mem k (bp st.mem k) z⟩:=bf
@[go_sem] def av5 (k:Key)(x:bg):fC T K ⟨d,g,.box k x⟩ st=wpS K (br st.mem st.tm (.box k x)) d st:=bf
@[go_sem] def av6 (z:List I)(cD:List (Nat×Nat×bg)):fC T K ⟨d,g,.build z cD⟩ st=wpS K (br st.mem st.tm (.build z cD)) d st:=bf
@[go_sem] def av7 (k:Key)(o:Bool)(z:List I)(sz len:Nat)(cD:List (Nat×Nat×bg)):fC T K ⟨d,g,.ed k o z sz len cD⟩ st=wpS K (br st.mem st.tm (.ed k o z sz len cD)) d st:=bf
@[go_sem] def av8 (n:Nat)(bC:Bool)(x:bg):fC T K ⟨d,g,.load n bC x⟩ st=wpS K (br st.mem st.tm (.load n bC x)) d st:=bf
@[go_sem] def av9 (n:Nat)(x v:bg):fC T K ⟨d,g,.store n x v⟩ st=wpS K (br st.mem st.tm (.store n x v)) d st:=bf
@[go_sem] def awa (op:BinOp)(x y:bg):fC T K ⟨d,g,.bin op x y⟩ st=wpS K (br st.mem st.tm (.bin op x y)) d st:=bf
@[go_sem] def awb (b:Bool)(n:List Nat)(x y:bg):fC T K ⟨d,g,.eqs b n x y⟩ st=wpS K (br st.mem st.tm (.eqs b n x y)) d st:=bf
@[go_sem] def awc (b:Bool)(x y:bg):fC T K ⟨d,g,.beq b x y⟩ st=wpS K (br st.mem st.tm (.beq b x y)) d st:=bf
@[go_sem] def awd (op:UnOp)(x:bg):fC T K ⟨d,g,.un op x⟩ st=wpS K (br st.mem st.tm (.un op x)) d st:=bf
@[go_sem] def awe (k:IntKind)(x:bg):fC T K ⟨d,g,.conv k x⟩ st=wpS K (br st.mem st.tm (.conv k x)) d st:=bf
@[go_sem] def awf (x:bg):fC T K ⟨d,g,.tM x⟩ st=wpS K (br st.mem st.tm (.tM x)) d st:=bf
@[go_sem] def awg (k:Key)(z:List I)(b:Nat)(x y:bg):fC T K ⟨d,g,.lb k z b x y⟩ st=wpS K (br st.mem st.tm (.lb k z b x y)) d st:=bf
@[go_sem] def awh (o:Nat)(x:bg):fC T K ⟨d,g,.sx o x⟩ st=wpS K (br st.mem st.tm (.sx o x)) d st:=bf
@[go_sem] def awi (o n:Nat)(bC:Bool)(x:bg):fC T K ⟨d,g,.w8 o n bC x⟩ st=wpS K (br st.mem st.tm (.w8 o n bC x)) d st:=bf
@[go_sem] def awj (s:Nat)(x i:bg):fC T K ⟨d,g,.tN s x i⟩ st=wpS K (br st.mem st.tm (.tN s x i)) d st:=bf
@[go_sem] def awk (n s:Nat)(x i:bg):fC T K ⟨d,g,.Az n s x i⟩ st=wpS K (br st.mem st.tm (.Az n s x i)) d st:=bf
@[go_sem] def awl (x i:bg):fC T K ⟨d,g,.idxs x i⟩ st=wpS K (br st.mem st.tm (.idxs x i)) d st:=bf
@[go_sem] def awm (s:Nat)(x:bg)(a b c:Option bg):fC T K ⟨d,g,.qn s x a b c⟩ st=wpS K (br st.mem st.tm (.qn s x a b c)) d st:=bf
@[go_sem] def awn (n s:Nat)(x:bg)(a b c:Option bg):fC T K ⟨d,g,.sy n s x a b c⟩ st=wpS K (br st.mem st.tm (.sy n s x a b c)) d st:=bf
@[go_sem] def awo (x:bg)(a b:Option bg):fC T K ⟨d,g,.AA x a b⟩ st=wpS K (br st.mem st.tm (.AA x a b)) d st:=bf
@[go_sem] def awp (i:Nat)(x:bg):fC T K ⟨d,g,.ext i x⟩ st=wpS K (br st.mem st.tm (.ext i x)) d st:=bf
@[go_sem] def awq (x:bg):fC T K ⟨d,g,.len x⟩ st=wpS K (br st.mem st.tm (.len x)) d st:=bf
@[go_sem] def awr (x:bg):fC T K ⟨d,g,.lens x⟩ st=wpS K (br st.mem st.tm (.lens x)) d st:=bf
@[go_sem] def aws (k:Key)(z:List I)(b:Nat)(s x:bg):fC T K ⟨d,g,.app k z b s x⟩ st=wpS K (br st.mem st.tm (.app k z b s x)) d st:=bf
@[go_sem] def awt (z:List I)(x:bg):fC T K ⟨d,g,.sA z x⟩ st=wpS K (br st.mem st.tm (.sA z x)) d st:=bf
@[go_sem] def awu (s:Nat)(x y:bg):fC T K ⟨d,g,.qo s x y⟩ st=wpS K (br st.mem st.tm (.qo s x y)) d st:=bf
@[go_sem] def awv (b:Bool)(x y:bg):fC T K ⟨d,g,.kI b x y⟩ st=wpS K (br st.mem st.tm (.kI b x y)) d st:=bf
@[go_sem] def aww (f:FuncId)(l:List bg):fC T K ⟨d,g,.tO f l⟩ st=wpS K (br st.mem st.tm (.tO f l)) d st:=bf
def ui (K:a3->Prop)(x:Option fV)(d:Option Nat)(st:a3):Prop :=
 match x with
 |some (.same r)=>K ⟨put st.tm d (.M r),st.mem⟩
 |some (.own _ es)=>K ⟨put st.tm d (.M (.ay es)),st.mem⟩
 |some (.rel bR)=>∀r mem',bR r mem'->K ⟨put st.tm d r,mem'⟩
 |some (.er r k g i c)=>K ⟨put st.tm d (.M r),aR st.mem k g ((py st.mem k).set i c)⟩
 |some (.xb r k)=>K ⟨put st.tm d (.M r),aR st.mem k (bp st.mem k) []⟩
 |none=>False
@[go_sem] def awx (f:FuncId)(l:List bg):fC T K ⟨d,g,.call f l⟩ st=ui K (T f (l.map (aI st.tm)) st.mem) d st:=bf
@[go_sem] def awy (r:Data)(k:Key)(g i:Nat)(c:I):ui K (some (.er r k g i c)) d st=K ⟨put st.tm d (.M r),aR st.mem k g ((py st.mem k).set i c)⟩:=bf
@[go_sem] def awz (r:Data)(k:Key):ui K (some (.xb r k)) d st=K ⟨put st.tm d (.M r),aR st.mem k (bp st.mem k) []⟩:=bf
@[go_sem] def awA (r:Data):ui K (some (.same r)) d st=K ⟨put st.tm d (.M r),st.mem⟩:=bf
@[go_sem] def awB (s:Nat)(es:List (List Data)):ui K (some (.own s es)) d st=K ⟨put st.tm d (.M (.ay es)),st.mem⟩:=bf
@[go_sem] def ajf (bR:I->Mem->Prop):ui K (some (.rel bR)) d st=∀r mem',bR r mem'->K ⟨put st.tm d r,mem'⟩:=bf
def Qm (T:bj)(K:a3->Prop)(m:I)(args:List I)(d:Option Nat)(st:a3):Prop :=
 match m with
 |.dB g cU=>ui K (T g (args++cU) st.mem) d st
 |.M (.fn g ds)=>ui K (T g (args++ds.map .M) st.mem) d st
 |_=>False
@[go_sem] def awC (f:bg)(l:List bg):fC T K ⟨d,g,.jc f l⟩ st=Qm T K (aI st.tm f) (l.map (aI st.tm)) d st:=bf
@[go_sem] def awD (f:FuncId)(cU args:List I):Qm T K (.dB f cU) args d st=ui K (T f (args++cU) st.mem) d st:=bf
@[go_sem] def awE (f:FuncId)(ds:List Data)(args:List I):Qm T K (.M (.fn f ds)) args d st=ui K (T f (args++ds.map .M) st.mem) d st:=bf
def Qn (K:a3->Prop)(x:Option fV)(k:Key)(sz:Nat)(d:Option Nat)(st:a3):Prop :=
 match x with
 |some (.own dC es)=>if dC=sz then K ⟨put st.tm d (.ref k (bp st.mem k) sz 0 (D es)),aR st.mem k (bp st.mem k) (es.flatten.map .M)⟩ else False
 |_=>False
@[go_sem] def awF (k:Key)(sz:Nat)(f:FuncId)(l:List bg):fC T K ⟨d,g,.kJ k sz f l⟩ st=Qn K (T f (l.map (aI st.tm)) st.mem) k sz d st:=bf
@[go_sem] def awG (k:Key)(sz:Nat)(es:List (List Data)):Qn K (some (.own sz es)) k sz d st=K ⟨put st.tm d (.ref k (bp st.mem k) sz 0 (D es)),aR st.mem k (bp st.mem k) (es.flatten.map .M)⟩:=by simp[Qn]
def XH (K:a3->Prop)(neg:Bool)(x:Option Bool)(d:Option Nat)(st:a3):Prop :=
 match x with
 |some full=>∀b:Bool,(full=true->b=false)->K ⟨put st.tm d (.M (.bool (neg != b))),st.mem⟩
 |none=>False
@[go_sem] def awH (neg:Bool)(x:bg):fC T K ⟨d,g,.kH neg x⟩ st=XH K neg (xc (aI st.tm x)) d st:=bf
@[go_sem] def awI (neg full:Bool):XH K neg (some full) d st=∀b:Bool,(full=true->b=false)->K ⟨put st.tm d (.M (.bool (neg != b))),st.mem⟩:=bf
end
section
variable {tm:Nat->I} {mem:Mem}
@[go_sem] def awJ (s:Nat):aI tm (.t s)=tm s:=bf
@[go_sem] def awK (m:I):aI tm (.c m)=m:=bf
@[go_sem] def awL (s:Nat)(m:I):put tm (some s) m=er tm s m:=bf
@[go_sem] def awM (m:I):put tm none m=tm:=bf
@[go_sem] def awN (s:Nat)(m:I)(t:Nat):er tm s m t=if t=s then m else tm t:=bf
@[go_sem] def awO (k:Key)(g:Nat)(cs:List I)(j:Key):aR mem k g cs j=if j=k then some (g,cs) else mem j:=bf
@[go_sem] def awP:fB mem none=mem:=bf
@[go_sem] def awQ (k:Key)(g:Nat)(cs:List I):fB mem (some (k,g,cs))=aR mem k g cs:=bf
def hL:Option (Nat×List I)->Nat
 |none=>0
 |some (g,_)=>g+1
@[go_sem] def awR (k:Key):bp mem k=hL (mem k):=by unfold bp hL;rfl
@[go_sem] def awS:hL none=0:=bf
@[go_sem] def awT (g:Nat)(cs:List I):hL (some (g,cs))=g+1:=bf
@[go_sem] def awU (k:Key):emp k=none:=bf
@[go_sem] def awV:gy tm none=some true:=bf
def Lp (m:I)(b:Bool):Option Bool :=
 match m with
 |.M (.bool t)=>some (t==b)
 |.no=>some false
 |_=>none
@[go_sem] def awW (s:Nat)(b:Bool):gy tm (some (s,b))=Lp (tm s) b:=bf
@[go_sem] def awX (b:Bool):Lp .no b=some false:=bf
variable (op:fh)
@[go_sem] def awY (m:I):hJ (some m)=some (m,none):=bf
@[go_sem] def awZ (x:bg):br mem tm (.hI x)=some (aI tm x,none):=bf
@[go_sem] def aw0 (c a b:bg):br mem tm (.pick c a b)=hJ (CX (aI tm c) (aI tm a) (aI tm b)):=bf
@[go_sem] def aw1 (a b:I):CX (.M (.bool true)) a b=some a:=bf
@[go_sem] def aw2 (a b:I):CX (.M (.bool false)) a b=some b:=bf
@[go_sem] def aw3 (k:Key)(z:List I):br mem tm (.alloc k z)=some (.ptr k (bp mem k) 0,some (k,bp mem k,z)):=bf
@[go_sem] def aw4 (k:Key)(x:bg):br mem tm (.box k x)=if (aI tm x).known=true then some (.ptr k (bp mem k) 0,some (k,bp mem k,(aI tm x).cells)) else none:=bf
@[go_sem] def aw5 (z:List I)(cD:List (Nat×Nat×bg)):br mem tm (.build z cD)=hJ ((jw (aI tm) z cD).map .agg):=bf
@[go_sem] def aw6 (k:Key)(z:List I)(sz len:Nat)(cD:List (Nat×Nat×bg)):br mem tm (.ed k false z sz len cD)=hJ (Gd z sz len (jw (aI tm) z cD)):=bf
@[go_sem] def aw7 (k:Key)(z:List I)(sz len:Nat)(cD:List (Nat×Nat×bg)):br mem tm (.ed k true z sz len cD)=C0 k (bp mem k) z sz len (jw (aI tm) z cD):=bf
@[go_sem] def aw8 (n:Nat)(bC:Bool)(x:bg):br mem tm (.load n bC x)=hJ (ic mem n bC (aI tm x)):=bf
@[go_sem] def aw9 (n:Nat)(x v:bg):br mem tm (.store n x v)=vw mem n (aI tm x) (aI tm v).cells:=bf
@[go_sem] def axa (b:BinOp)(x y:bg):br mem tm (.bin b x y)=hJ (CV b (aI tm x) (aI tm y)):=bf
@[go_sem] def axb (neg:Bool)(x y:bg):br mem tm (.beq neg x y)=hJ (CW neg (aI tm x) (aI tm y)):=bf
@[go_sem] def axc (neg:Bool)(n:List Nat)(x y:bg):br mem tm (.eqs neg n x y)=hJ (Ge neg n (aI tm x) (aI tm y)):=bf
@[go_sem] def axd (u:UnOp)(x:bg):br mem tm (.un u x)=hJ (Gc u (aI tm x)):=bf
@[go_sem] def axe (k:IntKind)(x:bg):br mem tm (.conv k x)=hJ (Gf k (aI tm x)):=bf
@[go_sem] def axf (x:bg):br mem tm (.tM x)=hJ (Gg (aI tm x)):=bf
@[go_sem] def axg (k:Key)(z:List I)(b:Nat)(x y:bg):br mem tm (.lb k z b x y)=Gr (idx (aI tm x)) (idx (aI tm y)) (C1 k (bp mem k) z b):=bf
@[go_sem] def axh (o:Nat)(x:bg):br mem tm (.sx o x)=hJ (CY o (aI tm x)):=bf
@[go_sem] def axi (o n:Nat)(bC:Bool)(x:bg):br mem tm (.w8 o n bC x)=hJ (CZ o n bC (aI tm x)):=bf
@[go_sem] def axj (s:Nat)(x i:bg):br mem tm (.tN s x i)=hJ (g2 (idx (aI tm i)) λn=>Gh s n (aI tm x)):=bf
@[go_sem] def axk (n s:Nat)(x i:bg):br mem tm (.Az n s x i)=hJ (g2 (idx (aI tm i)) λm=>Gi n s m (aI tm x)):=bf
@[go_sem] def axl (x i:bg):br mem tm (.idxs x i)=hJ (g2 (idx (aI tm i)) λn=>Gj n (aI tm x)):=bf
@[go_sem] def axm (s:Nat)(x:bg)(bQ L:Option bg):br mem tm (.qn s x bQ L none)=hJ (g2 (iI 0 (bQ.map (aI tm))) λl=>g2 (sB (aI tm x)) λlen=>g2 (iI len (L.map (aI tm))) λh=>Gk s l h (aI tm x)):=bf
@[go_sem] def axn (s:Nat)(x h m:bg)(bQ:Option bg):br mem tm (.qn s x bQ (some h) (some m)) =
 hJ (g2 (iI 0 (bQ.map (aI tm))) λl=>g2 (idx (aI tm h)) λh=>g2 (idx (aI tm m)) λm=>Gl s l h m (aI tm x)):=bf
@[go_sem] def axo (n s:Nat)(x:bg)(bQ L:Option bg):br mem tm (.sy n s x bQ L none)=hJ (g2 (iI 0 (bQ.map (aI tm))) λl=>g2 (iI n (L.map (aI tm))) λh=>yT mem n s l h (aI tm x)):=bf
@[go_sem] def axp (x:bg)(bQ L:Option bg):br mem tm (.AA x bQ L)=hJ (g2 (iI 0 (bQ.map (aI tm))) λl=>g2 (xa (aI tm x)) λlen=>g2 (iI len (L.map (aI tm))) λh=>Gm l h (aI tm x)):=bf
@[go_sem] def axq (i:Nat)(x:bg):br mem tm (.ext i x)=hJ (Gn i (aI tm x)):=bf
@[go_sem] def axr (x:bg):br mem tm (.len x)=hJ (g2 (sB (aI tm x)) λn=>some (.M (.int .i64 n))):=bf
@[go_sem] def axs (x:bg):br mem tm (.lens x)=hJ (g2 (xa (aI tm x)) λn=>some (.M (.int .i64 n))):=bf
@[go_sem] def axt (k:Key)(z:List I)(b:Nat)(s x:bg):br mem tm (.app k z b s x)=px mem k z b (aI tm s) (oG mem (D z) (aI tm x)):=bf
@[go_sem] def axu (z:List I)(x:bg):br mem tm (.sA z x)=vx mem z (aI tm x):=bf
@[go_sem] def axv (s:Nat)(x y:bg):br mem tm (.qo s x y)=tQ mem s (aI tm x) (oG mem s (aI tm y)):=bf
@[go_sem] def axw (b:Bool)(x y:bg):br mem tm (.kI b x y)=hJ (Gp b (aI tm x) (aI tm y)):=bf
@[go_sem] def axx (f:FuncId)(l:List bg):br mem tm (.tO f l)=some (.dB f (l.map (aI tm)),none):=bf
@[go_sem] def axy (n:Nat)(f:Nat->Option I):g2 (some n) f=f n:=bf
@[go_sem] def axz (n m:Nat)(f:Nat->Nat->Out):Gr (some n) (some m) f=f n m:=bf
def Lq (n:Nat)(bC:Bool)(g off:Nat):Option (Nat×List I)->Option I
 |some (cd,cs)=>if cd=g then (cut cs off n).bind (nR bC) else none
 |none=>none
@[go_sem] def axA (n:Nat)(bC:Bool)(k:Key)(g off:Nat):ic mem n bC (.ptr k g off)=Lq n bC g off (mem k):=by unfold ic Lq;rfl
@[go_sem] def axB (n:Nat)(bC:Bool)(g off:Nat)(cs:List I):Lq n bC g off (some (g,cs))=(cut cs off n).bind (nR bC):=by simp[Lq]
@[go_sem] def axC (n:Nat)(bC:Bool)(ds:List Data):ic mem n bC (.M (.ptr ds))=(cut (ds.map .M) 0 n).bind (nR bC):=bf
@[go_sem] def axD (n:Nat)(k:Key)(g off:Nat)(v:List I):vw mem n (.ptr k g off) v=Gs n k g off v (mem k):=bf
@[go_sem] def axE (cs:List I):nR true cs=some (.agg cs):=bf
@[go_sem] def axF (m:I):nR false [m]=some m:=bf
@[go_sem] def axG (cs:List I):(I.agg cs).cells=cs:=bf
@[go_sem] def axH (cs:List Data):(I.M (.agg cs)).cells=cs.map .M:=bf
@[go_sem] def axI (k:IntKind)(n:Int):(I.M (.int k n)).cells=[.M (.int k n)]:=bf
@[go_sem] def axJ (b:Bool):(I.M (.bool b)).cells=[.M (.bool b)]:=bf
@[go_sem] def axK (l:List UInt8):(I.M (.str l)).cells=[.M (.str l)]:=bf
@[go_sem] def axL (l:List (List Data)):(I.M (.ay l)).cells=[.M (.ay l)]:=bf
@[go_sem] def axM (l:List Data):(I.M (.ptr l)).cells=[.M (.ptr l)]:=bf
@[go_sem] def axN (f:FuncId)(l:List Data):(I.M (.fn f l)).cells=[.M (.fn f l)]:=bf
@[go_sem] def axO:I.nil.cells=[.nil]:=bf
@[go_sem] def axP (k:Key)(g s o l:Nat):(I.ref k g s o l).cells=[.ref k g s o l]:=bf
@[go_sem] def axQ (k:Key)(g o:Nat):(I.ptr k g o).cells=[.ptr k g o]:=bf
@[go_sem] def axR (f:FuncId)(l:List I):(I.dB f l).cells=[.dB f l]:=bf
@[go_sem] def axS (k:IntKind)(n:Nat):idx (.M (.int k (n:Int)))=some n:=by simp[idx]
@[go_sem] def axT (k:IntKind):idx (.M (.int k 0))=some 0:=bf
@[go_sem low] def axU (k:IntKind)(n:Int):idx (.M (.int k n))=if 0<=n then some n.toNat else none:=bf
end
attribute [go_sem] AD CW CV Gc Gf Gg CY CZ Gh Gi Gj Gk Gl yT PN Gm Gn Gp iI sB xa Gs tQ yU vx K1 C1 C0 Gd Ge yS KY jw jJ cut chunk
 CU KV KW KX xc shut re I.one I.known oG l9 cf yW Gw pz py C2 Gy PQ Gz PR Gx PO K4 tR keyOf fD rh pA iy ei jK C4 jd
end Go.Mini
namespace Go.Mini
open Go
variable {P:Program} {A:Nat->Prop} {w:World} {B:cB} {mem:Mem}
def xt (w aj:World)(ax:Nat->Prop)(sz:Nat)(es:List (List Data))(v:Value):Prop :=
 (∀e∈es,D e=sz)/\∃a cap,v=.slice a (D es) cap/\D es<=cap/\cap<=maxLen /\
  (cap=0\/∃b vs T,a=some ⟨b,0,none⟩/\w.heap.size<=b/\aj.heap[b]?=some (.cells vs T (0,0))/\cap*sz<=vs.size /\
   ∀(i:Nat) (d:Data),es.flatten[i]?=some d->∃u,vs[i]?=some u/\Den aj (λdt=>ax dt\/dt=b) d u)
def Qo (P:Program)(f:FuncId)(vs:List Value)(A:Nat->Prop)(w:World)(B:cB)(mem:Mem):fV->Prop
 |.same r=>Calls P f vs.toArray w λe aj=>∃v,e=.returned v/\Fr (λ_=>False) w aj/\Den aj (bb A B) r v
 |.own sz es=>Calls P f vs.toArray w λe aj=>∃v,e=.returned v/\Fr (λ_=>False) w aj/\xt w aj (bb A B) sz es v
 |.rel bR=>Calls P f vs.toArray w λe aj=>∃v r mem' aB,e=.returned v/\cT A w B aj aB mem'/\aN aj (bb A aB) aB r v/\bR r mem'
 |.xb r k=>Calls P f vs.toArray w λe aj=>∃v aB,e=.returned v/\cT A w B aj aB (aR mem k (bp mem k) [])/\aN aj (bb A aB) aB (.M r) v
 |.er r k g i c=>Calls P f vs.toArray w λe aj=>∃v aB,e=.returned v/\cT A w B aj aB (aR mem k g ((py mem k).set i c))/\aN aj (bb A aB) aB (.M r) v
def Real (P : Program)(f : FuncId): Prop := ∃ fn c, P.funcs[f]? = some fn /\ fn.body = some c /\ (fn.name == "runtime.NumGoroutine") = false
def mS (P:Program)(T:bj):Prop:=∀f args mem np,T f args mem=some np->Real P f /\
 ∀A w B vs,dj A w B mem->ck w (bb A B) B args vs->Qo P f vs A w B mem np
def AQ {f:FuncId}(h:Real P f)(args:Array Value):(callFunc f args).run P w=.ok (.enter f args) w:=by
 obtain⟨fn,c,ag,U,aE⟩:=h;have E : fn.name ≠ "runtime.NumGoroutine" := by simpa using aE
 simp[callFunc,ag,E,U]
def Den.less {w:World}{ax gI:Nat->Prop}(h:∀b,gI b->ax b){d:Data}{v:Value}(ae:Den w ax d v):Den w gI d v :=
 ae.ju (bI _) λb _ U=>⟨rfl,λJ=>U (h b J)⟩
def xt.den {w aj:World}{ax:Nat->Prop}{sz:Nat}{es:List (List Data)}{v:Value}(av:∀b,ax b->b<w.heap.size)(h:xt w aj ax sz es v):Den aj ax (.ay es) v:=by
 obtain⟨he,a,cap,rfl,E,G,ab⟩:=h;rcases ab with rfl|⟨b,vs,T,rfl,aM,bl,bz,bP⟩
 ·have:es=[]:=qt (by omega);subst this;exact .j6
 ·have nq:b<aj.heap.size:=(Array.getElem?_eq_some_iff.1 bl).1;refine .ay (sz:=sz) (λi=>vs.getD i undef) E (by omega) nq (λa0=>by have:=av b a0;omega) he (λi L=>?_) λi d ae=>?_
  ·have av:i<D es.flatten:=by rw[KO he];exact L
   obtain⟨u,hu,_⟩:=bP i _ (bw av);rw[cell_of_row aj b _ vs T (0,0) bl,kM,Array.getD_eq_getD_getElem?,hu]
   rfl
  ·obtain⟨u,hu,ae⟩:=bP i d ae;rw[Array.getD_eq_getD_getElem?,hu];exact ae.less λb h => .inl h
def XI {aj:World}{sz:Nat}{es:List (List Data)}{v:Value}(k:Key)(a4:dj A w B mem)(f:Fr (λ_=>False) w aj)(h:xt w aj (bb A B) sz es v):
  ∃aB,cT A w B aj aB (aR mem k (bp mem k) (es.flatten.map .M))/\aN aj (bb A aB) aB (.ref k (bp mem k) sz 0 (D es)) v:=by
 obtain⟨he,a,cap,rfl,E,G,ab⟩:=h;have still:=cT.still a4 f;rcases ab with rfl|⟨b,vs,T,rfl,aM,bl,bz,bP⟩
 ·have:es=[]:=qt (by omega);subst this;exact⟨_,still.trans (cT.vB still.b4 k),.ref (eX _ _ _) (bI _) ⟨_,0,rfl,E,G,.inl rfl⟩⟩
 ·have nq:b<aj.heap.size:=(Array.getElem?_eq_some_iff.1 bl).1
  have je:∀dt,(⟨bp mem k,some b,vs.size,false⟩:gU).cW=some dt->w.heap.size<=dt\/∃e,B k=some e/\e.cW=some dt:=λdt g3=>by
   cases g3;exact .inl aM
  have kO:=KO he;have hmul:(D es)*sz<=cap*sz:=mJ _ E;have hold:∀dt,dt<w.heap.size->(∀e,B k=some e->e.cW≠some dt)->aj.heap[dt]?=w.heap[dt]?:=λdt g3 _=>f.block dt g3 id;have aC:∀e,B k=some e->(⟨bp mem k,some b,vs.size,false⟩:gU)=e\/e.g<(⟨bp mem k,some b,vs.size,false⟩:gU).g:=λe he => .inr (yX a4 k e he);refine⟨eu B k ⟨bp mem k,some b,vs.size,false⟩,⟨?_,Trans.change f.size hold aC je,⟨f.os,f.tape,f.output,f.size,λdt g3 _=>f.block dt g3 id⟩,K9 je⟩,?_⟩
  ·refine a4.PT (e':=⟨bp mem k,some b,vs.size,false⟩) f.size hold aC je (λh=>by cases h) λdt g3=>?_
   cases g3;refine .inl ⟨rfl,vs,T,bl,rfl,by rw[au,kO];omega,λi m hm=>?_⟩
   rw[bD,cJ] at hm;obtain⟨d,ae,rfl⟩:=hm;obtain⟨u,hu,mT⟩:=bP i d ae;refine⟨u,hu,.M (mT.less λdt g3=>?_)⟩;rcases g3 with ⟨j,e,aa,J⟩|a2
   ·by_cases bL:j=k
    ·subst bL;rw[eX] at aa
     cases aa
     cases J;exact .inr rfl
    ·rw[eR B _ bL] at aa;exact .inl (.inl ⟨j,e,aa,J⟩)
   ·exact .inl (.inr a2)
  ·exact .ref (eX _ _ _) (bI _) ⟨_,cap,rfl,E,G,.inr ⟨b,rfl,λ_=>⟨rfl,by simpa using bz,rfl⟩⟩⟩
end Go.Mini
namespace Go.Mini
open Go
variable {P:Program} {aQ:Option I} {T:bj} {A:Nat->Prop} {b5 w:World} {c4 B:cB} {mem:Mem} {n:Nat}
def GX (w:World)(ax:Nat->Prop)(B:cB):Option I->List Deferred->Prop
 |none,ds=>ds=[]
 |some m,ds=>∃f cU vs,m=.dB f cU/\ds=[{ target:=.fn (.func f) vs,args:=#[] }]/\aN w ax B m (.func (.func f) #[] vs)
def GX.ju {aj:World}{aB:cB}(t:Trans A w B aj aB):∀{d:Option I} {ds:List Deferred},GX w (bb A B) B d ds->GX aj (bb A aB) aB d ds
 |none,_,h=>h
 |some _,_,⟨f,cU,vs,E,G,ab⟩=>⟨f,cU,vs,E,G,ab.ju t⟩
structure dq (aQ:Option I) (n:Nat) (A:Nat->Prop) (b5:World) (c4:cB) (a:Act) (st:a3) (w:World) (B:cB):Prop where
 ok:cT A b5 c4 w B st.mem
 tm:∀s,aN w (bb A B) B (st.tm s) (a.eval (.tmp s))
 sz:a.tmps.size=n
 vM:GX w (bb A B) B aQ a.defers
def dq.jy {a:Act}{st:a3}(h:dq aQ n A b5 c4 a st w B)(x:Operand)(y:bg)(J:cu x=some y):aN w (bb A B) B (aI st.tm y) (a.eval x):=by
 cases x<;>simp only[cu,bF,cJ,reduceCtorEq] at J
 ·subst J;exact h.tm _
 ·obtain⟨m,hm,rfl⟩:=J;exact WY hm
 ·subst J;exact .dB (vs:=[]) rfl λi d v E=>by simp at E
def ajg {a:Act}{s:Nat}{v:Value}(h:s<a.tmps.size):(a.put (some s) v).eval (.tmp s)=v:=by
 simp[Act.eval,Act.put,h]
def dq.put {a:Act}{st:a3}{aj:World}{aB:cB}{mem':Mem}{dst:Option Nat}{r:I}{v:Value}(h:dq aQ n A b5 c4 a st w B)(R:cT A w B aj aB mem')(Q:aN aj (bb A aB) aB r v)
  (ae:dst.all (λd=>decide (d<n))=true):dq aQ n A b5 c4 (a.put dst v) ⟨Mini.put st.tm dst r,mem'⟩ aj aB:=by
 refine⟨h.ok.trans R,λs=>?_,?_,?_⟩
 ·cases dst with
  |none=>exact (h.tm s).ju R.h0
  |some d =>
   simp only[Option.all_some,decide_eq_true_eq] at ae
   by_cases Qp:s=d
   ·subst Qp;rw[ajg (by rw[h.sz];exact ae)];simp only[Mini.put,er,if_true];exact Q
   ·rw[Act.eval_put (λpK E G=>by cases E;cases G;exact Qp rfl)];simp only[Mini.put,er,ar Qp];exact (h.tm s).ju R.h0
 ·cases dst<;>simp[Act.put,h.sz]
 ·have kL:(a.put dst v).defers=a.defers:=by cases dst<;>rfl
  rw[kL];exact h.vM.ju R.h0
def y6 {a:Act}{st:a3}{ops:Array Oper}{o:Oper}{g:Option (Nat×Bool)}{b:Bool}(h:dq aQ n A b5 c4 a st w B)(aC:GC ops o.guard=some g)(U:gy st.tm g=some b):
  Region.wanted o (yielded ops a.tmps)=b:=by
 unfold Region.wanted
 cases tY:o.guard with
 |none =>
  rw[tY] at aC;simp only[GC,bF] at aC;subst aC;simp only[gy,bF] at U;exact U
 |some p =>
  obtain⟨j,c⟩:=p;rw[tY] at aC;simp only[GC] at aC
  split at aC
  ·rename_i s R;simp only[bF] at aC;subst aC;have ai:=h.tm s
   have af:yielded ops a.tmps j=match a.eval (.tmp s) with|.bool b=>some b|_=>none:=by
    unfold yielded;rw[R];simp only[Option.bind_some,Act.eval,Array.getD_eq_getD_getElem?]
    cases a.tmps[s]? with
    |none=>rfl
    |some v=>cases v<;>rfl
   simp only[gy] at U;simp only[af]
   split at U
   ·rename_i t bx;rw[bx] at ai
    cases ai with
    |M ai =>
     generalize a.eval (.tmp s)=u at *
     cases ai;simp only[bF] at U;subst U
     cases t<;>cases c<;>simp
   ·rename_i bx;rw[bx] at ai;generalize a.eval (.tmp s)=u at *
    cases ai;simp only[bF] at U;subst U
    rfl
   ·cases U
  ·cases aC
def GY {kb:Nat}{own:List Nat}{dst:Option Nat}{ty:TypeId}{op:Op}{f:FuncId}{args:List bg}(h:gk P kb own dst ty op=some (.call f args)):
  ∃c:Call,op=.call c/\c.callee=.value (.func f)/\c.args.toList.mapM cu=some args:=by
 cases op<;>simp only[gk,sH,sG] at h
 case call c =>
  refine⟨c,rfl,?_⟩;unfold rj at h
  (repeat' split at h)<;>simp_all [dd,cJ]
 all_goals ((repeat' split at h)<;>simp_all [dd,cJ])
def ajh {kb:Nat}{own:List Nat}{dst:Option Nat}{ty:TypeId}{op:Op}{f:FuncId}{bQ:Nat}{args:List bg}(h:gk P kb own dst ty op=some (.j7 bQ f args)):
  ∃c:Call,op=.call c/\c.callee=.value (.func f)/\c.args.toList.mapM cu=some args:=by
 cases op<;>simp only[gk,sH,sG] at h
 case call c =>
  refine⟨c,rfl,?_⟩;unfold rj at h
  (repeat' split at h)<;>simp_all [dd,cJ]
  all_goals
   obtain⟨_,E,_,rfl,rfl⟩:=h;exact⟨rfl,E⟩
 all_goals ((repeat' split at h)<;>simp_all [dd,cJ])
def aji {kb:Nat}{own:List Nat}{dst:Option Nat}{ty:TypeId}{op:Op}{f:FuncId}{bQ:Nat}{args:List bg}(h:gk P kb own dst ty op=some (.pv bQ f args)):
  ∃c:Call,op=.call c/\c.callee=.value (.func f)/\c.args.toList.mapM cu=some args:=by
 cases op<;>simp only[gk,sH,sG] at h
 case call c =>
  refine⟨c,rfl,?_⟩;unfold rj at h
  (repeat' split at h)<;>simp_all [dd,cJ]
  all_goals
   obtain⟨_,E,_,rfl,rfl⟩:=h;exact⟨rfl,E⟩
 all_goals ((repeat' split at h)<;>simp_all [dd,cJ])
def ajj {kb:Nat}{own:List Nat}{dst:Option Nat}{ty:TypeId}{op:Op}{f:FuncId}{bQ:Nat}{args:List bg}(h:gk P kb own dst ty op=some (.pw bQ f args)):
  ∃c:Call,op=.call c/\c.callee=.value (.func f)/\c.args.toList.mapM cu=some args:=by
 cases op<;>simp only[gk,sH,sG] at h
 case call c =>
  refine⟨c,rfl,?_⟩;unfold rj at h
  (repeat' split at h)<;>simp_all [dd,cJ]
  all_goals
   obtain⟨_,E,_,rfl,rfl⟩:=h;exact⟨rfl,E⟩
 all_goals ((repeat' split at h)<;>simp_all [dd,cJ])
def XJ {kb:Nat}{own:List Nat}{dst:Option Nat}{ty:TypeId}{op:Op}{f:FuncId}{k:Key}{sz:Nat}{args:List bg}(h:gk P kb own dst ty op=some (.kJ k sz f args)):
  ∃c:Call,op=.call c/\c.callee=.value (.func f)/\c.args.toList.mapM cu=some args:=by
 cases op<;>simp only[gk,sH,sG] at h
 case call c =>
  refine⟨c,rfl,?_⟩;unfold rj at h
  (repeat' split at h)<;>simp_all [dd,cJ]
  obtain⟨_,_,_,_,_,E,_,_,rfl,rfl⟩:=h;exact⟨rfl,E⟩
 all_goals ((repeat' split at h)<;>simp_all [dd,cJ])
def Qq {kb:Nat}{own:List Nat}{dst:Option Nat}{ty:TypeId}{op:Op}{f:bg}{args:List bg}(h:gk P kb own dst ty op=some (.jc f args)):
  ∃(c:Call) (x:Operand),op=.call c/\c.callee=.value x/\cu x=some f/\c.args.toList.mapM cu=some args:=by
 cases op<;>simp only[gk,sH,sG] at h
 case call c =>
  refine⟨c,?_⟩;unfold rj at h
  (repeat' split at h)<;>simp_all [dd,cJ]
 all_goals ((repeat' split at h)<;>simp_all [dd,cJ])
def XK {kb:Nat}{own:List Nat}{dst:Option Nat}{ty:TypeId}{op:Op}{neg:Bool}{x:bg}(h:gk P kb own dst ty op=some (.kH neg x)):
  ∃(t e:TypeId) (y y':Operand) (z:TypeId),op=.binOp (if neg then .neq else .eql) t y y' z/\K8 y'=true/\P.underlying t=some (.slice e)/\cu y=some x:=by
 cases op<;>simp only[gk,sH,sG] at h
 case call c =>
  unfold rj at h
  (repeat' split at h)<;>simp_all [dd,cJ]
 case binOp GV t y y' z =>
  (repeat' split at h)<;>simp_all [dd,cJ]
  all_goals
   obtain⟨E,rfl⟩:=h;exact⟨_,_,_,_,⟨rfl,rfl,rfl⟩,by assumption,by assumption,E⟩
 all_goals ((repeat' split at h)<;>simp_all [dd,cJ])
end Go.Mini
namespace Go.Mini
open Go
variable {P:Program} {aQ:Option I} {T:bj} {A:Nat->Prop} {b5 w:World} {c4 B:cB} {mem:Mem} {n:Nat}
def XL {t e:TypeId}{y y':Operand}{m:I}{u v:Value}{ax:Nat->Prop}{full:Bool}(neg:Bool)(bx:P.underlying t=some (.slice e))(hm:aN w ax B m u)(ag:xc m=some full)(ai:v=.slice none 0 0):
  ∃b:Bool,(full=true->b=false)/\((do eqGuard (if neg then .neq else .eql) t y y' u v;binOp (if neg then .neq else .eql) t u v:Sem Value)).run P w=.ok (.bool (neg != b)) w:=by
 subst ai
 have shape:∃a len cap,u=.slice a len cap/\(full=true->a.isNone=false):=by
  cases m<;>simp only[xc,reduceCtorEq] at ag
  case M d =>
   cases d<;>simp only[xc,bF,reduceCtorEq] at ag
   cases hm with
   |M ae =>
    cases ae with
    |j6=>exact⟨_,_,_,rfl,λh=>by cases ag;cases h⟩
    |ay=>exact⟨_,_,_,rfl,λ_=>rfl⟩
  case nil =>
   cases hm with
   |nil=>exact⟨_,_,_,rfl,λh=>by cases ag;cases h⟩
  case ref k g sz off len =>
   cases hm with
   |ref he aC Q =>
    obtain⟨a,cap,rfl,E,G,ab⟩:=Q;refine⟨_,_,_,rfl,λh=>?_⟩;simp only[bF] at ag;subst ag;simp only[decide_eq_true_eq] at h;rcases ab with ab|⟨b,rfl,_⟩
    ·omega
    ·rfl
 obtain⟨a,len,cap,rfl,U⟩:=shape;refine⟨a.isNone,U,?_⟩
 have he:∀d,(Op.equalIn (d+1) t (.slice a len cap) (.slice none 0 0)).run P w=.ok a.isNone w:=λd=>by
  unfold Op.equalIn;simp only[Sem.run_bind,run_underlying bx,Result.andThen_ok]
  cases a<;>rfl
 have heq:(Op.equal t (.slice a len cap) (.slice none 0 0)).run P w=.ok a.isNone w:=he 9999;rw[La (by simp) (by simp)]
 cases neg
 ·simp only[dm,if_false,Sem.run_bind,Sem.run_pure,Result.andThen_ok];show (do pure (Value.bool (<-Op.equal t (.slice a len cap) (.slice none 0 0))):Sem Value).run P w=_
  simp[heq]
 ·simp only[if_true,Sem.run_bind,Sem.run_pure,Result.andThen_ok];show (do pure (Value.bool (!(<-Op.equal t (.slice a len cap) (.slice none 0 0)))):Sem Value).run P w=_
  simp[heq]
structure Dn (P:Program) (n kb:Nat) (own:List Nat) (ops:Array Oper) (o:Oper) (i:bh):Prop where
 dst:i.dst=o.dst
 guard:GC ops o.guard=some i.g
 op:i.op=(gk P kb own o.dst o.type o.op).getD .bad
 lt:o.dst.all (λd=>decide (d<n))=true
def GZ {kb:Nat}{own:List Nat}{ops:Array Oper}{o:Oper}{i:bh}(h:mG P n kb own ops o=some i):Dn P n kb own ops o i:=by
 unfold mG at h
 split at h
 ·rename_i g aC
  split at h
  ·rename_i av
   cases h;exact⟨rfl,aC,rfl,av⟩
  ·cases h
 ·cases h
def ajk {K:a3->Prop}{i:bh}{st:a3}(h:fC T K i st):
  (∃m e,br st.mem st.tm i.op=some (m,e)/\K ⟨put st.tm i.dst m,fB st.mem e⟩) \/
  (∃f args,i.op=.call f args/\sC T K st i.dst f (args.map (aI st.tm))) \/
  (∃k sz f args es,i.op=.kJ k sz f args/\T f (args.map (aI st.tm)) st.mem=some (.own sz es)/\K ⟨put st.tm i.dst (.ref k (bp st.mem k) sz 0 (D es)),aR st.mem k (bp st.mem k) (es.flatten.map .M)⟩) \/
  (∃f args,i.op=.jc f args/\((∃g cU,aI st.tm f=.dB g cU/\sC T K st i.dst g (args.map (aI st.tm)++cU))\/(∃g ds,aI st.tm f=.M (.fn g ds)/\sC T K st i.dst g (args.map (aI st.tm)++ds.map .M)))) \/
  (∃neg x full,i.op=.kH neg x/\xc (aI st.tm x)=some full/\∀b:Bool,(full=true->b=false)->K ⟨put st.tm i.dst (.M (.bool (neg != b))),st.mem⟩):=by
 obtain⟨dst,g,op⟩:=i;unfold fC at h
 split at h
 ·rename_i f args ev;exact .inr (.inl ⟨f,args,ev,h⟩)
 ·rename_i k sz f args ev
  split at h
  ·rename_i dC es he
   split at h
   ·rename_i R;subst R;exact .inr (.inr (.inl ⟨k,_,f,args,es,ev,he,h⟩))
   ·cases h
  ·cases h
 ·rename_i f args ev;refine .inr (.inr (.inr (.inl ⟨f,args,ev,?_⟩)))
  split at h
  ·rename_i g cU ag;exact .inl ⟨g,cU,ag,h⟩
  ·rename_i g ds ag;exact .inr ⟨g,ds,ag,h⟩
  ·cases h
 ·rename_i neg x ev
  split at h
  ·rename_i full ag;exact .inr (.inr (.inr (.inr ⟨neg,x,full,ev,ag,h⟩)))
  ·cases h
 ·split at h
  ·rename_i m e he;exact .inl ⟨m,e,he,h⟩
  ·cases h
def getD_some {α:Type}{x:Option α}{b c:α}(h:c=x.getD b)(U:c≠b):x=some c:=by
 cases x with
 |none=>exact absurd h U
 |some y=>simp at h;rw[h]
def XM (cn:mS P T){K:a3->Prop}{a:Act}{st:a3}{o:Oper}{al:Exit->Act->World->Prop}{f:FuncId}{args:List I}{vs:List Value}(h:dq aQ n A b5 c4 a st w B)(av:o.dst.all (λd=>decide (d<n))=true)
  (ai:ck w (bb A B) B args vs) (O:sC T K st o.dst f args) (dY:Real P f->(execOp a.eval o).run P w=.ok (.enter f vs.toArray) w) :
  o.wp P a w (λcl aj=>∃bV aB,K bV/\dq aQ n A b5 c4 cl bV aj aB) al:=by
 unfold sC at O;unfold Oper.wp
 cases g4:T f args st.mem with
 |none=>rw[g4] at O;exact O.elim
 |some np =>
  obtain⟨fO,h5⟩:=cn f args st.mem np g4;have Z:=h5 A w B vs h.ok.b4 ai;rw[g4] at O;rw[dY fO]
  cases np with
  |same r =>
   refine Calls.mono Z λe aj he=>?_;obtain⟨v,rfl,c7,ae⟩:=he;exact⟨_,B,O,h.put (.still h.ok.b4 c7) (.M ae) av⟩
  |own sz es =>
   refine Calls.mono Z λe aj he=>?_;obtain⟨v,rfl,c7,ae⟩:=he;refine⟨_,B,O,h.put (.still h.ok.b4 c7) (.M (ae.den λb U=>?_)) av⟩;rcases U with U|U
   ·exact h.ok.b4.ra U
   ·exact h.ok.b4.lt b U
  |xb r k =>
   refine Calls.mono Z λe aj he=>?_;obtain⟨v,aB,rfl,c6,j8⟩:=he;exact⟨_,aB,O,h.put c6 j8 av⟩
  |rel bR =>
   refine Calls.mono Z λe aj he=>?_;obtain⟨v,r,mem',aB,rfl,R,ae,dK⟩:=he;exact⟨_,aB,O r mem' dK,h.put R ae av⟩
  |er r k g i c =>
   refine Calls.mono Z λe aj he=>?_;obtain⟨v,aB,rfl,R,ae⟩:=he;exact⟨_,aB,O,h.put R ae av⟩
def G0 {ax:Nat->Prop}{m:I}{u:Value}{g:FuncId}{cU:List I}(hm:aN w ax B m u)(h:m=.dB g cU\/∃ds,m=.M (.fn g ds)/\cU=ds.map .M):
  ∃cs:List Value,u=.func (.func g) #[] cs.toArray/\ck w ax B cU cs:=by
 rcases h with rfl|⟨ds,rfl,rfl⟩
 ·cases hm with
  |dB ad ae=>exact⟨_,rfl,ad,ae⟩
 ·cases hm with
  |M ae =>
   cases ae with
   |fn ad ae=>exact⟨_,rfl,ck.M ad ae⟩
def ajl (cn:mS P T){K:a3->Prop}{kb:Nat}{own:List Nat}{ops:Array Oper}{a:Act}{st:a3}{o:Oper}{i:bh}{al:Exit->Act->World->Prop}(h:dq aQ n A b5 c4 a st w B)(L:Dn P n kb own ops o i)
  (O:fC T K i st):o.wp P a w (λcl aj=>∃bV aB,K bV/\dq aQ n A b5 c4 cl bV aj aB) al:=by
 have ev:=L.op;rcases ajk O with ⟨m,e,R,et⟩|⟨f,args,he,et⟩|⟨k,sz,f,args,es,he,g4,et⟩|⟨f,args,he,et⟩|⟨neg,x,full,he,ag,et⟩
 ·have aA:gk P kb own o.dst o.type o.op=some i.op:=getD_some ev (by
   intro U;rw[U] at R
   cases R)
  obtain⟨y7,v,aj,aB,dY,lh,c6,ai⟩:=Ql h.ok.b4 h.jy (λ_=>rfl) aA R;unfold Oper.wp;rw[dY];rw[L.dst] at et;have xu:=h.put c6 ai L.lt;rcases lh with rfl|⟨rfl,rfl⟩
  ·exact⟨_,aB,et,xu⟩
  ·exact⟨_,aB,et,xu⟩
 ·have aA:gk P kb own o.dst o.type o.op=some i.op:=getD_some ev (by rw[he];simp);rw[he] at aA;obtain⟨c,Z,hh,iB⟩:=GY aA;rw[L.dst] at et;refine XM cn h L.lt (pJ h.jy iB) et λfO=>?_;obtain⟨dst,op,type,pos,after,guard⟩:=o;simp only at Z;subst Z;obtain⟨callee,ru,y8⟩:=c;simp only at hh;subst hh;simp only[execOp,resolve,Deferred.ofValue,Act.eval,invoke,Sem.run_bind,Sem.run_pure,Result.andThen_ok,AQ fO];rw[vK ru];simp
 ·have aA:gk P kb own o.dst o.type o.op=some i.op:=getD_some ev (by rw[he];simp);rw[he] at aA;obtain⟨c,Z,hh,iB⟩:=XJ aA;rw[L.dst] at et;obtain⟨fO,h5⟩:=cn f _ st.mem _ g4;have lU:=h5 A w B _ h.ok.b4 (pJ h.jy iB);have av:=L.lt;obtain⟨dst,op,type,pos,after,guard⟩:=o;simp only at Z;subst Z;obtain⟨callee,ru,y8⟩:=c;simp only at hh iB;subst hh
  have dY:(execOp a.eval ⟨dst,.call ⟨.value (.func f),ru,y8⟩,type,pos,after,guard⟩).run P w=.ok (.enter f (ru.toList.map a.eval).toArray) w:=by
   simp only[execOp,resolve,Deferred.ofValue,Act.eval,invoke,Sem.run_bind,Sem.run_pure,Result.andThen_ok,AQ fO];rw[vK ru];simp
  unfold Oper.wp;rw[dY];refine Calls.mono lU λe aj lT=>?_;obtain⟨v,rfl,c7,ae⟩:=lT;obtain⟨aB,c6,ai⟩:=XI k h.ok.b4 c7 ae;exact⟨_,aB,et,h.put c6 ai av⟩
 ·have aA:gk P kb own o.dst o.type o.op=some i.op:=getD_some ev (by rw[he];simp);rw[he] at aA;obtain⟨c,x,Z,hh,J,iB⟩:=Qq aA;rw[L.dst] at et;have Lr:=h.jy _ _ J
  have main:∀g cU,(aI st.tm f=.dB g cU\/∃ds,aI st.tm f=.M (.fn g ds)/\cU=ds.map .M)->sC T K st o.dst g (args.map (aI st.tm)++cU)->o.wp P a w (λcl aj=>∃bV aB,K bV/\dq aQ n A b5 c4 cl bV aj aB) al:=by
   intro g cU aC et;obtain⟨cs,hu,b0⟩:=G0 Lr aC;refine XM cn h L.lt ((pJ h.jy iB).append b0) et λfO=>?_;obtain⟨dst,op,type,pos,after,guard⟩:=o;simp only at Z;subst Z;obtain⟨callee,ru,y8⟩:=c;simp only at hh;subst hh;simp only[execOp,resolve,hu,Deferred.ofValue,invoke,Sem.run_bind,Sem.run_pure,Result.andThen_ok,AQ fO];rw[vK ru];simp
  rcases et with ⟨g,cU,aC,et⟩|⟨g,ds,aC,et⟩
  ·exact main g cU (.inl aC) et
  ·exact main g _ (.inr ⟨ds,aC,rfl⟩) et
 ·have aA:gk P kb own o.dst o.type o.op=some i.op:=getD_some ev (by rw[he];simp);rw[he] at aA;obtain⟨t,e,y,y',z,Z,aE,bx,af⟩:=XK aA;rw[L.dst] at et
  have G1:a.eval y' = .slice none 0 0:=by
   unfold K8 at aE
   split at aE
   ·rfl
   ·cases aE
  obtain⟨b,U,dY⟩:=XL (y:=y) (y':=y') neg bx (h.jy _ _ af) ag G1;obtain⟨dst,op,type,pos,after,guard⟩:=o;simp only at Z;subst Z;unfold Oper.wp
  have:(execOp a.eval ⟨dst,.binOp (if neg then .neq else .eql) t y y' z,type,pos,after,guard⟩).run P w=.ok (.value (.bool (neg != b))) w:=by
   simp only[execOp];rw[Sem.run_bind,dY]
   rfl
  rw[this];exact⟨_,B,et b U,h.put (.refl h.ok.b4) (.M .bool) L.lt⟩
end Go.Mini
namespace Go.Mini
open Go
variable {T:bj}
def dO {tm tm':Nat->I}{x:bg}(h:∀s∈dJ x,tm s=tm' s):aI tm x=aI tm' x:=by
 cases x with
 |t s=>exact h s (by simp[dJ])
 |c m=>rfl
def map_congr {tm tm':Nat->I}{l:List bg}(h:∀s∈l.flatMap dJ,tm s=tm' s):l.map (aI tm)=l.map (aI tm') :=
 G3 λx J=>dO λs R=>h s (AR.2 ⟨x,J,R⟩)
def G4 {tm tm':Nat->I}{l:List bg}(h:∀s∈l.flatMap dJ,tm s=tm' s):(l.map λx=>shut (aI tm x))=l.map λx=>shut (aI tm' x) :=
 G3 λx J=>by rw[dO λs R=>h s (AR.2 ⟨x,J,R⟩)]
def AS {tm tm':Nat->I}{x:Option bg}(h:∀s∈vz x,tm s=tm' s):x.map (aI tm)=x.map (aI tm'):=by
 cases x with
 |none=>rfl
 |some x =>
  cases x with
  |t s=>simp[aI,h s (by simp[vz])]
  |c m=>rfl
def Qr {tm tm':Nat->I}:∀{cD:List (Nat×Nat×bg)} (cs:List I),(∀s∈cD.flatMap (λp=>dJ p.2.2),tm s=tm' s)->jw (aI tm) cs cD=jw (aI tm') cs cD
 | [],_,_=>rfl
 |(o,s,x)::cD,cs,h=>by
  have E:aI tm x=aI tm' x:=dO λt bx=>h t (AR.2 ⟨(o,s,x),by simp,bx⟩);simp only[jw,E]
  split
  ·exact Qr _ λt bx=>h t (by simp only[List.flatMap_cons,hv];exact .inr bx)
  ·rfl
def ajm {mem:Mem}{tm tm':Nat->I}{op:fh}(h:∀s∈nS op,tm s=tm' s):br mem tm op=br mem tm' op:=by
 cases op<;>simp only[nS,hv] at h
 case hI x=>simp only[br,ix,dO h]
 case pick c a b=>simp only[br,ix,dO (λs R=>h s (.inl (.inl R))),dO (λs R=>h s (.inl (.inr R))),dO (λs R=>h s (.inr R))]
 case alloc=>rfl
 case box k x=>simp only[br,dO h]
 case build z cD=>simp only[br,ix,Qr _ h]
 case ed k o z sz len cD=>cases o<;>simp only[br,ix,Qr _ h]
 case load n bC x=>simp only[br,dO h]
 case store n x v=>simp only[br,dO (λs R=>h s (.inl R)),dO (λs R=>h s (.inr R))]
 case bin o x y=>simp only[br,ix,dO (λs R=>h s (.inl R)),dO (λs R=>h s (.inr R))]
 case beq o x y=>simp only[br,ix,dO (λs R=>h s (.inl R)),dO (λs R=>h s (.inr R))]
 case eqs o l x y=>simp only[br,ix,dO (λs R=>h s (.inl R)),dO (λs R=>h s (.inr R))]
 case kH=>rfl
 case un o x=>simp only[br,ix,dO h]
 case conv k x=>simp only[br,ix,dO h]
 case tM x=>simp only[br,ix,dO h]
 case lb k z b x y=>simp only[br,dO (λs R=>h s (.inl R)),dO (λs R=>h s (.inr R))]
 case sx o x=>simp only[br,ix,dO h]
 case w8 o n bC x=>simp only[br,ix,dO h]
 case tN s x i=>simp only[br,ix,dO (λs R=>h s (.inl R)),dO (λs R=>h s (.inr R))]
 case Az n s x i=>simp only[br,ix,dO (λs R=>h s (.inl R)),dO (λs R=>h s (.inr R))]
 case idxs x i=>simp only[br,ix,dO (λs R=>h s (.inl R)),dO (λs R=>h s (.inr R))]
 case qn s x a b c =>
  have E:=dO (λs R=>h s (.inl (.inl (.inl R))));have G:=AS (λs R=>h s (.inl (.inl (.inr R))));have ab:=AS (λs R=>h s (.inl (.inr R)));have aM:=AS (λs R=>h s (.inr R))
  cases b<;>cases c<;>simp only[jQ,XN,bF] at ab aM<;>simp only[br,ix,jQ,XN,E,G,ab,aM]
 case sy n s x a b c =>
  have E:=dO (λs R=>h s (.inl (.inl (.inl R))));have G:=AS (λs R=>h s (.inl (.inl (.inr R))));have ab:=AS (λs R=>h s (.inl (.inr R)))
  cases c<;>simp only[br,ix,E,G,ab]
 case AA x a b=>simp only[br,ix,dO (λs R=>h s (.inl (.inl R))),AS (λs R=>h s (.inl (.inr R))),AS (λs R=>h s (.inr R))]
 case ext i x=>simp only[br,ix,dO h]
 case len x=>simp only[br,ix,dO h]
 case lens x=>simp only[br,ix,dO h]
 case app k z b s x=>simp only[br,dO (λs R=>h s (.inl R)),dO (λs R=>h s (.inr R))]
 case qo s d x=>simp only[br,dO (λs R=>h s (.inl R)),dO (λs R=>h s (.inr R))]
 case sA z x=>simp only[br,dO h]
 case kI o x y=>simp only[br,ix,dO (λs R=>h s (.inl R)),dO (λs R=>h s (.inr R))]
 case call=>rfl
 case kJ=>rfl
 case jc=>rfl
 case j7=>rfl
 case pv=>rfl
 case pw=>rfl
 case tO f l=>simp only[br,ix,map_congr h]
 case CT t x=>simp only[br,ix,dO h]
 case KQ t o z x=>simp only[br,ix,dO h]
 case AB n i x=>simp only[br,ix,dO h]
 case KS l s a x i=>simp only[br,ix,dO (λs R=>h s (.inl R)),dO (λs R=>h s (.inr R))]
 case vv=>rfl
 case yR o z x i=>simp only[br,dO (λs R=>h s (.inl R)),dO (λs R=>h s (.inr R))]
 case w9 x i v=>simp only[br,dO (λs R=>h s (.inl (.inl R))),dO (λs R=>h s (.inl (.inr R))),dO (λs R=>h s (.inr R))]
 case bad=>rfl
def Ls {mem:Mem}{tm tm':Nat->I}{op:fh}(h:∀s∈nS op,tm s=tm' s):ei T mem tm op=ei T mem tm' op:=by
 cases op
 case call f l =>
  have:=G4 (l:=l) (tm:=tm) (tm':=tm') (by simpa [nS] using h);simp only[ei,this]
 case kJ k sz f l =>
  have:=G4 (l:=l) (tm:=tm) (tm':=tm') (by simpa [nS] using h);simp only[ei,this]
 case jc f l =>
  simp only[nS,hv] at h;have E:=dO (x:=f) (tm:=tm) (tm':=tm') λs R=>h s (.inl R);have G:=G4 (l:=l) (tm:=tm) (tm':=tm') λs R=>h s (.inr R);simp only[ei,E,G]
 case kH=>rfl
 case j7 bQ f l =>
  have:=map_congr (l:=l) (tm:=tm) (tm':=tm') (by simpa [nS] using h);simp only[ei,this]
 case pv j f l =>
  have E:=map_congr (l:=l) (tm:=tm) (tm':=tm') (by simpa [nS] using h);have G:=G4 (l:=l) (tm:=tm) (tm':=tm') (by simpa [nS] using h);simp only[ei,E,G]
 case pw j f l =>
  have E:=map_congr (l:=l) (tm:=tm) (tm':=tm') (by simpa [nS] using h);have G:=G4 (l:=l) (tm:=tm) (tm':=tm') (by simpa [nS] using h);simp only[ei,E,G]
 all_goals exact ajm (mem:=mem) h
def Lt {tm tm':Nat->I}{op:fh}(h:∀s∈nS op,tm s=tm' s):cf tm op=cf tm' op:=by
 cases op<;>simp only[nS,hv] at h<;>try rfl
 case ed k o z sz len cD=>cases o<;>rfl
 case load n bC x=>simp only[cf,dO h]
 case sy n s x a b c=>simp only[cf,dO (λs R=>h s (.inl (.inl (.inl R))))]
 case store n x v=>simp only[cf,dO (λs R=>h s (.inl R))]
 case app k z b s x=>simp only[cf,dO (λs R=>h s (.inl R)),dO (λs R=>h s (.inr R))]
 case qo s d x=>simp only[cf,dO (λs R=>h s (.inl R)),dO (λs R=>h s (.inr R))]
 case j7 bQ f l=>simp only[cf,map_congr h]
 case pv j f l=>simp only[cf,map_congr h]
 case pw j f l=>simp only[cf,map_congr h]
 case sA z x=>simp only[cf,dO h]
 case yR o z x i=>simp only[cf,dO (λs R=>h s (.inl R))]
 case w9 x i v=>simp only[cf,dO (λs R=>h s (.inl (.inl R)))]
def ajn {n:Nat}{m:I}{al:Key->Prop}(h:∀x∈yW n m,al x.key):∀j∈keyOf m,al j:=by
 cases m<;>simp_all [yW,keyOf,km.key]
def XO {mem mem':Mem}{sz:Nat}{m:I}(h:∀k∈keyOf m,mem k=mem' k):oG mem sz m=oG mem' sz m:=by
 cases m<;>try rfl
 case M d=>cases d<;>rfl
 simp only[oG];rw[h _ (by simp[keyOf])]
def ajo {mem mem':Mem}{k:Key}{z:List I}{b:Nat}{m:I}{row:Option (Nat×List I)}(O:mem k=mem' k)(h:∀j∈keyOf m,mem j=mem' j):px mem k z b m row=px mem' k z b m row:=by
 cases m<;>cases row<;>try rfl
 ·simp only[px,bp,O]
 ·simp only[px];rw[h _ (by simp[keyOf])]
def ajp {mem mem':Mem}{sz:Nat}{m:I}{row:Option (Nat×List I)}(h:∀j∈keyOf m,mem j=mem' j):tQ mem sz m row=tQ mem' sz m row:=by
 cases m<;>cases row<;>try rfl
 simp only[tQ];rw[h _ (by simp[keyOf])]
def ajq {mem mem':Mem}{z:List I}{m:I}(h:∀j∈keyOf m,mem j=mem' j):vx mem z m=vx mem' z m:=by
 cases m<;>try rfl
 simp only[vx];rw[h _ (by simp[keyOf])]
def Qs {mem mem':Mem}{n:Nat}{bC:Bool}{m:I}(h:∀j∈keyOf m,mem j=mem' j):ic mem n bC m=ic mem' n bC m:=by
 cases m<;>try rfl
 case M d=>cases d<;>rfl
 simp only[ic];rw[h _ (by simp[keyOf])]
def ajr {mem mem':Mem}{n:Nat}{m:I}{v:List I}(h:∀j∈keyOf m,mem j=mem' j):vw mem n m v=vw mem' n m v:=by
 cases m<;>try rfl
 simp only[vw];rw[h _ (by simp[keyOf])]
def ajs {mem mem':Mem}{n s a b:Nat}{m:I}(h:∀j∈keyOf m,mem j=mem' j):yT mem n s a b m=yT mem' n s a b m:=by
 cases m<;>try rfl
 simp only[yT];rw[h _ (by simp[keyOf])]
def XP {mem mem':Mem}{m:I}(h:∀j∈Gv m,mem j=mem' j):yV mem m=yV mem' m:=by
 cases m<;>try rfl
 simp only[yV];rw[h _ (by simp[Gv])]
def ajt {mem mem':Mem}{tm:Nat->I}{op:fh}(h:∀x∈cf tm op,mem x.key=mem' x.key):br mem tm op=br mem' tm op:=by
 have y7:∀k,mem k=mem' k->bp mem k=bp mem' k:=λk O=>by simp only[bp,O]
 cases op<;>try rfl
 case alloc k z=>simp only[br,y7 k (h (.fo k) (by simp[cf]))]
 case box k x=>simp only[br,y7 k (h (.fo k) (by simp[cf]))]
 case ed k o z sz len cD =>
  cases o
  ·rfl
  ·simp only[br,y7 k (h (.fo k) (by simp[cf]))]
 case lb k z b x y=>simp only[br,y7 k (h (.fo k) (by simp[cf]))]
 case load n bC x =>
  simp only[br];rw[Qs (ajn (al:=λj=>mem j=mem' j) h)]
 case sy n s x a b c =>
  cases c
  ·simp only[br]
   congr 2
   funext l
   congr 1
   funext a1
   exact ajs λj aa=>h (.fo j) (by simp[cf,aa])
  ·rfl
 case store n x v =>
  simp only[br];exact ajr λj aa=>h (.fo j) (by simp[cf,aa])
 case app k z b s x =>
  have bS:∀j,j=k\/j∈keyOf (aI tm s)\/j∈keyOf (aI tm x)->mem j=mem' j:=λj aa=>h (.fo j) (by simpa [cf] using aa);simp only[br,XO (sz:=D z) (λj aa=>bS j (.inr (.inr aa)))];exact ajo (bS k (.inl rfl)) λj aa=>bS j (.inr (.inl aa))
 case qo s d x =>
  have bS:∀j,j∈keyOf (aI tm d)\/j∈keyOf (aI tm x)->mem j=mem' j:=λj aa=>h (.fo j) (by simpa [cf] using aa);simp only[br,XO (sz:=s) (λj aa=>bS j (.inr aa))];exact ajp λj aa=>bS j (.inl aa)
 case sA z x =>
  simp only[br];exact ajq λj aa=>h (.fo j) (by simp[cf,aa])
 case vv k=>simp only[br,y7 k (h (.fo k) (by simp[cf]))]
 case yR o z x i =>
  simp only[br,K3];rw[XP (mem:=mem) (mem':=mem') (m:=aI tm x) λj aa=>h (.fo j) (by simp[cf,aa])]
 case w9 x i v =>
  simp only[br,Gu];rw[XP (mem:=mem) (mem':=mem') (m:=aI tm x) λj aa=>h (.fo j) (by simp[cf,aa])]
def Qt {mem mem':Mem}{tm:Nat->I}{op:fh}(Z:∀bQ f l,op ≠ .j7 bQ f l)(h:∀x∈cf tm op,mem x.key=mem' x.key):ei T mem tm op=ei T mem' tm op:=by
 cases op
 case call=>rfl
 case kJ k sz f l =>
  have:bp mem k=bp mem' k:=by
   have:=h (.fo k) (by simp[cf]);simp only[km.key] at this;simp only[bp,this]
  simp only[ei,this]
 case j7 bQ f l=>exact absurd rfl (Z bQ f l)
 case pv j f l =>
  simp only[ei]
  cases hm:(l.map (aI tm))[j]? with
  |none=>rfl
  |some m =>
   cases m<;>try rfl
   have:=h (.fo _) (by simp only[cf,hm,tR];exact kP);simp only[km.key] at this;simp only[Gy,this]
 case pw j f l =>
  simp only[ei]
  cases hm:(l.map (aI tm))[j]? with
  |none=>rfl
  |some m =>
   cases m<;>try rfl
   have:=h (.fo _) (by simp only[cf,hm,tR];exact kP);simp only[km.key] at this;simp only[Gz,this]
 case jc=>rfl
 case kH=>rfl
 all_goals exact ajt (mem:=mem) (mem':=mem') (tm:=tm) h
def Lu {x:Option I}{m:I}{e:Option (Key×Nat×List I)}(h:hJ x=some (m,e)):e=none:=(XA h).2
def aju {mem:Mem}{tm:Nat->I}{op:fh}{m:I}{e:Option (Key×Nat×List I)}(h:br mem tm op=some (m,e)):e=none\/(fD op=true/\∃k g cs,e=some (k,g,cs) /\ .fo k∈cf tm op):=by
 cases op<;>try (first|exact .inl (Lu h)|exact .inl (Lu (x:=some _) h))
 case alloc k z =>
  simp only[br,bF,ec] at h;exact .inr ⟨rfl,_,_,_,h.2.symm,by simp[cf]⟩
 case box k x =>
  simp only[br] at h
  split at h<;>simp only[bF,ec,reduceCtorEq] at h
  exact .inr ⟨rfl,_,_,_,h.2.symm,by simp[cf]⟩
 case ed k o z sz len cD =>
  cases o
  ·exact .inl (Lu h)
  ·simp only[br,C0] at h
   (repeat' split at h)<;>simp only[bF,ec,reduceCtorEq] at h
   exact .inr ⟨rfl,_,_,_,h.2.symm,by simp[cf]⟩
 case lb k z b x y =>
  obtain⟨_,_,_,_,h⟩:=XB h;simp only[C1] at h
  split at h<;>simp only[bF,ec,reduceCtorEq] at h
  exact .inr ⟨rfl,_,_,_,h.2.symm,by simp[cf]⟩
 case sy n s x a b c =>
  cases c
  ·exact .inl (Lu h)
  ·cases h
 case store n x v =>
  simp only[br] at h
  cases J:aI tm x<;>rw[J] at h<;>simp only[vw,reduceCtorEq] at h
  simp only[Gs] at h
  (repeat' split at h)<;>simp only[bF,ec,reduceCtorEq] at h
  exact .inr ⟨rfl,_,_,_,h.2.symm,by simp[cf,J,keyOf]⟩
 case app k z b s x =>
  simp only[br] at h
  cases Q:oG mem (D z) (aI tm x)<;>cases R:aI tm s<;>rw[Q,R] at h<;>simp only[px,reduceCtorEq] at h
  ·split at h<;>simp only[bF,ec,reduceCtorEq] at h
   exact .inr ⟨rfl,_,_,_,h.2.symm,by simp[cf]⟩
  ·simp only[mF] at h
   (repeat' split at h)<;>simp only[bF,ec,reduceCtorEq] at h
   exact .inr ⟨rfl,_,_,_,h.2.symm,by simp[cf,R,keyOf]⟩
 case qo s d x =>
  simp only[br] at h
  cases Q:oG mem s (aI tm x)<;>cases R:aI tm d<;>rw[Q,R] at h<;>simp only[tQ,reduceCtorEq] at h
  simp only[yU] at h
  (repeat' split at h)<;>simp only[bF,ec,reduceCtorEq] at h
  exact .inr ⟨rfl,_,_,_,h.2.symm,by simp[cf,R,keyOf]⟩
 case sA z x =>
  simp only[br] at h
  cases R:aI tm x<;>rw[R] at h<;>simp only[vx,reduceCtorEq] at h
  simp only[K1] at h
  (repeat' split at h)<;>simp only[bF,ec,reduceCtorEq] at h
  exact .inr ⟨rfl,_,_,_,h.2.symm,by simp[cf,R,keyOf]⟩
 case vv k =>
  simp only[br,bF,ec] at h;exact .inr ⟨rfl,_,_,_,h.2.symm,by simp[cf]⟩
 case w9 x i v =>
  simp only[br] at h;unfold Gu at h
  split at h
  ·rename_i k g cs s eG cr
   split at h
   ·split at h
    ·cases h;refine .inr ⟨rfl,_,_,_,rfl,?_⟩;unfold yV at eG
     split at eG
     ·rename_i J
      (repeat' split at eG)<;>cases eG
      simp[cf,J,Gv]
     ·cases eG
    ·cases h
   ·cases h
  ·cases h
 all_goals cases h
def XQ {mem:Mem}{j:Nat}{f:FuncId}{ms:List I}{x:Option I}{m:I}{e:Option (Key×Nat×List I)}(h:Gy T mem j f ms x=some (m,e)):
  ∃k g sz off len cs d r,x=some (.ref k g sz off len)/\mem k=some (g,cs)/\Gx sz off len cs=some d/\K4 (T f (ms.set j (.M d)) emp)=some r/\m=.M r/\e=some (k,bp mem k,[]):=by
 unfold Gy at h
 split at h
 ·rename_i k g sz off len;unfold PQ at h
  split at h
  ·rename_i cd cs hm
   split at h
   ·rename_i aC;subst aC
    split at h
    ·rename_i d ae
     split at h
     ·rename_i r Q;simp only[bF,ec] at h;exact⟨k,_,sz,off,len,cs,d,r,rfl,hm,ae,Q,h.1.symm,by rw[<-h.2];simp[bp,hm]⟩
     ·cases h
    ·cases h
   ·cases h
  ·cases h
 ·cases h
def XR {mem:Mem}{j:Nat}{f:FuncId}{ms:List I}{x:Option I}{m:I}{e:Option (Key×Nat×List I)}(h:Gz T mem j f ms x=some (m,e)):
  ∃k g sz off len cd cs r,x=some (.ref k g sz off len)/\mem k=some (cd,cs)/\rf cs=true/\T f (ms.set j (.ref k g sz off len)) (aR emp k cd cs)=some (.xb r k)/\m=.M r/\e=some (k,bp mem k,[]):=by
 unfold Gz at h
 split at h
 ·rename_i k g sz off len;unfold PR at h
  split at h
  ·rename_i cd cs hm
   split at h
   ·rename_i ae
    split at h
    ·rename_i r k' Q
     split at h
     ·rename_i O;subst O;simp only[bF,ec] at h;exact⟨_,g,sz,off,len,cd,cs,r,rfl,hm,ae,Q,h.1.symm,by rw[<-h.2];simp[bp,hm]⟩
     ·cases h
    ·cases h
   ·cases h
  ·cases h
 ·cases h
def XS {bQ:Nat}{mem:Mem}{ms:List I}{x:Option fV}{m:I}{e:Option (Key×Nat×List I)}(h:C2 bQ mem ms x=some (m,e)):
  ∃r k g i c cs,x=some (.er r k g i c)/\mem k=some (g,cs)/\m=.M r/\e=some (k,g,cs.set i c)/\Gw bQ ms=[.wr k i]:=by
 unfold C2 at h
 split at h
 ·rename_i k g off rest r k' cd i c
  split at h
  ·rename_i G5 cs hm
   split at h
   ·rename_i Z;obtain⟨rfl,rfl,rfl⟩:=Z;simp only[bF,ec] at h;exact⟨r,_,_,_,c,cs,rfl,hm,h.1.symm,h.2.symm,rfl⟩
   ·cases h
  ·cases h
 ·cases h
def Lv {mem:Mem}{tm:Nat->I}{op:fh}{m:I}{e:Option (Key×Nat×List I)}(h:ei T mem tm op=some (m,e)):e=none\/(fD op=true/\∃k g cs,e=some (k,g,cs)/\(.fo k∈cf tm op\/∃i c rv,cf tm op=[.wr k i]/\mem k=some (g,rv)/\cs=rv.set i c)):=by
 have pl:br mem tm op=some (m,e)->e=none\/(fD op=true/\∃k g cs,e=some (k,g,cs)/\(.fo k∈cf tm op\/∃i c rv,cf tm op=[.wr k i]/\mem k=some (g,rv)/\cs=rv.set i c)):=λh=>by
  rcases aju h with h|⟨E,k,g,cs,G,ab⟩
  ·exact .inl h
  ·exact .inr ⟨E,k,g,cs,G,.inl ab⟩
 cases op
 case call f l =>
  simp only[ei] at h
  split at h<;>simp only[bF,ec,reduceCtorEq] at h
  ·exact .inl h.2.symm
  ·exact .inl h.2.symm
 case kJ k sz f l =>
  simp only[ei] at h
  (repeat' split at h)<;>simp only[bF,ec,reduceCtorEq] at h
  exact .inr ⟨rfl,_,_,_,h.2.symm,.inl (by simp[cf])⟩
 case jc f l =>
  simp only[ei] at h
  (repeat' split at h)<;>simp only[bF,ec,reduceCtorEq] at h
  exact .inl h.2.symm
 case kH=>cases h
 case j7 bQ f l =>
  obtain⟨r,k,g,i,c,cs,-,hm,-,he,ag⟩:=XS h;exact .inr ⟨rfl,k,g,_,he,.inr ⟨i,c,cs,ag,hm,rfl⟩⟩
 case pv j f l =>
  simp only[ei] at h;obtain⟨k,g,sz,off,len,cs,d,r,J,hm,-,-,-,he⟩:=XQ h;exact .inr ⟨rfl,k,_,_,he,.inl (by simp only[cf,J,tR];exact kP)⟩
 case pw j f l =>
  simp only[ei] at h;obtain⟨k,g,sz,off,len,cd,cs,r,J,hm,-,-,-,he⟩:=XR h;exact .inr ⟨rfl,k,_,_,he,.inl (by simp only[cf,J,tR];exact kP)⟩
 all_goals exact pl h
def ajv {tm:Nat->I}{op:fh}{b:km}(U:b∈cf tm op):(∃k,b=.fo k)\/(∃n bC x k g off,op=.load n bC x/\aI tm x=.ptr k g off/\b=.rd k off (off+n))\/∃bQ f l,op=.j7 bQ f l:=by
 cases op
 case load n bC x =>
  simp only[cf] at U
  cases J:aI tm x<;>rw[J] at U<;>simp[yW] at U
  ·exact .inl ⟨_,U⟩
  ·exact .inr (.inl ⟨_,_,_,_,_,_,rfl,J,U⟩)
 case j7 bQ f l=>exact .inr (.inr ⟨_,_,_,rfl⟩)
 case pv j f l =>
  simp only[cf] at U
  cases hm:(l.map (aI tm))[j]? with
  |none=>rw[hm] at U;simp[tR] at U
  |some m =>
   rw[hm] at U
   cases m<;>simp[tR] at U;exact .inl ⟨_,U⟩
 case pw j f l =>
  simp only[cf] at U
  cases hm:(l.map (aI tm))[j]? with
  |none=>rw[hm] at U;simp[tR] at U
  |some m =>
   rw[hm] at U
   cases m<;>simp[tR] at U;exact .inl ⟨_,U⟩
 case ed k o z sz len cD =>
  cases o<;>simp[cf] at U;exact .inl ⟨_,U⟩
 all_goals
  simp[cf] at U
  try first
   |exact .inl ⟨_,U⟩
   |(rcases U with ⟨k,_,h⟩|⟨k,_,h⟩<;>exact .inl ⟨k,h.symm⟩)
   |(rcases U with h|⟨k,_,h⟩|⟨k,_,h⟩<;>first|exact .inl ⟨_,h⟩|exact .inl ⟨_,h.symm⟩)
   |(obtain⟨k,_,h⟩:=U;exact .inl ⟨k,h.symm⟩)
def ajw {cs:List I}{i off n:Nat}{c:I}(h:i<off\/off+n<=i):cut (cs.set i c) off n=cut cs off n:=by
 unfold cut;rw[gg]
 split
 ·congr 1
  rcases h with h|h
  ·rw[ry h]
  ·by_cases L:i<off
   ·rw[ry L]
   ·rw[List.drop_set,ar L,List.take_set_of_le (by omega)]
 ·rfl
def ajx {mem:Mem}{k g i:Nat}{c:I}{cs:List I}{n:Nat}{bC:Bool}{k' cd off:Nat}(hm:mem k=some (g,cs))(h:k'≠k\/i<off\/off+n<=i):
  ic (aR mem k g (cs.set i c)) n bC (.ptr k' cd off)=ic mem n bC (.ptr k' cd off):=by
 by_cases O:k'=k
 ·subst O;have h:=h.resolve_left (λh=>h rfl);simp only[ic,aR,if_true,hm,ajw h]
 ·simp only[ic,aR,O,if_false]
def XT {mem:Mem}{tm:Nat->I}{x y:fh}{m:I}{e:Option (Key×Nat×List I)}(ajy:ei T mem tm x=some (m,e))(a2:pA (fD x,cf tm x) (fD y,cf tm y)=true):ei T (fB mem e) tm y=ei T mem tm y:=by
 rcases Lv ajy with rfl|⟨hw,k,g,cs,rfl,O⟩
 ·rfl
 ·have dn:∀a∈cf tm x,∀b∈cf tm y,pz a b=true:=by
   unfold pA at a2
   simpa [hw] using a2
  have Qu:∀bQ f l,y=.j7 bQ f l->cf tm y=[]:=by
   rintro bQ f l rfl
   cases U:cf tm (.j7 bQ f l) with
   |nil=>rfl
   |cons b r =>
    exfalso
    have g3:∃k' aZ,b=.wr k' aZ:=by
     simp only[cf] at U;unfold Gw at U
     split at U
     ·cases U;exact⟨_,_,rfl⟩
     ·cases U
    obtain⟨k',aZ,rfl⟩:=g3;have hm:km.wr k' aZ∈cf tm (.j7 bQ f l):=by rw[U];exact kP
    rcases O with O|⟨i,c,rv,ag,_,_⟩
    ·have:=dn _ O _ hm;simp[pz] at this
    ·have:=dn (.wr k i) (by rw[ag];exact kP) _ hm;simp[pz] at this
  by_cases af:∃bQ f l,y=.j7 bQ f l
  ·obtain⟨bQ,f,l,rfl⟩:=af;have ak:=Qu _ _ _ rfl;simp only[cf] at ak
   have aP:∀mem' eJ,C2 bQ mem' (l.map (aI tm)) eJ=none:=by
    intro mem' eJ;unfold C2
    split
    ·rename_i heq;rw[heq] at ak;simp[Gw] at ak
    ·rfl
   simp only[ei,aP]
  ·have Z:∀bQ f l,y ≠ .j7 bQ f l:=λbQ f l h=>af ⟨bQ,f,l,h⟩;rcases O with O|⟨i,c,rv,ag,hm,rfl⟩
   ·refine (Qt Z λb U=>?_).symm;have E:=dn _ O b U
    have:b.key≠k:=by
     rintro rfl
     cases b<;>simp[pz,km.key] at E
    simp[fB,aR,this]
   ·have E:=dn (.wr k i) (by rw[ag];exact kP)
    by_cases ad:∃n bC z k' cd off,y=.load n bC z/\aI tm z=.ptr k' cd off
    ·obtain⟨n,bC,z,k',cd,off,rfl,aP⟩:=ad;have G:=E (.rd k' off (off+n)) (by simp[cf,aP,yW]);simp only[ei,br,aP,fB];rw[ajx hm];simp[pz] at G;exact G
    ·refine (Qt Z λb U=>?_).symm
     exfalso
     rcases ajv U with ⟨k',rfl⟩|⟨n,bC,z,k',cd,off,ab,aM,_⟩|⟨bQ,f,l,ab⟩
     ·have:=E _ U;simp[pz] at this
     ·exact ad ⟨n,bC,z,k',cd,off,ab,aM⟩
     ·exact Z _ _ _ ab
def Qv {tm:Nat->I}{op:fh}(h:ld op=0):cf tm op=[]/\fD op=false:=by
 cases op<;>simp_all [ld,fD,cf]
 all_goals (rename_i b _ _ _ _;cases b<;>simp_all [fD,cf])
def XU {op:fh}(h:ld op=1):fD op=false:=by
 cases op<;>simp_all [ld,fD]
 all_goals (rename_i b _ _ _ _;cases b<;>simp_all [fD])
end Go.Mini
namespace Go.Mini
open Go
variable {T:bj} {fH:Nat->Nat->Bool}
def iC (T:bj)(fH:Nat->Nat->Bool)(i:Nat)(x:bh)(rec:Rec)(st:a3)(h6:Rec)(bV:a3):Prop :=
 (gy st.tm x.g=some false/\h6=rec/\bV=⟨put st.tm x.dst .no,st.mem⟩) \/
 (gy st.tm x.g=some true/\∃m e,ei T st.mem st.tm x.op=some (m,e)/\(∀p q,fH p i=true->rec p=some q->pA q (fD x.op,cf st.tm x.op)=true) /\
  h6=iy rec i (fD x.op,cf st.tm x.op)/\bV=⟨put st.tm x.dst m,fB st.mem e⟩)
def kQ {tm:Nat->I}{dst:Option Nat}{m:I}{s:Nat}(h:dst≠some s):put tm dst m s=tm s:=by
 cases dst with
 |none=>rfl
 |some d =>
  have:s≠d:=λe=>h (by rw[e]);simp[put,this]
def put_comm {tm:Nat->I}{d pK:Option Nat}{m m':I}(h:∀s,d=some s->pK≠some s):put (put tm d m) pK m'=put (put tm pK m') d m:=by
 funext s
 by_cases E:d=some s
 ·rw[kQ (h s E)];subst E;simp[put]
 ·rw[kQ (dst:=d) E]
  by_cases G:pK=some s
  ·subst G;simp[put]
  ·rw[kQ G,kQ G,kQ E]
def G6 {tm tm':Nat->I}{g:Option (Nat×Bool)}(h:∀s b,g=some (s,b)->tm s=tm' s):gy tm g=gy tm' g:=by
 cases g with
 |none=>rfl
 |some p =>
  obtain⟨s,b⟩:=p;simp only[gy,h s b rfl]
def AT {x y:bh}(h:nT x y=true):(∀d,x.dst=some d->d ∉ looks y)/\(∀d,x.dst=some d->y.dst≠some d)/\(∀d,y.dst=some d->d ∉ looks x):=by
 refine⟨λd ae=>?_,λd ae=>?_,λd ae=>?_⟩<;>simp[nT,ae] at h
 ·exact h.1.1
 ·exact h.1.2
 ·exact h.2
def uj {x:bh}{s:Nat}(h:s∈nS x.op):s∈looks x:=by simp[looks,h]
def G7 {x:bh}{s:Nat}{b:Bool}(h:x.g=some (s,b)):s∈looks x:=by simp[looks,h]
def ajz (a b:km):pz a b=pz b a:=by
 have Z:∀k k':Nat,(k==k')=(k'==k):=λk k'=>BEq.comm
 cases a<;>cases b<;>first|rfl|(unfold pz;dsimp only;rw[Z])
def XV {a b:Bool×List km}(h:pA a b=true):pA b a=true:=by
 unfold pA at *;simp only[sN,Bool.not_eq_true',Bool.or_eq_false_iff,jP] at *;rcases h with ⟨E,G⟩|h
 ·exact .inl ⟨G,E⟩
 ·exact .inr λx J y af=>by rw[ajz];exact h y af x J
def ajA {mem:Mem}{e e':Option (Key×Nat×List I)}(h:∀j g cs h1 cd gx,e=some (j,g,cs)->e'=some (h1,cd,gx)->j≠h1):fB (fB mem e) e'=fB (fB mem e') e:=by
 cases e with
 |none=>rfl
 |some p =>
  cases e' with
  |none=>rfl
  |some uk =>
   obtain⟨j,g,cs⟩:=p;obtain⟨h1,cd,gx⟩:=uk;have a6:=h _ _ _ _ _ _ rfl rfl
   funext k
   simp only[fB,aR]
   by_cases E:k=h1
   ·by_cases G:k=j
    ·exact absurd (G.symm.trans E) a6
    ·simp[E,G];intro ab;exact absurd ab.symm a6
   ·simp[E]
def Passes (fH:Nat->Nat->Bool)(i j:Nat)(x y:bh):Prop:=fH i j=true\/tT (ld x.op) (ld y.op)=true
def ajB {i j:Nat}{x y:bh}{tm:Nat->I}(h:Passes fH i j x y)(Z:fH i j=true->pA (fD x.op,cf tm x.op) (fD y.op,cf tm y.op)=true):
  pA (fD x.op,cf tm x.op) (fD y.op,cf tm y.op)=true:=by
 rcases h with h|h
 ·exact Z h
 ·unfold tT at h;simp only[sN,dp,beq_iff_eq] at h;rcases h with (h|h)|⟨E,G⟩
  ·obtain⟨E,G⟩:=Qv (tm:=tm) h;simp[pA,E]
  ·obtain⟨E,G⟩:=Qv (tm:=tm) h;simp[pA,E]
  ·have E:=XU E;have G:=XU G;simp[pA,E,G]
def iC.comm {i j:Nat}{x y:bh}{rec rec1 jR:Rec}{st st1 jS:a3}(hM:i≠j)(dP:nT x y=true)(aF:Passes fH i j x y)(Qw:∀a b,fH a b=fH b a)(y9:rec i=none)
  (E:iC T fH i x rec st rec1 st1) (G:iC T fH j y rec1 st1 jR jS):∃vN iN,iC T fH j y rec st vN iN/\iC T fH i x vN iN jR jS:=by
 obtain⟨a2,U,Z⟩:=AT dP
 -- what one sees of xv other's temporary: nothing
 have AU:∀m,gy (put st.tm x.dst m) y.g=gy st.tm y.g:=λm=>G6 λs b R=>kQ λae=>a2 s ae (G7 R);have G8:∀mem m,ei T mem (put st.tm x.dst m) y.op=ei T mem st.tm y.op:=λmem m=>Ls λs R=>kQ λae=>a2 s ae (uj R);have za:∀m,cf (put st.tm x.dst m) y.op=cf st.tm y.op:=λm=>Lt λs R=>kQ λae=>a2 s ae (uj R);have Lw:∀m,gy (put st.tm y.dst m) x.g=gy st.tm x.g:=λm=>G6 λs b R=>kQ λae=>Z s ae (G7 R);have XW:∀mem m,ei T mem (put st.tm y.dst m) x.op=ei T mem st.tm x.op:=λmem m=>Ls λs R=>kQ λae=>Z s ae (uj R);have Lx:∀m,cf (put st.tm y.dst m) x.op=cf st.tm x.op:=λm=>Lt λs R=>kQ λae=>Z s ae (uj R);have pN:∀m m',put (put st.tm x.dst m) y.dst m'=put (put st.tm y.dst m') x.dst m:=λm m'=>put_comm U;rcases E with ⟨bZ,rfl,rfl⟩|⟨bZ,aU,aK,s1,cH,rfl,rfl⟩<;>rcases G with ⟨bX,rfl,rfl⟩|⟨bX,bO,az,s2,dR,rfl,rfl⟩<;>simp only[AU,G8,za] at *
 ·exact⟨_,_,.inl ⟨bX,rfl,rfl⟩,.inl ⟨by simp only[Lw];exact bZ,rfl,by simp only[pN]⟩⟩
 ·exact⟨_,_,.inr ⟨bX,bO,az,s2,dR,rfl,rfl⟩,.inl ⟨by simp only[Lw];exact bZ,rfl,by simp only[pN]⟩⟩
 ·exact⟨_,_,.inl ⟨bX,rfl,rfl⟩,.inr ⟨by simp only[Lw];exact bZ,aU,aK,by simp only[XW];exact s1,by simp only[Lx];exact cH,by simp only[Lx],by simp only[pN]⟩⟩
 ·have XX:fH i j=true->pA (fD x.op,cf st.tm x.op) (fD y.op,cf st.tm y.op)=true:=λh=>dR i _ h (by simp[iy]);have zb:=ajB (tm:=st.tm) aF XX;have Qx:ei T st.mem st.tm y.op=some (bO,az):=by rw[<-s2];exact (XT s1 zb).symm
  have gC:∀j g cs h1 cd gx,aK=some (j,g,cs)->az=some (h1,cd,gx)->j≠h1:=by
   rintro k g cs k' cd gx rfl rfl rfl;rcases Lv s1 with h|⟨hw,dX,bX,GQ,h,E⟩
   ·cases h
   ·cases h;rcases Lv Qx with h|⟨XY,eY,e4,axV,h,G⟩
    ·cases h
    ·cases h;unfold pA at zb;simp only[hw,Bool.true_or,Bool.not_true,Bool.false_or,jP] at zb;rcases E with E|⟨i,c,rv,E,_,_⟩<;>rcases G with G|⟨aZ,c',axW,G,_,_⟩
     ·have:=zb _ E _ G;simp[pz] at this
     ·have:=zb _ E (.wr k aZ) (by rw[G];exact kP);simp[pz] at this
     ·have:=zb (.wr k i) (by rw[E];exact kP) _ G;simp[pz] at this
     ·have:=zb (.wr k i) (by rw[E];exact kP) (.wr k aZ) (by rw[G];exact kP);simp[pz] at this
  refine⟨_,_,.inr ⟨bX,bO,az,Qx,λp q zc aL=>?_,rfl,rfl⟩,.inr ⟨by simp only[Lw];exact bZ,aU,aK,?_,?_,?_,?_⟩⟩
  ·have a6:p≠i:=λh=>by rw[h,y9] at aL;cases aL
   exact dR p q zc (by simp[iy,a6,aL])
  ·simp only[XW];rw[<-s1];exact XT Qx (XV zb)
  ·simp only[Lx];intro p q Ly aL
   by_cases zc:p=j
   ·subst zc;simp only[iy,if_true,bF] at aL;subst aL;exact XV (XX (by rw[Qw];exact Ly))
   ·simp only[iy,zc,if_false] at aL;exact cH p q Ly aL
  ·simp only[Lx]
   funext p
   simp only[iy]
   by_cases E:p=i
   ·subst E;simp[hM]
   ·simp[E]
  ·simp only[pN];rw[ajA gC]
end Go.Mini
namespace Go.Mini
open Go
variable {T:bj} {fH:Nat->Nat->Bool} {ops:Array Oper} {l:List bh} {K:a3->Prop}
abbrev um:=Nat->bh->Rec->a3->Rec->a3->Prop
variable {b6:um}
def AV (b6:um)(ops:Array Oper)(l:List bh)(K:a3->Prop):Nat->Array Bool->Rec->a3->Prop
 |0,listed,_,st=>Region.ready .any ops listed=[]/\K st
 |fuel+1,listed,rec,st=>(Region.ready .any ops listed=[]->K st) /\
  ∀i∈Region.ready .any ops listed,∃x h6 bV,l[i]?=some x/\b6 i x rec st h6 bV/\AV b6 ops l K fuel (listed.setIfInBounds i true) h6 bV
def vO (ops:Array Oper)(listed:Array Bool):Prop :=
 listed.size=ops.size/\∀(j:Nat) (o:Oper),ops[j]?=some o->listed.getD j false=true->∀e∈o.after,Region.binds .any e=true->listed.getD e.on false=true
def vO.set {listed:Array Bool}{i:Nat}(h:vO ops listed)(L:i∈Region.ready .any ops listed):vO ops (listed.setIfInBounds i true):=by
 refine⟨by simp[h.1],λj o aa ad e he U=>?_⟩
 by_cases ig:j=i
 ·subst ig;obtain⟨_,xw,a0,dn⟩:=mem_ready.1 L;rw[aa] at a0
  cases a0;exact getD_set_true (dn e he U)
 ·rw[getD_set_ne false (Ne.symm ig)] at ad;exact getD_set_true (h.2 j o aa ad e he U)
def Qy (fH:Nat->Nat->Bool)(ops:Array Oper)(l:List bh):Prop :=
 ∀(i j:Nat) (x y:bh),i≠j->l[i]?=some x->l[j]?=some y ->
  (∀listed,vO ops listed->i∈Region.ready .any ops listed->j∈Region.ready .any ops listed->False)\/(nT x y=true/\Passes fH i j x y)
def Qz {i k:Nat}{x:bh}{rec h6:Rec}{st bV:a3}(h:iC T fH i x rec st h6 bV)(O:k≠i):h6 k=rec k:=by
 rcases h with ⟨_,rfl,_⟩|⟨_,_,_,_,_,rfl,_⟩
 ·rfl
 ·simp[iy,O]
def ajC {listed:Array Bool}{i k:Nat}(h:(listed.setIfInBounds i true).getD k true=false):k≠i/\listed.getD k true=false:=by
 by_cases vP:i=k
 ·subst vP
  exfalso
  by_cases av:i<listed.size
  ·simp[av] at h
  ·have:(listed.setIfInBounds i true).size<=i:=by simp;omega
   rw[Array.getD_eq_getD_getElem?,Array.getElem?_eq_none this] at h;simp at h
 ·rw[getD_set_ne true vP] at h;exact⟨λbS=>vP bS.symm,h⟩
def G9 (b6:um)(ops:Array Oper)(l:List bh):Prop :=
 ∀(i j:Nat) (x y:bh),i≠j->l[i]?=some x->l[j]?=some y ->
  (∀listed,vO ops listed->i∈Region.ready .any ops listed->j∈Region.ready .any ops listed->False) \/
  ∀rec st rec1 st1 jR jS,rec i=none->rec j=none->b6 i x rec st rec1 st1->b6 j y rec1 st1 jR jS->∃vN iN,b6 j y rec st vN iN/\b6 i x vN iN jR jS
def Ha (b6:um):Prop:=∀i x rec st h6 bV,b6 i x rec st h6 bV->∀k,k≠i->h6 k=rec k
def XZ (aF:Qy fH ops l)(Qw:∀a b,fH a b=fH b a):G9 (iC T fH) ops l:=λi j x y hM L aa =>
 (aF i j x y hM L aa).imp id fun⟨a2,U⟩ _ _ _ _ _ _ Q _ E G=>iC.comm hM a2 U Qw Q E G
def X0:Ha (iC T fH):=λ_ _ _ _ _ _ h _ O=>Qz h O
def ajD (aF:G9 b6 ops l)(AW:Ha b6){i:Nat}{x:bh}(L:l[i]?=some x):∀(fuel:Nat) (listed:Array Bool) (rec:Rec) (st:a3) (rec1:Rec) (st1:a3),
  vO ops listed->(∀k,listed.getD k true=false->rec k=none)->i∈Region.ready .any ops listed->b6 i x rec st rec1 st1 ->
  AV b6 ops l K fuel (listed.setIfInBounds i true) rec1 st1->AV b6 ops l K (fuel+1) listed rec st:=by
 intro fuel
 induction fuel with
 |zero =>
  intro listed rec st rec1 st1 dN jT Q he H;refine⟨λh=>(by rw[h] at Q;cases Q),λj aa=>?_⟩
  by_cases ig:j=i
  ·subst ig;exact⟨x,rec1,st1,L,he,H⟩
  ·have:=ready_mono aa ig;rw[H.1] at this
   cases this
 |succ fuel aD =>
  intro listed rec st rec1 st1 dN jT Q he H;refine⟨λh=>(by rw[h] at Q;cases Q),λj aa=>?_⟩
  by_cases ig:j=i
  ·subst ig;exact⟨x,rec1,st1,L,he,H⟩
  ·obtain⟨y,jR,jS,af,eG,et⟩:=H.2 j (ready_mono aa ig);rcases aF i j x y (Ne.symm ig) L af with ji|gC
   ·exact (ji listed dN Q aa).elim
   ·obtain⟨vN,iN,E,G⟩:=gC _ _ _ _ _ _ (jT i (mem_ready.1 Q).1) (jT j (mem_ready.1 aa).1) he eG;refine⟨y,vN,iN,af,E,aD _ vN iN jR jS (dN.set aa) (λk O=>?_) (ready_mono Q (Ne.symm ig)) G ?_⟩
    ·obtain⟨ab,aM⟩:=ajC O;rw[AW _ _ _ _ _ _ E k ab];exact jT k aM
    ·rw[Array.setIfInBounds_comm _ _ ig];exact et
def QA:∀(r:List Oper) (acc:List Nat) (k:Nat),k<(D acc)->(fp r acc).getD k 0=acc.getD k 0
 | [],acc,k,_=>rfl
 |o::r,acc,k,O=>by
  simp only[fp];rw[QA r _ k (by simp;omega)];simp only[eH];rw[Da O]
def ajE {es:List Edge}{acc:List Nat}{i:Nat}:∀(s:Nat),(es.foldl (λs e=>if Region.binds .any e=true then s ||| (2^e.on ||| acc.getD e.on 0) else s) s).testBit i=true ->
  s.testBit i=true\/∃e∈es,Region.binds .any e=true/\(e.on=i\/(acc.getD e.on 0).testBit i=true):=by
 induction es with
 |nil=>exact λs h => .inl h
 |cons e es aD =>
  intro s h;rw[Xe] at h;rcases aD _ h with E|⟨e',E,G⟩
  ·split at E
   ·rename_i U;rw[X1,X1,sN,sN] at E;rcases E with E|E|E
    ·exact .inl E
    ·rw[Nat.testBit_two_pow] at E;exact .inr ⟨e,by simp,U,.inl (by simpa using E)⟩
    ·exact .inr ⟨e,by simp,U,.inr E⟩
   ·exact .inl E
  ·exact .inr ⟨e',by simp[E],G⟩
def X2:∀(r:List Oper) (acc:List Nat) (t:Nat) (o:Oper),r[t]?=some o->∀i,((fp r acc).getD (D acc+t) 0).testBit i=true ->
  ∃e∈o.after.toList,Region.binds .any e=true/\(e.on=i\/(e.on<D acc+t/\((fp r acc).getD e.on 0).testBit i=true))
 | [],_,_,_,h,_,_=>by simp at h
 |xw::r,acc,0,o,h,i,U=>by
  simp at h;subst h;simp only[fp,ko] at U ⊢;rw[QA r _ _ (by simp)] at U;simp only[eH] at U;rw[AH (bI _)] at U;simp only[lS,Hb,Qk] at U;rcases ajE (acc:=acc) 0 (by simpa only [eH] using U) with E|⟨e,E,G,ab⟩
  ·simp at E
  ·refine⟨e,E,G,ab.imp id λh=>?_⟩
   have av:e.on<D acc:=by
    rcases fF e.on (D acc) with bS|bS
    ·exact bS
    ·rw[eH,mI bS] at h;simp at h
   refine⟨av,?_⟩;rw[QA r _ _ (by simp;omega),eH,Da av,<-eH];exact h
 |xw::r,acc,t+1,o,h,i,U=>by
  have bS:r[t]?=some o:=by simpa using h
  simp only[fp] at U ⊢
  have:=X2 r (acc++[xw.after.toList.foldl (λs e=>if Region.binds .any e=true then s ||| (2^e.on ||| acc.getD e.on 0) else s) 0]) t o bS i (by
   rw[la,List.length_singleton,rk,Ax 1 t];exact U)
  obtain⟨e,E,G,ab⟩:=this;refine⟨e,E,G,ab.imp id λh=>⟨by have:=h.1;simp at this;omega,h.2⟩⟩
def X4 {listed:Array Bool}(dN:vO ops listed):∀(j:Nat) (o:Oper),ops[j]?=some o->(∀e∈o.after,Region.binds .any e=true->listed.getD e.on false=true) ->
  ∀i,((fp ops.toList []).getD j 0).testBit i=true->listed.getD i false=true:=by
 intro j
 induction j using Nat.strongRecOn with
 |_ j aD =>
  intro o a0 dn i L;obtain⟨e,he,U,h⟩:=X2 ops.toList [] j o (by simpa using a0) i (by simpa using L);have ad:=dn e (by simpa using he) U;rcases h with rfl|⟨av,ajF⟩
  ·exact ad
  ·have dz:e.on<ops.size:=by
    rw[<-dN.1];rcases fF e.on listed.size with bS|bS
    ·exact bS
    ·simp[Array.getElem?_eq_none bS] at ad
   have X5:ops[e.on]?=some ops[e.on]:=Array.getElem?_eq_getElem dz;exact aD e.on (by simpa using av) _ X5 (dN.2 e.on _ X5 ad) i ajF
def X6:∀(cs pre:List bh) (as:List Nat),xd pre cs as=true->∀(t:Nat) (y:bh),cs[t]?=some y->∀(i:Nat) (x:bh),(pre++cs)[i]?=some x->i<D pre+t ->
  (as.getD t 0).testBit i=true\/nT x y=true
 | [],_,_,_,_,_,h,_,_,_,_=>by simp at h
 |_::_,_,[],h,_,_,_,_,_,_,_=>by simp[xd] at h
 |c::cs,pre,a::as,h,0,y,af,i,x,J,av=>by
  simp only[xd,dp,jP] at h;simp at af;subst af;have L:i<D pre:=by simpa using av
  rw[Da L] at J;have:=h.1 (x,i) (by rw[Dp];exact J)
  simpa using this
 |c::cs,pre,a::as,h,t+1,y,af,i,x,J,av=>by
  simp only[xd,dp] at h;have:=X6 cs (pre++[c]) as h.2 t y (by simpa using af) i x (by simpa using J) (by simp;omega)
  simpa using this
def X7:∀(cs pre:List bh) (as:List Nat) (t:Nat) (y:bh),cs[t]?=some y->∀(i:Nat) (x:bh),(pre++cs)[i]?=some x->i<D pre+t ->
  (as.getD t 0).testBit i=true\/tT (ld x.op) (ld y.op)=true\/i∈(lf pre cs as).getD t []
 | [],_,_,_,_,h,_,_,_,_=>by simp at h
 |c::cs,pre,as,0,y,af,i,x,J,av=>by
  simp at af;subst af;have L:i<D pre:=by simpa using av
  rw[Da L] at J;have gA:(x,i)∈pre.zipIdx:=by rw[Dp];exact J
  by_cases E:(as.getD 0 0).testBit i=true
  ·exact .inl E
  ·by_cases G:tT (ld x.op) (ld c.op)=true
   ·exact .inr (.inl G)
   ·refine .inr (.inr ?_);simp only[lf,eH,Hb,Qk];refine List.mem_map.2 ⟨(x,i),List.mem_filter.2 ⟨gA,?_⟩,rfl⟩;have ab:as.headD 0=as.getD 0 0:=by cases as<;>rfl
    simp only[ab];rw[eH] at E;simp[E,G]
 |c::cs,pre,as,t+1,y,af,i,x,J,av=>by
  have:=X7 cs (pre++[c]) as.tail t y (by simpa using af) i x (by simpa using J) (by simp;omega);have ab:as.tail.getD t 0=as.getD (t+1) 0:=by cases as<;>simp
  rw[ab] at this
  simpa [lf] using this
def lW (c:List (List Nat))(i j:Nat):Bool:=if i<j then (c.getD j []).contains i else if j<i then (c.getD i []).contains j else false
def Lz (c:List (List Nat))(i j:Nat):lW c i j=lW c j i:=by
 unfold lW
 by_cases E:i<j
 ·simp[E,X8 E]
 ·by_cases G:j<i
  ·simp[G,X8 G]
  ·simp[E,G]
def ajG {x y:bh}(h:nT x y=true):nT y x=true:=by
 obtain⟨E,G,ab⟩:=AT h;unfold nT;rw[dp]
 constructor
 ·cases af:y.dst with
  |none=>rfl
  |some d =>
   have a:=ab d af;have b:x.dst≠some d:=λJ=>G d J af;simp[a,b]
 ·cases J:x.dst with
  |none=>rfl
  |some d =>
   have a:=E d J;simp[a]
def ajH (a b:Nat):tT a b=tT b a:=by
 unfold tT
 cases (a==0)<;>cases (b==0)<;>cases (a==1)<;>cases (b==1)<;>rfl
def QB (ae:pB ops l=true):Qy (lW (lf [] l (fp ops.toList []))) ops l:=by
 have key:∀(i j:Nat) (x y:bh),i<j->l[i]?=some x->l[j]?=some y ->
   (∀listed,vO ops listed->i∈Region.ready .any ops listed->j∈Region.ready .any ops listed->False) \/
   (nT x y=true/\(lW (lf [] l (fp ops.toList [])) i j=true\/tT (ld x.op) (ld y.op)=true)):=by
  intro i j x y hM J af;unfold pB at ae;rw[dp] at ae
  by_cases U:((fp ops.toList []).getD j 0).testBit i=true
  ·refine .inl λlisted dN L aa=>?_;obtain⟨_,o,a0,dn⟩:=mem_ready.1 aa;have E:=X4 dN j o a0 dn i U;have ak:=(mem_ready.1 L).1;rcases fF i listed.size with bS|bS
   ·simp[bS] at ak E;rw[ak] at E;cases E
   ·simp[Array.getElem?_eq_none bS] at E
  ·refine .inr ⟨?_,?_⟩
   ·rcases X6 l [] _ ae.2 j y af i x (by simpa using J) (by simpa using hM) with h|h
    ·exact absurd h U
    ·exact h
   ·rcases X7 l [] (fp ops.toList []) j y af i x (by simpa using J) (by simpa using hM) with h|h|h
    ·exact absurd h U
    ·exact .inr h
    ·exact .inl (by unfold lW;rw[aq hM];exact X9.2 h)
 intro i j x y hM J af;rcases Nat.lt_or_gt_of_ne hM with h|h
 ·exact key i j x y h J af
 ·rcases key j i y x h af J with E|⟨E,G⟩
  ·exact .inl λlisted dN L aa=>E listed dN aa L
  ·refine .inr ⟨ajG E,?_⟩;rcases G with G|G
   ·exact .inl (by rw[Lz];exact G)
   ·exact .inr (by rw[ajH];exact G)
end Go.Mini
namespace Go.Mini
open Go
variable {P:Program} {aQ:Option I} {T:bj} {A:Nat->Prop} {b5 w:World} {c4 B:cB} {mem:Mem} {n kb:Nat} {own:List Nat} {ops:Array Oper} {l:List bh} {K:a3->Prop} {al:Exit->Act->World->Prop}
def Ya:∀(r:List Oper) (m:Nat),xe m r=true->∀(t:Nat) (o:Oper),r[t]?=some o->∀e∈o.after,Region.binds .any e=true->e.on<m+t
 | [],_,_,_,_,h,_,_,_=>by simp at h
 |xw::r,m,h,0,o,a0,e,he,U=>by
  simp only[xe,dp] at h;simp at a0;subst a0;have:=(Array.all_eq_true_iff_forall_mem.1 h.1) e he
  simpa [U] using this
 |xw::r,m,h,t+1,o,a0,e,he,U=>by
  simp only[xe,dp] at h;have:=Ya r (m+1) h.2 t o (by simpa using a0) e he U;omega
inductive xx (b6:um) (K:a3->Prop):Nat->List bh->Rec->a3->Prop
 |nil {m:Nat} {rec:Rec} {st:a3} (h:K st):xx b6 K m [] rec st
 |cons {m:Nat} {x:bh} {r:List bh} {rec rec1:Rec} {st st1:a3} (h:b6 m x rec st rec1 st1) (Q:xx b6 K (m+1) r rec1 st1):xx b6 K m (x::r) rec st
def QC {b6:um}(aF:G9 b6 ops l)(AW:Ha b6)(ad:(D l)=ops.size)(he:xe 0 ops.toList=true):∀(r:List bh) (m:Nat) (rec:Rec) (st:a3) (listed:Array Bool),l.drop m=r->m+D r=(D l) ->
  listed.size=ops.size->(∀i,i<ops.size->listed.getD i true=decide (i<m))->(∀k,m<=k->rec k=none)->xx b6 K m r rec st->AV b6 ops l K (D r) listed rec st
 | [],m,rec,st,listed,Q,hm,R,eZ,jT,.nil h=>by
  refine⟨List.eq_nil_iff_forall_not_mem.2 λi L=>?_,h⟩;obtain⟨E,o,a0,_⟩:=mem_ready.1 L;have av:i<ops.size:=(Array.getElem?_eq_some_iff.1 a0).1;rw[eZ i av] at E;simp at E hm;omega
 |x::r,m,rec,st,listed,Q,hm,R,eZ,jT,.cons (rec1:=rec1) (st1:=st1) hex O=>by
  have av:m<ops.size:=by simp at hm;omega
  have a0:ops[m]?=some ops[m]:=Array.getElem?_eq_getElem av
  have J:l[m]?=some x:=by
   have:(l.drop m)[0]?=some x:=by rw[Q];rfl
   simpa using this
  have h5:=λ(j:Nat) (o:Oper) (aa:ops[j]?=some o)=>Ya ops.toList 0 he j o (by simpa using aa)
  have fa:∀i,i<m->listed.getD i false=true:=λi L=>by
   have E:=eZ i (by omega);rw[kG L] at E;have G:i<listed.size:=by omega
   simpa [G] using E
  have dN:vO ops listed:=⟨R,λj o aa h2 e lT U=>by
   have E:=h5 j o aa e lT U;have jx:j<ops.size:=(Array.getElem?_eq_some_iff.1 aa).1
   have G:j<m:=by
    have:=eZ j jx;have ab:j<listed.size:=by omega
    simp[ab] at h2 this;rw[h2] at this
    simpa using this.symm
   exact fa _ (by omega)⟩
  have ajI:m∈Region.ready .any ops listed:=mem_ready.2 ⟨by rw[eZ m av];simp,_,a0,λe lT U=>fa _ (by have:=h5 m _ a0 e lT U;omega)⟩
  have ajJ:∀k,listed.getD k true=false->rec k=none:=λk O=>jT k (by
   rcases fF k ops.size with bS|bS
   ·rw[eZ k bS] at O
    simpa using O
   ·omega)
  refine ajD aF AW J _ listed rec st rec1 st1 dN ajJ ajI hex (QC aF AW ad he r (m+1) rec1 st1 _ ?_ (by simp at hm;omega) (by simpa using R) (λi L=>?_) (λk O=>?_) O)
  ·rw[<-xy,Q]
   rfl
  ·by_cases him:m=i
   ·subst him;have:m<listed.size:=by omega
    simp[this]
   ·rw[getD_set_ne true him,eZ i L]
    congr 1
    simp;omega
  ·rw[AW _ _ _ _ _ _ hex k (by omega)];exact jT k (by omega)
def Yb {c:List (List Nat)}:∀(r:List bh) (m:Nat) (rec:Rec) (st:a3),(∀k,m<=k->rec k=none)->sD T K m r (c.drop m) rec st->xx (iC T (lW c)) K m r rec st
 | [],m,rec,st,_,h => .nil h
 |x::r,m,rec,st,jT,h=>by
  simp only[sD] at h
  split at h
  ·cases h
  ·rename_i g aC
   have next:∀rec1 st1,iC T (lW c) m x rec st rec1 st1->sD T K (m+1) r (c.drop m).tail rec1 st1->xx (iC T (lW c)) K m (x::r) rec st:=λrec1 st1 hex O=>by
    rw[List.tail_drop] at O;exact .cons hex (Yb r (m+1) rec1 st1 (λk O=>by rw[Qz hex (by omega)];exact jT k (by omega)) O)
   split at h
   ·rename_i lj;subst lj
    split at h
    ·rename_i hI e R;refine next _ _ (.inr ⟨aC,hI,e,R,λp q lk aL=>?_,rfl,rfl⟩) h.2
     have j9:p<m:=by
      rcases fF p m with bS|bS
      ·exact bS
      ·rw[jT p bS] at aL;cases aL
     have xz:=h.1;unfold rh at xz;rw[jP] at xz
     have gA:p∈(c.drop m).headD []:=by
      unfold lW at lk;rw[aq j9] at lk
      have:(c.drop m).headD []=c.getD m []:=by
       rw[List.headD_eq_head?_getD,List.head?_drop,eH]
      rw[this];exact X9.1 lk
     have:=xz p gA;rw[aL] at this;exact this
    ·cases h
   ·rename_i ajK;have ajL:g=false:=by simpa using ajK
    subst ajL;exact next _ _ (.inl ⟨aC,rfl,rfl⟩) h
def ajM {c:List (List Nat)}(aF:Qy (lW c) ops l)(ad:(D l)=ops.size)(he:xe 0 ops.toList=true)(r:List bh)(m:Nat)(rec:Rec)(st:a3)(listed:Array Bool)(Q:l.drop m=r)(hm:m+D r=D l)
  (R:listed.size=ops.size) (eZ:∀i,i<ops.size->listed.getD i true=decide (i<m)) (jT:∀k,m<=k->rec k=none) (h:sD T K m r (c.drop m) rec st):AV (iC T (lW c)) ops l K (D r) listed rec st :=
 QC (XZ aF (Lz c)) X0 ad he r m rec st listed Q hm R eZ jT (Yb r m rec st jT h)
def Dq (h:dj A w B mem):dj (bb A B) w (λ_=>none) emp :=
 ⟨λ_ _=>rfl,λ_ _ _ _ _ h=>(by cases h),λb _ ⟨_,_,h,_⟩=>(by cases h),λb U=>U.elim (λbS=>h.ra bS) (h.lt b),h.gl,λb o _ ⟨_,_,h,_⟩=>(by cases h),λ_ _ _ h=>(by cases h)⟩
def vQ (b:Nat):bb (bb A B) (λ_=>none) b↔bb A B b :=
 ⟨λh=>h.elim (fun⟨_,_,h,_⟩=>by cases h) id,.inr⟩
def QD {m:I}{v:Value}(h:aN w (bb A B) B m v):aN w (bb (bb A B) λ_=>none) (λ_=>none) (shut m) v:=by
 cases h with
 |M h=>exact .M (h.less λb U=>(vQ b).1 U)
 |nil=>exact .nil
 |dB ad ae =>
  rename_i f cU vs
  cases cU with
  |nil=>exact .dB ad λi d v h=>by simp at h
  |cons c r=>exact .undef
 |agg ad ae =>
  rename_i cs vs;simp only[shut]
  cases Z:cs.mapM re with
  |none=>exact .undef
  |some ds =>
   obtain⟨E,G⟩:=mapM_get Z;refine .M (.agg (ad.trans E.symm) λi d v L ai=>?_);have av:i<D cs:=by have:=(dh.1 L).1;omega
   have ew:=bw av;exact (Qa (G i _ d ew L) (ae i _ v ew ai)).less λb U=>(vQ b).1 U
 |_=>exact .undef
def shut_list {ms:List I}{vs:List Value}(h:ck w (bb A B) B ms vs):ck w (bb (bb A B) λ_=>none) (λ_=>none) (ms.map shut) vs:=by
 refine⟨by simpa using h.1,λi m v hm ai=>?_⟩
 rw[bD,cJ] at hm;obtain⟨m',uo,rfl⟩:=hm;exact QD (h.2 i m' v uo ai)
def xt.less {w aj:World}{ax gI:Nat->Prop}{sz:Nat}{es:List (List Data)}{v:Value}(ad:∀b,gI b->ax b)(h:xt w aj ax sz es v):xt w aj gI sz es v:=by
 obtain⟨E,a,cap,G,ab,aM,bl⟩:=h;refine⟨E,a,cap,G,ab,aM,bl.imp id ?_⟩;rintro⟨b,vs,T,bz,bP,ct,jj,kq⟩;exact⟨b,vs,T,bz,bP,ct,jj,λi d ae=>let ⟨u,hu,mT⟩:=kq i d ae;⟨u,hu,mT.less λdt g3=>g3.imp (ad dt) id⟩⟩
def vR {o:Oper}{c:Call}{f:FuncId}{a:Act}(a0:o.op=.call c)(hh:c.callee=.value (.func f))(fO:Real P f):(execOp a.eval o).run P w=.ok (.enter f (c.args.toList.map a.eval).toArray) w:=by
 obtain⟨dst,op,type,pos,after,guard⟩:=o;simp only at a0;subst a0;obtain⟨callee,ru,y8⟩:=c;simp only at hh;subst hh;simp only[execOp,resolve,Deferred.ofValue,Act.eval,invoke,Sem.run_bind,Sem.run_pure,Result.andThen_ok,AQ fO];rw[vK ru];simp
def Yc {ax:Nat->Prop}{b off c sz len:Nat}{vs:Array Value}{T:TypeId}{ds:List Data}(a1:w.heap[b]?=some (.cells vs T (0,0)))(eE:¬ ax b)(ad:(D ds)=len*sz)(ajN:len<=c)(hm:len<=maxLen)(GG:off+len*sz<=vs.size)
  (ae:∀(i:Nat) (d:Data) (v:Value),ds[i]?=some d->vs[off+i]?=some v->Den w ax d v):Den w ax (.ay (chunk sz len ds)) (.slice (some ⟨b,off,none⟩) len c):=by
 have dN:=Lh sz len ds
 have h:=Den.ay (w:=w) (ax:=ax) (es:=chunk sz len ds) (b:=b) (off:=off) (c:=c) (sz:=sz) (λi=>vs.getD (off+i) undef) (by rw[dN];exact ajN) (by rw[dN];exact hm)
  (Array.getElem?_eq_some_iff.1 a1).1 eE (Li sz len ds ad)
  (λi L=>by
   rw[dN] at L;rw[cell_of_row w b (off+i) vs T (0,0) a1];have:off+i<vs.size:=by omega
   simp[this])
  (λi d mb=>by
   rw[Lj sz len ds ad] at mb;have av:i<D ds:=(dh.1 mb).1;have kN:off+i<vs.size:=by omega
   have:vs.getD (off+i) undef=vs[off+i]:=by simp[kN]
   simp only[this];exact ae i d _ mb (Array.getElem?_eq_getElem kN))
 rw[dN] at h;exact h
def ajO {mem:Mem}{k g sz off len:Nat}{cs:List I}{d:Data}(hm:mem k=some (g,cs))(h:Gx sz off len cs=some d):cC 1 mem (.ref k g sz off len)=some d:=by
 have aP:∀(m:I) (d:Data),re m=some d->cC 0 mem m=some d:=λm d h=>by
  unfold re at h
  split at h<;>simp_all [cC]
 have ad:∀(l:List I) (ds:List Data),l.mapM re=some ds->l.mapM (cC 0 mem)=some ds:=by
  intro l
  induction l with
  |nil=>intro ds h;simpa using h
  |cons m l aD =>
   intro ds h;simp only[ma,fy,fE,dd,bF] at h ⊢;obtain⟨x,J,vS,e3,rfl⟩:=h;exact⟨x,aP m x J,vS,aD vS e3,rfl⟩
 unfold Gx at h
 split at h
 ·rename_i part aF;simp only[PO,cJ] at h;obtain⟨ds,e3,rfl⟩:=h;simp only[cC,hm,if_true,aF];rw[ad _ _ e3]
  rfl
 ·cases h
def Hc {k:Key}{g sz off len:Nat}{cs:List I}{d:Data}{v:Value}(a4:dj A w B mem)(O:mem k=some (g,cs))(ae:cC 1 mem (.ref k g sz off len)=some d)(ai:aN w (bb A B) B (.ref k g sz off len) v):
  Den w (bb A (eu B k ⟨bp mem k,none,0,false⟩)) d v:=by
 have eE:∀b,bb A (eu B k ⟨bp mem k,none,0,false⟩) b->bb A B b:=λb h=>h.imp (fun⟨j,e,aa,J⟩=>by
  by_cases bL:j=k
  ·subst bL;rw[eX] at aa;cases aa;cases J
  ·rw[eR B _ bL] at aa;exact⟨j,e,aa,J⟩) id
 simp only[cC,O,if_true] at ae
 split at ae
 ·rename_i part QE;simp only[cJ] at ae;obtain⟨ds,e3,rfl⟩:=ae;obtain⟨dN,rfl,j9⟩:=C9 QE;obtain⟨E,G⟩:=mapM_get e3
  cases ai with
  |ref he hgle Q =>
   obtain⟨e,dW,bM,aE,U⟩:=a4.at_ O;rw[dW] at he;obtain rfl:=mN he;obtain⟨a,cap,rfl,ab,aM,bl⟩:=Q;rcases bl with bl|⟨b,rfl,bz⟩
   ·have:len=0:=by omega
    subst this;simp only[chunk];exact .j6
   ·obtain⟨bP,ct,gL⟩:=bz bM.symm;obtain⟨vs,T,a1,aP,hle,b0⟩:=U b bP gL
    have QF:¬ bb A (eu B k ⟨bp mem k,none,0,false⟩) b:=by
     rintro (⟨j,az,aa,J⟩|a2)
     ·by_cases bL:j=k
      ·subst bL;rw[eX] at aa;cases aa;cases J
      ·rw[eR B _ bL] at aa;exact bL (a4.inj j k az _ b aa dW J bP)
     ·exact a4.sep b a2 ⟨k,_,dW,bP⟩
    refine Yc a1 QF (by omega) ab (by omega) (by omega) λi x u J hu=>?_;have av:i<D ds:=(dh.1 J).1;have kN:off+i<D cs:=by omega
    have ew:((cs.drop off).take (len*sz))[i]?=some cs[off+i]:=by
     rw[xA (by omega),sL,bw kN]
    have oL:=G i _ x ew J
    have j8:aN w (bb A B) B cs[off+i] u:=b0.2 (off+i) _ u (bw kN) (by
     rw[xA kN,Array.getElem?_toList];exact hu)
    generalize cs[off+i]=m at *
    cases m<;>simp only[cC,bF,reduceCtorEq] at oL
    ·subst oL
     cases j8 with
     |M h=>exact h.less eE
    ·subst oL
     cases j8;exact .j6
 ·cases ae
def ajP {gI:Nat->Prop}{aB:cB}(eE:∀b,gI b->bb A B b){m:I}{v:Value}(h:aN w (bb A B) B m v):aN w gI aB (shut m) v:=by
 have ak:=QD h;have ajQ:∀b,gI b->bb (bb A B) (λ_=>none) b:=λb U=>(vQ b).2 (eE b U)
 have go:∀{m:I},(∃d,m=.M d)\/m=.nil\/(∃f,m=.dB f [])\/m=.undef->aN w (bb (bb A B) λ_=>none) (λ_=>none) m v->aN w gI aB m v:=by
  intro m hm h;rcases hm with ⟨d,rfl⟩|rfl|⟨f,rfl⟩|rfl
  ·cases h with
   |M h=>exact .M (h.less ajQ)
  ·cases h;exact .nil
  ·cases h with
   |dB ad ae=>exact .dB ad λi d v h=>by simp at h
  ·exact .undef
 refine go ?_ ak
 cases m<;>simp only[shut]
 case M d=>simp
 case nil=>simp
 case dB f cU=>cases cU<;>simp
 case agg cs=>split<;>simp
 all_goals simp
def ajR {k:Key}{g:Nat}{cs:List I}(h:dj A w B mem)(O:mem k=some (g,cs))(ae:rf cs=true):
  dj (λb=>A b\/∃j e,j≠k/\B j=some e/\e.cW=some b) w (λj=>if j=k then B k else none) (aR emp k g cs):=by
 have eE:∀b,bb (λb=>A b\/∃j e,j≠k/\B j=some e/\e.cW=some b) (λj=>if j=k then B k else none) b->bb A B b:=λb U=>by
  rcases U with ⟨j,e,aa,J⟩|a2|⟨j,e,_,aa,J⟩
  ·by_cases bL:j=k
   ·subst bL;simp only[if_true] at aa;exact .inl ⟨_,e,aa,J⟩
   ·simp only[bL,if_false] at aa;cases aa
  ·exact .inr a2
  ·exact .inl ⟨j,e,aa,J⟩
 refine⟨λj aa=>?_,λj h1 e e' b E G _ _=>?_,λb a2 a0=>?_,λb U=>?_,h.gl,λb o U ⟨j,e,aa,J⟩=>?_,λj cd gx aa=>?_⟩
 ·by_cases bL:j=k
  ·subst bL;simp[aR] at aa
  ·simp only[bL,if_false]
 ·by_cases aa:j=k<;>by_cases jx:h1=k
  ·rw[aa,jx]
  ·simp only[jx,if_false] at G;cases G
  ·simp only[aa,if_false] at E;cases E
  ·simp only[aa,if_false] at E;cases E
 ·obtain⟨j,e,aa,J⟩:=a0
  by_cases bL:j=k
  ·subst bL;simp only[if_true] at aa;rcases a2 with a2|⟨h1,e',a6,jx,oL⟩
   ·exact h.sep b a2 ⟨_,e,aa,J⟩
   ·exact a6 (h.inj _ _ e' e b jx aa oL J)
  ·simp only[bL,if_false] at aa;cases aa
 ·rcases U with U|⟨j,e,_,aa,J⟩
  ·exact h.lt b U
  ·exact h.ra ⟨j,e,aa,J⟩
 ·by_cases bL:j=k
  ·subst bL;simp only[if_true] at aa;exact h.vu b o U ⟨_,e,aa,J⟩
  ·simp only[bL,if_false] at aa;cases aa
 ·by_cases bL:j=k
  ·subst bL;simp only[aR,if_true,bF,ec] at aa;obtain⟨rfl,rfl⟩:=aa;obtain⟨e,he,aC,aE,U⟩:=h.cW _ _ _ O;refine⟨e,by simp only[if_true];exact he,aC,aE,λb fq=>?_⟩
   refine (U b fq).imp rfl rfl λm L v iz=>?_;unfold rf at ae;rw[jP] at ae;have hm:=ae m L;rw[Xr] at hm;obtain⟨d,hm⟩:=hm;unfold re at hm
   split at hm<;>cases hm
   ·cases iz with
    |M iz=>exact .M (iz.less eE)
   ·cases iz;exact .nil
  ·simp only[aR,bL,if_false,emp] at aa;cases aa
def ajS {aj:World}{k:Key}{sw:Nat->Prop}(h:dj A w B mem)(ajT:∀b,sw b->∃e,B k=some e/\e.cW=some b)(f:Fr sw w aj):cT A w B aj (eu B k ⟨bp mem k,none,0,false⟩) (aR mem k (bp mem k) []) :=
 cT.change (e':=⟨bp mem k,none,0,false⟩) h ⟨f.os,f.tape,f.output,f.size,λb U a0=>f.block b U λJ=>a0 (ajT b J)⟩ (λe he => .inr (yX h k e he)) (λb U=>by simp at U) (λ_=>rfl) (λb U=>by simp at U)
def ajU (cn:mS P T){a:Act}{st:a3}{o:Oper}{i:bh}{m:I}{e:Option (Key×Nat×List I)}(h:dq aQ n A b5 c4 a st w B)(L:Dn P n kb own ops o i)
  (R:ei T st.mem st.tm i.op=some (m,e)):o.wp P a w (λcl aj=>∃aB,dq aQ n A b5 c4 cl ⟨put st.tm i.dst m,fB st.mem e⟩ aj aB) al:=by
 have ev:=L.op
 have plain:br st.mem st.tm i.op=some (m,e)->o.wp P a w (λcl aj=>∃aB,dq aQ n A b5 c4 cl ⟨put st.tm i.dst m,fB st.mem e⟩ aj aB) al:=by
  intro R
  have aA:gk P kb own o.dst o.type o.op=some i.op:=getD_some ev (by
   intro U;rw[U] at R
   cases R)
  obtain⟨y7,v,aj,aB,dY,lh,c6,ai⟩:=Ql h.ok.b4 h.jy (λ_=>rfl) aA R;unfold Oper.wp;rw[dY,L.dst];have xu:=h.put c6 ai L.lt;rcases lh with rfl|⟨rfl,rfl⟩
  ·exact⟨aB,xu⟩
  ·exact⟨aB,xu⟩
 cases qu:i.op with
 |call f args =>
  have aA:gk P kb own o.dst o.type o.op=some i.op:=getD_some ev (by rw[qu];simp);rw[qu] at aA R;obtain⟨c,Z,hh,iB⟩:=GY aA;have b0:=shut_list (pJ h.jy iB);rw[rz] at b0;simp only[ei] at R
  split at R
  ·rename_i r g4
   cases R;obtain⟨fO,h5⟩:=cn f _ _ _ g4;have lU:=h5 (bb A B) w (λ_=>none) _ (Dq h.ok.b4) b0;unfold Oper.wp;rw[vR Z hh fO,L.dst];refine Calls.mono lU λe aj he=>?_;obtain⟨v,rfl,c7,ae⟩:=he;exact⟨B,h.put (.still h.ok.b4 c7) (.M (ae.less λb U=>(vQ b).2 U)) L.lt⟩
  ·rename_i sz es g4
   cases R;obtain⟨fO,h5⟩:=cn f _ _ _ g4;have lU:=h5 (bb A B) w (λ_=>none) _ (Dq h.ok.b4) b0;unfold Oper.wp;rw[vR Z hh fO,L.dst];refine Calls.mono lU λe aj he=>?_;obtain⟨v,rfl,c7,ae⟩:=he;exact⟨B,h.put (.still h.ok.b4 c7) (.M ((ae.less λb U=>(vQ b).2 U).den λb U=>U.elim (λbS=>h.ok.b4.ra bS) (h.ok.b4.lt b))) L.lt⟩
  ·cases R
 |kJ k sz f args =>
  have aA:gk P kb own o.dst o.type o.op=some i.op:=getD_some ev (by rw[qu];simp);rw[qu] at aA R;obtain⟨c,Z,hh,iB⟩:=XJ aA;have b0:=shut_list (pJ h.jy iB);rw[rz] at b0;simp only[ei] at R
  split at R
  ·rename_i dC es g4
   split at R
   ·rename_i dz;subst dz
    cases R;obtain⟨fO,h5⟩:=cn f _ _ _ g4;have lU:=h5 (bb A B) w (λ_=>none) _ (Dq h.ok.b4) b0;unfold Oper.wp;rw[vR Z hh fO,L.dst];refine Calls.mono lU λe aj he=>?_;obtain⟨v,rfl,c7,ae⟩:=he;obtain⟨aB,c6,ai⟩:=XI k h.ok.b4 c7 (ae.less λb U=>(vQ b).2 U);exact⟨aB,h.put c6 ai L.lt⟩
   ·cases R
  ·cases R
 |j7 bQ f args =>
  have aA:gk P kb own o.dst o.type o.op=some i.op:=getD_some ev (by rw[qu];simp);rw[qu] at aA R;obtain⟨c,Z,hh,iB⟩:=ajh aA;have b0:=pJ h.jy iB;simp only[ei] at R;obtain⟨r,k,g,axX,cc,cs,g4,hm,rfl,rfl,ag⟩:=XS R;obtain⟨fO,h5⟩:=cn f _ _ _ g4;have lU:=h5 A w B _ h.ok.b4 b0;unfold Oper.wp;rw[vR Z hh fO,L.dst];refine Calls.mono lU λe aj he=>?_;obtain⟨v,aB,rfl,c6,ai⟩:=he;refine⟨aB,?_⟩;have sK:py st.mem k=cs:=by simp only[py,hm]
  rw[sK] at c6;exact h.put c6 ai L.lt
 |pv j f args =>
  have aA:gk P kb own o.dst o.type o.op=some i.op:=getD_some ev (by rw[qu];simp);rw[qu] at aA R;obtain⟨c,Z,hh,iB⟩:=aji aA;have zd:=pJ h.jy iB;simp only[ei] at R;obtain⟨k,g,sz,off,len,cs,d,r,J,hm,ae,Q,rfl,rfl⟩:=XQ R;have ok:=cT.vB h.ok.b4 k
  have av:j<(c.args.toList.map a.eval).length:=by
   rw[zd.1];exact (dh.1 J).1
  have GH:=bw av;have mT:=Hc h.ok.b4 hm (ajO hm ae) (zd.2 j _ _ J GH);have LA:=shut_list (zd.ju ok.h0);rw[rz] at LA
  have LB:ck w (bb (bb A (eu B k ⟨bp st.mem k,none,0,false⟩)) λ_=>none) (λ_=>none) ((args.map (shut ∘ aI st.tm)).set j (.M d)) (c.args.toList.map a.eval):=by
   refine⟨by rw[LA.1,gg],λi m v E G=>?_⟩
   by_cases ig:j=i
   ·subst ig;rw[GH] at G
    cases G;have h2:j<(args.map (shut ∘ aI st.tm)).length:=by rw[<-LA.1];exact av
    rw[Yd h2] at E
    cases E;exact .M (mT.less λb U=>(vQ b).1 U)
   ·rw[Ye ig] at E;exact LA.2 i m v E G
  unfold K4 at Q
  split at Q
  ·rename_i C7 g4
   cases Q;obtain⟨fO,h5⟩:=cn f _ _ _ g4;have lU:=h5 (bb A (eu B k ⟨bp st.mem k,none,0,false⟩)) w (λ_=>none) _ (Dq ok.b4) LB;unfold Oper.wp;rw[vR Z hh fO,L.dst];refine Calls.mono lU λe aj he=>?_;obtain⟨v,rfl,c7,kL⟩:=he;exact⟨_,h.put (ok.trans (.still ok.b4 c7)) (.M (kL.less λb U=>(vQ b).2 U)) L.lt⟩
  ·rename_i dC es g4
   cases Q;obtain⟨fO,h5⟩:=cn f _ _ _ g4;have lU:=h5 (bb A (eu B k ⟨bp st.mem k,none,0,false⟩)) w (λ_=>none) _ (Dq ok.b4) LB;unfold Oper.wp;rw[vR Z hh fO,L.dst];refine Calls.mono lU λe aj he=>?_;obtain⟨v,rfl,c7,kL⟩:=he;exact⟨_,h.put (ok.trans (.still ok.b4 c7)) (.M ((kL.less λb U=>(vQ b).2 U).den λb U=>U.elim (λbS=>ok.b4.ra bS) (ok.b4.lt b))) L.lt⟩
  ·cases Q
 |pw j f args =>
  have aA:gk P kb own o.dst o.type o.op=some i.op:=getD_some ev (by rw[qu];simp);rw[qu] at aA R;obtain⟨c,Z,hh,iB⟩:=ajj aA;have zd:=pJ h.jy iB;simp only[ei] at R;obtain⟨k,g,sz,off,len,cd,cs,r,J,hm,ae,g4,rfl,rfl⟩:=XR R;have a4:=ajR h.ok.b4 hm ae
  have ajV:∀b,bb (λb=>A b\/∃j e,j≠k/\B j=some e/\e.cW=some b) (λj=>if j=k then B k else none) b->bb A B b:=λb U=>by
   rcases U with ⟨vT,e,aa,qv⟩|a2|⟨vT,e,_,aa,qv⟩
   ·by_cases bL:vT=k
    ·simp only[aq bL] at aa;exact .inl ⟨k,e,aa,qv⟩
    ·simp only[ar bL] at aa;cases aa
   ·exact .inr a2
   ·exact .inl ⟨vT,e,aa,qv⟩
  have av:j<(c.args.toList.map a.eval).length:=by
   rw[zd.1];exact (dh.1 J).1
  have GH:=bw av
  have LB:ck w (bb (λb=>A b\/∃j e,j≠k/\B j=some e/\e.cW=some b) (λj=>if j=k then B k else none)) (λj=>if j=k then B k else none) ((args.map λx=>shut (aI st.tm x)).set j (.ref k g sz off len)) (c.args.toList.map a.eval):=by
   refine⟨by rw[zd.1,gg,au,au],λi m v E G=>?_⟩
   by_cases ig:j=i
   ·subst ig
    have h2:j<(args.map λx=>shut (aI st.tm x)).length:=by
     have:=(dh.1 J).1
     simpa using this
    rw[Yd h2] at E
    cases E;have ai:=zd.2 j _ v J G
    cases ai with
    |ref he aC Q=>exact .ref (by simp only[if_true];exact he) aC Q
   ·rw[Ye ig,bD,cJ] at E;obtain⟨y,af,rfl⟩:=E;exact ajP ajV (zd.2 i (aI st.tm y) v (by rw[bD,af];rfl) G)
  obtain⟨fO,h5⟩:=cn f _ _ _ g4;have lU:=h5 _ w _ _ a4 LB;unfold Oper.wp;rw[vR Z hh fO,L.dst];refine Calls.mono lU λe aj he=>?_;obtain⟨v,hG,rfl,c6,ai⟩:=he;refine⟨_,h.put (ajS h.ok.b4 (λb U=>?_) c6.fx) ?_ L.lt⟩
  ·obtain⟨vT,e,aa,qv⟩:=U
   by_cases bL:vT=k
   ·simp only[aq bL] at aa;exact⟨e,aa,qv⟩
   ·simp only[ar bL] at aa;cases aa
  ·cases ai with
   |M ai =>
    refine .M (ai.less λb U=>?_);rcases U with ⟨vT,e,aa,qv⟩|a2
    ·by_cases bL:vT=k
     ·rw[bL,eX] at aa;cases aa;cases qv
     ·rw[eR B _ bL] at aa;exact .inr (.inr ⟨vT,e,bL,aa,qv⟩)
    ·exact .inr (.inl a2)
 |jc f args =>
  have aA:gk P kb own o.dst o.type o.op=some i.op:=getD_some ev (by rw[qu];simp);rw[qu] at aA R;obtain⟨c,x,Z,hh,J,iB⟩:=Qq aA;have b0:=shut_list (pJ h.jy iB);rw[rz] at b0;simp only[ei] at R
  split at R
  ·rename_i g aC
   split at R
   ·rename_i r g4
    cases R;have Lr:=QD (h.jy _ _ J);rw[aC] at Lr;obtain⟨cs,hu,dN⟩:=G0 Lr (.inl rfl);have jL:cs=[]:=qt dN.1;subst jL;obtain⟨fO,h5⟩:=cn g _ _ _ g4;have lU:=h5 (bb A B) w (λ_=>none) _ (Dq h.ok.b4) b0
    have hex:(execOp a.eval o).run P w=.ok (.enter g (c.args.toList.map a.eval).toArray) w:=by
     obtain⟨dst,op,type,pos,after,guard⟩:=o;simp only at Z;subst Z;obtain⟨callee,ru,y8⟩:=c;simp only at hh;subst hh;simp only[execOp,resolve,hu,Deferred.ofValue,invoke,Sem.run_bind,Sem.run_pure,Result.andThen_ok,AQ fO];rw[vK ru];simp
    unfold Oper.wp;rw[hex,L.dst];refine Calls.mono lU λe aj he=>?_;obtain⟨v,rfl,c7,ae⟩:=he;exact⟨B,h.put (.still h.ok.b4 c7) (.M (ae.less λb U=>(vQ b).2 U)) L.lt⟩
   ·cases R
  ·cases R
 |kH neg x=>rw[qu] at R;cases R
 |_=>exact plain (by rw[qu] at R ⊢;exact R)
def LC {α β:Type}{f:α->Option β}{xs:List α}{ys:List β}(h:xs.mapM f=some ys){i:Nat}{x:α}(J:xs[i]?=some x):∃y,ys[i]?=some y/\f x=some y:=by
 obtain⟨E,G⟩:=mapM_get h;have av:i<D ys:=by rw[E];exact (dh.1 J).1
 exact⟨_,bw av,G i x _ J (bw av)⟩
def LD (P:Program)(aQ:Option I)(n:Nat)(A:Nat->Prop)(b5:World)(c4:cB)(ops:Array Oper)(l:List bh)(b6:um)(al:Exit->Act->World->Prop):Prop :=
 ∀i x o rec st h6 bV a w B,l[i]?=some x->ops[i]?=some o->b6 i x rec st h6 bV->dq aQ n A b5 c4 a st w B ->
  (Region.wanted o (yielded ops a.tmps)=false/\dq aQ n A b5 c4 (a.put o.dst undef) bV w B)\/(Region.wanted o (yielded ops a.tmps)=true/\o.wp P a w (λcl aj=>∃aB,dq aQ n A b5 c4 cl bV aj aB) al)
def QG (cn:mS P T){fH:Nat->Nat->Bool}(aA:ops.toList.mapM (mG P n kb own ops)=some l):LD P aQ n A b5 c4 ops l (iC T fH) al:=by
 intro i x o rec st h6 bV a w B J a0 hex R;obtain⟨y,af,Hd⟩:=LC aA (i:=i) (x:=o) (by simpa using a0);rw[J] at af
 cases af;have vU:=GZ Hd;rcases hex with ⟨aC,rfl,rfl⟩|⟨aC,m,e,He,_,rfl,rfl⟩
 ·exact .inl ⟨y6 R vU.guard aC,by rw[vU.dst];exact R.put (.refl R.ok.b4) .no vU.lt⟩
 ·exact .inr ⟨y6 R vU.guard aC,ajU cn R vU He⟩
def LF {b6:um}(c6:LD P aQ n A b5 c4 ops l b6 al)(ey:∀st a w B,K st->dq aQ n A b5 c4 a st w B->al .normal a w):
  ∀(fuel:Nat) (listed:Array Bool) (rec:Rec) (st:a3) (a:Act) (w:World) (B:cB),dq aQ n A b5 c4 a st w B->AV b6 ops l K fuel listed rec st->wpAny P .any ops al fuel listed a w
 |0,_,_,_,_,_,_,R,h=>⟨h.1,ey _ _ _ _ h.2 R⟩
 |fuel+1,listed,rec,st,a,w,B,R,h=>by
  refine⟨λak=>ey _ _ _ _ (h.1 ak) R,λi L=>?_⟩;obtain⟨x,h6,bV,J,hex,O⟩:=h.2 i L;obtain⟨_,o,a0,_⟩:=mem_ready.1 L;unfold wpOp;simp only[a0];rcases c6 i x o rec st h6 bV a w B J a0 hex R with ⟨hw,dE⟩|⟨hw,dE⟩
  ·rw[hw,ar (by simp)];exact LF c6 ey fuel _ _ _ _ _ B dE O
  ·rw[hw,aq rfl];exact .inl (Oper.wp_mono (λcl aj ⟨aB,dE⟩=>LF c6 ey fuel _ _ _ _ _ aB dE O) dE)
def ajW (cn:mS P T){fH:Nat->Nat->Bool}(aA:ops.toList.mapM (mG P n kb own ops)=some l)(ey:∀st a w B,K st->dq aQ n A b5 c4 a st w B->al .normal a w):
  ∀(fuel:Nat) (listed:Array Bool) (rec:Rec) (st:a3) (a:Act) (w:World) (B:cB),dq aQ n A b5 c4 a st w B->AV (iC T fH) ops l K fuel listed rec st->wpAny P .any ops al fuel listed a w :=
 LF (QG cn aA) ey
def dq.drew {a:Act}{st:a3}(h:dq aQ n A b5 c4 a st w B)(d:Nat):dq aQ n A b5 c4 a st { w with drawn:=d } B:=by
 have R:cT A w B { w with drawn:=d } B st.mem:=.still h.ok.b4 ((Fr.refl _ _).drew d);exact⟨h.ok.trans R,λs=>(h.tm s).ju R.h0,h.sz,h.vM.ju R.h0⟩
def ajX (cn:mS P T)(hm:P.follows .mixedOrders=true){id:Nat}{a:Act}{st:a3}(aA:ops.toList.mapM (mG P n kb own ops)=some l)(ae:pB ops l=true)(R:dq aQ n A b5 c4 a st w B)
  (h:sD T K 0 l (lf [] l (fp ops.toList [])) (λ_=>none) st) (ey:∀st a w B,K st->dq aQ n A b5 c4 a st w B->al .normal a w):(Code.region id ops true).wp P al a w:=by
 refine wp_region_any hm ?_
 have ad:(D l)=ops.size:=by
  rw[(mapM_get aA).1,Array.length_toList]
 have me:=ajM (QB ae) ad (by unfold pB at ae;rw[dp] at ae;exact ae.1) l 0 (λ_=>none) st (Array.replicate ops.size false) rfl (by simp) (by simp) (λi L=>by simp[L]) (λ_ _=>rfl) h;rw[ad] at me;exact ajW cn aA ey ops.size _ _ _ _ _ B (R.drew _) me
def QH (cn:mS P T)(aA:ops.toList.mapM (mG P n kb own ops)=some l)(ey:∀st a w B,K st->dq aQ n A b5 c4 a st w B->al .normal a w):
  ∀(r:List bh) (m:Nat) (st:a3) (a:Act) (w:World) (B:cB),l.drop m=r->dq aQ n A b5 c4 a st w B->vy T K r st->wpOps P ops al (List.range' m (D r)) a w
 | [],_,_,_,_,_,_,R,h=>ey _ _ _ _ h R
 |x::r,m,st,a,w,B,Q,R,h=>by
  have J:l[m]?=some x:=by
   have:(l.drop m)[0]?=some x:=by rw[Q];rfl
   simpa using this
  have c2:l.drop (m+1)=r:=by rw[<-xy,Q];rfl
  have av:m<ops.size:=by
   have E:=(mapM_get aA).1;have G:=(dh.1 J).1;simp at E;omega
  have a0:ops[m]?=some ops[m]:=Array.getElem?_eq_getElem av;obtain⟨y,af,Hd⟩:=LC aA (i:=m) (x:=ops[m]) (by simp);rw[J] at af
  cases af;have vU:=GZ Hd;simp only[jt,List.range'_succ];rw[wpOps_cons];unfold wpOp;simp only[a0];simp only[vy] at h
  split at h
  ·cases h
  ·rename_i g aC;rw[y6 R vU.guard aC]
   cases g with
   |true =>
    simp only[if_true] at h ⊢;exact .inl (Oper.wp_mono (λcl aj ⟨bV,aB,O,dE⟩=>QH cn aA ey r (m+1) bV cl aj aB c2 dE O) (ajl cn R vU h))
   |false =>
    simp only[dm,if_false] at h ⊢;exact QH cn aA ey r (m+1) _ _ _ B c2 (R.put (.refl R.ok.b4) .no vU.lt) (by rw[<-vU.dst];exact h)
end Go.Mini
namespace Go.Mini
open Go
variable {A:Nat->Prop} {w:World} {B:cB} {mem:Mem}
def Yf (a4:dj A w B mem){ax:Nat->Prop}(eE:∀b,ax b->A b){k:Key}{e:gU}{b:Nat}(he:B k=some e)(U:e.cW=some b):¬ ax b :=
 λh=>a4.sep b (eE b h) ⟨k,e,he,U⟩
def snap (a4:dj A w B mem){ax:Nat->Prop}(eE:∀b,ax b->A b):∀(d:Nat) (m:I) (v:Value) (r:Data),cC d mem m=some r->aN w (bb A B) B m v->Den w ax r v:=by
 have Yg:∀(d:Data) (v:Value),aN w (bb A B) B (.M d) v->Den w ax d v:=λd v h=>by
  cases h with
  |M h=>exact h.less λb U => .inr (eE b U)
 have LG:∀v,aN w (bb A B) B .nil v->Den w ax (.ay []) v:=λv h=>by
  cases h;exact .j6
 intro d
 induction d with
 |zero =>
  intro m v r h ai
  cases m<;>simp only[cC,bF,reduceCtorEq] at h
  ·subst h;exact Yg _ _ ai
  ·subst h;exact LG _ ai
 |succ d aD =>
  intro m v r h ai
  have lists:∀(cs:List I) (vs:List Value) (ds:List Data),cs.mapM (cC d mem)=some ds->(D vs)=(D cs)->(∀(i:Nat) (x:I) (u:Value),cs[i]?=some x->vs[i]?=some u->aN w (bb A B) B x u) ->
    (D vs)=D ds/\∀(i:Nat) (x:Data) (u:Value),ds[i]?=some x->vs[i]?=some u->Den w ax x u:=by
   intro cs vs ds e3 ad Q;obtain⟨E,G⟩:=mapM_get e3;refine⟨by omega,λi x u J hu=>?_⟩
   have av:i<D cs:=by have:=(dh.1 J).1;omega
   have ew:=bw av;exact aD _ u x (G i _ x ew J) (Q i _ u ew hu)
  cases m<;>simp only[cC,bF,cJ,reduceCtorEq] at h
  case M=>subst h;exact Yg _ _ ai
  case nil=>subst h;exact LG _ ai
  case ref k g sz off len =>
   split at h
   ·rename_i cd cs O
    split at h
    ·rename_i aC;subst aC
     split at h
     ·rename_i part QE;simp only[cJ] at h;obtain⟨ds,e3,rfl⟩:=h;obtain⟨dN,rfl,j9⟩:=C9 QE;obtain⟨E,G⟩:=mapM_get e3
      cases ai with
      |ref he hgle Q =>
       obtain⟨e,dW,bM,aE,U⟩:=a4.at_ O;rw[dW] at he
       cases he;obtain⟨a,cap,rfl,ab,aM,bl⟩:=Q;rcases bl with bl|⟨b,rfl,bz⟩
       ·have:len=0:=by omega
        subst this;simp only[chunk];exact .j6
       ·obtain⟨bP,ct,gL⟩:=bz bM.symm;obtain⟨vs,T,a1,aP,hle,b0⟩:=U b bP gL;refine Yc a1 (Yf a4 eE dW bP) (by omega) ab (by omega) (by omega) λi x u J hu=>?_;have av:i<D ds:=(dh.1 J).1;have kN:off+i<D cs:=by omega
        have ew:((cs.drop off).take (len*sz))[i]?=some cs[off+i]:=by
         rw[xA (by omega),sL,bw kN]
        refine aD _ u x (G i _ x ew J) (b0.2 (off+i) _ u (bw kN) ?_);rw[xA kN,Array.getElem?_toList];exact hu
     ·cases h
    ·cases h
   ·cases h
  case ptr k g off =>
   split at h
   ·rename_i cd cs O
    split at h
    ·rename_i aC;obtain⟨rfl,P9⟩:=aC;simp only[cJ] at h;obtain⟨ds,e3,rfl⟩:=h;obtain⟨E,G⟩:=mapM_get e3
     cases ai with
     |ptr he hgle Q =>
      obtain⟨e,dW,bM,aE,U⟩:=a4.at_ O;rw[dW] at he
      cases he;obtain⟨b,rfl,bz⟩:=Q;obtain⟨bP,gL⟩:=bz bM.symm;obtain⟨vs,T,a1,aP,hle,b0⟩:=U b bP gL;rw[List.length_drop] at E;refine .ptr (λi=>vs.getD (off+i) undef) (Array.getElem?_eq_some_iff.1 a1).1 (Yf a4 eE dW bP) (λi L=>?_) λi x J=>?_
      ·rw[cell_of_row w b (off+i) vs T (0,0) a1];have:off+i<vs.size:=by omega
       simp[this]
      ·have av:i<D ds:=(dh.1 J).1;have kN:off+i<D cs:=by omega
       have Hf:off+i<vs.size:=by omega
       have ew:(cs.drop off)[i]?=some cs[off+i]:=by
        rw[sL,bw kN]
       have hu:vs.getD (off+i) undef=vs[off+i]:=by simp[Hf]
       rw[hu];refine aD _ _ x (G i _ x ew J) (b0.2 (off+i) _ _ (bw kN) ?_);rw[xA kN,Array.getElem?_toList];exact Array.getElem?_eq_getElem Hf
    ·cases h
   ·cases h
  case dB f cs =>
   obtain⟨ds,e3,rfl⟩:=h
   cases ai with
   |dB ad ae=>obtain⟨E,G⟩:=lists _ _ _ e3 ad ae;exact .fn E G
  case agg cs =>
   obtain⟨ds,e3,rfl⟩:=h
   cases ai with
   |agg ad ae=>obtain⟨E,G⟩:=lists _ _ _ e3 ad ae;exact .agg E G
  case dc cs =>
   obtain⟨ds,e3,rfl⟩:=h
   cases ai with
   |dc ad ae=>obtain⟨E,G⟩:=lists _ _ _ e3 ad ae;exact .dc E G
def aN.shift {ax gI:Nat->Prop}{aB:cB}(eE:∀b,gI b->ax b)(O:∀k e,B k=some e->∃e',aB k=some e'/\(e'=e\/e.g<e'.g)){m:I}{v:Value}(h:aN w ax B m v):aN w gI aB m v:=by
 induction h with
 |M h=>exact .M (h.less eE)
 |nil=>exact .nil
 | @ref k g sz off len e v he aC ai =>
  obtain⟨e',dW,a1⟩:=O k e he;rcases a1 with rfl|a1
  ·exact .ref dW aC ai
  ·exact .ref dW (by omega) (ai.later (by omega))
 | @ptr k g off e v he aC ai =>
  obtain⟨e',dW,a1⟩:=O k e he;rcases a1 with rfl|a1
  ·exact .ptr dW aC ai
  ·exact .ptr dW (by omega) (ai.later (by omega))
 |dB ad ae aD=>exact .dB ad aD
 |agg ad ae aD=>exact .agg ad aD
 |dc ad ae aD=>exact .dc ad aD
 | @g1 k g e v he aC ai =>
  obtain⟨e',dW,a1⟩:=O k e he;rcases a1 with rfl|a1
  ·exact .g1 dW aC ai
  ·obtain⟨b,U,_⟩:=ai;exact .g1 dW (by omega) ⟨b,U,λh=>by omega⟩
 |no=>exact .no
 |undef=>exact .undef
def kill_shut (a4:dj A w B mem){k:Key}{g:Nat}{cs:List I}{e:gU}{b:Nat}(O:mem k=some (g,cs))(he:B k=some e)(U:e.cW=some b):
  dj (λdt=>A dt\/dt=b) w (eu B k ⟨bp mem k,none,0,false⟩) (kill mem k)/\(∀m v,aN w (bb A B) B m v->aN w (bb (λdt=>A dt\/dt=b) (eu B k ⟨bp mem k,none,0,false⟩)) (eu B k ⟨bp mem k,none,0,false⟩) m v):=by
 have aC:=yX a4 k e he
 have eE:∀dt,bb (λdt=>A dt\/dt=b) (eu B k ⟨bp mem k,none,0,false⟩) dt->bb A B dt:=λdt h=>by
  rcases h with ⟨j,az,aa,J⟩|h|rfl
  ·by_cases bL:j=k
   ·subst bL;rw[eX] at aa;cases aa;cases J
   ·rw[eR B _ bL] at aa;exact .inl ⟨j,az,aa,J⟩
  ·exact .inr h
  ·exact .inl ⟨k,e,he,U⟩
 have ajY:∀j az,B j=some az->∃e',eu B k ⟨bp mem k,none,0,false⟩ j=some e'/\(e'=az\/az.g<e'.g):=λj az aa=>by
  by_cases bL:j=k
  ·subst bL;rw[he] at aa
   cases aa;exact⟨_,eX _ _ _,.inr aC⟩
  ·exact⟨az,by rw[eR B _ bL];exact aa,.inl rfl⟩
 have shift:∀m v,aN w (bb A B) B m v->aN w (bb (λdt=>A dt\/dt=b) (eu B k ⟨bp mem k,none,0,false⟩)) (eu B k ⟨bp mem k,none,0,false⟩) m v:=λm v h=>h.shift eE ajY;refine⟨⟨λj aa=>?_,λj h1 aK az dt E G ab aM=>?_,λdt a2 a0=>?_,λdt a2=>?_,a4.gl,λdt o g3 ⟨j,az,aa,J⟩=>?_,λj cd gx aa=>?_⟩,shift⟩
 ·by_cases bL:j=k
  ·subst bL;simp[kill,aR] at aa
  ·rw[eR B _ bL];simp only[kill,aR,bL,if_false] at aa;exact a4.q9 j aa
 ·by_cases bL:j=k
  ·subst bL;rw[eX] at E;cases E;cases ab
  ·by_cases hjk':h1=k
   ·subst hjk';rw[eX] at G;cases G;cases aM
   ·rw[eR B _ bL] at E;rw[eR B _ hjk'] at G;exact a4.inj j h1 aK az dt E G ab aM
 ·obtain⟨j,az,aa,J⟩:=a0
  by_cases bL:j=k
  ·subst bL;rw[eX] at aa;cases aa;cases J
  ·rw[eR B _ bL] at aa;rcases a2 with a2|rfl
   ·exact a4.sep dt a2 ⟨j,az,aa,J⟩
   ·exact bL (a4.inj j k az e dt aa he J U)
 ·rcases a2 with a2|rfl
  ·exact a4.lt dt a2
  ·exact a4.ra ⟨k,e,he,U⟩
 ·by_cases bL:j=k
  ·subst bL;rw[eX] at aa;cases aa;cases J
  ·rw[eR B _ bL] at aa;exact a4.vu dt o g3 ⟨j,az,aa,J⟩
 ·by_cases bL:j=k
  ·subst bL;simp only[kill,aR,if_true,bF,ec] at aa;obtain⟨rfl,rfl⟩:=aa;exact⟨_,eX _ _ _,rfl,λ_=>rfl,λdt g3=>by cases g3⟩
  ·simp only[kill,aR,bL,if_false] at aa;obtain⟨az,E,G,ab,aM⟩:=a4.cW j cd gx aa;refine⟨az,by rw[eR B _ bL];exact E,G,ab,λdt g3=>?_⟩
   exact (aM dt g3).imp rfl rfl λm _ v Q=>shift m v Q
end Go.Mini
