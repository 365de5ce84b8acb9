/- A part of the proof. -/
import Derived.Calls
import Derived.Still
import Derived.Below
import Derived.Laws.World
import Derived.Laws.Sem
import Derived.Laws.Entries
import Derived.Laws.Rows
import GoSem.ClaimData
import Derived.Laws.CopyRow
import Derived.Laws.MakeOwn
import Derived.Laws.Append
import Derived.Laws.AppendOwn
import Derived.Laws.Strings
import Derived.Laws.Strings2
import Derived.Laws.StructEq
import Derived.Laws.Slices
import Derived.Laws.Cells
import Derived.Attr
import Derived.LoopN
set_option linter.unusedSimpArgs false
set_option linter.unusedVariables false
set_option linter.defProp false
set_option maxRecDepth 100000
set_option maxHeartbeats 4000000
noncomputable section
open Bool renaming and_eq_true->fC,false_eq_true->k1,false_or->uu,not_true->b3,or_eq_true->s9,true_or->ur
open Classical renaming choose->z3,choose_spec->qo
open List renaming all_cons->vx,all_eq_true->nt,contains_iff_mem->agc,drop_drop->I8,drop_eq_getElem_cons->je,drop_eq_nil_of_le->lM,drop_set_of_lt->vC,drop_succ_cons->yn,drop_take->afd,eq_nil_of_length_eq_zero->vu,ext_getElem?->pE,flatten_cons->l8,foldl_cons->aff,getD_eq_getElem?_getD->eD,getElem?_append->IV,getElem?_append_left->qi,getElem?_append_right->ov,getElem?_cons_succ->MN,getElem?_cons_zero->F9,getElem?_drop->q6,getElem?_eq_getElem->bh,getElem?_eq_none->jZ,getElem?_eq_some_iff->dV,getElem?_map->bm,getElem?_range->vo,getElem?_set_ne->X0,getElem?_set_self->XZ,getElem?_take->Bw,getElem?_take_of_lt->tc,getElem?_toArray->afu,getElem_mem->mh,getElem_of_mem->afk,length->D,length_append->gC,length_cons->lJ,length_eq_one_iff->agq,length_map->al,length_set->ie,length_take->gP,mapM_cons->ns,map_congr_left->ox,map_cons->eE,map_map->pJ,mem_append->jH,mem_attach->agv,mem_cons_self->g1,mem_flatMap->zY,mem_flatten->afw,mem_of_getElem?->dy,mem_of_mem_take->yo,mem_zipIdx_iff_getElem?->af8,nil_append->jE,range->eM,replicate->ef,replicate_succ->um,take_append->afb,take_of_length_le->dD,take_succ_cons->Dx,take_zero->nw
open Nat renaming add_assoc->vn,add_comm->Dm,add_mul->rW,add_zero->lO,eq_or_lt_of_le->RG,eq_zero_or_pos->kO,le_mul_of_pos_right->MK,le_refl->cl,le_trans->eR,lt_asymm->agb,lt_of_lt_of_le->FG,lt_or_ge->hO,min_eq_left->pF,mul_le_mul_right->ui,one_mul->L8,strongRecOn->MW,sub_self->j0,succ_mul->vp,testBit_or->af4,zero_add->q4,zero_le->fL
open Option renaming bind_eq_bind->h9,bind_eq_some_iff->eS,bind_some->qk,getD_some->BJ,isSome_iff_exists->afx,map_eq_some_iff->eL,map_none->XR,map_some->ks,pure_def->hX
open Option.some renaming inj->nu,injEq->cF
open Prod.mk renaming injEq->fq
namespace Go.Mini
def bE {α:Sort _}{a:α}:a=a:=_root_.id rfl
def Y {c:Prop}{h:Decidable c}(J:c){α:Sort _}{t e:α}:ite c t e=t:=if_pos J
def aa {c:Prop}{h:Decidable c}(J:¬c){α:Sort _}{t e:α}:ite c t e=e:=if_neg J
def hN {p:Prop}[inst:Decidable p](h:p):decide p=true:=decide_eq_true h
def kM {p:Prop}[i:Decidable p](h:¬p):decide p=false:=decide_eq_false h
def cX {p:Prop}[inst:Decidable p](h:p:=by omega):decide p=true:=decide_eq_true h
def b7 {p:Prop}[i:Decidable p](h:¬p:=by omega):decide p=false:=decide_eq_false h
open Go
abbrev Key:=Nat
inductive Data where
 |int (k:IntKind) (n:Int)
 |bool (b:Bool)
 |str (s:List UInt8)
 |ax (es:List (List Data))
 |ptr (cs:List Data)
 |wP
 |fn (f:FuncId) (fh:List Data)
 |wQ
 |agg (cs:List Data)
 |dj (vs:List Data)
 deriving Inhabited
inductive M where
 |H (d:Data)
 |nil
 |ref (k:Key) (g sz off len:Nat)
 |ptr (k:Key) (g off:Nat)
 |gH (f:FuncId) (fh:List M)
 |agg (cs:List M)
 |dj (vs:List M)
 |no
 |undef
 deriving Inhabited
inductive Den (w:World) (a4:Nat->Prop):Data->Value->Prop
 |int {k:IntKind} {n:Int}:Den w a4 (.int k n) (.int k n)
 |bool {b:Bool}:Den w a4 (.bool b) (.bool b)
 |str {s:List UInt8}:Den w a4 (.str s) (.string ⟨s.toArray⟩)
 |mV {a:Option Addr} {c:Nat}:Den w a4 (.ax []) (.slice a 0 c)
 |ax {es:List (List Data)} {b off c sz:Nat} (val:Nat->Value) (aq:(D es)<=c) (hm:(D es)<=maxLen) (ad:b<w.heap.size) (fZ:¬ a4 b) (fw:∀e∈es,D e=sz)
   (J:∀i,i<D es*sz->w.cell? ⟨b,off+i,none⟩=some (val i)) (Z:∀i d,es.flatten[i]?=some d->Den w a4 d (val i)) :
   Den w a4 (.ax es) (.slice (some ⟨b,off,none⟩) (D es) c)
 |ptr {cs:List Data} {b off:Nat} (val:Nat->Value) (ad:b<w.heap.size) (fZ:¬ a4 b)
   (J:∀i,i<(D cs)->w.cell? ⟨b,off+i,none⟩=some (val i)) (Z:∀i d,cs[i]?=some d->Den w a4 d (val i)) :
   Den w a4 (.ptr cs) (.pointer (some ⟨b,off,none⟩))
 |wP:Den w a4 .wP (.pointer none)
 |fn {f:FuncId} {fh:List Data} {vs:List Value} (aq:(D vs)=D fh) (Z:∀(i:Nat) (d:Data) (v:Value),fh[i]?=some d->vs[i]?=some v->Den w a4 d v) :
   Den w a4 (.fn f fh) (.func (.func f) #[] vs.toArray)
 |wQ:Den w a4 .wQ .nilFunc
 |agg {cs:List Data} {vs:List Value} (aq:(D vs)=D cs) (Z:∀(i:Nat) (d:Data) (v:Value),cs[i]?=some d->vs[i]?=some v->Den w a4 d v) :
   Den w a4 (.agg cs) (.agg vs.toArray)
 |dj {cs:List Data} {vs:List Value} (aq:(D vs)=D cs) (Z:∀(i:Nat) (d:Data) (v:Value),cs[i]?=some d->vs[i]?=some v->Den w a4 d v) :
   Den w a4 (.dj cs) (.tuple vs.toArray)
def Rs {es:List (List Data)}{sz:Nat}(h:∀e∈es,D e=sz):(D es.flatten)=D es*sz:=by
 induction es with
 |nil=>simp
 |cons e r aG =>
  have F:=h e (by simp);have G:=aG (λx L=>h x (by simp[L]));rw[l8,gC,F,G,lJ,rW,L8,Dm]
def Den.sV {w aX:World}{a4 nk:Nat->Prop}(R:w.heap.size<=aX.heap.size)(h:∀b,b<w.heap.size->¬ a4 b->aX.heap[b]?=w.heap[b]?/\¬ nk b){d:Data}{v:Value}(Z:Den w a4 d v):Den aX nk d v:=by
 induction Z with
 |int=>exact .int
 |bool=>exact .bool
 |str=>exact .str
 |mV=>exact .mV
 | @ax es b off c sz val aq hm ad fZ fw J Z aG =>
  obtain⟨F,G⟩:=h b ad fZ;exact .ax val aq hm (by omega) G fw (λi O=>(World.cell?_of_block (a:=⟨b,off+i,none⟩) F).trans (J i O)) aG
 |wP=>exact .wP
 |wQ=>exact .wQ
 | @ptr cs b off val ad fZ J Z aG =>
  obtain⟨F,G⟩:=h b ad fZ;exact .ptr val (by omega) G (λi O=>(World.cell?_of_block (a:=⟨b,off+i,none⟩) F).trans (J i O)) aG
 |fn aq Z aG=>exact .fn aq aG
 |agg aq Z aG=>exact .agg aq aG
 |dj aq Z aG=>exact .dj aq aG
structure nm where
 g:Nat
 dU:Option Nat
 size:Nat
abbrev fu:=Key->Option nm
def tZ (B:fu)(b:Nat):Prop:=∃k e,B k=some e/\e.dU=some b
def Iz (e:nm)(g sz off len:Nat)(v:Value):Prop :=
 ∃a cap,v=.slice a len cap/\len<=cap/\cap<=maxLen/\(cap=0\/∃b,a=some ⟨b,off,none⟩/\(g=e.g->e.dU=some b/\off+cap*sz<=e.size))
def Rt (e:nm)(g off:Nat)(v:Value):Prop:=∃b,v=.pointer (some ⟨b,off,none⟩)/\(g=e.g->e.dU=some b)
def Iz.L9 {e e':nm}{g sz off len:Nat}{v:Value}(h:Iz e g sz off len v)(aq:g<e'.g):Iz e' g sz off len v:=by
 obtain⟨a,cap,F,G,ab,aV⟩:=h;refine⟨a,cap,F,G,ab,aV.imp id ?_⟩;rintro⟨b,bu,_⟩;exact⟨b,bu,λh=>by omega⟩
def Rt.L9 {e e':nm}{g off:Nat}{v:Value}(h:Rt e g off v)(aq:g<e'.g):Rt e' g off v:=by
 obtain⟨b,F,_⟩:=h;exact⟨b,F,λh=>by omega⟩
inductive bB (w:World) (a4:Nat->Prop) (B:fu):M->Value->Prop
 |H {d:Data} {v:Value} (h:Den w a4 d v):bB w a4 B (.H d) v
 |nil {a:Option Addr}:bB w a4 B .nil (.slice a 0 0)
 |ref {k:Key} {g sz off len:Nat} {e:nm} {v:Value} (he:B k=some e) (bb:g<=e.g) (aN:Iz e g sz off len v):bB w a4 B (.ref k g sz off len) v
 |ptr {k:Key} {g off:Nat} {e:nm} {v:Value} (he:B k=some e) (bb:g<=e.g) (aN:Rt e g off v):bB w a4 B (.ptr k g off) v
 |gH {f:FuncId} {fh:List M} {vs:List Value} (aq:(D vs)=D fh) (Z:∀(i:Nat) (d:M) (v:Value),fh[i]?=some d->vs[i]?=some v->bB w a4 B d v) :
   bB w a4 B (.gH f fh) (.func (.func f) #[] vs.toArray)
 |agg {cs:List M} {vs:List Value} (aq:(D vs)=D cs) (Z:∀(i:Nat) (d:M) (v:Value),cs[i]?=some d->vs[i]?=some v->bB w a4 B d v) :
   bB w a4 B (.agg cs) (.agg vs.toArray)
 |dj {cs:List M} {vs:List Value} (aq:(D vs)=D cs) (Z:∀(i:Nat) (d:M) (v:Value),cs[i]?=some d->vs[i]?=some v->bB w a4 B d v) :
   bB w a4 B (.dj cs) (.tuple vs.toArray)
 |no:bB w a4 B .no undef
 |undef {v:Value}:bB w a4 B .undef v
def ct (A:Nat->Prop)(B:fu)(b:Nat):Prop:=tZ B b\/A b
structure Trans (A:Nat->Prop) (w:World) (B:fu) (aX:World) (bD:fu):Prop where
 size:w.heap.size<=aX.heap.size
 Ma:∀b,b<w.heap.size->¬ ct A B b->aX.heap[b]?=w.heap[b]?/\¬ tZ bD b
 key:∀k e,B k=some e->∃e',bD k=some e'/\(e'=e\/e.g<e'.g)
def Trans.refl (A:Nat->Prop)(w:World)(B:fu):Trans A w B w B :=
 ⟨cl _,λ_ _ h=>⟨rfl,λbw=>h (.inl bw)⟩,λ_ e he=>⟨e,he,.inl rfl⟩⟩
def Trans.trans {A:Nat->Prop}{w w1 qc:World}{B Dn FF:fu}(h:Trans A w B w1 Dn)(cn:Trans A w1 Dn qc FF):Trans A w B qc FF:=by
 refine⟨eR h.size cn.size,λb ad bw=>?_,λk e he=>?_⟩
 ·obtain⟨F,G⟩:=h.Ma b ad bw;obtain⟨ab,aV⟩:=cn.Ma b (FG ad h.size) (λL=>L.elim G λaZ=>bw (.inr aZ));exact⟨ab.trans F,aV⟩
 ·obtain⟨au,asO,a1⟩:=h.key k e he;obtain⟨aC,fP,qd⟩:=cn.key k au asO;refine⟨aC,fP,?_⟩;rcases a1 with rfl|a1<;>rcases qd with rfl|qd
  ·exact .inl rfl
  ·exact .inr qd
  ·exact .inr a1
  ·exact .inr (Nat.lt_trans a1 qd)
def Den.trans {A:Nat->Prop}{w aX:World}{B bD:fu}(t:Trans A w B aX bD){d:Data}{v:Value}(h:Den w (ct A B) d v):Den aX (ct A bD) d v :=
 h.sV t.size λb ad bw=>⟨(t.Ma b ad bw).1,λL=>L.elim (t.Ma b ad bw).2 λaZ=>bw (.inr aZ)⟩
def bB.sV {A:Nat->Prop}{w aX:World}{B bD:fu}(t:Trans A w B aX bD){m:M}{v:Value}(h:bB w (ct A B) B m v):bB aX (ct A bD) bD m v:=by
 induction h with
 |H h=>exact .H (h.trans t)
 |nil=>exact .nil
 | @ref k g sz off len e v he bb aN =>
  obtain⟨e',g4,a1⟩:=t.key k e he;rcases a1 with rfl|a1
  ·exact .ref g4 bb aN
  ·exact .ref g4 (by omega) (aN.L9 (by omega))
 | @ptr k g off e v he bb aN =>
  obtain⟨e',g4,a1⟩:=t.key k e he;rcases a1 with rfl|a1
  ·exact .ptr g4 bb aN
  ·exact .ptr g4 (by omega) (aN.L9 (by omega))
 |gH aq Z aG=>exact .gH aq aG
 |agg aq Z aG=>exact .agg aq aG
 |dj aq Z aG=>exact .dj aq aG
 |no=>exact .no
 |undef=>exact .undef
abbrev Mem:=Key->Option (Nat×List M)
def emp:Mem:=λ_=>none
def a5 (m:Mem)(k:Key)(g:Nat)(cs:List M):Mem:=λj=>if j=k then some (g,cs) else m j
def ca (m:Mem)(k:Key):Nat:=match m k with
 |none=>0
 |some (g,_)=>g+1
structure fQ (A:Nat->Prop) (w:World) (B:fu) (mem:Mem):Prop where
 Dp:∀k,mem k=none->B k=none
 inj:∀k k' e e' b,B k=some e->B k'=some e'->e.dU=some b->e'.dU=some b->k=k'
 sep:∀b,A b->¬ tZ B b
 lt:∀b,A b->b<w.heap.size
 dU:∀k g cs,mem k=some (g,cs)->∃e,B k=some e/\e.g=g/\(e.dU=none->cs=[]) /\
  ∀b,e.dU=some b->∃vs T,w.heap[b]?=some (.cells vs T (0,0))/\vs.size=e.size/\D cs<=vs.size /\
   ∀(i:Nat) (m:M),cs[i]?=some m->∃v,vs[i]?=some v/\bB w (ct A B) B m v
def fQ.zH {A:Nat->Prop}{w:World}{B:fu}{mem:Mem}(h:fQ A w B mem){b:Nat}(ad:tZ B b):b<w.heap.size:=by
 obtain⟨k,e,he,ad⟩:=ad
 cases hm:mem k with
 |none=>rw[h.Dp k hm] at he;cases he
 |some x =>
  obtain⟨g,cs⟩:=x;obtain⟨e',g4,_,_,a1⟩:=h.dU k g cs hm;rw[g4] at he
  cases he;obtain⟨vs,T,aN,_⟩:=a1 b ad;exact (Array.getElem?_eq_some_iff.1 aN).1
structure Fr (wR:Nat->Prop) (eB w:World):Prop where
 os:w.os=eB.os
 tape:w.tape=eB.tape
 output:w.output=eB.output
 size:eB.heap.size<=w.heap.size
 block:∀g,g<eB.heap.size->¬ wR g->w.heap[g]?=eB.heap[g]?
def Fr.refl (wR:Nat->Prop)(w:World):Fr wR w w:=⟨rfl,rfl,rfl,cl _,λ_ _ _=>rfl⟩
def Fr.drew {wR:Nat->Prop}{eB w:World}(h:Fr wR eB w)(n:Nat):Fr wR eB { w with drawn:=n }:=⟨h.os,h.tape,h.output,h.size,h.block⟩
def Fr.alloc {wR:Nat->Prop}{eB w:World}(h:Fr wR eB w)(o:Obj):Fr wR eB (w.alloc o) :=
 ⟨h.os,h.tape,h.output,by simp;have:=h.size;omega,λg bb fZ=>(RowKit.Below.heap_alloc w o g (by have:=h.size;omega)).trans (h.block g bb fZ)⟩
def Fr.below {eB w:World}(h:Fr (λ_=>False) eB w):RowKit.Below eB.heap.size eB w:=⟨h.os,h.tape,h.output,h.size,λg bb=>h.block g bb id⟩
inductive bZ where
 |t (s:Nat)
 |c (m:M)
 deriving Inhabited
inductive kN where
 |ko (x:bZ)
 |pick (c a b:bZ)
 |alloc (k:Key) (z:List M)
 |box (k:Key) (x:bZ)
 |build (z:List M) (parts:List (Nat×Nat×bZ))
 |eW (k:Key) (own:Bool) (z:List M) (sz len:Nat) (parts:List (Nat×Nat×bZ))
 |load (n:Nat) (eG:Bool) (x:bZ)
 |store (n:Nat) (x v:bZ)
 |bin (op:BinOp) (x y:bZ)
 |beq (neg:Bool) (x y:bZ)
 |eqs (neg:Bool) (hz:List Nat) (x y:bZ)
 |rX (neg:Bool) (x:bZ)
 |un (op:UnOp) (x:bZ)
 |conv (k:IntKind) (x:bZ)
 |oq (x:bZ)
 |mC (k:Key) (z:List M) (bytes:Nat) (len cap:bZ)
 |zI (off:Nat) (x:bZ)
 |Dq (off n:Nat) (eG:Bool) (x:bZ)
 |q2 (sz:Nat) (x i:bZ)
 |qe (len sz:Nat) (x i:bZ)
 |idxs (x i:bZ)
 |ua (sz:Nat) (x:bZ) (b6 O ln:Option bZ)
 |vi (len sz:Nat) (x:bZ) (b6 O ln:Option bZ)
 |FH (x:bZ) (b6 O:Option bZ)
 |ext (i:Nat) (x:bZ)
 |len (x:bZ)
 |lens (x:bZ)
 |app (k:Key) (z:List M) (bytes:Nat) (s x:bZ)
 |ub (sz:Nat) (d x:bZ)
 |jX (ln:Bool) (x y:bZ)
 |call (f:FuncId) (args:List bZ)
 |nT (k:Key) (sz:Nat) (f:FuncId) (args:List bZ)
 |nn (f:bZ) (args:List bZ)
 |np (b6:Nat) (f:FuncId) (args:List bZ)
 |vj (j:Nat) (f:FuncId) (args:List bZ)
 |vk (j:Nat) (f:FuncId) (args:List bZ)
 |wS (z:List M) (x:bZ)
 |wT (f:FuncId) (fh:List bZ)
 |bad
 deriving Inhabited
structure cN where
 dst:Option Nat
 g:Option (Nat×Bool)
 op:kN
 deriving Inhabited
inductive Ru where
 |nq (s:Nat) (k:Key) (sz:Nat)
 |Dr (x:bZ) (i:Nat) (k:Key) (sz:Nat)
 |freeze (s:Nat)
 |FI (x:bZ) (i:Nat)
 |move
 |many
 deriving Inhabited
inductive er where
 |skip
 |ops (l:List cN)
 |l9 (l:List cN) (c:List (List Nat))
 |seq (a b:er)
 |cond (c:bZ) (a b:er)
 |block (id:Nat) (c:er)
 |loop (c:er)
 |exit (id:Nat)
 |ret
 |ghost (g:Ru) (c:er)
 deriving Inhabited
inductive py where
 |t (s:Nat)
 |cell (s n:Nat) (eG:Bool)
 deriving Inhabited
structure bJ where
 n:Nat
 asP:Nat
 res:List py
 body:er
 deriving Inhabited
structure bc where
 tm:Nat->M
 mem:Mem
def dK (tm:Nat->M)(s:Nat)(m:M):Nat->M:=λt=>if t=s then m else tm t
def put (tm:Nat->M):Option Nat->M->Nat->M
 |some s,m=>dK tm s m
 |none,_=>tm
@[simp] def dC (tm:Nat->M)(s:Nat)(m:M)(t:Nat):dK tm s m t=if t=s then m else tm t:=rfl
def bd (tm:Nat->M):bZ->M
 |.t s=>tm s
 |.c m=>m
def M.cells:M->List M
 |.agg cs=>cs
 |.H (.agg ds)=>ds.map .H
 |m=>[m]
def M.known:M->Bool
 |.undef=>false
 |_=>true
def M.one:M->Bool
 |.H (.agg _)=>false
 |.H (.dj _)=>false
 |.H _=>true
 |.nil=>true
 |.ref ..=>true
 |.ptr ..=>true
 |.gH ..=>true
 |_=>false
def sW (eG:Bool)(cs:List M):Option M :=
 if eG=true then some (.agg cs) else match cs with
  | [m]=>some m
  |_=>none
def cut (cs:List M)(off n:Nat):Option (List M) :=
 if off+n<=(D cs) then some ((cs.drop off).take n) else none
def lo (cs:List M)(off:Nat)(new:List M):List M:=cs.take off++new++cs.drop (off+D new)
def lK (bd:bZ->M)(cells:List M):List (Nat×Nat×bZ)->Option (List M)
 | []=>some cells
 |(off,size,x)::rest =>
  if (bd x).known=true/\(bd x).cells.length=size/\off+size<=(D cells) then lK bd (lo cells off (bd x).cells) rest else none
def wU:M->Option Data
 |.H d=>some d
 |.nil=>some (.ax [])
 |_=>none
def chunk (sz:Nat):Nat->List Data->List (List Data)
 |0,_=>[]
 |n+1,l=>l.take sz::chunk sz n (l.drop sz)
def Rv (op:BinOp)(k:IntKind)(a b:Int):Option Data :=
 match op with
 |.add=>some (.int k (k.wrap (a+b)))
 |.sub=>some (.int k (k.wrap (a-b)))
 |.mul=>some (.int k (k.wrap (a*b)))
 |.quo=>if b=0 then none else some (.int k (k.wrap (a.tdiv b)))
 |.rem=>if b=0 then none else some (.int k (a.tmod b))
 |.and=>some (.int k (bits .and k a b))
 |.or=>some (.int k (bits .or k a b))
 |.xor=>some (.int k (bits .xor k a b))
 |.andNot=>some (.int k (bits .andNot k a b))
 |.eql=>some (.bool (a==b))
 |.neq=>some (.bool (a != b))
 |.lss=>some (.bool (a<b))
 |.leq=>some (.bool (a<=b))
 |.gtr=>some (.bool (a>b))
 |.geq=>some (.bool (a>=b))
 |_=>none
def Rw (op:BinOp)(k:IntKind)(a b:Int):Option Data :=
 if b<0 then none else match op with
 |.shl=>some (.int k (k.wrap (a*2^(min b.toNat k.bits))))
 |.shr=>some (.int k (a.fdiv (2^(min b.toNat k.bits))))
 |_=>none
def Rx (op:BinOp)(a b:List UInt8):Option Data :=
 match op with
 |.add=>if (D a)+D b<=maxLen then some (.str (a++b)) else none
 |.eql=>some (.bool (a==b))
 |.neq=>some (.bool (!(a==b)))
 |.lss=>some (.bool (Op.bytesLess a b))
 |.leq=>some (.bool (Op.bytesLess a b||a==b))
 |.gtr=>some (.bool (!(Op.bytesLess a b||a==b)))
 |.geq=>some (.bool (!Op.bytesLess a b))
 |_=>none
def IA:BinOp->Bool
 |.shl=>true
 |.shr=>true
 |_=>false
def Mb (op:BinOp)(x y:M):Option M :=
 match x,y with
 |.H (.int k a),.H (.int k' b)=>if IA op=true then (Rw op k a b).map .H else if k=k' then (Rv op k a b).map .H else none
 |.H (.str a),.H (.str b)=>(Rx op a b).map .H
 |_,_=>none
def Mc (neg:Bool):M->M->Option M
 |.H (.bool a),.H (.bool b)=>some (.H (.bool (neg != (a==b))))
 |_,_=>none
def Ry:Nat->M->M->Option Bool
 |0,.H (.bool a),.H (.bool b)=>some (a==b)
 |1,.H (.int k a),.H (.int k' b)=>if k=k' then some (a==b) else none
 |2,.H (.str a),.H (.str b)=>some (a==b)
 |_,_,_=>none
def Ds:List Nat->List M->List M->Option Bool
 | [],[],[]=>some true
 |k::hz,a::x,b::y=>match Ry k a b,Ds hz x y with
  |some c,some d=>some (c&&d)
  |_,_=>none
 |_,_,_=>none
def Md (op:UnOp)(x:M):Option M :=
 match op,x with
 |.neg,.H (.int k n)=>some (.H (.int k (k.wrap (0-n))))
 |.xor,.H (.int k n)=>some (.H (.int k (bits .xor k (if k.signed then -1 else k.max) n)))
 |.not,.H (.bool b)=>some (.H (.bool !b))
 |_,_=>none
def idx:M->Option Nat
 |.H (.int _ n)=>if 0<=n then some n.toNat else none
 |_=>none
def kY (d:Nat):Option M->Option Nat
 |none=>some d
 |some x=>idx x
def qf:M->Option Nat
 |.H (.ax es)=>some (D es)
 |.nil=>some 0
 |.ref _ _ _ _ n=>some n
 |_=>none
def q3 (mem:Mem)(n:Nat)(eG:Bool):M->Option M
 |.ptr k g off=>match mem k with
  |some (dp,cs)=>if dp=g then (cut cs off n).bind (sW eG) else none
  |none=>none
 |.H (.ptr ds)=>(cut (ds.map .H) 0 n).bind (sW eG)
 |_=>none
def Bn:M->Option Nat
 |.H (.str s)=>some (D s)
 |_=>none
def IB:M->M->M->Option M
 |.H (.bool t),a,b=>some (if t=true then a else b)
 |_,_,_=>none
def Me (z:List M)(sz len:Nat)(x:Option (List M)):Option M :=
 if (D z)=len*sz then (match x with
  |some cs=>(cs.mapM wU).map λds => .H (.ax (chunk sz len ds))
  |none=>none) else none
def Mf:M->Option (List M)
 |.agg cs=>some cs
 |.H (.agg ds)=>some (ds.map .H)
 |_=>none
def Mg (neg:Bool)(hz:List Nat)(a b:M):Option M:=match Mf a,Mf b with
 |some x,some y=>(match Ds hz x y with
  |some c=>some (.H (.bool (neg != c)))
  |none=>none)
 |_,_=>none
def Mh (k:IntKind):M->Option M
 |.H (.int _ n)=>some (.H (.int k (k.wrap n)))
 |_=>none
def Mi:M->Option M
 |.ptr k g off=>some (.ptr k g off)
 |.H (.ptr ds)=>some (.H (.ptr ds))
 |_=>none
def Mj (off:Nat):M->Option M
 |.ptr k g o=>some (.ptr k g (o+off))
 |.H (.ptr ds)=>if off<=(D ds) then some (.H (.ptr (ds.drop off))) else none
 |_=>none
def Mk (off n:Nat)(eG:Bool):M->Option M
 |.agg cs=>(cut cs off n).bind (sW eG)
 |.H (.agg ds)=>(cut (ds.map .H) off n).bind (sW eG)
 |_=>none
def yi (sz n:Nat):M->Option M
 |.ref k g eX off len=>if n<len/\eX=sz then some (.ptr k g (off+n*sz)) else none
 |.H (.ax es)=>match es[n]? with
  |some e=>if (D e)=sz then some (.H (.ptr e)) else none
  |none=>none
 |_=>none
def Ml (len sz n:Nat):M->Option M
 |.ptr k g off=>if n<len then some (.ptr k g (off+n*sz)) else none
 |.H (.ptr ds)=>if n<len/\n*sz<=(D ds) then some (.H (.ptr (ds.drop (n*sz)))) else none
 |_=>none
def Mm (n:Nat):M->Option M
 |.H (.str s)=>(s[n]?).map λb => .H (.int .u8 b.toNat)
 |_=>none
def Bo (sz:Nat)(es:List (List Data)):Bool:=es.all λe=>D e==sz
def Mn (sz l h:Nat):M->Option M
 |.H (.ax es)=>if l<=h/\h<=D es/\Bo sz es=true then some (.H (.ax ((es.take h).drop l))) else none
 |.nil=>if l=0/\h=0 then some .nil else none
 |.ref k g eX off len=>if eX=sz/\l<=h/\h<=len then some (.ref k g sz (off+l*sz) (h-l)) else none
 |_=>none
def Mo (sz l h m:Nat):M->Option M
 |.H (.ax es)=>if l<=h/\h<=m/\m<=D es/\Bo sz es=true then (if m=l then some .nil else some (.H (.ax ((es.take h).drop l)))) else none
 |.nil=>if l=0/\h=0/\m=0 then some .nil else none
 |.ref _ _ _ _ len=>if l<=h/\h<=m/\m<=len/\m=l then some .nil else none
 |_=>none
def Mp (l h:Nat):M->Option M
 |.H (.str s)=>if l<=h/\h<=(D s) then some (.H (.str ((s.take h).drop l))) else none
 |_=>none
def Mq (i:Nat):M->Option M
 |.dj vs=>vs[i]?
 |.H (.dj ds)=>(ds[i]?).map .H
 |_=>none
def Mr (ln:Bool):M->M->Option M
 |.H (.int k a),.H (.int k' b)=>if k=k' then some (.H (.int k (if ln=true then (if b>a then b else a) else (if b<a then b else a)))) else none
 |_,_=>none
def jr (x:Option Nat)(f:Nat->Option M):Option M:=match x with
 |some n=>f n
 |none=>none
def ma (tm:Nat->M):kN->Option M
 |.ko x=>some (bd tm x)
 |.pick c a b=>IB (bd tm c) (bd tm a) (bd tm b)
 |.build z parts=>(lK (bd tm) z parts).map .agg
 |.eW _ false z sz len parts=>Me z sz len (lK (bd tm) z parts)
 |.bin op x y=>Mb op (bd tm x) (bd tm y)
 |.beq neg x y=>Mc neg (bd tm x) (bd tm y)
 |.eqs neg hz x y=>Mg neg hz (bd tm x) (bd tm y)
 |.un op x=>Md op (bd tm x)
 |.conv k x=>Mh k (bd tm x)
 |.oq x=>Mi (bd tm x)
 |.zI off x=>Mj off (bd tm x)
 |.Dq off n eG x=>Mk off n eG (bd tm x)
 |.q2 sz x i=>jr (idx (bd tm i)) λn=>yi sz n (bd tm x)
 |.qe len sz x i=>jr (idx (bd tm i)) λn=>Ml len sz n (bd tm x)
 |.idxs x i=>jr (idx (bd tm i)) λn=>Mm n (bd tm x)
 |.ua sz x b6 O none=>jr (kY 0 (b6.map (bd tm))) λl=>jr (qf (bd tm x)) λlen=>jr (kY len (O.map (bd tm))) λh=>Mn sz l h (bd tm x)
 |.ua sz x b6 (some O) (some ln)=>jr (kY 0 (b6.map (bd tm))) λl=>jr (idx (bd tm O)) λh=>jr (idx (bd tm ln)) λm=>Mo sz l h m (bd tm x)
 |.FH x b6 O=>jr (kY 0 (b6.map (bd tm))) λl=>jr (Bn (bd tm x)) λlen=>jr (kY len (O.map (bd tm))) λh=>Mp l h (bd tm x)
 |.ext i x=>Mq i (bd tm x)
 |.len x=>jr (qf (bd tm x)) λn=>some (.H (.int .i64 n))
 |.lens x=>jr (Bn (bd tm x)) λn=>some (.H (.int .i64 n))
 |.jX ln x y=>Mr ln (bd tm x) (bd tm y)
 |.wT f fh=>some (.gH f (fh.map (bd tm)))
 |_=>none
def Xk (k:Key)(g off len sz l h:Nat):Option (Nat×List M)->Option M
 |some (dp,cs)=>if dp=g/\l<=h/\h<=len/\off+len*sz<=(D cs) then some (.ref k g sz (off+l*sz) (h-l)) else none
 |none=>none
def Dt (mem:Mem)(len sz l h:Nat):M->Option M
 |.ptr k g off=>Xk k g off len sz l h (mem k)
 |_=>none
def rY (mem:Mem)(sz:Nat):M->Option (Nat×List M)
 |.H (.ax es)=>if Bo sz es=true then some (D es,es.flatten.map M.H) else none
 |.nil=>some (0,[])
 |.ref k g eX off len=>if eX=sz then (match mem k with
  |some (dp,cs)=>if dp=g then (cut cs off (len*sz)).map λcs=>(len,cs) else none
  |none=>none) else none
 |_=>none
abbrev Out:=Option (M×Option (Key×Nat×List M))
def kp (x:Option M):Out:=match x with
 |some m=>some (m,none)
 |none=>none
def IC (k:Key)(g:Nat)(z:List M)(sz len:Nat)(x:Option (List M)):Out :=
 if (D z)=len*sz then (match x with
  |some cs=>some (.ref k g sz 0 len,some (k,g,cs))
  |none=>none) else none
def ID (k:Key)(g:Nat)(z:List M)(bytes:Nat)(n c:Nat):Out :=
 if n=c/\bytes*n<=140737488355328/\n<=maxLen then some (.ref k g (D z) 0 n,some (k,g,(ef n z).flatten)) else none
def Ms (x y:Option Nat)(f:Nat->Nat->Out):Out:=match x,y with
 |some n,some m=>f n m
 |_,_=>none
def Mt (n:Nat)(k:Key)(g off:Nat)(v:List M)(x:Option (Nat×List M)):Out:=match x with
 |some (dp,cs)=>if dp=g/\D v=n/\off+n<=D cs/\v.all M.one=true then some (.no,some (k,g,lo cs off v)) else none
 |none=>none
def zJ (mem:Mem)(n:Nat):M->List M->Out
 |.ptr k g off,v=>Mt n k g off v (mem k)
 |_,_=>none
def lL (k:Key)(g:Nat)(sz len bytes:Nat)(m:Nat)(new:List M)(x:Option (Nat×List M)):Out:=match x with
 |some (dp,cs)=>if dp=g/\len*sz<=D cs/\(len+m)*bytes<=140737488355328/\len+m<=maxLen/\new.all M.one=true
   then some (.ref k (g+1) sz 0 (len+m),some (k,g+1,cs.take (len*sz)++new)) else none
 |none=>none
def sX (mem:Mem)(k:Key)(z:List M)(bytes:Nat):M->Option (Nat×List M)->Out
 |.nil,some (m,new)=>if m*bytes<=140737488355328/\m<=maxLen/\new.all M.one=true then some (.ref k (ca mem k) (D z) 0 m,some (k,ca mem k,new)) else none
 |.ref k' g eX off len,some (m,new)=>if eX=D z/\off=0 then lL k' g eX len bytes m new (mem k') else none
 |_,_=>none
def Du (k:Key)(g sz off len:Nat)(m:Nat)(new:List M)(x:Option (Nat×List M)):Out:=match x with
 |some (dp,cs)=>if dp=g/\off+len*sz<=D cs/\new.all M.one=true then some (.H (.int .i64 ((min m len:Nat):Int)),some (k,g,lo cs off (new.take (min m len*sz)))) else none
 |none=>none
def yj (mem:Mem)(sz:Nat):M->Option (Nat×List M)->Out
 |.ref k g eX off len,some (m,new)=>if eX=sz then Du k g sz off len m new (mem k) else none
 |_,_=>none
def Rz (z:List M)(k:Key)(g off len:Nat)(x:Option (Nat×List M)):Out:=match x with
 |some (dp,cs)=>if dp=g/\off+len*D z<=D cs/\z.all M.one=true then some (.dj [],some (k,g,lo cs off (ef len z).flatten)) else none
 |none=>none
def zK (mem:Mem)(z:List M):M->Out
 |.ref k g sz off len=>if sz=(D z) then Rz z k g off len (mem k) else none
 |_=>none
def cB (mem:Mem)(tm:Nat->M):kN->Out
 |.alloc k z=>some (.ptr k (ca mem k) 0,some (k,ca mem k,z))
 |.box k x=>if (bd tm x).known=true then some (.ptr k (ca mem k) 0,some (k,ca mem k,(bd tm x).cells)) else none
 |.eW k true z sz len parts=>IC k (ca mem k) z sz len (lK (bd tm) z parts)
 |.mC k z bytes len cap=>Ms (idx (bd tm len)) (idx (bd tm cap)) (ID k (ca mem k) z bytes)
 |.load n eG x=>kp (q3 mem n eG (bd tm x))
 |.vi len sz x b6 O none=>kp (jr (kY 0 (b6.map (bd tm))) λl=>jr (kY len (O.map (bd tm))) λh=>Dt mem len sz l h (bd tm x))
 |.store n x v=>zJ mem n (bd tm x) (bd tm v).cells
 |.app k z bytes s x=>sX mem k z bytes (bd tm s) (rY mem (D z) (bd tm x))
 |.ub sz d x=>yj mem sz (bd tm d) (rY mem sz (bd tm x))
 |.wS z x=>zK mem z (bd tm x)
 |op=>kp (ma tm op)
inductive hA where
 |same (r:Data)
 |own (sz:Nat) (es:List (List Data))
 |rel (bC:M->Mem->Prop)
 |dK (r:Data) (k:Key) (g i:Nat) (c:M)
 |Bp (r:Data) (k:Key)
abbrev ba:=FuncId->List M->Mem->Option hA
def jC (mem:Mem):Option (Key×Nat×List M)->Mem
 |none=>mem
 |some (k,g,cs)=>a5 mem k g cs
def sY (mem:Mem)(k:Key):List M:=match mem k with
 |some (_,cs)=>cs
 |none=>[]
def wV (T:ba)(K:bc->Prop)(st:bc)(dst:Option Nat)(f:FuncId)(args:List M):Prop :=
 match T f args st.mem with
 |some (.same r)=>K ⟨put st.tm dst (.H r),st.mem⟩
 |some (.own _ es)=>K ⟨put st.tm dst (.H (.ax es)),st.mem⟩
 |some (.rel bC)=>∀r mem',bC r mem'->K ⟨put st.tm dst r,mem'⟩
 |some (.dK r k g i c)=>K ⟨put st.tm dst (.H r),a5 st.mem k g ((sY st.mem k).set i c)⟩
 |some (.Bp r k)=>K ⟨put st.tm dst (.H r),a5 st.mem k (ca st.mem k) []⟩
 |none=>False
def FJ:M->Option Bool
 |.H (.ax es)=>some (!es.isEmpty)
 |.nil=>some false
 |.ref _ _ _ _ len=>some (decide (0<len))
 |_=>none
def g5 (T:ba)(K:bc->Prop)(i:cN)(st:bc):Prop :=
 match i.op with
 |.call f args=>wV T K st i.dst f (args.map (bd st.tm))
 |.nT k sz f args=>match T f (args.map (bd st.tm)) st.mem with
  |some (.own eX es)=>if eX=sz then K ⟨put st.tm i.dst (.ref k (ca st.mem k) sz 0 (D es)),a5 st.mem k (ca st.mem k) (es.flatten.map .H)⟩ else False
  |_=>False
 |.nn f args=>match bd st.tm f with
  |.gH g fh=>wV T K st i.dst g (args.map (bd st.tm)++fh)
  |.H (.fn g ds)=>wV T K st i.dst g (args.map (bd st.tm)++ds.map .H)
  |_=>False
 |.rX neg x=>match FJ (bd st.tm x) with
  |some full=>∀b:Bool,(full=true->b=false)->K ⟨put st.tm i.dst (.H (.bool (neg != b))),st.mem⟩
  |none=>False
 |op=>match cB st.mem st.tm op with
  |some (m,e)=>K ⟨put st.tm i.dst m,jC st.mem e⟩
  |none=>False
def qg (tm:Nat->M):Option (Nat×Bool)->Option Bool
 |none=>some true
 |some (s,b)=>match tm s with
  |.H (.bool t)=>some (t==b)
  |.no=>some false
  |_=>none
def zL (T:ba)(K:bc->Prop):List cN->bc->Prop
 | [],st=>K st
 |i::r,st=>match qg st.tm i.g with
  |none=>False
  |some g=>if g=true then g5 T (zL T K r) i st else zL T K r ⟨put st.tm i.dst .no,st.mem⟩
def keyOf:M->List Key
 |.ref k ..=>[k]
 |.ptr k ..=>[k]
 |_=>[]
inductive ot where
 |iu (k:Key)
 |rd (k:Key) (a b:Nat)
 |wr (k:Key) (i:Nat)
def ot.key:ot->Key
 |.iu k=>k
 |.rd k _ _=>k
 |.wr k _=>k
def sZ:ot->ot->Bool
 |.iu k,.iu k' => !(k==k')
 |.iu k,.rd k' _ _ => !(k==k')
 |.rd k _ _,.iu k' => !(k==k')
 |.rd _ _ _,.rd _ _ _=>true
 |.rd k a b,.wr k' i => !(k==k')||(decide (i<a)||decide (b<=i))
 |.wr k' i,.rd k a b => !(k==k')||(decide (i<a)||decide (b<=i))
 |.wr _ _,.wr _ _=>false
 |.iu _,.wr _ _=>false
 |.wr _ _,.iu _=>false
def IE (n:Nat):M->List ot
 |.ref k ..=>[.iu k]
 |.ptr k _ off=>[.rd k off (off+n)]
 |_=>[]
def Mu (b6:Nat):List M->List ot
 |.ptr k _ off::_=>[.wr k (off+b6)]
 |_=>[]
def yk:Option M->List ot
 |some (.ref k ..)=>[.iu k]
 |_=>[]
def en (tm:Nat->M):kN->List ot
 |.load n _ x=>IE n (bd tm x)
 |.vi _ _ x _ _ _=>(keyOf (bd tm x)).map .iu
 |.store _ x _=>(keyOf (bd tm x)).map .iu
 |.alloc k _=>[.iu k]
 |.box k _=>[.iu k]
 |.eW k true _ _ _ _=>[.iu k]
 |.mC k _ _ _ _=>[.iu k]
 |.nT k _ _ _=>[.iu k]
 |.app k _ _ s x => .iu k::((keyOf (bd tm s)).map .iu++(keyOf (bd tm x)).map .iu)
 |.ub _ d x=>(keyOf (bd tm d)).map .iu++(keyOf (bd tm x)).map .iu
 |.np b6 _ args=>Mu b6 (args.map (bd tm))
 |.vj j _ args=>yk (args.map (bd tm))[j]?
 |.vk j _ args=>yk (args.map (bd tm))[j]?
 |.wS _ x=>(keyOf (bd tm x)).map .iu
 |_=>[]
def kZ:kN->Bool
 |.store ..=>true
 |.alloc ..=>true
 |.box ..=>true
 |.eW _ true _ _ _ _=>true
 |.mC ..=>true
 |.nT ..=>true
 |.app ..=>true
 |.ub ..=>true
 |.np ..=>true
 |.vj ..=>true
 |.vk ..=>true
 |.wS ..=>true
 |_=>false
def rZ:M->M
 |.H d => .H d
 |.nil => .nil
 |.gH f [] => .gH f []
 |.agg cs=>match cs.mapM wU with
  |some ds => .H (.agg ds)
  |none => .undef
 |_ => .undef
def IF (b6:Nat)(mem:Mem):List M->Option hA->Option (M×Option (Key×Nat×List M))
 |.ptr k _ off::_,some (.dK r k' dp i c)=>match mem k with
  |some (g,cs)=>if k'=k/\dp=g/\i=off+b6 then some (.H r,some (k,g,cs.set i c)) else none
  |none=>none
 |_,_=>none
def Xl (cs:List M):Option (List Data):=cs.mapM wU
def Mv (sz off len:Nat)(cs:List M):Option Data:=match cut cs off (len*sz) with
 |some part=>(Xl part).map λds => .ax (chunk sz len ds)
 |none=>none
def RA:Option hA->Option Data
 |some (.same r)=>some r
 |some (.own _ es)=>some (.ax es)
 |_=>none
def Xm (T:ba)(j:Nat)(f:FuncId)(ms:List M)(k:Key)(g sz off len:Nat):Option (Nat×List M)->Option (M×Option (Key×Nat×List M))
 |some (dp,cs)=>if dp=g then (match Mv sz off len cs with
  |some d=>(match RA (T f (ms.set j (.H d)) emp) with
   |some r=>some (.H r,some (k,dp+1,[]))
   |none=>none)
  |none=>none) else none
 |none=>none
def Mw (T:ba)(mem:Mem)(j:Nat)(f:FuncId)(ms:List M):Option M->Option (M×Option (Key×Nat×List M))
 |some (.ref k g sz off len)=>Xm T j f ms k g sz off len (mem k)
 |_=>none
def uc (cs:List M):Bool:=cs.all λm=>(wU m).isSome
def Xn (T:ba)(j:Nat)(f:FuncId)(ms:List M)(k:Key)(g sz off len:Nat):Option (Nat×List M)->Option (M×Option (Key×Nat×List M))
 |some (dp,cs)=>if uc cs=true then (match T f (ms.set j (.ref k g sz off len)) (a5 emp k dp cs) with
  |some (.Bp r k')=>if k'=k then some (.H r,some (k,dp+1,[])) else none
  |_=>none) else none
 |none=>none
def Mx (T:ba)(mem:Mem)(j:Nat)(f:FuncId)(ms:List M):Option M->Option (M×Option (Key×Nat×List M))
 |some (.ref k g sz off len)=>Xn T j f ms k g sz off len (mem k)
 |_=>none
def iv (T:ba)(mem:Mem)(tm:Nat->M):kN->Option (M×Option (Key×Nat×List M))
 |.call f args=>match T f (args.map λx=>rZ (bd tm x)) emp with
  |some (.same r)=>some (.H r,none)
  |some (.own _ es)=>some (.H (.ax es),none)
  |_=>none
 |.nT k sz f args=>match T f (args.map λx=>rZ (bd tm x)) emp with
  |some (.own eX es)=>if eX=sz then some (.ref k (ca mem k) sz 0 (D es),some (k,ca mem k,es.flatten.map .H)) else none
  |_=>none
 |.nn ..=>none
 |.rX ..=>none
 |.np b6 f args=>IF b6 mem (args.map (bd tm)) (T f (args.map (bd tm)) mem)
 |.vj j f args=>Mw T mem j f (args.map λx=>rZ (bd tm x)) (args.map (bd tm))[j]?
 |.vk j f args=>Mx T mem j f (args.map λx=>rZ (bd tm x)) (args.map (bd tm))[j]?
 |op=>cB mem tm op
abbrev Rec:=Nat->Option (Bool×List ot)
def s0 (a b:Bool×List ot):Bool:=!(a.1||b.1)||a.2.all λx=>b.2.all λy=>sZ x y
def IG (rec:Rec)(p:Bool×List ot)(c:List Nat):Bool:=c.all λi=>match rec i with
 |none=>true
 |some q=>s0 q p
def wW (rec:Rec)(n:Nat)(p:Bool×List ot):Rec:=λi=>if i=n then some p else rec i
def yl (T:ba)(K:bc->Prop):Nat->List cN->List (List Nat)->Rec->bc->Prop
 |_,[],_,_,st=>K st
 |n,i::r,cs,rec,st=>match qg st.tm i.g with
  |none=>False
  |some g=>if g=true then (match iv T st.mem st.tm i.op with
    |some (m,e)=>IG rec (kZ i.op,en st.tm i.op) (cs.headD [])=true/\yl T K (n+1) r cs.tail (wW rec n (kZ i.op,en st.tm i.op)) ⟨put st.tm i.dst m,jC st.mem e⟩
    |none=>False) else yl T K (n+1) r cs.tail rec ⟨put st.tm i.dst .no,st.mem⟩
inductive eK where
 |normal
 |exit (id:Nat)
 |ret
def cV:Nat->Mem->M->Option Data
 |_,_,.H d=>some d
 |_,_,.nil=>some (.ax [])
 |0,_,_=>none
 |n+1,mem,.ref k g sz off len=>match mem k with
  |some (dp,cs)=>if dp=g then (match cut cs off (len*sz) with
   |some part=>(part.mapM (cV n mem)).map λds => .ax (chunk sz len ds)
   |none=>none) else none
  |none=>none
 |n+1,mem,.ptr k g off=>match mem k with
  |some (dp,cs)=>if dp=g/\off<=(D cs) then ((cs.drop off).mapM (cV n mem)).map .ptr else none
  |none=>none
 |n+1,mem,.gH f cs=>(cs.mapM (cV n mem)).map (.fn f)
 |n+1,mem,.agg cs=>(cs.mapM (cV n mem)).map .agg
 |n+1,mem,.dj cs=>(cs.mapM (cV n mem)).map .dj
 |_,_,.no=>none
 |_,_,.undef=>none
def kill (mem:Mem)(k:Key):Mem:=a5 mem k (ca mem k) []
inductive ud (mem:Mem):Mem->Prop
 |RB (fR gI:Nat) (gJ:List M) (i k g sz off len:Nat) (cs:List M) (k':Nat) (F:mem fR=some (gI,gJ)) (G:gJ[i]?=some (.ref k g sz off len)) (ab:mem k=some (g,cs)) (aV:k≠fR) (bu:k'≠k) (bX:k'≠fR) :
   ud mem (a5 (a5 (a5 mem k (ca mem k) []) k' (ca mem k') cs) fR gI (gJ.set i (.ref k' (ca mem k') sz off len)))
 |aeX (fR gI:Nat) (gJ:List M) (i k g off:Nat) (cs:List M) (k':Nat) (F:mem fR=some (gI,gJ)) (G:gJ[i]?=some (.ptr k g off)) (ab:mem k=some (g,cs)) (aV:k≠fR) (bu:k'≠k) (bX:k'≠fR) :
   ud mem (a5 (a5 (a5 mem k (ca mem k) []) k' (ca mem k') cs) fR gI (gJ.set i (.ptr k' (ca mem k') off)))
 |RC (fR gI:Nat) (gJ:List M) (i k g sz off len:Nat) (cs:List M) (d:Data) (F:mem fR=some (gI,gJ)) (G:gJ[i]?=some (.ref k g sz off len)) (ab:mem k=some (g,cs)) (aV:k≠fR) (bu:cV 1 mem (.ref k g sz off len)=some d) :
   ud mem (a5 (kill mem k) fR gI (gJ.set i (.H d)))
inductive vl:Mem->Mem->Prop
 |refl (mem:Mem):vl mem mem
 |step {mem My aeY:Mem} (h:ud mem My) (cn:vl My aeY):vl mem aeY
def lp (K:bc->Prop)(st:bc):Ru->Prop
 |.nq s k sz=>match st.tm s with
  |.nil=>K ⟨dK st.tm s (.ref k (ca st.mem k) sz 0 0),a5 st.mem k (ca st.mem k) []⟩
  |_=>False
 |.Dr x i k sz=>match bd st.tm x with
  |.ptr kc g off=>match st.mem kc with
   |some (dp,cs)=>if dp=g then (match cs[off+i]? with
    |some .nil=>if k≠kc then K ⟨st.tm,a5 (a5 st.mem k (ca st.mem k) []) kc g (cs.set (off+i) (.ref k (ca st.mem k) sz 0 0))⟩ else False
    |_=>False) else False
   |none=>False
  |_=>False
 |.freeze s=>match st.tm s with
  |.ref k g _ _ _=>match st.mem k with
   |some (dp,cs)=>if dp=g/\uc cs=true then (match cV 1 st.mem (st.tm s) with
    |some d=>K ⟨dK st.tm s (.H d),kill st.mem k⟩
    |none=>False) else False
   |none=>False
  |_=>False
 |.FI x i=>match bd st.tm x with
  |.ptr kc gc off=>match st.mem kc with
   |some (Mz,cc)=>if Mz=gc then (match cc[off+i]? with
    |some (.ref k g sz o len)=>match st.mem k with
     |some (dp,cs)=>if dp=g/\uc cs=true/\k≠kc then (match cV 1 st.mem (.ref k g sz o len) with
      |some d=>K ⟨st.tm,a5 (kill st.mem k) kc gc (cc.set (off+i) (.H d))⟩
      |none=>False) else False
     |none=>False
    |_=>False) else False
   |none=>False
  |_=>False
 |.move=>K st\/(∃fR gI gJ i k g sz off len cs k',st.mem fR=some (gI,gJ)/\gJ[i]?=some (.ref k g sz off len)/\st.mem k=some (g,cs)/\k≠fR/\k'≠k/\k'≠fR /\
   K ⟨st.tm,a5 (a5 (a5 st.mem k (ca st.mem k) []) k' (ca st.mem k') cs) fR gI (gJ.set i (.ref k' (ca st.mem k') sz off len))⟩) \/
   ∃fR gI gJ i k g sz off len cs d,st.mem fR=some (gI,gJ)/\gJ[i]?=some (.ref k g sz off len)/\st.mem k=some (g,cs)/\uc cs=true/\k≠fR/\cV 1 st.mem (.ref k g sz off len)=some d /\
   K ⟨st.tm,a5 (kill st.mem k) fR gI (gJ.set i (.H d))⟩
 |.many=>∃mem',vl st.mem mem'/\K ⟨st.tm,mem'⟩
def wp (T:ba):er->(eK->bc->Prop)->bc->Prop
 |.skip,K,st=>K .normal st
 |.ops l,K,st=>zL T (K .normal) l st
 |.l9 l c,K,st=>yl T (K .normal) 0 l c (λ_=>none) st
 |.seq a b,K,st=>wp T a (λe eC=>match e with
  |.normal=>wp T b K eC
  |e=>K e eC) st
 |.cond c a b,K,st=>match bd st.tm c with
  |.H (.bool t)=>if t=true then wp T a K st else wp T b K st
  |_=>False
 |.block id c,K,st=>wp T c (λe eC=>match e with
  |.exit j=>if j=id then K .normal eC else K (.exit j) eC
  |e=>K e eC) st
 |.loop c,K,st=>∃(s3:bc->Prop) (μ:bc->Nat),s3 st/\∀st,s3 st->wp T c (λe eC=>match e with
  |.normal=>s3 eC/\μ eC<μ st
  |e=>K e eC) st
 |.exit id,K,st=>K (.exit id) st
 |.ret,K,st=>K .ret st
 |.ghost g c,K,st=>lp (wp T c K) st g
def IH (st:bc):py->Option M
 |.t s=>some (st.tm s)
 |.cell s n eG=>q3 st.mem n eG (st.tm s)
def pz (st:bc)(l:List py):Option M :=
 match l.mapM (IH st) with
 |some [m]=>some m
 |some ms=>some (.dj ms)
 |none=>none
def kq (args:List M):Nat->M:=λs=>match args[s]? with
 |some m=>m
 |none => .no
def MA:Value->Option M
 |.int k n=>some (.H (.int k n))
 |.bool b=>some (.H (.bool b))
 |.string s=>some (.H (.str s.data.toList))
 |.slice none 0 0=>some .nil
 |.pointer none=>some (.H .wP)
 |.nilFunc=>some (.H .wQ)
 |_=>none
def Xo:Value->Option M
 |.agg cs=>(cs.toList.mapM MA).map .agg
 |v=>MA v
def ev:Operand->Option bZ
 |.tmp t=>some (.t t)
 |.const v=>(Xo v).map .c
 |.func f=>some (.c (.gH f []))
 |.global _=>none
def zeroOf (P:Program)(t:TypeId):Option (List M):=((P.info? t).bind (·.zero)).bind λz=>z.cells.toList.mapM MA
def gZ (P:Program)(t:TypeId):Option Nat:=(P.info? t).map (·.size)
def II (P:Program)(t:TypeId):Option Nat:=(P.info? t).map (·.bytes)
def Bq (P:Program)(t:TypeId):Option Bool:=(P.underlying t).map fun|.struct _=>true|.array _ _=>true|_=>false
def partsOf (place:Nat->Option (Nat×Nat))(l:List (Nat×Operand)):Option (List (Nat×Nat×bZ)) :=
 l.mapM λ(i,x)=>do
  let (o,s) <-place i
  let y <-ev x
  pure (o,s,y)
def wX (P:Program)(eo:Array Field)(i:Nat):Option (Nat×Nat):=do
 let f <-eo[i]?
 let s <-gZ P f.type
 pure (f.offset,s)
def MB (P:Program)(t:TypeId):Option Nat :=
 match P.underlying t with
 |some .bool=>some 0
 |some (.int _)=>some 1
 |some .string=>some 2
 |_=>none
def IJ (P:Program):Nat->List Field->Option (List Nat)
 |_,[]=>some []
 | i, f :: r => if f.name ≠ "_" /\ f.offset = i then (match MB P f.type, IJ P (i + 1) r with
  |some k,some hz=>some (k::hz)
  |_,_=>none) else none
def ym (P:Program)(t:TypeId)(eo:Array Field)(neg:Bool)(x y:Operand):Option kN :=
 if P.stoodInHeld t=false/\P.eqGuardType P.depth t=false then (match IJ P 0 eo.toList,ev x,ev y with
  |some hz,some x,some y=>some (.eqs neg hz x y)
  |_,_,_=>none) else none
def Xp:Operand->Bool
 |.const (.slice none 0 0)=>true
 |_=>false
def Br (P:Program)(op:BinOp)(t:TypeId)(x y:Operand):Option kN :=
 match P.underlying t with
 |some (.int _)=>match ev x,ev y with
  |some x,some y=>some (.bin op x y)
  |_,_=>none
 |some .string=>match ev x,ev y with
  |some x,some y=>some (.bin op x y)
  |_,_=>none
 |some .bool=>match op,ev x,ev y with
  |.eql,some x,some y=>some (.beq false x y)
  |.neq,some x,some y=>some (.beq true x y)
  |_,_,_=>none
 |some (.struct eo)=>match op with
  |.eql=>ym P t eo false x y
  |.neq=>ym P t eo true x y
  |_=>none
 |some (.slice _)=>if Xp y=true then (match op with
  |.eql=>(ev x).map (.rX false)
  |.neq=>(ev x).map (.rX true)
  |_=>none) else none
 |_=>none
def vm:Option Operand->Option (Option bZ)
 |none=>some none
 |some x=>(ev x).map some
def zM (P:Program)(kb:Nat)(own:List Nat)(dst:Option Nat)(type:TypeId)(c:Call):Option kN :=
 match c.callee,c.args.toList,c.argTypes.toList with
 |.builtin .len,[x],[t]=>match P.underlying t with
  |some (.slice _)=>(ev x).map .len
  |some .string=>(ev x).map .lens
  |_=>none
 |.builtin .append,[s,x],[t,u]=>match P.underlying t,P.underlying u with
  |some (.slice e),some (.slice _)=>do
   let z <-zeroOf P e
   let b <-II P e
   let n <-gZ P e
   let d <-dst
   let s <-ev s
   let x <-ev x
   if (D z)=n/\0<n/\t=u then pure (.app (kb+d) z b s x) else none
  |_,_=>none
 |.builtin .copy,[d,x],[t,u]=>match P.underlying t,P.underlying u with
  |some (.slice e),some (.slice _)=>do
   let n <-gZ P e
   if 0<n then pure (.ub n (<-ev d) (<-ev x)) else none
  |_,_=>none
 |.builtin .clear,[x],[t]=>match P.underlying t with
  |some (.slice e)=>do
   let z <-zeroOf P e
   let n <-gZ P e
   if (D z)=n/\0<n then pure (.wS z (<-ev x)) else none
  |_=>none
 |.builtin .max,[x,y],_=>do pure (.jX true (<-ev x) (<-ev y))
 |.builtin .min,[x,y],_=>do pure (.jX false (<-ev x) (<-ev y))
 |.value (.func f),l,_=>if dst.any (λd=>own.contains d) then (match P.underlying type with
   |some (.slice e)=>do pure (.nT (kb+(<-dst)) (<-gZ P e) f (<-l.mapM ev))
   |_=>none) else match own.find? (λo=>decide (1000000<=o)&&dst==some (o%1000000)) with
   |some o=>if 1000000000000<=o then do pure (.vk (o/1000000000000-1) f (<-l.mapM ev)) else if 1000000000<=o then do pure (.vj (o/1000000000-1) f (<-l.mapM ev)) else do pure (.np (o/1000000-1) f (<-l.mapM ev))
   |none=>do pure (.call f (<-l.mapM ev))
 |.value f,l,_=>do pure (.nn (<-ev f) (<-l.mapM ev))
 |_,_,_=>none
def k0 (P:Program)(kb:Nat)(own:List Nat)(dst:Option Nat)(type:TypeId):Op->Option kN
 |.move x=>(ev x).map .ko
 |.assign x=>(ev x).map .ko
 |.pick c a b=>do pure (.pick (<-ev c) (<-ev a) (<-ev b))
 |.alloc e=>do pure (.alloc (kb+(<-dst)) (<-zeroOf P e))
 |.box _ x=>do pure (.box (kb+(<-dst)) (<-ev x))
 |.build t cO=>match P.underlying t with
  |some (.struct eo)=>if (eo.toList.all λf=>(gZ P f.type).isSome)=true then do pure (.build (<-zeroOf P t) (<-partsOf (wX P eo) cO.toList)) else none
  |some (.array _ e)=>do
   let s <-gZ P e
   pure (.build (<-zeroOf P t) (<-partsOf (λi=>some (i*s,s)) cO.toList))
  |_=>none
 |.buildSlice t len cO=>match P.underlying t with
  |some (.slice e)=>do
   let z <-zeroOf P e
   let s <-gZ P e
   let cO <-partsOf (λi=>some (i*s,s)) cO.toList
   let d <-dst
   if (D z)=s/\0<s/\len*s<=16777216 then pure (.eW (kb+d) (own.contains d) ((ef len z).flatten) s len cO) else none
  |_=>none
 |.load t x=>do pure (.load (<-gZ P t) (<-Bq P t) (<-ev x))
 |.store t x v=>do pure (.store (<-gZ P t) (<-ev x) (<-ev v))
 |.binOp op t x y _=>Br P op t x y
 |.unOp op _ x=>(ev x).map (.un op)
 |.nilCheck x=>(ev x).map .oq
 |.convert s t x=>match P.underlying s,P.underlying t with
  |some (.int _),some (.int k)=>(ev x).map (.conv k)
  |_,_=>none
 |.makeFunc (.func f) fst fh=>if fst.size=0 then do pure (.wT f (<-fh.toList.mapM ev)) else none
 |.makeSlice t l c=>match P.underlying t with
  |some (.slice e)=>do
   let z <-zeroOf P e
   let s <-gZ P e
   let b <-II P e
   let d <-dst
   if (D z)=s/\0<s then pure (.mC (kb+d) z b (<-ev l) (<-ev c)) else none
  |_=>none
 |.slice t x b6 O ln=>match P.underlying t with
  |some (.slice e)=>do
   let s <-gZ P e
   if 0<s then pure (.ua s (<-ev x) (<-vm b6) (<-vm O) (<-vm ln)) else none
  |some (.array n e)=>do
   let s <-gZ P e
   if 0<s/\n<=16777216 then pure (.vi n s (<-ev x) (<-vm b6) (<-vm O) (<-vm ln)) else none
  |some .string=>if ln.isNone then do pure (.FH (<-ev x) (<-vm b6) (<-vm O)) else none
  |_=>none
 |.fieldAddr t x f=>match P.underlying t with
  |some (.struct eo)=>do
   let (o,s) <-wX P eo f
   if 0<s then pure (.zI o (<-ev x)) else none
  |_=>none
 |.field t x f=>match P.underlying t with
  |some (.struct eo)=>do
   let fd <-eo[f]?
   let (o,s) <-wX P eo f
   pure (.Dq o s (<-Bq P fd.type) (<-ev x))
  |_=>none
 |.indexAddr t x i=>match P.underlying t with
  |some (.slice e)=>do
   let s <-gZ P e
   if 0<s then pure (.q2 s (<-ev x) (<-ev i)) else none
  |some (.array n e)=>do
   let s <-gZ P e
   if 0<s then pure (.qe n s (<-ev x) (<-ev i)) else none
  |_=>none
 |.index t x i=>match P.underlying t with
  |some .string=>do pure (.idxs (<-ev x) (<-ev i))
  |_=>none
 |.extract x i=>(ev x).map (.ext i)
 |.call c=>zM P kb own dst type c
 |_=>none
def MC (ops:Array Oper):Option (Nat×Bool)->Option (Option (Nat×Bool))
 |none=>some none
 |some (j,b)=>match (ops[j]?).bind (·.dst) with
  |some s=>some (some (s,b))
  |none=>none
def Dv (P:Program)(n kb:Nat)(own:List Nat)(ops:Array Oper)(o:Oper):Option cN :=
 match MC ops o.guard with
 |some g=>if o.dst.all (λd=>decide (d<n))=true then some ⟨o.dst,g,(k0 P kb own o.dst o.type o.op).getD .bad⟩ else none
 |_=>none
def ue (m:kN):Nat:=match m with
 |.load ..=>1
 |.vi ..=>1
 |m=>if kZ m=true then 2 else 0
def Bs (a b:Nat):Bool:=a==0||b==0||(a==1&&b==1)
def fJ:bZ->List Nat
 |.t s=>[s]
 |.c _=>[]
def zN:Option bZ->List Nat
 |some (.t s)=>[s]
 |_=>[]
def uf:kN->List Nat
 |.ko x=>fJ x
 |.pick c a b=>fJ c++fJ a++fJ b
 |.alloc _ _=>[]
 |.box _ x=>fJ x
 |.build _ cO=>cO.flatMap λp=>fJ p.2.2
 |.eW _ _ _ _ _ cO=>cO.flatMap λp=>fJ p.2.2
 |.load _ _ x=>fJ x
 |.store _ x v=>fJ x++fJ v
 |.bin _ x y=>fJ x++fJ y
 |.beq _ x y=>fJ x++fJ y
 |.eqs _ _ x y=>fJ x++fJ y
 |.rX _ x=>fJ x
 |.un _ x=>fJ x
 |.conv _ x=>fJ x
 |.oq x=>fJ x
 |.mC _ _ _ x y=>fJ x++fJ y
 |.zI _ x=>fJ x
 |.Dq _ _ _ x=>fJ x
 |.q2 _ x i=>fJ x++fJ i
 |.qe _ _ x i=>fJ x++fJ i
 |.idxs x i=>fJ x++fJ i
 |.ua _ x a b c=>fJ x++zN a++zN b++zN c
 |.vi _ _ x a b c=>fJ x++zN a++zN b++zN c
 |.FH x a b=>fJ x++zN a++zN b
 |.ext _ x=>fJ x
 |.len x=>fJ x
 |.lens x=>fJ x
 |.app _ _ _ s x=>fJ s++fJ x
 |.ub _ s x=>fJ s++fJ x
 |.jX _ x y=>fJ x++fJ y
 |.call _ l=>l.flatMap fJ
 |.nT _ _ _ l=>l.flatMap fJ
 |.nn f l=>fJ f++l.flatMap fJ
 |.np _ _ l=>l.flatMap fJ
 |.vj _ _ l=>l.flatMap fJ
 |.vk _ _ l=>l.flatMap fJ
 |.wS _ x=>fJ x
 |.wT _ l=>l.flatMap fJ
 |.bad=>[]
def Dw (i:cN):List Nat:=uf i.op++(match i.g with|some (s,_)=>[s]|none=>[])
def zO (x y:cN):Bool :=
 (
  match x.dst with
  |some d => !(Dw y).contains d&&y.dst != some d
  |none=>true) &&
 (
  match y.dst with
  |some d => !(Dw x).contains d
  |none=>true)
def r0:List Oper->List Nat->List Nat
 | [],acc=>acc
 |o::r,acc=>r0 r (acc++[o.after.toList.foldl (λs e=>if Region.binds .any e=true then s ||| (2^e.on ||| acc.getD e.on 0) else s) 0])
def IK:List cN->List cN->List Nat->Bool
 |_,[],_=>true
 |pre,c::cs,a::as=>(pre.zipIdx.all λ(p,i)=>a.testBit i||zO p c)&&IK (pre++[c]) cs as
 |_,_::_,[]=>false
def IM:Nat->List Oper->Bool
 |_,[]=>true
 |n,o::r=>(o.after.all λe => !Region.binds .any e||decide (e.on<n))&&IM (n+1) r
def IP (ops:Array Oper)(l:List cN):Bool:=IM 0 ops.toList&&IK [] l (r0 ops.toList [])
def Bt:List cN->List cN->List Nat->List (List Nat)
 |_,[],_=>[]
 |pre,c::cs,as=>((pre.zipIdx.filter λ(p,i) => !((as.headD 0).testBit i||Bs (ue p.op) (ue c.op))).map (·.2))::Bt (pre++[c]) cs as.tail
def r1 (P:Program)(n kb:Nat)(own:List Nat):Code->Option er
 |.skip=>some .skip
 |.region _ ops draw=>match ops.toList.mapM (Dv P n kb own ops) with
  |some l=>if draw=true then (if IP ops l=true then some (.l9 l (Bt [] l (r0 ops.toList []))) else none) else some (.ops l)
  |none=>none
 |.seq a b=>match r1 P n kb own a,r1 P n kb own b with
  |some x,some y=>some (.seq x y)
  |_,_=>none
 |.cond c a b=>match ev c,r1 P n kb own a,r1 P n kb own b with
  |some c,some x,some y=>some (.cond c x y)
  |_,_,_=>none
 |.block id c=>(r1 P n kb own c).map (.block id)
 |.loop c=>(r1 P n kb own c).map .loop
 |.exit id=>some (.exit id)
 |.ret=>some .ret
 |_=>none
def IQ (P:Program):ResultVar->Option py
 |.tmp t=>some (.t t)
 |.cell a t=>match gZ P t,Bq P t with
  |some s,some g=>some (.cell a s g)
  |_,_=>none
def r2 (P:Program)(kb:Nat)(own:List Nat)(f:Func):Option bJ :=
 match f.body with
 |none=>none
 |some c=>match r1 P f.ntmps kb own c,f.results.toList.mapM (IQ P) with
  |some b,some r=>some { n:=f.ntmps,asP:=f.params.size+f.nfree,res:=r,body:=b }
  |_,_=>none
structure e6 (A:Nat->Prop) (w:World) (B:fu) (aX:World) (bD:fu) (mem':Mem):Prop where
 eH:fQ A aX bD mem'
 nU:Trans A w B aX bD
 aF:Fr (tZ B) w aX
 fresh:∀b,tZ bD b->tZ B b\/w.heap.size<=b
def e6.still {A:Nat->Prop}{w aX:World}{B:fu}{mem:Mem}(h:fQ A w B mem)(f:Fr (λ_=>False) w aX):e6 A w B aX B mem:=by
 have nU:Trans A w B aX B:=⟨f.size,λb ad bw=>⟨f.block b ad id,λL=>bw (.inl L)⟩,λ_ e he=>⟨e,he,.inl rfl⟩⟩;refine⟨⟨h.Dp,h.inj,h.sep,λb ad=>FG (h.lt b ad) f.size,λk g cs hm=>?_⟩,nU,⟨f.os,f.tape,f.output,f.size,λb ad _=>f.block b ad id⟩,λb ad => .inl ad⟩;obtain⟨e,he,bb,aL,ad⟩:=h.dU k g cs hm;refine⟨e,he,bb,aL,λb jQ=>?_⟩;obtain⟨vs,T,F,G,ab,aV⟩:=ad b jQ;have ah:b<w.heap.size:=(Array.getElem?_eq_some_iff.1 F).1;exact⟨vs,T,(f.block b ah id).trans F,G,ab,λi m hm=>let ⟨v,aN,X⟩:=aV i m hm;⟨v,aN,X.sV nU⟩⟩
def e6.refl {A:Nat->Prop}{w:World}{B:fu}{mem:Mem}(h:fQ A w B mem):e6 A w B w B mem:=.still h (Fr.refl _ _)
def g6 (B:fu)(k:Key)(e:nm):fu:=λj=>if j=k then some e else B j
def h8 (B:fu)(k:Key)(e:nm):g6 B k e k=some e:=by simp[g6]
def hW (B:fu){k j:Key}(e:nm)(h:j≠k):g6 B k e j=B j:=by simp[g6,h]
section
variable {A:Nat->Prop} {w aX:World} {B:fu} {mem:Mem} {k:Key} {e':nm} {cs:List M}
def Trans.change (fw:w.heap.size<=aX.heap.size)
  (hold:∀b,b<w.heap.size->(∀e,B k=some e->e.dU≠some b)->aX.heap[b]?=w.heap[b]?)
  (bb:∀e,B k=some e->e'=e\/e.g<e'.g)
  (gv:∀b,e'.dU=some b->w.heap.size<=b\/∃e,B k=some e/\e.dU=some b):Trans A w B aX (g6 B k e'):=by
 refine⟨fw,λb ad bw=>⟨hold b ad λe he L=>bw (.inl ⟨k,e,he,L⟩),?_⟩,λj e he=>?_⟩
 ·rintro⟨j,e,he,L⟩
  by_cases ae:j=k
  ·subst ae;rw[h8] at he
   cases he;rcases gv b L with F|⟨e,F,G⟩
   ·omega
   ·exact bw (.inl ⟨_,e,F,G⟩)
  ·rw[hW B e' ae] at he;exact bw (.inl ⟨j,e,he,L⟩)
 ·by_cases ae:j=k
  ·subst ae;exact⟨e',h8 _ _ _,bb e he⟩
  ·exact⟨e,(hW B e' ae).trans he,.inl rfl⟩
def Xq (gv:∀b,e'.dU=some b->w.heap.size<=b\/∃e,B k=some e/\e.dU=some b)(b:Nat)(h:tZ (g6 B k e') b):tZ B b\/w.heap.size<=b:=by
 obtain⟨j,e,he,L⟩:=h
 by_cases ae:j=k
 ·subst ae;rw[h8] at he
  cases he;rcases gv b L with F|⟨e,F,G⟩
  ·exact .inr F
  ·exact .inl ⟨_,e,F,G⟩
 ·rw[hW B e' ae] at he;exact .inl ⟨j,e,he,L⟩
def fQ.aeZ (h:fQ A w B mem)(fw:w.heap.size<=aX.heap.size)
  (hold:∀b,b<w.heap.size->(∀e,B k=some e->e.dU≠some b)->aX.heap[b]?=w.heap[b]?)
  (bb:∀e,B k=some e->e'=e\/e.g<e'.g)
  (gv:∀b,e'.dU=some b->w.heap.size<=b\/∃e,B k=some e/\e.dU=some b)
  (aL:e'.dU=none->cs=[])
  (J:∀b,e'.dU=some b->∃vs T,aX.heap[b]?=some (.cells vs T (0,0))/\vs.size=e'.size/\D cs<=vs.size /\
   ∀(i:Nat) (m:M),cs[i]?=some m->∃v,vs[i]?=some v/\bB aX (ct A (g6 B k e')) (g6 B k e') m v):fQ A aX (g6 B k e') (a5 mem k e'.g cs):=by
 have nU:Trans A w B aX (g6 B k e'):=Trans.change fw hold bb gv;have fresh:=Xq (w:=w) gv;refine⟨λj ae=>?_,λj mW e aC b he fP ad fi=>?_,λb aZ bw=>?_,λb ad=>FG (h.lt b ad) fw,λj g jY hm=>?_⟩
 ·by_cases ey:j=k
  ·subst ey;simp[a5] at ae
  ·simp only[a5,ey,if_false] at ae;rw[hW B e' ey];exact h.Dp j ae
 ·by_cases ey:j=k<;>by_cases hjk':mW=k
  ·rw[ey,hjk']
  ·subst ey;rw[h8] at he
   cases he;rw[hW B e' hjk'] at fP;rcases gv b ad with F|⟨e,F,G⟩
   ·have:=h.zH ⟨mW,aC,fP,fi⟩;omega
   ·exact h.inj _ _ e aC b F fP G fi
  ·subst hjk';rw[h8] at fP
   cases fP;rw[hW B e' ey] at he;rcases gv b fi with F|⟨bN,F,G⟩
   ·have:=h.zH ⟨j,e,he,ad⟩;omega
   ·exact h.inj _ _ e bN b he F ad G
  ·rw[hW B e' ey] at he;rw[hW B e' hjk'] at fP;exact h.inj j mW e aC b he fP ad fi
 ·rcases fresh b bw with F|F
  ·exact h.sep b aZ F
  ·have:=h.lt b aZ;omega
 ·by_cases ey:j=k
  ·subst ey;simp only[a5,if_true,cF,fq] at hm;obtain⟨rfl,rfl⟩:=hm;refine⟨e',h8 _ _ _,rfl,aL,λb ad=>?_⟩;obtain⟨vs,T,F,G,ab,aV⟩:=J b ad;exact⟨vs,T,F,G,ab,aV⟩
  ·simp only[a5,ey,if_false] at hm;obtain⟨e,he,Xr,asQ,nr⟩:=h.dU j g jY hm;refine⟨e,(hW B e' ey).trans he,Xr,asQ,λb ad=>?_⟩;obtain⟨vs,T,F,G,ab,aV⟩:=nr b ad;have ah:b<w.heap.size:=(Array.getElem?_eq_some_iff.1 F).1;have ug:aX.heap[b]?=w.heap[b]?:=hold b ah λbN ab aV=>ey (h.inj j k e bN b he ab ad aV);exact⟨vs,T,ug.trans F,G,ab,λi m hm=>let ⟨v,aN,X⟩:=aV i m hm;⟨v,aN,X.sV nU⟩⟩
def fQ.change (h:fQ A w B mem)(fw:w.heap.size<=aX.heap.size)
  (hold:∀b,b<w.heap.size->(∀e,B k=some e->e.dU≠some b)->aX.heap[b]?=w.heap[b]?)
  (bb:∀e,B k=some e->e'=e\/e.g<e'.g)
  (gv:∀b,e'.dU=some b->w.heap.size<=b\/∃e,B k=some e/\e.dU=some b)
  (aL:e'.dU=none->cs=[])
  (J:∀b,e'.dU=some b->∃vs T,aX.heap[b]?=some (.cells vs T (0,0))/\vs.size=e'.size/\D cs<=vs.size /\
   ∀(i:Nat) (m:M),cs[i]?=some m->∃v,vs[i]?=some v/\bB w (ct A B) B m v):fQ A aX (g6 B k e') (a5 mem k e'.g cs) :=
 h.aeZ fw hold bb gv aL λb ad=>by
  have nU:Trans A w B aX (g6 B k e'):=Trans.change fw hold bb gv;obtain⟨vs,T,F,G,ab,aV⟩:=J b ad;exact⟨vs,T,F,G,ab,λi m hm=>let ⟨v,aN,X⟩:=aV i m hm;⟨v,aN,X.sV nU⟩⟩
def e6.change (h:fQ A w B mem)(f:Fr (λb=>∃e,B k=some e/\e.dU=some b) w aX)
  (bb:∀e,B k=some e->e'=e\/e.g<e'.g)
  (gv:∀b,e'.dU=some b->w.heap.size<=b\/∃e,B k=some e/\e.dU=some b)
  (aL:e'.dU=none->cs=[])
  (J:∀b,e'.dU=some b->∃vs T,aX.heap[b]?=some (.cells vs T (0,0))/\vs.size=e'.size/\D cs<=vs.size /\
   ∀(i:Nat) (m:M),cs[i]?=some m->∃v,vs[i]?=some v/\bB w (ct A B) B m v):e6 A w B aX (g6 B k e') (a5 mem k e'.g cs):=by
 have hold:∀b,b<w.heap.size->(∀e,B k=some e->e.dU≠some b)->aX.heap[b]?=w.heap[b]? :=
  λb ad L=>f.block b ad fun⟨e,he,jQ⟩=>L e he jQ
 exact⟨h.change f.size hold bb gv aL J,Trans.change f.size hold bb gv,⟨f.os,f.tape,f.output,f.size,λb ad bw=>f.block b ad fun⟨e,he,jQ⟩=>bw ⟨k,e,he,jQ⟩⟩,Xq gv⟩
def FK (h:fQ A w B mem)(k:Key)(e:nm)(he:B k=some e):e.g<ca mem k:=by
 cases hm:mem k with
 |none=>rw[h.Dp k hm] at he;cases he
 |some x =>
  obtain⟨g,cs⟩:=x;obtain⟨aC,F,G,_⟩:=h.dU k g cs hm;rw[F] at he
  cases he;simp[ca,hm,G]
def e6.alloc (h:fQ A w B mem)(w1:World)(f:Fr (λ_=>False) w w1)(a2:w1.heap.size=w.heap.size)(k:Key)(vs:Array Value)(T:TypeId)(aq:(D cs)<=vs.size)
  (J:∀(i:Nat) (m:M),cs[i]?=some m->∃v,vs[i]?=some v/\bB w (ct A B) B m v) :
  e6 A w B (w1.alloc (.cells vs T)) (g6 B k ⟨ca mem k,some w.heap.size,vs.size⟩) (a5 mem k (ca mem k) cs):=by
 have f2:Fr (λ_=>False) w (w1.alloc (.cells vs T)):=f.alloc _;refine e6.change (e':=⟨ca mem k,some w.heap.size,vs.size⟩) h ⟨f2.os,f2.tape,f2.output,f2.size,λb ad _=>f2.block b ad id⟩ (λe he => .inr (FK h k e he)) (λb ad => .inl ?_) (by simp) ?_
 ·simp at ad;omega
 ·intro b ad;simp at ad;subst ad;exact⟨vs,T,by rw[<-a2];exact heap_alloc_new w1 _,rfl,aq,J⟩
def e6.zP (h:fQ A w B mem)(k:Key):e6 A w B w (g6 B k ⟨ca mem k,none,0⟩) (a5 mem k (ca mem k) []) :=
 e6.change (e':=⟨ca mem k,none,0⟩) h ⟨rfl,rfl,rfl,cl _,λ_ _ _=>rfl⟩ (λe he => .inr (FK h k e he)) (λb ad=>by simp at ad) (λ_=>rfl) (λb ad=>by simp at ad)
end
def e6.trans {A:Nat->Prop}{w w1 qc:World}{B Dn FF:fu}{dg bU:Mem}(h:e6 A w B w1 Dn dg)(cn:e6 A w1 Dn qc FF bU):e6 A w B qc FF bU:=by
 refine⟨cn.eH,h.nU.trans cn.nU,⟨cn.aF.os.trans h.aF.os,cn.aF.tape.trans h.aF.tape,cn.aF.output.trans h.aF.output,eR h.aF.size cn.aF.size,λb ad bw=>?_⟩,λb ad=>?_⟩
 ·have F:=h.aF.block b ad bw;refine (cn.aF.block b (FG ad h.aF.size) λL=>?_).trans F;rcases h.fresh b L with G|G
  ·exact bw G
  ·omega
 ·rcases cn.fresh b ad with F|F
  ·exact h.fresh b F
  ·exact .inr (eR h.aF.size F)
def Xs {w:World}{a4:Nat->Prop}{B:fu}{v:Value}{m:M}(h:MA v=some m):bB w a4 B m v:=by
 unfold MA at h
 split at h<;>simp only[cF,reduceCtorEq] at h<;>subst h
 ·exact .H .int
 ·exact .H .bool
 ·rename_i s
  exact .H (by
   have:s=⟨s.data.toList.toArray⟩:=by simp
   rw[this]
   simpa using Den.str (s:=s.data.toList))
 ·exact .nil
 ·exact .H .wP
 ·exact .H .wQ
def pA {α β:Type}{f:α->Option β}:∀{l:List α} {r:List β},l.mapM f=some r->(D r)=D l/\∀(i:Nat) (x:α) (y:β),l[i]?=some x->r[i]?=some y->f x=some y
 | [],r,h=>by
  simp at h;subst h;exact⟨rfl,λi x y F=>by simp at F⟩
 |a::l,r,h=>by
  simp only[ns,hX,h9,eS,cF] at h;obtain⟨b,ad,zQ,X,rfl⟩:=h;obtain⟨F,G⟩:=pA X;refine⟨by simp[F],λi x y L aj=>?_⟩
  cases i with
  |zero=>simp at L aj;subst L;subst aj;exact ad
  |succ i=>exact G i x y (by simpa using L) (by simpa using aj)
def asR {w:World}{a4:Nat->Prop}{B:fu}{v:Value}{m:M}(h:Xo v=some m):bB w a4 B m v:=by
 unfold Xo at h
 split at h
 ·rename_i cs;simp only[eL] at h;obtain⟨ms,aM,rfl⟩:=h;obtain⟨F,G⟩:=pA aM;have:=bB.agg (w:=w) (a4:=a4) (B:=B) (cs:=ms) (vs:=cs.toList) (by simp[F]) λi d v Z aN=>Xs (G i v d aN Z)
  simpa using this
 ·exact Xs h
section
variable {P:Program} {w:World} {a4:Nat->Prop} {B:fu}
def bB.zR {k:IntKind}{n:Int}{v:Value}(h:bB w a4 B (.H (.int k n)) v):v=.int k n:=by
 cases h with
 |H h=>cases h;rfl
def bB.FL {b:Bool}{v:Value}(h:bB w a4 B (.H (.bool b)) v):v=.bool b:=by
 cases h with
 |H h=>cases h;rfl
def bB.FM {s:List UInt8}{v:Value}(h:bB w a4 B (.H (.str s)) v):v=.string ⟨s.toArray⟩:=by
 cases h with
 |H h=>cases h;rfl
def bB.ofInt {k:IntKind}{n:Int}:bB w a4 B (.H (.int k n)) (.int k n):=.H .int
def asS {op:BinOp}{k:IntKind}{a b:Int}{d:Data}(t:TypeId)(R:IA op=false)(h:Rv op k a b=some d):
  ∃v,(binOp op t (.int k a) (.int k b)).run P w=.ok v w/\Den w a4 d v:=by
 cases op<;>simp only[Rv,cF,reduceCtorEq] at h<;>simp only[IA,Bool.true_eq_false] at R
 case quo =>
  split at h
  ·cases h
  ·rename_i ad
   cases h;exact⟨_,by simp[go_sem,Op.intDiv,ad],.int⟩
 case rem =>
  split at h
  ·cases h
  ·rename_i ad
   cases h;exact⟨_,by simp[go_sem,Op.intDiv,ad],.int⟩
 all_goals
  subst h
  first
   |exact⟨_,by simp[go_sem,Op.intArith],.int⟩
   |exact⟨_,by simp[go_sem],.int⟩
   |exact⟨_,by simp[go_sem],.bool⟩
def asT {op:BinOp}{k k':IntKind}{a b:Int}{d:Data}(t:TypeId)(R:IA op=true)(h:Rw op k a b=some d):
  ∃v,(binOp op t (.int k a) (.int k' b)).run P w=.ok v w/\Den w a4 d v:=by
 unfold Rw at h
 split at h
 ·cases h
 ·rename_i ad
  cases op<;>simp only[IA,k1] at R
  ·simp only[cF] at h;subst h;exact⟨.int k _,by simp[binOp,Op.shift,ad],.int⟩
  ·simp only[cF] at h;subst h;exact⟨.int k _,by simp[binOp,Op.shift,ad],.int⟩
def RD {op:BinOp}{t:TypeId}{x y:Operand}{u v:Value}(F:u ≠ .nilIface)(G:∀c,u ≠ .agg c):eqGuard op t x y u v=pure ():=by
 unfold eqGuard
 cases op<;>cases u<;>first|rfl|exact absurd rfl F|exact absurd rfl (G _)
def asU {op:BinOp}{a b:List UInt8}{d:Data}(t:TypeId)(h:Rx op a b=some d):
  ∃v,(binOp op t (.string ⟨a.toArray⟩) (.string ⟨b.toArray⟩)).run P w=.ok v w/\Den w a4 d v:=by
 have asV:binOp op t (.string ⟨a.toArray⟩) (.string ⟨b.toArray⟩)=Op.stringOp op ⟨a.toArray⟩ ⟨b.toArray⟩:=by
  cases op<;>rfl
 rw[asV]
 cases op<;>simp only[Rx,cF,reduceCtorEq] at h
 case add =>
  split at h
  ·rename_i aq
   cases h;refine⟨.string ⟨(a++b).toArray⟩,?_,.str⟩;have IU:¬ (9223372036854775807<(D a:Int)+(D b:Int)):=by unfold maxLen at aq;omega
   have au:(ByteArray.mk a.toArray).size=D a:=by simp[ByteArray.size]
   have aC:(ByteArray.mk b.toArray).size=D b:=by simp[ByteArray.size]
   have Bu:(ByteArray.mk a.toArray)++(ByteArray.mk b.toArray)=⟨(a++b).toArray⟩:=by
    apply ByteArray.ext;simp
   simp[Op.stringOp,au,aC,IU,Bu]
  ·cases h
 all_goals
  subst h;exact⟨_,by simp[Op.stringOp],.bool⟩
def ae0 {op:BinOp}{m n r:M}{u v:Value}(t:TypeId)(x y:Operand)(hm:bB w a4 B m u)(aL:bB w a4 B n v)(h:Mb op m n=some r):
  ∃z,((do eqGuard op t x y u v;binOp op t u v:Sem Value)).run P w=.ok z w/\bB w a4 B r z:=by
 unfold Mb at h
 split at h
 ·rename_i k a k' b
  cases hm.zR
  cases aL.zR;rw[RD (by simp) (by simp)]
  split at h
  ·rename_i R;simp only[eL] at h;obtain⟨d,Z,rfl⟩:=h;obtain⟨z,F,G⟩:=asT (P:=P) (w:=w) (a4:=a4) (k':=k') t R Z;exact⟨z,by simpa using F,.H G⟩
  ·rename_i R
   split at h
   ·rename_i I;subst I;simp only[eL] at h;obtain⟨d,Z,rfl⟩:=h;obtain⟨z,F,G⟩:=asS (P:=P) (w:=w) (a4:=a4) t (by simpa using R) Z;exact⟨z,by simpa using F,.H G⟩
   ·cases h
 ·rename_i a b
  cases hm.FM
  cases aL.FM;rw[RD (by simp) (by simp)];simp only[eL] at h;obtain⟨d,Z,rfl⟩:=h;obtain⟨z,F,G⟩:=asU (P:=P) (w:=w) (a4:=a4) t Z;exact⟨z,by simpa using F,.H G⟩
 ·cases h
def ae1 {neg:Bool}{m n r:M}{u v:Value}(t:TypeId)(x y:Operand)(b0:P.underlying t=some .bool)(hm:bB w a4 B m u)(aL:bB w a4 B n v)(h:Mc neg m n=some r):
  ∃z,((do eqGuard (if neg then .neq else .eql) t x y u v;binOp (if neg then .neq else .eql) t u v:Sem Value)).run P w=.ok z w/\bB w a4 B r z:=by
 unfold Mc at h
 split at h
 ·rename_i a b
  cases hm.FL
  cases aL.FL
  cases h;rw[RD (by simp) (by simp)]
  cases neg
  ·exact⟨.bool (a==b),by simp[run_eql_bool w t a b b0],by cases a<;>cases b<;>exact .H .bool⟩
  ·exact⟨.bool (!(a==b)),by simp[run_neq_bool w t a b b0],by cases a<;>cases b<;>exact .H .bool⟩
 ·cases h
def asW {t:TypeId}{k:Nat}{m n:M}{c:Bool}{u v:Value}(d:Nat)(I:MB P t=some k)(hm:bB w a4 B m u)(aL:bB w a4 B n v)(h:Ry k m n=some c):
  (Op.equalIn (d+1) t u v).run P w=.ok c w:=by
 unfold MB at I;unfold Ry at h
 split at h
 ·simp only[cF] at h
  cases hm.FL
  cases aL.FL;subst h
  split at I<;>first|(exfalso;simp at I;done)|(rename_i hu;exact run_equalIn_bool w d t _ _ hu)
 ·split at h
  ·rename_i MD;subst MD
   cases hm.zR
   cases aL.zR
   cases h
   split at I<;>first|(exfalso;simp at I;done)|(rename_i hu;exact run_equalIn_int w d t _ _ _ _ hu)
  ·cases h
 ·simp only[cF] at h
  cases hm.FM
  cases aL.FM;subst h
  split at I<;>first|(exfalso;simp at I;done)|(rename_i hu;rw[run_equalIn_string w d t _ _ hu];simp)
 ·cases h
def asX {t:TypeId}{k:Nat}(h:MB P t=some k):(isAgg t).run P w=.ok false w:=by
 unfold MB at h
 split at h<;>simp only[cF,reduceCtorEq] at h<;>(rename_i hu;simp[isAgg,run_underlying hu])
def ae2 {d:Nat}{xs ys:Array Value}{cs ds:List M}(L:∀(i:Nat) (m:M) (v:Value),cs[i]?=some m->xs[i]?=some v->bB w a4 B m v)(zS:xs.size=D cs)
  (aj:∀(i:Nat) (m:M) (v:Value),ds[i]?=some m->ys[i]?=some v->bB w a4 B m v) (FN:ys.size=D ds) :
  ∀(eo:List Field) (i:Nat) (hz:List Nat) (c:Bool),IJ P i eo=some hz->Ds hz (cs.drop i) (ds.drop i)=some c->(Op.eqFields (d+1) xs ys eo).run P w=.ok c w
 | [],i,hz,c,aH,J=>by
  simp[IJ] at aH;subst aH
  cases F:cs.drop i<;>cases G:ds.drop i<;>simp[F,G,Ds] at J;subst J;simp[Op.eqFields]
 |f::r,i,hz,c,aH,J=>by
  simp only[IJ] at aH
  split at aH
  ·rename_i aL;obtain⟨qh,wY⟩:=aL
   split at aH
   ·rename_i k asY I asZ
    cases aH
    cases F:cs.drop i with
    |nil=>simp[F,Ds] at J
    |cons a x =>
     cases G:ds.drop i with
     |nil=>simp[F,G,Ds] at J
     |cons b y =>
      rw[F,G] at J;simp only[Ds] at J
      split at J
      ·rename_i ar c2 g7 Bv
       cases J
       have nV:i<D cs:=by
        rcases hO i (D cs) with h|h
        ·exact h
        ·rw[lM h] at F;cases F
       have oX:i<D ds:=by
        rcases hO i (D ds) with h|h
        ·exact h
        ·rw[lM h] at G;cases G
       rw[je nV] at F;rw[je oX] at G
       injection F with aZ as0
       injection G with ad as1
       subst aZ;subst ad;subst as0;subst as1
       have ex:xs[f.offset]?=some (xs[i]'(by omega)):=by rw[wY];exact Array.getElem?_eq_getElem (by omega)
       have zT:ys[f.offset]?=some (ys[i]'(by omega)):=by rw[wY];exact Array.getElem?_eq_getElem (by omega)
       have rx:=L i _ _ (bh nV) (Array.getElem?_eq_getElem (by omega:i<xs.size));have as2:=aj i _ _ (bh oX) (Array.getElem?_eq_getElem (by omega:i<ys.size));have he:=asW (P:=P) d I rx as2 g7;have aG:=ae2 (d:=d) L zS aj FN r (i+1) asY c2 asZ Bv;have as3:(isAgg f.type).run P w=.ok false w:=asX I;simp only[Op.eqFields,qh,ne_eq,not_false_eq_true,if_true,Sem.run_bind,part,as3,Result.andThen_ok,k1,if_false,ex,zT,Sem.run_pure,he]
       cases ar
       ·simp
       ·simp[aG]
      ·cases J
   ·cases aH
  ·cases aH
def ae3 {m:M}{v:Value}(h:bB w a4 B m v)(F:m.one=true):v.oneCell'=true:=by
 cases h with
 |H Z=>cases Z<;>first|rfl|simp[M.one] at F
 |nil=>rfl
 |ref he bb aN=>obtain⟨a,cap,rfl,_⟩:=aN;rfl
 |ptr he bb aN=>obtain⟨b,rfl,_⟩:=aN;rfl
 |gH aq Z=>rfl
 |agg aq Z=>simp[M.one] at F
 |dj aq Z=>simp[M.one] at F
 |no=>simp[M.one] at F
 |undef=>simp[M.one] at F
def as4 {v:Value}(h:∀c,v ≠ .agg c):v.cells=#[v]:=by
 unfold Value.cells
 split
 ·rename_i cs;exact absurd rfl (h cs)
 ·rfl
def as5 {m:M}{v:Value}(h:bB w a4 B m v)(hu:m ≠ .undef):v.cells.size=D m.cells/\∀(i:Nat) (c:M) (u:Value),m.cells[i]?=some c->v.cells[i]?=some u->bB w a4 B c u:=by
 have one:(∀c,v ≠ .agg c)->m.cells=[m]->v.cells.size=D m.cells/\∀(i:Nat) (c:M) (u:Value),m.cells[i]?=some c->v.cells[i]?=some u->bB w a4 B c u:=by
  intro aN hm;rw[hm,as4 aN];refine⟨rfl,λi c u J hu=>?_⟩
  cases i with
  |zero=>simp at J hu;subst J;subst hu;exact h
  |succ i=>simp at J
 cases h with
 |H Z =>
  cases Z with
  |agg aq Z =>
   refine⟨by simp[Value.cells,M.cells];exact aq,λi c u J hu=>?_⟩
   simp only[M.cells,bm,eL] at J;obtain⟨d,ou,rfl⟩:=J;exact .H (Z i d u ou (by simpa [Value.cells] using hu))
  |_=>exact one (by simp) rfl
 |nil=>exact one (by simp) rfl
 |ref he bb aN=>obtain⟨a,cap,rfl,_⟩:=aN;exact one (by simp) rfl
 |ptr he bb aN=>obtain⟨b,rfl,_⟩:=aN;exact one (by simp) rfl
 |gH aq Z=>exact one (by simp) rfl
 |agg aq Z =>
  refine⟨by simp[Value.cells,M.cells];exact aq,λi c u J hu=>Z i c u (by simpa [M.cells] using J) (by simpa [Value.cells] using hu)⟩
 |dj aq Z=>exact one (by simp) rfl
 |no=>exact one (by simp[undef]) rfl
 |undef=>exact absurd rfl hu
end
section
variable {P:Program} {w:World} {a4:Nat->Prop} {B:fu}
def dL (w:World)(a4:Nat->Prop)(B:fu)(cs:List M)(vs:List Value):Prop :=
 (D vs)=D cs/\∀(i:Nat) (m:M) (v:Value),cs[i]?=some m->vs[i]?=some v->bB w a4 B m v
def dL.get {cs:List M}{vs:List Value}(h:dL w a4 B cs vs){i:Nat}{m:M}(O:cs[i]?=some m):∃v,vs[i]?=some v/\bB w a4 B m v:=by
 have aq:i<D cs:=(dV.1 O).1;have aN:vs[i]?=some (vs[i]'(by rw[h.1];exact aq)):=bh _;exact⟨_,aN,h.2 i m _ O aN⟩
def dL.nil:dL w a4 B [] []:=⟨rfl,λi m v h=>by simp at h⟩
def dL.cons {m:M}{v:Value}{cs:List M}{vs:List Value}(h:bB w a4 B m v)(X:dL w a4 B cs vs):dL w a4 B (m::cs) (v::vs):=by
 refine⟨by simp[X.1],λi m' FO F G=>?_⟩
 cases i with
 |zero=>simp at F G;subst F;subst G;exact h
 |succ i=>exact X.2 i m' FO (by simpa using F) (by simpa using G)
def dL.append {a b:List M}{x y:List Value}(h:dL w a4 B a x)(cn:dL w a4 B b y):dL w a4 B (a++b) (x++y):=by
 refine⟨by simp[h.1,cn.1],λi m v F G=>?_⟩
 rw[IV] at F G
 split at F
 ·rename_i O;rw[Y (by rw[h.1];exact O)] at G;exact h.2 i m v F G
 ·rename_i O;rw[aa (by rw[h.1];exact O),h.1] at G;exact cn.2 _ m v F G
def dL.drop {a:List M}{x:List Value}(h:dL w a4 B a x)(n:Nat):dL w a4 B (a.drop n) (x.drop n) :=
 ⟨by simp[h.1],λi m v F G=>h.2 (n+i) m v (by simpa using F) (by simpa using G)⟩
def dL.take {a:List M}{x:List Value}(h:dL w a4 B a x)(n:Nat):dL w a4 B (a.take n) (x.take n):=by
 refine⟨by simp[h.1],λi m v F G=>?_⟩
 rw[Bw] at F G
 split at F
 ·rename_i O;rw[Y O] at G;exact h.2 i m v F G
 ·cases F
def dL.lo {a b:List M}{x y:List Value}(h:dL w a4 B a x)(cn:dL w a4 B b y)(off:Nat):
  dL w a4 B (lo a off b) (x.take off++y++x.drop (off+D y)):=by
 unfold Mini.lo;rw[cn.1];exact ((h.take off).append cn).append (h.drop _)
def dL.Xt {m:M}{v:Value}(h:bB w a4 B m v)(hu:m ≠ .undef):dL w a4 B m.cells v.cells.toList:=by
 obtain⟨F,G⟩:=as5 h hu;exact⟨by simpa using F,λi c u J aN=>G i c u J (by simpa using aN)⟩
def dL.H {ds:List Data}{vs:List Value}(aq:(D vs)=D ds)(h:∀(i:Nat) (d:Data) (v:Value),ds[i]?=some d->vs[i]?=some v->Den w a4 d v):dL w a4 B (ds.map .H) vs:=by
 refine⟨by simp[aq],λi m v F G=>?_⟩
 simp only[bm,eL] at F;obtain⟨d,Z,rfl⟩:=F;exact .H (h i d v Z G)
def IW {cs:List M}{off n:Nat}{r:List M}(h:cut cs off n=some r):off+n<=D cs/\r=(cs.drop off).take n/\D r=n:=by
 unfold cut at h
 split at h
 ·rename_i aq
  cases h;exact⟨aq,rfl,by simp;omega⟩
 ·cases h
def fj (w:World)(b off:Nat)(vs:List Value):Prop:=∀(j:Nat) (u:Value),vs[j]?=some u->w.cell? ⟨b,off+j,none⟩=some u
def fj.add {w:World}{b off:Nat}{vs:List Value}(h:fj w b off vs)(n:Nat):fj w b (off+n) (vs.drop n):=λj u ae=>by
 have:=h (n+j) u (by simpa using ae);rwa [<-vn] at this
def fj.take {w:World}{b off:Nat}{vs:List Value}(h:fj w b off vs)(n:Nat):fj w b off (vs.take n):=λj u ae=>by
 rw[Bw] at ae
 split at ae
 ·exact h j u ae
 ·cases ae
def fj.row {w:World}{b:Nat}{vs:Array Value}{T:TypeId}{aF:Nat×Nat}(h:w.heap[b]?=some (.cells vs T aF)):fj w b 0 vs.toList:=λj u ae=>by
 rw[q4,cell_of_row w b j vs T aF h]
 simpa using ae
def Bx (b off n:Nat):(⟨b,off,none⟩:Addr).add n=⟨b,off+n,none⟩:=by
 unfold Addr.add
 split<;>simp_all
def fj.load {b off:Nat}{vs:List Value}(h:fj w b off vs):(loadCells ⟨b,off,none⟩ (D vs)).run P w=.ok vs.toArray w :=
 run_loadCells_list w _ vs λj v ae=>by rw[Bx];exact h j v ae
def wZ {t:TypeId}{n:Nat}(h:gZ P t=some n):(sizeOf t).run P w=.ok n w:=by
 simp only[gZ,eL] at h;obtain⟨i,O,rfl⟩:=h;simp[sizeOf,typeInfo,O]
def RE {t:TypeId}{g:Bool}(h:Bq P t=some g):(isAgg t).run P w=.ok g w:=by
 simp only[Bq,eL] at h;obtain⟨d,Z,rfl⟩:=h;simp only[isAgg,Sem.run_bind,run_underlying Z,Result.andThen_ok]
 cases d<;>rfl
def ae4 {t:TypeId}{n:Nat}{eG:Bool}{b off:Nat}{ms:List M}{vs:List Value}{r:M}(R:gZ P t=some n)(aZ:Bq P t=some eG)(aq:(D ms)=n)
  (cm:dL w a4 B ms vs) (bH:fj w b off vs) (h:sW eG ms=some r):∃u,(loadVar t ⟨b,off,none⟩).run P w=.ok u w/\bB w a4 B r u:=by
 unfold sW at h
 split at h
 ·rename_i Bz
  cases h;subst Bz;refine⟨.agg vs.toArray,?_,.agg cm.1 cm.2⟩;have:=bH.load (P:=P);rw[cm.1,aq] at this;simp[loadVar,RE aZ,wZ R,this]
 ·rename_i Bz
  split at h
  ·cases h;obtain⟨u,hu,X⟩:=cm.get (i:=0) (m:=r) rfl;have:=bH 0 u hu;have Xu:eG=false:=by simpa using Bz
   subst Xu;exact⟨u,by simp[loadVar,RE aZ,this];simpa using by rw[show off=off+0 from rfl,this],X⟩
  ·cases h
end
section
variable {P:Program} {A:Nat->Prop} {w:World} {B:fu} {mem:Mem}
def fQ.at_ (h:fQ A w B mem){k:Key}{g:Nat}{cs:List M}(I:mem k=some (g,cs)):
  ∃e,B k=some e/\e.g=g/\(e.dU=none->cs=[])/\∀b,e.dU=some b->∃(vs:Array Value) (T:TypeId),w.heap[b]?=some (.cells vs T (0,0))/\vs.size=e.size/\D cs<=vs.size /\
   dL w (ct A B) B cs (vs.toList.take (D cs)):=by
 obtain⟨e,he,bb,aL,ad⟩:=h.dU k g cs I;refine⟨e,he,bb,aL,λb jQ=>?_⟩;obtain⟨vs,T,F,G,ab,aV⟩:=ad b jQ;refine⟨vs,T,F,G,ab,by simp;omega,λi m v hm aN=>?_⟩
 obtain⟨u,hu,X⟩:=aV i m hm;rw[Bw] at aN
 split at aN
 ·rw[Array.getElem?_toList,hu] at aN
  cases aN;exact X
 ·cases aN
def ae5 {n:Nat}{eG:Bool}{m r:M}{v:Value}(cf:fQ A w B mem)(aN:bB w (ct A B) B m v)(h:q3 mem n eG m=some r):
  ∃b off ms vs,v=.pointer (some ⟨b,off,none⟩)/\D ms=n/\dL w (ct A B) B ms vs/\fj w b off vs/\sW eG ms=some r:=by
 unfold q3 at h
 split at h
 ·rename_i k g off
  split at h
  ·rename_i dp cs I
   split at h
   ·rename_i bb;subst bb;simp only[eS] at h;obtain⟨ms,aM,X⟩:=h;obtain⟨aq,rfl,aL⟩:=IW aM;obtain⟨e,he,bW,FP,ad⟩:=cf.at_ I
    cases aN with
    |ptr g4 Xr pB =>
     rw[he] at g4
     cases g4;obtain⟨b,rfl,jQ⟩:=pB;have jQ:=jQ bW.symm;obtain⟨vs,T,a1,a2,hle,cm⟩:=ad b jQ;refine⟨b,off,_,((vs.toList.take (D cs)).drop off).take n,rfl,aL,(cm.drop off).take n,?_,X⟩;have:=(((fj.row a1).take (D cs)).add off).take n
     simpa using this
   ·cases h
  ·cases h
 ·rename_i ds;simp only[eS] at h;obtain⟨ms,aM,X⟩:=h;obtain⟨aq,rfl,aL⟩:=IW aM
  cases aN with
  |H Z =>
   cases Z with
   | @ptr cs b off val ad fZ J Z =>
    refine⟨b,off,_,((eM (D ds)).map val).take n,rfl,aL,?_,?_,X⟩
    ·have:dL w (ct A B) B (ds.map .H) ((eM (D ds)).map val):=dL.H (by simp) λi d v F G=>by
      have O:i<D ds:=(dV.1 F).1;simp[O] at G;subst G;exact Z i d F
     simpa using this.take n
    ·refine fj.take (λj u ae=>?_) n;simp only[bm,eL] at ae;obtain⟨mW,q5,rfl⟩:=ae
     have F:mW=j/\j<D ds:=by
      rcases hO j (D ds) with h|h
      ·rw[vo h] at q5;exact⟨by simpa using q5.symm,h⟩
      ·rw[jZ (by simpa using h)] at q5
       cases q5
     obtain⟨rfl,mb⟩:=F;exact J mW mb
 ·cases h
def as6 {t:TypeId}{n:Nat}{eG:Bool}{m r:M}{v:Value}(R:gZ P t=some n)(aZ:Bq P t=some eG)(cf:fQ A w B mem)(aN:bB w (ct A B) B m v)(h:q3 mem n eG m=some r):
  ∃u,(Instr.loadAt t v).run P w=.ok u w/\bB w (ct A B) B r u:=by
 obtain⟨b,off,ms,vs,rfl,aq,cm,bH,X⟩:=ae5 cf aN h;obtain⟨u,F,G⟩:=ae4 (P:=P) R aZ aq cm bH X;exact⟨u,by simpa [Instr.loadAt,Instr.sureAddr] using F,G⟩
end
section
variable {P:Program} {w:World} {a4:Nat->Prop} {B:fu}
def ae6 {m:M}{cs:List M}{v:Value}(h:Mf m=some cs)(aN:bB w a4 B m v):∃vs:List Value,v=.agg vs.toArray/\dL w a4 B cs vs:=by
 unfold Mf at h
 split at h
 ·cases h
  cases aN with
  |agg aq Z=>exact⟨_,rfl,aq,Z⟩
 ·cases h
  cases aN with
  |H Z =>
   cases Z with
   |agg aq Z=>exact⟨_,rfl,dL.H aq Z⟩
 ·cases h
def ae7 {neg:Bool}{hz:List Nat}{m n r:M}{u v:Value}(t:TypeId)(x y:Operand)(eo:Array Field)(hu:P.underlying t=some (.struct eo))(R:P.stoodInHeld t=false)
  (bb:P.eqGuardType P.depth t=false) (I:IJ P 0 eo.toList=some hz) (hm:bB w a4 B m u) (aL:bB w a4 B n v) (h:Mg neg hz m n=some r) :
  ∃z,((do eqGuard (if neg then .neq else .eql) t x y u v;binOp (if neg then .neq else .eql) t u v:Sem Value)).run P w=.ok z w/\bB w a4 B r z:=by
 unfold Mg at h
 split at h
 ·rename_i cs ds jD hP
  split at h
  ·rename_i c J
   cases h;obtain⟨xs,rfl,L⟩:=ae6 jD hm;obtain⟨ys,rfl,aj⟩:=ae6 hP aL;have mc:P.fieldsOf t=eo:=by simp[Program.fieldsOf,hu]
   have he:=run_equalIn_struct (P:=P) w 9999 t xs.toArray ys.toArray (by rw[mc];exact hu) R;rw[mc] at he
   have aH:=ae2 (P:=P) (w:=w) (a4:=a4) (B:=B) (d:=9998) (xs:=xs.toArray) (ys:=ys.toArray) (cs:=cs) (ds:=ds)
    (λi m v F G=>L.2 i m v F (by simpa using G)) (by simpa using L.1) (λi m v F G=>aj.2 i m v F (by simpa using G)) (by simpa using aj.1) eo.toList 0 hz c I (by simpa using J)
   have heq:(Op.equal t (.agg xs.toArray) (.agg ys.toArray)).run P w=.ok c w:=by
    show (Op.equalIn (9999+1) t _ _).run P w=_;rw[he];exact aH
   have BA:∀op,(op=BinOp.eql\/op=.neq)->(eqGuard op t x y (.agg xs.toArray) (.agg ys.toArray)).run P w=.ok () w:=by
    intro op nW;rcases nW with rfl|rfl<;>simp[eqGuard,bb]
   refine⟨.bool (neg != c),?_,.H .bool⟩
   cases neg
   ·simp only[k1,if_false,Sem.run_bind,BA _ (.inl rfl),Result.andThen_ok];show (do pure (Value.bool (<-Op.equal t (.agg xs.toArray) (.agg ys.toArray))):Sem Value).run P w=_
    simp[heq]
   ·simp only[if_true,Sem.run_bind,BA _ (.inr rfl),Result.andThen_ok];show (do pure (Value.bool (!(<-Op.equal t (.agg xs.toArray) (.agg ys.toArray)))):Sem Value).run P w=_
    simp[heq]
  ·cases h
 ·cases h
def as7 {c a b r:M}{ME w0 uh:Value}(J:bB w a4 B c ME)(aZ:bB w a4 B a w0)(ad:bB w a4 B b uh)(h:IB c a b=some r):
  ∃z,(do pure (if <-asBool ME then w0 else uh):Sem Value).run P w=.ok z w/\bB w a4 B r z:=by
 unfold IB at h
 split at h
 ·rename_i t
  cases J.FL
  cases t
  ·cases h;exact⟨uh,by simp[asBool],ad⟩
  ·cases h;exact⟨w0,by simp[asBool],aZ⟩
 ·cases h
def as8 {op:UnOp}{m r:M}{v:Value}(hm:bB w a4 B m v)(h:Md op m=some r):∃z,(Op.unary op v).run P w=.ok z w/\bB w a4 B r z:=by
 unfold Md at h
 split at h
 ·cases h;cases hm.zR;exact⟨_,by simp[Op.unary,Op.intArith],.H .int⟩
 ·cases h;cases hm.zR;exact⟨_,by simp[Op.unary,go_sem],.H .int⟩
 ·cases h;cases hm.FL;exact⟨_,by simp[Op.unary],.H .bool⟩
 ·cases h
def as9 {k:IntKind}{m r:M}{v:Value}(s t:TypeId)(hz:IntKind)(R:P.underlying s=some (.int hz))(b0:P.underlying t=some (.int k))(hm:bB w a4 B m v)(h:Mh k m=some r):
  ∃z,(convert s t v).run P w=.ok z w/\bB w a4 B r z:=by
 unfold Mh at h
 split at h
 ·cases h
  cases hm.zR;have O:P.intKind t=k:=by simp[Program.intKind,b0]
  have:=run_convert_int (P:=P) w s t;exact⟨.int k _,by simp[convert,run_underlying R,run_underlying b0,Conv.intToInt],.H .int⟩
 ·cases h
def ata {off:Nat}{m r:M}{v:Value}(t:TypeId)(f:Nat)(eo:Array Field)(fd:Field)(s:Nat)(hu:P.underlying t=some (.struct eo))(aH:eo[f]?=some fd)(R:gZ P fd.type=some s)(ay:0<s)
  (bw:fd.offset=off) (hm:bB w a4 B m v) (h:Mj off m=some r):∃z,(Instr.fieldAt t v f).run P w=.ok z w/\bB w a4 B r z:=by
 have b8:¬ s=0:=by omega
 have run:∀b o,(Instr.fieldAt t (.pointer (some ⟨b,o,none⟩)) f).run P w=.ok (.pointer (some ⟨b,o+off,none⟩)) w:=by
  intro b o;simp[Instr.fieldAt,run_underlying hu,aH,Instr.sureAddr,fieldPlace,wZ R,b8,Bx,bw]
 unfold Mj at h
 split at h
 ·cases h;rename_i k g o
  cases hm with
  |ptr he bb aN =>
   obtain⟨b,rfl,ad⟩:=aN;exact⟨_,run b o,.ptr he bb ⟨b,rfl,ad⟩⟩
 ·rename_i ds
  split at h
  ·rename_i aq
   cases h
   cases hm with
   |H Z =>
    cases Z with
    | @ptr cs b o val ad fZ J Z =>
     refine⟨_,run b o,.H (.ptr (λi=>val (off+i)) ad fZ (λi O=>?_) λi d iw=>Z _ d (by simpa using iw))⟩;have:=J (off+i) (by simp at O;omega);rwa [<-vn] at this
  ·cases h
 ·cases h
def atb {t:TypeId}{n off:Nat}{eG:Bool}{cs ms:List M}{vs:List Value}{r:M}(R:gZ P t=some n)(aZ:Bq P t=some eG)(cm:dL w a4 B cs vs)(J:cut cs off n=some ms)(h:sW eG ms=some r):
  ∃u,(part t vs.toArray off).run P w=.ok u w/\bB w a4 B r u:=by
 obtain⟨aq,rfl,aL⟩:=IW J;have bf:=(cm.drop off).take n;unfold sW at h
 split at h
 ·rename_i Bz
  cases h;subst Bz;refine⟨.agg ((vs.drop off).take n).toArray,?_,.agg bf.1 bf.2⟩
  have e:vs.toArray.extract off (off+n)=((vs.drop off).take n).toArray:=by
   simp[List.extract_eq_take_drop]
  simp[part,RE aZ,wZ R,e]
 ·rename_i Bz;have Xu:eG=false:=by simpa using Bz
  subst Xu
  split at h
  ·rename_i m aM
   cases h
   have O:cs[off]?=some r:=by
    have:=congrArg (λl=>l[0]?) aM;simp[Bw] at this;exact this.2
   obtain⟨u,hu,atc⟩:=cm.get O;exact⟨u,by simp[part,RE aZ,hu],atc⟩
  ·cases h
def atd {off n:Nat}{eG:Bool}{m r:M}{v:Value}(t:TypeId)(f:Nat)(eo:Array Field)(fd:Field)(hu:P.underlying t=some (.struct eo))(aH:eo[f]?=some fd)(R:gZ P fd.type=some n)
  (aZ:Bq P fd.type=some eG) (bw:fd.offset=off) (hm:bB w a4 B m v) (h:Mk off n eG m=some r):∃z,(Instr.field t v f).run P w=.ok z w/\bB w a4 B r z:=by
 subst bw
 have go:∀(cs:List M) (vs:List Value),dL w a4 B cs vs->(cut cs fd.offset n).bind (sW eG)=some r->∃z,(Instr.field t (.agg vs.toArray) f).run P w=.ok z w/\bB w a4 B r z:=by
  intro cs vs cm a1;simp only[eS] at a1;obtain⟨ms,F,G⟩:=a1;obtain⟨u,ab,aV⟩:=atb (P:=P) R aZ cm F G;exact⟨u,by simp[Instr.field,run_underlying hu,aH,asAgg,ab],aV⟩
 unfold Mk at h
 split at h
 ·cases hm with
  |agg aq Z=>exact go _ _ ⟨aq,Z⟩ h
 ·cases hm with
  |H Z =>
   cases Z with
   |agg aq Z=>exact go _ _ (dL.H aq Z) h
 ·cases h
def IX {m:M}{n:Nat}{v:Value}(h:idx m=some n)(aN:bB w a4 B m v):∃k,v=.int k (n:Int):=by
 unfold idx at h
 split at h
 ·rename_i k i
  split at h
  ·rename_i ay
   cases h
   cases aN.zR;exact⟨k,by rw[Int.toNat_of_nonneg ay]⟩
  ·cases h
 ·cases h
def Iz.at_ {e:nm}{g sz off len:Nat}{v:Value}(h:Iz e g sz off len v)(ay:0<len):∃b cap,v=.slice (some ⟨b,off,none⟩) len cap/\len<=cap/\cap<=maxLen/\(g=e.g->e.dU=some b/\off+cap*sz<=e.size):=by
 obtain⟨a,cap,rfl,G,ab,aV⟩:=h;rcases aV with aV|⟨b,rfl,bu⟩
 ·omega
 ·exact⟨b,cap,rfl,G,ab,bu⟩
def ate {es:List (List Data)}{sz:Nat}(fw:∀e∈es,D e=sz):∀(n i:Nat) (e:List Data),es[n]?=some e->i<sz->es.flatten[n*sz+i]?=e[i]?:=by
 induction es with
 |nil=>intro n i e h;simp at h
 |cons a r aG =>
  intro n i e h O;have aZ:=fw a (by simp)
  cases n with
  |zero =>
   simp at h;subst h;rw[l8,qi (by omega)];simp
  |succ n =>
   rw[l8,ov (by rw[aZ,vp];omega)];have:=aG (λx L=>fw x (by simp[L])) n i e (by simpa using h) O;rw[<-this,aZ]
   congr 1
   rw[vp];omega
def atf {sz n:Nat}{m r:M}{v:Value}{k:IntKind}(t e:TypeId)(hu:P.underlying t=some (.slice e))(R:gZ P e=some sz)(hm:bB w a4 B m v)(h:yi sz n m=some r):
  ∃z,(Instr.indexAt t v (.int k (n:Int))).run P w=.ok z w/\bB w a4 B r z:=by
 have run:∀b off len cap,n<len->(Instr.indexAt t (.slice (some ⟨b,off,none⟩) len cap) (.int k (n:Int))).run P w=.ok (.pointer (some ⟨b,off+n*sz,none⟩)) w:=by
  intro b off len cap ah;simp[Instr.indexAt,run_underlying hu,asIntOf,ah,wZ R,Bx]
 unfold yi at h
 split at h
 ·split at h
  ·rename_i aq;obtain⟨ah,rfl⟩:=aq
   cases h
   cases hm with
   |ref he bb aN =>
    obtain⟨b,cap,rfl,F,G,ab⟩:=aN.at_ (by omega);exact⟨_,run _ _ _ _ ah,.ptr he bb ⟨b,rfl,λh=>(ab h).1⟩⟩
  ·cases h
 ·rename_i es
  split at h
  ·rename_i el md
   split at h
   ·rename_i hle
    cases h
    cases hm with
    |H Z =>
     have ah:n<D es:=(dV.1 md).1
     cases Z with
     |mV=>simp at ah
     | @ax es b off c eX val aq ae8 ad fZ fw J Z =>
      have MF:eX=sz:=by rw[<-hle];exact (fw _ (dy md)).symm
      subst MF
      have hmul:n*eX+eX<=D es*eX:=by
       have:(n+1)*eX<=D es*eX:=ui _ ah;rwa [rW,L8] at this
      refine⟨_,run _ _ _ _ ah,.H (.ptr (λi=>val (n*eX+i)) ad fZ (λi O=>?_) λi d iw=>?_)⟩
      ·have:=J (n*eX+i) (by omega);rwa [<-vn] at this
      ·refine Z _ d ?_;rw[ate fw n i el md (by have:=(dV.1 iw).1;omega)];exact iw
   ·cases h
  ·cases h
 ·cases h
def atg {len sz n:Nat}{m r:M}{v:Value}{k:IntKind}(t e:TypeId)(hu:P.underlying t=some (.array len e))(R:gZ P e=some sz)(hm:bB w a4 B m v)(h:Ml len sz n m=some r):
  ∃z,(Instr.indexAt t v (.int k (n:Int))).run P w=.ok z w/\bB w a4 B r z:=by
 have run:∀b off,n<len->(Instr.indexAt t (.pointer (some ⟨b,off,none⟩)) (.int k (n:Int))).run P w=.ok (.pointer (some ⟨b,off+n*sz,none⟩)) w:=by
  intro b off ah;simp[Instr.indexAt,run_underlying hu,asIntOf,Instr.sureAddr,ah,wZ R,Bx]
 unfold Ml at h
 split at h
 ·split at h
  ·rename_i ah
   cases h
   cases hm with
   |ptr he bb aN =>
    obtain⟨b,rfl,ad⟩:=aN;exact⟨_,run _ _ ah,.ptr he bb ⟨b,rfl,ad⟩⟩
  ·cases h
 ·rename_i ds
  split at h
  ·rename_i aq;obtain⟨ah,hle⟩:=aq
   cases h
   cases hm with
   |H Z =>
    cases Z with
    | @ptr cs b o val ad fZ J Z =>
     refine⟨_,run _ _ ah,.H (.ptr (λi=>val (n*sz+i)) ad fZ (λi O=>?_) λi d iw=>Z _ d (by simpa using iw))⟩;have:=J (n*sz+i) (by simp at O;omega);rwa [<-vn] at this
  ·cases h
 ·cases h
def ath {n:Nat}{m r:M}{v:Value}{k:IntKind}(t:TypeId)(hu:P.underlying t=some .string)(hm:bB w a4 B m v)(h:Mm n m=some r):
  ∃z,(Instr.index t v (.int k (n:Int))).run P w=.ok z w/\bB w a4 B r z:=by
 unfold Mm at h
 split at h
 ·rename_i s;simp only[eL] at h;obtain⟨b,ad,rfl⟩:=h
  cases hm.FM;have ah:n<D s:=(dV.1 ad).1
  have e:(ByteArray.mk s.toArray)[n]?=some b:=by
   rw[ByteArray.getElem?_lt' _ _ (by simpa [ByteArray.size] using ah)];have:=(dV.1 ad).2;simp only[cF];rw[<-this]
   rfl
  exact⟨.int .u8 b.toNat,by simp[Instr.index,run_underlying hu,asIntOf,e],.H .int⟩
 ·cases h
def ati {i:Nat}{m r:M}{v:Value}(hm:bB w a4 B m v)(h:Mq i m=some r):∃z,(Instr.extract v i).run P w=.ok z w/\bB w a4 B r z:=by
 unfold Mq at h
 split at h
 ·cases hm with
  |dj aq Z =>
   obtain⟨u,hu,X⟩:=dL.get ⟨aq,Z⟩ h;exact⟨u,by simp[Instr.extract,hu],X⟩
 ·simp only[eL] at h;obtain⟨d,ou,rfl⟩:=h
  cases hm with
  |H Z =>
   cases Z with
   |dj aq Z =>
    obtain⟨u,hu,X⟩:=dL.get (dL.H aq Z) (i:=i) (m:=.H d) (by simp[ou]);exact⟨u,by simp[Instr.extract,hu],X⟩
 ·cases h
def atj {m:M}{n:Nat}{v:Value}(t ty e:TypeId)(b0:P.underlying t=some (.slice e))(hm:bB w a4 B m v)(h:qf m=some n):
  (Builtin.len_ #[t] ty #[v]).run P w=.ok (.int .i64 n) w:=by
 have run:∀a c,(Builtin.len_ #[t] ty #[.slice a n c]).run P w=.ok (.int .i64 n) w:=λa c=>by
  simp[Builtin.len_,run_underlying b0,goInt]
 unfold qf at h
 split at h<;>cases h
 ·cases hm with
  |H Z =>
   cases Z with
   |mV=>exact run _ _
   |ax=>exact run _ _
 ·cases hm with
  |nil=>exact run _ _
 ·cases hm with
  |ref he bb aN=>obtain⟨a,cap,rfl,_⟩:=aN;exact run _ _
def atk {m:M}{n:Nat}{v:Value}(t ty:TypeId)(b0:P.underlying t=some .string)(hm:bB w a4 B m v)(h:Bn m=some n):
  (Builtin.len_ #[t] ty #[v]).run P w=.ok (.int .i64 n) w:=by
 unfold Bn at h
 split at h<;>cases h
 rename_i s
 cases hm.FM;have e:(ByteArray.mk s.toArray).size=D s:=by simp[ByteArray.size]
 simp[Builtin.len_,run_underlying b0,goInt,e]
def ae9 {ln:Bool}{m n r:M}{u v:Value}(vq:Array TypeId)(t:TypeId)(hm:bB w a4 B m u)(aL:bB w a4 B n v)(h:Mr ln m n=some r):
  ∃z,(if ln=true then Builtin.max_ vq t #[u,v] else Builtin.min_ vq t #[u,v]).run P w=.ok z w/\bB w a4 B r z:=by
 unfold Mr at h
 split at h
 ·split at h
  ·rename_i I;subst I
   cases h
   cases hm.zR
   cases aL.zR
   cases ln
   ·exact⟨_,by simp[run_min_int2],.H .int⟩
   ·exact⟨_,by simp[run_max_int2],.H .int⟩
  ·cases h
 ·cases h
def atl {m r:M}{v:Value}(hm:bB w a4 B m v)(h:Mi m=some r):(∃b off,v=.pointer (some ⟨b,off,none⟩))/\bB w a4 B r v:=by
 unfold Mi at h
 split at h
 ·cases h;refine⟨?_,hm⟩
  cases hm with
  |ptr he bb aN=>obtain⟨b,rfl,_⟩:=aN;exact⟨_,_,rfl⟩
 ·cases h;refine⟨?_,hm⟩
  cases hm with
  |H Z=>cases Z;exact⟨_,_,rfl⟩
 ·cases h
def IY {x:M}{n y:Nat}{v:Value}(code:BoundsCode)(L:idx x=some n)(aN:bB w a4 B x v)(aL:n<=y):(Instr.sliceBound v y code).run P w=.ok n w:=by
 obtain⟨k,rfl⟩:=IX L aN
 simpa using run_sliceBound (P:=P) w k (n:Int) y code (by omega) (by omega)
def s4 (w:World)(a4:Nat->Prop)(B:fu):Option M->Option Value->Prop
 |none,none=>True
 |some m,some v=>bB w a4 B m v
 |_,_=>False
def Xv {len cap l h:Nat}{b6 O:Option M}{me mg:Option Value}(Xw:Bool)(fK:kY 0 b6=some l)(kr:kY len O=some h)
  (nX:s4 w a4 B b6 me) (mX:s4 w a4 B O mg) (aq:l<=h) (a1:h<=cap):(Instr.sliceBounds Xw len cap me mg none).run P w=.ok (l,h,cap) w:=by
 unfold Instr.sliceBounds
 cases b6 with
 |none =>
  cases me with
  |some v=>exact nX.elim
  |none =>
   simp[kY] at fK;subst fK
   cases O with
   |none =>
    cases mg with
    |some v=>exact mX.elim
    |none=>simp[kY] at kr;subst kr;simp
   |some m =>
    cases mg with
    |none=>exact mX.elim
    |some v =>
     have aC:=λcode=>IY (P:=P) (y:=cap) code kr mX a1
     cases Xw<;>simp[aC]
 |some FQ =>
  cases me with
  |none=>exact nX.elim
  |some bo =>
   have au:=λcode=>IY (P:=P) (y:=h) code fK nX aq
   cases O with
   |none =>
    cases mg with
    |some v=>exact mX.elim
    |none=>simp[kY] at kr;subst kr;simp[au]
   |some m =>
    cases mg with
    |none=>exact mX.elim
    |some v =>
     have aC:=λcode=>IY (P:=P) (y:=cap) code kr mX a1
     cases Xw<;>simp[au,aC]
def atm {len cap l h m:Nat}{b6:Option M}{O ln:M}{me:Option Value}{mg BB:Value}(fK:kY 0 b6=some l)(kr:idx O=some h)(js:idx ln=some m)
  (nX:s4 w a4 B b6 me) (mX:bB w a4 B O mg) (IZ:bB w a4 B ln BB) (aq:l<=h) (a1:h<=m) (hm:m<=cap):(Instr.sliceBounds true len cap me (some mg) (some BB)).run P w=.ok (l,h,m) w:=by
 have bx:=IY (P:=P) (y:=cap) .slice3Acap js IZ hm;have aC:=IY (P:=P) (y:=m) .slice3B kr mX a1;unfold Instr.sliceBounds
 cases b6 with
 |none =>
  cases me with
  |some v=>exact nX.elim
  |none =>
   simp[kY] at fK;subst fK;simp[bx,aC]
 |some FQ =>
  cases me with
  |none=>exact nX.elim
  |some bo =>
   have au:=IY (P:=P) (y:=h) .slice3C fK nX aq;simp[bx,aC,au]
def RF {m:M}{n:Nat}{v:Value}(hm:bB w a4 B m v)(h:qf m=some n):∃a c,v=.slice a n c/\n<=c:=by
 unfold qf at h
 split at h<;>cases h
 ·cases hm with
  |H Z =>
   cases Z with
   |mV=>exact⟨_,_,rfl,by simp⟩
   |ax val aq=>exact⟨_,_,rfl,aq⟩
 ·cases hm with
  |nil=>exact⟨_,_,rfl,by simp⟩
 ·cases hm with
  |ref he bb aN=>obtain⟨a,cap,rfl,F,_⟩:=aN;exact⟨_,_,rfl,F⟩
def afa {t e:TypeId}{sz l h jX:Nat}{a:Option Addr}{len cap:Nat}{me mg BB:Option Value}(b0:P.underlying t=some (.slice e))(R:gZ P e=some sz)
  (ad:(Instr.sliceBounds true len cap me mg BB).run P w=.ok (l,h,jX) w) :
  (Instr.sliceAt t (.slice a len cap) me mg BB).run P w=.ok (.slice (if jX=l then a else a.map (·.add (l*sz))) (h-l) (jX-l)) w:=by
 simp[Instr.sliceAt,Instr.slice,run_underlying b0,ad,wZ R]
def atn {es:List (List Data)}{sz:Nat}(fw:∀e∈es,D e=sz)(l:Nat):(es.drop l).flatten=es.flatten.drop (l*sz):=by
 induction es generalizing l with
 |nil=>simp
 |cons a r aG =>
  cases l with
  |zero=>simp
  |succ l =>
   have aZ:=fw a (by simp);rw[yn,aG (λx L=>fw x (by simp[L])) l,l8,List.drop_append,aZ];have F:a.drop ((l+1)*sz)=[]:=lM (by rw[aZ,vp];omega);rw[F,jE]
   congr 1
   rw[vp];omega
def ato {es:List (List Data)}{sz:Nat}(fw:∀e∈es,D e=sz)(l:Nat):(es.take l).flatten=es.flatten.take (l*sz):=by
 induction es generalizing l with
 |nil=>simp
 |cons a r aG =>
  cases l with
  |zero=>simp
  |succ l =>
   have aZ:=fw a (by simp);rw[Dx,l8,aG (λx L=>fw x (by simp[L])) l,l8,afb,aZ];have F:a.take ((l+1)*sz)=a:=dD (by rw[aZ,vp];omega);rw[F]
   congr 2
   rw[vp];omega
def afc {es:List (List Data)}{a:Option Addr}{len c sz l h cc:Nat}(Z:Den w a4 (.ax es) (.slice a len c))(aq:l<=h)(a1:h<=D es)(fw:0<(D es)->∀e∈es,D e=sz)(J:h-l<=cc):
  l=h\/Den w a4 (.ax ((es.take h).drop l)) (.slice (a.map (·.add (l*sz))) (h-l) cc):=by
 rcases RG aq with rfl|ah
 ·exact .inl rfl
 ·refine .inr ?_
  cases Z with
  |mV=>simp at a1;omega
  | @ax es b off c eX val IU hm ad fZ hsz' nY Dy =>
   have jt:0<D es:=by omega
   have MF:eX=sz:=by
    have ay:=mh (l:=es) (n:=0) jt;rw[<-hsz' _ ay,fw jt _ ay]
   subst MF;have hlen:((es.take h).drop l).length=h-l:=by simp;omega
   have hmul:l*eX+(h-l)*eX<=D es*eX:=by
    rw[<-rW];exact ui _ (by omega)
   have:=Den.ax (w:=w) (a4:=a4) (es:=(es.take h).drop l) (b:=b) (off:=off+l*eX) (c:=cc) (sz:=eX) (λi=>val (l*eX+i)) (by rw[hlen];exact J) (by rw[hlen];omega) ad fZ
    (λe he=>hsz' e (yo (List.mem_of_mem_drop he)))
    (λi O=>by
     rw[hlen] at O;have:=nY (l*eX+i) (by omega);rwa [<-vn] at this)
    (λi d iw=>by
     refine Dy _ d ?_;rw[atn (λe he=>hsz' e (yo he)) l,ato hsz' h] at iw;rw[q6,Bw] at iw
     split at iw
     ·exact iw
     ·cases iw)
   rw[hlen] at this
   simpa [Bx] using this
end
section
variable {P:Program} {w:World} {a4:Nat->Prop} {B:fu}
def Xx {sz:Nat}{es:List (List Data)}(h:Bo sz es=true):∀e∈es,D e=sz:=λe he=>by
 simpa using nt.1 h e he
def atp {t e:TypeId}{sz l h len:Nat}{m r:M}{v:Value}{me mg:Option Value}{b6 O:Option M}(b0:P.underlying t=some (.slice e))(R:gZ P e=some sz)
  (fK:kY 0 b6=some l) (hlen:qf m=some len) (kr:kY len O=some h) (nX:s4 w a4 B b6 me) (mX:s4 w a4 B O mg) (hm:bB w a4 B m v) (X:Mn sz l h m=some r) :
  ∃z,(Instr.sliceAt t v me mg none).run P w=.ok z w/\bB w a4 B r z:=by
 obtain⟨a,cap,rfl,I0⟩:=RF hm hlen
 have run:l<=h->h<=len->(Instr.sliceAt t (.slice a len cap) me mg none).run P w=.ok (.slice (if cap=l then a else a.map (·.add (l*sz))) (h-l) (cap-l)) w:=λF G =>
  afa b0 R (Xv true fK kr nX mX F (by omega))
 unfold Mn at X
 split at X
 ·rename_i es
  split at X
  ·rename_i J;obtain⟨F,G,ab⟩:=J
   cases X;simp only[qf,cF] at hlen;subst hlen;refine⟨_,run F G,.H ?_⟩
   cases hm with
   |H Z =>
    rcases afc (sz:=sz) Z F G (λ_=>Xx ab) (cc:=cap-l) (by omega) with rfl|aE
    ·rw[show ((es.take l).drop l)=[] from by simp]
     rw[j0];exact .mV
    ·rcases RG F with rfl|ah
     ·rw[show ((es.take l).drop l)=[] from by simp]
      rw[j0];exact .mV
     ·rw[aa (by omega)];exact aE
  ·cases X
 ·split at X
  ·rename_i J;obtain⟨rfl,rfl⟩:=J
   cases X
   cases hm with
   |nil=>exact⟨_,run (by omega) (by omega),by simpa using bB.nil⟩
  ·cases X
 ·split at X
  ·rename_i k g eX off Xy J;obtain⟨rfl,F,G⟩:=J
   cases X;simp only[qf,cF] at hlen;subst hlen
   cases hm with
   |ref he bb aN =>
    refine⟨_,run F G,.ref he bb ?_⟩;obtain⟨lN,aKX,uj,uk,aKY,atq⟩:=aN
    injection uj with au aC bN
    subst au;subst bN
    refine⟨_,cap-l,rfl,by omega,by omega,?_⟩
    rcases kO (cap-l) with ay|ay
    ·exact .inl ay
    ·refine .inr ?_;rcases atq with aV|⟨b,rfl,bu⟩
     ·omega
     ·refine⟨b,by rw[aa (by omega)];simp[Bx],λbW=>?_⟩
      obtain⟨bX,b9⟩:=bu bW;refine⟨bX,?_⟩;rw[vn,<-rW];rwa [show l+(cap-l)=cap from by omega]
  ·cases X
 ·cases X
def atr {t e:TypeId}{sz l h jX:Nat}{m r:M}{v:Value}{me:Option Value}{mg BB:Value}{b6:Option M}{O ln:M}(b0:P.underlying t=some (.slice e))(R:gZ P e=some sz)
  (fK:kY 0 b6=some l) (kr:idx O=some h) (js:idx ln=some jX) (nX:s4 w a4 B b6 me) (mX:bB w a4 B O mg) (IZ:bB w a4 B ln BB) (hm:bB w a4 B m v) (X:Mo sz l h jX m=some r) :
  ∃z,(Instr.sliceAt t v me (some mg) (some BB)).run P w=.ok z w/\bB w a4 B r z:=by
 have run:∀a len cap,l<=h->h<=jX->jX<=len->len<=cap->(Instr.sliceAt t (.slice a len cap) me (some mg) (some BB)).run P w=.ok (.slice (if jX=l then a else a.map (·.add (l*sz))) (h-l) (jX-l)) w :=
  λa len cap F G ab aV=>afa b0 R (atm fK kr js nX mX IZ F G (by omega))
 unfold Mo at X
 split at X
 ·rename_i es
  split at X
  ·rename_i J;obtain⟨F,G,ab,aV⟩:=J;obtain⟨a,cap,rfl,I0⟩:=RF hm (n:=D es) rfl;refine⟨_,run a _ cap F G ab I0,?_⟩
   split at X
   ·rename_i pC
    cases X;subst pC;have:h=jX:=by omega
    subst this
    simpa using bB.nil
   ·rename_i pC
    cases X;rw[aa pC]
    cases hm with
    |H Z =>
     refine .H ?_;rcases RG F with rfl|ah
     ·rw[show ((es.take l).drop l)=[] from by simp]
      rw[j0];exact .mV
     ·rcases afc (sz:=sz) Z F (by omega) (λ_=>Xx aV) (cc:=jX-l) (by omega) with ay|aE
      ·omega
      ·exact aE
  ·cases X
 ·split at X
  ·rename_i J;obtain⟨rfl,rfl,rfl⟩:=J
   cases X;obtain⟨a,cap,rfl,I0⟩:=RF hm (n:=0) rfl;exact⟨_,run a _ cap (by omega) (by omega) (by omega) I0,by simpa using bB.nil⟩
  ·cases X
 ·rename_i k g eX off len
  split at X
  ·rename_i J;obtain⟨F,G,ab,rfl⟩:=J
   cases X;obtain⟨a,cap,rfl,I0⟩:=RF hm (n:=len) rfl;have:h=jX:=by omega
   subst this;exact⟨_,run a _ cap (by omega) (by omega) (by omega) I0,by simpa using bB.nil⟩
  ·cases X
 ·cases X
def ats {t:TypeId}{l h len:Nat}{m r:M}{v:Value}{me mg:Option Value}{b6 O:Option M}(b0:P.underlying t=some .string)
  (fK:kY 0 b6=some l) (hlen:Bn m=some len) (kr:kY len O=some h) (nX:s4 w a4 B b6 me) (mX:s4 w a4 B O mg) (hm:bB w a4 B m v) (X:Mp l h m=some r) :
  ∃z,(Instr.sliceAt t v me mg none).run P w=.ok z w/\bB w a4 B r z:=by
 unfold Mp at X
 split at X
 ·rename_i s
  split at X
  ·rename_i J;obtain⟨F,G⟩:=J
   cases X;simp only[Bn,cF] at hlen;subst hlen
   cases hm.FM;have e:(ByteArray.mk s.toArray).size=D s:=by simp[ByteArray.size]
   have ad:=Xv (P:=P) (w:=w) (a4:=a4) (B:=B) (cap:=D s) false fK kr nX mX F G
   have L:(ByteArray.mk s.toArray).extract l h=⟨((s.take h).drop l).toArray⟩:=by
    rw[ByteArray.extract_mk,afd]
   exact⟨.string ⟨((s.take h).drop l).toArray⟩,by simp[Instr.sliceAt,Instr.slice,run_underlying b0,e,ad,L],.H .str⟩
  ·cases X
 ·cases X
def afe (off:Nat):∀(l:List Value) (k:Nat) (cs:Array Value),off+k+D l<=cs.size ->
  (l.zipIdx k).foldl (λ(cs:Array Value) (p:Value×Nat)=>cs.setIfInBounds (off+p.2) p.1) cs=(cs.toList.take (off+k)++l++cs.toList.drop (off+k+D l)).toArray
 | [],k,cs,_=>by simp
 |a::l,k,cs,h=>by
  rw[List.zipIdx_cons,aff];have cn:off+k<cs.size:=by simp at h;omega
  rw[afe off l (k+1) (cs.setIfInBounds (off+k) a) (by simp at h ⊢;omega)];apply Array.ext';simp only[Array.toList_setIfInBounds];have:=list_seg_step cs.toList (off+k) a l (by simp at h ⊢;omega)
  simpa [vn] using this
def RH {place:Nat->Option (Nat×Nat)}{ρ:Operand->Value}{tm:Nat->M}(hρ:∀x y,ev x=some y->bB w a4 B (bd tm y) (ρ x)):
  ∀(cO:List (Nat×Operand)) (fk:List (Nat×Nat×bZ)) (cs r:List M) (vs:Array Value),partsOf place cO=some fk->dL w a4 B cs vs.toList->lK (bd tm) cs fk=some r ->
   ∃pD:Array Value,Instr.fill place vs (cO.map λp=>(p.1,ρ p.2))=some pD/\dL w a4 B r pD.toList
 | [],fk,cs,r,vs,aE,cm,h=>by
  simp[partsOf] at aE;subst aE;simp[lK] at h;subst h;exact⟨vs,rfl,cm⟩
 |(i,x)::cO,fk,cs,r,vs,aE,cm,h=>by
  simp only[partsOf,ns,hX,h9,eS,cF] at aE;obtain⟨q,bq,att,BC,rfl⟩:=aE;obtain⟨⟨o,s⟩,ia,y,aj,rfl⟩:=bq;simp only[lK] at h
  split at h
  ·rename_i J;obtain⟨ay,F,G⟩:=J;have w2:=hρ x y aj;have atu:bd tm y ≠ .undef:=λe=>by rw[e] at ay;simp[M.known] at ay
   ·have kP:=dL.Xt w2 atu;have fw:(ρ x).cells.size=s:=by have:=kP.1;simp at this;omega
    have MG:o+s<=vs.size:=by have:=cm.1;simp at this;omega
    have j1:=afe o (ρ x).cells.toList 0 vs (by simp[fw];exact MG);simp only[lO,Array.length_toList] at j1;have Xz:=cm.lo kP o;obtain⟨pD,aH,vr⟩:=RH hρ cO att _ r ((vs.toList.take o++(ρ x).cells.toList++vs.toList.drop (o+(ρ x).cells.size)).toArray) BC (by simpa using Xz) h;refine⟨pD,?_,vr⟩;simp only[eE,Instr.fill,ia];rw[aa (by simp[fw];omega)]
    have a2:(ρ x).cells.zipIdx.foldl (λcs (p:Value×Nat)=>cs.setIfInBounds (o+p.2) p.1) vs=(vs.toList.take o++(ρ x).cells.toList++vs.toList.drop (o+(ρ x).cells.size)).toArray:=by
     rw[<-Array.foldl_toList,Array.toList_zipIdx];exact j1
    rw[<-aH]
    congr 1
  ·cases h
end
section
variable {P:Program} {A:Nat->Prop} {w:World} {B:fu} {mem:Mem}
def FR {a4:Nat->Prop}{t:TypeId}{z:List M}(h:zeroOf P t=some z):∃i j2,P.info? t=some i/\i.zero=some j2/\dL w a4 B z j2.cells.toList:=by
 simp only[zeroOf,eS] at h;obtain⟨j2,⟨i,O,a2⟩,hm⟩:=h;obtain⟨F,G⟩:=pA hm;exact⟨i,j2,O,a2,by simp[F],λj m v atv MH=>Xs (G j v m MH atv)⟩
def MI {t:TypeId}{i:TypeInfo}{j2:Value}(O:P.info? t=some i)(a2:i.zero=some j2):(zeroValue t).run P w=.ok j2 w:=by
 simp[zeroValue,typeInfo,O,a2]
def afg {t:TypeId}{i:TypeInfo}{n:Nat}(O:P.info? t=some i)(R:gZ P t=some n):i.size=n:=by
 simpa [gZ,O] using R
def afh {t:TypeId}{i:TypeInfo}{n:Nat}(O:P.info? t=some i)(R:II P t=some n):i.bytes=n:=by
 simpa [II,O] using R
def RI {z:Array Value}(ay:0<z.size):∀n,((Array.range (n*z.size)).map (z[·%z.size]!)).toList=(ef n z.toList).flatten
 |0=>by simp
 |n+1=>by
  have aG:=RI ay n;apply pE;intro i
  have au:∀m i,((Array.range (m*z.size)).map (z[·%z.size]!)).toList[i]?=if i<m*z.size then some (z[i%z.size]!) else none:=by
   intro m i;rw[Array.getElem?_toList,Array.getElem?_map]
   by_cases O:i<m*z.size
   ·rw[Y O,Array.getElem?_range];simp[O]
   ·rw[aa O,Array.getElem?_range];simp[O]
  rw[au,List.replicate_succ',List.flatten_append,IV,<-aG];have el:((Array.range (n*z.size)).map (z[·%z.size]!)).toList.length=n*z.size:=by simp
  rw[el];have hmul:(n+1)*z.size=n*z.size+z.size:=by rw[rW,L8]
  by_cases O:i<n*z.size
  ·rw[Y O,Y (by omega),au,Y O]
  ·rw[aa O]
   by_cases oX:i<(n+1)*z.size
   ·rw[Y oX];have ah:i-n*z.size<z.size:=by omega
    have XA:i%z.size=i-n*z.size:=by
     have e:i=(i-n*z.size)+z.size*n:=by have:=Nat.mul_comm n z.size;omega
     have aC:((i-n*z.size)+z.size*n)%z.size=i-n*z.size:=by rw[Nat.add_mul_mod_self_left,Nat.mod_eq_of_lt ah]
     rwa [<-e] at aC
    rw[XA];simp[ah]
   ·rw[aa oX]
    symm
    rw[jZ];simp;omega
def dL.replicate {a4:Nat->Prop}{z:List M}{afi:List Value}(h:dL w a4 B z afi):∀n,dL w a4 B (ef n z).flatten (ef n afi).flatten
 |0=>by simpa using dL.nil
 |n+1=>by
  rw[um,l8,um,l8];exact h.append (dL.replicate h n)
def dL.sV {cs:List M}{vs:List Value}{aX:World}{bD:fu}(t:Trans A w B aX bD)(h:dL w (ct A B) B cs vs):dL aX (ct A bD) bD cs vs :=
 ⟨h.1,λi m v F G=>(h.2 i m v F G).sV t⟩
def MJ {cs:List M}(cf:fQ A w B mem)(w1:World)(f:Fr (λ_=>False) w w1)(a2:w1.heap.size=w.heap.size)(k:Key)(vs:Array Value)(T:TypeId)(aq:(D cs)<=vs.size)
  (cm:dL w (ct A B) B cs (vs.toList.take (D cs))):e6 A w B (w1.alloc (.cells vs T)) (g6 B k ⟨ca mem k,some w.heap.size,vs.size⟩) (a5 mem k (ca mem k) cs) :=
 e6.alloc cf w1 f a2 k vs T aq λi m hm=>by
  obtain⟨v,aN,X⟩:=cm.get hm;rw[Bw] at aN
  split at aN
  ·exact⟨v,by simpa using aN,X⟩
  ·cases aN
def atw {t:TypeId}{z:List M}(k:Key)(cf:fQ A w B mem)(a2:zeroOf P t=some z):
  ∃v aX bD,(Instr.alloc t true (.tuple #[])).run P w=.ok v aX/\e6 A w B aX bD (a5 mem k (ca mem k) z)/\bB aX (ct A bD) bD (.ptr k (ca mem k) 0) v:=by
 obtain⟨i,j2,O,vt,cm⟩:=FR (P:=P) (w:=w) (B:=B) (a4:=ct A B) a2;have aq:(D z)=j2.cells.size:=by have:=cm.1;simp at this;omega
 refine⟨.pointer (some ⟨w.heap.size,0,none⟩),w.alloc (.cells j2.cells t),_,?_,MJ cf w (Fr.refl _ _) rfl k j2.cells t (by omega) (by rw[dD (by simp;omega)];exact cm),?_⟩
 ·simp[Instr.alloc,MI O vt,newVar,newRow]
 ·exact .ptr (h8 _ _ _) (cl _) ⟨_,rfl,λ_=>rfl⟩
def atx {t:TypeId}{m:M}{u:Value}(k:Key)(cf:fQ A w B mem)(hu:bB w (ct A B) B m u)(I:m.known=true):
  ∃v aX bD,(Instr.box t u).run P w=.ok v aX/\e6 A w B aX bD (a5 mem k (ca mem k) m.cells)/\bB aX (ct A bD) bD (.ptr k (ca mem k) 0) v:=by
 have cm:=dL.Xt hu (λe=>by rw[e] at I;simp[M.known] at I);have aq:(D m.cells)=u.cells.size:=by have:=cm.1;simp at this;omega
 refine⟨.pointer (some ⟨w.heap.size,0,none⟩),w.alloc (.cells u.cells t),_,?_,MJ cf w (Fr.refl _ _) rfl k u.cells t (by omega) (by rw[dD (by simp;omega)];exact cm),?_⟩
 ·simp[Instr.box,newVar,newRow]
 ·exact .ptr (h8 _ _ _) (cl _) ⟨_,rfl,λ_=>rfl⟩
def aty {t e:TypeId}{z:List M}{bytes n c:Nat}{dg bU:M}{lP hY:Value}{r:M}{k2:Option (Key×Nat×List M)}(k:Key)(cf:fQ A w B mem)(b0:P.underlying t=some (.slice e))(a2:zeroOf P e=some z)(R:gZ P e=some (D z))
  (ad:II P e=some bytes) (F:idx dg=some n) (G:idx bU=some c) (e2:bB w (ct A B) B dg lP) (fa:bB w (ct A B) B bU hY) (ay:0<D z) (h:ID k (ca mem k) z bytes n c=some (r,k2)) :
  ∃v aX bD,(Instr.makeSlice t lP hY).run P w=.ok v aX/\e6 A w B aX bD (jC mem k2)/\bB aX (ct A bD) bD r v:=by
 unfold ID at h
 split at h
 ·rename_i J;obtain⟨rfl,I1,yp⟩:=J
  cases h;obtain⟨cy,rfl⟩:=IX F e2;obtain⟨dw,rfl⟩:=IX G fa;obtain⟨i,j2,O,vt,cm⟩:=FR (P:=P) (w:=w) (B:=B) (a4:=ct A B) a2;have aq:(D z)=j2.cells.size:=by have:=cm.1;simp at this;omega
  have fw:=afg O R;have FT:=afh O ad
  have nZ:=run_make (P:=P) w t e i j2 b0 O vt cy dw (n:Int) (n:Int) (by omega) (by omega) (by
   have:((i.bytes*n:Nat):Int)<=281474976710656:=by rw[FT];omega
   rwa [Int.natCast_mul] at this) (by unfold maxLen at yp;omega)
  simp only[Int.toNat_natCast] at nZ
  have afj:(madeCells j2.cells (n*i.size)).toList=(ef n j2.cells.toList).flatten:=by
   rw[fw,aq];exact RI (by omega) n
  have FU:(madeCells j2.cells (n*i.size)).size=n*D z:=by rw[size_madeCells,fw]
  have zU:=cm.replicate (n:=n)
  have hlen:(ef n z).flatten.length=n*D z:=by
   have:=zU.1;rw[<-this,<-afj,Array.length_toList,FU]
  refine⟨_,_,_,nZ,MJ cf w (Fr.refl _ _) rfl k _ e (by rw[FU,hlen];exact cl _) ?_,?_⟩
  ·rw[dD (by rw[Array.length_toList,FU,hlen];exact cl _),afj];exact zU
  ·refine .ref (h8 _ _ _) (cl _) ⟨_,n,rfl,cl _,yp,.inr ⟨_,rfl,λ_=>⟨rfl,?_⟩⟩⟩;simp only[q4];rw[FU];exact cl _
 ·cases h
def XB (cf:fQ A w B mem){k:Key}{g:Nat}{cs new:List M}{e:nm}{b:Nat}{vs:Array Value}{T:TypeId}{vals:List Value}{off:Nat}(I:mem k=some (g,cs))(he:B k=some e)(ad:e.dU=some b)
  (a1:w.heap[b]?=some (.cells vs T (0,0))) (fw:vs.size=e.size) (aq:(D cs)<=vs.size) (cm:dL w (ct A B) B cs (vs.toList.take (D cs))) (bW:e.g=g) (XC:off+D new<=D cs) (iO:dL w (ct A B) B new vals) :
  e6 A w B (w.setRow b (vs.toList.take off++vals++vs.toList.drop (off+D vals)).toArray) B (a5 mem k g (lo cs off new)):=by
 have XD:(D vals)=D new:=iO.1
 have Xz:dL w (ct A B) B (lo cs off new) ((vs.toList.take off++vals++vs.toList.drop (off+D vals)).take (D cs)):=by
  have F:=cm.lo iO off
  have au:(vs.toList.take (D cs)).take off++vals++(vs.toList.take (D cs)).drop (off+D vals)=(vs.toList.take off++vals++vs.toList.drop (off+D vals)).take (D cs):=by
   have j3:(D vs.toList)=vs.size:=Array.length_toList;rw[List.take_take,pF (by omega),afd,afb,gC,gP,j3,pF (a:=off) (b:=vs.size) (by omega)];rw[dD (l:=vs.toList.take off++vals) (by rw[gC,gP,j3];omega)]
  rwa [au] at F
 have I2:(lo cs off new).length=D cs:=by unfold lo;simp;omega
 have heq:g6 B k e=B:=by
  funext j
  unfold g6
  split
  ·rename_i ae;rw[ae,he]
  ·rfl
 have f:Fr (λb=>∃e,B k=some e/\e.dU=some b) w (w.setRow b (vs.toList.take off++vals++vs.toList.drop (off+D vals)).toArray):=by
  refine⟨rfl,rfl,rfl,by simp,λj ae bw=>?_⟩
  exact setRow_other w b j _ (λRJ=>bw ⟨e,he,by rw[ad,RJ]⟩)
 have:=e6.change (k:=k) (e':=e) (cs:=lo cs off new) cf f (λaC fP => .inl (by rw[he] at fP;exact nu fP)) (λdN fi => .inr ⟨e,he,fi⟩) (λaL=>by rw[ad] at aL;cases aL) (λdN fi=>by
  rw[ad] at fi
  cases fi;refine⟨_,T,setRow_heap w b vs _ T (0,0) a1,by simp;omega,by rw[I2];simp;omega,λi m hm=>?_⟩
  obtain⟨v,aN,X⟩:=Xz.get hm;rw[Bw] at aN
  split at aN
  ·exact⟨v,by simpa using aN,X⟩
  ·cases aN)
 rw[heq,bW] at this;exact this
def atz {t:TypeId}{n:Nat}{dg bU:M}{lP hY:Value}{r:M}{k2:Option (Key×Nat×List M)}(cf:fQ A w B mem)(R:gZ P t=some n)(e2:bB w (ct A B) B dg lP)(fa:bB w (ct A B) B bU hY)
  (h:zJ mem n dg bU.cells=some (r,k2)):∃aX,(Instr.storeAt t lP hY).run P w=.ok () aX/\e6 A w B aX B (jC mem k2)/\r=.no:=by
 cases dg with
 |ptr k g off =>
  simp only[zJ] at h;unfold Mt at h
  split at h
  ·rename_i dp cs I
   split at h
   ·rename_i J;obtain⟨rfl,F,G,ab⟩:=J
    cases h;obtain⟨e,he,bW,aL,ad⟩:=cf.at_ I
    cases e2 with
    |ptr g4 Xr aE =>
     rw[he] at g4
     cases g4;obtain⟨b,rfl,jQ⟩:=aE;have jQ:=jQ bW.symm;obtain⟨vs,T,a1,fw,aq,cm⟩:=ad b jQ;have iP:bU ≠ .undef:=λe=>by rw[e] at ab;simp[M.cells,M.one] at ab
     have kP:=dL.Xt fa iP
     have atA:∀v∈hY.cells.toList,v.oneCell'=true:=by
      intro v aN;obtain⟨i,O,k3⟩:=afk aN;have mD:i<D bU.cells:=by rw[<-kP.1];exact O
      have:=kP.2 i _ _ (bh mD) (bh O);rw[k3] at this;exact ae3 this (nt.1 ab _ (mh mD))
     have aKZ:hY.cells.size=n:=by have:=kP.1;simp at this;omega
     have da:=run_storeCells_at P b off T hY.cells.toList 0 vs w a1 (by simp;omega) atA;simp only[lO] at da;refine⟨_,?_,XB cf I he jQ a1 fw aq cm bW (by omega) kP,rfl⟩;have b8:¬ (hY.cells.size≠n):=by omega
     simp only[Instr.storeAt,Instr.sureAddr,storeVar,Sem.run_bind,Sem.run_pure,Result.andThen_ok,wZ R];rw[aa b8];exact da
   ·cases h
  ·cases h
 |_=>simp[zJ] at h
end
section
variable {P:Program} {A:Nat->Prop} {w:World} {B:fu} {mem:Mem}
def RK (sz:Nat):∀(n:Nat) (l:List Data),(chunk sz n l).length=n
 |0,_=>rfl
 |n+1,l=>by simp[chunk,RK sz n]
def RL (sz:Nat):∀(n:Nat) (l:List Data),D l=n*sz->∀e∈chunk sz n l,D e=sz
 |0,_,_,e,he=>by simp[chunk] at he
 |n+1,l,aq,e,he=>by
  have hmul:(n+1)*sz=n*sz+sz:=by rw[rW,L8]
  simp only[chunk,List.mem_cons] at he;rcases he with rfl|he
  ·simp;omega
  ·exact RL sz n _ (by simp;omega) e he
def RM (sz:Nat):∀(n:Nat) (l:List Data),D l=n*sz->(chunk sz n l).flatten=l
 |0,l,aq=>by simp at aq;simp[chunk,aq]
 |n+1,l,aq=>by
  have hmul:(n+1)*sz=n*sz+sz:=by rw[rW,L8]
  simp only[chunk,l8];rw[RM sz n _ (by simp;omega),List.take_append_drop]
def afl {a4:Nat->Prop}{m:M}{d:Data}{v:Value}(h:wU m=some d)(aN:bB w a4 B m v):Den w a4 d v:=by
 unfold wU at h
 split at h<;>cases h
 ·cases aN with
  |H h=>exact h
 ·cases aN with
  |nil=>exact .mV
def atB {ds:List Data}{vs:Array Value}{T:TypeId}{n sz:Nat}(cf:fQ A w B mem)(aX:World)(hw:aX=w.alloc (.cells vs T))(aq:(D ds)=n*sz)(aN:vs.size=n*sz)(hm:n<=maxLen)
  (Z:∀(i:Nat) (d:Data) (v:Value),ds[i]?=some d->vs[i]?=some v->Den w (ct A B) d v):Den aX (ct A B) (.ax (chunk sz n ds)) (.slice (some ⟨w.heap.size,0,none⟩) n n):=by
 have ok:e6 A w B aX B mem:=by rw[hw];exact .still cf ((Fr.refl _ _).alloc _)
 have ew:=RK sz n ds
 have h:=Den.ax (w:=aX) (a4:=ct A B) (es:=chunk sz n ds) (b:=w.heap.size) (off:=0) (c:=n) (sz:=sz) (λi=>vs.getD i undef) (by rw[ew];exact cl _) (by rw[ew];exact hm)
  (by rw[hw];simp) (λbw=>by
   rcases bw with bw|bw
   ·have:=cf.zH bw;omega
   ·have:=cf.lt _ bw;omega) (RL sz n ds aq)
  (λi O=>by
   rw[ew] at O;rw[hw,q4];have:i<vs.size:=by omega
   simp[this])
  (λi d iw=>by
   rw[RM sz n ds aq] at iw;have ah:i<D ds:=(dV.1 iw).1;have nv:i<vs.size:=by omega
   have:vs.getD i undef=vs[i]:=by simp[nv]
   simp only[this];exact (Z i d _ iw (Array.getElem?_eq_getElem nv)).trans ok.nU)
 rw[ew] at h;exact h
def afm {t e:TypeId}{z r:List M}{sz len:Nat}{cO:List (Nat×Operand)}{fk:List (Nat×Nat×bZ)}{ρ:Operand->Value}{tm:Nat->M}{a4:Nat->Prop}(b0:P.underlying t=some (.slice e))(a2:zeroOf P e=some z)
  (R:gZ P e=some sz) (BD:(D z)=sz) (ay:0<sz) (aq:len*sz<=16777216) (aE:partsOf (λi=>some (i*sz,sz)) cO=some fk) (hρ:∀x y,ev x=some y->bB w a4 B (bd tm y) (ρ x))
  (h:lK (bd tm) (ef len z).flatten fk=some r) :
  ∃vs:Array Value,(Instr.buildSlice t len (cO.map λp=>(p.1,ρ p.2)).toArray).run P w=.ok (.slice (some ⟨w.heap.size,0,none⟩) len len) (w.alloc (.cells vs e))/\dL w a4 B r vs.toList:=by
 obtain⟨i,j2,O,vt,cm⟩:=FR (P:=P) (w:=w) (B:=B) (a4:=a4) a2;have I3:j2.cells.size=sz:=by have:=cm.1;simp at this;omega
 have afn:=RI (z:=j2.cells) (by omega) len;rw[I3] at afn;have zU:=cm.replicate (n:=len);rw[<-afn] at zU;obtain⟨pD,aH,X⟩:=RH (place:=λi=>some (i*sz,sz)) hρ cO fk _ r _ aE zU h;refine⟨pD,?_,X⟩;have aL:¬ (len*sz>2^24):=by omega
 by_cases w3:len*sz=0
 ·have bx:((Array.range (len*sz)).map (j2.cells[·%sz]!))=#[]:=by rw[w3];simp[Array.range_zero']
  have BE:Instr.fill (λi=>some (i*sz,sz)) #[] (cO.map λp=>(p.1,ρ p.2))=some pD:=by rw[<-bx];exact aH
  simp only[Instr.buildSlice,Sem.run_bind,run_underlying b0,Result.andThen_ok,wZ R];rw[aa aL];simp only[w3,if_true,Sem.run_bind,Sem.run_pure,Result.andThen_ok];simp[BE,newRow,Array.range_zero']
 ·simp only[Instr.buildSlice,Sem.run_bind,run_underlying b0,Result.andThen_ok,wZ R];rw[aa aL];simp only[w3,if_false,Sem.run_bind,Sem.run_pure,Result.andThen_ok,MI O vt,I3];simp[aH,newRow]
def atC {t e:TypeId}{z:List M}{sz len:Nat}{cO:List (Nat×Operand)}{fk:List (Nat×Nat×bZ)}{ρ:Operand->Value}{tm:Nat->M}{r:M}(cf:fQ A w B mem)(b0:P.underlying t=some (.slice e))(a2:zeroOf P e=some z)
  (R:gZ P e=some sz) (BD:(D z)=sz) (ay:0<sz) (aq:len*sz<=16777216) (aE:partsOf (λi=>some (i*sz,sz)) cO=some fk) (hρ:∀x y,ev x=some y->bB w (ct A B) B (bd tm y) (ρ x))
  (h:Me (ef len z).flatten sz len (lK (bd tm) (ef len z).flatten fk)=some r) :
  ∃v aX,(Instr.buildSlice t len (cO.map λp=>(p.1,ρ p.2)).toArray).run P w=.ok v aX/\e6 A w B aX B mem/\bB aX (ct A B) B r v:=by
 unfold Me at h
 split at h
 ·rename_i hlen
  cases aH:lK (bd tm) (ef len z).flatten fk with
  |none=>rw[aH] at h;cases h
  |some cs =>
   rw[aH] at h;simp only[eL] at h;obtain⟨ds,hP,rfl⟩:=h;obtain⟨vs,nZ,cm⟩:=afm (P:=P) (B:=B) b0 a2 R BD ay aq aE hρ aH;obtain⟨F,G⟩:=pA hP
   have ew:(D cs)=len*sz:=by
    have:∀(fk:List (Nat×Nat×bZ)) (a r:List M),lK (bd tm) a fk=some r->(D r)=D a:=by
     intro fk
     induction fk with
     |nil=>intro a r h;simp[lK] at h;rw[h]
     |cons q fk aG =>
      intro a r h;obtain⟨o,s,x⟩:=q;simp only[lK] at h
      split at h
      ·rename_i J;rw[aG _ _ h];unfold lo;simp;omega
      ·cases h
    rw[this _ _ _ aH,hlen]
   have aQ:vs.size=len*sz:=by have:=cm.1;simp at this;omega
   refine⟨_,_,nZ,.still cf ((Fr.refl _ _).alloc _),.H (atB cf _ rfl (by omega) aQ ?_ λi d v Z aN=>?_)⟩
   ·have:len<=len*sz:=MK _ ay;unfold maxLen;omega
   ·have ah:i<D cs:=by have:=(dV.1 Z).1;omega
    have ow:=bh ah;exact afl (G i _ d ow Z) (cm.2 i _ v ow (by simpa using aN))
 ·cases h
def atD {t e:TypeId}{z:List M}{sz len:Nat}{cO:List (Nat×Operand)}{fk:List (Nat×Nat×bZ)}{ρ:Operand->Value}{tm:Nat->M}{r:M}{k2:Option (Key×Nat×List M)}(k:Key)(cf:fQ A w B mem)(b0:P.underlying t=some (.slice e))(a2:zeroOf P e=some z)
  (R:gZ P e=some sz) (BD:(D z)=sz) (ay:0<sz) (aq:len*sz<=16777216) (aE:partsOf (λi=>some (i*sz,sz)) cO=some fk) (hρ:∀x y,ev x=some y->bB w (ct A B) B (bd tm y) (ρ x))
  (h:IC k (ca mem k) (ef len z).flatten sz len (lK (bd tm) (ef len z).flatten fk)=some (r,k2)) :
  ∃v aX bD,(Instr.buildSlice t len (cO.map λp=>(p.1,ρ p.2)).toArray).run P w=.ok v aX/\e6 A w B aX bD (jC mem k2)/\bB aX (ct A bD) bD r v:=by
 unfold IC at h
 split at h
 ·rename_i hlen
  cases aH:lK (bd tm) (ef len z).flatten fk with
  |none=>rw[aH] at h;cases h
  |some cs =>
   rw[aH] at h
   cases h;obtain⟨vs,nZ,cm⟩:=afm (P:=P) (B:=B) b0 a2 R BD ay aq aE hρ aH
   have ew:(D cs)=len*sz:=by
    have:∀(fk:List (Nat×Nat×bZ)) (a r:List M),lK (bd tm) a fk=some r->(D r)=D a:=by
     intro fk
     induction fk with
     |nil=>intro a r h;simp[lK] at h;rw[h]
     |cons q fk aG =>
      intro a r h;obtain⟨o,s,x⟩:=q;simp only[lK] at h
      split at h
      ·rename_i J;rw[aG _ _ h];unfold lo;simp;omega
      ·cases h
    rw[this _ _ _ aH,hlen]
   have aQ:vs.size=D cs:=by have:=cm.1;simp at this;omega
   refine⟨_,_,_,nZ,MJ cf w (Fr.refl _ _) rfl k vs e (by omega) (by rw[dD (by simp;omega)];exact cm),?_⟩
   have js:len<=maxLen:=by
    have:len<=len*sz:=MK _ ay;unfold maxLen;omega
   exact .ref (h8 _ _ _) (cl _) ⟨_,len,rfl,cl _,js,.inr ⟨_,rfl,λ_=>⟨rfl,by simp only[q4];omega⟩⟩⟩
 ·cases h
def afo {m:M}{sz n:Nat}{new:List M}{v:Value}(cf:fQ A w B mem)(aN:bB w (ct A B) B m v)(h:rY mem sz m=some (n,new)):
  ∃a c vals,v=.slice a n c/\dL w (ct A B) B new vals/\D vals=n*sz/\(0<n->∃b off,a=some ⟨b,off,none⟩/\fj w b off vals):=by
 unfold rY at h
 split at h
 ·split at h
  ·rename_i es pG
   cases h;have pG:=Xx pG
   cases aN with
   |H Z =>
    cases Z with
    |mV=>exact⟨_,_,[],rfl,by simpa using dL.nil,by simp,λh=>by simp at h⟩
    | @ax es b off c eX val aq hm ad fZ fw J Dy =>
     have gw:=Rs pG;rcases kO (D es) with ay|ay
     ·have:es=[]:=vu ay;subst this;exact⟨_,_,[],rfl,by simpa using dL.nil,by simp,λh=>by simp at h⟩
     ·have MF:eX=sz:=by
       have n0:=mh (l:=es) (n:=0) ay;rw[<-fw _ n0,pG _ n0]
      subst MF;refine⟨_,_,(eM (D es*eX)).map val,rfl,?_,by simp,λ_=>⟨b,off,rfl,λj u ae=>?_⟩⟩
      ·refine dL.H (by simp[gw]) λi d u F G=>?_;have O:i<D es*eX:=by have:=(dV.1 F).1;omega
       rw[bm,vo O] at G;simp only[ks,cF] at G;subst G;exact Dy i d F
      ·have O:j<D es*eX:=by have:=(dV.1 ae).1;simpa using this
       rw[bm,vo O] at ae;simp only[ks,cF] at ae;subst ae;exact J j O
  ·cases h
 ·cases h
  cases aN with
  |nil=>exact⟨_,_,[],rfl,dL.nil,by simp,λh=>by simp at h⟩
 ·rename_i k g eX off len
  split at h
  ·rename_i fw;subst fw
   split at h
   ·rename_i dp cs I
    split at h
    ·rename_i bb;subst bb;simp only[eL,fq] at h;obtain⟨part,uo,rfl,rfl⟩:=h;obtain⟨aq,rfl,aL⟩:=IW uo
     cases aN with
     |ref he bb X =>
      obtain⟨e,g4,bW,FP,ad⟩:=cf.at_ I;rw[he] at g4
      cases g4;obtain⟨a,cap,rfl,F,G,ab⟩:=X;rcases ab with ab|⟨b,rfl,aV⟩
      ·have:len=0:=by omega
       subst this;exact⟨_,_,[],rfl,by simpa using dL.nil,by simp,λh=>by omega⟩
      ·obtain⟨bu,bX⟩:=aV bW.symm;obtain⟨vs,T,a1,a2,hle,cm⟩:=ad b bu;refine⟨_,_,((vs.toList.take (D cs)).drop off).take (len*eX),rfl,(cm.drop off).take _,by have:=((cm.drop off).take (len*eX)).1;omega,λ_=>⟨b,off,rfl,?_⟩⟩
       have:=(((fj.row a1).take (D cs)).add off).take (len*eX)
       simpa using this
    ·cases h
   ·cases h
  ·cases h
 ·cases h
def RN {sz n c:Nat}{a:Option Addr}{vals:List Value}(aq:(D vals)=n*sz)(bH:0<n->∃b off,a=some ⟨b,off,none⟩/\fj w b off vals)(aX:World)(hw:aX.heap=w.heap):
  (Builtin.firstCells sz n (.slice a n c)).run P aX = .ok vals.toArray aX:=by
 have J:∀p,aX.cell? p=w.cell? p:=λp=>by simp[World.cell?,hw]
 rcases kO n with ay|ay
 ·subst ay;have:vals=[]:=vu (by simpa using aq);subst this
  cases a with
  |none=>simp[Builtin.firstCells]
  |some a=>simp[Builtin.firstCells,loadCells,loadCellsFrom]
 ·obtain⟨b,off,rfl,BF⟩:=bH ay;exact run_firstCells_some aX sz n _ n c vals aq λj v ae=>by rw[Bx,J];exact BF j v ae
def dL.XE {a4:Nat->Prop}{cs:List M}{vs:List Value}(h:dL w a4 B cs vs)(F:cs.all M.one=true):∀v∈vs,v.oneCell'=true:=by
 intro v aN;obtain⟨i,O,k3⟩:=afk aN;have mD:i<D cs:=by rw[<-h.1];exact O
 have:=h.2 i _ _ (bh mD) (bh O);rw[k3] at this;exact ae3 this (nt.1 F _ (mh mD))
def XF {t ty e:TypeId}{sz qj yq n c:Nat}{base a:Option Addr}{vals:List Value}(b0:P.underlying t=some (.slice e))(R:gZ P e=some sz)(zV:qj+n<=yq)
  (aH:(Builtin.firstCells sz n (.slice a n c)).run P w=.ok vals.toArray w) (aX:World)
  (da:∀b,base=some b->(storeCells (b.add (qj*sz)) vals).run P w=.ok () aX) (aL:base=none->aX=w) :
  (Builtin.append_ #[t,t] ty #[.slice base qj yq,.slice a n c]).run P w=.ok (.slice base (qj+n) yq) aX:=by
 simp only[gZ,eL] at R;obtain⟨i,O,rfl⟩:=R
 cases base with
 |none=>simp[Builtin.append_,run_underlying b0,sizeOf,typeInfo,O,Builtin.lenOf,zV,aH,aL rfl]
 |some b=>simp[Builtin.append_,run_underlying b0,sizeOf,typeInfo,O,Builtin.lenOf,zV,aH,da b rfl]
def atE {t ty e:TypeId}{sz qj yq n c bytes:Nat}{base a:Option Addr}{q7 vals:List Value}{i:TypeInfo}{z:Value}(b0:P.underlying t=some (.slice e))(O:P.info? e=some i)(a2:i.zero=some z)(fw:i.size=sz)(FT:i.bytes=bytes)
  (zV:yq<qj+n) (mc:∀aX,aX.heap=w.heap->(Builtin.firstCells sz qj (.slice base qj yq)).run P aX = .ok q7.toArray aX) (aH:∀aX,aX.heap=w.heap->(Builtin.firstCells sz n (.slice a n c)).run P aX = .ok vals.toArray aX)
  (atF:qj+n<=maxLen) (ad:(qj+n)*bytes<=140737488355328) :
  (Builtin.append_ #[t,t] ty #[.slice base qj yq,.slice a n c]).run P w =
   .ok (.slice (some ⟨w.heap.size,0,none⟩) (qj+n) (grownCap w (qj+n) yq e))
    (w.drew.alloc (.cells (q7.toArray++vals.toArray++Builtin.zeroCells z.cells (grownCap w (qj+n) yq e-(qj+n))) e)):=by
 subst fw;subst FT
 have aL:¬ (qj+n<=yq):=by omega
 have atG:¬ (9223372036854775807<((qj:Int)+(n:Int))):=by unfold maxLen at atF;omega
 have MG:=growslice_fits zV ad;have atH:¬ (281474976710656<Builtin.nextslicecap (qj+n) yq*i.bytes):=by omega
 have F:=mc w.drew rfl;have G:=aH w.drew rfl;simp[Builtin.append_,run_underlying b0,sizeOf,typeInfo,zeroValue,O,a2,Builtin.lenOf,aL,atG,atH,Question.forced,F,G,newRow,grownCap,<-List.append_toArray,Array.append_assoc]
def atI {t ty e:TypeId}{z:List M}{bytes n:Nat}{dg bU:M}{lP hY:Value}{new:List M}{r:M}{k2:Option (Key×Nat×List M)}(k:Key)(cf:fQ A w B mem)(b0:P.underlying t=some (.slice e))(a2:zeroOf P e=some z)(R:gZ P e=some (D z))
  (FT:II P e=some bytes) (ay:0<D z) (e2:bB w (ct A B) B dg lP) (fa:bB w (ct A B) B bU hY) (gj:rY mem (D z) bU=some (n,new)) (h:sX mem k z bytes dg (some (n,new))=some (r,k2)) :
  ∃v aX bD,(Builtin.append_ #[t,t] ty #[lP,hY]).run P w=.ok v aX/\e6 A w B aX bD (jC mem k2)/\bB aX (ct A bD) bD r v:=by
 obtain⟨cY,c2,vals,rfl,cm,j3,bH⟩:=afo cf fa gj;obtain⟨i,j2,O,vt,atJ⟩:=FR (P:=P) (w:=w) (B:=B) (a4:=ct A B) a2;have fw:=afg O R;have jQ:=afh O FT;have I3:j2.cells.size=D z:=by have:=atJ.1;simp at this;omega
 have ix:(D new)=n*D z:=by rw[<-cm.1,j3]
 have aH:=λaX hw=>RN (P:=P) (w:=w) (c:=c2) j3 bH aX hw
 -- a new block
 have grow:∀(base:Option Addr) (len cap:Nat) (g:Nat) (k':Key) (cs:List M) (q7:List Value),cap<len+n->(∀aX,aX.heap=w.heap->(Builtin.firstCells (D z) len (.slice base len cap)).run P aX = .ok q7.toArray aX) ->
   dL w (ct A B) B cs q7->(D cs)=len*(D z)->len+n<=maxLen->(len+n)*bytes<=140737488355328->g=ca mem k' ->
   ∃v aX bD,(Builtin.append_ #[t,t] ty #[.slice base len cap,.slice cY n c2]).run P w=.ok v aX/\e6 A w B aX bD (a5 mem k' g (cs++new))/\bB aX (ct A bD) bD (.ref k' g (D z) 0 (len+n)) v:=by
  intro base len cap g k' cs q7 zV mc jD ew yp I1 bb;subst bb;have nZ:=atE (P:=P) (ty:=ty) b0 O vt fw jQ zV mc aH yp I1;have bW:=grownCap_ge w (len+n) cap e;have hle:=grownCap_le_maxLen w (len+n) cap e yp
  have FU:(q7.toArray++vals.toArray++Builtin.zeroCells j2.cells (grownCap w (len+n) cap e-(len+n))).size=grownCap w (len+n) cap e*D z:=by
   have FV:=jD.1;simp only[Array.size_append,List.size_toArray,size_zeroCells,I3,FV,ew,j3];rw[<-rW,<-rW]
   congr 1
   omega
  have ea:=jD.append cm;have hmul:(len+n)*D z<=grownCap w (len+n) cap e*D z:=ui _ bW;have vv:(cs++new).length=(len+n)*D z:=by rw[gC,ew,ix,rW]
  refine⟨_,_,_,nZ,MJ (cs:=cs++new) cf w.drew ((Fr.refl _ _).drew _) rfl k' _ e (by rw[FU,vv];exact hmul) ?_,?_⟩
  ·have:(q7.toArray++vals.toArray++Builtin.zeroCells j2.cells (grownCap w (len+n) cap e-(len+n))).toList.take (cs++new).length=q7++vals:=by
    simp only[Array.toList_append,List.toList_toArray];rw[List.take_append_of_le_length (by rw[ea.1];exact cl _),dD (by rw[ea.1];exact cl _)]
   rw[this];exact ea
  ·refine .ref (h8 _ _ _) (cl _) ⟨_,_,rfl,bW,hle,.inr ⟨_,rfl,λ_=>⟨rfl,?_⟩⟩⟩;simp only[q4];rw[FU];exact cl _
 cases dg with
 |nil =>
  simp only[sX] at h
  split at h
  ·rename_i J;obtain⟨I1,yp,vw⟩:=J
   cases h
   cases e2 with
   | @nil cz =>
    rcases kO n with s5|s5
    ·subst s5;have I4:vals=[]:=vu (by simpa using j3);have XG:new=[]:=vu (by simpa using ix);subst I4;subst XG
     refine⟨_,_,_,XF (P:=P) (ty:=ty) b0 R (cl _) (aH w rfl) w (λb _=>by simp[storeCells]) (λ_=>rfl),e6.zP cf k,?_⟩;exact .ref (h8 _ _ _) (cl _) ⟨_,0,rfl,cl _,fL _,.inl rfl⟩
    ·have:=grow cz 0 0 (ca mem k) k [] [] (by omega) (λaX hw=>by
      have:=RN (P:=P) (w:=w) (sz:=D z) (n:=0) (c:=0) (a:=cz) (vals:=[]) (by simp) (λh=>by omega) aX hw;exact this) dL.nil (by simp) (by omega) (by simpa using I1) rfl
     simpa [jC] using this
  ·cases h
 |ref k' g eX off len =>
  simp only[sX] at h
  split at h
  ·rename_i J;obtain⟨rfl,rfl⟩:=J;unfold lL at h
   split at h
   ·rename_i dp cs I
    split at h
    ·rename_i J;obtain⟨rfl,hlen,I1,yp,vw⟩:=J
     cases h;obtain⟨FW,q8,bW,FP,ad⟩:=cf.at_ I;have pH:dp+1=ca mem k':=by simp[ca,I]
     cases e2 with
     |ref he bb X =>
      rw[q8] at he
      cases he;obtain⟨cz,cap,rfl,F,G,ab⟩:=X
      have hold:∃q7,dL w (ct A B) B (cs.take (len*D z)) q7/\D q7=len*D z/\(0<len->∃b off,cz=some ⟨b,off,none⟩/\fj w b off q7):=by
       rcases ab with ab|⟨b,rfl,aV⟩
       ·have:len=0:=by omega
        subst this;exact⟨[],by simpa using dL.nil,by simp,λh=>by omega⟩
       ·obtain⟨bu,bX⟩:=aV bW.symm;obtain⟨vs,T,a1,FX,hle,BG⟩:=ad b bu;refine⟨(vs.toList.take (D cs)).take (len*D z),BG.take _,by have:=(BG.take (len*D z)).1;rw[this];simp;omega,λ_=>⟨b,0,rfl,((fj.row a1).take _).take _⟩⟩
      obtain⟨q7,afp,atK,afq⟩:=hold
      by_cases zV:len+n<=cap
      ·rcases ab with ab|⟨b,rfl,aV⟩
       ·-- no room, and nothing comes
        have iy:len=0:=by omega
        have s5:n=0:=by omega
        subst iy;subst s5;subst ab
        have I4:vals=[]:=vu (by simpa using j3);have XG:new=[]:=vu (by simpa using ix);subst I4;subst XG
        refine⟨_,_,g6 B k' ⟨ca mem k',none,0⟩,XF (P:=P) (ty:=ty) b0 R (cl _) (aH w rfl) w (λb _=>by simp[storeCells]) (λ_=>rfl),?_,?_⟩
        ·have:=e6.zP cf k'
         simpa [jC,pH] using this
        ·rw[pH];exact .ref (h8 _ _ _) (cl _) ⟨_,0,rfl,cl _,fL _,.inl rfl⟩
       ·obtain⟨bu,bX⟩:=aV bW.symm;obtain⟨vs,T,a1,FX,hle,BG⟩:=ad b bu;have hmul:(len+n)*D z<=cap*D z:=ui _ zV;have afr:(len+n)*D z=len*D z+n*D z:=rW _ _ _;have da:=run_storeCells_at P b (len*D z) T vals 0 vs w a1 (by omega) (cm.XE vw);simp only[lO] at da
        have FV:q7=vs.toList.take (len*D z):=by
         apply pE;intro j;rcases hO j (len*D z) with ae|ae
         ·have jt:0<len:=by
           rcases kO len with h|h
           ·subst h;simp at ae
           ·exact h
          obtain⟨fS,aK0,afs,yr⟩:=afq jt;simp only[cF,Addr.mk.injEq,and_true] at afs;obtain⟨rfl,rfl⟩:=afs;have w4:j<D q7:=by omega
          have nY:=yr j _ (bh w4);rw[q4,cell_of_row w b j vs T (0,0) a1] at nY;rw[bh w4,Bw,Y ae,<-nY,Array.getElem?_toList]
         ·rw[jZ (by omega),Bw,aa (by omega)]
        have aft:(vs.toList.take (len*D z)++vals++vs.toList.drop (len*D z+D vals)).toArray.size=FW.size:=by
         simp;omega
        have f:Fr (λb=>∃e,B k'=some e/\e.dU=some b) w (w.setRow b (vs.toList.take (len*D z)++vals++vs.toList.drop (len*D z+D vals)).toArray):=by
         refine⟨rfl,rfl,rfl,by simp,λj ae bw=>?_⟩
         exact setRow_other w b j _ (λRJ=>bw ⟨FW,q8,by rw[bu,RJ]⟩)
        have vv:(cs.take (len*D z)++new).length=len*D z+D vals:=by
         rw[gC,ix,j3,gP,pF hlen]
        have ok:=e6.change (k:=k') (e':=⟨dp+1,some b,FW.size⟩) (cs:=cs.take (len*D z)++new) cf f
         (λaC fP => .inr (by rw[q8] at fP;cases fP;simp only;omega)) (λdN fi => .inr ⟨FW,q8,by rw[bu];exact fi⟩) (λaL=>by cases aL) (λdN fi=>by
          cases fi;refine⟨_,T,setRow_heap w b vs _ T (0,0) a1,aft,by rw[aft,vv,j3];omega,λi m hm=>?_⟩
          have ea:=afp.append cm;obtain⟨v,aN,X⟩:=ea.get hm;refine⟨v,?_,X⟩;rw[FV] at aN;have ah:i<(vs.toList.take (len*D z)++vals).length:=(dV.1 aN).1;simp only[afu];rw[qi ah];exact aN)
        refine⟨_,_,_,XF (P:=P) (ty:=ty) (a:=cY) (c:=c2) (vals:=vals) b0 R zV (aH w rfl) _ (λfS nr=>by
         cases nr;rw[Bx,q4];exact da) (λh=>by cases h),ok,?_⟩
        exact .ref (h8 _ _ _) (cl _) ⟨_,cap,rfl,zV,G,.inr ⟨b,rfl,λ_=>⟨rfl,bX⟩⟩⟩
      ·have:=grow cz len cap (dp+1) k' (cs.take (len*D z)) q7 (by omega) (λaX hw=>RN (P:=P) (w:=w) atK afq aX hw) afp (by rw[gP,pF hlen]) yp I1 pH;exact this
    ·cases h
   ·cases h
  ·cases h
 |_=>simp[sX] at h
def atL {t u ty e:TypeId}{sz n:Nat}{dg bU:M}{lP hY:Value}{new:List M}{r:M}{k2:Option (Key×Nat×List M)}(cf:fQ A w B mem)(b0:P.underlying t=some (.slice e))(R:gZ P e=some sz)
  (e2:bB w (ct A B) B dg lP) (fa:bB w (ct A B) B bU hY) (gj:rY mem sz bU=some (n,new)) (h:yj mem sz dg (some (n,new))=some (r,k2)) :
  ∃v aX,(Builtin.copy_ #[t,u] ty #[lP,hY]).run P w=.ok v aX/\e6 A w B aX B (jC mem k2)/\bB aX (ct A B) B r v:=by
 obtain⟨cY,c2,vals,rfl,cm,j3,bH⟩:=afo cf fa gj;have ix:(D new)=n*sz:=by rw[<-cm.1,j3]
 cases dg with
 |ref k g eX off len =>
  simp only[yj] at h
  split at h
  ·rename_i fw;subst fw;unfold Du at h
   split at h
   ·rename_i dp cs I
    split at h
    ·rename_i J;obtain⟨rfl,MG,vw⟩:=J
     cases h;obtain⟨FW,q8,bW,FP,ad⟩:=cf.at_ I;have RO:Nat.min n len=min n len:=rfl;have hle:min n len<=n:=Nat.min_le_left _ _;have atM:min n len<=len:=Nat.min_le_right _ _;have pC:min n len*eX<=n*eX:=ui _ hle;have aK1:min n len*eX<=len*eX:=ui _ atM;have uk:(vals.take (min n len*eX)).length=min n len*eX:=by rw[gP,j3,pF pC]
     have Dz:∀(a:Option Addr) (c:Nat),(0<n->∃b off,a=some ⟨b,off,none⟩/\fj w b off vals)->(Builtin.firstCells eX (min n len) (.slice a n c)).run P w=.ok (vals.take (min n len*eX)).toArray w:=by
      intro a c bH
      have:=RN (P:=P) (w:=w) (sz:=eX) (n:=min n len) (c:=c) (a:=a) (vals:=vals.take (min n len*eX)) uk (λh=>by
       obtain⟨b,off,F,G⟩:=bH (by omega);exact⟨b,off,F,G.take _⟩) w rfl
      cases a with
      |none=>simpa [Builtin.firstCells] using this
      |some a=>simpa [Builtin.firstCells] using this
     cases e2 with
     |ref he bb X =>
      rw[q8] at he
      cases he;obtain⟨cz,cap,rfl,F,G,ab⟩:=X;simp only[gZ,eL] at R;obtain⟨i,O,XH⟩:=R;rcases ab with ab|⟨b,rfl,aV⟩
      ·have iy:len=0:=by omega
       subst iy;have n0:min n 0=0:=Nat.min_zero _;have s6:lo cs off (new.take (min n 0*eX))=cs:=by simp[lo]
       have da:∀a:Addr,(storeCells a ([]:List Value)).run P w=.ok () w:=λa=>by simp[storeCells]
       have ML:=Dz cY c2 bH;simp only[n0,Nat.zero_mul,nw] at ML
       have ga:g6 B k FW=B:=by
        funext j;unfold g6;split
        ·rename_i ae;rw[ae,q8]
        ·rfl
       refine⟨.int .i64 0,w,?_,?_,by simpa using bB.ofInt⟩
       ·cases cz with
        |none=>simp[Builtin.copy_,run_underlying b0,Builtin.lenOf,sizeOf,typeInfo,O,XH,ML,goInt]
        |some a=>simp[Builtin.copy_,run_underlying b0,Builtin.lenOf,sizeOf,typeInfo,O,XH,ML,da,goInt]
       ·have gQ:a5 mem k dp cs=mem:=by
         funext j;unfold a5;split
         ·rename_i ae;rw[ae,I]
         ·rfl
        simp only[jC,s6,gQ];exact .refl cf
      ·obtain⟨bu,bX⟩:=aV bW.symm;obtain⟨vs,T,a1,FX,MM,BG⟩:=ad b bu;have da:=run_storeCells_at P b off T (vals.take (min n len*eX)) 0 vs w a1 (by omega) (λv aN=>cm.XE vw v (yo aN));simp only[lO] at da;refine⟨.int .i64 ((min n len:Nat):Int),_,?_,XB cf I q8 bu a1 FX MM BG bW (by rw[gP,ix,pF pC];omega) (cm.take (min n len*eX)),.ofInt⟩;have ML:=Dz cY c2 bH;simp[Builtin.copy_,run_underlying b0,Builtin.lenOf,sizeOf,typeInfo,O,XH,RO,ML,da,goInt]
    ·cases h
   ·cases h
  ·cases h
 |_=>simp[yj] at h
def atN {z:Array Value}(ay:0<z.size)(n:Nat):(Builtin.zeroCells z n).toList=(ef n z.toList).flatten:=by
 unfold Builtin.zeroCells;exact RI ay n
def atO {t ty e:TypeId}{z:List M}{dg:M}{lP:Value}{r:M}{k2:Option (Key×Nat×List M)}(cf:fQ A w B mem)(b0:P.underlying t=some (.slice e))(a2:zeroOf P e=some z)(ay:0<D z)
  (e2:bB w (ct A B) B dg lP) (h:zK mem z dg=some (r,k2)) :
  ∃v aX,(Builtin.clear_ #[t] ty #[lP]).run P w=.ok v aX/\e6 A w B aX B (jC mem k2)/\bB aX (ct A B) B r v:=by
 have afv:∀aX:World,bB aX (ct A B) B (.dj []) (.tuple #[]):=λaX=>bB.dj (cs:=[]) (vs:=[]) rfl λi d v Z=>by simp at Z
 cases dg with
 |ref k g sz off len =>
  simp only[zK] at h
  split at h
  ·rename_i fw;subst fw;unfold Rz at h
   split at h
   ·rename_i dp cs I
    split at h
    ·rename_i J;obtain⟨rfl,MG,vw⟩:=J
     cases h;obtain⟨i,j2,O,vt,cm⟩:=FR (P:=P) (w:=w) (B:=B) (a4:=ct A B) a2;have I3:j2.cells.size=D z:=by have:=cm.1;simp at this;omega
     obtain⟨FW,q8,bW,FP,ad⟩:=cf.at_ I
     cases e2 with
     |ref he bb X =>
      rw[q8] at he
      cases he;obtain⟨cz,cap,rfl,F,G,ab⟩:=X;rcases kO len with iy|iy
      ·subst iy;have s6:lo cs off (ef 0 z).flatten=cs:=by simp[lo]
       have gQ:a5 mem k dp cs=mem:=by
        funext j;unfold a5;split
        ·rename_i ae;rw[ae,I]
        ·rfl
       refine⟨.tuple #[],w,?_,?_,afv _⟩
       ·cases cz<;>simp[Builtin.clear_,run_underlying b0]
       ·simp only[jC,s6,gQ];exact .refl cf
      ·rcases ab with ab|⟨b,rfl,aV⟩
       ·omega
       ·obtain⟨bu,bX⟩:=aV bW.symm;obtain⟨vs,T,a1,FX,MM,BG⟩:=ad b bu;have zU:=cm.replicate len;have BD:=atN (z:=j2.cells) (by omega) len;have ix:(ef len z).flatten.length=len*D z:=by simp
        have j3:(ef len j2.cells.toList).flatten.length=len*D z:=by simp[I3]
        have atP:(ef len z).flatten.all M.one=true:=by
         rw[nt] at vw ⊢;intro x L;obtain⟨y,aj,g0⟩:=afw.1 L;exact vw x (by rw[<-(List.mem_replicate.1 aj).2];exact g0)
        have da:=run_storeCells_at P b off T (ef len j2.cells.toList).flatten 0 vs w a1 (by omega) (zU.XE atP);simp only[lO] at da;refine⟨.tuple #[],_,?_,XB cf I q8 bu a1 FX MM BG bW (by omega) zU,afv _⟩;obtain⟨Xy,rfl⟩:∃l,len=l+1:=⟨len-1,by omega⟩
        simp[Builtin.clear_,run_underlying b0,MI O vt,BD,da]
    ·cases h
   ·cases h
  ·cases h
 |_=>simp[zK] at h
end
end Go.Mini
namespace Go.Mini
open Go
variable {P:Program} {A:Nat->Prop} {w:World} {B:fu} {mem:Mem}
def atQ {t e:TypeId}{sz l h len:Nat}{m r:M}{v:Value}{me mg:Option Value}{b6 O:Option M}(cf:fQ A w B mem)(b0:P.underlying t=some (.array len e))(R:gZ P e=some sz)(aK2:len<=16777216)
  (fK:kY 0 b6=some l) (kr:kY len O=some h) (nX:s4 w (ct A B) B b6 me) (mX:s4 w (ct A B) B O mg) (hm:bB w (ct A B) B m v) (X:Dt mem len sz l h m=some r) :
  ∃z,(Instr.sliceAt t v me mg none).run P w=.ok z w/\bB w (ct A B) B r z:=by
 unfold Dt at X
 split at X
 ·rename_i k g off;unfold Xk at X
  split at X
  ·rename_i dp cs I
   split at X
   ·rename_i J;obtain⟨rfl,F,G,ab⟩:=J
    cases X
    cases hm with
    |ptr he bb aN =>
     obtain⟨b,rfl,ad⟩:=aN;obtain⟨e',g4,bW,aL,gv⟩:=cf.at_ I;rw[g4] at he
     cases he;have jQ:=ad bW.symm;obtain⟨vs,T,a1,a2,hle,_⟩:=gv b jQ;refine⟨.slice (some (if len=l then ⟨b,off,none⟩ else ⟨b,off+l*sz,none⟩)) (h-l) (len-l),?_,.ref g4 bb ⟨_,len-l,rfl,by omega,by unfold maxLen;omega,?_⟩⟩
     ·simp[Instr.sliceAt,run_underlying b0,Instr.sureAddr,Xv (P:=P) (w:=w) false fK kr nX mX F G,wZ R]
      split<;>simp[Bx]
     ·rcases RG (eR F G) with aq|aq
      ·exact .inl (by omega)
      ·refine .inr ⟨b,by rw[aa (by omega)],λ_=>⟨jQ,?_⟩⟩
       have:off+l*sz+(len-l)*sz=off+len*sz:=by
        rw[vn,<-rW]
        congr 2
        omega
       omega
   ·cases X
  ·cases X
 ·cases X
def atS {eo:List Field}(h:(eo.all λf=>(gZ P f.type).isSome)=true):∃cO:List (Nat×Nat),(eo.mapM λf=>(do pure (f.offset,<-sizeOf f.type):Sem (Nat×Nat))).run P w=.ok cO w /\
  ∀i:Nat,cO[i]?=wX P eo.toArray i:=by
 induction eo with
 |nil=>exact⟨[],by simp,λi=>by simp[wX]⟩
 |cons f r aG =>
  simp only[vx,fC] at h;obtain⟨cO,F,G⟩:=aG h.2;obtain⟨s,R⟩:=afx.1 h.1;refine⟨(f.offset,s)::cO,?_,λi=>?_⟩
  ·simp only[ns,Sem.run_bind,wZ R,Result.andThen_ok,Sem.run_pure];rw[F]
   rfl
  ·cases i with
   |zero=>simp[wX,R]
   |succ i =>
    have:=G i;simp only[wX,afu,MN] at this ⊢;exact this
def atT {p q:Nat->Option (Nat×Nat)}(h:∀i,p i=q i)(cs:Array Value)(l:List (Nat×Value)):Instr.fill p cs l=Instr.fill q cs l:=by
 rw[show p=q from funext h]
def atU {t:TypeId}{eo:Array Field}{z r:List M}{cO:List (Nat×Operand)}{fk:List (Nat×Nat×bZ)}{ρ:Operand->Value}{tm:Nat->M}{a4:Nat->Prop}(b0:P.underlying t=some (.struct eo))(a2:zeroOf P t=some z)
  (aZ:(eo.toList.all λf=>(gZ P f.type).isSome)=true) (aE:partsOf (wX P eo) cO=some fk) (hρ:∀x y,ev x=some y->bB w a4 B (bd tm y) (ρ x))
  (h:lK (bd tm) z fk=some r):∃v,(Instr.build t (cO.map λp=>(p.1,ρ p.2)).toArray).run P w=.ok v w/\bB w a4 B (.agg r) v:=by
 obtain⟨i,j2,O,vt,cm⟩:=FR (P:=P) (w:=w) (B:=B) (a4:=a4) a2;obtain⟨pl,F,G⟩:=atS (w:=w) aZ;obtain⟨pD,aH,X⟩:=RH (place:=wX P eo) hρ cO fk _ r _ aE cm h;refine⟨.agg pD,?_,by rw[show pD=pD.toList.toArray from by simp];exact .agg X.1 X.2⟩
 ·have yt:∀i,pl.toArray[i]?=wX P eo i:=λi=>by simpa using G i
  have hm:(eo.mapM λf=>(do pure (f.offset,<-sizeOf f.type):Sem (Nat×Nat))).run P w=.ok pl.toArray w:=by
   rw[Array.mapM_eq_mapM_toList];rw[map_eq_pure_bind];simp only[Sem.run_bind,F,Result.andThen_ok,Sem.run_pure]
  simp only[Instr.build,Sem.run_bind,MI O vt,Result.andThen_ok,Sem.run_pure,run_underlying b0,hm,atT yt,aH]
def atV {t e:TypeId}{n sz:Nat}{z r:List M}{cO:List (Nat×Operand)}{fk:List (Nat×Nat×bZ)}{ρ:Operand->Value}{tm:Nat->M}{a4:Nat->Prop}(b0:P.underlying t=some (.array n e))(a2:zeroOf P t=some z)
  (R:gZ P e=some sz) (aE:partsOf (λi=>some (i*sz,sz)) cO=some fk) (hρ:∀x y,ev x=some y->bB w a4 B (bd tm y) (ρ x))
  (h:lK (bd tm) z fk=some r):∃v,(Instr.build t (cO.map λp=>(p.1,ρ p.2)).toArray).run P w=.ok v w/\bB w a4 B (.agg r) v:=by
 obtain⟨i,j2,O,vt,cm⟩:=FR (P:=P) (w:=w) (B:=B) (a4:=a4) a2;obtain⟨pD,aH,X⟩:=RH (place:=λi=>some (i*sz,sz)) hρ cO fk _ r _ aE cm h;refine⟨.agg pD,?_,by rw[show pD=pD.toList.toArray from by simp];exact .agg X.1 X.2⟩
 simp only[Instr.build,Sem.run_bind,MI O vt,Result.andThen_ok,Sem.run_pure,run_underlying b0,wZ R,aH]
end Go.Mini
namespace Go.Mini
open Go
variable {P:Program} {A:Nat->Prop} {w:World} {B:fu} {mem:Mem}
def atW (n:Next)(v:Value):Prop:=n=.value v\/(n=.skip/\v=undef)
def jF (A:Nat->Prop)(w:World)(B:fu)(run:Result Next)(mem':Mem)(r:M):Prop :=
 ∃n v aX bD,run=.ok n aX/\atW n v/\e6 A w B aX bD mem'/\bB aX (ct A bD) bD r v
def jF.nx {s:Sem Value}{r:M}(cf:fQ A w B mem)(h:∃v,s.run P w=.ok v w/\bB w (ct A B) B r v):jF A w B ((do pure (.value (<-s)):Sem Next).run P w) mem r:=by
 obtain⟨v,F,G⟩:=h;exact⟨.value v,v,w,B,by simp[F],.inl rfl,.refl cf,G⟩
def jF.of {s:Sem Value}{mem':Mem}{r:M}(h:∃v aX bD,s.run P w=.ok v aX/\e6 A w B aX bD mem'/\bB aX (ct A bD) bD r v):jF A w B ((do pure (.value (<-s)):Sem Next).run P w) mem' r:=by
 obtain⟨v,aX,bD,F,G,ab⟩:=h;exact⟨.value v,v,aX,bD,by simp[F],.inl rfl,G,ab⟩
def afy {x:Option M}{r:M}{k2:Option (Key×Nat×List M)}(h:kp x=some (r,k2)):x=some r/\k2=none:=by
 unfold kp at h
 split at h<;>cases h
 exact⟨rfl,rfl⟩
def r3 {x:Option Nat}{f:Nat->Option M}{r:M}(h:jr x f=some r):∃n,x=some n/\f n=some r:=by
 unfold jr at h
 split at h
 ·exact⟨_,rfl,h⟩
 ·cases h
def afz {x y:Option Nat}{f:Nat->Nat->Out}{r:M×Option (Key×Nat×List M)}(h:Ms x y f=some r):∃n m,x=some n/\y=some m/\f n m=some r:=by
 unfold Ms at h
 split at h
 ·exact⟨_,_,rfl,rfl,h⟩
 ·cases h
def FY {a4:Nat->Prop}{ρ:Operand->Value}{tm:Nat->M}(hρ:∀x y,ev x=some y->bB w a4 B (bd tm y) (ρ x)){x:Option Operand}{y:Option bZ}(h:vm x=some y):s4 w a4 B (y.map (bd tm)) (x.map ρ):=by
 cases x with
 |none=>simp[vm] at h;subst h;simp[s4]
 |some x =>
  simp only[vm,eL] at h;obtain⟨y',aj,rfl⟩:=h;simp only[ks,s4];exact hρ _ _ aj
def afA {eo:Array Field}{f o s:Nat}(h:wX P eo f=some (o,s)):∃fd,eo[f]?=some fd/\fd.offset=o/\gZ P fd.type=some s:=by
 simp only[wX,hX,h9,eS,cF,fq] at h;obtain⟨fd,F,afB,G,ab,aV⟩:=h;exact⟨fd,F,ab,aV ▸ G⟩
def zW {a4:Nat->Prop}{ρ:Operand->Value}{tm:Nat->M}(hρ:∀x y,ev x=some y->bB w a4 B (bd tm y) (ρ x)):∀{l:List Operand} {r:List bZ},l.mapM ev=some r->dL w a4 B (r.map (bd tm)) (l.map ρ)
 | [],r,h=>by simp at h;subst h;exact dL.nil
 |x::l,r,h=>by
  simp only[ns,hX,h9,eS,cF] at h;obtain⟨y,aj,zQ,X,rfl⟩:=h;exact dL.cons (hρ _ _ aj) (zW hρ X)
def DA {α β:Type}(a:Array α)(f:α->β):a.map f=(a.toList.map f).toArray:=by
 apply Array.ext';simp
def kt {tm:Nat->M}{m:kN}{r:M}{k2:Option (Key×Nat×List M)}{x:Option M}(h:cB mem tm m=some (r,k2))(e:cB mem tm m=kp x):x=some r/\k2=none:=afy (e.symm.trans h)
def atX {ρ:Operand->Value}{tm:Nat->M}{kb:Nat}{own:List Nat}{dst:Option Tmp}{type:TypeId}{c:Call}{m:kN}{r:M}{k2:Option (Key×Nat×List M)}(cf:fQ A w B mem)
  (hρ:∀x y,ev x=some y->bB w (ct A B) B (bd tm y) (ρ x)) (a8:zM P kb own dst type c=some m) (h:cB mem tm m=some (r,k2)) :
  jF A w B ((do let d <-resolve ρ c type;invoke d.target d.args:Sem Next).run P w) (jC mem k2) r:=by
 obtain⟨callee,args,argTypes⟩:=c;have two:∀{α:Type} (a:Array α) (x y:α),a.toList=[x,y]->a=#[x,y]:=λa x y h=>Array.ext' (by simpa using h);have one:∀{α:Type} (a:Array α) (x:α),a.toList=[x]->a=#[x]:=λa x h=>Array.ext' (by simpa using h);unfold zM at a8
 split at a8
 ·rename_i x t J aZ b0;simp only at J aZ b0;subst J;obtain rfl:=one _ _ aZ;obtain rfl:=one _ _ b0
  split at a8
  ·rename_i e hu;simp only[eL] at a8;obtain⟨y,aj,rfl⟩:=a8;obtain⟨bq,rfl⟩:=kt h rfl;obtain⟨n,aL,bq⟩:=r3 bq
   cases bq;have:=atj (P:=P) (w:=w) t type e hu (hρ _ _ aj) aL;exact⟨.value _,_,w,B,by simp[resolve,invoke,builtin,this],.inl rfl,.refl cf,.H .int⟩
  ·rename_i hu;simp only[eL] at a8;obtain⟨y,aj,rfl⟩:=a8;obtain⟨bq,rfl⟩:=kt h rfl;obtain⟨n,aL,bq⟩:=r3 bq
   cases bq;have:=atk (P:=P) (w:=w) t type hu (hρ _ _ aj) aL;exact⟨.value _,_,w,B,by simp[resolve,invoke,builtin,this],.inl rfl,.refl cf,.H .int⟩
  ·cases a8
 ·rename_i s x t u J aZ b0;simp only at J aZ b0;subst J;obtain rfl:=two _ _ _ aZ;obtain rfl:=two _ _ _ b0
  split at a8
  ·rename_i e aC hu afC;simp only[hX,h9,eS] at a8;obtain⟨z,a2,b,ad,n,aL,d,Z,afB,kQ,ku,r4,a1⟩:=a8
   split at a1
   ·rename_i lQ;obtain⟨rfl,ay,rfl⟩:=lQ
    cases a1;simp only[cB] at h
    cases gj:rY mem (D z) (bd tm ku) with
    |none =>
     rw[gj] at h
     revert h
     cases bd tm afB<;>simp[sX]
    |some p =>
     obtain⟨k,new⟩:=p;rw[gj] at h;obtain⟨v,aX,bD,F,G,ab⟩:=atI (ty:=type) _ cf hu a2 aL ad ay (hρ _ _ kQ) (hρ _ _ r4) gj h;exact⟨.value v,v,aX,bD,by simp[resolve,invoke,builtin,F],.inl rfl,G,ab⟩
   ·cases a1
  ·cases a8
 ·rename_i aK3 x t u J aZ b0;simp only at J aZ b0;subst J;obtain rfl:=two _ _ _ aZ;obtain rfl:=two _ _ _ b0
  split at a8
  ·rename_i e aC hu afC;simp only[hX,h9,eS] at a8;obtain⟨n,aL,a1⟩:=a8
   split at a1
   ·rename_i ay;simp only[eS,cF] at a1;obtain⟨zX,ou,ku,r4,rfl⟩:=a1;simp only[cB] at h
    cases gj:rY mem n (bd tm ku) with
    |none =>
     rw[gj] at h
     revert h
     cases bd tm zX<;>simp[yj]
    |some p =>
     obtain⟨k,new⟩:=p;rw[gj] at h;obtain⟨v,aX,F,G,ab⟩:=atL (u:=u) (ty:=type) cf hu aL (hρ _ _ ou) (hρ _ _ r4) gj h;exact⟨.value v,v,aX,B,by simp[resolve,invoke,builtin,F],.inl rfl,G,ab⟩
   ·cases a1
  ·cases a8
 ·rename_i x t J aZ b0;simp only at J aZ b0;subst J;obtain rfl:=one _ _ aZ;obtain rfl:=one _ _ b0
  split at a8
  ·rename_i e hu;simp only[hX,h9,eS] at a8;obtain⟨z,a2,n,aL,a1⟩:=a8
   split at a1
   ·rename_i ay;simp only[eS,cF] at a1;obtain⟨ku,r4,rfl⟩:=a1;simp only[cB] at h;obtain⟨v,aX,F,G,ab⟩:=atO (ty:=type) cf hu a2 (by omega) (hρ _ _ r4) h;exact⟨.value v,v,aX,B,by simp[resolve,invoke,builtin,F],.inl rfl,G,ab⟩
   ·cases a1
  ·cases a8
 ·rename_i x y J aZ;simp only at J aZ;subst J;obtain rfl:=two _ _ _ aZ;simp only[hX,h9,eS,cF] at a8;obtain⟨ku,L,y',aj,rfl⟩:=a8;obtain⟨bq,rfl⟩:=kt h rfl;obtain⟨z,F,G⟩:=ae9 (P:=P) argTypes type (hρ _ _ L) (hρ _ _ aj) bq;simp only[if_true] at F;exact⟨.value z,z,w,B,by simp[resolve,invoke,builtin,F],.inl rfl,.refl cf,G⟩
 ·rename_i x y J aZ;simp only at J aZ;subst J;obtain rfl:=two _ _ _ aZ;simp only[hX,h9,eS,cF] at a8;obtain⟨ku,L,y',aj,rfl⟩:=a8;obtain⟨bq,rfl⟩:=kt h rfl;obtain⟨z,F,G⟩:=ae9 (P:=P) argTypes type (hρ _ _ L) (hρ _ _ aj) bq;simp only[k1,if_false] at F;exact⟨.value z,z,w,B,by simp[resolve,invoke,builtin,F],.inl rfl,.refl cf,G⟩
 ·split at a8
  ·split at a8
   ·simp only[hX,h9,eS,cF] at a8;obtain⟨_,_,_,_,_,_,rfl⟩:=a8
    cases h
   ·cases a8
  ·split at a8
   ·(repeat' split at a8)<;>simp only[hX,h9,eS,cF] at a8
    all_goals
     obtain⟨_,_,rfl⟩:=a8
     cases h
   ·simp only[hX,h9,eS,cF] at a8;obtain⟨_,_,rfl⟩:=a8
    cases h
 ·simp only[hX,h9,eS,cF] at a8;obtain⟨_,_,_,_,rfl⟩:=a8
  cases h
 ·cases a8
def afD {ρ:Operand->Value}{tm:Nat->M}{kb:Nat}{own:List Nat}{o:Oper}{m:kN}{r:M}{k2:Option (Key×Nat×List M)}(cf:fQ A w B mem)
  (hρ:∀x y,ev x=some y->bB w (ct A B) B (bd tm y) (ρ x)) (a8:k0 P kb own o.dst o.type o.op=some m) (h:cB mem tm m=some (r,k2)) :
  jF A w B ((execOp ρ o).run P w) (jC mem k2) r:=by
 obtain⟨dst,op,type,pos,after,guard⟩:=o;simp only at a8
 cases op<;>simp only[k0] at a8<;>simp only[execOp]
 case move x =>
  simp only[eL] at a8;obtain⟨y,aj,rfl⟩:=a8;obtain⟨bq,rfl⟩:=kt (x:=some (bd tm y)) h rfl
  cases bq;exact⟨_,_,w,B,rfl,.inl rfl,.refl cf,hρ _ _ aj⟩
 case assign x =>
  simp only[eL] at a8;obtain⟨y,aj,rfl⟩:=a8;obtain⟨bq,rfl⟩:=kt (x:=some (bd tm y)) h rfl
  cases bq;exact⟨_,_,w,B,rfl,.inl rfl,.refl cf,hρ _ _ aj⟩
 case pick c a b =>
  simp only[hX,h9,eS,cF] at a8;obtain⟨c',J,lN,aZ,fS,ad,rfl⟩:=a8;obtain⟨bq,rfl⟩:=kt h rfl;have:=jF.nx cf (as7 (P:=P) (hρ _ _ J) (hρ _ _ aZ) (hρ _ _ ad) bq)
  simpa [jC] using this
 case alloc e =>
  simp only[hX,h9,eS,cF] at a8;obtain⟨d,Z,z,a2,rfl⟩:=a8;simp only[cB,cF,fq] at h;obtain⟨rfl,rfl⟩:=h;exact jF.of (atw _ cf a2)
 case box e x =>
  simp only[hX,h9,eS,cF] at a8;obtain⟨d,Z,y,aj,rfl⟩:=a8;simp only[cB] at h
  split at h
  ·rename_i I;simp only[cF,fq] at h;obtain⟨rfl,rfl⟩:=h;exact jF.of (atx _ cf (hρ _ _ aj) I)
  ·cases h
 case build t cO =>
  split at a8
  ·rename_i eo hu
   split at a8
   ·rename_i aZ;simp only[hX,h9,eS,cF] at a8;obtain⟨z,a2,fk,BC,rfl⟩:=a8;obtain⟨bq,rfl⟩:=kt h rfl;simp only[ma,eL] at bq;obtain⟨cs,jD,rfl⟩:=bq;rw[DA];exact jF.nx cf (atU hu a2 aZ BC hρ jD)
   ·cases a8
  ·rename_i n e hu;simp only[hX,h9,eS,cF] at a8;obtain⟨s,R,z,a2,fk,BC,rfl⟩:=a8;obtain⟨bq,rfl⟩:=kt h rfl;simp only[ma,eL] at bq;obtain⟨cs,jD,rfl⟩:=bq;rw[DA];exact jF.nx cf (atV hu a2 R BC hρ jD)
  ·cases a8
 case buildSlice t len cO =>
  split at a8
  ·rename_i e hu;simp only[hX,h9,eS] at a8;obtain⟨z,a2,s,R,fk,BC,d,Z,a1⟩:=a8
   split at a1
   ·rename_i J;obtain⟨BD,ay,aq⟩:=J;simp only[cF] at a1;subst a1;rw[DA]
    cases q9:own.contains d with
    |true =>
     rw[q9] at h;exact jF.of (atD _ cf hu a2 R BD ay aq BC hρ h)
    |false =>
     rw[q9] at h;obtain⟨bq,rfl⟩:=kt h rfl;obtain⟨v,aX,F,G,ab⟩:=atC cf hu a2 R BD ay aq BC hρ bq;exact jF.of ⟨v,aX,B,F,G,ab⟩
   ·cases a1
  ·cases a8
 case load t x =>
  simp only[hX,h9,eS,cF] at a8;obtain⟨n,aL,g,bb,y,aj,rfl⟩:=a8;obtain⟨bq,rfl⟩:=kt h rfl;exact jF.nx cf (as6 aL bb cf (hρ _ _ aj) bq)
 case store t x v =>
  simp only[hX,h9,eS,cF] at a8;obtain⟨n,aL,ku,L,FO,aN,rfl⟩:=a8;obtain⟨aX,F,G,rfl⟩:=atz cf aL (hρ _ _ L) (hρ _ _ aN) h;exact⟨.skip,undef,aX,B,by simp[F],.inr ⟨rfl,rfl⟩,G,.no⟩
 case nilCheck x =>
  simp only[eL] at a8;obtain⟨y,aj,rfl⟩:=a8;obtain⟨bq,rfl⟩:=kt h rfl;obtain⟨⟨b,off,L⟩,X⟩:=atl (hρ _ _ aj) bq;rw[L] at X ⊢;exact⟨_,_,w,B,rfl,.inl rfl,.refl cf,X⟩
 case binOp bop t x y pos2 =>
  unfold Br at a8
  split at a8
  ·split at a8
   ·rename_i ku y' L aj
    cases a8;obtain⟨bq,rfl⟩:=kt h rfl;exact jF.nx cf (ae0 t x y (hρ _ _ L) (hρ _ _ aj) bq)
   ·cases a8
  ·split at a8
   ·rename_i ku y' L aj
    cases a8;obtain⟨bq,rfl⟩:=kt h rfl;exact jF.nx cf (ae0 t x y (hρ _ _ L) (hρ _ _ aj) bq)
   ·cases a8
  ·rename_i hu
   split at a8
   ·rename_i ku y' L aj
    cases a8;obtain⟨bq,rfl⟩:=kt h rfl;exact jF.nx cf (ae1 (neg:=false) t x y hu (hρ _ _ L) (hρ _ _ aj) bq)
   ·rename_i ku y' L aj
    cases a8;obtain⟨bq,rfl⟩:=kt h rfl;exact jF.nx cf (ae1 (neg:=true) t x y hu (hρ _ _ L) (hρ _ _ aj) bq)
   ·cases a8
  ·rename_i eo hu
   split at a8
   ·unfold ym at a8
    split at a8
    ·rename_i J
     split at a8
     ·rename_i hz ku y' I L aj
      cases a8;obtain⟨bq,rfl⟩:=kt h rfl;exact jF.nx cf (ae7 (neg:=false) t x y eo hu J.1 J.2 I (hρ _ _ L) (hρ _ _ aj) bq)
     ·cases a8
    ·cases a8
   ·unfold ym at a8
    split at a8
    ·rename_i J
     split at a8
     ·rename_i hz ku y' I L aj
      cases a8;obtain⟨bq,rfl⟩:=kt h rfl;exact jF.nx cf (ae7 (neg:=true) t x y eo hu J.1 J.2 I (hρ _ _ L) (hρ _ _ aj) bq)
     ·cases a8
    ·cases a8
   ·cases a8
  ·split at a8
   ·split at a8
    ·simp only[eL] at a8;obtain⟨_,_,rfl⟩:=a8
     cases h
    ·simp only[eL] at a8;obtain⟨_,_,rfl⟩:=a8
     cases h
    ·cases a8
   ·cases a8
  ·cases a8
 case unOp uop t x =>
  simp only[eL] at a8;obtain⟨y,aj,rfl⟩:=a8;obtain⟨bq,rfl⟩:=kt h rfl;exact jF.nx cf (as8 (hρ _ _ aj) bq)
 case convert s t x =>
  split at a8
  ·rename_i hz k R b0;simp only[eL] at a8;obtain⟨y,aj,rfl⟩:=a8;obtain⟨bq,rfl⟩:=kt h rfl;exact jF.nx cf (as9 s t hz R b0 (hρ _ _ aj) bq)
  ·cases a8
 case makeFunc fn first fh =>
  cases fn<;>simp only[reduceCtorEq] at a8
  split at a8
  ·rename_i fw;simp only[hX,h9,eS,cF] at a8;obtain⟨cs,jD,rfl⟩:=a8;obtain⟨bq,rfl⟩:=kt (x:=some (.gH _ (cs.map (bd tm)))) h rfl
   cases bq;have w5:first=#[]:=Array.eq_empty_of_size_eq_zero fw
   subst w5;have aq:=zW hρ jD;exact jF.nx cf ⟨_,by rw[DA fh,Array.map_empty];rfl,.gH aq.1 aq.2⟩
  ·cases a8
 case makeSlice t l c =>
  split at a8
  ·rename_i e he;simp only[hX,h9,eS] at a8;obtain⟨z,a2,s,R,b,ad,d,Z,a1⟩:=a8
   split at a1
   ·rename_i J;simp only[eS,cF] at a1;obtain⟨gb,aq,c',lR,rfl⟩:=a1;simp only[cB] at h;obtain⟨hB,ib,F,G,ab⟩:=afz h;obtain⟨rfl,ay⟩:=J;exact jF.of (aty _ cf he a2 R ad F G (hρ _ _ aq) (hρ _ _ lR) ay ab)
   ·cases a1
  ·cases a8
 case slice t x b6 O ln =>
  split at a8
  ·rename_i e hu;simp only[hX,h9,eS] at a8;obtain⟨s,R,a1⟩:=a8
   split at a1
   ·simp only[eS,cF] at a1;obtain⟨y,aj,afE,fK,mD,kr,MO,js,rfl⟩:=a1;have nX:=FY hρ fK;have mX:=FY hρ kr;have IZ:=FY hρ js
    cases MO with
    |none =>
     cases ln with
     |some v=>simp[vm,eL] at js
     |none =>
      obtain⟨bq,rfl⟩:=kt h rfl;obtain⟨l,aq,bq⟩:=r3 bq;obtain⟨len,hlen,bq⟩:=r3 bq;obtain⟨a1,FZ,bq⟩:=r3 bq;exact jF.nx cf (atp hu R aq hlen FZ nX mX (hρ _ _ aj) bq)
    |some MO =>
     cases mD with
     |none=>cases h
     |some mD =>
      cases O with
      |none=>simp[s4] at mX
      |some O =>
       cases ln with
       |none=>simp[s4] at IZ
       |some ln =>
        obtain⟨bq,rfl⟩:=kt h rfl;obtain⟨l,aq,bq⟩:=r3 bq;obtain⟨a1,FZ,bq⟩:=r3 bq;obtain⟨m,hm,bq⟩:=r3 bq;exact jF.nx cf (atr hu R aq FZ hm nX mX IZ (hρ _ _ aj) bq)
   ·cases a1
  ·rename_i n e hu;simp only[hX,h9,eS] at a8;obtain⟨s,R,a1⟩:=a8
   split at a1
   ·rename_i J;simp only[eS,cF] at a1;obtain⟨y,aj,afE,fK,mD,kr,MO,js,rfl⟩:=a1;have nX:=FY hρ fK;have mX:=FY hρ kr
    cases MO with
    |none =>
     cases ln with
     |some v=>simp[vm,eL] at js
     |none =>
      obtain⟨bq,rfl⟩:=kt h rfl;obtain⟨l,aq,bq⟩:=r3 bq;obtain⟨a1,FZ,bq⟩:=r3 bq;exact jF.nx cf (atQ cf hu R J.2 aq FZ nX mX (hρ _ _ aj) bq)
    |some MO=>cases h
   ·cases a1
  ·rename_i hu
   split at a8
   ·rename_i js;simp only[hX,h9,eS,cF] at a8;obtain⟨y,aj,afE,fK,mD,kr,rfl⟩:=a8;have nX:=FY hρ fK;have mX:=FY hρ kr
    cases ln with
    |some v=>cases js
    |none =>
     obtain⟨bq,rfl⟩:=kt h rfl;obtain⟨l,aq,bq⟩:=r3 bq;obtain⟨len,hlen,bq⟩:=r3 bq;obtain⟨a1,FZ,bq⟩:=r3 bq;exact jF.nx cf (ats hu aq hlen FZ nX mX (hρ _ _ aj) bq)
   ·cases a8
  ·cases a8
 case fieldAddr t x f =>
  split at a8
  ·rename_i eo hu;simp only[hX,h9,eS] at a8;obtain⟨⟨o,s⟩,aE,a1⟩:=a8
   split at a1
   ·rename_i ay;simp only[eS,cF] at a1;obtain⟨y,aj,rfl⟩:=a1;obtain⟨fd,F,G,ab⟩:=afA aE;obtain⟨bq,rfl⟩:=kt h rfl;exact jF.nx cf (ata t f eo fd s hu F ab ay G (hρ _ _ aj) bq)
   ·cases a1
  ·cases a8
 case field t x f =>
  split at a8
  ·rename_i eo hu;simp only[hX,h9,eS,cF] at a8;obtain⟨fd,XI,⟨o,s⟩,aE,g,bb,y,aj,rfl⟩:=a8;obtain⟨aK4,F,G,ab⟩:=afA aE;rw[XI] at F
   cases F;obtain⟨bq,rfl⟩:=kt h rfl;exact jF.nx cf (atd t f eo fd hu XI ab bb G (hρ _ _ aj) bq)
  ·cases a8
 case indexAddr t x i =>
  split at a8
  ·rename_i e hu;simp only[hX,h9,eS] at a8;obtain⟨s,R,a1⟩:=a8
   split at a1
   ·simp only[eS,cF] at a1;obtain⟨y,aj,j,ae,rfl⟩:=a1;obtain⟨bq,rfl⟩:=kt h rfl;obtain⟨n,aL,bq⟩:=r3 bq;obtain⟨k,I⟩:=IX aL (hρ _ _ ae);rw[I];exact jF.nx cf (atf t e hu R (hρ _ _ aj) bq)
   ·cases a1
  ·rename_i len e hu;simp only[hX,h9,eS] at a8;obtain⟨s,R,a1⟩:=a8
   split at a1
   ·simp only[eS,cF] at a1;obtain⟨y,aj,j,ae,rfl⟩:=a1;obtain⟨bq,rfl⟩:=kt h rfl;obtain⟨n,aL,bq⟩:=r3 bq;obtain⟨k,I⟩:=IX aL (hρ _ _ ae);rw[I];exact jF.nx cf (atg t e hu R (hρ _ _ aj) bq)
   ·cases a1
  ·cases a8
 case index t x i =>
  split at a8
  ·rename_i hu;simp only[hX,h9,eS,cF] at a8;obtain⟨y,aj,j,ae,rfl⟩:=a8;obtain⟨bq,rfl⟩:=kt h rfl;obtain⟨n,aL,bq⟩:=r3 bq;obtain⟨k,I⟩:=IX aL (hρ _ _ ae);rw[I];exact jF.nx cf (ath t hu (hρ _ _ aj) bq)
  ·cases a8
 case extract x i =>
  simp only[eL] at a8;obtain⟨y,aj,rfl⟩:=a8;obtain⟨bq,rfl⟩:=kt h rfl;exact jF.nx cf (ati (hρ _ _ aj) bq)
 case call c =>
  exact atX cf hρ a8 h
 all_goals cases a8
end Go.Mini
namespace Go.Mini
open Go
inductive fT where
 |code (c:er)
 |inBlock (id:Nat)
def cg (T:ba)(K:eK->bc->Prop):List fT->eK->bc->Prop
 | [],e,st=>K e st
 |.code c::k,.normal,st=>wp T c (cg T K k) st
 |.code _::k,.exit id,st=>cg T K k (.exit id) st
 |.code _::k,.ret,st=>cg T K k .ret st
 |.inBlock _::k,.normal,st=>cg T K k .normal st
 |.inBlock j::k,.exit id,st=>if id=j then cg T K k .normal st else cg T K k (.exit id) st
 |.inBlock _::k,.ret,st=>cg T K k .ret st
section
variable {T:ba} {K:eK->bc->Prop} {k:List fT} {st:bc}
def atY (c:er):(λe eC=>match e with
  |.normal=>wp T c (cg T K k) eC
  |e=>cg T K k e eC)=cg T K (.code c::k):=by
 funext e eC
 cases e<;>rfl
def atZ (id:Nat):(λe eC=>match e with
  |.exit j=>if j=id then cg T K k .normal eC else cg T K k (.exit j) eC
  |e=>cg T K k e eC)=cg T K (.inBlock id::k):=by
 funext e eC
 cases e<;>rfl
@[go_sem] def at0 (e:eK):cg T K [] e st=K e st:=by cases e<;>rfl
@[go_sem] def aK5 (c:er):cg T K (.code c::k) .normal st=wp T c (cg T K k) st:=bE
@[go_sem] def aK6 (c:er)(id:Nat):cg T K (.code c::k) (.exit id) st=cg T K k (.exit id) st:=bE
@[go_sem] def aK7 (c:er):cg T K (.code c::k) .ret st=cg T K k .ret st:=bE
@[go_sem] def aK8 (id:Nat):cg T K (.inBlock id::k) .normal st=cg T K k .normal st:=bE
@[go_sem] def aK9 (id j:Nat):cg T K (.inBlock j::k) (.exit id) st=if id=j then cg T K k .normal st else cg T K k (.exit id) st:=bE
@[go_sem] def aLa (id:Nat):cg T K (.inBlock id::k) .ret st=cg T K k .ret st:=bE
def ra {c:er}(h:wp T c (cg T K []) st):wp T c K st:=by
 have:cg T K []=K:=by funext e st;cases e<;>rfl
 rwa [this] at h
@[go_sem] def wp_seq (a b:er):wp T (.seq a b) (cg T K k) st=wp T a (cg T K (.code b::k)) st:=by
 rw[<-atY];rfl
@[go_sem] def wp_skip:wp T .skip (cg T K k) st=cg T K k .normal st:=bE
@[go_sem] def wp_ret:wp T .ret (cg T K k) st=cg T K k .ret st:=bE
@[go_sem] def wp_exit (id:Nat):wp T (.exit id) (cg T K k) st=cg T K k (.exit id) st:=bE
@[go_sem] def wp_block (id:Nat)(c:er):wp T (.block id c) (cg T K k) st=wp T c (cg T K (.inBlock id::k)) st:=by
 rw[<-atZ];rfl
def r5 (T:ba)(K:eK->bc->Prop)(k:List fT)(m:M)(a b:er)(st:bc):Prop :=
 match m with
 |.H (.bool t)=>if t=true then wp T a (cg T K k) st else wp T b (cg T K k) st
 |_=>False
@[go_sem] def wp_cond (c:bZ)(a b:er):wp T (.cond c a b) (cg T K k) st=r5 T K k (bd st.tm c) a b st:=bE
@[go_sem] def at1 (a b:er):r5 T K k (.H (.bool true)) a b st=wp T a (cg T K k) st:=bE
@[go_sem] def at2 (a b:er):r5 T K k (.H (.bool false)) a b st=wp T b (cg T K k) st:=bE
def I5 (T:ba)(K:eK->bc->Prop)(k:List fT)(l:List cN)(st:bc):Prop:=zL T (cg T K k .normal) l st
@[go_sem] def wp_ops (l:List cN):wp T (.ops l) (cg T K k) st=I5 T K k l st:=bE
@[go_sem] def aLb:I5 T K k [] st=cg T K k .normal st:=bE
def s7 (T:ba)(K:eK->bc->Prop)(k:List fT)(g:Option Bool)(i:cN)(r:List cN)(st:bc):Prop :=
 match g with
 |none=>False
 |some g=>if g=true then g5 T (zL T (cg T K k .normal) r) i st else I5 T K k r ⟨put st.tm i.dst .no,st.mem⟩
@[go_sem] def aLc (i:cN)(r:List cN):I5 T K k (i::r) st=s7 T K k (qg st.tm i.g) i r st:=bE
@[go_sem] def aLd (i:cN)(r:List cN):s7 T K k (some true) i r st=g5 T (I5 T K k r) i st:=bE
@[go_sem] def aLe (i:cN)(r:List cN):s7 T K k (some false) i r st=I5 T K k r ⟨put st.tm i.dst .no,st.mem⟩:=bE
def DB (T:ba)(K:eK->bc->Prop)(k:List fT)(n:Nat)(l:List cN)(c:List (List Nat))(rec:Rec)(st:bc):Prop:=yl T (cg T K k .normal) n l c rec st
@[go_sem] def aLf (l:List cN)(c:List (List Nat)):wp T (.l9 l c) (cg T K k) st=DB T K k 0 l c (λ_=>none) st:=bE
@[go_sem] def aLg (n:Nat)(c:List (List Nat))(rec:Rec):DB T K k n [] c rec st=cg T K k .normal st:=bE
def s8 (T:ba)(K:eK->bc->Prop)(k:List fT)(n:Nat)(g:Option Bool)(i:cN)(r:List cN)(c:List (List Nat))(rec:Rec)(st:bc):Prop :=
 match g with
 |none=>False
 |some g=>if g=true then (match iv T st.mem st.tm i.op with
    |some (m,e)=>IG rec (kZ i.op,en st.tm i.op) (c.headD [])=true/\DB T K k (n+1) r c.tail (wW rec n (kZ i.op,en st.tm i.op)) ⟨put st.tm i.dst m,jC st.mem e⟩
    |none=>False) else DB T K k (n+1) r c.tail rec ⟨put st.tm i.dst .no,st.mem⟩
@[go_sem] def aLh (n:Nat)(i:cN)(r:List cN)(c:List (List Nat))(rec:Rec):DB T K k n (i::r) c rec st=s8 T K k n (qg st.tm i.g) i r c rec st:=bE
def afF (T:ba)(K:eK->bc->Prop)(k:List fT)(n:Nat)(x:Option (M×Option (Key×Nat×List M)))(i:cN)(r:List cN)(c:List (List Nat))(rec:Rec)(st:bc):Prop :=
 match x with
 |some (m,e)=>IG rec (kZ i.op,en st.tm i.op) (c.headD [])=true/\DB T K k (n+1) r c.tail (wW rec n (kZ i.op,en st.tm i.op)) ⟨put st.tm i.dst m,jC st.mem e⟩
 |none=>False
@[go_sem] def aLi (n:Nat)(i:cN)(r:List cN)(c:List (List Nat))(rec:Rec):s8 T K k n (some true) i r c rec st=afF T K k n (iv T st.mem st.tm i.op) i r c rec st:=bE
@[go_sem] def aLj (n:Nat)(i:cN)(r:List cN)(c:List (List Nat))(rec:Rec):s8 T K k n (some false) i r c rec st=DB T K k (n+1) r c.tail rec ⟨put st.tm i.dst .no,st.mem⟩:=bE
@[go_sem] def aLk (n:Nat)(m:M)(e:Option (Key×Nat×List M))(i:cN)(r:List cN)(c:List (List Nat))(rec:Rec):afF T K k n (some (m,e)) i r c rec st =
 (IG rec (kZ i.op,en st.tm i.op) (c.headD [])=true/\DB T K k (n+1) r c.tail (wW rec n (kZ i.op,en st.tm i.op)) ⟨put st.tm i.dst m,jC st.mem e⟩):=bE
end
section
variable {T:ba} {K:bc->Prop} {st:bc} {tm:Nat->M} {mem:Mem}
def kR (K:bc->Prop)(x:Option (M×Option (Key×Nat×List M)))(d:Option Nat)(st:bc):Prop :=
 match x with
 |some (m,e)=>K ⟨put st.tm d m,jC st.mem e⟩
 |none=>False
@[go_sem] def aLl (m:M)(e:Option (Key×Nat×List M))(d:Option Nat):kR K (some (m,e)) d st=K ⟨put st.tm d m,jC st.mem e⟩:=bE
variable (d:Option Nat) (g:Option (Nat×Bool))
@[go_sem] def aLm (x:bZ):g5 T K ⟨d,g,.ko x⟩ st=K ⟨put st.tm d (bd st.tm x),st.mem⟩:=bE
@[go_sem] def aLn (c a b:bZ):g5 T K ⟨d,g,.pick c a b⟩ st=kR K (cB st.mem st.tm (.pick c a b)) d st:=bE
@[go_sem] def aLo (k:Key)(z:List M):g5 T K ⟨d,g,.alloc k z⟩ st=K ⟨put st.tm d (.ptr k (ca st.mem k) 0),a5 st.mem k (ca st.mem k) z⟩:=bE
@[go_sem] def aLp (k:Key)(x:bZ):g5 T K ⟨d,g,.box k x⟩ st=kR K (cB st.mem st.tm (.box k x)) d st:=bE
@[go_sem] def aLq (z:List M)(cO:List (Nat×Nat×bZ)):g5 T K ⟨d,g,.build z cO⟩ st=kR K (cB st.mem st.tm (.build z cO)) d st:=bE
@[go_sem] def aLr (k:Key)(o:Bool)(z:List M)(sz len:Nat)(cO:List (Nat×Nat×bZ)):g5 T K ⟨d,g,.eW k o z sz len cO⟩ st=kR K (cB st.mem st.tm (.eW k o z sz len cO)) d st:=bE
@[go_sem] def aLs (n:Nat)(eG:Bool)(x:bZ):g5 T K ⟨d,g,.load n eG x⟩ st=kR K (cB st.mem st.tm (.load n eG x)) d st:=bE
@[go_sem] def aLt (n:Nat)(x v:bZ):g5 T K ⟨d,g,.store n x v⟩ st=kR K (cB st.mem st.tm (.store n x v)) d st:=bE
@[go_sem] def aLu (op:BinOp)(x y:bZ):g5 T K ⟨d,g,.bin op x y⟩ st=kR K (cB st.mem st.tm (.bin op x y)) d st:=bE
@[go_sem] def aLv (b:Bool)(n:List Nat)(x y:bZ):g5 T K ⟨d,g,.eqs b n x y⟩ st=kR K (cB st.mem st.tm (.eqs b n x y)) d st:=bE
@[go_sem] def aLw (b:Bool)(x y:bZ):g5 T K ⟨d,g,.beq b x y⟩ st=kR K (cB st.mem st.tm (.beq b x y)) d st:=bE
@[go_sem] def aLx (op:UnOp)(x:bZ):g5 T K ⟨d,g,.un op x⟩ st=kR K (cB st.mem st.tm (.un op x)) d st:=bE
@[go_sem] def aLy (k:IntKind)(x:bZ):g5 T K ⟨d,g,.conv k x⟩ st=kR K (cB st.mem st.tm (.conv k x)) d st:=bE
@[go_sem] def aLz (x:bZ):g5 T K ⟨d,g,.oq x⟩ st=kR K (cB st.mem st.tm (.oq x)) d st:=bE
@[go_sem] def aLA (k:Key)(z:List M)(b:Nat)(x y:bZ):g5 T K ⟨d,g,.mC k z b x y⟩ st=kR K (cB st.mem st.tm (.mC k z b x y)) d st:=bE
@[go_sem] def aLB (o:Nat)(x:bZ):g5 T K ⟨d,g,.zI o x⟩ st=kR K (cB st.mem st.tm (.zI o x)) d st:=bE
@[go_sem] def aLC (o n:Nat)(eG:Bool)(x:bZ):g5 T K ⟨d,g,.Dq o n eG x⟩ st=kR K (cB st.mem st.tm (.Dq o n eG x)) d st:=bE
@[go_sem] def aLD (s:Nat)(x i:bZ):g5 T K ⟨d,g,.q2 s x i⟩ st=kR K (cB st.mem st.tm (.q2 s x i)) d st:=bE
@[go_sem] def aLE (n s:Nat)(x i:bZ):g5 T K ⟨d,g,.qe n s x i⟩ st=kR K (cB st.mem st.tm (.qe n s x i)) d st:=bE
@[go_sem] def aLF (x i:bZ):g5 T K ⟨d,g,.idxs x i⟩ st=kR K (cB st.mem st.tm (.idxs x i)) d st:=bE
@[go_sem] def aLG (s:Nat)(x:bZ)(a b c:Option bZ):g5 T K ⟨d,g,.ua s x a b c⟩ st=kR K (cB st.mem st.tm (.ua s x a b c)) d st:=bE
@[go_sem] def aLH (n s:Nat)(x:bZ)(a b c:Option bZ):g5 T K ⟨d,g,.vi n s x a b c⟩ st=kR K (cB st.mem st.tm (.vi n s x a b c)) d st:=bE
@[go_sem] def aLI (x:bZ)(a b:Option bZ):g5 T K ⟨d,g,.FH x a b⟩ st=kR K (cB st.mem st.tm (.FH x a b)) d st:=bE
@[go_sem] def aLJ (i:Nat)(x:bZ):g5 T K ⟨d,g,.ext i x⟩ st=kR K (cB st.mem st.tm (.ext i x)) d st:=bE
@[go_sem] def aLK (x:bZ):g5 T K ⟨d,g,.len x⟩ st=kR K (cB st.mem st.tm (.len x)) d st:=bE
@[go_sem] def aLL (x:bZ):g5 T K ⟨d,g,.lens x⟩ st=kR K (cB st.mem st.tm (.lens x)) d st:=bE
@[go_sem] def aLM (k:Key)(z:List M)(b:Nat)(s x:bZ):g5 T K ⟨d,g,.app k z b s x⟩ st=kR K (cB st.mem st.tm (.app k z b s x)) d st:=bE
@[go_sem] def aLN (z:List M)(x:bZ):g5 T K ⟨d,g,.wS z x⟩ st=kR K (cB st.mem st.tm (.wS z x)) d st:=bE
@[go_sem] def aLO (s:Nat)(x y:bZ):g5 T K ⟨d,g,.ub s x y⟩ st=kR K (cB st.mem st.tm (.ub s x y)) d st:=bE
@[go_sem] def aLP (b:Bool)(x y:bZ):g5 T K ⟨d,g,.jX b x y⟩ st=kR K (cB st.mem st.tm (.jX b x y)) d st:=bE
@[go_sem] def aLQ (f:FuncId)(l:List bZ):g5 T K ⟨d,g,.wT f l⟩ st=kR K (cB st.mem st.tm (.wT f l)) d st:=bE
def yu (K:bc->Prop)(x:Option hA)(d:Option Nat)(st:bc):Prop :=
 match x with
 |some (.same r)=>K ⟨put st.tm d (.H r),st.mem⟩
 |some (.own _ es)=>K ⟨put st.tm d (.H (.ax es)),st.mem⟩
 |some (.rel bC)=>∀r mem',bC r mem'->K ⟨put st.tm d r,mem'⟩
 |some (.dK r k g i c)=>K ⟨put st.tm d (.H r),a5 st.mem k g ((sY st.mem k).set i c)⟩
 |some (.Bp r k)=>K ⟨put st.tm d (.H r),a5 st.mem k (ca st.mem k) []⟩
 |none=>False
@[go_sem] def aLR (f:FuncId)(l:List bZ):g5 T K ⟨d,g,.call f l⟩ st=yu K (T f (l.map (bd st.tm)) st.mem) d st:=bE
@[go_sem] def aLS (r:Data)(k:Key)(g i:Nat)(c:M):yu K (some (.dK r k g i c)) d st=K ⟨put st.tm d (.H r),a5 st.mem k g ((sY st.mem k).set i c)⟩:=bE
@[go_sem] def aLT (r:Data)(k:Key):yu K (some (.Bp r k)) d st=K ⟨put st.tm d (.H r),a5 st.mem k (ca st.mem k) []⟩:=bE
@[go_sem] def aLU (r:Data):yu K (some (.same r)) d st=K ⟨put st.tm d (.H r),st.mem⟩:=bE
@[go_sem] def aLV (s:Nat)(es:List (List Data)):yu K (some (.own s es)) d st=K ⟨put st.tm d (.H (.ax es)),st.mem⟩:=bE
@[go_sem] def at3 (bC:M->Mem->Prop):yu K (some (.rel bC)) d st=∀r mem',bC r mem'->K ⟨put st.tm d r,mem'⟩:=bE
def XJ (T:ba)(K:bc->Prop)(m:M)(args:List M)(d:Option Nat)(st:bc):Prop :=
 match m with
 |.gH g fh=>yu K (T g (args++fh) st.mem) d st
 |.H (.fn g ds)=>yu K (T g (args++ds.map .H) st.mem) d st
 |_=>False
@[go_sem] def aLW (f:bZ)(l:List bZ):g5 T K ⟨d,g,.nn f l⟩ st=XJ T K (bd st.tm f) (l.map (bd st.tm)) d st:=bE
@[go_sem] def aLX (f:FuncId)(fh args:List M):XJ T K (.gH f fh) args d st=yu K (T f (args++fh) st.mem) d st:=bE
@[go_sem] def aLY (f:FuncId)(ds:List Data)(args:List M):XJ T K (.H (.fn f ds)) args d st=yu K (T f (args++ds.map .H) st.mem) d st:=bE
def XK (K:bc->Prop)(x:Option hA)(k:Key)(sz:Nat)(d:Option Nat)(st:bc):Prop :=
 match x with
 |some (.own eX es)=>if eX=sz then K ⟨put st.tm d (.ref k (ca st.mem k) sz 0 (D es)),a5 st.mem k (ca st.mem k) (es.flatten.map .H)⟩ else False
 |_=>False
@[go_sem] def aLZ (k:Key)(sz:Nat)(f:FuncId)(l:List bZ):g5 T K ⟨d,g,.nT k sz f l⟩ st=XK K (T f (l.map (bd st.tm)) st.mem) k sz d st:=bE
@[go_sem] def aL0 (k:Key)(sz:Nat)(es:List (List Data)):XK K (some (.own sz es)) k sz d st=K ⟨put st.tm d (.ref k (ca st.mem k) sz 0 (D es)),a5 st.mem k (ca st.mem k) (es.flatten.map .H)⟩:=by simp[XK]
def afG (K:bc->Prop)(neg:Bool)(x:Option Bool)(d:Option Nat)(st:bc):Prop :=
 match x with
 |some full=>∀b:Bool,(full=true->b=false)->K ⟨put st.tm d (.H (.bool (neg != b))),st.mem⟩
 |none=>False
@[go_sem] def aL1 (neg:Bool)(x:bZ):g5 T K ⟨d,g,.rX neg x⟩ st=afG K neg (FJ (bd st.tm x)) d st:=bE
@[go_sem] def aL2 (neg full:Bool):afG K neg (some full) d st=∀b:Bool,(full=true->b=false)->K ⟨put st.tm d (.H (.bool (neg != b))),st.mem⟩:=bE
end
section
variable {tm:Nat->M} {mem:Mem}
@[go_sem] def aL3 (s:Nat):bd tm (.t s)=tm s:=bE
@[go_sem] def aL4 (m:M):bd tm (.c m)=m:=bE
@[go_sem] def aL5 (s:Nat)(m:M):put tm (some s) m=dK tm s m:=bE
@[go_sem] def aL6 (m:M):put tm none m=tm:=bE
@[go_sem] def aL7 (s:Nat)(m:M)(t:Nat):dK tm s m t=if t=s then m else tm t:=bE
@[go_sem] def DD (k:Key)(g:Nat)(cs:List M)(j:Key):a5 mem k g cs j=if j=k then some (g,cs) else mem j:=bE
@[go_sem] def aL8:jC mem none=mem:=bE
@[go_sem] def aL9 (k:Key)(g:Nat)(cs:List M):jC mem (some (k,g,cs))=a5 mem k g cs:=bE
def gk:Option (Nat×List M)->Nat
 |none=>0
 |some (g,_)=>g+1
@[go_sem] def aMa (k:Key):ca mem k=gk (mem k):=by unfold ca gk;rfl
@[go_sem] def aMb:gk none=0:=bE
@[go_sem] def aMc (g:Nat)(cs:List M):gk (some (g,cs))=g+1:=bE
@[go_sem] def aMd (k:Key):emp k=none:=bE
@[go_sem] def aMe:qg tm none=some true:=bE
def RP (m:M)(b:Bool):Option Bool :=
 match m with
 |.H (.bool t)=>some (t==b)
 |.no=>some false
 |_=>none
@[go_sem] def aMf (s:Nat)(b:Bool):qg tm (some (s,b))=RP (tm s) b:=bE
@[go_sem] def aMg (b:Bool):RP .no b=some false:=bE
variable (op:kN)
@[go_sem] def aMh (m:M):kp (some m)=some (m,none):=bE
@[go_sem] def aMi (x:bZ):cB mem tm (.ko x)=some (bd tm x,none):=bE
@[go_sem] def aMj (c a b:bZ):cB mem tm (.pick c a b)=kp (IB (bd tm c) (bd tm a) (bd tm b)):=bE
@[go_sem] def aMk (a b:M):IB (.H (.bool true)) a b=some a:=bE
@[go_sem] def aMl (a b:M):IB (.H (.bool false)) a b=some b:=bE
@[go_sem] def aMm (k:Key)(z:List M):cB mem tm (.alloc k z)=some (.ptr k (ca mem k) 0,some (k,ca mem k,z)):=bE
@[go_sem] def aMn (k:Key)(x:bZ):cB mem tm (.box k x)=if (bd tm x).known=true then some (.ptr k (ca mem k) 0,some (k,ca mem k,(bd tm x).cells)) else none:=bE
@[go_sem] def aMo (z:List M)(cO:List (Nat×Nat×bZ)):cB mem tm (.build z cO)=kp ((lK (bd tm) z cO).map .agg):=bE
@[go_sem] def aMp (k:Key)(z:List M)(sz len:Nat)(cO:List (Nat×Nat×bZ)):cB mem tm (.eW k false z sz len cO)=kp (Me z sz len (lK (bd tm) z cO)):=bE
@[go_sem] def aMq (k:Key)(z:List M)(sz len:Nat)(cO:List (Nat×Nat×bZ)):cB mem tm (.eW k true z sz len cO)=IC k (ca mem k) z sz len (lK (bd tm) z cO):=bE
@[go_sem] def aMr (n:Nat)(eG:Bool)(x:bZ):cB mem tm (.load n eG x)=kp (q3 mem n eG (bd tm x)):=bE
@[go_sem] def aMs (n:Nat)(x v:bZ):cB mem tm (.store n x v)=zJ mem n (bd tm x) (bd tm v).cells:=bE
@[go_sem] def aMt (b:BinOp)(x y:bZ):cB mem tm (.bin b x y)=kp (Mb b (bd tm x) (bd tm y)):=bE
@[go_sem] def aMu (neg:Bool)(x y:bZ):cB mem tm (.beq neg x y)=kp (Mc neg (bd tm x) (bd tm y)):=bE
@[go_sem] def aMv (neg:Bool)(n:List Nat)(x y:bZ):cB mem tm (.eqs neg n x y)=kp (Mg neg n (bd tm x) (bd tm y)):=bE
@[go_sem] def aMw (u:UnOp)(x:bZ):cB mem tm (.un u x)=kp (Md u (bd tm x)):=bE
@[go_sem] def aMx (k:IntKind)(x:bZ):cB mem tm (.conv k x)=kp (Mh k (bd tm x)):=bE
@[go_sem] def aMy (x:bZ):cB mem tm (.oq x)=kp (Mi (bd tm x)):=bE
@[go_sem] def aMz (k:Key)(z:List M)(b:Nat)(x y:bZ):cB mem tm (.mC k z b x y)=Ms (idx (bd tm x)) (idx (bd tm y)) (ID k (ca mem k) z b):=bE
@[go_sem] def aMA (o:Nat)(x:bZ):cB mem tm (.zI o x)=kp (Mj o (bd tm x)):=bE
@[go_sem] def aMB (o n:Nat)(eG:Bool)(x:bZ):cB mem tm (.Dq o n eG x)=kp (Mk o n eG (bd tm x)):=bE
@[go_sem] def aMC (s:Nat)(x i:bZ):cB mem tm (.q2 s x i)=kp (jr (idx (bd tm i)) λn=>yi s n (bd tm x)):=bE
@[go_sem] def aMD (n s:Nat)(x i:bZ):cB mem tm (.qe n s x i)=kp (jr (idx (bd tm i)) λm=>Ml n s m (bd tm x)):=bE
@[go_sem] def aME (x i:bZ):cB mem tm (.idxs x i)=kp (jr (idx (bd tm i)) λn=>Mm n (bd tm x)):=bE
@[go_sem] def aMF (s:Nat)(x:bZ)(b6 O:Option bZ):cB mem tm (.ua s x b6 O none)=kp (jr (kY 0 (b6.map (bd tm))) λl=>jr (qf (bd tm x)) λlen=>jr (kY len (O.map (bd tm))) λh=>Mn s l h (bd tm x)):=bE
@[go_sem] def aMG (s:Nat)(x h m:bZ)(b6:Option bZ):cB mem tm (.ua s x b6 (some h) (some m)) =
 kp (jr (kY 0 (b6.map (bd tm))) λl=>jr (idx (bd tm h)) λh=>jr (idx (bd tm m)) λm=>Mo s l h m (bd tm x)):=bE
@[go_sem] def aMH (n s:Nat)(x:bZ)(b6 O:Option bZ):cB mem tm (.vi n s x b6 O none)=kp (jr (kY 0 (b6.map (bd tm))) λl=>jr (kY n (O.map (bd tm))) λh=>Dt mem n s l h (bd tm x)):=bE
@[go_sem] def aMI (x:bZ)(b6 O:Option bZ):cB mem tm (.FH x b6 O)=kp (jr (kY 0 (b6.map (bd tm))) λl=>jr (Bn (bd tm x)) λlen=>jr (kY len (O.map (bd tm))) λh=>Mp l h (bd tm x)):=bE
@[go_sem] def aMJ (i:Nat)(x:bZ):cB mem tm (.ext i x)=kp (Mq i (bd tm x)):=bE
@[go_sem] def aMK (x:bZ):cB mem tm (.len x)=kp (jr (qf (bd tm x)) λn=>some (.H (.int .i64 n))):=bE
@[go_sem] def aML (x:bZ):cB mem tm (.lens x)=kp (jr (Bn (bd tm x)) λn=>some (.H (.int .i64 n))):=bE
@[go_sem] def aMM (k:Key)(z:List M)(b:Nat)(s x:bZ):cB mem tm (.app k z b s x)=sX mem k z b (bd tm s) (rY mem (D z) (bd tm x)):=bE
@[go_sem] def aMN (z:List M)(x:bZ):cB mem tm (.wS z x)=zK mem z (bd tm x):=bE
@[go_sem] def aMO (s:Nat)(x y:bZ):cB mem tm (.ub s x y)=yj mem s (bd tm x) (rY mem s (bd tm y)):=bE
@[go_sem] def aMP (b:Bool)(x y:bZ):cB mem tm (.jX b x y)=kp (Mr b (bd tm x) (bd tm y)):=bE
@[go_sem] def aMQ (f:FuncId)(l:List bZ):cB mem tm (.wT f l)=some (.gH f (l.map (bd tm)),none):=bE
@[go_sem] def aMR (n:Nat)(f:Nat->Option M):jr (some n) f=f n:=bE
@[go_sem] def aMS (n m:Nat)(f:Nat->Nat->Out):Ms (some n) (some m) f=f n m:=bE
def RQ (n:Nat)(eG:Bool)(g off:Nat):Option (Nat×List M)->Option M
 |some (dp,cs)=>if dp=g then (cut cs off n).bind (sW eG) else none
 |none=>none
@[go_sem] def aMT (n:Nat)(eG:Bool)(k:Key)(g off:Nat):q3 mem n eG (.ptr k g off)=RQ n eG g off (mem k):=by unfold q3 RQ;rfl
@[go_sem] def aMU (n:Nat)(eG:Bool)(g off:Nat)(cs:List M):RQ n eG g off (some (g,cs))=(cut cs off n).bind (sW eG):=by simp[RQ]
@[go_sem] def aMV (n:Nat)(eG:Bool)(ds:List Data):q3 mem n eG (.H (.ptr ds))=(cut (ds.map .H) 0 n).bind (sW eG):=bE
@[go_sem] def aMW (n:Nat)(k:Key)(g off:Nat)(v:List M):zJ mem n (.ptr k g off) v=Mt n k g off v (mem k):=bE
@[go_sem] def aMX (cs:List M):sW true cs=some (.agg cs):=bE
@[go_sem] def aMY (m:M):sW false [m]=some m:=bE
@[go_sem] def aMZ (cs:List M):(M.agg cs).cells=cs:=bE
@[go_sem] def aM0 (cs:List Data):(M.H (.agg cs)).cells=cs.map .H:=bE
@[go_sem] def aM1 (k:IntKind)(n:Int):(M.H (.int k n)).cells=[.H (.int k n)]:=bE
@[go_sem] def aM2 (b:Bool):(M.H (.bool b)).cells=[.H (.bool b)]:=bE
@[go_sem] def aM3 (l:List UInt8):(M.H (.str l)).cells=[.H (.str l)]:=bE
@[go_sem] def aM4 (l:List (List Data)):(M.H (.ax l)).cells=[.H (.ax l)]:=bE
@[go_sem] def aM5 (l:List Data):(M.H (.ptr l)).cells=[.H (.ptr l)]:=bE
@[go_sem] def aM6 (f:FuncId)(l:List Data):(M.H (.fn f l)).cells=[.H (.fn f l)]:=bE
@[go_sem] def aM7:M.nil.cells=[.nil]:=bE
@[go_sem] def aM8 (k:Key)(g s o l:Nat):(M.ref k g s o l).cells=[.ref k g s o l]:=bE
@[go_sem] def aM9 (k:Key)(g o:Nat):(M.ptr k g o).cells=[.ptr k g o]:=bE
@[go_sem] def aNa (f:FuncId)(l:List M):(M.gH f l).cells=[.gH f l]:=bE
@[go_sem] def aNb (k:IntKind)(n:Nat):idx (.H (.int k (n:Int)))=some n:=by simp[idx]
@[go_sem] def aNc (k:IntKind):idx (.H (.int k 0))=some 0:=bE
@[go_sem low] def aNd (k:IntKind)(n:Int):idx (.H (.int k n))=if 0<=n then some n.toNat else none:=bE
end
attribute [go_sem] Mf Mc Mb Md Mh Mi Mj Mk yi Ml Mm Mn Mo Dt Xk Mp Mq Mr kY qf Bn Mt yj Du zK Rz ID IC Me Mg Ds Ry lK lo cut chunk
 IA Rv Rw Rx FJ rZ wU M.one M.known rY Bo en IE Mu sZ sY IF Mw Xm Mx Xn Mv Xl RA yk keyOf kZ IG s0 wW iv kq IH pz
end Go.Mini
namespace Go.Mini
open Go
variable {P:Program} {A:Nat->Prop} {w:World} {B:fu} {mem:Mem}
def DE (w aX:World)(a4:Nat->Prop)(sz:Nat)(es:List (List Data))(v:Value):Prop :=
 (∀e∈es,D e=sz)/\∃a cap,v=.slice a (D es) cap/\D es<=cap/\cap<=maxLen /\
  (cap=0\/∃b vs T,a=some ⟨b,0,none⟩/\w.heap.size<=b/\aX.heap[b]?=some (.cells vs T (0,0))/\cap*sz<=vs.size /\
   ∀(i:Nat) (d:Data),es.flatten[i]?=some d->∃u,vs[i]?=some u/\Den aX (λfS=>a4 fS\/fS=b) d u)
def XM (P:Program)(f:FuncId)(vs:List Value)(A:Nat->Prop)(w:World)(B:fu)(mem:Mem):hA->Prop
 |.same r=>Calls P f vs.toArray w λe aX=>∃v,e=.returned v/\Fr (λ_=>False) w aX/\Den aX (ct A B) r v
 |.own sz es=>Calls P f vs.toArray w λe aX=>∃v,e=.returned v/\Fr (λ_=>False) w aX/\DE w aX (ct A B) sz es v
 |.rel bC=>Calls P f vs.toArray w λe aX=>∃v r mem' bD,e=.returned v/\e6 A w B aX bD mem'/\bB aX (ct A bD) bD r v/\bC r mem'
 |.Bp r k=>Calls P f vs.toArray w λe aX=>∃v bD,e=.returned v/\e6 A w B aX bD (a5 mem k (ca mem k) [])/\bB aX (ct A bD) bD (.H r) v
 |.dK r k g i c=>Calls P f vs.toArray w λe aX=>∃v bD,e=.returned v/\e6 A w B aX bD (a5 mem k g ((sY mem k).set i c))/\bB aX (ct A bD) bD (.H r) v
def Real (P : Program)(f : FuncId): Prop := ∃ fn c, P.funcs[f]? = some fn /\ fn.body = some c /\ (fn.name == "runtime.NumGoroutine") = false
def r6 (P:Program)(T:ba):Prop:=∀f args mem rb,T f args mem=some rb->Real P f /\
 ∀A w B vs,fQ A w B mem->dL w (ct A B) B args vs->XM P f vs A w B mem rb
def RR {f:FuncId}(h:Real P f)(args:Array Value):(callFunc f args).run P w=.ok (.enter f args) w:=by
 obtain⟨fn,c,aH,ad,aL⟩:=h;have F : fn.name ≠ "runtime.NumGoroutine" := by simpa using aL
 simp[callFunc,aH,F,ad]
def Den.less {w:World}{a4 nk:Nat->Prop}(h:∀b,nk b->a4 b){d:Data}{v:Value}(Z:Den w a4 d v):Den w nk d v :=
 Z.sV (cl _) λb _ ad=>⟨rfl,λL=>ad (h b L)⟩
def DE.den {w aX:World}{a4:Nat->Prop}{sz:Nat}{es:List (List Data)}{v:Value}(ah:∀b,a4 b->b<w.heap.size)(h:DE w aX a4 sz es v):Den aX a4 (.ax es) v:=by
 obtain⟨he,a,cap,rfl,F,G,ab⟩:=h;rcases ab with rfl|⟨b,vs,T,rfl,aV,bu,bX,b9⟩
 ·have:es=[]:=vu (by omega);subst this;exact .mV
 ·have MP:b<aX.heap.size:=(Array.getElem?_eq_some_iff.1 bu).1;refine .ax (sz:=sz) (λi=>vs.getD i undef) F (by omega) MP (λbw=>by have:=ah b bw;omega) he (λi O=>?_) λi d Z=>?_
  ·have ah:i<D es.flatten:=by rw[Rs he];exact O
   obtain⟨u,hu,_⟩:=b9 i _ (bh ah);rw[cell_of_row aX b _ vs T (0,0) bu,q4,Array.getD_eq_getD_getElem?,hu]
   rfl
  ·obtain⟨u,hu,Z⟩:=b9 i d Z;rw[Array.getD_eq_getD_getElem?,hu];exact Z.less λb h => .inl h
def afH {aX:World}{sz:Nat}{es:List (List Data)}{v:Value}(k:Key)(cf:fQ A w B mem)(f:Fr (λ_=>False) w aX)(h:DE w aX (ct A B) sz es v):
  ∃bD,e6 A w B aX bD (a5 mem k (ca mem k) (es.flatten.map .H))/\bB aX (ct A bD) bD (.ref k (ca mem k) sz 0 (D es)) v:=by
 obtain⟨he,a,cap,rfl,F,G,ab⟩:=h;have still:=e6.still cf f;rcases ab with rfl|⟨b,vs,T,rfl,aV,bu,bX,b9⟩
 ·have:es=[]:=vu (by omega);subst this;exact⟨_,still.trans (e6.zP still.eH k),.ref (h8 _ _ _) (cl _) ⟨_,0,rfl,F,G,.inl rfl⟩⟩
 ·have MP:b<aX.heap.size:=(Array.getElem?_eq_some_iff.1 bu).1
  have gv:∀fS,(⟨ca mem k,some b,vs.size⟩:nm).dU=some fS->w.heap.size<=fS\/∃e,B k=some e/\e.dU=some fS:=λfS nr=>by
   cases nr;exact .inl aV
  have gw:=Rs he;have hmul:(D es)*sz<=cap*sz:=ui _ F;have hold:∀fS,fS<w.heap.size->(∀e,B k=some e->e.dU≠some fS)->aX.heap[fS]?=w.heap[fS]?:=λfS nr _=>f.block fS nr id;have bb:∀e,B k=some e->(⟨ca mem k,some b,vs.size⟩:nm)=e\/e.g<(⟨ca mem k,some b,vs.size⟩:nm).g:=λe he => .inr (FK cf k e he);refine⟨g6 B k ⟨ca mem k,some b,vs.size⟩,⟨?_,Trans.change f.size hold bb gv,⟨f.os,f.tape,f.output,f.size,λfS nr _=>f.block fS nr id⟩,Xq gv⟩,?_⟩
  ·refine cf.aeZ (e':=⟨ca mem k,some b,vs.size⟩) f.size hold bb gv (λh=>by cases h) λfS nr=>?_
   cases nr;refine⟨vs,T,bu,rfl,by rw[al,gw];omega,λi m hm=>?_⟩
   rw[bm,eL] at hm;obtain⟨d,Z,rfl⟩:=hm;obtain⟨u,hu,vy⟩:=b9 i d Z;refine⟨u,hu,.H (vy.less λfS nr=>?_)⟩;rcases nr with ⟨j,e,ae,L⟩|aZ
   ·by_cases ey:j=k
    ·subst ey;rw[h8] at ae
     cases ae
     cases L;exact .inr rfl
    ·rw[hW B _ ey] at ae;exact .inl (.inl ⟨j,e,ae,L⟩)
   ·exact .inl (.inr aZ)
  ·exact .ref (h8 _ _ _) (cl _) ⟨_,cap,rfl,F,G,.inr ⟨b,rfl,λ_=>⟨rfl,by simpa using bX⟩⟩⟩
end Go.Mini
namespace Go.Mini
open Go
variable {P:Program} {T:ba} {A:Nat->Prop} {eB w:World} {ic B:fu} {mem:Mem} {n:Nat}
structure iQ (n:Nat) (A:Nat->Prop) (eB:World) (ic:fu) (a:Act) (st:bc) (w:World) (B:fu):Prop where
 ok:e6 A eB ic w B st.mem
 tm:∀s,bB w (ct A B) B (st.tm s) (a.eval (.tmp s))
 sz:a.tmps.size=n
 MQ:a.defers=[]
def iQ.vz {a:Act}{st:bc}(h:iQ n A eB ic a st w B)(x:Operand)(y:bZ)(L:ev x=some y):bB w (ct A B) B (bd st.tm y) (a.eval x):=by
 cases x<;>simp only[ev,cF,eL,reduceCtorEq] at L
 ·subst L;exact h.tm _
 ·obtain⟨m,hm,rfl⟩:=L;exact asR hm
 ·subst L;exact .gH (vs:=[]) rfl λi d v F=>by simp at F
def at4 {a:Act}{s:Nat}{v:Value}(h:s<a.tmps.size):(a.put (some s) v).eval (.tmp s)=v:=by
 simp[Act.eval,Act.put,h]
def iQ.put {a:Act}{st:bc}{aX:World}{bD:fu}{mem':Mem}{dst:Option Nat}{r:M}{v:Value}(h:iQ n A eB ic a st w B)(R:e6 A w B aX bD mem')(X:bB aX (ct A bD) bD r v)
  (Z:dst.all (λd=>decide (d<n))=true):iQ n A eB ic (a.put dst v) ⟨Mini.put st.tm dst r,mem'⟩ aX bD:=by
 refine⟨h.ok.trans R,λs=>?_,?_,?_⟩
 ·cases dst with
  |none=>exact (h.tm s).sV R.nU
  |some d =>
   simp only[Option.all_some,decide_eq_true_eq] at Z
   by_cases MR:s=d
   ·subst MR;rw[at4 (by rw[h.sz];exact Z)];simp only[Mini.put,dK,if_true];exact X
   ·rw[Act.eval_put (λzX F G=>by cases F;cases G;exact MR rfl)];simp only[Mini.put,dK,aa MR];exact (h.tm s).sV R.nU
 ·cases dst<;>simp[Act.put,h.sz]
 ·cases dst<;>simp[Act.put,h.MQ]
def XN {a:Act}{st:bc}{ops:Array Oper}{o:Oper}{g:Option (Nat×Bool)}{b:Bool}(h:iQ n A eB ic a st w B)(bb:MC ops o.guard=some g)(ad:qg st.tm g=some b):
  Region.wanted o (yielded ops a.tmps)=b:=by
 unfold Region.wanted
 cases BA:o.guard with
 |none =>
  rw[BA] at bb;simp only[MC,cF] at bb;subst bb;simp only[qg,cF] at ad;exact ad
 |some p =>
  obtain⟨j,c⟩:=p;rw[BA] at bb;simp only[MC] at bb
  split at bb
  ·rename_i s R;simp only[cF] at bb;subst bb;have aN:=h.tm s
   have aj:yielded ops a.tmps j=match a.eval (.tmp s) with|.bool b=>some b|_=>none:=by
    unfold yielded;rw[R];simp only[qk,Act.eval,Array.getD_eq_getD_getElem?]
    cases a.tmps[s]? with
    |none=>rfl
    |some v=>cases v<;>rfl
   simp only[qg] at ad;simp only[aj]
   split at ad
   ·rename_i t b0;rw[b0] at aN
    cases aN with
    |H aN =>
     generalize a.eval (.tmp s)=u at *
     cases aN;simp only[cF] at ad;subst ad
     cases t<;>cases c<;>simp
   ·rename_i b0;rw[b0] at aN;generalize a.eval (.tmp s)=u at *
    cases aN;simp only[cF] at ad;subst ad
    rfl
   ·cases ad
  ·cases bb
def afI {kb:Nat}{own:List Nat}{dst:Option Nat}{ty:TypeId}{op:Op}{f:FuncId}{args:List bZ}(h:k0 P kb own dst ty op=some (.call f args)):
  ∃c:Call,op=.call c/\c.callee=.value (.func f)/\c.args.toList.mapM ev=some args:=by
 cases op<;>simp only[k0,Br,ym] at h
 case call c =>
  refine⟨c,rfl,?_⟩;unfold zM at h
  (repeat' split at h)<;>simp_all [eS,eL]
 all_goals ((repeat' split at h)<;>simp_all [eS,eL])
def at5 {kb:Nat}{own:List Nat}{dst:Option Nat}{ty:TypeId}{op:Op}{f:FuncId}{b6:Nat}{args:List bZ}(h:k0 P kb own dst ty op=some (.np b6 f args)):
  ∃c:Call,op=.call c/\c.callee=.value (.func f)/\c.args.toList.mapM ev=some args:=by
 cases op<;>simp only[k0,Br,ym] at h
 case call c =>
  refine⟨c,rfl,?_⟩;unfold zM at h
  (repeat' split at h)<;>simp_all [eS,eL]
  all_goals
   obtain⟨_,F,_,rfl,rfl⟩:=h;exact⟨rfl,F⟩
 all_goals ((repeat' split at h)<;>simp_all [eS,eL])
def at6 {kb:Nat}{own:List Nat}{dst:Option Nat}{ty:TypeId}{op:Op}{f:FuncId}{b6:Nat}{args:List bZ}(h:k0 P kb own dst ty op=some (.vj b6 f args)):
  ∃c:Call,op=.call c/\c.callee=.value (.func f)/\c.args.toList.mapM ev=some args:=by
 cases op<;>simp only[k0,Br,ym] at h
 case call c =>
  refine⟨c,rfl,?_⟩;unfold zM at h
  (repeat' split at h)<;>simp_all [eS,eL]
  all_goals
   obtain⟨_,F,_,rfl,rfl⟩:=h;exact⟨rfl,F⟩
 all_goals ((repeat' split at h)<;>simp_all [eS,eL])
def at7 {kb:Nat}{own:List Nat}{dst:Option Nat}{ty:TypeId}{op:Op}{f:FuncId}{b6:Nat}{args:List bZ}(h:k0 P kb own dst ty op=some (.vk b6 f args)):
  ∃c:Call,op=.call c/\c.callee=.value (.func f)/\c.args.toList.mapM ev=some args:=by
 cases op<;>simp only[k0,Br,ym] at h
 case call c =>
  refine⟨c,rfl,?_⟩;unfold zM at h
  (repeat' split at h)<;>simp_all [eS,eL]
  all_goals
   obtain⟨_,F,_,rfl,rfl⟩:=h;exact⟨rfl,F⟩
 all_goals ((repeat' split at h)<;>simp_all [eS,eL])
def afJ {kb:Nat}{own:List Nat}{dst:Option Nat}{ty:TypeId}{op:Op}{f:FuncId}{k:Key}{sz:Nat}{args:List bZ}(h:k0 P kb own dst ty op=some (.nT k sz f args)):
  ∃c:Call,op=.call c/\c.callee=.value (.func f)/\c.args.toList.mapM ev=some args:=by
 cases op<;>simp only[k0,Br,ym] at h
 case call c =>
  refine⟨c,rfl,?_⟩;unfold zM at h
  (repeat' split at h)<;>simp_all [eS,eL]
  obtain⟨_,_,_,_,_,F,_,_,rfl,rfl⟩:=h;exact⟨rfl,F⟩
 all_goals ((repeat' split at h)<;>simp_all [eS,eL])
def at8 {kb:Nat}{own:List Nat}{dst:Option Nat}{ty:TypeId}{op:Op}{f:bZ}{args:List bZ}(h:k0 P kb own dst ty op=some (.nn f args)):
  ∃(c:Call) (x:Operand),op=.call c/\c.callee=.value x/\ev x=some f/\c.args.toList.mapM ev=some args:=by
 cases op<;>simp only[k0,Br,ym] at h
 case call c =>
  refine⟨c,?_⟩;unfold zM at h
  (repeat' split at h)<;>simp_all [eS,eL]
 all_goals ((repeat' split at h)<;>simp_all [eS,eL])
def at9 {kb:Nat}{own:List Nat}{dst:Option Nat}{ty:TypeId}{op:Op}{neg:Bool}{x:bZ}(h:k0 P kb own dst ty op=some (.rX neg x)):
  ∃(t e:TypeId) (y y':Operand) (z:TypeId),op=.binOp (if neg then .neq else .eql) t y y' z/\Xp y'=true/\P.underlying t=some (.slice e)/\ev y=some x:=by
 cases op<;>simp only[k0,Br,ym] at h
 case call c =>
  unfold zM at h
  (repeat' split at h)<;>simp_all [eS,eL]
 case binOp bop t y y' z =>
  (repeat' split at h)<;>simp_all [eS,eL]
  all_goals
   obtain⟨F,rfl⟩:=h;exact⟨_,_,_,_,⟨rfl,rfl,rfl⟩,by assumption,by assumption,F⟩
 all_goals ((repeat' split at h)<;>simp_all [eS,eL])
end Go.Mini
namespace Go.Mini
open Go
variable {P:Program} {T:ba} {A:Nat->Prop} {eB w:World} {ic B:fu} {mem:Mem} {n:Nat}
def aua {t e:TypeId}{y y':Operand}{m:M}{u v:Value}{a4:Nat->Prop}{full:Bool}(neg:Bool)(b0:P.underlying t=some (.slice e))(hm:bB w a4 B m u)(aH:FJ m=some full)(aN:v=.slice none 0 0):
  ∃b:Bool,(full=true->b=false)/\((do eqGuard (if neg then .neq else .eql) t y y' u v;binOp (if neg then .neq else .eql) t u v:Sem Value)).run P w=.ok (.bool (neg != b)) w:=by
 subst aN
 have shape:∃a len cap,u=.slice a len cap/\(full=true->a.isNone=false):=by
  cases m<;>simp only[FJ,reduceCtorEq] at aH
  case H d =>
   cases d<;>simp only[FJ,cF,reduceCtorEq] at aH
   cases hm with
   |H Z =>
    cases Z with
    |mV=>exact⟨_,_,_,rfl,λh=>by cases aH;cases h⟩
    |ax=>exact⟨_,_,_,rfl,λ_=>rfl⟩
  case nil =>
   cases hm with
   |nil=>exact⟨_,_,_,rfl,λh=>by cases aH;cases h⟩
  case ref k g sz off len =>
   cases hm with
   |ref he bb X =>
    obtain⟨a,cap,rfl,F,G,ab⟩:=X;refine⟨_,_,_,rfl,λh=>?_⟩;simp only[cF] at aH;subst aH;simp only[decide_eq_true_eq] at h;rcases ab with ab|⟨b,rfl,_⟩
    ·omega
    ·rfl
 obtain⟨a,len,cap,rfl,ad⟩:=shape;refine⟨a.isNone,ad,?_⟩
 have he:∀d,(Op.equalIn (d+1) t (.slice a len cap) (.slice none 0 0)).run P w=.ok a.isNone w:=λd=>by
  unfold Op.equalIn;simp only[Sem.run_bind,run_underlying b0,Result.andThen_ok]
  cases a<;>rfl
 have heq:(Op.equal t (.slice a len cap) (.slice none 0 0)).run P w=.ok a.isNone w:=he 9999;rw[RD (by simp) (by simp)]
 cases neg
 ·simp only[k1,if_false,Sem.run_bind,Sem.run_pure,Result.andThen_ok];show (do pure (Value.bool (<-Op.equal t (.slice a len cap) (.slice none 0 0))):Sem Value).run P w=_
  simp[heq]
 ·simp only[if_true,Sem.run_bind,Sem.run_pure,Result.andThen_ok];show (do pure (Value.bool (!(<-Op.equal t (.slice a len cap) (.slice none 0 0)))):Sem Value).run P w=_
  simp[heq]
structure XO (P:Program) (n kb:Nat) (own:List Nat) (ops:Array Oper) (o:Oper) (i:cN):Prop where
 dst:i.dst=o.dst
 guard:MC ops o.guard=some i.g
 op:i.op=(k0 P kb own o.dst o.type o.op).getD .bad
 lt:o.dst.all (λd=>decide (d<n))=true
def afK {kb:Nat}{own:List Nat}{ops:Array Oper}{o:Oper}{i:cN}(h:Dv P n kb own ops o=some i):XO P n kb own ops o i:=by
 unfold Dv at h
 split at h
 ·rename_i g bb
  split at h
  ·rename_i ah
   cases h;exact⟨rfl,bb,rfl,ah⟩
  ·cases h
 ·cases h
def aub {K:bc->Prop}{i:cN}{st:bc}(h:g5 T K i st):
  (∃m e,cB st.mem st.tm i.op=some (m,e)/\K ⟨put st.tm i.dst m,jC st.mem e⟩) \/
  (∃f args,i.op=.call f args/\wV T K st i.dst f (args.map (bd st.tm))) \/
  (∃k sz f args es,i.op=.nT k sz f args/\T f (args.map (bd st.tm)) st.mem=some (.own sz es)/\K ⟨put st.tm i.dst (.ref k (ca st.mem k) sz 0 (D es)),a5 st.mem k (ca st.mem k) (es.flatten.map .H)⟩) \/
  (∃f args,i.op=.nn f args/\((∃g fh,bd st.tm f=.gH g fh/\wV T K st i.dst g (args.map (bd st.tm)++fh))\/(∃g ds,bd st.tm f=.H (.fn g ds)/\wV T K st i.dst g (args.map (bd st.tm)++ds.map .H)))) \/
  (∃neg x full,i.op=.rX neg x/\FJ (bd st.tm x)=some full/\∀b:Bool,(full=true->b=false)->K ⟨put st.tm i.dst (.H (.bool (neg != b))),st.mem⟩):=by
 obtain⟨dst,g,op⟩:=i;unfold g5 at h
 split at h
 ·rename_i f args nW;exact .inr (.inl ⟨f,args,nW,h⟩)
 ·rename_i k sz f args nW
  split at h
  ·rename_i eX es he
   split at h
   ·rename_i R;subst R;exact .inr (.inr (.inl ⟨k,_,f,args,es,nW,he,h⟩))
   ·cases h
  ·cases h
 ·rename_i f args nW;refine .inr (.inr (.inr (.inl ⟨f,args,nW,?_⟩)))
  split at h
  ·rename_i g fh aH;exact .inl ⟨g,fh,aH,h⟩
  ·rename_i g ds aH;exact .inr ⟨g,ds,aH,h⟩
  ·cases h
 ·rename_i neg x nW
  split at h
  ·rename_i full aH;exact .inr (.inr (.inr (.inr ⟨neg,x,full,nW,aH,h⟩)))
  ·cases h
 ·split at h
  ·rename_i m e he;exact .inl ⟨m,e,he,h⟩
  ·cases h
def getD_some {α:Type}{x:Option α}{b c:α}(h:c=x.getD b)(ad:c≠b):x=some c:=by
 cases x with
 |none=>exact absurd h ad
 |some y=>simp at h;rw[h]
def afL (di:r6 P T){K:bc->Prop}{a:Act}{st:bc}{o:Oper}{aR:Exit->Act->World->Prop}{f:FuncId}{args:List M}{vs:List Value}(h:iQ n A eB ic a st w B)(ah:o.dst.all (λd=>decide (d<n))=true)
  (aN:dL w (ct A B) B args vs) (I:wV T K st o.dst f args) (nZ:Real P f->(execOp a.eval o).run P w=.ok (.enter f vs.toArray) w) :
  o.wp P a w (λlN aX=>∃eC bD,K eC/\iQ n A eB ic lN eC aX bD) aR:=by
 unfold wV at I;unfold Oper.wp
 cases jG:T f args st.mem with
 |none=>rw[jG] at I;exact I.elim
 |some rb =>
  obtain⟨ny,kS⟩:=di f args st.mem rb jG;have J:=kS A w B vs h.ok.eH aN;rw[jG] at I;rw[nZ ny]
  cases rb with
  |same r =>
   refine Calls.mono J λe aX he=>?_;obtain⟨v,rfl,bg,Z⟩:=he;exact⟨_,B,I,h.put (.still h.ok.eH bg) (.H Z) ah⟩
  |own sz es =>
   refine Calls.mono J λe aX he=>?_;obtain⟨v,rfl,bg,Z⟩:=he;refine⟨_,B,I,h.put (.still h.ok.eH bg) (.H (Z.den λb ad=>?_)) ah⟩;rcases ad with ad|ad
   ·exact h.ok.eH.zH ad
   ·exact h.ok.eH.lt b ad
  |Bp r k =>
   refine Calls.mono J λe aX he=>?_;obtain⟨v,bD,rfl,da,pB⟩:=he;exact⟨_,bD,I,h.put da pB ah⟩
  |rel bC =>
   refine Calls.mono J λe aX he=>?_;obtain⟨v,r,mem',bD,rfl,R,Z,jf⟩:=he;exact⟨_,bD,I r mem' jf,h.put R Z ah⟩
  |dK r k g i c =>
   refine Calls.mono J λe aX he=>?_;obtain⟨v,bD,rfl,R,Z⟩:=he;exact⟨_,bD,I,h.put R Z ah⟩
def auc {a4:Nat->Prop}{m:M}{u:Value}{g:FuncId}{fh:List M}(hm:bB w a4 B m u)(h:m=.gH g fh\/∃ds,m=.H (.fn g ds)/\fh=ds.map .H):
  ∃cs:List Value,u=.func (.func g) #[] cs.toArray/\dL w a4 B fh cs:=by
 rcases h with rfl|⟨ds,rfl,rfl⟩
 ·cases hm with
  |gH aq Z=>exact⟨_,rfl,aq,Z⟩
 ·cases hm with
  |H Z =>
   cases Z with
   |fn aq Z=>exact⟨_,rfl,dL.H aq Z⟩
def aud (di:r6 P T){K:bc->Prop}{kb:Nat}{own:List Nat}{ops:Array Oper}{a:Act}{st:bc}{o:Oper}{i:cN}{aR:Exit->Act->World->Prop}(h:iQ n A eB ic a st w B)(O:XO P n kb own ops o i)
  (I:g5 T K i st):o.wp P a w (λlN aX=>∃eC bD,K eC/\iQ n A eB ic lN eC aX bD) aR:=by
 have nW:=O.op;rcases aub I with ⟨m,e,R,db⟩|⟨f,args,he,db⟩|⟨k,sz,f,args,es,he,jG,db⟩|⟨f,args,he,db⟩|⟨neg,x,full,he,aH,db⟩
 ·have a8:k0 P kb own o.dst o.type o.op=some i.op:=getD_some nW (by
   intro ad;rw[ad] at R
   cases R)
  obtain⟨I6,v,aX,bD,nZ,hC,da,aN⟩:=afD h.ok.eH h.vz a8 R;unfold Oper.wp;rw[nZ];rw[O.dst] at db;have MS:=h.put da aN O.lt;rcases hC with rfl|⟨rfl,rfl⟩
  ·exact⟨_,bD,db,MS⟩
  ·exact⟨_,bD,db,MS⟩
 ·have a8:k0 P kb own o.dst o.type o.op=some i.op:=getD_some nW (by rw[he];simp);rw[he] at a8;obtain⟨c,J,nz,oY⟩:=afI a8;rw[O.dst] at db;refine afL di h O.lt (zW h.vz oY) db λny=>?_;obtain⟨dst,op,type,pos,after,guard⟩:=o;simp only at J;subst J;obtain⟨callee,BH,RS⟩:=c;simp only at nz;subst nz;simp only[execOp,resolve,Deferred.ofValue,Act.eval,invoke,Sem.run_bind,Sem.run_pure,Result.andThen_ok,RR ny];rw[DA BH];simp
 ·have a8:k0 P kb own o.dst o.type o.op=some i.op:=getD_some nW (by rw[he];simp);rw[he] at a8;obtain⟨c,J,nz,oY⟩:=afJ a8;rw[O.dst] at db;obtain⟨ny,kS⟩:=di f _ st.mem _ jG;have lQ:=kS A w B _ h.ok.eH (zW h.vz oY);have ah:=O.lt;obtain⟨dst,op,type,pos,after,guard⟩:=o;simp only at J;subst J;obtain⟨callee,BH,RS⟩:=c;simp only at nz oY;subst nz
  have nZ:(execOp a.eval ⟨dst,.call ⟨.value (.func f),BH,RS⟩,type,pos,after,guard⟩).run P w=.ok (.enter f (BH.toList.map a.eval).toArray) w:=by
   simp only[execOp,resolve,Deferred.ofValue,Act.eval,invoke,Sem.run_bind,Sem.run_pure,Result.andThen_ok,RR ny];rw[DA BH];simp
  unfold Oper.wp;rw[nZ];refine Calls.mono lQ λe aX q8=>?_;obtain⟨v,rfl,bg,Z⟩:=q8;obtain⟨bD,da,aN⟩:=afH k h.ok.eH bg Z;exact⟨_,bD,db,h.put da aN ah⟩
 ·have a8:k0 P kb own o.dst o.type o.op=some i.op:=getD_some nW (by rw[he];simp);rw[he] at a8;obtain⟨c,x,J,nz,L,oY⟩:=at8 a8;rw[O.dst] at db;have aue:=h.vz _ _ L
  have main:∀g fh,(bd st.tm f=.gH g fh\/∃ds,bd st.tm f=.H (.fn g ds)/\fh=ds.map .H)->wV T K st o.dst g (args.map (bd st.tm)++fh)->o.wp P a w (λlN aX=>∃eC bD,K eC/\iQ n A eB ic lN eC aX bD) aR:=by
   intro g fh bb db;obtain⟨cs,hu,cm⟩:=auc aue bb;refine afL di h O.lt ((zW h.vz oY).append cm) db λny=>?_;obtain⟨dst,op,type,pos,after,guard⟩:=o;simp only at J;subst J;obtain⟨callee,BH,RS⟩:=c;simp only at nz;subst nz;simp only[execOp,resolve,hu,Deferred.ofValue,invoke,Sem.run_bind,Sem.run_pure,Result.andThen_ok,RR ny];rw[DA BH];simp
  rcases db with ⟨g,fh,bb,db⟩|⟨g,ds,bb,db⟩
  ·exact main g fh (.inl bb) db
  ·exact main g _ (.inr ⟨ds,bb,rfl⟩) db
 ·have a8:k0 P kb own o.dst o.type o.op=some i.op:=getD_some nW (by rw[he];simp);rw[he] at a8;obtain⟨t,e,y,y',z,J,aL,b0,aj⟩:=at9 a8;rw[O.dst] at db
  have XP:a.eval y' = .slice none 0 0:=by
   unfold Xp at aL
   split at aL
   ·rfl
   ·cases aL
  obtain⟨b,ad,nZ⟩:=aua (y:=y) (y':=y') neg b0 (h.vz _ _ aj) aH XP;obtain⟨dst,op,type,pos,after,guard⟩:=o;simp only at J;subst J;unfold Oper.wp
  have:(execOp a.eval ⟨dst,.binOp (if neg then .neq else .eql) t y y' z,type,pos,after,guard⟩).run P w=.ok (.value (.bool (neg != b))) w:=by
   simp only[execOp];rw[Sem.run_bind,nZ]
   rfl
  rw[this];exact⟨_,B,db b ad,h.put (.refl h.ok.eH) (.H .bool) O.lt⟩
end Go.Mini
namespace Go.Mini
open Go
variable {T:ba}
def gp {tm tm':Nat->M}{x:bZ}(h:∀s∈fJ x,tm s=tm' s):bd tm x=bd tm' x:=by
 cases x with
 |t s=>exact h s (by simp[fJ])
 |c m=>rfl
def map_congr {tm tm':Nat->M}{l:List bZ}(h:∀s∈l.flatMap fJ,tm s=tm' s):l.map (bd tm)=l.map (bd tm') :=
 ox λx L=>gp λs R=>h s (zY.2 ⟨x,L,R⟩)
def RT {tm tm':Nat->M}{l:List bZ}(h:∀s∈l.flatMap fJ,tm s=tm' s):(l.map λx=>rZ (bd tm x))=l.map λx=>rZ (bd tm' x) :=
 ox λx L=>by rw[gp λs R=>h s (zY.2 ⟨x,L,R⟩)]
def F8 {tm tm':Nat->M}{x:Option bZ}(h:∀s∈zN x,tm s=tm' s):x.map (bd tm)=x.map (bd tm'):=by
 cases x with
 |none=>rfl
 |some x =>
  cases x with
  |t s=>simp[bd,h s (by simp[zN])]
  |c m=>rfl
def XQ {tm tm':Nat->M}:∀{cO:List (Nat×Nat×bZ)} (cs:List M),(∀s∈cO.flatMap (λp=>fJ p.2.2),tm s=tm' s)->lK (bd tm) cs cO=lK (bd tm') cs cO
 | [],_,_=>rfl
 |(o,s,x)::cO,cs,h=>by
  have F:bd tm x=bd tm' x:=gp λt b0=>h t (zY.2 ⟨(o,s,x),by simp,b0⟩);simp only[lK,F]
  split
  ·exact XQ _ λt b0=>h t (by simp only[List.flatMap_cons,jH];exact .inr b0)
  ·rfl
def auf {mem:Mem}{tm tm':Nat->M}{op:kN}(h:∀s∈uf op,tm s=tm' s):cB mem tm op=cB mem tm' op:=by
 cases op<;>simp only[uf,jH] at h
 case ko x=>simp only[cB,ma,gp h]
 case pick c a b=>simp only[cB,ma,gp (λs R=>h s (.inl (.inl R))),gp (λs R=>h s (.inl (.inr R))),gp (λs R=>h s (.inr R))]
 case alloc=>rfl
 case box k x=>simp only[cB,gp h]
 case build z cO=>simp only[cB,ma,XQ _ h]
 case eW k o z sz len cO=>cases o<;>simp only[cB,ma,XQ _ h]
 case load n eG x=>simp only[cB,gp h]
 case store n x v=>simp only[cB,gp (λs R=>h s (.inl R)),gp (λs R=>h s (.inr R))]
 case bin o x y=>simp only[cB,ma,gp (λs R=>h s (.inl R)),gp (λs R=>h s (.inr R))]
 case beq o x y=>simp only[cB,ma,gp (λs R=>h s (.inl R)),gp (λs R=>h s (.inr R))]
 case eqs o l x y=>simp only[cB,ma,gp (λs R=>h s (.inl R)),gp (λs R=>h s (.inr R))]
 case rX=>rfl
 case un o x=>simp only[cB,ma,gp h]
 case conv k x=>simp only[cB,ma,gp h]
 case oq x=>simp only[cB,ma,gp h]
 case mC k z b x y=>simp only[cB,gp (λs R=>h s (.inl R)),gp (λs R=>h s (.inr R))]
 case zI o x=>simp only[cB,ma,gp h]
 case Dq o n eG x=>simp only[cB,ma,gp h]
 case q2 s x i=>simp only[cB,ma,gp (λs R=>h s (.inl R)),gp (λs R=>h s (.inr R))]
 case qe n s x i=>simp only[cB,ma,gp (λs R=>h s (.inl R)),gp (λs R=>h s (.inr R))]
 case idxs x i=>simp only[cB,ma,gp (λs R=>h s (.inl R)),gp (λs R=>h s (.inr R))]
 case ua s x a b c =>
  have F:=gp (λs R=>h s (.inl (.inl (.inl R))));have G:=F8 (λs R=>h s (.inl (.inl (.inr R))));have ab:=F8 (λs R=>h s (.inl (.inr R)));have aV:=F8 (λs R=>h s (.inr R))
  cases b<;>cases c<;>simp only[ks,XR,cF] at ab aV<;>simp only[cB,ma,ks,XR,F,G,ab,aV]
 case vi n s x a b c =>
  have F:=gp (λs R=>h s (.inl (.inl (.inl R))));have G:=F8 (λs R=>h s (.inl (.inl (.inr R))));have ab:=F8 (λs R=>h s (.inl (.inr R)))
  cases c<;>simp only[cB,ma,F,G,ab]
 case FH x a b=>simp only[cB,ma,gp (λs R=>h s (.inl (.inl R))),F8 (λs R=>h s (.inl (.inr R))),F8 (λs R=>h s (.inr R))]
 case ext i x=>simp only[cB,ma,gp h]
 case len x=>simp only[cB,ma,gp h]
 case lens x=>simp only[cB,ma,gp h]
 case app k z b s x=>simp only[cB,gp (λs R=>h s (.inl R)),gp (λs R=>h s (.inr R))]
 case ub s d x=>simp only[cB,gp (λs R=>h s (.inl R)),gp (λs R=>h s (.inr R))]
 case wS z x=>simp only[cB,gp h]
 case jX o x y=>simp only[cB,ma,gp (λs R=>h s (.inl R)),gp (λs R=>h s (.inr R))]
 case call=>rfl
 case nT=>rfl
 case nn=>rfl
 case np=>rfl
 case vj=>rfl
 case vk=>rfl
 case wT f l=>simp only[cB,ma,map_congr h]
 case bad=>rfl
def afM {mem:Mem}{tm tm':Nat->M}{op:kN}(h:∀s∈uf op,tm s=tm' s):iv T mem tm op=iv T mem tm' op:=by
 cases op
 case call f l =>
  have:=RT (l:=l) (tm:=tm) (tm':=tm') (by simpa [uf] using h);simp only[iv,this]
 case nT k sz f l =>
  have:=RT (l:=l) (tm:=tm) (tm':=tm') (by simpa [uf] using h);simp only[iv,this]
 case nn=>rfl
 case rX=>rfl
 case np b6 f l =>
  have:=map_congr (l:=l) (tm:=tm) (tm':=tm') (by simpa [uf] using h);simp only[iv,this]
 case vj j f l =>
  have F:=map_congr (l:=l) (tm:=tm) (tm':=tm') (by simpa [uf] using h);have G:=RT (l:=l) (tm:=tm) (tm':=tm') (by simpa [uf] using h);simp only[iv,F,G]
 case vk j f l =>
  have F:=map_congr (l:=l) (tm:=tm) (tm':=tm') (by simpa [uf] using h);have G:=RT (l:=l) (tm:=tm) (tm':=tm') (by simpa [uf] using h);simp only[iv,F,G]
 all_goals exact auf (mem:=mem) h
def afN {tm tm':Nat->M}{op:kN}(h:∀s∈uf op,tm s=tm' s):en tm op=en tm' op:=by
 cases op<;>simp only[uf,jH] at h<;>try rfl
 case eW k o z sz len cO=>cases o<;>rfl
 case load n eG x=>simp only[en,gp h]
 case vi n s x a b c=>simp only[en,gp (λs R=>h s (.inl (.inl (.inl R))))]
 case store n x v=>simp only[en,gp (λs R=>h s (.inl R))]
 case app k z b s x=>simp only[en,gp (λs R=>h s (.inl R)),gp (λs R=>h s (.inr R))]
 case ub s d x=>simp only[en,gp (λs R=>h s (.inl R)),gp (λs R=>h s (.inr R))]
 case np b6 f l=>simp only[en,map_congr h]
 case vj j f l=>simp only[en,map_congr h]
 case vk j f l=>simp only[en,map_congr h]
 case wS z x=>simp only[en,gp h]
def aug {n:Nat}{m:M}{aR:Key->Prop}(h:∀x∈IE n m,aR x.key):∀j∈keyOf m,aR j:=by
 cases m<;>simp_all [IE,keyOf,ot.key]
def afO {mem mem':Mem}{sz:Nat}{m:M}(h:∀k∈keyOf m,mem k=mem' k):rY mem sz m=rY mem' sz m:=by
 cases m<;>try rfl
 case H d=>cases d<;>rfl
 simp only[rY];rw[h _ (by simp[keyOf])]
def auh {mem mem':Mem}{k:Key}{z:List M}{b:Nat}{m:M}{row:Option (Nat×List M)}(I:mem k=mem' k)(h:∀j∈keyOf m,mem j=mem' j):sX mem k z b m row=sX mem' k z b m row:=by
 cases m<;>cases row<;>try rfl
 ·simp only[sX,ca,I]
 ·simp only[sX];rw[h _ (by simp[keyOf])]
def aui {mem mem':Mem}{sz:Nat}{m:M}{row:Option (Nat×List M)}(h:∀j∈keyOf m,mem j=mem' j):yj mem sz m row=yj mem' sz m row:=by
 cases m<;>cases row<;>try rfl
 simp only[yj];rw[h _ (by simp[keyOf])]
def auj {mem mem':Mem}{z:List M}{m:M}(h:∀j∈keyOf m,mem j=mem' j):zK mem z m=zK mem' z m:=by
 cases m<;>try rfl
 simp only[zK];rw[h _ (by simp[keyOf])]
def auk {mem mem':Mem}{n:Nat}{eG:Bool}{m:M}(h:∀j∈keyOf m,mem j=mem' j):q3 mem n eG m=q3 mem' n eG m:=by
 cases m<;>try rfl
 case H d=>cases d<;>rfl
 simp only[q3];rw[h _ (by simp[keyOf])]
def aul {mem mem':Mem}{n:Nat}{m:M}{v:List M}(h:∀j∈keyOf m,mem j=mem' j):zJ mem n m v=zJ mem' n m v:=by
 cases m<;>try rfl
 simp only[zJ];rw[h _ (by simp[keyOf])]
def aum {mem mem':Mem}{n s a b:Nat}{m:M}(h:∀j∈keyOf m,mem j=mem' j):Dt mem n s a b m=Dt mem' n s a b m:=by
 cases m<;>try rfl
 simp only[Dt];rw[h _ (by simp[keyOf])]
def aun {mem mem':Mem}{tm:Nat->M}{op:kN}(h:∀x∈en tm op,mem x.key=mem' x.key):cB mem tm op=cB mem' tm op:=by
 have I6:∀k,mem k=mem' k->ca mem k=ca mem' k:=λk I=>by simp only[ca,I]
 cases op<;>try rfl
 case alloc k z=>simp only[cB,I6 k (h (.iu k) (by simp[en]))]
 case box k x=>simp only[cB,I6 k (h (.iu k) (by simp[en]))]
 case eW k o z sz len cO =>
  cases o
  ·rfl
  ·simp only[cB,I6 k (h (.iu k) (by simp[en]))]
 case mC k z b x y=>simp only[cB,I6 k (h (.iu k) (by simp[en]))]
 case load n eG x =>
  simp only[cB];rw[auk (aug (aR:=λj=>mem j=mem' j) h)]
 case vi n s x a b c =>
  cases c
  ·simp only[cB]
   congr 2
   funext l
   congr 1
   funext a1
   exact aum λj ae=>h (.iu j) (by simp[en,ae])
  ·rfl
 case store n x v =>
  simp only[cB];exact aul λj ae=>h (.iu j) (by simp[en,ae])
 case app k z b s x =>
  have cn:∀j,j=k\/j∈keyOf (bd tm s)\/j∈keyOf (bd tm x)->mem j=mem' j:=λj ae=>h (.iu j) (by simpa [en] using ae);simp only[cB,afO (sz:=D z) (λj ae=>cn j (.inr (.inr ae)))];exact auh (cn k (.inl rfl)) λj ae=>cn j (.inr (.inl ae))
 case ub s d x =>
  have cn:∀j,j∈keyOf (bd tm d)\/j∈keyOf (bd tm x)->mem j=mem' j:=λj ae=>h (.iu j) (by simpa [en] using ae);simp only[cB,afO (sz:=s) (λj ae=>cn j (.inr ae))];exact aui λj ae=>cn j (.inl ae)
 case wS z x =>
  simp only[cB];exact auj λj ae=>h (.iu j) (by simp[en,ae])
def afP {mem mem':Mem}{tm:Nat->M}{op:kN}(J:∀b6 f l,op ≠ .np b6 f l)(h:∀x∈en tm op,mem x.key=mem' x.key):iv T mem tm op=iv T mem' tm op:=by
 cases op
 case call=>rfl
 case nT k sz f l =>
  have:ca mem k=ca mem' k:=by
   have:=h (.iu k) (by simp[en]);simp only[ot.key] at this;simp only[ca,this]
  simp only[iv,this]
 case np b6 f l=>exact absurd rfl (J b6 f l)
 case vj j f l =>
  simp only[iv]
  cases hm:(l.map (bd tm))[j]? with
  |none=>rfl
  |some m =>
   cases m<;>try rfl
   have:=h (.iu _) (by simp only[en,hm,yk];exact g1);simp only[ot.key] at this;simp only[Mw,this]
 case vk j f l =>
  simp only[iv]
  cases hm:(l.map (bd tm))[j]? with
  |none=>rfl
  |some m =>
   cases m<;>try rfl
   have:=h (.iu _) (by simp only[en,hm,yk];exact g1);simp only[ot.key] at this;simp only[Mx,this]
 case nn=>rfl
 case rX=>rfl
 all_goals exact aun (mem:=mem) (mem':=mem') (tm:=tm) h
def RU {x:Option M}{m:M}{e:Option (Key×Nat×List M)}(h:kp x=some (m,e)):e=none:=(afy h).2
def auo {mem:Mem}{tm:Nat->M}{op:kN}{m:M}{e:Option (Key×Nat×List M)}(h:cB mem tm op=some (m,e)):e=none\/(kZ op=true/\∃k g cs,e=some (k,g,cs) /\ .iu k∈en tm op):=by
 cases op<;>try (first|exact .inl (RU h)|exact .inl (RU (x:=some _) h))
 case alloc k z =>
  simp only[cB,cF,fq] at h;exact .inr ⟨rfl,_,_,_,h.2.symm,by simp[en]⟩
 case box k x =>
  simp only[cB] at h
  split at h<;>simp only[cF,fq,reduceCtorEq] at h
  exact .inr ⟨rfl,_,_,_,h.2.symm,by simp[en]⟩
 case eW k o z sz len cO =>
  cases o
  ·exact .inl (RU h)
  ·simp only[cB,IC] at h
   (repeat' split at h)<;>simp only[cF,fq,reduceCtorEq] at h
   exact .inr ⟨rfl,_,_,_,h.2.symm,by simp[en]⟩
 case mC k z b x y =>
  obtain⟨_,_,_,_,h⟩:=afz h;simp only[ID] at h
  split at h<;>simp only[cF,fq,reduceCtorEq] at h
  exact .inr ⟨rfl,_,_,_,h.2.symm,by simp[en]⟩
 case vi n s x a b c =>
  cases c
  ·exact .inl (RU h)
  ·cases h
 case store n x v =>
  simp only[cB] at h
  cases L:bd tm x<;>rw[L] at h<;>simp only[zJ,reduceCtorEq] at h
  simp only[Mt] at h
  (repeat' split at h)<;>simp only[cF,fq,reduceCtorEq] at h
  exact .inr ⟨rfl,_,_,_,h.2.symm,by simp[en,L,keyOf]⟩
 case app k z b s x =>
  simp only[cB] at h
  cases X:rY mem (D z) (bd tm x)<;>cases R:bd tm s<;>rw[X,R] at h<;>simp only[sX,reduceCtorEq] at h
  ·split at h<;>simp only[cF,fq,reduceCtorEq] at h
   exact .inr ⟨rfl,_,_,_,h.2.symm,by simp[en]⟩
  ·simp only[lL] at h
   (repeat' split at h)<;>simp only[cF,fq,reduceCtorEq] at h
   exact .inr ⟨rfl,_,_,_,h.2.symm,by simp[en,R,keyOf]⟩
 case ub s d x =>
  simp only[cB] at h
  cases X:rY mem s (bd tm x)<;>cases R:bd tm d<;>rw[X,R] at h<;>simp only[yj,reduceCtorEq] at h
  simp only[Du] at h
  (repeat' split at h)<;>simp only[cF,fq,reduceCtorEq] at h
  exact .inr ⟨rfl,_,_,_,h.2.symm,by simp[en,R,keyOf]⟩
 case wS z x =>
  simp only[cB] at h
  cases R:bd tm x<;>rw[R] at h<;>simp only[zK,reduceCtorEq] at h
  simp only[Rz] at h
  (repeat' split at h)<;>simp only[cF,fq,reduceCtorEq] at h
  exact .inr ⟨rfl,_,_,_,h.2.symm,by simp[en,R,keyOf]⟩
 all_goals cases h
def afQ {mem:Mem}{j:Nat}{f:FuncId}{ms:List M}{x:Option M}{m:M}{e:Option (Key×Nat×List M)}(h:Mw T mem j f ms x=some (m,e)):
  ∃k g sz off len cs d r,x=some (.ref k g sz off len)/\mem k=some (g,cs)/\Mv sz off len cs=some d/\RA (T f (ms.set j (.H d)) emp)=some r/\m=.H r/\e=some (k,ca mem k,[]):=by
 unfold Mw at h
 split at h
 ·rename_i k g sz off len;unfold Xm at h
  split at h
  ·rename_i dp cs hm
   split at h
   ·rename_i bb;subst bb
    split at h
    ·rename_i d Z
     split at h
     ·rename_i r X;simp only[cF,fq] at h;exact⟨k,_,sz,off,len,cs,d,r,rfl,hm,Z,X,h.1.symm,by rw[<-h.2];simp[ca,hm]⟩
     ·cases h
    ·cases h
   ·cases h
  ·cases h
 ·cases h
def afR {mem:Mem}{j:Nat}{f:FuncId}{ms:List M}{x:Option M}{m:M}{e:Option (Key×Nat×List M)}(h:Mx T mem j f ms x=some (m,e)):
  ∃k g sz off len dp cs r,x=some (.ref k g sz off len)/\mem k=some (dp,cs)/\uc cs=true/\T f (ms.set j (.ref k g sz off len)) (a5 emp k dp cs)=some (.Bp r k)/\m=.H r/\e=some (k,ca mem k,[]):=by
 unfold Mx at h
 split at h
 ·rename_i k g sz off len;unfold Xn at h
  split at h
  ·rename_i dp cs hm
   split at h
   ·rename_i Z
    split at h
    ·rename_i r k' X
     split at h
     ·rename_i I;subst I;simp only[cF,fq] at h;exact⟨_,g,sz,off,len,dp,cs,r,rfl,hm,Z,X,h.1.symm,by rw[<-h.2];simp[ca,hm]⟩
     ·cases h
    ·cases h
   ·cases h
  ·cases h
 ·cases h
def afS {b6:Nat}{mem:Mem}{ms:List M}{x:Option hA}{m:M}{e:Option (Key×Nat×List M)}(h:IF b6 mem ms x=some (m,e)):
  ∃r k g i c cs,x=some (.dK r k g i c)/\mem k=some (g,cs)/\m=.H r/\e=some (k,g,cs.set i c)/\Mu b6 ms=[.wr k i]:=by
 unfold IF at h
 split at h
 ·rename_i k g off rest r k' dp i c
  split at h
  ·rename_i vA cs hm
   split at h
   ·rename_i J;obtain⟨rfl,rfl,rfl⟩:=J;simp only[cF,fq] at h;exact⟨r,_,_,_,c,cs,rfl,hm,h.1.symm,h.2.symm,rfl⟩
   ·cases h
  ·cases h
 ·cases h
def XS {mem:Mem}{tm:Nat->M}{op:kN}{m:M}{e:Option (Key×Nat×List M)}(h:iv T mem tm op=some (m,e)):e=none\/(kZ op=true/\∃k g cs,e=some (k,g,cs)/\(.iu k∈en tm op\/∃i c vB,en tm op=[.wr k i]/\mem k=some (g,vB)/\cs=vB.set i c)):=by
 have pl:cB mem tm op=some (m,e)->e=none\/(kZ op=true/\∃k g cs,e=some (k,g,cs)/\(.iu k∈en tm op\/∃i c vB,en tm op=[.wr k i]/\mem k=some (g,vB)/\cs=vB.set i c)):=λh=>by
  rcases auo h with h|⟨F,k,g,cs,G,ab⟩
  ·exact .inl h
  ·exact .inr ⟨F,k,g,cs,G,.inl ab⟩
 cases op
 case call f l =>
  simp only[iv] at h
  split at h<;>simp only[cF,fq,reduceCtorEq] at h
  ·exact .inl h.2.symm
  ·exact .inl h.2.symm
 case nT k sz f l =>
  simp only[iv] at h
  (repeat' split at h)<;>simp only[cF,fq,reduceCtorEq] at h
  exact .inr ⟨rfl,_,_,_,h.2.symm,.inl (by simp[en])⟩
 case nn=>cases h
 case rX=>cases h
 case np b6 f l =>
  obtain⟨r,k,g,i,c,cs,-,hm,-,he,aH⟩:=afS h;exact .inr ⟨rfl,k,g,_,he,.inr ⟨i,c,cs,aH,hm,rfl⟩⟩
 case vj j f l =>
  simp only[iv] at h;obtain⟨k,g,sz,off,len,cs,d,r,L,hm,-,-,-,he⟩:=afQ h;exact .inr ⟨rfl,k,_,_,he,.inl (by simp only[en,L,yk];exact g1)⟩
 case vk j f l =>
  simp only[iv] at h;obtain⟨k,g,sz,off,len,dp,cs,r,L,hm,-,-,-,he⟩:=afR h;exact .inr ⟨rfl,k,_,_,he,.inl (by simp only[en,L,yk];exact g1)⟩
 all_goals exact pl h
def aup {tm:Nat->M}{op:kN}{b:ot}(ad:b∈en tm op):(∃k,b=.iu k)\/(∃n eG x k g off,op=.load n eG x/\bd tm x=.ptr k g off/\b=.rd k off (off+n))\/∃b6 f l,op=.np b6 f l:=by
 cases op
 case load n eG x =>
  simp only[en] at ad
  cases L:bd tm x<;>rw[L] at ad<;>simp[IE] at ad
  ·exact .inl ⟨_,ad⟩
  ·exact .inr (.inl ⟨_,_,_,_,_,_,rfl,L,ad⟩)
 case np b6 f l=>exact .inr (.inr ⟨_,_,_,rfl⟩)
 case vj j f l =>
  simp only[en] at ad
  cases hm:(l.map (bd tm))[j]? with
  |none=>rw[hm] at ad;simp[yk] at ad
  |some m =>
   rw[hm] at ad
   cases m<;>simp[yk] at ad;exact .inl ⟨_,ad⟩
 case vk j f l =>
  simp only[en] at ad
  cases hm:(l.map (bd tm))[j]? with
  |none=>rw[hm] at ad;simp[yk] at ad
  |some m =>
   rw[hm] at ad
   cases m<;>simp[yk] at ad;exact .inl ⟨_,ad⟩
 case eW k o z sz len cO =>
  cases o<;>simp[en] at ad;exact .inl ⟨_,ad⟩
 all_goals
  simp[en] at ad
  try first
   |exact .inl ⟨_,ad⟩
   |(rcases ad with ⟨k,_,h⟩|⟨k,_,h⟩<;>exact .inl ⟨k,h.symm⟩)
   |(rcases ad with h|⟨k,_,h⟩|⟨k,_,h⟩<;>first|exact .inl ⟨_,h⟩|exact .inl ⟨_,h.symm⟩)
   |(obtain⟨k,_,h⟩:=ad;exact .inl ⟨k,h.symm⟩)
def auq {cs:List M}{i off n:Nat}{c:M}(h:i<off\/off+n<=i):cut (cs.set i c) off n=cut cs off n:=by
 unfold cut;rw[ie]
 split
 ·congr 1
  rcases h with h|h
  ·rw[vC h]
  ·by_cases O:i<off
   ·rw[vC O]
   ·rw[List.drop_set,aa O,List.take_set_of_le (by omega)]
 ·rfl
def aur {mem:Mem}{k g i:Nat}{c:M}{cs:List M}{n:Nat}{eG:Bool}{k' dp off:Nat}(hm:mem k=some (g,cs))(h:k'≠k\/i<off\/off+n<=i):
  q3 (a5 mem k g (cs.set i c)) n eG (.ptr k' dp off)=q3 mem n eG (.ptr k' dp off):=by
 by_cases I:k'=k
 ·subst I;have h:=h.resolve_left (λh=>h rfl);simp only[q3,a5,if_true,hm,auq h]
 ·simp only[q3,a5,I,if_false]
def afT {mem:Mem}{tm:Nat->M}{x y:kN}{m:M}{e:Option (Key×Nat×List M)}(aus:iv T mem tm x=some (m,e))(aZ:s0 (kZ x,en tm x) (kZ y,en tm y)=true):iv T (jC mem e) tm y=iv T mem tm y:=by
 rcases XS aus with rfl|⟨hw,k,g,cs,rfl,I⟩
 ·rfl
 ·have ea:∀a∈en tm x,∀b∈en tm y,sZ a b=true:=by
   unfold s0 at aZ
   simpa [hw] using aZ
  have aut:∀b6 f l,y=.np b6 f l->en tm y=[]:=by
   rintro b6 f l rfl
   cases ad:en tm (.np b6 f l) with
   |nil=>rfl
   |cons b r =>
    exfalso
    have nr:∃k' bn,b=.wr k' bn:=by
     simp only[en] at ad;unfold Mu at ad
     split at ad
     ·cases ad;exact⟨_,_,rfl⟩
     ·cases ad
    obtain⟨k',bn,rfl⟩:=nr;have hm:ot.wr k' bn∈en tm (.np b6 f l):=by rw[ad];exact g1
    rcases I with I|⟨i,c,vB,aH,_,_⟩
    ·have:=ea _ I _ hm;simp[sZ] at this
    ·have:=ea (.wr k i) (by rw[aH];exact g1) _ hm;simp[sZ] at this
  by_cases aj:∃b6 f l,y=.np b6 f l
  ·obtain⟨b6,f,l,rfl⟩:=aj;have ay:=aut _ _ _ rfl;simp only[en] at ay
   have a2:∀mem' ku,IF b6 mem' (l.map (bd tm)) ku=none:=by
    intro mem' ku;unfold IF
    split
    ·rename_i heq;rw[heq] at ay;simp[Mu] at ay
    ·rfl
   simp only[iv,a2]
  ·have J:∀b6 f l,y ≠ .np b6 f l:=λb6 f l h=>aj ⟨b6,f,l,h⟩;rcases I with I|⟨i,c,vB,aH,hm,rfl⟩
   ·refine (afP J λb ad=>?_).symm;have F:=ea _ I b ad
    have:b.key≠k:=by
     rintro rfl
     cases b<;>simp[sZ,ot.key] at F
    simp[jC,a5,this]
   ·have F:=ea (.wr k i) (by rw[aH];exact g1)
    by_cases aq:∃n eG z k' dp off,y=.load n eG z/\bd tm z=.ptr k' dp off
    ·obtain⟨n,eG,z,k',dp,off,rfl,a2⟩:=aq;have G:=F (.rd k' off (off+n)) (by simp[en,a2,IE]);simp only[iv,cB,a2,jC];rw[aur hm];simp[sZ] at G;exact G
    ·refine (afP J λb ad=>?_).symm
     exfalso
     rcases aup ad with ⟨k',rfl⟩|⟨n,eG,z,k',dp,off,ab,aV,_⟩|⟨b6,f,l,ab⟩
     ·have:=F _ ad;simp[sZ] at this
     ·exact aq ⟨n,eG,z,k',dp,off,ab,aV⟩
     ·exact J _ _ _ ab
def afU {tm:Nat->M}{op:kN}(h:ue op=0):en tm op=[]/\kZ op=false:=by
 cases op<;>simp_all [ue,kZ,en]
 all_goals (rename_i b _ _ _ _;cases b<;>simp_all [kZ,en])
def afV {op:kN}(h:ue op=1):kZ op=false:=by
 cases op<;>simp_all [ue,kZ]
 all_goals (rename_i b _ _ _ _;cases b<;>simp_all [kZ])
end Go.Mini
namespace Go.Mini
open Go
variable {T:ba} {k4:Nat->Nat->Bool}
def zZ (T:ba)(k4:Nat->Nat->Bool)(i:Nat)(x:cN)(rec:Rec)(st:bc)(BI:Rec)(eC:bc):Prop :=
 (qg st.tm x.g=some false/\BI=rec/\eC=⟨put st.tm x.dst .no,st.mem⟩) \/
 (qg st.tm x.g=some true/\∃m e,iv T st.mem st.tm x.op=some (m,e)/\(∀p q,k4 p i=true->rec p=some q->s0 q (kZ x.op,en st.tm x.op)=true) /\
  BI=wW rec i (kZ x.op,en st.tm x.op)/\eC=⟨put st.tm x.dst m,jC st.mem e⟩)
def yv {tm:Nat->M}{dst:Option Nat}{m:M}{s:Nat}(h:dst≠some s):put tm dst m s=tm s:=by
 cases dst with
 |none=>rfl
 |some d =>
  have:s≠d:=λe=>h (by rw[e]);simp[put,this]
def put_comm {tm:Nat->M}{d zX:Option Nat}{m m':M}(h:∀s,d=some s->zX≠some s):put (put tm d m) zX m'=put (put tm zX m') d m:=by
 funext s
 by_cases F:d=some s
 ·rw[yv (h s F)];subst F;simp[put]
 ·rw[yv (dst:=d) F]
  by_cases G:zX=some s
  ·subst G;simp[put]
  ·rw[yv G,yv G,yv F]
def afW {tm tm':Nat->M}{g:Option (Nat×Bool)}(h:∀s b,g=some (s,b)->tm s=tm' s):qg tm g=qg tm' g:=by
 cases g with
 |none=>rfl
 |some p =>
  obtain⟨s,b⟩:=p;simp only[qg,h s b rfl]
def afX {x y:cN}(h:zO x y=true):(∀d,x.dst=some d->d ∉ Dw y)/\(∀d,x.dst=some d->y.dst≠some d)/\(∀d,y.dst=some d->d ∉ Dw x):=by
 refine⟨λd Z=>?_,λd Z=>?_,λd Z=>?_⟩<;>simp[zO,Z] at h
 ·exact h.1.1
 ·exact h.1.2
 ·exact h.2
def RV {x:cN}{s:Nat}(h:s∈uf x.op):s∈Dw x:=by simp[Dw,h]
def afY {x:cN}{s:Nat}{b:Bool}(h:x.g=some (s,b)):s∈Dw x:=by simp[Dw,h]
def auu (a b:ot):sZ a b=sZ b a:=by
 have J:∀k k':Nat,(k==k')=(k'==k):=λk k'=>BEq.comm
 cases a<;>cases b<;>first|rfl|(unfold sZ;dsimp only;rw[J])
def afZ {a b:Bool×List ot}(h:s0 a b=true):s0 b a=true:=by
 unfold s0 at *;simp only[s9,Bool.not_eq_true',Bool.or_eq_false_iff,nt] at *;rcases h with ⟨F,G⟩|h
 ·exact .inl ⟨G,F⟩
 ·exact .inr λx L y aj=>by rw[auu];exact h y aj x L
def auv {mem:Mem}{e e':Option (Key×Nat×List M)}(h:∀j g cs mW dp jY,e=some (j,g,cs)->e'=some (mW,dp,jY)->j≠mW):jC (jC mem e) e'=jC (jC mem e') e:=by
 cases e with
 |none=>rfl
 |some p =>
  cases e' with
  |none=>rfl
  |some re =>
   obtain⟨j,g,cs⟩:=p;obtain⟨mW,dp,jY⟩:=re;have b8:=h _ _ _ _ _ _ rfl rfl
   funext k
   simp only[jC,a5]
   by_cases F:k=mW
   ·by_cases G:k=j
    ·exact absurd (G.symm.trans F) b8
    ·simp[F,G];intro ab;exact absurd ab.symm b8
   ·simp[F]
def Passes (k4:Nat->Nat->Bool)(i j:Nat)(x y:cN):Prop:=k4 i j=true\/Bs (ue x.op) (ue y.op)=true
def auw {i j:Nat}{x y:cN}{tm:Nat->M}(h:Passes k4 i j x y)(J:k4 i j=true->s0 (kZ x.op,en tm x.op) (kZ y.op,en tm y.op)=true):
  s0 (kZ x.op,en tm x.op) (kZ y.op,en tm y.op)=true:=by
 rcases h with h|h
 ·exact J h
 ·unfold Bs at h;simp only[s9,fC,beq_iff_eq] at h;rcases h with (h|h)|⟨F,G⟩
  ·obtain⟨F,G⟩:=afU (tm:=tm) h;simp[s0,F]
  ·obtain⟨F,G⟩:=afU (tm:=tm) h;simp[s0,F]
  ·have F:=afV F;have G:=afV G;simp[s0,F,G]
def zZ.comm {i j:Nat}{x y:cN}{rec ta RW:Rec}{st tb RX:bc}(nA:i≠j)(c9:zO x y=true)(aE:Passes k4 i j x y)(XT:∀a b,k4 a b=k4 b a)(k5:rec i=none)
  (F:zZ T k4 i x rec st ta tb) (G:zZ T k4 j y ta tb RW RX):∃MT MU,zZ T k4 j y rec st MT MU/\zZ T k4 i x MT MU RW RX:=by
 obtain⟨aZ,ad,J⟩:=afX c9
 -- what one sees of the other's temporary: nothing
 have auy:∀m,qg (put st.tm x.dst m) y.g=qg st.tm y.g:=λm=>afW λs b R=>yv λZ=>aZ s Z (afY R);have auz:∀mem m,iv T mem (put st.tm x.dst m) y.op=iv T mem st.tm y.op:=λmem m=>afM λs R=>yv λZ=>aZ s Z (RV R);have auA:∀m,en (put st.tm x.dst m) y.op=en st.tm y.op:=λm=>afN λs R=>yv λZ=>aZ s Z (RV R);have RY:∀m,qg (put st.tm y.dst m) x.g=qg st.tm x.g:=λm=>afW λs b R=>yv λZ=>J s Z (afY R);have af0:∀mem m,iv T mem (put st.tm y.dst m) x.op=iv T mem st.tm x.op:=λmem m=>afM λs R=>yv λZ=>J s Z (RV R);have RZ:∀m,en (put st.tm y.dst m) x.op=en st.tm x.op:=λm=>afN λs R=>yv λZ=>J s Z (RV R);have mY:∀m m',put (put st.tm x.dst m) y.dst m'=put (put st.tm y.dst m') x.dst m:=λm m'=>put_comm ad;rcases F with ⟨cU,rfl,rfl⟩|⟨cU,dg,au,s1,ar,rfl,rfl⟩<;>rcases G with ⟨dc,rfl,rfl⟩|⟨dc,bU,aC,s2,c2,rfl,rfl⟩<;>simp only[auy,auz,auA] at *
 ·exact⟨_,_,.inl ⟨dc,rfl,rfl⟩,.inl ⟨by simp only[RY];exact cU,rfl,by simp only[mY]⟩⟩
 ·exact⟨_,_,.inr ⟨dc,bU,aC,s2,c2,rfl,rfl⟩,.inl ⟨by simp only[RY];exact cU,rfl,by simp only[mY]⟩⟩
 ·exact⟨_,_,.inl ⟨dc,rfl,rfl⟩,.inr ⟨by simp only[RY];exact cU,dg,au,by simp only[af0];exact s1,by simp only[RZ];exact ar,by simp only[RZ],by simp only[mY]⟩⟩
 ·have af1:k4 i j=true->s0 (kZ x.op,en st.tm x.op) (kZ y.op,en st.tm y.op)=true:=λh=>c2 i _ h (by simp[wW]);have DF:=auw (tm:=st.tm) aE af1;have XU:iv T st.mem st.tm y.op=some (bU,aC):=by rw[<-s2];exact (afT s1 DF).symm
  have fD:∀j g cs mW dp jY,au=some (j,g,cs)->aC=some (mW,dp,jY)->j≠mW:=by
   rintro k g cs k' dp jY rfl rfl rfl;rcases XS s1 with h|⟨hw,dw,dc,uq,h,F⟩
   ·cases h
   ·cases h;rcases XS XU with h|⟨af2,dW,hj,aNe,h,G⟩
    ·cases h
    ·cases h;unfold s0 at DF;simp only[hw,ur,b3,uu,nt] at DF;rcases F with F|⟨i,c,vB,F,_,_⟩<;>rcases G with G|⟨bn,c',aNf,G,_,_⟩
     ·have:=DF _ F _ G;simp[sZ] at this
     ·have:=DF _ F (.wr k bn) (by rw[G];exact g1);simp[sZ] at this
     ·have:=DF (.wr k i) (by rw[F];exact g1) _ G;simp[sZ] at this
     ·have:=DF (.wr k i) (by rw[F];exact g1) (.wr k bn) (by rw[G];exact g1);simp[sZ] at this
  refine⟨_,_,.inr ⟨dc,bU,aC,XU,λp q R0 bq=>?_,rfl,rfl⟩,.inr ⟨by simp only[RY];exact cU,dg,au,?_,?_,?_,?_⟩⟩
  ·have b8:p≠i:=λh=>by rw[h,k5] at bq;cases bq
   exact c2 p q R0 (by simp[wW,b8,bq])
  ·simp only[af0];rw[<-s1];exact afT XU (afZ DF)
  ·simp only[RZ];intro p q rf bq
   by_cases R0:p=j
   ·subst R0;simp only[wW,if_true,cF] at bq;subst bq;exact afZ (af1 (by rw[XT];exact rf))
   ·simp only[wW,R0,if_false] at bq;exact ar p q rf bq
  ·simp only[RZ]
   funext p
   simp only[wW]
   by_cases F:p=i
   ·subst F;simp[nA]
   ·simp[F]
  ·simp only[mY];rw[auv fD]
end Go.Mini
namespace Go.Mini
open Go
variable {T:ba} {k4:Nat->Nat->Bool} {ops:Array Oper} {l:List cN} {K:bc->Prop}
def I7 (T:ba)(k4:Nat->Nat->Bool)(ops:Array Oper)(l:List cN)(K:bc->Prop):Nat->Array Bool->Rec->bc->Prop
 |0,fm,_,st=>Region.ready .any ops fm=[]/\K st
 |fuel+1,fm,rec,st=>(Region.ready .any ops fm=[]->K st) /\
  ∀i∈Region.ready .any ops fm,∃x BI eC,l[i]?=some x/\zZ T k4 i x rec st BI eC/\I7 T k4 ops l K fuel (fm.setIfInBounds i true) BI eC
def DG (ops:Array Oper)(fm:Array Bool):Prop :=
 fm.size=ops.size/\∀(j:Nat) (o:Oper),ops[j]?=some o->fm.getD j false=true->∀e∈o.after,Region.binds .any e=true->fm.getD e.on false=true
def DG.set {fm:Array Bool}{i:Nat}(h:DG ops fm)(O:i∈Region.ready .any ops fm):DG ops (fm.setIfInBounds i true):=by
 refine⟨by simp[h.1],λj o ae aq e he ad=>?_⟩
 by_cases jR:j=i
 ·subst jR;obtain⟨_,MV,bw,ea⟩:=mem_ready.1 O;rw[ae] at bw
  cases bw
  exact getD_set_true (ea e he ad)
 ·rw[getD_set_ne false (Ne.symm jR)] at aq;exact getD_set_true (h.2 j o ae aq e he ad)
def XV (k4:Nat->Nat->Bool)(ops:Array Oper)(l:List cN):Prop :=
 ∀(i j:Nat) (x y:cN),i≠j->l[i]?=some x->l[j]?=some y ->
  (∀fm,DG ops fm->i∈Region.ready .any ops fm->j∈Region.ready .any ops fm->False)\/(zO x y=true/\Passes k4 i j x y)
def af3 {i k:Nat}{x:cN}{rec BI:Rec}{st eC:bc}(h:zZ T k4 i x rec st BI eC)(I:k≠i):BI k=rec k:=by
 rcases h with ⟨_,rfl,_⟩|⟨_,_,_,_,_,rfl,_⟩
 ·rfl
 ·simp[wW,I]
def auB {fm:Array Bool}{i k:Nat}(h:(fm.setIfInBounds i true).getD k true=false):k≠i/\fm.getD k true=false:=by
 by_cases uv:i=k
 ·subst uv
  exfalso
  by_cases ah:i<fm.size
  ·simp[ah] at h
  ·have:(fm.setIfInBounds i true).size<=i:=by simp;omega
   rw[Array.getD_eq_getD_getElem?,Array.getElem?_eq_none this] at h;simp at h
 ·rw[getD_set_ne true uv] at h;exact⟨λcn=>uv cn.symm,h⟩
def auC (aE:XV k4 ops l)(XT:∀a b,k4 a b=k4 b a){i:Nat}{x:cN}(O:l[i]?=some x):∀(fuel:Nat) (fm:Array Bool) (rec:Rec) (st:bc) (ta:Rec) (tb:bc),
  DG ops fm->(∀k,fm.getD k true=false->rec k=none)->i∈Region.ready .any ops fm->zZ T k4 i x rec st ta tb ->
  I7 T k4 ops l K fuel (fm.setIfInBounds i true) ta tb->I7 T k4 ops l K (fuel+1) fm rec st:=by
 intro fuel
 induction fuel with
 |zero =>
  intro fm rec st ta tb ew z0 X he gR;refine⟨λh=>(by rw[h] at X;cases X),λj ae=>?_⟩
  by_cases jR:j=i
  ·subst jR;exact⟨x,ta,tb,O,he,gR⟩
  ·have:=ready_mono ae jR;rw[gR.1] at this
   cases this
 |succ fuel aG =>
  intro fm rec st ta tb ew z0 X he gR;refine⟨λh=>(by rw[h] at X;cases X),λj ae=>?_⟩
  by_cases jR:j=i
  ·subst jR;exact⟨x,ta,tb,O,he,gR⟩
  ·obtain⟨y,RW,RX,aj,gx,db⟩:=gR.2 j (ready_mono ae jR);rcases aE i j x y (Ne.symm jR) O aj with gl|⟨c9,auD⟩
   ·exact (gl fm ew X ae).elim
   ·obtain⟨MT,MU,F,G⟩:=zZ.comm (Ne.symm jR) c9 auD XT (z0 i (mem_ready.1 X).1) he gx;refine⟨y,MT,MU,aj,F,aG _ MT MU RW RX (ew.set ae) (λk I=>?_) (ready_mono X (Ne.symm jR)) G ?_⟩
    ·obtain⟨ab,aV⟩:=auB I;rw[af3 F ab];exact z0 k aV
    ·rw[Array.setIfInBounds_comm _ _ jR];exact db
def XW:∀(r:List Oper) (acc:List Nat) (k:Nat),k<(D acc)->(r0 r acc).getD k 0=acc.getD k 0
 | [],acc,k,_=>rfl
 |o::r,acc,k,I=>by
  simp only[r0];rw[XW r _ k (by simp;omega)];simp only[eD];rw[qi I]
def auE {es:List Edge}{acc:List Nat}{i:Nat}:∀(s:Nat),(es.foldl (λs e=>if Region.binds .any e=true then s ||| (2^e.on ||| acc.getD e.on 0) else s) s).testBit i=true ->
  s.testBit i=true\/∃e∈es,Region.binds .any e=true/\(e.on=i\/(acc.getD e.on 0).testBit i=true):=by
 induction es with
 |nil=>exact λs h => .inl h
 |cons e es aG =>
  intro s h;rw[aff] at h;rcases aG _ h with F|⟨e',F,G⟩
  ·split at F
   ·rename_i ad;rw[af4,af4,s9,s9] at F;rcases F with F|F|F
    ·exact .inl F
    ·rw[Nat.testBit_two_pow] at F;exact .inr ⟨e,by simp,ad,.inl (by simpa using F)⟩
    ·exact .inr ⟨e,by simp,ad,.inr F⟩
   ·exact .inl F
  ·exact .inr ⟨e',by simp[F],G⟩
def af5:∀(r:List Oper) (acc:List Nat) (t:Nat) (o:Oper),r[t]?=some o->∀i,((r0 r acc).getD (D acc+t) 0).testBit i=true ->
  ∃e∈o.after.toList,Region.binds .any e=true/\(e.on=i\/(e.on<D acc+t/\((r0 r acc).getD e.on 0).testBit i=true))
 | [],_,_,_,h,_,_=>by simp at h
 |MV::r,acc,0,o,h,i,ad=>by
  simp at h;subst h;simp only[r0,lO] at ad ⊢;rw[XW r _ _ (by simp)] at ad;simp only[eD] at ad;rw[ov (cl _)] at ad;simp only[j0,F9,BJ] at ad;rcases auE (acc:=acc) 0 (by simpa only [eD] using ad) with F|⟨e,F,G,ab⟩
  ·simp at F
  ·refine⟨e,F,G,ab.imp id λh=>?_⟩
   have ah:e.on<D acc:=by
    rcases hO e.on (D acc) with cn|cn
    ·exact cn
    ·rw[eD,jZ cn] at h;simp at h
   refine⟨ah,?_⟩;rw[XW r _ _ (by simp;omega),eD,qi ah,<-eD];exact h
 |MV::r,acc,t+1,o,h,i,ad=>by
  have cn:r[t]?=some o:=by simpa using h
  simp only[r0] at ad ⊢
  have:=af5 r (acc++[MV.after.toList.foldl (λs e=>if Region.binds .any e=true then s ||| (2^e.on ||| acc.getD e.on 0) else s) 0]) t o cn i (by
   rw[gC,List.length_singleton,vn,Dm 1 t];exact ad)
  obtain⟨e,F,G,ab⟩:=this;refine⟨e,F,G,ab.imp id λh=>⟨by have:=h.1;simp at this;omega,h.2⟩⟩
def auF {fm:Array Bool}(ew:DG ops fm):∀(j:Nat) (o:Oper),ops[j]?=some o->(∀e∈o.after,Region.binds .any e=true->fm.getD e.on false=true) ->
  ∀i,((r0 ops.toList []).getD j 0).testBit i=true->fm.getD i false=true:=by
 intro j
 induction j using MW with
 |_ j aG =>
  intro o bw ea i O;obtain⟨e,he,ad,h⟩:=af5 ops.toList [] j o (by simpa using bw) i (by simpa using O);have aq:=ea e (by simpa using he) ad;rcases h with rfl|⟨ah,auG⟩
  ·exact aq
  ·have fw:e.on<ops.size:=by
    rw[<-ew.1];rcases hO e.on fm.size with cn|cn
    ·exact cn
    ·simp[Array.getElem?_eq_none cn] at aq
   have af6:ops[e.on]?=some ops[e.on]:=Array.getElem?_eq_getElem fw;exact aG e.on (by simpa using ah) _ af6 (ew.2 e.on _ af6 aq) i auG
def af7:∀(cs pre:List cN) (as:List Nat),IK pre cs as=true->∀(t:Nat) (y:cN),cs[t]?=some y->∀(i:Nat) (x:cN),(pre++cs)[i]?=some x->i<D pre+t ->
  (as.getD t 0).testBit i=true\/zO x y=true
 | [],_,_,_,_,_,h,_,_,_,_=>by simp at h
 |_::_,_,[],h,_,_,_,_,_,_,_=>by simp[IK] at h
 |c::cs,pre,a::as,h,0,y,aj,i,x,L,ah=>by
  simp only[IK,fC,nt] at h;simp at aj;subst aj;have O:i<D pre:=by simpa using ah
  rw[qi O] at L;have:=h.1 (x,i) (by rw[af8];exact L)
  simpa using this
 |c::cs,pre,a::as,h,t+1,y,aj,i,x,L,ah=>by
  simp only[IK,fC] at h;have:=af7 cs (pre++[c]) as h.2 t y (by simpa using aj) i x (by simpa using L) (by simp;omega)
  simpa using this
def af9:∀(cs pre:List cN) (as:List Nat) (t:Nat) (y:cN),cs[t]?=some y->∀(i:Nat) (x:cN),(pre++cs)[i]?=some x->i<D pre+t ->
  (as.getD t 0).testBit i=true\/Bs (ue x.op) (ue y.op)=true\/i∈(Bt pre cs as).getD t []
 | [],_,_,_,_,h,_,_,_,_=>by simp at h
 |c::cs,pre,as,0,y,aj,i,x,L,ah=>by
  simp at aj;subst aj;have O:i<D pre:=by simpa using ah
  rw[qi O] at L;have gQ:(x,i)∈pre.zipIdx:=by rw[af8];exact L
  by_cases F:(as.getD 0 0).testBit i=true
  ·exact .inl F
  ·by_cases G:Bs (ue x.op) (ue c.op)=true
   ·exact .inr (.inl G)
   ·refine .inr (.inr ?_);simp only[Bt,eD,F9,BJ];refine List.mem_map.2 ⟨(x,i),List.mem_filter.2 ⟨gQ,?_⟩,rfl⟩;have ab:as.headD 0=as.getD 0 0:=by cases as<;>rfl
    simp only[ab];rw[eD] at F;simp[F,G]
 |c::cs,pre,as,t+1,y,aj,i,x,L,ah=>by
  have:=af9 cs (pre++[c]) as.tail t y (by simpa using aj) i x (by simpa using L) (by simp;omega);have ab:as.tail.getD t 0=as.getD (t+1) 0:=by cases as<;>simp
  rw[ab] at this
  simpa [Bt] using this
def yw (c:List (List Nat))(i j:Nat):Bool:=if i<j then (c.getD j []).contains i else if j<i then (c.getD i []).contains j else false
def aga (c:List (List Nat))(i j:Nat):yw c i j=yw c j i:=by
 unfold yw
 by_cases F:i<j
 ·simp[F,agb F]
 ·by_cases G:j<i
  ·simp[G,agb G]
  ·simp[F,G]
def auH {x y:cN}(h:zO x y=true):zO y x=true:=by
 obtain⟨F,G,ab⟩:=afX h;unfold zO;rw[fC]
 constructor
 ·cases aj:y.dst with
  |none=>rfl
  |some d =>
   have a:=ab d aj;have b:x.dst≠some d:=λL=>G d L aj;simp[a,b]
 ·cases L:x.dst with
  |none=>rfl
  |some d =>
   have a:=F d L;simp[a]
def auI (a b:Nat):Bs a b=Bs b a:=by
 unfold Bs
 cases (a==0)<;>cases (b==0)<;>cases (a==1)<;>cases (b==1)<;>rfl
def auJ (Z:IP ops l=true):XV (yw (Bt [] l (r0 ops.toList []))) ops l:=by
 have key:∀(i j:Nat) (x y:cN),i<j->l[i]?=some x->l[j]?=some y ->
   (∀fm,DG ops fm->i∈Region.ready .any ops fm->j∈Region.ready .any ops fm->False) \/
   (zO x y=true/\(yw (Bt [] l (r0 ops.toList [])) i j=true\/Bs (ue x.op) (ue y.op)=true)):=by
  intro i j x y nA L aj;unfold IP at Z;rw[fC] at Z
  by_cases ad:((r0 ops.toList []).getD j 0).testBit i=true
  ·refine .inl λfm ew O ae=>?_;obtain⟨_,o,bw,ea⟩:=mem_ready.1 ae;have F:=auF ew j o bw ea i ad;have ay:=(mem_ready.1 O).1;rcases hO i fm.size with cn|cn
   ·simp[cn] at ay F;rw[ay] at F;cases F
   ·simp[Array.getElem?_eq_none cn] at F
  ·refine .inr ⟨?_,?_⟩
   ·rcases af7 l [] _ Z.2 j y aj i x (by simpa using L) (by simpa using nA) with h|h
    ·exact absurd h ad
    ·exact h
   ·rcases af9 l [] (r0 ops.toList []) j y aj i x (by simpa using L) (by simpa using nA) with h|h|h
    ·exact absurd h ad
    ·exact .inr h
    ·exact .inl (by unfold yw;rw[Y nA];exact agc.2 h)
 intro i j x y nA L aj;rcases Nat.lt_or_gt_of_ne nA with h|h
 ·exact key i j x y h L aj
 ·rcases key j i y x h aj L with F|⟨F,G⟩
  ·exact .inl λfm ew O ae=>F fm ew ae O
  ·refine .inr ⟨auH F,?_⟩;rcases G with G|G
   ·exact .inl (by rw[aga];exact G)
   ·exact .inr (by rw[auI];exact G)
end Go.Mini
namespace Go.Mini
open Go
variable {P:Program} {T:ba} {A:Nat->Prop} {eB w:World} {ic B:fu} {mem:Mem} {n kb:Nat} {own:List Nat} {ops:Array Oper} {l:List cN} {K:bc->Prop} {aR:Exit->Act->World->Prop}
def agd:∀(r:List Oper) (m:Nat),IM m r=true->∀(t:Nat) (o:Oper),r[t]?=some o->∀e∈o.after,Region.binds .any e=true->e.on<m+t
 | [],_,_,_,_,h,_,_,_=>by simp at h
 |MV::r,m,h,0,o,bw,e,he,ad=>by
  simp only[IM,fC] at h;simp at bw;subst bw;have:=(Array.all_eq_true_iff_forall_mem.1 h.1) e he
  simpa [ad] using this
 |MV::r,m,h,t+1,o,bw,e,he,ad=>by
  simp only[IM,fC] at h;have:=agd r (m+1) h.2 t o (by simpa using bw) e he ad;omega
def age {c:List (List Nat)}(aE:XV (yw c) ops l)(aq:(D l)=ops.size)(he:IM 0 ops.toList=true):∀(r:List cN) (m:Nat) (rec:Rec) (st:bc) (fm:Array Bool),l.drop m=r->m+D r=(D l) ->
  fm.size=ops.size->(∀i,i<ops.size->fm.getD i true=decide (i<m))->(∀k,m<=k->rec k=none)->yl T K m r (c.drop m) rec st->I7 T (yw c) ops l K (D r) fm rec st
 | [],m,rec,st,fm,X,hm,R,hli,z0,h=>by
  refine⟨List.eq_nil_iff_forall_not_mem.2 λi O=>?_,h⟩;obtain⟨F,o,bw,_⟩:=mem_ready.1 O;have ah:i<ops.size:=(Array.getElem?_eq_some_iff.1 bw).1;rw[hli i ah] at F;simp at F hm;omega
 |x::r,m,rec,st,fm,X,hm,R,hli,z0,h=>by
  have ah:m<ops.size:=by simp at hm;omega
  have bw:ops[m]?=some ops[m]:=Array.getElem?_eq_getElem ah
  have L:l[m]?=some x:=by
   have:(l.drop m)[0]?=some x:=by rw[X];rfl
   simpa using this
  have kS:=λ(j:Nat) (o:Oper) (ae:ops[j]?=some o)=>agd ops.toList 0 he j o (by simpa using ae)
  have cP:∀i,i<m->fm.getD i false=true:=λi O=>by
   have F:=hli i (by omega);rw[hN O] at F;have G:i<fm.size:=by omega
   simpa [G] using F
  have ew:DG ops fm:=⟨R,λj o ae mb e q8 ad=>by
   have F:=kS j o ae e q8 ad;have q5:j<ops.size:=(Array.getElem?_eq_some_iff.1 ae).1
   have G:j<m:=by
    have:=hli j q5;have ab:j<fm.size:=by omega
    simp[ab] at mb this;rw[mb] at this
    simpa using this.symm
   exact cP _ (by omega)⟩
  have auK:m∈Region.ready .any ops fm:=mem_ready.2 ⟨by rw[hli m ah];simp,_,bw,λe q8 ad=>cP _ (by have:=kS m _ bw e q8 ad;omega)⟩
  have auL:∀k,fm.getD k true=false->rec k=none:=λk I=>z0 k (by
   rcases hO k ops.size with cn|cn
   ·rw[hli k cn] at I
    simpa using I
   ·omega)
  have next:∀ta tb,zZ T (yw c) m x rec st ta tb->yl T K (m+1) r (c.drop m).tail ta tb->I7 T (yw c) ops l K (D r+1) fm rec st:=by
   intro ta tb hex I;refine auC aE (aga c) L _ fm rec st ta tb ew auL auK hex (age aE aq he r (m+1) ta tb _ ?_ (by simp at hm;omega) (by simpa using R) (λi O=>?_) (λk I=>?_) ?_)
   ·rw[<-I8,X]
    rfl
   ·by_cases him:m=i
    ·subst him;have:m<fm.size:=by omega
     simp[this]
    ·rw[getD_set_ne true him,hli i O]
     congr 1
     simp;omega
   ·rw[af3 hex (by omega)];exact z0 k (by omega)
   ·rw[List.tail_drop] at I;exact I
  simp only[yl] at h
  split at h
  ·cases h
  ·rename_i g bb
   split at h
   ·rename_i iz;subst iz
    split at h
    ·rename_i ko e R;refine next _ _ (.inr ⟨bb,ko,e,R,λp q pI bq=>?_,rfl,rfl⟩) h.2
     have ia:p<m:=by
      rcases hO p m with cn|cn
      ·exact cn
      ·rw[z0 p cn] at bq;cases bq
     have XX:=h.1;unfold IG at XX;rw[nt] at XX
     have gQ:p∈(c.drop m).headD []:=by
      unfold yw at pI;rw[Y ia] at pI
      have:(c.drop m).headD []=c.getD m []:=by
       rw[List.headD_eq_head?_getD,List.head?_drop,eD]
      rw[this];exact agc.1 pI
     have:=XX p gQ;rw[bq] at this;exact this
    ·cases h
   ·rename_i auM;have auN:g=false:=by simpa using auM
    subst auN;exact next _ _ (.inl ⟨bb,rfl,rfl⟩) h
def MX (h:fQ A w B mem):fQ (ct A B) w (λ_=>none) emp :=
 ⟨λ_ _=>rfl,λ_ _ _ _ _ h=>(by cases h),λb _ ⟨_,_,h,_⟩=>(by cases h),λb ad=>ad.elim (λcn=>h.zH cn) (h.lt b),λ_ _ _ h=>(by cases h)⟩
def BK (b:Nat):ct (ct A B) (λ_=>none) b↔ct A B b :=
 ⟨λh=>h.elim (fun⟨_,_,h,_⟩=>by cases h) id,.inr⟩
def agf {m:M}{v:Value}(h:bB w (ct A B) B m v):bB w (ct (ct A B) λ_=>none) (λ_=>none) (rZ m) v:=by
 cases h with
 |H h=>exact .H (h.less λb ad=>(BK b).1 ad)
 |nil=>exact .nil
 |gH aq Z =>
  rename_i f fh vs
  cases fh with
  |nil=>exact .gH aq λi d v h=>by simp at h
  |cons c r=>exact .undef
 |agg aq Z =>
  rename_i cs vs;simp only[rZ]
  cases J:cs.mapM wU with
  |none=>exact .undef
  |some ds =>
   obtain⟨F,G⟩:=pA J;refine .H (.agg (aq.trans F.symm) λi d v O aN=>?_);have ah:i<D cs:=by have:=(dV.1 O).1;omega
   have ow:=bh ah;exact (afl (G i _ d ow O) (Z i _ v ow aN)).less λb ad=>(BK b).1 ad
 |_=>exact .undef
def shut_list {ms:List M}{vs:List Value}(h:dL w (ct A B) B ms vs):dL w (ct (ct A B) λ_=>none) (λ_=>none) (ms.map rZ) vs:=by
 refine⟨by simpa using h.1,λi m v hm aN=>?_⟩
 rw[bm,eL] at hm;obtain⟨m',BL,rfl⟩:=hm;exact agf (h.2 i m' v BL aN)
def DE.less {w aX:World}{a4 nk:Nat->Prop}{sz:Nat}{es:List (List Data)}{v:Value}(aq:∀b,nk b->a4 b)(h:DE w aX a4 sz es v):DE w aX nk sz es v:=by
 obtain⟨F,a,cap,G,ab,aV,bu⟩:=h;refine⟨F,a,cap,G,ab,aV,bu.imp id ?_⟩;rintro⟨b,vs,T,bX,b9,cS,eP,du⟩;exact⟨b,vs,T,bX,b9,cS,eP,λi d Z=>let ⟨u,hu,vy⟩:=du i d Z;⟨u,hu,vy.less λfS nr=>nr.imp (aq fS) id⟩⟩
def Ga {o:Oper}{c:Call}{f:FuncId}{a:Act}(bw:o.op=.call c)(nz:c.callee=.value (.func f))(ny:Real P f):(execOp a.eval o).run P w=.ok (.enter f (c.args.toList.map a.eval).toArray) w:=by
 obtain⟨dst,op,type,pos,after,guard⟩:=o;simp only at bw;subst bw;obtain⟨callee,BH,RS⟩:=c;simp only at nz;subst nz;simp only[execOp,resolve,Deferred.ofValue,Act.eval,invoke,Sem.run_bind,Sem.run_pure,Result.andThen_ok,RR ny];rw[DA BH];simp
def agh {a4:Nat->Prop}{b off c sz len:Nat}{vs:Array Value}{T:TypeId}{ds:List Data}(a1:w.heap[b]?=some (.cells vs T (0,0)))(fZ:¬ a4 b)(aq:(D ds)=len*sz)(MY:len<=c)(hm:len<=maxLen)(MG:off+len*sz<=vs.size)
  (Z:∀(i:Nat) (d:Data) (v:Value),ds[i]?=some d->vs[off+i]?=some v->Den w a4 d v):Den w a4 (.ax (chunk sz len ds)) (.slice (some ⟨b,off,none⟩) len c):=by
 have ew:=RK sz len ds
 have h:=Den.ax (w:=w) (a4:=a4) (es:=chunk sz len ds) (b:=b) (off:=off) (c:=c) (sz:=sz) (λi=>vs.getD (off+i) undef) (by rw[ew];exact MY) (by rw[ew];exact hm)
  (Array.getElem?_eq_some_iff.1 a1).1 fZ (RL sz len ds aq)
  (λi O=>by
   rw[ew] at O;rw[cell_of_row w b (off+i) vs T (0,0) a1];have:off+i<vs.size:=by omega
   simp[this])
  (λi d iw=>by
   rw[RM sz len ds aq] at iw;have ah:i<D ds:=(dV.1 iw).1;have nv:off+i<vs.size:=by omega
   have:vs.getD (off+i) undef=vs[off+i]:=by simp[nv]
   simp only[this];exact Z i d _ iw (Array.getElem?_eq_getElem nv))
 rw[ew] at h;exact h
def auO {mem:Mem}{k g sz off len:Nat}{cs:List M}{d:Data}(hm:mem k=some (g,cs))(h:Mv sz off len cs=some d):cV 1 mem (.ref k g sz off len)=some d:=by
 have a2:∀(m:M) (d:Data),wU m=some d->cV 0 mem m=some d:=λm d h=>by
  unfold wU at h
  split at h<;>simp_all [cV]
 have aq:∀(l:List M) (ds:List Data),l.mapM wU=some ds->l.mapM (cV 0 mem)=some ds:=by
  intro l
  induction l with
  |nil=>intro ds h;simpa using h
  |cons m l aG =>
   intro ds h;simp only[ns,hX,h9,eS,cF] at h ⊢;obtain⟨x,L,Gb,hP,rfl⟩:=h;exact⟨x,a2 m x L,Gb,aG Gb hP,rfl⟩
 unfold Mv at h
 split at h
 ·rename_i part aE;simp only[Xl,eL] at h;obtain⟨ds,hP,rfl⟩:=h;simp only[cV,hm,if_true,aE];rw[aq _ _ hP]
  rfl
 ·cases h
def MZ {k:Key}{g sz off len:Nat}{cs:List M}{d:Data}{v:Value}(cf:fQ A w B mem)(I:mem k=some (g,cs))(Z:cV 1 mem (.ref k g sz off len)=some d)(aN:bB w (ct A B) B (.ref k g sz off len) v):
  Den w (ct A (g6 B k ⟨ca mem k,none,0⟩)) d v:=by
 have fZ:∀b,ct A (g6 B k ⟨ca mem k,none,0⟩) b->ct A B b:=λb h=>h.imp (fun⟨j,e,ae,L⟩=>by
  by_cases ey:j=k
  ·subst ey;rw[h8] at ae;cases ae;cases L
  ·rw[hW B _ ey] at ae;exact⟨j,e,ae,L⟩) id
 simp only[cV,I,if_true] at Z
 split at Z
 ·rename_i part XY;simp only[eL] at Z;obtain⟨ds,hP,rfl⟩:=Z;obtain⟨ew,rfl,ia⟩:=IW XY;obtain⟨F,G⟩:=pA hP
  cases aN with
  |ref he hgle X =>
   obtain⟨e,g4,bW,aL,ad⟩:=cf.at_ I;rw[g4] at he;obtain rfl:=nu he;obtain⟨a,cap,rfl,ab,aV,bu⟩:=X;rcases bu with bu|⟨b,rfl,bX⟩
   ·have:len=0:=by omega
    subst this;simp only[chunk];exact .mV
   ·obtain⟨b9,cS⟩:=bX bW.symm;obtain⟨vs,T,a1,a2,hle,cm⟩:=ad b b9
    have auP:¬ ct A (g6 B k ⟨ca mem k,none,0⟩) b:=by
     rintro (⟨j,aC,ae,L⟩|aZ)
     ·by_cases ey:j=k
      ·subst ey;rw[h8] at ae;cases ae;cases L
      ·rw[hW B _ ey] at ae;exact ey (cf.inj j k aC _ b ae g4 L b9)
     ·exact cf.sep b aZ ⟨k,_,g4,b9⟩
    refine agh a1 auP (by omega) ab (by omega) (by omega) λi x u L hu=>?_;have ah:i<D ds:=(dV.1 L).1;have nv:off+i<D cs:=by omega
    have ow:((cs.drop off).take (len*sz))[i]?=some cs[off+i]:=by
     rw[tc (by omega),q6,bh nv]
    have r4:=G i _ x ow L
    have pB:bB w (ct A B) B cs[off+i] u:=cm.2 (off+i) _ u (bh nv) (by
     rw[tc nv,Array.getElem?_toList];exact hu)
    generalize cs[off+i]=m at *
    cases m<;>simp only[cV,cF,reduceCtorEq] at r4
    ·subst r4
     cases pB with
     |H h=>exact h.less fZ
    ·subst r4
     cases pB;exact .mV
 ·cases Z
def auQ {nk:Nat->Prop}{bD:fu}(fZ:∀b,nk b->ct A B b){m:M}{v:Value}(h:bB w (ct A B) B m v):bB w nk bD (rZ m) v:=by
 have ay:=agf h;have auR:∀b,nk b->ct (ct A B) (λ_=>none) b:=λb ad=>(BK b).2 (fZ b ad)
 have go:∀{m:M},(∃d,m=.H d)\/m=.nil\/(∃f,m=.gH f [])\/m=.undef->bB w (ct (ct A B) λ_=>none) (λ_=>none) m v->bB w nk bD m v:=by
  intro m hm h;rcases hm with ⟨d,rfl⟩|rfl|⟨f,rfl⟩|rfl
  ·cases h with
   |H h=>exact .H (h.less auR)
  ·cases h;exact .nil
  ·cases h with
   |gH aq Z=>exact .gH aq λi d v h=>by simp at h
  ·exact .undef
 refine go ?_ ay
 cases m<;>simp only[rZ]
 case H d=>simp
 case nil=>simp
 case gH f fh=>cases fh<;>simp
 case agg cs=>split<;>simp
 all_goals simp
def auS {k:Key}{g:Nat}{cs:List M}(h:fQ A w B mem)(I:mem k=some (g,cs))(Z:uc cs=true):
  fQ (λb=>A b\/∃j e,j≠k/\B j=some e/\e.dU=some b) w (λj=>if j=k then B k else none) (a5 emp k g cs):=by
 have fZ:∀b,ct (λb=>A b\/∃j e,j≠k/\B j=some e/\e.dU=some b) (λj=>if j=k then B k else none) b->ct A B b:=λb ad=>by
  rcases ad with ⟨j,e,ae,L⟩|aZ|⟨j,e,_,ae,L⟩
  ·by_cases ey:j=k
   ·subst ey;simp only[if_true] at ae;exact .inl ⟨_,e,ae,L⟩
   ·simp only[ey,if_false] at ae;cases ae
  ·exact .inr aZ
  ·exact .inl ⟨j,e,ae,L⟩
 refine⟨λj ae=>?_,λj mW e e' b F G _ _=>?_,λb aZ bw=>?_,λb ad=>?_,λj dp jY ae=>?_⟩
 ·by_cases ey:j=k
  ·subst ey;simp[a5] at ae
  ·simp only[ey,if_false]
 ·by_cases ae:j=k<;>by_cases q5:mW=k
  ·rw[ae,q5]
  ·simp only[q5,if_false] at G;cases G
  ·simp only[ae,if_false] at F;cases F
  ·simp only[ae,if_false] at F;cases F
 ·obtain⟨j,e,ae,L⟩:=bw
  by_cases ey:j=k
  ·subst ey;simp only[if_true] at ae;rcases aZ with aZ|⟨mW,e',b8,q5,r4⟩
   ·exact h.sep b aZ ⟨_,e,ae,L⟩
   ·exact b8 (h.inj _ _ e' e b q5 ae r4 L)
  ·simp only[ey,if_false] at ae;cases ae
 ·rcases ad with ad|⟨j,e,_,ae,L⟩
  ·exact h.lt b ad
  ·exact h.zH ⟨j,e,ae,L⟩
 ·by_cases ey:j=k
  ·subst ey;simp only[a5,if_true,cF,fq] at ae;obtain⟨rfl,rfl⟩:=ae;obtain⟨e,he,bb,aL,ad⟩:=h.dU _ _ _ I;refine⟨e,by simp only[if_true];exact he,bb,aL,λb jQ=>?_⟩
   obtain⟨vs,T,a1,a2,hle,X⟩:=ad b jQ;refine⟨vs,T,a1,a2,hle,λi m O=>?_⟩;obtain⟨v,aN,w2⟩:=X i m O;refine⟨v,aN,?_⟩;unfold uc at Z;rw[nt] at Z;have hm:=Z m (dy O);rw[afx] at hm;obtain⟨d,hm⟩:=hm;unfold wU at hm
   split at hm<;>cases hm
   ·cases w2 with
    |H w2=>exact .H (w2.less fZ)
   ·cases w2
    exact .nil
  ·simp only[a5,ey,if_false,emp] at ae;cases ae
def auT {aX:World}{k:Key}{wR:Nat->Prop}(h:fQ A w B mem)(auU:∀b,wR b->∃e,B k=some e/\e.dU=some b)(f:Fr wR w aX):e6 A w B aX (g6 B k ⟨ca mem k,none,0⟩) (a5 mem k (ca mem k) []) :=
 e6.change (e':=⟨ca mem k,none,0⟩) h ⟨f.os,f.tape,f.output,f.size,λb ad bw=>f.block b ad λL=>bw (auU b L)⟩ (λe he => .inr (FK h k e he)) (λb ad=>by simp at ad) (λ_=>rfl) (λb ad=>by simp at ad)
def auV (di:r6 P T){a:Act}{st:bc}{o:Oper}{i:cN}{m:M}{e:Option (Key×Nat×List M)}(h:iQ n A eB ic a st w B)(O:XO P n kb own ops o i)
  (R:iv T st.mem st.tm i.op=some (m,e)):o.wp P a w (λlN aX=>∃bD,iQ n A eB ic lN ⟨put st.tm i.dst m,jC st.mem e⟩ aX bD) aR:=by
 have nW:=O.op
 have plain:cB st.mem st.tm i.op=some (m,e)->o.wp P a w (λlN aX=>∃bD,iQ n A eB ic lN ⟨put st.tm i.dst m,jC st.mem e⟩ aX bD) aR:=by
  intro R
  have a8:k0 P kb own o.dst o.type o.op=some i.op:=getD_some nW (by
   intro ad;rw[ad] at R
   cases R)
  obtain⟨I6,v,aX,bD,nZ,hC,da,aN⟩:=afD h.ok.eH h.vz a8 R;unfold Oper.wp;rw[nZ,O.dst];have MS:=h.put da aN O.lt;rcases hC with rfl|⟨rfl,rfl⟩
  ·exact⟨bD,MS⟩
  ·exact⟨bD,MS⟩
 cases vD:i.op with
 |call f args =>
  have a8:k0 P kb own o.dst o.type o.op=some i.op:=getD_some nW (by rw[vD];simp);rw[vD] at a8 R;obtain⟨c,J,nz,oY⟩:=afI a8;have cm:=shut_list (zW h.vz oY);rw[pJ] at cm;simp only[iv] at R
  split at R
  ·rename_i r jG
   cases R;obtain⟨ny,kS⟩:=di f _ _ _ jG;have lQ:=kS (ct A B) w (λ_=>none) _ (MX h.ok.eH) cm;unfold Oper.wp;rw[Ga J nz ny,O.dst];refine Calls.mono lQ λe aX he=>?_;obtain⟨v,rfl,bg,Z⟩:=he;exact⟨B,h.put (.still h.ok.eH bg) (.H (Z.less λb ad=>(BK b).2 ad)) O.lt⟩
  ·rename_i sz es jG
   cases R;obtain⟨ny,kS⟩:=di f _ _ _ jG;have lQ:=kS (ct A B) w (λ_=>none) _ (MX h.ok.eH) cm;unfold Oper.wp;rw[Ga J nz ny,O.dst];refine Calls.mono lQ λe aX he=>?_;obtain⟨v,rfl,bg,Z⟩:=he;exact⟨B,h.put (.still h.ok.eH bg) (.H ((Z.less λb ad=>(BK b).2 ad).den λb ad=>ad.elim (λcn=>h.ok.eH.zH cn) (h.ok.eH.lt b))) O.lt⟩
  ·cases R
 |nT k sz f args =>
  have a8:k0 P kb own o.dst o.type o.op=some i.op:=getD_some nW (by rw[vD];simp);rw[vD] at a8 R;obtain⟨c,J,nz,oY⟩:=afJ a8;have cm:=shut_list (zW h.vz oY);rw[pJ] at cm;simp only[iv] at R
  split at R
  ·rename_i eX es jG
   split at R
   ·rename_i fw;subst fw
    cases R;obtain⟨ny,kS⟩:=di f _ _ _ jG;have lQ:=kS (ct A B) w (λ_=>none) _ (MX h.ok.eH) cm;unfold Oper.wp;rw[Ga J nz ny,O.dst];refine Calls.mono lQ λe aX he=>?_;obtain⟨v,rfl,bg,Z⟩:=he;obtain⟨bD,da,aN⟩:=afH k h.ok.eH bg (Z.less λb ad=>(BK b).2 ad);exact⟨bD,h.put da aN O.lt⟩
   ·cases R
  ·cases R
 |np b6 f args =>
  have a8:k0 P kb own o.dst o.type o.op=some i.op:=getD_some nW (by rw[vD];simp);rw[vD] at a8 R;obtain⟨c,J,nz,oY⟩:=at5 a8;have cm:=zW h.vz oY;simp only[iv] at R;obtain⟨r,k,g,aNg,cc,cs,jG,hm,rfl,rfl,aH⟩:=afS R;obtain⟨ny,kS⟩:=di f _ _ _ jG;have lQ:=kS A w B _ h.ok.eH cm;unfold Oper.wp;rw[Ga J nz ny,O.dst];refine Calls.mono lQ λe aX he=>?_;obtain⟨v,bD,rfl,da,aN⟩:=he;refine⟨bD,?_⟩;have nY:sY st.mem k=cs:=by simp only[sY,hm]
  rw[nY] at da;exact h.put da aN O.lt
 |vj j f args =>
  have a8:k0 P kb own o.dst o.type o.op=some i.op:=getD_some nW (by rw[vD];simp);rw[vD] at a8 R;obtain⟨c,J,nz,oY⟩:=at6 a8;have DH:=zW h.vz oY;simp only[iv] at R;obtain⟨k,g,sz,off,len,cs,d,r,L,hm,Z,X,rfl,rfl⟩:=afQ R;have ok:=e6.zP h.ok.eH k
  have ah:j<(c.args.toList.map a.eval).length:=by
   rw[DH.1];exact (dV.1 L).1
  have MH:=bh ah;have vy:=MZ h.ok.eH hm (auO hm Z) (DH.2 j _ _ L MH);have R1:=shut_list (DH.sV ok.nU);rw[pJ] at R1
  have R2:dL w (ct (ct A (g6 B k ⟨ca st.mem k,none,0⟩)) λ_=>none) (λ_=>none) ((args.map (rZ ∘ bd st.tm)).set j (.H d)) (c.args.toList.map a.eval):=by
   refine⟨by rw[R1.1,ie],λi m v F G=>?_⟩
   by_cases jR:j=i
   ·subst jR;rw[MH] at G
    cases G;have mb:j<(args.map (rZ ∘ bd st.tm)).length:=by rw[<-R1.1];exact ah
    rw[XZ mb] at F
    cases F;exact .H (vy.less λb ad=>(BK b).1 ad)
   ·rw[X0 jR] at F;exact R1.2 i m v F G
  unfold RA at X
  split at X
  ·rename_i zQ jG
   cases X;obtain⟨ny,kS⟩:=di f _ _ _ jG;have lQ:=kS (ct A (g6 B k ⟨ca st.mem k,none,0⟩)) w (λ_=>none) _ (MX ok.eH) R2;unfold Oper.wp;rw[Ga J nz ny,O.dst];refine Calls.mono lQ λe aX he=>?_;obtain⟨v,rfl,bg,ou⟩:=he;exact⟨_,h.put (ok.trans (.still ok.eH bg)) (.H (ou.less λb ad=>(BK b).2 ad)) O.lt⟩
  ·rename_i eX es jG
   cases X;obtain⟨ny,kS⟩:=di f _ _ _ jG;have lQ:=kS (ct A (g6 B k ⟨ca st.mem k,none,0⟩)) w (λ_=>none) _ (MX ok.eH) R2;unfold Oper.wp;rw[Ga J nz ny,O.dst];refine Calls.mono lQ λe aX he=>?_;obtain⟨v,rfl,bg,ou⟩:=he;exact⟨_,h.put (ok.trans (.still ok.eH bg)) (.H ((ou.less λb ad=>(BK b).2 ad).den λb ad=>ad.elim (λcn=>ok.eH.zH cn) (ok.eH.lt b))) O.lt⟩
  ·cases X
 |vk j f args =>
  have a8:k0 P kb own o.dst o.type o.op=some i.op:=getD_some nW (by rw[vD];simp);rw[vD] at a8 R;obtain⟨c,J,nz,oY⟩:=at7 a8;have DH:=zW h.vz oY;simp only[iv] at R;obtain⟨k,g,sz,off,len,dp,cs,r,L,hm,Z,jG,rfl,rfl⟩:=afR R;have cf:=auS h.ok.eH hm Z
  have auW:∀b,ct (λb=>A b\/∃j e,j≠k/\B j=some e/\e.dU=some b) (λj=>if j=k then B k else none) b->ct A B b:=λb ad=>by
   rcases ad with ⟨w6,e,ae,DI⟩|aZ|⟨w6,e,_,ae,DI⟩
   ·by_cases ey:w6=k
    ·simp only[Y ey] at ae;exact .inl ⟨k,e,ae,DI⟩
    ·simp only[aa ey] at ae;cases ae
   ·exact .inr aZ
   ·exact .inl ⟨w6,e,ae,DI⟩
  have ah:j<(c.args.toList.map a.eval).length:=by
   rw[DH.1];exact (dV.1 L).1
  have MH:=bh ah
  have R2:dL w (ct (λb=>A b\/∃j e,j≠k/\B j=some e/\e.dU=some b) (λj=>if j=k then B k else none)) (λj=>if j=k then B k else none) ((args.map λx=>rZ (bd st.tm x)).set j (.ref k g sz off len)) (c.args.toList.map a.eval):=by
   refine⟨by rw[DH.1,ie,al,al],λi m v F G=>?_⟩
   by_cases jR:j=i
   ·subst jR
    have mb:j<(args.map λx=>rZ (bd st.tm x)).length:=by
     have:=(dV.1 L).1
     simpa using this
    rw[XZ mb] at F
    cases F;have aN:=DH.2 j _ v L G
    cases aN with
    |ref he bb X=>exact .ref (by simp only[if_true];exact he) bb X
   ·rw[X0 jR,bm,eL] at F;obtain⟨y,aj,rfl⟩:=F;exact auQ auW (DH.2 i (bd st.tm y) v (by rw[bm,aj];rfl) G)
  obtain⟨ny,kS⟩:=di f _ _ _ jG;have lQ:=kS _ w _ _ cf R2;unfold Oper.wp;rw[Ga J nz ny,O.dst];refine Calls.mono lQ λe aX he=>?_;obtain⟨v,Dn,rfl,da,aN⟩:=he;refine⟨_,h.put (auT h.ok.eH (λb ad=>?_) da.aF) ?_ O.lt⟩
  ·obtain⟨w6,e,ae,DI⟩:=ad
   by_cases ey:w6=k
   ·simp only[Y ey] at ae;exact⟨e,ae,DI⟩
   ·simp only[aa ey] at ae;cases ae
  ·cases aN with
   |H aN =>
    refine .H (aN.less λb ad=>?_);rcases ad with ⟨w6,e,ae,DI⟩|aZ
    ·by_cases ey:w6=k
     ·rw[ey,h8] at ae;cases ae;cases DI
     ·rw[hW B _ ey] at ae;exact .inr (.inr ⟨w6,e,ey,ae,DI⟩)
    ·exact .inr (.inl aZ)
 |nn f args=>rw[vD] at R;cases R
 |rX neg x=>rw[vD] at R;cases R
 |_=>exact plain (by rw[vD] at R ⊢;exact R)
def agi {α β:Type}{f:α->Option β}{xs:List α}{ys:List β}(h:xs.mapM f=some ys){i:Nat}{x:α}(L:xs[i]?=some x):∃y,ys[i]?=some y/\f x=some y:=by
 obtain⟨F,G⟩:=pA h;have ah:i<D ys:=by rw[F];exact (dV.1 L).1
 exact⟨_,bh ah,G i x _ L (bh ah)⟩
def X1 (di:r6 P T){k4:Nat->Nat->Bool}(a8:ops.toList.mapM (Dv P n kb own ops)=some l)(fM:∀st a w B,K st->iQ n A eB ic a st w B->aR .normal a w):
  ∀(fuel:Nat) (fm:Array Bool) (rec:Rec) (st:bc) (a:Act) (w:World) (B:fu),iQ n A eB ic a st w B->I7 T k4 ops l K fuel fm rec st->wpAny P .any ops aR fuel fm a w
 |0,_,_,_,_,_,_,R,h=>⟨h.1,fM _ _ _ _ h.2 R⟩
 |fuel+1,fm,rec,st,a,w,B,R,h=>by
  refine⟨λay=>fM _ _ _ _ (h.1 ay) R,λi O=>?_⟩;obtain⟨x,BI,eC,L,hex,I⟩:=h.2 i O;obtain⟨_,o,bw,_⟩:=mem_ready.1 O;obtain⟨y,aj,X2⟩:=agi a8 (i:=i) (x:=o) (by simpa using bw);rw[L] at aj
  cases aj;have z1:=afK X2;unfold wpOp;simp only[bw];rcases hex with ⟨bb,rfl,rfl⟩|⟨bb,m,e,auX,_,rfl,rfl⟩
  ·rw[XN R z1.guard bb,aa (by simp)];exact X1 di a8 fM fuel _ _ _ _ _ B (by rw[z1.dst];exact R.put (.refl R.ok.eH) .no z1.lt) I
  ·rw[XN R z1.guard bb,Y rfl];refine .inl (Oper.wp_mono (λlN aX ⟨bD,kQ⟩=>X1 di a8 fM fuel _ _ _ _ _ bD kQ I) (auV di R z1 auX))
def iQ.drew {a:Act}{st:bc}(h:iQ n A eB ic a st w B)(d:Nat):iQ n A eB ic a st { w with drawn:=d } B:=by
 have R:e6 A w B { w with drawn:=d } B st.mem:=.still h.ok.eH ((Fr.refl _ _).drew d);exact⟨h.ok.trans R,λs=>(h.tm s).sV R.nU,h.sz,h.MQ⟩
def auY (di:r6 P T)(hm:P.follows .mixedOrders=true){id:Nat}{a:Act}{st:bc}(a8:ops.toList.mapM (Dv P n kb own ops)=some l)(Z:IP ops l=true)(R:iQ n A eB ic a st w B)
  (h:yl T K 0 l (Bt [] l (r0 ops.toList [])) (λ_=>none) st) (fM:∀st a w B,K st->iQ n A eB ic a st w B->aR .normal a w):(Code.region id ops true).wp P aR a w:=by
 refine wp_region_any hm ?_
 have aq:(D l)=ops.size:=by
  rw[(pA a8).1,Array.length_toList]
 have M0:=age (auJ Z) aq (by unfold IP at Z;rw[fC] at Z;exact Z.1) l 0 (λ_=>none) st (Array.replicate ops.size false) rfl (by simp) (by simp) (λi O=>by simp[O]) (λ_ _=>rfl) h;rw[aq] at M0;exact X1 di a8 fM ops.size _ _ _ _ _ B (R.drew _) M0
def X3 (di:r6 P T)(a8:ops.toList.mapM (Dv P n kb own ops)=some l)(fM:∀st a w B,K st->iQ n A eB ic a st w B->aR .normal a w):
  ∀(r:List cN) (m:Nat) (st:bc) (a:Act) (w:World) (B:fu),l.drop m=r->iQ n A eB ic a st w B->zL T K r st->wpOps P ops aR (List.range' m (D r)) a w
 | [],_,_,_,_,_,_,R,h=>fM _ _ _ _ h R
 |x::r,m,st,a,w,B,X,R,h=>by
  have L:l[m]?=some x:=by
   have:(l.drop m)[0]?=some x:=by rw[X];rfl
   simpa using this
  have vr:l.drop (m+1)=r:=by rw[<-I8,X];rfl
  have ah:m<ops.size:=by
   have F:=(pA a8).1;have G:=(dV.1 L).1;simp at F;omega
  have bw:ops[m]?=some ops[m]:=Array.getElem?_eq_getElem ah;obtain⟨y,aj,X2⟩:=agi a8 (i:=m) (x:=ops[m]) (by simp);rw[L] at aj
  cases aj;have z1:=afK X2;simp only[lJ,List.range'_succ];rw[wpOps_cons];unfold wpOp;simp only[bw];simp only[zL] at h
  split at h
  ·cases h
  ·rename_i g bb;rw[XN R z1.guard bb]
   cases g with
   |true =>
    simp only[if_true] at h ⊢;exact .inl (Oper.wp_mono (λlN aX ⟨eC,bD,I,kQ⟩=>X3 di a8 fM r (m+1) eC lN aX bD vr kQ I) (aud di R z1 h))
   |false =>
    simp only[k1,if_false] at h ⊢;exact X3 di a8 fM r (m+1) _ _ _ B vr (R.put (.refl R.ok.eH) .no z1.lt) (by rw[<-z1.dst];exact h)
end Go.Mini
namespace Go.Mini
open Go
variable {A:Nat->Prop} {w:World} {B:fu} {mem:Mem}
def agj (cf:fQ A w B mem){a4:Nat->Prop}(fZ:∀b,a4 b->A b){k:Key}{e:nm}{b:Nat}(he:B k=some e)(ad:e.dU=some b):¬ a4 b :=
 λh=>cf.sep b (fZ b h) ⟨k,e,he,ad⟩
def snap (cf:fQ A w B mem){a4:Nat->Prop}(fZ:∀b,a4 b->A b):∀(d:Nat) (m:M) (v:Value) (r:Data),cV d mem m=some r->bB w (ct A B) B m v->Den w a4 r v:=by
 have agk:∀(d:Data) (v:Value),bB w (ct A B) B (.H d) v->Den w a4 d v:=λd v h=>by
  cases h with
  |H h=>exact h.less λb ad => .inr (fZ b ad)
 have R3:∀v,bB w (ct A B) B .nil v->Den w a4 (.ax []) v:=λv h=>by
  cases h;exact .mV
 intro d
 induction d with
 |zero =>
  intro m v r h aN
  cases m<;>simp only[cV,cF,reduceCtorEq] at h
  ·subst h;exact agk _ _ aN
  ·subst h;exact R3 _ aN
 |succ d aG =>
  intro m v r h aN
  have lists:∀(cs:List M) (vs:List Value) (ds:List Data),cs.mapM (cV d mem)=some ds->(D vs)=(D cs)->(∀(i:Nat) (x:M) (u:Value),cs[i]?=some x->vs[i]?=some u->bB w (ct A B) B x u) ->
    (D vs)=D ds/\∀(i:Nat) (x:Data) (u:Value),ds[i]?=some x->vs[i]?=some u->Den w a4 x u:=by
   intro cs vs ds hP aq X;obtain⟨F,G⟩:=pA hP;refine⟨by omega,λi x u L hu=>?_⟩
   have ah:i<D cs:=by have:=(dV.1 L).1;omega
   have ow:=bh ah;exact aG _ u x (G i _ x ow L) (X i _ u ow hu)
  cases m<;>simp only[cV,cF,eL,reduceCtorEq] at h
  case H=>subst h;exact agk _ _ aN
  case nil=>subst h;exact R3 _ aN
  case ref k g sz off len =>
   split at h
   ·rename_i dp cs I
    split at h
    ·rename_i bb;subst bb
     split at h
     ·rename_i part XY;simp only[eL] at h;obtain⟨ds,hP,rfl⟩:=h;obtain⟨ew,rfl,ia⟩:=IW XY;obtain⟨F,G⟩:=pA hP
      cases aN with
      |ref he hgle X =>
       obtain⟨e,g4,bW,aL,ad⟩:=cf.at_ I;rw[g4] at he
       cases he;obtain⟨a,cap,rfl,ab,aV,bu⟩:=X;rcases bu with bu|⟨b,rfl,bX⟩
       ·have:len=0:=by omega
        subst this;simp only[chunk];exact .mV
       ·obtain⟨b9,cS⟩:=bX bW.symm;obtain⟨vs,T,a1,a2,hle,cm⟩:=ad b b9;refine agh a1 (agj cf fZ g4 b9) (by omega) ab (by omega) (by omega) λi x u L hu=>?_;have ah:i<D ds:=(dV.1 L).1;have nv:off+i<D cs:=by omega
        have ow:((cs.drop off).take (len*sz))[i]?=some cs[off+i]:=by
         rw[tc (by omega),q6,bh nv]
        refine aG _ u x (G i _ x ow L) (cm.2 (off+i) _ u (bh nv) ?_);rw[tc nv,Array.getElem?_toList];exact hu
     ·cases h
    ·cases h
   ·cases h
  case ptr k g off =>
   split at h
   ·rename_i dp cs I
    split at h
    ·rename_i bb;obtain⟨rfl,XC⟩:=bb;simp only[eL] at h;obtain⟨ds,hP,rfl⟩:=h;obtain⟨F,G⟩:=pA hP
     cases aN with
     |ptr he hgle X =>
      obtain⟨e,g4,bW,aL,ad⟩:=cf.at_ I;rw[g4] at he
      cases he;obtain⟨b,rfl,bX⟩:=X;have b9:=bX bW.symm;obtain⟨vs,T,a1,a2,hle,cm⟩:=ad b b9;rw[List.length_drop] at F;refine .ptr (λi=>vs.getD (off+i) undef) (Array.getElem?_eq_some_iff.1 a1).1 (agj cf fZ g4 b9) (λi O=>?_) λi x L=>?_
      ·rw[cell_of_row w b (off+i) vs T (0,0) a1];have:off+i<vs.size:=by omega
       simp[this]
      ·have ah:i<D ds:=(dV.1 L).1;have nv:off+i<D cs:=by omega
       have M5:off+i<vs.size:=by omega
       have ow:(cs.drop off)[i]?=some cs[off+i]:=by
        rw[q6,bh nv]
       have hu:vs.getD (off+i) undef=vs[off+i]:=by simp[M5]
       rw[hu];refine aG _ _ x (G i _ x ow L) (cm.2 (off+i) _ _ (bh nv) ?_);rw[tc nv,Array.getElem?_toList];exact Array.getElem?_eq_getElem M5
    ·cases h
   ·cases h
  case gH f cs =>
   obtain⟨ds,hP,rfl⟩:=h
   cases aN with
   |gH aq Z=>obtain⟨F,G⟩:=lists _ _ _ hP aq Z;exact .fn F G
  case agg cs =>
   obtain⟨ds,hP,rfl⟩:=h
   cases aN with
   |agg aq Z=>obtain⟨F,G⟩:=lists _ _ _ hP aq Z;exact .agg F G
  case dj cs =>
   obtain⟨ds,hP,rfl⟩:=h
   cases aN with
   |dj aq Z=>obtain⟨F,G⟩:=lists _ _ _ hP aq Z;exact .dj F G
def bB.shift {a4 nk:Nat->Prop}{bD:fu}(fZ:∀b,nk b->a4 b)(I:∀k e,B k=some e->∃e',bD k=some e'/\(e'=e\/e.g<e'.g)){m:M}{v:Value}(h:bB w a4 B m v):bB w nk bD m v:=by
 induction h with
 |H h=>exact .H (h.less fZ)
 |nil=>exact .nil
 | @ref k g sz off len e v he bb aN =>
  obtain⟨e',g4,a1⟩:=I k e he;rcases a1 with rfl|a1
  ·exact .ref g4 bb aN
  ·exact .ref g4 (by omega) (aN.L9 (by omega))
 | @ptr k g off e v he bb aN =>
  obtain⟨e',g4,a1⟩:=I k e he;rcases a1 with rfl|a1
  ·exact .ptr g4 bb aN
  ·exact .ptr g4 (by omega) (aN.L9 (by omega))
 |gH aq Z aG=>exact .gH aq aG
 |agg aq Z aG=>exact .agg aq aG
 |dj aq Z aG=>exact .dj aq aG
 |no=>exact .no
 |undef=>exact .undef
def kill_shut (cf:fQ A w B mem){k:Key}{g:Nat}{cs:List M}{e:nm}{b:Nat}(I:mem k=some (g,cs))(he:B k=some e)(ad:e.dU=some b):
  fQ (λfS=>A fS\/fS=b) w (g6 B k ⟨ca mem k,none,0⟩) (kill mem k)/\(∀m v,bB w (ct A B) B m v->bB w (ct (λfS=>A fS\/fS=b) (g6 B k ⟨ca mem k,none,0⟩)) (g6 B k ⟨ca mem k,none,0⟩) m v):=by
 have bb:=FK cf k e he
 have fZ:∀fS,ct (λfS=>A fS\/fS=b) (g6 B k ⟨ca mem k,none,0⟩) fS->ct A B fS:=λfS h=>by
  rcases h with ⟨j,aC,ae,L⟩|h|rfl
  ·by_cases ey:j=k
   ·subst ey;rw[h8] at ae;cases ae;cases L
   ·rw[hW B _ ey] at ae;exact .inl ⟨j,aC,ae,L⟩
  ·exact .inr h
  ·exact .inl ⟨k,e,he,ad⟩
 have auZ:∀j aC,B j=some aC->∃e',g6 B k ⟨ca mem k,none,0⟩ j=some e'/\(e'=aC\/aC.g<e'.g):=λj aC ae=>by
  by_cases ey:j=k
  ·subst ey;rw[he] at ae
   cases ae;exact⟨_,h8 _ _ _,.inr bb⟩
  ·exact⟨aC,by rw[hW B _ ey];exact ae,.inl rfl⟩
 have shift:∀m v,bB w (ct A B) B m v->bB w (ct (λfS=>A fS\/fS=b) (g6 B k ⟨ca mem k,none,0⟩)) (g6 B k ⟨ca mem k,none,0⟩) m v:=λm v h=>h.shift fZ auZ;refine⟨⟨λj ae=>?_,λj mW au aC fS F G ab aV=>?_,λfS aZ bw=>?_,λfS aZ=>?_,λj dp jY ae=>?_⟩,shift⟩
 ·by_cases ey:j=k
  ·subst ey;simp[kill,a5] at ae
  ·rw[hW B _ ey];simp only[kill,a5,ey,if_false] at ae;exact cf.Dp j ae
 ·by_cases ey:j=k
  ·subst ey;rw[h8] at F;cases F;cases ab
  ·by_cases hjk':mW=k
   ·subst hjk';rw[h8] at G;cases G;cases aV
   ·rw[hW B _ ey] at F;rw[hW B _ hjk'] at G;exact cf.inj j mW au aC fS F G ab aV
 ·obtain⟨j,aC,ae,L⟩:=bw
  by_cases ey:j=k
  ·subst ey;rw[h8] at ae;cases ae;cases L
  ·rw[hW B _ ey] at ae;rcases aZ with aZ|rfl
   ·exact cf.sep fS aZ ⟨j,aC,ae,L⟩
   ·exact ey (cf.inj j k aC e fS ae he L ad)
 ·rcases aZ with aZ|rfl
  ·exact cf.lt fS aZ
  ·exact cf.zH ⟨k,e,he,ad⟩
 ·by_cases ey:j=k
  ·subst ey;simp only[kill,a5,if_true,cF,fq] at ae;obtain⟨rfl,rfl⟩:=ae;exact⟨_,h8 _ _ _,rfl,λ_=>rfl,λfS nr=>by cases nr⟩
  ·simp only[kill,a5,ey,if_false] at ae;obtain⟨aC,F,G,ab,aV⟩:=cf.dU j dp jY ae;refine⟨aC,by rw[hW B _ ey];exact F,G,ab,λfS nr=>?_⟩
   obtain⟨vs,T,bu,bX,b9,cS⟩:=aV fS nr;exact⟨vs,T,bu,bX,b9,λi m hm=>let ⟨v,aN,X⟩:=cS i m hm;⟨v,aN,shift m v X⟩⟩
end Go.Mini
namespace Go.Mini
open Go
variable {P:Program} {T:ba} {A:Nat->Prop} {eB w:World} {ic B:fu} {mem:Mem} {n kb:Nat} {own:List Nat} {aR:Exit->Act->World->Prop}
def agl {k:Key}{a4 nk:Nat->Prop}{bD:fu}{v:Value}{sz:Nat}{e:nm}(he:B k=some e)(aN:bB w a4 bD .nil v):bB w nk B (.ref k e.g sz 0 0) v:=by
 cases aN;exact .ref he (cl _) ⟨_,0,rfl,cl _,fL _,.inl rfl⟩
def Gc {k:Key}{g i:Nat}{cs:List M}{m m':M}{w1:World}(cf:fQ A w B mem)(I:mem k=some (g,cs))(O:cs[i]?=some m)
  (aN:∀e b v,B k=some e->e.dU=some b->w.cell? ⟨b,i,none⟩=some v->bB w (ct A B) B m' v):∃bD,e6 A w B w bD (a5 mem k g (cs.set i m')):=by
 obtain⟨e,he,bW,aL,ad⟩:=cf.at_ I
 have ok:=e6.change (k:=k) (e':=e) (cs:=cs.set i m') cf (Fr.refl _ w) (λaC fP => .inl (by rw[he] at fP;cases fP;rfl)) (λb fi => .inr ⟨e,he,fi⟩) (λh=>by
  have:=aL h;subst this
  rfl) (λb fi=>by
  obtain⟨vs,T,a1,a2,hle,cm⟩:=ad b fi;refine⟨vs,T,a1,a2,by simpa using hle,λj x L=>?_⟩
  by_cases nA:i=j
  ·subst nA;have ah:i<D cs:=(dV.1 O).1;rw[XZ ah] at L
   cases L;have uk:i<vs.size:=by omega
   exact⟨vs[i],Array.getElem?_eq_getElem uk,aN e b _ he fi (by rw[cell_of_row w b i vs T (0,0) a1];exact Array.getElem?_eq_getElem uk)⟩
  ·rw[X0 nA] at L;obtain⟨v,M6,X⟩:=cm.get L;refine⟨v,?_,X⟩;have ah:j<D cs:=(dV.1 L).1;rw[tc ah,Array.getElem?_toList] at M6;exact M6)
 rw[bW] at ok;exact⟨_,ok⟩
def e6.move {k k':Key}{g:Nat}{cs:List M}{e:nm}(h:fQ A w B mem)(I:mem k=some (g,cs))(he:B k=some e)(b8:k'≠k):
  e6 A w B w (g6 (g6 B k ⟨ca mem k,none,0⟩) k' ⟨ca mem k',e.dU,e.size⟩) (a5 (a5 mem k (ca mem k) []) k' (ca mem k') cs):=by
 have q9:∀b,tZ (g6 (g6 B k ⟨ca mem k,none,0⟩) k' ⟨ca mem k',e.dU,e.size⟩) b->tZ B b:=by
  rintro b ⟨j,aC,ae,ad⟩
  by_cases F:j=k'
  ·subst F;rw[h8] at ae
   cases ae;exact⟨k,e,he,ad⟩
  ·rw[hW _ _ F] at ae
   by_cases G:j=k
   ·subst G;rw[h8] at ae
    cases ae
    cases ad
   ·rw[hW _ _ G] at ae;exact⟨j,aC,ae,ad⟩
 have nU:Trans A w B w (g6 (g6 B k ⟨ca mem k,none,0⟩) k' ⟨ca mem k',e.dU,e.size⟩):=by
  refine⟨cl _,λb _ ad=>⟨rfl,λbw=>ad (.inl (q9 b bw))⟩,λj aC ae=>?_⟩
  by_cases F:j=k'
  ·subst F;exact⟨_,h8 _ _ _,.inr (FK h j aC ae)⟩
  ·rw[hW _ _ F]
   by_cases G:j=k
   ·subst G;exact⟨_,h8 _ _ _,.inr (FK h j aC ae)⟩
   ·rw[hW _ _ G];exact⟨aC,ae,.inl rfl⟩
 refine⟨⟨λj ae=>?_,λj mW au aC b F G mi fi=>?_,λb aZ bw=>h.sep b aZ (q9 b bw),h.lt,λj dc uq ae=>?_⟩,nU,Fr.refl _ _,λb ad => .inl (q9 b ad)⟩
 ·simp only[a5] at ae
  by_cases F:j=k'
  ·simp[F] at ae
  ·by_cases G:j=k
   ·rw[aa F,Y G] at ae
    cases ae
   ·simp only[F,G,if_false] at ae;rw[hW _ _ F,hW _ _ G];exact h.Dp j ae
 ·have main:∀(j:Key) (au:nm),g6 (g6 B k ⟨ca mem k,none,0⟩) k' ⟨ca mem k',e.dU,e.size⟩ j=some au->au.dU=some b->(j=k'/\e.dU=some b)\/(j≠k'/\j≠k/\B j=some au):=by
   intro j au ae ad
   by_cases F:j=k'
   ·subst F;rw[h8] at ae
    cases ae;exact .inl ⟨rfl,ad⟩
   ·rw[hW _ _ F] at ae
    by_cases G:j=k
    ·subst G;rw[h8] at ae
     cases ae
     cases ad
    ·rw[hW _ _ G] at ae;exact .inr ⟨F,G,ae⟩
  rcases main j au F mi with ⟨e2,hk⟩|⟨e2,s1,hk⟩<;>rcases main mW aC G fi with ⟨fa,hQ⟩|⟨fa,s2,hQ⟩
  ·rw[e2,fa]
  ·exact absurd (h.inj k mW e aC b he hQ hk fi).symm s2
  ·exact absurd (h.inj k j e au b he hk hQ mi).symm s1
  ·exact h.inj j mW au aC b hk hQ mi fi
 ·simp only[a5] at ae
  by_cases F:j=k'
  ·subst F;simp only[if_true,cF,fq] at ae;obtain⟨rfl,rfl⟩:=ae;obtain⟨bx,M7,bb,aL,ad⟩:=h.dU k g cs I;rw[he] at M7
   cases M7;refine⟨_,h8 _ _ _,rfl,aL,λb jQ=>?_⟩;obtain⟨vs,T,ab,aV,bu,bX⟩:=ad b jQ;exact⟨vs,T,ab,aV,bu,λi m O=>let ⟨v,aN,X⟩:=bX i m O;⟨v,aN,X.sV nU⟩⟩
  ·simp only[F,if_false] at ae;rw[hW _ _ F]
   by_cases G:j=k
   ·subst G;simp only[if_true,cF,fq] at ae;obtain⟨rfl,rfl⟩:=ae;exact⟨_,h8 _ _ _,rfl,λ_=>rfl,λb ad=>by cases ad⟩
   ·simp only[G,if_false] at ae;rw[hW _ _ G];obtain⟨bx,M7,bb,aL,ad⟩:=h.dU j dc uq ae;refine⟨bx,M7,bb,aL,λb jQ=>?_⟩;obtain⟨vs,T,ab,aV,bu,bX⟩:=ad b jQ;exact⟨vs,T,ab,aV,bu,λi m O=>let ⟨v,aN,X⟩:=bX i m O;⟨v,aN,X.sV nU⟩⟩
def iQ.ghost {a:Act}{st:bc}{bD:fu}{mem':Mem}{tm':Nat->M}(h:iQ n A eB ic a st w B)(R:e6 A w B w bD mem')(b0:∀s,tm' s=st.tm s\/bB w (ct A bD) bD (tm' s) (a.eval (.tmp s))):
  iQ n A eB ic a ⟨tm',mem'⟩ w bD:=by
 refine⟨h.ok.trans R,λs=>?_,h.sz,h.MQ⟩;rcases b0 s with F|F
 ·simp only[F];exact (h.tm s).sV R.nU
 ·exact F
def au0 {K:bc->Prop}{a:Act}{st:bc}{g:Ru}(h:iQ n A eB ic a st w B)(I:lp K st g):∃eC bD,K eC/\iQ n A eB ic a eC w bD:=by
 have pG:∀x:bZ,∃v,bB w (ct A B) B (bd st.tm x) v\/∃m,x=.c m:=λx=>by
  cases x with
  |t s=>exact⟨_,.inl (h.tm s)⟩
  |c m=>exact⟨undef,.inr ⟨m,rfl⟩⟩
 cases g with
 |nq s k sz =>
  simp only[lp] at I
  split at I
  ·rename_i R;have ok:=e6.zP h.ok.eH k;refine⟨_,_,I,h.ghost ok λt=>?_⟩
   by_cases vE:t=s
   ·subst vE;have:=h.tm t;rw[R] at this;simp only[dK,if_true];exact .inr (agl (e:=⟨ca st.mem k,none,0⟩) (h8 _ _ _) this)
   ·exact .inl (by simp[dK,vE])
  ·cases I
 |freeze s =>
  simp only[lp] at I
  split at I
  ·rename_i k g sz off len R
   split at I
   ·rename_i dp cs gQ
    split at I
    ·rename_i bb;obtain⟨rfl,_⟩:=bb
     split at I
     ·rename_i d Z;have ok:=e6.zP h.ok.eH k;refine⟨_,_,I,h.ghost ok λt=>?_⟩
      by_cases vE:t=s
      ·subst vE;have aN:=h.tm t;rw[R] at aN Z;simp only[dK,if_true];exact .inr (.H (MZ h.ok.eH gQ Z aN))
      ·exact .inl (by simp[dK,vE])
     ·cases I
    ·cases I
   ·cases I
  ·cases I
 |Dr x i k sz =>
  simp only[lp] at I
  split at I
  ·rename_i kc g off L
   split at I
   ·rename_i dp cs gQ
    split at I
    ·rename_i bb;subst bb
     split at I
     ·rename_i J
      split at I
      ·rename_i b8;have ok:=e6.zP h.ok.eH k;have vF:a5 st.mem k (ca st.mem k) [] kc=some (dp,cs):=by simp[a5,Ne.symm b8,gQ]
       obtain⟨e,he,bW,aL,ad⟩:=h.ok.eH.at_ gQ
       obtain⟨bD,vG⟩:=Gc (w1:=w) (m':=.ref k (ca st.mem k) sz 0 0) ok.eH vF J (λaC b v fP fi aN=>by
        rw[hW B _ (Ne.symm b8)] at fP;rw[he] at fP
        cases fP;obtain⟨vs,T,a1,a2,hle,cm⟩:=ad b fi;have ah:off+i<D cs:=(dV.1 J).1;rw[cell_of_row w b (off+i) vs T (0,0) a1] at aN;have X:=cm.2 (off+i) _ v J (by rw[tc ah,Array.getElem?_toList];exact aN);exact agl (e:=⟨ca st.mem k,none,0⟩) (h8 _ _ _) X)
       exact⟨_,bD,I,h.ghost (ok.trans vG) λt => .inl rfl⟩
      ·cases I
     ·cases I
    ·cases I
   ·cases I
  ·cases I
 |FI x i =>
  simp only[lp] at I
  split at I
  ·rename_i kc gc off L
   split at I
   ·rename_i Mz cc agm
    split at I
    ·rename_i bb;subst bb
     split at I
     ·rename_i k g sz o len J
      split at I
      ·rename_i dp cs gQ
       split at I
       ·rename_i bb;obtain⟨rfl,_,b8⟩:=bb
        split at I
        ·rename_i d Z;have ok:=e6.zP h.ok.eH k;have vF:a5 st.mem k (ca st.mem k) [] kc=some (Mz,cc):=by simp[a5,Ne.symm b8,agm]
         obtain⟨e,he,bW,aL,ad⟩:=h.ok.eH.at_ agm
         obtain⟨bD,vG⟩:=Gc (w1:=w) (m':=.H d) ok.eH vF J (λaC b v fP fi aN=>by
          rw[hW B _ (Ne.symm b8)] at fP;rw[he] at fP
          cases fP;obtain⟨vs,T,a1,a2,hle,cm⟩:=ad b fi;have ah:off+i<D cc:=(dV.1 J).1;rw[cell_of_row w b (off+i) vs T (0,0) a1] at aN;have X:=cm.2 (off+i) _ v J (by rw[tc ah,Array.getElem?_toList];exact aN);exact .H (MZ h.ok.eH gQ Z X))
         exact⟨_,bD,I,h.ghost (ok.trans vG) λt => .inl rfl⟩
        ·cases I
       ·cases I
      ·cases I
     ·cases I
    ·cases I
   ·cases I
  ·cases I
 |move =>
  rcases I with I|⟨fR,gI,gJ,i,k,g,sz,off,len,cs,k',js,J,w7,F,G,ab,I⟩|⟨fR,gI,gJ,i,k,g,sz,off,len,cs,d,js,J,gQ,-,b8,Z,I⟩
  ·exact⟨st,B,I,h⟩
  ·obtain⟨e,he,bW,aL,ad⟩:=h.ok.eH.at_ w7;have ok:=e6.move h.ok.eH w7 he G;have vF:a5 (a5 st.mem k (ca st.mem k) []) k' (ca st.mem k') cs fR=some (gI,gJ):=by simp[a5,Ne.symm F,Ne.symm ab,js]
   obtain⟨ex,hex,M8,hC,M9⟩:=h.ok.eH.at_ js
   obtain⟨bD,vG⟩:=Gc (w1:=w) (m':=.ref k' (ca st.mem k') sz off len) ok.eH vF J (λaC b v fP fi aN=>by
    rw[hW _ _ (Ne.symm ab),hW _ _ (Ne.symm F)] at fP;rw[hex] at fP
    cases fP;obtain⟨vs,T,a1,a2,hle,cm⟩:=M9 b fi;have ah:i<D gJ:=(dV.1 J).1;rw[cell_of_row w b i vs T (0,0) a1] at aN;have X:=cm.2 i _ v J (by rw[tc ah,Array.getElem?_toList];exact aN)
    cases X with
    |ref fP hgle X =>
     rw[he] at fP
     cases fP;obtain⟨a,cap,rfl,aV,bu,bX⟩:=X;refine .ref (h8 _ _ _) (cl _) ⟨a,cap,rfl,aV,bu,bX.imp id ?_⟩;rintro⟨fS,rfl,b9⟩;exact⟨fS,rfl,λ_=>b9 bW.symm⟩)
   exact⟨_,bD,I,h.ghost (ok.trans vG) λt => .inl rfl⟩
  ·have ok:=e6.zP h.ok.eH k;have vF:a5 st.mem k (ca st.mem k) [] fR=some (gI,gJ):=by simp[a5,Ne.symm b8,js]
   obtain⟨e,he,bW,aL,ad⟩:=h.ok.eH.at_ js
   obtain⟨bD,vG⟩:=Gc (w1:=w) (m':=.H d) ok.eH vF J (λaC b v fP fi aN=>by
    rw[hW B _ (Ne.symm b8)] at fP;rw[he] at fP
    cases fP;obtain⟨vs,T,a1,a2,hle,cm⟩:=ad b fi;have ah:i<D gJ:=(dV.1 J).1;rw[cell_of_row w b i vs T (0,0) a1] at aN;have X:=cm.2 i _ v J (by rw[tc ah,Array.getElem?_toList];exact aN);exact .H (MZ h.ok.eH gQ Z X))
   exact⟨_,bD,I,h.ghost (ok.trans vG) λt => .inl rfl⟩
 |many =>
  obtain⟨mem',X4,I⟩:=I
  have main:∀{gD dg:Mem},vl gD dg->∀B,iQ n A eB ic a ⟨st.tm,gD⟩ w B->∃bD,iQ n A eB ic a ⟨st.tm,dg⟩ w bD:=by
   intro gD dg X4
   induction X4 with
   |refl mem=>exact λB h=>⟨B,h⟩
   | @step gD dg bU R _ aG =>
    intro B h
    have one:∃bD,iQ n A eB ic a ⟨st.tm,dg⟩ w bD:=by
     cases R with
     |RB fR gI gJ i k g sz off len cs k' js J w7 F G ab =>
      obtain⟨e,he,bW,aL,ad⟩:=h.ok.eH.at_ w7;have ok:=e6.move h.ok.eH w7 he G;have vF:a5 (a5 gD k (ca gD k) []) k' (ca gD k') cs fR=some (gI,gJ):=by simp[a5,Ne.symm F,Ne.symm ab,js]
      obtain⟨ex,hex,M8,hC,M9⟩:=h.ok.eH.at_ js
      obtain⟨bD,vG⟩:=Gc (w1:=w) (m':=.ref k' (ca gD k') sz off len) ok.eH vF J (λaC b v fP fi aN=>by
       rw[hW _ _ (Ne.symm ab),hW _ _ (Ne.symm F)] at fP;rw[hex] at fP
       cases fP;obtain⟨vs,T,a1,a2,hle,cm⟩:=M9 b fi;have ah:i<D gJ:=(dV.1 J).1;rw[cell_of_row w b i vs T (0,0) a1] at aN;have X:=cm.2 i _ v J (by rw[tc ah,Array.getElem?_toList];exact aN)
       cases X with
       |ref fP hgle X =>
        rw[he] at fP
        cases fP;obtain⟨a,cap,rfl,aV,bu,bX⟩:=X;refine .ref (h8 _ _ _) (cl _) ⟨a,cap,rfl,aV,bu,bX.imp id ?_⟩;rintro⟨fS,rfl,b9⟩;exact⟨fS,rfl,λ_=>b9 bW.symm⟩)
      exact⟨bD,h.ghost (ok.trans vG) λt => .inl rfl⟩
     |aeX fR gI gJ i k g off cs k' js J w7 F G ab =>
      obtain⟨e,he,bW,aL,ad⟩:=h.ok.eH.at_ w7;have ok:=e6.move h.ok.eH w7 he G;have vF:a5 (a5 gD k (ca gD k) []) k' (ca gD k') cs fR=some (gI,gJ):=by simp[a5,Ne.symm F,Ne.symm ab,js]
      obtain⟨ex,hex,M8,hC,M9⟩:=h.ok.eH.at_ js
      obtain⟨bD,vG⟩:=Gc (w1:=w) (m':=.ptr k' (ca gD k') off) ok.eH vF J (λaC b v fP fi aN=>by
       rw[hW _ _ (Ne.symm ab),hW _ _ (Ne.symm F)] at fP;rw[hex] at fP
       cases fP;obtain⟨vs,T,a1,a2,hle,cm⟩:=M9 b fi;have ah:i<D gJ:=(dV.1 J).1;rw[cell_of_row w b i vs T (0,0) a1] at aN;have X:=cm.2 i _ v J (by rw[tc ah,Array.getElem?_toList];exact aN)
       cases X with
       |ptr fP hgle X =>
        rw[he] at fP
        cases fP;obtain⟨fS,rfl,b9⟩:=X;exact .ptr (h8 _ _ _) (cl _) ⟨fS,rfl,λ_=>b9 bW.symm⟩)
      exact⟨bD,h.ghost (ok.trans vG) λt => .inl rfl⟩
     |RC fR gI gJ i k g sz off len cs d js J gQ b8 Z =>
      have ok:=e6.zP h.ok.eH k;have vF:a5 gD k (ca gD k) [] fR=some (gI,gJ):=by simp[a5,Ne.symm b8,js]
      obtain⟨e,he,bW,aL,ad⟩:=h.ok.eH.at_ js
      obtain⟨bD,vG⟩:=Gc (w1:=w) (m':=.H d) ok.eH vF J (λaC b v fP fi aN=>by
       rw[hW B _ (Ne.symm b8)] at fP;rw[he] at fP
       cases fP;obtain⟨vs,T,a1,a2,hle,cm⟩:=ad b fi;have ah:i<D gJ:=(dV.1 J).1;rw[cell_of_row w b i vs T (0,0) a1] at aN;have X:=cm.2 i _ v J (by rw[tc ah,Array.getElem?_toList];exact aN);exact .H (MZ h.ok.eH gQ Z X))
      exact⟨bD,h.ghost (ok.trans vG) λt => .inl rfl⟩
    obtain⟨bD,cn⟩:=one;exact aG bD cn
  obtain⟨bD,cn⟩:=main X4 B h;exact⟨_,bD,I,cn⟩
def erase:er->er
 |.skip => .skip
 |.ops l => .ops l
 |.l9 l c => .l9 l c
 |.seq a b => .seq (erase a) (erase b)
 |.cond c a b => .cond c (erase a) (erase b)
 |.block id c => .block id (erase c)
 |.loop c => .loop (erase c)
 |.exit id => .exit id
 |.ret => .ret
 |.ghost _ c=>erase c
def agn:eK->Exit
 |.normal => .normal
 |.exit id => .exit id
 |.ret => .ret
def au1 (P:Program)(n kb:Nat)(own:List Nat)(c:Code):er->Prop
 |.skip=>c=.skip
 |.ops l=>∃id ops,c=.region id ops false/\ops.toList.mapM (Dv P n kb own ops)=some l
 |.l9 l ch=>∃id ops,c=.region id ops true/\ops.toList.mapM (Dv P n kb own ops)=some l/\IP ops l=true/\ch=Bt [] l (r0 ops.toList [])
 |.seq x y=>∃a b,c=.seq a b/\r1 P n kb own a=some x/\r1 P n kb own b=some y
 |.cond x y z=>∃ku a b,c=.cond ku a b/\ev ku=some x/\r1 P n kb own a=some y/\r1 P n kb own b=some z
 |.block id x=>∃a,c=.block id a/\r1 P n kb own a=some x
 |.loop x=>∃a,c=.loop a/\r1 P n kb own a=some x
 |.exit id=>c=.exit id
 |.ret=>c=.ret
 |.ghost ..=>False
def BM {c:Code}{m:er}(h:r1 P n kb own c=some m):au1 P n kb own c m:=by
 cases c<;>simp only[r1,cF,reduceCtorEq,eL] at h
 case skip=>subst h;rfl
 case region id ops draw =>
  split at h
  ·rename_i l aq
   split at h
   ·rename_i Z;subst Z
    split at h
    ·rename_i cw
     cases h;exact⟨id,ops,rfl,aq,cw,rfl⟩
    ·cases h
   ·rename_i Z
    cases h;exact⟨id,ops,by rw[Bool.not_eq_true] at Z;rw[Z],aq⟩
  ·cases h
 case seq a b =>
  split at h
  ·rename_i x y L aj
   cases h;exact⟨a,b,rfl,L,aj⟩
  ·cases h
 case cond x a b =>
  split at h
  ·rename_i ku y z L aj a2
   cases h;exact⟨x,a,b,rfl,L,aj,a2⟩
  ·cases h
 case block id a =>
  obtain⟨x,L,rfl⟩:=h;exact⟨a,rfl,L⟩
 case loop a =>
  obtain⟨x,L,rfl⟩:=h;exact⟨a,rfl,L⟩
 case exit id=>subst h;rfl
 case ret=>subst h;rfl
def DJ (di:r6 P T)(hm:P.follows .mixedOrders=true):∀(R4:er) (c:Code) (K:eK->bc->Prop) (aR:Exit->Act->World->Prop) (st:bc) (a:Act) (w:World) (B:fu),
  r1 P n kb own c=some (erase R4)->iQ n A eB ic a st w B->wp T R4 K st->(∀e st a w B,K e st->iQ n A eB ic a st w B->aR (agn e) a w)->c.wp P aR a w
 |.ghost g R4,c,K,aR,st,a,w,B,a8,R,h,fM=>by
  obtain⟨eC,bD,I,kQ⟩:=au0 R h;exact DJ di hm R4 c K aR eC a w bD a8 kQ I fM
 |.skip,c,K,aR,st,a,w,B,a8,R,h,fM=>by
  obtain rfl:=BM a8;exact Go.wp_skip (fM .normal st a w B h R)
 |.exit id,c,K,aR,st,a,w,B,a8,R,h,fM=>by
  obtain rfl:=BM a8;exact Go.wp_exit (fM (.exit id) st a w B h R)
 |.ret,c,K,aR,st,a,w,B,a8,R,h,fM=>by
  obtain rfl:=BM a8;exact Go.wp_ret (fM .ret st a w B h R)
 |.ops l,c,K,aR,st,a,w,B,a8,R,h,fM=>by
  obtain⟨id,ops,rfl,aq⟩:=BM a8;have:=X3 (aR:=aR) (K:=K .normal) di aq (λst a w B I R=>fM .normal st a w B I R) l 0 st a w B rfl R h;refine Go.wp_region ?_;rw[(pA aq).1,Array.length_toList] at this;rw[List.range_eq_range'];exact this
 |.l9 l ch,c,K,aR,st,a,w,B,a8,R,h,fM=>by
  obtain⟨id,ops,rfl,aq,Z,rfl⟩:=BM a8;exact auY di hm aq Z R h λst a w B I R=>fM .normal st a w B I R
 |.seq x y,c,K,aR,st,a,w,B,a8,R,h,fM=>by
  obtain⟨ku,y',rfl,L,aj⟩:=BM a8;refine Go.wp_seq (DJ di hm x ku _ _ st a w B L R h λe eC lN aX bD I kQ=>?_)
  cases e with
  |normal=>exact DJ di hm y y' _ _ eC lN aX bD aj kQ I fM
  |exit id=>exact fM (.exit id) eC lN aX bD I kQ
  |ret=>exact fM .ret eC lN aX bD I kQ
 |.cond x y z,c,K,aR,st,a,w,B,a8,R,h,fM=>by
  obtain⟨ku,y',au2,rfl,L,aj,a2⟩:=BM a8;have aN:=R.vz ku x L;simp only[wp] at h
  split at h
  ·rename_i t b0;rw[b0] at aN;refine Go.wp_cond aN.FL ?_
   cases t with
   |true=>exact DJ di hm y y' _ _ st a w B aj R h fM
   |false=>exact DJ di hm z au2 _ _ st a w B a2 R h fM
  ·cases h
 |.block id x,c,K,aR,st,a,w,B,a8,R,h,fM=>by
  obtain⟨ku,rfl,L⟩:=BM a8;refine Go.wp_block (DJ di hm x ku _ _ st a w B L R h λe eC lN aX bD I kQ=>?_)
  cases e with
  |normal=>exact fM .normal eC lN aX bD I kQ
  |exit j =>
   simp only[agn,Exit.inBlock];simp only at I
   split
   ·rename_i ae;rw[Y ae] at I;exact fM .normal eC lN aX bD I kQ
   ·rename_i ae;rw[aa ae] at I;exact fM (.exit j) eC lN aX bD I kQ
  |ret=>exact fM .ret eC lN aX bD I kQ
 |.loop x,c,K,aR,st,a,w,B,a8,R,h,fM=>by
  obtain⟨ku,rfl,L⟩:=BM a8;obtain⟨s3,μ,Na,R5⟩:=h
  have key:∀m (st:bc) (a:Act) (w:World) (B:fu),μ st<m->s3 st->iQ n A eB ic a st w B->Code.rounds P ku aR m a w:=by
   intro m
   induction m with
   |zero=>intro st a w B BL;omega
   |succ m aG =>
    intro st a w B BL Na R;refine DJ di hm x ku _ _ st a w B L R (R5 st Na) λe eC lN aX bD I kQ=>?_
    cases e with
    |normal=>exact aG eC lN aX bD (by have:=I.2;omega) I.1 kQ
    |exit id=>exact fM (.exit id) eC lN aX bD I kQ
    |ret=>exact fM .ret eC lN aX bD I kQ
  exact wp_loop_rounds (μ st+1) (key _ st a w B (Nat.lt_succ_self _) Na R)
end Go.Mini
namespace Go.Mini
open Go
variable {P:Program} {T:ba} {A:Nat->Prop} {eB w:World} {ic B:fu} {mem:Mem} {n kb:Nat} {own:List Nat}
def au3 {a:Act}{st:bc}{r:ResultVar}{eH:py}{m:M}(R:iQ n A eB ic a st w B)(a8:IQ P r=some eH)(h:IH st eH=some m):
  ∃v,((match r with
   |.tmp t=>pure (a.tmps.getD t undef)
   |.cell b t=>do loadVar t (<-asAddr (a.tmps.getD b undef)):Sem Value)).run P w=.ok v w/\bB w (ct A B) B m v:=by
 cases r with
 |tmp t =>
  simp only[IQ,cF] at a8;subst a8;simp only[IH,cF] at h;subst h;exact⟨_,rfl,R.tm t⟩
 |cell b t =>
  simp only[IQ] at a8
  split at a8
  ·rename_i s g fw Bz;simp only[cF] at a8;subst a8;obtain⟨dU,off,ms,vs,aN,aq,cm,bH,X⟩:=ae5 R.ok.eH (R.tm b) h;obtain⟨u,F,G⟩:=ae4 (P:=P) fw Bz aq cm bH X;refine⟨u,?_,G⟩;have:a.tmps.getD b undef=.pointer (some ⟨dU,off,none⟩):=aN;simp only[this,asAddr,Sem.run_bind,Sem.run_pure,Result.andThen_ok];exact F
  ·cases a8
def ago {a:Act}{st:bc}(R:iQ n A eB ic a st w B):∀{l:List ResultVar} {rs:List py} {ms:List M},l.mapM (IQ P)=some rs->rs.mapM (IH st)=some ms ->
  ∃vs:List Value,(l.mapM λr=>((match r with
   |.tmp t=>pure (a.tmps.getD t undef)
   |.cell b t=>do loadVar t (<-asAddr (a.tmps.getD b undef)):Sem Value))).run P w=.ok vs w/\dL w (ct A B) B ms vs
 | [],rs,ms,F,G=>by
  simp at F;subst F;simp at G;subst G;exact⟨[],rfl,dL.nil⟩
 |r::l,rs,ms,F,G=>by
  simp only[ns,hX,h9,eS,cF] at F;obtain⟨x,L,xs,rh,rfl⟩:=F;simp only[ns,hX,h9,eS,cF] at G;obtain⟨m,hm,aNh,aM,rfl⟩:=G;obtain⟨v,aN,X⟩:=au3 R L hm;obtain⟨vs,aQ,cm⟩:=ago R rh aM;refine⟨v::vs,?_,dL.cons X cm⟩;simp only[ns,Sem.run_bind,aN,Result.andThen_ok,aQ,Sem.run_pure]
def agp {a:Act}{st:bc}{fn:Func}{rs:List py}{m:M}(R:iQ n A eB ic a st w B)(a8:fn.results.toList.mapM (IQ P)=some rs)(h:pz st rs=some m):
  ∃v,(results fn a.tmps).run P w=.ok v w/\bB w (ct A B) B m v:=by
 unfold pz at h
 have main:∀ms,rs.mapM (IH st)=some ms->∃vs:List Value,(results fn a.tmps).run P w=.ok (if h:vs.toArray.size=1 then vs.toArray[0] else .tuple vs.toArray) w/\dL w (ct A B) B ms vs:=by
  intro ms aM;obtain⟨vs,F,G⟩:=ago R a8 aM;refine⟨vs,?_,G⟩;unfold results;rw[Array.mapM_eq_mapM_toList,map_eq_pure_bind];simp only[Sem.run_bind,Sem.run_pure];have ql:=F;generalize bq:(List.mapM _ fn.results.toList:Sem (List Value))=q;have:q.run P w=.ok vs w:=by rw[<-bq];exact ql
  rw[this]
  rfl
 split at h
 ·rename_i x aM;simp only[cF] at h;subst h;obtain⟨vs,F,G⟩:=main _ aM;have aq:=G.1;simp at aq;obtain⟨v,rfl⟩:=agq.1 aq;exact⟨v,F,G.2 0 _ v rfl rfl⟩
 ·rename_i ms b8 aM;simp only[cF] at h;subst h;obtain⟨vs,F,G⟩:=main _ aM;have aq:=G.1;refine⟨_,F,?_⟩
  have:¬ (vs.toArray.size=1):=λh=>by
   have cn:(D ms)=1:=by rw[<-aq];simpa using h
   obtain⟨x,rfl⟩:=agq.1 cn;exact b8 x rfl
  rw[dif_neg this];exact .dj aq G.2
 ·cases h
def X5 (mf:bJ)(Post:M->Mem->Prop):eK->bc->Prop
 |.exit _,_=>False
 |_,st=>∃m,pz st mf.res=some m/\Post m st.mem
def Nb (di:r6 P T)(hm:P.follows .mixedOrders=true){f:FuncId}{fn:Func}{mf:bJ}(aH:P.funcs[f]?=some fn)(a8:r2 P kb own fn=some { mf with body:=erase mf.body }){args:List M}(oY:(D args)<=mf.n)
  {Post:M->Mem->Prop} {K:eK->bc->Prop} (db:∀e st,K e st->X5 mf Post e st) (h:wp T mf.body K ⟨kq args,mem⟩) {A:Nat->Prop} {w:World} {B:fu} {vs:List Value} (cf:fQ A w B mem) (aN:dL w (ct A B) B args vs) :
  Calls P f vs.toArray w λe aX=>∃v m mem' bD,e=.returned v/\e6 A w B aX bD mem'/\bB aX (ct A bD) bD m v/\Post m mem':=by
 unfold r2 at a8
 split at a8
 ·cases a8
 ·rename_i c ad
  split at a8
  ·rename_i b rs J yx;simp only[cF,bJ.mk.injEq] at a8;obtain⟨aL,aNi,lq,au4⟩:=a8;have fw:(D vs)=D args:=aN.1;refine calls_of_wp aH ad ?_;rw[au4] at J;refine DJ di hm mf.body c K _ ⟨kq args,mem⟩ _ w B J ⟨.refl cf,λs=>?_,?_,rfl⟩ h λe st a aX bD n1 R=>?_
   ·simp only[kq,Act.eval,Array.getD_eq_getD_getElem?];rcases hO s (D vs) with ah|bW
    ·have F:args[s]?=some args[s]:=bh (by omega)
     have G:(vs.toArray++Array.replicate (fn.ntmps-vs.toArray.size) undef)[s]?=some vs[s]:=by
      rw[Array.getElem?_append_left (by simpa using ah)];simp[ah]
     rw[F,G];exact aN.2 s _ _ F (bh ah)
    ·rw[jZ (by omega),Array.getElem?_append_right (by simpa using bW)]
     have:((Array.replicate (fn.ntmps-vs.toArray.size) undef)[s-vs.toArray.size]?).getD undef=undef:=by
      cases bq:(Array.replicate (fn.ntmps-vs.toArray.size) undef)[s-vs.toArray.size]? with
      |none=>rfl
      |some u =>
       have:=Array.mem_of_getElem? bq;simp at this;simp[this.2]
     rw[this];exact .no
   ·simp;omega
   ·have I:=db e st n1
    cases e with
    |exit id=>cases I
    |normal =>
     obtain⟨m,BL,aE⟩:=I;obtain⟨v,nZ,w2⟩:=agp R yx (by rw[lq];exact BL);exact⟨R.MQ,v,nZ,v,m,_,bD,rfl,R.ok,w2,aE⟩
    |ret =>
     obtain⟨m,BL,aE⟩:=I;obtain⟨v,nZ,w2⟩:=agp R yx (by rw[lq];exact BL);exact⟨R.MQ,v,nZ,v,m,_,bD,rfl,R.ok,w2,aE⟩
  ·cases a8
inductive eb where
 |same (r:Data)
 |own (sz:Nat) (es:List (List Data))
def BN (w:World)(a4:Nat->Prop)(ds:List Data)(vs:List Value):Prop:=D vs=D ds/\∀(i:Nat) (d:Data) (v:Value),ds[i]?=some d->vs[i]?=some v->Den w a4 d v
def au5 (w aX:World)(a4:Nat->Prop):eb->Value->Prop
 |.same r,v=>Den aX a4 r v
 |.own sz es,v=>DE w aX a4 sz es v
structure qm (P:Program) (f:FuncId) (aO:List Data->Option eb):Prop where
 real:Real P f
 run:∀ds r,aO ds=some r->∀(A:Nat->Prop) (w:World) (vs:List Value),(∀b,A b->b<w.heap.size)->BN w A ds vs ->
  Calls P f vs.toArray w λe aX=>∃v,e=.returned v/\Fr (λ_=>False) w aX/\au5 w aX A r v
def agr:eb->M->Mem->Prop
 |.same r,m,mem=>∃d,cV d mem m=some r
 |.own sz es,m,mem=>(m=.nil/\es=[])\/∃k g len cs ds d,m=.ref k g sz 0 len/\mem k=some (g,cs)/\len*sz<=D cs/\(cs.take (len*sz)).mapM (cV d (kill mem k))=some ds/\es=chunk sz len ds
def ri (sz:Nat)(mem:Mem):M->Option (List (List Data))
 |.nil=>some []
 |.ref k g eX off len=>if eX=sz/\off=0 then (match mem k with
  |some (dp,cs)=>if dp=g/\len*sz<=(D cs) then ((cs.take (len*sz)).mapM (cV 6 (kill mem k))).map (chunk sz len) else none
  |none=>none) else none
 |_=>none
def z2 (res:List py):eb->bc->Prop
 |.same r,st=>(pz st res).bind (cV 6 st.mem)=some r
 |.own sz es,st=>(pz st res).bind (ri sz st.mem)=some es
def vH (res:List py)(r:eb):eK->bc->Prop
 |.exit _,_=>False
 |.normal,st=>z2 res r st
 |.ret,st=>z2 res r st
def ags {mf:bJ}{r:eb}{st:bc}(h:z2 mf.res r st):∃m,pz st mf.res=some m/\agr r m st.mem:=by
 cases r with
 |same r =>
  simp only[z2,eS] at h;obtain⟨m,F,G⟩:=h;exact⟨m,F,6,G⟩
 |own sz es =>
  simp only[z2,eS] at h;obtain⟨m,F,G⟩:=h;refine⟨m,F,?_⟩
  cases m<;>simp only[ri,cF,reduceCtorEq] at G
  ·exact .inl ⟨rfl,G.symm⟩
  ·split at G
   ·rename_i J;obtain⟨rfl,rfl⟩:=J
    split at G
    ·rename_i dp cs I
     split at G
     ·rename_i bb;obtain⟨rfl,hle⟩:=bb;simp only[eL] at G;obtain⟨ds,hP,rfl⟩:=G;exact .inr ⟨_,_,_,cs,ds,6,rfl,I,hle,hP,rfl⟩
     ·cases G
    ·cases G
   ·cases G
def au6 {mf:bJ}{r:eb}{e:eK}{st:bc}(h:vH mf.res r e st):X5 mf (agr r) e st:=by
 cases e with
 |exit id=>exact h
 |normal=>exact ags h
 |ret=>exact ags h
def R6 (b:Nat):¬ tZ (λ_=>none) b:=fun⟨_,_,h,_⟩=>by cases h
def X6 (di : r6 P T)(hm : P.follows .mixedOrders = true){f : FuncId}{fn : Func}{mf : bJ}(aH : P.funcs[f]? = some fn)(vI : (fn.name == "runtime.NumGoroutine") = false)(a8 : r2 P kb own fn = some { mf with body := erase mf.body })
  {aO:List Data->Option eb} (h:∀ds r,aO ds=some r->(D ds)<=mf.n/\wp T mf.body (vH mf.res r) ⟨kq (ds.map .H),emp⟩):qm P f aO:=by
 refine⟨?_,λds r ec A w vs ah vy=>?_⟩
 ·cases ad:fn.body with
  |none=>simp[r2,ad] at a8
  |some c=>exact⟨fn,c,aH,ad,vI⟩
 ·obtain⟨hlen,BO⟩:=h ds r ec;have cf:fQ A w (λ_=>none) emp:=⟨λ_ _=>rfl,λ_ _ _ _ _ h=>(by cases h),λb _ bw=>R6 b bw,ah,λ_ _ _ h=>(by cases h)⟩;have fZ:∀b,ct A (λ_=>none) b->A b:=λb h=>h.elim (λh=>(R6 b h).elim) id;have cm:dL w (ct A λ_=>none) (λ_=>none) (ds.map .H) vs:=dL.H vy.1 λi d v F G=>(vy.2 i d v F G).less fZ;refine Calls.mono (Nb di hm aH a8 (by simpa using hlen) (λe st=>au6) BO cf cm) λe aX he=>?_;obtain⟨v,m,mem',bD,rfl,R,aN,aE⟩:=he;refine⟨v,rfl,⟨R.aF.os,R.aF.tape,R.aF.output,R.aF.size,λg bb _=>R.aF.block g bb (R6 g)⟩,?_⟩
  cases r with
  |same r =>
   obtain⟨d,Z⟩:=aE;exact snap R.eH (λb ad=>ad) d m v r Z aN
  |own sz es =>
   rcases aE with ⟨rfl,rfl⟩|⟨k,g,len,cs,Gb,d,rfl,I,hle,hP,rfl⟩
   ·cases aN;exact⟨by simp,_,0,rfl,cl _,fL _,.inl rfl⟩
   ·obtain⟨F,G⟩:=pA hP;have Gd:(D Gb)=len*sz:=by rw[F,gP];omega
    refine⟨RL sz len Gb Gd,?_⟩;rw[RK,RM sz len Gb Gd]
    cases aN with
    |ref he hgle X =>
     obtain⟨e,g4,bW,aL,ad⟩:=R.eH.at_ I;rw[g4] at he;obtain rfl:=nu he;obtain⟨a,cap,rfl,ab,aV,bu⟩:=X;refine⟨a,cap,rfl,ab,aV,bu.imp id ?_⟩;rintro⟨b,rfl,bX⟩;obtain⟨b9,cS⟩:=bX bW.symm;obtain⟨pD,au7,a1,a2,MM,BG⟩:=ad b b9;obtain⟨au8,qn⟩:=kill_shut R.eH I g4 b9;refine⟨b,pD,au7,rfl,?_,a1,by simpa [a2] using cS,λi x L=>?_⟩
     ·rcases R.fresh b ⟨k,_,g4,b9⟩ with h|h
      ·exact (R6 b h).elim
      ·exact h
     ·have agt:i<D Gb:=(dV.1 L).1;have nv:i<D cs:=by omega
      have ow:(cs.take (len*sz))[i]?=some cs[i]:=by
       rw[tc (by omega)];exact bh nv
      have M5:i<pD.size:=by omega
      refine⟨pD[i],Array.getElem?_eq_getElem M5,snap au8 (λb ad=>ad) d _ _ x (G i _ x ow L) (qn _ _ (BG.2 i _ _ (bh nv) ?_))⟩;rw[tc nv,Array.getElem?_toList];exact Array.getElem?_eq_getElem M5
def scalar:Data->Bool
 |.int _ _=>true
 |.bool _=>true
 |.str _=>true
 |.wP=>true
 |.wQ=>true
 |.ax []=>true
 |.dj ds=>ds.attach.all fun⟨d,_⟩=>scalar d
 |.agg ds=>ds.attach.all fun⟨d,_⟩=>scalar d
 |_=>false
def agu {a4 nk:Nat->Prop}{d:Data}{v:Value}(h:scalar d=true)(Z:Den w a4 d v):Den w nk d v:=by
 induction Z with
 |int=>exact .int
 |bool=>exact .bool
 |str=>exact .str
 |wP=>exact .wP
 |wQ=>exact .wQ
 |mV=>exact .mV
 | @ax es b off c sz val aq hm ad fZ fw J Z aG =>
  cases es with
  |nil=>exact .mV
  |cons=>simp[scalar] at h
 |ptr=>simp[scalar] at h
 |fn=>simp[scalar] at h
 | @agg cs vs aq Z aG =>
  simp only[scalar,nt,agv,true_imp_iff,Subtype.forall] at h;exact .agg aq λi d v F G=>aG i d v F G (h d (dy F))
 | @dj cs vs aq Z aG =>
  simp only[scalar,nt,agv,true_imp_iff,Subtype.forall] at h;exact .dj aq λi d v F G=>aG i d v F G (h d (dy F))
def X7 {a4:Nat->Prop}:∀(d:Nat) (m:M) (v:Value) (r:Data),cV d emp m=some r->bB w a4 B m v->Den w a4 r v:=by
 intro d
 induction d with
 |zero =>
  intro m v r h aN
  cases m<;>simp only[cV,cF,reduceCtorEq] at h
  ·subst h;cases aN with|H h=>exact h
  ·subst h;cases aN;exact .mV
 |succ d aG =>
  intro m v r h aN
  have lists:∀(cs:List M) (vs:List Value) (ds:List Data),cs.mapM (cV d emp)=some ds->(D vs)=(D cs)->(∀(i:Nat) (x:M) (u:Value),cs[i]?=some x->vs[i]?=some u->bB w a4 B x u) ->
    (D vs)=D ds/\∀(i:Nat) (x:Data) (u:Value),ds[i]?=some x->vs[i]?=some u->Den w a4 x u:=by
   intro cs vs ds hP aq X;obtain⟨F,G⟩:=pA hP;refine⟨by omega,λi x u L hu=>?_⟩
   have ah:i<D cs:=by have:=(dV.1 L).1;omega
   have ow:=bh ah;exact aG _ u x (G i _ x ow L) (X i _ u ow hu)
  cases m<;>simp only[cV,emp,cF,eL,reduceCtorEq] at h
  case H=>subst h;cases aN with|H h=>exact h
  case nil=>subst h;cases aN;exact .mV
  case gH f cs =>
   obtain⟨ds,hP,rfl⟩:=h
   cases aN with
   |gH aq Z=>obtain⟨F,G⟩:=lists _ _ _ hP aq Z;exact .fn F G
  case agg cs =>
   obtain⟨ds,hP,rfl⟩:=h
   cases aN with
   |agg aq Z=>obtain⟨F,G⟩:=lists _ _ _ hP aq Z;exact .agg F G
  case dj cs =>
   obtain⟨ds,hP,rfl⟩:=h
   cases aN with
   |dj aq Z=>obtain⟨F,G⟩:=lists _ _ _ hP aq Z;exact .dj F G
def R7:eb->hA
 |.same r => .same r
 |.own sz es => .own sz es
def I9:eb->Option hA
 |.same r=>if scalar r=true then some (.same r) else none
 |.own sz es=>if (es.all λe=>e.all scalar)=true then some (.own sz es) else none
def R8 (aO:List Data->Option eb):Option (List Data)->Option hA
 |some ds=>(aO ds).bind I9
 |none=>none
def Ja (aO:List Data->Option eb):Option (List Data)->Option (List Data)->Option hA
 |some ds,_=>(aO ds).map R7
 |none,x=>R8 aO x
def aK (aO:List Data->Option eb)(args:List M)(mem:Mem):Option hA:=Ja aO (args.mapM (cV 6 emp)) (args.mapM (cV 6 mem))
def DK (mZ:FuncId->Option (List Data->Option eb)):ba:=λf args mem=>match mZ f with
 |some aO=>aK aO args mem
 |none=>none
def agw {a4:Nat->Prop}{g:M->Option Data}{args:List M}{ds:List Data}{vs:List Value}(h:args.mapM g=some ds)(aN:dL w a4 B args vs){nk:Nat->Prop}(Z:∀m v r,g m=some r->bB w a4 B m v->Den w nk r v):BN w nk ds vs:=by
 obtain⟨F,G⟩:=pA h;refine⟨by rw[aN.1,F],λi d v ou pB=>?_⟩
 have ah:i<D args:=by have:=(dV.1 ou).1;omega
 have DL:=bh ah;exact Z _ v d (G i _ d DL ou) (aN.2 i _ v DL pB)
def agx {mZ:FuncId->Option (List Data->Option eb)}(h:∀f aO,mZ f=some aO->qm P f aO):r6 P (DK mZ):=by
 intro f args mem rb jG;unfold DK at jG
 split at jG
 ·rename_i aO ec;have kS:=h f aO ec;refine⟨kS.real,λA w B vs cf aN=>?_⟩;unfold aK at jG
  cases hP:args.mapM (cV 6 emp) with
  |some ds =>
   rw[hP] at jG;simp only[Ja,eL] at jG;obtain⟨r,X,rfl⟩:=jG;have J:=kS.run ds r X (ct A B) w vs (λb ad=>ad.elim (λh=>cf.zH h) (cf.lt b)) (agw hP aN λm v r=>X7 6 m v r)
   cases r with
   |same r=>exact J
   |own sz es=>exact J
  |none =>
   rw[hP] at jG;simp only[Ja] at jG
   cases hP:args.mapM (cV 6 mem) with
   |none=>rw[hP] at jG;cases jG
   |some ds =>
    rw[hP] at jG;simp only[R8,eS] at jG;obtain⟨r,X,aq⟩:=jG;have J:=kS.run ds r X (λ_=>False) w vs (λb ad=>ad.elim) (agw hP aN λm v r h aN=>snap cf (λb ad=>ad.elim) 6 m v r h aN)
    cases r with
    |same r =>
     simp only[I9] at aq
     split at aq
     ·rename_i R
      cases aq;exact Calls.mono J λe aX ⟨v,he,bg,Z⟩=>⟨v,he,bg,agu R Z⟩
     ·cases aq
    |own sz es =>
     simp only[I9] at aq
     split at aq
     ·rename_i R
      cases aq;refine Calls.mono J λe aX ⟨v,he,bg,Z⟩=>⟨v,he,bg,?_⟩;obtain⟨F,a,cap,G,ab,aV,bu⟩:=Z;refine⟨F,a,cap,G,ab,aV,bu.imp id ?_⟩;rintro⟨b,vs,T,bX,b9,cS,eP,du⟩;refine⟨b,vs,T,bX,b9,cS,eP,λi d Z=>?_⟩;obtain⟨u,hu,vy⟩:=du i d Z;refine⟨u,hu,agu ?_ vy⟩;have hm:=dy Z;rw[afw] at hm;obtain⟨e,he,au9⟩:=hm;rw[nt] at R;have:=R e he;rw[nt] at this;exact this d au9
     ·cases aq
 ·cases jG
end Go.Mini
namespace Go.Mini
open Go
def Jb {ι:Type}(T:ba)(dA:ι->bc->Prop)(m:ι->Nat)(i:ι)(K:eK->bc->Prop)(k:List fT):eK->bc->Prop
 |.normal,st=>∃bn,m bn<m i/\dA bn st
 |.exit id,st=>cg T K k (.exit id) st
 |.ret,st=>cg T K k .ret st
@[go_sem] def aNj {ι:Type}(T:ba)(dA:ι->bc->Prop)(m:ι->Nat)(i:ι)(K:eK->bc->Prop)(k:List fT)(id:Nat)(st:bc):Jb T dA m i K k (.exit id) st=cg T K k (.exit id) st:=bE
@[go_sem] def aNk {ι:Type}(T:ba)(dA:ι->bc->Prop)(m:ι->Nat)(i:ι)(K:eK->bc->Prop)(k:List fT)(st:bc):Jb T dA m i K k .ret st=cg T K k .ret st:=bE
@[go_sem] def ava {ι:Type}(T:ba)(dA:ι->bc->Prop)(m:ι->Nat)(i:ι)(K:eK->bc->Prop)(k:List fT)(st:bc):Jb T dA m i K k .normal st=∃bn,m bn<m i/\dA bn st:=bE
open Classical in
def avb {ι:Type}{T:ba}{K:eK->bc->Prop}{k:List fT}{st:bc}{c:er}(dA:ι->bc->Prop)(m:ι->Nat)(i0:ι)(ay:dA i0 st)(h:∀i st,dA i st->wp T c (cg T (Jb T dA m i K k) []) st):
  wp T (.loop c) (cg T K k) st:=by
 have least:∀st,(∃i,dA i st)->∃i,dA i st/\∀j,dA j st->m i<=m j:=by
  intro st ⟨i,O⟩
  have:∀n i,m i=n->dA i st->∃i,dA i st/\∀j,dA j st->m i<=m j:=by
   intro n
   induction n using MW with
   |_ n aG =>
    intro i aL O
    by_cases L:∃j,dA j st/\m j<m i
    ·obtain⟨j,ae,ah⟩:=L;exact aG (m j) (by omega) j rfl ae
    ·refine⟨i,O,λj ae=>?_⟩;rcases hO (m j) (m i) with cn|cn
     ·exact absurd ⟨j,ae,cn⟩ L
     ·exact cn
  exact this _ i rfl O
 refine⟨λst=>∃i,dA i st,λst=>if L:∃i,dA i st then m (z3 (least st L)) else 0,⟨i0,ay⟩,λst da=>?_⟩;have ju:=qo (least st da);have:=h _ st ju.1
 have I:cg T (Jb T dA m (z3 (least st da)) K k) []=λe eC=>match e with
   |.normal=>(∃i,dA i eC)/\(if L:∃i,dA i eC then m (z3 (least eC L)) else 0)<(if L:∃i,dA i st then m (z3 (least st L)) else 0)
   |e=>cg T K k e eC:=by
  funext e eC
  cases e with
  |normal =>
   simp only[at0,ava];apply propext
   constructor
   ·rintro⟨bn,ah,ae⟩;have hex:∃i,dA i eC:=⟨bn,ae⟩;refine⟨hex,?_⟩;rw[dif_pos hex,dif_pos da];have:=(qo (least eC hex)).2 bn ae;omega
   ·rintro⟨hex,ah⟩;rw[dif_pos hex,dif_pos da] at ah;exact⟨_,ah,(qo (least eC hex)).1⟩
  |exit id=>rfl
  |ret=>rfl
 rw[I] at this;exact this
section
variable {aO:List Data->Option eb} {mem:Mem} {st:bc} {res:List py}
@[go_sem] def aNl (ds:List Data)(x:Option (List Data)):Ja aO (some ds) x=(aO ds).map R7:=bE
@[go_sem] def aNm (x:Option (List Data)):Ja aO none x=R8 aO x:=bE
@[go_sem] def aNn (ds:List Data):R8 aO (some ds)=(aO ds).bind I9:=bE
@[go_sem] def aNo (r:Data):R7 (.same r)=.same r:=bE
@[go_sem] def aNp (sz:Nat)(es:List (List Data)):R7 (.own sz es)=.own sz es:=bE
@[go_sem] def aNq (r:Data):I9 (.same r)=if scalar r=true then some (.same r) else none:=bE
@[go_sem] def R9 (n:Nat)(d:Data):cV n mem (.H d)=some d:=by cases n<;>rfl
@[go_sem] def avc (n:Nat):cV n mem .nil=some (.ax []):=by cases n<;>rfl
@[go_sem] def aNr (n:Nat)(cs:List M):cV (n+1) mem (.agg cs)=(cs.mapM (cV n mem)).map .agg:=bE
@[go_sem] def aNs (n:Nat)(cs:List M):cV (n+1) mem (.dj cs)=(cs.mapM (cV n mem)).map .dj:=bE
@[go_sem] def aNt (n:Nat)(f:FuncId)(cs:List M):cV (n+1) mem (.gH f cs)=(cs.mapM (cV n mem)).map (.fn f):=bE
@[go_sem] def aNu (r:eb)(id:Nat):vH res r (.exit id) st=False:=bE
@[go_sem] def aNv (r:eb):vH res r .ret st=z2 res r st:=bE
@[go_sem] def aNw (r:eb):vH res r .normal st=z2 res r st:=bE
@[go_sem] def aNx (r:Data):z2 res (.same r) st=((pz st res).bind (cV 6 st.mem)=some r):=bE
@[go_sem] def aNy (sz:Nat)(es:List (List Data)):z2 res (.own sz es) st=((pz st res).bind (ri sz st.mem)=some es):=bE
end
@[go_sem] def aNz (x:Bool):RP (.H (.bool x)) true=some x:=by cases x<;>rfl
@[go_sem] def aNA (x:Bool):RP (.H (.bool x)) false=some (!x):=by cases x<;>rfl
attribute [go_sem] eE List.map_nil F9 MN lJ List.length_nil List.drop_zero Dx nw qk ks XR q4
 ns List.mapM_nil hX h9 jE List.cons_append yn List.drop_nil List.take_nil b3 Bool.not_false Bool.or_true ur Bool.or_false uu Bool.and_true Bool.true_and Bool.and_false Bool.false_and vx List.all_nil true_and and_true k1 bne
section
variable {T:ba} {K:eK->bc->Prop} {k:List fT} {st:bc}
def avd {x:Bool}{i:cN}{r:List cN}(F:x=false->s7 T K k (some true) i r st)(G:x=true->s7 T K k (some false) i r st):s7 T K k (some (!x)) i r st:=by
 cases x
 ·exact F rfl
 ·exact G rfl
def ave {x:Bool}{i:cN}{r:List cN}(F:x=true->s7 T K k (some true) i r st)(G:x=false->s7 T K k (some false) i r st):s7 T K k (some x) i r st:=by
 cases x
 ·exact G rfl
 ·exact F rfl
def avf {x:Bool}{n:Nat}{i:cN}{r:List cN}{c:List (List Nat)}{rec:Rec}(F:x=false->s8 T K k n (some true) i r c rec st)(G:x=true->s8 T K k n (some false) i r c rec st):s8 T K k n (some (!x)) i r c rec st:=by
 cases x
 ·exact F rfl
 ·exact G rfl
def avg {x:Bool}{n:Nat}{i:cN}{r:List cN}{c:List (List Nat)}{rec:Rec}(F:x=true->s8 T K k n (some true) i r c rec st)(G:x=false->s8 T K k n (some false) i r c rec st):s8 T K k n (some x) i r c rec st:=by
 cases x
 ·exact G rfl
 ·exact F rfl
def avh {x:Bool}{a b:er}(F:x=false->r5 T K k (.H (.bool true)) a b st)(G:x=true->r5 T K k (.H (.bool false)) a b st):r5 T K k (.H (.bool (!x))) a b st:=by
 cases x
 ·exact F rfl
 ·exact G rfl
def avi {x:Bool}{a b:er}(F:x=true->r5 T K k (.H (.bool true)) a b st)(G:x=false->r5 T K k (.H (.bool false)) a b st):r5 T K k (.H (.bool x)) a b st:=by
 cases x
 ·exact G rfl
 ·exact F rfl
end
class Ge (bs:Prop) (A B:outParam Prop):Prop where
 go:A->B->bs
def ag {bs A B:Prop}[s:Ge bs A B](a:A)(b:B):bs:=s.go a b
def ai {bs:Prop}(h:true=true->bs):bs:=h rfl
instance {T K k i r st} {x:Bool}:Ge (s7 T K k (some x) i r st) (x=true->s7 T K k (some true) i r st) (x=false->s7 T K k (some false) i r st):=⟨ave⟩
instance {T K k i r st} {x:Bool}:Ge (s7 T K k (some (!x)) i r st) (x=false->s7 T K k (some true) i r st) (x=true->s7 T K k (some false) i r st):=⟨avd⟩
instance {T K k st a b} {x:Bool}:Ge (r5 T K k (.H (.bool x)) a b st) (x=true->r5 T K k (.H (.bool true)) a b st) (x=false->r5 T K k (.H (.bool false)) a b st):=⟨avi⟩
instance {T K k st a b} {x:Bool}:Ge (r5 T K k (.H (.bool (!x))) a b st) (x=false->r5 T K k (.H (.bool true)) a b st) (x=true->r5 T K k (.H (.bool false)) a b st):=⟨avh⟩
instance {T K k n i r c rec st} {x:Bool}:Ge (s8 T K k n (some x) i r c rec st) (x=true->s8 T K k n (some true) i r c rec st) (x=false->s8 T K k n (some false) i r c rec st):=⟨avg⟩
instance {T K k n i r c rec st} {x:Bool}:Ge (s8 T K k n (some (!x)) i r c rec st) (x=false->s8 T K k n (some true) i r c rec st) (x=true->s8 T K k n (some false) i r c rec st):=⟨avf⟩
attribute [go_sem] reduceIte Nat.reduceEqDiff Nat.reduceAdd Nat.reduceSub Nat.reduceMul Nat.reduceLeDiff reduceCtorEq Nat.reduceLT Nat.reduceBEq Int.reduceEq
attribute [go_sem] k1
end Go.Mini
