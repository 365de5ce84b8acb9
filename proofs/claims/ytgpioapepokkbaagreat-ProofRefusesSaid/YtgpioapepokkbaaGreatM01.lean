/- A part of the proof. -/
import Derived.Calls
import Derived.Still
import Derived.Below
import Derived.Laws.World
import Derived.Laws.Sem
import Derived.Laws.Entries
import Derived.Laws.Rows
import GoSem.ClaimData
import Derived.Laws.CopyRow
import Derived.Laws.MakeOwn
import Derived.Laws.Append
import Derived.Laws.AppendOwn
import Derived.Laws.Strings
import Derived.Laws.Strings2
import Derived.Laws.StructEq
import Derived.Laws.Slices
import Derived.Laws.Cells
import Derived.Attr
set_option linter.unusedSimpArgs false
set_option linter.unusedVariables false
set_option maxRecDepth 100000
set_option maxHeartbeats 4000000
noncomputable section
open Bool renaming and_eq_true->eM,false_eq_true->kX,or_eq_true->yk
open List renaming all_eq_true->jh,contains_iff_mem->aea,drop_drop->Gk,drop_eq_getElem_cons->ij,drop_eq_nil_of_le->kY,drop_set_of_lt->tB,drop_take->ade,eq_nil_of_length_eq_zero->oM,ext_getElem?->qx,flatten_cons->jt,foldl_cons->Ga,getD_eq_getElem?_getD->ep,getElem?_append->FW,getElem?_append_left->qv,getElem?_append_right->rm,getElem?_cons_zero->vl,getElem?_drop->k3,getElem?_eq_getElem->bz,getElem?_eq_none->mB,getElem?_eq_some_iff->dD,getElem?_map->bn,getElem?_range->tr,getElem?_set_ne->aef,getElem?_set_self->Gl,getElem?_take->vc,getElem?_take_of_lt->pU,getElem?_toArray->adt,getElem_mem->ph,getElem_of_mem->Kb,length->D,length_append->fr,length_cons->h0,length_map->aj,length_set->hn,length_take->fI,mapM_cons->ju,map_congr_left->mI,map_map->m6,mem_append->jk,mem_cons_self->gq,mem_flatMap->yi,mem_of_getElem?->ei,mem_of_mem_take->F8,mem_zipIdx_iff_getElem?->ad6,range->dW,replicate->dG,replicate_succ->pO,take_append->F7,take_of_length_le->dB
open Nat renaming add_assoc->qu,add_comm->zp,add_mul->qn,add_zero->n1,eq_or_lt_of_le->Od,eq_zero_or_pos->k4,le_mul_of_pos_right->Kc,le_refl->b1,le_trans->eU,lt_asymm->ad9,lt_of_lt_of_le->Dh,lt_or_ge->ih,min_eq_left->oL,mul_le_mul_right->vg,one_mul->wF,sub_self->mC,succ_mul->ts,testBit_or->ad2,zero_add->jv,zero_le->fk
open Option renaming bind_eq_bind->hk,bind_eq_some_iff->eo,getD_some->Kn,isSome_iff_exists->adv,map_eq_some_iff->dV,map_none->adK,map_some->k5,pure_def->ha
open Option.some renaming inj->nt,injEq->ca
open Prod.mk renaming injEq->fD
namespace Go.Mini
theorem bx {α:Sort _}{a:α}:a=a:=_root_.id rfl
theorem ad {c:Prop}{h:Decidable c}(H:c){α:Sort _}{t e:α}:ite c t e=t:=if_pos H
theorem ah {c:Prop}{h:Decidable c}(H:¬c){α:Sort _}{t e:α}:ite c t e=e:=if_neg H
theorem kf {p:Prop}[inst:Decidable p](h:p):decide p=true:=decide_eq_true h
theorem mw {p:Prop}[i:Decidable p](h:¬p):decide p=false:=decide_eq_false h
theorem dp {p:Prop}[inst:Decidable p](h:p:=by omega):decide p=true:=decide_eq_true h
theorem dn {p:Prop}[i:Decidable p](h:¬p:=by omega):decide p=false:=decide_eq_false h
open Go
abbrev Key:=Nat
inductive Data where
 |int (k:IntKind) (n:Int)
 |bool (b:Bool)
 |str (s:List UInt8)
 |Y (es:List (List Data))
 |ptr (cs:List Data)
 |u3
 |fn (f:FuncId) (eT:List Data)
 |u4
 |agg (cs:List Data)
 |cM (vs:List Data)
 deriving Inhabited
inductive R where
 |J (d:Data)
 |nil
 |ref (k:Key) (g sz off len:Nat)
 |ptr (k:Key) (g off:Nat)
 |fz (f:FuncId) (eT:List R)
 |agg (cs:List R)
 |cM (vs:List R)
 |no
 |undef
 deriving Inhabited
inductive Den (w:World) (aX:Nat->Prop):Data->Value->Prop
 |int {k:IntKind} {n:Int}:Den w aX (.int k n) (.int k n)
 |bool {b:Bool}:Den w aX (.bool b) (.bool b)
 |str {s:List UInt8}:Den w aX (.str s) (.string ⟨s.toArray⟩)
 |lO {a:Option Addr} {c:Nat}:Den w aX (.Y []) (.slice a 0 c)
 |Y {es:List (List Data)} {b off c sz:Nat} (val:Nat->Value) (ar:(D es)<=c) (hm:(D es)<=maxLen) (ag:b<w.heap.size) (fG:¬ aX b) (e2:∀e∈es,D e=sz)
   (H:∀i,i<D es*sz->w.cell? ⟨b,off+i,none⟩=some (val i)) (aa:∀i d,es.flatten[i]?=some d->Den w aX d (val i)) :
   Den w aX (.Y es) (.slice (some ⟨b,off,none⟩) (D es) c)
 |ptr {cs:List Data} {b off:Nat} (val:Nat->Value) (ag:b<w.heap.size) (fG:¬ aX b)
   (H:∀i,i<(D cs)->w.cell? ⟨b,off+i,none⟩=some (val i)) (aa:∀i d,cs[i]?=some d->Den w aX d (val i)) :
   Den w aX (.ptr cs) (.pointer (some ⟨b,off,none⟩))
 |u3:Den w aX .u3 (.pointer none)
 |fn {f:FuncId} {eT:List Data} {vs:List Value} (ar:(D vs)=D eT) (aa:∀(i:Nat) (d:Data) (v:Value),eT[i]?=some d->vs[i]?=some v->Den w aX d v) :
   Den w aX (.fn f eT) (.func (.func f) #[] vs.toArray)
 |u4:Den w aX .u4 .nilFunc
 |agg {cs:List Data} {vs:List Value} (ar:(D vs)=D cs) (aa:∀(i:Nat) (d:Data) (v:Value),cs[i]?=some d->vs[i]?=some v->Den w aX d v) :
   Den w aX (.agg cs) (.agg vs.toArray)
 |cM {cs:List Data} {vs:List Value} (ar:(D vs)=D cs) (aa:∀(i:Nat) (d:Data) (v:Value),cs[i]?=some d->vs[i]?=some v->Den w aX d v) :
   Den w aX (.cM cs) (.tuple vs.toArray)
theorem NV {es:List (List Data)}{sz:Nat}(h:∀e∈es,D e=sz):(D es.flatten)=D es*sz:=by
 induction es with
 |nil=>simp
 |cons e r ay =>
  have F:=h e (by simp);have I:=ay (λx O=>h x (by simp[O]));rw[jt,fr,F,I,h0,qn,wF,zp]
theorem Den.rb {w aQ:World}{aX mx:Nat->Prop}(U:w.heap.size<=aQ.heap.size)(h:∀b,b<w.heap.size->¬ aX b->aQ.heap[b]?=w.heap[b]?/\¬ mx b){d:Data}{v:Value}(aa:Den w aX d v):Den aQ mx d v:=by
 induction aa with
 |int=>exact .int
 |bool=>exact .bool
 |str=>exact .str
 |lO=>exact .lO
 | @Y es b off c sz val ar hm ag fG e2 H aa ay =>
  obtain⟨F,I⟩:=h b ag fG;exact .Y val ar hm (by omega) I e2 (λi M=>(World.cell?_of_block (a:=⟨b,off+i,none⟩) F).trans (H i M)) ay
 |u3=>exact .u3
 |u4=>exact .u4
 | @ptr cs b off val ag fG H aa ay =>
  obtain⟨F,I⟩:=h b ag fG;exact .ptr val (by omega) I (λi M=>(World.cell?_of_block (a:=⟨b,off+i,none⟩) F).trans (H i M)) ay
 |fn ar aa ay=>exact .fn ar ay
 |agg ar aa ay=>exact .agg ar ay
 |cM ar aa ay=>exact .cM ar ay
structure my where
 g:Nat
 df:Option Nat
 size:Nat
abbrev Lay:=Key->Option my
def sl (B:Lay)(b:Nat):Prop:=∃k e,B k=some e/\e.df=some b
def FF (e:my)(g sz off len:Nat)(v:Value):Prop :=
 ∃a cap,v=.slice a len cap/\len<=cap/\cap<=maxLen/\(cap=0\/∃b,a=some ⟨b,off,none⟩/\(g=e.g->e.df=some b/\off+cap*sz<=e.size))
def NW (e:my)(g off:Nat)(v:Value):Prop:=∃b,v=.pointer (some ⟨b,off,none⟩)/\(g=e.g->e.df=some b)
theorem FF.JB {e e':my}{g sz off len:Nat}{v:Value}(h:FF e g sz off len v)(ar:g<e'.g):FF e' g sz off len v:=by
 obtain⟨a,cap,F,I,af,aO⟩:=h;refine⟨a,cap,F,I,af,aO.imp id ?_⟩;rintro⟨b,br,_⟩;exact⟨b,br,λh=>by omega⟩
theorem NW.JB {e e':my}{g off:Nat}{v:Value}(h:NW e g off v)(ar:g<e'.g):NW e' g off v:=by
 obtain⟨b,F,_⟩:=h;exact⟨b,F,λh=>by omega⟩
inductive bt (w:World) (aX:Nat->Prop) (B:Lay):R->Value->Prop
 |J {d:Data} {v:Value} (h:Den w aX d v):bt w aX B (.J d) v
 |nil {a:Option Addr}:bt w aX B .nil (.slice a 0 0)
 |ref {k:Key} {g sz off len:Nat} {e:my} {v:Value} (he:B k=some e) (bc:g<=e.g) (ak:FF e g sz off len v):bt w aX B (.ref k g sz off len) v
 |ptr {k:Key} {g off:Nat} {e:my} {v:Value} (he:B k=some e) (bc:g<=e.g) (ak:NW e g off v):bt w aX B (.ptr k g off) v
 |fz {f:FuncId} {eT:List R} {vs:List Value} (ar:(D vs)=D eT) (aa:∀(i:Nat) (d:R) (v:Value),eT[i]?=some d->vs[i]?=some v->bt w aX B d v) :
   bt w aX B (.fz f eT) (.func (.func f) #[] vs.toArray)
 |agg {cs:List R} {vs:List Value} (ar:(D vs)=D cs) (aa:∀(i:Nat) (d:R) (v:Value),cs[i]?=some d->vs[i]?=some v->bt w aX B d v) :
   bt w aX B (.agg cs) (.agg vs.toArray)
 |cM {cs:List R} {vs:List Value} (ar:(D vs)=D cs) (aa:∀(i:Nat) (d:R) (v:Value),cs[i]?=some d->vs[i]?=some v->bt w aX B d v) :
   bt w aX B (.cM cs) (.tuple vs.toArray)
 |no:bt w aX B .no undef
 |undef {v:Value}:bt w aX B .undef v
def b6 (A:Nat->Prop)(B:Lay)(b:Nat):Prop:=sl B b\/A b
structure Trans (A:Nat->Prop) (w:World) (B:Lay) (aQ:World) (bu:Lay):Prop where
 size:w.heap.size<=aQ.heap.size
 JC:∀b,b<w.heap.size->¬ b6 A B b->aQ.heap[b]?=w.heap[b]?/\¬ sl bu b
 key:∀k e,B k=some e->∃e',bu k=some e'/\(e'=e\/e.g<e'.g)
theorem Trans.refl (A:Nat->Prop)(w:World)(B:Lay):Trans A w B w B :=
 ⟨b1 _,λ_ _ h=>⟨rfl,λbM=>h (.inl bM)⟩,λ_ e he=>⟨e,he,.inl rfl⟩⟩
theorem Trans.trans {A:Nat->Prop}{w w1 nm:World}{B Bh Dg:Lay}(h:Trans A w B w1 Bh)(cy:Trans A w1 Bh nm Dg):Trans A w B nm Dg:=by
 refine⟨eU h.size cy.size,λb ag bM=>?_,λk e he=>?_⟩
 ·obtain⟨F,I⟩:=h.JC b ag bM;obtain⟨af,aO⟩:=cy.JC b (Dh ag h.size) (λO=>O.elim I λaN=>bM (.inr aN));exact⟨af.trans F,aO⟩
 ·obtain⟨az,aoi,aR⟩:=h.key k e he;obtain⟨aD,fs,pd⟩:=cy.key k az aoi;refine⟨aD,fs,?_⟩;rcases aR with rfl|aR<;>rcases pd with rfl|pd
  ·exact .inl rfl
  ·exact .inr pd
  ·exact .inr aR
  ·exact .inr (Nat.lt_trans aR pd)
theorem Den.trans {A:Nat->Prop}{w aQ:World}{B bu:Lay}(t:Trans A w B aQ bu){d:Data}{v:Value}(h:Den w (b6 A B) d v):Den aQ (b6 A bu) d v :=
 h.rb t.size λb ag bM=>⟨(t.JC b ag bM).1,λO=>O.elim (t.JC b ag bM).2 λaN=>bM (.inr aN)⟩
theorem bt.rb {A:Nat->Prop}{w aQ:World}{B bu:Lay}(t:Trans A w B aQ bu){m:R}{v:Value}(h:bt w (b6 A B) B m v):bt aQ (b6 A bu) bu m v:=by
 induction h with
 |J h=>exact .J (h.trans t)
 |nil=>exact .nil
 | @ref k g sz off len e v he bc ak =>
  obtain⟨e',gg,aR⟩:=t.key k e he;rcases aR with rfl|aR
  ·exact .ref gg bc ak
  ·exact .ref gg (by omega) (ak.JB (by omega))
 | @ptr k g off e v he bc ak =>
  obtain⟨e',gg,aR⟩:=t.key k e he;rcases aR with rfl|aR
  ·exact .ptr gg bc ak
  ·exact .ptr gg (by omega) (ak.JB (by omega))
 |fz ar aa ay=>exact .fz ar ay
 |agg ar aa ay=>exact .agg ar ay
 |cM ar aa ay=>exact .cM ar ay
 |no=>exact .no
 |undef=>exact .undef
abbrev Mem:=Key->Option (Nat×List R)
def emp:Mem:=λ_=>none
def a1 (m:Mem)(k:Key)(g:Nat)(cs:List R):Mem:=λj=>if j=k then some (g,cs) else m j
def bX (m:Mem)(k:Key):Nat:=match m k with
 |none=>0
 |some (g,_)=>g+1
structure fp (A:Nat->Prop) (w:World) (B:Lay) (mem:Mem):Prop where
 Bi:∀k,mem k=none->B k=none
 inj:∀k k' e e' b,B k=some e->B k'=some e'->e.df=some b->e'.df=some b->k=k'
 sep:∀b,A b->¬ sl B b
 lt:∀b,A b->b<w.heap.size
 df:∀k g cs,mem k=some (g,cs)->∃e,B k=some e/\e.g=g/\(e.df=none->cs=[]) /\
  ∀b,e.df=some b->∃vs T,w.heap[b]?=some (.cells vs T (0,0))/\vs.size=e.size/\D cs<=vs.size /\
   ∀(i:Nat) (m:R),cs[i]?=some m->∃v,vs[i]?=some v/\bt w (b6 A B) B m v
theorem fp.x1 {A:Nat->Prop}{w:World}{B:Lay}{mem:Mem}(h:fp A w B mem){b:Nat}(ag:sl B b):b<w.heap.size:=by
 obtain⟨k,e,he,ag⟩:=ag
 cases hm:mem k with
 |none=>rw[h.Bi k hm] at he;cases he
 |some x =>
  obtain⟨g,cs⟩:=x;obtain⟨e',gg,_,_,aR⟩:=h.df k g cs hm;rw[gg] at he
  cases he;obtain⟨vs,T,ak,_⟩:=aR b ag;exact (Array.getElem?_eq_some_iff.1 ak).1
structure Fr (u5:Nat->Prop) (ez w:World):Prop where
 os:w.os=ez.os
 tape:w.tape=ez.tape
 output:w.output=ez.output
 size:ez.heap.size<=w.heap.size
 block:∀g,g<ez.heap.size->¬ u5 g->w.heap[g]?=ez.heap[g]?
theorem Fr.refl (u5:Nat->Prop)(w:World):Fr u5 w w:=⟨rfl,rfl,rfl,b1 _,λ_ _ _=>rfl⟩
theorem Fr.drew {u5:Nat->Prop}{ez w:World}(h:Fr u5 ez w)(n:Nat):Fr u5 ez { w with drawn:=n }:=⟨h.os,h.tape,h.output,h.size,h.block⟩
theorem Fr.alloc {u5:Nat->Prop}{ez w:World}(h:Fr u5 ez w)(o:Obj):Fr u5 ez (w.alloc o) :=
 ⟨h.os,h.tape,h.output,by simp;have:=h.size;omega,λg bc fG=>(RowKit.Below.heap_alloc w o g (by have:=h.size;omega)).trans (h.block g bc fG)⟩
theorem Fr.below {ez w:World}(h:Fr (λ_=>False) ez w):RowKit.Below ez.heap.size ez w:=⟨h.os,h.tape,h.output,h.size,λg bc=>h.block g bc id⟩
inductive bU where
 |t (s:Nat)
 |c (m:R)
 deriving Inhabited
inductive kg where
 |cN (x:bU)
 |pick (c a b:bU)
 |alloc (k:Key) (z:List R)
 |box (k:Key) (x:bU)
 |build (z:List R) (parts:List (Nat×Nat×bU))
 |eQ (k:Key) (own:Bool) (z:List R) (sz len:Nat) (parts:List (Nat×Nat×bU))
 |load (n:Nat) (dY:Bool) (x:bU)
 |store (n:Nat) (x v:bU)
 |bin (op:BinOp) (x y:bU)
 |beq (neg:Bool) (x y:bU)
 |eqs (neg:Bool) (gT:List Nat) (x y:bU)
 |re (neg:Bool) (x:bU)
 |un (op:UnOp) (x:bU)
 |conv (k:IntKind) (x:bU)
 |sm (x:bU)
 |mz (k:Key) (z:List R) (bytes:Nat) (len cap:bU)
 |eu (off:Nat) (x:bU)
 |Di (off n:Nat) (dY:Bool) (x:bU)
 |nn (sz:Nat) (x i:bU)
 |pe (len sz:Nat) (x i:bU)
 |idxs (x i:bU)
 |oF (sz:Nat) (x:bU) (cz M kh:Option bU)
 |tk (len sz:Nat) (x:bU) (cz M kh:Option bU)
 |Dj (x:bU) (cz M:Option bU)
 |ext (i:Nat) (x:bU)
 |len (x:bU)
 |lens (x:bU)
 |app (k:Key) (z:List R) (bytes:Nat) (s x:bU)
 |sn (sz:Nat) (d x:bU)
 |iO (kh:Bool) (x y:bU)
 |call (f:FuncId) (args:List bU)
 |oG (k:Key) (sz:Nat) (f:FuncId) (args:List bU)
 |jH (f:bU) (args:List bU)
 |mA (cz:Nat) (f:FuncId) (args:List bU)
 |tl (j:Nat) (f:FuncId) (args:List bU)
 |sq (j:Nat) (f:FuncId) (args:List bU)
 |sr (z:List R) (x:bU)
 |pL (f:FuncId) (eT:List bU)
 |bad
 deriving Inhabited
structure c9 where
 dst:Option Nat
 g:Option (Nat×Bool)
 op:kg
 deriving Inhabited
inductive NX where
 |np (s:Nat) (k:Key) (sz:Nat)
 |NY (x:bU) (i:Nat) (k:Key) (sz:Nat)
 |freeze (s:Nat)
 |NZ (x:bU) (i:Nat)
 |move
 |many
 deriving Inhabited
inductive eC where
 |skip
 |ops (l:List c9)
 |nX (l:List c9) (c:List (List Nat))
 |seq (a b:eC)
 |cond (c:bU) (a b:eC)
 |block (id:Nat) (c:eC)
 |loop (c:eC)
 |exit (id:Nat)
 |ret
 |ghost (g:NX) (c:eC)
 deriving Inhabited
inductive oH where
 |t (s:Nat)
 |cell (s n:Nat) (dY:Bool)
 deriving Inhabited
structure bY where
 n:Nat
 aoj:Nat
 res:List oH
 body:eC
 deriving Inhabited
structure bd where
 tm:Nat->R
 mem:Mem
def e6 (tm:Nat->R)(s:Nat)(m:R):Nat->R:=λt=>if t=s then m else tm t
def put (tm:Nat->R):Option Nat->R->Nat->R
 |some s,m=>e6 tm s m
 |none,_=>tm
@[simp] theorem e7 (tm:Nat->R)(s:Nat)(m:R)(t:Nat):e6 tm s m t=if t=s then m else tm t:=rfl
def ba (tm:Nat->R):bU->R
 |.t s=>tm s
 |.c m=>m
def R.cells:R->List R
 |.agg cs=>cs
 |.J (.agg ds)=>ds.map .J
 |m=>[m]
def R.known:R->Bool
 |.undef=>false
 |_=>true
def R.one:R->Bool
 |.J (.agg _)=>false
 |.J (.cM _)=>false
 |.J _=>true
 |.nil=>true
 |.ref ..=>true
 |.ptr ..=>true
 |.fz ..=>true
 |_=>false
def rf (dY:Bool)(cs:List R):Option R :=
 if dY=true then some (.agg cs) else match cs with
  | [m]=>some m
  |_=>none
def cut (cs:List R)(off n:Nat):Option (List R) :=
 if off+n<=(D cs) then some ((cs.drop off).take n) else none
def kU (cs:List R)(off:Nat)(new:List R):List R:=cs.take off++new++cs.drop (off+D new)
def kC (ba:bU->R)(cells:List R):List (Nat×Nat×bU)->Option (List R)
 | []=>some cells
 |(off,size,x)::rest =>
  if (ba x).known=true/\(ba x).cells.length=size/\off+size<=(D cells) then kC ba (kU cells off (ba x).cells) rest else none
def u6:R->Option Data
 |.J d=>some d
 |.nil=>some (.Y [])
 |_=>none
def chunk (sz:Nat):Nat->List Data->List (List Data)
 |0,_=>[]
 |n+1,l=>l.take sz::chunk sz n (l.drop sz)
def N0 (op:BinOp)(k:IntKind)(a b:Int):Option Data :=
 match op with
 |.add=>some (.int k (k.wrap (a+b)))
 |.sub=>some (.int k (k.wrap (a-b)))
 |.mul=>some (.int k (k.wrap (a*b)))
 |.quo=>if b=0 then none else some (.int k (k.wrap (a.tdiv b)))
 |.rem=>if b=0 then none else some (.int k (a.tmod b))
 |.and=>some (.int k (bits .and k a b))
 |.or=>some (.int k (bits .or k a b))
 |.xor=>some (.int k (bits .xor k a b))
 |.andNot=>some (.int k (bits .andNot k a b))
 |.eql=>some (.bool (a==b))
 |.neq=>some (.bool (a != b))
 |.lss=>some (.bool (a<b))
 |.leq=>some (.bool (a<=b))
 |.gtr=>some (.bool (a>b))
 |.geq=>some (.bool (a>=b))
 |_=>none
def N1 (op:BinOp)(k:IntKind)(a b:Int):Option Data :=
 if b<0 then none else match op with
 |.shl=>some (.int k (k.wrap (a*2^(min b.toNat k.bits))))
 |.shr=>some (.int k (a.fdiv (2^(min b.toNat k.bits))))
 |_=>none
def N2 (op:BinOp)(a b:List UInt8):Option Data :=
 match op with
 |.add=>if (D a)+D b<=maxLen then some (.str (a++b)) else none
 |.eql=>some (.bool (a==b))
 |.neq=>some (.bool (!(a==b)))
 |.lss=>some (.bool (Op.bytesLess a b))
 |.leq=>some (.bool (Op.bytesLess a b||a==b))
 |.gtr=>some (.bool (!(Op.bytesLess a b||a==b)))
 |.geq=>some (.bool (!Op.bytesLess a b))
 |_=>none
def FG:BinOp->Bool
 |.shl=>true
 |.shr=>true
 |_=>false
def JD (op:BinOp)(x y:R):Option R :=
 match x,y with
 |.J (.int k a),.J (.int k' b)=>if FG op=true then (N1 op k a b).map .J else if k=k' then (N0 op k a b).map .J else none
 |.J (.str a),.J (.str b)=>(N2 op a b).map .J
 |_,_=>none
def JE (neg:Bool):R->R->Option R
 |.J (.bool a),.J (.bool b)=>some (.J (.bool (neg != (a==b))))
 |_,_=>none
def N3:Nat->R->R->Option Bool
 |0,.J (.bool a),.J (.bool b)=>some (a==b)
 |1,.J (.int k a),.J (.int k' b)=>if k=k' then some (a==b) else none
 |2,.J (.str a),.J (.str b)=>some (a==b)
 |_,_,_=>none
def Bj:List Nat->List R->List R->Option Bool
 | [],[],[]=>some true
 |k::gT,a::x,b::y=>match N3 k a b,Bj gT x y with
  |some c,some d=>some (c&&d)
  |_,_=>none
 |_,_,_=>none
def JF (op:UnOp)(x:R):Option R :=
 match op,x with
 |.neg,.J (.int k n)=>some (.J (.int k (k.wrap (0-n))))
 |.xor,.J (.int k n)=>some (.J (.int k (bits .xor k (if k.signed then -1 else k.max) n)))
 |.not,.J (.bool b)=>some (.J (.bool !b))
 |_,_=>none
def idx:R->Option Nat
 |.J (.int _ n)=>if 0<=n then some n.toNat else none
 |_=>none
def jI (d:Nat):Option R->Option Nat
 |none=>some d
 |some x=>idx x
def qo:R->Option Nat
 |.J (.Y es)=>some (D es)
 |.nil=>some 0
 |.ref _ _ _ _ n=>some n
 |_=>none
def qp (mem:Mem)(n:Nat)(dY:Bool):R->Option R
 |.ptr k g off=>match mem k with
  |some (c8,cs)=>if c8=g then (cut cs off n).bind (rf dY) else none
  |none=>none
 |.J (.ptr ds)=>(cut (ds.map .J) 0 n).bind (rf dY)
 |_=>none
def zq:R->Option Nat
 |.J (.str s)=>some (D s)
 |_=>none
def FH:R->R->R->Option R
 |.J (.bool t),a,b=>some (if t=true then a else b)
 |_,_,_=>none
def JG (z:List R)(sz len:Nat)(x:Option (List R)):Option R :=
 if (D z)=len*sz then (match x with
  |some cs=>(cs.mapM u6).map λds => .J (.Y (chunk sz len ds))
  |none=>none) else none
def JH:R->Option (List R)
 |.agg cs=>some cs
 |.J (.agg ds)=>some (ds.map .J)
 |_=>none
def JI (neg:Bool)(gT:List Nat)(a b:R):Option R:=match JH a,JH b with
 |some x,some y=>(match Bj gT x y with
  |some c=>some (.J (.bool (neg != c)))
  |none=>none)
 |_,_=>none
def JJ (k:IntKind):R->Option R
 |.J (.int _ n)=>some (.J (.int k (k.wrap n)))
 |_=>none
def JK:R->Option R
 |.ptr k g off=>some (.ptr k g off)
 |.J (.ptr ds)=>some (.J (.ptr ds))
 |_=>none
def JL (off:Nat):R->Option R
 |.ptr k g o=>some (.ptr k g (o+off))
 |.J (.ptr ds)=>if off<=(D ds) then some (.J (.ptr (ds.drop off))) else none
 |_=>none
def JM (off n:Nat)(dY:Bool):R->Option R
 |.agg cs=>(cut cs off n).bind (rf dY)
 |.J (.agg ds)=>(cut (ds.map .J) off n).bind (rf dY)
 |_=>none
def zr (sz n:Nat):R->Option R
 |.ref k g ev off len=>if n<len/\ev=sz then some (.ptr k g (off+n*sz)) else none
 |.J (.Y es)=>match es[n]? with
  |some e=>if (D e)=sz then some (.J (.ptr e)) else none
  |none=>none
 |_=>none
def JN (len sz n:Nat):R->Option R
 |.ptr k g off=>if n<len then some (.ptr k g (off+n*sz)) else none
 |.J (.ptr ds)=>if n<len/\n*sz<=(D ds) then some (.J (.ptr (ds.drop (n*sz)))) else none
 |_=>none
def JO (n:Nat):R->Option R
 |.J (.str s)=>(s[n]?).map λb => .J (.int .u8 b.toNat)
 |_=>none
def nY (sz:Nat)(es:List (List Data)):Bool:=es.all λe=>D e==sz
def JP (sz l h:Nat):R->Option R
 |.J (.Y es)=>if l<=h/\h<=D es/\nY sz es=true then some (.J (.Y ((es.take h).drop l))) else none
 |.nil=>if l=0/\h=0 then some .nil else none
 |.ref k g ev off len=>if ev=sz/\l<=h/\h<=len then some (.ref k g sz (off+l*sz) (h-l)) else none
 |_=>none
def JQ (sz l h m:Nat):R->Option R
 |.J (.Y es)=>if l<=h/\h<=m/\m<=D es/\nY sz es=true then (if m=l then some .nil else some (.J (.Y ((es.take h).drop l)))) else none
 |.nil=>if l=0/\h=0/\m=0 then some .nil else none
 |.ref _ _ _ _ len=>if l<=h/\h<=m/\m<=len/\m=l then some .nil else none
 |_=>none
def JR (l h:Nat):R->Option R
 |.J (.str s)=>if l<=h/\h<=(D s) then some (.J (.str ((s.take h).drop l))) else none
 |_=>none
def JS (i:Nat):R->Option R
 |.cM vs=>vs[i]?
 |.J (.cM ds)=>(ds[i]?).map .J
 |_=>none
def JT (kh:Bool):R->R->Option R
 |.J (.int k a),.J (.int k' b)=>if k=k' then some (.J (.int k (if kh=true then (if b>a then b else a) else (if b<a then b else a)))) else none
 |_,_=>none
def h1 (x:Option Nat)(f:Nat->Option R):Option R:=match x with
 |some n=>f n
 |none=>none
def kV (tm:Nat->R):kg->Option R
 |.cN x=>some (ba tm x)
 |.pick c a b=>FH (ba tm c) (ba tm a) (ba tm b)
 |.build z parts=>(kC (ba tm) z parts).map .agg
 |.eQ _ false z sz len parts=>JG z sz len (kC (ba tm) z parts)
 |.bin op x y=>JD op (ba tm x) (ba tm y)
 |.beq neg x y=>JE neg (ba tm x) (ba tm y)
 |.eqs neg gT x y=>JI neg gT (ba tm x) (ba tm y)
 |.un op x=>JF op (ba tm x)
 |.conv k x=>JJ k (ba tm x)
 |.sm x=>JK (ba tm x)
 |.eu off x=>JL off (ba tm x)
 |.Di off n dY x=>JM off n dY (ba tm x)
 |.nn sz x i=>h1 (idx (ba tm i)) λn=>zr sz n (ba tm x)
 |.pe len sz x i=>h1 (idx (ba tm i)) λn=>JN len sz n (ba tm x)
 |.idxs x i=>h1 (idx (ba tm i)) λn=>JO n (ba tm x)
 |.oF sz x cz M none=>h1 (jI 0 (cz.map (ba tm))) λl=>h1 (qo (ba tm x)) λlen=>h1 (jI len (M.map (ba tm))) λh=>JP sz l h (ba tm x)
 |.oF sz x cz (some M) (some kh)=>h1 (jI 0 (cz.map (ba tm))) λl=>h1 (idx (ba tm M)) λh=>h1 (idx (ba tm kh)) λm=>JQ sz l h m (ba tm x)
 |.Dj x cz M=>h1 (jI 0 (cz.map (ba tm))) λl=>h1 (zq (ba tm x)) λlen=>h1 (jI len (M.map (ba tm))) λh=>JR l h (ba tm x)
 |.ext i x=>JS i (ba tm x)
 |.len x=>h1 (qo (ba tm x)) λn=>some (.J (.int .i64 n))
 |.lens x=>h1 (zq (ba tm x)) λn=>some (.J (.int .i64 n))
 |.iO kh x y=>JT kh (ba tm x) (ba tm y)
 |.pL f eT=>some (.fz f (eT.map (ba tm)))
 |_=>none
def Tc (k:Key)(g off len sz l h:Nat):Option (Nat×List R)->Option R
 |some (c8,cs)=>if c8=g/\l<=h/\h<=len/\off+len*sz<=(D cs) then some (.ref k g sz (off+l*sz) (h-l)) else none
 |none=>none
def Bk (mem:Mem)(len sz l h:Nat):R->Option R
 |.ptr k g off=>Tc k g off len sz l h (mem k)
 |_=>none
def qq (mem:Mem)(sz:Nat):R->Option (Nat×List R)
 |.J (.Y es)=>if nY sz es=true then some (D es,es.flatten.map R.J) else none
 |.nil=>some (0,[])
 |.ref k g ev off len=>if ev=sz then (match mem k with
  |some (c8,cs)=>if c8=g then (cut cs off (len*sz)).map λcs=>(len,cs) else none
  |none=>none) else none
 |_=>none
abbrev Out:=Option (R×Option (Key×Nat×List R))
def jf (x:Option R):Out:=match x with
 |some m=>some (m,none)
 |none=>none
def FI (k:Key)(g:Nat)(z:List R)(sz len:Nat)(x:Option (List R)):Out :=
 if (D z)=len*sz then (match x with
  |some cs=>some (.ref k g sz 0 len,some (k,g,cs))
  |none=>none) else none
def FJ (k:Key)(g:Nat)(z:List R)(bytes:Nat)(n c:Nat):Out :=
 if n=c/\bytes*n<=140737488355328/\n<=maxLen then some (.ref k g (D z) 0 n,some (k,g,(dG n z).flatten)) else none
def JU (x y:Option Nat)(f:Nat->Nat->Out):Out:=match x,y with
 |some n,some m=>f n m
 |_,_=>none
def JV (n:Nat)(k:Key)(g off:Nat)(v:List R)(x:Option (Nat×List R)):Out:=match x with
 |some (c8,cs)=>if c8=g/\D v=n/\off+n<=D cs/\v.all R.one=true then some (.no,some (k,g,kU cs off v)) else none
 |none=>none
def x2 (mem:Mem)(n:Nat):R->List R->Out
 |.ptr k g off,v=>JV n k g off v (mem k)
 |_,_=>none
def kW (k:Key)(g:Nat)(sz len bytes:Nat)(m:Nat)(new:List R)(x:Option (Nat×List R)):Out:=match x with
 |some (c8,cs)=>if c8=g/\len*sz<=D cs/\(len+m)*bytes<=140737488355328/\len+m<=maxLen/\new.all R.one=true
   then some (.ref k (g+1) sz 0 (len+m),some (k,g+1,cs.take (len*sz)++new)) else none
 |none=>none
def rh (mem:Mem)(k:Key)(z:List R)(bytes:Nat):R->Option (Nat×List R)->Out
 |.nil,some (m,new)=>if m*bytes<=140737488355328/\m<=maxLen/\new.all R.one=true then some (.ref k (bX mem k) (D z) 0 m,some (k,bX mem k,new)) else none
 |.ref k' g ev off len,some (m,new)=>if ev=D z/\off=0 then kW k' g ev len bytes m new (mem k') else none
 |_,_=>none
def Bl (k:Key)(g sz off len:Nat)(m:Nat)(new:List R)(x:Option (Nat×List R)):Out:=match x with
 |some (c8,cs)=>if c8=g/\off+len*sz<=D cs/\new.all R.one=true then some (.J (.int .i64 ((min m len:Nat):Int)),some (k,g,kU cs off (new.take (min m len*sz)))) else none
 |none=>none
def wG (mem:Mem)(sz:Nat):R->Option (Nat×List R)->Out
 |.ref k g ev off len,some (m,new)=>if ev=sz then Bl k g sz off len m new (mem k) else none
 |_,_=>none
def N4 (z:List R)(k:Key)(g off len:Nat)(x:Option (Nat×List R)):Out:=match x with
 |some (c8,cs)=>if c8=g/\off+len*D z<=D cs/\z.all R.one=true then some (.cM [],some (k,g,kU cs off (dG len z).flatten)) else none
 |none=>none
def x3 (mem:Mem)(z:List R):R->Out
 |.ref k g sz off len=>if sz=(D z) then N4 z k g off len (mem k) else none
 |_=>none
def ct (mem:Mem)(tm:Nat->R):kg->Out
 |.alloc k z=>some (.ptr k (bX mem k) 0,some (k,bX mem k,z))
 |.box k x=>if (ba tm x).known=true then some (.ptr k (bX mem k) 0,some (k,bX mem k,(ba tm x).cells)) else none
 |.eQ k true z sz len parts=>FI k (bX mem k) z sz len (kC (ba tm) z parts)
 |.mz k z bytes len cap=>JU (idx (ba tm len)) (idx (ba tm cap)) (FJ k (bX mem k) z bytes)
 |.load n dY x=>jf (qp mem n dY (ba tm x))
 |.tk len sz x cz M none=>jf (h1 (jI 0 (cz.map (ba tm))) λl=>h1 (jI len (M.map (ba tm))) λh=>Bk mem len sz l h (ba tm x))
 |.store n x v=>x2 mem n (ba tm x) (ba tm v).cells
 |.app k z bytes s x=>rh mem k z bytes (ba tm s) (qq mem (D z) (ba tm x))
 |.sn sz d x=>wG mem sz (ba tm d) (qq mem sz (ba tm x))
 |.sr z x=>x3 mem z (ba tm x)
 |op=>jf (kV tm op)
inductive g0 where
 |same (r:Data)
 |own (sz:Nat) (es:List (List Data))
 |rel (cg:R->Mem->Prop)
 |e6 (r:Data) (k:Key) (g i:Nat) (c:R)
 |zs (r:Data) (k:Key)
abbrev bl:=FuncId->List R->Mem->Option g0
def ig (mem:Mem):Option (Key×Nat×List R)->Mem
 |none=>mem
 |some (k,g,cs)=>a1 mem k g cs
def ri (mem:Mem)(k:Key):List R:=match mem k with
 |some (_,cs)=>cs
 |none=>[]
def u7 (T:bl)(K:bd->Prop)(st:bd)(dst:Option Nat)(f:FuncId)(args:List R):Prop :=
 match T f args st.mem with
 |some (.same r)=>K ⟨put st.tm dst (.J r),st.mem⟩
 |some (.own _ es)=>K ⟨put st.tm dst (.J (.Y es)),st.mem⟩
 |some (.rel cg)=>∀r mem',cg r mem'->K ⟨put st.tm dst r,mem'⟩
 |some (.e6 r k g i c)=>K ⟨put st.tm dst (.J r),a1 st.mem k g ((ri st.mem k).set i c)⟩
 |some (.zs r k)=>K ⟨put st.tm dst (.J r),a1 st.mem k (bX st.mem k) []⟩
 |none=>False
def Dk:R->Option Bool
 |.J (.Y es)=>some (!es.isEmpty)
 |.nil=>some false
 |.ref _ _ _ _ len=>some (decide (0<len))
 |_=>none
def gy (T:bl)(K:bd->Prop)(i:c9)(st:bd):Prop :=
 match i.op with
 |.call f args=>u7 T K st i.dst f (args.map (ba st.tm))
 |.oG k sz f args=>match T f (args.map (ba st.tm)) st.mem with
  |some (.own ev es)=>if ev=sz then K ⟨put st.tm i.dst (.ref k (bX st.mem k) sz 0 (D es)),a1 st.mem k (bX st.mem k) (es.flatten.map .J)⟩ else False
  |_=>False
 |.jH f args=>match ba st.tm f with
  |.fz g eT=>u7 T K st i.dst g (args.map (ba st.tm)++eT)
  |.J (.fn g ds)=>u7 T K st i.dst g (args.map (ba st.tm)++ds.map .J)
  |_=>False
 |.re neg x=>match Dk (ba st.tm x) with
  |some full=>∀b:Bool,(full=true->b=false)->K ⟨put st.tm i.dst (.J (.bool (neg != b))),st.mem⟩
  |none=>False
 |op=>match ct st.mem st.tm op with
  |some (m,e)=>K ⟨put st.tm i.dst m,ig st.mem e⟩
  |none=>False
def pf (tm:Nat->R):Option (Nat×Bool)->Option Bool
 |none=>some true
 |some (s,b)=>match tm s with
  |.J (.bool t)=>some (t==b)
  |.no=>some false
  |_=>none
def x4 (T:bl)(K:bd->Prop):List c9->bd->Prop
 | [],st=>K st
 |i::r,st=>match pf st.tm i.g with
  |none=>False
  |some g=>if g=true then gy T (x4 T K r) i st else x4 T K r ⟨put st.tm i.dst .no,st.mem⟩
def keyOf:R->List Key
 |.ref k ..=>[k]
 |.ptr k ..=>[k]
 |_=>[]
inductive nq where
 |hv (k:Key)
 |rd (k:Key) (a b:Nat)
 |wr (k:Key) (i:Nat)
def nq.key:nq->Key
 |.hv k=>k
 |.rd k _ _=>k
 |.wr k _=>k
def rj:nq->nq->Bool
 |.hv k,.hv k' => !(k==k')
 |.hv k,.rd k' _ _ => !(k==k')
 |.rd k _ _,.hv k' => !(k==k')
 |.rd _ _ _,.rd _ _ _=>true
 |.rd k a b,.wr k' i => !(k==k')||(decide (i<a)||decide (b<=i))
 |.wr k' i,.rd k a b => !(k==k')||(decide (i<a)||decide (b<=i))
 |.wr _ _,.wr _ _=>false
 |.hv _,.wr _ _=>false
 |.wr _ _,.hv _=>false
def FK (n:Nat):R->List nq
 |.ref k ..=>[.hv k]
 |.ptr k _ off=>[.rd k off (off+n)]
 |_=>[]
def JW (cz:Nat):List R->List nq
 |.ptr k _ off::_=>[.wr k (off+cz)]
 |_=>[]
def wH:Option R->List nq
 |some (.ref k ..)=>[.hv k]
 |_=>[]
def dL (tm:Nat->R):kg->List nq
 |.load n _ x=>FK n (ba tm x)
 |.tk _ _ x _ _ _=>(keyOf (ba tm x)).map .hv
 |.store _ x _=>(keyOf (ba tm x)).map .hv
 |.alloc k _=>[.hv k]
 |.box k _=>[.hv k]
 |.eQ k true _ _ _ _=>[.hv k]
 |.mz k _ _ _ _=>[.hv k]
 |.oG k _ _ _=>[.hv k]
 |.app k _ _ s x => .hv k::((keyOf (ba tm s)).map .hv++(keyOf (ba tm x)).map .hv)
 |.sn _ d x=>(keyOf (ba tm d)).map .hv++(keyOf (ba tm x)).map .hv
 |.mA cz _ args=>JW cz (args.map (ba tm))
 |.tl j _ args=>wH (args.map (ba tm))[j]?
 |.sq j _ args=>wH (args.map (ba tm))[j]?
 |.sr _ x=>(keyOf (ba tm x)).map .hv
 |_=>[]
def jJ:kg->Bool
 |.store ..=>true
 |.alloc ..=>true
 |.box ..=>true
 |.eQ _ true _ _ _ _=>true
 |.mz ..=>true
 |.oG ..=>true
 |.app ..=>true
 |.sn ..=>true
 |.mA ..=>true
 |.tl ..=>true
 |.sq ..=>true
 |.sr ..=>true
 |_=>false
def shut:R->R
 |.J d => .J d
 |.nil => .nil
 |.fz f [] => .fz f []
 |.agg cs=>match cs.mapM u6 with
  |some ds => .J (.agg ds)
  |none => .undef
 |_ => .undef
def FL (cz:Nat)(mem:Mem):List R->Option g0->Option (R×Option (Key×Nat×List R))
 |.ptr k _ off::_,some (.e6 r k' c8 i c)=>match mem k with
  |some (g,cs)=>if k'=k/\c8=g/\i=off+cz then some (.J r,some (k,g,cs.set i c)) else none
  |none=>none
 |_,_=>none
def Td (cs:List R):Option (List Data):=cs.mapM u6
def JX (sz off len:Nat)(cs:List R):Option Data:=match cut cs off (len*sz) with
 |some part=>(Td part).map λds => .Y (chunk sz len ds)
 |none=>none
def N5:Option g0->Option Data
 |some (.same r)=>some r
 |some (.own _ es)=>some (.Y es)
 |_=>none
def Te (T:bl)(j:Nat)(f:FuncId)(ms:List R)(k:Key)(g sz off len:Nat):Option (Nat×List R)->Option (R×Option (Key×Nat×List R))
 |some (c8,cs)=>if c8=g then (match JX sz off len cs with
  |some d=>(match N5 (T f (ms.set j (.J d)) emp) with
   |some r=>some (.J r,some (k,c8+1,[]))
   |none=>none)
  |none=>none) else none
 |none=>none
def JY (T:bl)(mem:Mem)(j:Nat)(f:FuncId)(ms:List R):Option R->Option (R×Option (Key×Nat×List R))
 |some (.ref k g sz off len)=>Te T j f ms k g sz off len (mem k)
 |_=>none
def nZ (cs:List R):Bool:=cs.all λm=>(u6 m).isSome
def Tf (T:bl)(j:Nat)(f:FuncId)(ms:List R)(k:Key)(g sz off len:Nat):Option (Nat×List R)->Option (R×Option (Key×Nat×List R))
 |some (c8,cs)=>if nZ cs=true then (match T f (ms.set j (.ref k g sz off len)) (a1 emp k c8 cs) with
  |some (.zs r k')=>if k'=k then some (.J r,some (k,c8+1,[])) else none
  |_=>none) else none
 |none=>none
def JZ (T:bl)(mem:Mem)(j:Nat)(f:FuncId)(ms:List R):Option R->Option (R×Option (Key×Nat×List R))
 |some (.ref k g sz off len)=>Tf T j f ms k g sz off len (mem k)
 |_=>none
def hx (T:bl)(mem:Mem)(tm:Nat->R):kg->Option (R×Option (Key×Nat×List R))
 |.call f args=>match T f (args.map λx=>shut (ba tm x)) emp with
  |some (.same r)=>some (.J r,none)
  |some (.own _ es)=>some (.J (.Y es),none)
  |_=>none
 |.oG k sz f args=>match T f (args.map λx=>shut (ba tm x)) emp with
  |some (.own ev es)=>if ev=sz then some (.ref k (bX mem k) sz 0 (D es),some (k,bX mem k,es.flatten.map .J)) else none
  |_=>none
 |.jH ..=>none
 |.re ..=>none
 |.mA cz f args=>FL cz mem (args.map (ba tm)) (T f (args.map (ba tm)) mem)
 |.tl j f args=>JY T mem j f (args.map λx=>shut (ba tm x)) (args.map (ba tm))[j]?
 |.sq j f args=>JZ T mem j f (args.map λx=>shut (ba tm x)) (args.map (ba tm))[j]?
 |op=>ct mem tm op
abbrev Rec:=Nat->Option (Bool×List nq)
def rk (a b:Bool×List nq):Bool:=!(a.1||b.1)||a.2.all λx=>b.2.all λy=>rj x y
def FM (rec:Rec)(p:Bool×List nq)(c:List Nat):Bool:=c.all λi=>match rec i with
 |none=>true
 |some q=>rk q p
def u9 (rec:Rec)(n:Nat)(p:Bool×List nq):Rec:=λi=>if i=n then some p else rec i
def wI (T:bl)(K:bd->Prop):Nat->List c9->List (List Nat)->Rec->bd->Prop
 |_,[],_,_,st=>K st
 |n,i::r,cs,rec,st=>match pf st.tm i.g with
  |none=>False
  |some g=>if g=true then (match hx T st.mem st.tm i.op with
    |some (m,e)=>FM rec (jJ i.op,dL st.tm i.op) (cs.headD [])=true/\wI T K (n+1) r cs.tail (u9 rec n (jJ i.op,dL st.tm i.op)) ⟨put st.tm i.dst m,ig st.mem e⟩
    |none=>False) else wI T K (n+1) r cs.tail rec ⟨put st.tm i.dst .no,st.mem⟩
inductive e3 where
 |normal
 |exit (id:Nat)
 |ret
def cl:Nat->Mem->R->Option Data
 |_,_,.J d=>some d
 |_,_,.nil=>some (.Y [])
 |0,_,_=>none
 |n+1,mem,.ref k g sz off len=>match mem k with
  |some (c8,cs)=>if c8=g then (match cut cs off (len*sz) with
   |some part=>(part.mapM (cl n mem)).map λds => .Y (chunk sz len ds)
   |none=>none) else none
  |none=>none
 |n+1,mem,.ptr k g off=>match mem k with
  |some (c8,cs)=>if c8=g/\off<=(D cs) then ((cs.drop off).mapM (cl n mem)).map .ptr else none
  |none=>none
 |n+1,mem,.fz f cs=>(cs.mapM (cl n mem)).map (.fn f)
 |n+1,mem,.agg cs=>(cs.mapM (cl n mem)).map .agg
 |n+1,mem,.cM cs=>(cs.mapM (cl n mem)).map .cM
 |_,_,.no=>none
 |_,_,.undef=>none
def kill (mem:Mem)(k:Key):Mem:=a1 mem k (bX mem k) []
inductive ss (mem:Mem):Mem->Prop
 |N6 (fQ g1:Nat) (gI:List R) (i k g sz off len:Nat) (cs:List R) (k':Nat) (F:mem fQ=some (g1,gI)) (I:gI[i]?=some (.ref k g sz off len)) (af:mem k=some (g,cs)) (aO:k≠fQ) (br:k'≠k) (bR:k'≠fQ) :
   ss mem (a1 (a1 (a1 mem k (bX mem k) []) k' (bX mem k') cs) fQ g1 (gI.set i (.ref k' (bX mem k') sz off len)))
 |acX (fQ g1:Nat) (gI:List R) (i k g off:Nat) (cs:List R) (k':Nat) (F:mem fQ=some (g1,gI)) (I:gI[i]?=some (.ptr k g off)) (af:mem k=some (g,cs)) (aO:k≠fQ) (br:k'≠k) (bR:k'≠fQ) :
   ss mem (a1 (a1 (a1 mem k (bX mem k) []) k' (bX mem k') cs) fQ g1 (gI.set i (.ptr k' (bX mem k') off)))
 |N7 (fQ g1:Nat) (gI:List R) (i k g sz off len:Nat) (cs:List R) (d:Data) (F:mem fQ=some (g1,gI)) (I:gI[i]?=some (.ref k g sz off len)) (af:mem k=some (g,cs)) (aO:k≠fQ) (br:cl 1 mem (.ref k g sz off len)=some d) :
   ss mem (a1 (kill mem k) fQ g1 (gI.set i (.J d)))
inductive tn:Mem->Mem->Prop
 |refl (mem:Mem):tn mem mem
 |step {mem J0 acY:Mem} (h:ss mem J0) (cy:tn J0 acY):tn mem acY
def kD (K:bd->Prop)(st:bd):NX->Prop
 |.np s k sz=>match st.tm s with
  |.nil=>K ⟨e6 st.tm s (.ref k (bX st.mem k) sz 0 0),a1 st.mem k (bX st.mem k) []⟩
  |_=>False
 |.NY x i k sz=>match ba st.tm x with
  |.ptr kc g off=>match st.mem kc with
   |some (c8,cs)=>if c8=g then (match cs[off+i]? with
    |some .nil=>if k≠kc then K ⟨st.tm,a1 (a1 st.mem k (bX st.mem k) []) kc g (cs.set (off+i) (.ref k (bX st.mem k) sz 0 0))⟩ else False
    |_=>False) else False
   |none=>False
  |_=>False
 |.freeze s=>match st.tm s with
  |.ref k g _ _ _=>match st.mem k with
   |some (c8,cs)=>if c8=g/\nZ cs=true then (match cl 1 st.mem (st.tm s) with
    |some d=>K ⟨e6 st.tm s (.J d),kill st.mem k⟩
    |none=>False) else False
   |none=>False
  |_=>False
 |.NZ x i=>match ba st.tm x with
  |.ptr kc gc off=>match st.mem kc with
   |some (J1,cc)=>if J1=gc then (match cc[off+i]? with
    |some (.ref k g sz o len)=>match st.mem k with
     |some (c8,cs)=>if c8=g/\nZ cs=true/\k≠kc then (match cl 1 st.mem (.ref k g sz o len) with
      |some d=>K ⟨st.tm,a1 (kill st.mem k) kc gc (cc.set (off+i) (.J d))⟩
      |none=>False) else False
     |none=>False
    |_=>False) else False
   |none=>False
  |_=>False
 |.move=>K st\/(∃fQ g1 gI i k g sz off len cs k',st.mem fQ=some (g1,gI)/\gI[i]?=some (.ref k g sz off len)/\st.mem k=some (g,cs)/\k≠fQ/\k'≠k/\k'≠fQ /\
   K ⟨st.tm,a1 (a1 (a1 st.mem k (bX st.mem k) []) k' (bX st.mem k') cs) fQ g1 (gI.set i (.ref k' (bX st.mem k') sz off len))⟩) \/
   ∃fQ g1 gI i k g sz off len cs d,st.mem fQ=some (g1,gI)/\gI[i]?=some (.ref k g sz off len)/\st.mem k=some (g,cs)/\nZ cs=true/\k≠fQ/\cl 1 st.mem (.ref k g sz off len)=some d /\
   K ⟨st.tm,a1 (kill st.mem k) fQ g1 (gI.set i (.J d))⟩
 |.many=>∃mem',tn st.mem mem'/\K ⟨st.tm,mem'⟩
def wp (T:bl):eC->(e3->bd->Prop)->bd->Prop
 |.skip,K,st=>K .normal st
 |.ops l,K,st=>x4 T (K .normal) l st
 |.nX l c,K,st=>wI T (K .normal) 0 l c (λ_=>none) st
 |.seq a b,K,st=>wp T a (λe dS=>match e with
  |.normal=>wp T b K dS
  |e=>K e dS) st
 |.cond c a b,K,st=>match ba st.tm c with
  |.J (.bool t)=>if t=true then wp T a K st else wp T b K st
  |_=>False
 |.block id c,K,st=>wp T c (λe dS=>match e with
  |.exit j=>if j=id then K .normal dS else K (.exit j) dS
  |e=>K e dS) st
 |.loop c,K,st=>∃(Dl:bd->Prop) (μ:bd->Nat),Dl st/\∀st,Dl st->wp T c (λe dS=>match e with
  |.normal=>Dl dS/\μ dS<μ st
  |e=>K e dS) st
 |.exit id,K,st=>K (.exit id) st
 |.ret,K,st=>K .ret st
 |.ghost g c,K,st=>kD (wp T c K) st g
def FN (st:bd):oH->Option R
 |.t s=>some (st.tm s)
 |.cell s n dY=>qp st.mem n dY (st.tm s)
def pM (st:bd)(l:List oH):Option R :=
 match l.mapM (FN st) with
 |some [m]=>some m
 |some ms=>some (.cM ms)
 |none=>none
def lv (args:List R):Nat->R:=λs=>match args[s]? with
 |some m=>m
 |none => .no
def J2:Value->Option R
 |.int k n=>some (.J (.int k n))
 |.bool b=>some (.J (.bool b))
 |.string s=>some (.J (.str s.data.toList))
 |.slice none 0 0=>some .nil
 |.pointer none=>some (.J .u3)
 |.nilFunc=>some (.J .u4)
 |_=>none
def Tg:Value->Option R
 |.agg cs=>(cs.toList.mapM J2).map .agg
 |v=>J2 v
def dO:Operand->Option bU
 |.tmp t=>some (.t t)
 |.const v=>(Tg v).map .c
 |.func f=>some (.c (.fz f []))
 |.global _=>none
def zeroOf (P:Program)(t:TypeId):Option (List R):=((P.info? t).bind (·.zero)).bind λz=>z.cells.toList.mapM J2
def gm (P:Program)(t:TypeId):Option Nat:=(P.info? t).map (·.size)
def FO (P:Program)(t:TypeId):Option Nat:=(P.info? t).map (·.bytes)
def zt (P:Program)(t:TypeId):Option Bool:=(P.underlying t).map fun|.struct _=>true|.array _ _=>true|_=>false
def partsOf (place:Nat->Option (Nat×Nat))(l:List (Nat×Operand)):Option (List (Nat×Nat×bU)) :=
 l.mapM λ(i,x)=>do
  let (o,s) <-place i
  let y <-dO x
  pure (o,s,y)
def va (P:Program)(dP:Array Field)(i:Nat):Option (Nat×Nat):=do
 let f <-dP[i]?
 let s <-gm P f.type
 pure (f.offset,s)
def J3 (P:Program)(t:TypeId):Option Nat :=
 match P.underlying t with
 |some .bool=>some 0
 |some (.int _)=>some 1
 |some .string=>some 2
 |_=>none
def FP (P:Program):Nat->List Field->Option (List Nat)
 |_,[]=>some []
 | i, f :: r => if f.name ≠ "_" /\ f.offset = i then (match J3 P f.type, FP P (i + 1) r with
  |some k,some gT=>some (k::gT)
  |_,_=>none) else none
def wJ (P:Program)(t:TypeId)(dP:Array Field)(neg:Bool)(x y:Operand):Option kg :=
 if P.stoodInHeld t=false/\P.eqGuardType P.depth t=false then (match FP P 0 dP.toList,dO x,dO y with
  |some gT,some x,some y=>some (.eqs neg gT x y)
  |_,_,_=>none) else none
def Th:Operand->Bool
 |.const (.slice none 0 0)=>true
 |_=>false
def zu (P:Program)(op:BinOp)(t:TypeId)(x y:Operand):Option kg :=
 match P.underlying t with
 |some (.int _)=>match dO x,dO y with
  |some x,some y=>some (.bin op x y)
  |_,_=>none
 |some .string=>match dO x,dO y with
  |some x,some y=>some (.bin op x y)
  |_,_=>none
 |some .bool=>match op,dO x,dO y with
  |.eql,some x,some y=>some (.beq false x y)
  |.neq,some x,some y=>some (.beq true x y)
  |_,_,_=>none
 |some (.struct dP)=>match op with
  |.eql=>wJ P t dP false x y
  |.neq=>wJ P t dP true x y
  |_=>none
 |some (.slice _)=>if Th y=true then (match op with
  |.eql=>(dO x).map (.re false)
  |.neq=>(dO x).map (.re true)
  |_=>none) else none
 |_=>none
def tp:Option Operand->Option (Option bU)
 |none=>some none
 |some x=>(dO x).map some
def x5 (P:Program)(kb:Nat)(own:List Nat)(dst:Option Nat)(type:TypeId)(c:Call):Option kg :=
 match c.callee,c.args.toList,c.argTypes.toList with
 |.builtin .len,[x],[t]=>match P.underlying t with
  |some (.slice _)=>(dO x).map .len
  |some .string=>(dO x).map .lens
  |_=>none
 |.builtin .append,[s,x],[t,u]=>match P.underlying t,P.underlying u with
  |some (.slice e),some (.slice _)=>do
   let z <-zeroOf P e
   let b <-FO P e
   let n <-gm P e
   let d <-dst
   let s <-dO s
   let x <-dO x
   if (D z)=n/\0<n/\t=u then pure (.app (kb+d) z b s x) else none
  |_,_=>none
 |.builtin .copy,[d,x],[t,u]=>match P.underlying t,P.underlying u with
  |some (.slice e),some (.slice _)=>do
   let n <-gm P e
   if 0<n then pure (.sn n (<-dO d) (<-dO x)) else none
  |_,_=>none
 |.builtin .clear,[x],[t]=>match P.underlying t with
  |some (.slice e)=>do
   let z <-zeroOf P e
   let n <-gm P e
   if (D z)=n/\0<n then pure (.sr z (<-dO x)) else none
  |_=>none
 |.builtin .max,[x,y],_=>do pure (.iO true (<-dO x) (<-dO y))
 |.builtin .min,[x,y],_=>do pure (.iO false (<-dO x) (<-dO y))
 |.value (.func f),l,_=>if dst.any (λd=>own.contains d) then (match P.underlying type with
   |some (.slice e)=>do pure (.oG (kb+(<-dst)) (<-gm P e) f (<-l.mapM dO))
   |_=>none) else match own.find? (λo=>decide (1000000<=o)&&dst==some (o%1000000)) with
   |some o=>if 1000000000000<=o then do pure (.sq (o/1000000000000-1) f (<-l.mapM dO)) else if 1000000000<=o then do pure (.tl (o/1000000000-1) f (<-l.mapM dO)) else do pure (.mA (o/1000000-1) f (<-l.mapM dO))
   |none=>do pure (.call f (<-l.mapM dO))
 |.value f,l,_=>do pure (.jH (<-dO f) (<-l.mapM dO))
 |_,_,_=>none
def jK (P:Program)(kb:Nat)(own:List Nat)(dst:Option Nat)(type:TypeId):Op->Option kg
 |.move x=>(dO x).map .cN
 |.assign x=>(dO x).map .cN
 |.pick c a b=>do pure (.pick (<-dO c) (<-dO a) (<-dO b))
 |.alloc e=>do pure (.alloc (kb+(<-dst)) (<-zeroOf P e))
 |.box _ x=>do pure (.box (kb+(<-dst)) (<-dO x))
 |.build t ps=>match P.underlying t with
  |some (.struct dP)=>if (dP.toList.all λf=>(gm P f.type).isSome)=true then do pure (.build (<-zeroOf P t) (<-partsOf (va P dP) ps.toList)) else none
  |some (.array _ e)=>do
   let s <-gm P e
   pure (.build (<-zeroOf P t) (<-partsOf (λi=>some (i*s,s)) ps.toList))
  |_=>none
 |.buildSlice t len ps=>match P.underlying t with
  |some (.slice e)=>do
   let z <-zeroOf P e
   let s <-gm P e
   let ps <-partsOf (λi=>some (i*s,s)) ps.toList
   let d <-dst
   if (D z)=s/\0<s/\len*s<=16777216 then pure (.eQ (kb+d) (own.contains d) ((dG len z).flatten) s len ps) else none
  |_=>none
 |.load t x=>do pure (.load (<-gm P t) (<-zt P t) (<-dO x))
 |.store t x v=>do pure (.store (<-gm P t) (<-dO x) (<-dO v))
 |.binOp op t x y _=>zu P op t x y
 |.unOp op _ x=>(dO x).map (.un op)
 |.nilCheck x=>(dO x).map .sm
 |.convert s t x=>match P.underlying s,P.underlying t with
  |some (.int _),some (.int k)=>(dO x).map (.conv k)
  |_,_=>none
 |.makeFunc (.func f) fst eT=>if fst.size=0 then do pure (.pL f (<-eT.toList.mapM dO)) else none
 |.makeSlice t l c=>match P.underlying t with
  |some (.slice e)=>do
   let z <-zeroOf P e
   let s <-gm P e
   let b <-FO P e
   let d <-dst
   if (D z)=s/\0<s then pure (.mz (kb+d) z b (<-dO l) (<-dO c)) else none
  |_=>none
 |.slice t x cz M kh=>match P.underlying t with
  |some (.slice e)=>do
   let s <-gm P e
   if 0<s then pure (.oF s (<-dO x) (<-tp cz) (<-tp M) (<-tp kh)) else none
  |some (.array n e)=>do
   let s <-gm P e
   if 0<s/\n<=16777216 then pure (.tk n s (<-dO x) (<-tp cz) (<-tp M) (<-tp kh)) else none
  |some .string=>if kh.isNone then do pure (.Dj (<-dO x) (<-tp cz) (<-tp M)) else none
  |_=>none
 |.fieldAddr t x f=>match P.underlying t with
  |some (.struct dP)=>do
   let (o,s) <-va P dP f
   if 0<s then pure (.eu o (<-dO x)) else none
  |_=>none
 |.field t x f=>match P.underlying t with
  |some (.struct dP)=>do
   let fd <-dP[f]?
   let (o,s) <-va P dP f
   pure (.Di o s (<-zt P fd.type) (<-dO x))
  |_=>none
 |.indexAddr t x i=>match P.underlying t with
  |some (.slice e)=>do
   let s <-gm P e
   if 0<s then pure (.nn s (<-dO x) (<-dO i)) else none
  |some (.array n e)=>do
   let s <-gm P e
   if 0<s then pure (.pe n s (<-dO x) (<-dO i)) else none
  |_=>none
 |.index t x i=>match P.underlying t with
  |some .string=>do pure (.idxs (<-dO x) (<-dO i))
  |_=>none
 |.extract x i=>(dO x).map (.ext i)
 |.call c=>x5 P kb own dst type c
 |_=>none
def J4 (ops:Array Oper):Option (Nat×Bool)->Option (Option (Nat×Bool))
 |none=>some none
 |some (j,b)=>match (ops[j]?).bind (·.dst) with
  |some s=>some (some (s,b))
  |none=>none
def Bm (P:Program)(n kb:Nat)(own:List Nat)(ops:Array Oper)(o:Oper):Option c9 :=
 match J4 ops o.guard with
 |some g=>if o.dst.all (λd=>decide (d<n))=true then some ⟨o.dst,g,(jK P kb own o.dst o.type o.op).getD .bad⟩ else none
 |_=>none
def su (m:kg):Nat:=match m with
 |.load ..=>1
 |.tk ..=>1
 |m=>if jJ m=true then 2 else 0
def zv (a b:Nat):Bool:=a==0||b==0||(a==1&&b==1)
def fq:bU->List Nat
 |.t s=>[s]
 |.c _=>[]
def x6:Option bU->List Nat
 |some (.t s)=>[s]
 |_=>[]
def sv:kg->List Nat
 |.cN x=>fq x
 |.pick c a b=>fq c++fq a++fq b
 |.alloc _ _=>[]
 |.box _ x=>fq x
 |.build _ ps=>ps.flatMap λp=>fq p.2.2
 |.eQ _ _ _ _ _ ps=>ps.flatMap λp=>fq p.2.2
 |.load _ _ x=>fq x
 |.store _ x v=>fq x++fq v
 |.bin _ x y=>fq x++fq y
 |.beq _ x y=>fq x++fq y
 |.eqs _ _ x y=>fq x++fq y
 |.re _ x=>fq x
 |.un _ x=>fq x
 |.conv _ x=>fq x
 |.sm x=>fq x
 |.mz _ _ _ x y=>fq x++fq y
 |.eu _ x=>fq x
 |.Di _ _ _ x=>fq x
 |.nn _ x i=>fq x++fq i
 |.pe _ _ x i=>fq x++fq i
 |.idxs x i=>fq x++fq i
 |.oF _ x a b c=>fq x++x6 a++x6 b++x6 c
 |.tk _ _ x a b c=>fq x++x6 a++x6 b++x6 c
 |.Dj x a b=>fq x++x6 a++x6 b
 |.ext _ x=>fq x
 |.len x=>fq x
 |.lens x=>fq x
 |.app _ _ _ s x=>fq s++fq x
 |.sn _ s x=>fq s++fq x
 |.iO _ x y=>fq x++fq y
 |.call _ l=>l.flatMap fq
 |.oG _ _ _ l=>l.flatMap fq
 |.jH f l=>fq f++l.flatMap fq
 |.mA _ _ l=>l.flatMap fq
 |.tl _ _ l=>l.flatMap fq
 |.sq _ _ l=>l.flatMap fq
 |.sr _ x=>fq x
 |.pL _ l=>l.flatMap fq
 |.bad=>[]
def looks (i:c9):List Nat:=sv i.op++(match i.g with|some (s,_)=>[s]|none=>[])
def x7 (x y:c9):Bool :=
 (
  match x.dst with
  |some d => !(looks y).contains d&&y.dst != some d
  |none=>true) &&
 (
  match y.dst with
  |some d => !(looks x).contains d
  |none=>true)
def qs:List Oper->List Nat->List Nat
 | [],acc=>acc
 |o::r,acc=>qs r (acc++[o.after.toList.foldl (λs e=>if Region.binds .any e=true then s ||| (2^e.on ||| acc.getD e.on 0) else s) 0])
def FQ:List c9->List c9->List Nat->Bool
 |_,[],_=>true
 |pre,c::cs,a::as=>(pre.zipIdx.all λ(p,i)=>a.testBit i||x7 p c)&&FQ (pre++[c]) cs as
 |_,_::_,[]=>false
def FR:Nat->List Oper->Bool
 |_,[]=>true
 |n,o::r=>(o.after.all λe => !Region.binds .any e||decide (e.on<n))&&FR (n+1) r
def FT (ops:Array Oper)(l:List c9):Bool:=FR 0 ops.toList&&FQ [] l (qs ops.toList [])
def zw:List c9->List c9->List Nat->List (List Nat)
 |_,[],_=>[]
 |pre,c::cs,as=>((pre.zipIdx.filter λ(p,i) => !((as.headD 0).testBit i||zv (su p.op) (su c.op))).map (·.2))::zw (pre++[c]) cs as.tail
def qt (P:Program)(n kb:Nat)(own:List Nat):Code->Option eC
 |.skip=>some .skip
 |.region _ ops draw=>match ops.toList.mapM (Bm P n kb own ops) with
  |some l=>if draw=true then (if FT ops l=true then some (.nX l (zw [] l (qs ops.toList []))) else none) else some (.ops l)
  |none=>none
 |.seq a b=>match qt P n kb own a,qt P n kb own b with
  |some x,some y=>some (.seq x y)
  |_,_=>none
 |.cond c a b=>match dO c,qt P n kb own a,qt P n kb own b with
  |some c,some x,some y=>some (.cond c x y)
  |_,_,_=>none
 |.block id c=>(qt P n kb own c).map (.block id)
 |.loop c=>(qt P n kb own c).map .loop
 |.exit id=>some (.exit id)
 |.ret=>some .ret
 |_=>none
def FU (P:Program):ResultVar->Option oH
 |.tmp t=>some (.t t)
 |.cell a t=>match gm P t,zt P t with
  |some s,some g=>some (.cell a s g)
  |_,_=>none
def sw (P:Program)(kb:Nat)(own:List Nat)(f:Func):Option bY :=
 match f.body with
 |none=>none
 |some c=>match qt P f.ntmps kb own c,f.results.toList.mapM (FU P) with
  |some b,some r=>some { n:=f.ntmps,aoj:=f.params.size+f.nfree,res:=r,body:=b }
  |_,_=>none
structure eD (A:Nat->Prop) (w:World) (B:Lay) (aQ:World) (bu:Lay) (mem':Mem):Prop where
 dZ:fp A aQ bu mem'
 m2:Trans A w B aQ bu
 aF:Fr (sl B) w aQ
 fresh:∀b,sl bu b->sl B b\/w.heap.size<=b
theorem eD.still {A:Nat->Prop}{w aQ:World}{B:Lay}{mem:Mem}(h:fp A w B mem)(f:Fr (λ_=>False) w aQ):eD A w B aQ B mem:=by
 have m2:Trans A w B aQ B:=⟨f.size,λb ag bM=>⟨f.block b ag id,λO=>bM (.inl O)⟩,λ_ e he=>⟨e,he,.inl rfl⟩⟩;refine⟨⟨h.Bi,h.inj,h.sep,λb ag=>Dh (h.lt b ag) f.size,λk g cs hm=>?_⟩,m2,⟨f.os,f.tape,f.output,f.size,λb ag _=>f.block b ag id⟩,λb ag => .inl ag⟩;obtain⟨e,he,bc,aK,ag⟩:=h.df k g cs hm;refine⟨e,he,bc,aK,λb jL=>?_⟩;obtain⟨vs,T,F,I,af,aO⟩:=ag b jL;have aA:b<w.heap.size:=(Array.getElem?_eq_some_iff.1 F).1;exact⟨vs,T,(f.block b aA id).trans F,I,af,λi m hm=>let ⟨v,ak,ab⟩:=aO i m hm;⟨v,ak,ab.rb m2⟩⟩
theorem eD.refl {A:Nat->Prop}{w:World}{B:Lay}{mem:Mem}(h:fp A w B mem):eD A w B w B mem:=.still h (Fr.refl _ _)
def gn (B:Lay)(k:Key)(e:my):Lay:=λj=>if j=k then some e else B j
theorem hj (B:Lay)(k:Key)(e:my):gn B k e k=some e:=by simp[gn]
theorem g9 (B:Lay){k j:Key}(e:my)(h:j≠k):gn B k e j=B j:=by simp[gn,h]
section
variable {A:Nat->Prop} {w aQ:World} {B:Lay} {mem:Mem} {k:Key} {e':my} {cs:List R}
theorem Trans.change (e2:w.heap.size<=aQ.heap.size)
  (hold:∀b,b<w.heap.size->(∀e,B k=some e->e.df≠some b)->aQ.heap[b]?=w.heap[b]?)
  (bc:∀e,B k=some e->e'=e\/e.g<e'.g)
  (fa:∀b,e'.df=some b->w.heap.size<=b\/∃e,B k=some e/\e.df=some b):Trans A w B aQ (gn B k e'):=by
 refine⟨e2,λb ag bM=>⟨hold b ag λe he O=>bM (.inl ⟨k,e,he,O⟩),?_⟩,λj e he=>?_⟩
 ·rintro⟨j,e,he,O⟩
  by_cases ai:j=k
  ·subst ai;rw[hj] at he
   cases he;rcases fa b O with F|⟨e,F,I⟩
   ·omega
   ·exact bM (.inl ⟨_,e,F,I⟩)
  ·rw[g9 B e' ai] at he;exact bM (.inl ⟨j,e,he,O⟩)
 ·by_cases ai:j=k
  ·subst ai;exact⟨e',hj _ _ _,bc e he⟩
  ·exact⟨e,(g9 B e' ai).trans he,.inl rfl⟩
theorem N8 (fa:∀b,e'.df=some b->w.heap.size<=b\/∃e,B k=some e/\e.df=some b)(b:Nat)(h:sl (gn B k e') b):sl B b\/w.heap.size<=b:=by
 obtain⟨j,e,he,O⟩:=h
 by_cases ai:j=k
 ·subst ai;rw[hj] at he
  cases he;rcases fa b O with F|⟨e,F,I⟩
  ·exact .inr F
  ·exact .inl ⟨_,e,F,I⟩
 ·rw[g9 B e' ai] at he;exact .inl ⟨j,e,he,O⟩
theorem fp.Ti (h:fp A w B mem)(e2:w.heap.size<=aQ.heap.size)
  (hold:∀b,b<w.heap.size->(∀e,B k=some e->e.df≠some b)->aQ.heap[b]?=w.heap[b]?)
  (bc:∀e,B k=some e->e'=e\/e.g<e'.g)
  (fa:∀b,e'.df=some b->w.heap.size<=b\/∃e,B k=some e/\e.df=some b)
  (aK:e'.df=none->cs=[])
  (H:∀b,e'.df=some b->∃vs T,aQ.heap[b]?=some (.cells vs T (0,0))/\vs.size=e'.size/\D cs<=vs.size /\
   ∀(i:Nat) (m:R),cs[i]?=some m->∃v,vs[i]?=some v/\bt aQ (b6 A (gn B k e')) (gn B k e') m v):fp A aQ (gn B k e') (a1 mem k e'.g cs):=by
 have m2:Trans A w B aQ (gn B k e'):=Trans.change e2 hold bc fa;have fresh:=N8 (w:=w) fa;refine⟨λj ai=>?_,λj lP e aD b he fs ag eJ=>?_,λb aN bM=>?_,λb ag=>Dh (h.lt b ag) e2,λj g nr hm=>?_⟩
 ·by_cases ea:j=k
  ·subst ea;simp[a1] at ai
  ·simp only[a1,ea,if_false] at ai;rw[g9 B e' ea];exact h.Bi j ai
 ·by_cases ea:j=k<;>by_cases hjk':lP=k
  ·rw[ea,hjk']
  ·subst ea;rw[hj] at he
   cases he;rw[g9 B e' hjk'] at fs;rcases fa b ag with F|⟨e,F,I⟩
   ·have:=h.x1 ⟨lP,aD,fs,eJ⟩;omega
   ·exact h.inj _ _ e aD b F fs I eJ
  ·subst hjk';rw[hj] at fs
   cases fs;rw[g9 B e' ea] at he;rcases fa b eJ with F|⟨bZ,F,I⟩
   ·have:=h.x1 ⟨j,e,he,ag⟩;omega
   ·exact h.inj _ _ e bZ b he F ag I
  ·rw[g9 B e' ea] at he;rw[g9 B e' hjk'] at fs;exact h.inj j lP e aD b he fs ag eJ
 ·rcases fresh b bM with F|F
  ·exact h.sep b aN F
  ·have:=h.lt b aN;omega
 ·by_cases ea:j=k
  ·subst ea;simp only[a1,if_true,ca,fD] at hm;obtain⟨rfl,rfl⟩:=hm;refine⟨e',hj _ _ _,rfl,aK,λb ag=>?_⟩;obtain⟨vs,T,F,I,af,aO⟩:=H b ag;exact⟨vs,T,F,I,af,aO⟩
  ·simp only[a1,ea,if_false] at hm;obtain⟨e,he,Bn,aok,h2⟩:=h.df j g nr hm;refine⟨e,(g9 B e' ea).trans he,Bn,aok,λb ag=>?_⟩;obtain⟨vs,T,F,I,af,aO⟩:=h2 b ag;have aA:b<w.heap.size:=(Array.getElem?_eq_some_iff.1 F).1;have x8:aQ.heap[b]?=w.heap[b]?:=hold b aA λbZ af aO=>ea (h.inj j k e bZ b he af ag aO);exact⟨vs,T,x8.trans F,I,af,λi m hm=>let ⟨v,ak,ab⟩:=aO i m hm;⟨v,ak,ab.rb m2⟩⟩
theorem fp.change (h:fp A w B mem)(e2:w.heap.size<=aQ.heap.size)
  (hold:∀b,b<w.heap.size->(∀e,B k=some e->e.df≠some b)->aQ.heap[b]?=w.heap[b]?)
  (bc:∀e,B k=some e->e'=e\/e.g<e'.g)
  (fa:∀b,e'.df=some b->w.heap.size<=b\/∃e,B k=some e/\e.df=some b)
  (aK:e'.df=none->cs=[])
  (H:∀b,e'.df=some b->∃vs T,aQ.heap[b]?=some (.cells vs T (0,0))/\vs.size=e'.size/\D cs<=vs.size /\
   ∀(i:Nat) (m:R),cs[i]?=some m->∃v,vs[i]?=some v/\bt w (b6 A B) B m v):fp A aQ (gn B k e') (a1 mem k e'.g cs) :=
 h.Ti e2 hold bc fa aK λb ag=>by
  have m2:Trans A w B aQ (gn B k e'):=Trans.change e2 hold bc fa;obtain⟨vs,T,F,I,af,aO⟩:=H b ag;exact⟨vs,T,F,I,af,λi m hm=>let ⟨v,ak,ab⟩:=aO i m hm;⟨v,ak,ab.rb m2⟩⟩
theorem eD.change (h:fp A w B mem)(f:Fr (λb=>∃e,B k=some e/\e.df=some b) w aQ)
  (bc:∀e,B k=some e->e'=e\/e.g<e'.g)
  (fa:∀b,e'.df=some b->w.heap.size<=b\/∃e,B k=some e/\e.df=some b)
  (aK:e'.df=none->cs=[])
  (H:∀b,e'.df=some b->∃vs T,aQ.heap[b]?=some (.cells vs T (0,0))/\vs.size=e'.size/\D cs<=vs.size /\
   ∀(i:Nat) (m:R),cs[i]?=some m->∃v,vs[i]?=some v/\bt w (b6 A B) B m v):eD A w B aQ (gn B k e') (a1 mem k e'.g cs):=by
 have hold:∀b,b<w.heap.size->(∀e,B k=some e->e.df≠some b)->aQ.heap[b]?=w.heap[b]? :=
  λb ag O=>f.block b ag fun⟨e,he,jL⟩=>O e he jL
 exact⟨h.change f.size hold bc fa aK H,Trans.change f.size hold bc fa,⟨f.os,f.tape,f.output,f.size,λb ag bM=>f.block b ag fun⟨e,he,jL⟩=>bM ⟨k,e,he,jL⟩⟩,N8 fa⟩
theorem Dm (h:fp A w B mem)(k:Key)(e:my)(he:B k=some e):e.g<bX mem k:=by
 cases hm:mem k with
 |none=>rw[h.Bi k hm] at he;cases he
 |some x =>
  obtain⟨g,cs⟩:=x;obtain⟨aD,F,I,_⟩:=h.df k g cs hm;rw[F] at he
  cases he;simp[bX,hm,I]
theorem eD.alloc (h:fp A w B mem)(w1:World)(f:Fr (λ_=>False) w w1)(aV:w1.heap.size=w.heap.size)(k:Key)(vs:Array Value)(T:TypeId)(ar:(D cs)<=vs.size)
  (H:∀(i:Nat) (m:R),cs[i]?=some m->∃v,vs[i]?=some v/\bt w (b6 A B) B m v) :
  eD A w B (w1.alloc (.cells vs T)) (gn B k ⟨bX mem k,some w.heap.size,vs.size⟩) (a1 mem k (bX mem k) cs):=by
 have f2:Fr (λ_=>False) w (w1.alloc (.cells vs T)):=f.alloc _;refine eD.change (e':=⟨bX mem k,some w.heap.size,vs.size⟩) h ⟨f2.os,f2.tape,f2.output,f2.size,λb ag _=>f2.block b ag id⟩ (λe he => .inr (Dm h k e he)) (λb ag => .inl ?_) (by simp) ?_
 ·simp at ag;omega
 ·intro b ag;simp at ag;subst ag;exact⟨vs,T,by rw[<-aV];exact heap_alloc_new w1 _,rfl,ar,H⟩
theorem eD.x9 (h:fp A w B mem)(k:Key):eD A w B w (gn B k ⟨bX mem k,none,0⟩) (a1 mem k (bX mem k) []) :=
 eD.change (e':=⟨bX mem k,none,0⟩) h ⟨rfl,rfl,rfl,b1 _,λ_ _ _=>rfl⟩ (λe he => .inr (Dm h k e he)) (λb ag=>by simp at ag) (λ_=>rfl) (λb ag=>by simp at ag)
end
theorem eD.trans {A:Nat->Prop}{w w1 nm:World}{B Bh Dg:Lay}{dA cX:Mem}(h:eD A w B w1 Bh dA)(cy:eD A w1 Bh nm Dg cX):eD A w B nm Dg cX:=by
 refine⟨cy.dZ,h.m2.trans cy.m2,⟨cy.aF.os.trans h.aF.os,cy.aF.tape.trans h.aF.tape,cy.aF.output.trans h.aF.output,eU h.aF.size cy.aF.size,λb ag bM=>?_⟩,λb ag=>?_⟩
 ·have F:=h.aF.block b ag bM;refine (cy.aF.block b (Dh ag h.aF.size) λO=>?_).trans F;rcases h.fresh b O with I|I
  ·exact bM I
  ·omega
 ·rcases cy.fresh b ag with F|F
  ·exact h.fresh b F
  ·exact .inr (eU h.aF.size F)
theorem Tj {w:World}{aX:Nat->Prop}{B:Lay}{v:Value}{m:R}(h:J2 v=some m):bt w aX B m v:=by
 unfold J2 at h
 split at h<;>simp only[ca,reduceCtorEq] at h<;>subst h
 ·exact .J .int
 ·exact .J .bool
 ·rename_i s
  exact .J (by
   have:s=⟨s.data.toList.toArray⟩:=by simp
   rw[this]
   simpa using Den.str (s:=s.data.toList))
 ·exact .nil
 ·exact .J .u3
 ·exact .J .u4
theorem oI {α β:Type}{f:α->Option β}:∀{l:List α} {r:List β},l.mapM f=some r->(D r)=D l/\∀(i:Nat) (x:α) (y:β),l[i]?=some x->r[i]?=some y->f x=some y
 | [],r,h=>by
  simp at h;subst h;exact⟨rfl,λi x y F=>by simp at F⟩
 |a::l,r,h=>by
  simp only[ju,ha,hk,eo,ca] at h;obtain⟨b,ag,FV,ab,rfl⟩:=h;obtain⟨F,I⟩:=oI ab;refine⟨by simp[F],λi x y O aw=>?_⟩
  cases i with
  |zero=>simp at O aw;subst O;subst aw;exact ag
  |succ i=>exact I i x y (by simpa using O) (by simpa using aw)
theorem aol {w:World}{aX:Nat->Prop}{B:Lay}{v:Value}{m:R}(h:Tg v=some m):bt w aX B m v:=by
 unfold Tg at h
 split at h
 ·rename_i cs;simp only[dV] at h;obtain⟨ms,aS,rfl⟩:=h;obtain⟨F,I⟩:=oI aS;have:=bt.agg (w:=w) (aX:=aX) (B:=B) (cs:=ms) (vs:=cs.toList) (by simp[F]) λi d v aa ak=>Tj (I i v d ak aa)
  simpa using this
 ·exact Tj h
section
variable {P:Program} {w:World} {aX:Nat->Prop} {B:Lay}
theorem bt.ya {k:IntKind}{n:Int}{v:Value}(h:bt w aX B (.J (.int k n)) v):v=.int k n:=by
 cases h with
 |J h=>cases h;rfl
theorem bt.Dn {b:Bool}{v:Value}(h:bt w aX B (.J (.bool b)) v):v=.bool b:=by
 cases h with
 |J h=>cases h;rfl
theorem bt.Dp {s:List UInt8}{v:Value}(h:bt w aX B (.J (.str s)) v):v=.string ⟨s.toArray⟩:=by
 cases h with
 |J h=>cases h;rfl
theorem bt.ofInt {k:IntKind}{n:Int}:bt w aX B (.J (.int k n)) (.int k n):=.J .int
theorem aom {op:BinOp}{k:IntKind}{a b:Int}{d:Data}(t:TypeId)(U:FG op=false)(h:N0 op k a b=some d):
  ∃v,(binOp op t (.int k a) (.int k b)).run P w=.ok v w/\Den w aX d v:=by
 cases op<;>simp only[N0,ca,reduceCtorEq] at h<;>simp only[FG,Bool.true_eq_false] at U
 case quo =>
  split at h
  ·cases h
  ·rename_i ag
   cases h;exact⟨_,by simp[go_sem,Op.intDiv,ag],.int⟩
 case rem =>
  split at h
  ·cases h
  ·rename_i ag
   cases h;exact⟨_,by simp[go_sem,Op.intDiv,ag],.int⟩
 all_goals
  subst h
  first
   |exact⟨_,by simp[go_sem,Op.intArith],.int⟩
   |exact⟨_,by simp[go_sem],.int⟩
   |exact⟨_,by simp[go_sem],.bool⟩
theorem aon {op:BinOp}{k k':IntKind}{a b:Int}{d:Data}(t:TypeId)(U:FG op=true)(h:N1 op k a b=some d):
  ∃v,(binOp op t (.int k a) (.int k' b)).run P w=.ok v w/\Den w aX d v:=by
 unfold N1 at h
 split at h
 ·cases h
 ·rename_i ag
  cases op<;>simp only[FG,kX] at U
  ·simp only[ca] at h;subst h;exact⟨.int k _,by simp[binOp,Op.shift,ag],.int⟩
  ·simp only[ca] at h;subst h;exact⟨.int k _,by simp[binOp,Op.shift,ag],.int⟩
theorem N9 {op:BinOp}{t:TypeId}{x y:Operand}{u v:Value}(F:u ≠ .nilIface)(I:∀c,u ≠ .agg c):eqGuard op t x y u v=pure ():=by
 unfold eqGuard
 cases op<;>cases u<;>first|rfl|exact absurd rfl F|exact absurd rfl (I _)
theorem aoo {op:BinOp}{a b:List UInt8}{d:Data}(t:TypeId)(h:N2 op a b=some d):
  ∃v,(binOp op t (.string ⟨a.toArray⟩) (.string ⟨b.toArray⟩)).run P w=.ok v w/\Den w aX d v:=by
 have aop:binOp op t (.string ⟨a.toArray⟩) (.string ⟨b.toArray⟩)=Op.stringOp op ⟨a.toArray⟩ ⟨b.toArray⟩:=by
  cases op<;>rfl
 rw[aop]
 cases op<;>simp only[N2,ca,reduceCtorEq] at h
 case add =>
  split at h
  ·rename_i ar
   cases h;refine⟨.string ⟨(a++b).toArray⟩,?_,.str⟩;have Oa:¬ (9223372036854775807<(D a:Int)+(D b:Int)):=by unfold maxLen at ar;omega
   have az:(ByteArray.mk a.toArray).size=D a:=by simp[ByteArray.size]
   have aD:(ByteArray.mk b.toArray).size=D b:=by simp[ByteArray.size]
   have zx:(ByteArray.mk a.toArray)++(ByteArray.mk b.toArray)=⟨(a++b).toArray⟩:=by
    apply ByteArray.ext;simp
   simp[Op.stringOp,az,aD,Oa,zx]
  ·cases h
 all_goals
  subst h;exact⟨_,by simp[Op.stringOp],.bool⟩
theorem acZ {op:BinOp}{m n r:R}{u v:Value}(t:TypeId)(x y:Operand)(hm:bt w aX B m u)(aK:bt w aX B n v)(h:JD op m n=some r):
  ∃z,((do eqGuard op t x y u v;binOp op t u v:Sem Value)).run P w=.ok z w/\bt w aX B r z:=by
 unfold JD at h
 split at h
 ·rename_i k a k' b
  cases hm.ya
  cases aK.ya;rw[N9 (by simp) (by simp)]
  split at h
  ·rename_i U;simp only[dV] at h;obtain⟨d,aa,rfl⟩:=h;obtain⟨z,F,I⟩:=aon (P:=P) (w:=w) (aX:=aX) (k':=k') t U aa;exact⟨z,by simpa using F,.J I⟩
  ·rename_i U
   split at h
   ·rename_i Q;subst Q;simp only[dV] at h;obtain⟨d,aa,rfl⟩:=h;obtain⟨z,F,I⟩:=aom (P:=P) (w:=w) (aX:=aX) t (by simpa using U) aa;exact⟨z,by simpa using F,.J I⟩
   ·cases h
 ·rename_i a b
  cases hm.Dp
  cases aK.Dp;rw[N9 (by simp) (by simp)];simp only[dV] at h;obtain⟨d,aa,rfl⟩:=h;obtain⟨z,F,I⟩:=aoo (P:=P) (w:=w) (aX:=aX) t aa;exact⟨z,by simpa using F,.J I⟩
 ·cases h
theorem ac0 {neg:Bool}{m n r:R}{u v:Value}(t:TypeId)(x y:Operand)(bD:P.underlying t=some .bool)(hm:bt w aX B m u)(aK:bt w aX B n v)(h:JE neg m n=some r):
  ∃z,((do eqGuard (if neg then .neq else .eql) t x y u v;binOp (if neg then .neq else .eql) t u v:Sem Value)).run P w=.ok z w/\bt w aX B r z:=by
 unfold JE at h
 split at h
 ·rename_i a b
  cases hm.Dn
  cases aK.Dn
  cases h;rw[N9 (by simp) (by simp)]
  cases neg
  ·exact⟨.bool (a==b),by simp[run_eql_bool w t a b bD],by cases a<;>cases b<;>exact .J .bool⟩
  ·exact⟨.bool (!(a==b)),by simp[run_neq_bool w t a b bD],by cases a<;>cases b<;>exact .J .bool⟩
 ·cases h
theorem aoq {t:TypeId}{k:Nat}{m n:R}{c:Bool}{u v:Value}(d:Nat)(Q:J3 P t=some k)(hm:bt w aX B m u)(aK:bt w aX B n v)(h:N3 k m n=some c):
  (Op.equalIn (d+1) t u v).run P w=.ok c w:=by
 unfold J3 at Q;unfold N3 at h
 split at h
 ·simp only[ca] at h
  cases hm.Dn
  cases aK.Dn;subst h
  split at Q<;>first|(exfalso;simp at Q;done)|(rename_i hu;exact run_equalIn_bool w d t _ _ hu)
 ·split at h
  ·rename_i Dq;subst Dq
   cases hm.ya
   cases aK.ya
   cases h
   split at Q<;>first|(exfalso;simp at Q;done)|(rename_i hu;exact run_equalIn_int w d t _ _ _ _ hu)
  ·cases h
 ·simp only[ca] at h
  cases hm.Dp
  cases aK.Dp;subst h
  split at Q<;>first|(exfalso;simp at Q;done)|(rename_i hu;rw[run_equalIn_string w d t _ _ hu];simp)
 ·cases h
theorem aor {t:TypeId}{k:Nat}(h:J3 P t=some k):(isAgg t).run P w=.ok false w:=by
 unfold J3 at h
 split at h<;>simp only[ca,reduceCtorEq] at h<;>(rename_i hu;simp[isAgg,run_underlying hu])
theorem ac1 {d:Nat}{xs ys:Array Value}{cs ds:List R}(O:∀(i:Nat) (m:R) (v:Value),cs[i]?=some m->xs[i]?=some v->bt w aX B m v)(tq:xs.size=D cs)
  (aw:∀(i:Nat) (m:R) (v:Value),ds[i]?=some m->ys[i]?=some v->bt w aX B m v) (zy:ys.size=D ds) :
  ∀(dP:List Field) (i:Nat) (gT:List Nat) (c:Bool),FP P i dP=some gT->Bj gT (cs.drop i) (ds.drop i)=some c->(Op.eqFields (d+1) xs ys dP).run P w=.ok c w
 | [],i,gT,c,aH,H=>by
  simp[FP] at aH;subst aH
  cases F:cs.drop i<;>cases I:ds.drop i<;>simp[F,I,Bj] at H;subst H;simp[Op.eqFields]
 |f::r,i,gT,c,aH,H=>by
  simp only[FP] at aH
  split at aH
  ·rename_i aK;obtain⟨wK,yb⟩:=aK
   split at aH
   ·rename_i k aos Q zz
    cases aH
    cases F:cs.drop i with
    |nil=>simp[F,Bj] at H
    |cons a x =>
     cases I:ds.drop i with
     |nil=>simp[F,I,Bj] at H
     |cons b y =>
      rw[F,I] at H;simp only[Bj] at H
      split at H
      ·rename_i aI c2 fH vb
       cases H
       have rl:i<D cs:=by
        rcases ih i (D cs) with h|h
        ·exact h
        ·rw[kY h] at F;cases F
       have n0:i<D ds:=by
        rcases ih i (D ds) with h|h
        ·exact h
        ·rw[kY h] at I;cases I
       rw[ij rl] at F;rw[ij n0] at I
       injection F with aN aot
       injection I with ag aou
       subst aN;subst ag;subst aot;subst aou
       have ex:xs[f.offset]?=some (xs[i]'(by omega)):=by rw[yb];exact Array.getElem?_eq_getElem (by omega)
       have Tk:ys[f.offset]?=some (ys[i]'(by omega)):=by rw[yb];exact Array.getElem?_eq_getElem (by omega)
       have rx:=O i _ _ (bz rl) (Array.getElem?_eq_getElem (by omega:i<xs.size));have aov:=aw i _ _ (bz n0) (Array.getElem?_eq_getElem (by omega:i<ys.size));have he:=aoq (P:=P) d Q rx aov fH;have ay:=ac1 (d:=d) O tq aw zy r (i+1) aos c2 zz vb;have aow:(isAgg f.type).run P w=.ok false w:=aor Q;simp only[Op.eqFields,wK,ne_eq,not_false_eq_true,if_true,Sem.run_bind,part,aow,Result.andThen_ok,kX,if_false,ex,Tk,Sem.run_pure,he]
       cases aI
       ·simp
       ·simp[ay]
      ·cases H
   ·cases aH
  ·cases aH
theorem ac2 {m:R}{v:Value}(h:bt w aX B m v)(F:m.one=true):v.oneCell'=true:=by
 cases h with
 |J aa=>cases aa<;>first|rfl|simp[R.one] at F
 |nil=>rfl
 |ref he bc ak=>obtain⟨a,cap,rfl,_⟩:=ak;rfl
 |ptr he bc ak=>obtain⟨b,rfl,_⟩:=ak;rfl
 |fz ar aa=>rfl
 |agg ar aa=>simp[R.one] at F
 |cM ar aa=>simp[R.one] at F
 |no=>simp[R.one] at F
 |undef=>simp[R.one] at F
theorem aox {v:Value}(h:∀c,v ≠ .agg c):v.cells=#[v]:=by
 unfold Value.cells
 split
 ·rename_i cs;exact absurd rfl (h cs)
 ·rfl
theorem aoy {m:R}{v:Value}(h:bt w aX B m v)(hu:m ≠ .undef):v.cells.size=D m.cells/\∀(i:Nat) (c:R) (u:Value),m.cells[i]?=some c->v.cells[i]?=some u->bt w aX B c u:=by
 have one:(∀c,v ≠ .agg c)->m.cells=[m]->v.cells.size=D m.cells/\∀(i:Nat) (c:R) (u:Value),m.cells[i]?=some c->v.cells[i]?=some u->bt w aX B c u:=by
  intro ak hm;rw[hm,aox ak];refine⟨rfl,λi c u H hu=>?_⟩
  cases i with
  |zero=>simp at H hu;subst H;subst hu;exact h
  |succ i=>simp at H
 cases h with
 |J aa =>
  cases aa with
  |agg ar aa =>
   refine⟨by simp[Value.cells,R.cells];exact ar,λi c u H hu=>?_⟩
   simp only[R.cells,bn,dV] at H;obtain⟨d,ns,rfl⟩:=H;exact .J (aa i d u ns (by simpa [Value.cells] using hu))
  |_=>exact one (by simp) rfl
 |nil=>exact one (by simp) rfl
 |ref he bc ak=>obtain⟨a,cap,rfl,_⟩:=ak;exact one (by simp) rfl
 |ptr he bc ak=>obtain⟨b,rfl,_⟩:=ak;exact one (by simp) rfl
 |fz ar aa=>exact one (by simp) rfl
 |agg ar aa =>
  refine⟨by simp[Value.cells,R.cells];exact ar,λi c u H hu=>aa i c u (by simpa [R.cells] using H) (by simpa [Value.cells] using hu)⟩
 |cM ar aa=>exact one (by simp) rfl
 |no=>exact one (by simp[undef]) rfl
 |undef=>exact absurd rfl hu
end
section
variable {P:Program} {w:World} {aX:Nat->Prop} {B:Lay}
def dq (w:World)(aX:Nat->Prop)(B:Lay)(cs:List R)(vs:List Value):Prop :=
 (D vs)=D cs/\∀(i:Nat) (m:R) (v:Value),cs[i]?=some m->vs[i]?=some v->bt w aX B m v
theorem dq.get {cs:List R}{vs:List Value}(h:dq w aX B cs vs){i:Nat}{m:R}(M:cs[i]?=some m):∃v,vs[i]?=some v/\bt w aX B m v:=by
 have ar:i<D cs:=(dD.1 M).1;have ak:vs[i]?=some (vs[i]'(by rw[h.1];exact ar)):=bz _;exact⟨_,ak,h.2 i m _ M ak⟩
theorem dq.nil:dq w aX B [] []:=⟨rfl,λi m v h=>by simp at h⟩
theorem dq.cons {m:R}{v:Value}{cs:List R}{vs:List Value}(h:bt w aX B m v)(ab:dq w aX B cs vs):dq w aX B (m::cs) (v::vs):=by
 refine⟨by simp[ab.1],λi m' Dr F I=>?_⟩
 cases i with
 |zero=>simp at F I;subst F;subst I;exact h
 |succ i=>exact ab.2 i m' Dr (by simpa using F) (by simpa using I)
theorem dq.append {a b:List R}{x y:List Value}(h:dq w aX B a x)(cy:dq w aX B b y):dq w aX B (a++b) (x++y):=by
 refine⟨by simp[h.1,cy.1],λi m v F I=>?_⟩
 rw[FW] at F I
 split at F
 ·rename_i M;rw[ad (by rw[h.1];exact M)] at I;exact h.2 i m v F I
 ·rename_i M;rw[ah (by rw[h.1];exact M),h.1] at I;exact cy.2 _ m v F I
theorem dq.drop {a:List R}{x:List Value}(h:dq w aX B a x)(n:Nat):dq w aX B (a.drop n) (x.drop n) :=
 ⟨by simp[h.1],λi m v F I=>h.2 (n+i) m v (by simpa using F) (by simpa using I)⟩
theorem dq.take {a:List R}{x:List Value}(h:dq w aX B a x)(n:Nat):dq w aX B (a.take n) (x.take n):=by
 refine⟨by simp[h.1],λi m v F I=>?_⟩
 rw[vc] at F I
 split at F
 ·rename_i M;rw[ad M] at I;exact h.2 i m v F I
 ·cases F
theorem dq.kU {a b:List R}{x y:List Value}(h:dq w aX B a x)(cy:dq w aX B b y)(off:Nat):
  dq w aX B (kU a off b) (x.take off++y++x.drop (off+D y)):=by
 unfold Mini.kU;rw[cy.1];exact ((h.take off).append cy).append (h.drop _)
theorem dq.Tl {m:R}{v:Value}(h:bt w aX B m v)(hu:m ≠ .undef):dq w aX B m.cells v.cells.toList:=by
 obtain⟨F,I⟩:=aoy h hu;exact⟨by simpa using F,λi c u H ak=>I i c u H (by simpa using ak)⟩
theorem dq.J {ds:List Data}{vs:List Value}(ar:(D vs)=D ds)(h:∀(i:Nat) (d:Data) (v:Value),ds[i]?=some d->vs[i]?=some v->Den w aX d v):dq w aX B (ds.map .J) vs:=by
 refine⟨by simp[ar],λi m v F I=>?_⟩
 simp only[bn,dV] at F;obtain⟨d,aa,rfl⟩:=F;exact .J (h i d v aa I)
theorem FX {cs:List R}{off n:Nat}{r:List R}(h:cut cs off n=some r):off+n<=D cs/\r=(cs.drop off).take n/\D r=n:=by
 unfold cut at h
 split at h
 ·rename_i ar
  cases h;exact⟨ar,rfl,by simp;omega⟩
 ·cases h
def At (w:World)(b off:Nat)(vs:List Value):Prop:=∀(j:Nat) (u:Value),vs[j]?=some u->w.cell? ⟨b,off+j,none⟩=some u
theorem At.add {w:World}{b off:Nat}{vs:List Value}(h:At w b off vs)(n:Nat):At w b (off+n) (vs.drop n):=λj u ai=>by
 have:=h (n+j) u (by simpa using ai);rwa [<-qu] at this
theorem At.take {w:World}{b off:Nat}{vs:List Value}(h:At w b off vs)(n:Nat):At w b off (vs.take n):=λj u ai=>by
 rw[vc] at ai
 split at ai
 ·exact h j u ai
 ·cases ai
theorem At.row {w:World}{b:Nat}{vs:Array Value}{T:TypeId}{aF:Nat×Nat}(h:w.heap[b]?=some (.cells vs T aF)):At w b 0 vs.toList:=λj u ai=>by
 rw[jv,cell_of_row w b j vs T aF h]
 simpa using ai
theorem zA (b off n:Nat):(⟨b,off,none⟩:Addr).add n=⟨b,off+n,none⟩:=by
 unfold Addr.add
 split<;>simp_all
theorem At.load {b off:Nat}{vs:List Value}(h:At w b off vs):(loadCells ⟨b,off,none⟩ (D vs)).run P w=.ok vs.toArray w :=
 run_loadCells_list w _ vs λj v ai=>by rw[zA];exact h j v ai
theorem vd {t:TypeId}{n:Nat}(h:gm P t=some n):(sizeOf t).run P w=.ok n w:=by
 simp only[gm,dV] at h;obtain⟨i,M,rfl⟩:=h;simp[sizeOf,typeInfo,M]
theorem Ob {t:TypeId}{g:Bool}(h:zt P t=some g):(isAgg t).run P w=.ok g w:=by
 simp only[zt,dV] at h;obtain⟨d,aa,rfl⟩:=h;simp only[isAgg,Sem.run_bind,run_underlying aa,Result.andThen_ok]
 cases d<;>rfl
theorem ac3 {t:TypeId}{n:Nat}{dY:Bool}{b off:Nat}{ms:List R}{vs:List Value}{r:R}(U:gm P t=some n)(aN:zt P t=some dY)(ar:(D ms)=n)
  (b2:dq w aX B ms vs) (cj:At w b off vs) (h:rf dY ms=some r):∃u,(loadVar t ⟨b,off,none⟩).run P w=.ok u w/\bt w aX B r u:=by
 unfold rf at h
 split at h
 ·rename_i zB
  cases h;subst zB;refine⟨.agg vs.toArray,?_,.agg b2.1 b2.2⟩;have:=cj.load (P:=P);rw[b2.1,ar] at this;simp[loadVar,Ob aN,vd U,this]
 ·rename_i zB
  split at h
  ·cases h;obtain⟨u,hu,ab⟩:=b2.get (i:=0) (m:=r) rfl;have:=cj 0 u hu;have Tm:dY=false:=by simpa using zB
   subst Tm;exact⟨u,by simp[loadVar,Ob aN,this];simpa using by rw[show off=off+0 from rfl,this],ab⟩
  ·cases h
end
section
variable {P:Program} {A:Nat->Prop} {w:World} {B:Lay} {mem:Mem}
theorem fp.at_ (h:fp A w B mem){k:Key}{g:Nat}{cs:List R}(Q:mem k=some (g,cs)):
  ∃e,B k=some e/\e.g=g/\(e.df=none->cs=[])/\∀b,e.df=some b->∃(vs:Array Value) (T:TypeId),w.heap[b]?=some (.cells vs T (0,0))/\vs.size=e.size/\D cs<=vs.size /\
   dq w (b6 A B) B cs (vs.toList.take (D cs)):=by
 obtain⟨e,he,bc,aK,ag⟩:=h.df k g cs Q;refine⟨e,he,bc,aK,λb jL=>?_⟩;obtain⟨vs,T,F,I,af,aO⟩:=ag b jL;refine⟨vs,T,F,I,af,by simp;omega,λi m v hm ak=>?_⟩
 obtain⟨u,hu,ab⟩:=aO i m hm;rw[vc] at ak
 split at ak
 ·rw[Array.getElem?_toList,hu] at ak
  cases ak;exact ab
 ·cases ak
theorem ac4 {n:Nat}{dY:Bool}{m r:R}{v:Value}(bW:fp A w B mem)(ak:bt w (b6 A B) B m v)(h:qp mem n dY m=some r):
  ∃b off ms vs,v=.pointer (some ⟨b,off,none⟩)/\D ms=n/\dq w (b6 A B) B ms vs/\At w b off vs/\rf dY ms=some r:=by
 unfold qp at h
 split at h
 ·rename_i k g off
  split at h
  ·rename_i c8 cs Q
   split at h
   ·rename_i bc;subst bc;simp only[eo] at h;obtain⟨ms,aS,ab⟩:=h;obtain⟨ar,rfl,aK⟩:=FX aS;obtain⟨e,he,b7,Ds,ag⟩:=bW.at_ Q
    cases ak with
    |ptr gg Bn lx =>
     rw[he] at gg
     cases gg;obtain⟨b,rfl,jL⟩:=lx;have jL:=jL b7.symm;obtain⟨vs,T,aR,aV,hle,b2⟩:=ag b jL;refine⟨b,off,_,((vs.toList.take (D cs)).drop off).take n,rfl,aK,(b2.drop off).take n,?_,ab⟩;have:=(((At.row aR).take (D cs)).add off).take n
     simpa using this
   ·cases h
  ·cases h
 ·rename_i ds;simp only[eo] at h;obtain⟨ms,aS,ab⟩:=h;obtain⟨ar,rfl,aK⟩:=FX aS
  cases ak with
  |J aa =>
   cases aa with
   | @ptr cs b off val ag fG H aa =>
    refine⟨b,off,_,((dW (D ds)).map val).take n,rfl,aK,?_,?_,ab⟩
    ·have:dq w (b6 A B) B (ds.map .J) ((dW (D ds)).map val):=dq.J (by simp) λi d v F I=>by
      have M:i<D ds:=(dD.1 F).1;simp[M] at I;subst I;exact aa i d F
     simpa using this.take n
    ·refine At.take (λj u ai=>?_) n;simp only[bn,dV] at ai;obtain⟨lP,pN,rfl⟩:=ai
     have F:lP=j/\j<D ds:=by
      rcases ih j (D ds) with h|h
      ·rw[tr h] at pN;exact⟨by simpa using pN.symm,h⟩
      ·rw[mB (by simpa using h)] at pN
       cases pN
     obtain⟨rfl,ik⟩:=F;exact H lP ik
 ·cases h
theorem aoz {t:TypeId}{n:Nat}{dY:Bool}{m r:R}{v:Value}(U:gm P t=some n)(aN:zt P t=some dY)(bW:fp A w B mem)(ak:bt w (b6 A B) B m v)(h:qp mem n dY m=some r):
  ∃u,(Instr.loadAt t v).run P w=.ok u w/\bt w (b6 A B) B r u:=by
 obtain⟨b,off,ms,vs,rfl,ar,b2,cj,ab⟩:=ac4 bW ak h;obtain⟨u,F,I⟩:=ac3 (P:=P) U aN ar b2 cj ab;exact⟨u,by simpa [Instr.loadAt,Instr.sureAddr] using F,I⟩
end
section
variable {P:Program} {w:World} {aX:Nat->Prop} {B:Lay}
theorem ac5 {m:R}{cs:List R}{v:Value}(h:JH m=some cs)(ak:bt w aX B m v):∃vs:List Value,v=.agg vs.toArray/\dq w aX B cs vs:=by
 unfold JH at h
 split at h
 ·cases h
  cases ak with
  |agg ar aa=>exact⟨_,rfl,ar,aa⟩
 ·cases h
  cases ak with
  |J aa =>
   cases aa with
   |agg ar aa=>exact⟨_,rfl,dq.J ar aa⟩
 ·cases h
theorem ac6 {neg:Bool}{gT:List Nat}{m n r:R}{u v:Value}(t:TypeId)(x y:Operand)(dP:Array Field)(hu:P.underlying t=some (.struct dP))(U:P.stoodInHeld t=false)
  (bc:P.eqGuardType P.depth t=false) (Q:FP P 0 dP.toList=some gT) (hm:bt w aX B m u) (aK:bt w aX B n v) (h:JI neg gT m n=some r) :
  ∃z,((do eqGuard (if neg then .neq else .eql) t x y u v;binOp (if neg then .neq else .eql) t u v:Sem Value)).run P w=.ok z w/\bt w aX B r z:=by
 unfold JI at h
 split at h
 ·rename_i cs ds jM g2
  split at h
  ·rename_i c H
   cases h;obtain⟨xs,rfl,O⟩:=ac5 jM hm;obtain⟨ys,rfl,aw⟩:=ac5 g2 aK;have ve:P.fieldsOf t=dP:=by simp[Program.fieldsOf,hu]
   have he:=run_equalIn_struct (P:=P) w 9999 t xs.toArray ys.toArray (by rw[ve];exact hu) U;rw[ve] at he
   have aH:=ac1 (P:=P) (w:=w) (aX:=aX) (B:=B) (d:=9998) (xs:=xs.toArray) (ys:=ys.toArray) (cs:=cs) (ds:=ds)
    (λi m v F I=>O.2 i m v F (by simpa using I)) (by simpa using O.1) (λi m v F I=>aw.2 i m v F (by simpa using I)) (by simpa using aw.1) dP.toList 0 gT c Q (by simpa using H)
   have heq:(Op.equal t (.agg xs.toArray) (.agg ys.toArray)).run P w=.ok c w:=by
    show (Op.equalIn (9999+1) t _ _).run P w=_;rw[he];exact aH
   have wL:∀op,(op=BinOp.eql\/op=.neq)->(eqGuard op t x y (.agg xs.toArray) (.agg ys.toArray)).run P w=.ok () w:=by
    intro op m3;rcases m3 with rfl|rfl<;>simp[eqGuard,bc]
   refine⟨.bool (neg != c),?_,.J .bool⟩
   cases neg
   ·simp only[kX,if_false,Sem.run_bind,wL _ (.inl rfl),Result.andThen_ok];show (do pure (Value.bool (<-Op.equal t (.agg xs.toArray) (.agg ys.toArray))):Sem Value).run P w=_
    simp[heq]
   ·simp only[if_true,Sem.run_bind,wL _ (.inr rfl),Result.andThen_ok];show (do pure (Value.bool (!(<-Op.equal t (.agg xs.toArray) (.agg ys.toArray)))):Sem Value).run P w=_
    simp[heq]
  ·cases h
 ·cases h
theorem aoA {c a b r:R}{ac7 vf sx:Value}(H:bt w aX B c ac7)(aN:bt w aX B a vf)(ag:bt w aX B b sx)(h:FH c a b=some r):
  ∃z,(do pure (if <-asBool ac7 then vf else sx):Sem Value).run P w=.ok z w/\bt w aX B r z:=by
 unfold FH at h
 split at h
 ·rename_i t
  cases H.Dn
  cases t
  ·cases h;exact⟨sx,by simp[asBool],ag⟩
  ·cases h;exact⟨vf,by simp[asBool],aN⟩
 ·cases h
theorem aoB {op:UnOp}{m r:R}{v:Value}(hm:bt w aX B m v)(h:JF op m=some r):∃z,(Op.unary op v).run P w=.ok z w/\bt w aX B r z:=by
 unfold JF at h
 split at h
 ·cases h;cases hm.ya;exact⟨_,by simp[Op.unary,Op.intArith],.J .int⟩
 ·cases h;cases hm.ya;exact⟨_,by simp[Op.unary,go_sem],.J .int⟩
 ·cases h;cases hm.Dn;exact⟨_,by simp[Op.unary],.J .bool⟩
 ·cases h
theorem aoC {k:IntKind}{m r:R}{v:Value}(s t:TypeId)(gT:IntKind)(U:P.underlying s=some (.int gT))(bD:P.underlying t=some (.int k))(hm:bt w aX B m v)(h:JJ k m=some r):
  ∃z,(convert s t v).run P w=.ok z w/\bt w aX B r z:=by
 unfold JJ at h
 split at h
 ·cases h
  cases hm.ya;have M:P.intKind t=k:=by simp[Program.intKind,bD]
  have:=run_convert_int (P:=P) w s t;exact⟨.int k _,by simp[convert,run_underlying U,run_underlying bD,Conv.intToInt],.J .int⟩
 ·cases h
theorem aoD {off:Nat}{m r:R}{v:Value}(t:TypeId)(f:Nat)(dP:Array Field)(fd:Field)(s:Nat)(hu:P.underlying t=some (.struct dP))(aH:dP[f]?=some fd)(U:gm P fd.type=some s)(ao:0<s)
  (bM:fd.offset=off) (hm:bt w aX B m v) (h:JL off m=some r):∃z,(Instr.fieldAt t v f).run P w=.ok z w/\bt w aX B r z:=by
 have bE:¬ s=0:=by omega
 have run:∀b o,(Instr.fieldAt t (.pointer (some ⟨b,o,none⟩)) f).run P w=.ok (.pointer (some ⟨b,o+off,none⟩)) w:=by
  intro b o;simp[Instr.fieldAt,run_underlying hu,aH,Instr.sureAddr,fieldPlace,vd U,bE,zA,bM]
 unfold JL at h
 split at h
 ·cases h;rename_i k g o
  cases hm with
  |ptr he bc ak =>
   obtain⟨b,rfl,ag⟩:=ak;exact⟨_,run b o,.ptr he bc ⟨b,rfl,ag⟩⟩
 ·rename_i ds
  split at h
  ·rename_i ar
   cases h
   cases hm with
   |J aa =>
    cases aa with
    | @ptr cs b o val ag fG H aa =>
     refine⟨_,run b o,.J (.ptr (λi=>val (off+i)) ag fG (λi M=>?_) λi d kZ=>aa _ d (by simpa using kZ))⟩;have:=H (off+i) (by simp at M;omega);rwa [<-qu] at this
  ·cases h
 ·cases h
theorem aoE {t:TypeId}{n off:Nat}{dY:Bool}{cs ms:List R}{vs:List Value}{r:R}(U:gm P t=some n)(aN:zt P t=some dY)(b2:dq w aX B cs vs)(H:cut cs off n=some ms)(h:rf dY ms=some r):
  ∃u,(part t vs.toArray off).run P w=.ok u w/\bt w aX B r u:=by
 obtain⟨ar,rfl,aK⟩:=FX H;have bH:=(b2.drop off).take n;unfold rf at h
 split at h
 ·rename_i zB
  cases h;subst zB;refine⟨.agg ((vs.drop off).take n).toArray,?_,.agg bH.1 bH.2⟩
  have e:vs.toArray.extract off (off+n)=((vs.drop off).take n).toArray:=by
   simp[List.extract_eq_take_drop]
  simp[part,Ob aN,vd U,e]
 ·rename_i zB;have Tm:dY=false:=by simpa using zB
  subst Tm
  split at h
  ·rename_i m aS
   cases h
   have M:cs[off]?=some r:=by
    have:=congrArg (λl=>l[0]?) aS;simp[vc] at this;exact this.2
   obtain⟨u,hu,aoF⟩:=b2.get M;exact⟨u,by simp[part,Ob aN,hu],aoF⟩
  ·cases h
theorem aoG {off n:Nat}{dY:Bool}{m r:R}{v:Value}(t:TypeId)(f:Nat)(dP:Array Field)(fd:Field)(hu:P.underlying t=some (.struct dP))(aH:dP[f]?=some fd)(U:gm P fd.type=some n)
  (aN:zt P fd.type=some dY) (bM:fd.offset=off) (hm:bt w aX B m v) (h:JM off n dY m=some r):∃z,(Instr.field t v f).run P w=.ok z w/\bt w aX B r z:=by
 subst bM
 have go:∀(cs:List R) (vs:List Value),dq w aX B cs vs->(cut cs fd.offset n).bind (rf dY)=some r->∃z,(Instr.field t (.agg vs.toArray) f).run P w=.ok z w/\bt w aX B r z:=by
  intro cs vs b2 aR;simp only[eo] at aR;obtain⟨ms,F,I⟩:=aR;obtain⟨u,af,aO⟩:=aoE (P:=P) U aN b2 F I;exact⟨u,by simp[Instr.field,run_underlying hu,aH,asAgg,af],aO⟩
 unfold JM at h
 split at h
 ·cases hm with
  |agg ar aa=>exact go _ _ ⟨ar,aa⟩ h
 ·cases hm with
  |J aa =>
   cases aa with
   |agg ar aa=>exact go _ _ (dq.J ar aa) h
 ·cases h
theorem FY {m:R}{n:Nat}{v:Value}(h:idx m=some n)(ak:bt w aX B m v):∃k,v=.int k (n:Int):=by
 unfold idx at h
 split at h
 ·rename_i k i
  split at h
  ·rename_i ao
   cases h
   cases ak.ya;exact⟨k,by rw[Int.toNat_of_nonneg ao]⟩
  ·cases h
 ·cases h
theorem FF.at_ {e:my}{g sz off len:Nat}{v:Value}(h:FF e g sz off len v)(ao:0<len):∃b cap,v=.slice (some ⟨b,off,none⟩) len cap/\len<=cap/\cap<=maxLen/\(g=e.g->e.df=some b/\off+cap*sz<=e.size):=by
 obtain⟨a,cap,rfl,I,af,aO⟩:=h;rcases aO with aO|⟨b,rfl,br⟩
 ·omega
 ·exact⟨b,cap,rfl,I,af,br⟩
theorem aoH {es:List (List Data)}{sz:Nat}(e2:∀e∈es,D e=sz):∀(n i:Nat) (e:List Data),es[n]?=some e->i<sz->es.flatten[n*sz+i]?=e[i]?:=by
 induction es with
 |nil=>intro n i e h;simp at h
 |cons a r ay =>
  intro n i e h M;have aN:=e2 a (by simp)
  cases n with
  |zero =>
   simp at h;subst h;rw[jt,qv (by omega)];simp
  |succ n =>
   rw[jt,rm (by rw[aN,ts];omega)];have:=ay (λx O=>e2 x (by simp[O])) n i e (by simpa using h) M;rw[<-this,aN]
   congr 1
   rw[ts];omega
theorem aoI {sz n:Nat}{m r:R}{v:Value}{k:IntKind}(t e:TypeId)(hu:P.underlying t=some (.slice e))(U:gm P e=some sz)(hm:bt w aX B m v)(h:zr sz n m=some r):
  ∃z,(Instr.indexAt t v (.int k (n:Int))).run P w=.ok z w/\bt w aX B r z:=by
 have run:∀b off len cap,n<len->(Instr.indexAt t (.slice (some ⟨b,off,none⟩) len cap) (.int k (n:Int))).run P w=.ok (.pointer (some ⟨b,off+n*sz,none⟩)) w:=by
  intro b off len cap aA;simp[Instr.indexAt,run_underlying hu,asIntOf,aA,vd U,zA]
 unfold zr at h
 split at h
 ·split at h
  ·rename_i ar;obtain⟨aA,rfl⟩:=ar
   cases h
   cases hm with
   |ref he bc ak =>
    obtain⟨b,cap,rfl,F,I,af⟩:=ak.at_ (by omega);exact⟨_,run _ _ _ _ aA,.ptr he bc ⟨b,rfl,λh=>(af h).1⟩⟩
  ·cases h
 ·rename_i es
  split at h
  ·rename_i el k0
   split at h
   ·rename_i hle
    cases h
    cases hm with
    |J aa =>
     have aA:n<D es:=(dD.1 k0).1
     cases aa with
     |lO=>simp at aA
     | @Y es b off c ev val ar ac8 ag fG e2 H aa =>
      have J5:ev=sz:=by rw[<-hle];exact (e2 _ (ei k0)).symm
      subst J5
      have hmul:n*ev+ev<=D es*ev:=by
       have:(n+1)*ev<=D es*ev:=vg _ aA;rwa [qn,wF] at this
      refine⟨_,run _ _ _ _ aA,.J (.ptr (λi=>val (n*ev+i)) ag fG (λi M=>?_) λi d kZ=>?_)⟩
      ·have:=H (n*ev+i) (by omega);rwa [<-qu] at this
      ·refine aa _ d ?_;rw[aoH e2 n i el k0 (by have:=(dD.1 kZ).1;omega)];exact kZ
   ·cases h
  ·cases h
 ·cases h
theorem aoJ {len sz n:Nat}{m r:R}{v:Value}{k:IntKind}(t e:TypeId)(hu:P.underlying t=some (.array len e))(U:gm P e=some sz)(hm:bt w aX B m v)(h:JN len sz n m=some r):
  ∃z,(Instr.indexAt t v (.int k (n:Int))).run P w=.ok z w/\bt w aX B r z:=by
 have run:∀b off,n<len->(Instr.indexAt t (.pointer (some ⟨b,off,none⟩)) (.int k (n:Int))).run P w=.ok (.pointer (some ⟨b,off+n*sz,none⟩)) w:=by
  intro b off aA;simp[Instr.indexAt,run_underlying hu,asIntOf,Instr.sureAddr,aA,vd U,zA]
 unfold JN at h
 split at h
 ·split at h
  ·rename_i aA
   cases h
   cases hm with
   |ptr he bc ak =>
    obtain⟨b,rfl,ag⟩:=ak;exact⟨_,run _ _ aA,.ptr he bc ⟨b,rfl,ag⟩⟩
  ·cases h
 ·rename_i ds
  split at h
  ·rename_i ar;obtain⟨aA,hle⟩:=ar
   cases h
   cases hm with
   |J aa =>
    cases aa with
    | @ptr cs b o val ag fG H aa =>
     refine⟨_,run _ _ aA,.J (.ptr (λi=>val (n*sz+i)) ag fG (λi M=>?_) λi d kZ=>aa _ d (by simpa using kZ))⟩;have:=H (n*sz+i) (by simp at M;omega);rwa [<-qu] at this
  ·cases h
 ·cases h
theorem aoK {n:Nat}{m r:R}{v:Value}{k:IntKind}(t:TypeId)(hu:P.underlying t=some .string)(hm:bt w aX B m v)(h:JO n m=some r):
  ∃z,(Instr.index t v (.int k (n:Int))).run P w=.ok z w/\bt w aX B r z:=by
 unfold JO at h
 split at h
 ·rename_i s;simp only[dV] at h;obtain⟨b,ag,rfl⟩:=h
  cases hm.Dp;have aA:n<D s:=(dD.1 ag).1
  have e:(ByteArray.mk s.toArray)[n]?=some b:=by
   rw[ByteArray.getElem?_lt' _ _ (by simpa [ByteArray.size] using aA)];have:=(dD.1 ag).2;simp only[ca];rw[<-this]
   rfl
  exact⟨.int .u8 b.toNat,by simp[Instr.index,run_underlying hu,asIntOf,e],.J .int⟩
 ·cases h
theorem aoL {i:Nat}{m r:R}{v:Value}(hm:bt w aX B m v)(h:JS i m=some r):∃z,(Instr.extract v i).run P w=.ok z w/\bt w aX B r z:=by
 unfold JS at h
 split at h
 ·cases hm with
  |cM ar aa =>
   obtain⟨u,hu,ab⟩:=dq.get ⟨ar,aa⟩ h;exact⟨u,by simp[Instr.extract,hu],ab⟩
 ·simp only[dV] at h;obtain⟨d,ns,rfl⟩:=h
  cases hm with
  |J aa =>
   cases aa with
   |cM ar aa =>
    obtain⟨u,hu,ab⟩:=dq.get (dq.J ar aa) (i:=i) (m:=.J d) (by simp[ns]);exact⟨u,by simp[Instr.extract,hu],ab⟩
 ·cases h
theorem aoM {m:R}{n:Nat}{v:Value}(t ty e:TypeId)(bD:P.underlying t=some (.slice e))(hm:bt w aX B m v)(h:qo m=some n):
  (Builtin.len_ #[t] ty #[v]).run P w=.ok (.int .i64 n) w:=by
 have run:∀a c,(Builtin.len_ #[t] ty #[.slice a n c]).run P w=.ok (.int .i64 n) w:=λa c=>by
  simp[Builtin.len_,run_underlying bD,goInt]
 unfold qo at h
 split at h<;>cases h
 ·cases hm with
  |J aa =>
   cases aa with
   |lO=>exact run _ _
   |Y=>exact run _ _
 ·cases hm with
  |nil=>exact run _ _
 ·cases hm with
  |ref he bc ak=>obtain⟨a,cap,rfl,_⟩:=ak;exact run _ _
theorem aoN {m:R}{n:Nat}{v:Value}(t ty:TypeId)(bD:P.underlying t=some .string)(hm:bt w aX B m v)(h:zq m=some n):
  (Builtin.len_ #[t] ty #[v]).run P w=.ok (.int .i64 n) w:=by
 unfold zq at h
 split at h<;>cases h
 rename_i s
 cases hm.Dp;have e:(ByteArray.mk s.toArray).size=D s:=by simp[ByteArray.size]
 simp[Builtin.len_,run_underlying bD,goInt,e]
theorem ac9 {kh:Bool}{m n r:R}{u v:Value}(tt:Array TypeId)(t:TypeId)(hm:bt w aX B m u)(aK:bt w aX B n v)(h:JT kh m n=some r):
  ∃z,(if kh=true then Builtin.max_ tt t #[u,v] else Builtin.min_ tt t #[u,v]).run P w=.ok z w/\bt w aX B r z:=by
 unfold JT at h
 split at h
 ·split at h
  ·rename_i Q;subst Q
   cases h
   cases hm.ya
   cases aK.ya
   cases kh
   ·exact⟨_,by simp[run_min_int2],.J .int⟩
   ·exact⟨_,by simp[run_max_int2],.J .int⟩
  ·cases h
 ·cases h
theorem aoO {m r:R}{v:Value}(hm:bt w aX B m v)(h:JK m=some r):(∃b off,v=.pointer (some ⟨b,off,none⟩))/\bt w aX B r v:=by
 unfold JK at h
 split at h
 ·cases h;refine⟨?_,hm⟩
  cases hm with
  |ptr he bc ak=>obtain⟨b,rfl,_⟩:=ak;exact⟨_,_,rfl⟩
 ·cases h;refine⟨?_,hm⟩
  cases hm with
  |J aa=>cases aa;exact⟨_,_,rfl⟩
 ·cases h
theorem FZ {x:R}{n y:Nat}{v:Value}(code:BoundsCode)(O:idx x=some n)(ak:bt w aX B x v)(aK:n<=y):(Instr.sliceBound v y code).run P w=.ok n w:=by
 obtain⟨k,rfl⟩:=FY O ak
 simpa using run_sliceBound (P:=P) w k (n:Int) y code (by omega) (by omega)
def rn (w:World)(aX:Nat->Prop)(B:Lay):Option R->Option Value->Prop
 |none,none=>True
 |some m,some v=>bt w aX B m v
 |_,_=>False
theorem Tn {len cap l h:Nat}{cz M:Option R}{k1 k2:Option Value}(To:Bool)(fV:jI 0 cz=some l)(jg:jI len M=some h)
  (m4:rn w aX B cz k1) (lQ:rn w aX B M k2) (ar:l<=h) (aR:h<=cap):(Instr.sliceBounds To len cap k1 k2 none).run P w=.ok (l,h,cap) w:=by
 unfold Instr.sliceBounds
 cases cz with
 |none =>
  cases k1 with
  |some v=>exact m4.elim
  |none =>
   simp[jI] at fV;subst fV
   cases M with
   |none =>
    cases k2 with
    |some v=>exact lQ.elim
    |none=>simp[jI] at jg;subst jg;simp
   |some m =>
    cases k2 with
    |none=>exact lQ.elim
    |some v =>
     have aD:=λcode=>FZ (P:=P) (y:=cap) code jg lQ aR
     cases To<;>simp[aD]
 |some Dt =>
  cases k1 with
  |none=>exact m4.elim
  |some bh =>
   have az:=λcode=>FZ (P:=P) (y:=h) code fV m4 ar
   cases M with
   |none =>
    cases k2 with
    |some v=>exact lQ.elim
    |none=>simp[jI] at jg;subst jg;simp[az]
   |some m =>
    cases k2 with
    |none=>exact lQ.elim
    |some v =>
     have aD:=λcode=>FZ (P:=P) (y:=cap) code jg lQ aR
     cases To<;>simp[az,aD]
theorem aoP {len cap l h m:Nat}{cz:Option R}{M kh:R}{k1:Option Value}{k2 zC:Value}(fV:jI 0 cz=some l)(jg:idx M=some h)(h3:idx kh=some m)
  (m4:rn w aX B cz k1) (lQ:bt w aX B M k2) (F6:bt w aX B kh zC) (ar:l<=h) (aR:h<=m) (hm:m<=cap):(Instr.sliceBounds true len cap k1 (some k2) (some zC)).run P w=.ok (l,h,m) w:=by
 have bC:=FZ (P:=P) (y:=cap) .slice3Acap h3 F6 hm;have aD:=FZ (P:=P) (y:=m) .slice3B jg lQ aR;unfold Instr.sliceBounds
 cases cz with
 |none =>
  cases k1 with
  |some v=>exact m4.elim
  |none =>
   simp[jI] at fV;subst fV;simp[bC,aD]
 |some Dt =>
  cases k1 with
  |none=>exact m4.elim
  |some bh =>
   have az:=FZ (P:=P) (y:=h) .slice3C fV m4 ar;simp[bC,aD,az]
theorem Oc {m:R}{n:Nat}{v:Value}(hm:bt w aX B m v)(h:qo m=some n):∃a c,v=.slice a n c/\n<=c:=by
 unfold qo at h
 split at h<;>cases h
 ·cases hm with
  |J aa =>
   cases aa with
   |lO=>exact⟨_,_,rfl,by simp⟩
   |Y val ar=>exact⟨_,_,rfl,ar⟩
 ·cases hm with
  |nil=>exact⟨_,_,rfl,by simp⟩
 ·cases hm with
  |ref he bc ak=>obtain⟨a,cap,rfl,F,_⟩:=ak;exact⟨_,_,rfl,F⟩
theorem ada {t e:TypeId}{sz l h iO:Nat}{a:Option Addr}{len cap:Nat}{k1 k2 zC:Option Value}(bD:P.underlying t=some (.slice e))(U:gm P e=some sz)
  (ag:(Instr.sliceBounds true len cap k1 k2 zC).run P w=.ok (l,h,iO) w) :
  (Instr.sliceAt t (.slice a len cap) k1 k2 zC).run P w=.ok (.slice (if iO=l then a else a.map (·.add (l*sz))) (h-l) (iO-l)) w:=by
 simp[Instr.sliceAt,Instr.slice,run_underlying bD,ag,vd U]
theorem aoQ {es:List (List Data)}{sz:Nat}(e2:∀e∈es,D e=sz)(l:Nat):(es.drop l).flatten=es.flatten.drop (l*sz):=by
 induction es generalizing l with
 |nil=>simp
 |cons a r ay =>
  cases l with
  |zero=>simp
  |succ l =>
   have aN:=e2 a (by simp);rw[List.drop_succ_cons,ay (λx O=>e2 x (by simp[O])) l,jt,List.drop_append,aN];have F:a.drop ((l+1)*sz)=[]:=kY (by rw[aN,ts];omega);rw[F,List.nil_append]
   congr 1
   rw[ts];omega
theorem aoR {es:List (List Data)}{sz:Nat}(e2:∀e∈es,D e=sz)(l:Nat):(es.take l).flatten=es.flatten.take (l*sz):=by
 induction es generalizing l with
 |nil=>simp
 |cons a r ay =>
  cases l with
  |zero=>simp
  |succ l =>
   have aN:=e2 a (by simp);rw[List.take_succ_cons,jt,ay (λx O=>e2 x (by simp[O])) l,jt,F7,aN];have F:a.take ((l+1)*sz)=a:=dB (by rw[aN,ts];omega);rw[F]
   congr 2
   rw[ts];omega
theorem adb {es:List (List Data)}{a:Option Addr}{len c sz l h cc:Nat}(aa:Den w aX (.Y es) (.slice a len c))(ar:l<=h)(aR:h<=D es)(e2:0<(D es)->∀e∈es,D e=sz)(H:h-l<=cc):
  l=h\/Den w aX (.Y ((es.take h).drop l)) (.slice (a.map (·.add (l*sz))) (h-l) cc):=by
 rcases Od ar with rfl|aA
 ·exact .inl rfl
 ·refine .inr ?_
  cases aa with
  |lO=>simp at aR;omega
  | @Y es b off c ev val Oa hm ag fG hsz' pg Bo =>
   have h4:0<D es:=by omega
   have J5:ev=sz:=by
    have ao:=ph (l:=es) (n:=0) h4;rw[<-hsz' _ ao,e2 h4 _ ao]
   subst J5;have hlen:((es.take h).drop l).length=h-l:=by simp;omega
   have hmul:l*ev+(h-l)*ev<=D es*ev:=by
    rw[<-qn];exact vg _ (by omega)
   have:=Den.Y (w:=w) (aX:=aX) (es:=(es.take h).drop l) (b:=b) (off:=off+l*ev) (c:=cc) (sz:=ev) (λi=>val (l*ev+i)) (by rw[hlen];exact H) (by rw[hlen];omega) ag fG
    (λe he=>hsz' e (F8 (List.mem_of_mem_drop he)))
    (λi M=>by
     rw[hlen] at M;have:=pg (l*ev+i) (by omega);rwa [<-qu] at this)
    (λi d kZ=>by
     refine Bo _ d ?_;rw[aoQ (λe he=>hsz' e (F8 he)) l,aoR hsz' h] at kZ;rw[k3,vc] at kZ
     split at kZ
     ·exact kZ
     ·cases kZ)
   rw[hlen] at this
   simpa [zA] using this
end
section
variable {P:Program} {w:World} {aX:Nat->Prop} {B:Lay}
theorem Tp {sz:Nat}{es:List (List Data)}(h:nY sz es=true):∀e∈es,D e=sz:=λe he=>by
 simpa using jh.1 h e he
theorem aoS {t e:TypeId}{sz l h len:Nat}{m r:R}{v:Value}{k1 k2:Option Value}{cz M:Option R}(bD:P.underlying t=some (.slice e))(U:gm P e=some sz)
  (fV:jI 0 cz=some l) (hlen:qo m=some len) (jg:jI len M=some h) (m4:rn w aX B cz k1) (lQ:rn w aX B M k2) (hm:bt w aX B m v) (ab:JP sz l h m=some r) :
  ∃z,(Instr.sliceAt t v k1 k2 none).run P w=.ok z w/\bt w aX B r z:=by
 obtain⟨a,cap,rfl,F9⟩:=Oc hm hlen
 have run:l<=h->h<=len->(Instr.sliceAt t (.slice a len cap) k1 k2 none).run P w=.ok (.slice (if cap=l then a else a.map (·.add (l*sz))) (h-l) (cap-l)) w:=λF I =>
  ada bD U (Tn true fV jg m4 lQ F (by omega))
 unfold JP at ab
 split at ab
 ·rename_i es
  split at ab
  ·rename_i H;obtain⟨F,I,af⟩:=H
   cases ab;simp only[qo,ca] at hlen;subst hlen;refine⟨_,run F I,.J ?_⟩
   cases hm with
   |J aa =>
    rcases adb (sz:=sz) aa F I (λ_=>Tp af) (cc:=cap-l) (by omega) with rfl|aG
    ·rw[show ((es.take l).drop l)=[] from by simp]
     rw[mC];exact .lO
    ·rcases Od F with rfl|aA
     ·rw[show ((es.take l).drop l)=[] from by simp]
      rw[mC];exact .lO
     ·rw[ah (by omega)];exact aG
  ·cases ab
 ·split at ab
  ·rename_i H;obtain⟨rfl,rfl⟩:=H
   cases ab
   cases hm with
   |nil=>exact⟨_,run (by omega) (by omega),by simpa using bt.nil⟩
  ·cases ab
 ·split at ab
  ·rename_i k g ev off Tq H;obtain⟨rfl,F,I⟩:=H
   cases ab;simp only[qo,ca] at hlen;subst hlen
   cases hm with
   |ref he bc ak =>
    refine⟨_,run F I,.ref he bc ?_⟩;obtain⟨kE,aGB,ki,oJ,aGC,aoT⟩:=ak
    injection ki with az aD bZ
    subst az;subst bZ
    refine⟨_,cap-l,rfl,by omega,by omega,?_⟩
    rcases k4 (cap-l) with ao|ao
    ·exact .inl ao
    ·refine .inr ?_;rcases aoT with aO|⟨b,rfl,br⟩
     ·omega
     ·refine⟨b,by rw[ah (by omega)];simp[zA],λb7=>?_⟩
      obtain⟨bR,bN⟩:=br b7;refine⟨bR,?_⟩;rw[qu,<-qn];rwa [show l+(cap-l)=cap from by omega]
  ·cases ab
 ·cases ab
theorem aoU {t e:TypeId}{sz l h iO:Nat}{m r:R}{v:Value}{k1:Option Value}{k2 zC:Value}{cz:Option R}{M kh:R}(bD:P.underlying t=some (.slice e))(U:gm P e=some sz)
  (fV:jI 0 cz=some l) (jg:idx M=some h) (h3:idx kh=some iO) (m4:rn w aX B cz k1) (lQ:bt w aX B M k2) (F6:bt w aX B kh zC) (hm:bt w aX B m v) (ab:JQ sz l h iO m=some r) :
  ∃z,(Instr.sliceAt t v k1 (some k2) (some zC)).run P w=.ok z w/\bt w aX B r z:=by
 have run:∀a len cap,l<=h->h<=iO->iO<=len->len<=cap->(Instr.sliceAt t (.slice a len cap) k1 (some k2) (some zC)).run P w=.ok (.slice (if iO=l then a else a.map (·.add (l*sz))) (h-l) (iO-l)) w :=
  λa len cap F I af aO=>ada bD U (aoP fV jg h3 m4 lQ F6 F I (by omega))
 unfold JQ at ab
 split at ab
 ·rename_i es
  split at ab
  ·rename_i H;obtain⟨F,I,af,aO⟩:=H;obtain⟨a,cap,rfl,F9⟩:=Oc hm (n:=D es) rfl;refine⟨_,run a _ cap F I af F9,?_⟩
   split at ab
   ·rename_i mD
    cases ab;subst mD;have:h=iO:=by omega
    subst this
    simpa using bt.nil
   ·rename_i mD
    cases ab;rw[ah mD]
    cases hm with
    |J aa =>
     refine .J ?_;rcases Od F with rfl|aA
     ·rw[show ((es.take l).drop l)=[] from by simp]
      rw[mC];exact .lO
     ·rcases adb (sz:=sz) aa F (by omega) (λ_=>Tp aO) (cc:=iO-l) (by omega) with ao|aG
      ·omega
      ·exact aG
  ·cases ab
 ·split at ab
  ·rename_i H;obtain⟨rfl,rfl,rfl⟩:=H
   cases ab;obtain⟨a,cap,rfl,F9⟩:=Oc hm (n:=0) rfl;exact⟨_,run a _ cap (by omega) (by omega) (by omega) F9,by simpa using bt.nil⟩
  ·cases ab
 ·rename_i k g ev off len
  split at ab
  ·rename_i H;obtain⟨F,I,af,rfl⟩:=H
   cases ab;obtain⟨a,cap,rfl,F9⟩:=Oc hm (n:=len) rfl;have:h=iO:=by omega
   subst this;exact⟨_,run a _ cap (by omega) (by omega) (by omega) F9,by simpa using bt.nil⟩
  ·cases ab
 ·cases ab
theorem aoV {t:TypeId}{l h len:Nat}{m r:R}{v:Value}{k1 k2:Option Value}{cz M:Option R}(bD:P.underlying t=some .string)
  (fV:jI 0 cz=some l) (hlen:zq m=some len) (jg:jI len M=some h) (m4:rn w aX B cz k1) (lQ:rn w aX B M k2) (hm:bt w aX B m v) (ab:JR l h m=some r) :
  ∃z,(Instr.sliceAt t v k1 k2 none).run P w=.ok z w/\bt w aX B r z:=by
 unfold JR at ab
 split at ab
 ·rename_i s
  split at ab
  ·rename_i H;obtain⟨F,I⟩:=H
   cases ab;simp only[zq,ca] at hlen;subst hlen
   cases hm.Dp;have e:(ByteArray.mk s.toArray).size=D s:=by simp[ByteArray.size]
   have ag:=Tn (P:=P) (w:=w) (aX:=aX) (B:=B) (cap:=D s) false fV jg m4 lQ F I
   have O:(ByteArray.mk s.toArray).extract l h=⟨((s.take h).drop l).toArray⟩:=by
    rw[ByteArray.extract_mk,ade]
   exact⟨.string ⟨((s.take h).drop l).toArray⟩,by simp[Instr.sliceAt,Instr.slice,run_underlying bD,e,ag,O],.J .str⟩
  ·cases ab
 ·cases ab
theorem adf (off:Nat):∀(l:List Value) (k:Nat) (cs:Array Value),off+k+D l<=cs.size ->
  (l.zipIdx k).foldl (λ(cs:Array Value) (p:Value×Nat)=>cs.setIfInBounds (off+p.2) p.1) cs=(cs.toList.take (off+k)++l++cs.toList.drop (off+k+D l)).toArray
 | [],k,cs,_=>by simp
 |a::l,k,cs,h=>by
  rw[List.zipIdx_cons,Ga];have cy:off+k<cs.size:=by simp at h;omega
  rw[adf off l (k+1) (cs.setIfInBounds (off+k) a) (by simp at h ⊢;omega)];apply Array.ext';simp only[Array.toList_setIfInBounds];have:=list_seg_step cs.toList (off+k) a l (by simp at h ⊢;omega)
  simpa [qu] using this
theorem Oe {place:Nat->Option (Nat×Nat)}{ρ:Operand->Value}{tm:Nat->R}(hρ:∀x y,dO x=some y->bt w aX B (ba tm y) (ρ x)):
  ∀(ps:List (Nat×Operand)) (eE:List (Nat×Nat×bU)) (cs r:List R) (vs:Array Value),partsOf place ps=some eE->dq w aX B cs vs.toList->kC (ba tm) cs eE=some r ->
   ∃oK:Array Value,Instr.fill place vs (ps.map λp=>(p.1,ρ p.2))=some oK/\dq w aX B r oK.toList
 | [],eE,cs,r,vs,aG,b2,h=>by
  simp[partsOf] at aG;subst aG;simp[kC] at h;subst h;exact⟨vs,rfl,b2⟩
 |(i,x)::ps,eE,cs,r,vs,aG,b2,h=>by
  simp only[partsOf,ju,ha,hk,eo,ca] at aG;obtain⟨q,aL,aoW,Bp,rfl⟩:=aG;obtain⟨⟨o,s⟩,pj,y,aw,rfl⟩:=aL;simp only[kC] at h
  split at h
  ·rename_i H;obtain⟨ao,F,I⟩:=H;have qw:=hρ x y aw;have aoX:ba tm y ≠ .undef:=λe=>by rw[e] at ao;simp[R.known] at ao
   ·have lR:=dq.Tl qw aoX;have e2:(ρ x).cells.size=s:=by have:=lR.1;simp at this;omega
    have J6:o+s<=vs.size:=by have:=b2.1;simp at this;omega
    have gJ:=adf o (ρ x).cells.toList 0 vs (by simp[e2];exact J6);simp only[n1,Array.length_toList] at gJ;have Tr:=b2.kU lR o;obtain⟨oK,aH,Gb⟩:=Oe hρ ps aoW _ r ((vs.toList.take o++(ρ x).cells.toList++vs.toList.drop (o+(ρ x).cells.size)).toArray) Bp (by simpa using Tr) h;refine⟨oK,?_,Gb⟩;simp only[List.map_cons,Instr.fill,pj];rw[ah (by simp[e2];omega)]
    have aV:(ρ x).cells.zipIdx.foldl (λcs (p:Value×Nat)=>cs.setIfInBounds (o+p.2) p.1) vs=(vs.toList.take o++(ρ x).cells.toList++vs.toList.drop (o+(ρ x).cells.size)).toArray:=by
     rw[<-Array.foldl_toList,Array.toList_zipIdx];exact gJ
    rw[<-aH]
    congr 1
  ·cases h
end
section
variable {P:Program} {A:Nat->Prop} {w:World} {B:Lay} {mem:Mem}
theorem Du {aX:Nat->Prop}{t:TypeId}{z:List R}(h:zeroOf P t=some z):∃i iP,P.info? t=some i/\i.zero=some iP/\dq w aX B z iP.cells.toList:=by
 simp only[zeroOf,eo] at h;obtain⟨iP,⟨i,M,aV⟩,hm⟩:=h;obtain⟨F,I⟩:=oI hm;exact⟨i,iP,M,aV,by simp[F],λj m v aoY J7=>Tj (I j v m J7 aoY)⟩
theorem J8 {t:TypeId}{i:TypeInfo}{iP:Value}(M:P.info? t=some i)(aV:i.zero=some iP):(zeroValue t).run P w=.ok iP w:=by
 simp[zeroValue,typeInfo,M,aV]
theorem adg {t:TypeId}{i:TypeInfo}{n:Nat}(M:P.info? t=some i)(U:gm P t=some n):i.size=n:=by
 simpa [gm,M] using U
theorem adh {t:TypeId}{i:TypeInfo}{n:Nat}(M:P.info? t=some i)(U:FO P t=some n):i.bytes=n:=by
 simpa [FO,M] using U
theorem Of {z:Array Value}(ao:0<z.size):∀n,((Array.range (n*z.size)).map (z[·%z.size]!)).toList=(dG n z.toList).flatten
 |0=>by simp
 |n+1=>by
  have ay:=Of ao n;apply qx;intro i
  have az:∀m i,((Array.range (m*z.size)).map (z[·%z.size]!)).toList[i]?=if i<m*z.size then some (z[i%z.size]!) else none:=by
   intro m i;rw[Array.getElem?_toList,Array.getElem?_map]
   by_cases M:i<m*z.size
   ·rw[ad M,Array.getElem?_range];simp[M]
   ·rw[ah M,Array.getElem?_range];simp[M]
  rw[az,List.replicate_succ',List.flatten_append,FW,<-ay];have el:((Array.range (n*z.size)).map (z[·%z.size]!)).toList.length=n*z.size:=by simp
  rw[el];have hmul:(n+1)*z.size=n*z.size+z.size:=by rw[qn,wF]
  by_cases M:i<n*z.size
  ·rw[ad M,ad (by omega),az,ad M]
  ·rw[ah M]
   by_cases n0:i<(n+1)*z.size
   ·rw[ad n0];have aA:i-n*z.size<z.size:=by omega
    have Ts:i%z.size=i-n*z.size:=by
     have e:i=(i-n*z.size)+z.size*n:=by have:=Nat.mul_comm n z.size;omega
     have aD:((i-n*z.size)+z.size*n)%z.size=i-n*z.size:=by rw[Nat.add_mul_mod_self_left,Nat.mod_eq_of_lt aA]
     rwa [<-e] at aD
    rw[Ts];simp[aA]
   ·rw[ah n0]
    symm
    rw[mB];simp;omega
theorem dq.replicate {aX:Nat->Prop}{z:List R}{adi:List Value}(h:dq w aX B z adi):∀n,dq w aX B (dG n z).flatten (dG n adi).flatten
 |0=>by simpa using dq.nil
 |n+1=>by
  rw[pO,jt,pO,jt];exact h.append (dq.replicate h n)
theorem dq.rb {cs:List R}{vs:List Value}{aQ:World}{bu:Lay}(t:Trans A w B aQ bu)(h:dq w (b6 A B) B cs vs):dq aQ (b6 A bu) bu cs vs :=
 ⟨h.1,λi m v F I=>(h.2 i m v F I).rb t⟩
theorem J9 {cs:List R}(bW:fp A w B mem)(w1:World)(f:Fr (λ_=>False) w w1)(aV:w1.heap.size=w.heap.size)(k:Key)(vs:Array Value)(T:TypeId)(ar:(D cs)<=vs.size)
  (b2:dq w (b6 A B) B cs (vs.toList.take (D cs))):eD A w B (w1.alloc (.cells vs T)) (gn B k ⟨bX mem k,some w.heap.size,vs.size⟩) (a1 mem k (bX mem k) cs) :=
 eD.alloc bW w1 f aV k vs T ar λi m hm=>by
  obtain⟨v,ak,ab⟩:=b2.get hm;rw[vc] at ak
  split at ak
  ·exact⟨v,by simpa using ak,ab⟩
  ·cases ak
theorem aoZ {t:TypeId}{z:List R}(k:Key)(bW:fp A w B mem)(aV:zeroOf P t=some z):
  ∃v aQ bu,(Instr.alloc t true (.tuple #[])).run P w=.ok v aQ/\eD A w B aQ bu (a1 mem k (bX mem k) z)/\bt aQ (b6 A bu) bu (.ptr k (bX mem k) 0) v:=by
 obtain⟨i,iP,M,tu,b2⟩:=Du (P:=P) (w:=w) (B:=B) (aX:=b6 A B) aV;have ar:(D z)=iP.cells.size:=by have:=b2.1;simp at this;omega
 refine⟨.pointer (some ⟨w.heap.size,0,none⟩),w.alloc (.cells iP.cells t),_,?_,J9 bW w (Fr.refl _ _) rfl k iP.cells t (by omega) (by rw[dB (by simp;omega)];exact b2),?_⟩
 ·simp[Instr.alloc,J8 M tu,newVar,newRow]
 ·exact .ptr (hj _ _ _) (b1 _) ⟨_,rfl,λ_=>rfl⟩
theorem ao0 {t:TypeId}{m:R}{u:Value}(k:Key)(bW:fp A w B mem)(hu:bt w (b6 A B) B m u)(Q:m.known=true):
  ∃v aQ bu,(Instr.box t u).run P w=.ok v aQ/\eD A w B aQ bu (a1 mem k (bX mem k) m.cells)/\bt aQ (b6 A bu) bu (.ptr k (bX mem k) 0) v:=by
 have b2:=dq.Tl hu (λe=>by rw[e] at Q;simp[R.known] at Q);have ar:(D m.cells)=u.cells.size:=by have:=b2.1;simp at this;omega
 refine⟨.pointer (some ⟨w.heap.size,0,none⟩),w.alloc (.cells u.cells t),_,?_,J9 bW w (Fr.refl _ _) rfl k u.cells t (by omega) (by rw[dB (by simp;omega)];exact b2),?_⟩
 ·simp[Instr.box,newVar,newRow]
 ·exact .ptr (hj _ _ _) (b1 _) ⟨_,rfl,λ_=>rfl⟩
theorem ao1 {t e:TypeId}{z:List R}{bytes n c:Nat}{dA cX:R}{qy kF:Value}{r:R}{jN:Option (Key×Nat×List R)}(k:Key)(bW:fp A w B mem)(bD:P.underlying t=some (.slice e))(aV:zeroOf P e=some z)(U:gm P e=some (D z))
  (ag:FO P e=some bytes) (F:idx dA=some n) (I:idx cX=some c) (eX:bt w (b6 A B) B dA qy) (eg:bt w (b6 A B) B cX kF) (ao:0<D z) (h:FJ k (bX mem k) z bytes n c=some (r,jN)) :
  ∃v aQ bu,(Instr.makeSlice t qy kF).run P w=.ok v aQ/\eD A w B aQ bu (ig mem jN)/\bt aQ (b6 A bu) bu r v:=by
 unfold FJ at h
 split at h
 ·rename_i H;obtain⟨rfl,Gc,wM⟩:=H
  cases h;obtain⟨cv,rfl⟩:=FY F eX;obtain⟨cS,rfl⟩:=FY I eg;obtain⟨i,iP,M,tu,b2⟩:=Du (P:=P) (w:=w) (B:=B) (aX:=b6 A B) aV;have ar:(D z)=iP.cells.size:=by have:=b2.1;simp at this;omega
  have e2:=adg M U;have Ka:=adh M ag
  have m5:=run_make (P:=P) w t e i iP bD M tu cv cS (n:Int) (n:Int) (by omega) (by omega) (by
   have:((i.bytes*n:Nat):Int)<=281474976710656:=by rw[Ka];omega
   rwa [Int.natCast_mul] at this) (by unfold maxLen at wM;omega)
  simp only[Int.toNat_natCast] at m5
  have adj:(madeCells iP.cells (n*i.size)).toList=(dG n iP.cells.toList).flatten:=by
   rw[e2,ar];exact Of (by omega) n
  have Dv:(madeCells iP.cells (n*i.size)).size=n*D z:=by rw[size_madeCells,e2]
  have Bq:=b2.replicate (n:=n)
  have hlen:(dG n z).flatten.length=n*D z:=by
   have:=Bq.1;rw[<-this,<-adj,Array.length_toList,Dv]
  refine⟨_,_,_,m5,J9 bW w (Fr.refl _ _) rfl k _ e (by rw[Dv,hlen];exact b1 _) ?_,?_⟩
  ·rw[dB (by rw[Array.length_toList,Dv,hlen];exact b1 _),adj];exact Bq
  ·refine .ref (hj _ _ _) (b1 _) ⟨_,n,rfl,b1 _,wM,.inr ⟨_,rfl,λ_=>⟨rfl,?_⟩⟩⟩;simp only[jv];rw[Dv];exact b1 _
 ·cases h
theorem Tt (bW:fp A w B mem){k:Key}{g:Nat}{cs new:List R}{e:my}{b:Nat}{vs:Array Value}{T:TypeId}{vals:List Value}{off:Nat}(Q:mem k=some (g,cs))(he:B k=some e)(ag:e.df=some b)
  (aR:w.heap[b]?=some (.cells vs T (0,0))) (e2:vs.size=e.size) (ar:(D cs)<=vs.size) (b2:dq w (b6 A B) B cs (vs.toList.take (D cs))) (b7:e.g=g) (Tu:off+D new<=D cs) (ly:dq w (b6 A B) B new vals) :
  eD A w B (w.setRow b (vs.toList.take off++vals++vs.toList.drop (off+D vals)).toArray) B (a1 mem k g (kU cs off new)):=by
 have Tv:(D vals)=D new:=ly.1
 have Tr:dq w (b6 A B) B (kU cs off new) ((vs.toList.take off++vals++vs.toList.drop (off+D vals)).take (D cs)):=by
  have F:=b2.kU ly off
  have az:(vs.toList.take (D cs)).take off++vals++(vs.toList.take (D cs)).drop (off+D vals)=(vs.toList.take off++vals++vs.toList.drop (off+D vals)).take (D cs):=by
   have mE:(D vs.toList)=vs.size:=Array.length_toList;rw[List.take_take,oL (by omega),ade,F7,fr,fI,mE,oL (a:=off) (b:=vs.size) (by omega)];rw[dB (l:=vs.toList.take off++vals) (by rw[fr,fI,mE];omega)]
  rwa [az] at F
 have Gd:(kU cs off new).length=D cs:=by unfold kU;simp;omega
 have heq:gn B k e=B:=by
  funext j
  unfold gn
  split
  ·rename_i ai;rw[ai,he]
  ·rfl
 have f:Fr (λb=>∃e,B k=some e/\e.df=some b) w (w.setRow b (vs.toList.take off++vals++vs.toList.drop (off+D vals)).toArray):=by
  refine⟨rfl,rfl,rfl,by simp,λj ai bM=>?_⟩
  exact setRow_other w b j _ (λOg=>bM ⟨e,he,by rw[ag,Og]⟩)
 have:=eD.change (k:=k) (e':=e) (cs:=kU cs off new) bW f (λaD fs => .inl (by rw[he] at fs;exact nt fs)) (λeK eJ => .inr ⟨e,he,eJ⟩) (λaK=>by rw[ag] at aK;cases aK) (λeK eJ=>by
  rw[ag] at eJ
  cases eJ;refine⟨_,T,setRow_heap w b vs _ T (0,0) aR,by simp;omega,by rw[Gd];simp;omega,λi m hm=>?_⟩
  obtain⟨v,ak,ab⟩:=Tr.get hm;rw[vc] at ak
  split at ak
  ·exact⟨v,by simpa using ak,ab⟩
  ·cases ak)
 rw[heq,b7] at this;exact this
theorem ao2 {t:TypeId}{n:Nat}{dA cX:R}{qy kF:Value}{r:R}{jN:Option (Key×Nat×List R)}(bW:fp A w B mem)(U:gm P t=some n)(eX:bt w (b6 A B) B dA qy)(eg:bt w (b6 A B) B cX kF)
  (h:x2 mem n dA cX.cells=some (r,jN)):∃aQ,(Instr.storeAt t qy kF).run P w=.ok () aQ/\eD A w B aQ B (ig mem jN)/\r=.no:=by
 cases dA with
 |ptr k g off =>
  simp only[x2] at h;unfold JV at h
  split at h
  ·rename_i c8 cs Q
   split at h
   ·rename_i H;obtain⟨rfl,F,I,af⟩:=H
    cases h;obtain⟨e,he,b7,aK,ag⟩:=bW.at_ Q
    cases eX with
    |ptr gg Bn aG =>
     rw[he] at gg
     cases gg;obtain⟨b,rfl,jL⟩:=aG;have jL:=jL b7.symm;obtain⟨vs,T,aR,e2,ar,b2⟩:=ag b jL;have gz:cX ≠ .undef:=λe=>by rw[e] at af;simp[R.cells,R.one] at af
     have lR:=dq.Tl eg gz
     have ao3:∀v∈kF.cells.toList,v.oneCell'=true:=by
      intro v ak;obtain⟨i,M,jO⟩:=Kb ak;have kj:i<D cX.cells:=by rw[<-lR.1];exact M
      have:=lR.2 i _ _ (bz kj) (bz M);rw[jO] at this;exact ac2 this (jh.1 af _ (ph kj))
     have aGD:kF.cells.size=n:=by have:=lR.1;simp at this;omega
     have dE:=run_storeCells_at P b off T kF.cells.toList 0 vs w aR (by simp;omega) ao3;simp only[n1] at dE;refine⟨_,?_,Tt bW Q he jL aR e2 ar b2 b7 (by omega) lR,rfl⟩;have bE:¬ (kF.cells.size≠n):=by omega
     simp only[Instr.storeAt,Instr.sureAddr,storeVar,Sem.run_bind,Sem.run_pure,Result.andThen_ok,vd U];rw[ah bE];exact dE
   ·cases h
  ·cases h
 |_=>simp[x2] at h
end
section
variable {P:Program} {A:Nat->Prop} {w:World} {B:Lay} {mem:Mem}
theorem Oh (sz:Nat):∀(n:Nat) (l:List Data),(chunk sz n l).length=n
 |0,_=>rfl
 |n+1,l=>by simp[chunk,Oh sz n]
theorem Oi (sz:Nat):∀(n:Nat) (l:List Data),D l=n*sz->∀e∈chunk sz n l,D e=sz
 |0,_,_,e,he=>by simp[chunk] at he
 |n+1,l,ar,e,he=>by
  have hmul:(n+1)*sz=n*sz+sz:=by rw[qn,wF]
  simp only[chunk,List.mem_cons] at he;rcases he with rfl|he
  ·simp;omega
  ·exact Oi sz n _ (by simp;omega) e he
theorem Oj (sz:Nat):∀(n:Nat) (l:List Data),D l=n*sz->(chunk sz n l).flatten=l
 |0,l,ar=>by simp at ar;simp[chunk,ar]
 |n+1,l,ar=>by
  have hmul:(n+1)*sz=n*sz+sz:=by rw[qn,wF]
  simp only[chunk,jt];rw[Oj sz n _ (by simp;omega),List.take_append_drop]
theorem adk {aX:Nat->Prop}{m:R}{d:Data}{v:Value}(h:u6 m=some d)(ak:bt w aX B m v):Den w aX d v:=by
 unfold u6 at h
 split at h<;>cases h
 ·cases ak with
  |J h=>exact h
 ·cases ak with
  |nil=>exact .lO
theorem ao4 {ds:List Data}{vs:Array Value}{T:TypeId}{n sz:Nat}(bW:fp A w B mem)(aQ:World)(hw:aQ=w.alloc (.cells vs T))(ar:(D ds)=n*sz)(ak:vs.size=n*sz)(hm:n<=maxLen)
  (aa:∀(i:Nat) (d:Data) (v:Value),ds[i]?=some d->vs[i]?=some v->Den w (b6 A B) d v):Den aQ (b6 A B) (.Y (chunk sz n ds)) (.slice (some ⟨w.heap.size,0,none⟩) n n):=by
 have ok:eD A w B aQ B mem:=by rw[hw];exact .still bW ((Fr.refl _ _).alloc _)
 have eL:=Oh sz n ds
 have h:=Den.Y (w:=aQ) (aX:=b6 A B) (es:=chunk sz n ds) (b:=w.heap.size) (off:=0) (c:=n) (sz:=sz) (λi=>vs.getD i undef) (by rw[eL];exact b1 _) (by rw[eL];exact hm)
  (by rw[hw];simp) (λbM=>by
   rcases bM with bM|bM
   ·have:=bW.x1 bM;omega
   ·have:=bW.lt _ bM;omega) (Oi sz n ds ar)
  (λi M=>by
   rw[eL] at M;rw[hw,jv];have:i<vs.size:=by omega
   simp[this])
  (λi d kZ=>by
   rw[Oj sz n ds ar] at kZ;have aA:i<D ds:=(dD.1 kZ).1;have kG:i<vs.size:=by omega
   have:vs.getD i undef=vs[i]:=by simp[kG]
   simp only[this];exact (aa i d _ kZ (Array.getElem?_eq_getElem kG)).trans ok.m2)
 rw[eL] at h;exact h
theorem adl {t e:TypeId}{z r:List R}{sz len:Nat}{ps:List (Nat×Operand)}{eE:List (Nat×Nat×bU)}{ρ:Operand->Value}{tm:Nat->R}{aX:Nat->Prop}(bD:P.underlying t=some (.slice e))(aV:zeroOf P e=some z)
  (U:gm P e=some sz) (wN:(D z)=sz) (ao:0<sz) (ar:len*sz<=16777216) (aG:partsOf (λi=>some (i*sz,sz)) ps=some eE) (hρ:∀x y,dO x=some y->bt w aX B (ba tm y) (ρ x))
  (h:kC (ba tm) (dG len z).flatten eE=some r) :
  ∃vs:Array Value,(Instr.buildSlice t len (ps.map λp=>(p.1,ρ p.2)).toArray).run P w=.ok (.slice (some ⟨w.heap.size,0,none⟩) len len) (w.alloc (.cells vs e))/\dq w aX B r vs.toList:=by
 obtain⟨i,iP,M,tu,b2⟩:=Du (P:=P) (w:=w) (B:=B) (aX:=aX) aV;have Ge:iP.cells.size=sz:=by have:=b2.1;simp at this;omega
 have adm:=Of (z:=iP.cells) (by omega) len;rw[Ge] at adm;have Bq:=b2.replicate (n:=len);rw[<-adm] at Bq;obtain⟨oK,aH,ab⟩:=Oe (place:=λi=>some (i*sz,sz)) hρ ps eE _ r _ aG Bq h;refine⟨oK,?_,ab⟩;have aK:¬ (len*sz>2^24):=by omega
 by_cases vh:len*sz=0
 ·have bC:((Array.range (len*sz)).map (iP.cells[·%sz]!))=#[]:=by rw[vh];simp[Array.range_zero']
  have ao5:Instr.fill (λi=>some (i*sz,sz)) #[] (ps.map λp=>(p.1,ρ p.2))=some oK:=by rw[<-bC];exact aH
  simp only[Instr.buildSlice,Sem.run_bind,run_underlying bD,Result.andThen_ok,vd U];rw[ah aK];simp only[vh,if_true,Sem.run_bind,Sem.run_pure,Result.andThen_ok];simp[ao5,newRow,Array.range_zero']
 ·simp only[Instr.buildSlice,Sem.run_bind,run_underlying bD,Result.andThen_ok,vd U];rw[ah aK];simp only[vh,if_false,Sem.run_bind,Sem.run_pure,Result.andThen_ok,J8 M tu,Ge];simp[aH,newRow]
theorem ao6 {t e:TypeId}{z:List R}{sz len:Nat}{ps:List (Nat×Operand)}{eE:List (Nat×Nat×bU)}{ρ:Operand->Value}{tm:Nat->R}{r:R}(bW:fp A w B mem)(bD:P.underlying t=some (.slice e))(aV:zeroOf P e=some z)
  (U:gm P e=some sz) (wN:(D z)=sz) (ao:0<sz) (ar:len*sz<=16777216) (aG:partsOf (λi=>some (i*sz,sz)) ps=some eE) (hρ:∀x y,dO x=some y->bt w (b6 A B) B (ba tm y) (ρ x))
  (h:JG (dG len z).flatten sz len (kC (ba tm) (dG len z).flatten eE)=some r) :
  ∃v aQ,(Instr.buildSlice t len (ps.map λp=>(p.1,ρ p.2)).toArray).run P w=.ok v aQ/\eD A w B aQ B mem/\bt aQ (b6 A B) B r v:=by
 unfold JG at h
 split at h
 ·rename_i hlen
  cases aH:kC (ba tm) (dG len z).flatten eE with
  |none=>rw[aH] at h;cases h
  |some cs =>
   rw[aH] at h;simp only[dV] at h;obtain⟨ds,g2,rfl⟩:=h;obtain⟨vs,m5,b2⟩:=adl (P:=P) (B:=B) bD aV U wN ao ar aG hρ aH;obtain⟨F,I⟩:=oI g2
   have eL:(D cs)=len*sz:=by
    have:∀(eE:List (Nat×Nat×bU)) (a r:List R),kC (ba tm) a eE=some r->(D r)=D a:=by
     intro eE
     induction eE with
     |nil=>intro a r h;simp[kC] at h;rw[h]
     |cons q eE ay =>
      intro a r h;obtain⟨o,s,x⟩:=q;simp only[kC] at h
      split at h
      ·rename_i H;rw[ay _ _ h];unfold kU;simp;omega
      ·cases h
    rw[this _ _ _ aH,hlen]
   have aT:vs.size=len*sz:=by have:=b2.1;simp at this;omega
   refine⟨_,_,m5,.still bW ((Fr.refl _ _).alloc _),.J (ao4 bW _ rfl (by omega) aT ?_ λi d v aa ak=>?_)⟩
   ·have:len<=len*sz:=Kc _ ao;unfold maxLen;omega
   ·have aA:i<D cs:=by have:=(dD.1 aa).1;omega
    have jP:=bz aA;exact adk (I i _ d jP aa) (b2.2 i _ v jP (by simpa using ak))
 ·cases h
theorem ao7 {t e:TypeId}{z:List R}{sz len:Nat}{ps:List (Nat×Operand)}{eE:List (Nat×Nat×bU)}{ρ:Operand->Value}{tm:Nat->R}{r:R}{jN:Option (Key×Nat×List R)}(k:Key)(bW:fp A w B mem)(bD:P.underlying t=some (.slice e))(aV:zeroOf P e=some z)
  (U:gm P e=some sz) (wN:(D z)=sz) (ao:0<sz) (ar:len*sz<=16777216) (aG:partsOf (λi=>some (i*sz,sz)) ps=some eE) (hρ:∀x y,dO x=some y->bt w (b6 A B) B (ba tm y) (ρ x))
  (h:FI k (bX mem k) (dG len z).flatten sz len (kC (ba tm) (dG len z).flatten eE)=some (r,jN)) :
  ∃v aQ bu,(Instr.buildSlice t len (ps.map λp=>(p.1,ρ p.2)).toArray).run P w=.ok v aQ/\eD A w B aQ bu (ig mem jN)/\bt aQ (b6 A bu) bu r v:=by
 unfold FI at h
 split at h
 ·rename_i hlen
  cases aH:kC (ba tm) (dG len z).flatten eE with
  |none=>rw[aH] at h;cases h
  |some cs =>
   rw[aH] at h
   cases h;obtain⟨vs,m5,b2⟩:=adl (P:=P) (B:=B) bD aV U wN ao ar aG hρ aH
   have eL:(D cs)=len*sz:=by
    have:∀(eE:List (Nat×Nat×bU)) (a r:List R),kC (ba tm) a eE=some r->(D r)=D a:=by
     intro eE
     induction eE with
     |nil=>intro a r h;simp[kC] at h;rw[h]
     |cons q eE ay =>
      intro a r h;obtain⟨o,s,x⟩:=q;simp only[kC] at h
      split at h
      ·rename_i H;rw[ay _ _ h];unfold kU;simp;omega
      ·cases h
    rw[this _ _ _ aH,hlen]
   have aT:vs.size=D cs:=by have:=b2.1;simp at this;omega
   refine⟨_,_,_,m5,J9 bW w (Fr.refl _ _) rfl k vs e (by omega) (by rw[dB (by simp;omega)];exact b2),?_⟩
   have h3:len<=maxLen:=by
    have:len<=len*sz:=Kc _ ao;unfold maxLen;omega
   exact .ref (hj _ _ _) (b1 _) ⟨_,len,rfl,b1 _,h3,.inr ⟨_,rfl,λ_=>⟨rfl,by simp only[jv];omega⟩⟩⟩
 ·cases h
theorem adn {m:R}{sz n:Nat}{new:List R}{v:Value}(bW:fp A w B mem)(ak:bt w (b6 A B) B m v)(h:qq mem sz m=some (n,new)):
  ∃a c vals,v=.slice a n c/\dq w (b6 A B) B new vals/\D vals=n*sz/\(0<n->∃b off,a=some ⟨b,off,none⟩/\At w b off vals):=by
 unfold qq at h
 split at h
 ·split at h
  ·rename_i es tv
   cases h;have tv:=Tp tv
   cases ak with
   |J aa =>
    cases aa with
    |lO=>exact⟨_,_,[],rfl,by simpa using dq.nil,by simp,λh=>by simp at h⟩
    | @Y es b off c ev val ar hm ag fG e2 H Bo =>
     have jQ:=NV tv;rcases k4 (D es) with ao|ao
     ·have:es=[]:=oM ao;subst this;exact⟨_,_,[],rfl,by simpa using dq.nil,by simp,λh=>by simp at h⟩
     ·have J5:ev=sz:=by
       have kH:=ph (l:=es) (n:=0) ao;rw[<-e2 _ kH,tv _ kH]
      subst J5;refine⟨_,_,(dW (D es*ev)).map val,rfl,?_,by simp,λ_=>⟨b,off,rfl,λj u ai=>?_⟩⟩
      ·refine dq.J (by simp[jQ]) λi d u F I=>?_;have M:i<D es*ev:=by have:=(dD.1 F).1;omega
       rw[bn,tr M] at I;simp only[k5,ca] at I;subst I;exact Bo i d F
      ·have M:j<D es*ev:=by have:=(dD.1 ai).1;simpa using this
       rw[bn,tr M] at ai;simp only[k5,ca] at ai;subst ai;exact H j M
  ·cases h
 ·cases h
  cases ak with
  |nil=>exact⟨_,_,[],rfl,dq.nil,by simp,λh=>by simp at h⟩
 ·rename_i k g ev off len
  split at h
  ·rename_i e2;subst e2
   split at h
   ·rename_i c8 cs Q
    split at h
    ·rename_i bc;subst bc;simp only[dV,fD] at h;obtain⟨part,yc,rfl,rfl⟩:=h;obtain⟨ar,rfl,aK⟩:=FX yc
     cases ak with
     |ref he bc ab =>
      obtain⟨e,gg,b7,Ds,ag⟩:=bW.at_ Q;rw[he] at gg
      cases gg;obtain⟨a,cap,rfl,F,I,af⟩:=ab;rcases af with af|⟨b,rfl,aO⟩
      ·have:len=0:=by omega
       subst this;exact⟨_,_,[],rfl,by simpa using dq.nil,by simp,λh=>by omega⟩
      ·obtain⟨br,bR⟩:=aO b7.symm;obtain⟨vs,T,aR,aV,hle,b2⟩:=ag b br;refine⟨_,_,((vs.toList.take (D cs)).drop off).take (len*ev),rfl,(b2.drop off).take _,by have:=((b2.drop off).take (len*ev)).1;omega,λ_=>⟨b,off,rfl,?_⟩⟩
       have:=(((At.row aR).take (D cs)).add off).take (len*ev)
       simpa using this
    ·cases h
   ·cases h
  ·cases h
 ·cases h
theorem Ol {sz n c:Nat}{a:Option Addr}{vals:List Value}(ar:(D vals)=n*sz)(cj:0<n->∃b off,a=some ⟨b,off,none⟩/\At w b off vals)(aQ:World)(hw:aQ.heap=w.heap):
  (Builtin.firstCells sz n (.slice a n c)).run P aQ = .ok vals.toArray aQ:=by
 have H:∀p,aQ.cell? p=w.cell? p:=λp=>by simp[World.cell?,hw]
 rcases k4 n with ao|ao
 ·subst ao;have:vals=[]:=oM (by simpa using ar);subst this
  cases a with
  |none=>simp[Builtin.firstCells]
  |some a=>simp[Builtin.firstCells,loadCells,loadCellsFrom]
 ·obtain⟨b,off,rfl,zD⟩:=cj ao;exact run_firstCells_some aQ sz n _ n c vals ar λj v ai=>by rw[zA,H];exact zD j v ai
theorem dq.Tw {aX:Nat->Prop}{cs:List R}{vs:List Value}(h:dq w aX B cs vs)(F:cs.all R.one=true):∀v∈vs,v.oneCell'=true:=by
 intro v ak;obtain⟨i,M,jO⟩:=Kb ak;have kj:i<D cs:=by rw[<-h.1];exact M
 have:=h.2 i _ _ (bz kj) (bz M);rw[jO] at this;exact ac2 this (jh.1 F _ (ph kj))
theorem Tx {t ty e:TypeId}{sz pk wO n c:Nat}{base a:Option Addr}{vals:List Value}(bD:P.underlying t=some (.slice e))(U:gm P e=some sz)(yd:pk+n<=wO)
  (aH:(Builtin.firstCells sz n (.slice a n c)).run P w=.ok vals.toArray w) (aQ:World)
  (dE:∀b,base=some b->(storeCells (b.add (pk*sz)) vals).run P w=.ok () aQ) (aK:base=none->aQ=w) :
  (Builtin.append_ #[t,t] ty #[.slice base pk wO,.slice a n c]).run P w=.ok (.slice base (pk+n) wO) aQ:=by
 simp only[gm,dV] at U;obtain⟨i,M,rfl⟩:=U
 cases base with
 |none=>simp[Builtin.append_,run_underlying bD,sizeOf,typeInfo,M,Builtin.lenOf,yd,aH,aK rfl]
 |some b=>simp[Builtin.append_,run_underlying bD,sizeOf,typeInfo,M,Builtin.lenOf,yd,aH,dE b rfl]
theorem ao8 {t ty e:TypeId}{sz pk wO n c bytes:Nat}{base a:Option Addr}{pP vals:List Value}{i:TypeInfo}{z:Value}(bD:P.underlying t=some (.slice e))(M:P.info? e=some i)(aV:i.zero=some z)(e2:i.size=sz)(Ka:i.bytes=bytes)
  (yd:wO<pk+n) (ve:∀aQ,aQ.heap=w.heap->(Builtin.firstCells sz pk (.slice base pk wO)).run P aQ = .ok pP.toArray aQ) (aH:∀aQ,aQ.heap=w.heap->(Builtin.firstCells sz n (.slice a n c)).run P aQ = .ok vals.toArray aQ)
  (ao9:pk+n<=maxLen) (ag:(pk+n)*bytes<=140737488355328) :
  (Builtin.append_ #[t,t] ty #[.slice base pk wO,.slice a n c]).run P w =
   .ok (.slice (some ⟨w.heap.size,0,none⟩) (pk+n) (grownCap w (pk+n) wO e))
    (w.drew.alloc (.cells (pP.toArray++vals.toArray++Builtin.zeroCells z.cells (grownCap w (pk+n) wO e-(pk+n))) e)):=by
 subst e2;subst Ka
 have aK:¬ (pk+n<=wO):=by omega
 have apa:¬ (9223372036854775807<((pk:Int)+(n:Int))):=by unfold maxLen at ao9;omega
 have J6:=growslice_fits yd ag;have apb:¬ (281474976710656<Builtin.nextslicecap (pk+n) wO*i.bytes):=by omega
 have F:=ve w.drew rfl;have I:=aH w.drew rfl;simp[Builtin.append_,run_underlying bD,sizeOf,typeInfo,zeroValue,M,aV,Builtin.lenOf,aK,apa,apb,Question.forced,F,I,newRow,grownCap,<-List.append_toArray,Array.append_assoc]
theorem apc {t ty e:TypeId}{z:List R}{bytes n:Nat}{dA cX:R}{qy kF:Value}{new:List R}{r:R}{jN:Option (Key×Nat×List R)}(k:Key)(bW:fp A w B mem)(bD:P.underlying t=some (.slice e))(aV:zeroOf P e=some z)(U:gm P e=some (D z))
  (Ka:FO P e=some bytes) (ao:0<D z) (eX:bt w (b6 A B) B dA qy) (eg:bt w (b6 A B) B cX kF) (fb:qq mem (D z) cX=some (n,new)) (h:rh mem k z bytes dA (some (n,new))=some (r,jN)) :
  ∃v aQ bu,(Builtin.append_ #[t,t] ty #[qy,kF]).run P w=.ok v aQ/\eD A w B aQ bu (ig mem jN)/\bt aQ (b6 A bu) bu r v:=by
 obtain⟨dj,c2,vals,rfl,b2,mE,cj⟩:=adn bW eg fb;obtain⟨i,iP,M,tu,apd⟩:=Du (P:=P) (w:=w) (B:=B) (aX:=b6 A B) aV;have e2:=adg M U;have jL:=adh M Ka;have Ge:iP.cells.size=D z:=by have:=apd.1;simp at this;omega
 have pQ:(D new)=n*D z:=by rw[<-b2.1,mE]
 have aH:=λaQ hw=>Ol (P:=P) (w:=w) (c:=c2) mE cj aQ hw
 -- a new block
 have grow:∀(base:Option Addr) (len cap:Nat) (g:Nat) (k':Key) (cs:List R) (pP:List Value),cap<len+n->(∀aQ,aQ.heap=w.heap->(Builtin.firstCells (D z) len (.slice base len cap)).run P aQ = .ok pP.toArray aQ) ->
   dq w (b6 A B) B cs pP->(D cs)=len*(D z)->len+n<=maxLen->(len+n)*bytes<=140737488355328->g=bX mem k' ->
   ∃v aQ bu,(Builtin.append_ #[t,t] ty #[.slice base len cap,.slice dj n c2]).run P w=.ok v aQ/\eD A w B aQ bu (a1 mem k' g (cs++new))/\bt aQ (b6 A bu) bu (.ref k' g (D z) 0 (len+n)) v:=by
  intro base len cap g k' cs pP yd ve jM eL wM Gc bc;subst bc;have m5:=ao8 (P:=P) (ty:=ty) bD M tu e2 jL yd ve aH wM Gc;have b7:=grownCap_ge w (len+n) cap e;have hle:=grownCap_le_maxLen w (len+n) cap e wM
  have Dv:(pP.toArray++vals.toArray++Builtin.zeroCells iP.cells (grownCap w (len+n) cap e-(len+n))).size=grownCap w (len+n) cap e*D z:=by
   have ye:=jM.1;simp only[Array.size_append,List.size_toArray,size_zeroCells,Ge,ye,eL,mE];rw[<-qn,<-qn]
   congr 1
   omega
  have e4:=jM.append b2;have hmul:(len+n)*D z<=grownCap w (len+n) cap e*D z:=vg _ b7;have Kd:(cs++new).length=(len+n)*D z:=by rw[fr,eL,pQ,qn]
  refine⟨_,_,_,m5,J9 (cs:=cs++new) bW w.drew ((Fr.refl _ _).drew _) rfl k' _ e (by rw[Dv,Kd];exact hmul) ?_,?_⟩
  ·have:(pP.toArray++vals.toArray++Builtin.zeroCells iP.cells (grownCap w (len+n) cap e-(len+n))).toList.take (cs++new).length=pP++vals:=by
    simp only[Array.toList_append,List.toList_toArray];rw[List.take_append_of_le_length (by rw[e4.1];exact b1 _),dB (by rw[e4.1];exact b1 _)]
   rw[this];exact e4
  ·refine .ref (hj _ _ _) (b1 _) ⟨_,_,rfl,b7,hle,.inr ⟨_,rfl,λ_=>⟨rfl,?_⟩⟩⟩;simp only[jv];rw[Dv];exact b1 _
 cases dA with
 |nil =>
  simp only[rh] at h
  split at h
  ·rename_i H;obtain⟨Gc,wM,yf⟩:=H
   cases h
   cases eX with
   | @nil c0 =>
    rcases k4 n with lz|lz
    ·subst lz;have Gf:vals=[]:=oM (by simpa using mE);have Ty:new=[]:=oM (by simpa using pQ);subst Gf;subst Ty
     refine⟨_,_,_,Tx (P:=P) (ty:=ty) bD U (b1 _) (aH w rfl) w (λb _=>by simp[storeCells]) (λ_=>rfl),eD.x9 bW k,?_⟩;exact .ref (hj _ _ _) (b1 _) ⟨_,0,rfl,b1 _,fk _,.inl rfl⟩
    ·have:=grow c0 0 0 (bX mem k) k [] [] (by omega) (λaQ hw=>by
      have:=Ol (P:=P) (w:=w) (sz:=D z) (n:=0) (c:=0) (a:=c0) (vals:=[]) (by simp) (λh=>by omega) aQ hw;exact this) dq.nil (by simp) (by omega) (by simpa using Gc) rfl
     simpa [ig] using this
  ·cases h
 |ref k' g ev off len =>
  simp only[rh] at h
  split at h
  ·rename_i H;obtain⟨rfl,rfl⟩:=H;unfold kW at h
   split at h
   ·rename_i c8 cs Q
    split at h
    ·rename_i H;obtain⟨rfl,hlen,Gc,wM,yf⟩:=H
     cases h;obtain⟨Dw,pR,b7,Ds,ag⟩:=bW.at_ Q;have vi:c8+1=bX mem k':=by simp[bX,Q]
     cases eX with
     |ref he bc ab =>
      rw[pR] at he
      cases he;obtain⟨c0,cap,rfl,F,I,af⟩:=ab
      have hold:∃pP,dq w (b6 A B) B (cs.take (len*D z)) pP/\D pP=len*D z/\(0<len->∃b off,c0=some ⟨b,off,none⟩/\At w b off pP):=by
       rcases af with af|⟨b,rfl,aO⟩
       ·have:len=0:=by omega
        subst this;exact⟨[],by simpa using dq.nil,by simp,λh=>by omega⟩
       ·obtain⟨br,bR⟩:=aO b7.symm;obtain⟨vs,T,aR,Dx,hle,zE⟩:=ag b br;refine⟨(vs.toList.take (D cs)).take (len*D z),zE.take _,by have:=(zE.take (len*D z)).1;rw[this];simp;omega,λ_=>⟨b,0,rfl,((At.row aR).take _).take _⟩⟩
      obtain⟨pP,ado,ape,adp⟩:=hold
      by_cases yd:len+n<=cap
      ·rcases af with af|⟨b,rfl,aO⟩
       ·-- no room, and nothing comes
        have rp:len=0:=by omega
        have lz:n=0:=by omega
        subst rp;subst lz;subst af
        have Gf:vals=[]:=oM (by simpa using mE);have Ty:new=[]:=oM (by simpa using pQ);subst Gf;subst Ty
        refine⟨_,_,gn B k' ⟨bX mem k',none,0⟩,Tx (P:=P) (ty:=ty) bD U (b1 _) (aH w rfl) w (λb _=>by simp[storeCells]) (λ_=>rfl),?_,?_⟩
        ·have:=eD.x9 bW k'
         simpa [ig,vi] using this
        ·rw[vi];exact .ref (hj _ _ _) (b1 _) ⟨_,0,rfl,b1 _,fk _,.inl rfl⟩
       ·obtain⟨br,bR⟩:=aO b7.symm;obtain⟨vs,T,aR,Dx,hle,zE⟩:=ag b br;have hmul:(len+n)*D z<=cap*D z:=vg _ yd;have adq:(len+n)*D z=len*D z+n*D z:=qn _ _ _;have dE:=run_storeCells_at P b (len*D z) T vals 0 vs w aR (by omega) (b2.Tw yf);simp only[n1] at dE
        have ye:pP=vs.toList.take (len*D z):=by
         apply qx;intro j;rcases ih j (len*D z) with ai|ai
         ·have h4:0<len:=by
           rcases k4 len with h|h
           ·subst h;simp at ai
           ·exact h
          obtain⟨ew,aGE,adr,Om⟩:=adp h4;simp only[ca,Addr.mk.injEq,and_true] at adr;obtain⟨rfl,rfl⟩:=adr;have vj:j<D pP:=by omega
          have pg:=Om j _ (bz vj);rw[jv,cell_of_row w b j vs T (0,0) aR] at pg;rw[bz vj,vc,ad ai,<-pg,Array.getElem?_toList]
         ·rw[mB (by omega),vc,ah (by omega)]
        have ads:(vs.toList.take (len*D z)++vals++vs.toList.drop (len*D z+D vals)).toArray.size=Dw.size:=by
         simp;omega
        have f:Fr (λb=>∃e,B k'=some e/\e.df=some b) w (w.setRow b (vs.toList.take (len*D z)++vals++vs.toList.drop (len*D z+D vals)).toArray):=by
         refine⟨rfl,rfl,rfl,by simp,λj ai bM=>?_⟩
         exact setRow_other w b j _ (λOg=>bM ⟨Dw,pR,by rw[br,Og]⟩)
        have Kd:(cs.take (len*D z)++new).length=len*D z+D vals:=by
         rw[fr,pQ,mE,fI,oL hlen]
        have ok:=eD.change (k:=k') (e':=⟨c8+1,some b,Dw.size⟩) (cs:=cs.take (len*D z)++new) bW f
         (λaD fs => .inr (by rw[pR] at fs;cases fs;simp only;omega)) (λeK eJ => .inr ⟨Dw,pR,by rw[br];exact eJ⟩) (λaK=>by cases aK) (λeK eJ=>by
          cases eJ;refine⟨_,T,setRow_heap w b vs _ T (0,0) aR,ads,by rw[ads,Kd,mE];omega,λi m hm=>?_⟩
          have e4:=ado.append b2;obtain⟨v,ak,ab⟩:=e4.get hm;refine⟨v,?_,ab⟩;rw[ye] at ak;have aA:i<(vs.toList.take (len*D z)++vals).length:=(dD.1 ak).1;simp only[adt];rw[qv aA];exact ak)
        refine⟨_,_,_,Tx (P:=P) (ty:=ty) (a:=dj) (c:=c2) (vals:=vals) bD U yd (aH w rfl) _ (λew h2=>by
         cases h2;rw[zA,jv];exact dE) (λh=>by cases h),ok,?_⟩
        exact .ref (hj _ _ _) (b1 _) ⟨_,cap,rfl,yd,I,.inr ⟨b,rfl,λ_=>⟨rfl,bR⟩⟩⟩
      ·have:=grow c0 len cap (c8+1) k' (cs.take (len*D z)) pP (by omega) (λaQ hw=>Ol (P:=P) (w:=w) ape adp aQ hw) ado (by rw[fI,oL hlen]) wM Gc vi;exact this
    ·cases h
   ·cases h
  ·cases h
 |_=>simp[rh] at h
theorem apf {t u ty e:TypeId}{sz n:Nat}{dA cX:R}{qy kF:Value}{new:List R}{r:R}{jN:Option (Key×Nat×List R)}(bW:fp A w B mem)(bD:P.underlying t=some (.slice e))(U:gm P e=some sz)
  (eX:bt w (b6 A B) B dA qy) (eg:bt w (b6 A B) B cX kF) (fb:qq mem sz cX=some (n,new)) (h:wG mem sz dA (some (n,new))=some (r,jN)) :
  ∃v aQ,(Builtin.copy_ #[t,u] ty #[qy,kF]).run P w=.ok v aQ/\eD A w B aQ B (ig mem jN)/\bt aQ (b6 A B) B r v:=by
 obtain⟨dj,c2,vals,rfl,b2,mE,cj⟩:=adn bW eg fb;have pQ:(D new)=n*sz:=by rw[<-b2.1,mE]
 cases dA with
 |ref k g ev off len =>
  simp only[wG] at h
  split at h
  ·rename_i e2;subst e2;unfold Bl at h
   split at h
   ·rename_i c8 cs Q
    split at h
    ·rename_i H;obtain⟨rfl,J6,yf⟩:=H
     cases h;obtain⟨Dw,pR,b7,Ds,ag⟩:=bW.at_ Q;have Gg:Nat.min n len=min n len:=rfl;have hle:min n len<=n:=Nat.min_le_left _ _;have Tz:min n len<=len:=Nat.min_le_right _ _;have mD:min n len*ev<=n*ev:=vg _ hle;have aGF:min n len*ev<=len*ev:=vg _ Tz;have oJ:(vals.take (min n len*ev)).length=min n len*ev:=by rw[fI,mE,oL mD]
     have Br:∀(a:Option Addr) (c:Nat),(0<n->∃b off,a=some ⟨b,off,none⟩/\At w b off vals)->(Builtin.firstCells ev (min n len) (.slice a n c)).run P w=.ok (vals.take (min n len*ev)).toArray w:=by
      intro a c cj
      have:=Ol (P:=P) (w:=w) (sz:=ev) (n:=min n len) (c:=c) (a:=a) (vals:=vals.take (min n len*ev)) oJ (λh=>by
       obtain⟨b,off,F,I⟩:=cj (by omega);exact⟨b,off,F,I.take _⟩) w rfl
      cases a with
      |none=>simpa [Builtin.firstCells] using this
      |some a=>simpa [Builtin.firstCells] using this
     cases eX with
     |ref he bc ab =>
      rw[pR] at he
      cases he;obtain⟨c0,cap,rfl,F,I,af⟩:=ab;simp only[gm,dV] at U;obtain⟨i,M,TA⟩:=U;rcases af with af|⟨b,rfl,aO⟩
      ·have rp:len=0:=by omega
       subst rp;have kH:min n 0=0:=Nat.min_zero _;have rq:kU cs off (new.take (min n 0*ev))=cs:=by simp[kU]
       have dE:∀a:Addr,(storeCells a ([]:List Value)).run P w=.ok () w:=λa=>by simp[storeCells]
       have Ke:=Br dj c2 cj;simp only[kH,Nat.zero_mul,List.take_zero] at Ke
       have fW:gn B k Dw=B:=by
        funext j;unfold gn;split
        ·rename_i ai;rw[ai,pR]
        ·rfl
       refine⟨.int .i64 0,w,?_,?_,by simpa using bt.ofInt⟩
       ·cases c0 with
        |none=>simp[Builtin.copy_,run_underlying bD,Builtin.lenOf,sizeOf,typeInfo,M,TA,Ke,goInt]
        |some a=>simp[Builtin.copy_,run_underlying bD,Builtin.lenOf,sizeOf,typeInfo,M,TA,Ke,dE,goInt]
       ·have gp:a1 mem k c8 cs=mem:=by
         funext j;unfold a1;split
         ·rename_i ai;rw[ai,Q]
         ·rfl
        simp only[ig,rq,gp];exact .refl bW
      ·obtain⟨br,bR⟩:=aO b7.symm;obtain⟨vs,T,aR,Dx,Kf,zE⟩:=ag b br;have dE:=run_storeCells_at P b off T (vals.take (min n len*ev)) 0 vs w aR (by omega) (λv ak=>b2.Tw yf v (F8 ak));simp only[n1] at dE;refine⟨.int .i64 ((min n len:Nat):Int),_,?_,Tt bW Q pR br aR Dx Kf zE b7 (by rw[fI,pQ,oL mD];omega) (b2.take (min n len*ev)),.ofInt⟩;have Ke:=Br dj c2 cj;simp[Builtin.copy_,run_underlying bD,Builtin.lenOf,sizeOf,typeInfo,M,TA,Gg,Ke,dE,goInt]
    ·cases h
   ·cases h
  ·cases h
 |_=>simp[wG] at h
theorem apg {z:Array Value}(ao:0<z.size)(n:Nat):(Builtin.zeroCells z n).toList=(dG n z.toList).flatten:=by
 unfold Builtin.zeroCells;exact Of ao n
theorem aph {t ty e:TypeId}{z:List R}{dA:R}{qy:Value}{r:R}{jN:Option (Key×Nat×List R)}(bW:fp A w B mem)(bD:P.underlying t=some (.slice e))(aV:zeroOf P e=some z)(ao:0<D z)
  (eX:bt w (b6 A B) B dA qy) (h:x3 mem z dA=some (r,jN)) :
  ∃v aQ,(Builtin.clear_ #[t] ty #[qy]).run P w=.ok v aQ/\eD A w B aQ B (ig mem jN)/\bt aQ (b6 A B) B r v:=by
 have adu:∀aQ:World,bt aQ (b6 A B) B (.cM []) (.tuple #[]):=λaQ=>bt.cM (cs:=[]) (vs:=[]) rfl λi d v aa=>by simp at aa
 cases dA with
 |ref k g sz off len =>
  simp only[x3] at h
  split at h
  ·rename_i e2;subst e2;unfold N4 at h
   split at h
   ·rename_i c8 cs Q
    split at h
    ·rename_i H;obtain⟨rfl,J6,yf⟩:=H
     cases h;obtain⟨i,iP,M,tu,b2⟩:=Du (P:=P) (w:=w) (B:=B) (aX:=b6 A B) aV;have Ge:iP.cells.size=D z:=by have:=b2.1;simp at this;omega
     obtain⟨Dw,pR,b7,Ds,ag⟩:=bW.at_ Q
     cases eX with
     |ref he bc ab =>
      rw[pR] at he
      cases he;obtain⟨c0,cap,rfl,F,I,af⟩:=ab;rcases k4 len with rp|rp
      ·subst rp;have rq:kU cs off (dG 0 z).flatten=cs:=by simp[kU]
       have gp:a1 mem k c8 cs=mem:=by
        funext j;unfold a1;split
        ·rename_i ai;rw[ai,Q]
        ·rfl
       refine⟨.tuple #[],w,?_,?_,adu _⟩
       ·cases c0<;>simp[Builtin.clear_,run_underlying bD]
       ·simp only[ig,rq,gp];exact .refl bW
      ·rcases af with af|⟨b,rfl,aO⟩
       ·omega
       ·obtain⟨br,bR⟩:=aO b7.symm;obtain⟨vs,T,aR,Dx,Kf,zE⟩:=ag b br;have Bq:=b2.replicate len;have wN:=apg (z:=iP.cells) (by omega) len;have pQ:(dG len z).flatten.length=len*D z:=by simp
        have mE:(dG len iP.cells.toList).flatten.length=len*D z:=by simp[Ge]
        have api:(dG len z).flatten.all R.one=true:=by
         rw[jh] at yf ⊢;intro x O;obtain⟨y,aw,oN⟩:=List.mem_flatten.1 O;exact yf x (by rw[<-(List.mem_replicate.1 aw).2];exact oN)
        have dE:=run_storeCells_at P b off T (dG len iP.cells.toList).flatten 0 vs w aR (by omega) (Bq.Tw api);simp only[n1] at dE;refine⟨.tuple #[],_,?_,Tt bW Q pR br aR Dx Kf zE b7 (by omega) Bq,adu _⟩;obtain⟨Tq,rfl⟩:∃l,len=l+1:=⟨len-1,by omega⟩
        simp[Builtin.clear_,run_underlying bD,J8 M tu,wN,dE]
    ·cases h
   ·cases h
  ·cases h
 |_=>simp[x3] at h
end
end Go.Mini
namespace Go.Mini
open Go
variable {P:Program} {A:Nat->Prop} {w:World} {B:Lay} {mem:Mem}
theorem apj {t e:TypeId}{sz l h len:Nat}{m r:R}{v:Value}{k1 k2:Option Value}{cz M:Option R}(bW:fp A w B mem)(bD:P.underlying t=some (.array len e))(U:gm P e=some sz)(aGG:len<=16777216)
  (fV:jI 0 cz=some l) (jg:jI len M=some h) (m4:rn w (b6 A B) B cz k1) (lQ:rn w (b6 A B) B M k2) (hm:bt w (b6 A B) B m v) (ab:Bk mem len sz l h m=some r) :
  ∃z,(Instr.sliceAt t v k1 k2 none).run P w=.ok z w/\bt w (b6 A B) B r z:=by
 unfold Bk at ab
 split at ab
 ·rename_i k g off;unfold Tc at ab
  split at ab
  ·rename_i c8 cs Q
   split at ab
   ·rename_i H;obtain⟨rfl,F,I,af⟩:=H
    cases ab
    cases hm with
    |ptr he bc ak =>
     obtain⟨b,rfl,ag⟩:=ak;obtain⟨e',gg,b7,aK,fa⟩:=bW.at_ Q;rw[gg] at he
     cases he;have jL:=ag b7.symm;obtain⟨vs,T,aR,aV,hle,_⟩:=fa b jL;refine⟨.slice (some (if len=l then ⟨b,off,none⟩ else ⟨b,off+l*sz,none⟩)) (h-l) (len-l),?_,.ref gg bc ⟨_,len-l,rfl,by omega,by unfold maxLen;omega,?_⟩⟩
     ·simp[Instr.sliceAt,run_underlying bD,Instr.sureAddr,Tn (P:=P) (w:=w) false fV jg m4 lQ F I,vd U]
      split<;>simp[zA]
     ·rcases Od (eU F I) with ar|ar
      ·exact .inl (by omega)
      ·refine .inr ⟨b,by rw[ah (by omega)],λ_=>⟨jL,?_⟩⟩
       have:off+l*sz+(len-l)*sz=off+len*sz:=by
        rw[qu,<-qn]
        congr 2
        omega
       omega
   ·cases ab
  ·cases ab
 ·cases ab
theorem apk {dP:List Field}(h:(dP.all λf=>(gm P f.type).isSome)=true):∃ps:List (Nat×Nat),(dP.mapM λf=>(do pure (f.offset,<-sizeOf f.type):Sem (Nat×Nat))).run P w=.ok ps w /\
  ∀i:Nat,ps[i]?=va P dP.toArray i:=by
 induction dP with
 |nil=>exact⟨[],by simp,λi=>by simp[va]⟩
 |cons f r ay =>
  simp only[List.all_cons,eM] at h;obtain⟨ps,F,I⟩:=ay h.2;obtain⟨s,U⟩:=adv.1 h.1;refine⟨(f.offset,s)::ps,?_,λi=>?_⟩
  ·simp only[ju,Sem.run_bind,vd U,Result.andThen_ok,Sem.run_pure];rw[F]
   rfl
  ·cases i with
   |zero=>simp[va,U]
   |succ i =>
    have:=I i;simp only[va,adt,List.getElem?_cons_succ] at this ⊢;exact this
theorem apl {p q:Nat->Option (Nat×Nat)}(h:∀i,p i=q i)(cs:Array Value)(l:List (Nat×Value)):Instr.fill p cs l=Instr.fill q cs l:=by
 rw[show p=q from funext h]
theorem apm {t:TypeId}{dP:Array Field}{z r:List R}{ps:List (Nat×Operand)}{eE:List (Nat×Nat×bU)}{ρ:Operand->Value}{tm:Nat->R}{aX:Nat->Prop}(bD:P.underlying t=some (.struct dP))(aV:zeroOf P t=some z)
  (aN:(dP.toList.all λf=>(gm P f.type).isSome)=true) (aG:partsOf (va P dP) ps=some eE) (hρ:∀x y,dO x=some y->bt w aX B (ba tm y) (ρ x))
  (h:kC (ba tm) z eE=some r):∃v,(Instr.build t (ps.map λp=>(p.1,ρ p.2)).toArray).run P w=.ok v w/\bt w aX B (.agg r) v:=by
 obtain⟨i,iP,M,tu,b2⟩:=Du (P:=P) (w:=w) (B:=B) (aX:=aX) aV;obtain⟨pl,F,I⟩:=apk (w:=w) aN;obtain⟨oK,aH,ab⟩:=Oe (place:=va P dP) hρ ps eE _ r _ aG b2 h;refine⟨.agg oK,?_,by rw[show oK=oK.toList.toArray from by simp];exact .agg ab.1 ab.2⟩
 ·have sy:∀i,pl.toArray[i]?=va P dP i:=λi=>by simpa using I i
  have hm:(dP.mapM λf=>(do pure (f.offset,<-sizeOf f.type):Sem (Nat×Nat))).run P w=.ok pl.toArray w:=by
   rw[Array.mapM_eq_mapM_toList];rw[map_eq_pure_bind];simp only[Sem.run_bind,F,Result.andThen_ok,Sem.run_pure]
  simp only[Instr.build,Sem.run_bind,J8 M tu,Result.andThen_ok,Sem.run_pure,run_underlying bD,hm,apl sy,aH]
theorem apn {t e:TypeId}{n sz:Nat}{z r:List R}{ps:List (Nat×Operand)}{eE:List (Nat×Nat×bU)}{ρ:Operand->Value}{tm:Nat->R}{aX:Nat->Prop}(bD:P.underlying t=some (.array n e))(aV:zeroOf P t=some z)
  (U:gm P e=some sz) (aG:partsOf (λi=>some (i*sz,sz)) ps=some eE) (hρ:∀x y,dO x=some y->bt w aX B (ba tm y) (ρ x))
  (h:kC (ba tm) z eE=some r):∃v,(Instr.build t (ps.map λp=>(p.1,ρ p.2)).toArray).run P w=.ok v w/\bt w aX B (.agg r) v:=by
 obtain⟨i,iP,M,tu,b2⟩:=Du (P:=P) (w:=w) (B:=B) (aX:=aX) aV;obtain⟨oK,aH,ab⟩:=Oe (place:=λi=>some (i*sz,sz)) hρ ps eE _ r _ aG b2 h;refine⟨.agg oK,?_,by rw[show oK=oK.toList.toArray from by simp];exact .agg ab.1 ab.2⟩
 simp only[Instr.build,Sem.run_bind,J8 M tu,Result.andThen_ok,Sem.run_pure,run_underlying bD,vd U,aH]
end Go.Mini
namespace Go.Mini
open Go
variable {P:Program} {A:Nat->Prop} {w:World} {B:Lay} {mem:Mem}
def apo (n:Next)(v:Value):Prop:=n=.value v\/(n=.skip/\v=undef)
def il (A:Nat->Prop)(w:World)(B:Lay)(run:Result Next)(mem':Mem)(r:R):Prop :=
 ∃n v aQ bu,run=.ok n aQ/\apo n v/\eD A w B aQ bu mem'/\bt aQ (b6 A bu) bu r v
theorem il.mF {s:Sem Value}{r:R}(bW:fp A w B mem)(h:∃v,s.run P w=.ok v w/\bt w (b6 A B) B r v):il A w B ((do pure (.value (<-s)):Sem Next).run P w) mem r:=by
 obtain⟨v,F,I⟩:=h;exact⟨.value v,v,w,B,by simp[F],.inl rfl,.refl bW,I⟩
theorem il.of {s:Sem Value}{mem':Mem}{r:R}(h:∃v aQ bu,s.run P w=.ok v aQ/\eD A w B aQ bu mem'/\bt aQ (b6 A bu) bu r v):il A w B ((do pure (.value (<-s)):Sem Next).run P w) mem' r:=by
 obtain⟨v,aQ,bu,F,I,af⟩:=h;exact⟨.value v,v,aQ,bu,by simp[F],.inl rfl,I,af⟩
theorem adw {x:Option R}{r:R}{jN:Option (Key×Nat×List R)}(h:jf x=some (r,jN)):x=some r/\jN=none:=by
 unfold jf at h
 split at h<;>cases h
 exact⟨rfl,rfl⟩
theorem qz {x:Option Nat}{f:Nat->Option R}{r:R}(h:h1 x f=some r):∃n,x=some n/\f n=some r:=by
 unfold h1 at h
 split at h
 ·exact⟨_,rfl,h⟩
 ·cases h
theorem adx {x y:Option Nat}{f:Nat->Nat->Out}{r:R×Option (Key×Nat×List R)}(h:JU x y f=some r):∃n m,x=some n/\y=some m/\f n m=some r:=by
 unfold JU at h
 split at h
 ·exact⟨_,_,rfl,rfl,h⟩
 ·cases h
theorem Dy {aX:Nat->Prop}{ρ:Operand->Value}{tm:Nat->R}(hρ:∀x y,dO x=some y->bt w aX B (ba tm y) (ρ x)){x:Option Operand}{y:Option bU}(h:tp x=some y):rn w aX B (y.map (ba tm)) (x.map ρ):=by
 cases x with
 |none=>simp[tp] at h;subst h;simp[rn]
 |some x =>
  simp only[tp,dV] at h;obtain⟨y',aw,rfl⟩:=h;simp only[k5,rn];exact hρ _ _ aw
theorem ady {dP:Array Field}{f o s:Nat}(h:va P dP f=some (o,s)):∃fd,dP[f]?=some fd/\fd.offset=o/\gm P fd.type=some s:=by
 simp only[va,ha,hk,eo,ca,fD] at h;obtain⟨fd,F,adz,I,af,aO⟩:=h;exact⟨fd,F,af,aO ▸ I⟩
theorem yg {aX:Nat->Prop}{ρ:Operand->Value}{tm:Nat->R}(hρ:∀x y,dO x=some y->bt w aX B (ba tm y) (ρ x)):∀{l:List Operand} {r:List bU},l.mapM dO=some r->dq w aX B (r.map (ba tm)) (l.map ρ)
 | [],r,h=>by simp at h;subst h;exact dq.nil
 |x::l,r,h=>by
  simp only[ju,ha,hk,eo,ca] at h;obtain⟨y,aw,FV,ab,rfl⟩:=h;exact dq.cons (hρ _ _ aw) (yg hρ ab)
theorem Bs {α β:Type}(a:Array α)(f:α->β):a.map f=(a.toList.map f).toArray:=by
 apply Array.ext';simp
theorem ji {tm:Nat->R}{m:kg}{r:R}{jN:Option (Key×Nat×List R)}{x:Option R}(h:ct mem tm m=some (r,jN))(e:ct mem tm m=jf x):x=some r/\jN=none:=adw (e.symm.trans h)
theorem apq {ρ:Operand->Value}{tm:Nat->R}{kb:Nat}{own:List Nat}{dst:Option Tmp}{type:TypeId}{c:Call}{m:kg}{r:R}{jN:Option (Key×Nat×List R)}(bW:fp A w B mem)
  (hρ:∀x y,dO x=some y->bt w (b6 A B) B (ba tm y) (ρ x)) (aY:x5 P kb own dst type c=some m) (h:ct mem tm m=some (r,jN)) :
  il A w B ((do let d <-resolve ρ c type;invoke d.target d.args:Sem Next).run P w) (ig mem jN) r:=by
 obtain⟨callee,args,argTypes⟩:=c;have two:∀{α:Type} (a:Array α) (x y:α),a.toList=[x,y]->a=#[x,y]:=λa x y h=>Array.ext' (by simpa using h);have one:∀{α:Type} (a:Array α) (x:α),a.toList=[x]->a=#[x]:=λa x h=>Array.ext' (by simpa using h);unfold x5 at aY
 split at aY
 ·rename_i x t H aN bD;simp only at H aN bD;subst H;obtain rfl:=one _ _ aN;obtain rfl:=one _ _ bD
  split at aY
  ·rename_i e hu;simp only[dV] at aY;obtain⟨y,aw,rfl⟩:=aY;obtain⟨aL,rfl⟩:=ji h rfl;obtain⟨n,aK,aL⟩:=qz aL
   cases aL;have:=aoM (P:=P) (w:=w) t type e hu (hρ _ _ aw) aK;exact⟨.value _,_,w,B,by simp[resolve,invoke,builtin,this],.inl rfl,.refl bW,.J .int⟩
  ·rename_i hu;simp only[dV] at aY;obtain⟨y,aw,rfl⟩:=aY;obtain⟨aL,rfl⟩:=ji h rfl;obtain⟨n,aK,aL⟩:=qz aL
   cases aL;have:=aoN (P:=P) (w:=w) t type hu (hρ _ _ aw) aK;exact⟨.value _,_,w,B,by simp[resolve,invoke,builtin,this],.inl rfl,.refl bW,.J .int⟩
  ·cases aY
 ·rename_i s x t u H aN bD;simp only at H aN bD;subst H;obtain rfl:=two _ _ _ aN;obtain rfl:=two _ _ _ bD
  split at aY
  ·rename_i e aD hu adA;simp only[ha,hk,eo] at aY;obtain⟨z,aV,b,ag,n,aK,d,aa,adz,iQ,jj,vk,aR⟩:=aY
   split at aR
   ·rename_i hy;obtain⟨rfl,ao,rfl⟩:=hy
    cases aR;simp only[ct] at h
    cases fb:qq mem (D z) (ba tm jj) with
    |none =>
     rw[fb] at h
     revert h
     cases ba tm adz<;>simp[rh]
    |some p =>
     obtain⟨k,new⟩:=p;rw[fb] at h;obtain⟨v,aQ,bu,F,I,af⟩:=apc (ty:=type) _ bW hu aV aK ag ao (hρ _ _ iQ) (hρ _ _ vk) fb h;exact⟨.value v,v,aQ,bu,by simp[resolve,invoke,builtin,F],.inl rfl,I,af⟩
   ·cases aR
  ·cases aY
 ·rename_i aGH x t u H aN bD;simp only at H aN bD;subst H;obtain rfl:=two _ _ _ aN;obtain rfl:=two _ _ _ bD
  split at aY
  ·rename_i e aD hu adA;simp only[ha,hk,eo] at aY;obtain⟨n,aK,aR⟩:=aY
   split at aR
   ·rename_i ao;simp only[eo,ca] at aR;obtain⟨yh,ns,jj,vk,rfl⟩:=aR;simp only[ct] at h
    cases fb:qq mem n (ba tm jj) with
    |none =>
     rw[fb] at h
     revert h
     cases ba tm yh<;>simp[wG]
    |some p =>
     obtain⟨k,new⟩:=p;rw[fb] at h;obtain⟨v,aQ,F,I,af⟩:=apf (u:=u) (ty:=type) bW hu aK (hρ _ _ ns) (hρ _ _ vk) fb h;exact⟨.value v,v,aQ,B,by simp[resolve,invoke,builtin,F],.inl rfl,I,af⟩
   ·cases aR
  ·cases aY
 ·rename_i x t H aN bD;simp only at H aN bD;subst H;obtain rfl:=one _ _ aN;obtain rfl:=one _ _ bD
  split at aY
  ·rename_i e hu;simp only[ha,hk,eo] at aY;obtain⟨z,aV,n,aK,aR⟩:=aY
   split at aR
   ·rename_i ao;simp only[eo,ca] at aR;obtain⟨jj,vk,rfl⟩:=aR;simp only[ct] at h;obtain⟨v,aQ,F,I,af⟩:=aph (ty:=type) bW hu aV (by omega) (hρ _ _ vk) h;exact⟨.value v,v,aQ,B,by simp[resolve,invoke,builtin,F],.inl rfl,I,af⟩
   ·cases aR
  ·cases aY
 ·rename_i x y H aN;simp only at H aN;subst H;obtain rfl:=two _ _ _ aN;simp only[ha,hk,eo,ca] at aY;obtain⟨jj,O,y',aw,rfl⟩:=aY;obtain⟨aL,rfl⟩:=ji h rfl;obtain⟨z,F,I⟩:=ac9 (P:=P) argTypes type (hρ _ _ O) (hρ _ _ aw) aL;simp only[if_true] at F;exact⟨.value z,z,w,B,by simp[resolve,invoke,builtin,F],.inl rfl,.refl bW,I⟩
 ·rename_i x y H aN;simp only at H aN;subst H;obtain rfl:=two _ _ _ aN;simp only[ha,hk,eo,ca] at aY;obtain⟨jj,O,y',aw,rfl⟩:=aY;obtain⟨aL,rfl⟩:=ji h rfl;obtain⟨z,F,I⟩:=ac9 (P:=P) argTypes type (hρ _ _ O) (hρ _ _ aw) aL;simp only[kX,if_false] at F;exact⟨.value z,z,w,B,by simp[resolve,invoke,builtin,F],.inl rfl,.refl bW,I⟩
 ·split at aY
  ·split at aY
   ·simp only[ha,hk,eo,ca] at aY;obtain⟨_,_,_,_,_,_,rfl⟩:=aY
    cases h
   ·cases aY
  ·split at aY
   ·(repeat' split at aY)<;>simp only[ha,hk,eo,ca] at aY
    all_goals
     obtain⟨_,_,rfl⟩:=aY
     cases h
   ·simp only[ha,hk,eo,ca] at aY;obtain⟨_,_,rfl⟩:=aY
    cases h
 ·simp only[ha,hk,eo,ca] at aY;obtain⟨_,_,_,_,rfl⟩:=aY
  cases h
 ·cases aY
theorem adB {ρ:Operand->Value}{tm:Nat->R}{kb:Nat}{own:List Nat}{o:Oper}{m:kg}{r:R}{jN:Option (Key×Nat×List R)}(bW:fp A w B mem)
  (hρ:∀x y,dO x=some y->bt w (b6 A B) B (ba tm y) (ρ x)) (aY:jK P kb own o.dst o.type o.op=some m) (h:ct mem tm m=some (r,jN)) :
  il A w B ((execOp ρ o).run P w) (ig mem jN) r:=by
 obtain⟨dst,op,type,pos,after,guard⟩:=o;simp only at aY
 cases op<;>simp only[jK] at aY<;>simp only[execOp]
 case move x =>
  simp only[dV] at aY;obtain⟨y,aw,rfl⟩:=aY;obtain⟨aL,rfl⟩:=ji (x:=some (ba tm y)) h rfl
  cases aL;exact⟨_,_,w,B,rfl,.inl rfl,.refl bW,hρ _ _ aw⟩
 case assign x =>
  simp only[dV] at aY;obtain⟨y,aw,rfl⟩:=aY;obtain⟨aL,rfl⟩:=ji (x:=some (ba tm y)) h rfl
  cases aL;exact⟨_,_,w,B,rfl,.inl rfl,.refl bW,hρ _ _ aw⟩
 case pick c a b =>
  simp only[ha,hk,eo,ca] at aY;obtain⟨c',H,kE,aN,ew,ag,rfl⟩:=aY;obtain⟨aL,rfl⟩:=ji h rfl;have:=il.mF bW (aoA (P:=P) (hρ _ _ H) (hρ _ _ aN) (hρ _ _ ag) aL)
  simpa [ig] using this
 case alloc e =>
  simp only[ha,hk,eo,ca] at aY;obtain⟨d,aa,z,aV,rfl⟩:=aY;simp only[ct,ca,fD] at h;obtain⟨rfl,rfl⟩:=h;exact il.of (aoZ _ bW aV)
 case box e x =>
  simp only[ha,hk,eo,ca] at aY;obtain⟨d,aa,y,aw,rfl⟩:=aY;simp only[ct] at h
  split at h
  ·rename_i Q;simp only[ca,fD] at h;obtain⟨rfl,rfl⟩:=h;exact il.of (ao0 _ bW (hρ _ _ aw) Q)
  ·cases h
 case build t ps =>
  split at aY
  ·rename_i dP hu
   split at aY
   ·rename_i aN;simp only[ha,hk,eo,ca] at aY;obtain⟨z,aV,eE,Bp,rfl⟩:=aY;obtain⟨aL,rfl⟩:=ji h rfl;simp only[kV,dV] at aL;obtain⟨cs,jM,rfl⟩:=aL;rw[Bs];exact il.mF bW (apm hu aV aN Bp hρ jM)
   ·cases aY
  ·rename_i n e hu;simp only[ha,hk,eo,ca] at aY;obtain⟨s,U,z,aV,eE,Bp,rfl⟩:=aY;obtain⟨aL,rfl⟩:=ji h rfl;simp only[kV,dV] at aL;obtain⟨cs,jM,rfl⟩:=aL;rw[Bs];exact il.mF bW (apn hu aV U Bp hρ jM)
  ·cases aY
 case buildSlice t len ps =>
  split at aY
  ·rename_i e hu;simp only[ha,hk,eo] at aY;obtain⟨z,aV,s,U,eE,Bp,d,aa,aR⟩:=aY
   split at aR
   ·rename_i H;obtain⟨wN,ao,ar⟩:=H;simp only[ca] at aR;subst aR;rw[Bs]
    cases pS:own.contains d with
    |true =>
     rw[pS] at h;exact il.of (ao7 _ bW hu aV U wN ao ar Bp hρ h)
    |false =>
     rw[pS] at h;obtain⟨aL,rfl⟩:=ji h rfl;obtain⟨v,aQ,F,I,af⟩:=ao6 bW hu aV U wN ao ar Bp hρ aL;exact il.of ⟨v,aQ,B,F,I,af⟩
   ·cases aR
  ·cases aY
 case load t x =>
  simp only[ha,hk,eo,ca] at aY;obtain⟨n,aK,g,bc,y,aw,rfl⟩:=aY;obtain⟨aL,rfl⟩:=ji h rfl;exact il.mF bW (aoz aK bc bW (hρ _ _ aw) aL)
 case store t x v =>
  simp only[ha,hk,eo,ca] at aY;obtain⟨n,aK,jj,O,Dr,ak,rfl⟩:=aY;obtain⟨aQ,F,I,rfl⟩:=ao2 bW aK (hρ _ _ O) (hρ _ _ ak) h;exact⟨.skip,undef,aQ,B,by simp[F],.inr ⟨rfl,rfl⟩,I,.no⟩
 case nilCheck x =>
  simp only[dV] at aY;obtain⟨y,aw,rfl⟩:=aY;obtain⟨aL,rfl⟩:=ji h rfl;obtain⟨⟨b,off,O⟩,ab⟩:=aoO (hρ _ _ aw) aL;rw[O] at ab ⊢;exact⟨_,_,w,B,rfl,.inl rfl,.refl bW,ab⟩
 case binOp bop t x y pos2 =>
  unfold zu at aY
  split at aY
  ·split at aY
   ·rename_i jj y' O aw
    cases aY;obtain⟨aL,rfl⟩:=ji h rfl;exact il.mF bW (acZ t x y (hρ _ _ O) (hρ _ _ aw) aL)
   ·cases aY
  ·split at aY
   ·rename_i jj y' O aw
    cases aY;obtain⟨aL,rfl⟩:=ji h rfl;exact il.mF bW (acZ t x y (hρ _ _ O) (hρ _ _ aw) aL)
   ·cases aY
  ·rename_i hu
   split at aY
   ·rename_i jj y' O aw
    cases aY;obtain⟨aL,rfl⟩:=ji h rfl;exact il.mF bW (ac0 (neg:=false) t x y hu (hρ _ _ O) (hρ _ _ aw) aL)
   ·rename_i jj y' O aw
    cases aY;obtain⟨aL,rfl⟩:=ji h rfl;exact il.mF bW (ac0 (neg:=true) t x y hu (hρ _ _ O) (hρ _ _ aw) aL)
   ·cases aY
  ·rename_i dP hu
   split at aY
   ·unfold wJ at aY
    split at aY
    ·rename_i H
     split at aY
     ·rename_i gT jj y' Q O aw
      cases aY;obtain⟨aL,rfl⟩:=ji h rfl;exact il.mF bW (ac6 (neg:=false) t x y dP hu H.1 H.2 Q (hρ _ _ O) (hρ _ _ aw) aL)
     ·cases aY
    ·cases aY
   ·unfold wJ at aY
    split at aY
    ·rename_i H
     split at aY
     ·rename_i gT jj y' Q O aw
      cases aY;obtain⟨aL,rfl⟩:=ji h rfl;exact il.mF bW (ac6 (neg:=true) t x y dP hu H.1 H.2 Q (hρ _ _ O) (hρ _ _ aw) aL)
     ·cases aY
    ·cases aY
   ·cases aY
  ·split at aY
   ·split at aY
    ·simp only[dV] at aY;obtain⟨_,_,rfl⟩:=aY
     cases h
    ·simp only[dV] at aY;obtain⟨_,_,rfl⟩:=aY
     cases h
    ·cases aY
   ·cases aY
  ·cases aY
 case unOp uop t x =>
  simp only[dV] at aY;obtain⟨y,aw,rfl⟩:=aY;obtain⟨aL,rfl⟩:=ji h rfl;exact il.mF bW (aoB (hρ _ _ aw) aL)
 case convert s t x =>
  split at aY
  ·rename_i gT k U bD;simp only[dV] at aY;obtain⟨y,aw,rfl⟩:=aY;obtain⟨aL,rfl⟩:=ji h rfl;exact il.mF bW (aoC s t gT U bD (hρ _ _ aw) aL)
  ·cases aY
 case makeFunc fn first eT =>
  cases fn<;>simp only[reduceCtorEq] at aY
  split at aY
  ·rename_i e2;simp only[ha,hk,eo,ca] at aY;obtain⟨cs,jM,rfl⟩:=aY;obtain⟨aL,rfl⟩:=ji (x:=some (.fz _ (cs.map (ba tm)))) h rfl
   cases aL;have apr:first=#[]:=Array.eq_empty_of_size_eq_zero e2
   subst apr;have ar:=yg hρ jM;exact il.mF bW ⟨_,by rw[Bs eT,Array.map_empty];rfl,.fz ar.1 ar.2⟩
  ·cases aY
 case makeSlice t l c =>
  split at aY
  ·rename_i e he;simp only[ha,hk,eo] at aY;obtain⟨z,aV,s,U,b,ag,d,aa,aR⟩:=aY
   split at aR
   ·rename_i H;simp only[eo,ca] at aR;obtain⟨ft,ar,c',lS,rfl⟩:=aR;simp only[ct] at h;obtain⟨iR,jR,F,I,af⟩:=adx h;obtain⟨rfl,ao⟩:=H;exact il.of (ao1 _ bW he aV U ag F I (hρ _ _ ar) (hρ _ _ lS) ao af)
   ·cases aR
  ·cases aY
 case slice t x cz M kh =>
  split at aY
  ·rename_i e hu;simp only[ha,hk,eo] at aY;obtain⟨s,U,aR⟩:=aY
   split at aR
   ·simp only[eo,ca] at aR;obtain⟨y,aw,adC,fV,kj,jg,Kg,h3,rfl⟩:=aR;have m4:=Dy hρ fV;have lQ:=Dy hρ jg;have F6:=Dy hρ h3
    cases Kg with
    |none =>
     cases kh with
     |some v=>simp[tp,dV] at h3
     |none =>
      obtain⟨aL,rfl⟩:=ji h rfl;obtain⟨l,ar,aL⟩:=qz aL;obtain⟨len,hlen,aL⟩:=qz aL;obtain⟨aR,Dz,aL⟩:=qz aL;exact il.mF bW (aoS hu U ar hlen Dz m4 lQ (hρ _ _ aw) aL)
    |some Kg =>
     cases kj with
     |none=>cases h
     |some kj =>
      cases M with
      |none=>simp[rn] at lQ
      |some M =>
       cases kh with
       |none=>simp[rn] at F6
       |some kh =>
        obtain⟨aL,rfl⟩:=ji h rfl;obtain⟨l,ar,aL⟩:=qz aL;obtain⟨aR,Dz,aL⟩:=qz aL;obtain⟨m,hm,aL⟩:=qz aL;exact il.mF bW (aoU hu U ar Dz hm m4 lQ F6 (hρ _ _ aw) aL)
   ·cases aR
  ·rename_i n e hu;simp only[ha,hk,eo] at aY;obtain⟨s,U,aR⟩:=aY
   split at aR
   ·rename_i H;simp only[eo,ca] at aR;obtain⟨y,aw,adC,fV,kj,jg,Kg,h3,rfl⟩:=aR;have m4:=Dy hρ fV;have lQ:=Dy hρ jg
    cases Kg with
    |none =>
     cases kh with
     |some v=>simp[tp,dV] at h3
     |none =>
      obtain⟨aL,rfl⟩:=ji h rfl;obtain⟨l,ar,aL⟩:=qz aL;obtain⟨aR,Dz,aL⟩:=qz aL;exact il.mF bW (apj bW hu U H.2 ar Dz m4 lQ (hρ _ _ aw) aL)
    |some Kg=>cases h
   ·cases aR
  ·rename_i hu
   split at aY
   ·rename_i h3;simp only[ha,hk,eo,ca] at aY;obtain⟨y,aw,adC,fV,kj,jg,rfl⟩:=aY;have m4:=Dy hρ fV;have lQ:=Dy hρ jg
    cases kh with
    |some v=>cases h3
    |none =>
     obtain⟨aL,rfl⟩:=ji h rfl;obtain⟨l,ar,aL⟩:=qz aL;obtain⟨len,hlen,aL⟩:=qz aL;obtain⟨aR,Dz,aL⟩:=qz aL;exact il.mF bW (aoV hu ar hlen Dz m4 lQ (hρ _ _ aw) aL)
   ·cases aY
  ·cases aY
 case fieldAddr t x f =>
  split at aY
  ·rename_i dP hu;simp only[ha,hk,eo] at aY;obtain⟨⟨o,s⟩,aG,aR⟩:=aY
   split at aR
   ·rename_i ao;simp only[eo,ca] at aR;obtain⟨y,aw,rfl⟩:=aR;obtain⟨fd,F,I,af⟩:=ady aG;obtain⟨aL,rfl⟩:=ji h rfl;exact il.mF bW (aoD t f dP fd s hu F af ao I (hρ _ _ aw) aL)
   ·cases aR
  ·cases aY
 case field t x f =>
  split at aY
  ·rename_i dP hu;simp only[ha,hk,eo,ca] at aY;obtain⟨fd,TB,⟨o,s⟩,aG,g,bc,y,aw,rfl⟩:=aY;obtain⟨aGI,F,I,af⟩:=ady aG;rw[TB] at F
   cases F;obtain⟨aL,rfl⟩:=ji h rfl;exact il.mF bW (aoG t f dP fd hu TB af bc I (hρ _ _ aw) aL)
  ·cases aY
 case indexAddr t x i =>
  split at aY
  ·rename_i e hu;simp only[ha,hk,eo] at aY;obtain⟨s,U,aR⟩:=aY
   split at aR
   ·simp only[eo,ca] at aR;obtain⟨y,aw,j,ai,rfl⟩:=aR;obtain⟨aL,rfl⟩:=ji h rfl;obtain⟨n,aK,aL⟩:=qz aL;obtain⟨k,Q⟩:=FY aK (hρ _ _ ai);rw[Q];exact il.mF bW (aoI t e hu U (hρ _ _ aw) aL)
   ·cases aR
  ·rename_i len e hu;simp only[ha,hk,eo] at aY;obtain⟨s,U,aR⟩:=aY
   split at aR
   ·simp only[eo,ca] at aR;obtain⟨y,aw,j,ai,rfl⟩:=aR;obtain⟨aL,rfl⟩:=ji h rfl;obtain⟨n,aK,aL⟩:=qz aL;obtain⟨k,Q⟩:=FY aK (hρ _ _ ai);rw[Q];exact il.mF bW (aoJ t e hu U (hρ _ _ aw) aL)
   ·cases aR
  ·cases aY
 case index t x i =>
  split at aY
  ·rename_i hu;simp only[ha,hk,eo,ca] at aY;obtain⟨y,aw,j,ai,rfl⟩:=aY;obtain⟨aL,rfl⟩:=ji h rfl;obtain⟨n,aK,aL⟩:=qz aL;obtain⟨k,Q⟩:=FY aK (hρ _ _ ai);rw[Q];exact il.mF bW (aoK t hu (hρ _ _ aw) aL)
  ·cases aY
 case extract x i =>
  simp only[dV] at aY;obtain⟨y,aw,rfl⟩:=aY;obtain⟨aL,rfl⟩:=ji h rfl;exact il.mF bW (aoL (hρ _ _ aw) aL)
 case call c =>
  exact apq bW hρ aY h
 all_goals cases aY
end Go.Mini
namespace Go.Mini
open Go
inductive gA where
 |code (c:eC)
 |inBlock (id:Nat)
def cK (T:bl)(K:e3->bd->Prop):List gA->e3->bd->Prop
 | [],e,st=>K e st
 |.code c::k,.normal,st=>wp T c (cK T K k) st
 |.code _::k,.exit id,st=>cK T K k (.exit id) st
 |.code _::k,.ret,st=>cK T K k .ret st
 |.inBlock _::k,.normal,st=>cK T K k .normal st
 |.inBlock j::k,.exit id,st=>if id=j then cK T K k .normal st else cK T K k (.exit id) st
 |.inBlock _::k,.ret,st=>cK T K k .ret st
section
variable {T:bl} {K:e3->bd->Prop} {k:List gA} {st:bd}
theorem aps (c:eC):(λe dS=>match e with
  |.normal=>wp T c (cK T K k) dS
  |e=>cK T K k e dS)=cK T K (.code c::k):=by
 funext e dS
 cases e<;>rfl
theorem apt (id:Nat):(λe dS=>match e with
  |.exit j=>if j=id then cK T K k .normal dS else cK T K k (.exit j) dS
  |e=>cK T K k e dS)=cK T K (.inBlock id::k):=by
 funext e dS
 cases e<;>rfl
@[go_sem] theorem apu (e:e3):cK T K [] e st=K e st:=by cases e<;>rfl
@[go_sem] theorem aGJ (c:eC):cK T K (.code c::k) .normal st=wp T c (cK T K k) st:=bx
@[go_sem] theorem aGK (c:eC)(id:Nat):cK T K (.code c::k) (.exit id) st=cK T K k (.exit id) st:=bx
@[go_sem] theorem aGL (c:eC):cK T K (.code c::k) .ret st=cK T K k .ret st:=bx
@[go_sem] theorem aGM (id:Nat):cK T K (.inBlock id::k) .normal st=cK T K k .normal st:=bx
@[go_sem] theorem aGN (id j:Nat):cK T K (.inBlock j::k) (.exit id) st=if id=j then cK T K k .normal st else cK T K k (.exit id) st:=bx
@[go_sem] theorem aGO (id:Nat):cK T K (.inBlock id::k) .ret st=cK T K k .ret st:=bx
theorem tw {c:eC}(h:wp T c (cK T K []) st):wp T c K st:=by
 have:cK T K []=K:=by funext e st;cases e<;>rfl
 rwa [this] at h
@[go_sem] theorem wp_seq (a b:eC):wp T (.seq a b) (cK T K k) st=wp T a (cK T K (.code b::k)) st:=by
 rw[<-aps];rfl
@[go_sem] theorem wp_skip:wp T .skip (cK T K k) st=cK T K k .normal st:=bx
@[go_sem] theorem wp_ret:wp T .ret (cK T K k) st=cK T K k .ret st:=bx
@[go_sem] theorem wp_exit (id:Nat):wp T (.exit id) (cK T K k) st=cK T K k (.exit id) st:=bx
@[go_sem] theorem wp_block (id:Nat)(c:eC):wp T (.block id c) (cK T K k) st=wp T c (cK T K (.inBlock id::k)) st:=by
 rw[<-apt];rfl
def qA (T:bl)(K:e3->bd->Prop)(k:List gA)(m:R)(a b:eC)(st:bd):Prop :=
 match m with
 |.J (.bool t)=>if t=true then wp T a (cK T K k) st else wp T b (cK T K k) st
 |_=>False
@[go_sem] theorem wp_cond (c:bU)(a b:eC):wp T (.cond c a b) (cK T K k) st=qA T K k (ba st.tm c) a b st:=bx
@[go_sem] theorem apv (a b:eC):qA T K k (.J (.bool true)) a b st=wp T a (cK T K k) st:=bx
@[go_sem] theorem apw (a b:eC):qA T K k (.J (.bool false)) a b st=wp T b (cK T K k) st:=bx
def Gh (T:bl)(K:e3->bd->Prop)(k:List gA)(l:List c9)(st:bd):Prop:=x4 T (cK T K k .normal) l st
@[go_sem] theorem wp_ops (l:List c9):wp T (.ops l) (cK T K k) st=Gh T K k l st:=bx
@[go_sem] theorem aGP:Gh T K k [] st=cK T K k .normal st:=bx
def rr (T:bl)(K:e3->bd->Prop)(k:List gA)(g:Option Bool)(i:c9)(r:List c9)(st:bd):Prop :=
 match g with
 |none=>False
 |some g=>if g=true then gy T (x4 T (cK T K k .normal) r) i st else Gh T K k r ⟨put st.tm i.dst .no,st.mem⟩
@[go_sem] theorem aGQ (i:c9)(r:List c9):Gh T K k (i::r) st=rr T K k (pf st.tm i.g) i r st:=bx
@[go_sem] theorem aGR (i:c9)(r:List c9):rr T K k (some true) i r st=gy T (Gh T K k r) i st:=bx
@[go_sem] theorem aGS (i:c9)(r:List c9):rr T K k (some false) i r st=Gh T K k r ⟨put st.tm i.dst .no,st.mem⟩:=bx
def Bt (T:bl)(K:e3->bd->Prop)(k:List gA)(n:Nat)(l:List c9)(c:List (List Nat))(rec:Rec)(st:bd):Prop:=wI T (cK T K k .normal) n l c rec st
@[go_sem] theorem aGT (l:List c9)(c:List (List Nat)):wp T (.nX l c) (cK T K k) st=Bt T K k 0 l c (λ_=>none) st:=bx
@[go_sem] theorem aGU (n:Nat)(c:List (List Nat))(rec:Rec):Bt T K k n [] c rec st=cK T K k .normal st:=bx
def ru (T:bl)(K:e3->bd->Prop)(k:List gA)(n:Nat)(g:Option Bool)(i:c9)(r:List c9)(c:List (List Nat))(rec:Rec)(st:bd):Prop :=
 match g with
 |none=>False
 |some g=>if g=true then (match hx T st.mem st.tm i.op with
    |some (m,e)=>FM rec (jJ i.op,dL st.tm i.op) (c.headD [])=true/\Bt T K k (n+1) r c.tail (u9 rec n (jJ i.op,dL st.tm i.op)) ⟨put st.tm i.dst m,ig st.mem e⟩
    |none=>False) else Bt T K k (n+1) r c.tail rec ⟨put st.tm i.dst .no,st.mem⟩
@[go_sem] theorem aGV (n:Nat)(i:c9)(r:List c9)(c:List (List Nat))(rec:Rec):Bt T K k n (i::r) c rec st=ru T K k n (pf st.tm i.g) i r c rec st:=bx
def adD (T:bl)(K:e3->bd->Prop)(k:List gA)(n:Nat)(x:Option (R×Option (Key×Nat×List R)))(i:c9)(r:List c9)(c:List (List Nat))(rec:Rec)(st:bd):Prop :=
 match x with
 |some (m,e)=>FM rec (jJ i.op,dL st.tm i.op) (c.headD [])=true/\Bt T K k (n+1) r c.tail (u9 rec n (jJ i.op,dL st.tm i.op)) ⟨put st.tm i.dst m,ig st.mem e⟩
 |none=>False
@[go_sem] theorem aGW (n:Nat)(i:c9)(r:List c9)(c:List (List Nat))(rec:Rec):ru T K k n (some true) i r c rec st=adD T K k n (hx T st.mem st.tm i.op) i r c rec st:=bx
@[go_sem] theorem aGX (n:Nat)(i:c9)(r:List c9)(c:List (List Nat))(rec:Rec):ru T K k n (some false) i r c rec st=Bt T K k (n+1) r c.tail rec ⟨put st.tm i.dst .no,st.mem⟩:=bx
@[go_sem] theorem aGY (n:Nat)(m:R)(e:Option (Key×Nat×List R))(i:c9)(r:List c9)(c:List (List Nat))(rec:Rec):adD T K k n (some (m,e)) i r c rec st =
 (FM rec (jJ i.op,dL st.tm i.op) (c.headD [])=true/\Bt T K k (n+1) r c.tail (u9 rec n (jJ i.op,dL st.tm i.op)) ⟨put st.tm i.dst m,ig st.mem e⟩):=bx
end
section
variable {T:bl} {K:bd->Prop} {st:bd} {tm:Nat->R} {mem:Mem}
def wpS (K:bd->Prop)(x:Option (R×Option (Key×Nat×List R)))(d:Option Nat)(st:bd):Prop :=
 match x with
 |some (m,e)=>K ⟨put st.tm d m,ig st.mem e⟩
 |none=>False
@[go_sem] theorem aGZ (m:R)(e:Option (Key×Nat×List R))(d:Option Nat):wpS K (some (m,e)) d st=K ⟨put st.tm d m,ig st.mem e⟩:=bx
variable (d:Option Nat) (g:Option (Nat×Bool))
@[go_sem] theorem aG0 (x:bU):gy T K ⟨d,g,.cN x⟩ st=K ⟨put st.tm d (ba st.tm x),st.mem⟩:=bx
@[go_sem] theorem aG1 (c a b:bU):gy T K ⟨d,g,.pick c a b⟩ st=wpS K (ct st.mem st.tm (.pick c a b)) d st:=bx
@[go_sem] theorem aG2 (k:Key)(z:List R):gy T K ⟨d,g,.alloc k z⟩ st=K ⟨put st.tm d (.ptr k (bX st.mem k) 0),a1 st.mem k (bX st.mem k) z⟩:=bx
@[go_sem] theorem aG3 (k:Key)(x:bU):gy T K ⟨d,g,.box k x⟩ st=wpS K (ct st.mem st.tm (.box k x)) d st:=bx
@[go_sem] theorem aG4 (z:List R)(ps:List (Nat×Nat×bU)):gy T K ⟨d,g,.build z ps⟩ st=wpS K (ct st.mem st.tm (.build z ps)) d st:=bx
@[go_sem] theorem aG5 (k:Key)(o:Bool)(z:List R)(sz len:Nat)(ps:List (Nat×Nat×bU)):gy T K ⟨d,g,.eQ k o z sz len ps⟩ st=wpS K (ct st.mem st.tm (.eQ k o z sz len ps)) d st:=bx
@[go_sem] theorem aG6 (n:Nat)(dY:Bool)(x:bU):gy T K ⟨d,g,.load n dY x⟩ st=wpS K (ct st.mem st.tm (.load n dY x)) d st:=bx
@[go_sem] theorem aG7 (n:Nat)(x v:bU):gy T K ⟨d,g,.store n x v⟩ st=wpS K (ct st.mem st.tm (.store n x v)) d st:=bx
@[go_sem] theorem aG8 (op:BinOp)(x y:bU):gy T K ⟨d,g,.bin op x y⟩ st=wpS K (ct st.mem st.tm (.bin op x y)) d st:=bx
@[go_sem] theorem aG9 (b:Bool)(n:List Nat)(x y:bU):gy T K ⟨d,g,.eqs b n x y⟩ st=wpS K (ct st.mem st.tm (.eqs b n x y)) d st:=bx
@[go_sem] theorem aHa (b:Bool)(x y:bU):gy T K ⟨d,g,.beq b x y⟩ st=wpS K (ct st.mem st.tm (.beq b x y)) d st:=bx
@[go_sem] theorem aHb (op:UnOp)(x:bU):gy T K ⟨d,g,.un op x⟩ st=wpS K (ct st.mem st.tm (.un op x)) d st:=bx
@[go_sem] theorem aHc (k:IntKind)(x:bU):gy T K ⟨d,g,.conv k x⟩ st=wpS K (ct st.mem st.tm (.conv k x)) d st:=bx
@[go_sem] theorem aHd (x:bU):gy T K ⟨d,g,.sm x⟩ st=wpS K (ct st.mem st.tm (.sm x)) d st:=bx
@[go_sem] theorem aHe (k:Key)(z:List R)(b:Nat)(x y:bU):gy T K ⟨d,g,.mz k z b x y⟩ st=wpS K (ct st.mem st.tm (.mz k z b x y)) d st:=bx
@[go_sem] theorem aHf (o:Nat)(x:bU):gy T K ⟨d,g,.eu o x⟩ st=wpS K (ct st.mem st.tm (.eu o x)) d st:=bx
@[go_sem] theorem aHg (o n:Nat)(dY:Bool)(x:bU):gy T K ⟨d,g,.Di o n dY x⟩ st=wpS K (ct st.mem st.tm (.Di o n dY x)) d st:=bx
@[go_sem] theorem aHh (s:Nat)(x i:bU):gy T K ⟨d,g,.nn s x i⟩ st=wpS K (ct st.mem st.tm (.nn s x i)) d st:=bx
@[go_sem] theorem aHi (n s:Nat)(x i:bU):gy T K ⟨d,g,.pe n s x i⟩ st=wpS K (ct st.mem st.tm (.pe n s x i)) d st:=bx
@[go_sem] theorem aHj (x i:bU):gy T K ⟨d,g,.idxs x i⟩ st=wpS K (ct st.mem st.tm (.idxs x i)) d st:=bx
@[go_sem] theorem aHk (s:Nat)(x:bU)(a b c:Option bU):gy T K ⟨d,g,.oF s x a b c⟩ st=wpS K (ct st.mem st.tm (.oF s x a b c)) d st:=bx
@[go_sem] theorem aHl (n s:Nat)(x:bU)(a b c:Option bU):gy T K ⟨d,g,.tk n s x a b c⟩ st=wpS K (ct st.mem st.tm (.tk n s x a b c)) d st:=bx
@[go_sem] theorem aHm (x:bU)(a b:Option bU):gy T K ⟨d,g,.Dj x a b⟩ st=wpS K (ct st.mem st.tm (.Dj x a b)) d st:=bx
@[go_sem] theorem aHn (i:Nat)(x:bU):gy T K ⟨d,g,.ext i x⟩ st=wpS K (ct st.mem st.tm (.ext i x)) d st:=bx
@[go_sem] theorem aHo (x:bU):gy T K ⟨d,g,.len x⟩ st=wpS K (ct st.mem st.tm (.len x)) d st:=bx
@[go_sem] theorem aHp (x:bU):gy T K ⟨d,g,.lens x⟩ st=wpS K (ct st.mem st.tm (.lens x)) d st:=bx
@[go_sem] theorem aHq (k:Key)(z:List R)(b:Nat)(s x:bU):gy T K ⟨d,g,.app k z b s x⟩ st=wpS K (ct st.mem st.tm (.app k z b s x)) d st:=bx
@[go_sem] theorem aHr (z:List R)(x:bU):gy T K ⟨d,g,.sr z x⟩ st=wpS K (ct st.mem st.tm (.sr z x)) d st:=bx
@[go_sem] theorem aHs (s:Nat)(x y:bU):gy T K ⟨d,g,.sn s x y⟩ st=wpS K (ct st.mem st.tm (.sn s x y)) d st:=bx
@[go_sem] theorem aHt (b:Bool)(x y:bU):gy T K ⟨d,g,.iO b x y⟩ st=wpS K (ct st.mem st.tm (.iO b x y)) d st:=bx
@[go_sem] theorem aHu (f:FuncId)(l:List bU):gy T K ⟨d,g,.pL f l⟩ st=wpS K (ct st.mem st.tm (.pL f l)) d st:=bx
def wP (K:bd->Prop)(x:Option g0)(d:Option Nat)(st:bd):Prop :=
 match x with
 |some (.same r)=>K ⟨put st.tm d (.J r),st.mem⟩
 |some (.own _ es)=>K ⟨put st.tm d (.J (.Y es)),st.mem⟩
 |some (.rel cg)=>∀r mem',cg r mem'->K ⟨put st.tm d r,mem'⟩
 |some (.e6 r k g i c)=>K ⟨put st.tm d (.J r),a1 st.mem k g ((ri st.mem k).set i c)⟩
 |some (.zs r k)=>K ⟨put st.tm d (.J r),a1 st.mem k (bX st.mem k) []⟩
 |none=>False
@[go_sem] theorem aHv (f:FuncId)(l:List bU):gy T K ⟨d,g,.call f l⟩ st=wP K (T f (l.map (ba st.tm)) st.mem) d st:=bx
@[go_sem] theorem aHw (r:Data)(k:Key)(g i:Nat)(c:R):wP K (some (.e6 r k g i c)) d st=K ⟨put st.tm d (.J r),a1 st.mem k g ((ri st.mem k).set i c)⟩:=bx
@[go_sem] theorem aHx (r:Data)(k:Key):wP K (some (.zs r k)) d st=K ⟨put st.tm d (.J r),a1 st.mem k (bX st.mem k) []⟩:=bx
@[go_sem] theorem aHy (r:Data):wP K (some (.same r)) d st=K ⟨put st.tm d (.J r),st.mem⟩:=bx
@[go_sem] theorem aHz (s:Nat)(es:List (List Data)):wP K (some (.own s es)) d st=K ⟨put st.tm d (.J (.Y es)),st.mem⟩:=bx
@[go_sem] theorem apx (cg:R->Mem->Prop):wP K (some (.rel cg)) d st=∀r mem',cg r mem'->K ⟨put st.tm d r,mem'⟩:=bx
def TC (T:bl)(K:bd->Prop)(m:R)(args:List R)(d:Option Nat)(st:bd):Prop :=
 match m with
 |.fz g eT=>wP K (T g (args++eT) st.mem) d st
 |.J (.fn g ds)=>wP K (T g (args++ds.map .J) st.mem) d st
 |_=>False
@[go_sem] theorem aHA (f:bU)(l:List bU):gy T K ⟨d,g,.jH f l⟩ st=TC T K (ba st.tm f) (l.map (ba st.tm)) d st:=bx
@[go_sem] theorem aHB (f:FuncId)(eT args:List R):TC T K (.fz f eT) args d st=wP K (T f (args++eT) st.mem) d st:=bx
@[go_sem] theorem aHC (f:FuncId)(ds:List Data)(args:List R):TC T K (.J (.fn f ds)) args d st=wP K (T f (args++ds.map .J) st.mem) d st:=bx
def TD (K:bd->Prop)(x:Option g0)(k:Key)(sz:Nat)(d:Option Nat)(st:bd):Prop :=
 match x with
 |some (.own ev es)=>if ev=sz then K ⟨put st.tm d (.ref k (bX st.mem k) sz 0 (D es)),a1 st.mem k (bX st.mem k) (es.flatten.map .J)⟩ else False
 |_=>False
@[go_sem] theorem aHD (k:Key)(sz:Nat)(f:FuncId)(l:List bU):gy T K ⟨d,g,.oG k sz f l⟩ st=TD K (T f (l.map (ba st.tm)) st.mem) k sz d st:=bx
@[go_sem] theorem aHE (k:Key)(sz:Nat)(es:List (List Data)):TD K (some (.own sz es)) k sz d st=K ⟨put st.tm d (.ref k (bX st.mem k) sz 0 (D es)),a1 st.mem k (bX st.mem k) (es.flatten.map .J)⟩:=by simp[TD]
def adE (K:bd->Prop)(neg:Bool)(x:Option Bool)(d:Option Nat)(st:bd):Prop :=
 match x with
 |some full=>∀b:Bool,(full=true->b=false)->K ⟨put st.tm d (.J (.bool (neg != b))),st.mem⟩
 |none=>False
@[go_sem] theorem aHF (neg:Bool)(x:bU):gy T K ⟨d,g,.re neg x⟩ st=adE K neg (Dk (ba st.tm x)) d st:=bx
@[go_sem] theorem aHG (neg full:Bool):adE K neg (some full) d st=∀b:Bool,(full=true->b=false)->K ⟨put st.tm d (.J (.bool (neg != b))),st.mem⟩:=bx
end
section
variable {tm:Nat->R} {mem:Mem}
@[go_sem] theorem aHH (s:Nat):ba tm (.t s)=tm s:=bx
@[go_sem] theorem aHI (m:R):ba tm (.c m)=m:=bx
@[go_sem] theorem aHJ (s:Nat)(m:R):put tm (some s) m=e6 tm s m:=bx
@[go_sem] theorem aHK (m:R):put tm none m=tm:=bx
@[go_sem] theorem aHL (s:Nat)(m:R)(t:Nat):e6 tm s m t=if t=s then m else tm t:=bx
@[go_sem] theorem Bu (k:Key)(g:Nat)(cs:List R)(j:Key):a1 mem k g cs j=if j=k then some (g,cs) else mem j:=bx
@[go_sem] theorem aHM:ig mem none=mem:=bx
@[go_sem] theorem aHN (k:Key)(g:Nat)(cs:List R):ig mem (some (k,g,cs))=a1 mem k g cs:=bx
def gB:Option (Nat×List R)->Nat
 |none=>0
 |some (g,_)=>g+1
@[go_sem] theorem aHO (k:Key):bX mem k=gB (mem k):=by unfold bX gB;rfl
@[go_sem] theorem aHP:gB none=0:=bx
@[go_sem] theorem aHQ (g:Nat)(cs:List R):gB (some (g,cs))=g+1:=bx
@[go_sem] theorem aHR (k:Key):emp k=none:=bx
@[go_sem] theorem aHS:pf tm none=some true:=bx
def On (m:R)(b:Bool):Option Bool :=
 match m with
 |.J (.bool t)=>some (t==b)
 |.no=>some false
 |_=>none
@[go_sem] theorem aHT (s:Nat)(b:Bool):pf tm (some (s,b))=On (tm s) b:=bx
@[go_sem] theorem aHU (b:Bool):On .no b=some false:=bx
variable (op:kg)
@[go_sem] theorem aHV (m:R):jf (some m)=some (m,none):=bx
@[go_sem] theorem aHW (x:bU):ct mem tm (.cN x)=some (ba tm x,none):=bx
@[go_sem] theorem aHX (c a b:bU):ct mem tm (.pick c a b)=jf (FH (ba tm c) (ba tm a) (ba tm b)):=bx
@[go_sem] theorem aHY (a b:R):FH (.J (.bool true)) a b=some a:=bx
@[go_sem] theorem aHZ (a b:R):FH (.J (.bool false)) a b=some b:=bx
@[go_sem] theorem aH0 (k:Key)(z:List R):ct mem tm (.alloc k z)=some (.ptr k (bX mem k) 0,some (k,bX mem k,z)):=bx
@[go_sem] theorem aH1 (k:Key)(x:bU):ct mem tm (.box k x)=if (ba tm x).known=true then some (.ptr k (bX mem k) 0,some (k,bX mem k,(ba tm x).cells)) else none:=bx
@[go_sem] theorem aH2 (z:List R)(ps:List (Nat×Nat×bU)):ct mem tm (.build z ps)=jf ((kC (ba tm) z ps).map .agg):=bx
@[go_sem] theorem aH3 (k:Key)(z:List R)(sz len:Nat)(ps:List (Nat×Nat×bU)):ct mem tm (.eQ k false z sz len ps)=jf (JG z sz len (kC (ba tm) z ps)):=bx
@[go_sem] theorem aH4 (k:Key)(z:List R)(sz len:Nat)(ps:List (Nat×Nat×bU)):ct mem tm (.eQ k true z sz len ps)=FI k (bX mem k) z sz len (kC (ba tm) z ps):=bx
@[go_sem] theorem aH5 (n:Nat)(dY:Bool)(x:bU):ct mem tm (.load n dY x)=jf (qp mem n dY (ba tm x)):=bx
@[go_sem] theorem aH6 (n:Nat)(x v:bU):ct mem tm (.store n x v)=x2 mem n (ba tm x) (ba tm v).cells:=bx
@[go_sem] theorem aH7 (b:BinOp)(x y:bU):ct mem tm (.bin b x y)=jf (JD b (ba tm x) (ba tm y)):=bx
@[go_sem] theorem aH8 (neg:Bool)(x y:bU):ct mem tm (.beq neg x y)=jf (JE neg (ba tm x) (ba tm y)):=bx
@[go_sem] theorem aH9 (neg:Bool)(n:List Nat)(x y:bU):ct mem tm (.eqs neg n x y)=jf (JI neg n (ba tm x) (ba tm y)):=bx
@[go_sem] theorem aIa (u:UnOp)(x:bU):ct mem tm (.un u x)=jf (JF u (ba tm x)):=bx
@[go_sem] theorem aIb (k:IntKind)(x:bU):ct mem tm (.conv k x)=jf (JJ k (ba tm x)):=bx
@[go_sem] theorem aIc (x:bU):ct mem tm (.sm x)=jf (JK (ba tm x)):=bx
@[go_sem] theorem aId (k:Key)(z:List R)(b:Nat)(x y:bU):ct mem tm (.mz k z b x y)=JU (idx (ba tm x)) (idx (ba tm y)) (FJ k (bX mem k) z b):=bx
@[go_sem] theorem aIe (o:Nat)(x:bU):ct mem tm (.eu o x)=jf (JL o (ba tm x)):=bx
@[go_sem] theorem aIf (o n:Nat)(dY:Bool)(x:bU):ct mem tm (.Di o n dY x)=jf (JM o n dY (ba tm x)):=bx
@[go_sem] theorem aIg (s:Nat)(x i:bU):ct mem tm (.nn s x i)=jf (h1 (idx (ba tm i)) λn=>zr s n (ba tm x)):=bx
@[go_sem] theorem aIh (n s:Nat)(x i:bU):ct mem tm (.pe n s x i)=jf (h1 (idx (ba tm i)) λm=>JN n s m (ba tm x)):=bx
@[go_sem] theorem aIi (x i:bU):ct mem tm (.idxs x i)=jf (h1 (idx (ba tm i)) λn=>JO n (ba tm x)):=bx
@[go_sem] theorem aIj (s:Nat)(x:bU)(cz M:Option bU):ct mem tm (.oF s x cz M none)=jf (h1 (jI 0 (cz.map (ba tm))) λl=>h1 (qo (ba tm x)) λlen=>h1 (jI len (M.map (ba tm))) λh=>JP s l h (ba tm x)):=bx
@[go_sem] theorem aIk (s:Nat)(x h m:bU)(cz:Option bU):ct mem tm (.oF s x cz (some h) (some m)) =
 jf (h1 (jI 0 (cz.map (ba tm))) λl=>h1 (idx (ba tm h)) λh=>h1 (idx (ba tm m)) λm=>JQ s l h m (ba tm x)):=bx
@[go_sem] theorem aIl (n s:Nat)(x:bU)(cz M:Option bU):ct mem tm (.tk n s x cz M none)=jf (h1 (jI 0 (cz.map (ba tm))) λl=>h1 (jI n (M.map (ba tm))) λh=>Bk mem n s l h (ba tm x)):=bx
@[go_sem] theorem aIm (x:bU)(cz M:Option bU):ct mem tm (.Dj x cz M)=jf (h1 (jI 0 (cz.map (ba tm))) λl=>h1 (zq (ba tm x)) λlen=>h1 (jI len (M.map (ba tm))) λh=>JR l h (ba tm x)):=bx
@[go_sem] theorem aIn (i:Nat)(x:bU):ct mem tm (.ext i x)=jf (JS i (ba tm x)):=bx
@[go_sem] theorem aIo (x:bU):ct mem tm (.len x)=jf (h1 (qo (ba tm x)) λn=>some (.J (.int .i64 n))):=bx
@[go_sem] theorem aIp (x:bU):ct mem tm (.lens x)=jf (h1 (zq (ba tm x)) λn=>some (.J (.int .i64 n))):=bx
@[go_sem] theorem aIq (k:Key)(z:List R)(b:Nat)(s x:bU):ct mem tm (.app k z b s x)=rh mem k z b (ba tm s) (qq mem (D z) (ba tm x)):=bx
@[go_sem] theorem aIr (z:List R)(x:bU):ct mem tm (.sr z x)=x3 mem z (ba tm x):=bx
@[go_sem] theorem aIs (s:Nat)(x y:bU):ct mem tm (.sn s x y)=wG mem s (ba tm x) (qq mem s (ba tm y)):=bx
@[go_sem] theorem aIt (b:Bool)(x y:bU):ct mem tm (.iO b x y)=jf (JT b (ba tm x) (ba tm y)):=bx
@[go_sem] theorem aIu (f:FuncId)(l:List bU):ct mem tm (.pL f l)=some (.fz f (l.map (ba tm)),none):=bx
@[go_sem] theorem aIv (n:Nat)(f:Nat->Option R):h1 (some n) f=f n:=bx
@[go_sem] theorem aIw (n m:Nat)(f:Nat->Nat->Out):JU (some n) (some m) f=f n m:=bx
def Oo (n:Nat)(dY:Bool)(g off:Nat):Option (Nat×List R)->Option R
 |some (c8,cs)=>if c8=g then (cut cs off n).bind (rf dY) else none
 |none=>none
@[go_sem] theorem aIx (n:Nat)(dY:Bool)(k:Key)(g off:Nat):qp mem n dY (.ptr k g off)=Oo n dY g off (mem k):=by unfold qp Oo;rfl
@[go_sem] theorem aIy (n:Nat)(dY:Bool)(g off:Nat)(cs:List R):Oo n dY g off (some (g,cs))=(cut cs off n).bind (rf dY):=by simp[Oo]
@[go_sem] theorem aIz (n:Nat)(dY:Bool)(ds:List Data):qp mem n dY (.J (.ptr ds))=(cut (ds.map .J) 0 n).bind (rf dY):=bx
@[go_sem] theorem aIA (n:Nat)(k:Key)(g off:Nat)(v:List R):x2 mem n (.ptr k g off) v=JV n k g off v (mem k):=bx
@[go_sem] theorem aIB (cs:List R):rf true cs=some (.agg cs):=bx
@[go_sem] theorem aIC (m:R):rf false [m]=some m:=bx
@[go_sem] theorem aID (cs:List R):(R.agg cs).cells=cs:=bx
@[go_sem] theorem aIE (cs:List Data):(R.J (.agg cs)).cells=cs.map .J:=bx
@[go_sem] theorem aIF (k:IntKind)(n:Int):(R.J (.int k n)).cells=[.J (.int k n)]:=bx
@[go_sem] theorem aIG (b:Bool):(R.J (.bool b)).cells=[.J (.bool b)]:=bx
@[go_sem] theorem aIH (l:List UInt8):(R.J (.str l)).cells=[.J (.str l)]:=bx
@[go_sem] theorem aII (l:List (List Data)):(R.J (.Y l)).cells=[.J (.Y l)]:=bx
@[go_sem] theorem aIJ (l:List Data):(R.J (.ptr l)).cells=[.J (.ptr l)]:=bx
@[go_sem] theorem aIK (f:FuncId)(l:List Data):(R.J (.fn f l)).cells=[.J (.fn f l)]:=bx
@[go_sem] theorem aIL:R.nil.cells=[.nil]:=bx
@[go_sem] theorem aIM (k:Key)(g s o l:Nat):(R.ref k g s o l).cells=[.ref k g s o l]:=bx
@[go_sem] theorem aIN (k:Key)(g o:Nat):(R.ptr k g o).cells=[.ptr k g o]:=bx
@[go_sem] theorem aIO (f:FuncId)(l:List R):(R.fz f l).cells=[.fz f l]:=bx
@[go_sem] theorem aIP (k:IntKind)(n:Nat):idx (.J (.int k (n:Int)))=some n:=by simp[idx]
@[go_sem] theorem aIQ (k:IntKind):idx (.J (.int k 0))=some 0:=bx
@[go_sem low] theorem aIR (k:IntKind)(n:Int):idx (.J (.int k n))=if 0<=n then some n.toNat else none:=bx
end
attribute [go_sem] JH JE JD JF JJ JK JL JM zr JN JO JP JQ Bk Tc JR JS JT jI qo zq JV wG Bl x3 N4 FJ FI JG JI Bj N3 kC kU cut chunk
 FG N0 N1 N2 Dk shut u6 R.one R.known qq nY dL FK JW rj ri FL JY Te JZ Tf JX Td N5 wH keyOf jJ FM rk u9 hx lv FN pM
end Go.Mini
namespace Go.Mini
open Go
variable {P:Program} {A:Nat->Prop} {w:World} {B:Lay} {mem:Mem}
def Bv (w aQ:World)(aX:Nat->Prop)(sz:Nat)(es:List (List Data))(v:Value):Prop :=
 (∀e∈es,D e=sz)/\∃a cap,v=.slice a (D es) cap/\D es<=cap/\cap<=maxLen /\
  (cap=0\/∃b vs T,a=some ⟨b,0,none⟩/\w.heap.size<=b/\aQ.heap[b]?=some (.cells vs T (0,0))/\cap*sz<=vs.size /\
   ∀(i:Nat) (d:Data),es.flatten[i]?=some d->∃u,vs[i]?=some u/\Den aQ (λew=>aX ew\/ew=b) d u)
def Oq (P:Program)(f:FuncId)(vs:List Value)(A:Nat->Prop)(w:World)(B:Lay)(mem:Mem):g0->Prop
 |.same r=>Calls P f vs.toArray w λe aQ=>∃v,e=.returned v/\Fr (λ_=>False) w aQ/\Den aQ (b6 A B) r v
 |.own sz es=>Calls P f vs.toArray w λe aQ=>∃v,e=.returned v/\Fr (λ_=>False) w aQ/\Bv w aQ (b6 A B) sz es v
 |.rel cg=>Calls P f vs.toArray w λe aQ=>∃v r mem' bu,e=.returned v/\eD A w B aQ bu mem'/\bt aQ (b6 A bu) bu r v/\cg r mem'
 |.zs r k=>Calls P f vs.toArray w λe aQ=>∃v bu,e=.returned v/\eD A w B aQ bu (a1 mem k (bX mem k) [])/\bt aQ (b6 A bu) bu (.J r) v
 |.e6 r k g i c=>Calls P f vs.toArray w λe aQ=>∃v bu,e=.returned v/\eD A w B aQ bu (a1 mem k g ((ri mem k).set i c))/\bt aQ (b6 A bu) bu (.J r) v
def Real (P : Program)(f : FuncId): Prop := ∃ fn c, P.funcs[f]? = some fn /\ fn.body = some c /\ (fn.name == "runtime.NumGoroutine") = false
def qB (P:Program)(T:bl):Prop:=∀f args mem oO,T f args mem=some oO->Real P f /\
 ∀A w B vs,fp A w B mem->dq w (b6 A B) B args vs->Oq P f vs A w B mem oO
theorem Ot {f:FuncId}(h:Real P f)(args:Array Value):(callFunc f args).run P w=.ok (.enter f args) w:=by
 obtain⟨fn,c,aH,ag,aK⟩:=h;have F : fn.name ≠ "runtime.NumGoroutine" := by simpa using aK
 simp[callFunc,aH,F,ag]
theorem Den.less {w:World}{aX mx:Nat->Prop}(h:∀b,mx b->aX b){d:Data}{v:Value}(aa:Den w aX d v):Den w mx d v :=
 aa.rb (b1 _) λb _ ag=>⟨rfl,λO=>ag (h b O)⟩
theorem Bv.den {w aQ:World}{aX:Nat->Prop}{sz:Nat}{es:List (List Data)}{v:Value}(aA:∀b,aX b->b<w.heap.size)(h:Bv w aQ aX sz es v):Den aQ aX (.Y es) v:=by
 obtain⟨he,a,cap,rfl,F,I,af⟩:=h;rcases af with rfl|⟨b,vs,T,rfl,aO,br,bR,bN⟩
 ·have:es=[]:=oM (by omega);subst this;exact .lO
 ·have DA:b<aQ.heap.size:=(Array.getElem?_eq_some_iff.1 br).1;refine .Y (sz:=sz) (λi=>vs.getD i undef) F (by omega) DA (λbM=>by have:=aA b bM;omega) he (λi M=>?_) λi d aa=>?_
  ·have aA:i<D es.flatten:=by rw[NV he];exact M
   obtain⟨u,hu,_⟩:=bN i _ (bz aA);rw[cell_of_row aQ b _ vs T (0,0) br,jv,Array.getD_eq_getD_getElem?,hu]
   rfl
  ·obtain⟨u,hu,aa⟩:=bN i d aa;rw[Array.getD_eq_getD_getElem?,hu];exact aa.less λb h => .inl h
theorem adF {aQ:World}{sz:Nat}{es:List (List Data)}{v:Value}(k:Key)(bW:fp A w B mem)(f:Fr (λ_=>False) w aQ)(h:Bv w aQ (b6 A B) sz es v):
  ∃bu,eD A w B aQ bu (a1 mem k (bX mem k) (es.flatten.map .J))/\bt aQ (b6 A bu) bu (.ref k (bX mem k) sz 0 (D es)) v:=by
 obtain⟨he,a,cap,rfl,F,I,af⟩:=h;have still:=eD.still bW f;rcases af with rfl|⟨b,vs,T,rfl,aO,br,bR,bN⟩
 ·have:es=[]:=oM (by omega);subst this;exact⟨_,still.trans (eD.x9 still.dZ k),.ref (hj _ _ _) (b1 _) ⟨_,0,rfl,F,I,.inl rfl⟩⟩
 ·have DA:b<aQ.heap.size:=(Array.getElem?_eq_some_iff.1 br).1
  have fa:∀ew,(⟨bX mem k,some b,vs.size⟩:my).df=some ew->w.heap.size<=ew\/∃e,B k=some e/\e.df=some ew:=λew h2=>by
   cases h2;exact .inl aO
  have jQ:=NV he;have hmul:(D es)*sz<=cap*sz:=vg _ F;have hold:∀ew,ew<w.heap.size->(∀e,B k=some e->e.df≠some ew)->aQ.heap[ew]?=w.heap[ew]?:=λew h2 _=>f.block ew h2 id;have bc:∀e,B k=some e->(⟨bX mem k,some b,vs.size⟩:my)=e\/e.g<(⟨bX mem k,some b,vs.size⟩:my).g:=λe he => .inr (Dm bW k e he);refine⟨gn B k ⟨bX mem k,some b,vs.size⟩,⟨?_,Trans.change f.size hold bc fa,⟨f.os,f.tape,f.output,f.size,λew h2 _=>f.block ew h2 id⟩,N8 fa⟩,?_⟩
  ·refine bW.Ti (e':=⟨bX mem k,some b,vs.size⟩) f.size hold bc fa (λh=>by cases h) λew h2=>?_
   cases h2;refine⟨vs,T,br,rfl,by rw[aj,jQ];omega,λi m hm=>?_⟩
   rw[bn,dV] at hm;obtain⟨d,aa,rfl⟩:=hm;obtain⟨u,hu,tx⟩:=bN i d aa;refine⟨u,hu,.J (tx.less λew h2=>?_)⟩;rcases h2 with ⟨j,e,ai,O⟩|aN
   ·by_cases ea:j=k
    ·subst ea;rw[hj] at ai
     cases ai
     cases O;exact .inr rfl
    ·rw[g9 B _ ea] at ai;exact .inl (.inl ⟨j,e,ai,O⟩)
   ·exact .inl (.inr aN)
  ·exact .ref (hj _ _ _) (b1 _) ⟨_,cap,rfl,F,I,.inr ⟨b,rfl,λ_=>⟨rfl,by simpa using bR⟩⟩⟩
end Go.Mini
namespace Go.Mini
open Go
variable {P:Program} {T:bl} {A:Nat->Prop} {ez w:World} {hl B:Lay} {mem:Mem} {n:Nat}
structure hG (n:Nat) (A:Nat->Prop) (ez:World) (hl:Lay) (a:Act) (st:bd) (w:World) (B:Lay):Prop where
 ok:eD A ez hl w B st.mem
 tm:∀s,bt w (b6 A B) B (st.tm s) (a.eval (.tmp s))
 sz:a.tmps.size=n
 Kh:a.defers=[]
theorem hG.tz {a:Act}{st:bd}(h:hG n A ez hl a st w B)(x:Operand)(y:bU)(O:dO x=some y):bt w (b6 A B) B (ba st.tm y) (a.eval x):=by
 cases x<;>simp only[dO,ca,dV,reduceCtorEq] at O
 ·subst O;exact h.tm _
 ·obtain⟨m,hm,rfl⟩:=O;exact aol hm
 ·subst O;exact .fz (vs:=[]) rfl λi d v F=>by simp at F
theorem apy {a:Act}{s:Nat}{v:Value}(h:s<a.tmps.size):(a.put (some s) v).eval (.tmp s)=v:=by
 simp[Act.eval,Act.put,h]
theorem hG.put {a:Act}{st:bd}{aQ:World}{bu:Lay}{mem':Mem}{dst:Option Nat}{r:R}{v:Value}(h:hG n A ez hl a st w B)(U:eD A w B aQ bu mem')(ab:bt aQ (b6 A bu) bu r v)
  (aa:dst.all (λd=>decide (d<n))=true):hG n A ez hl (a.put dst v) ⟨Mini.put st.tm dst r,mem'⟩ aQ bu:=by
 refine⟨h.ok.trans U,λs=>?_,?_,?_⟩
 ·cases dst with
  |none=>exact (h.tm s).rb U.m2
  |some d =>
   simp only[Option.all_some,decide_eq_true_eq] at aa
   by_cases Ki:s=d
   ·subst Ki;rw[apy (by rw[h.sz];exact aa)];simp only[Mini.put,e6,if_true];exact ab
   ·rw[Act.eval_put (λyh F I=>by cases F;cases I;exact Ki rfl)];simp only[Mini.put,e6,ah Ki];exact (h.tm s).rb U.m2
 ·cases dst<;>simp[Act.put,h.sz]
 ·cases dst<;>simp[Act.put,h.Kh]
theorem TE {a:Act}{st:bd}{ops:Array Oper}{o:Oper}{g:Option (Nat×Bool)}{b:Bool}(h:hG n A ez hl a st w B)(bc:J4 ops o.guard=some g)(ag:pf st.tm g=some b):
  Region.wanted o (yielded ops a.tmps)=b:=by
 unfold Region.wanted
 cases wL:o.guard with
 |none =>
  rw[wL] at bc;simp only[J4,ca] at bc;subst bc;simp only[pf,ca] at ag;exact ag
 |some p =>
  obtain⟨j,c⟩:=p;rw[wL] at bc;simp only[J4] at bc
  split at bc
  ·rename_i s U;simp only[ca] at bc;subst bc;have ak:=h.tm s
   have aw:yielded ops a.tmps j=match a.eval (.tmp s) with|.bool b=>some b|_=>none:=by
    unfold yielded;rw[U];simp only[Option.bind_some,Act.eval,Array.getD_eq_getD_getElem?]
    cases a.tmps[s]? with
    |none=>rfl
    |some v=>cases v<;>rfl
   simp only[pf] at ag;simp only[aw]
   split at ag
   ·rename_i t bD;rw[bD] at ak
    cases ak with
    |J ak =>
     generalize a.eval (.tmp s)=u at *
     cases ak;simp only[ca] at ag;subst ag
     cases t<;>cases c<;>simp
   ·rename_i bD;rw[bD] at ak;generalize a.eval (.tmp s)=u at *
    cases ak;simp only[ca] at ag;subst ag
    rfl
   ·cases ag
  ·cases bc
theorem adG {kb:Nat}{own:List Nat}{dst:Option Nat}{ty:TypeId}{op:Op}{f:FuncId}{args:List bU}(h:jK P kb own dst ty op=some (.call f args)):
  ∃c:Call,op=.call c/\c.callee=.value (.func f)/\c.args.toList.mapM dO=some args:=by
 cases op<;>simp only[jK,zu,wJ] at h
 case call c =>
  refine⟨c,rfl,?_⟩;unfold x5 at h
  (repeat' split at h)<;>simp_all [eo,dV]
 all_goals ((repeat' split at h)<;>simp_all [eo,dV])
theorem apz {kb:Nat}{own:List Nat}{dst:Option Nat}{ty:TypeId}{op:Op}{f:FuncId}{cz:Nat}{args:List bU}(h:jK P kb own dst ty op=some (.mA cz f args)):
  ∃c:Call,op=.call c/\c.callee=.value (.func f)/\c.args.toList.mapM dO=some args:=by
 cases op<;>simp only[jK,zu,wJ] at h
 case call c =>
  refine⟨c,rfl,?_⟩;unfold x5 at h
  (repeat' split at h)<;>simp_all [eo,dV]
  all_goals
   obtain⟨_,F,_,rfl,rfl⟩:=h;exact⟨rfl,F⟩
 all_goals ((repeat' split at h)<;>simp_all [eo,dV])
theorem apA {kb:Nat}{own:List Nat}{dst:Option Nat}{ty:TypeId}{op:Op}{f:FuncId}{cz:Nat}{args:List bU}(h:jK P kb own dst ty op=some (.tl cz f args)):
  ∃c:Call,op=.call c/\c.callee=.value (.func f)/\c.args.toList.mapM dO=some args:=by
 cases op<;>simp only[jK,zu,wJ] at h
 case call c =>
  refine⟨c,rfl,?_⟩;unfold x5 at h
  (repeat' split at h)<;>simp_all [eo,dV]
  all_goals
   obtain⟨_,F,_,rfl,rfl⟩:=h;exact⟨rfl,F⟩
 all_goals ((repeat' split at h)<;>simp_all [eo,dV])
theorem apB {kb:Nat}{own:List Nat}{dst:Option Nat}{ty:TypeId}{op:Op}{f:FuncId}{cz:Nat}{args:List bU}(h:jK P kb own dst ty op=some (.sq cz f args)):
  ∃c:Call,op=.call c/\c.callee=.value (.func f)/\c.args.toList.mapM dO=some args:=by
 cases op<;>simp only[jK,zu,wJ] at h
 case call c =>
  refine⟨c,rfl,?_⟩;unfold x5 at h
  (repeat' split at h)<;>simp_all [eo,dV]
  all_goals
   obtain⟨_,F,_,rfl,rfl⟩:=h;exact⟨rfl,F⟩
 all_goals ((repeat' split at h)<;>simp_all [eo,dV])
theorem adH {kb:Nat}{own:List Nat}{dst:Option Nat}{ty:TypeId}{op:Op}{f:FuncId}{k:Key}{sz:Nat}{args:List bU}(h:jK P kb own dst ty op=some (.oG k sz f args)):
  ∃c:Call,op=.call c/\c.callee=.value (.func f)/\c.args.toList.mapM dO=some args:=by
 cases op<;>simp only[jK,zu,wJ] at h
 case call c =>
  refine⟨c,rfl,?_⟩;unfold x5 at h
  (repeat' split at h)<;>simp_all [eo,dV]
  obtain⟨_,_,_,_,_,F,_,_,rfl,rfl⟩:=h;exact⟨rfl,F⟩
 all_goals ((repeat' split at h)<;>simp_all [eo,dV])
theorem apC {kb:Nat}{own:List Nat}{dst:Option Nat}{ty:TypeId}{op:Op}{f:bU}{args:List bU}(h:jK P kb own dst ty op=some (.jH f args)):
  ∃(c:Call) (x:Operand),op=.call c/\c.callee=.value x/\dO x=some f/\c.args.toList.mapM dO=some args:=by
 cases op<;>simp only[jK,zu,wJ] at h
 case call c =>
  refine⟨c,?_⟩;unfold x5 at h
  (repeat' split at h)<;>simp_all [eo,dV]
 all_goals ((repeat' split at h)<;>simp_all [eo,dV])
theorem apD {kb:Nat}{own:List Nat}{dst:Option Nat}{ty:TypeId}{op:Op}{neg:Bool}{x:bU}(h:jK P kb own dst ty op=some (.re neg x)):
  ∃(t e:TypeId) (y y':Operand) (z:TypeId),op=.binOp (if neg then .neq else .eql) t y y' z/\Th y'=true/\P.underlying t=some (.slice e)/\dO y=some x:=by
 cases op<;>simp only[jK,zu,wJ] at h
 case call c =>
  unfold x5 at h
  (repeat' split at h)<;>simp_all [eo,dV]
 case binOp bop t y y' z =>
  (repeat' split at h)<;>simp_all [eo,dV]
  all_goals
   obtain⟨F,rfl⟩:=h;exact⟨_,_,_,_,⟨rfl,rfl,rfl⟩,by assumption,by assumption,F⟩
 all_goals ((repeat' split at h)<;>simp_all [eo,dV])
end Go.Mini
namespace Go.Mini
open Go
variable {P:Program} {T:bl} {A:Nat->Prop} {ez w:World} {hl B:Lay} {mem:Mem} {n:Nat}
theorem apE {t e:TypeId}{y y':Operand}{m:R}{u v:Value}{aX:Nat->Prop}{full:Bool}(neg:Bool)(bD:P.underlying t=some (.slice e))(hm:bt w aX B m u)(aH:Dk m=some full)(ak:v=.slice none 0 0):
  ∃b:Bool,(full=true->b=false)/\((do eqGuard (if neg then .neq else .eql) t y y' u v;binOp (if neg then .neq else .eql) t u v:Sem Value)).run P w=.ok (.bool (neg != b)) w:=by
 subst ak
 have shape:∃a len cap,u=.slice a len cap/\(full=true->a.isNone=false):=by
  cases m<;>simp only[Dk,reduceCtorEq] at aH
  case J d =>
   cases d<;>simp only[Dk,ca,reduceCtorEq] at aH
   cases hm with
   |J aa =>
    cases aa with
    |lO=>exact⟨_,_,_,rfl,λh=>by cases aH;cases h⟩
    |Y=>exact⟨_,_,_,rfl,λ_=>rfl⟩
  case nil =>
   cases hm with
   |nil=>exact⟨_,_,_,rfl,λh=>by cases aH;cases h⟩
  case ref k g sz off len =>
   cases hm with
   |ref he bc ab =>
    obtain⟨a,cap,rfl,F,I,af⟩:=ab;refine⟨_,_,_,rfl,λh=>?_⟩;simp only[ca] at aH;subst aH;simp only[decide_eq_true_eq] at h;rcases af with af|⟨b,rfl,_⟩
    ·omega
    ·rfl
 obtain⟨a,len,cap,rfl,ag⟩:=shape;refine⟨a.isNone,ag,?_⟩
 have he:∀d,(Op.equalIn (d+1) t (.slice a len cap) (.slice none 0 0)).run P w=.ok a.isNone w:=λd=>by
  unfold Op.equalIn;simp only[Sem.run_bind,run_underlying bD,Result.andThen_ok]
  cases a<;>rfl
 have heq:(Op.equal t (.slice a len cap) (.slice none 0 0)).run P w=.ok a.isNone w:=he 9999;rw[N9 (by simp) (by simp)]
 cases neg
 ·simp only[kX,if_false,Sem.run_bind,Sem.run_pure,Result.andThen_ok];show (do pure (Value.bool (<-Op.equal t (.slice a len cap) (.slice none 0 0))):Sem Value).run P w=_
  simp[heq]
 ·simp only[if_true,Sem.run_bind,Sem.run_pure,Result.andThen_ok];show (do pure (Value.bool (!(<-Op.equal t (.slice a len cap) (.slice none 0 0)))):Sem Value).run P w=_
  simp[heq]
structure TF (P:Program) (n kb:Nat) (own:List Nat) (ops:Array Oper) (o:Oper) (i:c9):Prop where
 dst:i.dst=o.dst
 guard:J4 ops o.guard=some i.g
 op:i.op=(jK P kb own o.dst o.type o.op).getD .bad
 lt:o.dst.all (λd=>decide (d<n))=true
theorem adI {kb:Nat}{own:List Nat}{ops:Array Oper}{o:Oper}{i:c9}(h:Bm P n kb own ops o=some i):TF P n kb own ops o i:=by
 unfold Bm at h
 split at h
 ·rename_i g bc
  split at h
  ·rename_i aA
   cases h;exact⟨rfl,bc,rfl,aA⟩
  ·cases h
 ·cases h
theorem apF {K:bd->Prop}{i:c9}{st:bd}(h:gy T K i st):
  (∃m e,ct st.mem st.tm i.op=some (m,e)/\K ⟨put st.tm i.dst m,ig st.mem e⟩) \/
  (∃f args,i.op=.call f args/\u7 T K st i.dst f (args.map (ba st.tm))) \/
  (∃k sz f args es,i.op=.oG k sz f args/\T f (args.map (ba st.tm)) st.mem=some (.own sz es)/\K ⟨put st.tm i.dst (.ref k (bX st.mem k) sz 0 (D es)),a1 st.mem k (bX st.mem k) (es.flatten.map .J)⟩) \/
  (∃f args,i.op=.jH f args/\((∃g eT,ba st.tm f=.fz g eT/\u7 T K st i.dst g (args.map (ba st.tm)++eT))\/(∃g ds,ba st.tm f=.J (.fn g ds)/\u7 T K st i.dst g (args.map (ba st.tm)++ds.map .J)))) \/
  (∃neg x full,i.op=.re neg x/\Dk (ba st.tm x)=some full/\∀b:Bool,(full=true->b=false)->K ⟨put st.tm i.dst (.J (.bool (neg != b))),st.mem⟩):=by
 obtain⟨dst,g,op⟩:=i;unfold gy at h
 split at h
 ·rename_i f args m3;exact .inr (.inl ⟨f,args,m3,h⟩)
 ·rename_i k sz f args m3
  split at h
  ·rename_i ev es he
   split at h
   ·rename_i U;subst U;exact .inr (.inr (.inl ⟨k,_,f,args,es,m3,he,h⟩))
   ·cases h
  ·cases h
 ·rename_i f args m3;refine .inr (.inr (.inr (.inl ⟨f,args,m3,?_⟩)))
  split at h
  ·rename_i g eT aH;exact .inl ⟨g,eT,aH,h⟩
  ·rename_i g ds aH;exact .inr ⟨g,ds,aH,h⟩
  ·cases h
 ·rename_i neg x m3
  split at h
  ·rename_i full aH;exact .inr (.inr (.inr (.inr ⟨neg,x,full,m3,aH,h⟩)))
  ·cases h
 ·split at h
  ·rename_i m e he;exact .inl ⟨m,e,he,h⟩
  ·cases h
theorem getD_some {α:Type}{x:Option α}{b c:α}(h:c=x.getD b)(ag:c≠b):x=some c:=by
 cases x with
 |none=>exact absurd h ag
 |some y=>simp at h;rw[h]
theorem adJ (cC:qB P T){K:bd->Prop}{a:Act}{st:bd}{o:Oper}{aM:Exit->Act->World->Prop}{f:FuncId}{args:List R}{vs:List Value}(h:hG n A ez hl a st w B)(aA:o.dst.all (λd=>decide (d<n))=true)
  (ak:dq w (b6 A B) B args vs) (Q:u7 T K st o.dst f args) (m5:Real P f->(execOp a.eval o).run P w=.ok (.enter f vs.toArray) w) :
  o.wp P a w (λkE aQ=>∃dS bu,K dS/\hG n A ez hl kE dS aQ bu) aM:=by
 unfold u7 at Q;unfold Oper.wp
 cases im:T f args st.mem with
 |none=>rw[im] at Q;exact Q.elim
 |some oO =>
  obtain⟨mG,jw⟩:=cC f args st.mem oO im;have H:=jw A w B vs h.ok.dZ ak;rw[im] at Q;rw[m5 mG]
  cases oO with
  |same r =>
   refine Calls.mono H λe aQ he=>?_;obtain⟨v,rfl,bV,aa⟩:=he;exact⟨_,B,Q,h.put (.still h.ok.dZ bV) (.J aa) aA⟩
  |own sz es =>
   refine Calls.mono H λe aQ he=>?_;obtain⟨v,rfl,bV,aa⟩:=he;refine⟨_,B,Q,h.put (.still h.ok.dZ bV) (.J (aa.den λb ag=>?_)) aA⟩;rcases ag with ag|ag
   ·exact h.ok.dZ.x1 ag
   ·exact h.ok.dZ.lt b ag
  |zs r k =>
   refine Calls.mono H λe aQ he=>?_;obtain⟨v,bu,rfl,dE,lx⟩:=he;exact⟨_,bu,Q,h.put dE lx aA⟩
  |rel cg =>
   refine Calls.mono H λe aQ he=>?_;obtain⟨v,r,mem',bu,rfl,U,aa,gU⟩:=he;exact⟨_,bu,Q r mem' gU,h.put U aa aA⟩
  |e6 r k g i c =>
   refine Calls.mono H λe aQ he=>?_;obtain⟨v,bu,rfl,U,aa⟩:=he;exact⟨_,bu,Q,h.put U aa aA⟩
theorem apG {aX:Nat->Prop}{m:R}{u:Value}{g:FuncId}{eT:List R}(hm:bt w aX B m u)(h:m=.fz g eT\/∃ds,m=.J (.fn g ds)/\eT=ds.map .J):
  ∃cs:List Value,u=.func (.func g) #[] cs.toArray/\dq w aX B eT cs:=by
 rcases h with rfl|⟨ds,rfl,rfl⟩
 ·cases hm with
  |fz ar aa=>exact⟨_,rfl,ar,aa⟩
 ·cases hm with
  |J aa =>
   cases aa with
   |fn ar aa=>exact⟨_,rfl,dq.J ar aa⟩
theorem apH (cC:qB P T){K:bd->Prop}{kb:Nat}{own:List Nat}{ops:Array Oper}{a:Act}{st:bd}{o:Oper}{i:c9}{aM:Exit->Act->World->Prop}(h:hG n A ez hl a st w B)(M:TF P n kb own ops o i)
  (Q:gy T K i st):o.wp P a w (λkE aQ=>∃dS bu,K dS/\hG n A ez hl kE dS aQ bu) aM:=by
 have m3:=M.op;rcases apF Q with ⟨m,e,U,dQ⟩|⟨f,args,he,dQ⟩|⟨k,sz,f,args,es,he,im,dQ⟩|⟨f,args,he,dQ⟩|⟨neg,x,full,he,aH,dQ⟩
 ·have aY:jK P kb own o.dst o.type o.op=some i.op:=getD_some m3 (by
   intro ag;rw[ag] at U
   cases U)
  obtain⟨Gi,v,aQ,bu,m5,hN,dE,ak⟩:=adB h.ok.dZ h.tz aY U;unfold Oper.wp;rw[m5];rw[M.dst] at dQ;have Kj:=h.put dE ak M.lt;rcases hN with rfl|⟨rfl,rfl⟩
  ·exact⟨_,bu,dQ,Kj⟩
  ·exact⟨_,bu,dQ,Kj⟩
 ·have aY:jK P kb own o.dst o.type o.op=some i.op:=getD_some m3 (by rw[he];simp);rw[he] at aY;obtain⟨c,H,mH,n2⟩:=adG aY;rw[M.dst] at dQ;refine adJ cC h M.lt (yg h.tz n2) dQ λmG=>?_;obtain⟨dst,op,type,pos,after,guard⟩:=o;simp only at H;subst H;obtain⟨callee,zF,Ou⟩:=c;simp only at mH;subst mH;simp only[execOp,resolve,Deferred.ofValue,Act.eval,invoke,Sem.run_bind,Sem.run_pure,Result.andThen_ok,Ot mG];rw[Bs zF];simp
 ·have aY:jK P kb own o.dst o.type o.op=some i.op:=getD_some m3 (by rw[he];simp);rw[he] at aY;obtain⟨c,H,mH,n2⟩:=adH aY;rw[M.dst] at dQ;obtain⟨mG,jw⟩:=cC f _ st.mem _ im;have hy:=jw A w B _ h.ok.dZ (yg h.tz n2);have aA:=M.lt;obtain⟨dst,op,type,pos,after,guard⟩:=o;simp only at H;subst H;obtain⟨callee,zF,Ou⟩:=c;simp only at mH n2;subst mH
  have m5:(execOp a.eval ⟨dst,.call ⟨.value (.func f),zF,Ou⟩,type,pos,after,guard⟩).run P w=.ok (.enter f (zF.toList.map a.eval).toArray) w:=by
   simp only[execOp,resolve,Deferred.ofValue,Act.eval,invoke,Sem.run_bind,Sem.run_pure,Result.andThen_ok,Ot mG];rw[Bs zF];simp
  unfold Oper.wp;rw[m5];refine Calls.mono hy λe aQ pR=>?_;obtain⟨v,rfl,bV,aa⟩:=pR;obtain⟨bu,dE,ak⟩:=adF k h.ok.dZ bV aa;exact⟨_,bu,dQ,h.put dE ak aA⟩
 ·have aY:jK P kb own o.dst o.type o.op=some i.op:=getD_some m3 (by rw[he];simp);rw[he] at aY;obtain⟨c,x,H,mH,O,n2⟩:=apC aY;rw[M.dst] at dQ;have apI:=h.tz _ _ O
  have main:∀g eT,(ba st.tm f=.fz g eT\/∃ds,ba st.tm f=.J (.fn g ds)/\eT=ds.map .J)->u7 T K st o.dst g (args.map (ba st.tm)++eT)->o.wp P a w (λkE aQ=>∃dS bu,K dS/\hG n A ez hl kE dS aQ bu) aM:=by
   intro g eT bc dQ;obtain⟨cs,hu,b2⟩:=apG apI bc;refine adJ cC h M.lt ((yg h.tz n2).append b2) dQ λmG=>?_;obtain⟨dst,op,type,pos,after,guard⟩:=o;simp only at H;subst H;obtain⟨callee,zF,Ou⟩:=c;simp only at mH;subst mH;simp only[execOp,resolve,hu,Deferred.ofValue,invoke,Sem.run_bind,Sem.run_pure,Result.andThen_ok,Ot mG];rw[Bs zF];simp
  rcases dQ with ⟨g,eT,bc,dQ⟩|⟨g,ds,bc,dQ⟩
  ·exact main g eT (.inl bc) dQ
  ·exact main g _ (.inr ⟨ds,bc,rfl⟩) dQ
 ·have aY:jK P kb own o.dst o.type o.op=some i.op:=getD_some m3 (by rw[he];simp);rw[he] at aY;obtain⟨t,e,y,y',z,H,aK,bD,aw⟩:=apD aY;rw[M.dst] at dQ
  have TG:a.eval y' = .slice none 0 0:=by
   unfold Th at aK
   split at aK
   ·rfl
   ·cases aK
  obtain⟨b,ag,m5⟩:=apE (y:=y) (y':=y') neg bD (h.tz _ _ aw) aH TG;obtain⟨dst,op,type,pos,after,guard⟩:=o;simp only at H;subst H;unfold Oper.wp
  have:(execOp a.eval ⟨dst,.binOp (if neg then .neq else .eql) t y y' z,type,pos,after,guard⟩).run P w=.ok (.value (.bool (neg != b))) w:=by
   simp only[execOp];rw[Sem.run_bind,m5]
   rfl
  rw[this];exact⟨_,B,dQ b ag,h.put (.refl h.ok.dZ) (.J .bool) M.lt⟩
end Go.Mini
namespace Go.Mini
open Go
variable {T:bl}
theorem fJ {tm tm':Nat->R}{x:bU}(h:∀s∈fq x,tm s=tm' s):ba tm x=ba tm' x:=by
 cases x with
 |t s=>exact h s (by simp[fq])
 |c m=>rfl
theorem map_congr {tm tm':Nat->R}{l:List bU}(h:∀s∈l.flatMap fq,tm s=tm' s):l.map (ba tm)=l.map (ba tm') :=
 mI λx O=>fJ λs U=>h s (yi.2 ⟨x,O,U⟩)
theorem Ov {tm tm':Nat->R}{l:List bU}(h:∀s∈l.flatMap fq,tm s=tm' s):(l.map λx=>shut (ba tm x))=l.map λx=>shut (ba tm' x) :=
 mI λx O=>by rw[fJ λs U=>h s (yi.2 ⟨x,O,U⟩)]
theorem DB {tm tm':Nat->R}{x:Option bU}(h:∀s∈x6 x,tm s=tm' s):x.map (ba tm)=x.map (ba tm'):=by
 cases x with
 |none=>rfl
 |some x =>
  cases x with
  |t s=>simp[ba,h s (by simp[x6])]
  |c m=>rfl
theorem TH {tm tm':Nat->R}:∀{ps:List (Nat×Nat×bU)} (cs:List R),(∀s∈ps.flatMap (λp=>fq p.2.2),tm s=tm' s)->kC (ba tm) cs ps=kC (ba tm') cs ps
 | [],_,_=>rfl
 |(o,s,x)::ps,cs,h=>by
  have F:ba tm x=ba tm' x:=fJ λt bD=>h t (yi.2 ⟨(o,s,x),by simp,bD⟩);simp only[kC,F]
  split
  ·exact TH _ λt bD=>h t (by simp only[List.flatMap_cons,jk];exact .inr bD)
  ·rfl
theorem apJ {mem:Mem}{tm tm':Nat->R}{op:kg}(h:∀s∈sv op,tm s=tm' s):ct mem tm op=ct mem tm' op:=by
 cases op<;>simp only[sv,jk] at h
 case cN x=>simp only[ct,kV,fJ h]
 case pick c a b=>simp only[ct,kV,fJ (λs U=>h s (.inl (.inl U))),fJ (λs U=>h s (.inl (.inr U))),fJ (λs U=>h s (.inr U))]
 case alloc=>rfl
 case box k x=>simp only[ct,fJ h]
 case build z ps=>simp only[ct,kV,TH _ h]
 case eQ k o z sz len ps=>cases o<;>simp only[ct,kV,TH _ h]
 case load n dY x=>simp only[ct,fJ h]
 case store n x v=>simp only[ct,fJ (λs U=>h s (.inl U)),fJ (λs U=>h s (.inr U))]
 case bin o x y=>simp only[ct,kV,fJ (λs U=>h s (.inl U)),fJ (λs U=>h s (.inr U))]
 case beq o x y=>simp only[ct,kV,fJ (λs U=>h s (.inl U)),fJ (λs U=>h s (.inr U))]
 case eqs o l x y=>simp only[ct,kV,fJ (λs U=>h s (.inl U)),fJ (λs U=>h s (.inr U))]
 case re=>rfl
 case un o x=>simp only[ct,kV,fJ h]
 case conv k x=>simp only[ct,kV,fJ h]
 case sm x=>simp only[ct,kV,fJ h]
 case mz k z b x y=>simp only[ct,fJ (λs U=>h s (.inl U)),fJ (λs U=>h s (.inr U))]
 case eu o x=>simp only[ct,kV,fJ h]
 case Di o n dY x=>simp only[ct,kV,fJ h]
 case nn s x i=>simp only[ct,kV,fJ (λs U=>h s (.inl U)),fJ (λs U=>h s (.inr U))]
 case pe n s x i=>simp only[ct,kV,fJ (λs U=>h s (.inl U)),fJ (λs U=>h s (.inr U))]
 case idxs x i=>simp only[ct,kV,fJ (λs U=>h s (.inl U)),fJ (λs U=>h s (.inr U))]
 case oF s x a b c =>
  have F:=fJ (λs U=>h s (.inl (.inl (.inl U))));have I:=DB (λs U=>h s (.inl (.inl (.inr U))));have af:=DB (λs U=>h s (.inl (.inr U)));have aO:=DB (λs U=>h s (.inr U))
  cases b<;>cases c<;>simp only[k5,adK,ca] at af aO<;>simp only[ct,kV,k5,adK,F,I,af,aO]
 case tk n s x a b c =>
  have F:=fJ (λs U=>h s (.inl (.inl (.inl U))));have I:=DB (λs U=>h s (.inl (.inl (.inr U))));have af:=DB (λs U=>h s (.inl (.inr U)))
  cases c<;>simp only[ct,kV,F,I,af]
 case Dj x a b=>simp only[ct,kV,fJ (λs U=>h s (.inl (.inl U))),DB (λs U=>h s (.inl (.inr U))),DB (λs U=>h s (.inr U))]
 case ext i x=>simp only[ct,kV,fJ h]
 case len x=>simp only[ct,kV,fJ h]
 case lens x=>simp only[ct,kV,fJ h]
 case app k z b s x=>simp only[ct,fJ (λs U=>h s (.inl U)),fJ (λs U=>h s (.inr U))]
 case sn s d x=>simp only[ct,fJ (λs U=>h s (.inl U)),fJ (λs U=>h s (.inr U))]
 case sr z x=>simp only[ct,fJ h]
 case iO o x y=>simp only[ct,kV,fJ (λs U=>h s (.inl U)),fJ (λs U=>h s (.inr U))]
 case call=>rfl
 case oG=>rfl
 case jH=>rfl
 case mA=>rfl
 case tl=>rfl
 case sq=>rfl
 case pL f l=>simp only[ct,kV,map_congr h]
 case bad=>rfl
theorem adL {mem:Mem}{tm tm':Nat->R}{op:kg}(h:∀s∈sv op,tm s=tm' s):hx T mem tm op=hx T mem tm' op:=by
 cases op
 case call f l =>
  have:=Ov (l:=l) (tm:=tm) (tm':=tm') (by simpa [sv] using h);simp only[hx,this]
 case oG k sz f l =>
  have:=Ov (l:=l) (tm:=tm) (tm':=tm') (by simpa [sv] using h);simp only[hx,this]
 case jH=>rfl
 case re=>rfl
 case mA cz f l =>
  have:=map_congr (l:=l) (tm:=tm) (tm':=tm') (by simpa [sv] using h);simp only[hx,this]
 case tl j f l =>
  have F:=map_congr (l:=l) (tm:=tm) (tm':=tm') (by simpa [sv] using h);have I:=Ov (l:=l) (tm:=tm) (tm':=tm') (by simpa [sv] using h);simp only[hx,F,I]
 case sq j f l =>
  have F:=map_congr (l:=l) (tm:=tm) (tm':=tm') (by simpa [sv] using h);have I:=Ov (l:=l) (tm:=tm) (tm':=tm') (by simpa [sv] using h);simp only[hx,F,I]
 all_goals exact apJ (mem:=mem) h
theorem adM {tm tm':Nat->R}{op:kg}(h:∀s∈sv op,tm s=tm' s):dL tm op=dL tm' op:=by
 cases op<;>simp only[sv,jk] at h<;>try rfl
 case eQ k o z sz len ps=>cases o<;>rfl
 case load n dY x=>simp only[dL,fJ h]
 case tk n s x a b c=>simp only[dL,fJ (λs U=>h s (.inl (.inl (.inl U))))]
 case store n x v=>simp only[dL,fJ (λs U=>h s (.inl U))]
 case app k z b s x=>simp only[dL,fJ (λs U=>h s (.inl U)),fJ (λs U=>h s (.inr U))]
 case sn s d x=>simp only[dL,fJ (λs U=>h s (.inl U)),fJ (λs U=>h s (.inr U))]
 case mA cz f l=>simp only[dL,map_congr h]
 case tl j f l=>simp only[dL,map_congr h]
 case sq j f l=>simp only[dL,map_congr h]
 case sr z x=>simp only[dL,fJ h]
theorem apK {n:Nat}{m:R}{aM:Key->Prop}(h:∀x∈FK n m,aM x.key):∀j∈keyOf m,aM j:=by
 cases m<;>simp_all [FK,keyOf,nq.key]
theorem adN {mem mem':Mem}{sz:Nat}{m:R}(h:∀k∈keyOf m,mem k=mem' k):qq mem sz m=qq mem' sz m:=by
 cases m<;>try rfl
 case J d=>cases d<;>rfl
 simp only[qq];rw[h _ (by simp[keyOf])]
theorem apL {mem mem':Mem}{k:Key}{z:List R}{b:Nat}{m:R}{row:Option (Nat×List R)}(Q:mem k=mem' k)(h:∀j∈keyOf m,mem j=mem' j):rh mem k z b m row=rh mem' k z b m row:=by
 cases m<;>cases row<;>try rfl
 ·simp only[rh,bX,Q]
 ·simp only[rh];rw[h _ (by simp[keyOf])]
theorem apM {mem mem':Mem}{sz:Nat}{m:R}{row:Option (Nat×List R)}(h:∀j∈keyOf m,mem j=mem' j):wG mem sz m row=wG mem' sz m row:=by
 cases m<;>cases row<;>try rfl
 simp only[wG];rw[h _ (by simp[keyOf])]
theorem apN {mem mem':Mem}{z:List R}{m:R}(h:∀j∈keyOf m,mem j=mem' j):x3 mem z m=x3 mem' z m:=by
 cases m<;>try rfl
 simp only[x3];rw[h _ (by simp[keyOf])]
theorem apO {mem mem':Mem}{n:Nat}{dY:Bool}{m:R}(h:∀j∈keyOf m,mem j=mem' j):qp mem n dY m=qp mem' n dY m:=by
 cases m<;>try rfl
 case J d=>cases d<;>rfl
 simp only[qp];rw[h _ (by simp[keyOf])]
theorem apP {mem mem':Mem}{n:Nat}{m:R}{v:List R}(h:∀j∈keyOf m,mem j=mem' j):x2 mem n m v=x2 mem' n m v:=by
 cases m<;>try rfl
 simp only[x2];rw[h _ (by simp[keyOf])]
theorem apQ {mem mem':Mem}{n s a b:Nat}{m:R}(h:∀j∈keyOf m,mem j=mem' j):Bk mem n s a b m=Bk mem' n s a b m:=by
 cases m<;>try rfl
 simp only[Bk];rw[h _ (by simp[keyOf])]
theorem apR {mem mem':Mem}{tm:Nat->R}{op:kg}(h:∀x∈dL tm op,mem x.key=mem' x.key):ct mem tm op=ct mem' tm op:=by
 have Gi:∀k,mem k=mem' k->bX mem k=bX mem' k:=λk Q=>by simp only[bX,Q]
 cases op<;>try rfl
 case alloc k z=>simp only[ct,Gi k (h (.hv k) (by simp[dL]))]
 case box k x=>simp only[ct,Gi k (h (.hv k) (by simp[dL]))]
 case eQ k o z sz len ps =>
  cases o
  ·rfl
  ·simp only[ct,Gi k (h (.hv k) (by simp[dL]))]
 case mz k z b x y=>simp only[ct,Gi k (h (.hv k) (by simp[dL]))]
 case load n dY x =>
  simp only[ct];rw[apO (apK (aM:=λj=>mem j=mem' j) h)]
 case tk n s x a b c =>
  cases c
  ·simp only[ct]
   congr 2
   funext l
   congr 1
   funext aR
   exact apQ λj ai=>h (.hv j) (by simp[dL,ai])
  ·rfl
 case store n x v =>
  simp only[ct];exact apP λj ai=>h (.hv j) (by simp[dL,ai])
 case app k z b s x =>
  have cy:∀j,j=k\/j∈keyOf (ba tm s)\/j∈keyOf (ba tm x)->mem j=mem' j:=λj ai=>h (.hv j) (by simpa [dL] using ai);simp only[ct,adN (sz:=D z) (λj ai=>cy j (.inr (.inr ai)))];exact apL (cy k (.inl rfl)) λj ai=>cy j (.inr (.inl ai))
 case sn s d x =>
  have cy:∀j,j∈keyOf (ba tm d)\/j∈keyOf (ba tm x)->mem j=mem' j:=λj ai=>h (.hv j) (by simpa [dL] using ai);simp only[ct,adN (sz:=s) (λj ai=>cy j (.inr ai))];exact apM λj ai=>cy j (.inl ai)
 case sr z x =>
  simp only[ct];exact apN λj ai=>h (.hv j) (by simp[dL,ai])
theorem adO {mem mem':Mem}{tm:Nat->R}{op:kg}(H:∀cz f l,op ≠ .mA cz f l)(h:∀x∈dL tm op,mem x.key=mem' x.key):hx T mem tm op=hx T mem' tm op:=by
 cases op
 case call=>rfl
 case oG k sz f l =>
  have:bX mem k=bX mem' k:=by
   have:=h (.hv k) (by simp[dL]);simp only[nq.key] at this;simp only[bX,this]
  simp only[hx,this]
 case mA cz f l=>exact absurd rfl (H cz f l)
 case tl j f l =>
  simp only[hx]
  cases hm:(l.map (ba tm))[j]? with
  |none=>rfl
  |some m =>
   cases m<;>try rfl
   have:=h (.hv _) (by simp only[dL,hm,wH];exact gq);simp only[nq.key] at this;simp only[JY,this]
 case sq j f l =>
  simp only[hx]
  cases hm:(l.map (ba tm))[j]? with
  |none=>rfl
  |some m =>
   cases m<;>try rfl
   have:=h (.hv _) (by simp only[dL,hm,wH];exact gq);simp only[nq.key] at this;simp only[JZ,this]
 case jH=>rfl
 case re=>rfl
 all_goals exact apR (mem:=mem) (mem':=mem') (tm:=tm) h
theorem Ow {x:Option R}{m:R}{e:Option (Key×Nat×List R)}(h:jf x=some (m,e)):e=none:=(adw h).2
theorem apS {mem:Mem}{tm:Nat->R}{op:kg}{m:R}{e:Option (Key×Nat×List R)}(h:ct mem tm op=some (m,e)):e=none\/(jJ op=true/\∃k g cs,e=some (k,g,cs) /\ .hv k∈dL tm op):=by
 cases op<;>try (first|exact .inl (Ow h)|exact .inl (Ow (x:=some _) h))
 case alloc k z =>
  simp only[ct,ca,fD] at h;exact .inr ⟨rfl,_,_,_,h.2.symm,by simp[dL]⟩
 case box k x =>
  simp only[ct] at h
  split at h<;>simp only[ca,fD,reduceCtorEq] at h
  exact .inr ⟨rfl,_,_,_,h.2.symm,by simp[dL]⟩
 case eQ k o z sz len ps =>
  cases o
  ·exact .inl (Ow h)
  ·simp only[ct,FI] at h
   (repeat' split at h)<;>simp only[ca,fD,reduceCtorEq] at h
   exact .inr ⟨rfl,_,_,_,h.2.symm,by simp[dL]⟩
 case mz k z b x y =>
  obtain⟨_,_,_,_,h⟩:=adx h;simp only[FJ] at h
  split at h<;>simp only[ca,fD,reduceCtorEq] at h
  exact .inr ⟨rfl,_,_,_,h.2.symm,by simp[dL]⟩
 case tk n s x a b c =>
  cases c
  ·exact .inl (Ow h)
  ·cases h
 case store n x v =>
  simp only[ct] at h
  cases O:ba tm x<;>rw[O] at h<;>simp only[x2,reduceCtorEq] at h
  simp only[JV] at h
  (repeat' split at h)<;>simp only[ca,fD,reduceCtorEq] at h
  exact .inr ⟨rfl,_,_,_,h.2.symm,by simp[dL,O,keyOf]⟩
 case app k z b s x =>
  simp only[ct] at h
  cases ab:qq mem (D z) (ba tm x)<;>cases U:ba tm s<;>rw[ab,U] at h<;>simp only[rh,reduceCtorEq] at h
  ·split at h<;>simp only[ca,fD,reduceCtorEq] at h
   exact .inr ⟨rfl,_,_,_,h.2.symm,by simp[dL]⟩
  ·simp only[kW] at h
   (repeat' split at h)<;>simp only[ca,fD,reduceCtorEq] at h
   exact .inr ⟨rfl,_,_,_,h.2.symm,by simp[dL,U,keyOf]⟩
 case sn s d x =>
  simp only[ct] at h
  cases ab:qq mem s (ba tm x)<;>cases U:ba tm d<;>rw[ab,U] at h<;>simp only[wG,reduceCtorEq] at h
  simp only[Bl] at h
  (repeat' split at h)<;>simp only[ca,fD,reduceCtorEq] at h
  exact .inr ⟨rfl,_,_,_,h.2.symm,by simp[dL,U,keyOf]⟩
 case sr z x =>
  simp only[ct] at h
  cases U:ba tm x<;>rw[U] at h<;>simp only[x3,reduceCtorEq] at h
  simp only[N4] at h
  (repeat' split at h)<;>simp only[ca,fD,reduceCtorEq] at h
  exact .inr ⟨rfl,_,_,_,h.2.symm,by simp[dL,U,keyOf]⟩
 all_goals cases h
theorem adP {mem:Mem}{j:Nat}{f:FuncId}{ms:List R}{x:Option R}{m:R}{e:Option (Key×Nat×List R)}(h:JY T mem j f ms x=some (m,e)):
  ∃k g sz off len cs d r,x=some (.ref k g sz off len)/\mem k=some (g,cs)/\JX sz off len cs=some d/\N5 (T f (ms.set j (.J d)) emp)=some r/\m=.J r/\e=some (k,bX mem k,[]):=by
 unfold JY at h
 split at h
 ·rename_i k g sz off len;unfold Te at h
  split at h
  ·rename_i c8 cs hm
   split at h
   ·rename_i bc;subst bc
    split at h
    ·rename_i d aa
     split at h
     ·rename_i r ab;simp only[ca,fD] at h;exact⟨k,_,sz,off,len,cs,d,r,rfl,hm,aa,ab,h.1.symm,by rw[<-h.2];simp[bX,hm]⟩
     ·cases h
    ·cases h
   ·cases h
  ·cases h
 ·cases h
theorem adQ {mem:Mem}{j:Nat}{f:FuncId}{ms:List R}{x:Option R}{m:R}{e:Option (Key×Nat×List R)}(h:JZ T mem j f ms x=some (m,e)):
  ∃k g sz off len c8 cs r,x=some (.ref k g sz off len)/\mem k=some (c8,cs)/\nZ cs=true/\T f (ms.set j (.ref k g sz off len)) (a1 emp k c8 cs)=some (.zs r k)/\m=.J r/\e=some (k,bX mem k,[]):=by
 unfold JZ at h
 split at h
 ·rename_i k g sz off len;unfold Tf at h
  split at h
  ·rename_i c8 cs hm
   split at h
   ·rename_i aa
    split at h
    ·rename_i r k' ab
     split at h
     ·rename_i Q;subst Q;simp only[ca,fD] at h;exact⟨_,g,sz,off,len,c8,cs,r,rfl,hm,aa,ab,h.1.symm,by rw[<-h.2];simp[bX,hm]⟩
     ·cases h
    ·cases h
   ·cases h
  ·cases h
 ·cases h
theorem adR {cz:Nat}{mem:Mem}{ms:List R}{x:Option g0}{m:R}{e:Option (Key×Nat×List R)}(h:FL cz mem ms x=some (m,e)):
  ∃r k g i c cs,x=some (.e6 r k g i c)/\mem k=some (g,cs)/\m=.J r/\e=some (k,g,cs.set i c)/\JW cz ms=[.wr k i]:=by
 unfold FL at h
 split at h
 ·rename_i k g off rest r k' c8 i c
  split at h
  ·rename_i DD cs hm
   split at h
   ·rename_i H;obtain⟨rfl,rfl,rfl⟩:=H;simp only[ca,fD] at h;exact⟨r,_,_,_,c,cs,rfl,hm,h.1.symm,h.2.symm,rfl⟩
   ·cases h
  ·cases h
 ·cases h
theorem TI {mem:Mem}{tm:Nat->R}{op:kg}{m:R}{e:Option (Key×Nat×List R)}(h:hx T mem tm op=some (m,e)):e=none\/(jJ op=true/\∃k g cs,e=some (k,g,cs)/\(.hv k∈dL tm op\/∃i c tA,dL tm op=[.wr k i]/\mem k=some (g,tA)/\cs=tA.set i c)):=by
 have pl:ct mem tm op=some (m,e)->e=none\/(jJ op=true/\∃k g cs,e=some (k,g,cs)/\(.hv k∈dL tm op\/∃i c tA,dL tm op=[.wr k i]/\mem k=some (g,tA)/\cs=tA.set i c)):=λh=>by
  rcases apS h with h|⟨F,k,g,cs,I,af⟩
  ·exact .inl h
  ·exact .inr ⟨F,k,g,cs,I,.inl af⟩
 cases op
 case call f l =>
  simp only[hx] at h
  split at h<;>simp only[ca,fD,reduceCtorEq] at h
  ·exact .inl h.2.symm
  ·exact .inl h.2.symm
 case oG k sz f l =>
  simp only[hx] at h
  (repeat' split at h)<;>simp only[ca,fD,reduceCtorEq] at h
  exact .inr ⟨rfl,_,_,_,h.2.symm,.inl (by simp[dL])⟩
 case jH=>cases h
 case re=>cases h
 case mA cz f l =>
  obtain⟨r,k,g,i,c,cs,-,hm,-,he,aH⟩:=adR h;exact .inr ⟨rfl,k,g,_,he,.inr ⟨i,c,cs,aH,hm,rfl⟩⟩
 case tl j f l =>
  simp only[hx] at h;obtain⟨k,g,sz,off,len,cs,d,r,O,hm,-,-,-,he⟩:=adP h;exact .inr ⟨rfl,k,_,_,he,.inl (by simp only[dL,O,wH];exact gq)⟩
 case sq j f l =>
  simp only[hx] at h;obtain⟨k,g,sz,off,len,c8,cs,r,O,hm,-,-,-,he⟩:=adQ h;exact .inr ⟨rfl,k,_,_,he,.inl (by simp only[dL,O,wH];exact gq)⟩
 all_goals exact pl h
theorem apT {tm:Nat->R}{op:kg}{b:nq}(ag:b∈dL tm op):(∃k,b=.hv k)\/(∃n dY x k g off,op=.load n dY x/\ba tm x=.ptr k g off/\b=.rd k off (off+n))\/∃cz f l,op=.mA cz f l:=by
 cases op
 case load n dY x =>
  simp only[dL] at ag
  cases O:ba tm x<;>rw[O] at ag<;>simp[FK] at ag
  ·exact .inl ⟨_,ag⟩
  ·exact .inr (.inl ⟨_,_,_,_,_,_,rfl,O,ag⟩)
 case mA cz f l=>exact .inr (.inr ⟨_,_,_,rfl⟩)
 case tl j f l =>
  simp only[dL] at ag
  cases hm:(l.map (ba tm))[j]? with
  |none=>rw[hm] at ag;simp[wH] at ag
  |some m =>
   rw[hm] at ag
   cases m<;>simp[wH] at ag
   exact .inl ⟨_,ag⟩
 case sq j f l =>
  simp only[dL] at ag
  cases hm:(l.map (ba tm))[j]? with
  |none=>rw[hm] at ag;simp[wH] at ag
  |some m =>
   rw[hm] at ag
   cases m<;>simp[wH] at ag
   exact .inl ⟨_,ag⟩
 case eQ k o z sz len ps =>
  cases o<;>simp[dL] at ag;exact .inl ⟨_,ag⟩
 all_goals
  simp[dL] at ag
  try first
   |exact .inl ⟨_,ag⟩
   |(rcases ag with ⟨k,_,h⟩|⟨k,_,h⟩<;>exact .inl ⟨k,h.symm⟩)
   |(rcases ag with h|⟨k,_,h⟩|⟨k,_,h⟩<;>first|exact .inl ⟨_,h⟩|exact .inl ⟨_,h.symm⟩)
   |(obtain⟨k,_,h⟩:=ag;exact .inl ⟨k,h.symm⟩)
theorem apU {cs:List R}{i off n:Nat}{c:R}(h:i<off\/off+n<=i):cut (cs.set i c) off n=cut cs off n:=by
 unfold cut;rw[hn]
 split
 ·congr 1
  rcases h with h|h
  ·rw[tB h]
  ·by_cases M:i<off
   ·rw[tB M]
   ·rw[List.drop_set,ah M,List.take_set_of_le (by omega)]
 ·rfl
theorem apV {mem:Mem}{k g i:Nat}{c:R}{cs:List R}{n:Nat}{dY:Bool}{k' c8 off:Nat}(hm:mem k=some (g,cs))(h:k'≠k\/i<off\/off+n<=i):
  qp (a1 mem k g (cs.set i c)) n dY (.ptr k' c8 off)=qp mem n dY (.ptr k' c8 off):=by
 by_cases Q:k'=k
 ·subst Q;have h:=h.resolve_left (λh=>h rfl);simp only[qp,a1,if_true,hm,apU h]
 ·simp only[qp,a1,Q,if_false]
theorem adS {mem:Mem}{tm:Nat->R}{x y:kg}{m:R}{e:Option (Key×Nat×List R)}(apW:hx T mem tm x=some (m,e))(aN:rk (jJ x,dL tm x) (jJ y,dL tm y)=true):hx T (ig mem e) tm y=hx T mem tm y:=by
 rcases TI apW with rfl|⟨hw,k,g,cs,rfl,Q⟩
 ·rfl
 ·have e4:∀a∈dL tm x,∀b∈dL tm y,rj a b=true:=by
   unfold rk at aN
   simpa [hw] using aN
  have apX:∀cz f l,y=.mA cz f l->dL tm y=[]:=by
   rintro cz f l rfl
   cases ag:dL tm (.mA cz f l) with
   |nil=>rfl
   |cons b r =>
    exfalso
    have h2:∃k' bp,b=.wr k' bp:=by
     simp only[dL] at ag;unfold JW at ag
     split at ag
     ·cases ag;exact⟨_,_,rfl⟩
     ·cases ag
    obtain⟨k',bp,rfl⟩:=h2;have hm:nq.wr k' bp∈dL tm (.mA cz f l):=by rw[ag];exact gq
    rcases Q with Q|⟨i,c,tA,aH,_,_⟩
    ·have:=e4 _ Q _ hm;simp[rj] at this
    ·have:=e4 (.wr k i) (by rw[aH];exact gq) _ hm;simp[rj] at this
  by_cases aw:∃cz f l,y=.mA cz f l
  ·obtain⟨cz,f,l,rfl⟩:=aw;have ao:=apX _ _ _ rfl;simp only[dL] at ao
   have aV:∀mem' jj,FL cz mem' (l.map (ba tm)) jj=none:=by
    intro mem' jj;unfold FL
    split
    ·rename_i heq;rw[heq] at ao;simp[JW] at ao
    ·rfl
   simp only[hx,aV]
  ·have H:∀cz f l,y ≠ .mA cz f l:=λcz f l h=>aw ⟨cz,f,l,h⟩;rcases Q with Q|⟨i,c,tA,aH,hm,rfl⟩
   ·refine (adO H λb ag=>?_).symm;have F:=e4 _ Q b ag
    have:b.key≠k:=by
     rintro rfl
     cases b<;>simp[rj,nq.key] at F
    simp[ig,a1,this]
   ·have F:=e4 (.wr k i) (by rw[aH];exact gq)
    by_cases ar:∃n dY z k' c8 off,y=.load n dY z/\ba tm z=.ptr k' c8 off
    ·obtain⟨n,dY,z,k',c8,off,rfl,aV⟩:=ar;have I:=F (.rd k' off (off+n)) (by simp[dL,aV,FK]);simp only[hx,ct,aV,ig];rw[apV hm];simp[rj] at I;exact I
    ·refine (adO H λb ag=>?_).symm
     exfalso
     rcases apT ag with ⟨k',rfl⟩|⟨n,dY,z,k',c8,off,af,aO,_⟩|⟨cz,f,l,af⟩
     ·have:=F _ ag;simp[rj] at this
     ·exact ar ⟨n,dY,z,k',c8,off,af,aO⟩
     ·exact H _ _ _ af
theorem adT {tm:Nat->R}{op:kg}(h:su op=0):dL tm op=[]/\jJ op=false:=by
 cases op<;>simp_all [su,jJ,dL]
 all_goals (rename_i b _ _ _ _;cases b<;>simp_all [jJ,dL])
theorem adU {op:kg}(h:su op=1):jJ op=false:=by
 cases op<;>simp_all [su,jJ]
 all_goals (rename_i b _ _ _ _;cases b<;>simp_all [jJ])
end Go.Mini
namespace Go.Mini
open Go
variable {T:bl} {jS:Nat->Nat->Bool}
def yj (T:bl)(jS:Nat->Nat->Bool)(i:Nat)(x:c9)(rec:Rec)(st:bd)(zG:Rec)(dS:bd):Prop :=
 (pf st.tm x.g=some false/\zG=rec/\dS=⟨put st.tm x.dst .no,st.mem⟩) \/
 (pf st.tm x.g=some true/\∃m e,hx T st.mem st.tm x.op=some (m,e)/\(∀p q,jS p i=true->rec p=some q->rk q (jJ x.op,dL st.tm x.op)=true) /\
  zG=u9 rec i (jJ x.op,dL st.tm x.op)/\dS=⟨put st.tm x.dst m,ig st.mem e⟩)
theorem wQ {tm:Nat->R}{dst:Option Nat}{m:R}{s:Nat}(h:dst≠some s):put tm dst m s=tm s:=by
 cases dst with
 |none=>rfl
 |some d =>
  have:s≠d:=λe=>h (by rw[e]);simp[put,this]
theorem put_comm {tm:Nat->R}{d yh:Option Nat}{m m':R}(h:∀s,d=some s->yh≠some s):put (put tm d m) yh m'=put (put tm yh m') d m:=by
 funext s
 by_cases F:d=some s
 ·rw[wQ (h s F)];subst F;simp[put]
 ·rw[wQ (dst:=d) F]
  by_cases I:yh=some s
  ·subst I;simp[put]
  ·rw[wQ I,wQ I,wQ F]
theorem adV {tm tm':Nat->R}{g:Option (Nat×Bool)}(h:∀s b,g=some (s,b)->tm s=tm' s):pf tm g=pf tm' g:=by
 cases g with
 |none=>rfl
 |some p =>
  obtain⟨s,b⟩:=p;simp only[pf,h s b rfl]
theorem adW {x y:c9}(h:x7 x y=true):(∀d,x.dst=some d->d ∉ looks y)/\(∀d,x.dst=some d->y.dst≠some d)/\(∀d,y.dst=some d->d ∉ looks x):=by
 refine⟨λd aa=>?_,λd aa=>?_,λd aa=>?_⟩<;>simp[x7,aa] at h
 ·exact h.1.1
 ·exact h.1.2
 ·exact h.2
theorem Ox {x:c9}{s:Nat}(h:s∈sv x.op):s∈looks x:=by simp[looks,h]
theorem adX {x:c9}{s:Nat}{b:Bool}(h:x.g=some (s,b)):s∈looks x:=by simp[looks,h]
theorem apY (a b:nq):rj a b=rj b a:=by
 have H:∀k k':Nat,(k==k')=(k'==k):=λk k'=>BEq.comm
 cases a<;>cases b<;>first|rfl|(unfold rj;dsimp only;rw[H])
theorem adY {a b:Bool×List nq}(h:rk a b=true):rk b a=true:=by
 unfold rk at *;simp only[yk,Bool.not_eq_true',Bool.or_eq_false_iff,jh] at *;rcases h with ⟨F,I⟩|h
 ·exact .inl ⟨I,F⟩
 ·exact .inr λx O y aw=>by rw[apY];exact h y aw x O
theorem apZ {mem:Mem}{e e':Option (Key×Nat×List R)}(h:∀j g cs lP c8 nr,e=some (j,g,cs)->e'=some (lP,c8,nr)->j≠lP):ig (ig mem e) e'=ig (ig mem e') e:=by
 cases e with
 |none=>rfl
 |some p =>
  cases e' with
  |none=>rfl
  |some pn =>
   obtain⟨j,g,cs⟩:=p;obtain⟨lP,c8,nr⟩:=pn;have bE:=h _ _ _ _ _ _ rfl rfl
   funext k
   simp only[ig,a1]
   by_cases F:k=lP
   ·by_cases I:k=j
    ·exact absurd (I.symm.trans F) bE
    ·simp[F,I];intro af;exact absurd af.symm bE
   ·simp[F]
def Passes (jS:Nat->Nat->Bool)(i j:Nat)(x y:c9):Prop:=jS i j=true\/zv (su x.op) (su y.op)=true
theorem ap0 {i j:Nat}{x y:c9}{tm:Nat->R}(h:Passes jS i j x y)(H:jS i j=true->rk (jJ x.op,dL tm x.op) (jJ y.op,dL tm y.op)=true):
  rk (jJ x.op,dL tm x.op) (jJ y.op,dL tm y.op)=true:=by
 rcases h with h|h
 ·exact H h
 ·unfold zv at h;simp only[yk,eM,beq_iff_eq] at h;rcases h with (h|h)|⟨F,I⟩
  ·obtain⟨F,I⟩:=adT (tm:=tm) h;simp[rk,F]
  ·obtain⟨F,I⟩:=adT (tm:=tm) h;simp[rk,F]
  ·have F:=adU F;have I:=adU I;simp[rk,F,I]
theorem yj.comm {i j:Nat}{x y:c9}{rec rv Oy:Rec}{st ry Oz:bd}(lA:i≠j)(dg:x7 x y=true)(aG:Passes jS i j x y)(TJ:∀a b,jS a b=jS b a)(iq:rec i=none)
  (F:yj T jS i x rec st rv ry) (I:yj T jS j y rv ry Oy Oz):∃Kk Kl,yj T jS j y rec st Kk Kl/\yj T jS i x Kk Kl Oy Oz:=by
 obtain⟨aN,ag,H⟩:=adW dg
 -- what one sees of the other's temporary: nothing
 have ap1:∀m,pf (put st.tm x.dst m) y.g=pf st.tm y.g:=λm=>adV λs b U=>wQ λaa=>aN s aa (adX U);have ap2:∀mem m,hx T mem (put st.tm x.dst m) y.op=hx T mem st.tm y.op:=λmem m=>adL λs U=>wQ λaa=>aN s aa (Ox U);have ap3:∀m,dL (put st.tm x.dst m) y.op=dL st.tm y.op:=λm=>adM λs U=>wQ λaa=>aN s aa (Ox U);have OA:∀m,pf (put st.tm y.dst m) x.g=pf st.tm x.g:=λm=>adV λs b U=>wQ λaa=>H s aa (adX U);have adZ:∀mem m,hx T mem (put st.tm y.dst m) x.op=hx T mem st.tm x.op:=λmem m=>adL λs U=>wQ λaa=>H s aa (Ox U);have OB:∀m,dL (put st.tm y.dst m) x.op=dL st.tm x.op:=λm=>adM λs U=>wQ λaa=>H s aa (Ox U);have lT:∀m m',put (put st.tm x.dst m) y.dst m'=put (put st.tm y.dst m') x.dst m:=λm m'=>put_comm ag;rcases F with ⟨cF,rfl,rfl⟩|⟨cF,dA,az,s1,aI,rfl,rfl⟩<;>rcases I with ⟨cp,rfl,rfl⟩|⟨cp,cX,aD,s2,c2,rfl,rfl⟩<;>simp only[ap1,ap2,ap3] at *
 ·exact⟨_,_,.inl ⟨cp,rfl,rfl⟩,.inl ⟨by simp only[OA];exact cF,rfl,by simp only[lT]⟩⟩
 ·exact⟨_,_,.inr ⟨cp,cX,aD,s2,c2,rfl,rfl⟩,.inl ⟨by simp only[OA];exact cF,rfl,by simp only[lT]⟩⟩
 ·exact⟨_,_,.inl ⟨cp,rfl,rfl⟩,.inr ⟨by simp only[OA];exact cF,dA,az,by simp only[adZ];exact s1,by simp only[OB];exact aI,by simp only[OB],by simp only[lT]⟩⟩
 ·have Bw:jS i j=true->rk (jJ x.op,dL st.tm x.op) (jJ y.op,dL st.tm y.op)=true:=λh=>c2 i _ h (by simp[u9]);have Bx:=ap0 (tm:=st.tm) aG Bw;have TK:hx T st.mem st.tm y.op=some (cX,aD):=by rw[<-s2];exact (adS s1 Bx).symm
  have gV:∀j g cs lP c8 nr,az=some (j,g,cs)->aD=some (lP,c8,nr)->j≠lP:=by
   rintro k g cs k' c8 nr rfl rfl rfl;rcases TI s1 with h|⟨hw,cS,cp,n3,h,F⟩
   ·cases h
   ·cases h;rcases TI TK with h|⟨ad0,eF,hb,aIS,h,I⟩
    ·cases h
    ·cases h;unfold rk at Bx;simp only[hw,Bool.true_or,Bool.not_true,Bool.false_or,jh] at Bx;rcases F with F|⟨i,c,tA,F,_,_⟩<;>rcases I with I|⟨bp,c',aIT,I,_,_⟩
     ·have:=Bx _ F _ I;simp[rj] at this
     ·have:=Bx _ F (.wr k bp) (by rw[I];exact gq);simp[rj] at this
     ·have:=Bx (.wr k i) (by rw[F];exact gq) _ I;simp[rj] at this
     ·have:=Bx (.wr k i) (by rw[F];exact gq) (.wr k bp) (by rw[I];exact gq);simp[rj] at this
  refine⟨_,_,.inr ⟨cp,cX,aD,TK,λp q OC aL=>?_,rfl,rfl⟩,.inr ⟨by simp only[OA];exact cF,dA,az,?_,?_,?_,?_⟩⟩
  ·have bE:p≠i:=λh=>by rw[h,iq] at aL;cases aL
   exact c2 p q OC (by simp[u9,bE,aL])
  ·simp only[adZ];rw[<-s1];exact adS TK (adY Bx)
  ·simp only[OB];intro p q zH aL
   by_cases OC:p=j
   ·subst OC;simp only[u9,if_true,ca] at aL;subst aL;exact adY (Bw (by rw[TJ];exact zH))
   ·simp only[u9,OC,if_false] at aL;exact aI p q zH aL
  ·simp only[OB]
   funext p
   simp only[u9]
   by_cases F:p=i
   ·subst F;simp[lA]
   ·simp[F]
  ·simp only[lT];rw[apZ gV]
end Go.Mini
namespace Go.Mini
open Go
variable {T:bl} {jS:Nat->Nat->Bool} {ops:Array Oper} {l:List c9} {K:bd->Prop}
def Gj (T:bl)(jS:Nat->Nat->Bool)(ops:Array Oper)(l:List c9)(K:bd->Prop):Nat->Array Bool->Rec->bd->Prop
 |0,eY,_,st=>Region.ready .any ops eY=[]/\K st
 |fuel+1,eY,rec,st=>(Region.ready .any ops eY=[]->K st) /\
  ∀i∈Region.ready .any ops eY,∃x zG dS,l[i]?=some x/\yj T jS i x rec st zG dS/\Gj T jS ops l K fuel (eY.setIfInBounds i true) zG dS
def Bz (ops:Array Oper)(eY:Array Bool):Prop :=
 eY.size=ops.size/\∀(j:Nat) (o:Oper),ops[j]?=some o->eY.getD j false=true->∀e∈o.after,Region.binds .any e=true->eY.getD e.on false=true
theorem Bz.set {eY:Array Bool}{i:Nat}(h:Bz ops eY)(M:i∈Region.ready .any ops eY):Bz ops (eY.setIfInBounds i true):=by
 refine⟨by simp[h.1],λj o ai ar e he ag=>?_⟩
 by_cases h5:j=i
 ·subst h5;obtain⟨_,Km,bM,e4⟩:=mem_ready.1 M;rw[ai] at bM
  cases bM;exact getD_set_true (e4 e he ag)
 ·rw[getD_set_ne false (Ne.symm h5)] at ar;exact getD_set_true (h.2 j o ai ar e he ag)
def TL (jS:Nat->Nat->Bool)(ops:Array Oper)(l:List c9):Prop :=
 ∀(i j:Nat) (x y:c9),i≠j->l[i]?=some x->l[j]?=some y ->
  (∀eY,Bz ops eY->i∈Region.ready .any ops eY->j∈Region.ready .any ops eY->False)\/(x7 x y=true/\Passes jS i j x y)
theorem ad1 {i k:Nat}{x:c9}{rec zG:Rec}{st dS:bd}(h:yj T jS i x rec st zG dS)(Q:k≠i):zG k=rec k:=by
 rcases h with ⟨_,rfl,_⟩|⟨_,_,_,_,_,rfl,_⟩
 ·rfl
 ·simp[u9,Q]
theorem ap4 {eY:Array Bool}{i k:Nat}(h:(eY.setIfInBounds i true).getD k true=false):k≠i/\eY.getD k true=false:=by
 by_cases pT:i=k
 ·subst pT
  exfalso
  by_cases aA:i<eY.size
  ·simp[aA] at h
  ·have:(eY.setIfInBounds i true).size<=i:=by simp;omega
   rw[Array.getD_eq_getD_getElem?,Array.getElem?_eq_none this] at h;simp at h
 ·rw[getD_set_ne true pT] at h;exact⟨λcy=>pT cy.symm,h⟩
theorem ap5 (aG:TL jS ops l)(TJ:∀a b,jS a b=jS b a){i:Nat}{x:c9}(M:l[i]?=some x):∀(fuel:Nat) (eY:Array Bool) (rec:Rec) (st:bd) (rv:Rec) (ry:bd),
  Bz ops eY->(∀k,eY.getD k true=false->rec k=none)->i∈Region.ready .any ops eY->yj T jS i x rec st rv ry ->
  Gj T jS ops l K fuel (eY.setIfInBounds i true) rv ry->Gj T jS ops l K (fuel+1) eY rec st:=by
 intro fuel
 induction fuel with
 |zero =>
  intro eY rec st rv ry eL BA ab he hO;refine⟨λh=>(by rw[h] at ab;cases ab),λj ai=>?_⟩
  by_cases h5:j=i
  ·subst h5;exact⟨x,rv,ry,M,he,hO⟩
  ·have:=ready_mono ai h5;rw[hO.1] at this
   cases this
 |succ fuel ay =>
  intro eY rec st rv ry eL BA ab he hO;refine⟨λh=>(by rw[h] at ab;cases ab),λj ai=>?_⟩
  by_cases h5:j=i
  ·subst h5;exact⟨x,rv,ry,M,he,hO⟩
  ·obtain⟨y,Oy,Oz,aw,hz,dQ⟩:=hO.2 j (ready_mono ai h5);rcases aG i j x y (Ne.symm h5) M aw with gC|⟨dg,ap6⟩
   ·exact (gC eY eL ab ai).elim
   ·obtain⟨Kk,Kl,F,I⟩:=yj.comm (Ne.symm h5) dg ap6 TJ (BA i (mem_ready.1 ab).1) he hz;refine⟨y,Kk,Kl,aw,F,ay _ Kk Kl Oy Oz (eL.set ai) (λk Q=>?_) (ready_mono ab (Ne.symm h5)) I ?_⟩
    ·obtain⟨af,aO⟩:=ap4 Q;rw[ad1 F af];exact BA k aO
    ·rw[Array.setIfInBounds_comm _ _ h5];exact dQ
theorem TM:∀(r:List Oper) (acc:List Nat) (k:Nat),k<(D acc)->(qs r acc).getD k 0=acc.getD k 0
 | [],acc,k,_=>rfl
 |o::r,acc,k,Q=>by
  simp only[qs];rw[TM r _ k (by simp;omega)];simp only[ep];rw[qv Q]
theorem ap7 {es:List Edge}{acc:List Nat}{i:Nat}:∀(s:Nat),(es.foldl (λs e=>if Region.binds .any e=true then s ||| (2^e.on ||| acc.getD e.on 0) else s) s).testBit i=true ->
  s.testBit i=true\/∃e∈es,Region.binds .any e=true/\(e.on=i\/(acc.getD e.on 0).testBit i=true):=by
 induction es with
 |nil=>exact λs h => .inl h
 |cons e es ay =>
  intro s h;rw[Ga] at h;rcases ay _ h with F|⟨e',F,I⟩
  ·split at F
   ·rename_i ag;rw[ad2,ad2,yk,yk] at F;rcases F with F|F|F
    ·exact .inl F
    ·rw[Nat.testBit_two_pow] at F;exact .inr ⟨e,by simp,ag,.inl (by simpa using F)⟩
    ·exact .inr ⟨e,by simp,ag,.inr F⟩
   ·exact .inl F
  ·exact .inr ⟨e',by simp[F],I⟩
theorem ad3:∀(r:List Oper) (acc:List Nat) (t:Nat) (o:Oper),r[t]?=some o->∀i,((qs r acc).getD (D acc+t) 0).testBit i=true ->
  ∃e∈o.after.toList,Region.binds .any e=true/\(e.on=i\/(e.on<D acc+t/\((qs r acc).getD e.on 0).testBit i=true))
 | [],_,_,_,h,_,_=>by simp at h
 |Km::r,acc,0,o,h,i,ag=>by
  simp at h;subst h;simp only[qs,n1] at ag ⊢;rw[TM r _ _ (by simp)] at ag;simp only[ep] at ag;rw[rm (b1 _)] at ag;simp only[mC,vl,Kn] at ag;rcases ap7 (acc:=acc) 0 (by simpa only [ep] using ag) with F|⟨e,F,I,af⟩
  ·simp at F
  ·refine⟨e,F,I,af.imp id λh=>?_⟩
   have aA:e.on<D acc:=by
    rcases ih e.on (D acc) with cy|cy
    ·exact cy
    ·rw[ep,mB cy] at h;simp at h
   refine⟨aA,?_⟩;rw[TM r _ _ (by simp;omega),ep,qv aA,<-ep];exact h
 |Km::r,acc,t+1,o,h,i,ag=>by
  have cy:r[t]?=some o:=by simpa using h
  simp only[qs] at ag ⊢
  have:=ad3 r (acc++[Km.after.toList.foldl (λs e=>if Region.binds .any e=true then s ||| (2^e.on ||| acc.getD e.on 0) else s) 0]) t o cy i (by
   rw[fr,List.length_singleton,qu,zp 1 t];exact ag)
  obtain⟨e,F,I,af⟩:=this;refine⟨e,F,I,af.imp id λh=>⟨by have:=h.1;simp at this;omega,h.2⟩⟩
theorem ap8 {eY:Array Bool}(eL:Bz ops eY):∀(j:Nat) (o:Oper),ops[j]?=some o->(∀e∈o.after,Region.binds .any e=true->eY.getD e.on false=true) ->
  ∀i,((qs ops.toList []).getD j 0).testBit i=true->eY.getD i false=true:=by
 intro j
 induction j using Nat.strongRecOn with
 |_ j ay =>
  intro o bM e4 i M;obtain⟨e,he,ag,h⟩:=ad3 ops.toList [] j o (by simpa using bM) i (by simpa using M);have ar:=e4 e (by simpa using he) ag;rcases h with rfl|⟨aA,ap9⟩
  ·exact ar
  ·have e2:e.on<ops.size:=by
    rw[<-eL.1];rcases ih e.on eY.size with cy|cy
    ·exact cy
    ·simp[Array.getElem?_eq_none cy] at ar
   have ad4:ops[e.on]?=some ops[e.on]:=Array.getElem?_eq_getElem e2;exact ay e.on (by simpa using aA) _ ad4 (eL.2 e.on _ ad4 ar) i ap9
theorem ad5:∀(cs pre:List c9) (as:List Nat),FQ pre cs as=true->∀(t:Nat) (y:c9),cs[t]?=some y->∀(i:Nat) (x:c9),(pre++cs)[i]?=some x->i<D pre+t ->
  (as.getD t 0).testBit i=true\/x7 x y=true
 | [],_,_,_,_,_,h,_,_,_,_=>by simp at h
 |_::_,_,[],h,_,_,_,_,_,_,_=>by simp[FQ] at h
 |c::cs,pre,a::as,h,0,y,aw,i,x,O,aA=>by
  simp only[FQ,eM,jh] at h;simp at aw;subst aw;have M:i<D pre:=by simpa using aA
  rw[qv M] at O;have:=h.1 (x,i) (by rw[ad6];exact O)
  simpa using this
 |c::cs,pre,a::as,h,t+1,y,aw,i,x,O,aA=>by
  simp only[FQ,eM] at h;have:=ad5 cs (pre++[c]) as h.2 t y (by simpa using aw) i x (by simpa using O) (by simp;omega)
  simpa using this
theorem ad7:∀(cs pre:List c9) (as:List Nat) (t:Nat) (y:c9),cs[t]?=some y->∀(i:Nat) (x:c9),(pre++cs)[i]?=some x->i<D pre+t ->
  (as.getD t 0).testBit i=true\/zv (su x.op) (su y.op)=true\/i∈(zw pre cs as).getD t []
 | [],_,_,_,_,h,_,_,_,_=>by simp at h
 |c::cs,pre,as,0,y,aw,i,x,O,aA=>by
  simp at aw;subst aw;have M:i<D pre:=by simpa using aA
  rw[qv M] at O;have gp:(x,i)∈pre.zipIdx:=by rw[ad6];exact O
  by_cases F:(as.getD 0 0).testBit i=true
  ·exact .inl F
  ·by_cases I:zv (su x.op) (su c.op)=true
   ·exact .inr (.inl I)
   ·refine .inr (.inr ?_);simp only[zw,ep,vl,Kn];refine List.mem_map.2 ⟨(x,i),List.mem_filter.2 ⟨gp,?_⟩,rfl⟩;have af:as.headD 0=as.getD 0 0:=by cases as<;>rfl
    simp only[af];rw[ep] at F;simp[F,I]
 |c::cs,pre,as,t+1,y,aw,i,x,O,aA=>by
  have:=ad7 cs (pre++[c]) as.tail t y (by simpa using aw) i x (by simpa using O) (by simp;omega);have af:as.tail.getD t 0=as.getD (t+1) 0:=by cases as<;>simp
  rw[af] at this
  simpa [zw] using this
def wR (c:List (List Nat))(i j:Nat):Bool:=if i<j then (c.getD j []).contains i else if j<i then (c.getD i []).contains j else false
theorem ad8 (c:List (List Nat))(i j:Nat):wR c i j=wR c j i:=by
 unfold wR
 by_cases F:i<j
 ·simp[F,ad9 F]
 ·by_cases I:j<i
  ·simp[I,ad9 I]
  ·simp[F,I]
theorem aqa {x y:c9}(h:x7 x y=true):x7 y x=true:=by
 obtain⟨F,I,af⟩:=adW h;unfold x7;rw[eM]
 constructor
 ·cases aw:y.dst with
  |none=>rfl
  |some d =>
   have a:=af d aw;have b:x.dst≠some d:=λO=>I d O aw;simp[a,b]
 ·cases O:x.dst with
  |none=>rfl
  |some d =>
   have a:=F d O;simp[a]
theorem aqb (a b:Nat):zv a b=zv b a:=by
 unfold zv
 cases (a==0)<;>cases (b==0)<;>cases (a==1)<;>cases (b==1)<;>rfl
theorem aqc (aa:FT ops l=true):TL (wR (zw [] l (qs ops.toList []))) ops l:=by
 have key:∀(i j:Nat) (x y:c9),i<j->l[i]?=some x->l[j]?=some y ->
   (∀eY,Bz ops eY->i∈Region.ready .any ops eY->j∈Region.ready .any ops eY->False) \/
   (x7 x y=true/\(wR (zw [] l (qs ops.toList [])) i j=true\/zv (su x.op) (su y.op)=true)):=by
  intro i j x y lA O aw;unfold FT at aa;rw[eM] at aa
  by_cases ag:((qs ops.toList []).getD j 0).testBit i=true
  ·refine .inl λeY eL M ai=>?_;obtain⟨_,o,bM,e4⟩:=mem_ready.1 ai;have F:=ap8 eL j o bM e4 i ag;have ao:=(mem_ready.1 M).1;rcases ih i eY.size with cy|cy
   ·simp[cy] at ao F;rw[ao] at F;cases F
   ·simp[Array.getElem?_eq_none cy] at F
  ·refine .inr ⟨?_,?_⟩
   ·rcases ad5 l [] _ aa.2 j y aw i x (by simpa using O) (by simpa using lA) with h|h
    ·exact absurd h ag
    ·exact h
   ·rcases ad7 l [] (qs ops.toList []) j y aw i x (by simpa using O) (by simpa using lA) with h|h|h
    ·exact absurd h ag
    ·exact .inr h
    ·exact .inl (by unfold wR;rw[ad lA];exact aea.2 h)
 intro i j x y lA O aw;rcases Nat.lt_or_gt_of_ne lA with h|h
 ·exact key i j x y h O aw
 ·rcases key j i y x h aw O with F|⟨F,I⟩
  ·exact .inl λeY eL M ai=>F eY eL ai M
  ·refine .inr ⟨aqa F,?_⟩;rcases I with I|I
   ·exact .inl (by rw[ad8];exact I)
   ·exact .inr (by rw[aqb];exact I)
end Go.Mini
namespace Go.Mini
open Go
variable {P:Program} {T:bl} {A:Nat->Prop} {ez w:World} {hl B:Lay} {mem:Mem} {n kb:Nat} {own:List Nat} {ops:Array Oper} {l:List c9} {K:bd->Prop} {aM:Exit->Act->World->Prop}
theorem aeb:∀(r:List Oper) (m:Nat),FR m r=true->∀(t:Nat) (o:Oper),r[t]?=some o->∀e∈o.after,Region.binds .any e=true->e.on<m+t
 | [],_,_,_,_,h,_,_,_=>by simp at h
 |Km::r,m,h,0,o,bM,e,he,ag=>by
  simp only[FR,eM] at h;simp at bM;subst bM;have:=(Array.all_eq_true_iff_forall_mem.1 h.1) e he
  simpa [ag] using this
 |Km::r,m,h,t+1,o,bM,e,he,ag=>by
  simp only[FR,eM] at h;have:=aeb r (m+1) h.2 t o (by simpa using bM) e he ag;omega
theorem aec {c:List (List Nat)}(aG:TL (wR c) ops l)(ar:(D l)=ops.size)(he:FR 0 ops.toList=true):∀(r:List c9) (m:Nat) (rec:Rec) (st:bd) (eY:Array Bool),l.drop m=r->m+D r=(D l) ->
  eY.size=ops.size->(∀i,i<ops.size->eY.getD i true=decide (i<m))->(∀k,m<=k->rec k=none)->wI T K m r (c.drop m) rec st->Gj T (wR c) ops l K (D r) eY rec st
 | [],m,rec,st,eY,ab,hm,U,hli,BA,h=>by
  refine⟨List.eq_nil_iff_forall_not_mem.2 λi M=>?_,h⟩;obtain⟨F,o,bM,_⟩:=mem_ready.1 M;have aA:i<ops.size:=(Array.getElem?_eq_some_iff.1 bM).1;rw[hli i aA] at F;simp at F hm;omega
 |x::r,m,rec,st,eY,ab,hm,U,hli,BA,h=>by
  have aA:m<ops.size:=by simp at hm;omega
  have bM:ops[m]?=some ops[m]:=Array.getElem?_eq_getElem aA
  have O:l[m]?=some x:=by
   have:(l.drop m)[0]?=some x:=by rw[ab];rfl
   simpa using this
  have jw:=λ(j:Nat) (o:Oper) (ai:ops[j]?=some o)=>aeb ops.toList 0 he j o (by simpa using ai)
  have cH:∀i,i<m->eY.getD i false=true:=λi M=>by
   have F:=hli i (by omega);rw[kf M] at F;have I:i<eY.size:=by omega
   simpa [I] using F
  have eL:Bz ops eY:=⟨U,λj o ai ik e pR ag=>by
   have F:=jw j o ai e pR ag;have pN:j<ops.size:=(Array.getElem?_eq_some_iff.1 ai).1
   have I:j<m:=by
    have:=hli j pN;have af:j<eY.size:=by omega
    simp[af] at ik this;rw[ik] at this
    simpa using this.symm
   exact cH _ (by omega)⟩
  have aqd:m∈Region.ready .any ops eY:=mem_ready.2 ⟨by rw[hli m aA];simp,_,bM,λe pR ag=>cH _ (by have:=jw m _ bM e pR ag;omega)⟩
  have aqe:∀k,eY.getD k true=false->rec k=none:=λk Q=>BA k (by
   rcases ih k ops.size with cy|cy
   ·rw[hli k cy] at Q
    simpa using Q
   ·omega)
  have next:∀rv ry,yj T (wR c) m x rec st rv ry->wI T K (m+1) r (c.drop m).tail rv ry->Gj T (wR c) ops l K (D r+1) eY rec st:=by
   intro rv ry hex Q;refine ap5 aG (ad8 c) O _ eY rec st rv ry eL aqe aqd hex (aec aG ar he r (m+1) rv ry _ ?_ (by simp at hm;omega) (by simpa using U) (λi M=>?_) (λk Q=>?_) ?_)
   ·rw[<-Gk,ab]
    rfl
   ·by_cases him:m=i
    ·subst him;have:m<eY.size:=by omega
     simp[this]
    ·rw[getD_set_ne true him,hli i M]
     congr 1
     simp;omega
   ·rw[ad1 hex (by omega)];exact BA k (by omega)
   ·rw[List.tail_drop] at Q;exact Q
  simp only[wI] at h
  split at h
  ·cases h
  ·rename_i g bc
   split at h
   ·rename_i iS;subst iS
    split at h
    ·rename_i cN e U;refine next _ _ (.inr ⟨bc,cN,e,U,λp q oP aL=>?_,rfl,rfl⟩) h.2
     have pj:p<m:=by
      rcases ih p m with cy|cy
      ·exact cy
      ·rw[BA p cy] at aL;cases aL
     have TN:=h.1;unfold FM at TN;rw[jh] at TN
     have gp:p∈(c.drop m).headD []:=by
      unfold wR at oP;rw[ad pj] at oP
      have:(c.drop m).headD []=c.getD m []:=by
       rw[List.headD_eq_head?_getD,List.head?_drop,ep]
      rw[this];exact aea.1 oP
     have:=TN p gp;rw[aL] at this;exact this
    ·cases h
   ·rename_i aqf;have aqg:g=false:=by simpa using aqf
    subst aqg;exact next _ _ (.inl ⟨bc,rfl,rfl⟩) h
theorem Ko (h:fp A w B mem):fp (b6 A B) w (λ_=>none) emp :=
 ⟨λ_ _=>rfl,λ_ _ _ _ _ h=>(by cases h),λb _ ⟨_,_,h,_⟩=>(by cases h),λb ag=>ag.elim (λcy=>h.x1 cy) (h.lt b),λ_ _ _ h=>(by cases h)⟩
theorem zI (b:Nat):b6 (b6 A B) (λ_=>none) b↔b6 A B b :=
 ⟨λh=>h.elim (fun⟨_,_,h,_⟩=>by cases h) id,.inr⟩
theorem aed {m:R}{v:Value}(h:bt w (b6 A B) B m v):bt w (b6 (b6 A B) λ_=>none) (λ_=>none) (shut m) v:=by
 cases h with
 |J h=>exact .J (h.less λb ag=>(zI b).1 ag)
 |nil=>exact .nil
 |fz ar aa =>
  rename_i f eT vs
  cases eT with
  |nil=>exact .fz ar λi d v h=>by simp at h
  |cons c r=>exact .undef
 |agg ar aa =>
  rename_i cs vs;simp only[shut]
  cases H:cs.mapM u6 with
  |none=>exact .undef
  |some ds =>
   obtain⟨F,I⟩:=oI H;refine .J (.agg (ar.trans F.symm) λi d v M ak=>?_);have aA:i<D cs:=by have:=(dD.1 M).1;omega
   have jP:=bz aA;exact (adk (I i _ d jP M) (aa i _ v jP ak)).less λb ag=>(zI b).1 ag
 |_=>exact .undef
theorem shut_list {ms:List R}{vs:List Value}(h:dq w (b6 A B) B ms vs):dq w (b6 (b6 A B) λ_=>none) (λ_=>none) (ms.map shut) vs:=by
 refine⟨by simpa using h.1,λi m v hm ak=>?_⟩
 rw[bn,dV] at hm;obtain⟨m',n4,rfl⟩:=hm;exact aed (h.2 i m' v n4 ak)
theorem Bv.less {w aQ:World}{aX mx:Nat->Prop}{sz:Nat}{es:List (List Data)}{v:Value}(ar:∀b,mx b->aX b)(h:Bv w aQ aX sz es v):Bv w aQ mx sz es v:=by
 obtain⟨F,a,cap,I,af,aO,br⟩:=h;refine⟨F,a,cap,I,af,aO,br.imp id ?_⟩;rintro⟨b,vs,T,bR,bN,cb,jl,gr⟩;exact⟨b,vs,T,bR,bN,cb,jl,λi d aa=>let ⟨u,hu,tx⟩:=gr i d aa;⟨u,hu,tx.less λew h2=>h2.imp (ar ew) id⟩⟩
theorem DE {o:Oper}{c:Call}{f:FuncId}{a:Act}(bM:o.op=.call c)(mH:c.callee=.value (.func f))(mG:Real P f):(execOp a.eval o).run P w=.ok (.enter f (c.args.toList.map a.eval).toArray) w:=by
 obtain⟨dst,op,type,pos,after,guard⟩:=o;simp only at bM;subst bM;obtain⟨callee,zF,Ou⟩:=c;simp only at mH;subst mH;simp only[execOp,resolve,Deferred.ofValue,Act.eval,invoke,Sem.run_bind,Sem.run_pure,Result.andThen_ok,Ot mG];rw[Bs zF];simp
theorem aee {aX:Nat->Prop}{b off c sz len:Nat}{vs:Array Value}{T:TypeId}{ds:List Data}(aR:w.heap[b]?=some (.cells vs T (0,0)))(fG:¬ aX b)(ar:(D ds)=len*sz)(OD:len<=c)(hm:len<=maxLen)(J6:off+len*sz<=vs.size)
  (aa:∀(i:Nat) (d:Data) (v:Value),ds[i]?=some d->vs[off+i]?=some v->Den w aX d v):Den w aX (.Y (chunk sz len ds)) (.slice (some ⟨b,off,none⟩) len c):=by
 have eL:=Oh sz len ds
 have h:=Den.Y (w:=w) (aX:=aX) (es:=chunk sz len ds) (b:=b) (off:=off) (c:=c) (sz:=sz) (λi=>vs.getD (off+i) undef) (by rw[eL];exact OD) (by rw[eL];exact hm)
  (Array.getElem?_eq_some_iff.1 aR).1 fG (Oi sz len ds ar)
  (λi M=>by
   rw[eL] at M;rw[cell_of_row w b (off+i) vs T (0,0) aR];have:off+i<vs.size:=by omega
   simp[this])
  (λi d kZ=>by
   rw[Oj sz len ds ar] at kZ;have aA:i<D ds:=(dD.1 kZ).1;have kG:off+i<vs.size:=by omega
   have:vs.getD (off+i) undef=vs[off+i]:=by simp[kG]
   simp only[this];exact aa i d _ kZ (Array.getElem?_eq_getElem kG))
 rw[eL] at h;exact h
theorem aqh {mem:Mem}{k g sz off len:Nat}{cs:List R}{d:Data}(hm:mem k=some (g,cs))(h:JX sz off len cs=some d):cl 1 mem (.ref k g sz off len)=some d:=by
 have aV:∀(m:R) (d:Data),u6 m=some d->cl 0 mem m=some d:=λm d h=>by
  unfold u6 at h
  split at h<;>simp_all [cl]
 have ar:∀(l:List R) (ds:List Data),l.mapM u6=some ds->l.mapM (cl 0 mem)=some ds:=by
  intro l
  induction l with
  |nil=>intro ds h;simpa using h
  |cons m l ay =>
   intro ds h;simp only[ju,ha,hk,eo,ca] at h ⊢;obtain⟨x,O,DF,g2,rfl⟩:=h;exact⟨x,aV m x O,DF,ay DF g2,rfl⟩
 unfold JX at h
 split at h
 ·rename_i part aG;simp only[Td,dV] at h;obtain⟨ds,g2,rfl⟩:=h;simp only[cl,hm,if_true,aG];rw[ar _ _ g2]
  rfl
 ·cases h
theorem Kp {k:Key}{g sz off len:Nat}{cs:List R}{d:Data}{v:Value}(bW:fp A w B mem)(Q:mem k=some (g,cs))(aa:cl 1 mem (.ref k g sz off len)=some d)(ak:bt w (b6 A B) B (.ref k g sz off len) v):
  Den w (b6 A (gn B k ⟨bX mem k,none,0⟩)) d v:=by
 have fG:∀b,b6 A (gn B k ⟨bX mem k,none,0⟩) b->b6 A B b:=λb h=>h.imp (fun⟨j,e,ai,O⟩=>by
  by_cases ea:j=k
  ·subst ea;rw[hj] at ai;cases ai;cases O
  ·rw[g9 B _ ea] at ai;exact⟨j,e,ai,O⟩) id
 simp only[cl,Q,if_true] at aa
 split at aa
 ·rename_i part TO;simp only[dV] at aa;obtain⟨ds,g2,rfl⟩:=aa;obtain⟨eL,rfl,pj⟩:=FX TO;obtain⟨F,I⟩:=oI g2
  cases ak with
  |ref he hgle ab =>
   obtain⟨e,gg,b7,aK,ag⟩:=bW.at_ Q;rw[gg] at he;obtain rfl:=nt he;obtain⟨a,cap,rfl,af,aO,br⟩:=ab;rcases br with br|⟨b,rfl,bR⟩
   ·have:len=0:=by omega
    subst this;simp only[chunk];exact .lO
   ·obtain⟨bN,cb⟩:=bR b7.symm;obtain⟨vs,T,aR,aV,hle,b2⟩:=ag b bN
    have aqi:¬ b6 A (gn B k ⟨bX mem k,none,0⟩) b:=by
     rintro (⟨j,aD,ai,O⟩|aN)
     ·by_cases ea:j=k
      ·subst ea;rw[hj] at ai;cases ai;cases O
      ·rw[g9 B _ ea] at ai;exact ea (bW.inj j k aD _ b ai gg O bN)
     ·exact bW.sep b aN ⟨k,_,gg,bN⟩
    refine aee aR aqi (by omega) af (by omega) (by omega) λi x u O hu=>?_;have aA:i<D ds:=(dD.1 O).1;have kG:off+i<D cs:=by omega
    have jP:((cs.drop off).take (len*sz))[i]?=some cs[off+i]:=by
     rw[pU (by omega),k3,bz kG]
    have vk:=I i _ x jP O
    have lx:bt w (b6 A B) B cs[off+i] u:=b2.2 (off+i) _ u (bz kG) (by
     rw[pU kG,Array.getElem?_toList];exact hu)
    generalize cs[off+i]=m at *
    cases m<;>simp only[cl,ca,reduceCtorEq] at vk
    ·subst vk
     cases lx with
     |J h=>exact h.less fG
    ·subst vk
     cases lx;exact .lO
 ·cases aa
theorem aqj {mx:Nat->Prop}{bu:Lay}(fG:∀b,mx b->b6 A B b){m:R}{v:Value}(h:bt w (b6 A B) B m v):bt w mx bu (shut m) v:=by
 have ao:=aed h;have aqk:∀b,mx b->b6 (b6 A B) (λ_=>none) b:=λb ag=>(zI b).2 (fG b ag)
 have go:∀{m:R},(∃d,m=.J d)\/m=.nil\/(∃f,m=.fz f [])\/m=.undef->bt w (b6 (b6 A B) λ_=>none) (λ_=>none) m v->bt w mx bu m v:=by
  intro m hm h;rcases hm with ⟨d,rfl⟩|rfl|⟨f,rfl⟩|rfl
  ·cases h with
   |J h=>exact .J (h.less aqk)
  ·cases h;exact .nil
  ·cases h with
   |fz ar aa=>exact .fz ar λi d v h=>by simp at h
  ·exact .undef
 refine go ?_ ao
 cases m<;>simp only[shut]
 case J d=>simp
 case nil=>simp
 case fz f eT=>cases eT<;>simp
 case agg cs=>split<;>simp
 all_goals simp
theorem aql {k:Key}{g:Nat}{cs:List R}(h:fp A w B mem)(Q:mem k=some (g,cs))(aa:nZ cs=true):
  fp (λb=>A b\/∃j e,j≠k/\B j=some e/\e.df=some b) w (λj=>if j=k then B k else none) (a1 emp k g cs):=by
 have fG:∀b,b6 (λb=>A b\/∃j e,j≠k/\B j=some e/\e.df=some b) (λj=>if j=k then B k else none) b->b6 A B b:=λb ag=>by
  rcases ag with ⟨j,e,ai,O⟩|aN|⟨j,e,_,ai,O⟩
  ·by_cases ea:j=k
   ·subst ea;simp only[if_true] at ai;exact .inl ⟨_,e,ai,O⟩
   ·simp only[ea,if_false] at ai;cases ai
  ·exact .inr aN
  ·exact .inl ⟨j,e,ai,O⟩
 refine⟨λj ai=>?_,λj lP e e' b F I _ _=>?_,λb aN bM=>?_,λb ag=>?_,λj c8 nr ai=>?_⟩
 ·by_cases ea:j=k
  ·subst ea;simp[a1] at ai
  ·simp only[ea,if_false]
 ·by_cases ai:j=k<;>by_cases pN:lP=k
  ·rw[ai,pN]
  ·simp only[pN,if_false] at I;cases I
  ·simp only[ai,if_false] at F;cases F
  ·simp only[ai,if_false] at F;cases F
 ·obtain⟨j,e,ai,O⟩:=bM
  by_cases ea:j=k
  ·subst ea;simp only[if_true] at ai;rcases aN with aN|⟨lP,e',bE,pN,vk⟩
   ·exact h.sep b aN ⟨_,e,ai,O⟩
   ·exact bE (h.inj _ _ e' e b pN ai vk O)
  ·simp only[ea,if_false] at ai;cases ai
 ·rcases ag with ag|⟨j,e,_,ai,O⟩
  ·exact h.lt b ag
  ·exact h.x1 ⟨j,e,ai,O⟩
 ·by_cases ea:j=k
  ·subst ea;simp only[a1,if_true,ca,fD] at ai;obtain⟨rfl,rfl⟩:=ai;obtain⟨e,he,bc,aK,ag⟩:=h.df _ _ _ Q;refine⟨e,by simp only[if_true];exact he,bc,aK,λb jL=>?_⟩
   obtain⟨vs,T,aR,aV,hle,ab⟩:=ag b jL;refine⟨vs,T,aR,aV,hle,λi m M=>?_⟩;obtain⟨v,ak,qw⟩:=ab i m M;refine⟨v,ak,?_⟩;unfold nZ at aa;rw[jh] at aa;have hm:=aa m (ei M);rw[adv] at hm;obtain⟨d,hm⟩:=hm;unfold u6 at hm
   split at hm<;>cases hm
   ·cases qw with
    |J qw=>exact .J (qw.less fG)
   ·cases qw
    exact .nil
  ·simp only[a1,ea,if_false,emp] at ai;cases ai
theorem aqm {aQ:World}{k:Key}{u5:Nat->Prop}(h:fp A w B mem)(aqn:∀b,u5 b->∃e,B k=some e/\e.df=some b)(f:Fr u5 w aQ):eD A w B aQ (gn B k ⟨bX mem k,none,0⟩) (a1 mem k (bX mem k) []) :=
 eD.change (e':=⟨bX mem k,none,0⟩) h ⟨f.os,f.tape,f.output,f.size,λb ag bM=>f.block b ag λO=>bM (aqn b O)⟩ (λe he => .inr (Dm h k e he)) (λb ag=>by simp at ag) (λ_=>rfl) (λb ag=>by simp at ag)
theorem aqo (cC:qB P T){a:Act}{st:bd}{o:Oper}{i:c9}{m:R}{e:Option (Key×Nat×List R)}(h:hG n A ez hl a st w B)(M:TF P n kb own ops o i)
  (U:hx T st.mem st.tm i.op=some (m,e)):o.wp P a w (λkE aQ=>∃bu,hG n A ez hl kE ⟨put st.tm i.dst m,ig st.mem e⟩ aQ bu) aM:=by
 have m3:=M.op
 have plain:ct st.mem st.tm i.op=some (m,e)->o.wp P a w (λkE aQ=>∃bu,hG n A ez hl kE ⟨put st.tm i.dst m,ig st.mem e⟩ aQ bu) aM:=by
  intro U
  have aY:jK P kb own o.dst o.type o.op=some i.op:=getD_some m3 (by
   intro ag;rw[ag] at U
   cases U)
  obtain⟨Gi,v,aQ,bu,m5,hN,dE,ak⟩:=adB h.ok.dZ h.tz aY U;unfold Oper.wp;rw[m5,M.dst];have Kj:=h.put dE ak M.lt;rcases hN with rfl|⟨rfl,rfl⟩
  ·exact⟨bu,Kj⟩
  ·exact⟨bu,Kj⟩
 cases tC:i.op with
 |call f args =>
  have aY:jK P kb own o.dst o.type o.op=some i.op:=getD_some m3 (by rw[tC];simp);rw[tC] at aY U;obtain⟨c,H,mH,n2⟩:=adG aY;have b2:=shut_list (yg h.tz n2);rw[m6] at b2;simp only[hx] at U
  split at U
  ·rename_i r im
   cases U;obtain⟨mG,jw⟩:=cC f _ _ _ im;have hy:=jw (b6 A B) w (λ_=>none) _ (Ko h.ok.dZ) b2;unfold Oper.wp;rw[DE H mH mG,M.dst];refine Calls.mono hy λe aQ he=>?_;obtain⟨v,rfl,bV,aa⟩:=he;exact⟨B,h.put (.still h.ok.dZ bV) (.J (aa.less λb ag=>(zI b).2 ag)) M.lt⟩
  ·rename_i sz es im
   cases U;obtain⟨mG,jw⟩:=cC f _ _ _ im;have hy:=jw (b6 A B) w (λ_=>none) _ (Ko h.ok.dZ) b2;unfold Oper.wp;rw[DE H mH mG,M.dst];refine Calls.mono hy λe aQ he=>?_;obtain⟨v,rfl,bV,aa⟩:=he;exact⟨B,h.put (.still h.ok.dZ bV) (.J ((aa.less λb ag=>(zI b).2 ag).den λb ag=>ag.elim (λcy=>h.ok.dZ.x1 cy) (h.ok.dZ.lt b))) M.lt⟩
  ·cases U
 |oG k sz f args =>
  have aY:jK P kb own o.dst o.type o.op=some i.op:=getD_some m3 (by rw[tC];simp);rw[tC] at aY U;obtain⟨c,H,mH,n2⟩:=adH aY;have b2:=shut_list (yg h.tz n2);rw[m6] at b2;simp only[hx] at U
  split at U
  ·rename_i ev es im
   split at U
   ·rename_i e2;subst e2
    cases U;obtain⟨mG,jw⟩:=cC f _ _ _ im;have hy:=jw (b6 A B) w (λ_=>none) _ (Ko h.ok.dZ) b2;unfold Oper.wp;rw[DE H mH mG,M.dst];refine Calls.mono hy λe aQ he=>?_;obtain⟨v,rfl,bV,aa⟩:=he;obtain⟨bu,dE,ak⟩:=adF k h.ok.dZ bV (aa.less λb ag=>(zI b).2 ag);exact⟨bu,h.put dE ak M.lt⟩
   ·cases U
  ·cases U
 |mA cz f args =>
  have aY:jK P kb own o.dst o.type o.op=some i.op:=getD_some m3 (by rw[tC];simp);rw[tC] at aY U;obtain⟨c,H,mH,n2⟩:=apz aY;have b2:=yg h.tz n2;simp only[hx] at U;obtain⟨r,k,g,aIU,cc,cs,im,hm,rfl,rfl,aH⟩:=adR U;obtain⟨mG,jw⟩:=cC f _ _ _ im;have hy:=jw A w B _ h.ok.dZ b2;unfold Oper.wp;rw[DE H mH mG,M.dst];refine Calls.mono hy λe aQ he=>?_;obtain⟨v,bu,rfl,dE,ak⟩:=he;refine⟨bu,?_⟩;have pg:ri st.mem k=cs:=by simp only[ri,hm]
  rw[pg] at dE;exact h.put dE ak M.lt
 |tl j f args =>
  have aY:jK P kb own o.dst o.type o.op=some i.op:=getD_some m3 (by rw[tC];simp);rw[tC] at aY U;obtain⟨c,H,mH,n2⟩:=apA aY;have BB:=yg h.tz n2;simp only[hx] at U;obtain⟨k,g,sz,off,len,cs,d,r,O,hm,aa,ab,rfl,rfl⟩:=adP U;have ok:=eD.x9 h.ok.dZ k
  have aA:j<(c.args.toList.map a.eval).length:=by
   rw[BB.1];exact (dD.1 O).1
  have J7:=bz aA;have tx:=Kp h.ok.dZ hm (aqh hm aa) (BB.2 j _ _ O J7);have OE:=shut_list (BB.rb ok.m2);rw[m6] at OE
  have OG:dq w (b6 (b6 A (gn B k ⟨bX st.mem k,none,0⟩)) λ_=>none) (λ_=>none) ((args.map (shut ∘ ba st.tm)).set j (.J d)) (c.args.toList.map a.eval):=by
   refine⟨by rw[OE.1,hn],λi m v F I=>?_⟩
   by_cases h5:j=i
   ·subst h5;rw[J7] at I
    cases I;have ik:j<(args.map (shut ∘ ba st.tm)).length:=by rw[<-OE.1];exact aA
    rw[Gl ik] at F
    cases F;exact .J (tx.less λb ag=>(zI b).1 ag)
   ·rw[aef h5] at F;exact OE.2 i m v F I
  unfold N5 at ab
  split at ab
  ·rename_i FV im
   cases ab;obtain⟨mG,jw⟩:=cC f _ _ _ im;have hy:=jw (b6 A (gn B k ⟨bX st.mem k,none,0⟩)) w (λ_=>none) _ (Ko ok.dZ) OG;unfold Oper.wp;rw[DE H mH mG,M.dst];refine Calls.mono hy λe aQ he=>?_;obtain⟨v,rfl,bV,ns⟩:=he;exact⟨_,h.put (ok.trans (.still ok.dZ bV)) (.J (ns.less λb ag=>(zI b).2 ag)) M.lt⟩
  ·rename_i ev es im
   cases ab;obtain⟨mG,jw⟩:=cC f _ _ _ im;have hy:=jw (b6 A (gn B k ⟨bX st.mem k,none,0⟩)) w (λ_=>none) _ (Ko ok.dZ) OG;unfold Oper.wp;rw[DE H mH mG,M.dst];refine Calls.mono hy λe aQ he=>?_;obtain⟨v,rfl,bV,ns⟩:=he;exact⟨_,h.put (ok.trans (.still ok.dZ bV)) (.J ((ns.less λb ag=>(zI b).2 ag).den λb ag=>ag.elim (λcy=>ok.dZ.x1 cy) (ok.dZ.lt b))) M.lt⟩
  ·cases ab
 |sq j f args =>
  have aY:jK P kb own o.dst o.type o.op=some i.op:=getD_some m3 (by rw[tC];simp);rw[tC] at aY U;obtain⟨c,H,mH,n2⟩:=apB aY;have BB:=yg h.tz n2;simp only[hx] at U;obtain⟨k,g,sz,off,len,c8,cs,r,O,hm,aa,im,rfl,rfl⟩:=adQ U;have bW:=aql h.ok.dZ hm aa
  have aqp:∀b,b6 (λb=>A b\/∃j e,j≠k/\B j=some e/\e.df=some b) (λj=>if j=k then B k else none) b->b6 A B b:=λb ag=>by
   rcases ag with ⟨yl,e,ai,tD⟩|aN|⟨yl,e,_,ai,tD⟩
   ·by_cases ea:yl=k
    ·simp only[ad ea] at ai;exact .inl ⟨k,e,ai,tD⟩
    ·simp only[ah ea] at ai;cases ai
   ·exact .inr aN
   ·exact .inl ⟨yl,e,ai,tD⟩
  have aA:j<(c.args.toList.map a.eval).length:=by
   rw[BB.1];exact (dD.1 O).1
  have J7:=bz aA
  have OG:dq w (b6 (λb=>A b\/∃j e,j≠k/\B j=some e/\e.df=some b) (λj=>if j=k then B k else none)) (λj=>if j=k then B k else none) ((args.map λx=>shut (ba st.tm x)).set j (.ref k g sz off len)) (c.args.toList.map a.eval):=by
   refine⟨by rw[BB.1,hn,aj,aj],λi m v F I=>?_⟩
   by_cases h5:j=i
   ·subst h5
    have ik:j<(args.map λx=>shut (ba st.tm x)).length:=by
     have:=(dD.1 O).1
     simpa using this
    rw[Gl ik] at F
    cases F;have ak:=BB.2 j _ v O I
    cases ak with
    |ref he bc ab=>exact .ref (by simp only[if_true];exact he) bc ab
   ·rw[aef h5,bn,dV] at F;obtain⟨y,aw,rfl⟩:=F;exact aqj aqp (BB.2 i (ba st.tm y) v (by rw[bn,aw];rfl) I)
  obtain⟨mG,jw⟩:=cC f _ _ _ im;have hy:=jw _ w _ _ bW OG;unfold Oper.wp;rw[DE H mH mG,M.dst];refine Calls.mono hy λe aQ he=>?_;obtain⟨v,Bh,rfl,dE,ak⟩:=he;refine⟨_,h.put (aqm h.ok.dZ (λb ag=>?_) dE.aF) ?_ M.lt⟩
  ·obtain⟨yl,e,ai,tD⟩:=ag
   by_cases ea:yl=k
   ·simp only[ad ea] at ai;exact⟨e,ai,tD⟩
   ·simp only[ah ea] at ai;cases ai
  ·cases ak with
   |J ak =>
    refine .J (ak.less λb ag=>?_);rcases ag with ⟨yl,e,ai,tD⟩|aN
    ·by_cases ea:yl=k
     ·rw[ea,hj] at ai;cases ai;cases tD
     ·rw[g9 B _ ea] at ai;exact .inr (.inr ⟨yl,e,ea,ai,tD⟩)
    ·exact .inr (.inl aN)
 |jH f args=>rw[tC] at U;cases U
 |re neg x=>rw[tC] at U;cases U
 |_=>exact plain (by rw[tC] at U ⊢;exact U)
theorem aeg {α β:Type}{f:α->Option β}{xs:List α}{ys:List β}(h:xs.mapM f=some ys){i:Nat}{x:α}(O:xs[i]?=some x):∃y,ys[i]?=some y/\f x=some y:=by
 obtain⟨F,I⟩:=oI h;have aA:i<D ys:=by rw[F];exact (dD.1 O).1
 exact⟨_,bz aA,I i x _ O (bz aA)⟩
theorem TP (cC:qB P T){jS:Nat->Nat->Bool}(aY:ops.toList.mapM (Bm P n kb own ops)=some l)(fm:∀st a w B,K st->hG n A ez hl a st w B->aM .normal a w):
  ∀(fuel:Nat) (eY:Array Bool) (rec:Rec) (st:bd) (a:Act) (w:World) (B:Lay),hG n A ez hl a st w B->Gj T jS ops l K fuel eY rec st->wpAny P .any ops aM fuel eY a w
 |0,_,_,_,_,_,_,U,h=>⟨h.1,fm _ _ _ _ h.2 U⟩
 |fuel+1,eY,rec,st,a,w,B,U,h=>by
  refine⟨λao=>fm _ _ _ _ (h.1 ao) U,λi M=>?_⟩;obtain⟨x,zG,dS,O,hex,Q⟩:=h.2 i M;obtain⟨_,o,bM,_⟩:=mem_ready.1 M;obtain⟨y,aw,TQ⟩:=aeg aY (i:=i) (x:=o) (by simpa using bM);rw[O] at aw
  cases aw
  have ym:=adI TQ;unfold wpOp;simp only[bM];rcases hex with ⟨bc,rfl,rfl⟩|⟨bc,m,e,aqq,_,rfl,rfl⟩
  ·rw[TE U ym.guard bc,ah (by simp)];exact TP cC aY fm fuel _ _ _ _ _ B (by rw[ym.dst];exact U.put (.refl U.ok.dZ) .no ym.lt) Q
  ·rw[TE U ym.guard bc,ad rfl];refine .inl (Oper.wp_mono (λkE aQ ⟨bu,iQ⟩=>TP cC aY fm fuel _ _ _ _ _ bu iQ Q) (aqo cC U ym aqq))
theorem hG.drew {a:Act}{st:bd}(h:hG n A ez hl a st w B)(d:Nat):hG n A ez hl a st { w with drawn:=d } B:=by
 have U:eD A w B { w with drawn:=d } B st.mem:=.still h.ok.dZ ((Fr.refl _ _).drew d);exact⟨h.ok.trans U,λs=>(h.tm s).rb U.m2,h.sz,h.Kh⟩
theorem aqr (cC:qB P T)(hm:P.follows .mixedOrders=true){id:Nat}{a:Act}{st:bd}(aY:ops.toList.mapM (Bm P n kb own ops)=some l)(aa:FT ops l=true)(U:hG n A ez hl a st w B)
  (h:wI T K 0 l (zw [] l (qs ops.toList [])) (λ_=>none) st) (fm:∀st a w B,K st->hG n A ez hl a st w B->aM .normal a w):(Code.region id ops true).wp P aM a w:=by
 refine wp_region_any hm ?_
 have ar:(D l)=ops.size:=by
  rw[(oI aY).1,Array.length_toList]
 have Kq:=aec (aqc aa) ar (by unfold FT at aa;rw[eM] at aa;exact aa.1) l 0 (λ_=>none) st (Array.replicate ops.size false) rfl (by simp) (by simp) (λi M=>by simp[M]) (λ_ _=>rfl) h;rw[ar] at Kq;exact TP cC aY fm ops.size _ _ _ _ _ B (U.drew _) Kq
theorem TR (cC:qB P T)(aY:ops.toList.mapM (Bm P n kb own ops)=some l)(fm:∀st a w B,K st->hG n A ez hl a st w B->aM .normal a w):
  ∀(r:List c9) (m:Nat) (st:bd) (a:Act) (w:World) (B:Lay),l.drop m=r->hG n A ez hl a st w B->x4 T K r st->wpOps P ops aM (List.range' m (D r)) a w
 | [],_,_,_,_,_,_,U,h=>fm _ _ _ _ h U
 |x::r,m,st,a,w,B,ab,U,h=>by
  have O:l[m]?=some x:=by
   have:(l.drop m)[0]?=some x:=by rw[ab];rfl
   simpa using this
  have Gb:l.drop (m+1)=r:=by rw[<-Gk,ab];rfl
  have aA:m<ops.size:=by
   have F:=(oI aY).1;have I:=(dD.1 O).1;simp at F;omega
  have bM:ops[m]?=some ops[m]:=Array.getElem?_eq_getElem aA;obtain⟨y,aw,TQ⟩:=aeg aY (i:=m) (x:=ops[m]) (by simp);rw[O] at aw
  cases aw
  have ym:=adI TQ;simp only[h0,List.range'_succ];rw[wpOps_cons];unfold wpOp;simp only[bM];simp only[x4] at h
  split at h
  ·cases h
  ·rename_i g bc;rw[TE U ym.guard bc]
   cases g with
   |true =>
    simp only[if_true] at h ⊢;exact .inl (Oper.wp_mono (λkE aQ ⟨dS,bu,Q,iQ⟩=>TR cC aY fm r (m+1) dS kE aQ bu Gb iQ Q) (apH cC U ym h))
   |false =>
    simp only[kX,if_false] at h ⊢;exact TR cC aY fm r (m+1) _ _ _ B Gb (U.put (.refl U.ok.dZ) .no ym.lt) (by rw[<-ym.dst];exact h)
end Go.Mini
namespace Go.Mini
open Go
variable {A:Nat->Prop} {w:World} {B:Lay} {mem:Mem}
theorem aeh (bW:fp A w B mem){aX:Nat->Prop}(fG:∀b,aX b->A b){k:Key}{e:my}{b:Nat}(he:B k=some e)(ag:e.df=some b):¬ aX b :=
 λh=>bW.sep b (fG b h) ⟨k,e,he,ag⟩
theorem snap (bW:fp A w B mem){aX:Nat->Prop}(fG:∀b,aX b->A b):∀(d:Nat) (m:R) (v:Value) (r:Data),cl d mem m=some r->bt w (b6 A B) B m v->Den w aX r v:=by
 have aei:∀(d:Data) (v:Value),bt w (b6 A B) B (.J d) v->Den w aX d v:=λd v h=>by
  cases h with
  |J h=>exact h.less λb ag => .inr (fG b ag)
 have OH:∀v,bt w (b6 A B) B .nil v->Den w aX (.Y []) v:=λv h=>by
  cases h;exact .lO
 intro d
 induction d with
 |zero =>
  intro m v r h ak
  cases m<;>simp only[cl,ca,reduceCtorEq] at h
  ·subst h;exact aei _ _ ak
  ·subst h;exact OH _ ak
 |succ d ay =>
  intro m v r h ak
  have lists:∀(cs:List R) (vs:List Value) (ds:List Data),cs.mapM (cl d mem)=some ds->(D vs)=(D cs)->(∀(i:Nat) (x:R) (u:Value),cs[i]?=some x->vs[i]?=some u->bt w (b6 A B) B x u) ->
    (D vs)=D ds/\∀(i:Nat) (x:Data) (u:Value),ds[i]?=some x->vs[i]?=some u->Den w aX x u:=by
   intro cs vs ds g2 ar ab;obtain⟨F,I⟩:=oI g2;refine⟨by omega,λi x u O hu=>?_⟩
   have aA:i<D cs:=by have:=(dD.1 O).1;omega
   have jP:=bz aA;exact ay _ u x (I i _ x jP O) (ab i _ u jP hu)
  cases m<;>simp only[cl,ca,dV,reduceCtorEq] at h
  case J=>subst h;exact aei _ _ ak
  case nil=>subst h;exact OH _ ak
  case ref k g sz off len =>
   split at h
   ·rename_i c8 cs Q
    split at h
    ·rename_i bc;subst bc
     split at h
     ·rename_i part TO;simp only[dV] at h;obtain⟨ds,g2,rfl⟩:=h;obtain⟨eL,rfl,pj⟩:=FX TO;obtain⟨F,I⟩:=oI g2
      cases ak with
      |ref he hgle ab =>
       obtain⟨e,gg,b7,aK,ag⟩:=bW.at_ Q;rw[gg] at he
       cases he;obtain⟨a,cap,rfl,af,aO,br⟩:=ab;rcases br with br|⟨b,rfl,bR⟩
       ·have:len=0:=by omega
        subst this;simp only[chunk];exact .lO
       ·obtain⟨bN,cb⟩:=bR b7.symm;obtain⟨vs,T,aR,aV,hle,b2⟩:=ag b bN;refine aee aR (aeh bW fG gg bN) (by omega) af (by omega) (by omega) λi x u O hu=>?_;have aA:i<D ds:=(dD.1 O).1;have kG:off+i<D cs:=by omega
        have jP:((cs.drop off).take (len*sz))[i]?=some cs[off+i]:=by
         rw[pU (by omega),k3,bz kG]
        refine ay _ u x (I i _ x jP O) (b2.2 (off+i) _ u (bz kG) ?_);rw[pU kG,Array.getElem?_toList];exact hu
     ·cases h
    ·cases h
   ·cases h
  case ptr k g off =>
   split at h
   ·rename_i c8 cs Q
    split at h
    ·rename_i bc;obtain⟨rfl,Tu⟩:=bc;simp only[dV] at h;obtain⟨ds,g2,rfl⟩:=h;obtain⟨F,I⟩:=oI g2
     cases ak with
     |ptr he hgle ab =>
      obtain⟨e,gg,b7,aK,ag⟩:=bW.at_ Q;rw[gg] at he
      cases he;obtain⟨b,rfl,bR⟩:=ab;have bN:=bR b7.symm;obtain⟨vs,T,aR,aV,hle,b2⟩:=ag b bN;rw[List.length_drop] at F;refine .ptr (λi=>vs.getD (off+i) undef) (Array.getElem?_eq_some_iff.1 aR).1 (aeh bW fG gg bN) (λi M=>?_) λi x O=>?_
      ·rw[cell_of_row w b (off+i) vs T (0,0) aR];have:off+i<vs.size:=by omega
       simp[this]
      ·have aA:i<D ds:=(dD.1 O).1;have kG:off+i<D cs:=by omega
       have Kr:off+i<vs.size:=by omega
       have jP:(cs.drop off)[i]?=some cs[off+i]:=by
        rw[k3,bz kG]
       have hu:vs.getD (off+i) undef=vs[off+i]:=by simp[Kr]
       rw[hu];refine ay _ _ x (I i _ x jP O) (b2.2 (off+i) _ _ (bz kG) ?_);rw[pU kG,Array.getElem?_toList];exact Array.getElem?_eq_getElem Kr
    ·cases h
   ·cases h
  case fz f cs =>
   obtain⟨ds,g2,rfl⟩:=h
   cases ak with
   |fz ar aa=>obtain⟨F,I⟩:=lists _ _ _ g2 ar aa;exact .fn F I
  case agg cs =>
   obtain⟨ds,g2,rfl⟩:=h
   cases ak with
   |agg ar aa=>obtain⟨F,I⟩:=lists _ _ _ g2 ar aa;exact .agg F I
  case cM cs =>
   obtain⟨ds,g2,rfl⟩:=h
   cases ak with
   |cM ar aa=>obtain⟨F,I⟩:=lists _ _ _ g2 ar aa;exact .cM F I
theorem bt.shift {aX mx:Nat->Prop}{bu:Lay}(fG:∀b,mx b->aX b)(Q:∀k e,B k=some e->∃e',bu k=some e'/\(e'=e\/e.g<e'.g)){m:R}{v:Value}(h:bt w aX B m v):bt w mx bu m v:=by
 induction h with
 |J h=>exact .J (h.less fG)
 |nil=>exact .nil
 | @ref k g sz off len e v he bc ak =>
  obtain⟨e',gg,aR⟩:=Q k e he;rcases aR with rfl|aR
  ·exact .ref gg bc ak
  ·exact .ref gg (by omega) (ak.JB (by omega))
 | @ptr k g off e v he bc ak =>
  obtain⟨e',gg,aR⟩:=Q k e he;rcases aR with rfl|aR
  ·exact .ptr gg bc ak
  ·exact .ptr gg (by omega) (ak.JB (by omega))
 |fz ar aa ay=>exact .fz ar ay
 |agg ar aa ay=>exact .agg ar ay
 |cM ar aa ay=>exact .cM ar ay
 |no=>exact .no
 |undef=>exact .undef
theorem kill_shut (bW:fp A w B mem){k:Key}{g:Nat}{cs:List R}{e:my}{b:Nat}(Q:mem k=some (g,cs))(he:B k=some e)(ag:e.df=some b):
  fp (λew=>A ew\/ew=b) w (gn B k ⟨bX mem k,none,0⟩) (kill mem k)/\(∀m v,bt w (b6 A B) B m v->bt w (b6 (λew=>A ew\/ew=b) (gn B k ⟨bX mem k,none,0⟩)) (gn B k ⟨bX mem k,none,0⟩) m v):=by
 have bc:=Dm bW k e he
 have fG:∀ew,b6 (λew=>A ew\/ew=b) (gn B k ⟨bX mem k,none,0⟩) ew->b6 A B ew:=λew h=>by
  rcases h with ⟨j,aD,ai,O⟩|h|rfl
  ·by_cases ea:j=k
   ·subst ea;rw[hj] at ai;cases ai;cases O
   ·rw[g9 B _ ea] at ai;exact .inl ⟨j,aD,ai,O⟩
  ·exact .inr h
  ·exact .inl ⟨k,e,he,ag⟩
 have aqs:∀j aD,B j=some aD->∃e',gn B k ⟨bX mem k,none,0⟩ j=some e'/\(e'=aD\/aD.g<e'.g):=λj aD ai=>by
  by_cases ea:j=k
  ·subst ea;rw[he] at ai
   cases ai;exact⟨_,hj _ _ _,.inr bc⟩
  ·exact⟨aD,by rw[g9 B _ ea];exact ai,.inl rfl⟩
 have shift:∀m v,bt w (b6 A B) B m v->bt w (b6 (λew=>A ew\/ew=b) (gn B k ⟨bX mem k,none,0⟩)) (gn B k ⟨bX mem k,none,0⟩) m v:=λm v h=>h.shift fG aqs;refine⟨⟨λj ai=>?_,λj lP az aD ew F I af aO=>?_,λew aN bM=>?_,λew aN=>?_,λj c8 nr ai=>?_⟩,shift⟩
 ·by_cases ea:j=k
  ·subst ea;simp[kill,a1] at ai
  ·rw[g9 B _ ea];simp only[kill,a1,ea,if_false] at ai;exact bW.Bi j ai
 ·by_cases ea:j=k
  ·subst ea;rw[hj] at F;cases F;cases af
  ·by_cases hjk':lP=k
   ·subst hjk';rw[hj] at I;cases I;cases aO
   ·rw[g9 B _ ea] at F;rw[g9 B _ hjk'] at I;exact bW.inj j lP az aD ew F I af aO
 ·obtain⟨j,aD,ai,O⟩:=bM
  by_cases ea:j=k
  ·subst ea;rw[hj] at ai;cases ai;cases O
  ·rw[g9 B _ ea] at ai;rcases aN with aN|rfl
   ·exact bW.sep ew aN ⟨j,aD,ai,O⟩
   ·exact ea (bW.inj j k aD e ew ai he O ag)
 ·rcases aN with aN|rfl
  ·exact bW.lt ew aN
  ·exact bW.x1 ⟨k,e,he,ag⟩
 ·by_cases ea:j=k
  ·subst ea;simp only[kill,a1,if_true,ca,fD] at ai;obtain⟨rfl,rfl⟩:=ai;exact⟨_,hj _ _ _,rfl,λ_=>rfl,λew h2=>by cases h2⟩
  ·simp only[kill,a1,ea,if_false] at ai;obtain⟨aD,F,I,af,aO⟩:=bW.df j c8 nr ai;refine⟨aD,by rw[g9 B _ ea];exact F,I,af,λew h2=>?_⟩
   obtain⟨vs,T,br,bR,bN,cb⟩:=aO ew h2;exact⟨vs,T,br,bR,bN,λi m hm=>let ⟨v,ak,ab⟩:=cb i m hm;⟨v,ak,shift m v ab⟩⟩
end Go.Mini
