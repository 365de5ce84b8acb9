/- A part of the proof. -/
import Derived.Calls
import Derived.Still
import Derived.Below
import Derived.Laws.World
import Derived.Laws.Sem
import Derived.Laws.Entries
import Derived.Laws.Rows
import GoSem.ClaimData
import Derived.Laws.CopyRow
import Derived.Laws.MakeOwn
import Derived.Laws.Append
import Derived.Laws.AppendOwn
import Derived.Laws.Strings
import Derived.Laws.Strings2
import Derived.Laws.StructEq
import Derived.Laws.Slices
import Derived.Laws.Cells
import Derived.Attr
set_option linter.unusedSimpArgs false
set_option linter.unusedVariables false
set_option maxRecDepth 100000
set_option maxHeartbeats 4000000
noncomputable section
open Bool renaming and_eq_true->ec,false_eq_true->kO,or_eq_true->x3
open List renaming all_eq_true->jc,contains_iff_mem->adL,drop_drop->FR,drop_eq_getElem_cons->ia,drop_eq_nil_of_le->kP,drop_set_of_lt->ts,drop_take->acN,eq_nil_of_length_eq_zero->qs,ext_getElem?->o4,flatten_cons->jC,foldl_cons->FG,getD_eq_getElem?_getD->en,getElem?_append->Fx,getElem?_append_left->qo,getElem?_append_right->rb,getElem?_cons_zero->u0,getElem?_drop->kU,getElem?_eq_getElem->bx,getElem?_eq_none->ke,getElem?_eq_some_iff->dz,getElem?_map->bq,getElem?_range->th,getElem?_set_ne->adR,getElem?_set_self->adQ,getElem?_take->uR,getElem?_take_of_lt->pK,getElem?_toArray->ac1,getElem_mem->nc,getElem_of_mem->JL,length->D,length_append->fE,length_cons->hV,length_map->ak,length_set->jf,length_take->fR,mapM_cons->lg,map_congr_left->jM,map_map->lo,mem_append->kg,mem_cons_self->gn,mem_flatMap->x1,mem_of_getElem?->ep,mem_of_mem_take->FE,mem_zipIdx_iff_getElem?->adH,range->dP,replicate->dC,replicate_succ->pG,take_append->FC,take_of_length_le->dt
open Nat renaming add_assoc->qn,add_comm->y6,add_mul->qh,add_zero->nQ,eq_or_lt_of_le->Nx,eq_zero_or_pos->kV,le_mul_of_pos_right->JM,le_refl->bW,le_trans->eP,lt_asymm->adK,lt_of_lt_of_le->CY,lt_or_ge->h9,min_eq_left->oA,mul_le_mul_right->uV,one_mul->wg,sub_self->mg,succ_mul->ti,testBit_or->adD,zero_add->kx,zero_le->fg
open Option renaming bind_eq_bind->hf,bind_eq_some_iff->eo,getD_some->FQ,isSome_iff_exists->ac3,map_eq_some_iff->dR,map_none->adk,map_some->ll,pure_def->g7
open Option.some renaming inj->mj,injEq->cj
open Prod.mk renaming injEq->fp
namespace Go.Mini
theorem bz {α:Sort _}{a:α}:a=a:=_root_.id rfl
theorem ad {c:Prop}{h:Decidable c}(G:c){α:Sort _}{t e:α}:ite c t e=t:=if_pos G
theorem ae {c:Prop}{h:Decidable c}(G:¬c){α:Sort _}{t e:α}:ite c t e=e:=if_neg G
theorem iw {p:Prop}[inst:Decidable p](h:p):decide p=true:=decide_eq_true h
theorem j9 {p:Prop}[i:Decidable p](h:¬p):decide p=false:=decide_eq_false h
theorem dn {p:Prop}[inst:Decidable p](h:p:=by omega):decide p=true:=decide_eq_true h
theorem dk {p:Prop}[i:Decidable p](h:¬p:=by omega):decide p=false:=decide_eq_false h
open Go
abbrev Key:=Nat
inductive Data where
 |int (k:IntKind) (n:Int)
 |bool (b:Bool)
 |str (s:List UInt8)
 |Y (es:List (List Data))
 |ptr (cs:List Data)
 |uI
 |fn (f:FuncId) (eO:List Data)
 |uJ
 |agg (cs:List Data)
 |cI (vs:List Data)
 deriving Inhabited
inductive R where
 |J (d:Data)
 |nil
 |ref (k:Key) (g sz off len:Nat)
 |ptr (k:Key) (g off:Nat)
 |fy (f:FuncId) (eO:List R)
 |agg (cs:List R)
 |cI (vs:List R)
 |no
 |undef
 deriving Inhabited
inductive Den (w:World) (aW:Nat->Prop):Data->Value->Prop
 |int {k:IntKind} {n:Int}:Den w aW (.int k n) (.int k n)
 |bool {b:Bool}:Den w aW (.bool b) (.bool b)
 |str {s:List UInt8}:Den w aW (.str s) (.string ⟨s.toArray⟩)
 |lK {a:Option Addr} {c:Nat}:Den w aW (.Y []) (.slice a 0 c)
 |Y {es:List (List Data)} {b off c sz:Nat} (val:Nat->Value) (aq:(D es)<=c) (hm:(D es)<=maxLen) (ah:b<w.heap.size) (fH:¬ aW b) (eW:∀e∈es,D e=sz)
   (G:∀i,i<D es*sz->w.cell? ⟨b,off+i,none⟩=some (val i)) (aa:∀i d,es.flatten[i]?=some d->Den w aW d (val i)) :
   Den w aW (.Y es) (.slice (some ⟨b,off,none⟩) (D es) c)
 |ptr {cs:List Data} {b off:Nat} (val:Nat->Value) (ah:b<w.heap.size) (fH:¬ aW b)
   (G:∀i,i<(D cs)->w.cell? ⟨b,off+i,none⟩=some (val i)) (aa:∀i d,cs[i]?=some d->Den w aW d (val i)) :
   Den w aW (.ptr cs) (.pointer (some ⟨b,off,none⟩))
 |uI:Den w aW .uI (.pointer none)
 |fn {f:FuncId} {eO:List Data} {vs:List Value} (aq:(D vs)=D eO) (aa:∀(i:Nat) (d:Data) (v:Value),eO[i]?=some d->vs[i]?=some v->Den w aW d v) :
   Den w aW (.fn f eO) (.func (.func f) #[] vs.toArray)
 |uJ:Den w aW .uJ .nilFunc
 |agg {cs:List Data} {vs:List Value} (aq:(D vs)=D cs) (aa:∀(i:Nat) (d:Data) (v:Value),cs[i]?=some d->vs[i]?=some v->Den w aW d v) :
   Den w aW (.agg cs) (.agg vs.toArray)
 |cI {cs:List Data} {vs:List Value} (aq:(D vs)=D cs) (aa:∀(i:Nat) (d:Data) (v:Value),cs[i]?=some d->vs[i]?=some v->Den w aW d v) :
   Den w aW (.cI cs) (.tuple vs.toArray)
theorem Nd {es:List (List Data)}{sz:Nat}(h:∀e∈es,D e=sz):(D es.flatten)=D es*sz:=by
 induction es with
 |nil=>simp
 |cons e r ax =>
  have F:=h e (by simp);have I:=ax (λx O=>h x (by simp[O]));rw[jC,fE,F,I,hV,qh,wg,y6]
theorem Den.q3 {w aP:World}{aW ma:Nat->Prop}(U:w.heap.size<=aP.heap.size)(h:∀b,b<w.heap.size->¬ aW b->aP.heap[b]?=w.heap[b]?/\¬ ma b){d:Data}{v:Value}(aa:Den w aW d v):Den aP ma d v:=by
 induction aa with
 |int=>exact .int
 |bool=>exact .bool
 |str=>exact .str
 |lK=>exact .lK
 | @Y es b off c sz val aq hm ah fH eW G aa ax =>
  obtain⟨F,I⟩:=h b ah fH;exact .Y val aq hm (by omega) I eW (λi M=>(World.cell?_of_block (a:=⟨b,off+i,none⟩) F).trans (G i M)) ax
 |uI=>exact .uI
 |uJ=>exact .uJ
 | @ptr cs b off val ah fH G aa ax =>
  obtain⟨F,I⟩:=h b ah fH;exact .ptr val (by omega) I (λi M=>(World.cell?_of_block (a:=⟨b,off+i,none⟩) F).trans (G i M)) ax
 |fn aq aa ax=>exact .fn aq ax
 |agg aq aa ax=>exact .agg aq ax
 |cI aq aa ax=>exact .cI aq ax
structure mb where
 g:Nat
 dd:Option Nat
 size:Nat
abbrev Lay:=Key->Option mb
def sc (B:Lay)(b:Nat):Prop:=∃k e,B k=some e/\e.dd=some b
def Ff (e:mb)(g sz off len:Nat)(v:Value):Prop :=
 ∃a cap,v=.slice a len cap/\len<=cap/\cap<=maxLen/\(cap=0\/∃b,a=some ⟨b,off,none⟩/\(g=e.g->e.dd=some b/\off+cap*sz<=e.size))
def Nf (e:mb)(g off:Nat)(v:Value):Prop:=∃b,v=.pointer (some ⟨b,off,none⟩)/\(g=e.g->e.dd=some b)
theorem Ff.Jb {e e':mb}{g sz off len:Nat}{v:Value}(h:Ff e g sz off len v)(aq:g<e'.g):Ff e' g sz off len v:=by
 obtain⟨a,cap,F,I,af,aM⟩:=h;refine⟨a,cap,F,I,af,aM.imp id ?_⟩;rintro⟨b,bk,_⟩;exact⟨b,bk,λh=>by omega⟩
theorem Nf.Jb {e e':mb}{g off:Nat}{v:Value}(h:Nf e g off v)(aq:g<e'.g):Nf e' g off v:=by
 obtain⟨b,F,_⟩:=h;exact⟨b,F,λh=>by omega⟩
inductive bs (w:World) (aW:Nat->Prop) (B:Lay):R->Value->Prop
 |J {d:Data} {v:Value} (h:Den w aW d v):bs w aW B (.J d) v
 |nil {a:Option Addr}:bs w aW B .nil (.slice a 0 0)
 |ref {k:Key} {g sz off len:Nat} {e:mb} {v:Value} (he:B k=some e) (bc:g<=e.g) (hv:Ff e g sz off len v):bs w aW B (.ref k g sz off len) v
 |ptr {k:Key} {g off:Nat} {e:mb} {v:Value} (he:B k=some e) (bc:g<=e.g) (hv:Nf e g off v):bs w aW B (.ptr k g off) v
 |fy {f:FuncId} {eO:List R} {vs:List Value} (aq:(D vs)=D eO) (aa:∀(i:Nat) (d:R) (v:Value),eO[i]?=some d->vs[i]?=some v->bs w aW B d v) :
   bs w aW B (.fy f eO) (.func (.func f) #[] vs.toArray)
 |agg {cs:List R} {vs:List Value} (aq:(D vs)=D cs) (aa:∀(i:Nat) (d:R) (v:Value),cs[i]?=some d->vs[i]?=some v->bs w aW B d v) :
   bs w aW B (.agg cs) (.agg vs.toArray)
 |cI {cs:List R} {vs:List Value} (aq:(D vs)=D cs) (aa:∀(i:Nat) (d:R) (v:Value),cs[i]?=some d->vs[i]?=some v->bs w aW B d v) :
   bs w aW B (.cI cs) (.tuple vs.toArray)
 |no:bs w aW B .no undef
 |undef {v:Value}:bs w aW B .undef v
def b7 (A:Nat->Prop)(B:Lay)(b:Nat):Prop:=sc B b\/A b
structure Trans (A:Nat->Prop) (w:World) (B:Lay) (aP:World) (bt:Lay):Prop where
 size:w.heap.size<=aP.heap.size
 Jc:∀b,b<w.heap.size->¬ b7 A B b->aP.heap[b]?=w.heap[b]?/\¬ sc bt b
 key:∀k e,B k=some e->∃e',bt k=some e'/\(e'=e\/e.g<e'.g)
theorem Trans.refl (A:Nat->Prop)(w:World)(B:Lay):Trans A w B w B :=
 ⟨bW _,λ_ _ h=>⟨rfl,λbJ=>h (.inl bJ)⟩,λ_ e he=>⟨e,he,.inl rfl⟩⟩
theorem Trans.trans {A:Nat->Prop}{w w1 m7:World}{B A1 CX:Lay}(h:Trans A w B w1 A1)(ct:Trans A w1 A1 m7 CX):Trans A w B m7 CX:=by
 refine⟨eP h.size ct.size,λb ah bJ=>?_,λk e he=>?_⟩
 ·obtain⟨F,I⟩:=h.Jc b ah bJ;obtain⟨af,aM⟩:=ct.Jc b (CY ah h.size) (λO=>O.elim I λaN=>bJ (.inr aN));exact⟨af.trans F,aM⟩
 ·obtain⟨aA,anQ,aQ⟩:=h.key k e he;obtain⟨aC,fq,oZ⟩:=ct.key k aA anQ;refine⟨aC,fq,?_⟩;rcases aQ with rfl|aQ<;>rcases oZ with rfl|oZ
  ·exact .inl rfl
  ·exact .inr oZ
  ·exact .inr aQ
  ·exact .inr (Nat.lt_trans aQ oZ)
theorem Den.trans {A:Nat->Prop}{w aP:World}{B bt:Lay}(t:Trans A w B aP bt){d:Data}{v:Value}(h:Den w (b7 A B) d v):Den aP (b7 A bt) d v :=
 h.q3 t.size λb ah bJ=>⟨(t.Jc b ah bJ).1,λO=>O.elim (t.Jc b ah bJ).2 λaN=>bJ (.inr aN)⟩
theorem bs.q3 {A:Nat->Prop}{w aP:World}{B bt:Lay}(t:Trans A w B aP bt){m:R}{v:Value}(h:bs w (b7 A B) B m v):bs aP (b7 A bt) bt m v:=by
 induction h with
 |J h=>exact .J (h.trans t)
 |nil=>exact .nil
 | @ref k g sz off len e v he bc hv =>
  obtain⟨e',gf,aQ⟩:=t.key k e he;rcases aQ with rfl|aQ
  ·exact .ref gf bc hv
  ·exact .ref gf (by omega) (hv.Jb (by omega))
 | @ptr k g off e v he bc hv =>
  obtain⟨e',gf,aQ⟩:=t.key k e he;rcases aQ with rfl|aQ
  ·exact .ptr gf bc hv
  ·exact .ptr gf (by omega) (hv.Jb (by omega))
 |fy aq aa ax=>exact .fy aq ax
 |agg aq aa ax=>exact .agg aq ax
 |cI aq aa ax=>exact .cI aq ax
 |no=>exact .no
 |undef=>exact .undef
abbrev Mem:=Key->Option (Nat×List R)
def emp:Mem:=λ_=>none
def aZ (m:Mem)(k:Key)(g:Nat)(cs:List R):Mem:=λj=>if j=k then some (g,cs) else m j
def bU (m:Mem)(k:Key):Nat:=match m k with
 |none=>0
 |some (g,_)=>g+1
structure fm (A:Nat->Prop) (w:World) (B:Lay) (mem:Mem):Prop where
 A2:∀k,mem k=none->B k=none
 inj:∀k k' e e' b,B k=some e->B k'=some e'->e.dd=some b->e'.dd=some b->k=k'
 sep:∀b,A b->¬ sc B b
 lt:∀b,A b->b<w.heap.size
 dd:∀k g cs,mem k=some (g,cs)->∃e,B k=some e/\e.g=g/\(e.dd=none->cs=[]) /\
  ∀b,e.dd=some b->∃vs T,w.heap[b]?=some (.cells vs T (0,0))/\vs.size=e.size/\D cs<=vs.size /\
   ∀(i:Nat) (m:R),cs[i]?=some m->∃v,vs[i]?=some v/\bs w (b7 A B) B m v
theorem fm.xM {A:Nat->Prop}{w:World}{B:Lay}{mem:Mem}(h:fm A w B mem){b:Nat}(ah:sc B b):b<w.heap.size:=by
 obtain⟨k,e,he,ah⟩:=ah
 cases hm:mem k with
 |none=>rw[h.A2 k hm] at he;cases he
 |some x =>
  obtain⟨g,cs⟩:=x;obtain⟨e',gf,_,_,aQ⟩:=h.dd k g cs hm;rw[gf] at he
  cases he;obtain⟨vs,T,hv,_⟩:=aQ b ah;exact (Array.getElem?_eq_some_iff.1 hv).1
structure Fr (uK:Nat->Prop) (ev w:World):Prop where
 os:w.os=ev.os
 tape:w.tape=ev.tape
 output:w.output=ev.output
 size:ev.heap.size<=w.heap.size
 block:∀g,g<ev.heap.size->¬ uK g->w.heap[g]?=ev.heap[g]?
theorem Fr.refl (uK:Nat->Prop)(w:World):Fr uK w w:=⟨rfl,rfl,rfl,bW _,λ_ _ _=>rfl⟩
theorem Fr.drew {uK:Nat->Prop}{ev w:World}(h:Fr uK ev w)(n:Nat):Fr uK ev { w with drawn:=n }:=⟨h.os,h.tape,h.output,h.size,h.block⟩
theorem Fr.alloc {uK:Nat->Prop}{ev w:World}(h:Fr uK ev w)(o:Obj):Fr uK ev (w.alloc o) :=
 ⟨h.os,h.tape,h.output,by simp;have:=h.size;omega,λg bc fH=>(RowKit.Below.heap_alloc w o g (by have:=h.size;omega)).trans (h.block g bc fH)⟩
theorem Fr.below {ev w:World}(h:Fr (λ_=>False) ev w):RowKit.Below ev.heap.size ev w:=⟨h.os,h.tape,h.output,h.size,λg bc=>h.block g bc id⟩
inductive bP where
 |t (s:Nat)
 |c (m:R)
 deriving Inhabited
inductive ka where
 |cQ (x:bP)
 |pick (c a b:bP)
 |alloc (k:Key) (z:List R)
 |box (k:Key) (x:bP)
 |build (z:List R) (parts:List (Nat×Nat×bP))
 |fc (k:Key) (own:Bool) (z:List R) (sz len:Nat) (parts:List (Nat×Nat×bP))
 |load (n:Nat) (dU:Bool) (x:bP)
 |store (n:Nat) (x v:bP)
 |bin (op:BinOp) (x y:bP)
 |beq (neg:Bool) (x y:bP)
 |eqs (neg:Bool) (gP:List Nat) (x y:bP)
 |q4 (neg:Bool) (x:bP)
 |un (op:UnOp) (x:bP)
 |conv (k:IntKind) (x:bP)
 |sd (x:bP)
 |mc (k:Key) (z:List R) (bytes:Nat) (len cap:bP)
 |dQ (off:Nat) (x:bP)
 |CZ (off n:Nat) (dU:Bool) (x:bP)
 |m8 (sz:Nat) (x i:bP)
 |o0 (len sz:Nat) (x i:bP)
 |idxs (x i:bP)
 |ou (sz:Nat) (x:bP) (cy M kd:Option bP)
 |tb (len sz:Nat) (x:bP) (cy M kd:Option bP)
 |C0 (x:bP) (cy M:Option bP)
 |ext (i:Nat) (x:bP)
 |len (x:bP)
 |lens (x:bP)
 |app (k:Key) (z:List R) (bytes:Nat) (s x:bP)
 |se (sz:Nat) (d x:bP)
 |iJ (kd:Bool) (x y:bP)
 |call (f:FuncId) (args:List bP)
 |ov (k:Key) (sz:Nat) (f:FuncId) (args:List bP)
 |jD (f:bP) (args:List bP)
 |me (cy:Nat) (f:FuncId) (args:List bP)
 |tc (j:Nat) (f:FuncId) (args:List bP)
 |sf (j:Nat) (f:FuncId) (args:List bP)
 |sg (z:List R) (x:bP)
 |pD (f:FuncId) (eO:List bP)
 |bad
 deriving Inhabited
structure c9 where
 dst:Option Nat
 g:Option (Nat×Bool)
 op:ka
 deriving Inhabited
inductive Ng where
 |ow (s:Nat) (k:Key) (sz:Nat)
 |Nh (x:bP) (i:Nat) (k:Key) (sz:Nat)
 |freeze (s:Nat)
 |Ni (x:bP) (i:Nat)
 |move
 |many
 deriving Inhabited
inductive eA where
 |skip
 |ops (l:List c9)
 |nK (l:List c9) (c:List (List Nat))
 |seq (a b:eA)
 |cond (c:bP) (a b:eA)
 |block (id:Nat) (c:eA)
 |loop (c:eA)
 |exit (id:Nat)
 |ret
 |ghost (g:Ng) (c:eA)
 deriving Inhabited
inductive ox where
 |t (s:Nat)
 |cell (s n:Nat) (dU:Bool)
 deriving Inhabited
structure bT where
 n:Nat
 anR:Nat
 res:List ox
 body:eA
 deriving Inhabited
structure bd where
 tm:Nat->R
 mem:Mem
def e3 (tm:Nat->R)(s:Nat)(m:R):Nat->R:=λt=>if t=s then m else tm t
def put (tm:Nat->R):Option Nat->R->Nat->R
 |some s,m=>e3 tm s m
 |none,_=>tm
@[simp] theorem e4 (tm:Nat->R)(s:Nat)(m:R)(t:Nat):e3 tm s m t=if t=s then m else tm t:=rfl
def a6 (tm:Nat->R):bP->R
 |.t s=>tm s
 |.c m=>m
def R.cells:R->List R
 |.agg cs=>cs
 |.J (.agg ds)=>ds.map .J
 |m=>[m]
def R.known:R->Bool
 |.undef=>false
 |_=>true
def R.one:R->Bool
 |.J (.agg _)=>false
 |.J (.cI _)=>false
 |.J _=>true
 |.nil=>true
 |.ref ..=>true
 |.ptr ..=>true
 |.fy ..=>true
 |_=>false
def q5 (dU:Bool)(cs:List R):Option R :=
 if dU=true then some (.agg cs) else match cs with
  | [m]=>some m
  |_=>none
def cut (cs:List R)(off n:Nat):Option (List R) :=
 if off+n<=(D cs) then some ((cs.drop off).take n) else none
def kM (cs:List R)(off:Nat)(new:List R):List R:=cs.take off++new++cs.drop (off+D new)
def kv (a6:bP->R)(cells:List R):List (Nat×Nat×bP)->Option (List R)
 | []=>some cells
 |(off,size,x)::rest =>
  if (a6 x).known=true/\(a6 x).cells.length=size/\off+size<=(D cells) then kv a6 (kM cells off (a6 x).cells) rest else none
def uL:R->Option Data
 |.J d=>some d
 |.nil=>some (.Y [])
 |_=>none
def chunk (sz:Nat):Nat->List Data->List (List Data)
 |0,_=>[]
 |n+1,l=>l.take sz::chunk sz n (l.drop sz)
def Nj (op:BinOp)(k:IntKind)(a b:Int):Option Data :=
 match op with
 |.add=>some (.int k (k.wrap (a+b)))
 |.sub=>some (.int k (k.wrap (a-b)))
 |.mul=>some (.int k (k.wrap (a*b)))
 |.quo=>if b=0 then none else some (.int k (k.wrap (a.tdiv b)))
 |.rem=>if b=0 then none else some (.int k (a.tmod b))
 |.and=>some (.int k (bits .and k a b))
 |.or=>some (.int k (bits .or k a b))
 |.xor=>some (.int k (bits .xor k a b))
 |.andNot=>some (.int k (bits .andNot k a b))
 |.eql=>some (.bool (a==b))
 |.neq=>some (.bool (a != b))
 |.lss=>some (.bool (a<b))
 |.leq=>some (.bool (a<=b))
 |.gtr=>some (.bool (a>b))
 |.geq=>some (.bool (a>=b))
 |_=>none
def Nk (op:BinOp)(k:IntKind)(a b:Int):Option Data :=
 if b<0 then none else match op with
 |.shl=>some (.int k (k.wrap (a*2^(min b.toNat k.bits))))
 |.shr=>some (.int k (a.fdiv (2^(min b.toNat k.bits))))
 |_=>none
def Nl (op:BinOp)(a b:List UInt8):Option Data :=
 match op with
 |.add=>if (D a)+D b<=maxLen then some (.str (a++b)) else none
 |.eql=>some (.bool (a==b))
 |.neq=>some (.bool (!(a==b)))
 |.lss=>some (.bool (Op.bytesLess a b))
 |.leq=>some (.bool (Op.bytesLess a b||a==b))
 |.gtr=>some (.bool (!(Op.bytesLess a b||a==b)))
 |.geq=>some (.bool (!Op.bytesLess a b))
 |_=>none
def Fg:BinOp->Bool
 |.shl=>true
 |.shr=>true
 |_=>false
def Jd (op:BinOp)(x y:R):Option R :=
 match x,y with
 |.J (.int k a),.J (.int k' b)=>if Fg op=true then (Nk op k a b).map .J else if k=k' then (Nj op k a b).map .J else none
 |.J (.str a),.J (.str b)=>(Nl op a b).map .J
 |_,_=>none
def Je (neg:Bool):R->R->Option R
 |.J (.bool a),.J (.bool b)=>some (.J (.bool (neg != (a==b))))
 |_,_=>none
def Nm:Nat->R->R->Option Bool
 |0,.J (.bool a),.J (.bool b)=>some (a==b)
 |1,.J (.int k a),.J (.int k' b)=>if k=k' then some (a==b) else none
 |2,.J (.str a),.J (.str b)=>some (a==b)
 |_,_,_=>none
def A5:List Nat->List R->List R->Option Bool
 | [],[],[]=>some true
 |k::gP,a::x,b::y=>match Nm k a b,A5 gP x y with
  |some c,some d=>some (c&&d)
  |_,_=>none
 |_,_,_=>none
def Jf (op:UnOp)(x:R):Option R :=
 match op,x with
 |.neg,.J (.int k n)=>some (.J (.int k (k.wrap (0-n))))
 |.xor,.J (.int k n)=>some (.J (.int k (bits .xor k (if k.signed then -1 else k.max) n)))
 |.not,.J (.bool b)=>some (.J (.bool !b))
 |_,_=>none
def idx:R->Option Nat
 |.J (.int _ n)=>if 0<=n then some n.toNat else none
 |_=>none
def jE (d:Nat):Option R->Option Nat
 |none=>some d
 |some x=>idx x
def qi:R->Option Nat
 |.J (.Y es)=>some (D es)
 |.nil=>some 0
 |.ref _ _ _ _ n=>some n
 |_=>none
def qj (mem:Mem)(n:Nat)(dU:Bool):R->Option R
 |.ptr k g off=>match mem k with
  |some (c6,cs)=>if c6=g then (cut cs off n).bind (q5 dU) else none
  |none=>none
 |.J (.ptr ds)=>(cut (ds.map .J) 0 n).bind (q5 dU)
 |_=>none
def y7:R->Option Nat
 |.J (.str s)=>some (D s)
 |_=>none
def Fh:R->R->R->Option R
 |.J (.bool t),a,b=>some (if t=true then a else b)
 |_,_,_=>none
def Jg (z:List R)(sz len:Nat)(x:Option (List R)):Option R :=
 if (D z)=len*sz then (match x with
  |some cs=>(cs.mapM uL).map λds => .J (.Y (chunk sz len ds))
  |none=>none) else none
def Jh:R->Option (List R)
 |.agg cs=>some cs
 |.J (.agg ds)=>some (ds.map .J)
 |_=>none
def Ji (neg:Bool)(gP:List Nat)(a b:R):Option R:=match Jh a,Jh b with
 |some x,some y=>(match A5 gP x y with
  |some c=>some (.J (.bool (neg != c)))
  |none=>none)
 |_,_=>none
def Jj (k:IntKind):R->Option R
 |.J (.int _ n)=>some (.J (.int k (k.wrap n)))
 |_=>none
def Jk:R->Option R
 |.ptr k g off=>some (.ptr k g off)
 |.J (.ptr ds)=>some (.J (.ptr ds))
 |_=>none
def Jl (off:Nat):R->Option R
 |.ptr k g o=>some (.ptr k g (o+off))
 |.J (.ptr ds)=>if off<=(D ds) then some (.J (.ptr (ds.drop off))) else none
 |_=>none
def Jm (off n:Nat)(dU:Bool):R->Option R
 |.agg cs=>(cut cs off n).bind (q5 dU)
 |.J (.agg ds)=>(cut (ds.map .J) off n).bind (q5 dU)
 |_=>none
def y8 (sz n:Nat):R->Option R
 |.ref k g et off len=>if n<len/\et=sz then some (.ptr k g (off+n*sz)) else none
 |.J (.Y es)=>match es[n]? with
  |some e=>if (D e)=sz then some (.J (.ptr e)) else none
  |none=>none
 |_=>none
def Jn (len sz n:Nat):R->Option R
 |.ptr k g off=>if n<len then some (.ptr k g (off+n*sz)) else none
 |.J (.ptr ds)=>if n<len/\n*sz<=(D ds) then some (.J (.ptr (ds.drop (n*sz)))) else none
 |_=>none
def Jo (n:Nat):R->Option R
 |.J (.str s)=>(s[n]?).map λb => .J (.int .u8 b.toNat)
 |_=>none
def nL (sz:Nat)(es:List (List Data)):Bool:=es.all λe=>D e==sz
def Jp (sz l h:Nat):R->Option R
 |.J (.Y es)=>if l<=h/\h<=D es/\nL sz es=true then some (.J (.Y ((es.take h).drop l))) else none
 |.nil=>if l=0/\h=0 then some .nil else none
 |.ref k g et off len=>if et=sz/\l<=h/\h<=len then some (.ref k g sz (off+l*sz) (h-l)) else none
 |_=>none
def Jq (sz l h m:Nat):R->Option R
 |.J (.Y es)=>if l<=h/\h<=m/\m<=D es/\nL sz es=true then (if m=l then some .nil else some (.J (.Y ((es.take h).drop l)))) else none
 |.nil=>if l=0/\h=0/\m=0 then some .nil else none
 |.ref _ _ _ _ len=>if l<=h/\h<=m/\m<=len/\m=l then some .nil else none
 |_=>none
def Jr (l h:Nat):R->Option R
 |.J (.str s)=>if l<=h/\h<=(D s) then some (.J (.str ((s.take h).drop l))) else none
 |_=>none
def Js (i:Nat):R->Option R
 |.cI vs=>vs[i]?
 |.J (.cI ds)=>(ds[i]?).map .J
 |_=>none
def Jt (kd:Bool):R->R->Option R
 |.J (.int k a),.J (.int k' b)=>if k=k' then some (.J (.int k (if kd=true then (if b>a then b else a) else (if b<a then b else a)))) else none
 |_,_=>none
def hW (x:Option Nat)(f:Nat->Option R):Option R:=match x with
 |some n=>f n
 |none=>none
def kN (tm:Nat->R):ka->Option R
 |.cQ x=>some (a6 tm x)
 |.pick c a b=>Fh (a6 tm c) (a6 tm a) (a6 tm b)
 |.build z parts=>(kv (a6 tm) z parts).map .agg
 |.fc _ false z sz len parts=>Jg z sz len (kv (a6 tm) z parts)
 |.bin op x y=>Jd op (a6 tm x) (a6 tm y)
 |.beq neg x y=>Je neg (a6 tm x) (a6 tm y)
 |.eqs neg gP x y=>Ji neg gP (a6 tm x) (a6 tm y)
 |.un op x=>Jf op (a6 tm x)
 |.conv k x=>Jj k (a6 tm x)
 |.sd x=>Jk (a6 tm x)
 |.dQ off x=>Jl off (a6 tm x)
 |.CZ off n dU x=>Jm off n dU (a6 tm x)
 |.m8 sz x i=>hW (idx (a6 tm i)) λn=>y8 sz n (a6 tm x)
 |.o0 len sz x i=>hW (idx (a6 tm i)) λn=>Jn len sz n (a6 tm x)
 |.idxs x i=>hW (idx (a6 tm i)) λn=>Jo n (a6 tm x)
 |.ou sz x cy M none=>hW (jE 0 (cy.map (a6 tm))) λl=>hW (qi (a6 tm x)) λlen=>hW (jE len (M.map (a6 tm))) λh=>Jp sz l h (a6 tm x)
 |.ou sz x cy (some M) (some kd)=>hW (jE 0 (cy.map (a6 tm))) λl=>hW (idx (a6 tm M)) λh=>hW (idx (a6 tm kd)) λm=>Jq sz l h m (a6 tm x)
 |.C0 x cy M=>hW (jE 0 (cy.map (a6 tm))) λl=>hW (y7 (a6 tm x)) λlen=>hW (jE len (M.map (a6 tm))) λh=>Jr l h (a6 tm x)
 |.ext i x=>Js i (a6 tm x)
 |.len x=>hW (qi (a6 tm x)) λn=>some (.J (.int .i64 n))
 |.lens x=>hW (y7 (a6 tm x)) λn=>some (.J (.int .i64 n))
 |.iJ kd x y=>Jt kd (a6 tm x) (a6 tm y)
 |.pD f eO=>some (.fy f (eO.map (a6 tm)))
 |_=>none
def SJ (k:Key)(g off len sz l h:Nat):Option (Nat×List R)->Option R
 |some (c6,cs)=>if c6=g/\l<=h/\h<=len/\off+len*sz<=(D cs) then some (.ref k g sz (off+l*sz) (h-l)) else none
 |none=>none
def A6 (mem:Mem)(len sz l h:Nat):R->Option R
 |.ptr k g off=>SJ k g off len sz l h (mem k)
 |_=>none
def qk (mem:Mem)(sz:Nat):R->Option (Nat×List R)
 |.J (.Y es)=>if nL sz es=true then some (D es,es.flatten.map R.J) else none
 |.nil=>some (0,[])
 |.ref k g et off len=>if et=sz then (match mem k with
  |some (c6,cs)=>if c6=g then (cut cs off (len*sz)).map λcs=>(len,cs) else none
  |none=>none) else none
 |_=>none
abbrev Out:=Option (R×Option (Key×Nat×List R))
def ja (x:Option R):Out:=match x with
 |some m=>some (m,none)
 |none=>none
def Fi (k:Key)(g:Nat)(z:List R)(sz len:Nat)(x:Option (List R)):Out :=
 if (D z)=len*sz then (match x with
  |some cs=>some (.ref k g sz 0 len,some (k,g,cs))
  |none=>none) else none
def Fj (k:Key)(g:Nat)(z:List R)(bytes:Nat)(n c:Nat):Out :=
 if n=c/\bytes*n<=140737488355328/\n<=maxLen then some (.ref k g (D z) 0 n,some (k,g,(dC n z).flatten)) else none
def Ju (x y:Option Nat)(f:Nat->Nat->Out):Out:=match x,y with
 |some n,some m=>f n m
 |_,_=>none
def Jv (n:Nat)(k:Key)(g off:Nat)(v:List R)(x:Option (Nat×List R)):Out:=match x with
 |some (c6,cs)=>if c6=g/\D v=n/\off+n<=D cs/\v.all R.one=true then some (.no,some (k,g,kM cs off v)) else none
 |none=>none
def xN (mem:Mem)(n:Nat):R->List R->Out
 |.ptr k g off,v=>Jv n k g off v (mem k)
 |_,_=>none
def mN (k:Key)(g:Nat)(sz len bytes:Nat)(m:Nat)(new:List R)(x:Option (Nat×List R)):Out:=match x with
 |some (c6,cs)=>if c6=g/\len*sz<=D cs/\(len+m)*bytes<=140737488355328/\len+m<=maxLen/\new.all R.one=true
   then some (.ref k (g+1) sz 0 (len+m),some (k,g+1,cs.take (len*sz)++new)) else none
 |none=>none
def q6 (mem:Mem)(k:Key)(z:List R)(bytes:Nat):R->Option (Nat×List R)->Out
 |.nil,some (m,new)=>if m*bytes<=140737488355328/\m<=maxLen/\new.all R.one=true then some (.ref k (bU mem k) (D z) 0 m,some (k,bU mem k,new)) else none
 |.ref k' g et off len,some (m,new)=>if et=D z/\off=0 then mN k' g et len bytes m new (mem k') else none
 |_,_=>none
def A7 (k:Key)(g sz off len:Nat)(m:Nat)(new:List R)(x:Option (Nat×List R)):Out:=match x with
 |some (c6,cs)=>if c6=g/\off+len*sz<=D cs/\new.all R.one=true then some (.J (.int .i64 ((min m len:Nat):Int)),some (k,g,kM cs off (new.take (min m len*sz)))) else none
 |none=>none
def wh (mem:Mem)(sz:Nat):R->Option (Nat×List R)->Out
 |.ref k g et off len,some (m,new)=>if et=sz then A7 k g sz off len m new (mem k) else none
 |_,_=>none
def Nn (z:List R)(k:Key)(g off len:Nat)(x:Option (Nat×List R)):Out:=match x with
 |some (c6,cs)=>if c6=g/\off+len*D z<=D cs/\z.all R.one=true then some (.cI [],some (k,g,kM cs off (dC len z).flatten)) else none
 |none=>none
def xO (mem:Mem)(z:List R):R->Out
 |.ref k g sz off len=>if sz=(D z) then Nn z k g off len (mem k) else none
 |_=>none
def cr (mem:Mem)(tm:Nat->R):ka->Out
 |.alloc k z=>some (.ptr k (bU mem k) 0,some (k,bU mem k,z))
 |.box k x=>if (a6 tm x).known=true then some (.ptr k (bU mem k) 0,some (k,bU mem k,(a6 tm x).cells)) else none
 |.fc k true z sz len parts=>Fi k (bU mem k) z sz len (kv (a6 tm) z parts)
 |.mc k z bytes len cap=>Ju (idx (a6 tm len)) (idx (a6 tm cap)) (Fj k (bU mem k) z bytes)
 |.load n dU x=>ja (qj mem n dU (a6 tm x))
 |.tb len sz x cy M none=>ja (hW (jE 0 (cy.map (a6 tm))) λl=>hW (jE len (M.map (a6 tm))) λh=>A6 mem len sz l h (a6 tm x))
 |.store n x v=>xN mem n (a6 tm x) (a6 tm v).cells
 |.app k z bytes s x=>q6 mem k z bytes (a6 tm s) (qk mem (D z) (a6 tm x))
 |.se sz d x=>wh mem sz (a6 tm d) (qk mem sz (a6 tm x))
 |.sg z x=>xO mem z (a6 tm x)
 |op=>ja (kN tm op)
inductive gY where
 |same (r:Data)
 |own (sz:Nat) (es:List (List Data))
 |rel (cg:R->Mem->Prop)
 |e3 (r:Data) (k:Key) (g i:Nat) (c:R)
 |y9 (r:Data) (k:Key)
abbrev bh:=FuncId->List R->Mem->Option gY
def h8 (mem:Mem):Option (Key×Nat×List R)->Mem
 |none=>mem
 |some (k,g,cs)=>aZ mem k g cs
def q7 (mem:Mem)(k:Key):List R:=match mem k with
 |some (_,cs)=>cs
 |none=>[]
def uM (T:bh)(K:bd->Prop)(st:bd)(dst:Option Nat)(f:FuncId)(args:List R):Prop :=
 match T f args st.mem with
 |some (.same r)=>K ⟨put st.tm dst (.J r),st.mem⟩
 |some (.own _ es)=>K ⟨put st.tm dst (.J (.Y es)),st.mem⟩
 |some (.rel cg)=>∀r mem',cg r mem'->K ⟨put st.tm dst r,mem'⟩
 |some (.e3 r k g i c)=>K ⟨put st.tm dst (.J r),aZ st.mem k g ((q7 st.mem k).set i c)⟩
 |some (.y9 r k)=>K ⟨put st.tm dst (.J r),aZ st.mem k (bU st.mem k) []⟩
 |none=>False
def C1:R->Option Bool
 |.J (.Y es)=>some (!es.isEmpty)
 |.nil=>some false
 |.ref _ _ _ _ len=>some (decide (0<len))
 |_=>none
def gx (T:bh)(K:bd->Prop)(i:c9)(st:bd):Prop :=
 match i.op with
 |.call f args=>uM T K st i.dst f (args.map (a6 st.tm))
 |.ov k sz f args=>match T f (args.map (a6 st.tm)) st.mem with
  |some (.own et es)=>if et=sz then K ⟨put st.tm i.dst (.ref k (bU st.mem k) sz 0 (D es)),aZ st.mem k (bU st.mem k) (es.flatten.map .J)⟩ else False
  |_=>False
 |.jD f args=>match a6 st.tm f with
  |.fy g eO=>uM T K st i.dst g (args.map (a6 st.tm)++eO)
  |.J (.fn g ds)=>uM T K st i.dst g (args.map (a6 st.tm)++ds.map .J)
  |_=>False
 |.q4 neg x=>match C1 (a6 st.tm x) with
  |some full=>∀b:Bool,(full=true->b=false)->K ⟨put st.tm i.dst (.J (.bool (neg != b))),st.mem⟩
  |none=>False
 |op=>match cr st.mem st.tm op with
  |some (m,e)=>K ⟨put st.tm i.dst m,h8 st.mem e⟩
  |none=>False
def o1 (tm:Nat->R):Option (Nat×Bool)->Option Bool
 |none=>some true
 |some (s,b)=>match tm s with
  |.J (.bool t)=>some (t==b)
  |.no=>some false
  |_=>none
def xP (T:bh)(K:bd->Prop):List c9->bd->Prop
 | [],st=>K st
 |i::r,st=>match o1 st.tm i.g with
  |none=>False
  |some g=>if g=true then gx T (xP T K r) i st else xP T K r ⟨put st.tm i.dst .no,st.mem⟩
def keyOf:R->List Key
 |.ref k ..=>[k]
 |.ptr k ..=>[k]
 |_=>[]
inductive m9 where
 |hn (k:Key)
 |rd (k:Key) (a b:Nat)
 |wr (k:Key) (i:Nat)
def m9.key:m9->Key
 |.hn k=>k
 |.rd k _ _=>k
 |.wr k _=>k
def q8:m9->m9->Bool
 |.hn k,.hn k' => !(k==k')
 |.hn k,.rd k' _ _ => !(k==k')
 |.rd k _ _,.hn k' => !(k==k')
 |.rd _ _ _,.rd _ _ _=>true
 |.rd k a b,.wr k' i => !(k==k')||(decide (i<a)||decide (b<=i))
 |.wr k' i,.rd k a b => !(k==k')||(decide (i<a)||decide (b<=i))
 |.wr _ _,.wr _ _=>false
 |.hn _,.wr _ _=>false
 |.wr _ _,.hn _=>false
def Fk (n:Nat):R->List m9
 |.ref k ..=>[.hn k]
 |.ptr k _ off=>[.rd k off (off+n)]
 |_=>[]
def Jw (cy:Nat):List R->List m9
 |.ptr k _ off::_=>[.wr k (off+cy)]
 |_=>[]
def wi:Option R->List m9
 |some (.ref k ..)=>[.hn k]
 |_=>[]
def dG (tm:Nat->R):ka->List m9
 |.load n _ x=>Fk n (a6 tm x)
 |.tb _ _ x _ _ _=>(keyOf (a6 tm x)).map .hn
 |.store _ x _=>(keyOf (a6 tm x)).map .hn
 |.alloc k _=>[.hn k]
 |.box k _=>[.hn k]
 |.fc k true _ _ _ _=>[.hn k]
 |.mc k _ _ _ _=>[.hn k]
 |.ov k _ _ _=>[.hn k]
 |.app k _ _ s x => .hn k::((keyOf (a6 tm s)).map .hn++(keyOf (a6 tm x)).map .hn)
 |.se _ d x=>(keyOf (a6 tm d)).map .hn++(keyOf (a6 tm x)).map .hn
 |.me cy _ args=>Jw cy (args.map (a6 tm))
 |.tc j _ args=>wi (args.map (a6 tm))[j]?
 |.sf j _ args=>wi (args.map (a6 tm))[j]?
 |.sg _ x=>(keyOf (a6 tm x)).map .hn
 |_=>[]
def jF:ka->Bool
 |.store ..=>true
 |.alloc ..=>true
 |.box ..=>true
 |.fc _ true _ _ _ _=>true
 |.mc ..=>true
 |.ov ..=>true
 |.app ..=>true
 |.se ..=>true
 |.me ..=>true
 |.tc ..=>true
 |.sf ..=>true
 |.sg ..=>true
 |_=>false
def shut:R->R
 |.J d => .J d
 |.nil => .nil
 |.fy f [] => .fy f []
 |.agg cs=>match cs.mapM uL with
  |some ds => .J (.agg ds)
  |none => .undef
 |_ => .undef
def Fl (cy:Nat)(mem:Mem):List R->Option gY->Option (R×Option (Key×Nat×List R))
 |.ptr k _ off::_,some (.e3 r k' c6 i c)=>match mem k with
  |some (g,cs)=>if k'=k/\c6=g/\i=off+cy then some (.J r,some (k,g,cs.set i c)) else none
  |none=>none
 |_,_=>none
def SK (cs:List R):Option (List Data):=cs.mapM uL
def Jx (sz off len:Nat)(cs:List R):Option Data:=match cut cs off (len*sz) with
 |some part=>(SK part).map λds => .Y (chunk sz len ds)
 |none=>none
def Np:Option gY->Option Data
 |some (.same r)=>some r
 |some (.own _ es)=>some (.Y es)
 |_=>none
def SM (T:bh)(j:Nat)(f:FuncId)(ms:List R)(k:Key)(g sz off len:Nat):Option (Nat×List R)->Option (R×Option (Key×Nat×List R))
 |some (c6,cs)=>if c6=g then (match Jx sz off len cs with
  |some d=>(match Np (T f (ms.set j (.J d)) emp) with
   |some r=>some (.J r,some (k,c6+1,[]))
   |none=>none)
  |none=>none) else none
 |none=>none
def Jy (T:bh)(mem:Mem)(j:Nat)(f:FuncId)(ms:List R):Option R->Option (R×Option (Key×Nat×List R))
 |some (.ref k g sz off len)=>SM T j f ms k g sz off len (mem k)
 |_=>none
def nM (cs:List R):Bool:=cs.all λm=>(uL m).isSome
def SN (T:bh)(j:Nat)(f:FuncId)(ms:List R)(k:Key)(g sz off len:Nat):Option (Nat×List R)->Option (R×Option (Key×Nat×List R))
 |some (c6,cs)=>if nM cs=true then (match T f (ms.set j (.ref k g sz off len)) (aZ emp k c6 cs) with
  |some (.y9 r k')=>if k'=k then some (.J r,some (k,c6+1,[])) else none
  |_=>none) else none
 |none=>none
def Jz (T:bh)(mem:Mem)(j:Nat)(f:FuncId)(ms:List R):Option R->Option (R×Option (Key×Nat×List R))
 |some (.ref k g sz off len)=>SN T j f ms k g sz off len (mem k)
 |_=>none
def ho (T:bh)(mem:Mem)(tm:Nat->R):ka->Option (R×Option (Key×Nat×List R))
 |.call f args=>match T f (args.map λx=>shut (a6 tm x)) emp with
  |some (.same r)=>some (.J r,none)
  |some (.own _ es)=>some (.J (.Y es),none)
  |_=>none
 |.ov k sz f args=>match T f (args.map λx=>shut (a6 tm x)) emp with
  |some (.own et es)=>if et=sz then some (.ref k (bU mem k) sz 0 (D es),some (k,bU mem k,es.flatten.map .J)) else none
  |_=>none
 |.jD ..=>none
 |.q4 ..=>none
 |.me cy f args=>Fl cy mem (args.map (a6 tm)) (T f (args.map (a6 tm)) mem)
 |.tc j f args=>Jy T mem j f (args.map λx=>shut (a6 tm x)) (args.map (a6 tm))[j]?
 |.sf j f args=>Jz T mem j f (args.map λx=>shut (a6 tm x)) (args.map (a6 tm))[j]?
 |op=>cr mem tm op
abbrev Rec:=Nat->Option (Bool×List m9)
def q9 (a b:Bool×List m9):Bool:=!(a.1||b.1)||a.2.all λx=>b.2.all λy=>q8 x y
def Fm (rec:Rec)(p:Bool×List m9)(c:List Nat):Bool:=c.all λi=>match rec i with
 |none=>true
 |some q=>q9 q p
def uN (rec:Rec)(n:Nat)(p:Bool×List m9):Rec:=λi=>if i=n then some p else rec i
def wj (T:bh)(K:bd->Prop):Nat->List c9->List (List Nat)->Rec->bd->Prop
 |_,[],_,_,st=>K st
 |n,i::r,cs,rec,st=>match o1 st.tm i.g with
  |none=>False
  |some g=>if g=true then (match ho T st.mem st.tm i.op with
    |some (m,e)=>Fm rec (jF i.op,dG st.tm i.op) (cs.headD [])=true/\wj T K (n+1) r cs.tail (uN rec n (jF i.op,dG st.tm i.op)) ⟨put st.tm i.dst m,h8 st.mem e⟩
    |none=>False) else wj T K (n+1) r cs.tail rec ⟨put st.tm i.dst .no,st.mem⟩
inductive eX where
 |normal
 |exit (id:Nat)
 |ret
def cz:Nat->Mem->R->Option Data
 |_,_,.J d=>some d
 |_,_,.nil=>some (.Y [])
 |0,_,_=>none
 |n+1,mem,.ref k g sz off len=>match mem k with
  |some (c6,cs)=>if c6=g then (match cut cs off (len*sz) with
   |some part=>(part.mapM (cz n mem)).map λds => .Y (chunk sz len ds)
   |none=>none) else none
  |none=>none
 |n+1,mem,.ptr k g off=>match mem k with
  |some (c6,cs)=>if c6=g/\off<=(D cs) then ((cs.drop off).mapM (cz n mem)).map .ptr else none
  |none=>none
 |n+1,mem,.fy f cs=>(cs.mapM (cz n mem)).map (.fn f)
 |n+1,mem,.agg cs=>(cs.mapM (cz n mem)).map .agg
 |n+1,mem,.cI cs=>(cs.mapM (cz n mem)).map .cI
 |_,_,.no=>none
 |_,_,.undef=>none
def kill (mem:Mem)(k:Key):Mem:=aZ mem k (bU mem k) []
inductive si (mem:Mem):Mem->Prop
 |Nq (fP gZ:Nat) (gE:List R) (i k g sz off len:Nat) (cs:List R) (k':Nat) (F:mem fP=some (gZ,gE)) (I:gE[i]?=some (.ref k g sz off len)) (af:mem k=some (g,cs)) (aM:k≠fP) (bk:k'≠k) (bI:k'≠fP) :
   si mem (aZ (aZ (aZ mem k (bU mem k) []) k' (bU mem k') cs) fP gZ (gE.set i (.ref k' (bU mem k') sz off len)))
 |acy (fP gZ:Nat) (gE:List R) (i k g off:Nat) (cs:List R) (k':Nat) (F:mem fP=some (gZ,gE)) (I:gE[i]?=some (.ptr k g off)) (af:mem k=some (g,cs)) (aM:k≠fP) (bk:k'≠k) (bI:k'≠fP) :
   si mem (aZ (aZ (aZ mem k (bU mem k) []) k' (bU mem k') cs) fP gZ (gE.set i (.ptr k' (bU mem k') off)))
 |Nr (fP gZ:Nat) (gE:List R) (i k g sz off len:Nat) (cs:List R) (d:Data) (F:mem fP=some (gZ,gE)) (I:gE[i]?=some (.ref k g sz off len)) (af:mem k=some (g,cs)) (aM:k≠fP) (bk:cz 1 mem (.ref k g sz off len)=some d) :
   si mem (aZ (kill mem k) fP gZ (gE.set i (.J d)))
inductive td:Mem->Mem->Prop
 |refl (mem:Mem):td mem mem
 |step {mem JA acz:Mem} (h:si mem JA) (ct:td JA acz):td mem acz
def ld (K:bd->Prop)(st:bd):Ng->Prop
 |.ow s k sz=>match st.tm s with
  |.nil=>K ⟨e3 st.tm s (.ref k (bU st.mem k) sz 0 0),aZ st.mem k (bU st.mem k) []⟩
  |_=>False
 |.Nh x i k sz=>match a6 st.tm x with
  |.ptr kc g off=>match st.mem kc with
   |some (c6,cs)=>if c6=g then (match cs[off+i]? with
    |some .nil=>if k≠kc then K ⟨st.tm,aZ (aZ st.mem k (bU st.mem k) []) kc g (cs.set (off+i) (.ref k (bU st.mem k) sz 0 0))⟩ else False
    |_=>False) else False
   |none=>False
  |_=>False
 |.freeze s=>match st.tm s with
  |.ref k g _ _ _=>match st.mem k with
   |some (c6,cs)=>if c6=g/\nM cs=true then (match cz 1 st.mem (st.tm s) with
    |some d=>K ⟨e3 st.tm s (.J d),kill st.mem k⟩
    |none=>False) else False
   |none=>False
  |_=>False
 |.Ni x i=>match a6 st.tm x with
  |.ptr kc gc off=>match st.mem kc with
   |some (JB,cc)=>if JB=gc then (match cc[off+i]? with
    |some (.ref k g sz o len)=>match st.mem k with
     |some (c6,cs)=>if c6=g/\nM cs=true/\k≠kc then (match cz 1 st.mem (.ref k g sz o len) with
      |some d=>K ⟨st.tm,aZ (kill st.mem k) kc gc (cc.set (off+i) (.J d))⟩
      |none=>False) else False
     |none=>False
    |_=>False) else False
   |none=>False
  |_=>False
 |.move=>K st\/(∃fP gZ gE i k g sz off len cs k',st.mem fP=some (gZ,gE)/\gE[i]?=some (.ref k g sz off len)/\st.mem k=some (g,cs)/\k≠fP/\k'≠k/\k'≠fP /\
   K ⟨st.tm,aZ (aZ (aZ st.mem k (bU st.mem k) []) k' (bU st.mem k') cs) fP gZ (gE.set i (.ref k' (bU st.mem k') sz off len))⟩) \/
   ∃fP gZ gE i k g sz off len cs d,st.mem fP=some (gZ,gE)/\gE[i]?=some (.ref k g sz off len)/\st.mem k=some (g,cs)/\nM cs=true/\k≠fP/\cz 1 st.mem (.ref k g sz off len)=some d /\
   K ⟨st.tm,aZ (kill st.mem k) fP gZ (gE.set i (.J d))⟩
 |.many=>∃mem',td st.mem mem'/\K ⟨st.tm,mem'⟩
def wp (T:bh):eA->(eX->bd->Prop)->bd->Prop
 |.skip,K,st=>K .normal st
 |.ops l,K,st=>xP T (K .normal) l st
 |.nK l c,K,st=>wj T (K .normal) 0 l c (λ_=>none) st
 |.seq a b,K,st=>wp T a (λe dO=>match e with
  |.normal=>wp T b K dO
  |e=>K e dO) st
 |.cond c a b,K,st=>match a6 st.tm c with
  |.J (.bool t)=>if t=true then wp T a K st else wp T b K st
  |_=>False
 |.block id c,K,st=>wp T c (λe dO=>match e with
  |.exit j=>if j=id then K .normal dO else K (.exit j) dO
  |e=>K e dO) st
 |.loop c,K,st=>∃(C2:bd->Prop) (μ:bd->Nat),C2 st/\∀st,C2 st->wp T c (λe dO=>match e with
  |.normal=>C2 dO/\μ dO<μ st
  |e=>K e dO) st
 |.exit id,K,st=>K (.exit id) st
 |.ret,K,st=>K .ret st
 |.ghost g c,K,st=>ld (wp T c K) st g
def Fo (st:bd):ox->Option R
 |.t s=>some (st.tm s)
 |.cell s n dU=>qj st.mem n dU (st.tm s)
def pE (st:bd)(l:List ox):Option R :=
 match l.mapM (Fo st) with
 |some [m]=>some m
 |some ms=>some (.cI ms)
 |none=>none
def lf (args:List R):Nat->R:=λs=>match args[s]? with
 |some m=>m
 |none => .no
def JC:Value->Option R
 |.int k n=>some (.J (.int k n))
 |.bool b=>some (.J (.bool b))
 |.string s=>some (.J (.str s.data.toList))
 |.slice none 0 0=>some .nil
 |.pointer none=>some (.J .uI)
 |.nilFunc=>some (.J .uJ)
 |_=>none
def SO:Value->Option R
 |.agg cs=>(cs.toList.mapM JC).map .agg
 |v=>JC v
def dJ:Operand->Option bP
 |.tmp t=>some (.t t)
 |.const v=>(SO v).map .c
 |.func f=>some (.c (.fy f []))
 |.global _=>none
def zeroOf (P:Program)(t:TypeId):Option (List R):=((P.info? t).bind (·.zero)).bind λz=>z.cells.toList.mapM JC
def gl (P:Program)(t:TypeId):Option Nat:=(P.info? t).map (·.size)
def Fp (P:Program)(t:TypeId):Option Nat:=(P.info? t).map (·.bytes)
def za (P:Program)(t:TypeId):Option Bool:=(P.underlying t).map fun|.struct _=>true|.array _ _=>true|_=>false
def partsOf (place:Nat->Option (Nat×Nat))(l:List (Nat×Operand)):Option (List (Nat×Nat×bP)) :=
 l.mapM λ(i,x)=>do
  let (o,s) <-place i
  let y <-dJ x
  pure (o,s,y)
def uO (P:Program)(dK:Array Field)(i:Nat):Option (Nat×Nat):=do
 let f <-dK[i]?
 let s <-gl P f.type
 pure (f.offset,s)
def JD (P:Program)(t:TypeId):Option Nat :=
 match P.underlying t with
 |some .bool=>some 0
 |some (.int _)=>some 1
 |some .string=>some 2
 |_=>none
def Fq (P:Program):Nat->List Field->Option (List Nat)
 |_,[]=>some []
 | i, f :: r => if f.name ≠ "_" /\ f.offset = i then (match JD P f.type, Fq P (i + 1) r with
  |some k,some gP=>some (k::gP)
  |_,_=>none) else none
def wk (P:Program)(t:TypeId)(dK:Array Field)(neg:Bool)(x y:Operand):Option ka :=
 if P.stoodInHeld t=false/\P.eqGuardType P.depth t=false then (match Fq P 0 dK.toList,dJ x,dJ y with
  |some gP,some x,some y=>some (.eqs neg gP x y)
  |_,_,_=>none) else none
def SP:Operand->Bool
 |.const (.slice none 0 0)=>true
 |_=>false
def zb (P:Program)(op:BinOp)(t:TypeId)(x y:Operand):Option ka :=
 match P.underlying t with
 |some (.int _)=>match dJ x,dJ y with
  |some x,some y=>some (.bin op x y)
  |_,_=>none
 |some .string=>match dJ x,dJ y with
  |some x,some y=>some (.bin op x y)
  |_,_=>none
 |some .bool=>match op,dJ x,dJ y with
  |.eql,some x,some y=>some (.beq false x y)
  |.neq,some x,some y=>some (.beq true x y)
  |_,_,_=>none
 |some (.struct dK)=>match op with
  |.eql=>wk P t dK false x y
  |.neq=>wk P t dK true x y
  |_=>none
 |some (.slice _)=>if SP y=true then (match op with
  |.eql=>(dJ x).map (.q4 false)
  |.neq=>(dJ x).map (.q4 true)
  |_=>none) else none
 |_=>none
def te:Option Operand->Option (Option bP)
 |none=>some none
 |some x=>(dJ x).map some
def xQ (P:Program)(kb:Nat)(own:List Nat)(dst:Option Nat)(type:TypeId)(c:Call):Option ka :=
 match c.callee,c.args.toList,c.argTypes.toList with
 |.builtin .len,[x],[t]=>match P.underlying t with
  |some (.slice _)=>(dJ x).map .len
  |some .string=>(dJ x).map .lens
  |_=>none
 |.builtin .append,[s,x],[t,u]=>match P.underlying t,P.underlying u with
  |some (.slice e),some (.slice _)=>do
   let z <-zeroOf P e
   let b <-Fp P e
   let n <-gl P e
   let d <-dst
   let s <-dJ s
   let x <-dJ x
   if (D z)=n/\0<n/\t=u then pure (.app (kb+d) z b s x) else none
  |_,_=>none
 |.builtin .copy,[d,x],[t,u]=>match P.underlying t,P.underlying u with
  |some (.slice e),some (.slice _)=>do
   let n <-gl P e
   if 0<n then pure (.se n (<-dJ d) (<-dJ x)) else none
  |_,_=>none
 |.builtin .clear,[x],[t]=>match P.underlying t with
  |some (.slice e)=>do
   let z <-zeroOf P e
   let n <-gl P e
   if (D z)=n/\0<n then pure (.sg z (<-dJ x)) else none
  |_=>none
 |.builtin .max,[x,y],_=>do pure (.iJ true (<-dJ x) (<-dJ y))
 |.builtin .min,[x,y],_=>do pure (.iJ false (<-dJ x) (<-dJ y))
 |.value (.func f),l,_=>if dst.any (λd=>own.contains d) then (match P.underlying type with
   |some (.slice e)=>do pure (.ov (kb+(<-dst)) (<-gl P e) f (<-l.mapM dJ))
   |_=>none) else match own.find? (λo=>decide (1000000<=o)&&dst==some (o%1000000)) with
   |some o=>if 1000000000000<=o then do pure (.sf (o/1000000000000-1) f (<-l.mapM dJ)) else if 1000000000<=o then do pure (.tc (o/1000000000-1) f (<-l.mapM dJ)) else do pure (.me (o/1000000-1) f (<-l.mapM dJ))
   |none=>do pure (.call f (<-l.mapM dJ))
 |.value f,l,_=>do pure (.jD (<-dJ f) (<-l.mapM dJ))
 |_,_,_=>none
def jG (P:Program)(kb:Nat)(own:List Nat)(dst:Option Nat)(type:TypeId):Op->Option ka
 |.move x=>(dJ x).map .cQ
 |.assign x=>(dJ x).map .cQ
 |.pick c a b=>do pure (.pick (<-dJ c) (<-dJ a) (<-dJ b))
 |.alloc e=>do pure (.alloc (kb+(<-dst)) (<-zeroOf P e))
 |.box _ x=>do pure (.box (kb+(<-dst)) (<-dJ x))
 |.build t ps=>match P.underlying t with
  |some (.struct dK)=>if (dK.toList.all λf=>(gl P f.type).isSome)=true then do pure (.build (<-zeroOf P t) (<-partsOf (uO P dK) ps.toList)) else none
  |some (.array _ e)=>do
   let s <-gl P e
   pure (.build (<-zeroOf P t) (<-partsOf (λi=>some (i*s,s)) ps.toList))
  |_=>none
 |.buildSlice t len ps=>match P.underlying t with
  |some (.slice e)=>do
   let z <-zeroOf P e
   let s <-gl P e
   let ps <-partsOf (λi=>some (i*s,s)) ps.toList
   let d <-dst
   if (D z)=s/\0<s/\len*s<=16777216 then pure (.fc (kb+d) (own.contains d) ((dC len z).flatten) s len ps) else none
  |_=>none
 |.load t x=>do pure (.load (<-gl P t) (<-za P t) (<-dJ x))
 |.store t x v=>do pure (.store (<-gl P t) (<-dJ x) (<-dJ v))
 |.binOp op t x y _=>zb P op t x y
 |.unOp op _ x=>(dJ x).map (.un op)
 |.nilCheck x=>(dJ x).map .sd
 |.convert s t x=>match P.underlying s,P.underlying t with
  |some (.int _),some (.int k)=>(dJ x).map (.conv k)
  |_,_=>none
 |.makeFunc (.func f) fst eO=>if fst.size=0 then do pure (.pD f (<-eO.toList.mapM dJ)) else none
 |.makeSlice t l c=>match P.underlying t with
  |some (.slice e)=>do
   let z <-zeroOf P e
   let s <-gl P e
   let b <-Fp P e
   let d <-dst
   if (D z)=s/\0<s then pure (.mc (kb+d) z b (<-dJ l) (<-dJ c)) else none
  |_=>none
 |.slice t x cy M kd=>match P.underlying t with
  |some (.slice e)=>do
   let s <-gl P e
   if 0<s then pure (.ou s (<-dJ x) (<-te cy) (<-te M) (<-te kd)) else none
  |some (.array n e)=>do
   let s <-gl P e
   if 0<s/\n<=16777216 then pure (.tb n s (<-dJ x) (<-te cy) (<-te M) (<-te kd)) else none
  |some .string=>if kd.isNone then do pure (.C0 (<-dJ x) (<-te cy) (<-te M)) else none
  |_=>none
 |.fieldAddr t x f=>match P.underlying t with
  |some (.struct dK)=>do
   let (o,s) <-uO P dK f
   if 0<s then pure (.dQ o (<-dJ x)) else none
  |_=>none
 |.field t x f=>match P.underlying t with
  |some (.struct dK)=>do
   let fd <-dK[f]?
   let (o,s) <-uO P dK f
   pure (.CZ o s (<-za P fd.type) (<-dJ x))
  |_=>none
 |.indexAddr t x i=>match P.underlying t with
  |some (.slice e)=>do
   let s <-gl P e
   if 0<s then pure (.m8 s (<-dJ x) (<-dJ i)) else none
  |some (.array n e)=>do
   let s <-gl P e
   if 0<s then pure (.o0 n s (<-dJ x) (<-dJ i)) else none
  |_=>none
 |.index t x i=>match P.underlying t with
  |some .string=>do pure (.idxs (<-dJ x) (<-dJ i))
  |_=>none
 |.extract x i=>(dJ x).map (.ext i)
 |.call c=>xQ P kb own dst type c
 |_=>none
def JE (ops:Array Oper):Option (Nat×Bool)->Option (Option (Nat×Bool))
 |none=>some none
 |some (j,b)=>match (ops[j]?).bind (·.dst) with
  |some s=>some (some (s,b))
  |none=>none
def A8 (P:Program)(n kb:Nat)(own:List Nat)(ops:Array Oper)(o:Oper):Option c9 :=
 match JE ops o.guard with
 |some g=>if o.dst.all (λd=>decide (d<n))=true then some ⟨o.dst,g,(jG P kb own o.dst o.type o.op).getD .bad⟩ else none
 |_=>none
def sj (m:ka):Nat:=match m with
 |.load ..=>1
 |.tb ..=>1
 |m=>if jF m=true then 2 else 0
def zc (a b:Nat):Bool:=a==0||b==0||(a==1&&b==1)
def fo:bP->List Nat
 |.t s=>[s]
 |.c _=>[]
def xR:Option bP->List Nat
 |some (.t s)=>[s]
 |_=>[]
def sk:ka->List Nat
 |.cQ x=>fo x
 |.pick c a b=>fo c++fo a++fo b
 |.alloc _ _=>[]
 |.box _ x=>fo x
 |.build _ ps=>ps.flatMap λp=>fo p.2.2
 |.fc _ _ _ _ _ ps=>ps.flatMap λp=>fo p.2.2
 |.load _ _ x=>fo x
 |.store _ x v=>fo x++fo v
 |.bin _ x y=>fo x++fo y
 |.beq _ x y=>fo x++fo y
 |.eqs _ _ x y=>fo x++fo y
 |.q4 _ x=>fo x
 |.un _ x=>fo x
 |.conv _ x=>fo x
 |.sd x=>fo x
 |.mc _ _ _ x y=>fo x++fo y
 |.dQ _ x=>fo x
 |.CZ _ _ _ x=>fo x
 |.m8 _ x i=>fo x++fo i
 |.o0 _ _ x i=>fo x++fo i
 |.idxs x i=>fo x++fo i
 |.ou _ x a b c=>fo x++xR a++xR b++xR c
 |.tb _ _ x a b c=>fo x++xR a++xR b++xR c
 |.C0 x a b=>fo x++xR a++xR b
 |.ext _ x=>fo x
 |.len x=>fo x
 |.lens x=>fo x
 |.app _ _ _ s x=>fo s++fo x
 |.se _ s x=>fo s++fo x
 |.iJ _ x y=>fo x++fo y
 |.call _ l=>l.flatMap fo
 |.ov _ _ _ l=>l.flatMap fo
 |.jD f l=>fo f++l.flatMap fo
 |.me _ _ l=>l.flatMap fo
 |.tc _ _ l=>l.flatMap fo
 |.sf _ _ l=>l.flatMap fo
 |.sg _ x=>fo x
 |.pD _ l=>l.flatMap fo
 |.bad=>[]
def looks (i:c9):List Nat:=sk i.op++(match i.g with|some (s,_)=>[s]|none=>[])
def xS (x y:c9):Bool :=
 (
  match x.dst with
  |some d => !(looks y).contains d&&y.dst != some d
  |none=>true) &&
 (
  match y.dst with
  |some d => !(looks x).contains d
  |none=>true)
def ql:List Oper->List Nat->List Nat
 | [],acc=>acc
 |o::r,acc=>ql r (acc++[o.after.toList.foldl (λs e=>if Region.binds .any e=true then s ||| (2^e.on ||| acc.getD e.on 0) else s) 0])
def Fs:List c9->List c9->List Nat->Bool
 |_,[],_=>true
 |pre,c::cs,a::as=>(pre.zipIdx.all λ(p,i)=>a.testBit i||xS p c)&&Fs (pre++[c]) cs as
 |_,_::_,[]=>false
def Ft:Nat->List Oper->Bool
 |_,[]=>true
 |n,o::r=>(o.after.all λe => !Region.binds .any e||decide (e.on<n))&&Ft (n+1) r
def Fu (ops:Array Oper)(l:List c9):Bool:=Ft 0 ops.toList&&Fs [] l (ql ops.toList [])
def zd:List c9->List c9->List Nat->List (List Nat)
 |_,[],_=>[]
 |pre,c::cs,as=>((pre.zipIdx.filter λ(p,i) => !((as.headD 0).testBit i||zc (sj p.op) (sj c.op))).map (·.2))::zd (pre++[c]) cs as.tail
def qm (P:Program)(n kb:Nat)(own:List Nat):Code->Option eA
 |.skip=>some .skip
 |.region _ ops draw=>match ops.toList.mapM (A8 P n kb own ops) with
  |some l=>if draw=true then (if Fu ops l=true then some (.nK l (zd [] l (ql ops.toList []))) else none) else some (.ops l)
  |none=>none
 |.seq a b=>match qm P n kb own a,qm P n kb own b with
  |some x,some y=>some (.seq x y)
  |_,_=>none
 |.cond c a b=>match dJ c,qm P n kb own a,qm P n kb own b with
  |some c,some x,some y=>some (.cond c x y)
  |_,_,_=>none
 |.block id c=>(qm P n kb own c).map (.block id)
 |.loop c=>(qm P n kb own c).map .loop
 |.exit id=>some (.exit id)
 |.ret=>some .ret
 |_=>none
def Fv (P:Program):ResultVar->Option ox
 |.tmp t=>some (.t t)
 |.cell a t=>match gl P t,za P t with
  |some s,some g=>some (.cell a s g)
  |_,_=>none
def sl (P:Program)(kb:Nat)(own:List Nat)(f:Func):Option bT :=
 match f.body with
 |none=>none
 |some c=>match qm P f.ntmps kb own c,f.results.toList.mapM (Fv P) with
  |some b,some r=>some { n:=f.ntmps,anR:=f.params.size+f.nfree,res:=r,body:=b }
  |_,_=>none
structure eB (A:Nat->Prop) (w:World) (B:Lay) (aP:World) (bt:Lay) (mem':Mem):Prop where
 dV:fm A aP bt mem'
 mO:Trans A w B aP bt
 az:Fr (sc B) w aP
 fresh:∀b,sc bt b->sc B b\/w.heap.size<=b
theorem eB.still {A:Nat->Prop}{w aP:World}{B:Lay}{mem:Mem}(h:fm A w B mem)(f:Fr (λ_=>False) w aP):eB A w B aP B mem:=by
 have mO:Trans A w B aP B:=⟨f.size,λb ah bJ=>⟨f.block b ah id,λO=>bJ (.inl O)⟩,λ_ e he=>⟨e,he,.inl rfl⟩⟩;refine⟨⟨h.A2,h.inj,h.sep,λb ah=>CY (h.lt b ah) f.size,λk g cs hm=>?_⟩,mO,⟨f.os,f.tape,f.output,f.size,λb ah _=>f.block b ah id⟩,λb ah => .inl ah⟩;obtain⟨e,he,bc,aK,ah⟩:=h.dd k g cs hm;refine⟨e,he,bc,aK,λb jH=>?_⟩;obtain⟨vs,T,F,I,af,aM⟩:=ah b jH;have ay:b<w.heap.size:=(Array.getElem?_eq_some_iff.1 F).1;exact⟨vs,T,(f.block b ay id).trans F,I,af,λi m hm=>let ⟨v,hv,ab⟩:=aM i m hm;⟨v,hv,ab.q3 mO⟩⟩
theorem eB.refl {A:Nat->Prop}{w:World}{B:Lay}{mem:Mem}(h:fm A w B mem):eB A w B w B mem:=.still h (Fr.refl _ _)
def gm (B:Lay)(k:Key)(e:mb):Lay:=λj=>if j=k then some e else B j
theorem hd (B:Lay)(k:Key)(e:mb):gm B k e k=some e:=by simp[gm]
theorem g6 (B:Lay){k j:Key}(e:mb)(h:j≠k):gm B k e j=B j:=by simp[gm,h]
section
variable {A:Nat->Prop} {w aP:World} {B:Lay} {mem:Mem} {k:Key} {e':mb} {cs:List R}
theorem Trans.change (eW:w.heap.size<=aP.heap.size)
  (hold:∀b,b<w.heap.size->(∀e,B k=some e->e.dd≠some b)->aP.heap[b]?=w.heap[b]?)
  (bc:∀e,B k=some e->e'=e\/e.g<e'.g)
  (e7:∀b,e'.dd=some b->w.heap.size<=b\/∃e,B k=some e/\e.dd=some b):Trans A w B aP (gm B k e'):=by
 refine⟨eW,λb ah bJ=>⟨hold b ah λe he O=>bJ (.inl ⟨k,e,he,O⟩),?_⟩,λj e he=>?_⟩
 ·rintro⟨j,e,he,O⟩
  by_cases aj:j=k
  ·subst aj;rw[hd] at he
   cases he;rcases e7 b O with F|⟨e,F,I⟩
   ·omega
   ·exact bJ (.inl ⟨_,e,F,I⟩)
  ·rw[g6 B e' aj] at he;exact bJ (.inl ⟨j,e,he,O⟩)
 ·by_cases aj:j=k
  ·subst aj;exact⟨e',hd _ _ _,bc e he⟩
  ·exact⟨e,(g6 B e' aj).trans he,.inl rfl⟩
theorem Ns (e7:∀b,e'.dd=some b->w.heap.size<=b\/∃e,B k=some e/\e.dd=some b)(b:Nat)(h:sc (gm B k e') b):sc B b\/w.heap.size<=b:=by
 obtain⟨j,e,he,O⟩:=h
 by_cases aj:j=k
 ·subst aj;rw[hd] at he
  cases he;rcases e7 b O with F|⟨e,F,I⟩
  ·exact .inr F
  ·exact .inl ⟨_,e,F,I⟩
 ·rw[g6 B e' aj] at he;exact .inl ⟨j,e,he,O⟩
theorem fm.SQ (h:fm A w B mem)(eW:w.heap.size<=aP.heap.size)
  (hold:∀b,b<w.heap.size->(∀e,B k=some e->e.dd≠some b)->aP.heap[b]?=w.heap[b]?)
  (bc:∀e,B k=some e->e'=e\/e.g<e'.g)
  (e7:∀b,e'.dd=some b->w.heap.size<=b\/∃e,B k=some e/\e.dd=some b)
  (aK:e'.dd=none->cs=[])
  (G:∀b,e'.dd=some b->∃vs T,aP.heap[b]?=some (.cells vs T (0,0))/\vs.size=e'.size/\D cs<=vs.size /\
   ∀(i:Nat) (m:R),cs[i]?=some m->∃v,vs[i]?=some v/\bs aP (b7 A (gm B k e')) (gm B k e') m v):fm A aP (gm B k e') (aZ mem k e'.g cs):=by
 have mO:Trans A w B aP (gm B k e'):=Trans.change eW hold bc e7;have fresh:=Ns (w:=w) e7;refine⟨λj aj=>?_,λj lL e aC b he fq ah eQ=>?_,λb aN bJ=>?_,λb ah=>CY (h.lt b ah) eW,λj g na hm=>?_⟩
 ·by_cases dW:j=k
  ·subst dW;simp[aZ] at aj
  ·simp only[aZ,dW,if_false] at aj;rw[g6 B e' dW];exact h.A2 j aj
 ·by_cases dW:j=k<;>by_cases hjk':lL=k
  ·rw[dW,hjk']
  ·subst dW;rw[hd] at he
   cases he;rw[g6 B e' hjk'] at fq;rcases e7 b ah with F|⟨e,F,I⟩
   ·have:=h.xM ⟨lL,aC,fq,eQ⟩;omega
   ·exact h.inj _ _ e aC b F fq I eQ
  ·subst hjk';rw[hd] at fq
   cases fq;rw[g6 B e' dW] at he;rcases e7 b eQ with F|⟨bZ,F,I⟩
   ·have:=h.xM ⟨j,e,he,ah⟩;omega
   ·exact h.inj _ _ e bZ b he F ah I
  ·rw[g6 B e' dW] at he;rw[g6 B e' hjk'] at fq;exact h.inj j lL e aC b he fq ah eQ
 ·rcases fresh b bJ with F|F
  ·exact h.sep b aN F
  ·have:=h.lt b aN;omega
 ·by_cases dW:j=k
  ·subst dW;simp only[aZ,if_true,cj,fp] at hm;obtain⟨rfl,rfl⟩:=hm;refine⟨e',hd _ _ _,rfl,aK,λb ah=>?_⟩;obtain⟨vs,T,F,I,af,aM⟩:=G b ah;exact⟨vs,T,F,I,af,aM⟩
  ·simp only[aZ,dW,if_false] at hm;obtain⟨e,he,A9,anS,hX⟩:=h.dd j g na hm;refine⟨e,(g6 B e' dW).trans he,A9,anS,λb ah=>?_⟩;obtain⟨vs,T,F,I,af,aM⟩:=hX b ah;have ay:b<w.heap.size:=(Array.getElem?_eq_some_iff.1 F).1;have xT:aP.heap[b]?=w.heap[b]?:=hold b ay λbZ af aM=>dW (h.inj j k e bZ b he af ah aM);exact⟨vs,T,xT.trans F,I,af,λi m hm=>let ⟨v,hv,ab⟩:=aM i m hm;⟨v,hv,ab.q3 mO⟩⟩
theorem fm.change (h:fm A w B mem)(eW:w.heap.size<=aP.heap.size)
  (hold:∀b,b<w.heap.size->(∀e,B k=some e->e.dd≠some b)->aP.heap[b]?=w.heap[b]?)
  (bc:∀e,B k=some e->e'=e\/e.g<e'.g)
  (e7:∀b,e'.dd=some b->w.heap.size<=b\/∃e,B k=some e/\e.dd=some b)
  (aK:e'.dd=none->cs=[])
  (G:∀b,e'.dd=some b->∃vs T,aP.heap[b]?=some (.cells vs T (0,0))/\vs.size=e'.size/\D cs<=vs.size /\
   ∀(i:Nat) (m:R),cs[i]?=some m->∃v,vs[i]?=some v/\bs w (b7 A B) B m v):fm A aP (gm B k e') (aZ mem k e'.g cs) :=
 h.SQ eW hold bc e7 aK λb ah=>by
  have mO:Trans A w B aP (gm B k e'):=Trans.change eW hold bc e7;obtain⟨vs,T,F,I,af,aM⟩:=G b ah;exact⟨vs,T,F,I,af,λi m hm=>let ⟨v,hv,ab⟩:=aM i m hm;⟨v,hv,ab.q3 mO⟩⟩
theorem eB.change (h:fm A w B mem)(f:Fr (λb=>∃e,B k=some e/\e.dd=some b) w aP)
  (bc:∀e,B k=some e->e'=e\/e.g<e'.g)
  (e7:∀b,e'.dd=some b->w.heap.size<=b\/∃e,B k=some e/\e.dd=some b)
  (aK:e'.dd=none->cs=[])
  (G:∀b,e'.dd=some b->∃vs T,aP.heap[b]?=some (.cells vs T (0,0))/\vs.size=e'.size/\D cs<=vs.size /\
   ∀(i:Nat) (m:R),cs[i]?=some m->∃v,vs[i]?=some v/\bs w (b7 A B) B m v):eB A w B aP (gm B k e') (aZ mem k e'.g cs):=by
 have hold:∀b,b<w.heap.size->(∀e,B k=some e->e.dd≠some b)->aP.heap[b]?=w.heap[b]? :=
  λb ah O=>f.block b ah fun⟨e,he,jH⟩=>O e he jH
 exact⟨h.change f.size hold bc e7 aK G,Trans.change f.size hold bc e7,⟨f.os,f.tape,f.output,f.size,λb ah bJ=>f.block b ah fun⟨e,he,jH⟩=>bJ ⟨k,e,he,jH⟩⟩,Ns e7⟩
theorem C3 (h:fm A w B mem)(k:Key)(e:mb)(he:B k=some e):e.g<bU mem k:=by
 cases hm:mem k with
 |none=>rw[h.A2 k hm] at he;cases he
 |some x =>
  obtain⟨g,cs⟩:=x;obtain⟨aC,F,I,_⟩:=h.dd k g cs hm;rw[F] at he
  cases he;simp[bU,hm,I]
theorem eB.alloc (h:fm A w B mem)(w1:World)(f:Fr (λ_=>False) w w1)(aS:w1.heap.size=w.heap.size)(k:Key)(vs:Array Value)(T:TypeId)(aq:(D cs)<=vs.size)
  (G:∀(i:Nat) (m:R),cs[i]?=some m->∃v,vs[i]?=some v/\bs w (b7 A B) B m v) :
  eB A w B (w1.alloc (.cells vs T)) (gm B k ⟨bU mem k,some w.heap.size,vs.size⟩) (aZ mem k (bU mem k) cs):=by
 have f2:Fr (λ_=>False) w (w1.alloc (.cells vs T)):=f.alloc _;refine eB.change (e':=⟨bU mem k,some w.heap.size,vs.size⟩) h ⟨f2.os,f2.tape,f2.output,f2.size,λb ah _=>f2.block b ah id⟩ (λe he => .inr (C3 h k e he)) (λb ah => .inl ?_) (by simp) ?_
 ·simp at ah;omega
 ·intro b ah;simp at ah;subst ah;exact⟨vs,T,by rw[<-aS];exact heap_alloc_new w1 _,rfl,aq,G⟩
theorem eB.xU (h:fm A w B mem)(k:Key):eB A w B w (gm B k ⟨bU mem k,none,0⟩) (aZ mem k (bU mem k) []) :=
 eB.change (e':=⟨bU mem k,none,0⟩) h ⟨rfl,rfl,rfl,bW _,λ_ _ _=>rfl⟩ (λe he => .inr (C3 h k e he)) (λb ah=>by simp at ah) (λ_=>rfl) (λb ah=>by simp at ah)
end
theorem eB.trans {A:Nat->Prop}{w w1 m7:World}{B A1 CX:Lay}{dx cM:Mem}(h:eB A w B w1 A1 dx)(ct:eB A w1 A1 m7 CX cM):eB A w B m7 CX cM:=by
 refine⟨ct.dV,h.mO.trans ct.mO,⟨ct.az.os.trans h.az.os,ct.az.tape.trans h.az.tape,ct.az.output.trans h.az.output,eP h.az.size ct.az.size,λb ah bJ=>?_⟩,λb ah=>?_⟩
 ·have F:=h.az.block b ah bJ;refine (ct.az.block b (CY ah h.az.size) λO=>?_).trans F;rcases h.fresh b O with I|I
  ·exact bJ I
  ·omega
 ·rcases ct.fresh b ah with F|F
  ·exact h.fresh b F
  ·exact .inr (eP h.az.size F)
theorem SR {w:World}{aW:Nat->Prop}{B:Lay}{v:Value}{m:R}(h:JC v=some m):bs w aW B m v:=by
 unfold JC at h
 split at h<;>simp only[cj,reduceCtorEq] at h<;>subst h
 ·exact .J .int
 ·exact .J .bool
 ·rename_i s
  exact .J (by
   have:s=⟨s.data.toList.toArray⟩:=by simp
   rw[this]
   simpa using Den.str (s:=s.data.toList))
 ·exact .nil
 ·exact .J .uI
 ·exact .J .uJ
theorem oy {α β:Type}{f:α->Option β}:∀{l:List α} {r:List β},l.mapM f=some r->(D r)=D l/\∀(i:Nat) (x:α) (y:β),l[i]?=some x->r[i]?=some y->f x=some y
 | [],r,h=>by
  simp at h;subst h;exact⟨rfl,λi x y F=>by simp at F⟩
 |a::l,r,h=>by
  simp only[lg,g7,hf,eo,cj] at h;obtain⟨b,ah,Fw,ab,rfl⟩:=h;obtain⟨F,I⟩:=oy ab;refine⟨by simp[F],λi x y O ar=>?_⟩
  cases i with
  |zero=>simp at O ar;subst O;subst ar;exact ah
  |succ i=>exact I i x y (by simpa using O) (by simpa using ar)
theorem anT {w:World}{aW:Nat->Prop}{B:Lay}{v:Value}{m:R}(h:SO v=some m):bs w aW B m v:=by
 unfold SO at h
 split at h
 ·rename_i cs;simp only[dR] at h;obtain⟨ms,aR,rfl⟩:=h;obtain⟨F,I⟩:=oy aR;have:=bs.agg (w:=w) (aW:=aW) (B:=B) (cs:=ms) (vs:=cs.toList) (by simp[F]) λi d v aa hv=>SR (I i v d hv aa)
  simpa using this
 ·exact SR h
section
variable {P:Program} {w:World} {aW:Nat->Prop} {B:Lay}
theorem bs.xV {k:IntKind}{n:Int}{v:Value}(h:bs w aW B (.J (.int k n)) v):v=.int k n:=by
 cases h with
 |J h=>cases h;rfl
theorem bs.C4 {b:Bool}{v:Value}(h:bs w aW B (.J (.bool b)) v):v=.bool b:=by
 cases h with
 |J h=>cases h;rfl
theorem bs.C5 {s:List UInt8}{v:Value}(h:bs w aW B (.J (.str s)) v):v=.string ⟨s.toArray⟩:=by
 cases h with
 |J h=>cases h;rfl
theorem bs.ofInt {k:IntKind}{n:Int}:bs w aW B (.J (.int k n)) (.int k n):=.J .int
theorem anU {op:BinOp}{k:IntKind}{a b:Int}{d:Data}(t:TypeId)(U:Fg op=false)(h:Nj op k a b=some d):
  ∃v,(binOp op t (.int k a) (.int k b)).run P w=.ok v w/\Den w aW d v:=by
 cases op<;>simp only[Nj,cj,reduceCtorEq] at h<;>simp only[Fg,Bool.true_eq_false] at U
 case quo =>
  split at h
  ·cases h
  ·rename_i ah
   cases h;exact⟨_,by simp[go_sem,Op.intDiv,ah],.int⟩
 case rem =>
  split at h
  ·cases h
  ·rename_i ah
   cases h;exact⟨_,by simp[go_sem,Op.intDiv,ah],.int⟩
 all_goals
  subst h
  first
   |exact⟨_,by simp[go_sem,Op.intArith],.int⟩
   |exact⟨_,by simp[go_sem],.int⟩
   |exact⟨_,by simp[go_sem],.bool⟩
theorem anV {op:BinOp}{k k':IntKind}{a b:Int}{d:Data}(t:TypeId)(U:Fg op=true)(h:Nk op k a b=some d):
  ∃v,(binOp op t (.int k a) (.int k' b)).run P w=.ok v w/\Den w aW d v:=by
 unfold Nk at h
 split at h
 ·cases h
 ·rename_i ah
  cases op<;>simp only[Fg,kO] at U
  ·simp only[cj] at h;subst h;exact⟨.int k _,by simp[binOp,Op.shift,ah],.int⟩
  ·simp only[cj] at h;subst h;exact⟨.int k _,by simp[binOp,Op.shift,ah],.int⟩
theorem Nt {op:BinOp}{t:TypeId}{x y:Operand}{u v:Value}(F:u ≠ .nilIface)(I:∀c,u ≠ .agg c):eqGuard op t x y u v=pure ():=by
 unfold eqGuard
 cases op<;>cases u<;>first|rfl|exact absurd rfl F|exact absurd rfl (I _)
theorem anW {op:BinOp}{a b:List UInt8}{d:Data}(t:TypeId)(h:Nl op a b=some d):
  ∃v,(binOp op t (.string ⟨a.toArray⟩) (.string ⟨b.toArray⟩)).run P w=.ok v w/\Den w aW d v:=by
 have anX:binOp op t (.string ⟨a.toArray⟩) (.string ⟨b.toArray⟩)=Op.stringOp op ⟨a.toArray⟩ ⟨b.toArray⟩:=by
  cases op<;>rfl
 rw[anX]
 cases op<;>simp only[Nl,cj,reduceCtorEq] at h
 case add =>
  split at h
  ·rename_i aq
   cases h;refine⟨.string ⟨(a++b).toArray⟩,?_,.str⟩;have Nu:¬ (9223372036854775807<(D a:Int)+(D b:Int)):=by unfold maxLen at aq;omega
   have aA:(ByteArray.mk a.toArray).size=D a:=by simp[ByteArray.size]
   have aC:(ByteArray.mk b.toArray).size=D b:=by simp[ByteArray.size]
   have ze:(ByteArray.mk a.toArray)++(ByteArray.mk b.toArray)=⟨(a++b).toArray⟩:=by
    apply ByteArray.ext;simp
   simp[Op.stringOp,aA,aC,Nu,ze]
  ·cases h
 all_goals
  subst h;exact⟨_,by simp[Op.stringOp],.bool⟩
theorem acA {op:BinOp}{m n r:R}{u v:Value}(t:TypeId)(x y:Operand)(hm:bs w aW B m u)(aK:bs w aW B n v)(h:Jd op m n=some r):
  ∃z,((do eqGuard op t x y u v;binOp op t u v:Sem Value)).run P w=.ok z w/\bs w aW B r z:=by
 unfold Jd at h
 split at h
 ·rename_i k a k' b
  cases hm.xV
  cases aK.xV;rw[Nt (by simp) (by simp)]
  split at h
  ·rename_i U;simp only[dR] at h;obtain⟨d,aa,rfl⟩:=h;obtain⟨z,F,I⟩:=anV (P:=P) (w:=w) (aW:=aW) (k':=k') t U aa;exact⟨z,by simpa using F,.J I⟩
  ·rename_i U
   split at h
   ·rename_i Q;subst Q;simp only[dR] at h;obtain⟨d,aa,rfl⟩:=h;obtain⟨z,F,I⟩:=anU (P:=P) (w:=w) (aW:=aW) t (by simpa using U) aa;exact⟨z,by simpa using F,.J I⟩
   ·cases h
 ·rename_i a b
  cases hm.C5
  cases aK.C5;rw[Nt (by simp) (by simp)];simp only[dR] at h;obtain⟨d,aa,rfl⟩:=h;obtain⟨z,F,I⟩:=anW (P:=P) (w:=w) (aW:=aW) t aa;exact⟨z,by simpa using F,.J I⟩
 ·cases h
theorem acB {neg:Bool}{m n r:R}{u v:Value}(t:TypeId)(x y:Operand)(bD:P.underlying t=some .bool)(hm:bs w aW B m u)(aK:bs w aW B n v)(h:Je neg m n=some r):
  ∃z,((do eqGuard (if neg then .neq else .eql) t x y u v;binOp (if neg then .neq else .eql) t u v:Sem Value)).run P w=.ok z w/\bs w aW B r z:=by
 unfold Je at h
 split at h
 ·rename_i a b
  cases hm.C4
  cases aK.C4
  cases h;rw[Nt (by simp) (by simp)]
  cases neg
  ·exact⟨.bool (a==b),by simp[run_eql_bool w t a b bD],by cases a<;>cases b<;>exact .J .bool⟩
  ·exact⟨.bool (!(a==b)),by simp[run_neq_bool w t a b bD],by cases a<;>cases b<;>exact .J .bool⟩
 ·cases h
theorem anY {t:TypeId}{k:Nat}{m n:R}{c:Bool}{u v:Value}(d:Nat)(Q:JD P t=some k)(hm:bs w aW B m u)(aK:bs w aW B n v)(h:Nm k m n=some c):
  (Op.equalIn (d+1) t u v).run P w=.ok c w:=by
 unfold JD at Q;unfold Nm at h
 split at h
 ·simp only[cj] at h
  cases hm.C4
  cases aK.C4;subst h
  split at Q<;>first|(exfalso;simp at Q;done)|(rename_i hu;exact run_equalIn_bool w d t _ _ hu)
 ·split at h
  ·rename_i C6;subst C6
   cases hm.xV
   cases aK.xV
   cases h
   split at Q<;>first|(exfalso;simp at Q;done)|(rename_i hu;exact run_equalIn_int w d t _ _ _ _ hu)
  ·cases h
 ·simp only[cj] at h
  cases hm.C5
  cases aK.C5;subst h
  split at Q<;>first|(exfalso;simp at Q;done)|(rename_i hu;rw[run_equalIn_string w d t _ _ hu];simp)
 ·cases h
theorem anZ {t:TypeId}{k:Nat}(h:JD P t=some k):(isAgg t).run P w=.ok false w:=by
 unfold JD at h
 split at h<;>simp only[cj,reduceCtorEq] at h<;>(rename_i hu;simp[isAgg,run_underlying hu])
theorem acC {d:Nat}{xs ys:Array Value}{cs ds:List R}(O:∀(i:Nat) (m:R) (v:Value),cs[i]?=some m->xs[i]?=some v->bs w aW B m v)(tf:xs.size=D cs)
  (ar:∀(i:Nat) (m:R) (v:Value),ds[i]?=some m->ys[i]?=some v->bs w aW B m v) (zf:ys.size=D ds) :
  ∀(dK:List Field) (i:Nat) (gP:List Nat) (c:Bool),Fq P i dK=some gP->A5 gP (cs.drop i) (ds.drop i)=some c->(Op.eqFields (d+1) xs ys dK).run P w=.ok c w
 | [],i,gP,c,aF,G=>by
  simp[Fq] at aF;subst aF
  cases F:cs.drop i<;>cases I:ds.drop i<;>simp[F,I,A5] at G;subst G;simp[Op.eqFields]
 |f::r,i,gP,c,aF,G=>by
  simp only[Fq] at aF
  split at aF
  ·rename_i aK;obtain⟨tg,uP⟩:=aK
   split at aF
   ·rename_i k an0 Q zg
    cases aF
    cases F:cs.drop i with
    |nil=>simp[F,A5] at G
    |cons a x =>
     cases I:ds.drop i with
     |nil=>simp[F,I,A5] at G
     |cons b y =>
      rw[F,I] at G;simp only[A5] at G
      split at G
      ·rename_i aI c2 gQ uQ
       cases G
       have ra:i<D cs:=by
        rcases h9 i (D cs) with h|h
        ·exact h
        ·rw[kP h] at F;cases F
       have nN:i<D ds:=by
        rcases h9 i (D ds) with h|h
        ·exact h
        ·rw[kP h] at I;cases I
       rw[ia ra] at F;rw[ia nN] at I
       injection F with aN an1
       injection I with ah an2
       subst aN;subst ah;subst an1;subst an2
       have ex:xs[f.offset]?=some (xs[i]'(by omega)):=by rw[uP];exact Array.getElem?_eq_getElem (by omega)
       have SS:ys[f.offset]?=some (ys[i]'(by omega)):=by rw[uP];exact Array.getElem?_eq_getElem (by omega)
       have rx:=O i _ _ (bx ra) (Array.getElem?_eq_getElem (by omega:i<xs.size));have an3:=ar i _ _ (bx nN) (Array.getElem?_eq_getElem (by omega:i<ys.size));have he:=anY (P:=P) d Q rx an3 gQ;have ax:=acC (d:=d) O tf ar zf r (i+1) an0 c2 zg uQ;have an4:(isAgg f.type).run P w=.ok false w:=anZ Q;simp only[Op.eqFields,tg,ne_eq,not_false_eq_true,if_true,Sem.run_bind,part,an4,Result.andThen_ok,kO,if_false,ex,SS,Sem.run_pure,he]
       cases aI
       ·simp
       ·simp[ax]
      ·cases G
   ·cases aF
  ·cases aF
theorem acD {m:R}{v:Value}(h:bs w aW B m v)(F:m.one=true):v.oneCell'=true:=by
 cases h with
 |J aa=>cases aa<;>first|rfl|simp[R.one] at F
 |nil=>rfl
 |ref he bc hv=>obtain⟨a,cap,rfl,_⟩:=hv;rfl
 |ptr he bc hv=>obtain⟨b,rfl,_⟩:=hv;rfl
 |fy aq aa=>rfl
 |agg aq aa=>simp[R.one] at F
 |cI aq aa=>simp[R.one] at F
 |no=>simp[R.one] at F
 |undef=>simp[R.one] at F
theorem an5 {v:Value}(h:∀c,v ≠ .agg c):v.cells=#[v]:=by
 unfold Value.cells
 split
 ·rename_i cs;exact absurd rfl (h cs)
 ·rfl
theorem an6 {m:R}{v:Value}(h:bs w aW B m v)(hu:m ≠ .undef):v.cells.size=D m.cells/\∀(i:Nat) (c:R) (u:Value),m.cells[i]?=some c->v.cells[i]?=some u->bs w aW B c u:=by
 have one:(∀c,v ≠ .agg c)->m.cells=[m]->v.cells.size=D m.cells/\∀(i:Nat) (c:R) (u:Value),m.cells[i]?=some c->v.cells[i]?=some u->bs w aW B c u:=by
  intro hv hm;rw[hm,an5 hv];refine⟨rfl,λi c u G hu=>?_⟩
  cases i with
  |zero=>simp at G hu;subst G;subst hu;exact h
  |succ i=>simp at G
 cases h with
 |J aa =>
  cases aa with
  |agg aq aa =>
   refine⟨by simp[Value.cells,R.cells];exact aq,λi c u G hu=>?_⟩
   simp only[R.cells,bq,dR] at G;obtain⟨d,nb,rfl⟩:=G;exact .J (aa i d u nb (by simpa [Value.cells] using hu))
  |_=>exact one (by simp) rfl
 |nil=>exact one (by simp) rfl
 |ref he bc hv=>obtain⟨a,cap,rfl,_⟩:=hv;exact one (by simp) rfl
 |ptr he bc hv=>obtain⟨b,rfl,_⟩:=hv;exact one (by simp) rfl
 |fy aq aa=>exact one (by simp) rfl
 |agg aq aa =>
  refine⟨by simp[Value.cells,R.cells];exact aq,λi c u G hu=>aa i c u (by simpa [R.cells] using G) (by simpa [Value.cells] using hu)⟩
 |cI aq aa=>exact one (by simp) rfl
 |no=>exact one (by simp[undef]) rfl
 |undef=>exact absurd rfl hu
end
section
variable {P:Program} {w:World} {aW:Nat->Prop} {B:Lay}
def dp (w:World)(aW:Nat->Prop)(B:Lay)(cs:List R)(vs:List Value):Prop :=
 (D vs)=D cs/\∀(i:Nat) (m:R) (v:Value),cs[i]?=some m->vs[i]?=some v->bs w aW B m v
theorem dp.get {cs:List R}{vs:List Value}(h:dp w aW B cs vs){i:Nat}{m:R}(M:cs[i]?=some m):∃v,vs[i]?=some v/\bs w aW B m v:=by
 have aq:i<D cs:=(dz.1 M).1;have hv:vs[i]?=some (vs[i]'(by rw[h.1];exact aq)):=bx _;exact⟨_,hv,h.2 i m _ M hv⟩
theorem dp.nil:dp w aW B [] []:=⟨rfl,λi m v h=>by simp at h⟩
theorem dp.cons {m:R}{v:Value}{cs:List R}{vs:List Value}(h:bs w aW B m v)(ab:dp w aW B cs vs):dp w aW B (m::cs) (v::vs):=by
 refine⟨by simp[ab.1],λi m' C7 F I=>?_⟩
 cases i with
 |zero=>simp at F I;subst F;subst I;exact h
 |succ i=>exact ab.2 i m' C7 (by simpa using F) (by simpa using I)
theorem dp.append {a b:List R}{x y:List Value}(h:dp w aW B a x)(ct:dp w aW B b y):dp w aW B (a++b) (x++y):=by
 refine⟨by simp[h.1,ct.1],λi m v F I=>?_⟩
 rw[Fx] at F I
 split at F
 ·rename_i M;rw[ad (by rw[h.1];exact M)] at I;exact h.2 i m v F I
 ·rename_i M;rw[ae (by rw[h.1];exact M),h.1] at I;exact ct.2 _ m v F I
theorem dp.drop {a:List R}{x:List Value}(h:dp w aW B a x)(n:Nat):dp w aW B (a.drop n) (x.drop n) :=
 ⟨by simp[h.1],λi m v F I=>h.2 (n+i) m v (by simpa using F) (by simpa using I)⟩
theorem dp.take {a:List R}{x:List Value}(h:dp w aW B a x)(n:Nat):dp w aW B (a.take n) (x.take n):=by
 refine⟨by simp[h.1],λi m v F I=>?_⟩
 rw[uR] at F I
 split at F
 ·rename_i M;rw[ad M] at I;exact h.2 i m v F I
 ·cases F
theorem dp.kM {a b:List R}{x y:List Value}(h:dp w aW B a x)(ct:dp w aW B b y)(off:Nat):
  dp w aW B (kM a off b) (x.take off++y++x.drop (off+D y)):=by
 unfold Mini.kM;rw[ct.1];exact ((h.take off).append ct).append (h.drop _)
theorem dp.SU {m:R}{v:Value}(h:bs w aW B m v)(hu:m ≠ .undef):dp w aW B m.cells v.cells.toList:=by
 obtain⟨F,I⟩:=an6 h hu;exact⟨by simpa using F,λi c u G hv=>I i c u G (by simpa using hv)⟩
theorem dp.J {ds:List Data}{vs:List Value}(aq:(D vs)=D ds)(h:∀(i:Nat) (d:Data) (v:Value),ds[i]?=some d->vs[i]?=some v->Den w aW d v):dp w aW B (ds.map .J) vs:=by
 refine⟨by simp[aq],λi m v F I=>?_⟩
 simp only[bq,dR] at F;obtain⟨d,aa,rfl⟩:=F;exact .J (h i d v aa I)
theorem Fy {cs:List R}{off n:Nat}{r:List R}(h:cut cs off n=some r):off+n<=D cs/\r=(cs.drop off).take n/\D r=n:=by
 unfold cut at h
 split at h
 ·rename_i aq
  cases h;exact⟨aq,rfl,by simp;omega⟩
 ·cases h
def At (w:World)(b off:Nat)(vs:List Value):Prop:=∀(j:Nat) (u:Value),vs[j]?=some u->w.cell? ⟨b,off+j,none⟩=some u
theorem At.add {w:World}{b off:Nat}{vs:List Value}(h:At w b off vs)(n:Nat):At w b (off+n) (vs.drop n):=λj u aj=>by
 have:=h (n+j) u (by simpa using aj);rwa [<-qn] at this
theorem At.take {w:World}{b off:Nat}{vs:List Value}(h:At w b off vs)(n:Nat):At w b off (vs.take n):=λj u aj=>by
 rw[uR] at aj
 split at aj
 ·exact h j u aj
 ·cases aj
theorem At.row {w:World}{b:Nat}{vs:Array Value}{T:TypeId}{az:Nat×Nat}(h:w.heap[b]?=some (.cells vs T az)):At w b 0 vs.toList:=λj u aj=>by
 rw[kx,cell_of_row w b j vs T az h]
 simpa using aj
theorem zh (b off n:Nat):(⟨b,off,none⟩:Addr).add n=⟨b,off+n,none⟩:=by
 unfold Addr.add
 split<;>simp_all
theorem At.load {b off:Nat}{vs:List Value}(h:At w b off vs):(loadCells ⟨b,off,none⟩ (D vs)).run P w=.ok vs.toArray w :=
 run_loadCells_list w _ vs λj v aj=>by rw[zh];exact h j v aj
theorem uS {t:TypeId}{n:Nat}(h:gl P t=some n):(sizeOf t).run P w=.ok n w:=by
 simp only[gl,dR] at h;obtain⟨i,M,rfl⟩:=h;simp[sizeOf,typeInfo,M]
theorem Nv {t:TypeId}{g:Bool}(h:za P t=some g):(isAgg t).run P w=.ok g w:=by
 simp only[za,dR] at h;obtain⟨d,aa,rfl⟩:=h;simp only[isAgg,Sem.run_bind,run_underlying aa,Result.andThen_ok]
 cases d<;>rfl
theorem acE {t:TypeId}{n:Nat}{dU:Bool}{b off:Nat}{ms:List R}{vs:List Value}{r:R}(U:gl P t=some n)(aN:za P t=some dU)(aq:(D ms)=n)
  (bX:dp w aW B ms vs) (b8:At w b off vs) (h:q5 dU ms=some r):∃u,(loadVar t ⟨b,off,none⟩).run P w=.ok u w/\bs w aW B r u:=by
 unfold q5 at h
 split at h
 ·rename_i zi
  cases h;subst zi;refine⟨.agg vs.toArray,?_,.agg bX.1 bX.2⟩;have:=b8.load (P:=P);rw[bX.1,aq] at this;simp[loadVar,Nv aN,uS U,this]
 ·rename_i zi
  split at h
  ·cases h;obtain⟨u,hu,ab⟩:=bX.get (i:=0) (m:=r) rfl;have:=b8 0 u hu;have SV:dU=false:=by simpa using zi
   subst SV;exact⟨u,by simp[loadVar,Nv aN,this];simpa using by rw[show off=off+0 from rfl,this],ab⟩
  ·cases h
end
section
variable {P:Program} {A:Nat->Prop} {w:World} {B:Lay} {mem:Mem}
theorem fm.at_ (h:fm A w B mem){k:Key}{g:Nat}{cs:List R}(Q:mem k=some (g,cs)):
  ∃e,B k=some e/\e.g=g/\(e.dd=none->cs=[])/\∀b,e.dd=some b->∃(vs:Array Value) (T:TypeId),w.heap[b]?=some (.cells vs T (0,0))/\vs.size=e.size/\D cs<=vs.size /\
   dp w (b7 A B) B cs (vs.toList.take (D cs)):=by
 obtain⟨e,he,bc,aK,ah⟩:=h.dd k g cs Q;refine⟨e,he,bc,aK,λb jH=>?_⟩;obtain⟨vs,T,F,I,af,aM⟩:=ah b jH;refine⟨vs,T,F,I,af,by simp;omega,λi m v hm hv=>?_⟩
 obtain⟨u,hu,ab⟩:=aM i m hm;rw[uR] at hv
 split at hv
 ·rw[Array.getElem?_toList,hu] at hv
  cases hv;exact ab
 ·cases hv
theorem acF {n:Nat}{dU:Bool}{m r:R}{v:Value}(bS:fm A w B mem)(hv:bs w (b7 A B) B m v)(h:qj mem n dU m=some r):
  ∃b off ms vs,v=.pointer (some ⟨b,off,none⟩)/\D ms=n/\dp w (b7 A B) B ms vs/\At w b off vs/\q5 dU ms=some r:=by
 unfold qj at h
 split at h
 ·rename_i k g off
  split at h
  ·rename_i c6 cs Q
   split at h
   ·rename_i bc;subst bc;simp only[eo] at h;obtain⟨ms,aR,ab⟩:=h;obtain⟨aq,rfl,aK⟩:=Fy aR;obtain⟨e,he,b9,C8,ah⟩:=bS.at_ Q
    cases hv with
    |ptr gf A9 lh =>
     rw[he] at gf
     cases gf;obtain⟨b,rfl,jH⟩:=lh;have jH:=jH b9.symm;obtain⟨vs,T,aQ,aS,hle,bX⟩:=ah b jH;refine⟨b,off,_,((vs.toList.take (D cs)).drop off).take n,rfl,aK,(bX.drop off).take n,?_,ab⟩;have:=(((At.row aQ).take (D cs)).add off).take n
     simpa using this
   ·cases h
  ·cases h
 ·rename_i ds;simp only[eo] at h;obtain⟨ms,aR,ab⟩:=h;obtain⟨aq,rfl,aK⟩:=Fy aR
  cases hv with
  |J aa =>
   cases aa with
   | @ptr cs b off val ah fH G aa =>
    refine⟨b,off,_,((dP (D ds)).map val).take n,rfl,aK,?_,?_,ab⟩
    ·have:dp w (b7 A B) B (ds.map .J) ((dP (D ds)).map val):=dp.J (by simp) λi d v F I=>by
      have M:i<D ds:=(dz.1 F).1;simp[M] at I;subst I;exact aa i d F
     simpa using this.take n
    ·refine At.take (λj u aj=>?_) n;simp only[bq,dR] at aj;obtain⟨lL,pF,rfl⟩:=aj
     have F:lL=j/\j<D ds:=by
      rcases h9 j (D ds) with h|h
      ·rw[th h] at pF;exact⟨by simpa using pF.symm,h⟩
      ·rw[ke (by simpa using h)] at pF
       cases pF
     obtain⟨rfl,ib⟩:=F;exact G lL ib
 ·cases h
theorem an7 {t:TypeId}{n:Nat}{dU:Bool}{m r:R}{v:Value}(U:gl P t=some n)(aN:za P t=some dU)(bS:fm A w B mem)(hv:bs w (b7 A B) B m v)(h:qj mem n dU m=some r):
  ∃u,(Instr.loadAt t v).run P w=.ok u w/\bs w (b7 A B) B r u:=by
 obtain⟨b,off,ms,vs,rfl,aq,bX,b8,ab⟩:=acF bS hv h;obtain⟨u,F,I⟩:=acE (P:=P) U aN aq bX b8 ab;exact⟨u,by simpa [Instr.loadAt,Instr.sureAddr] using F,I⟩
end
section
variable {P:Program} {w:World} {aW:Nat->Prop} {B:Lay}
theorem acG {m:R}{cs:List R}{v:Value}(h:Jh m=some cs)(hv:bs w aW B m v):∃vs:List Value,v=.agg vs.toArray/\dp w aW B cs vs:=by
 unfold Jh at h
 split at h
 ·cases h
  cases hv with
  |agg aq aa=>exact⟨_,rfl,aq,aa⟩
 ·cases h
  cases hv with
  |J aa =>
   cases aa with
   |agg aq aa=>exact⟨_,rfl,dp.J aq aa⟩
 ·cases h
theorem acH {neg:Bool}{gP:List Nat}{m n r:R}{u v:Value}(t:TypeId)(x y:Operand)(dK:Array Field)(hu:P.underlying t=some (.struct dK))(U:P.stoodInHeld t=false)
  (bc:P.eqGuardType P.depth t=false) (Q:Fq P 0 dK.toList=some gP) (hm:bs w aW B m u) (aK:bs w aW B n v) (h:Ji neg gP m n=some r) :
  ∃z,((do eqGuard (if neg then .neq else .eql) t x y u v;binOp (if neg then .neq else .eql) t u v:Sem Value)).run P w=.ok z w/\bs w aW B r z:=by
 unfold Ji at h
 split at h
 ·rename_i cs ds jI g0
  split at h
  ·rename_i c G
   cases h;obtain⟨xs,rfl,O⟩:=acG jI hm;obtain⟨ys,rfl,ar⟩:=acG g0 aK;have uT:P.fieldsOf t=dK:=by simp[Program.fieldsOf,hu]
   have he:=run_equalIn_struct (P:=P) w 9999 t xs.toArray ys.toArray (by rw[uT];exact hu) U;rw[uT] at he
   have aF:=acC (P:=P) (w:=w) (aW:=aW) (B:=B) (d:=9998) (xs:=xs.toArray) (ys:=ys.toArray) (cs:=cs) (ds:=ds)
    (λi m v F I=>O.2 i m v F (by simpa using I)) (by simpa using O.1) (λi m v F I=>ar.2 i m v F (by simpa using I)) (by simpa using ar.1) dK.toList 0 gP c Q (by simpa using G)
   have heq:(Op.equal t (.agg xs.toArray) (.agg ys.toArray)).run P w=.ok c w:=by
    show (Op.equalIn (9999+1) t _ _).run P w=_;rw[he];exact aF
   have wm:∀op,(op=BinOp.eql\/op=.neq)->(eqGuard op t x y (.agg xs.toArray) (.agg ys.toArray)).run P w=.ok () w:=by
    intro op mP;rcases mP with rfl|rfl<;>simp[eqGuard,bc]
   refine⟨.bool (neg != c),?_,.J .bool⟩
   cases neg
   ·simp only[kO,if_false,Sem.run_bind,wm _ (.inl rfl),Result.andThen_ok];show (do pure (Value.bool (<-Op.equal t (.agg xs.toArray) (.agg ys.toArray))):Sem Value).run P w=_
    simp[heq]
   ·simp only[if_true,Sem.run_bind,wm _ (.inr rfl),Result.andThen_ok];show (do pure (Value.bool (!(<-Op.equal t (.agg xs.toArray) (.agg ys.toArray)))):Sem Value).run P w=_
    simp[heq]
  ·cases h
 ·cases h
theorem an8 {c a b r:R}{acI uU sm:Value}(G:bs w aW B c acI)(aN:bs w aW B a uU)(ah:bs w aW B b sm)(h:Fh c a b=some r):
  ∃z,(do pure (if <-asBool acI then uU else sm):Sem Value).run P w=.ok z w/\bs w aW B r z:=by
 unfold Fh at h
 split at h
 ·rename_i t
  cases G.C4
  cases t
  ·cases h;exact⟨sm,by simp[asBool],ah⟩
  ·cases h;exact⟨uU,by simp[asBool],aN⟩
 ·cases h
theorem an9 {op:UnOp}{m r:R}{v:Value}(hm:bs w aW B m v)(h:Jf op m=some r):∃z,(Op.unary op v).run P w=.ok z w/\bs w aW B r z:=by
 unfold Jf at h
 split at h
 ·cases h;cases hm.xV;exact⟨_,by simp[Op.unary,Op.intArith],.J .int⟩
 ·cases h;cases hm.xV;exact⟨_,by simp[Op.unary,go_sem],.J .int⟩
 ·cases h;cases hm.C4;exact⟨_,by simp[Op.unary],.J .bool⟩
 ·cases h
theorem aoa {k:IntKind}{m r:R}{v:Value}(s t:TypeId)(gP:IntKind)(U:P.underlying s=some (.int gP))(bD:P.underlying t=some (.int k))(hm:bs w aW B m v)(h:Jj k m=some r):
  ∃z,(convert s t v).run P w=.ok z w/\bs w aW B r z:=by
 unfold Jj at h
 split at h
 ·cases h
  cases hm.xV;have M:P.intKind t=k:=by simp[Program.intKind,bD]
  have:=run_convert_int (P:=P) w s t;exact⟨.int k _,by simp[convert,run_underlying U,run_underlying bD,Conv.intToInt],.J .int⟩
 ·cases h
theorem aob {off:Nat}{m r:R}{v:Value}(t:TypeId)(f:Nat)(dK:Array Field)(fd:Field)(s:Nat)(hu:P.underlying t=some (.struct dK))(aF:dK[f]?=some fd)(U:gl P fd.type=some s)(al:0<s)
  (bJ:fd.offset=off) (hm:bs w aW B m v) (h:Jl off m=some r):∃z,(Instr.fieldAt t v f).run P w=.ok z w/\bs w aW B r z:=by
 have bC:¬ s=0:=by omega
 have run:∀b o,(Instr.fieldAt t (.pointer (some ⟨b,o,none⟩)) f).run P w=.ok (.pointer (some ⟨b,o+off,none⟩)) w:=by
  intro b o;simp[Instr.fieldAt,run_underlying hu,aF,Instr.sureAddr,fieldPlace,uS U,bC,zh,bJ]
 unfold Jl at h
 split at h
 ·cases h;rename_i k g o
  cases hm with
  |ptr he bc hv =>
   obtain⟨b,rfl,ah⟩:=hv;exact⟨_,run b o,.ptr he bc ⟨b,rfl,ah⟩⟩
 ·rename_i ds
  split at h
  ·rename_i aq
   cases h
   cases hm with
   |J aa =>
    cases aa with
    | @ptr cs b o val ah fH G aa =>
     refine⟨_,run b o,.J (.ptr (λi=>val (off+i)) ah fH (λi M=>?_) λi d kQ=>aa _ d (by simpa using kQ))⟩;have:=G (off+i) (by simp at M;omega);rwa [<-qn] at this
  ·cases h
 ·cases h
theorem aoc {t:TypeId}{n off:Nat}{dU:Bool}{cs ms:List R}{vs:List Value}{r:R}(U:gl P t=some n)(aN:za P t=some dU)(bX:dp w aW B cs vs)(G:cut cs off n=some ms)(h:q5 dU ms=some r):
  ∃u,(part t vs.toArray off).run P w=.ok u w/\bs w aW B r u:=by
 obtain⟨aq,rfl,aK⟩:=Fy G;have bG:=(bX.drop off).take n;unfold q5 at h
 split at h
 ·rename_i zi
  cases h;subst zi;refine⟨.agg ((vs.drop off).take n).toArray,?_,.agg bG.1 bG.2⟩
  have e:vs.toArray.extract off (off+n)=((vs.drop off).take n).toArray:=by
   simp[List.extract_eq_take_drop]
  simp[part,Nv aN,uS U,e]
 ·rename_i zi;have SV:dU=false:=by simpa using zi
  subst SV
  split at h
  ·rename_i m aR
   cases h
   have M:cs[off]?=some r:=by
    have:=congrArg (λl=>l[0]?) aR;simp[uR] at this;exact this.2
   obtain⟨u,hu,aod⟩:=bX.get M;exact⟨u,by simp[part,Nv aN,hu],aod⟩
  ·cases h
theorem aoe {off n:Nat}{dU:Bool}{m r:R}{v:Value}(t:TypeId)(f:Nat)(dK:Array Field)(fd:Field)(hu:P.underlying t=some (.struct dK))(aF:dK[f]?=some fd)(U:gl P fd.type=some n)
  (aN:za P fd.type=some dU) (bJ:fd.offset=off) (hm:bs w aW B m v) (h:Jm off n dU m=some r):∃z,(Instr.field t v f).run P w=.ok z w/\bs w aW B r z:=by
 subst bJ
 have go:∀(cs:List R) (vs:List Value),dp w aW B cs vs->(cut cs fd.offset n).bind (q5 dU)=some r->∃z,(Instr.field t (.agg vs.toArray) f).run P w=.ok z w/\bs w aW B r z:=by
  intro cs vs bX aQ;simp only[eo] at aQ;obtain⟨ms,F,I⟩:=aQ;obtain⟨u,af,aM⟩:=aoc (P:=P) U aN bX F I;exact⟨u,by simp[Instr.field,run_underlying hu,aF,asAgg,af],aM⟩
 unfold Jm at h
 split at h
 ·cases hm with
  |agg aq aa=>exact go _ _ ⟨aq,aa⟩ h
 ·cases hm with
  |J aa =>
   cases aa with
   |agg aq aa=>exact go _ _ (dp.J aq aa) h
 ·cases h
theorem Fz {m:R}{n:Nat}{v:Value}(h:idx m=some n)(hv:bs w aW B m v):∃k,v=.int k (n:Int):=by
 unfold idx at h
 split at h
 ·rename_i k i
  split at h
  ·rename_i al
   cases h
   cases hv.xV;exact⟨k,by rw[Int.toNat_of_nonneg al]⟩
  ·cases h
 ·cases h
theorem Ff.at_ {e:mb}{g sz off len:Nat}{v:Value}(h:Ff e g sz off len v)(al:0<len):∃b cap,v=.slice (some ⟨b,off,none⟩) len cap/\len<=cap/\cap<=maxLen/\(g=e.g->e.dd=some b/\off+cap*sz<=e.size):=by
 obtain⟨a,cap,rfl,I,af,aM⟩:=h;rcases aM with aM|⟨b,rfl,bk⟩
 ·omega
 ·exact⟨b,cap,rfl,I,af,bk⟩
theorem aof {es:List (List Data)}{sz:Nat}(eW:∀e∈es,D e=sz):∀(n i:Nat) (e:List Data),es[n]?=some e->i<sz->es.flatten[n*sz+i]?=e[i]?:=by
 induction es with
 |nil=>intro n i e h;simp at h
 |cons a r ax =>
  intro n i e h M;have aN:=eW a (by simp)
  cases n with
  |zero =>
   simp at h;subst h;rw[jC,qo (by omega)];simp
  |succ n =>
   rw[jC,rb (by rw[aN,ti];omega)];have:=ax (λx O=>eW x (by simp[O])) n i e (by simpa using h) M;rw[<-this,aN]
   congr 1
   rw[ti];omega
theorem aog {sz n:Nat}{m r:R}{v:Value}{k:IntKind}(t e:TypeId)(hu:P.underlying t=some (.slice e))(U:gl P e=some sz)(hm:bs w aW B m v)(h:y8 sz n m=some r):
  ∃z,(Instr.indexAt t v (.int k (n:Int))).run P w=.ok z w/\bs w aW B r z:=by
 have run:∀b off len cap,n<len->(Instr.indexAt t (.slice (some ⟨b,off,none⟩) len cap) (.int k (n:Int))).run P w=.ok (.pointer (some ⟨b,off+n*sz,none⟩)) w:=by
  intro b off len cap ay;simp[Instr.indexAt,run_underlying hu,asIntOf,ay,uS U,zh]
 unfold y8 at h
 split at h
 ·split at h
  ·rename_i aq;obtain⟨ay,rfl⟩:=aq
   cases h
   cases hm with
   |ref he bc hv =>
    obtain⟨b,cap,rfl,F,I,af⟩:=hv.at_ (by omega);exact⟨_,run _ _ _ _ ay,.ptr he bc ⟨b,rfl,λh=>(af h).1⟩⟩
  ·cases h
 ·rename_i es
  split at h
  ·rename_i el kR
   split at h
   ·rename_i hle
    cases h
    cases hm with
    |J aa =>
     have ay:n<D es:=(dz.1 kR).1
     cases aa with
     |lK=>simp at ay
     | @Y es b off c et val aq acJ ah fH eW G aa =>
      have JF:et=sz:=by rw[<-hle];exact (eW _ (ep kR)).symm
      subst JF
      have hmul:n*et+et<=D es*et:=by
       have:(n+1)*et<=D es*et:=uV _ ay;rwa [qh,wg] at this
      refine⟨_,run _ _ _ _ ay,.J (.ptr (λi=>val (n*et+i)) ah fH (λi M=>?_) λi d kQ=>?_)⟩
      ·have:=G (n*et+i) (by omega);rwa [<-qn] at this
      ·refine aa _ d ?_;rw[aof eW n i el kR (by have:=(dz.1 kQ).1;omega)];exact kQ
   ·cases h
  ·cases h
 ·cases h
theorem aoh {len sz n:Nat}{m r:R}{v:Value}{k:IntKind}(t e:TypeId)(hu:P.underlying t=some (.array len e))(U:gl P e=some sz)(hm:bs w aW B m v)(h:Jn len sz n m=some r):
  ∃z,(Instr.indexAt t v (.int k (n:Int))).run P w=.ok z w/\bs w aW B r z:=by
 have run:∀b off,n<len->(Instr.indexAt t (.pointer (some ⟨b,off,none⟩)) (.int k (n:Int))).run P w=.ok (.pointer (some ⟨b,off+n*sz,none⟩)) w:=by
  intro b off ay;simp[Instr.indexAt,run_underlying hu,asIntOf,Instr.sureAddr,ay,uS U,zh]
 unfold Jn at h
 split at h
 ·split at h
  ·rename_i ay
   cases h
   cases hm with
   |ptr he bc hv =>
    obtain⟨b,rfl,ah⟩:=hv;exact⟨_,run _ _ ay,.ptr he bc ⟨b,rfl,ah⟩⟩
  ·cases h
 ·rename_i ds
  split at h
  ·rename_i aq;obtain⟨ay,hle⟩:=aq
   cases h
   cases hm with
   |J aa =>
    cases aa with
    | @ptr cs b o val ah fH G aa =>
     refine⟨_,run _ _ ay,.J (.ptr (λi=>val (n*sz+i)) ah fH (λi M=>?_) λi d kQ=>aa _ d (by simpa using kQ))⟩;have:=G (n*sz+i) (by simp at M;omega);rwa [<-qn] at this
  ·cases h
 ·cases h
theorem aoi {n:Nat}{m r:R}{v:Value}{k:IntKind}(t:TypeId)(hu:P.underlying t=some .string)(hm:bs w aW B m v)(h:Jo n m=some r):
  ∃z,(Instr.index t v (.int k (n:Int))).run P w=.ok z w/\bs w aW B r z:=by
 unfold Jo at h
 split at h
 ·rename_i s;simp only[dR] at h;obtain⟨b,ah,rfl⟩:=h
  cases hm.C5;have ay:n<D s:=(dz.1 ah).1
  have e:(ByteArray.mk s.toArray)[n]?=some b:=by
   rw[ByteArray.getElem?_lt' _ _ (by simpa [ByteArray.size] using ay)];have:=(dz.1 ah).2;simp only[cj];rw[<-this]
   rfl
  exact⟨.int .u8 b.toNat,by simp[Instr.index,run_underlying hu,asIntOf,e],.J .int⟩
 ·cases h
theorem aoj {i:Nat}{m r:R}{v:Value}(hm:bs w aW B m v)(h:Js i m=some r):∃z,(Instr.extract v i).run P w=.ok z w/\bs w aW B r z:=by
 unfold Js at h
 split at h
 ·cases hm with
  |cI aq aa =>
   obtain⟨u,hu,ab⟩:=dp.get ⟨aq,aa⟩ h;exact⟨u,by simp[Instr.extract,hu],ab⟩
 ·simp only[dR] at h;obtain⟨d,nb,rfl⟩:=h
  cases hm with
  |J aa =>
   cases aa with
   |cI aq aa =>
    obtain⟨u,hu,ab⟩:=dp.get (dp.J aq aa) (i:=i) (m:=.J d) (by simp[nb]);exact⟨u,by simp[Instr.extract,hu],ab⟩
 ·cases h
theorem aok {m:R}{n:Nat}{v:Value}(t ty e:TypeId)(bD:P.underlying t=some (.slice e))(hm:bs w aW B m v)(h:qi m=some n):
  (Builtin.len_ #[t] ty #[v]).run P w=.ok (.int .i64 n) w:=by
 have run:∀a c,(Builtin.len_ #[t] ty #[.slice a n c]).run P w=.ok (.int .i64 n) w:=λa c=>by
  simp[Builtin.len_,run_underlying bD,goInt]
 unfold qi at h
 split at h<;>cases h
 ·cases hm with
  |J aa =>
   cases aa with
   |lK=>exact run _ _
   |Y=>exact run _ _
 ·cases hm with
  |nil=>exact run _ _
 ·cases hm with
  |ref he bc hv=>obtain⟨a,cap,rfl,_⟩:=hv;exact run _ _
theorem aol {m:R}{n:Nat}{v:Value}(t ty:TypeId)(bD:P.underlying t=some .string)(hm:bs w aW B m v)(h:y7 m=some n):
  (Builtin.len_ #[t] ty #[v]).run P w=.ok (.int .i64 n) w:=by
 unfold y7 at h
 split at h<;>cases h
 rename_i s
 cases hm.C5;have e:(ByteArray.mk s.toArray).size=D s:=by simp[ByteArray.size]
 simp[Builtin.len_,run_underlying bD,goInt,e]
theorem acK {kd:Bool}{m n r:R}{u v:Value}(tj:Array TypeId)(t:TypeId)(hm:bs w aW B m u)(aK:bs w aW B n v)(h:Jt kd m n=some r):
  ∃z,(if kd=true then Builtin.max_ tj t #[u,v] else Builtin.min_ tj t #[u,v]).run P w=.ok z w/\bs w aW B r z:=by
 unfold Jt at h
 split at h
 ·split at h
  ·rename_i Q;subst Q
   cases h
   cases hm.xV
   cases aK.xV
   cases kd
   ·exact⟨_,by simp[run_min_int2],.J .int⟩
   ·exact⟨_,by simp[run_max_int2],.J .int⟩
  ·cases h
 ·cases h
theorem aom {m r:R}{v:Value}(hm:bs w aW B m v)(h:Jk m=some r):(∃b off,v=.pointer (some ⟨b,off,none⟩))/\bs w aW B r v:=by
 unfold Jk at h
 split at h
 ·cases h;refine⟨?_,hm⟩
  cases hm with
  |ptr he bc hv=>obtain⟨b,rfl,_⟩:=hv;exact⟨_,_,rfl⟩
 ·cases h;refine⟨?_,hm⟩
  cases hm with
  |J aa=>cases aa;exact⟨_,_,rfl⟩
 ·cases h
theorem FA {x:R}{n y:Nat}{v:Value}(code:BoundsCode)(O:idx x=some n)(hv:bs w aW B x v)(aK:n<=y):(Instr.sliceBound v y code).run P w=.ok n w:=by
 obtain⟨k,rfl⟩:=Fz O hv
 simpa using run_sliceBound (P:=P) w k (n:Int) y code (by omega) (by omega)
def re (w:World)(aW:Nat->Prop)(B:Lay):Option R->Option Value->Prop
 |none,none=>True
 |some m,some v=>bs w aW B m v
 |_,_=>False
theorem SW {len cap l h:Nat}{cy M:Option R}{kS kT:Option Value}(SX:Bool)(fQ:jE 0 cy=some l)(jb:jE len M=some h)
  (mQ:re w aW B cy kS) (lM:re w aW B M kT) (aq:l<=h) (aQ:h<=cap):(Instr.sliceBounds SX len cap kS kT none).run P w=.ok (l,h,cap) w:=by
 unfold Instr.sliceBounds
 cases cy with
 |none =>
  cases kS with
  |some v=>exact mQ.elim
  |none =>
   simp[jE] at fQ;subst fQ
   cases M with
   |none =>
    cases kT with
    |some v=>exact lM.elim
    |none=>simp[jE] at jb;subst jb;simp
   |some m =>
    cases kT with
    |none=>exact lM.elim
    |some v =>
     have aC:=λcode=>FA (P:=P) (y:=cap) code jb lM aQ
     cases SX<;>simp[aC]
 |some C9 =>
  cases kS with
  |none=>exact mQ.elim
  |some bg =>
   have aA:=λcode=>FA (P:=P) (y:=h) code fQ mQ aq
   cases M with
   |none =>
    cases kT with
    |some v=>exact lM.elim
    |none=>simp[jE] at jb;subst jb;simp[aA]
   |some m =>
    cases kT with
    |none=>exact lM.elim
    |some v =>
     have aC:=λcode=>FA (P:=P) (y:=cap) code jb lM aQ
     cases SX<;>simp[aA,aC]
theorem aon {len cap l h m:Nat}{cy:Option R}{M kd:R}{kS:Option Value}{kT zj:Value}(fQ:jE 0 cy=some l)(jb:idx M=some h)(hY:idx kd=some m)
  (mQ:re w aW B cy kS) (lM:bs w aW B M kT) (FB:bs w aW B kd zj) (aq:l<=h) (aQ:h<=m) (hm:m<=cap):(Instr.sliceBounds true len cap kS (some kT) (some zj)).run P w=.ok (l,h,m) w:=by
 have b0:=FA (P:=P) (y:=cap) .slice3Acap hY FB hm;have aC:=FA (P:=P) (y:=m) .slice3B jb lM aQ;unfold Instr.sliceBounds
 cases cy with
 |none =>
  cases kS with
  |some v=>exact mQ.elim
  |none =>
   simp[jE] at fQ;subst fQ;simp[b0,aC]
 |some C9 =>
  cases kS with
  |none=>exact mQ.elim
  |some bg =>
   have aA:=FA (P:=P) (y:=h) .slice3C fQ mQ aq;simp[b0,aC,aA]
theorem Nw {m:R}{n:Nat}{v:Value}(hm:bs w aW B m v)(h:qi m=some n):∃a c,v=.slice a n c/\n<=c:=by
 unfold qi at h
 split at h<;>cases h
 ·cases hm with
  |J aa =>
   cases aa with
   |lK=>exact⟨_,_,rfl,by simp⟩
   |Y val aq=>exact⟨_,_,rfl,aq⟩
 ·cases hm with
  |nil=>exact⟨_,_,rfl,by simp⟩
 ·cases hm with
  |ref he bc hv=>obtain⟨a,cap,rfl,F,_⟩:=hv;exact⟨_,_,rfl,F⟩
theorem acL {t e:TypeId}{sz l h iJ:Nat}{a:Option Addr}{len cap:Nat}{kS kT zj:Option Value}(bD:P.underlying t=some (.slice e))(U:gl P e=some sz)
  (ah:(Instr.sliceBounds true len cap kS kT zj).run P w=.ok (l,h,iJ) w) :
  (Instr.sliceAt t (.slice a len cap) kS kT zj).run P w=.ok (.slice (if iJ=l then a else a.map (·.add (l*sz))) (h-l) (iJ-l)) w:=by
 simp[Instr.sliceAt,Instr.slice,run_underlying bD,ah,uS U]
theorem aoo {es:List (List Data)}{sz:Nat}(eW:∀e∈es,D e=sz)(l:Nat):(es.drop l).flatten=es.flatten.drop (l*sz):=by
 induction es generalizing l with
 |nil=>simp
 |cons a r ax =>
  cases l with
  |zero=>simp
  |succ l =>
   have aN:=eW a (by simp);rw[List.drop_succ_cons,ax (λx O=>eW x (by simp[O])) l,jC,List.drop_append,aN];have F:a.drop ((l+1)*sz)=[]:=kP (by rw[aN,ti];omega);rw[F,List.nil_append]
   congr 1
   rw[ti];omega
theorem aop {es:List (List Data)}{sz:Nat}(eW:∀e∈es,D e=sz)(l:Nat):(es.take l).flatten=es.flatten.take (l*sz):=by
 induction es generalizing l with
 |nil=>simp
 |cons a r ax =>
  cases l with
  |zero=>simp
  |succ l =>
   have aN:=eW a (by simp);rw[List.take_succ_cons,jC,ax (λx O=>eW x (by simp[O])) l,jC,FC,aN];have F:a.take ((l+1)*sz)=a:=dt (by rw[aN,ti];omega);rw[F]
   congr 2
   rw[ti];omega
theorem acM {es:List (List Data)}{a:Option Addr}{len c sz l h cc:Nat}(aa:Den w aW (.Y es) (.slice a len c))(aq:l<=h)(aQ:h<=D es)(eW:0<(D es)->∀e∈es,D e=sz)(G:h-l<=cc):
  l=h\/Den w aW (.Y ((es.take h).drop l)) (.slice (a.map (·.add (l*sz))) (h-l) cc):=by
 rcases Nx aq with rfl|ay
 ·exact .inl rfl
 ·refine .inr ?_
  cases aa with
  |lK=>simp at aQ;omega
  | @Y es b off c et val Nu hm ah fH hsz' o2 Ba =>
   have hZ:0<D es:=by omega
   have JF:et=sz:=by
    have al:=nc (l:=es) (n:=0) hZ;rw[<-hsz' _ al,eW hZ _ al]
   subst JF;have hlen:((es.take h).drop l).length=h-l:=by simp;omega
   have hmul:l*et+(h-l)*et<=D es*et:=by
    rw[<-qh];exact uV _ (by omega)
   have:=Den.Y (w:=w) (aW:=aW) (es:=(es.take h).drop l) (b:=b) (off:=off+l*et) (c:=cc) (sz:=et) (λi=>val (l*et+i)) (by rw[hlen];exact G) (by rw[hlen];omega) ah fH
    (λe he=>hsz' e (FE (List.mem_of_mem_drop he)))
    (λi M=>by
     rw[hlen] at M;have:=o2 (l*et+i) (by omega);rwa [<-qn] at this)
    (λi d kQ=>by
     refine Ba _ d ?_;rw[aoo (λe he=>hsz' e (FE he)) l,aop hsz' h] at kQ;rw[kU,uR] at kQ
     split at kQ
     ·exact kQ
     ·cases kQ)
   rw[hlen] at this
   simpa [zh] using this
end
section
variable {P:Program} {w:World} {aW:Nat->Prop} {B:Lay}
theorem SY {sz:Nat}{es:List (List Data)}(h:nL sz es=true):∀e∈es,D e=sz:=λe he=>by
 simpa using jc.1 h e he
theorem aoq {t e:TypeId}{sz l h len:Nat}{m r:R}{v:Value}{kS kT:Option Value}{cy M:Option R}(bD:P.underlying t=some (.slice e))(U:gl P e=some sz)
  (fQ:jE 0 cy=some l) (hlen:qi m=some len) (jb:jE len M=some h) (mQ:re w aW B cy kS) (lM:re w aW B M kT) (hm:bs w aW B m v) (ab:Jp sz l h m=some r) :
  ∃z,(Instr.sliceAt t v kS kT none).run P w=.ok z w/\bs w aW B r z:=by
 obtain⟨a,cap,rfl,FF⟩:=Nw hm hlen
 have run:l<=h->h<=len->(Instr.sliceAt t (.slice a len cap) kS kT none).run P w=.ok (.slice (if cap=l then a else a.map (·.add (l*sz))) (h-l) (cap-l)) w:=λF I =>
  acL bD U (SW true fQ jb mQ lM F (by omega))
 unfold Jp at ab
 split at ab
 ·rename_i es
  split at ab
  ·rename_i G;obtain⟨F,I,af⟩:=G
   cases ab;simp only[qi,cj] at hlen;subst hlen;refine⟨_,run F I,.J ?_⟩
   cases hm with
   |J aa =>
    rcases acM (sz:=sz) aa F I (λ_=>SY af) (cc:=cap-l) (by omega) with rfl|aE
    ·rw[show ((es.take l).drop l)=[] from by simp]
     rw[mg];exact .lK
    ·rcases Nx F with rfl|ay
     ·rw[show ((es.take l).drop l)=[] from by simp]
      rw[mg];exact .lK
     ·rw[ae (by omega)];exact aE
  ·cases ab
 ·split at ab
  ·rename_i G;obtain⟨rfl,rfl⟩:=G
   cases ab
   cases hm with
   |nil=>exact⟨_,run (by omega) (by omega),by simpa using bs.nil⟩
  ·cases ab
 ·split at ab
  ·rename_i k g et off SZ G;obtain⟨rfl,F,I⟩:=G
   cases ab;simp only[qi,cj] at hlen;subst hlen
   cases hm with
   |ref he bc hv =>
    refine⟨_,run F I,.ref he bc ?_⟩;obtain⟨jJ,aGg,nO,nP,aGh,aor⟩:=hv
    injection nO with aA aC bZ
    subst aA;subst bZ
    refine⟨_,cap-l,rfl,by omega,by omega,?_⟩
    rcases kV (cap-l) with al|al
    ·exact .inl al
    ·refine .inr ?_;rcases aor with aM|⟨b,rfl,bk⟩
     ·omega
     ·refine⟨b,by rw[ae (by omega)];simp[zh],λb9=>?_⟩
      obtain⟨bI,bH⟩:=bk b9;refine⟨bI,?_⟩;rw[qn,<-qh];rwa [show l+(cap-l)=cap from by omega]
  ·cases ab
 ·cases ab
theorem aos {t e:TypeId}{sz l h iJ:Nat}{m r:R}{v:Value}{kS:Option Value}{kT zj:Value}{cy:Option R}{M kd:R}(bD:P.underlying t=some (.slice e))(U:gl P e=some sz)
  (fQ:jE 0 cy=some l) (jb:idx M=some h) (hY:idx kd=some iJ) (mQ:re w aW B cy kS) (lM:bs w aW B M kT) (FB:bs w aW B kd zj) (hm:bs w aW B m v) (ab:Jq sz l h iJ m=some r) :
  ∃z,(Instr.sliceAt t v kS (some kT) (some zj)).run P w=.ok z w/\bs w aW B r z:=by
 have run:∀a len cap,l<=h->h<=iJ->iJ<=len->len<=cap->(Instr.sliceAt t (.slice a len cap) kS (some kT) (some zj)).run P w=.ok (.slice (if iJ=l then a else a.map (·.add (l*sz))) (h-l) (iJ-l)) w :=
  λa len cap F I af aM=>acL bD U (aon fQ jb hY mQ lM FB F I (by omega))
 unfold Jq at ab
 split at ab
 ·rename_i es
  split at ab
  ·rename_i G;obtain⟨F,I,af,aM⟩:=G;obtain⟨a,cap,rfl,FF⟩:=Nw hm (n:=D es) rfl;refine⟨_,run a _ cap F I af FF,?_⟩
   split at ab
   ·rename_i mh
    cases ab;subst mh;have:h=iJ:=by omega
    subst this
    simpa using bs.nil
   ·rename_i mh
    cases ab;rw[ae mh]
    cases hm with
    |J aa =>
     refine .J ?_;rcases Nx F with rfl|ay
     ·rw[show ((es.take l).drop l)=[] from by simp]
      rw[mg];exact .lK
     ·rcases acM (sz:=sz) aa F (by omega) (λ_=>SY aM) (cc:=iJ-l) (by omega) with al|aE
      ·omega
      ·exact aE
  ·cases ab
 ·split at ab
  ·rename_i G;obtain⟨rfl,rfl,rfl⟩:=G
   cases ab;obtain⟨a,cap,rfl,FF⟩:=Nw hm (n:=0) rfl;exact⟨_,run a _ cap (by omega) (by omega) (by omega) FF,by simpa using bs.nil⟩
  ·cases ab
 ·rename_i k g et off len
  split at ab
  ·rename_i G;obtain⟨F,I,af,rfl⟩:=G
   cases ab;obtain⟨a,cap,rfl,FF⟩:=Nw hm (n:=len) rfl;have:h=iJ:=by omega
   subst this;exact⟨_,run a _ cap (by omega) (by omega) (by omega) FF,by simpa using bs.nil⟩
  ·cases ab
 ·cases ab
theorem aot {t:TypeId}{l h len:Nat}{m r:R}{v:Value}{kS kT:Option Value}{cy M:Option R}(bD:P.underlying t=some .string)
  (fQ:jE 0 cy=some l) (hlen:y7 m=some len) (jb:jE len M=some h) (mQ:re w aW B cy kS) (lM:re w aW B M kT) (hm:bs w aW B m v) (ab:Jr l h m=some r) :
  ∃z,(Instr.sliceAt t v kS kT none).run P w=.ok z w/\bs w aW B r z:=by
 unfold Jr at ab
 split at ab
 ·rename_i s
  split at ab
  ·rename_i G;obtain⟨F,I⟩:=G
   cases ab;simp only[y7,cj] at hlen;subst hlen
   cases hm.C5;have e:(ByteArray.mk s.toArray).size=D s:=by simp[ByteArray.size]
   have ah:=SW (P:=P) (w:=w) (aW:=aW) (B:=B) (cap:=D s) false fQ jb mQ lM F I
   have O:(ByteArray.mk s.toArray).extract l h=⟨((s.take h).drop l).toArray⟩:=by
    rw[ByteArray.extract_mk,acN]
   exact⟨.string ⟨((s.take h).drop l).toArray⟩,by simp[Instr.sliceAt,Instr.slice,run_underlying bD,e,ah,O],.J .str⟩
  ·cases ab
 ·cases ab
theorem acO (off:Nat):∀(l:List Value) (k:Nat) (cs:Array Value),off+k+D l<=cs.size ->
  (l.zipIdx k).foldl (λ(cs:Array Value) (p:Value×Nat)=>cs.setIfInBounds (off+p.2) p.1) cs=(cs.toList.take (off+k)++l++cs.toList.drop (off+k+D l)).toArray
 | [],k,cs,_=>by simp
 |a::l,k,cs,h=>by
  rw[List.zipIdx_cons,FG];have ct:off+k<cs.size:=by simp at h;omega
  rw[acO off l (k+1) (cs.setIfInBounds (off+k) a) (by simp at h ⊢;omega)];apply Array.ext';simp only[Array.toList_setIfInBounds];have:=list_seg_step cs.toList (off+k) a l (by simp at h ⊢;omega)
  simpa [qn] using this
theorem Ny {place:Nat->Option (Nat×Nat)}{ρ:Operand->Value}{tm:Nat->R}(hρ:∀x y,dJ x=some y->bs w aW B (a6 tm y) (ρ x)):
  ∀(ps:List (Nat×Operand)) (eC:List (Nat×Nat×bP)) (cs r:List R) (vs:Array Value),partsOf place ps=some eC->dp w aW B cs vs.toList->kv (a6 tm) cs eC=some r ->
   ∃oz:Array Value,Instr.fill place vs (ps.map λp=>(p.1,ρ p.2))=some oz/\dp w aW B r oz.toList
 | [],eC,cs,r,vs,aE,bX,h=>by
  simp[partsOf] at aE;subst aE;simp[kv] at h;subst h;exact⟨vs,rfl,bX⟩
 |(i,x)::ps,eC,cs,r,vs,aE,bX,h=>by
  simp only[partsOf,lg,g7,hf,eo,cj] at aE;obtain⟨q,aG,aou,Bb,rfl⟩:=aE;obtain⟨⟨o,s⟩,o3,y,ar,rfl⟩:=aG;simp only[kv] at h
  split at h
  ·rename_i G;obtain⟨al,F,I⟩:=G;have qp:=hρ x y ar;have aov:a6 tm y ≠ .undef:=λe=>by rw[e] at al;simp[R.known] at al
   ·have lj:=dp.SU qp aov;have eW:(ρ x).cells.size=s:=by have:=lj.1;simp at this;omega
    have Da:o+s<=vs.size:=by have:=bX.1;simp at this;omega
    have gF:=acO o (ρ x).cells.toList 0 vs (by simp[eW];exact Da);simp only[nQ,Array.length_toList] at gF;have S0:=bX.kM lj o;obtain⟨oz,aF,FH⟩:=Ny hρ ps aou _ r ((vs.toList.take o++(ρ x).cells.toList++vs.toList.drop (o+(ρ x).cells.size)).toArray) Bb (by simpa using S0) h;refine⟨oz,?_,FH⟩;simp only[List.map_cons,Instr.fill,o3];rw[ae (by simp[eW];omega)]
    have aS:(ρ x).cells.zipIdx.foldl (λcs (p:Value×Nat)=>cs.setIfInBounds (o+p.2) p.1) vs=(vs.toList.take o++(ρ x).cells.toList++vs.toList.drop (o+(ρ x).cells.size)).toArray:=by
     rw[<-Array.foldl_toList,Array.toList_zipIdx];exact gF
    rw[<-aF]
    congr 1
  ·cases h
end
section
variable {P:Program} {A:Nat->Prop} {w:World} {B:Lay} {mem:Mem}
theorem Db {aW:Nat->Prop}{t:TypeId}{z:List R}(h:zeroOf P t=some z):∃i iK,P.info? t=some i/\i.zero=some iK/\dp w aW B z iK.cells.toList:=by
 simp only[zeroOf,eo] at h;obtain⟨iK,⟨i,M,aS⟩,hm⟩:=h;obtain⟨F,I⟩:=oy hm;exact⟨i,iK,M,aS,by simp[F],λj m v aow JG=>SR (I j v m JG aow)⟩
theorem JH {t:TypeId}{i:TypeInfo}{iK:Value}(M:P.info? t=some i)(aS:i.zero=some iK):(zeroValue t).run P w=.ok iK w:=by
 simp[zeroValue,typeInfo,M,aS]
theorem acP {t:TypeId}{i:TypeInfo}{n:Nat}(M:P.info? t=some i)(U:gl P t=some n):i.size=n:=by
 simpa [gl,M] using U
theorem acQ {t:TypeId}{i:TypeInfo}{n:Nat}(M:P.info? t=some i)(U:Fp P t=some n):i.bytes=n:=by
 simpa [Fp,M] using U
theorem Nz {z:Array Value}(al:0<z.size):∀n,((Array.range (n*z.size)).map (z[·%z.size]!)).toList=(dC n z.toList).flatten
 |0=>by simp
 |n+1=>by
  have ax:=Nz al n;apply o4;intro i
  have aA:∀m i,((Array.range (m*z.size)).map (z[·%z.size]!)).toList[i]?=if i<m*z.size then some (z[i%z.size]!) else none:=by
   intro m i;rw[Array.getElem?_toList,Array.getElem?_map]
   by_cases M:i<m*z.size
   ·rw[ad M,Array.getElem?_range];simp[M]
   ·rw[ae M,Array.getElem?_range];simp[M]
  rw[aA,List.replicate_succ',List.flatten_append,Fx,<-ax];have el:((Array.range (n*z.size)).map (z[·%z.size]!)).toList.length=n*z.size:=by simp
  rw[el];have hmul:(n+1)*z.size=n*z.size+z.size:=by rw[qh,wg]
  by_cases M:i<n*z.size
  ·rw[ad M,ad (by omega),aA,ad M]
  ·rw[ae M]
   by_cases nN:i<(n+1)*z.size
   ·rw[ad nN];have ay:i-n*z.size<z.size:=by omega
    have S2:i%z.size=i-n*z.size:=by
     have e:i=(i-n*z.size)+z.size*n:=by have:=Nat.mul_comm n z.size;omega
     have aC:((i-n*z.size)+z.size*n)%z.size=i-n*z.size:=by rw[Nat.add_mul_mod_self_left,Nat.mod_eq_of_lt ay]
     rwa [<-e] at aC
    rw[S2];simp[ay]
   ·rw[ae nN]
    symm
    rw[ke];simp;omega
theorem dp.replicate {aW:Nat->Prop}{z:List R}{acR:List Value}(h:dp w aW B z acR):∀n,dp w aW B (dC n z).flatten (dC n acR).flatten
 |0=>by simpa using dp.nil
 |n+1=>by
  rw[pG,jC,pG,jC];exact h.append (dp.replicate h n)
theorem dp.q3 {cs:List R}{vs:List Value}{aP:World}{bt:Lay}(t:Trans A w B aP bt)(h:dp w (b7 A B) B cs vs):dp aP (b7 A bt) bt cs vs :=
 ⟨h.1,λi m v F I=>(h.2 i m v F I).q3 t⟩
theorem JI {cs:List R}(bS:fm A w B mem)(w1:World)(f:Fr (λ_=>False) w w1)(aS:w1.heap.size=w.heap.size)(k:Key)(vs:Array Value)(T:TypeId)(aq:(D cs)<=vs.size)
  (bX:dp w (b7 A B) B cs (vs.toList.take (D cs))):eB A w B (w1.alloc (.cells vs T)) (gm B k ⟨bU mem k,some w.heap.size,vs.size⟩) (aZ mem k (bU mem k) cs) :=
 eB.alloc bS w1 f aS k vs T aq λi m hm=>by
  obtain⟨v,hv,ab⟩:=bX.get hm;rw[uR] at hv
  split at hv
  ·exact⟨v,by simpa using hv,ab⟩
  ·cases hv
theorem aox {t:TypeId}{z:List R}(k:Key)(bS:fm A w B mem)(aS:zeroOf P t=some z):
  ∃v aP bt,(Instr.alloc t true (.tuple #[])).run P w=.ok v aP/\eB A w B aP bt (aZ mem k (bU mem k) z)/\bs aP (b7 A bt) bt (.ptr k (bU mem k) 0) v:=by
 obtain⟨i,iK,M,tk,bX⟩:=Db (P:=P) (w:=w) (B:=B) (aW:=b7 A B) aS;have aq:(D z)=iK.cells.size:=by have:=bX.1;simp at this;omega
 refine⟨.pointer (some ⟨w.heap.size,0,none⟩),w.alloc (.cells iK.cells t),_,?_,JI bS w (Fr.refl _ _) rfl k iK.cells t (by omega) (by rw[dt (by simp;omega)];exact bX),?_⟩
 ·simp[Instr.alloc,JH M tk,newVar,newRow]
 ·exact .ptr (hd _ _ _) (bW _) ⟨_,rfl,λ_=>rfl⟩
theorem aoy {t:TypeId}{m:R}{u:Value}(k:Key)(bS:fm A w B mem)(hu:bs w (b7 A B) B m u)(Q:m.known=true):
  ∃v aP bt,(Instr.box t u).run P w=.ok v aP/\eB A w B aP bt (aZ mem k (bU mem k) m.cells)/\bs aP (b7 A bt) bt (.ptr k (bU mem k) 0) v:=by
 have bX:=dp.SU hu (λe=>by rw[e] at Q;simp[R.known] at Q);have aq:(D m.cells)=u.cells.size:=by have:=bX.1;simp at this;omega
 refine⟨.pointer (some ⟨w.heap.size,0,none⟩),w.alloc (.cells u.cells t),_,?_,JI bS w (Fr.refl _ _) rfl k u.cells t (by omega) (by rw[dt (by simp;omega)];exact bX),?_⟩
 ·simp[Instr.box,newVar,newRow]
 ·exact .ptr (hd _ _ _) (bW _) ⟨_,rfl,λ_=>rfl⟩
theorem aoz {t e:TypeId}{z:List R}{bytes n c:Nat}{dx cM:R}{qq ky:Value}{r:R}{jK:Option (Key×Nat×List R)}(k:Key)(bS:fm A w B mem)(bD:P.underlying t=some (.slice e))(aS:zeroOf P e=some z)(U:gl P e=some (D z))
  (ah:Fp P e=some bytes) (F:idx dx=some n) (I:idx cM=some c) (eY:bs w (b7 A B) B dx qq) (eh:bs w (b7 A B) B cM ky) (al:0<D z) (h:Fj k (bU mem k) z bytes n c=some (r,jK)) :
  ∃v aP bt,(Instr.makeSlice t qq ky).run P w=.ok v aP/\eB A w B aP bt (h8 mem jK)/\bs aP (b7 A bt) bt r v:=by
 unfold Fj at h
 split at h
 ·rename_i G;obtain⟨rfl,FI,wo⟩:=G
  cases h;obtain⟨ca,rfl⟩:=Fz F eY;obtain⟨c7,rfl⟩:=Fz I eh;obtain⟨i,iK,M,tk,bX⟩:=Db (P:=P) (w:=w) (B:=B) (aW:=b7 A B) aS;have aq:(D z)=iK.cells.size:=by have:=bX.1;simp at this;omega
  have eW:=acP M U;have JJ:=acQ M ah
  have mR:=run_make (P:=P) w t e i iK bD M tk ca c7 (n:Int) (n:Int) (by omega) (by omega) (by
   have:((i.bytes*n:Nat):Int)<=281474976710656:=by rw[JJ];omega
   rwa [Int.natCast_mul] at this) (by unfold maxLen at wo;omega)
  simp only[Int.toNat_natCast] at mR
  have acS:(madeCells iK.cells (n*i.size)).toList=(dC n iK.cells.toList).flatten:=by
   rw[eW,aq];exact Nz (by omega) n
  have Dc:(madeCells iK.cells (n*i.size)).size=n*D z:=by rw[size_madeCells,eW]
  have Bc:=bX.replicate (n:=n)
  have hlen:(dC n z).flatten.length=n*D z:=by
   have:=Bc.1;rw[<-this,<-acS,Array.length_toList,Dc]
  refine⟨_,_,_,mR,JI bS w (Fr.refl _ _) rfl k _ e (by rw[Dc,hlen];exact bW _) ?_,?_⟩
  ·rw[dt (by rw[Array.length_toList,Dc,hlen];exact bW _),acS];exact Bc
  ·refine .ref (hd _ _ _) (bW _) ⟨_,n,rfl,bW _,wo,.inr ⟨_,rfl,λ_=>⟨rfl,?_⟩⟩⟩;simp only[kx];rw[Dc];exact bW _
 ·cases h
theorem S3 (bS:fm A w B mem){k:Key}{g:Nat}{cs new:List R}{e:mb}{b:Nat}{vs:Array Value}{T:TypeId}{vals:List Value}{off:Nat}(Q:mem k=some (g,cs))(he:B k=some e)(ah:e.dd=some b)
  (aQ:w.heap[b]?=some (.cells vs T (0,0))) (eW:vs.size=e.size) (aq:(D cs)<=vs.size) (bX:dp w (b7 A B) B cs (vs.toList.take (D cs))) (b9:e.g=g) (S4:off+D new<=D cs) (lk:dp w (b7 A B) B new vals) :
  eB A w B (w.setRow b (vs.toList.take off++vals++vs.toList.drop (off+D vals)).toArray) B (aZ mem k g (kM cs off new)):=by
 have S5:(D vals)=D new:=lk.1
 have S0:dp w (b7 A B) B (kM cs off new) ((vs.toList.take off++vals++vs.toList.drop (off+D vals)).take (D cs)):=by
  have F:=bX.kM lk off
  have aA:(vs.toList.take (D cs)).take off++vals++(vs.toList.take (D cs)).drop (off+D vals)=(vs.toList.take off++vals++vs.toList.drop (off+D vals)).take (D cs):=by
   have mi:(D vs.toList)=vs.size:=Array.length_toList;rw[List.take_take,oA (by omega),acN,FC,fE,fR,mi,oA (a:=off) (b:=vs.size) (by omega)];rw[dt (l:=vs.toList.take off++vals) (by rw[fE,fR,mi];omega)]
  rwa [aA] at F
 have JK:(kM cs off new).length=D cs:=by unfold kM;simp;omega
 have heq:gm B k e=B:=by
  funext j
  unfold gm
  split
  ·rename_i aj;rw[aj,he]
  ·rfl
 have f:Fr (λb=>∃e,B k=some e/\e.dd=some b) w (w.setRow b (vs.toList.take off++vals++vs.toList.drop (off+D vals)).toArray):=by
  refine⟨rfl,rfl,rfl,by simp,λj aj bJ=>?_⟩
  exact setRow_other w b j _ (λNA=>bJ ⟨e,he,by rw[ah,NA]⟩)
 have:=eB.change (k:=k) (e':=e) (cs:=kM cs off new) bS f (λaC fq => .inl (by rw[he] at fq;exact mj fq)) (λeD eQ => .inr ⟨e,he,eQ⟩) (λaK=>by rw[ah] at aK;cases aK) (λeD eQ=>by
  rw[ah] at eQ
  cases eQ;refine⟨_,T,setRow_heap w b vs _ T (0,0) aQ,by simp;omega,by rw[JK];simp;omega,λi m hm=>?_⟩
  obtain⟨v,hv,ab⟩:=S0.get hm;rw[uR] at hv
  split at hv
  ·exact⟨v,by simpa using hv,ab⟩
  ·cases hv)
 rw[heq,b9] at this;exact this
theorem aoA {t:TypeId}{n:Nat}{dx cM:R}{qq ky:Value}{r:R}{jK:Option (Key×Nat×List R)}(bS:fm A w B mem)(U:gl P t=some n)(eY:bs w (b7 A B) B dx qq)(eh:bs w (b7 A B) B cM ky)
  (h:xN mem n dx cM.cells=some (r,jK)):∃aP,(Instr.storeAt t qq ky).run P w=.ok () aP/\eB A w B aP B (h8 mem jK)/\r=.no:=by
 cases dx with
 |ptr k g off =>
  simp only[xN] at h;unfold Jv at h
  split at h
  ·rename_i c6 cs Q
   split at h
   ·rename_i G;obtain⟨rfl,F,I,af⟩:=G
    cases h;obtain⟨e,he,b9,aK,ah⟩:=bS.at_ Q
    cases eY with
    |ptr gf A9 aE =>
     rw[he] at gf
     cases gf;obtain⟨b,rfl,jH⟩:=aE;have jH:=jH b9.symm;obtain⟨vs,T,aQ,eW,aq,bX⟩:=ah b jH;have gy:cM ≠ .undef:=λe=>by rw[e] at af;simp[R.cells,R.one] at af
     have lj:=dp.SU eh gy
     have aoB:∀v∈ky.cells.toList,v.oneCell'=true:=by
      intro v hv;obtain⟨i,M,jL⟩:=JL hv;have kf:i<D cM.cells:=by rw[<-lj.1];exact M
      have:=lj.2 i _ _ (bx kf) (bx M);rw[jL] at this;exact acD this (jc.1 af _ (nc kf))
     have aGi:ky.cells.size=n:=by have:=lj.1;simp at this;omega
     have dy:=run_storeCells_at P b off T ky.cells.toList 0 vs w aQ (by simp;omega) aoB;simp only[nQ] at dy;refine⟨_,?_,S3 bS Q he jH aQ eW aq bX b9 (by omega) lj,rfl⟩;have bC:¬ (ky.cells.size≠n):=by omega
     simp only[Instr.storeAt,Instr.sureAddr,storeVar,Sem.run_bind,Sem.run_pure,Result.andThen_ok,uS U];rw[ae bC];exact dy
   ·cases h
  ·cases h
 |_=>simp[xN] at h
end
section
variable {P:Program} {A:Nat->Prop} {w:World} {B:Lay} {mem:Mem}
theorem NB (sz:Nat):∀(n:Nat) (l:List Data),(chunk sz n l).length=n
 |0,_=>rfl
 |n+1,l=>by simp[chunk,NB sz n]
theorem NC (sz:Nat):∀(n:Nat) (l:List Data),D l=n*sz->∀e∈chunk sz n l,D e=sz
 |0,_,_,e,he=>by simp[chunk] at he
 |n+1,l,aq,e,he=>by
  have hmul:(n+1)*sz=n*sz+sz:=by rw[qh,wg]
  simp only[chunk,List.mem_cons] at he;rcases he with rfl|he
  ·simp;omega
  ·exact NC sz n _ (by simp;omega) e he
theorem ND (sz:Nat):∀(n:Nat) (l:List Data),D l=n*sz->(chunk sz n l).flatten=l
 |0,l,aq=>by simp at aq;simp[chunk,aq]
 |n+1,l,aq=>by
  have hmul:(n+1)*sz=n*sz+sz:=by rw[qh,wg]
  simp only[chunk,jC];rw[ND sz n _ (by simp;omega),List.take_append_drop]
theorem acT {aW:Nat->Prop}{m:R}{d:Data}{v:Value}(h:uL m=some d)(hv:bs w aW B m v):Den w aW d v:=by
 unfold uL at h
 split at h<;>cases h
 ·cases hv with
  |J h=>exact h
 ·cases hv with
  |nil=>exact .lK
theorem aoC {ds:List Data}{vs:Array Value}{T:TypeId}{n sz:Nat}(bS:fm A w B mem)(aP:World)(hw:aP=w.alloc (.cells vs T))(aq:(D ds)=n*sz)(hv:vs.size=n*sz)(hm:n<=maxLen)
  (aa:∀(i:Nat) (d:Data) (v:Value),ds[i]?=some d->vs[i]?=some v->Den w (b7 A B) d v):Den aP (b7 A B) (.Y (chunk sz n ds)) (.slice (some ⟨w.heap.size,0,none⟩) n n):=by
 have ok:eB A w B aP B mem:=by rw[hw];exact .still bS ((Fr.refl _ _).alloc _)
 have ew:=NB sz n ds
 have h:=Den.Y (w:=aP) (aW:=b7 A B) (es:=chunk sz n ds) (b:=w.heap.size) (off:=0) (c:=n) (sz:=sz) (λi=>vs.getD i undef) (by rw[ew];exact bW _) (by rw[ew];exact hm)
  (by rw[hw];simp) (λbJ=>by
   rcases bJ with bJ|bJ
   ·have:=bS.xM bJ;omega
   ·have:=bS.lt _ bJ;omega) (NC sz n ds aq)
  (λi M=>by
   rw[ew] at M;rw[hw,kx];have:i<vs.size:=by omega
   simp[this])
  (λi d kQ=>by
   rw[ND sz n ds aq] at kQ;have ay:i<D ds:=(dz.1 kQ).1;have kz:i<vs.size:=by omega
   have:vs.getD i undef=vs[i]:=by simp[kz]
   simp only[this];exact (aa i d _ kQ (Array.getElem?_eq_getElem kz)).trans ok.mO)
 rw[ew] at h;exact h
theorem acU {t e:TypeId}{z r:List R}{sz len:Nat}{ps:List (Nat×Operand)}{eC:List (Nat×Nat×bP)}{ρ:Operand->Value}{tm:Nat->R}{aW:Nat->Prop}(bD:P.underlying t=some (.slice e))(aS:zeroOf P e=some z)
  (U:gl P e=some sz) (wq:(D z)=sz) (al:0<sz) (aq:len*sz<=16777216) (aE:partsOf (λi=>some (i*sz,sz)) ps=some eC) (hρ:∀x y,dJ x=some y->bs w aW B (a6 tm y) (ρ x))
  (h:kv (a6 tm) (dC len z).flatten eC=some r) :
  ∃vs:Array Value,(Instr.buildSlice t len (ps.map λp=>(p.1,ρ p.2)).toArray).run P w=.ok (.slice (some ⟨w.heap.size,0,none⟩) len len) (w.alloc (.cells vs e))/\dp w aW B r vs.toList:=by
 obtain⟨i,iK,M,tk,bX⟩:=Db (P:=P) (w:=w) (B:=B) (aW:=aW) aS;have FJ:iK.cells.size=sz:=by have:=bX.1;simp at this;omega
 have acV:=Nz (z:=iK.cells) (by omega) len;rw[FJ] at acV;have Bc:=bX.replicate (n:=len);rw[<-acV] at Bc;obtain⟨oz,aF,ab⟩:=Ny (place:=λi=>some (i*sz,sz)) hρ ps eC _ r _ aE Bc h;refine⟨oz,?_,ab⟩;have aK:¬ (len*sz>2^24):=by omega
 by_cases uW:len*sz=0
 ·have b0:((Array.range (len*sz)).map (iK.cells[·%sz]!))=#[]:=by rw[uW];simp[Array.range_zero']
  have aoD:Instr.fill (λi=>some (i*sz,sz)) #[] (ps.map λp=>(p.1,ρ p.2))=some oz:=by rw[<-b0];exact aF
  simp only[Instr.buildSlice,Sem.run_bind,run_underlying bD,Result.andThen_ok,uS U];rw[ae aK];simp only[uW,if_true,Sem.run_bind,Sem.run_pure,Result.andThen_ok];simp[aoD,newRow,Array.range_zero']
 ·simp only[Instr.buildSlice,Sem.run_bind,run_underlying bD,Result.andThen_ok,uS U];rw[ae aK];simp only[uW,if_false,Sem.run_bind,Sem.run_pure,Result.andThen_ok,JH M tk,FJ];simp[aF,newRow]
theorem aoE {t e:TypeId}{z:List R}{sz len:Nat}{ps:List (Nat×Operand)}{eC:List (Nat×Nat×bP)}{ρ:Operand->Value}{tm:Nat->R}{r:R}(bS:fm A w B mem)(bD:P.underlying t=some (.slice e))(aS:zeroOf P e=some z)
  (U:gl P e=some sz) (wq:(D z)=sz) (al:0<sz) (aq:len*sz<=16777216) (aE:partsOf (λi=>some (i*sz,sz)) ps=some eC) (hρ:∀x y,dJ x=some y->bs w (b7 A B) B (a6 tm y) (ρ x))
  (h:Jg (dC len z).flatten sz len (kv (a6 tm) (dC len z).flatten eC)=some r) :
  ∃v aP,(Instr.buildSlice t len (ps.map λp=>(p.1,ρ p.2)).toArray).run P w=.ok v aP/\eB A w B aP B mem/\bs aP (b7 A B) B r v:=by
 unfold Jg at h
 split at h
 ·rename_i hlen
  cases aF:kv (a6 tm) (dC len z).flatten eC with
  |none=>rw[aF] at h;cases h
  |some cs =>
   rw[aF] at h;simp only[dR] at h;obtain⟨ds,g0,rfl⟩:=h;obtain⟨vs,mR,bX⟩:=acU (P:=P) (B:=B) bD aS U wq al aq aE hρ aF;obtain⟨F,I⟩:=oy g0
   have ew:(D cs)=len*sz:=by
    have:∀(eC:List (Nat×Nat×bP)) (a r:List R),kv (a6 tm) a eC=some r->(D r)=D a:=by
     intro eC
     induction eC with
     |nil=>intro a r h;simp[kv] at h;rw[h]
     |cons q eC ax =>
      intro a r h;obtain⟨o,s,x⟩:=q;simp only[kv] at h
      split at h
      ·rename_i G;rw[ax _ _ h];unfold kM;simp;omega
      ·cases h
    rw[this _ _ _ aF,hlen]
   have aT:vs.size=len*sz:=by have:=bX.1;simp at this;omega
   refine⟨_,_,mR,.still bS ((Fr.refl _ _).alloc _),.J (aoC bS _ rfl (by omega) aT ?_ λi d v aa hv=>?_)⟩
   ·have:len<=len*sz:=JM _ al;unfold maxLen;omega
   ·have ay:i<D cs:=by have:=(dz.1 aa).1;omega
    have js:=bx ay;exact acT (I i _ d js aa) (bX.2 i _ v js (by simpa using hv))
 ·cases h
theorem aoF {t e:TypeId}{z:List R}{sz len:Nat}{ps:List (Nat×Operand)}{eC:List (Nat×Nat×bP)}{ρ:Operand->Value}{tm:Nat->R}{r:R}{jK:Option (Key×Nat×List R)}(k:Key)(bS:fm A w B mem)(bD:P.underlying t=some (.slice e))(aS:zeroOf P e=some z)
  (U:gl P e=some sz) (wq:(D z)=sz) (al:0<sz) (aq:len*sz<=16777216) (aE:partsOf (λi=>some (i*sz,sz)) ps=some eC) (hρ:∀x y,dJ x=some y->bs w (b7 A B) B (a6 tm y) (ρ x))
  (h:Fi k (bU mem k) (dC len z).flatten sz len (kv (a6 tm) (dC len z).flatten eC)=some (r,jK)) :
  ∃v aP bt,(Instr.buildSlice t len (ps.map λp=>(p.1,ρ p.2)).toArray).run P w=.ok v aP/\eB A w B aP bt (h8 mem jK)/\bs aP (b7 A bt) bt r v:=by
 unfold Fi at h
 split at h
 ·rename_i hlen
  cases aF:kv (a6 tm) (dC len z).flatten eC with
  |none=>rw[aF] at h;cases h
  |some cs =>
   rw[aF] at h
   cases h;obtain⟨vs,mR,bX⟩:=acU (P:=P) (B:=B) bD aS U wq al aq aE hρ aF
   have ew:(D cs)=len*sz:=by
    have:∀(eC:List (Nat×Nat×bP)) (a r:List R),kv (a6 tm) a eC=some r->(D r)=D a:=by
     intro eC
     induction eC with
     |nil=>intro a r h;simp[kv] at h;rw[h]
     |cons q eC ax =>
      intro a r h;obtain⟨o,s,x⟩:=q;simp only[kv] at h
      split at h
      ·rename_i G;rw[ax _ _ h];unfold kM;simp;omega
      ·cases h
    rw[this _ _ _ aF,hlen]
   have aT:vs.size=D cs:=by have:=bX.1;simp at this;omega
   refine⟨_,_,_,mR,JI bS w (Fr.refl _ _) rfl k vs e (by omega) (by rw[dt (by simp;omega)];exact bX),?_⟩
   have hY:len<=maxLen:=by
    have:len<=len*sz:=JM _ al;unfold maxLen;omega
   exact .ref (hd _ _ _) (bW _) ⟨_,len,rfl,bW _,hY,.inr ⟨_,rfl,λ_=>⟨rfl,by simp only[kx];omega⟩⟩⟩
 ·cases h
theorem acW {m:R}{sz n:Nat}{new:List R}{v:Value}(bS:fm A w B mem)(hv:bs w (b7 A B) B m v)(h:qk mem sz m=some (n,new)):
  ∃a c vals,v=.slice a n c/\dp w (b7 A B) B new vals/\D vals=n*sz/\(0<n->∃b off,a=some ⟨b,off,none⟩/\At w b off vals):=by
 unfold qk at h
 split at h
 ·split at h
  ·rename_i es tl
   cases h;have tl:=SY tl
   cases hv with
   |J aa =>
    cases aa with
    |lK=>exact⟨_,_,[],rfl,by simpa using dp.nil,by simp,λh=>by simp at h⟩
    | @Y es b off c et val aq hm ah fH eW G Ba =>
     have kA:=Nd tl;rcases kV (D es) with al|al
     ·have:es=[]:=qs al;subst this;exact⟨_,_,[],rfl,by simpa using dp.nil,by simp,λh=>by simp at h⟩
     ·have JF:et=sz:=by
       have ml:=nc (l:=es) (n:=0) al;rw[<-eW _ ml,tl _ ml]
      subst JF;refine⟨_,_,(dP (D es*et)).map val,rfl,?_,by simp,λ_=>⟨b,off,rfl,λj u aj=>?_⟩⟩
      ·refine dp.J (by simp[kA]) λi d u F I=>?_;have M:i<D es*et:=by have:=(dz.1 F).1;omega
       rw[bq,th M] at I;simp only[ll,cj] at I;subst I;exact Ba i d F
      ·have M:j<D es*et:=by have:=(dz.1 aj).1;simpa using this
       rw[bq,th M] at aj;simp only[ll,cj] at aj;subst aj;exact G j M
  ·cases h
 ·cases h
  cases hv with
  |nil=>exact⟨_,_,[],rfl,dp.nil,by simp,λh=>by simp at h⟩
 ·rename_i k g et off len
  split at h
  ·rename_i eW;subst eW
   split at h
   ·rename_i c6 cs Q
    split at h
    ·rename_i bc;subst bc;simp only[dR,fp] at h;obtain⟨part,xW,rfl,rfl⟩:=h;obtain⟨aq,rfl,aK⟩:=Fy xW
     cases hv with
     |ref he bc ab =>
      obtain⟨e,gf,b9,C8,ah⟩:=bS.at_ Q;rw[he] at gf
      cases gf;obtain⟨a,cap,rfl,F,I,af⟩:=ab;rcases af with af|⟨b,rfl,aM⟩
      ·have:len=0:=by omega
       subst this;exact⟨_,_,[],rfl,by simpa using dp.nil,by simp,λh=>by omega⟩
      ·obtain⟨bk,bI⟩:=aM b9.symm;obtain⟨vs,T,aQ,aS,hle,bX⟩:=ah b bk;refine⟨_,_,((vs.toList.take (D cs)).drop off).take (len*et),rfl,(bX.drop off).take _,by have:=((bX.drop off).take (len*et)).1;omega,λ_=>⟨b,off,rfl,?_⟩⟩
       have:=(((At.row aQ).take (D cs)).add off).take (len*et)
       simpa using this
    ·cases h
   ·cases h
  ·cases h
 ·cases h
theorem NF {sz n c:Nat}{a:Option Addr}{vals:List Value}(aq:(D vals)=n*sz)(b8:0<n->∃b off,a=some ⟨b,off,none⟩/\At w b off vals)(aP:World)(hw:aP.heap=w.heap):
  (Builtin.firstCells sz n (.slice a n c)).run P aP = .ok vals.toArray aP:=by
 have G:∀p,aP.cell? p=w.cell? p:=λp=>by simp[World.cell?,hw]
 rcases kV n with al|al
 ·subst al;have:vals=[]:=qs (by simpa using aq);subst this
  cases a with
  |none=>simp[Builtin.firstCells]
  |some a=>simp[Builtin.firstCells,loadCells,loadCellsFrom]
 ·obtain⟨b,off,rfl,zk⟩:=b8 al;exact run_firstCells_some aP sz n _ n c vals aq λj v aj=>by rw[zh,G];exact zk j v aj
theorem dp.S6 {aW:Nat->Prop}{cs:List R}{vs:List Value}(h:dp w aW B cs vs)(F:cs.all R.one=true):∀v∈vs,v.oneCell'=true:=by
 intro v hv;obtain⟨i,M,jL⟩:=JL hv;have kf:i<D cs:=by rw[<-h.1];exact M
 have:=h.2 i _ _ (bx kf) (bx M);rw[jL] at this;exact acD this (jc.1 F _ (nc kf))
theorem S7 {t ty e:TypeId}{sz o5 wu n c:Nat}{base a:Option Addr}{vals:List Value}(bD:P.underlying t=some (.slice e))(U:gl P e=some sz)(xX:o5+n<=wu)
  (aF:(Builtin.firstCells sz n (.slice a n c)).run P w=.ok vals.toArray w) (aP:World)
  (dy:∀b,base=some b->(storeCells (b.add (o5*sz)) vals).run P w=.ok () aP) (aK:base=none->aP=w) :
  (Builtin.append_ #[t,t] ty #[.slice base o5 wu,.slice a n c]).run P w=.ok (.slice base (o5+n) wu) aP:=by
 simp only[gl,dR] at U;obtain⟨i,M,rfl⟩:=U
 cases base with
 |none=>simp[Builtin.append_,run_underlying bD,sizeOf,typeInfo,M,Builtin.lenOf,xX,aF,aK rfl]
 |some b=>simp[Builtin.append_,run_underlying bD,sizeOf,typeInfo,M,Builtin.lenOf,xX,aF,dy b rfl]
theorem aoG {t ty e:TypeId}{sz o5 wu n c bytes:Nat}{base a:Option Addr}{pH vals:List Value}{i:TypeInfo}{z:Value}(bD:P.underlying t=some (.slice e))(M:P.info? e=some i)(aS:i.zero=some z)(eW:i.size=sz)(JJ:i.bytes=bytes)
  (xX:wu<o5+n) (uT:∀aP,aP.heap=w.heap->(Builtin.firstCells sz o5 (.slice base o5 wu)).run P aP = .ok pH.toArray aP) (aF:∀aP,aP.heap=w.heap->(Builtin.firstCells sz n (.slice a n c)).run P aP = .ok vals.toArray aP)
  (aoH:o5+n<=maxLen) (ah:(o5+n)*bytes<=140737488355328) :
  (Builtin.append_ #[t,t] ty #[.slice base o5 wu,.slice a n c]).run P w =
   .ok (.slice (some ⟨w.heap.size,0,none⟩) (o5+n) (grownCap w (o5+n) wu e))
    (w.drew.alloc (.cells (pH.toArray++vals.toArray++Builtin.zeroCells z.cells (grownCap w (o5+n) wu e-(o5+n))) e)):=by
 subst eW;subst JJ
 have aK:¬ (o5+n<=wu):=by omega
 have aoI:¬ (9223372036854775807<((o5:Int)+(n:Int))):=by unfold maxLen at aoH;omega
 have Da:=growslice_fits xX ah;have aoJ:¬ (281474976710656<Builtin.nextslicecap (o5+n) wu*i.bytes):=by omega
 have F:=uT w.drew rfl;have I:=aF w.drew rfl;simp[Builtin.append_,run_underlying bD,sizeOf,typeInfo,zeroValue,M,aS,Builtin.lenOf,aK,aoI,aoJ,Question.forced,F,I,newRow,grownCap,<-List.append_toArray,Array.append_assoc]
theorem aoK {t ty e:TypeId}{z:List R}{bytes n:Nat}{dx cM:R}{qq ky:Value}{new:List R}{r:R}{jK:Option (Key×Nat×List R)}(k:Key)(bS:fm A w B mem)(bD:P.underlying t=some (.slice e))(aS:zeroOf P e=some z)(U:gl P e=some (D z))
  (JJ:Fp P e=some bytes) (al:0<D z) (eY:bs w (b7 A B) B dx qq) (eh:bs w (b7 A B) B cM ky) (e8:qk mem (D z) cM=some (n,new)) (h:q6 mem k z bytes dx (some (n,new))=some (r,jK)) :
  ∃v aP bt,(Builtin.append_ #[t,t] ty #[qq,ky]).run P w=.ok v aP/\eB A w B aP bt (h8 mem jK)/\bs aP (b7 A bt) bt r v:=by
 obtain⟨de,c2,vals,rfl,bX,mi,b8⟩:=acW bS eh e8;obtain⟨i,iK,M,tk,aoL⟩:=Db (P:=P) (w:=w) (B:=B) (aW:=b7 A B) aS;have eW:=acP M U;have jH:=acQ M JJ;have FJ:iK.cells.size=D z:=by have:=aoL.1;simp at this;omega
 have pI:(D new)=n*D z:=by rw[<-bX.1,mi]
 have aF:=λaP hw=>NF (P:=P) (w:=w) (c:=c2) mi b8 aP hw
 -- a new block
 have grow:∀(base:Option Addr) (len cap:Nat) (g:Nat) (k':Key) (cs:List R) (pH:List Value),cap<len+n->(∀aP,aP.heap=w.heap->(Builtin.firstCells (D z) len (.slice base len cap)).run P aP = .ok pH.toArray aP) ->
   dp w (b7 A B) B cs pH->(D cs)=len*(D z)->len+n<=maxLen->(len+n)*bytes<=140737488355328->g=bU mem k' ->
   ∃v aP bt,(Builtin.append_ #[t,t] ty #[.slice base len cap,.slice de n c2]).run P w=.ok v aP/\eB A w B aP bt (aZ mem k' g (cs++new))/\bs aP (b7 A bt) bt (.ref k' g (D z) 0 (len+n)) v:=by
  intro base len cap g k' cs pH xX uT jI ew wo FI bc;subst bc;have mR:=aoG (P:=P) (ty:=ty) bD M tk eW jH xX uT aF wo FI;have b9:=grownCap_ge w (len+n) cap e;have hle:=grownCap_le_maxLen w (len+n) cap e wo
  have Dc:(pH.toArray++vals.toArray++Builtin.zeroCells iK.cells (grownCap w (len+n) cap e-(len+n))).size=grownCap w (len+n) cap e*D z:=by
   have FK:=jI.1;simp only[Array.size_append,List.size_toArray,size_zeroCells,FJ,FK,ew,mi];rw[<-qh,<-qh]
   congr 1
   omega
  have eZ:=jI.append bX;have hmul:(len+n)*D z<=grownCap w (len+n) cap e*D z:=uV _ b9;have JN:(cs++new).length=(len+n)*D z:=by rw[fE,ew,pI,qh]
  refine⟨_,_,_,mR,JI (cs:=cs++new) bS w.drew ((Fr.refl _ _).drew _) rfl k' _ e (by rw[Dc,JN];exact hmul) ?_,?_⟩
  ·have:(pH.toArray++vals.toArray++Builtin.zeroCells iK.cells (grownCap w (len+n) cap e-(len+n))).toList.take (cs++new).length=pH++vals:=by
    simp only[Array.toList_append,List.toList_toArray];rw[List.take_append_of_le_length (by rw[eZ.1];exact bW _),dt (by rw[eZ.1];exact bW _)]
   rw[this];exact eZ
  ·refine .ref (hd _ _ _) (bW _) ⟨_,_,rfl,b9,hle,.inr ⟨_,rfl,λ_=>⟨rfl,?_⟩⟩⟩;simp only[kx];rw[Dc];exact bW _
 cases dx with
 |nil =>
  simp only[q6] at h
  split at h
  ·rename_i G;obtain⟨FI,wo,xY⟩:=G
   cases h
   cases eY with
   | @nil cU =>
    rcases kV n with mm|mm
    ·subst mm;have FL:vals=[]:=qs (by simpa using mi);have S8:new=[]:=qs (by simpa using pI);subst FL;subst S8
     refine⟨_,_,_,S7 (P:=P) (ty:=ty) bD U (bW _) (aF w rfl) w (λb _=>by simp[storeCells]) (λ_=>rfl),eB.xU bS k,?_⟩;exact .ref (hd _ _ _) (bW _) ⟨_,0,rfl,bW _,fg _,.inl rfl⟩
    ·have:=grow cU 0 0 (bU mem k) k [] [] (by omega) (λaP hw=>by
      have:=NF (P:=P) (w:=w) (sz:=D z) (n:=0) (c:=0) (a:=cU) (vals:=[]) (by simp) (λh=>by omega) aP hw;exact this) dp.nil (by simp) (by omega) (by simpa using FI) rfl
     simpa [h8] using this
  ·cases h
 |ref k' g et off len =>
  simp only[q6] at h
  split at h
  ·rename_i G;obtain⟨rfl,rfl⟩:=G;unfold mN at h
   split at h
   ·rename_i c6 cs Q
    split at h
    ·rename_i G;obtain⟨rfl,hlen,FI,wo,xY⟩:=G
     cases h;obtain⟨Dd,pJ,b9,C8,ah⟩:=bS.at_ Q;have uX:c6+1=bU mem k':=by simp[bU,Q]
     cases eY with
     |ref he bc ab =>
      rw[pJ] at he
      cases he;obtain⟨cU,cap,rfl,F,I,af⟩:=ab
      have hold:∃pH,dp w (b7 A B) B (cs.take (len*D z)) pH/\D pH=len*D z/\(0<len->∃b off,cU=some ⟨b,off,none⟩/\At w b off pH):=by
       rcases af with af|⟨b,rfl,aM⟩
       ·have:len=0:=by omega
        subst this;exact⟨[],by simpa using dp.nil,by simp,λh=>by omega⟩
       ·obtain⟨bk,bI⟩:=aM b9.symm;obtain⟨vs,T,aQ,De,hle,zl⟩:=ah b bk;refine⟨(vs.toList.take (D cs)).take (len*D z),zl.take _,by have:=(zl.take (len*D z)).1;rw[this];simp;omega,λ_=>⟨b,0,rfl,((At.row aQ).take _).take _⟩⟩
      obtain⟨pH,NG,S9,acX⟩:=hold
      by_cases xX:len+n<=cap
      ·rcases af with af|⟨b,rfl,aM⟩
       ·-- no room, and nothing comes
        have rf:len=0:=by omega
        have mm:n=0:=by omega
        subst rf;subst mm;subst af
        have FL:vals=[]:=qs (by simpa using mi);have S8:new=[]:=qs (by simpa using pI);subst FL;subst S8
        refine⟨_,_,gm B k' ⟨bU mem k',none,0⟩,S7 (P:=P) (ty:=ty) bD U (bW _) (aF w rfl) w (λb _=>by simp[storeCells]) (λ_=>rfl),?_,?_⟩
        ·have:=eB.xU bS k'
         simpa [h8,uX] using this
        ·rw[uX];exact .ref (hd _ _ _) (bW _) ⟨_,0,rfl,bW _,fg _,.inl rfl⟩
       ·obtain⟨bk,bI⟩:=aM b9.symm;obtain⟨vs,T,aQ,De,hle,zl⟩:=ah b bk;have hmul:(len+n)*D z<=cap*D z:=uV _ xX;have acY:(len+n)*D z=len*D z+n*D z:=qh _ _ _;have dy:=run_storeCells_at P b (len*D z) T vals 0 vs w aQ (by omega) (bX.S6 xY);simp only[nQ] at dy
        have FK:pH=vs.toList.take (len*D z):=by
         apply o4;intro j;rcases h9 j (len*D z) with aj|aj
         ·have hZ:0<len:=by
           rcases kV len with h|h
           ·subst h;simp at aj
           ·exact h
          obtain⟨ek,aGj,acZ,NH⟩:=acX hZ;simp only[cj,Addr.mk.injEq,and_true] at acZ;obtain⟨rfl,rfl⟩:=acZ;have uY:j<D pH:=by omega
          have o2:=NH j _ (bx uY);rw[kx,cell_of_row w b j vs T (0,0) aQ] at o2;rw[bx uY,uR,ad aj,<-o2,Array.getElem?_toList]
         ·rw[ke (by omega),uR,ae (by omega)]
        have ac0:(vs.toList.take (len*D z)++vals++vs.toList.drop (len*D z+D vals)).toArray.size=Dd.size:=by
         simp;omega
        have f:Fr (λb=>∃e,B k'=some e/\e.dd=some b) w (w.setRow b (vs.toList.take (len*D z)++vals++vs.toList.drop (len*D z+D vals)).toArray):=by
         refine⟨rfl,rfl,rfl,by simp,λj aj bJ=>?_⟩
         exact setRow_other w b j _ (λNA=>bJ ⟨Dd,pJ,by rw[bk,NA]⟩)
        have JN:(cs.take (len*D z)++new).length=len*D z+D vals:=by
         rw[fE,pI,mi,fR,oA hlen]
        have ok:=eB.change (k:=k') (e':=⟨c6+1,some b,Dd.size⟩) (cs:=cs.take (len*D z)++new) bS f
         (λaC fq => .inr (by rw[pJ] at fq;cases fq;simp only;omega)) (λeD eQ => .inr ⟨Dd,pJ,by rw[bk];exact eQ⟩) (λaK=>by cases aK) (λeD eQ=>by
          cases eQ;refine⟨_,T,setRow_heap w b vs _ T (0,0) aQ,ac0,by rw[ac0,JN,mi];omega,λi m hm=>?_⟩
          have eZ:=NG.append bX;obtain⟨v,hv,ab⟩:=eZ.get hm;refine⟨v,?_,ab⟩;rw[FK] at hv;have ay:i<(vs.toList.take (len*D z)++vals).length:=(dz.1 hv).1;simp only[ac1];rw[qo ay];exact hv)
        refine⟨_,_,_,S7 (P:=P) (ty:=ty) (a:=de) (c:=c2) (vals:=vals) bD U xX (aF w rfl) _ (λek hX=>by
         cases hX;rw[zh,kx];exact dy) (λh=>by cases h),ok,?_⟩
        exact .ref (hd _ _ _) (bW _) ⟨_,cap,rfl,xX,I,.inr ⟨b,rfl,λ_=>⟨rfl,bI⟩⟩⟩
      ·have:=grow cU len cap (c6+1) k' (cs.take (len*D z)) pH (by omega) (λaP hw=>NF (P:=P) (w:=w) S9 acX aP hw) NG (by rw[fR,oA hlen]) wo FI uX;exact this
    ·cases h
   ·cases h
  ·cases h
 |_=>simp[q6] at h
theorem aoM {t u ty e:TypeId}{sz n:Nat}{dx cM:R}{qq ky:Value}{new:List R}{r:R}{jK:Option (Key×Nat×List R)}(bS:fm A w B mem)(bD:P.underlying t=some (.slice e))(U:gl P e=some sz)
  (eY:bs w (b7 A B) B dx qq) (eh:bs w (b7 A B) B cM ky) (e8:qk mem sz cM=some (n,new)) (h:wh mem sz dx (some (n,new))=some (r,jK)) :
  ∃v aP,(Builtin.copy_ #[t,u] ty #[qq,ky]).run P w=.ok v aP/\eB A w B aP B (h8 mem jK)/\bs aP (b7 A B) B r v:=by
 obtain⟨de,c2,vals,rfl,bX,mi,b8⟩:=acW bS eh e8;have pI:(D new)=n*sz:=by rw[<-bX.1,mi]
 cases dx with
 |ref k g et off len =>
  simp only[wh] at h
  split at h
  ·rename_i eW;subst eW;unfold A7 at h
   split at h
   ·rename_i c6 cs Q
    split at h
    ·rename_i G;obtain⟨rfl,Da,xY⟩:=G
     cases h;obtain⟨Dd,pJ,b9,C8,ah⟩:=bS.at_ Q;have FM:Nat.min n len=min n len:=rfl;have hle:min n len<=n:=Nat.min_le_left _ _;have NI:min n len<=len:=Nat.min_le_right _ _;have mh:min n len*et<=n*et:=uV _ hle;have aGk:min n len*et<=len*et:=uV _ NI;have nP:(vals.take (min n len*et)).length=min n len*et:=by rw[fR,mi,oA mh]
     have Bd:∀(a:Option Addr) (c:Nat),(0<n->∃b off,a=some ⟨b,off,none⟩/\At w b off vals)->(Builtin.firstCells et (min n len) (.slice a n c)).run P w=.ok (vals.take (min n len*et)).toArray w:=by
      intro a c b8
      have:=NF (P:=P) (w:=w) (sz:=et) (n:=min n len) (c:=c) (a:=a) (vals:=vals.take (min n len*et)) nP (λh=>by
       obtain⟨b,off,F,I⟩:=b8 (by omega);exact⟨b,off,F,I.take _⟩) w rfl
      cases a with
      |none=>simpa [Builtin.firstCells] using this
      |some a=>simpa [Builtin.firstCells] using this
     cases eY with
     |ref he bc ab =>
      rw[pJ] at he
      cases he;obtain⟨cU,cap,rfl,F,I,af⟩:=ab;simp only[gl,dR] at U;obtain⟨i,M,Ta⟩:=U;rcases af with af|⟨b,rfl,aM⟩
      ·have rf:len=0:=by omega
       subst rf;have ml:min n 0=0:=Nat.min_zero _;have rh:kM cs off (new.take (min n 0*et))=cs:=by simp[kM]
       have dy:∀a:Addr,(storeCells a ([]:List Value)).run P w=.ok () w:=λa=>by simp[storeCells]
       have JO:=Bd de c2 b8;simp only[ml,Nat.zero_mul,List.take_zero] at JO
       have fU:gm B k Dd=B:=by
        funext j;unfold gm;split
        ·rename_i aj;rw[aj,pJ]
        ·rfl
       refine⟨.int .i64 0,w,?_,?_,by simpa using bs.ofInt⟩
       ·cases cU with
        |none=>simp[Builtin.copy_,run_underlying bD,Builtin.lenOf,sizeOf,typeInfo,M,Ta,JO,goInt]
        |some a=>simp[Builtin.copy_,run_underlying bD,Builtin.lenOf,sizeOf,typeInfo,M,Ta,JO,dy,goInt]
       ·have fZ:aZ mem k c6 cs=mem:=by
         funext j;unfold aZ;split
         ·rename_i aj;rw[aj,Q]
         ·rfl
        simp only[h8,rh,fZ];exact .refl bS
      ·obtain⟨bk,bI⟩:=aM b9.symm;obtain⟨vs,T,aQ,De,JP,zl⟩:=ah b bk;have dy:=run_storeCells_at P b off T (vals.take (min n len*et)) 0 vs w aQ (by omega) (λv hv=>bX.S6 xY v (FE hv));simp only[nQ] at dy;refine⟨.int .i64 ((min n len:Nat):Int),_,?_,S3 bS Q pJ bk aQ De JP zl b9 (by rw[fR,pI,oA mh];omega) (bX.take (min n len*et)),.ofInt⟩;have JO:=Bd de c2 b8;simp[Builtin.copy_,run_underlying bD,Builtin.lenOf,sizeOf,typeInfo,M,Ta,FM,JO,dy,goInt]
    ·cases h
   ·cases h
  ·cases h
 |_=>simp[wh] at h
theorem aoN {z:Array Value}(al:0<z.size)(n:Nat):(Builtin.zeroCells z n).toList=(dC n z.toList).flatten:=by
 unfold Builtin.zeroCells;exact Nz al n
theorem aoO {t ty e:TypeId}{z:List R}{dx:R}{qq:Value}{r:R}{jK:Option (Key×Nat×List R)}(bS:fm A w B mem)(bD:P.underlying t=some (.slice e))(aS:zeroOf P e=some z)(al:0<D z)
  (eY:bs w (b7 A B) B dx qq) (h:xO mem z dx=some (r,jK)) :
  ∃v aP,(Builtin.clear_ #[t] ty #[qq]).run P w=.ok v aP/\eB A w B aP B (h8 mem jK)/\bs aP (b7 A B) B r v:=by
 have ac2:∀aP:World,bs aP (b7 A B) B (.cI []) (.tuple #[]):=λaP=>bs.cI (cs:=[]) (vs:=[]) rfl λi d v aa=>by simp at aa
 cases dx with
 |ref k g sz off len =>
  simp only[xO] at h
  split at h
  ·rename_i eW;subst eW;unfold Nn at h
   split at h
   ·rename_i c6 cs Q
    split at h
    ·rename_i G;obtain⟨rfl,Da,xY⟩:=G
     cases h;obtain⟨i,iK,M,tk,bX⟩:=Db (P:=P) (w:=w) (B:=B) (aW:=b7 A B) aS;have FJ:iK.cells.size=D z:=by have:=bX.1;simp at this;omega
     obtain⟨Dd,pJ,b9,C8,ah⟩:=bS.at_ Q
     cases eY with
     |ref he bc ab =>
      rw[pJ] at he
      cases he;obtain⟨cU,cap,rfl,F,I,af⟩:=ab;rcases kV len with rf|rf
      ·subst rf;have rh:kM cs off (dC 0 z).flatten=cs:=by simp[kM]
       have fZ:aZ mem k c6 cs=mem:=by
        funext j;unfold aZ;split
        ·rename_i aj;rw[aj,Q]
        ·rfl
       refine⟨.tuple #[],w,?_,?_,ac2 _⟩
       ·cases cU<;>simp[Builtin.clear_,run_underlying bD]
       ·simp only[h8,rh,fZ];exact .refl bS
      ·rcases af with af|⟨b,rfl,aM⟩
       ·omega
       ·obtain⟨bk,bI⟩:=aM b9.symm;obtain⟨vs,T,aQ,De,JP,zl⟩:=ah b bk;have Bc:=bX.replicate len;have wq:=aoN (z:=iK.cells) (by omega) len;have pI:(dC len z).flatten.length=len*D z:=by simp
        have mi:(dC len iK.cells.toList).flatten.length=len*D z:=by simp[FJ]
        have aoP:(dC len z).flatten.all R.one=true:=by
         rw[jc] at xY ⊢;intro x O;obtain⟨y,ar,mn⟩:=List.mem_flatten.1 O;exact xY x (by rw[<-(List.mem_replicate.1 ar).2];exact mn)
        have dy:=run_storeCells_at P b off T (dC len iK.cells.toList).flatten 0 vs w aQ (by omega) (Bc.S6 aoP);simp only[nQ] at dy;refine⟨.tuple #[],_,?_,S3 bS Q pJ bk aQ De JP zl b9 (by omega) Bc,ac2 _⟩;obtain⟨SZ,rfl⟩:∃l,len=l+1:=⟨len-1,by omega⟩
        simp[Builtin.clear_,run_underlying bD,JH M tk,wq,dy]
    ·cases h
   ·cases h
  ·cases h
 |_=>simp[xO] at h
end
end Go.Mini
namespace Go.Mini
open Go
variable {P:Program} {A:Nat->Prop} {w:World} {B:Lay} {mem:Mem}
theorem aoQ {t e:TypeId}{sz l h len:Nat}{m r:R}{v:Value}{kS kT:Option Value}{cy M:Option R}(bS:fm A w B mem)(bD:P.underlying t=some (.array len e))(U:gl P e=some sz)(aGl:len<=16777216)
  (fQ:jE 0 cy=some l) (jb:jE len M=some h) (mQ:re w (b7 A B) B cy kS) (lM:re w (b7 A B) B M kT) (hm:bs w (b7 A B) B m v) (ab:A6 mem len sz l h m=some r) :
  ∃z,(Instr.sliceAt t v kS kT none).run P w=.ok z w/\bs w (b7 A B) B r z:=by
 unfold A6 at ab
 split at ab
 ·rename_i k g off;unfold SJ at ab
  split at ab
  ·rename_i c6 cs Q
   split at ab
   ·rename_i G;obtain⟨rfl,F,I,af⟩:=G
    cases ab
    cases hm with
    |ptr he bc hv =>
     obtain⟨b,rfl,ah⟩:=hv;obtain⟨e',gf,b9,aK,e7⟩:=bS.at_ Q;rw[gf] at he
     cases he;have jH:=ah b9.symm;obtain⟨vs,T,aQ,aS,hle,_⟩:=e7 b jH;refine⟨.slice (some (if len=l then ⟨b,off,none⟩ else ⟨b,off+l*sz,none⟩)) (h-l) (len-l),?_,.ref gf bc ⟨_,len-l,rfl,by omega,by unfold maxLen;omega,?_⟩⟩
     ·simp[Instr.sliceAt,run_underlying bD,Instr.sureAddr,SW (P:=P) (w:=w) false fQ jb mQ lM F I,uS U]
      split<;>simp[zh]
     ·rcases Nx (eP F I) with aq|aq
      ·exact .inl (by omega)
      ·refine .inr ⟨b,by rw[ae (by omega)],λ_=>⟨jH,?_⟩⟩
       have:off+l*sz+(len-l)*sz=off+len*sz:=by
        rw[qn,<-qh]
        congr 2
        omega
       omega
   ·cases ab
  ·cases ab
 ·cases ab
theorem aoR {dK:List Field}(h:(dK.all λf=>(gl P f.type).isSome)=true):∃ps:List (Nat×Nat),(dK.mapM λf=>(do pure (f.offset,<-sizeOf f.type):Sem (Nat×Nat))).run P w=.ok ps w /\
  ∀i:Nat,ps[i]?=uO P dK.toArray i:=by
 induction dK with
 |nil=>exact⟨[],by simp,λi=>by simp[uO]⟩
 |cons f r ax =>
  simp only[List.all_cons,ec] at h;obtain⟨ps,F,I⟩:=ax h.2;obtain⟨s,U⟩:=ac3.1 h.1;refine⟨(f.offset,s)::ps,?_,λi=>?_⟩
  ·simp only[lg,Sem.run_bind,uS U,Result.andThen_ok,Sem.run_pure];rw[F]
   rfl
  ·cases i with
   |zero=>simp[uO,U]
   |succ i =>
    have:=I i;simp only[uO,ac1,List.getElem?_cons_succ] at this ⊢;exact this
theorem aoS {p q:Nat->Option (Nat×Nat)}(h:∀i,p i=q i)(cs:Array Value)(l:List (Nat×Value)):Instr.fill p cs l=Instr.fill q cs l:=by
 rw[show p=q from funext h]
theorem aoT {t:TypeId}{dK:Array Field}{z r:List R}{ps:List (Nat×Operand)}{eC:List (Nat×Nat×bP)}{ρ:Operand->Value}{tm:Nat->R}{aW:Nat->Prop}(bD:P.underlying t=some (.struct dK))(aS:zeroOf P t=some z)
  (aN:(dK.toList.all λf=>(gl P f.type).isSome)=true) (aE:partsOf (uO P dK) ps=some eC) (hρ:∀x y,dJ x=some y->bs w aW B (a6 tm y) (ρ x))
  (h:kv (a6 tm) z eC=some r):∃v,(Instr.build t (ps.map λp=>(p.1,ρ p.2)).toArray).run P w=.ok v w/\bs w aW B (.agg r) v:=by
 obtain⟨i,iK,M,tk,bX⟩:=Db (P:=P) (w:=w) (B:=B) (aW:=aW) aS;obtain⟨pl,F,I⟩:=aoR (w:=w) aN;obtain⟨oz,aF,ab⟩:=Ny (place:=uO P dK) hρ ps eC _ r _ aE bX h;refine⟨.agg oz,?_,by rw[show oz=oz.toList.toArray from by simp];exact .agg ab.1 ab.2⟩
 ·have sn:∀i,pl.toArray[i]?=uO P dK i:=λi=>by simpa using I i
  have hm:(dK.mapM λf=>(do pure (f.offset,<-sizeOf f.type):Sem (Nat×Nat))).run P w=.ok pl.toArray w:=by
   rw[Array.mapM_eq_mapM_toList];rw[map_eq_pure_bind];simp only[Sem.run_bind,F,Result.andThen_ok,Sem.run_pure]
  simp only[Instr.build,Sem.run_bind,JH M tk,Result.andThen_ok,Sem.run_pure,run_underlying bD,hm,aoS sn,aF]
theorem aoU {t e:TypeId}{n sz:Nat}{z r:List R}{ps:List (Nat×Operand)}{eC:List (Nat×Nat×bP)}{ρ:Operand->Value}{tm:Nat->R}{aW:Nat->Prop}(bD:P.underlying t=some (.array n e))(aS:zeroOf P t=some z)
  (U:gl P e=some sz) (aE:partsOf (λi=>some (i*sz,sz)) ps=some eC) (hρ:∀x y,dJ x=some y->bs w aW B (a6 tm y) (ρ x))
  (h:kv (a6 tm) z eC=some r):∃v,(Instr.build t (ps.map λp=>(p.1,ρ p.2)).toArray).run P w=.ok v w/\bs w aW B (.agg r) v:=by
 obtain⟨i,iK,M,tk,bX⟩:=Db (P:=P) (w:=w) (B:=B) (aW:=aW) aS;obtain⟨oz,aF,ab⟩:=Ny (place:=λi=>some (i*sz,sz)) hρ ps eC _ r _ aE bX h;refine⟨.agg oz,?_,by rw[show oz=oz.toList.toArray from by simp];exact .agg ab.1 ab.2⟩
 simp only[Instr.build,Sem.run_bind,JH M tk,Result.andThen_ok,Sem.run_pure,run_underlying bD,uS U,aF]
end Go.Mini
namespace Go.Mini
open Go
variable {P:Program} {A:Nat->Prop} {w:World} {B:Lay} {mem:Mem}
def aoV (n:Next)(v:Value):Prop:=n=.value v\/(n=.skip/\v=undef)
def ic (A:Nat->Prop)(w:World)(B:Lay)(run:Result Next)(mem':Mem)(r:R):Prop :=
 ∃n v aP bt,run=.ok n aP/\aoV n v/\eB A w B aP bt mem'/\bs aP (b7 A bt) bt r v
theorem ic.mo {s:Sem Value}{r:R}(bS:fm A w B mem)(h:∃v,s.run P w=.ok v w/\bs w (b7 A B) B r v):ic A w B ((do pure (.value (<-s)):Sem Next).run P w) mem r:=by
 obtain⟨v,F,I⟩:=h;exact⟨.value v,v,w,B,by simp[F],.inl rfl,.refl bS,I⟩
theorem ic.of {s:Sem Value}{mem':Mem}{r:R}(h:∃v aP bt,s.run P w=.ok v aP/\eB A w B aP bt mem'/\bs aP (b7 A bt) bt r v):ic A w B ((do pure (.value (<-s)):Sem Next).run P w) mem' r:=by
 obtain⟨v,aP,bt,F,I,af⟩:=h;exact⟨.value v,v,aP,bt,by simp[F],.inl rfl,I,af⟩
theorem ac4 {x:Option R}{r:R}{jK:Option (Key×Nat×List R)}(h:ja x=some (r,jK)):x=some r/\jK=none:=by
 unfold ja at h
 split at h<;>cases h
 exact⟨rfl,rfl⟩
theorem qt {x:Option Nat}{f:Nat->Option R}{r:R}(h:hW x f=some r):∃n,x=some n/\f n=some r:=by
 unfold hW at h
 split at h
 ·exact⟨_,rfl,h⟩
 ·cases h
theorem ac5 {x y:Option Nat}{f:Nat->Nat->Out}{r:R×Option (Key×Nat×List R)}(h:Ju x y f=some r):∃n m,x=some n/\y=some m/\f n m=some r:=by
 unfold Ju at h
 split at h
 ·exact⟨_,_,rfl,rfl,h⟩
 ·cases h
theorem Df {aW:Nat->Prop}{ρ:Operand->Value}{tm:Nat->R}(hρ:∀x y,dJ x=some y->bs w aW B (a6 tm y) (ρ x)){x:Option Operand}{y:Option bP}(h:te x=some y):re w aW B (y.map (a6 tm)) (x.map ρ):=by
 cases x with
 |none=>simp[te] at h;subst h;simp[re]
 |some x =>
  simp only[te,dR] at h;obtain⟨y',ar,rfl⟩:=h;simp only[ll,re];exact hρ _ _ ar
theorem ac6 {dK:Array Field}{f o s:Nat}(h:uO P dK f=some (o,s)):∃fd,dK[f]?=some fd/\fd.offset=o/\gl P fd.type=some s:=by
 simp only[uO,g7,hf,eo,cj,fp] at h;obtain⟨fd,F,ac7,I,af,aM⟩:=h;exact⟨fd,F,af,aM ▸ I⟩
theorem xZ {aW:Nat->Prop}{ρ:Operand->Value}{tm:Nat->R}(hρ:∀x y,dJ x=some y->bs w aW B (a6 tm y) (ρ x)):∀{l:List Operand} {r:List bP},l.mapM dJ=some r->dp w aW B (r.map (a6 tm)) (l.map ρ)
 | [],r,h=>by simp at h;subst h;exact dp.nil
 |x::l,r,h=>by
  simp only[lg,g7,hf,eo,cj] at h;obtain⟨y,ar,Fw,ab,rfl⟩:=h;exact dp.cons (hρ _ _ ar) (xZ hρ ab)
theorem Be {α β:Type}(a:Array α)(f:α->β):a.map f=(a.toList.map f).toArray:=by
 apply Array.ext';simp
theorem jd {tm:Nat->R}{m:ka}{r:R}{jK:Option (Key×Nat×List R)}{x:Option R}(h:cr mem tm m=some (r,jK))(e:cr mem tm m=ja x):x=some r/\jK=none:=ac4 (e.symm.trans h)
theorem aoW {ρ:Operand->Value}{tm:Nat->R}{kb:Nat}{own:List Nat}{dst:Option Tmp}{type:TypeId}{c:Call}{m:ka}{r:R}{jK:Option (Key×Nat×List R)}(bS:fm A w B mem)
  (hρ:∀x y,dJ x=some y->bs w (b7 A B) B (a6 tm y) (ρ x)) (aY:xQ P kb own dst type c=some m) (h:cr mem tm m=some (r,jK)) :
  ic A w B ((do let d <-resolve ρ c type;invoke d.target d.args:Sem Next).run P w) (h8 mem jK) r:=by
 obtain⟨callee,args,argTypes⟩:=c;have two:∀{α:Type} (a:Array α) (x y:α),a.toList=[x,y]->a=#[x,y]:=λa x y h=>Array.ext' (by simpa using h);have one:∀{α:Type} (a:Array α) (x:α),a.toList=[x]->a=#[x]:=λa x h=>Array.ext' (by simpa using h);unfold xQ at aY
 split at aY
 ·rename_i x t G aN bD;simp only at G aN bD;subst G;obtain rfl:=one _ _ aN;obtain rfl:=one _ _ bD
  split at aY
  ·rename_i e hu;simp only[dR] at aY;obtain⟨y,ar,rfl⟩:=aY;obtain⟨aG,rfl⟩:=jd h rfl;obtain⟨n,aK,aG⟩:=qt aG
   cases aG;have:=aok (P:=P) (w:=w) t type e hu (hρ _ _ ar) aK;exact⟨.value _,_,w,B,by simp[resolve,invoke,builtin,this],.inl rfl,.refl bS,.J .int⟩
  ·rename_i hu;simp only[dR] at aY;obtain⟨y,ar,rfl⟩:=aY;obtain⟨aG,rfl⟩:=jd h rfl;obtain⟨n,aK,aG⟩:=qt aG
   cases aG;have:=aol (P:=P) (w:=w) t type hu (hρ _ _ ar) aK;exact⟨.value _,_,w,B,by simp[resolve,invoke,builtin,this],.inl rfl,.refl bS,.J .int⟩
  ·cases aY
 ·rename_i s x t u G aN bD;simp only at G aN bD;subst G;obtain rfl:=two _ _ _ aN;obtain rfl:=two _ _ _ bD
  split at aY
  ·rename_i e aC hu ac8;simp only[g7,hf,eo] at aY;obtain⟨z,aS,b,ah,n,aK,d,aa,ac7,iL,je,uZ,aQ⟩:=aY
   split at aQ
   ·rename_i hp;obtain⟨rfl,al,rfl⟩:=hp
    cases aQ;simp only[cr] at h
    cases e8:qk mem (D z) (a6 tm je) with
    |none =>
     rw[e8] at h
     revert h
     cases a6 tm ac7<;>simp[q6]
    |some p =>
     obtain⟨k,new⟩:=p;rw[e8] at h;obtain⟨v,aP,bt,F,I,af⟩:=aoK (ty:=type) _ bS hu aS aK ah al (hρ _ _ iL) (hρ _ _ uZ) e8 h;exact⟨.value v,v,aP,bt,by simp[resolve,invoke,builtin,F],.inl rfl,I,af⟩
   ·cases aQ
  ·cases aY
 ·rename_i aGm x t u G aN bD;simp only at G aN bD;subst G;obtain rfl:=two _ _ _ aN;obtain rfl:=two _ _ _ bD
  split at aY
  ·rename_i e aC hu ac8;simp only[g7,hf,eo] at aY;obtain⟨n,aK,aQ⟩:=aY
   split at aQ
   ·rename_i al;simp only[eo,cj] at aQ;obtain⟨x0,nb,je,uZ,rfl⟩:=aQ;simp only[cr] at h
    cases e8:qk mem n (a6 tm je) with
    |none =>
     rw[e8] at h
     revert h
     cases a6 tm x0<;>simp[wh]
    |some p =>
     obtain⟨k,new⟩:=p;rw[e8] at h;obtain⟨v,aP,F,I,af⟩:=aoM (u:=u) (ty:=type) bS hu aK (hρ _ _ nb) (hρ _ _ uZ) e8 h;exact⟨.value v,v,aP,B,by simp[resolve,invoke,builtin,F],.inl rfl,I,af⟩
   ·cases aQ
  ·cases aY
 ·rename_i x t G aN bD;simp only at G aN bD;subst G;obtain rfl:=one _ _ aN;obtain rfl:=one _ _ bD
  split at aY
  ·rename_i e hu;simp only[g7,hf,eo] at aY;obtain⟨z,aS,n,aK,aQ⟩:=aY
   split at aQ
   ·rename_i al;simp only[eo,cj] at aQ;obtain⟨je,uZ,rfl⟩:=aQ;simp only[cr] at h;obtain⟨v,aP,F,I,af⟩:=aoO (ty:=type) bS hu aS (by omega) (hρ _ _ uZ) h;exact⟨.value v,v,aP,B,by simp[resolve,invoke,builtin,F],.inl rfl,I,af⟩
   ·cases aQ
  ·cases aY
 ·rename_i x y G aN;simp only at G aN;subst G;obtain rfl:=two _ _ _ aN;simp only[g7,hf,eo,cj] at aY;obtain⟨je,O,y',ar,rfl⟩:=aY;obtain⟨aG,rfl⟩:=jd h rfl;obtain⟨z,F,I⟩:=acK (P:=P) argTypes type (hρ _ _ O) (hρ _ _ ar) aG;simp only[if_true] at F;exact⟨.value z,z,w,B,by simp[resolve,invoke,builtin,F],.inl rfl,.refl bS,I⟩
 ·rename_i x y G aN;simp only at G aN;subst G;obtain rfl:=two _ _ _ aN;simp only[g7,hf,eo,cj] at aY;obtain⟨je,O,y',ar,rfl⟩:=aY;obtain⟨aG,rfl⟩:=jd h rfl;obtain⟨z,F,I⟩:=acK (P:=P) argTypes type (hρ _ _ O) (hρ _ _ ar) aG;simp only[kO,if_false] at F;exact⟨.value z,z,w,B,by simp[resolve,invoke,builtin,F],.inl rfl,.refl bS,I⟩
 ·split at aY
  ·split at aY
   ·simp only[g7,hf,eo,cj] at aY;obtain⟨_,_,_,_,_,_,rfl⟩:=aY
    cases h
   ·cases aY
  ·split at aY
   ·(repeat' split at aY)<;>simp only[g7,hf,eo,cj] at aY
    all_goals
     obtain⟨_,_,rfl⟩:=aY
     cases h
   ·simp only[g7,hf,eo,cj] at aY;obtain⟨_,_,rfl⟩:=aY
    cases h
 ·simp only[g7,hf,eo,cj] at aY;obtain⟨_,_,_,_,rfl⟩:=aY
  cases h
 ·cases aY
theorem ac9 {ρ:Operand->Value}{tm:Nat->R}{kb:Nat}{own:List Nat}{o:Oper}{m:ka}{r:R}{jK:Option (Key×Nat×List R)}(bS:fm A w B mem)
  (hρ:∀x y,dJ x=some y->bs w (b7 A B) B (a6 tm y) (ρ x)) (aY:jG P kb own o.dst o.type o.op=some m) (h:cr mem tm m=some (r,jK)) :
  ic A w B ((execOp ρ o).run P w) (h8 mem jK) r:=by
 obtain⟨dst,op,type,pos,after,guard⟩:=o;simp only at aY
 cases op<;>simp only[jG] at aY<;>simp only[execOp]
 case move x =>
  simp only[dR] at aY;obtain⟨y,ar,rfl⟩:=aY;obtain⟨aG,rfl⟩:=jd (x:=some (a6 tm y)) h rfl
  cases aG;exact⟨_,_,w,B,rfl,.inl rfl,.refl bS,hρ _ _ ar⟩
 case assign x =>
  simp only[dR] at aY;obtain⟨y,ar,rfl⟩:=aY;obtain⟨aG,rfl⟩:=jd (x:=some (a6 tm y)) h rfl
  cases aG;exact⟨_,_,w,B,rfl,.inl rfl,.refl bS,hρ _ _ ar⟩
 case pick c a b =>
  simp only[g7,hf,eo,cj] at aY;obtain⟨c',G,jJ,aN,ek,ah,rfl⟩:=aY;obtain⟨aG,rfl⟩:=jd h rfl;have:=ic.mo bS (an8 (P:=P) (hρ _ _ G) (hρ _ _ aN) (hρ _ _ ah) aG)
  simpa [h8] using this
 case alloc e =>
  simp only[g7,hf,eo,cj] at aY;obtain⟨d,aa,z,aS,rfl⟩:=aY;simp only[cr,cj,fp] at h;obtain⟨rfl,rfl⟩:=h;exact ic.of (aox _ bS aS)
 case box e x =>
  simp only[g7,hf,eo,cj] at aY;obtain⟨d,aa,y,ar,rfl⟩:=aY;simp only[cr] at h
  split at h
  ·rename_i Q;simp only[cj,fp] at h;obtain⟨rfl,rfl⟩:=h;exact ic.of (aoy _ bS (hρ _ _ ar) Q)
  ·cases h
 case build t ps =>
  split at aY
  ·rename_i dK hu
   split at aY
   ·rename_i aN;simp only[g7,hf,eo,cj] at aY;obtain⟨z,aS,eC,Bb,rfl⟩:=aY;obtain⟨aG,rfl⟩:=jd h rfl;simp only[kN,dR] at aG;obtain⟨cs,jI,rfl⟩:=aG;rw[Be];exact ic.mo bS (aoT hu aS aN Bb hρ jI)
   ·cases aY
  ·rename_i n e hu;simp only[g7,hf,eo,cj] at aY;obtain⟨s,U,z,aS,eC,Bb,rfl⟩:=aY;obtain⟨aG,rfl⟩:=jd h rfl;simp only[kN,dR] at aG;obtain⟨cs,jI,rfl⟩:=aG;rw[Be];exact ic.mo bS (aoU hu aS U Bb hρ jI)
  ·cases aY
 case buildSlice t len ps =>
  split at aY
  ·rename_i e hu;simp only[g7,hf,eo] at aY;obtain⟨z,aS,s,U,eC,Bb,d,aa,aQ⟩:=aY
   split at aQ
   ·rename_i G;obtain⟨wq,al,aq⟩:=G;simp only[cj] at aQ;subst aQ;rw[Be]
    cases nR:own.contains d with
    |true =>
     rw[nR] at h;exact ic.of (aoF _ bS hu aS U wq al aq Bb hρ h)
    |false =>
     rw[nR] at h;obtain⟨aG,rfl⟩:=jd h rfl;obtain⟨v,aP,F,I,af⟩:=aoE bS hu aS U wq al aq Bb hρ aG;exact ic.of ⟨v,aP,B,F,I,af⟩
   ·cases aQ
  ·cases aY
 case load t x =>
  simp only[g7,hf,eo,cj] at aY;obtain⟨n,aK,g,bc,y,ar,rfl⟩:=aY;obtain⟨aG,rfl⟩:=jd h rfl;exact ic.mo bS (an7 aK bc bS (hρ _ _ ar) aG)
 case store t x v =>
  simp only[g7,hf,eo,cj] at aY;obtain⟨n,aK,je,O,C7,hv,rfl⟩:=aY;obtain⟨aP,F,I,rfl⟩:=aoA bS aK (hρ _ _ O) (hρ _ _ hv) h;exact⟨.skip,undef,aP,B,by simp[F],.inr ⟨rfl,rfl⟩,I,.no⟩
 case nilCheck x =>
  simp only[dR] at aY;obtain⟨y,ar,rfl⟩:=aY;obtain⟨aG,rfl⟩:=jd h rfl;obtain⟨⟨b,off,O⟩,ab⟩:=aom (hρ _ _ ar) aG;rw[O] at ab ⊢;exact⟨_,_,w,B,rfl,.inl rfl,.refl bS,ab⟩
 case binOp bop t x y pos2 =>
  unfold zb at aY
  split at aY
  ·split at aY
   ·rename_i je y' O ar
    cases aY;obtain⟨aG,rfl⟩:=jd h rfl;exact ic.mo bS (acA t x y (hρ _ _ O) (hρ _ _ ar) aG)
   ·cases aY
  ·split at aY
   ·rename_i je y' O ar
    cases aY;obtain⟨aG,rfl⟩:=jd h rfl;exact ic.mo bS (acA t x y (hρ _ _ O) (hρ _ _ ar) aG)
   ·cases aY
  ·rename_i hu
   split at aY
   ·rename_i je y' O ar
    cases aY;obtain⟨aG,rfl⟩:=jd h rfl;exact ic.mo bS (acB (neg:=false) t x y hu (hρ _ _ O) (hρ _ _ ar) aG)
   ·rename_i je y' O ar
    cases aY;obtain⟨aG,rfl⟩:=jd h rfl;exact ic.mo bS (acB (neg:=true) t x y hu (hρ _ _ O) (hρ _ _ ar) aG)
   ·cases aY
  ·rename_i dK hu
   split at aY
   ·unfold wk at aY
    split at aY
    ·rename_i G
     split at aY
     ·rename_i gP je y' Q O ar
      cases aY;obtain⟨aG,rfl⟩:=jd h rfl;exact ic.mo bS (acH (neg:=false) t x y dK hu G.1 G.2 Q (hρ _ _ O) (hρ _ _ ar) aG)
     ·cases aY
    ·cases aY
   ·unfold wk at aY
    split at aY
    ·rename_i G
     split at aY
     ·rename_i gP je y' Q O ar
      cases aY;obtain⟨aG,rfl⟩:=jd h rfl;exact ic.mo bS (acH (neg:=true) t x y dK hu G.1 G.2 Q (hρ _ _ O) (hρ _ _ ar) aG)
     ·cases aY
    ·cases aY
   ·cases aY
  ·split at aY
   ·split at aY
    ·simp only[dR] at aY;obtain⟨_,_,rfl⟩:=aY
     cases h
    ·simp only[dR] at aY;obtain⟨_,_,rfl⟩:=aY
     cases h
    ·cases aY
   ·cases aY
  ·cases aY
 case unOp uop t x =>
  simp only[dR] at aY;obtain⟨y,ar,rfl⟩:=aY;obtain⟨aG,rfl⟩:=jd h rfl;exact ic.mo bS (an9 (hρ _ _ ar) aG)
 case convert s t x =>
  split at aY
  ·rename_i gP k U bD;simp only[dR] at aY;obtain⟨y,ar,rfl⟩:=aY;obtain⟨aG,rfl⟩:=jd h rfl;exact ic.mo bS (aoa s t gP U bD (hρ _ _ ar) aG)
  ·cases aY
 case makeFunc fn first eO =>
  cases fn<;>simp only[reduceCtorEq] at aY
  split at aY
  ·rename_i eW;simp only[g7,hf,eo,cj] at aY;obtain⟨cs,jI,rfl⟩:=aY;obtain⟨aG,rfl⟩:=jd (x:=some (.fy _ (cs.map (a6 tm)))) h rfl
   cases aG;have aoX:first=#[]:=Array.eq_empty_of_size_eq_zero eW
   subst aoX;have aq:=xZ hρ jI;exact ic.mo bS ⟨_,by rw[Be eO,Array.map_empty];rfl,.fy aq.1 aq.2⟩
  ·cases aY
 case makeSlice t l c =>
  split at aY
  ·rename_i e he;simp only[g7,hf,eo] at aY;obtain⟨z,aS,s,U,b,ah,d,aa,aQ⟩:=aY
   split at aQ
   ·rename_i G;simp only[eo,cj] at aQ;obtain⟨fr,aq,c',lN,rfl⟩:=aQ;simp only[cr] at h;obtain⟨hC,ie,F,I,af⟩:=ac5 h;obtain⟨rfl,al⟩:=G;exact ic.of (aoz _ bS he aS U ah F I (hρ _ _ aq) (hρ _ _ lN) al af)
   ·cases aQ
  ·cases aY
 case slice t x cy M kd =>
  split at aY
  ·rename_i e hu;simp only[g7,hf,eo] at aY;obtain⟨s,U,aQ⟩:=aY
   split at aQ
   ·simp only[eo,cj] at aQ;obtain⟨y,ar,ada,fQ,kf,jb,JQ,hY,rfl⟩:=aQ;have mQ:=Df hρ fQ;have lM:=Df hρ jb;have FB:=Df hρ hY
    cases JQ with
    |none =>
     cases kd with
     |some v=>simp[te,dR] at hY
     |none =>
      obtain⟨aG,rfl⟩:=jd h rfl;obtain⟨l,aq,aG⟩:=qt aG;obtain⟨len,hlen,aG⟩:=qt aG;obtain⟨aQ,Dg,aG⟩:=qt aG;exact ic.mo bS (aoq hu U aq hlen Dg mQ lM (hρ _ _ ar) aG)
    |some JQ =>
     cases kf with
     |none=>cases h
     |some kf =>
      cases M with
      |none=>simp[re] at lM
      |some M =>
       cases kd with
       |none=>simp[re] at FB
       |some kd =>
        obtain⟨aG,rfl⟩:=jd h rfl;obtain⟨l,aq,aG⟩:=qt aG;obtain⟨aQ,Dg,aG⟩:=qt aG;obtain⟨m,hm,aG⟩:=qt aG;exact ic.mo bS (aos hu U aq Dg hm mQ lM FB (hρ _ _ ar) aG)
   ·cases aQ
  ·rename_i n e hu;simp only[g7,hf,eo] at aY;obtain⟨s,U,aQ⟩:=aY
   split at aQ
   ·rename_i G;simp only[eo,cj] at aQ;obtain⟨y,ar,ada,fQ,kf,jb,JQ,hY,rfl⟩:=aQ;have mQ:=Df hρ fQ;have lM:=Df hρ jb
    cases JQ with
    |none =>
     cases kd with
     |some v=>simp[te,dR] at hY
     |none =>
      obtain⟨aG,rfl⟩:=jd h rfl;obtain⟨l,aq,aG⟩:=qt aG;obtain⟨aQ,Dg,aG⟩:=qt aG;exact ic.mo bS (aoQ bS hu U G.2 aq Dg mQ lM (hρ _ _ ar) aG)
    |some JQ=>cases h
   ·cases aQ
  ·rename_i hu
   split at aY
   ·rename_i hY;simp only[g7,hf,eo,cj] at aY;obtain⟨y,ar,ada,fQ,kf,jb,rfl⟩:=aY;have mQ:=Df hρ fQ;have lM:=Df hρ jb
    cases kd with
    |some v=>cases hY
    |none =>
     obtain⟨aG,rfl⟩:=jd h rfl;obtain⟨l,aq,aG⟩:=qt aG;obtain⟨len,hlen,aG⟩:=qt aG;obtain⟨aQ,Dg,aG⟩:=qt aG;exact ic.mo bS (aot hu aq hlen Dg mQ lM (hρ _ _ ar) aG)
   ·cases aY
  ·cases aY
 case fieldAddr t x f =>
  split at aY
  ·rename_i dK hu;simp only[g7,hf,eo] at aY;obtain⟨⟨o,s⟩,aE,aQ⟩:=aY
   split at aQ
   ·rename_i al;simp only[eo,cj] at aQ;obtain⟨y,ar,rfl⟩:=aQ;obtain⟨fd,F,I,af⟩:=ac6 aE;obtain⟨aG,rfl⟩:=jd h rfl;exact ic.mo bS (aob t f dK fd s hu F af al I (hρ _ _ ar) aG)
   ·cases aQ
  ·cases aY
 case field t x f =>
  split at aY
  ·rename_i dK hu;simp only[g7,hf,eo,cj] at aY;obtain⟨fd,Tb,⟨o,s⟩,aE,g,bc,y,ar,rfl⟩:=aY;obtain⟨aGn,F,I,af⟩:=ac6 aE;rw[Tb] at F
   cases F;obtain⟨aG,rfl⟩:=jd h rfl;exact ic.mo bS (aoe t f dK fd hu Tb af bc I (hρ _ _ ar) aG)
  ·cases aY
 case indexAddr t x i =>
  split at aY
  ·rename_i e hu;simp only[g7,hf,eo] at aY;obtain⟨s,U,aQ⟩:=aY
   split at aQ
   ·simp only[eo,cj] at aQ;obtain⟨y,ar,j,aj,rfl⟩:=aQ;obtain⟨aG,rfl⟩:=jd h rfl;obtain⟨n,aK,aG⟩:=qt aG;obtain⟨k,Q⟩:=Fz aK (hρ _ _ aj);rw[Q];exact ic.mo bS (aog t e hu U (hρ _ _ ar) aG)
   ·cases aQ
  ·rename_i len e hu;simp only[g7,hf,eo] at aY;obtain⟨s,U,aQ⟩:=aY
   split at aQ
   ·simp only[eo,cj] at aQ;obtain⟨y,ar,j,aj,rfl⟩:=aQ;obtain⟨aG,rfl⟩:=jd h rfl;obtain⟨n,aK,aG⟩:=qt aG;obtain⟨k,Q⟩:=Fz aK (hρ _ _ aj);rw[Q];exact ic.mo bS (aoh t e hu U (hρ _ _ ar) aG)
   ·cases aQ
  ·cases aY
 case index t x i =>
  split at aY
  ·rename_i hu;simp only[g7,hf,eo,cj] at aY;obtain⟨y,ar,j,aj,rfl⟩:=aY;obtain⟨aG,rfl⟩:=jd h rfl;obtain⟨n,aK,aG⟩:=qt aG;obtain⟨k,Q⟩:=Fz aK (hρ _ _ aj);rw[Q];exact ic.mo bS (aoi t hu (hρ _ _ ar) aG)
  ·cases aY
 case extract x i =>
  simp only[dR] at aY;obtain⟨y,ar,rfl⟩:=aY;obtain⟨aG,rfl⟩:=jd h rfl;exact ic.mo bS (aoj (hρ _ _ ar) aG)
 case call c =>
  exact aoW bS hρ aY h
 all_goals cases aY
end Go.Mini
namespace Go.Mini
open Go
inductive gz where
 |code (c:eA)
 |inBlock (id:Nat)
def cG (T:bh)(K:eX->bd->Prop):List gz->eX->bd->Prop
 | [],e,st=>K e st
 |.code c::k,.normal,st=>wp T c (cG T K k) st
 |.code _::k,.exit id,st=>cG T K k (.exit id) st
 |.code _::k,.ret,st=>cG T K k .ret st
 |.inBlock _::k,.normal,st=>cG T K k .normal st
 |.inBlock j::k,.exit id,st=>if id=j then cG T K k .normal st else cG T K k (.exit id) st
 |.inBlock _::k,.ret,st=>cG T K k .ret st
section
variable {T:bh} {K:eX->bd->Prop} {k:List gz} {st:bd}
theorem aoY (c:eA):(λe dO=>match e with
  |.normal=>wp T c (cG T K k) dO
  |e=>cG T K k e dO)=cG T K (.code c::k):=by
 funext e dO
 cases e<;>rfl
theorem aoZ (id:Nat):(λe dO=>match e with
  |.exit j=>if j=id then cG T K k .normal dO else cG T K k (.exit j) dO
  |e=>cG T K k e dO)=cG T K (.inBlock id::k):=by
 funext e dO
 cases e<;>rfl
@[go_sem] theorem ao0 (e:eX):cG T K [] e st=K e st:=by cases e<;>rfl
@[go_sem] theorem aGo (c:eA):cG T K (.code c::k) .normal st=wp T c (cG T K k) st:=bz
@[go_sem] theorem aGp (c:eA)(id:Nat):cG T K (.code c::k) (.exit id) st=cG T K k (.exit id) st:=bz
@[go_sem] theorem aGq (c:eA):cG T K (.code c::k) .ret st=cG T K k .ret st:=bz
@[go_sem] theorem aGr (id:Nat):cG T K (.inBlock id::k) .normal st=cG T K k .normal st:=bz
@[go_sem] theorem aGs (id j:Nat):cG T K (.inBlock j::k) (.exit id) st=if id=j then cG T K k .normal st else cG T K k (.exit id) st:=bz
@[go_sem] theorem aGt (id:Nat):cG T K (.inBlock id::k) .ret st=cG T K k .ret st:=bz
theorem tn {c:eA}(h:wp T c (cG T K []) st):wp T c K st:=by
 have:cG T K []=K:=by funext e st;cases e<;>rfl
 rwa [this] at h
@[go_sem] theorem wp_seq (a b:eA):wp T (.seq a b) (cG T K k) st=wp T a (cG T K (.code b::k)) st:=by
 rw[<-aoY];rfl
@[go_sem] theorem wp_skip:wp T .skip (cG T K k) st=cG T K k .normal st:=bz
@[go_sem] theorem wp_ret:wp T .ret (cG T K k) st=cG T K k .ret st:=bz
@[go_sem] theorem wp_exit (id:Nat):wp T (.exit id) (cG T K k) st=cG T K k (.exit id) st:=bz
@[go_sem] theorem wp_block (id:Nat)(c:eA):wp T (.block id c) (cG T K k) st=wp T c (cG T K (.inBlock id::k)) st:=by
 rw[<-aoZ];rfl
def qu (T:bh)(K:eX->bd->Prop)(k:List gz)(m:R)(a b:eA)(st:bd):Prop :=
 match m with
 |.J (.bool t)=>if t=true then wp T a (cG T K k) st else wp T b (cG T K k) st
 |_=>False
@[go_sem] theorem wp_cond (c:bP)(a b:eA):wp T (.cond c a b) (cG T K k) st=qu T K k (a6 st.tm c) a b st:=bz
@[go_sem] theorem ao1 (a b:eA):qu T K k (.J (.bool true)) a b st=wp T a (cG T K k) st:=bz
@[go_sem] theorem ao2 (a b:eA):qu T K k (.J (.bool false)) a b st=wp T b (cG T K k) st:=bz
def FN (T:bh)(K:eX->bd->Prop)(k:List gz)(l:List c9)(st:bd):Prop:=xP T (cG T K k .normal) l st
@[go_sem] theorem wp_ops (l:List c9):wp T (.ops l) (cG T K k) st=FN T K k l st:=bz
@[go_sem] theorem aGu:FN T K k [] st=cG T K k .normal st:=bz
def ri (T:bh)(K:eX->bd->Prop)(k:List gz)(g:Option Bool)(i:c9)(r:List c9)(st:bd):Prop :=
 match g with
 |none=>False
 |some g=>if g=true then gx T (xP T (cG T K k .normal) r) i st else FN T K k r ⟨put st.tm i.dst .no,st.mem⟩
@[go_sem] theorem aGv (i:c9)(r:List c9):FN T K k (i::r) st=ri T K k (o1 st.tm i.g) i r st:=bz
@[go_sem] theorem aGw (i:c9)(r:List c9):ri T K k (some true) i r st=gx T (FN T K k r) i st:=bz
@[go_sem] theorem aGx (i:c9)(r:List c9):ri T K k (some false) i r st=FN T K k r ⟨put st.tm i.dst .no,st.mem⟩:=bz
def Bf (T:bh)(K:eX->bd->Prop)(k:List gz)(n:Nat)(l:List c9)(c:List (List Nat))(rec:Rec)(st:bd):Prop:=wj T (cG T K k .normal) n l c rec st
@[go_sem] theorem aGy (l:List c9)(c:List (List Nat)):wp T (.nK l c) (cG T K k) st=Bf T K k 0 l c (λ_=>none) st:=bz
@[go_sem] theorem aGz (n:Nat)(c:List (List Nat))(rec:Rec):Bf T K k n [] c rec st=cG T K k .normal st:=bz
def rj (T:bh)(K:eX->bd->Prop)(k:List gz)(n:Nat)(g:Option Bool)(i:c9)(r:List c9)(c:List (List Nat))(rec:Rec)(st:bd):Prop :=
 match g with
 |none=>False
 |some g=>if g=true then (match ho T st.mem st.tm i.op with
    |some (m,e)=>Fm rec (jF i.op,dG st.tm i.op) (c.headD [])=true/\Bf T K k (n+1) r c.tail (uN rec n (jF i.op,dG st.tm i.op)) ⟨put st.tm i.dst m,h8 st.mem e⟩
    |none=>False) else Bf T K k (n+1) r c.tail rec ⟨put st.tm i.dst .no,st.mem⟩
@[go_sem] theorem aGA (n:Nat)(i:c9)(r:List c9)(c:List (List Nat))(rec:Rec):Bf T K k n (i::r) c rec st=rj T K k n (o1 st.tm i.g) i r c rec st:=bz
def adb (T:bh)(K:eX->bd->Prop)(k:List gz)(n:Nat)(x:Option (R×Option (Key×Nat×List R)))(i:c9)(r:List c9)(c:List (List Nat))(rec:Rec)(st:bd):Prop :=
 match x with
 |some (m,e)=>Fm rec (jF i.op,dG st.tm i.op) (c.headD [])=true/\Bf T K k (n+1) r c.tail (uN rec n (jF i.op,dG st.tm i.op)) ⟨put st.tm i.dst m,h8 st.mem e⟩
 |none=>False
@[go_sem] theorem aGB (n:Nat)(i:c9)(r:List c9)(c:List (List Nat))(rec:Rec):rj T K k n (some true) i r c rec st=adb T K k n (ho T st.mem st.tm i.op) i r c rec st:=bz
@[go_sem] theorem aGC (n:Nat)(i:c9)(r:List c9)(c:List (List Nat))(rec:Rec):rj T K k n (some false) i r c rec st=Bf T K k (n+1) r c.tail rec ⟨put st.tm i.dst .no,st.mem⟩:=bz
@[go_sem] theorem aGD (n:Nat)(m:R)(e:Option (Key×Nat×List R))(i:c9)(r:List c9)(c:List (List Nat))(rec:Rec):adb T K k n (some (m,e)) i r c rec st =
 (Fm rec (jF i.op,dG st.tm i.op) (c.headD [])=true/\Bf T K k (n+1) r c.tail (uN rec n (jF i.op,dG st.tm i.op)) ⟨put st.tm i.dst m,h8 st.mem e⟩):=bz
end
section
variable {T:bh} {K:bd->Prop} {st:bd} {tm:Nat->R} {mem:Mem}
def wpS (K:bd->Prop)(x:Option (R×Option (Key×Nat×List R)))(d:Option Nat)(st:bd):Prop :=
 match x with
 |some (m,e)=>K ⟨put st.tm d m,h8 st.mem e⟩
 |none=>False
@[go_sem] theorem aGE (m:R)(e:Option (Key×Nat×List R))(d:Option Nat):wpS K (some (m,e)) d st=K ⟨put st.tm d m,h8 st.mem e⟩:=bz
variable (d:Option Nat) (g:Option (Nat×Bool))
@[go_sem] theorem aGF (x:bP):gx T K ⟨d,g,.cQ x⟩ st=K ⟨put st.tm d (a6 st.tm x),st.mem⟩:=bz
@[go_sem] theorem aGG (c a b:bP):gx T K ⟨d,g,.pick c a b⟩ st=wpS K (cr st.mem st.tm (.pick c a b)) d st:=bz
@[go_sem] theorem aGH (k:Key)(z:List R):gx T K ⟨d,g,.alloc k z⟩ st=K ⟨put st.tm d (.ptr k (bU st.mem k) 0),aZ st.mem k (bU st.mem k) z⟩:=bz
@[go_sem] theorem aGI (k:Key)(x:bP):gx T K ⟨d,g,.box k x⟩ st=wpS K (cr st.mem st.tm (.box k x)) d st:=bz
@[go_sem] theorem aGJ (z:List R)(ps:List (Nat×Nat×bP)):gx T K ⟨d,g,.build z ps⟩ st=wpS K (cr st.mem st.tm (.build z ps)) d st:=bz
@[go_sem] theorem aGK (k:Key)(o:Bool)(z:List R)(sz len:Nat)(ps:List (Nat×Nat×bP)):gx T K ⟨d,g,.fc k o z sz len ps⟩ st=wpS K (cr st.mem st.tm (.fc k o z sz len ps)) d st:=bz
@[go_sem] theorem aGL (n:Nat)(dU:Bool)(x:bP):gx T K ⟨d,g,.load n dU x⟩ st=wpS K (cr st.mem st.tm (.load n dU x)) d st:=bz
@[go_sem] theorem aGM (n:Nat)(x v:bP):gx T K ⟨d,g,.store n x v⟩ st=wpS K (cr st.mem st.tm (.store n x v)) d st:=bz
@[go_sem] theorem aGN (op:BinOp)(x y:bP):gx T K ⟨d,g,.bin op x y⟩ st=wpS K (cr st.mem st.tm (.bin op x y)) d st:=bz
@[go_sem] theorem aGO (b:Bool)(n:List Nat)(x y:bP):gx T K ⟨d,g,.eqs b n x y⟩ st=wpS K (cr st.mem st.tm (.eqs b n x y)) d st:=bz
@[go_sem] theorem aGP (b:Bool)(x y:bP):gx T K ⟨d,g,.beq b x y⟩ st=wpS K (cr st.mem st.tm (.beq b x y)) d st:=bz
@[go_sem] theorem aGQ (op:UnOp)(x:bP):gx T K ⟨d,g,.un op x⟩ st=wpS K (cr st.mem st.tm (.un op x)) d st:=bz
@[go_sem] theorem aGR (k:IntKind)(x:bP):gx T K ⟨d,g,.conv k x⟩ st=wpS K (cr st.mem st.tm (.conv k x)) d st:=bz
@[go_sem] theorem aGS (x:bP):gx T K ⟨d,g,.sd x⟩ st=wpS K (cr st.mem st.tm (.sd x)) d st:=bz
@[go_sem] theorem aGT (k:Key)(z:List R)(b:Nat)(x y:bP):gx T K ⟨d,g,.mc k z b x y⟩ st=wpS K (cr st.mem st.tm (.mc k z b x y)) d st:=bz
@[go_sem] theorem aGU (o:Nat)(x:bP):gx T K ⟨d,g,.dQ o x⟩ st=wpS K (cr st.mem st.tm (.dQ o x)) d st:=bz
@[go_sem] theorem aGV (o n:Nat)(dU:Bool)(x:bP):gx T K ⟨d,g,.CZ o n dU x⟩ st=wpS K (cr st.mem st.tm (.CZ o n dU x)) d st:=bz
@[go_sem] theorem aGW (s:Nat)(x i:bP):gx T K ⟨d,g,.m8 s x i⟩ st=wpS K (cr st.mem st.tm (.m8 s x i)) d st:=bz
@[go_sem] theorem aGX (n s:Nat)(x i:bP):gx T K ⟨d,g,.o0 n s x i⟩ st=wpS K (cr st.mem st.tm (.o0 n s x i)) d st:=bz
@[go_sem] theorem aGY (x i:bP):gx T K ⟨d,g,.idxs x i⟩ st=wpS K (cr st.mem st.tm (.idxs x i)) d st:=bz
@[go_sem] theorem aGZ (s:Nat)(x:bP)(a b c:Option bP):gx T K ⟨d,g,.ou s x a b c⟩ st=wpS K (cr st.mem st.tm (.ou s x a b c)) d st:=bz
@[go_sem] theorem aG0 (n s:Nat)(x:bP)(a b c:Option bP):gx T K ⟨d,g,.tb n s x a b c⟩ st=wpS K (cr st.mem st.tm (.tb n s x a b c)) d st:=bz
@[go_sem] theorem aG1 (x:bP)(a b:Option bP):gx T K ⟨d,g,.C0 x a b⟩ st=wpS K (cr st.mem st.tm (.C0 x a b)) d st:=bz
@[go_sem] theorem aG2 (i:Nat)(x:bP):gx T K ⟨d,g,.ext i x⟩ st=wpS K (cr st.mem st.tm (.ext i x)) d st:=bz
@[go_sem] theorem aG3 (x:bP):gx T K ⟨d,g,.len x⟩ st=wpS K (cr st.mem st.tm (.len x)) d st:=bz
@[go_sem] theorem aG4 (x:bP):gx T K ⟨d,g,.lens x⟩ st=wpS K (cr st.mem st.tm (.lens x)) d st:=bz
@[go_sem] theorem aG5 (k:Key)(z:List R)(b:Nat)(s x:bP):gx T K ⟨d,g,.app k z b s x⟩ st=wpS K (cr st.mem st.tm (.app k z b s x)) d st:=bz
@[go_sem] theorem aG6 (z:List R)(x:bP):gx T K ⟨d,g,.sg z x⟩ st=wpS K (cr st.mem st.tm (.sg z x)) d st:=bz
@[go_sem] theorem aG7 (s:Nat)(x y:bP):gx T K ⟨d,g,.se s x y⟩ st=wpS K (cr st.mem st.tm (.se s x y)) d st:=bz
@[go_sem] theorem aG8 (b:Bool)(x y:bP):gx T K ⟨d,g,.iJ b x y⟩ st=wpS K (cr st.mem st.tm (.iJ b x y)) d st:=bz
@[go_sem] theorem aG9 (f:FuncId)(l:List bP):gx T K ⟨d,g,.pD f l⟩ st=wpS K (cr st.mem st.tm (.pD f l)) d st:=bz
def wv (K:bd->Prop)(x:Option gY)(d:Option Nat)(st:bd):Prop :=
 match x with
 |some (.same r)=>K ⟨put st.tm d (.J r),st.mem⟩
 |some (.own _ es)=>K ⟨put st.tm d (.J (.Y es)),st.mem⟩
 |some (.rel cg)=>∀r mem',cg r mem'->K ⟨put st.tm d r,mem'⟩
 |some (.e3 r k g i c)=>K ⟨put st.tm d (.J r),aZ st.mem k g ((q7 st.mem k).set i c)⟩
 |some (.y9 r k)=>K ⟨put st.tm d (.J r),aZ st.mem k (bU st.mem k) []⟩
 |none=>False
@[go_sem] theorem aHa (f:FuncId)(l:List bP):gx T K ⟨d,g,.call f l⟩ st=wv K (T f (l.map (a6 st.tm)) st.mem) d st:=bz
@[go_sem] theorem aHb (r:Data)(k:Key)(g i:Nat)(c:R):wv K (some (.e3 r k g i c)) d st=K ⟨put st.tm d (.J r),aZ st.mem k g ((q7 st.mem k).set i c)⟩:=bz
@[go_sem] theorem aHc (r:Data)(k:Key):wv K (some (.y9 r k)) d st=K ⟨put st.tm d (.J r),aZ st.mem k (bU st.mem k) []⟩:=bz
@[go_sem] theorem aHd (r:Data):wv K (some (.same r)) d st=K ⟨put st.tm d (.J r),st.mem⟩:=bz
@[go_sem] theorem aHe (s:Nat)(es:List (List Data)):wv K (some (.own s es)) d st=K ⟨put st.tm d (.J (.Y es)),st.mem⟩:=bz
@[go_sem] theorem ao3 (cg:R->Mem->Prop):wv K (some (.rel cg)) d st=∀r mem',cg r mem'->K ⟨put st.tm d r,mem'⟩:=bz
def Tc (T:bh)(K:bd->Prop)(m:R)(args:List R)(d:Option Nat)(st:bd):Prop :=
 match m with
 |.fy g eO=>wv K (T g (args++eO) st.mem) d st
 |.J (.fn g ds)=>wv K (T g (args++ds.map .J) st.mem) d st
 |_=>False
@[go_sem] theorem aHf (f:bP)(l:List bP):gx T K ⟨d,g,.jD f l⟩ st=Tc T K (a6 st.tm f) (l.map (a6 st.tm)) d st:=bz
@[go_sem] theorem aHg (f:FuncId)(eO args:List R):Tc T K (.fy f eO) args d st=wv K (T f (args++eO) st.mem) d st:=bz
@[go_sem] theorem aHh (f:FuncId)(ds:List Data)(args:List R):Tc T K (.J (.fn f ds)) args d st=wv K (T f (args++ds.map .J) st.mem) d st:=bz
def Td (K:bd->Prop)(x:Option gY)(k:Key)(sz:Nat)(d:Option Nat)(st:bd):Prop :=
 match x with
 |some (.own et es)=>if et=sz then K ⟨put st.tm d (.ref k (bU st.mem k) sz 0 (D es)),aZ st.mem k (bU st.mem k) (es.flatten.map .J)⟩ else False
 |_=>False
@[go_sem] theorem aHi (k:Key)(sz:Nat)(f:FuncId)(l:List bP):gx T K ⟨d,g,.ov k sz f l⟩ st=Td K (T f (l.map (a6 st.tm)) st.mem) k sz d st:=bz
@[go_sem] theorem aHj (k:Key)(sz:Nat)(es:List (List Data)):Td K (some (.own sz es)) k sz d st=K ⟨put st.tm d (.ref k (bU st.mem k) sz 0 (D es)),aZ st.mem k (bU st.mem k) (es.flatten.map .J)⟩:=by simp[Td]
def ade (K:bd->Prop)(neg:Bool)(x:Option Bool)(d:Option Nat)(st:bd):Prop :=
 match x with
 |some full=>∀b:Bool,(full=true->b=false)->K ⟨put st.tm d (.J (.bool (neg != b))),st.mem⟩
 |none=>False
@[go_sem] theorem aHk (neg:Bool)(x:bP):gx T K ⟨d,g,.q4 neg x⟩ st=ade K neg (C1 (a6 st.tm x)) d st:=bz
@[go_sem] theorem aHl (neg full:Bool):ade K neg (some full) d st=∀b:Bool,(full=true->b=false)->K ⟨put st.tm d (.J (.bool (neg != b))),st.mem⟩:=bz
end
section
variable {tm:Nat->R} {mem:Mem}
@[go_sem] theorem aHm (s:Nat):a6 tm (.t s)=tm s:=bz
@[go_sem] theorem aHn (m:R):a6 tm (.c m)=m:=bz
@[go_sem] theorem aHo (s:Nat)(m:R):put tm (some s) m=e3 tm s m:=bz
@[go_sem] theorem aHp (m:R):put tm none m=tm:=bz
@[go_sem] theorem aHq (s:Nat)(m:R)(t:Nat):e3 tm s m t=if t=s then m else tm t:=bz
@[go_sem] theorem Bg (k:Key)(g:Nat)(cs:List R)(j:Key):aZ mem k g cs j=if j=k then some (g,cs) else mem j:=bz
@[go_sem] theorem aHr:h8 mem none=mem:=bz
@[go_sem] theorem aHs (k:Key)(g:Nat)(cs:List R):h8 mem (some (k,g,cs))=aZ mem k g cs:=bz
def gA:Option (Nat×List R)->Nat
 |none=>0
 |some (g,_)=>g+1
@[go_sem] theorem aHt (k:Key):bU mem k=gA (mem k):=by unfold bU gA;rfl
@[go_sem] theorem aHu:gA none=0:=bz
@[go_sem] theorem aHv (g:Nat)(cs:List R):gA (some (g,cs))=g+1:=bz
@[go_sem] theorem aHw (k:Key):emp k=none:=bz
@[go_sem] theorem aHx:o1 tm none=some true:=bz
def NJ (m:R)(b:Bool):Option Bool :=
 match m with
 |.J (.bool t)=>some (t==b)
 |.no=>some false
 |_=>none
@[go_sem] theorem aHy (s:Nat)(b:Bool):o1 tm (some (s,b))=NJ (tm s) b:=bz
@[go_sem] theorem aHz (b:Bool):NJ .no b=some false:=bz
variable (op:ka)
@[go_sem] theorem aHA (m:R):ja (some m)=some (m,none):=bz
@[go_sem] theorem aHB (x:bP):cr mem tm (.cQ x)=some (a6 tm x,none):=bz
@[go_sem] theorem aHC (c a b:bP):cr mem tm (.pick c a b)=ja (Fh (a6 tm c) (a6 tm a) (a6 tm b)):=bz
@[go_sem] theorem aHD (a b:R):Fh (.J (.bool true)) a b=some a:=bz
@[go_sem] theorem aHE (a b:R):Fh (.J (.bool false)) a b=some b:=bz
@[go_sem] theorem aHF (k:Key)(z:List R):cr mem tm (.alloc k z)=some (.ptr k (bU mem k) 0,some (k,bU mem k,z)):=bz
@[go_sem] theorem aHG (k:Key)(x:bP):cr mem tm (.box k x)=if (a6 tm x).known=true then some (.ptr k (bU mem k) 0,some (k,bU mem k,(a6 tm x).cells)) else none:=bz
@[go_sem] theorem aHH (z:List R)(ps:List (Nat×Nat×bP)):cr mem tm (.build z ps)=ja ((kv (a6 tm) z ps).map .agg):=bz
@[go_sem] theorem aHI (k:Key)(z:List R)(sz len:Nat)(ps:List (Nat×Nat×bP)):cr mem tm (.fc k false z sz len ps)=ja (Jg z sz len (kv (a6 tm) z ps)):=bz
@[go_sem] theorem aHJ (k:Key)(z:List R)(sz len:Nat)(ps:List (Nat×Nat×bP)):cr mem tm (.fc k true z sz len ps)=Fi k (bU mem k) z sz len (kv (a6 tm) z ps):=bz
@[go_sem] theorem aHK (n:Nat)(dU:Bool)(x:bP):cr mem tm (.load n dU x)=ja (qj mem n dU (a6 tm x)):=bz
@[go_sem] theorem aHL (n:Nat)(x v:bP):cr mem tm (.store n x v)=xN mem n (a6 tm x) (a6 tm v).cells:=bz
@[go_sem] theorem aHM (b:BinOp)(x y:bP):cr mem tm (.bin b x y)=ja (Jd b (a6 tm x) (a6 tm y)):=bz
@[go_sem] theorem aHN (neg:Bool)(x y:bP):cr mem tm (.beq neg x y)=ja (Je neg (a6 tm x) (a6 tm y)):=bz
@[go_sem] theorem aHO (neg:Bool)(n:List Nat)(x y:bP):cr mem tm (.eqs neg n x y)=ja (Ji neg n (a6 tm x) (a6 tm y)):=bz
@[go_sem] theorem aHP (u:UnOp)(x:bP):cr mem tm (.un u x)=ja (Jf u (a6 tm x)):=bz
@[go_sem] theorem aHQ (k:IntKind)(x:bP):cr mem tm (.conv k x)=ja (Jj k (a6 tm x)):=bz
@[go_sem] theorem aHR (x:bP):cr mem tm (.sd x)=ja (Jk (a6 tm x)):=bz
@[go_sem] theorem aHS (k:Key)(z:List R)(b:Nat)(x y:bP):cr mem tm (.mc k z b x y)=Ju (idx (a6 tm x)) (idx (a6 tm y)) (Fj k (bU mem k) z b):=bz
@[go_sem] theorem aHT (o:Nat)(x:bP):cr mem tm (.dQ o x)=ja (Jl o (a6 tm x)):=bz
@[go_sem] theorem aHU (o n:Nat)(dU:Bool)(x:bP):cr mem tm (.CZ o n dU x)=ja (Jm o n dU (a6 tm x)):=bz
@[go_sem] theorem aHV (s:Nat)(x i:bP):cr mem tm (.m8 s x i)=ja (hW (idx (a6 tm i)) λn=>y8 s n (a6 tm x)):=bz
@[go_sem] theorem aHW (n s:Nat)(x i:bP):cr mem tm (.o0 n s x i)=ja (hW (idx (a6 tm i)) λm=>Jn n s m (a6 tm x)):=bz
@[go_sem] theorem aHX (x i:bP):cr mem tm (.idxs x i)=ja (hW (idx (a6 tm i)) λn=>Jo n (a6 tm x)):=bz
@[go_sem] theorem aHY (s:Nat)(x:bP)(cy M:Option bP):cr mem tm (.ou s x cy M none)=ja (hW (jE 0 (cy.map (a6 tm))) λl=>hW (qi (a6 tm x)) λlen=>hW (jE len (M.map (a6 tm))) λh=>Jp s l h (a6 tm x)):=bz
@[go_sem] theorem aHZ (s:Nat)(x h m:bP)(cy:Option bP):cr mem tm (.ou s x cy (some h) (some m)) =
 ja (hW (jE 0 (cy.map (a6 tm))) λl=>hW (idx (a6 tm h)) λh=>hW (idx (a6 tm m)) λm=>Jq s l h m (a6 tm x)):=bz
@[go_sem] theorem aH0 (n s:Nat)(x:bP)(cy M:Option bP):cr mem tm (.tb n s x cy M none)=ja (hW (jE 0 (cy.map (a6 tm))) λl=>hW (jE n (M.map (a6 tm))) λh=>A6 mem n s l h (a6 tm x)):=bz
@[go_sem] theorem aH1 (x:bP)(cy M:Option bP):cr mem tm (.C0 x cy M)=ja (hW (jE 0 (cy.map (a6 tm))) λl=>hW (y7 (a6 tm x)) λlen=>hW (jE len (M.map (a6 tm))) λh=>Jr l h (a6 tm x)):=bz
@[go_sem] theorem aH2 (i:Nat)(x:bP):cr mem tm (.ext i x)=ja (Js i (a6 tm x)):=bz
@[go_sem] theorem aH3 (x:bP):cr mem tm (.len x)=ja (hW (qi (a6 tm x)) λn=>some (.J (.int .i64 n))):=bz
@[go_sem] theorem aH4 (x:bP):cr mem tm (.lens x)=ja (hW (y7 (a6 tm x)) λn=>some (.J (.int .i64 n))):=bz
@[go_sem] theorem aH5 (k:Key)(z:List R)(b:Nat)(s x:bP):cr mem tm (.app k z b s x)=q6 mem k z b (a6 tm s) (qk mem (D z) (a6 tm x)):=bz
@[go_sem] theorem aH6 (z:List R)(x:bP):cr mem tm (.sg z x)=xO mem z (a6 tm x):=bz
@[go_sem] theorem aH7 (s:Nat)(x y:bP):cr mem tm (.se s x y)=wh mem s (a6 tm x) (qk mem s (a6 tm y)):=bz
@[go_sem] theorem aH8 (b:Bool)(x y:bP):cr mem tm (.iJ b x y)=ja (Jt b (a6 tm x) (a6 tm y)):=bz
@[go_sem] theorem aH9 (f:FuncId)(l:List bP):cr mem tm (.pD f l)=some (.fy f (l.map (a6 tm)),none):=bz
@[go_sem] theorem aIa (n:Nat)(f:Nat->Option R):hW (some n) f=f n:=bz
@[go_sem] theorem aIb (n m:Nat)(f:Nat->Nat->Out):Ju (some n) (some m) f=f n m:=bz
def NK (n:Nat)(dU:Bool)(g off:Nat):Option (Nat×List R)->Option R
 |some (c6,cs)=>if c6=g then (cut cs off n).bind (q5 dU) else none
 |none=>none
@[go_sem] theorem aIc (n:Nat)(dU:Bool)(k:Key)(g off:Nat):qj mem n dU (.ptr k g off)=NK n dU g off (mem k):=by unfold qj NK;rfl
@[go_sem] theorem aId (n:Nat)(dU:Bool)(g off:Nat)(cs:List R):NK n dU g off (some (g,cs))=(cut cs off n).bind (q5 dU):=by simp[NK]
@[go_sem] theorem aIe (n:Nat)(dU:Bool)(ds:List Data):qj mem n dU (.J (.ptr ds))=(cut (ds.map .J) 0 n).bind (q5 dU):=bz
@[go_sem] theorem aIf (n:Nat)(k:Key)(g off:Nat)(v:List R):xN mem n (.ptr k g off) v=Jv n k g off v (mem k):=bz
@[go_sem] theorem aIg (cs:List R):q5 true cs=some (.agg cs):=bz
@[go_sem] theorem aIh (m:R):q5 false [m]=some m:=bz
@[go_sem] theorem aIi (cs:List R):(R.agg cs).cells=cs:=bz
@[go_sem] theorem aIj (cs:List Data):(R.J (.agg cs)).cells=cs.map .J:=bz
@[go_sem] theorem aIk (k:IntKind)(n:Int):(R.J (.int k n)).cells=[.J (.int k n)]:=bz
@[go_sem] theorem aIl (b:Bool):(R.J (.bool b)).cells=[.J (.bool b)]:=bz
@[go_sem] theorem aIm (l:List UInt8):(R.J (.str l)).cells=[.J (.str l)]:=bz
@[go_sem] theorem aIn (l:List (List Data)):(R.J (.Y l)).cells=[.J (.Y l)]:=bz
@[go_sem] theorem aIo (l:List Data):(R.J (.ptr l)).cells=[.J (.ptr l)]:=bz
@[go_sem] theorem aIp (f:FuncId)(l:List Data):(R.J (.fn f l)).cells=[.J (.fn f l)]:=bz
@[go_sem] theorem aIq:R.nil.cells=[.nil]:=bz
@[go_sem] theorem aIr (k:Key)(g s o l:Nat):(R.ref k g s o l).cells=[.ref k g s o l]:=bz
@[go_sem] theorem aIs (k:Key)(g o:Nat):(R.ptr k g o).cells=[.ptr k g o]:=bz
@[go_sem] theorem aIt (f:FuncId)(l:List R):(R.fy f l).cells=[.fy f l]:=bz
@[go_sem] theorem aIu (k:IntKind)(n:Nat):idx (.J (.int k (n:Int)))=some n:=by simp[idx]
@[go_sem] theorem aIv (k:IntKind):idx (.J (.int k 0))=some 0:=bz
@[go_sem low] theorem aIw (k:IntKind)(n:Int):idx (.J (.int k n))=if 0<=n then some n.toNat else none:=bz
end
attribute [go_sem] Jh Je Jd Jf Jj Jk Jl Jm y8 Jn Jo Jp Jq A6 SJ Jr Js Jt jE qi y7 Jv wh A7 xO Nn Fj Fi Jg Ji A5 Nm kv kM cut chunk
 Fg Nj Nk Nl C1 shut uL R.one R.known qk nL dG Fk Jw q8 q7 Fl Jy SM Jz SN Jx SK Np wi keyOf jF Fm q9 uN ho lf Fo pE
end Go.Mini
namespace Go.Mini
open Go
variable {P:Program} {A:Nat->Prop} {w:World} {B:Lay} {mem:Mem}
def Bh (w aP:World)(aW:Nat->Prop)(sz:Nat)(es:List (List Data))(v:Value):Prop :=
 (∀e∈es,D e=sz)/\∃a cap,v=.slice a (D es) cap/\D es<=cap/\cap<=maxLen /\
  (cap=0\/∃b vs T,a=some ⟨b,0,none⟩/\w.heap.size<=b/\aP.heap[b]?=some (.cells vs T (0,0))/\cap*sz<=vs.size /\
   ∀(i:Nat) (d:Data),es.flatten[i]?=some d->∃u,vs[i]?=some u/\Den aP (λek=>aW ek\/ek=b) d u)
def NL (P:Program)(f:FuncId)(vs:List Value)(A:Nat->Prop)(w:World)(B:Lay)(mem:Mem):gY->Prop
 |.same r=>Calls P f vs.toArray w λe aP=>∃v,e=.returned v/\Fr (λ_=>False) w aP/\Den aP (b7 A B) r v
 |.own sz es=>Calls P f vs.toArray w λe aP=>∃v,e=.returned v/\Fr (λ_=>False) w aP/\Bh w aP (b7 A B) sz es v
 |.rel cg=>Calls P f vs.toArray w λe aP=>∃v r mem' bt,e=.returned v/\eB A w B aP bt mem'/\bs aP (b7 A bt) bt r v/\cg r mem'
 |.y9 r k=>Calls P f vs.toArray w λe aP=>∃v bt,e=.returned v/\eB A w B aP bt (aZ mem k (bU mem k) [])/\bs aP (b7 A bt) bt (.J r) v
 |.e3 r k g i c=>Calls P f vs.toArray w λe aP=>∃v bt,e=.returned v/\eB A w B aP bt (aZ mem k g ((q7 mem k).set i c))/\bs aP (b7 A bt) bt (.J r) v
def Real (P : Program)(f : FuncId): Prop := ∃ fn c, P.funcs[f]? = some fn /\ fn.body = some c /\ (fn.name == "runtime.NumGoroutine") = false
def qv (P:Program)(T:bh):Prop:=∀f args mem oB,T f args mem=some oB->Real P f /\
 ∀A w B vs,fm A w B mem->dp w (b7 A B) B args vs->NL P f vs A w B mem oB
theorem NM {f:FuncId}(h:Real P f)(args:Array Value):(callFunc f args).run P w=.ok (.enter f args) w:=by
 obtain⟨fn,c,aF,ah,aK⟩:=h;have F : fn.name ≠ "runtime.NumGoroutine" := by simpa using aK
 simp[callFunc,aF,F,ah]
theorem Den.less {w:World}{aW ma:Nat->Prop}(h:∀b,ma b->aW b){d:Data}{v:Value}(aa:Den w aW d v):Den w ma d v :=
 aa.q3 (bW _) λb _ ah=>⟨rfl,λO=>ah (h b O)⟩
theorem Bh.den {w aP:World}{aW:Nat->Prop}{sz:Nat}{es:List (List Data)}{v:Value}(ay:∀b,aW b->b<w.heap.size)(h:Bh w aP aW sz es v):Den aP aW (.Y es) v:=by
 obtain⟨he,a,cap,rfl,F,I,af⟩:=h;rcases af with rfl|⟨b,vs,T,rfl,aM,bk,bI,bH⟩
 ·have:es=[]:=qs (by omega);subst this;exact .lK
 ·have Dh:b<aP.heap.size:=(Array.getElem?_eq_some_iff.1 bk).1;refine .Y (sz:=sz) (λi=>vs.getD i undef) F (by omega) Dh (λbJ=>by have:=ay b bJ;omega) he (λi M=>?_) λi d aa=>?_
  ·have ay:i<D es.flatten:=by rw[Nd he];exact M
   obtain⟨u,hu,_⟩:=bH i _ (bx ay);rw[cell_of_row aP b _ vs T (0,0) bk,kx,Array.getD_eq_getD_getElem?,hu]
   rfl
  ·obtain⟨u,hu,aa⟩:=bH i d aa;rw[Array.getD_eq_getD_getElem?,hu];exact aa.less λb h => .inl h
theorem adf {aP:World}{sz:Nat}{es:List (List Data)}{v:Value}(k:Key)(bS:fm A w B mem)(f:Fr (λ_=>False) w aP)(h:Bh w aP (b7 A B) sz es v):
  ∃bt,eB A w B aP bt (aZ mem k (bU mem k) (es.flatten.map .J))/\bs aP (b7 A bt) bt (.ref k (bU mem k) sz 0 (D es)) v:=by
 obtain⟨he,a,cap,rfl,F,I,af⟩:=h;have still:=eB.still bS f;rcases af with rfl|⟨b,vs,T,rfl,aM,bk,bI,bH⟩
 ·have:es=[]:=qs (by omega);subst this;exact⟨_,still.trans (eB.xU still.dV k),.ref (hd _ _ _) (bW _) ⟨_,0,rfl,F,I,.inl rfl⟩⟩
 ·have Dh:b<aP.heap.size:=(Array.getElem?_eq_some_iff.1 bk).1
  have e7:∀ek,(⟨bU mem k,some b,vs.size⟩:mb).dd=some ek->w.heap.size<=ek\/∃e,B k=some e/\e.dd=some ek:=λek hX=>by
   cases hX;exact .inl aM
  have kA:=Nd he;have hmul:(D es)*sz<=cap*sz:=uV _ F;have hold:∀ek,ek<w.heap.size->(∀e,B k=some e->e.dd≠some ek)->aP.heap[ek]?=w.heap[ek]?:=λek hX _=>f.block ek hX id;have bc:∀e,B k=some e->(⟨bU mem k,some b,vs.size⟩:mb)=e\/e.g<(⟨bU mem k,some b,vs.size⟩:mb).g:=λe he => .inr (C3 bS k e he);refine⟨gm B k ⟨bU mem k,some b,vs.size⟩,⟨?_,Trans.change f.size hold bc e7,⟨f.os,f.tape,f.output,f.size,λek hX _=>f.block ek hX id⟩,Ns e7⟩,?_⟩
  ·refine bS.SQ (e':=⟨bU mem k,some b,vs.size⟩) f.size hold bc e7 (λh=>by cases h) λek hX=>?_
   cases hX;refine⟨vs,T,bk,rfl,by rw[ak,kA];omega,λi m hm=>?_⟩
   rw[bq,dR] at hm;obtain⟨d,aa,rfl⟩:=hm;obtain⟨u,hu,tp⟩:=bH i d aa;refine⟨u,hu,.J (tp.less λek hX=>?_)⟩;rcases hX with ⟨j,e,aj,O⟩|aN
   ·by_cases dW:j=k
    ·subst dW;rw[hd] at aj
     cases aj
     cases O;exact .inr rfl
    ·rw[g6 B _ dW] at aj;exact .inl (.inl ⟨j,e,aj,O⟩)
   ·exact .inl (.inr aN)
  ·exact .ref (hd _ _ _) (bW _) ⟨_,cap,rfl,F,I,.inr ⟨b,rfl,λ_=>⟨rfl,by simpa using bI⟩⟩⟩
end Go.Mini
namespace Go.Mini
open Go
variable {P:Program} {T:bh} {A:Nat->Prop} {ev w:World} {hg B:Lay} {mem:Mem} {n:Nat}
structure hD (n:Nat) (A:Nat->Prop) (ev:World) (hg:Lay) (a:Act) (st:bd) (w:World) (B:Lay):Prop where
 ok:eB A ev hg w B st.mem
 tm:∀s,bs w (b7 A B) B (st.tm s) (a.eval (.tmp s))
 sz:a.tmps.size=n
 JR:a.defers=[]
theorem hD.tq {a:Act}{st:bd}(h:hD n A ev hg a st w B)(x:Operand)(y:bP)(O:dJ x=some y):bs w (b7 A B) B (a6 st.tm y) (a.eval x):=by
 cases x<;>simp only[dJ,cj,dR,reduceCtorEq] at O
 ·subst O;exact h.tm _
 ·obtain⟨m,hm,rfl⟩:=O;exact anT hm
 ·subst O;exact .fy (vs:=[]) rfl λi d v F=>by simp at F
theorem ao4 {a:Act}{s:Nat}{v:Value}(h:s<a.tmps.size):(a.put (some s) v).eval (.tmp s)=v:=by
 simp[Act.eval,Act.put,h]
theorem hD.put {a:Act}{st:bd}{aP:World}{bt:Lay}{mem':Mem}{dst:Option Nat}{r:R}{v:Value}(h:hD n A ev hg a st w B)(U:eB A w B aP bt mem')(ab:bs aP (b7 A bt) bt r v)
  (aa:dst.all (λd=>decide (d<n))=true):hD n A ev hg (a.put dst v) ⟨Mini.put st.tm dst r,mem'⟩ aP bt:=by
 refine⟨h.ok.trans U,λs=>?_,?_,?_⟩
 ·cases dst with
  |none=>exact (h.tm s).q3 U.mO
  |some d =>
   simp only[Option.all_some,decide_eq_true_eq] at aa
   by_cases JS:s=d
   ·subst JS;rw[ao4 (by rw[h.sz];exact aa)];simp only[Mini.put,e3,if_true];exact ab
   ·rw[Act.eval_put (λx0 F I=>by cases F;cases I;exact JS rfl)];simp only[Mini.put,e3,ae JS];exact (h.tm s).q3 U.mO
 ·cases dst<;>simp[Act.put,h.sz]
 ·cases dst<;>simp[Act.put,h.JR]
theorem Te {a:Act}{st:bd}{ops:Array Oper}{o:Oper}{g:Option (Nat×Bool)}{b:Bool}(h:hD n A ev hg a st w B)(bc:JE ops o.guard=some g)(ah:o1 st.tm g=some b):
  Region.wanted o (yielded ops a.tmps)=b:=by
 unfold Region.wanted
 cases wm:o.guard with
 |none =>
  rw[wm] at bc;simp only[JE,cj] at bc;subst bc;simp only[o1,cj] at ah;exact ah
 |some p =>
  obtain⟨j,c⟩:=p;rw[wm] at bc;simp only[JE] at bc
  split at bc
  ·rename_i s U;simp only[cj] at bc;subst bc;have hv:=h.tm s
   have ar:yielded ops a.tmps j=match a.eval (.tmp s) with|.bool b=>some b|_=>none:=by
    unfold yielded;rw[U];simp only[Option.bind_some,Act.eval,Array.getD_eq_getD_getElem?]
    cases a.tmps[s]? with
    |none=>rfl
    |some v=>cases v<;>rfl
   simp only[o1] at ah;simp only[ar]
   split at ah
   ·rename_i t bD;rw[bD] at hv
    cases hv with
    |J hv =>
     generalize a.eval (.tmp s)=u at *
     cases hv;simp only[cj] at ah;subst ah
     cases t<;>cases c<;>simp
   ·rename_i bD;rw[bD] at hv;generalize a.eval (.tmp s)=u at *
    cases hv;simp only[cj] at ah;subst ah
    rfl
   ·cases ah
  ·cases bc
theorem adg {kb:Nat}{own:List Nat}{dst:Option Nat}{ty:TypeId}{op:Op}{f:FuncId}{args:List bP}(h:jG P kb own dst ty op=some (.call f args)):
  ∃c:Call,op=.call c/\c.callee=.value (.func f)/\c.args.toList.mapM dJ=some args:=by
 cases op<;>simp only[jG,zb,wk] at h
 case call c =>
  refine⟨c,rfl,?_⟩;unfold xQ at h
  (repeat' split at h)<;>simp_all [eo,dR]
 all_goals ((repeat' split at h)<;>simp_all [eo,dR])
theorem ao5 {kb:Nat}{own:List Nat}{dst:Option Nat}{ty:TypeId}{op:Op}{f:FuncId}{cy:Nat}{args:List bP}(h:jG P kb own dst ty op=some (.me cy f args)):
  ∃c:Call,op=.call c/\c.callee=.value (.func f)/\c.args.toList.mapM dJ=some args:=by
 cases op<;>simp only[jG,zb,wk] at h
 case call c =>
  refine⟨c,rfl,?_⟩;unfold xQ at h
  (repeat' split at h)<;>simp_all [eo,dR]
  all_goals
   obtain⟨_,F,_,rfl,rfl⟩:=h;exact⟨rfl,F⟩
 all_goals ((repeat' split at h)<;>simp_all [eo,dR])
theorem ao6 {kb:Nat}{own:List Nat}{dst:Option Nat}{ty:TypeId}{op:Op}{f:FuncId}{cy:Nat}{args:List bP}(h:jG P kb own dst ty op=some (.tc cy f args)):
  ∃c:Call,op=.call c/\c.callee=.value (.func f)/\c.args.toList.mapM dJ=some args:=by
 cases op<;>simp only[jG,zb,wk] at h
 case call c =>
  refine⟨c,rfl,?_⟩;unfold xQ at h
  (repeat' split at h)<;>simp_all [eo,dR]
  all_goals
   obtain⟨_,F,_,rfl,rfl⟩:=h;exact⟨rfl,F⟩
 all_goals ((repeat' split at h)<;>simp_all [eo,dR])
theorem ao7 {kb:Nat}{own:List Nat}{dst:Option Nat}{ty:TypeId}{op:Op}{f:FuncId}{cy:Nat}{args:List bP}(h:jG P kb own dst ty op=some (.sf cy f args)):
  ∃c:Call,op=.call c/\c.callee=.value (.func f)/\c.args.toList.mapM dJ=some args:=by
 cases op<;>simp only[jG,zb,wk] at h
 case call c =>
  refine⟨c,rfl,?_⟩;unfold xQ at h
  (repeat' split at h)<;>simp_all [eo,dR]
  all_goals
   obtain⟨_,F,_,rfl,rfl⟩:=h;exact⟨rfl,F⟩
 all_goals ((repeat' split at h)<;>simp_all [eo,dR])
theorem adh {kb:Nat}{own:List Nat}{dst:Option Nat}{ty:TypeId}{op:Op}{f:FuncId}{k:Key}{sz:Nat}{args:List bP}(h:jG P kb own dst ty op=some (.ov k sz f args)):
  ∃c:Call,op=.call c/\c.callee=.value (.func f)/\c.args.toList.mapM dJ=some args:=by
 cases op<;>simp only[jG,zb,wk] at h
 case call c =>
  refine⟨c,rfl,?_⟩;unfold xQ at h
  (repeat' split at h)<;>simp_all [eo,dR]
  obtain⟨_,_,_,_,_,F,_,_,rfl,rfl⟩:=h;exact⟨rfl,F⟩
 all_goals ((repeat' split at h)<;>simp_all [eo,dR])
theorem ao8 {kb:Nat}{own:List Nat}{dst:Option Nat}{ty:TypeId}{op:Op}{f:bP}{args:List bP}(h:jG P kb own dst ty op=some (.jD f args)):
  ∃(c:Call) (x:Operand),op=.call c/\c.callee=.value x/\dJ x=some f/\c.args.toList.mapM dJ=some args:=by
 cases op<;>simp only[jG,zb,wk] at h
 case call c =>
  refine⟨c,?_⟩;unfold xQ at h
  (repeat' split at h)<;>simp_all [eo,dR]
 all_goals ((repeat' split at h)<;>simp_all [eo,dR])
theorem ao9 {kb:Nat}{own:List Nat}{dst:Option Nat}{ty:TypeId}{op:Op}{neg:Bool}{x:bP}(h:jG P kb own dst ty op=some (.q4 neg x)):
  ∃(t e:TypeId) (y y':Operand) (z:TypeId),op=.binOp (if neg then .neq else .eql) t y y' z/\SP y'=true/\P.underlying t=some (.slice e)/\dJ y=some x:=by
 cases op<;>simp only[jG,zb,wk] at h
 case call c =>
  unfold xQ at h
  (repeat' split at h)<;>simp_all [eo,dR]
 case binOp bop t y y' z =>
  (repeat' split at h)<;>simp_all [eo,dR]
  all_goals
   obtain⟨F,rfl⟩:=h;exact⟨_,_,_,_,⟨rfl,rfl,rfl⟩,by assumption,by assumption,F⟩
 all_goals ((repeat' split at h)<;>simp_all [eo,dR])
end Go.Mini
namespace Go.Mini
open Go
variable {P:Program} {T:bh} {A:Nat->Prop} {ev w:World} {hg B:Lay} {mem:Mem} {n:Nat}
theorem apa {t e:TypeId}{y y':Operand}{m:R}{u v:Value}{aW:Nat->Prop}{full:Bool}(neg:Bool)(bD:P.underlying t=some (.slice e))(hm:bs w aW B m u)(aF:C1 m=some full)(hv:v=.slice none 0 0):
  ∃b:Bool,(full=true->b=false)/\((do eqGuard (if neg then .neq else .eql) t y y' u v;binOp (if neg then .neq else .eql) t u v:Sem Value)).run P w=.ok (.bool (neg != b)) w:=by
 subst hv
 have shape:∃a len cap,u=.slice a len cap/\(full=true->a.isNone=false):=by
  cases m<;>simp only[C1,reduceCtorEq] at aF
  case J d =>
   cases d<;>simp only[C1,cj,reduceCtorEq] at aF
   cases hm with
   |J aa =>
    cases aa with
    |lK=>exact⟨_,_,_,rfl,λh=>by cases aF;cases h⟩
    |Y=>exact⟨_,_,_,rfl,λ_=>rfl⟩
  case nil =>
   cases hm with
   |nil=>exact⟨_,_,_,rfl,λh=>by cases aF;cases h⟩
  case ref k g sz off len =>
   cases hm with
   |ref he bc ab =>
    obtain⟨a,cap,rfl,F,I,af⟩:=ab;refine⟨_,_,_,rfl,λh=>?_⟩;simp only[cj] at aF;subst aF;simp only[decide_eq_true_eq] at h;rcases af with af|⟨b,rfl,_⟩
    ·omega
    ·rfl
 obtain⟨a,len,cap,rfl,ah⟩:=shape;refine⟨a.isNone,ah,?_⟩
 have he:∀d,(Op.equalIn (d+1) t (.slice a len cap) (.slice none 0 0)).run P w=.ok a.isNone w:=λd=>by
  unfold Op.equalIn;simp only[Sem.run_bind,run_underlying bD,Result.andThen_ok]
  cases a<;>rfl
 have heq:(Op.equal t (.slice a len cap) (.slice none 0 0)).run P w=.ok a.isNone w:=he 9999;rw[Nt (by simp) (by simp)]
 cases neg
 ·simp only[kO,if_false,Sem.run_bind,Sem.run_pure,Result.andThen_ok];show (do pure (Value.bool (<-Op.equal t (.slice a len cap) (.slice none 0 0))):Sem Value).run P w=_
  simp[heq]
 ·simp only[if_true,Sem.run_bind,Sem.run_pure,Result.andThen_ok];show (do pure (Value.bool (!(<-Op.equal t (.slice a len cap) (.slice none 0 0)))):Sem Value).run P w=_
  simp[heq]
structure Tf (P:Program) (n kb:Nat) (own:List Nat) (ops:Array Oper) (o:Oper) (i:c9):Prop where
 dst:i.dst=o.dst
 guard:JE ops o.guard=some i.g
 op:i.op=(jG P kb own o.dst o.type o.op).getD .bad
 lt:o.dst.all (λd=>decide (d<n))=true
theorem adi {kb:Nat}{own:List Nat}{ops:Array Oper}{o:Oper}{i:c9}(h:A8 P n kb own ops o=some i):Tf P n kb own ops o i:=by
 unfold A8 at h
 split at h
 ·rename_i g bc
  split at h
  ·rename_i ay
   cases h;exact⟨rfl,bc,rfl,ay⟩
  ·cases h
 ·cases h
theorem apb {K:bd->Prop}{i:c9}{st:bd}(h:gx T K i st):
  (∃m e,cr st.mem st.tm i.op=some (m,e)/\K ⟨put st.tm i.dst m,h8 st.mem e⟩) \/
  (∃f args,i.op=.call f args/\uM T K st i.dst f (args.map (a6 st.tm))) \/
  (∃k sz f args es,i.op=.ov k sz f args/\T f (args.map (a6 st.tm)) st.mem=some (.own sz es)/\K ⟨put st.tm i.dst (.ref k (bU st.mem k) sz 0 (D es)),aZ st.mem k (bU st.mem k) (es.flatten.map .J)⟩) \/
  (∃f args,i.op=.jD f args/\((∃g eO,a6 st.tm f=.fy g eO/\uM T K st i.dst g (args.map (a6 st.tm)++eO))\/(∃g ds,a6 st.tm f=.J (.fn g ds)/\uM T K st i.dst g (args.map (a6 st.tm)++ds.map .J)))) \/
  (∃neg x full,i.op=.q4 neg x/\C1 (a6 st.tm x)=some full/\∀b:Bool,(full=true->b=false)->K ⟨put st.tm i.dst (.J (.bool (neg != b))),st.mem⟩):=by
 obtain⟨dst,g,op⟩:=i;unfold gx at h
 split at h
 ·rename_i f args mP;exact .inr (.inl ⟨f,args,mP,h⟩)
 ·rename_i k sz f args mP
  split at h
  ·rename_i et es he
   split at h
   ·rename_i U;subst U;exact .inr (.inr (.inl ⟨k,_,f,args,es,mP,he,h⟩))
   ·cases h
  ·cases h
 ·rename_i f args mP;refine .inr (.inr (.inr (.inl ⟨f,args,mP,?_⟩)))
  split at h
  ·rename_i g eO aF;exact .inl ⟨g,eO,aF,h⟩
  ·rename_i g ds aF;exact .inr ⟨g,ds,aF,h⟩
  ·cases h
 ·rename_i neg x mP
  split at h
  ·rename_i full aF;exact .inr (.inr (.inr (.inr ⟨neg,x,full,mP,aF,h⟩)))
  ·cases h
 ·split at h
  ·rename_i m e he;exact .inl ⟨m,e,he,h⟩
  ·cases h
theorem getD_some {α:Type}{x:Option α}{b c:α}(h:c=x.getD b)(ah:c≠b):x=some c:=by
 cases x with
 |none=>exact absurd h ah
 |some y=>simp at h;rw[h]
theorem adj (cN:qv P T){K:bd->Prop}{a:Act}{st:bd}{o:Oper}{aL:Exit->Act->World->Prop}{f:FuncId}{args:List R}{vs:List Value}(h:hD n A ev hg a st w B)(ay:o.dst.all (λd=>decide (d<n))=true)
  (hv:dp w (b7 A B) B args vs) (Q:uM T K st o.dst f args) (mR:Real P f->(execOp a.eval o).run P w=.ok (.enter f vs.toArray) w) :
  o.wp P a w (λjJ aP=>∃dO bt,K dO/\hD n A ev hg jJ dO aP bt) aL:=by
 unfold uM at Q;unfold Oper.wp
 cases ig:T f args st.mem with
 |none=>rw[ig] at Q;exact Q.elim
 |some oB =>
  obtain⟨mq,jt⟩:=cN f args st.mem oB ig;have G:=jt A w B vs h.ok.dV hv;rw[ig] at Q;rw[mR mq]
  cases oB with
  |same r =>
   refine Calls.mono G λe aP he=>?_;obtain⟨v,rfl,bQ,aa⟩:=he;exact⟨_,B,Q,h.put (.still h.ok.dV bQ) (.J aa) ay⟩
  |own sz es =>
   refine Calls.mono G λe aP he=>?_;obtain⟨v,rfl,bQ,aa⟩:=he;refine⟨_,B,Q,h.put (.still h.ok.dV bQ) (.J (aa.den λb ah=>?_)) ay⟩;rcases ah with ah|ah
   ·exact h.ok.dV.xM ah
   ·exact h.ok.dV.lt b ah
  |y9 r k =>
   refine Calls.mono G λe aP he=>?_;obtain⟨v,bt,rfl,dy,lh⟩:=he;exact⟨_,bt,Q,h.put dy lh ay⟩
  |rel cg =>
   refine Calls.mono G λe aP he=>?_;obtain⟨v,r,mem',bt,rfl,U,aa,eS⟩:=he;exact⟨_,bt,Q r mem' eS,h.put U aa ay⟩
  |e3 r k g i c =>
   refine Calls.mono G λe aP he=>?_;obtain⟨v,bt,rfl,U,aa⟩:=he;exact⟨_,bt,Q,h.put U aa ay⟩
theorem apc {aW:Nat->Prop}{m:R}{u:Value}{g:FuncId}{eO:List R}(hm:bs w aW B m u)(h:m=.fy g eO\/∃ds,m=.J (.fn g ds)/\eO=ds.map .J):
  ∃cs:List Value,u=.func (.func g) #[] cs.toArray/\dp w aW B eO cs:=by
 rcases h with rfl|⟨ds,rfl,rfl⟩
 ·cases hm with
  |fy aq aa=>exact⟨_,rfl,aq,aa⟩
 ·cases hm with
  |J aa =>
   cases aa with
   |fn aq aa=>exact⟨_,rfl,dp.J aq aa⟩
theorem apd (cN:qv P T){K:bd->Prop}{kb:Nat}{own:List Nat}{ops:Array Oper}{a:Act}{st:bd}{o:Oper}{i:c9}{aL:Exit->Act->World->Prop}(h:hD n A ev hg a st w B)(M:Tf P n kb own ops o i)
  (Q:gx T K i st):o.wp P a w (λjJ aP=>∃dO bt,K dO/\hD n A ev hg jJ dO aP bt) aL:=by
 have mP:=M.op;rcases apb Q with ⟨m,e,U,dN⟩|⟨f,args,he,dN⟩|⟨k,sz,f,args,es,he,ig,dN⟩|⟨f,args,he,dN⟩|⟨neg,x,full,he,aF,dN⟩
 ·have aY:jG P kb own o.dst o.type o.op=some i.op:=getD_some mP (by
   intro ah;rw[ah] at U
   cases U)
  obtain⟨FO,v,aP,bt,mR,hK,dy,hv⟩:=ac9 h.ok.dV h.tq aY U;unfold Oper.wp;rw[mR];rw[M.dst] at dN;have JT:=h.put dy hv M.lt;rcases hK with rfl|⟨rfl,rfl⟩
  ·exact⟨_,bt,dN,JT⟩
  ·exact⟨_,bt,dN,JT⟩
 ·have aY:jG P kb own o.dst o.type o.op=some i.op:=getD_some mP (by rw[he];simp);rw[he] at aY;obtain⟨c,G,mr,nS⟩:=adg aY;rw[M.dst] at dN;refine adj cN h M.lt (xZ h.tq nS) dN λmq=>?_;obtain⟨dst,op,type,pos,after,guard⟩:=o;simp only at G;subst G;obtain⟨callee,zm,NN⟩:=c;simp only at mr;subst mr;simp only[execOp,resolve,Deferred.ofValue,Act.eval,invoke,Sem.run_bind,Sem.run_pure,Result.andThen_ok,NM mq];rw[Be zm];simp
 ·have aY:jG P kb own o.dst o.type o.op=some i.op:=getD_some mP (by rw[he];simp);rw[he] at aY;obtain⟨c,G,mr,nS⟩:=adh aY;rw[M.dst] at dN;obtain⟨mq,jt⟩:=cN f _ st.mem _ ig;have hp:=jt A w B _ h.ok.dV (xZ h.tq nS);have ay:=M.lt;obtain⟨dst,op,type,pos,after,guard⟩:=o;simp only at G;subst G;obtain⟨callee,zm,NN⟩:=c;simp only at mr nS;subst mr
  have mR:(execOp a.eval ⟨dst,.call ⟨.value (.func f),zm,NN⟩,type,pos,after,guard⟩).run P w=.ok (.enter f (zm.toList.map a.eval).toArray) w:=by
   simp only[execOp,resolve,Deferred.ofValue,Act.eval,invoke,Sem.run_bind,Sem.run_pure,Result.andThen_ok,NM mq];rw[Be zm];simp
  unfold Oper.wp;rw[mR];refine Calls.mono hp λe aP pJ=>?_;obtain⟨v,rfl,bQ,aa⟩:=pJ;obtain⟨bt,dy,hv⟩:=adf k h.ok.dV bQ aa;exact⟨_,bt,dN,h.put dy hv ay⟩
 ·have aY:jG P kb own o.dst o.type o.op=some i.op:=getD_some mP (by rw[he];simp);rw[he] at aY;obtain⟨c,x,G,mr,O,nS⟩:=ao8 aY;rw[M.dst] at dN;have ape:=h.tq _ _ O
  have main:∀g eO,(a6 st.tm f=.fy g eO\/∃ds,a6 st.tm f=.J (.fn g ds)/\eO=ds.map .J)->uM T K st o.dst g (args.map (a6 st.tm)++eO)->o.wp P a w (λjJ aP=>∃dO bt,K dO/\hD n A ev hg jJ dO aP bt) aL:=by
   intro g eO bc dN;obtain⟨cs,hu,bX⟩:=apc ape bc;refine adj cN h M.lt ((xZ h.tq nS).append bX) dN λmq=>?_;obtain⟨dst,op,type,pos,after,guard⟩:=o;simp only at G;subst G;obtain⟨callee,zm,NN⟩:=c;simp only at mr;subst mr;simp only[execOp,resolve,hu,Deferred.ofValue,invoke,Sem.run_bind,Sem.run_pure,Result.andThen_ok,NM mq];rw[Be zm];simp
  rcases dN with ⟨g,eO,bc,dN⟩|⟨g,ds,bc,dN⟩
  ·exact main g eO (.inl bc) dN
  ·exact main g _ (.inr ⟨ds,bc,rfl⟩) dN
 ·have aY:jG P kb own o.dst o.type o.op=some i.op:=getD_some mP (by rw[he];simp);rw[he] at aY;obtain⟨t,e,y,y',z,G,aK,bD,ar⟩:=ao9 aY;rw[M.dst] at dN
  have Tg:a.eval y' = .slice none 0 0:=by
   unfold SP at aK
   split at aK
   ·rfl
   ·cases aK
  obtain⟨b,ah,mR⟩:=apa (y:=y) (y':=y') neg bD (h.tq _ _ ar) aF Tg;obtain⟨dst,op,type,pos,after,guard⟩:=o;simp only at G;subst G;unfold Oper.wp
  have:(execOp a.eval ⟨dst,.binOp (if neg then .neq else .eql) t y y' z,type,pos,after,guard⟩).run P w=.ok (.value (.bool (neg != b))) w:=by
   simp only[execOp];rw[Sem.run_bind,mR]
   rfl
  rw[this];exact⟨_,B,dN b ah,h.put (.refl h.ok.dV) (.J .bool) M.lt⟩
end Go.Mini
namespace Go.Mini
open Go
variable {T:bh}
theorem fI {tm tm':Nat->R}{x:bP}(h:∀s∈fo x,tm s=tm' s):a6 tm x=a6 tm' x:=by
 cases x with
 |t s=>exact h s (by simp[fo])
 |c m=>rfl
theorem map_congr {tm tm':Nat->R}{l:List bP}(h:∀s∈l.flatMap fo,tm s=tm' s):l.map (a6 tm)=l.map (a6 tm') :=
 jM λx O=>fI λs U=>h s (x1.2 ⟨x,O,U⟩)
theorem NO {tm tm':Nat->R}{l:List bP}(h:∀s∈l.flatMap fo,tm s=tm' s):(l.map λx=>shut (a6 tm x))=l.map λx=>shut (a6 tm' x) :=
 jM λx O=>by rw[fI λs U=>h s (x1.2 ⟨x,O,U⟩)]
theorem Di {tm tm':Nat->R}{x:Option bP}(h:∀s∈xR x,tm s=tm' s):x.map (a6 tm)=x.map (a6 tm'):=by
 cases x with
 |none=>rfl
 |some x =>
  cases x with
  |t s=>simp[a6,h s (by simp[xR])]
  |c m=>rfl
theorem Th {tm tm':Nat->R}:∀{ps:List (Nat×Nat×bP)} (cs:List R),(∀s∈ps.flatMap (λp=>fo p.2.2),tm s=tm' s)->kv (a6 tm) cs ps=kv (a6 tm') cs ps
 | [],_,_=>rfl
 |(o,s,x)::ps,cs,h=>by
  have F:a6 tm x=a6 tm' x:=fI λt bD=>h t (x1.2 ⟨(o,s,x),by simp,bD⟩);simp only[kv,F]
  split
  ·exact Th _ λt bD=>h t (by simp only[List.flatMap_cons,kg];exact .inr bD)
  ·rfl
theorem apf {mem:Mem}{tm tm':Nat->R}{op:ka}(h:∀s∈sk op,tm s=tm' s):cr mem tm op=cr mem tm' op:=by
 cases op<;>simp only[sk,kg] at h
 case cQ x=>simp only[cr,kN,fI h]
 case pick c a b=>simp only[cr,kN,fI (λs U=>h s (.inl (.inl U))),fI (λs U=>h s (.inl (.inr U))),fI (λs U=>h s (.inr U))]
 case alloc=>rfl
 case box k x=>simp only[cr,fI h]
 case build z ps=>simp only[cr,kN,Th _ h]
 case fc k o z sz len ps=>cases o<;>simp only[cr,kN,Th _ h]
 case load n dU x=>simp only[cr,fI h]
 case store n x v=>simp only[cr,fI (λs U=>h s (.inl U)),fI (λs U=>h s (.inr U))]
 case bin o x y=>simp only[cr,kN,fI (λs U=>h s (.inl U)),fI (λs U=>h s (.inr U))]
 case beq o x y=>simp only[cr,kN,fI (λs U=>h s (.inl U)),fI (λs U=>h s (.inr U))]
 case eqs o l x y=>simp only[cr,kN,fI (λs U=>h s (.inl U)),fI (λs U=>h s (.inr U))]
 case q4=>rfl
 case un o x=>simp only[cr,kN,fI h]
 case conv k x=>simp only[cr,kN,fI h]
 case sd x=>simp only[cr,kN,fI h]
 case mc k z b x y=>simp only[cr,fI (λs U=>h s (.inl U)),fI (λs U=>h s (.inr U))]
 case dQ o x=>simp only[cr,kN,fI h]
 case CZ o n dU x=>simp only[cr,kN,fI h]
 case m8 s x i=>simp only[cr,kN,fI (λs U=>h s (.inl U)),fI (λs U=>h s (.inr U))]
 case o0 n s x i=>simp only[cr,kN,fI (λs U=>h s (.inl U)),fI (λs U=>h s (.inr U))]
 case idxs x i=>simp only[cr,kN,fI (λs U=>h s (.inl U)),fI (λs U=>h s (.inr U))]
 case ou s x a b c =>
  have F:=fI (λs U=>h s (.inl (.inl (.inl U))));have I:=Di (λs U=>h s (.inl (.inl (.inr U))));have af:=Di (λs U=>h s (.inl (.inr U)));have aM:=Di (λs U=>h s (.inr U))
  cases b<;>cases c<;>simp only[ll,adk,cj] at af aM<;>simp only[cr,kN,ll,adk,F,I,af,aM]
 case tb n s x a b c =>
  have F:=fI (λs U=>h s (.inl (.inl (.inl U))));have I:=Di (λs U=>h s (.inl (.inl (.inr U))));have af:=Di (λs U=>h s (.inl (.inr U)))
  cases c<;>simp only[cr,kN,F,I,af]
 case C0 x a b=>simp only[cr,kN,fI (λs U=>h s (.inl (.inl U))),Di (λs U=>h s (.inl (.inr U))),Di (λs U=>h s (.inr U))]
 case ext i x=>simp only[cr,kN,fI h]
 case len x=>simp only[cr,kN,fI h]
 case lens x=>simp only[cr,kN,fI h]
 case app k z b s x=>simp only[cr,fI (λs U=>h s (.inl U)),fI (λs U=>h s (.inr U))]
 case se s d x=>simp only[cr,fI (λs U=>h s (.inl U)),fI (λs U=>h s (.inr U))]
 case sg z x=>simp only[cr,fI h]
 case iJ o x y=>simp only[cr,kN,fI (λs U=>h s (.inl U)),fI (λs U=>h s (.inr U))]
 case call=>rfl
 case ov=>rfl
 case jD=>rfl
 case me=>rfl
 case tc=>rfl
 case sf=>rfl
 case pD f l=>simp only[cr,kN,map_congr h]
 case bad=>rfl
theorem adl {mem:Mem}{tm tm':Nat->R}{op:ka}(h:∀s∈sk op,tm s=tm' s):ho T mem tm op=ho T mem tm' op:=by
 cases op
 case call f l =>
  have:=NO (l:=l) (tm:=tm) (tm':=tm') (by simpa [sk] using h);simp only[ho,this]
 case ov k sz f l =>
  have:=NO (l:=l) (tm:=tm) (tm':=tm') (by simpa [sk] using h);simp only[ho,this]
 case jD=>rfl
 case q4=>rfl
 case me cy f l =>
  have:=map_congr (l:=l) (tm:=tm) (tm':=tm') (by simpa [sk] using h);simp only[ho,this]
 case tc j f l =>
  have F:=map_congr (l:=l) (tm:=tm) (tm':=tm') (by simpa [sk] using h);have I:=NO (l:=l) (tm:=tm) (tm':=tm') (by simpa [sk] using h);simp only[ho,F,I]
 case sf j f l =>
  have F:=map_congr (l:=l) (tm:=tm) (tm':=tm') (by simpa [sk] using h);have I:=NO (l:=l) (tm:=tm) (tm':=tm') (by simpa [sk] using h);simp only[ho,F,I]
 all_goals exact apf (mem:=mem) h
theorem adm {tm tm':Nat->R}{op:ka}(h:∀s∈sk op,tm s=tm' s):dG tm op=dG tm' op:=by
 cases op<;>simp only[sk,kg] at h<;>try rfl
 case fc k o z sz len ps=>cases o<;>rfl
 case load n dU x=>simp only[dG,fI h]
 case tb n s x a b c=>simp only[dG,fI (λs U=>h s (.inl (.inl (.inl U))))]
 case store n x v=>simp only[dG,fI (λs U=>h s (.inl U))]
 case app k z b s x=>simp only[dG,fI (λs U=>h s (.inl U)),fI (λs U=>h s (.inr U))]
 case se s d x=>simp only[dG,fI (λs U=>h s (.inl U)),fI (λs U=>h s (.inr U))]
 case me cy f l=>simp only[dG,map_congr h]
 case tc j f l=>simp only[dG,map_congr h]
 case sf j f l=>simp only[dG,map_congr h]
 case sg z x=>simp only[dG,fI h]
theorem apg {n:Nat}{m:R}{aL:Key->Prop}(h:∀x∈Fk n m,aL x.key):∀j∈keyOf m,aL j:=by
 cases m<;>simp_all [Fk,keyOf,m9.key]
theorem adn {mem mem':Mem}{sz:Nat}{m:R}(h:∀k∈keyOf m,mem k=mem' k):qk mem sz m=qk mem' sz m:=by
 cases m<;>try rfl
 case J d=>cases d<;>rfl
 simp only[qk];rw[h _ (by simp[keyOf])]
theorem aph {mem mem':Mem}{k:Key}{z:List R}{b:Nat}{m:R}{row:Option (Nat×List R)}(Q:mem k=mem' k)(h:∀j∈keyOf m,mem j=mem' j):q6 mem k z b m row=q6 mem' k z b m row:=by
 cases m<;>cases row<;>try rfl
 ·simp only[q6,bU,Q]
 ·simp only[q6];rw[h _ (by simp[keyOf])]
theorem api {mem mem':Mem}{sz:Nat}{m:R}{row:Option (Nat×List R)}(h:∀j∈keyOf m,mem j=mem' j):wh mem sz m row=wh mem' sz m row:=by
 cases m<;>cases row<;>try rfl
 simp only[wh];rw[h _ (by simp[keyOf])]
theorem apj {mem mem':Mem}{z:List R}{m:R}(h:∀j∈keyOf m,mem j=mem' j):xO mem z m=xO mem' z m:=by
 cases m<;>try rfl
 simp only[xO];rw[h _ (by simp[keyOf])]
theorem apk {mem mem':Mem}{n:Nat}{dU:Bool}{m:R}(h:∀j∈keyOf m,mem j=mem' j):qj mem n dU m=qj mem' n dU m:=by
 cases m<;>try rfl
 case J d=>cases d<;>rfl
 simp only[qj];rw[h _ (by simp[keyOf])]
theorem apl {mem mem':Mem}{n:Nat}{m:R}{v:List R}(h:∀j∈keyOf m,mem j=mem' j):xN mem n m v=xN mem' n m v:=by
 cases m<;>try rfl
 simp only[xN];rw[h _ (by simp[keyOf])]
theorem apm {mem mem':Mem}{n s a b:Nat}{m:R}(h:∀j∈keyOf m,mem j=mem' j):A6 mem n s a b m=A6 mem' n s a b m:=by
 cases m<;>try rfl
 simp only[A6];rw[h _ (by simp[keyOf])]
theorem apn {mem mem':Mem}{tm:Nat->R}{op:ka}(h:∀x∈dG tm op,mem x.key=mem' x.key):cr mem tm op=cr mem' tm op:=by
 have FO:∀k,mem k=mem' k->bU mem k=bU mem' k:=λk Q=>by simp only[bU,Q]
 cases op<;>try rfl
 case alloc k z=>simp only[cr,FO k (h (.hn k) (by simp[dG]))]
 case box k x=>simp only[cr,FO k (h (.hn k) (by simp[dG]))]
 case fc k o z sz len ps =>
  cases o
  ·rfl
  ·simp only[cr,FO k (h (.hn k) (by simp[dG]))]
 case mc k z b x y=>simp only[cr,FO k (h (.hn k) (by simp[dG]))]
 case load n dU x =>
  simp only[cr];rw[apk (apg (aL:=λj=>mem j=mem' j) h)]
 case tb n s x a b c =>
  cases c
  ·simp only[cr]
   congr 2
   funext l
   congr 1
   funext aQ
   exact apm λj aj=>h (.hn j) (by simp[dG,aj])
  ·rfl
 case store n x v =>
  simp only[cr];exact apl λj aj=>h (.hn j) (by simp[dG,aj])
 case app k z b s x =>
  have ct:∀j,j=k\/j∈keyOf (a6 tm s)\/j∈keyOf (a6 tm x)->mem j=mem' j:=λj aj=>h (.hn j) (by simpa [dG] using aj);simp only[cr,adn (sz:=D z) (λj aj=>ct j (.inr (.inr aj)))];exact aph (ct k (.inl rfl)) λj aj=>ct j (.inr (.inl aj))
 case se s d x =>
  have ct:∀j,j∈keyOf (a6 tm d)\/j∈keyOf (a6 tm x)->mem j=mem' j:=λj aj=>h (.hn j) (by simpa [dG] using aj);simp only[cr,adn (sz:=s) (λj aj=>ct j (.inr aj))];exact api λj aj=>ct j (.inl aj)
 case sg z x =>
  simp only[cr];exact apj λj aj=>h (.hn j) (by simp[dG,aj])
theorem ado {mem mem':Mem}{tm:Nat->R}{op:ka}(G:∀cy f l,op ≠ .me cy f l)(h:∀x∈dG tm op,mem x.key=mem' x.key):ho T mem tm op=ho T mem' tm op:=by
 cases op
 case call=>rfl
 case ov k sz f l =>
  have:bU mem k=bU mem' k:=by
   have:=h (.hn k) (by simp[dG]);simp only[m9.key] at this;simp only[bU,this]
  simp only[ho,this]
 case me cy f l=>exact absurd rfl (G cy f l)
 case tc j f l =>
  simp only[ho]
  cases hm:(l.map (a6 tm))[j]? with
  |none=>rfl
  |some m =>
   cases m<;>try rfl
   have:=h (.hn _) (by simp only[dG,hm,wi];exact gn);simp only[m9.key] at this;simp only[Jy,this]
 case sf j f l =>
  simp only[ho]
  cases hm:(l.map (a6 tm))[j]? with
  |none=>rfl
  |some m =>
   cases m<;>try rfl
   have:=h (.hn _) (by simp only[dG,hm,wi];exact gn);simp only[m9.key] at this;simp only[Jz,this]
 case jD=>rfl
 case q4=>rfl
 all_goals exact apn (mem:=mem) (mem':=mem') (tm:=tm) h
theorem NP {x:Option R}{m:R}{e:Option (Key×Nat×List R)}(h:ja x=some (m,e)):e=none:=(ac4 h).2
theorem apo {mem:Mem}{tm:Nat->R}{op:ka}{m:R}{e:Option (Key×Nat×List R)}(h:cr mem tm op=some (m,e)):e=none\/(jF op=true/\∃k g cs,e=some (k,g,cs) /\ .hn k∈dG tm op):=by
 cases op<;>try (first|exact .inl (NP h)|exact .inl (NP (x:=some _) h))
 case alloc k z =>
  simp only[cr,cj,fp] at h;exact .inr ⟨rfl,_,_,_,h.2.symm,by simp[dG]⟩
 case box k x =>
  simp only[cr] at h
  split at h<;>simp only[cj,fp,reduceCtorEq] at h
  exact .inr ⟨rfl,_,_,_,h.2.symm,by simp[dG]⟩
 case fc k o z sz len ps =>
  cases o
  ·exact .inl (NP h)
  ·simp only[cr,Fi] at h
   (repeat' split at h)<;>simp only[cj,fp,reduceCtorEq] at h
   exact .inr ⟨rfl,_,_,_,h.2.symm,by simp[dG]⟩
 case mc k z b x y =>
  obtain⟨_,_,_,_,h⟩:=ac5 h;simp only[Fj] at h
  split at h<;>simp only[cj,fp,reduceCtorEq] at h
  exact .inr ⟨rfl,_,_,_,h.2.symm,by simp[dG]⟩
 case tb n s x a b c =>
  cases c
  ·exact .inl (NP h)
  ·cases h
 case store n x v =>
  simp only[cr] at h
  cases O:a6 tm x<;>rw[O] at h<;>simp only[xN,reduceCtorEq] at h
  simp only[Jv] at h
  (repeat' split at h)<;>simp only[cj,fp,reduceCtorEq] at h
  exact .inr ⟨rfl,_,_,_,h.2.symm,by simp[dG,O,keyOf]⟩
 case app k z b s x =>
  simp only[cr] at h
  cases ab:qk mem (D z) (a6 tm x)<;>cases U:a6 tm s<;>rw[ab,U] at h<;>simp only[q6,reduceCtorEq] at h
  ·split at h<;>simp only[cj,fp,reduceCtorEq] at h
   exact .inr ⟨rfl,_,_,_,h.2.symm,by simp[dG]⟩
  ·simp only[mN] at h
   (repeat' split at h)<;>simp only[cj,fp,reduceCtorEq] at h
   exact .inr ⟨rfl,_,_,_,h.2.symm,by simp[dG,U,keyOf]⟩
 case se s d x =>
  simp only[cr] at h
  cases ab:qk mem s (a6 tm x)<;>cases U:a6 tm d<;>rw[ab,U] at h<;>simp only[wh,reduceCtorEq] at h
  simp only[A7] at h
  (repeat' split at h)<;>simp only[cj,fp,reduceCtorEq] at h
  exact .inr ⟨rfl,_,_,_,h.2.symm,by simp[dG,U,keyOf]⟩
 case sg z x =>
  simp only[cr] at h
  cases U:a6 tm x<;>rw[U] at h<;>simp only[xO,reduceCtorEq] at h
  simp only[Nn] at h
  (repeat' split at h)<;>simp only[cj,fp,reduceCtorEq] at h
  exact .inr ⟨rfl,_,_,_,h.2.symm,by simp[dG,U,keyOf]⟩
 all_goals cases h
theorem adp {mem:Mem}{j:Nat}{f:FuncId}{ms:List R}{x:Option R}{m:R}{e:Option (Key×Nat×List R)}(h:Jy T mem j f ms x=some (m,e)):
  ∃k g sz off len cs d r,x=some (.ref k g sz off len)/\mem k=some (g,cs)/\Jx sz off len cs=some d/\Np (T f (ms.set j (.J d)) emp)=some r/\m=.J r/\e=some (k,bU mem k,[]):=by
 unfold Jy at h
 split at h
 ·rename_i k g sz off len;unfold SM at h
  split at h
  ·rename_i c6 cs hm
   split at h
   ·rename_i bc;subst bc
    split at h
    ·rename_i d aa
     split at h
     ·rename_i r ab;simp only[cj,fp] at h;exact⟨k,_,sz,off,len,cs,d,r,rfl,hm,aa,ab,h.1.symm,by rw[<-h.2];simp[bU,hm]⟩
     ·cases h
    ·cases h
   ·cases h
  ·cases h
 ·cases h
theorem adq {mem:Mem}{j:Nat}{f:FuncId}{ms:List R}{x:Option R}{m:R}{e:Option (Key×Nat×List R)}(h:Jz T mem j f ms x=some (m,e)):
  ∃k g sz off len c6 cs r,x=some (.ref k g sz off len)/\mem k=some (c6,cs)/\nM cs=true/\T f (ms.set j (.ref k g sz off len)) (aZ emp k c6 cs)=some (.y9 r k)/\m=.J r/\e=some (k,bU mem k,[]):=by
 unfold Jz at h
 split at h
 ·rename_i k g sz off len;unfold SN at h
  split at h
  ·rename_i c6 cs hm
   split at h
   ·rename_i aa
    split at h
    ·rename_i r k' ab
     split at h
     ·rename_i Q;subst Q;simp only[cj,fp] at h;exact⟨_,g,sz,off,len,c6,cs,r,rfl,hm,aa,ab,h.1.symm,by rw[<-h.2];simp[bU,hm]⟩
     ·cases h
    ·cases h
   ·cases h
  ·cases h
 ·cases h
theorem adr {cy:Nat}{mem:Mem}{ms:List R}{x:Option gY}{m:R}{e:Option (Key×Nat×List R)}(h:Fl cy mem ms x=some (m,e)):
  ∃r k g i c cs,x=some (.e3 r k g i c)/\mem k=some (g,cs)/\m=.J r/\e=some (k,g,cs.set i c)/\Jw cy ms=[.wr k i]:=by
 unfold Fl at h
 split at h
 ·rename_i k g off rest r k' c6 i c
  split at h
  ·rename_i Dj cs hm
   split at h
   ·rename_i G;obtain⟨rfl,rfl,rfl⟩:=G;simp only[cj,fp] at h;exact⟨r,_,_,_,c,cs,rfl,hm,h.1.symm,h.2.symm,rfl⟩
   ·cases h
  ·cases h
 ·cases h
theorem Ti {mem:Mem}{tm:Nat->R}{op:ka}{m:R}{e:Option (Key×Nat×List R)}(h:ho T mem tm op=some (m,e)):e=none\/(jF op=true/\∃k g cs,e=some (k,g,cs)/\(.hn k∈dG tm op\/∃i c tr,dG tm op=[.wr k i]/\mem k=some (g,tr)/\cs=tr.set i c)):=by
 have pl:cr mem tm op=some (m,e)->e=none\/(jF op=true/\∃k g cs,e=some (k,g,cs)/\(.hn k∈dG tm op\/∃i c tr,dG tm op=[.wr k i]/\mem k=some (g,tr)/\cs=tr.set i c)):=λh=>by
  rcases apo h with h|⟨F,k,g,cs,I,af⟩
  ·exact .inl h
  ·exact .inr ⟨F,k,g,cs,I,.inl af⟩
 cases op
 case call f l =>
  simp only[ho] at h
  split at h<;>simp only[cj,fp,reduceCtorEq] at h
  ·exact .inl h.2.symm
  ·exact .inl h.2.symm
 case ov k sz f l =>
  simp only[ho] at h
  (repeat' split at h)<;>simp only[cj,fp,reduceCtorEq] at h
  exact .inr ⟨rfl,_,_,_,h.2.symm,.inl (by simp[dG])⟩
 case jD=>cases h
 case q4=>cases h
 case me cy f l =>
  obtain⟨r,k,g,i,c,cs,-,hm,-,he,aF⟩:=adr h;exact .inr ⟨rfl,k,g,_,he,.inr ⟨i,c,cs,aF,hm,rfl⟩⟩
 case tc j f l =>
  simp only[ho] at h;obtain⟨k,g,sz,off,len,cs,d,r,O,hm,-,-,-,he⟩:=adp h;exact .inr ⟨rfl,k,_,_,he,.inl (by simp only[dG,O,wi];exact gn)⟩
 case sf j f l =>
  simp only[ho] at h;obtain⟨k,g,sz,off,len,c6,cs,r,O,hm,-,-,-,he⟩:=adq h;exact .inr ⟨rfl,k,_,_,he,.inl (by simp only[dG,O,wi];exact gn)⟩
 all_goals exact pl h
theorem apq {tm:Nat->R}{op:ka}{b:m9}(ah:b∈dG tm op):(∃k,b=.hn k)\/(∃n dU x k g off,op=.load n dU x/\a6 tm x=.ptr k g off/\b=.rd k off (off+n))\/∃cy f l,op=.me cy f l:=by
 cases op
 case load n dU x =>
  simp only[dG] at ah
  cases O:a6 tm x<;>rw[O] at ah<;>simp[Fk] at ah
  ·exact .inl ⟨_,ah⟩
  ·exact .inr (.inl ⟨_,_,_,_,_,_,rfl,O,ah⟩)
 case me cy f l=>exact .inr (.inr ⟨_,_,_,rfl⟩)
 case tc j f l =>
  simp only[dG] at ah
  cases hm:(l.map (a6 tm))[j]? with
  |none=>rw[hm] at ah;simp[wi] at ah
  |some m =>
   rw[hm] at ah
   cases m<;>simp[wi] at ah
   exact .inl ⟨_,ah⟩
 case sf j f l =>
  simp only[dG] at ah
  cases hm:(l.map (a6 tm))[j]? with
  |none=>rw[hm] at ah;simp[wi] at ah
  |some m =>
   rw[hm] at ah
   cases m<;>simp[wi] at ah
   exact .inl ⟨_,ah⟩
 case fc k o z sz len ps =>
  cases o<;>simp[dG] at ah;exact .inl ⟨_,ah⟩
 all_goals
  simp[dG] at ah
  try first
   |exact .inl ⟨_,ah⟩
   |(rcases ah with ⟨k,_,h⟩|⟨k,_,h⟩<;>exact .inl ⟨k,h.symm⟩)
   |(rcases ah with h|⟨k,_,h⟩|⟨k,_,h⟩<;>first|exact .inl ⟨_,h⟩|exact .inl ⟨_,h.symm⟩)
   |(obtain⟨k,_,h⟩:=ah;exact .inl ⟨k,h.symm⟩)
theorem apr {cs:List R}{i off n:Nat}{c:R}(h:i<off\/off+n<=i):cut (cs.set i c) off n=cut cs off n:=by
 unfold cut;rw[jf]
 split
 ·congr 1
  rcases h with h|h
  ·rw[ts h]
  ·by_cases M:i<off
   ·rw[ts M]
   ·rw[List.drop_set,ae M,List.take_set_of_le (by omega)]
 ·rfl
theorem aps {mem:Mem}{k g i:Nat}{c:R}{cs:List R}{n:Nat}{dU:Bool}{k' c6 off:Nat}(hm:mem k=some (g,cs))(h:k'≠k\/i<off\/off+n<=i):
  qj (aZ mem k g (cs.set i c)) n dU (.ptr k' c6 off)=qj mem n dU (.ptr k' c6 off):=by
 by_cases Q:k'=k
 ·subst Q;have h:=h.resolve_left (λh=>h rfl);simp only[qj,aZ,if_true,hm,apr h]
 ·simp only[qj,aZ,Q,if_false]
theorem ads {mem:Mem}{tm:Nat->R}{x y:ka}{m:R}{e:Option (Key×Nat×List R)}(apt:ho T mem tm x=some (m,e))(aN:q9 (jF x,dG tm x) (jF y,dG tm y)=true):ho T (h8 mem e) tm y=ho T mem tm y:=by
 rcases Ti apt with rfl|⟨hw,k,g,cs,rfl,Q⟩
 ·rfl
 ·have eZ:∀a∈dG tm x,∀b∈dG tm y,q8 a b=true:=by
   unfold q9 at aN
   simpa [hw] using aN
  have apu:∀cy f l,y=.me cy f l->dG tm y=[]:=by
   rintro cy f l rfl
   cases ah:dG tm (.me cy f l) with
   |nil=>rfl
   |cons b r =>
    exfalso
    have hX:∃k' bo,b=.wr k' bo:=by
     simp only[dG] at ah;unfold Jw at ah
     split at ah
     ·cases ah;exact⟨_,_,rfl⟩
     ·cases ah
    obtain⟨k',bo,rfl⟩:=hX;have hm:m9.wr k' bo∈dG tm (.me cy f l):=by rw[ah];exact gn
    rcases Q with Q|⟨i,c,tr,aF,_,_⟩
    ·have:=eZ _ Q _ hm;simp[q8] at this
    ·have:=eZ (.wr k i) (by rw[aF];exact gn) _ hm;simp[q8] at this
  by_cases ar:∃cy f l,y=.me cy f l
  ·obtain⟨cy,f,l,rfl⟩:=ar;have al:=apu _ _ _ rfl;simp only[dG] at al
   have aS:∀mem' je,Fl cy mem' (l.map (a6 tm)) je=none:=by
    intro mem' je;unfold Fl
    split
    ·rename_i heq;rw[heq] at al;simp[Jw] at al
    ·rfl
   simp only[ho,aS]
  ·have G:∀cy f l,y ≠ .me cy f l:=λcy f l h=>ar ⟨cy,f,l,h⟩;rcases Q with Q|⟨i,c,tr,aF,hm,rfl⟩
   ·refine (ado G λb ah=>?_).symm;have F:=eZ _ Q b ah
    have:b.key≠k:=by
     rintro rfl
     cases b<;>simp[q8,m9.key] at F
    simp[h8,aZ,this]
   ·have F:=eZ (.wr k i) (by rw[aF];exact gn)
    by_cases aq:∃n dU z k' c6 off,y=.load n dU z/\a6 tm z=.ptr k' c6 off
    ·obtain⟨n,dU,z,k',c6,off,rfl,aS⟩:=aq;have I:=F (.rd k' off (off+n)) (by simp[dG,aS,Fk]);simp only[ho,cr,aS,h8];rw[aps hm];simp[q8] at I;exact I
    ·refine (ado G λb ah=>?_).symm
     exfalso
     rcases apq ah with ⟨k',rfl⟩|⟨n,dU,z,k',c6,off,af,aM,_⟩|⟨cy,f,l,af⟩
     ·have:=F _ ah;simp[q8] at this
     ·exact aq ⟨n,dU,z,k',c6,off,af,aM⟩
     ·exact G _ _ _ af
theorem adt {tm:Nat->R}{op:ka}(h:sj op=0):dG tm op=[]/\jF op=false:=by
 cases op<;>simp_all [sj,jF,dG]
 all_goals (rename_i b _ _ _ _;cases b<;>simp_all [jF,dG])
theorem adu {op:ka}(h:sj op=1):jF op=false:=by
 cases op<;>simp_all [sj,jF]
 all_goals (rename_i b _ _ _ _;cases b<;>simp_all [jF])
end Go.Mini
namespace Go.Mini
open Go
variable {T:bh} {jN:Nat->Nat->Bool}
def x2 (T:bh)(jN:Nat->Nat->Bool)(i:Nat)(x:c9)(rec:Rec)(st:bd)(zn:Rec)(dO:bd):Prop :=
 (o1 st.tm x.g=some false/\zn=rec/\dO=⟨put st.tm x.dst .no,st.mem⟩) \/
 (o1 st.tm x.g=some true/\∃m e,ho T st.mem st.tm x.op=some (m,e)/\(∀p q,jN p i=true->rec p=some q->q9 q (jF x.op,dG st.tm x.op)=true) /\
  zn=uN rec i (jF x.op,dG st.tm x.op)/\dO=⟨put st.tm x.dst m,h8 st.mem e⟩)
theorem wx {tm:Nat->R}{dst:Option Nat}{m:R}{s:Nat}(h:dst≠some s):put tm dst m s=tm s:=by
 cases dst with
 |none=>rfl
 |some d =>
  have:s≠d:=λe=>h (by rw[e]);simp[put,this]
theorem put_comm {tm:Nat->R}{d x0:Option Nat}{m m':R}(h:∀s,d=some s->x0≠some s):put (put tm d m) x0 m'=put (put tm x0 m') d m:=by
 funext s
 by_cases F:d=some s
 ·rw[wx (h s F)];subst F;simp[put]
 ·rw[wx (dst:=d) F]
  by_cases I:x0=some s
  ·subst I;simp[put]
  ·rw[wx I,wx I,wx F]
theorem adv {tm tm':Nat->R}{g:Option (Nat×Bool)}(h:∀s b,g=some (s,b)->tm s=tm' s):o1 tm g=o1 tm' g:=by
 cases g with
 |none=>rfl
 |some p =>
  obtain⟨s,b⟩:=p;simp only[o1,h s b rfl]
theorem adw {x y:c9}(h:xS x y=true):(∀d,x.dst=some d->d ∉ looks y)/\(∀d,x.dst=some d->y.dst≠some d)/\(∀d,y.dst=some d->d ∉ looks x):=by
 refine⟨λd aa=>?_,λd aa=>?_,λd aa=>?_⟩<;>simp[xS,aa] at h
 ·exact h.1.1
 ·exact h.1.2
 ·exact h.2
theorem NQ {x:c9}{s:Nat}(h:s∈sk x.op):s∈looks x:=by simp[looks,h]
theorem adx {x:c9}{s:Nat}{b:Bool}(h:x.g=some (s,b)):s∈looks x:=by simp[looks,h]
theorem apv (a b:m9):q8 a b=q8 b a:=by
 have G:∀k k':Nat,(k==k')=(k'==k):=λk k'=>BEq.comm
 cases a<;>cases b<;>first|rfl|(unfold q8;dsimp only;rw[G])
theorem ady {a b:Bool×List m9}(h:q9 a b=true):q9 b a=true:=by
 unfold q9 at *;simp only[x3,Bool.not_eq_true',Bool.or_eq_false_iff,jc] at *;rcases h with ⟨F,I⟩|h
 ·exact .inl ⟨I,F⟩
 ·exact .inr λx O y ar=>by rw[apv];exact h y ar x O
theorem apw {mem:Mem}{e e':Option (Key×Nat×List R)}(h:∀j g cs lL c6 na,e=some (j,g,cs)->e'=some (lL,c6,na)->j≠lL):h8 (h8 mem e) e'=h8 (h8 mem e') e:=by
 cases e with
 |none=>rfl
 |some p =>
  cases e' with
  |none=>rfl
  |some o6 =>
   obtain⟨j,g,cs⟩:=p;obtain⟨lL,c6,na⟩:=o6;have bC:=h _ _ _ _ _ _ rfl rfl
   funext k
   simp only[h8,aZ]
   by_cases F:k=lL
   ·by_cases I:k=j
    ·exact absurd (I.symm.trans F) bC
    ·simp[F,I];intro af;exact absurd af.symm bC
   ·simp[F]
def Passes (jN:Nat->Nat->Bool)(i j:Nat)(x y:c9):Prop:=jN i j=true\/zc (sj x.op) (sj y.op)=true
theorem apx {i j:Nat}{x y:c9}{tm:Nat->R}(h:Passes jN i j x y)(G:jN i j=true->q9 (jF x.op,dG tm x.op) (jF y.op,dG tm y.op)=true):
  q9 (jF x.op,dG tm x.op) (jF y.op,dG tm y.op)=true:=by
 rcases h with h|h
 ·exact G h
 ·unfold zc at h;simp only[x3,ec,beq_iff_eq] at h;rcases h with (h|h)|⟨F,I⟩
  ·obtain⟨F,I⟩:=adt (tm:=tm) h;simp[q9,F]
  ·obtain⟨F,I⟩:=adt (tm:=tm) h;simp[q9,F]
  ·have F:=adu F;have I:=adu I;simp[q9,F,I]
theorem x2.comm {i j:Nat}{x y:c9}{rec rk NR:Rec}{st rl NS:bd}(ln:i≠j)(dL:xS x y=true)(aE:Passes jN i j x y)(Tj:∀a b,jN a b=jN b a)(ih:rec i=none)
  (F:x2 T jN i x rec st rk rl) (I:x2 T jN j y rk rl NR NS):∃JU JV,x2 T jN j y rec st JU JV/\x2 T jN i x JU JV NR NS:=by
 obtain⟨aN,ah,G⟩:=adw dL
 -- what one sees of the other's temporary: nothing
 have apy:∀m,o1 (put st.tm x.dst m) y.g=o1 st.tm y.g:=λm=>adv λs b U=>wx λaa=>aN s aa (adx U);have apz:∀mem m,ho T mem (put st.tm x.dst m) y.op=ho T mem st.tm y.op:=λmem m=>adl λs U=>wx λaa=>aN s aa (NQ U);have apA:∀m,dG (put st.tm x.dst m) y.op=dG st.tm y.op:=λm=>adm λs U=>wx λaa=>aN s aa (NQ U);have NT:∀m,o1 (put st.tm y.dst m) x.g=o1 st.tm x.g:=λm=>adv λs b U=>wx λaa=>G s aa (adx U);have adz:∀mem m,ho T mem (put st.tm y.dst m) x.op=ho T mem st.tm x.op:=λmem m=>adl λs U=>wx λaa=>G s aa (NQ U);have NU:∀m,dG (put st.tm y.dst m) x.op=dG st.tm x.op:=λm=>adm λs U=>wx λaa=>G s aa (NQ U);have lO:∀m m',put (put st.tm x.dst m) y.dst m'=put (put st.tm y.dst m') x.dst m:=λm m'=>put_comm ah;rcases F with ⟨cD,rfl,rfl⟩|⟨cD,dx,aA,s1,aI,rfl,rfl⟩<;>rcases I with ⟨cf,rfl,rfl⟩|⟨cf,cM,aC,s2,c2,rfl,rfl⟩<;>simp only[apy,apz,apA] at *
 ·exact⟨_,_,.inl ⟨cf,rfl,rfl⟩,.inl ⟨by simp only[NT];exact cD,rfl,by simp only[lO]⟩⟩
 ·exact⟨_,_,.inr ⟨cf,cM,aC,s2,c2,rfl,rfl⟩,.inl ⟨by simp only[NT];exact cD,rfl,by simp only[lO]⟩⟩
 ·exact⟨_,_,.inl ⟨cf,rfl,rfl⟩,.inr ⟨by simp only[NT];exact cD,dx,aA,by simp only[adz];exact s1,by simp only[NU];exact aI,by simp only[NU],by simp only[lO]⟩⟩
 ·have adA:jN i j=true->q9 (jF x.op,dG st.tm x.op) (jF y.op,dG st.tm y.op)=true:=λh=>c2 i _ h (by simp[uN]);have Bi:=apx (tm:=st.tm) aE adA;have Tk:ho T st.mem st.tm y.op=some (cM,aC):=by rw[<-s2];exact (ads s1 Bi).symm
  have gR:∀j g cs lL c6 na,aA=some (j,g,cs)->aC=some (lL,c6,na)->j≠lL:=by
   rintro k g cs k' c6 na rfl rfl rfl;rcases Ti s1 with h|⟨hw,c7,cf,oC,h,F⟩
   ·cases h
   ·cases h;rcases Ti Tk with h|⟨adB,ey,gS,aIx,h,I⟩
    ·cases h
    ·cases h;unfold q9 at Bi;simp only[hw,Bool.true_or,Bool.not_true,Bool.false_or,jc] at Bi;rcases F with F|⟨i,c,tr,F,_,_⟩<;>rcases I with I|⟨bo,c',aIy,I,_,_⟩
     ·have:=Bi _ F _ I;simp[q8] at this
     ·have:=Bi _ F (.wr k bo) (by rw[I];exact gn);simp[q8] at this
     ·have:=Bi (.wr k i) (by rw[F];exact gn) _ I;simp[q8] at this
     ·have:=Bi (.wr k i) (by rw[F];exact gn) (.wr k bo) (by rw[I];exact gn);simp[q8] at this
  refine⟨_,_,.inr ⟨cf,cM,aC,Tk,λp q NV aG=>?_,rfl,rfl⟩,.inr ⟨by simp only[NT];exact cD,dx,aA,?_,?_,?_,?_⟩⟩
  ·have bC:p≠i:=λh=>by rw[h,ih] at aG;cases aG
   exact c2 p q NV (by simp[uN,bC,aG])
  ·simp only[adz];rw[<-s1];exact ads Tk (ady Bi)
  ·simp only[NU];intro p q zo aG
   by_cases NV:p=j
   ·subst NV;simp only[uN,if_true,cj] at aG;subst aG;exact ady (adA (by rw[Tj];exact zo))
   ·simp only[uN,NV,if_false] at aG;exact aI p q zo aG
  ·simp only[NU]
   funext p
   simp only[uN]
   by_cases F:p=i
   ·subst F;simp[ln]
   ·simp[F]
  ·simp only[lO];rw[apw gR]
end Go.Mini
namespace Go.Mini
open Go
variable {T:bh} {jN:Nat->Nat->Bool} {ops:Array Oper} {l:List c9} {K:bd->Prop}
def FP (T:bh)(jN:Nat->Nat->Bool)(ops:Array Oper)(l:List c9)(K:bd->Prop):Nat->Array Bool->Rec->bd->Prop
 |0,eT,_,st=>Region.ready .any ops eT=[]/\K st
 |fuel+1,eT,rec,st=>(Region.ready .any ops eT=[]->K st) /\
  ∀i∈Region.ready .any ops eT,∃x zn dO,l[i]?=some x/\x2 T jN i x rec st zn dO/\FP T jN ops l K fuel (eT.setIfInBounds i true) zn dO
def Bj (ops:Array Oper)(eT:Array Bool):Prop :=
 eT.size=ops.size/\∀(j:Nat) (o:Oper),ops[j]?=some o->eT.getD j false=true->∀e∈o.after,Region.binds .any e=true->eT.getD e.on false=true
theorem Bj.set {eT:Array Bool}{i:Nat}(h:Bj ops eT)(M:i∈Region.ready .any ops eT):Bj ops (eT.setIfInBounds i true):=by
 refine⟨by simp[h.1],λj o aj aq e he ah=>?_⟩
 by_cases h0:j=i
 ·subst h0;obtain⟨_,JW,bJ,eZ⟩:=mem_ready.1 M;rw[aj] at bJ
  cases bJ;exact getD_set_true (eZ e he ah)
 ·rw[getD_set_ne false (Ne.symm h0)] at aq;exact getD_set_true (h.2 j o aj aq e he ah)
def Tl (jN:Nat->Nat->Bool)(ops:Array Oper)(l:List c9):Prop :=
 ∀(i j:Nat) (x y:c9),i≠j->l[i]?=some x->l[j]?=some y ->
  (∀eT,Bj ops eT->i∈Region.ready .any ops eT->j∈Region.ready .any ops eT->False)\/(xS x y=true/\Passes jN i j x y)
theorem adC {i k:Nat}{x:c9}{rec zn:Rec}{st dO:bd}(h:x2 T jN i x rec st zn dO)(Q:k≠i):zn k=rec k:=by
 rcases h with ⟨_,rfl,_⟩|⟨_,_,_,_,_,rfl,_⟩
 ·rfl
 ·simp[uN,Q]
theorem apB {eT:Array Bool}{i k:Nat}(h:(eT.setIfInBounds i true).getD k true=false):k≠i/\eT.getD k true=false:=by
 by_cases qw:i=k
 ·subst qw
  exfalso
  by_cases ay:i<eT.size
  ·simp[ay] at h
  ·have:(eT.setIfInBounds i true).size<=i:=by simp;omega
   rw[Array.getD_eq_getD_getElem?,Array.getElem?_eq_none this] at h;simp at h
 ·rw[getD_set_ne true qw] at h;exact⟨λct=>qw ct.symm,h⟩
theorem apC (aE:Tl jN ops l)(Tj:∀a b,jN a b=jN b a){i:Nat}{x:c9}(M:l[i]?=some x):∀(fuel:Nat) (eT:Array Bool) (rec:Rec) (st:bd) (rk:Rec) (rl:bd),
  Bj ops eT->(∀k,eT.getD k true=false->rec k=none)->i∈Region.ready .any ops eT->x2 T jN i x rec st rk rl ->
  FP T jN ops l K fuel (eT.setIfInBounds i true) rk rl->FP T jN ops l K (fuel+1) eT rec st:=by
 intro fuel
 induction fuel with
 |zero =>
  intro eT rec st rk rl ew Bk ab he hL;refine⟨λh=>(by rw[h] at ab;cases ab),λj aj=>?_⟩
  by_cases h0:j=i
  ·subst h0;exact⟨x,rk,rl,M,he,hL⟩
  ·have:=ready_mono aj h0;rw[hL.1] at this
   cases this
 |succ fuel ax =>
  intro eT rec st rk rl ew Bk ab he hL;refine⟨λh=>(by rw[h] at ab;cases ab),λj aj=>?_⟩
  by_cases h0:j=i
  ·subst h0;exact⟨x,rk,rl,M,he,hL⟩
  ·obtain⟨y,NR,NS,ar,hq,dN⟩:=hL.2 j (ready_mono aj h0);rcases aE i j x y (Ne.symm h0) M ar with gg|⟨dL,apD⟩
   ·exact (gg eT ew ab aj).elim
   ·obtain⟨JU,JV,F,I⟩:=x2.comm (Ne.symm h0) dL apD Tj (Bk i (mem_ready.1 ab).1) he hq;refine⟨y,JU,JV,ar,F,ax _ JU JV NR NS (ew.set aj) (λk Q=>?_) (ready_mono ab (Ne.symm h0)) I ?_⟩
    ·obtain⟨af,aM⟩:=apB Q;rw[adC F af];exact Bk k aM
    ·rw[Array.setIfInBounds_comm _ _ h0];exact dN
theorem Tm:∀(r:List Oper) (acc:List Nat) (k:Nat),k<(D acc)->(ql r acc).getD k 0=acc.getD k 0
 | [],acc,k,_=>rfl
 |o::r,acc,k,Q=>by
  simp only[ql];rw[Tm r _ k (by simp;omega)];simp only[en];rw[qo Q]
theorem apE {es:List Edge}{acc:List Nat}{i:Nat}:∀(s:Nat),(es.foldl (λs e=>if Region.binds .any e=true then s ||| (2^e.on ||| acc.getD e.on 0) else s) s).testBit i=true ->
  s.testBit i=true\/∃e∈es,Region.binds .any e=true/\(e.on=i\/(acc.getD e.on 0).testBit i=true):=by
 induction es with
 |nil=>exact λs h => .inl h
 |cons e es ax =>
  intro s h;rw[FG] at h;rcases ax _ h with F|⟨e',F,I⟩
  ·split at F
   ·rename_i ah;rw[adD,adD,x3,x3] at F;rcases F with F|F|F
    ·exact .inl F
    ·rw[Nat.testBit_two_pow] at F;exact .inr ⟨e,by simp,ah,.inl (by simpa using F)⟩
    ·exact .inr ⟨e,by simp,ah,.inr F⟩
   ·exact .inl F
  ·exact .inr ⟨e',by simp[F],I⟩
theorem adE:∀(r:List Oper) (acc:List Nat) (t:Nat) (o:Oper),r[t]?=some o->∀i,((ql r acc).getD (D acc+t) 0).testBit i=true ->
  ∃e∈o.after.toList,Region.binds .any e=true/\(e.on=i\/(e.on<D acc+t/\((ql r acc).getD e.on 0).testBit i=true))
 | [],_,_,_,h,_,_=>by simp at h
 |JW::r,acc,0,o,h,i,ah=>by
  simp at h;subst h;simp only[ql,nQ] at ah ⊢;rw[Tm r _ _ (by simp)] at ah;simp only[en] at ah;rw[rb (bW _)] at ah;simp only[mg,u0,FQ] at ah;rcases apE (acc:=acc) 0 (by simpa only [en] using ah) with F|⟨e,F,I,af⟩
  ·simp at F
  ·refine⟨e,F,I,af.imp id λh=>?_⟩
   have ay:e.on<D acc:=by
    rcases h9 e.on (D acc) with ct|ct
    ·exact ct
    ·rw[en,ke ct] at h;simp at h
   refine⟨ay,?_⟩;rw[Tm r _ _ (by simp;omega),en,qo ay,<-en];exact h
 |JW::r,acc,t+1,o,h,i,ah=>by
  have ct:r[t]?=some o:=by simpa using h
  simp only[ql] at ah ⊢
  have:=adE r (acc++[JW.after.toList.foldl (λs e=>if Region.binds .any e=true then s ||| (2^e.on ||| acc.getD e.on 0) else s) 0]) t o ct i (by
   rw[fE,List.length_singleton,qn,y6 1 t];exact ah)
  obtain⟨e,F,I,af⟩:=this;refine⟨e,F,I,af.imp id λh=>⟨by have:=h.1;simp at this;omega,h.2⟩⟩
theorem apF {eT:Array Bool}(ew:Bj ops eT):∀(j:Nat) (o:Oper),ops[j]?=some o->(∀e∈o.after,Region.binds .any e=true->eT.getD e.on false=true) ->
  ∀i,((ql ops.toList []).getD j 0).testBit i=true->eT.getD i false=true:=by
 intro j
 induction j using Nat.strongRecOn with
 |_ j ax =>
  intro o bJ eZ i M;obtain⟨e,he,ah,h⟩:=adE ops.toList [] j o (by simpa using bJ) i (by simpa using M);have aq:=eZ e (by simpa using he) ah;rcases h with rfl|⟨ay,apG⟩
  ·exact aq
  ·have eW:e.on<ops.size:=by
    rw[<-ew.1];rcases h9 e.on eT.size with ct|ct
    ·exact ct
    ·simp[Array.getElem?_eq_none ct] at aq
   have adF:ops[e.on]?=some ops[e.on]:=Array.getElem?_eq_getElem eW;exact ax e.on (by simpa using ay) _ adF (ew.2 e.on _ adF aq) i apG
theorem adG:∀(cs pre:List c9) (as:List Nat),Fs pre cs as=true->∀(t:Nat) (y:c9),cs[t]?=some y->∀(i:Nat) (x:c9),(pre++cs)[i]?=some x->i<D pre+t ->
  (as.getD t 0).testBit i=true\/xS x y=true
 | [],_,_,_,_,_,h,_,_,_,_=>by simp at h
 |_::_,_,[],h,_,_,_,_,_,_,_=>by simp[Fs] at h
 |c::cs,pre,a::as,h,0,y,ar,i,x,O,ay=>by
  simp only[Fs,ec,jc] at h;simp at ar;subst ar;have M:i<D pre:=by simpa using ay
  rw[qo M] at O;have:=h.1 (x,i) (by rw[adH];exact O)
  simpa using this
 |c::cs,pre,a::as,h,t+1,y,ar,i,x,O,ay=>by
  simp only[Fs,ec] at h;have:=adG cs (pre++[c]) as h.2 t y (by simpa using ar) i x (by simpa using O) (by simp;omega)
  simpa using this
theorem adI:∀(cs pre:List c9) (as:List Nat) (t:Nat) (y:c9),cs[t]?=some y->∀(i:Nat) (x:c9),(pre++cs)[i]?=some x->i<D pre+t ->
  (as.getD t 0).testBit i=true\/zc (sj x.op) (sj y.op)=true\/i∈(zd pre cs as).getD t []
 | [],_,_,_,_,h,_,_,_,_=>by simp at h
 |c::cs,pre,as,0,y,ar,i,x,O,ay=>by
  simp at ar;subst ar;have M:i<D pre:=by simpa using ay
  rw[qo M] at O;have fZ:(x,i)∈pre.zipIdx:=by rw[adH];exact O
  by_cases F:(as.getD 0 0).testBit i=true
  ·exact .inl F
  ·by_cases I:zc (sj x.op) (sj c.op)=true
   ·exact .inr (.inl I)
   ·refine .inr (.inr ?_);simp only[zd,en,u0,FQ];refine List.mem_map.2 ⟨(x,i),List.mem_filter.2 ⟨fZ,?_⟩,rfl⟩;have af:as.headD 0=as.getD 0 0:=by cases as<;>rfl
    simp only[af];rw[en] at F;simp[F,I]
 |c::cs,pre,as,t+1,y,ar,i,x,O,ay=>by
  have:=adI cs (pre++[c]) as.tail t y (by simpa using ar) i x (by simpa using O) (by simp;omega);have af:as.tail.getD t 0=as.getD (t+1) 0:=by cases as<;>simp
  rw[af] at this
  simpa [zd] using this
def wy (c:List (List Nat))(i j:Nat):Bool:=if i<j then (c.getD j []).contains i else if j<i then (c.getD i []).contains j else false
theorem adJ (c:List (List Nat))(i j:Nat):wy c i j=wy c j i:=by
 unfold wy
 by_cases F:i<j
 ·simp[F,adK F]
 ·by_cases I:j<i
  ·simp[I,adK I]
  ·simp[F,I]
theorem apH {x y:c9}(h:xS x y=true):xS y x=true:=by
 obtain⟨F,I,af⟩:=adw h;unfold xS;rw[ec]
 constructor
 ·cases ar:y.dst with
  |none=>rfl
  |some d =>
   have a:=af d ar;have b:x.dst≠some d:=λO=>I d O ar;simp[a,b]
 ·cases O:x.dst with
  |none=>rfl
  |some d =>
   have a:=F d O;simp[a]
theorem apI (a b:Nat):zc a b=zc b a:=by
 unfold zc
 cases (a==0)<;>cases (b==0)<;>cases (a==1)<;>cases (b==1)<;>rfl
theorem apJ (aa:Fu ops l=true):Tl (wy (zd [] l (ql ops.toList []))) ops l:=by
 have key:∀(i j:Nat) (x y:c9),i<j->l[i]?=some x->l[j]?=some y ->
   (∀eT,Bj ops eT->i∈Region.ready .any ops eT->j∈Region.ready .any ops eT->False) \/
   (xS x y=true/\(wy (zd [] l (ql ops.toList [])) i j=true\/zc (sj x.op) (sj y.op)=true)):=by
  intro i j x y ln O ar;unfold Fu at aa;rw[ec] at aa
  by_cases ah:((ql ops.toList []).getD j 0).testBit i=true
  ·refine .inl λeT ew M aj=>?_;obtain⟨_,o,bJ,eZ⟩:=mem_ready.1 aj;have F:=apF ew j o bJ eZ i ah;have al:=(mem_ready.1 M).1;rcases h9 i eT.size with ct|ct
   ·simp[ct] at al F;rw[al] at F;cases F
   ·simp[Array.getElem?_eq_none ct] at F
  ·refine .inr ⟨?_,?_⟩
   ·rcases adG l [] _ aa.2 j y ar i x (by simpa using O) (by simpa using ln) with h|h
    ·exact absurd h ah
    ·exact h
   ·rcases adI l [] (ql ops.toList []) j y ar i x (by simpa using O) (by simpa using ln) with h|h|h
    ·exact absurd h ah
    ·exact .inr h
    ·exact .inl (by unfold wy;rw[ad ln];exact adL.2 h)
 intro i j x y ln O ar;rcases Nat.lt_or_gt_of_ne ln with h|h
 ·exact key i j x y h O ar
 ·rcases key j i y x h ar O with F|⟨F,I⟩
  ·exact .inl λeT ew M aj=>F eT ew aj M
  ·refine .inr ⟨apH F,?_⟩;rcases I with I|I
   ·exact .inl (by rw[adJ];exact I)
   ·exact .inr (by rw[apI];exact I)
end Go.Mini
namespace Go.Mini
open Go
variable {P:Program} {T:bh} {A:Nat->Prop} {ev w:World} {hg B:Lay} {mem:Mem} {n kb:Nat} {own:List Nat} {ops:Array Oper} {l:List c9} {K:bd->Prop} {aL:Exit->Act->World->Prop}
theorem adM:∀(r:List Oper) (m:Nat),Ft m r=true->∀(t:Nat) (o:Oper),r[t]?=some o->∀e∈o.after,Region.binds .any e=true->e.on<m+t
 | [],_,_,_,_,h,_,_,_=>by simp at h
 |JW::r,m,h,0,o,bJ,e,he,ah=>by
  simp only[Ft,ec] at h;simp at bJ;subst bJ;have:=(Array.all_eq_true_iff_forall_mem.1 h.1) e he
  simpa [ah] using this
 |JW::r,m,h,t+1,o,bJ,e,he,ah=>by
  simp only[Ft,ec] at h;have:=adM r (m+1) h.2 t o (by simpa using bJ) e he ah;omega
theorem adN {c:List (List Nat)}(aE:Tl (wy c) ops l)(aq:(D l)=ops.size)(he:Ft 0 ops.toList=true):∀(r:List c9) (m:Nat) (rec:Rec) (st:bd) (eT:Array Bool),l.drop m=r->m+D r=(D l) ->
  eT.size=ops.size->(∀i,i<ops.size->eT.getD i true=decide (i<m))->(∀k,m<=k->rec k=none)->wj T K m r (c.drop m) rec st->FP T (wy c) ops l K (D r) eT rec st
 | [],m,rec,st,eT,ab,hm,U,hli,Bk,h=>by
  refine⟨List.eq_nil_iff_forall_not_mem.2 λi M=>?_,h⟩;obtain⟨F,o,bJ,_⟩:=mem_ready.1 M;have ay:i<ops.size:=(Array.getElem?_eq_some_iff.1 bJ).1;rw[hli i ay] at F;simp at F hm;omega
 |x::r,m,rec,st,eT,ab,hm,U,hli,Bk,h=>by
  have ay:m<ops.size:=by simp at hm;omega
  have bJ:ops[m]?=some ops[m]:=Array.getElem?_eq_getElem ay
  have O:l[m]?=some x:=by
   have:(l.drop m)[0]?=some x:=by rw[ab];rfl
   simpa using this
  have jt:=λ(j:Nat) (o:Oper) (aj:ops[j]?=some o)=>adM ops.toList 0 he j o (by simpa using aj)
  have cw:∀i,i<m->eT.getD i false=true:=λi M=>by
   have F:=hli i (by omega);rw[iw M] at F;have I:i<eT.size:=by omega
   simpa [I] using F
  have ew:Bj ops eT:=⟨U,λj o aj ib e pJ ah=>by
   have F:=jt j o aj e pJ ah;have pF:j<ops.size:=(Array.getElem?_eq_some_iff.1 aj).1
   have I:j<m:=by
    have:=hli j pF;have af:j<eT.size:=by omega
    simp[af] at ib this;rw[ib] at this
    simpa using this.symm
   exact cw _ (by omega)⟩
  have apK:m∈Region.ready .any ops eT:=mem_ready.2 ⟨by rw[hli m ay];simp,_,bJ,λe pJ ah=>cw _ (by have:=jt m _ bJ e pJ ah;omega)⟩
  have apL:∀k,eT.getD k true=false->rec k=none:=λk Q=>Bk k (by
   rcases h9 k ops.size with ct|ct
   ·rw[hli k ct] at Q
    simpa using Q
   ·omega)
  have next:∀rk rl,x2 T (wy c) m x rec st rk rl->wj T K (m+1) r (c.drop m).tail rk rl->FP T (wy c) ops l K (D r+1) eT rec st:=by
   intro rk rl hex Q;refine apC aE (adJ c) O _ eT rec st rk rl ew apL apK hex (adN aE aq he r (m+1) rk rl _ ?_ (by simp at hm;omega) (by simpa using U) (λi M=>?_) (λk Q=>?_) ?_)
   ·rw[<-FR,ab]
    rfl
   ·by_cases him:m=i
    ·subst him;have:m<eT.size:=by omega
     simp[this]
    ·rw[getD_set_ne true him,hli i M]
     congr 1
     simp;omega
   ·rw[adC hex (by omega)];exact Bk k (by omega)
   ·rw[List.tail_drop] at Q;exact Q
  simp only[wj] at h
  split at h
  ·cases h
  ·rename_i g bc
   split at h
   ·rename_i iM;subst iM
    split at h
    ·rename_i cQ e U;refine next _ _ (.inr ⟨bc,cQ,e,U,λp q oD aG=>?_,rfl,rfl⟩) h.2
     have o3:p<m:=by
      rcases h9 p m with ct|ct
      ·exact ct
      ·rw[Bk p ct] at aG;cases aG
     have Tn:=h.1;unfold Fm at Tn;rw[jc] at Tn
     have fZ:p∈(c.drop m).headD []:=by
      unfold wy at oD;rw[ad o3] at oD
      have:(c.drop m).headD []=c.getD m []:=by
       rw[List.headD_eq_head?_getD,List.head?_drop,en]
      rw[this];exact adL.1 oD
     have:=Tn p fZ;rw[aG] at this;exact this
    ·cases h
   ·rename_i To;have apM:g=false:=by simpa using To
    subst apM;exact next _ _ (.inl ⟨bc,rfl,rfl⟩) h
theorem JX (h:fm A w B mem):fm (b7 A B) w (λ_=>none) emp :=
 ⟨λ_ _=>rfl,λ_ _ _ _ _ h=>(by cases h),λb _ ⟨_,_,h,_⟩=>(by cases h),λb ah=>ah.elim (λct=>h.xM ct) (h.lt b),λ_ _ _ h=>(by cases h)⟩
theorem zp (b:Nat):b7 (b7 A B) (λ_=>none) b↔b7 A B b :=
 ⟨λh=>h.elim (fun⟨_,_,h,_⟩=>by cases h) id,.inr⟩
theorem adO {m:R}{v:Value}(h:bs w (b7 A B) B m v):bs w (b7 (b7 A B) λ_=>none) (λ_=>none) (shut m) v:=by
 cases h with
 |J h=>exact .J (h.less λb ah=>(zp b).1 ah)
 |nil=>exact .nil
 |fy aq aa =>
  rename_i f eO vs
  cases eO with
  |nil=>exact .fy aq λi d v h=>by simp at h
  |cons c r=>exact .undef
 |agg aq aa =>
  rename_i cs vs;simp only[shut]
  cases G:cs.mapM uL with
  |none=>exact .undef
  |some ds =>
   obtain⟨F,I⟩:=oy G;refine .J (.agg (aq.trans F.symm) λi d v M hv=>?_);have ay:i<D cs:=by have:=(dz.1 M).1;omega
   have js:=bx ay;exact (acT (I i _ d js M) (aa i _ v js hv)).less λb ah=>(zp b).1 ah
 |_=>exact .undef
theorem shut_list {ms:List R}{vs:List Value}(h:dp w (b7 A B) B ms vs):dp w (b7 (b7 A B) λ_=>none) (λ_=>none) (ms.map shut) vs:=by
 refine⟨by simpa using h.1,λi m v hm hv=>?_⟩
 rw[bq,dR] at hm;obtain⟨m',nT,rfl⟩:=hm;exact adO (h.2 i m' v nT hv)
theorem Bh.less {w aP:World}{aW ma:Nat->Prop}{sz:Nat}{es:List (List Data)}{v:Value}(aq:∀b,ma b->aW b)(h:Bh w aP aW sz es v):Bh w aP ma sz es v:=by
 obtain⟨F,a,cap,I,af,aM,bk⟩:=h;refine⟨F,a,cap,I,af,aM,bk.imp id ?_⟩;rintro⟨b,vs,T,bI,bH,b6,iN,gp⟩;exact⟨b,vs,T,bI,bH,b6,iN,λi d aa=>let ⟨u,hu,tp⟩:=gp i d aa;⟨u,hu,tp.less λek hX=>hX.imp (aq ek) id⟩⟩
theorem Dk {o:Oper}{c:Call}{f:FuncId}{a:Act}(bJ:o.op=.call c)(mr:c.callee=.value (.func f))(mq:Real P f):(execOp a.eval o).run P w=.ok (.enter f (c.args.toList.map a.eval).toArray) w:=by
 obtain⟨dst,op,type,pos,after,guard⟩:=o;simp only at bJ;subst bJ;obtain⟨callee,zm,NN⟩:=c;simp only at mr;subst mr;simp only[execOp,resolve,Deferred.ofValue,Act.eval,invoke,Sem.run_bind,Sem.run_pure,Result.andThen_ok,NM mq];rw[Be zm];simp
theorem adP {aW:Nat->Prop}{b off c sz len:Nat}{vs:Array Value}{T:TypeId}{ds:List Data}(aQ:w.heap[b]?=some (.cells vs T (0,0)))(fH:¬ aW b)(aq:(D ds)=len*sz)(NW:len<=c)(hm:len<=maxLen)(Da:off+len*sz<=vs.size)
  (aa:∀(i:Nat) (d:Data) (v:Value),ds[i]?=some d->vs[off+i]?=some v->Den w aW d v):Den w aW (.Y (chunk sz len ds)) (.slice (some ⟨b,off,none⟩) len c):=by
 have ew:=NB sz len ds
 have h:=Den.Y (w:=w) (aW:=aW) (es:=chunk sz len ds) (b:=b) (off:=off) (c:=c) (sz:=sz) (λi=>vs.getD (off+i) undef) (by rw[ew];exact NW) (by rw[ew];exact hm)
  (Array.getElem?_eq_some_iff.1 aQ).1 fH (NC sz len ds aq)
  (λi M=>by
   rw[ew] at M;rw[cell_of_row w b (off+i) vs T (0,0) aQ];have:off+i<vs.size:=by omega
   simp[this])
  (λi d kQ=>by
   rw[ND sz len ds aq] at kQ;have ay:i<D ds:=(dz.1 kQ).1;have kz:off+i<vs.size:=by omega
   have:vs.getD (off+i) undef=vs[off+i]:=by simp[kz]
   simp only[this];exact aa i d _ kQ (Array.getElem?_eq_getElem kz))
 rw[ew] at h;exact h
theorem apN {mem:Mem}{k g sz off len:Nat}{cs:List R}{d:Data}(hm:mem k=some (g,cs))(h:Jx sz off len cs=some d):cz 1 mem (.ref k g sz off len)=some d:=by
 have aS:∀(m:R) (d:Data),uL m=some d->cz 0 mem m=some d:=λm d h=>by
  unfold uL at h
  split at h<;>simp_all [cz]
 have aq:∀(l:List R) (ds:List Data),l.mapM uL=some ds->l.mapM (cz 0 mem)=some ds:=by
  intro l
  induction l with
  |nil=>intro ds h;simpa using h
  |cons m l ax =>
   intro ds h;simp only[lg,g7,hf,eo,cj] at h ⊢;obtain⟨x,O,Dl,g0,rfl⟩:=h;exact⟨x,aS m x O,Dl,ax Dl g0,rfl⟩
 unfold Jx at h
 split at h
 ·rename_i part aE;simp only[SK,dR] at h;obtain⟨ds,g0,rfl⟩:=h;simp only[cz,hm,if_true,aE];rw[aq _ _ g0]
  rfl
 ·cases h
theorem JY {k:Key}{g sz off len:Nat}{cs:List R}{d:Data}{v:Value}(bS:fm A w B mem)(Q:mem k=some (g,cs))(aa:cz 1 mem (.ref k g sz off len)=some d)(hv:bs w (b7 A B) B (.ref k g sz off len) v):
  Den w (b7 A (gm B k ⟨bU mem k,none,0⟩)) d v:=by
 have fH:∀b,b7 A (gm B k ⟨bU mem k,none,0⟩) b->b7 A B b:=λb h=>h.imp (fun⟨j,e,aj,O⟩=>by
  by_cases dW:j=k
  ·subst dW;rw[hd] at aj;cases aj;cases O
  ·rw[g6 B _ dW] at aj;exact⟨j,e,aj,O⟩) id
 simp only[cz,Q,if_true] at aa
 split at aa
 ·rename_i part Tp;simp only[dR] at aa;obtain⟨ds,g0,rfl⟩:=aa;obtain⟨ew,rfl,o3⟩:=Fy Tp;obtain⟨F,I⟩:=oy g0
  cases hv with
  |ref he hgle ab =>
   obtain⟨e,gf,b9,aK,ah⟩:=bS.at_ Q;rw[gf] at he;obtain rfl:=mj he;obtain⟨a,cap,rfl,af,aM,bk⟩:=ab;rcases bk with bk|⟨b,rfl,bI⟩
   ·have:len=0:=by omega
    subst this;simp only[chunk];exact .lK
   ·obtain⟨bH,b6⟩:=bI b9.symm;obtain⟨vs,T,aQ,aS,hle,bX⟩:=ah b bH
    have apO:¬ b7 A (gm B k ⟨bU mem k,none,0⟩) b:=by
     rintro (⟨j,aC,aj,O⟩|aN)
     ·by_cases dW:j=k
      ·subst dW;rw[hd] at aj;cases aj;cases O
      ·rw[g6 B _ dW] at aj;exact dW (bS.inj j k aC _ b aj gf O bH)
     ·exact bS.sep b aN ⟨k,_,gf,bH⟩
    refine adP aQ apO (by omega) af (by omega) (by omega) λi x u O hu=>?_;have ay:i<D ds:=(dz.1 O).1;have kz:off+i<D cs:=by omega
    have js:((cs.drop off).take (len*sz))[i]?=some cs[off+i]:=by
     rw[pK (by omega),kU,bx kz]
    have uZ:=I i _ x js O
    have lh:bs w (b7 A B) B cs[off+i] u:=bX.2 (off+i) _ u (bx kz) (by
     rw[pK kz,Array.getElem?_toList];exact hu)
    generalize cs[off+i]=m at *
    cases m<;>simp only[cz,cj,reduceCtorEq] at uZ
    ·subst uZ
     cases lh with
     |J h=>exact h.less fH
    ·subst uZ
     cases lh;exact .lK
 ·cases aa
theorem apP {ma:Nat->Prop}{bt:Lay}(fH:∀b,ma b->b7 A B b){m:R}{v:Value}(h:bs w (b7 A B) B m v):bs w ma bt (shut m) v:=by
 have al:=adO h;have apQ:∀b,ma b->b7 (b7 A B) (λ_=>none) b:=λb ah=>(zp b).2 (fH b ah)
 have go:∀{m:R},(∃d,m=.J d)\/m=.nil\/(∃f,m=.fy f [])\/m=.undef->bs w (b7 (b7 A B) λ_=>none) (λ_=>none) m v->bs w ma bt m v:=by
  intro m hm h;rcases hm with ⟨d,rfl⟩|rfl|⟨f,rfl⟩|rfl
  ·cases h with
   |J h=>exact .J (h.less apQ)
  ·cases h;exact .nil
  ·cases h with
   |fy aq aa=>exact .fy aq λi d v h=>by simp at h
  ·exact .undef
 refine go ?_ al
 cases m<;>simp only[shut]
 case J d=>simp
 case nil=>simp
 case fy f eO=>cases eO<;>simp
 case agg cs=>split<;>simp
 all_goals simp
theorem apR {k:Key}{g:Nat}{cs:List R}(h:fm A w B mem)(Q:mem k=some (g,cs))(aa:nM cs=true):
  fm (λb=>A b\/∃j e,j≠k/\B j=some e/\e.dd=some b) w (λj=>if j=k then B k else none) (aZ emp k g cs):=by
 have fH:∀b,b7 (λb=>A b\/∃j e,j≠k/\B j=some e/\e.dd=some b) (λj=>if j=k then B k else none) b->b7 A B b:=λb ah=>by
  rcases ah with ⟨j,e,aj,O⟩|aN|⟨j,e,_,aj,O⟩
  ·by_cases dW:j=k
   ·subst dW;simp only[if_true] at aj;exact .inl ⟨_,e,aj,O⟩
   ·simp only[dW,if_false] at aj;cases aj
  ·exact .inr aN
  ·exact .inl ⟨j,e,aj,O⟩
 refine⟨λj aj=>?_,λj lL e e' b F I _ _=>?_,λb aN bJ=>?_,λb ah=>?_,λj c6 na aj=>?_⟩
 ·by_cases dW:j=k
  ·subst dW;simp[aZ] at aj
  ·simp only[dW,if_false]
 ·by_cases aj:j=k<;>by_cases pF:lL=k
  ·rw[aj,pF]
  ·simp only[pF,if_false] at I;cases I
  ·simp only[aj,if_false] at F;cases F
  ·simp only[aj,if_false] at F;cases F
 ·obtain⟨j,e,aj,O⟩:=bJ
  by_cases dW:j=k
  ·subst dW;simp only[if_true] at aj;rcases aN with aN|⟨lL,e',bC,pF,uZ⟩
   ·exact h.sep b aN ⟨_,e,aj,O⟩
   ·exact bC (h.inj _ _ e' e b pF aj uZ O)
  ·simp only[dW,if_false] at aj;cases aj
 ·rcases ah with ah|⟨j,e,_,aj,O⟩
  ·exact h.lt b ah
  ·exact h.xM ⟨j,e,aj,O⟩
 ·by_cases dW:j=k
  ·subst dW;simp only[aZ,if_true,cj,fp] at aj;obtain⟨rfl,rfl⟩:=aj;obtain⟨e,he,bc,aK,ah⟩:=h.dd _ _ _ Q;refine⟨e,by simp only[if_true];exact he,bc,aK,λb jH=>?_⟩
   obtain⟨vs,T,aQ,aS,hle,ab⟩:=ah b jH;refine⟨vs,T,aQ,aS,hle,λi m M=>?_⟩;obtain⟨v,hv,qp⟩:=ab i m M;refine⟨v,hv,?_⟩;unfold nM at aa;rw[jc] at aa;have hm:=aa m (ep M);rw[ac3] at hm;obtain⟨d,hm⟩:=hm;unfold uL at hm
   split at hm<;>cases hm
   ·cases qp with
    |J qp=>exact .J (qp.less fH)
   ·cases qp;exact .nil
  ·simp only[aZ,dW,if_false,emp] at aj;cases aj
theorem apS {aP:World}{k:Key}{uK:Nat->Prop}(h:fm A w B mem)(apT:∀b,uK b->∃e,B k=some e/\e.dd=some b)(f:Fr uK w aP):eB A w B aP (gm B k ⟨bU mem k,none,0⟩) (aZ mem k (bU mem k) []) :=
 eB.change (e':=⟨bU mem k,none,0⟩) h ⟨f.os,f.tape,f.output,f.size,λb ah bJ=>f.block b ah λO=>bJ (apT b O)⟩ (λe he => .inr (C3 h k e he)) (λb ah=>by simp at ah) (λ_=>rfl) (λb ah=>by simp at ah)
theorem apU (cN:qv P T){a:Act}{st:bd}{o:Oper}{i:c9}{m:R}{e:Option (Key×Nat×List R)}(h:hD n A ev hg a st w B)(M:Tf P n kb own ops o i)
  (U:ho T st.mem st.tm i.op=some (m,e)):o.wp P a w (λjJ aP=>∃bt,hD n A ev hg jJ ⟨put st.tm i.dst m,h8 st.mem e⟩ aP bt) aL:=by
 have mP:=M.op
 have plain:cr st.mem st.tm i.op=some (m,e)->o.wp P a w (λjJ aP=>∃bt,hD n A ev hg jJ ⟨put st.tm i.dst m,h8 st.mem e⟩ aP bt) aL:=by
  intro U
  have aY:jG P kb own o.dst o.type o.op=some i.op:=getD_some mP (by
   intro ah;rw[ah] at U
   cases U)
  obtain⟨FO,v,aP,bt,mR,hK,dy,hv⟩:=ac9 h.ok.dV h.tq aY U;unfold Oper.wp;rw[mR,M.dst];have JT:=h.put dy hv M.lt;rcases hK with rfl|⟨rfl,rfl⟩
  ·exact⟨bt,JT⟩
  ·exact⟨bt,JT⟩
 cases tt:i.op with
 |call f args =>
  have aY:jG P kb own o.dst o.type o.op=some i.op:=getD_some mP (by rw[tt];simp);rw[tt] at aY U;obtain⟨c,G,mr,nS⟩:=adg aY;have bX:=shut_list (xZ h.tq nS);rw[lo] at bX;simp only[ho] at U
  split at U
  ·rename_i r ig
   cases U;obtain⟨mq,jt⟩:=cN f _ _ _ ig;have hp:=jt (b7 A B) w (λ_=>none) _ (JX h.ok.dV) bX;unfold Oper.wp;rw[Dk G mr mq,M.dst];refine Calls.mono hp λe aP he=>?_;obtain⟨v,rfl,bQ,aa⟩:=he;exact⟨B,h.put (.still h.ok.dV bQ) (.J (aa.less λb ah=>(zp b).2 ah)) M.lt⟩
  ·rename_i sz es ig
   cases U;obtain⟨mq,jt⟩:=cN f _ _ _ ig;have hp:=jt (b7 A B) w (λ_=>none) _ (JX h.ok.dV) bX;unfold Oper.wp;rw[Dk G mr mq,M.dst];refine Calls.mono hp λe aP he=>?_;obtain⟨v,rfl,bQ,aa⟩:=he;exact⟨B,h.put (.still h.ok.dV bQ) (.J ((aa.less λb ah=>(zp b).2 ah).den λb ah=>ah.elim (λct=>h.ok.dV.xM ct) (h.ok.dV.lt b))) M.lt⟩
  ·cases U
 |ov k sz f args =>
  have aY:jG P kb own o.dst o.type o.op=some i.op:=getD_some mP (by rw[tt];simp);rw[tt] at aY U;obtain⟨c,G,mr,nS⟩:=adh aY;have bX:=shut_list (xZ h.tq nS);rw[lo] at bX;simp only[ho] at U
  split at U
  ·rename_i et es ig
   split at U
   ·rename_i eW;subst eW
    cases U;obtain⟨mq,jt⟩:=cN f _ _ _ ig;have hp:=jt (b7 A B) w (λ_=>none) _ (JX h.ok.dV) bX;unfold Oper.wp;rw[Dk G mr mq,M.dst];refine Calls.mono hp λe aP he=>?_;obtain⟨v,rfl,bQ,aa⟩:=he;obtain⟨bt,dy,hv⟩:=adf k h.ok.dV bQ (aa.less λb ah=>(zp b).2 ah);exact⟨bt,h.put dy hv M.lt⟩
   ·cases U
  ·cases U
 |me cy f args =>
  have aY:jG P kb own o.dst o.type o.op=some i.op:=getD_some mP (by rw[tt];simp);rw[tt] at aY U;obtain⟨c,G,mr,nS⟩:=ao5 aY;have bX:=xZ h.tq nS;simp only[ho] at U;obtain⟨r,k,g,aIz,cc,cs,ig,hm,rfl,rfl,aF⟩:=adr U;obtain⟨mq,jt⟩:=cN f _ _ _ ig;have hp:=jt A w B _ h.ok.dV bX;unfold Oper.wp;rw[Dk G mr mq,M.dst];refine Calls.mono hp λe aP he=>?_;obtain⟨v,bt,rfl,dy,hv⟩:=he;refine⟨bt,?_⟩;have o2:q7 st.mem k=cs:=by simp only[q7,hm]
  rw[o2] at dy;exact h.put dy hv M.lt
 |tc j f args =>
  have aY:jG P kb own o.dst o.type o.op=some i.op:=getD_some mP (by rw[tt];simp);rw[tt] at aY U;obtain⟨c,G,mr,nS⟩:=ao6 aY;have Bl:=xZ h.tq nS;simp only[ho] at U;obtain⟨k,g,sz,off,len,cs,d,r,O,hm,aa,ab,rfl,rfl⟩:=adp U;have ok:=eB.xU h.ok.dV k
  have ay:j<(c.args.toList.map a.eval).length:=by
   rw[Bl.1];exact (dz.1 O).1
  have JG:=bx ay;have tp:=JY h.ok.dV hm (apN hm aa) (Bl.2 j _ _ O JG);have NX:=shut_list (Bl.q3 ok.mO);rw[lo] at NX
  have NY:dp w (b7 (b7 A (gm B k ⟨bU st.mem k,none,0⟩)) λ_=>none) (λ_=>none) ((args.map (shut ∘ a6 st.tm)).set j (.J d)) (c.args.toList.map a.eval):=by
   refine⟨by rw[NX.1,jf],λi m v F I=>?_⟩
   by_cases h0:j=i
   ·subst h0;rw[JG] at I
    cases I;have ib:j<(args.map (shut ∘ a6 st.tm)).length:=by rw[<-NX.1];exact ay
    rw[adQ ib] at F
    cases F;exact .J (tp.less λb ah=>(zp b).1 ah)
   ·rw[adR h0] at F;exact NX.2 i m v F I
  unfold Np at ab
  split at ab
  ·rename_i Fw ig
   cases ab;obtain⟨mq,jt⟩:=cN f _ _ _ ig;have hp:=jt (b7 A (gm B k ⟨bU st.mem k,none,0⟩)) w (λ_=>none) _ (JX ok.dV) NY;unfold Oper.wp;rw[Dk G mr mq,M.dst];refine Calls.mono hp λe aP he=>?_;obtain⟨v,rfl,bQ,nb⟩:=he;exact⟨_,h.put (ok.trans (.still ok.dV bQ)) (.J (nb.less λb ah=>(zp b).2 ah)) M.lt⟩
  ·rename_i et es ig
   cases ab;obtain⟨mq,jt⟩:=cN f _ _ _ ig;have hp:=jt (b7 A (gm B k ⟨bU st.mem k,none,0⟩)) w (λ_=>none) _ (JX ok.dV) NY;unfold Oper.wp;rw[Dk G mr mq,M.dst];refine Calls.mono hp λe aP he=>?_;obtain⟨v,rfl,bQ,nb⟩:=he;exact⟨_,h.put (ok.trans (.still ok.dV bQ)) (.J ((nb.less λb ah=>(zp b).2 ah).den λb ah=>ah.elim (λct=>ok.dV.xM ct) (ok.dV.lt b))) M.lt⟩
  ·cases ab
 |sf j f args =>
  have aY:jG P kb own o.dst o.type o.op=some i.op:=getD_some mP (by rw[tt];simp);rw[tt] at aY U;obtain⟨c,G,mr,nS⟩:=ao7 aY;have Bl:=xZ h.tq nS;simp only[ho] at U;obtain⟨k,g,sz,off,len,c6,cs,r,O,hm,aa,ig,rfl,rfl⟩:=adq U;have bS:=apR h.ok.dV hm aa
  have apV:∀b,b7 (λb=>A b\/∃j e,j≠k/\B j=some e/\e.dd=some b) (λj=>if j=k then B k else none) b->b7 A B b:=λb ah=>by
   rcases ah with ⟨u1,e,aj,tu⟩|aN|⟨u1,e,_,aj,tu⟩
   ·by_cases dW:u1=k
    ·simp only[ad dW] at aj;exact .inl ⟨k,e,aj,tu⟩
    ·simp only[ae dW] at aj;cases aj
   ·exact .inr aN
   ·exact .inl ⟨u1,e,aj,tu⟩
  have ay:j<(c.args.toList.map a.eval).length:=by
   rw[Bl.1];exact (dz.1 O).1
  have JG:=bx ay
  have NY:dp w (b7 (λb=>A b\/∃j e,j≠k/\B j=some e/\e.dd=some b) (λj=>if j=k then B k else none)) (λj=>if j=k then B k else none) ((args.map λx=>shut (a6 st.tm x)).set j (.ref k g sz off len)) (c.args.toList.map a.eval):=by
   refine⟨by rw[Bl.1,jf,ak,ak],λi m v F I=>?_⟩
   by_cases h0:j=i
   ·subst h0
    have ib:j<(args.map λx=>shut (a6 st.tm x)).length:=by
     have:=(dz.1 O).1
     simpa using this
    rw[adQ ib] at F
    cases F;have hv:=Bl.2 j _ v O I
    cases hv with
    |ref he bc ab=>exact .ref (by simp only[if_true];exact he) bc ab
   ·rw[adR h0,bq,dR] at F;obtain⟨y,ar,rfl⟩:=F;exact apP apV (Bl.2 i (a6 st.tm y) v (by rw[bq,ar];rfl) I)
  obtain⟨mq,jt⟩:=cN f _ _ _ ig;have hp:=jt _ w _ _ bS NY;unfold Oper.wp;rw[Dk G mr mq,M.dst];refine Calls.mono hp λe aP he=>?_;obtain⟨v,A1,rfl,dy,hv⟩:=he;refine⟨_,h.put (apS h.ok.dV (λb ah=>?_) dy.az) ?_ M.lt⟩
  ·obtain⟨u1,e,aj,tu⟩:=ah
   by_cases dW:u1=k
   ·simp only[ad dW] at aj;exact⟨e,aj,tu⟩
   ·simp only[ae dW] at aj;cases aj
  ·cases hv with
   |J hv =>
    refine .J (hv.less λb ah=>?_);rcases ah with ⟨u1,e,aj,tu⟩|aN
    ·by_cases dW:u1=k
     ·rw[dW,hd] at aj;cases aj;cases tu
     ·rw[g6 B _ dW] at aj;exact .inr (.inr ⟨u1,e,dW,aj,tu⟩)
    ·exact .inr (.inl aN)
 |jD f args=>rw[tt] at U;cases U
 |q4 neg x=>rw[tt] at U;cases U
 |_=>exact plain (by rw[tt] at U ⊢;exact U)
theorem adS {α β:Type}{f:α->Option β}{xs:List α}{ys:List β}(h:xs.mapM f=some ys){i:Nat}{x:α}(O:xs[i]?=some x):∃y,ys[i]?=some y/\f x=some y:=by
 obtain⟨F,I⟩:=oy h;have ay:i<D ys:=by rw[F];exact (dz.1 O).1
 exact⟨_,bx ay,I i x _ O (bx ay)⟩
theorem Tq (cN:qv P T){jN:Nat->Nat->Bool}(aY:ops.toList.mapM (A8 P n kb own ops)=some l)(fh:∀st a w B,K st->hD n A ev hg a st w B->aL .normal a w):
  ∀(fuel:Nat) (eT:Array Bool) (rec:Rec) (st:bd) (a:Act) (w:World) (B:Lay),hD n A ev hg a st w B->FP T jN ops l K fuel eT rec st->wpAny P .any ops aL fuel eT a w
 |0,_,_,_,_,_,_,U,h=>⟨h.1,fh _ _ _ _ h.2 U⟩
 |fuel+1,eT,rec,st,a,w,B,U,h=>by
  refine⟨λal=>fh _ _ _ _ (h.1 al) U,λi M=>?_⟩;obtain⟨x,zn,dO,O,hex,Q⟩:=h.2 i M;obtain⟨_,o,bJ,_⟩:=mem_ready.1 M;obtain⟨y,ar,Tr⟩:=adS aY (i:=i) (x:=o) (by simpa using bJ);rw[O] at ar
  cases ar;have x4:=adi Tr;unfold wpOp;simp only[bJ];rcases hex with ⟨bc,rfl,rfl⟩|⟨bc,m,e,apW,_,rfl,rfl⟩
  ·rw[Te U x4.guard bc,ae (by simp)];exact Tq cN aY fh fuel _ _ _ _ _ B (by rw[x4.dst];exact U.put (.refl U.ok.dV) .no x4.lt) Q
  ·rw[Te U x4.guard bc,ad rfl];refine .inl (Oper.wp_mono (λjJ aP ⟨bt,iL⟩=>Tq cN aY fh fuel _ _ _ _ _ bt iL Q) (apU cN U x4 apW))
theorem hD.drew {a:Act}{st:bd}(h:hD n A ev hg a st w B)(d:Nat):hD n A ev hg a st { w with drawn:=d } B:=by
 have U:eB A w B { w with drawn:=d } B st.mem:=.still h.ok.dV ((Fr.refl _ _).drew d);exact⟨h.ok.trans U,λs=>(h.tm s).q3 U.mO,h.sz,h.JR⟩
theorem apX (cN:qv P T)(hm:P.follows .mixedOrders=true){id:Nat}{a:Act}{st:bd}(aY:ops.toList.mapM (A8 P n kb own ops)=some l)(aa:Fu ops l=true)(U:hD n A ev hg a st w B)
  (h:wj T K 0 l (zd [] l (ql ops.toList [])) (λ_=>none) st) (fh:∀st a w B,K st->hD n A ev hg a st w B->aL .normal a w):(Code.region id ops true).wp P aL a w:=by
 refine wp_region_any hm ?_
 have aq:(D l)=ops.size:=by
  rw[(oy aY).1,Array.length_toList]
 have JZ:=adN (apJ aa) aq (by unfold Fu at aa;rw[ec] at aa;exact aa.1) l 0 (λ_=>none) st (Array.replicate ops.size false) rfl (by simp) (by simp) (λi M=>by simp[M]) (λ_ _=>rfl) h;rw[aq] at JZ;exact Tq cN aY fh ops.size _ _ _ _ _ B (U.drew _) JZ
theorem Ts (cN:qv P T)(aY:ops.toList.mapM (A8 P n kb own ops)=some l)(fh:∀st a w B,K st->hD n A ev hg a st w B->aL .normal a w):
  ∀(r:List c9) (m:Nat) (st:bd) (a:Act) (w:World) (B:Lay),l.drop m=r->hD n A ev hg a st w B->xP T K r st->wpOps P ops aL (List.range' m (D r)) a w
 | [],_,_,_,_,_,_,U,h=>fh _ _ _ _ h U
 |x::r,m,st,a,w,B,ab,U,h=>by
  have O:l[m]?=some x:=by
   have:(l.drop m)[0]?=some x:=by rw[ab];rfl
   simpa using this
  have FH:l.drop (m+1)=r:=by rw[<-FR,ab];rfl
  have ay:m<ops.size:=by
   have F:=(oy aY).1;have I:=(dz.1 O).1;simp at F;omega
  have bJ:ops[m]?=some ops[m]:=Array.getElem?_eq_getElem ay;obtain⟨y,ar,Tr⟩:=adS aY (i:=m) (x:=ops[m]) (by simp);rw[O] at ar
  cases ar;have x4:=adi Tr;simp only[hV,List.range'_succ];rw[wpOps_cons];unfold wpOp;simp only[bJ];simp only[xP] at h
  split at h
  ·cases h
  ·rename_i g bc;rw[Te U x4.guard bc]
   cases g with
   |true =>
    simp only[if_true] at h ⊢;exact .inl (Oper.wp_mono (λjJ aP ⟨dO,bt,Q,iL⟩=>Ts cN aY fh r (m+1) dO jJ aP bt FH iL Q) (apd cN U x4 h))
   |false =>
    simp only[kO,if_false] at h ⊢;exact Ts cN aY fh r (m+1) _ _ _ B FH (U.put (.refl U.ok.dV) .no x4.lt) (by rw[<-x4.dst];exact h)
end Go.Mini
namespace Go.Mini
open Go
variable {A:Nat->Prop} {w:World} {B:Lay} {mem:Mem}
theorem adT (bS:fm A w B mem){aW:Nat->Prop}(fH:∀b,aW b->A b){k:Key}{e:mb}{b:Nat}(he:B k=some e)(ah:e.dd=some b):¬ aW b :=
 λh=>bS.sep b (fH b h) ⟨k,e,he,ah⟩
theorem snap (bS:fm A w B mem){aW:Nat->Prop}(fH:∀b,aW b->A b):∀(d:Nat) (m:R) (v:Value) (r:Data),cz d mem m=some r->bs w (b7 A B) B m v->Den w aW r v:=by
 have adU:∀(d:Data) (v:Value),bs w (b7 A B) B (.J d) v->Den w aW d v:=λd v h=>by
  cases h with
  |J h=>exact h.less λb ah => .inr (fH b ah)
 have NZ:∀v,bs w (b7 A B) B .nil v->Den w aW (.Y []) v:=λv h=>by
  cases h;exact .lK
 intro d
 induction d with
 |zero =>
  intro m v r h hv
  cases m<;>simp only[cz,cj,reduceCtorEq] at h
  ·subst h;exact adU _ _ hv
  ·subst h;exact NZ _ hv
 |succ d ax =>
  intro m v r h hv
  have lists:∀(cs:List R) (vs:List Value) (ds:List Data),cs.mapM (cz d mem)=some ds->(D vs)=(D cs)->(∀(i:Nat) (x:R) (u:Value),cs[i]?=some x->vs[i]?=some u->bs w (b7 A B) B x u) ->
    (D vs)=D ds/\∀(i:Nat) (x:Data) (u:Value),ds[i]?=some x->vs[i]?=some u->Den w aW x u:=by
   intro cs vs ds g0 aq ab;obtain⟨F,I⟩:=oy g0;refine⟨by omega,λi x u O hu=>?_⟩
   have ay:i<D cs:=by have:=(dz.1 O).1;omega
   have js:=bx ay;exact ax _ u x (I i _ x js O) (ab i _ u js hu)
  cases m<;>simp only[cz,cj,dR,reduceCtorEq] at h
  case J=>subst h;exact adU _ _ hv
  case nil=>subst h;exact NZ _ hv
  case ref k g sz off len =>
   split at h
   ·rename_i c6 cs Q
    split at h
    ·rename_i bc;subst bc
     split at h
     ·rename_i part Tp;simp only[dR] at h;obtain⟨ds,g0,rfl⟩:=h;obtain⟨ew,rfl,o3⟩:=Fy Tp;obtain⟨F,I⟩:=oy g0
      cases hv with
      |ref he hgle ab =>
       obtain⟨e,gf,b9,aK,ah⟩:=bS.at_ Q;rw[gf] at he
       cases he;obtain⟨a,cap,rfl,af,aM,bk⟩:=ab;rcases bk with bk|⟨b,rfl,bI⟩
       ·have:len=0:=by omega
        subst this;simp only[chunk];exact .lK
       ·obtain⟨bH,b6⟩:=bI b9.symm;obtain⟨vs,T,aQ,aS,hle,bX⟩:=ah b bH;refine adP aQ (adT bS fH gf bH) (by omega) af (by omega) (by omega) λi x u O hu=>?_;have ay:i<D ds:=(dz.1 O).1;have kz:off+i<D cs:=by omega
        have js:((cs.drop off).take (len*sz))[i]?=some cs[off+i]:=by
         rw[pK (by omega),kU,bx kz]
        refine ax _ u x (I i _ x js O) (bX.2 (off+i) _ u (bx kz) ?_);rw[pK kz,Array.getElem?_toList];exact hu
     ·cases h
    ·cases h
   ·cases h
  case ptr k g off =>
   split at h
   ·rename_i c6 cs Q
    split at h
    ·rename_i bc;obtain⟨rfl,S4⟩:=bc;simp only[dR] at h;obtain⟨ds,g0,rfl⟩:=h;obtain⟨F,I⟩:=oy g0
     cases hv with
     |ptr he hgle ab =>
      obtain⟨e,gf,b9,aK,ah⟩:=bS.at_ Q;rw[gf] at he
      cases he;obtain⟨b,rfl,bI⟩:=ab;have bH:=bI b9.symm;obtain⟨vs,T,aQ,aS,hle,bX⟩:=ah b bH;rw[List.length_drop] at F;refine .ptr (λi=>vs.getD (off+i) undef) (Array.getElem?_eq_some_iff.1 aQ).1 (adT bS fH gf bH) (λi M=>?_) λi x O=>?_
      ·rw[cell_of_row w b (off+i) vs T (0,0) aQ];have:off+i<vs.size:=by omega
       simp[this]
      ·have ay:i<D ds:=(dz.1 O).1;have kz:off+i<D cs:=by omega
       have J0:off+i<vs.size:=by omega
       have js:(cs.drop off)[i]?=some cs[off+i]:=by
        rw[kU,bx kz]
       have hu:vs.getD (off+i) undef=vs[off+i]:=by simp[J0]
       rw[hu];refine ax _ _ x (I i _ x js O) (bX.2 (off+i) _ _ (bx kz) ?_);rw[pK kz,Array.getElem?_toList];exact Array.getElem?_eq_getElem J0
    ·cases h
   ·cases h
  case fy f cs =>
   obtain⟨ds,g0,rfl⟩:=h
   cases hv with
   |fy aq aa=>obtain⟨F,I⟩:=lists _ _ _ g0 aq aa;exact .fn F I
  case agg cs =>
   obtain⟨ds,g0,rfl⟩:=h
   cases hv with
   |agg aq aa=>obtain⟨F,I⟩:=lists _ _ _ g0 aq aa;exact .agg F I
  case cI cs =>
   obtain⟨ds,g0,rfl⟩:=h
   cases hv with
   |cI aq aa=>obtain⟨F,I⟩:=lists _ _ _ g0 aq aa;exact .cI F I
theorem bs.shift {aW ma:Nat->Prop}{bt:Lay}(fH:∀b,ma b->aW b)(Q:∀k e,B k=some e->∃e',bt k=some e'/\(e'=e\/e.g<e'.g)){m:R}{v:Value}(h:bs w aW B m v):bs w ma bt m v:=by
 induction h with
 |J h=>exact .J (h.less fH)
 |nil=>exact .nil
 | @ref k g sz off len e v he bc hv =>
  obtain⟨e',gf,aQ⟩:=Q k e he;rcases aQ with rfl|aQ
  ·exact .ref gf bc hv
  ·exact .ref gf (by omega) (hv.Jb (by omega))
 | @ptr k g off e v he bc hv =>
  obtain⟨e',gf,aQ⟩:=Q k e he;rcases aQ with rfl|aQ
  ·exact .ptr gf bc hv
  ·exact .ptr gf (by omega) (hv.Jb (by omega))
 |fy aq aa ax=>exact .fy aq ax
 |agg aq aa ax=>exact .agg aq ax
 |cI aq aa ax=>exact .cI aq ax
 |no=>exact .no
 |undef=>exact .undef
theorem kill_shut (bS:fm A w B mem){k:Key}{g:Nat}{cs:List R}{e:mb}{b:Nat}(Q:mem k=some (g,cs))(he:B k=some e)(ah:e.dd=some b):
  fm (λek=>A ek\/ek=b) w (gm B k ⟨bU mem k,none,0⟩) (kill mem k)/\(∀m v,bs w (b7 A B) B m v->bs w (b7 (λek=>A ek\/ek=b) (gm B k ⟨bU mem k,none,0⟩)) (gm B k ⟨bU mem k,none,0⟩) m v):=by
 have bc:=C3 bS k e he
 have fH:∀ek,b7 (λek=>A ek\/ek=b) (gm B k ⟨bU mem k,none,0⟩) ek->b7 A B ek:=λek h=>by
  rcases h with ⟨j,aC,aj,O⟩|h|rfl
  ·by_cases dW:j=k
   ·subst dW;rw[hd] at aj;cases aj;cases O
   ·rw[g6 B _ dW] at aj;exact .inl ⟨j,aC,aj,O⟩
  ·exact .inr h
  ·exact .inl ⟨k,e,he,ah⟩
 have apY:∀j aC,B j=some aC->∃e',gm B k ⟨bU mem k,none,0⟩ j=some e'/\(e'=aC\/aC.g<e'.g):=λj aC aj=>by
  by_cases dW:j=k
  ·subst dW;rw[he] at aj
   cases aj;exact⟨_,hd _ _ _,.inr bc⟩
  ·exact⟨aC,by rw[g6 B _ dW];exact aj,.inl rfl⟩
 have shift:∀m v,bs w (b7 A B) B m v->bs w (b7 (λek=>A ek\/ek=b) (gm B k ⟨bU mem k,none,0⟩)) (gm B k ⟨bU mem k,none,0⟩) m v:=λm v h=>h.shift fH apY;refine⟨⟨λj aj=>?_,λj lL aA aC ek F I af aM=>?_,λek aN bJ=>?_,λek aN=>?_,λj c6 na aj=>?_⟩,shift⟩
 ·by_cases dW:j=k
  ·subst dW;simp[kill,aZ] at aj
  ·rw[g6 B _ dW];simp only[kill,aZ,dW,if_false] at aj;exact bS.A2 j aj
 ·by_cases dW:j=k
  ·subst dW;rw[hd] at F;cases F;cases af
  ·by_cases hjk':lL=k
   ·subst hjk';rw[hd] at I;cases I;cases aM
   ·rw[g6 B _ dW] at F;rw[g6 B _ hjk'] at I;exact bS.inj j lL aA aC ek F I af aM
 ·obtain⟨j,aC,aj,O⟩:=bJ
  by_cases dW:j=k
  ·subst dW;rw[hd] at aj;cases aj;cases O
  ·rw[g6 B _ dW] at aj;rcases aN with aN|rfl
   ·exact bS.sep ek aN ⟨j,aC,aj,O⟩
   ·exact dW (bS.inj j k aC e ek aj he O ah)
 ·rcases aN with aN|rfl
  ·exact bS.lt ek aN
  ·exact bS.xM ⟨k,e,he,ah⟩
 ·by_cases dW:j=k
  ·subst dW;simp only[kill,aZ,if_true,cj,fp] at aj;obtain⟨rfl,rfl⟩:=aj;exact⟨_,hd _ _ _,rfl,λ_=>rfl,λek hX=>by cases hX⟩
  ·simp only[kill,aZ,dW,if_false] at aj;obtain⟨aC,F,I,af,aM⟩:=bS.dd j c6 na aj;refine⟨aC,by rw[g6 B _ dW];exact F,I,af,λek hX=>?_⟩
   obtain⟨vs,T,bk,bI,bH,b6⟩:=aM ek hX;exact⟨vs,T,bk,bI,bH,λi m hm=>let ⟨v,hv,ab⟩:=b6 i m hm;⟨v,hv,shift m v ab⟩⟩
end Go.Mini
