/- A part of the proof. -/
import Derived.Calls
import Derived.Still
import Derived.Below
import Derived.Laws.World
import Derived.Laws.Sem
import Derived.Laws.Entries
import Derived.Laws.Rows
import GoSem.ClaimData
import Derived.Laws.CopyRow
import Derived.Laws.MakeOwn
import Derived.Laws.Append
import Derived.Laws.AppendOwn
import Derived.Laws.Strings
import Derived.Laws.Strings2
import Derived.Laws.StructEq
import Derived.Laws.Slices
import Derived.Laws.Cells
import Derived.Attr
set_option linter.unusedSimpArgs false
set_option linter.unusedVariables false
set_option maxRecDepth 100000
set_option maxHeartbeats 4000000
noncomputable section
open Bool renaming and_eq_true->eW,false_eq_true->kR,or_eq_true->ym
open List renaming all_eq_true->lU,contains_iff_mem->ael,drop_drop->Gl,drop_eq_getElem_cons->ir,drop_eq_nil_of_le->jJ,drop_set_of_lt->tG,drop_take->adp,eq_nil_of_length_eq_zero->tC,ext_getElem?->pP,flatten_cons->jD,foldl_cons->Bn,getD_eq_getElem?_getD->dX,getElem?_append->F6,getElem?_append_left->qv,getElem?_append_right->ru,getElem?_cons_zero->zI,getElem?_drop->lo,getElem?_eq_getElem->bs,getElem?_eq_none->mr,getElem?_eq_some_iff->dU,getElem?_map->bj,getElem?_range->tx,getElem?_set_ne->aeq,getElem?_set_self->Kg,getElem?_take->vd,getElem?_take_of_lt->pV,getElem?_toArray->adE,getElem_mem->m2,getElem_of_mem->adv,length->D,length_append->fG,length_cons->h4,length_map->ak,length_set->iQ,length_take->gF,mapM_cons->ll,map_congr_left->m4,map_map->m5,mem_append->jj,mem_cons_self->gv,mem_flatMap->yk,mem_of_getElem?->ee,mem_of_mem_take->Gb,mem_zipIdx_iff_getElem?->aeh,range->dF,replicate->dH,replicate_succ->qw,take_append->Dw,take_of_length_le->dr
open Nat renaming add_assoc->qu,add_comm->zp,add_mul->qm,add_zero->nZ,eq_or_lt_of_le->NZ,eq_zero_or_pos->kW,le_mul_of_pos_right->J2,le_refl->b0,le_trans->eQ,lt_asymm->aek,lt_of_lt_of_le->Dj,lt_or_ge->iq,min_eq_left->oO,mul_le_mul_right->vh,one_mul->x2,sub_self->mu,succ_mul->tz,testBit_or->aed,zero_add->kv,zero_le->ft
open Option renaming bind_eq_bind->ho,bind_eq_some_iff->ek,getD_some->DI,isSome_iff_exists->adG,map_eq_some_iff->ea,map_none->adU,map_some->mw,pure_def->hg
open Option.some renaming inj->n0,injEq->cl
open Prod.mk renaming injEq->e6
namespace Go.Mini
theorem bx {α:Sort _}{a:α}:a=a:=_root_.id rfl
theorem ad {c:Prop}{h:Decidable c}(H:c){α:Sort _}{t e:α}:ite c t e=t:=if_pos H
theorem ah {c:Prop}{h:Decidable c}(H:¬c){α:Sort _}{t e:α}:ite c t e=e:=if_neg H
theorem lQ {p:Prop}[inst:Decidable p](h:p):decide p=true:=decide_eq_true h
theorem lj {p:Prop}[i:Decidable p](h:¬p):decide p=false:=decide_eq_false h
theorem c6 {p:Prop}[inst:Decidable p](h:p:=by omega):decide p=true:=decide_eq_true h
theorem cY {p:Prop}[i:Decidable p](h:¬p:=by omega):decide p=false:=decide_eq_false h
open Go
abbrev Key:=Nat
inductive Data where
 |int (k:IntKind) (n:Int)
 |bool (b:Bool)
 |str (s:List UInt8)
 |Y (es:List (List Data))
 |ptr (cs:List Data)
 |u2
 |fn (f:FuncId) (eP:List Data)
 |u3
 |agg (cs:List Data)
 |cH (vs:List Data)
 deriving Inhabited
inductive R where
 |J (d:Data)
 |nil
 |ref (k:Key) (g sz off len:Nat)
 |ptr (k:Key) (g off:Nat)
 |fz (f:FuncId) (eP:List R)
 |agg (cs:List R)
 |cH (vs:List R)
 |no
 |undef
 deriving Inhabited
inductive Den (w:World) (aZ:Nat->Prop):Data->Value->Prop
 |int {k:IntKind} {n:Int}:Den w aZ (.int k n) (.int k n)
 |bool {b:Bool}:Den w aZ (.bool b) (.bool b)
 |str {s:List UInt8}:Den w aZ (.str s) (.string ⟨s.toArray⟩)
 |lR {a:Option Addr} {c:Nat}:Den w aZ (.Y []) (.slice a 0 c)
 |Y {es:List (List Data)} {b off c sz:Nat} (val:Nat->Value) (aw:(D es)<=c) (hm:(D es)<=maxLen) (ag:b<w.heap.size) (fF:¬ aZ b) (ew:∀e∈es,D e=sz)
   (H:∀i,i<D es*sz->w.cell? ⟨b,off+i,none⟩=some (val i)) (aa:∀i d,es.flatten[i]?=some d->Den w aZ d (val i)) :
   Den w aZ (.Y es) (.slice (some ⟨b,off,none⟩) (D es) c)
 |ptr {cs:List Data} {b off:Nat} (val:Nat->Value) (ag:b<w.heap.size) (fF:¬ aZ b)
   (H:∀i,i<(D cs)->w.cell? ⟨b,off+i,none⟩=some (val i)) (aa:∀i d,cs[i]?=some d->Den w aZ d (val i)) :
   Den w aZ (.ptr cs) (.pointer (some ⟨b,off,none⟩))
 |u2:Den w aZ .u2 (.pointer none)
 |fn {f:FuncId} {eP:List Data} {vs:List Value} (aw:(D vs)=D eP) (aa:∀(i:Nat) (d:Data) (v:Value),eP[i]?=some d->vs[i]?=some v->Den w aZ d v) :
   Den w aZ (.fn f eP) (.func (.func f) #[] vs.toArray)
 |u3:Den w aZ .u3 .nilFunc
 |agg {cs:List Data} {vs:List Value} (aw:(D vs)=D cs) (aa:∀(i:Nat) (d:Data) (v:Value),cs[i]?=some d->vs[i]?=some v->Den w aZ d v) :
   Den w aZ (.agg cs) (.agg vs.toArray)
 |cH {cs:List Data} {vs:List Value} (aw:(D vs)=D cs) (aa:∀(i:Nat) (d:Data) (v:Value),cs[i]?=some d->vs[i]?=some v->Den w aZ d v) :
   Den w aZ (.cH cs) (.tuple vs.toArray)
theorem NH {es:List (List Data)}{sz:Nat}(h:∀e∈es,D e=sz):(D es.flatten)=D es*sz:=by
 induction es with
 |nil=>simp
 |cons e r aA =>
  have G:=h e (by simp);have I:=aA (λx Q=>h x (by simp[Q]));rw[jD,fG,G,I,h4,qm,x2,zp]
theorem Den.rj {w aR:World}{aZ ml:Nat->Prop}(X:w.heap.size<=aR.heap.size)(h:∀b,b<w.heap.size->¬ aZ b->aR.heap[b]?=w.heap[b]?/\¬ ml b){d:Data}{v:Value}(aa:Den w aZ d v):Den aR ml d v:=by
 induction aa with
 |int=>exact .int
 |bool=>exact .bool
 |str=>exact .str
 |lR=>exact .lR
 | @Y es b off c sz val aw hm ag fF ew H aa aA =>
  obtain⟨G,I⟩:=h b ag fF;exact .Y val aw hm (by omega) I ew (λi M=>(World.cell?_of_block (a:=⟨b,off+i,none⟩) G).trans (H i M)) aA
 |u2=>exact .u2
 |u3=>exact .u3
 | @ptr cs b off val ag fF H aa aA =>
  obtain⟨G,I⟩:=h b ag fF;exact .ptr val (by omega) I (λi M=>(World.cell?_of_block (a:=⟨b,off+i,none⟩) G).trans (H i M)) aA
 |fn aw aa aA=>exact .fn aw aA
 |agg aw aa aA=>exact .agg aw aA
 |cH aw aa aA=>exact .cH aw aA
structure mm where
 g:Nat
 dA:Option Nat
 size:Nat
abbrev e4:=Key->Option mm
def sg (B:e4)(b:Nat):Prop:=∃k e,B k=some e/\e.dA=some b
def FJ (e:mm)(g sz off len:Nat)(v:Value):Prop :=
 ∃a cap,v=.slice a len cap/\len<=cap/\cap<=maxLen/\(cap=0\/∃b,a=some ⟨b,off,none⟩/\(g=e.g->e.dA=some b/\off+cap*sz<=e.size))
def NI (e:mm)(g off:Nat)(v:Value):Prop:=∃b,v=.pointer (some ⟨b,off,none⟩)/\(g=e.g->e.dA=some b)
theorem FJ.Jr {e e':mm}{g sz off len:Nat}{v:Value}(h:FJ e g sz off len v)(aw:g<e'.g):FJ e' g sz off len v:=by
 obtain⟨a,cap,G,I,af,aS⟩:=h;refine⟨a,cap,G,I,af,aS.imp id ?_⟩;rintro⟨b,bm,_⟩;exact⟨b,bm,λh=>by omega⟩
theorem NI.Jr {e e':mm}{g off:Nat}{v:Value}(h:NI e g off v)(aw:g<e'.g):NI e' g off v:=by
 obtain⟨b,G,_⟩:=h;exact⟨b,G,λh=>by omega⟩
inductive bt (w:World) (aZ:Nat->Prop) (B:e4):R->Value->Prop
 |J {d:Data} {v:Value} (h:Den w aZ d v):bt w aZ B (.J d) v
 |nil {a:Option Addr}:bt w aZ B .nil (.slice a 0 0)
 |ref {k:Key} {g sz off len:Nat} {e:mm} {v:Value} (he:B k=some e) (ba:g<=e.g) (aq:FJ e g sz off len v):bt w aZ B (.ref k g sz off len) v
 |ptr {k:Key} {g off:Nat} {e:mm} {v:Value} (he:B k=some e) (ba:g<=e.g) (aq:NI e g off v):bt w aZ B (.ptr k g off) v
 |fz {f:FuncId} {eP:List R} {vs:List Value} (aw:(D vs)=D eP) (aa:∀(i:Nat) (d:R) (v:Value),eP[i]?=some d->vs[i]?=some v->bt w aZ B d v) :
   bt w aZ B (.fz f eP) (.func (.func f) #[] vs.toArray)
 |agg {cs:List R} {vs:List Value} (aw:(D vs)=D cs) (aa:∀(i:Nat) (d:R) (v:Value),cs[i]?=some d->vs[i]?=some v->bt w aZ B d v) :
   bt w aZ B (.agg cs) (.agg vs.toArray)
 |cH {cs:List R} {vs:List Value} (aw:(D vs)=D cs) (aa:∀(i:Nat) (d:R) (v:Value),cs[i]?=some d->vs[i]?=some v->bt w aZ B d v) :
   bt w aZ B (.cH cs) (.tuple vs.toArray)
 |no:bt w aZ B .no undef
 |undef {v:Value}:bt w aZ B .undef v
def cd (A:Nat->Prop)(B:e4)(b:Nat):Prop:=sg B b\/A b
structure Trans (A:Nat->Prop) (w:World) (B:e4) (aR:World) (bu:e4):Prop where
 size:w.heap.size<=aR.heap.size
 Js:∀b,b<w.heap.size->¬ cd A B b->aR.heap[b]?=w.heap[b]?/\¬ sg bu b
 key:∀k e,B k=some e->∃e',bu k=some e'/\(e'=e\/e.g<e'.g)
theorem Trans.refl (A:Nat->Prop)(w:World)(B:e4):Trans A w B w B :=
 ⟨b0 _,λ_ _ h=>⟨rfl,λbO=>h (.inl bO)⟩,λ_ e he=>⟨e,he,.inl rfl⟩⟩
theorem Trans.trans {A:Nat->Prop}{w w1 ni:World}{B Bg Di:e4}(h:Trans A w B w1 Bg)(cx:Trans A w1 Bg ni Di):Trans A w B ni Di:=by
 refine⟨eQ h.size cx.size,λb ag bO=>?_,λk e he=>?_⟩
 ·obtain⟨G,I⟩:=h.Js b ag bO;obtain⟨af,aS⟩:=cx.Js b (Dj ag h.size) (λQ=>Q.elim I λaN=>bO (.inr aN));exact⟨af.trans G,aS⟩
 ·obtain⟨ay,aou,aT⟩:=h.key k e he;obtain⟨aC,fr,pc⟩:=cx.key k ay aou;refine⟨aC,fr,?_⟩;rcases aT with rfl|aT<;>rcases pc with rfl|pc
  ·exact .inl rfl
  ·exact .inr pc
  ·exact .inr aT
  ·exact .inr (Nat.lt_trans aT pc)
theorem Den.trans {A:Nat->Prop}{w aR:World}{B bu:e4}(t:Trans A w B aR bu){d:Data}{v:Value}(h:Den w (cd A B) d v):Den aR (cd A bu) d v :=
 h.rj t.size λb ag bO=>⟨(t.Js b ag bO).1,λQ=>Q.elim (t.Js b ag bO).2 λaN=>bO (.inr aN)⟩
theorem bt.rj {A:Nat->Prop}{w aR:World}{B bu:e4}(t:Trans A w B aR bu){m:R}{v:Value}(h:bt w (cd A B) B m v):bt aR (cd A bu) bu m v:=by
 induction h with
 |J h=>exact .J (h.trans t)
 |nil=>exact .nil
 | @ref k g sz off len e v he ba aq =>
  obtain⟨e',gC,aT⟩:=t.key k e he;rcases aT with rfl|aT
  ·exact .ref gC ba aq
  ·exact .ref gC (by omega) (aq.Jr (by omega))
 | @ptr k g off e v he ba aq =>
  obtain⟨e',gC,aT⟩:=t.key k e he;rcases aT with rfl|aT
  ·exact .ptr gC ba aq
  ·exact .ptr gC (by omega) (aq.Jr (by omega))
 |fz aw aa aA=>exact .fz aw aA
 |agg aw aa aA=>exact .agg aw aA
 |cH aw aa aA=>exact .cH aw aA
 |no=>exact .no
 |undef=>exact .undef
abbrev Mem:=Key->Option (Nat×List R)
def emp:Mem:=λ_=>none
def a2 (m:Mem)(k:Key)(g:Nat)(cs:List R):Mem:=λj=>if j=k then some (g,cs) else m j
def bZ (m:Mem)(k:Key):Nat:=match m k with
 |none=>0
 |some (g,_)=>g+1
structure fs (A:Nat->Prop) (w:World) (B:e4) (mem:Mem):Prop where
 Bh:∀k,mem k=none->B k=none
 inj:∀k k' e e' b,B k=some e->B k'=some e'->e.dA=some b->e'.dA=some b->k=k'
 sep:∀b,A b->¬ sg B b
 lt:∀b,A b->b<w.heap.size
 dA:∀k g cs,mem k=some (g,cs)->∃e,B k=some e/\e.g=g/\(e.dA=none->cs=[]) /\
  ∀b,e.dA=some b->∃vs T,w.heap[b]?=some (.cells vs T (0,0))/\vs.size=e.size/\D cs<=vs.size /\
   ∀(i:Nat) (m:R),cs[i]?=some m->∃v,vs[i]?=some v/\bt w (cd A B) B m v
theorem fs.x3 {A:Nat->Prop}{w:World}{B:e4}{mem:Mem}(h:fs A w B mem){b:Nat}(ag:sg B b):b<w.heap.size:=by
 obtain⟨k,e,he,ag⟩:=ag
 cases hm:mem k with
 |none=>rw[h.Bh k hm] at he;cases he
 |some x =>
  obtain⟨g,cs⟩:=x;obtain⟨e',gC,_,_,aT⟩:=h.dA k g cs hm;rw[gC] at he
  cases he;obtain⟨vs,T,aq,_⟩:=aT b ag;exact (Array.getElem?_eq_some_iff.1 aq).1
structure Fr (u4:Nat->Prop) (et w:World):Prop where
 os:w.os=et.os
 tape:w.tape=et.tape
 output:w.output=et.output
 size:et.heap.size<=w.heap.size
 block:∀g,g<et.heap.size->¬ u4 g->w.heap[g]?=et.heap[g]?
theorem Fr.refl (u4:Nat->Prop)(w:World):Fr u4 w w:=⟨rfl,rfl,rfl,b0 _,λ_ _ _=>rfl⟩
theorem Fr.drew {u4:Nat->Prop}{et w:World}(h:Fr u4 et w)(n:Nat):Fr u4 et { w with drawn:=n }:=⟨h.os,h.tape,h.output,h.size,h.block⟩
theorem Fr.alloc {u4:Nat->Prop}{et w:World}(h:Fr u4 et w)(o:Obj):Fr u4 et (w.alloc o) :=
 ⟨h.os,h.tape,h.output,by simp;have:=h.size;omega,λg ba fF=>(RowKit.Below.heap_alloc w o g (by have:=h.size;omega)).trans (h.block g ba fF)⟩
theorem Fr.below {et w:World}(h:Fr (λ_=>False) et w):RowKit.Below et.heap.size et w:=⟨h.os,h.tape,h.output,h.size,λg ba=>h.block g ba id⟩
inductive bU where
 |t (s:Nat)
 |c (m:R)
 deriving Inhabited
inductive j8 where
 |cm (x:bU)
 |pick (c a b:bU)
 |alloc (k:Key) (z:List R)
 |box (k:Key) (x:bU)
 |build (z:List R) (parts:List (Nat×Nat×bU))
 |e0 (k:Key) (own:Bool) (z:List R) (sz len:Nat) (parts:List (Nat×Nat×bU))
 |load (n:Nat) (dV:Bool) (x:bU)
 |store (n:Nat) (x v:bU)
 |bin (op:BinOp) (x y:bU)
 |beq (neg:Bool) (x y:bU)
 |eqs (neg:Bool) (g1:List Nat) (x y:bU)
 |rk (neg:Bool) (x:bU)
 |un (op:UnOp) (x:bU)
 |conv (k:IntKind) (x:bU)
 |si (x:bU)
 |mn (k:Key) (z:List R) (bytes:Nat) (len cap:bU)
 |dY (off:Nat) (x:bU)
 |Dk (off n:Nat) (dV:Bool) (x:bU)
 |kO (sz:Nat) (x i:bU)
 |pd (len sz:Nat) (x i:bU)
 |idxs (x i:bU)
 |oH (sz:Nat) (x:bU) (cB M j9:Option bU)
 |ts (len sz:Nat) (x:bU) (cB M j9:Option bU)
 |Dl (x:bU) (cB M:Option bU)
 |ext (i:Nat) (x:bU)
 |len (x:bU)
 |lens (x:bU)
 |app (k:Key) (z:List R) (bytes:Nat) (s x:bU)
 |sj (sz:Nat) (d x:bU)
 |il (j9:Bool) (x y:bU)
 |call (f:FuncId) (args:List bU)
 |oI (k:Key) (sz:Nat) (f:FuncId) (args:List bU)
 |jE (f:bU) (args:List bU)
 |mo (cB:Nat) (f:FuncId) (args:List bU)
 |tt (j:Nat) (f:FuncId) (args:List bU)
 |sk (j:Nat) (f:FuncId) (args:List bU)
 |sl (z:List R) (x:bU)
 |pN (f:FuncId) (eP:List bU)
 |bad
 deriving Inhabited
structure c8 where
 dst:Option Nat
 g:Option (Nat×Bool)
 op:j8
 deriving Inhabited
inductive NJ where
 |nj (s:Nat) (k:Key) (sz:Nat)
 |NK (x:bU) (i:Nat) (k:Key) (sz:Nat)
 |freeze (s:Nat)
 |NL (x:bU) (i:Nat)
 |move
 |many
 deriving Inhabited
inductive eu where
 |skip
 |ops (l:List c8)
 |mY (l:List c8) (c:List (List Nat))
 |seq (a b:eu)
 |cond (c:bU) (a b:eu)
 |block (id:Nat) (c:eu)
 |loop (c:eu)
 |exit (id:Nat)
 |ret
 |ghost (g:NJ) (c:eu)
 deriving Inhabited
inductive oJ where
 |t (s:Nat)
 |cell (s n:Nat) (dV:Bool)
 deriving Inhabited
structure bP where
 n:Nat
 aov:Nat
 res:List oJ
 body:eu
 deriving Inhabited
structure a8 where
 tm:Nat->R
 mem:Mem
def e5 (tm:Nat->R)(s:Nat)(m:R):Nat->R:=λt=>if t=s then m else tm t
def put (tm:Nat->R):Option Nat->R->Nat->R
 |some s,m=>e5 tm s m
 |none,_=>tm
@[simp] theorem eE (tm:Nat->R)(s:Nat)(m:R)(t:Nat):e5 tm s m t=if t=s then m else tm t:=rfl
def a7 (tm:Nat->R):bU->R
 |.t s=>tm s
 |.c m=>m
def R.cells:R->List R
 |.agg cs=>cs
 |.J (.agg ds)=>ds.map .J
 |m=>[m]
def R.known:R->Bool
 |.undef=>false
 |_=>true
def R.one:R->Bool
 |.J (.agg _)=>false
 |.J (.cH _)=>false
 |.J _=>true
 |.nil=>true
 |.ref ..=>true
 |.ptr ..=>true
 |.fz ..=>true
 |_=>false
def rl (dV:Bool)(cs:List R):Option R :=
 if dV=true then some (.agg cs) else match cs with
  | [m]=>some m
  |_=>none
def cut (cs:List R)(off n:Nat):Option (List R) :=
 if off+n<=(D cs) then some ((cs.drop off).take n) else none
def kP (cs:List R)(off:Nat)(new:List R):List R:=cs.take off++new++cs.drop (off+D new)
def kt (a7:bU->R)(cells:List R):List (Nat×Nat×bU)->Option (List R)
 | []=>some cells
 |(off,size,x)::rest =>
  if (a7 x).known=true/\(a7 x).cells.length=size/\off+size<=(D cells) then kt a7 (kP cells off (a7 x).cells) rest else none
def u5:R->Option Data
 |.J d=>some d
 |.nil=>some (.Y [])
 |_=>none
def chunk (sz:Nat):Nat->List Data->List (List Data)
 |0,_=>[]
 |n+1,l=>l.take sz::chunk sz n (l.drop sz)
def NM (op:BinOp)(k:IntKind)(a b:Int):Option Data :=
 match op with
 |.add=>some (.int k (k.wrap (a+b)))
 |.sub=>some (.int k (k.wrap (a-b)))
 |.mul=>some (.int k (k.wrap (a*b)))
 |.quo=>if b=0 then none else some (.int k (k.wrap (a.tdiv b)))
 |.rem=>if b=0 then none else some (.int k (a.tmod b))
 |.and=>some (.int k (bits .and k a b))
 |.or=>some (.int k (bits .or k a b))
 |.xor=>some (.int k (bits .xor k a b))
 |.andNot=>some (.int k (bits .andNot k a b))
 |.eql=>some (.bool (a==b))
 |.neq=>some (.bool (a != b))
 |.lss=>some (.bool (a<b))
 |.leq=>some (.bool (a<=b))
 |.gtr=>some (.bool (a>b))
 |.geq=>some (.bool (a>=b))
 |_=>none
def NN (op:BinOp)(k:IntKind)(a b:Int):Option Data :=
 if b<0 then none else match op with
 |.shl=>some (.int k (k.wrap (a*2^(min b.toNat k.bits))))
 |.shr=>some (.int k (a.fdiv (2^(min b.toNat k.bits))))
 |_=>none
def NO (op:BinOp)(a b:List UInt8):Option Data :=
 match op with
 |.add=>if (D a)+D b<=maxLen then some (.str (a++b)) else none
 |.eql=>some (.bool (a==b))
 |.neq=>some (.bool (!(a==b)))
 |.lss=>some (.bool (Op.bytesLess a b))
 |.leq=>some (.bool (Op.bytesLess a b||a==b))
 |.gtr=>some (.bool (!(Op.bytesLess a b||a==b)))
 |.geq=>some (.bool (!Op.bytesLess a b))
 |_=>none
def FK:BinOp->Bool
 |.shl=>true
 |.shr=>true
 |_=>false
def Jt (op:BinOp)(x y:R):Option R :=
 match x,y with
 |.J (.int k a),.J (.int k' b)=>if FK op=true then (NN op k a b).map .J else if k=k' then (NM op k a b).map .J else none
 |.J (.str a),.J (.str b)=>(NO op a b).map .J
 |_,_=>none
def Ju (neg:Bool):R->R->Option R
 |.J (.bool a),.J (.bool b)=>some (.J (.bool (neg != (a==b))))
 |_,_=>none
def NP:Nat->R->R->Option Bool
 |0,.J (.bool a),.J (.bool b)=>some (a==b)
 |1,.J (.int k a),.J (.int k' b)=>if k=k' then some (a==b) else none
 |2,.J (.str a),.J (.str b)=>some (a==b)
 |_,_,_=>none
def Bi:List Nat->List R->List R->Option Bool
 | [],[],[]=>some true
 |k::g1,a::x,b::y=>match NP k a b,Bi g1 x y with
  |some c,some d=>some (c&&d)
  |_,_=>none
 |_,_,_=>none
def Jv (op:UnOp)(x:R):Option R :=
 match op,x with
 |.neg,.J (.int k n)=>some (.J (.int k (k.wrap (0-n))))
 |.xor,.J (.int k n)=>some (.J (.int k (bits .xor k (if k.signed then -1 else k.max) n)))
 |.not,.J (.bool b)=>some (.J (.bool !b))
 |_,_=>none
def idx:R->Option Nat
 |.J (.int _ n)=>if 0<=n then some n.toNat else none
 |_=>none
def jF (d:Nat):Option R->Option Nat
 |none=>some d
 |some x=>idx x
def qn:R->Option Nat
 |.J (.Y es)=>some (D es)
 |.nil=>some 0
 |.ref _ _ _ _ n=>some n
 |_=>none
def qo (mem:Mem)(n:Nat)(dV:Bool):R->Option R
 |.ptr k g off=>match mem k with
  |some (c7,cs)=>if c7=g then (cut cs off n).bind (rl dV) else none
  |none=>none
 |.J (.ptr ds)=>(cut (ds.map .J) 0 n).bind (rl dV)
 |_=>none
def zq:R->Option Nat
 |.J (.str s)=>some (D s)
 |_=>none
def FL:R->R->R->Option R
 |.J (.bool t),a,b=>some (if t=true then a else b)
 |_,_,_=>none
def Jw (z:List R)(sz len:Nat)(x:Option (List R)):Option R :=
 if (D z)=len*sz then (match x with
  |some cs=>(cs.mapM u5).map λds => .J (.Y (chunk sz len ds))
  |none=>none) else none
def Jx:R->Option (List R)
 |.agg cs=>some cs
 |.J (.agg ds)=>some (ds.map .J)
 |_=>none
def Jy (neg:Bool)(g1:List Nat)(a b:R):Option R:=match Jx a,Jx b with
 |some x,some y=>(match Bi g1 x y with
  |some c=>some (.J (.bool (neg != c)))
  |none=>none)
 |_,_=>none
def Jz (k:IntKind):R->Option R
 |.J (.int _ n)=>some (.J (.int k (k.wrap n)))
 |_=>none
def JA:R->Option R
 |.ptr k g off=>some (.ptr k g off)
 |.J (.ptr ds)=>some (.J (.ptr ds))
 |_=>none
def JB (off:Nat):R->Option R
 |.ptr k g o=>some (.ptr k g (o+off))
 |.J (.ptr ds)=>if off<=(D ds) then some (.J (.ptr (ds.drop off))) else none
 |_=>none
def JC (off n:Nat)(dV:Bool):R->Option R
 |.agg cs=>(cut cs off n).bind (rl dV)
 |.J (.agg ds)=>(cut (ds.map .J) off n).bind (rl dV)
 |_=>none
def zr (sz n:Nat):R->Option R
 |.ref k g er off len=>if n<len/\er=sz then some (.ptr k g (off+n*sz)) else none
 |.J (.Y es)=>match es[n]? with
  |some e=>if (D e)=sz then some (.J (.ptr e)) else none
  |none=>none
 |_=>none
def JD (len sz n:Nat):R->Option R
 |.ptr k g off=>if n<len then some (.ptr k g (off+n*sz)) else none
 |.J (.ptr ds)=>if n<len/\n*sz<=(D ds) then some (.J (.ptr (ds.drop (n*sz)))) else none
 |_=>none
def JE (n:Nat):R->Option R
 |.J (.str s)=>(s[n]?).map λb => .J (.int .u8 b.toNat)
 |_=>none
def nW (sz:Nat)(es:List (List Data)):Bool:=es.all λe=>D e==sz
def JF (sz l h:Nat):R->Option R
 |.J (.Y es)=>if l<=h/\h<=D es/\nW sz es=true then some (.J (.Y ((es.take h).drop l))) else none
 |.nil=>if l=0/\h=0 then some .nil else none
 |.ref k g er off len=>if er=sz/\l<=h/\h<=len then some (.ref k g sz (off+l*sz) (h-l)) else none
 |_=>none
def JG (sz l h m:Nat):R->Option R
 |.J (.Y es)=>if l<=h/\h<=m/\m<=D es/\nW sz es=true then (if m=l then some .nil else some (.J (.Y ((es.take h).drop l)))) else none
 |.nil=>if l=0/\h=0/\m=0 then some .nil else none
 |.ref _ _ _ _ len=>if l<=h/\h<=m/\m<=len/\m=l then some .nil else none
 |_=>none
def JH (l h:Nat):R->Option R
 |.J (.str s)=>if l<=h/\h<=(D s) then some (.J (.str ((s.take h).drop l))) else none
 |_=>none
def JI (i:Nat):R->Option R
 |.cH vs=>vs[i]?
 |.J (.cH ds)=>(ds[i]?).map .J
 |_=>none
def JJ (j9:Bool):R->R->Option R
 |.J (.int k a),.J (.int k' b)=>if k=k' then some (.J (.int k (if j9=true then (if b>a then b else a) else (if b<a then b else a)))) else none
 |_,_=>none
def h5 (x:Option Nat)(f:Nat->Option R):Option R:=match x with
 |some n=>f n
 |none=>none
def kQ (tm:Nat->R):j8->Option R
 |.cm x=>some (a7 tm x)
 |.pick c a b=>FL (a7 tm c) (a7 tm a) (a7 tm b)
 |.build z parts=>(kt (a7 tm) z parts).map .agg
 |.e0 _ false z sz len parts=>Jw z sz len (kt (a7 tm) z parts)
 |.bin op x y=>Jt op (a7 tm x) (a7 tm y)
 |.beq neg x y=>Ju neg (a7 tm x) (a7 tm y)
 |.eqs neg g1 x y=>Jy neg g1 (a7 tm x) (a7 tm y)
 |.un op x=>Jv op (a7 tm x)
 |.conv k x=>Jz k (a7 tm x)
 |.si x=>JA (a7 tm x)
 |.dY off x=>JB off (a7 tm x)
 |.Dk off n dV x=>JC off n dV (a7 tm x)
 |.kO sz x i=>h5 (idx (a7 tm i)) λn=>zr sz n (a7 tm x)
 |.pd len sz x i=>h5 (idx (a7 tm i)) λn=>JD len sz n (a7 tm x)
 |.idxs x i=>h5 (idx (a7 tm i)) λn=>JE n (a7 tm x)
 |.oH sz x cB M none=>h5 (jF 0 (cB.map (a7 tm))) λl=>h5 (qn (a7 tm x)) λlen=>h5 (jF len (M.map (a7 tm))) λh=>JF sz l h (a7 tm x)
 |.oH sz x cB (some M) (some j9)=>h5 (jF 0 (cB.map (a7 tm))) λl=>h5 (idx (a7 tm M)) λh=>h5 (idx (a7 tm j9)) λm=>JG sz l h m (a7 tm x)
 |.Dl x cB M=>h5 (jF 0 (cB.map (a7 tm))) λl=>h5 (zq (a7 tm x)) λlen=>h5 (jF len (M.map (a7 tm))) λh=>JH l h (a7 tm x)
 |.ext i x=>JI i (a7 tm x)
 |.len x=>h5 (qn (a7 tm x)) λn=>some (.J (.int .i64 n))
 |.lens x=>h5 (zq (a7 tm x)) λn=>some (.J (.int .i64 n))
 |.il j9 x y=>JJ j9 (a7 tm x) (a7 tm y)
 |.pN f eP=>some (.fz f (eP.map (a7 tm)))
 |_=>none
def Th (k:Key)(g off len sz l h:Nat):Option (Nat×List R)->Option R
 |some (c7,cs)=>if c7=g/\l<=h/\h<=len/\off+len*sz<=(D cs) then some (.ref k g sz (off+l*sz) (h-l)) else none
 |none=>none
def Bj (mem:Mem)(len sz l h:Nat):R->Option R
 |.ptr k g off=>Th k g off len sz l h (mem k)
 |_=>none
def qp (mem:Mem)(sz:Nat):R->Option (Nat×List R)
 |.J (.Y es)=>if nW sz es=true then some (D es,es.flatten.map R.J) else none
 |.nil=>some (0,[])
 |.ref k g er off len=>if er=sz then (match mem k with
  |some (c7,cs)=>if c7=g then (cut cs off (len*sz)).map λcs=>(len,cs) else none
  |none=>none) else none
 |_=>none
abbrev Out:=Option (R×Option (Key×Nat×List R))
def je (x:Option R):Out:=match x with
 |some m=>some (m,none)
 |none=>none
def FM (k:Key)(g:Nat)(z:List R)(sz len:Nat)(x:Option (List R)):Out :=
 if (D z)=len*sz then (match x with
  |some cs=>some (.ref k g sz 0 len,some (k,g,cs))
  |none=>none) else none
def FN (k:Key)(g:Nat)(z:List R)(bytes:Nat)(n c:Nat):Out :=
 if n=c/\bytes*n<=140737488355328/\n<=maxLen then some (.ref k g (D z) 0 n,some (k,g,(dH n z).flatten)) else none
def JK (x y:Option Nat)(f:Nat->Nat->Out):Out:=match x,y with
 |some n,some m=>f n m
 |_,_=>none
def JL (n:Nat)(k:Key)(g off:Nat)(v:List R)(x:Option (Nat×List R)):Out:=match x with
 |some (c7,cs)=>if c7=g/\D v=n/\off+n<=D cs/\v.all R.one=true then some (.no,some (k,g,kP cs off v)) else none
 |none=>none
def x4 (mem:Mem)(n:Nat):R->List R->Out
 |.ptr k g off,v=>JL n k g off v (mem k)
 |_,_=>none
def mq (k:Key)(g:Nat)(sz len bytes:Nat)(m:Nat)(new:List R)(x:Option (Nat×List R)):Out:=match x with
 |some (c7,cs)=>if c7=g/\len*sz<=D cs/\(len+m)*bytes<=140737488355328/\len+m<=maxLen/\new.all R.one=true
   then some (.ref k (g+1) sz 0 (len+m),some (k,g+1,cs.take (len*sz)++new)) else none
 |none=>none
def rm (mem:Mem)(k:Key)(z:List R)(bytes:Nat):R->Option (Nat×List R)->Out
 |.nil,some (m,new)=>if m*bytes<=140737488355328/\m<=maxLen/\new.all R.one=true then some (.ref k (bZ mem k) (D z) 0 m,some (k,bZ mem k,new)) else none
 |.ref k' g er off len,some (m,new)=>if er=D z/\off=0 then mq k' g er len bytes m new (mem k') else none
 |_,_=>none
def Bk (k:Key)(g sz off len:Nat)(m:Nat)(new:List R)(x:Option (Nat×List R)):Out:=match x with
 |some (c7,cs)=>if c7=g/\off+len*sz<=D cs/\new.all R.one=true then some (.J (.int .i64 ((min m len:Nat):Int)),some (k,g,kP cs off (new.take (min m len*sz)))) else none
 |none=>none
def wB (mem:Mem)(sz:Nat):R->Option (Nat×List R)->Out
 |.ref k g er off len,some (m,new)=>if er=sz then Bk k g sz off len m new (mem k) else none
 |_,_=>none
def NQ (z:List R)(k:Key)(g off len:Nat)(x:Option (Nat×List R)):Out:=match x with
 |some (c7,cs)=>if c7=g/\off+len*D z<=D cs/\z.all R.one=true then some (.cH [],some (k,g,kP cs off (dH len z).flatten)) else none
 |none=>none
def x5 (mem:Mem)(z:List R):R->Out
 |.ref k g sz off len=>if sz=(D z) then NQ z k g off len (mem k) else none
 |_=>none
def cq (mem:Mem)(tm:Nat->R):j8->Out
 |.alloc k z=>some (.ptr k (bZ mem k) 0,some (k,bZ mem k,z))
 |.box k x=>if (a7 tm x).known=true then some (.ptr k (bZ mem k) 0,some (k,bZ mem k,(a7 tm x).cells)) else none
 |.e0 k true z sz len parts=>FM k (bZ mem k) z sz len (kt (a7 tm) z parts)
 |.mn k z bytes len cap=>JK (idx (a7 tm len)) (idx (a7 tm cap)) (FN k (bZ mem k) z bytes)
 |.load n dV x=>je (qo mem n dV (a7 tm x))
 |.ts len sz x cB M none=>je (h5 (jF 0 (cB.map (a7 tm))) λl=>h5 (jF len (M.map (a7 tm))) λh=>Bj mem len sz l h (a7 tm x))
 |.store n x v=>x4 mem n (a7 tm x) (a7 tm v).cells
 |.app k z bytes s x=>rm mem k z bytes (a7 tm s) (qp mem (D z) (a7 tm x))
 |.sj sz d x=>wB mem sz (a7 tm d) (qp mem sz (a7 tm x))
 |.sl z x=>x5 mem z (a7 tm x)
 |op=>je (kQ tm op)
inductive g7 where
 |same (r:Data)
 |own (sz:Nat) (es:List (List Data))
 |rel (bL:R->Mem->Prop)
 |e5 (r:Data) (k:Key) (g i:Nat) (c:R)
 |zs (r:Data) (k:Key)
abbrev bb:=FuncId->List R->Mem->Option g7
def im (mem:Mem):Option (Key×Nat×List R)->Mem
 |none=>mem
 |some (k,g,cs)=>a2 mem k g cs
def rn (mem:Mem)(k:Key):List R:=match mem k with
 |some (_,cs)=>cs
 |none=>[]
def u6 (T:bb)(K:a8->Prop)(st:a8)(dst:Option Nat)(f:FuncId)(args:List R):Prop :=
 match T f args st.mem with
 |some (.same r)=>K ⟨put st.tm dst (.J r),st.mem⟩
 |some (.own _ es)=>K ⟨put st.tm dst (.J (.Y es)),st.mem⟩
 |some (.rel bL)=>∀r mem',bL r mem'->K ⟨put st.tm dst r,mem'⟩
 |some (.e5 r k g i c)=>K ⟨put st.tm dst (.J r),a2 st.mem k g ((rn st.mem k).set i c)⟩
 |some (.zs r k)=>K ⟨put st.tm dst (.J r),a2 st.mem k (bZ st.mem k) []⟩
 |none=>False
def Dm:R->Option Bool
 |.J (.Y es)=>some (!es.isEmpty)
 |.nil=>some false
 |.ref _ _ _ _ len=>some (decide (0<len))
 |_=>none
def gD (T:bb)(K:a8->Prop)(i:c8)(st:a8):Prop :=
 match i.op with
 |.call f args=>u6 T K st i.dst f (args.map (a7 st.tm))
 |.oI k sz f args=>match T f (args.map (a7 st.tm)) st.mem with
  |some (.own er es)=>if er=sz then K ⟨put st.tm i.dst (.ref k (bZ st.mem k) sz 0 (D es)),a2 st.mem k (bZ st.mem k) (es.flatten.map .J)⟩ else False
  |_=>False
 |.jE f args=>match a7 st.tm f with
  |.fz g eP=>u6 T K st i.dst g (args.map (a7 st.tm)++eP)
  |.J (.fn g ds)=>u6 T K st i.dst g (args.map (a7 st.tm)++ds.map .J)
  |_=>False
 |.rk neg x=>match Dm (a7 st.tm x) with
  |some full=>∀b:Bool,(full=true->b=false)->K ⟨put st.tm i.dst (.J (.bool (neg != b))),st.mem⟩
  |none=>False
 |op=>match cq st.mem st.tm op with
  |some (m,e)=>K ⟨put st.tm i.dst m,im st.mem e⟩
  |none=>False
def pe (tm:Nat->R):Option (Nat×Bool)->Option Bool
 |none=>some true
 |some (s,b)=>match tm s with
  |.J (.bool t)=>some (t==b)
  |.no=>some false
  |_=>none
def x6 (T:bb)(K:a8->Prop):List c8->a8->Prop
 | [],st=>K st
 |i::r,st=>match pe st.tm i.g with
  |none=>False
  |some g=>if g=true then gD T (x6 T K r) i st else x6 T K r ⟨put st.tm i.dst .no,st.mem⟩
def keyOf:R->List Key
 |.ref k ..=>[k]
 |.ptr k ..=>[k]
 |_=>[]
inductive nk where
 |hy (k:Key)
 |rd (k:Key) (a b:Nat)
 |wr (k:Key) (i:Nat)
def nk.key:nk->Key
 |.hy k=>k
 |.rd k _ _=>k
 |.wr k _=>k
def rp:nk->nk->Bool
 |.hy k,.hy k' => !(k==k')
 |.hy k,.rd k' _ _ => !(k==k')
 |.rd k _ _,.hy k' => !(k==k')
 |.rd _ _ _,.rd _ _ _=>true
 |.rd k a b,.wr k' i => !(k==k')||(decide (i<a)||decide (b<=i))
 |.wr k' i,.rd k a b => !(k==k')||(decide (i<a)||decide (b<=i))
 |.wr _ _,.wr _ _=>false
 |.hy _,.wr _ _=>false
 |.wr _ _,.hy _=>false
def FO (n:Nat):R->List nk
 |.ref k ..=>[.hy k]
 |.ptr k _ off=>[.rd k off (off+n)]
 |_=>[]
def JM (cB:Nat):List R->List nk
 |.ptr k _ off::_=>[.wr k (off+cB)]
 |_=>[]
def wC:Option R->List nk
 |some (.ref k ..)=>[.hy k]
 |_=>[]
def dI (tm:Nat->R):j8->List nk
 |.load n _ x=>FO n (a7 tm x)
 |.ts _ _ x _ _ _=>(keyOf (a7 tm x)).map .hy
 |.store _ x _=>(keyOf (a7 tm x)).map .hy
 |.alloc k _=>[.hy k]
 |.box k _=>[.hy k]
 |.e0 k true _ _ _ _=>[.hy k]
 |.mn k _ _ _ _=>[.hy k]
 |.oI k _ _ _=>[.hy k]
 |.app k _ _ s x => .hy k::((keyOf (a7 tm s)).map .hy++(keyOf (a7 tm x)).map .hy)
 |.sj _ d x=>(keyOf (a7 tm d)).map .hy++(keyOf (a7 tm x)).map .hy
 |.mo cB _ args=>JM cB (args.map (a7 tm))
 |.tt j _ args=>wC (args.map (a7 tm))[j]?
 |.sk j _ args=>wC (args.map (a7 tm))[j]?
 |.sl _ x=>(keyOf (a7 tm x)).map .hy
 |_=>[]
def jG:j8->Bool
 |.store ..=>true
 |.alloc ..=>true
 |.box ..=>true
 |.e0 _ true _ _ _ _=>true
 |.mn ..=>true
 |.oI ..=>true
 |.app ..=>true
 |.sj ..=>true
 |.mo ..=>true
 |.tt ..=>true
 |.sk ..=>true
 |.sl ..=>true
 |_=>false
def qq:R->R
 |.J d => .J d
 |.nil => .nil
 |.fz f [] => .fz f []
 |.agg cs=>match cs.mapM u5 with
  |some ds => .J (.agg ds)
  |none => .undef
 |_ => .undef
def FP (cB:Nat)(mem:Mem):List R->Option g7->Option (R×Option (Key×Nat×List R))
 |.ptr k _ off::_,some (.e5 r k' c7 i c)=>match mem k with
  |some (g,cs)=>if k'=k/\c7=g/\i=off+cB then some (.J r,some (k,g,cs.set i c)) else none
  |none=>none
 |_,_=>none
def Ti (cs:List R):Option (List Data):=cs.mapM u5
def JN (sz off len:Nat)(cs:List R):Option Data:=match cut cs off (len*sz) with
 |some part=>(Ti part).map λds => .Y (chunk sz len ds)
 |none=>none
def NR:Option g7->Option Data
 |some (.same r)=>some r
 |some (.own _ es)=>some (.Y es)
 |_=>none
def Tj (T:bb)(j:Nat)(f:FuncId)(ms:List R)(k:Key)(g sz off len:Nat):Option (Nat×List R)->Option (R×Option (Key×Nat×List R))
 |some (c7,cs)=>if c7=g then (match JN sz off len cs with
  |some d=>(match NR (T f (ms.set j (.J d)) emp) with
   |some r=>some (.J r,some (k,c7+1,[]))
   |none=>none)
  |none=>none) else none
 |none=>none
def JO (T:bb)(mem:Mem)(j:Nat)(f:FuncId)(ms:List R):Option R->Option (R×Option (Key×Nat×List R))
 |some (.ref k g sz off len)=>Tj T j f ms k g sz off len (mem k)
 |_=>none
def nX (cs:List R):Bool:=cs.all λm=>(u5 m).isSome
def Tk (T:bb)(j:Nat)(f:FuncId)(ms:List R)(k:Key)(g sz off len:Nat):Option (Nat×List R)->Option (R×Option (Key×Nat×List R))
 |some (c7,cs)=>if nX cs=true then (match T f (ms.set j (.ref k g sz off len)) (a2 emp k c7 cs) with
  |some (.zs r k')=>if k'=k then some (.J r,some (k,c7+1,[])) else none
  |_=>none) else none
 |none=>none
def JP (T:bb)(mem:Mem)(j:Nat)(f:FuncId)(ms:List R):Option R->Option (R×Option (Key×Nat×List R))
 |some (.ref k g sz off len)=>Tk T j f ms k g sz off len (mem k)
 |_=>none
def hz (T:bb)(mem:Mem)(tm:Nat->R):j8->Option (R×Option (Key×Nat×List R))
 |.call f args=>match T f (args.map λx=>qq (a7 tm x)) emp with
  |some (.same r)=>some (.J r,none)
  |some (.own _ es)=>some (.J (.Y es),none)
  |_=>none
 |.oI k sz f args=>match T f (args.map λx=>qq (a7 tm x)) emp with
  |some (.own er es)=>if er=sz then some (.ref k (bZ mem k) sz 0 (D es),some (k,bZ mem k,es.flatten.map .J)) else none
  |_=>none
 |.jE ..=>none
 |.rk ..=>none
 |.mo cB f args=>FP cB mem (args.map (a7 tm)) (T f (args.map (a7 tm)) mem)
 |.tt j f args=>JO T mem j f (args.map λx=>qq (a7 tm x)) (args.map (a7 tm))[j]?
 |.sk j f args=>JP T mem j f (args.map λx=>qq (a7 tm x)) (args.map (a7 tm))[j]?
 |op=>cq mem tm op
abbrev Rec:=Nat->Option (Bool×List nk)
def rq (a b:Bool×List nk):Bool:=!(a.1||b.1)||a.2.all λx=>b.2.all λy=>rp x y
def FQ (rec:Rec)(p:Bool×List nk)(c:List Nat):Bool:=c.all λi=>match rec i with
 |none=>true
 |some q=>rq q p
def u7 (rec:Rec)(n:Nat)(p:Bool×List nk):Rec:=λi=>if i=n then some p else rec i
def wD (T:bb)(K:a8->Prop):Nat->List c8->List (List Nat)->Rec->a8->Prop
 |_,[],_,_,st=>K st
 |n,i::r,cs,rec,st=>match pe st.tm i.g with
  |none=>False
  |some g=>if g=true then (match hz T st.mem st.tm i.op with
    |some (m,e)=>FQ rec (jG i.op,dI st.tm i.op) (cs.headD [])=true/\wD T K (n+1) r cs.tail (u7 rec n (jG i.op,dI st.tm i.op)) ⟨put st.tm i.dst m,im st.mem e⟩
    |none=>False) else wD T K (n+1) r cs.tail rec ⟨put st.tm i.dst .no,st.mem⟩
inductive eT where
 |normal
 |exit (id:Nat)
 |ret
def cC:Nat->Mem->R->Option Data
 |_,_,.J d=>some d
 |_,_,.nil=>some (.Y [])
 |0,_,_=>none
 |n+1,mem,.ref k g sz off len=>match mem k with
  |some (c7,cs)=>if c7=g then (match cut cs off (len*sz) with
   |some part=>(part.mapM (cC n mem)).map λds => .Y (chunk sz len ds)
   |none=>none) else none
  |none=>none
 |n+1,mem,.ptr k g off=>match mem k with
  |some (c7,cs)=>if c7=g/\off<=(D cs) then ((cs.drop off).mapM (cC n mem)).map .ptr else none
  |none=>none
 |n+1,mem,.fz f cs=>(cs.mapM (cC n mem)).map (.fn f)
 |n+1,mem,.agg cs=>(cs.mapM (cC n mem)).map .agg
 |n+1,mem,.cH cs=>(cs.mapM (cC n mem)).map .cH
 |_,_,.no=>none
 |_,_,.undef=>none
def kill (mem:Mem)(k:Key):Mem:=a2 mem k (bZ mem k) []
inductive sm (mem:Mem):Mem->Prop
 |NS (fM g8:Nat) (gO:List R) (i k g sz off len:Nat) (cs:List R) (k':Nat) (G:mem fM=some (g8,gO)) (I:gO[i]?=some (.ref k g sz off len)) (af:mem k=some (g,cs)) (aS:k≠fM) (bm:k'≠k) (bV:k'≠fM) :
   sm mem (a2 (a2 (a2 mem k (bZ mem k) []) k' (bZ mem k') cs) fM g8 (gO.set i (.ref k' (bZ mem k') sz off len)))
 |ac8 (fM g8:Nat) (gO:List R) (i k g off:Nat) (cs:List R) (k':Nat) (G:mem fM=some (g8,gO)) (I:gO[i]?=some (.ptr k g off)) (af:mem k=some (g,cs)) (aS:k≠fM) (bm:k'≠k) (bV:k'≠fM) :
   sm mem (a2 (a2 (a2 mem k (bZ mem k) []) k' (bZ mem k') cs) fM g8 (gO.set i (.ptr k' (bZ mem k') off)))
 |NT (fM g8:Nat) (gO:List R) (i k g sz off len:Nat) (cs:List R) (d:Data) (G:mem fM=some (g8,gO)) (I:gO[i]?=some (.ref k g sz off len)) (af:mem k=some (g,cs)) (aS:k≠fM) (bm:cC 1 mem (.ref k g sz off len)=some d) :
   sm mem (a2 (kill mem k) fM g8 (gO.set i (.J d)))
inductive tu:Mem->Mem->Prop
 |refl (mem:Mem):tu mem mem
 |step {mem JQ ac9:Mem} (h:sm mem JQ) (cx:tu JQ ac9):tu mem ac9
def lk (K:a8->Prop)(st:a8):NJ->Prop
 |.nj s k sz=>match st.tm s with
  |.nil=>K ⟨e5 st.tm s (.ref k (bZ st.mem k) sz 0 0),a2 st.mem k (bZ st.mem k) []⟩
  |_=>False
 |.NK x i k sz=>match a7 st.tm x with
  |.ptr kc g off=>match st.mem kc with
   |some (c7,cs)=>if c7=g then (match cs[off+i]? with
    |some .nil=>if k≠kc then K ⟨st.tm,a2 (a2 st.mem k (bZ st.mem k) []) kc g (cs.set (off+i) (.ref k (bZ st.mem k) sz 0 0))⟩ else False
    |_=>False) else False
   |none=>False
  |_=>False
 |.freeze s=>match st.tm s with
  |.ref k g _ _ _=>match st.mem k with
   |some (c7,cs)=>if c7=g/\nX cs=true then (match cC 1 st.mem (st.tm s) with
    |some d=>K ⟨e5 st.tm s (.J d),kill st.mem k⟩
    |none=>False) else False
   |none=>False
  |_=>False
 |.NL x i=>match a7 st.tm x with
  |.ptr kc gc off=>match st.mem kc with
   |some (JR,cc)=>if JR=gc then (match cc[off+i]? with
    |some (.ref k g sz o len)=>match st.mem k with
     |some (c7,cs)=>if c7=g/\nX cs=true/\k≠kc then (match cC 1 st.mem (.ref k g sz o len) with
      |some d=>K ⟨st.tm,a2 (kill st.mem k) kc gc (cc.set (off+i) (.J d))⟩
      |none=>False) else False
     |none=>False
    |_=>False) else False
   |none=>False
  |_=>False
 |.move=>K st\/(∃fM g8 gO i k g sz off len cs k',st.mem fM=some (g8,gO)/\gO[i]?=some (.ref k g sz off len)/\st.mem k=some (g,cs)/\k≠fM/\k'≠k/\k'≠fM /\
   K ⟨st.tm,a2 (a2 (a2 st.mem k (bZ st.mem k) []) k' (bZ st.mem k') cs) fM g8 (gO.set i (.ref k' (bZ st.mem k') sz off len))⟩) \/
   ∃fM g8 gO i k g sz off len cs d,st.mem fM=some (g8,gO)/\gO[i]?=some (.ref k g sz off len)/\st.mem k=some (g,cs)/\nX cs=true/\k≠fM/\cC 1 st.mem (.ref k g sz off len)=some d /\
   K ⟨st.tm,a2 (kill st.mem k) fM g8 (gO.set i (.J d))⟩
 |.many=>∃mem',tu st.mem mem'/\K ⟨st.tm,mem'⟩
def wp (T:bb):eu->(eT->a8->Prop)->a8->Prop
 |.skip,K,st=>K .normal st
 |.ops l,K,st=>x6 T (K .normal) l st
 |.mY l c,K,st=>wD T (K .normal) 0 l c (λ_=>none) st
 |.seq a b,K,st=>wp T a (λe dT=>match e with
  |.normal=>wp T b K dT
  |e=>K e dT) st
 |.cond c a b,K,st=>match a7 st.tm c with
  |.J (.bool t)=>if t=true then wp T a K st else wp T b K st
  |_=>False
 |.block id c,K,st=>wp T c (λe dT=>match e with
  |.exit j=>if j=id then K .normal dT else K (.exit j) dT
  |e=>K e dT) st
 |.loop c,K,st=>∃(Dn:a8->Prop) (μ:a8->Nat),Dn st/\∀st,Dn st->wp T c (λe dT=>match e with
  |.normal=>Dn dT/\μ dT<μ st
  |e=>K e dT) st
 |.exit id,K,st=>K (.exit id) st
 |.ret,K,st=>K .ret st
 |.ghost g c,K,st=>lk (wp T c K) st g
def FR (st:a8):oJ->Option R
 |.t s=>some (st.tm s)
 |.cell s n dV=>qo st.mem n dV (st.tm s)
def pO (st:a8)(l:List oJ):Option R :=
 match l.mapM (FR st) with
 |some [m]=>some m
 |some ms=>some (.cH ms)
 |none=>none
def ka (args:List R):Nat->R:=λs=>match args[s]? with
 |some m=>m
 |none => .no
def JS:Value->Option R
 |.int k n=>some (.J (.int k n))
 |.bool b=>some (.J (.bool b))
 |.string s=>some (.J (.str s.data.toList))
 |.slice none 0 0=>some .nil
 |.pointer none=>some (.J .u2)
 |.nilFunc=>some (.J .u3)
 |_=>none
def Tl:Value->Option R
 |.agg cs=>(cs.toList.mapM JS).map .agg
 |v=>JS v
def dM:Operand->Option bU
 |.tmp t=>some (.t t)
 |.const v=>(Tl v).map .c
 |.func f=>some (.c (.fz f []))
 |.global _=>none
def zeroOf (P:Program)(t:TypeId):Option (List R):=((P.info? t).bind (·.zero)).bind λz=>z.cells.toList.mapM JS
def gq (P:Program)(t:TypeId):Option Nat:=(P.info? t).map (·.size)
def FT (P:Program)(t:TypeId):Option Nat:=(P.info? t).map (·.bytes)
def zt (P:Program)(t:TypeId):Option Bool:=(P.underlying t).map fun|.struct _=>true|.array _ _=>true|_=>false
def partsOf (place:Nat->Option (Nat×Nat))(l:List (Nat×Operand)):Option (List (Nat×Nat×bU)) :=
 l.mapM λ(i,x)=>do
  let (o,s) <-place i
  let y <-dM x
  pure (o,s,y)
def u9 (P:Program)(dN:Array Field)(i:Nat):Option (Nat×Nat):=do
 let f <-dN[i]?
 let s <-gq P f.type
 pure (f.offset,s)
def JT (P:Program)(t:TypeId):Option Nat :=
 match P.underlying t with
 |some .bool=>some 0
 |some (.int _)=>some 1
 |some .string=>some 2
 |_=>none
def FU (P:Program):Nat->List Field->Option (List Nat)
 |_,[]=>some []
 | i, f :: r => if f.name ≠ "_" /\ f.offset = i then (match JT P f.type, FU P (i + 1) r with
  |some k,some g1=>some (k::g1)
  |_,_=>none) else none
def wE (P:Program)(t:TypeId)(dN:Array Field)(neg:Bool)(x y:Operand):Option j8 :=
 if P.stoodInHeld t=false/\P.eqGuardType P.depth t=false then (match FU P 0 dN.toList,dM x,dM y with
  |some g1,some x,some y=>some (.eqs neg g1 x y)
  |_,_,_=>none) else none
def Tm:Operand->Bool
 |.const (.slice none 0 0)=>true
 |_=>false
def zu (P:Program)(op:BinOp)(t:TypeId)(x y:Operand):Option j8 :=
 match P.underlying t with
 |some (.int _)=>match dM x,dM y with
  |some x,some y=>some (.bin op x y)
  |_,_=>none
 |some .string=>match dM x,dM y with
  |some x,some y=>some (.bin op x y)
  |_,_=>none
 |some .bool=>match op,dM x,dM y with
  |.eql,some x,some y=>some (.beq false x y)
  |.neq,some x,some y=>some (.beq true x y)
  |_,_,_=>none
 |some (.struct dN)=>match op with
  |.eql=>wE P t dN false x y
  |.neq=>wE P t dN true x y
  |_=>none
 |some (.slice _)=>if Tm y=true then (match op with
  |.eql=>(dM x).map (.rk false)
  |.neq=>(dM x).map (.rk true)
  |_=>none) else none
 |_=>none
def tv:Option Operand->Option (Option bU)
 |none=>some none
 |some x=>(dM x).map some
def x7 (P:Program)(kb:Nat)(own:List Nat)(dst:Option Nat)(type:TypeId)(c:Call):Option j8 :=
 match c.callee,c.args.toList,c.argTypes.toList with
 |.builtin .len,[x],[t]=>match P.underlying t with
  |some (.slice _)=>(dM x).map .len
  |some .string=>(dM x).map .lens
  |_=>none
 |.builtin .append,[s,x],[t,u]=>match P.underlying t,P.underlying u with
  |some (.slice e),some (.slice _)=>do
   let z <-zeroOf P e
   let b <-FT P e
   let n <-gq P e
   let d <-dst
   let s <-dM s
   let x <-dM x
   if (D z)=n/\0<n/\t=u then pure (.app (kb+d) z b s x) else none
  |_,_=>none
 |.builtin .copy,[d,x],[t,u]=>match P.underlying t,P.underlying u with
  |some (.slice e),some (.slice _)=>do
   let n <-gq P e
   if 0<n then pure (.sj n (<-dM d) (<-dM x)) else none
  |_,_=>none
 |.builtin .clear,[x],[t]=>match P.underlying t with
  |some (.slice e)=>do
   let z <-zeroOf P e
   let n <-gq P e
   if (D z)=n/\0<n then pure (.sl z (<-dM x)) else none
  |_=>none
 |.builtin .max,[x,y],_=>do pure (.il true (<-dM x) (<-dM y))
 |.builtin .min,[x,y],_=>do pure (.il false (<-dM x) (<-dM y))
 |.value (.func f),l,_=>if dst.any (λd=>own.contains d) then (match P.underlying type with
   |some (.slice e)=>do pure (.oI (kb+(<-dst)) (<-gq P e) f (<-l.mapM dM))
   |_=>none) else match own.find? (λo=>decide (1000000<=o)&&dst==some (o%1000000)) with
   |some o=>if 1000000000000<=o then do pure (.sk (o/1000000000000-1) f (<-l.mapM dM)) else if 1000000000<=o then do pure (.tt (o/1000000000-1) f (<-l.mapM dM)) else do pure (.mo (o/1000000-1) f (<-l.mapM dM))
   |none=>do pure (.call f (<-l.mapM dM))
 |.value f,l,_=>do pure (.jE (<-dM f) (<-l.mapM dM))
 |_,_,_=>none
def jH (P:Program)(kb:Nat)(own:List Nat)(dst:Option Nat)(type:TypeId):Op->Option j8
 |.move x=>(dM x).map .cm
 |.assign x=>(dM x).map .cm
 |.pick c a b=>do pure (.pick (<-dM c) (<-dM a) (<-dM b))
 |.alloc e=>do pure (.alloc (kb+(<-dst)) (<-zeroOf P e))
 |.box _ x=>do pure (.box (kb+(<-dst)) (<-dM x))
 |.build t ps=>match P.underlying t with
  |some (.struct dN)=>if (dN.toList.all λf=>(gq P f.type).isSome)=true then do pure (.build (<-zeroOf P t) (<-partsOf (u9 P dN) ps.toList)) else none
  |some (.array _ e)=>do
   let s <-gq P e
   pure (.build (<-zeroOf P t) (<-partsOf (λi=>some (i*s,s)) ps.toList))
  |_=>none
 |.buildSlice t len ps=>match P.underlying t with
  |some (.slice e)=>do
   let z <-zeroOf P e
   let s <-gq P e
   let ps <-partsOf (λi=>some (i*s,s)) ps.toList
   let d <-dst
   if (D z)=s/\0<s/\len*s<=16777216 then pure (.e0 (kb+d) (own.contains d) ((dH len z).flatten) s len ps) else none
  |_=>none
 |.load t x=>do pure (.load (<-gq P t) (<-zt P t) (<-dM x))
 |.store t x v=>do pure (.store (<-gq P t) (<-dM x) (<-dM v))
 |.binOp op t x y _=>zu P op t x y
 |.unOp op _ x=>(dM x).map (.un op)
 |.nilCheck x=>(dM x).map .si
 |.convert s t x=>match P.underlying s,P.underlying t with
  |some (.int _),some (.int k)=>(dM x).map (.conv k)
  |_,_=>none
 |.makeFunc (.func f) fst eP=>if fst.size=0 then do pure (.pN f (<-eP.toList.mapM dM)) else none
 |.makeSlice t l c=>match P.underlying t with
  |some (.slice e)=>do
   let z <-zeroOf P e
   let s <-gq P e
   let b <-FT P e
   let d <-dst
   if (D z)=s/\0<s then pure (.mn (kb+d) z b (<-dM l) (<-dM c)) else none
  |_=>none
 |.slice t x cB M j9=>match P.underlying t with
  |some (.slice e)=>do
   let s <-gq P e
   if 0<s then pure (.oH s (<-dM x) (<-tv cB) (<-tv M) (<-tv j9)) else none
  |some (.array n e)=>do
   let s <-gq P e
   if 0<s/\n<=16777216 then pure (.ts n s (<-dM x) (<-tv cB) (<-tv M) (<-tv j9)) else none
  |some .string=>if j9.isNone then do pure (.Dl (<-dM x) (<-tv cB) (<-tv M)) else none
  |_=>none
 |.fieldAddr t x f=>match P.underlying t with
  |some (.struct dN)=>do
   let (o,s) <-u9 P dN f
   if 0<s then pure (.dY o (<-dM x)) else none
  |_=>none
 |.field t x f=>match P.underlying t with
  |some (.struct dN)=>do
   let fd <-dN[f]?
   let (o,s) <-u9 P dN f
   pure (.Dk o s (<-zt P fd.type) (<-dM x))
  |_=>none
 |.indexAddr t x i=>match P.underlying t with
  |some (.slice e)=>do
   let s <-gq P e
   if 0<s then pure (.kO s (<-dM x) (<-dM i)) else none
  |some (.array n e)=>do
   let s <-gq P e
   if 0<s then pure (.pd n s (<-dM x) (<-dM i)) else none
  |_=>none
 |.index t x i=>match P.underlying t with
  |some .string=>do pure (.idxs (<-dM x) (<-dM i))
  |_=>none
 |.extract x i=>(dM x).map (.ext i)
 |.call c=>x7 P kb own dst type c
 |_=>none
def JU (ops:Array Oper):Option (Nat×Bool)->Option (Option (Nat×Bool))
 |none=>some none
 |some (j,b)=>match (ops[j]?).bind (·.dst) with
  |some s=>some (some (s,b))
  |none=>none
def Bl (P:Program)(n kb:Nat)(own:List Nat)(ops:Array Oper)(o:Oper):Option c8 :=
 match JU ops o.guard with
 |some g=>if o.dst.all (λd=>decide (d<n))=true then some ⟨o.dst,g,(jH P kb own o.dst o.type o.op).getD .bad⟩ else none
 |_=>none
def sn (m:j8):Nat:=match m with
 |.load ..=>1
 |.ts ..=>1
 |m=>if jG m=true then 2 else 0
def zv (a b:Nat):Bool:=a==0||b==0||(a==1&&b==1)
def fo:bU->List Nat
 |.t s=>[s]
 |.c _=>[]
def x8:Option bU->List Nat
 |some (.t s)=>[s]
 |_=>[]
def sq:j8->List Nat
 |.cm x=>fo x
 |.pick c a b=>fo c++fo a++fo b
 |.alloc _ _=>[]
 |.box _ x=>fo x
 |.build _ ps=>ps.flatMap λp=>fo p.2.2
 |.e0 _ _ _ _ _ ps=>ps.flatMap λp=>fo p.2.2
 |.load _ _ x=>fo x
 |.store _ x v=>fo x++fo v
 |.bin _ x y=>fo x++fo y
 |.beq _ x y=>fo x++fo y
 |.eqs _ _ x y=>fo x++fo y
 |.rk _ x=>fo x
 |.un _ x=>fo x
 |.conv _ x=>fo x
 |.si x=>fo x
 |.mn _ _ _ x y=>fo x++fo y
 |.dY _ x=>fo x
 |.Dk _ _ _ x=>fo x
 |.kO _ x i=>fo x++fo i
 |.pd _ _ x i=>fo x++fo i
 |.idxs x i=>fo x++fo i
 |.oH _ x a b c=>fo x++x8 a++x8 b++x8 c
 |.ts _ _ x a b c=>fo x++x8 a++x8 b++x8 c
 |.Dl x a b=>fo x++x8 a++x8 b
 |.ext _ x=>fo x
 |.len x=>fo x
 |.lens x=>fo x
 |.app _ _ _ s x=>fo s++fo x
 |.sj _ s x=>fo s++fo x
 |.il _ x y=>fo x++fo y
 |.call _ l=>l.flatMap fo
 |.oI _ _ _ l=>l.flatMap fo
 |.jE f l=>fo f++l.flatMap fo
 |.mo _ _ l=>l.flatMap fo
 |.tt _ _ l=>l.flatMap fo
 |.sk _ _ l=>l.flatMap fo
 |.sl _ x=>fo x
 |.pN _ l=>l.flatMap fo
 |.bad=>[]
def Bm (i:c8):List Nat:=sq i.op++(match i.g with|some (s,_)=>[s]|none=>[])
def x9 (x y:c8):Bool :=
 (
  match x.dst with
  |some d => !(Bm y).contains d&&y.dst != some d
  |none=>true) &&
 (
  match y.dst with
  |some d => !(Bm x).contains d
  |none=>true)
def qs:List Oper->List Nat->List Nat
 | [],acc=>acc
 |o::r,acc=>qs r (acc++[o.after.toList.foldl (λs e=>if Region.binds .any e=true then s ||| (2^e.on ||| acc.getD e.on 0) else s) 0])
def FV:List c8->List c8->List Nat->Bool
 |_,[],_=>true
 |pre,c::cs,a::as=>(pre.zipIdx.all λ(p,i)=>a.testBit i||x9 p c)&&FV (pre++[c]) cs as
 |_,_::_,[]=>false
def FW:Nat->List Oper->Bool
 |_,[]=>true
 |n,o::r=>(o.after.all λe => !Region.binds .any e||decide (e.on<n))&&FW (n+1) r
def FX (ops:Array Oper)(l:List c8):Bool:=FW 0 ops.toList&&FV [] l (qs ops.toList [])
def zw:List c8->List c8->List Nat->List (List Nat)
 |_,[],_=>[]
 |pre,c::cs,as=>((pre.zipIdx.filter λ(p,i) => !((as.headD 0).testBit i||zv (sn p.op) (sn c.op))).map (·.2))::zw (pre++[c]) cs as.tail
def qt (P:Program)(n kb:Nat)(own:List Nat):Code->Option eu
 |.skip=>some .skip
 |.region _ ops draw=>match ops.toList.mapM (Bl P n kb own ops) with
  |some l=>if draw=true then (if FX ops l=true then some (.mY l (zw [] l (qs ops.toList []))) else none) else some (.ops l)
  |none=>none
 |.seq a b=>match qt P n kb own a,qt P n kb own b with
  |some x,some y=>some (.seq x y)
  |_,_=>none
 |.cond c a b=>match dM c,qt P n kb own a,qt P n kb own b with
  |some c,some x,some y=>some (.cond c x y)
  |_,_,_=>none
 |.block id c=>(qt P n kb own c).map (.block id)
 |.loop c=>(qt P n kb own c).map .loop
 |.exit id=>some (.exit id)
 |.ret=>some .ret
 |_=>none
def FY (P:Program):ResultVar->Option oJ
 |.tmp t=>some (.t t)
 |.cell a t=>match gq P t,zt P t with
  |some s,some g=>some (.cell a s g)
  |_,_=>none
def sr (P:Program)(kb:Nat)(own:List Nat)(f:Func):Option bP :=
 match f.body with
 |none=>none
 |some c=>match qt P f.ntmps kb own c,f.results.toList.mapM (FY P) with
  |some b,some r=>some { n:=f.ntmps,aov:=f.params.size+f.nfree,res:=r,body:=b }
  |_,_=>none
structure eF (A:Nat->Prop) (w:World) (B:e4) (aR:World) (bu:e4) (mem':Mem):Prop where
 dW:fs A aR bu mem'
 mZ:Trans A w B aR bu
 aG:Fr (sg B) w aR
 fresh:∀b,sg bu b->sg B b\/w.heap.size<=b
theorem eF.still {A:Nat->Prop}{w aR:World}{B:e4}{mem:Mem}(h:fs A w B mem)(f:Fr (λ_=>False) w aR):eF A w B aR B mem:=by
 have mZ:Trans A w B aR B:=⟨f.size,λb ag bO=>⟨f.block b ag id,λQ=>bO (.inl Q)⟩,λ_ e he=>⟨e,he,.inl rfl⟩⟩;refine⟨⟨h.Bh,h.inj,h.sep,λb ag=>Dj (h.lt b ag) f.size,λk g cs hm=>?_⟩,mZ,⟨f.os,f.tape,f.output,f.size,λb ag _=>f.block b ag id⟩,λb ag => .inl ag⟩;obtain⟨e,he,ba,aK,ag⟩:=h.dA k g cs hm;refine⟨e,he,ba,aK,λb jI=>?_⟩;obtain⟨vs,T,G,I,af,aS⟩:=ag b jI;have az:b<w.heap.size:=(Array.getElem?_eq_some_iff.1 G).1;exact⟨vs,T,(f.block b az id).trans G,I,af,λi m hm=>let ⟨v,aq,ab⟩:=aS i m hm;⟨v,aq,ab.rj mZ⟩⟩
theorem eF.refl {A:Nat->Prop}{w:World}{B:e4}{mem:Mem}(h:fs A w B mem):eF A w B w B mem:=.still h (Fr.refl _ _)
def gE (B:e4)(k:Key)(e:mm):e4:=λj=>if j=k then some e else B j
theorem hn (B:e4)(k:Key)(e:mm):gE B k e k=some e:=by simp[gE]
theorem hf (B:e4){k j:Key}(e:mm)(h:j≠k):gE B k e j=B j:=by simp[gE,h]
section
variable {A:Nat->Prop} {w aR:World} {B:e4} {mem:Mem} {k:Key} {e':mm} {cs:List R}
theorem Trans.change (ew:w.heap.size<=aR.heap.size)
  (hold:∀b,b<w.heap.size->(∀e,B k=some e->e.dA≠some b)->aR.heap[b]?=w.heap[b]?)
  (ba:∀e,B k=some e->e'=e\/e.g<e'.g)
  (fk:∀b,e'.dA=some b->w.heap.size<=b\/∃e,B k=some e/\e.dA=some b):Trans A w B aR (gE B k e'):=by
 refine⟨ew,λb ag bO=>⟨hold b ag λe he Q=>bO (.inl ⟨k,e,he,Q⟩),?_⟩,λj e he=>?_⟩
 ·rintro⟨j,e,he,Q⟩
  by_cases aj:j=k
  ·subst aj;rw[hn] at he
   cases he;rcases fk b Q with G|⟨e,G,I⟩
   ·omega
   ·exact bO (.inl ⟨_,e,G,I⟩)
  ·rw[hf B e' aj] at he;exact bO (.inl ⟨j,e,he,Q⟩)
 ·by_cases aj:j=k
  ·subst aj;exact⟨e',hn _ _ _,ba e he⟩
  ·exact⟨e,(hf B e' aj).trans he,.inl rfl⟩
theorem Tn (fk:∀b,e'.dA=some b->w.heap.size<=b\/∃e,B k=some e/\e.dA=some b)(b:Nat)(h:sg (gE B k e') b):sg B b\/w.heap.size<=b:=by
 obtain⟨j,e,he,Q⟩:=h
 by_cases aj:j=k
 ·subst aj;rw[hn] at he
  cases he;rcases fk b Q with G|⟨e,G,I⟩
  ·exact .inr G
  ·exact .inl ⟨_,e,G,I⟩
 ·rw[hf B e' aj] at he;exact .inl ⟨j,e,he,Q⟩
theorem fs.ada (h:fs A w B mem)(ew:w.heap.size<=aR.heap.size)
  (hold:∀b,b<w.heap.size->(∀e,B k=some e->e.dA≠some b)->aR.heap[b]?=w.heap[b]?)
  (ba:∀e,B k=some e->e'=e\/e.g<e'.g)
  (fk:∀b,e'.dA=some b->w.heap.size<=b\/∃e,B k=some e/\e.dA=some b)
  (aK:e'.dA=none->cs=[])
  (H:∀b,e'.dA=some b->∃vs T,aR.heap[b]?=some (.cells vs T (0,0))/\vs.size=e'.size/\D cs<=vs.size /\
   ∀(i:Nat) (m:R),cs[i]?=some m->∃v,vs[i]?=some v/\bt aR (cd A (gE B k e')) (gE B k e') m v):fs A aR (gE B k e') (a2 mem k e'.g cs):=by
 have mZ:Trans A w B aR (gE B k e'):=Trans.change ew hold ba fk;have fresh:=Tn (w:=w) fk;refine⟨λj aj=>?_,λj lS e aC b he fr ag eR=>?_,λb aN bO=>?_,λb ag=>Dj (h.lt b ag) ew,λj g nm hm=>?_⟩
 ·by_cases dZ:j=k
  ·subst dZ;simp[a2] at aj
  ·simp only[a2,dZ,if_false] at aj;rw[hf B e' dZ];exact h.Bh j aj
 ·by_cases dZ:j=k<;>by_cases hjk':lS=k
  ·rw[dZ,hjk']
  ·subst dZ;rw[hn] at he
   cases he;rw[hf B e' hjk'] at fr;rcases fk b ag with G|⟨e,G,I⟩
   ·have:=h.x3 ⟨lS,aC,fr,eR⟩;omega
   ·exact h.inj _ _ e aC b G fr I eR
  ·subst hjk';rw[hn] at fr
   cases fr;rw[hf B e' dZ] at he;rcases fk b eR with G|⟨cg,G,I⟩
   ·have:=h.x3 ⟨j,e,he,ag⟩;omega
   ·exact h.inj _ _ e cg b he G ag I
  ·rw[hf B e' dZ] at he;rw[hf B e' hjk'] at fr;exact h.inj j lS e aC b he fr ag eR
 ·rcases fresh b bO with G|G
  ·exact h.sep b aN G
  ·have:=h.lt b aN;omega
 ·by_cases dZ:j=k
  ·subst dZ;simp only[a2,if_true,cl,e6] at hm;obtain⟨rfl,rfl⟩:=hm;refine⟨e',hn _ _ _,rfl,aK,λb ag=>?_⟩;obtain⟨vs,T,G,I,af,aS⟩:=H b ag;exact⟨vs,T,G,I,af,aS⟩
  ·simp only[a2,dZ,if_false] at hm;obtain⟨e,he,JV,aow,ku⟩:=h.dA j g nm hm;refine⟨e,(hf B e' dZ).trans he,JV,aow,λb ag=>?_⟩;obtain⟨vs,T,G,I,af,aS⟩:=ku b ag;have az:b<w.heap.size:=(Array.getElem?_eq_some_iff.1 G).1;have ya:aR.heap[b]?=w.heap[b]?:=hold b az λcg af aS=>dZ (h.inj j k e cg b he af ag aS);exact⟨vs,T,ya.trans G,I,af,λi m hm=>let ⟨v,aq,ab⟩:=aS i m hm;⟨v,aq,ab.rj mZ⟩⟩
theorem fs.change (h:fs A w B mem)(ew:w.heap.size<=aR.heap.size)
  (hold:∀b,b<w.heap.size->(∀e,B k=some e->e.dA≠some b)->aR.heap[b]?=w.heap[b]?)
  (ba:∀e,B k=some e->e'=e\/e.g<e'.g)
  (fk:∀b,e'.dA=some b->w.heap.size<=b\/∃e,B k=some e/\e.dA=some b)
  (aK:e'.dA=none->cs=[])
  (H:∀b,e'.dA=some b->∃vs T,aR.heap[b]?=some (.cells vs T (0,0))/\vs.size=e'.size/\D cs<=vs.size /\
   ∀(i:Nat) (m:R),cs[i]?=some m->∃v,vs[i]?=some v/\bt w (cd A B) B m v):fs A aR (gE B k e') (a2 mem k e'.g cs) :=
 h.ada ew hold ba fk aK λb ag=>by
  have mZ:Trans A w B aR (gE B k e'):=Trans.change ew hold ba fk;obtain⟨vs,T,G,I,af,aS⟩:=H b ag;exact⟨vs,T,G,I,af,λi m hm=>let ⟨v,aq,ab⟩:=aS i m hm;⟨v,aq,ab.rj mZ⟩⟩
theorem eF.change (h:fs A w B mem)(f:Fr (λb=>∃e,B k=some e/\e.dA=some b) w aR)
  (ba:∀e,B k=some e->e'=e\/e.g<e'.g)
  (fk:∀b,e'.dA=some b->w.heap.size<=b\/∃e,B k=some e/\e.dA=some b)
  (aK:e'.dA=none->cs=[])
  (H:∀b,e'.dA=some b->∃vs T,aR.heap[b]?=some (.cells vs T (0,0))/\vs.size=e'.size/\D cs<=vs.size /\
   ∀(i:Nat) (m:R),cs[i]?=some m->∃v,vs[i]?=some v/\bt w (cd A B) B m v):eF A w B aR (gE B k e') (a2 mem k e'.g cs):=by
 have hold:∀b,b<w.heap.size->(∀e,B k=some e->e.dA≠some b)->aR.heap[b]?=w.heap[b]? :=
  λb ag Q=>f.block b ag fun⟨e,he,jI⟩=>Q e he jI
 exact⟨h.change f.size hold ba fk aK H,Trans.change f.size hold ba fk,⟨f.os,f.tape,f.output,f.size,λb ag bO=>f.block b ag fun⟨e,he,jI⟩=>bO ⟨k,e,he,jI⟩⟩,Tn fk⟩
theorem Dp (h:fs A w B mem)(k:Key)(e:mm)(he:B k=some e):e.g<bZ mem k:=by
 cases hm:mem k with
 |none=>rw[h.Bh k hm] at he;cases he
 |some x =>
  obtain⟨g,cs⟩:=x;obtain⟨aC,G,I,_⟩:=h.dA k g cs hm;rw[G] at he
  cases he;simp[bZ,hm,I]
theorem eF.alloc (h:fs A w B mem)(w1:World)(f:Fr (λ_=>False) w w1)(aW:w1.heap.size=w.heap.size)(k:Key)(vs:Array Value)(T:TypeId)(aw:(D cs)<=vs.size)
  (H:∀(i:Nat) (m:R),cs[i]?=some m->∃v,vs[i]?=some v/\bt w (cd A B) B m v) :
  eF A w B (w1.alloc (.cells vs T)) (gE B k ⟨bZ mem k,some w.heap.size,vs.size⟩) (a2 mem k (bZ mem k) cs):=by
 have f2:Fr (λ_=>False) w (w1.alloc (.cells vs T)):=f.alloc _;refine eF.change (e':=⟨bZ mem k,some w.heap.size,vs.size⟩) h ⟨f2.os,f2.tape,f2.output,f2.size,λb ag _=>f2.block b ag id⟩ (λe he => .inr (Dp h k e he)) (λb ag => .inl ?_) (by simp) ?_
 ·simp at ag;omega
 ·intro b ag;simp at ag;subst ag;exact⟨vs,T,by rw[<-aW];exact heap_alloc_new w1 _,rfl,aw,H⟩
theorem eF.yb (h:fs A w B mem)(k:Key):eF A w B w (gE B k ⟨bZ mem k,none,0⟩) (a2 mem k (bZ mem k) []) :=
 eF.change (e':=⟨bZ mem k,none,0⟩) h ⟨rfl,rfl,rfl,b0 _,λ_ _ _=>rfl⟩ (λe he => .inr (Dp h k e he)) (λb ag=>by simp at ag) (λ_=>rfl) (λb ag=>by simp at ag)
end
theorem eF.trans {A:Nat->Prop}{w w1 ni:World}{B Bg Di:e4}{dO cJ:Mem}(h:eF A w B w1 Bg dO)(cx:eF A w1 Bg ni Di cJ):eF A w B ni Di cJ:=by
 refine⟨cx.dW,h.mZ.trans cx.mZ,⟨cx.aG.os.trans h.aG.os,cx.aG.tape.trans h.aG.tape,cx.aG.output.trans h.aG.output,eQ h.aG.size cx.aG.size,λb ag bO=>?_⟩,λb ag=>?_⟩
 ·have G:=h.aG.block b ag bO;refine (cx.aG.block b (Dj ag h.aG.size) λQ=>?_).trans G;rcases h.fresh b Q with I|I
  ·exact bO I
  ·omega
 ·rcases cx.fresh b ag with G|G
  ·exact h.fresh b G
  ·exact .inr (eQ h.aG.size G)
theorem To {w:World}{aZ:Nat->Prop}{B:e4}{v:Value}{m:R}(h:JS v=some m):bt w aZ B m v:=by
 unfold JS at h
 split at h<;>simp only[cl,reduceCtorEq] at h<;>subst h
 ·exact .J .int
 ·exact .J .bool
 ·rename_i s
  exact .J (by
   have:s=⟨s.data.toList.toArray⟩:=by simp
   rw[this]
   simpa using Den.str (s:=s.data.toList))
 ·exact .nil
 ·exact .J .u2
 ·exact .J .u3
theorem oK {α β:Type}{f:α->Option β}:∀{l:List α} {r:List β},l.mapM f=some r->(D r)=D l/\∀(i:Nat) (x:α) (y:β),l[i]?=some x->r[i]?=some y->f x=some y
 | [],r,h=>by
  simp at h;subst h;exact⟨rfl,λi x y G=>by simp at G⟩
 |a::l,r,h=>by
  simp only[ll,hg,ho,ek,cl] at h;obtain⟨b,ag,FZ,ab,rfl⟩:=h;obtain⟨G,I⟩:=oK ab;refine⟨by simp[G],λi x y Q av=>?_⟩
  cases i with
  |zero=>simp at Q av;subst Q;subst av;exact ag
  |succ i=>exact I i x y (by simpa using Q) (by simpa using av)
theorem aox {w:World}{aZ:Nat->Prop}{B:e4}{v:Value}{m:R}(h:Tl v=some m):bt w aZ B m v:=by
 unfold Tl at h
 split at h
 ·rename_i cs;simp only[ea] at h;obtain⟨ms,aO,rfl⟩:=h;obtain⟨G,I⟩:=oK aO;have:=bt.agg (w:=w) (aZ:=aZ) (B:=B) (cs:=ms) (vs:=cs.toList) (by simp[G]) λi d v aa aq=>To (I i v d aq aa)
  simpa using this
 ·exact To h
section
variable {P:Program} {w:World} {aZ:Nat->Prop} {B:e4}
theorem bt.yc {k:IntKind}{n:Int}{v:Value}(h:bt w aZ B (.J (.int k n)) v):v=.int k n:=by
 cases h with
 |J h=>cases h;rfl
theorem bt.Dq {b:Bool}{v:Value}(h:bt w aZ B (.J (.bool b)) v):v=.bool b:=by
 cases h with
 |J h=>cases h;rfl
theorem bt.Dr {s:List UInt8}{v:Value}(h:bt w aZ B (.J (.str s)) v):v=.string ⟨s.toArray⟩:=by
 cases h with
 |J h=>cases h;rfl
theorem bt.ofInt {k:IntKind}{n:Int}:bt w aZ B (.J (.int k n)) (.int k n):=.J .int
theorem aoy {op:BinOp}{k:IntKind}{a b:Int}{d:Data}(t:TypeId)(X:FK op=false)(h:NM op k a b=some d):
  ∃v,(binOp op t (.int k a) (.int k b)).run P w=.ok v w/\Den w aZ d v:=by
 cases op<;>simp only[NM,cl,reduceCtorEq] at h<;>simp only[FK,Bool.true_eq_false] at X
 case quo =>
  split at h
  ·cases h
  ·rename_i ag
   cases h;exact⟨_,by simp[go_sem,Op.intDiv,ag],.int⟩
 case rem =>
  split at h
  ·cases h
  ·rename_i ag
   cases h;exact⟨_,by simp[go_sem,Op.intDiv,ag],.int⟩
 all_goals
  subst h
  first
   |exact⟨_,by simp[go_sem,Op.intArith],.int⟩
   |exact⟨_,by simp[go_sem],.int⟩
   |exact⟨_,by simp[go_sem],.bool⟩
theorem aoz {op:BinOp}{k k':IntKind}{a b:Int}{d:Data}(t:TypeId)(X:FK op=true)(h:NN op k a b=some d):
  ∃v,(binOp op t (.int k a) (.int k' b)).run P w=.ok v w/\Den w aZ d v:=by
 unfold NN at h
 split at h
 ·cases h
 ·rename_i ag
  cases op<;>simp only[FK,kR] at X
  ·simp only[cl] at h;subst h;exact⟨.int k _,by simp[binOp,Op.shift,ag],.int⟩
  ·simp only[cl] at h;subst h;exact⟨.int k _,by simp[binOp,Op.shift,ag],.int⟩
theorem NU {op:BinOp}{t:TypeId}{x y:Operand}{u v:Value}(G:u ≠ .nilIface)(I:∀c,u ≠ .agg c):eqGuard op t x y u v=pure ():=by
 unfold eqGuard
 cases op<;>cases u<;>first|rfl|exact absurd rfl G|exact absurd rfl (I _)
theorem aoA {op:BinOp}{a b:List UInt8}{d:Data}(t:TypeId)(h:NO op a b=some d):
  ∃v,(binOp op t (.string ⟨a.toArray⟩) (.string ⟨b.toArray⟩)).run P w=.ok v w/\Den w aZ d v:=by
 have aoB:binOp op t (.string ⟨a.toArray⟩) (.string ⟨b.toArray⟩)=Op.stringOp op ⟨a.toArray⟩ ⟨b.toArray⟩:=by
  cases op<;>rfl
 rw[aoB]
 cases op<;>simp only[NO,cl,reduceCtorEq] at h
 case add =>
  split at h
  ·rename_i aw
   cases h;refine⟨.string ⟨(a++b).toArray⟩,?_,.str⟩;have NV:¬ (9223372036854775807<(D a:Int)+(D b:Int)):=by unfold maxLen at aw;omega
   have ay:(ByteArray.mk a.toArray).size=D a:=by simp[ByteArray.size]
   have aC:(ByteArray.mk b.toArray).size=D b:=by simp[ByteArray.size]
   have zx:(ByteArray.mk a.toArray)++(ByteArray.mk b.toArray)=⟨(a++b).toArray⟩:=by
    apply ByteArray.ext;simp
   simp[Op.stringOp,ay,aC,NV,zx]
  ·cases h
 all_goals
  subst h;exact⟨_,by simp[Op.stringOp],.bool⟩
theorem adb {op:BinOp}{m n r:R}{u v:Value}(t:TypeId)(x y:Operand)(hm:bt w aZ B m u)(aK:bt w aZ B n v)(h:Jt op m n=some r):
  ∃z,((do eqGuard op t x y u v;binOp op t u v:Sem Value)).run P w=.ok z w/\bt w aZ B r z:=by
 unfold Jt at h
 split at h
 ·rename_i k a k' b
  cases hm.yc
  cases aK.yc;rw[NU (by simp) (by simp)]
  split at h
  ·rename_i X;simp only[ea] at h;obtain⟨d,aa,rfl⟩:=h;obtain⟨z,G,I⟩:=aoz (P:=P) (w:=w) (aZ:=aZ) (k':=k') t X aa;exact⟨z,by simpa using G,.J I⟩
  ·rename_i X
   split at h
   ·rename_i O;subst O;simp only[ea] at h;obtain⟨d,aa,rfl⟩:=h;obtain⟨z,G,I⟩:=aoy (P:=P) (w:=w) (aZ:=aZ) t (by simpa using X) aa;exact⟨z,by simpa using G,.J I⟩
   ·cases h
 ·rename_i a b
  cases hm.Dr
  cases aK.Dr;rw[NU (by simp) (by simp)];simp only[ea] at h;obtain⟨d,aa,rfl⟩:=h;obtain⟨z,G,I⟩:=aoA (P:=P) (w:=w) (aZ:=aZ) t aa;exact⟨z,by simpa using G,.J I⟩
 ·cases h
theorem ade {neg:Bool}{m n r:R}{u v:Value}(t:TypeId)(x y:Operand)(bz:P.underlying t=some .bool)(hm:bt w aZ B m u)(aK:bt w aZ B n v)(h:Ju neg m n=some r):
  ∃z,((do eqGuard (if neg then .neq else .eql) t x y u v;binOp (if neg then .neq else .eql) t u v:Sem Value)).run P w=.ok z w/\bt w aZ B r z:=by
 unfold Ju at h
 split at h
 ·rename_i a b
  cases hm.Dq
  cases aK.Dq
  cases h;rw[NU (by simp) (by simp)]
  cases neg
  ·exact⟨.bool (a==b),by simp[run_eql_bool w t a b bz],by cases a<;>cases b<;>exact .J .bool⟩
  ·exact⟨.bool (!(a==b)),by simp[run_neq_bool w t a b bz],by cases a<;>cases b<;>exact .J .bool⟩
 ·cases h
theorem aoC {t:TypeId}{k:Nat}{m n:R}{c:Bool}{u v:Value}(d:Nat)(O:JT P t=some k)(hm:bt w aZ B m u)(aK:bt w aZ B n v)(h:NP k m n=some c):
  (Op.equalIn (d+1) t u v).run P w=.ok c w:=by
 unfold JT at O;unfold NP at h
 split at h
 ·simp only[cl] at h
  cases hm.Dq
  cases aK.Dq;subst h
  split at O<;>first|(exfalso;simp at O;done)|(rename_i hu;exact run_equalIn_bool w d t _ _ hu)
 ·split at h
  ·rename_i Ds;subst Ds
   cases hm.yc
   cases aK.yc
   cases h
   split at O<;>first|(exfalso;simp at O;done)|(rename_i hu;exact run_equalIn_int w d t _ _ _ _ hu)
  ·cases h
 ·simp only[cl] at h
  cases hm.Dr
  cases aK.Dr;subst h
  split at O<;>first|(exfalso;simp at O;done)|(rename_i hu;rw[run_equalIn_string w d t _ _ hu];simp)
 ·cases h
theorem aoD {t:TypeId}{k:Nat}(h:JT P t=some k):(isAgg t).run P w=.ok false w:=by
 unfold JT at h
 split at h<;>simp only[cl,reduceCtorEq] at h<;>(rename_i hu;simp[isAgg,run_underlying hu])
theorem adf {d:Nat}{xs ys:Array Value}{cs ds:List R}(Q:∀(i:Nat) (m:R) (v:Value),cs[i]?=some m->xs[i]?=some v->bt w aZ B m v)(tw:xs.size=D cs)
  (av:∀(i:Nat) (m:R) (v:Value),ds[i]?=some m->ys[i]?=some v->bt w aZ B m v) (zy:ys.size=D ds) :
  ∀(dN:List Field) (i:Nat) (g1:List Nat) (c:Bool),FU P i dN=some g1->Bi g1 (cs.drop i) (ds.drop i)=some c->(Op.eqFields (d+1) xs ys dN).run P w=.ok c w
 | [],i,g1,c,aJ,H=>by
  simp[FU] at aJ;subst aJ
  cases G:cs.drop i<;>cases I:ds.drop i<;>simp[G,I,Bi] at H;subst H;simp[Op.eqFields]
 |f::r,i,g1,c,aJ,H=>by
  simp only[FU] at aJ
  split at aJ
  ·rename_i aK;obtain⟨pf,va⟩:=aK
   split at aJ
   ·rename_i k aoE O zz
    cases aJ
    cases G:cs.drop i with
    |nil=>simp[G,Bi] at H
    |cons a x =>
     cases I:ds.drop i with
     |nil=>simp[G,I,Bi] at H
     |cons b y =>
      rw[G,I] at H;simp only[Bi] at H
      split at H
      ·rename_i aI c2 g2 vb
       cases H
       have rr:i<D cs:=by
        rcases iq i (D cs) with h|h
        ·exact h
        ·rw[jJ h] at G;cases G
       have nY:i<D ds:=by
        rcases iq i (D ds) with h|h
        ·exact h
        ·rw[jJ h] at I;cases I
       rw[ir rr] at G;rw[ir nY] at I
       injection G with aN vc
       injection I with ag aoF
       subst aN;subst ag;subst vc;subst aoF
       have ex:xs[f.offset]?=some (xs[i]'(by omega)):=by rw[va];exact Array.getElem?_eq_getElem (by omega)
       have Tp:ys[f.offset]?=some (ys[i]'(by omega)):=by rw[va];exact Array.getElem?_eq_getElem (by omega)
       have rx:=Q i _ _ (bs rr) (Array.getElem?_eq_getElem (by omega:i<xs.size));have aoG:=av i _ _ (bs nY) (Array.getElem?_eq_getElem (by omega:i<ys.size));have he:=aoC (P:=P) d O rx aoG g2;have aA:=adf (d:=d) Q tw av zy r (i+1) aoE c2 zz vb;have aoH:(isAgg f.type).run P w=.ok false w:=aoD O;simp only[Op.eqFields,pf,ne_eq,not_false_eq_true,if_true,Sem.run_bind,part,aoH,Result.andThen_ok,kR,if_false,ex,Tp,Sem.run_pure,he]
       cases aI
       ·simp
       ·simp[aA]
      ·cases H
   ·cases aJ
  ·cases aJ
theorem adg {m:R}{v:Value}(h:bt w aZ B m v)(G:m.one=true):v.oneCell'=true:=by
 cases h with
 |J aa=>cases aa<;>first|rfl|simp[R.one] at G
 |nil=>rfl
 |ref he ba aq=>obtain⟨a,cap,rfl,_⟩:=aq;rfl
 |ptr he ba aq=>obtain⟨b,rfl,_⟩:=aq;rfl
 |fz aw aa=>rfl
 |agg aw aa=>simp[R.one] at G
 |cH aw aa=>simp[R.one] at G
 |no=>simp[R.one] at G
 |undef=>simp[R.one] at G
theorem aoI {v:Value}(h:∀c,v ≠ .agg c):v.cells=#[v]:=by
 unfold Value.cells
 split
 ·rename_i cs;exact absurd rfl (h cs)
 ·rfl
theorem aoJ {m:R}{v:Value}(h:bt w aZ B m v)(hu:m ≠ .undef):v.cells.size=D m.cells/\∀(i:Nat) (c:R) (u:Value),m.cells[i]?=some c->v.cells[i]?=some u->bt w aZ B c u:=by
 have one:(∀c,v ≠ .agg c)->m.cells=[m]->v.cells.size=D m.cells/\∀(i:Nat) (c:R) (u:Value),m.cells[i]?=some c->v.cells[i]?=some u->bt w aZ B c u:=by
  intro aq hm;rw[hm,aoI aq];refine⟨rfl,λi c u H hu=>?_⟩
  cases i with
  |zero=>simp at H hu;subst H;subst hu;exact h
  |succ i=>simp at H
 cases h with
 |J aa =>
  cases aa with
  |agg aw aa =>
   refine⟨by simp[Value.cells,R.cells];exact aw,λi c u H hu=>?_⟩
   simp only[R.cells,bj,ea] at H;obtain⟨d,nn,rfl⟩:=H;exact .J (aa i d u nn (by simpa [Value.cells] using hu))
  |_=>exact one (by simp) rfl
 |nil=>exact one (by simp) rfl
 |ref he ba aq=>obtain⟨a,cap,rfl,_⟩:=aq;exact one (by simp) rfl
 |ptr he ba aq=>obtain⟨b,rfl,_⟩:=aq;exact one (by simp) rfl
 |fz aw aa=>exact one (by simp) rfl
 |agg aw aa =>
  refine⟨by simp[Value.cells,R.cells];exact aw,λi c u H hu=>aa i c u (by simpa [R.cells] using H) (by simpa [Value.cells] using hu)⟩
 |cH aw aa=>exact one (by simp) rfl
 |no=>exact one (by simp[undef]) rfl
 |undef=>exact absurd rfl hu
end
section
variable {P:Program} {w:World} {aZ:Nat->Prop} {B:e4}
def du (w:World)(aZ:Nat->Prop)(B:e4)(cs:List R)(vs:List Value):Prop :=
 (D vs)=D cs/\∀(i:Nat) (m:R) (v:Value),cs[i]?=some m->vs[i]?=some v->bt w aZ B m v
theorem du.get {cs:List R}{vs:List Value}(h:du w aZ B cs vs){i:Nat}{m:R}(M:cs[i]?=some m):∃v,vs[i]?=some v/\bt w aZ B m v:=by
 have aw:i<D cs:=(dU.1 M).1;have aq:vs[i]?=some (vs[i]'(by rw[h.1];exact aw)):=bs _;exact⟨_,aq,h.2 i m _ M aq⟩
theorem du.nil:du w aZ B [] []:=⟨rfl,λi m v h=>by simp at h⟩
theorem du.cons {m:R}{v:Value}{cs:List R}{vs:List Value}(h:bt w aZ B m v)(ab:du w aZ B cs vs):du w aZ B (m::cs) (v::vs):=by
 refine⟨by simp[ab.1],λi m' Dt G I=>?_⟩
 cases i with
 |zero=>simp at G I;subst G;subst I;exact h
 |succ i=>exact ab.2 i m' Dt (by simpa using G) (by simpa using I)
theorem du.append {a b:List R}{x y:List Value}(h:du w aZ B a x)(cx:du w aZ B b y):du w aZ B (a++b) (x++y):=by
 refine⟨by simp[h.1,cx.1],λi m v G I=>?_⟩
 rw[F6] at G I
 split at G
 ·rename_i M;rw[ad (by rw[h.1];exact M)] at I;exact h.2 i m v G I
 ·rename_i M;rw[ah (by rw[h.1];exact M),h.1] at I;exact cx.2 _ m v G I
theorem du.drop {a:List R}{x:List Value}(h:du w aZ B a x)(n:Nat):du w aZ B (a.drop n) (x.drop n) :=
 ⟨by simp[h.1],λi m v G I=>h.2 (n+i) m v (by simpa using G) (by simpa using I)⟩
theorem du.take {a:List R}{x:List Value}(h:du w aZ B a x)(n:Nat):du w aZ B (a.take n) (x.take n):=by
 refine⟨by simp[h.1],λi m v G I=>?_⟩
 rw[vd] at G I
 split at G
 ·rename_i M;rw[ad M] at I;exact h.2 i m v G I
 ·cases G
theorem du.kP {a b:List R}{x y:List Value}(h:du w aZ B a x)(cx:du w aZ B b y)(off:Nat):
  du w aZ B (kP a off b) (x.take off++y++x.drop (off+D y)):=by
 unfold Mini.kP;rw[cx.1];exact ((h.take off).append cx).append (h.drop _)
theorem du.Tq {m:R}{v:Value}(h:bt w aZ B m v)(hu:m ≠ .undef):du w aZ B m.cells v.cells.toList:=by
 obtain⟨G,I⟩:=aoJ h hu;exact⟨by simpa using G,λi c u H aq=>I i c u H (by simpa using aq)⟩
theorem du.J {ds:List Data}{vs:List Value}(aw:(D vs)=D ds)(h:∀(i:Nat) (d:Data) (v:Value),ds[i]?=some d->vs[i]?=some v->Den w aZ d v):du w aZ B (ds.map .J) vs:=by
 refine⟨by simp[aw],λi m v G I=>?_⟩
 simp only[bj,ea] at G;obtain⟨d,aa,rfl⟩:=G;exact .J (h i d v aa I)
theorem F7 {cs:List R}{off n:Nat}{r:List R}(h:cut cs off n=some r):off+n<=D cs/\r=(cs.drop off).take n/\D r=n:=by
 unfold cut at h
 split at h
 ·rename_i aw
  cases h;exact⟨aw,rfl,by simp;omega⟩
 ·cases h
def eG (w:World)(b off:Nat)(vs:List Value):Prop:=∀(j:Nat) (u:Value),vs[j]?=some u->w.cell? ⟨b,off+j,none⟩=some u
theorem eG.add {w:World}{b off:Nat}{vs:List Value}(h:eG w b off vs)(n:Nat):eG w b (off+n) (vs.drop n):=λj u aj=>by
 have:=h (n+j) u (by simpa using aj);rwa [<-qu] at this
theorem eG.take {w:World}{b off:Nat}{vs:List Value}(h:eG w b off vs)(n:Nat):eG w b off (vs.take n):=λj u aj=>by
 rw[vd] at aj
 split at aj
 ·exact h j u aj
 ·cases aj
theorem eG.row {w:World}{b:Nat}{vs:Array Value}{T:TypeId}{aG:Nat×Nat}(h:w.heap[b]?=some (.cells vs T aG)):eG w b 0 vs.toList:=λj u aj=>by
 rw[kv,cell_of_row w b j vs T aG h]
 simpa using aj
theorem zA (b off n:Nat):(⟨b,off,none⟩:Addr).add n=⟨b,off+n,none⟩:=by
 unfold Addr.add
 split<;>simp_all
theorem eG.load {b off:Nat}{vs:List Value}(h:eG w b off vs):(loadCells ⟨b,off,none⟩ (D vs)).run P w=.ok vs.toArray w :=
 run_loadCells_list w _ vs λj v aj=>by rw[zA];exact h j v aj
theorem ve {t:TypeId}{n:Nat}(h:gq P t=some n):(sizeOf t).run P w=.ok n w:=by
 simp only[gq,ea] at h;obtain⟨i,M,rfl⟩:=h;simp[sizeOf,typeInfo,M]
theorem NW {t:TypeId}{g:Bool}(h:zt P t=some g):(isAgg t).run P w=.ok g w:=by
 simp only[zt,ea] at h;obtain⟨d,aa,rfl⟩:=h;simp only[isAgg,Sem.run_bind,run_underlying aa,Result.andThen_ok]
 cases d<;>rfl
theorem adh {t:TypeId}{n:Nat}{dV:Bool}{b off:Nat}{ms:List R}{vs:List Value}{r:R}(X:gq P t=some n)(aN:zt P t=some dV)(aw:(D ms)=n)
  (bW:du w aZ B ms vs) (cn:eG w b off vs) (h:rl dV ms=some r):∃u,(loadVar t ⟨b,off,none⟩).run P w=.ok u w/\bt w aZ B r u:=by
 unfold rl at h
 split at h
 ·rename_i zB
  cases h;subst zB;refine⟨.agg vs.toArray,?_,.agg bW.1 bW.2⟩;have:=cn.load (P:=P);rw[bW.1,aw] at this;simp[loadVar,NW aN,ve X,this]
 ·rename_i zB
  split at h
  ·cases h;obtain⟨u,hu,ab⟩:=bW.get (i:=0) (m:=r) rfl;have:=cn 0 u hu;have Tr:dV=false:=by simpa using zB
   subst Tr;exact⟨u,by simp[loadVar,NW aN,this];simpa using by rw[show off=off+0 from rfl,this],ab⟩
  ·cases h
end
section
variable {P:Program} {A:Nat->Prop} {w:World} {B:e4} {mem:Mem}
theorem fs.at_ (h:fs A w B mem){k:Key}{g:Nat}{cs:List R}(O:mem k=some (g,cs)):
  ∃e,B k=some e/\e.g=g/\(e.dA=none->cs=[])/\∀b,e.dA=some b->∃(vs:Array Value) (T:TypeId),w.heap[b]?=some (.cells vs T (0,0))/\vs.size=e.size/\D cs<=vs.size /\
   du w (cd A B) B cs (vs.toList.take (D cs)):=by
 obtain⟨e,he,ba,aK,ag⟩:=h.dA k g cs O;refine⟨e,he,ba,aK,λb jI=>?_⟩;obtain⟨vs,T,G,I,af,aS⟩:=ag b jI;refine⟨vs,T,G,I,af,by simp;omega,λi m v hm aq=>?_⟩
 obtain⟨u,hu,ab⟩:=aS i m hm;rw[vd] at aq
 split at aq
 ·rw[Array.getElem?_toList,hu] at aq
  cases aq;exact ab
 ·cases aq
theorem adi {n:Nat}{dV:Bool}{m r:R}{v:Value}(b1:fs A w B mem)(aq:bt w (cd A B) B m v)(h:qo mem n dV m=some r):
  ∃b off ms vs,v=.pointer (some ⟨b,off,none⟩)/\D ms=n/\du w (cd A B) B ms vs/\eG w b off vs/\rl dV ms=some r:=by
 unfold qo at h
 split at h
 ·rename_i k g off
  split at h
  ·rename_i c7 cs O
   split at h
   ·rename_i ba;subst ba;simp only[ek] at h;obtain⟨ms,aO,ab⟩:=h;obtain⟨aw,rfl,aK⟩:=F7 aO;obtain⟨e,he,b4,Du,ag⟩:=b1.at_ O
    cases aq with
    |ptr gC JV ln =>
     rw[he] at gC
     cases gC;obtain⟨b,rfl,jI⟩:=ln;have jI:=jI b4.symm;obtain⟨vs,T,aT,aW,hle,bW⟩:=ag b jI;refine⟨b,off,_,((vs.toList.take (D cs)).drop off).take n,rfl,aK,(bW.drop off).take n,?_,ab⟩;have:=(((eG.row aT).take (D cs)).add off).take n
     simpa using this
   ·cases h
  ·cases h
 ·rename_i ds;simp only[ek] at h;obtain⟨ms,aO,ab⟩:=h;obtain⟨aw,rfl,aK⟩:=F7 aO
  cases aq with
  |J aa =>
   cases aa with
   | @ptr cs b off val ag fF H aa =>
    refine⟨b,off,_,((dF (D ds)).map val).take n,rfl,aK,?_,?_,ab⟩
    ·have:du w (cd A B) B (ds.map .J) ((dF (D ds)).map val):=du.J (by simp) λi d v G I=>by
      have M:i<D ds:=(dU.1 G).1;simp[M] at I;subst I;exact aa i d G
     simpa using this.take n
    ·refine eG.take (λj u aj=>?_) n;simp only[bj,ea] at aj;obtain⟨lS,np,rfl⟩:=aj
     have G:lS=j/\j<D ds:=by
      rcases iq j (D ds) with h|h
      ·rw[tx h] at np;exact⟨by simpa using np.symm,h⟩
      ·rw[mr (by simpa using h)] at np
       cases np
     obtain⟨rfl,jf⟩:=G;exact H lS jf
 ·cases h
theorem aoK {t:TypeId}{n:Nat}{dV:Bool}{m r:R}{v:Value}(X:gq P t=some n)(aN:zt P t=some dV)(b1:fs A w B mem)(aq:bt w (cd A B) B m v)(h:qo mem n dV m=some r):
  ∃u,(Instr.loadAt t v).run P w=.ok u w/\bt w (cd A B) B r u:=by
 obtain⟨b,off,ms,vs,rfl,aw,bW,cn,ab⟩:=adi b1 aq h;obtain⟨u,G,I⟩:=adh (P:=P) X aN aw bW cn ab;exact⟨u,by simpa [Instr.loadAt,Instr.sureAddr] using G,I⟩
end
section
variable {P:Program} {w:World} {aZ:Nat->Prop} {B:e4}
theorem adj {m:R}{cs:List R}{v:Value}(h:Jx m=some cs)(aq:bt w aZ B m v):∃vs:List Value,v=.agg vs.toArray/\du w aZ B cs vs:=by
 unfold Jx at h
 split at h
 ·cases h
  cases aq with
  |agg aw aa=>exact⟨_,rfl,aw,aa⟩
 ·cases h
  cases aq with
  |J aa =>
   cases aa with
   |agg aw aa=>exact⟨_,rfl,du.J aw aa⟩
 ·cases h
theorem adk {neg:Bool}{g1:List Nat}{m n r:R}{u v:Value}(t:TypeId)(x y:Operand)(dN:Array Field)(hu:P.underlying t=some (.struct dN))(X:P.stoodInHeld t=false)
  (ba:P.eqGuardType P.depth t=false) (O:FU P 0 dN.toList=some g1) (hm:bt w aZ B m u) (aK:bt w aZ B n v) (h:Jy neg g1 m n=some r) :
  ∃z,((do eqGuard (if neg then .neq else .eql) t x y u v;binOp (if neg then .neq else .eql) t u v:Sem Value)).run P w=.ok z w/\bt w aZ B r z:=by
 unfold Jy at h
 split at h
 ·rename_i cs ds kd g9
  split at h
  ·rename_i c H
   cases h;obtain⟨xs,rfl,Q⟩:=adj kd hm;obtain⟨ys,rfl,av⟩:=adj g9 aK;have vf:P.fieldsOf t=dN:=by simp[Program.fieldsOf,hu]
   have he:=run_equalIn_struct (P:=P) w 9999 t xs.toArray ys.toArray (by rw[vf];exact hu) X;rw[vf] at he
   have aJ:=adf (P:=P) (w:=w) (aZ:=aZ) (B:=B) (d:=9998) (xs:=xs.toArray) (ys:=ys.toArray) (cs:=cs) (ds:=ds)
    (λi m v G I=>Q.2 i m v G (by simpa using I)) (by simpa using Q.1) (λi m v G I=>av.2 i m v G (by simpa using I)) (by simpa using av.1) dN.toList 0 g1 c O (by simpa using H)
   have heq:(Op.equal t (.agg xs.toArray) (.agg ys.toArray)).run P w=.ok c w:=by
    show (Op.equalIn (9999+1) t _ _).run P w=_;rw[he];exact aJ
   have wF:∀op,(op=BinOp.eql\/op=.neq)->(eqGuard op t x y (.agg xs.toArray) (.agg ys.toArray)).run P w=.ok () w:=by
    intro op m0;rcases m0 with rfl|rfl<;>simp[eqGuard,ba]
   refine⟨.bool (neg != c),?_,.J .bool⟩
   cases neg
   ·simp only[kR,if_false,Sem.run_bind,wF _ (.inl rfl),Result.andThen_ok];show (do pure (Value.bool (<-Op.equal t (.agg xs.toArray) (.agg ys.toArray))):Sem Value).run P w=_
    simp[heq]
   ·simp only[if_true,Sem.run_bind,wF _ (.inr rfl),Result.andThen_ok];show (do pure (Value.bool (!(<-Op.equal t (.agg xs.toArray) (.agg ys.toArray)))):Sem Value).run P w=_
    simp[heq]
  ·cases h
 ·cases h
theorem aoL {c a b r:R}{adl vg ss:Value}(H:bt w aZ B c adl)(aN:bt w aZ B a vg)(ag:bt w aZ B b ss)(h:FL c a b=some r):
  ∃z,(do pure (if <-asBool adl then vg else ss):Sem Value).run P w=.ok z w/\bt w aZ B r z:=by
 unfold FL at h
 split at h
 ·rename_i t
  cases H.Dq
  cases t
  ·cases h;exact⟨ss,by simp[asBool],ag⟩
  ·cases h;exact⟨vg,by simp[asBool],aN⟩
 ·cases h
theorem aoM {op:UnOp}{m r:R}{v:Value}(hm:bt w aZ B m v)(h:Jv op m=some r):∃z,(Op.unary op v).run P w=.ok z w/\bt w aZ B r z:=by
 unfold Jv at h
 split at h
 ·cases h;cases hm.yc;exact⟨_,by simp[Op.unary,Op.intArith],.J .int⟩
 ·cases h;cases hm.yc;exact⟨_,by simp[Op.unary,go_sem],.J .int⟩
 ·cases h;cases hm.Dq;exact⟨_,by simp[Op.unary],.J .bool⟩
 ·cases h
theorem aoN {k:IntKind}{m r:R}{v:Value}(s t:TypeId)(g1:IntKind)(X:P.underlying s=some (.int g1))(bz:P.underlying t=some (.int k))(hm:bt w aZ B m v)(h:Jz k m=some r):
  ∃z,(convert s t v).run P w=.ok z w/\bt w aZ B r z:=by
 unfold Jz at h
 split at h
 ·cases h
  cases hm.yc;have M:P.intKind t=k:=by simp[Program.intKind,bz]
  have:=run_convert_int (P:=P) w s t;exact⟨.int k _,by simp[convert,run_underlying X,run_underlying bz,Conv.intToInt],.J .int⟩
 ·cases h
theorem aoO {off:Nat}{m r:R}{v:Value}(t:TypeId)(f:Nat)(dN:Array Field)(fd:Field)(s:Nat)(hu:P.underlying t=some (.struct dN))(aJ:dN[f]?=some fd)(X:gq P fd.type=some s)(ar:0<s)
  (bO:fd.offset=off) (hm:bt w aZ B m v) (h:JB off m=some r):∃z,(Instr.fieldAt t v f).run P w=.ok z w/\bt w aZ B r z:=by
 have bG:¬ s=0:=by omega
 have run:∀b o,(Instr.fieldAt t (.pointer (some ⟨b,o,none⟩)) f).run P w=.ok (.pointer (some ⟨b,o+off,none⟩)) w:=by
  intro b o;simp[Instr.fieldAt,run_underlying hu,aJ,Instr.sureAddr,fieldPlace,ve X,bG,zA,bO]
 unfold JB at h
 split at h
 ·cases h;rename_i k g o
  cases hm with
  |ptr he ba aq =>
   obtain⟨b,rfl,ag⟩:=aq;exact⟨_,run b o,.ptr he ba ⟨b,rfl,ag⟩⟩
 ·rename_i ds
  split at h
  ·rename_i aw
   cases h
   cases hm with
   |J aa =>
    cases aa with
    | @ptr cs b o val ag fF H aa =>
     refine⟨_,run b o,.J (.ptr (λi=>val (off+i)) ag fF (λi M=>?_) λi d kS=>aa _ d (by simpa using kS))⟩;have:=H (off+i) (by simp at M;omega);rwa [<-qu] at this
  ·cases h
 ·cases h
theorem aoP {t:TypeId}{n off:Nat}{dV:Bool}{cs ms:List R}{vs:List Value}{r:R}(X:gq P t=some n)(aN:zt P t=some dV)(bW:du w aZ B cs vs)(H:cut cs off n=some ms)(h:rl dV ms=some r):
  ∃u,(part t vs.toArray off).run P w=.ok u w/\bt w aZ B r u:=by
 obtain⟨aw,rfl,aK⟩:=F7 H;have bB:=(bW.drop off).take n;unfold rl at h
 split at h
 ·rename_i zB
  cases h;subst zB;refine⟨.agg ((vs.drop off).take n).toArray,?_,.agg bB.1 bB.2⟩
  have e:vs.toArray.extract off (off+n)=((vs.drop off).take n).toArray:=by
   simp[List.extract_eq_take_drop]
  simp[part,NW aN,ve X,e]
 ·rename_i zB;have Tr:dV=false:=by simpa using zB
  subst Tr
  split at h
  ·rename_i m aO
   cases h
   have M:cs[off]?=some r:=by
    have:=congrArg (λl=>l[0]?) aO;simp[vd] at this;exact this.2
   obtain⟨u,hu,aoQ⟩:=bW.get M;exact⟨u,by simp[part,NW aN,hu],aoQ⟩
  ·cases h
theorem aoR {off n:Nat}{dV:Bool}{m r:R}{v:Value}(t:TypeId)(f:Nat)(dN:Array Field)(fd:Field)(hu:P.underlying t=some (.struct dN))(aJ:dN[f]?=some fd)(X:gq P fd.type=some n)
  (aN:zt P fd.type=some dV) (bO:fd.offset=off) (hm:bt w aZ B m v) (h:JC off n dV m=some r):∃z,(Instr.field t v f).run P w=.ok z w/\bt w aZ B r z:=by
 subst bO
 have go:∀(cs:List R) (vs:List Value),du w aZ B cs vs->(cut cs fd.offset n).bind (rl dV)=some r->∃z,(Instr.field t (.agg vs.toArray) f).run P w=.ok z w/\bt w aZ B r z:=by
  intro cs vs bW aT;simp only[ek] at aT;obtain⟨ms,G,I⟩:=aT;obtain⟨u,af,aS⟩:=aoP (P:=P) X aN bW G I;exact⟨u,by simp[Instr.field,run_underlying hu,aJ,asAgg,af],aS⟩
 unfold JC at h
 split at h
 ·cases hm with
  |agg aw aa=>exact go _ _ ⟨aw,aa⟩ h
 ·cases hm with
  |J aa =>
   cases aa with
   |agg aw aa=>exact go _ _ (du.J aw aa) h
 ·cases h
theorem F8 {m:R}{n:Nat}{v:Value}(h:idx m=some n)(aq:bt w aZ B m v):∃k,v=.int k (n:Int):=by
 unfold idx at h
 split at h
 ·rename_i k i
  split at h
  ·rename_i ar
   cases h
   cases aq.yc;exact⟨k,by rw[Int.toNat_of_nonneg ar]⟩
  ·cases h
 ·cases h
theorem FJ.at_ {e:mm}{g sz off len:Nat}{v:Value}(h:FJ e g sz off len v)(ar:0<len):∃b cap,v=.slice (some ⟨b,off,none⟩) len cap/\len<=cap/\cap<=maxLen/\(g=e.g->e.dA=some b/\off+cap*sz<=e.size):=by
 obtain⟨a,cap,rfl,I,af,aS⟩:=h;rcases aS with aS|⟨b,rfl,bm⟩
 ·omega
 ·exact⟨b,cap,rfl,I,af,bm⟩
theorem aoS {es:List (List Data)}{sz:Nat}(ew:∀e∈es,D e=sz):∀(n i:Nat) (e:List Data),es[n]?=some e->i<sz->es.flatten[n*sz+i]?=e[i]?:=by
 induction es with
 |nil=>intro n i e h;simp at h
 |cons a r aA =>
  intro n i e h M;have aN:=ew a (by simp)
  cases n with
  |zero =>
   simp at h;subst h;rw[jD,qv (by omega)];simp
  |succ n =>
   rw[jD,ru (by rw[aN,tz];omega)];have:=aA (λx Q=>ew x (by simp[Q])) n i e (by simpa using h) M;rw[<-this,aN]
   congr 1
   rw[tz];omega
theorem aoT {sz n:Nat}{m r:R}{v:Value}{k:IntKind}(t e:TypeId)(hu:P.underlying t=some (.slice e))(X:gq P e=some sz)(hm:bt w aZ B m v)(h:zr sz n m=some r):
  ∃z,(Instr.indexAt t v (.int k (n:Int))).run P w=.ok z w/\bt w aZ B r z:=by
 have run:∀b off len cap,n<len->(Instr.indexAt t (.slice (some ⟨b,off,none⟩) len cap) (.int k (n:Int))).run P w=.ok (.pointer (some ⟨b,off+n*sz,none⟩)) w:=by
  intro b off len cap az;simp[Instr.indexAt,run_underlying hu,asIntOf,az,ve X,zA]
 unfold zr at h
 split at h
 ·split at h
  ·rename_i aw;obtain⟨az,rfl⟩:=aw
   cases h
   cases hm with
   |ref he ba aq =>
    obtain⟨b,cap,rfl,G,I,af⟩:=aq.at_ (by omega);exact⟨_,run _ _ _ _ az,.ptr he ba ⟨b,rfl,λh=>(af h).1⟩⟩
  ·cases h
 ·rename_i es
  split at h
  ·rename_i el kT
   split at h
   ·rename_i hle
    cases h
    cases hm with
    |J aa =>
     have az:n<D es:=(dU.1 kT).1
     cases aa with
     |lR=>simp at az
     | @Y es b off c er val aw NX ag fF ew H aa =>
      have JW:er=sz:=by rw[<-hle];exact (ew _ (ee kT)).symm
      subst JW
      have hmul:n*er+er<=D es*er:=by
       have:(n+1)*er<=D es*er:=vh _ az;rwa [qm,x2] at this
      refine⟨_,run _ _ _ _ az,.J (.ptr (λi=>val (n*er+i)) ag fF (λi M=>?_) λi d kS=>?_)⟩
      ·have:=H (n*er+i) (by omega);rwa [<-qu] at this
      ·refine aa _ d ?_;rw[aoS ew n i el kT (by have:=(dU.1 kS).1;omega)];exact kS
   ·cases h
  ·cases h
 ·cases h
theorem aoU {len sz n:Nat}{m r:R}{v:Value}{k:IntKind}(t e:TypeId)(hu:P.underlying t=some (.array len e))(X:gq P e=some sz)(hm:bt w aZ B m v)(h:JD len sz n m=some r):
  ∃z,(Instr.indexAt t v (.int k (n:Int))).run P w=.ok z w/\bt w aZ B r z:=by
 have run:∀b off,n<len->(Instr.indexAt t (.pointer (some ⟨b,off,none⟩)) (.int k (n:Int))).run P w=.ok (.pointer (some ⟨b,off+n*sz,none⟩)) w:=by
  intro b off az;simp[Instr.indexAt,run_underlying hu,asIntOf,Instr.sureAddr,az,ve X,zA]
 unfold JD at h
 split at h
 ·split at h
  ·rename_i az
   cases h
   cases hm with
   |ptr he ba aq =>
    obtain⟨b,rfl,ag⟩:=aq;exact⟨_,run _ _ az,.ptr he ba ⟨b,rfl,ag⟩⟩
  ·cases h
 ·rename_i ds
  split at h
  ·rename_i aw;obtain⟨az,hle⟩:=aw
   cases h
   cases hm with
   |J aa =>
    cases aa with
    | @ptr cs b o val ag fF H aa =>
     refine⟨_,run _ _ az,.J (.ptr (λi=>val (n*sz+i)) ag fF (λi M=>?_) λi d kS=>aa _ d (by simpa using kS))⟩;have:=H (n*sz+i) (by simp at M;omega);rwa [<-qu] at this
  ·cases h
 ·cases h
theorem aoV {n:Nat}{m r:R}{v:Value}{k:IntKind}(t:TypeId)(hu:P.underlying t=some .string)(hm:bt w aZ B m v)(h:JE n m=some r):
  ∃z,(Instr.index t v (.int k (n:Int))).run P w=.ok z w/\bt w aZ B r z:=by
 unfold JE at h
 split at h
 ·rename_i s;simp only[ea] at h;obtain⟨b,ag,rfl⟩:=h
  cases hm.Dr;have az:n<D s:=(dU.1 ag).1
  have e:(ByteArray.mk s.toArray)[n]?=some b:=by
   rw[ByteArray.getElem?_lt' _ _ (by simpa [ByteArray.size] using az)];have:=(dU.1 ag).2;simp only[cl];rw[<-this]
   rfl
  exact⟨.int .u8 b.toNat,by simp[Instr.index,run_underlying hu,asIntOf,e],.J .int⟩
 ·cases h
theorem aoW {i:Nat}{m r:R}{v:Value}(hm:bt w aZ B m v)(h:JI i m=some r):∃z,(Instr.extract v i).run P w=.ok z w/\bt w aZ B r z:=by
 unfold JI at h
 split at h
 ·cases hm with
  |cH aw aa =>
   obtain⟨u,hu,ab⟩:=du.get ⟨aw,aa⟩ h;exact⟨u,by simp[Instr.extract,hu],ab⟩
 ·simp only[ea] at h;obtain⟨d,nn,rfl⟩:=h
  cases hm with
  |J aa =>
   cases aa with
   |cH aw aa =>
    obtain⟨u,hu,ab⟩:=du.get (du.J aw aa) (i:=i) (m:=.J d) (by simp[nn]);exact⟨u,by simp[Instr.extract,hu],ab⟩
 ·cases h
theorem aoX {m:R}{n:Nat}{v:Value}(t ty e:TypeId)(bz:P.underlying t=some (.slice e))(hm:bt w aZ B m v)(h:qn m=some n):
  (Builtin.len_ #[t] ty #[v]).run P w=.ok (.int .i64 n) w:=by
 have run:∀a c,(Builtin.len_ #[t] ty #[.slice a n c]).run P w=.ok (.int .i64 n) w:=λa c=>by
  simp[Builtin.len_,run_underlying bz,goInt]
 unfold qn at h
 split at h<;>cases h
 ·cases hm with
  |J aa =>
   cases aa with
   |lR=>exact run _ _
   |Y=>exact run _ _
 ·cases hm with
  |nil=>exact run _ _
 ·cases hm with
  |ref he ba aq=>obtain⟨a,cap,rfl,_⟩:=aq;exact run _ _
theorem aoY {m:R}{n:Nat}{v:Value}(t ty:TypeId)(bz:P.underlying t=some .string)(hm:bt w aZ B m v)(h:zq m=some n):
  (Builtin.len_ #[t] ty #[v]).run P w=.ok (.int .i64 n) w:=by
 unfold zq at h
 split at h<;>cases h
 rename_i s
 cases hm.Dr;have e:(ByteArray.mk s.toArray).size=D s:=by simp[ByteArray.size]
 simp[Builtin.len_,run_underlying bz,goInt,e]
theorem adm {j9:Bool}{m n r:R}{u v:Value}(tA:Array TypeId)(t:TypeId)(hm:bt w aZ B m u)(aK:bt w aZ B n v)(h:JJ j9 m n=some r):
  ∃z,(if j9=true then Builtin.max_ tA t #[u,v] else Builtin.min_ tA t #[u,v]).run P w=.ok z w/\bt w aZ B r z:=by
 unfold JJ at h
 split at h
 ·split at h
  ·rename_i O;subst O
   cases h
   cases hm.yc
   cases aK.yc
   cases j9
   ·exact⟨_,by simp[run_min_int2],.J .int⟩
   ·exact⟨_,by simp[run_max_int2],.J .int⟩
  ·cases h
 ·cases h
theorem aoZ {m r:R}{v:Value}(hm:bt w aZ B m v)(h:JA m=some r):(∃b off,v=.pointer (some ⟨b,off,none⟩))/\bt w aZ B r v:=by
 unfold JA at h
 split at h
 ·cases h;refine⟨?_,hm⟩
  cases hm with
  |ptr he ba aq=>obtain⟨b,rfl,_⟩:=aq;exact⟨_,_,rfl⟩
 ·cases h;refine⟨?_,hm⟩
  cases hm with
  |J aa=>cases aa;exact⟨_,_,rfl⟩
 ·cases h
theorem F9 {x:R}{n y:Nat}{v:Value}(code:BoundsCode)(Q:idx x=some n)(aq:bt w aZ B x v)(aK:n<=y):(Instr.sliceBound v y code).run P w=.ok n w:=by
 obtain⟨k,rfl⟩:=F8 Q aq
 simpa using run_sliceBound (P:=P) w k (n:Int) y code (by omega) (by omega)
def rv (w:World)(aZ:Nat->Prop)(B:e4):Option R->Option Value->Prop
 |none,none=>True
 |some m,some v=>bt w aZ B m v
 |_,_=>False
theorem Ts {len cap l h:Nat}{cB M:Option R}{kU kV:Option Value}(Tt:Bool)(fQ:jF 0 cB=some l)(jg:jF len M=some h)
  (m1:rv w aZ B cB kU) (lT:rv w aZ B M kV) (aw:l<=h) (aT:h<=cap):(Instr.sliceBounds Tt len cap kU kV none).run P w=.ok (l,h,cap) w:=by
 unfold Instr.sliceBounds
 cases cB with
 |none =>
  cases kU with
  |some v=>exact m1.elim
  |none =>
   simp[jF] at fQ;subst fQ
   cases M with
   |none =>
    cases kV with
    |some v=>exact lT.elim
    |none=>simp[jF] at jg;subst jg;simp
   |some m =>
    cases kV with
    |none=>exact lT.elim
    |some v =>
     have aC:=λcode=>F9 (P:=P) (y:=cap) code jg lT aT
     cases Tt<;>simp[aC]
 |some Dv =>
  cases kU with
  |none=>exact m1.elim
  |some bd =>
   have ay:=λcode=>F9 (P:=P) (y:=h) code fQ m1 aw
   cases M with
   |none =>
    cases kV with
    |some v=>exact lT.elim
    |none=>simp[jF] at jg;subst jg;simp[ay]
   |some m =>
    cases kV with
    |none=>exact lT.elim
    |some v =>
     have aC:=λcode=>F9 (P:=P) (y:=cap) code jg lT aT
     cases Tt<;>simp[ay,aC]
theorem ao0 {len cap l h m:Nat}{cB:Option R}{M j9:R}{kU:Option Value}{kV zC:Value}(fQ:jF 0 cB=some l)(jg:idx M=some h)(h6:idx j9=some m)
  (m1:rv w aZ B cB kU) (lT:bt w aZ B M kV) (Ga:bt w aZ B j9 zC) (aw:l<=h) (aT:h<=m) (hm:m<=cap):(Instr.sliceBounds true len cap kU (some kV) (some zC)).run P w=.ok (l,h,m) w:=by
 have bl:=F9 (P:=P) (y:=cap) .slice3Acap h6 Ga hm;have aC:=F9 (P:=P) (y:=m) .slice3B jg lT aT;unfold Instr.sliceBounds
 cases cB with
 |none =>
  cases kU with
  |some v=>exact m1.elim
  |none =>
   simp[jF] at fQ;subst fQ;simp[bl,aC]
 |some Dv =>
  cases kU with
  |none=>exact m1.elim
  |some bd =>
   have ay:=F9 (P:=P) (y:=h) .slice3C fQ m1 aw;simp[bl,aC,ay]
theorem NY {m:R}{n:Nat}{v:Value}(hm:bt w aZ B m v)(h:qn m=some n):∃a c,v=.slice a n c/\n<=c:=by
 unfold qn at h
 split at h<;>cases h
 ·cases hm with
  |J aa =>
   cases aa with
   |lR=>exact⟨_,_,rfl,by simp⟩
   |Y val aw=>exact⟨_,_,rfl,aw⟩
 ·cases hm with
  |nil=>exact⟨_,_,rfl,by simp⟩
 ·cases hm with
  |ref he ba aq=>obtain⟨a,cap,rfl,G,_⟩:=aq;exact⟨_,_,rfl,G⟩
theorem adn {t e:TypeId}{sz l h il:Nat}{a:Option Addr}{len cap:Nat}{kU kV zC:Option Value}(bz:P.underlying t=some (.slice e))(X:gq P e=some sz)
  (ag:(Instr.sliceBounds true len cap kU kV zC).run P w=.ok (l,h,il) w) :
  (Instr.sliceAt t (.slice a len cap) kU kV zC).run P w=.ok (.slice (if il=l then a else a.map (·.add (l*sz))) (h-l) (il-l)) w:=by
 simp[Instr.sliceAt,Instr.slice,run_underlying bz,ag,ve X]
theorem ao1 {es:List (List Data)}{sz:Nat}(ew:∀e∈es,D e=sz)(l:Nat):(es.drop l).flatten=es.flatten.drop (l*sz):=by
 induction es generalizing l with
 |nil=>simp
 |cons a r aA =>
  cases l with
  |zero=>simp
  |succ l =>
   have aN:=ew a (by simp);rw[List.drop_succ_cons,aA (λx Q=>ew x (by simp[Q])) l,jD,List.drop_append,aN];have G:a.drop ((l+1)*sz)=[]:=jJ (by rw[aN,tz];omega);rw[G,List.nil_append]
   congr 1
   rw[tz];omega
theorem ao2 {es:List (List Data)}{sz:Nat}(ew:∀e∈es,D e=sz)(l:Nat):(es.take l).flatten=es.flatten.take (l*sz):=by
 induction es generalizing l with
 |nil=>simp
 |cons a r aA =>
  cases l with
  |zero=>simp
  |succ l =>
   have aN:=ew a (by simp);rw[List.take_succ_cons,jD,aA (λx Q=>ew x (by simp[Q])) l,jD,Dw,aN];have G:a.take ((l+1)*sz)=a:=dr (by rw[aN,tz];omega);rw[G]
   congr 2
   rw[tz];omega
theorem ado {es:List (List Data)}{a:Option Addr}{len c sz l h cc:Nat}(aa:Den w aZ (.Y es) (.slice a len c))(aw:l<=h)(aT:h<=D es)(ew:0<(D es)->∀e∈es,D e=sz)(H:h-l<=cc):
  l=h\/Den w aZ (.Y ((es.take h).drop l)) (.slice (a.map (·.add (l*sz))) (h-l) cc):=by
 rcases NZ aw with rfl|az
 ·exact .inl rfl
 ·refine .inr ?_
  cases aa with
  |lR=>simp at aT;omega
  | @Y es b off c er val NV hm ag fF hsz' pg yd =>
   have h7:0<D es:=by omega
   have JW:er=sz:=by
    have ar:=m2 (l:=es) (n:=0) h7;rw[<-hsz' _ ar,ew h7 _ ar]
   subst JW;have hlen:((es.take h).drop l).length=h-l:=by simp;omega
   have hmul:l*er+(h-l)*er<=D es*er:=by
    rw[<-qm];exact vh _ (by omega)
   have:=Den.Y (w:=w) (aZ:=aZ) (es:=(es.take h).drop l) (b:=b) (off:=off+l*er) (c:=cc) (sz:=er) (λi=>val (l*er+i)) (by rw[hlen];exact H) (by rw[hlen];omega) ag fF
    (λe he=>hsz' e (Gb (List.mem_of_mem_drop he)))
    (λi M=>by
     rw[hlen] at M;have:=pg (l*er+i) (by omega);rwa [<-qu] at this)
    (λi d kS=>by
     refine yd _ d ?_;rw[ao1 (λe he=>hsz' e (Gb he)) l,ao2 hsz' h] at kS;rw[lo,vd] at kS
     split at kS
     ·exact kS
     ·cases kS)
   rw[hlen] at this
   simpa [zA] using this
end
section
variable {P:Program} {w:World} {aZ:Nat->Prop} {B:e4}
theorem Tu {sz:Nat}{es:List (List Data)}(h:nW sz es=true):∀e∈es,D e=sz:=λe he=>by
 simpa using lU.1 h e he
theorem ao3 {t e:TypeId}{sz l h len:Nat}{m r:R}{v:Value}{kU kV:Option Value}{cB M:Option R}(bz:P.underlying t=some (.slice e))(X:gq P e=some sz)
  (fQ:jF 0 cB=some l) (hlen:qn m=some len) (jg:jF len M=some h) (m1:rv w aZ B cB kU) (lT:rv w aZ B M kV) (hm:bt w aZ B m v) (ab:JF sz l h m=some r) :
  ∃z,(Instr.sliceAt t v kU kV none).run P w=.ok z w/\bt w aZ B r z:=by
 obtain⟨a,cap,rfl,Gc⟩:=NY hm hlen
 have run:l<=h->h<=len->(Instr.sliceAt t (.slice a len cap) kU kV none).run P w=.ok (.slice (if cap=l then a else a.map (·.add (l*sz))) (h-l) (cap-l)) w:=λG I =>
  adn bz X (Ts true fQ jg m1 lT G (by omega))
 unfold JF at ab
 split at ab
 ·rename_i es
  split at ab
  ·rename_i H;obtain⟨G,I,af⟩:=H
   cases ab;simp only[qn,cl] at hlen;subst hlen;refine⟨_,run G I,.J ?_⟩
   cases hm with
   |J aa =>
    rcases ado (sz:=sz) aa G I (λ_=>Tu af) (cc:=cap-l) (by omega) with rfl|aE
    ·rw[show ((es.take l).drop l)=[] from by simp]
     rw[mu];exact .lR
    ·rcases NZ G with rfl|az
     ·rw[show ((es.take l).drop l)=[] from by simp]
      rw[mu];exact .lR
     ·rw[ah (by omega)];exact aE
  ·cases ab
 ·split at ab
  ·rename_i H;obtain⟨rfl,rfl⟩:=H
   cases ab
   cases hm with
   |nil=>exact⟨_,run (by omega) (by omega),by simpa using bt.nil⟩
  ·cases ab
 ·split at ab
  ·rename_i k g er off Tv H;obtain⟨rfl,G,I⟩:=H
   cases ab;simp only[qn,cl] at hlen;subst hlen
   cases hm with
   |ref he ba aq =>
    refine⟨_,run G I,.ref he ba ?_⟩;obtain⟨jK,aHq,oL,oM,aHr,ao4⟩:=aq
    injection oL with ay aC cg
    subst ay;subst cg
    refine⟨_,cap-l,rfl,by omega,by omega,?_⟩
    rcases kW (cap-l) with ar|ar
    ·exact .inl ar
    ·refine .inr ?_;rcases ao4 with aS|⟨b,rfl,bm⟩
     ·omega
     ·refine⟨b,by rw[ah (by omega)];simp[zA],λb4=>?_⟩
      obtain⟨bV,bQ⟩:=bm b4;refine⟨bV,?_⟩;rw[qu,<-qm];rwa [show l+(cap-l)=cap from by omega]
  ·cases ab
 ·cases ab
theorem ao5 {t e:TypeId}{sz l h il:Nat}{m r:R}{v:Value}{kU:Option Value}{kV zC:Value}{cB:Option R}{M j9:R}(bz:P.underlying t=some (.slice e))(X:gq P e=some sz)
  (fQ:jF 0 cB=some l) (jg:idx M=some h) (h6:idx j9=some il) (m1:rv w aZ B cB kU) (lT:bt w aZ B M kV) (Ga:bt w aZ B j9 zC) (hm:bt w aZ B m v) (ab:JG sz l h il m=some r) :
  ∃z,(Instr.sliceAt t v kU (some kV) (some zC)).run P w=.ok z w/\bt w aZ B r z:=by
 have run:∀a len cap,l<=h->h<=il->il<=len->len<=cap->(Instr.sliceAt t (.slice a len cap) kU (some kV) (some zC)).run P w=.ok (.slice (if il=l then a else a.map (·.add (l*sz))) (h-l) (il-l)) w :=
  λa len cap G I af aS=>adn bz X (ao0 fQ jg h6 m1 lT Ga G I (by omega))
 unfold JG at ab
 split at ab
 ·rename_i es
  split at ab
  ·rename_i H;obtain⟨G,I,af,aS⟩:=H;obtain⟨a,cap,rfl,Gc⟩:=NY hm (n:=D es) rfl;refine⟨_,run a _ cap G I af Gc,?_⟩
   split at ab
   ·rename_i mv
    cases ab;subst mv;have:h=il:=by omega
    subst this
    simpa using bt.nil
   ·rename_i mv
    cases ab;rw[ah mv]
    cases hm with
    |J aa =>
     refine .J ?_;rcases NZ G with rfl|az
     ·rw[show ((es.take l).drop l)=[] from by simp]
      rw[mu];exact .lR
     ·rcases ado (sz:=sz) aa G (by omega) (λ_=>Tu aS) (cc:=il-l) (by omega) with ar|aE
      ·omega
      ·exact aE
  ·cases ab
 ·split at ab
  ·rename_i H;obtain⟨rfl,rfl,rfl⟩:=H
   cases ab;obtain⟨a,cap,rfl,Gc⟩:=NY hm (n:=0) rfl;exact⟨_,run a _ cap (by omega) (by omega) (by omega) Gc,by simpa using bt.nil⟩
  ·cases ab
 ·rename_i k g er off len
  split at ab
  ·rename_i H;obtain⟨G,I,af,rfl⟩:=H
   cases ab;obtain⟨a,cap,rfl,Gc⟩:=NY hm (n:=len) rfl;have:h=il:=by omega
   subst this;exact⟨_,run a _ cap (by omega) (by omega) (by omega) Gc,by simpa using bt.nil⟩
  ·cases ab
 ·cases ab
theorem ao6 {t:TypeId}{l h len:Nat}{m r:R}{v:Value}{kU kV:Option Value}{cB M:Option R}(bz:P.underlying t=some .string)
  (fQ:jF 0 cB=some l) (hlen:zq m=some len) (jg:jF len M=some h) (m1:rv w aZ B cB kU) (lT:rv w aZ B M kV) (hm:bt w aZ B m v) (ab:JH l h m=some r) :
  ∃z,(Instr.sliceAt t v kU kV none).run P w=.ok z w/\bt w aZ B r z:=by
 unfold JH at ab
 split at ab
 ·rename_i s
  split at ab
  ·rename_i H;obtain⟨G,I⟩:=H
   cases ab;simp only[zq,cl] at hlen;subst hlen
   cases hm.Dr;have e:(ByteArray.mk s.toArray).size=D s:=by simp[ByteArray.size]
   have ag:=Ts (P:=P) (w:=w) (aZ:=aZ) (B:=B) (cap:=D s) false fQ jg m1 lT G I
   have Q:(ByteArray.mk s.toArray).extract l h=⟨((s.take h).drop l).toArray⟩:=by
    rw[ByteArray.extract_mk,adp]
   exact⟨.string ⟨((s.take h).drop l).toArray⟩,by simp[Instr.sliceAt,Instr.slice,run_underlying bz,e,ag,Q],.J .str⟩
  ·cases ab
 ·cases ab
theorem adq (off:Nat):∀(l:List Value) (k:Nat) (cs:Array Value),off+k+D l<=cs.size ->
  (l.zipIdx k).foldl (λ(cs:Array Value) (p:Value×Nat)=>cs.setIfInBounds (off+p.2) p.1) cs=(cs.toList.take (off+k)++l++cs.toList.drop (off+k+D l)).toArray
 | [],k,cs,_=>by simp
 |a::l,k,cs,h=>by
  rw[List.zipIdx_cons,Bn];have cx:off+k<cs.size:=by simp at h;omega
  rw[adq off l (k+1) (cs.setIfInBounds (off+k) a) (by simp at h ⊢;omega)];apply Array.ext';simp only[Array.toList_setIfInBounds];have:=list_seg_step cs.toList (off+k) a l (by simp at h ⊢;omega)
  simpa [qu] using this
theorem N0 {place:Nat->Option (Nat×Nat)}{ρ:Operand->Value}{tm:Nat->R}(hρ:∀x y,dM x=some y->bt w aZ B (a7 tm y) (ρ x)):
  ∀(ps:List (Nat×Operand)) (ey:List (Nat×Nat×bU)) (cs r:List R) (vs:Array Value),partsOf place ps=some ey->du w aZ B cs vs.toList->kt (a7 tm) cs ey=some r ->
   ∃oN:Array Value,Instr.fill place vs (ps.map λp=>(p.1,ρ p.2))=some oN/\du w aZ B r oN.toList
 | [],ey,cs,r,vs,aE,bW,h=>by
  simp[partsOf] at aE;subst aE;simp[kt] at h;subst h;exact⟨vs,rfl,bW⟩
 |(i,x)::ps,ey,cs,r,vs,aE,bW,h=>by
  simp only[partsOf,ll,hg,ho,ek,cl] at aE;obtain⟨q,hq,ao7,Bo,rfl⟩:=aE;obtain⟨⟨o,s⟩,nq,y,av,rfl⟩:=hq;simp only[kt] at h
  split at h
  ·rename_i H;obtain⟨ar,G,I⟩:=H;have vi:=hρ x y av;have ao8:a7 tm y ≠ .undef:=λe=>by rw[e] at ar;simp[R.known] at ar
   ·have lp:=du.Tq vi ao8;have ew:(ρ x).cells.size=s:=by have:=lp.1;simp at this;omega
    have JX:o+s<=vs.size:=by have:=bW.1;simp at this;omega
    have gP:=adq o (ρ x).cells.toList 0 vs (by simp[ew];exact JX);simp only[nZ,Array.length_toList] at gP;have Dx:=bW.kP lp o;obtain⟨oN,aJ,Gd⟩:=N0 hρ ps ao7 _ r ((vs.toList.take o++(ρ x).cells.toList++vs.toList.drop (o+(ρ x).cells.size)).toArray) Bo (by simpa using Dx) h;refine⟨oN,?_,Gd⟩;simp only[List.map_cons,Instr.fill,nq];rw[ah (by simp[ew];omega)]
    have aW:(ρ x).cells.zipIdx.foldl (λcs (p:Value×Nat)=>cs.setIfInBounds (o+p.2) p.1) vs=(vs.toList.take o++(ρ x).cells.toList++vs.toList.drop (o+(ρ x).cells.size)).toArray:=by
     rw[<-Array.foldl_toList,Array.toList_zipIdx];exact gP
    rw[<-aJ]
    congr 1
  ·cases h
end
section
variable {P:Program} {A:Nat->Prop} {w:World} {B:e4} {mem:Mem}
theorem Dy {aZ:Nat->Prop}{t:TypeId}{z:List R}(h:zeroOf P t=some z):∃i iN,P.info? t=some i/\i.zero=some iN/\du w aZ B z iN.cells.toList:=by
 simp only[zeroOf,ek] at h;obtain⟨iN,⟨i,M,aW⟩,hm⟩:=h;obtain⟨G,I⟩:=oK hm;exact⟨i,iN,M,aW,by simp[G],λj m v ao9 JY=>To (I j v m JY ao9)⟩
theorem JZ {t:TypeId}{i:TypeInfo}{iN:Value}(M:P.info? t=some i)(aW:i.zero=some iN):(zeroValue t).run P w=.ok iN w:=by
 simp[zeroValue,typeInfo,M,aW]
theorem adr {t:TypeId}{i:TypeInfo}{n:Nat}(M:P.info? t=some i)(X:gq P t=some n):i.size=n:=by
 simpa [gq,M] using X
theorem ads {t:TypeId}{i:TypeInfo}{n:Nat}(M:P.info? t=some i)(X:FT P t=some n):i.bytes=n:=by
 simpa [FT,M] using X
theorem N1 {z:Array Value}(ar:0<z.size):∀n,((Array.range (n*z.size)).map (z[·%z.size]!)).toList=(dH n z.toList).flatten
 |0=>by simp
 |n+1=>by
  have aA:=N1 ar n;apply pP;intro i
  have ay:∀m i,((Array.range (m*z.size)).map (z[·%z.size]!)).toList[i]?=if i<m*z.size then some (z[i%z.size]!) else none:=by
   intro m i;rw[Array.getElem?_toList,Array.getElem?_map]
   by_cases M:i<m*z.size
   ·rw[ad M,Array.getElem?_range];simp[M]
   ·rw[ah M,Array.getElem?_range];simp[M]
  rw[ay,List.replicate_succ',List.flatten_append,F6,<-aA];have el:((Array.range (n*z.size)).map (z[·%z.size]!)).toList.length=n*z.size:=by simp
  rw[el];have hmul:(n+1)*z.size=n*z.size+z.size:=by rw[qm,x2]
  by_cases M:i<n*z.size
  ·rw[ad M,ad (by omega),ay,ad M]
  ·rw[ah M]
   by_cases nY:i<(n+1)*z.size
   ·rw[ad nY];have az:i-n*z.size<z.size:=by omega
    have Tw:i%z.size=i-n*z.size:=by
     have e:i=(i-n*z.size)+z.size*n:=by have:=Nat.mul_comm n z.size;omega
     have aC:((i-n*z.size)+z.size*n)%z.size=i-n*z.size:=by rw[Nat.add_mul_mod_self_left,Nat.mod_eq_of_lt az]
     rwa [<-e] at aC
    rw[Tw];simp[az]
   ·rw[ah nY]
    symm
    rw[mr];simp;omega
theorem du.replicate {aZ:Nat->Prop}{z:List R}{adt:List Value}(h:du w aZ B z adt):∀n,du w aZ B (dH n z).flatten (dH n adt).flatten
 |0=>by simpa using du.nil
 |n+1=>by
  rw[qw,jD,qw,jD];exact h.append (du.replicate h n)
theorem du.rj {cs:List R}{vs:List Value}{aR:World}{bu:e4}(t:Trans A w B aR bu)(h:du w (cd A B) B cs vs):du aR (cd A bu) bu cs vs :=
 ⟨h.1,λi m v G I=>(h.2 i m v G I).rj t⟩
theorem J0 {cs:List R}(b1:fs A w B mem)(w1:World)(f:Fr (λ_=>False) w w1)(aW:w1.heap.size=w.heap.size)(k:Key)(vs:Array Value)(T:TypeId)(aw:(D cs)<=vs.size)
  (bW:du w (cd A B) B cs (vs.toList.take (D cs))):eF A w B (w1.alloc (.cells vs T)) (gE B k ⟨bZ mem k,some w.heap.size,vs.size⟩) (a2 mem k (bZ mem k) cs) :=
 eF.alloc b1 w1 f aW k vs T aw λi m hm=>by
  obtain⟨v,aq,ab⟩:=bW.get hm;rw[vd] at aq
  split at aq
  ·exact⟨v,by simpa using aq,ab⟩
  ·cases aq
theorem apa {t:TypeId}{z:List R}(k:Key)(b1:fs A w B mem)(aW:zeroOf P t=some z):
  ∃v aR bu,(Instr.alloc t true (.tuple #[])).run P w=.ok v aR/\eF A w B aR bu (a2 mem k (bZ mem k) z)/\bt aR (cd A bu) bu (.ptr k (bZ mem k) 0) v:=by
 obtain⟨i,iN,M,tB,bW⟩:=Dy (P:=P) (w:=w) (B:=B) (aZ:=cd A B) aW;have aw:(D z)=iN.cells.size:=by have:=bW.1;simp at this;omega
 refine⟨.pointer (some ⟨w.heap.size,0,none⟩),w.alloc (.cells iN.cells t),_,?_,J0 b1 w (Fr.refl _ _) rfl k iN.cells t (by omega) (by rw[dr (by simp;omega)];exact bW),?_⟩
 ·simp[Instr.alloc,JZ M tB,newVar,newRow]
 ·exact .ptr (hn _ _ _) (b0 _) ⟨_,rfl,λ_=>rfl⟩
theorem apb {t:TypeId}{m:R}{u:Value}(k:Key)(b1:fs A w B mem)(hu:bt w (cd A B) B m u)(O:m.known=true):
  ∃v aR bu,(Instr.box t u).run P w=.ok v aR/\eF A w B aR bu (a2 mem k (bZ mem k) m.cells)/\bt aR (cd A bu) bu (.ptr k (bZ mem k) 0) v:=by
 have bW:=du.Tq hu (λe=>by rw[e] at O;simp[R.known] at O);have aw:(D m.cells)=u.cells.size:=by have:=bW.1;simp at this;omega
 refine⟨.pointer (some ⟨w.heap.size,0,none⟩),w.alloc (.cells u.cells t),_,?_,J0 b1 w (Fr.refl _ _) rfl k u.cells t (by omega) (by rw[dr (by simp;omega)];exact bW),?_⟩
 ·simp[Instr.box,newVar,newRow]
 ·exact .ptr (hn _ _ _) (b0 _) ⟨_,rfl,λ_=>rfl⟩
theorem apc {t e:TypeId}{z:List R}{bytes n c:Nat}{dO cJ:R}{qx kx:Value}{r:R}{jL:Option (Key×Nat×List R)}(k:Key)(b1:fs A w B mem)(bz:P.underlying t=some (.slice e))(aW:zeroOf P e=some z)(X:gq P e=some (D z))
  (ag:FT P e=some bytes) (G:idx dO=some n) (I:idx cJ=some c) (e7:bt w (cd A B) B dO qx) (en:bt w (cd A B) B cJ kx) (ar:0<D z) (h:FN k (bZ mem k) z bytes n c=some (r,jL)) :
  ∃v aR bu,(Instr.makeSlice t qx kx).run P w=.ok v aR/\eF A w B aR bu (im mem jL)/\bt aR (cd A bu) bu r v:=by
 unfold FN at h
 split at h
 ·rename_i H;obtain⟨rfl,Ge,wG⟩:=H
  cases h;obtain⟨b9,rfl⟩:=F8 G e7;obtain⟨dc,rfl⟩:=F8 I en;obtain⟨i,iN,M,tB,bW⟩:=Dy (P:=P) (w:=w) (B:=B) (aZ:=cd A B) aW;have aw:(D z)=iN.cells.size:=by have:=bW.1;simp at this;omega
  have ew:=adr M X;have J1:=ads M ag
  have m3:=run_make (P:=P) w t e i iN bz M tB b9 dc (n:Int) (n:Int) (by omega) (by omega) (by
   have:((i.bytes*n:Nat):Int)<=281474976710656:=by rw[J1];omega
   rwa [Int.natCast_mul] at this) (by unfold maxLen at wG;omega)
  simp only[Int.toNat_natCast] at m3
  have adu:(madeCells iN.cells (n*i.size)).toList=(dH n iN.cells.toList).flatten:=by
   rw[ew,aw];exact N1 (by omega) n
  have Dz:(madeCells iN.cells (n*i.size)).size=n*D z:=by rw[size_madeCells,ew]
  have Bp:=bW.replicate (n:=n)
  have hlen:(dH n z).flatten.length=n*D z:=by
   have:=Bp.1;rw[<-this,<-adu,Array.length_toList,Dz]
  refine⟨_,_,_,m3,J0 b1 w (Fr.refl _ _) rfl k _ e (by rw[Dz,hlen];exact b0 _) ?_,?_⟩
  ·rw[dr (by rw[Array.length_toList,Dz,hlen];exact b0 _),adu];exact Bp
  ·refine .ref (hn _ _ _) (b0 _) ⟨_,n,rfl,b0 _,wG,.inr ⟨_,rfl,λ_=>⟨rfl,?_⟩⟩⟩;simp only[kv];rw[Dz];exact b0 _
 ·cases h
theorem Tx (b1:fs A w B mem){k:Key}{g:Nat}{cs new:List R}{e:mm}{b:Nat}{vs:Array Value}{T:TypeId}{vals:List Value}{off:Nat}(O:mem k=some (g,cs))(he:B k=some e)(ag:e.dA=some b)
  (aT:w.heap[b]?=some (.cells vs T (0,0))) (ew:vs.size=e.size) (aw:(D cs)<=vs.size) (bW:du w (cd A B) B cs (vs.toList.take (D cs))) (b4:e.g=g) (Ty:off+D new<=D cs) (lq:du w (cd A B) B new vals) :
  eF A w B (w.setRow b (vs.toList.take off++vals++vs.toList.drop (off+D vals)).toArray) B (a2 mem k g (kP cs off new)):=by
 have Tz:(D vals)=D new:=lq.1
 have Dx:du w (cd A B) B (kP cs off new) ((vs.toList.take off++vals++vs.toList.drop (off+D vals)).take (D cs)):=by
  have G:=bW.kP lq off
  have ay:(vs.toList.take (D cs)).take off++vals++(vs.toList.take (D cs)).drop (off+D vals)=(vs.toList.take off++vals++vs.toList.drop (off+D vals)).take (D cs):=by
   have lV:(D vs.toList)=vs.size:=Array.length_toList;rw[List.take_take,oO (by omega),adp,Dw,fG,gF,lV,oO (a:=off) (b:=vs.size) (by omega)];rw[dr (l:=vs.toList.take off++vals) (by rw[fG,gF,lV];omega)]
  rwa [ay] at G
 have ye:(kP cs off new).length=D cs:=by unfold kP;simp;omega
 have heq:gE B k e=B:=by
  funext j
  unfold gE
  split
  ·rename_i aj;rw[aj,he]
  ·rfl
 have f:Fr (λb=>∃e,B k=some e/\e.dA=some b) w (w.setRow b (vs.toList.take off++vals++vs.toList.drop (off+D vals)).toArray):=by
  refine⟨rfl,rfl,rfl,by simp,λj aj bO=>?_⟩
  exact setRow_other w b j _ (λN2=>bO ⟨e,he,by rw[ag,N2]⟩)
 have:=eF.change (k:=k) (e':=e) (cs:=kP cs off new) b1 f (λaC fr => .inl (by rw[he] at fr;exact n0 fr)) (λeH eR => .inr ⟨e,he,eR⟩) (λaK=>by rw[ag] at aK;cases aK) (λeH eR=>by
  rw[ag] at eR
  cases eR;refine⟨_,T,setRow_heap w b vs _ T (0,0) aT,by simp;omega,by rw[ye];simp;omega,λi m hm=>?_⟩
  obtain⟨v,aq,ab⟩:=Dx.get hm;rw[vd] at aq
  split at aq
  ·exact⟨v,by simpa using aq,ab⟩
  ·cases aq)
 rw[heq,b4] at this;exact this
theorem apd {t:TypeId}{n:Nat}{dO cJ:R}{qx kx:Value}{r:R}{jL:Option (Key×Nat×List R)}(b1:fs A w B mem)(X:gq P t=some n)(e7:bt w (cd A B) B dO qx)(en:bt w (cd A B) B cJ kx)
  (h:x4 mem n dO cJ.cells=some (r,jL)):∃aR,(Instr.storeAt t qx kx).run P w=.ok () aR/\eF A w B aR B (im mem jL)/\r=.no:=by
 cases dO with
 |ptr k g off =>
  simp only[x4] at h;unfold JL at h
  split at h
  ·rename_i c7 cs O
   split at h
   ·rename_i H;obtain⟨rfl,G,I,af⟩:=H
    cases h;obtain⟨e,he,b4,aK,ag⟩:=b1.at_ O
    cases e7 with
    |ptr gC JV aE =>
     rw[he] at gC
     cases gC;obtain⟨b,rfl,jI⟩:=aE;have jI:=jI b4.symm;obtain⟨vs,T,aT,ew,aw,bW⟩:=ag b jI;have fR:cJ ≠ .undef:=λe=>by rw[e] at af;simp[R.cells,R.one] at af
     have lp:=du.Tq en fR
     have ape:∀v∈kx.cells.toList,v.oneCell'=true:=by
      intro v aq;obtain⟨i,M,jM⟩:=adv aq;have ke:i<D cJ.cells:=by rw[<-lp.1];exact M
      have:=lp.2 i _ _ (bs ke) (bs M);rw[jM] at this;exact adg this (lU.1 af _ (m2 ke))
     have aHs:kx.cells.size=n:=by have:=lp.1;simp at this;omega
     have dv:=run_storeCells_at P b off T kx.cells.toList 0 vs w aT (by simp;omega) ape;simp only[nZ] at dv;refine⟨_,?_,Tx b1 O he jI aT ew aw bW b4 (by omega) lp,rfl⟩;have bG:¬ (kx.cells.size≠n):=by omega
     simp only[Instr.storeAt,Instr.sureAddr,storeVar,Sem.run_bind,Sem.run_pure,Result.andThen_ok,ve X];rw[ah bG];exact dv
   ·cases h
  ·cases h
 |_=>simp[x4] at h
end
section
variable {P:Program} {A:Nat->Prop} {w:World} {B:e4} {mem:Mem}
theorem N3 (sz:Nat):∀(n:Nat) (l:List Data),(chunk sz n l).length=n
 |0,_=>rfl
 |n+1,l=>by simp[chunk,N3 sz n]
theorem N4 (sz:Nat):∀(n:Nat) (l:List Data),D l=n*sz->∀e∈chunk sz n l,D e=sz
 |0,_,_,e,he=>by simp[chunk] at he
 |n+1,l,aw,e,he=>by
  have hmul:(n+1)*sz=n*sz+sz:=by rw[qm,x2]
  simp only[chunk,List.mem_cons] at he;rcases he with rfl|he
  ·simp;omega
  ·exact N4 sz n _ (by simp;omega) e he
theorem N5 (sz:Nat):∀(n:Nat) (l:List Data),D l=n*sz->(chunk sz n l).flatten=l
 |0,l,aw=>by simp at aw;simp[chunk,aw]
 |n+1,l,aw=>by
  have hmul:(n+1)*sz=n*sz+sz:=by rw[qm,x2]
  simp only[chunk,jD];rw[N5 sz n _ (by simp;omega),List.take_append_drop]
theorem adw {aZ:Nat->Prop}{m:R}{d:Data}{v:Value}(h:u5 m=some d)(aq:bt w aZ B m v):Den w aZ d v:=by
 unfold u5 at h
 split at h<;>cases h
 ·cases aq with
  |J h=>exact h
 ·cases aq with
  |nil=>exact .lR
theorem apf {ds:List Data}{vs:Array Value}{T:TypeId}{n sz:Nat}(b1:fs A w B mem)(aR:World)(hw:aR=w.alloc (.cells vs T))(aw:(D ds)=n*sz)(aq:vs.size=n*sz)(hm:n<=maxLen)
  (aa:∀(i:Nat) (d:Data) (v:Value),ds[i]?=some d->vs[i]?=some v->Den w (cd A B) d v):Den aR (cd A B) (.Y (chunk sz n ds)) (.slice (some ⟨w.heap.size,0,none⟩) n n):=by
 have ok:eF A w B aR B mem:=by rw[hw];exact .still b1 ((Fr.refl _ _).alloc _)
 have eM:=N3 sz n ds
 have h:=Den.Y (w:=aR) (aZ:=cd A B) (es:=chunk sz n ds) (b:=w.heap.size) (off:=0) (c:=n) (sz:=sz) (λi=>vs.getD i undef) (by rw[eM];exact b0 _) (by rw[eM];exact hm)
  (by rw[hw];simp) (λbO=>by
   rcases bO with bO|bO
   ·have:=b1.x3 bO;omega
   ·have:=b1.lt _ bO;omega) (N4 sz n ds aw)
  (λi M=>by
   rw[eM] at M;rw[hw,kv];have:i<vs.size:=by omega
   simp[this])
  (λi d kS=>by
   rw[N5 sz n ds aw] at kS;have az:i<D ds:=(dU.1 kS).1;have kX:i<vs.size:=by omega
   have:vs.getD i undef=vs[i]:=by simp[kX]
   simp only[this];exact (aa i d _ kS (Array.getElem?_eq_getElem kX)).trans ok.mZ)
 rw[eM] at h;exact h
theorem adx {t e:TypeId}{z r:List R}{sz len:Nat}{ps:List (Nat×Operand)}{ey:List (Nat×Nat×bU)}{ρ:Operand->Value}{tm:Nat->R}{aZ:Nat->Prop}(bz:P.underlying t=some (.slice e))(aW:zeroOf P e=some z)
  (X:gq P e=some sz) (wH:(D z)=sz) (ar:0<sz) (aw:len*sz<=16777216) (aE:partsOf (λi=>some (i*sz,sz)) ps=some ey) (hρ:∀x y,dM x=some y->bt w aZ B (a7 tm y) (ρ x))
  (h:kt (a7 tm) (dH len z).flatten ey=some r) :
  ∃vs:Array Value,(Instr.buildSlice t len (ps.map λp=>(p.1,ρ p.2)).toArray).run P w=.ok (.slice (some ⟨w.heap.size,0,none⟩) len len) (w.alloc (.cells vs e))/\du w aZ B r vs.toList:=by
 obtain⟨i,iN,M,tB,bW⟩:=Dy (P:=P) (w:=w) (B:=B) (aZ:=aZ) aW;have Gf:iN.cells.size=sz:=by have:=bW.1;simp at this;omega
 have ady:=N1 (z:=iN.cells) (by omega) len;rw[Gf] at ady;have Bp:=bW.replicate (n:=len);rw[<-ady] at Bp;obtain⟨oN,aJ,ab⟩:=N0 (place:=λi=>some (i*sz,sz)) hρ ps ey _ r _ aE Bp h;refine⟨oN,?_,ab⟩;have aK:¬ (len*sz>2^24):=by omega
 by_cases vj:len*sz=0
 ·have bl:((Array.range (len*sz)).map (iN.cells[·%sz]!))=#[]:=by rw[vj];simp[Array.range_zero']
  have apg:Instr.fill (λi=>some (i*sz,sz)) #[] (ps.map λp=>(p.1,ρ p.2))=some oN:=by rw[<-bl];exact aJ
  simp only[Instr.buildSlice,Sem.run_bind,run_underlying bz,Result.andThen_ok,ve X];rw[ah aK];simp only[vj,if_true,Sem.run_bind,Sem.run_pure,Result.andThen_ok];simp[apg,newRow,Array.range_zero']
 ·simp only[Instr.buildSlice,Sem.run_bind,run_underlying bz,Result.andThen_ok,ve X];rw[ah aK];simp only[vj,if_false,Sem.run_bind,Sem.run_pure,Result.andThen_ok,JZ M tB,Gf];simp[aJ,newRow]
theorem aph {t e:TypeId}{z:List R}{sz len:Nat}{ps:List (Nat×Operand)}{ey:List (Nat×Nat×bU)}{ρ:Operand->Value}{tm:Nat->R}{r:R}(b1:fs A w B mem)(bz:P.underlying t=some (.slice e))(aW:zeroOf P e=some z)
  (X:gq P e=some sz) (wH:(D z)=sz) (ar:0<sz) (aw:len*sz<=16777216) (aE:partsOf (λi=>some (i*sz,sz)) ps=some ey) (hρ:∀x y,dM x=some y->bt w (cd A B) B (a7 tm y) (ρ x))
  (h:Jw (dH len z).flatten sz len (kt (a7 tm) (dH len z).flatten ey)=some r) :
  ∃v aR,(Instr.buildSlice t len (ps.map λp=>(p.1,ρ p.2)).toArray).run P w=.ok v aR/\eF A w B aR B mem/\bt aR (cd A B) B r v:=by
 unfold Jw at h
 split at h
 ·rename_i hlen
  cases aJ:kt (a7 tm) (dH len z).flatten ey with
  |none=>rw[aJ] at h;cases h
  |some cs =>
   rw[aJ] at h;simp only[ea] at h;obtain⟨ds,g9,rfl⟩:=h;obtain⟨vs,m3,bW⟩:=adx (P:=P) (B:=B) bz aW X wH ar aw aE hρ aJ;obtain⟨G,I⟩:=oK g9
   have eM:(D cs)=len*sz:=by
    have:∀(ey:List (Nat×Nat×bU)) (a r:List R),kt (a7 tm) a ey=some r->(D r)=D a:=by
     intro ey
     induction ey with
     |nil=>intro a r h;simp[kt] at h;rw[h]
     |cons q ey aA =>
      intro a r h;obtain⟨o,s,x⟩:=q;simp only[kt] at h
      split at h
      ·rename_i H;rw[aA _ _ h];unfold kP;simp;omega
      ·cases h
    rw[this _ _ _ aJ,hlen]
   have aP:vs.size=len*sz:=by have:=bW.1;simp at this;omega
   refine⟨_,_,m3,.still b1 ((Fr.refl _ _).alloc _),.J (apf b1 _ rfl (by omega) aP ?_ λi d v aa aq=>?_)⟩
   ·have:len<=len*sz:=J2 _ ar;unfold maxLen;omega
   ·have az:i<D cs:=by have:=(dU.1 aa).1;omega
    have jN:=bs az;exact adw (I i _ d jN aa) (bW.2 i _ v jN (by simpa using aq))
 ·cases h
theorem api {t e:TypeId}{z:List R}{sz len:Nat}{ps:List (Nat×Operand)}{ey:List (Nat×Nat×bU)}{ρ:Operand->Value}{tm:Nat->R}{r:R}{jL:Option (Key×Nat×List R)}(k:Key)(b1:fs A w B mem)(bz:P.underlying t=some (.slice e))(aW:zeroOf P e=some z)
  (X:gq P e=some sz) (wH:(D z)=sz) (ar:0<sz) (aw:len*sz<=16777216) (aE:partsOf (λi=>some (i*sz,sz)) ps=some ey) (hρ:∀x y,dM x=some y->bt w (cd A B) B (a7 tm y) (ρ x))
  (h:FM k (bZ mem k) (dH len z).flatten sz len (kt (a7 tm) (dH len z).flatten ey)=some (r,jL)) :
  ∃v aR bu,(Instr.buildSlice t len (ps.map λp=>(p.1,ρ p.2)).toArray).run P w=.ok v aR/\eF A w B aR bu (im mem jL)/\bt aR (cd A bu) bu r v:=by
 unfold FM at h
 split at h
 ·rename_i hlen
  cases aJ:kt (a7 tm) (dH len z).flatten ey with
  |none=>rw[aJ] at h;cases h
  |some cs =>
   rw[aJ] at h
   cases h;obtain⟨vs,m3,bW⟩:=adx (P:=P) (B:=B) bz aW X wH ar aw aE hρ aJ
   have eM:(D cs)=len*sz:=by
    have:∀(ey:List (Nat×Nat×bU)) (a r:List R),kt (a7 tm) a ey=some r->(D r)=D a:=by
     intro ey
     induction ey with
     |nil=>intro a r h;simp[kt] at h;rw[h]
     |cons q ey aA =>
      intro a r h;obtain⟨o,s,x⟩:=q;simp only[kt] at h
      split at h
      ·rename_i H;rw[aA _ _ h];unfold kP;simp;omega
      ·cases h
    rw[this _ _ _ aJ,hlen]
   have aP:vs.size=D cs:=by have:=bW.1;simp at this;omega
   refine⟨_,_,_,m3,J0 b1 w (Fr.refl _ _) rfl k vs e (by omega) (by rw[dr (by simp;omega)];exact bW),?_⟩
   have h6:len<=maxLen:=by
    have:len<=len*sz:=J2 _ ar;unfold maxLen;omega
   exact .ref (hn _ _ _) (b0 _) ⟨_,len,rfl,b0 _,h6,.inr ⟨_,rfl,λ_=>⟨rfl,by simp only[kv];omega⟩⟩⟩
 ·cases h
theorem adz {m:R}{sz n:Nat}{new:List R}{v:Value}(b1:fs A w B mem)(aq:bt w (cd A B) B m v)(h:qp mem sz m=some (n,new)):
  ∃a c vals,v=.slice a n c/\du w (cd A B) B new vals/\D vals=n*sz/\(0<n->∃b off,a=some ⟨b,off,none⟩/\eG w b off vals):=by
 unfold qp at h
 split at h
 ·split at h
  ·rename_i es ry
   cases h;have ry:=Tu ry
   cases aq with
   |J aa =>
    cases aa with
    |lR=>exact⟨_,_,[],rfl,by simpa using du.nil,by simp,λh=>by simp at h⟩
    | @Y es b off c er val aw hm ag fF ew H yd =>
     have lr:=NH ry;rcases kW (D es) with ar|ar
     ·have:es=[]:=tC ar;subst this;exact⟨_,_,[],rfl,by simpa using du.nil,by simp,λh=>by simp at h⟩
     ·have JW:er=sz:=by
       have kf:=m2 (l:=es) (n:=0) ar;rw[<-ew _ kf,ry _ kf]
      subst JW;refine⟨_,_,(dF (D es*er)).map val,rfl,?_,by simp,λ_=>⟨b,off,rfl,λj u aj=>?_⟩⟩
      ·refine du.J (by simp[lr]) λi d u G I=>?_;have M:i<D es*er:=by have:=(dU.1 G).1;omega
       rw[bj,tx M] at I;simp only[mw,cl] at I;subst I;exact yd i d G
      ·have M:j<D es*er:=by have:=(dU.1 aj).1;simpa using this
       rw[bj,tx M] at aj;simp only[mw,cl] at aj;subst aj;exact H j M
  ·cases h
 ·cases h
  cases aq with
  |nil=>exact⟨_,_,[],rfl,du.nil,by simp,λh=>by simp at h⟩
 ·rename_i k g er off len
  split at h
  ·rename_i ew;subst ew
   split at h
   ·rename_i c7 cs O
    split at h
    ·rename_i ba;subst ba;simp only[ea,e6] at h;obtain⟨part,yf,rfl,rfl⟩:=h;obtain⟨aw,rfl,aK⟩:=F7 yf
     cases aq with
     |ref he ba ab =>
      obtain⟨e,gC,b4,Du,ag⟩:=b1.at_ O;rw[he] at gC
      cases gC;obtain⟨a,cap,rfl,G,I,af⟩:=ab;rcases af with af|⟨b,rfl,aS⟩
      ·have:len=0:=by omega
       subst this;exact⟨_,_,[],rfl,by simpa using du.nil,by simp,λh=>by omega⟩
      ·obtain⟨bm,bV⟩:=aS b4.symm;obtain⟨vs,T,aT,aW,hle,bW⟩:=ag b bm;refine⟨_,_,((vs.toList.take (D cs)).drop off).take (len*er),rfl,(bW.drop off).take _,by have:=((bW.drop off).take (len*er)).1;omega,λ_=>⟨b,off,rfl,?_⟩⟩
       have:=(((eG.row aT).take (D cs)).add off).take (len*er)
       simpa using this
    ·cases h
   ·cases h
  ·cases h
 ·cases h
theorem N6 {sz n c:Nat}{a:Option Addr}{vals:List Value}(aw:(D vals)=n*sz)(cn:0<n->∃b off,a=some ⟨b,off,none⟩/\eG w b off vals)(aR:World)(hw:aR.heap=w.heap):
  (Builtin.firstCells sz n (.slice a n c)).run P aR = .ok vals.toArray aR:=by
 have H:∀p,aR.cell? p=w.cell? p:=λp=>by simp[World.cell?,hw]
 rcases kW n with ar|ar
 ·subst ar;have:vals=[]:=tC (by simpa using aw);subst this
  cases a with
  |none=>simp[Builtin.firstCells]
  |some a=>simp[Builtin.firstCells,loadCells,loadCellsFrom]
 ·obtain⟨b,off,rfl,zD⟩:=cn ar;exact run_firstCells_some aR sz n _ n c vals aw λj v aj=>by rw[zA,H];exact zD j v aj
theorem du.TA {aZ:Nat->Prop}{cs:List R}{vs:List Value}(h:du w aZ B cs vs)(G:cs.all R.one=true):∀v∈vs,v.oneCell'=true:=by
 intro v aq;obtain⟨i,M,jM⟩:=adv aq;have ke:i<D cs:=by rw[<-h.1];exact M
 have:=h.2 i _ _ (bs ke) (bs M);rw[jM] at this;exact adg this (lU.1 G _ (m2 ke))
theorem TB {t ty e:TypeId}{sz ph wI n c:Nat}{base a:Option Addr}{vals:List Value}(bz:P.underlying t=some (.slice e))(X:gq P e=some sz)(yg:ph+n<=wI)
  (aJ:(Builtin.firstCells sz n (.slice a n c)).run P w=.ok vals.toArray w) (aR:World)
  (dv:∀b,base=some b->(storeCells (b.add (ph*sz)) vals).run P w=.ok () aR) (aK:base=none->aR=w) :
  (Builtin.append_ #[t,t] ty #[.slice base ph wI,.slice a n c]).run P w=.ok (.slice base (ph+n) wI) aR:=by
 simp only[gq,ea] at X;obtain⟨i,M,rfl⟩:=X
 cases base with
 |none=>simp[Builtin.append_,run_underlying bz,sizeOf,typeInfo,M,Builtin.lenOf,yg,aJ,aK rfl]
 |some b=>simp[Builtin.append_,run_underlying bz,sizeOf,typeInfo,M,Builtin.lenOf,yg,aJ,dv b rfl]
theorem apj {t ty e:TypeId}{sz ph wI n c bytes:Nat}{base a:Option Addr}{pQ vals:List Value}{i:TypeInfo}{z:Value}(bz:P.underlying t=some (.slice e))(M:P.info? e=some i)(aW:i.zero=some z)(ew:i.size=sz)(J1:i.bytes=bytes)
  (yg:wI<ph+n) (vf:∀aR,aR.heap=w.heap->(Builtin.firstCells sz ph (.slice base ph wI)).run P aR = .ok pQ.toArray aR) (aJ:∀aR,aR.heap=w.heap->(Builtin.firstCells sz n (.slice a n c)).run P aR = .ok vals.toArray aR)
  (apk:ph+n<=maxLen) (ag:(ph+n)*bytes<=140737488355328) :
  (Builtin.append_ #[t,t] ty #[.slice base ph wI,.slice a n c]).run P w =
   .ok (.slice (some ⟨w.heap.size,0,none⟩) (ph+n) (grownCap w (ph+n) wI e))
    (w.drew.alloc (.cells (pQ.toArray++vals.toArray++Builtin.zeroCells z.cells (grownCap w (ph+n) wI e-(ph+n))) e)):=by
 subst ew;subst J1
 have aK:¬ (ph+n<=wI):=by omega
 have apl:¬ (9223372036854775807<((ph:Int)+(n:Int))):=by unfold maxLen at apk;omega
 have JX:=growslice_fits yg ag;have apm:¬ (281474976710656<Builtin.nextslicecap (ph+n) wI*i.bytes):=by omega
 have G:=vf w.drew rfl;have I:=aJ w.drew rfl;simp[Builtin.append_,run_underlying bz,sizeOf,typeInfo,zeroValue,M,aW,Builtin.lenOf,aK,apl,apm,Question.forced,G,I,newRow,grownCap,<-List.append_toArray,Array.append_assoc]
theorem apn {t ty e:TypeId}{z:List R}{bytes n:Nat}{dO cJ:R}{qx kx:Value}{new:List R}{r:R}{jL:Option (Key×Nat×List R)}(k:Key)(b1:fs A w B mem)(bz:P.underlying t=some (.slice e))(aW:zeroOf P e=some z)(X:gq P e=some (D z))
  (J1:FT P e=some bytes) (ar:0<D z) (e7:bt w (cd A B) B dO qx) (en:bt w (cd A B) B cJ kx) (eS:qp mem (D z) cJ=some (n,new)) (h:rm mem k z bytes dO (some (n,new))=some (r,jL)) :
  ∃v aR bu,(Builtin.append_ #[t,t] ty #[qx,kx]).run P w=.ok v aR/\eF A w B aR bu (im mem jL)/\bt aR (cd A bu) bu r v:=by
 obtain⟨de,c2,vals,rfl,bW,lV,cn⟩:=adz b1 en eS;obtain⟨i,iN,M,tB,apo⟩:=Dy (P:=P) (w:=w) (B:=B) (aZ:=cd A B) aW;have ew:=adr M X;have jI:=ads M J1;have Gf:iN.cells.size=D z:=by have:=apo.1;simp at this;omega
 have pR:(D new)=n*D z:=by rw[<-bW.1,lV]
 have aJ:=λaR hw=>N6 (P:=P) (w:=w) (c:=c2) lV cn aR hw
 -- a new block
 have grow:∀(base:Option Addr) (len cap:Nat) (g:Nat) (k':Key) (cs:List R) (pQ:List Value),cap<len+n->(∀aR,aR.heap=w.heap->(Builtin.firstCells (D z) len (.slice base len cap)).run P aR = .ok pQ.toArray aR) ->
   du w (cd A B) B cs pQ->(D cs)=len*(D z)->len+n<=maxLen->(len+n)*bytes<=140737488355328->g=bZ mem k' ->
   ∃v aR bu,(Builtin.append_ #[t,t] ty #[.slice base len cap,.slice de n c2]).run P w=.ok v aR/\eF A w B aR bu (a2 mem k' g (cs++new))/\bt aR (cd A bu) bu (.ref k' g (D z) 0 (len+n)) v:=by
  intro base len cap g k' cs pQ yg vf kd eM wG Ge ba;subst ba;have m3:=apj (P:=P) (ty:=ty) bz M tB ew jI yg vf aJ wG Ge;have b4:=grownCap_ge w (len+n) cap e;have hle:=grownCap_le_maxLen w (len+n) cap e wG
  have Dz:(pQ.toArray++vals.toArray++Builtin.zeroCells iN.cells (grownCap w (len+n) cap e-(len+n))).size=grownCap w (len+n) cap e*D z:=by
   have Bq:=kd.1;simp only[Array.size_append,List.size_toArray,size_zeroCells,Gf,Bq,eM,lV];rw[<-qm,<-qm]
   congr 1
   omega
  have fg:=kd.append bW;have hmul:(len+n)*D z<=grownCap w (len+n) cap e*D z:=vh _ b4;have DA:(cs++new).length=(len+n)*D z:=by rw[fG,eM,pR,qm]
  refine⟨_,_,_,m3,J0 (cs:=cs++new) b1 w.drew ((Fr.refl _ _).drew _) rfl k' _ e (by rw[Dz,DA];exact hmul) ?_,?_⟩
  ·have:(pQ.toArray++vals.toArray++Builtin.zeroCells iN.cells (grownCap w (len+n) cap e-(len+n))).toList.take (cs++new).length=pQ++vals:=by
    simp only[Array.toList_append,List.toList_toArray];rw[List.take_append_of_le_length (by rw[fg.1];exact b0 _),dr (by rw[fg.1];exact b0 _)]
   rw[this];exact fg
  ·refine .ref (hn _ _ _) (b0 _) ⟨_,_,rfl,b4,hle,.inr ⟨_,rfl,λ_=>⟨rfl,?_⟩⟩⟩;simp only[kv];rw[Dz];exact b0 _
 cases dO with
 |nil =>
  simp only[rm] at h
  split at h
  ·rename_i H;obtain⟨Ge,wG,yh⟩:=H
   cases h
   cases e7 with
   | @nil cW =>
    rcases kW n with kg|kg
    ·subst kg;have Gg:vals=[]:=tC (by simpa using lV);have TC:new=[]:=tC (by simpa using pR);subst Gg;subst TC
     refine⟨_,_,_,TB (P:=P) (ty:=ty) bz X (b0 _) (aJ w rfl) w (λb _=>by simp[storeCells]) (λ_=>rfl),eF.yb b1 k,?_⟩;exact .ref (hn _ _ _) (b0 _) ⟨_,0,rfl,b0 _,ft _,.inl rfl⟩
    ·have:=grow cW 0 0 (bZ mem k) k [] [] (by omega) (λaR hw=>by
      have:=N6 (P:=P) (w:=w) (sz:=D z) (n:=0) (c:=0) (a:=cW) (vals:=[]) (by simp) (λh=>by omega) aR hw;exact this) du.nil (by simp) (by omega) (by simpa using Ge) rfl
     simpa [im] using this
  ·cases h
 |ref k' g er off len =>
  simp only[rm] at h
  split at h
  ·rename_i H;obtain⟨rfl,rfl⟩:=H;unfold mq at h
   split at h
   ·rename_i c7 cs O
    split at h
    ·rename_i H;obtain⟨rfl,hlen,Ge,wG,yh⟩:=H
     cases h;obtain⟨DB,pS,b4,Du,ag⟩:=b1.at_ O;have su:c7+1=bZ mem k':=by simp[bZ,O]
     cases e7 with
     |ref he ba ab =>
      rw[pS] at he
      cases he;obtain⟨cW,cap,rfl,G,I,af⟩:=ab
      have hold:∃pQ,du w (cd A B) B (cs.take (len*D z)) pQ/\D pQ=len*D z/\(0<len->∃b off,cW=some ⟨b,off,none⟩/\eG w b off pQ):=by
       rcases af with af|⟨b,rfl,aS⟩
       ·have:len=0:=by omega
        subst this;exact⟨[],by simpa using du.nil,by simp,λh=>by omega⟩
       ·obtain⟨bm,bV⟩:=aS b4.symm;obtain⟨vs,T,aT,DD,hle,zE⟩:=ag b bm;refine⟨(vs.toList.take (D cs)).take (len*D z),zE.take _,by have:=(zE.take (len*D z)).1;rw[this];simp;omega,λ_=>⟨b,0,rfl,((eG.row aT).take _).take _⟩⟩
      obtain⟨pQ,N7,TD,adA⟩:=hold
      by_cases yg:len+n<=cap
      ·rcases af with af|⟨b,rfl,aS⟩
       ·-- no room, and nothing comes
        have n1:len=0:=by omega
        have kg:n=0:=by omega
        subst n1;subst kg;subst af
        have Gg:vals=[]:=tC (by simpa using lV);have TC:new=[]:=tC (by simpa using pR);subst Gg;subst TC
        refine⟨_,_,gE B k' ⟨bZ mem k',none,0⟩,TB (P:=P) (ty:=ty) bz X (b0 _) (aJ w rfl) w (λb _=>by simp[storeCells]) (λ_=>rfl),?_,?_⟩
        ·have:=eF.yb b1 k'
         simpa [im,su] using this
        ·rw[su];exact .ref (hn _ _ _) (b0 _) ⟨_,0,rfl,b0 _,ft _,.inl rfl⟩
       ·obtain⟨bm,bV⟩:=aS b4.symm;obtain⟨vs,T,aT,DD,hle,zE⟩:=ag b bm;have hmul:(len+n)*D z<=cap*D z:=vh _ yg;have adB:(len+n)*D z=len*D z+n*D z:=qm _ _ _;have dv:=run_storeCells_at P b (len*D z) T vals 0 vs w aT (by omega) (bW.TA yh);simp only[nZ] at dv
        have Bq:pQ=vs.toList.take (len*D z):=by
         apply pP;intro j;rcases iq j (len*D z) with aj|aj
         ·have h7:0<len:=by
           rcases kW len with h|h
           ·subst h;simp at aj
           ·exact h
          obtain⟨fl,aHt,adC,N8⟩:=adA h7;simp only[cl,Addr.mk.injEq,and_true] at adC;obtain⟨rfl,rfl⟩:=adC;have vk:j<D pQ:=by omega
          have pg:=N8 j _ (bs vk);rw[kv,cell_of_row w b j vs T (0,0) aT] at pg;rw[bs vk,vd,ad aj,<-pg,Array.getElem?_toList]
         ·rw[mr (by omega),vd,ah (by omega)]
        have adD:(vs.toList.take (len*D z)++vals++vs.toList.drop (len*D z+D vals)).toArray.size=DB.size:=by
         simp;omega
        have f:Fr (λb=>∃e,B k'=some e/\e.dA=some b) w (w.setRow b (vs.toList.take (len*D z)++vals++vs.toList.drop (len*D z+D vals)).toArray):=by
         refine⟨rfl,rfl,rfl,by simp,λj aj bO=>?_⟩
         exact setRow_other w b j _ (λN2=>bO ⟨DB,pS,by rw[bm,N2]⟩)
        have DA:(cs.take (len*D z)++new).length=len*D z+D vals:=by
         rw[fG,pR,lV,gF,oO hlen]
        have ok:=eF.change (k:=k') (e':=⟨c7+1,some b,DB.size⟩) (cs:=cs.take (len*D z)++new) b1 f
         (λaC fr => .inr (by rw[pS] at fr;cases fr;simp only;omega)) (λeH eR => .inr ⟨DB,pS,by rw[bm];exact eR⟩) (λaK=>by cases aK) (λeH eR=>by
          cases eR;refine⟨_,T,setRow_heap w b vs _ T (0,0) aT,adD,by rw[adD,DA,lV];omega,λi m hm=>?_⟩
          have fg:=N7.append bW;obtain⟨v,aq,ab⟩:=fg.get hm;refine⟨v,?_,ab⟩;rw[Bq] at aq;have az:i<(vs.toList.take (len*D z)++vals).length:=(dU.1 aq).1;simp only[adE];rw[qv az];exact aq)
        refine⟨_,_,_,TB (P:=P) (ty:=ty) (a:=de) (c:=c2) (vals:=vals) bz X yg (aJ w rfl) _ (λfl ku=>by
         cases ku;rw[zA,kv];exact dv) (λh=>by cases h),ok,?_⟩
        exact .ref (hn _ _ _) (b0 _) ⟨_,cap,rfl,yg,I,.inr ⟨b,rfl,λ_=>⟨rfl,bV⟩⟩⟩
      ·have:=grow cW len cap (c7+1) k' (cs.take (len*D z)) pQ (by omega) (λaR hw=>N6 (P:=P) (w:=w) TD adA aR hw) N7 (by rw[gF,oO hlen]) wG Ge su;exact this
    ·cases h
   ·cases h
  ·cases h
 |_=>simp[rm] at h
theorem apq {t u ty e:TypeId}{sz n:Nat}{dO cJ:R}{qx kx:Value}{new:List R}{r:R}{jL:Option (Key×Nat×List R)}(b1:fs A w B mem)(bz:P.underlying t=some (.slice e))(X:gq P e=some sz)
  (e7:bt w (cd A B) B dO qx) (en:bt w (cd A B) B cJ kx) (eS:qp mem sz cJ=some (n,new)) (h:wB mem sz dO (some (n,new))=some (r,jL)) :
  ∃v aR,(Builtin.copy_ #[t,u] ty #[qx,kx]).run P w=.ok v aR/\eF A w B aR B (im mem jL)/\bt aR (cd A B) B r v:=by
 obtain⟨de,c2,vals,rfl,bW,lV,cn⟩:=adz b1 en eS;have pR:(D new)=n*sz:=by rw[<-bW.1,lV]
 cases dO with
 |ref k g er off len =>
  simp only[wB] at h
  split at h
  ·rename_i ew;subst ew;unfold Bk at h
   split at h
   ·rename_i c7 cs O
    split at h
    ·rename_i H;obtain⟨rfl,JX,yh⟩:=H
     cases h;obtain⟨DB,pS,b4,Du,ag⟩:=b1.at_ O;have Gh:Nat.min n len=min n len:=rfl;have hle:min n len<=n:=Nat.min_le_left _ _;have apr:min n len<=len:=Nat.min_le_right _ _;have mv:min n len*er<=n*er:=vh _ hle;have aHu:min n len*er<=len*er:=vh _ apr;have oM:(vals.take (min n len*er)).length=min n len*er:=by rw[gF,lV,oO mv]
     have Br:∀(a:Option Addr) (c:Nat),(0<n->∃b off,a=some ⟨b,off,none⟩/\eG w b off vals)->(Builtin.firstCells er (min n len) (.slice a n c)).run P w=.ok (vals.take (min n len*er)).toArray w:=by
      intro a c cn
      have:=N6 (P:=P) (w:=w) (sz:=er) (n:=min n len) (c:=c) (a:=a) (vals:=vals.take (min n len*er)) oM (λh=>by
       obtain⟨b,off,G,I⟩:=cn (by omega);exact⟨b,off,G,I.take _⟩) w rfl
      cases a with
      |none=>simpa [Builtin.firstCells] using this
      |some a=>simpa [Builtin.firstCells] using this
     cases e7 with
     |ref he ba ab =>
      rw[pS] at he
      cases he;obtain⟨cW,cap,rfl,G,I,af⟩:=ab;simp only[gq,ea] at X;obtain⟨i,M,J3⟩:=X;rcases af with af|⟨b,rfl,aS⟩
      ·have n1:len=0:=by omega
       subst n1;have kf:min n 0=0:=Nat.min_zero _;have pT:kP cs off (new.take (min n 0*er))=cs:=by simp[kP]
       have dv:∀a:Addr,(storeCells a ([]:List Value)).run P w=.ok () w:=λa=>by simp[storeCells]
       have J4:=Br de c2 cn;simp only[kf,Nat.zero_mul,List.take_zero] at J4
       have fS:gE B k DB=B:=by
        funext j;unfold gE;split
        ·rename_i aj;rw[aj,pS]
        ·rfl
       refine⟨.int .i64 0,w,?_,?_,by simpa using bt.ofInt⟩
       ·cases cW with
        |none=>simp[Builtin.copy_,run_underlying bz,Builtin.lenOf,sizeOf,typeInfo,M,J3,J4,goInt]
        |some a=>simp[Builtin.copy_,run_underlying bz,Builtin.lenOf,sizeOf,typeInfo,M,J3,J4,dv,goInt]
       ·have gr:a2 mem k c7 cs=mem:=by
         funext j;unfold a2;split
         ·rename_i aj;rw[aj,O]
         ·rfl
        simp only[im,pT,gr];exact .refl b1
      ·obtain⟨bm,bV⟩:=aS b4.symm;obtain⟨vs,T,aT,DD,J5,zE⟩:=ag b bm;have dv:=run_storeCells_at P b off T (vals.take (min n len*er)) 0 vs w aT (by omega) (λv aq=>bW.TA yh v (Gb aq));simp only[nZ] at dv;refine⟨.int .i64 ((min n len:Nat):Int),_,?_,Tx b1 O pS bm aT DD J5 zE b4 (by rw[gF,pR,oO mv];omega) (bW.take (min n len*er)),.ofInt⟩;have J4:=Br de c2 cn;simp[Builtin.copy_,run_underlying bz,Builtin.lenOf,sizeOf,typeInfo,M,J3,Gh,J4,dv,goInt]
    ·cases h
   ·cases h
  ·cases h
 |_=>simp[wB] at h
theorem aps {z:Array Value}(ar:0<z.size)(n:Nat):(Builtin.zeroCells z n).toList=(dH n z.toList).flatten:=by
 unfold Builtin.zeroCells;exact N1 ar n
theorem apt {t ty e:TypeId}{z:List R}{dO:R}{qx:Value}{r:R}{jL:Option (Key×Nat×List R)}(b1:fs A w B mem)(bz:P.underlying t=some (.slice e))(aW:zeroOf P e=some z)(ar:0<D z)
  (e7:bt w (cd A B) B dO qx) (h:x5 mem z dO=some (r,jL)) :
  ∃v aR,(Builtin.clear_ #[t] ty #[qx]).run P w=.ok v aR/\eF A w B aR B (im mem jL)/\bt aR (cd A B) B r v:=by
 have adF:∀aR:World,bt aR (cd A B) B (.cH []) (.tuple #[]):=λaR=>bt.cH (cs:=[]) (vs:=[]) rfl λi d v aa=>by simp at aa
 cases dO with
 |ref k g sz off len =>
  simp only[x5] at h
  split at h
  ·rename_i ew;subst ew;unfold NQ at h
   split at h
   ·rename_i c7 cs O
    split at h
    ·rename_i H;obtain⟨rfl,JX,yh⟩:=H
     cases h;obtain⟨i,iN,M,tB,bW⟩:=Dy (P:=P) (w:=w) (B:=B) (aZ:=cd A B) aW;have Gf:iN.cells.size=D z:=by have:=bW.1;simp at this;omega
     obtain⟨DB,pS,b4,Du,ag⟩:=b1.at_ O
     cases e7 with
     |ref he ba ab =>
      rw[pS] at he
      cases he;obtain⟨cW,cap,rfl,G,I,af⟩:=ab;rcases kW len with n1|n1
      ·subst n1;have pT:kP cs off (dH 0 z).flatten=cs:=by simp[kP]
       have gr:a2 mem k c7 cs=mem:=by
        funext j;unfold a2;split
        ·rename_i aj;rw[aj,O]
        ·rfl
       refine⟨.tuple #[],w,?_,?_,adF _⟩
       ·cases cW<;>simp[Builtin.clear_,run_underlying bz]
       ·simp only[im,pT,gr];exact .refl b1
      ·rcases af with af|⟨b,rfl,aS⟩
       ·omega
       ·obtain⟨bm,bV⟩:=aS b4.symm;obtain⟨vs,T,aT,DD,J5,zE⟩:=ag b bm;have Bp:=bW.replicate len;have wH:=aps (z:=iN.cells) (by omega) len;have pR:(dH len z).flatten.length=len*D z:=by simp
        have lV:(dH len iN.cells.toList).flatten.length=len*D z:=by simp[Gf]
        have apu:(dH len z).flatten.all R.one=true:=by
         rw[lU] at yh ⊢;intro x Q;obtain⟨y,av,lW⟩:=List.mem_flatten.1 Q;exact yh x (by rw[<-(List.mem_replicate.1 av).2];exact lW)
        have dv:=run_storeCells_at P b off T (dH len iN.cells.toList).flatten 0 vs w aT (by omega) (Bp.TA apu);simp only[nZ] at dv;refine⟨.tuple #[],_,?_,Tx b1 O pS bm aT DD J5 zE b4 (by omega) Bp,adF _⟩;obtain⟨Tv,rfl⟩:∃l,len=l+1:=⟨len-1,by omega⟩
        simp[Builtin.clear_,run_underlying bz,JZ M tB,wH,dv]
    ·cases h
   ·cases h
  ·cases h
 |_=>simp[x5] at h
end
end Go.Mini
namespace Go.Mini
open Go
variable {P:Program} {A:Nat->Prop} {w:World} {B:e4} {mem:Mem}
theorem apv {t e:TypeId}{sz l h len:Nat}{m r:R}{v:Value}{kU kV:Option Value}{cB M:Option R}(b1:fs A w B mem)(bz:P.underlying t=some (.array len e))(X:gq P e=some sz)(aHv:len<=16777216)
  (fQ:jF 0 cB=some l) (jg:jF len M=some h) (m1:rv w (cd A B) B cB kU) (lT:rv w (cd A B) B M kV) (hm:bt w (cd A B) B m v) (ab:Bj mem len sz l h m=some r) :
  ∃z,(Instr.sliceAt t v kU kV none).run P w=.ok z w/\bt w (cd A B) B r z:=by
 unfold Bj at ab
 split at ab
 ·rename_i k g off;unfold Th at ab
  split at ab
  ·rename_i c7 cs O
   split at ab
   ·rename_i H;obtain⟨rfl,G,I,af⟩:=H
    cases ab
    cases hm with
    |ptr he ba aq =>
     obtain⟨b,rfl,ag⟩:=aq;obtain⟨e',gC,b4,aK,fk⟩:=b1.at_ O;rw[gC] at he
     cases he;have jI:=ag b4.symm;obtain⟨vs,T,aT,aW,hle,_⟩:=fk b jI;refine⟨.slice (some (if len=l then ⟨b,off,none⟩ else ⟨b,off+l*sz,none⟩)) (h-l) (len-l),?_,.ref gC ba ⟨_,len-l,rfl,by omega,by unfold maxLen;omega,?_⟩⟩
     ·simp[Instr.sliceAt,run_underlying bz,Instr.sureAddr,Ts (P:=P) (w:=w) false fQ jg m1 lT G I,ve X]
      split<;>simp[zA]
     ·rcases NZ (eQ G I) with aw|aw
      ·exact .inl (by omega)
      ·refine .inr ⟨b,by rw[ah (by omega)],λ_=>⟨jI,?_⟩⟩
       have:off+l*sz+(len-l)*sz=off+len*sz:=by
        rw[qu,<-qm]
        congr 2
        omega
       omega
   ·cases ab
  ·cases ab
 ·cases ab
theorem apw {dN:List Field}(h:(dN.all λf=>(gq P f.type).isSome)=true):∃ps:List (Nat×Nat),(dN.mapM λf=>(do pure (f.offset,<-sizeOf f.type):Sem (Nat×Nat))).run P w=.ok ps w /\
  ∀i:Nat,ps[i]?=u9 P dN.toArray i:=by
 induction dN with
 |nil=>exact⟨[],by simp,λi=>by simp[u9]⟩
 |cons f r aA =>
  simp only[List.all_cons,eW] at h;obtain⟨ps,G,I⟩:=aA h.2;obtain⟨s,X⟩:=adG.1 h.1;refine⟨(f.offset,s)::ps,?_,λi=>?_⟩
  ·simp only[ll,Sem.run_bind,ve X,Result.andThen_ok,Sem.run_pure];rw[G]
   rfl
  ·cases i with
   |zero=>simp[u9,X]
   |succ i =>
    have:=I i;simp only[u9,adE,List.getElem?_cons_succ] at this ⊢;exact this
theorem apx {p q:Nat->Option (Nat×Nat)}(h:∀i,p i=q i)(cs:Array Value)(l:List (Nat×Value)):Instr.fill p cs l=Instr.fill q cs l:=by
 rw[show p=q from funext h]
theorem apy {t:TypeId}{dN:Array Field}{z r:List R}{ps:List (Nat×Operand)}{ey:List (Nat×Nat×bU)}{ρ:Operand->Value}{tm:Nat->R}{aZ:Nat->Prop}(bz:P.underlying t=some (.struct dN))(aW:zeroOf P t=some z)
  (aN:(dN.toList.all λf=>(gq P f.type).isSome)=true) (aE:partsOf (u9 P dN) ps=some ey) (hρ:∀x y,dM x=some y->bt w aZ B (a7 tm y) (ρ x))
  (h:kt (a7 tm) z ey=some r):∃v,(Instr.build t (ps.map λp=>(p.1,ρ p.2)).toArray).run P w=.ok v w/\bt w aZ B (.agg r) v:=by
 obtain⟨i,iN,M,tB,bW⟩:=Dy (P:=P) (w:=w) (B:=B) (aZ:=aZ) aW;obtain⟨pl,G,I⟩:=apw (w:=w) aN;obtain⟨oN,aJ,ab⟩:=N0 (place:=u9 P dN) hρ ps ey _ r _ aE bW h;refine⟨.agg oN,?_,by rw[show oN=oN.toList.toArray from by simp];exact .agg ab.1 ab.2⟩
 ·have sv:∀i,pl.toArray[i]?=u9 P dN i:=λi=>by simpa using I i
  have hm:(dN.mapM λf=>(do pure (f.offset,<-sizeOf f.type):Sem (Nat×Nat))).run P w=.ok pl.toArray w:=by
   rw[Array.mapM_eq_mapM_toList];rw[map_eq_pure_bind];simp only[Sem.run_bind,G,Result.andThen_ok,Sem.run_pure]
  simp only[Instr.build,Sem.run_bind,JZ M tB,Result.andThen_ok,Sem.run_pure,run_underlying bz,hm,apx sv,aJ]
theorem apz {t e:TypeId}{n sz:Nat}{z r:List R}{ps:List (Nat×Operand)}{ey:List (Nat×Nat×bU)}{ρ:Operand->Value}{tm:Nat->R}{aZ:Nat->Prop}(bz:P.underlying t=some (.array n e))(aW:zeroOf P t=some z)
  (X:gq P e=some sz) (aE:partsOf (λi=>some (i*sz,sz)) ps=some ey) (hρ:∀x y,dM x=some y->bt w aZ B (a7 tm y) (ρ x))
  (h:kt (a7 tm) z ey=some r):∃v,(Instr.build t (ps.map λp=>(p.1,ρ p.2)).toArray).run P w=.ok v w/\bt w aZ B (.agg r) v:=by
 obtain⟨i,iN,M,tB,bW⟩:=Dy (P:=P) (w:=w) (B:=B) (aZ:=aZ) aW;obtain⟨oN,aJ,ab⟩:=N0 (place:=λi=>some (i*sz,sz)) hρ ps ey _ r _ aE bW h;refine⟨.agg oN,?_,by rw[show oN=oN.toList.toArray from by simp];exact .agg ab.1 ab.2⟩
 simp only[Instr.build,Sem.run_bind,JZ M tB,Result.andThen_ok,Sem.run_pure,run_underlying bz,ve X,aJ]
end Go.Mini
namespace Go.Mini
open Go
variable {P:Program} {A:Nat->Prop} {w:World} {B:e4} {mem:Mem}
def apA (n:Next)(v:Value):Prop:=n=.value v\/(n=.skip/\v=undef)
def iu (A:Nat->Prop)(w:World)(B:e4)(run:Result Next)(mem':Mem)(r:R):Prop :=
 ∃n v aR bu,run=.ok n aR/\apA n v/\eF A w B aR bu mem'/\bt aR (cd A bu) bu r v
theorem iu.mx {s:Sem Value}{r:R}(b1:fs A w B mem)(h:∃v,s.run P w=.ok v w/\bt w (cd A B) B r v):iu A w B ((do pure (.value (<-s)):Sem Next).run P w) mem r:=by
 obtain⟨v,G,I⟩:=h;exact⟨.value v,v,w,B,by simp[G],.inl rfl,.refl b1,I⟩
theorem iu.of {s:Sem Value}{mem':Mem}{r:R}(h:∃v aR bu,s.run P w=.ok v aR/\eF A w B aR bu mem'/\bt aR (cd A bu) bu r v):iu A w B ((do pure (.value (<-s)):Sem Next).run P w) mem' r:=by
 obtain⟨v,aR,bu,G,I,af⟩:=h;exact⟨.value v,v,aR,bu,by simp[G],.inl rfl,I,af⟩
theorem adH {x:Option R}{r:R}{jL:Option (Key×Nat×List R)}(h:je x=some (r,jL)):x=some r/\jL=none:=by
 unfold je at h
 split at h<;>cases h
 exact⟨rfl,rfl⟩
theorem qy {x:Option Nat}{f:Nat->Option R}{r:R}(h:h5 x f=some r):∃n,x=some n/\f n=some r:=by
 unfold h5 at h
 split at h
 ·exact⟨_,rfl,h⟩
 ·cases h
theorem adI {x y:Option Nat}{f:Nat->Nat->Out}{r:R×Option (Key×Nat×List R)}(h:JK x y f=some r):∃n m,x=some n/\y=some m/\f n m=some r:=by
 unfold JK at h
 split at h
 ·exact⟨_,_,rfl,rfl,h⟩
 ·cases h
theorem DE {aZ:Nat->Prop}{ρ:Operand->Value}{tm:Nat->R}(hρ:∀x y,dM x=some y->bt w aZ B (a7 tm y) (ρ x)){x:Option Operand}{y:Option bU}(h:tv x=some y):rv w aZ B (y.map (a7 tm)) (x.map ρ):=by
 cases x with
 |none=>simp[tv] at h;subst h;simp[rv]
 |some x =>
  simp only[tv,ea] at h;obtain⟨y',av,rfl⟩:=h;simp only[mw,rv];exact hρ _ _ av
theorem adJ {dN:Array Field}{f o s:Nat}(h:u9 P dN f=some (o,s)):∃fd,dN[f]?=some fd/\fd.offset=o/\gq P fd.type=some s:=by
 simp only[u9,hg,ho,ek,cl,e6] at h;obtain⟨fd,G,TE,I,af,aS⟩:=h;exact⟨fd,G,af,aS ▸ I⟩
theorem yi {aZ:Nat->Prop}{ρ:Operand->Value}{tm:Nat->R}(hρ:∀x y,dM x=some y->bt w aZ B (a7 tm y) (ρ x)):∀{l:List Operand} {r:List bU},l.mapM dM=some r->du w aZ B (r.map (a7 tm)) (l.map ρ)
 | [],r,h=>by simp at h;subst h;exact du.nil
 |x::l,r,h=>by
  simp only[ll,hg,ho,ek,cl] at h;obtain⟨y,av,FZ,ab,rfl⟩:=h;exact du.cons (hρ _ _ av) (yi hρ ab)
theorem Bs {α β:Type}(a:Array α)(f:α->β):a.map f=(a.toList.map f).toArray:=by
 apply Array.ext';simp
theorem jh {tm:Nat->R}{m:j8}{r:R}{jL:Option (Key×Nat×List R)}{x:Option R}(h:cq mem tm m=some (r,jL))(e:cq mem tm m=je x):x=some r/\jL=none:=adH (e.symm.trans h)
theorem apB {ρ:Operand->Value}{tm:Nat->R}{kb:Nat}{own:List Nat}{dst:Option Tmp}{type:TypeId}{c:Call}{m:j8}{r:R}{jL:Option (Key×Nat×List R)}(b1:fs A w B mem)
  (hρ:∀x y,dM x=some y->bt w (cd A B) B (a7 tm y) (ρ x)) (a0:x7 P kb own dst type c=some m) (h:cq mem tm m=some (r,jL)) :
  iu A w B ((do let d <-resolve ρ c type;invoke d.target d.args:Sem Next).run P w) (im mem jL) r:=by
 obtain⟨callee,args,argTypes⟩:=c;have two:∀{α:Type} (a:Array α) (x y:α),a.toList=[x,y]->a=#[x,y]:=λa x y h=>Array.ext' (by simpa using h);have one:∀{α:Type} (a:Array α) (x:α),a.toList=[x]->a=#[x]:=λa x h=>Array.ext' (by simpa using h);unfold x7 at a0
 split at a0
 ·rename_i x t H aN bz;simp only at H aN bz;subst H;obtain rfl:=one _ _ aN;obtain rfl:=one _ _ bz
  split at a0
  ·rename_i e hu;simp only[ea] at a0;obtain⟨y,av,rfl⟩:=a0;obtain⟨hq,rfl⟩:=jh h rfl;obtain⟨n,aK,hq⟩:=qy hq
   cases hq;have:=aoX (P:=P) (w:=w) t type e hu (hρ _ _ av) aK;exact⟨.value _,_,w,B,by simp[resolve,invoke,builtin,this],.inl rfl,.refl b1,.J .int⟩
  ·rename_i hu;simp only[ea] at a0;obtain⟨y,av,rfl⟩:=a0;obtain⟨hq,rfl⟩:=jh h rfl;obtain⟨n,aK,hq⟩:=qy hq
   cases hq;have:=aoY (P:=P) (w:=w) t type hu (hρ _ _ av) aK;exact⟨.value _,_,w,B,by simp[resolve,invoke,builtin,this],.inl rfl,.refl b1,.J .int⟩
  ·cases a0
 ·rename_i s x t u H aN bz;simp only at H aN bz;subst H;obtain rfl:=two _ _ _ aN;obtain rfl:=two _ _ _ bz
  split at a0
  ·rename_i e aC hu adK;simp only[hg,ho,ek] at a0;obtain⟨z,aW,b,ag,n,aK,d,aa,TE,iO,ji,sw,aT⟩:=a0
   split at aT
   ·rename_i hA;obtain⟨rfl,ar,rfl⟩:=hA
    cases aT;simp only[cq] at h
    cases eS:qp mem (D z) (a7 tm ji) with
    |none =>
     rw[eS] at h
     revert h
     cases a7 tm TE<;>simp[rm]
    |some p =>
     obtain⟨k,new⟩:=p;rw[eS] at h;obtain⟨v,aR,bu,G,I,af⟩:=apn (ty:=type) _ b1 hu aW aK ag ar (hρ _ _ iO) (hρ _ _ sw) eS h;exact⟨.value v,v,aR,bu,by simp[resolve,invoke,builtin,G],.inl rfl,I,af⟩
   ·cases aT
  ·cases a0
 ·rename_i aHw x t u H aN bz;simp only at H aN bz;subst H;obtain rfl:=two _ _ _ aN;obtain rfl:=two _ _ _ bz
  split at a0
  ·rename_i e aC hu adK;simp only[hg,ho,ek] at a0;obtain⟨n,aK,aT⟩:=a0
   split at aT
   ·rename_i ar;simp only[ek,cl] at aT;obtain⟨yj,nn,ji,sw,rfl⟩:=aT;simp only[cq] at h
    cases eS:qp mem n (a7 tm ji) with
    |none =>
     rw[eS] at h
     revert h
     cases a7 tm yj<;>simp[wB]
    |some p =>
     obtain⟨k,new⟩:=p;rw[eS] at h;obtain⟨v,aR,G,I,af⟩:=apq (u:=u) (ty:=type) b1 hu aK (hρ _ _ nn) (hρ _ _ sw) eS h;exact⟨.value v,v,aR,B,by simp[resolve,invoke,builtin,G],.inl rfl,I,af⟩
   ·cases aT
  ·cases a0
 ·rename_i x t H aN bz;simp only at H aN bz;subst H;obtain rfl:=one _ _ aN;obtain rfl:=one _ _ bz
  split at a0
  ·rename_i e hu;simp only[hg,ho,ek] at a0;obtain⟨z,aW,n,aK,aT⟩:=a0
   split at aT
   ·rename_i ar;simp only[ek,cl] at aT;obtain⟨ji,sw,rfl⟩:=aT;simp only[cq] at h;obtain⟨v,aR,G,I,af⟩:=apt (ty:=type) b1 hu aW (by omega) (hρ _ _ sw) h;exact⟨.value v,v,aR,B,by simp[resolve,invoke,builtin,G],.inl rfl,I,af⟩
   ·cases aT
  ·cases a0
 ·rename_i x y H aN;simp only at H aN;subst H;obtain rfl:=two _ _ _ aN;simp only[hg,ho,ek,cl] at a0;obtain⟨ji,Q,y',av,rfl⟩:=a0;obtain⟨hq,rfl⟩:=jh h rfl;obtain⟨z,G,I⟩:=adm (P:=P) argTypes type (hρ _ _ Q) (hρ _ _ av) hq;simp only[if_true] at G;exact⟨.value z,z,w,B,by simp[resolve,invoke,builtin,G],.inl rfl,.refl b1,I⟩
 ·rename_i x y H aN;simp only at H aN;subst H;obtain rfl:=two _ _ _ aN;simp only[hg,ho,ek,cl] at a0;obtain⟨ji,Q,y',av,rfl⟩:=a0;obtain⟨hq,rfl⟩:=jh h rfl;obtain⟨z,G,I⟩:=adm (P:=P) argTypes type (hρ _ _ Q) (hρ _ _ av) hq;simp only[kR,if_false] at G;exact⟨.value z,z,w,B,by simp[resolve,invoke,builtin,G],.inl rfl,.refl b1,I⟩
 ·split at a0
  ·split at a0
   ·simp only[hg,ho,ek,cl] at a0;obtain⟨_,_,_,_,_,_,rfl⟩:=a0
    cases h
   ·cases a0
  ·split at a0
   ·(repeat' split at a0)<;>simp only[hg,ho,ek,cl] at a0
    all_goals
     obtain⟨_,_,rfl⟩:=a0
     cases h
   ·simp only[hg,ho,ek,cl] at a0;obtain⟨_,_,rfl⟩:=a0
    cases h
 ·simp only[hg,ho,ek,cl] at a0;obtain⟨_,_,_,_,rfl⟩:=a0
  cases h
 ·cases a0
theorem adL {ρ:Operand->Value}{tm:Nat->R}{kb:Nat}{own:List Nat}{o:Oper}{m:j8}{r:R}{jL:Option (Key×Nat×List R)}(b1:fs A w B mem)
  (hρ:∀x y,dM x=some y->bt w (cd A B) B (a7 tm y) (ρ x)) (a0:jH P kb own o.dst o.type o.op=some m) (h:cq mem tm m=some (r,jL)) :
  iu A w B ((execOp ρ o).run P w) (im mem jL) r:=by
 obtain⟨dst,op,type,pos,after,guard⟩:=o;simp only at a0
 cases op<;>simp only[jH] at a0<;>simp only[execOp]
 case move x =>
  simp only[ea] at a0;obtain⟨y,av,rfl⟩:=a0;obtain⟨hq,rfl⟩:=jh (x:=some (a7 tm y)) h rfl
  cases hq;exact⟨_,_,w,B,rfl,.inl rfl,.refl b1,hρ _ _ av⟩
 case assign x =>
  simp only[ea] at a0;obtain⟨y,av,rfl⟩:=a0;obtain⟨hq,rfl⟩:=jh (x:=some (a7 tm y)) h rfl
  cases hq;exact⟨_,_,w,B,rfl,.inl rfl,.refl b1,hρ _ _ av⟩
 case pick c a b =>
  simp only[hg,ho,ek,cl] at a0;obtain⟨c',H,jK,aN,fl,ag,rfl⟩:=a0;obtain⟨hq,rfl⟩:=jh h rfl;have:=iu.mx b1 (aoL (P:=P) (hρ _ _ H) (hρ _ _ aN) (hρ _ _ ag) hq)
  simpa [im] using this
 case alloc e =>
  simp only[hg,ho,ek,cl] at a0;obtain⟨d,aa,z,aW,rfl⟩:=a0;simp only[cq,cl,e6] at h;obtain⟨rfl,rfl⟩:=h;exact iu.of (apa _ b1 aW)
 case box e x =>
  simp only[hg,ho,ek,cl] at a0;obtain⟨d,aa,y,av,rfl⟩:=a0;simp only[cq] at h
  split at h
  ·rename_i O;simp only[cl,e6] at h;obtain⟨rfl,rfl⟩:=h;exact iu.of (apb _ b1 (hρ _ _ av) O)
  ·cases h
 case build t ps =>
  split at a0
  ·rename_i dN hu
   split at a0
   ·rename_i aN;simp only[hg,ho,ek,cl] at a0;obtain⟨z,aW,ey,Bo,rfl⟩:=a0;obtain⟨hq,rfl⟩:=jh h rfl;simp only[kQ,ea] at hq;obtain⟨cs,kd,rfl⟩:=hq;rw[Bs];exact iu.mx b1 (apy hu aW aN Bo hρ kd)
   ·cases a0
  ·rename_i n e hu;simp only[hg,ho,ek,cl] at a0;obtain⟨s,X,z,aW,ey,Bo,rfl⟩:=a0;obtain⟨hq,rfl⟩:=jh h rfl;simp only[kQ,ea] at hq;obtain⟨cs,kd,rfl⟩:=hq;rw[Bs];exact iu.mx b1 (apz hu aW X Bo hρ kd)
  ·cases a0
 case buildSlice t len ps =>
  split at a0
  ·rename_i e hu;simp only[hg,ho,ek] at a0;obtain⟨z,aW,s,X,ey,Bo,d,aa,aT⟩:=a0
   split at aT
   ·rename_i H;obtain⟨wH,ar,aw⟩:=H;simp only[cl] at aT;subst aT;rw[Bs]
    cases my:own.contains d with
    |true =>
     rw[my] at h;exact iu.of (api _ b1 hu aW X wH ar aw Bo hρ h)
    |false =>
     rw[my] at h;obtain⟨hq,rfl⟩:=jh h rfl;obtain⟨v,aR,G,I,af⟩:=aph b1 hu aW X wH ar aw Bo hρ hq;exact iu.of ⟨v,aR,B,G,I,af⟩
   ·cases aT
  ·cases a0
 case load t x =>
  simp only[hg,ho,ek,cl] at a0;obtain⟨n,aK,g,ba,y,av,rfl⟩:=a0;obtain⟨hq,rfl⟩:=jh h rfl;exact iu.mx b1 (aoK aK ba b1 (hρ _ _ av) hq)
 case store t x v =>
  simp only[hg,ho,ek,cl] at a0;obtain⟨n,aK,ji,Q,Dt,aq,rfl⟩:=a0;obtain⟨aR,G,I,rfl⟩:=apd b1 aK (hρ _ _ Q) (hρ _ _ aq) h;exact⟨.skip,undef,aR,B,by simp[G],.inr ⟨rfl,rfl⟩,I,.no⟩
 case nilCheck x =>
  simp only[ea] at a0;obtain⟨y,av,rfl⟩:=a0;obtain⟨hq,rfl⟩:=jh h rfl;obtain⟨⟨b,off,Q⟩,ab⟩:=aoZ (hρ _ _ av) hq;rw[Q] at ab ⊢;exact⟨_,_,w,B,rfl,.inl rfl,.refl b1,ab⟩
 case binOp bop t x y pos2 =>
  unfold zu at a0
  split at a0
  ·split at a0
   ·rename_i ji y' Q av
    cases a0;obtain⟨hq,rfl⟩:=jh h rfl;exact iu.mx b1 (adb t x y (hρ _ _ Q) (hρ _ _ av) hq)
   ·cases a0
  ·split at a0
   ·rename_i ji y' Q av
    cases a0;obtain⟨hq,rfl⟩:=jh h rfl;exact iu.mx b1 (adb t x y (hρ _ _ Q) (hρ _ _ av) hq)
   ·cases a0
  ·rename_i hu
   split at a0
   ·rename_i ji y' Q av
    cases a0;obtain⟨hq,rfl⟩:=jh h rfl;exact iu.mx b1 (ade (neg:=false) t x y hu (hρ _ _ Q) (hρ _ _ av) hq)
   ·rename_i ji y' Q av
    cases a0;obtain⟨hq,rfl⟩:=jh h rfl;exact iu.mx b1 (ade (neg:=true) t x y hu (hρ _ _ Q) (hρ _ _ av) hq)
   ·cases a0
  ·rename_i dN hu
   split at a0
   ·unfold wE at a0
    split at a0
    ·rename_i H
     split at a0
     ·rename_i g1 ji y' O Q av
      cases a0;obtain⟨hq,rfl⟩:=jh h rfl;exact iu.mx b1 (adk (neg:=false) t x y dN hu H.1 H.2 O (hρ _ _ Q) (hρ _ _ av) hq)
     ·cases a0
    ·cases a0
   ·unfold wE at a0
    split at a0
    ·rename_i H
     split at a0
     ·rename_i g1 ji y' O Q av
      cases a0;obtain⟨hq,rfl⟩:=jh h rfl;exact iu.mx b1 (adk (neg:=true) t x y dN hu H.1 H.2 O (hρ _ _ Q) (hρ _ _ av) hq)
     ·cases a0
    ·cases a0
   ·cases a0
  ·split at a0
   ·split at a0
    ·simp only[ea] at a0;obtain⟨_,_,rfl⟩:=a0
     cases h
    ·simp only[ea] at a0;obtain⟨_,_,rfl⟩:=a0
     cases h
    ·cases a0
   ·cases a0
  ·cases a0
 case unOp uop t x =>
  simp only[ea] at a0;obtain⟨y,av,rfl⟩:=a0;obtain⟨hq,rfl⟩:=jh h rfl;exact iu.mx b1 (aoM (hρ _ _ av) hq)
 case convert s t x =>
  split at a0
  ·rename_i g1 k X bz;simp only[ea] at a0;obtain⟨y,av,rfl⟩:=a0;obtain⟨hq,rfl⟩:=jh h rfl;exact iu.mx b1 (aoN s t g1 X bz (hρ _ _ av) hq)
  ·cases a0
 case makeFunc fn first eP =>
  cases fn<;>simp only[reduceCtorEq] at a0
  split at a0
  ·rename_i ew;simp only[hg,ho,ek,cl] at a0;obtain⟨cs,kd,rfl⟩:=a0;obtain⟨hq,rfl⟩:=jh (x:=some (.fz _ (cs.map (a7 tm)))) h rfl
   cases hq;have apC:first=#[]:=Array.eq_empty_of_size_eq_zero ew
   subst apC;have aw:=yi hρ kd;exact iu.mx b1 ⟨_,by rw[Bs eP,Array.map_empty];rfl,.fz aw.1 aw.2⟩
  ·cases a0
 case makeSlice t l c =>
  split at a0
  ·rename_i e he;simp only[hg,ho,ek] at a0;obtain⟨z,aW,s,X,b,ag,d,aa,aT⟩:=a0
   split at aT
   ·rename_i H;simp only[ek,cl] at aT;obtain⟨fu,aw,c',lX,rfl⟩:=aT;simp only[cq] at h;obtain⟨iP,jO,G,I,af⟩:=adI h;obtain⟨rfl,ar⟩:=H;exact iu.of (apc _ b1 he aW X ag G I (hρ _ _ aw) (hρ _ _ lX) ar af)
   ·cases aT
  ·cases a0
 case slice t x cB M j9 =>
  split at a0
  ·rename_i e hu;simp only[hg,ho,ek] at a0;obtain⟨s,X,aT⟩:=a0
   split at aT
   ·simp only[ek,cl] at aT;obtain⟨y,av,adM,fQ,ke,jg,J6,h6,rfl⟩:=aT;have m1:=DE hρ fQ;have lT:=DE hρ jg;have Ga:=DE hρ h6
    cases J6 with
    |none =>
     cases j9 with
     |some v=>simp[tv,ea] at h6
     |none =>
      obtain⟨hq,rfl⟩:=jh h rfl;obtain⟨l,aw,hq⟩:=qy hq;obtain⟨len,hlen,hq⟩:=qy hq;obtain⟨aT,DF,hq⟩:=qy hq;exact iu.mx b1 (ao3 hu X aw hlen DF m1 lT (hρ _ _ av) hq)
    |some J6 =>
     cases ke with
     |none=>cases h
     |some ke =>
      cases M with
      |none=>simp[rv] at lT
      |some M =>
       cases j9 with
       |none=>simp[rv] at Ga
       |some j9 =>
        obtain⟨hq,rfl⟩:=jh h rfl;obtain⟨l,aw,hq⟩:=qy hq;obtain⟨aT,DF,hq⟩:=qy hq;obtain⟨m,hm,hq⟩:=qy hq;exact iu.mx b1 (ao5 hu X aw DF hm m1 lT Ga (hρ _ _ av) hq)
   ·cases aT
  ·rename_i n e hu;simp only[hg,ho,ek] at a0;obtain⟨s,X,aT⟩:=a0
   split at aT
   ·rename_i H;simp only[ek,cl] at aT;obtain⟨y,av,adM,fQ,ke,jg,J6,h6,rfl⟩:=aT;have m1:=DE hρ fQ;have lT:=DE hρ jg
    cases J6 with
    |none =>
     cases j9 with
     |some v=>simp[tv,ea] at h6
     |none =>
      obtain⟨hq,rfl⟩:=jh h rfl;obtain⟨l,aw,hq⟩:=qy hq;obtain⟨aT,DF,hq⟩:=qy hq;exact iu.mx b1 (apv b1 hu X H.2 aw DF m1 lT (hρ _ _ av) hq)
    |some J6=>cases h
   ·cases aT
  ·rename_i hu
   split at a0
   ·rename_i h6;simp only[hg,ho,ek,cl] at a0;obtain⟨y,av,adM,fQ,ke,jg,rfl⟩:=a0;have m1:=DE hρ fQ;have lT:=DE hρ jg
    cases j9 with
    |some v=>cases h6
    |none =>
     obtain⟨hq,rfl⟩:=jh h rfl;obtain⟨l,aw,hq⟩:=qy hq;obtain⟨len,hlen,hq⟩:=qy hq;obtain⟨aT,DF,hq⟩:=qy hq;exact iu.mx b1 (ao6 hu aw hlen DF m1 lT (hρ _ _ av) hq)
   ·cases a0
  ·cases a0
 case fieldAddr t x f =>
  split at a0
  ·rename_i dN hu;simp only[hg,ho,ek] at a0;obtain⟨⟨o,s⟩,aE,aT⟩:=a0
   split at aT
   ·rename_i ar;simp only[ek,cl] at aT;obtain⟨y,av,rfl⟩:=aT;obtain⟨fd,G,I,af⟩:=adJ aE;obtain⟨hq,rfl⟩:=jh h rfl;exact iu.mx b1 (aoO t f dN fd s hu G af ar I (hρ _ _ av) hq)
   ·cases aT
  ·cases a0
 case field t x f =>
  split at a0
  ·rename_i dN hu;simp only[hg,ho,ek,cl] at a0;obtain⟨fd,TF,⟨o,s⟩,aE,g,ba,y,av,rfl⟩:=a0;obtain⟨aHx,G,I,af⟩:=adJ aE;rw[TF] at G
   cases G;obtain⟨hq,rfl⟩:=jh h rfl;exact iu.mx b1 (aoR t f dN fd hu TF af ba I (hρ _ _ av) hq)
  ·cases a0
 case indexAddr t x i =>
  split at a0
  ·rename_i e hu;simp only[hg,ho,ek] at a0;obtain⟨s,X,aT⟩:=a0
   split at aT
   ·simp only[ek,cl] at aT;obtain⟨y,av,j,aj,rfl⟩:=aT;obtain⟨hq,rfl⟩:=jh h rfl;obtain⟨n,aK,hq⟩:=qy hq;obtain⟨k,O⟩:=F8 aK (hρ _ _ aj);rw[O];exact iu.mx b1 (aoT t e hu X (hρ _ _ av) hq)
   ·cases aT
  ·rename_i len e hu;simp only[hg,ho,ek] at a0;obtain⟨s,X,aT⟩:=a0
   split at aT
   ·simp only[ek,cl] at aT;obtain⟨y,av,j,aj,rfl⟩:=aT;obtain⟨hq,rfl⟩:=jh h rfl;obtain⟨n,aK,hq⟩:=qy hq;obtain⟨k,O⟩:=F8 aK (hρ _ _ aj);rw[O];exact iu.mx b1 (aoU t e hu X (hρ _ _ av) hq)
   ·cases aT
  ·cases a0
 case index t x i =>
  split at a0
  ·rename_i hu;simp only[hg,ho,ek,cl] at a0;obtain⟨y,av,j,aj,rfl⟩:=a0;obtain⟨hq,rfl⟩:=jh h rfl;obtain⟨n,aK,hq⟩:=qy hq;obtain⟨k,O⟩:=F8 aK (hρ _ _ aj);rw[O];exact iu.mx b1 (aoV t hu (hρ _ _ av) hq)
  ·cases a0
 case extract x i =>
  simp only[ea] at a0;obtain⟨y,av,rfl⟩:=a0;obtain⟨hq,rfl⟩:=jh h rfl;exact iu.mx b1 (aoW (hρ _ _ av) hq)
 case call c =>
  exact apB b1 hρ a0 h
 all_goals cases a0
end Go.Mini
namespace Go.Mini
open Go
inductive gu where
 |code (c:eu)
 |inBlock (id:Nat)
def cD (T:bb)(K:eT->a8->Prop):List gu->eT->a8->Prop
 | [],e,st=>K e st
 |.code c::k,.normal,st=>wp T c (cD T K k) st
 |.code _::k,.exit id,st=>cD T K k (.exit id) st
 |.code _::k,.ret,st=>cD T K k .ret st
 |.inBlock _::k,.normal,st=>cD T K k .normal st
 |.inBlock j::k,.exit id,st=>if id=j then cD T K k .normal st else cD T K k (.exit id) st
 |.inBlock _::k,.ret,st=>cD T K k .ret st
section
variable {T:bb} {K:eT->a8->Prop} {k:List gu} {st:a8}
theorem apD (c:eu):(λe dT=>match e with
  |.normal=>wp T c (cD T K k) dT
  |e=>cD T K k e dT)=cD T K (.code c::k):=by
 funext e dT
 cases e<;>rfl
theorem apE (id:Nat):(λe dT=>match e with
  |.exit j=>if j=id then cD T K k .normal dT else cD T K k (.exit j) dT
  |e=>cD T K k e dT)=cD T K (.inBlock id::k):=by
 funext e dT
 cases e<;>rfl
@[go_sem] theorem apF (e:eT):cD T K [] e st=K e st:=by cases e<;>rfl
@[go_sem] theorem aHy (c:eu):cD T K (.code c::k) .normal st=wp T c (cD T K k) st:=bx
@[go_sem] theorem aHz (c:eu)(id:Nat):cD T K (.code c::k) (.exit id) st=cD T K k (.exit id) st:=bx
@[go_sem] theorem aHA (c:eu):cD T K (.code c::k) .ret st=cD T K k .ret st:=bx
@[go_sem] theorem aHB (id:Nat):cD T K (.inBlock id::k) .normal st=cD T K k .normal st:=bx
@[go_sem] theorem aHC (id j:Nat):cD T K (.inBlock j::k) (.exit id) st=if id=j then cD T K k .normal st else cD T K k (.exit id) st:=bx
@[go_sem] theorem aHD (id:Nat):cD T K (.inBlock id::k) .ret st=cD T K k .ret st:=bx
theorem qz {c:eu}(h:wp T c (cD T K []) st):wp T c K st:=by
 have:cD T K []=K:=by funext e st;cases e<;>rfl
 rwa [this] at h
@[go_sem] theorem wp_seq (a b:eu):wp T (.seq a b) (cD T K k) st=wp T a (cD T K (.code b::k)) st:=by
 rw[<-apD];rfl
@[go_sem] theorem wp_skip:wp T .skip (cD T K k) st=cD T K k .normal st:=bx
@[go_sem] theorem wp_ret:wp T .ret (cD T K k) st=cD T K k .ret st:=bx
@[go_sem] theorem wp_exit (id:Nat):wp T (.exit id) (cD T K k) st=cD T K k (.exit id) st:=bx
@[go_sem] theorem wp_block (id:Nat)(c:eu):wp T (.block id c) (cD T K k) st=wp T c (cD T K (.inBlock id::k)) st:=by
 rw[<-apE];rfl
def qA (T:bb)(K:eT->a8->Prop)(k:List gu)(m:R)(a b:eu)(st:a8):Prop :=
 match m with
 |.J (.bool t)=>if t=true then wp T a (cD T K k) st else wp T b (cD T K k) st
 |_=>False
@[go_sem] theorem wp_cond (c:bU)(a b:eu):wp T (.cond c a b) (cD T K k) st=qA T K k (a7 st.tm c) a b st:=bx
@[go_sem] theorem apG (a b:eu):qA T K k (.J (.bool true)) a b st=wp T a (cD T K k) st:=bx
@[go_sem] theorem apH (a b:eu):qA T K k (.J (.bool false)) a b st=wp T b (cD T K k) st:=bx
def Gi (T:bb)(K:eT->a8->Prop)(k:List gu)(l:List c8)(st:a8):Prop:=x6 T (cD T K k .normal) l st
@[go_sem] theorem wp_ops (l:List c8):wp T (.ops l) (cD T K k) st=Gi T K k l st:=bx
@[go_sem] theorem aHE:Gi T K k [] st=cD T K k .normal st:=bx
def rz (T:bb)(K:eT->a8->Prop)(k:List gu)(g:Option Bool)(i:c8)(r:List c8)(st:a8):Prop :=
 match g with
 |none=>False
 |some g=>if g=true then gD T (x6 T (cD T K k .normal) r) i st else Gi T K k r ⟨put st.tm i.dst .no,st.mem⟩
@[go_sem] theorem aHF (i:c8)(r:List c8):Gi T K k (i::r) st=rz T K k (pe st.tm i.g) i r st:=bx
@[go_sem] theorem aHG (i:c8)(r:List c8):rz T K k (some true) i r st=gD T (Gi T K k r) i st:=bx
@[go_sem] theorem aHH (i:c8)(r:List c8):rz T K k (some false) i r st=Gi T K k r ⟨put st.tm i.dst .no,st.mem⟩:=bx
def Bt (T:bb)(K:eT->a8->Prop)(k:List gu)(n:Nat)(l:List c8)(c:List (List Nat))(rec:Rec)(st:a8):Prop:=wD T (cD T K k .normal) n l c rec st
@[go_sem] theorem aHI (l:List c8)(c:List (List Nat)):wp T (.mY l c) (cD T K k) st=Bt T K k 0 l c (λ_=>none) st:=bx
@[go_sem] theorem aHJ (n:Nat)(c:List (List Nat))(rec:Rec):Bt T K k n [] c rec st=cD T K k .normal st:=bx
def rA (T:bb)(K:eT->a8->Prop)(k:List gu)(n:Nat)(g:Option Bool)(i:c8)(r:List c8)(c:List (List Nat))(rec:Rec)(st:a8):Prop :=
 match g with
 |none=>False
 |some g=>if g=true then (match hz T st.mem st.tm i.op with
    |some (m,e)=>FQ rec (jG i.op,dI st.tm i.op) (c.headD [])=true/\Bt T K k (n+1) r c.tail (u7 rec n (jG i.op,dI st.tm i.op)) ⟨put st.tm i.dst m,im st.mem e⟩
    |none=>False) else Bt T K k (n+1) r c.tail rec ⟨put st.tm i.dst .no,st.mem⟩
@[go_sem] theorem aHK (n:Nat)(i:c8)(r:List c8)(c:List (List Nat))(rec:Rec):Bt T K k n (i::r) c rec st=rA T K k n (pe st.tm i.g) i r c rec st:=bx
def adN (T:bb)(K:eT->a8->Prop)(k:List gu)(n:Nat)(x:Option (R×Option (Key×Nat×List R)))(i:c8)(r:List c8)(c:List (List Nat))(rec:Rec)(st:a8):Prop :=
 match x with
 |some (m,e)=>FQ rec (jG i.op,dI st.tm i.op) (c.headD [])=true/\Bt T K k (n+1) r c.tail (u7 rec n (jG i.op,dI st.tm i.op)) ⟨put st.tm i.dst m,im st.mem e⟩
 |none=>False
@[go_sem] theorem aHL (n:Nat)(i:c8)(r:List c8)(c:List (List Nat))(rec:Rec):rA T K k n (some true) i r c rec st=adN T K k n (hz T st.mem st.tm i.op) i r c rec st:=bx
@[go_sem] theorem aHM (n:Nat)(i:c8)(r:List c8)(c:List (List Nat))(rec:Rec):rA T K k n (some false) i r c rec st=Bt T K k (n+1) r c.tail rec ⟨put st.tm i.dst .no,st.mem⟩:=bx
@[go_sem] theorem aHN (n:Nat)(m:R)(e:Option (Key×Nat×List R))(i:c8)(r:List c8)(c:List (List Nat))(rec:Rec):adN T K k n (some (m,e)) i r c rec st =
 (FQ rec (jG i.op,dI st.tm i.op) (c.headD [])=true/\Bt T K k (n+1) r c.tail (u7 rec n (jG i.op,dI st.tm i.op)) ⟨put st.tm i.dst m,im st.mem e⟩):=bx
end
section
variable {T:bb} {K:a8->Prop} {st:a8} {tm:Nat->R} {mem:Mem}
def jt (K:a8->Prop)(x:Option (R×Option (Key×Nat×List R)))(d:Option Nat)(st:a8):Prop :=
 match x with
 |some (m,e)=>K ⟨put st.tm d m,im st.mem e⟩
 |none=>False
@[go_sem] theorem aHO (m:R)(e:Option (Key×Nat×List R))(d:Option Nat):jt K (some (m,e)) d st=K ⟨put st.tm d m,im st.mem e⟩:=bx
variable (d:Option Nat) (g:Option (Nat×Bool))
@[go_sem] theorem aHP (x:bU):gD T K ⟨d,g,.cm x⟩ st=K ⟨put st.tm d (a7 st.tm x),st.mem⟩:=bx
@[go_sem] theorem aHQ (c a b:bU):gD T K ⟨d,g,.pick c a b⟩ st=jt K (cq st.mem st.tm (.pick c a b)) d st:=bx
@[go_sem] theorem aHR (k:Key)(z:List R):gD T K ⟨d,g,.alloc k z⟩ st=K ⟨put st.tm d (.ptr k (bZ st.mem k) 0),a2 st.mem k (bZ st.mem k) z⟩:=bx
@[go_sem] theorem aHS (k:Key)(x:bU):gD T K ⟨d,g,.box k x⟩ st=jt K (cq st.mem st.tm (.box k x)) d st:=bx
@[go_sem] theorem aHT (z:List R)(ps:List (Nat×Nat×bU)):gD T K ⟨d,g,.build z ps⟩ st=jt K (cq st.mem st.tm (.build z ps)) d st:=bx
@[go_sem] theorem aHU (k:Key)(o:Bool)(z:List R)(sz len:Nat)(ps:List (Nat×Nat×bU)):gD T K ⟨d,g,.e0 k o z sz len ps⟩ st=jt K (cq st.mem st.tm (.e0 k o z sz len ps)) d st:=bx
@[go_sem] theorem aHV (n:Nat)(dV:Bool)(x:bU):gD T K ⟨d,g,.load n dV x⟩ st=jt K (cq st.mem st.tm (.load n dV x)) d st:=bx
@[go_sem] theorem aHW (n:Nat)(x v:bU):gD T K ⟨d,g,.store n x v⟩ st=jt K (cq st.mem st.tm (.store n x v)) d st:=bx
@[go_sem] theorem aHX (op:BinOp)(x y:bU):gD T K ⟨d,g,.bin op x y⟩ st=jt K (cq st.mem st.tm (.bin op x y)) d st:=bx
@[go_sem] theorem aHY (b:Bool)(n:List Nat)(x y:bU):gD T K ⟨d,g,.eqs b n x y⟩ st=jt K (cq st.mem st.tm (.eqs b n x y)) d st:=bx
@[go_sem] theorem aHZ (b:Bool)(x y:bU):gD T K ⟨d,g,.beq b x y⟩ st=jt K (cq st.mem st.tm (.beq b x y)) d st:=bx
@[go_sem] theorem aH0 (op:UnOp)(x:bU):gD T K ⟨d,g,.un op x⟩ st=jt K (cq st.mem st.tm (.un op x)) d st:=bx
@[go_sem] theorem aH1 (k:IntKind)(x:bU):gD T K ⟨d,g,.conv k x⟩ st=jt K (cq st.mem st.tm (.conv k x)) d st:=bx
@[go_sem] theorem aH2 (x:bU):gD T K ⟨d,g,.si x⟩ st=jt K (cq st.mem st.tm (.si x)) d st:=bx
@[go_sem] theorem aH3 (k:Key)(z:List R)(b:Nat)(x y:bU):gD T K ⟨d,g,.mn k z b x y⟩ st=jt K (cq st.mem st.tm (.mn k z b x y)) d st:=bx
@[go_sem] theorem aH4 (o:Nat)(x:bU):gD T K ⟨d,g,.dY o x⟩ st=jt K (cq st.mem st.tm (.dY o x)) d st:=bx
@[go_sem] theorem aH5 (o n:Nat)(dV:Bool)(x:bU):gD T K ⟨d,g,.Dk o n dV x⟩ st=jt K (cq st.mem st.tm (.Dk o n dV x)) d st:=bx
@[go_sem] theorem aH6 (s:Nat)(x i:bU):gD T K ⟨d,g,.kO s x i⟩ st=jt K (cq st.mem st.tm (.kO s x i)) d st:=bx
@[go_sem] theorem aH7 (n s:Nat)(x i:bU):gD T K ⟨d,g,.pd n s x i⟩ st=jt K (cq st.mem st.tm (.pd n s x i)) d st:=bx
@[go_sem] theorem aH8 (x i:bU):gD T K ⟨d,g,.idxs x i⟩ st=jt K (cq st.mem st.tm (.idxs x i)) d st:=bx
@[go_sem] theorem aH9 (s:Nat)(x:bU)(a b c:Option bU):gD T K ⟨d,g,.oH s x a b c⟩ st=jt K (cq st.mem st.tm (.oH s x a b c)) d st:=bx
@[go_sem] theorem aIa (n s:Nat)(x:bU)(a b c:Option bU):gD T K ⟨d,g,.ts n s x a b c⟩ st=jt K (cq st.mem st.tm (.ts n s x a b c)) d st:=bx
@[go_sem] theorem aIb (x:bU)(a b:Option bU):gD T K ⟨d,g,.Dl x a b⟩ st=jt K (cq st.mem st.tm (.Dl x a b)) d st:=bx
@[go_sem] theorem aIc (i:Nat)(x:bU):gD T K ⟨d,g,.ext i x⟩ st=jt K (cq st.mem st.tm (.ext i x)) d st:=bx
@[go_sem] theorem aId (x:bU):gD T K ⟨d,g,.len x⟩ st=jt K (cq st.mem st.tm (.len x)) d st:=bx
@[go_sem] theorem aIe (x:bU):gD T K ⟨d,g,.lens x⟩ st=jt K (cq st.mem st.tm (.lens x)) d st:=bx
@[go_sem] theorem aIf (k:Key)(z:List R)(b:Nat)(s x:bU):gD T K ⟨d,g,.app k z b s x⟩ st=jt K (cq st.mem st.tm (.app k z b s x)) d st:=bx
@[go_sem] theorem aIg (z:List R)(x:bU):gD T K ⟨d,g,.sl z x⟩ st=jt K (cq st.mem st.tm (.sl z x)) d st:=bx
@[go_sem] theorem aIh (s:Nat)(x y:bU):gD T K ⟨d,g,.sj s x y⟩ st=jt K (cq st.mem st.tm (.sj s x y)) d st:=bx
@[go_sem] theorem aIi (b:Bool)(x y:bU):gD T K ⟨d,g,.il b x y⟩ st=jt K (cq st.mem st.tm (.il b x y)) d st:=bx
@[go_sem] theorem aIj (f:FuncId)(l:List bU):gD T K ⟨d,g,.pN f l⟩ st=jt K (cq st.mem st.tm (.pN f l)) d st:=bx
def wJ (K:a8->Prop)(x:Option g7)(d:Option Nat)(st:a8):Prop :=
 match x with
 |some (.same r)=>K ⟨put st.tm d (.J r),st.mem⟩
 |some (.own _ es)=>K ⟨put st.tm d (.J (.Y es)),st.mem⟩
 |some (.rel bL)=>∀r mem',bL r mem'->K ⟨put st.tm d r,mem'⟩
 |some (.e5 r k g i c)=>K ⟨put st.tm d (.J r),a2 st.mem k g ((rn st.mem k).set i c)⟩
 |some (.zs r k)=>K ⟨put st.tm d (.J r),a2 st.mem k (bZ st.mem k) []⟩
 |none=>False
@[go_sem] theorem aIk (f:FuncId)(l:List bU):gD T K ⟨d,g,.call f l⟩ st=wJ K (T f (l.map (a7 st.tm)) st.mem) d st:=bx
@[go_sem] theorem aIl (r:Data)(k:Key)(g i:Nat)(c:R):wJ K (some (.e5 r k g i c)) d st=K ⟨put st.tm d (.J r),a2 st.mem k g ((rn st.mem k).set i c)⟩:=bx
@[go_sem] theorem aIm (r:Data)(k:Key):wJ K (some (.zs r k)) d st=K ⟨put st.tm d (.J r),a2 st.mem k (bZ st.mem k) []⟩:=bx
@[go_sem] theorem aIn (r:Data):wJ K (some (.same r)) d st=K ⟨put st.tm d (.J r),st.mem⟩:=bx
@[go_sem] theorem aIo (s:Nat)(es:List (List Data)):wJ K (some (.own s es)) d st=K ⟨put st.tm d (.J (.Y es)),st.mem⟩:=bx
@[go_sem] theorem apI (bL:R->Mem->Prop):wJ K (some (.rel bL)) d st=∀r mem',bL r mem'->K ⟨put st.tm d r,mem'⟩:=bx
def TG (T:bb)(K:a8->Prop)(m:R)(args:List R)(d:Option Nat)(st:a8):Prop :=
 match m with
 |.fz g eP=>wJ K (T g (args++eP) st.mem) d st
 |.J (.fn g ds)=>wJ K (T g (args++ds.map .J) st.mem) d st
 |_=>False
@[go_sem] theorem aIp (f:bU)(l:List bU):gD T K ⟨d,g,.jE f l⟩ st=TG T K (a7 st.tm f) (l.map (a7 st.tm)) d st:=bx
@[go_sem] theorem aIq (f:FuncId)(eP args:List R):TG T K (.fz f eP) args d st=wJ K (T f (args++eP) st.mem) d st:=bx
@[go_sem] theorem aIr (f:FuncId)(ds:List Data)(args:List R):TG T K (.J (.fn f ds)) args d st=wJ K (T f (args++ds.map .J) st.mem) d st:=bx
def TH (K:a8->Prop)(x:Option g7)(k:Key)(sz:Nat)(d:Option Nat)(st:a8):Prop :=
 match x with
 |some (.own er es)=>if er=sz then K ⟨put st.tm d (.ref k (bZ st.mem k) sz 0 (D es)),a2 st.mem k (bZ st.mem k) (es.flatten.map .J)⟩ else False
 |_=>False
@[go_sem] theorem aIs (k:Key)(sz:Nat)(f:FuncId)(l:List bU):gD T K ⟨d,g,.oI k sz f l⟩ st=TH K (T f (l.map (a7 st.tm)) st.mem) k sz d st:=bx
@[go_sem] theorem aIt (k:Key)(sz:Nat)(es:List (List Data)):TH K (some (.own sz es)) k sz d st=K ⟨put st.tm d (.ref k (bZ st.mem k) sz 0 (D es)),a2 st.mem k (bZ st.mem k) (es.flatten.map .J)⟩:=by simp[TH]
def adO (K:a8->Prop)(neg:Bool)(x:Option Bool)(d:Option Nat)(st:a8):Prop :=
 match x with
 |some full=>∀b:Bool,(full=true->b=false)->K ⟨put st.tm d (.J (.bool (neg != b))),st.mem⟩
 |none=>False
@[go_sem] theorem aIu (neg:Bool)(x:bU):gD T K ⟨d,g,.rk neg x⟩ st=adO K neg (Dm (a7 st.tm x)) d st:=bx
@[go_sem] theorem aIv (neg full:Bool):adO K neg (some full) d st=∀b:Bool,(full=true->b=false)->K ⟨put st.tm d (.J (.bool (neg != b))),st.mem⟩:=bx
end
section
variable {tm:Nat->R} {mem:Mem}
@[go_sem] theorem aIw (s:Nat):a7 tm (.t s)=tm s:=bx
@[go_sem] theorem aIx (m:R):a7 tm (.c m)=m:=bx
@[go_sem] theorem aIy (s:Nat)(m:R):put tm (some s) m=e5 tm s m:=bx
@[go_sem] theorem aIz (m:R):put tm none m=tm:=bx
@[go_sem] theorem aIA (s:Nat)(m:R)(t:Nat):e5 tm s m t=if t=s then m else tm t:=bx
@[go_sem] theorem Bu (k:Key)(g:Nat)(cs:List R)(j:Key):a2 mem k g cs j=if j=k then some (g,cs) else mem j:=bx
@[go_sem] theorem aIB:im mem none=mem:=bx
@[go_sem] theorem aIC (k:Key)(g:Nat)(cs:List R):im mem (some (k,g,cs))=a2 mem k g cs:=bx
def gG:Option (Nat×List R)->Nat
 |none=>0
 |some (g,_)=>g+1
@[go_sem] theorem aID (k:Key):bZ mem k=gG (mem k):=by unfold bZ gG;rfl
@[go_sem] theorem aIE:gG none=0:=bx
@[go_sem] theorem aIF (g:Nat)(cs:List R):gG (some (g,cs))=g+1:=bx
@[go_sem] theorem aIG (k:Key):emp k=none:=bx
@[go_sem] theorem aIH:pe tm none=some true:=bx
def N9 (m:R)(b:Bool):Option Bool :=
 match m with
 |.J (.bool t)=>some (t==b)
 |.no=>some false
 |_=>none
@[go_sem] theorem aII (s:Nat)(b:Bool):pe tm (some (s,b))=N9 (tm s) b:=bx
@[go_sem] theorem aIJ (b:Bool):N9 .no b=some false:=bx
variable (op:j8)
@[go_sem] theorem aIK (m:R):je (some m)=some (m,none):=bx
@[go_sem] theorem aIL (x:bU):cq mem tm (.cm x)=some (a7 tm x,none):=bx
@[go_sem] theorem aIM (c a b:bU):cq mem tm (.pick c a b)=je (FL (a7 tm c) (a7 tm a) (a7 tm b)):=bx
@[go_sem] theorem aIN (a b:R):FL (.J (.bool true)) a b=some a:=bx
@[go_sem] theorem aIO (a b:R):FL (.J (.bool false)) a b=some b:=bx
@[go_sem] theorem aIP (k:Key)(z:List R):cq mem tm (.alloc k z)=some (.ptr k (bZ mem k) 0,some (k,bZ mem k,z)):=bx
@[go_sem] theorem aIQ (k:Key)(x:bU):cq mem tm (.box k x)=if (a7 tm x).known=true then some (.ptr k (bZ mem k) 0,some (k,bZ mem k,(a7 tm x).cells)) else none:=bx
@[go_sem] theorem aIR (z:List R)(ps:List (Nat×Nat×bU)):cq mem tm (.build z ps)=je ((kt (a7 tm) z ps).map .agg):=bx
@[go_sem] theorem aIS (k:Key)(z:List R)(sz len:Nat)(ps:List (Nat×Nat×bU)):cq mem tm (.e0 k false z sz len ps)=je (Jw z sz len (kt (a7 tm) z ps)):=bx
@[go_sem] theorem aIT (k:Key)(z:List R)(sz len:Nat)(ps:List (Nat×Nat×bU)):cq mem tm (.e0 k true z sz len ps)=FM k (bZ mem k) z sz len (kt (a7 tm) z ps):=bx
@[go_sem] theorem aIU (n:Nat)(dV:Bool)(x:bU):cq mem tm (.load n dV x)=je (qo mem n dV (a7 tm x)):=bx
@[go_sem] theorem aIV (n:Nat)(x v:bU):cq mem tm (.store n x v)=x4 mem n (a7 tm x) (a7 tm v).cells:=bx
@[go_sem] theorem aIW (b:BinOp)(x y:bU):cq mem tm (.bin b x y)=je (Jt b (a7 tm x) (a7 tm y)):=bx
@[go_sem] theorem aIX (neg:Bool)(x y:bU):cq mem tm (.beq neg x y)=je (Ju neg (a7 tm x) (a7 tm y)):=bx
@[go_sem] theorem aIY (neg:Bool)(n:List Nat)(x y:bU):cq mem tm (.eqs neg n x y)=je (Jy neg n (a7 tm x) (a7 tm y)):=bx
@[go_sem] theorem aIZ (u:UnOp)(x:bU):cq mem tm (.un u x)=je (Jv u (a7 tm x)):=bx
@[go_sem] theorem aI0 (k:IntKind)(x:bU):cq mem tm (.conv k x)=je (Jz k (a7 tm x)):=bx
@[go_sem] theorem aI1 (x:bU):cq mem tm (.si x)=je (JA (a7 tm x)):=bx
@[go_sem] theorem aI2 (k:Key)(z:List R)(b:Nat)(x y:bU):cq mem tm (.mn k z b x y)=JK (idx (a7 tm x)) (idx (a7 tm y)) (FN k (bZ mem k) z b):=bx
@[go_sem] theorem aI3 (o:Nat)(x:bU):cq mem tm (.dY o x)=je (JB o (a7 tm x)):=bx
@[go_sem] theorem aI4 (o n:Nat)(dV:Bool)(x:bU):cq mem tm (.Dk o n dV x)=je (JC o n dV (a7 tm x)):=bx
@[go_sem] theorem aI5 (s:Nat)(x i:bU):cq mem tm (.kO s x i)=je (h5 (idx (a7 tm i)) λn=>zr s n (a7 tm x)):=bx
@[go_sem] theorem aI6 (n s:Nat)(x i:bU):cq mem tm (.pd n s x i)=je (h5 (idx (a7 tm i)) λm=>JD n s m (a7 tm x)):=bx
@[go_sem] theorem aI7 (x i:bU):cq mem tm (.idxs x i)=je (h5 (idx (a7 tm i)) λn=>JE n (a7 tm x)):=bx
@[go_sem] theorem aI8 (s:Nat)(x:bU)(cB M:Option bU):cq mem tm (.oH s x cB M none)=je (h5 (jF 0 (cB.map (a7 tm))) λl=>h5 (qn (a7 tm x)) λlen=>h5 (jF len (M.map (a7 tm))) λh=>JF s l h (a7 tm x)):=bx
@[go_sem] theorem aI9 (s:Nat)(x h m:bU)(cB:Option bU):cq mem tm (.oH s x cB (some h) (some m)) =
 je (h5 (jF 0 (cB.map (a7 tm))) λl=>h5 (idx (a7 tm h)) λh=>h5 (idx (a7 tm m)) λm=>JG s l h m (a7 tm x)):=bx
@[go_sem] theorem aJa (n s:Nat)(x:bU)(cB M:Option bU):cq mem tm (.ts n s x cB M none)=je (h5 (jF 0 (cB.map (a7 tm))) λl=>h5 (jF n (M.map (a7 tm))) λh=>Bj mem n s l h (a7 tm x)):=bx
@[go_sem] theorem aJb (x:bU)(cB M:Option bU):cq mem tm (.Dl x cB M)=je (h5 (jF 0 (cB.map (a7 tm))) λl=>h5 (zq (a7 tm x)) λlen=>h5 (jF len (M.map (a7 tm))) λh=>JH l h (a7 tm x)):=bx
@[go_sem] theorem aJc (i:Nat)(x:bU):cq mem tm (.ext i x)=je (JI i (a7 tm x)):=bx
@[go_sem] theorem aJd (x:bU):cq mem tm (.len x)=je (h5 (qn (a7 tm x)) λn=>some (.J (.int .i64 n))):=bx
@[go_sem] theorem aJe (x:bU):cq mem tm (.lens x)=je (h5 (zq (a7 tm x)) λn=>some (.J (.int .i64 n))):=bx
@[go_sem] theorem aJf (k:Key)(z:List R)(b:Nat)(s x:bU):cq mem tm (.app k z b s x)=rm mem k z b (a7 tm s) (qp mem (D z) (a7 tm x)):=bx
@[go_sem] theorem aJg (z:List R)(x:bU):cq mem tm (.sl z x)=x5 mem z (a7 tm x):=bx
@[go_sem] theorem aJh (s:Nat)(x y:bU):cq mem tm (.sj s x y)=wB mem s (a7 tm x) (qp mem s (a7 tm y)):=bx
@[go_sem] theorem aJi (b:Bool)(x y:bU):cq mem tm (.il b x y)=je (JJ b (a7 tm x) (a7 tm y)):=bx
@[go_sem] theorem aJj (f:FuncId)(l:List bU):cq mem tm (.pN f l)=some (.fz f (l.map (a7 tm)),none):=bx
@[go_sem] theorem aJk (n:Nat)(f:Nat->Option R):h5 (some n) f=f n:=bx
@[go_sem] theorem aJl (n m:Nat)(f:Nat->Nat->Out):JK (some n) (some m) f=f n m:=bx
def Oa (n:Nat)(dV:Bool)(g off:Nat):Option (Nat×List R)->Option R
 |some (c7,cs)=>if c7=g then (cut cs off n).bind (rl dV) else none
 |none=>none
@[go_sem] theorem aJm (n:Nat)(dV:Bool)(k:Key)(g off:Nat):qo mem n dV (.ptr k g off)=Oa n dV g off (mem k):=by unfold qo Oa;rfl
@[go_sem] theorem aJn (n:Nat)(dV:Bool)(g off:Nat)(cs:List R):Oa n dV g off (some (g,cs))=(cut cs off n).bind (rl dV):=by simp[Oa]
@[go_sem] theorem aJo (n:Nat)(dV:Bool)(ds:List Data):qo mem n dV (.J (.ptr ds))=(cut (ds.map .J) 0 n).bind (rl dV):=bx
@[go_sem] theorem aJp (n:Nat)(k:Key)(g off:Nat)(v:List R):x4 mem n (.ptr k g off) v=JL n k g off v (mem k):=bx
@[go_sem] theorem aJq (cs:List R):rl true cs=some (.agg cs):=bx
@[go_sem] theorem aJr (m:R):rl false [m]=some m:=bx
@[go_sem] theorem aJs (cs:List R):(R.agg cs).cells=cs:=bx
@[go_sem] theorem aJt (cs:List Data):(R.J (.agg cs)).cells=cs.map .J:=bx
@[go_sem] theorem aJu (k:IntKind)(n:Int):(R.J (.int k n)).cells=[.J (.int k n)]:=bx
@[go_sem] theorem aJv (b:Bool):(R.J (.bool b)).cells=[.J (.bool b)]:=bx
@[go_sem] theorem aJw (l:List UInt8):(R.J (.str l)).cells=[.J (.str l)]:=bx
@[go_sem] theorem aJx (l:List (List Data)):(R.J (.Y l)).cells=[.J (.Y l)]:=bx
@[go_sem] theorem aJy (l:List Data):(R.J (.ptr l)).cells=[.J (.ptr l)]:=bx
@[go_sem] theorem aJz (f:FuncId)(l:List Data):(R.J (.fn f l)).cells=[.J (.fn f l)]:=bx
@[go_sem] theorem aJA:R.nil.cells=[.nil]:=bx
@[go_sem] theorem aJB (k:Key)(g s o l:Nat):(R.ref k g s o l).cells=[.ref k g s o l]:=bx
@[go_sem] theorem aJC (k:Key)(g o:Nat):(R.ptr k g o).cells=[.ptr k g o]:=bx
@[go_sem] theorem aJD (f:FuncId)(l:List R):(R.fz f l).cells=[.fz f l]:=bx
@[go_sem] theorem aJE (k:IntKind)(n:Nat):idx (.J (.int k (n:Int)))=some n:=by simp[idx]
@[go_sem] theorem aJF (k:IntKind):idx (.J (.int k 0))=some 0:=bx
@[go_sem low] theorem aJG (k:IntKind)(n:Int):idx (.J (.int k n))=if 0<=n then some n.toNat else none:=bx
end
attribute [go_sem] Jx Ju Jt Jv Jz JA JB JC zr JD JE JF JG Bj Th JH JI JJ jF qn zq JL wB Bk x5 NQ FN FM Jw Jy Bi NP kt kP cut chunk
 FK NM NN NO Dm qq u5 R.one R.known qp nW dI FO JM rp rn FP JO Tj JP Tk JN Ti NR wC keyOf jG FQ rq u7 hz ka FR pO
end Go.Mini
namespace Go.Mini
open Go
variable {P:Program} {A:Nat->Prop} {w:World} {B:e4} {mem:Mem}
def Bv (w aR:World)(aZ:Nat->Prop)(sz:Nat)(es:List (List Data))(v:Value):Prop :=
 (∀e∈es,D e=sz)/\∃a cap,v=.slice a (D es) cap/\D es<=cap/\cap<=maxLen /\
  (cap=0\/∃b vs T,a=some ⟨b,0,none⟩/\w.heap.size<=b/\aR.heap[b]?=some (.cells vs T (0,0))/\cap*sz<=vs.size /\
   ∀(i:Nat) (d:Data),es.flatten[i]?=some d->∃u,vs[i]?=some u/\Den aR (λfl=>aZ fl\/fl=b) d u)
def TI (P:Program)(f:FuncId)(vs:List Value)(A:Nat->Prop)(w:World)(B:e4)(mem:Mem):g7->Prop
 |.same r=>Calls P f vs.toArray w λe aR=>∃v,e=.returned v/\Fr (λ_=>False) w aR/\Den aR (cd A B) r v
 |.own sz es=>Calls P f vs.toArray w λe aR=>∃v,e=.returned v/\Fr (λ_=>False) w aR/\Bv w aR (cd A B) sz es v
 |.rel bL=>Calls P f vs.toArray w λe aR=>∃v r mem' bu,e=.returned v/\eF A w B aR bu mem'/\bt aR (cd A bu) bu r v/\bL r mem'
 |.zs r k=>Calls P f vs.toArray w λe aR=>∃v bu,e=.returned v/\eF A w B aR bu (a2 mem k (bZ mem k) [])/\bt aR (cd A bu) bu (.J r) v
 |.e5 r k g i c=>Calls P f vs.toArray w λe aR=>∃v bu,e=.returned v/\eF A w B aR bu (a2 mem k g ((rn mem k).set i c))/\bt aR (cd A bu) bu (.J r) v
def Real (P : Program)(f : FuncId): Prop := ∃ fn c, P.funcs[f]? = some fn /\ fn.body = some c /\ (fn.name == "runtime.NumGoroutine") = false
def qB (P:Program)(T:bb):Prop:=∀f args mem pj,T f args mem=some pj->Real P f /\
 ∀A w B vs,fs A w B mem->du w (cd A B) B args vs->TI P f vs A w B mem pj
theorem Ob {f:FuncId}(h:Real P f)(args:Array Value):(callFunc f args).run P w=.ok (.enter f args) w:=by
 obtain⟨fn,c,aJ,ag,aK⟩:=h;have G : fn.name ≠ "runtime.NumGoroutine" := by simpa using aK
 simp[callFunc,aJ,G,ag]
theorem Den.less {w:World}{aZ ml:Nat->Prop}(h:∀b,ml b->aZ b){d:Data}{v:Value}(aa:Den w aZ d v):Den w ml d v :=
 aa.rj (b0 _) λb _ ag=>⟨rfl,λQ=>ag (h b Q)⟩
theorem Bv.den {w aR:World}{aZ:Nat->Prop}{sz:Nat}{es:List (List Data)}{v:Value}(az:∀b,aZ b->b<w.heap.size)(h:Bv w aR aZ sz es v):Den aR aZ (.Y es) v:=by
 obtain⟨he,a,cap,rfl,G,I,af⟩:=h;rcases af with rfl|⟨b,vs,T,rfl,aS,bm,bV,bQ⟩
 ·have:es=[]:=tC (by omega);subst this;exact .lR
 ·have J7:b<aR.heap.size:=(Array.getElem?_eq_some_iff.1 bm).1;refine .Y (sz:=sz) (λi=>vs.getD i undef) G (by omega) J7 (λbO=>by have:=az b bO;omega) he (λi M=>?_) λi d aa=>?_
  ·have az:i<D es.flatten:=by rw[NH he];exact M
   obtain⟨u,hu,_⟩:=bQ i _ (bs az);rw[cell_of_row aR b _ vs T (0,0) bm,kv,Array.getD_eq_getD_getElem?,hu]
   rfl
  ·obtain⟨u,hu,aa⟩:=bQ i d aa;rw[Array.getD_eq_getD_getElem?,hu];exact aa.less λb h => .inl h
theorem adP {aR:World}{sz:Nat}{es:List (List Data)}{v:Value}(k:Key)(b1:fs A w B mem)(f:Fr (λ_=>False) w aR)(h:Bv w aR (cd A B) sz es v):
  ∃bu,eF A w B aR bu (a2 mem k (bZ mem k) (es.flatten.map .J))/\bt aR (cd A bu) bu (.ref k (bZ mem k) sz 0 (D es)) v:=by
 obtain⟨he,a,cap,rfl,G,I,af⟩:=h;have still:=eF.still b1 f;rcases af with rfl|⟨b,vs,T,rfl,aS,bm,bV,bQ⟩
 ·have:es=[]:=tC (by omega);subst this;exact⟨_,still.trans (eF.yb still.dW k),.ref (hn _ _ _) (b0 _) ⟨_,0,rfl,G,I,.inl rfl⟩⟩
 ·have J7:b<aR.heap.size:=(Array.getElem?_eq_some_iff.1 bm).1
  have fk:∀fl,(⟨bZ mem k,some b,vs.size⟩:mm).dA=some fl->w.heap.size<=fl\/∃e,B k=some e/\e.dA=some fl:=λfl ku=>by
   cases ku;exact .inl aS
  have lr:=NH he;have hmul:(D es)*sz<=cap*sz:=vh _ G;have hold:∀fl,fl<w.heap.size->(∀e,B k=some e->e.dA≠some fl)->aR.heap[fl]?=w.heap[fl]?:=λfl ku _=>f.block fl ku id;have ba:∀e,B k=some e->(⟨bZ mem k,some b,vs.size⟩:mm)=e\/e.g<(⟨bZ mem k,some b,vs.size⟩:mm).g:=λe he => .inr (Dp b1 k e he);refine⟨gE B k ⟨bZ mem k,some b,vs.size⟩,⟨?_,Trans.change f.size hold ba fk,⟨f.os,f.tape,f.output,f.size,λfl ku _=>f.block fl ku id⟩,Tn fk⟩,?_⟩
  ·refine b1.ada (e':=⟨bZ mem k,some b,vs.size⟩) f.size hold ba fk (λh=>by cases h) λfl ku=>?_
   cases ku;refine⟨vs,T,bm,rfl,by rw[ak,lr];omega,λi m hm=>?_⟩
   rw[bj,ea] at hm;obtain⟨d,aa,rfl⟩:=hm;obtain⟨u,hu,tD⟩:=bQ i d aa;refine⟨u,hu,.J (tD.less λfl ku=>?_)⟩;rcases ku with ⟨j,e,aj,Q⟩|aN
   ·by_cases dZ:j=k
    ·subst dZ;rw[hn] at aj
     cases aj
     cases Q;exact .inr rfl
    ·rw[hf B _ dZ] at aj;exact .inl (.inl ⟨j,e,aj,Q⟩)
   ·exact .inl (.inr aN)
  ·exact .ref (hn _ _ _) (b0 _) ⟨_,cap,rfl,G,I,.inr ⟨b,rfl,λ_=>⟨rfl,by simpa using bV⟩⟩⟩
end Go.Mini
namespace Go.Mini
open Go
variable {P:Program} {T:bb} {A:Nat->Prop} {et w:World} {hp B:e4} {mem:Mem} {n:Nat}
structure hJ (n:Nat) (A:Nat->Prop) (et:World) (hp:e4) (a:Act) (st:a8) (w:World) (B:e4):Prop where
 ok:eF A et hp w B st.mem
 tm:∀s,bt w (cd A B) B (st.tm s) (a.eval (.tmp s))
 sz:a.tmps.size=n
 J8:a.defers=[]
theorem hJ.tE {a:Act}{st:a8}(h:hJ n A et hp a st w B)(x:Operand)(y:bU)(Q:dM x=some y):bt w (cd A B) B (a7 st.tm y) (a.eval x):=by
 cases x<;>simp only[dM,cl,ea,reduceCtorEq] at Q
 ·subst Q;exact h.tm _
 ·obtain⟨m,hm,rfl⟩:=Q;exact aox hm
 ·subst Q;exact .fz (vs:=[]) rfl λi d v G=>by simp at G
theorem apJ {a:Act}{s:Nat}{v:Value}(h:s<a.tmps.size):(a.put (some s) v).eval (.tmp s)=v:=by
 simp[Act.eval,Act.put,h]
theorem hJ.put {a:Act}{st:a8}{aR:World}{bu:e4}{mem':Mem}{dst:Option Nat}{r:R}{v:Value}(h:hJ n A et hp a st w B)(X:eF A w B aR bu mem')(ab:bt aR (cd A bu) bu r v)
  (aa:dst.all (λd=>decide (d<n))=true):hJ n A et hp (a.put dst v) ⟨Mini.put st.tm dst r,mem'⟩ aR bu:=by
 refine⟨h.ok.trans X,λs=>?_,?_,?_⟩
 ·cases dst with
  |none=>exact (h.tm s).rj X.mZ
  |some d =>
   simp only[Option.all_some,decide_eq_true_eq] at aa
   by_cases J9:s=d
   ·subst J9;rw[apJ (by rw[h.sz];exact aa)];simp only[Mini.put,e5,if_true];exact ab
   ·rw[Act.eval_put (λyj G I=>by cases G;cases I;exact J9 rfl)];simp only[Mini.put,e5,ah J9];exact (h.tm s).rj X.mZ
 ·cases dst<;>simp[Act.put,h.sz]
 ·cases dst<;>simp[Act.put,h.J8]
theorem TJ {a:Act}{st:a8}{ops:Array Oper}{o:Oper}{g:Option (Nat×Bool)}{b:Bool}(h:hJ n A et hp a st w B)(ba:JU ops o.guard=some g)(ag:pe st.tm g=some b):
  Region.wanted o (yielded ops a.tmps)=b:=by
 unfold Region.wanted
 cases wF:o.guard with
 |none =>
  rw[wF] at ba;simp only[JU,cl] at ba;subst ba;simp only[pe,cl] at ag;exact ag
 |some p =>
  obtain⟨j,c⟩:=p;rw[wF] at ba;simp only[JU] at ba
  split at ba
  ·rename_i s X;simp only[cl] at ba;subst ba;have aq:=h.tm s
   have av:yielded ops a.tmps j=match a.eval (.tmp s) with|.bool b=>some b|_=>none:=by
    unfold yielded;rw[X];simp only[Option.bind_some,Act.eval,Array.getD_eq_getD_getElem?]
    cases a.tmps[s]? with
    |none=>rfl
    |some v=>cases v<;>rfl
   simp only[pe] at ag;simp only[av]
   split at ag
   ·rename_i t bz;rw[bz] at aq
    cases aq with
    |J aq =>
     generalize a.eval (.tmp s)=u at *
     cases aq;simp only[cl] at ag;subst ag
     cases t<;>cases c<;>simp
   ·rename_i bz;rw[bz] at aq;generalize a.eval (.tmp s)=u at *
    cases aq;simp only[cl] at ag;subst ag
    rfl
   ·cases ag
  ·cases ba
theorem adQ {kb:Nat}{own:List Nat}{dst:Option Nat}{ty:TypeId}{op:Op}{f:FuncId}{args:List bU}(h:jH P kb own dst ty op=some (.call f args)):
  ∃c:Call,op=.call c/\c.callee=.value (.func f)/\c.args.toList.mapM dM=some args:=by
 cases op<;>simp only[jH,zu,wE] at h
 case call c =>
  refine⟨c,rfl,?_⟩;unfold x7 at h
  (repeat' split at h)<;>simp_all [ek,ea]
 all_goals ((repeat' split at h)<;>simp_all [ek,ea])
theorem apK {kb:Nat}{own:List Nat}{dst:Option Nat}{ty:TypeId}{op:Op}{f:FuncId}{cB:Nat}{args:List bU}(h:jH P kb own dst ty op=some (.mo cB f args)):
  ∃c:Call,op=.call c/\c.callee=.value (.func f)/\c.args.toList.mapM dM=some args:=by
 cases op<;>simp only[jH,zu,wE] at h
 case call c =>
  refine⟨c,rfl,?_⟩;unfold x7 at h
  (repeat' split at h)<;>simp_all [ek,ea]
  all_goals
   obtain⟨_,G,_,rfl,rfl⟩:=h;exact⟨rfl,G⟩
 all_goals ((repeat' split at h)<;>simp_all [ek,ea])
theorem apL {kb:Nat}{own:List Nat}{dst:Option Nat}{ty:TypeId}{op:Op}{f:FuncId}{cB:Nat}{args:List bU}(h:jH P kb own dst ty op=some (.tt cB f args)):
  ∃c:Call,op=.call c/\c.callee=.value (.func f)/\c.args.toList.mapM dM=some args:=by
 cases op<;>simp only[jH,zu,wE] at h
 case call c =>
  refine⟨c,rfl,?_⟩;unfold x7 at h
  (repeat' split at h)<;>simp_all [ek,ea]
  all_goals
   obtain⟨_,G,_,rfl,rfl⟩:=h;exact⟨rfl,G⟩
 all_goals ((repeat' split at h)<;>simp_all [ek,ea])
theorem apM {kb:Nat}{own:List Nat}{dst:Option Nat}{ty:TypeId}{op:Op}{f:FuncId}{cB:Nat}{args:List bU}(h:jH P kb own dst ty op=some (.sk cB f args)):
  ∃c:Call,op=.call c/\c.callee=.value (.func f)/\c.args.toList.mapM dM=some args:=by
 cases op<;>simp only[jH,zu,wE] at h
 case call c =>
  refine⟨c,rfl,?_⟩;unfold x7 at h
  (repeat' split at h)<;>simp_all [ek,ea]
  all_goals
   obtain⟨_,G,_,rfl,rfl⟩:=h;exact⟨rfl,G⟩
 all_goals ((repeat' split at h)<;>simp_all [ek,ea])
theorem adR {kb:Nat}{own:List Nat}{dst:Option Nat}{ty:TypeId}{op:Op}{f:FuncId}{k:Key}{sz:Nat}{args:List bU}(h:jH P kb own dst ty op=some (.oI k sz f args)):
  ∃c:Call,op=.call c/\c.callee=.value (.func f)/\c.args.toList.mapM dM=some args:=by
 cases op<;>simp only[jH,zu,wE] at h
 case call c =>
  refine⟨c,rfl,?_⟩;unfold x7 at h
  (repeat' split at h)<;>simp_all [ek,ea]
  obtain⟨_,_,_,_,_,G,_,_,rfl,rfl⟩:=h;exact⟨rfl,G⟩
 all_goals ((repeat' split at h)<;>simp_all [ek,ea])
theorem apN {kb:Nat}{own:List Nat}{dst:Option Nat}{ty:TypeId}{op:Op}{f:bU}{args:List bU}(h:jH P kb own dst ty op=some (.jE f args)):
  ∃(c:Call) (x:Operand),op=.call c/\c.callee=.value x/\dM x=some f/\c.args.toList.mapM dM=some args:=by
 cases op<;>simp only[jH,zu,wE] at h
 case call c =>
  refine⟨c,?_⟩;unfold x7 at h
  (repeat' split at h)<;>simp_all [ek,ea]
 all_goals ((repeat' split at h)<;>simp_all [ek,ea])
theorem apO {kb:Nat}{own:List Nat}{dst:Option Nat}{ty:TypeId}{op:Op}{neg:Bool}{x:bU}(h:jH P kb own dst ty op=some (.rk neg x)):
  ∃(t e:TypeId) (y y':Operand) (z:TypeId),op=.binOp (if neg then .neq else .eql) t y y' z/\Tm y'=true/\P.underlying t=some (.slice e)/\dM y=some x:=by
 cases op<;>simp only[jH,zu,wE] at h
 case call c =>
  unfold x7 at h
  (repeat' split at h)<;>simp_all [ek,ea]
 case binOp bop t y y' z =>
  (repeat' split at h)<;>simp_all [ek,ea]
  all_goals
   obtain⟨G,rfl⟩:=h;exact⟨_,_,_,_,⟨rfl,rfl,rfl⟩,by assumption,by assumption,G⟩
 all_goals ((repeat' split at h)<;>simp_all [ek,ea])
end Go.Mini
namespace Go.Mini
open Go
variable {P:Program} {T:bb} {A:Nat->Prop} {et w:World} {hp B:e4} {mem:Mem} {n:Nat}
theorem apP {t e:TypeId}{y y':Operand}{m:R}{u v:Value}{aZ:Nat->Prop}{full:Bool}(neg:Bool)(bz:P.underlying t=some (.slice e))(hm:bt w aZ B m u)(aJ:Dm m=some full)(aq:v=.slice none 0 0):
  ∃b:Bool,(full=true->b=false)/\((do eqGuard (if neg then .neq else .eql) t y y' u v;binOp (if neg then .neq else .eql) t u v:Sem Value)).run P w=.ok (.bool (neg != b)) w:=by
 subst aq
 have shape:∃a len cap,u=.slice a len cap/\(full=true->a.isNone=false):=by
  cases m<;>simp only[Dm,reduceCtorEq] at aJ
  case J d =>
   cases d<;>simp only[Dm,cl,reduceCtorEq] at aJ
   cases hm with
   |J aa =>
    cases aa with
    |lR=>exact⟨_,_,_,rfl,λh=>by cases aJ;cases h⟩
    |Y=>exact⟨_,_,_,rfl,λ_=>rfl⟩
  case nil =>
   cases hm with
   |nil=>exact⟨_,_,_,rfl,λh=>by cases aJ;cases h⟩
  case ref k g sz off len =>
   cases hm with
   |ref he ba ab =>
    obtain⟨a,cap,rfl,G,I,af⟩:=ab;refine⟨_,_,_,rfl,λh=>?_⟩;simp only[cl] at aJ;subst aJ;simp only[decide_eq_true_eq] at h;rcases af with af|⟨b,rfl,_⟩
    ·omega
    ·rfl
 obtain⟨a,len,cap,rfl,ag⟩:=shape;refine⟨a.isNone,ag,?_⟩
 have he:∀d,(Op.equalIn (d+1) t (.slice a len cap) (.slice none 0 0)).run P w=.ok a.isNone w:=λd=>by
  unfold Op.equalIn;simp only[Sem.run_bind,run_underlying bz,Result.andThen_ok]
  cases a<;>rfl
 have heq:(Op.equal t (.slice a len cap) (.slice none 0 0)).run P w=.ok a.isNone w:=he 9999;rw[NU (by simp) (by simp)]
 cases neg
 ·simp only[kR,if_false,Sem.run_bind,Sem.run_pure,Result.andThen_ok];show (do pure (Value.bool (<-Op.equal t (.slice a len cap) (.slice none 0 0))):Sem Value).run P w=_
  simp[heq]
 ·simp only[if_true,Sem.run_bind,Sem.run_pure,Result.andThen_ok];show (do pure (Value.bool (!(<-Op.equal t (.slice a len cap) (.slice none 0 0)))):Sem Value).run P w=_
  simp[heq]
structure TK (P:Program) (n kb:Nat) (own:List Nat) (ops:Array Oper) (o:Oper) (i:c8):Prop where
 dst:i.dst=o.dst
 guard:JU ops o.guard=some i.g
 op:i.op=(jH P kb own o.dst o.type o.op).getD .bad
 lt:o.dst.all (λd=>decide (d<n))=true
theorem adS {kb:Nat}{own:List Nat}{ops:Array Oper}{o:Oper}{i:c8}(h:Bl P n kb own ops o=some i):TK P n kb own ops o i:=by
 unfold Bl at h
 split at h
 ·rename_i g ba
  split at h
  ·rename_i az
   cases h;exact⟨rfl,ba,rfl,az⟩
  ·cases h
 ·cases h
theorem apQ {K:a8->Prop}{i:c8}{st:a8}(h:gD T K i st):
  (∃m e,cq st.mem st.tm i.op=some (m,e)/\K ⟨put st.tm i.dst m,im st.mem e⟩) \/
  (∃f args,i.op=.call f args/\u6 T K st i.dst f (args.map (a7 st.tm))) \/
  (∃k sz f args es,i.op=.oI k sz f args/\T f (args.map (a7 st.tm)) st.mem=some (.own sz es)/\K ⟨put st.tm i.dst (.ref k (bZ st.mem k) sz 0 (D es)),a2 st.mem k (bZ st.mem k) (es.flatten.map .J)⟩) \/
  (∃f args,i.op=.jE f args/\((∃g eP,a7 st.tm f=.fz g eP/\u6 T K st i.dst g (args.map (a7 st.tm)++eP))\/(∃g ds,a7 st.tm f=.J (.fn g ds)/\u6 T K st i.dst g (args.map (a7 st.tm)++ds.map .J)))) \/
  (∃neg x full,i.op=.rk neg x/\Dm (a7 st.tm x)=some full/\∀b:Bool,(full=true->b=false)->K ⟨put st.tm i.dst (.J (.bool (neg != b))),st.mem⟩):=by
 obtain⟨dst,g,op⟩:=i;unfold gD at h
 split at h
 ·rename_i f args m0;exact .inr (.inl ⟨f,args,m0,h⟩)
 ·rename_i k sz f args m0
  split at h
  ·rename_i er es he
   split at h
   ·rename_i X;subst X;exact .inr (.inr (.inl ⟨k,_,f,args,es,m0,he,h⟩))
   ·cases h
  ·cases h
 ·rename_i f args m0;refine .inr (.inr (.inr (.inl ⟨f,args,m0,?_⟩)))
  split at h
  ·rename_i g eP aJ;exact .inl ⟨g,eP,aJ,h⟩
  ·rename_i g ds aJ;exact .inr ⟨g,ds,aJ,h⟩
  ·cases h
 ·rename_i neg x m0
  split at h
  ·rename_i full aJ;exact .inr (.inr (.inr (.inr ⟨neg,x,full,m0,aJ,h⟩)))
  ·cases h
 ·split at h
  ·rename_i m e he;exact .inl ⟨m,e,he,h⟩
  ·cases h
theorem getD_some {α:Type}{x:Option α}{b c:α}(h:c=x.getD b)(ag:c≠b):x=some c:=by
 cases x with
 |none=>exact absurd h ag
 |some y=>simp at h;rw[h]
theorem adT (cL:qB P T){K:a8->Prop}{a:Act}{st:a8}{o:Oper}{aM:Exit->Act->World->Prop}{f:FuncId}{args:List R}{vs:List Value}(h:hJ n A et hp a st w B)(az:o.dst.all (λd=>decide (d<n))=true)
  (aq:du w (cd A B) B args vs) (O:u6 T K st o.dst f args) (m3:Real P f->(execOp a.eval o).run P w=.ok (.enter f vs.toArray) w) :
  o.wp P a w (λjK aR=>∃dT bu,K dT/\hJ n A et hp jK dT aR bu) aM:=by
 unfold u6 at O;unfold Oper.wp
 cases iv:T f args st.mem with
 |none=>rw[iv] at O;exact O.elim
 |some pj =>
  obtain⟨mz,ju⟩:=cL f args st.mem pj iv;have H:=ju A w B vs h.ok.dW aq;rw[iv] at O;rw[m3 mz]
  cases pj with
  |same r =>
   refine Calls.mono H λe aR he=>?_;obtain⟨v,rfl,bX,aa⟩:=he;exact⟨_,B,O,h.put (.still h.ok.dW bX) (.J aa) az⟩
  |own sz es =>
   refine Calls.mono H λe aR he=>?_;obtain⟨v,rfl,bX,aa⟩:=he;refine⟨_,B,O,h.put (.still h.ok.dW bX) (.J (aa.den λb ag=>?_)) az⟩;rcases ag with ag|ag
   ·exact h.ok.dW.x3 ag
   ·exact h.ok.dW.lt b ag
  |zs r k =>
   refine Calls.mono H λe aR he=>?_;obtain⟨v,bu,rfl,dv,ln⟩:=he;exact⟨_,bu,O,h.put dv ln az⟩
  |rel bL =>
   refine Calls.mono H λe aR he=>?_;obtain⟨v,r,mem',bu,rfl,X,aa,fZ⟩:=he;exact⟨_,bu,O r mem' fZ,h.put X aa az⟩
  |e5 r k g i c =>
   refine Calls.mono H λe aR he=>?_;obtain⟨v,bu,rfl,X,aa⟩:=he;exact⟨_,bu,O,h.put X aa az⟩
theorem apR {aZ:Nat->Prop}{m:R}{u:Value}{g:FuncId}{eP:List R}(hm:bt w aZ B m u)(h:m=.fz g eP\/∃ds,m=.J (.fn g ds)/\eP=ds.map .J):
  ∃cs:List Value,u=.func (.func g) #[] cs.toArray/\du w aZ B eP cs:=by
 rcases h with rfl|⟨ds,rfl,rfl⟩
 ·cases hm with
  |fz aw aa=>exact⟨_,rfl,aw,aa⟩
 ·cases hm with
  |J aa =>
   cases aa with
   |fn aw aa=>exact⟨_,rfl,du.J aw aa⟩
theorem apS (cL:qB P T){K:a8->Prop}{kb:Nat}{own:List Nat}{ops:Array Oper}{a:Act}{st:a8}{o:Oper}{i:c8}{aM:Exit->Act->World->Prop}(h:hJ n A et hp a st w B)(M:TK P n kb own ops o i)
  (O:gD T K i st):o.wp P a w (λjK aR=>∃dT bu,K dT/\hJ n A et hp jK dT aR bu) aM:=by
 have m0:=M.op;rcases apQ O with ⟨m,e,X,dK⟩|⟨f,args,he,dK⟩|⟨k,sz,f,args,es,he,iv,dK⟩|⟨f,args,he,dK⟩|⟨neg,x,full,he,aJ,dK⟩
 ·have a0:jH P kb own o.dst o.type o.op=some i.op:=getD_some m0 (by
   intro ag;rw[ag] at X
   cases X)
  obtain⟨Gj,v,aR,bu,m3,hR,dv,aq⟩:=adL h.ok.dW h.tE a0 X;unfold Oper.wp;rw[m3];rw[M.dst] at dK;have Ka:=h.put dv aq M.lt;rcases hR with rfl|⟨rfl,rfl⟩
  ·exact⟨_,bu,dK,Ka⟩
  ·exact⟨_,bu,dK,Ka⟩
 ·have a0:jH P kb own o.dst o.type o.op=some i.op:=getD_some m0 (by rw[he];simp);rw[he] at a0;obtain⟨c,H,mA,n2⟩:=adQ a0;rw[M.dst] at dK;refine adT cL h M.lt (yi h.tE n2) dK λmz=>?_;obtain⟨dst,op,type,pos,after,guard⟩:=o;simp only at H;subst H;obtain⟨callee,zF,Oc⟩:=c;simp only at mA;subst mA;simp only[execOp,resolve,Deferred.ofValue,Act.eval,invoke,Sem.run_bind,Sem.run_pure,Result.andThen_ok,Ob mz];rw[Bs zF];simp
 ·have a0:jH P kb own o.dst o.type o.op=some i.op:=getD_some m0 (by rw[he];simp);rw[he] at a0;obtain⟨c,H,mA,n2⟩:=adR a0;rw[M.dst] at dK;obtain⟨mz,ju⟩:=cL f _ st.mem _ iv;have hA:=ju A w B _ h.ok.dW (yi h.tE n2);have az:=M.lt;obtain⟨dst,op,type,pos,after,guard⟩:=o;simp only at H;subst H;obtain⟨callee,zF,Oc⟩:=c;simp only at mA n2;subst mA
  have m3:(execOp a.eval ⟨dst,.call ⟨.value (.func f),zF,Oc⟩,type,pos,after,guard⟩).run P w=.ok (.enter f (zF.toList.map a.eval).toArray) w:=by
   simp only[execOp,resolve,Deferred.ofValue,Act.eval,invoke,Sem.run_bind,Sem.run_pure,Result.andThen_ok,Ob mz];rw[Bs zF];simp
  unfold Oper.wp;rw[m3];refine Calls.mono hA λe aR pS=>?_;obtain⟨v,rfl,bX,aa⟩:=pS;obtain⟨bu,dv,aq⟩:=adP k h.ok.dW bX aa;exact⟨_,bu,dK,h.put dv aq az⟩
 ·have a0:jH P kb own o.dst o.type o.op=some i.op:=getD_some m0 (by rw[he];simp);rw[he] at a0;obtain⟨c,x,H,mA,Q,n2⟩:=apN a0;rw[M.dst] at dK;have apT:=h.tE _ _ Q
  have main:∀g eP,(a7 st.tm f=.fz g eP\/∃ds,a7 st.tm f=.J (.fn g ds)/\eP=ds.map .J)->u6 T K st o.dst g (args.map (a7 st.tm)++eP)->o.wp P a w (λjK aR=>∃dT bu,K dT/\hJ n A et hp jK dT aR bu) aM:=by
   intro g eP ba dK;obtain⟨cs,hu,bW⟩:=apR apT ba;refine adT cL h M.lt ((yi h.tE n2).append bW) dK λmz=>?_;obtain⟨dst,op,type,pos,after,guard⟩:=o;simp only at H;subst H;obtain⟨callee,zF,Oc⟩:=c;simp only at mA;subst mA;simp only[execOp,resolve,hu,Deferred.ofValue,invoke,Sem.run_bind,Sem.run_pure,Result.andThen_ok,Ob mz];rw[Bs zF];simp
  rcases dK with ⟨g,eP,ba,dK⟩|⟨g,ds,ba,dK⟩
  ·exact main g eP (.inl ba) dK
  ·exact main g _ (.inr ⟨ds,ba,rfl⟩) dK
 ·have a0:jH P kb own o.dst o.type o.op=some i.op:=getD_some m0 (by rw[he];simp);rw[he] at a0;obtain⟨t,e,y,y',z,H,aK,bz,av⟩:=apO a0;rw[M.dst] at dK
  have TL:a.eval y' = .slice none 0 0:=by
   unfold Tm at aK
   split at aK
   ·rfl
   ·cases aK
  obtain⟨b,ag,m3⟩:=apP (y:=y) (y':=y') neg bz (h.tE _ _ av) aJ TL;obtain⟨dst,op,type,pos,after,guard⟩:=o;simp only at H;subst H;unfold Oper.wp
  have:(execOp a.eval ⟨dst,.binOp (if neg then .neq else .eql) t y y' z,type,pos,after,guard⟩).run P w=.ok (.value (.bool (neg != b))) w:=by
   simp only[execOp];rw[Sem.run_bind,m3]
   rfl
  rw[this];exact⟨_,B,dK b ag,h.put (.refl h.ok.dW) (.J .bool) M.lt⟩
end Go.Mini
namespace Go.Mini
open Go
variable {T:bb}
theorem fH {tm tm':Nat->R}{x:bU}(h:∀s∈fo x,tm s=tm' s):a7 tm x=a7 tm' x:=by
 cases x with
 |t s=>exact h s (by simp[fo])
 |c m=>rfl
theorem map_congr {tm tm':Nat->R}{l:List bU}(h:∀s∈l.flatMap fo,tm s=tm' s):l.map (a7 tm)=l.map (a7 tm') :=
 m4 λx Q=>fH λs X=>h s (yk.2 ⟨x,Q,X⟩)
theorem Od {tm tm':Nat->R}{l:List bU}(h:∀s∈l.flatMap fo,tm s=tm' s):(l.map λx=>qq (a7 tm x))=l.map λx=>qq (a7 tm' x) :=
 m4 λx Q=>by rw[fH λs X=>h s (yk.2 ⟨x,Q,X⟩)]
theorem DG {tm tm':Nat->R}{x:Option bU}(h:∀s∈x8 x,tm s=tm' s):x.map (a7 tm)=x.map (a7 tm'):=by
 cases x with
 |none=>rfl
 |some x =>
  cases x with
  |t s=>simp[a7,h s (by simp[x8])]
  |c m=>rfl
theorem TM {tm tm':Nat->R}:∀{ps:List (Nat×Nat×bU)} (cs:List R),(∀s∈ps.flatMap (λp=>fo p.2.2),tm s=tm' s)->kt (a7 tm) cs ps=kt (a7 tm') cs ps
 | [],_,_=>rfl
 |(o,s,x)::ps,cs,h=>by
  have G:a7 tm x=a7 tm' x:=fH λt bz=>h t (yk.2 ⟨(o,s,x),by simp,bz⟩);simp only[kt,G]
  split
  ·exact TM _ λt bz=>h t (by simp only[List.flatMap_cons,jj];exact .inr bz)
  ·rfl
theorem apU {mem:Mem}{tm tm':Nat->R}{op:j8}(h:∀s∈sq op,tm s=tm' s):cq mem tm op=cq mem tm' op:=by
 cases op<;>simp only[sq,jj] at h
 case cm x=>simp only[cq,kQ,fH h]
 case pick c a b=>simp only[cq,kQ,fH (λs X=>h s (.inl (.inl X))),fH (λs X=>h s (.inl (.inr X))),fH (λs X=>h s (.inr X))]
 case alloc=>rfl
 case box k x=>simp only[cq,fH h]
 case build z ps=>simp only[cq,kQ,TM _ h]
 case e0 k o z sz len ps=>cases o<;>simp only[cq,kQ,TM _ h]
 case load n dV x=>simp only[cq,fH h]
 case store n x v=>simp only[cq,fH (λs X=>h s (.inl X)),fH (λs X=>h s (.inr X))]
 case bin o x y=>simp only[cq,kQ,fH (λs X=>h s (.inl X)),fH (λs X=>h s (.inr X))]
 case beq o x y=>simp only[cq,kQ,fH (λs X=>h s (.inl X)),fH (λs X=>h s (.inr X))]
 case eqs o l x y=>simp only[cq,kQ,fH (λs X=>h s (.inl X)),fH (λs X=>h s (.inr X))]
 case rk=>rfl
 case un o x=>simp only[cq,kQ,fH h]
 case conv k x=>simp only[cq,kQ,fH h]
 case si x=>simp only[cq,kQ,fH h]
 case mn k z b x y=>simp only[cq,fH (λs X=>h s (.inl X)),fH (λs X=>h s (.inr X))]
 case dY o x=>simp only[cq,kQ,fH h]
 case Dk o n dV x=>simp only[cq,kQ,fH h]
 case kO s x i=>simp only[cq,kQ,fH (λs X=>h s (.inl X)),fH (λs X=>h s (.inr X))]
 case pd n s x i=>simp only[cq,kQ,fH (λs X=>h s (.inl X)),fH (λs X=>h s (.inr X))]
 case idxs x i=>simp only[cq,kQ,fH (λs X=>h s (.inl X)),fH (λs X=>h s (.inr X))]
 case oH s x a b c =>
  have G:=fH (λs X=>h s (.inl (.inl (.inl X))));have I:=DG (λs X=>h s (.inl (.inl (.inr X))));have af:=DG (λs X=>h s (.inl (.inr X)));have aS:=DG (λs X=>h s (.inr X))
  cases b<;>cases c<;>simp only[mw,adU,cl] at af aS<;>simp only[cq,kQ,mw,adU,G,I,af,aS]
 case ts n s x a b c =>
  have G:=fH (λs X=>h s (.inl (.inl (.inl X))));have I:=DG (λs X=>h s (.inl (.inl (.inr X))));have af:=DG (λs X=>h s (.inl (.inr X)))
  cases c<;>simp only[cq,kQ,G,I,af]
 case Dl x a b=>simp only[cq,kQ,fH (λs X=>h s (.inl (.inl X))),DG (λs X=>h s (.inl (.inr X))),DG (λs X=>h s (.inr X))]
 case ext i x=>simp only[cq,kQ,fH h]
 case len x=>simp only[cq,kQ,fH h]
 case lens x=>simp only[cq,kQ,fH h]
 case app k z b s x=>simp only[cq,fH (λs X=>h s (.inl X)),fH (λs X=>h s (.inr X))]
 case sj s d x=>simp only[cq,fH (λs X=>h s (.inl X)),fH (λs X=>h s (.inr X))]
 case sl z x=>simp only[cq,fH h]
 case il o x y=>simp only[cq,kQ,fH (λs X=>h s (.inl X)),fH (λs X=>h s (.inr X))]
 case call=>rfl
 case oI=>rfl
 case jE=>rfl
 case mo=>rfl
 case tt=>rfl
 case sk=>rfl
 case pN f l=>simp only[cq,kQ,map_congr h]
 case bad=>rfl
theorem adV {mem:Mem}{tm tm':Nat->R}{op:j8}(h:∀s∈sq op,tm s=tm' s):hz T mem tm op=hz T mem tm' op:=by
 cases op
 case call f l =>
  have:=Od (l:=l) (tm:=tm) (tm':=tm') (by simpa [sq] using h);simp only[hz,this]
 case oI k sz f l =>
  have:=Od (l:=l) (tm:=tm) (tm':=tm') (by simpa [sq] using h);simp only[hz,this]
 case jE=>rfl
 case rk=>rfl
 case mo cB f l =>
  have:=map_congr (l:=l) (tm:=tm) (tm':=tm') (by simpa [sq] using h);simp only[hz,this]
 case tt j f l =>
  have G:=map_congr (l:=l) (tm:=tm) (tm':=tm') (by simpa [sq] using h);have I:=Od (l:=l) (tm:=tm) (tm':=tm') (by simpa [sq] using h);simp only[hz,G,I]
 case sk j f l =>
  have G:=map_congr (l:=l) (tm:=tm) (tm':=tm') (by simpa [sq] using h);have I:=Od (l:=l) (tm:=tm) (tm':=tm') (by simpa [sq] using h);simp only[hz,G,I]
 all_goals exact apU (mem:=mem) h
theorem adW {tm tm':Nat->R}{op:j8}(h:∀s∈sq op,tm s=tm' s):dI tm op=dI tm' op:=by
 cases op<;>simp only[sq,jj] at h<;>try rfl
 case e0 k o z sz len ps=>cases o<;>rfl
 case load n dV x=>simp only[dI,fH h]
 case ts n s x a b c=>simp only[dI,fH (λs X=>h s (.inl (.inl (.inl X))))]
 case store n x v=>simp only[dI,fH (λs X=>h s (.inl X))]
 case app k z b s x=>simp only[dI,fH (λs X=>h s (.inl X)),fH (λs X=>h s (.inr X))]
 case sj s d x=>simp only[dI,fH (λs X=>h s (.inl X)),fH (λs X=>h s (.inr X))]
 case mo cB f l=>simp only[dI,map_congr h]
 case tt j f l=>simp only[dI,map_congr h]
 case sk j f l=>simp only[dI,map_congr h]
 case sl z x=>simp only[dI,fH h]
theorem apV {n:Nat}{m:R}{aM:Key->Prop}(h:∀x∈FO n m,aM x.key):∀j∈keyOf m,aM j:=by
 cases m<;>simp_all [FO,keyOf,nk.key]
theorem adX {mem mem':Mem}{sz:Nat}{m:R}(h:∀k∈keyOf m,mem k=mem' k):qp mem sz m=qp mem' sz m:=by
 cases m<;>try rfl
 case J d=>cases d<;>rfl
 simp only[qp];rw[h _ (by simp[keyOf])]
theorem apW {mem mem':Mem}{k:Key}{z:List R}{b:Nat}{m:R}{row:Option (Nat×List R)}(O:mem k=mem' k)(h:∀j∈keyOf m,mem j=mem' j):rm mem k z b m row=rm mem' k z b m row:=by
 cases m<;>cases row<;>try rfl
 ·simp only[rm,bZ,O]
 ·simp only[rm];rw[h _ (by simp[keyOf])]
theorem apX {mem mem':Mem}{sz:Nat}{m:R}{row:Option (Nat×List R)}(h:∀j∈keyOf m,mem j=mem' j):wB mem sz m row=wB mem' sz m row:=by
 cases m<;>cases row<;>try rfl
 simp only[wB];rw[h _ (by simp[keyOf])]
theorem apY {mem mem':Mem}{z:List R}{m:R}(h:∀j∈keyOf m,mem j=mem' j):x5 mem z m=x5 mem' z m:=by
 cases m<;>try rfl
 simp only[x5];rw[h _ (by simp[keyOf])]
theorem apZ {mem mem':Mem}{n:Nat}{dV:Bool}{m:R}(h:∀j∈keyOf m,mem j=mem' j):qo mem n dV m=qo mem' n dV m:=by
 cases m<;>try rfl
 case J d=>cases d<;>rfl
 simp only[qo];rw[h _ (by simp[keyOf])]
theorem ap0 {mem mem':Mem}{n:Nat}{m:R}{v:List R}(h:∀j∈keyOf m,mem j=mem' j):x4 mem n m v=x4 mem' n m v:=by
 cases m<;>try rfl
 simp only[x4];rw[h _ (by simp[keyOf])]
theorem ap1 {mem mem':Mem}{n s a b:Nat}{m:R}(h:∀j∈keyOf m,mem j=mem' j):Bj mem n s a b m=Bj mem' n s a b m:=by
 cases m<;>try rfl
 simp only[Bj];rw[h _ (by simp[keyOf])]
theorem ap2 {mem mem':Mem}{tm:Nat->R}{op:j8}(h:∀x∈dI tm op,mem x.key=mem' x.key):cq mem tm op=cq mem' tm op:=by
 have Gj:∀k,mem k=mem' k->bZ mem k=bZ mem' k:=λk O=>by simp only[bZ,O]
 cases op<;>try rfl
 case alloc k z=>simp only[cq,Gj k (h (.hy k) (by simp[dI]))]
 case box k x=>simp only[cq,Gj k (h (.hy k) (by simp[dI]))]
 case e0 k o z sz len ps =>
  cases o
  ·rfl
  ·simp only[cq,Gj k (h (.hy k) (by simp[dI]))]
 case mn k z b x y=>simp only[cq,Gj k (h (.hy k) (by simp[dI]))]
 case load n dV x =>
  simp only[cq];rw[apZ (apV (aM:=λj=>mem j=mem' j) h)]
 case ts n s x a b c =>
  cases c
  ·simp only[cq]
   congr 2
   funext l
   congr 1
   funext aT
   exact ap1 λj aj=>h (.hy j) (by simp[dI,aj])
  ·rfl
 case store n x v =>
  simp only[cq];exact ap0 λj aj=>h (.hy j) (by simp[dI,aj])
 case app k z b s x =>
  have cx:∀j,j=k\/j∈keyOf (a7 tm s)\/j∈keyOf (a7 tm x)->mem j=mem' j:=λj aj=>h (.hy j) (by simpa [dI] using aj);simp only[cq,adX (sz:=D z) (λj aj=>cx j (.inr (.inr aj)))];exact apW (cx k (.inl rfl)) λj aj=>cx j (.inr (.inl aj))
 case sj s d x =>
  have cx:∀j,j∈keyOf (a7 tm d)\/j∈keyOf (a7 tm x)->mem j=mem' j:=λj aj=>h (.hy j) (by simpa [dI] using aj);simp only[cq,adX (sz:=s) (λj aj=>cx j (.inr aj))];exact apX λj aj=>cx j (.inl aj)
 case sl z x =>
  simp only[cq];exact apY λj aj=>h (.hy j) (by simp[dI,aj])
theorem adY {mem mem':Mem}{tm:Nat->R}{op:j8}(H:∀cB f l,op ≠ .mo cB f l)(h:∀x∈dI tm op,mem x.key=mem' x.key):hz T mem tm op=hz T mem' tm op:=by
 cases op
 case call=>rfl
 case oI k sz f l =>
  have:bZ mem k=bZ mem' k:=by
   have:=h (.hy k) (by simp[dI]);simp only[nk.key] at this;simp only[bZ,this]
  simp only[hz,this]
 case mo cB f l=>exact absurd rfl (H cB f l)
 case tt j f l =>
  simp only[hz]
  cases hm:(l.map (a7 tm))[j]? with
  |none=>rfl
  |some m =>
   cases m<;>try rfl
   have:=h (.hy _) (by simp only[dI,hm,wC];exact gv);simp only[nk.key] at this;simp only[JO,this]
 case sk j f l =>
  simp only[hz]
  cases hm:(l.map (a7 tm))[j]? with
  |none=>rfl
  |some m =>
   cases m<;>try rfl
   have:=h (.hy _) (by simp only[dI,hm,wC];exact gv);simp only[nk.key] at this;simp only[JP,this]
 case jE=>rfl
 case rk=>rfl
 all_goals exact ap2 (mem:=mem) (mem':=mem') (tm:=tm) h
theorem Oe {x:Option R}{m:R}{e:Option (Key×Nat×List R)}(h:je x=some (m,e)):e=none:=(adH h).2
theorem ap3 {mem:Mem}{tm:Nat->R}{op:j8}{m:R}{e:Option (Key×Nat×List R)}(h:cq mem tm op=some (m,e)):e=none\/(jG op=true/\∃k g cs,e=some (k,g,cs) /\ .hy k∈dI tm op):=by
 cases op<;>try (first|exact .inl (Oe h)|exact .inl (Oe (x:=some _) h))
 case alloc k z =>
  simp only[cq,cl,e6] at h;exact .inr ⟨rfl,_,_,_,h.2.symm,by simp[dI]⟩
 case box k x =>
  simp only[cq] at h
  split at h<;>simp only[cl,e6,reduceCtorEq] at h
  exact .inr ⟨rfl,_,_,_,h.2.symm,by simp[dI]⟩
 case e0 k o z sz len ps =>
  cases o
  ·exact .inl (Oe h)
  ·simp only[cq,FM] at h
   (repeat' split at h)<;>simp only[cl,e6,reduceCtorEq] at h
   exact .inr ⟨rfl,_,_,_,h.2.symm,by simp[dI]⟩
 case mn k z b x y =>
  obtain⟨_,_,_,_,h⟩:=adI h;simp only[FN] at h
  split at h<;>simp only[cl,e6,reduceCtorEq] at h
  exact .inr ⟨rfl,_,_,_,h.2.symm,by simp[dI]⟩
 case ts n s x a b c =>
  cases c
  ·exact .inl (Oe h)
  ·cases h
 case store n x v =>
  simp only[cq] at h
  cases Q:a7 tm x<;>rw[Q] at h<;>simp only[x4,reduceCtorEq] at h
  simp only[JL] at h
  (repeat' split at h)<;>simp only[cl,e6,reduceCtorEq] at h
  exact .inr ⟨rfl,_,_,_,h.2.symm,by simp[dI,Q,keyOf]⟩
 case app k z b s x =>
  simp only[cq] at h
  cases ab:qp mem (D z) (a7 tm x)<;>cases X:a7 tm s<;>rw[ab,X] at h<;>simp only[rm,reduceCtorEq] at h
  ·split at h<;>simp only[cl,e6,reduceCtorEq] at h
   exact .inr ⟨rfl,_,_,_,h.2.symm,by simp[dI]⟩
  ·simp only[mq] at h
   (repeat' split at h)<;>simp only[cl,e6,reduceCtorEq] at h
   exact .inr ⟨rfl,_,_,_,h.2.symm,by simp[dI,X,keyOf]⟩
 case sj s d x =>
  simp only[cq] at h
  cases ab:qp mem s (a7 tm x)<;>cases X:a7 tm d<;>rw[ab,X] at h<;>simp only[wB,reduceCtorEq] at h
  simp only[Bk] at h
  (repeat' split at h)<;>simp only[cl,e6,reduceCtorEq] at h
  exact .inr ⟨rfl,_,_,_,h.2.symm,by simp[dI,X,keyOf]⟩
 case sl z x =>
  simp only[cq] at h
  cases X:a7 tm x<;>rw[X] at h<;>simp only[x5,reduceCtorEq] at h
  simp only[NQ] at h
  (repeat' split at h)<;>simp only[cl,e6,reduceCtorEq] at h
  exact .inr ⟨rfl,_,_,_,h.2.symm,by simp[dI,X,keyOf]⟩
 all_goals cases h
theorem adZ {mem:Mem}{j:Nat}{f:FuncId}{ms:List R}{x:Option R}{m:R}{e:Option (Key×Nat×List R)}(h:JO T mem j f ms x=some (m,e)):
  ∃k g sz off len cs d r,x=some (.ref k g sz off len)/\mem k=some (g,cs)/\JN sz off len cs=some d/\NR (T f (ms.set j (.J d)) emp)=some r/\m=.J r/\e=some (k,bZ mem k,[]):=by
 unfold JO at h
 split at h
 ·rename_i k g sz off len;unfold Tj at h
  split at h
  ·rename_i c7 cs hm
   split at h
   ·rename_i ba;subst ba
    split at h
    ·rename_i d aa
     split at h
     ·rename_i r ab;simp only[cl,e6] at h;exact⟨k,_,sz,off,len,cs,d,r,rfl,hm,aa,ab,h.1.symm,by rw[<-h.2];simp[bZ,hm]⟩
     ·cases h
    ·cases h
   ·cases h
  ·cases h
 ·cases h
theorem ad0 {mem:Mem}{j:Nat}{f:FuncId}{ms:List R}{x:Option R}{m:R}{e:Option (Key×Nat×List R)}(h:JP T mem j f ms x=some (m,e)):
  ∃k g sz off len c7 cs r,x=some (.ref k g sz off len)/\mem k=some (c7,cs)/\nX cs=true/\T f (ms.set j (.ref k g sz off len)) (a2 emp k c7 cs)=some (.zs r k)/\m=.J r/\e=some (k,bZ mem k,[]):=by
 unfold JP at h
 split at h
 ·rename_i k g sz off len;unfold Tk at h
  split at h
  ·rename_i c7 cs hm
   split at h
   ·rename_i aa
    split at h
    ·rename_i r k' ab
     split at h
     ·rename_i O;subst O;simp only[cl,e6] at h;exact⟨_,g,sz,off,len,c7,cs,r,rfl,hm,aa,ab,h.1.symm,by rw[<-h.2];simp[bZ,hm]⟩
     ·cases h
    ·cases h
   ·cases h
  ·cases h
 ·cases h
theorem ad1 {cB:Nat}{mem:Mem}{ms:List R}{x:Option g7}{m:R}{e:Option (Key×Nat×List R)}(h:FP cB mem ms x=some (m,e)):
  ∃r k g i c cs,x=some (.e5 r k g i c)/\mem k=some (g,cs)/\m=.J r/\e=some (k,g,cs.set i c)/\JM cB ms=[.wr k i]:=by
 unfold FP at h
 split at h
 ·rename_i k g off rest r k' c7 i c
  split at h
  ·rename_i DH cs hm
   split at h
   ·rename_i H;obtain⟨rfl,rfl,rfl⟩:=H;simp only[cl,e6] at h;exact⟨r,_,_,_,c,cs,rfl,hm,h.1.symm,h.2.symm,rfl⟩
   ·cases h
  ·cases h
 ·cases h
theorem TN {mem:Mem}{tm:Nat->R}{op:j8}{m:R}{e:Option (Key×Nat×List R)}(h:hz T mem tm op=some (m,e)):e=none\/(jG op=true/\∃k g cs,e=some (k,g,cs)/\(.hy k∈dI tm op\/∃i c tF,dI tm op=[.wr k i]/\mem k=some (g,tF)/\cs=tF.set i c)):=by
 have pl:cq mem tm op=some (m,e)->e=none\/(jG op=true/\∃k g cs,e=some (k,g,cs)/\(.hy k∈dI tm op\/∃i c tF,dI tm op=[.wr k i]/\mem k=some (g,tF)/\cs=tF.set i c)):=λh=>by
  rcases ap3 h with h|⟨G,k,g,cs,I,af⟩
  ·exact .inl h
  ·exact .inr ⟨G,k,g,cs,I,.inl af⟩
 cases op
 case call f l =>
  simp only[hz] at h
  split at h<;>simp only[cl,e6,reduceCtorEq] at h
  ·exact .inl h.2.symm
  ·exact .inl h.2.symm
 case oI k sz f l =>
  simp only[hz] at h
  (repeat' split at h)<;>simp only[cl,e6,reduceCtorEq] at h
  exact .inr ⟨rfl,_,_,_,h.2.symm,.inl (by simp[dI])⟩
 case jE=>cases h
 case rk=>cases h
 case mo cB f l =>
  obtain⟨r,k,g,i,c,cs,-,hm,-,he,aJ⟩:=ad1 h;exact .inr ⟨rfl,k,g,_,he,.inr ⟨i,c,cs,aJ,hm,rfl⟩⟩
 case tt j f l =>
  simp only[hz] at h;obtain⟨k,g,sz,off,len,cs,d,r,Q,hm,-,-,-,he⟩:=adZ h;exact .inr ⟨rfl,k,_,_,he,.inl (by simp only[dI,Q,wC];exact gv)⟩
 case sk j f l =>
  simp only[hz] at h;obtain⟨k,g,sz,off,len,c7,cs,r,Q,hm,-,-,-,he⟩:=ad0 h;exact .inr ⟨rfl,k,_,_,he,.inl (by simp only[dI,Q,wC];exact gv)⟩
 all_goals exact pl h
theorem ap4 {tm:Nat->R}{op:j8}{b:nk}(ag:b∈dI tm op):(∃k,b=.hy k)\/(∃n dV x k g off,op=.load n dV x/\a7 tm x=.ptr k g off/\b=.rd k off (off+n))\/∃cB f l,op=.mo cB f l:=by
 cases op
 case load n dV x =>
  simp only[dI] at ag
  cases Q:a7 tm x<;>rw[Q] at ag<;>simp[FO] at ag
  ·exact .inl ⟨_,ag⟩
  ·exact .inr (.inl ⟨_,_,_,_,_,_,rfl,Q,ag⟩)
 case mo cB f l=>exact .inr (.inr ⟨_,_,_,rfl⟩)
 case tt j f l =>
  simp only[dI] at ag
  cases hm:(l.map (a7 tm))[j]? with
  |none=>rw[hm] at ag;simp[wC] at ag
  |some m =>
   rw[hm] at ag
   cases m<;>simp[wC] at ag
   exact .inl ⟨_,ag⟩
 case sk j f l =>
  simp only[dI] at ag
  cases hm:(l.map (a7 tm))[j]? with
  |none=>rw[hm] at ag;simp[wC] at ag
  |some m =>
   rw[hm] at ag
   cases m<;>simp[wC] at ag
   exact .inl ⟨_,ag⟩
 case e0 k o z sz len ps =>
  cases o<;>simp[dI] at ag;exact .inl ⟨_,ag⟩
 all_goals
  simp[dI] at ag
  try first
   |exact .inl ⟨_,ag⟩
   |(rcases ag with ⟨k,_,h⟩|⟨k,_,h⟩<;>exact .inl ⟨k,h.symm⟩)
   |(rcases ag with h|⟨k,_,h⟩|⟨k,_,h⟩<;>first|exact .inl ⟨_,h⟩|exact .inl ⟨_,h.symm⟩)
   |(obtain⟨k,_,h⟩:=ag;exact .inl ⟨k,h.symm⟩)
theorem ap5 {cs:List R}{i off n:Nat}{c:R}(h:i<off\/off+n<=i):cut (cs.set i c) off n=cut cs off n:=by
 unfold cut;rw[iQ]
 split
 ·congr 1
  rcases h with h|h
  ·rw[tG h]
  ·by_cases M:i<off
   ·rw[tG M]
   ·rw[List.drop_set,ah M,List.take_set_of_le (by omega)]
 ·rfl
theorem ap6 {mem:Mem}{k g i:Nat}{c:R}{cs:List R}{n:Nat}{dV:Bool}{k' c7 off:Nat}(hm:mem k=some (g,cs))(h:k'≠k\/i<off\/off+n<=i):
  qo (a2 mem k g (cs.set i c)) n dV (.ptr k' c7 off)=qo mem n dV (.ptr k' c7 off):=by
 by_cases O:k'=k
 ·subst O;have h:=h.resolve_left (λh=>h rfl);simp only[qo,a2,if_true,hm,ap5 h]
 ·simp only[qo,a2,O,if_false]
theorem ad2 {mem:Mem}{tm:Nat->R}{x y:j8}{m:R}{e:Option (Key×Nat×List R)}(ap7:hz T mem tm x=some (m,e))(aN:rq (jG x,dI tm x) (jG y,dI tm y)=true):hz T (im mem e) tm y=hz T mem tm y:=by
 rcases TN ap7 with rfl|⟨hw,k,g,cs,rfl,O⟩
 ·rfl
 ·have fg:∀a∈dI tm x,∀b∈dI tm y,rp a b=true:=by
   unfold rq at aN
   simpa [hw] using aN
  have ap8:∀cB f l,y=.mo cB f l->dI tm y=[]:=by
   rintro cB f l rfl
   cases ag:dI tm (.mo cB f l) with
   |nil=>rfl
   |cons b r =>
    exfalso
    have ku:∃k' bk,b=.wr k' bk:=by
     simp only[dI] at ag;unfold JM at ag
     split at ag
     ·cases ag;exact⟨_,_,rfl⟩
     ·cases ag
    obtain⟨k',bk,rfl⟩:=ku;have hm:nk.wr k' bk∈dI tm (.mo cB f l):=by rw[ag];exact gv
    rcases O with O|⟨i,c,tF,aJ,_,_⟩
    ·have:=fg _ O _ hm;simp[rp] at this
    ·have:=fg (.wr k i) (by rw[aJ];exact gv) _ hm;simp[rp] at this
  by_cases av:∃cB f l,y=.mo cB f l
  ·obtain⟨cB,f,l,rfl⟩:=av;have ar:=ap8 _ _ _ rfl;simp only[dI] at ar
   have aW:∀mem' ji,FP cB mem' (l.map (a7 tm)) ji=none:=by
    intro mem' ji;unfold FP
    split
    ·rename_i heq;rw[heq] at ar;simp[JM] at ar
    ·rfl
   simp only[hz,aW]
  ·have H:∀cB f l,y ≠ .mo cB f l:=λcB f l h=>av ⟨cB,f,l,h⟩;rcases O with O|⟨i,c,tF,aJ,hm,rfl⟩
   ·refine (adY H λb ag=>?_).symm;have G:=fg _ O b ag
    have:b.key≠k:=by
     rintro rfl
     cases b<;>simp[rp,nk.key] at G
    simp[im,a2,this]
   ·have G:=fg (.wr k i) (by rw[aJ];exact gv)
    by_cases aw:∃n dV z k' c7 off,y=.load n dV z/\a7 tm z=.ptr k' c7 off
    ·obtain⟨n,dV,z,k',c7,off,rfl,aW⟩:=aw;have I:=G (.rd k' off (off+n)) (by simp[dI,aW,FO]);simp only[hz,cq,aW,im];rw[ap6 hm];simp[rp] at I;exact I
    ·refine (adY H λb ag=>?_).symm
     exfalso
     rcases ap4 ag with ⟨k',rfl⟩|⟨n,dV,z,k',c7,off,af,aS,_⟩|⟨cB,f,l,af⟩
     ·have:=G _ ag;simp[rp] at this
     ·exact aw ⟨n,dV,z,k',c7,off,af,aS⟩
     ·exact H _ _ _ af
theorem ad3 {tm:Nat->R}{op:j8}(h:sn op=0):dI tm op=[]/\jG op=false:=by
 cases op<;>simp_all [sn,jG,dI]
 all_goals (rename_i b _ _ _ _;cases b<;>simp_all [jG,dI])
theorem ad4 {op:j8}(h:sn op=1):jG op=false:=by
 cases op<;>simp_all [sn,jG]
 all_goals (rename_i b _ _ _ _;cases b<;>simp_all [jG])
end Go.Mini
namespace Go.Mini
open Go
variable {T:bb} {jP:Nat->Nat->Bool}
def yl (T:bb)(jP:Nat->Nat->Bool)(i:Nat)(x:c8)(rec:Rec)(st:a8)(zG:Rec)(dT:a8):Prop :=
 (pe st.tm x.g=some false/\zG=rec/\dT=⟨put st.tm x.dst .no,st.mem⟩) \/
 (pe st.tm x.g=some true/\∃m e,hz T st.mem st.tm x.op=some (m,e)/\(∀p q,jP p i=true->rec p=some q->rq q (jG x.op,dI st.tm x.op)=true) /\
  zG=u7 rec i (jG x.op,dI st.tm x.op)/\dT=⟨put st.tm x.dst m,im st.mem e⟩)
theorem wK {tm:Nat->R}{dst:Option Nat}{m:R}{s:Nat}(h:dst≠some s):put tm dst m s=tm s:=by
 cases dst with
 |none=>rfl
 |some d =>
  have:s≠d:=λe=>h (by rw[e]);simp[put,this]
theorem put_comm {tm:Nat->R}{d yj:Option Nat}{m m':R}(h:∀s,d=some s->yj≠some s):put (put tm d m) yj m'=put (put tm yj m') d m:=by
 funext s
 by_cases G:d=some s
 ·rw[wK (h s G)];subst G;simp[put]
 ·rw[wK (dst:=d) G]
  by_cases I:yj=some s
  ·subst I;simp[put]
  ·rw[wK I,wK I,wK G]
theorem ad5 {tm tm':Nat->R}{g:Option (Nat×Bool)}(h:∀s b,g=some (s,b)->tm s=tm' s):pe tm g=pe tm' g:=by
 cases g with
 |none=>rfl
 |some p =>
  obtain⟨s,b⟩:=p;simp only[pe,h s b rfl]
theorem ad6 {x y:c8}(h:x9 x y=true):(∀d,x.dst=some d->d ∉ Bm y)/\(∀d,x.dst=some d->y.dst≠some d)/\(∀d,y.dst=some d->d ∉ Bm x):=by
 refine⟨λd aa=>?_,λd aa=>?_,λd aa=>?_⟩<;>simp[x9,aa] at h
 ·exact h.1.1
 ·exact h.1.2
 ·exact h.2
theorem Of {x:c8}{s:Nat}(h:s∈sq x.op):s∈Bm x:=by simp[Bm,h]
theorem ad7 {x:c8}{s:Nat}{b:Bool}(h:x.g=some (s,b)):s∈Bm x:=by simp[Bm,h]
theorem ap9 (a b:nk):rp a b=rp b a:=by
 have H:∀k k':Nat,(k==k')=(k'==k):=λk k'=>BEq.comm
 cases a<;>cases b<;>first|rfl|(unfold rp;dsimp only;rw[H])
theorem ad8 {a b:Bool×List nk}(h:rq a b=true):rq b a=true:=by
 unfold rq at *;simp only[ym,Bool.not_eq_true',Bool.or_eq_false_iff,lU] at *;rcases h with ⟨G,I⟩|h
 ·exact .inl ⟨I,G⟩
 ·exact .inr λx Q y av=>by rw[ap9];exact h y av x Q
theorem aqa {mem:Mem}{e e':Option (Key×Nat×List R)}(h:∀j g cs lS c7 nm,e=some (j,g,cs)->e'=some (lS,c7,nm)->j≠lS):im (im mem e) e'=im (im mem e') e:=by
 cases e with
 |none=>rfl
 |some p =>
  cases e' with
  |none=>rfl
  |some pU =>
   obtain⟨j,g,cs⟩:=p;obtain⟨lS,c7,nm⟩:=pU;have bG:=h _ _ _ _ _ _ rfl rfl
   funext k
   simp only[im,a2]
   by_cases G:k=lS
   ·by_cases I:k=j
    ·exact absurd (I.symm.trans G) bG
    ·simp[G,I];intro af;exact absurd af.symm bG
   ·simp[G]
def Passes (jP:Nat->Nat->Bool)(i j:Nat)(x y:c8):Prop:=jP i j=true\/zv (sn x.op) (sn y.op)=true
theorem aqb {i j:Nat}{x y:c8}{tm:Nat->R}(h:Passes jP i j x y)(H:jP i j=true->rq (jG x.op,dI tm x.op) (jG y.op,dI tm y.op)=true):
  rq (jG x.op,dI tm x.op) (jG y.op,dI tm y.op)=true:=by
 rcases h with h|h
 ·exact H h
 ·unfold zv at h;simp only[ym,eW,beq_iff_eq] at h;rcases h with (h|h)|⟨G,I⟩
  ·obtain⟨G,I⟩:=ad3 (tm:=tm) h;simp[rq,G]
  ·obtain⟨G,I⟩:=ad3 (tm:=tm) h;simp[rq,G]
  ·have G:=ad4 G;have I:=ad4 I;simp[rq,G,I]
theorem yl.comm {i j:Nat}{x y:c8}{rec rB Og:Rec}{st rC Oh:a8}(mB:i≠j)(dz:x9 x y=true)(aE:Passes jP i j x y)(TO:∀a b,jP a b=jP b a)(h8:rec i=none)
  (G:yl T jP i x rec st rB rC) (I:yl T jP j y rB rC Og Oh):∃Kb Kc,yl T jP j y rec st Kb Kc/\yl T jP i x Kb Kc Og Oh:=by
 obtain⟨aN,ag,H⟩:=ad6 dz
 -- what one sees of the other's temporary: nothing
 have aqc:∀m,pe (put st.tm x.dst m) y.g=pe st.tm y.g:=λm=>ad5 λs b X=>wK λaa=>aN s aa (ad7 X);have aqd:∀mem m,hz T mem (put st.tm x.dst m) y.op=hz T mem st.tm y.op:=λmem m=>adV λs X=>wK λaa=>aN s aa (Of X);have aqe:∀m,dI (put st.tm x.dst m) y.op=dI st.tm y.op:=λm=>adW λs X=>wK λaa=>aN s aa (Of X);have Oi:∀m,pe (put st.tm y.dst m) x.g=pe st.tm x.g:=λm=>ad5 λs b X=>wK λaa=>H s aa (ad7 X);have ad9:∀mem m,hz T mem (put st.tm y.dst m) x.op=hz T mem st.tm x.op:=λmem m=>adV λs X=>wK λaa=>H s aa (Of X);have Oj:∀m,dI (put st.tm y.dst m) x.op=dI st.tm x.op:=λm=>adW λs X=>wK λaa=>H s aa (Of X);have lY:∀m m',put (put st.tm x.dst m) y.dst m'=put (put st.tm y.dst m') x.dst m:=λm m'=>put_comm ag;rcases G with ⟨cz,rfl,rfl⟩|⟨cz,dO,ay,s1,aI,rfl,rfl⟩<;>rcases I with ⟨cf,rfl,rfl⟩|⟨cf,cJ,aC,s2,c2,rfl,rfl⟩<;>simp only[aqc,aqd,aqe] at *
 ·exact⟨_,_,.inl ⟨cf,rfl,rfl⟩,.inl ⟨by simp only[Oi];exact cz,rfl,by simp only[lY]⟩⟩
 ·exact⟨_,_,.inr ⟨cf,cJ,aC,s2,c2,rfl,rfl⟩,.inl ⟨by simp only[Oi];exact cz,rfl,by simp only[lY]⟩⟩
 ·exact⟨_,_,.inl ⟨cf,rfl,rfl⟩,.inr ⟨by simp only[Oi];exact cz,dO,ay,by simp only[ad9];exact s1,by simp only[Oj];exact aI,by simp only[Oj],by simp only[lY]⟩⟩
 ·have aea:jP i j=true->rq (jG x.op,dI st.tm x.op) (jG y.op,dI st.tm y.op)=true:=λh=>c2 i _ h (by simp[u7]);have Bw:=aqb (tm:=st.tm) aE aea;have TP:hz T st.mem st.tm y.op=some (cJ,aC):=by rw[<-s2];exact (ad2 s1 Bw).symm
  have gh:∀j g cs lS c7 nm,ay=some (j,g,cs)->aC=some (lS,c7,nm)->j≠lS:=by
   rintro k g cs k' c7 nm rfl rfl rfl;rcases TN s1 with h|⟨hw,dc,cf,nr,h,G⟩
   ·cases h
   ·cases h;rcases TN TP with h|⟨aeb,eI,g3,aJH,h,I⟩
    ·cases h
    ·cases h;unfold rq at Bw;simp only[hw,Bool.true_or,Bool.not_true,Bool.false_or,lU] at Bw;rcases G with G|⟨i,c,tF,G,_,_⟩<;>rcases I with I|⟨bk,c',aJI,I,_,_⟩
     ·have:=Bw _ G _ I;simp[rp] at this
     ·have:=Bw _ G (.wr k bk) (by rw[I];exact gv);simp[rp] at this
     ·have:=Bw (.wr k i) (by rw[G];exact gv) _ I;simp[rp] at this
     ·have:=Bw (.wr k i) (by rw[G];exact gv) (.wr k bk) (by rw[I];exact gv);simp[rp] at this
  refine⟨_,_,.inr ⟨cf,cJ,aC,TP,λp q Ok hq=>?_,rfl,rfl⟩,.inr ⟨by simp only[Oi];exact cz,dO,ay,?_,?_,?_,?_⟩⟩
  ·have bG:p≠i:=λh=>by rw[h,h8] at hq;cases hq
   exact c2 p q Ok (by simp[u7,bG,hq])
  ·simp only[ad9];rw[<-s1];exact ad2 TP (ad8 Bw)
  ·simp only[Oj];intro p q zH hq
   by_cases Ok:p=j
   ·subst Ok;simp only[u7,if_true,cl] at hq;subst hq;exact ad8 (aea (by rw[TO];exact zH))
   ·simp only[u7,Ok,if_false] at hq;exact aI p q zH hq
  ·simp only[Oj]
   funext p
   simp only[u7]
   by_cases G:p=i
   ·subst G;simp[mB]
   ·simp[G]
  ·simp only[lY];rw[aqa gh]
end Go.Mini
namespace Go.Mini
open Go
variable {T:bb} {jP:Nat->Nat->Bool} {ops:Array Oper} {l:List c8} {K:a8->Prop}
def Gk (T:bb)(jP:Nat->Nat->Bool)(ops:Array Oper)(l:List c8)(K:a8->Prop):Nat->Array Bool->Rec->a8->Prop
 |0,eU,_,st=>Region.ready .any ops eU=[]/\K st
 |fuel+1,eU,rec,st=>(Region.ready .any ops eU=[]->K st) /\
  ∀i∈Region.ready .any ops eU,∃x zG dT,l[i]?=some x/\yl T jP i x rec st zG dT/\Gk T jP ops l K fuel (eU.setIfInBounds i true) zG dT
def Bx (ops:Array Oper)(eU:Array Bool):Prop :=
 eU.size=ops.size/\∀(j:Nat) (o:Oper),ops[j]?=some o->eU.getD j false=true->∀e∈o.after,Region.binds .any e=true->eU.getD e.on false=true
theorem Bx.set {eU:Array Bool}{i:Nat}(h:Bx ops eU)(M:i∈Region.ready .any ops eU):Bx ops (eU.setIfInBounds i true):=by
 refine⟨by simp[h.1],λj o aj aw e he ag=>?_⟩
 by_cases h9:j=i
 ·subst h9;obtain⟨_,Kd,bO,fg⟩:=mem_ready.1 M;rw[aj] at bO
  cases bO;exact getD_set_true (fg e he ag)
 ·rw[getD_set_ne false (Ne.symm h9)] at aw;exact getD_set_true (h.2 j o aj aw e he ag)
def TQ (jP:Nat->Nat->Bool)(ops:Array Oper)(l:List c8):Prop :=
 ∀(i j:Nat) (x y:c8),i≠j->l[i]?=some x->l[j]?=some y ->
  (∀eU,Bx ops eU->i∈Region.ready .any ops eU->j∈Region.ready .any ops eU->False)\/(x9 x y=true/\Passes jP i j x y)
theorem aec {i k:Nat}{x:c8}{rec zG:Rec}{st dT:a8}(h:yl T jP i x rec st zG dT)(O:k≠i):zG k=rec k:=by
 rcases h with ⟨_,rfl,_⟩|⟨_,_,_,_,_,rfl,_⟩
 ·rfl
 ·simp[u7,O]
theorem aqf {eU:Array Bool}{i k:Nat}(h:(eU.setIfInBounds i true).getD k true=false):k≠i/\eU.getD k true=false:=by
 by_cases pk:i=k
 ·subst pk
  exfalso
  by_cases az:i<eU.size
  ·simp[az] at h
  ·have:(eU.setIfInBounds i true).size<=i:=by simp;omega
   rw[Array.getD_eq_getD_getElem?,Array.getElem?_eq_none this] at h;simp at h
 ·rw[getD_set_ne true pk] at h;exact⟨λcx=>pk cx.symm,h⟩
theorem aqg (aE:TQ jP ops l)(TO:∀a b,jP a b=jP b a){i:Nat}{x:c8}(M:l[i]?=some x):∀(fuel:Nat) (eU:Array Bool) (rec:Rec) (st:a8) (rB:Rec) (rC:a8),
  Bx ops eU->(∀k,eU.getD k true=false->rec k=none)->i∈Region.ready .any ops eU->yl T jP i x rec st rB rC ->
  Gk T jP ops l K fuel (eU.setIfInBounds i true) rB rC->Gk T jP ops l K (fuel+1) eU rec st:=by
 intro fuel
 induction fuel with
 |zero =>
  intro eU rec st rB rC eM Bz ab he hS;refine⟨λh=>(by rw[h] at ab;cases ab),λj aj=>?_⟩
  by_cases h9:j=i
  ·subst h9;exact⟨x,rB,rC,M,he,hS⟩
  ·have:=ready_mono aj h9;rw[hS.1] at this
   cases this
 |succ fuel aA =>
  intro eU rec st rB rC eM Bz ab he hS;refine⟨λh=>(by rw[h] at ab;cases ab),λj aj=>?_⟩
  by_cases h9:j=i
  ·subst h9;exact⟨x,rB,rC,M,he,hS⟩
  ·obtain⟨y,Og,Oh,av,hT,dK⟩:=hS.2 j (ready_mono aj h9);rcases aE i j x y (Ne.symm h9) M av with gH|⟨dz,aqh⟩
   ·exact (gH eU eM ab aj).elim
   ·obtain⟨Kb,Kc,G,I⟩:=yl.comm (Ne.symm h9) dz aqh TO (Bz i (mem_ready.1 ab).1) he hT;refine⟨y,Kb,Kc,av,G,aA _ Kb Kc Og Oh (eM.set aj) (λk O=>?_) (ready_mono ab (Ne.symm h9)) I ?_⟩
    ·obtain⟨af,aS⟩:=aqf O;rw[aec G af];exact Bz k aS
    ·rw[Array.setIfInBounds_comm _ _ h9];exact dK
theorem TR:∀(r:List Oper) (acc:List Nat) (k:Nat),k<(D acc)->(qs r acc).getD k 0=acc.getD k 0
 | [],acc,k,_=>rfl
 |o::r,acc,k,O=>by
  simp only[qs];rw[TR r _ k (by simp;omega)];simp only[dX];rw[qv O]
theorem aqi {es:List Edge}{acc:List Nat}{i:Nat}:∀(s:Nat),(es.foldl (λs e=>if Region.binds .any e=true then s ||| (2^e.on ||| acc.getD e.on 0) else s) s).testBit i=true ->
  s.testBit i=true\/∃e∈es,Region.binds .any e=true/\(e.on=i\/(acc.getD e.on 0).testBit i=true):=by
 induction es with
 |nil=>exact λs h => .inl h
 |cons e es aA =>
  intro s h;rw[Bn] at h;rcases aA _ h with G|⟨e',G,I⟩
  ·split at G
   ·rename_i ag;rw[aed,aed,ym,ym] at G;rcases G with G|G|G
    ·exact .inl G
    ·rw[Nat.testBit_two_pow] at G;exact .inr ⟨e,by simp,ag,.inl (by simpa using G)⟩
    ·exact .inr ⟨e,by simp,ag,.inr G⟩
   ·exact .inl G
  ·exact .inr ⟨e',by simp[G],I⟩
theorem aee:∀(r:List Oper) (acc:List Nat) (t:Nat) (o:Oper),r[t]?=some o->∀i,((qs r acc).getD (D acc+t) 0).testBit i=true ->
  ∃e∈o.after.toList,Region.binds .any e=true/\(e.on=i\/(e.on<D acc+t/\((qs r acc).getD e.on 0).testBit i=true))
 | [],_,_,_,h,_,_=>by simp at h
 |Kd::r,acc,0,o,h,i,ag=>by
  simp at h;subst h;simp only[qs,nZ] at ag ⊢;rw[TR r _ _ (by simp)] at ag;simp only[dX] at ag;rw[ru (b0 _)] at ag;simp only[mu,zI,DI] at ag;rcases aqi (acc:=acc) 0 (by simpa only [dX] using ag) with G|⟨e,G,I,af⟩
  ·simp at G
  ·refine⟨e,G,I,af.imp id λh=>?_⟩
   have az:e.on<D acc:=by
    rcases iq e.on (D acc) with cx|cx
    ·exact cx
    ·rw[dX,mr cx] at h;simp at h
   refine⟨az,?_⟩;rw[TR r _ _ (by simp;omega),dX,qv az,<-dX];exact h
 |Kd::r,acc,t+1,o,h,i,ag=>by
  have cx:r[t]?=some o:=by simpa using h
  simp only[qs] at ag ⊢
  have:=aee r (acc++[Kd.after.toList.foldl (λs e=>if Region.binds .any e=true then s ||| (2^e.on ||| acc.getD e.on 0) else s) 0]) t o cx i (by
   rw[fG,List.length_singleton,qu,zp 1 t];exact ag)
  obtain⟨e,G,I,af⟩:=this;refine⟨e,G,I,af.imp id λh=>⟨by have:=h.1;simp at this;omega,h.2⟩⟩
theorem aqj {eU:Array Bool}(eM:Bx ops eU):∀(j:Nat) (o:Oper),ops[j]?=some o->(∀e∈o.after,Region.binds .any e=true->eU.getD e.on false=true) ->
  ∀i,((qs ops.toList []).getD j 0).testBit i=true->eU.getD i false=true:=by
 intro j
 induction j using Nat.strongRecOn with
 |_ j aA =>
  intro o bO fg i M;obtain⟨e,he,ag,h⟩:=aee ops.toList [] j o (by simpa using bO) i (by simpa using M);have aw:=fg e (by simpa using he) ag;rcases h with rfl|⟨az,aqk⟩
  ·exact aw
  ·have ew:e.on<ops.size:=by
    rw[<-eM.1];rcases iq e.on eU.size with cx|cx
    ·exact cx
    ·simp[Array.getElem?_eq_none cx] at aw
   have aef:ops[e.on]?=some ops[e.on]:=Array.getElem?_eq_getElem ew;exact aA e.on (by simpa using az) _ aef (eM.2 e.on _ aef aw) i aqk
theorem aeg:∀(cs pre:List c8) (as:List Nat),FV pre cs as=true->∀(t:Nat) (y:c8),cs[t]?=some y->∀(i:Nat) (x:c8),(pre++cs)[i]?=some x->i<D pre+t ->
  (as.getD t 0).testBit i=true\/x9 x y=true
 | [],_,_,_,_,_,h,_,_,_,_=>by simp at h
 |_::_,_,[],h,_,_,_,_,_,_,_=>by simp[FV] at h
 |c::cs,pre,a::as,h,0,y,av,i,x,Q,az=>by
  simp only[FV,eW,lU] at h;simp at av;subst av;have M:i<D pre:=by simpa using az
  rw[qv M] at Q;have:=h.1 (x,i) (by rw[aeh];exact Q)
  simpa using this
 |c::cs,pre,a::as,h,t+1,y,av,i,x,Q,az=>by
  simp only[FV,eW] at h;have:=aeg cs (pre++[c]) as h.2 t y (by simpa using av) i x (by simpa using Q) (by simp;omega)
  simpa using this
theorem aei:∀(cs pre:List c8) (as:List Nat) (t:Nat) (y:c8),cs[t]?=some y->∀(i:Nat) (x:c8),(pre++cs)[i]?=some x->i<D pre+t ->
  (as.getD t 0).testBit i=true\/zv (sn x.op) (sn y.op)=true\/i∈(zw pre cs as).getD t []
 | [],_,_,_,_,h,_,_,_,_=>by simp at h
 |c::cs,pre,as,0,y,av,i,x,Q,az=>by
  simp at av;subst av;have M:i<D pre:=by simpa using az
  rw[qv M] at Q;have gr:(x,i)∈pre.zipIdx:=by rw[aeh];exact Q
  by_cases G:(as.getD 0 0).testBit i=true
  ·exact .inl G
  ·by_cases I:zv (sn x.op) (sn c.op)=true
   ·exact .inr (.inl I)
   ·refine .inr (.inr ?_);simp only[zw,dX,zI,DI];refine List.mem_map.2 ⟨(x,i),List.mem_filter.2 ⟨gr,?_⟩,rfl⟩;have af:as.headD 0=as.getD 0 0:=by cases as<;>rfl
    simp only[af];rw[dX] at G;simp[G,I]
 |c::cs,pre,as,t+1,y,av,i,x,Q,az=>by
  have:=aei cs (pre++[c]) as.tail t y (by simpa using av) i x (by simpa using Q) (by simp;omega);have af:as.tail.getD t 0=as.getD (t+1) 0:=by cases as<;>simp
  rw[af] at this
  simpa [zw] using this
def wL (c:List (List Nat))(i j:Nat):Bool:=if i<j then (c.getD j []).contains i else if j<i then (c.getD i []).contains j else false
theorem aej (c:List (List Nat))(i j:Nat):wL c i j=wL c j i:=by
 unfold wL
 by_cases G:i<j
 ·simp[G,aek G]
 ·by_cases I:j<i
  ·simp[I,aek I]
  ·simp[G,I]
theorem aql {x y:c8}(h:x9 x y=true):x9 y x=true:=by
 obtain⟨G,I,af⟩:=ad6 h;unfold x9;rw[eW]
 constructor
 ·cases av:y.dst with
  |none=>rfl
  |some d =>
   have a:=af d av;have b:x.dst≠some d:=λQ=>I d Q av;simp[a,b]
 ·cases Q:x.dst with
  |none=>rfl
  |some d =>
   have a:=G d Q;simp[a]
theorem aqm (a b:Nat):zv a b=zv b a:=by
 unfold zv
 cases (a==0)<;>cases (b==0)<;>cases (a==1)<;>cases (b==1)<;>rfl
theorem aqn (aa:FX ops l=true):TQ (wL (zw [] l (qs ops.toList []))) ops l:=by
 have key:∀(i j:Nat) (x y:c8),i<j->l[i]?=some x->l[j]?=some y ->
   (∀eU,Bx ops eU->i∈Region.ready .any ops eU->j∈Region.ready .any ops eU->False) \/
   (x9 x y=true/\(wL (zw [] l (qs ops.toList [])) i j=true\/zv (sn x.op) (sn y.op)=true)):=by
  intro i j x y mB Q av;unfold FX at aa;rw[eW] at aa
  by_cases ag:((qs ops.toList []).getD j 0).testBit i=true
  ·refine .inl λeU eM M aj=>?_;obtain⟨_,o,bO,fg⟩:=mem_ready.1 aj;have G:=aqj eM j o bO fg i ag;have ar:=(mem_ready.1 M).1;rcases iq i eU.size with cx|cx
   ·simp[cx] at ar G;rw[ar] at G;cases G
   ·simp[Array.getElem?_eq_none cx] at G
  ·refine .inr ⟨?_,?_⟩
   ·rcases aeg l [] _ aa.2 j y av i x (by simpa using Q) (by simpa using mB) with h|h
    ·exact absurd h ag
    ·exact h
   ·rcases aei l [] (qs ops.toList []) j y av i x (by simpa using Q) (by simpa using mB) with h|h|h
    ·exact absurd h ag
    ·exact .inr h
    ·exact .inl (by unfold wL;rw[ad mB];exact ael.2 h)
 intro i j x y mB Q av;rcases Nat.lt_or_gt_of_ne mB with h|h
 ·exact key i j x y h Q av
 ·rcases key j i y x h av Q with G|⟨G,I⟩
  ·exact .inl λeU eM M aj=>G eU eM aj M
  ·refine .inr ⟨aql G,?_⟩;rcases I with I|I
   ·exact .inl (by rw[aej];exact I)
   ·exact .inr (by rw[aqm];exact I)
end Go.Mini
namespace Go.Mini
open Go
variable {P:Program} {T:bb} {A:Nat->Prop} {et w:World} {hp B:e4} {mem:Mem} {n kb:Nat} {own:List Nat} {ops:Array Oper} {l:List c8} {K:a8->Prop} {aM:Exit->Act->World->Prop}
theorem aem:∀(r:List Oper) (m:Nat),FW m r=true->∀(t:Nat) (o:Oper),r[t]?=some o->∀e∈o.after,Region.binds .any e=true->e.on<m+t
 | [],_,_,_,_,h,_,_,_=>by simp at h
 |Kd::r,m,h,0,o,bO,e,he,ag=>by
  simp only[FW,eW] at h;simp at bO;subst bO;have:=(Array.all_eq_true_iff_forall_mem.1 h.1) e he
  simpa [ag] using this
 |Kd::r,m,h,t+1,o,bO,e,he,ag=>by
  simp only[FW,eW] at h;have:=aem r (m+1) h.2 t o (by simpa using bO) e he ag;omega
theorem aen {c:List (List Nat)}(aE:TQ (wL c) ops l)(aw:(D l)=ops.size)(he:FW 0 ops.toList=true):∀(r:List c8) (m:Nat) (rec:Rec) (st:a8) (eU:Array Bool),l.drop m=r->m+D r=(D l) ->
  eU.size=ops.size->(∀i,i<ops.size->eU.getD i true=decide (i<m))->(∀k,m<=k->rec k=none)->wD T K m r (c.drop m) rec st->Gk T (wL c) ops l K (D r) eU rec st
 | [],m,rec,st,eU,ab,hm,X,hli,Bz,h=>by
  refine⟨List.eq_nil_iff_forall_not_mem.2 λi M=>?_,h⟩;obtain⟨G,o,bO,_⟩:=mem_ready.1 M;have az:i<ops.size:=(Array.getElem?_eq_some_iff.1 bO).1;rw[hli i az] at G;simp at G hm;omega
 |x::r,m,rec,st,eU,ab,hm,X,hli,Bz,h=>by
  have az:m<ops.size:=by simp at hm;omega
  have bO:ops[m]?=some ops[m]:=Array.getElem?_eq_getElem az
  have Q:l[m]?=some x:=by
   have:(l.drop m)[0]?=some x:=by rw[ab];rfl
   simpa using this
  have ju:=λ(j:Nat) (o:Oper) (aj:ops[j]?=some o)=>aem ops.toList 0 he j o (by simpa using aj)
  have cF:∀i,i<m->eU.getD i false=true:=λi M=>by
   have G:=hli i (by omega);rw[lQ M] at G;have I:i<eU.size:=by omega
   simpa [I] using G
  have eM:Bx ops eU:=⟨X,λj o aj jf e pS ag=>by
   have G:=ju j o aj e pS ag;have np:j<ops.size:=(Array.getElem?_eq_some_iff.1 aj).1
   have I:j<m:=by
    have:=hli j np;have af:j<eU.size:=by omega
    simp[af] at jf this;rw[jf] at this
    simpa using this.symm
   exact cF _ (by omega)⟩
  have aqo:m∈Region.ready .any ops eU:=mem_ready.2 ⟨by rw[hli m az];simp,_,bO,λe pS ag=>cF _ (by have:=ju m _ bO e pS ag;omega)⟩
  have aqp:∀k,eU.getD k true=false->rec k=none:=λk O=>Bz k (by
   rcases iq k ops.size with cx|cx
   ·rw[hli k cx] at O
    simpa using O
   ·omega)
  have next:∀rB rC,yl T (wL c) m x rec st rB rC->wD T K (m+1) r (c.drop m).tail rB rC->Gk T (wL c) ops l K (D r+1) eU rec st:=by
   intro rB rC hex O;refine aqg aE (aej c) Q _ eU rec st rB rC eM aqp aqo hex (aen aE aw he r (m+1) rB rC _ ?_ (by simp at hm;omega) (by simpa using X) (λi M=>?_) (λk O=>?_) ?_)
   ·rw[<-Gl,ab]
    rfl
   ·by_cases him:m=i
    ·subst him;have:m<eU.size:=by omega
     simp[this]
    ·rw[getD_set_ne true him,hli i M]
     congr 1
     simp;omega
   ·rw[aec hex (by omega)];exact Bz k (by omega)
   ·rw[List.tail_drop] at O;exact O
  simp only[wD] at h
  split at h
  ·cases h
  ·rename_i g ba
   split at h
   ·rename_i iR;subst iR
    split at h
    ·rename_i cm e X;refine next _ _ (.inr ⟨ba,cm,e,X,λp q mC hq=>?_,rfl,rfl⟩) h.2
     have nq:p<m:=by
      rcases iq p m with cx|cx
      ·exact cx
      ·rw[Bz p cx] at hq;cases hq
     have TS:=h.1;unfold FQ at TS;rw[lU] at TS
     have gr:p∈(c.drop m).headD []:=by
      unfold wL at mC;rw[ad nq] at mC
      have:(c.drop m).headD []=c.getD m []:=by
       rw[List.headD_eq_head?_getD,List.head?_drop,dX]
      rw[this];exact ael.1 mC
     have:=TS p gr;rw[hq] at this;exact this
    ·cases h
   ·rename_i aqq;have aqr:g=false:=by simpa using aqq
    subst aqr;exact next _ _ (.inl ⟨ba,rfl,rfl⟩) h
theorem Ke (h:fs A w B mem):fs (cd A B) w (λ_=>none) emp :=
 ⟨λ_ _=>rfl,λ_ _ _ _ _ h=>(by cases h),λb _ ⟨_,_,h,_⟩=>(by cases h),λb ag=>ag.elim (λcx=>h.x3 cx) (h.lt b),λ_ _ _ h=>(by cases h)⟩
theorem zJ (b:Nat):cd (cd A B) (λ_=>none) b↔cd A B b :=
 ⟨λh=>h.elim (fun⟨_,_,h,_⟩=>by cases h) id,.inr⟩
theorem aeo {m:R}{v:Value}(h:bt w (cd A B) B m v):bt w (cd (cd A B) λ_=>none) (λ_=>none) (qq m) v:=by
 cases h with
 |J h=>exact .J (h.less λb ag=>(zJ b).1 ag)
 |nil=>exact .nil
 |fz aw aa =>
  rename_i f eP vs
  cases eP with
  |nil=>exact .fz aw λi d v h=>by simp at h
  |cons c r=>exact .undef
 |agg aw aa =>
  rename_i cs vs;simp only[qq]
  cases H:cs.mapM u5 with
  |none=>exact .undef
  |some ds =>
   obtain⟨G,I⟩:=oK H;refine .J (.agg (aw.trans G.symm) λi d v M aq=>?_);have az:i<D cs:=by have:=(dU.1 M).1;omega
   have jN:=bs az;exact (adw (I i _ d jN M) (aa i _ v jN aq)).less λb ag=>(zJ b).1 ag
 |_=>exact .undef
theorem shut_list {ms:List R}{vs:List Value}(h:du w (cd A B) B ms vs):du w (cd (cd A B) λ_=>none) (λ_=>none) (ms.map qq) vs:=by
 refine⟨by simpa using h.1,λi m v hm aq=>?_⟩
 rw[bj,ea] at hm;obtain⟨m',n3,rfl⟩:=hm;exact aeo (h.2 i m' v n3 aq)
theorem Bv.less {w aR:World}{aZ ml:Nat->Prop}{sz:Nat}{es:List (List Data)}{v:Value}(aw:∀b,ml b->aZ b)(h:Bv w aR aZ sz es v):Bv w aR ml sz es v:=by
 obtain⟨G,a,cap,I,af,aS,bm⟩:=h;refine⟨G,a,cap,I,af,aS,bm.imp id ?_⟩;rintro⟨b,vs,T,bV,bQ,ca,iS,gw⟩;exact⟨b,vs,T,bV,bQ,ca,iS,λi d aa=>let ⟨u,hu,tD⟩:=gw i d aa;⟨u,hu,tD.less λfl ku=>ku.imp (aw fl) id⟩⟩
theorem DJ {o:Oper}{c:Call}{f:FuncId}{a:Act}(bO:o.op=.call c)(mA:c.callee=.value (.func f))(mz:Real P f):(execOp a.eval o).run P w=.ok (.enter f (c.args.toList.map a.eval).toArray) w:=by
 obtain⟨dst,op,type,pos,after,guard⟩:=o;simp only at bO;subst bO;obtain⟨callee,zF,Oc⟩:=c;simp only at mA;subst mA;simp only[execOp,resolve,Deferred.ofValue,Act.eval,invoke,Sem.run_bind,Sem.run_pure,Result.andThen_ok,Ob mz];rw[Bs zF];simp
theorem aep {aZ:Nat->Prop}{b off c sz len:Nat}{vs:Array Value}{T:TypeId}{ds:List Data}(aT:w.heap[b]?=some (.cells vs T (0,0)))(fF:¬ aZ b)(aw:(D ds)=len*sz)(Ol:len<=c)(hm:len<=maxLen)(JX:off+len*sz<=vs.size)
  (aa:∀(i:Nat) (d:Data) (v:Value),ds[i]?=some d->vs[off+i]?=some v->Den w aZ d v):Den w aZ (.Y (chunk sz len ds)) (.slice (some ⟨b,off,none⟩) len c):=by
 have eM:=N3 sz len ds
 have h:=Den.Y (w:=w) (aZ:=aZ) (es:=chunk sz len ds) (b:=b) (off:=off) (c:=c) (sz:=sz) (λi=>vs.getD (off+i) undef) (by rw[eM];exact Ol) (by rw[eM];exact hm)
  (Array.getElem?_eq_some_iff.1 aT).1 fF (N4 sz len ds aw)
  (λi M=>by
   rw[eM] at M;rw[cell_of_row w b (off+i) vs T (0,0) aT];have:off+i<vs.size:=by omega
   simp[this])
  (λi d kS=>by
   rw[N5 sz len ds aw] at kS;have az:i<D ds:=(dU.1 kS).1;have kX:off+i<vs.size:=by omega
   have:vs.getD (off+i) undef=vs[off+i]:=by simp[kX]
   simp only[this];exact aa i d _ kS (Array.getElem?_eq_getElem kX))
 rw[eM] at h;exact h
theorem aqs {mem:Mem}{k g sz off len:Nat}{cs:List R}{d:Data}(hm:mem k=some (g,cs))(h:JN sz off len cs=some d):cC 1 mem (.ref k g sz off len)=some d:=by
 have aW:∀(m:R) (d:Data),u5 m=some d->cC 0 mem m=some d:=λm d h=>by
  unfold u5 at h
  split at h<;>simp_all [cC]
 have aw:∀(l:List R) (ds:List Data),l.mapM u5=some ds->l.mapM (cC 0 mem)=some ds:=by
  intro l
  induction l with
  |nil=>intro ds h;simpa using h
  |cons m l aA =>
   intro ds h;simp only[ll,hg,ho,ek,cl] at h ⊢;obtain⟨x,Q,DK,g9,rfl⟩:=h;exact⟨x,aW m x Q,DK,aA DK g9,rfl⟩
 unfold JN at h
 split at h
 ·rename_i part aE;simp only[Ti,ea] at h;obtain⟨ds,g9,rfl⟩:=h;simp only[cC,hm,if_true,aE];rw[aw _ _ g9]
  rfl
 ·cases h
theorem Kf {k:Key}{g sz off len:Nat}{cs:List R}{d:Data}{v:Value}(b1:fs A w B mem)(O:mem k=some (g,cs))(aa:cC 1 mem (.ref k g sz off len)=some d)(aq:bt w (cd A B) B (.ref k g sz off len) v):
  Den w (cd A (gE B k ⟨bZ mem k,none,0⟩)) d v:=by
 have fF:∀b,cd A (gE B k ⟨bZ mem k,none,0⟩) b->cd A B b:=λb h=>h.imp (fun⟨j,e,aj,Q⟩=>by
  by_cases dZ:j=k
  ·subst dZ;rw[hn] at aj;cases aj;cases Q
  ·rw[hf B _ dZ] at aj;exact⟨j,e,aj,Q⟩) id
 simp only[cC,O,if_true] at aa
 split at aa
 ·rename_i part TT;simp only[ea] at aa;obtain⟨ds,g9,rfl⟩:=aa;obtain⟨eM,rfl,nq⟩:=F7 TT;obtain⟨G,I⟩:=oK g9
  cases aq with
  |ref he hgle ab =>
   obtain⟨e,gC,b4,aK,ag⟩:=b1.at_ O;rw[gC] at he;obtain rfl:=n0 he;obtain⟨a,cap,rfl,af,aS,bm⟩:=ab;rcases bm with bm|⟨b,rfl,bV⟩
   ·have:len=0:=by omega
    subst this;simp only[chunk];exact .lR
   ·obtain⟨bQ,ca⟩:=bV b4.symm;obtain⟨vs,T,aT,aW,hle,bW⟩:=ag b bQ
    have aqt:¬ cd A (gE B k ⟨bZ mem k,none,0⟩) b:=by
     rintro (⟨j,aC,aj,Q⟩|aN)
     ·by_cases dZ:j=k
      ·subst dZ;rw[hn] at aj;cases aj;cases Q
      ·rw[hf B _ dZ] at aj;exact dZ (b1.inj j k aC _ b aj gC Q bQ)
     ·exact b1.sep b aN ⟨k,_,gC,bQ⟩
    refine aep aT aqt (by omega) af (by omega) (by omega) λi x u Q hu=>?_;have az:i<D ds:=(dU.1 Q).1;have kX:off+i<D cs:=by omega
    have jN:((cs.drop off).take (len*sz))[i]?=some cs[off+i]:=by
     rw[pV (by omega),lo,bs kX]
    have sw:=I i _ x jN Q
    have ln:bt w (cd A B) B cs[off+i] u:=bW.2 (off+i) _ u (bs kX) (by
     rw[pV kX,Array.getElem?_toList];exact hu)
    generalize cs[off+i]=m at *
    cases m<;>simp only[cC,cl,reduceCtorEq] at sw
    ·subst sw
     cases ln with
     |J h=>exact h.less fF
    ·subst sw
     cases ln;exact .lR
 ·cases aa
theorem aqu {ml:Nat->Prop}{bu:e4}(fF:∀b,ml b->cd A B b){m:R}{v:Value}(h:bt w (cd A B) B m v):bt w ml bu (qq m) v:=by
 have ar:=aeo h;have aqv:∀b,ml b->cd (cd A B) (λ_=>none) b:=λb ag=>(zJ b).2 (fF b ag)
 have go:∀{m:R},(∃d,m=.J d)\/m=.nil\/(∃f,m=.fz f [])\/m=.undef->bt w (cd (cd A B) λ_=>none) (λ_=>none) m v->bt w ml bu m v:=by
  intro m hm h;rcases hm with ⟨d,rfl⟩|rfl|⟨f,rfl⟩|rfl
  ·cases h with
   |J h=>exact .J (h.less aqv)
  ·cases h;exact .nil
  ·cases h with
   |fz aw aa=>exact .fz aw λi d v h=>by simp at h
  ·exact .undef
 refine go ?_ ar
 cases m<;>simp only[qq]
 case J d=>simp
 case nil=>simp
 case fz f eP=>cases eP<;>simp
 case agg cs=>split<;>simp
 all_goals simp
theorem aqw {k:Key}{g:Nat}{cs:List R}(h:fs A w B mem)(O:mem k=some (g,cs))(aa:nX cs=true):
  fs (λb=>A b\/∃j e,j≠k/\B j=some e/\e.dA=some b) w (λj=>if j=k then B k else none) (a2 emp k g cs):=by
 have fF:∀b,cd (λb=>A b\/∃j e,j≠k/\B j=some e/\e.dA=some b) (λj=>if j=k then B k else none) b->cd A B b:=λb ag=>by
  rcases ag with ⟨j,e,aj,Q⟩|aN|⟨j,e,_,aj,Q⟩
  ·by_cases dZ:j=k
   ·subst dZ;simp only[if_true] at aj;exact .inl ⟨_,e,aj,Q⟩
   ·simp only[dZ,if_false] at aj;cases aj
  ·exact .inr aN
  ·exact .inl ⟨j,e,aj,Q⟩
 refine⟨λj aj=>?_,λj lS e e' b G I _ _=>?_,λb aN bO=>?_,λb ag=>?_,λj c7 nm aj=>?_⟩
 ·by_cases dZ:j=k
  ·subst dZ;simp[a2] at aj
  ·simp only[dZ,if_false]
 ·by_cases aj:j=k<;>by_cases np:lS=k
  ·rw[aj,np]
  ·simp only[np,if_false] at I;cases I
  ·simp only[aj,if_false] at G;cases G
  ·simp only[aj,if_false] at G;cases G
 ·obtain⟨j,e,aj,Q⟩:=bO
  by_cases dZ:j=k
  ·subst dZ;simp only[if_true] at aj;rcases aN with aN|⟨lS,e',bG,np,sw⟩
   ·exact h.sep b aN ⟨_,e,aj,Q⟩
   ·exact bG (h.inj _ _ e' e b np aj sw Q)
  ·simp only[dZ,if_false] at aj;cases aj
 ·rcases ag with ag|⟨j,e,_,aj,Q⟩
  ·exact h.lt b ag
  ·exact h.x3 ⟨j,e,aj,Q⟩
 ·by_cases dZ:j=k
  ·subst dZ;simp only[a2,if_true,cl,e6] at aj;obtain⟨rfl,rfl⟩:=aj;obtain⟨e,he,ba,aK,ag⟩:=h.dA _ _ _ O;refine⟨e,by simp only[if_true];exact he,ba,aK,λb jI=>?_⟩
   obtain⟨vs,T,aT,aW,hle,ab⟩:=ag b jI;refine⟨vs,T,aT,aW,hle,λi m M=>?_⟩;obtain⟨v,aq,vi⟩:=ab i m M;refine⟨v,aq,?_⟩;unfold nX at aa;rw[lU] at aa;have hm:=aa m (ee M);rw[adG] at hm;obtain⟨d,hm⟩:=hm;unfold u5 at hm
   split at hm<;>cases hm
   ·cases vi with
    |J vi=>exact .J (vi.less fF)
   ·cases vi;exact .nil
  ·simp only[a2,dZ,if_false,emp] at aj;cases aj
theorem aqx {aR:World}{k:Key}{u4:Nat->Prop}(h:fs A w B mem)(aqy:∀b,u4 b->∃e,B k=some e/\e.dA=some b)(f:Fr u4 w aR):eF A w B aR (gE B k ⟨bZ mem k,none,0⟩) (a2 mem k (bZ mem k) []) :=
 eF.change (e':=⟨bZ mem k,none,0⟩) h ⟨f.os,f.tape,f.output,f.size,λb ag bO=>f.block b ag λQ=>bO (aqy b Q)⟩ (λe he => .inr (Dp h k e he)) (λb ag=>by simp at ag) (λ_=>rfl) (λb ag=>by simp at ag)
theorem aqz (cL:qB P T){a:Act}{st:a8}{o:Oper}{i:c8}{m:R}{e:Option (Key×Nat×List R)}(h:hJ n A et hp a st w B)(M:TK P n kb own ops o i)
  (X:hz T st.mem st.tm i.op=some (m,e)):o.wp P a w (λjK aR=>∃bu,hJ n A et hp jK ⟨put st.tm i.dst m,im st.mem e⟩ aR bu) aM:=by
 have m0:=M.op
 have plain:cq st.mem st.tm i.op=some (m,e)->o.wp P a w (λjK aR=>∃bu,hJ n A et hp jK ⟨put st.tm i.dst m,im st.mem e⟩ aR bu) aM:=by
  intro X
  have a0:jH P kb own o.dst o.type o.op=some i.op:=getD_some m0 (by
   intro ag;rw[ag] at X
   cases X)
  obtain⟨Gj,v,aR,bu,m3,hR,dv,aq⟩:=adL h.ok.dW h.tE a0 X;unfold Oper.wp;rw[m3,M.dst];have Ka:=h.put dv aq M.lt;rcases hR with rfl|⟨rfl,rfl⟩
  ·exact⟨bu,Ka⟩
  ·exact⟨bu,Ka⟩
 cases tH:i.op with
 |call f args =>
  have a0:jH P kb own o.dst o.type o.op=some i.op:=getD_some m0 (by rw[tH];simp);rw[tH] at a0 X;obtain⟨c,H,mA,n2⟩:=adQ a0;have bW:=shut_list (yi h.tE n2);rw[m5] at bW;simp only[hz] at X
  split at X
  ·rename_i r iv
   cases X;obtain⟨mz,ju⟩:=cL f _ _ _ iv;have hA:=ju (cd A B) w (λ_=>none) _ (Ke h.ok.dW) bW;unfold Oper.wp;rw[DJ H mA mz,M.dst];refine Calls.mono hA λe aR he=>?_;obtain⟨v,rfl,bX,aa⟩:=he;exact⟨B,h.put (.still h.ok.dW bX) (.J (aa.less λb ag=>(zJ b).2 ag)) M.lt⟩
  ·rename_i sz es iv
   cases X;obtain⟨mz,ju⟩:=cL f _ _ _ iv;have hA:=ju (cd A B) w (λ_=>none) _ (Ke h.ok.dW) bW;unfold Oper.wp;rw[DJ H mA mz,M.dst];refine Calls.mono hA λe aR he=>?_;obtain⟨v,rfl,bX,aa⟩:=he;exact⟨B,h.put (.still h.ok.dW bX) (.J ((aa.less λb ag=>(zJ b).2 ag).den λb ag=>ag.elim (λcx=>h.ok.dW.x3 cx) (h.ok.dW.lt b))) M.lt⟩
  ·cases X
 |oI k sz f args =>
  have a0:jH P kb own o.dst o.type o.op=some i.op:=getD_some m0 (by rw[tH];simp);rw[tH] at a0 X;obtain⟨c,H,mA,n2⟩:=adR a0;have bW:=shut_list (yi h.tE n2);rw[m5] at bW;simp only[hz] at X
  split at X
  ·rename_i er es iv
   split at X
   ·rename_i ew;subst ew
    cases X;obtain⟨mz,ju⟩:=cL f _ _ _ iv;have hA:=ju (cd A B) w (λ_=>none) _ (Ke h.ok.dW) bW;unfold Oper.wp;rw[DJ H mA mz,M.dst];refine Calls.mono hA λe aR he=>?_;obtain⟨v,rfl,bX,aa⟩:=he;obtain⟨bu,dv,aq⟩:=adP k h.ok.dW bX (aa.less λb ag=>(zJ b).2 ag);exact⟨bu,h.put dv aq M.lt⟩
   ·cases X
  ·cases X
 |mo cB f args =>
  have a0:jH P kb own o.dst o.type o.op=some i.op:=getD_some m0 (by rw[tH];simp);rw[tH] at a0 X;obtain⟨c,H,mA,n2⟩:=apK a0;have bW:=yi h.tE n2;simp only[hz] at X;obtain⟨r,k,g,aJJ,cc,cs,iv,hm,rfl,rfl,aJ⟩:=ad1 X;obtain⟨mz,ju⟩:=cL f _ _ _ iv;have hA:=ju A w B _ h.ok.dW bW;unfold Oper.wp;rw[DJ H mA mz,M.dst];refine Calls.mono hA λe aR he=>?_;obtain⟨v,bu,rfl,dv,aq⟩:=he;refine⟨bu,?_⟩;have pg:rn st.mem k=cs:=by simp only[rn,hm]
  rw[pg] at dv;exact h.put dv aq M.lt
 |tt j f args =>
  have a0:jH P kb own o.dst o.type o.op=some i.op:=getD_some m0 (by rw[tH];simp);rw[tH] at a0 X;obtain⟨c,H,mA,n2⟩:=apL a0;have BA:=yi h.tE n2;simp only[hz] at X;obtain⟨k,g,sz,off,len,cs,d,r,Q,hm,aa,ab,rfl,rfl⟩:=adZ X;have ok:=eF.yb h.ok.dW k
  have az:j<(c.args.toList.map a.eval).length:=by
   rw[BA.1];exact (dU.1 Q).1
  have JY:=bs az;have tD:=Kf h.ok.dW hm (aqs hm aa) (BA.2 j _ _ Q JY);have Om:=shut_list (BA.rj ok.mZ);rw[m5] at Om
  have On:du w (cd (cd A (gE B k ⟨bZ st.mem k,none,0⟩)) λ_=>none) (λ_=>none) ((args.map (qq ∘ a7 st.tm)).set j (.J d)) (c.args.toList.map a.eval):=by
   refine⟨by rw[Om.1,iQ],λi m v G I=>?_⟩
   by_cases h9:j=i
   ·subst h9;rw[JY] at I
    cases I;have jf:j<(args.map (qq ∘ a7 st.tm)).length:=by rw[<-Om.1];exact az
    rw[Kg jf] at G
    cases G;exact .J (tD.less λb ag=>(zJ b).1 ag)
   ·rw[aeq h9] at G;exact Om.2 i m v G I
  unfold NR at ab
  split at ab
  ·rename_i FZ iv
   cases ab;obtain⟨mz,ju⟩:=cL f _ _ _ iv;have hA:=ju (cd A (gE B k ⟨bZ st.mem k,none,0⟩)) w (λ_=>none) _ (Ke ok.dW) On;unfold Oper.wp;rw[DJ H mA mz,M.dst];refine Calls.mono hA λe aR he=>?_;obtain⟨v,rfl,bX,nn⟩:=he;exact⟨_,h.put (ok.trans (.still ok.dW bX)) (.J (nn.less λb ag=>(zJ b).2 ag)) M.lt⟩
  ·rename_i er es iv
   cases ab;obtain⟨mz,ju⟩:=cL f _ _ _ iv;have hA:=ju (cd A (gE B k ⟨bZ st.mem k,none,0⟩)) w (λ_=>none) _ (Ke ok.dW) On;unfold Oper.wp;rw[DJ H mA mz,M.dst];refine Calls.mono hA λe aR he=>?_;obtain⟨v,rfl,bX,nn⟩:=he;exact⟨_,h.put (ok.trans (.still ok.dW bX)) (.J ((nn.less λb ag=>(zJ b).2 ag).den λb ag=>ag.elim (λcx=>ok.dW.x3 cx) (ok.dW.lt b))) M.lt⟩
  ·cases ab
 |sk j f args =>
  have a0:jH P kb own o.dst o.type o.op=some i.op:=getD_some m0 (by rw[tH];simp);rw[tH] at a0 X;obtain⟨c,H,mA,n2⟩:=apM a0;have BA:=yi h.tE n2;simp only[hz] at X;obtain⟨k,g,sz,off,len,c7,cs,r,Q,hm,aa,iv,rfl,rfl⟩:=ad0 X;have b1:=aqw h.ok.dW hm aa
  have aqA:∀b,cd (λb=>A b\/∃j e,j≠k/\B j=some e/\e.dA=some b) (λj=>if j=k then B k else none) b->cd A B b:=λb ag=>by
   rcases ag with ⟨yn,e,aj,tI⟩|aN|⟨yn,e,_,aj,tI⟩
   ·by_cases dZ:yn=k
    ·simp only[ad dZ] at aj;exact .inl ⟨k,e,aj,tI⟩
    ·simp only[ah dZ] at aj;cases aj
   ·exact .inr aN
   ·exact .inl ⟨yn,e,aj,tI⟩
  have az:j<(c.args.toList.map a.eval).length:=by
   rw[BA.1];exact (dU.1 Q).1
  have JY:=bs az
  have On:du w (cd (λb=>A b\/∃j e,j≠k/\B j=some e/\e.dA=some b) (λj=>if j=k then B k else none)) (λj=>if j=k then B k else none) ((args.map λx=>qq (a7 st.tm x)).set j (.ref k g sz off len)) (c.args.toList.map a.eval):=by
   refine⟨by rw[BA.1,iQ,ak,ak],λi m v G I=>?_⟩
   by_cases h9:j=i
   ·subst h9
    have jf:j<(args.map λx=>qq (a7 st.tm x)).length:=by
     have:=(dU.1 Q).1
     simpa using this
    rw[Kg jf] at G
    cases G;have aq:=BA.2 j _ v Q I
    cases aq with
    |ref he ba ab=>exact .ref (by simp only[if_true];exact he) ba ab
   ·rw[aeq h9,bj,ea] at G;obtain⟨y,av,rfl⟩:=G;exact aqu aqA (BA.2 i (a7 st.tm y) v (by rw[bj,av];rfl) I)
  obtain⟨mz,ju⟩:=cL f _ _ _ iv;have hA:=ju _ w _ _ b1 On;unfold Oper.wp;rw[DJ H mA mz,M.dst];refine Calls.mono hA λe aR he=>?_;obtain⟨v,Bg,rfl,dv,aq⟩:=he;refine⟨_,h.put (aqx h.ok.dW (λb ag=>?_) dv.aG) ?_ M.lt⟩
  ·obtain⟨yn,e,aj,tI⟩:=ag
   by_cases dZ:yn=k
   ·simp only[ad dZ] at aj;exact⟨e,aj,tI⟩
   ·simp only[ah dZ] at aj;cases aj
  ·cases aq with
   |J aq =>
    refine .J (aq.less λb ag=>?_);rcases ag with ⟨yn,e,aj,tI⟩|aN
    ·by_cases dZ:yn=k
     ·rw[dZ,hn] at aj;cases aj;cases tI
     ·rw[hf B _ dZ] at aj;exact .inr (.inr ⟨yn,e,dZ,aj,tI⟩)
    ·exact .inr (.inl aN)
 |jE f args=>rw[tH] at X;cases X
 |rk neg x=>rw[tH] at X;cases X
 |_=>exact plain (by rw[tH] at X ⊢;exact X)
theorem aer {α β:Type}{f:α->Option β}{xs:List α}{ys:List β}(h:xs.mapM f=some ys){i:Nat}{x:α}(Q:xs[i]?=some x):∃y,ys[i]?=some y/\f x=some y:=by
 obtain⟨G,I⟩:=oK h;have az:i<D ys:=by rw[G];exact (dU.1 Q).1
 exact⟨_,bs az,I i x _ Q (bs az)⟩
theorem TU (cL:qB P T){jP:Nat->Nat->Bool}(a0:ops.toList.mapM (Bl P n kb own ops)=some l)(e1:∀st a w B,K st->hJ n A et hp a st w B->aM .normal a w):
  ∀(fuel:Nat) (eU:Array Bool) (rec:Rec) (st:a8) (a:Act) (w:World) (B:e4),hJ n A et hp a st w B->Gk T jP ops l K fuel eU rec st->wpAny P .any ops aM fuel eU a w
 |0,_,_,_,_,_,_,X,h=>⟨h.1,e1 _ _ _ _ h.2 X⟩
 |fuel+1,eU,rec,st,a,w,B,X,h=>by
  refine⟨λar=>e1 _ _ _ _ (h.1 ar) X,λi M=>?_⟩;obtain⟨x,zG,dT,Q,hex,O⟩:=h.2 i M;obtain⟨_,o,bO,_⟩:=mem_ready.1 M;obtain⟨y,av,TV⟩:=aer a0 (i:=i) (x:=o) (by simpa using bO);rw[Q] at av
  cases av;have yo:=adS TV;unfold wpOp;simp only[bO];rcases hex with ⟨ba,rfl,rfl⟩|⟨ba,m,e,aqB,_,rfl,rfl⟩
  ·rw[TJ X yo.guard ba,ah (by simp)];exact TU cL a0 e1 fuel _ _ _ _ _ B (by rw[yo.dst];exact X.put (.refl X.ok.dW) .no yo.lt) O
  ·rw[TJ X yo.guard ba,ad rfl];refine .inl (Oper.wp_mono (λjK aR ⟨bu,iO⟩=>TU cL a0 e1 fuel _ _ _ _ _ bu iO O) (aqz cL X yo aqB))
theorem hJ.drew {a:Act}{st:a8}(h:hJ n A et hp a st w B)(d:Nat):hJ n A et hp a st { w with drawn:=d } B:=by
 have X:eF A w B { w with drawn:=d } B st.mem:=.still h.ok.dW ((Fr.refl _ _).drew d);exact⟨h.ok.trans X,λs=>(h.tm s).rj X.mZ,h.sz,h.J8⟩
theorem aqC (cL:qB P T)(hm:P.follows .mixedOrders=true){id:Nat}{a:Act}{st:a8}(a0:ops.toList.mapM (Bl P n kb own ops)=some l)(aa:FX ops l=true)(X:hJ n A et hp a st w B)
  (h:wD T K 0 l (zw [] l (qs ops.toList [])) (λ_=>none) st) (e1:∀st a w B,K st->hJ n A et hp a st w B->aM .normal a w):(Code.region id ops true).wp P aM a w:=by
 refine wp_region_any hm ?_
 have aw:(D l)=ops.size:=by
  rw[(oK a0).1,Array.length_toList]
 have Kh:=aen (aqn aa) aw (by unfold FX at aa;rw[eW] at aa;exact aa.1) l 0 (λ_=>none) st (Array.replicate ops.size false) rfl (by simp) (by simp) (λi M=>by simp[M]) (λ_ _=>rfl) h;rw[aw] at Kh;exact TU cL a0 e1 ops.size _ _ _ _ _ B (X.drew _) Kh
theorem TW (cL:qB P T)(a0:ops.toList.mapM (Bl P n kb own ops)=some l)(e1:∀st a w B,K st->hJ n A et hp a st w B->aM .normal a w):
  ∀(r:List c8) (m:Nat) (st:a8) (a:Act) (w:World) (B:e4),l.drop m=r->hJ n A et hp a st w B->x6 T K r st->wpOps P ops aM (List.range' m (D r)) a w
 | [],_,_,_,_,_,_,X,h=>e1 _ _ _ _ h X
 |x::r,m,st,a,w,B,ab,X,h=>by
  have Q:l[m]?=some x:=by
   have:(l.drop m)[0]?=some x:=by rw[ab];rfl
   simpa using this
  have Gd:l.drop (m+1)=r:=by rw[<-Gl,ab];rfl
  have az:m<ops.size:=by
   have G:=(oK a0).1;have I:=(dU.1 Q).1;simp at G;omega
  have bO:ops[m]?=some ops[m]:=Array.getElem?_eq_getElem az;obtain⟨y,av,TV⟩:=aer a0 (i:=m) (x:=ops[m]) (by simp);rw[Q] at av
  cases av;have yo:=adS TV;simp only[h4,List.range'_succ];rw[wpOps_cons];unfold wpOp;simp only[bO];simp only[x6] at h
  split at h
  ·cases h
  ·rename_i g ba;rw[TJ X yo.guard ba]
   cases g with
   |true =>
    simp only[if_true] at h ⊢;exact .inl (Oper.wp_mono (λjK aR ⟨dT,bu,O,iO⟩=>TW cL a0 e1 r (m+1) dT jK aR bu Gd iO O) (apS cL X yo h))
   |false =>
    simp only[kR,if_false] at h ⊢;exact TW cL a0 e1 r (m+1) _ _ _ B Gd (X.put (.refl X.ok.dW) .no yo.lt) (by rw[<-yo.dst];exact h)
end Go.Mini
namespace Go.Mini
open Go
variable {A:Nat->Prop} {w:World} {B:e4} {mem:Mem}
theorem aes (b1:fs A w B mem){aZ:Nat->Prop}(fF:∀b,aZ b->A b){k:Key}{e:mm}{b:Nat}(he:B k=some e)(ag:e.dA=some b):¬ aZ b :=
 λh=>b1.sep b (fF b h) ⟨k,e,he,ag⟩
theorem snap (b1:fs A w B mem){aZ:Nat->Prop}(fF:∀b,aZ b->A b):∀(d:Nat) (m:R) (v:Value) (r:Data),cC d mem m=some r->bt w (cd A B) B m v->Den w aZ r v:=by
 have aet:∀(d:Data) (v:Value),bt w (cd A B) B (.J d) v->Den w aZ d v:=λd v h=>by
  cases h with
  |J h=>exact h.less λb ag => .inr (fF b ag)
 have Oo:∀v,bt w (cd A B) B .nil v->Den w aZ (.Y []) v:=λv h=>by
  cases h;exact .lR
 intro d
 induction d with
 |zero =>
  intro m v r h aq
  cases m<;>simp only[cC,cl,reduceCtorEq] at h
  ·subst h;exact aet _ _ aq
  ·subst h;exact Oo _ aq
 |succ d aA =>
  intro m v r h aq
  have lists:∀(cs:List R) (vs:List Value) (ds:List Data),cs.mapM (cC d mem)=some ds->(D vs)=(D cs)->(∀(i:Nat) (x:R) (u:Value),cs[i]?=some x->vs[i]?=some u->bt w (cd A B) B x u) ->
    (D vs)=D ds/\∀(i:Nat) (x:Data) (u:Value),ds[i]?=some x->vs[i]?=some u->Den w aZ x u:=by
   intro cs vs ds g9 aw ab;obtain⟨G,I⟩:=oK g9;refine⟨by omega,λi x u Q hu=>?_⟩
   have az:i<D cs:=by have:=(dU.1 Q).1;omega
   have jN:=bs az;exact aA _ u x (I i _ x jN Q) (ab i _ u jN hu)
  cases m<;>simp only[cC,cl,ea,reduceCtorEq] at h
  case J=>subst h;exact aet _ _ aq
  case nil=>subst h;exact Oo _ aq
  case ref k g sz off len =>
   split at h
   ·rename_i c7 cs O
    split at h
    ·rename_i ba;subst ba
     split at h
     ·rename_i part TT;simp only[ea] at h;obtain⟨ds,g9,rfl⟩:=h;obtain⟨eM,rfl,nq⟩:=F7 TT;obtain⟨G,I⟩:=oK g9
      cases aq with
      |ref he hgle ab =>
       obtain⟨e,gC,b4,aK,ag⟩:=b1.at_ O;rw[gC] at he
       cases he;obtain⟨a,cap,rfl,af,aS,bm⟩:=ab;rcases bm with bm|⟨b,rfl,bV⟩
       ·have:len=0:=by omega
        subst this;simp only[chunk];exact .lR
       ·obtain⟨bQ,ca⟩:=bV b4.symm;obtain⟨vs,T,aT,aW,hle,bW⟩:=ag b bQ;refine aep aT (aes b1 fF gC bQ) (by omega) af (by omega) (by omega) λi x u Q hu=>?_;have az:i<D ds:=(dU.1 Q).1;have kX:off+i<D cs:=by omega
        have jN:((cs.drop off).take (len*sz))[i]?=some cs[off+i]:=by
         rw[pV (by omega),lo,bs kX]
        refine aA _ u x (I i _ x jN Q) (bW.2 (off+i) _ u (bs kX) ?_);rw[pV kX,Array.getElem?_toList];exact hu
     ·cases h
    ·cases h
   ·cases h
  case ptr k g off =>
   split at h
   ·rename_i c7 cs O
    split at h
    ·rename_i ba;obtain⟨rfl,Ty⟩:=ba;simp only[ea] at h;obtain⟨ds,g9,rfl⟩:=h;obtain⟨G,I⟩:=oK g9
     cases aq with
     |ptr he hgle ab =>
      obtain⟨e,gC,b4,aK,ag⟩:=b1.at_ O;rw[gC] at he
      cases he;obtain⟨b,rfl,bV⟩:=ab;have bQ:=bV b4.symm;obtain⟨vs,T,aT,aW,hle,bW⟩:=ag b bQ;rw[List.length_drop] at G;refine .ptr (λi=>vs.getD (off+i) undef) (Array.getElem?_eq_some_iff.1 aT).1 (aes b1 fF gC bQ) (λi M=>?_) λi x Q=>?_
      ·rw[cell_of_row w b (off+i) vs T (0,0) aT];have:off+i<vs.size:=by omega
       simp[this]
      ·have az:i<D ds:=(dU.1 Q).1;have kX:off+i<D cs:=by omega
       have Ki:off+i<vs.size:=by omega
       have jN:(cs.drop off)[i]?=some cs[off+i]:=by
        rw[lo,bs kX]
       have hu:vs.getD (off+i) undef=vs[off+i]:=by simp[Ki]
       rw[hu];refine aA _ _ x (I i _ x jN Q) (bW.2 (off+i) _ _ (bs kX) ?_);rw[pV kX,Array.getElem?_toList];exact Array.getElem?_eq_getElem Ki
    ·cases h
   ·cases h
  case fz f cs =>
   obtain⟨ds,g9,rfl⟩:=h
   cases aq with
   |fz aw aa=>obtain⟨G,I⟩:=lists _ _ _ g9 aw aa;exact .fn G I
  case agg cs =>
   obtain⟨ds,g9,rfl⟩:=h
   cases aq with
   |agg aw aa=>obtain⟨G,I⟩:=lists _ _ _ g9 aw aa;exact .agg G I
  case cH cs =>
   obtain⟨ds,g9,rfl⟩:=h
   cases aq with
   |cH aw aa=>obtain⟨G,I⟩:=lists _ _ _ g9 aw aa;exact .cH G I
theorem bt.shift {aZ ml:Nat->Prop}{bu:e4}(fF:∀b,ml b->aZ b)(O:∀k e,B k=some e->∃e',bu k=some e'/\(e'=e\/e.g<e'.g)){m:R}{v:Value}(h:bt w aZ B m v):bt w ml bu m v:=by
 induction h with
 |J h=>exact .J (h.less fF)
 |nil=>exact .nil
 | @ref k g sz off len e v he ba aq =>
  obtain⟨e',gC,aT⟩:=O k e he;rcases aT with rfl|aT
  ·exact .ref gC ba aq
  ·exact .ref gC (by omega) (aq.Jr (by omega))
 | @ptr k g off e v he ba aq =>
  obtain⟨e',gC,aT⟩:=O k e he;rcases aT with rfl|aT
  ·exact .ptr gC ba aq
  ·exact .ptr gC (by omega) (aq.Jr (by omega))
 |fz aw aa aA=>exact .fz aw aA
 |agg aw aa aA=>exact .agg aw aA
 |cH aw aa aA=>exact .cH aw aA
 |no=>exact .no
 |undef=>exact .undef
theorem kill_shut (b1:fs A w B mem){k:Key}{g:Nat}{cs:List R}{e:mm}{b:Nat}(O:mem k=some (g,cs))(he:B k=some e)(ag:e.dA=some b):
  fs (λfl=>A fl\/fl=b) w (gE B k ⟨bZ mem k,none,0⟩) (kill mem k)/\(∀m v,bt w (cd A B) B m v->bt w (cd (λfl=>A fl\/fl=b) (gE B k ⟨bZ mem k,none,0⟩)) (gE B k ⟨bZ mem k,none,0⟩) m v):=by
 have ba:=Dp b1 k e he
 have fF:∀fl,cd (λfl=>A fl\/fl=b) (gE B k ⟨bZ mem k,none,0⟩) fl->cd A B fl:=λfl h=>by
  rcases h with ⟨j,aC,aj,Q⟩|h|rfl
  ·by_cases dZ:j=k
   ·subst dZ;rw[hn] at aj;cases aj;cases Q
   ·rw[hf B _ dZ] at aj;exact .inl ⟨j,aC,aj,Q⟩
  ·exact .inr h
  ·exact .inl ⟨k,e,he,ag⟩
 have aqD:∀j aC,B j=some aC->∃e',gE B k ⟨bZ mem k,none,0⟩ j=some e'/\(e'=aC\/aC.g<e'.g):=λj aC aj=>by
  by_cases dZ:j=k
  ·subst dZ;rw[he] at aj
   cases aj;exact⟨_,hn _ _ _,.inr ba⟩
  ·exact⟨aC,by rw[hf B _ dZ];exact aj,.inl rfl⟩
 have shift:∀m v,bt w (cd A B) B m v->bt w (cd (λfl=>A fl\/fl=b) (gE B k ⟨bZ mem k,none,0⟩)) (gE B k ⟨bZ mem k,none,0⟩) m v:=λm v h=>h.shift fF aqD;refine⟨⟨λj aj=>?_,λj lS ay aC fl G I af aS=>?_,λfl aN bO=>?_,λfl aN=>?_,λj c7 nm aj=>?_⟩,shift⟩
 ·by_cases dZ:j=k
  ·subst dZ;simp[kill,a2] at aj
  ·rw[hf B _ dZ];simp only[kill,a2,dZ,if_false] at aj;exact b1.Bh j aj
 ·by_cases dZ:j=k
  ·subst dZ;rw[hn] at G;cases G;cases af
  ·by_cases hjk':lS=k
   ·subst hjk';rw[hn] at I;cases I;cases aS
   ·rw[hf B _ dZ] at G;rw[hf B _ hjk'] at I;exact b1.inj j lS ay aC fl G I af aS
 ·obtain⟨j,aC,aj,Q⟩:=bO
  by_cases dZ:j=k
  ·subst dZ;rw[hn] at aj;cases aj;cases Q
  ·rw[hf B _ dZ] at aj;rcases aN with aN|rfl
   ·exact b1.sep fl aN ⟨j,aC,aj,Q⟩
   ·exact dZ (b1.inj j k aC e fl aj he Q ag)
 ·rcases aN with aN|rfl
  ·exact b1.lt fl aN
  ·exact b1.x3 ⟨k,e,he,ag⟩
 ·by_cases dZ:j=k
  ·subst dZ;simp only[kill,a2,if_true,cl,e6] at aj;obtain⟨rfl,rfl⟩:=aj;exact⟨_,hn _ _ _,rfl,λ_=>rfl,λfl ku=>by cases ku⟩
  ·simp only[kill,a2,dZ,if_false] at aj;obtain⟨aC,G,I,af,aS⟩:=b1.dA j c7 nm aj;refine⟨aC,by rw[hf B _ dZ];exact G,I,af,λfl ku=>?_⟩
   obtain⟨vs,T,bm,bV,bQ,ca⟩:=aS fl ku;exact⟨vs,T,bm,bV,bQ,λi m hm=>let ⟨v,aq,ab⟩:=ca i m hm;⟨v,aq,shift m v ab⟩⟩
end Go.Mini
