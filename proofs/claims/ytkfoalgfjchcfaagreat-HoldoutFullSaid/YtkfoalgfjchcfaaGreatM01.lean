/- A part of the proof. -/
import Derived.Calls
import Derived.Still
import Derived.Below
import Derived.Laws.World
import Derived.Laws.Sem
import Derived.Laws.Entries
import Derived.Laws.Rows
import GoSem.ClaimData
import Derived.Laws.CopyRow
import Derived.Laws.MakeOwn
import Derived.Laws.Append
import Derived.Laws.AppendOwn
import Derived.Laws.Strings
import Derived.Laws.Strings2
import Derived.Laws.StructEq
import Derived.Laws.Slices
import Derived.Laws.Cells
import Derived.Attr
import Derived.LoopN
set_option linter.unusedSimpArgs false
set_option linter.unusedVariables false
set_option maxRecDepth 100000
set_option maxHeartbeats 4000000
noncomputable section
open Bool renaming and_eq_true->e3,false_eq_true->kh,or_eq_true->qz
open List renaming all_eq_true->oj,contains_iff_mem->Z2,drop_drop->D9,drop_eq_getElem_cons->hW,drop_eq_nil_of_le->k7,drop_set_of_lt->sj,drop_take->Y4,eq_nil_of_length_eq_zero->sf,ext_getElem?->ri,flatten_cons->kL,foldl_cons->Y6,getD_eq_getElem?_getD->dY,getElem?_append->DQ,getElem?_append_left->re,getElem?_append_right->rf,getElem?_cons_zero->HT,getElem?_drop->uQ,getElem?_eq_getElem->bs,getElem?_eq_none->lL,getElem?_eq_some_iff->dK,getElem?_map->a5,getElem?_range->sb,getElem?_take->x3,getElem?_take_of_lt->oV,getElem?_toArray->Zn,getElem_mem->mD,getElem_of_mem->Zc,length->D,length_append->hr,length_cons->kf,length_take->hh,mapM_cons->oi,map_congr_left->nj,map_map->oU,mem_append->jK,mem_cons_self->hv,mem_flatMap->BD,mem_of_mem_take->DW,mem_zipIdx_iff_getElem?->ZY,range->dL,replicate->eu,replicate_succ->uR,take_append->Y1,take_of_length_le->dD
open Nat renaming add_assoc->sa,add_comm->xT,add_mul->px,add_zero->om,eq_or_lt_of_le->Lg,eq_zero_or_pos->jm,le_mul_of_pos_right->HI,le_refl->bP,le_trans->eF,lt_asymm->Z1,lt_of_lt_of_le->Bl,lt_or_ge->hV,min_eq_left->nQ,mul_le_mul_right->rh,one_mul->Hb,sub_self->mE,succ_mul->sc,testBit_or->ZU,zero_add->oP,zero_le->fr
open Option renaming bind_eq_bind->hf,bind_eq_some_iff->eo,getD_some->BG,map_eq_some_iff->ei,map_none->ZD,map_some->jo,pure_def->g4
open Option.some renaming inj->ni,injEq->cb
open Prod.mk renaming injEq->fu
namespace Go.Mini
theorem bn {α:Sort _}{a:α}:a=a:=_root_.id rfl
theorem Z {c:Prop}{h:Decidable c}(G:c){α:Sort _}{t e:α}:ite c t e=t:=if_pos G
theorem aa {c:Prop}{h:Decidable c}(G:¬c){α:Sort _}{t e:α}:ite c t e=e:=if_neg G
theorem iH {p:Prop}[inst:Decidable p](h:p):decide p=true:=decide_eq_true h
theorem ob {p:Prop}[i:Decidable p](h:¬p):decide p=false:=decide_eq_false h
theorem dg {p:Prop}[inst:Decidable p](h:p:=by omega):decide p=true:=decide_eq_true h
theorem c1 {p:Prop}[i:Decidable p](h:¬p:=by omega):decide p=false:=decide_eq_false h
open Go
abbrev Key:=Nat
inductive Data where
 |int (k:IntKind) (n:Int)
 |bool (b:Bool)
 |str (s:List UInt8)
 |af (es:List (List Data))
 |ptr (cs:List Data)
 |tk
 |fn (f:FuncId) (eZ:List Data)
 |tl
 |agg (cs:List Data)
 |cw (vs:List Data)
 deriving Inhabited
inductive M where
 |I (d:Data)
 |nil
 |ref (k:Key) (g sz off len:Nat)
 |ptr (k:Key) (g off:Nat)
 |fS (f:FuncId) (eZ:List M)
 |agg (cs:List M)
 |cw (vs:List M)
 |no
 |undef
 deriving Inhabited
inductive Den (w:World) (aO:Nat->Prop):Data->Value->Prop
 |int {k:IntKind} {n:Int}:Den w aO (.int k n) (.int k n)
 |bool {b:Bool}:Den w aO (.bool b) (.bool b)
 |str {s:List UInt8}:Den w aO (.str s) (.string ⟨s.toArray⟩)
 |k6 {a:Option Addr} {c:Nat}:Den w aO (.af []) (.slice a 0 c)
 |af {es:List (List Data)} {b off c sz:Nat} (val:Nat->Value) (au:(D es)<=c) (hm:(D es)<=maxLen) (ae:b<w.heap.size) (fB:¬ aO b) (eU:∀e∈es,D e=sz)
   (G:∀i,i<D es*sz->w.cell? ⟨b,off+i,none⟩=some (val i)) (X:∀i d,es.flatten[i]?=some d->Den w aO d (val i)) :
   Den w aO (.af es) (.slice (some ⟨b,off,none⟩) (D es) c)
 |ptr {cs:List Data} {b off:Nat} (val:Nat->Value) (ae:b<w.heap.size) (fB:¬ aO b)
   (G:∀i,i<(D cs)->w.cell? ⟨b,off+i,none⟩=some (val i)) (X:∀i d,cs[i]?=some d->Den w aO d (val i)) :
   Den w aO (.ptr cs) (.pointer (some ⟨b,off,none⟩))
 |tk:Den w aO .tk (.pointer none)
 |fn {f:FuncId} {eZ:List Data} {vs:List Value} (au:(D vs)=D eZ) (X:∀(i:Nat) (d:Data) (v:Value),eZ[i]?=some d->vs[i]?=some v->Den w aO d v) :
   Den w aO (.fn f eZ) (.func (.func f) #[] vs.toArray)
 |tl:Den w aO .tl .nilFunc
 |agg {cs:List Data} {vs:List Value} (au:(D vs)=D cs) (X:∀(i:Nat) (d:Data) (v:Value),cs[i]?=some d->vs[i]?=some v->Den w aO d v) :
   Den w aO (.agg cs) (.agg vs.toArray)
 |cw {cs:List Data} {vs:List Value} (au:(D vs)=D cs) (X:∀(i:Nat) (d:Data) (v:Value),cs[i]?=some d->vs[i]?=some v->Den w aO d v) :
   Den w aO (.cw cs) (.tuple vs.toArray)
theorem K1 {es:List (List Data)}{sz:Nat}(h:∀e∈es,D e=sz):(D es.flatten)=D es*sz:=by
 induction es with
 |nil=>simp
 |cons e r ay =>
  have E:=h e (by simp);have H:=ay (λx O=>h x (by simp[O]));rw[kL,hr,E,H,kf,px,Hb,xT]
theorem Den.q3 {w aN:World}{aO oc:Nat->Prop}(Q:w.heap.size<=aN.heap.size)(h:∀b,b<w.heap.size->¬ aO b->aN.heap[b]?=w.heap[b]?/\¬ oc b){d:Data}{v:Value}(X:Den w aO d v):Den aN oc d v:=by
 induction X with
 |int=>exact .int
 |bool=>exact .bool
 |str=>exact .str
 |k6=>exact .k6
 | @af es b off c sz val au hm ae fB eU G X ay =>
  obtain⟨E,H⟩:=h b ae fB;exact .af val au hm (by omega) H eU (λi L=>(World.cell?_of_block (a:=⟨b,off+i,none⟩) E).trans (G i L)) ay
 |tk=>exact .tk
 |tl=>exact .tl
 | @ptr cs b off val ae fB G X ay =>
  obtain⟨E,H⟩:=h b ae fB;exact .ptr val (by omega) H (λi L=>(World.cell?_of_block (a:=⟨b,off+i,none⟩) E).trans (G i L)) ay
 |fn au X ay=>exact .fn au ay
 |agg au X ay=>exact .agg au ay
 |cw au X ay=>exact .cw au ay
structure lE where
 g:Nat
 dp:Option Nat
 size:Nat
abbrev eK:=Key->Option lE
def q4 (B:eK)(b:Nat):Prop:=∃k e,B k=some e/\e.dp=some b
def Dz (e:lE)(g sz off len:Nat)(v:Value):Prop :=
 ∃a cap,v=.slice a len cap/\len<=cap/\cap<=maxLen/\(cap=0\/∃b,a=some ⟨b,off,none⟩/\(g=e.g->e.dp=some b/\off+cap*sz<=e.size))
def K2 (e:lE)(g off:Nat)(v:Value):Prop:=∃b,v=.pointer (some ⟨b,off,none⟩)/\(g=e.g->e.dp=some b)
theorem Dz.Hc {e e':lE}{g sz off len:Nat}{v:Value}(h:Dz e g sz off len v)(au:g<e'.g):Dz e' g sz off len v:=by
 obtain⟨a,cap,E,H,ab,aM⟩:=h;refine⟨a,cap,E,H,ab,aM.imp id ?_⟩;rintro⟨b,bl,_⟩;exact⟨b,bl,λh=>by omega⟩
theorem K2.Hc {e e':lE}{g off:Nat}{v:Value}(h:K2 e g off v)(au:g<e'.g):K2 e' g off v:=by
 obtain⟨b,E,_⟩:=h;exact⟨b,E,λh=>by omega⟩
inductive bo (w:World) (aO:Nat->Prop) (B:eK):M->Value->Prop
 |I {d:Data} {v:Value} (h:Den w aO d v):bo w aO B (.I d) v
 |nil {a:Option Addr}:bo w aO B .nil (.slice a 0 0)
 |ref {k:Key} {g sz off len:Nat} {e:lE} {v:Value} (he:B k=some e) (aX:g<=e.g) (aI:Dz e g sz off len v):bo w aO B (.ref k g sz off len) v
 |ptr {k:Key} {g off:Nat} {e:lE} {v:Value} (he:B k=some e) (aX:g<=e.g) (aI:K2 e g off v):bo w aO B (.ptr k g off) v
 |fS {f:FuncId} {eZ:List M} {vs:List Value} (au:(D vs)=D eZ) (X:∀(i:Nat) (d:M) (v:Value),eZ[i]?=some d->vs[i]?=some v->bo w aO B d v) :
   bo w aO B (.fS f eZ) (.func (.func f) #[] vs.toArray)
 |agg {cs:List M} {vs:List Value} (au:(D vs)=D cs) (X:∀(i:Nat) (d:M) (v:Value),cs[i]?=some d->vs[i]?=some v->bo w aO B d v) :
   bo w aO B (.agg cs) (.agg vs.toArray)
 |cw {cs:List M} {vs:List Value} (au:(D vs)=D cs) (X:∀(i:Nat) (d:M) (v:Value),cs[i]?=some d->vs[i]?=some v->bo w aO B d v) :
   bo w aO B (.cw cs) (.tuple vs.toArray)
 |no:bo w aO B .no undef
 |undef {v:Value}:bo w aO B .undef v
def cj (A:Nat->Prop)(B:eK)(b:Nat):Prop:=q4 B b\/A b
structure Trans (A:Nat->Prop) (w:World) (B:eK) (aN:World) (bq:eK):Prop where
 size:w.heap.size<=aN.heap.size
 Hd:∀b,b<w.heap.size->¬ cj A B b->aN.heap[b]?=w.heap[b]?/\¬ q4 bq b
 key:∀k e,B k=some e->∃e',bq k=some e'/\(e'=e\/e.g<e'.g)
theorem Trans.refl (A:Nat->Prop)(w:World)(B:eK):Trans A w B w B :=
 ⟨bP _,λ_ _ h=>⟨rfl,λbx=>h (.inl bx)⟩,λ_ e he=>⟨e,he,.inl rfl⟩⟩
theorem Trans.trans {A:Nat->Prop}{w w1 nd:World}{B Bj Bk:eK}(h:Trans A w B w1 Bj)(b2:Trans A w1 Bj nd Bk):Trans A w B nd Bk:=by
 refine⟨eF h.size b2.size,λb ae bx=>?_,λk e he=>?_⟩
 ·obtain⟨E,H⟩:=h.Hd b ae bx;obtain⟨ab,aM⟩:=b2.Hd b (Bl ae h.size) (λO=>O.elim H λa1=>bx (.inr a1));exact⟨ab.trans E,aM⟩
 ·obtain⟨aw,aju,aS⟩:=h.key k e he;obtain⟨aC,e0,od⟩:=b2.key k aw aju;refine⟨aC,e0,?_⟩;rcases aS with rfl|aS<;>rcases od with rfl|od
  ·exact .inl rfl
  ·exact .inr od
  ·exact .inr aS
  ·exact .inr (Nat.lt_trans aS od)
theorem Den.trans {A:Nat->Prop}{w aN:World}{B bq:eK}(t:Trans A w B aN bq){d:Data}{v:Value}(h:Den w (cj A B) d v):Den aN (cj A bq) d v :=
 h.q3 t.size λb ae bx=>⟨(t.Hd b ae bx).1,λO=>O.elim (t.Hd b ae bx).2 λa1=>bx (.inr a1)⟩
theorem bo.q3 {A:Nat->Prop}{w aN:World}{B bq:eK}(t:Trans A w B aN bq){m:M}{v:Value}(h:bo w (cj A B) B m v):bo aN (cj A bq) bq m v:=by
 induction h with
 |I h=>exact .I (h.trans t)
 |nil=>exact .nil
 | @ref k g sz off len e v he aX aI =>
  obtain⟨e',fT,aS⟩:=t.key k e he;rcases aS with rfl|aS
  ·exact .ref fT aX aI
  ·exact .ref fT (by omega) (aI.Hc (by omega))
 | @ptr k g off e v he aX aI =>
  obtain⟨e',fT,aS⟩:=t.key k e he;rcases aS with rfl|aS
  ·exact .ptr fT aX aI
  ·exact .ptr fT (by omega) (aI.Hc (by omega))
 |fS au X ay=>exact .fS au ay
 |agg au X ay=>exact .agg au ay
 |cw au X ay=>exact .cw au ay
 |no=>exact .no
 |undef=>exact .undef
abbrev Mem:=Key->Option (Nat×List M)
def emp:Mem:=λ_=>none
def a3 (m:Mem)(k:Key)(g:Nat)(cs:List M):Mem:=λj=>if j=k then some (g,cs) else m j
def bY (m:Mem)(k:Key):Nat:=match m k with
 |none=>0
 |some (g,_)=>g+1
structure fl (A:Nat->Prop) (w:World) (B:eK) (mem:Mem):Prop where
 zt:∀k,mem k=none->B k=none
 inj:∀k k' e e' b,B k=some e->B k'=some e'->e.dp=some b->e'.dp=some b->k=k'
 sep:∀b,A b->¬ q4 B b
 lt:∀b,A b->b<w.heap.size
 dp:∀k g cs,mem k=some (g,cs)->∃e,B k=some e/\e.g=g/\(e.dp=none->cs=[]) /\
  ∀b,e.dp=some b->∃vs T,w.heap[b]?=some (.cells vs T (0,0))/\vs.size=e.size/\D cs<=vs.size /\
   ∀(i:Nat) (m:M),cs[i]?=some m->∃v,vs[i]?=some v/\bo w (cj A B) B m v
theorem fl.zu {A:Nat->Prop}{w:World}{B:eK}{mem:Mem}(h:fl A w B mem){b:Nat}(ae:q4 B b):b<w.heap.size:=by
 obtain⟨k,e,he,ae⟩:=ae
 cases hm:mem k with
 |none=>rw[h.zt k hm] at he;cases he
 |some x =>
  obtain⟨g,cs⟩:=x;obtain⟨e',fT,_,_,aS⟩:=h.dp k g cs hm;rw[fT] at he
  cases he;obtain⟨vs,T,aI,_⟩:=aS b ae;exact (Array.getElem?_eq_some_iff.1 aI).1
structure Fr (xU:Nat->Prop) (dt w:World):Prop where
 os:w.os=dt.os
 tape:w.tape=dt.tape
 output:w.output=dt.output
 size:dt.heap.size<=w.heap.size
 block:∀g,g<dt.heap.size->¬ xU g->w.heap[g]?=dt.heap[g]?
theorem Fr.refl (xU:Nat->Prop)(w:World):Fr xU w w:=⟨rfl,rfl,rfl,bP _,λ_ _ _=>rfl⟩
theorem Fr.drew {xU:Nat->Prop}{dt w:World}(h:Fr xU dt w)(n:Nat):Fr xU dt { w with drawn:=n }:=⟨h.os,h.tape,h.output,h.size,h.block⟩
theorem Fr.alloc {xU:Nat->Prop}{dt w:World}(h:Fr xU dt w)(o:Obj):Fr xU dt (w.alloc o) :=
 ⟨h.os,h.tape,h.output,by simp;have:=h.size;omega,λg aX fB=>(RowKit.Below.heap_alloc w o g (by have:=h.size;omega)).trans (h.block g aX fB)⟩
theorem Fr.below {dt w:World}(h:Fr (λ_=>False) dt w):RowKit.Below dt.heap.size dt w:=⟨h.os,h.tape,h.output,h.size,λg aX=>h.block g aX id⟩
inductive bH where
 |t (s:Nat)
 |c (m:M)
 deriving Inhabited
inductive jG where
 |b3 (x:bH)
 |pick (c a b:bH)
 |alloc (k:Key) (z:List M)
 |box (k:Key) (x:bH)
 |build (z:List M) (parts:List (Nat×Nat×bH))
 |e1 (k:Key) (own:Bool) (z:List M) (sz len:Nat) (parts:List (Nat×Nat×bH))
 |load (n:Nat) (dC:Bool) (x:bH)
 |store (n:Nat) (x v:bH)
 |bin (op:BinOp) (x y:bH)
 |beq (neg:Bool) (x y:bH)
 |eqs (neg:Bool) (gx:List Nat) (x y:bH)
 |py (neg:Bool) (x:bH)
 |un (op:UnOp) (x:bH)
 |conv (k:IntKind) (x:bH)
 |q5 (x:bH)
 |lF (k:Key) (z:List M) (bytes:Nat) (len cap:bH)
 |et (off:Nat) (x:bH)
 |zv (off n:Nat) (dC:Bool) (x:bH)
 |jj (sz:Nat) (x i:bH)
 |oe (len sz:Nat) (x i:bH)
 |idxs (x i:bH)
 |q6 (sz:Nat) (x:bH) (bG L jH:Option bH)
 |r5 (len sz:Nat) (x:bH) (bG L jH:Option bH)
 |Bm (x:bH) (bG L:Option bH)
 |ext (i:Nat) (x:bH)
 |len (x:bH)
 |lens (x:bH)
 |app (k:Key) (z:List M) (bytes:Nat) (s x:bH)
 |q7 (sz:Nat) (d x:bH)
 |iw (jH:Bool) (x y:bH)
 |call (f:FuncId) (args:List bH)
 |nf (k:Key) (sz:Nat) (f:FuncId) (args:List bH)
 |lG (f:bH) (args:List bH)
 |lH (bG:Nat) (f:FuncId) (args:List bH)
 |tn (f:FuncId) (eZ:List bH)
 |bad
 deriving Inhabited
structure cG where
 dst:Option Nat
 g:Option (Nat×Bool)
 op:jG
 deriving Inhabited
inductive K3 where
 |pz (s:Nat) (k:Key) (sz:Nat)
 |K4 (x:bH) (i:Nat) (k:Key) (sz:Nat)
 |freeze (s:Nat)
 |K5 (x:bH) (i:Nat)
 |move
 |many
 deriving Inhabited
inductive dZ where
 |skip
 |ops (l:List cG)
 |mz (l:List cG) (c:List (List Nat))
 |seq (a b:dZ)
 |cond (c:bH) (a b:dZ)
 |block (id:Nat) (c:dZ)
 |loop (c:dZ)
 |exit (id:Nat)
 |ret
 |ghost (g:K3) (c:dZ)
 deriving Inhabited
inductive nL where
 |t (s:Nat)
 |cell (s n:Nat) (dC:Bool)
 deriving Inhabited
structure b1 where
 n:Nat
 ajv:Nat
 res:List nL
 body:dZ
 deriving Inhabited
structure a2 where
 tm:Nat->M
 mem:Mem
def eP (tm:Nat->M)(s:Nat)(m:M):Nat->M:=λt=>if t=s then m else tm t
def put (tm:Nat->M):Option Nat->M->Nat->M
 |some s,m=>eP tm s m
 |none,_=>tm
@[simp] theorem eQ (tm:Nat->M)(s:Nat)(m:M)(t:Nat):eP tm s m t=if t=s then m else tm t:=rfl
def aZ (tm:Nat->M):bH->M
 |.t s=>tm s
 |.c m=>m
def M.cells:M->List M
 |.agg cs=>cs
 |.I (.agg ds)=>ds.map .I
 |m=>[m]
def M.known:M->Bool
 |.undef=>false
 |_=>true
def M.one:M->Bool
 |.I (.agg _)=>false
 |.I (.cw _)=>false
 |.I _=>true
 |.nil=>true
 |.ref ..=>true
 |.ptr ..=>true
 |.fS ..=>true
 |_=>false
def qn (dC:Bool)(cs:List M):Option M :=
 if dC=true then some (.agg cs) else match cs with
  | [m]=>some m
  |_=>none
def cut (cs:List M)(off n:Nat):Option (List M) :=
 if off+n<=(D cs) then some ((cs.drop off).take n) else none
def lI (cs:List M)(off:Nat)(new:List M):List M:=cs.take off++new++cs.drop (off+D new)
def jX (aZ:bH->M)(cells:List M):List (Nat×Nat×bH)->Option (List M)
 | []=>some cells
 |(off,size,x)::rest =>
  if (aZ x).known=true/\(aZ x).cells.length=size/\off+size<=(D cells) then jX aZ (lI cells off (aZ x).cells) rest else none
def Bn:M->Option Data
 |.I d=>some d
 |.nil=>some (.af [])
 |_=>none
def chunk (sz:Nat):Nat->List Data->List (List Data)
 |0,_=>[]
 |n+1,l=>l.take sz::chunk sz n (l.drop sz)
def K6 (op:BinOp)(k:IntKind)(a b:Int):Option Data :=
 match op with
 |.add=>some (.int k (k.wrap (a+b)))
 |.sub=>some (.int k (k.wrap (a-b)))
 |.mul=>some (.int k (k.wrap (a*b)))
 |.quo=>if b=0 then none else some (.int k (k.wrap (a.tdiv b)))
 |.rem=>if b=0 then none else some (.int k (a.tmod b))
 |.and=>some (.int k (bits .and k a b))
 |.or=>some (.int k (bits .or k a b))
 |.xor=>some (.int k (bits .xor k a b))
 |.andNot=>some (.int k (bits .andNot k a b))
 |.eql=>some (.bool (a==b))
 |.neq=>some (.bool (a != b))
 |.lss=>some (.bool (a<b))
 |.leq=>some (.bool (a<=b))
 |.gtr=>some (.bool (a>b))
 |.geq=>some (.bool (a>=b))
 |_=>none
def K7 (op:BinOp)(k:IntKind)(a b:Int):Option Data :=
 if b<0 then none else match op with
 |.shl=>some (.int k (k.wrap (a*2^(min b.toNat k.bits))))
 |.shr=>some (.int k (a.fdiv (2^(min b.toNat k.bits))))
 |_=>none
def K8 (op:BinOp)(a b:List UInt8):Option Data :=
 match op with
 |.add=>if (D a)+D b<=maxLen then some (.str (a++b)) else none
 |.eql=>some (.bool (a==b))
 |.neq=>some (.bool (!(a==b)))
 |.lss=>some (.bool (Op.bytesLess a b))
 |.leq=>some (.bool (Op.bytesLess a b||a==b))
 |.gtr=>some (.bool (!(Op.bytesLess a b||a==b)))
 |.geq=>some (.bool (!Op.bytesLess a b))
 |_=>none
def DA:BinOp->Bool
 |.shl=>true
 |.shr=>true
 |_=>false
def He (op:BinOp)(x y:M):Option M :=
 match x,y with
 |.I (.int k a),.I (.int k' b)=>if DA op=true then (K7 op k a b).map .I else if k=k' then (K6 op k a b).map .I else none
 |.I (.str a),.I (.str b)=>(K8 op a b).map .I
 |_,_=>none
def Hf (neg:Bool):M->M->Option M
 |.I (.bool a),.I (.bool b)=>some (.I (.bool (neg != (a==b))))
 |_,_=>none
def K9:Nat->M->M->Option Bool
 |0,.I (.bool a),.I (.bool b)=>some (a==b)
 |1,.I (.int k a),.I (.int k' b)=>if k=k' then some (a==b) else none
 |2,.I (.str a),.I (.str b)=>some (a==b)
 |_,_,_=>none
def zw:List Nat->List M->List M->Option Bool
 | [],[],[]=>some true
 |k::gx,a::x,b::y=>match K9 k a b,zw gx x y with
  |some c,some d=>some (c&&d)
  |_,_=>none
 |_,_,_=>none
def Hg (op:UnOp)(x:M):Option M :=
 match op,x with
 |.neg,.I (.int k n)=>some (.I (.int k (k.wrap (0-n))))
 |.xor,.I (.int k n)=>some (.I (.int k (bits .xor k (if k.signed then -1 else k.max) n)))
 |.not,.I (.bool b)=>some (.I (.bool !b))
 |_,_=>none
def idx:M->Option Nat
 |.I (.int _ n)=>if 0<=n then some n.toNat else none
 |_=>none
def jk (d:Nat):Option M->Option Nat
 |none=>some d
 |some x=>idx x
def pA:M->Option Nat
 |.I (.af es)=>some (D es)
 |.nil=>some 0
 |.ref _ _ _ _ n=>some n
 |_=>none
def pB (mem:Mem)(n:Nat)(dC:Bool):M->Option M
 |.ptr k g off=>match mem k with
  |some (dh,cs)=>if dh=g then (cut cs off n).bind (qn dC) else none
  |none=>none
 |.I (.ptr ds)=>(cut (ds.map .I) 0 n).bind (qn dC)
 |_=>none
def xV:M->Option Nat
 |.I (.str s)=>some (D s)
 |_=>none
def DB:M->M->M->Option M
 |.I (.bool t),a,b=>some (if t=true then a else b)
 |_,_,_=>none
def Hh (z:List M)(sz len:Nat)(x:Option (List M)):Option M :=
 if (D z)=len*sz then (match x with
  |some cs=>(cs.mapM Bn).map λds => .I (.af (chunk sz len ds))
  |none=>none) else none
def Hi:M->Option (List M)
 |.agg cs=>some cs
 |.I (.agg ds)=>some (ds.map .I)
 |_=>none
def Hj (neg:Bool)(gx:List Nat)(a b:M):Option M:=match Hi a,Hi b with
 |some x,some y=>(match zw gx x y with
  |some c=>some (.I (.bool (neg != c)))
  |none=>none)
 |_,_=>none
def Hk (k:IntKind):M->Option M
 |.I (.int _ n)=>some (.I (.int k (k.wrap n)))
 |_=>none
def Hl:M->Option M
 |.ptr k g off=>some (.ptr k g off)
 |.I (.ptr ds)=>some (.I (.ptr ds))
 |_=>none
def Hm (off:Nat):M->Option M
 |.ptr k g o=>some (.ptr k g (o+off))
 |.I (.ptr ds)=>if off<=(D ds) then some (.I (.ptr (ds.drop off))) else none
 |_=>none
def Hn (off n:Nat)(dC:Bool):M->Option M
 |.agg cs=>(cut cs off n).bind (qn dC)
 |.I (.agg ds)=>(cut (ds.map .I) off n).bind (qn dC)
 |_=>none
def xW (sz n:Nat):M->Option M
 |.ref k g dX off len=>if n<len/\dX=sz then some (.ptr k g (off+n*sz)) else none
 |.I (.af es)=>match es[n]? with
  |some e=>if (D e)=sz then some (.I (.ptr e)) else none
  |none=>none
 |_=>none
def Ho (len sz n:Nat):M->Option M
 |.ptr k g off=>if n<len then some (.ptr k g (off+n*sz)) else none
 |.I (.ptr ds)=>if n<len/\n*sz<=(D ds) then some (.I (.ptr (ds.drop (n*sz)))) else none
 |_=>none
def Hp (n:Nat):M->Option M
 |.I (.str s)=>(s[n]?).map λb => .I (.int .u8 b.toNat)
 |_=>none
def v5 (sz:Nat)(es:List (List Data)):Bool:=es.all λe=>D e==sz
def Hq (sz l h:Nat):M->Option M
 |.I (.af es)=>if l<=h/\h<=D es/\v5 sz es=true then some (.I (.af ((es.take h).drop l))) else none
 |.nil=>if l=0/\h=0 then some .nil else none
 |.ref k g dX off len=>if dX=sz/\l<=h/\h<=len then some (.ref k g sz (off+l*sz) (h-l)) else none
 |_=>none
def Hr (sz l h m:Nat):M->Option M
 |.I (.af es)=>if l<=h/\h<=m/\m<=D es/\v5 sz es=true then (if m=l then some .nil else some (.I (.af ((es.take h).drop l)))) else none
 |.nil=>if l=0/\h=0/\m=0 then some .nil else none
 |.ref _ _ _ _ len=>if l<=h/\h<=m/\m<=len/\m=l then some .nil else none
 |_=>none
def Hs (l h:Nat):M->Option M
 |.I (.str s)=>if l<=h/\h<=(D s) then some (.I (.str ((s.take h).drop l))) else none
 |_=>none
def Ht (i:Nat):M->Option M
 |.cw vs=>vs[i]?
 |.I (.cw ds)=>(ds[i]?).map .I
 |_=>none
def Hu (jH:Bool):M->M->Option M
 |.I (.int k a),.I (.int k' b)=>if k=k' then some (.I (.int k (if jH=true then (if b>a then b else a) else (if b<a then b else a)))) else none
 |_,_=>none
def hM (x:Option Nat)(f:Nat->Option M):Option M:=match x with
 |some n=>f n
 |none=>none
def kg (tm:Nat->M):jG->Option M
 |.b3 x=>some (aZ tm x)
 |.pick c a b=>DB (aZ tm c) (aZ tm a) (aZ tm b)
 |.build z parts=>(jX (aZ tm) z parts).map .agg
 |.e1 _ false z sz len parts=>Hh z sz len (jX (aZ tm) z parts)
 |.bin op x y=>He op (aZ tm x) (aZ tm y)
 |.beq neg x y=>Hf neg (aZ tm x) (aZ tm y)
 |.eqs neg gx x y=>Hj neg gx (aZ tm x) (aZ tm y)
 |.un op x=>Hg op (aZ tm x)
 |.conv k x=>Hk k (aZ tm x)
 |.q5 x=>Hl (aZ tm x)
 |.et off x=>Hm off (aZ tm x)
 |.zv off n dC x=>Hn off n dC (aZ tm x)
 |.jj sz x i=>hM (idx (aZ tm i)) λn=>xW sz n (aZ tm x)
 |.oe len sz x i=>hM (idx (aZ tm i)) λn=>Ho len sz n (aZ tm x)
 |.idxs x i=>hM (idx (aZ tm i)) λn=>Hp n (aZ tm x)
 |.q6 sz x bG L none=>hM (jk 0 (bG.map (aZ tm))) λl=>hM (pA (aZ tm x)) λlen=>hM (jk len (L.map (aZ tm))) λh=>Hq sz l h (aZ tm x)
 |.q6 sz x bG (some L) (some jH)=>hM (jk 0 (bG.map (aZ tm))) λl=>hM (idx (aZ tm L)) λh=>hM (idx (aZ tm jH)) λm=>Hr sz l h m (aZ tm x)
 |.Bm x bG L=>hM (jk 0 (bG.map (aZ tm))) λl=>hM (xV (aZ tm x)) λlen=>hM (jk len (L.map (aZ tm))) λh=>Hs l h (aZ tm x)
 |.ext i x=>Ht i (aZ tm x)
 |.len x=>hM (pA (aZ tm x)) λn=>some (.I (.int .i64 n))
 |.lens x=>hM (xV (aZ tm x)) λn=>some (.I (.int .i64 n))
 |.iw jH x y=>Hu jH (aZ tm x) (aZ tm y)
 |.tn f eZ=>some (.fS f (eZ.map (aZ tm)))
 |_=>none
def PW (k:Key)(g off len sz l h:Nat):Option (Nat×List M)->Option M
 |some (dh,cs)=>if dh=g/\l<=h/\h<=len/\off+len*sz<=(D cs) then some (.ref k g sz (off+l*sz) (h-l)) else none
 |none=>none
def zx (mem:Mem)(len sz l h:Nat):M->Option M
 |.ptr k g off=>PW k g off len sz l h (mem k)
 |_=>none
def pC (mem:Mem)(sz:Nat):M->Option (Nat×List M)
 |.I (.af es)=>if v5 sz es=true then some (D es,es.flatten.map M.I) else none
 |.nil=>some (0,[])
 |.ref k g dX off len=>if dX=sz then (match mem k with
  |some (dh,cs)=>if dh=g then (cut cs off (len*sz)).map λcs=>(len,cs) else none
  |none=>none) else none
 |_=>none
abbrev Out:=Option (M×Option (Key×Nat×List M))
def iI (x:Option M):Out:=match x with
 |some m=>some (m,none)
 |none=>none
def DD (k:Key)(g:Nat)(z:List M)(sz len:Nat)(x:Option (List M)):Out :=
 if (D z)=len*sz then (match x with
  |some cs=>some (.ref k g sz 0 len,some (k,g,cs))
  |none=>none) else none
def DE (k:Key)(g:Nat)(z:List M)(bytes:Nat)(n c:Nat):Out :=
 if n=c/\bytes*n<=140737488355328/\n<=maxLen then some (.ref k g (D z) 0 n,some (k,g,(eu n z).flatten)) else none
def Hv (x y:Option Nat)(f:Nat->Nat->Out):Out:=match x,y with
 |some n,some m=>f n m
 |_,_=>none
def Hw (n:Nat)(k:Key)(g off:Nat)(v:List M)(x:Option (Nat×List M)):Out:=match x with
 |some (dh,cs)=>if dh=g/\D v=n/\off+n<=D cs/\v.all M.one=true then some (.no,some (k,g,lI cs off v)) else none
 |none=>none
def v7 (mem:Mem)(n:Nat):M->List M->Out
 |.ptr k g off,v=>Hw n k g off v (mem k)
 |_,_=>none
def l5 (k:Key)(g:Nat)(sz len bytes:Nat)(m:Nat)(new:List M)(x:Option (Nat×List M)):Out:=match x with
 |some (dh,cs)=>if dh=g/\len*sz<=D cs/\(len+m)*bytes<=140737488355328/\len+m<=maxLen/\new.all M.one=true
   then some (.ref k (g+1) sz 0 (len+m),some (k,g+1,cs.take (len*sz)++new)) else none
 |none=>none
def qo (mem:Mem)(k:Key)(z:List M)(bytes:Nat):M->Option (Nat×List M)->Out
 |.nil,some (m,new)=>if m*bytes<=140737488355328/\m<=maxLen/\new.all M.one=true then some (.ref k (bY mem k) (D z) 0 m,some (k,bY mem k,new)) else none
 |.ref k' g dX off len,some (m,new)=>if dX=D z/\off=0 then l5 k' g dX len bytes m new (mem k') else none
 |_,_=>none
def zy (k:Key)(g sz off len:Nat)(m:Nat)(new:List M)(x:Option (Nat×List M)):Out:=match x with
 |some (dh,cs)=>if dh=g/\off+len*sz<=D cs/\new.all M.one=true then some (.I (.int .i64 ((min m len:Nat):Int)),some (k,g,lI cs off (new.take (min m len*sz)))) else none
 |none=>none
def uN (mem:Mem)(sz:Nat):M->Option (Nat×List M)->Out
 |.ref k g dX off len,some (m,new)=>if dX=sz then zy k g sz off len m new (mem k) else none
 |_,_=>none
def b4 (mem:Mem)(tm:Nat->M):jG->Out
 |.alloc k z=>some (.ptr k (bY mem k) 0,some (k,bY mem k,z))
 |.box k x=>if (aZ tm x).known=true then some (.ptr k (bY mem k) 0,some (k,bY mem k,(aZ tm x).cells)) else none
 |.e1 k true z sz len parts=>DD k (bY mem k) z sz len (jX (aZ tm) z parts)
 |.lF k z bytes len cap=>Hv (idx (aZ tm len)) (idx (aZ tm cap)) (DE k (bY mem k) z bytes)
 |.load n dC x=>iI (pB mem n dC (aZ tm x))
 |.r5 len sz x bG L none=>iI (hM (jk 0 (bG.map (aZ tm))) λl=>hM (jk len (L.map (aZ tm))) λh=>zx mem len sz l h (aZ tm x))
 |.store n x v=>v7 mem n (aZ tm x) (aZ tm v).cells
 |.app k z bytes s x=>qo mem k z bytes (aZ tm s) (pC mem (D z) (aZ tm x))
 |.q7 sz d x=>uN mem sz (aZ tm d) (pC mem sz (aZ tm x))
 |op=>iI (kg tm op)
inductive gT where
 |same (r:Data)
 |own (sz:Nat) (es:List (List Data))
 |rel (bZ:M->Mem->Prop)
 |eP (r:Data) (k:Key) (g i:Nat) (c:M)
abbrev bk:=FuncId->List M->Mem->Option gT
def ix (mem:Mem):Option (Key×Nat×List M)->Mem
 |none=>mem
 |some (k,g,cs)=>a3 mem k g cs
def qp (mem:Mem)(k:Key):List M:=match mem k with
 |some (_,cs)=>cs
 |none=>[]
def tp (T:bk)(K:a2->Prop)(st:a2)(dst:Option Nat)(f:FuncId)(args:List M):Prop :=
 match T f args st.mem with
 |some (.same r)=>K ⟨put st.tm dst (.I r),st.mem⟩
 |some (.own _ es)=>K ⟨put st.tm dst (.I (.af es)),st.mem⟩
 |some (.rel bZ)=>∀r mem',bZ r mem'->K ⟨put st.tm dst r,mem'⟩
 |some (.eP r k g i c)=>K ⟨put st.tm dst (.I r),a3 st.mem k g ((qp st.mem k).set i c)⟩
 |none=>False
def Bo:M->Option Bool
 |.I (.af es)=>some (!es.isEmpty)
 |.nil=>some false
 |.ref _ _ _ _ len=>some (decide (0<len))
 |_=>none
def gd (T:bk)(K:a2->Prop)(i:cG)(st:a2):Prop :=
 match i.op with
 |.call f args=>tp T K st i.dst f (args.map (aZ st.tm))
 |.nf k sz f args=>match T f (args.map (aZ st.tm)) st.mem with
  |some (.own dX es)=>if dX=sz then K ⟨put st.tm i.dst (.ref k (bY st.mem k) sz 0 (D es)),a3 st.mem k (bY st.mem k) (es.flatten.map .I)⟩ else False
  |_=>False
 |.lG f args=>match aZ st.tm f with
  |.fS g eZ=>tp T K st i.dst g (args.map (aZ st.tm)++eZ)
  |.I (.fn g ds)=>tp T K st i.dst g (args.map (aZ st.tm)++ds.map .I)
  |_=>False
 |.py neg x=>match Bo (aZ st.tm x) with
  |some full=>∀b:Bool,(full=true->b=false)->K ⟨put st.tm i.dst (.I (.bool (neg != b))),st.mem⟩
  |none=>False
 |op=>match b4 st.mem st.tm op with
  |some (m,e)=>K ⟨put st.tm i.dst m,ix st.mem e⟩
  |none=>False
def og (tm:Nat->M):Option (Nat×Bool)->Option Bool
 |none=>some true
 |some (s,b)=>match tm s with
  |.I (.bool t)=>some (t==b)
  |.no=>some false
  |_=>none
def v8 (T:bk)(K:a2->Prop):List cG->a2->Prop
 | [],st=>K st
 |i::r,st=>match og st.tm i.g with
  |none=>False
  |some g=>if g=true then gd T (v8 T K r) i st else v8 T K r ⟨put st.tm i.dst .no,st.mem⟩
def keyOf:M->List Key
 |.ref k ..=>[k]
 |.ptr k ..=>[k]
 |_=>[]
inductive oh where
 |ic (k:Key)
 |rd (k:Key) (a b:Nat)
 |wr (k:Key) (i:Nat)
def oh.key:oh->Key
 |.ic k=>k
 |.rd k _ _=>k
 |.wr k _=>k
def qq:oh->oh->Bool
 |.ic k,.ic k' => !(k==k')
 |.ic k,.rd k' _ _ => !(k==k')
 |.rd k _ _,.ic k' => !(k==k')
 |.rd _ _ _,.rd _ _ _=>true
 |.rd k a b,.wr k' i => !(k==k')||(decide (i<a)||decide (b<=i))
 |.wr k' i,.rd k a b => !(k==k')||(decide (i<a)||decide (b<=i))
 |.wr _ _,.wr _ _=>false
 |.ic _,.wr _ _=>false
 |.wr _ _,.ic _=>false
def DF (n:Nat):M->List oh
 |.ref k ..=>[.ic k]
 |.ptr k _ off=>[.rd k off (off+n)]
 |_=>[]
def Hx (bG:Nat):List M->List oh
 |.ptr k _ off::_=>[.wr k (off+bG)]
 |_=>[]
def dO (tm:Nat->M):jG->List oh
 |.load n _ x=>DF n (aZ tm x)
 |.r5 _ _ x _ _ _=>(keyOf (aZ tm x)).map .ic
 |.store _ x _=>(keyOf (aZ tm x)).map .ic
 |.alloc k _=>[.ic k]
 |.box k _=>[.ic k]
 |.e1 k true _ _ _ _=>[.ic k]
 |.lF k _ _ _ _=>[.ic k]
 |.nf k _ _ _=>[.ic k]
 |.app k _ _ s x => .ic k::((keyOf (aZ tm s)).map .ic++(keyOf (aZ tm x)).map .ic)
 |.q7 _ d x=>(keyOf (aZ tm d)).map .ic++(keyOf (aZ tm x)).map .ic
 |.lH bG _ args=>Hx bG (args.map (aZ tm))
 |_=>[]
def jl:jG->Bool
 |.store ..=>true
 |.alloc ..=>true
 |.box ..=>true
 |.e1 _ true _ _ _ _=>true
 |.lF ..=>true
 |.nf ..=>true
 |.app ..=>true
 |.q7 ..=>true
 |.lH ..=>true
 |_=>false
def zz:M->M
 |.I d => .I d
 |.nil => .nil
 |.fS f [] => .fS f []
 |.agg cs=>match cs.mapM Bn with
  |some ds => .I (.agg ds)
  |none => .undef
 |_ => .undef
def DG (bG:Nat)(mem:Mem):List M->Option gT->Option (M×Option (Key×Nat×List M))
 |.ptr k _ off::_,some (.eP r k' dh i c)=>match mem k with
  |some (g,cs)=>if k'=k/\dh=g/\i=off+bG then some (.I r,some (k,g,cs.set i c)) else none
  |none=>none
 |_,_=>none
def iU (T:bk)(mem:Mem)(tm:Nat->M):jG->Option (M×Option (Key×Nat×List M))
 |.call f args=>match T f (args.map λx=>zz (aZ tm x)) emp with
  |some (.same r)=>some (.I r,none)
  |some (.own _ es)=>some (.I (.af es),none)
  |_=>none
 |.nf k sz f args=>match T f (args.map λx=>zz (aZ tm x)) emp with
  |some (.own dX es)=>if dX=sz then some (.ref k (bY mem k) sz 0 (D es),some (k,bY mem k,es.flatten.map .I)) else none
  |_=>none
 |.lG ..=>none
 |.py ..=>none
 |.lH bG f args=>DG bG mem (args.map (aZ tm)) (T f (args.map (aZ tm)) mem)
 |op=>b4 mem tm op
abbrev Rec:=Nat->Option (Bool×List oh)
def qs (a b:Bool×List oh):Bool:=!(a.1||b.1)||a.2.all λx=>b.2.all λy=>qq x y
def DH (rec:Rec)(p:Bool×List oh)(c:List Nat):Bool:=c.all λi=>match rec i with
 |none=>true
 |some q=>qs q p
def tq (rec:Rec)(n:Nat)(p:Bool×List oh):Rec:=λi=>if i=n then some p else rec i
def uO (T:bk)(K:a2->Prop):Nat->List cG->List (List Nat)->Rec->a2->Prop
 |_,[],_,_,st=>K st
 |n,i::r,cs,rec,st=>match og st.tm i.g with
  |none=>False
  |some g=>if g=true then (match iU T st.mem st.tm i.op with
    |some (m,e)=>DH rec (jl i.op,dO st.tm i.op) (cs.headD [])=true/\uO T K (n+1) r cs.tail (tq rec n (jl i.op,dO st.tm i.op)) ⟨put st.tm i.dst m,ix st.mem e⟩
    |none=>False) else uO T K (n+1) r cs.tail rec ⟨put st.tm i.dst .no,st.mem⟩
inductive ev where
 |normal
 |exit (id:Nat)
 |ret
def c8:Nat->Mem->M->Option Data
 |_,_,.I d=>some d
 |_,_,.nil=>some (.af [])
 |0,_,_=>none
 |n+1,mem,.ref k g sz off len=>match mem k with
  |some (dh,cs)=>if dh=g then (match cut cs off (len*sz) with
   |some part=>(part.mapM (c8 n mem)).map λds => .af (chunk sz len ds)
   |none=>none) else none
  |none=>none
 |n+1,mem,.ptr k g off=>match mem k with
  |some (dh,cs)=>if dh=g/\off<=(D cs) then ((cs.drop off).mapM (c8 n mem)).map .ptr else none
  |none=>none
 |n+1,mem,.fS f cs=>(cs.mapM (c8 n mem)).map (.fn f)
 |n+1,mem,.agg cs=>(cs.mapM (c8 n mem)).map .agg
 |n+1,mem,.cw cs=>(cs.mapM (c8 n mem)).map .cw
 |_,_,.no=>none
 |_,_,.undef=>none
def kill (mem:Mem)(k:Key):Mem:=a3 mem k (bY mem k) []
def v9 (cs:List M):Bool:=cs.all λm=>(Bn m).isSome
inductive q8 (mem:Mem):Mem->Prop
 |La (fq gE:Nat) (gf:List M) (i k g sz off len:Nat) (cs:List M) (k':Nat) (E:mem fq=some (gE,gf)) (H:gf[i]?=some (.ref k g sz off len)) (ab:mem k=some (g,cs)) (aM:k≠fq) (bl:k'≠k) (bI:k'≠fq) :
   q8 mem (a3 (a3 (a3 mem k (bY mem k) []) k' (bY mem k') cs) fq gE (gf.set i (.ref k' (bY mem k') sz off len)))
 |YM (fq gE:Nat) (gf:List M) (i k g off:Nat) (cs:List M) (k':Nat) (E:mem fq=some (gE,gf)) (H:gf[i]?=some (.ptr k g off)) (ab:mem k=some (g,cs)) (aM:k≠fq) (bl:k'≠k) (bI:k'≠fq) :
   q8 mem (a3 (a3 (a3 mem k (bY mem k) []) k' (bY mem k') cs) fq gE (gf.set i (.ptr k' (bY mem k') off)))
 |Lb (fq gE:Nat) (gf:List M) (i k g sz off len:Nat) (cs:List M) (d:Data) (E:mem fq=some (gE,gf)) (H:gf[i]?=some (.ref k g sz off len)) (ab:mem k=some (g,cs)) (aM:k≠fq) (bl:c8 1 mem (.ref k g sz off len)=some d) :
   q8 mem (a3 (kill mem k) fq gE (gf.set i (.I d)))
inductive r6:Mem->Mem->Prop
 |refl (mem:Mem):r6 mem mem
 |step {mem Hy YN:Mem} (h:q8 mem Hy) (b2:r6 Hy YN):r6 mem YN
def kM (K:a2->Prop)(st:a2):K3->Prop
 |.pz s k sz=>match st.tm s with
  |.nil=>K ⟨eP st.tm s (.ref k (bY st.mem k) sz 0 0),a3 st.mem k (bY st.mem k) []⟩
  |_=>False
 |.K4 x i k sz=>match aZ st.tm x with
  |.ptr kc g off=>match st.mem kc with
   |some (dh,cs)=>if dh=g then (match cs[off+i]? with
    |some .nil=>if k≠kc then K ⟨st.tm,a3 (a3 st.mem k (bY st.mem k) []) kc g (cs.set (off+i) (.ref k (bY st.mem k) sz 0 0))⟩ else False
    |_=>False) else False
   |none=>False
  |_=>False
 |.freeze s=>match st.tm s with
  |.ref k g _ _ _=>match st.mem k with
   |some (dh,cs)=>if dh=g/\v9 cs=true then (match c8 1 st.mem (st.tm s) with
    |some d=>K ⟨eP st.tm s (.I d),kill st.mem k⟩
    |none=>False) else False
   |none=>False
  |_=>False
 |.K5 x i=>match aZ st.tm x with
  |.ptr kc gc off=>match st.mem kc with
   |some (Hz,cc)=>if Hz=gc then (match cc[off+i]? with
    |some (.ref k g sz o len)=>match st.mem k with
     |some (dh,cs)=>if dh=g/\v9 cs=true/\k≠kc then (match c8 1 st.mem (.ref k g sz o len) with
      |some d=>K ⟨st.tm,a3 (kill st.mem k) kc gc (cc.set (off+i) (.I d))⟩
      |none=>False) else False
     |none=>False
    |_=>False) else False
   |none=>False
  |_=>False
 |.move=>K st\/(∃fq gE gf i k g sz off len cs k',st.mem fq=some (gE,gf)/\gf[i]?=some (.ref k g sz off len)/\st.mem k=some (g,cs)/\k≠fq/\k'≠k/\k'≠fq /\
   K ⟨st.tm,a3 (a3 (a3 st.mem k (bY st.mem k) []) k' (bY st.mem k') cs) fq gE (gf.set i (.ref k' (bY st.mem k') sz off len))⟩) \/
   ∃fq gE gf i k g sz off len cs d,st.mem fq=some (gE,gf)/\gf[i]?=some (.ref k g sz off len)/\st.mem k=some (g,cs)/\v9 cs=true/\k≠fq/\c8 1 st.mem (.ref k g sz off len)=some d /\
   K ⟨st.tm,a3 (kill st.mem k) fq gE (gf.set i (.I d))⟩
 |.many=>∃mem',r6 st.mem mem'/\K ⟨st.tm,mem'⟩
def wp (T:bk):dZ->(ev->a2->Prop)->a2->Prop
 |.skip,K,st=>K .normal st
 |.ops l,K,st=>v8 T (K .normal) l st
 |.mz l c,K,st=>uO T (K .normal) 0 l c (λ_=>none) st
 |.seq a b,K,st=>wp T a (λe dx=>match e with
  |.normal=>wp T b K dx
  |e=>K e dx) st
 |.cond c a b,K,st=>match aZ st.tm c with
  |.I (.bool t)=>if t=true then wp T a K st else wp T b K st
  |_=>False
 |.block id c,K,st=>wp T c (λe dx=>match e with
  |.exit j=>if j=id then K .normal dx else K (.exit j) dx
  |e=>K e dx) st
 |.loop c,K,st=>∃(r7:a2->Prop) (μ:a2->Nat),r7 st/\∀st,r7 st->wp T c (λe dx=>match e with
  |.normal=>r7 dx/\μ dx<μ st
  |e=>K e dx) st
 |.exit id,K,st=>K (.exit id) st
 |.ret,K,st=>K .ret st
 |.ghost g c,K,st=>kM (wp T c K) st g
def DI (st:a2):nL->Option M
 |.t s=>some (st.tm s)
 |.cell s n dC=>pB st.mem n dC (st.tm s)
def oN (st:a2)(l:List nL):Option M :=
 match l.mapM (DI st) with
 |some [m]=>some m
 |some ms=>some (.cw ms)
 |none=>none
def mA (args:List M):Nat->M:=λs=>match args[s]? with
 |some m=>m
 |none => .no
def HA:Value->Option M
 |.int k n=>some (.I (.int k n))
 |.bool b=>some (.I (.bool b))
 |.string s=>some (.I (.str s.data.toList))
 |.slice none 0 0=>some .nil
 |.pointer none=>some (.I .tk)
 |.nilFunc=>some (.I .tl)
 |_=>none
def PX:Value->Option M
 |.agg cs=>(cs.toList.mapM HA).map .agg
 |v=>HA v
def dF:Operand->Option bH
 |.tmp t=>some (.t t)
 |.const v=>(PX v).map .c
 |.func f=>some (.c (.fS f []))
 |.global _=>none
def zeroOf (P:Program)(t:TypeId):Option (List M):=((P.info? t).bind (·.zero)).bind λz=>z.cells.toList.mapM HA
def fU (P:Program)(t:TypeId):Option Nat:=(P.info? t).map (·.size)
def DJ (P:Program)(t:TypeId):Option Nat:=(P.info? t).map (·.bytes)
def xX (P:Program)(t:TypeId):Option Bool:=(P.underlying t).map fun|.struct _=>true|.array _ _=>true|_=>false
def partsOf (place:Nat->Option (Nat×Nat))(l:List (Nat×Operand)):Option (List (Nat×Nat×bH)) :=
 l.mapM λ(i,x)=>do
  let (o,s) <-place i
  let y <-dF x
  pure (o,s,y)
def tr (P:Program)(dq:Array Field)(i:Nat):Option (Nat×Nat):=do
 let f <-dq[i]?
 let s <-fU P f.type
 pure (f.offset,s)
def HB (P:Program)(t:TypeId):Option Nat :=
 match P.underlying t with
 |some .bool=>some 0
 |some (.int _)=>some 1
 |some .string=>some 2
 |_=>none
def DK (P:Program):Nat->List Field->Option (List Nat)
 |_,[]=>some []
 | i, f :: r => if f.name ≠ "_" /\ f.offset = i then (match HB P f.type, DK P (i + 1) r with
  |some k,some gx=>some (k::gx)
  |_,_=>none) else none
def xY (P:Program)(t:TypeId)(dq:Array Field)(neg:Bool)(x y:Operand):Option jG :=
 if P.stoodInHeld t=false/\P.eqGuardType P.depth t=false then (match DK P 0 dq.toList,dF x,dF y with
  |some gx,some x,some y=>some (.eqs neg gx x y)
  |_,_,_=>none) else none
def PY:Operand->Bool
 |.const (.slice none 0 0)=>true
 |_=>false
def Bp (P:Program)(op:BinOp)(t:TypeId)(x y:Operand):Option jG :=
 match P.underlying t with
 |some (.int _)=>match dF x,dF y with
  |some x,some y=>some (.bin op x y)
  |_,_=>none
 |some .string=>match dF x,dF y with
  |some x,some y=>some (.bin op x y)
  |_,_=>none
 |some .bool=>match op,dF x,dF y with
  |.eql,some x,some y=>some (.beq false x y)
  |.neq,some x,some y=>some (.beq true x y)
  |_,_,_=>none
 |some (.struct dq)=>match op with
  |.eql=>xY P t dq false x y
  |.neq=>xY P t dq true x y
  |_=>none
 |some (.slice _)=>if PY y=true then (match op with
  |.eql=>(dF x).map (.py false)
  |.neq=>(dF x).map (.py true)
  |_=>none) else none
 |_=>none
def r8:Option Operand->Option (Option bH)
 |none=>some none
 |some x=>(dF x).map some
def zA (P:Program)(kb:Nat)(own:List Nat)(dst:Option Nat)(type:TypeId)(c:Call):Option jG :=
 match c.callee,c.args.toList,c.argTypes.toList with
 |.builtin .len,[x],[t]=>match P.underlying t with
  |some (.slice _)=>(dF x).map .len
  |some .string=>(dF x).map .lens
  |_=>none
 |.builtin .append,[s,x],[t,u]=>match P.underlying t,P.underlying u with
  |some (.slice e),some (.slice _)=>do
   let z <-zeroOf P e
   let b <-DJ P e
   let n <-fU P e
   let d <-dst
   let s <-dF s
   let x <-dF x
   if (D z)=n/\0<n/\t=u then pure (.app (kb+d) z b s x) else none
  |_,_=>none
 |.builtin .copy,[d,x],[t,u]=>match P.underlying t,P.underlying u with
  |some (.slice e),some (.slice _)=>do
   let n <-fU P e
   if 0<n then pure (.q7 n (<-dF d) (<-dF x)) else none
  |_,_=>none
 |.builtin .max,[x,y],_=>do pure (.iw true (<-dF x) (<-dF y))
 |.builtin .min,[x,y],_=>do pure (.iw false (<-dF x) (<-dF y))
 |.value (.func f),l,_=>if dst.any (λd=>own.contains d) then (match P.underlying type with
   |some (.slice e)=>do pure (.nf (kb+(<-dst)) (<-fU P e) f (<-l.mapM dF))
   |_=>none) else match own.find? (λo=>decide (1000000<=o)&&dst==some (o%1000000)) with
   |some o=>do pure (.lH (o/1000000-1) f (<-l.mapM dF))
   |none=>do pure (.call f (<-l.mapM dF))
 |.value f,l,_=>do pure (.lG (<-dF f) (<-l.mapM dF))
 |_,_,_=>none
def lJ (P:Program)(kb:Nat)(own:List Nat)(dst:Option Nat)(type:TypeId):Op->Option jG
 |.move x=>(dF x).map .b3
 |.assign x=>(dF x).map .b3
 |.pick c a b=>do pure (.pick (<-dF c) (<-dF a) (<-dF b))
 |.alloc e=>do pure (.alloc (kb+(<-dst)) (<-zeroOf P e))
 |.box _ x=>do pure (.box (kb+(<-dst)) (<-dF x))
 |.build t cW=>match P.underlying t with
  |some (.struct dq)=>if (dq.toList.all λf=>(fU P f.type).isSome)=true then do pure (.build (<-zeroOf P t) (<-partsOf (tr P dq) cW.toList)) else none
  |some (.array _ e)=>do
   let s <-fU P e
   pure (.build (<-zeroOf P t) (<-partsOf (λi=>some (i*s,s)) cW.toList))
  |_=>none
 |.buildSlice t len cW=>match P.underlying t with
  |some (.slice e)=>do
   let z <-zeroOf P e
   let s <-fU P e
   let cW <-partsOf (λi=>some (i*s,s)) cW.toList
   let d <-dst
   if (D z)=s/\0<s/\len*s<=16777216 then pure (.e1 (kb+d) (own.contains d) ((eu len z).flatten) s len cW) else none
  |_=>none
 |.load t x=>do pure (.load (<-fU P t) (<-xX P t) (<-dF x))
 |.store t x v=>do pure (.store (<-fU P t) (<-dF x) (<-dF v))
 |.binOp op t x y _=>Bp P op t x y
 |.unOp op _ x=>(dF x).map (.un op)
 |.nilCheck x=>(dF x).map .q5
 |.convert s t x=>match P.underlying s,P.underlying t with
  |some (.int _),some (.int k)=>(dF x).map (.conv k)
  |_,_=>none
 |.makeFunc (.func f) fst eZ=>if fst.size=0 then do pure (.tn f (<-eZ.toList.mapM dF)) else none
 |.makeSlice t l c=>match P.underlying t with
  |some (.slice e)=>do
   let z <-zeroOf P e
   let s <-fU P e
   let b <-DJ P e
   let d <-dst
   if (D z)=s/\0<s then pure (.lF (kb+d) z b (<-dF l) (<-dF c)) else none
  |_=>none
 |.slice t x bG L jH=>match P.underlying t with
  |some (.slice e)=>do
   let s <-fU P e
   if 0<s then pure (.q6 s (<-dF x) (<-r8 bG) (<-r8 L) (<-r8 jH)) else none
  |some (.array n e)=>do
   let s <-fU P e
   if 0<s/\n<=16777216 then pure (.r5 n s (<-dF x) (<-r8 bG) (<-r8 L) (<-r8 jH)) else none
  |some .string=>if jH.isNone then do pure (.Bm (<-dF x) (<-r8 bG) (<-r8 L)) else none
  |_=>none
 |.fieldAddr t x f=>match P.underlying t with
  |some (.struct dq)=>do
   let (o,s) <-tr P dq f
   if 0<s then pure (.et o (<-dF x)) else none
  |_=>none
 |.field t x f=>match P.underlying t with
  |some (.struct dq)=>do
   let fd <-dq[f]?
   let (o,s) <-tr P dq f
   pure (.zv o s (<-xX P fd.type) (<-dF x))
  |_=>none
 |.indexAddr t x i=>match P.underlying t with
  |some (.slice e)=>do
   let s <-fU P e
   if 0<s then pure (.jj s (<-dF x) (<-dF i)) else none
  |some (.array n e)=>do
   let s <-fU P e
   if 0<s then pure (.oe n s (<-dF x) (<-dF i)) else none
  |_=>none
 |.index t x i=>match P.underlying t with
  |some .string=>do pure (.idxs (<-dF x) (<-dF i))
  |_=>none
 |.extract x i=>(dF x).map (.ext i)
 |.call c=>zA P kb own dst type c
 |_=>none
def HC (ops:Array Oper):Option (Nat×Bool)->Option (Option (Nat×Bool))
 |none=>some none
 |some (j,b)=>match (ops[j]?).bind (·.dst) with
  |some s=>some (some (s,b))
  |none=>none
def zB (P:Program)(n kb:Nat)(own:List Nat)(ops:Array Oper)(o:Oper):Option cG :=
 match HC ops o.guard with
 |some g=>if o.dst.all (λd=>decide (d<n))=true then some ⟨o.dst,g,(lJ P kb own o.dst o.type o.op).getD .bad⟩ else none
 |_=>none
def q9 (m:jG):Nat:=match m with
 |.load ..=>1
 |.r5 ..=>1
 |m=>if jl m=true then 2 else 0
def xZ (a b:Nat):Bool:=a==0||b==0||(a==1&&b==1)
def e9:bH->List Nat
 |.t s=>[s]
 |.c _=>[]
def wa:Option bH->List Nat
 |some (.t s)=>[s]
 |_=>[]
def wb:jG->List Nat
 |.b3 x=>e9 x
 |.pick c a b=>e9 c++e9 a++e9 b
 |.alloc _ _=>[]
 |.box _ x=>e9 x
 |.build _ cW=>cW.flatMap λp=>e9 p.2.2
 |.e1 _ _ _ _ _ cW=>cW.flatMap λp=>e9 p.2.2
 |.load _ _ x=>e9 x
 |.store _ x v=>e9 x++e9 v
 |.bin _ x y=>e9 x++e9 y
 |.beq _ x y=>e9 x++e9 y
 |.eqs _ _ x y=>e9 x++e9 y
 |.py _ x=>e9 x
 |.un _ x=>e9 x
 |.conv _ x=>e9 x
 |.q5 x=>e9 x
 |.lF _ _ _ x y=>e9 x++e9 y
 |.et _ x=>e9 x
 |.zv _ _ _ x=>e9 x
 |.jj _ x i=>e9 x++e9 i
 |.oe _ _ x i=>e9 x++e9 i
 |.idxs x i=>e9 x++e9 i
 |.q6 _ x a b c=>e9 x++wa a++wa b++wa c
 |.r5 _ _ x a b c=>e9 x++wa a++wa b++wa c
 |.Bm x a b=>e9 x++wa a++wa b
 |.ext _ x=>e9 x
 |.len x=>e9 x
 |.lens x=>e9 x
 |.app _ _ _ s x=>e9 s++e9 x
 |.q7 _ s x=>e9 s++e9 x
 |.iw _ x y=>e9 x++e9 y
 |.call _ l=>l.flatMap e9
 |.nf _ _ _ l=>l.flatMap e9
 |.lG f l=>e9 f++l.flatMap e9
 |.lH _ _ l=>l.flatMap e9
 |.tn _ l=>l.flatMap e9
 |.bad=>[]
def zC (i:cG):List Nat:=wb i.op++(match i.g with|some (s,_)=>[s]|none=>[])
def wc (x y:cG):Bool :=
 (
  match x.dst with
  |some d => !(zC y).contains d&&y.dst != some d
  |none=>true) &&
 (
  match y.dst with
  |some d => !(zC x).contains d
  |none=>true)
def pD:List Oper->List Nat->List Nat
 | [],acc=>acc
 |o::r,acc=>pD r (acc++[o.after.toList.foldl (λs e=>if Region.binds .any e=true then s ||| (2^e.on ||| acc.getD e.on 0) else s) 0])
def DL:List cG->List cG->List Nat->Bool
 |_,[],_=>true
 |pre,c::cs,a::as=>(pre.zipIdx.all λ(p,i)=>a.testBit i||wc p c)&&DL (pre++[c]) cs as
 |_,_::_,[]=>false
def DM:Nat->List Oper->Bool
 |_,[]=>true
 |n,o::r=>(o.after.all λe => !Region.binds .any e||decide (e.on<n))&&DM (n+1) r
def DN (ops:Array Oper)(l:List cG):Bool:=DM 0 ops.toList&&DL [] l (pD ops.toList [])
def x0:List cG->List cG->List Nat->List (List Nat)
 |_,[],_=>[]
 |pre,c::cs,as=>((pre.zipIdx.filter λ(p,i) => !((as.headD 0).testBit i||xZ (q9 p.op) (q9 c.op))).map (·.2))::x0 (pre++[c]) cs as.tail
def pE (P:Program)(n kb:Nat)(own:List Nat):Code->Option dZ
 |.skip=>some .skip
 |.region _ ops draw=>match ops.toList.mapM (zB P n kb own ops) with
  |some l=>if draw=true then (if DN ops l=true then some (.mz l (x0 [] l (pD ops.toList []))) else none) else some (.ops l)
  |none=>none
 |.seq a b=>match pE P n kb own a,pE P n kb own b with
  |some x,some y=>some (.seq x y)
  |_,_=>none
 |.cond c a b=>match dF c,pE P n kb own a,pE P n kb own b with
  |some c,some x,some y=>some (.cond c x y)
  |_,_,_=>none
 |.block id c=>(pE P n kb own c).map (.block id)
 |.loop c=>(pE P n kb own c).map .loop
 |.exit id=>some (.exit id)
 |.ret=>some .ret
 |_=>none
def DO (P:Program):ResultVar->Option nL
 |.tmp t=>some (.t t)
 |.cell a t=>match fU P t,xX P t with
  |some s,some g=>some (.cell a s g)
  |_,_=>none
def r9 (P:Program)(kb:Nat)(own:List Nat)(f:Func):Option b1 :=
 match f.body with
 |none=>none
 |some c=>match pE P f.ntmps kb own c,f.results.toList.mapM (DO P) with
  |some b,some r=>some { n:=f.ntmps,ajv:=f.params.size+f.nfree,res:=r,body:=b }
  |_,_=>none
structure eG (A:Nat->Prop) (w:World) (B:eK) (aN:World) (bq:eK) (mem':Mem):Prop where
 ee:fl A aN bq mem'
 mB:Trans A w B aN bq
 az:Fr (q4 B) w aN
 fresh:∀b,q4 bq b->q4 B b\/w.heap.size<=b
theorem eG.still {A:Nat->Prop}{w aN:World}{B:eK}{mem:Mem}(h:fl A w B mem)(f:Fr (λ_=>False) w aN):eG A w B aN B mem:=by
 have mB:Trans A w B aN B:=⟨f.size,λb ae bx=>⟨f.block b ae id,λO=>bx (.inl O)⟩,λ_ e he=>⟨e,he,.inl rfl⟩⟩;refine⟨⟨h.zt,h.inj,h.sep,λb ae=>Bl (h.lt b ae) f.size,λk g cs hm=>?_⟩,mB,⟨f.os,f.tape,f.output,f.size,λb ae _=>f.block b ae id⟩,λb ae => .inl ae⟩;obtain⟨e,he,aX,aG,ae⟩:=h.dp k g cs hm;refine⟨e,he,aX,aG,λb iV=>?_⟩;obtain⟨vs,T,E,H,ab,aM⟩:=ae b iV;have aq:b<w.heap.size:=(Array.getElem?_eq_some_iff.1 E).1;exact⟨vs,T,(f.block b aq id).trans E,H,ab,λi m hm=>let ⟨v,aI,Y⟩:=aM i m hm;⟨v,aI,Y.q3 mB⟩⟩
theorem eG.refl {A:Nat->Prop}{w:World}{B:eK}{mem:Mem}(h:fl A w B mem):eG A w B w B mem:=.still h (Fr.refl _ _)
def gM (B:eK)(k:Key)(e:lE):eK:=λj=>if j=k then some e else B j
theorem g3 (B:eK)(k:Key)(e:lE):gM B k e k=some e:=by simp[gM]
theorem gU (B:eK){k j:Key}(e:lE)(h:j≠k):gM B k e j=B j:=by simp[gM,h]
section
variable {A:Nat->Prop} {w aN:World} {B:eK} {mem:Mem} {k:Key} {e':lE} {cs:List M}
theorem Trans.change (eU:w.heap.size<=aN.heap.size)
  (hold:∀b,b<w.heap.size->(∀e,B k=some e->e.dp≠some b)->aN.heap[b]?=w.heap[b]?)
  (aX:∀e,B k=some e->e'=e\/e.g<e'.g)
  (eV:∀b,e'.dp=some b->w.heap.size<=b\/∃e,B k=some e/\e.dp=some b):Trans A w B aN (gM B k e'):=by
 refine⟨eU,λb ae bx=>⟨hold b ae λe he O=>bx (.inl ⟨k,e,he,O⟩),?_⟩,λj e he=>?_⟩
 ·rintro⟨j,e,he,O⟩
  by_cases ai:j=k
  ·subst ai;rw[g3] at he
   cases he;rcases eV b O with E|⟨e,E,H⟩
   ·omega
   ·exact bx (.inl ⟨_,e,E,H⟩)
  ·rw[gU B e' ai] at he;exact bx (.inl ⟨j,e,he,O⟩)
 ·by_cases ai:j=k
  ·subst ai;exact⟨e',g3 _ _ _,aX e he⟩
  ·exact⟨e,(gU B e' ai).trans he,.inl rfl⟩
theorem PZ (eV:∀b,e'.dp=some b->w.heap.size<=b\/∃e,B k=some e/\e.dp=some b)(b:Nat)(h:q4 (gM B k e') b):q4 B b\/w.heap.size<=b:=by
 obtain⟨j,e,he,O⟩:=h
 by_cases ai:j=k
 ·subst ai;rw[g3] at he
  cases he;rcases eV b O with E|⟨e,E,H⟩
  ·exact .inr E
  ·exact .inl ⟨_,e,E,H⟩
 ·rw[gU B e' ai] at he;exact .inl ⟨j,e,he,O⟩
theorem fl.YO (h:fl A w B mem)(eU:w.heap.size<=aN.heap.size)
  (hold:∀b,b<w.heap.size->(∀e,B k=some e->e.dp≠some b)->aN.heap[b]?=w.heap[b]?)
  (aX:∀e,B k=some e->e'=e\/e.g<e'.g)
  (eV:∀b,e'.dp=some b->w.heap.size<=b\/∃e,B k=some e/\e.dp=some b)
  (aG:e'.dp=none->cs=[])
  (G:∀b,e'.dp=some b->∃vs T,aN.heap[b]?=some (.cells vs T (0,0))/\vs.size=e'.size/\D cs<=vs.size /\
   ∀(i:Nat) (m:M),cs[i]?=some m->∃v,vs[i]?=some v/\bo aN (cj A (gM B k e')) (gM B k e') m v):fl A aN (gM B k e') (a3 mem k e'.g cs):=by
 have mB:Trans A w B aN (gM B k e'):=Trans.change eU hold aX eV;have fresh:=PZ (w:=w) eV;refine⟨λj ai=>?_,λj mC e aC b he e0 ae en=>?_,λb a1 bx=>?_,λb ae=>Bl (h.lt b ae) eU,λj g nM hm=>?_⟩
 ·by_cases eW:j=k
  ·subst eW;simp[a3] at ai
  ·simp only[a3,eW,if_false] at ai;rw[gU B e' eW];exact h.zt j ai
 ·by_cases eW:j=k<;>by_cases hjk':mC=k
  ·rw[eW,hjk']
  ·subst eW;rw[g3] at he
   cases he;rw[gU B e' hjk'] at e0;rcases eV b ae with E|⟨e,E,H⟩
   ·have:=h.zu ⟨mC,aC,e0,en⟩;omega
   ·exact h.inj _ _ e aC b E e0 H en
  ·subst hjk';rw[g3] at e0
   cases e0;rw[gU B e' eW] at he;rcases eV b en with E|⟨cx,E,H⟩
   ·have:=h.zu ⟨j,e,he,ae⟩;omega
   ·exact h.inj _ _ e cx b he E ae H
  ·rw[gU B e' eW] at he;rw[gU B e' hjk'] at e0;exact h.inj j mC e aC b he e0 ae en
 ·rcases fresh b bx with E|E
  ·exact h.sep b a1 E
  ·have:=h.lt b a1;omega
 ·by_cases eW:j=k
  ·subst eW;simp only[a3,if_true,cb,fu] at hm;obtain⟨rfl,rfl⟩:=hm;refine⟨e',g3 _ _ _,rfl,aG,λb ae=>?_⟩;obtain⟨vs,T,E,H,ab,aM⟩:=G b ae;exact⟨vs,T,E,H,ab,aM⟩
  ·simp only[a3,eW,if_false] at hm;obtain⟨e,he,P0,ajw,lK⟩:=h.dp j g nM hm;refine⟨e,(gU B e' eW).trans he,P0,ajw,λb ae=>?_⟩;obtain⟨vs,T,E,H,ab,aM⟩:=lK b ae;have aq:b<w.heap.size:=(Array.getElem?_eq_some_iff.1 E).1;have we:aN.heap[b]?=w.heap[b]?:=hold b aq λcx ab aM=>eW (h.inj j k e cx b he ab ae aM);exact⟨vs,T,we.trans E,H,ab,λi m hm=>let ⟨v,aI,Y⟩:=aM i m hm;⟨v,aI,Y.q3 mB⟩⟩
theorem fl.change (h:fl A w B mem)(eU:w.heap.size<=aN.heap.size)
  (hold:∀b,b<w.heap.size->(∀e,B k=some e->e.dp≠some b)->aN.heap[b]?=w.heap[b]?)
  (aX:∀e,B k=some e->e'=e\/e.g<e'.g)
  (eV:∀b,e'.dp=some b->w.heap.size<=b\/∃e,B k=some e/\e.dp=some b)
  (aG:e'.dp=none->cs=[])
  (G:∀b,e'.dp=some b->∃vs T,aN.heap[b]?=some (.cells vs T (0,0))/\vs.size=e'.size/\D cs<=vs.size /\
   ∀(i:Nat) (m:M),cs[i]?=some m->∃v,vs[i]?=some v/\bo w (cj A B) B m v):fl A aN (gM B k e') (a3 mem k e'.g cs) :=
 h.YO eU hold aX eV aG λb ae=>by
  have mB:Trans A w B aN (gM B k e'):=Trans.change eU hold aX eV;obtain⟨vs,T,E,H,ab,aM⟩:=G b ae;exact⟨vs,T,E,H,ab,λi m hm=>let ⟨v,aI,Y⟩:=aM i m hm;⟨v,aI,Y.q3 mB⟩⟩
theorem eG.change (h:fl A w B mem)(f:Fr (λb=>∃e,B k=some e/\e.dp=some b) w aN)
  (aX:∀e,B k=some e->e'=e\/e.g<e'.g)
  (eV:∀b,e'.dp=some b->w.heap.size<=b\/∃e,B k=some e/\e.dp=some b)
  (aG:e'.dp=none->cs=[])
  (G:∀b,e'.dp=some b->∃vs T,aN.heap[b]?=some (.cells vs T (0,0))/\vs.size=e'.size/\D cs<=vs.size /\
   ∀(i:Nat) (m:M),cs[i]?=some m->∃v,vs[i]?=some v/\bo w (cj A B) B m v):eG A w B aN (gM B k e') (a3 mem k e'.g cs):=by
 have hold:∀b,b<w.heap.size->(∀e,B k=some e->e.dp≠some b)->aN.heap[b]?=w.heap[b]? :=
  λb ae O=>f.block b ae fun⟨e,he,iV⟩=>O e he iV
 exact⟨h.change f.size hold aX eV aG G,Trans.change f.size hold aX eV,⟨f.os,f.tape,f.output,f.size,λb ae bx=>f.block b ae fun⟨e,he,iV⟩=>bx ⟨k,e,he,iV⟩⟩,PZ eV⟩
theorem DP (h:fl A w B mem)(k:Key)(e:lE)(he:B k=some e):e.g<bY mem k:=by
 cases hm:mem k with
 |none=>rw[h.zt k hm] at he;cases he
 |some x =>
  obtain⟨g,cs⟩:=x;obtain⟨aC,E,H,_⟩:=h.dp k g cs hm;rw[E] at he
  cases he;simp[bY,hm,H]
theorem eG.alloc (h:fl A w B mem)(w1:World)(f:Fr (λ_=>False) w w1)(aQ:w1.heap.size=w.heap.size)(k:Key)(vs:Array Value)(T:TypeId)(au:(D cs)<=vs.size)
  (G:∀(i:Nat) (m:M),cs[i]?=some m->∃v,vs[i]?=some v/\bo w (cj A B) B m v) :
  eG A w B (w1.alloc (.cells vs T)) (gM B k ⟨bY mem k,some w.heap.size,vs.size⟩) (a3 mem k (bY mem k) cs):=by
 have f2:Fr (λ_=>False) w (w1.alloc (.cells vs T)):=f.alloc _;refine eG.change (e':=⟨bY mem k,some w.heap.size,vs.size⟩) h ⟨f2.os,f2.tape,f2.output,f2.size,λb ae _=>f2.block b ae id⟩ (λe he => .inr (DP h k e he)) (λb ae => .inl ?_) (by simp) ?_
 ·simp at ae;omega
 ·intro b ae;simp at ae;subst ae;exact⟨vs,T,by rw[<-aQ];exact heap_alloc_new w1 _,rfl,au,G⟩
theorem eG.x1 (h:fl A w B mem)(k:Key):eG A w B w (gM B k ⟨bY mem k,none,0⟩) (a3 mem k (bY mem k) []) :=
 eG.change (e':=⟨bY mem k,none,0⟩) h ⟨rfl,rfl,rfl,bP _,λ_ _ _=>rfl⟩ (λe he => .inr (DP h k e he)) (λb ae=>by simp at ae) (λ_=>rfl) (λb ae=>by simp at ae)
end
theorem eG.trans {A:Nat->Prop}{w w1 nd:World}{B Bj Bk:eK}{dG cn:Mem}(h:eG A w B w1 Bj dG)(b2:eG A w1 Bj nd Bk cn):eG A w B nd Bk cn:=by
 refine⟨b2.ee,h.mB.trans b2.mB,⟨b2.az.os.trans h.az.os,b2.az.tape.trans h.az.tape,b2.az.output.trans h.az.output,eF h.az.size b2.az.size,λb ae bx=>?_⟩,λb ae=>?_⟩
 ·have E:=h.az.block b ae bx;refine (b2.az.block b (Bl ae h.az.size) λO=>?_).trans E;rcases h.fresh b O with H|H
  ·exact bx H
  ·omega
 ·rcases b2.fresh b ae with E|E
  ·exact h.fresh b E
  ·exact .inr (eF h.az.size E)
theorem P1 {w:World}{aO:Nat->Prop}{B:eK}{v:Value}{m:M}(h:HA v=some m):bo w aO B m v:=by
 unfold HA at h
 split at h<;>simp only[cb,reduceCtorEq] at h<;>subst h
 ·exact .I .int
 ·exact .I .bool
 ·rename_i s
  exact .I (by
   have:s=⟨s.data.toList.toArray⟩:=by simp
   rw[this]
   simpa using Den.str (s:=s.data.toList))
 ·exact .nil
 ·exact .I .tk
 ·exact .I .tl
theorem nN {α β:Type}{f:α->Option β}:∀{l:List α} {r:List β},l.mapM f=some r->(D r)=D l/\∀(i:Nat) (x:α) (y:β),l[i]?=some x->r[i]?=some y->f x=some y
 | [],r,h=>by
  simp at h;subst h;exact⟨rfl,λi x y E=>by simp at E⟩
 |a::l,r,h=>by
  simp only[oi,g4,hf,eo,cb] at h;obtain⟨b,ae,HD,Y,rfl⟩:=h;obtain⟨E,H⟩:=nN Y;refine⟨by simp[E],λi x y O ao=>?_⟩
  cases i with
  |zero=>simp at O ao;subst O;subst ao;exact ae
  |succ i=>exact H i x y (by simpa using O) (by simpa using ao)
theorem ajx {w:World}{aO:Nat->Prop}{B:eK}{v:Value}{m:M}(h:PX v=some m):bo w aO B m v:=by
 unfold PX at h
 split at h
 ·rename_i cs;simp only[ei] at h;obtain⟨ms,aR,rfl⟩:=h;obtain⟨E,H⟩:=nN aR;have:=bo.agg (w:=w) (aO:=aO) (B:=B) (cs:=ms) (vs:=cs.toList) (by simp[E]) λi d v X aI=>P1 (H i v d aI X)
  simpa using this
 ·exact P1 h
section
variable {P:Program} {w:World} {aO:Nat->Prop} {B:eK}
theorem bo.wg {k:IntKind}{n:Int}{v:Value}(h:bo w aO B (.I (.int k n)) v):v=.int k n:=by
 cases h with
 |I h=>cases h;rfl
theorem bo.Bq {b:Bool}{v:Value}(h:bo w aO B (.I (.bool b)) v):v=.bool b:=by
 cases h with
 |I h=>cases h;rfl
theorem bo.Br {s:List UInt8}{v:Value}(h:bo w aO B (.I (.str s)) v):v=.string ⟨s.toArray⟩:=by
 cases h with
 |I h=>cases h;rfl
theorem bo.ofInt {k:IntKind}{n:Int}:bo w aO B (.I (.int k n)) (.int k n):=.I .int
theorem ajy {op:BinOp}{k:IntKind}{a b:Int}{d:Data}(t:TypeId)(Q:DA op=false)(h:K6 op k a b=some d):
  ∃v,(binOp op t (.int k a) (.int k b)).run P w=.ok v w/\Den w aO d v:=by
 cases op<;>simp only[K6,cb,reduceCtorEq] at h<;>simp only[DA,Bool.true_eq_false] at Q
 case quo =>
  split at h
  ·cases h
  ·rename_i ae
   cases h;exact⟨_,by simp[go_sem,Op.intDiv,ae],.int⟩
 case rem =>
  split at h
  ·cases h
  ·rename_i ae
   cases h;exact⟨_,by simp[go_sem,Op.intDiv,ae],.int⟩
 all_goals
  subst h
  first
   |exact⟨_,by simp[go_sem,Op.intArith],.int⟩
   |exact⟨_,by simp[go_sem],.int⟩
   |exact⟨_,by simp[go_sem],.bool⟩
theorem ajz {op:BinOp}{k k':IntKind}{a b:Int}{d:Data}(t:TypeId)(Q:DA op=true)(h:K7 op k a b=some d):
  ∃v,(binOp op t (.int k a) (.int k' b)).run P w=.ok v w/\Den w aO d v:=by
 unfold K7 at h
 split at h
 ·cases h
 ·rename_i ae
  cases op<;>simp only[DA,kh] at Q
  ·simp only[cb] at h;subst h;exact⟨.int k _,by simp[binOp,Op.shift,ae],.int⟩
  ·simp only[cb] at h;subst h;exact⟨.int k _,by simp[binOp,Op.shift,ae],.int⟩
theorem Lc {op:BinOp}{t:TypeId}{x y:Operand}{u v:Value}(E:u ≠ .nilIface)(H:∀c,u ≠ .agg c):eqGuard op t x y u v=pure ():=by
 unfold eqGuard
 cases op<;>cases u<;>first|rfl|exact absurd rfl E|exact absurd rfl (H _)
theorem ajA {op:BinOp}{a b:List UInt8}{d:Data}(t:TypeId)(h:K8 op a b=some d):
  ∃v,(binOp op t (.string ⟨a.toArray⟩) (.string ⟨b.toArray⟩)).run P w=.ok v w/\Den w aO d v:=by
 have ajB:binOp op t (.string ⟨a.toArray⟩) (.string ⟨b.toArray⟩)=Op.stringOp op ⟨a.toArray⟩ ⟨b.toArray⟩:=by
  cases op<;>rfl
 rw[ajB]
 cases op<;>simp only[K8,cb,reduceCtorEq] at h
 case add =>
  split at h
  ·rename_i au
   cases h;refine⟨.string ⟨(a++b).toArray⟩,?_,.str⟩;have Ld:¬ (9223372036854775807<(D a:Int)+(D b:Int)):=by unfold maxLen at au;omega
   have aw:(ByteArray.mk a.toArray).size=D a:=by simp[ByteArray.size]
   have aC:(ByteArray.mk b.toArray).size=D b:=by simp[ByteArray.size]
   have x2:(ByteArray.mk a.toArray)++(ByteArray.mk b.toArray)=⟨(a++b).toArray⟩:=by
    apply ByteArray.ext;simp
   simp[Op.stringOp,aw,aC,Ld,x2]
  ·cases h
 all_goals
  subst h;exact⟨_,by simp[Op.stringOp],.bool⟩
theorem YP {op:BinOp}{m n r:M}{u v:Value}(t:TypeId)(x y:Operand)(hm:bo w aO B m u)(aG:bo w aO B n v)(h:He op m n=some r):
  ∃z,((do eqGuard op t x y u v;binOp op t u v:Sem Value)).run P w=.ok z w/\bo w aO B r z:=by
 unfold He at h
 split at h
 ·rename_i k a k' b
  cases hm.wg
  cases aG.wg
  rw[Lc (by simp) (by simp)]
  split at h
  ·rename_i Q;simp only[ei] at h;obtain⟨d,X,rfl⟩:=h;obtain⟨z,E,H⟩:=ajz (P:=P) (w:=w) (aO:=aO) (k':=k') t Q X;exact⟨z,by simpa using E,.I H⟩
  ·rename_i Q
   split at h
   ·rename_i J;subst J;simp only[ei] at h;obtain⟨d,X,rfl⟩:=h;obtain⟨z,E,H⟩:=ajy (P:=P) (w:=w) (aO:=aO) t (by simpa using Q) X;exact⟨z,by simpa using E,.I H⟩
   ·cases h
 ·rename_i a b
  cases hm.Br
  cases aG.Br;rw[Lc (by simp) (by simp)];simp only[ei] at h;obtain⟨d,X,rfl⟩:=h;obtain⟨z,E,H⟩:=ajA (P:=P) (w:=w) (aO:=aO) t X;exact⟨z,by simpa using E,.I H⟩
 ·cases h
theorem YQ {neg:Bool}{m n r:M}{u v:Value}(t:TypeId)(x y:Operand)(bJ:P.underlying t=some .bool)(hm:bo w aO B m u)(aG:bo w aO B n v)(h:Hf neg m n=some r):
  ∃z,((do eqGuard (if neg then .neq else .eql) t x y u v;binOp (if neg then .neq else .eql) t u v:Sem Value)).run P w=.ok z w/\bo w aO B r z:=by
 unfold Hf at h
 split at h
 ·rename_i a b
  cases hm.Bq
  cases aG.Bq
  cases h;rw[Lc (by simp) (by simp)]
  cases neg
  ·exact⟨.bool (a==b),by simp[run_eql_bool w t a b bJ],by cases a<;>cases b<;>exact .I .bool⟩
  ·exact⟨.bool (!(a==b)),by simp[run_neq_bool w t a b bJ],by cases a<;>cases b<;>exact .I .bool⟩
 ·cases h
theorem ajC {t:TypeId}{k:Nat}{m n:M}{c:Bool}{u v:Value}(d:Nat)(J:HB P t=some k)(hm:bo w aO B m u)(aG:bo w aO B n v)(h:K9 k m n=some c):
  (Op.equalIn (d+1) t u v).run P w=.ok c w:=by
 unfold HB at J;unfold K9 at h
 split at h
 ·simp only[cb] at h
  cases hm.Bq
  cases aG.Bq;subst h
  split at J<;>first|(exfalso;simp at J;done)|(rename_i hu;exact run_equalIn_bool w d t _ _ hu)
 ·split at h
  ·rename_i HE;subst HE
   cases hm.wg
   cases aG.wg
   cases h
   split at J<;>first|(exfalso;simp at J;done)|(rename_i hu;exact run_equalIn_int w d t _ _ _ _ hu)
  ·cases h
 ·simp only[cb] at h
  cases hm.Br
  cases aG.Br;subst h
  split at J<;>first|(exfalso;simp at J;done)|(rename_i hu;rw[run_equalIn_string w d t _ _ hu];simp)
 ·cases h
theorem ajD {t:TypeId}{k:Nat}(h:HB P t=some k):(isAgg t).run P w=.ok false w:=by
 unfold HB at h
 split at h<;>simp only[cb,reduceCtorEq] at h<;>(rename_i hu;simp[isAgg,run_underlying hu])
theorem YR {d:Nat}{xs ys:Array Value}{cs ds:List M}(O:∀(i:Nat) (m:M) (v:Value),cs[i]?=some m->xs[i]?=some v->bo w aO B m v)(zD:xs.size=D cs)
  (ao:∀(i:Nat) (m:M) (v:Value),ds[i]?=some m->ys[i]?=some v->bo w aO B m v) (zE:ys.size=D ds) :
  ∀(dq:List Field) (i:Nat) (gx:List Nat) (c:Bool),DK P i dq=some gx->zw gx (cs.drop i) (ds.drop i)=some c->(Op.eqFields (d+1) xs ys dq).run P w=.ok c w
 | [],i,gx,c,aJ,G=>by
  simp[DK] at aJ;subst aJ
  cases E:cs.drop i<;>cases H:ds.drop i<;>simp[E,H,zw] at G
  subst G;simp[Op.eqFields]
 |f::r,i,gx,c,aJ,G=>by
  simp only[DK] at aJ
  split at aJ
  ·rename_i aG;obtain⟨pF,wh⟩:=aG
   split at aJ
   ·rename_i k ajE J ajF
    cases aJ
    cases E:cs.drop i with
    |nil=>simp[E,zw] at G
    |cons a x =>
     cases H:ds.drop i with
     |nil=>simp[E,H,zw] at G
     |cons b y =>
      rw[E,H] at G;simp only[zw] at G
      split at G
      ·rename_i aD c2 gy ts
       cases G
       have qt:i<D cs:=by
        rcases hV i (D cs) with h|h
        ·exact h
        ·rw[k7 h] at E;cases E
       have ng:i<D ds:=by
        rcases hV i (D ds) with h|h
        ·exact h
        ·rw[k7 h] at H;cases H
       rw[hW qt] at E;rw[hW ng] at H
       injection E with a1 ajG
       injection H with ae ajH
       subst a1;subst ae;subst ajG;subst ajH
       have ex:xs[f.offset]?=some (xs[i]'(by omega)):=by rw[wh];exact Array.getElem?_eq_getElem (by omega)
       have P2:ys[f.offset]?=some (ys[i]'(by omega)):=by rw[wh];exact Array.getElem?_eq_getElem (by omega)
       have rx:=O i _ _ (bs qt) (Array.getElem?_eq_getElem (by omega:i<xs.size));have ajI:=ao i _ _ (bs ng) (Array.getElem?_eq_getElem (by omega:i<ys.size));have he:=ajC (P:=P) d J rx ajI gy;have ay:=YR (d:=d) O zD ao zE r (i+1) ajE c2 ajF ts;have ajJ:(isAgg f.type).run P w=.ok false w:=ajD J;simp only[Op.eqFields,pF,ne_eq,not_false_eq_true,if_true,Sem.run_bind,part,ajJ,Result.andThen_ok,kh,if_false,ex,P2,Sem.run_pure,he]
       cases aD
       ·simp
       ·simp[ay]
      ·cases G
   ·cases aJ
  ·cases aJ
theorem YS {m:M}{v:Value}(h:bo w aO B m v)(E:m.one=true):v.oneCell'=true:=by
 cases h with
 |I X=>cases X<;>first|rfl|simp[M.one] at E
 |nil=>rfl
 |ref he aX aI=>obtain⟨a,cap,rfl,_⟩:=aI;rfl
 |ptr he aX aI=>obtain⟨b,rfl,_⟩:=aI;rfl
 |fS au X=>rfl
 |agg au X=>simp[M.one] at E
 |cw au X=>simp[M.one] at E
 |no=>simp[M.one] at E
 |undef=>simp[M.one] at E
theorem ajK {v:Value}(h:∀c,v ≠ .agg c):v.cells=#[v]:=by
 unfold Value.cells
 split
 ·rename_i cs;exact absurd rfl (h cs)
 ·rfl
theorem ajL {m:M}{v:Value}(h:bo w aO B m v)(hu:m ≠ .undef):v.cells.size=D m.cells/\∀(i:Nat) (c:M) (u:Value),m.cells[i]?=some c->v.cells[i]?=some u->bo w aO B c u:=by
 have one:(∀c,v ≠ .agg c)->m.cells=[m]->v.cells.size=D m.cells/\∀(i:Nat) (c:M) (u:Value),m.cells[i]?=some c->v.cells[i]?=some u->bo w aO B c u:=by
  intro aI hm;rw[hm,ajK aI];refine⟨rfl,λi c u G hu=>?_⟩
  cases i with
  |zero=>simp at G hu;subst G;subst hu;exact h
  |succ i=>simp at G
 cases h with
 |I X =>
  cases X with
  |agg au X =>
   refine⟨by simp[Value.cells,M.cells];exact au,λi c u G hu=>?_⟩
   simp only[M.cells,a5,ei] at G;obtain⟨d,oO,rfl⟩:=G;exact .I (X i d u oO (by simpa [Value.cells] using hu))
  |_=>exact one (by simp) rfl
 |nil=>exact one (by simp) rfl
 |ref he aX aI=>obtain⟨a,cap,rfl,_⟩:=aI;exact one (by simp) rfl
 |ptr he aX aI=>obtain⟨b,rfl,_⟩:=aI;exact one (by simp) rfl
 |fS au X=>exact one (by simp) rfl
 |agg au X =>
  refine⟨by simp[Value.cells,M.cells];exact au,λi c u G hu=>X i c u (by simpa [M.cells] using G) (by simpa [Value.cells] using hu)⟩
 |cw au X=>exact one (by simp) rfl
 |no=>exact one (by simp[undef]) rfl
 |undef=>exact absurd rfl hu
end
section
variable {P:Program} {w:World} {aO:Nat->Prop} {B:eK}
def c9 (w:World)(aO:Nat->Prop)(B:eK)(cs:List M)(vs:List Value):Prop :=
 (D vs)=D cs/\∀(i:Nat) (m:M) (v:Value),cs[i]?=some m->vs[i]?=some v->bo w aO B m v
theorem c9.get {cs:List M}{vs:List Value}(h:c9 w aO B cs vs){i:Nat}{m:M}(L:cs[i]?=some m):∃v,vs[i]?=some v/\bo w aO B m v:=by
 have au:i<D cs:=(dK.1 L).1;have aI:vs[i]?=some (vs[i]'(by rw[h.1];exact au)):=bs _;exact⟨_,aI,h.2 i m _ L aI⟩
theorem c9.nil:c9 w aO B [] []:=⟨rfl,λi m v h=>by simp at h⟩
theorem c9.cons {m:M}{v:Value}{cs:List M}{vs:List Value}(h:bo w aO B m v)(Y:c9 w aO B cs vs):c9 w aO B (m::cs) (v::vs):=by
 refine⟨by simp[Y.1],λi m' Bs E H=>?_⟩
 cases i with
 |zero=>simp at E H;subst E;subst H;exact h
 |succ i=>exact Y.2 i m' Bs (by simpa using E) (by simpa using H)
theorem c9.append {a b:List M}{x y:List Value}(h:c9 w aO B a x)(b2:c9 w aO B b y):c9 w aO B (a++b) (x++y):=by
 refine⟨by simp[h.1,b2.1],λi m v E H=>?_⟩
 rw[DQ] at E H
 split at E
 ·rename_i L;rw[Z (by rw[h.1];exact L)] at H;exact h.2 i m v E H
 ·rename_i L;rw[aa (by rw[h.1];exact L),h.1] at H;exact b2.2 _ m v E H
theorem c9.drop {a:List M}{x:List Value}(h:c9 w aO B a x)(n:Nat):c9 w aO B (a.drop n) (x.drop n) :=
 ⟨by simp[h.1],λi m v E H=>h.2 (n+i) m v (by simpa using E) (by simpa using H)⟩
theorem c9.take {a:List M}{x:List Value}(h:c9 w aO B a x)(n:Nat):c9 w aO B (a.take n) (x.take n):=by
 refine⟨by simp[h.1],λi m v E H=>?_⟩
 rw[x3] at E H
 split at E
 ·rename_i L;rw[Z L] at H;exact h.2 i m v E H
 ·cases E
theorem c9.lI {a b:List M}{x y:List Value}(h:c9 w aO B a x)(b2:c9 w aO B b y)(off:Nat):
  c9 w aO B (lI a off b) (x.take off++y++x.drop (off+D y)):=by
 unfold Mini.lI;rw[b2.1];exact ((h.take off).append b2).append (h.drop _)
theorem c9.P3 {m:M}{v:Value}(h:bo w aO B m v)(hu:m ≠ .undef):c9 w aO B m.cells v.cells.toList:=by
 obtain⟨E,H⟩:=ajL h hu;exact⟨by simpa using E,λi c u G aI=>H i c u G (by simpa using aI)⟩
theorem c9.I {ds:List Data}{vs:List Value}(au:(D vs)=D ds)(h:∀(i:Nat) (d:Data) (v:Value),ds[i]?=some d->vs[i]?=some v->Den w aO d v):c9 w aO B (ds.map .I) vs:=by
 refine⟨by simp[au],λi m v E H=>?_⟩
 simp only[a5,ei] at E;obtain⟨d,X,rfl⟩:=E;exact .I (h i d v X H)
theorem DR {cs:List M}{off n:Nat}{r:List M}(h:cut cs off n=some r):off+n<=D cs/\r=(cs.drop off).take n/\D r=n:=by
 unfold cut at h
 split at h
 ·rename_i au
  cases h;exact⟨au,rfl,by simp;omega⟩
 ·cases h
def eR (w:World)(b off:Nat)(vs:List Value):Prop:=∀(j:Nat) (u:Value),vs[j]?=some u->w.cell? ⟨b,off+j,none⟩=some u
theorem eR.add {w:World}{b off:Nat}{vs:List Value}(h:eR w b off vs)(n:Nat):eR w b (off+n) (vs.drop n):=λj u ai=>by
 have:=h (n+j) u (by simpa using ai);rwa [<-sa] at this
theorem eR.take {w:World}{b off:Nat}{vs:List Value}(h:eR w b off vs)(n:Nat):eR w b off (vs.take n):=λj u ai=>by
 rw[x3] at ai
 split at ai
 ·exact h j u ai
 ·cases ai
theorem eR.row {w:World}{b:Nat}{vs:Array Value}{T:TypeId}{az:Nat×Nat}(h:w.heap[b]?=some (.cells vs T az)):eR w b 0 vs.toList:=λj u ai=>by
 rw[oP,cell_of_row w b j vs T az h]
 simpa using ai
theorem x4 (b off n:Nat):(⟨b,off,none⟩:Addr).add n=⟨b,off+n,none⟩:=by
 unfold Addr.add
 split<;>simp_all
theorem eR.load {b off:Nat}{vs:List Value}(h:eR w b off vs):(loadCells ⟨b,off,none⟩ (D vs)).run P w=.ok vs.toArray w :=
 run_loadCells_list w _ vs λj v ai=>by rw[x4];exact h j v ai
theorem tt {t:TypeId}{n:Nat}(h:fU P t=some n):(sizeOf t).run P w=.ok n w:=by
 simp only[fU,ei] at h;obtain⟨i,L,rfl⟩:=h;simp[sizeOf,typeInfo,L]
theorem Le {t:TypeId}{g:Bool}(h:xX P t=some g):(isAgg t).run P w=.ok g w:=by
 simp only[xX,ei] at h;obtain⟨d,X,rfl⟩:=h;simp only[isAgg,Sem.run_bind,run_underlying X,Result.andThen_ok]
 cases d<;>rfl
theorem YT {t:TypeId}{n:Nat}{dC:Bool}{b off:Nat}{ms:List M}{vs:List Value}{r:M}(Q:fU P t=some n)(a1:xX P t=some dC)(au:(D ms)=n)
  (bX:c9 w aO B ms vs) (bF:eR w b off vs) (h:qn dC ms=some r):∃u,(loadVar t ⟨b,off,none⟩).run P w=.ok u w/\bo w aO B r u:=by
 unfold qn at h
 split at h
 ·rename_i x5
  cases h;subst x5;refine⟨.agg vs.toArray,?_,.agg bX.1 bX.2⟩;have:=bF.load (P:=P);rw[bX.1,au] at this;simp[loadVar,Le a1,tt Q,this]
 ·rename_i x5
  split at h
  ·cases h;obtain⟨u,hu,Y⟩:=bX.get (i:=0) (m:=r) rfl;have:=bF 0 u hu;have P4:dC=false:=by simpa using x5
   subst P4;exact⟨u,by simp[loadVar,Le a1,this];simpa using by rw[show off=off+0 from rfl,this],Y⟩
  ·cases h
end
section
variable {P:Program} {A:Nat->Prop} {w:World} {B:eK} {mem:Mem}
theorem fl.at_ (h:fl A w B mem){k:Key}{g:Nat}{cs:List M}(J:mem k=some (g,cs)):
  ∃e,B k=some e/\e.g=g/\(e.dp=none->cs=[])/\∀b,e.dp=some b->∃(vs:Array Value) (T:TypeId),w.heap[b]?=some (.cells vs T (0,0))/\vs.size=e.size/\D cs<=vs.size /\
   c9 w (cj A B) B cs (vs.toList.take (D cs)):=by
 obtain⟨e,he,aX,aG,ae⟩:=h.dp k g cs J;refine⟨e,he,aX,aG,λb iV=>?_⟩;obtain⟨vs,T,E,H,ab,aM⟩:=ae b iV;refine⟨vs,T,E,H,ab,by simp;omega,λi m v hm aI=>?_⟩
 obtain⟨u,hu,Y⟩:=aM i m hm;rw[x3] at aI
 split at aI
 ·rw[Array.getElem?_toList,hu] at aI
  cases aI;exact Y
 ·cases aI
theorem YU {n:Nat}{dC:Bool}{m r:M}{v:Value}(bT:fl A w B mem)(aI:bo w (cj A B) B m v)(h:pB mem n dC m=some r):
  ∃b off ms vs,v=.pointer (some ⟨b,off,none⟩)/\D ms=n/\c9 w (cj A B) B ms vs/\eR w b off vs/\qn dC ms=some r:=by
 unfold pB at h
 split at h
 ·rename_i k g off
  split at h
  ·rename_i dh cs J
   split at h
   ·rename_i aX;subst aX;simp only[eo] at h;obtain⟨ms,aR,Y⟩:=h;obtain⟨au,rfl,aG⟩:=DR aR;obtain⟨e,he,ck,DS,ae⟩:=bT.at_ J
    cases aI with
    |ptr fT P0 ra =>
     rw[he] at fT
     cases fT;obtain⟨b,rfl,iV⟩:=ra;have iV:=iV ck.symm;obtain⟨vs,T,aS,aQ,hle,bX⟩:=ae b iV;refine⟨b,off,_,((vs.toList.take (D cs)).drop off).take n,rfl,aG,(bX.drop off).take n,?_,Y⟩;have:=(((eR.row aS).take (D cs)).add off).take n
     simpa using this
   ·cases h
  ·cases h
 ·rename_i ds;simp only[eo] at h;obtain⟨ms,aR,Y⟩:=h;obtain⟨au,rfl,aG⟩:=DR aR
  cases aI with
  |I X =>
   cases X with
   | @ptr cs b off val ae fB G X =>
    refine⟨b,off,_,((dL (D ds)).map val).take n,rfl,aG,?_,?_,Y⟩
    ·have:c9 w (cj A B) B (ds.map .I) ((dL (D ds)).map val):=c9.I (by simp) λi d v E H=>by
      have L:i<D ds:=(dK.1 E).1;simp[L] at H;subst H;exact X i d E
     simpa using this.take n
    ·refine eR.take (λj u ai=>?_) n;simp only[a5,ei] at ai;obtain⟨mC,tu,rfl⟩:=ai
     have E:mC=j/\j<D ds:=by
      rcases hV j (D ds) with h|h
      ·rw[sb h] at tu;exact⟨by simpa using tu.symm,h⟩
      ·rw[lL (by simpa using h)] at tu
       cases tu
     obtain⟨rfl,ki⟩:=E;exact G mC ki
 ·cases h
theorem ajM {t:TypeId}{n:Nat}{dC:Bool}{m r:M}{v:Value}(Q:fU P t=some n)(a1:xX P t=some dC)(bT:fl A w B mem)(aI:bo w (cj A B) B m v)(h:pB mem n dC m=some r):
  ∃u,(Instr.loadAt t v).run P w=.ok u w/\bo w (cj A B) B r u:=by
 obtain⟨b,off,ms,vs,rfl,au,bX,bF,Y⟩:=YU bT aI h;obtain⟨u,E,H⟩:=YT (P:=P) Q a1 au bX bF Y;exact⟨u,by simpa [Instr.loadAt,Instr.sureAddr] using E,H⟩
end
section
variable {P:Program} {w:World} {aO:Nat->Prop} {B:eK}
theorem YV {m:M}{cs:List M}{v:Value}(h:Hi m=some cs)(aI:bo w aO B m v):∃vs:List Value,v=.agg vs.toArray/\c9 w aO B cs vs:=by
 unfold Hi at h
 split at h
 ·cases h
  cases aI with
  |agg au X=>exact⟨_,rfl,au,X⟩
 ·cases h
  cases aI with
  |I X =>
   cases X with
   |agg au X=>exact⟨_,rfl,c9.I au X⟩
 ·cases h
theorem YW {neg:Bool}{gx:List Nat}{m n r:M}{u v:Value}(t:TypeId)(x y:Operand)(dq:Array Field)(hu:P.underlying t=some (.struct dq))(Q:P.stoodInHeld t=false)
  (aX:P.eqGuardType P.depth t=false) (J:DK P 0 dq.toList=some gx) (hm:bo w aO B m u) (aG:bo w aO B n v) (h:Hj neg gx m n=some r) :
  ∃z,((do eqGuard (if neg then .neq else .eql) t x y u v;binOp (if neg then .neq else .eql) t u v:Sem Value)).run P w=.ok z w/\bo w aO B r z:=by
 unfold Hj at h
 split at h
 ·rename_i cs ds kj hg
  split at h
  ·rename_i c G
   cases h;obtain⟨xs,rfl,O⟩:=YV kj hm;obtain⟨ys,rfl,ao⟩:=YV hg aG;have tv:P.fieldsOf t=dq:=by simp[Program.fieldsOf,hu]
   have he:=run_equalIn_struct (P:=P) w 9999 t xs.toArray ys.toArray (by rw[tv];exact hu) Q;rw[tv] at he
   have aJ:=YR (P:=P) (w:=w) (aO:=aO) (B:=B) (d:=9998) (xs:=xs.toArray) (ys:=ys.toArray) (cs:=cs) (ds:=ds)
    (λi m v E H=>O.2 i m v E (by simpa using H)) (by simpa using O.1) (λi m v E H=>ao.2 i m v E (by simpa using H)) (by simpa using ao.1) dq.toList 0 gx c J (by simpa using G)
   have heq:(Op.equal t (.agg xs.toArray) (.agg ys.toArray)).run P w=.ok c w:=by
    show (Op.equalIn (9999+1) t _ _).run P w=_;rw[he];exact aJ
   have uP:∀op,(op=BinOp.eql\/op=.neq)->(eqGuard op t x y (.agg xs.toArray) (.agg ys.toArray)).run P w=.ok () w:=by
    intro op nh;rcases nh with rfl|rfl<;>simp[eqGuard,aX]
   refine⟨.bool (neg != c),?_,.I .bool⟩
   cases neg
   ·simp only[kh,if_false,Sem.run_bind,uP _ (.inl rfl),Result.andThen_ok];show (do pure (Value.bool (<-Op.equal t (.agg xs.toArray) (.agg ys.toArray))):Sem Value).run P w=_
    simp[heq]
   ·simp only[if_true,Sem.run_bind,uP _ (.inr rfl),Result.andThen_ok];show (do pure (Value.bool (!(<-Op.equal t (.agg xs.toArray) (.agg ys.toArray)))):Sem Value).run P w=_
    simp[heq]
  ·cases h
 ·cases h
theorem ajN {c a b r:M}{YX tw rb:Value}(G:bo w aO B c YX)(a1:bo w aO B a tw)(ae:bo w aO B b rb)(h:DB c a b=some r):
  ∃z,(do pure (if <-asBool YX then tw else rb):Sem Value).run P w=.ok z w/\bo w aO B r z:=by
 unfold DB at h
 split at h
 ·rename_i t
  cases G.Bq
  cases t
  ·cases h;exact⟨rb,by simp[asBool],ae⟩
  ·cases h;exact⟨tw,by simp[asBool],a1⟩
 ·cases h
theorem ajO {op:UnOp}{m r:M}{v:Value}(hm:bo w aO B m v)(h:Hg op m=some r):∃z,(Op.unary op v).run P w=.ok z w/\bo w aO B r z:=by
 unfold Hg at h
 split at h
 ·cases h;cases hm.wg;exact⟨_,by simp[Op.unary,Op.intArith],.I .int⟩
 ·cases h;cases hm.wg;exact⟨_,by simp[Op.unary,go_sem],.I .int⟩
 ·cases h;cases hm.Bq;exact⟨_,by simp[Op.unary],.I .bool⟩
 ·cases h
theorem ajP {k:IntKind}{m r:M}{v:Value}(s t:TypeId)(gx:IntKind)(Q:P.underlying s=some (.int gx))(bJ:P.underlying t=some (.int k))(hm:bo w aO B m v)(h:Hk k m=some r):
  ∃z,(convert s t v).run P w=.ok z w/\bo w aO B r z:=by
 unfold Hk at h
 split at h
 ·cases h
  cases hm.wg
  have L:P.intKind t=k:=by simp[Program.intKind,bJ]
  have:=run_convert_int (P:=P) w s t;exact⟨.int k _,by simp[convert,run_underlying Q,run_underlying bJ,Conv.intToInt],.I .int⟩
 ·cases h
theorem ajQ {off:Nat}{m r:M}{v:Value}(t:TypeId)(f:Nat)(dq:Array Field)(fd:Field)(s:Nat)(hu:P.underlying t=some (.struct dq))(aJ:dq[f]?=some fd)(Q:fU P fd.type=some s)(ak:0<s)
  (bx:fd.offset=off) (hm:bo w aO B m v) (h:Hm off m=some r):∃z,(Instr.fieldAt t v f).run P w=.ok z w/\bo w aO B r z:=by
 have bN:¬ s=0:=by omega
 have run:∀b o,(Instr.fieldAt t (.pointer (some ⟨b,o,none⟩)) f).run P w=.ok (.pointer (some ⟨b,o+off,none⟩)) w:=by
  intro b o;simp[Instr.fieldAt,run_underlying hu,aJ,Instr.sureAddr,fieldPlace,tt Q,bN,x4,bx]
 unfold Hm at h
 split at h
 ·cases h;rename_i k g o
  cases hm with
  |ptr he aX aI =>
   obtain⟨b,rfl,ae⟩:=aI;exact⟨_,run b o,.ptr he aX ⟨b,rfl,ae⟩⟩
 ·rename_i ds
  split at h
  ·rename_i au
   cases h
   cases hm with
   |I X =>
    cases X with
    | @ptr cs b o val ae fB G X =>
     refine⟨_,run b o,.I (.ptr (λi=>val (off+i)) ae fB (λi L=>?_) λi d kl=>X _ d (by simpa using kl))⟩;have:=G (off+i) (by simp at L;omega);rwa [<-sa] at this
  ·cases h
 ·cases h
theorem ajR {t:TypeId}{n off:Nat}{dC:Bool}{cs ms:List M}{vs:List Value}{r:M}(Q:fU P t=some n)(a1:xX P t=some dC)(bX:c9 w aO B cs vs)(G:cut cs off n=some ms)(h:qn dC ms=some r):
  ∃u,(part t vs.toArray off).run P w=.ok u w/\bo w aO B r u:=by
 obtain⟨au,rfl,aG⟩:=DR G;have bw:=(bX.drop off).take n;unfold qn at h
 split at h
 ·rename_i x5
  cases h;subst x5;refine⟨.agg ((vs.drop off).take n).toArray,?_,.agg bw.1 bw.2⟩
  have e:vs.toArray.extract off (off+n)=((vs.drop off).take n).toArray:=by
   simp[List.extract_eq_take_drop]
  simp[part,Le a1,tt Q,e]
 ·rename_i x5;have P4:dC=false:=by simpa using x5
  subst P4
  split at h
  ·rename_i m aR
   cases h
   have L:cs[off]?=some r:=by
    have:=congrArg (λl=>l[0]?) aR;simp[x3] at this;exact this.2
   obtain⟨u,hu,ajS⟩:=bX.get L;exact⟨u,by simp[part,Le a1,hu],ajS⟩
  ·cases h
theorem ajT {off n:Nat}{dC:Bool}{m r:M}{v:Value}(t:TypeId)(f:Nat)(dq:Array Field)(fd:Field)(hu:P.underlying t=some (.struct dq))(aJ:dq[f]?=some fd)(Q:fU P fd.type=some n)
  (a1:xX P fd.type=some dC) (bx:fd.offset=off) (hm:bo w aO B m v) (h:Hn off n dC m=some r):∃z,(Instr.field t v f).run P w=.ok z w/\bo w aO B r z:=by
 subst bx
 have go:∀(cs:List M) (vs:List Value),c9 w aO B cs vs->(cut cs fd.offset n).bind (qn dC)=some r->∃z,(Instr.field t (.agg vs.toArray) f).run P w=.ok z w/\bo w aO B r z:=by
  intro cs vs bX aS;simp only[eo] at aS;obtain⟨ms,E,H⟩:=aS;obtain⟨u,ab,aM⟩:=ajR (P:=P) Q a1 bX E H;exact⟨u,by simp[Instr.field,run_underlying hu,aJ,asAgg,ab],aM⟩
 unfold Hn at h
 split at h
 ·cases hm with
  |agg au X=>exact go _ _ ⟨au,X⟩ h
 ·cases hm with
  |I X =>
   cases X with
   |agg au X=>exact go _ _ (c9.I au X) h
 ·cases h
theorem DT {m:M}{n:Nat}{v:Value}(h:idx m=some n)(aI:bo w aO B m v):∃k,v=.int k (n:Int):=by
 unfold idx at h
 split at h
 ·rename_i k i
  split at h
  ·rename_i ak
   cases h
   cases aI.wg
   exact⟨k,by rw[Int.toNat_of_nonneg ak]⟩
  ·cases h
 ·cases h
theorem Dz.at_ {e:lE}{g sz off len:Nat}{v:Value}(h:Dz e g sz off len v)(ak:0<len):∃b cap,v=.slice (some ⟨b,off,none⟩) len cap/\len<=cap/\cap<=maxLen/\(g=e.g->e.dp=some b/\off+cap*sz<=e.size):=by
 obtain⟨a,cap,rfl,H,ab,aM⟩:=h;rcases aM with aM|⟨b,rfl,bl⟩
 ·omega
 ·exact⟨b,cap,rfl,H,ab,bl⟩
theorem ajU {es:List (List Data)}{sz:Nat}(eU:∀e∈es,D e=sz):∀(n i:Nat) (e:List Data),es[n]?=some e->i<sz->es.flatten[n*sz+i]?=e[i]?:=by
 induction es with
 |nil=>intro n i e h;simp at h
 |cons a r ay =>
  intro n i e h L;have a1:=eU a (by simp)
  cases n with
  |zero =>
   simp at h;subst h;rw[kL,re (by omega)];simp
  |succ n =>
   rw[kL,rf (by rw[a1,sc];omega)];have:=ay (λx O=>eU x (by simp[O])) n i e (by simpa using h) L;rw[<-this,a1]
   congr 1
   rw[sc];omega
theorem ajV {sz n:Nat}{m r:M}{v:Value}{k:IntKind}(t e:TypeId)(hu:P.underlying t=some (.slice e))(Q:fU P e=some sz)(hm:bo w aO B m v)(h:xW sz n m=some r):
  ∃z,(Instr.indexAt t v (.int k (n:Int))).run P w=.ok z w/\bo w aO B r z:=by
 have run:∀b off len cap,n<len->(Instr.indexAt t (.slice (some ⟨b,off,none⟩) len cap) (.int k (n:Int))).run P w=.ok (.pointer (some ⟨b,off+n*sz,none⟩)) w:=by
  intro b off len cap aq;simp[Instr.indexAt,run_underlying hu,asIntOf,aq,tt Q,x4]
 unfold xW at h
 split at h
 ·split at h
  ·rename_i au;obtain⟨aq,rfl⟩:=au
   cases h
   cases hm with
   |ref he aX aI =>
    obtain⟨b,cap,rfl,E,H,ab⟩:=aI.at_ (by omega);exact⟨_,run _ _ _ _ aq,.ptr he aX ⟨b,rfl,λh=>(ab h).1⟩⟩
  ·cases h
 ·rename_i es
  split at h
  ·rename_i el km
   split at h
   ·rename_i hle
    cases h
    cases hm with
    |I X =>
     have aq:n<D es:=(dK.1 km).1
     cases X with
     |k6=>simp at aq
     | @af es b off c dX val au YY ae fB eU G X =>
      have HF:dX=sz:=by rw[<-hle];exact (eU _ (List.mem_of_getElem? km)).symm
      subst HF
      have hmul:n*dX+dX<=D es*dX:=by
       have:(n+1)*dX<=D es*dX:=rh _ aq;rwa [px,Hb] at this
      refine⟨_,run _ _ _ _ aq,.I (.ptr (λi=>val (n*dX+i)) ae fB (λi L=>?_) λi d kl=>?_)⟩
      ·have:=G (n*dX+i) (by omega);rwa [<-sa] at this
      ·refine X _ d ?_;rw[ajU eU n i el km (by have:=(dK.1 kl).1;omega)];exact kl
   ·cases h
  ·cases h
 ·cases h
theorem ajW {len sz n:Nat}{m r:M}{v:Value}{k:IntKind}(t e:TypeId)(hu:P.underlying t=some (.array len e))(Q:fU P e=some sz)(hm:bo w aO B m v)(h:Ho len sz n m=some r):
  ∃z,(Instr.indexAt t v (.int k (n:Int))).run P w=.ok z w/\bo w aO B r z:=by
 have run:∀b off,n<len->(Instr.indexAt t (.pointer (some ⟨b,off,none⟩)) (.int k (n:Int))).run P w=.ok (.pointer (some ⟨b,off+n*sz,none⟩)) w:=by
  intro b off aq;simp[Instr.indexAt,run_underlying hu,asIntOf,Instr.sureAddr,aq,tt Q,x4]
 unfold Ho at h
 split at h
 ·split at h
  ·rename_i aq
   cases h
   cases hm with
   |ptr he aX aI =>
    obtain⟨b,rfl,ae⟩:=aI;exact⟨_,run _ _ aq,.ptr he aX ⟨b,rfl,ae⟩⟩
  ·cases h
 ·rename_i ds
  split at h
  ·rename_i au;obtain⟨aq,hle⟩:=au
   cases h
   cases hm with
   |I X =>
    cases X with
    | @ptr cs b o val ae fB G X =>
     refine⟨_,run _ _ aq,.I (.ptr (λi=>val (n*sz+i)) ae fB (λi L=>?_) λi d kl=>X _ d (by simpa using kl))⟩;have:=G (n*sz+i) (by simp at L;omega);rwa [<-sa] at this
  ·cases h
 ·cases h
theorem ajX {n:Nat}{m r:M}{v:Value}{k:IntKind}(t:TypeId)(hu:P.underlying t=some .string)(hm:bo w aO B m v)(h:Hp n m=some r):
  ∃z,(Instr.index t v (.int k (n:Int))).run P w=.ok z w/\bo w aO B r z:=by
 unfold Hp at h
 split at h
 ·rename_i s;simp only[ei] at h;obtain⟨b,ae,rfl⟩:=h
  cases hm.Br;have aq:n<D s:=(dK.1 ae).1
  have e:(ByteArray.mk s.toArray)[n]?=some b:=by
   rw[ByteArray.getElem?_lt' _ _ (by simpa [ByteArray.size] using aq)];have:=(dK.1 ae).2;simp only[cb];rw[<-this]
   rfl
  exact⟨.int .u8 b.toNat,by simp[Instr.index,run_underlying hu,asIntOf,e],.I .int⟩
 ·cases h
theorem ajY {i:Nat}{m r:M}{v:Value}(hm:bo w aO B m v)(h:Ht i m=some r):∃z,(Instr.extract v i).run P w=.ok z w/\bo w aO B r z:=by
 unfold Ht at h
 split at h
 ·cases hm with
  |cw au X =>
   obtain⟨u,hu,Y⟩:=c9.get ⟨au,X⟩ h;exact⟨u,by simp[Instr.extract,hu],Y⟩
 ·simp only[ei] at h;obtain⟨d,oO,rfl⟩:=h
  cases hm with
  |I X =>
   cases X with
   |cw au X =>
    obtain⟨u,hu,Y⟩:=c9.get (c9.I au X) (i:=i) (m:=.I d) (by simp[oO]);exact⟨u,by simp[Instr.extract,hu],Y⟩
 ·cases h
theorem ajZ {m:M}{n:Nat}{v:Value}(t ty e:TypeId)(bJ:P.underlying t=some (.slice e))(hm:bo w aO B m v)(h:pA m=some n):
  (Builtin.len_ #[t] ty #[v]).run P w=.ok (.int .i64 n) w:=by
 have run:∀a c,(Builtin.len_ #[t] ty #[.slice a n c]).run P w=.ok (.int .i64 n) w:=λa c=>by
  simp[Builtin.len_,run_underlying bJ,goInt]
 unfold pA at h
 split at h<;>cases h
 ·cases hm with
  |I X =>
   cases X with
   |k6=>exact run _ _
   |af=>exact run _ _
 ·cases hm with
  |nil=>exact run _ _
 ·cases hm with
  |ref he aX aI=>obtain⟨a,cap,rfl,_⟩:=aI;exact run _ _
theorem aj0 {m:M}{n:Nat}{v:Value}(t ty:TypeId)(bJ:P.underlying t=some .string)(hm:bo w aO B m v)(h:xV m=some n):
  (Builtin.len_ #[t] ty #[v]).run P w=.ok (.int .i64 n) w:=by
 unfold xV at h
 split at h<;>cases h
 rename_i s
 cases hm.Br;have e:(ByteArray.mk s.toArray).size=D s:=by simp[ByteArray.size]
 simp[Builtin.len_,run_underlying bJ,goInt,e]
theorem YZ {jH:Bool}{m n r:M}{u v:Value}(sd:Array TypeId)(t:TypeId)(hm:bo w aO B m u)(aG:bo w aO B n v)(h:Hu jH m n=some r):
  ∃z,(if jH=true then Builtin.max_ sd t #[u,v] else Builtin.min_ sd t #[u,v]).run P w=.ok z w/\bo w aO B r z:=by
 unfold Hu at h
 split at h
 ·split at h
  ·rename_i J;subst J
   cases h
   cases hm.wg
   cases aG.wg
   cases jH
   ·exact⟨_,by simp[run_min_int2],.I .int⟩
   ·exact⟨_,by simp[run_max_int2],.I .int⟩
  ·cases h
 ·cases h
theorem aj1 {m r:M}{v:Value}(hm:bo w aO B m v)(h:Hl m=some r):(∃b off,v=.pointer (some ⟨b,off,none⟩))/\bo w aO B r v:=by
 unfold Hl at h
 split at h
 ·cases h;refine⟨?_,hm⟩
  cases hm with
  |ptr he aX aI=>obtain⟨b,rfl,_⟩:=aI;exact⟨_,_,rfl⟩
 ·cases h;refine⟨?_,hm⟩
  cases hm with
  |I X=>cases X;exact⟨_,_,rfl⟩
 ·cases h
theorem DU {x:M}{n y:Nat}{v:Value}(code:BoundsCode)(O:idx x=some n)(aI:bo w aO B x v)(aG:n<=y):(Instr.sliceBound v y code).run P w=.ok n w:=by
 obtain⟨k,rfl⟩:=DT O aI
 simpa using run_sliceBound (P:=P) w k (n:Int) y code (by omega) (by omega)
def qu (w:World)(aO:Nat->Prop)(B:eK):Option M->Option Value->Prop
 |none,none=>True
 |some m,some v=>bo w aO B m v
 |_,_=>False
theorem P5 {len cap l h:Nat}{bG L:Option M}{kn ko:Option Value}(P6:Bool)(fa:jk 0 bG=some l)(iJ:jk len L=some h)
  (l6:qu w aO B bG kn) (k8:qu w aO B L ko) (au:l<=h) (aS:h<=cap):(Instr.sliceBounds P6 len cap kn ko none).run P w=.ok (l,h,cap) w:=by
 unfold Instr.sliceBounds
 cases bG with
 |none =>
  cases kn with
  |some v=>exact l6.elim
  |none =>
   simp[jk] at fa;subst fa
   cases L with
   |none =>
    cases ko with
    |some v=>exact k8.elim
    |none=>simp[jk] at iJ;subst iJ;simp
   |some m =>
    cases ko with
    |none=>exact k8.elim
    |some v =>
     have aC:=λcode=>DU (P:=P) (y:=cap) code iJ k8 aS
     cases P6<;>simp[aC]
 |some Bt =>
  cases kn with
  |none=>exact l6.elim
  |some a0 =>
   have aw:=λcode=>DU (P:=P) (y:=h) code fa l6 au
   cases L with
   |none =>
    cases ko with
    |some v=>exact k8.elim
    |none=>simp[jk] at iJ;subst iJ;simp[aw]
   |some m =>
    cases ko with
    |none=>exact k8.elim
    |some v =>
     have aC:=λcode=>DU (P:=P) (y:=cap) code iJ k8 aS
     cases P6<;>simp[aw,aC]
theorem aj2 {len cap l h m:Nat}{bG:Option M}{L jH:M}{kn:Option Value}{ko x6:Value}(fa:jk 0 bG=some l)(iJ:idx L=some h)(hN:idx jH=some m)
  (l6:qu w aO B bG kn) (k8:bo w aO B L ko) (DV:bo w aO B jH x6) (au:l<=h) (aS:h<=m) (hm:m<=cap):(Instr.sliceBounds true len cap kn (some ko) (some x6)).run P w=.ok (l,h,m) w:=by
 have b6:=DU (P:=P) (y:=cap) .slice3Acap hN DV hm;have aC:=DU (P:=P) (y:=m) .slice3B iJ k8 aS;unfold Instr.sliceBounds
 cases bG with
 |none =>
  cases kn with
  |some v=>exact l6.elim
  |none =>
   simp[jk] at fa;subst fa;simp[b6,aC]
 |some Bt =>
  cases kn with
  |none=>exact l6.elim
  |some a0 =>
   have aw:=DU (P:=P) (y:=h) .slice3C fa l6 au;simp[b6,aC,aw]
theorem Lf {m:M}{n:Nat}{v:Value}(hm:bo w aO B m v)(h:pA m=some n):∃a c,v=.slice a n c/\n<=c:=by
 unfold pA at h
 split at h<;>cases h
 ·cases hm with
  |I X =>
   cases X with
   |k6=>exact⟨_,_,rfl,by simp⟩
   |af val au=>exact⟨_,_,rfl,au⟩
 ·cases hm with
  |nil=>exact⟨_,_,rfl,by simp⟩
 ·cases hm with
  |ref he aX aI=>obtain⟨a,cap,rfl,E,_⟩:=aI;exact⟨_,_,rfl,E⟩
theorem Y0 {t e:TypeId}{sz l h iw:Nat}{a:Option Addr}{len cap:Nat}{kn ko x6:Option Value}(bJ:P.underlying t=some (.slice e))(Q:fU P e=some sz)
  (ae:(Instr.sliceBounds true len cap kn ko x6).run P w=.ok (l,h,iw) w) :
  (Instr.sliceAt t (.slice a len cap) kn ko x6).run P w=.ok (.slice (if iw=l then a else a.map (·.add (l*sz))) (h-l) (iw-l)) w:=by
 simp[Instr.sliceAt,Instr.slice,run_underlying bJ,ae,tt Q]
theorem aj3 {es:List (List Data)}{sz:Nat}(eU:∀e∈es,D e=sz)(l:Nat):(es.drop l).flatten=es.flatten.drop (l*sz):=by
 induction es generalizing l with
 |nil=>simp
 |cons a r ay =>
  cases l with
  |zero=>simp
  |succ l =>
   have a1:=eU a (by simp);rw[List.drop_succ_cons,ay (λx O=>eU x (by simp[O])) l,kL,List.drop_append,a1];have E:a.drop ((l+1)*sz)=[]:=k7 (by rw[a1,sc];omega);rw[E,List.nil_append]
   congr 1
   rw[sc];omega
theorem aj4 {es:List (List Data)}{sz:Nat}(eU:∀e∈es,D e=sz)(l:Nat):(es.take l).flatten=es.flatten.take (l*sz):=by
 induction es generalizing l with
 |nil=>simp
 |cons a r ay =>
  cases l with
  |zero=>simp
  |succ l =>
   have a1:=eU a (by simp);rw[List.take_succ_cons,kL,ay (λx O=>eU x (by simp[O])) l,kL,Y1,a1];have E:a.take ((l+1)*sz)=a:=dD (by rw[a1,sc];omega);rw[E]
   congr 2
   rw[sc];omega
theorem Y2 {es:List (List Data)}{a:Option Addr}{len c sz l h cc:Nat}(X:Den w aO (.af es) (.slice a len c))(au:l<=h)(aS:h<=D es)(eU:0<(D es)->∀e∈es,D e=sz)(G:h-l<=cc):
  l=h\/Den w aO (.af ((es.take h).drop l)) (.slice (a.map (·.add (l*sz))) (h-l) cc):=by
 rcases Lg au with rfl|aq
 ·exact .inl rfl
 ·refine .inr ?_
  cases X with
  |k6=>simp at aS;omega
  | @af es b off c dX val Ld hm ae fB hsz' tx zF =>
   have hO:0<D es:=by omega
   have HF:dX=sz:=by
    have ak:=mD (l:=es) (n:=0) hO;rw[<-hsz' _ ak,eU hO _ ak]
   subst HF;have hlen:((es.take h).drop l).length=h-l:=by simp;omega
   have hmul:l*dX+(h-l)*dX<=D es*dX:=by
    rw[<-px];exact rh _ (by omega)
   have:=Den.af (w:=w) (aO:=aO) (es:=(es.take h).drop l) (b:=b) (off:=off+l*dX) (c:=cc) (sz:=dX) (λi=>val (l*dX+i)) (by rw[hlen];exact G) (by rw[hlen];omega) ae fB
    (λe he=>hsz' e (DW (List.mem_of_mem_drop he)))
    (λi L=>by
     rw[hlen] at L;have:=tx (l*dX+i) (by omega);rwa [<-sa] at this)
    (λi d kl=>by
     refine zF _ d ?_;rw[aj3 (λe he=>hsz' e (DW he)) l,aj4 hsz' h] at kl;rw[uQ,x3] at kl
     split at kl
     ·exact kl
     ·cases kl)
   rw[hlen] at this
   simpa [x4] using this
end
section
variable {P:Program} {w:World} {aO:Nat->Prop} {B:eK}
theorem P7 {sz:Nat}{es:List (List Data)}(h:v5 sz es=true):∀e∈es,D e=sz:=λe he=>by
 simpa using oj.1 h e he
theorem aj5 {t e:TypeId}{sz l h len:Nat}{m r:M}{v:Value}{kn ko:Option Value}{bG L:Option M}(bJ:P.underlying t=some (.slice e))(Q:fU P e=some sz)
  (fa:jk 0 bG=some l) (hlen:pA m=some len) (iJ:jk len L=some h) (l6:qu w aO B bG kn) (k8:qu w aO B L ko) (hm:bo w aO B m v) (Y:Hq sz l h m=some r) :
  ∃z,(Instr.sliceAt t v kn ko none).run P w=.ok z w/\bo w aO B r z:=by
 obtain⟨a,cap,rfl,DX⟩:=Lf hm hlen
 have run:l<=h->h<=len->(Instr.sliceAt t (.slice a len cap) kn ko none).run P w=.ok (.slice (if cap=l then a else a.map (·.add (l*sz))) (h-l) (cap-l)) w:=λE H =>
  Y0 bJ Q (P5 true fa iJ l6 k8 E (by omega))
 unfold Hq at Y
 split at Y
 ·rename_i es
  split at Y
  ·rename_i G;obtain⟨E,H,ab⟩:=G
   cases Y;simp only[pA,cb] at hlen;subst hlen;refine⟨_,run E H,.I ?_⟩
   cases hm with
   |I X =>
    rcases Y2 (sz:=sz) X E H (λ_=>P7 ab) (cc:=cap-l) (by omega) with rfl|aB
    ·rw[show ((es.take l).drop l)=[] from by simp]
     rw[mE];exact .k6
    ·rcases Lg E with rfl|aq
     ·rw[show ((es.take l).drop l)=[] from by simp]
      rw[mE];exact .k6
     ·rw[aa (by omega)];exact aB
  ·cases Y
 ·split at Y
  ·rename_i G;obtain⟨rfl,rfl⟩:=G
   cases Y
   cases hm with
   |nil=>exact⟨_,run (by omega) (by omega),by simpa using bo.nil⟩
  ·cases Y
 ·split at Y
  ·rename_i k g dX off Y3 G;obtain⟨rfl,E,H⟩:=G
   cases Y;simp only[pA,cb] at hlen;subst hlen
   cases hm with
   |ref he aX aI =>
    refine⟨_,run E H,.ref he aX ?_⟩;obtain⟨jY,ayO,wi,wj,ayP,aj6⟩:=aI
    injection wi with aw aC cx
    subst aw;subst cx
    refine⟨_,cap-l,rfl,by omega,by omega,?_⟩
    rcases jm (cap-l) with ak|ak
    ·exact .inl ak
    ·refine .inr ?_;rcases aj6 with aM|⟨b,rfl,bl⟩
     ·omega
     ·refine⟨b,by rw[aa (by omega)];simp[x4],λck=>?_⟩
      obtain⟨bI,bC⟩:=bl ck;refine⟨bI,?_⟩;rw[sa,<-px];rwa [show l+(cap-l)=cap from by omega]
  ·cases Y
 ·cases Y
theorem aj7 {t e:TypeId}{sz l h iw:Nat}{m r:M}{v:Value}{kn:Option Value}{ko x6:Value}{bG:Option M}{L jH:M}(bJ:P.underlying t=some (.slice e))(Q:fU P e=some sz)
  (fa:jk 0 bG=some l) (iJ:idx L=some h) (hN:idx jH=some iw) (l6:qu w aO B bG kn) (k8:bo w aO B L ko) (DV:bo w aO B jH x6) (hm:bo w aO B m v) (Y:Hr sz l h iw m=some r) :
  ∃z,(Instr.sliceAt t v kn (some ko) (some x6)).run P w=.ok z w/\bo w aO B r z:=by
 have run:∀a len cap,l<=h->h<=iw->iw<=len->len<=cap->(Instr.sliceAt t (.slice a len cap) kn (some ko) (some x6)).run P w=.ok (.slice (if iw=l then a else a.map (·.add (l*sz))) (h-l) (iw-l)) w :=
  λa len cap E H ab aM=>Y0 bJ Q (aj2 fa iJ hN l6 k8 DV E H (by omega))
 unfold Hr at Y
 split at Y
 ·rename_i es
  split at Y
  ·rename_i G;obtain⟨E,H,ab,aM⟩:=G;obtain⟨a,cap,rfl,DX⟩:=Lf hm (n:=D es) rfl;refine⟨_,run a _ cap E H ab DX,?_⟩
   split at Y
   ·rename_i hs
    cases Y;subst hs;have:h=iw:=by omega
    subst this
    simpa using bo.nil
   ·rename_i hs
    cases Y;rw[aa hs]
    cases hm with
    |I X =>
     refine .I ?_;rcases Lg E with rfl|aq
     ·rw[show ((es.take l).drop l)=[] from by simp]
      rw[mE];exact .k6
     ·rcases Y2 (sz:=sz) X E (by omega) (λ_=>P7 aM) (cc:=iw-l) (by omega) with ak|aB
      ·omega
      ·exact aB
  ·cases Y
 ·split at Y
  ·rename_i G;obtain⟨rfl,rfl,rfl⟩:=G
   cases Y;obtain⟨a,cap,rfl,DX⟩:=Lf hm (n:=0) rfl;exact⟨_,run a _ cap (by omega) (by omega) (by omega) DX,by simpa using bo.nil⟩
  ·cases Y
 ·rename_i k g dX off len
  split at Y
  ·rename_i G;obtain⟨E,H,ab,rfl⟩:=G
   cases Y;obtain⟨a,cap,rfl,DX⟩:=Lf hm (n:=len) rfl;have:h=iw:=by omega
   subst this;exact⟨_,run a _ cap (by omega) (by omega) (by omega) DX,by simpa using bo.nil⟩
  ·cases Y
 ·cases Y
theorem aj8 {t:TypeId}{l h len:Nat}{m r:M}{v:Value}{kn ko:Option Value}{bG L:Option M}(bJ:P.underlying t=some .string)
  (fa:jk 0 bG=some l) (hlen:xV m=some len) (iJ:jk len L=some h) (l6:qu w aO B bG kn) (k8:qu w aO B L ko) (hm:bo w aO B m v) (Y:Hs l h m=some r) :
  ∃z,(Instr.sliceAt t v kn ko none).run P w=.ok z w/\bo w aO B r z:=by
 unfold Hs at Y
 split at Y
 ·rename_i s
  split at Y
  ·rename_i G;obtain⟨E,H⟩:=G
   cases Y;simp only[xV,cb] at hlen;subst hlen
   cases hm.Br;have e:(ByteArray.mk s.toArray).size=D s:=by simp[ByteArray.size]
   have ae:=P5 (P:=P) (w:=w) (aO:=aO) (B:=B) (cap:=D s) false fa iJ l6 k8 E H
   have O:(ByteArray.mk s.toArray).extract l h=⟨((s.take h).drop l).toArray⟩:=by
    rw[ByteArray.extract_mk,Y4]
   exact⟨.string ⟨((s.take h).drop l).toArray⟩,by simp[Instr.sliceAt,Instr.slice,run_underlying bJ,e,ae,O],.I .str⟩
  ·cases Y
 ·cases Y
theorem Y5 (off:Nat):∀(l:List Value) (k:Nat) (cs:Array Value),off+k+D l<=cs.size ->
  (l.zipIdx k).foldl (λ(cs:Array Value) (p:Value×Nat)=>cs.setIfInBounds (off+p.2) p.1) cs=(cs.toList.take (off+k)++l++cs.toList.drop (off+k+D l)).toArray
 | [],k,cs,_=>by simp
 |a::l,k,cs,h=>by
  rw[List.zipIdx_cons,Y6];have b2:off+k<cs.size:=by simp at h;omega
  rw[Y5 off l (k+1) (cs.setIfInBounds (off+k) a) (by simp at h ⊢;omega)];apply Array.ext';simp only[Array.toList_setIfInBounds];have:=list_seg_step cs.toList (off+k) a l (by simp at h ⊢;omega)
  simpa [sa] using this
theorem Lh {place:Nat->Option (Nat×Nat)}{ρ:Operand->Value}{tm:Nat->M}(hρ:∀x y,dF x=some y->bo w aO B (aZ tm y) (ρ x)):
  ∀(cW:List (Nat×Operand)) (ea:List (Nat×Nat×bH)) (cs r:List M) (vs:Array Value),partsOf place cW=some ea->c9 w aO B cs vs.toList->jX (aZ tm) cs ea=some r ->
   ∃nO:Array Value,Instr.fill place vs (cW.map λp=>(p.1,ρ p.2))=some nO/\c9 w aO B r nO.toList
 | [],ea,cs,r,vs,aB,bX,h=>by
  simp[partsOf] at aB;subst aB;simp[jX] at h;subst h;exact⟨vs,rfl,bX⟩
 |(i,x)::cW,ea,cs,r,vs,aB,bX,h=>by
  simp only[partsOf,oi,g4,hf,eo,cb] at aB;obtain⟨q,bd,aj9,zG,rfl⟩:=aB;obtain⟨⟨o,s⟩,nP,y,ao,rfl⟩:=bd;simp only[jX] at h
  split at h
  ·rename_i G;obtain⟨ak,E,H⟩:=G;have Bu:=hρ x y ao;have aka:aZ tm y ≠ .undef:=λe=>by rw[e] at ak;simp[M.known] at ak
   ·have mF:=c9.P3 Bu aka;have eU:(ρ x).cells.size=s:=by have:=mF.1;simp at this;omega
    have Li:o+s<=vs.size:=by have:=bX.1;simp at this;omega
    have gg:=Y5 o (ρ x).cells.toList 0 vs (by simp[eU];exact Li);simp only[om,Array.length_toList] at gg;have P8:=bX.lI mF o;obtain⟨nO,aJ,DY⟩:=Lh hρ cW aj9 _ r ((vs.toList.take o++(ρ x).cells.toList++vs.toList.drop (o+(ρ x).cells.size)).toArray) zG (by simpa using P8) h;refine⟨nO,?_,DY⟩;simp only[List.map_cons,Instr.fill,nP];rw[aa (by simp[eU];omega)]
    have aQ:(ρ x).cells.zipIdx.foldl (λcs (p:Value×Nat)=>cs.setIfInBounds (o+p.2) p.1) vs=(vs.toList.take o++(ρ x).cells.toList++vs.toList.drop (o+(ρ x).cells.size)).toArray:=by
     rw[<-Array.foldl_toList,Array.toList_zipIdx];exact gg
    rw[<-aJ]
    congr 1
  ·cases h
end
section
variable {P:Program} {A:Nat->Prop} {w:World} {B:eK} {mem:Mem}
theorem DZ {aO:Nat->Prop}{t:TypeId}{z:List M}(h:zeroOf P t=some z):∃i jZ,P.info? t=some i/\i.zero=some jZ/\c9 w aO B z jZ.cells.toList:=by
 simp only[zeroOf,eo] at h;obtain⟨jZ,⟨i,L,aQ⟩,hm⟩:=h;obtain⟨E,H⟩:=nN hm;exact⟨i,jZ,L,aQ,by simp[E],λj m v akb akc=>P1 (H j v m akc akb)⟩
theorem Lj {t:TypeId}{i:TypeInfo}{jZ:Value}(L:P.info? t=some i)(aQ:i.zero=some jZ):(zeroValue t).run P w=.ok jZ w:=by
 simp[zeroValue,typeInfo,L,aQ]
theorem Y7 {t:TypeId}{i:TypeInfo}{n:Nat}(L:P.info? t=some i)(Q:fU P t=some n):i.size=n:=by
 simpa [fU,L] using Q
theorem Y8 {t:TypeId}{i:TypeInfo}{n:Nat}(L:P.info? t=some i)(Q:DJ P t=some n):i.bytes=n:=by
 simpa [DJ,L] using Q
theorem P9 {z:Array Value}(ak:0<z.size):∀n,((Array.range (n*z.size)).map (z[·%z.size]!)).toList=(eu n z.toList).flatten
 |0=>by simp
 |n+1=>by
  have ay:=P9 ak n;apply ri;intro i
  have aw:∀m i,((Array.range (m*z.size)).map (z[·%z.size]!)).toList[i]?=if i<m*z.size then some (z[i%z.size]!) else none:=by
   intro m i;rw[Array.getElem?_toList,Array.getElem?_map]
   by_cases L:i<m*z.size
   ·rw[Z L,Array.getElem?_range];simp[L]
   ·rw[aa L,Array.getElem?_range];simp[L]
  rw[aw,List.replicate_succ',List.flatten_append,DQ,<-ay];have el:((Array.range (n*z.size)).map (z[·%z.size]!)).toList.length=n*z.size:=by simp
  rw[el];have hmul:(n+1)*z.size=n*z.size+z.size:=by rw[px,Hb]
  by_cases L:i<n*z.size
  ·rw[Z L,Z (by omega),aw,Z L]
  ·rw[aa L]
   by_cases ng:i<(n+1)*z.size
   ·rw[Z ng];have aq:i-n*z.size<z.size:=by omega
    have Qa:i%z.size=i-n*z.size:=by
     have e:i=(i-n*z.size)+z.size*n:=by have:=Nat.mul_comm n z.size;omega
     have aC:((i-n*z.size)+z.size*n)%z.size=i-n*z.size:=by rw[Nat.add_mul_mod_self_left,Nat.mod_eq_of_lt aq]
     rwa [<-e] at aC
    rw[Qa];simp[aq]
   ·rw[aa ng]
    symm
    rw[lL];simp;omega
theorem c9.replicate {aO:Nat->Prop}{z:List M}{Y9:List Value}(h:c9 w aO B z Y9):∀n,c9 w aO B (eu n z).flatten (eu n Y9).flatten
 |0=>by simpa using c9.nil
 |n+1=>by
  rw[uR,kL,uR,kL];exact h.append (c9.replicate h n)
theorem c9.q3 {cs:List M}{vs:List Value}{aN:World}{bq:eK}(t:Trans A w B aN bq)(h:c9 w (cj A B) B cs vs):c9 aN (cj A bq) bq cs vs :=
 ⟨h.1,λi m v E H=>(h.2 i m v E H).q3 t⟩
theorem HG {cs:List M}(bT:fl A w B mem)(w1:World)(f:Fr (λ_=>False) w w1)(aQ:w1.heap.size=w.heap.size)(k:Key)(vs:Array Value)(T:TypeId)(au:(D cs)<=vs.size)
  (bX:c9 w (cj A B) B cs (vs.toList.take (D cs))):eG A w B (w1.alloc (.cells vs T)) (gM B k ⟨bY mem k,some w.heap.size,vs.size⟩) (a3 mem k (bY mem k) cs) :=
 eG.alloc bT w1 f aQ k vs T au λi m hm=>by
  obtain⟨v,aI,Y⟩:=bX.get hm;rw[x3] at aI
  split at aI
  ·exact⟨v,by simpa using aI,Y⟩
  ·cases aI
theorem akd {t:TypeId}{z:List M}(k:Key)(bT:fl A w B mem)(aQ:zeroOf P t=some z):
  ∃v aN bq,(Instr.alloc t true (.tuple #[])).run P w=.ok v aN/\eG A w B aN bq (a3 mem k (bY mem k) z)/\bo aN (cj A bq) bq (.ptr k (bY mem k) 0) v:=by
 obtain⟨i,jZ,L,uS,bX⟩:=DZ (P:=P) (w:=w) (B:=B) (aO:=cj A B) aQ;have au:(D z)=jZ.cells.size:=by have:=bX.1;simp at this;omega
 refine⟨.pointer (some ⟨w.heap.size,0,none⟩),w.alloc (.cells jZ.cells t),_,?_,HG bT w (Fr.refl _ _) rfl k jZ.cells t (by omega) (by rw[dD (by simp;omega)];exact bX),?_⟩
 ·simp[Instr.alloc,Lj L uS,newVar,newRow]
 ·exact .ptr (g3 _ _ _) (bP _) ⟨_,rfl,λ_=>rfl⟩
theorem ake {t:TypeId}{m:M}{u:Value}(k:Key)(bT:fl A w B mem)(hu:bo w (cj A B) B m u)(J:m.known=true):
  ∃v aN bq,(Instr.box t u).run P w=.ok v aN/\eG A w B aN bq (a3 mem k (bY mem k) m.cells)/\bo aN (cj A bq) bq (.ptr k (bY mem k) 0) v:=by
 have bX:=c9.P3 hu (λe=>by rw[e] at J;simp[M.known] at J);have au:(D m.cells)=u.cells.size:=by have:=bX.1;simp at this;omega
 refine⟨.pointer (some ⟨w.heap.size,0,none⟩),w.alloc (.cells u.cells t),_,?_,HG bT w (Fr.refl _ _) rfl k u.cells t (by omega) (by rw[dD (by simp;omega)];exact bX),?_⟩
 ·simp[Instr.box,newVar,newRow]
 ·exact .ptr (g3 _ _ _) (bP _) ⟨_,rfl,λ_=>rfl⟩
theorem akf {t e:TypeId}{z:List M}{bytes n c:Nat}{dG cn:M}{oo iy:Value}{r:M}{kp:Option (Key×Nat×List M)}(k:Key)(bT:fl A w B mem)(bJ:P.underlying t=some (.slice e))(aQ:zeroOf P e=some z)(Q:fU P e=some (D z))
  (ae:DJ P e=some bytes) (E:idx dG=some n) (H:idx cn=some c) (fb:bo w (cj A B) B dG oo) (ew:bo w (cj A B) B cn iy) (ak:0<D z) (h:DE k (bY mem k) z bytes n c=some (r,kp)) :
  ∃v aN bq,(Instr.makeSlice t oo iy).run P w=.ok v aN/\eG A w B aN bq (ix mem kp)/\bo aN (cj A bq) bq r v:=by
 unfold DE at h
 split at h
 ·rename_i G;obtain⟨rfl,D0,uT⟩:=G
  cases h;obtain⟨cH,rfl⟩:=DT E fb;obtain⟨dc,rfl⟩:=DT H ew;obtain⟨i,jZ,L,uS,bX⟩:=DZ (P:=P) (w:=w) (B:=B) (aO:=cj A B) aQ;have au:(D z)=jZ.cells.size:=by have:=bX.1;simp at this;omega
  have eU:=Y7 L Q;have Bv:=Y8 L ae
  have l7:=run_make (P:=P) w t e i jZ bJ L uS cH dc (n:Int) (n:Int) (by omega) (by omega) (by
   have:((i.bytes*n:Nat):Int)<=281474976710656:=by rw[Bv];omega
   rwa [Int.natCast_mul] at this) (by unfold maxLen at uT;omega)
  simp only[Int.toNat_natCast] at l7
  have Za:(madeCells jZ.cells (n*i.size)).toList=(eu n jZ.cells.toList).flatten:=by
   rw[eU,au];exact P9 (by omega) n
  have Bw:(madeCells jZ.cells (n*i.size)).size=n*D z:=by rw[size_madeCells,eU]
  have HH:=bX.replicate (n:=n)
  have hlen:(eu n z).flatten.length=n*D z:=by
   have:=HH.1;rw[<-this,<-Za,Array.length_toList,Bw]
  refine⟨_,_,_,l7,HG bT w (Fr.refl _ _) rfl k _ e (by rw[Bw,hlen];exact bP _) ?_,?_⟩
  ·rw[dD (by rw[Array.length_toList,Bw,hlen];exact bP _),Za];exact HH
  ·refine .ref (g3 _ _ _) (bP _) ⟨_,n,rfl,bP _,uT,.inr ⟨_,rfl,λ_=>⟨rfl,?_⟩⟩⟩;simp only[oP];rw[Bw];exact bP _
 ·cases h
theorem Zb (bT:fl A w B mem){k:Key}{g:Nat}{cs new:List M}{e:lE}{b:Nat}{vs:Array Value}{T:TypeId}{vals:List Value}{off:Nat}(J:mem k=some (g,cs))(he:B k=some e)(ae:e.dp=some b)
  (aS:w.heap[b]?=some (.cells vs T (0,0))) (eU:vs.size=e.size) (au:(D cs)<=vs.size) (bX:c9 w (cj A B) B cs (vs.toList.take (D cs))) (ck:e.g=g) (Qb:off+D new<=D cs) (kN:c9 w (cj A B) B new vals) :
  eG A w B (w.setRow b (vs.toList.take off++vals++vs.toList.drop (off+D vals)).toArray) B (a3 mem k g (lI cs off new)):=by
 have Qc:(D vals)=D new:=kN.1
 have P8:c9 w (cj A B) B (lI cs off new) ((vs.toList.take off++vals++vs.toList.drop (off+D vals)).take (D cs)):=by
  have E:=bX.lI kN off
  have aw:(vs.toList.take (D cs)).take off++vals++(vs.toList.take (D cs)).drop (off+D vals)=(vs.toList.take off++vals++vs.toList.drop (off+D vals)).take (D cs):=by
   have l8:(D vs.toList)=vs.size:=Array.length_toList;rw[List.take_take,nQ (by omega),Y4,Y1,hr,hh,l8,nQ (a:=off) (b:=vs.size) (by omega)];rw[dD (l:=vs.toList.take off++vals) (by rw[hr,hh,l8];omega)]
  rwa [aw] at E
 have akg:(lI cs off new).length=D cs:=by unfold lI;simp;omega
 have heq:gM B k e=B:=by
  funext j
  unfold gM
  split
  ·rename_i ai;rw[ai,he]
  ·rfl
 have f:Fr (λb=>∃e,B k=some e/\e.dp=some b) w (w.setRow b (vs.toList.take off++vals++vs.toList.drop (off+D vals)).toArray):=by
  refine⟨rfl,rfl,rfl,by simp,λj ai bx=>?_⟩
  exact setRow_other w b j _ (λLk=>bx ⟨e,he,by rw[ae,Lk]⟩)
 have:=eG.change (k:=k) (e':=e) (cs:=lI cs off new) bT f (λaC e0 => .inl (by rw[he] at e0;exact ni e0)) (λgV en => .inr ⟨e,he,en⟩) (λaG=>by rw[ae] at aG;cases aG) (λgV en=>by
  rw[ae] at en
  cases en;refine⟨_,T,setRow_heap w b vs _ T (0,0) aS,by simp;omega,by rw[akg];simp;omega,λi m hm=>?_⟩
  obtain⟨v,aI,Y⟩:=P8.get hm;rw[x3] at aI
  split at aI
  ·exact⟨v,by simpa using aI,Y⟩
  ·cases aI)
 rw[heq,ck] at this;exact this
theorem akh {t:TypeId}{n:Nat}{dG cn:M}{oo iy:Value}{r:M}{kp:Option (Key×Nat×List M)}(bT:fl A w B mem)(Q:fU P t=some n)(fb:bo w (cj A B) B dG oo)(ew:bo w (cj A B) B cn iy)
  (h:v7 mem n dG cn.cells=some (r,kp)):∃aN,(Instr.storeAt t oo iy).run P w=.ok () aN/\eG A w B aN B (ix mem kp)/\r=.no:=by
 cases dG with
 |ptr k g off =>
  simp only[v7] at h;unfold Hw at h
  split at h
  ·rename_i dh cs J
   split at h
   ·rename_i G;obtain⟨rfl,E,H,ab⟩:=G
    cases h;obtain⟨e,he,ck,aG,ae⟩:=bT.at_ J
    cases fb with
    |ptr fT P0 aB =>
     rw[he] at fT
     cases fT;obtain⟨b,rfl,iV⟩:=aB;have iV:=iV ck.symm;obtain⟨vs,T,aS,eU,au,bX⟩:=ae b iV;have hi:cn ≠ .undef:=λe=>by rw[e] at ab;simp[M.cells,M.one] at ab
     have mF:=c9.P3 ew hi
     have aki:∀v∈iy.cells.toList,v.oneCell'=true:=by
      intro v aI;obtain⟨i,L,jn⟩:=Zc aI;have kO:i<D cn.cells:=by rw[<-mF.1];exact L
      have:=mF.2 i _ _ (bs kO) (bs L);rw[jn] at this;exact YS this (oj.1 ab _ (mD kO))
     have ayQ:iy.cells.size=n:=by have:=mF.1;simp at this;omega
     have ey:=run_storeCells_at P b off T iy.cells.toList 0 vs w aS (by simp;omega) aki;simp only[om] at ey;refine⟨_,?_,Zb bT J he iV aS eU au bX ck (by omega) mF,rfl⟩;have bN:¬ (iy.cells.size≠n):=by omega
     simp only[Instr.storeAt,Instr.sureAddr,storeVar,Sem.run_bind,Sem.run_pure,Result.andThen_ok,tt Q];rw[aa bN];exact ey
   ·cases h
  ·cases h
 |_=>simp[v7] at h
end
section
variable {P:Program} {A:Nat->Prop} {w:World} {B:eK} {mem:Mem}
theorem Ll (sz:Nat):∀(n:Nat) (l:List Data),(chunk sz n l).length=n
 |0,_=>rfl
 |n+1,l=>by simp[chunk,Ll sz n]
theorem Lm (sz:Nat):∀(n:Nat) (l:List Data),D l=n*sz->∀e∈chunk sz n l,D e=sz
 |0,_,_,e,he=>by simp[chunk] at he
 |n+1,l,au,e,he=>by
  have hmul:(n+1)*sz=n*sz+sz:=by rw[px,Hb]
  simp only[chunk,List.mem_cons] at he;rcases he with rfl|he
  ·simp;omega
  ·exact Lm sz n _ (by simp;omega) e he
theorem Ln (sz:Nat):∀(n:Nat) (l:List Data),D l=n*sz->(chunk sz n l).flatten=l
 |0,l,au=>by simp at au;simp[chunk,au]
 |n+1,l,au=>by
  have hmul:(n+1)*sz=n*sz+sz:=by rw[px,Hb]
  simp only[chunk,kL];rw[Ln sz n _ (by simp;omega),List.take_append_drop]
theorem Zd {aO:Nat->Prop}{m:M}{d:Data}{v:Value}(h:Bn m=some d)(aI:bo w aO B m v):Den w aO d v:=by
 unfold Bn at h
 split at h<;>cases h
 ·cases aI with
  |I h=>exact h
 ·cases aI with
  |nil=>exact .k6
theorem akj {ds:List Data}{vs:Array Value}{T:TypeId}{n sz:Nat}(bT:fl A w B mem)(aN:World)(hw:aN=w.alloc (.cells vs T))(au:(D ds)=n*sz)(aI:vs.size=n*sz)(hm:n<=maxLen)
  (X:∀(i:Nat) (d:Data) (v:Value),ds[i]?=some d->vs[i]?=some v->Den w (cj A B) d v):Den aN (cj A B) (.af (chunk sz n ds)) (.slice (some ⟨w.heap.size,0,none⟩) n n):=by
 have ok:eG A w B aN B mem:=by rw[hw];exact .still bT ((Fr.refl _ _).alloc _)
 have eb:=Ll sz n ds
 have h:=Den.af (w:=aN) (aO:=cj A B) (es:=chunk sz n ds) (b:=w.heap.size) (off:=0) (c:=n) (sz:=sz) (λi=>vs.getD i undef) (by rw[eb];exact bP _) (by rw[eb];exact hm)
  (by rw[hw];simp) (λbx=>by
   rcases bx with bx|bx
   ·have:=bT.zu bx;omega
   ·have:=bT.lt _ bx;omega) (Lm sz n ds au)
  (λi L=>by
   rw[eb] at L;rw[hw,oP];have:i<vs.size:=by omega
   simp[this])
  (λi d kl=>by
   rw[Ln sz n ds au] at kl;have aq:i<D ds:=(dK.1 kl).1;have lM:i<vs.size:=by omega
   have:vs.getD i undef=vs[i]:=by simp[lM]
   simp only[this];exact (X i d _ kl (Array.getElem?_eq_getElem lM)).trans ok.mB)
 rw[eb] at h;exact h
theorem Ze {t e:TypeId}{z r:List M}{sz len:Nat}{cW:List (Nat×Operand)}{ea:List (Nat×Nat×bH)}{ρ:Operand->Value}{tm:Nat->M}{aO:Nat->Prop}(bJ:P.underlying t=some (.slice e))(aQ:zeroOf P e=some z)
  (Q:fU P e=some sz) (Bx:(D z)=sz) (ak:0<sz) (au:len*sz<=16777216) (aB:partsOf (λi=>some (i*sz,sz)) cW=some ea) (hρ:∀x y,dF x=some y->bo w aO B (aZ tm y) (ρ x))
  (h:jX (aZ tm) (eu len z).flatten ea=some r) :
  ∃vs:Array Value,(Instr.buildSlice t len (cW.map λp=>(p.1,ρ p.2)).toArray).run P w=.ok (.slice (some ⟨w.heap.size,0,none⟩) len len) (w.alloc (.cells vs e))/\c9 w aO B r vs.toList:=by
 obtain⟨i,jZ,L,uS,bX⟩:=DZ (P:=P) (w:=w) (B:=B) (aO:=aO) aQ;have Lo:jZ.cells.size=sz:=by have:=bX.1;simp at this;omega
 have Zf:=P9 (z:=jZ.cells) (by omega) len;rw[Lo] at Zf;have HH:=bX.replicate (n:=len);rw[<-Zf] at HH;obtain⟨nO,aJ,Y⟩:=Lh (place:=λi=>some (i*sz,sz)) hρ cW ea _ r _ aB HH h;refine⟨nO,?_,Y⟩;have aG:¬ (len*sz>2^24):=by omega
 by_cases tz:len*sz=0
 ·have b6:((Array.range (len*sz)).map (jZ.cells[·%sz]!))=#[]:=by rw[tz];simp[Array.range_zero']
  have akk:Instr.fill (λi=>some (i*sz,sz)) #[] (cW.map λp=>(p.1,ρ p.2))=some nO:=by rw[<-b6];exact aJ
  simp only[Instr.buildSlice,Sem.run_bind,run_underlying bJ,Result.andThen_ok,tt Q];rw[aa aG];simp only[tz,if_true,Sem.run_bind,Sem.run_pure,Result.andThen_ok];simp[akk,newRow,Array.range_zero']
 ·simp only[Instr.buildSlice,Sem.run_bind,run_underlying bJ,Result.andThen_ok,tt Q];rw[aa aG];simp only[tz,if_false,Sem.run_bind,Sem.run_pure,Result.andThen_ok,Lj L uS,Lo];simp[aJ,newRow]
theorem akl {t e:TypeId}{z:List M}{sz len:Nat}{cW:List (Nat×Operand)}{ea:List (Nat×Nat×bH)}{ρ:Operand->Value}{tm:Nat->M}{r:M}(bT:fl A w B mem)(bJ:P.underlying t=some (.slice e))(aQ:zeroOf P e=some z)
  (Q:fU P e=some sz) (Bx:(D z)=sz) (ak:0<sz) (au:len*sz<=16777216) (aB:partsOf (λi=>some (i*sz,sz)) cW=some ea) (hρ:∀x y,dF x=some y->bo w (cj A B) B (aZ tm y) (ρ x))
  (h:Hh (eu len z).flatten sz len (jX (aZ tm) (eu len z).flatten ea)=some r) :
  ∃v aN,(Instr.buildSlice t len (cW.map λp=>(p.1,ρ p.2)).toArray).run P w=.ok v aN/\eG A w B aN B mem/\bo aN (cj A B) B r v:=by
 unfold Hh at h
 split at h
 ·rename_i hlen
  cases aJ:jX (aZ tm) (eu len z).flatten ea with
  |none=>rw[aJ] at h;cases h
  |some cs =>
   rw[aJ] at h;simp only[ei] at h;obtain⟨ds,hg,rfl⟩:=h;obtain⟨vs,l7,bX⟩:=Ze (P:=P) (B:=B) bJ aQ Q Bx ak au aB hρ aJ;obtain⟨E,H⟩:=nN hg
   have eb:(D cs)=len*sz:=by
    have:∀(ea:List (Nat×Nat×bH)) (a r:List M),jX (aZ tm) a ea=some r->(D r)=D a:=by
     intro ea
     induction ea with
     |nil=>intro a r h;simp[jX] at h;rw[h]
     |cons q ea ay =>
      intro a r h;obtain⟨o,s,x⟩:=q;simp only[jX] at h
      split at h
      ·rename_i G;rw[ay _ _ h];unfold lI;simp;omega
      ·cases h
    rw[this _ _ _ aJ,hlen]
   have aV:vs.size=len*sz:=by have:=bX.1;simp at this;omega
   refine⟨_,_,l7,.still bT ((Fr.refl _ _).alloc _),.I (akj bT _ rfl (by omega) aV ?_ λi d v X aI=>?_)⟩
   ·have:len<=len*sz:=HI _ ak;unfold maxLen;omega
   ·have aq:i<D cs:=by have:=(dK.1 X).1;omega
    have mG:=bs aq;exact Zd (H i _ d mG X) (bX.2 i _ v mG (by simpa using aI))
 ·cases h
theorem akm {t e:TypeId}{z:List M}{sz len:Nat}{cW:List (Nat×Operand)}{ea:List (Nat×Nat×bH)}{ρ:Operand->Value}{tm:Nat->M}{r:M}{kp:Option (Key×Nat×List M)}(k:Key)(bT:fl A w B mem)(bJ:P.underlying t=some (.slice e))(aQ:zeroOf P e=some z)
  (Q:fU P e=some sz) (Bx:(D z)=sz) (ak:0<sz) (au:len*sz<=16777216) (aB:partsOf (λi=>some (i*sz,sz)) cW=some ea) (hρ:∀x y,dF x=some y->bo w (cj A B) B (aZ tm y) (ρ x))
  (h:DD k (bY mem k) (eu len z).flatten sz len (jX (aZ tm) (eu len z).flatten ea)=some (r,kp)) :
  ∃v aN bq,(Instr.buildSlice t len (cW.map λp=>(p.1,ρ p.2)).toArray).run P w=.ok v aN/\eG A w B aN bq (ix mem kp)/\bo aN (cj A bq) bq r v:=by
 unfold DD at h
 split at h
 ·rename_i hlen
  cases aJ:jX (aZ tm) (eu len z).flatten ea with
  |none=>rw[aJ] at h;cases h
  |some cs =>
   rw[aJ] at h
   cases h;obtain⟨vs,l7,bX⟩:=Ze (P:=P) (B:=B) bJ aQ Q Bx ak au aB hρ aJ
   have eb:(D cs)=len*sz:=by
    have:∀(ea:List (Nat×Nat×bH)) (a r:List M),jX (aZ tm) a ea=some r->(D r)=D a:=by
     intro ea
     induction ea with
     |nil=>intro a r h;simp[jX] at h;rw[h]
     |cons q ea ay =>
      intro a r h;obtain⟨o,s,x⟩:=q;simp only[jX] at h
      split at h
      ·rename_i G;rw[ay _ _ h];unfold lI;simp;omega
      ·cases h
    rw[this _ _ _ aJ,hlen]
   have aV:vs.size=D cs:=by have:=bX.1;simp at this;omega
   refine⟨_,_,_,l7,HG bT w (Fr.refl _ _) rfl k vs e (by omega) (by rw[dD (by simp;omega)];exact bX),?_⟩
   have hN:len<=maxLen:=by
    have:len<=len*sz:=HI _ ak;unfold maxLen;omega
   exact .ref (g3 _ _ _) (bP _) ⟨_,len,rfl,bP _,hN,.inr ⟨_,rfl,λ_=>⟨rfl,by simp only[oP];omega⟩⟩⟩
 ·cases h
theorem Zg {m:M}{sz n:Nat}{new:List M}{v:Value}(bT:fl A w B mem)(aI:bo w (cj A B) B m v)(h:pC mem sz m=some (n,new)):
  ∃a c vals,v=.slice a n c/\c9 w (cj A B) B new vals/\D vals=n*sz/\(0<n->∃b off,a=some ⟨b,off,none⟩/\eR w b off vals):=by
 unfold pC at h
 split at h
 ·split at h
  ·rename_i es se
   cases h;have se:=P7 se
   cases aI with
   |I X =>
    cases X with
    |k6=>exact⟨_,_,[],rfl,by simpa using c9.nil,by simp,λh=>by simp at h⟩
    | @af es b off c dX val au hm ae fB eU G zF =>
     have g5:=K1 se;rcases jm (D es) with ak|ak
     ·have:es=[]:=sf ak;subst this;exact⟨_,_,[],rfl,by simpa using c9.nil,by simp,λh=>by simp at h⟩
     ·have HF:dX=sz:=by
       have l9:=mD (l:=es) (n:=0) ak;rw[<-eU _ l9,se _ l9]
      subst HF;refine⟨_,_,(dL (D es*dX)).map val,rfl,?_,by simp,λ_=>⟨b,off,rfl,λj u ai=>?_⟩⟩
      ·refine c9.I (by simp[g5]) λi d u E H=>?_;have L:i<D es*dX:=by have:=(dK.1 E).1;omega
       rw[a5,sb L] at H;simp only[jo,cb] at H;subst H;exact zF i d E
      ·have L:j<D es*dX:=by have:=(dK.1 ai).1;simpa using this
       rw[a5,sb L] at ai;simp only[jo,cb] at ai;subst ai;exact G j L
  ·cases h
 ·cases h
  cases aI with
  |nil=>exact⟨_,_,[],rfl,c9.nil,by simp,λh=>by simp at h⟩
 ·rename_i k g dX off len
  split at h
  ·rename_i eU;subst eU
   split at h
   ·rename_i dh cs J
    split at h
    ·rename_i aX;subst aX;simp only[ei,fu] at h;obtain⟨part,wk,rfl,rfl⟩:=h;obtain⟨au,rfl,aG⟩:=DR wk
     cases aI with
     |ref he aX Y =>
      obtain⟨e,fT,ck,DS,ae⟩:=bT.at_ J;rw[he] at fT
      cases fT;obtain⟨a,cap,rfl,E,H,ab⟩:=Y;rcases ab with ab|⟨b,rfl,aM⟩
      ·have:len=0:=by omega
       subst this;exact⟨_,_,[],rfl,by simpa using c9.nil,by simp,λh=>by omega⟩
      ·obtain⟨bl,bI⟩:=aM ck.symm;obtain⟨vs,T,aS,aQ,hle,bX⟩:=ae b bl;refine⟨_,_,((vs.toList.take (D cs)).drop off).take (len*dX),rfl,(bX.drop off).take _,by have:=((bX.drop off).take (len*dX)).1;omega,λ_=>⟨b,off,rfl,?_⟩⟩
       have:=(((eR.row aS).take (D cs)).add off).take (len*dX)
       simpa using this
    ·cases h
   ·cases h
  ·cases h
 ·cases h
theorem Lp {sz n c:Nat}{a:Option Addr}{vals:List Value}(au:(D vals)=n*sz)(bF:0<n->∃b off,a=some ⟨b,off,none⟩/\eR w b off vals)(aN:World)(hw:aN.heap=w.heap):
  (Builtin.firstCells sz n (.slice a n c)).run P aN = .ok vals.toArray aN:=by
 have G:∀p,aN.cell? p=w.cell? p:=λp=>by simp[World.cell?,hw]
 rcases jm n with ak|ak
 ·subst ak;have:vals=[]:=sf (by simpa using au);subst this
  cases a with
  |none=>simp[Builtin.firstCells]
  |some a=>simp[Builtin.firstCells,loadCells,loadCellsFrom]
 ·obtain⟨b,off,rfl,x7⟩:=bF ak;exact run_firstCells_some aN sz n _ n c vals au λj v ai=>by rw[x4,G];exact x7 j v ai
theorem c9.Zh {aO:Nat->Prop}{cs:List M}{vs:List Value}(h:c9 w aO B cs vs)(E:cs.all M.one=true):∀v∈vs,v.oneCell'=true:=by
 intro v aI;obtain⟨i,L,jn⟩:=Zc aI;have kO:i<D cs:=by rw[<-h.1];exact L
 have:=h.2 i _ _ (bs kO) (bs L);rw[jn] at this;exact YS this (oj.1 E _ (mD kO))
theorem Qd {t ty e:TypeId}{sz oq uU n c:Nat}{base a:Option Addr}{vals:List Value}(bJ:P.underlying t=some (.slice e))(Q:fU P e=some sz)(wm:oq+n<=uU)
  (aJ:(Builtin.firstCells sz n (.slice a n c)).run P w=.ok vals.toArray w) (aN:World)
  (ey:∀b,base=some b->(storeCells (b.add (oq*sz)) vals).run P w=.ok () aN) (aG:base=none->aN=w) :
  (Builtin.append_ #[t,t] ty #[.slice base oq uU,.slice a n c]).run P w=.ok (.slice base (oq+n) uU) aN:=by
 simp only[fU,ei] at Q;obtain⟨i,L,rfl⟩:=Q
 cases base with
 |none=>simp[Builtin.append_,run_underlying bJ,sizeOf,typeInfo,L,Builtin.lenOf,wm,aJ,aG rfl]
 |some b=>simp[Builtin.append_,run_underlying bJ,sizeOf,typeInfo,L,Builtin.lenOf,wm,aJ,ey b rfl]
theorem akn {t ty e:TypeId}{sz oq uU n c bytes:Nat}{base a:Option Addr}{oQ vals:List Value}{i:TypeInfo}{z:Value}(bJ:P.underlying t=some (.slice e))(L:P.info? e=some i)(aQ:i.zero=some z)(eU:i.size=sz)(Bv:i.bytes=bytes)
  (wm:uU<oq+n) (tv:∀aN,aN.heap=w.heap->(Builtin.firstCells sz oq (.slice base oq uU)).run P aN = .ok oQ.toArray aN) (aJ:∀aN,aN.heap=w.heap->(Builtin.firstCells sz n (.slice a n c)).run P aN = .ok vals.toArray aN)
  (ako:oq+n<=maxLen) (ae:(oq+n)*bytes<=140737488355328) :
  (Builtin.append_ #[t,t] ty #[.slice base oq uU,.slice a n c]).run P w =
   .ok (.slice (some ⟨w.heap.size,0,none⟩) (oq+n) (grownCap w (oq+n) uU e))
    (w.drew.alloc (.cells (oQ.toArray++vals.toArray++Builtin.zeroCells z.cells (grownCap w (oq+n) uU e-(oq+n))) e)):=by
 subst eU;subst Bv
 have aG:¬ (oq+n<=uU):=by omega
 have akp:¬ (9223372036854775807<((oq:Int)+(n:Int))):=by unfold maxLen at ako;omega
 have Li:=growslice_fits wm ae;have akq:¬ (281474976710656<Builtin.nextslicecap (oq+n) uU*i.bytes):=by omega
 have E:=tv w.drew rfl;have H:=aJ w.drew rfl;simp[Builtin.append_,run_underlying bJ,sizeOf,typeInfo,zeroValue,L,aQ,Builtin.lenOf,aG,akp,akq,Question.forced,E,H,newRow,grownCap,<-List.append_toArray,Array.append_assoc]
theorem akr {t ty e:TypeId}{z:List M}{bytes n:Nat}{dG cn:M}{oo iy:Value}{new:List M}{r:M}{kp:Option (Key×Nat×List M)}(k:Key)(bT:fl A w B mem)(bJ:P.underlying t=some (.slice e))(aQ:zeroOf P e=some z)(Q:fU P e=some (D z))
  (Bv:DJ P e=some bytes) (ak:0<D z) (fb:bo w (cj A B) B dG oo) (ew:bo w (cj A B) B cn iy) (e7:pC mem (D z) cn=some (n,new)) (h:qo mem k z bytes dG (some (n,new))=some (r,kp)) :
  ∃v aN bq,(Builtin.append_ #[t,t] ty #[oo,iy]).run P w=.ok v aN/\eG A w B aN bq (ix mem kp)/\bo aN (cj A bq) bq r v:=by
 obtain⟨dH,c2,vals,rfl,bX,l8,bF⟩:=Zg bT ew e7;obtain⟨i,jZ,L,uS,aks⟩:=DZ (P:=P) (w:=w) (B:=B) (aO:=cj A B) aQ;have eU:=Y7 L Q;have iV:=Y8 L Bv;have Lo:jZ.cells.size=D z:=by have:=aks.1;simp at this;omega
 have g6:(D new)=n*D z:=by rw[<-bX.1,l8]
 have aJ:=λaN hw=>Lp (P:=P) (w:=w) (c:=c2) l8 bF aN hw
 -- a new block
 have grow:∀(base:Option Addr) (len cap:Nat) (g:Nat) (k':Key) (cs:List M) (oQ:List Value),cap<len+n->(∀aN,aN.heap=w.heap->(Builtin.firstCells (D z) len (.slice base len cap)).run P aN = .ok oQ.toArray aN) ->
   c9 w (cj A B) B cs oQ->(D cs)=len*(D z)->len+n<=maxLen->(len+n)*bytes<=140737488355328->g=bY mem k' ->
   ∃v aN bq,(Builtin.append_ #[t,t] ty #[.slice base len cap,.slice dH n c2]).run P w=.ok v aN/\eG A w B aN bq (a3 mem k' g (cs++new))/\bo aN (cj A bq) bq (.ref k' g (D z) 0 (len+n)) v:=by
  intro base len cap g k' cs oQ wm tv kj eb uT D0 aX;subst aX;have l7:=akn (P:=P) (ty:=ty) bJ L uS eU iV wm tv aJ uT D0;have ck:=grownCap_ge w (len+n) cap e;have hle:=grownCap_le_maxLen w (len+n) cap e uT
  have Bw:(oQ.toArray++vals.toArray++Builtin.zeroCells jZ.cells (grownCap w (len+n) cap e-(len+n))).size=grownCap w (len+n) cap e*D z:=by
   have Lq:=kj.1;simp only[Array.size_append,List.size_toArray,size_zeroCells,Lo,Lq,eb,l8];rw[<-px,<-px]
   congr 1
   omega
  have ef:=kj.append bX;have hmul:(len+n)*D z<=grownCap w (len+n) cap e*D z:=rh _ ck;have qv:(cs++new).length=(len+n)*D z:=by rw[hr,eb,g6,px]
  refine⟨_,_,_,l7,HG (cs:=cs++new) bT w.drew ((Fr.refl _ _).drew _) rfl k' _ e (by rw[Bw,qv];exact hmul) ?_,?_⟩
  ·have:(oQ.toArray++vals.toArray++Builtin.zeroCells jZ.cells (grownCap w (len+n) cap e-(len+n))).toList.take (cs++new).length=oQ++vals:=by
    simp only[Array.toList_append,List.toList_toArray];rw[List.take_append_of_le_length (by rw[ef.1];exact bP _),dD (by rw[ef.1];exact bP _)]
   rw[this];exact ef
  ·refine .ref (g3 _ _ _) (bP _) ⟨_,_,rfl,ck,hle,.inr ⟨_,rfl,λ_=>⟨rfl,?_⟩⟩⟩;simp only[oP];rw[Bw];exact bP _
 cases dG with
 |nil =>
  simp only[qo] at h
  split at h
  ·rename_i G;obtain⟨D0,uT,Bz⟩:=G
   cases h
   cases fb with
   | @nil db =>
    rcases jm n with mH|mH
    ·subst mH;have D3:vals=[]:=sf (by simpa using l8);have Qe:new=[]:=sf (by simpa using g6);subst D3;subst Qe
     refine⟨_,_,_,Qd (P:=P) (ty:=ty) bJ Q (bP _) (aJ w rfl) w (λb _=>by simp[storeCells]) (λ_=>rfl),eG.x1 bT k,?_⟩;exact .ref (g3 _ _ _) (bP _) ⟨_,0,rfl,bP _,fr _,.inl rfl⟩
    ·have:=grow db 0 0 (bY mem k) k [] [] (by omega) (λaN hw=>by
      have:=Lp (P:=P) (w:=w) (sz:=D z) (n:=0) (c:=0) (a:=db) (vals:=[]) (by simp) (λh=>by omega) aN hw;exact this) c9.nil (by simp) (by omega) (by simpa using D0) rfl
     simpa [ix] using this
  ·cases h
 |ref k' g dX off len =>
  simp only[qo] at h
  split at h
  ·rename_i G;obtain⟨rfl,rfl⟩:=G;unfold l5 at h
   split at h
   ·rename_i dh cs J
    split at h
    ·rename_i G;obtain⟨rfl,hlen,D0,uT,Bz⟩:=G
     cases h;obtain⟨D4,rj,ck,DS,ae⟩:=bT.at_ J;have tA:dh+1=bY mem k':=by simp[bY,J]
     cases fb with
     |ref he aX Y =>
      rw[rj] at he
      cases he;obtain⟨db,cap,rfl,E,H,ab⟩:=Y
      have hold:∃oQ,c9 w (cj A B) B (cs.take (len*D z)) oQ/\D oQ=len*D z/\(0<len->∃b off,db=some ⟨b,off,none⟩/\eR w b off oQ):=by
       rcases ab with ab|⟨b,rfl,aM⟩
       ·have:len=0:=by omega
        subst this;exact⟨[],by simpa using c9.nil,by simp,λh=>by omega⟩
       ·obtain⟨bl,bI⟩:=aM ck.symm;obtain⟨vs,T,aS,HJ,hle,BA⟩:=ae b bl;refine⟨(vs.toList.take (D cs)).take (len*D z),BA.take _,by have:=(BA.take (len*D z)).1;rw[this];simp;omega,λ_=>⟨b,0,rfl,((eR.row aS).take _).take _⟩⟩
      obtain⟨oQ,Zi,akt,Zj⟩:=hold
      by_cases wm:len+n<=cap
      ·rcases ab with ab|⟨b,rfl,aM⟩
       ·-- no room, and nothing comes
        have hX:len=0:=by omega
        have mH:n=0:=by omega
        subst hX;subst mH;subst ab
        have D3:vals=[]:=sf (by simpa using l8);have Qe:new=[]:=sf (by simpa using g6);subst D3;subst Qe
        refine⟨_,_,gM B k' ⟨bY mem k',none,0⟩,Qd (P:=P) (ty:=ty) bJ Q (bP _) (aJ w rfl) w (λb _=>by simp[storeCells]) (λ_=>rfl),?_,?_⟩
        ·have:=eG.x1 bT k'
         simpa [ix,tA] using this
        ·rw[tA];exact .ref (g3 _ _ _) (bP _) ⟨_,0,rfl,bP _,fr _,.inl rfl⟩
       ·obtain⟨bl,bI⟩:=aM ck.symm;obtain⟨vs,T,aS,HJ,hle,BA⟩:=ae b bl;have hmul:(len+n)*D z<=cap*D z:=rh _ wm;have Zk:(len+n)*D z=len*D z+n*D z:=px _ _ _;have ey:=run_storeCells_at P b (len*D z) T vals 0 vs w aS (by omega) (bX.Zh Bz);simp only[om] at ey
        have Lq:oQ=vs.toList.take (len*D z):=by
         apply ri;intro j;rcases hV j (len*D z) with ai|ai
         ·have hO:0<len:=by
           rcases jm len with h|h
           ·subst h;simp at ai
           ·exact h
          obtain⟨e2,ayR,Zl,Lr⟩:=Zj hO;simp only[cb,Addr.mk.injEq,and_true] at Zl;obtain⟨rfl,rfl⟩:=Zl;have tB:j<D oQ:=by omega
          have tx:=Lr j _ (bs tB);rw[oP,cell_of_row w b j vs T (0,0) aS] at tx;rw[bs tB,x3,Z ai,<-tx,Array.getElem?_toList]
         ·rw[lL (by omega),x3,aa (by omega)]
        have Zm:(vs.toList.take (len*D z)++vals++vs.toList.drop (len*D z+D vals)).toArray.size=D4.size:=by
         simp;omega
        have f:Fr (λb=>∃e,B k'=some e/\e.dp=some b) w (w.setRow b (vs.toList.take (len*D z)++vals++vs.toList.drop (len*D z+D vals)).toArray):=by
         refine⟨rfl,rfl,rfl,by simp,λj ai bx=>?_⟩
         exact setRow_other w b j _ (λLk=>bx ⟨D4,rj,by rw[bl,Lk]⟩)
        have qv:(cs.take (len*D z)++new).length=len*D z+D vals:=by
         rw[hr,g6,l8,hh,nQ hlen]
        have ok:=eG.change (k:=k') (e':=⟨dh+1,some b,D4.size⟩) (cs:=cs.take (len*D z)++new) bT f
         (λaC e0 => .inr (by rw[rj] at e0;cases e0;simp only;omega)) (λgV en => .inr ⟨D4,rj,by rw[bl];exact en⟩) (λaG=>by cases aG) (λgV en=>by
          cases en;refine⟨_,T,setRow_heap w b vs _ T (0,0) aS,Zm,by rw[Zm,qv,l8];omega,λi m hm=>?_⟩
          have ef:=Zi.append bX;obtain⟨v,aI,Y⟩:=ef.get hm;refine⟨v,?_,Y⟩;rw[Lq] at aI;have aq:i<(vs.toList.take (len*D z)++vals).length:=(dK.1 aI).1;simp only[Zn];rw[re aq];exact aI)
        refine⟨_,_,_,Qd (P:=P) (ty:=ty) (a:=dH) (c:=c2) (vals:=vals) bJ Q wm (aJ w rfl) _ (λe2 lK=>by
         cases lK;rw[x4,oP];exact ey) (λh=>by cases h),ok,?_⟩
        exact .ref (g3 _ _ _) (bP _) ⟨_,cap,rfl,wm,H,.inr ⟨b,rfl,λ_=>⟨rfl,bI⟩⟩⟩
      ·have:=grow db len cap (dh+1) k' (cs.take (len*D z)) oQ (by omega) (λaN hw=>Lp (P:=P) (w:=w) akt Zj aN hw) Zi (by rw[hh,nQ hlen]) uT D0 tA;exact this
    ·cases h
   ·cases h
  ·cases h
 |_=>simp[qo] at h
theorem aku {t u ty e:TypeId}{sz n:Nat}{dG cn:M}{oo iy:Value}{new:List M}{r:M}{kp:Option (Key×Nat×List M)}(bT:fl A w B mem)(bJ:P.underlying t=some (.slice e))(Q:fU P e=some sz)
  (fb:bo w (cj A B) B dG oo) (ew:bo w (cj A B) B cn iy) (e7:pC mem sz cn=some (n,new)) (h:uN mem sz dG (some (n,new))=some (r,kp)) :
  ∃v aN,(Builtin.copy_ #[t,u] ty #[oo,iy]).run P w=.ok v aN/\eG A w B aN B (ix mem kp)/\bo aN (cj A B) B r v:=by
 obtain⟨dH,c2,vals,rfl,bX,l8,bF⟩:=Zg bT ew e7;have g6:(D new)=n*sz:=by rw[<-bX.1,l8]
 cases dG with
 |ref k g dX off len =>
  simp only[uN] at h
  split at h
  ·rename_i eU;subst eU;unfold zy at h
   split at h
   ·rename_i dh cs J
    split at h
    ·rename_i G;obtain⟨rfl,Li,Bz⟩:=G
     cases h;obtain⟨D4,rj,ck,DS,ae⟩:=bT.at_ J;have D5:Nat.min n len=min n len:=rfl;have hle:min n len<=n:=Nat.min_le_left _ _;have akv:min n len<=len:=Nat.min_le_right _ _;have hs:min n len*dX<=n*dX:=rh _ hle;have ayS:min n len*dX<=len*dX:=rh _ akv;have wj:(vals.take (min n len*dX)).length=min n len*dX:=by rw[hh,l8,nQ hs]
     have zH:∀(a:Option Addr) (c:Nat),(0<n->∃b off,a=some ⟨b,off,none⟩/\eR w b off vals)->(Builtin.firstCells dX (min n len) (.slice a n c)).run P w=.ok (vals.take (min n len*dX)).toArray w:=by
      intro a c bF
      have:=Lp (P:=P) (w:=w) (sz:=dX) (n:=min n len) (c:=c) (a:=a) (vals:=vals.take (min n len*dX)) wj (λh=>by
       obtain⟨b,off,E,H⟩:=bF (by omega);exact⟨b,off,E,H.take _⟩) w rfl
      cases a with
      |none=>simpa [Builtin.firstCells] using this
      |some a=>simpa [Builtin.firstCells] using this
     cases fb with
     |ref he aX Y =>
      rw[rj] at he
      cases he;obtain⟨db,cap,rfl,E,H,ab⟩:=Y;simp only[fU,ei] at Q;obtain⟨i,L,Qf⟩:=Q;rcases ab with ab|⟨b,rfl,aM⟩
      ·have hX:len=0:=by omega
       subst hX;have l9:min n 0=0:=Nat.min_zero _;have sg:lI cs off (new.take (min n 0*dX))=cs:=by simp[lI]
       have ey:∀a:Addr,(storeCells a ([]:List Value)).run P w=.ok () w:=λa=>by simp[storeCells]
       have HK:=zH dH c2 bF;simp only[l9,Nat.zero_mul,List.take_zero] at HK
       have fi:gM B k D4=B:=by
        funext j;unfold gM;split
        ·rename_i ai;rw[ai,rj]
        ·rfl
       refine⟨.int .i64 0,w,?_,?_,by simpa using bo.ofInt⟩
       ·cases db with
        |none=>simp[Builtin.copy_,run_underlying bJ,Builtin.lenOf,sizeOf,typeInfo,L,Qf,HK,goInt]
        |some a=>simp[Builtin.copy_,run_underlying bJ,Builtin.lenOf,sizeOf,typeInfo,L,Qf,HK,ey,goInt]
       ·have fH:a3 mem k dh cs=mem:=by
         funext j;unfold a3;split
         ·rename_i ai;rw[ai,J]
         ·rfl
        simp only[ix,sg,fH];exact .refl bT
      ·obtain⟨bl,bI⟩:=aM ck.symm;obtain⟨vs,T,aS,HJ,Qg,BA⟩:=ae b bl;have ey:=run_storeCells_at P b off T (vals.take (min n len*dX)) 0 vs w aS (by omega) (λv aI=>bX.Zh Bz v (DW aI));simp only[om] at ey;refine⟨.int .i64 ((min n len:Nat):Int),_,?_,Zb bT J rj bl aS HJ Qg BA ck (by rw[hh,g6,nQ hs];omega) (bX.take (min n len*dX)),.ofInt⟩;have HK:=zH dH c2 bF;simp[Builtin.copy_,run_underlying bJ,Builtin.lenOf,sizeOf,typeInfo,L,Qf,D5,HK,ey,goInt]
    ·cases h
   ·cases h
  ·cases h
 |_=>simp[uN] at h
end
end Go.Mini
namespace Go.Mini
open Go
variable {P:Program} {A:Nat->Prop} {w:World} {B:eK} {mem:Mem}
theorem akw {t e:TypeId}{sz l h len:Nat}{m r:M}{v:Value}{kn ko:Option Value}{bG L:Option M}(bT:fl A w B mem)(bJ:P.underlying t=some (.array len e))(Q:fU P e=some sz)(ayT:len<=16777216)
  (fa:jk 0 bG=some l) (iJ:jk len L=some h) (l6:qu w (cj A B) B bG kn) (k8:qu w (cj A B) B L ko) (hm:bo w (cj A B) B m v) (Y:zx mem len sz l h m=some r) :
  ∃z,(Instr.sliceAt t v kn ko none).run P w=.ok z w/\bo w (cj A B) B r z:=by
 unfold zx at Y
 split at Y
 ·rename_i k g off;unfold PW at Y
  split at Y
  ·rename_i dh cs J
   split at Y
   ·rename_i G;obtain⟨rfl,E,H,ab⟩:=G
    cases Y
    cases hm with
    |ptr he aX aI =>
     obtain⟨b,rfl,ae⟩:=aI;obtain⟨e',fT,ck,aG,eV⟩:=bT.at_ J;rw[fT] at he
     cases he;have iV:=ae ck.symm;obtain⟨vs,T,aS,aQ,hle,_⟩:=eV b iV;refine⟨.slice (some (if len=l then ⟨b,off,none⟩ else ⟨b,off+l*sz,none⟩)) (h-l) (len-l),?_,.ref fT aX ⟨_,len-l,rfl,by omega,by unfold maxLen;omega,?_⟩⟩
     ·simp[Instr.sliceAt,run_underlying bJ,Instr.sureAddr,P5 (P:=P) (w:=w) false fa iJ l6 k8 E H,tt Q]
      split<;>simp[x4]
     ·rcases Lg (eF E H) with au|au
      ·exact .inl (by omega)
      ·refine .inr ⟨b,by rw[aa (by omega)],λ_=>⟨iV,?_⟩⟩
       have:off+l*sz+(len-l)*sz=off+len*sz:=by
        rw[sa,<-px]
        congr 2
        omega
       omega
   ·cases Y
  ·cases Y
 ·cases Y
theorem akx {dq:List Field}(h:(dq.all λf=>(fU P f.type).isSome)=true):∃cW:List (Nat×Nat),(dq.mapM λf=>(do pure (f.offset,<-sizeOf f.type):Sem (Nat×Nat))).run P w=.ok cW w /\
  ∀i:Nat,cW[i]?=tr P dq.toArray i:=by
 induction dq with
 |nil=>exact⟨[],by simp,λi=>by simp[tr]⟩
 |cons f r ay =>
  simp only[List.all_cons,e3] at h;obtain⟨cW,E,H⟩:=ay h.2;obtain⟨s,Q⟩:=Option.isSome_iff_exists.1 h.1;refine⟨(f.offset,s)::cW,?_,λi=>?_⟩
  ·simp only[oi,Sem.run_bind,tt Q,Result.andThen_ok,Sem.run_pure];rw[E]
   rfl
  ·cases i with
   |zero=>simp[tr,Q]
   |succ i =>
    have:=H i;simp only[tr,Zn,List.getElem?_cons_succ] at this ⊢;exact this
theorem aky {p q:Nat->Option (Nat×Nat)}(h:∀i,p i=q i)(cs:Array Value)(l:List (Nat×Value)):Instr.fill p cs l=Instr.fill q cs l:=by
 rw[show p=q from funext h]
theorem akz {t:TypeId}{dq:Array Field}{z r:List M}{cW:List (Nat×Operand)}{ea:List (Nat×Nat×bH)}{ρ:Operand->Value}{tm:Nat->M}{aO:Nat->Prop}(bJ:P.underlying t=some (.struct dq))(aQ:zeroOf P t=some z)
  (a1:(dq.toList.all λf=>(fU P f.type).isSome)=true) (aB:partsOf (tr P dq) cW=some ea) (hρ:∀x y,dF x=some y->bo w aO B (aZ tm y) (ρ x))
  (h:jX (aZ tm) z ea=some r):∃v,(Instr.build t (cW.map λp=>(p.1,ρ p.2)).toArray).run P w=.ok v w/\bo w aO B (.agg r) v:=by
 obtain⟨i,jZ,L,uS,bX⟩:=DZ (P:=P) (w:=w) (B:=B) (aO:=aO) aQ;obtain⟨pl,E,H⟩:=akx (w:=w) a1;obtain⟨nO,aJ,Y⟩:=Lh (place:=tr P dq) hρ cW ea _ r _ aB bX h;refine⟨.agg nO,?_,by rw[show nO=nO.toList.toArray from by simp];exact .agg Y.1 Y.2⟩
 ·have uV:∀i,pl.toArray[i]?=tr P dq i:=λi=>by simpa using H i
  have hm:(dq.mapM λf=>(do pure (f.offset,<-sizeOf f.type):Sem (Nat×Nat))).run P w=.ok pl.toArray w:=by
   rw[Array.mapM_eq_mapM_toList];rw[map_eq_pure_bind];simp only[Sem.run_bind,E,Result.andThen_ok,Sem.run_pure]
  simp only[Instr.build,Sem.run_bind,Lj L uS,Result.andThen_ok,Sem.run_pure,run_underlying bJ,hm,aky uV,aJ]
theorem akA {t e:TypeId}{n sz:Nat}{z r:List M}{cW:List (Nat×Operand)}{ea:List (Nat×Nat×bH)}{ρ:Operand->Value}{tm:Nat->M}{aO:Nat->Prop}(bJ:P.underlying t=some (.array n e))(aQ:zeroOf P t=some z)
  (Q:fU P e=some sz) (aB:partsOf (λi=>some (i*sz,sz)) cW=some ea) (hρ:∀x y,dF x=some y->bo w aO B (aZ tm y) (ρ x))
  (h:jX (aZ tm) z ea=some r):∃v,(Instr.build t (cW.map λp=>(p.1,ρ p.2)).toArray).run P w=.ok v w/\bo w aO B (.agg r) v:=by
 obtain⟨i,jZ,L,uS,bX⟩:=DZ (P:=P) (w:=w) (B:=B) (aO:=aO) aQ;obtain⟨nO,aJ,Y⟩:=Lh (place:=λi=>some (i*sz,sz)) hρ cW ea _ r _ aB bX h;refine⟨.agg nO,?_,by rw[show nO=nO.toList.toArray from by simp];exact .agg Y.1 Y.2⟩
 simp only[Instr.build,Sem.run_bind,Lj L uS,Result.andThen_ok,Sem.run_pure,run_underlying bJ,tt Q,aJ]
end Go.Mini
namespace Go.Mini
open Go
variable {P:Program} {A:Nat->Prop} {w:World} {B:eK} {mem:Mem}
def akB (n:Next)(v:Value):Prop:=n=.value v\/(n=.skip/\v=undef)
def hY (A:Nat->Prop)(w:World)(B:eK)(run:Result Next)(mem':Mem)(r:M):Prop :=
 ∃n v aN bq,run=.ok n aN/\akB n v/\eG A w B aN bq mem'/\bo aN (cj A bq) bq r v
theorem hY.lN {s:Sem Value}{r:M}(bT:fl A w B mem)(h:∃v,s.run P w=.ok v w/\bo w (cj A B) B r v):hY A w B ((do pure (.value (<-s)):Sem Next).run P w) mem r:=by
 obtain⟨v,E,H⟩:=h;exact⟨.value v,v,w,B,by simp[E],.inl rfl,.refl bT,H⟩
theorem hY.of {s:Sem Value}{mem':Mem}{r:M}(h:∃v aN bq,s.run P w=.ok v aN/\eG A w B aN bq mem'/\bo aN (cj A bq) bq r v):hY A w B ((do pure (.value (<-s)):Sem Next).run P w) mem' r:=by
 obtain⟨v,aN,bq,E,H,ab⟩:=h;exact⟨.value v,v,aN,bq,by simp[E],.inl rfl,H,ab⟩
theorem Zo {x:Option M}{r:M}{kp:Option (Key×Nat×List M)}(h:iI x=some (r,kp)):x=some r/\kp=none:=by
 unfold iI at h
 split at h<;>cases h
 exact⟨rfl,rfl⟩
theorem pG {x:Option Nat}{f:Nat->Option M}{r:M}(h:hM x f=some r):∃n,x=some n/\f n=some r:=by
 unfold hM at h
 split at h
 ·exact⟨_,rfl,h⟩
 ·cases h
theorem Zp {x y:Option Nat}{f:Nat->Nat->Out}{r:M×Option (Key×Nat×List M)}(h:Hv x y f=some r):∃n m,x=some n/\y=some m/\f n m=some r:=by
 unfold Hv at h
 split at h
 ·exact⟨_,_,rfl,rfl,h⟩
 ·cases h
theorem BB {aO:Nat->Prop}{ρ:Operand->Value}{tm:Nat->M}(hρ:∀x y,dF x=some y->bo w aO B (aZ tm y) (ρ x)){x:Option Operand}{y:Option bH}(h:r8 x=some y):qu w aO B (y.map (aZ tm)) (x.map ρ):=by
 cases x with
 |none=>simp[r8] at h;subst h;simp[qu]
 |some x =>
  simp only[r8,ei] at h;obtain⟨y',ao,rfl⟩:=h;simp only[jo,qu];exact hρ _ _ ao
theorem Zq {dq:Array Field}{f o s:Nat}(h:tr P dq f=some (o,s)):∃fd,dq[f]?=some fd/\fd.offset=o/\fU P fd.type=some s:=by
 simp only[tr,g4,hf,eo,cb,fu] at h;obtain⟨fd,E,Zr,H,ab,aM⟩:=h;exact⟨fd,E,ab,aM ▸ H⟩
theorem zI {aO:Nat->Prop}{ρ:Operand->Value}{tm:Nat->M}(hρ:∀x y,dF x=some y->bo w aO B (aZ tm y) (ρ x)):∀{l:List Operand} {r:List bH},l.mapM dF=some r->c9 w aO B (r.map (aZ tm)) (l.map ρ)
 | [],r,h=>by simp at h;subst h;exact c9.nil
 |x::l,r,h=>by
  simp only[oi,g4,hf,eo,cb] at h;obtain⟨y,ao,HD,Y,rfl⟩:=h;exact c9.cons (hρ _ _ ao) (zI hρ Y)
theorem zJ {α β:Type}(a:Array α)(f:α->β):a.map f=(a.toList.map f).toArray:=by
 apply Array.ext';simp
theorem iK {tm:Nat->M}{m:jG}{r:M}{kp:Option (Key×Nat×List M)}{x:Option M}(h:b4 mem tm m=some (r,kp))(e:b4 mem tm m=iI x):x=some r/\kp=none:=Zo (e.symm.trans h)
theorem akC {ρ:Operand->Value}{tm:Nat->M}{kb:Nat}{own:List Nat}{dst:Option Tmp}{type:TypeId}{c:Call}{m:jG}{r:M}{kp:Option (Key×Nat×List M)}(bT:fl A w B mem)
  (hρ:∀x y,dF x=some y->bo w (cj A B) B (aZ tm y) (ρ x)) (aU:zA P kb own dst type c=some m) (h:b4 mem tm m=some (r,kp)) :
  hY A w B ((do let d <-resolve ρ c type;invoke d.target d.args:Sem Next).run P w) (ix mem kp) r:=by
 obtain⟨callee,args,argTypes⟩:=c;have two:∀{α:Type} (a:Array α) (x y:α),a.toList=[x,y]->a=#[x,y]:=λa x y h=>Array.ext' (by simpa using h);have one:∀{α:Type} (a:Array α) (x:α),a.toList=[x]->a=#[x]:=λa x h=>Array.ext' (by simpa using h);unfold zA at aU
 split at aU
 ·rename_i x t G a1 bJ;simp only at G a1 bJ;subst G;obtain rfl:=one _ _ a1;obtain rfl:=one _ _ bJ
  split at aU
  ·rename_i e hu;simp only[ei] at aU;obtain⟨y,ao,rfl⟩:=aU;obtain⟨bd,rfl⟩:=iK h rfl;obtain⟨n,aG,bd⟩:=pG bd
   cases bd;have:=ajZ (P:=P) (w:=w) t type e hu (hρ _ _ ao) aG;exact⟨.value _,_,w,B,by simp[resolve,invoke,builtin,this],.inl rfl,.refl bT,.I .int⟩
  ·rename_i hu;simp only[ei] at aU;obtain⟨y,ao,rfl⟩:=aU;obtain⟨bd,rfl⟩:=iK h rfl;obtain⟨n,aG,bd⟩:=pG bd
   cases bd;have:=aj0 (P:=P) (w:=w) t type hu (hρ _ _ ao) aG;exact⟨.value _,_,w,B,by simp[resolve,invoke,builtin,this],.inl rfl,.refl bT,.I .int⟩
  ·cases aU
 ·rename_i s x t u G a1 bJ;simp only at G a1 bJ;subst G;obtain rfl:=two _ _ _ a1;obtain rfl:=two _ _ _ bJ
  split at aU
  ·rename_i e aC hu Zs;simp only[g4,hf,eo] at aU;obtain⟨z,aQ,b,ae,n,aG,d,X,Zr,iz,iW,zK,aS⟩:=aU
   split at aS
   ·rename_i mI;obtain⟨rfl,ak,rfl⟩:=mI
    cases aS;simp only[b4] at h
    cases e7:pC mem (D z) (aZ tm iW) with
    |none =>
     rw[e7] at h
     revert h
     cases aZ tm Zr<;>simp[qo]
    |some p =>
     obtain⟨k,new⟩:=p;rw[e7] at h;obtain⟨v,aN,bq,E,H,ab⟩:=akr (ty:=type) _ bT hu aQ aG ae ak (hρ _ _ iz) (hρ _ _ zK) e7 h;exact⟨.value v,v,aN,bq,by simp[resolve,invoke,builtin,E],.inl rfl,H,ab⟩
   ·cases aS
  ·cases aU
 ·rename_i ayU x t u G a1 bJ;simp only at G a1 bJ;subst G;obtain rfl:=two _ _ _ a1;obtain rfl:=two _ _ _ bJ
  split at aU
  ·rename_i e aC hu Zs;simp only[g4,hf,eo] at aU;obtain⟨n,aG,aS⟩:=aU
   split at aS
   ·rename_i ak;simp only[eo,cb] at aS;obtain⟨wo,oO,iW,zK,rfl⟩:=aS;simp only[b4] at h
    cases e7:pC mem n (aZ tm iW) with
    |none =>
     rw[e7] at h
     revert h
     cases aZ tm wo<;>simp[uN]
    |some p =>
     obtain⟨k,new⟩:=p;rw[e7] at h;obtain⟨v,aN,E,H,ab⟩:=aku (u:=u) (ty:=type) bT hu aG (hρ _ _ oO) (hρ _ _ zK) e7 h;exact⟨.value v,v,aN,B,by simp[resolve,invoke,builtin,E],.inl rfl,H,ab⟩
   ·cases aS
  ·cases aU
 ·rename_i x y G a1;simp only at G a1;subst G;obtain rfl:=two _ _ _ a1;simp only[g4,hf,eo,cb] at aU;obtain⟨iW,O,y',ao,rfl⟩:=aU;obtain⟨bd,rfl⟩:=iK h rfl;obtain⟨z,E,H⟩:=YZ (P:=P) argTypes type (hρ _ _ O) (hρ _ _ ao) bd;simp only[if_true] at E;exact⟨.value z,z,w,B,by simp[resolve,invoke,builtin,E],.inl rfl,.refl bT,H⟩
 ·rename_i x y G a1;simp only at G a1;subst G;obtain rfl:=two _ _ _ a1;simp only[g4,hf,eo,cb] at aU;obtain⟨iW,O,y',ao,rfl⟩:=aU;obtain⟨bd,rfl⟩:=iK h rfl;obtain⟨z,E,H⟩:=YZ (P:=P) argTypes type (hρ _ _ O) (hρ _ _ ao) bd;simp only[kh,if_false] at E;exact⟨.value z,z,w,B,by simp[resolve,invoke,builtin,E],.inl rfl,.refl bT,H⟩
 ·split at aU
  ·split at aU
   ·simp only[g4,hf,eo,cb] at aU;obtain⟨_,_,_,_,_,_,rfl⟩:=aU
    cases h
   ·cases aU
  ·split at aU
   ·simp only[g4,hf,eo,cb] at aU;obtain⟨_,_,rfl⟩:=aU
    cases h
   ·simp only[g4,hf,eo,cb] at aU;obtain⟨_,_,rfl⟩:=aU
    cases h
 ·simp only[g4,hf,eo,cb] at aU;obtain⟨_,_,_,_,rfl⟩:=aU
  cases h
 ·cases aU
theorem Zt {ρ:Operand->Value}{tm:Nat->M}{kb:Nat}{own:List Nat}{o:Oper}{m:jG}{r:M}{kp:Option (Key×Nat×List M)}(bT:fl A w B mem)
  (hρ:∀x y,dF x=some y->bo w (cj A B) B (aZ tm y) (ρ x)) (aU:lJ P kb own o.dst o.type o.op=some m) (h:b4 mem tm m=some (r,kp)) :
  hY A w B ((execOp ρ o).run P w) (ix mem kp) r:=by
 obtain⟨dst,op,type,pos,after,guard⟩:=o;simp only at aU
 cases op<;>simp only[lJ] at aU<;>simp only[execOp]
 case move x =>
  simp only[ei] at aU;obtain⟨y,ao,rfl⟩:=aU;obtain⟨bd,rfl⟩:=iK (x:=some (aZ tm y)) h rfl
  cases bd;exact⟨_,_,w,B,rfl,.inl rfl,.refl bT,hρ _ _ ao⟩
 case assign x =>
  simp only[ei] at aU;obtain⟨y,ao,rfl⟩:=aU;obtain⟨bd,rfl⟩:=iK (x:=some (aZ tm y)) h rfl
  cases bd;exact⟨_,_,w,B,rfl,.inl rfl,.refl bT,hρ _ _ ao⟩
 case pick c a b =>
  simp only[g4,hf,eo,cb] at aU;obtain⟨c',G,jY,a1,e2,ae,rfl⟩:=aU;obtain⟨bd,rfl⟩:=iK h rfl;have:=hY.lN bT (ajN (P:=P) (hρ _ _ G) (hρ _ _ a1) (hρ _ _ ae) bd)
  simpa [ix] using this
 case alloc e =>
  simp only[g4,hf,eo,cb] at aU;obtain⟨d,X,z,aQ,rfl⟩:=aU;simp only[b4,cb,fu] at h;obtain⟨rfl,rfl⟩:=h;exact hY.of (akd _ bT aQ)
 case box e x =>
  simp only[g4,hf,eo,cb] at aU;obtain⟨d,X,y,ao,rfl⟩:=aU;simp only[b4] at h
  split at h
  ·rename_i J;simp only[cb,fu] at h;obtain⟨rfl,rfl⟩:=h;exact hY.of (ake _ bT (hρ _ _ ao) J)
  ·cases h
 case build t cW =>
  split at aU
  ·rename_i dq hu
   split at aU
   ·rename_i a1;simp only[g4,hf,eo,cb] at aU;obtain⟨z,aQ,ea,zG,rfl⟩:=aU;obtain⟨bd,rfl⟩:=iK h rfl;simp only[kg,ei] at bd;obtain⟨cs,kj,rfl⟩:=bd;rw[zJ];exact hY.lN bT (akz hu aQ a1 zG hρ kj)
   ·cases aU
  ·rename_i n e hu;simp only[g4,hf,eo,cb] at aU;obtain⟨s,Q,z,aQ,ea,zG,rfl⟩:=aU;obtain⟨bd,rfl⟩:=iK h rfl;simp only[kg,ei] at bd;obtain⟨cs,kj,rfl⟩:=bd;rw[zJ];exact hY.lN bT (akA hu aQ Q zG hρ kj)
  ·cases aU
 case buildSlice t len cW =>
  split at aU
  ·rename_i e hu;simp only[g4,hf,eo] at aU;obtain⟨z,aQ,s,Q,ea,zG,d,X,aS⟩:=aU
   split at aS
   ·rename_i G;obtain⟨Bx,ak,au⟩:=G;simp only[cb] at aS;subst aS;rw[zJ]
    cases uW:own.contains d with
    |true =>
     rw[uW] at h;exact hY.of (akm _ bT hu aQ Q Bx ak au zG hρ h)
    |false =>
     rw[uW] at h;obtain⟨bd,rfl⟩:=iK h rfl;obtain⟨v,aN,E,H,ab⟩:=akl bT hu aQ Q Bx ak au zG hρ bd;exact hY.of ⟨v,aN,B,E,H,ab⟩
   ·cases aS
  ·cases aU
 case load t x =>
  simp only[g4,hf,eo,cb] at aU;obtain⟨n,aG,g,aX,y,ao,rfl⟩:=aU;obtain⟨bd,rfl⟩:=iK h rfl;exact hY.lN bT (ajM aG aX bT (hρ _ _ ao) bd)
 case store t x v =>
  simp only[g4,hf,eo,cb] at aU;obtain⟨n,aG,iW,O,Bs,aI,rfl⟩:=aU;obtain⟨aN,E,H,rfl⟩:=akh bT aG (hρ _ _ O) (hρ _ _ aI) h;exact⟨.skip,undef,aN,B,by simp[E],.inr ⟨rfl,rfl⟩,H,.no⟩
 case nilCheck x =>
  simp only[ei] at aU;obtain⟨y,ao,rfl⟩:=aU;obtain⟨bd,rfl⟩:=iK h rfl;obtain⟨⟨b,off,O⟩,Y⟩:=aj1 (hρ _ _ ao) bd;rw[O] at Y ⊢;exact⟨_,_,w,B,rfl,.inl rfl,.refl bT,Y⟩
 case binOp bop t x y pos2 =>
  unfold Bp at aU
  split at aU
  ·split at aU
   ·rename_i iW y' O ao
    cases aU;obtain⟨bd,rfl⟩:=iK h rfl;exact hY.lN bT (YP t x y (hρ _ _ O) (hρ _ _ ao) bd)
   ·cases aU
  ·split at aU
   ·rename_i iW y' O ao
    cases aU;obtain⟨bd,rfl⟩:=iK h rfl;exact hY.lN bT (YP t x y (hρ _ _ O) (hρ _ _ ao) bd)
   ·cases aU
  ·rename_i hu
   split at aU
   ·rename_i iW y' O ao
    cases aU;obtain⟨bd,rfl⟩:=iK h rfl;exact hY.lN bT (YQ (neg:=false) t x y hu (hρ _ _ O) (hρ _ _ ao) bd)
   ·rename_i iW y' O ao
    cases aU;obtain⟨bd,rfl⟩:=iK h rfl;exact hY.lN bT (YQ (neg:=true) t x y hu (hρ _ _ O) (hρ _ _ ao) bd)
   ·cases aU
  ·rename_i dq hu
   split at aU
   ·unfold xY at aU
    split at aU
    ·rename_i G
     split at aU
     ·rename_i gx iW y' J O ao
      cases aU;obtain⟨bd,rfl⟩:=iK h rfl;exact hY.lN bT (YW (neg:=false) t x y dq hu G.1 G.2 J (hρ _ _ O) (hρ _ _ ao) bd)
     ·cases aU
    ·cases aU
   ·unfold xY at aU
    split at aU
    ·rename_i G
     split at aU
     ·rename_i gx iW y' J O ao
      cases aU;obtain⟨bd,rfl⟩:=iK h rfl;exact hY.lN bT (YW (neg:=true) t x y dq hu G.1 G.2 J (hρ _ _ O) (hρ _ _ ao) bd)
     ·cases aU
    ·cases aU
   ·cases aU
  ·split at aU
   ·split at aU
    ·simp only[ei] at aU;obtain⟨_,_,rfl⟩:=aU
     cases h
    ·simp only[ei] at aU;obtain⟨_,_,rfl⟩:=aU
     cases h
    ·cases aU
   ·cases aU
  ·cases aU
 case unOp uop t x =>
  simp only[ei] at aU;obtain⟨y,ao,rfl⟩:=aU;obtain⟨bd,rfl⟩:=iK h rfl;exact hY.lN bT (ajO (hρ _ _ ao) bd)
 case convert s t x =>
  split at aU
  ·rename_i gx k Q bJ;simp only[ei] at aU;obtain⟨y,ao,rfl⟩:=aU;obtain⟨bd,rfl⟩:=iK h rfl;exact hY.lN bT (ajP s t gx Q bJ (hρ _ _ ao) bd)
  ·cases aU
 case makeFunc fn first eZ =>
  cases fn<;>simp only[reduceCtorEq] at aU
  split at aU
  ·rename_i eU;simp only[g4,hf,eo,cb] at aU;obtain⟨cs,kj,rfl⟩:=aU;obtain⟨bd,rfl⟩:=iK (x:=some (.fS _ (cs.map (aZ tm)))) h rfl
   cases bd;have akD:first=#[]:=Array.eq_empty_of_size_eq_zero eU
   subst akD;have au:=zI hρ kj;exact hY.lN bT ⟨_,by rw[zJ eZ,Array.map_empty];rfl,.fS au.1 au.2⟩
  ·cases aU
 case makeSlice t l c =>
  split at aU
  ·rename_i e he;simp only[g4,hf,eo] at aU;obtain⟨z,aQ,s,Q,b,ae,d,X,aS⟩:=aU
   split at aS
   ·rename_i G;simp only[eo,cb] at aS;obtain⟨fv,au,c',nR,rfl⟩:=aS;simp only[b4] at h;obtain⟨ht,jI,E,H,ab⟩:=Zp h;obtain⟨rfl,ak⟩:=G;exact hY.of (akf _ bT he aQ Q ae E H (hρ _ _ au) (hρ _ _ nR) ak ab)
   ·cases aS
  ·cases aU
 case slice t x bG L jH =>
  split at aU
  ·rename_i e hu;simp only[g4,hf,eo] at aU;obtain⟨s,Q,aS⟩:=aU
   split at aS
   ·simp only[eo,cb] at aS;obtain⟨y,ao,Zu,fa,kO,iJ,HL,hN,rfl⟩:=aS;have l6:=BB hρ fa;have k8:=BB hρ iJ;have DV:=BB hρ hN
    cases HL with
    |none =>
     cases jH with
     |some v=>simp[r8,ei] at hN
     |none =>
      obtain⟨bd,rfl⟩:=iK h rfl;obtain⟨l,au,bd⟩:=pG bd;obtain⟨len,hlen,bd⟩:=pG bd;obtain⟨aS,BC,bd⟩:=pG bd;exact hY.lN bT (aj5 hu Q au hlen BC l6 k8 (hρ _ _ ao) bd)
    |some HL =>
     cases kO with
     |none=>cases h
     |some kO =>
      cases L with
      |none=>simp[qu] at k8
      |some L =>
       cases jH with
       |none=>simp[qu] at DV
       |some jH =>
        obtain⟨bd,rfl⟩:=iK h rfl;obtain⟨l,au,bd⟩:=pG bd;obtain⟨aS,BC,bd⟩:=pG bd;obtain⟨m,hm,bd⟩:=pG bd;exact hY.lN bT (aj7 hu Q au BC hm l6 k8 DV (hρ _ _ ao) bd)
   ·cases aS
  ·rename_i n e hu;simp only[g4,hf,eo] at aU;obtain⟨s,Q,aS⟩:=aU
   split at aS
   ·rename_i G;simp only[eo,cb] at aS;obtain⟨y,ao,Zu,fa,kO,iJ,HL,hN,rfl⟩:=aS;have l6:=BB hρ fa;have k8:=BB hρ iJ
    cases HL with
    |none =>
     cases jH with
     |some v=>simp[r8,ei] at hN
     |none =>
      obtain⟨bd,rfl⟩:=iK h rfl;obtain⟨l,au,bd⟩:=pG bd;obtain⟨aS,BC,bd⟩:=pG bd;exact hY.lN bT (akw bT hu Q G.2 au BC l6 k8 (hρ _ _ ao) bd)
    |some HL=>cases h
   ·cases aS
  ·rename_i hu
   split at aU
   ·rename_i hN;simp only[g4,hf,eo,cb] at aU;obtain⟨y,ao,Zu,fa,kO,iJ,rfl⟩:=aU;have l6:=BB hρ fa;have k8:=BB hρ iJ
    cases jH with
    |some v=>cases hN
    |none =>
     obtain⟨bd,rfl⟩:=iK h rfl;obtain⟨l,au,bd⟩:=pG bd;obtain⟨len,hlen,bd⟩:=pG bd;obtain⟨aS,BC,bd⟩:=pG bd;exact hY.lN bT (aj8 hu au hlen BC l6 k8 (hρ _ _ ao) bd)
   ·cases aU
  ·cases aU
 case fieldAddr t x f =>
  split at aU
  ·rename_i dq hu;simp only[g4,hf,eo] at aU;obtain⟨⟨o,s⟩,aB,aS⟩:=aU
   split at aS
   ·rename_i ak;simp only[eo,cb] at aS;obtain⟨y,ao,rfl⟩:=aS;obtain⟨fd,E,H,ab⟩:=Zq aB;obtain⟨bd,rfl⟩:=iK h rfl;exact hY.lN bT (ajQ t f dq fd s hu E ab ak H (hρ _ _ ao) bd)
   ·cases aS
  ·cases aU
 case field t x f =>
  split at aU
  ·rename_i dq hu;simp only[g4,hf,eo,cb] at aU;obtain⟨fd,Qh,⟨o,s⟩,aB,g,aX,y,ao,rfl⟩:=aU;obtain⟨ayV,E,H,ab⟩:=Zq aB;rw[Qh] at E
   cases E;obtain⟨bd,rfl⟩:=iK h rfl;exact hY.lN bT (ajT t f dq fd hu Qh ab aX H (hρ _ _ ao) bd)
  ·cases aU
 case indexAddr t x i =>
  split at aU
  ·rename_i e hu;simp only[g4,hf,eo] at aU;obtain⟨s,Q,aS⟩:=aU
   split at aS
   ·simp only[eo,cb] at aS;obtain⟨y,ao,j,ai,rfl⟩:=aS;obtain⟨bd,rfl⟩:=iK h rfl;obtain⟨n,aG,bd⟩:=pG bd;obtain⟨k,J⟩:=DT aG (hρ _ _ ai);rw[J];exact hY.lN bT (ajV t e hu Q (hρ _ _ ao) bd)
   ·cases aS
  ·rename_i len e hu;simp only[g4,hf,eo] at aU;obtain⟨s,Q,aS⟩:=aU
   split at aS
   ·simp only[eo,cb] at aS;obtain⟨y,ao,j,ai,rfl⟩:=aS;obtain⟨bd,rfl⟩:=iK h rfl;obtain⟨n,aG,bd⟩:=pG bd;obtain⟨k,J⟩:=DT aG (hρ _ _ ai);rw[J];exact hY.lN bT (ajW t e hu Q (hρ _ _ ao) bd)
   ·cases aS
  ·cases aU
 case index t x i =>
  split at aU
  ·rename_i hu;simp only[g4,hf,eo,cb] at aU;obtain⟨y,ao,j,ai,rfl⟩:=aU;obtain⟨bd,rfl⟩:=iK h rfl;obtain⟨n,aG,bd⟩:=pG bd;obtain⟨k,J⟩:=DT aG (hρ _ _ ai);rw[J];exact hY.lN bT (ajX t hu (hρ _ _ ao) bd)
  ·cases aU
 case extract x i =>
  simp only[ei] at aU;obtain⟨y,ao,rfl⟩:=aU;obtain⟨bd,rfl⟩:=iK h rfl;exact hY.lN bT (ajY (hρ _ _ ao) bd)
 case call c =>
  exact akC bT hρ aU h
 all_goals cases aU
end Go.Mini
namespace Go.Mini
open Go
inductive fV where
 |code (c:dZ)
 |inBlock (id:Nat)
def b8 (T:bk)(K:ev->a2->Prop):List fV->ev->a2->Prop
 | [],e,st=>K e st
 |.code c::k,.normal,st=>wp T c (b8 T K k) st
 |.code _::k,.exit id,st=>b8 T K k (.exit id) st
 |.code _::k,.ret,st=>b8 T K k .ret st
 |.inBlock _::k,.normal,st=>b8 T K k .normal st
 |.inBlock j::k,.exit id,st=>if id=j then b8 T K k .normal st else b8 T K k (.exit id) st
 |.inBlock _::k,.ret,st=>b8 T K k .ret st
section
variable {T:bk} {K:ev->a2->Prop} {k:List fV} {st:a2}
theorem akE (c:dZ):(λe dx=>match e with
  |.normal=>wp T c (b8 T K k) dx
  |e=>b8 T K k e dx)=b8 T K (.code c::k):=by
 funext e dx
 cases e<;>rfl
theorem akF (id:Nat):(λe dx=>match e with
  |.exit j=>if j=id then b8 T K k .normal dx else b8 T K k (.exit j) dx
  |e=>b8 T K k e dx)=b8 T K (.inBlock id::k):=by
 funext e dx
 cases e<;>rfl
@[go_sem] theorem akG (e:ev):b8 T K [] e st=K e st:=by cases e<;>rfl
@[go_sem] theorem ayW (c:dZ):b8 T K (.code c::k) .normal st=wp T c (b8 T K k) st:=bn
@[go_sem] theorem ayX (c:dZ)(id:Nat):b8 T K (.code c::k) (.exit id) st=b8 T K k (.exit id) st:=bn
@[go_sem] theorem ayY (c:dZ):b8 T K (.code c::k) .ret st=b8 T K k .ret st:=bn
@[go_sem] theorem ayZ (id:Nat):b8 T K (.inBlock id::k) .normal st=b8 T K k .normal st:=bn
@[go_sem] theorem ay0 (id j:Nat):b8 T K (.inBlock j::k) (.exit id) st=if id=j then b8 T K k .normal st else b8 T K k (.exit id) st:=bn
@[go_sem] theorem ay1 (id:Nat):b8 T K (.inBlock id::k) .ret st=b8 T K k .ret st:=bn
theorem wq {c:dZ}(h:wp T c (b8 T K []) st):wp T c K st:=by
 have:b8 T K []=K:=by funext e st;cases e<;>rfl
 rwa [this] at h
@[go_sem] theorem wp_seq (a b:dZ):wp T (.seq a b) (b8 T K k) st=wp T a (b8 T K (.code b::k)) st:=by
 rw[<-akE];rfl
@[go_sem] theorem wp_skip:wp T .skip (b8 T K k) st=b8 T K k .normal st:=bn
@[go_sem] theorem wp_ret:wp T .ret (b8 T K k) st=b8 T K k .ret st:=bn
@[go_sem] theorem wp_exit (id:Nat):wp T (.exit id) (b8 T K k) st=b8 T K k (.exit id) st:=bn
@[go_sem] theorem wp_block (id:Nat)(c:dZ):wp T (.block id c) (b8 T K k) st=wp T c (b8 T K (.inBlock id::k)) st:=by
 rw[<-akF];rfl
def pH (T:bk)(K:ev->a2->Prop)(k:List fV)(m:M)(a b:dZ)(st:a2):Prop :=
 match m with
 |.I (.bool t)=>if t=true then wp T a (b8 T K k) st else wp T b (b8 T K k) st
 |_=>False
@[go_sem] theorem wp_cond (c:bH)(a b:dZ):wp T (.cond c a b) (b8 T K k) st=pH T K k (aZ st.tm c) a b st:=bn
@[go_sem] theorem akH (a b:dZ):pH T K k (.I (.bool true)) a b st=wp T a (b8 T K k) st:=bn
@[go_sem] theorem akI (a b:dZ):pH T K k (.I (.bool false)) a b st=wp T b (b8 T K k) st:=bn
def D6 (T:bk)(K:ev->a2->Prop)(k:List fV)(l:List cG)(st:a2):Prop:=v8 T (b8 T K k .normal) l st
@[go_sem] theorem wp_ops (l:List cG):wp T (.ops l) (b8 T K k) st=D6 T K k l st:=bn
@[go_sem] theorem ay2:D6 T K k [] st=b8 T K k .normal st:=bn
def qw (T:bk)(K:ev->a2->Prop)(k:List fV)(g:Option Bool)(i:cG)(r:List cG)(st:a2):Prop :=
 match g with
 |none=>False
 |some g=>if g=true then gd T (v8 T (b8 T K k .normal) r) i st else D6 T K k r ⟨put st.tm i.dst .no,st.mem⟩
@[go_sem] theorem ay3 (i:cG)(r:List cG):D6 T K k (i::r) st=qw T K k (og st.tm i.g) i r st:=bn
@[go_sem] theorem ay4 (i:cG)(r:List cG):qw T K k (some true) i r st=gd T (D6 T K k r) i st:=bn
@[go_sem] theorem ay5 (i:cG)(r:List cG):qw T K k (some false) i r st=D6 T K k r ⟨put st.tm i.dst .no,st.mem⟩:=bn
def zL (T:bk)(K:ev->a2->Prop)(k:List fV)(n:Nat)(l:List cG)(c:List (List Nat))(rec:Rec)(st:a2):Prop:=uO T (b8 T K k .normal) n l c rec st
@[go_sem] theorem ay6 (l:List cG)(c:List (List Nat)):wp T (.mz l c) (b8 T K k) st=zL T K k 0 l c (λ_=>none) st:=bn
@[go_sem] theorem ay7 (n:Nat)(c:List (List Nat))(rec:Rec):zL T K k n [] c rec st=b8 T K k .normal st:=bn
def qx (T:bk)(K:ev->a2->Prop)(k:List fV)(n:Nat)(g:Option Bool)(i:cG)(r:List cG)(c:List (List Nat))(rec:Rec)(st:a2):Prop :=
 match g with
 |none=>False
 |some g=>if g=true then (match iU T st.mem st.tm i.op with
    |some (m,e)=>DH rec (jl i.op,dO st.tm i.op) (c.headD [])=true/\zL T K k (n+1) r c.tail (tq rec n (jl i.op,dO st.tm i.op)) ⟨put st.tm i.dst m,ix st.mem e⟩
    |none=>False) else zL T K k (n+1) r c.tail rec ⟨put st.tm i.dst .no,st.mem⟩
@[go_sem] theorem ay8 (n:Nat)(i:cG)(r:List cG)(c:List (List Nat))(rec:Rec):zL T K k n (i::r) c rec st=qx T K k n (og st.tm i.g) i r c rec st:=bn
def Zv (T:bk)(K:ev->a2->Prop)(k:List fV)(n:Nat)(x:Option (M×Option (Key×Nat×List M)))(i:cG)(r:List cG)(c:List (List Nat))(rec:Rec)(st:a2):Prop :=
 match x with
 |some (m,e)=>DH rec (jl i.op,dO st.tm i.op) (c.headD [])=true/\zL T K k (n+1) r c.tail (tq rec n (jl i.op,dO st.tm i.op)) ⟨put st.tm i.dst m,ix st.mem e⟩
 |none=>False
@[go_sem] theorem ay9 (n:Nat)(i:cG)(r:List cG)(c:List (List Nat))(rec:Rec):qx T K k n (some true) i r c rec st=Zv T K k n (iU T st.mem st.tm i.op) i r c rec st:=bn
@[go_sem] theorem aza (n:Nat)(i:cG)(r:List cG)(c:List (List Nat))(rec:Rec):qx T K k n (some false) i r c rec st=zL T K k (n+1) r c.tail rec ⟨put st.tm i.dst .no,st.mem⟩:=bn
@[go_sem] theorem azb (n:Nat)(m:M)(e:Option (Key×Nat×List M))(i:cG)(r:List cG)(c:List (List Nat))(rec:Rec):Zv T K k n (some (m,e)) i r c rec st =
 (DH rec (jl i.op,dO st.tm i.op) (c.headD [])=true/\zL T K k (n+1) r c.tail (tq rec n (jl i.op,dO st.tm i.op)) ⟨put st.tm i.dst m,ix st.mem e⟩):=bn
end
section
variable {T:bk} {K:a2->Prop} {st:a2} {tm:Nat->M} {mem:Mem}
def jq (K:a2->Prop)(x:Option (M×Option (Key×Nat×List M)))(d:Option Nat)(st:a2):Prop :=
 match x with
 |some (m,e)=>K ⟨put st.tm d m,ix st.mem e⟩
 |none=>False
@[go_sem] theorem azc (m:M)(e:Option (Key×Nat×List M))(d:Option Nat):jq K (some (m,e)) d st=K ⟨put st.tm d m,ix st.mem e⟩:=bn
variable (d:Option Nat) (g:Option (Nat×Bool))
@[go_sem] theorem azd (x:bH):gd T K ⟨d,g,.b3 x⟩ st=K ⟨put st.tm d (aZ st.tm x),st.mem⟩:=bn
@[go_sem] theorem aze (c a b:bH):gd T K ⟨d,g,.pick c a b⟩ st=jq K (b4 st.mem st.tm (.pick c a b)) d st:=bn
@[go_sem] theorem azf (k:Key)(z:List M):gd T K ⟨d,g,.alloc k z⟩ st=K ⟨put st.tm d (.ptr k (bY st.mem k) 0),a3 st.mem k (bY st.mem k) z⟩:=bn
@[go_sem] theorem azg (k:Key)(x:bH):gd T K ⟨d,g,.box k x⟩ st=jq K (b4 st.mem st.tm (.box k x)) d st:=bn
@[go_sem] theorem azh (z:List M)(cW:List (Nat×Nat×bH)):gd T K ⟨d,g,.build z cW⟩ st=jq K (b4 st.mem st.tm (.build z cW)) d st:=bn
@[go_sem] theorem azi (k:Key)(o:Bool)(z:List M)(sz len:Nat)(cW:List (Nat×Nat×bH)):gd T K ⟨d,g,.e1 k o z sz len cW⟩ st=jq K (b4 st.mem st.tm (.e1 k o z sz len cW)) d st:=bn
@[go_sem] theorem azj (n:Nat)(dC:Bool)(x:bH):gd T K ⟨d,g,.load n dC x⟩ st=jq K (b4 st.mem st.tm (.load n dC x)) d st:=bn
@[go_sem] theorem azk (n:Nat)(x v:bH):gd T K ⟨d,g,.store n x v⟩ st=jq K (b4 st.mem st.tm (.store n x v)) d st:=bn
@[go_sem] theorem azl (op:BinOp)(x y:bH):gd T K ⟨d,g,.bin op x y⟩ st=jq K (b4 st.mem st.tm (.bin op x y)) d st:=bn
@[go_sem] theorem azm (b:Bool)(n:List Nat)(x y:bH):gd T K ⟨d,g,.eqs b n x y⟩ st=jq K (b4 st.mem st.tm (.eqs b n x y)) d st:=bn
@[go_sem] theorem azn (b:Bool)(x y:bH):gd T K ⟨d,g,.beq b x y⟩ st=jq K (b4 st.mem st.tm (.beq b x y)) d st:=bn
@[go_sem] theorem azo (op:UnOp)(x:bH):gd T K ⟨d,g,.un op x⟩ st=jq K (b4 st.mem st.tm (.un op x)) d st:=bn
@[go_sem] theorem azp (k:IntKind)(x:bH):gd T K ⟨d,g,.conv k x⟩ st=jq K (b4 st.mem st.tm (.conv k x)) d st:=bn
@[go_sem] theorem azq (x:bH):gd T K ⟨d,g,.q5 x⟩ st=jq K (b4 st.mem st.tm (.q5 x)) d st:=bn
@[go_sem] theorem azr (k:Key)(z:List M)(b:Nat)(x y:bH):gd T K ⟨d,g,.lF k z b x y⟩ st=jq K (b4 st.mem st.tm (.lF k z b x y)) d st:=bn
@[go_sem] theorem azs (o:Nat)(x:bH):gd T K ⟨d,g,.et o x⟩ st=jq K (b4 st.mem st.tm (.et o x)) d st:=bn
@[go_sem] theorem azt (o n:Nat)(dC:Bool)(x:bH):gd T K ⟨d,g,.zv o n dC x⟩ st=jq K (b4 st.mem st.tm (.zv o n dC x)) d st:=bn
@[go_sem] theorem azu (s:Nat)(x i:bH):gd T K ⟨d,g,.jj s x i⟩ st=jq K (b4 st.mem st.tm (.jj s x i)) d st:=bn
@[go_sem] theorem azv (n s:Nat)(x i:bH):gd T K ⟨d,g,.oe n s x i⟩ st=jq K (b4 st.mem st.tm (.oe n s x i)) d st:=bn
@[go_sem] theorem azw (x i:bH):gd T K ⟨d,g,.idxs x i⟩ st=jq K (b4 st.mem st.tm (.idxs x i)) d st:=bn
@[go_sem] theorem azx (s:Nat)(x:bH)(a b c:Option bH):gd T K ⟨d,g,.q6 s x a b c⟩ st=jq K (b4 st.mem st.tm (.q6 s x a b c)) d st:=bn
@[go_sem] theorem azy (n s:Nat)(x:bH)(a b c:Option bH):gd T K ⟨d,g,.r5 n s x a b c⟩ st=jq K (b4 st.mem st.tm (.r5 n s x a b c)) d st:=bn
@[go_sem] theorem azz (x:bH)(a b:Option bH):gd T K ⟨d,g,.Bm x a b⟩ st=jq K (b4 st.mem st.tm (.Bm x a b)) d st:=bn
@[go_sem] theorem azA (i:Nat)(x:bH):gd T K ⟨d,g,.ext i x⟩ st=jq K (b4 st.mem st.tm (.ext i x)) d st:=bn
@[go_sem] theorem azB (x:bH):gd T K ⟨d,g,.len x⟩ st=jq K (b4 st.mem st.tm (.len x)) d st:=bn
@[go_sem] theorem azC (x:bH):gd T K ⟨d,g,.lens x⟩ st=jq K (b4 st.mem st.tm (.lens x)) d st:=bn
@[go_sem] theorem azD (k:Key)(z:List M)(b:Nat)(s x:bH):gd T K ⟨d,g,.app k z b s x⟩ st=jq K (b4 st.mem st.tm (.app k z b s x)) d st:=bn
@[go_sem] theorem azE (s:Nat)(x y:bH):gd T K ⟨d,g,.q7 s x y⟩ st=jq K (b4 st.mem st.tm (.q7 s x y)) d st:=bn
@[go_sem] theorem azF (b:Bool)(x y:bH):gd T K ⟨d,g,.iw b x y⟩ st=jq K (b4 st.mem st.tm (.iw b x y)) d st:=bn
@[go_sem] theorem azG (f:FuncId)(l:List bH):gd T K ⟨d,g,.tn f l⟩ st=jq K (b4 st.mem st.tm (.tn f l)) d st:=bn
def wu (K:a2->Prop)(x:Option gT)(d:Option Nat)(st:a2):Prop :=
 match x with
 |some (.same r)=>K ⟨put st.tm d (.I r),st.mem⟩
 |some (.own _ es)=>K ⟨put st.tm d (.I (.af es)),st.mem⟩
 |some (.rel bZ)=>∀r mem',bZ r mem'->K ⟨put st.tm d r,mem'⟩
 |some (.eP r k g i c)=>K ⟨put st.tm d (.I r),a3 st.mem k g ((qp st.mem k).set i c)⟩
 |none=>False
@[go_sem] theorem azH (f:FuncId)(l:List bH):gd T K ⟨d,g,.call f l⟩ st=wu K (T f (l.map (aZ st.tm)) st.mem) d st:=bn
@[go_sem] theorem azI (r:Data)(k:Key)(g i:Nat)(c:M):wu K (some (.eP r k g i c)) d st=K ⟨put st.tm d (.I r),a3 st.mem k g ((qp st.mem k).set i c)⟩:=bn
@[go_sem] theorem azJ (r:Data):wu K (some (.same r)) d st=K ⟨put st.tm d (.I r),st.mem⟩:=bn
@[go_sem] theorem azK (s:Nat)(es:List (List Data)):wu K (some (.own s es)) d st=K ⟨put st.tm d (.I (.af es)),st.mem⟩:=bn
@[go_sem] theorem akJ (bZ:M->Mem->Prop):wu K (some (.rel bZ)) d st=∀r mem',bZ r mem'->K ⟨put st.tm d r,mem'⟩:=bn
def Qi (T:bk)(K:a2->Prop)(m:M)(args:List M)(d:Option Nat)(st:a2):Prop :=
 match m with
 |.fS g eZ=>wu K (T g (args++eZ) st.mem) d st
 |.I (.fn g ds)=>wu K (T g (args++ds.map .I) st.mem) d st
 |_=>False
@[go_sem] theorem azL (f:bH)(l:List bH):gd T K ⟨d,g,.lG f l⟩ st=Qi T K (aZ st.tm f) (l.map (aZ st.tm)) d st:=bn
@[go_sem] theorem azM (f:FuncId)(eZ args:List M):Qi T K (.fS f eZ) args d st=wu K (T f (args++eZ) st.mem) d st:=bn
@[go_sem] theorem azN (f:FuncId)(ds:List Data)(args:List M):Qi T K (.I (.fn f ds)) args d st=wu K (T f (args++ds.map .I) st.mem) d st:=bn
def Qj (K:a2->Prop)(x:Option gT)(k:Key)(sz:Nat)(d:Option Nat)(st:a2):Prop :=
 match x with
 |some (.own dX es)=>if dX=sz then K ⟨put st.tm d (.ref k (bY st.mem k) sz 0 (D es)),a3 st.mem k (bY st.mem k) (es.flatten.map .I)⟩ else False
 |_=>False
@[go_sem] theorem azO (k:Key)(sz:Nat)(f:FuncId)(l:List bH):gd T K ⟨d,g,.nf k sz f l⟩ st=Qj K (T f (l.map (aZ st.tm)) st.mem) k sz d st:=bn
@[go_sem] theorem azP (k:Key)(sz:Nat)(es:List (List Data)):Qj K (some (.own sz es)) k sz d st=K ⟨put st.tm d (.ref k (bY st.mem k) sz 0 (D es)),a3 st.mem k (bY st.mem k) (es.flatten.map .I)⟩:=by simp[Qj]
def Zw (K:a2->Prop)(neg:Bool)(x:Option Bool)(d:Option Nat)(st:a2):Prop :=
 match x with
 |some full=>∀b:Bool,(full=true->b=false)->K ⟨put st.tm d (.I (.bool (neg != b))),st.mem⟩
 |none=>False
@[go_sem] theorem azQ (neg:Bool)(x:bH):gd T K ⟨d,g,.py neg x⟩ st=Zw K neg (Bo (aZ st.tm x)) d st:=bn
@[go_sem] theorem azR (neg full:Bool):Zw K neg (some full) d st=∀b:Bool,(full=true->b=false)->K ⟨put st.tm d (.I (.bool (neg != b))),st.mem⟩:=bn
end
section
variable {tm:Nat->M} {mem:Mem}
@[go_sem] theorem azS (s:Nat):aZ tm (.t s)=tm s:=bn
@[go_sem] theorem azT (m:M):aZ tm (.c m)=m:=bn
@[go_sem] theorem azU (s:Nat)(m:M):put tm (some s) m=eP tm s m:=bn
@[go_sem] theorem azV (m:M):put tm none m=tm:=bn
@[go_sem] theorem azW (s:Nat)(m:M)(t:Nat):eP tm s m t=if t=s then m else tm t:=bn
@[go_sem] theorem zM (k:Key)(g:Nat)(cs:List M)(j:Key):a3 mem k g cs j=if j=k then some (g,cs) else mem j:=bn
@[go_sem] theorem azX:ix mem none=mem:=bn
@[go_sem] theorem azY (k:Key)(g:Nat)(cs:List M):ix mem (some (k,g,cs))=a3 mem k g cs:=bn
def gh:Option (Nat×List M)->Nat
 |none=>0
 |some (g,_)=>g+1
@[go_sem] theorem azZ (k:Key):bY mem k=gh (mem k):=by unfold bY gh;rfl
@[go_sem] theorem az0:gh none=0:=bn
@[go_sem] theorem az1 (g:Nat)(cs:List M):gh (some (g,cs))=g+1:=bn
@[go_sem] theorem az2 (k:Key):emp k=none:=bn
@[go_sem] theorem az3:og tm none=some true:=bn
def Ls (m:M)(b:Bool):Option Bool :=
 match m with
 |.I (.bool t)=>some (t==b)
 |.no=>some false
 |_=>none
@[go_sem] theorem az4 (s:Nat)(b:Bool):og tm (some (s,b))=Ls (tm s) b:=bn
@[go_sem] theorem az5 (b:Bool):Ls .no b=some false:=bn
variable (op:jG)
@[go_sem] theorem az6 (m:M):iI (some m)=some (m,none):=bn
@[go_sem] theorem az7 (x:bH):b4 mem tm (.b3 x)=some (aZ tm x,none):=bn
@[go_sem] theorem az8 (c a b:bH):b4 mem tm (.pick c a b)=iI (DB (aZ tm c) (aZ tm a) (aZ tm b)):=bn
@[go_sem] theorem az9 (a b:M):DB (.I (.bool true)) a b=some a:=bn
@[go_sem] theorem aAa (a b:M):DB (.I (.bool false)) a b=some b:=bn
@[go_sem] theorem aAb (k:Key)(z:List M):b4 mem tm (.alloc k z)=some (.ptr k (bY mem k) 0,some (k,bY mem k,z)):=bn
@[go_sem] theorem aAc (k:Key)(x:bH):b4 mem tm (.box k x)=if (aZ tm x).known=true then some (.ptr k (bY mem k) 0,some (k,bY mem k,(aZ tm x).cells)) else none:=bn
@[go_sem] theorem aAd (z:List M)(cW:List (Nat×Nat×bH)):b4 mem tm (.build z cW)=iI ((jX (aZ tm) z cW).map .agg):=bn
@[go_sem] theorem aAe (k:Key)(z:List M)(sz len:Nat)(cW:List (Nat×Nat×bH)):b4 mem tm (.e1 k false z sz len cW)=iI (Hh z sz len (jX (aZ tm) z cW)):=bn
@[go_sem] theorem aAf (k:Key)(z:List M)(sz len:Nat)(cW:List (Nat×Nat×bH)):b4 mem tm (.e1 k true z sz len cW)=DD k (bY mem k) z sz len (jX (aZ tm) z cW):=bn
@[go_sem] theorem aAg (n:Nat)(dC:Bool)(x:bH):b4 mem tm (.load n dC x)=iI (pB mem n dC (aZ tm x)):=bn
@[go_sem] theorem aAh (n:Nat)(x v:bH):b4 mem tm (.store n x v)=v7 mem n (aZ tm x) (aZ tm v).cells:=bn
@[go_sem] theorem aAi (b:BinOp)(x y:bH):b4 mem tm (.bin b x y)=iI (He b (aZ tm x) (aZ tm y)):=bn
@[go_sem] theorem aAj (neg:Bool)(x y:bH):b4 mem tm (.beq neg x y)=iI (Hf neg (aZ tm x) (aZ tm y)):=bn
@[go_sem] theorem aAk (neg:Bool)(n:List Nat)(x y:bH):b4 mem tm (.eqs neg n x y)=iI (Hj neg n (aZ tm x) (aZ tm y)):=bn
@[go_sem] theorem aAl (u:UnOp)(x:bH):b4 mem tm (.un u x)=iI (Hg u (aZ tm x)):=bn
@[go_sem] theorem aAm (k:IntKind)(x:bH):b4 mem tm (.conv k x)=iI (Hk k (aZ tm x)):=bn
@[go_sem] theorem aAn (x:bH):b4 mem tm (.q5 x)=iI (Hl (aZ tm x)):=bn
@[go_sem] theorem aAo (k:Key)(z:List M)(b:Nat)(x y:bH):b4 mem tm (.lF k z b x y)=Hv (idx (aZ tm x)) (idx (aZ tm y)) (DE k (bY mem k) z b):=bn
@[go_sem] theorem aAp (o:Nat)(x:bH):b4 mem tm (.et o x)=iI (Hm o (aZ tm x)):=bn
@[go_sem] theorem aAq (o n:Nat)(dC:Bool)(x:bH):b4 mem tm (.zv o n dC x)=iI (Hn o n dC (aZ tm x)):=bn
@[go_sem] theorem aAr (s:Nat)(x i:bH):b4 mem tm (.jj s x i)=iI (hM (idx (aZ tm i)) λn=>xW s n (aZ tm x)):=bn
@[go_sem] theorem aAs (n s:Nat)(x i:bH):b4 mem tm (.oe n s x i)=iI (hM (idx (aZ tm i)) λm=>Ho n s m (aZ tm x)):=bn
@[go_sem] theorem aAt (x i:bH):b4 mem tm (.idxs x i)=iI (hM (idx (aZ tm i)) λn=>Hp n (aZ tm x)):=bn
@[go_sem] theorem aAu (s:Nat)(x:bH)(bG L:Option bH):b4 mem tm (.q6 s x bG L none)=iI (hM (jk 0 (bG.map (aZ tm))) λl=>hM (pA (aZ tm x)) λlen=>hM (jk len (L.map (aZ tm))) λh=>Hq s l h (aZ tm x)):=bn
@[go_sem] theorem aAv (s:Nat)(x h m:bH)(bG:Option bH):b4 mem tm (.q6 s x bG (some h) (some m)) =
 iI (hM (jk 0 (bG.map (aZ tm))) λl=>hM (idx (aZ tm h)) λh=>hM (idx (aZ tm m)) λm=>Hr s l h m (aZ tm x)):=bn
@[go_sem] theorem aAw (n s:Nat)(x:bH)(bG L:Option bH):b4 mem tm (.r5 n s x bG L none)=iI (hM (jk 0 (bG.map (aZ tm))) λl=>hM (jk n (L.map (aZ tm))) λh=>zx mem n s l h (aZ tm x)):=bn
@[go_sem] theorem aAx (x:bH)(bG L:Option bH):b4 mem tm (.Bm x bG L)=iI (hM (jk 0 (bG.map (aZ tm))) λl=>hM (xV (aZ tm x)) λlen=>hM (jk len (L.map (aZ tm))) λh=>Hs l h (aZ tm x)):=bn
@[go_sem] theorem aAy (i:Nat)(x:bH):b4 mem tm (.ext i x)=iI (Ht i (aZ tm x)):=bn
@[go_sem] theorem aAz (x:bH):b4 mem tm (.len x)=iI (hM (pA (aZ tm x)) λn=>some (.I (.int .i64 n))):=bn
@[go_sem] theorem aAA (x:bH):b4 mem tm (.lens x)=iI (hM (xV (aZ tm x)) λn=>some (.I (.int .i64 n))):=bn
@[go_sem] theorem aAB (k:Key)(z:List M)(b:Nat)(s x:bH):b4 mem tm (.app k z b s x)=qo mem k z b (aZ tm s) (pC mem (D z) (aZ tm x)):=bn
@[go_sem] theorem aAC (s:Nat)(x y:bH):b4 mem tm (.q7 s x y)=uN mem s (aZ tm x) (pC mem s (aZ tm y)):=bn
@[go_sem] theorem aAD (b:Bool)(x y:bH):b4 mem tm (.iw b x y)=iI (Hu b (aZ tm x) (aZ tm y)):=bn
@[go_sem] theorem aAE (f:FuncId)(l:List bH):b4 mem tm (.tn f l)=some (.fS f (l.map (aZ tm)),none):=bn
@[go_sem] theorem aAF (n:Nat)(f:Nat->Option M):hM (some n) f=f n:=bn
@[go_sem] theorem aAG (n m:Nat)(f:Nat->Nat->Out):Hv (some n) (some m) f=f n m:=bn
def Lt (n:Nat)(dC:Bool)(g off:Nat):Option (Nat×List M)->Option M
 |some (dh,cs)=>if dh=g then (cut cs off n).bind (qn dC) else none
 |none=>none
@[go_sem] theorem aAH (n:Nat)(dC:Bool)(k:Key)(g off:Nat):pB mem n dC (.ptr k g off)=Lt n dC g off (mem k):=by unfold pB Lt;rfl
@[go_sem] theorem aAI (n:Nat)(dC:Bool)(g off:Nat)(cs:List M):Lt n dC g off (some (g,cs))=(cut cs off n).bind (qn dC):=by simp[Lt]
@[go_sem] theorem aAJ (n:Nat)(dC:Bool)(ds:List Data):pB mem n dC (.I (.ptr ds))=(cut (ds.map .I) 0 n).bind (qn dC):=bn
@[go_sem] theorem aAK (n:Nat)(k:Key)(g off:Nat)(v:List M):v7 mem n (.ptr k g off) v=Hw n k g off v (mem k):=bn
@[go_sem] theorem aAL (cs:List M):qn true cs=some (.agg cs):=bn
@[go_sem] theorem aAM (m:M):qn false [m]=some m:=bn
@[go_sem] theorem aAN (cs:List M):(M.agg cs).cells=cs:=bn
@[go_sem] theorem aAO (cs:List Data):(M.I (.agg cs)).cells=cs.map .I:=bn
@[go_sem] theorem aAP (k:IntKind)(n:Int):(M.I (.int k n)).cells=[.I (.int k n)]:=bn
@[go_sem] theorem aAQ (b:Bool):(M.I (.bool b)).cells=[.I (.bool b)]:=bn
@[go_sem] theorem aAR (l:List UInt8):(M.I (.str l)).cells=[.I (.str l)]:=bn
@[go_sem] theorem aAS (l:List (List Data)):(M.I (.af l)).cells=[.I (.af l)]:=bn
@[go_sem] theorem aAT (l:List Data):(M.I (.ptr l)).cells=[.I (.ptr l)]:=bn
@[go_sem] theorem aAU (f:FuncId)(l:List Data):(M.I (.fn f l)).cells=[.I (.fn f l)]:=bn
@[go_sem] theorem aAV:M.nil.cells=[.nil]:=bn
@[go_sem] theorem aAW (k:Key)(g s o l:Nat):(M.ref k g s o l).cells=[.ref k g s o l]:=bn
@[go_sem] theorem aAX (k:Key)(g o:Nat):(M.ptr k g o).cells=[.ptr k g o]:=bn
@[go_sem] theorem aAY (f:FuncId)(l:List M):(M.fS f l).cells=[.fS f l]:=bn
@[go_sem] theorem aAZ (k:IntKind)(n:Nat):idx (.I (.int k (n:Int)))=some n:=by simp[idx]
@[go_sem] theorem aA0 (k:IntKind):idx (.I (.int k 0))=some 0:=bn
@[go_sem low] theorem aA1 (k:IntKind)(n:Int):idx (.I (.int k n))=if 0<=n then some n.toNat else none:=bn
end
attribute [go_sem] Hi Hf He Hg Hk Hl Hm Hn xW Ho Hp Hq Hr zx PW Hs Ht Hu jk pA xV Hw uN zy DE DD Hh Hj zw K9 jX lI cut chunk
 DA K6 K7 K8 Bo zz Bn M.one M.known pC v5 dO DF Hx qq qp DG keyOf jl DH qs tq iU mA DI oN
end Go.Mini
namespace Go.Mini
open Go
variable {P:Program} {A:Nat->Prop} {w:World} {B:eK} {mem:Mem}
def zN (w aN:World)(aO:Nat->Prop)(sz:Nat)(es:List (List Data))(v:Value):Prop :=
 (∀e∈es,D e=sz)/\∃a cap,v=.slice a (D es) cap/\D es<=cap/\cap<=maxLen /\
  (cap=0\/∃b vs T,a=some ⟨b,0,none⟩/\w.heap.size<=b/\aN.heap[b]?=some (.cells vs T (0,0))/\cap*sz<=vs.size /\
   ∀(i:Nat) (d:Data),es.flatten[i]?=some d->∃u,vs[i]?=some u/\Den aN (λe2=>aO e2\/e2=b) d u)
def Qk (P:Program)(f:FuncId)(vs:List Value)(A:Nat->Prop)(w:World)(B:eK)(mem:Mem):gT->Prop
 |.same r=>Calls P f vs.toArray w λe aN=>∃v,e=.returned v/\Fr (λ_=>False) w aN/\Den aN (cj A B) r v
 |.own sz es=>Calls P f vs.toArray w λe aN=>∃v,e=.returned v/\Fr (λ_=>False) w aN/\zN w aN (cj A B) sz es v
 |.rel bZ=>Calls P f vs.toArray w λe aN=>∃v r mem' bq,e=.returned v/\eG A w B aN bq mem'/\bo aN (cj A bq) bq r v/\bZ r mem'
 |.eP r k g i c=>Calls P f vs.toArray w λe aN=>∃v bq,e=.returned v/\eG A w B aN bq (a3 mem k g ((qp mem k).set i c))/\bo aN (cj A bq) bq (.I r) v
def Real (P : Program)(f : FuncId): Prop := ∃ fn c, P.funcs[f]? = some fn /\ fn.body = some c /\ (fn.name == "runtime.NumGoroutine") = false
def qy (P:Program)(T:bk):Prop:=∀f args mem oR,T f args mem=some oR->Real P f /\
 ∀A w B vs,fl A w B mem->c9 w (cj A B) B args vs->Qk P f vs A w B mem oR
theorem Lu {f:FuncId}(h:Real P f)(args:Array Value):(callFunc f args).run P w=.ok (.enter f args) w:=by
 obtain⟨fn,c,aJ,ae,aG⟩:=h;have E : fn.name ≠ "runtime.NumGoroutine" := by simpa using aG
 simp[callFunc,aJ,E,ae]
theorem Den.less {w:World}{aO oc:Nat->Prop}(h:∀b,oc b->aO b){d:Data}{v:Value}(X:Den w aO d v):Den w oc d v :=
 X.q3 (bP _) λb _ ae=>⟨rfl,λO=>ae (h b O)⟩
theorem zN.den {w aN:World}{aO:Nat->Prop}{sz:Nat}{es:List (List Data)}{v:Value}(aq:∀b,aO b->b<w.heap.size)(h:zN w aN aO sz es v):Den aN aO (.af es) v:=by
 obtain⟨he,a,cap,rfl,E,H,ab⟩:=h;rcases ab with rfl|⟨b,vs,T,rfl,aM,bl,bI,bC⟩
 ·have:es=[]:=sf (by omega);subst this;exact .k6
 ·have HM:b<aN.heap.size:=(Array.getElem?_eq_some_iff.1 bl).1;refine .af (sz:=sz) (λi=>vs.getD i undef) E (by omega) HM (λbx=>by have:=aq b bx;omega) he (λi L=>?_) λi d X=>?_
  ·have aq:i<D es.flatten:=by rw[K1 he];exact L
   obtain⟨u,hu,_⟩:=bC i _ (bs aq);rw[cell_of_row aN b _ vs T (0,0) bl,oP,Array.getD_eq_getD_getElem?,hu]
   rfl
  ·obtain⟨u,hu,X⟩:=bC i d X;rw[Array.getD_eq_getD_getElem?,hu];exact X.less λb h => .inl h
theorem Zx {aN:World}{sz:Nat}{es:List (List Data)}{v:Value}(k:Key)(bT:fl A w B mem)(f:Fr (λ_=>False) w aN)(h:zN w aN (cj A B) sz es v):
  ∃bq,eG A w B aN bq (a3 mem k (bY mem k) (es.flatten.map .I))/\bo aN (cj A bq) bq (.ref k (bY mem k) sz 0 (D es)) v:=by
 obtain⟨he,a,cap,rfl,E,H,ab⟩:=h;have still:=eG.still bT f;rcases ab with rfl|⟨b,vs,T,rfl,aM,bl,bI,bC⟩
 ·have:es=[]:=sf (by omega);subst this;exact⟨_,still.trans (eG.x1 still.ee k),.ref (g3 _ _ _) (bP _) ⟨_,0,rfl,E,H,.inl rfl⟩⟩
 ·have HM:b<aN.heap.size:=(Array.getElem?_eq_some_iff.1 bl).1
  have eV:∀e2,(⟨bY mem k,some b,vs.size⟩:lE).dp=some e2->w.heap.size<=e2\/∃e,B k=some e/\e.dp=some e2:=λe2 lK=>by
   cases lK;exact .inl aM
  have g5:=K1 he;have hmul:(D es)*sz<=cap*sz:=rh _ E;have hold:∀e2,e2<w.heap.size->(∀e,B k=some e->e.dp≠some e2)->aN.heap[e2]?=w.heap[e2]?:=λe2 lK _=>f.block e2 lK id;have aX:∀e,B k=some e->(⟨bY mem k,some b,vs.size⟩:lE)=e\/e.g<(⟨bY mem k,some b,vs.size⟩:lE).g:=λe he => .inr (DP bT k e he);refine⟨gM B k ⟨bY mem k,some b,vs.size⟩,⟨?_,Trans.change f.size hold aX eV,⟨f.os,f.tape,f.output,f.size,λe2 lK _=>f.block e2 lK id⟩,PZ eV⟩,?_⟩
  ·refine bT.YO (e':=⟨bY mem k,some b,vs.size⟩) f.size hold aX eV (λh=>by cases h) λe2 lK=>?_
   cases lK;refine⟨vs,T,bl,rfl,by rw[List.length_map,g5];omega,λi m hm=>?_⟩
   rw[a5,ei] at hm;obtain⟨d,X,rfl⟩:=hm;obtain⟨u,hu,uX⟩:=bC i d X;refine⟨u,hu,.I (uX.less λe2 lK=>?_)⟩;rcases lK with ⟨j,e,ai,O⟩|a1
   ·by_cases eW:j=k
    ·subst eW;rw[g3] at ai
     cases ai
     cases O;exact .inr rfl
    ·rw[gU B _ eW] at ai;exact .inl (.inl ⟨j,e,ai,O⟩)
   ·exact .inl (.inr a1)
  ·exact .ref (g3 _ _ _) (bP _) ⟨_,cap,rfl,E,H,.inr ⟨b,rfl,λ_=>⟨rfl,by simpa using bI⟩⟩⟩
end Go.Mini
namespace Go.Mini
open Go
variable {P:Program} {T:bk} {A:Nat->Prop} {dt w:World} {gW B:eK} {mem:Mem} {n:Nat}
structure hj (n:Nat) (A:Nat->Prop) (dt:World) (gW:eK) (a:Act) (st:a2) (w:World) (B:eK):Prop where
 ok:eG A dt gW w B st.mem
 tm:∀s,bo w (cj A B) B (st.tm s) (a.eval (.tmp s))
 sz:a.tmps.size=n
 HN:a.defers=[]
theorem hj.uY {a:Act}{st:a2}(h:hj n A dt gW a st w B)(x:Operand)(y:bH)(O:dF x=some y):bo w (cj A B) B (aZ st.tm y) (a.eval x):=by
 cases x<;>simp only[dF,cb,ei,reduceCtorEq] at O
 ·subst O;exact h.tm _
 ·obtain⟨m,hm,rfl⟩:=O;exact ajx hm
 ·subst O;exact .fS (vs:=[]) rfl λi d v E=>by simp at E
theorem akK {a:Act}{s:Nat}{v:Value}(h:s<a.tmps.size):(a.put (some s) v).eval (.tmp s)=v:=by
 simp[Act.eval,Act.put,h]
theorem hj.put {a:Act}{st:a2}{aN:World}{bq:eK}{mem':Mem}{dst:Option Nat}{r:M}{v:Value}(h:hj n A dt gW a st w B)(Q:eG A w B aN bq mem')(Y:bo aN (cj A bq) bq r v)
  (X:dst.all (λd=>decide (d<n))=true):hj n A dt gW (a.put dst v) ⟨Mini.put st.tm dst r,mem'⟩ aN bq:=by
 refine⟨h.ok.trans Q,λs=>?_,?_,?_⟩
 ·cases dst with
  |none=>exact (h.tm s).q3 Q.mB
  |some d =>
   simp only[Option.all_some,decide_eq_true_eq] at X
   by_cases HO:s=d
   ·subst HO;rw[akK (by rw[h.sz];exact X)];simp only[Mini.put,eP,if_true];exact Y
   ·rw[Act.eval_put (λwo E H=>by cases E;cases H;exact HO rfl)];simp only[Mini.put,eP,aa HO];exact (h.tm s).q3 Q.mB
 ·cases dst<;>simp[Act.put,h.sz]
 ·cases dst<;>simp[Act.put,h.HN]
theorem Ql {a:Act}{st:a2}{ops:Array Oper}{o:Oper}{g:Option (Nat×Bool)}{b:Bool}(h:hj n A dt gW a st w B)(aX:HC ops o.guard=some g)(ae:og st.tm g=some b):
  Region.wanted o (yielded ops a.tmps)=b:=by
 unfold Region.wanted
 cases uP:o.guard with
 |none =>
  rw[uP] at aX;simp only[HC,cb] at aX;subst aX;simp only[og,cb] at ae;exact ae
 |some p =>
  obtain⟨j,c⟩:=p;rw[uP] at aX;simp only[HC] at aX
  split at aX
  ·rename_i s Q;simp only[cb] at aX;subst aX;have aI:=h.tm s
   have ao:yielded ops a.tmps j=match a.eval (.tmp s) with|.bool b=>some b|_=>none:=by
    unfold yielded;rw[Q];simp only[Option.bind_some,Act.eval,Array.getD_eq_getD_getElem?]
    cases a.tmps[s]? with
    |none=>rfl
    |some v=>cases v<;>rfl
   simp only[og] at ae;simp only[ao]
   split at ae
   ·rename_i t bJ;rw[bJ] at aI
    cases aI with
    |I aI =>
     generalize a.eval (.tmp s)=u at *
     cases aI;simp only[cb] at ae;subst ae
     cases t<;>cases c<;>simp
   ·rename_i bJ;rw[bJ] at aI;generalize a.eval (.tmp s)=u at *
    cases aI;simp only[cb] at ae;subst ae
    rfl
   ·cases ae
  ·cases aX
theorem Zy {kb:Nat}{own:List Nat}{dst:Option Nat}{ty:TypeId}{op:Op}{f:FuncId}{args:List bH}(h:lJ P kb own dst ty op=some (.call f args)):
  ∃c:Call,op=.call c/\c.callee=.value (.func f)/\c.args.toList.mapM dF=some args:=by
 cases op<;>simp only[lJ,Bp,xY] at h
 case call c =>
  refine⟨c,rfl,?_⟩;unfold zA at h
  (repeat' split at h)<;>simp_all [eo,ei]
 all_goals ((repeat' split at h)<;>simp_all [eo,ei])
theorem akL {kb:Nat}{own:List Nat}{dst:Option Nat}{ty:TypeId}{op:Op}{f:FuncId}{bG:Nat}{args:List bH}(h:lJ P kb own dst ty op=some (.lH bG f args)):
  ∃c:Call,op=.call c/\c.callee=.value (.func f)/\c.args.toList.mapM dF=some args:=by
 cases op<;>simp only[lJ,Bp,xY] at h
 case call c =>
  refine⟨c,rfl,?_⟩;unfold zA at h
  (repeat' split at h)<;>simp_all [eo,ei]
  obtain⟨_,E,_,rfl,rfl⟩:=h;exact⟨rfl,E⟩
 all_goals ((repeat' split at h)<;>simp_all [eo,ei])
theorem Zz {kb:Nat}{own:List Nat}{dst:Option Nat}{ty:TypeId}{op:Op}{f:FuncId}{k:Key}{sz:Nat}{args:List bH}(h:lJ P kb own dst ty op=some (.nf k sz f args)):
  ∃c:Call,op=.call c/\c.callee=.value (.func f)/\c.args.toList.mapM dF=some args:=by
 cases op<;>simp only[lJ,Bp,xY] at h
 case call c =>
  refine⟨c,rfl,?_⟩;unfold zA at h
  (repeat' split at h)<;>simp_all [eo,ei]
  obtain⟨_,_,_,_,_,E,_,_,rfl,rfl⟩:=h;exact⟨rfl,E⟩
 all_goals ((repeat' split at h)<;>simp_all [eo,ei])
theorem akM {kb:Nat}{own:List Nat}{dst:Option Nat}{ty:TypeId}{op:Op}{f:bH}{args:List bH}(h:lJ P kb own dst ty op=some (.lG f args)):
  ∃(c:Call) (x:Operand),op=.call c/\c.callee=.value x/\dF x=some f/\c.args.toList.mapM dF=some args:=by
 cases op<;>simp only[lJ,Bp,xY] at h
 case call c =>
  refine⟨c,?_⟩;unfold zA at h
  (repeat' split at h)<;>simp_all [eo,ei]
 all_goals ((repeat' split at h)<;>simp_all [eo,ei])
theorem akN {kb:Nat}{own:List Nat}{dst:Option Nat}{ty:TypeId}{op:Op}{neg:Bool}{x:bH}(h:lJ P kb own dst ty op=some (.py neg x)):
  ∃(t e:TypeId) (y y':Operand) (z:TypeId),op=.binOp (if neg then .neq else .eql) t y y' z/\PY y'=true/\P.underlying t=some (.slice e)/\dF y=some x:=by
 cases op<;>simp only[lJ,Bp,xY] at h
 case call c =>
  unfold zA at h
  (repeat' split at h)<;>simp_all [eo,ei]
 case binOp bop t y y' z =>
  (repeat' split at h)<;>simp_all [eo,ei]
  all_goals
   obtain⟨E,rfl⟩:=h;exact⟨_,_,_,_,⟨rfl,rfl,rfl⟩,by assumption,by assumption,E⟩
 all_goals ((repeat' split at h)<;>simp_all [eo,ei])
end Go.Mini
namespace Go.Mini
open Go
variable {P:Program} {T:bk} {A:Nat->Prop} {dt w:World} {gW B:eK} {mem:Mem} {n:Nat}
theorem akO {t e:TypeId}{y y':Operand}{m:M}{u v:Value}{aO:Nat->Prop}{full:Bool}(neg:Bool)(bJ:P.underlying t=some (.slice e))(hm:bo w aO B m u)(aJ:Bo m=some full)(aI:v=.slice none 0 0):
  ∃b:Bool,(full=true->b=false)/\((do eqGuard (if neg then .neq else .eql) t y y' u v;binOp (if neg then .neq else .eql) t u v:Sem Value)).run P w=.ok (.bool (neg != b)) w:=by
 subst aI
 have shape:∃a len cap,u=.slice a len cap/\(full=true->a.isNone=false):=by
  cases m<;>simp only[Bo,reduceCtorEq] at aJ
  case I d =>
   cases d<;>simp only[Bo,cb,reduceCtorEq] at aJ
   cases hm with
   |I X =>
    cases X with
    |k6=>exact⟨_,_,_,rfl,λh=>by cases aJ;cases h⟩
    |af=>exact⟨_,_,_,rfl,λ_=>rfl⟩
  case nil =>
   cases hm with
   |nil=>exact⟨_,_,_,rfl,λh=>by cases aJ;cases h⟩
  case ref k g sz off len =>
   cases hm with
   |ref he aX Y =>
    obtain⟨a,cap,rfl,E,H,ab⟩:=Y;refine⟨_,_,_,rfl,λh=>?_⟩;simp only[cb] at aJ;subst aJ;simp only[decide_eq_true_eq] at h;rcases ab with ab|⟨b,rfl,_⟩
    ·omega
    ·rfl
 obtain⟨a,len,cap,rfl,ae⟩:=shape;refine⟨a.isNone,ae,?_⟩
 have he:∀d,(Op.equalIn (d+1) t (.slice a len cap) (.slice none 0 0)).run P w=.ok a.isNone w:=λd=>by
  unfold Op.equalIn;simp only[Sem.run_bind,run_underlying bJ,Result.andThen_ok]
  cases a<;>rfl
 have heq:(Op.equal t (.slice a len cap) (.slice none 0 0)).run P w=.ok a.isNone w:=he 9999;rw[Lc (by simp) (by simp)]
 cases neg
 ·simp only[kh,if_false,Sem.run_bind,Sem.run_pure,Result.andThen_ok];show (do pure (Value.bool (<-Op.equal t (.slice a len cap) (.slice none 0 0))):Sem Value).run P w=_
  simp[heq]
 ·simp only[if_true,Sem.run_bind,Sem.run_pure,Result.andThen_ok];show (do pure (Value.bool (!(<-Op.equal t (.slice a len cap) (.slice none 0 0)))):Sem Value).run P w=_
  simp[heq]
structure Qm (P:Program) (n kb:Nat) (own:List Nat) (ops:Array Oper) (o:Oper) (i:cG):Prop where
 dst:i.dst=o.dst
 guard:HC ops o.guard=some i.g
 op:i.op=(lJ P kb own o.dst o.type o.op).getD .bad
 lt:o.dst.all (λd=>decide (d<n))=true
theorem ZA {kb:Nat}{own:List Nat}{ops:Array Oper}{o:Oper}{i:cG}(h:zB P n kb own ops o=some i):Qm P n kb own ops o i:=by
 unfold zB at h
 split at h
 ·rename_i g aX
  split at h
  ·rename_i aq
   cases h;exact⟨rfl,aX,rfl,aq⟩
  ·cases h
 ·cases h
theorem akP {K:a2->Prop}{i:cG}{st:a2}(h:gd T K i st):
  (∃m e,b4 st.mem st.tm i.op=some (m,e)/\K ⟨put st.tm i.dst m,ix st.mem e⟩) \/
  (∃f args,i.op=.call f args/\tp T K st i.dst f (args.map (aZ st.tm))) \/
  (∃k sz f args es,i.op=.nf k sz f args/\T f (args.map (aZ st.tm)) st.mem=some (.own sz es)/\K ⟨put st.tm i.dst (.ref k (bY st.mem k) sz 0 (D es)),a3 st.mem k (bY st.mem k) (es.flatten.map .I)⟩) \/
  (∃f args,i.op=.lG f args/\((∃g eZ,aZ st.tm f=.fS g eZ/\tp T K st i.dst g (args.map (aZ st.tm)++eZ))\/(∃g ds,aZ st.tm f=.I (.fn g ds)/\tp T K st i.dst g (args.map (aZ st.tm)++ds.map .I)))) \/
  (∃neg x full,i.op=.py neg x/\Bo (aZ st.tm x)=some full/\∀b:Bool,(full=true->b=false)->K ⟨put st.tm i.dst (.I (.bool (neg != b))),st.mem⟩):=by
 obtain⟨dst,g,op⟩:=i;unfold gd at h
 split at h
 ·rename_i f args nh;exact .inr (.inl ⟨f,args,nh,h⟩)
 ·rename_i k sz f args nh
  split at h
  ·rename_i dX es he
   split at h
   ·rename_i Q;subst Q;exact .inr (.inr (.inl ⟨k,_,f,args,es,nh,he,h⟩))
   ·cases h
  ·cases h
 ·rename_i f args nh;refine .inr (.inr (.inr (.inl ⟨f,args,nh,?_⟩)))
  split at h
  ·rename_i g eZ aJ;exact .inl ⟨g,eZ,aJ,h⟩
  ·rename_i g ds aJ;exact .inr ⟨g,ds,aJ,h⟩
  ·cases h
 ·rename_i neg x nh
  split at h
  ·rename_i full aJ;exact .inr (.inr (.inr (.inr ⟨neg,x,full,nh,aJ,h⟩)))
  ·cases h
 ·split at h
  ·rename_i m e he;exact .inl ⟨m,e,he,h⟩
  ·cases h
theorem getD_some {α:Type}{x:Option α}{b c:α}(h:c=x.getD b)(ae:c≠b):x=some c:=by
 cases x with
 |none=>exact absurd h ae
 |some y=>simp at h;rw[h]
theorem ZB (cE:qy P T){K:a2->Prop}{a:Act}{st:a2}{o:Oper}{aH:Exit->Act->World->Prop}{f:FuncId}{args:List M}{vs:List Value}(h:hj n A dt gW a st w B)(aq:o.dst.all (λd=>decide (d<n))=true)
  (aI:c9 w (cj A B) B args vs) (J:tp T K st o.dst f args) (l7:Real P f->(execOp a.eval o).run P w=.ok (.enter f vs.toArray) w) :
  o.wp P a w (λjY aN=>∃dx bq,K dx/\hj n A dt gW jY dx aN bq) aH:=by
 unfold tp at J;unfold Oper.wp
 cases jJ:T f args st.mem with
 |none=>rw[jJ] at J;exact J.elim
 |some oR =>
  obtain⟨oS,k9⟩:=cE f args st.mem oR jJ;have G:=k9 A w B vs h.ok.ee aI;rw[jJ] at J;rw[l7 oS]
  cases oR with
  |same r =>
   refine Calls.mono G λe aN he=>?_;obtain⟨v,rfl,bR,X⟩:=he;exact⟨_,B,J,h.put (.still h.ok.ee bR) (.I X) aq⟩
  |own sz es =>
   refine Calls.mono G λe aN he=>?_;obtain⟨v,rfl,bR,X⟩:=he;refine⟨_,B,J,h.put (.still h.ok.ee bR) (.I (X.den λb ae=>?_)) aq⟩;rcases ae with ae|ae
   ·exact h.ok.ee.zu ae
   ·exact h.ok.ee.lt b ae
  |rel bZ =>
   refine Calls.mono G λe aN he=>?_;obtain⟨v,r,mem',bq,rfl,Q,X,j0⟩:=he;exact⟨_,bq,J r mem' j0,h.put Q X aq⟩
  |eP r k g i c =>
   refine Calls.mono G λe aN he=>?_;obtain⟨v,bq,rfl,Q,X⟩:=he;exact⟨_,bq,J,h.put Q X aq⟩
theorem akQ {aO:Nat->Prop}{m:M}{u:Value}{g:FuncId}{eZ:List M}(hm:bo w aO B m u)(h:m=.fS g eZ\/∃ds,m=.I (.fn g ds)/\eZ=ds.map .I):
  ∃cs:List Value,u=.func (.func g) #[] cs.toArray/\c9 w aO B eZ cs:=by
 rcases h with rfl|⟨ds,rfl,rfl⟩
 ·cases hm with
  |fS au X=>exact⟨_,rfl,au,X⟩
 ·cases hm with
  |I X =>
   cases X with
   |fn au X=>exact⟨_,rfl,c9.I au X⟩
theorem akR (cE:qy P T){K:a2->Prop}{kb:Nat}{own:List Nat}{ops:Array Oper}{a:Act}{st:a2}{o:Oper}{i:cG}{aH:Exit->Act->World->Prop}(h:hj n A dt gW a st w B)(L:Qm P n kb own ops o i)
  (J:gd T K i st):o.wp P a w (λjY aN=>∃dx bq,K dx/\hj n A dt gW jY dx aN bq) aH:=by
 have nh:=L.op;rcases akP J with ⟨m,e,Q,du⟩|⟨f,args,he,du⟩|⟨k,sz,f,args,es,he,jJ,du⟩|⟨f,args,he,du⟩|⟨neg,x,full,he,aJ,du⟩
 ·have aU:lJ P kb own o.dst o.type o.op=some i.op:=getD_some nh (by
   intro ae;rw[ae] at Q
   cases Q)
  obtain⟨D7,v,aN,bq,l7,gz,ey,aI⟩:=Zt h.ok.ee h.uY aU Q;unfold Oper.wp;rw[l7];rw[L.dst] at du;have HP:=h.put ey aI L.lt;rcases gz with rfl|⟨rfl,rfl⟩
  ·exact⟨_,bq,du,HP⟩
  ·exact⟨_,bq,du,HP⟩
 ·have aU:lJ P kb own o.dst o.type o.op=some i.op:=getD_some nh (by rw[he];simp);rw[he] at aU;obtain⟨c,G,ot,pI⟩:=Zy aU;rw[L.dst] at du;refine ZB cE h L.lt (zI h.uY pI) du λoS=>?_;obtain⟨dst,op,type,pos,after,guard⟩:=o;simp only at G;subst G;obtain⟨callee,x8,Lv⟩:=c;simp only at ot;subst ot;simp only[execOp,resolve,Deferred.ofValue,Act.eval,invoke,Sem.run_bind,Sem.run_pure,Result.andThen_ok,Lu oS];rw[zJ x8];simp
 ·have aU:lJ P kb own o.dst o.type o.op=some i.op:=getD_some nh (by rw[he];simp);rw[he] at aU;obtain⟨c,G,ot,pI⟩:=Zz aU;rw[L.dst] at du;obtain⟨oS,k9⟩:=cE f _ st.mem _ jJ;have mI:=k9 A w B _ h.ok.ee (zI h.uY pI);have aq:=L.lt;obtain⟨dst,op,type,pos,after,guard⟩:=o;simp only at G;subst G;obtain⟨callee,x8,Lv⟩:=c;simp only at ot pI;subst ot
  have l7:(execOp a.eval ⟨dst,.call ⟨.value (.func f),x8,Lv⟩,type,pos,after,guard⟩).run P w=.ok (.enter f (x8.toList.map a.eval).toArray) w:=by
   simp only[execOp,resolve,Deferred.ofValue,Act.eval,invoke,Sem.run_bind,Sem.run_pure,Result.andThen_ok,Lu oS];rw[zJ x8];simp
  unfold Oper.wp;rw[l7];refine Calls.mono mI λe aN rj=>?_;obtain⟨v,rfl,bR,X⟩:=rj;obtain⟨bq,ey,aI⟩:=Zx k h.ok.ee bR X;exact⟨_,bq,du,h.put ey aI aq⟩
 ·have aU:lJ P kb own o.dst o.type o.op=some i.op:=getD_some nh (by rw[he];simp);rw[he] at aU;obtain⟨c,x,G,ot,O,pI⟩:=akM aU;rw[L.dst] at du;have akS:=h.uY _ _ O
  have main:∀g eZ,(aZ st.tm f=.fS g eZ\/∃ds,aZ st.tm f=.I (.fn g ds)/\eZ=ds.map .I)->tp T K st o.dst g (args.map (aZ st.tm)++eZ)->o.wp P a w (λjY aN=>∃dx bq,K dx/\hj n A dt gW jY dx aN bq) aH:=by
   intro g eZ aX du;obtain⟨cs,hu,bX⟩:=akQ akS aX;refine ZB cE h L.lt ((zI h.uY pI).append bX) du λoS=>?_;obtain⟨dst,op,type,pos,after,guard⟩:=o;simp only at G;subst G;obtain⟨callee,x8,Lv⟩:=c;simp only at ot;subst ot;simp only[execOp,resolve,hu,Deferred.ofValue,invoke,Sem.run_bind,Sem.run_pure,Result.andThen_ok,Lu oS];rw[zJ x8];simp
  rcases du with ⟨g,eZ,aX,du⟩|⟨g,ds,aX,du⟩
  ·exact main g eZ (.inl aX) du
  ·exact main g _ (.inr ⟨ds,aX,rfl⟩) du
 ·have aU:lJ P kb own o.dst o.type o.op=some i.op:=getD_some nh (by rw[he];simp);rw[he] at aU;obtain⟨t,e,y,y',z,G,aG,bJ,ao⟩:=akN aU;rw[L.dst] at du
  have Qn:a.eval y' = .slice none 0 0:=by
   unfold PY at aG
   split at aG
   ·rfl
   ·cases aG
  obtain⟨b,ae,l7⟩:=akO (y:=y) (y':=y') neg bJ (h.uY _ _ ao) aJ Qn;obtain⟨dst,op,type,pos,after,guard⟩:=o;simp only at G;subst G;unfold Oper.wp
  have:(execOp a.eval ⟨dst,.binOp (if neg then .neq else .eql) t y y' z,type,pos,after,guard⟩).run P w=.ok (.value (.bool (neg != b))) w:=by
   simp only[execOp];rw[Sem.run_bind,l7]
   rfl
  rw[this];exact⟨_,B,du b ae,h.put (.refl h.ok.ee) (.I .bool) L.lt⟩
end Go.Mini
namespace Go.Mini
open Go
variable {T:bk}
theorem fw {tm tm':Nat->M}{x:bH}(h:∀s∈e9 x,tm s=tm' s):aZ tm x=aZ tm' x:=by
 cases x with
 |t s=>exact h s (by simp[e9])
 |c m=>rfl
theorem map_congr {tm tm':Nat->M}{l:List bH}(h:∀s∈l.flatMap e9,tm s=tm' s):l.map (aZ tm)=l.map (aZ tm') :=
 nj λx O=>fw λs Q=>h s (BD.2 ⟨x,O,Q⟩)
theorem ZC {tm tm':Nat->M}{l:List bH}(h:∀s∈l.flatMap e9,tm s=tm' s):(l.map λx=>zz (aZ tm x))=l.map λx=>zz (aZ tm' x) :=
 nj λx O=>by rw[fw λs Q=>h s (BD.2 ⟨x,O,Q⟩)]
theorem BE {tm tm':Nat->M}{x:Option bH}(h:∀s∈wa x,tm s=tm' s):x.map (aZ tm)=x.map (aZ tm'):=by
 cases x with
 |none=>rfl
 |some x =>
  cases x with
  |t s=>simp[aZ,h s (by simp[wa])]
  |c m=>rfl
theorem Qo {tm tm':Nat->M}:∀{cW:List (Nat×Nat×bH)} (cs:List M),(∀s∈cW.flatMap (λp=>e9 p.2.2),tm s=tm' s)->jX (aZ tm) cs cW=jX (aZ tm') cs cW
 | [],_,_=>rfl
 |(o,s,x)::cW,cs,h=>by
  have E:aZ tm x=aZ tm' x:=fw λt bJ=>h t (BD.2 ⟨(o,s,x),by simp,bJ⟩);simp only[jX,E]
  split
  ·exact Qo _ λt bJ=>h t (by simp only[List.flatMap_cons,jK];exact .inr bJ)
  ·rfl
theorem akT {mem:Mem}{tm tm':Nat->M}{op:jG}(h:∀s∈wb op,tm s=tm' s):b4 mem tm op=b4 mem tm' op:=by
 cases op<;>simp only[wb,jK] at h
 case b3 x=>simp only[b4,kg,fw h]
 case pick c a b=>simp only[b4,kg,fw (λs Q=>h s (.inl (.inl Q))),fw (λs Q=>h s (.inl (.inr Q))),fw (λs Q=>h s (.inr Q))]
 case alloc=>rfl
 case box k x=>simp only[b4,fw h]
 case build z cW=>simp only[b4,kg,Qo _ h]
 case e1 k o z sz len cW=>cases o<;>simp only[b4,kg,Qo _ h]
 case load n dC x=>simp only[b4,fw h]
 case store n x v=>simp only[b4,fw (λs Q=>h s (.inl Q)),fw (λs Q=>h s (.inr Q))]
 case bin o x y=>simp only[b4,kg,fw (λs Q=>h s (.inl Q)),fw (λs Q=>h s (.inr Q))]
 case beq o x y=>simp only[b4,kg,fw (λs Q=>h s (.inl Q)),fw (λs Q=>h s (.inr Q))]
 case eqs o l x y=>simp only[b4,kg,fw (λs Q=>h s (.inl Q)),fw (λs Q=>h s (.inr Q))]
 case py=>rfl
 case un o x=>simp only[b4,kg,fw h]
 case conv k x=>simp only[b4,kg,fw h]
 case q5 x=>simp only[b4,kg,fw h]
 case lF k z b x y=>simp only[b4,fw (λs Q=>h s (.inl Q)),fw (λs Q=>h s (.inr Q))]
 case et o x=>simp only[b4,kg,fw h]
 case zv o n dC x=>simp only[b4,kg,fw h]
 case jj s x i=>simp only[b4,kg,fw (λs Q=>h s (.inl Q)),fw (λs Q=>h s (.inr Q))]
 case oe n s x i=>simp only[b4,kg,fw (λs Q=>h s (.inl Q)),fw (λs Q=>h s (.inr Q))]
 case idxs x i=>simp only[b4,kg,fw (λs Q=>h s (.inl Q)),fw (λs Q=>h s (.inr Q))]
 case q6 s x a b c =>
  have E:=fw (λs Q=>h s (.inl (.inl (.inl Q))));have H:=BE (λs Q=>h s (.inl (.inl (.inr Q))));have ab:=BE (λs Q=>h s (.inl (.inr Q)));have aM:=BE (λs Q=>h s (.inr Q))
  cases b<;>cases c<;>simp only[jo,ZD,cb] at ab aM<;>simp only[b4,kg,jo,ZD,E,H,ab,aM]
 case r5 n s x a b c =>
  have E:=fw (λs Q=>h s (.inl (.inl (.inl Q))));have H:=BE (λs Q=>h s (.inl (.inl (.inr Q))));have ab:=BE (λs Q=>h s (.inl (.inr Q)))
  cases c<;>simp only[b4,kg,E,H,ab]
 case Bm x a b=>simp only[b4,kg,fw (λs Q=>h s (.inl (.inl Q))),BE (λs Q=>h s (.inl (.inr Q))),BE (λs Q=>h s (.inr Q))]
 case ext i x=>simp only[b4,kg,fw h]
 case len x=>simp only[b4,kg,fw h]
 case lens x=>simp only[b4,kg,fw h]
 case app k z b s x=>simp only[b4,fw (λs Q=>h s (.inl Q)),fw (λs Q=>h s (.inr Q))]
 case q7 s d x=>simp only[b4,fw (λs Q=>h s (.inl Q)),fw (λs Q=>h s (.inr Q))]
 case iw o x y=>simp only[b4,kg,fw (λs Q=>h s (.inl Q)),fw (λs Q=>h s (.inr Q))]
 case call=>rfl
 case nf=>rfl
 case lG=>rfl
 case lH=>rfl
 case tn f l=>simp only[b4,kg,map_congr h]
 case bad=>rfl
theorem ZE {mem:Mem}{tm tm':Nat->M}{op:jG}(h:∀s∈wb op,tm s=tm' s):iU T mem tm op=iU T mem tm' op:=by
 cases op
 case call f l =>
  have:=ZC (l:=l) (tm:=tm) (tm':=tm') (by simpa [wb] using h);simp only[iU,this]
 case nf k sz f l =>
  have:=ZC (l:=l) (tm:=tm) (tm':=tm') (by simpa [wb] using h);simp only[iU,this]
 case lG=>rfl
 case py=>rfl
 case lH bG f l =>
  have:=map_congr (l:=l) (tm:=tm) (tm':=tm') (by simpa [wb] using h);simp only[iU,this]
 all_goals exact akT (mem:=mem) h
theorem ZF {tm tm':Nat->M}{op:jG}(h:∀s∈wb op,tm s=tm' s):dO tm op=dO tm' op:=by
 cases op<;>simp only[wb,jK] at h<;>try rfl
 case e1 k o z sz len cW=>cases o<;>rfl
 case load n dC x=>simp only[dO,fw h]
 case r5 n s x a b c=>simp only[dO,fw (λs Q=>h s (.inl (.inl (.inl Q))))]
 case store n x v=>simp only[dO,fw (λs Q=>h s (.inl Q))]
 case app k z b s x=>simp only[dO,fw (λs Q=>h s (.inl Q)),fw (λs Q=>h s (.inr Q))]
 case q7 s d x=>simp only[dO,fw (λs Q=>h s (.inl Q)),fw (λs Q=>h s (.inr Q))]
 case lH bG f l=>simp only[dO,map_congr h]
theorem akU {n:Nat}{m:M}{aH:Key->Prop}(h:∀x∈DF n m,aH x.key):∀j∈keyOf m,aH j:=by
 cases m<;>simp_all [DF,keyOf,oh.key]
theorem ZG {mem mem':Mem}{sz:Nat}{m:M}(h:∀k∈keyOf m,mem k=mem' k):pC mem sz m=pC mem' sz m:=by
 cases m<;>try rfl
 case I d=>cases d<;>rfl
 simp only[pC];rw[h _ (by simp[keyOf])]
theorem akV {mem mem':Mem}{k:Key}{z:List M}{b:Nat}{m:M}{row:Option (Nat×List M)}(J:mem k=mem' k)(h:∀j∈keyOf m,mem j=mem' j):qo mem k z b m row=qo mem' k z b m row:=by
 cases m<;>cases row<;>try rfl
 ·simp only[qo,bY,J]
 ·simp only[qo];rw[h _ (by simp[keyOf])]
theorem akW {mem mem':Mem}{sz:Nat}{m:M}{row:Option (Nat×List M)}(h:∀j∈keyOf m,mem j=mem' j):uN mem sz m row=uN mem' sz m row:=by
 cases m<;>cases row<;>try rfl
 simp only[uN];rw[h _ (by simp[keyOf])]
theorem akX {mem mem':Mem}{n:Nat}{dC:Bool}{m:M}(h:∀j∈keyOf m,mem j=mem' j):pB mem n dC m=pB mem' n dC m:=by
 cases m<;>try rfl
 case I d=>cases d<;>rfl
 simp only[pB];rw[h _ (by simp[keyOf])]
theorem akY {mem mem':Mem}{n:Nat}{m:M}{v:List M}(h:∀j∈keyOf m,mem j=mem' j):v7 mem n m v=v7 mem' n m v:=by
 cases m<;>try rfl
 simp only[v7];rw[h _ (by simp[keyOf])]
theorem akZ {mem mem':Mem}{n s a b:Nat}{m:M}(h:∀j∈keyOf m,mem j=mem' j):zx mem n s a b m=zx mem' n s a b m:=by
 cases m<;>try rfl
 simp only[zx];rw[h _ (by simp[keyOf])]
theorem ak0 {mem mem':Mem}{tm:Nat->M}{op:jG}(h:∀x∈dO tm op,mem x.key=mem' x.key):b4 mem tm op=b4 mem' tm op:=by
 have D7:∀k,mem k=mem' k->bY mem k=bY mem' k:=λk J=>by simp only[bY,J]
 cases op<;>try rfl
 case alloc k z=>simp only[b4,D7 k (h (.ic k) (by simp[dO]))]
 case box k x=>simp only[b4,D7 k (h (.ic k) (by simp[dO]))]
 case e1 k o z sz len cW =>
  cases o
  ·rfl
  ·simp only[b4,D7 k (h (.ic k) (by simp[dO]))]
 case lF k z b x y=>simp only[b4,D7 k (h (.ic k) (by simp[dO]))]
 case load n dC x =>
  simp only[b4];rw[akX (akU (aH:=λj=>mem j=mem' j) h)]
 case r5 n s x a b c =>
  cases c
  ·simp only[b4]
   congr 2
   funext l
   congr 1
   funext aS
   exact akZ λj ai=>h (.ic j) (by simp[dO,ai])
  ·rfl
 case store n x v =>
  simp only[b4];exact akY λj ai=>h (.ic j) (by simp[dO,ai])
 case app k z b s x =>
  have b2:∀j,j=k\/j∈keyOf (aZ tm s)\/j∈keyOf (aZ tm x)->mem j=mem' j:=λj ai=>h (.ic j) (by simpa [dO] using ai);simp only[b4,ZG (sz:=D z) (λj ai=>b2 j (.inr (.inr ai)))];exact akV (b2 k (.inl rfl)) λj ai=>b2 j (.inr (.inl ai))
 case q7 s d x =>
  have b2:∀j,j∈keyOf (aZ tm d)\/j∈keyOf (aZ tm x)->mem j=mem' j:=λj ai=>h (.ic j) (by simpa [dO] using ai);simp only[b4,ZG (sz:=s) (λj ai=>b2 j (.inr ai))];exact akW λj ai=>b2 j (.inl ai)
theorem ZH {mem mem':Mem}{tm:Nat->M}{op:jG}(G:∀bG f l,op ≠ .lH bG f l)(h:∀x∈dO tm op,mem x.key=mem' x.key):iU T mem tm op=iU T mem' tm op:=by
 cases op
 case call=>rfl
 case nf k sz f l =>
  have:bY mem k=bY mem' k:=by
   have:=h (.ic k) (by simp[dO]);simp only[oh.key] at this;simp only[bY,this]
  simp only[iU,this]
 case lH bG f l=>exact absurd rfl (G bG f l)
 case lG=>rfl
 case py=>rfl
 all_goals exact ak0 (mem:=mem) (mem':=mem') (tm:=tm) h
theorem Lw {x:Option M}{m:M}{e:Option (Key×Nat×List M)}(h:iI x=some (m,e)):e=none:=(Zo h).2
theorem ak1 {mem:Mem}{tm:Nat->M}{op:jG}{m:M}{e:Option (Key×Nat×List M)}(h:b4 mem tm op=some (m,e)):e=none\/(jl op=true/\∃k g cs,e=some (k,g,cs) /\ .ic k∈dO tm op):=by
 cases op<;>try (first|exact .inl (Lw h)|exact .inl (Lw (x:=some _) h))
 case alloc k z =>
  simp only[b4,cb,fu] at h;exact .inr ⟨rfl,_,_,_,h.2.symm,by simp[dO]⟩
 case box k x =>
  simp only[b4] at h
  split at h<;>simp only[cb,fu,reduceCtorEq] at h
  exact .inr ⟨rfl,_,_,_,h.2.symm,by simp[dO]⟩
 case e1 k o z sz len cW =>
  cases o
  ·exact .inl (Lw h)
  ·simp only[b4,DD] at h
   (repeat' split at h)<;>simp only[cb,fu,reduceCtorEq] at h
   exact .inr ⟨rfl,_,_,_,h.2.symm,by simp[dO]⟩
 case lF k z b x y =>
  obtain⟨_,_,_,_,h⟩:=Zp h;simp only[DE] at h
  split at h<;>simp only[cb,fu,reduceCtorEq] at h
  exact .inr ⟨rfl,_,_,_,h.2.symm,by simp[dO]⟩
 case r5 n s x a b c =>
  cases c
  ·exact .inl (Lw h)
  ·cases h
 case store n x v =>
  simp only[b4] at h
  cases O:aZ tm x<;>rw[O] at h<;>simp only[v7,reduceCtorEq] at h
  simp only[Hw] at h
  (repeat' split at h)<;>simp only[cb,fu,reduceCtorEq] at h
  exact .inr ⟨rfl,_,_,_,h.2.symm,by simp[dO,O,keyOf]⟩
 case app k z b s x =>
  simp only[b4] at h
  cases Y:pC mem (D z) (aZ tm x)<;>cases Q:aZ tm s<;>rw[Y,Q] at h<;>simp only[qo,reduceCtorEq] at h
  ·split at h<;>simp only[cb,fu,reduceCtorEq] at h
   exact .inr ⟨rfl,_,_,_,h.2.symm,by simp[dO]⟩
  ·simp only[l5] at h
   (repeat' split at h)<;>simp only[cb,fu,reduceCtorEq] at h
   exact .inr ⟨rfl,_,_,_,h.2.symm,by simp[dO,Q,keyOf]⟩
 case q7 s d x =>
  simp only[b4] at h
  cases Y:pC mem s (aZ tm x)<;>cases Q:aZ tm d<;>rw[Y,Q] at h<;>simp only[uN,reduceCtorEq] at h
  simp only[zy] at h
  (repeat' split at h)<;>simp only[cb,fu,reduceCtorEq] at h
  exact .inr ⟨rfl,_,_,_,h.2.symm,by simp[dO,Q,keyOf]⟩
 all_goals cases h
theorem ZI {bG:Nat}{mem:Mem}{ms:List M}{x:Option gT}{m:M}{e:Option (Key×Nat×List M)}(h:DG bG mem ms x=some (m,e)):
  ∃r k g i c cs,x=some (.eP r k g i c)/\mem k=some (g,cs)/\m=.I r/\e=some (k,g,cs.set i c)/\Hx bG ms=[.wr k i]:=by
 unfold DG at h
 split at h
 ·rename_i k g off rest r k' dh i c
  split at h
  ·rename_i BF cs hm
   split at h
   ·rename_i G;obtain⟨rfl,rfl,rfl⟩:=G;simp only[cb,fu] at h;exact⟨r,_,_,_,c,cs,rfl,hm,h.1.symm,h.2.symm,rfl⟩
   ·cases h
  ·cases h
 ·cases h
theorem Qp {mem:Mem}{tm:Nat->M}{op:jG}{m:M}{e:Option (Key×Nat×List M)}(h:iU T mem tm op=some (m,e)):e=none\/(jl op=true/\∃k g cs,e=some (k,g,cs)/\(.ic k∈dO tm op\/∃i c si,dO tm op=[.wr k i]/\mem k=some (g,si)/\cs=si.set i c)):=by
 have pl:b4 mem tm op=some (m,e)->e=none\/(jl op=true/\∃k g cs,e=some (k,g,cs)/\(.ic k∈dO tm op\/∃i c si,dO tm op=[.wr k i]/\mem k=some (g,si)/\cs=si.set i c)):=λh=>by
  rcases ak1 h with h|⟨E,k,g,cs,H,ab⟩
  ·exact .inl h
  ·exact .inr ⟨E,k,g,cs,H,.inl ab⟩
 cases op
 case call f l =>
  simp only[iU] at h
  split at h<;>simp only[cb,fu,reduceCtorEq] at h
  ·exact .inl h.2.symm
  ·exact .inl h.2.symm
 case nf k sz f l =>
  simp only[iU] at h
  (repeat' split at h)<;>simp only[cb,fu,reduceCtorEq] at h
  exact .inr ⟨rfl,_,_,_,h.2.symm,.inl (by simp[dO])⟩
 case lG=>cases h
 case py=>cases h
 case lH bG f l =>
  obtain⟨r,k,g,i,c,cs,-,hm,-,he,aJ⟩:=ZI h;exact .inr ⟨rfl,k,g,_,he,.inr ⟨i,c,cs,aJ,hm,rfl⟩⟩
 all_goals exact pl h
theorem ak2 {tm:Nat->M}{op:jG}{b:oh}(ae:b∈dO tm op):(∃k,b=.ic k)\/(∃n dC x k g off,op=.load n dC x/\aZ tm x=.ptr k g off/\b=.rd k off (off+n))\/∃bG f l,op=.lH bG f l:=by
 cases op
 case load n dC x =>
  simp only[dO] at ae
  cases O:aZ tm x<;>rw[O] at ae<;>simp[DF] at ae
  ·exact .inl ⟨_,ae⟩
  ·exact .inr (.inl ⟨_,_,_,_,_,_,rfl,O,ae⟩)
 case lH bG f l=>exact .inr (.inr ⟨_,_,_,rfl⟩)
 case e1 k o z sz len cW =>
  cases o<;>simp[dO] at ae;exact .inl ⟨_,ae⟩
 all_goals
  simp[dO] at ae
  try first
   |exact .inl ⟨_,ae⟩
   |(rcases ae with ⟨k,_,h⟩|⟨k,_,h⟩<;>exact .inl ⟨k,h.symm⟩)
   |(rcases ae with h|⟨k,_,h⟩|⟨k,_,h⟩<;>first|exact .inl ⟨_,h⟩|exact .inl ⟨_,h.symm⟩)
   |(obtain⟨k,_,h⟩:=ae;exact .inl ⟨k,h.symm⟩)
theorem ak3 {cs:List M}{i off n:Nat}{c:M}(h:i<off\/off+n<=i):cut (cs.set i c) off n=cut cs off n:=by
 unfold cut;rw[List.length_set]
 split
 ·congr 1
  rcases h with h|h
  ·rw[sj h]
  ·by_cases L:i<off
   ·rw[sj L]
   ·rw[List.drop_set,aa L,List.take_set_of_le (by omega)]
 ·rfl
theorem ak4 {mem:Mem}{k g i:Nat}{c:M}{cs:List M}{n:Nat}{dC:Bool}{k' dh off:Nat}(hm:mem k=some (g,cs))(h:k'≠k\/i<off\/off+n<=i):
  pB (a3 mem k g (cs.set i c)) n dC (.ptr k' dh off)=pB mem n dC (.ptr k' dh off):=by
 by_cases J:k'=k
 ·subst J;have h:=h.resolve_left (λh=>h rfl);simp only[pB,a3,if_true,hm,ak3 h]
 ·simp only[pB,a3,J,if_false]
theorem ZJ {mem:Mem}{tm:Nat->M}{x y:jG}{m:M}{e:Option (Key×Nat×List M)}(ak5:iU T mem tm x=some (m,e))(a1:qs (jl x,dO tm x) (jl y,dO tm y)=true):iU T (ix mem e) tm y=iU T mem tm y:=by
 rcases Qp ak5 with rfl|⟨hw,k,g,cs,rfl,J⟩
 ·rfl
 ·have ef:∀a∈dO tm x,∀b∈dO tm y,qq a b=true:=by
   unfold qs at a1
   simpa [hw] using a1
  have ak6:∀bG f l,y=.lH bG f l->dO tm y=[]:=by
   rintro bG f l rfl
   cases ae:dO tm (.lH bG f l) with
   |nil=>rfl
   |cons b r =>
    exfalso
    have lK:∃k' a6,b=.wr k' a6:=by
     simp only[dO] at ae;unfold Hx at ae
     split at ae
     ·cases ae;exact⟨_,_,rfl⟩
     ·cases ae
    obtain⟨k',a6,rfl⟩:=lK;have hm:oh.wr k' a6∈dO tm (.lH bG f l):=by rw[ae];exact hv
    rcases J with J|⟨i,c,si,aJ,_,_⟩
    ·have:=ef _ J _ hm;simp[qq] at this
    ·have:=ef (.wr k i) (by rw[aJ];exact hv) _ hm;simp[qq] at this
  by_cases ao:∃bG f l,y=.lH bG f l
  ·obtain⟨bG,f,l,rfl⟩:=ao;have ak:=ak6 _ _ _ rfl;simp only[dO] at ak
   have aQ:∀mem' iW,DG bG mem' (l.map (aZ tm)) iW=none:=by
    intro mem' iW;unfold DG
    split
    ·rename_i heq;rw[heq] at ak;simp[Hx] at ak
    ·rfl
   simp only[iU,aQ]
  ·have G:∀bG f l,y ≠ .lH bG f l:=λbG f l h=>ao ⟨bG,f,l,h⟩;rcases J with J|⟨i,c,si,aJ,hm,rfl⟩
   ·refine (ZH G λb ae=>?_).symm;have E:=ef _ J b ae
    have:b.key≠k:=by
     rintro rfl
     cases b<;>simp[qq,oh.key] at E
    simp[ix,a3,this]
   ·have E:=ef (.wr k i) (by rw[aJ];exact hv)
    by_cases au:∃n dC z k' dh off,y=.load n dC z/\aZ tm z=.ptr k' dh off
    ·obtain⟨n,dC,z,k',dh,off,rfl,aQ⟩:=au;have H:=E (.rd k' off (off+n)) (by simp[dO,aQ,DF]);simp only[iU,b4,aQ,ix];rw[ak4 hm];simp[qq] at H;exact H
    ·refine (ZH G λb ae=>?_).symm
     exfalso
     rcases ak2 ae with ⟨k',rfl⟩|⟨n,dC,z,k',dh,off,ab,aM,_⟩|⟨bG,f,l,ab⟩
     ·have:=E _ ae;simp[qq] at this
     ·exact au ⟨n,dC,z,k',dh,off,ab,aM⟩
     ·exact G _ _ _ ab
theorem ZK {tm:Nat->M}{op:jG}(h:q9 op=0):dO tm op=[]/\jl op=false:=by
 cases op<;>simp_all [q9,jl,dO]
 all_goals (rename_i b _ _ _ _;cases b<;>simp_all [jl,dO])
theorem ZL {op:jG}(h:q9 op=1):jl op=false:=by
 cases op<;>simp_all [q9,jl]
 all_goals (rename_i b _ _ _ _;cases b<;>simp_all [jl])
end Go.Mini
namespace Go.Mini
open Go
variable {T:bk} {jr:Nat->Nat->Bool}
def wv (T:bk)(jr:Nat->Nat->Bool)(i:Nat)(x:cG)(rec:Rec)(st:a2)(x9:Rec)(dx:a2):Prop :=
 (og st.tm x.g=some false/\x9=rec/\dx=⟨put st.tm x.dst .no,st.mem⟩) \/
 (og st.tm x.g=some true/\∃m e,iU T st.mem st.tm x.op=some (m,e)/\(∀p q,jr p i=true->rec p=some q->qs q (jl x.op,dO st.tm x.op)=true) /\
  x9=tq rec i (jl x.op,dO st.tm x.op)/\dx=⟨put st.tm x.dst m,ix st.mem e⟩)
theorem uZ {tm:Nat->M}{dst:Option Nat}{m:M}{s:Nat}(h:dst≠some s):put tm dst m s=tm s:=by
 cases dst with
 |none=>rfl
 |some d =>
  have:s≠d:=λe=>h (by rw[e]);simp[put,this]
theorem put_comm {tm:Nat->M}{d wo:Option Nat}{m m':M}(h:∀s,d=some s->wo≠some s):put (put tm d m) wo m'=put (put tm wo m') d m:=by
 funext s
 by_cases E:d=some s
 ·rw[uZ (h s E)];subst E;simp[put]
 ·rw[uZ (dst:=d) E]
  by_cases H:wo=some s
  ·subst H;simp[put]
  ·rw[uZ H,uZ H,uZ E]
theorem ZM {tm tm':Nat->M}{g:Option (Nat×Bool)}(h:∀s b,g=some (s,b)->tm s=tm' s):og tm g=og tm' g:=by
 cases g with
 |none=>rfl
 |some p =>
  obtain⟨s,b⟩:=p;simp only[og,h s b rfl]
theorem ZN {x y:cG}(h:wc x y=true):(∀d,x.dst=some d->d ∉ zC y)/\(∀d,x.dst=some d->y.dst≠some d)/\(∀d,y.dst=some d->d ∉ zC x):=by
 refine⟨λd X=>?_,λd X=>?_,λd X=>?_⟩<;>simp[wc,X] at h
 ·exact h.1.1
 ·exact h.1.2
 ·exact h.2
theorem Lx {x:cG}{s:Nat}(h:s∈wb x.op):s∈zC x:=by simp[zC,h]
theorem ZO {x:cG}{s:Nat}{b:Bool}(h:x.g=some (s,b)):s∈zC x:=by simp[zC,h]
theorem ak7 (a b:oh):qq a b=qq b a:=by
 have G:∀k k':Nat,(k==k')=(k'==k):=λk k'=>BEq.comm
 cases a<;>cases b<;>first|rfl|(unfold qq;dsimp only;rw[G])
theorem ZP {a b:Bool×List oh}(h:qs a b=true):qs b a=true:=by
 unfold qs at *;simp only[qz,Bool.not_eq_true',Bool.or_eq_false_iff,oj] at *;rcases h with ⟨E,H⟩|h
 ·exact .inl ⟨H,E⟩
 ·exact .inr λx O y ao=>by rw[ak7];exact h y ao x O
theorem ak8 {mem:Mem}{e e':Option (Key×Nat×List M)}(h:∀j g cs mC dh nM,e=some (j,g,cs)->e'=some (mC,dh,nM)->j≠mC):ix (ix mem e) e'=ix (ix mem e') e:=by
 cases e with
 |none=>rfl
 |some p =>
  cases e' with
  |none=>rfl
  |some oT =>
   obtain⟨j,g,cs⟩:=p;obtain⟨mC,dh,nM⟩:=oT;have bN:=h _ _ _ _ _ _ rfl rfl
   funext k
   simp only[ix,a3]
   by_cases E:k=mC
   ·by_cases H:k=j
    ·exact absurd (H.symm.trans E) bN
    ·simp[E,H];intro ab;exact absurd ab.symm bN
   ·simp[E]
def Passes (jr:Nat->Nat->Bool)(i j:Nat)(x y:cG):Prop:=jr i j=true\/xZ (q9 x.op) (q9 y.op)=true
theorem ak9 {i j:Nat}{x y:cG}{tm:Nat->M}(h:Passes jr i j x y)(G:jr i j=true->qs (jl x.op,dO tm x.op) (jl y.op,dO tm y.op)=true):
  qs (jl x.op,dO tm x.op) (jl y.op,dO tm y.op)=true:=by
 rcases h with h|h
 ·exact G h
 ·unfold xZ at h;simp only[qz,e3,beq_iff_eq] at h;rcases h with (h|h)|⟨E,H⟩
  ·obtain⟨E,H⟩:=ZK (tm:=tm) h;simp[qs,E]
  ·obtain⟨E,H⟩:=ZK (tm:=tm) h;simp[qs,E]
  ·have E:=ZL E;have H:=ZL H;simp[qs,E,H]
theorem wv.comm {i j:Nat}{x y:cG}{rec qA Ly:Rec}{st qB Lz:a2}(lO:i≠j)(di:wc x y=true)(aB:Passes jr i j x y)(Qq:∀a b,jr a b=jr b a)(hZ:rec i=none)
  (E:wv T jr i x rec st qA qB) (H:wv T jr j y qA qB Ly Lz):∃HQ HR,wv T jr j y rec st HQ HR/\wv T jr i x HQ HR Ly Lz:=by
 obtain⟨a1,ae,G⟩:=ZN di
 -- what one sees of the other's temporary: nothing
 have ala:∀m,og (put st.tm x.dst m) y.g=og st.tm y.g:=λm=>ZM λs b Q=>uZ λX=>a1 s X (ZO Q);have alb:∀mem m,iU T mem (put st.tm x.dst m) y.op=iU T mem st.tm y.op:=λmem m=>ZE λs Q=>uZ λX=>a1 s X (Lx Q);have alc:∀m,dO (put st.tm x.dst m) y.op=dO st.tm y.op:=λm=>ZF λs Q=>uZ λX=>a1 s X (Lx Q);have LA:∀m,og (put st.tm y.dst m) x.g=og st.tm x.g:=λm=>ZM λs b Q=>uZ λX=>G s X (ZO Q);have ZQ:∀mem m,iU T mem (put st.tm y.dst m) x.op=iU T mem st.tm x.op:=λmem m=>ZE λs Q=>uZ λX=>G s X (Lx Q);have LB:∀m,dO (put st.tm y.dst m) x.op=dO st.tm x.op:=λm=>ZF λs Q=>uZ λX=>G s X (Lx Q);have la:∀m m',put (put st.tm x.dst m) y.dst m'=put (put st.tm y.dst m') x.dst m:=λm m'=>put_comm ae;rcases E with ⟨cF,rfl,rfl⟩|⟨cF,dG,aw,s1,aD,rfl,rfl⟩<;>rcases H with ⟨cQ,rfl,rfl⟩|⟨cQ,cn,aC,s2,c2,rfl,rfl⟩<;>simp only[ala,alb,alc] at *
 ·exact⟨_,_,.inl ⟨cQ,rfl,rfl⟩,.inl ⟨by simp only[LA];exact cF,rfl,by simp only[la]⟩⟩
 ·exact⟨_,_,.inr ⟨cQ,cn,aC,s2,c2,rfl,rfl⟩,.inl ⟨by simp only[LA];exact cF,rfl,by simp only[la]⟩⟩
 ·exact⟨_,_,.inl ⟨cQ,rfl,rfl⟩,.inr ⟨by simp only[LA];exact cF,dG,aw,by simp only[ZQ];exact s1,by simp only[LB];exact aD,by simp only[LB],by simp only[la]⟩⟩
 ·have ZR:jr i j=true->qs (jl x.op,dO st.tm x.op) (jl y.op,dO st.tm y.op)=true:=λh=>c2 i _ h (by simp[tq]);have zO:=ak9 (tm:=st.tm) aB ZR;have Qr:iU T st.mem st.tm y.op=some (cn,aC):=by rw[<-s2];exact (ZJ s1 zO).symm
  have gA:∀j g cs mC dh nM,aw=some (j,g,cs)->aC=some (mC,dh,nM)->j≠mC:=by
   rintro k g cs k' dh nM rfl rfl rfl;rcases Qp s1 with h|⟨hw,dc,cQ,wx,h,E⟩
   ·cases h
   ·cases h;rcases Qp Qr with h|⟨ZS,dV,h0,aA2,h,H⟩
    ·cases h
    ·cases h;unfold qs at zO;simp only[hw,Bool.true_or,Bool.not_true,Bool.false_or,oj] at zO;rcases E with E|⟨i,c,si,E,_,_⟩<;>rcases H with H|⟨a6,c',aA3,H,_,_⟩
     ·have:=zO _ E _ H;simp[qq] at this
     ·have:=zO _ E (.wr k a6) (by rw[H];exact hv);simp[qq] at this
     ·have:=zO (.wr k i) (by rw[E];exact hv) _ H;simp[qq] at this
     ·have:=zO (.wr k i) (by rw[E];exact hv) (.wr k a6) (by rw[H];exact hv);simp[qq] at this
  refine⟨_,_,.inr ⟨cQ,cn,aC,Qr,λp q LC bd=>?_,rfl,rfl⟩,.inr ⟨by simp only[LA];exact cF,dG,aw,?_,?_,?_,?_⟩⟩
  ·have bN:p≠i:=λh=>by rw[h,hZ] at bd;cases bd
   exact c2 p q LC (by simp[tq,bN,bd])
  ·simp only[ZQ];rw[<-s1];exact ZJ Qr (ZP zO)
  ·simp only[LB];intro p q ya bd
   by_cases LC:p=j
   ·subst LC;simp only[tq,if_true,cb] at bd;subst bd;exact ZP (ZR (by rw[Qq];exact ya))
   ·simp only[tq,LC,if_false] at bd;exact aD p q ya bd
  ·simp only[LB]
   funext p
   simp only[tq]
   by_cases E:p=i
   ·subst E;simp[lO]
   ·simp[E]
  ·simp only[la];rw[ak8 gA]
end Go.Mini
namespace Go.Mini
open Go
variable {T:bk} {jr:Nat->Nat->Bool} {ops:Array Oper} {l:List cG} {K:a2->Prop}
def D8 (T:bk)(jr:Nat->Nat->Bool)(ops:Array Oper)(l:List cG)(K:a2->Prop):Nat->Array Bool->Rec->a2->Prop
 |0,ep,_,st=>Region.ready .any ops ep=[]/\K st
 |fuel+1,ep,rec,st=>(Region.ready .any ops ep=[]->K st) /\
  ∀i∈Region.ready .any ops ep,∃x x9 dx,l[i]?=some x/\wv T jr i x rec st x9 dx/\D8 T jr ops l K fuel (ep.setIfInBounds i true) x9 dx
def zP (ops:Array Oper)(ep:Array Bool):Prop :=
 ep.size=ops.size/\∀(j:Nat) (o:Oper),ops[j]?=some o->ep.getD j false=true->∀e∈o.after,Region.binds .any e=true->ep.getD e.on false=true
theorem zP.set {ep:Array Bool}{i:Nat}(h:zP ops ep)(L:i∈Region.ready .any ops ep):zP ops (ep.setIfInBounds i true):=by
 refine⟨by simp[h.1],λj o ai au e he ae=>?_⟩
 by_cases j1:j=i
 ·subst j1;obtain⟨_,HS,bx,ef⟩:=mem_ready.1 L;rw[ai] at bx
  cases bx;exact getD_set_true (ef e he ae)
 ·rw[getD_set_ne false (Ne.symm j1)] at au;exact getD_set_true (h.2 j o ai au e he ae)
def Qs (jr:Nat->Nat->Bool)(ops:Array Oper)(l:List cG):Prop :=
 ∀(i j:Nat) (x y:cG),i≠j->l[i]?=some x->l[j]?=some y ->
  (∀ep,zP ops ep->i∈Region.ready .any ops ep->j∈Region.ready .any ops ep->False)\/(wc x y=true/\Passes jr i j x y)
theorem ZT {i k:Nat}{x:cG}{rec x9:Rec}{st dx:a2}(h:wv T jr i x rec st x9 dx)(J:k≠i):x9 k=rec k:=by
 rcases h with ⟨_,rfl,_⟩|⟨_,_,_,_,_,rfl,_⟩
 ·rfl
 ·simp[tq,J]
theorem ald {ep:Array Bool}{i k:Nat}(h:(ep.setIfInBounds i true).getD k true=false):k≠i/\ep.getD k true=false:=by
 by_cases sk:i=k
 ·subst sk
  exfalso
  by_cases aq:i<ep.size
  ·simp[aq] at h
  ·have:(ep.setIfInBounds i true).size<=i:=by simp;omega
   rw[Array.getD_eq_getD_getElem?,Array.getElem?_eq_none this] at h;simp at h
 ·rw[getD_set_ne true sk] at h;exact⟨λb2=>sk b2.symm,h⟩
theorem ale (aB:Qs jr ops l)(Qq:∀a b,jr a b=jr b a){i:Nat}{x:cG}(L:l[i]?=some x):∀(fuel:Nat) (ep:Array Bool) (rec:Rec) (st:a2) (qA:Rec) (qB:a2),
  zP ops ep->(∀k,ep.getD k true=false->rec k=none)->i∈Region.ready .any ops ep->wv T jr i x rec st qA qB ->
  D8 T jr ops l K fuel (ep.setIfInBounds i true) qA qB->D8 T jr ops l K (fuel+1) ep rec st:=by
 intro fuel
 induction fuel with
 |zero =>
  intro ep rec st qA qB eb zQ Y he hx;refine⟨λh=>(by rw[h] at Y;cases Y),λj ai=>?_⟩
  by_cases j1:j=i
  ·subst j1;exact⟨x,qA,qB,L,he,hx⟩
  ·have:=ready_mono ai j1;rw[hx.1] at this
   cases this
 |succ fuel ay =>
  intro ep rec st qA qB eb zQ Y he hx;refine⟨λh=>(by rw[h] at Y;cases Y),λj ai=>?_⟩
  by_cases j1:j=i
  ·subst j1;exact⟨x,qA,qB,L,he,hx⟩
  ·obtain⟨y,Ly,Lz,ao,iA,du⟩:=hx.2 j (ready_mono ai j1);rcases aB i j x y (Ne.symm j1) L ao with ie|⟨di,alf⟩
   ·exact (ie ep eb Y ai).elim
   ·obtain⟨HQ,HR,E,H⟩:=wv.comm (Ne.symm j1) di alf Qq (zQ i (mem_ready.1 Y).1) he iA;refine⟨y,HQ,HR,ao,E,ay _ HQ HR Ly Lz (eb.set ai) (λk J=>?_) (ready_mono Y (Ne.symm j1)) H ?_⟩
    ·obtain⟨ab,aM⟩:=ald J;rw[ZT E ab];exact zQ k aM
    ·rw[Array.setIfInBounds_comm _ _ j1];exact du
theorem Qt:∀(r:List Oper) (acc:List Nat) (k:Nat),k<(D acc)->(pD r acc).getD k 0=acc.getD k 0
 | [],acc,k,_=>rfl
 |o::r,acc,k,J=>by
  simp only[pD];rw[Qt r _ k (by simp;omega)];simp only[dY];rw[re J]
theorem alg {es:List Edge}{acc:List Nat}{i:Nat}:∀(s:Nat),(es.foldl (λs e=>if Region.binds .any e=true then s ||| (2^e.on ||| acc.getD e.on 0) else s) s).testBit i=true ->
  s.testBit i=true\/∃e∈es,Region.binds .any e=true/\(e.on=i\/(acc.getD e.on 0).testBit i=true):=by
 induction es with
 |nil=>exact λs h => .inl h
 |cons e es ay =>
  intro s h;rw[Y6] at h;rcases ay _ h with E|⟨e',E,H⟩
  ·split at E
   ·rename_i ae;rw[ZU,ZU,qz,qz] at E;rcases E with E|E|E
    ·exact .inl E
    ·rw[Nat.testBit_two_pow] at E;exact .inr ⟨e,by simp,ae,.inl (by simpa using E)⟩
    ·exact .inr ⟨e,by simp,ae,.inr E⟩
   ·exact .inl E
  ·exact .inr ⟨e',by simp[E],H⟩
theorem ZV:∀(r:List Oper) (acc:List Nat) (t:Nat) (o:Oper),r[t]?=some o->∀i,((pD r acc).getD (D acc+t) 0).testBit i=true ->
  ∃e∈o.after.toList,Region.binds .any e=true/\(e.on=i\/(e.on<D acc+t/\((pD r acc).getD e.on 0).testBit i=true))
 | [],_,_,_,h,_,_=>by simp at h
 |HS::r,acc,0,o,h,i,ae=>by
  simp at h;subst h;simp only[pD,om] at ae ⊢;rw[Qt r _ _ (by simp)] at ae;simp only[dY] at ae;rw[rf (bP _)] at ae;simp only[mE,HT,BG] at ae;rcases alg (acc:=acc) 0 (by simpa only [dY] using ae) with E|⟨e,E,H,ab⟩
  ·simp at E
  ·refine⟨e,E,H,ab.imp id λh=>?_⟩
   have aq:e.on<D acc:=by
    rcases hV e.on (D acc) with b2|b2
    ·exact b2
    ·rw[dY,lL b2] at h;simp at h
   refine⟨aq,?_⟩;rw[Qt r _ _ (by simp;omega),dY,re aq,<-dY];exact h
 |HS::r,acc,t+1,o,h,i,ae=>by
  have b2:r[t]?=some o:=by simpa using h
  simp only[pD] at ae ⊢
  have:=ZV r (acc++[HS.after.toList.foldl (λs e=>if Region.binds .any e=true then s ||| (2^e.on ||| acc.getD e.on 0) else s) 0]) t o b2 i (by
   rw[hr,List.length_singleton,sa,xT 1 t];exact ae)
  obtain⟨e,E,H,ab⟩:=this;refine⟨e,E,H,ab.imp id λh=>⟨by have:=h.1;simp at this;omega,h.2⟩⟩
theorem alh {ep:Array Bool}(eb:zP ops ep):∀(j:Nat) (o:Oper),ops[j]?=some o->(∀e∈o.after,Region.binds .any e=true->ep.getD e.on false=true) ->
  ∀i,((pD ops.toList []).getD j 0).testBit i=true->ep.getD i false=true:=by
 intro j
 induction j using Nat.strongRecOn with
 |_ j ay =>
  intro o bx ef i L;obtain⟨e,he,ae,h⟩:=ZV ops.toList [] j o (by simpa using bx) i (by simpa using L);have au:=ef e (by simpa using he) ae;rcases h with rfl|⟨aq,ali⟩
  ·exact au
  ·have eU:e.on<ops.size:=by
    rw[<-eb.1];rcases hV e.on ep.size with b2|b2
    ·exact b2
    ·simp[Array.getElem?_eq_none b2] at au
   have ZW:ops[e.on]?=some ops[e.on]:=Array.getElem?_eq_getElem eU;exact ay e.on (by simpa using aq) _ ZW (eb.2 e.on _ ZW au) i ali
theorem ZX:∀(cs pre:List cG) (as:List Nat),DL pre cs as=true->∀(t:Nat) (y:cG),cs[t]?=some y->∀(i:Nat) (x:cG),(pre++cs)[i]?=some x->i<D pre+t ->
  (as.getD t 0).testBit i=true\/wc x y=true
 | [],_,_,_,_,_,h,_,_,_,_=>by simp at h
 |_::_,_,[],h,_,_,_,_,_,_,_=>by simp[DL] at h
 |c::cs,pre,a::as,h,0,y,ao,i,x,O,aq=>by
  simp only[DL,e3,oj] at h;simp at ao;subst ao;have L:i<D pre:=by simpa using aq
  rw[re L] at O;have:=h.1 (x,i) (by rw[ZY];exact O)
  simpa using this
 |c::cs,pre,a::as,h,t+1,y,ao,i,x,O,aq=>by
  simp only[DL,e3] at h;have:=ZX cs (pre++[c]) as h.2 t y (by simpa using ao) i x (by simpa using O) (by simp;omega)
  simpa using this
theorem ZZ:∀(cs pre:List cG) (as:List Nat) (t:Nat) (y:cG),cs[t]?=some y->∀(i:Nat) (x:cG),(pre++cs)[i]?=some x->i<D pre+t ->
  (as.getD t 0).testBit i=true\/xZ (q9 x.op) (q9 y.op)=true\/i∈(x0 pre cs as).getD t []
 | [],_,_,_,_,h,_,_,_,_=>by simp at h
 |c::cs,pre,as,0,y,ao,i,x,O,aq=>by
  simp at ao;subst ao;have L:i<D pre:=by simpa using aq
  rw[re L] at O;have fH:(x,i)∈pre.zipIdx:=by rw[ZY];exact O
  by_cases E:(as.getD 0 0).testBit i=true
  ·exact .inl E
  ·by_cases H:xZ (q9 x.op) (q9 c.op)=true
   ·exact .inr (.inl H)
   ·refine .inr (.inr ?_);simp only[x0,dY,HT,BG];refine List.mem_map.2 ⟨(x,i),List.mem_filter.2 ⟨fH,?_⟩,rfl⟩;have ab:as.headD 0=as.getD 0 0:=by cases as<;>rfl
    simp only[ab];rw[dY] at E;simp[E,H]
 |c::cs,pre,as,t+1,y,ao,i,x,O,aq=>by
  have:=ZZ cs (pre++[c]) as.tail t y (by simpa using ao) i x (by simpa using O) (by simp;omega);have ab:as.tail.getD t 0=as.getD (t+1) 0:=by cases as<;>simp
  rw[ab] at this
  simpa [x0] using this
def u0 (c:List (List Nat))(i j:Nat):Bool:=if i<j then (c.getD j []).contains i else if j<i then (c.getD i []).contains j else false
theorem Z0 (c:List (List Nat))(i j:Nat):u0 c i j=u0 c j i:=by
 unfold u0
 by_cases E:i<j
 ·simp[E,Z1 E]
 ·by_cases H:j<i
  ·simp[H,Z1 H]
  ·simp[E,H]
theorem alj {x y:cG}(h:wc x y=true):wc y x=true:=by
 obtain⟨E,H,ab⟩:=ZN h;unfold wc;rw[e3]
 constructor
 ·cases ao:y.dst with
  |none=>rfl
  |some d =>
   have a:=ab d ao;have b:x.dst≠some d:=λO=>H d O ao;simp[a,b]
 ·cases O:x.dst with
  |none=>rfl
  |some d =>
   have a:=E d O;simp[a]
theorem alk (a b:Nat):xZ a b=xZ b a:=by
 unfold xZ
 cases (a==0)<;>cases (b==0)<;>cases (a==1)<;>cases (b==1)<;>rfl
theorem alm (X:DN ops l=true):Qs (u0 (x0 [] l (pD ops.toList []))) ops l:=by
 have key:∀(i j:Nat) (x y:cG),i<j->l[i]?=some x->l[j]?=some y ->
   (∀ep,zP ops ep->i∈Region.ready .any ops ep->j∈Region.ready .any ops ep->False) \/
   (wc x y=true/\(u0 (x0 [] l (pD ops.toList [])) i j=true\/xZ (q9 x.op) (q9 y.op)=true)):=by
  intro i j x y lO O ao;unfold DN at X;rw[e3] at X
  by_cases ae:((pD ops.toList []).getD j 0).testBit i=true
  ·refine .inl λep eb L ai=>?_;obtain⟨_,o,bx,ef⟩:=mem_ready.1 ai;have E:=alh eb j o bx ef i ae;have ak:=(mem_ready.1 L).1;rcases hV i ep.size with b2|b2
   ·simp[b2] at ak E;rw[ak] at E;cases E
   ·simp[Array.getElem?_eq_none b2] at E
  ·refine .inr ⟨?_,?_⟩
   ·rcases ZX l [] _ X.2 j y ao i x (by simpa using O) (by simpa using lO) with h|h
    ·exact absurd h ae
    ·exact h
   ·rcases ZZ l [] (pD ops.toList []) j y ao i x (by simpa using O) (by simpa using lO) with h|h|h
    ·exact absurd h ae
    ·exact .inr h
    ·exact .inl (by unfold u0;rw[Z lO];exact Z2.2 h)
 intro i j x y lO O ao;rcases Nat.lt_or_gt_of_ne lO with h|h
 ·exact key i j x y h O ao
 ·rcases key j i y x h ao O with E|⟨E,H⟩
  ·exact .inl λep eb L ai=>E ep eb ai L
  ·refine .inr ⟨alj E,?_⟩;rcases H with H|H
   ·exact .inl (by rw[Z0];exact H)
   ·exact .inr (by rw[alk];exact H)
end Go.Mini
namespace Go.Mini
open Go
variable {P:Program} {T:bk} {A:Nat->Prop} {dt w:World} {gW B:eK} {mem:Mem} {n kb:Nat} {own:List Nat} {ops:Array Oper} {l:List cG} {K:a2->Prop} {aH:Exit->Act->World->Prop}
theorem Z3:∀(r:List Oper) (m:Nat),DM m r=true->∀(t:Nat) (o:Oper),r[t]?=some o->∀e∈o.after,Region.binds .any e=true->e.on<m+t
 | [],_,_,_,_,h,_,_,_=>by simp at h
 |HS::r,m,h,0,o,bx,e,he,ae=>by
  simp only[DM,e3] at h;simp at bx;subst bx;have:=(Array.all_eq_true_iff_forall_mem.1 h.1) e he
  simpa [ae] using this
 |HS::r,m,h,t+1,o,bx,e,he,ae=>by
  simp only[DM,e3] at h;have:=Z3 r (m+1) h.2 t o (by simpa using bx) e he ae;omega
theorem Z4 {c:List (List Nat)}(aB:Qs (u0 c) ops l)(au:(D l)=ops.size)(he:DM 0 ops.toList=true):∀(r:List cG) (m:Nat) (rec:Rec) (st:a2) (ep:Array Bool),l.drop m=r->m+D r=(D l) ->
  ep.size=ops.size->(∀i,i<ops.size->ep.getD i true=decide (i<m))->(∀k,m<=k->rec k=none)->uO T K m r (c.drop m) rec st->D8 T (u0 c) ops l K (D r) ep rec st
 | [],m,rec,st,ep,Y,hm,Q,hli,zQ,h=>by
  refine⟨List.eq_nil_iff_forall_not_mem.2 λi L=>?_,h⟩;obtain⟨E,o,bx,_⟩:=mem_ready.1 L;have aq:i<ops.size:=(Array.getElem?_eq_some_iff.1 bx).1;rw[hli i aq] at E;simp at E hm;omega
 |x::r,m,rec,st,ep,Y,hm,Q,hli,zQ,h=>by
  have aq:m<ops.size:=by simp at hm;omega
  have bx:ops[m]?=some ops[m]:=Array.getElem?_eq_getElem aq
  have O:l[m]?=some x:=by
   have:(l.drop m)[0]?=some x:=by rw[Y];rfl
   simpa using this
  have k9:=λ(j:Nat) (o:Oper) (ai:ops[j]?=some o)=>Z3 ops.toList 0 he j o (by simpa using ai)
  have b9:∀i,i<m->ep.getD i false=true:=λi L=>by
   have E:=hli i (by omega);rw[iH L] at E;have H:i<ep.size:=by omega
   simpa [H] using E
  have eb:zP ops ep:=⟨Q,λj o ai ki e rj ae=>by
   have E:=k9 j o ai e rj ae;have tu:j<ops.size:=(Array.getElem?_eq_some_iff.1 ai).1
   have H:j<m:=by
    have:=hli j tu;have ab:j<ep.size:=by omega
    simp[ab] at ki this;rw[ki] at this
    simpa using this.symm
   exact b9 _ (by omega)⟩
  have aln:m∈Region.ready .any ops ep:=mem_ready.2 ⟨by rw[hli m aq];simp,_,bx,λe rj ae=>b9 _ (by have:=k9 m _ bx e rj ae;omega)⟩
  have alo:∀k,ep.getD k true=false->rec k=none:=λk J=>zQ k (by
   rcases hV k ops.size with b2|b2
   ·rw[hli k b2] at J
    simpa using J
   ·omega)
  have next:∀qA qB,wv T (u0 c) m x rec st qA qB->uO T K (m+1) r (c.drop m).tail qA qB->D8 T (u0 c) ops l K (D r+1) ep rec st:=by
   intro qA qB hex J;refine ale aB (Z0 c) O _ ep rec st qA qB eb alo aln hex (Z4 aB au he r (m+1) qA qB _ ?_ (by simp at hm;omega) (by simpa using Q) (λi L=>?_) (λk J=>?_) ?_)
   ·rw[<-D9,Y]
    rfl
   ·by_cases him:m=i
    ·subst him;have:m<ep.size:=by omega
     simp[this]
    ·rw[getD_set_ne true him,hli i L]
     congr 1
     simp;omega
   ·rw[ZT hex (by omega)];exact zQ k (by omega)
   ·rw[List.tail_drop] at J;exact J
  simp only[uO] at h
  split at h
  ·cases h
  ·rename_i g aX
   split at h
   ·rename_i iB;subst iB
    split at h
    ·rename_i b3 e Q;refine next _ _ (.inr ⟨aX,b3,e,Q,λp q nS bd=>?_,rfl,rfl⟩) h.2
     have nP:p<m:=by
      rcases hV p m with b2|b2
      ·exact b2
      ·rw[zQ p b2] at bd;cases bd
     have Qu:=h.1;unfold DH at Qu;rw[oj] at Qu
     have fH:p∈(c.drop m).headD []:=by
      unfold u0 at nS;rw[Z nP] at nS
      have:(c.drop m).headD []=c.getD m []:=by
       rw[List.headD_eq_head?_getD,List.head?_drop,dY]
      rw[this];exact Z2.1 nS
     have:=Qu p fH;rw[bd] at this;exact this
    ·cases h
   ·rename_i alp;have alq:g=false:=by simpa using alp
    subst alq;exact next _ _ (.inl ⟨aX,rfl,rfl⟩) h
theorem Qv (h:fl A w B mem):fl (cj A B) w (λ_=>none) emp :=
 ⟨λ_ _=>rfl,λ_ _ _ _ _ h=>(by cases h),λb _ ⟨_,_,h,_⟩=>(by cases h),λb ae=>ae.elim (λb2=>h.zu b2) (h.lt b),λ_ _ _ h=>(by cases h)⟩
theorem HU (b:Nat):cj (cj A B) (λ_=>none) b↔cj A B b :=
 ⟨λh=>h.elim (fun⟨_,_,h,_⟩=>by cases h) id,.inr⟩
theorem alr {m:M}{v:Value}(h:bo w (cj A B) B m v):bo w (cj (cj A B) λ_=>none) (λ_=>none) (zz m) v:=by
 cases h with
 |I h=>exact .I (h.less λb ae=>(HU b).1 ae)
 |nil=>exact .nil
 |fS au X =>
  rename_i f eZ vs
  cases eZ with
  |nil=>exact .fS au λi d v h=>by simp at h
  |cons c r=>exact .undef
 |agg au X =>
  rename_i cs vs;simp only[zz]
  cases G:cs.mapM Bn with
  |none=>exact .undef
  |some ds =>
   obtain⟨E,H⟩:=nN G;refine .I (.agg (au.trans E.symm) λi d v L aI=>?_);have aq:i<D cs:=by have:=(dK.1 L).1;omega
   have mG:=bs aq;exact (Zd (H i _ d mG L) (X i _ v mG aI)).less λb ae=>(HU b).1 ae
 |_=>exact .undef
theorem shut_list {ms:List M}{vs:List Value}(h:c9 w (cj A B) B ms vs):c9 w (cj (cj A B) λ_=>none) (λ_=>none) (ms.map zz) vs:=by
 refine⟨by simpa using h.1,λi m v hm aI=>?_⟩
 rw[a5,ei] at hm;obtain⟨m',yb,rfl⟩:=hm;exact alr (h.2 i m' v yb aI)
theorem zN.less {w aN:World}{aO oc:Nat->Prop}{sz:Nat}{es:List (List Data)}{v:Value}(au:∀b,oc b->aO b)(h:zN w aN aO sz es v):zN w aN oc sz es v:=by
 obtain⟨E,a,cap,H,ab,aM,bl⟩:=h;refine⟨E,a,cap,H,ab,aM,bl.imp id ?_⟩;rintro⟨b,vs,T,bI,bC,bW,iL,fI⟩;exact⟨b,vs,T,bI,bC,bW,iL,λi d X=>let ⟨u,hu,uX⟩:=fI i d X;⟨u,hu,uX.less λe2 lK=>lK.imp (au e2) id⟩⟩
theorem LD {o:Oper}{c:Call}{f:FuncId}{a:Act}(bx:o.op=.call c)(ot:c.callee=.value (.func f))(oS:Real P f):(execOp a.eval o).run P w=.ok (.enter f (c.args.toList.map a.eval).toArray) w:=by
 obtain⟨dst,op,type,pos,after,guard⟩:=o;simp only at bx;subst bx;obtain⟨callee,x8,Lv⟩:=c;simp only at ot;subst ot;simp only[execOp,resolve,Deferred.ofValue,Act.eval,invoke,Sem.run_bind,Sem.run_pure,Result.andThen_ok,Lu oS];rw[zJ x8];simp
theorem als (cE:qy P T){a:Act}{st:a2}{o:Oper}{i:cG}{m:M}{e:Option (Key×Nat×List M)}(h:hj n A dt gW a st w B)(L:Qm P n kb own ops o i)
  (Q:iU T st.mem st.tm i.op=some (m,e)):o.wp P a w (λjY aN=>∃bq,hj n A dt gW jY ⟨put st.tm i.dst m,ix st.mem e⟩ aN bq) aH:=by
 have nh:=L.op
 have plain:b4 st.mem st.tm i.op=some (m,e)->o.wp P a w (λjY aN=>∃bq,hj n A dt gW jY ⟨put st.tm i.dst m,ix st.mem e⟩ aN bq) aH:=by
  intro Q
  have aU:lJ P kb own o.dst o.type o.op=some i.op:=getD_some nh (by
   intro ae;rw[ae] at Q
   cases Q)
  obtain⟨D7,v,aN,bq,l7,gz,ey,aI⟩:=Zt h.ok.ee h.uY aU Q;unfold Oper.wp;rw[l7,L.dst];have HP:=h.put ey aI L.lt;rcases gz with rfl|⟨rfl,rfl⟩
  ·exact⟨bq,HP⟩
  ·exact⟨bq,HP⟩
 cases yc:i.op with
 |call f args =>
  have aU:lJ P kb own o.dst o.type o.op=some i.op:=getD_some nh (by rw[yc];simp);rw[yc] at aU Q;obtain⟨c,G,ot,pI⟩:=Zy aU;have bX:=shut_list (zI h.uY pI);rw[oU] at bX;simp only[iU] at Q
  split at Q
  ·rename_i r jJ
   cases Q;obtain⟨oS,k9⟩:=cE f _ _ _ jJ;have mI:=k9 (cj A B) w (λ_=>none) _ (Qv h.ok.ee) bX;unfold Oper.wp;rw[LD G ot oS,L.dst];refine Calls.mono mI λe aN he=>?_;obtain⟨v,rfl,bR,X⟩:=he;exact⟨B,h.put (.still h.ok.ee bR) (.I (X.less λb ae=>(HU b).2 ae)) L.lt⟩
  ·rename_i sz es jJ
   cases Q;obtain⟨oS,k9⟩:=cE f _ _ _ jJ;have mI:=k9 (cj A B) w (λ_=>none) _ (Qv h.ok.ee) bX;unfold Oper.wp;rw[LD G ot oS,L.dst];refine Calls.mono mI λe aN he=>?_;obtain⟨v,rfl,bR,X⟩:=he;exact⟨B,h.put (.still h.ok.ee bR) (.I ((X.less λb ae=>(HU b).2 ae).den λb ae=>ae.elim (λb2=>h.ok.ee.zu b2) (h.ok.ee.lt b))) L.lt⟩
  ·cases Q
 |nf k sz f args =>
  have aU:lJ P kb own o.dst o.type o.op=some i.op:=getD_some nh (by rw[yc];simp);rw[yc] at aU Q;obtain⟨c,G,ot,pI⟩:=Zz aU;have bX:=shut_list (zI h.uY pI);rw[oU] at bX;simp only[iU] at Q
  split at Q
  ·rename_i dX es jJ
   split at Q
   ·rename_i eU;subst eU
    cases Q;obtain⟨oS,k9⟩:=cE f _ _ _ jJ;have mI:=k9 (cj A B) w (λ_=>none) _ (Qv h.ok.ee) bX;unfold Oper.wp;rw[LD G ot oS,L.dst];refine Calls.mono mI λe aN he=>?_;obtain⟨v,rfl,bR,X⟩:=he;obtain⟨bq,ey,aI⟩:=Zx k h.ok.ee bR (X.less λb ae=>(HU b).2 ae);exact⟨bq,h.put ey aI L.lt⟩
   ·cases Q
  ·cases Q
 |lH bG f args =>
  have aU:lJ P kb own o.dst o.type o.op=some i.op:=getD_some nh (by rw[yc];simp);rw[yc] at aU Q;obtain⟨c,G,ot,pI⟩:=akL aU;have bX:=zI h.uY pI;simp only[iU] at Q;obtain⟨r,k,g,aA4,cc,cs,jJ,hm,rfl,rfl,aJ⟩:=ZI Q;obtain⟨oS,k9⟩:=cE f _ _ _ jJ;have mI:=k9 A w B _ h.ok.ee bX;unfold Oper.wp;rw[LD G ot oS,L.dst];refine Calls.mono mI λe aN he=>?_;obtain⟨v,bq,rfl,ey,aI⟩:=he;refine⟨bq,?_⟩;have tx:qp st.mem k=cs:=by simp only[qp,hm]
  rw[tx] at ey;exact h.put ey aI L.lt
 |lG f args=>rw[yc] at Q;cases Q
 |py neg x=>rw[yc] at Q;cases Q
 |_=>exact plain (by rw[yc] at Q ⊢;exact Q)
theorem Z5 {α β:Type}{f:α->Option β}{xs:List α}{ys:List β}(h:xs.mapM f=some ys){i:Nat}{x:α}(O:xs[i]?=some x):∃y,ys[i]?=some y/\f x=some y:=by
 obtain⟨E,H⟩:=nN h;have aq:i<D ys:=by rw[E];exact (dK.1 O).1
 exact⟨_,bs aq,H i x _ O (bs aq)⟩
theorem Qw (cE:qy P T){jr:Nat->Nat->Bool}(aU:ops.toList.mapM (zB P n kb own ops)=some l)(fj:∀st a w B,K st->hj n A dt gW a st w B->aH .normal a w):
  ∀(fuel:Nat) (ep:Array Bool) (rec:Rec) (st:a2) (a:Act) (w:World) (B:eK),hj n A dt gW a st w B->D8 T jr ops l K fuel ep rec st->wpAny P .any ops aH fuel ep a w
 |0,_,_,_,_,_,_,Q,h=>⟨h.1,fj _ _ _ _ h.2 Q⟩
 |fuel+1,ep,rec,st,a,w,B,Q,h=>by
  refine⟨λak=>fj _ _ _ _ (h.1 ak) Q,λi L=>?_⟩;obtain⟨x,x9,dx,O,hex,J⟩:=h.2 i L;obtain⟨_,o,bx,_⟩:=mem_ready.1 L;obtain⟨y,ao,Qx⟩:=Z5 aU (i:=i) (x:=o) (by simpa using bx);rw[O] at ao
  cases ao;have wy:=ZA Qx;unfold wpOp;simp only[bx];rcases hex with ⟨aX,rfl,rfl⟩|⟨aX,m,e,alu,_,rfl,rfl⟩
  ·rw[Ql Q wy.guard aX,aa (by simp)];exact Qw cE aU fj fuel _ _ _ _ _ B (by rw[wy.dst];exact Q.put (.refl Q.ok.ee) .no wy.lt) J
  ·rw[Ql Q wy.guard aX,Z rfl];refine .inl (Oper.wp_mono (λjY aN ⟨bq,iz⟩=>Qw cE aU fj fuel _ _ _ _ _ bq iz J) (als cE Q wy alu))
theorem hj.drew {a:Act}{st:a2}(h:hj n A dt gW a st w B)(d:Nat):hj n A dt gW a st { w with drawn:=d } B:=by
 have Q:eG A w B { w with drawn:=d } B st.mem:=.still h.ok.ee ((Fr.refl _ _).drew d);exact⟨h.ok.trans Q,λs=>(h.tm s).q3 Q.mB,h.sz,h.HN⟩
theorem alv (cE:qy P T)(hm:P.follows .mixedOrders=true){id:Nat}{a:Act}{st:a2}(aU:ops.toList.mapM (zB P n kb own ops)=some l)(X:DN ops l=true)(Q:hj n A dt gW a st w B)
  (h:uO T K 0 l (x0 [] l (pD ops.toList [])) (λ_=>none) st) (fj:∀st a w B,K st->hj n A dt gW a st w B->aH .normal a w):(Code.region id ops true).wp P aH a w:=by
 refine wp_region_any hm ?_
 have au:(D l)=ops.size:=by
  rw[(nN aU).1,Array.length_toList]
 have HW:=Z4 (alm X) au (by unfold DN at X;rw[e3] at X;exact X.1) l 0 (λ_=>none) st (Array.replicate ops.size false) rfl (by simp) (by simp) (λi L=>by simp[L]) (λ_ _=>rfl) h;rw[au] at HW;exact Qw cE aU fj ops.size _ _ _ _ _ B (Q.drew _) HW
theorem Qy (cE:qy P T)(aU:ops.toList.mapM (zB P n kb own ops)=some l)(fj:∀st a w B,K st->hj n A dt gW a st w B->aH .normal a w):
  ∀(r:List cG) (m:Nat) (st:a2) (a:Act) (w:World) (B:eK),l.drop m=r->hj n A dt gW a st w B->v8 T K r st->wpOps P ops aH (List.range' m (D r)) a w
 | [],_,_,_,_,_,_,Q,h=>fj _ _ _ _ h Q
 |x::r,m,st,a,w,B,Y,Q,h=>by
  have O:l[m]?=some x:=by
   have:(l.drop m)[0]?=some x:=by rw[Y];rfl
   simpa using this
  have DY:l.drop (m+1)=r:=by rw[<-D9,Y];rfl
  have aq:m<ops.size:=by
   have E:=(nN aU).1;have H:=(dK.1 O).1;simp at E;omega
  have bx:ops[m]?=some ops[m]:=Array.getElem?_eq_getElem aq;obtain⟨y,ao,Qx⟩:=Z5 aU (i:=m) (x:=ops[m]) (by simp);rw[O] at ao
  cases ao;have wy:=ZA Qx;simp only[kf,List.range'_succ];rw[wpOps_cons];unfold wpOp;simp only[bx];simp only[v8] at h
  split at h
  ·cases h
  ·rename_i g aX;rw[Ql Q wy.guard aX]
   cases g with
   |true =>
    simp only[if_true] at h ⊢;exact .inl (Oper.wp_mono (λjY aN ⟨dx,bq,J,iz⟩=>Qy cE aU fj r (m+1) dx jY aN bq DY iz J) (akR cE Q wy h))
   |false =>
    simp only[kh,if_false] at h ⊢;exact Qy cE aU fj r (m+1) _ _ _ B DY (Q.put (.refl Q.ok.ee) .no wy.lt) (by rw[<-wy.dst];exact h)
end Go.Mini
namespace Go.Mini
open Go
variable {A:Nat->Prop} {w:World} {B:eK} {mem:Mem}
theorem Z6 {aO:Nat->Prop}{b off c sz len:Nat}{vs:Array Value}{T:TypeId}{ds:List Data}(aS:w.heap[b]?=some (.cells vs T (0,0)))(fB:¬ aO b)(au:(D ds)=len*sz)(LF:len<=c)(hm:len<=maxLen)(Li:off+len*sz<=vs.size)
  (X:∀(i:Nat) (d:Data) (v:Value),ds[i]?=some d->vs[off+i]?=some v->Den w aO d v):Den w aO (.af (chunk sz len ds)) (.slice (some ⟨b,off,none⟩) len c):=by
 have eb:=Ll sz len ds
 have h:=Den.af (w:=w) (aO:=aO) (es:=chunk sz len ds) (b:=b) (off:=off) (c:=c) (sz:=sz) (λi=>vs.getD (off+i) undef) (by rw[eb];exact LF) (by rw[eb];exact hm)
  (Array.getElem?_eq_some_iff.1 aS).1 fB (Lm sz len ds au)
  (λi L=>by
   rw[eb] at L;rw[cell_of_row w b (off+i) vs T (0,0) aS];have:off+i<vs.size:=by omega
   simp[this])
  (λi d kl=>by
   rw[Ln sz len ds au] at kl;have aq:i<D ds:=(dK.1 kl).1;have lM:off+i<vs.size:=by omega
   have:vs.getD (off+i) undef=vs[off+i]:=by simp[lM]
   simp only[this];exact X i d _ kl (Array.getElem?_eq_getElem lM))
 rw[eb] at h;exact h
theorem Z7 (bT:fl A w B mem){aO:Nat->Prop}(fB:∀b,aO b->A b){k:Key}{e:lE}{b:Nat}(he:B k=some e)(ae:e.dp=some b):¬ aO b :=
 λh=>bT.sep b (fB b h) ⟨k,e,he,ae⟩
theorem snap (bT:fl A w B mem){aO:Nat->Prop}(fB:∀b,aO b->A b):∀(d:Nat) (m:M) (v:Value) (r:Data),c8 d mem m=some r->bo w (cj A B) B m v->Den w aO r v:=by
 have Z8:∀(d:Data) (v:Value),bo w (cj A B) B (.I d) v->Den w aO d v:=λd v h=>by
  cases h with
  |I h=>exact h.less λb ae => .inr (fB b ae)
 have LG:∀v,bo w (cj A B) B .nil v->Den w aO (.af []) v:=λv h=>by
  cases h;exact .k6
 intro d
 induction d with
 |zero =>
  intro m v r h aI
  cases m<;>simp only[c8,cb,reduceCtorEq] at h
  ·subst h;exact Z8 _ _ aI
  ·subst h;exact LG _ aI
 |succ d ay =>
  intro m v r h aI
  have lists:∀(cs:List M) (vs:List Value) (ds:List Data),cs.mapM (c8 d mem)=some ds->(D vs)=(D cs)->(∀(i:Nat) (x:M) (u:Value),cs[i]?=some x->vs[i]?=some u->bo w (cj A B) B x u) ->
    (D vs)=D ds/\∀(i:Nat) (x:Data) (u:Value),ds[i]?=some x->vs[i]?=some u->Den w aO x u:=by
   intro cs vs ds hg au Y;obtain⟨E,H⟩:=nN hg;refine⟨by omega,λi x u O hu=>?_⟩
   have aq:i<D cs:=by have:=(dK.1 O).1;omega
   have mG:=bs aq;exact ay _ u x (H i _ x mG O) (Y i _ u mG hu)
  cases m<;>simp only[c8,cb,ei,reduceCtorEq] at h
  case I=>subst h;exact Z8 _ _ aI
  case nil=>subst h;exact LG _ aI
  case ref k g sz off len =>
   split at h
   ·rename_i dh cs J
    split at h
    ·rename_i aX;subst aX
     split at h
     ·rename_i part Qz;simp only[ei] at h;obtain⟨ds,hg,rfl⟩:=h;obtain⟨eb,rfl,nP⟩:=DR Qz;obtain⟨E,H⟩:=nN hg
      cases aI with
      |ref he hgle Y =>
       obtain⟨e,fT,ck,aG,ae⟩:=bT.at_ J;rw[fT] at he
       cases he;obtain⟨a,cap,rfl,ab,aM,bl⟩:=Y;rcases bl with bl|⟨b,rfl,bI⟩
       ·have:len=0:=by omega
        subst this;simp only[chunk];exact .k6
       ·obtain⟨bC,bW⟩:=bI ck.symm;obtain⟨vs,T,aS,aQ,hle,bX⟩:=ae b bC;refine Z6 aS (Z7 bT fB fT bC) (by omega) ab (by omega) (by omega) λi x u O hu=>?_;have aq:i<D ds:=(dK.1 O).1;have lM:off+i<D cs:=by omega
        have mG:((cs.drop off).take (len*sz))[i]?=some cs[off+i]:=by
         rw[oV (by omega),uQ,bs lM]
        refine ay _ u x (H i _ x mG O) (bX.2 (off+i) _ u (bs lM) ?_);rw[oV lM,Array.getElem?_toList];exact hu
     ·cases h
    ·cases h
   ·cases h
  case ptr k g off =>
   split at h
   ·rename_i dh cs J
    split at h
    ·rename_i aX;obtain⟨rfl,Qb⟩:=aX;simp only[ei] at h;obtain⟨ds,hg,rfl⟩:=h;obtain⟨E,H⟩:=nN hg
     cases aI with
     |ptr he hgle Y =>
      obtain⟨e,fT,ck,aG,ae⟩:=bT.at_ J;rw[fT] at he
      cases he;obtain⟨b,rfl,bI⟩:=Y;have bC:=bI ck.symm;obtain⟨vs,T,aS,aQ,hle,bX⟩:=ae b bC;rw[List.length_drop] at E;refine .ptr (λi=>vs.getD (off+i) undef) (Array.getElem?_eq_some_iff.1 aS).1 (Z7 bT fB fT bC) (λi L=>?_) λi x O=>?_
      ·rw[cell_of_row w b (off+i) vs T (0,0) aS];have:off+i<vs.size:=by omega
       simp[this]
      ·have aq:i<D ds:=(dK.1 O).1;have lM:off+i<D cs:=by omega
       have HX:off+i<vs.size:=by omega
       have mG:(cs.drop off)[i]?=some cs[off+i]:=by
        rw[uQ,bs lM]
       have hu:vs.getD (off+i) undef=vs[off+i]:=by simp[HX]
       rw[hu];refine ay _ _ x (H i _ x mG O) (bX.2 (off+i) _ _ (bs lM) ?_);rw[oV lM,Array.getElem?_toList];exact Array.getElem?_eq_getElem HX
    ·cases h
   ·cases h
  case fS f cs =>
   obtain⟨ds,hg,rfl⟩:=h
   cases aI with
   |fS au X=>obtain⟨E,H⟩:=lists _ _ _ hg au X;exact .fn E H
  case agg cs =>
   obtain⟨ds,hg,rfl⟩:=h
   cases aI with
   |agg au X=>obtain⟨E,H⟩:=lists _ _ _ hg au X;exact .agg E H
  case cw cs =>
   obtain⟨ds,hg,rfl⟩:=h
   cases aI with
   |cw au X=>obtain⟨E,H⟩:=lists _ _ _ hg au X;exact .cw E H
theorem bo.shift {aO oc:Nat->Prop}{bq:eK}(fB:∀b,oc b->aO b)(J:∀k e,B k=some e->∃e',bq k=some e'/\(e'=e\/e.g<e'.g)){m:M}{v:Value}(h:bo w aO B m v):bo w oc bq m v:=by
 induction h with
 |I h=>exact .I (h.less fB)
 |nil=>exact .nil
 | @ref k g sz off len e v he aX aI =>
  obtain⟨e',fT,aS⟩:=J k e he;rcases aS with rfl|aS
  ·exact .ref fT aX aI
  ·exact .ref fT (by omega) (aI.Hc (by omega))
 | @ptr k g off e v he aX aI =>
  obtain⟨e',fT,aS⟩:=J k e he;rcases aS with rfl|aS
  ·exact .ptr fT aX aI
  ·exact .ptr fT (by omega) (aI.Hc (by omega))
 |fS au X ay=>exact .fS au ay
 |agg au X ay=>exact .agg au ay
 |cw au X ay=>exact .cw au ay
 |no=>exact .no
 |undef=>exact .undef
theorem kill_shut (bT:fl A w B mem){k:Key}{g:Nat}{cs:List M}{e:lE}{b:Nat}(J:mem k=some (g,cs))(he:B k=some e)(ae:e.dp=some b):
  fl (λe2=>A e2\/e2=b) w (gM B k ⟨bY mem k,none,0⟩) (kill mem k)/\(∀m v,bo w (cj A B) B m v->bo w (cj (λe2=>A e2\/e2=b) (gM B k ⟨bY mem k,none,0⟩)) (gM B k ⟨bY mem k,none,0⟩) m v):=by
 have aX:=DP bT k e he
 have fB:∀e2,cj (λe2=>A e2\/e2=b) (gM B k ⟨bY mem k,none,0⟩) e2->cj A B e2:=λe2 h=>by
  rcases h with ⟨j,aC,ai,O⟩|h|rfl
  ·by_cases eW:j=k
   ·subst eW;rw[g3] at ai;cases ai;cases O
   ·rw[gU B _ eW] at ai;exact .inl ⟨j,aC,ai,O⟩
  ·exact .inr h
  ·exact .inl ⟨k,e,he,ae⟩
 have alw:∀j aC,B j=some aC->∃e',gM B k ⟨bY mem k,none,0⟩ j=some e'/\(e'=aC\/aC.g<e'.g):=λj aC ai=>by
  by_cases eW:j=k
  ·subst eW;rw[he] at ai
   cases ai;exact⟨_,g3 _ _ _,.inr aX⟩
  ·exact⟨aC,by rw[gU B _ eW];exact ai,.inl rfl⟩
 have shift:∀m v,bo w (cj A B) B m v->bo w (cj (λe2=>A e2\/e2=b) (gM B k ⟨bY mem k,none,0⟩)) (gM B k ⟨bY mem k,none,0⟩) m v:=λm v h=>h.shift fB alw;refine⟨⟨λj ai=>?_,λj mC aw aC e2 E H ab aM=>?_,λe2 a1 bx=>?_,λe2 a1=>?_,λj dh nM ai=>?_⟩,shift⟩
 ·by_cases eW:j=k
  ·subst eW;simp[kill,a3] at ai
  ·rw[gU B _ eW];simp only[kill,a3,eW,if_false] at ai;exact bT.zt j ai
 ·by_cases eW:j=k
  ·subst eW;rw[g3] at E;cases E;cases ab
  ·by_cases hjk':mC=k
   ·subst hjk';rw[g3] at H;cases H;cases aM
   ·rw[gU B _ eW] at E;rw[gU B _ hjk'] at H;exact bT.inj j mC aw aC e2 E H ab aM
 ·obtain⟨j,aC,ai,O⟩:=bx
  by_cases eW:j=k
  ·subst eW;rw[g3] at ai;cases ai;cases O
  ·rw[gU B _ eW] at ai;rcases a1 with a1|rfl
   ·exact bT.sep e2 a1 ⟨j,aC,ai,O⟩
   ·exact eW (bT.inj j k aC e e2 ai he O ae)
 ·rcases a1 with a1|rfl
  ·exact bT.lt e2 a1
  ·exact bT.zu ⟨k,e,he,ae⟩
 ·by_cases eW:j=k
  ·subst eW;simp only[kill,a3,if_true,cb,fu] at ai;obtain⟨rfl,rfl⟩:=ai;exact⟨_,g3 _ _ _,rfl,λ_=>rfl,λe2 lK=>by cases lK⟩
  ·simp only[kill,a3,eW,if_false] at ai;obtain⟨aC,E,H,ab,aM⟩:=bT.dp j dh nM ai;refine⟨aC,by rw[gU B _ eW];exact E,H,ab,λe2 lK=>?_⟩
   obtain⟨vs,T,bl,bI,bC,bW⟩:=aM e2 lK;exact⟨vs,T,bl,bI,bC,λi m hm=>let ⟨v,aI,Y⟩:=bW i m hm;⟨v,aI,shift m v Y⟩⟩
end Go.Mini
namespace Go.Mini
open Go
variable {P:Program} {T:bk} {A:Nat->Prop} {dt w:World} {gW B:eK} {mem:Mem} {n kb:Nat} {own:List Nat} {aH:Exit->Act->World->Prop}
theorem LH {k:Key}{g sz off len:Nat}{cs:List M}{d:Data}{v:Value}(bT:fl A w B mem)(J:mem k=some (g,cs))(X:c8 1 mem (.ref k g sz off len)=some d)(aI:bo w (cj A B) B (.ref k g sz off len) v):
  Den w (cj A (gM B k ⟨bY mem k,none,0⟩)) d v:=by
 have fB:∀b,cj A (gM B k ⟨bY mem k,none,0⟩) b->cj A B b:=λb h=>h.imp (fun⟨j,e,ai,O⟩=>by
  by_cases eW:j=k
  ·subst eW;rw[g3] at ai;cases ai;cases O
  ·rw[gU B _ eW] at ai;exact⟨j,e,ai,O⟩) id
 simp only[c8,J,if_true] at X
 split at X
 ·rename_i part Qz;simp only[ei] at X;obtain⟨ds,hg,rfl⟩:=X;obtain⟨eb,rfl,nP⟩:=DR Qz;obtain⟨E,H⟩:=nN hg
  cases aI with
  |ref he hgle Y =>
   obtain⟨e,fT,ck,aG,ae⟩:=bT.at_ J;rw[fT] at he;obtain rfl:=ni he;obtain⟨a,cap,rfl,ab,aM,bl⟩:=Y;rcases bl with bl|⟨b,rfl,bI⟩
   ·have:len=0:=by omega
    subst this;simp only[chunk];exact .k6
   ·obtain⟨bC,bW⟩:=bI ck.symm;obtain⟨vs,T,aS,aQ,hle,bX⟩:=ae b bC
    have alx:¬ cj A (gM B k ⟨bY mem k,none,0⟩) b:=by
     rintro (⟨j,aC,ai,O⟩|a1)
     ·by_cases eW:j=k
      ·subst eW;rw[g3] at ai;cases ai;cases O
      ·rw[gU B _ eW] at ai;exact eW (bT.inj j k aC _ b ai fT O bC)
     ·exact bT.sep b a1 ⟨k,_,fT,bC⟩
    refine Z6 aS alx (by omega) ab (by omega) (by omega) λi x u O hu=>?_;have aq:i<D ds:=(dK.1 O).1;have lM:off+i<D cs:=by omega
    have mG:((cs.drop off).take (len*sz))[i]?=some cs[off+i]:=by
     rw[oV (by omega),uQ,bs lM]
    have zK:=H i _ x mG O
    have ra:bo w (cj A B) B cs[off+i] u:=bX.2 (off+i) _ u (bs lM) (by
     rw[oV lM,Array.getElem?_toList];exact hu)
    generalize cs[off+i]=m at *
    cases m<;>simp only[c8,cb,reduceCtorEq] at zK
    ·subst zK
     cases ra with
     |I h=>exact h.less fB
    ·subst zK
     cases ra;exact .k6
 ·cases X
theorem Z9 {k:Key}{aO oc:Nat->Prop}{bq:eK}{v:Value}{sz:Nat}{e:lE}(he:B k=some e)(aI:bo w aO bq .nil v):bo w oc B (.ref k e.g sz 0 0) v:=by
 cases aI;exact .ref he (bP _) ⟨_,0,rfl,bP _,fr _,.inl rfl⟩
theorem BH {k:Key}{g i:Nat}{cs:List M}{m m':M}{w1:World}(bT:fl A w B mem)(J:mem k=some (g,cs))(L:cs[i]?=some m)
  (aI:∀e b v,B k=some e->e.dp=some b->w.cell? ⟨b,i,none⟩=some v->bo w (cj A B) B m' v):∃bq,eG A w B w bq (a3 mem k g (cs.set i m')):=by
 obtain⟨e,he,ck,aG,ae⟩:=bT.at_ J
 have ok:=eG.change (k:=k) (e':=e) (cs:=cs.set i m') bT (Fr.refl _ w) (λaC e0 => .inl (by rw[he] at e0;cases e0;rfl)) (λb en => .inr ⟨e,he,en⟩) (λh=>by
  have:=aG h;subst this
  rfl) (λb en=>by
  obtain⟨vs,T,aS,aQ,hle,bX⟩:=ae b en;refine⟨vs,T,aS,aQ,by simpa using hle,λj x O=>?_⟩
  by_cases lO:i=j
  ·subst lO;have aq:i<D cs:=(dK.1 L).1;rw[List.getElem?_set_self aq] at O
   cases O;have wj:i<vs.size:=by omega
   exact⟨vs[i],Array.getElem?_eq_getElem wj,aI e b _ he en (by rw[cell_of_row w b i vs T (0,0) aS];exact Array.getElem?_eq_getElem wj)⟩
  ·rw[List.getElem?_set_ne lO] at O;obtain⟨v,HY,Y⟩:=bX.get O;refine⟨v,?_,Y⟩;have aq:j<D cs:=(dK.1 O).1;rw[oV aq,Array.getElem?_toList] at HY;exact HY)
 rw[ck] at ok;exact⟨_,ok⟩
theorem eG.move {k k':Key}{g:Nat}{cs:List M}{e:lE}(h:fl A w B mem)(J:mem k=some (g,cs))(he:B k=some e)(bN:k'≠k):
  eG A w B w (gM (gM B k ⟨bY mem k,none,0⟩) k' ⟨bY mem k',e.dp,e.size⟩) (a3 (a3 mem k (bY mem k) []) k' (bY mem k') cs):=by
 have uW:∀b,q4 (gM (gM B k ⟨bY mem k,none,0⟩) k' ⟨bY mem k',e.dp,e.size⟩) b->q4 B b:=by
  rintro b ⟨j,aC,ai,ae⟩
  by_cases E:j=k'
  ·subst E;rw[g3] at ai
   cases ai;exact⟨k,e,he,ae⟩
  ·rw[gU _ _ E] at ai
   by_cases H:j=k
   ·subst H;rw[g3] at ai
    cases ai
    cases ae
   ·rw[gU _ _ H] at ai;exact⟨j,aC,ai,ae⟩
 have mB:Trans A w B w (gM (gM B k ⟨bY mem k,none,0⟩) k' ⟨bY mem k',e.dp,e.size⟩):=by
  refine⟨bP _,λb _ ae=>⟨rfl,λbx=>ae (.inl (uW b bx))⟩,λj aC ai=>?_⟩
  by_cases E:j=k'
  ·subst E;exact⟨_,g3 _ _ _,.inr (DP h j aC ai)⟩
  ·rw[gU _ _ E]
   by_cases H:j=k
   ·subst H;exact⟨_,g3 _ _ _,.inr (DP h j aC ai)⟩
   ·rw[gU _ _ H];exact⟨aC,ai,.inl rfl⟩
 refine⟨⟨λj ai=>?_,λj mC aw aC b E H kq en=>?_,λb a1 bx=>h.sep b a1 (uW b bx),h.lt,λj cQ wx ai=>?_⟩,mB,Fr.refl _ _,λb ae => .inl (uW b ae)⟩
 ·simp only[a3] at ai
  by_cases E:j=k'
  ·simp[E] at ai
  ·by_cases H:j=k
   ·rw[aa E,Z H] at ai
    cases ai
   ·simp only[E,H,if_false] at ai;rw[gU _ _ E,gU _ _ H];exact h.zt j ai
 ·have main:∀(j:Key) (aw:lE),gM (gM B k ⟨bY mem k,none,0⟩) k' ⟨bY mem k',e.dp,e.size⟩ j=some aw->aw.dp=some b->(j=k'/\e.dp=some b)\/(j≠k'/\j≠k/\B j=some aw):=by
   intro j aw ai ae
   by_cases E:j=k'
   ·subst E;rw[g3] at ai
    cases ai;exact .inl ⟨rfl,ae⟩
   ·rw[gU _ _ E] at ai
    by_cases H:j=k
    ·subst H;rw[g3] at ai
     cases ai
     cases ae
    ·rw[gU _ _ H] at ai;exact .inr ⟨E,H,ai⟩
  rcases main j aw E kq with ⟨fb,js⟩|⟨fb,s1,js⟩<;>rcases main mC aC H en with ⟨ew,iX⟩|⟨ew,s2,iX⟩
  ·rw[fb,ew]
  ·exact absurd (h.inj k mC e aC b he iX js en).symm s2
  ·exact absurd (h.inj k j e aw b he js iX kq).symm s1
  ·exact h.inj j mC aw aC b js iX kq en
 ·simp only[a3] at ai
  by_cases E:j=k'
  ·subst E;simp only[if_true,cb,fu] at ai;obtain⟨rfl,rfl⟩:=ai;obtain⟨b6,HZ,aX,aG,ae⟩:=h.dp k g cs J;rw[he] at HZ
   cases HZ;refine⟨_,g3 _ _ _,rfl,aG,λb iV=>?_⟩;obtain⟨vs,T,ab,aM,bl,bI⟩:=ae b iV;exact⟨vs,T,ab,aM,bl,λi m L=>let ⟨v,aI,Y⟩:=bI i m L;⟨v,aI,Y.q3 mB⟩⟩
  ·simp only[E,if_false] at ai;rw[gU _ _ E]
   by_cases H:j=k
   ·subst H;simp only[if_true,cb,fu] at ai;obtain⟨rfl,rfl⟩:=ai;exact⟨_,g3 _ _ _,rfl,λ_=>rfl,λb ae=>by cases ae⟩
   ·simp only[H,if_false] at ai;rw[gU _ _ H];obtain⟨b6,HZ,aX,aG,ae⟩:=h.dp j cQ wx ai;refine⟨b6,HZ,aX,aG,λb iV=>?_⟩;obtain⟨vs,T,ab,aM,bl,bI⟩:=ae b iV;exact⟨vs,T,ab,aM,bl,λi m L=>let ⟨v,aI,Y⟩:=bI i m L;⟨v,aI,Y.q3 mB⟩⟩
theorem hj.ghost {a:Act}{st:a2}{bq:eK}{mem':Mem}{tm':Nat->M}(h:hj n A dt gW a st w B)(Q:eG A w B w bq mem')(bJ:∀s,tm' s=st.tm s\/bo w (cj A bq) bq (tm' s) (a.eval (.tmp s))):
  hj n A dt gW a ⟨tm',mem'⟩ w bq:=by
 refine⟨h.ok.trans Q,λs=>?_,h.sz,h.HN⟩;rcases bJ s with E|E
 ·simp only[E];exact (h.tm s).q3 Q.mB
 ·exact E
theorem aly {K:a2->Prop}{a:Act}{st:a2}{g:K3}(h:hj n A dt gW a st w B)(J:kM K st g):∃dx bq,K dx/\hj n A dt gW a dx w bq:=by
 have se:∀x:bH,∃v,bo w (cj A B) B (aZ st.tm x) v\/∃m,x=.c m:=λx=>by
  cases x with
  |t s=>exact⟨_,.inl (h.tm s)⟩
  |c m=>exact⟨undef,.inr ⟨m,rfl⟩⟩
 cases g with
 |pz s k sz =>
  simp only[kM] at J
  split at J
  ·rename_i Q;have ok:=eG.x1 h.ok.ee k;refine⟨_,_,J,h.ghost ok λt=>?_⟩
   by_cases sl:t=s
   ·subst sl;have:=h.tm t;rw[Q] at this;simp only[eP,if_true];exact .inr (Z9 (e:=⟨bY st.mem k,none,0⟩) (g3 _ _ _) this)
   ·exact .inl (by simp[eP,sl])
  ·cases J
 |freeze s =>
  simp only[kM] at J
  split at J
  ·rename_i k g sz off len Q
   split at J
   ·rename_i dh cs fH
    split at J
    ·rename_i aX;obtain⟨rfl,_⟩:=aX
     split at J
     ·rename_i d X;have ok:=eG.x1 h.ok.ee k;refine⟨_,_,J,h.ghost ok λt=>?_⟩
      by_cases sl:t=s
      ·subst sl;have aI:=h.tm t;rw[Q] at aI X;simp only[eP,if_true];exact .inr (.I (LH h.ok.ee fH X aI))
      ·exact .inl (by simp[eP,sl])
     ·cases J
    ·cases J
   ·cases J
  ·cases J
 |K4 x i k sz =>
  simp only[kM] at J
  split at J
  ·rename_i kc g off O
   split at J
   ·rename_i dh cs fH
    split at J
    ·rename_i aX;subst aX
     split at J
     ·rename_i G
      split at J
      ·rename_i bN;have ok:=eG.x1 h.ok.ee k;have sm:a3 st.mem k (bY st.mem k) [] kc=some (dh,cs):=by simp[a3,Ne.symm bN,fH]
       obtain⟨e,he,ck,aG,ae⟩:=h.ok.ee.at_ fH
       obtain⟨bq,sn⟩:=BH (w1:=w) (m':=.ref k (bY st.mem k) sz 0 0) ok.ee sm G (λaC b v e0 en aI=>by
        rw[gU B _ (Ne.symm bN)] at e0;rw[he] at e0
        cases e0;obtain⟨vs,T,aS,aQ,hle,bX⟩:=ae b en;have aq:off+i<D cs:=(dK.1 G).1;rw[cell_of_row w b (off+i) vs T (0,0) aS] at aI;have Y:=bX.2 (off+i) _ v G (by rw[oV aq,Array.getElem?_toList];exact aI);exact Z9 (e:=⟨bY st.mem k,none,0⟩) (g3 _ _ _) Y)
       exact⟨_,bq,J,h.ghost (ok.trans sn) λt => .inl rfl⟩
      ·cases J
     ·cases J
    ·cases J
   ·cases J
  ·cases J
 |K5 x i =>
  simp only[kM] at J
  split at J
  ·rename_i kc gc off O
   split at J
   ·rename_i Hz cc aaa
    split at J
    ·rename_i aX;subst aX
     split at J
     ·rename_i k g sz o len G
      split at J
      ·rename_i dh cs fH
       split at J
       ·rename_i aX;obtain⟨rfl,_,bN⟩:=aX
        split at J
        ·rename_i d X;have ok:=eG.x1 h.ok.ee k;have sm:a3 st.mem k (bY st.mem k) [] kc=some (Hz,cc):=by simp[a3,Ne.symm bN,aaa]
         obtain⟨e,he,ck,aG,ae⟩:=h.ok.ee.at_ aaa
         obtain⟨bq,sn⟩:=BH (w1:=w) (m':=.I d) ok.ee sm G (λaC b v e0 en aI=>by
          rw[gU B _ (Ne.symm bN)] at e0;rw[he] at e0
          cases e0;obtain⟨vs,T,aS,aQ,hle,bX⟩:=ae b en;have aq:off+i<D cc:=(dK.1 G).1;rw[cell_of_row w b (off+i) vs T (0,0) aS] at aI;have Y:=bX.2 (off+i) _ v G (by rw[oV aq,Array.getElem?_toList];exact aI);exact .I (LH h.ok.ee fH X Y))
         exact⟨_,bq,J,h.ghost (ok.trans sn) λt => .inl rfl⟩
        ·cases J
       ·cases J
      ·cases J
     ·cases J
    ·cases J
   ·cases J
  ·cases J
 |move =>
  rcases J with J|⟨fq,gE,gf,i,k,g,sz,off,len,cs,k',hN,G,wz,E,H,ab,J⟩|⟨fq,gE,gf,i,k,g,sz,off,len,cs,d,hN,G,fH,-,bN,X,J⟩
  ·exact⟨st,B,J,h⟩
  ·obtain⟨e,he,ck,aG,ae⟩:=h.ok.ee.at_ wz;have ok:=eG.move h.ok.ee wz he H;have sm:a3 (a3 st.mem k (bY st.mem k) []) k' (bY st.mem k') cs fq=some (gE,gf):=by simp[a3,Ne.symm E,Ne.symm ab,hN]
   obtain⟨ex,hex,aab,gz,H0⟩:=h.ok.ee.at_ hN
   obtain⟨bq,sn⟩:=BH (w1:=w) (m':=.ref k' (bY st.mem k') sz off len) ok.ee sm G (λaC b v e0 en aI=>by
    rw[gU _ _ (Ne.symm ab),gU _ _ (Ne.symm E)] at e0;rw[hex] at e0
    cases e0;obtain⟨vs,T,aS,aQ,hle,bX⟩:=H0 b en;have aq:i<D gf:=(dK.1 G).1;rw[cell_of_row w b i vs T (0,0) aS] at aI;have Y:=bX.2 i _ v G (by rw[oV aq,Array.getElem?_toList];exact aI)
    cases Y with
    |ref e0 hgle Y =>
     rw[he] at e0
     cases e0;obtain⟨a,cap,rfl,aM,bl,bI⟩:=Y;refine .ref (g3 _ _ _) (bP _) ⟨a,cap,rfl,aM,bl,bI.imp id ?_⟩;rintro⟨e2,rfl,bC⟩;exact⟨e2,rfl,λ_=>bC ck.symm⟩)
   exact⟨_,bq,J,h.ghost (ok.trans sn) λt => .inl rfl⟩
  ·have ok:=eG.x1 h.ok.ee k;have sm:a3 st.mem k (bY st.mem k) [] fq=some (gE,gf):=by simp[a3,Ne.symm bN,hN]
   obtain⟨e,he,ck,aG,ae⟩:=h.ok.ee.at_ hN
   obtain⟨bq,sn⟩:=BH (w1:=w) (m':=.I d) ok.ee sm G (λaC b v e0 en aI=>by
    rw[gU B _ (Ne.symm bN)] at e0;rw[he] at e0
    cases e0;obtain⟨vs,T,aS,aQ,hle,bX⟩:=ae b en;have aq:i<D gf:=(dK.1 G).1;rw[cell_of_row w b i vs T (0,0) aS] at aI;have Y:=bX.2 i _ v G (by rw[oV aq,Array.getElem?_toList];exact aI);exact .I (LH h.ok.ee fH X Y))
   exact⟨_,bq,J,h.ghost (ok.trans sn) λt => .inl rfl⟩
 |many =>
  obtain⟨mem',QA,J⟩:=J
  have main:∀{kP dG:Mem},r6 kP dG->∀B,hj n A dt gW a ⟨st.tm,kP⟩ w B->∃bq,hj n A dt gW a ⟨st.tm,dG⟩ w bq:=by
   intro kP dG QA
   induction QA with
   |refl mem=>exact λB h=>⟨B,h⟩
   | @step kP dG cn Q _ ay =>
    intro B h
    have one:∃bq,hj n A dt gW a ⟨st.tm,dG⟩ w bq:=by
     cases Q with
     |La fq gE gf i k g sz off len cs k' hN G wz E H ab =>
      obtain⟨e,he,ck,aG,ae⟩:=h.ok.ee.at_ wz;have ok:=eG.move h.ok.ee wz he H;have sm:a3 (a3 kP k (bY kP k) []) k' (bY kP k') cs fq=some (gE,gf):=by simp[a3,Ne.symm E,Ne.symm ab,hN]
      obtain⟨ex,hex,aab,gz,H0⟩:=h.ok.ee.at_ hN
      obtain⟨bq,sn⟩:=BH (w1:=w) (m':=.ref k' (bY kP k') sz off len) ok.ee sm G (λaC b v e0 en aI=>by
       rw[gU _ _ (Ne.symm ab),gU _ _ (Ne.symm E)] at e0;rw[hex] at e0
       cases e0;obtain⟨vs,T,aS,aQ,hle,bX⟩:=H0 b en;have aq:i<D gf:=(dK.1 G).1;rw[cell_of_row w b i vs T (0,0) aS] at aI;have Y:=bX.2 i _ v G (by rw[oV aq,Array.getElem?_toList];exact aI)
       cases Y with
       |ref e0 hgle Y =>
        rw[he] at e0
        cases e0;obtain⟨a,cap,rfl,aM,bl,bI⟩:=Y;refine .ref (g3 _ _ _) (bP _) ⟨a,cap,rfl,aM,bl,bI.imp id ?_⟩;rintro⟨e2,rfl,bC⟩;exact⟨e2,rfl,λ_=>bC ck.symm⟩)
      exact⟨bq,h.ghost (ok.trans sn) λt => .inl rfl⟩
     |YM fq gE gf i k g off cs k' hN G wz E H ab =>
      obtain⟨e,he,ck,aG,ae⟩:=h.ok.ee.at_ wz;have ok:=eG.move h.ok.ee wz he H;have sm:a3 (a3 kP k (bY kP k) []) k' (bY kP k') cs fq=some (gE,gf):=by simp[a3,Ne.symm E,Ne.symm ab,hN]
      obtain⟨ex,hex,aab,gz,H0⟩:=h.ok.ee.at_ hN
      obtain⟨bq,sn⟩:=BH (w1:=w) (m':=.ptr k' (bY kP k') off) ok.ee sm G (λaC b v e0 en aI=>by
       rw[gU _ _ (Ne.symm ab),gU _ _ (Ne.symm E)] at e0;rw[hex] at e0
       cases e0;obtain⟨vs,T,aS,aQ,hle,bX⟩:=H0 b en;have aq:i<D gf:=(dK.1 G).1;rw[cell_of_row w b i vs T (0,0) aS] at aI;have Y:=bX.2 i _ v G (by rw[oV aq,Array.getElem?_toList];exact aI)
       cases Y with
       |ptr e0 hgle Y =>
        rw[he] at e0
        cases e0;obtain⟨e2,rfl,bC⟩:=Y;exact .ptr (g3 _ _ _) (bP _) ⟨e2,rfl,λ_=>bC ck.symm⟩)
      exact⟨bq,h.ghost (ok.trans sn) λt => .inl rfl⟩
     |Lb fq gE gf i k g sz off len cs d hN G fH bN X =>
      have ok:=eG.x1 h.ok.ee k;have sm:a3 kP k (bY kP k) [] fq=some (gE,gf):=by simp[a3,Ne.symm bN,hN]
      obtain⟨e,he,ck,aG,ae⟩:=h.ok.ee.at_ hN
      obtain⟨bq,sn⟩:=BH (w1:=w) (m':=.I d) ok.ee sm G (λaC b v e0 en aI=>by
       rw[gU B _ (Ne.symm bN)] at e0;rw[he] at e0
       cases e0;obtain⟨vs,T,aS,aQ,hle,bX⟩:=ae b en;have aq:i<D gf:=(dK.1 G).1;rw[cell_of_row w b i vs T (0,0) aS] at aI;have Y:=bX.2 i _ v G (by rw[oV aq,Array.getElem?_toList];exact aI);exact .I (LH h.ok.ee fH X Y))
      exact⟨bq,h.ghost (ok.trans sn) λt => .inl rfl⟩
    obtain⟨bq,b2⟩:=one;exact ay bq b2
  obtain⟨bq,b2⟩:=main QA B h;exact⟨_,bq,J,b2⟩
def erase:dZ->dZ
 |.skip => .skip
 |.ops l => .ops l
 |.mz l c => .mz l c
 |.seq a b => .seq (erase a) (erase b)
 |.cond c a b => .cond c (erase a) (erase b)
 |.block id c => .block id (erase c)
 |.loop c => .loop (erase c)
 |.exit id => .exit id
 |.ret => .ret
 |.ghost _ c=>erase c
def aac:ev->Exit
 |.normal => .normal
 |.exit id => .exit id
 |.ret => .ret
def alz (P:Program)(n kb:Nat)(own:List Nat)(c:Code):dZ->Prop
 |.skip=>c=.skip
 |.ops l=>∃id ops,c=.region id ops false/\ops.toList.mapM (zB P n kb own ops)=some l
 |.mz l ch=>∃id ops,c=.region id ops true/\ops.toList.mapM (zB P n kb own ops)=some l/\DN ops l=true/\ch=x0 [] l (pD ops.toList [])
 |.seq x y=>∃a b,c=.seq a b/\pE P n kb own a=some x/\pE P n kb own b=some y
 |.cond x y z=>∃iW a b,c=.cond iW a b/\dF iW=some x/\pE P n kb own a=some y/\pE P n kb own b=some z
 |.block id x=>∃a,c=.block id a/\pE P n kb own a=some x
 |.loop x=>∃a,c=.loop a/\pE P n kb own a=some x
 |.exit id=>c=.exit id
 |.ret=>c=.ret
 |.ghost ..=>False
theorem yd {c:Code}{m:dZ}(h:pE P n kb own c=some m):alz P n kb own c m:=by
 cases c<;>simp only[pE,cb,reduceCtorEq,ei] at h
 case skip=>subst h;rfl
 case region id ops draw =>
  split at h
  ·rename_i l au
   split at h
   ·rename_i X;subst X
    split at h
    ·rename_i cX
     cases h;exact⟨id,ops,rfl,au,cX,rfl⟩
    ·cases h
   ·rename_i X
    cases h;exact⟨id,ops,by rw[Bool.not_eq_true] at X;rw[X],au⟩
  ·cases h
 case seq a b =>
  split at h
  ·rename_i x y O ao
   cases h;exact⟨a,b,rfl,O,ao⟩
  ·cases h
 case cond x a b =>
  split at h
  ·rename_i iW y z O ao aQ
   cases h;exact⟨x,a,b,rfl,O,ao,aQ⟩
  ·cases h
 case block id a =>
  obtain⟨x,O,rfl⟩:=h;exact⟨a,rfl,O⟩
 case loop a =>
  obtain⟨x,O,rfl⟩:=h;exact⟨a,rfl,O⟩
 case exit id=>subst h;rfl
 case ret=>subst h;rfl
theorem zR (cE:qy P T)(hm:P.follows .mixedOrders=true):∀(LI:dZ) (c:Code) (K:ev->a2->Prop) (aH:Exit->Act->World->Prop) (st:a2) (a:Act) (w:World) (B:eK),
  pE P n kb own c=some (erase LI)->hj n A dt gW a st w B->wp T LI K st->(∀e st a w B,K e st->hj n A dt gW a st w B->aH (aac e) a w)->c.wp P aH a w
 |.ghost g LI,c,K,aH,st,a,w,B,aU,Q,h,fj=>by
  obtain⟨dx,bq,J,iz⟩:=aly Q h;exact zR cE hm LI c K aH dx a w bq aU iz J fj
 |.skip,c,K,aH,st,a,w,B,aU,Q,h,fj=>by
  obtain rfl:=yd aU;exact Go.wp_skip (fj .normal st a w B h Q)
 |.exit id,c,K,aH,st,a,w,B,aU,Q,h,fj=>by
  obtain rfl:=yd aU;exact Go.wp_exit (fj (.exit id) st a w B h Q)
 |.ret,c,K,aH,st,a,w,B,aU,Q,h,fj=>by
  obtain rfl:=yd aU;exact Go.wp_ret (fj .ret st a w B h Q)
 |.ops l,c,K,aH,st,a,w,B,aU,Q,h,fj=>by
  obtain⟨id,ops,rfl,au⟩:=yd aU;have:=Qy (aH:=aH) (K:=K .normal) cE au (λst a w B J Q=>fj .normal st a w B J Q) l 0 st a w B rfl Q h;refine Go.wp_region ?_;rw[(nN au).1,Array.length_toList] at this;rw[List.range_eq_range'];exact this
 |.mz l ch,c,K,aH,st,a,w,B,aU,Q,h,fj=>by
  obtain⟨id,ops,rfl,au,X,rfl⟩:=yd aU;exact alv cE hm au X Q h λst a w B J Q=>fj .normal st a w B J Q
 |.seq x y,c,K,aH,st,a,w,B,aU,Q,h,fj=>by
  obtain⟨iW,y',rfl,O,ao⟩:=yd aU;refine Go.wp_seq (zR cE hm x iW _ _ st a w B O Q h λe dx jY aN bq J iz=>?_)
  cases e with
  |normal=>exact zR cE hm y y' _ _ dx jY aN bq ao iz J fj
  |exit id=>exact fj (.exit id) dx jY aN bq J iz
  |ret=>exact fj .ret dx jY aN bq J iz
 |.cond x y z,c,K,aH,st,a,w,B,aU,Q,h,fj=>by
  obtain⟨iW,y',alA,rfl,O,ao,aQ⟩:=yd aU;have aI:=Q.uY iW x O;simp only[wp] at h
  split at h
  ·rename_i t bJ;rw[bJ] at aI;refine Go.wp_cond aI.Bq ?_
   cases t with
   |true=>exact zR cE hm y y' _ _ st a w B ao Q h fj
   |false=>exact zR cE hm z alA _ _ st a w B aQ Q h fj
  ·cases h
 |.block id x,c,K,aH,st,a,w,B,aU,Q,h,fj=>by
  obtain⟨iW,rfl,O⟩:=yd aU;refine Go.wp_block (zR cE hm x iW _ _ st a w B O Q h λe dx jY aN bq J iz=>?_)
  cases e with
  |normal=>exact fj .normal dx jY aN bq J iz
  |exit j =>
   simp only[aac,Exit.inBlock];simp only at J
   split
   ·rename_i ai;rw[Z ai] at J;exact fj .normal dx jY aN bq J iz
   ·rename_i ai;rw[aa ai] at J;exact fj (.exit j) dx jY aN bq J iz
  |ret=>exact fj .ret dx jY aN bq J iz
 |.loop x,c,K,aH,st,a,w,B,aU,Q,h,fj=>by
  obtain⟨iW,rfl,O⟩:=yd aU;obtain⟨r7,μ,H2,LJ⟩:=h
  have key:∀m (st:a2) (a:Act) (w:World) (B:eK),μ st<m->r7 st->hj n A dt gW a st w B->Code.rounds P iW aH m a w:=by
   intro m
   induction m with
   |zero=>intro st a w B yb;omega
   |succ m ay =>
    intro st a w B yb H2 Q;refine zR cE hm x iW _ _ st a w B O Q (LJ st H2) λe dx jY aN bq J iz=>?_
    cases e with
    |normal=>exact ay dx jY aN bq (by have:=J.2;omega) J.1 iz
    |exit id=>exact fj (.exit id) dx jY aN bq J iz
    |ret=>exact fj .ret dx jY aN bq J iz
  exact wp_loop_rounds (μ st+1) (key _ st a w B (Nat.lt_succ_self _) H2 Q)
end Go.Mini
