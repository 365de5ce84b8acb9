/- A part of the proof. -/
import Derived.Calls
import Derived.Still
import Derived.Below
import Derived.Laws.World
import Derived.Laws.Sem
import Derived.Laws.Entries
import Derived.Laws.Rows
import GoSem.ClaimData
import Derived.Laws.CopyRow
import Derived.Laws.MakeOwn
import Derived.Laws.Append
import Derived.Laws.AppendOwn
import Derived.Laws.Strings
import Derived.Laws.Strings2
import Derived.Laws.StructEq
import Derived.Laws.Slices
import Derived.Laws.Cells
import Derived.Attr
import Derived.LoopN
set_option linter.unusedSimpArgs false
set_option linter.unusedVariables false
set_option maxRecDepth 100000
set_option maxHeartbeats 4000000
noncomputable section
open Bool renaming and_eq_true->gb,false_eq_true->kE,or_eq_true->zn
open List renaming all_eq_true->qs,contains_iff_mem->afn,drop_drop->Hz,drop_eq_getElem_cons->iC,drop_eq_nil_of_le->mA,drop_set_of_lt->u0,drop_take->aeo,eq_nil_of_length_eq_zero->uY,ext_getElem?->pJ,flatten_cons->lZ,foldl_cons->aeq,getD_eq_getElem?_getD->ez,getElem?_append->Hk,getElem?_append_left->oZ,getElem?_append_right->nK,getElem?_cons_zero->K7,getElem?_drop->rU,getElem?_eq_getElem->bB,getElem?_eq_none->iD,getElem?_eq_some_iff->eg,getElem?_map->aW,getElem?_range->uV,getElem?_take->AO,getElem?_take_of_lt->q4,getElem?_toArray->aeI,getElem_mem->nM,getElem_of_mem->aew,length->D,length_append->gj,length_cons->kB,length_take->fU,mapM_cons->oa,map_congr_left->pP,map_map->pQ,mem_append->jy,mem_cons_self->g0,mem_flatMap->EA,mem_of_mem_take->tM,mem_zipIdx_iff_getElem?->afj,range->eY,replicate->en,replicate_succ->tN,take_append->ael,take_of_length_le->dH
open Nat renaming add_assoc->uU,add_comm->AA,add_mul->rM,add_zero->l7,eq_or_lt_of_le->O6,eq_zero_or_pos->k3,le_mul_of_pos_right->aeA,le_refl->cI,le_trans->eP,lt_asymm->afm,lt_of_lt_of_le->Ee,lt_or_ge->hn,min_eq_left->pK,mul_le_mul_right->o0,one_mul->Kp,sub_self->j6,succ_mul->qq,testBit_or->aff,zero_add->rT,zero_le->fA
open Option renaming bind_eq_bind->ik,bind_eq_some_iff->fg,getD_some->K8,map_eq_some_iff->e6,map_none->aeY,map_some->l9,pure_def->h8
open Option.some renaming inj->pL,injEq->cO
open Prod.mk renaming injEq->fJ
namespace Go.Mini
theorem bN {α:Sort _}{a:α}:a=a:=_root_.id rfl
theorem ad {c:Prop}{h:Decidable c}(H:c){α:Sort _}{t e:α}:ite c t e=t:=if_pos H
theorem ag {c:Prop}{h:Decidable c}(H:¬c){α:Sort _}{t e:α}:ite c t e=e:=if_neg H
theorem jw {p:Prop}[inst:Decidable p](h:p):decide p=true:=decide_eq_true h
theorem kY {p:Prop}[i:Decidable p](h:¬p):decide p=false:=decide_eq_false h
theorem c5 {p:Prop}[inst:Decidable p](h:p:=by omega):decide p=true:=decide_eq_true h
theorem cu {p:Prop}[i:Decidable p](h:¬p:=by omega):decide p=false:=decide_eq_false h
open Go
abbrev Key:=Nat
inductive Data where
 |int (k:IntKind) (n:Int)
 |bool (b:Bool)
 |str (s:List UInt8)
 |Y (es:List (List Data))
 |ptr (cs:List Data)
 |we
 |fn (f:FuncId) (gW:List Data)
 |xH
 |agg (cs:List Data)
 |cB (vs:List Data)
 deriving Inhabited
inductive R where
 |I (d:Data)
 |nil
 |ref (k:Key) (g sz off len:Nat)
 |ptr (k:Key) (g off:Nat)
 |gX (f:FuncId) (gW:List R)
 |agg (cs:List R)
 |cB (vs:List R)
 |no
 |undef
 deriving Inhabited
inductive Den (w:World) (a0:Nat->Prop):Data->Value->Prop
 |int {k:IntKind} {n:Int}:Den w a0 (.int k n) (.int k n)
 |bool {b:Bool}:Den w a0 (.bool b) (.bool b)
 |str {s:List UInt8}:Den w a0 (.str s) (.string ⟨s.toArray⟩)
 |mU {a:Option Addr} {c:Nat}:Den w a0 (.Y []) (.slice a 0 c)
 |Y {es:List (List Data)} {b off c sz:Nat} (val:Nat->Value) (az:(D es)<=c) (hm:(D es)<=maxLen) (ai:b<w.heap.size) (gi:¬ a0 b) (fy:∀e∈es,D e=sz)
   (H:∀i,i<D es*sz->w.cell? ⟨b,off+i,none⟩=some (val i)) (ab:∀i d,es.flatten[i]?=some d->Den w a0 d (val i)) :
   Den w a0 (.Y es) (.slice (some ⟨b,off,none⟩) (D es) c)
 |ptr {cs:List Data} {b off:Nat} (val:Nat->Value) (ai:b<w.heap.size) (gi:¬ a0 b)
   (H:∀i,i<(D cs)->w.cell? ⟨b,off+i,none⟩=some (val i)) (ab:∀i d,cs[i]?=some d->Den w a0 d (val i)) :
   Den w a0 (.ptr cs) (.pointer (some ⟨b,off,none⟩))
 |we:Den w a0 .we (.pointer none)
 |fn {f:FuncId} {gW:List Data} {vs:List Value} (az:(D vs)=D gW) (ab:∀(i:Nat) (d:Data) (v:Value),gW[i]?=some d->vs[i]?=some v->Den w a0 d v) :
   Den w a0 (.fn f gW) (.func (.func f) #[] vs.toArray)
 |xH:Den w a0 .xH .nilFunc
 |agg {cs:List Data} {vs:List Value} (az:(D vs)=D cs) (ab:∀(i:Nat) (d:Data) (v:Value),cs[i]?=some d->vs[i]?=some v->Den w a0 d v) :
   Den w a0 (.agg cs) (.agg vs.toArray)
 |cB {cs:List Data} {vs:List Value} (az:(D vs)=D cs) (ab:∀(i:Nat) (d:Data) (v:Value),cs[i]?=some d->vs[i]?=some v->Den w a0 d v) :
   Den w a0 (.cB cs) (.tuple vs.toArray)
theorem OU {es:List (List Data)}{sz:Nat}(h:∀e∈es,D e=sz):(D es.flatten)=D es*sz:=by
 induction es with
 |nil=>simp
 |cons e r aH =>
  have G:=h e (by simp);have J:=aH (λx M=>h x (by simp[M]));rw[lZ,gj,G,J,kB,rM,Kp,AA]
theorem Den.tC {w aV:World}{a0 qk:Nat->Prop}(Q:w.heap.size<=aV.heap.size)(h:∀b,b<w.heap.size->¬ a0 b->aV.heap[b]?=w.heap[b]?/\¬ qk b){d:Data}{v:Value}(ab:Den w a0 d v):Den aV qk d v:=by
 induction ab with
 |int=>exact .int
 |bool=>exact .bool
 |str=>exact .str
 |mU=>exact .mU
 | @Y es b off c sz val az hm ai gi fy H ab aH =>
  obtain⟨G,J⟩:=h b ai gi;exact .Y val az hm (by omega) J fy (λi U=>(World.cell?_of_block (a:=⟨b,off+i,none⟩) G).trans (H i U)) aH
 |we=>exact .we
 |xH=>exact .xH
 | @ptr cs b off val ai gi H ab aH =>
  obtain⟨G,J⟩:=h b ai gi;exact .ptr val (by omega) J (λi U=>(World.cell?_of_block (a:=⟨b,off+i,none⟩) G).trans (H i U)) aH
 |fn az ab aH=>exact .fn az aH
 |agg az ab aH=>exact .agg az aH
 |cB az ab aH=>exact .cB az aH
structure nk where
 g:Nat
 ek:Option Nat
 size:Nat
abbrev ft:=Key->Option nk
def tD (B:ft)(b:Nat):Prop:=∃k e,B k=some e/\e.ek=some b
def GZ (e:nk)(g sz off len:Nat)(v:Value):Prop :=
 ∃a cap,v=.slice a len cap/\len<=cap/\cap<=maxLen/\(cap=0\/∃b,a=some ⟨b,off,none⟩/\(g=e.g->e.ek=some b/\off+cap*sz<=e.size))
def OV (e:nk)(g off:Nat)(v:Value):Prop:=∃b,v=.pointer (some ⟨b,off,none⟩)/\(g=e.g->e.ek=some b)
theorem GZ.Kq {e e':nk}{g sz off len:Nat}{v:Value}(h:GZ e g sz off len v)(az:g<e'.g):GZ e' g sz off len v:=by
 obtain⟨a,cap,G,J,af,aP⟩:=h;refine⟨a,cap,G,J,af,aP.imp id ?_⟩;rintro⟨b,bh,_⟩;exact⟨b,bh,λh=>by omega⟩
theorem OV.Kq {e e':nk}{g off:Nat}{v:Value}(h:OV e g off v)(az:g<e'.g):OV e' g off v:=by
 obtain⟨b,G,_⟩:=h;exact⟨b,G,λh=>by omega⟩
inductive bO (w:World) (a0:Nat->Prop) (B:ft):R->Value->Prop
 |I {d:Data} {v:Value} (h:Den w a0 d v):bO w a0 B (.I d) v
 |nil {a:Option Addr}:bO w a0 B .nil (.slice a 0 0)
 |ref {k:Key} {g sz off len:Nat} {e:nk} {v:Value} (he:B k=some e) (bq:g<=e.g) (aN:GZ e g sz off len v):bO w a0 B (.ref k g sz off len) v
 |ptr {k:Key} {g off:Nat} {e:nk} {v:Value} (he:B k=some e) (bq:g<=e.g) (aN:OV e g off v):bO w a0 B (.ptr k g off) v
 |gX {f:FuncId} {gW:List R} {vs:List Value} (az:(D vs)=D gW) (ab:∀(i:Nat) (d:R) (v:Value),gW[i]?=some d->vs[i]?=some v->bO w a0 B d v) :
   bO w a0 B (.gX f gW) (.func (.func f) #[] vs.toArray)
 |agg {cs:List R} {vs:List Value} (az:(D vs)=D cs) (ab:∀(i:Nat) (d:R) (v:Value),cs[i]?=some d->vs[i]?=some v->bO w a0 B d v) :
   bO w a0 B (.agg cs) (.agg vs.toArray)
 |cB {cs:List R} {vs:List Value} (az:(D vs)=D cs) (ab:∀(i:Nat) (d:R) (v:Value),cs[i]?=some d->vs[i]?=some v->bO w a0 B d v) :
   bO w a0 B (.cB cs) (.tuple vs.toArray)
 |no:bO w a0 B .no undef
 |undef {v:Value}:bO w a0 B .undef v
def cU (A:Nat->Prop)(B:ft)(b:Nat):Prop:=tD B b\/A b
structure Trans (A:Nat->Prop) (w:World) (B:ft) (aV:World) (bR:ft):Prop where
 size:w.heap.size<=aV.heap.size
 Kr:∀b,b<w.heap.size->¬ cU A B b->aV.heap[b]?=w.heap[b]?/\¬ tD bR b
 key:∀k e,B k=some e->∃e',bR k=some e'/\(e'=e\/e.g<e'.g)
theorem Trans.refl (A:Nat->Prop)(w:World)(B:ft):Trans A w B w B :=
 ⟨cI _,λ_ _ h=>⟨rfl,λbS=>h (.inl bS)⟩,λ_ e he=>⟨e,he,.inl rfl⟩⟩
theorem Trans.trans {A:Nat->Prop}{w w1 ql:World}{B Ec Ed:ft}(h:Trans A w B w1 Ec)(cv:Trans A w1 Ec ql Ed):Trans A w B ql Ed:=by
 refine⟨eP h.size cv.size,λb ai bS=>?_,λk e he=>?_⟩
 ·obtain⟨G,J⟩:=h.Kr b ai bS;obtain⟨af,aP⟩:=cv.Kr b (Ee ai h.size) (λM=>M.elim J λa4=>bS (.inr a4));exact⟨af.trans G,aP⟩
 ·obtain⟨ay,aoT,aX⟩:=h.key k e he;obtain⟨aA,fH,qm⟩:=cv.key k ay aoT;refine⟨aA,fH,?_⟩;rcases aX with rfl|aX<;>rcases qm with rfl|qm
  ·exact .inl rfl
  ·exact .inr qm
  ·exact .inr aX
  ·exact .inr (Nat.lt_trans aX qm)
theorem Den.trans {A:Nat->Prop}{w aV:World}{B bR:ft}(t:Trans A w B aV bR){d:Data}{v:Value}(h:Den w (cU A B) d v):Den aV (cU A bR) d v :=
 h.tC t.size λb ai bS=>⟨(t.Kr b ai bS).1,λM=>M.elim (t.Kr b ai bS).2 λa4=>bS (.inr a4)⟩
theorem bO.tC {A:Nat->Prop}{w aV:World}{B bR:ft}(t:Trans A w B aV bR){m:R}{v:Value}(h:bO w (cU A B) B m v):bO aV (cU A bR) bR m v:=by
 induction h with
 |I h=>exact .I (h.trans t)
 |nil=>exact .nil
 | @ref k g sz off len e v he bq aN =>
  obtain⟨e',gY,aX⟩:=t.key k e he;rcases aX with rfl|aX
  ·exact .ref gY bq aN
  ·exact .ref gY (by omega) (aN.Kq (by omega))
 | @ptr k g off e v he bq aN =>
  obtain⟨e',gY,aX⟩:=t.key k e he;rcases aX with rfl|aX
  ·exact .ptr gY bq aN
  ·exact .ptr gY (by omega) (aN.Kq (by omega))
 |gX az ab aH=>exact .gX az aH
 |agg az ab aH=>exact .agg az aH
 |cB az ab aH=>exact .cB az aH
 |no=>exact .no
 |undef=>exact .undef
abbrev Mem:=Key->Option (Nat×List R)
def emp:Mem:=λ_=>none
def a5 (m:Mem)(k:Key)(g:Nat)(cs:List R):Mem:=λj=>if j=k then some (g,cs) else m j
def cA (m:Mem)(k:Key):Nat:=match m k with
 |none=>0
 |some (g,_)=>g+1
structure gk (A:Nat->Prop) (w:World) (B:ft) (mem:Mem):Prop where
 Cl:∀k,mem k=none->B k=none
 inj:∀k k' e e' b,B k=some e->B k'=some e'->e.ek=some b->e'.ek=some b->k=k'
 sep:∀b,A b->¬ tD B b
 lt:∀b,A b->b<w.heap.size
 ek:∀k g cs,mem k=some (g,cs)->∃e,B k=some e/\e.g=g/\(e.ek=none->cs=[]) /\
  ∀b,e.ek=some b->∃vs T,w.heap[b]?=some (.cells vs T (0,0))/\vs.size=e.size/\D cs<=vs.size /\
   ∀(i:Nat) (m:R),cs[i]?=some m->∃v,vs[i]?=some v/\bO w (cU A B) B m v
theorem gk.Cm {A:Nat->Prop}{w:World}{B:ft}{mem:Mem}(h:gk A w B mem){b:Nat}(ai:tD B b):b<w.heap.size:=by
 obtain⟨k,e,he,ai⟩:=ai
 cases hm:mem k with
 |none=>rw[h.Cl k hm] at he;cases he
 |some x =>
  obtain⟨g,cs⟩:=x;obtain⟨e',gY,_,_,aX⟩:=h.ek k g cs hm;rw[gY] at he
  cases he;obtain⟨vs,T,aN,_⟩:=aX b ai;exact (Array.getElem?_eq_some_iff.1 aN).1
structure Fr (AB:Nat->Prop) (eQ w:World):Prop where
 os:w.os=eQ.os
 tape:w.tape=eQ.tape
 output:w.output=eQ.output
 size:eQ.heap.size<=w.heap.size
 block:∀g,g<eQ.heap.size->¬ AB g->w.heap[g]?=eQ.heap[g]?
theorem Fr.refl (AB:Nat->Prop)(w:World):Fr AB w w:=⟨rfl,rfl,rfl,cI _,λ_ _ _=>rfl⟩
theorem Fr.drew {AB:Nat->Prop}{eQ w:World}(h:Fr AB eQ w)(n:Nat):Fr AB eQ { w with drawn:=n }:=⟨h.os,h.tape,h.output,h.size,h.block⟩
theorem Fr.alloc {AB:Nat->Prop}{eQ w:World}(h:Fr AB eQ w)(o:Obj):Fr AB eQ (w.alloc o) :=
 ⟨h.os,h.tape,h.output,by simp;have:=h.size;omega,λg bq gi=>(RowKit.Below.heap_alloc w o g (by have:=h.size;omega)).trans (h.block g bq gi)⟩
theorem Fr.below {eQ w:World}(h:Fr (λ_=>False) eQ w):RowKit.Below eQ.heap.size eQ w:=⟨h.os,h.tape,h.output,h.size,λg bq=>h.block g bq id⟩
inductive cd where
 |t (s:Nat)
 |c (m:R)
 deriving Inhabited
inductive kZ where
 |b8 (x:cd)
 |pick (c a b:cd)
 |alloc (k:Key) (z:List R)
 |box (k:Key) (x:cd)
 |build (z:List R) (parts:List (Nat×Nat×cd))
 |eL (k:Key) (own:Bool) (z:List R) (sz len:Nat) (parts:List (Nat×Nat×cd))
 |load (n:Nat) (ey:Bool) (x:cd)
 |store (n:Nat) (x v:cd)
 |bin (op:BinOp) (x y:cd)
 |beq (neg:Bool) (x y:cd)
 |eqs (neg:Bool) (hl:List Nat) (x y:cd)
 |sF (neg:Bool) (x:cd)
 |un (op:UnOp) (x:cd)
 |conv (k:IntKind) (x:cd)
 |n7 (x:cd)
 |mx (k:Key) (z:List R) (bytes:Nat) (len cap:cd)
 |dQ (off:Nat) (x:cd)
 |Ef (off n:Nat) (ey:Bool) (x:cd)
 |ij (sz:Nat) (x i:cd)
 |qn (len sz:Nat) (x i:cd)
 |idxs (x i:cd)
 |tE (sz:Nat) (x:cd) (cP U k0:Option cd)
 |uR (len sz:Nat) (x:cd) (cP U k0:Option cd)
 |Eg (x:cd) (cP U:Option cd)
 |ext (i:Nat) (x:cd)
 |len (x:cd)
 |lens (x:cd)
 |app (k:Key) (z:List R) (bytes:Nat) (s x:cd)
 |tF (sz:Nat) (d x:cd)
 |jH (k0:Bool) (x y:cd)
 |call (f:FuncId) (args:List cd)
 |oX (k:Key) (sz:Nat) (f:FuncId) (args:List cd)
 |nJ (f:cd) (args:List cd)
 |nm (cP:Nat) (f:FuncId) (args:List cd)
 |wg (f:FuncId) (gW:List cd)
 |bad
 deriving Inhabited
structure dp where
 dst:Option Nat
 g:Option (Nat×Bool)
 op:kZ
 deriving Inhabited
inductive OW where
 |nn (s:Nat) (k:Key) (sz:Nat)
 |Cn (x:cd) (i:Nat) (k:Key) (sz:Nat)
 |freeze (s:Nat)
 |Eh (x:cd) (i:Nat)
 |move
 |many
 deriving Inhabited
inductive ep where
 |skip
 |ops (l:List dp)
 |my (l:List dp) (c:List (List Nat))
 |seq (a b:ep)
 |cond (c:cd) (a b:ep)
 |block (id:Nat) (c:ep)
 |loop (c:ep)
 |exit (id:Nat)
 |ret
 |ghost (g:OW) (c:ep)
 deriving Inhabited
inductive pF where
 |t (s:Nat)
 |cell (s n:Nat) (ey:Bool)
 deriving Inhabited
structure b1 where
 n:Nat
 aoU:Nat
 res:List pF
 body:ep
 deriving Inhabited
structure bg where
 tm:Nat->R
 mem:Mem
def dW (tm:Nat->R)(s:Nat)(m:R):Nat->R:=λt=>if t=s then m else tm t
def put (tm:Nat->R):Option Nat->R->Nat->R
 |some s,m=>dW tm s m
 |none,_=>tm
@[simp] theorem dv (tm:Nat->R)(s:Nat)(m:R)(t:Nat):dW tm s m t=if t=s then m else tm t:=rfl
def br (tm:Nat->R):cd->R
 |.t s=>tm s
 |.c m=>m
def R.cells:R->List R
 |.agg cs=>cs
 |.I (.agg ds)=>ds.map .I
 |m=>[m]
def R.known:R->Bool
 |.undef=>false
 |_=>true
def R.one:R->Bool
 |.I (.agg _)=>false
 |.I (.cB _)=>false
 |.I _=>true
 |.nil=>true
 |.ref ..=>true
 |.ptr ..=>true
 |.gX ..=>true
 |_=>false
def sG (ey:Bool)(cs:List R):Option R :=
 if ey=true then some (.agg cs) else match cs with
  | [m]=>some m
  |_=>none
def cut (cs:List R)(off n:Nat):Option (List R) :=
 if off+n<=(D cs) then some ((cs.drop off).take n) else none
def mz (cs:List R)(off:Nat)(new:List R):List R:=cs.take off++new++cs.drop (off+D new)
def lq (br:cd->R)(cells:List R):List (Nat×Nat×cd)->Option (List R)
 | []=>some cells
 |(off,size,x)::rest =>
  if (br x).known=true/\(br x).cells.length=size/\off+size<=(D cells) then lq br (mz cells off (br x).cells) rest else none
def Ei:R->Option Data
 |.I d=>some d
 |.nil=>some (.Y [])
 |_=>none
def chunk (sz:Nat):Nat->List Data->List (List Data)
 |0,_=>[]
 |n+1,l=>l.take sz::chunk sz n (l.drop sz)
def OX (op:BinOp)(k:IntKind)(a b:Int):Option Data :=
 match op with
 |.add=>some (.int k (k.wrap (a+b)))
 |.sub=>some (.int k (k.wrap (a-b)))
 |.mul=>some (.int k (k.wrap (a*b)))
 |.quo=>if b=0 then none else some (.int k (k.wrap (a.tdiv b)))
 |.rem=>if b=0 then none else some (.int k (a.tmod b))
 |.and=>some (.int k (bits .and k a b))
 |.or=>some (.int k (bits .or k a b))
 |.xor=>some (.int k (bits .xor k a b))
 |.andNot=>some (.int k (bits .andNot k a b))
 |.eql=>some (.bool (a==b))
 |.neq=>some (.bool (a != b))
 |.lss=>some (.bool (a<b))
 |.leq=>some (.bool (a<=b))
 |.gtr=>some (.bool (a>b))
 |.geq=>some (.bool (a>=b))
 |_=>none
def OY (op:BinOp)(k:IntKind)(a b:Int):Option Data :=
 if b<0 then none else match op with
 |.shl=>some (.int k (k.wrap (a*2^(min b.toNat k.bits))))
 |.shr=>some (.int k (a.fdiv (2^(min b.toNat k.bits))))
 |_=>none
def OZ (op:BinOp)(a b:List UInt8):Option Data :=
 match op with
 |.add=>if (D a)+D b<=maxLen then some (.str (a++b)) else none
 |.eql=>some (.bool (a==b))
 |.neq=>some (.bool (!(a==b)))
 |.lss=>some (.bool (Op.bytesLess a b))
 |.leq=>some (.bool (Op.bytesLess a b||a==b))
 |.gtr=>some (.bool (!(Op.bytesLess a b||a==b)))
 |.geq=>some (.bool (!Op.bytesLess a b))
 |_=>none
def G0:BinOp->Bool
 |.shl=>true
 |.shr=>true
 |_=>false
def Ks (op:BinOp)(x y:R):Option R :=
 match x,y with
 |.I (.int k a),.I (.int k' b)=>if G0 op=true then (OY op k a b).map .I else if k=k' then (OX op k a b).map .I else none
 |.I (.str a),.I (.str b)=>(OZ op a b).map .I
 |_,_=>none
def Kt (neg:Bool):R->R->Option R
 |.I (.bool a),.I (.bool b)=>some (.I (.bool (neg != (a==b))))
 |_,_=>none
def O0:Nat->R->R->Option Bool
 |0,.I (.bool a),.I (.bool b)=>some (a==b)
 |1,.I (.int k a),.I (.int k' b)=>if k=k' then some (a==b) else none
 |2,.I (.str a),.I (.str b)=>some (a==b)
 |_,_,_=>none
def Co:List Nat->List R->List R->Option Bool
 | [],[],[]=>some true
 |k::hl,a::x,b::y=>match O0 k a b,Co hl x y with
  |some c,some d=>some (c&&d)
  |_,_=>none
 |_,_,_=>none
def Ku (op:UnOp)(x:R):Option R :=
 match op,x with
 |.neg,.I (.int k n)=>some (.I (.int k (k.wrap (0-n))))
 |.xor,.I (.int k n)=>some (.I (.int k (bits .xor k (if k.signed then -1 else k.max) n)))
 |.not,.I (.bool b)=>some (.I (.bool !b))
 |_,_=>none
def idx:R->Option Nat
 |.I (.int _ n)=>if 0<=n then some n.toNat else none
 |_=>none
def kC (d:Nat):Option R->Option Nat
 |none=>some d
 |some x=>idx x
def rN:R->Option Nat
 |.I (.Y es)=>some (D es)
 |.nil=>some 0
 |.ref _ _ _ _ n=>some n
 |_=>none
def rO (mem:Mem)(n:Nat)(ey:Bool):R->Option R
 |.ptr k g off=>match mem k with
  |some (ea,cs)=>if ea=g then (cut cs off n).bind (sG ey) else none
  |none=>none
 |.I (.ptr ds)=>(cut (ds.map .I) 0 n).bind (sG ey)
 |_=>none
def AD:R->Option Nat
 |.I (.str s)=>some (D s)
 |_=>none
def G6:R->R->R->Option R
 |.I (.bool t),a,b=>some (if t=true then a else b)
 |_,_,_=>none
def Kv (z:List R)(sz len:Nat)(x:Option (List R)):Option R :=
 if (D z)=len*sz then (match x with
  |some cs=>(cs.mapM Ei).map λds => .I (.Y (chunk sz len ds))
  |none=>none) else none
def Kw:R->Option (List R)
 |.agg cs=>some cs
 |.I (.agg ds)=>some (ds.map .I)
 |_=>none
def Kx (neg:Bool)(hl:List Nat)(a b:R):Option R:=match Kw a,Kw b with
 |some x,some y=>(match Co hl x y with
  |some c=>some (.I (.bool (neg != c)))
  |none=>none)
 |_,_=>none
def Ky (k:IntKind):R->Option R
 |.I (.int _ n)=>some (.I (.int k (k.wrap n)))
 |_=>none
def Kz:R->Option R
 |.ptr k g off=>some (.ptr k g off)
 |.I (.ptr ds)=>some (.I (.ptr ds))
 |_=>none
def KA (off:Nat):R->Option R
 |.ptr k g o=>some (.ptr k g (o+off))
 |.I (.ptr ds)=>if off<=(D ds) then some (.I (.ptr (ds.drop off))) else none
 |_=>none
def KB (off n:Nat)(ey:Bool):R->Option R
 |.agg cs=>(cut cs off n).bind (sG ey)
 |.I (.agg ds)=>(cut (ds.map .I) off n).bind (sG ey)
 |_=>none
def AE (sz n:Nat):R->Option R
 |.ref k g eR off len=>if n<len/\eR=sz then some (.ptr k g (off+n*sz)) else none
 |.I (.Y es)=>match es[n]? with
  |some e=>if (D e)=sz then some (.I (.ptr e)) else none
  |none=>none
 |_=>none
def KC (len sz n:Nat):R->Option R
 |.ptr k g off=>if n<len then some (.ptr k g (off+n*sz)) else none
 |.I (.ptr ds)=>if n<len/\n*sz<=(D ds) then some (.I (.ptr (ds.drop (n*sz)))) else none
 |_=>none
def KD (n:Nat):R->Option R
 |.I (.str s)=>(s[n]?).map λb => .I (.int .u8 b.toNat)
 |_=>none
def y9 (sz:Nat)(es:List (List Data)):Bool:=es.all λe=>D e==sz
def KE (sz l h:Nat):R->Option R
 |.I (.Y es)=>if l<=h/\h<=D es/\y9 sz es=true then some (.I (.Y ((es.take h).drop l))) else none
 |.nil=>if l=0/\h=0 then some .nil else none
 |.ref k g eR off len=>if eR=sz/\l<=h/\h<=len then some (.ref k g sz (off+l*sz) (h-l)) else none
 |_=>none
def KF (sz l h m:Nat):R->Option R
 |.I (.Y es)=>if l<=h/\h<=m/\m<=D es/\y9 sz es=true then (if m=l then some .nil else some (.I (.Y ((es.take h).drop l)))) else none
 |.nil=>if l=0/\h=0/\m=0 then some .nil else none
 |.ref _ _ _ _ len=>if l<=h/\h<=m/\m<=len/\m=l then some .nil else none
 |_=>none
def KG (l h:Nat):R->Option R
 |.I (.str s)=>if l<=h/\h<=(D s) then some (.I (.str ((s.take h).drop l))) else none
 |_=>none
def KH (i:Nat):R->Option R
 |.cB vs=>vs[i]?
 |.I (.cB ds)=>(ds[i]?).map .I
 |_=>none
def KI (k0:Bool):R->R->Option R
 |.I (.int k a),.I (.int k' b)=>if k=k' then some (.I (.int k (if k0=true then (if b>a then b else a) else (if b<a then b else a)))) else none
 |_,_=>none
def iV (x:Option Nat)(f:Nat->Option R):Option R:=match x with
 |some n=>f n
 |none=>none
def l0 (tm:Nat->R):kZ->Option R
 |.b8 x=>some (br tm x)
 |.pick c a b=>G6 (br tm c) (br tm a) (br tm b)
 |.build z parts=>(lq (br tm) z parts).map .agg
 |.eL _ false z sz len parts=>Kv z sz len (lq (br tm) z parts)
 |.bin op x y=>Ks op (br tm x) (br tm y)
 |.beq neg x y=>Kt neg (br tm x) (br tm y)
 |.eqs neg hl x y=>Kx neg hl (br tm x) (br tm y)
 |.un op x=>Ku op (br tm x)
 |.conv k x=>Ky k (br tm x)
 |.n7 x=>Kz (br tm x)
 |.dQ off x=>KA off (br tm x)
 |.Ef off n ey x=>KB off n ey (br tm x)
 |.ij sz x i=>iV (idx (br tm i)) λn=>AE sz n (br tm x)
 |.qn len sz x i=>iV (idx (br tm i)) λn=>KC len sz n (br tm x)
 |.idxs x i=>iV (idx (br tm i)) λn=>KD n (br tm x)
 |.tE sz x cP U none=>iV (kC 0 (cP.map (br tm))) λl=>iV (rN (br tm x)) λlen=>iV (kC len (U.map (br tm))) λh=>KE sz l h (br tm x)
 |.tE sz x cP (some U) (some k0)=>iV (kC 0 (cP.map (br tm))) λl=>iV (idx (br tm U)) λh=>iV (idx (br tm k0)) λm=>KF sz l h m (br tm x)
 |.Eg x cP U=>iV (kC 0 (cP.map (br tm))) λl=>iV (AD (br tm x)) λlen=>iV (kC len (U.map (br tm))) λh=>KG l h (br tm x)
 |.ext i x=>KH i (br tm x)
 |.len x=>iV (rN (br tm x)) λn=>some (.I (.int .i64 n))
 |.lens x=>iV (AD (br tm x)) λn=>some (.I (.int .i64 n))
 |.jH k0 x y=>KI k0 (br tm x) (br tm y)
 |.wg f gW=>some (.gX f (gW.map (br tm)))
 |_=>none
def Un (k:Key)(g off len sz l h:Nat):Option (Nat×List R)->Option R
 |some (ea,cs)=>if ea=g/\l<=h/\h<=len/\off+len*sz<=(D cs) then some (.ref k g sz (off+l*sz) (h-l)) else none
 |none=>none
def Cp (mem:Mem)(len sz l h:Nat):R->Option R
 |.ptr k g off=>Un k g off len sz l h (mem k)
 |_=>none
def rP (mem:Mem)(sz:Nat):R->Option (Nat×List R)
 |.I (.Y es)=>if y9 sz es=true then some (D es,es.flatten.map R.I) else none
 |.nil=>some (0,[])
 |.ref k g eR off len=>if eR=sz then (match mem k with
  |some (ea,cs)=>if ea=g then (cut cs off (len*sz)).map λcs=>(len,cs) else none
  |none=>none) else none
 |_=>none
abbrev Out:=Option (R×Option (Key×Nat×List R))
def j5 (x:Option R):Out:=match x with
 |some m=>some (m,none)
 |none=>none
def G7 (k:Key)(g:Nat)(z:List R)(sz len:Nat)(x:Option (List R)):Out :=
 if (D z)=len*sz then (match x with
  |some cs=>some (.ref k g sz 0 len,some (k,g,cs))
  |none=>none) else none
def G8 (k:Key)(g:Nat)(z:List R)(bytes:Nat)(n c:Nat):Out :=
 if n=c/\bytes*n<=140737488355328/\n<=maxLen then some (.ref k g (D z) 0 n,some (k,g,(en n z).flatten)) else none
def KJ (x y:Option Nat)(f:Nat->Nat->Out):Out:=match x,y with
 |some n,some m=>f n m
 |_,_=>none
def KK (n:Nat)(k:Key)(g off:Nat)(v:List R)(x:Option (Nat×List R)):Out:=match x with
 |some (ea,cs)=>if ea=g/\D v=n/\off+n<=D cs/\v.all R.one=true then some (.no,some (k,g,mz cs off v)) else none
 |none=>none
def za (mem:Mem)(n:Nat):R->List R->Out
 |.ptr k g off,v=>KK n k g off v (mem k)
 |_,_=>none
def lr (k:Key)(g:Nat)(sz len bytes:Nat)(m:Nat)(new:List R)(x:Option (Nat×List R)):Out:=match x with
 |some (ea,cs)=>if ea=g/\len*sz<=D cs/\(len+m)*bytes<=140737488355328/\len+m<=maxLen/\new.all R.one=true
   then some (.ref k (g+1) sz 0 (len+m),some (k,g+1,cs.take (len*sz)++new)) else none
 |none=>none
def sH (mem:Mem)(k:Key)(z:List R)(bytes:Nat):R->Option (Nat×List R)->Out
 |.nil,some (m,new)=>if m*bytes<=140737488355328/\m<=maxLen/\new.all R.one=true then some (.ref k (cA mem k) (D z) 0 m,some (k,cA mem k,new)) else none
 |.ref k' g eR off len,some (m,new)=>if eR=D z/\off=0 then lr k' g eR len bytes m new (mem k') else none
 |_,_=>none
def Cq (k:Key)(g sz off len:Nat)(m:Nat)(new:List R)(x:Option (Nat×List R)):Out:=match x with
 |some (ea,cs)=>if ea=g/\off+len*sz<=D cs/\new.all R.one=true then some (.I (.int .i64 ((min m len:Nat):Int)),some (k,g,mz cs off (new.take (min m len*sz)))) else none
 |none=>none
def xI (mem:Mem)(sz:Nat):R->Option (Nat×List R)->Out
 |.ref k g eR off len,some (m,new)=>if eR=sz then Cq k g sz off len m new (mem k) else none
 |_,_=>none
def cK (mem:Mem)(tm:Nat->R):kZ->Out
 |.alloc k z=>some (.ptr k (cA mem k) 0,some (k,cA mem k,z))
 |.box k x=>if (br tm x).known=true then some (.ptr k (cA mem k) 0,some (k,cA mem k,(br tm x).cells)) else none
 |.eL k true z sz len parts=>G7 k (cA mem k) z sz len (lq (br tm) z parts)
 |.mx k z bytes len cap=>KJ (idx (br tm len)) (idx (br tm cap)) (G8 k (cA mem k) z bytes)
 |.load n ey x=>j5 (rO mem n ey (br tm x))
 |.uR len sz x cP U none=>j5 (iV (kC 0 (cP.map (br tm))) λl=>iV (kC len (U.map (br tm))) λh=>Cp mem len sz l h (br tm x))
 |.store n x v=>za mem n (br tm x) (br tm v).cells
 |.app k z bytes s x=>sH mem k z bytes (br tm s) (rP mem (D z) (br tm x))
 |.tF sz d x=>xI mem sz (br tm d) (rP mem sz (br tm x))
 |op=>j5 (l0 tm op)
inductive hY where
 |same (r:Data)
 |own (sz:Nat) (es:List (List Data))
 |rel (bV:R->Mem->Prop)
 |dW (r:Data) (k:Key) (g i:Nat) (c:R)
abbrev bm:=FuncId->List R->Mem->Option hY
def jI (mem:Mem):Option (Key×Nat×List R)->Mem
 |none=>mem
 |some (k,g,cs)=>a5 mem k g cs
def sI (mem:Mem)(k:Key):List R:=match mem k with
 |some (_,cs)=>cs
 |none=>[]
def wh (T:bm)(K:bg->Prop)(st:bg)(dst:Option Nat)(f:FuncId)(args:List R):Prop :=
 match T f args st.mem with
 |some (.same r)=>K ⟨put st.tm dst (.I r),st.mem⟩
 |some (.own _ es)=>K ⟨put st.tm dst (.I (.Y es)),st.mem⟩
 |some (.rel bV)=>∀r mem',bV r mem'->K ⟨put st.tm dst r,mem'⟩
 |some (.dW r k g i c)=>K ⟨put st.tm dst (.I r),a5 st.mem k g ((sI st.mem k).set i c)⟩
 |none=>False
def Ej:R->Option Bool
 |.I (.Y es)=>some (!es.isEmpty)
 |.nil=>some false
 |.ref _ _ _ _ len=>some (decide (0<len))
 |_=>none
def hb (T:bm)(K:bg->Prop)(i:dp)(st:bg):Prop :=
 match i.op with
 |.call f args=>wh T K st i.dst f (args.map (br st.tm))
 |.oX k sz f args=>match T f (args.map (br st.tm)) st.mem with
  |some (.own eR es)=>if eR=sz then K ⟨put st.tm i.dst (.ref k (cA st.mem k) sz 0 (D es)),a5 st.mem k (cA st.mem k) (es.flatten.map .I)⟩ else False
  |_=>False
 |.nJ f args=>match br st.tm f with
  |.gX g gW=>wh T K st i.dst g (args.map (br st.tm)++gW)
  |.I (.fn g ds)=>wh T K st i.dst g (args.map (br st.tm)++ds.map .I)
  |_=>False
 |.sF neg x=>match Ej (br st.tm x) with
  |some full=>∀b:Bool,(full=true->b=false)->K ⟨put st.tm i.dst (.I (.bool (neg != b))),st.mem⟩
  |none=>False
 |op=>match cK st.mem st.tm op with
  |some (m,e)=>K ⟨put st.tm i.dst m,jI st.mem e⟩
  |none=>False
def qo (tm:Nat->R):Option (Nat×Bool)->Option Bool
 |none=>some true
 |some (s,b)=>match tm s with
  |.I (.bool t)=>some (t==b)
  |.no=>some false
  |_=>none
def zb (T:bm)(K:bg->Prop):List dp->bg->Prop
 | [],st=>K st
 |i::r,st=>match qo st.tm i.g with
  |none=>False
  |some g=>if g=true then hb T (zb T K r) i st else zb T K r ⟨put st.tm i.dst .no,st.mem⟩
def keyOf:R->List Key
 |.ref k ..=>[k]
 |.ptr k ..=>[k]
 |_=>[]
inductive qp where
 |jx (k:Key)
 |rd (k:Key) (a b:Nat)
 |wr (k:Key) (i:Nat)
def qp.key:qp->Key
 |.jx k=>k
 |.rd k _ _=>k
 |.wr k _=>k
def sJ:qp->qp->Bool
 |.jx k,.jx k' => !(k==k')
 |.jx k,.rd k' _ _ => !(k==k')
 |.rd k _ _,.jx k' => !(k==k')
 |.rd _ _ _,.rd _ _ _=>true
 |.rd k a b,.wr k' i => !(k==k')||(decide (i<a)||decide (b<=i))
 |.wr k' i,.rd k a b => !(k==k')||(decide (i<a)||decide (b<=i))
 |.wr _ _,.wr _ _=>false
 |.jx _,.wr _ _=>false
 |.wr _ _,.jx _=>false
def G9 (n:Nat):R->List qp
 |.ref k ..=>[.jx k]
 |.ptr k _ off=>[.rd k off (off+n)]
 |_=>[]
def KL (cP:Nat):List R->List qp
 |.ptr k _ off::_=>[.wr k (off+cP)]
 |_=>[]
def eK (tm:Nat->R):kZ->List qp
 |.load n _ x=>G9 n (br tm x)
 |.uR _ _ x _ _ _=>(keyOf (br tm x)).map .jx
 |.store _ x _=>(keyOf (br tm x)).map .jx
 |.alloc k _=>[.jx k]
 |.box k _=>[.jx k]
 |.eL k true _ _ _ _=>[.jx k]
 |.mx k _ _ _ _=>[.jx k]
 |.oX k _ _ _=>[.jx k]
 |.app k _ _ s x => .jx k::((keyOf (br tm s)).map .jx++(keyOf (br tm x)).map .jx)
 |.tF _ d x=>(keyOf (br tm d)).map .jx++(keyOf (br tm x)).map .jx
 |.nm cP _ args=>KL cP (args.map (br tm))
 |_=>[]
def kD:kZ->Bool
 |.store ..=>true
 |.alloc ..=>true
 |.box ..=>true
 |.eL _ true _ _ _ _=>true
 |.mx ..=>true
 |.oX ..=>true
 |.app ..=>true
 |.tF ..=>true
 |.nm ..=>true
 |_=>false
def Cr:R->R
 |.I d => .I d
 |.nil => .nil
 |.gX f [] => .gX f []
 |.agg cs=>match cs.mapM Ei with
  |some ds => .I (.agg ds)
  |none => .undef
 |_ => .undef
def Ha (cP:Nat)(mem:Mem):List R->Option hY->Option (R×Option (Key×Nat×List R))
 |.ptr k _ off::_,some (.dW r k' ea i c)=>match mem k with
  |some (g,cs)=>if k'=k/\ea=g/\i=off+cP then some (.I r,some (k,g,cs.set i c)) else none
  |none=>none
 |_,_=>none
def kp (T:bm)(mem:Mem)(tm:Nat->R):kZ->Option (R×Option (Key×Nat×List R))
 |.call f args=>match T f (args.map λx=>Cr (br tm x)) emp with
  |some (.same r)=>some (.I r,none)
  |some (.own _ es)=>some (.I (.Y es),none)
  |_=>none
 |.oX k sz f args=>match T f (args.map λx=>Cr (br tm x)) emp with
  |some (.own eR es)=>if eR=sz then some (.ref k (cA mem k) sz 0 (D es),some (k,cA mem k,es.flatten.map .I)) else none
  |_=>none
 |.nJ ..=>none
 |.sF ..=>none
 |.nm cP f args=>Ha cP mem (args.map (br tm)) (T f (args.map (br tm)) mem)
 |op=>cK mem tm op
abbrev Rec:=Nat->Option (Bool×List qp)
def sK (a b:Bool×List qp):Bool:=!(a.1||b.1)||a.2.all λx=>b.2.all λy=>sJ x y
def Hb (rec:Rec)(p:Bool×List qp)(c:List Nat):Bool:=c.all λi=>match rec i with
 |none=>true
 |some q=>sK q p
def wi (rec:Rec)(n:Nat)(p:Bool×List qp):Rec:=λi=>if i=n then some p else rec i
def xJ (T:bm)(K:bg->Prop):Nat->List dp->List (List Nat)->Rec->bg->Prop
 |_,[],_,_,st=>K st
 |n,i::r,cs,rec,st=>match qo st.tm i.g with
  |none=>False
  |some g=>if g=true then (match kp T st.mem st.tm i.op with
    |some (m,e)=>Hb rec (kD i.op,eK st.tm i.op) (cs.headD [])=true/\xJ T K (n+1) r cs.tail (wi rec n (kD i.op,eK st.tm i.op)) ⟨put st.tm i.dst m,jI st.mem e⟩
    |none=>False) else xJ T K (n+1) r cs.tail rec ⟨put st.tm i.dst .no,st.mem⟩
inductive eF where
 |normal
 |exit (id:Nat)
 |ret
def dx:Nat->Mem->R->Option Data
 |_,_,.I d=>some d
 |_,_,.nil=>some (.Y [])
 |0,_,_=>none
 |n+1,mem,.ref k g sz off len=>match mem k with
  |some (ea,cs)=>if ea=g then (match cut cs off (len*sz) with
   |some part=>(part.mapM (dx n mem)).map λds => .Y (chunk sz len ds)
   |none=>none) else none
  |none=>none
 |n+1,mem,.ptr k g off=>match mem k with
  |some (ea,cs)=>if ea=g/\off<=(D cs) then ((cs.drop off).mapM (dx n mem)).map .ptr else none
  |none=>none
 |n+1,mem,.gX f cs=>(cs.mapM (dx n mem)).map (.fn f)
 |n+1,mem,.agg cs=>(cs.mapM (dx n mem)).map .agg
 |n+1,mem,.cB cs=>(cs.mapM (dx n mem)).map .cB
 |_,_,.no=>none
 |_,_,.undef=>none
def kill (mem:Mem)(k:Key):Mem:=a5 mem k (cA mem k) []
def xK (cs:List R):Bool:=cs.all λm=>(Ei m).isSome
inductive tG (mem:Mem):Mem->Prop
 |O1 (fI gB:Nat) (gC:List R) (i k g sz off len:Nat) (cs:List R) (k':Nat) (G:mem fI=some (gB,gC)) (J:gC[i]?=some (.ref k g sz off len)) (af:mem k=some (g,cs)) (aP:k≠fI) (bh:k'≠k) (bK:k'≠fI) :
   tG mem (a5 (a5 (a5 mem k (cA mem k) []) k' (cA mem k') cs) fI gB (gC.set i (.ref k' (cA mem k') sz off len)))
 |ad8 (fI gB:Nat) (gC:List R) (i k g off:Nat) (cs:List R) (k':Nat) (G:mem fI=some (gB,gC)) (J:gC[i]?=some (.ptr k g off)) (af:mem k=some (g,cs)) (aP:k≠fI) (bh:k'≠k) (bK:k'≠fI) :
   tG mem (a5 (a5 (a5 mem k (cA mem k) []) k' (cA mem k') cs) fI gB (gC.set i (.ptr k' (cA mem k') off)))
 |O2 (fI gB:Nat) (gC:List R) (i k g sz off len:Nat) (cs:List R) (d:Data) (G:mem fI=some (gB,gC)) (J:gC[i]?=some (.ref k g sz off len)) (af:mem k=some (g,cs)) (aP:k≠fI) (bh:dx 1 mem (.ref k g sz off len)=some d) :
   tG mem (a5 (kill mem k) fI gB (gC.set i (.I d)))
inductive uS:Mem->Mem->Prop
 |refl (mem:Mem):uS mem mem
 |step {mem KM ad9:Mem} (h:tG mem KM) (cv:uS KM ad9):uS mem ad9
def k1 (K:bg->Prop)(st:bg):OW->Prop
 |.nn s k sz=>match st.tm s with
  |.nil=>K ⟨dW st.tm s (.ref k (cA st.mem k) sz 0 0),a5 st.mem k (cA st.mem k) []⟩
  |_=>False
 |.Cn x i k sz=>match br st.tm x with
  |.ptr kc g off=>match st.mem kc with
   |some (ea,cs)=>if ea=g then (match cs[off+i]? with
    |some .nil=>if k≠kc then K ⟨st.tm,a5 (a5 st.mem k (cA st.mem k) []) kc g (cs.set (off+i) (.ref k (cA st.mem k) sz 0 0))⟩ else False
    |_=>False) else False
   |none=>False
  |_=>False
 |.freeze s=>match st.tm s with
  |.ref k g _ _ _=>match st.mem k with
   |some (ea,cs)=>if ea=g/\xK cs=true then (match dx 1 st.mem (st.tm s) with
    |some d=>K ⟨dW st.tm s (.I d),kill st.mem k⟩
    |none=>False) else False
   |none=>False
  |_=>False
 |.Eh x i=>match br st.tm x with
  |.ptr kc gc off=>match st.mem kc with
   |some (KN,cc)=>if KN=gc then (match cc[off+i]? with
    |some (.ref k g sz o len)=>match st.mem k with
     |some (ea,cs)=>if ea=g/\xK cs=true/\k≠kc then (match dx 1 st.mem (.ref k g sz o len) with
      |some d=>K ⟨st.tm,a5 (kill st.mem k) kc gc (cc.set (off+i) (.I d))⟩
      |none=>False) else False
     |none=>False
    |_=>False) else False
   |none=>False
  |_=>False
 |.move=>K st\/(∃fI gB gC i k g sz off len cs k',st.mem fI=some (gB,gC)/\gC[i]?=some (.ref k g sz off len)/\st.mem k=some (g,cs)/\k≠fI/\k'≠k/\k'≠fI /\
   K ⟨st.tm,a5 (a5 (a5 st.mem k (cA st.mem k) []) k' (cA st.mem k') cs) fI gB (gC.set i (.ref k' (cA st.mem k') sz off len))⟩) \/
   ∃fI gB gC i k g sz off len cs d,st.mem fI=some (gB,gC)/\gC[i]?=some (.ref k g sz off len)/\st.mem k=some (g,cs)/\xK cs=true/\k≠fI/\dx 1 st.mem (.ref k g sz off len)=some d /\
   K ⟨st.tm,a5 (kill st.mem k) fI gB (gC.set i (.I d))⟩
 |.many=>∃mem',uS st.mem mem'/\K ⟨st.tm,mem'⟩
def wp (T:bm):ep->(eF->bg->Prop)->bg->Prop
 |.skip,K,st=>K .normal st
 |.ops l,K,st=>zb T (K .normal) l st
 |.my l c,K,st=>xJ T (K .normal) 0 l c (λ_=>none) st
 |.seq a b,K,st=>wp T a (λe er=>match e with
  |.normal=>wp T b K er
  |e=>K e er) st
 |.cond c a b,K,st=>match br st.tm c with
  |.I (.bool t)=>if t=true then wp T a K st else wp T b K st
  |_=>False
 |.block id c,K,st=>wp T c (λe er=>match e with
  |.exit j=>if j=id then K .normal er else K (.exit j) er
  |e=>K e er) st
 |.loop c,K,st=>∃(Ek:bg->Prop) (μ:bg->Nat),Ek st/\∀st,Ek st->wp T c (λe er=>match e with
  |.normal=>Ek er/\μ er<μ st
  |e=>K e er) st
 |.exit id,K,st=>K (.exit id) st
 |.ret,K,st=>K .ret st
 |.ghost g c,K,st=>k1 (wp T c K) st g
def Hc (st:bg):pF->Option R
 |.t s=>some (st.tm s)
 |.cell s n ey=>rO st.mem n ey (st.tm s)
def qW (st:bg)(l:List pF):Option R :=
 match l.mapM (Hc st) with
 |some [m]=>some m
 |some ms=>some (.cB ms)
 |none=>none
def l1 (args:List R):Nat->R:=λs=>match args[s]? with
 |some m=>m
 |none => .no
def KO:Value->Option R
 |.int k n=>some (.I (.int k n))
 |.bool b=>some (.I (.bool b))
 |.string s=>some (.I (.str s.data.toList))
 |.slice none 0 0=>some .nil
 |.pointer none=>some (.I .we)
 |.nilFunc=>some (.I .xH)
 |_=>none
def Uo:Value->Option R
 |.agg cs=>(cs.toList.mapM KO).map .agg
 |v=>KO v
def eB:Operand->Option cd
 |.tmp t=>some (.t t)
 |.const v=>(Uo v).map .c
 |.func f=>some (.c (.gX f []))
 |.global _=>none
def zeroOf (P:Program)(t:TypeId):Option (List R):=((P.info? t).bind (·.zero)).bind λz=>z.cells.toList.mapM KO
def gZ (P:Program)(t:TypeId):Option Nat:=(P.info? t).map (·.size)
def Hd (P:Program)(t:TypeId):Option Nat:=(P.info? t).map (·.bytes)
def AF (P:Program)(t:TypeId):Option Bool:=(P.underlying t).map fun|.struct _=>true|.array _ _=>true|_=>false
def partsOf (place:Nat->Option (Nat×Nat))(l:List (Nat×Operand)):Option (List (Nat×Nat×cd)) :=
 l.mapM λ(i,x)=>do
  let (o,s) <-place i
  let y <-eB x
  pure (o,s,y)
def wj (P:Program)(eb:Array Field)(i:Nat):Option (Nat×Nat):=do
 let f <-eb[i]?
 let s <-gZ P f.type
 pure (f.offset,s)
def KP (P:Program)(t:TypeId):Option Nat :=
 match P.underlying t with
 |some .bool=>some 0
 |some (.int _)=>some 1
 |some .string=>some 2
 |_=>none
def He (P:Program):Nat->List Field->Option (List Nat)
 |_,[]=>some []
 | i, f :: r => if f.name ≠ "_" /\ f.offset = i then (match KP P f.type, He P (i + 1) r with
  |some k,some hl=>some (k::hl)
  |_,_=>none) else none
def AG (P:Program)(t:TypeId)(eb:Array Field)(neg:Bool)(x y:Operand):Option kZ :=
 if P.stoodInHeld t=false/\P.eqGuardType P.depth t=false then (match He P 0 eb.toList,eB x,eB y with
  |some hl,some x,some y=>some (.eqs neg hl x y)
  |_,_,_=>none) else none
def Up:Operand->Bool
 |.const (.slice none 0 0)=>true
 |_=>false
def El (P:Program)(op:BinOp)(t:TypeId)(x y:Operand):Option kZ :=
 match P.underlying t with
 |some (.int _)=>match eB x,eB y with
  |some x,some y=>some (.bin op x y)
  |_,_=>none
 |some .string=>match eB x,eB y with
  |some x,some y=>some (.bin op x y)
  |_,_=>none
 |some .bool=>match op,eB x,eB y with
  |.eql,some x,some y=>some (.beq false x y)
  |.neq,some x,some y=>some (.beq true x y)
  |_,_,_=>none
 |some (.struct eb)=>match op with
  |.eql=>AG P t eb false x y
  |.neq=>AG P t eb true x y
  |_=>none
 |some (.slice _)=>if Up y=true then (match op with
  |.eql=>(eB x).map (.sF false)
  |.neq=>(eB x).map (.sF true)
  |_=>none) else none
 |_=>none
def uT:Option Operand->Option (Option cd)
 |none=>some none
 |some x=>(eB x).map some
def Cs (P:Program)(kb:Nat)(own:List Nat)(dst:Option Nat)(type:TypeId)(c:Call):Option kZ :=
 match c.callee,c.args.toList,c.argTypes.toList with
 |.builtin .len,[x],[t]=>match P.underlying t with
  |some (.slice _)=>(eB x).map .len
  |some .string=>(eB x).map .lens
  |_=>none
 |.builtin .append,[s,x],[t,u]=>match P.underlying t,P.underlying u with
  |some (.slice e),some (.slice _)=>do
   let z <-zeroOf P e
   let b <-Hd P e
   let n <-gZ P e
   let d <-dst
   let s <-eB s
   let x <-eB x
   if (D z)=n/\0<n/\t=u then pure (.app (kb+d) z b s x) else none
  |_,_=>none
 |.builtin .copy,[d,x],[t,u]=>match P.underlying t,P.underlying u with
  |some (.slice e),some (.slice _)=>do
   let n <-gZ P e
   if 0<n then pure (.tF n (<-eB d) (<-eB x)) else none
  |_,_=>none
 |.builtin .max,[x,y],_=>do pure (.jH true (<-eB x) (<-eB y))
 |.builtin .min,[x,y],_=>do pure (.jH false (<-eB x) (<-eB y))
 |.value (.func f),l,_=>if dst.any (λd=>own.contains d) then (match P.underlying type with
   |some (.slice e)=>do pure (.oX (kb+(<-dst)) (<-gZ P e) f (<-l.mapM eB))
   |_=>none) else match own.find? (λo=>decide (1000000<=o)&&dst==some (o%1000000)) with
   |some o=>do pure (.nm (o/1000000-1) f (<-l.mapM eB))
   |none=>do pure (.call f (<-l.mapM eB))
 |.value f,l,_=>do pure (.nJ (<-eB f) (<-l.mapM eB))
 |_,_,_=>none
def np (P:Program)(kb:Nat)(own:List Nat)(dst:Option Nat)(type:TypeId):Op->Option kZ
 |.move x=>(eB x).map .b8
 |.assign x=>(eB x).map .b8
 |.pick c a b=>do pure (.pick (<-eB c) (<-eB a) (<-eB b))
 |.alloc e=>do pure (.alloc (kb+(<-dst)) (<-zeroOf P e))
 |.box _ x=>do pure (.box (kb+(<-dst)) (<-eB x))
 |.build t dM=>match P.underlying t with
  |some (.struct eb)=>if (eb.toList.all λf=>(gZ P f.type).isSome)=true then do pure (.build (<-zeroOf P t) (<-partsOf (wj P eb) dM.toList)) else none
  |some (.array _ e)=>do
   let s <-gZ P e
   pure (.build (<-zeroOf P t) (<-partsOf (λi=>some (i*s,s)) dM.toList))
  |_=>none
 |.buildSlice t len dM=>match P.underlying t with
  |some (.slice e)=>do
   let z <-zeroOf P e
   let s <-gZ P e
   let dM <-partsOf (λi=>some (i*s,s)) dM.toList
   let d <-dst
   if (D z)=s/\0<s/\len*s<=16777216 then pure (.eL (kb+d) (own.contains d) ((en len z).flatten) s len dM) else none
  |_=>none
 |.load t x=>do pure (.load (<-gZ P t) (<-AF P t) (<-eB x))
 |.store t x v=>do pure (.store (<-gZ P t) (<-eB x) (<-eB v))
 |.binOp op t x y _=>El P op t x y
 |.unOp op _ x=>(eB x).map (.un op)
 |.nilCheck x=>(eB x).map .n7
 |.convert s t x=>match P.underlying s,P.underlying t with
  |some (.int _),some (.int k)=>(eB x).map (.conv k)
  |_,_=>none
 |.makeFunc (.func f) fst gW=>if fst.size=0 then do pure (.wg f (<-gW.toList.mapM eB)) else none
 |.makeSlice t l c=>match P.underlying t with
  |some (.slice e)=>do
   let z <-zeroOf P e
   let s <-gZ P e
   let b <-Hd P e
   let d <-dst
   if (D z)=s/\0<s then pure (.mx (kb+d) z b (<-eB l) (<-eB c)) else none
  |_=>none
 |.slice t x cP U k0=>match P.underlying t with
  |some (.slice e)=>do
   let s <-gZ P e
   if 0<s then pure (.tE s (<-eB x) (<-uT cP) (<-uT U) (<-uT k0)) else none
  |some (.array n e)=>do
   let s <-gZ P e
   if 0<s/\n<=16777216 then pure (.uR n s (<-eB x) (<-uT cP) (<-uT U) (<-uT k0)) else none
  |some .string=>if k0.isNone then do pure (.Eg (<-eB x) (<-uT cP) (<-uT U)) else none
  |_=>none
 |.fieldAddr t x f=>match P.underlying t with
  |some (.struct eb)=>do
   let (o,s) <-wj P eb f
   if 0<s then pure (.dQ o (<-eB x)) else none
  |_=>none
 |.field t x f=>match P.underlying t with
  |some (.struct eb)=>do
   let fd <-eb[f]?
   let (o,s) <-wj P eb f
   pure (.Ef o s (<-AF P fd.type) (<-eB x))
  |_=>none
 |.indexAddr t x i=>match P.underlying t with
  |some (.slice e)=>do
   let s <-gZ P e
   if 0<s then pure (.ij s (<-eB x) (<-eB i)) else none
  |some (.array n e)=>do
   let s <-gZ P e
   if 0<s then pure (.qn n s (<-eB x) (<-eB i)) else none
  |_=>none
 |.index t x i=>match P.underlying t with
  |some .string=>do pure (.idxs (<-eB x) (<-eB i))
  |_=>none
 |.extract x i=>(eB x).map (.ext i)
 |.call c=>Cs P kb own dst type c
 |_=>none
def KQ (ops:Array Oper):Option (Nat×Bool)->Option (Option (Nat×Bool))
 |none=>some none
 |some (j,b)=>match (ops[j]?).bind (·.dst) with
  |some s=>some (some (s,b))
  |none=>none
def Ct (P:Program)(n kb:Nat)(own:List Nat)(ops:Array Oper)(o:Oper):Option dp :=
 match KQ ops o.guard with
 |some g=>if o.dst.all (λd=>decide (d<n))=true then some ⟨o.dst,g,(np P kb own o.dst o.type o.op).getD .bad⟩ else none
 |_=>none
def tH (m:kZ):Nat:=match m with
 |.load ..=>1
 |.uR ..=>1
 |m=>if kD m=true then 2 else 0
def AH (a b:Nat):Bool:=a==0||b==0||(a==1&&b==1)
def fT:cd->List Nat
 |.t s=>[s]
 |.c _=>[]
def zc:Option cd->List Nat
 |some (.t s)=>[s]
 |_=>[]
def zd:kZ->List Nat
 |.b8 x=>fT x
 |.pick c a b=>fT c++fT a++fT b
 |.alloc _ _=>[]
 |.box _ x=>fT x
 |.build _ dM=>dM.flatMap λp=>fT p.2.2
 |.eL _ _ _ _ _ dM=>dM.flatMap λp=>fT p.2.2
 |.load _ _ x=>fT x
 |.store _ x v=>fT x++fT v
 |.bin _ x y=>fT x++fT y
 |.beq _ x y=>fT x++fT y
 |.eqs _ _ x y=>fT x++fT y
 |.sF _ x=>fT x
 |.un _ x=>fT x
 |.conv _ x=>fT x
 |.n7 x=>fT x
 |.mx _ _ _ x y=>fT x++fT y
 |.dQ _ x=>fT x
 |.Ef _ _ _ x=>fT x
 |.ij _ x i=>fT x++fT i
 |.qn _ _ x i=>fT x++fT i
 |.idxs x i=>fT x++fT i
 |.tE _ x a b c=>fT x++zc a++zc b++zc c
 |.uR _ _ x a b c=>fT x++zc a++zc b++zc c
 |.Eg x a b=>fT x++zc a++zc b
 |.ext _ x=>fT x
 |.len x=>fT x
 |.lens x=>fT x
 |.app _ _ _ s x=>fT s++fT x
 |.tF _ s x=>fT s++fT x
 |.jH _ x y=>fT x++fT y
 |.call _ l=>l.flatMap fT
 |.oX _ _ _ l=>l.flatMap fT
 |.nJ f l=>fT f++l.flatMap fT
 |.nm _ _ l=>l.flatMap fT
 |.wg _ l=>l.flatMap fT
 |.bad=>[]
def Cu (i:dp):List Nat:=zd i.op++(match i.g with|some (s,_)=>[s]|none=>[])
def ze (x y:dp):Bool :=
 (
  match x.dst with
  |some d => !(Cu y).contains d&&y.dst != some d
  |none=>true) &&
 (
  match y.dst with
  |some d => !(Cu x).contains d
  |none=>true)
def rQ:List Oper->List Nat->List Nat
 | [],acc=>acc
 |o::r,acc=>rQ r (acc++[o.after.toList.foldl (λs e=>if Region.binds .any e=true then s ||| (2^e.on ||| acc.getD e.on 0) else s) 0])
def Hf:List dp->List dp->List Nat->Bool
 |_,[],_=>true
 |pre,c::cs,a::as=>(pre.zipIdx.all λ(p,i)=>a.testBit i||ze p c)&&Hf (pre++[c]) cs as
 |_,_::_,[]=>false
def Hg:Nat->List Oper->Bool
 |_,[]=>true
 |n,o::r=>(o.after.all λe => !Region.binds .any e||decide (e.on<n))&&Hg (n+1) r
def Hh (ops:Array Oper)(l:List dp):Bool:=Hg 0 ops.toList&&Hf [] l (rQ ops.toList [])
def AJ:List dp->List dp->List Nat->List (List Nat)
 |_,[],_=>[]
 |pre,c::cs,as=>((pre.zipIdx.filter λ(p,i) => !((as.headD 0).testBit i||AH (tH p.op) (tH c.op))).map (·.2))::AJ (pre++[c]) cs as.tail
def rR (P:Program)(n kb:Nat)(own:List Nat):Code->Option ep
 |.skip=>some .skip
 |.region _ ops draw=>match ops.toList.mapM (Ct P n kb own ops) with
  |some l=>if draw=true then (if Hh ops l=true then some (.my l (AJ [] l (rQ ops.toList []))) else none) else some (.ops l)
  |none=>none
 |.seq a b=>match rR P n kb own a,rR P n kb own b with
  |some x,some y=>some (.seq x y)
  |_,_=>none
 |.cond c a b=>match eB c,rR P n kb own a,rR P n kb own b with
  |some c,some x,some y=>some (.cond c x y)
  |_,_,_=>none
 |.block id c=>(rR P n kb own c).map (.block id)
 |.loop c=>(rR P n kb own c).map .loop
 |.exit id=>some (.exit id)
 |.ret=>some .ret
 |_=>none
def Hi (P:Program):ResultVar->Option pF
 |.tmp t=>some (.t t)
 |.cell a t=>match gZ P t,AF P t with
  |some s,some g=>some (.cell a s g)
  |_,_=>none
def tI (P:Program)(kb:Nat)(own:List Nat)(f:Func):Option b1 :=
 match f.body with
 |none=>none
 |some c=>match rR P f.ntmps kb own c,f.results.toList.mapM (Hi P) with
  |some b,some r=>some { n:=f.ntmps,aoU:=f.params.size+f.nfree,res:=r,body:=b }
  |_,_=>none
structure fm (A:Nat->Prop) (w:World) (B:ft) (aV:World) (bR:ft) (mem':Mem):Prop where
 e0:gk A aV bR mem'
 n8:Trans A w B aV bR
 aE:Fr (tD B) w aV
 fresh:∀b,tD bR b->tD B b\/w.heap.size<=b
theorem fm.still {A:Nat->Prop}{w aV:World}{B:ft}{mem:Mem}(h:gk A w B mem)(f:Fr (λ_=>False) w aV):fm A w B aV B mem:=by
 have n8:Trans A w B aV B:=⟨f.size,λb ai bS=>⟨f.block b ai id,λM=>bS (.inl M)⟩,λ_ e he=>⟨e,he,.inl rfl⟩⟩;refine⟨⟨h.Cl,h.inj,h.sep,λb ai=>Ee (h.lt b ai) f.size,λk g cs hm=>?_⟩,n8,⟨f.os,f.tape,f.output,f.size,λb ai _=>f.block b ai id⟩,λb ai => .inl ai⟩;obtain⟨e,he,bq,aM,ai⟩:=h.ek k g cs hm;refine⟨e,he,bq,aM,λb lu=>?_⟩;obtain⟨vs,T,G,J,af,aP⟩:=ai b lu;have av:b<w.heap.size:=(Array.getElem?_eq_some_iff.1 G).1;exact⟨vs,T,(f.block b av id).trans G,J,af,λi m hm=>let ⟨v,aN,X⟩:=aP i m hm;⟨v,aN,X.tC n8⟩⟩
theorem fm.refl {A:Nat->Prop}{w:World}{B:ft}{mem:Mem}(h:gk A w B mem):fm A w B w B mem:=.still h (Fr.refl _ _)
def hN (B:ft)(k:Key)(e:nk):ft:=λj=>if j=k then some e else B j
theorem h7 (B:ft)(k:Key)(e:nk):hN B k e k=some e:=by simp[hN]
theorem hZ (B:ft){k j:Key}(e:nk)(h:j≠k):hN B k e j=B j:=by simp[hN,h]
section
variable {A:Nat->Prop} {w aV:World} {B:ft} {mem:Mem} {k:Key} {e':nk} {cs:List R}
theorem Trans.change (fy:w.heap.size<=aV.heap.size)
  (hold:∀b,b<w.heap.size->(∀e,B k=some e->e.ek≠some b)->aV.heap[b]?=w.heap[b]?)
  (bq:∀e,B k=some e->e'=e\/e.g<e'.g)
  (fz:∀b,e'.ek=some b->w.heap.size<=b\/∃e,B k=some e/\e.ek=some b):Trans A w B aV (hN B k e'):=by
 refine⟨fy,λb ai bS=>⟨hold b ai λe he M=>bS (.inl ⟨k,e,he,M⟩),?_⟩,λj e he=>?_⟩
 ·rintro⟨j,e,he,M⟩
  by_cases ax:j=k
  ·subst ax;rw[h7] at he
   cases he;rcases fz b M with G|⟨e,G,J⟩
   ·omega
   ·exact bS (.inl ⟨_,e,G,J⟩)
  ·rw[hZ B e' ax] at he;exact bS (.inl ⟨j,e,he,M⟩)
 ·by_cases ax:j=k
  ·subst ax;exact⟨e',h7 _ _ _,bq e he⟩
  ·exact⟨e,(hZ B e' ax).trans he,.inl rfl⟩
theorem Uq (fz:∀b,e'.ek=some b->w.heap.size<=b\/∃e,B k=some e/\e.ek=some b)(b:Nat)(h:tD (hN B k e') b):tD B b\/w.heap.size<=b:=by
 obtain⟨j,e,he,M⟩:=h
 by_cases ax:j=k
 ·subst ax;rw[h7] at he
  cases he;rcases fz b M with G|⟨e,G,J⟩
  ·exact .inr G
  ·exact .inl ⟨_,e,G,J⟩
 ·rw[hZ B e' ax] at he;exact .inl ⟨j,e,he,M⟩
theorem gk.aea (h:gk A w B mem)(fy:w.heap.size<=aV.heap.size)
  (hold:∀b,b<w.heap.size->(∀e,B k=some e->e.ek≠some b)->aV.heap[b]?=w.heap[b]?)
  (bq:∀e,B k=some e->e'=e\/e.g<e'.g)
  (fz:∀b,e'.ek=some b->w.heap.size<=b\/∃e,B k=some e/\e.ek=some b)
  (aM:e'.ek=none->cs=[])
  (H:∀b,e'.ek=some b->∃vs T,aV.heap[b]?=some (.cells vs T (0,0))/\vs.size=e'.size/\D cs<=vs.size /\
   ∀(i:Nat) (m:R),cs[i]?=some m->∃v,vs[i]?=some v/\bO aV (cU A (hN B k e')) (hN B k e') m v):gk A aV (hN B k e') (a5 mem k e'.g cs):=by
 have n8:Trans A w B aV (hN B k e'):=Trans.change fy hold bq fz;have fresh:=Uq (w:=w) fz;refine⟨λj ax=>?_,λj n9 e aA b he fH ai e1=>?_,λb a4 bS=>?_,λb ai=>Ee (h.lt b ai) fy,λj g rS hm=>?_⟩
 ·by_cases ga:j=k
  ·subst ga;simp[a5] at ax
  ·simp only[a5,ga,if_false] at ax;rw[hZ B e' ga];exact h.Cl j ax
 ·by_cases ga:j=k<;>by_cases hjk':n9=k
  ·rw[ga,hjk']
  ·subst ga;rw[h7] at he
   cases he;rw[hZ B e' hjk'] at fH;rcases fz b ai with G|⟨e,G,J⟩
   ·have:=h.Cm ⟨n9,aA,fH,e1⟩;omega
   ·exact h.inj _ _ e aA b G fH J e1
  ·subst hjk';rw[h7] at fH
   cases fH;rw[hZ B e' ga] at he;rcases fz b e1 with G|⟨bQ,G,J⟩
   ·have:=h.Cm ⟨j,e,he,ai⟩;omega
   ·exact h.inj _ _ e bQ b he G ai J
  ·rw[hZ B e' ga] at he;rw[hZ B e' hjk'] at fH;exact h.inj j n9 e aA b he fH ai e1
 ·rcases fresh b bS with G|G
  ·exact h.sep b a4 G
  ·have:=h.lt b a4;omega
 ·by_cases ga:j=k
  ·subst ga;simp only[a5,if_true,cO,fJ] at hm;obtain⟨rfl,rfl⟩:=hm;refine⟨e',h7 _ _ _,rfl,aM,λb ai=>?_⟩;obtain⟨vs,T,G,J,af,aP⟩:=H b ai;exact⟨vs,T,G,J,af,aP⟩
  ·simp only[a5,ga,if_false] at hm;obtain⟨e,he,Ur,aoV,nq⟩:=h.ek j g rS hm;refine⟨e,(hZ B e' ga).trans he,Ur,aoV,λb ai=>?_⟩;obtain⟨vs,T,G,J,af,aP⟩:=nq b ai;have av:b<w.heap.size:=(Array.getElem?_eq_some_iff.1 G).1;have tJ:aV.heap[b]?=w.heap[b]?:=hold b av λbQ af aP=>ga (h.inj j k e bQ b he af ai aP);exact⟨vs,T,tJ.trans G,J,af,λi m hm=>let ⟨v,aN,X⟩:=aP i m hm;⟨v,aN,X.tC n8⟩⟩
theorem gk.change (h:gk A w B mem)(fy:w.heap.size<=aV.heap.size)
  (hold:∀b,b<w.heap.size->(∀e,B k=some e->e.ek≠some b)->aV.heap[b]?=w.heap[b]?)
  (bq:∀e,B k=some e->e'=e\/e.g<e'.g)
  (fz:∀b,e'.ek=some b->w.heap.size<=b\/∃e,B k=some e/\e.ek=some b)
  (aM:e'.ek=none->cs=[])
  (H:∀b,e'.ek=some b->∃vs T,aV.heap[b]?=some (.cells vs T (0,0))/\vs.size=e'.size/\D cs<=vs.size /\
   ∀(i:Nat) (m:R),cs[i]?=some m->∃v,vs[i]?=some v/\bO w (cU A B) B m v):gk A aV (hN B k e') (a5 mem k e'.g cs) :=
 h.aea fy hold bq fz aM λb ai=>by
  have n8:Trans A w B aV (hN B k e'):=Trans.change fy hold bq fz;obtain⟨vs,T,G,J,af,aP⟩:=H b ai;exact⟨vs,T,G,J,af,λi m hm=>let ⟨v,aN,X⟩:=aP i m hm;⟨v,aN,X.tC n8⟩⟩
theorem fm.change (h:gk A w B mem)(f:Fr (λb=>∃e,B k=some e/\e.ek=some b) w aV)
  (bq:∀e,B k=some e->e'=e\/e.g<e'.g)
  (fz:∀b,e'.ek=some b->w.heap.size<=b\/∃e,B k=some e/\e.ek=some b)
  (aM:e'.ek=none->cs=[])
  (H:∀b,e'.ek=some b->∃vs T,aV.heap[b]?=some (.cells vs T (0,0))/\vs.size=e'.size/\D cs<=vs.size /\
   ∀(i:Nat) (m:R),cs[i]?=some m->∃v,vs[i]?=some v/\bO w (cU A B) B m v):fm A w B aV (hN B k e') (a5 mem k e'.g cs):=by
 have hold:∀b,b<w.heap.size->(∀e,B k=some e->e.ek≠some b)->aV.heap[b]?=w.heap[b]? :=
  λb ai M=>f.block b ai fun⟨e,he,lu⟩=>M e he lu
 exact⟨h.change f.size hold bq fz aM H,Trans.change f.size hold bq fz,⟨f.os,f.tape,f.output,f.size,λb ai bS=>f.block b ai fun⟨e,he,lu⟩=>bS ⟨k,e,he,lu⟩⟩,Uq fz⟩
theorem Hj (h:gk A w B mem)(k:Key)(e:nk)(he:B k=some e):e.g<cA mem k:=by
 cases hm:mem k with
 |none=>rw[h.Cl k hm] at he;cases he
 |some x =>
  obtain⟨g,cs⟩:=x;obtain⟨aA,G,J,_⟩:=h.ek k g cs hm;rw[G] at he
  cases he;simp[cA,hm,J]
theorem fm.alloc (h:gk A w B mem)(w1:World)(f:Fr (λ_=>False) w w1)(a2:w1.heap.size=w.heap.size)(k:Key)(vs:Array Value)(T:TypeId)(az:(D cs)<=vs.size)
  (H:∀(i:Nat) (m:R),cs[i]?=some m->∃v,vs[i]?=some v/\bO w (cU A B) B m v) :
  fm A w B (w1.alloc (.cells vs T)) (hN B k ⟨cA mem k,some w.heap.size,vs.size⟩) (a5 mem k (cA mem k) cs):=by
 have f2:Fr (λ_=>False) w (w1.alloc (.cells vs T)):=f.alloc _;refine fm.change (e':=⟨cA mem k,some w.heap.size,vs.size⟩) h ⟨f2.os,f2.tape,f2.output,f2.size,λb ai _=>f2.block b ai id⟩ (λe he => .inr (Hj h k e he)) (λb ai => .inl ?_) (by simp) ?_
 ·simp at ai;omega
 ·intro b ai;simp at ai;subst ai;exact⟨vs,T,by rw[<-a2];exact heap_alloc_new w1 _,rfl,az,H⟩
theorem fm.AK (h:gk A w B mem)(k:Key):fm A w B w (hN B k ⟨cA mem k,none,0⟩) (a5 mem k (cA mem k) []) :=
 fm.change (e':=⟨cA mem k,none,0⟩) h ⟨rfl,rfl,rfl,cI _,λ_ _ _=>rfl⟩ (λe he => .inr (Hj h k e he)) (λb ai=>by simp at ai) (λ_=>rfl) (λb ai=>by simp at ai)
end
theorem fm.trans {A:Nat->Prop}{w w1 ql:World}{B Ec Ed:ft}{ef bX:Mem}(h:fm A w B w1 Ec ef)(cv:fm A w1 Ec ql Ed bX):fm A w B ql Ed bX:=by
 refine⟨cv.e0,h.n8.trans cv.n8,⟨cv.aE.os.trans h.aE.os,cv.aE.tape.trans h.aE.tape,cv.aE.output.trans h.aE.output,eP h.aE.size cv.aE.size,λb ai bS=>?_⟩,λb ai=>?_⟩
 ·have G:=h.aE.block b ai bS;refine (cv.aE.block b (Ee ai h.aE.size) λM=>?_).trans G;rcases h.fresh b M with J|J
  ·exact bS J
  ·omega
 ·rcases cv.fresh b ai with G|G
  ·exact h.fresh b G
  ·exact .inr (eP h.aE.size G)
theorem Us {w:World}{a0:Nat->Prop}{B:ft}{v:Value}{m:R}(h:KO v=some m):bO w a0 B m v:=by
 unfold KO at h
 split at h<;>simp only[cO,reduceCtorEq] at h<;>subst h
 ·exact .I .int
 ·exact .I .bool
 ·rename_i s
  exact .I (by
   have:s=⟨s.data.toList.toArray⟩:=by simp
   rw[this]
   simpa using Den.str (s:=s.data.toList))
 ·exact .nil
 ·exact .I .we
 ·exact .I .xH
theorem pG {α β:Type}{f:α->Option β}:∀{l:List α} {r:List β},l.mapM f=some r->(D r)=D l/\∀(i:Nat) (x:α) (y:β),l[i]?=some x->r[i]?=some y->f x=some y
 | [],r,h=>by
  simp at h;subst h;exact⟨rfl,λi x y G=>by simp at G⟩
 |a::l,r,h=>by
  simp only[oa,h8,ik,fg,cO] at h;obtain⟨b,ai,AL,X,rfl⟩:=h;obtain⟨G,J⟩:=pG X;refine⟨by simp[G],λi x y M ao=>?_⟩
  cases i with
  |zero=>simp at M ao;subst M;subst ao;exact ai
  |succ i=>exact J i x y (by simpa using M) (by simpa using ao)
theorem aoW {w:World}{a0:Nat->Prop}{B:ft}{v:Value}{m:R}(h:Uo v=some m):bO w a0 B m v:=by
 unfold Uo at h
 split at h
 ·rename_i cs;simp only[e6] at h;obtain⟨ms,aF,rfl⟩:=h;obtain⟨G,J⟩:=pG aF;have:=bO.agg (w:=w) (a0:=a0) (B:=B) (cs:=ms) (vs:=cs.toList) (by simp[G]) λi d v ab aN=>Us (J i v d aN ab)
  simpa using this
 ·exact Us h
section
variable {P:Program} {w:World} {a0:Nat->Prop} {B:ft}
theorem bO.zf {k:IntKind}{n:Int}{v:Value}(h:bO w a0 B (.I (.int k n)) v):v=.int k n:=by
 cases h with
 |I h=>cases h;rfl
theorem bO.Em {b:Bool}{v:Value}(h:bO w a0 B (.I (.bool b)) v):v=.bool b:=by
 cases h with
 |I h=>cases h;rfl
theorem bO.En {s:List UInt8}{v:Value}(h:bO w a0 B (.I (.str s)) v):v=.string ⟨s.toArray⟩:=by
 cases h with
 |I h=>cases h;rfl
theorem bO.ofInt {k:IntKind}{n:Int}:bO w a0 B (.I (.int k n)) (.int k n):=.I .int
theorem aoX {op:BinOp}{k:IntKind}{a b:Int}{d:Data}(t:TypeId)(Q:G0 op=false)(h:OX op k a b=some d):
  ∃v,(binOp op t (.int k a) (.int k b)).run P w=.ok v w/\Den w a0 d v:=by
 cases op<;>simp only[OX,cO,reduceCtorEq] at h<;>simp only[G0,Bool.true_eq_false] at Q
 case quo =>
  split at h
  ·cases h
  ·rename_i ai
   cases h;exact⟨_,by simp[go_sem,Op.intDiv,ai],.int⟩
 case rem =>
  split at h
  ·cases h
  ·rename_i ai
   cases h;exact⟨_,by simp[go_sem,Op.intDiv,ai],.int⟩
 all_goals
  subst h
  first
   |exact⟨_,by simp[go_sem,Op.intArith],.int⟩
   |exact⟨_,by simp[go_sem],.int⟩
   |exact⟨_,by simp[go_sem],.bool⟩
theorem aoY {op:BinOp}{k k':IntKind}{a b:Int}{d:Data}(t:TypeId)(Q:G0 op=true)(h:OY op k a b=some d):
  ∃v,(binOp op t (.int k a) (.int k' b)).run P w=.ok v w/\Den w a0 d v:=by
 unfold OY at h
 split at h
 ·cases h
 ·rename_i ai
  cases op<;>simp only[G0,kE] at Q
  ·simp only[cO] at h;subst h;exact⟨.int k _,by simp[binOp,Op.shift,ai],.int⟩
  ·simp only[cO] at h;subst h;exact⟨.int k _,by simp[binOp,Op.shift,ai],.int⟩
theorem O3 {op:BinOp}{t:TypeId}{x y:Operand}{u v:Value}(G:u ≠ .nilIface)(J:∀c,u ≠ .agg c):eqGuard op t x y u v=pure ():=by
 unfold eqGuard
 cases op<;>cases u<;>first|rfl|exact absurd rfl G|exact absurd rfl (J _)
theorem aoZ {op:BinOp}{a b:List UInt8}{d:Data}(t:TypeId)(h:OZ op a b=some d):
  ∃v,(binOp op t (.string ⟨a.toArray⟩) (.string ⟨b.toArray⟩)).run P w=.ok v w/\Den w a0 d v:=by
 have ao0:binOp op t (.string ⟨a.toArray⟩) (.string ⟨b.toArray⟩)=Op.stringOp op ⟨a.toArray⟩ ⟨b.toArray⟩:=by
  cases op<;>rfl
 rw[ao0]
 cases op<;>simp only[OZ,cO,reduceCtorEq] at h
 case add =>
  split at h
  ·rename_i az
   cases h;refine⟨.string ⟨(a++b).toArray⟩,?_,.str⟩;have Cv:¬ (9223372036854775807<(D a:Int)+(D b:Int)):=by unfold maxLen at az;omega
   have ay:(ByteArray.mk a.toArray).size=D a:=by simp[ByteArray.size]
   have aA:(ByteArray.mk b.toArray).size=D b:=by simp[ByteArray.size]
   have AM:(ByteArray.mk a.toArray)++(ByteArray.mk b.toArray)=⟨(a++b).toArray⟩:=by
    apply ByteArray.ext;simp
   simp[Op.stringOp,ay,aA,Cv,AM]
  ·cases h
 all_goals
  subst h;exact⟨_,by simp[Op.stringOp],.bool⟩
theorem aeb {op:BinOp}{m n r:R}{u v:Value}(t:TypeId)(x y:Operand)(hm:bO w a0 B m u)(aM:bO w a0 B n v)(h:Ks op m n=some r):
  ∃z,((do eqGuard op t x y u v;binOp op t u v:Sem Value)).run P w=.ok z w/\bO w a0 B r z:=by
 unfold Ks at h
 split at h
 ·rename_i k a k' b
  cases hm.zf
  cases aM.zf;rw[O3 (by simp) (by simp)]
  split at h
  ·rename_i Q;simp only[e6] at h;obtain⟨d,ab,rfl⟩:=h;obtain⟨z,G,J⟩:=aoY (P:=P) (w:=w) (a0:=a0) (k':=k') t Q ab;exact⟨z,by simpa using G,.I J⟩
  ·rename_i Q
   split at h
   ·rename_i L;subst L;simp only[e6] at h;obtain⟨d,ab,rfl⟩:=h;obtain⟨z,G,J⟩:=aoX (P:=P) (w:=w) (a0:=a0) t (by simpa using Q) ab;exact⟨z,by simpa using G,.I J⟩
   ·cases h
 ·rename_i a b
  cases hm.En
  cases aM.En;rw[O3 (by simp) (by simp)];simp only[e6] at h;obtain⟨d,ab,rfl⟩:=h;obtain⟨z,G,J⟩:=aoZ (P:=P) (w:=w) (a0:=a0) t ab;exact⟨z,by simpa using G,.I J⟩
 ·cases h
theorem aec {neg:Bool}{m n r:R}{u v:Value}(t:TypeId)(x y:Operand)(cm:P.underlying t=some .bool)(hm:bO w a0 B m u)(aM:bO w a0 B n v)(h:Kt neg m n=some r):
  ∃z,((do eqGuard (if neg then .neq else .eql) t x y u v;binOp (if neg then .neq else .eql) t u v:Sem Value)).run P w=.ok z w/\bO w a0 B r z:=by
 unfold Kt at h
 split at h
 ·rename_i a b
  cases hm.Em
  cases aM.Em
  cases h;rw[O3 (by simp) (by simp)]
  cases neg
  ·exact⟨.bool (a==b),by simp[run_eql_bool w t a b cm],by cases a<;>cases b<;>exact .I .bool⟩
  ·exact⟨.bool (!(a==b)),by simp[run_neq_bool w t a b cm],by cases a<;>cases b<;>exact .I .bool⟩
 ·cases h
theorem ao1 {t:TypeId}{k:Nat}{m n:R}{c:Bool}{u v:Value}(d:Nat)(L:KP P t=some k)(hm:bO w a0 B m u)(aM:bO w a0 B n v)(h:O0 k m n=some c):
  (Op.equalIn (d+1) t u v).run P w=.ok c w:=by
 unfold KP at L;unfold O0 at h
 split at h
 ·simp only[cO] at h
  cases hm.Em
  cases aM.Em;subst h
  split at L<;>first|(exfalso;simp at L;done)|(rename_i hu;exact run_equalIn_bool w d t _ _ hu)
 ·split at h
  ·rename_i KR;subst KR
   cases hm.zf
   cases aM.zf
   cases h
   split at L<;>first|(exfalso;simp at L;done)|(rename_i hu;exact run_equalIn_int w d t _ _ _ _ hu)
  ·cases h
 ·simp only[cO] at h
  cases hm.En
  cases aM.En;subst h
  split at L<;>first|(exfalso;simp at L;done)|(rename_i hu;rw[run_equalIn_string w d t _ _ hu];simp)
 ·cases h
theorem ao2 {t:TypeId}{k:Nat}(h:KP P t=some k):(isAgg t).run P w=.ok false w:=by
 unfold KP at h
 split at h<;>simp only[cO,reduceCtorEq] at h<;>(rename_i hu;simp[isAgg,run_underlying hu])
theorem aed {d:Nat}{xs ys:Array Value}{cs ds:List R}(M:∀(i:Nat) (m:R) (v:Value),cs[i]?=some m->xs[i]?=some v->bO w a0 B m v)(zg:xs.size=D cs)
  (ao:∀(i:Nat) (m:R) (v:Value),ds[i]?=some m->ys[i]?=some v->bO w a0 B m v) (Cw:ys.size=D ds) :
  ∀(eb:List Field) (i:Nat) (hl:List Nat) (c:Bool),He P i eb=some hl->Co hl (cs.drop i) (ds.drop i)=some c->(Op.eqFields (d+1) xs ys eb).run P w=.ok c w
 | [],i,hl,c,aD,H=>by
  simp[He] at aD;subst aD
  cases G:cs.drop i<;>cases J:ds.drop i<;>simp[G,J,Co] at H;subst H;simp[Op.eqFields]
 |f::r,i,hl,c,aD,H=>by
  simp only[He] at aD
  split at aD
  ·rename_i aM;obtain⟨xL,wk⟩:=aM
   split at aD
   ·rename_i k ao3 L ao4
    cases aD
    cases G:cs.drop i with
    |nil=>simp[G,Co] at H
    |cons a x =>
     cases J:ds.drop i with
     |nil=>simp[G,J,Co] at H
     |cons b y =>
      rw[G,J] at H;simp only[Co] at H
      split at H
      ·rename_i au c2 gv wm
       cases H
       have ob:i<D cs:=by
        rcases hn i (D cs) with h|h
        ·exact h
        ·rw[mA h] at G;cases G
       have sL:i<D ds:=by
        rcases hn i (D ds) with h|h
        ·exact h
        ·rw[mA h] at J;cases J
       rw[iC ob] at G;rw[iC sL] at J
       injection G with a4 ao5
       injection J with ai ao6
       subst a4;subst ai;subst ao5;subst ao6
       have ex:xs[f.offset]?=some (xs[i]'(by omega)):=by rw[wk];exact Array.getElem?_eq_getElem (by omega)
       have zh:ys[f.offset]?=some (ys[i]'(by omega)):=by rw[wk];exact Array.getElem?_eq_getElem (by omega)
       have rx:=M i _ _ (bB ob) (Array.getElem?_eq_getElem (by omega:i<xs.size));have ao7:=ao i _ _ (bB sL) (Array.getElem?_eq_getElem (by omega:i<ys.size));have he:=ao1 (P:=P) d L rx ao7 gv;have aH:=aed (d:=d) M zg ao Cw r (i+1) ao3 c2 ao4 wm;have ao8:(isAgg f.type).run P w=.ok false w:=ao2 L;simp only[Op.eqFields,xL,ne_eq,not_false_eq_true,if_true,Sem.run_bind,part,ao8,Result.andThen_ok,kE,if_false,ex,zh,Sem.run_pure,he]
       cases au
       ·simp
       ·simp[aH]
      ·cases H
   ·cases aD
  ·cases aD
theorem aee {m:R}{v:Value}(h:bO w a0 B m v)(G:m.one=true):v.oneCell'=true:=by
 cases h with
 |I ab=>cases ab<;>first|rfl|simp[R.one] at G
 |nil=>rfl
 |ref he bq aN=>obtain⟨a,cap,rfl,_⟩:=aN;rfl
 |ptr he bq aN=>obtain⟨b,rfl,_⟩:=aN;rfl
 |gX az ab=>rfl
 |agg az ab=>simp[R.one] at G
 |cB az ab=>simp[R.one] at G
 |no=>simp[R.one] at G
 |undef=>simp[R.one] at G
theorem ao9 {v:Value}(h:∀c,v ≠ .agg c):v.cells=#[v]:=by
 unfold Value.cells
 split
 ·rename_i cs;exact absurd rfl (h cs)
 ·rfl
theorem apa {m:R}{v:Value}(h:bO w a0 B m v)(hu:m ≠ .undef):v.cells.size=D m.cells/\∀(i:Nat) (c:R) (u:Value),m.cells[i]?=some c->v.cells[i]?=some u->bO w a0 B c u:=by
 have one:(∀c,v ≠ .agg c)->m.cells=[m]->v.cells.size=D m.cells/\∀(i:Nat) (c:R) (u:Value),m.cells[i]?=some c->v.cells[i]?=some u->bO w a0 B c u:=by
  intro aN hm;rw[hm,ao9 aN];refine⟨rfl,λi c u H hu=>?_⟩
  cases i with
  |zero=>simp at H hu;subst H;subst hu;exact h
  |succ i=>simp at H
 cases h with
 |I ab =>
  cases ab with
  |agg az ab =>
   refine⟨by simp[Value.cells,R.cells];exact az,λi c u H hu=>?_⟩
   simp only[R.cells,aW,e6] at H;obtain⟨d,qX,rfl⟩:=H;exact .I (ab i d u qX (by simpa [Value.cells] using hu))
  |_=>exact one (by simp) rfl
 |nil=>exact one (by simp) rfl
 |ref he bq aN=>obtain⟨a,cap,rfl,_⟩:=aN;exact one (by simp) rfl
 |ptr he bq aN=>obtain⟨b,rfl,_⟩:=aN;exact one (by simp) rfl
 |gX az ab=>exact one (by simp) rfl
 |agg az ab =>
  refine⟨by simp[Value.cells,R.cells];exact az,λi c u H hu=>ab i c u (by simpa [R.cells] using H) (by simpa [Value.cells] using hu)⟩
 |cB az ab=>exact one (by simp) rfl
 |no=>exact one (by simp[undef]) rfl
 |undef=>exact absurd rfl hu
end
section
variable {P:Program} {w:World} {a0:Nat->Prop} {B:ft}
def dR (w:World)(a0:Nat->Prop)(B:ft)(cs:List R)(vs:List Value):Prop :=
 (D vs)=D cs/\∀(i:Nat) (m:R) (v:Value),cs[i]?=some m->vs[i]?=some v->bO w a0 B m v
theorem dR.get {cs:List R}{vs:List Value}(h:dR w a0 B cs vs){i:Nat}{m:R}(U:cs[i]?=some m):∃v,vs[i]?=some v/\bO w a0 B m v:=by
 have az:i<D cs:=(eg.1 U).1;have aN:vs[i]?=some (vs[i]'(by rw[h.1];exact az)):=bB _;exact⟨_,aN,h.2 i m _ U aN⟩
theorem dR.nil:dR w a0 B [] []:=⟨rfl,λi m v h=>by simp at h⟩
theorem dR.cons {m:R}{v:Value}{cs:List R}{vs:List Value}(h:bO w a0 B m v)(X:dR w a0 B cs vs):dR w a0 B (m::cs) (v::vs):=by
 refine⟨by simp[X.1],λi m' Eo G J=>?_⟩
 cases i with
 |zero=>simp at G J;subst G;subst J;exact h
 |succ i=>exact X.2 i m' Eo (by simpa using G) (by simpa using J)
theorem dR.append {a b:List R}{x y:List Value}(h:dR w a0 B a x)(cv:dR w a0 B b y):dR w a0 B (a++b) (x++y):=by
 refine⟨by simp[h.1,cv.1],λi m v G J=>?_⟩
 rw[Hk] at G J
 split at G
 ·rename_i U;rw[ad (by rw[h.1];exact U)] at J;exact h.2 i m v G J
 ·rename_i U;rw[ag (by rw[h.1];exact U),h.1] at J;exact cv.2 _ m v G J
theorem dR.drop {a:List R}{x:List Value}(h:dR w a0 B a x)(n:Nat):dR w a0 B (a.drop n) (x.drop n) :=
 ⟨by simp[h.1],λi m v G J=>h.2 (n+i) m v (by simpa using G) (by simpa using J)⟩
theorem dR.take {a:List R}{x:List Value}(h:dR w a0 B a x)(n:Nat):dR w a0 B (a.take n) (x.take n):=by
 refine⟨by simp[h.1],λi m v G J=>?_⟩
 rw[AO] at G J
 split at G
 ·rename_i U;rw[ad U] at J;exact h.2 i m v G J
 ·cases G
theorem dR.mz {a b:List R}{x y:List Value}(h:dR w a0 B a x)(cv:dR w a0 B b y)(off:Nat):
  dR w a0 B (mz a off b) (x.take off++y++x.drop (off+D y)):=by
 unfold Mini.mz;rw[cv.1];exact ((h.take off).append cv).append (h.drop _)
theorem dR.Ut {m:R}{v:Value}(h:bO w a0 B m v)(hu:m ≠ .undef):dR w a0 B m.cells v.cells.toList:=by
 obtain⟨G,J⟩:=apa h hu;exact⟨by simpa using G,λi c u H aN=>J i c u H (by simpa using aN)⟩
theorem dR.I {ds:List Data}{vs:List Value}(az:(D vs)=D ds)(h:∀(i:Nat) (d:Data) (v:Value),ds[i]?=some d->vs[i]?=some v->Den w a0 d v):dR w a0 B (ds.map .I) vs:=by
 refine⟨by simp[az],λi m v G J=>?_⟩
 simp only[aW,e6] at G;obtain⟨d,ab,rfl⟩:=G;exact .I (h i d v ab J)
theorem Hl {cs:List R}{off n:Nat}{r:List R}(h:cut cs off n=some r):off+n<=D cs/\r=(cs.drop off).take n/\D r=n:=by
 unfold cut at h
 split at h
 ·rename_i az
  cases h;exact⟨az,rfl,by simp;omega⟩
 ·cases h
def fb (w:World)(b off:Nat)(vs:List Value):Prop:=∀(j:Nat) (u:Value),vs[j]?=some u->w.cell? ⟨b,off+j,none⟩=some u
theorem fb.add {w:World}{b off:Nat}{vs:List Value}(h:fb w b off vs)(n:Nat):fb w b (off+n) (vs.drop n):=λj u ax=>by
 have:=h (n+j) u (by simpa using ax);rwa [<-uU] at this
theorem fb.take {w:World}{b off:Nat}{vs:List Value}(h:fb w b off vs)(n:Nat):fb w b off (vs.take n):=λj u ax=>by
 rw[AO] at ax
 split at ax
 ·exact h j u ax
 ·cases ax
theorem fb.row {w:World}{b:Nat}{vs:Array Value}{T:TypeId}{aE:Nat×Nat}(h:w.heap[b]?=some (.cells vs T aE)):fb w b 0 vs.toList:=λj u ax=>by
 rw[rT,cell_of_row w b j vs T aE h]
 simpa using ax
theorem AP (b off n:Nat):(⟨b,off,none⟩:Addr).add n=⟨b,off+n,none⟩:=by
 unfold Addr.add
 split<;>simp_all
theorem fb.load {b off:Nat}{vs:List Value}(h:fb w b off vs):(loadCells ⟨b,off,none⟩ (D vs)).run P w=.ok vs.toArray w :=
 run_loadCells_list w _ vs λj v ax=>by rw[AP];exact h j v ax
theorem wo {t:TypeId}{n:Nat}(h:gZ P t=some n):(sizeOf t).run P w=.ok n w:=by
 simp only[gZ,e6] at h;obtain⟨i,U,rfl⟩:=h;simp[sizeOf,typeInfo,U]
theorem O4 {t:TypeId}{g:Bool}(h:AF P t=some g):(isAgg t).run P w=.ok g w:=by
 simp only[AF,e6] at h;obtain⟨d,ab,rfl⟩:=h;simp only[isAgg,Sem.run_bind,run_underlying ab,Result.andThen_ok]
 cases d<;>rfl
theorem aef {t:TypeId}{n:Nat}{ey:Bool}{b off:Nat}{ms:List R}{vs:List Value}{r:R}(Q:gZ P t=some n)(a4:AF P t=some ey)(az:(D ms)=n)
  (cg:dR w a0 B ms vs) (bW:fb w b off vs) (h:sG ey ms=some r):∃u,(loadVar t ⟨b,off,none⟩).run P w=.ok u w/\bO w a0 B r u:=by
 unfold sG at h
 split at h
 ·rename_i AQ
  cases h;subst AQ;refine⟨.agg vs.toArray,?_,.agg cg.1 cg.2⟩;have:=bW.load (P:=P);rw[cg.1,az] at this;simp[loadVar,O4 a4,wo Q,this]
 ·rename_i AQ
  split at h
  ·cases h;obtain⟨u,hu,X⟩:=cg.get (i:=0) (m:=r) rfl;have:=bW 0 u hu;have Uu:ey=false:=by simpa using AQ
   subst Uu;exact⟨u,by simp[loadVar,O4 a4,this];simpa using by rw[show off=off+0 from rfl,this],X⟩
  ·cases h
end
section
variable {P:Program} {A:Nat->Prop} {w:World} {B:ft} {mem:Mem}
theorem gk.at_ (h:gk A w B mem){k:Key}{g:Nat}{cs:List R}(L:mem k=some (g,cs)):
  ∃e,B k=some e/\e.g=g/\(e.ek=none->cs=[])/\∀b,e.ek=some b->∃(vs:Array Value) (T:TypeId),w.heap[b]?=some (.cells vs T (0,0))/\vs.size=e.size/\D cs<=vs.size /\
   dR w (cU A B) B cs (vs.toList.take (D cs)):=by
 obtain⟨e,he,bq,aM,ai⟩:=h.ek k g cs L;refine⟨e,he,bq,aM,λb lu=>?_⟩;obtain⟨vs,T,G,J,af,aP⟩:=ai b lu;refine⟨vs,T,G,J,af,by simp;omega,λi m v hm aN=>?_⟩
 obtain⟨u,hu,X⟩:=aP i m hm;rw[AO] at aN
 split at aN
 ·rw[Array.getElem?_toList,hu] at aN
  cases aN;exact X
 ·cases aN
theorem aeg {n:Nat}{ey:Bool}{m r:R}{v:Value}(cw:gk A w B mem)(aN:bO w (cU A B) B m v)(h:rO mem n ey m=some r):
  ∃b off ms vs,v=.pointer (some ⟨b,off,none⟩)/\D ms=n/\dR w (cU A B) B ms vs/\fb w b off vs/\sG ey ms=some r:=by
 unfold rO at h
 split at h
 ·rename_i k g off
  split at h
  ·rename_i ea cs L
   split at h
   ·rename_i bq;subst bq;simp only[fg] at h;obtain⟨ms,aF,X⟩:=h;obtain⟨az,rfl,aM⟩:=Hl aF;obtain⟨e,he,b4,Hm,ai⟩:=cw.at_ L
    cases aN with
    |ptr gY Ur tK =>
     rw[he] at gY
     cases gY;obtain⟨b,rfl,lu⟩:=tK;have lu:=lu b4.symm;obtain⟨vs,T,aX,a2,hle,cg⟩:=ai b lu;refine⟨b,off,_,((vs.toList.take (D cs)).drop off).take n,rfl,aM,(cg.drop off).take n,?_,X⟩;have:=(((fb.row aX).take (D cs)).add off).take n
     simpa using this
   ·cases h
  ·cases h
 ·rename_i ds;simp only[fg] at h;obtain⟨ms,aF,X⟩:=h;obtain⟨az,rfl,aM⟩:=Hl aF
  cases aN with
  |I ab =>
   cases ab with
   | @ptr cs b off val ai gi H ab =>
    refine⟨b,off,_,((eY (D ds)).map val).take n,rfl,aM,?_,?_,X⟩
    ·have:dR w (cU A B) B (ds.map .I) ((eY (D ds)).map val):=dR.I (by simp) λi d v G J=>by
      have U:i<D ds:=(eg.1 G).1;simp[U] at J;subst J;exact ab i d G
     simpa using this.take n
    ·refine fb.take (λj u ax=>?_) n;simp only[aW,e6] at ax;obtain⟨n9,wq,rfl⟩:=ax
     have G:n9=j/\j<D ds:=by
      rcases hn j (D ds) with h|h
      ·rw[uV h] at wq;exact⟨by simpa using wq.symm,h⟩
      ·rw[iD (by simpa using h)] at wq
       cases wq
     obtain⟨rfl,l2⟩:=G;exact H n9 l2
 ·cases h
theorem apb {t:TypeId}{n:Nat}{ey:Bool}{m r:R}{v:Value}(Q:gZ P t=some n)(a4:AF P t=some ey)(cw:gk A w B mem)(aN:bO w (cU A B) B m v)(h:rO mem n ey m=some r):
  ∃u,(Instr.loadAt t v).run P w=.ok u w/\bO w (cU A B) B r u:=by
 obtain⟨b,off,ms,vs,rfl,az,cg,bW,X⟩:=aeg cw aN h;obtain⟨u,G,J⟩:=aef (P:=P) Q a4 az cg bW X;exact⟨u,by simpa [Instr.loadAt,Instr.sureAddr] using G,J⟩
end
section
variable {P:Program} {w:World} {a0:Nat->Prop} {B:ft}
theorem aeh {m:R}{cs:List R}{v:Value}(h:Kw m=some cs)(aN:bO w a0 B m v):∃vs:List Value,v=.agg vs.toArray/\dR w a0 B cs vs:=by
 unfold Kw at h
 split at h
 ·cases h
  cases aN with
  |agg az ab=>exact⟨_,rfl,az,ab⟩
 ·cases h
  cases aN with
  |I ab =>
   cases ab with
   |agg az ab=>exact⟨_,rfl,dR.I az ab⟩
 ·cases h
theorem aei {neg:Bool}{hl:List Nat}{m n r:R}{u v:Value}(t:TypeId)(x y:Operand)(eb:Array Field)(hu:P.underlying t=some (.struct eb))(Q:P.stoodInHeld t=false)
  (bq:P.eqGuardType P.depth t=false) (L:He P 0 eb.toList=some hl) (hm:bO w a0 B m u) (aM:bO w a0 B n v) (h:Kx neg hl m n=some r) :
  ∃z,((do eqGuard (if neg then .neq else .eql) t x y u v;binOp (if neg then .neq else .eql) t u v:Sem Value)).run P w=.ok z w/\bO w a0 B r z:=by
 unfold Kx at h
 split at h
 ·rename_i cs ds kq il
  split at h
  ·rename_i c H
   cases h;obtain⟨xs,rfl,M⟩:=aeh kq hm;obtain⟨ys,rfl,ao⟩:=aeh il aM;have l3:P.fieldsOf t=eb:=by simp[Program.fieldsOf,hu]
   have he:=run_equalIn_struct (P:=P) w 9999 t xs.toArray ys.toArray (by rw[l3];exact hu) Q;rw[l3] at he
   have aD:=aed (P:=P) (w:=w) (a0:=a0) (B:=B) (d:=9998) (xs:=xs.toArray) (ys:=ys.toArray) (cs:=cs) (ds:=ds)
    (λi m v G J=>M.2 i m v G (by simpa using J)) (by simpa using M.1) (λi m v G J=>ao.2 i m v G (by simpa using J)) (by simpa using ao.1) eb.toList 0 hl c L (by simpa using H)
   have heq:(Op.equal t (.agg xs.toArray) (.agg ys.toArray)).run P w=.ok c w:=by
    show (Op.equalIn (9999+1) t _ _).run P w=_;rw[he];exact aD
   have AR:∀op,(op=BinOp.eql\/op=.neq)->(eqGuard op t x y (.agg xs.toArray) (.agg ys.toArray)).run P w=.ok () w:=by
    intro op oY;rcases oY with rfl|rfl<;>simp[eqGuard,bq]
   refine⟨.bool (neg != c),?_,.I .bool⟩
   cases neg
   ·simp only[kE,if_false,Sem.run_bind,AR _ (.inl rfl),Result.andThen_ok];show (do pure (Value.bool (<-Op.equal t (.agg xs.toArray) (.agg ys.toArray))):Sem Value).run P w=_
    simp[heq]
   ·simp only[if_true,Sem.run_bind,AR _ (.inr rfl),Result.andThen_ok];show (do pure (Value.bool (!(<-Op.equal t (.agg xs.toArray) (.agg ys.toArray)))):Sem Value).run P w=_
    simp[heq]
  ·cases h
 ·cases h
theorem apc {c a b r:R}{KS wu tL:Value}(H:bO w a0 B c KS)(a4:bO w a0 B a wu)(ai:bO w a0 B b tL)(h:G6 c a b=some r):
  ∃z,(do pure (if <-asBool KS then wu else tL):Sem Value).run P w=.ok z w/\bO w a0 B r z:=by
 unfold G6 at h
 split at h
 ·rename_i t
  cases H.Em
  cases t
  ·cases h;exact⟨tL,by simp[asBool],ai⟩
  ·cases h;exact⟨wu,by simp[asBool],a4⟩
 ·cases h
theorem apd {op:UnOp}{m r:R}{v:Value}(hm:bO w a0 B m v)(h:Ku op m=some r):∃z,(Op.unary op v).run P w=.ok z w/\bO w a0 B r z:=by
 unfold Ku at h
 split at h
 ·cases h;cases hm.zf;exact⟨_,by simp[Op.unary,Op.intArith],.I .int⟩
 ·cases h;cases hm.zf;exact⟨_,by simp[Op.unary,go_sem],.I .int⟩
 ·cases h;cases hm.Em;exact⟨_,by simp[Op.unary],.I .bool⟩
 ·cases h
theorem ape {k:IntKind}{m r:R}{v:Value}(s t:TypeId)(hl:IntKind)(Q:P.underlying s=some (.int hl))(cm:P.underlying t=some (.int k))(hm:bO w a0 B m v)(h:Ky k m=some r):
  ∃z,(convert s t v).run P w=.ok z w/\bO w a0 B r z:=by
 unfold Ky at h
 split at h
 ·cases h
  cases hm.zf;have U:P.intKind t=k:=by simp[Program.intKind,cm]
  have:=run_convert_int (P:=P) w s t;exact⟨.int k _,by simp[convert,run_underlying Q,run_underlying cm,Conv.intToInt],.I .int⟩
 ·cases h
theorem apf {off:Nat}{m r:R}{v:Value}(t:TypeId)(f:Nat)(eb:Array Field)(fd:Field)(s:Nat)(hu:P.underlying t=some (.struct eb))(aD:eb[f]?=some fd)(Q:gZ P fd.type=some s)(aj:0<s)
  (bS:fd.offset=off) (hm:bO w a0 B m v) (h:KA off m=some r):∃z,(Instr.fieldAt t v f).run P w=.ok z w/\bO w a0 B r z:=by
 have b5:¬ s=0:=by omega
 have run:∀b o,(Instr.fieldAt t (.pointer (some ⟨b,o,none⟩)) f).run P w=.ok (.pointer (some ⟨b,o+off,none⟩)) w:=by
  intro b o;simp[Instr.fieldAt,run_underlying hu,aD,Instr.sureAddr,fieldPlace,wo Q,b5,AP,bS]
 unfold KA at h
 split at h
 ·cases h;rename_i k g o
  cases hm with
  |ptr he bq aN =>
   obtain⟨b,rfl,ai⟩:=aN;exact⟨_,run b o,.ptr he bq ⟨b,rfl,ai⟩⟩
 ·rename_i ds
  split at h
  ·rename_i az
   cases h
   cases hm with
   |I ab =>
    cases ab with
    | @ptr cs b o val ai gi H ab =>
     refine⟨_,run b o,.I (.ptr (λi=>val (off+i)) ai gi (λi U=>?_) λi d gH=>ab _ d (by simpa using gH))⟩;have:=H (off+i) (by simp at U;omega);rwa [<-uU] at this
  ·cases h
 ·cases h
theorem apg {t:TypeId}{n off:Nat}{ey:Bool}{cs ms:List R}{vs:List Value}{r:R}(Q:gZ P t=some n)(a4:AF P t=some ey)(cg:dR w a0 B cs vs)(H:cut cs off n=some ms)(h:sG ey ms=some r):
  ∃u,(part t vs.toArray off).run P w=.ok u w/\bO w a0 B r u:=by
 obtain⟨az,rfl,aM⟩:=Hl H;have aZ:=(cg.drop off).take n;unfold sG at h
 split at h
 ·rename_i AQ
  cases h;subst AQ;refine⟨.agg ((vs.drop off).take n).toArray,?_,.agg aZ.1 aZ.2⟩
  have e:vs.toArray.extract off (off+n)=((vs.drop off).take n).toArray:=by
   simp[List.extract_eq_take_drop]
  simp[part,O4 a4,wo Q,e]
 ·rename_i AQ;have Uu:ey=false:=by simpa using AQ
  subst Uu
  split at h
  ·rename_i m aF
   cases h
   have U:cs[off]?=some r:=by
    have:=congrArg (λl=>l[0]?) aF;simp[AO] at this;exact this.2
   obtain⟨u,hu,aph⟩:=cg.get U;exact⟨u,by simp[part,O4 a4,hu],aph⟩
  ·cases h
theorem api {off n:Nat}{ey:Bool}{m r:R}{v:Value}(t:TypeId)(f:Nat)(eb:Array Field)(fd:Field)(hu:P.underlying t=some (.struct eb))(aD:eb[f]?=some fd)(Q:gZ P fd.type=some n)
  (a4:AF P fd.type=some ey) (bS:fd.offset=off) (hm:bO w a0 B m v) (h:KB off n ey m=some r):∃z,(Instr.field t v f).run P w=.ok z w/\bO w a0 B r z:=by
 subst bS
 have go:∀(cs:List R) (vs:List Value),dR w a0 B cs vs->(cut cs fd.offset n).bind (sG ey)=some r->∃z,(Instr.field t (.agg vs.toArray) f).run P w=.ok z w/\bO w a0 B r z:=by
  intro cs vs cg aX;simp only[fg] at aX;obtain⟨ms,G,J⟩:=aX;obtain⟨u,af,aP⟩:=apg (P:=P) Q a4 cg G J;exact⟨u,by simp[Instr.field,run_underlying hu,aD,asAgg,af],aP⟩
 unfold KB at h
 split at h
 ·cases hm with
  |agg az ab=>exact go _ _ ⟨az,ab⟩ h
 ·cases hm with
  |I ab =>
   cases ab with
   |agg az ab=>exact go _ _ (dR.I az ab) h
 ·cases h
theorem Hn {m:R}{n:Nat}{v:Value}(h:idx m=some n)(aN:bO w a0 B m v):∃k,v=.int k (n:Int):=by
 unfold idx at h
 split at h
 ·rename_i k i
  split at h
  ·rename_i aj
   cases h
   cases aN.zf;exact⟨k,by rw[Int.toNat_of_nonneg aj]⟩
  ·cases h
 ·cases h
theorem GZ.at_ {e:nk}{g sz off len:Nat}{v:Value}(h:GZ e g sz off len v)(aj:0<len):∃b cap,v=.slice (some ⟨b,off,none⟩) len cap/\len<=cap/\cap<=maxLen/\(g=e.g->e.ek=some b/\off+cap*sz<=e.size):=by
 obtain⟨a,cap,rfl,J,af,aP⟩:=h;rcases aP with aP|⟨b,rfl,bh⟩
 ·omega
 ·exact⟨b,cap,rfl,J,af,bh⟩
theorem apj {es:List (List Data)}{sz:Nat}(fy:∀e∈es,D e=sz):∀(n i:Nat) (e:List Data),es[n]?=some e->i<sz->es.flatten[n*sz+i]?=e[i]?:=by
 induction es with
 |nil=>intro n i e h;simp at h
 |cons a r aH =>
  intro n i e h U;have a4:=fy a (by simp)
  cases n with
  |zero =>
   simp at h;subst h;rw[lZ,oZ (by omega)];simp
  |succ n =>
   rw[lZ,nK (by rw[a4,qq];omega)];have:=aH (λx M=>fy x (by simp[M])) n i e (by simpa using h) U;rw[<-this,a4]
   congr 1
   rw[qq];omega
theorem apk {sz n:Nat}{m r:R}{v:Value}{k:IntKind}(t e:TypeId)(hu:P.underlying t=some (.slice e))(Q:gZ P e=some sz)(hm:bO w a0 B m v)(h:AE sz n m=some r):
  ∃z,(Instr.indexAt t v (.int k (n:Int))).run P w=.ok z w/\bO w a0 B r z:=by
 have run:∀b off len cap,n<len->(Instr.indexAt t (.slice (some ⟨b,off,none⟩) len cap) (.int k (n:Int))).run P w=.ok (.pointer (some ⟨b,off+n*sz,none⟩)) w:=by
  intro b off len cap av;simp[Instr.indexAt,run_underlying hu,asIntOf,av,wo Q,AP]
 unfold AE at h
 split at h
 ·split at h
  ·rename_i az;obtain⟨av,rfl⟩:=az
   cases h
   cases hm with
   |ref he bq aN =>
    obtain⟨b,cap,rfl,G,J,af⟩:=aN.at_ (by omega);exact⟨_,run _ _ _ _ av,.ptr he bq ⟨b,rfl,λh=>(af h).1⟩⟩
  ·cases h
 ·rename_i es
  split at h
  ·rename_i el l4
   split at h
   ·rename_i hle
    cases h
    cases hm with
    |I ab =>
     have av:n<D es:=(eg.1 l4).1
     cases ab with
     |mU=>simp at av
     | @Y es b off c eR val az Ep ai gi fy H ab =>
      have KT:eR=sz:=by rw[<-hle];exact (fy _ (List.mem_of_getElem? l4)).symm
      subst KT
      have hmul:n*eR+eR<=D es*eR:=by
       have:(n+1)*eR<=D es*eR:=o0 _ av;rwa [rM,Kp] at this
      refine⟨_,run _ _ _ _ av,.I (.ptr (λi=>val (n*eR+i)) ai gi (λi U=>?_) λi d gH=>?_)⟩
      ·have:=H (n*eR+i) (by omega);rwa [<-uU] at this
      ·refine ab _ d ?_;rw[apj fy n i el l4 (by have:=(eg.1 gH).1;omega)];exact gH
   ·cases h
  ·cases h
 ·cases h
theorem apl {len sz n:Nat}{m r:R}{v:Value}{k:IntKind}(t e:TypeId)(hu:P.underlying t=some (.array len e))(Q:gZ P e=some sz)(hm:bO w a0 B m v)(h:KC len sz n m=some r):
  ∃z,(Instr.indexAt t v (.int k (n:Int))).run P w=.ok z w/\bO w a0 B r z:=by
 have run:∀b off,n<len->(Instr.indexAt t (.pointer (some ⟨b,off,none⟩)) (.int k (n:Int))).run P w=.ok (.pointer (some ⟨b,off+n*sz,none⟩)) w:=by
  intro b off av;simp[Instr.indexAt,run_underlying hu,asIntOf,Instr.sureAddr,av,wo Q,AP]
 unfold KC at h
 split at h
 ·split at h
  ·rename_i av
   cases h
   cases hm with
   |ptr he bq aN =>
    obtain⟨b,rfl,ai⟩:=aN;exact⟨_,run _ _ av,.ptr he bq ⟨b,rfl,ai⟩⟩
  ·cases h
 ·rename_i ds
  split at h
  ·rename_i az;obtain⟨av,hle⟩:=az
   cases h
   cases hm with
   |I ab =>
    cases ab with
    | @ptr cs b o val ai gi H ab =>
     refine⟨_,run _ _ av,.I (.ptr (λi=>val (n*sz+i)) ai gi (λi U=>?_) λi d gH=>ab _ d (by simpa using gH))⟩;have:=H (n*sz+i) (by simp at U;omega);rwa [<-uU] at this
  ·cases h
 ·cases h
theorem apm {n:Nat}{m r:R}{v:Value}{k:IntKind}(t:TypeId)(hu:P.underlying t=some .string)(hm:bO w a0 B m v)(h:KD n m=some r):
  ∃z,(Instr.index t v (.int k (n:Int))).run P w=.ok z w/\bO w a0 B r z:=by
 unfold KD at h
 split at h
 ·rename_i s;simp only[e6] at h;obtain⟨b,ai,rfl⟩:=h
  cases hm.En;have av:n<D s:=(eg.1 ai).1
  have e:(ByteArray.mk s.toArray)[n]?=some b:=by
   rw[ByteArray.getElem?_lt' _ _ (by simpa [ByteArray.size] using av)];have:=(eg.1 ai).2;simp only[cO];rw[<-this]
   rfl
  exact⟨.int .u8 b.toNat,by simp[Instr.index,run_underlying hu,asIntOf,e],.I .int⟩
 ·cases h
theorem apn {i:Nat}{m r:R}{v:Value}(hm:bO w a0 B m v)(h:KH i m=some r):∃z,(Instr.extract v i).run P w=.ok z w/\bO w a0 B r z:=by
 unfold KH at h
 split at h
 ·cases hm with
  |cB az ab =>
   obtain⟨u,hu,X⟩:=dR.get ⟨az,ab⟩ h;exact⟨u,by simp[Instr.extract,hu],X⟩
 ·simp only[e6] at h;obtain⟨d,qX,rfl⟩:=h
  cases hm with
  |I ab =>
   cases ab with
   |cB az ab =>
    obtain⟨u,hu,X⟩:=dR.get (dR.I az ab) (i:=i) (m:=.I d) (by simp[qX]);exact⟨u,by simp[Instr.extract,hu],X⟩
 ·cases h
theorem apo {m:R}{n:Nat}{v:Value}(t ty e:TypeId)(cm:P.underlying t=some (.slice e))(hm:bO w a0 B m v)(h:rN m=some n):
  (Builtin.len_ #[t] ty #[v]).run P w=.ok (.int .i64 n) w:=by
 have run:∀a c,(Builtin.len_ #[t] ty #[.slice a n c]).run P w=.ok (.int .i64 n) w:=λa c=>by
  simp[Builtin.len_,run_underlying cm,goInt]
 unfold rN at h
 split at h<;>cases h
 ·cases hm with
  |I ab =>
   cases ab with
   |mU=>exact run _ _
   |Y=>exact run _ _
 ·cases hm with
  |nil=>exact run _ _
 ·cases hm with
  |ref he bq aN=>obtain⟨a,cap,rfl,_⟩:=aN;exact run _ _
theorem apq {m:R}{n:Nat}{v:Value}(t ty:TypeId)(cm:P.underlying t=some .string)(hm:bO w a0 B m v)(h:AD m=some n):
  (Builtin.len_ #[t] ty #[v]).run P w=.ok (.int .i64 n) w:=by
 unfold AD at h
 split at h<;>cases h
 rename_i s
 cases hm.En;have e:(ByteArray.mk s.toArray).size=D s:=by simp[ByteArray.size]
 simp[Builtin.len_,run_underlying cm,goInt,e]
theorem aej {k0:Bool}{m n r:R}{u v:Value}(uW:Array TypeId)(t:TypeId)(hm:bO w a0 B m u)(aM:bO w a0 B n v)(h:KI k0 m n=some r):
  ∃z,(if k0=true then Builtin.max_ uW t #[u,v] else Builtin.min_ uW t #[u,v]).run P w=.ok z w/\bO w a0 B r z:=by
 unfold KI at h
 split at h
 ·split at h
  ·rename_i L;subst L
   cases h
   cases hm.zf
   cases aM.zf
   cases k0
   ·exact⟨_,by simp[run_min_int2],.I .int⟩
   ·exact⟨_,by simp[run_max_int2],.I .int⟩
  ·cases h
 ·cases h
theorem apr {m r:R}{v:Value}(hm:bO w a0 B m v)(h:Kz m=some r):(∃b off,v=.pointer (some ⟨b,off,none⟩))/\bO w a0 B r v:=by
 unfold Kz at h
 split at h
 ·cases h;refine⟨?_,hm⟩
  cases hm with
  |ptr he bq aN=>obtain⟨b,rfl,_⟩:=aN;exact⟨_,_,rfl⟩
 ·cases h;refine⟨?_,hm⟩
  cases hm with
  |I ab=>cases ab;exact⟨_,_,rfl⟩
 ·cases h
theorem Ho {x:R}{n y:Nat}{v:Value}(code:BoundsCode)(M:idx x=some n)(aN:bO w a0 B x v)(aM:n<=y):(Instr.sliceBound v y code).run P w=.ok n w:=by
 obtain⟨k,rfl⟩:=Hn M aN
 simpa using run_sliceBound (P:=P) w k (n:Int) y code (by omega) (by omega)
def sM (w:World)(a0:Nat->Prop)(B:ft):Option R->Option Value->Prop
 |none,none=>True
 |some m,some v=>bO w a0 B m v
 |_,_=>False
theorem Uv {len cap l h:Nat}{cP U:Option R}{l5 l6:Option Value}(Uw:Bool)(iW:kC 0 cP=some l)(k2:kC len U=some h)
  (nL:sM w a0 B cP l5) (mV:sM w a0 B U l6) (az:l<=h) (aX:h<=cap):(Instr.sliceBounds Uw len cap l5 l6 none).run P w=.ok (l,h,cap) w:=by
 unfold Instr.sliceBounds
 cases cP with
 |none =>
  cases l5 with
  |some v=>exact nL.elim
  |none =>
   simp[kC] at iW;subst iW
   cases U with
   |none =>
    cases l6 with
    |some v=>exact mV.elim
    |none=>simp[kC] at k2;subst k2;simp
   |some m =>
    cases l6 with
    |none=>exact mV.elim
    |some v =>
     have aA:=λcode=>Ho (P:=P) (y:=cap) code k2 mV aX
     cases Uw<;>simp[aA]
 |some Er =>
  cases l5 with
  |none=>exact nL.elim
  |some bs =>
   have ay:=λcode=>Ho (P:=P) (y:=h) code iW nL az
   cases U with
   |none =>
    cases l6 with
    |some v=>exact mV.elim
    |none=>simp[kC] at k2;subst k2;simp[ay]
   |some m =>
    cases l6 with
    |none=>exact mV.elim
    |some v =>
     have aA:=λcode=>Ho (P:=P) (y:=cap) code k2 mV aX
     cases Uw<;>simp[ay,aA]
theorem aps {len cap l h m:Nat}{cP:Option R}{U k0:R}{l5:Option Value}{l6 AS:Value}(iW:kC 0 cP=some l)(k2:idx U=some h)(ho:idx k0=some m)
  (nL:sM w a0 B cP l5) (mV:bO w a0 B U l6) (Hp:bO w a0 B k0 AS) (az:l<=h) (aX:h<=m) (hm:m<=cap):(Instr.sliceBounds true len cap l5 (some l6) (some AS)).run P w=.ok (l,h,m) w:=by
 have bu:=Ho (P:=P) (y:=cap) .slice3Acap ho Hp hm;have aA:=Ho (P:=P) (y:=m) .slice3B k2 mV aX;unfold Instr.sliceBounds
 cases cP with
 |none =>
  cases l5 with
  |some v=>exact nL.elim
  |none =>
   simp[kC] at iW;subst iW;simp[bu,aA]
 |some Er =>
  cases l5 with
  |none=>exact nL.elim
  |some bs =>
   have ay:=Ho (P:=P) (y:=h) .slice3C iW nL az;simp[bu,aA,ay]
theorem O5 {m:R}{n:Nat}{v:Value}(hm:bO w a0 B m v)(h:rN m=some n):∃a c,v=.slice a n c/\n<=c:=by
 unfold rN at h
 split at h<;>cases h
 ·cases hm with
  |I ab =>
   cases ab with
   |mU=>exact⟨_,_,rfl,by simp⟩
   |Y val az=>exact⟨_,_,rfl,az⟩
 ·cases hm with
  |nil=>exact⟨_,_,rfl,by simp⟩
 ·cases hm with
  |ref he bq aN=>obtain⟨a,cap,rfl,G,_⟩:=aN;exact⟨_,_,rfl,G⟩
theorem aek {t e:TypeId}{sz l h jH:Nat}{a:Option Addr}{len cap:Nat}{l5 l6 AS:Option Value}(cm:P.underlying t=some (.slice e))(Q:gZ P e=some sz)
  (ai:(Instr.sliceBounds true len cap l5 l6 AS).run P w=.ok (l,h,jH) w) :
  (Instr.sliceAt t (.slice a len cap) l5 l6 AS).run P w=.ok (.slice (if jH=l then a else a.map (·.add (l*sz))) (h-l) (jH-l)) w:=by
 simp[Instr.sliceAt,Instr.slice,run_underlying cm,ai,wo Q]
theorem apt {es:List (List Data)}{sz:Nat}(fy:∀e∈es,D e=sz)(l:Nat):(es.drop l).flatten=es.flatten.drop (l*sz):=by
 induction es generalizing l with
 |nil=>simp
 |cons a r aH =>
  cases l with
  |zero=>simp
  |succ l =>
   have a4:=fy a (by simp);rw[List.drop_succ_cons,aH (λx M=>fy x (by simp[M])) l,lZ,List.drop_append,a4];have G:a.drop ((l+1)*sz)=[]:=mA (by rw[a4,qq];omega);rw[G,List.nil_append]
   congr 1
   rw[qq];omega
theorem apu {es:List (List Data)}{sz:Nat}(fy:∀e∈es,D e=sz)(l:Nat):(es.take l).flatten=es.flatten.take (l*sz):=by
 induction es generalizing l with
 |nil=>simp
 |cons a r aH =>
  cases l with
  |zero=>simp
  |succ l =>
   have a4:=fy a (by simp);rw[List.take_succ_cons,lZ,aH (λx M=>fy x (by simp[M])) l,lZ,ael,a4];have G:a.take ((l+1)*sz)=a:=dH (by rw[a4,qq];omega);rw[G]
   congr 2
   rw[qq];omega
theorem aem {es:List (List Data)}{a:Option Addr}{len c sz l h cc:Nat}(ab:Den w a0 (.Y es) (.slice a len c))(az:l<=h)(aX:h<=D es)(fy:0<(D es)->∀e∈es,D e=sz)(H:h-l<=cc):
  l=h\/Den w a0 (.Y ((es.take h).drop l)) (.slice (a.map (·.add (l*sz))) (h-l) cc):=by
 rcases O6 az with rfl|av
 ·exact .inl rfl
 ·refine .inr ?_
  cases ab with
  |mU=>simp at aX;omega
  | @Y es b off c eR val Cv hm ai gi hsz' nr Cx =>
   have iX:0<D es:=by omega
   have KT:eR=sz:=by
    have aj:=nM (l:=es) (n:=0) iX;rw[<-hsz' _ aj,fy iX _ aj]
   subst KT;have hlen:((es.take h).drop l).length=h-l:=by simp;omega
   have hmul:l*eR+(h-l)*eR<=D es*eR:=by
    rw[<-rM];exact o0 _ (by omega)
   have:=Den.Y (w:=w) (a0:=a0) (es:=(es.take h).drop l) (b:=b) (off:=off+l*eR) (c:=cc) (sz:=eR) (λi=>val (l*eR+i)) (by rw[hlen];exact H) (by rw[hlen];omega) ai gi
    (λe he=>hsz' e (tM (List.mem_of_mem_drop he)))
    (λi U=>by
     rw[hlen] at U;have:=nr (l*eR+i) (by omega);rwa [<-uU] at this)
    (λi d gH=>by
     refine Cx _ d ?_;rw[apt (λe he=>hsz' e (tM he)) l,apu hsz' h] at gH;rw[rU,AO] at gH
     split at gH
     ·exact gH
     ·cases gH)
   rw[hlen] at this
   simpa [AP] using this
end
section
variable {P:Program} {w:World} {a0:Nat->Prop} {B:ft}
theorem Ux {sz:Nat}{es:List (List Data)}(h:y9 sz es=true):∀e∈es,D e=sz:=λe he=>by
 simpa using qs.1 h e he
theorem apv {t e:TypeId}{sz l h len:Nat}{m r:R}{v:Value}{l5 l6:Option Value}{cP U:Option R}(cm:P.underlying t=some (.slice e))(Q:gZ P e=some sz)
  (iW:kC 0 cP=some l) (hlen:rN m=some len) (k2:kC len U=some h) (nL:sM w a0 B cP l5) (mV:sM w a0 B U l6) (hm:bO w a0 B m v) (X:KE sz l h m=some r) :
  ∃z,(Instr.sliceAt t v l5 l6 none).run P w=.ok z w/\bO w a0 B r z:=by
 obtain⟨a,cap,rfl,Hq⟩:=O5 hm hlen
 have run:l<=h->h<=len->(Instr.sliceAt t (.slice a len cap) l5 l6 none).run P w=.ok (.slice (if cap=l then a else a.map (·.add (l*sz))) (h-l) (cap-l)) w:=λG J =>
  aek cm Q (Uv true iW k2 nL mV G (by omega))
 unfold KE at X
 split at X
 ·rename_i es
  split at X
  ·rename_i H;obtain⟨G,J,af⟩:=H
   cases X;simp only[rN,cO] at hlen;subst hlen;refine⟨_,run G J,.I ?_⟩
   cases hm with
   |I ab =>
    rcases aem (sz:=sz) ab G J (λ_=>Ux af) (cc:=cap-l) (by omega) with rfl|aC
    ·rw[show ((es.take l).drop l)=[] from by simp]
     rw[j6];exact .mU
    ·rcases O6 G with rfl|av
     ·rw[show ((es.take l).drop l)=[] from by simp]
      rw[j6];exact .mU
     ·rw[ag (by omega)];exact aC
  ·cases X
 ·split at X
  ·rename_i H;obtain⟨rfl,rfl⟩:=H
   cases X
   cases hm with
   |nil=>exact⟨_,run (by omega) (by omega),by simpa using bO.nil⟩
  ·cases X
 ·split at X
  ·rename_i k g eR off aen H;obtain⟨rfl,G,J⟩:=H
   cases X;simp only[rN,cO] at hlen;subst hlen
   cases hm with
   |ref he bq aN =>
    refine⟨_,run G J,.ref he bq ?_⟩;obtain⟨lv,aFy,wv,rV,aFz,apw⟩:=aN
    injection wv with ay aA bQ
    subst ay;subst bQ
    refine⟨_,cap-l,rfl,by omega,by omega,?_⟩
    rcases k3 (cap-l) with aj|aj
    ·exact .inl aj
    ·refine .inr ?_;rcases apw with aP|⟨b,rfl,bh⟩
     ·omega
     ·refine⟨b,by rw[ag (by omega)];simp[AP],λb4=>?_⟩
      obtain⟨bK,bE⟩:=bh b4;refine⟨bK,?_⟩;rw[uU,<-rM];rwa [show l+(cap-l)=cap from by omega]
  ·cases X
 ·cases X
theorem apx {t e:TypeId}{sz l h jH:Nat}{m r:R}{v:Value}{l5:Option Value}{l6 AS:Value}{cP:Option R}{U k0:R}(cm:P.underlying t=some (.slice e))(Q:gZ P e=some sz)
  (iW:kC 0 cP=some l) (k2:idx U=some h) (ho:idx k0=some jH) (nL:sM w a0 B cP l5) (mV:bO w a0 B U l6) (Hp:bO w a0 B k0 AS) (hm:bO w a0 B m v) (X:KF sz l h jH m=some r) :
  ∃z,(Instr.sliceAt t v l5 (some l6) (some AS)).run P w=.ok z w/\bO w a0 B r z:=by
 have run:∀a len cap,l<=h->h<=jH->jH<=len->len<=cap->(Instr.sliceAt t (.slice a len cap) l5 (some l6) (some AS)).run P w=.ok (.slice (if jH=l then a else a.map (·.add (l*sz))) (h-l) (jH-l)) w :=
  λa len cap G J af aP=>aek cm Q (aps iW k2 ho nL mV Hp G J (by omega))
 unfold KF at X
 split at X
 ·rename_i es
  split at X
  ·rename_i H;obtain⟨G,J,af,aP⟩:=H;obtain⟨a,cap,rfl,Hq⟩:=O5 hm (n:=D es) rfl;refine⟨_,run a _ cap G J af Hq,?_⟩
   split at X
   ·rename_i pH
    cases X;subst pH;have:h=jH:=by omega
    subst this
    simpa using bO.nil
   ·rename_i pH
    cases X;rw[ag pH]
    cases hm with
    |I ab =>
     refine .I ?_;rcases O6 G with rfl|av
     ·rw[show ((es.take l).drop l)=[] from by simp]
      rw[j6];exact .mU
     ·rcases aem (sz:=sz) ab G (by omega) (λ_=>Ux aP) (cc:=jH-l) (by omega) with aj|aC
      ·omega
      ·exact aC
  ·cases X
 ·split at X
  ·rename_i H;obtain⟨rfl,rfl,rfl⟩:=H
   cases X;obtain⟨a,cap,rfl,Hq⟩:=O5 hm (n:=0) rfl;exact⟨_,run a _ cap (by omega) (by omega) (by omega) Hq,by simpa using bO.nil⟩
  ·cases X
 ·rename_i k g eR off len
  split at X
  ·rename_i H;obtain⟨G,J,af,rfl⟩:=H
   cases X;obtain⟨a,cap,rfl,Hq⟩:=O5 hm (n:=len) rfl;have:h=jH:=by omega
   subst this;exact⟨_,run a _ cap (by omega) (by omega) (by omega) Hq,by simpa using bO.nil⟩
  ·cases X
 ·cases X
theorem apy {t:TypeId}{l h len:Nat}{m r:R}{v:Value}{l5 l6:Option Value}{cP U:Option R}(cm:P.underlying t=some .string)
  (iW:kC 0 cP=some l) (hlen:AD m=some len) (k2:kC len U=some h) (nL:sM w a0 B cP l5) (mV:sM w a0 B U l6) (hm:bO w a0 B m v) (X:KG l h m=some r) :
  ∃z,(Instr.sliceAt t v l5 l6 none).run P w=.ok z w/\bO w a0 B r z:=by
 unfold KG at X
 split at X
 ·rename_i s
  split at X
  ·rename_i H;obtain⟨G,J⟩:=H
   cases X;simp only[AD,cO] at hlen;subst hlen
   cases hm.En;have e:(ByteArray.mk s.toArray).size=D s:=by simp[ByteArray.size]
   have ai:=Uv (P:=P) (w:=w) (a0:=a0) (B:=B) (cap:=D s) false iW k2 nL mV G J
   have M:(ByteArray.mk s.toArray).extract l h=⟨((s.take h).drop l).toArray⟩:=by
    rw[ByteArray.extract_mk,aeo]
   exact⟨.string ⟨((s.take h).drop l).toArray⟩,by simp[Instr.sliceAt,Instr.slice,run_underlying cm,e,ai,M],.I .str⟩
  ·cases X
 ·cases X
theorem aep (off:Nat):∀(l:List Value) (k:Nat) (cs:Array Value),off+k+D l<=cs.size ->
  (l.zipIdx k).foldl (λ(cs:Array Value) (p:Value×Nat)=>cs.setIfInBounds (off+p.2) p.1) cs=(cs.toList.take (off+k)++l++cs.toList.drop (off+k+D l)).toArray
 | [],k,cs,_=>by simp
 |a::l,k,cs,h=>by
  rw[List.zipIdx_cons,aeq];have cv:off+k<cs.size:=by simp at h;omega
  rw[aep off l (k+1) (cs.setIfInBounds (off+k) a) (by simp at h ⊢;omega)];apply Array.ext';simp only[Array.toList_setIfInBounds];have:=list_seg_step cs.toList (off+k) a l (by simp at h ⊢;omega)
  simpa [uU] using this
theorem O7 {place:Nat->Option (Nat×Nat)}{ρ:Operand->Value}{tm:Nat->R}(hρ:∀x y,eB x=some y->bO w a0 B (br tm y) (ρ x)):
  ∀(dM:List (Nat×Operand)) (eZ:List (Nat×Nat×cd)) (cs r:List R) (vs:Array Value),partsOf place dM=some eZ->dR w a0 B cs vs.toList->lq (br tm) cs eZ=some r ->
   ∃pI:Array Value,Instr.fill place vs (dM.map λp=>(p.1,ρ p.2))=some pI/\dR w a0 B r pI.toList
 | [],eZ,cs,r,vs,aC,cg,h=>by
  simp[partsOf] at aC;subst aC;simp[lq] at h;subst h;exact⟨vs,rfl,cg⟩
 |(i,x)::dM,eZ,cs,r,vs,aC,cg,h=>by
  simp only[partsOf,oa,h8,ik,fg,cO] at aC;obtain⟨q,bF,apz,AU,rfl⟩:=aC;obtain⟨⟨o,s⟩,j7,y,ao,rfl⟩:=bF;simp only[lq] at h
  split at h
  ·rename_i H;obtain⟨aj,G,J⟩:=H;have Es:=hρ x y ao;have apA:br tm y ≠ .undef:=λe=>by rw[e] at aj;simp[R.known] at aj
   ·have jf:=dR.Ut Es apA;have fy:(ρ x).cells.size=s:=by have:=jf.1;simp at this;omega
    have O8:o+s<=vs.size:=by have:=cg.1;simp at this;omega
    have hc:=aep o (ρ x).cells.toList 0 vs (by simp[fy];exact O8);simp only[l7,Array.length_toList] at hc;have Uy:=cg.mz jf o;obtain⟨pI,aD,sN⟩:=O7 hρ dM apz _ r ((vs.toList.take o++(ρ x).cells.toList++vs.toList.drop (o+(ρ x).cells.size)).toArray) AU (by simpa using Uy) h;refine⟨pI,?_,sN⟩;simp only[List.map_cons,Instr.fill,j7];rw[ag (by simp[fy];omega)]
    have a2:(ρ x).cells.zipIdx.foldl (λcs (p:Value×Nat)=>cs.setIfInBounds (o+p.2) p.1) vs=(vs.toList.take o++(ρ x).cells.toList++vs.toList.drop (o+(ρ x).cells.size)).toArray:=by
     rw[<-Array.foldl_toList,Array.toList_zipIdx];exact hc
    rw[<-aD]
    congr 1
  ·cases h
end
section
variable {P:Program} {A:Nat->Prop} {w:World} {B:ft} {mem:Mem}
theorem Hr {a0:Nat->Prop}{t:TypeId}{z:List R}(h:zeroOf P t=some z):∃i lx,P.info? t=some i/\i.zero=some lx/\dR w a0 B z lx.cells.toList:=by
 simp only[zeroOf,fg] at h;obtain⟨lx,⟨i,U,a2⟩,hm⟩:=h;obtain⟨G,J⟩:=pG hm;exact⟨i,lx,U,a2,by simp[G],λj m v apB apC=>Us (J j v m apC apB)⟩
theorem O9 {t:TypeId}{i:TypeInfo}{lx:Value}(U:P.info? t=some i)(a2:i.zero=some lx):(zeroValue t).run P w=.ok lx w:=by
 simp[zeroValue,typeInfo,U,a2]
theorem aer {t:TypeId}{i:TypeInfo}{n:Nat}(U:P.info? t=some i)(Q:gZ P t=some n):i.size=n:=by
 simpa [gZ,U] using Q
theorem aes {t:TypeId}{i:TypeInfo}{n:Nat}(U:P.info? t=some i)(Q:Hd P t=some n):i.bytes=n:=by
 simpa [Hd,U] using Q
theorem Uz {z:Array Value}(aj:0<z.size):∀n,((Array.range (n*z.size)).map (z[·%z.size]!)).toList=(en n z.toList).flatten
 |0=>by simp
 |n+1=>by
  have aH:=Uz aj n;apply pJ;intro i
  have ay:∀m i,((Array.range (m*z.size)).map (z[·%z.size]!)).toList[i]?=if i<m*z.size then some (z[i%z.size]!) else none:=by
   intro m i;rw[Array.getElem?_toList,Array.getElem?_map]
   by_cases U:i<m*z.size
   ·rw[ad U,Array.getElem?_range];simp[U]
   ·rw[ag U,Array.getElem?_range];simp[U]
  rw[ay,List.replicate_succ',List.flatten_append,Hk,<-aH];have el:((Array.range (n*z.size)).map (z[·%z.size]!)).toList.length=n*z.size:=by simp
  rw[el];have hmul:(n+1)*z.size=n*z.size+z.size:=by rw[rM,Kp]
  by_cases U:i<n*z.size
  ·rw[ad U,ad (by omega),ay,ad U]
  ·rw[ag U]
   by_cases sL:i<(n+1)*z.size
   ·rw[ad sL];have av:i-n*z.size<z.size:=by omega
    have UA:i%z.size=i-n*z.size:=by
     have e:i=(i-n*z.size)+z.size*n:=by have:=Nat.mul_comm n z.size;omega
     have aA:((i-n*z.size)+z.size*n)%z.size=i-n*z.size:=by rw[Nat.add_mul_mod_self_left,Nat.mod_eq_of_lt av]
     rwa [<-e] at aA
    rw[UA];simp[av]
   ·rw[ag sL]
    symm
    rw[iD];simp;omega
theorem dR.replicate {a0:Nat->Prop}{z:List R}{aet:List Value}(h:dR w a0 B z aet):∀n,dR w a0 B (en n z).flatten (en n aet).flatten
 |0=>by simpa using dR.nil
 |n+1=>by
  rw[tN,lZ,tN,lZ];exact h.append (dR.replicate h n)
theorem dR.tC {cs:List R}{vs:List Value}{aV:World}{bR:ft}(t:Trans A w B aV bR)(h:dR w (cU A B) B cs vs):dR aV (cU A bR) bR cs vs :=
 ⟨h.1,λi m v G J=>(h.2 i m v G J).tC t⟩
theorem KU {cs:List R}(cw:gk A w B mem)(w1:World)(f:Fr (λ_=>False) w w1)(a2:w1.heap.size=w.heap.size)(k:Key)(vs:Array Value)(T:TypeId)(az:(D cs)<=vs.size)
  (cg:dR w (cU A B) B cs (vs.toList.take (D cs))):fm A w B (w1.alloc (.cells vs T)) (hN B k ⟨cA mem k,some w.heap.size,vs.size⟩) (a5 mem k (cA mem k) cs) :=
 fm.alloc cw w1 f a2 k vs T az λi m hm=>by
  obtain⟨v,aN,X⟩:=cg.get hm;rw[AO] at aN
  split at aN
  ·exact⟨v,by simpa using aN,X⟩
  ·cases aN
theorem apD {t:TypeId}{z:List R}(k:Key)(cw:gk A w B mem)(a2:zeroOf P t=some z):
  ∃v aV bR,(Instr.alloc t true (.tuple #[])).run P w=.ok v aV/\fm A w B aV bR (a5 mem k (cA mem k) z)/\bO aV (cU A bR) bR (.ptr k (cA mem k) 0) v:=by
 obtain⟨i,lx,U,xM,cg⟩:=Hr (P:=P) (w:=w) (B:=B) (a0:=cU A B) a2;have az:(D z)=lx.cells.size:=by have:=cg.1;simp at this;omega
 refine⟨.pointer (some ⟨w.heap.size,0,none⟩),w.alloc (.cells lx.cells t),_,?_,KU cw w (Fr.refl _ _) rfl k lx.cells t (by omega) (by rw[dH (by simp;omega)];exact cg),?_⟩
 ·simp[Instr.alloc,O9 U xM,newVar,newRow]
 ·exact .ptr (h7 _ _ _) (cI _) ⟨_,rfl,λ_=>rfl⟩
theorem apE {t:TypeId}{m:R}{u:Value}(k:Key)(cw:gk A w B mem)(hu:bO w (cU A B) B m u)(L:m.known=true):
  ∃v aV bR,(Instr.box t u).run P w=.ok v aV/\fm A w B aV bR (a5 mem k (cA mem k) m.cells)/\bO aV (cU A bR) bR (.ptr k (cA mem k) 0) v:=by
 have cg:=dR.Ut hu (λe=>by rw[e] at L;simp[R.known] at L);have az:(D m.cells)=u.cells.size:=by have:=cg.1;simp at this;omega
 refine⟨.pointer (some ⟨w.heap.size,0,none⟩),w.alloc (.cells u.cells t),_,?_,KU cw w (Fr.refl _ _) rfl k u.cells t (by omega) (by rw[dH (by simp;omega)];exact cg),?_⟩
 ·simp[Instr.box,newVar,newRow]
 ·exact .ptr (h7 _ _ _) (cI _) ⟨_,rfl,λ_=>rfl⟩
theorem apF {t e:TypeId}{z:List R}{bytes n c:Nat}{ef bX:R}{nN im:Value}{r:R}{l8:Option (Key×Nat×List R)}(k:Key)(cw:gk A w B mem)(cm:P.underlying t=some (.slice e))(a2:zeroOf P e=some z)(Q:gZ P e=some (D z))
  (ai:Hd P e=some bytes) (G:idx ef=some n) (J:idx bX=some c) (eS:bO w (cU A B) B ef nN) (eO:bO w (cU A B) B bX im) (aj:0<D z) (h:G8 k (cA mem k) z bytes n c=some (r,l8)) :
  ∃v aV bR,(Instr.makeSlice t nN im).run P w=.ok v aV/\fm A w B aV bR (jI mem l8)/\bO aV (cU A bR) bR r v:=by
 unfold G8 at h
 split at h
 ·rename_i H;obtain⟨rfl,Hs,xN⟩:=H
  cases h;obtain⟨cL,rfl⟩:=Hn G eS;obtain⟨dN,rfl⟩:=Hn J eO;obtain⟨i,lx,U,xM,cg⟩:=Hr (P:=P) (w:=w) (B:=B) (a0:=cU A B) a2;have az:(D z)=lx.cells.size:=by have:=cg.1;simp at this;omega
  have fy:=aer U Q;have KV:=aes U ai
  have nO:=run_make (P:=P) w t e i lx cm U xM cL dN (n:Int) (n:Int) (by omega) (by omega) (by
   have:((i.bytes*n:Nat):Int)<=281474976710656:=by rw[KV];omega
   rwa [Int.natCast_mul] at this) (by unfold maxLen at xN;omega)
  simp only[Int.toNat_natCast] at nO
  have aeu:(madeCells lx.cells (n*i.size)).toList=(en n lx.cells.toList).flatten:=by
   rw[fy,az];exact Uz (by omega) n
  have Et:(madeCells lx.cells (n*i.size)).size=n*D z:=by rw[size_madeCells,fy]
  have Eu:=cg.replicate (n:=n)
  have hlen:(en n z).flatten.length=n*D z:=by
   have:=Eu.1;rw[<-this,<-aeu,Array.length_toList,Et]
  refine⟨_,_,_,nO,KU cw w (Fr.refl _ _) rfl k _ e (by rw[Et,hlen];exact cI _) ?_,?_⟩
  ·rw[dH (by rw[Array.length_toList,Et,hlen];exact cI _),aeu];exact Eu
  ·refine .ref (h7 _ _ _) (cI _) ⟨_,n,rfl,cI _,xN,.inr ⟨_,rfl,λ_=>⟨rfl,?_⟩⟩⟩;simp only[rT];rw[Et];exact cI _
 ·cases h
theorem aev (cw:gk A w B mem){k:Key}{g:Nat}{cs new:List R}{e:nk}{b:Nat}{vs:Array Value}{T:TypeId}{vals:List Value}{off:Nat}(L:mem k=some (g,cs))(he:B k=some e)(ai:e.ek=some b)
  (aX:w.heap[b]?=some (.cells vs T (0,0))) (fy:vs.size=e.size) (az:(D cs)<=vs.size) (cg:dR w (cU A B) B cs (vs.toList.take (D cs))) (b4:e.g=g) (UB:off+D new<=D cs) (h9:dR w (cU A B) B new vals) :
  fm A w B (w.setRow b (vs.toList.take off++vals++vs.toList.drop (off+D vals)).toArray) B (a5 mem k g (mz cs off new)):=by
 have UC:(D vals)=D new:=h9.1
 have Uy:dR w (cU A B) B (mz cs off new) ((vs.toList.take off++vals++vs.toList.drop (off+D vals)).take (D cs)):=by
  have G:=cg.mz h9 off
  have ay:(vs.toList.take (D cs)).take off++vals++(vs.toList.take (D cs)).drop (off+D vals)=(vs.toList.take off++vals++vs.toList.drop (off+D vals)).take (D cs):=by
   have kr:(D vs.toList)=vs.size:=Array.length_toList;rw[List.take_take,pK (by omega),aeo,ael,gj,fU,kr,pK (a:=off) (b:=vs.size) (by omega)];rw[dH (l:=vs.toList.take off++vals) (by rw[gj,fU,kr];omega)]
  rwa [ay] at G
 have xO:(mz cs off new).length=D cs:=by unfold mz;simp;omega
 have heq:hN B k e=B:=by
  funext j
  unfold hN
  split
  ·rename_i ax;rw[ax,he]
  ·rfl
 have f:Fr (λb=>∃e,B k=some e/\e.ek=some b) w (w.setRow b (vs.toList.take off++vals++vs.toList.drop (off+D vals)).toArray):=by
  refine⟨rfl,rfl,rfl,by simp,λj ax bS=>?_⟩
  exact setRow_other w b j _ (λPa=>bS ⟨e,he,by rw[ai,Pa]⟩)
 have:=fm.change (k:=k) (e':=e) (cs:=mz cs off new) cw f (λaA fH => .inl (by rw[he] at fH;exact pL fH)) (λet e1 => .inr ⟨e,he,e1⟩) (λaM=>by rw[ai] at aM;cases aM) (λet e1=>by
  rw[ai] at e1
  cases e1;refine⟨_,T,setRow_heap w b vs _ T (0,0) aX,by simp;omega,by rw[xO];simp;omega,λi m hm=>?_⟩
  obtain⟨v,aN,X⟩:=Uy.get hm;rw[AO] at aN
  split at aN
  ·exact⟨v,by simpa using aN,X⟩
  ·cases aN)
 rw[heq,b4] at this;exact this
theorem apG {t:TypeId}{n:Nat}{ef bX:R}{nN im:Value}{r:R}{l8:Option (Key×Nat×List R)}(cw:gk A w B mem)(Q:gZ P t=some n)(eS:bO w (cU A B) B ef nN)(eO:bO w (cU A B) B bX im)
  (h:za mem n ef bX.cells=some (r,l8)):∃aV,(Instr.storeAt t nN im).run P w=.ok () aV/\fm A w B aV B (jI mem l8)/\r=.no:=by
 cases ef with
 |ptr k g off =>
  simp only[za] at h;unfold KK at h
  split at h
  ·rename_i ea cs L
   split at h
   ·rename_i H;obtain⟨rfl,G,J,af⟩:=H
    cases h;obtain⟨e,he,b4,aM,ai⟩:=cw.at_ L
    cases eS with
    |ptr gY Ur aC =>
     rw[he] at gY
     cases gY;obtain⟨b,rfl,lu⟩:=aC;have lu:=lu b4.symm;obtain⟨vs,T,aX,fy,az,cg⟩:=ai b lu;have jJ:bX ≠ .undef:=λe=>by rw[e] at af;simp[R.cells,R.one] at af
     have jf:=dR.Ut eO jJ
     have apH:∀v∈im.cells.toList,v.oneCell'=true:=by
      intro v aN;obtain⟨i,U,kF⟩:=aew aN;have mB:i<D bX.cells:=by rw[<-jf.1];exact U
      have:=jf.2 i _ _ (bB mB) (bB U);rw[kF] at this;exact aee this (qs.1 af _ (nM mB))
     have aFA:im.cells.size=n:=by have:=jf.1;simp at this;omega
     have dq:=run_storeCells_at P b off T im.cells.toList 0 vs w aX (by simp;omega) apH;simp only[l7] at dq;refine⟨_,?_,aev cw L he lu aX fy az cg b4 (by omega) jf,rfl⟩;have b5:¬ (im.cells.size≠n):=by omega
     simp only[Instr.storeAt,Instr.sureAddr,storeVar,Sem.run_bind,Sem.run_pure,Result.andThen_ok,wo Q];rw[ag b5];exact dq
   ·cases h
  ·cases h
 |_=>simp[za] at h
end
section
variable {P:Program} {A:Nat->Prop} {w:World} {B:ft} {mem:Mem}
theorem Pb (sz:Nat):∀(n:Nat) (l:List Data),(chunk sz n l).length=n
 |0,_=>rfl
 |n+1,l=>by simp[chunk,Pb sz n]
theorem Pc (sz:Nat):∀(n:Nat) (l:List Data),D l=n*sz->∀e∈chunk sz n l,D e=sz
 |0,_,_,e,he=>by simp[chunk] at he
 |n+1,l,az,e,he=>by
  have hmul:(n+1)*sz=n*sz+sz:=by rw[rM,Kp]
  simp only[chunk,List.mem_cons] at he;rcases he with rfl|he
  ·simp;omega
  ·exact Pc sz n _ (by simp;omega) e he
theorem Pf (sz:Nat):∀(n:Nat) (l:List Data),D l=n*sz->(chunk sz n l).flatten=l
 |0,l,az=>by simp at az;simp[chunk,az]
 |n+1,l,az=>by
  have hmul:(n+1)*sz=n*sz+sz:=by rw[rM,Kp]
  simp only[chunk,lZ];rw[Pf sz n _ (by simp;omega),List.take_append_drop]
theorem aex {a0:Nat->Prop}{m:R}{d:Data}{v:Value}(h:Ei m=some d)(aN:bO w a0 B m v):Den w a0 d v:=by
 unfold Ei at h
 split at h<;>cases h
 ·cases aN with
  |I h=>exact h
 ·cases aN with
  |nil=>exact .mU
theorem apI {ds:List Data}{vs:Array Value}{T:TypeId}{n sz:Nat}(cw:gk A w B mem)(aV:World)(hw:aV=w.alloc (.cells vs T))(az:(D ds)=n*sz)(aN:vs.size=n*sz)(hm:n<=maxLen)
  (ab:∀(i:Nat) (d:Data) (v:Value),ds[i]?=some d->vs[i]?=some v->Den w (cU A B) d v):Den aV (cU A B) (.Y (chunk sz n ds)) (.slice (some ⟨w.heap.size,0,none⟩) n n):=by
 have ok:fm A w B aV B mem:=by rw[hw];exact .still cw ((Fr.refl _ _).alloc _)
 have eC:=Pb sz n ds
 have h:=Den.Y (w:=aV) (a0:=cU A B) (es:=chunk sz n ds) (b:=w.heap.size) (off:=0) (c:=n) (sz:=sz) (λi=>vs.getD i undef) (by rw[eC];exact cI _) (by rw[eC];exact hm)
  (by rw[hw];simp) (λbS=>by
   rcases bS with bS|bS
   ·have:=cw.Cm bS;omega
   ·have:=cw.lt _ bS;omega) (Pc sz n ds az)
  (λi U=>by
   rw[eC] at U;rw[hw,rT];have:i<vs.size:=by omega
   simp[this])
  (λi d gH=>by
   rw[Pf sz n ds az] at gH;have av:i<D ds:=(eg.1 gH).1;have ns:i<vs.size:=by omega
   have:vs.getD i undef=vs[i]:=by simp[ns]
   simp only[this];exact (ab i d _ gH (Array.getElem?_eq_getElem ns)).trans ok.n8)
 rw[eC] at h;exact h
theorem aey {t e:TypeId}{z r:List R}{sz len:Nat}{dM:List (Nat×Operand)}{eZ:List (Nat×Nat×cd)}{ρ:Operand->Value}{tm:Nat->R}{a0:Nat->Prop}(cm:P.underlying t=some (.slice e))(a2:zeroOf P e=some z)
  (Q:gZ P e=some sz) (Ev:(D z)=sz) (aj:0<sz) (az:len*sz<=16777216) (aC:partsOf (λi=>some (i*sz,sz)) dM=some eZ) (hρ:∀x y,eB x=some y->bO w a0 B (br tm y) (ρ x))
  (h:lq (br tm) (en len z).flatten eZ=some r) :
  ∃vs:Array Value,(Instr.buildSlice t len (dM.map λp=>(p.1,ρ p.2)).toArray).run P w=.ok (.slice (some ⟨w.heap.size,0,none⟩) len len) (w.alloc (.cells vs e))/\dR w a0 B r vs.toList:=by
 obtain⟨i,lx,U,xM,cg⟩:=Hr (P:=P) (w:=w) (B:=B) (a0:=a0) a2;have Pg:lx.cells.size=sz:=by have:=cg.1;simp at this;omega
 have aez:=Uz (z:=lx.cells) (by omega) len;rw[Pg] at aez;have Eu:=cg.replicate (n:=len);rw[<-aez] at Eu;obtain⟨pI,aD,X⟩:=O7 (place:=λi=>some (i*sz,sz)) hρ dM eZ _ r _ aC Eu h;refine⟨pI,?_,X⟩;have aM:¬ (len*sz>2^24):=by omega
 by_cases wx:len*sz=0
 ·have bu:((Array.range (len*sz)).map (lx.cells[·%sz]!))=#[]:=by rw[wx];simp[Array.range_zero']
  have uX:Instr.fill (λi=>some (i*sz,sz)) #[] (dM.map λp=>(p.1,ρ p.2))=some pI:=by rw[<-bu];exact aD
  simp only[Instr.buildSlice,Sem.run_bind,run_underlying cm,Result.andThen_ok,wo Q];rw[ag aM];simp only[wx,if_true,Sem.run_bind,Sem.run_pure,Result.andThen_ok];simp[uX,newRow,Array.range_zero']
 ·simp only[Instr.buildSlice,Sem.run_bind,run_underlying cm,Result.andThen_ok,wo Q];rw[ag aM];simp only[wx,if_false,Sem.run_bind,Sem.run_pure,Result.andThen_ok,O9 U xM,Pg];simp[aD,newRow]
theorem apJ {t e:TypeId}{z:List R}{sz len:Nat}{dM:List (Nat×Operand)}{eZ:List (Nat×Nat×cd)}{ρ:Operand->Value}{tm:Nat->R}{r:R}(cw:gk A w B mem)(cm:P.underlying t=some (.slice e))(a2:zeroOf P e=some z)
  (Q:gZ P e=some sz) (Ev:(D z)=sz) (aj:0<sz) (az:len*sz<=16777216) (aC:partsOf (λi=>some (i*sz,sz)) dM=some eZ) (hρ:∀x y,eB x=some y->bO w (cU A B) B (br tm y) (ρ x))
  (h:Kv (en len z).flatten sz len (lq (br tm) (en len z).flatten eZ)=some r) :
  ∃v aV,(Instr.buildSlice t len (dM.map λp=>(p.1,ρ p.2)).toArray).run P w=.ok v aV/\fm A w B aV B mem/\bO aV (cU A B) B r v:=by
 unfold Kv at h
 split at h
 ·rename_i hlen
  cases aD:lq (br tm) (en len z).flatten eZ with
  |none=>rw[aD] at h;cases h
  |some cs =>
   rw[aD] at h;simp only[e6] at h;obtain⟨ds,il,rfl⟩:=h;obtain⟨vs,nO,cg⟩:=aey (P:=P) (B:=B) cm a2 Q Ev aj az aC hρ aD;obtain⟨G,J⟩:=pG il
   have eC:(D cs)=len*sz:=by
    have:∀(eZ:List (Nat×Nat×cd)) (a r:List R),lq (br tm) a eZ=some r->(D r)=D a:=by
     intro eZ
     induction eZ with
     |nil=>intro a r h;simp[lq] at h;rw[h]
     |cons q eZ aH =>
      intro a r h;obtain⟨o,s,x⟩:=q;simp only[lq] at h
      split at h
      ·rename_i H;rw[aH _ _ h];unfold mz;simp;omega
      ·cases h
    rw[this _ _ _ aD,hlen]
   have aK:vs.size=len*sz:=by have:=cg.1;simp at this;omega
   refine⟨_,_,nO,.still cw ((Fr.refl _ _).alloc _),.I (apI cw _ rfl (by omega) aK ?_ λi d v ab aN=>?_)⟩
   ·have:len<=len*sz:=aeA _ aj;unfold maxLen;omega
   ·have av:i<D cs:=by have:=(eg.1 ab).1;omega
    have oc:=bB av;exact aex (J i _ d oc ab) (cg.2 i _ v oc (by simpa using aN))
 ·cases h
theorem apK {t e:TypeId}{z:List R}{sz len:Nat}{dM:List (Nat×Operand)}{eZ:List (Nat×Nat×cd)}{ρ:Operand->Value}{tm:Nat->R}{r:R}{l8:Option (Key×Nat×List R)}(k:Key)(cw:gk A w B mem)(cm:P.underlying t=some (.slice e))(a2:zeroOf P e=some z)
  (Q:gZ P e=some sz) (Ev:(D z)=sz) (aj:0<sz) (az:len*sz<=16777216) (aC:partsOf (λi=>some (i*sz,sz)) dM=some eZ) (hρ:∀x y,eB x=some y->bO w (cU A B) B (br tm y) (ρ x))
  (h:G7 k (cA mem k) (en len z).flatten sz len (lq (br tm) (en len z).flatten eZ)=some (r,l8)) :
  ∃v aV bR,(Instr.buildSlice t len (dM.map λp=>(p.1,ρ p.2)).toArray).run P w=.ok v aV/\fm A w B aV bR (jI mem l8)/\bO aV (cU A bR) bR r v:=by
 unfold G7 at h
 split at h
 ·rename_i hlen
  cases aD:lq (br tm) (en len z).flatten eZ with
  |none=>rw[aD] at h;cases h
  |some cs =>
   rw[aD] at h
   cases h;obtain⟨vs,nO,cg⟩:=aey (P:=P) (B:=B) cm a2 Q Ev aj az aC hρ aD
   have eC:(D cs)=len*sz:=by
    have:∀(eZ:List (Nat×Nat×cd)) (a r:List R),lq (br tm) a eZ=some r->(D r)=D a:=by
     intro eZ
     induction eZ with
     |nil=>intro a r h;simp[lq] at h;rw[h]
     |cons q eZ aH =>
      intro a r h;obtain⟨o,s,x⟩:=q;simp only[lq] at h
      split at h
      ·rename_i H;rw[aH _ _ h];unfold mz;simp;omega
      ·cases h
    rw[this _ _ _ aD,hlen]
   have aK:vs.size=D cs:=by have:=cg.1;simp at this;omega
   refine⟨_,_,_,nO,KU cw w (Fr.refl _ _) rfl k vs e (by omega) (by rw[dH (by simp;omega)];exact cg),?_⟩
   have ho:len<=maxLen:=by
    have:len<=len*sz:=aeA _ aj;unfold maxLen;omega
   exact .ref (h7 _ _ _) (cI _) ⟨_,len,rfl,cI _,ho,.inr ⟨_,rfl,λ_=>⟨rfl,by simp only[rT];omega⟩⟩⟩
 ·cases h
theorem aeB {m:R}{sz n:Nat}{new:List R}{v:Value}(cw:gk A w B mem)(aN:bO w (cU A B) B m v)(h:rP mem sz m=some (n,new)):
  ∃a c vals,v=.slice a n c/\dR w (cU A B) B new vals/\D vals=n*sz/\(0<n->∃b off,a=some ⟨b,off,none⟩/\fb w b off vals):=by
 unfold rP at h
 split at h
 ·split at h
  ·rename_i es pM
   cases h;have pM:=Ux pM
   cases aN with
   |I ab =>
    cases ab with
    |mU=>exact⟨_,_,[],rfl,by simpa using dR.nil,by simp,λh=>by simp at h⟩
    | @Y es b off c eR val az hm ai gi fy H Cx =>
     have jg:=OU pM;rcases k3 (D es) with aj|aj
     ·have:es=[]:=uY aj;subst this;exact⟨_,_,[],rfl,by simpa using dR.nil,by simp,λh=>by simp at h⟩
     ·have KT:eR=sz:=by
       have qY:=nM (l:=es) (n:=0) aj;rw[<-fy _ qY,pM _ qY]
      subst KT;refine⟨_,_,(eY (D es*eR)).map val,rfl,?_,by simp,λ_=>⟨b,off,rfl,λj u ax=>?_⟩⟩
      ·refine dR.I (by simp[jg]) λi d u G J=>?_;have U:i<D es*eR:=by have:=(eg.1 G).1;omega
       rw[aW,uV U] at J;simp only[l9,cO] at J;subst J;exact Cx i d G
      ·have U:j<D es*eR:=by have:=(eg.1 ax).1;simpa using this
       rw[aW,uV U] at ax;simp only[l9,cO] at ax;subst ax;exact H j U
  ·cases h
 ·cases h
  cases aN with
  |nil=>exact⟨_,_,[],rfl,dR.nil,by simp,λh=>by simp at h⟩
 ·rename_i k g eR off len
  split at h
  ·rename_i fy;subst fy
   split at h
   ·rename_i ea cs L
    split at h
    ·rename_i bq;subst bq;simp only[e6,fJ] at h;obtain⟨part,tO,rfl,rfl⟩:=h;obtain⟨az,rfl,aM⟩:=Hl tO
     cases aN with
     |ref he bq X =>
      obtain⟨e,gY,b4,Hm,ai⟩:=cw.at_ L;rw[he] at gY
      cases gY;obtain⟨a,cap,rfl,G,J,af⟩:=X;rcases af with af|⟨b,rfl,aP⟩
      ·have:len=0:=by omega
       subst this;exact⟨_,_,[],rfl,by simpa using dR.nil,by simp,λh=>by omega⟩
      ·obtain⟨bh,bK⟩:=aP b4.symm;obtain⟨vs,T,aX,a2,hle,cg⟩:=ai b bh;refine⟨_,_,((vs.toList.take (D cs)).drop off).take (len*eR),rfl,(cg.drop off).take _,by have:=((cg.drop off).take (len*eR)).1;omega,λ_=>⟨b,off,rfl,?_⟩⟩
       have:=(((fb.row aX).take (D cs)).add off).take (len*eR)
       simpa using this
    ·cases h
   ·cases h
  ·cases h
 ·cases h
theorem Ph {sz n c:Nat}{a:Option Addr}{vals:List Value}(az:(D vals)=n*sz)(bW:0<n->∃b off,a=some ⟨b,off,none⟩/\fb w b off vals)(aV:World)(hw:aV.heap=w.heap):
  (Builtin.firstCells sz n (.slice a n c)).run P aV = .ok vals.toArray aV:=by
 have H:∀p,aV.cell? p=w.cell? p:=λp=>by simp[World.cell?,hw]
 rcases k3 n with aj|aj
 ·subst aj;have:vals=[]:=uY (by simpa using az);subst this
  cases a with
  |none=>simp[Builtin.firstCells]
  |some a=>simp[Builtin.firstCells,loadCells,loadCellsFrom]
 ·obtain⟨b,off,rfl,AV⟩:=bW aj;exact run_firstCells_some aV sz n _ n c vals az λj v ax=>by rw[AP,H];exact AV j v ax
theorem dR.aeC {a0:Nat->Prop}{cs:List R}{vs:List Value}(h:dR w a0 B cs vs)(G:cs.all R.one=true):∀v∈vs,v.oneCell'=true:=by
 intro v aN;obtain⟨i,U,kF⟩:=aew aN;have mB:i<D cs:=by rw[<-h.1];exact U
 have:=h.2 i _ _ (bB mB) (bB U);rw[kF] at this;exact aee this (qs.1 G _ (nM mB))
theorem UD {t ty e:TypeId}{sz qt xP n c:Nat}{base a:Option Addr}{vals:List Value}(cm:P.underlying t=some (.slice e))(Q:gZ P e=some sz)(zi:qt+n<=xP)
  (aD:(Builtin.firstCells sz n (.slice a n c)).run P w=.ok vals.toArray w) (aV:World)
  (dq:∀b,base=some b->(storeCells (b.add (qt*sz)) vals).run P w=.ok () aV) (aM:base=none->aV=w) :
  (Builtin.append_ #[t,t] ty #[.slice base qt xP,.slice a n c]).run P w=.ok (.slice base (qt+n) xP) aV:=by
 simp only[gZ,e6] at Q;obtain⟨i,U,rfl⟩:=Q
 cases base with
 |none=>simp[Builtin.append_,run_underlying cm,sizeOf,typeInfo,U,Builtin.lenOf,zi,aD,aM rfl]
 |some b=>simp[Builtin.append_,run_underlying cm,sizeOf,typeInfo,U,Builtin.lenOf,zi,aD,dq b rfl]
theorem apL {t ty e:TypeId}{sz qt xP n c bytes:Nat}{base a:Option Addr}{qZ vals:List Value}{i:TypeInfo}{z:Value}(cm:P.underlying t=some (.slice e))(U:P.info? e=some i)(a2:i.zero=some z)(fy:i.size=sz)(KV:i.bytes=bytes)
  (zi:xP<qt+n) (l3:∀aV,aV.heap=w.heap->(Builtin.firstCells sz qt (.slice base qt xP)).run P aV = .ok qZ.toArray aV) (aD:∀aV,aV.heap=w.heap->(Builtin.firstCells sz n (.slice a n c)).run P aV = .ok vals.toArray aV)
  (apM:qt+n<=maxLen) (ai:(qt+n)*bytes<=140737488355328) :
  (Builtin.append_ #[t,t] ty #[.slice base qt xP,.slice a n c]).run P w =
   .ok (.slice (some ⟨w.heap.size,0,none⟩) (qt+n) (grownCap w (qt+n) xP e))
    (w.drew.alloc (.cells (qZ.toArray++vals.toArray++Builtin.zeroCells z.cells (grownCap w (qt+n) xP e-(qt+n))) e)):=by
 subst fy;subst KV
 have aM:¬ (qt+n<=xP):=by omega
 have apN:¬ (9223372036854775807<((qt:Int)+(n:Int))):=by unfold maxLen at apM;omega
 have O8:=growslice_fits zi ai;have apO:¬ (281474976710656<Builtin.nextslicecap (qt+n) xP*i.bytes):=by omega
 have G:=l3 w.drew rfl;have J:=aD w.drew rfl;simp[Builtin.append_,run_underlying cm,sizeOf,typeInfo,zeroValue,U,a2,Builtin.lenOf,aM,apN,apO,Question.forced,G,J,newRow,grownCap,<-List.append_toArray,Array.append_assoc]
theorem apP {t ty e:TypeId}{z:List R}{bytes n:Nat}{ef bX:R}{nN im:Value}{new:List R}{r:R}{l8:Option (Key×Nat×List R)}(k:Key)(cw:gk A w B mem)(cm:P.underlying t=some (.slice e))(a2:zeroOf P e=some z)(Q:gZ P e=some (D z))
  (KV:Hd P e=some bytes) (aj:0<D z) (eS:bO w (cU A B) B ef nN) (eO:bO w (cU A B) B bX im) (fh:rP mem (D z) bX=some (n,new)) (h:sH mem k z bytes ef (some (n,new))=some (r,l8)) :
  ∃v aV bR,(Builtin.append_ #[t,t] ty #[nN,im]).run P w=.ok v aV/\fm A w B aV bR (jI mem l8)/\bO aV (cU A bR) bR r v:=by
 obtain⟨cS,c2,vals,rfl,cg,kr,bW⟩:=aeB cw eO fh;obtain⟨i,lx,U,xM,apQ⟩:=Hr (P:=P) (w:=w) (B:=B) (a0:=cU A B) a2;have fy:=aer U Q;have lu:=aes U KV;have Pg:lx.cells.size=D z:=by have:=apQ.1;simp at this;omega
 have pN:(D new)=n*D z:=by rw[<-cg.1,kr]
 have aD:=λaV hw=>Ph (P:=P) (w:=w) (c:=c2) kr bW aV hw
 -- a new block
 have grow:∀(base:Option Addr) (len cap:Nat) (g:Nat) (k':Key) (cs:List R) (qZ:List Value),cap<len+n->(∀aV,aV.heap=w.heap->(Builtin.firstCells (D z) len (.slice base len cap)).run P aV = .ok qZ.toArray aV) ->
   dR w (cU A B) B cs qZ->(D cs)=len*(D z)->len+n<=maxLen->(len+n)*bytes<=140737488355328->g=cA mem k' ->
   ∃v aV bR,(Builtin.append_ #[t,t] ty #[.slice base len cap,.slice cS n c2]).run P w=.ok v aV/\fm A w B aV bR (a5 mem k' g (cs++new))/\bO aV (cU A bR) bR (.ref k' g (D z) 0 (len+n)) v:=by
  intro base len cap g k' cs qZ zi l3 kq eC xN Hs bq;subst bq;have nO:=apL (P:=P) (ty:=ty) cm U xM fy lu zi l3 aD xN Hs;have b4:=grownCap_ge w (len+n) cap e;have hle:=grownCap_le_maxLen w (len+n) cap e xN
  have Et:(qZ.toArray++vals.toArray++Builtin.zeroCells lx.cells (grownCap w (len+n) cap e-(len+n))).size=grownCap w (len+n) cap e*D z:=by
   have Ew:=kq.1;simp only[Array.size_append,List.size_toArray,size_zeroCells,Pg,Ew,eC,kr];rw[<-rM,<-rM]
   congr 1
   omega
  have dO:=kq.append cg;have hmul:(len+n)*D z<=grownCap w (len+n) cap e*D z:=o0 _ b4;have KW:(cs++new).length=(len+n)*D z:=by rw[gj,eC,pN,rM]
  refine⟨_,_,_,nO,KU (cs:=cs++new) cw w.drew ((Fr.refl _ _).drew _) rfl k' _ e (by rw[Et,KW];exact hmul) ?_,?_⟩
  ·have:(qZ.toArray++vals.toArray++Builtin.zeroCells lx.cells (grownCap w (len+n) cap e-(len+n))).toList.take (cs++new).length=qZ++vals:=by
    simp only[Array.toList_append,List.toList_toArray];rw[List.take_append_of_le_length (by rw[dO.1];exact cI _),dH (by rw[dO.1];exact cI _)]
   rw[this];exact dO
  ·refine .ref (h7 _ _ _) (cI _) ⟨_,_,rfl,b4,hle,.inr ⟨_,rfl,λ_=>⟨rfl,?_⟩⟩⟩;simp only[rT];rw[Et];exact cI _
 cases ef with
 |nil =>
  simp only[sH] at h
  split at h
  ·rename_i H;obtain⟨Hs,xN,zj⟩:=H
   cases h
   cases eS with
   | @nil cE =>
    rcases k3 n with mW|mW
    ·subst mW;have Ht:vals=[]:=uY (by simpa using kr);have UE:new=[]:=uY (by simpa using pN);subst Ht;subst UE
     refine⟨_,_,_,UD (P:=P) (ty:=ty) cm Q (cI _) (aD w rfl) w (λb _=>by simp[storeCells]) (λ_=>rfl),fm.AK cw k,?_⟩;exact .ref (h7 _ _ _) (cI _) ⟨_,0,rfl,cI _,fA _,.inl rfl⟩
    ·have:=grow cE 0 0 (cA mem k) k [] [] (by omega) (λaV hw=>by
      have:=Ph (P:=P) (w:=w) (sz:=D z) (n:=0) (c:=0) (a:=cE) (vals:=[]) (by simp) (λh=>by omega) aV hw;exact this) dR.nil (by simp) (by omega) (by simpa using Hs) rfl
     simpa [jI] using this
  ·cases h
 |ref k' g eR off len =>
  simp only[sH] at h
  split at h
  ·rename_i H;obtain⟨rfl,rfl⟩:=H;unfold lr at h
   split at h
   ·rename_i ea cs L
    split at h
    ·rename_i H;obtain⟨rfl,hlen,Hs,xN,zj⟩:=H
     cases h;obtain⟨Hu,tP,b4,Hm,ai⟩:=cw.at_ L;have pO:ea+1=cA mem k':=by simp[cA,L]
     cases eS with
     |ref he bq X =>
      rw[tP] at he
      cases he;obtain⟨cE,cap,rfl,G,J,af⟩:=X
      have hold:∃qZ,dR w (cU A B) B (cs.take (len*D z)) qZ/\D qZ=len*D z/\(0<len->∃b off,cE=some ⟨b,off,none⟩/\fb w b off qZ):=by
       rcases af with af|⟨b,rfl,aP⟩
       ·have:len=0:=by omega
        subst this;exact⟨[],by simpa using dR.nil,by simp,λh=>by omega⟩
       ·obtain⟨bh,bK⟩:=aP b4.symm;obtain⟨vs,T,aX,KX,hle,Ex⟩:=ai b bh;refine⟨(vs.toList.take (D cs)).take (len*D z),Ex.take _,by have:=(Ex.take (len*D z)).1;rw[this];simp;omega,λ_=>⟨b,0,rfl,((fb.row aX).take _).take _⟩⟩
      obtain⟨qZ,aeD,apR,aeE⟩:=hold
      by_cases zi:len+n<=cap
      ·rcases af with af|⟨b,rfl,aP⟩
       ·-- no room, and nothing comes
        have od:len=0:=by omega
        have mW:n=0:=by omega
        subst od;subst mW;subst af
        have Ht:vals=[]:=uY (by simpa using kr);have UE:new=[]:=uY (by simpa using pN);subst Ht;subst UE
        refine⟨_,_,hN B k' ⟨cA mem k',none,0⟩,UD (P:=P) (ty:=ty) cm Q (cI _) (aD w rfl) w (λb _=>by simp[storeCells]) (λ_=>rfl),?_,?_⟩
        ·have:=fm.AK cw k'
         simpa [jI,pO] using this
        ·rw[pO];exact .ref (h7 _ _ _) (cI _) ⟨_,0,rfl,cI _,fA _,.inl rfl⟩
       ·obtain⟨bh,bK⟩:=aP b4.symm;obtain⟨vs,T,aX,KX,hle,Ex⟩:=ai b bh;have hmul:(len+n)*D z<=cap*D z:=o0 _ zi;have aeF:(len+n)*D z=len*D z+n*D z:=rM _ _ _;have dq:=run_storeCells_at P b (len*D z) T vals 0 vs w aX (by omega) (cg.aeC zj);simp only[l7] at dq
        have Ew:qZ=vs.toList.take (len*D z):=by
         apply pJ;intro j;rcases hn j (len*D z) with ax|ax
         ·have iX:0<len:=by
           rcases k3 len with h|h
           ·subst h;simp at ax
           ·exact h
          obtain⟨fK,aFB,aeG,xQ⟩:=aeE iX;simp only[cO,Addr.mk.injEq,and_true] at aeG;obtain⟨rfl,rfl⟩:=aeG;have wy:j<D qZ:=by omega
          have nr:=xQ j _ (bB wy);rw[rT,cell_of_row w b j vs T (0,0) aX] at nr;rw[bB wy,AO,ad ax,<-nr,Array.getElem?_toList]
         ·rw[iD (by omega),AO,ag (by omega)]
        have aeH:(vs.toList.take (len*D z)++vals++vs.toList.drop (len*D z+D vals)).toArray.size=Hu.size:=by
         simp;omega
        have f:Fr (λb=>∃e,B k'=some e/\e.ek=some b) w (w.setRow b (vs.toList.take (len*D z)++vals++vs.toList.drop (len*D z+D vals)).toArray):=by
         refine⟨rfl,rfl,rfl,by simp,λj ax bS=>?_⟩
         exact setRow_other w b j _ (λPa=>bS ⟨Hu,tP,by rw[bh,Pa]⟩)
        have KW:(cs.take (len*D z)++new).length=len*D z+D vals:=by
         rw[gj,pN,kr,fU,pK hlen]
        have ok:=fm.change (k:=k') (e':=⟨ea+1,some b,Hu.size⟩) (cs:=cs.take (len*D z)++new) cw f
         (λaA fH => .inr (by rw[tP] at fH;cases fH;simp only;omega)) (λet e1 => .inr ⟨Hu,tP,by rw[bh];exact e1⟩) (λaM=>by cases aM) (λet e1=>by
          cases e1;refine⟨_,T,setRow_heap w b vs _ T (0,0) aX,aeH,by rw[aeH,KW,kr];omega,λi m hm=>?_⟩
          have dO:=aeD.append cg;obtain⟨v,aN,X⟩:=dO.get hm;refine⟨v,?_,X⟩;rw[Ew] at aN;have av:i<(vs.toList.take (len*D z)++vals).length:=(eg.1 aN).1;simp only[aeI];rw[oZ av];exact aN)
        refine⟨_,_,_,UD (P:=P) (ty:=ty) (a:=cS) (c:=c2) (vals:=vals) cm Q zi (aD w rfl) _ (λfK nq=>by
         cases nq;rw[AP,rT];exact dq) (λh=>by cases h),ok,?_⟩
        exact .ref (h7 _ _ _) (cI _) ⟨_,cap,rfl,zi,J,.inr ⟨b,rfl,λ_=>⟨rfl,bK⟩⟩⟩
      ·have:=grow cE len cap (ea+1) k' (cs.take (len*D z)) qZ (by omega) (λaV hw=>Ph (P:=P) (w:=w) apR aeE aV hw) aeD (by rw[fU,pK hlen]) xN Hs pO;exact this
    ·cases h
   ·cases h
  ·cases h
 |_=>simp[sH] at h
theorem apS {t u ty e:TypeId}{sz n:Nat}{ef bX:R}{nN im:Value}{new:List R}{r:R}{l8:Option (Key×Nat×List R)}(cw:gk A w B mem)(cm:P.underlying t=some (.slice e))(Q:gZ P e=some sz)
  (eS:bO w (cU A B) B ef nN) (eO:bO w (cU A B) B bX im) (fh:rP mem sz bX=some (n,new)) (h:xI mem sz ef (some (n,new))=some (r,l8)) :
  ∃v aV,(Builtin.copy_ #[t,u] ty #[nN,im]).run P w=.ok v aV/\fm A w B aV B (jI mem l8)/\bO aV (cU A B) B r v:=by
 obtain⟨cS,c2,vals,rfl,cg,kr,bW⟩:=aeB cw eO fh;have pN:(D new)=n*sz:=by rw[<-cg.1,kr]
 cases ef with
 |ref k g eR off len =>
  simp only[xI] at h
  split at h
  ·rename_i fy;subst fy;unfold Cq at h
   split at h
   ·rename_i ea cs L
    split at h
    ·rename_i H;obtain⟨rfl,O8,zj⟩:=H
     cases h;obtain⟨Hu,tP,b4,Hm,ai⟩:=cw.at_ L;have Hv:Nat.min n len=min n len:=rfl;have hle:min n len<=n:=Nat.min_le_left _ _;have apT:min n len<=len:=Nat.min_le_right _ _;have pH:min n len*eR<=n*eR:=o0 _ hle;have aFC:min n len*eR<=len*eR:=o0 _ apT;have rV:(vals.take (min n len*eR)).length=min n len*eR:=by rw[fU,kr,pK pH]
     have Cy:∀(a:Option Addr) (c:Nat),(0<n->∃b off,a=some ⟨b,off,none⟩/\fb w b off vals)->(Builtin.firstCells eR (min n len) (.slice a n c)).run P w=.ok (vals.take (min n len*eR)).toArray w:=by
      intro a c bW
      have:=Ph (P:=P) (w:=w) (sz:=eR) (n:=min n len) (c:=c) (a:=a) (vals:=vals.take (min n len*eR)) rV (λh=>by
       obtain⟨b,off,G,J⟩:=bW (by omega);exact⟨b,off,G,J.take _⟩) w rfl
      cases a with
      |none=>simpa [Builtin.firstCells] using this
      |some a=>simpa [Builtin.firstCells] using this
     cases eS with
     |ref he bq X =>
      rw[tP] at he
      cases he;obtain⟨cE,cap,rfl,G,J,af⟩:=X;simp only[gZ,e6] at Q;obtain⟨i,U,UF⟩:=Q;rcases af with af|⟨b,rfl,aP⟩
      ·have od:len=0:=by omega
       subst od;have qY:min n 0=0:=Nat.min_zero _;have sO:mz cs off (new.take (min n 0*eR))=cs:=by simp[mz]
       have dq:∀a:Addr,(storeCells a ([]:List Value)).run P w=.ok () w:=λa=>by simp[storeCells]
       have KY:=Cy cS c2 bW;simp only[qY,Nat.zero_mul,List.take_zero] at KY
       have jK:hN B k Hu=B:=by
        funext j;unfold hN;split
        ·rename_i ax;rw[ax,tP]
        ·rfl
       refine⟨.int .i64 0,w,?_,?_,by simpa using bO.ofInt⟩
       ·cases cE with
        |none=>simp[Builtin.copy_,run_underlying cm,Builtin.lenOf,sizeOf,typeInfo,U,UF,KY,goInt]
        |some a=>simp[Builtin.copy_,run_underlying cm,Builtin.lenOf,sizeOf,typeInfo,U,UF,KY,dq,goInt]
       ·have ia:a5 mem k ea cs=mem:=by
         funext j;unfold a5;split
         ·rename_i ax;rw[ax,L]
         ·rfl
        simp only[jI,sO,ia];exact .refl cw
      ·obtain⟨bh,bK⟩:=aP b4.symm;obtain⟨vs,T,aX,KX,UG,Ex⟩:=ai b bh;have dq:=run_storeCells_at P b off T (vals.take (min n len*eR)) 0 vs w aX (by omega) (λv aN=>cg.aeC zj v (tM aN));simp only[l7] at dq;refine⟨.int .i64 ((min n len:Nat):Int),_,?_,aev cw L tP bh aX KX UG Ex b4 (by rw[fU,pN,pK pH];omega) (cg.take (min n len*eR)),.ofInt⟩;have KY:=Cy cS c2 bW;simp[Builtin.copy_,run_underlying cm,Builtin.lenOf,sizeOf,typeInfo,U,UF,Hv,KY,dq,goInt]
    ·cases h
   ·cases h
  ·cases h
 |_=>simp[xI] at h
end
end Go.Mini
namespace Go.Mini
open Go
variable {P:Program} {A:Nat->Prop} {w:World} {B:ft} {mem:Mem}
theorem apU {t e:TypeId}{sz l h len:Nat}{m r:R}{v:Value}{l5 l6:Option Value}{cP U:Option R}(cw:gk A w B mem)(cm:P.underlying t=some (.array len e))(Q:gZ P e=some sz)(aFD:len<=16777216)
  (iW:kC 0 cP=some l) (k2:kC len U=some h) (nL:sM w (cU A B) B cP l5) (mV:sM w (cU A B) B U l6) (hm:bO w (cU A B) B m v) (X:Cp mem len sz l h m=some r) :
  ∃z,(Instr.sliceAt t v l5 l6 none).run P w=.ok z w/\bO w (cU A B) B r z:=by
 unfold Cp at X
 split at X
 ·rename_i k g off;unfold Un at X
  split at X
  ·rename_i ea cs L
   split at X
   ·rename_i H;obtain⟨rfl,G,J,af⟩:=H
    cases X
    cases hm with
    |ptr he bq aN =>
     obtain⟨b,rfl,ai⟩:=aN;obtain⟨e',gY,b4,aM,fz⟩:=cw.at_ L;rw[gY] at he
     cases he;have lu:=ai b4.symm;obtain⟨vs,T,aX,a2,hle,_⟩:=fz b lu;refine⟨.slice (some (if len=l then ⟨b,off,none⟩ else ⟨b,off+l*sz,none⟩)) (h-l) (len-l),?_,.ref gY bq ⟨_,len-l,rfl,by omega,by unfold maxLen;omega,?_⟩⟩
     ·simp[Instr.sliceAt,run_underlying cm,Instr.sureAddr,Uv (P:=P) (w:=w) false iW k2 nL mV G J,wo Q]
      split<;>simp[AP]
     ·rcases O6 (eP G J) with az|az
      ·exact .inl (by omega)
      ·refine .inr ⟨b,by rw[ag (by omega)],λ_=>⟨lu,?_⟩⟩
       have:off+l*sz+(len-l)*sz=off+len*sz:=by
        rw[uU,<-rM]
        congr 2
        omega
       omega
   ·cases X
  ·cases X
 ·cases X
theorem apV {eb:List Field}(h:(eb.all λf=>(gZ P f.type).isSome)=true):∃dM:List (Nat×Nat),(eb.mapM λf=>(do pure (f.offset,<-sizeOf f.type):Sem (Nat×Nat))).run P w=.ok dM w /\
  ∀i:Nat,dM[i]?=wj P eb.toArray i:=by
 induction eb with
 |nil=>exact⟨[],by simp,λi=>by simp[wj]⟩
 |cons f r aH =>
  simp only[List.all_cons,gb] at h;obtain⟨dM,G,J⟩:=aH h.2;obtain⟨s,Q⟩:=Option.isSome_iff_exists.1 h.1;refine⟨(f.offset,s)::dM,?_,λi=>?_⟩
  ·simp only[oa,Sem.run_bind,wo Q,Result.andThen_ok,Sem.run_pure];rw[G]
   rfl
  ·cases i with
   |zero=>simp[wj,Q]
   |succ i =>
    have:=J i;simp only[wj,aeI,List.getElem?_cons_succ] at this ⊢;exact this
theorem apW {p q:Nat->Option (Nat×Nat)}(h:∀i,p i=q i)(cs:Array Value)(l:List (Nat×Value)):Instr.fill p cs l=Instr.fill q cs l:=by
 rw[show p=q from funext h]
theorem apX {t:TypeId}{eb:Array Field}{z r:List R}{dM:List (Nat×Operand)}{eZ:List (Nat×Nat×cd)}{ρ:Operand->Value}{tm:Nat->R}{a0:Nat->Prop}(cm:P.underlying t=some (.struct eb))(a2:zeroOf P t=some z)
  (a4:(eb.toList.all λf=>(gZ P f.type).isSome)=true) (aC:partsOf (wj P eb) dM=some eZ) (hρ:∀x y,eB x=some y->bO w a0 B (br tm y) (ρ x))
  (h:lq (br tm) z eZ=some r):∃v,(Instr.build t (dM.map λp=>(p.1,ρ p.2)).toArray).run P w=.ok v w/\bO w a0 B (.agg r) v:=by
 obtain⟨i,lx,U,xM,cg⟩:=Hr (P:=P) (w:=w) (B:=B) (a0:=a0) a2;obtain⟨pl,G,J⟩:=apV (w:=w) a4;obtain⟨pI,aD,X⟩:=O7 (place:=wj P eb) hρ dM eZ _ r _ aC cg h;refine⟨.agg pI,?_,by rw[show pI=pI.toList.toArray from by simp];exact .agg X.1 X.2⟩
 ·have xR:∀i,pl.toArray[i]?=wj P eb i:=λi=>by simpa using J i
  have hm:(eb.mapM λf=>(do pure (f.offset,<-sizeOf f.type):Sem (Nat×Nat))).run P w=.ok pl.toArray w:=by
   rw[Array.mapM_eq_mapM_toList];rw[map_eq_pure_bind];simp only[Sem.run_bind,G,Result.andThen_ok,Sem.run_pure]
  simp only[Instr.build,Sem.run_bind,O9 U xM,Result.andThen_ok,Sem.run_pure,run_underlying cm,hm,apW xR,aD]
theorem apY {t e:TypeId}{n sz:Nat}{z r:List R}{dM:List (Nat×Operand)}{eZ:List (Nat×Nat×cd)}{ρ:Operand->Value}{tm:Nat->R}{a0:Nat->Prop}(cm:P.underlying t=some (.array n e))(a2:zeroOf P t=some z)
  (Q:gZ P e=some sz) (aC:partsOf (λi=>some (i*sz,sz)) dM=some eZ) (hρ:∀x y,eB x=some y->bO w a0 B (br tm y) (ρ x))
  (h:lq (br tm) z eZ=some r):∃v,(Instr.build t (dM.map λp=>(p.1,ρ p.2)).toArray).run P w=.ok v w/\bO w a0 B (.agg r) v:=by
 obtain⟨i,lx,U,xM,cg⟩:=Hr (P:=P) (w:=w) (B:=B) (a0:=a0) a2;obtain⟨pI,aD,X⟩:=O7 (place:=λi=>some (i*sz,sz)) hρ dM eZ _ r _ aC cg h;refine⟨.agg pI,?_,by rw[show pI=pI.toList.toArray from by simp];exact .agg X.1 X.2⟩
 simp only[Instr.build,Sem.run_bind,O9 U xM,Result.andThen_ok,Sem.run_pure,run_underlying cm,wo Q,aD]
end Go.Mini
namespace Go.Mini
open Go
variable {P:Program} {A:Nat->Prop} {w:World} {B:ft} {mem:Mem}
def apZ (n:Next)(v:Value):Prop:=n=.value v\/(n=.skip/\v=undef)
def jh (A:Nat->Prop)(w:World)(B:ft)(run:Result Next)(mem':Mem)(r:R):Prop :=
 ∃n v aV bR,run=.ok n aV/\apZ n v/\fm A w B aV bR mem'/\bO aV (cU A bR) bR r v
theorem jh.nt {s:Sem Value}{r:R}(cw:gk A w B mem)(h:∃v,s.run P w=.ok v w/\bO w (cU A B) B r v):jh A w B ((do pure (.value (<-s)):Sem Next).run P w) mem r:=by
 obtain⟨v,G,J⟩:=h;exact⟨.value v,v,w,B,by simp[G],.inl rfl,.refl cw,J⟩
theorem jh.of {s:Sem Value}{mem':Mem}{r:R}(h:∃v aV bR,s.run P w=.ok v aV/\fm A w B aV bR mem'/\bO aV (cU A bR) bR r v):jh A w B ((do pure (.value (<-s)):Sem Next).run P w) mem' r:=by
 obtain⟨v,aV,bR,G,J,af⟩:=h;exact⟨.value v,v,aV,bR,by simp[G],.inl rfl,J,af⟩
theorem aeJ {x:Option R}{r:R}{l8:Option (Key×Nat×List R)}(h:j5 x=some (r,l8)):x=some r/\l8=none:=by
 unfold j5 at h
 split at h<;>cases h
 exact⟨rfl,rfl⟩
theorem rW {x:Option Nat}{f:Nat->Option R}{r:R}(h:iV x f=some r):∃n,x=some n/\f n=some r:=by
 unfold iV at h
 split at h
 ·exact⟨_,rfl,h⟩
 ·cases h
theorem aeK {x y:Option Nat}{f:Nat->Nat->Out}{r:R×Option (Key×Nat×List R)}(h:KJ x y f=some r):∃n m,x=some n/\y=some m/\f n m=some r:=by
 unfold KJ at h
 split at h
 ·exact⟨_,_,rfl,rfl,h⟩
 ·cases h
theorem Ey {a0:Nat->Prop}{ρ:Operand->Value}{tm:Nat->R}(hρ:∀x y,eB x=some y->bO w a0 B (br tm y) (ρ x)){x:Option Operand}{y:Option cd}(h:uT x=some y):sM w a0 B (y.map (br tm)) (x.map ρ):=by
 cases x with
 |none=>simp[uT] at h;subst h;simp[sM]
 |some x =>
  simp only[uT,e6] at h;obtain⟨y',ao,rfl⟩:=h;simp only[l9,sM];exact hρ _ _ ao
theorem aeL {eb:Array Field}{f o s:Nat}(h:wj P eb f=some (o,s)):∃fd,eb[f]?=some fd/\fd.offset=o/\gZ P fd.type=some s:=by
 simp only[wj,h8,ik,fg,cO,fJ] at h;obtain⟨fd,G,aeM,J,af,aP⟩:=h;exact⟨fd,G,af,aP ▸ J⟩
theorem Cz {a0:Nat->Prop}{ρ:Operand->Value}{tm:Nat->R}(hρ:∀x y,eB x=some y->bO w a0 B (br tm y) (ρ x)):∀{l:List Operand} {r:List cd},l.mapM eB=some r->dR w a0 B (r.map (br tm)) (l.map ρ)
 | [],r,h=>by simp at h;subst h;exact dR.nil
 |x::l,r,h=>by
  simp only[oa,h8,ik,fg,cO] at h;obtain⟨y,ao,AL,X,rfl⟩:=h;exact dR.cons (hρ _ _ ao) (Cz hρ X)
theorem CA {α β:Type}(a:Array α)(f:α->β):a.map f=(a.toList.map f).toArray:=by
 apply Array.ext';simp
theorem j8 {tm:Nat->R}{m:kZ}{r:R}{l8:Option (Key×Nat×List R)}{x:Option R}(h:cK mem tm m=some (r,l8))(e:cK mem tm m=j5 x):x=some r/\l8=none:=aeJ (e.symm.trans h)
theorem ap0 {ρ:Operand->Value}{tm:Nat->R}{kb:Nat}{own:List Nat}{dst:Option Tmp}{type:TypeId}{c:Call}{m:kZ}{r:R}{l8:Option (Key×Nat×List R)}(cw:gk A w B mem)
  (hρ:∀x y,eB x=some y->bO w (cU A B) B (br tm y) (ρ x)) (bc:Cs P kb own dst type c=some m) (h:cK mem tm m=some (r,l8)) :
  jh A w B ((do let d <-resolve ρ c type;invoke d.target d.args:Sem Next).run P w) (jI mem l8) r:=by
 obtain⟨callee,args,argTypes⟩:=c;have two:∀{α:Type} (a:Array α) (x y:α),a.toList=[x,y]->a=#[x,y]:=λa x y h=>Array.ext' (by simpa using h);have one:∀{α:Type} (a:Array α) (x:α),a.toList=[x]->a=#[x]:=λa x h=>Array.ext' (by simpa using h);unfold Cs at bc
 split at bc
 ·rename_i x t H a4 cm;simp only at H a4 cm;subst H;obtain rfl:=one _ _ a4;obtain rfl:=one _ _ cm
  split at bc
  ·rename_i e hu;simp only[e6] at bc;obtain⟨y,ao,rfl⟩:=bc;obtain⟨bF,rfl⟩:=j8 h rfl;obtain⟨n,aM,bF⟩:=rW bF
   cases bF;have:=apo (P:=P) (w:=w) t type e hu (hρ _ _ ao) aM;exact⟨.value _,_,w,B,by simp[resolve,invoke,builtin,this],.inl rfl,.refl cw,.I .int⟩
  ·rename_i hu;simp only[e6] at bc;obtain⟨y,ao,rfl⟩:=bc;obtain⟨bF,rfl⟩:=j8 h rfl;obtain⟨n,aM,bF⟩:=rW bF
   cases bF;have:=apq (P:=P) (w:=w) t type hu (hρ _ _ ao) aM;exact⟨.value _,_,w,B,by simp[resolve,invoke,builtin,this],.inl rfl,.refl cw,.I .int⟩
  ·cases bc
 ·rename_i s x t u H a4 cm;simp only at H a4 cm;subst H;obtain rfl:=two _ _ _ a4;obtain rfl:=two _ _ _ cm
  split at bc
  ·rename_i e aA hu aeN;simp only[h8,ik,fg] at bc;obtain⟨z,a2,b,ai,n,aM,d,ab,aeM,jL,ks,wz,aX⟩:=bc
   split at aX
   ·rename_i oe;obtain⟨rfl,aj,rfl⟩:=oe
    cases aX;simp only[cK] at h
    cases fh:rP mem (D z) (br tm ks) with
    |none =>
     rw[fh] at h
     revert h
     cases br tm aeM<;>simp[sH]
    |some p =>
     obtain⟨k,new⟩:=p;rw[fh] at h;obtain⟨v,aV,bR,G,J,af⟩:=apP (ty:=type) _ cw hu a2 aM ai aj (hρ _ _ jL) (hρ _ _ wz) fh h;exact⟨.value v,v,aV,bR,by simp[resolve,invoke,builtin,G],.inl rfl,J,af⟩
   ·cases aX
  ·cases bc
 ·rename_i aFE x t u H a4 cm;simp only at H a4 cm;subst H;obtain rfl:=two _ _ _ a4;obtain rfl:=two _ _ _ cm
  split at bc
  ·rename_i e aA hu aeN;simp only[h8,ik,fg] at bc;obtain⟨n,aM,aX⟩:=bc
   split at aX
   ·rename_i aj;simp only[fg,cO] at aX;obtain⟨zk,qX,ks,wz,rfl⟩:=aX;simp only[cK] at h
    cases fh:rP mem n (br tm ks) with
    |none =>
     rw[fh] at h
     revert h
     cases br tm zk<;>simp[xI]
    |some p =>
     obtain⟨k,new⟩:=p;rw[fh] at h;obtain⟨v,aV,G,J,af⟩:=apS (u:=u) (ty:=type) cw hu aM (hρ _ _ qX) (hρ _ _ wz) fh h;exact⟨.value v,v,aV,B,by simp[resolve,invoke,builtin,G],.inl rfl,J,af⟩
   ·cases aX
  ·cases bc
 ·rename_i x y H a4;simp only at H a4;subst H;obtain rfl:=two _ _ _ a4;simp only[h8,ik,fg,cO] at bc;obtain⟨ks,M,y',ao,rfl⟩:=bc;obtain⟨bF,rfl⟩:=j8 h rfl;obtain⟨z,G,J⟩:=aej (P:=P) argTypes type (hρ _ _ M) (hρ _ _ ao) bF;simp only[if_true] at G;exact⟨.value z,z,w,B,by simp[resolve,invoke,builtin,G],.inl rfl,.refl cw,J⟩
 ·rename_i x y H a4;simp only at H a4;subst H;obtain rfl:=two _ _ _ a4;simp only[h8,ik,fg,cO] at bc;obtain⟨ks,M,y',ao,rfl⟩:=bc;obtain⟨bF,rfl⟩:=j8 h rfl;obtain⟨z,G,J⟩:=aej (P:=P) argTypes type (hρ _ _ M) (hρ _ _ ao) bF;simp only[kE,if_false] at G;exact⟨.value z,z,w,B,by simp[resolve,invoke,builtin,G],.inl rfl,.refl cw,J⟩
 ·split at bc
  ·split at bc
   ·simp only[h8,ik,fg,cO] at bc;obtain⟨_,_,_,_,_,_,rfl⟩:=bc
    cases h
   ·cases bc
  ·split at bc
   ·simp only[h8,ik,fg,cO] at bc;obtain⟨_,_,rfl⟩:=bc
    cases h
   ·simp only[h8,ik,fg,cO] at bc;obtain⟨_,_,rfl⟩:=bc
    cases h
 ·simp only[h8,ik,fg,cO] at bc;obtain⟨_,_,_,_,rfl⟩:=bc
  cases h
 ·cases bc
theorem aeO {ρ:Operand->Value}{tm:Nat->R}{kb:Nat}{own:List Nat}{o:Oper}{m:kZ}{r:R}{l8:Option (Key×Nat×List R)}(cw:gk A w B mem)
  (hρ:∀x y,eB x=some y->bO w (cU A B) B (br tm y) (ρ x)) (bc:np P kb own o.dst o.type o.op=some m) (h:cK mem tm m=some (r,l8)) :
  jh A w B ((execOp ρ o).run P w) (jI mem l8) r:=by
 obtain⟨dst,op,type,pos,after,guard⟩:=o;simp only at bc
 cases op<;>simp only[np] at bc<;>simp only[execOp]
 case move x =>
  simp only[e6] at bc;obtain⟨y,ao,rfl⟩:=bc;obtain⟨bF,rfl⟩:=j8 (x:=some (br tm y)) h rfl
  cases bF;exact⟨_,_,w,B,rfl,.inl rfl,.refl cw,hρ _ _ ao⟩
 case assign x =>
  simp only[e6] at bc;obtain⟨y,ao,rfl⟩:=bc;obtain⟨bF,rfl⟩:=j8 (x:=some (br tm y)) h rfl
  cases bF;exact⟨_,_,w,B,rfl,.inl rfl,.refl cw,hρ _ _ ao⟩
 case pick c a b =>
  simp only[h8,ik,fg,cO] at bc;obtain⟨c',H,lv,a4,fK,ai,rfl⟩:=bc;obtain⟨bF,rfl⟩:=j8 h rfl;have:=jh.nt cw (apc (P:=P) (hρ _ _ H) (hρ _ _ a4) (hρ _ _ ai) bF)
  simpa [jI] using this
 case alloc e =>
  simp only[h8,ik,fg,cO] at bc;obtain⟨d,ab,z,a2,rfl⟩:=bc;simp only[cK,cO,fJ] at h;obtain⟨rfl,rfl⟩:=h;exact jh.of (apD _ cw a2)
 case box e x =>
  simp only[h8,ik,fg,cO] at bc;obtain⟨d,ab,y,ao,rfl⟩:=bc;simp only[cK] at h
  split at h
  ·rename_i L;simp only[cO,fJ] at h;obtain⟨rfl,rfl⟩:=h;exact jh.of (apE _ cw (hρ _ _ ao) L)
  ·cases h
 case build t dM =>
  split at bc
  ·rename_i eb hu
   split at bc
   ·rename_i a4;simp only[h8,ik,fg,cO] at bc;obtain⟨z,a2,eZ,AU,rfl⟩:=bc;obtain⟨bF,rfl⟩:=j8 h rfl;simp only[l0,e6] at bF;obtain⟨cs,kq,rfl⟩:=bF;rw[CA];exact jh.nt cw (apX hu a2 a4 AU hρ kq)
   ·cases bc
  ·rename_i n e hu;simp only[h8,ik,fg,cO] at bc;obtain⟨s,Q,z,a2,eZ,AU,rfl⟩:=bc;obtain⟨bF,rfl⟩:=j8 h rfl;simp only[l0,e6] at bF;obtain⟨cs,kq,rfl⟩:=bF;rw[CA];exact jh.nt cw (apY hu a2 Q AU hρ kq)
  ·cases bc
 case buildSlice t len dM =>
  split at bc
  ·rename_i e hu;simp only[h8,ik,fg] at bc;obtain⟨z,a2,s,Q,eZ,AU,d,ab,aX⟩:=bc
   split at aX
   ·rename_i H;obtain⟨Ev,aj,az⟩:=H;simp only[cO] at aX;subst aX;rw[CA]
    cases kG:own.contains d with
    |true =>
     rw[kG] at h;exact jh.of (apK _ cw hu a2 Q Ev aj az AU hρ h)
    |false =>
     rw[kG] at h;obtain⟨bF,rfl⟩:=j8 h rfl;obtain⟨v,aV,G,J,af⟩:=apJ cw hu a2 Q Ev aj az AU hρ bF;exact jh.of ⟨v,aV,B,G,J,af⟩
   ·cases aX
  ·cases bc
 case load t x =>
  simp only[h8,ik,fg,cO] at bc;obtain⟨n,aM,g,bq,y,ao,rfl⟩:=bc;obtain⟨bF,rfl⟩:=j8 h rfl;exact jh.nt cw (apb aM bq cw (hρ _ _ ao) bF)
 case store t x v =>
  simp only[h8,ik,fg,cO] at bc;obtain⟨n,aM,ks,M,Eo,aN,rfl⟩:=bc;obtain⟨aV,G,J,rfl⟩:=apG cw aM (hρ _ _ M) (hρ _ _ aN) h;exact⟨.skip,undef,aV,B,by simp[G],.inr ⟨rfl,rfl⟩,J,.no⟩
 case nilCheck x =>
  simp only[e6] at bc;obtain⟨y,ao,rfl⟩:=bc;obtain⟨bF,rfl⟩:=j8 h rfl;obtain⟨⟨b,off,M⟩,X⟩:=apr (hρ _ _ ao) bF;rw[M] at X ⊢;exact⟨_,_,w,B,rfl,.inl rfl,.refl cw,X⟩
 case binOp bop t x y pos2 =>
  unfold El at bc
  split at bc
  ·split at bc
   ·rename_i ks y' M ao
    cases bc;obtain⟨bF,rfl⟩:=j8 h rfl;exact jh.nt cw (aeb t x y (hρ _ _ M) (hρ _ _ ao) bF)
   ·cases bc
  ·split at bc
   ·rename_i ks y' M ao
    cases bc;obtain⟨bF,rfl⟩:=j8 h rfl;exact jh.nt cw (aeb t x y (hρ _ _ M) (hρ _ _ ao) bF)
   ·cases bc
  ·rename_i hu
   split at bc
   ·rename_i ks y' M ao
    cases bc;obtain⟨bF,rfl⟩:=j8 h rfl;exact jh.nt cw (aec (neg:=false) t x y hu (hρ _ _ M) (hρ _ _ ao) bF)
   ·rename_i ks y' M ao
    cases bc;obtain⟨bF,rfl⟩:=j8 h rfl;exact jh.nt cw (aec (neg:=true) t x y hu (hρ _ _ M) (hρ _ _ ao) bF)
   ·cases bc
  ·rename_i eb hu
   split at bc
   ·unfold AG at bc
    split at bc
    ·rename_i H
     split at bc
     ·rename_i hl ks y' L M ao
      cases bc;obtain⟨bF,rfl⟩:=j8 h rfl;exact jh.nt cw (aei (neg:=false) t x y eb hu H.1 H.2 L (hρ _ _ M) (hρ _ _ ao) bF)
     ·cases bc
    ·cases bc
   ·unfold AG at bc
    split at bc
    ·rename_i H
     split at bc
     ·rename_i hl ks y' L M ao
      cases bc;obtain⟨bF,rfl⟩:=j8 h rfl;exact jh.nt cw (aei (neg:=true) t x y eb hu H.1 H.2 L (hρ _ _ M) (hρ _ _ ao) bF)
     ·cases bc
    ·cases bc
   ·cases bc
  ·split at bc
   ·split at bc
    ·simp only[e6] at bc;obtain⟨_,_,rfl⟩:=bc
     cases h
    ·simp only[e6] at bc;obtain⟨_,_,rfl⟩:=bc
     cases h
    ·cases bc
   ·cases bc
  ·cases bc
 case unOp uop t x =>
  simp only[e6] at bc;obtain⟨y,ao,rfl⟩:=bc;obtain⟨bF,rfl⟩:=j8 h rfl;exact jh.nt cw (apd (hρ _ _ ao) bF)
 case convert s t x =>
  split at bc
  ·rename_i hl k Q cm;simp only[e6] at bc;obtain⟨y,ao,rfl⟩:=bc;obtain⟨bF,rfl⟩:=j8 h rfl;exact jh.nt cw (ape s t hl Q cm (hρ _ _ ao) bF)
  ·cases bc
 case makeFunc fn first gW =>
  cases fn<;>simp only[reduceCtorEq] at bc
  split at bc
  ·rename_i fy;simp only[h8,ik,fg,cO] at bc;obtain⟨cs,kq,rfl⟩:=bc;obtain⟨bF,rfl⟩:=j8 (x:=some (.gX _ (cs.map (br tm)))) h rfl
   cases bF;have wA:first=#[]:=Array.eq_empty_of_size_eq_zero fy
   subst wA;have az:=Cz hρ kq;exact jh.nt cw ⟨_,by rw[CA gW,Array.map_empty];rfl,.gX az.1 az.2⟩
  ·cases bc
 case makeSlice t l c =>
  split at bc
  ·rename_i e he;simp only[h8,ik,fg] at bc;obtain⟨z,a2,s,Q,b,ai,d,ab,aX⟩:=bc
   split at aX
   ·rename_i H;simp only[fg,cO] at aX;obtain⟨fL,az,c',ly,rfl⟩:=aX;simp only[cK] at h;obtain⟨h0,iE,G,J,af⟩:=aeK h;obtain⟨rfl,aj⟩:=H;exact jh.of (apF _ cw he a2 Q ai G J (hρ _ _ az) (hρ _ _ ly) aj af)
   ·cases aX
  ·cases bc
 case slice t x cP U k0 =>
  split at bc
  ·rename_i e hu;simp only[h8,ik,fg] at bc;obtain⟨s,Q,aX⟩:=bc
   split at aX
   ·simp only[fg,cO] at aX;obtain⟨y,ao,aeP,iW,mB,k2,KZ,ho,rfl⟩:=aX;have nL:=Ey hρ iW;have mV:=Ey hρ k2;have Hp:=Ey hρ ho
    cases KZ with
    |none =>
     cases k0 with
     |some v=>simp[uT,e6] at ho
     |none =>
      obtain⟨bF,rfl⟩:=j8 h rfl;obtain⟨l,az,bF⟩:=rW bF;obtain⟨len,hlen,bF⟩:=rW bF;obtain⟨aX,Ez,bF⟩:=rW bF;exact jh.nt cw (apv hu Q az hlen Ez nL mV (hρ _ _ ao) bF)
    |some KZ =>
     cases mB with
     |none=>cases h
     |some mB =>
      cases U with
      |none=>simp[sM] at mV
      |some U =>
       cases k0 with
       |none=>simp[sM] at Hp
       |some k0 =>
        obtain⟨bF,rfl⟩:=j8 h rfl;obtain⟨l,az,bF⟩:=rW bF;obtain⟨aX,Ez,bF⟩:=rW bF;obtain⟨m,hm,bF⟩:=rW bF;exact jh.nt cw (apx hu Q az Ez hm nL mV Hp (hρ _ _ ao) bF)
   ·cases aX
  ·rename_i n e hu;simp only[h8,ik,fg] at bc;obtain⟨s,Q,aX⟩:=bc
   split at aX
   ·rename_i H;simp only[fg,cO] at aX;obtain⟨y,ao,aeP,iW,mB,k2,KZ,ho,rfl⟩:=aX;have nL:=Ey hρ iW;have mV:=Ey hρ k2
    cases KZ with
    |none =>
     cases k0 with
     |some v=>simp[uT,e6] at ho
     |none =>
      obtain⟨bF,rfl⟩:=j8 h rfl;obtain⟨l,az,bF⟩:=rW bF;obtain⟨aX,Ez,bF⟩:=rW bF;exact jh.nt cw (apU cw hu Q H.2 az Ez nL mV (hρ _ _ ao) bF)
    |some KZ=>cases h
   ·cases aX
  ·rename_i hu
   split at bc
   ·rename_i ho;simp only[h8,ik,fg,cO] at bc;obtain⟨y,ao,aeP,iW,mB,k2,rfl⟩:=bc;have nL:=Ey hρ iW;have mV:=Ey hρ k2
    cases k0 with
    |some v=>cases ho
    |none =>
     obtain⟨bF,rfl⟩:=j8 h rfl;obtain⟨l,az,bF⟩:=rW bF;obtain⟨len,hlen,bF⟩:=rW bF;obtain⟨aX,Ez,bF⟩:=rW bF;exact jh.nt cw (apy hu az hlen Ez nL mV (hρ _ _ ao) bF)
   ·cases bc
  ·cases bc
 case fieldAddr t x f =>
  split at bc
  ·rename_i eb hu;simp only[h8,ik,fg] at bc;obtain⟨⟨o,s⟩,aC,aX⟩:=bc
   split at aX
   ·rename_i aj;simp only[fg,cO] at aX;obtain⟨y,ao,rfl⟩:=aX;obtain⟨fd,G,J,af⟩:=aeL aC;obtain⟨bF,rfl⟩:=j8 h rfl;exact jh.nt cw (apf t f eb fd s hu G af aj J (hρ _ _ ao) bF)
   ·cases aX
  ·cases bc
 case field t x f =>
  split at bc
  ·rename_i eb hu;simp only[h8,ik,fg,cO] at bc;obtain⟨fd,UH,⟨o,s⟩,aC,g,bq,y,ao,rfl⟩:=bc;obtain⟨aFF,G,J,af⟩:=aeL aC;rw[UH] at G
   cases G;obtain⟨bF,rfl⟩:=j8 h rfl;exact jh.nt cw (api t f eb fd hu UH af bq J (hρ _ _ ao) bF)
  ·cases bc
 case indexAddr t x i =>
  split at bc
  ·rename_i e hu;simp only[h8,ik,fg] at bc;obtain⟨s,Q,aX⟩:=bc
   split at aX
   ·simp only[fg,cO] at aX;obtain⟨y,ao,j,ax,rfl⟩:=aX;obtain⟨bF,rfl⟩:=j8 h rfl;obtain⟨n,aM,bF⟩:=rW bF;obtain⟨k,L⟩:=Hn aM (hρ _ _ ax);rw[L];exact jh.nt cw (apk t e hu Q (hρ _ _ ao) bF)
   ·cases aX
  ·rename_i len e hu;simp only[h8,ik,fg] at bc;obtain⟨s,Q,aX⟩:=bc
   split at aX
   ·simp only[fg,cO] at aX;obtain⟨y,ao,j,ax,rfl⟩:=aX;obtain⟨bF,rfl⟩:=j8 h rfl;obtain⟨n,aM,bF⟩:=rW bF;obtain⟨k,L⟩:=Hn aM (hρ _ _ ax);rw[L];exact jh.nt cw (apl t e hu Q (hρ _ _ ao) bF)
   ·cases aX
  ·cases bc
 case index t x i =>
  split at bc
  ·rename_i hu;simp only[h8,ik,fg,cO] at bc;obtain⟨y,ao,j,ax,rfl⟩:=bc;obtain⟨bF,rfl⟩:=j8 h rfl;obtain⟨n,aM,bF⟩:=rW bF;obtain⟨k,L⟩:=Hn aM (hρ _ _ ax);rw[L];exact jh.nt cw (apm t hu (hρ _ _ ao) bF)
  ·cases bc
 case extract x i =>
  simp only[e6] at bc;obtain⟨y,ao,rfl⟩:=bc;obtain⟨bF,rfl⟩:=j8 h rfl;exact jh.nt cw (apn (hρ _ _ ao) bF)
 case call c =>
  exact ap0 cw hρ bc h
 all_goals cases bc
end Go.Mini
namespace Go.Mini
open Go
inductive fB where
 |code (c:ep)
 |inBlock (id:Nat)
def cj (T:bm)(K:eF->bg->Prop):List fB->eF->bg->Prop
 | [],e,st=>K e st
 |.code c::k,.normal,st=>wp T c (cj T K k) st
 |.code _::k,.exit id,st=>cj T K k (.exit id) st
 |.code _::k,.ret,st=>cj T K k .ret st
 |.inBlock _::k,.normal,st=>cj T K k .normal st
 |.inBlock j::k,.exit id,st=>if id=j then cj T K k .normal st else cj T K k (.exit id) st
 |.inBlock _::k,.ret,st=>cj T K k .ret st
section
variable {T:bm} {K:eF->bg->Prop} {k:List fB} {st:bg}
theorem ap1 (c:ep):(λe er=>match e with
  |.normal=>wp T c (cj T K k) er
  |e=>cj T K k e er)=cj T K (.code c::k):=by
 funext e er
 cases e<;>rfl
theorem ap2 (id:Nat):(λe er=>match e with
  |.exit j=>if j=id then cj T K k .normal er else cj T K k (.exit j) er
  |e=>cj T K k e er)=cj T K (.inBlock id::k):=by
 funext e er
 cases e<;>rfl
@[go_sem] theorem ap3 (e:eF):cj T K [] e st=K e st:=by cases e<;>rfl
@[go_sem] theorem aFG (c:ep):cj T K (.code c::k) .normal st=wp T c (cj T K k) st:=bN
@[go_sem] theorem aFH (c:ep)(id:Nat):cj T K (.code c::k) (.exit id) st=cj T K k (.exit id) st:=bN
@[go_sem] theorem aFI (c:ep):cj T K (.code c::k) .ret st=cj T K k .ret st:=bN
@[go_sem] theorem aFJ (id:Nat):cj T K (.inBlock id::k) .normal st=cj T K k .normal st:=bN
@[go_sem] theorem aFK (id j:Nat):cj T K (.inBlock j::k) (.exit id) st=if id=j then cj T K k .normal st else cj T K k (.exit id) st:=bN
@[go_sem] theorem aFL (id:Nat):cj T K (.inBlock id::k) .ret st=cj T K k .ret st:=bN
theorem tQ {c:ep}(h:wp T c (cj T K []) st):wp T c K st:=by
 have:cj T K []=K:=by funext e st;cases e<;>rfl
 rwa [this] at h
@[go_sem] theorem wp_seq (a b:ep):wp T (.seq a b) (cj T K k) st=wp T a (cj T K (.code b::k)) st:=by
 rw[<-ap1];rfl
@[go_sem] theorem wp_skip:wp T .skip (cj T K k) st=cj T K k .normal st:=bN
@[go_sem] theorem wp_ret:wp T .ret (cj T K k) st=cj T K k .ret st:=bN
@[go_sem] theorem wp_exit (id:Nat):wp T (.exit id) (cj T K k) st=cj T K k (.exit id) st:=bN
@[go_sem] theorem wp_block (id:Nat)(c:ep):wp T (.block id c) (cj T K k) st=wp T c (cj T K (.inBlock id::k)) st:=by
 rw[<-ap2];rfl
def rX (T:bm)(K:eF->bg->Prop)(k:List fB)(m:R)(a b:ep)(st:bg):Prop :=
 match m with
 |.I (.bool t)=>if t=true then wp T a (cj T K k) st else wp T b (cj T K k) st
 |_=>False
@[go_sem] theorem wp_cond (c:cd)(a b:ep):wp T (.cond c a b) (cj T K k) st=rX T K k (br st.tm c) a b st:=bN
@[go_sem] theorem ap4 (a b:ep):rX T K k (.I (.bool true)) a b st=wp T a (cj T K k) st:=bN
@[go_sem] theorem ap5 (a b:ep):rX T K k (.I (.bool false)) a b st=wp T b (cj T K k) st:=bN
def Hw (T:bm)(K:eF->bg->Prop)(k:List fB)(l:List dp)(st:bg):Prop:=zb T (cj T K k .normal) l st
@[go_sem] theorem wp_ops (l:List dp):wp T (.ops l) (cj T K k) st=Hw T K k l st:=bN
@[go_sem] theorem aFM:Hw T K k [] st=cj T K k .normal st:=bN
def sP (T:bm)(K:eF->bg->Prop)(k:List fB)(g:Option Bool)(i:dp)(r:List dp)(st:bg):Prop :=
 match g with
 |none=>False
 |some g=>if g=true then hb T (zb T (cj T K k .normal) r) i st else Hw T K k r ⟨put st.tm i.dst .no,st.mem⟩
@[go_sem] theorem aFN (i:dp)(r:List dp):Hw T K k (i::r) st=sP T K k (qo st.tm i.g) i r st:=bN
@[go_sem] theorem aFO (i:dp)(r:List dp):sP T K k (some true) i r st=hb T (Hw T K k r) i st:=bN
@[go_sem] theorem aFP (i:dp)(r:List dp):sP T K k (some false) i r st=Hw T K k r ⟨put st.tm i.dst .no,st.mem⟩:=bN
def CB (T:bm)(K:eF->bg->Prop)(k:List fB)(n:Nat)(l:List dp)(c:List (List Nat))(rec:Rec)(st:bg):Prop:=xJ T (cj T K k .normal) n l c rec st
@[go_sem] theorem aFQ (l:List dp)(c:List (List Nat)):wp T (.my l c) (cj T K k) st=CB T K k 0 l c (λ_=>none) st:=bN
@[go_sem] theorem aFR (n:Nat)(c:List (List Nat))(rec:Rec):CB T K k n [] c rec st=cj T K k .normal st:=bN
def sQ (T:bm)(K:eF->bg->Prop)(k:List fB)(n:Nat)(g:Option Bool)(i:dp)(r:List dp)(c:List (List Nat))(rec:Rec)(st:bg):Prop :=
 match g with
 |none=>False
 |some g=>if g=true then (match kp T st.mem st.tm i.op with
    |some (m,e)=>Hb rec (kD i.op,eK st.tm i.op) (c.headD [])=true/\CB T K k (n+1) r c.tail (wi rec n (kD i.op,eK st.tm i.op)) ⟨put st.tm i.dst m,jI st.mem e⟩
    |none=>False) else CB T K k (n+1) r c.tail rec ⟨put st.tm i.dst .no,st.mem⟩
@[go_sem] theorem aFS (n:Nat)(i:dp)(r:List dp)(c:List (List Nat))(rec:Rec):CB T K k n (i::r) c rec st=sQ T K k n (qo st.tm i.g) i r c rec st:=bN
def aeQ (T:bm)(K:eF->bg->Prop)(k:List fB)(n:Nat)(x:Option (R×Option (Key×Nat×List R)))(i:dp)(r:List dp)(c:List (List Nat))(rec:Rec)(st:bg):Prop :=
 match x with
 |some (m,e)=>Hb rec (kD i.op,eK st.tm i.op) (c.headD [])=true/\CB T K k (n+1) r c.tail (wi rec n (kD i.op,eK st.tm i.op)) ⟨put st.tm i.dst m,jI st.mem e⟩
 |none=>False
@[go_sem] theorem aFT (n:Nat)(i:dp)(r:List dp)(c:List (List Nat))(rec:Rec):sQ T K k n (some true) i r c rec st=aeQ T K k n (kp T st.mem st.tm i.op) i r c rec st:=bN
@[go_sem] theorem aFU (n:Nat)(i:dp)(r:List dp)(c:List (List Nat))(rec:Rec):sQ T K k n (some false) i r c rec st=CB T K k (n+1) r c.tail rec ⟨put st.tm i.dst .no,st.mem⟩:=bN
@[go_sem] theorem aFV (n:Nat)(m:R)(e:Option (Key×Nat×List R))(i:dp)(r:List dp)(c:List (List Nat))(rec:Rec):aeQ T K k n (some (m,e)) i r c rec st =
 (Hb rec (kD i.op,eK st.tm i.op) (c.headD [])=true/\CB T K k (n+1) r c.tail (wi rec n (kD i.op,eK st.tm i.op)) ⟨put st.tm i.dst m,jI st.mem e⟩):=bN
end
section
variable {T:bm} {K:bg->Prop} {st:bg} {tm:Nat->R} {mem:Mem}
def kH (K:bg->Prop)(x:Option (R×Option (Key×Nat×List R)))(d:Option Nat)(st:bg):Prop :=
 match x with
 |some (m,e)=>K ⟨put st.tm d m,jI st.mem e⟩
 |none=>False
@[go_sem] theorem aFW (m:R)(e:Option (Key×Nat×List R))(d:Option Nat):kH K (some (m,e)) d st=K ⟨put st.tm d m,jI st.mem e⟩:=bN
variable (d:Option Nat) (g:Option (Nat×Bool))
@[go_sem] theorem aFX (x:cd):hb T K ⟨d,g,.b8 x⟩ st=K ⟨put st.tm d (br st.tm x),st.mem⟩:=bN
@[go_sem] theorem aFY (c a b:cd):hb T K ⟨d,g,.pick c a b⟩ st=kH K (cK st.mem st.tm (.pick c a b)) d st:=bN
@[go_sem] theorem aFZ (k:Key)(z:List R):hb T K ⟨d,g,.alloc k z⟩ st=K ⟨put st.tm d (.ptr k (cA st.mem k) 0),a5 st.mem k (cA st.mem k) z⟩:=bN
@[go_sem] theorem aF0 (k:Key)(x:cd):hb T K ⟨d,g,.box k x⟩ st=kH K (cK st.mem st.tm (.box k x)) d st:=bN
@[go_sem] theorem aF1 (z:List R)(dM:List (Nat×Nat×cd)):hb T K ⟨d,g,.build z dM⟩ st=kH K (cK st.mem st.tm (.build z dM)) d st:=bN
@[go_sem] theorem aF2 (k:Key)(o:Bool)(z:List R)(sz len:Nat)(dM:List (Nat×Nat×cd)):hb T K ⟨d,g,.eL k o z sz len dM⟩ st=kH K (cK st.mem st.tm (.eL k o z sz len dM)) d st:=bN
@[go_sem] theorem aF3 (n:Nat)(ey:Bool)(x:cd):hb T K ⟨d,g,.load n ey x⟩ st=kH K (cK st.mem st.tm (.load n ey x)) d st:=bN
@[go_sem] theorem aF4 (n:Nat)(x v:cd):hb T K ⟨d,g,.store n x v⟩ st=kH K (cK st.mem st.tm (.store n x v)) d st:=bN
@[go_sem] theorem aF5 (op:BinOp)(x y:cd):hb T K ⟨d,g,.bin op x y⟩ st=kH K (cK st.mem st.tm (.bin op x y)) d st:=bN
@[go_sem] theorem aF6 (b:Bool)(n:List Nat)(x y:cd):hb T K ⟨d,g,.eqs b n x y⟩ st=kH K (cK st.mem st.tm (.eqs b n x y)) d st:=bN
@[go_sem] theorem aF7 (b:Bool)(x y:cd):hb T K ⟨d,g,.beq b x y⟩ st=kH K (cK st.mem st.tm (.beq b x y)) d st:=bN
@[go_sem] theorem aF8 (op:UnOp)(x:cd):hb T K ⟨d,g,.un op x⟩ st=kH K (cK st.mem st.tm (.un op x)) d st:=bN
@[go_sem] theorem aF9 (k:IntKind)(x:cd):hb T K ⟨d,g,.conv k x⟩ st=kH K (cK st.mem st.tm (.conv k x)) d st:=bN
@[go_sem] theorem aGa (x:cd):hb T K ⟨d,g,.n7 x⟩ st=kH K (cK st.mem st.tm (.n7 x)) d st:=bN
@[go_sem] theorem aGb (k:Key)(z:List R)(b:Nat)(x y:cd):hb T K ⟨d,g,.mx k z b x y⟩ st=kH K (cK st.mem st.tm (.mx k z b x y)) d st:=bN
@[go_sem] theorem aGc (o:Nat)(x:cd):hb T K ⟨d,g,.dQ o x⟩ st=kH K (cK st.mem st.tm (.dQ o x)) d st:=bN
@[go_sem] theorem aGd (o n:Nat)(ey:Bool)(x:cd):hb T K ⟨d,g,.Ef o n ey x⟩ st=kH K (cK st.mem st.tm (.Ef o n ey x)) d st:=bN
@[go_sem] theorem aGe (s:Nat)(x i:cd):hb T K ⟨d,g,.ij s x i⟩ st=kH K (cK st.mem st.tm (.ij s x i)) d st:=bN
@[go_sem] theorem aGf (n s:Nat)(x i:cd):hb T K ⟨d,g,.qn n s x i⟩ st=kH K (cK st.mem st.tm (.qn n s x i)) d st:=bN
@[go_sem] theorem aGg (x i:cd):hb T K ⟨d,g,.idxs x i⟩ st=kH K (cK st.mem st.tm (.idxs x i)) d st:=bN
@[go_sem] theorem aGh (s:Nat)(x:cd)(a b c:Option cd):hb T K ⟨d,g,.tE s x a b c⟩ st=kH K (cK st.mem st.tm (.tE s x a b c)) d st:=bN
@[go_sem] theorem aGi (n s:Nat)(x:cd)(a b c:Option cd):hb T K ⟨d,g,.uR n s x a b c⟩ st=kH K (cK st.mem st.tm (.uR n s x a b c)) d st:=bN
@[go_sem] theorem aGj (x:cd)(a b:Option cd):hb T K ⟨d,g,.Eg x a b⟩ st=kH K (cK st.mem st.tm (.Eg x a b)) d st:=bN
@[go_sem] theorem aGk (i:Nat)(x:cd):hb T K ⟨d,g,.ext i x⟩ st=kH K (cK st.mem st.tm (.ext i x)) d st:=bN
@[go_sem] theorem aGl (x:cd):hb T K ⟨d,g,.len x⟩ st=kH K (cK st.mem st.tm (.len x)) d st:=bN
@[go_sem] theorem aGm (x:cd):hb T K ⟨d,g,.lens x⟩ st=kH K (cK st.mem st.tm (.lens x)) d st:=bN
@[go_sem] theorem aGn (k:Key)(z:List R)(b:Nat)(s x:cd):hb T K ⟨d,g,.app k z b s x⟩ st=kH K (cK st.mem st.tm (.app k z b s x)) d st:=bN
@[go_sem] theorem aGo (s:Nat)(x y:cd):hb T K ⟨d,g,.tF s x y⟩ st=kH K (cK st.mem st.tm (.tF s x y)) d st:=bN
@[go_sem] theorem aGp (b:Bool)(x y:cd):hb T K ⟨d,g,.jH b x y⟩ st=kH K (cK st.mem st.tm (.jH b x y)) d st:=bN
@[go_sem] theorem aGq (f:FuncId)(l:List cd):hb T K ⟨d,g,.wg f l⟩ st=kH K (cK st.mem st.tm (.wg f l)) d st:=bN
def zl (K:bg->Prop)(x:Option hY)(d:Option Nat)(st:bg):Prop :=
 match x with
 |some (.same r)=>K ⟨put st.tm d (.I r),st.mem⟩
 |some (.own _ es)=>K ⟨put st.tm d (.I (.Y es)),st.mem⟩
 |some (.rel bV)=>∀r mem',bV r mem'->K ⟨put st.tm d r,mem'⟩
 |some (.dW r k g i c)=>K ⟨put st.tm d (.I r),a5 st.mem k g ((sI st.mem k).set i c)⟩
 |none=>False
@[go_sem] theorem aGr (f:FuncId)(l:List cd):hb T K ⟨d,g,.call f l⟩ st=zl K (T f (l.map (br st.tm)) st.mem) d st:=bN
@[go_sem] theorem aGs (r:Data)(k:Key)(g i:Nat)(c:R):zl K (some (.dW r k g i c)) d st=K ⟨put st.tm d (.I r),a5 st.mem k g ((sI st.mem k).set i c)⟩:=bN
@[go_sem] theorem aGt (r:Data):zl K (some (.same r)) d st=K ⟨put st.tm d (.I r),st.mem⟩:=bN
@[go_sem] theorem aGu (s:Nat)(es:List (List Data)):zl K (some (.own s es)) d st=K ⟨put st.tm d (.I (.Y es)),st.mem⟩:=bN
@[go_sem] theorem ap6 (bV:R->Mem->Prop):zl K (some (.rel bV)) d st=∀r mem',bV r mem'->K ⟨put st.tm d r,mem'⟩:=bN
def UI (T:bm)(K:bg->Prop)(m:R)(args:List R)(d:Option Nat)(st:bg):Prop :=
 match m with
 |.gX g gW=>zl K (T g (args++gW) st.mem) d st
 |.I (.fn g ds)=>zl K (T g (args++ds.map .I) st.mem) d st
 |_=>False
@[go_sem] theorem aGv (f:cd)(l:List cd):hb T K ⟨d,g,.nJ f l⟩ st=UI T K (br st.tm f) (l.map (br st.tm)) d st:=bN
@[go_sem] theorem aGw (f:FuncId)(gW args:List R):UI T K (.gX f gW) args d st=zl K (T f (args++gW) st.mem) d st:=bN
@[go_sem] theorem aGx (f:FuncId)(ds:List Data)(args:List R):UI T K (.I (.fn f ds)) args d st=zl K (T f (args++ds.map .I) st.mem) d st:=bN
def UJ (K:bg->Prop)(x:Option hY)(k:Key)(sz:Nat)(d:Option Nat)(st:bg):Prop :=
 match x with
 |some (.own eR es)=>if eR=sz then K ⟨put st.tm d (.ref k (cA st.mem k) sz 0 (D es)),a5 st.mem k (cA st.mem k) (es.flatten.map .I)⟩ else False
 |_=>False
@[go_sem] theorem aGy (k:Key)(sz:Nat)(f:FuncId)(l:List cd):hb T K ⟨d,g,.oX k sz f l⟩ st=UJ K (T f (l.map (br st.tm)) st.mem) k sz d st:=bN
@[go_sem] theorem aGz (k:Key)(sz:Nat)(es:List (List Data)):UJ K (some (.own sz es)) k sz d st=K ⟨put st.tm d (.ref k (cA st.mem k) sz 0 (D es)),a5 st.mem k (cA st.mem k) (es.flatten.map .I)⟩:=by simp[UJ]
def aeR (K:bg->Prop)(neg:Bool)(x:Option Bool)(d:Option Nat)(st:bg):Prop :=
 match x with
 |some full=>∀b:Bool,(full=true->b=false)->K ⟨put st.tm d (.I (.bool (neg != b))),st.mem⟩
 |none=>False
@[go_sem] theorem aGA (neg:Bool)(x:cd):hb T K ⟨d,g,.sF neg x⟩ st=aeR K neg (Ej (br st.tm x)) d st:=bN
@[go_sem] theorem aGB (neg full:Bool):aeR K neg (some full) d st=∀b:Bool,(full=true->b=false)->K ⟨put st.tm d (.I (.bool (neg != b))),st.mem⟩:=bN
end
section
variable {tm:Nat->R} {mem:Mem}
@[go_sem] theorem aGC (s:Nat):br tm (.t s)=tm s:=bN
@[go_sem] theorem aGD (m:R):br tm (.c m)=m:=bN
@[go_sem] theorem aGE (s:Nat)(m:R):put tm (some s) m=dW tm s m:=bN
@[go_sem] theorem aGF (m:R):put tm none m=tm:=bN
@[go_sem] theorem aGG (s:Nat)(m:R)(t:Nat):dW tm s m t=if t=s then m else tm t:=bN
@[go_sem] theorem CC (k:Key)(g:Nat)(cs:List R)(j:Key):a5 mem k g cs j=if j=k then some (g,cs) else mem j:=bN
@[go_sem] theorem aGH:jI mem none=mem:=bN
@[go_sem] theorem aGI (k:Key)(g:Nat)(cs:List R):jI mem (some (k,g,cs))=a5 mem k g cs:=bN
def gd:Option (Nat×List R)->Nat
 |none=>0
 |some (g,_)=>g+1
@[go_sem] theorem aGJ (k:Key):cA mem k=gd (mem k):=by unfold cA gd;rfl
@[go_sem] theorem aGK:gd none=0:=bN
@[go_sem] theorem aGL (g:Nat)(cs:List R):gd (some (g,cs))=g+1:=bN
@[go_sem] theorem aGM (k:Key):emp k=none:=bN
@[go_sem] theorem aGN:qo tm none=some true:=bN
def Pj (m:R)(b:Bool):Option Bool :=
 match m with
 |.I (.bool t)=>some (t==b)
 |.no=>some false
 |_=>none
@[go_sem] theorem aGO (s:Nat)(b:Bool):qo tm (some (s,b))=Pj (tm s) b:=bN
@[go_sem] theorem aGP (b:Bool):Pj .no b=some false:=bN
variable (op:kZ)
@[go_sem] theorem aGQ (m:R):j5 (some m)=some (m,none):=bN
@[go_sem] theorem aGR (x:cd):cK mem tm (.b8 x)=some (br tm x,none):=bN
@[go_sem] theorem aGS (c a b:cd):cK mem tm (.pick c a b)=j5 (G6 (br tm c) (br tm a) (br tm b)):=bN
@[go_sem] theorem aGT (a b:R):G6 (.I (.bool true)) a b=some a:=bN
@[go_sem] theorem aGU (a b:R):G6 (.I (.bool false)) a b=some b:=bN
@[go_sem] theorem aGV (k:Key)(z:List R):cK mem tm (.alloc k z)=some (.ptr k (cA mem k) 0,some (k,cA mem k,z)):=bN
@[go_sem] theorem aGW (k:Key)(x:cd):cK mem tm (.box k x)=if (br tm x).known=true then some (.ptr k (cA mem k) 0,some (k,cA mem k,(br tm x).cells)) else none:=bN
@[go_sem] theorem aGX (z:List R)(dM:List (Nat×Nat×cd)):cK mem tm (.build z dM)=j5 ((lq (br tm) z dM).map .agg):=bN
@[go_sem] theorem aGY (k:Key)(z:List R)(sz len:Nat)(dM:List (Nat×Nat×cd)):cK mem tm (.eL k false z sz len dM)=j5 (Kv z sz len (lq (br tm) z dM)):=bN
@[go_sem] theorem aGZ (k:Key)(z:List R)(sz len:Nat)(dM:List (Nat×Nat×cd)):cK mem tm (.eL k true z sz len dM)=G7 k (cA mem k) z sz len (lq (br tm) z dM):=bN
@[go_sem] theorem aG0 (n:Nat)(ey:Bool)(x:cd):cK mem tm (.load n ey x)=j5 (rO mem n ey (br tm x)):=bN
@[go_sem] theorem aG1 (n:Nat)(x v:cd):cK mem tm (.store n x v)=za mem n (br tm x) (br tm v).cells:=bN
@[go_sem] theorem aG2 (b:BinOp)(x y:cd):cK mem tm (.bin b x y)=j5 (Ks b (br tm x) (br tm y)):=bN
@[go_sem] theorem aG3 (neg:Bool)(x y:cd):cK mem tm (.beq neg x y)=j5 (Kt neg (br tm x) (br tm y)):=bN
@[go_sem] theorem aG4 (neg:Bool)(n:List Nat)(x y:cd):cK mem tm (.eqs neg n x y)=j5 (Kx neg n (br tm x) (br tm y)):=bN
@[go_sem] theorem aG5 (u:UnOp)(x:cd):cK mem tm (.un u x)=j5 (Ku u (br tm x)):=bN
@[go_sem] theorem aG6 (k:IntKind)(x:cd):cK mem tm (.conv k x)=j5 (Ky k (br tm x)):=bN
@[go_sem] theorem aG7 (x:cd):cK mem tm (.n7 x)=j5 (Kz (br tm x)):=bN
@[go_sem] theorem aG8 (k:Key)(z:List R)(b:Nat)(x y:cd):cK mem tm (.mx k z b x y)=KJ (idx (br tm x)) (idx (br tm y)) (G8 k (cA mem k) z b):=bN
@[go_sem] theorem aG9 (o:Nat)(x:cd):cK mem tm (.dQ o x)=j5 (KA o (br tm x)):=bN
@[go_sem] theorem aHa (o n:Nat)(ey:Bool)(x:cd):cK mem tm (.Ef o n ey x)=j5 (KB o n ey (br tm x)):=bN
@[go_sem] theorem aHb (s:Nat)(x i:cd):cK mem tm (.ij s x i)=j5 (iV (idx (br tm i)) λn=>AE s n (br tm x)):=bN
@[go_sem] theorem aHc (n s:Nat)(x i:cd):cK mem tm (.qn n s x i)=j5 (iV (idx (br tm i)) λm=>KC n s m (br tm x)):=bN
@[go_sem] theorem aHd (x i:cd):cK mem tm (.idxs x i)=j5 (iV (idx (br tm i)) λn=>KD n (br tm x)):=bN
@[go_sem] theorem aHe (s:Nat)(x:cd)(cP U:Option cd):cK mem tm (.tE s x cP U none)=j5 (iV (kC 0 (cP.map (br tm))) λl=>iV (rN (br tm x)) λlen=>iV (kC len (U.map (br tm))) λh=>KE s l h (br tm x)):=bN
@[go_sem] theorem aHf (s:Nat)(x h m:cd)(cP:Option cd):cK mem tm (.tE s x cP (some h) (some m)) =
 j5 (iV (kC 0 (cP.map (br tm))) λl=>iV (idx (br tm h)) λh=>iV (idx (br tm m)) λm=>KF s l h m (br tm x)):=bN
@[go_sem] theorem aHg (n s:Nat)(x:cd)(cP U:Option cd):cK mem tm (.uR n s x cP U none)=j5 (iV (kC 0 (cP.map (br tm))) λl=>iV (kC n (U.map (br tm))) λh=>Cp mem n s l h (br tm x)):=bN
@[go_sem] theorem aHh (x:cd)(cP U:Option cd):cK mem tm (.Eg x cP U)=j5 (iV (kC 0 (cP.map (br tm))) λl=>iV (AD (br tm x)) λlen=>iV (kC len (U.map (br tm))) λh=>KG l h (br tm x)):=bN
@[go_sem] theorem aHi (i:Nat)(x:cd):cK mem tm (.ext i x)=j5 (KH i (br tm x)):=bN
@[go_sem] theorem aHj (x:cd):cK mem tm (.len x)=j5 (iV (rN (br tm x)) λn=>some (.I (.int .i64 n))):=bN
@[go_sem] theorem aHk (x:cd):cK mem tm (.lens x)=j5 (iV (AD (br tm x)) λn=>some (.I (.int .i64 n))):=bN
@[go_sem] theorem aHl (k:Key)(z:List R)(b:Nat)(s x:cd):cK mem tm (.app k z b s x)=sH mem k z b (br tm s) (rP mem (D z) (br tm x)):=bN
@[go_sem] theorem aHm (s:Nat)(x y:cd):cK mem tm (.tF s x y)=xI mem s (br tm x) (rP mem s (br tm y)):=bN
@[go_sem] theorem aHn (b:Bool)(x y:cd):cK mem tm (.jH b x y)=j5 (KI b (br tm x) (br tm y)):=bN
@[go_sem] theorem aHo (f:FuncId)(l:List cd):cK mem tm (.wg f l)=some (.gX f (l.map (br tm)),none):=bN
@[go_sem] theorem aHp (n:Nat)(f:Nat->Option R):iV (some n) f=f n:=bN
@[go_sem] theorem aHq (n m:Nat)(f:Nat->Nat->Out):KJ (some n) (some m) f=f n m:=bN
def Pk (n:Nat)(ey:Bool)(g off:Nat):Option (Nat×List R)->Option R
 |some (ea,cs)=>if ea=g then (cut cs off n).bind (sG ey) else none
 |none=>none
@[go_sem] theorem aHr (n:Nat)(ey:Bool)(k:Key)(g off:Nat):rO mem n ey (.ptr k g off)=Pk n ey g off (mem k):=by unfold rO Pk;rfl
@[go_sem] theorem aHs (n:Nat)(ey:Bool)(g off:Nat)(cs:List R):Pk n ey g off (some (g,cs))=(cut cs off n).bind (sG ey):=by simp[Pk]
@[go_sem] theorem aHt (n:Nat)(ey:Bool)(ds:List Data):rO mem n ey (.I (.ptr ds))=(cut (ds.map .I) 0 n).bind (sG ey):=bN
@[go_sem] theorem aHu (n:Nat)(k:Key)(g off:Nat)(v:List R):za mem n (.ptr k g off) v=KK n k g off v (mem k):=bN
@[go_sem] theorem aHv (cs:List R):sG true cs=some (.agg cs):=bN
@[go_sem] theorem aHw (m:R):sG false [m]=some m:=bN
@[go_sem] theorem aHx (cs:List R):(R.agg cs).cells=cs:=bN
@[go_sem] theorem aHy (cs:List Data):(R.I (.agg cs)).cells=cs.map .I:=bN
@[go_sem] theorem aHz (k:IntKind)(n:Int):(R.I (.int k n)).cells=[.I (.int k n)]:=bN
@[go_sem] theorem aHA (b:Bool):(R.I (.bool b)).cells=[.I (.bool b)]:=bN
@[go_sem] theorem aHB (l:List UInt8):(R.I (.str l)).cells=[.I (.str l)]:=bN
@[go_sem] theorem aHC (l:List (List Data)):(R.I (.Y l)).cells=[.I (.Y l)]:=bN
@[go_sem] theorem aHD (l:List Data):(R.I (.ptr l)).cells=[.I (.ptr l)]:=bN
@[go_sem] theorem aHE (f:FuncId)(l:List Data):(R.I (.fn f l)).cells=[.I (.fn f l)]:=bN
@[go_sem] theorem aHF:R.nil.cells=[.nil]:=bN
@[go_sem] theorem aHG (k:Key)(g s o l:Nat):(R.ref k g s o l).cells=[.ref k g s o l]:=bN
@[go_sem] theorem aHH (k:Key)(g o:Nat):(R.ptr k g o).cells=[.ptr k g o]:=bN
@[go_sem] theorem aHI (f:FuncId)(l:List R):(R.gX f l).cells=[.gX f l]:=bN
@[go_sem] theorem aHJ (k:IntKind)(n:Nat):idx (.I (.int k (n:Int)))=some n:=by simp[idx]
@[go_sem] theorem aHK (k:IntKind):idx (.I (.int k 0))=some 0:=bN
@[go_sem low] theorem aHL (k:IntKind)(n:Int):idx (.I (.int k n))=if 0<=n then some n.toNat else none:=bN
end
attribute [go_sem] Kw Kt Ks Ku Ky Kz KA KB AE KC KD KE KF Cp Un KG KH KI kC rN AD KK xI Cq G8 G7 Kv Kx Co O0 lq mz cut chunk
 G0 OX OY OZ Ej Cr Ei R.one R.known rP y9 eK G9 KL sJ sI Ha keyOf kD Hb sK wi kp l1 Hc qW
end Go.Mini
namespace Go.Mini
open Go
variable {P:Program} {A:Nat->Prop} {w:World} {B:ft} {mem:Mem}
def CD (w aV:World)(a0:Nat->Prop)(sz:Nat)(es:List (List Data))(v:Value):Prop :=
 (∀e∈es,D e=sz)/\∃a cap,v=.slice a (D es) cap/\D es<=cap/\cap<=maxLen /\
  (cap=0\/∃b vs T,a=some ⟨b,0,none⟩/\w.heap.size<=b/\aV.heap[b]?=some (.cells vs T (0,0))/\cap*sz<=vs.size /\
   ∀(i:Nat) (d:Data),es.flatten[i]?=some d->∃u,vs[i]?=some u/\Den aV (λfK=>a0 fK\/fK=b) d u)
def UK (P:Program)(f:FuncId)(vs:List Value)(A:Nat->Prop)(w:World)(B:ft)(mem:Mem):hY->Prop
 |.same r=>Calls P f vs.toArray w λe aV=>∃v,e=.returned v/\Fr (λ_=>False) w aV/\Den aV (cU A B) r v
 |.own sz es=>Calls P f vs.toArray w λe aV=>∃v,e=.returned v/\Fr (λ_=>False) w aV/\CD w aV (cU A B) sz es v
 |.rel bV=>Calls P f vs.toArray w λe aV=>∃v r mem' bR,e=.returned v/\fm A w B aV bR mem'/\bO aV (cU A bR) bR r v/\bV r mem'
 |.dW r k g i c=>Calls P f vs.toArray w λe aV=>∃v bR,e=.returned v/\fm A w B aV bR (a5 mem k g ((sI mem k).set i c))/\bO aV (cU A bR) bR (.I r) v
def Real (P : Program)(f : FuncId): Prop := ∃ fn c, P.funcs[f]? = some fn /\ fn.body = some c /\ (fn.name == "runtime.NumGoroutine") = false
def rY (P:Program)(T:bm):Prop:=∀f args mem q0,T f args mem=some q0->Real P f /\
 ∀A w B vs,gk A w B mem->dR w (cU A B) B args vs->UK P f vs A w B mem q0
theorem Pl {f:FuncId}(h:Real P f)(args:Array Value):(callFunc f args).run P w=.ok (.enter f args) w:=by
 obtain⟨fn,c,aD,ai,aM⟩:=h;have G : fn.name ≠ "runtime.NumGoroutine" := by simpa using aM
 simp[callFunc,aD,G,ai]
theorem Den.less {w:World}{a0 qk:Nat->Prop}(h:∀b,qk b->a0 b){d:Data}{v:Value}(ab:Den w a0 d v):Den w qk d v :=
 ab.tC (cI _) λb _ ai=>⟨rfl,λM=>ai (h b M)⟩
theorem CD.den {w aV:World}{a0:Nat->Prop}{sz:Nat}{es:List (List Data)}{v:Value}(av:∀b,a0 b->b<w.heap.size)(h:CD w aV a0 sz es v):Den aV a0 (.Y es) v:=by
 obtain⟨he,a,cap,rfl,G,J,af⟩:=h;rcases af with rfl|⟨b,vs,T,rfl,aP,bh,bK,bE⟩
 ·have:es=[]:=uY (by omega);subst this;exact .mU
 ·have K0:b<aV.heap.size:=(Array.getElem?_eq_some_iff.1 bh).1;refine .Y (sz:=sz) (λi=>vs.getD i undef) G (by omega) K0 (λbS=>by have:=av b bS;omega) he (λi U=>?_) λi d ab=>?_
  ·have av:i<D es.flatten:=by rw[OU he];exact U
   obtain⟨u,hu,_⟩:=bE i _ (bB av);rw[cell_of_row aV b _ vs T (0,0) bh,rT,Array.getD_eq_getD_getElem?,hu]
   rfl
  ·obtain⟨u,hu,ab⟩:=bE i d ab;rw[Array.getD_eq_getD_getElem?,hu];exact ab.less λb h => .inl h
theorem aeS {aV:World}{sz:Nat}{es:List (List Data)}{v:Value}(k:Key)(cw:gk A w B mem)(f:Fr (λ_=>False) w aV)(h:CD w aV (cU A B) sz es v):
  ∃bR,fm A w B aV bR (a5 mem k (cA mem k) (es.flatten.map .I))/\bO aV (cU A bR) bR (.ref k (cA mem k) sz 0 (D es)) v:=by
 obtain⟨he,a,cap,rfl,G,J,af⟩:=h;have still:=fm.still cw f;rcases af with rfl|⟨b,vs,T,rfl,aP,bh,bK,bE⟩
 ·have:es=[]:=uY (by omega);subst this;exact⟨_,still.trans (fm.AK still.e0 k),.ref (h7 _ _ _) (cI _) ⟨_,0,rfl,G,J,.inl rfl⟩⟩
 ·have K0:b<aV.heap.size:=(Array.getElem?_eq_some_iff.1 bh).1
  have fz:∀fK,(⟨cA mem k,some b,vs.size⟩:nk).ek=some fK->w.heap.size<=fK\/∃e,B k=some e/\e.ek=some fK:=λfK nq=>by
   cases nq;exact .inl aP
  have jg:=OU he;have hmul:(D es)*sz<=cap*sz:=o0 _ G;have hold:∀fK,fK<w.heap.size->(∀e,B k=some e->e.ek≠some fK)->aV.heap[fK]?=w.heap[fK]?:=λfK nq _=>f.block fK nq id;have bq:∀e,B k=some e->(⟨cA mem k,some b,vs.size⟩:nk)=e\/e.g<(⟨cA mem k,some b,vs.size⟩:nk).g:=λe he => .inr (Hj cw k e he);refine⟨hN B k ⟨cA mem k,some b,vs.size⟩,⟨?_,Trans.change f.size hold bq fz,⟨f.os,f.tape,f.output,f.size,λfK nq _=>f.block fK nq id⟩,Uq fz⟩,?_⟩
  ·refine cw.aea (e':=⟨cA mem k,some b,vs.size⟩) f.size hold bq fz (λh=>by cases h) λfK nq=>?_
   cases nq;refine⟨vs,T,bh,rfl,by rw[List.length_map,jg];omega,λi m hm=>?_⟩
   rw[aW,e6] at hm;obtain⟨d,ab,rfl⟩:=hm;obtain⟨u,hu,wB⟩:=bE i d ab;refine⟨u,hu,.I (wB.less λfK nq=>?_)⟩;rcases nq with ⟨j,e,ax,M⟩|a4
   ·by_cases ga:j=k
    ·subst ga;rw[h7] at ax
     cases ax
     cases M;exact .inr rfl
    ·rw[hZ B _ ga] at ax;exact .inl (.inl ⟨j,e,ax,M⟩)
   ·exact .inl (.inr a4)
  ·exact .ref (h7 _ _ _) (cI _) ⟨_,cap,rfl,G,J,.inr ⟨b,rfl,λ_=>⟨rfl,by simpa using bK⟩⟩⟩
end Go.Mini
namespace Go.Mini
open Go
variable {P:Program} {T:bm} {A:Nat->Prop} {eQ w:World} {h1 B:ft} {mem:Mem} {n:Nat}
structure iq (n:Nat) (A:Nat->Prop) (eQ:World) (h1:ft) (a:Act) (st:bg) (w:World) (B:ft):Prop where
 ok:fm A eQ h1 w B st.mem
 tm:∀s,bO w (cU A B) B (st.tm s) (a.eval (.tmp s))
 sz:a.tmps.size=n
 K1:a.defers=[]
theorem iq.xS {a:Act}{st:bg}(h:iq n A eQ h1 a st w B)(x:Operand)(y:cd)(M:eB x=some y):bO w (cU A B) B (br st.tm y) (a.eval x):=by
 cases x<;>simp only[eB,cO,e6,reduceCtorEq] at M
 ·subst M;exact h.tm _
 ·obtain⟨m,hm,rfl⟩:=M;exact aoW hm
 ·subst M;exact .gX (vs:=[]) rfl λi d v G=>by simp at G
theorem ap7 {a:Act}{s:Nat}{v:Value}(h:s<a.tmps.size):(a.put (some s) v).eval (.tmp s)=v:=by
 simp[Act.eval,Act.put,h]
theorem iq.put {a:Act}{st:bg}{aV:World}{bR:ft}{mem':Mem}{dst:Option Nat}{r:R}{v:Value}(h:iq n A eQ h1 a st w B)(Q:fm A w B aV bR mem')(X:bO aV (cU A bR) bR r v)
  (ab:dst.all (λd=>decide (d<n))=true):iq n A eQ h1 (a.put dst v) ⟨Mini.put st.tm dst r,mem'⟩ aV bR:=by
 refine⟨h.ok.trans Q,λs=>?_,?_,?_⟩
 ·cases dst with
  |none=>exact (h.tm s).tC Q.n8
  |some d =>
   simp only[Option.all_some,decide_eq_true_eq] at ab
   by_cases K2:s=d
   ·subst K2;rw[ap7 (by rw[h.sz];exact ab)];simp only[Mini.put,dW,if_true];exact X
   ·rw[Act.eval_put (λzk G J=>by cases G;cases J;exact K2 rfl)];simp only[Mini.put,dW,ag K2];exact (h.tm s).tC Q.n8
 ·cases dst<;>simp[Act.put,h.sz]
 ·cases dst<;>simp[Act.put,h.K1]
theorem UL {a:Act}{st:bg}{ops:Array Oper}{o:Oper}{g:Option (Nat×Bool)}{b:Bool}(h:iq n A eQ h1 a st w B)(bq:KQ ops o.guard=some g)(ai:qo st.tm g=some b):
  Region.wanted o (yielded ops a.tmps)=b:=by
 unfold Region.wanted
 cases AR:o.guard with
 |none =>
  rw[AR] at bq;simp only[KQ,cO] at bq;subst bq;simp only[qo,cO] at ai;exact ai
 |some p =>
  obtain⟨j,c⟩:=p;rw[AR] at bq;simp only[KQ] at bq
  split at bq
  ·rename_i s Q;simp only[cO] at bq;subst bq;have aN:=h.tm s
   have ao:yielded ops a.tmps j=match a.eval (.tmp s) with|.bool b=>some b|_=>none:=by
    unfold yielded;rw[Q];simp only[Option.bind_some,Act.eval,Array.getD_eq_getD_getElem?]
    cases a.tmps[s]? with
    |none=>rfl
    |some v=>cases v<;>rfl
   simp only[qo] at ai;simp only[ao]
   split at ai
   ·rename_i t cm;rw[cm] at aN
    cases aN with
    |I aN =>
     generalize a.eval (.tmp s)=u at *
     cases aN;simp only[cO] at ai;subst ai
     cases t<;>cases c<;>simp
   ·rename_i cm;rw[cm] at aN;generalize a.eval (.tmp s)=u at *
    cases aN;simp only[cO] at ai;subst ai
    rfl
   ·cases ai
  ·cases bq
theorem aeT {kb:Nat}{own:List Nat}{dst:Option Nat}{ty:TypeId}{op:Op}{f:FuncId}{args:List cd}(h:np P kb own dst ty op=some (.call f args)):
  ∃c:Call,op=.call c/\c.callee=.value (.func f)/\c.args.toList.mapM eB=some args:=by
 cases op<;>simp only[np,El,AG] at h
 case call c =>
  refine⟨c,rfl,?_⟩;unfold Cs at h
  (repeat' split at h)<;>simp_all [fg,e6]
 all_goals ((repeat' split at h)<;>simp_all [fg,e6])
theorem ap8 {kb:Nat}{own:List Nat}{dst:Option Nat}{ty:TypeId}{op:Op}{f:FuncId}{cP:Nat}{args:List cd}(h:np P kb own dst ty op=some (.nm cP f args)):
  ∃c:Call,op=.call c/\c.callee=.value (.func f)/\c.args.toList.mapM eB=some args:=by
 cases op<;>simp only[np,El,AG] at h
 case call c =>
  refine⟨c,rfl,?_⟩;unfold Cs at h
  (repeat' split at h)<;>simp_all [fg,e6]
  obtain⟨_,G,_,rfl,rfl⟩:=h;exact⟨rfl,G⟩
 all_goals ((repeat' split at h)<;>simp_all [fg,e6])
theorem aeU {kb:Nat}{own:List Nat}{dst:Option Nat}{ty:TypeId}{op:Op}{f:FuncId}{k:Key}{sz:Nat}{args:List cd}(h:np P kb own dst ty op=some (.oX k sz f args)):
  ∃c:Call,op=.call c/\c.callee=.value (.func f)/\c.args.toList.mapM eB=some args:=by
 cases op<;>simp only[np,El,AG] at h
 case call c =>
  refine⟨c,rfl,?_⟩;unfold Cs at h
  (repeat' split at h)<;>simp_all [fg,e6]
  obtain⟨_,_,_,_,_,G,_,_,rfl,rfl⟩:=h;exact⟨rfl,G⟩
 all_goals ((repeat' split at h)<;>simp_all [fg,e6])
theorem ap9 {kb:Nat}{own:List Nat}{dst:Option Nat}{ty:TypeId}{op:Op}{f:cd}{args:List cd}(h:np P kb own dst ty op=some (.nJ f args)):
  ∃(c:Call) (x:Operand),op=.call c/\c.callee=.value x/\eB x=some f/\c.args.toList.mapM eB=some args:=by
 cases op<;>simp only[np,El,AG] at h
 case call c =>
  refine⟨c,?_⟩;unfold Cs at h
  (repeat' split at h)<;>simp_all [fg,e6]
 all_goals ((repeat' split at h)<;>simp_all [fg,e6])
theorem aqa {kb:Nat}{own:List Nat}{dst:Option Nat}{ty:TypeId}{op:Op}{neg:Bool}{x:cd}(h:np P kb own dst ty op=some (.sF neg x)):
  ∃(t e:TypeId) (y y':Operand) (z:TypeId),op=.binOp (if neg then .neq else .eql) t y y' z/\Up y'=true/\P.underlying t=some (.slice e)/\eB y=some x:=by
 cases op<;>simp only[np,El,AG] at h
 case call c =>
  unfold Cs at h
  (repeat' split at h)<;>simp_all [fg,e6]
 case binOp bop t y y' z =>
  (repeat' split at h)<;>simp_all [fg,e6]
  all_goals
   obtain⟨G,rfl⟩:=h;exact⟨_,_,_,_,⟨rfl,rfl,rfl⟩,by assumption,by assumption,G⟩
 all_goals ((repeat' split at h)<;>simp_all [fg,e6])
end Go.Mini
namespace Go.Mini
open Go
variable {P:Program} {T:bm} {A:Nat->Prop} {eQ w:World} {h1 B:ft} {mem:Mem} {n:Nat}
theorem aqb {t e:TypeId}{y y':Operand}{m:R}{u v:Value}{a0:Nat->Prop}{full:Bool}(neg:Bool)(cm:P.underlying t=some (.slice e))(hm:bO w a0 B m u)(aD:Ej m=some full)(aN:v=.slice none 0 0):
  ∃b:Bool,(full=true->b=false)/\((do eqGuard (if neg then .neq else .eql) t y y' u v;binOp (if neg then .neq else .eql) t u v:Sem Value)).run P w=.ok (.bool (neg != b)) w:=by
 subst aN
 have shape:∃a len cap,u=.slice a len cap/\(full=true->a.isNone=false):=by
  cases m<;>simp only[Ej,reduceCtorEq] at aD
  case I d =>
   cases d<;>simp only[Ej,cO,reduceCtorEq] at aD
   cases hm with
   |I ab =>
    cases ab with
    |mU=>exact⟨_,_,_,rfl,λh=>by cases aD;cases h⟩
    |Y=>exact⟨_,_,_,rfl,λ_=>rfl⟩
  case nil =>
   cases hm with
   |nil=>exact⟨_,_,_,rfl,λh=>by cases aD;cases h⟩
  case ref k g sz off len =>
   cases hm with
   |ref he bq X =>
    obtain⟨a,cap,rfl,G,J,af⟩:=X;refine⟨_,_,_,rfl,λh=>?_⟩;simp only[cO] at aD;subst aD;simp only[decide_eq_true_eq] at h;rcases af with af|⟨b,rfl,_⟩
    ·omega
    ·rfl
 obtain⟨a,len,cap,rfl,ai⟩:=shape;refine⟨a.isNone,ai,?_⟩
 have he:∀d,(Op.equalIn (d+1) t (.slice a len cap) (.slice none 0 0)).run P w=.ok a.isNone w:=λd=>by
  unfold Op.equalIn;simp only[Sem.run_bind,run_underlying cm,Result.andThen_ok]
  cases a<;>rfl
 have heq:(Op.equal t (.slice a len cap) (.slice none 0 0)).run P w=.ok a.isNone w:=he 9999;rw[O3 (by simp) (by simp)]
 cases neg
 ·simp only[kE,if_false,Sem.run_bind,Sem.run_pure,Result.andThen_ok];show (do pure (Value.bool (<-Op.equal t (.slice a len cap) (.slice none 0 0))):Sem Value).run P w=_
  simp[heq]
 ·simp only[if_true,Sem.run_bind,Sem.run_pure,Result.andThen_ok];show (do pure (Value.bool (!(<-Op.equal t (.slice a len cap) (.slice none 0 0)))):Sem Value).run P w=_
  simp[heq]
structure UM (P:Program) (n kb:Nat) (own:List Nat) (ops:Array Oper) (o:Oper) (i:dp):Prop where
 dst:i.dst=o.dst
 guard:KQ ops o.guard=some i.g
 op:i.op=(np P kb own o.dst o.type o.op).getD .bad
 lt:o.dst.all (λd=>decide (d<n))=true
theorem aeV {kb:Nat}{own:List Nat}{ops:Array Oper}{o:Oper}{i:dp}(h:Ct P n kb own ops o=some i):UM P n kb own ops o i:=by
 unfold Ct at h
 split at h
 ·rename_i g bq
  split at h
  ·rename_i av
   cases h;exact⟨rfl,bq,rfl,av⟩
  ·cases h
 ·cases h
theorem aqc {K:bg->Prop}{i:dp}{st:bg}(h:hb T K i st):
  (∃m e,cK st.mem st.tm i.op=some (m,e)/\K ⟨put st.tm i.dst m,jI st.mem e⟩) \/
  (∃f args,i.op=.call f args/\wh T K st i.dst f (args.map (br st.tm))) \/
  (∃k sz f args es,i.op=.oX k sz f args/\T f (args.map (br st.tm)) st.mem=some (.own sz es)/\K ⟨put st.tm i.dst (.ref k (cA st.mem k) sz 0 (D es)),a5 st.mem k (cA st.mem k) (es.flatten.map .I)⟩) \/
  (∃f args,i.op=.nJ f args/\((∃g gW,br st.tm f=.gX g gW/\wh T K st i.dst g (args.map (br st.tm)++gW))\/(∃g ds,br st.tm f=.I (.fn g ds)/\wh T K st i.dst g (args.map (br st.tm)++ds.map .I)))) \/
  (∃neg x full,i.op=.sF neg x/\Ej (br st.tm x)=some full/\∀b:Bool,(full=true->b=false)->K ⟨put st.tm i.dst (.I (.bool (neg != b))),st.mem⟩):=by
 obtain⟨dst,g,op⟩:=i;unfold hb at h
 split at h
 ·rename_i f args oY;exact .inr (.inl ⟨f,args,oY,h⟩)
 ·rename_i k sz f args oY
  split at h
  ·rename_i eR es he
   split at h
   ·rename_i Q;subst Q;exact .inr (.inr (.inl ⟨k,_,f,args,es,oY,he,h⟩))
   ·cases h
  ·cases h
 ·rename_i f args oY;refine .inr (.inr (.inr (.inl ⟨f,args,oY,?_⟩)))
  split at h
  ·rename_i g gW aD;exact .inl ⟨g,gW,aD,h⟩
  ·rename_i g ds aD;exact .inr ⟨g,ds,aD,h⟩
  ·cases h
 ·rename_i neg x oY
  split at h
  ·rename_i full aD;exact .inr (.inr (.inr (.inr ⟨neg,x,full,oY,aD,h⟩)))
  ·cases h
 ·split at h
  ·rename_i m e he;exact .inl ⟨m,e,he,h⟩
  ·cases h
theorem getD_some {α:Type}{x:Option α}{b c:α}(h:c=x.getD b)(ai:c≠b):x=some c:=by
 cases x with
 |none=>exact absurd h ai
 |some y=>simp at h;rw[h]
theorem aeW (dy:rY P T){K:bg->Prop}{a:Act}{st:bg}{o:Oper}{aU:Exit->Act->World->Prop}{f:FuncId}{args:List R}{vs:List Value}(h:iq n A eQ h1 a st w B)(av:o.dst.all (λd=>decide (d<n))=true)
  (aN:dR w (cU A B) B args vs) (L:wh T K st o.dst f args) (nO:Real P f->(execOp a.eval o).run P w=.ok (.enter f vs.toArray) w) :
  o.wp P a w (λlv aV=>∃er bR,K er/\iq n A eQ h1 lv er aV bR) aU:=by
 unfold wh at L;unfold Oper.wp
 cases k4:T f args st.mem with
 |none=>rw[k4] at L;exact L.elim
 |some q0 =>
  obtain⟨q1,mX⟩:=dy f args st.mem q0 k4;have H:=mX A w B vs h.ok.e0 aN;rw[k4] at L;rw[nO q1]
  cases q0 with
  |same r =>
   refine Calls.mono H λe aV he=>?_;obtain⟨v,rfl,bC,ab⟩:=he;exact⟨_,B,L,h.put (.still h.ok.e0 bC) (.I ab) av⟩
  |own sz es =>
   refine Calls.mono H λe aV he=>?_;obtain⟨v,rfl,bC,ab⟩:=he;refine⟨_,B,L,h.put (.still h.ok.e0 bC) (.I (ab.den λb ai=>?_)) av⟩;rcases ai with ai|ai
   ·exact h.ok.e0.Cm ai
   ·exact h.ok.e0.lt b ai
  |rel bV =>
   refine Calls.mono H λe aV he=>?_;obtain⟨v,r,mem',bR,rfl,Q,ab,iF⟩:=he;exact⟨_,bR,L r mem' iF,h.put Q ab av⟩
  |dW r k g i c =>
   refine Calls.mono H λe aV he=>?_;obtain⟨v,bR,rfl,Q,ab⟩:=he;exact⟨_,bR,L,h.put Q ab av⟩
theorem aqd {a0:Nat->Prop}{m:R}{u:Value}{g:FuncId}{gW:List R}(hm:bO w a0 B m u)(h:m=.gX g gW\/∃ds,m=.I (.fn g ds)/\gW=ds.map .I):
  ∃cs:List Value,u=.func (.func g) #[] cs.toArray/\dR w a0 B gW cs:=by
 rcases h with rfl|⟨ds,rfl,rfl⟩
 ·cases hm with
  |gX az ab=>exact⟨_,rfl,az,ab⟩
 ·cases hm with
  |I ab =>
   cases ab with
   |fn az ab=>exact⟨_,rfl,dR.I az ab⟩
theorem aqe (dy:rY P T){K:bg->Prop}{kb:Nat}{own:List Nat}{ops:Array Oper}{a:Act}{st:bg}{o:Oper}{i:dp}{aU:Exit->Act->World->Prop}(h:iq n A eQ h1 a st w B)(U:UM P n kb own ops o i)
  (L:hb T K i st):o.wp P a w (λlv aV=>∃er bR,K er/\iq n A eQ h1 lv er aV bR) aU:=by
 have oY:=U.op;rcases aqc L with ⟨m,e,Q,cX⟩|⟨f,args,he,cX⟩|⟨k,sz,f,args,es,he,k4,cX⟩|⟨f,args,he,cX⟩|⟨neg,x,full,he,aD,cX⟩
 ·have bc:np P kb own o.dst o.type o.op=some i.op:=getD_some oY (by
   intro ai;rw[ai] at Q
   cases Q)
  obtain⟨Hx,v,aV,bR,nO,hD,dq,aN⟩:=aeO h.ok.e0 h.xS bc Q;unfold Oper.wp;rw[nO];rw[U.dst] at cX;have K3:=h.put dq aN U.lt;rcases hD with rfl|⟨rfl,rfl⟩
  ·exact⟨_,bR,cX,K3⟩
  ·exact⟨_,bR,cX,K3⟩
 ·have bc:np P kb own o.dst o.type o.op=some i.op:=getD_some oY (by rw[he];simp);rw[he] at bc;obtain⟨c,H,qu,rZ⟩:=aeT bc;rw[U.dst] at cX;refine aeW dy h U.lt (Cz h.xS rZ) cX λq1=>?_;obtain⟨dst,op,type,pos,after,guard⟩:=o;simp only at H;subst H;obtain⟨callee,AW,Pm⟩:=c;simp only at qu;subst qu;simp only[execOp,resolve,Deferred.ofValue,Act.eval,invoke,Sem.run_bind,Sem.run_pure,Result.andThen_ok,Pl q1];rw[CA AW];simp
 ·have bc:np P kb own o.dst o.type o.op=some i.op:=getD_some oY (by rw[he];simp);rw[he] at bc;obtain⟨c,H,qu,rZ⟩:=aeU bc;rw[U.dst] at cX;obtain⟨q1,mX⟩:=dy f _ st.mem _ k4;have oe:=mX A w B _ h.ok.e0 (Cz h.xS rZ);have av:=U.lt;obtain⟨dst,op,type,pos,after,guard⟩:=o;simp only at H;subst H;obtain⟨callee,AW,Pm⟩:=c;simp only at qu rZ;subst qu
  have nO:(execOp a.eval ⟨dst,.call ⟨.value (.func f),AW,Pm⟩,type,pos,after,guard⟩).run P w=.ok (.enter f (AW.toList.map a.eval).toArray) w:=by
   simp only[execOp,resolve,Deferred.ofValue,Act.eval,invoke,Sem.run_bind,Sem.run_pure,Result.andThen_ok,Pl q1];rw[CA AW];simp
  unfold Oper.wp;rw[nO];refine Calls.mono oe λe aV tP=>?_;obtain⟨v,rfl,bC,ab⟩:=tP;obtain⟨bR,dq,aN⟩:=aeS k h.ok.e0 bC ab;exact⟨_,bR,cX,h.put dq aN av⟩
 ·have bc:np P kb own o.dst o.type o.op=some i.op:=getD_some oY (by rw[he];simp);rw[he] at bc;obtain⟨c,x,H,qu,M,rZ⟩:=ap9 bc;rw[U.dst] at cX;have aqf:=h.xS _ _ M
  have main:∀g gW,(br st.tm f=.gX g gW\/∃ds,br st.tm f=.I (.fn g ds)/\gW=ds.map .I)->wh T K st o.dst g (args.map (br st.tm)++gW)->o.wp P a w (λlv aV=>∃er bR,K er/\iq n A eQ h1 lv er aV bR) aU:=by
   intro g gW bq cX;obtain⟨cs,hu,cg⟩:=aqd aqf bq;refine aeW dy h U.lt ((Cz h.xS rZ).append cg) cX λq1=>?_;obtain⟨dst,op,type,pos,after,guard⟩:=o;simp only at H;subst H;obtain⟨callee,AW,Pm⟩:=c;simp only at qu;subst qu;simp only[execOp,resolve,hu,Deferred.ofValue,invoke,Sem.run_bind,Sem.run_pure,Result.andThen_ok,Pl q1];rw[CA AW];simp
  rcases cX with ⟨g,gW,bq,cX⟩|⟨g,ds,bq,cX⟩
  ·exact main g gW (.inl bq) cX
  ·exact main g _ (.inr ⟨ds,bq,rfl⟩) cX
 ·have bc:np P kb own o.dst o.type o.op=some i.op:=getD_some oY (by rw[he];simp);rw[he] at bc;obtain⟨t,e,y,y',z,H,aM,cm,ao⟩:=aqa bc;rw[U.dst] at cX
  have UN:a.eval y' = .slice none 0 0:=by
   unfold Up at aM
   split at aM
   ·rfl
   ·cases aM
  obtain⟨b,ai,nO⟩:=aqb (y:=y) (y':=y') neg cm (h.xS _ _ ao) aD UN;obtain⟨dst,op,type,pos,after,guard⟩:=o;simp only at H;subst H;unfold Oper.wp
  have:(execOp a.eval ⟨dst,.binOp (if neg then .neq else .eql) t y y' z,type,pos,after,guard⟩).run P w=.ok (.value (.bool (neg != b))) w:=by
   simp only[execOp];rw[Sem.run_bind,nO]
   rfl
  rw[this];exact⟨_,B,cX b ai,h.put (.refl h.ok.e0) (.I .bool) U.lt⟩
end Go.Mini
namespace Go.Mini
open Go
variable {T:bm}
theorem gw {tm tm':Nat->R}{x:cd}(h:∀s∈fT x,tm s=tm' s):br tm x=br tm' x:=by
 cases x with
 |t s=>exact h s (by simp[fT])
 |c m=>rfl
theorem map_congr {tm tm':Nat->R}{l:List cd}(h:∀s∈l.flatMap fT,tm s=tm' s):l.map (br tm)=l.map (br tm') :=
 pP λx M=>gw λs Q=>h s (EA.2 ⟨x,M,Q⟩)
theorem aeX {tm tm':Nat->R}{l:List cd}(h:∀s∈l.flatMap fT,tm s=tm' s):(l.map λx=>Cr (br tm x))=l.map λx=>Cr (br tm' x) :=
 pP λx M=>by rw[gw λs Q=>h s (EA.2 ⟨x,M,Q⟩)]
theorem EB {tm tm':Nat->R}{x:Option cd}(h:∀s∈zc x,tm s=tm' s):x.map (br tm)=x.map (br tm'):=by
 cases x with
 |none=>rfl
 |some x =>
  cases x with
  |t s=>simp[br,h s (by simp[zc])]
  |c m=>rfl
theorem UO {tm tm':Nat->R}:∀{dM:List (Nat×Nat×cd)} (cs:List R),(∀s∈dM.flatMap (λp=>fT p.2.2),tm s=tm' s)->lq (br tm) cs dM=lq (br tm') cs dM
 | [],_,_=>rfl
 |(o,s,x)::dM,cs,h=>by
  have G:br tm x=br tm' x:=gw λt cm=>h t (EA.2 ⟨(o,s,x),by simp,cm⟩);simp only[lq,G]
  split
  ·exact UO _ λt cm=>h t (by simp only[List.flatMap_cons,jy];exact .inr cm)
  ·rfl
theorem aqg {mem:Mem}{tm tm':Nat->R}{op:kZ}(h:∀s∈zd op,tm s=tm' s):cK mem tm op=cK mem tm' op:=by
 cases op<;>simp only[zd,jy] at h
 case b8 x=>simp only[cK,l0,gw h]
 case pick c a b=>simp only[cK,l0,gw (λs Q=>h s (.inl (.inl Q))),gw (λs Q=>h s (.inl (.inr Q))),gw (λs Q=>h s (.inr Q))]
 case alloc=>rfl
 case box k x=>simp only[cK,gw h]
 case build z dM=>simp only[cK,l0,UO _ h]
 case eL k o z sz len dM=>cases o<;>simp only[cK,l0,UO _ h]
 case load n ey x=>simp only[cK,gw h]
 case store n x v=>simp only[cK,gw (λs Q=>h s (.inl Q)),gw (λs Q=>h s (.inr Q))]
 case bin o x y=>simp only[cK,l0,gw (λs Q=>h s (.inl Q)),gw (λs Q=>h s (.inr Q))]
 case beq o x y=>simp only[cK,l0,gw (λs Q=>h s (.inl Q)),gw (λs Q=>h s (.inr Q))]
 case eqs o l x y=>simp only[cK,l0,gw (λs Q=>h s (.inl Q)),gw (λs Q=>h s (.inr Q))]
 case sF=>rfl
 case un o x=>simp only[cK,l0,gw h]
 case conv k x=>simp only[cK,l0,gw h]
 case n7 x=>simp only[cK,l0,gw h]
 case mx k z b x y=>simp only[cK,gw (λs Q=>h s (.inl Q)),gw (λs Q=>h s (.inr Q))]
 case dQ o x=>simp only[cK,l0,gw h]
 case Ef o n ey x=>simp only[cK,l0,gw h]
 case ij s x i=>simp only[cK,l0,gw (λs Q=>h s (.inl Q)),gw (λs Q=>h s (.inr Q))]
 case qn n s x i=>simp only[cK,l0,gw (λs Q=>h s (.inl Q)),gw (λs Q=>h s (.inr Q))]
 case idxs x i=>simp only[cK,l0,gw (λs Q=>h s (.inl Q)),gw (λs Q=>h s (.inr Q))]
 case tE s x a b c =>
  have G:=gw (λs Q=>h s (.inl (.inl (.inl Q))));have J:=EB (λs Q=>h s (.inl (.inl (.inr Q))));have af:=EB (λs Q=>h s (.inl (.inr Q)));have aP:=EB (λs Q=>h s (.inr Q))
  cases b<;>cases c<;>simp only[l9,aeY,cO] at af aP<;>simp only[cK,l0,l9,aeY,G,J,af,aP]
 case uR n s x a b c =>
  have G:=gw (λs Q=>h s (.inl (.inl (.inl Q))));have J:=EB (λs Q=>h s (.inl (.inl (.inr Q))));have af:=EB (λs Q=>h s (.inl (.inr Q)))
  cases c<;>simp only[cK,l0,G,J,af]
 case Eg x a b=>simp only[cK,l0,gw (λs Q=>h s (.inl (.inl Q))),EB (λs Q=>h s (.inl (.inr Q))),EB (λs Q=>h s (.inr Q))]
 case ext i x=>simp only[cK,l0,gw h]
 case len x=>simp only[cK,l0,gw h]
 case lens x=>simp only[cK,l0,gw h]
 case app k z b s x=>simp only[cK,gw (λs Q=>h s (.inl Q)),gw (λs Q=>h s (.inr Q))]
 case tF s d x=>simp only[cK,gw (λs Q=>h s (.inl Q)),gw (λs Q=>h s (.inr Q))]
 case jH o x y=>simp only[cK,l0,gw (λs Q=>h s (.inl Q)),gw (λs Q=>h s (.inr Q))]
 case call=>rfl
 case oX=>rfl
 case nJ=>rfl
 case nm=>rfl
 case wg f l=>simp only[cK,l0,map_congr h]
 case bad=>rfl
theorem aeZ {mem:Mem}{tm tm':Nat->R}{op:kZ}(h:∀s∈zd op,tm s=tm' s):kp T mem tm op=kp T mem tm' op:=by
 cases op
 case call f l =>
  have:=aeX (l:=l) (tm:=tm) (tm':=tm') (by simpa [zd] using h);simp only[kp,this]
 case oX k sz f l =>
  have:=aeX (l:=l) (tm:=tm) (tm':=tm') (by simpa [zd] using h);simp only[kp,this]
 case nJ=>rfl
 case sF=>rfl
 case nm cP f l =>
  have:=map_congr (l:=l) (tm:=tm) (tm':=tm') (by simpa [zd] using h);simp only[kp,this]
 all_goals exact aqg (mem:=mem) h
theorem ae0 {tm tm':Nat->R}{op:kZ}(h:∀s∈zd op,tm s=tm' s):eK tm op=eK tm' op:=by
 cases op<;>simp only[zd,jy] at h<;>try rfl
 case eL k o z sz len dM=>cases o<;>rfl
 case load n ey x=>simp only[eK,gw h]
 case uR n s x a b c=>simp only[eK,gw (λs Q=>h s (.inl (.inl (.inl Q))))]
 case store n x v=>simp only[eK,gw (λs Q=>h s (.inl Q))]
 case app k z b s x=>simp only[eK,gw (λs Q=>h s (.inl Q)),gw (λs Q=>h s (.inr Q))]
 case tF s d x=>simp only[eK,gw (λs Q=>h s (.inl Q)),gw (λs Q=>h s (.inr Q))]
 case nm cP f l=>simp only[eK,map_congr h]
theorem aqh {n:Nat}{m:R}{aU:Key->Prop}(h:∀x∈G9 n m,aU x.key):∀j∈keyOf m,aU j:=by
 cases m<;>simp_all [G9,keyOf,qp.key]
theorem ae1 {mem mem':Mem}{sz:Nat}{m:R}(h:∀k∈keyOf m,mem k=mem' k):rP mem sz m=rP mem' sz m:=by
 cases m<;>try rfl
 case I d=>cases d<;>rfl
 simp only[rP];rw[h _ (by simp[keyOf])]
theorem aqi {mem mem':Mem}{k:Key}{z:List R}{b:Nat}{m:R}{row:Option (Nat×List R)}(L:mem k=mem' k)(h:∀j∈keyOf m,mem j=mem' j):sH mem k z b m row=sH mem' k z b m row:=by
 cases m<;>cases row<;>try rfl
 ·simp only[sH,cA,L]
 ·simp only[sH];rw[h _ (by simp[keyOf])]
theorem aqj {mem mem':Mem}{sz:Nat}{m:R}{row:Option (Nat×List R)}(h:∀j∈keyOf m,mem j=mem' j):xI mem sz m row=xI mem' sz m row:=by
 cases m<;>cases row<;>try rfl
 simp only[xI];rw[h _ (by simp[keyOf])]
theorem aqk {mem mem':Mem}{n:Nat}{ey:Bool}{m:R}(h:∀j∈keyOf m,mem j=mem' j):rO mem n ey m=rO mem' n ey m:=by
 cases m<;>try rfl
 case I d=>cases d<;>rfl
 simp only[rO];rw[h _ (by simp[keyOf])]
theorem aql {mem mem':Mem}{n:Nat}{m:R}{v:List R}(h:∀j∈keyOf m,mem j=mem' j):za mem n m v=za mem' n m v:=by
 cases m<;>try rfl
 simp only[za];rw[h _ (by simp[keyOf])]
theorem aqm {mem mem':Mem}{n s a b:Nat}{m:R}(h:∀j∈keyOf m,mem j=mem' j):Cp mem n s a b m=Cp mem' n s a b m:=by
 cases m<;>try rfl
 simp only[Cp];rw[h _ (by simp[keyOf])]
theorem aqn {mem mem':Mem}{tm:Nat->R}{op:kZ}(h:∀x∈eK tm op,mem x.key=mem' x.key):cK mem tm op=cK mem' tm op:=by
 have Hx:∀k,mem k=mem' k->cA mem k=cA mem' k:=λk L=>by simp only[cA,L]
 cases op<;>try rfl
 case alloc k z=>simp only[cK,Hx k (h (.jx k) (by simp[eK]))]
 case box k x=>simp only[cK,Hx k (h (.jx k) (by simp[eK]))]
 case eL k o z sz len dM =>
  cases o
  ·rfl
  ·simp only[cK,Hx k (h (.jx k) (by simp[eK]))]
 case mx k z b x y=>simp only[cK,Hx k (h (.jx k) (by simp[eK]))]
 case load n ey x =>
  simp only[cK];rw[aqk (aqh (aU:=λj=>mem j=mem' j) h)]
 case uR n s x a b c =>
  cases c
  ·simp only[cK]
   congr 2
   funext l
   congr 1
   funext aX
   exact aqm λj ax=>h (.jx j) (by simp[eK,ax])
  ·rfl
 case store n x v =>
  simp only[cK];exact aql λj ax=>h (.jx j) (by simp[eK,ax])
 case app k z b s x =>
  have cv:∀j,j=k\/j∈keyOf (br tm s)\/j∈keyOf (br tm x)->mem j=mem' j:=λj ax=>h (.jx j) (by simpa [eK] using ax);simp only[cK,ae1 (sz:=D z) (λj ax=>cv j (.inr (.inr ax)))];exact aqi (cv k (.inl rfl)) λj ax=>cv j (.inr (.inl ax))
 case tF s d x =>
  have cv:∀j,j∈keyOf (br tm d)\/j∈keyOf (br tm x)->mem j=mem' j:=λj ax=>h (.jx j) (by simpa [eK] using ax);simp only[cK,ae1 (sz:=s) (λj ax=>cv j (.inr ax))];exact aqj λj ax=>cv j (.inl ax)
theorem ae2 {mem mem':Mem}{tm:Nat->R}{op:kZ}(H:∀cP f l,op ≠ .nm cP f l)(h:∀x∈eK tm op,mem x.key=mem' x.key):kp T mem tm op=kp T mem' tm op:=by
 cases op
 case call=>rfl
 case oX k sz f l =>
  have:cA mem k=cA mem' k:=by
   have:=h (.jx k) (by simp[eK]);simp only[qp.key] at this;simp only[cA,this]
  simp only[kp,this]
 case nm cP f l=>exact absurd rfl (H cP f l)
 case nJ=>rfl
 case sF=>rfl
 all_goals exact aqn (mem:=mem) (mem':=mem') (tm:=tm) h
theorem Pn {x:Option R}{m:R}{e:Option (Key×Nat×List R)}(h:j5 x=some (m,e)):e=none:=(aeJ h).2
theorem aqo {mem:Mem}{tm:Nat->R}{op:kZ}{m:R}{e:Option (Key×Nat×List R)}(h:cK mem tm op=some (m,e)):e=none\/(kD op=true/\∃k g cs,e=some (k,g,cs) /\ .jx k∈eK tm op):=by
 cases op<;>try (first|exact .inl (Pn h)|exact .inl (Pn (x:=some _) h))
 case alloc k z =>
  simp only[cK,cO,fJ] at h;exact .inr ⟨rfl,_,_,_,h.2.symm,by simp[eK]⟩
 case box k x =>
  simp only[cK] at h
  split at h<;>simp only[cO,fJ,reduceCtorEq] at h
  exact .inr ⟨rfl,_,_,_,h.2.symm,by simp[eK]⟩
 case eL k o z sz len dM =>
  cases o
  ·exact .inl (Pn h)
  ·simp only[cK,G7] at h
   (repeat' split at h)<;>simp only[cO,fJ,reduceCtorEq] at h
   exact .inr ⟨rfl,_,_,_,h.2.symm,by simp[eK]⟩
 case mx k z b x y =>
  obtain⟨_,_,_,_,h⟩:=aeK h;simp only[G8] at h
  split at h<;>simp only[cO,fJ,reduceCtorEq] at h
  exact .inr ⟨rfl,_,_,_,h.2.symm,by simp[eK]⟩
 case uR n s x a b c =>
  cases c
  ·exact .inl (Pn h)
  ·cases h
 case store n x v =>
  simp only[cK] at h
  cases M:br tm x<;>rw[M] at h<;>simp only[za,reduceCtorEq] at h
  simp only[KK] at h
  (repeat' split at h)<;>simp only[cO,fJ,reduceCtorEq] at h
  exact .inr ⟨rfl,_,_,_,h.2.symm,by simp[eK,M,keyOf]⟩
 case app k z b s x =>
  simp only[cK] at h
  cases X:rP mem (D z) (br tm x)<;>cases Q:br tm s<;>rw[X,Q] at h<;>simp only[sH,reduceCtorEq] at h
  ·split at h<;>simp only[cO,fJ,reduceCtorEq] at h
   exact .inr ⟨rfl,_,_,_,h.2.symm,by simp[eK]⟩
  ·simp only[lr] at h
   (repeat' split at h)<;>simp only[cO,fJ,reduceCtorEq] at h
   exact .inr ⟨rfl,_,_,_,h.2.symm,by simp[eK,Q,keyOf]⟩
 case tF s d x =>
  simp only[cK] at h
  cases X:rP mem s (br tm x)<;>cases Q:br tm d<;>rw[X,Q] at h<;>simp only[xI,reduceCtorEq] at h
  simp only[Cq] at h
  (repeat' split at h)<;>simp only[cO,fJ,reduceCtorEq] at h
  exact .inr ⟨rfl,_,_,_,h.2.symm,by simp[eK,Q,keyOf]⟩
 all_goals cases h
theorem ae3 {cP:Nat}{mem:Mem}{ms:List R}{x:Option hY}{m:R}{e:Option (Key×Nat×List R)}(h:Ha cP mem ms x=some (m,e)):
  ∃r k g i c cs,x=some (.dW r k g i c)/\mem k=some (g,cs)/\m=.I r/\e=some (k,g,cs.set i c)/\KL cP ms=[.wr k i]:=by
 unfold Ha at h
 split at h
 ·rename_i k g off rest r k' ea i c
  split at h
  ·rename_i r0 cs hm
   split at h
   ·rename_i H;obtain⟨rfl,rfl,rfl⟩:=H;simp only[cO,fJ] at h;exact⟨r,_,_,_,c,cs,rfl,hm,h.1.symm,h.2.symm,rfl⟩
   ·cases h
  ·cases h
 ·cases h
theorem UP {mem:Mem}{tm:Nat->R}{op:kZ}{m:R}{e:Option (Key×Nat×List R)}(h:kp T mem tm op=some (m,e)):e=none\/(kD op=true/\∃k g cs,e=some (k,g,cs)/\(.jx k∈eK tm op\/∃i c uZ,eK tm op=[.wr k i]/\mem k=some (g,uZ)/\cs=uZ.set i c)):=by
 have pl:cK mem tm op=some (m,e)->e=none\/(kD op=true/\∃k g cs,e=some (k,g,cs)/\(.jx k∈eK tm op\/∃i c uZ,eK tm op=[.wr k i]/\mem k=some (g,uZ)/\cs=uZ.set i c)):=λh=>by
  rcases aqo h with h|⟨G,k,g,cs,J,af⟩
  ·exact .inl h
  ·exact .inr ⟨G,k,g,cs,J,.inl af⟩
 cases op
 case call f l =>
  simp only[kp] at h
  split at h<;>simp only[cO,fJ,reduceCtorEq] at h
  ·exact .inl h.2.symm
  ·exact .inl h.2.symm
 case oX k sz f l =>
  simp only[kp] at h
  (repeat' split at h)<;>simp only[cO,fJ,reduceCtorEq] at h
  exact .inr ⟨rfl,_,_,_,h.2.symm,.inl (by simp[eK])⟩
 case nJ=>cases h
 case sF=>cases h
 case nm cP f l =>
  obtain⟨r,k,g,i,c,cs,-,hm,-,he,aD⟩:=ae3 h;exact .inr ⟨rfl,k,g,_,he,.inr ⟨i,c,cs,aD,hm,rfl⟩⟩
 all_goals exact pl h
theorem aqp {tm:Nat->R}{op:kZ}{b:qp}(ai:b∈eK tm op):(∃k,b=.jx k)\/(∃n ey x k g off,op=.load n ey x/\br tm x=.ptr k g off/\b=.rd k off (off+n))\/∃cP f l,op=.nm cP f l:=by
 cases op
 case load n ey x =>
  simp only[eK] at ai
  cases M:br tm x<;>rw[M] at ai<;>simp[G9] at ai
  ·exact .inl ⟨_,ai⟩
  ·exact .inr (.inl ⟨_,_,_,_,_,_,rfl,M,ai⟩)
 case nm cP f l=>exact .inr (.inr ⟨_,_,_,rfl⟩)
 case eL k o z sz len dM =>
  cases o<;>simp[eK] at ai;exact .inl ⟨_,ai⟩
 all_goals
  simp[eK] at ai
  try first
   |exact .inl ⟨_,ai⟩
   |(rcases ai with ⟨k,_,h⟩|⟨k,_,h⟩<;>exact .inl ⟨k,h.symm⟩)
   |(rcases ai with h|⟨k,_,h⟩|⟨k,_,h⟩<;>first|exact .inl ⟨_,h⟩|exact .inl ⟨_,h.symm⟩)
   |(obtain⟨k,_,h⟩:=ai;exact .inl ⟨k,h.symm⟩)
theorem aqq {cs:List R}{i off n:Nat}{c:R}(h:i<off\/off+n<=i):cut (cs.set i c) off n=cut cs off n:=by
 unfold cut;rw[List.length_set]
 split
 ·congr 1
  rcases h with h|h
  ·rw[u0 h]
  ·by_cases U:i<off
   ·rw[u0 U]
   ·rw[List.drop_set,ag U,List.take_set_of_le (by omega)]
 ·rfl
theorem aqr {mem:Mem}{k g i:Nat}{c:R}{cs:List R}{n:Nat}{ey:Bool}{k' ea off:Nat}(hm:mem k=some (g,cs))(h:k'≠k\/i<off\/off+n<=i):
  rO (a5 mem k g (cs.set i c)) n ey (.ptr k' ea off)=rO mem n ey (.ptr k' ea off):=by
 by_cases L:k'=k
 ·subst L;have h:=h.resolve_left (λh=>h rfl);simp only[rO,a5,if_true,hm,aqq h]
 ·simp only[rO,a5,L,if_false]
theorem ae4 {mem:Mem}{tm:Nat->R}{x y:kZ}{m:R}{e:Option (Key×Nat×List R)}(aqs:kp T mem tm x=some (m,e))(a4:sK (kD x,eK tm x) (kD y,eK tm y)=true):kp T (jI mem e) tm y=kp T mem tm y:=by
 rcases UP aqs with rfl|⟨hw,k,g,cs,rfl,L⟩
 ·rfl
 ·have dO:∀a∈eK tm x,∀b∈eK tm y,sJ a b=true:=by
   unfold sK at a4
   simpa [hw] using a4
  have aqt:∀cP f l,y=.nm cP f l->eK tm y=[]:=by
   rintro cP f l rfl
   cases ai:eK tm (.nm cP f l) with
   |nil=>rfl
   |cons b r =>
    exfalso
    have nq:∃k' bn,b=.wr k' bn:=by
     simp only[eK] at ai;unfold KL at ai
     split at ai
     ·cases ai;exact⟨_,_,rfl⟩
     ·cases ai
    obtain⟨k',bn,rfl⟩:=nq;have hm:qp.wr k' bn∈eK tm (.nm cP f l):=by rw[ai];exact g0
    rcases L with L|⟨i,c,uZ,aD,_,_⟩
    ·have:=dO _ L _ hm;simp[sJ] at this
    ·have:=dO (.wr k i) (by rw[aD];exact g0) _ hm;simp[sJ] at this
  by_cases ao:∃cP f l,y=.nm cP f l
  ·obtain⟨cP,f,l,rfl⟩:=ao;have aj:=aqt _ _ _ rfl;simp only[eK] at aj
   have a2:∀mem' ks,Ha cP mem' (l.map (br tm)) ks=none:=by
    intro mem' ks;unfold Ha
    split
    ·rename_i heq;rw[heq] at aj;simp[KL] at aj
    ·rfl
   simp only[kp,a2]
  ·have H:∀cP f l,y ≠ .nm cP f l:=λcP f l h=>ao ⟨cP,f,l,h⟩;rcases L with L|⟨i,c,uZ,aD,hm,rfl⟩
   ·refine (ae2 H λb ai=>?_).symm;have G:=dO _ L b ai
    have:b.key≠k:=by
     rintro rfl
     cases b<;>simp[sJ,qp.key] at G
    simp[jI,a5,this]
   ·have G:=dO (.wr k i) (by rw[aD];exact g0)
    by_cases az:∃n ey z k' ea off,y=.load n ey z/\br tm z=.ptr k' ea off
    ·obtain⟨n,ey,z,k',ea,off,rfl,a2⟩:=az;have J:=G (.rd k' off (off+n)) (by simp[eK,a2,G9]);simp only[kp,cK,a2,jI];rw[aqr hm];simp[sJ] at J;exact J
    ·refine (ae2 H λb ai=>?_).symm
     exfalso
     rcases aqp ai with ⟨k',rfl⟩|⟨n,ey,z,k',ea,off,af,aP,_⟩|⟨cP,f,l,af⟩
     ·have:=G _ ai;simp[sJ] at this
     ·exact az ⟨n,ey,z,k',ea,off,af,aP⟩
     ·exact H _ _ _ af
theorem ae5 {tm:Nat->R}{op:kZ}(h:tH op=0):eK tm op=[]/\kD op=false:=by
 cases op<;>simp_all [tH,kD,eK]
 all_goals (rename_i b _ _ _ _;cases b<;>simp_all [kD,eK])
theorem ae6 {op:kZ}(h:tH op=1):kD op=false:=by
 cases op<;>simp_all [tH,kD]
 all_goals (rename_i b _ _ _ _;cases b<;>simp_all [kD])
end Go.Mini
namespace Go.Mini
open Go
variable {T:bm} {kI:Nat->Nat->Bool}
def zm (T:bm)(kI:Nat->Nat->Bool)(i:Nat)(x:dp)(rec:Rec)(st:bg)(AX:Rec)(er:bg):Prop :=
 (qo st.tm x.g=some false/\AX=rec/\er=⟨put st.tm x.dst .no,st.mem⟩) \/
 (qo st.tm x.g=some true/\∃m e,kp T st.mem st.tm x.op=some (m,e)/\(∀p q,kI p i=true->rec p=some q->sK q (kD x.op,eK st.tm x.op)=true) /\
  AX=wi rec i (kD x.op,eK st.tm x.op)/\er=⟨put st.tm x.dst m,jI st.mem e⟩)
theorem xT {tm:Nat->R}{dst:Option Nat}{m:R}{s:Nat}(h:dst≠some s):put tm dst m s=tm s:=by
 cases dst with
 |none=>rfl
 |some d =>
  have:s≠d:=λe=>h (by rw[e]);simp[put,this]
theorem put_comm {tm:Nat->R}{d zk:Option Nat}{m m':R}(h:∀s,d=some s->zk≠some s):put (put tm d m) zk m'=put (put tm zk m') d m:=by
 funext s
 by_cases G:d=some s
 ·rw[xT (h s G)];subst G;simp[put]
 ·rw[xT (dst:=d) G]
  by_cases J:zk=some s
  ·subst J;simp[put]
  ·rw[xT J,xT J,xT G]
theorem ae7 {tm tm':Nat->R}{g:Option (Nat×Bool)}(h:∀s b,g=some (s,b)->tm s=tm' s):qo tm g=qo tm' g:=by
 cases g with
 |none=>rfl
 |some p =>
  obtain⟨s,b⟩:=p;simp only[qo,h s b rfl]
theorem ae8 {x y:dp}(h:ze x y=true):(∀d,x.dst=some d->d ∉ Cu y)/\(∀d,x.dst=some d->y.dst≠some d)/\(∀d,y.dst=some d->d ∉ Cu x):=by
 refine⟨λd ab=>?_,λd ab=>?_,λd ab=>?_⟩<;>simp[ze,ab] at h
 ·exact h.1.1
 ·exact h.1.2
 ·exact h.2
theorem Po {x:dp}{s:Nat}(h:s∈zd x.op):s∈Cu x:=by simp[Cu,h]
theorem ae9 {x:dp}{s:Nat}{b:Bool}(h:x.g=some (s,b)):s∈Cu x:=by simp[Cu,h]
theorem aqu (a b:qp):sJ a b=sJ b a:=by
 have H:∀k k':Nat,(k==k')=(k'==k):=λk k'=>BEq.comm
 cases a<;>cases b<;>first|rfl|(unfold sJ;dsimp only;rw[H])
theorem afa {a b:Bool×List qp}(h:sK a b=true):sK b a=true:=by
 unfold sK at *;simp only[zn,Bool.not_eq_true',Bool.or_eq_false_iff,qs] at *;rcases h with ⟨G,J⟩|h
 ·exact .inl ⟨J,G⟩
 ·exact .inr λx M y ao=>by rw[aqu];exact h y ao x M
theorem aqv {mem:Mem}{e e':Option (Key×Nat×List R)}(h:∀j g cs n9 ea rS,e=some (j,g,cs)->e'=some (n9,ea,rS)->j≠n9):jI (jI mem e) e'=jI (jI mem e') e:=by
 cases e with
 |none=>rfl
 |some p =>
  cases e' with
  |none=>rfl
  |some q2 =>
   obtain⟨j,g,cs⟩:=p;obtain⟨n9,ea,rS⟩:=q2;have b5:=h _ _ _ _ _ _ rfl rfl
   funext k
   simp only[jI,a5]
   by_cases G:k=n9
   ·by_cases J:k=j
    ·exact absurd (J.symm.trans G) b5
    ·simp[G,J];intro af;exact absurd af.symm b5
   ·simp[G]
def Passes (kI:Nat->Nat->Bool)(i j:Nat)(x y:dp):Prop:=kI i j=true\/AH (tH x.op) (tH y.op)=true
theorem aqw {i j:Nat}{x y:dp}{tm:Nat->R}(h:Passes kI i j x y)(H:kI i j=true->sK (kD x.op,eK tm x.op) (kD y.op,eK tm y.op)=true):
  sK (kD x.op,eK tm x.op) (kD y.op,eK tm y.op)=true:=by
 rcases h with h|h
 ·exact H h
 ·unfold AH at h;simp only[zn,gb,beq_iff_eq] at h;rcases h with (h|h)|⟨G,J⟩
  ·obtain⟨G,J⟩:=ae5 (tm:=tm) h;simp[sK,G]
  ·obtain⟨G,J⟩:=ae5 (tm:=tm) h;simp[sK,G]
  ·have G:=ae6 G;have J:=ae6 J;simp[sK,G,J]
theorem zm.comm {i j:Nat}{x y:dp}{rec sR Pp:Rec}{st sS Pq:bg}(nu:i≠j)(cW:ze x y=true)(aC:Passes kI i j x y)(UQ:∀a b,kI a b=kI b a)(iG:rec i=none)
  (G:zm T kI i x rec st sR sS) (J:zm T kI j y sR sS Pp Pq):∃K4 K5,zm T kI j y rec st K4 K5/\zm T kI i x K4 K5 Pp Pq:=by
 obtain⟨a4,ai,H⟩:=ae8 cW
 -- what one sees of the other's temporary: nothing
 have aqx:∀m,qo (put st.tm x.dst m) y.g=qo st.tm y.g:=λm=>ae7 λs b Q=>xT λab=>a4 s ab (ae9 Q);have aqy:∀mem m,kp T mem (put st.tm x.dst m) y.op=kp T mem st.tm y.op:=λmem m=>aeZ λs Q=>xT λab=>a4 s ab (Po Q);have aqz:∀m,eK (put st.tm x.dst m) y.op=eK st.tm y.op:=λm=>ae0 λs Q=>xT λab=>a4 s ab (Po Q);have Pr:∀m,qo (put st.tm y.dst m) x.g=qo st.tm x.g:=λm=>ae7 λs b Q=>xT λab=>H s ab (ae9 Q);have afb:∀mem m,kp T mem (put st.tm y.dst m) x.op=kp T mem st.tm x.op:=λmem m=>aeZ λs Q=>xT λab=>H s ab (Po Q);have Ps:∀m,eK (put st.tm y.dst m) x.op=eK st.tm x.op:=λm=>ae0 λs Q=>xT λab=>H s ab (Po Q);have mY:∀m m',put (put st.tm x.dst m) y.dst m'=put (put st.tm y.dst m') x.dst m:=λm m'=>put_comm ai;rcases G with ⟨dh,rfl,rfl⟩|⟨dh,ef,ay,s1,au,rfl,rfl⟩<;>rcases J with ⟨dC,rfl,rfl⟩|⟨dC,bX,aA,s2,c2,rfl,rfl⟩<;>simp only[aqx,aqy,aqz] at *
 ·exact⟨_,_,.inl ⟨dC,rfl,rfl⟩,.inl ⟨by simp only[Pr];exact dh,rfl,by simp only[mY]⟩⟩
 ·exact⟨_,_,.inr ⟨dC,bX,aA,s2,c2,rfl,rfl⟩,.inl ⟨by simp only[Pr];exact dh,rfl,by simp only[mY]⟩⟩
 ·exact⟨_,_,.inl ⟨dC,rfl,rfl⟩,.inr ⟨by simp only[Pr];exact dh,ef,ay,by simp only[afb];exact s1,by simp only[Ps];exact au,by simp only[Ps],by simp only[mY]⟩⟩
 ·have afc:kI i j=true->sK (kD x.op,eK st.tm x.op) (kD y.op,eK st.tm y.op)=true:=λh=>c2 i _ h (by simp[wi]);have CE:=aqw (tm:=st.tm) aC afc;have UR:kp T st.mem st.tm y.op=some (bX,aA):=by rw[<-s2];exact (ae4 s1 CE).symm
  have fc:∀j g cs n9 ea rS,ay=some (j,g,cs)->aA=some (n9,ea,rS)->j≠n9:=by
   rintro k g cs k' ea rS rfl rfl rfl;rcases UP s1 with h|⟨hw,dN,dC,u1,h,G⟩
   ·cases h
   ·cases h;rcases UP UR with h|⟨afd,eo,ji,aHM,h,J⟩
    ·cases h
    ·cases h;unfold sK at CE;simp only[hw,Bool.true_or,Bool.not_true,Bool.false_or,qs] at CE;rcases G with G|⟨i,c,uZ,G,_,_⟩<;>rcases J with J|⟨bn,c',aHN,J,_,_⟩
     ·have:=CE _ G _ J;simp[sJ] at this
     ·have:=CE _ G (.wr k bn) (by rw[J];exact g0);simp[sJ] at this
     ·have:=CE (.wr k i) (by rw[G];exact g0) _ J;simp[sJ] at this
     ·have:=CE (.wr k i) (by rw[G];exact g0) (.wr k bn) (by rw[J];exact g0);simp[sJ] at this
  refine⟨_,_,.inr ⟨dC,bX,aA,UR,λp q Pt bF=>?_,rfl,rfl⟩,.inr ⟨by simp only[Pr];exact dh,ef,ay,?_,?_,?_,?_⟩⟩
  ·have b5:p≠i:=λh=>by rw[h,iG] at bF;cases bF
   exact c2 p q Pt (by simp[wi,b5,bF])
  ·simp only[afb];rw[<-s1];exact ae4 UR (afa CE)
  ·simp only[Ps];intro p q q3 bF
   by_cases Pt:p=j
   ·subst Pt;simp only[wi,if_true,cO] at bF;subst bF;exact afa (afc (by rw[UQ];exact q3))
   ·simp only[wi,Pt,if_false] at bF;exact au p q q3 bF
  ·simp only[Ps]
   funext p
   simp only[wi]
   by_cases G:p=i
   ·subst G;simp[nu]
   ·simp[G]
  ·simp only[mY];rw[aqv fc]
end Go.Mini
namespace Go.Mini
open Go
variable {T:bm} {kI:Nat->Nat->Bool} {ops:Array Oper} {l:List dp} {K:bg->Prop}
def Hy (T:bm)(kI:Nat->Nat->Bool)(ops:Array Oper)(l:List dp)(K:bg->Prop):Nat->Array Bool->Rec->bg->Prop
 |0,fi,_,st=>Region.ready .any ops fi=[]/\K st
 |fuel+1,fi,rec,st=>(Region.ready .any ops fi=[]->K st) /\
  ∀i∈Region.ready .any ops fi,∃x AX er,l[i]?=some x/\zm T kI i x rec st AX er/\Hy T kI ops l K fuel (fi.setIfInBounds i true) AX er
def CF (ops:Array Oper)(fi:Array Bool):Prop :=
 fi.size=ops.size/\∀(j:Nat) (o:Oper),ops[j]?=some o->fi.getD j false=true->∀e∈o.after,Region.binds .any e=true->fi.getD e.on false=true
theorem CF.set {fi:Array Bool}{i:Nat}(h:CF ops fi)(U:i∈Region.ready .any ops fi):CF ops (fi.setIfInBounds i true):=by
 refine⟨by simp[h.1],λj o ax az e he ai=>?_⟩
 by_cases lz:j=i
 ·subst lz;obtain⟨_,K6,bS,dO⟩:=mem_ready.1 U;rw[ax] at bS
  cases bS;exact getD_set_true (dO e he ai)
 ·rw[getD_set_ne false (Ne.symm lz)] at az;exact getD_set_true (h.2 j o ax az e he ai)
def US (kI:Nat->Nat->Bool)(ops:Array Oper)(l:List dp):Prop :=
 ∀(i j:Nat) (x y:dp),i≠j->l[i]?=some x->l[j]?=some y ->
  (∀fi,CF ops fi->i∈Region.ready .any ops fi->j∈Region.ready .any ops fi->False)\/(ze x y=true/\Passes kI i j x y)
theorem afe {i k:Nat}{x:dp}{rec AX:Rec}{st er:bg}(h:zm T kI i x rec st AX er)(L:k≠i):AX k=rec k:=by
 rcases h with ⟨_,rfl,_⟩|⟨_,_,_,_,_,rfl,_⟩
 ·rfl
 ·simp[wi,L]
theorem aqA {fi:Array Bool}{i k:Nat}(h:(fi.setIfInBounds i true).getD k true=false):k≠i/\fi.getD k true=false:=by
 by_cases tR:i=k
 ·subst tR
  exfalso
  by_cases av:i<fi.size
  ·simp[av] at h
  ·have:(fi.setIfInBounds i true).size<=i:=by simp;omega
   rw[Array.getD_eq_getD_getElem?,Array.getElem?_eq_none this] at h;simp at h
 ·rw[getD_set_ne true tR] at h;exact⟨λcv=>tR cv.symm,h⟩
theorem aqB (aC:US kI ops l)(UQ:∀a b,kI a b=kI b a){i:Nat}{x:dp}(U:l[i]?=some x):∀(fuel:Nat) (fi:Array Bool) (rec:Rec) (st:bg) (sR:Rec) (sS:bg),
  CF ops fi->(∀k,fi.getD k true=false->rec k=none)->i∈Region.ready .any ops fi->zm T kI i x rec st sR sS ->
  Hy T kI ops l K fuel (fi.setIfInBounds i true) sR sS->Hy T kI ops l K (fuel+1) fi rec st:=by
 intro fuel
 induction fuel with
 |zero =>
  intro fi rec st sR sS eC zo X he gI;refine⟨λh=>(by rw[h] at X;cases X),λj ax=>?_⟩
  by_cases lz:j=i
  ·subst lz;exact⟨x,sR,sS,U,he,gI⟩
  ·have:=ready_mono ax lz;rw[gI.1] at this
   cases this
 |succ fuel aH =>
  intro fi rec st sR sS eC zo X he gI;refine⟨λh=>(by rw[h] at X;cases X),λj ax=>?_⟩
  by_cases lz:j=i
  ·subst lz;exact⟨x,sR,sS,U,he,gI⟩
  ·obtain⟨y,Pp,Pq,ao,gQ,cX⟩:=gI.2 j (ready_mono ax lz);rcases aC i j x y (Ne.symm lz) U ao with hE|⟨cW,aqC⟩
   ·exact (hE fi eC X ax).elim
   ·obtain⟨K4,K5,G,J⟩:=zm.comm (Ne.symm lz) cW aqC UQ (zo i (mem_ready.1 X).1) he gQ;refine⟨y,K4,K5,ao,G,aH _ K4 K5 Pp Pq (eC.set ax) (λk L=>?_) (ready_mono X (Ne.symm lz)) J ?_⟩
    ·obtain⟨af,aP⟩:=aqA L;rw[afe G af];exact zo k aP
    ·rw[Array.setIfInBounds_comm _ _ lz];exact cX
theorem UT:∀(r:List Oper) (acc:List Nat) (k:Nat),k<(D acc)->(rQ r acc).getD k 0=acc.getD k 0
 | [],acc,k,_=>rfl
 |o::r,acc,k,L=>by
  simp only[rQ];rw[UT r _ k (by simp;omega)];simp only[ez];rw[oZ L]
theorem aqD {es:List Edge}{acc:List Nat}{i:Nat}:∀(s:Nat),(es.foldl (λs e=>if Region.binds .any e=true then s ||| (2^e.on ||| acc.getD e.on 0) else s) s).testBit i=true ->
  s.testBit i=true\/∃e∈es,Region.binds .any e=true/\(e.on=i\/(acc.getD e.on 0).testBit i=true):=by
 induction es with
 |nil=>exact λs h => .inl h
 |cons e es aH =>
  intro s h;rw[aeq] at h;rcases aH _ h with G|⟨e',G,J⟩
  ·split at G
   ·rename_i ai;rw[aff,aff,zn,zn] at G;rcases G with G|G|G
    ·exact .inl G
    ·rw[Nat.testBit_two_pow] at G;exact .inr ⟨e,by simp,ai,.inl (by simpa using G)⟩
    ·exact .inr ⟨e,by simp,ai,.inr G⟩
   ·exact .inl G
  ·exact .inr ⟨e',by simp[G],J⟩
theorem afg:∀(r:List Oper) (acc:List Nat) (t:Nat) (o:Oper),r[t]?=some o->∀i,((rQ r acc).getD (D acc+t) 0).testBit i=true ->
  ∃e∈o.after.toList,Region.binds .any e=true/\(e.on=i\/(e.on<D acc+t/\((rQ r acc).getD e.on 0).testBit i=true))
 | [],_,_,_,h,_,_=>by simp at h
 |K6::r,acc,0,o,h,i,ai=>by
  simp at h;subst h;simp only[rQ,l7] at ai ⊢;rw[UT r _ _ (by simp)] at ai;simp only[ez] at ai;rw[nK (cI _)] at ai;simp only[j6,K7,K8] at ai;rcases aqD (acc:=acc) 0 (by simpa only [ez] using ai) with G|⟨e,G,J,af⟩
  ·simp at G
  ·refine⟨e,G,J,af.imp id λh=>?_⟩
   have av:e.on<D acc:=by
    rcases hn e.on (D acc) with cv|cv
    ·exact cv
    ·rw[ez,iD cv] at h;simp at h
   refine⟨av,?_⟩;rw[UT r _ _ (by simp;omega),ez,oZ av,<-ez];exact h
 |K6::r,acc,t+1,o,h,i,ai=>by
  have cv:r[t]?=some o:=by simpa using h
  simp only[rQ] at ai ⊢
  have:=afg r (acc++[K6.after.toList.foldl (λs e=>if Region.binds .any e=true then s ||| (2^e.on ||| acc.getD e.on 0) else s) 0]) t o cv i (by
   rw[gj,List.length_singleton,uU,AA 1 t];exact ai)
  obtain⟨e,G,J,af⟩:=this;refine⟨e,G,J,af.imp id λh=>⟨by have:=h.1;simp at this;omega,h.2⟩⟩
theorem aqE {fi:Array Bool}(eC:CF ops fi):∀(j:Nat) (o:Oper),ops[j]?=some o->(∀e∈o.after,Region.binds .any e=true->fi.getD e.on false=true) ->
  ∀i,((rQ ops.toList []).getD j 0).testBit i=true->fi.getD i false=true:=by
 intro j
 induction j using Nat.strongRecOn with
 |_ j aH =>
  intro o bS dO i U;obtain⟨e,he,ai,h⟩:=afg ops.toList [] j o (by simpa using bS) i (by simpa using U);have az:=dO e (by simpa using he) ai;rcases h with rfl|⟨av,aqF⟩
  ·exact az
  ·have fy:e.on<ops.size:=by
    rw[<-eC.1];rcases hn e.on fi.size with cv|cv
    ·exact cv
    ·simp[Array.getElem?_eq_none cv] at az
   have afh:ops[e.on]?=some ops[e.on]:=Array.getElem?_eq_getElem fy;exact aH e.on (by simpa using av) _ afh (eC.2 e.on _ afh az) i aqF
theorem afi:∀(cs pre:List dp) (as:List Nat),Hf pre cs as=true->∀(t:Nat) (y:dp),cs[t]?=some y->∀(i:Nat) (x:dp),(pre++cs)[i]?=some x->i<D pre+t ->
  (as.getD t 0).testBit i=true\/ze x y=true
 | [],_,_,_,_,_,h,_,_,_,_=>by simp at h
 |_::_,_,[],h,_,_,_,_,_,_,_=>by simp[Hf] at h
 |c::cs,pre,a::as,h,0,y,ao,i,x,M,av=>by
  simp only[Hf,gb,qs] at h;simp at ao;subst ao;have U:i<D pre:=by simpa using av
  rw[oZ U] at M;have:=h.1 (x,i) (by rw[afj];exact M)
  simpa using this
 |c::cs,pre,a::as,h,t+1,y,ao,i,x,M,av=>by
  simp only[Hf,gb] at h;have:=afi cs (pre++[c]) as h.2 t y (by simpa using ao) i x (by simpa using M) (by simp;omega)
  simpa using this
theorem afk:∀(cs pre:List dp) (as:List Nat) (t:Nat) (y:dp),cs[t]?=some y->∀(i:Nat) (x:dp),(pre++cs)[i]?=some x->i<D pre+t ->
  (as.getD t 0).testBit i=true\/AH (tH x.op) (tH y.op)=true\/i∈(AJ pre cs as).getD t []
 | [],_,_,_,_,h,_,_,_,_=>by simp at h
 |c::cs,pre,as,0,y,ao,i,x,M,av=>by
  simp at ao;subst ao;have U:i<D pre:=by simpa using av
  rw[oZ U] at M;have ia:(x,i)∈pre.zipIdx:=by rw[afj];exact M
  by_cases G:(as.getD 0 0).testBit i=true
  ·exact .inl G
  ·by_cases J:AH (tH x.op) (tH c.op)=true
   ·exact .inr (.inl J)
   ·refine .inr (.inr ?_);simp only[AJ,ez,K7,K8];refine List.mem_map.2 ⟨(x,i),List.mem_filter.2 ⟨ia,?_⟩,rfl⟩;have af:as.headD 0=as.getD 0 0:=by cases as<;>rfl
    simp only[af];rw[ez] at G;simp[G,J]
 |c::cs,pre,as,t+1,y,ao,i,x,M,av=>by
  have:=afk cs (pre++[c]) as.tail t y (by simpa using ao) i x (by simpa using M) (by simp;omega);have af:as.tail.getD t 0=as.getD (t+1) 0:=by cases as<;>simp
  rw[af] at this
  simpa [AJ] using this
def xU (c:List (List Nat))(i j:Nat):Bool:=if i<j then (c.getD j []).contains i else if j<i then (c.getD i []).contains j else false
theorem afl (c:List (List Nat))(i j:Nat):xU c i j=xU c j i:=by
 unfold xU
 by_cases G:i<j
 ·simp[G,afm G]
 ·by_cases J:j<i
  ·simp[J,afm J]
  ·simp[G,J]
theorem aqG {x y:dp}(h:ze x y=true):ze y x=true:=by
 obtain⟨G,J,af⟩:=ae8 h;unfold ze;rw[gb]
 constructor
 ·cases ao:y.dst with
  |none=>rfl
  |some d =>
   have a:=af d ao;have b:x.dst≠some d:=λM=>J d M ao;simp[a,b]
 ·cases M:x.dst with
  |none=>rfl
  |some d =>
   have a:=G d M;simp[a]
theorem aqH (a b:Nat):AH a b=AH b a:=by
 unfold AH
 cases (a==0)<;>cases (b==0)<;>cases (a==1)<;>cases (b==1)<;>rfl
theorem aqI (ab:Hh ops l=true):US (xU (AJ [] l (rQ ops.toList []))) ops l:=by
 have key:∀(i j:Nat) (x y:dp),i<j->l[i]?=some x->l[j]?=some y ->
   (∀fi,CF ops fi->i∈Region.ready .any ops fi->j∈Region.ready .any ops fi->False) \/
   (ze x y=true/\(xU (AJ [] l (rQ ops.toList [])) i j=true\/AH (tH x.op) (tH y.op)=true)):=by
  intro i j x y nu M ao;unfold Hh at ab;rw[gb] at ab
  by_cases ai:((rQ ops.toList []).getD j 0).testBit i=true
  ·refine .inl λfi eC U ax=>?_;obtain⟨_,o,bS,dO⟩:=mem_ready.1 ax;have G:=aqE eC j o bS dO i ai;have aj:=(mem_ready.1 U).1;rcases hn i fi.size with cv|cv
   ·simp[cv] at aj G;rw[aj] at G;cases G
   ·simp[Array.getElem?_eq_none cv] at G
  ·refine .inr ⟨?_,?_⟩
   ·rcases afi l [] _ ab.2 j y ao i x (by simpa using M) (by simpa using nu) with h|h
    ·exact absurd h ai
    ·exact h
   ·rcases afk l [] (rQ ops.toList []) j y ao i x (by simpa using M) (by simpa using nu) with h|h|h
    ·exact absurd h ai
    ·exact .inr h
    ·exact .inl (by unfold xU;rw[ad nu];exact afn.2 h)
 intro i j x y nu M ao;rcases Nat.lt_or_gt_of_ne nu with h|h
 ·exact key i j x y h M ao
 ·rcases key j i y x h ao M with G|⟨G,J⟩
  ·exact .inl λfi eC U ax=>G fi eC ax U
  ·refine .inr ⟨aqG G,?_⟩;rcases J with J|J
   ·exact .inl (by rw[afl];exact J)
   ·exact .inr (by rw[aqH];exact J)
end Go.Mini
namespace Go.Mini
open Go
variable {P:Program} {T:bm} {A:Nat->Prop} {eQ w:World} {h1 B:ft} {mem:Mem} {n kb:Nat} {own:List Nat} {ops:Array Oper} {l:List dp} {K:bg->Prop} {aU:Exit->Act->World->Prop}
theorem afo:∀(r:List Oper) (m:Nat),Hg m r=true->∀(t:Nat) (o:Oper),r[t]?=some o->∀e∈o.after,Region.binds .any e=true->e.on<m+t
 | [],_,_,_,_,h,_,_,_=>by simp at h
 |K6::r,m,h,0,o,bS,e,he,ai=>by
  simp only[Hg,gb] at h;simp at bS;subst bS;have:=(Array.all_eq_true_iff_forall_mem.1 h.1) e he
  simpa [ai] using this
 |K6::r,m,h,t+1,o,bS,e,he,ai=>by
  simp only[Hg,gb] at h;have:=afo r (m+1) h.2 t o (by simpa using bS) e he ai;omega
theorem afp {c:List (List Nat)}(aC:US (xU c) ops l)(az:(D l)=ops.size)(he:Hg 0 ops.toList=true):∀(r:List dp) (m:Nat) (rec:Rec) (st:bg) (fi:Array Bool),l.drop m=r->m+D r=(D l) ->
  fi.size=ops.size->(∀i,i<ops.size->fi.getD i true=decide (i<m))->(∀k,m<=k->rec k=none)->xJ T K m r (c.drop m) rec st->Hy T (xU c) ops l K (D r) fi rec st
 | [],m,rec,st,fi,X,hm,Q,hli,zo,h=>by
  refine⟨List.eq_nil_iff_forall_not_mem.2 λi U=>?_,h⟩;obtain⟨G,o,bS,_⟩:=mem_ready.1 U;have av:i<ops.size:=(Array.getElem?_eq_some_iff.1 bS).1;rw[hli i av] at G;simp at G hm;omega
 |x::r,m,rec,st,fi,X,hm,Q,hli,zo,h=>by
  have av:m<ops.size:=by simp at hm;omega
  have bS:ops[m]?=some ops[m]:=Array.getElem?_eq_getElem av
  have M:l[m]?=some x:=by
   have:(l.drop m)[0]?=some x:=by rw[X];rfl
   simpa using this
  have mX:=λ(j:Nat) (o:Oper) (ax:ops[j]?=some o)=>afo ops.toList 0 he j o (by simpa using ax)
  have cJ:∀i,i<m->fi.getD i false=true:=λi U=>by
   have G:=hli i (by omega);rw[jw U] at G;have J:i<fi.size:=by omega
   simpa [J] using G
  have eC:CF ops fi:=⟨Q,λj o ax l2 e tP ai=>by
   have G:=mX j o ax e tP ai;have wq:j<ops.size:=(Array.getElem?_eq_some_iff.1 ax).1
   have J:j<m:=by
    have:=hli j wq;have af:j<fi.size:=by omega
    simp[af] at l2 this;rw[l2] at this
    simpa using this.symm
   exact cJ _ (by omega)⟩
  have aqJ:m∈Region.ready .any ops fi:=mem_ready.2 ⟨by rw[hli m av];simp,_,bS,λe tP ai=>cJ _ (by have:=mX m _ bS e tP ai;omega)⟩
  have aqK:∀k,fi.getD k true=false->rec k=none:=λk L=>zo k (by
   rcases hn k ops.size with cv|cv
   ·rw[hli k cv] at L
    simpa using L
   ·omega)
  have next:∀sR sS,zm T (xU c) m x rec st sR sS->xJ T K (m+1) r (c.drop m).tail sR sS->Hy T (xU c) ops l K (D r+1) fi rec st:=by
   intro sR sS hex L;refine aqB aC (afl c) M _ fi rec st sR sS eC aqK aqJ hex (afp aC az he r (m+1) sR sS _ ?_ (by simp at hm;omega) (by simpa using Q) (λi U=>?_) (λk L=>?_) ?_)
   ·rw[<-Hz,X]
    rfl
   ·by_cases him:m=i
    ·subst him;have:m<fi.size:=by omega
     simp[this]
    ·rw[getD_set_ne true him,hli i U]
     congr 1
     simp;omega
   ·rw[afe hex (by omega)];exact zo k (by omega)
   ·rw[List.tail_drop] at L;exact L
  simp only[xJ] at h
  split at h
  ·cases h
  ·rename_i g bq
   split at h
   ·rename_i g1;subst g1
    split at h
    ·rename_i b8 e Q;refine next _ _ (.inr ⟨bq,b8,e,Q,λp q HA bF=>?_,rfl,rfl⟩) h.2
     have j7:p<m:=by
      rcases hn p m with cv|cv
      ·exact cv
      ·rw[zo p cv] at bF;cases bF
     have UU:=h.1;unfold Hb at UU;rw[qs] at UU
     have ia:p∈(c.drop m).headD []:=by
      unfold xU at HA;rw[ad j7] at HA
      have:(c.drop m).headD []=c.getD m []:=by
       rw[List.headD_eq_head?_getD,List.head?_drop,ez]
      rw[this];exact afn.1 HA
     have:=UU p ia;rw[bF] at this;exact this
    ·cases h
   ·rename_i aqL;have aqM:g=false:=by simpa using aqL
    subst aqM;exact next _ _ (.inl ⟨bq,rfl,rfl⟩) h
theorem UW (h:gk A w B mem):gk (cU A B) w (λ_=>none) emp :=
 ⟨λ_ _=>rfl,λ_ _ _ _ _ h=>(by cases h),λb _ ⟨_,_,h,_⟩=>(by cases h),λb ai=>ai.elim (λcv=>h.Cm cv) (h.lt b),λ_ _ _ h=>(by cases h)⟩
theorem K9 (b:Nat):cU (cU A B) (λ_=>none) b↔cU A B b :=
 ⟨λh=>h.elim (fun⟨_,_,h,_⟩=>by cases h) id,.inr⟩
theorem aqN {m:R}{v:Value}(h:bO w (cU A B) B m v):bO w (cU (cU A B) λ_=>none) (λ_=>none) (Cr m) v:=by
 cases h with
 |I h=>exact .I (h.less λb ai=>(K9 b).1 ai)
 |nil=>exact .nil
 |gX az ab =>
  rename_i f gW vs
  cases gW with
  |nil=>exact .gX az λi d v h=>by simp at h
  |cons c r=>exact .undef
 |agg az ab =>
  rename_i cs vs;simp only[Cr]
  cases H:cs.mapM Ei with
  |none=>exact .undef
  |some ds =>
   obtain⟨G,J⟩:=pG H;refine .I (.agg (az.trans G.symm) λi d v U aN=>?_);have av:i<D cs:=by have:=(eg.1 U).1;omega
   have oc:=bB av;exact (aex (J i _ d oc U) (ab i _ v oc aN)).less λb ai=>(K9 b).1 ai
 |_=>exact .undef
theorem shut_list {ms:List R}{vs:List Value}(h:dR w (cU A B) B ms vs):dR w (cU (cU A B) λ_=>none) (λ_=>none) (ms.map Cr) vs:=by
 refine⟨by simpa using h.1,λi m v hm aN=>?_⟩
 rw[aW,e6] at hm;obtain⟨m',AY,rfl⟩:=hm;exact aqN (h.2 i m' v AY aN)
theorem CD.less {w aV:World}{a0 qk:Nat->Prop}{sz:Nat}{es:List (List Data)}{v:Value}(az:∀b,qk b->a0 b)(h:CD w aV a0 sz es v):CD w aV qk sz es v:=by
 obtain⟨G,a,cap,J,af,aP,bh⟩:=h;refine⟨G,a,cap,J,af,aP,bh.imp id ?_⟩;rintro⟨b,vs,T,bK,bE,bP,eA,dj⟩;exact⟨b,vs,T,bK,bE,bP,eA,λi d ab=>let ⟨u,hu,wB⟩:=dj i d ab;⟨u,hu,wB.less λfK nq=>nq.imp (az fK) id⟩⟩
theorem Pu {o:Oper}{c:Call}{f:FuncId}{a:Act}(bS:o.op=.call c)(qu:c.callee=.value (.func f))(q1:Real P f):(execOp a.eval o).run P w=.ok (.enter f (c.args.toList.map a.eval).toArray) w:=by
 obtain⟨dst,op,type,pos,after,guard⟩:=o;simp only at bS;subst bS;obtain⟨callee,AW,Pm⟩:=c;simp only at qu;subst qu;simp only[execOp,resolve,Deferred.ofValue,Act.eval,invoke,Sem.run_bind,Sem.run_pure,Result.andThen_ok,Pl q1];rw[CA AW];simp
theorem aqO (dy:rY P T){a:Act}{st:bg}{o:Oper}{i:dp}{m:R}{e:Option (Key×Nat×List R)}(h:iq n A eQ h1 a st w B)(U:UM P n kb own ops o i)
  (Q:kp T st.mem st.tm i.op=some (m,e)):o.wp P a w (λlv aV=>∃bR,iq n A eQ h1 lv ⟨put st.tm i.dst m,jI st.mem e⟩ aV bR) aU:=by
 have oY:=U.op
 have plain:cK st.mem st.tm i.op=some (m,e)->o.wp P a w (λlv aV=>∃bR,iq n A eQ h1 lv ⟨put st.tm i.dst m,jI st.mem e⟩ aV bR) aU:=by
  intro Q
  have bc:np P kb own o.dst o.type o.op=some i.op:=getD_some oY (by
   intro ai;rw[ai] at Q
   cases Q)
  obtain⟨Hx,v,aV,bR,nO,hD,dq,aN⟩:=aeO h.ok.e0 h.xS bc Q;unfold Oper.wp;rw[nO,U.dst];have K3:=h.put dq aN U.lt;rcases hD with rfl|⟨rfl,rfl⟩
  ·exact⟨bR,K3⟩
  ·exact⟨bR,K3⟩
 cases AZ:i.op with
 |call f args =>
  have bc:np P kb own o.dst o.type o.op=some i.op:=getD_some oY (by rw[AZ];simp);rw[AZ] at bc Q;obtain⟨c,H,qu,rZ⟩:=aeT bc;have cg:=shut_list (Cz h.xS rZ);rw[pQ] at cg;simp only[kp] at Q
  split at Q
  ·rename_i r k4
   cases Q;obtain⟨q1,mX⟩:=dy f _ _ _ k4;have oe:=mX (cU A B) w (λ_=>none) _ (UW h.ok.e0) cg;unfold Oper.wp;rw[Pu H qu q1,U.dst];refine Calls.mono oe λe aV he=>?_;obtain⟨v,rfl,bC,ab⟩:=he;exact⟨B,h.put (.still h.ok.e0 bC) (.I (ab.less λb ai=>(K9 b).2 ai)) U.lt⟩
  ·rename_i sz es k4
   cases Q;obtain⟨q1,mX⟩:=dy f _ _ _ k4;have oe:=mX (cU A B) w (λ_=>none) _ (UW h.ok.e0) cg;unfold Oper.wp;rw[Pu H qu q1,U.dst];refine Calls.mono oe λe aV he=>?_;obtain⟨v,rfl,bC,ab⟩:=he;exact⟨B,h.put (.still h.ok.e0 bC) (.I ((ab.less λb ai=>(K9 b).2 ai).den λb ai=>ai.elim (λcv=>h.ok.e0.Cm cv) (h.ok.e0.lt b))) U.lt⟩
  ·cases Q
 |oX k sz f args =>
  have bc:np P kb own o.dst o.type o.op=some i.op:=getD_some oY (by rw[AZ];simp);rw[AZ] at bc Q;obtain⟨c,H,qu,rZ⟩:=aeU bc;have cg:=shut_list (Cz h.xS rZ);rw[pQ] at cg;simp only[kp] at Q
  split at Q
  ·rename_i eR es k4
   split at Q
   ·rename_i fy;subst fy
    cases Q;obtain⟨q1,mX⟩:=dy f _ _ _ k4;have oe:=mX (cU A B) w (λ_=>none) _ (UW h.ok.e0) cg;unfold Oper.wp;rw[Pu H qu q1,U.dst];refine Calls.mono oe λe aV he=>?_;obtain⟨v,rfl,bC,ab⟩:=he;obtain⟨bR,dq,aN⟩:=aeS k h.ok.e0 bC (ab.less λb ai=>(K9 b).2 ai);exact⟨bR,h.put dq aN U.lt⟩
   ·cases Q
  ·cases Q
 |nm cP f args =>
  have bc:np P kb own o.dst o.type o.op=some i.op:=getD_some oY (by rw[AZ];simp);rw[AZ] at bc Q;obtain⟨c,H,qu,rZ⟩:=ap8 bc;have cg:=Cz h.xS rZ;simp only[kp] at Q;obtain⟨r,k,g,aHO,cc,cs,k4,hm,rfl,rfl,aD⟩:=ae3 Q;obtain⟨q1,mX⟩:=dy f _ _ _ k4;have oe:=mX A w B _ h.ok.e0 cg;unfold Oper.wp;rw[Pu H qu q1,U.dst];refine Calls.mono oe λe aV he=>?_;obtain⟨v,bR,rfl,dq,aN⟩:=he;refine⟨bR,?_⟩;have nr:sI st.mem k=cs:=by simp only[sI,hm]
  rw[nr] at dq;exact h.put dq aN U.lt
 |nJ f args=>rw[AZ] at Q;cases Q
 |sF neg x=>rw[AZ] at Q;cases Q
 |_=>exact plain (by rw[AZ] at Q ⊢;exact Q)
theorem afq {α β:Type}{f:α->Option β}{xs:List α}{ys:List β}(h:xs.mapM f=some ys){i:Nat}{x:α}(M:xs[i]?=some x):∃y,ys[i]?=some y/\f x=some y:=by
 obtain⟨G,J⟩:=pG h;have av:i<D ys:=by rw[G];exact (eg.1 M).1
 exact⟨_,bB av,J i x _ M (bB av)⟩
theorem UX (dy:rY P T){kI:Nat->Nat->Bool}(bc:ops.toList.mapM (Ct P n kb own ops)=some l)(fF:∀st a w B,K st->iq n A eQ h1 a st w B->aU .normal a w):
  ∀(fuel:Nat) (fi:Array Bool) (rec:Rec) (st:bg) (a:Act) (w:World) (B:ft),iq n A eQ h1 a st w B->Hy T kI ops l K fuel fi rec st->wpAny P .any ops aU fuel fi a w
 |0,_,_,_,_,_,_,Q,h=>⟨h.1,fF _ _ _ _ h.2 Q⟩
 |fuel+1,fi,rec,st,a,w,B,Q,h=>by
  refine⟨λaj=>fF _ _ _ _ (h.1 aj) Q,λi U=>?_⟩;obtain⟨x,AX,er,M,hex,L⟩:=h.2 i U;obtain⟨_,o,bS,_⟩:=mem_ready.1 U;obtain⟨y,ao,UY⟩:=afq bc (i:=i) (x:=o) (by simpa using bS);rw[M] at ao
  cases ao;have zp:=aeV UY;unfold wpOp;simp only[bS];rcases hex with ⟨bq,rfl,rfl⟩|⟨bq,m,e,aqP,_,rfl,rfl⟩
  ·rw[UL Q zp.guard bq,ag (by simp)];exact UX dy bc fF fuel _ _ _ _ _ B (by rw[zp.dst];exact Q.put (.refl Q.ok.e0) .no zp.lt) L
  ·rw[UL Q zp.guard bq,ad rfl];refine .inl (Oper.wp_mono (λlv aV ⟨bR,jL⟩=>UX dy bc fF fuel _ _ _ _ _ bR jL L) (aqO dy Q zp aqP))
theorem iq.drew {a:Act}{st:bg}(h:iq n A eQ h1 a st w B)(d:Nat):iq n A eQ h1 a st { w with drawn:=d } B:=by
 have Q:fm A w B { w with drawn:=d } B st.mem:=.still h.ok.e0 ((Fr.refl _ _).drew d);exact⟨h.ok.trans Q,λs=>(h.tm s).tC Q.n8,h.sz,h.K1⟩
theorem aqQ (dy:rY P T)(hm:P.follows .mixedOrders=true){id:Nat}{a:Act}{st:bg}(bc:ops.toList.mapM (Ct P n kb own ops)=some l)(ab:Hh ops l=true)(Q:iq n A eQ h1 a st w B)
  (h:xJ T K 0 l (AJ [] l (rQ ops.toList [])) (λ_=>none) st) (fF:∀st a w B,K st->iq n A eQ h1 a st w B->aU .normal a w):(Code.region id ops true).wp P aU a w:=by
 refine wp_region_any hm ?_
 have az:(D l)=ops.size:=by
  rw[(pG bc).1,Array.length_toList]
 have La:=afp (aqI ab) az (by unfold Hh at ab;rw[gb] at ab;exact ab.1) l 0 (λ_=>none) st (Array.replicate ops.size false) rfl (by simp) (by simp) (λi U=>by simp[U]) (λ_ _=>rfl) h;rw[az] at La;exact UX dy bc fF ops.size _ _ _ _ _ B (Q.drew _) La
theorem UZ (dy:rY P T)(bc:ops.toList.mapM (Ct P n kb own ops)=some l)(fF:∀st a w B,K st->iq n A eQ h1 a st w B->aU .normal a w):
  ∀(r:List dp) (m:Nat) (st:bg) (a:Act) (w:World) (B:ft),l.drop m=r->iq n A eQ h1 a st w B->zb T K r st->wpOps P ops aU (List.range' m (D r)) a w
 | [],_,_,_,_,_,_,Q,h=>fF _ _ _ _ h Q
 |x::r,m,st,a,w,B,X,Q,h=>by
  have M:l[m]?=some x:=by
   have:(l.drop m)[0]?=some x:=by rw[X];rfl
   simpa using this
  have sN:l.drop (m+1)=r:=by rw[<-Hz,X];rfl
  have av:m<ops.size:=by
   have G:=(pG bc).1;have J:=(eg.1 M).1;simp at G;omega
  have bS:ops[m]?=some ops[m]:=Array.getElem?_eq_getElem av;obtain⟨y,ao,UY⟩:=afq bc (i:=m) (x:=ops[m]) (by simp);rw[M] at ao
  cases ao;have zp:=aeV UY;simp only[kB,List.range'_succ];rw[wpOps_cons];unfold wpOp;simp only[bS];simp only[zb] at h
  split at h
  ·cases h
  ·rename_i g bq;rw[UL Q zp.guard bq]
   cases g with
   |true =>
    simp only[if_true] at h ⊢;exact .inl (Oper.wp_mono (λlv aV ⟨er,bR,L,jL⟩=>UZ dy bc fF r (m+1) er lv aV bR sN jL L) (aqe dy Q zp h))
   |false =>
    simp only[kE,if_false] at h ⊢;exact UZ dy bc fF r (m+1) _ _ _ B sN (Q.put (.refl Q.ok.e0) .no zp.lt) (by rw[<-zp.dst];exact h)
end Go.Mini
namespace Go.Mini
open Go
variable {A:Nat->Prop} {w:World} {B:ft} {mem:Mem}
theorem afr {a0:Nat->Prop}{b off c sz len:Nat}{vs:Array Value}{T:TypeId}{ds:List Data}(aX:w.heap[b]?=some (.cells vs T (0,0)))(gi:¬ a0 b)(az:(D ds)=len*sz)(EC:len<=c)(hm:len<=maxLen)(O8:off+len*sz<=vs.size)
  (ab:∀(i:Nat) (d:Data) (v:Value),ds[i]?=some d->vs[off+i]?=some v->Den w a0 d v):Den w a0 (.Y (chunk sz len ds)) (.slice (some ⟨b,off,none⟩) len c):=by
 have eC:=Pb sz len ds
 have h:=Den.Y (w:=w) (a0:=a0) (es:=chunk sz len ds) (b:=b) (off:=off) (c:=c) (sz:=sz) (λi=>vs.getD (off+i) undef) (by rw[eC];exact EC) (by rw[eC];exact hm)
  (Array.getElem?_eq_some_iff.1 aX).1 gi (Pc sz len ds az)
  (λi U=>by
   rw[eC] at U;rw[cell_of_row w b (off+i) vs T (0,0) aX];have:off+i<vs.size:=by omega
   simp[this])
  (λi d gH=>by
   rw[Pf sz len ds az] at gH;have av:i<D ds:=(eg.1 gH).1;have ns:off+i<vs.size:=by omega
   have:vs.getD (off+i) undef=vs[off+i]:=by simp[ns]
   simp only[this];exact ab i d _ gH (Array.getElem?_eq_getElem ns))
 rw[eC] at h;exact h
theorem afs (cw:gk A w B mem){a0:Nat->Prop}(gi:∀b,a0 b->A b){k:Key}{e:nk}{b:Nat}(he:B k=some e)(ai:e.ek=some b):¬ a0 b :=
 λh=>cw.sep b (gi b h) ⟨k,e,he,ai⟩
theorem snap (cw:gk A w B mem){a0:Nat->Prop}(gi:∀b,a0 b->A b):∀(d:Nat) (m:R) (v:Value) (r:Data),dx d mem m=some r->bO w (cU A B) B m v->Den w a0 r v:=by
 have aft:∀(d:Data) (v:Value),bO w (cU A B) B (.I d) v->Den w a0 d v:=λd v h=>by
  cases h with
  |I h=>exact h.less λb ai => .inr (gi b ai)
 have Pv:∀v,bO w (cU A B) B .nil v->Den w a0 (.Y []) v:=λv h=>by
  cases h;exact .mU
 intro d
 induction d with
 |zero =>
  intro m v r h aN
  cases m<;>simp only[dx,cO,reduceCtorEq] at h
  ·subst h;exact aft _ _ aN
  ·subst h;exact Pv _ aN
 |succ d aH =>
  intro m v r h aN
  have lists:∀(cs:List R) (vs:List Value) (ds:List Data),cs.mapM (dx d mem)=some ds->(D vs)=(D cs)->(∀(i:Nat) (x:R) (u:Value),cs[i]?=some x->vs[i]?=some u->bO w (cU A B) B x u) ->
    (D vs)=D ds/\∀(i:Nat) (x:Data) (u:Value),ds[i]?=some x->vs[i]?=some u->Den w a0 x u:=by
   intro cs vs ds il az X;obtain⟨G,J⟩:=pG il;refine⟨by omega,λi x u M hu=>?_⟩
   have av:i<D cs:=by have:=(eg.1 M).1;omega
   have oc:=bB av;exact aH _ u x (J i _ x oc M) (X i _ u oc hu)
  cases m<;>simp only[dx,cO,e6,reduceCtorEq] at h
  case I=>subst h;exact aft _ _ aN
  case nil=>subst h;exact Pv _ aN
  case ref k g sz off len =>
   split at h
   ·rename_i ea cs L
    split at h
    ·rename_i bq;subst bq
     split at h
     ·rename_i part U0;simp only[e6] at h;obtain⟨ds,il,rfl⟩:=h;obtain⟨eC,rfl,j7⟩:=Hl U0;obtain⟨G,J⟩:=pG il
      cases aN with
      |ref he hgle X =>
       obtain⟨e,gY,b4,aM,ai⟩:=cw.at_ L;rw[gY] at he
       cases he;obtain⟨a,cap,rfl,af,aP,bh⟩:=X;rcases bh with bh|⟨b,rfl,bK⟩
       ·have:len=0:=by omega
        subst this;simp only[chunk];exact .mU
       ·obtain⟨bE,bP⟩:=bK b4.symm;obtain⟨vs,T,aX,a2,hle,cg⟩:=ai b bE;refine afr aX (afs cw gi gY bE) (by omega) af (by omega) (by omega) λi x u M hu=>?_;have av:i<D ds:=(eg.1 M).1;have ns:off+i<D cs:=by omega
        have oc:((cs.drop off).take (len*sz))[i]?=some cs[off+i]:=by
         rw[q4 (by omega),rU,bB ns]
        refine aH _ u x (J i _ x oc M) (cg.2 (off+i) _ u (bB ns) ?_);rw[q4 ns,Array.getElem?_toList];exact hu
     ·cases h
    ·cases h
   ·cases h
  case ptr k g off =>
   split at h
   ·rename_i ea cs L
    split at h
    ·rename_i bq;obtain⟨rfl,UB⟩:=bq;simp only[e6] at h;obtain⟨ds,il,rfl⟩:=h;obtain⟨G,J⟩:=pG il
     cases aN with
     |ptr he hgle X =>
      obtain⟨e,gY,b4,aM,ai⟩:=cw.at_ L;rw[gY] at he
      cases he;obtain⟨b,rfl,bK⟩:=X;have bE:=bK b4.symm;obtain⟨vs,T,aX,a2,hle,cg⟩:=ai b bE;rw[List.length_drop] at G;refine .ptr (λi=>vs.getD (off+i) undef) (Array.getElem?_eq_some_iff.1 aX).1 (afs cw gi gY bE) (λi U=>?_) λi x M=>?_
      ·rw[cell_of_row w b (off+i) vs T (0,0) aX];have:off+i<vs.size:=by omega
       simp[this]
      ·have av:i<D ds:=(eg.1 M).1;have ns:off+i<D cs:=by omega
       have Lb:off+i<vs.size:=by omega
       have oc:(cs.drop off)[i]?=some cs[off+i]:=by
        rw[rU,bB ns]
       have hu:vs.getD (off+i) undef=vs[off+i]:=by simp[Lb]
       rw[hu];refine aH _ _ x (J i _ x oc M) (cg.2 (off+i) _ _ (bB ns) ?_);rw[q4 ns,Array.getElem?_toList];exact Array.getElem?_eq_getElem Lb
    ·cases h
   ·cases h
  case gX f cs =>
   obtain⟨ds,il,rfl⟩:=h
   cases aN with
   |gX az ab=>obtain⟨G,J⟩:=lists _ _ _ il az ab;exact .fn G J
  case agg cs =>
   obtain⟨ds,il,rfl⟩:=h
   cases aN with
   |agg az ab=>obtain⟨G,J⟩:=lists _ _ _ il az ab;exact .agg G J
  case cB cs =>
   obtain⟨ds,il,rfl⟩:=h
   cases aN with
   |cB az ab=>obtain⟨G,J⟩:=lists _ _ _ il az ab;exact .cB G J
theorem bO.shift {a0 qk:Nat->Prop}{bR:ft}(gi:∀b,qk b->a0 b)(L:∀k e,B k=some e->∃e',bR k=some e'/\(e'=e\/e.g<e'.g)){m:R}{v:Value}(h:bO w a0 B m v):bO w qk bR m v:=by
 induction h with
 |I h=>exact .I (h.less gi)
 |nil=>exact .nil
 | @ref k g sz off len e v he bq aN =>
  obtain⟨e',gY,aX⟩:=L k e he;rcases aX with rfl|aX
  ·exact .ref gY bq aN
  ·exact .ref gY (by omega) (aN.Kq (by omega))
 | @ptr k g off e v he bq aN =>
  obtain⟨e',gY,aX⟩:=L k e he;rcases aX with rfl|aX
  ·exact .ptr gY bq aN
  ·exact .ptr gY (by omega) (aN.Kq (by omega))
 |gX az ab aH=>exact .gX az aH
 |agg az ab aH=>exact .agg az aH
 |cB az ab aH=>exact .cB az aH
 |no=>exact .no
 |undef=>exact .undef
theorem kill_shut (cw:gk A w B mem){k:Key}{g:Nat}{cs:List R}{e:nk}{b:Nat}(L:mem k=some (g,cs))(he:B k=some e)(ai:e.ek=some b):
  gk (λfK=>A fK\/fK=b) w (hN B k ⟨cA mem k,none,0⟩) (kill mem k)/\(∀m v,bO w (cU A B) B m v->bO w (cU (λfK=>A fK\/fK=b) (hN B k ⟨cA mem k,none,0⟩)) (hN B k ⟨cA mem k,none,0⟩) m v):=by
 have bq:=Hj cw k e he
 have gi:∀fK,cU (λfK=>A fK\/fK=b) (hN B k ⟨cA mem k,none,0⟩) fK->cU A B fK:=λfK h=>by
  rcases h with ⟨j,aA,ax,M⟩|h|rfl
  ·by_cases ga:j=k
   ·subst ga;rw[h7] at ax;cases ax;cases M
   ·rw[hZ B _ ga] at ax;exact .inl ⟨j,aA,ax,M⟩
  ·exact .inr h
  ·exact .inl ⟨k,e,he,ai⟩
 have aqR:∀j aA,B j=some aA->∃e',hN B k ⟨cA mem k,none,0⟩ j=some e'/\(e'=aA\/aA.g<e'.g):=λj aA ax=>by
  by_cases ga:j=k
  ·subst ga;rw[he] at ax
   cases ax;exact⟨_,h7 _ _ _,.inr bq⟩
  ·exact⟨aA,by rw[hZ B _ ga];exact ax,.inl rfl⟩
 have shift:∀m v,bO w (cU A B) B m v->bO w (cU (λfK=>A fK\/fK=b) (hN B k ⟨cA mem k,none,0⟩)) (hN B k ⟨cA mem k,none,0⟩) m v:=λm v h=>h.shift gi aqR;refine⟨⟨λj ax=>?_,λj n9 ay aA fK G J af aP=>?_,λfK a4 bS=>?_,λfK a4=>?_,λj ea rS ax=>?_⟩,shift⟩
 ·by_cases ga:j=k
  ·subst ga;simp[kill,a5] at ax
  ·rw[hZ B _ ga];simp only[kill,a5,ga,if_false] at ax;exact cw.Cl j ax
 ·by_cases ga:j=k
  ·subst ga;rw[h7] at G;cases G;cases af
  ·by_cases hjk':n9=k
   ·subst hjk';rw[h7] at J;cases J;cases aP
   ·rw[hZ B _ ga] at G;rw[hZ B _ hjk'] at J;exact cw.inj j n9 ay aA fK G J af aP
 ·obtain⟨j,aA,ax,M⟩:=bS
  by_cases ga:j=k
  ·subst ga;rw[h7] at ax;cases ax;cases M
  ·rw[hZ B _ ga] at ax;rcases a4 with a4|rfl
   ·exact cw.sep fK a4 ⟨j,aA,ax,M⟩
   ·exact ga (cw.inj j k aA e fK ax he M ai)
 ·rcases a4 with a4|rfl
  ·exact cw.lt fK a4
  ·exact cw.Cm ⟨k,e,he,ai⟩
 ·by_cases ga:j=k
  ·subst ga;simp only[kill,a5,if_true,cO,fJ] at ax;obtain⟨rfl,rfl⟩:=ax;exact⟨_,h7 _ _ _,rfl,λ_=>rfl,λfK nq=>by cases nq⟩
  ·simp only[kill,a5,ga,if_false] at ax;obtain⟨aA,G,J,af,aP⟩:=cw.ek j ea rS ax;refine⟨aA,by rw[hZ B _ ga];exact G,J,af,λfK nq=>?_⟩
   obtain⟨vs,T,bh,bK,bE,bP⟩:=aP fK nq;exact⟨vs,T,bh,bK,bE,λi m hm=>let ⟨v,aN,X⟩:=bP i m hm;⟨v,aN,shift m v X⟩⟩
end Go.Mini
namespace Go.Mini
open Go
variable {P:Program} {T:bm} {A:Nat->Prop} {eQ w:World} {h1 B:ft} {mem:Mem} {n kb:Nat} {own:List Nat} {aU:Exit->Act->World->Prop}
theorem Pw {k:Key}{g sz off len:Nat}{cs:List R}{d:Data}{v:Value}(cw:gk A w B mem)(L:mem k=some (g,cs))(ab:dx 1 mem (.ref k g sz off len)=some d)(aN:bO w (cU A B) B (.ref k g sz off len) v):
  Den w (cU A (hN B k ⟨cA mem k,none,0⟩)) d v:=by
 have gi:∀b,cU A (hN B k ⟨cA mem k,none,0⟩) b->cU A B b:=λb h=>h.imp (fun⟨j,e,ax,M⟩=>by
  by_cases ga:j=k
  ·subst ga;rw[h7] at ax;cases ax;cases M
  ·rw[hZ B _ ga] at ax;exact⟨j,e,ax,M⟩) id
 simp only[dx,L,if_true] at ab
 split at ab
 ·rename_i part U0;simp only[e6] at ab;obtain⟨ds,il,rfl⟩:=ab;obtain⟨eC,rfl,j7⟩:=Hl U0;obtain⟨G,J⟩:=pG il
  cases aN with
  |ref he hgle X =>
   obtain⟨e,gY,b4,aM,ai⟩:=cw.at_ L;rw[gY] at he;obtain rfl:=pL he;obtain⟨a,cap,rfl,af,aP,bh⟩:=X;rcases bh with bh|⟨b,rfl,bK⟩
   ·have:len=0:=by omega
    subst this;simp only[chunk];exact .mU
   ·obtain⟨bE,bP⟩:=bK b4.symm;obtain⟨vs,T,aX,a2,hle,cg⟩:=ai b bE
    have aqS:¬ cU A (hN B k ⟨cA mem k,none,0⟩) b:=by
     rintro (⟨j,aA,ax,M⟩|a4)
     ·by_cases ga:j=k
      ·subst ga;rw[h7] at ax;cases ax;cases M
      ·rw[hZ B _ ga] at ax;exact ga (cw.inj j k aA _ b ax gY M bE)
     ·exact cw.sep b a4 ⟨k,_,gY,bE⟩
    refine afr aX aqS (by omega) af (by omega) (by omega) λi x u M hu=>?_;have av:i<D ds:=(eg.1 M).1;have ns:off+i<D cs:=by omega
    have oc:((cs.drop off).take (len*sz))[i]?=some cs[off+i]:=by
     rw[q4 (by omega),rU,bB ns]
    have wz:=J i _ x oc M
    have tK:bO w (cU A B) B cs[off+i] u:=cg.2 (off+i) _ u (bB ns) (by
     rw[q4 ns,Array.getElem?_toList];exact hu)
    generalize cs[off+i]=m at *
    cases m<;>simp only[dx,cO,reduceCtorEq] at wz
    ·subst wz
     cases tK with
     |I h=>exact h.less gi
    ·subst wz
     cases tK;exact .mU
 ·cases ab
theorem afu {k:Key}{a0 qk:Nat->Prop}{bR:ft}{v:Value}{sz:Nat}{e:nk}(he:B k=some e)(aN:bO w a0 bR .nil v):bO w qk B (.ref k e.g sz 0 0) v:=by
 cases aN;exact .ref he (cI _) ⟨_,0,rfl,cI _,fA _,.inl rfl⟩
theorem ED {k:Key}{g i:Nat}{cs:List R}{m m':R}{w1:World}(cw:gk A w B mem)(L:mem k=some (g,cs))(U:cs[i]?=some m)
  (aN:∀e b v,B k=some e->e.ek=some b->w.cell? ⟨b,i,none⟩=some v->bO w (cU A B) B m' v):∃bR,fm A w B w bR (a5 mem k g (cs.set i m')):=by
 obtain⟨e,he,b4,aM,ai⟩:=cw.at_ L
 have ok:=fm.change (k:=k) (e':=e) (cs:=cs.set i m') cw (Fr.refl _ w) (λaA fH => .inl (by rw[he] at fH;cases fH;rfl)) (λb e1 => .inr ⟨e,he,e1⟩) (λh=>by
  have:=aM h;subst this
  rfl) (λb e1=>by
  obtain⟨vs,T,aX,a2,hle,cg⟩:=ai b e1;refine⟨vs,T,aX,a2,by simpa using hle,λj x M=>?_⟩
  by_cases nu:i=j
  ·subst nu;have av:i<D cs:=(eg.1 U).1;rw[List.getElem?_set_self av] at M
   cases M;have rV:i<vs.size:=by omega
   exact⟨vs[i],Array.getElem?_eq_getElem rV,aN e b _ he e1 (by rw[cell_of_row w b i vs T (0,0) aX];exact Array.getElem?_eq_getElem rV)⟩
  ·rw[List.getElem?_set_ne nu] at M;obtain⟨v,Lc,X⟩:=cg.get M;refine⟨v,?_,X⟩;have av:j<D cs:=(eg.1 M).1;rw[q4 av,Array.getElem?_toList] at Lc;exact Lc)
 rw[b4] at ok;exact⟨_,ok⟩
theorem fm.move {k k':Key}{g:Nat}{cs:List R}{e:nk}(h:gk A w B mem)(L:mem k=some (g,cs))(he:B k=some e)(b5:k'≠k):
  fm A w B w (hN (hN B k ⟨cA mem k,none,0⟩) k' ⟨cA mem k',e.ek,e.size⟩) (a5 (a5 mem k (cA mem k) []) k' (cA mem k') cs):=by
 have kG:∀b,tD (hN (hN B k ⟨cA mem k,none,0⟩) k' ⟨cA mem k',e.ek,e.size⟩) b->tD B b:=by
  rintro b ⟨j,aA,ax,ai⟩
  by_cases G:j=k'
  ·subst G;rw[h7] at ax
   cases ax;exact⟨k,e,he,ai⟩
  ·rw[hZ _ _ G] at ax
   by_cases J:j=k
   ·subst J;rw[h7] at ax
    cases ax
    cases ai
   ·rw[hZ _ _ J] at ax;exact⟨j,aA,ax,ai⟩
 have n8:Trans A w B w (hN (hN B k ⟨cA mem k,none,0⟩) k' ⟨cA mem k',e.ek,e.size⟩):=by
  refine⟨cI _,λb _ ai=>⟨rfl,λbS=>ai (.inl (kG b bS))⟩,λj aA ax=>?_⟩
  by_cases G:j=k'
  ·subst G;exact⟨_,h7 _ _ _,.inr (Hj h j aA ax)⟩
  ·rw[hZ _ _ G]
   by_cases J:j=k
   ·subst J;exact⟨_,h7 _ _ _,.inr (Hj h j aA ax)⟩
   ·rw[hZ _ _ J];exact⟨aA,ax,.inl rfl⟩
 refine⟨⟨λj ax=>?_,λj n9 ay aA b G J k5 e1=>?_,λb a4 bS=>h.sep b a4 (kG b bS),h.lt,λj dC u1 ax=>?_⟩,n8,Fr.refl _ _,λb ai => .inl (kG b ai)⟩
 ·simp only[a5] at ax
  by_cases G:j=k'
  ·simp[G] at ax
  ·by_cases J:j=k
   ·rw[ag G,ad J] at ax
    cases ax
   ·simp only[G,J,if_false] at ax;rw[hZ _ _ G,hZ _ _ J];exact h.Cl j ax
 ·have main:∀(j:Key) (ay:nk),hN (hN B k ⟨cA mem k,none,0⟩) k' ⟨cA mem k',e.ek,e.size⟩ j=some ay->ay.ek=some b->(j=k'/\e.ek=some b)\/(j≠k'/\j≠k/\B j=some ay):=by
   intro j ay ax ai
   by_cases G:j=k'
   ·subst G;rw[h7] at ax
    cases ax;exact .inl ⟨rfl,ai⟩
   ·rw[hZ _ _ G] at ax
    by_cases J:j=k
    ·subst J;rw[h7] at ax
     cases ax
     cases ai
    ·rw[hZ _ _ J] at ax;exact .inr ⟨G,J,ax⟩
  rcases main j ay G k5 with ⟨eS,jz⟩|⟨eS,s1,jz⟩<;>rcases main n9 aA J e1 with ⟨eO,kJ⟩|⟨eO,s2,kJ⟩
  ·rw[eS,eO]
  ·exact absurd (h.inj k n9 e aA b he kJ jz e1).symm s2
  ·exact absurd (h.inj k j e ay b he jz kJ k5).symm s1
  ·exact h.inj j n9 ay aA b jz kJ k5 e1
 ·simp only[a5] at ax
  by_cases G:j=k'
  ·subst G;simp only[if_true,cO,fJ] at ax;obtain⟨rfl,rfl⟩:=ax;obtain⟨bu,Ld,bq,aM,ai⟩:=h.ek k g cs L;rw[he] at Ld
   cases Ld;refine⟨_,h7 _ _ _,rfl,aM,λb lu=>?_⟩;obtain⟨vs,T,af,aP,bh,bK⟩:=ai b lu;exact⟨vs,T,af,aP,bh,λi m U=>let ⟨v,aN,X⟩:=bK i m U;⟨v,aN,X.tC n8⟩⟩
  ·simp only[G,if_false] at ax;rw[hZ _ _ G]
   by_cases J:j=k
   ·subst J;simp only[if_true,cO,fJ] at ax;obtain⟨rfl,rfl⟩:=ax;exact⟨_,h7 _ _ _,rfl,λ_=>rfl,λb ai=>by cases ai⟩
   ·simp only[J,if_false] at ax;rw[hZ _ _ J];obtain⟨bu,Ld,bq,aM,ai⟩:=h.ek j dC u1 ax;refine⟨bu,Ld,bq,aM,λb lu=>?_⟩;obtain⟨vs,T,af,aP,bh,bK⟩:=ai b lu;exact⟨vs,T,af,aP,bh,λi m U=>let ⟨v,aN,X⟩:=bK i m U;⟨v,aN,X.tC n8⟩⟩
theorem iq.ghost {a:Act}{st:bg}{bR:ft}{mem':Mem}{tm':Nat->R}(h:iq n A eQ h1 a st w B)(Q:fm A w B w bR mem')(cm:∀s,tm' s=st.tm s\/bO w (cU A bR) bR (tm' s) (a.eval (.tmp s))):
  iq n A eQ h1 a ⟨tm',mem'⟩ w bR:=by
 refine⟨h.ok.trans Q,λs=>?_,h.sz,h.K1⟩;rcases cm s with G|G
 ·simp only[G];exact (h.tm s).tC Q.n8
 ·exact G
theorem aqT {K:bg->Prop}{a:Act}{st:bg}{g:OW}(h:iq n A eQ h1 a st w B)(L:k1 K st g):∃er bR,K er/\iq n A eQ h1 a er w bR:=by
 have pM:∀x:cd,∃v,bO w (cU A B) B (br st.tm x) v\/∃m,x=.c m:=λx=>by
  cases x with
  |t s=>exact⟨_,.inl (h.tm s)⟩
  |c m=>exact⟨undef,.inr ⟨m,rfl⟩⟩
 cases g with
 |nn s k sz =>
  simp only[k1] at L
  split at L
  ·rename_i Q;have ok:=fm.AK h.ok.e0 k;refine⟨_,_,L,h.ghost ok λt=>?_⟩
   by_cases u2:t=s
   ·subst u2;have:=h.tm t;rw[Q] at this;simp only[dW,if_true];exact .inr (afu (e:=⟨cA st.mem k,none,0⟩) (h7 _ _ _) this)
   ·exact .inl (by simp[dW,u2])
  ·cases L
 |freeze s =>
  simp only[k1] at L
  split at L
  ·rename_i k g sz off len Q
   split at L
   ·rename_i ea cs ia
    split at L
    ·rename_i bq;obtain⟨rfl,_⟩:=bq
     split at L
     ·rename_i d ab;have ok:=fm.AK h.ok.e0 k;refine⟨_,_,L,h.ghost ok λt=>?_⟩
      by_cases u2:t=s
      ·subst u2;have aN:=h.tm t;rw[Q] at aN ab;simp only[dW,if_true];exact .inr (.I (Pw h.ok.e0 ia ab aN))
      ·exact .inl (by simp[dW,u2])
     ·cases L
    ·cases L
   ·cases L
  ·cases L
 |Cn x i k sz =>
  simp only[k1] at L
  split at L
  ·rename_i kc g off M
   split at L
   ·rename_i ea cs ia
    split at L
    ·rename_i bq;subst bq
     split at L
     ·rename_i H
      split at L
      ·rename_i b5;have ok:=fm.AK h.ok.e0 k;have u3:a5 st.mem k (cA st.mem k) [] kc=some (ea,cs):=by simp[a5,Ne.symm b5,ia]
       obtain⟨e,he,b4,aM,ai⟩:=h.ok.e0.at_ ia
       obtain⟨bR,u4⟩:=ED (w1:=w) (m':=.ref k (cA st.mem k) sz 0 0) ok.e0 u3 H (λaA b v fH e1 aN=>by
        rw[hZ B _ (Ne.symm b5)] at fH;rw[he] at fH
        cases fH;obtain⟨vs,T,aX,a2,hle,cg⟩:=ai b e1;have av:off+i<D cs:=(eg.1 H).1;rw[cell_of_row w b (off+i) vs T (0,0) aX] at aN;have X:=cg.2 (off+i) _ v H (by rw[q4 av,Array.getElem?_toList];exact aN);exact afu (e:=⟨cA st.mem k,none,0⟩) (h7 _ _ _) X)
       exact⟨_,bR,L,h.ghost (ok.trans u4) λt => .inl rfl⟩
      ·cases L
     ·cases L
    ·cases L
   ·cases L
  ·cases L
 |Eh x i =>
  simp only[k1] at L
  split at L
  ·rename_i kc gc off M
   split at L
   ·rename_i KN cc afv
    split at L
    ·rename_i bq;subst bq
     split at L
     ·rename_i k g sz o len H
      split at L
      ·rename_i ea cs ia
       split at L
       ·rename_i bq;obtain⟨rfl,_,b5⟩:=bq
        split at L
        ·rename_i d ab;have ok:=fm.AK h.ok.e0 k;have u3:a5 st.mem k (cA st.mem k) [] kc=some (KN,cc):=by simp[a5,Ne.symm b5,afv]
         obtain⟨e,he,b4,aM,ai⟩:=h.ok.e0.at_ afv
         obtain⟨bR,u4⟩:=ED (w1:=w) (m':=.I d) ok.e0 u3 H (λaA b v fH e1 aN=>by
          rw[hZ B _ (Ne.symm b5)] at fH;rw[he] at fH
          cases fH;obtain⟨vs,T,aX,a2,hle,cg⟩:=ai b e1;have av:off+i<D cc:=(eg.1 H).1;rw[cell_of_row w b (off+i) vs T (0,0) aX] at aN;have X:=cg.2 (off+i) _ v H (by rw[q4 av,Array.getElem?_toList];exact aN);exact .I (Pw h.ok.e0 ia ab X))
         exact⟨_,bR,L,h.ghost (ok.trans u4) λt => .inl rfl⟩
        ·cases L
       ·cases L
      ·cases L
     ·cases L
    ·cases L
   ·cases L
  ·cases L
 |move =>
  rcases L with L|⟨fI,gB,gC,i,k,g,sz,off,len,cs,k',ho,H,o1,G,J,af,L⟩|⟨fI,gB,gC,i,k,g,sz,off,len,cs,d,ho,H,ia,-,b5,ab,L⟩
  ·exact⟨st,B,L,h⟩
  ·obtain⟨e,he,b4,aM,ai⟩:=h.ok.e0.at_ o1;have ok:=fm.move h.ok.e0 o1 he J;have u3:a5 (a5 st.mem k (cA st.mem k) []) k' (cA st.mem k') cs fI=some (gB,gC):=by simp[a5,Ne.symm G,Ne.symm af,ho]
   obtain⟨ex,hex,Le,hD,Lf⟩:=h.ok.e0.at_ ho
   obtain⟨bR,u4⟩:=ED (w1:=w) (m':=.ref k' (cA st.mem k') sz off len) ok.e0 u3 H (λaA b v fH e1 aN=>by
    rw[hZ _ _ (Ne.symm af),hZ _ _ (Ne.symm G)] at fH;rw[hex] at fH
    cases fH;obtain⟨vs,T,aX,a2,hle,cg⟩:=Lf b e1;have av:i<D gC:=(eg.1 H).1;rw[cell_of_row w b i vs T (0,0) aX] at aN;have X:=cg.2 i _ v H (by rw[q4 av,Array.getElem?_toList];exact aN)
    cases X with
    |ref fH hgle X =>
     rw[he] at fH
     cases fH;obtain⟨a,cap,rfl,aP,bh,bK⟩:=X;refine .ref (h7 _ _ _) (cI _) ⟨a,cap,rfl,aP,bh,bK.imp id ?_⟩;rintro⟨fK,rfl,bE⟩;exact⟨fK,rfl,λ_=>bE b4.symm⟩)
   exact⟨_,bR,L,h.ghost (ok.trans u4) λt => .inl rfl⟩
  ·have ok:=fm.AK h.ok.e0 k;have u3:a5 st.mem k (cA st.mem k) [] fI=some (gB,gC):=by simp[a5,Ne.symm b5,ho]
   obtain⟨e,he,b4,aM,ai⟩:=h.ok.e0.at_ ho
   obtain⟨bR,u4⟩:=ED (w1:=w) (m':=.I d) ok.e0 u3 H (λaA b v fH e1 aN=>by
    rw[hZ B _ (Ne.symm b5)] at fH;rw[he] at fH
    cases fH;obtain⟨vs,T,aX,a2,hle,cg⟩:=ai b e1;have av:i<D gC:=(eg.1 H).1;rw[cell_of_row w b i vs T (0,0) aX] at aN;have X:=cg.2 i _ v H (by rw[q4 av,Array.getElem?_toList];exact aN);exact .I (Pw h.ok.e0 ia ab X))
   exact⟨_,bR,L,h.ghost (ok.trans u4) λt => .inl rfl⟩
 |many =>
  obtain⟨mem',U1,L⟩:=L
  have main:∀{kK ef:Mem},uS kK ef->∀B,iq n A eQ h1 a ⟨st.tm,kK⟩ w B->∃bR,iq n A eQ h1 a ⟨st.tm,ef⟩ w bR:=by
   intro kK ef U1
   induction U1 with
   |refl mem=>exact λB h=>⟨B,h⟩
   | @step kK ef bX Q _ aH =>
    intro B h
    have one:∃bR,iq n A eQ h1 a ⟨st.tm,ef⟩ w bR:=by
     cases Q with
     |O1 fI gB gC i k g sz off len cs k' ho H o1 G J af =>
      obtain⟨e,he,b4,aM,ai⟩:=h.ok.e0.at_ o1;have ok:=fm.move h.ok.e0 o1 he J;have u3:a5 (a5 kK k (cA kK k) []) k' (cA kK k') cs fI=some (gB,gC):=by simp[a5,Ne.symm G,Ne.symm af,ho]
      obtain⟨ex,hex,Le,hD,Lf⟩:=h.ok.e0.at_ ho
      obtain⟨bR,u4⟩:=ED (w1:=w) (m':=.ref k' (cA kK k') sz off len) ok.e0 u3 H (λaA b v fH e1 aN=>by
       rw[hZ _ _ (Ne.symm af),hZ _ _ (Ne.symm G)] at fH;rw[hex] at fH
       cases fH;obtain⟨vs,T,aX,a2,hle,cg⟩:=Lf b e1;have av:i<D gC:=(eg.1 H).1;rw[cell_of_row w b i vs T (0,0) aX] at aN;have X:=cg.2 i _ v H (by rw[q4 av,Array.getElem?_toList];exact aN)
       cases X with
       |ref fH hgle X =>
        rw[he] at fH
        cases fH;obtain⟨a,cap,rfl,aP,bh,bK⟩:=X;refine .ref (h7 _ _ _) (cI _) ⟨a,cap,rfl,aP,bh,bK.imp id ?_⟩;rintro⟨fK,rfl,bE⟩;exact⟨fK,rfl,λ_=>bE b4.symm⟩)
      exact⟨bR,h.ghost (ok.trans u4) λt => .inl rfl⟩
     |ad8 fI gB gC i k g off cs k' ho H o1 G J af =>
      obtain⟨e,he,b4,aM,ai⟩:=h.ok.e0.at_ o1;have ok:=fm.move h.ok.e0 o1 he J;have u3:a5 (a5 kK k (cA kK k) []) k' (cA kK k') cs fI=some (gB,gC):=by simp[a5,Ne.symm G,Ne.symm af,ho]
      obtain⟨ex,hex,Le,hD,Lf⟩:=h.ok.e0.at_ ho
      obtain⟨bR,u4⟩:=ED (w1:=w) (m':=.ptr k' (cA kK k') off) ok.e0 u3 H (λaA b v fH e1 aN=>by
       rw[hZ _ _ (Ne.symm af),hZ _ _ (Ne.symm G)] at fH;rw[hex] at fH
       cases fH;obtain⟨vs,T,aX,a2,hle,cg⟩:=Lf b e1;have av:i<D gC:=(eg.1 H).1;rw[cell_of_row w b i vs T (0,0) aX] at aN;have X:=cg.2 i _ v H (by rw[q4 av,Array.getElem?_toList];exact aN)
       cases X with
       |ptr fH hgle X =>
        rw[he] at fH
        cases fH;obtain⟨fK,rfl,bE⟩:=X;exact .ptr (h7 _ _ _) (cI _) ⟨fK,rfl,λ_=>bE b4.symm⟩)
      exact⟨bR,h.ghost (ok.trans u4) λt => .inl rfl⟩
     |O2 fI gB gC i k g sz off len cs d ho H ia b5 ab =>
      have ok:=fm.AK h.ok.e0 k;have u3:a5 kK k (cA kK k) [] fI=some (gB,gC):=by simp[a5,Ne.symm b5,ho]
      obtain⟨e,he,b4,aM,ai⟩:=h.ok.e0.at_ ho
      obtain⟨bR,u4⟩:=ED (w1:=w) (m':=.I d) ok.e0 u3 H (λaA b v fH e1 aN=>by
       rw[hZ B _ (Ne.symm b5)] at fH;rw[he] at fH
       cases fH;obtain⟨vs,T,aX,a2,hle,cg⟩:=ai b e1;have av:i<D gC:=(eg.1 H).1;rw[cell_of_row w b i vs T (0,0) aX] at aN;have X:=cg.2 i _ v H (by rw[q4 av,Array.getElem?_toList];exact aN);exact .I (Pw h.ok.e0 ia ab X))
      exact⟨bR,h.ghost (ok.trans u4) λt => .inl rfl⟩
    obtain⟨bR,cv⟩:=one;exact aH bR cv
  obtain⟨bR,cv⟩:=main U1 B h;exact⟨_,bR,L,cv⟩
def erase:ep->ep
 |.skip => .skip
 |.ops l => .ops l
 |.my l c => .my l c
 |.seq a b => .seq (erase a) (erase b)
 |.cond c a b => .cond c (erase a) (erase b)
 |.block id c => .block id (erase c)
 |.loop c => .loop (erase c)
 |.exit id => .exit id
 |.ret => .ret
 |.ghost _ c=>erase c
def afw:eF->Exit
 |.normal => .normal
 |.exit id => .exit id
 |.ret => .ret
def aqU (P:Program)(n kb:Nat)(own:List Nat)(c:Code):ep->Prop
 |.skip=>c=.skip
 |.ops l=>∃id ops,c=.region id ops false/\ops.toList.mapM (Ct P n kb own ops)=some l
 |.my l ch=>∃id ops,c=.region id ops true/\ops.toList.mapM (Ct P n kb own ops)=some l/\Hh ops l=true/\ch=AJ [] l (rQ ops.toList [])
 |.seq x y=>∃a b,c=.seq a b/\rR P n kb own a=some x/\rR P n kb own b=some y
 |.cond x y z=>∃ks a b,c=.cond ks a b/\eB ks=some x/\rR P n kb own a=some y/\rR P n kb own b=some z
 |.block id x=>∃a,c=.block id a/\rR P n kb own a=some x
 |.loop x=>∃a,c=.loop a/\rR P n kb own a=some x
 |.exit id=>c=.exit id
 |.ret=>c=.ret
 |.ghost ..=>False
theorem A0 {c:Code}{m:ep}(h:rR P n kb own c=some m):aqU P n kb own c m:=by
 cases c<;>simp only[rR,cO,reduceCtorEq,e6] at h
 case skip=>subst h;rfl
 case region id ops draw =>
  split at h
  ·rename_i l az
   split at h
   ·rename_i ab;subst ab
    split at h
    ·rename_i cR
     cases h;exact⟨id,ops,rfl,az,cR,rfl⟩
    ·cases h
   ·rename_i ab
    cases h;exact⟨id,ops,by rw[Bool.not_eq_true] at ab;rw[ab],az⟩
  ·cases h
 case seq a b =>
  split at h
  ·rename_i x y M ao
   cases h;exact⟨a,b,rfl,M,ao⟩
  ·cases h
 case cond x a b =>
  split at h
  ·rename_i ks y z M ao a2
   cases h;exact⟨x,a,b,rfl,M,ao,a2⟩
  ·cases h
 case block id a =>
  obtain⟨x,M,rfl⟩:=h;exact⟨a,rfl,M⟩
 case loop a =>
  obtain⟨x,M,rfl⟩:=h;exact⟨a,rfl,M⟩
 case exit id=>subst h;rfl
 case ret=>subst h;rfl
theorem CG (dy:rY P T)(hm:P.follows .mixedOrders=true):∀(Px:ep) (c:Code) (K:eF->bg->Prop) (aU:Exit->Act->World->Prop) (st:bg) (a:Act) (w:World) (B:ft),
  rR P n kb own c=some (erase Px)->iq n A eQ h1 a st w B->wp T Px K st->(∀e st a w B,K e st->iq n A eQ h1 a st w B->aU (afw e) a w)->c.wp P aU a w
 |.ghost g Px,c,K,aU,st,a,w,B,bc,Q,h,fF=>by
  obtain⟨er,bR,L,jL⟩:=aqT Q h;exact CG dy hm Px c K aU er a w bR bc jL L fF
 |.skip,c,K,aU,st,a,w,B,bc,Q,h,fF=>by
  obtain rfl:=A0 bc;exact Go.wp_skip (fF .normal st a w B h Q)
 |.exit id,c,K,aU,st,a,w,B,bc,Q,h,fF=>by
  obtain rfl:=A0 bc;exact Go.wp_exit (fF (.exit id) st a w B h Q)
 |.ret,c,K,aU,st,a,w,B,bc,Q,h,fF=>by
  obtain rfl:=A0 bc;exact Go.wp_ret (fF .ret st a w B h Q)
 |.ops l,c,K,aU,st,a,w,B,bc,Q,h,fF=>by
  obtain⟨id,ops,rfl,az⟩:=A0 bc;have:=UZ (aU:=aU) (K:=K .normal) dy az (λst a w B L Q=>fF .normal st a w B L Q) l 0 st a w B rfl Q h;refine Go.wp_region ?_;rw[(pG az).1,Array.length_toList] at this;rw[List.range_eq_range'];exact this
 |.my l ch,c,K,aU,st,a,w,B,bc,Q,h,fF=>by
  obtain⟨id,ops,rfl,az,ab,rfl⟩:=A0 bc;exact aqQ dy hm az ab Q h λst a w B L Q=>fF .normal st a w B L Q
 |.seq x y,c,K,aU,st,a,w,B,bc,Q,h,fF=>by
  obtain⟨ks,y',rfl,M,ao⟩:=A0 bc;refine Go.wp_seq (CG dy hm x ks _ _ st a w B M Q h λe er lv aV bR L jL=>?_)
  cases e with
  |normal=>exact CG dy hm y y' _ _ er lv aV bR ao jL L fF
  |exit id=>exact fF (.exit id) er lv aV bR L jL
  |ret=>exact fF .ret er lv aV bR L jL
 |.cond x y z,c,K,aU,st,a,w,B,bc,Q,h,fF=>by
  obtain⟨ks,y',aqV,rfl,M,ao,a2⟩:=A0 bc;have aN:=Q.xS ks x M;simp only[wp] at h
  split at h
  ·rename_i t cm;rw[cm] at aN;refine Go.wp_cond aN.Em ?_
   cases t with
   |true=>exact CG dy hm y y' _ _ st a w B ao Q h fF
   |false=>exact CG dy hm z aqV _ _ st a w B a2 Q h fF
  ·cases h
 |.block id x,c,K,aU,st,a,w,B,bc,Q,h,fF=>by
  obtain⟨ks,rfl,M⟩:=A0 bc;refine Go.wp_block (CG dy hm x ks _ _ st a w B M Q h λe er lv aV bR L jL=>?_)
  cases e with
  |normal=>exact fF .normal er lv aV bR L jL
  |exit j =>
   simp only[afw,Exit.inBlock];simp only at L
   split
   ·rename_i ax;rw[ad ax] at L;exact fF .normal er lv aV bR L jL
   ·rename_i ax;rw[ag ax] at L;exact fF (.exit j) er lv aV bR L jL
  |ret=>exact fF .ret er lv aV bR L jL
 |.loop x,c,K,aU,st,a,w,B,bc,Q,h,fF=>by
  obtain⟨ks,rfl,M⟩:=A0 bc;obtain⟨Ek,μ,Lg,Py⟩:=h
  have key:∀m (st:bg) (a:Act) (w:World) (B:ft),μ st<m->Ek st->iq n A eQ h1 a st w B->Code.rounds P ks aU m a w:=by
   intro m
   induction m with
   |zero=>intro st a w B AY;omega
   |succ m aH =>
    intro st a w B AY Lg Q;refine CG dy hm x ks _ _ st a w B M Q (Py st Lg) λe er lv aV bR L jL=>?_
    cases e with
    |normal=>exact aH er lv aV bR (by have:=L.2;omega) L.1 jL
    |exit id=>exact fF (.exit id) er lv aV bR L jL
    |ret=>exact fF .ret er lv aV bR L jL
  exact wp_loop_rounds (μ st+1) (key _ st a w B (Nat.lt_succ_self _) Lg Q)
end Go.Mini
