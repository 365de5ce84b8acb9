/- A part of the proof. -/
import Derived.Test.YtgpioapepokkbaaGreatM04
set_option linter.unusedSimpArgs false
set_option linter.unusedVariables false
set_option maxRecDepth 100000
set_option maxHeartbeats 4000000
noncomputable section
open Bool renaming and_eq_true->e9,and_false->iZ,eq_iff_iff->B7,false_and->fB,not_eq_true'->uf,not_false->du,not_true->cP,or_eq_true->x5,or_false->l3,or_true->vj,true_and->g1
open Classical renaming byContradiction->mg,choose->tF,choose_spec->ph
open Decidable renaming em->dv
open Int renaming add_zero->wY,le_refl->Q3,natAbs_natCast->mR,sign_neg_iff->ajL,toNat_natCast->lH
open List renaming any_eq_false->xj,append_assoc->gM,append_inj->Gt,append_nil->fG,cons_append->j1,drop->fX,drop_append->oN,drop_append_of_le_length->akf,drop_eq_nil_of_le->jV,drop_succ_cons->CN,ext_getElem?->pM,filter_append->rV,filter_cons->aat,filter_cons_of_neg->xq,filter_cons_of_pos->v7,filter_eq_nil_iff->HZ,filter_nil->qa,flatMap_append->yP,flatMap_cons->qB,flatMap_def->yQ,flatMap_eq_nil_iff->ajq,flatMap_nil->CJ,flatten_cons->jP,getD_eq_getElem?_getD->dZ,getElem?_append_left->qq,getElem?_append_right->ri,getElem?_cons_succ->IB,getElem?_eq_getElem->bu,getElem?_eq_none->mx,getElem?_eq_some_iff->dP,getElem?_map->bh,getElem?_range->tn,getElem?_replicate->aj2,getElem?_set->nC,getElem_mem->np,length->D,length_append->fQ,length_cons->h8,length_drop->ry,length_filter_le->om,length_map->ai,length_range->sn,length_replicate->An,length_set->iY,length_take->gC,map->yH,map_append->kT,map_congr_left->m3,map_cons->eC,map_map->m4,map_nil->cS,map_replicate->HB,map_set->Ag,mem_cons->hP,mem_cons_of_mem->hf,mem_cons_self->gF,mem_filter->sY,mem_flatMap->x3,mem_map->dV,mem_map_of_mem->p9,mem_of_getElem?->eg,mem_range->g2,nil_append->jv,range->dU,range_add->akR,range_succ->oo,replicate->dD,set_append_left->alr,set_append_right->EB,set_cons_succ->Hr,set_cons_zero->rN,set_eq_take_append_cons_drop->MN,take->fM,take_add_one->hk,take_append_drop->tG,take_append_of_le_length->Cr,take_length->lK,take_of_length_le->dx,take_zero->mH
open List.cons renaming inj->wU,injEq->a6
open Nat renaming add_comm->zb,le_refl->bX,le_trans->eQ,lt_of_le_of_lt->vB,lt_or_ge->ir,lt_trichotomy->ajf,mul_comm->rz,mul_le_mul->o1,mul_one->cD,mul_pos->Mi,one_le_two_pow->Z4,pow_add->vZ,pow_le_pow_right->wZ,reduceEqDiff->dW,succ_mul->tp,zero_le->fs
open Option renaming bind_some->la,map_eq_some_iff->dY
open Option.some renaming inj->pN,injEq->cm
open Prod renaming ext->dQ,ext_iff->ye
open Prod.mk renaming injEq->fo
open Rat renaming add_zero->p5,den_intCast->ajV,divInt_eq_div->Ml,intCast_add->uz,intCast_mul->p7,intCast_natCast->oi,intCast_sub->CA,le_refl->gi,le_trans->vY,lt_iff->Z7,mul_comm->uE,mul_zero->nF,natCast_mul->ZQ,num_intCast->ajU,zero_add->As
namespace Go.Mini
open Classical
def fg (bd:Nat)(x:Rat):Prop:=∃z:Int,x*(bd:Rat)=(z:Rat)
theorem fg.add {bd:Nat}{x y:Rat}(O:fg bd x)(ar:fg bd y):fg bd (x+y):=by
 obtain⟨a,aM⟩:=O;obtain⟨b,ae⟩:=ar;exact⟨a+b,by rw[uz,<-aM,<-ae];grind⟩
theorem fg.sub {bd:Nat}{x y:Rat}(O:fg bd x)(ar:fg bd y):fg bd (x-y):=by
 obtain⟨a,aM⟩:=O;obtain⟨b,ae⟩:=ar;exact⟨a-b,by rw[CA,<-aM,<-ae];grind⟩
theorem fg.mul {bd N:Nat}{x y:Rat}(O:fg bd x)(ar:fg N y):fg (bd*N) (x*y):=by
 obtain⟨a,aM⟩:=O;obtain⟨b,ae⟩:=ar;exact⟨a*b,by rw[p7,<-aM,<-ae,ZQ];grind⟩
theorem fg.int (bd:Nat)(z:Int):fg bd (z:Rat):=⟨z*bd,by rw[p7,oi]⟩
theorem fg.zero (bd:Nat):fg bd 0:=⟨0,by rw[Rat.zero_mul];rfl⟩
theorem fg.more {bd:Nat}{x:Rat}(h:fg bd x)(N:Nat):fg (bd*N) x:=by
 obtain⟨a,aM⟩:=h;exact⟨a*N,by rw[p7,<-aM,ZQ,oi];grind⟩
theorem fg.of_dvd {bd N:Nat}{x:Rat}(h:fg bd x)(Y:∃m,N=bd*m):fg N x:=by
 obtain⟨m,rfl⟩:=Y;exact h.more m
theorem fg.cF {bd:Nat}{l:List ej}{aS:ej->Rat}(h:∀c∈l,fg bd (aS c)):fg bd (cF l aS):=by
 induction l with
 |nil=>exact fg.zero bd
 |cons c l aA=>exact (h c gF).add (aA λx O=>h x (hf _ O))
theorem fg.bx {bd n:Nat}{aS:Nat->Rat}(h:∀k,k<n->fg bd (aS k)):fg bd (bx n aS):=by
 induction n with
 |zero=>exact fg.zero bd
 |succ n aA=>exact (aA λk M=>h k (by omega)).add (h n (by omega))
theorem fg.sz {bd a e:Nat}{x:Rat}(h:fg bd x)(m8:0<bd)(Mr:bd<=2^a)(ao:0<=x)(O:x<=((2^e:Nat):Rat)):ec (a+e) x:=by
 obtain⟨z,aW⟩:=h;have rk:(0:Rat)<=(z:Rat):=by rw[<-aW];exact Rat.mul_nonneg ao (by exact_mod_cast fs bd)
 have axk:(z:Rat)<=((2^e*bd:Nat):Rat):=by
  rw[<-aW,ZQ];exact Rat.mul_le_mul_of_nonneg_right O (by exact_mod_cast fs bd)
 have fP:0<=z:=by exact_mod_cast rk
 have b6:z<=((2^e*bd:Nat):Int):=by exact_mod_cast axk
 obtain⟨f1,f2⟩:=CC (q:=x) (v:=z) (d:=(bd:Int)) (by omega) (by rw[oi];exact aW);rw[mR] at f2;have dd:z.natAbs<=2^e*bd:=by omega
 refine⟨eQ f1 (eQ dd ?_),eQ f2 (eQ Mr (wZ (by omega) (by omega)))⟩;rw[vZ,rz (2^a)];exact Nat.mul_le_mul_left _ Mr
structure fz (cash:List Int) (cs:List aw):Prop where
 right:kx cash cs=true
 jB:(D cash)<=6
 qY:(D cs)<=12
 am:∀c∈cs,c.2.2.2<=1000000000000000
theorem fz.ok {cash:List Int}{cs:List aw}(h:fz cash cs):(au cash cs).dk:=ah2 h.right
theorem fz.sum {cash:List Int}{cs:List aw}(h:fz cash cs)(p:aw->Prop)[DecidablePred p]:0<=cK cs (λc=>if p c then c.2.2.2 else 0)/\cK cs (λc=>if p c then c.2.2.2 else 0)<=12000000000000000:=by
 have:=QU (cs:=cs) (aS:=λc=>if p c then c.2.2.2 else 0) (B:=1000000000000000) (by omega) λc G=>by
  have E:=h.am c G;have H:=((gQ.1 h.right).2.2.2 c G).2.2.2.2.2.2.1
  try dsimp only
  split<;>omega
 have jb:=h.qY;omega
theorem fz.upto {cash:List Int}{cs:List aw}(h:fz cash cs)(i r:Int):0<=cO cs i r/\cO cs i r<=12000000000000000:=h.sum λc=>c.1=i/\c.2.2.1<r
theorem axl {cash:List Int}{cs:List aw}(h:kx cash cs=true)(i:Int){r s:Int}(Bp:r<=s):cO cs i r<=cO cs i s:=by
 have aP:=(gQ.1 h).2.2.2
 have:∀l:List aw,(∀c∈l,0<=c.2.2.2)->cK l (λc=>if c.1=i/\c.2.2.1<r then c.2.2.2 else 0)<=cK l (λc=>if c.1=i/\c.2.2.1<s then c.2.2.2 else 0):=by
  intro l
  induction l with
  |nil=>intro _;exact Q3 _
  |cons c l aA =>
   intro av;have E:=aA λx O=>av x (hf _ O);have H:=av c gF;simp only[cK]
   split<;>split<;>omega
 exact this cs λc G=>(aP c G).2.2.2.2.2.2.1
def ij (cs:List aw)(k r:Nat):Nat:=(cO cs k (r+1:Nat)-cO cs k r).toNat
theorem EP {cash:List Int}{cs:List aw}(h:kx cash cs=true)(k r:Nat):((ij cs k r:Nat):Rat)=(au cash cs).S k r:=by
 have E:=QV h k r;have H:=axl h k (r:=r) (s:=(r+1:Nat)) (by omega);rw[<-E,<-oi];unfold ij;rw[Int.toNat_of_nonneg (by omega)]
theorem fz.ER {cash:List Int}{cs:List aw}(h:fz cash cs)(k r:Nat):ij cs k r<=2^54:=by
 have E:=h.upto k (r+1:Nat);have H:=h.upto k r;unfold ij;omega
def pE (cs:List aw)(f:Nat->Nat)(k i:Nat):Int:=cK cs λc=>if c.2.1=(i:Int)/\c.1=(k:Int)/\c.2.2.1=(f k:Int) then c.2.2.2 else 0
theorem axm {cash:List Int}{cs:List aw}(h:kx cash cs=true)(f:Nat->Nat){k:Nat}(i:Nat)(cJ:0<(au cash cs).S k (f k)):(au cash cs).W f k i*(au cash cs).S k (f k)=((pE cs f k i:Int):Rat):=by
 unfold Day.W pE
 rw[QT cs _ (λc=>if c.to=(i:Int)/\c.aE=k/\c.bp=f k then c.am else 0) λc G=>by
  have:=(gQ.1 h).2.2.2 c G;show ((if c.2.1=(i:Int)/\c.1=(k:Int)/\c.2.2.1=(f k:Int) then c.2.2.2 else 0:Int):Rat)=if c.2.1=(i:Int)/\c.1.toNat=k/\c.2.2.1.toNat=f k then (c.2.2.2:Rat) else 0
  by_cases E:c.2.1=(i:Int)/\c.1=(k:Int)/\c.2.2.1=(f k:Int)
  ·rw[ab E,ab (by omega)]
  ·rw[ag E,ag (by omega)];rfl]
 rw[uE,<-QH];refine vW λc _=>?_
 split
 ·rename_i E;rw[uE];have ay:=E.2.1;have aB:=E.2.2;subst ay;rw[<-aB] at cJ ⊢;exact Day.Cw cJ
 ·rw[nF]
theorem Ms {cash:List Int}{cs:List aw}(h:kx cash cs=true)(f:Nat->Nat)(i:Nat):((lo cash cs f i:Int):Rat)=(au cash cs).st f i:=by
 unfold lo Day.st;rw[uz]
 congr 1
 refine QT cs _ (λc=>if c.to=(i:Int)/\c.bp<f c.aE then c.am else 0) λc G=>?_;have:=(gQ.1 h).2.2.2 c G;show ((if c.2.1=(i:Int)/\c.2.2.1<(f c.1.toNat:Int) then c.2.2.2 else 0:Int):Rat)=if c.2.1=(i:Int)/\c.2.2.1.toNat<f c.1.toNat then (c.2.2.2:Rat) else 0
 by_cases E:c.2.1=(i:Int)/\c.2.2.1<(f c.1.toNat:Int)
 ·rw[ab E,ab (by omega)]
 ·rw[ag E,ag (by omega)];rfl
theorem fz.cash {cash:List Int}{cs:List aw}(h:fz cash cs)(i:Nat):0<=cash.getD i 0/\cash.getD i 0<=1000000000000000:=by
 rw[dZ]
 cases J:cash[i]? with
 |none=>simp
 |some x=>exact (gQ.1 h.right).2.2.1 x (eg J)
theorem fz.steady {cash:List Int}{cs:List aw}(h:fz cash cs)(f:Nat->Nat)(i:Nat):0<=lo cash cs f i/\lo cash cs f i<=13000000000000000:=by
 have E:=h.cash i;have H:=h.sum λc=>c.2.1=(i:Int)/\c.2.2.1<(f c.1.toNat:Int);unfold lo;omega
theorem Q4 (n:Nat)(a b:Nat->Nat):fk n (λi=>a i+b i)=fk n a+fk n b:=by
 induction n with
 |zero=>rfl
 |succ n aA=>simp only[fk,aA];omega
theorem Q5 {n:Nat}{a:Nat->Nat}(h:∀i,i<n->a i=0):fk n a=0:=by
 induction n with
 |zero=>rfl
 |succ n aA=>rw[fk,aA λi J=>h i (by omega),h n (by omega)]
theorem ai6 {n b e:Nat}{b9:Nat->Nat}(h:∀k,k<n->b9 k<=2^b)(he:n*b<=e):iT n b9<=2^e:=eQ (ZA h) (wZ (by omega) he)
theorem Q6 {n x:Nat}{p:Nat->Prop}[DecidablePred p](h:∀i j,p i->p j->i=j):fk n (λi=>if p i then x else 0)<=x:=by
 induction n with
 |zero=>exact fs _
 |succ n aA =>
  rw[fk]
  by_cases aF:p n
  ·rw[ab aF,Q5 λi J=>ag λE=>by have:=h i n E aF;omega]
   omega
  ·rw[ag aF];omega
theorem ai7 {cs:List aw}{aS:aw->Int}(h:∀c∈cs,0<=aS c):0<=cK cs aS:=by
 induction cs with
 |nil=>exact Q3 _
 |cons c l aA =>
  have E:=aA λx O=>h x (hf _ O);have H:=h c gF;simp only[cK];omega
theorem ai8 {cs:List aw}(h:∀c∈cs,0<=c.2.2.2)(f:Nat->Nat)(k i:Nat):0<=pE cs f k i:=ai7 λc G=>by
 have:=h c G
 split<;>omega
theorem axn {cs:List aw}(h:∀c∈cs,0<=c.2.2.2)(k r:Nat):ij cs k r=(cK cs λc=>if c.1=(k:Int)/\c.2.2.1=(r:Int) then c.2.2.2 else 0).toNat:=by
 unfold ij cO
 congr 1
 induction cs with
 |nil=>rfl
 |cons c l aA =>
  have E:=aA λx O=>h x (hf _ O);simp only[cK]
  have e:(if c.1=(k:Int)/\c.2.2.1<((r+1:Nat):Int) then c.2.2.2 else 0)-(if c.1=(k:Int)/\c.2.2.1<(r:Int) then c.2.2.2 else 0)=if c.1=(k:Int)/\c.2.2.1=(r:Int) then c.2.2.2 else 0:=by
   (repeat' split)<;>omega
  omega
theorem axo {cs:List aw}(h:∀c∈cs,0<=c.2.2.2)(f:Nat->Nat)(k N:Nat):fk N (λi=>(pE cs f k i).toNat)<=ij cs k (f k):=by
 rw[axn h]
 induction cs with
 |nil=>exact eQ (Nat.le_of_eq (Q5 λi _=>rfl)) (fs _)
 |cons c l aA =>
  have av:=λx O=>h x (hf c O);have E:=aA av;have H:=h c gF
  have e:fk N (λi=>(pE (c::l) f k i).toNat)=fk N (λi=>if c.2.1=(i:Int)/\c.1=(k:Int)/\c.2.2.1=(f k:Int) then c.2.2.2.toNat else 0)+fk N λi=>(pE l f k i).toNat:=by
   rw[<-Q4];refine Mh λi _=>?_;have:=ai8 av f k i;have ay:pE (c::l) f k i=(if c.2.1=(i:Int)/\c.1=(k:Int)/\c.2.2.1=(f k:Int) then c.2.2.2 else 0)+pE l f k i:=rfl;rw[ay]
   split<;>omega
  have aP:0<=cK l λc=>if c.1=(k:Int)/\c.2.2.1=(f k:Int) then c.2.2.2 else 0:=ai7 λc G=>by
   have:=av c G
   split<;>omega
  have af:fk N (λi=>if c.2.1=(i:Int)/\c.1=(k:Int)/\c.2.2.1=(f k:Int) then c.2.2.2.toNat else 0)<=if c.1=(k:Int)/\c.2.2.1=(f k:Int) then c.2.2.2.toNat else 0:=by
   by_cases G:c.1=(k:Int)/\c.2.2.1=(f k:Int)
   ·rw[ab G];exact Q6 λi j J ah=>by omega
   ·rw[ag G,Q5 λi _=>ag λh=>G h.2];exact bX _
  simp only[cK];rw[e]
  split at af<;>rename_i G
  ·rw[ab G];omega
  ·rw[ag G];omega
section
variable {cash:List Int} {cs:List aw} (U:fz cash cs) {f:Nat->Nat} {P:Nat->Prop} (cJ:∀k,P k->0<(au cash cs).S k (f k))
include U cJ
theorem Q7 {k:Nat}(M:P k):0<ij cs k (f k):=by
 have E:=cJ k M;rw[<-EP U.right] at E;exact_mod_cast E
theorem ai9 {k:Nat}(M:P k)(i:Nat):((ij cs k (f k):Nat):Rat)*(au cash cs).W f k i=((pE cs f k i:Int):Rat):=by
 rw[EP U.right,uE];exact axm U.right f i (cJ k M)
theorem aja {k:Nat}(M:P k)(i:Nat)(p:Prop)[Decidable p]:eO ((if p then ij cs k (f k) else 0)+(pE cs f k i).toNat) (((ij cs k (f k):Nat):Rat)*((if p then 1 else 0)-(au cash cs).W f k i)):=by
 have e:((ij cs k (f k):Nat):Rat)*((if p then 1 else 0)-(au cash cs).W f k i)=((if p then ij cs k (f k) else 0:Nat):Rat)-((pE cs f k i:Int):Rat):=by
  rw[<-ai9 U cJ M i]
  split<;>grind
 have H:=ai8 (λc G=>((gQ.1 U.right).2.2.2 c G).2.2.2.2.2.2.1) f k i;rw[e];exact (eO.nat (bX _)).sub (eO.of (by omega))
omit cJ in
theorem ajb {N:Nat}{k:Nat}(τ:Nat->Nat)(t:Nat)(hτ:∀i,i<N->τ i<D cash)(ah:∀i j,i<N->j<N->τ i=τ j->i=j):fk N (λi=>(if i=t then ij cs k (f k) else 0)+(pE cs f k (τ i)).toNat)<=2*ij cs k (f k):=by
 rw[Q4];have E:fk N (λi=>if i=t then ij cs k (f k) else 0)<=ij cs k (f k):=Q6 λi j J ah=>by omega
 have H:=Zy (λi=>(pE cs f k i).toNat) hτ ah;have af:=axo (λc G=>((gQ.1 U.right).2.2.2 c G).2.2.2.2.2.2.1) f k (D cash);omega
omit cJ in
theorem ajc (i:Nat):(lo cash cs f i-cO cs (i:Nat) (f i)).natAbs<=2^54/\(lo cash cs f i).natAbs<=2^54:=by
 have E:=U.steady f i;have H:=U.upto (i:Nat) (f i);omega
theorem axp:uF (D cash) ((au cash cs).At f P) (D cash*54) 54:=by
 have kv:(au cash cs).n=D cash:=rfl;refine⟨λk=>if P k then ij cs k (f k) else 1,λk=>if P k then cO cs k (f k) else 0,λi=>lo cash cs f i-if P i then cO cs i (f i) else 0,ZA λk _=>?_,λk=>?_,λk M=>?_,λk _=>?_,λi J=>⟨?_,?_⟩⟩
 ·try dsimp only
  split
  ·exact U.ER k _
  ·decide
 ·try dsimp only
  split
  ·exact Q7 U cJ (by assumption)
  ·omega
 ·by_cases gv:P k
  ·refine⟨λi=>(if i=k then ij cs k (f k) else 0)+(pE cs f k i).toNat,by dsimp only;rw[ab gv];exact ajb U (λi=>i) k (λi J=>J) λi j _ _ h=>h,λi J=>?_⟩
   unfold Day.At;dsimp only;rw[ab gv,ab (show k<(au cash cs).n from M),ab gv];exact aja U cJ gv i _
  ·refine⟨λi=>if i=k then 1 else 0,by dsimp only;rw[ag gv];exact eQ (Q6 λi j J ah=>by omega) (by omega),λi J=>?_⟩
   unfold Day.At;dsimp only;rw[ag gv,ab (show k<(au cash cs).n from M),ag gv];have:(((1:Nat):Rat)*((if i=k then 1 else 0)-0))=((if i=k then 1 else 0:Nat):Rat):=by split<;>simp<;>grind
   rw[this];exact eO.nat (bX _)
 ·try dsimp only
  split
  ·have:=U.upto (k:Nat) (f k);omega
  ·decide
 ·have:=ajc U (f:=f) i;dsimp only
  split
  ·exact this.1
  ·rw[Int.sub_zero];exact this.2
 ·unfold Day.At;rw[ag (by rw[kv];omega),kv]
  have ay:(λk=>(if k<(D cash) then (if i=k then 1 else 0)-(if P k then (au cash cs).W f k i else 0) else (au cash cs).st f i-bx (D cash) λk=>if P k then (au cash cs).W f k i*(au cash cs).bz k (f k) else 0)*((if P k then cO cs k (f k) else 0:Int):Rat))=λk=>(if k<(D cash) then (if i=k then ((if P k then cO cs k (f k) else 0:Int):Rat) else 0)-(if P k then (au cash cs).W f k i*(au cash cs).bz k (f k) else 0) else ((au cash cs).st f i-bx (D cash) λk=>if P k then (au cash cs).W f k i*(au cash cs).bz k (f k) else 0)*((if P k then cO cs k (f k) else 0:Int):Rat)):=by
   funext k
   by_cases E:k<D cash
   ·rw[ab E,ab E]
    by_cases H:P k
    ·rw[ab H,ab H,ab H,<-uA U.right k (f k)]
     split<;>grind
    ·rw[ag H,ag H,ag H]
     split<;>simp<;>grind
   ·rw[ag E,ag E]
  rw[ay];rw[ki (g:=λk=>(if i=k then ((if P k then cO cs k (f k) else 0:Int):Rat) else 0)-(if P k then (au cash cs).W f k i*(au cash cs).bz k (f k) else 0)) λk M=>ab M];rw[HE,yK J λk _ M=>ag (Ne.symm M),ab rfl,CA,Ms U.right];grind
theorem ZR (p:List Nat)(aF:∀k,k<(D p)->P (p.getD k 0)/\p.getD k 0<D cash)(ah:∀i j,i<(D p)->j<(D p)->p.getD i 0=p.getD j 0->i=j):uF (D p) ((au cash cs).uH f p) (D p*54) 54:=by
 refine⟨λk=>if k<(D p) then ij cs (p.getD k 0) (f (p.getD k 0)) else 1,λ_=>0,λi=>lo cash cs f (p.getD i 0)-cO cs (p.getD i 0:Nat) (f (p.getD i 0)),ZA λk M=>?_,λk=>?_,λk M=>?_,λk _=>fs _,λi J=>⟨?_,?_⟩⟩
 ·try dsimp only
  rw[ab M];exact U.ER _ _
 ·try dsimp only
  split
  ·exact Q7 U cJ (aF k (by assumption)).1
  ·omega
 ·refine⟨λi=>(if i=k then ij cs (p.getD k 0) (f (p.getD k 0)) else 0)+(pE cs f (p.getD k 0) (p.getD i 0)).toNat,by dsimp only;rw[ab M];exact ajb U (λi=>p.getD i 0) k (λi J=>(aF i J).2) ah,λi J=>?_⟩
  unfold Day.uH;dsimp only;rw[ab M,ab M];exact aja U cJ (aF k M).1 _ _
 ·exact (ajc U _).1
 ·unfold Day.uH;rw[ag (by omega),sT λk _=>by rw[show ((0:Int):Rat)=0 from rfl,nF],As,CA,Ms U.right,uA U.right]
end
end Go.Mini
namespace Go.Mini
open Go Classical
theorem iU {b:Nat}{q:Rat}(h:ec b q)(ae:b<1200):dg q:=by
 obtain⟨B,fW,gw⟩:=aix;have:2^b<ea:=by rw[gw];exact Nat.pow_lt_pow_right (by omega) (by omega)
 exact⟨vB h.1 this,vB h.2 this⟩
def rowsOf (N:Nat)(A:eF):List e0:=(dU N).map λi=>(dC N (A i),aq (A i N))
theorem CH (N:Nat)(A:eF):(rowsOf N A).length=N:=by simp[rowsOf]
theorem ajd {N i:Nat}(A:eF)(h:i<N):(rowsOf N A)[i]?=some (dC N (A i),aq (A i N)):=by
 unfold rowsOf;rw[bh,tn h];rfl
theorem axq {N i k:Nat}(A:eF)(J:i<N)(M:k<=N):qX (rowsOf N A) i k=A i k:=by
 unfold qX;rw[aiu (ajd A J),CH]
 by_cases h:k<N
 ·rw[ab h,dZ,s4 _ h,Option.getD_some,Eg]
 ·rw[ag h,Eg,show k=N by omega]
theorem HW {x:Rat}(h:dg x):ei (aq x)=true:=(Le _).2 ⟨x,h,rfl⟩
theorem axr {N:Nat}{A:eF}(gG:N<=40)(av:∀i,i<N->∀k,k<=N->dg (A i k)):ob (rowsOf N A) N=true:=by
 unfold ob
 have af:(rowsOf N A).any (oX N)=false:=by
  rw[xj];intro r aa;obtain⟨i,J,rfl⟩:=dV.1 aa;have J:=g2.1 J;unfold oX G6;simp only[pD,beq_self_eq_true,g1,HW (av i J N (bX _))]
  have:(dC N (A i)).any (λf => !ei f)=false:=by
   rw[xj];intro f aK;unfold dC at aK;obtain⟨x,O,rfl⟩:=dV.1 aK;obtain⟨k,M,rfl⟩:=dV.1 O;rw[HW (av i J k (by have:=g2.1 M;omega))]
   decide
  rw[this];decide
 rw[af,CH];simp only[e9,uf,decide_eq_false_iff_not,beq_self_eq_true,du,and_true];omega
theorem axs {N:Nat}{A:eF}(gG:N<=40)(av:∀i,i<N->∀k,k<=N->dg (A i k)):rJ (rowsOf N A):=by
 refine⟨by rw[CH];omega,λr aa=>?_⟩
 obtain⟨i,J,rfl⟩:=dV.1 aa;have J:=g2.1 J;exact⟨ZN gG λk M=>av i J k (by omega),kS (av i J N (bX _))⟩
theorem aje {N:Nat}{a b y:Nat->Rat}(h:∀k,k<=N->a k=b k):mU N a y=mU N b y:=ki λk M=>by rw[h k (by omega)]
theorem h5.congr {N:Nat}{A B:eF}(h:∀i,i<N->∀k,k<=N->A i k=B i k)(y:Nat->Rat):h5 N A y↔h5 N B y:=by
 unfold h5
 constructor
 ·intro dK i J;rw[<-aje (h i J)];exact dK i J
 ·intro dK i J;rw[aje (h i J)];exact dK i J
theorem uF.congr {N δ v:Nat}{A B:eF}(h:∀i,i<N->∀k,k<=N->A i k=B i k)(U:uF N A δ v):uF N B δ v:=by
 obtain⟨b9,u,w,cQ,de,ep,fe,o2⟩:=U;refine⟨b9,u,w,cQ,de,λk M=>?_,fe,λi J=>⟨(o2 i J).1,?_⟩⟩
 ·obtain⟨b,c1,ee⟩:=ep k M;exact⟨b,c1,λi J=>by rw[<-h i J k (by omega)];exact ee i J⟩
 ·rw[<-h i J N (bX _),(o2 i J).2,ki λk M=>by rw[h i J k (by omega)]]
theorem uF.sz {N δ v:Nat}{A:eF}(U:uF N A δ v)(gG:N<=7){i k:Nat}(J:i<N)(M:k<=N):ec (N+δ+v+4) (A i k):=(U.aiN gG A 0 (fs _) (lQ.start N A) i k J (fs _) M).1
theorem axt {N:Nat}{A:eF}(gG:N<=6)(U:uF N A (N*54) 54)(axu:¬ CF N A){x:Nat->Rat}(O:h5 N A (ext N x (-1))):
  qV (rowsOf N A) N=(dC N x,0)/\ob (rowsOf N A) N=true/\∀k,k<N->dg (x k):=by
 have av:∀i,i<N->∀k,k<=N->dg (A i k):=λi J k M=>iU (U.sz (by omega) J M) (by omega);have aa:=axr (by omega) av;have G:∀i,i<N->∀k,k<=N->A i k=qX (rowsOf N A) i k:=λi J k M=>(axq A J M).symm;have iX:=(U.congr G).aiN (by omega)
 have axv:¬ CF N (qX (rowsOf N A)):=by
  rintro⟨y,ar,h⟩;exact axu ⟨y,(h5.congr G _).2 ar,h⟩
 obtain⟨y,ay,aB,bG⟩:=axf (rs:=rowsOf N A) (n:=N) (eT:=N+N*54+54+4) (aS:=N+N*54) aa (by rw[CH];exact iX) (by omega) (by rw[CH];exact axv);rw[CH] at ay aB bG;have nZ:∀k,k<N->x k=y k:=λk M=>(bG.1 x).1 ((h5.congr G _).1 O) k M;exact⟨by rw[ay,HV λk M=>(nZ k M).symm],aa,λk M=>by rw[nZ k M];exact aB k M⟩
theorem ZS {P:Nat->Prop}{n i j:Nat}(J:i<(cV P n).length)(ah:j<(cV P n).length)(h:(cV P n).getD i 0=(cV P n).getD j 0):i=j:=by
 have aH:(cV P n).Pairwise (·≠·):=List.Pairwise.filter _ List.nodup_range;rw[List.pairwise_iff_getElem] at aH;rw[dZ,dZ,bu J,bu ah] at h;rcases ajf i j with E|E|E
 ·exact absurd h (aH i j J ah E)
 ·exact E
 ·exact absurd h.symm (aH j i ah J E)
structure s5 (d:Day) (f:Nat->Nat) (P:Nat->Prop):Prop where
 ok:d.dk
 ex:∃g,Inv d f g/\iH d f g P (d.ff f P)
theorem s5.good {d:Day}{f:Nat->Nat}{P:Nat->Prop}(h:s5 d f P):Good d f P:=by
 obtain⟨E,g,H,af⟩:=h;exact af.good E H
theorem s5.rQ {d:Day}{f:Nat->Nat}{P:Nat->Prop}(h:s5 d f P):∀k,P k->0<d.S k (f k):=by
 obtain⟨E,g,H,af⟩:=h;exact λk M=>H.rQ (af.gI k M).1 (af.gI k M).2
theorem s5.gt {d:Day}{f:Nat->Nat}{P:Nat->Prop}(h:s5 d f P):∀k,P k->d.bz k (f k)<d.ff f P k:=by
 obtain⟨E,g,H,af⟩:=h;exact af.ge
theorem iH.ajg {d:Day}(Y:d.dk){f:Nat->Nat}{g:Nat->Rat}{P:Nat->Prop}{h:Nat->Rat}(J:Inv d f g)(aF:iH d f g P h){c:ej}(G:c∈d.cX):0<=d.l f P h c/\d.l f P h c<=c.am:=by
 have ao:=Y.am c G
 by_cases E:c.bp<f c.aE
 ·rw[Day.ahT E];exact⟨ao,gi⟩
 ·by_cases H:c.bp=f c.aE/\P c.aE
  ·rw[Day.ahU H.1 H.2];have ay:=aF.ge _ H.2;have aB:=aF.le _ (Y.aE c G);have bG:=J.J _ (Y.aE c G) (aF.gI _ H.2).2;rw[d.sU] at bG;rw[H.1];exact⟨uv (Y.pB G) (by grind),Y.QQ G (by rw[H.1];grind)⟩
  ·rw[Day.Ze E H];exact⟨gi,ao⟩
theorem s5.range {d:Day}{f:Nat->Nat}{P:Nat->Prop}(h:s5 d f P){i:Nat}(J:i<d.n):0<=d.ff f P i/\d.ff f P i<=d.eX (λc=>c.am) i:=by
 obtain⟨E,g,H,af⟩:=h;rw[af.sys i J];exact⟨E.Zi (λc G=>(af.ajg E H G).1) J,d.Cx (λc G=>(af.ajg E H G).2) i⟩
theorem axw {cash:List Int}{cs:List aw}(U:fz cash cs)(i:Nat):(au cash cs).eX (λc=>c.am) i<=((2^54:Nat):Rat):=by
 have e:(au cash cs).eX (λc=>c.am) i=((cash.getD i 0+cK cs (λc=>if c.2.1=(i:Int) then c.2.2.2 else 0):Int):Rat):=by
  unfold Day.eX;rw[uz]
  congr 1
  refine (QT cs _ (λc=>if c.to=(i:Int) then c.am else 0) λc G=>?_).symm;show ((if c.2.1=(i:Int) then c.2.2.2 else 0:Int):Rat)=if c.2.1=(i:Int) then (c.2.2.2:Rat) else 0
  split<;>rfl
 rw[e];have E:=U.cash i;have H:=U.sum λc=>c.2.1=(i:Int)
 have:cash.getD i 0+cK cs (λc=>if c.2.1=(i:Int) then c.2.2.2 else 0)<=((2^54:Nat):Int):=by omega
 rw[<-oi];exact_mod_cast this
theorem Day.dk.axx {d:Day}(Y:d.dk)(f:Nat->Nat)(k i:Nat):0<=d.W f k i:=yL λc G=>by
 split
 ·exact Y.pB G
 ·exact gi
theorem axy {n t:Nat}{T:Nat->Rat}(h:∀k,k<n->0<=T k)(bA:t<=n):bx t T<=bx n T:=by
 induction n with
 |zero=>rw[show t=0 by omega];exact gi
 |succ n aA =>
  by_cases ajh:t=n+1
  ·rw[ajh];exact gi
  ·have E:=aA (λk M=>h k (by omega)) (by omega);have H:=h n (by omega);rw[bx];grind
theorem axz {N t bd a e:Nat}{s:Rat}{T:Nat->Rat}(m8:0<bd)(Mr:bd<=2^a)(qO:0<=s)(JZ:fg bd s)(ZT:∀k,k<N->0<=T k)(aji:∀k,k<N->fg bd (T k))(O:s+bx N T<=((2^e:Nat):Rat))(bA:t<=N):ec (a+e) (s+bx t T)/\∀k,k<N->ec (a+e) (T k):=by
 have E:∀t,t<=N->0<=bx t T/\bx t T<=bx N T:=λt bA=>⟨ahO λk M=>ZT k (by omega),axy ZT bA⟩;refine⟨(JZ.add (fg.bx λk M=>aji k (by omega))).sz m8 Mr (by have:=(E t bA).1;grind) (by have:=(E t bA).2;grind),λk M=>(aji k M).sz m8 Mr (ZT k M) ?_⟩;have H:=(E k (by omega)).1;have af:=(E (k+1) (by omega)).2;rw[bx] at af;grind
section
variable {cash:List Int} {cs:List aw} (U:fz cash cs) {f:Nat->Nat} {P:Nat->Prop} (aF:s5 (au cash cs) f P)
include U aF
theorem Q8 {i:Nat}(J:i<D cash):0<=(au cash cs).ff f P i/\(au cash cs).ff f P i<=((2^54:Nat):Rat):=by
 have h:=aF.range (d:=au cash cs) J;exact⟨h.1,vY h.2 (axw U i)⟩
theorem ajj:∃bd:Nat,0<bd/\(∃a,a<=330/\bd<=2^a)/\∀i,i<(D cash)->fg bd ((au cash cs).ff f P i):=by
 obtain⟨bd,E,H,af⟩:=aiW (N:=D cash) aF.good.ai0 (axp U aF.rQ) ((aiY aF.ok f P _).2 aF.good.ff);have aH:=U.jB;exact⟨bd,E,⟨_,by omega,H⟩,af⟩
theorem ajk {i:Nat}(J:i<D cash):ec 428 ((au cash cs).ff f P i):=by
 obtain⟨bd,E,⟨a,ao,H⟩,af⟩:=ajj U aF;have aP:=Q8 U aF J;exact ((af i J).sz E H aP.1 aP.2).mono (by omega)
theorem axA:qV (rowsOf (cV P (D cash)).length ((au cash cs).uH f (cV P (D cash)))) (cV P (D cash)).length=(dC (cV P (D cash)).length (λk=>(au cash cs).ff f P ((cV P (D cash)).getD k 0)-(au cash cs).bz ((cV P (D cash)).getD k 0) (f ((cV P (D cash)).getD k 0))),0)/\ob (rowsOf (cV P (D cash)).length ((au cash cs).uH f (cV P (D cash)))) (cV P (D cash)).length=true:=by
 have hlen:(cV P (D cash)).length<=6:=by
  have:=om (λi=>decide (P i)) (dU (D cash));rw[sn] at this;have:=U.jB;unfold cV;omega
 have:=axt hlen (ZR U aF.rQ _ (λk M=>⟨(xo M).2,(xo M).1⟩) λi j J ah=>ZS J ah) aF.good.small aF.good.ai2;exact⟨this.1,this.2.1⟩
theorem axB:∃bd:Nat,0<bd/\(∃a,a<=330/\bd<=2^a)/\∀k,k<(cV P (D cash)).length->fg bd ((au cash cs).ff f P ((cV P (D cash)).getD k 0)-(au cash cs).bz ((cV P (D cash)).getD k 0) (f ((cV P (D cash)).getD k 0))):=by
 have hlen:(cV P (D cash)).length<=6:=by
  have:=om (λi=>decide (P i)) (dU (D cash));rw[sn] at this;have:=U.jB;unfold cV;omega
 have yN:cV P (au cash cs).n=cV P (D cash):=rfl;have ajl:=aF.good.ai2;have xp:=aF.good.small;rw[yN] at ajl xp;obtain⟨bd,E,H,af⟩:=aiW xp (ZR U aF.rQ _ (λk M=>⟨(xo M).2,(xo M).1⟩) λi j J ah=>ZS J ah) ajl;exact⟨bd,E,⟨_,by omega,H⟩,af⟩
theorem Q9 {k:Nat}(M:P k)(i:Nat):ec 54 ((au cash cs).W f k i)/\fg (ij cs k (f k)) ((au cash cs).W f k i):=by
 have e:=ai9 U aF.rQ M i;have ao:=Q7 U aF.rQ M;have E:=U.ER k (f k);have H:=U.sum λc=>c.2.1=(i:Int)/\c.1=(k:Int)/\c.2.2.1=(f k:Int)
 obtain⟨f1,f2⟩:=CC (q:=(au cash cs).W f k i) (v:=pE cs f k i) (d:=(ij cs k (f k):Int)) (by omega) (by rw[<-e,oi,uE]);rw[mR] at f2;refine⟨⟨eQ f1 (by unfold pE;omega),eQ f2 (by omega)⟩,pE cs f k i,by rw[<-e,uE]⟩
theorem axC {i t:Nat}(J:i<D cash)(bA:t<=(cV P (D cash)).length):
  ec 708 ((au cash cs).st f i+bx t λk=>(au cash cs).W f ((cV P (D cash)).getD k 0) i*((au cash cs).ff f P ((cV P (D cash)).getD k 0)-(au cash cs).bz ((cV P (D cash)).getD k 0) (f ((cV P (D cash)).getD k 0)))) /\
  (∀k,k<(cV P (D cash)).length->ec 438 ((au cash cs).W f ((cV P (D cash)).getD k 0) i*((au cash cs).ff f P ((cV P (D cash)).getD k 0)-(au cash cs).bz ((cV P (D cash)).getD k 0) (f ((cV P (D cash)).getD k 0))))) /\
  ∀k,k<(cV P (D cash)).length->ec 384 ((au cash cs).ff f P ((cV P (D cash)).getD k 0)-(au cash cs).bz ((cV P (D cash)).getD k 0) (f ((cV P (D cash)).getD k 0))):=by
 have hlen:(cV P (D cash)).length<=6:=by
  have:=om (λi=>decide (P i)) (dU (D cash));rw[sn] at this;have:=U.jB;unfold cV;omega
 obtain⟨bd,dJ,⟨a,lE,cU⟩,tQ⟩:=axB U aF;have gp:∀k,k<(cV P (D cash)).length->(cV P (D cash)).getD k 0<D cash/\P ((cV P (D cash)).getD k 0):=λk M=>xo M;have Ra:=aF.good.ai3 (d:=au cash cs) J;have yN:cV P (au cash cs).n=cV P (D cash):=rfl;rw[yN] at Ra;generalize yO:cV P (D cash)=p at *
 have ajm:∀k,k<(D p)->0<=(au cash cs).ff f P (p.getD k 0)-(au cash cs).bz (p.getD k 0) (f (p.getD k 0)):=λk M=>by
  have:=aF.gt _ (gp k M).2;grind
 have axD:∀k,k<(D p)->(au cash cs).ff f P (p.getD k 0)-(au cash cs).bz (p.getD k 0) (f (p.getD k 0))<=((2^54:Nat):Rat):=λk M=>by
  have E:=(Q8 U aF (gp k M).1).2;have H:=aF.ok.awi (p.getD k 0) (f (p.getD k 0));grind
 have axE:0<iT (D p) λk=>ij cs (p.getD k 0) (f (p.getD k 0)):=aia λk M=>Q7 U aF.rQ (gp k M).2;obtain⟨eT,iz⟩:∃eT,eT=324:=⟨_,rfl⟩;have nW:(iT (D p) λk=>ij cs (p.getD k 0) (f (p.getD k 0)))<=2^eT:=ai6 (e:=eT) (λk _=>U.ER _ _) (by omega);have dy:=Ms U.right f i;have Rb:=U.steady f i;have ZU:0<=(au cash cs).st f i:=by rw[<-dy];exact_mod_cast Rb.1
 have aa:=(Q8 U aF J).2;rw[Ra] at aa
 have axF:(iT (D p) λk=>ij cs (p.getD k 0) (f (p.getD k 0)))*bd<=2^(eT+a):=by
  rw[vZ];exact o1 nW cU
 have axG:=axz (T:=λk=>(au cash cs).W f (p.getD k 0) i*((au cash cs).ff f P (p.getD k 0)-(au cash cs).bz (p.getD k 0) (f (p.getD k 0)))) (Mi axE dJ) axF ZU (by rw[<-dy];exact fg.int _ _) (λk M=>uv (aF.ok.axx f _ _) (ajm k M)) (λk M=>((Q9 U aF (gp k M).2 i).2.of_dvd (aib (b9:=λk=>ij cs (p.getD k 0) (f (p.getD k 0))) M)).mul (tQ k M)) aa bA;have hex:∀k,k<(D p)->ec 384 ((au cash cs).ff f P (p.getD k 0)-(au cash cs).bz (p.getD k 0) (f (p.getD k 0))):=λk M=>((tQ k M).sz dJ cU (ajm k M) (axD k M)).mono (by omega);exact⟨axG.1.mono (by omega),λk M=>(Mm (Q9 U aF (gp k M).2 i).1 (hex k M)).mono (by omega),hex⟩
end
end Go.Mini
namespace Go.Mini
open Go

def ZV:bT:=cd 49 2 [.t 4,.t 5] (R [br 4 0,cC 5 false] (.seq (R [F 9 0,(dL 10 Kx 9),fp 11 10,F 12 11,⟨some 13,some (12,false),.cp (.t 1)⟩,⟨some 14,some (12,false),.len (.t 13)⟩,⟨some 15,some (12,false),.cp (.t 0)⟩,⟨some 16,some (12,false),.len (.t 15)⟩,⟨some 17,some (12,false),.bin .neq (.t 14) (.t 16)⟩,ek 18 12 17] (aZ 18 (R [br 4 0,cC 5 false] .ret) .skip)) (R [br 6 10] (.seq (R [F 19 0,b7 20 19,br 21 0] (.block 0 (.loop  (R [bn 22 .lss 21 20] (.seq (aZ 22 .skip (.exit 0)) (.seq (.block 1 (R [F 23 21,bR 24 4 19 21,bo 25 4 24,(aC 8 (.alloc 225008 [(aj 0),(aj 0),(aj 0),(aj 0)])),F 7 23,bl 4 8 25] (.seq (R [F 26 1,F 27 7,bR 28 4 26 27,bo 29 4 28,(dL 30 l5 29),fp 31 30] (aZ 31 (R [br 4 0,cC 5 false] .ret) .skip)) (fH [F 32 1,F 33 7,bR 34 4 32 33,bo 35 4 34,bf 36 3 8,aU 37 1 36,(dL 38 vt 37),(cq 39 lF 35 38),a5 40 .lss 39 0] DT (aZ 40 (.ops [F 41 6,bf 42 2 8,aU 43 1 42,(aC 44 (.iK false (.t 41) (.t 43))),F 6 44]) .skip))))) (.ops [a5 45 .add 21 1,F 21 45]))))))) (.seq (R [F 46 6,a5 47 .eql 46 10] (aZ 47 (R [br 4 0,cC 5 false] .ret) .skip)) (R [F 48 6,F 4 48,cC 5 true] .ret))))))
def ZW:bT:=cd 46 1 [.t 2] (R [cC 2 false] (.seq (R [F 5 0,b7 6 5,br 7 0] (.block 0 (.loop  (R [bn 8 .lss 7 6] (.seq (aZ 8 .skip (.exit 0)) (.seq (.block 1 (R [bR 9 4 5 7,bo 10 4 9,(aC 4 (.alloc 240004 [(aj 0),(aj 0),(aj 0),(aj 0)])),bl 4 4 10] (fH [bf 11 0 4,aU 12 1 11,(aC 13 (.call Gp [(.t 12),(.c (aj 0)),(.c (aj 59))])),fp 14 13,F 15 14,⟨some 16,some (15,false),.ef 1 (.t 4)⟩,⟨some 17,some (15,false),.load 1 false (.t 16)⟩,⟨some 18,some (15,false),.call Gp [(.t 17),(.c (.I (.int .i64 (-1)))),(.c (aj 59))]⟩,⟨some 19,some (15,false),.un .not (.t 18)⟩,ek 20 15 19,F 21 20,⟨some 22,some (21,false),.ef 2 (.t 4)⟩,⟨some 23,some (21,false),.load 1 false (.t 22)⟩,⟨some 24,some (21,false),.call Gp [(.t 23),(.c (aj 0)),(.c (aj 9))]⟩,⟨some 25,some (21,false),.un .not (.t 24)⟩,ek 26 21 25,F 27 26,⟨some 28,some (27,false),.ef 3 (.t 4)⟩,⟨some 29,some (27,false),.load 1 false (.t 28)⟩,⟨some 30,some (27,false),.call Gp [(.t 29),(.c (aj 0)),(.c (aj 1000000000000000))]⟩,⟨some 31,some (27,false),.un .not (.t 30)⟩,ek 32 27 31,F 33 32,⟨some 34,some (33,false),.ef 0 (.t 4)⟩,⟨some 35,some (33,false),.load 1 false (.t 34)⟩,⟨some 36,some (33,false),.cp (.t 0)⟩,⟨some 37,some (33,false),.kE 4 (.t 36) (.c (aj 0))⟩,⟨some 38,some (33,false),.ef 0 (.t 37)⟩,⟨some 39,some (33,false),.load 1 false (.t 38)⟩,⟨some 40,some (33,false),.bin .neq (.t 35) (.t 39)⟩,ek 41 33 40] [[],[],[],[],[],[],[],[],[],[],[],[],[],[],[],[],[],[],[],[],[],[],[],[],[],[],[],[],[],[],[]] (aZ 41 (R [cC 2 false] .ret) .skip)))) (.ops [a5 42 .add 7 1,F 7 42]))))))) (R [F 43 0,b7 44 43,a5 45 .leq 44 2000,F 2 45] .ret)))
def ZX:bT:=cd 11 1 [.cell 2 4 true] (R [(aC 2 (.alloc 241002 [(aj 0),.nil,(aj 0),.nil]))] (R [F 6 0,(aC 7 (.call zH [(.t 6),(.c (aj 1))])),F 5 7,bB 8 0 5,bB 9 1 5,(aC 3 (.alloc 241003 [(aj 0),.nil,(aj 0),.nil])),bl 4 3 8,F 4 9] (R [bo 10 4 3,bl 4 2 10] .ret)))
def ES:bT:=cd 118 2 [.t 4,.t 5] (R [dR 2 249002 0,eN 4,br 5 0] (.seq (fH [bo 19 4 2,(dL 20 l5 19),fp 21 20,F 22 21,⟨some 23,some (22,false),.load 4 true (.t 2)⟩,⟨some 24,some (22,false),.call vt [(.c (aj 0))]⟩,⟨some 25,some (22,false),.call lF [(.t 23),(.t 24)]⟩,⟨some 26,some (22,false),.bin .lss (.t 25) (.c (aj 0))⟩,ek 27 22 26,F 28 27,⟨some 29,some (28,false),.cp (.t 1)⟩,⟨some 30,some (28,false),.call Kx [(.t 29)]⟩,⟨some 31,some (28,false),.un .not (.t 30)⟩,ek 32 28 31] KJ (aZ 32 (R [eN 4,br 5 1] .ret) .skip)) (R [F 33 1,b7 34 33,(aC 35 (.mu 249035 [(aj 0),.nil,(aj 0),.nil] 64 (.t 34) (.t 34))),F 6 35] (R [bo 36 4 2,(aC 7 (.alloc 249007 [(aj 0),.nil,(aj 0),.nil])),bl 4 7 36] (.seq (R [br 37 0] (.block 0 (.loop  (R [a5 38 .lss 37 10] (.seq (aZ 38 .skip (.exit 0)) (.seq (.block 1 (R [F 39 37,F 8 39] (R [br 9 0] (.seq (R [F 40 1,b7 41 40,br 42 0] (.block 2 (.loop  (R [bn 43 .lss 42 41] (.seq (aZ 43 .skip (.exit 2)) (.seq (.block 3 (R [bR 44 4 40 42,bo 45 4 44,(aC 11 (.alloc 249011 [(aj 0),(aj 0),(aj 0),(aj 0)])),bl 4 11 45] (R [bf 46 2 11,aU 47 1 46,F 48 8,bn 49 .eql 47 48] (aZ 49 (.ops [F 50 9,bf 51 3 11,aU 52 1 51,bn 53 .add 50 52,F 9 53]) .skip)))) (.ops [a5 54 .add 42 1,F 42 54]))))))) (fH [bo 55 4 7,F 56 9,(dL 57 vt 56),(cq 58 lF 55 57),a5 59 .geq 58 0,F 12 59] aeZ (.seq (R [F 60 1,b7 61 60,br 62 0] (.block 4 (.loop  (R [bn 63 .lss 62 61] (.seq (aZ 63 .skip (.exit 4)) (.seq (.block 5 (R [F 64 62,bR 65 4 60 62,bo 66 4 65,(aC 14 (.alloc 249014 [(aj 0),(aj 0),(aj 0),(aj 0)])),F 13 64,bl 4 14 66] (.seq (R [bf 67 2 14,aU 68 1 67,F 69 8,bn 70 .neq 68 69] (aZ 70 (.exit 5) .skip)) (R [F 71 6,F 72 13,bf 73 3 14,aU 74 1 73,(dL 75 vt 74),bR 76 4 71 72,bl 4 76 75] (.seq (R [F 77 12] (aZ 77 (.exit 5) .skip)) (fH [bf 79 3 14,aU 80 1 79,(dL 81 vt 80),bo 82 4 7,(cq 83 wK 81 82),F 78 83,bB 84 0 78,bB 85 1 78,(aC 15 (.alloc 249015 [(aj 0),.nil,(aj 0),.nil])),bl 4 15 84,F 16 85] [[],[],[],[],[],[],[],[],[1,3],[],[]] (.seq (R [F 86 16,a5 87 .eql 86 0] (aZ 87 (.nj [F 89 6,F 90 13,bo 91 4 15,F 92 9,(dL 93 vt 92),(cq 94 DJ 91 93),F 88 94,bB 95 0 88,bB 96 1 88,bR 97 4 89 90,bl 4 97 95,F 16 96] OP) .skip)) (R [F 98 16,a5 99 .neq 98 0] (aZ 99 (R [F 100 16,eN 4,F 5 100] .ret) .skip))))))))) (.ops [a5 101 .add 62 1,F 62 101]))))))) (.seq (R [F 102 12,fp 103 102] (aZ 103 (R [(aC 104 (.call vt [(.c (aj 0))])),bl 4 7 104] (.exit 1)) .skip)) (fH [bo 106 4 7,F 107 9,(dL 108 vt 107),(cq 109 vm 106 108),F 105 109,bB 110 0 105,bB 111 1 105,(aC 17 (.alloc 249017 [(aj 0),.nil,(aj 0),.nil])),bl 4 17 110,F 18 111] [[],[],[],[],[],[],[],[0],[],[]] (.seq (R [F 112 18,a5 113 .neq 112 0] (aZ 113 (R [F 114 18,eN 4,F 5 114] .ret) .skip)) (.ops [bo 115 4 17,bl 4 7 115])))))))))) (.ops [a5 116 .add 37 1,F 37 116]))))))) (.seq (.ghost (.freeze 6) (.ops [F 117 6,F 4 117,br 5 0])) .ret))))))
def ZY:bT:=cd 15 3 [.t 6] (R [cC 6 false] (R [F 7 0,F 8 1,bn 9 .geq 7 8,F 10 9,⟨some 11,some (10,true),.cp (.t 0)⟩,⟨some 12,some (10,true),.cp (.t 2)⟩,⟨some 13,some (10,true),.bin .leq (.t 11) (.t 12)⟩,gg 14 10 13,F 6 14] .ret))


def ca (c:aw):List Data:=[.int .i64 c.1,.int .i64 c.2.1,.int .i64 c.2.2.1,.int .i64 c.2.2.2]
theorem ET (c:aw):(ca c).length=4:=rfl
theorem ZZ (c:aw):((ca c).map Q.I).all Q.one=true:=rfl
theorem rU:∀a b:aw,ca a=ca b->a=b:=by
 rintro⟨cQ,de,ep,fe⟩ ⟨c1,ee,jz,lq⟩ h;simp only[ca,a6,Data.int.injEq,true_and,and_true] at h;obtain⟨rfl,rfl,rfl,rfl⟩:=h
 rfl
theorem axH {cs:List aw}{i:Nat}{c:aw}(h:cs[i]?=some c)(aS:aw->Int):cK (cs.take (i+1)) aS=cK (cs.take i) aS+aS c:=by
 rw[hk,h,Md];simp[cK]
def HX (cs:List aw):Prop:=D cs<=2000/\∀c∈cs,0<=c.2.2.2/\c.2.2.2<=1000000000000000
theorem HX.sum {cs:List aw}(h:HX cs)(p:aw->Prop)[DecidablePred p](i:Nat):0<=cK (cs.take i) (λc=>if p c then c.2.2.2 else 0)/\cK (cs.take i) (λc=>if p c then c.2.2.2 else 0)<=2000000000000000000:=by
 have E:=QU (cs:=cs.take i) (aS:=λc=>if p c then c.2.2.2 else 0) (B:=1000000000000000) (by omega) λc G=>by
  have:=h.2 c (List.mem_of_mem_take G)
  try dsimp only
  split<;>omega
 have H:=h.1;have af:(cs.take i).length<=D cs:=by rw[gC];omega
 omega
theorem ajn {cash:List Int}{cs:List aw}(h:kx cash cs=true):HX cs :=
 ⟨(gQ.1 h).2.1,λc G=>⟨((gQ.1 h).2.2.2 c G).2.2.2.2.2.2.1,((gQ.1 h).2.2.2 c G).2.2.2.2.2.2.2⟩⟩
theorem Rc {n:Int}(h:dA n):hK (bQ n) (bQ 1)=(aq (n:Rat),0):=by
 rw[z3 (yr h) (by decide +kernel) (by decide),Ml,show ((1:Int):Rat)=1 from rfl,show (n:Rat)/1=n by grind]
def v5:=cj wP λ(n:Int)=>cN (dA n) (.same (.agg (aG (aq (n:Rat)))))
@[go_sem] theorem CI (n:Int)(G:dA n):v5 [.int .i64 n]=some (.same (.agg (aG (aq (n:Rat))))):=(cu zL n).trans (cT G _)
theorem axI (T:bb)(mh:T zH=aV Em)(n:Int)(G:dA n):WP T Xc (.same (.agg (aG (aq (n:Rat))))) [.I (.int .i64 n)]:=by
 refine cv ?_;simp only[Xc];have E:dA 1:=by unfold dA;omega
 have h:=Rc G;generalize aq (n:Rat)=aS at *;obtain⟨⟨a,b⟩,⟨c,d⟩⟩:=aS;simp only[go_sem,go_sem_proc,mh,G,E,h,ez,aG];repeat' (first|refine ax ?_ ?_|fail)<;>intro h<;>simp only[h,go_sem,go_sem_proc,mh,G,E,h,ez,aG]
def HY:=cj wP λ(n:Int)=>cN (dA n) (.same (.agg (aG (aq (n:Rat)))))
@[go_sem] theorem axJ (n:Int)(G:dA n):HY [.int .i64 n]=some (.same (.agg (aG (aq (n:Rat))))):=(cu zL n).trans (cT G _)
theorem axK (T:bb)(mh:T zH=aV Em)(n:Int)(G:dA n):WP T ZX (.same (.agg (aG (aq (n:Rat))))) [.I (.int .i64 n)]:=by
 refine cv ?_;simp only[ZX];have E:dA 1:=by unfold dA;omega
 have h:=Rc G;generalize aq (n:Rat)=aS at *;obtain⟨⟨a,b⟩,⟨c,d⟩⟩:=aS;simp only[go_sem,go_sem_proc,mh,G,E,h,ez,aG];repeat' (first|refine ax ?_ ?_|fail)<;>intro h<;>simp only[h,go_sem,go_sem_proc,mh,G,E,h,ez,aG]
theorem axL {x:List Data}(h:Fits [.int .i64,.int .i64,.int .i64,.int .i64] x):∃c:aw,x=ca c:=by
 simp only[Fit,Fits] at h;obtain⟨_,_,rfl,⟨a,rfl,-⟩,_,_,rfl,⟨b,rfl,-⟩,_,_,rfl,⟨c,rfl,-⟩,_,_,rfl,⟨d,rfl,-⟩,rfl⟩:=h;exact⟨(a,b,c,d),rfl⟩
theorem axM {es:List (List Data)}(h:∀x∈es,Fit (.st [.int .i64,.int .i64,.int .i64,.int .i64]) x):∃l:List aw,es=l.map ca:=by
 obtain⟨l,e,-⟩:=Ub (e:=ca) (good:=λ_=>True) λx O=>by
  have:=h x O;unfold Fit at this;obtain⟨c,rfl⟩:=axL this;exact⟨c,rfl,trivial⟩
 exact⟨l,e⟩
theorem axN {n:Int}(h:(Lit.int .u16 n).wf=true):∃m:Nat,n=m/\m<65536:=by
 have:0<=n/\n<=65535:=by simpa [Lit.wf,IntKind.min,IntKind.max,IntKind.signed,IntKind.bits] using h
 exact⟨n.toNat,by omega,by omega⟩
end Go.Mini
namespace Go.Mini
open Classical
structure Alike (d e:Day):Prop where
 n:d.n=e.n
 cash:d.cash=e.cash
 mem:∀c,c∈d.cX↔c∈e.cX
 sum:∀aS,cF d.cX aS=cF e.cX aS
theorem Alike.symm {d e:Day}(h:Alike d e):Alike e d:=⟨h.n.symm,h.cash.symm,λc=>(h.mem c).symm,λaS=>(h.sum aS).symm⟩
section
variable {d e:Day} (h:Alike d e)
include h
theorem Alike.bz:d.bz=e.bz:=by funext k r;exact h.sum _
theorem Alike.S:d.S=e.S:=by funext k r;exact h.sum _
theorem Alike.w:d.w=e.w:=by funext c;unfold Day.w;rw[h.S]
theorem Alike.q:d.q=e.q:=by funext f x c;unfold Day.q;rw[h.bz,h.w]
theorem Alike.l:d.l=e.l:=by funext f P x c;unfold Day.l;rw[h.bz,h.w]
theorem Alike.fv:d.fv=e.fv:=by funext x c;unfold Day.fv;rw[h.bz,h.w]
theorem Alike.eX:d.eX=e.eX:=by funext a i;unfold Day.eX;rw[h.cash,h.sum]
theorem Alike.uy:d.uy=e.uy:=by funext x i;unfold Day.uy;rw[h.eX,h.fv]
theorem Alike.gb:d.gb=e.gb:=by funext C x;unfold Day.gb;rw[h.n]
theorem Alike.cap:d.cap=e.cap:=by funext f g C k;unfold Day.cap;rw[h.bz]
theorem Alike.closed (f:Nat->Nat)(C:Nat->Prop):d.closed f C↔e.closed f C:=by
 unfold Day.closed;exact⟨λk c G=>k c ((h.mem c).2 G),λk c G=>k c ((h.mem c).1 G)⟩
theorem Alike.inv {f:Nat->Nat}{g:Nat->Rat}(a:Inv d f g):Inv e f g:=by
 obtain⟨E,H,af,aP,bt⟩:=a;refine⟨E,λi J=>?_,λi J aK=>?_,λi J aK=>?_,λC gO axO axP=>?_⟩
 ·have:=H i (by rw[h.n];exact J);rwa [h.eX,h.q] at this
 ·have:=af i (by rw[h.n];exact J) aK;rwa [h.bz] at this
 ·have:=aP i (by rw[h.n];exact J) aK;rwa [h.bz] at this
 ·have:=bt C gO (λi J=>by rw[h.n];exact axO i J) ((h.closed f C).2 axP);rwa [h.gb,h.eX,h.q,h.cap,h.bz] at this
theorem Alike.ok (a:d.dk):e.dk:=⟨λc G=>by rw[<-h.n];exact a.aE c ((h.mem c).2 G),λc G=>by rw[<-h.n];exact a.to c ((h.mem c).2 G),λc G=>a.bp c ((h.mem c).2 G),λc G=>a.am c ((h.mem c).2 G),λi J=>by rw[<-h.cash];exact a.cash i (by rw[h.n];exact J)⟩
theorem Alike.ajo {f:Nat->Nat}{x:Nat->Rat}(a:nG d f x):nG e f x:=by
 obtain⟨g,E,H,af⟩:=a;refine⟨g,h.inv E,λi J=>?_,λi J=>af i (by rw[h.n];exact J)⟩;have:=H i (by rw[h.n];exact J);rwa [h.eX,h.q] at this
theorem Alike.axQ:nG d=nG e:=by
 funext f x
 exact propext ⟨h.ajo,h.symm.ajo⟩
theorem Alike.top:d.top=e.top:=by
 funext f
 unfold Day.top;rw[h.axQ]
theorem Alike.ih:d.ih=e.ih:=by
 funext f
 unfold Day.ih;rw[h.top,h.bz,h.n]
theorem Alike.jO:d.jO=e.jO:=by
 funext x i k
 induction k with
 |zero=>rfl
 |succ k aA=>unfold Day.jO;rw[h.bz,aA]
theorem Alike.gI:d.gI=e.gI:=by
 funext f x i
 unfold Day.gI;rw[h.n,h.bz,h.jO]
theorem Alike.rounds:d.rounds=e.rounds:=by
 funext k
 induction k with
 |zero=>funext f;rfl
 |succ k aA =>
  funext f
  unfold Day.rounds;rw[h.ih,h.gI,h.top,aA]
end
def di (cs:List aw)(i k:Nat):List aw:=cs.filter λc=>c.1==(i:Int)&&c.2.2.1==(k:Int)
theorem EU {cs:List aw}{i k:Nat}{c:aw}:c∈di cs i k↔c∈cs/\c.1=(i:Int)/\c.2.2.1=(k:Int):=by
 unfold di;rw[sY,e9,beq_iff_eq,beq_iff_eq]
def dw (n:Nat)(cs:List aw):List aw:=(dU n).flatMap λi=>(dU 10).flatMap λk=>di cs i k
theorem axR (cs:List aw)(i k j r:Nat):di (di cs i k) j r=if i=j/\k=r then di cs i k else []:=by
 unfold di;rw[List.filter_filter]
 by_cases h:i=j/\k=r
 ·obtain⟨rfl,rfl⟩:=h;rw[ab ⟨rfl,rfl⟩]
  congr 1
  funext c
  simp
 ·rw[ag h,HZ];intro c _;simp only[e9,beq_iff_eq];rintro⟨⟨E,H⟩,af,aP⟩;exact h ⟨by omega,by omega⟩
theorem ajp {α:Type}{n i:Nat}(J:i<n)(aS:Nat->List α)(h:∀k,k<n->k≠i->aS k=[]):(dU n).flatMap aS=aS i:=by
 induction n with
 |zero=>omega
 |succ n aA =>
  rw[oo,yP,qB,CJ,fG]
  by_cases aH:i=n
  ·subst aH
   have:(dU i).flatMap aS=[]:=by
    rw[ajq];intro k M;have:=g2.1 M;exact h k (by omega) (by omega)
   rw[this,jv]
  ·rw[aA (by omega) λk M=>h k (by omega),h n (by omega) (Ne.symm aH),fG]
theorem ajr {α:Type}(l:List α)(aS:α->List aw)(i k:Nat):di (l.flatMap aS) i k=l.flatMap λx=>di (aS x) i k:=by
 unfold di
 induction l with
 |nil=>rfl
 |cons a l aA=>rw[qB,qB,rV,aA]
theorem ajs {n i k:Nat}(cs:List aw)(J:i<n)(M:k<10):di (dw n cs) i k=di cs i k:=by
 unfold dw;rw[ajr];simp only[ajr,axR];rw[ajp J,ajp M]
 ·rw[ab ⟨rfl,rfl⟩]
 ·intro r _ aa;rw[ag λh=>aa h.2]
 ·intro j _ ah;rw[ajq];intro r _;rw[ag λh=>ah h.1]
theorem ajt {n:Nat}{a b:List aw}(h:∀i,i<n->∀k,k<10->di a i k=di b i k):dw n a=dw n b:=by
 unfold dw;rw[yQ,yQ]
 congr 1
 refine m3 λi J=>?_;rw[yQ,yQ]
 congr 1
 exact m3 λk M=>h i (g2.1 J) k (g2.1 M)
theorem axS (n:Nat)(cs:List aw):dw n (dw n cs)=dw n cs:=ajt λ_ J _ M=>ajs cs J M
theorem Z0 {n:Nat}{cs:List aw}(aa:∀c∈cs,0<=c.1/\c.1<n/\0<=c.2.2.1/\c.2.2.1<10){c:aw}:c∈dw n cs↔c∈cs:=by
 unfold dw;simp only[x3,g2,EU]
 constructor
 ·rintro⟨i,-,k,-,h,-⟩;exact h
 ·intro G;have:=aa c G;exact⟨c.1.toNat,by omega,c.2.2.1.toNat,by omega,G,by omega,by omega⟩
theorem H0 (a b:List ej)(aS:ej->Rat):cF (a++b) aS=cF a aS+cF b aS:=by
 induction a with
 |nil=>simp only[jv,cF];grind
 |cons c l aA=>rw[j1,cF,cF,aA];grind
theorem aju (aS:Nat->List aw)(bN:ej->Rat)(n:Nat):cF (((dU n).flatMap aS).map cA) bN=bx n λi=>cF ((aS i).map cA) bN:=by
 induction n with
 |zero=>rfl
 |succ n aA=>rw[oo,yP,kT,H0,aA,bx,qB,CJ,fG]
theorem axT {l:List ej}(av:∀c∈l,c.bp<10)(b:Nat->ej->Rat):bx 10 (λk=>cF l (λc=>if c.bp=k then b k c else 0))=cF l (λc=>b c.bp c):=by
 induction l with
 |nil=>exact sT λk _=>rfl
 |cons c l aA =>
  rw[cF,<-aA λx O=>av x (hf _ O)];have e:(λk:Nat=>cF (c::l) (λc=>if c.bp=k then b k c else 0))=λk=>(if c.bp=k then b k c else 0)+cF l (λc=>if c.bp=k then b k c else 0):=rfl;rw[e,vV]
  congr 1
  rw[yK (av c gF) λk _ M=>ag (Ne.symm M),ab rfl]
theorem Z1 {cs:List aw}(aa:∀c∈cs,0<=c.1/\0<=c.2.2.1)(i k:Nat)(bN:ej->Rat):cF ((di cs i k).map cA) bN=cF (cs.map cA) λc=>if c.aE=i/\c.bp=k then bN c else 0:=by
 induction cs with
 |nil=>rfl
 |cons c l aA =>
  have ao:=aa c gF;have aA:=aA λx O=>aa x (hf _ O);unfold di at aA ⊢;rw[eC,cF,<-aA]
  by_cases h:(cA c).aE=i/\(cA c).bp=k
  ·obtain⟨E,H⟩:=h;have ay:c.1=(i:Int):=by have:c.1.toNat=i:=E;omega
   have aB:c.2.2.1=(k:Int):=by have:c.2.2.1.toNat=k:=H;omega
   rw[v7 (by simp[ay,aB]),eC,cF,ab ⟨E,H⟩]
  ·rw[ag h,xq,As];intro ae;rw[e9,beq_iff_eq,beq_iff_eq] at ae;refine h ⟨?_,?_⟩
   ·show c.1.toNat=i;omega
   ·show c.2.2.1.toNat=k;omega
theorem ajv {n:Nat}{cs:List aw}(aa:∀c∈cs,0<=c.1/\c.1<n/\0<=c.2.2.1/\c.2.2.1<10)(bN:ej->Rat):cF ((dw n cs).map cA) bN=cF (cs.map cA) bN:=by
 unfold dw;rw[aju]
 have bW:∀c∈cs.map cA,c.aE<n:=λc G=>by
  obtain⟨x,O,rfl⟩:=dV.1 G;have:=aa x O;show x.1.toNat<n;omega
 have h6:∀c∈cs.map cA,c.bp<10:=λc G=>by
  obtain⟨x,O,rfl⟩:=dV.1 G;have:=aa x O;show x.2.2.1.toNat<10;omega
 have e:(λi=>cF (((dU 10).flatMap λk=>di cs i k).map cA) bN)=λi=>cF (cs.map cA) λc=>if c.aE=i then bN c else 0:=by
  funext i
  rw[aju,<-axT h6 λ_ c=>if c.aE=i then bN c else 0]
  congr 1
  funext k
  rw[Z1 λc G=>⟨(aa c G).1,(aa c G).2.2.1⟩];refine vW λc _=>?_
  by_cases E:c.bp=k
  ·rw[ab E]
   by_cases H:c.aE=i
   ·rw[ab ⟨H,E⟩,ab H]
   ·rw[ag λh=>H h.1,ag H]
  ·rw[ag E,ag λh=>E h.2]
 rw[e,Zd bW λ_ c=>bN c]
theorem ajw {cash:List Int}{cs:List aw}(h:kx cash cs=true):Alike (au cash cs) (au cash (dw (D cash) cs)):=by
 have aa:∀c∈cs,0<=c.1/\c.1<D cash/\0<=c.2.2.1/\c.2.2.1<10:=λc G=>by
  have:=(gQ.1 h).2.2.2 c G;exact⟨this.1,this.2.1,this.2.2.2.2.1,this.2.2.2.2.2.1⟩
 refine⟨rfl,rfl,λc=>?_,λaS=>(ajv aa aS).symm⟩;show c∈cs.map cA↔c∈(dw (D cash) cs).map cA;rw[dV,dV];simp only[Z0 aa]
theorem ajx {n:Nat}{cs:List aw}(aa:∀c∈cs,0<=c.1/\c.1<n/\0<=c.2.2.1/\c.2.2.1<10):(dw n cs).length=D cs:=by
 have E:∀l:List aw,cF (l.map cA) (λ_=>1)=(D l:Rat):=λl=>by
  induction l with
  |nil=>rfl
  |cons a l aA=>rw[eC,cF,aA,h8,Rat.natCast_add,Rat.add_comm];rfl
 have:=ajv aa λ_=>1;rw[E,E] at this;exact_mod_cast this
theorem Z2 {cash:List Int}{cs:List aw}(h:fz cash cs):fz cash (dw (D cash) cs):=by
 have iy:=gQ.1 h.right
 have aa:∀c∈cs,0<=c.1/\c.1<D cash/\0<=c.2.2.1/\c.2.2.1<10:=λc G=>by
  have:=iy.2.2.2 c G;exact⟨this.1,this.2.1,this.2.2.2.2.1,this.2.2.2.2.2.1⟩
 refine⟨gQ.2 ⟨iy.1,by rw[ajx aa];exact iy.2.1,iy.2.2.1,λc G=>iy.2.2.2 c ((Z0 aa).1 G)⟩,h.jB,by rw[ajx aa];exact h.qY,λc G=>h.am c ((Z0 aa).1 G)⟩
end Go.Mini
namespace Go.Mini
open Classical
def Day.hE (d:Day):Nat->Nat:=(d.rounds (10*d.n) λ_=>10).2
def Day.jf (d:Day):List (List Nat):=(d.rounds (10*d.n) λ_=>10).1
def Day.bP (d:Day):Nat->Rat:=d.top d.hE
theorem ajy (n k:Nat):mV n (λ_=>k)=k*n:=by
 induction n with
 |zero=>rfl
 |succ n aA=>rw[mV,aA,Nat.mul_succ]
section
variable {d:Day} (Y:d.dk)
include Y
theorem Day.dk.hex:∀f,Reach d f->∃h,nG d f h:=λ_ aa=>axj Y aa
theorem H2:Reach d d.hE/\d.ih d.hE=[]:=ah1 Y Y.hex (10*d.n) (λ_=>10) (Reach.start Y) (by rw[ajy];exact bX _)
theorem H3:nG d d.hE d.bP:=Day.Cz (Y.hex _ (H2 Y).1)
theorem Rd:∀i,i<d.n->d.bz i (d.hE i)<=d.bP i:=by
 intro i J;apply mg;intro aH;have:i∈d.ih d.hE:=Day.Mc.2 ⟨J,by unfold Day.bP at aH;grind⟩
 rw[(H2 Y).2] at this
 cases this
theorem CK:(∀i,i<d.n->d.bP i=d.uy d.bP i)/\∀i,i<d.n->(d.hE i<10↔d.bP i<d.bz i 10):=by
 obtain⟨g,E,H,af⟩:=H3 Y;exact E.final Y H af (Rd Y)
theorem axU {z:Nat->Rat}(aW:∀i,i<d.n->z i<=d.uy z i):∀i,i<d.n->z i<=d.bP i:=ah0 Y Y.hex (H2 Y).1 aW
theorem Mt {i:Nat}(J:i<d.n):0<=d.bP i:=(H3 Y).QS Y J
end
theorem axV {d e:Day}(dM:e.cX=d.cX)(a:ej->Rat)(i:Nat):e.eX a i=d.eX a i+(e.cash i-d.cash i):=by
 unfold Day.eX;rw[dM];grind
theorem axW {d e:Day}(dM:e.cX=d.cX):e.bz=d.bz:=by funext i k;unfold Day.bz;rw[dM]
theorem axX {d e:Day}(dM:e.cX=d.cX):e.S=d.S:=by funext i k;unfold Day.S;rw[dM]
theorem axY {d e:Day}(dM:e.cX=d.cX):e.w=d.w:=by funext c;unfold Day.w;rw[axX dM]
theorem axZ {d e:Day}(dM:e.cX=d.cX):e.fv=d.fv:=by funext h c;unfold Day.fv;rw[axW dM,axY dM]
theorem ax0 {d e:Day}(Y:d.dk)(he:e.dk)(aH:e.n=d.n)(dM:e.cX=d.cX)(G:∀i,i<d.n->d.cash i<=e.cash i):∀i,i<d.n->d.bP i+(e.cash i-d.cash i)<=e.bP i:=by
 have key:=axU he (z:=λi=>d.bP i+(e.cash i-d.cash i)) λi J=>by
  rw[aH] at J;have E:=(CK Y).1 i J;unfold Day.uy at E ⊢;rw[axV dM,axZ dM]
  have H:=d.Cx (a:=d.fv d.bP) (b:=d.fv λi=>d.bP i+(e.cash i-d.cash i)) (λc fx=>Y.ahW fx (by
   have:=G _ (Y.aE c fx);grind)) i
  grind
 intro i J;exact key i (by rw[aH];exact J)
theorem QJ {d:Day}(Y:d.dk)(i k:Nat):0<=d.S i k:=yL λc G=>by
 try dsimp only
 split
 ·exact Y.am c G
 ·exact gi
end Go.Mini
namespace Go.Mini
open Classical
def Day.xr (d:Day)(i r:Nat):Nat:=((dU r).filter λk=>decide (0<d.S i k)).length
theorem ax1 (d:Day)(i:Nat){r s:Nat}(h:r<=s):d.xr i r<=d.xr i s:=by
 induction s with
 |zero =>
      have:r=0:=by omega
      subst this;exact bX _
 |succ s aA =>
  by_cases aa:r=s+1
  ·rw[aa];exact bX _
  ·have:=aA (by omega);unfold Day.xr at *;rw[oo,rV,fQ];omega
theorem ax2 (d:Day)(i:Nat){r s:Nat}(h:r<s)(cJ:0<d.S i r):d.xr i r+1<=d.xr i s:=by
 have E:=ax1 d i (r:=r+1) (s:=s) (by omega);unfold Day.xr at *;rw[oo,rV,fQ,v7 (by simpa using cJ)] at E;simp only[qa,h8,List.length_nil] at E;omega
theorem ajz (d:Day)(f:Nat->Nat):(d.ih f).Pairwise (·<·):=List.Pairwise.filter _ List.pairwise_lt_range
theorem ax3 (d:Day)(f:Nat->Nat)(i:Nat):(d.ih f).count i=if i∈d.ih f then 1 else 0:=by
 have ax4:(d.ih f).Nodup:=(ajz d f).imp λh=>by omega
 rw[ax4.count]
section
variable {d:Day} (Y:d.dk)
include Y
theorem ax5 {f:Nat->Nat}(aa:Reach d f){i:Nat}(J:i<d.n):(i∈d.ih f->d.gI f (d.top f) i<f i/\0<d.S i (d.gI f (d.top f) i))/\(i ∉ d.ih f->d.gI f (d.top f) i=f i):=by
 have bA:=Day.Cz (Y.hex f aa);have hle:∀i,f i<=10:=by obtain⟨g,b6,-⟩:=bA;exact b6.le
 have aK:=Zo Y hle (h:=d.top f) λi ct=>bA.QS Y ct
 constructor
 ·intro hm;obtain⟨E,H⟩:=Day.Mc.1 hm;have af:=aK.2.1 i E H;refine⟨af.1,?_⟩;have aP:=d.sU i (d.gI f (d.top f) i);grind
 ·intro hm;refine aK.2.2 i J ?_;apply mg;intro aH;exact hm (Day.Mc.2 ⟨J,by grind⟩)
theorem ajA:∀k (f:Nat->Nat),Reach d f->(∀l∈(d.rounds k f).1,l≠[]/\l.Pairwise (·<·)/\∀i∈l,i<d.n)/\∀i,i<d.n->(d.rounds k f).1.flatten.count i+d.xr i ((d.rounds k f).2 i)<=d.xr i (f i)/\((d.rounds k f).2 i<f i↔0<(d.rounds k f).1.flatten.count i)/\(d.rounds k f).2 i<=f i
 |0,f,aa=>⟨λl av=>(by cases av),λi J=>by simp[Day.rounds]⟩
 |k+1,f,aa=>by
  unfold Day.rounds
  by_cases bI:d.ih f=[]
  ·rw[ab bI];exact⟨λl av=>(by cases av),λi J=>by simp⟩
  ·rw[ag bI];obtain⟨E,H⟩:=ajA k _ (aa.next Y Y.hex);refine⟨λl av=>?_,λi J=>?_⟩
   ·dsimp only at av;rcases hP.1 av with rfl|av
    ·exact⟨bI,ajz d f,λi J=>(Day.Mc.1 J).1⟩
    ·exact E l av
   ·obtain⟨af,aP,bt⟩:=H i J;obtain⟨f1,f2⟩:=ax5 Y aa J;dsimp only;rw[jP,List.count_append,ax3]
    by_cases hm:i∈d.ih f
    ·obtain⟨f3,f4⟩:=f1 hm;rw[ab hm];have:=ax2 d i f3 f4;refine⟨by omega,?_,by omega⟩
     constructor<;>intro _<;>omega
    ·have f3:=f2 hm;rw[f3] at af aP bt;rw[ag hm];refine⟨by omega,?_,by omega⟩
     rw[aP];omega
theorem ax6:(∀l∈d.jf,l≠[]/\l.Pairwise (·<·)/\∀i∈l,i<d.n)/\∀i,i<d.n->d.jf.flatten.count i<=d.xr i 10/\(d.bP i<d.bz i 10↔0<d.jf.flatten.count i):=by
 obtain⟨E,H⟩:=ajA Y (10*d.n) (λ_=>10) (Reach.start Y);refine⟨E,λi J=>?_⟩;obtain⟨af,aP,bt⟩:=H i J;unfold Day.jf;refine⟨by omega,?_⟩
 rw[<-aP,<-(CK Y).2 i J]
 rfl
omit Y in
theorem ax7 {i:Nat}{x:Rat}(ao:0<=x):∀k,x<d.bz i k->∃r,r<k/\d.bz i r<=x/\x<d.bz i (r+1):=by
 intro k
 induction k with
 |zero=>intro h;rw[d.QI] at h;grind
 |succ k aA =>
  intro h
  by_cases H:x<d.bz i k
  ·obtain⟨r,af,aP⟩:=aA H;exact⟨r,by omega,aP⟩
  ·exact⟨k,by omega,by grind,h⟩
theorem ax8 {i:Nat}{x:Nat->Rat}(ao:0<=x i):(∃c∈d.cX,c.aE=i/\d.fv x c<c.am)↔x i<d.bz i 10:=by
 constructor
 ·rintro⟨c,G,rfl,E⟩;apply mg;intro H;have:=Y.sV c.aE (r:=c.bp+1) (s:=10) (by have:=Y.bp c G;omega);unfold Day.fv at E;rw[ab (by grind)] at E;grind
 ·intro E;obtain⟨r,H,af,aP⟩:=ax7 ao 10 E;have bt:=d.sU i r;have cJ:0<d.S i r:=by grind
  obtain⟨c,G,aF⟩:=L3 cJ
  by_cases hH:c.aE=i/\c.bp=r
  ·obtain⟨rfl,rfl⟩:=hH;rw[ab ⟨rfl,rfl⟩] at aF;refine⟨c,G,rfl,?_⟩;unfold Day.fv;rw[ag (by grind),sW (by grind)];have hw:=Y.L5 G aF;have bU:=Day.Cw cJ;have bM:=Rat.mul_lt_mul_of_pos_left (show x c.aE-d.bz c.aE c.bp<d.S c.aE c.bp by grind) hw;grind
  ·rw[ag hH] at aF;grind
theorem ajB (i:Nat)(k:Nat):0<d.S i k↔∃c∈d.cX,c.aE=i/\c.bp=k/\0<c.am:=by
 constructor
 ·intro h;obtain⟨c,G,aF⟩:=L3 h
  by_cases hH:c.aE=i/\c.bp=k
  ·rw[ab hH] at aF;exact⟨c,G,hH.1,hH.2,aF⟩
  ·rw[ag hH] at aF;grind
 ·rintro⟨c,G,rfl,rfl,aF⟩;have:=Y.QK G;grind
end
end Go.Mini
namespace Go.Mini
open Classical
def Day.times (d:Day)(k:Rat):Day:=⟨d.n,λi=>k*d.cash i,d.cX.map λc=>⟨c.aE,c.to,c.bp,k*c.am⟩⟩
section
variable {d:Day} (Y:d.dk) {k:Rat} (M:0<k)
include M
end
section
variable {d:Day} (Y:d.dk) (dh:Nat)
include Y
end
end Go.Mini
namespace Go.Mini
open Classical
theorem ajC {d:Day}(Y:d.dk){f:Nat->Nat}{g:Nat->Rat}(J:Inv d f g):∀m (P:Nat->Prop),idle d P<=m->iH d f g P (d.ff f P)->∃P,s5 d f P/\∀i,i<d.n->d.ff f P i=d.top f i
 |m,P,hm,aF=>by
  by_cases U:∀i,i<d.n->f i<10->d.bz i (f i)<d.ff f P i->P i
  ·exact⟨P,⟨Y,g,J,aF⟩,aF.ai5 Y J U⟩
  ·have⟨i,E,H,af,aP⟩:∃i,i<d.n/\f i<10/\d.bz i (f i)<d.ff f P i/\¬ P i:=by
    apply mg;intro aH;exact U λi E H af=>mg λaP=>aH ⟨i,E,H,af,aP⟩
   have az:=ai4 (h:=d.ff f P) E H af aP
   cases m with
   |zero=>omega
   |succ m=>exact ajC Y J m _ (by omega) (aF.succ Y J)
theorem Z3 {d:Day}(Y:d.dk){f:Nat->Nat}(aa:Reach d f):∃P,s5 d f P/\∀i,i<d.n->d.ff f P i=d.top f i:=by
 obtain⟨g,J,-⟩:=aa;exact ajC Y J _ _ (bX _) (iH.first Y J)
section
variable {cash:List Int} {cs:List aw} (U:fz cash cs)
include U
theorem ajD {f:Nat->Nat}(aa:Reach (au cash cs) f){i:Nat}(J:i<D cash):ec 428 ((au cash cs).top f i):=by
 obtain⟨P,aF,he⟩:=Z3 U.ok aa;rw[<-he i J];exact ajk U aF J
theorem Au {i:Nat}(J:i<D cash):ec 428 ((au cash cs).bP i):=ajD U (H2 U.ok).1 J
theorem ax9 {i:Nat}(J:i<D cash):(au cash cs).bP i<=((2^54:Nat):Rat):=by
 obtain⟨P,aF,he⟩:=Z3 U.ok (H2 U.ok).1;have:=(Q8 U aF J).2;rw[he i J] at this;exact this
theorem ajE:∃bd:Nat,0<bd/\(∃a,a<=330/\bd<=2^a)/\∀i,i<(D cash)->fg bd ((au cash cs).bP i):=by
 obtain⟨P,aF,he⟩:=Z3 U.ok (H2 U.ok).1;obtain⟨bd,E,H,af⟩:=ajj U aF;refine⟨bd,E,H,λi J=>?_⟩;have:=af i J;rw[he i J] at this;exact this
end
section
variable {d:Day} (Y:d.dk)
include Y
end
def v8 (cash:List Int)(cs:List aw)(k:Nat):Nat:=if (au cash cs).hE k<10 then ij cs k ((au cash cs).hE k) else 1
section
variable {cash:List Int} {cs:List aw} (U:fz cash cs)
include U
theorem ajF {k:Nat}(M:k<D cash):0<v8 cash cs k:=by
 unfold v8
 split
 ·rename_i h;obtain⟨g,E,-⟩:=H3 U.ok;have H:=E.rQ (i:=k) M h;rw[<-EP U.right] at H;exact_mod_cast H
 ·omega
theorem ajG (k:Nat):v8 cash cs k<=2^54:=by
 unfold v8
 split
 ·exact U.ER _ _
 ·exact Z4
theorem ajH {bd:Nat}(m8:∀i,i<(D cash)->fg bd ((au cash cs).bP i)){c:aw}(G:c∈cs):fg (bd*v8 cash cs (cA c).aE) ((au cash cs).fv (au cash cs).bP (cA c)):=by
 have Y:=U.ok;have fx:cA c∈(au cash cs).cX:=p9 G;have M:(cA c).aE<D cash:=Y.aE _ fx;have ux:∀N,fg N (cA c).am:=λN=>fg.int N c.2.2.2;have aW:∀N,fg N (0:Rat):=fg.zero;have oe:=λr s=>@Day.dk.sV _ Y (cA c).aE r s;have h6:=Y.bp _ fx;have gq:=Rd Y _ M;unfold Day.fv
 by_cases E:(au cash cs).bz (cA c).aE ((cA c).bp+1)<=(au cash cs).bP (cA c).aE
 ·rw[ab E];exact ux _
 ·rw[ag E]
  have aK:(au cash cs).hE (cA c).aE<10:=by
   refine ((CK Y).2 _ M).2 ?_;have:=oe ((cA c).bp+1) 10 (by omega);grind
  have az:(au cash cs).bP (cA c).aE<(au cash cs).bz (cA c).aE ((au cash cs).hE (cA c).aE+1):=by
   obtain⟨g,b6,-,ey⟩:=H3 Y;have:=b6.J _ M aK;have:=ey _ M;grind
  rcases ajf (cA c).bp ((au cash cs).hE (cA c).aE) with H|H|H
  ·have:=oe ((cA c).bp+1) ((au cash cs).hE (cA c).aE) (by omega);exact absurd (vY this gq) E
  ·have hw:fg (v8 cash cs (cA c).aE) ((au cash cs).w (cA c)):=by
    unfold v8;rw[ab aK];refine⟨c.2.2.2,?_⟩;rw[EP U.right,<-H]
    have:0<(au cash cs).S (cA c).aE (cA c).bp:=by
     have:=(au cash cs).sU (cA c).aE ((au cash cs).hE (cA c).aE);rw[H];grind
    exact Day.Cw this
   have ajI:fg bd ((au cash cs).bP (cA c).aE-(au cash cs).bz (cA c).aE (cA c).bp):=by
    refine (m8 _ M).sub ?_;rw[<-uA U.right];exact fg.int _ _
   rw[sW (by rw[H];grind),rz];exact hw.mul ajI
  ·have:=oe ((au cash cs).hE (cA c).aE+1) (cA c).bp (by omega);rw[vX (by grind),nF];exact aW _
theorem Mu {c:aw}(G:c∈cs):ec 482 ((au cash cs).fv (au cash cs).bP (cA c)):=by
 obtain⟨bd,E,⟨a,H,af⟩,aP⟩:=ajE U;have fx:cA c∈(au cash cs).cX:=p9 G;have M:(cA c).aE<D cash:=U.ok.aE _ fx;have bt:=ajH U aP G;have bU:=ajF U M;have bM:=ajG U (cA c).aE;have cf:bd*v8 cash cs (cA c).aE<=2^(a+54):=by rw[vZ];exact o1 af bM
 have jt:=U.ok.Zh (au cash cs).bP fx
 have gu:(au cash cs).fv (au cash cs).bP (cA c)<=((2^50:Nat):Rat):=by
  refine vY (U.ok.Ma _ fx) ?_;have:=U.am c G;show ((c.2.2.2:Int):Rat)<=_;have:c.2.2.2<=((2^50:Nat):Int):=by omega
  rw[<-oi];exact Rat.intCast_le_intCast.2 this
 exact (bt.sz (Mi E bU) cf jt gu).mono (by omega)
end
end Go.Mini
namespace Go.Mini
open Go
theorem Mv {n:Int}{c:aw}:hS n c=true↔0<=c.1/\c.1<n /\ -1<=c.2.1/\c.2.1<n/\0<=c.2.2.1/\c.2.2.1<10/\0<=c.2.2.2/\c.2.2.2<=1000000000000000:=by
 unfold hS;simp only[e9,decide_eq_true_eq,and_assoc]
def gl (x:Int):Bool:=decide (0<=x)&&decide (x<=1000000000000000)
theorem Re {x:Int}:gl x=true↔0<=x/\x<=1000000000000000:=by
 unfold gl;simp only[e9,decide_eq_true_eq]
theorem aya (cash:List Int)(cs:List aw):kx cash cs=(decide (D cash<=60)&&decide (D cs<=2000)&&cash.all gl&&cs.all (hS (D cash))):=rfl

theorem ajJ {x y:Rat}(O:dg x)(ar:dg y)(h:lk x y=true):yv [.agg (aG (aq x)),.agg (aG (aq y))]=some (.same (.cH [.agg (aG (aq (x+y))),.int .i64 0])):=by
 have E:=kS O;have H:=kS ar;have:=agj (aq x).1.1 (aq x).1.2 (aq x).2.1 (aq x).2.2 (aq y).1.1 (aq y).1.2 (aq y).2.1 (aq y).2.2 ⟨E.1,E.2,H.1,H.2⟩;have e:vM (aq x) (aq y)=(aq (x+y),0):=by rw[WZ O ar,h];rfl
 exact this.trans (by show some (eJ.same (ez (vM (aq x) (aq y))))=_;rw[e];rfl)
theorem Z5 {x y:Rat}(O:dg x)(ar:dg y)(h:lk x (-y)=true):w8 [.agg (aG (aq x)),.agg (aG (aq y))]=some (.same (.cH [.agg (aG (aq (x-y))),.int .i64 0])):=by
 have E:=kS O;have H:=kS ar;have:=agk (aq x).1.1 (aq x).1.2 (aq x).2.1 (aq x).2.2 (aq y).1.1 (aq y).1.2 (aq y).2.1 (aq y).2.2 ⟨E.1,E.2,H.1,H.2⟩;have e:oW (aq x) (aq y)=(aq (x-y),0):=by rw[Li O ar,h];rfl
 exact this.trans (by show some (eJ.same (ez (oW (aq x) (aq y))))=_;rw[e];rfl)
theorem ajK {x y:Rat}(O:dg x)(ar:dg y)(h:z6 x y=true):yw [.agg (aG (aq x)),.agg (aG (aq y))]=some (.same (.cH [.agg (aG (aq (x*y))),.int .i64 0])):=by
 have E:=kS O;have H:=kS ar;have:=atE (aq x).1.1 (aq x).1.2 (aq x).2.1 (aq x).2.2 (aq y).1.1 (aq y).1.2 (aq y).2.1 (aq y).2.2 ⟨E.1,E.2,H.1,H.2⟩;have e:oa (aq x) (aq y)=(aq (x*y),0):=by rw[W0 O ar,h];rfl
 exact this.trans (by show some (eJ.same (ez (oa (aq x) (aq y))))=_;rw[e];rfl)
theorem ayb {x y:Rat}(O:dg x)(ar:dg y)(ao:y≠0)(h:w9 x y=true):Ep [.agg (aG (aq x)),.agg (aG (aq y))]=some (.same (.cH [.agg (aG (aq (x/y))),.int .i64 0])):=by
 have E:=kS O;have H:=kS ar;have:=atG (aq x).1.1 (aq x).1.2 (aq x).2.1 (aq x).2.2 (aq y).1.1 (aq y).1.2 (aq y).2.1 (aq y).2.2 ⟨E.1,E.2,H.1,H.2⟩;have e:j8 (aq x) (aq y)=(aq (x/y),0):=by rw[PV O ar ao,h];rfl
 exact this.trans (by show some (eJ.same (ez (j8 (aq x) (aq y))))=_;rw[e];rfl)
theorem yR {x y:Rat}(O:dg x)(ar:dg y):sG [.agg (aG (aq x)),.agg (aG (aq y))]=some (.same (.int .i64 (j9 x y))):=by
 have E:=kS O;have H:=kS ar;have:=agr (aq x).1.1 (aq x).1.2 (aq x).2.1 (aq x).2.2 (aq y).1.1 (aq y).1.2 (aq y).2.1 (aq y).2.2 ⟨E.1,E.2,H.1,H.2⟩;exact this.trans (by show some (eJ.same (.int .i64 (lM (aq x) (aq y))))=_;rw[PW O ar])
theorem Z6 {x y:Rat}:decide (j9 x y>0)=decide (y<x):=by
 have E:j9 x y>0↔y<x:=by
  unfold j9;rw[gt_iff_lt,Int.sign_pos_iff,Z7];omega
 rw[decide_eq_decide];exact E
theorem H4 {x y:Rat}:decide (j9 x y<0)=decide (x<y):=by
 have E:j9 x y<0↔x<y:=by
  unfold j9;rw[ajL,Z7];omega
 rw[decide_eq_decide];exact E
theorem ajM {x y:Rat}:decide (j9 x y>=0)=decide (y<=x):=by
 have E:j9 x y>=0↔y<=x:=by
  unfold j9;rw[ge_iff_le,Int.sign_nonneg_iff,Rat.le_iff];omega
 rw[decide_eq_decide];exact E
end Go.Mini
namespace Go.Mini
open Go
variable {P:Program} {A:Nat->Prop} {w aQ:World} {B bs:e5} {mem mem':Mem}
def yS (N:List Q->Mem->Option Data)(args:List Q)(mem:Mem):Option g8:=(N args mem).map λd => .rel (zB (.I d) mem)
@[go_sem] theorem aL1 (N:List Q->Mem->Option Data)(args:List Q)(mem:Mem):yS N args mem=(N args mem).map λd => .rel (zB (.I d) mem):=bw
theorem Z8 {T : bb}{kb : Nat}{own : List Nat}(cI : qx P T)(hm : P.follows .mixedOrders = true){f : FuncId}{fn : Func}{mf : bT}(aK : P.funcs[f]? = some fn)(tE : (fn.name == "runtime.NumGoroutine") = false)(a0 : sg P kb own fn = some { mf with body := erase mf.body })
  (c9:Key->Prop) {N:List Q->Mem->Option Data}
  (h:∀args mem d,N args mem=some d->(D args)<=mf.n/\(∀j,c9 j->mem j=none) /\
   wp T mf.body (od mf.res λm mem'=>cy 6 emp m=some d/\∀j,¬ c9 j->mem' j=mem j) ⟨kr args,mem⟩):kR P f (yS N):=by
 refine⟨Qg aK tE a0,λargs mem pf iz A w B vs b0 ak=>?_⟩;unfold yS at iz;rw[dY] at iz;obtain⟨d,oe,rfl⟩:=iz;obtain⟨hlen,ug,wF⟩:=h args mem d oe;refine Calls.mono (F7 (Post:=λm mem'=>cy 6 emp m=some d/\∀j,¬ c9 j->mem' j=mem j) cI hm aK a0 hlen (λe st M=>Qf M) wF b0 ak) λe aQ he=>?_;obtain⟨v,m,mem',bs,rfl,U,lA,Y,gp⟩:=he;exact⟨v,.I d,mem,sJ c9 bs,rfl,U.drop b0 ug ug (λj ah=>(gp j ah).symm) (λk g cs M m hm => .inr ⟨k,g,cs,M,hm⟩),.I ((Oq 6 m v d Y lA).less λb ae=>ae.imp Ew id),rfl,rfl⟩
def Mw (W:List Q->Mem->Option (Data×Key))(args:List Q)(mem:Mem):Option g8:=(W args mem).map λx => .ze x.1 x.2
@[go_sem] theorem aL2 (W:List Q->Mem->Option (Data×Key))(args:List Q)(mem:Mem):Mw W args mem=(W args mem).map λx => .ze x.1 x.2:=bw
theorem ayc {T : bb}{kb : Nat}{own : List Nat}(cI : qx P T)(hm : P.follows .mixedOrders = true){f : FuncId}{fn : Func}{mf : bT}(aK : P.funcs[f]? = some fn)(tE : (fn.name == "runtime.NumGoroutine") = false)(a0 : sg P kb own fn = some { mf with body := erase mf.body })
  (c9:Key->Prop) {W:List Q->Mem->Option (Data×Key)}
  (h:∀args mem d k,W args mem=some (d,k)->(D args)<=mf.n/\(∀j,c9 j->mem j=none)/\¬ c9 k /\
   wp T mf.body (od mf.res λm mem'=>cy 6 emp m=some d/\∀j,¬ c9 j->mem' j=a1 mem k (bY mem k) [] j) ⟨kr args,mem⟩):kR P f (Mw W):=by
 refine⟨Qg aK tE a0,λargs mem pf iz A w B vs b0 ak=>?_⟩;unfold Mw at iz;rw[dY] at iz;obtain⟨⟨d,k⟩,oe,rfl⟩:=iz;obtain⟨hlen,ug,M,wF⟩:=h args mem d k oe;refine Calls.mono (F7 (Post:=λm mem'=>cy 6 emp m=some d/\∀j,¬ c9 j->mem' j=a1 mem k (bY mem k) [] j) cI hm aK a0 hlen (λe st M=>Qf M) wF b0 ak) λe aQ he=>?_;obtain⟨v,m,mem',bs,rfl,U,lA,Y,gp⟩:=he;refine⟨v,sJ c9 bs,rfl,U.drop b0 ug (λj ah=>?_) (λj ah=>(gp j ah).symm) ?_,.I ((Oq 6 m v d Y lA).less λb ae=>ae.imp Ew id)⟩
 ·have:j≠k:=λe=>M (e ▸ ah);simp only[a1,this,if_false];exact ug j ah
 ·intro dd ck n1 H m nx
  by_cases fF:dd=k
  ·subst fF;simp only[a1,if_true,cm,fo] at H;obtain⟨-,rfl⟩:=H
   cases nx
  ·simp only[a1,fF,if_false] at H;exact .inr ⟨dd,ck,n1,H,nx⟩
open Classical in
def Mx {α:Type}(bd:α->List Q->Mem->Prop)(res:α->Data×Key):List Q->Mem->Option (Data×Key):=λargs mem=>if h:∃a,bd a args mem then some (res (tF h)) else none
theorem ayd {α:Type}{bd:α->List Q->Mem->Prop}{res:α->Data×Key}(uniq:∀a b args mem,bd a args mem->bd b args mem->res a=res b){a:α}{args:List Q}{mem:Mem}(h:bd a args mem):Mx bd res args mem=some (res a):=by
 have O:∃b,bd b args mem:=⟨a,h⟩;unfold Mx;rw[dif_pos O,uniq _ _ _ _ (ph O) h]
theorem aye {α:Type}{bd:α->List Q->Mem->Prop}{res:α->Data×Key}{args:List Q}{mem:Mem}{d:Data×Key}(h:Mx bd res args mem=some d):∃a,bd a args mem/\d=res a:=by
 unfold Mx at h
 split at h
 ·rename_i O;exact⟨_,ph O,(pN h).symm⟩
 ·cases h
open Classical in
def EV {α:Type}(bd:α->List Q->Mem->Prop)(res:α->Data):List Q->Mem->Option Data:=λargs mem=>if h:∃a,bd a args mem then some (res (tF h)) else none
theorem Z9 {α:Type}{bd:α->List Q->Mem->Prop}{res:α->Data}(uniq:∀a b args mem,bd a args mem->bd b args mem->res a=res b){a:α}{args:List Q}{mem:Mem}(h:bd a args mem):EV bd res args mem=some (res a):=by
 have O:∃b,bd b args mem:=⟨a,h⟩;unfold EV;rw[dif_pos O,uniq _ _ _ _ (ph O) h]
theorem aaa {α:Type}{bd:α->List Q->Mem->Prop}{res:α->Data}{args:List Q}{mem:Mem}{d:Data}(h:EV bd res args mem=some d):∃a,bd a args mem/\d=res a:=by
 unfold EV at h
 split at h
 ·rename_i O;exact⟨_,ph O,(pN h).symm⟩
 ·cases h
theorem ajN {α:Type}{bd:α->List Q->Mem->Prop}{bV:α->Mem->Q->Mem->Prop}(uniq:∀a b args mem,bd a args mem->bd b args mem->bV a mem=bV b mem){a:α}{args:List Q}{mem:Mem}(h:bd a args mem):ui bd bV args mem=some (bV a mem):=by
 have O:∃b,bd b args mem:=⟨a,h⟩;unfold ui;rw[dif_pos O,uniq _ _ _ _ (ph O) h]
theorem ayf {K:ba->Prop}{st:ba}{x:bS}{i k sz kc g off:Nat}{cs:List Q}(E:a3 st.tm x=.ptr kc g off)(H:st.mem kc=some (g,cs))(af:cs[off+i]?=some .nil)(aP:k≠kc)
  (h:K ⟨st.tm,a1 (a1 st.mem k (bY st.mem k) []) kc g (cs.set (off+i) (.ref k (bY st.mem k) sz 0 0))⟩):ly K st (.NJ x i k sz):=by
 simp only[ly,E,H,if_true,af];rw[ab aP];exact h
theorem ayg {K:ba->Prop}{st:ba}{x:bS}{i kc gc off k g sz o len:Nat}{cc cs:List Q}{d:Data}(E:a3 st.tm x=.ptr kc gc off)(H:st.mem kc=some (gc,cc))(af:cc[off+i]?=some (.ref k g sz o len))(aP:st.mem k=some (g,cs))(bt:nU cs=true)(bU:k≠kc)(bM:cy 1 st.mem (.ref k g sz o len)=some d)
  (h:K ⟨st.tm,a1 (kill st.mem k) kc gc (cc.set (off+i) (.I d))⟩):ly K st (.NK x i):=by
 simp only[ly,E,H,if_true,af,aP];rw[ab ⟨trivial,bt,bU⟩,bM];exact h
def eu (n:Nat)(mem m:Mem):Prop:=∀k,k/1000≠n->m k=mem k
theorem eu.refl (n:Nat)(mem:Mem):eu n mem mem:=λ_ _=>rfl
theorem eu.e6 {n k g:Nat}{cs:List Q}{mem m:Mem}(h:eu n mem m)(M:k/1000=n):eu n mem (a1 m k g cs):=λj ah=>by
 have:j≠k:=λe=>ah (by rw[e];exact M);simp only[a1,this,if_false];exact h j ah
theorem eu.kill {n k:Nat}{mem m:Mem}(h:eu n mem m)(M:k/1000=n):eu n mem (kill m k):=h.e6 M
theorem eu.at {n:Nat}{mem m:Mem}(h:eu n mem m)(k:Nat)(M:k/1000≠n):m k=mem k:=h k M
def rW (n:Nat)(mem:Mem):Prop:=∀k,k/1000=n->mem k=none
theorem rW.aE {n ajO:Nat}{mem m:Mem}(h:rW n mem)(aK:eu ajO mem m)(aH:n≠ajO):rW n m:=λk M=>by rw[aK k (by omega)];exact h k M
end Go.Mini
namespace Go.Mini
open Go
def bF (x:Int):Q:=.I (.int .i64 x)
def lr (b:Bool):Q:=.I (.bool b)
theorem v9 {α:Type}{f:α->Q}{l:List α}{k:Nat}{y:α}(h:l[k]?=some y):fM 1 (fX k (l.map f))=[f y]:=by
 obtain⟨av,rfl⟩:=dP.1 h;rw[<-List.map_drop,List.drop_eq_getElem_cons av,eC,List.take_succ_cons,mH]
structure CL (cash:List Int) (cs:List aw) (aD:List Int) (P:List Bool) (g bP gS:Nat) (mem:Mem):Prop where
 r:mem 261029=some (g,[.I (.X (cash.map ad)),.I (.X (cs.map ca)),.ref 261042 bP 1 0 (D aD),.ref 261027 gS 1 0 (D P),.I (.bool false)])
 f:mem 261042=some (bP,aD.map bF)
 p:mem 261027=some (gS,P.map lr)
theorem CL.aE {cash:List Int}{cs:List aw}{aD:List Int}{P:List Bool}{g bP gS n:Nat}{mem m:Mem}(h:CL cash cs aD P g bP gS mem)(aK:eu n mem m)(aH:n≠261):CL cash cs aD P g bP gS m :=
 ⟨(aK.at 261029 (by omega)).trans h.r,(aK.at 261042 (by omega)).trans h.f,(aK.at 261027 (by omega)).trans h.p⟩
theorem Rf {a b:List Int}(h:a.map bF=b.map bF):a=b:=map_inj (λx y h=>by simpa [bF] using h) _ _ h
theorem ayh {a b:List Bool}(h:a.map lr=b.map lr):a=b:=map_inj (λx y h=>by simpa [lr] using h) _ _ h
theorem CL.uniq {cash H5:List Int}{cs nm:List aw}{aD Av:List Int}{P ajP:List Bool}{g bP gS c0 ajQ Rg:Nat}{mem:Mem}(h:CL cash cs aD P g bP gS mem)(cn:CL H5 nm Av ajP c0 ajQ Rg mem):cash=H5/\cs=nm/\aD=Av/\P=ajP/\g=c0/\bP=ajQ/\gS=Rg:=by
 have E:=h.r;rw[cn.r] at E;simp only[cm,fo,a6,Q.I.injEq,Data.X.injEq,Q.ref.injEq,true_and,and_true] at E;obtain⟨ay,aB,bG,⟨dp,-⟩,bK,-⟩:=E;have H:=h.f;rw[cn.f] at H;simp only[cm,fo] at H;have af:=h.p;rw[cn.p] at af;simp only[cm,fo] at af;exact⟨(map_inj fi _ _ aB).symm,(map_inj rU _ _ bG).symm,(Rf H.2).symm,(ayh af.2).symm,ay.symm,dp.symm,bK.symm⟩
structure Rh where
 cash:List Int
 cs:List aw
 aD:List Int
 P:List Bool
 g:Nat
 bP:Nat
 gS:Nat
def Rh.eI (a:Rh)(mem:Mem):Prop:=CL a.cash a.cs a.aD a.P a.g a.bP a.gS mem
theorem Rh.uniq {a b:Rh}{mem:Mem}(h:a.eI mem)(cn:b.eI mem):a=b:=by
 obtain⟨cQ,de,ep,fe,o2,s6,ajR⟩:=a;obtain⟨c1,ee,jz,lq,ayi,ajS,ajT⟩:=b;have:=CL.uniq h cn;dsimp only at this;obtain⟨rfl,rfl,rfl,rfl,rfl,rfl,rfl⟩:=this
 rfl
theorem eu.same {n k g:Nat}{cs:List Q}{mem m:Mem}(h:eu n mem m)(hm:mem k=some (g,cs)):eu n mem (a1 m k g cs):=λj ah=>by
 by_cases e:j=k
 ·subst e;simp only[a1,if_true];exact hm.symm
 ·simp only[a1,e,if_false];exact h j ah
theorem o3 {z:Int}(E:-9000000000000000000<=z)(H:z<=9000000000000000000):dA z:=by unfold dA;omega
theorem HX.upto {cs:List aw}(h:HX cs)(i r:Int):0<=cO cs i r/\cO cs i r<=2000000000000000000:=by
 have:=h.sum (λc=>c.1=i/\c.2.2.1<r) (D cs);rw[lK] at this;exact this
theorem ayj {p q:Int}(aF:dA p)(aO:dA q)(ao:q≠0):hK (bQ p) (bQ q)=(aq ((p:Rat)/(q:Rat)),0):=by
 rw[z3 (yr aF) (yr aO) ao,Ml]
def kW (cs:List aw)(i r:Int):Int:=cO cs i (r+1)-cO cs i r
end Go.Mini
namespace Go.Mini
open Go Classical
def bJ (aD:List Int)(i:Nat):Nat:=(aD.getD i 10).toNat
def fw (P:List Bool)(i:Nat):Prop:=P.getD i false=true
theorem Aw {z:Int}{b:Nat}(h:z.natAbs<=2^b):ec b (z:Rat):=⟨by rw[ajU];exact h,by rw[ajV];exact Z4⟩
theorem ayk {cash:List Int}{cs:List aw}(U:fz cash cs){c:aw}(G:c∈cs):ec 54 ((au cash cs).w (cA c)):=by
 have aa:=(gQ.1 U.right).2.2.2 c G;have ux:=U.am c G
 by_cases ao:c.2.2.2=0
 ·have:(cA c).am=0:=by show ((c.2.2.2:Int):Rat)=0;rw[ao];rfl
  rw[Day.LG this];exact⟨fs _,Z4⟩
 ·have cJ:=EP U.right (cA c).aE (cA c).bp;have hle:=(ah2 U.right).QK (c:=cA c) (p9 G);rw[<-cJ] at hle
  have E:c.2.2.2<=((ij cs (cA c).aE (cA c).bp:Nat):Int):=by
   have:((c.2.2.2:Int):Rat)<=(((ij cs (cA c).aE (cA c).bp:Nat):Int):Rat):=by rw[oi];exact hle
   exact_mod_cast this
  have H:=U.ER (cA c).aE (cA c).bp
  obtain⟨f1,f2⟩:=CC (q:=(au cash cs).w (cA c)) (v:=c.2.2.2) (d:=((ij cs (cA c).aE (cA c).bp:Nat):Int)) (by omega) (by
   rw[oi,cJ];refine Day.Cw ?_;rw[<-cJ];have:0<ij cs (cA c).aE (cA c).bp:=by omega
   exact_mod_cast this)
  rw[mR] at f2;exact⟨by omega,by omega⟩
section
variable {cash:List Int} {cs:List aw} (U:fz cash cs) (f:Nat->Nat) (P:Nat->Prop) (i:Nat) (cJ:∀k,P k->0<(au cash cs).S k (f k))
include U cJ
end
end Go.Mini
namespace Go.Mini
open Go
theorem EW:dA 0:=by unfold dA;omega
theorem Ri:dA 1:=by unfold dA;omega
theorem ayl {N k:Nat}(x:Nat->Rat)(y:Rat):(dC N x).set k (aq y)=dC N λj=>if j=k then y else x j:=by
 refine Mq (by rw[iY,pD]) λj ah=>?_;rw[nC]
 by_cases h:k=j
 ·rw[ab h,ab (by rw[pD];omega),ab h.symm]
 ·rw[ag h,s4 _ ah,ag (Ne.symm h)]
theorem ajW {α:Type}{l:List α}{k:Nat}{d x:α}(h:l[k]?=some x):l.getD k d=x:=by rw[dZ,h];rfl
theorem aym (r:e0):((ka r).map Q.I).all Q.one=true:=rfl

def nH (n:Nat)(p:Nat->Bool):List Bool:=(dU n).map p
theorem Rj (n:Nat)(p:Nat->Bool):(nH n p).length=n:=by simp[nH]
theorem Rk {n i:Nat}(p:Nat->Bool)(h:i<n):(nH n p)[i]?=some (p i):=by
 unfold nH;rw[bh,tn h];rfl
theorem ayn {n:Nat}{p q:Nat->Bool}(h:∀i,i<n->p i=q i):nH n p=nH n q:=m3 λi J=>h i (g2.1 J)
theorem Rl {n i:Nat}{p:Nat->Bool}:fw (nH n p) i↔i<n/\p i=true:=by
 unfold fw;rcases ir i n with h|h
 ·rw[ajW (Rk p h)];exact⟨λe=>⟨h,e⟩,λe=>e.2⟩
 ·rw[dZ,mx (by rw[Rj];exact h)];simp;omega
def wa (d:Day)(f:Nat->Nat)(h:Nat->Rat)(i:Nat):Bool:=decide (f i<10)&&decide (d.bz i (f i)<h i)
def oq (d:Day)(f:Nat->Nat)(h:Nat->Rat)(p:Nat->Bool)(i j:Nat):Bool:=p j||(decide (j<i)&&wa d f h j)
def yT (d:Day)(f:Nat->Nat)(h:Nat->Rat)(p:Nat->Bool)(i:Nat):Bool:=(dU i).any λj => !p j&&wa d f h j
theorem ayo (d:Day)(f:Nat->Nat)(h:Nat->Rat)(p:Nat->Bool)(i:Nat):yT d f h p (i+1)=(yT d f h p i||(!p i&&wa d f h i)):=by
 unfold yT;rw[oo,List.any_append];simp
theorem ajX (d:Day)(f:Nat->Nat)(h:Nat->Rat)(p:Nat->Bool)(i:Nat):oq d f h p i i=p i:=by
 unfold oq;rw[mo (Nat.lt_irrefl i),fB,l3]
theorem ajY (d:Day)(f:Nat->Nat)(h:Nat->Rat)(p:Nat->Bool)(i j:Nat):oq d f h p (i+1) j=if j=i then (p i||wa d f h i) else oq d f h p i j:=by
 unfold oq
 by_cases ah:j=i
 ·subst ah;rw[ab rfl,lU (Nat.lt_succ_self j),g1]
 ·rw[ag ah]
  congr 2
  rw[decide_eq_decide];omega
theorem ayp {d:Day}{f:Nat->Nat}{h:Nat->Rat}{p:Nat->Bool}:fw (nH d.n (oq d f h p d.n))=sX d f (fw (nH d.n p)) h:=by
 funext i
 apply propext;rw[Rl];unfold sX oq wa;rw[Rl]
 constructor
 ·rintro⟨E,H⟩;rw[x5] at H;rcases H with H|H
  ·exact .inl ⟨E,H⟩
  ·simp only[e9,decide_eq_true_eq] at H;exact .inr ⟨E,H.2⟩
 ·rintro (⟨E,H⟩|⟨E,H⟩)
  ·exact⟨E,by rw[H];rfl⟩
  ·refine⟨E,?_⟩;rw[x5]
   right
   simp only[e9,decide_eq_true_eq];exact⟨E,H⟩
theorem ayq {n:Nat}:fw (nH n λ_=>false)=λ_=>False:=by
 funext i
 apply propext;rw[Rl];simp
theorem ayr {d:Day}{f:Nat->Nat}{h:Nat->Rat}{p:Nat->Bool}{n:Nat}(hm:yT d f h p n=true):mV n (λi=>if oq d f h p n i then 0 else 1)<mV n λi=>if p i then 0 else 1:=by
 unfold yT at hm;rw[List.any_eq_true] at hm;obtain⟨j,ah,H⟩:=hm;have ah:=g2.1 ah;simp only[e9,uf] at H;refine Zp (j:=j) (λi J=>?_) ah ?_
 ·unfold oq
  cases p i
  ·try dsimp only
   split<;>simp
  ·simp
 ·unfold oq;rw[H.1,H.2,lU ah]
  decide
theorem ays {d:Day}{f:Nat->Nat}{h:Nat->Rat}{p:Nat->Bool}{n:Nat}(hm:yT d f h p n=false){i:Nat}(J:i<n)(E:f i<10)(H:d.bz i (f i)<h i):p i=true:=by
 unfold yT at hm;rw[xj] at hm;have:=hm i (g2.2 J);unfold wa at this;rw[lU E,lU H] at this
 simpa using this
def eG (cs:List aw)(x:Rat)(c:aw):Rat:=if ((cO cs c.1 (c.2.2.1+1):Int):Rat)<=x then (c.2.2.2:Rat) else (c.2.2.2:Rat)/((kW cs c.1 c.2.2.1:Int):Rat)*pos (x-((cO cs c.1 c.2.2.1:Int):Rat))
theorem yU {cash:List Int}{cs:List aw}(h:kx cash cs=true)(x:Nat->Rat){c:aw}(G:c∈cs):(au cash cs).fv x (cA c)=eG cs (x c.1.toNat) c:=by
 have aa:=(gQ.1 h).2.2.2 c G;obtain⟨aI,c2,c3,c4⟩:=c;dsimp only at aa;obtain⟨aI,rfl⟩:∃k:Nat,aI=(k:Int):=⟨aI.toNat,by omega⟩
 obtain⟨c3,rfl⟩:∃k:Nat,c3=(k:Int):=⟨c3.toNat,by omega⟩
 unfold Day.fv eG Day.w;have E:=uA h aI (c3+1);have H:=uA h aI c3;have af:=QV h aI c3;have ay:(cA ((aI:Int),c2,(c3:Int),c4)).aE=aI:=lH aI;have aB:(cA ((aI:Int),c2,(c3:Int),c4)).bp=c3:=lH c3;have bG:(cA ((aI:Int),c2,(c3:Int),c4)).am=(c4:Rat):=rfl;rw[ay,aB,bG,<-E,<-H,<-af]
 rfl
structure ky (l:List aw):Prop where
 len:(D l)<=12
 c:∀c∈l,0<=c.1/\c.1<60 /\ -1<=c.2.1/\c.2.1<60/\0<=c.2.2.1/\c.2.2.1<10/\0<=c.2.2.2/\c.2.2.2<=1000000000000000
 one:∀c∈l,∀c'∈l,c.1=c'.1
theorem ky.cs {l:List aw}(h:ky l):HX l:=⟨by have:=h.len;omega,λc G=>by have:=h.c c G;omega⟩
def mi {α:Type}(enc:α->List Q)(l:List α):List Q:=(l.map enc).flatten
theorem ayt {α:Type}{enc:α->List Q}{sz:Nat}(h:∀a,(enc a).length=sz)(l:List α):(mi enc l).length=D l*sz:=by
 unfold mi
 induction l with
 |nil=>simp
 |cons a l aA=>rw[eC,jP,fQ,aA,h,h8,tp];omega
theorem ajZ {α:Type}{enc:α->List Q}{sz:Nat}(h:∀a,(enc a).length=sz):∀(l:List α) (i:Nat),i<(D l)->∀b,fM (i*sz) (mi enc l)++enc b++fX (i*sz+sz) (mi enc l)=mi enc (l.set i b)
 | [],i,J,b=>absurd J (by simp)
 |a::l,0,_,b=>by
  have aM:=h a;unfold mi;simp only[Nat.zero_mul,Nat.zero_add,mH,jv,eC,jP,rN];rw[<-aM,List.drop_left]
 |a::l,i+1,J,b=>by
  have aM:=h a;have aA:=ajZ h l i (by simpa using J) b;unfold mi at aA ⊢;simp only[eC,jP,Hr];rw[<-aA,tp,List.take_append,oN,aM];rw[dx (by omega),jV (by omega),jv];rw[show i*sz+sz-sz=i*sz by omega,show i*sz+sz+sz-sz=i*sz+sz by omega]
  simp only[gM]
def bD {α:Type}(n:Nat)(q:Nat->α):List α:=(dU n).map q
theorem gT {α:Type}(n:Nat)(q:Nat->α):(bD n q).length=n:=by simp[bD]
theorem jg {α:Type}{n i:Nat}(q:Nat->α)(h:i<n):(bD n q)[i]?=some (q i):=by
 unfold bD;rw[bh,tn h];rfl
theorem aab {α:Type}{n:Nat}{l:List α}{q:Nat->α}(av:(D l)=n)(h:∀i,i<n->l[i]?=some (q i)):l=bD n q:=by
 apply pM;intro i;rcases ir i n with J|J
 ·rw[h i J,jg q J]
 ·rw[mx (by omega),mx (by rw[gT];exact J)]
theorem Ax {α:Type}{n i:Nat}(q:Nat->α)(b:α):(bD n q).set i b=bD n λj=>if j=i then b else q j:=by
 refine aab (by rw[iY,gT]) λj ah=>?_;rw[nC]
 by_cases h:i=j
 ·rw[ab h,ab (by rw[gT];omega),ab h.symm]
 ·rw[ag h,jg _ ah,ag (Ne.symm h)]
theorem kX {α:Type}{n:Nat}{p q:Nat->α}(h:∀i,i<n->p i=q i):bD n p=bD n q:=m3 λi J=>h i (g2.1 J)
def qZ:Option bg->List Q
 |none=>[.I (.int .i64 0),.nil,.I (.int .i64 0),.nil]
 |some f=>(aG f).map .I
theorem aj0:∀a,(qZ a).length=4
 |none=>rfl
 |some _=>rfl
theorem aj1 (n:Nat):(dD n [Q.I (.int .i64 0),Q.nil,Q.I (.int .i64 0),Q.nil]).flatten=mi qZ (bD n λ_=>none):=by
 unfold mi bD;rw[m4]
 congr 1
 apply pM;intro i;rw[bh];rcases ir i n with J|J
 ·rw[tn J,aj2,ab J];rfl
 ·rw[mx (by simpa using J),mx (by simpa using J)];rfl
theorem aj3 (l:List bg):mi qZ (l.map some)=a8 aG l:=by
 unfold mi a8
 induction l with
 |nil=>rfl
 |cons f l aA =>
  simp only[eC,jP,kT];rw[aA];rfl
theorem aac {n i:Nat}{q:Nat->Option bg}(h:i<n):(i*4+4<=(mi qZ (bD n q)).length)=True:=eq_true (by rw[ayt aj0,gT];omega)
theorem aad {n i:Nat}{q:Nat->Option bg}(h:i<n)(a:Int)(b:List Int)(c:Int)(d:List Int):
  fM (i*4) (mi qZ (bD n q))++[Q.I (.int .i64 a),.I (.X (b.map ad)),.I (.int .i64 c),.I (.X (d.map ad))]++fX (i*4+4) (mi qZ (bD n q))=mi qZ (bD n λj=>if j=i then some ((a,b),(c,d)) else q j):=by
 rw[<-Ax];exact ajZ aj0 (bD n q) i (by rw[gT];exact h) (some ((a,b),(c,d)))
structure H6 (l:List aw) (x:Rat):Prop where
 own:ky l
 pos:0<=x
 sz:ec 460 x
theorem ky.less {l:List aw}(h:ky l){c:aw}(G:c∈l)(r:Int):(cK l λc'=>if c'.2.2.1<r then c'.2.2.2 else 0)=cO l c.1 r:=by
 unfold cO;refine HM λc' lZ=>?_;have:=h.one c' lZ c G
 by_cases E:c'.2.2.1<r
 ·rw[ab E,ab ⟨this,E⟩]
 ·rw[ag E,ag λh=>E h.2]
theorem aae (l:List aw)(aS bN:aw->Int):cK l (λc=>aS c+bN c)=cK l aS+cK l bN:=by
 induction l with
 |nil=>simp[cK]
 |cons c l aA=>simp only[cK,aA];omega
theorem ky.same {l:List aw}(h:ky l){c:aw}(G:c∈l)(r:Int):(cK l λc'=>if c'.2.2.1=r then c'.2.2.2 else 0)=kW l c.1 r:=by
 have E:=h.less G r;have H:=h.less G (r+1)
 have af:(cK l λc'=>if c'.2.2.1<r+1 then c'.2.2.2 else 0)=(cK l λc'=>if c'.2.2.1<r then c'.2.2.2 else 0)+cK l λc'=>if c'.2.2.1=r then c'.2.2.2 else 0:=by
  rw[<-aae];refine HM λc _=>?_
  by_cases b6:c.2.2.1<r
  ·rw[ab (by omega),ab b6,ag (by omega)];omega
  ·rw[ag b6]
   by_cases dd:c.2.2.1=r
   ·rw[ab (by omega),ab dd];omega
   ·rw[ag (by omega),ag dd];omega
 unfold kW;omega
theorem ky.bound {l:List aw}(h:ky l)(p:aw->Prop)[DecidablePred p]:0<=cK l (λc=>if p c then c.2.2.2 else 0)/\cK l (λc=>if p c then c.2.2.2 else 0)<=12000000000000000:=by
 have:=QU (cs:=l) (aS:=λc=>if p c then c.2.2.2 else 0) (B:=1000000000000000) (by omega) λc G=>by
  have:=h.c c G
  try dsimp only
  split<;>omega
 have:=h.len;omega
theorem aj4 (cs:List aw)(i r:Int):kW cs i r=cK cs λc=>if c.1=i/\c.2.2.1=r then c.2.2.2 else 0:=by
 have af:cO cs i (r+1)=cO cs i r+cK cs λc=>if c.1=i/\c.2.2.1=r then c.2.2.2 else 0:=by
  unfold cO;rw[<-aae];refine HM λc _=>?_
  split<;>split<;>split<;>omega
 unfold kW;omega
theorem ayu {cs:List aw}{aS:aw->Int}(h:∀c∈cs,0<=aS c){c:aw}(G:c∈cs):aS c<=cK cs aS:=by
 induction cs with
 |nil=>cases G
 |cons a l aA =>
  simp only[cK];have ao:=h a gF
  have E:0<=cK l aS:=by
   have:∀l:List aw,(∀c∈l,0<=aS c)->0<=cK l aS:=by
    intro l
    induction l with
    |nil=>intro _;exact Q3 _
    |cons b l QZ=>intro aT;simp only[cK];have:=aT b gF;have:=QZ λc G=>aT c (hf _ G);omega
   exact this l λc G=>h c (hf _ G)
  rcases hP.1 G with rfl|G
  ·omega
  ·have:=aA (λc G=>h c (hf _ G)) G;omega
theorem aj5 {cs:List aw}(h:∀c∈cs,0<=c.2.2.2){c:aw}(G:c∈cs):c.2.2.2<=kW cs c.1 c.2.2.1:=by
 rw[aj4];have:=ayu (aS:=λc'=>if c'.1=c.1/\c'.2.2.1=c.2.2.1 then c'.2.2.2 else 0) (λc' lZ=>by have:=h c' lZ;split<;>omega) G;rwa [ab ⟨rfl,rfl⟩] at this
section
variable {cs:List aw} {x:Rat} {c:aw}
theorem aaf (cs:List aw)(i r:Int):((cO cs i (r+1):Int):Rat)=((cO cs i r:Int):Rat)+((kW cs i r:Int):Rat):=by
 rw[<-uz]
 congr 1
 unfold kW;omega
theorem aj6 (aH:∀c∈cs,0<=c.2.2.2)(G:c∈cs)(h:x-((cO cs c.1 c.2.2.1:Int):Rat)<=0):eG cs x c=0:=by
 unfold eG;have E:=aj5 aH G;have H:=aH c G;rw[aaf]
 split
 ·rename_i af
  have aP:((kW cs c.1 c.2.2.1:Int):Rat)<=((0:Int):Rat):=by
   have:((0:Int):Rat)=0:=rfl;rw[this];generalize ((cO cs c.1 c.2.2.1:Int):Rat)=u at *;grind
  have bt:kW cs c.1 c.2.2.1<=0:=by exact_mod_cast aP
  rw[show c.2.2.2=0 by omega];rfl
 ·rw[vX h,nF]
theorem ayv (h:((kW cs c.1 c.2.2.1:Int):Rat)<=x-((cO cs c.1 c.2.2.1:Int):Rat)):eG cs x c=(c.2.2.2:Rat):=by
 unfold eG;rw[aaf,ab];generalize ((cO cs c.1 c.2.2.1:Int):Rat)=u at *;generalize ((kW cs c.1 c.2.2.1:Int):Rat)=s at *;grind
theorem ayw (ao:0<=x-((cO cs c.1 c.2.2.1:Int):Rat))(h:x-((cO cs c.1 c.2.2.1:Int):Rat)<((kW cs c.1 c.2.2.1:Int):Rat)):eG cs x c=(c.2.2.2:Rat)*(x-((cO cs c.1 c.2.2.1:Int):Rat))/((kW cs c.1 c.2.2.1:Int):Rat):=by
 unfold eG;rw[aaf,ag,sW ao]
 ·generalize ((cO cs c.1 c.2.2.1:Int):Rat)=u at *;generalize ((kW cs c.1 c.2.2.1:Int):Rat)=s at *;grind
 ·generalize ((cO cs c.1 c.2.2.1:Int):Rat)=u at *;generalize ((kW cs c.1 c.2.2.1:Int):Rat)=s at *;grind
end
theorem qb {n:Int}(h:dA n):dg (n:Rat):=⟨by rw[ajU];exact yr h,by rw[ajV];decide +kernel⟩
theorem aj7 {x:Rat}:decide (x.num.sign<0)=decide (x<0):=by
 have:x.num.sign<0↔x<0:=by
  rw[ajL,Z7,Rat.zero_num,Rat.zero_den];omega
 rw[decide_eq_decide];exact this
def jh:aw:=(0,0,0,0)
def EX (l:List aw)(x:Rat)(j:Nat):bg:=aq (eG l x (l.getD j jh))
theorem ayx (l:List aw)(x:Rat):(bD (D l) λj=>some (EX l x j))=(l.map λc=>aq (eG l x c)).map some:=by
 symm
 refine aab (by simp) λi J=>?_;rw[bh,bh,bu J];unfold EX;rw[ajW (bu J)];rfl
def cG (cs:List aw)(dh:Int):List aw:=cs.filter λc=>c.1==dh
theorem ayy (cs:List aw)(dh:Int)(p:aw->Prop)[DecidablePred p]:cK (cG cs dh) (λc=>if c.1=dh/\p c then c.2.2.2 else 0)=cK cs λc=>if c.1=dh/\p c then c.2.2.2 else 0:=by
 unfold cG
 induction cs with
 |nil=>rfl
 |cons c l aA =>
  by_cases h:c.1=dh
  ·rw[v7 (by simpa using h)];simp only[cK,aA]
  ·rw[xq (by simpa using h),aA];simp only[cK];rw[ag λaT=>h aT.1];omega
theorem aj8 (cs:List aw)(dh r:Int):cO (cG cs dh) dh r=cO cs dh r:=ayy cs dh λc=>c.2.2.1<r
theorem ot {cs:List aw}{dh:Int}{c:aw}:c∈cG cs dh↔c∈cs/\c.1=dh:=by
 unfold cG;rw[sY,beq_iff_eq]
theorem aj9 {cs:List aw}{dh:Int}{x:Rat}{c:aw}(h:c.1=dh):eG (cG cs dh) x c=eG cs x c:=by
 unfold eG kW;rw[h,aj8,aj8]
theorem ayz (cs:List aw)(dh:Int)(x:Rat):((cG cs dh).map λc=>aq (eG (cG cs dh) x c))=(cG cs dh).map λc=>aq (eG cs x c) :=
 m3 λc G=>by rw[aj9 (ot.1 G).2]
theorem fz.own {cash:List Int}{cs:List aw}(h:fz cash cs)(dh:Int):ky (cG cs dh):=by
 have aa:=gQ.1 h.right;have aH:=h.jB;refine⟨?_,λc G=>?_,λc G c' lZ=>?_⟩
 ·have:=om (λc:aw=>c.1==dh) cs;have:=h.qY;unfold cG;omega
 ·have E:=aa.2.2.2 c (ot.1 G).1;have H:=h.am c (ot.1 G).1;omega
 ·rw[(ot.1 G).2,(ot.1 lZ).2]
theorem aka (n:Nat):((iG n).map Q.I).all Q.one=true:=rfl
def uI (d:Day)(f:Nat->Nat)(h:Nat->Rat)(i:Nat):List Nat:=(dU i).filter λj=>decide (h j<d.bz j (f j))
theorem ayA (d:Day)(f:Nat->Nat)(h:Nat->Rat)(i:Nat):uI d f h (i+1)=if h i<d.bz i (f i) then uI d f h i++[i] else uI d f h i:=by
 unfold uI;rw[oo,rV]
 by_cases aT:h i<d.bz i (f i)
 ·rw[ab aT,v7 (by simpa using aT),qa]
 ·rw[ag aT,xq (by simpa using aT),qa,fG]
theorem ayB (d:Day)(f:Nat->Nat)(h:Nat->Rat)(i:Nat):(uI d f h i).length<=i:=by
 have:=om (λj=>decide (h j<d.bz j (f j))) (dU i);rw[sn] at this;exact this
end Go.Mini
namespace Go.Mini
open Classical
def km (d:Day)(l:List aw)(i:Nat):Rat:=cF (l.map cA) λc=>if c.to=(i:Int) then d.w c else 0
theorem ayC (d:Day)(i:Nat):km d [] i=0:=rfl
theorem akb (d:Day)(l:List aw)(c:aw)(i:Nat):km d (l++[c]) i=km d l i+if c.2.1=(i:Int) then d.w (cA c) else 0:=by
 unfold km;rw[kT,H0]
 congr 1
 show (if (cA c).to=(i:Int) then d.w (cA c) else 0)+0=_;rw[p5]
 rfl
theorem ayD {cash:List Int}{cs:List aw}(h:kx cash cs=true)(f:Nat->Nat)(k i:Nat):km (au cash cs) (di cs k (f k)) i=(au cash cs).W f k i:=by
 have aa:=(gQ.1 h).2.2.2;unfold km Day.W;rw[Z1 λc G=>⟨(aa c G).1,(aa c G).2.2.2.2.1⟩];refine vW λc _=>?_
 by_cases E:c.aE=k/\c.bp=f k
 ·rw[ab E]
  by_cases H:c.to=(i:Int)
  ·rw[ab H,ab ⟨H,E⟩]
  ·rw[ag H,ag λh=>H h.1]
 ·rw[ag E,ag λh=>E h.2]
section
variable {cash:List Int} {cs:List aw} (U:fz cash cs) {k r:Nat} (cJ:0<(au cash cs).S k r)
include U cJ
theorem Rm {c:aw}(G:c∈di cs k r):fg (ij cs k r) ((au cash cs).w (cA c))/\0<=(au cash cs).w (cA c)/\(au cash cs).w (cA c)=(c.2.2.2:Rat)/((kW cs k r:Int):Rat):=by
 obtain⟨E,H,af⟩:=EU.1 G;have ay:(cA c).aE=k:=by show c.1.toNat=k;omega
 have aB:(cA c).bp=r:=by show c.2.2.1.toNat=r;omega
 have hm:cA c∈(au cash cs).cX:=p9 E;refine⟨⟨c.2.2.2,?_⟩,U.ok.pB hm,?_⟩
 ·rw[EP U.right,<-ay,<-aB];exact Day.Cw (by rw[ay,aB];exact cJ)
 ·unfold Day.w kW;rw[ay,aB];have:=QV U.right k r;rw[<-this]
  rfl
theorem ayE {l:List aw}(av:∃fS,di cs k r=l++fS)(i:Nat):ec 54 (km (au cash cs) l i):=by
 obtain⟨fS,av⟩:=av;have gp:∀c∈l,c∈di cs k r:=λc G=>by rw[av];simp[G]
 have ayF:∀c∈fS,c∈di cs k r:=λc G=>by rw[av];simp[G]
 have Y:fg (ij cs k r) (km (au cash cs) l i):=by
  unfold km;refine fg.cF λx O=>?_;obtain⟨c,G,rfl⟩:=dV.1 O
  split
  ·exact (Rm U cJ (gp c G)).1
  ·exact fg.zero _
 have ao:∀m:List aw,(∀c∈m,c∈di cs k r)->0<=km (au cash cs) m i:=λm hm=>yL λx O=>by
  obtain⟨c,G,rfl⟩:=dV.1 O
  try dsimp only
  split
  ·exact (Rm U cJ (hm c G)).2.1
  ·exact gi
 have E:km (au cash cs) l i<=1:=by
  have e:km (au cash cs) (di cs k r) i=km (au cash cs) l i+km (au cash cs) fS i:=by
   rw[av];unfold km;rw[kT,H0]
  have aB:km (au cash cs) (di cs k r) i<=cF ((di cs k r).map cA) (au cash cs).w:=EJ λx O=>by
   obtain⟨c,G,rfl⟩:=dV.1 O;have:=(Rm U cJ G).2.1
   split
   ·exact gi
   ·exact this
  have aa:=(gQ.1 U.right).2.2.2;rw[Z1 λc G=>⟨(aa c G).1,(aa c G).2.2.2.2.1⟩] at aB
  have bG:cF (cs.map cA) (λc=>if c.aE=k/\c.bp=r then (au cash cs).w c else 0)=1:=by
   have M:k<(au cash cs).n:=by
    obtain⟨c,G,aF⟩:=L3 cJ
    by_cases hH:c.aE=k/\c.bp=r
    ·rw[<-hH.1];exact U.ok.aE c G
    ·rw[ag hH] at aF;grind
   have:=U.ok.L7 (λj=>j=k) (λ_=>r) (λj ah=>by subst ah;exact cJ) λ_=>1;rw[yK M (λj _ ah=>by rw[ag ah]),ab rfl] at this;refine (vW λc _=>?_).trans this
   by_cases G:c.aE=k/\c.bp=r
   ·rw[ab G,ab G,Rat.mul_one]
   ·rw[ag G,ag G]
  have:=ao fS ayF;grind
 have gG:0<ij cs k r:=by
  rw[<-EP U.right] at cJ;exact_mod_cast cJ
 exact (Y.sz gG (U.ER k r) (ao l gp) (e:=0) (by rw[show ((2^0:Nat):Rat)=1 from rfl];exact E)).mono (by omega)
end
end Go.Mini
namespace Go.Mini
open Go
def kn (l:List aw):Q:=if l=[] then .nil else .I (.X (l.map ca))
theorem ayG {a b:List aw}(h:kn a=kn b):a=b:=by
 unfold kn at h
 by_cases aM:a=[]<;>by_cases ae:b=[]
 ·rw[aM,ae]
 ·rw[ab aM,ag ae] at h;cases h
 ·rw[ag aM,ab ae] at h;cases h
 ·rw[ag aM,ag ae] at h;exact map_inj rU _ _ (Data.X.inj (Q.I.inj h))
theorem akc (l:List aw):qi (kn l)=some (D l):=by
 unfold kn
 split
 ·rename_i h;rw[h];rfl
 ·simp[qi]
theorem akd {l:List aw}{n:Nat}{c:aw}(h:l[n]?=some c):zd 4 n (kn l)=some (.I (.ptr (ca c))):=by
 unfold kn
 split
 ·rename_i av;rw[av] at h;cases h
 ·simp only[zd,bh,h,Option.map_some];rw[ab (ET c)]
structure ou where
 cash:Int
 cX:List (List aw)
 us:List Int
 f:Int
 p:Bool
def fE (x:ou):List Q:=bF x.cash::(x.cX.map kn++(x.us.map bF++[bF x.f,lr x.p]))
def ou.xt (x:ou)(f:Int):ou:=⟨x.cash,x.cX,x.us,f,x.p⟩
def ou.sp (x:ou)(p:Bool):ou:=⟨x.cash,x.cX,x.us,x.f,p⟩
structure ou.dk (x:ou):Prop where
 cX:(D x.cX)=10
 us:(D x.us)=11
theorem CM {x:ou}(h:x.dk):(fE x).length=24:=by
 simp[fE,h.cX,h.us]
theorem ayH {x y:ou}(O:x.dk)(ar:y.dk)(h:fE x=fE y):x=y:=by
 unfold fE at h;obtain⟨E,H⟩:=wU h;obtain⟨af,aP⟩:=Gt H (by rw[ai,ai,O.cX,ar.cX]);obtain⟨bt,bU⟩:=Gt aP (by rw[ai,ai,O.us,ar.us]);obtain⟨bM,cf⟩:=wU bU;obtain⟨jt,-⟩:=wU cf;obtain⟨a7,b3,cZ,eo,ji⟩:=x;obtain⟨oR,oS,EY,EZ,aL3⟩:=y;have aB:=map_inj (λa b h=>ayG h) _ _ af;have bG:=Rf bt;simp only[bF,lr,Q.I.injEq,Data.int.injEq,Data.bool.injEq,true_and] at E bM jt;dsimp only at *;rw[E,aB,bG,bM,jt]
section
variable {x:ou} (h:x.dk)
include h
omit h in
theorem ayI:fM 1 (fE x)=[bF x.cash]:=rfl
omit h in
theorem ake {k:Nat}{l:List aw}(M:x.cX[k]?=some l):fM 1 (fX (1+k) (fE x))=[kn l]:=by
 have az:=(dP.1 M).1;unfold fE;rw[zb,CN,akf (by rw[ai];omega),Cr (by rw[ry,ai];omega)];exact v9 (f:=kn) M
theorem My {k:Nat}{z:Int}(M:x.us[k]?=some z):fM 1 (fX (11+k) (fE x))=[bF z]:=by
 have az:=(dP.1 M).1;unfold fE;rw[show 11+k=(10+k)+1 by omega,CN,oN,jV (by rw[ai,h.cX];omega),ai,h.cX,jv,show 10+k-10=k by omega,akf (by rw[ai];omega),Cr (by rw[ry,ai];omega)]
 exact v9 (f:=bF) M
theorem Mz:fM 1 (fX 22 (fE x))=[bF x.f]:=by
 unfold fE;rw[CN,oN,jV (by rw[ai,h.cX];omega),ai,h.cX,jv,oN,jV (by rw[ai,h.us];omega),ai,h.us]
 rfl
theorem akg:fM 1 (fX 23 (fE x))=[lr x.p]:=by
 unfold fE;rw[CN,oN,jV (by rw[ai,h.cX];omega),ai,h.cX,jv,oN,jV (by rw[ai,h.us];omega),ai,h.us]
 rfl
theorem ayJ (f:Int):fM 22 (fE x)++[Q.I (.int .i64 f)]++fX 23 (fE x)=fE (x.xt f):=by
 have e:fE x=(bF x.cash::(x.cX.map kn++x.us.map bF))++[bF x.f,lr x.p]:=by simp[fE]
 have l:(bF x.cash::(x.cX.map kn++x.us.map bF)).length=22:=by simp[h.cX,h.us]
 rw[e,Cr (by omega),dx (by omega),oN,jV (by omega),l];simp[fE,ou.xt,bF]
theorem akh (p:Bool):fM 23 (fE x)++[Q.I (.bool p)]++fX 24 (fE x)=fE (x.sp p):=by
 have e:fE x=(bF x.cash::(x.cX.map kn++(x.us.map bF++[bF x.f])))++[lr x.p]:=by simp[fE]
 have l:(bF x.cash::(x.cX.map kn++(x.us.map bF++[bF x.f]))).length=23:=by simp[h.cX,h.us]
 rw[e,Cr (by omega),dx (by omega),oN,jV (by omega),l];simp[fE,ou.sp,lr]
end
structure dc where
 cash:List Int
 cs:List aw
 aD:List Int
 P:List Bool
 g:Nat
 gs:List Nat
def dc.gJ (a:dc)(i:Nat):ou:=⟨a.cash.getD i 0,bD 10 λk=>di a.cs i k,bD 11 λk=>cO a.cs i (k:Nat),a.aD.getD i 10,a.P.getD i false⟩
theorem dc.xu (a:dc)(i:Nat):(a.gJ i).dk:=⟨gT _ _,gT _ _⟩
structure dc.eI (a:dc) (m:Mem):Prop where
 can:a.cs=dw (D a.cash) a.cs
 aD:(D a.aD)=D a.cash
 pl:(D a.P)=D a.cash
 Rn:(D a.gs)=D a.cash
 row:m 228023=some (a.g,bD (D a.cash) λi => .ptr (228500+i) (a.gs.getD i 0) 0)
 dz:∀i,i<(D a.cash)->m (228500+i)=some (a.gs.getD i 0,fE (a.gJ i))
theorem MA {α:Type}{d:α}{n:Nat}{a b:List α}(aM:(D a)=n)(ae:(D b)=n)(h:∀i,i<n->a.getD i d=b.getD i d):a=b:=by
 apply pM;intro i;rcases ir i n with J|J
 ·have:=h i J;rw[dZ,dZ,bu (by omega),bu (by omega)] at this;rw[bu (by omega),bu (by omega)];exact congrArg some this
 ·rw[mx (by omega),mx (by omega)]
theorem aki {α:Type}{n:Nat}{p q:Nat->α}(h:bD n p=bD n q):∀i,i<n->p i=q i:=λi J=>by
 have E:=jg p J;rw[h,jg q J] at E;exact (pN E).symm
theorem dc.uniq {a b:dc}{m:Mem}(h:a.eI m)(cn:b.eI m):a=b:=by
 obtain⟨cQ,de,ep,fe,o2,s6⟩:=a;obtain⟨c1,ee,jz,lq,ayi,ajS⟩:=b;obtain⟨aI,c2,c3,c4,H7,aag⟩:=h;obtain⟨d1,d2,d3,d4,d5,d6⟩:=cn;dsimp only at *;rw[H7,cm,fo] at d5;obtain⟨rfl,eS⟩:=d5
 have aH:(D cQ)=D c1:=by
  have:=congrArg D eS;rwa [gT,gT] at this
 rw[<-aH] at eS d1 d2 d3 d4 d6
 have a9:s6=ajS:=MA (d:=0) c4 d4 λi J=>by
  have:=aki eS i J;rw[Q.ptr.injEq] at this;exact this.2.1
 subst a9
 have ae:∀i,i<(D cQ)->dc.gJ ⟨cQ,de,ep,fe,o2,s6⟩ i=dc.gJ ⟨c1,ee,jz,lq,o2,s6⟩ i:=λi J=>by
  have E:=aag i J;rw[d6 i J,cm,fo] at E;exact (ayH (dc.xu _ _) (dc.xu _ _) E.2).symm
 simp only[dc.gJ,ou.mk.injEq] at ae;have ay:cQ=c1:=MA (d:=0) rfl aH.symm λi J=>(ae i J).1;subst ay
 have aB:de=ee:=by
  rw[aI,d1];exact ajt λi J k M=>aki (ae i J).2.1 k M
 have bG:ep=jz:=MA (d:=10) c2 d2 λi J=>(ae i J).2.2.2.1;have dp:fe=lq:=MA (d:=false) c3 d3 λi J=>(ae i J).2.2.2.2;rw[aB,bG,dp]
theorem dc.eI.aE {a:dc}{mem m:Mem}{n:Nat}(h:a.eI mem)(aK:eu n mem m)(aH:n≠228)(bt:(D a.cash)<=6):a.eI m :=
 ⟨h.can,h.aD,h.pl,h.Rn,by rw[aK 228023 (by omega)];exact h.row,λi J=>by rw[aK (228500+i) (by omega)];exact h.dz i J⟩
def aah:bT:=cd 6 1 [.t 2] (R [cC 2 false] (R [F 3 0,(dL 4 KC 3),fp 5 4,F 2 5] .ret))
def aai:bT:=cd 9 1 [.t 2] (R [cC 2 false] (R [F 3 0,a5 4 .geq 3 0,F 5 4,⟨some 6,some (5,true),.cp (.t 0)⟩,⟨some 7,some (5,true),.bin .leq (.t 6) (.c (aj 1000000000000000))⟩,gg 8 5 7,F 2 8] .ret))
def aaj:bT:=cd 42 2 [.t 3] (R [dR 2 252002 0,cC 3 false] (R [bf 4 0 2,aU 5 1 4,a5 6 .lss 5 0,F 7 6,⟨some 8,some (7,false),.ef 0 (.t 2)⟩,⟨some 9,some (7,false),.load 1 false (.t 8)⟩,⟨some 10,some (7,false),.load 1 false (.t 1)⟩,⟨some 11,some (7,false),.len (.t 10)⟩,⟨some 12,some (7,false),.bin .geq (.t 9) (.t 11)⟩,ek 13 7 12,F 14 13,⟨some 15,some (14,false),.ef 1 (.t 2)⟩,⟨some 16,some (14,false),.load 1 false (.t 15)⟩,⟨some 17,some (14,false),.bin .lss (.t 16) (.c (.I (.int .i64 (-1))))⟩,ek 18 14 17,F 19 18,⟨some 20,some (19,false),.ef 1 (.t 2)⟩,⟨some 21,some (19,false),.load 1 false (.t 20)⟩,⟨some 22,some (19,false),.load 1 false (.t 1)⟩,⟨some 23,some (19,false),.len (.t 22)⟩,⟨some 24,some (19,false),.bin .geq (.t 21) (.t 23)⟩,ek 25 19 24,F 26 25,⟨some 27,some (26,false),.ef 2 (.t 2)⟩,⟨some 28,some (26,false),.load 1 false (.t 27)⟩,⟨some 29,some (26,false),.bin .lss (.t 28) (.c (aj 0))⟩,ek 30 26 29,F 31 30,⟨some 32,some (31,false),.ef 2 (.t 2)⟩,⟨some 33,some (31,false),.load 1 false (.t 32)⟩,⟨some 34,some (31,false),.bin .geq (.t 33) (.c (aj 10))⟩,ek 35 31 34,F 36 35,⟨some 37,some (36,false),.ef 3 (.t 2)⟩,⟨some 38,some (36,false),.load 1 false (.t 37)⟩,⟨some 39,some (36,false),.call KC [(.t 38)]⟩,⟨some 40,some (36,false),.un .not (.t 39)⟩,ek 41 36 40,F 3 41] .ret))
abbrev H8:Int×Int×Int->List Data:=λ(x,a,b)=>[.int .i64 x,.int .i64 a,.int .i64 b]
def Ro:=cj H8 λ(x,a,b)=>some (.same (.bool (decide (a<=x)&&decide (x<=b))))
theorem Rp:∀a b,H8 a=H8 b->a=b:=by
  rintro⟨a7,cQ,c1⟩ ⟨b3,de,ee⟩ h;simp only[a6,Data.int.injEq,Data.agg.injEq,Data.X.injEq,Data.bool.injEq,Data.str.injEq,Data.ptr.injEq,Data.cH.injEq,fo,true_and,and_true] at h ⊢
  first|exact h|simpa [ye,and_assoc] using h|grind
@[go_sem] theorem aL4 (x:Int)(a:Int)(b:Int):Ro [.int .i64 x,.int .i64 a,.int .i64 b]=some (.same (.bool (decide (a<=x)&&decide (x<=b)))):=cu Rp (x,a,b)
theorem ayK (T:bb)  (x:Int) (a:Int) (b:Int):WP T Xe (.same (.bool (decide (a<=x)&&decide (x<=b)))) [.I (.int .i64 x),.I (.int .i64 a),.I (.int .i64 b)]:=by
 refine cv ?_;simp only[Xe];rcases aI:decide (a<=x)
 ·have c2:decide (x>=a)=false:=aI;refine aY ?_;repeat' (intro h<;>simp only[h,go_sem,go_sem_proc,aI,c2,fB]<;>try refine ax ?_ ?_)
 ·have c2:decide (x>=a)=true:=aI;refine aY ?_;repeat' (intro h<;>simp only[h,go_sem,go_sem_proc,aI,c2,g1]<;>try refine ax ?_ ?_)
abbrev aak:Int->List Data:=λ(x:Int)=>[.int .i64 x,.ptr [.fn vu []]]
def aal:=cj aak λ(x:Int)=>some (.same (.bool (!gl x)))
theorem ayL:∀a b,aak a=aak b->a=b:=by
  intro a7 b3 h;simp only[a6,Data.int.injEq,Data.agg.injEq,Data.X.injEq,Data.bool.injEq,Data.str.injEq,Data.ptr.injEq,Data.cH.injEq,fo,true_and,and_true] at h ⊢
  first|exact h|simpa [ye,and_assoc] using h|grind
@[go_sem] theorem ayM (x:Int):aal [.int .i64 x,.ptr [.fn vu []]]=some (.same (.bool (!gl x))):=cu ayL x
theorem ayN (T:bb)(aam:T vu=aV Ro)(x:Int):WP T Xf (.same (.bool (!gl x))) [.I (.int .i64 x),.I (.ptr [.fn vu []])]:=by
 refine cv ?_;simp only[Xf];unfold gl;refine aY ?_;repeat' (intro h<;>simp only[h,go_sem,go_sem_proc,aam]<;>try refine ax ?_ ?_)
abbrev aan:Int×Int×Int×Int×Int->List Data:=λ(a,b,k,x,n)=>[.agg [.int .i64 a,.int .i64 b,.int .i64 k,.int .i64 x],.ptr [.fn vu []],.ptr [.int .i64 n]]
def aao:=cj aan λ(a,b,k,x,n)=>cN (0<=n/\n<=1000000) (.same (.bool (!hS n (a,b,k,x))))
theorem ayO:∀a b,aan a=aan b->a=b:=by
  rintro⟨cQ,c1,b6,a7,iw⟩ ⟨de,ee,dd,b3,jr⟩ h;simp only[a6,Data.int.injEq,Data.agg.injEq,Data.X.injEq,Data.bool.injEq,Data.str.injEq,Data.ptr.injEq,Data.cH.injEq,fo,true_and,and_true] at h ⊢
  first|exact h|simpa [ye,and_assoc] using h|grind
@[go_sem] theorem ayP (a:Int)(b:Int)(k:Int)(x:Int)(n:Int)(G:0<=n/\n<=1000000):aao [.agg [.int .i64 a,.int .i64 b,.int .i64 k,.int .i64 x],.ptr [.fn vu []],.ptr [.int .i64 n]]=some (.same (.bool (!hS n (a,b,k,x)))):=(cu ayO (a,b,k,x,n)).trans (cT G _)
theorem ayQ (T:bb)(aam:T vu=aV Ro)(a:Int)(b:Int)(k:Int)(x:Int)(n:Int)(G:0<=n/\n<=1000000):WP T Xg (.same (.bool (!hS n (a,b,k,x)))) [.I (.agg [.int .i64 a,.int .i64 b,.int .i64 k,.int .i64 x]),.I (.ptr [.fn vu []]),.I (.ptr [.int .i64 n])]:=by
 refine cv ?_;simp only[Xg];have w:IntKind.i64.wrap (n-1)=n-1:=by rw[eM _]
 have e:hS n (a,b,k,x)=((decide (0<=a)&&decide (a<=n-1))&&((decide (-1<=b)&&decide (b<=n-1))&&((decide (0<=k)&&decide (k<=9))&&(decide (0<=x)&&decide (x<=1000000000000000))))):=by
  rw[B7,Mv];simp only[e9,decide_eq_true_eq];omega
 rw[e];rcases aI:(decide (0<=a)&&decide (a<=n-1))<;>rcases c2:(decide (-1<=b)&&decide (b<=n-1))<;>rcases c3:(decide (0<=k)&&decide (k<=9))<;>rcases c4:(decide (0<=x)&&decide (x<=1000000000000000))
 all_goals
      refine aY ?_;repeat' (intro h<;>simp only[h,go_sem,go_sem_proc,aam,w,aI,c2,c3,c4]<;>try refine ax ?_ ?_)
def aap:bT:=cd 15 3 [.t 6] (R [cC 6 false] (R [F 7 1,F 8 0,bn 9 .leq 7 8,F 10 9,⟨some 11,some (10,true),.cp (.t 0)⟩,⟨some 12,some (10,true),.cp (.t 2)⟩,⟨some 13,some (10,true),.bin .leq (.t 11) (.t 12)⟩,gg 14 10 13,F 6 14] .ret))
def aaq:bT:=cd 6 1 [.t 2] (R [cC 2 false] (R [F 3 0,(aC 4 (.call DS [(.t 3),(.c (aj 0)),(.c (aj 1000000000000000))])),fp 5 4,F 2 5] .ret))
def aar:bT:=cd 31 3 [.t 4] (R [dR 3 362003 0,cC 4 false] (R [bf 5 0 3,aU 6 1 5,aU 7 1 1,a5 8 .sub 7 1,(aC 9 (.call DS [(.t 6),(.c (aj 0)),(.t 8)])),fp 10 9,F 11 10,⟨some 12,some (11,false),.ef 1 (.t 3)⟩,⟨some 13,some (11,false),.load 1 false (.t 12)⟩,⟨some 14,some (11,false),.load 1 false (.t 1)⟩,⟨some 15,some (11,false),.bin .sub (.t 14) (.c (aj 1))⟩,⟨some 16,some (11,false),.call DS [(.t 13),(.c (.I (.int .i64 (-1)))),(.t 15)]⟩,⟨some 17,some (11,false),.un .not (.t 16)⟩,ek 18 11 17,F 19 18,⟨some 20,some (19,false),.ef 2 (.t 3)⟩,⟨some 21,some (19,false),.load 1 false (.t 20)⟩,⟨some 22,some (19,false),.call DS [(.t 21),(.c (aj 0)),(.c (aj 9))]⟩,⟨some 23,some (19,false),.un .not (.t 22)⟩,ek 24 19 23,F 25 24,⟨some 26,some (25,false),.load 1 false (.t 2)⟩,⟨some 27,some (25,false),.ef 3 (.t 3)⟩,⟨some 28,some (25,false),.load 1 false (.t 27)⟩,⟨some 29,some (25,false),.jQ (.t 26) [(.t 28)]⟩,ek 30 25 29,F 4 30] .ret))
def o4 (l:List Int):List Data:=[.X (l.map ad)]
theorem aas:∀a b:List Int,o4 a=o4 b->a=b:=by
 intro a b h;simp only[o4,a6,Data.X.injEq,and_true] at h;exact map_inj fi _ _ h
def ayR (a:List (List Int)):Prop:=D a<=1000000/\∀l∈a,D l<=1000000
def gy {α:Type}:List aw->List α->Int->List α
 |c::cs,p::ps,dh=>if c.1==dh then p::gy cs ps dh else gy cs ps dh
 |_,_,_=>[]
theorem akj {α:Type}:∀(cs:List aw) (ps:List α) (c:aw) (p:α) (dh:Int),D cs=(D ps)->gy (cs++[c]) (ps++[p]) dh=gy cs ps dh++if c.1==dh then [p] else []
 | [],[],c,p,dh,_=>by simp only[jv,gy]
 | [],_::_,_,_,_,h=>by simp at h
 |_::_,[],_,_,_,h=>by simp at h
 |a::cs,b::ps,c,p,dh,h=>by
  have aA:=akj cs ps c p dh (by simpa using h);simp only[j1,gy,aA]
  split<;>rfl
theorem ayS {α:Type}(cs:List aw)(aS:aw->α)(dh:Int):gy cs (cs.map aS) dh=(cG cs dh).map aS:=by
 unfold cG
 induction cs with
 |nil=>rfl
 |cons c cs aA =>
  rw[eC,gy,aA]
  by_cases h:(c.1==dh)=true
  ·rw[ab h,aat,ab h];rfl
  ·rw[ag h,aat,ag h]
theorem akk {α:Type}:∀(cs:List aw) (ps:List α) (dh:Int),(gy cs ps dh).length<=D cs
 | [],_,_=>by simp[gy]
 |_::_,[],_=>by simp[gy]
 |a::cs,b::ps,dh=>by
  have aA:=akk cs ps dh;rw[gy]
  split<;>simp<;>omega
theorem aau {α β:Type}(f:α->β):∀(cs:List aw) (ps:List α) (dh:Int),gy cs (ps.map f) dh=(gy cs ps dh).map f
 | [],_,_=>by simp[gy]
 |_::_,[],_=>by simp[gy]
 |a::cs,b::ps,dh=>by
  have aA:=aau f cs ps dh;rw[eC,gy,gy,aA]
  split<;>simp
theorem aav {α:Type}:∀(cs:List aw) (ps:List α) (dh:Int),D ps=(D cs)->(gy cs ps dh).length=(cG cs dh).length
 | [],_,_,_=>by simp[gy,cG]
 |_::_,[],_,h=>by simp at h
 |a::cs,b::ps,dh,h=>by
  have aA:=aav cs ps dh (by simpa using h);unfold cG at aA ⊢;rw[gy,aat]
  split<;>simp[aA]
theorem Rq {α:Type}{x:α}:∀{cs:List aw} {ps:List α} {dh:Int},x∈gy cs ps dh->x∈ps
 | [],_,_,h=>by simp[gy] at h
 |_::_,[],_,h=>by simp[gy] at h
 |a::cs,b::ps,dh,h=>by
  rw[gy] at h
  split at h
  ·rcases hP.1 h with rfl|h
   ·simp
   ·exact hf _ (Rq h)
  ·exact hf _ (Rq h)
def ik (l:List aw)(q:Nat->Rat):Nat->Int
 |0=>10
 |k+1=>match l[k]? with
  |some c=>if q k<(c.2.2.2:Rat) then min (ik l q k) c.2.2.1 else ik l q k
  |none=>ik l q k
theorem akl {l:List aw}{q:Nat->Rat}(h:∀c∈l,0<=c.2.2.1/\c.2.2.1<10)(k:Nat):0<=ik l q k/\ik l q k<=10:=by
 induction k with
 |zero=>exact⟨show (0:Int)<=10 by decide,show (10:Int)<=10 by decide⟩
 |succ k aA =>
  unfold ik
  split
  ·rename_i c G;have:=h c (eg G)
   split<;>omega
  ·exact aA
theorem ayT {l:List aw}{q:Nat->Rat}(h:∀c∈l,0<=c.2.2.1/\c.2.2.1<10)(k:Nat):ik l q k<10↔∃i,i<k/\∃c,l[i]?=some c/\q i<(c.2.2.2:Rat):=by
 induction k with
 |zero=>exact⟨λh=>absurd h (show ¬ (10:Int)<10 by decide),fun⟨i,h,_⟩=>by omega⟩
 |succ k aA =>
  unfold ik
  split
  ·rename_i c G;have ae:=h c (eg G);have M:=akl (q:=q) h k
   by_cases aO:q k<(c.2.2.2:Rat)
   ·rw[ab aO];exact⟨λ_=>⟨k,by omega,c,G,aO⟩,λ_=>by omega⟩
   ·rw[ag aO,aA]
    constructor
    ·rintro⟨i,E,H⟩;exact⟨i,by omega,H⟩
    ·rintro⟨i,E,c',H,af⟩
     by_cases aaw:i=k
     ·subst aaw;rw[G] at H;cases H;exact absurd af aO
     ·exact⟨i,by omega,c',H,af⟩
  ·rename_i G;rw[aA]
   constructor
   ·rintro⟨i,E,H⟩;exact⟨i,by omega,H⟩
   ·rintro⟨i,E,c',H,af⟩
    by_cases aaw:i=k
    ·subst aaw;rw[G] at H;cases H
    ·exact⟨i,by omega,c',H,af⟩
structure Rr (l:List aw) (q:List Rat):Prop where
 own:ky l
 len:(D q)=D l
 CG:∀x∈q,dg x
def H9 (l:List aw)(q:List Rat):Data:=if ik l (λi=>q.getD i 0) (D l)<10 then .cH [.int .i64 (ik l (λi=>q.getD i 0) (D l)),.bool true] else .cH [.int .i64 0,.bool false]
def qc (cs:List aw)(ps:List Rat)(i:Int):Int:=ik (cG cs i) (λk=>(gy cs ps i).getD k 0) (cG cs i).length
def rX (cs:List aw)(ps:List Rat)(i:Int):Int:=if qc cs ps i<10 then qc cs ps i else 0
theorem ayU (cs:List aw)(ps:List Rat)(i:Int):H9 (cG cs i) (gy cs ps i)=.cH [.int .i64 (rX cs ps i),.bool (decide (qc cs ps i<10))]:=by
 unfold H9 rX qc
 split
 ·rename_i h;rw[lU h]
 ·rename_i h;rw[mo h]
def q0 (cs:List aw)(ps:List Rat)(set:List Int)(i:Int):Bool:=cs.any λc=>c.1==i&&(c.2.2.1==rX cs ps i&&(decide (c.2.2.2>0) && !decide (c.2.1∈set)))
structure lS (cash:List Int) (cs:List aw) (ps:List Rat):Prop where
 len:(D ps)=D cs
 l:(D cs)<=2000
 n:(D cash)<=60
 own:∀i:Int,ky (cG cs i)
 CG:∀x∈ps,dg x
theorem lS.short {cash:List Int}{cs:List aw}{ps:List Rat}(h:lS cash cs ps)(i:Int):Rr (cG cs i) (gy cs ps i):=⟨h.own i,aav cs ps i h.len,λx O=>h.CG x (Rq O)⟩
def eL (cash:List Int)(cs:List aw)(ak bE:List bg)(aD:List (List Int)):List Data:=[.X (cash.map ad),.X (cs.map ca),.X (ak.map aG),.X (bE.map aG),.X (aD.map o4)]
theorem Ay {cash H5:List Int}{cs nm:List aw}{ak lA bE uB:List bg}{aD Av:List (List Int)}(h:eL cash cs ak bE aD=eL H5 nm lA uB Av):cash=H5/\cs=nm/\ak=lA/\bE=uB/\aD=Av:=by
 simp only[eL,a6,Data.X.injEq,and_true] at h;exact⟨map_inj fi _ _ h.1,map_inj rU _ _ h.2.1,map_inj nb _ _ h.2.2.1,map_inj nb _ _ h.2.2.2.1,map_inj aas _ _ h.2.2.2.2⟩
abbrev aax:Int×(List bg)×Nat->List Data:=λ(z,h,i)=>[.int .i64 z,.ptr [.X (h.map aG)],.ptr [.int .i64 i]]
def aay:=cj aax λ(z,h,i)=>cN (dA z/\i<D h/\fY h) (.same (.bool (decide (lM (h.getD i fj) (aq (z:Rat))<0))))
theorem ayV:∀a b,aax a=aax b->a=b:=by
  rintro⟨jN,E,i1⟩ ⟨kO,H,i2⟩ h;simp only[a6,Data.int.injEq,Data.ptr.injEq,Data.X.injEq,and_true,true_and] at h;exact dQ h.1 (dQ (map_inj nb _ _ h.2.1) (by have:=h.2.2;dsimp only;omega))
@[go_sem] theorem ayW (z:Int)(h:List bg)(i:Nat)(G:dA z/\i<D h/\fY h):aay [.int .i64 z,.ptr [.X (h.map aG)],.ptr [.int .i64 i]]=some (.same (.bool (decide (lM (h.getD i fj) (aq (z:Rat))<0)))):=(cu ayV (z,h,i)).trans (cT G _)
theorem ayX (T:bb)(hM:T po=aV v5)(cW:T lF=aV sG)(z:Int)(h:List bg)(i:Nat)(G:dA z/\i<D h/\fY h):WP T Xd (.same (.bool (decide (lM (h.getD i fj) (aq (z:Rat))<0)))) [.I (.int .i64 z),.I (.ptr [.X (h.map aG)]),.I (.ptr [.int .i64 i])]:=by
 refine cv ?_;simp only[Xd];obtain⟨aW,J,cR⟩:=G;have hw:=CI z aW;obtain⟨x,O⟩:∃x,h[i]?=some x:=⟨_,bu J⟩;have GV:h.getD i fj=x:=by rw[dZ,O];rfl
 obtain⟨Az,wb⟩:=cR.2 x (eg O);obtain⟨Ia,Ib⟩:=kS (qb aW);rw[GV];generalize aq (z:Rat)=Z at *;obtain⟨⟨cQ,de⟩,⟨ep,fe⟩⟩:=Z;obtain⟨⟨c1,ee⟩,⟨jz,lq⟩⟩:=x;have fu:=agr c1 ee jz lq cQ de ep fe ⟨Az,wb,Ia,Ib⟩;simp only[aG] at hw;simp only[go_sem,go_sem_proc,hM,cW,hw,O,fu,aG,ai,bh];repeat' (first|refine ax ?_ ?_|fail)<;>intro h<;>simp only[h,go_sem,go_sem_proc,hM,cW,hw,O,fu,aG,ai,bh]
def Rs:=cj wP λ(x:Int)=>some (.same (.bool (gl x)))
@[go_sem] theorem aL5 (x:Int):Rs [.int .i64 x]=some (.same (.bool (gl x))):=cu zL x
theorem ayY (T:bb)  (x:Int):WP T aai (.same (.bool (gl x))) [.I (.int .i64 x)]:=by
 refine cv ?_;simp only[aai];unfold gl;rcases aI:decide (0<=x)
 ·have c2:decide (x>=0)=false:=aI;refine aY ?_;repeat' (intro h<;>simp only[h,go_sem,go_sem_proc,aI,c2,fB]<;>try refine ax ?_ ?_)
 ·have c2:decide (x>=0)=true:=aI;refine aY ?_;repeat' (intro h<;>simp only[h,go_sem,go_sem_proc,aI,c2,g1]<;>try refine ax ?_ ?_)
def aaz:=cj wP λ(x:Int)=>some (.same (.bool (!gl x)))
@[go_sem] theorem ayZ (x:Int):aaz [.int .i64 x]=some (.same (.bool (!gl x))):=cu zL x
theorem ay0 (T:bb)(MB:T KC=aV Rs)(x:Int):WP T aah (.same (.bool (!gl x))) [.I (.int .i64 x)]:=by
 refine cv ?_;simp only[aah];refine aY ?_;repeat' (intro h<;>simp only[h,go_sem,go_sem_proc,MB]<;>try refine ax ?_ ?_)
def Rt:=cj H8 λ(x,a,b)=>some (.same (.bool (decide (a<=x)&&decide (x<=b))))
@[go_sem] theorem aL6 (x:Int)(a:Int)(b:Int):Rt [.int .i64 x,.int .i64 a,.int .i64 b]=some (.same (.bool (decide (a<=x)&&decide (x<=b)))):=cu Rp (x,a,b)
theorem ay1 (T:bb)  (x:Int) (a:Int) (b:Int):WP T aap (.same (.bool (decide (a<=x)&&decide (x<=b)))) [.I (.int .i64 x),.I (.int .i64 a),.I (.int .i64 b)]:=by
 refine cv ?_;simp only[aap];rcases aI:decide (a<=x)
 ·refine aY ?_;repeat' (intro h<;>simp only[h,go_sem,go_sem_proc,aI,fB]<;>try refine ax ?_ ?_)
 ·refine aY ?_;repeat' (intro h<;>simp only[h,go_sem,go_sem_proc,aI,g1]<;>try refine ax ?_ ?_)
def Ru:=cj wP λ(x:Int)=>some (.same (.bool (!gl x)))
@[go_sem] theorem ay2 (x:Int):Ru [.int .i64 x]=some (.same (.bool (!gl x))):=cu zL x
theorem ay3 (T:bb)(aaA:T DS=aV Rt)(x:Int):WP T aaq (.same (.bool (!gl x))) [.I (.int .i64 x)]:=by
 refine cv ?_;simp only[aaq];unfold gl;refine aY ?_;repeat' (intro h<;>simp only[h,go_sem,go_sem_proc,aaA]<;>try refine ax ?_ ?_)
def Rv:=cj H8 λ(x,a,b)=>some (.same (.bool (decide (a<=x)&&decide (x<=b))))
@[go_sem] theorem aL7 (x:Int)(a:Int)(b:Int):Rv [.int .i64 x,.int .i64 a,.int .i64 b]=some (.same (.bool (decide (a<=x)&&decide (x<=b)))):=cu Rp (x,a,b)
theorem ay4 (T:bb)  (x:Int) (a:Int) (b:Int):WP T Xn (.same (.bool (decide (a<=x)&&decide (x<=b)))) [.I (.int .i64 x),.I (.int .i64 a),.I (.int .i64 b)]:=by
 refine cv ?_;simp only[Xn];rcases aI:decide (a<=x)
 ·refine aY ?_;repeat' (intro h<;>simp only[h,go_sem,go_sem_proc,aI,fB]<;>try refine ax ?_ ?_)
 ·refine aY ?_;repeat' (intro h<;>simp only[h,go_sem,go_sem_proc,aI,g1]<;>try refine ax ?_ ?_)
def Rw:=cj wP λ(x:Int)=>some (.same (.bool (gl x)))
@[go_sem] theorem aL8 (x:Int):Rw [.int .i64 x]=some (.same (.bool (gl x))):=cu zL x
theorem ay5 (T:bb)(aaB:T DO=aV Rv)(x:Int):WP T Xm (.same (.bool (gl x))) [.I (.int .i64 x)]:=by
 refine cv ?_;simp only[Xm];unfold gl;refine aY ?_;repeat' (intro h<;>simp only[h,go_sem,go_sem_proc,aaB]<;>try refine ax ?_ ?_)
abbrev aaC:Int->List Data:=λ(x:Int)=>[.int .i64 x,.ptr [.fn nu []]]
def aaD:=cj aaC λ(x:Int)=>some (.same (.bool (!gl x)))
theorem ay6:∀a b,aaC a=aaC b->a=b:=by
  intro a7 b3 h;simp only[a6,Data.int.injEq,Data.agg.injEq,Data.X.injEq,Data.bool.injEq,Data.str.injEq,Data.ptr.injEq,Data.cH.injEq,fo,true_and,and_true] at h ⊢
  first|exact h|simpa [ye,and_assoc] using h|grind
@[go_sem] theorem ay7 (x:Int):aaD [.int .i64 x,.ptr [.fn nu []]]=some (.same (.bool (!gl x))):=cu ay6 x
theorem ay8 (T:bb)(aaE:T nu=aV Rw)(x:Int):WP T Xy (.same (.bool (!gl x))) [.I (.int .i64 x),.I (.ptr [.fn nu []])]:=by
 refine cv ?_;simp only[Xy];refine aY ?_;repeat' (intro h<;>simp only[h,go_sem,go_sem_proc,aaE]<;>try refine ax ?_ ?_)
abbrev aaF:Int×(List Int)×(List aw)×(List bg)×(List Rat)×(List (List Int))×(List Int)->List Data:=λ(x,cash,cs,ak,ps,aD,set)=>[.int .i64 x,.ptr (eL cash cs ak (ps.map aq) aD),.ptr [.X (set.map ad)]]
def Ic:=cj aaF λ(x,cash,cs,ak,ps,aD,set)=>cN (lS cash cs ps/\D set<=1000000) (.same (.bool (q0 cs ps set x)))
theorem ay9:∀a b,aaF a=aaF b->a=b:=by
  rintro⟨a7,uJ,uK,oH,Ie,AA,akm⟩ ⟨b3,uL,n1,oI,Ig,AB,akn⟩ h;simp only[a6,Data.int.injEq,Data.ptr.injEq,Data.X.injEq,and_true,true_and] at h;obtain⟨E,cE,H⟩:=h;obtain⟨rfl,rfl,rfl,ck,rfl⟩:=Ay cE;rw[E,map_inj fi _ _ H,map_inj (λ_ _ aT=>ub aT) _ _ ck]
@[go_sem] theorem ako (x:Int)(cash:List Int)(cs:List aw)(ak:List bg)(ps:List Rat)(aD:List (List Int))(set:List Int)(G:lS cash cs ps/\D set<=1000000):Ic [.int .i64 x,.ptr (eL cash cs ak (ps.map aq) aD),.ptr [.X (set.map ad)]]=some (.same (.bool (q0 cs ps set x))):=(cu ay9 (x,cash,cs,ak,ps,aD,set)).trans (cT G _)
theorem Ih (T:bb)(id:FuncId)(eP:List Data)(aS:List Data->Option eJ)(cI:T id=aV aS)(p:Int->Bool)(l:List Int)(av:(D l)<=1000000)(fa:∀x∈l,aS (.int .i64 x::eP)=some (.same (.bool (p x)))):WP T KK (.same (.int .i64 (kP p l))) [.I (.X (l.map ad)),.I (.fn id eP)]:=by
 refine cv ?_;simp only[KK];simp only[go_sem,go_sem_proc,ai];refine dm [0,1,7] [] (λ(i:Nat) tm mem=>i<=D l/\(∀x∈l.take i,p x=false)/\tm 8=.I (.int .i64 i)) (λi=>D l-i) 0 (by refine⟨fs _,by simp,rfl⟩) ?_;intro vs ms aR aN;simp only[go_sem,go_sem_proc,ai] at aR aN;subst aR aN;rintro i tm mem M hm ⟨J,fh,cf⟩;simp only[go_sem,go_sem_proc,a6] at M hm;obtain⟨ao,E,bM⟩:=M;have fu:∀m:Mem,(eP.map Q.I).mapM (cy 6 m)=some eP:=λm=>tH (cy 6 m) (λd=>rfl) eP;rcases dv (i<D l) with az|b2
 ·have O:=bu az;have mS:=fa _ (np az);have cg:=λh=>Ls (p:=p) fh O h;have hW:=λh=>P4 (p:=p) fh O h;generalize l[i]=x at *;have hB:decide ((i:Int)<(D l:Int))=true:=dj;have hw:=eZ (i:=i) (by omega);rcases ae:p x
  ·rw[ae] at mS;simp only[go_sem,go_sem_proc,cI,ao,E,bM,cf,O,hB,hw,mS,fu,ad,ai,bh,la];repeat' (first|refine ax ?_ ?_|fail)<;>intro h<;>simp only[h,go_sem,go_sem_proc,cI,ao,E,bM,cf,O,hB,hw,mS,fu,ad,ai,bh,la]
   exact⟨i+1,by omega,by omega,hW ae,rfl⟩
  ·rw[ae] at mS;rw[cg ae];simp only[go_sem,go_sem_proc,cI,ao,E,bM,cf,O,hB,hw,mS,fu,ad,ai,bh,la];repeat' (first|refine ax ?_ ?_|fail)<;>intro h<;>simp only[h,go_sem,go_sem_proc,cI,ao,E,bM,cf,O,hB,hw,mS,fu,ad,ai,bh,la]
 ·have hB:decide ((i:Int)<(D l:Int))=false:=c5;obtain rfl:i=D l:=by omega
  rw[lK] at fh;rw[P3 fh];simp only[go_sem,go_sem_proc,ao,E,bM,cf,hB,ai];repeat' (first|refine ax ?_ ?_|fail)<;>intro h<;>simp only[h,go_sem,go_sem_proc,ao,E,bM,cf,hB,ai]
inductive AD where
 |right
 |day
 |hold
 |solve (h:List bg) (i:Nat)
 |rY
 |CO (cash:List Int) (cs:List aw) (ak:List bg) (ps:List Rat) (aD:List (List Int)) (set:List Int)
def rZ:AD->Data
 |.right => .fn Ky [.ptr [.fn vu []]]
 |.day => .fn Gm []
 |.hold => .fn wO []
 |.solve h i => .fn DM [.ptr [.X (h.map aG)],.ptr [.int .i64 i]]
 |.rY => .fn BC [.ptr [.fn nu []]]
 |.CO cash cs ak ps aD set => .fn tN [.ptr (eL cash cs ak (ps.map aq) aD),.ptr [.X (set.map ad)]]
theorem aza:∀a b:AD,rZ a=rZ b->a=b:=by
 intro a b e
 cases a<;>cases b
 all_goals first|rfl|(simp[rZ,Ky,Gm,DM,wO,BC,tN] at e;done)|skip
 ·simp only[rZ,Data.fn.injEq,a6,Data.ptr.injEq,Data.X.injEq,Data.int.injEq,and_true,true_and] at e;rw[map_inj nb _ _ e.1,Int.ofNat.inj e.2]
 ·simp only[rZ,Data.fn.injEq,a6,Data.ptr.injEq,Data.X.injEq,and_true,true_and] at e;obtain⟨cE,H⟩:=e;obtain⟨rfl,rfl,rfl,ck,rfl⟩:=Ay cE;rw[map_inj fi _ _ H,map_inj (λ_ _ aT=>ub aT) _ _ ck]
def qd:AD->Int->Bool
 |.right,x => !gl x
 |.day,x => !gl x
 |.hold,x => !gl x
 |.solve h i,x=>decide (lM (h.getD i fj) (aq (x:Rat))<0)
 |.rY,x => !gl x
 |.CO _ cs _ ps _ set,x=>q0 cs ps set x
def Ii (l:List Int):AD->Prop
 |.right=>True
 |.day=>Gm<900000
 |.hold=>wO<900000
 |.solve h i=>DM<900000/\i<D h/\fY h/\∀x∈l,dA x
 |.rY=>BC<900000
 |.CO cash cs _ ps _ set=>tN<900000/\lS cash cs ps/\D set<=1000000
abbrev Rx:(List Int)×AD->List Data:=λ(l,c)=>[.X (l.map ad),rZ c]
def AE:=cj Rx λ(l,c)=>cN (D l<=1000000/\Ii l c) (.same (.int .i64 (kP (qd c) l)))
theorem akp:∀a b,Rx a=Rx b->a=b:=by
  rintro⟨en,aI⟩ ⟨al,c2⟩ h;simp only[a6,Data.X.injEq,and_true] at h;exact dQ (map_inj fi _ _ h.1) (aza _ _ h.2)
@[go_sem] theorem akq (l:List Int)(c:AD)(G:(D l)<=1000000/\Ii l c):AE [.X (l.map ad),rZ c]=some (.same (.int .i64 (kP (qd c) l))):=(cu akp (l,c)).trans (cT G _)
theorem azb (T:bb)(azc:T Ky=aV aal)(azd:Gm<900000->T Gm=aV aaz)(aaG:wO<900000->T wO=aV Ru)(aze:DM<900000->T DM=aV aay)(azf:BC<900000->T BC=aV aaD)(MC:tN<900000->T tN=aV Ic)(l:List Int)(c:AD)(G:(D l)<=1000000/\Ii l c):WP T KK (.same (.int .i64 (kP (qd c) l))) [.I (.X (l.map ad)),.I (rZ c)]:=by
 refine cv ?_;simp only[KK];obtain⟨av,cR⟩:=G
 cases c with
 |right=>exact qR (Ih T _ _ _ azc (qd .right) l av λx _=>ayM x)
 |day=>exact qR (Ih T _ _ _ (azd cR) (qd .day) l av λx _=>ayZ x)
 |hold=>exact qR (Ih T _ _ _ (aaG cR) (qd .hold) l av λx _=>ay2 x)
 |solve h k=>exact qR (Ih T _ _ _ (aze cR.1) (qd (.solve h k)) l av λx O=>ayW x h k ⟨cR.2.2.2 x O,cR.2.1,cR.2.2.1⟩)
 |rY=>exact qR (Ih T _ _ _ (azf cR) (qd .rY) l av λx _=>ay7 x)
 |CO cash cs ak ps aD set=>exact qR (Ih T _ _ _ (MC cR.1) (qd (.CO cash cs ak ps aD set)) l av λx _=>ako x cash cs ak ps aD set cR.2)
def Ry:=cj Rx λ(l,c)=>cN (D l<=1000000/\Ii l c) (.same (.bool (l.any (qd c))))
@[go_sem] theorem akr (l:List Int)(c:AD)(G:(D l)<=1000000/\Ii l c):Ry [.X (l.map ad),rZ c]=some (.same (.bool (l.any (qd c)))):=(cu akp (l,c)).trans (cT G _)
theorem azg (T:bb)(nh:T wL=aV AE)(l:List Int)(c:AD)(G:(D l)<=1000000/\Ii l c):WP T Vv (.same (.bool (l.any (qd c)))) [.I (.X (l.map ad)),.I (rZ c)]:=by
 refine cv ?_;simp only[Vv];rw[<-Lt];refine aY ?_;repeat' (intro h<;>simp only[h,go_sem,go_sem_proc,nh,G]<;>try refine ax ?_ ?_)
abbrev aaH:Int×Int×Int×Int×(List Int)->List Data:=λ(a,b,k,x,cash)=>[.agg [.int .i64 a,.int .i64 b,.int .i64 k,.int .i64 x],.ptr [.X (cash.map ad)]]
def aaI:=cj aaH λ(a,b,k,x,cash)=>cN (D cash<=1000000) (.same (.bool (!hS (D cash) (a,b,k,x))))
theorem azh:∀a b,aaH a=aaH b->a=b:=by
  rintro⟨cQ,c1,b6,a7,uJ⟩ ⟨de,ee,dd,b3,uL⟩ h;simp only[a6,Data.agg.injEq,Data.int.injEq,Data.ptr.injEq,Data.X.injEq,and_true,true_and] at h;obtain⟨⟨E,H,af,aP⟩,bt⟩:=h;rw[E,H,af,aP,map_inj fi _ _ bt]
@[go_sem] theorem azi (a:Int)(b:Int)(k:Int)(x:Int)(cash:List Int)(G:(D cash)<=1000000):aaI [.agg [.int .i64 a,.int .i64 b,.int .i64 k,.int .i64 x],.ptr [.X (cash.map ad)]]=some (.same (.bool (!hS (D cash) (a,b,k,x)))):=(cu azh (a,b,k,x,cash)).trans (cT G _)
theorem azj (T:bb)(MB:T KC=aV Rs)(a:Int)(b:Int)(k:Int)(x:Int)(cash:List Int)(G:(D cash)<=1000000):WP T aaj (.same (.bool (!hS (D cash) (a,b,k,x)))) [.I (.agg [.int .i64 a,.int .i64 b,.int .i64 k,.int .i64 x]),.I (.ptr [.X (cash.map ad)])]:=by
 refine cv ?_;simp only[aaj]
 by_cases aa:hS (D cash) (a,b,k,x)=true
 ·have FP:=Mv.1 aa;dsimp only at FP;have aI:decide (a<0)=false:=c5;have c2:decide (a>=(D cash:Int))=false:=c5;have c3:decide (b < -1)=false:=c5;have c4:decide (b>=(D cash:Int))=false:=c5;have H7:decide (k<0)=false:=c5;have aag:decide (k>=10)=false:=c5;have MD:gl x=true:=Re.2 (by omega);refine aY ?_;repeat' (intro h<;>simp only[h,go_sem,go_sem_proc,MB,aa,aI,c2,c3,c4,H7,aag,MD,ai,cP]<;>try refine ax ?_ ?_)
 ·have aK:hS (D cash) (a,b,k,x)=false:=by simpa using aa
  rw[Mv] at aa;dsimp only at aa;rcases MD:gl x
  ·refine aY ?_;repeat' (intro h<;>simp only[h,go_sem,go_sem_proc,MB,aK,MD,ai,cP,du]<;>try refine ax ?_ ?_)
  ·have aL9:=Re.1 MD;refine aY ?_;repeat' (intro h<;>simp only[h,go_sem,go_sem_proc,MB,aK,MD,ai,cP,du]<;>try refine ax ?_ ?_)
   all_goals (exfalso;simp only[decide_eq_false_iff_not] at *;omega)
abbrev aaJ:Int×Int×Int×Int×Int->List Data:=λ(a,b,k,x,n)=>[.agg [.int .i64 a,.int .i64 b,.int .i64 k,.int .i64 x],.ptr [.int .i64 n],.ptr [.fn wO []]]
def aaK:=cj aaJ λ(a,b,k,x,n)=>cN (0<=n/\n<=1000000) (.same (.bool (!hS n (a,b,k,x))))
theorem azk:∀a b,aaJ a=aaJ b->a=b:=by
  rintro⟨cQ,c1,b6,a7,iw⟩ ⟨de,ee,dd,b3,jr⟩ h;simp only[a6,Data.int.injEq,Data.agg.injEq,Data.X.injEq,Data.bool.injEq,Data.str.injEq,Data.ptr.injEq,Data.cH.injEq,fo,true_and,and_true] at h ⊢
  first|exact h|simpa [ye,and_assoc] using h|grind
@[go_sem] theorem azl (a:Int)(b:Int)(k:Int)(x:Int)(n:Int)(G:0<=n/\n<=1000000):aaK [.agg [.int .i64 a,.int .i64 b,.int .i64 k,.int .i64 x],.ptr [.int .i64 n],.ptr [.fn wO []]]=some (.same (.bool (!hS n (a,b,k,x)))):=(cu azk (a,b,k,x,n)).trans (cT G _)
theorem azm (T:bb)(aaA:T DS=aV Rt)(aaG:T wO=aV Ru)(a:Int)(b:Int)(k:Int)(x:Int)(n:Int)(G:0<=n/\n<=1000000):WP T aar (.same (.bool (!hS n (a,b,k,x)))) [.I (.agg [.int .i64 a,.int .i64 b,.int .i64 k,.int .i64 x]),.I (.ptr [.int .i64 n]),.I (.ptr [.fn wO []])]:=by
 refine cv ?_;simp only[aar];have w:IntKind.i64.wrap (n-1)=n-1:=by rw[eM _]
 have e:hS n (a,b,k,x)=((decide (0<=a)&&decide (a<=n-1))&&((decide (-1<=b)&&decide (b<=n-1))&&((decide (0<=k)&&decide (k<=9))&&gl x))):=by
  rw[B7,Mv];simp only[e9,decide_eq_true_eq,Re];omega
 rw[e];rcases aI:(decide (0<=a)&&decide (a<=n-1))<;>rcases c2:(decide (-1<=b)&&decide (b<=n-1))<;>rcases c3:(decide (0<=k)&&decide (k<=9))<;>rcases c4:gl x
 all_goals
      refine aY ?_;repeat' (intro h<;>simp only[h,go_sem,go_sem_proc,aaA,aaG,w,aI,c2,c3,c4]<;>try refine ax ?_ ?_)
abbrev aaL:Int×Int×Int×Int×Int->List Data:=λ(a,b,k,x,n)=>[.agg [.int .i64 a,.int .i64 b,.int .i64 k,.int .i64 x],.ptr [.int .i64 n],.ptr [.fn nu []]]
def aaM:=cj aaL λ(a,b,k,x,n)=>cN (0<=n/\n<=1000000) (.same (.bool (hS n (a,b,k,x))))
theorem azn:∀a b,aaL a=aaL b->a=b:=by
  rintro⟨cQ,c1,b6,a7,iw⟩ ⟨de,ee,dd,b3,jr⟩ h;simp only[a6,Data.int.injEq,Data.agg.injEq,Data.X.injEq,Data.bool.injEq,Data.str.injEq,Data.ptr.injEq,Data.cH.injEq,fo,true_and,and_true] at h ⊢
  first|exact h|simpa [ye,and_assoc] using h|grind
@[go_sem] theorem aMa (a:Int)(b:Int)(k:Int)(x:Int)(n:Int)(G:0<=n/\n<=1000000):aaM [.agg [.int .i64 a,.int .i64 b,.int .i64 k,.int .i64 x],.ptr [.int .i64 n],.ptr [.fn nu []]]=some (.same (.bool (hS n (a,b,k,x)))):=(cu azn (a,b,k,x,n)).trans (cT G _)
theorem azo (T:bb)(aaB:T DO=aV Rv)(aaE:T nu=aV Rw)(a:Int)(b:Int)(k:Int)(x:Int)(n:Int)(G:0<=n/\n<=1000000):WP T Xo (.same (.bool (hS n (a,b,k,x)))) [.I (.agg [.int .i64 a,.int .i64 b,.int .i64 k,.int .i64 x]),.I (.ptr [.int .i64 n]),.I (.ptr [.fn nu []])]:=by
 refine cv ?_;simp only[Xo];have w:IntKind.i64.wrap (n-1)=n-1:=by rw[eM _]
 have e:hS n (a,b,k,x)=((decide (0<=a)&&decide (a<=n-1))&&((decide (-1<=b)&&decide (b<=n-1))&&((decide (0<=k)&&decide (k<=9))&&gl x))):=by
  rw[B7,Mv];simp only[e9,decide_eq_true_eq,Re];omega
 rw[e];rcases aI:(decide (0<=a)&&decide (a<=n-1))<;>rcases c2:(decide (-1<=b)&&decide (b<=n-1))<;>rcases c3:(decide (0<=k)&&decide (k<=9))<;>rcases c4:gl x
 all_goals
      refine aY ?_;repeat' (intro h<;>simp only[h,go_sem,go_sem_proc,aaB,aaE,w,aI,c2,c3,c4]<;>try refine ax ?_ ?_)
abbrev aaN:Int×Int×Int×Int×Int->List Data:=λ(a,b,k,x,n)=>[.agg [.int .i64 a,.int .i64 b,.int .i64 k,.int .i64 x],.ptr [.fn yd [.ptr [.int .i64 n],.ptr [.fn nu []]]]]
def aaO:=cj aaN λ(a,b,k,x,n)=>cN (0<=n/\n<=1000000) (.same (.bool (!hS n (a,b,k,x))))
theorem azp:∀a b,aaN a=aaN b->a=b:=by
  rintro⟨cQ,c1,b6,a7,iw⟩ ⟨de,ee,dd,b3,jr⟩ h;simp only[a6,Data.int.injEq,Data.agg.injEq,Data.X.injEq,Data.bool.injEq,Data.str.injEq,Data.ptr.injEq,Data.cH.injEq,fo,true_and,and_true] at h ⊢
  first|exact h|simpa [ye,and_assoc] using h|grind
@[go_sem] theorem azq (a:Int)(b:Int)(k:Int)(x:Int)(n:Int)(G:0<=n/\n<=1000000):aaO [.agg [.int .i64 a,.int .i64 b,.int .i64 k,.int .i64 x],.ptr [.fn yd [.ptr [.int .i64 n],.ptr [.fn nu []]]]]=some (.same (.bool (!hS n (a,b,k,x)))):=(cu azp (a,b,k,x,n)).trans (cT G _)
theorem azr (T:bb)(azs:T yd=aV aaM)(a:Int)(b:Int)(k:Int)(x:Int)(n:Int)(G:0<=n/\n<=1000000):WP T Xz (.same (.bool (!hS n (a,b,k,x)))) [.I (.agg [.int .i64 a,.int .i64 b,.int .i64 k,.int .i64 x]),.I (.ptr [.fn yd [.ptr [.int .i64 n],.ptr [.fn nu []]]])]:=by
 refine cv ?_;simp only[Xz];refine aY ?_;repeat' (intro h<;>simp only[h,go_sem,go_sem_proc,azs,G]<;>try refine ax ?_ ?_)
abbrev aaP:Int×Int×Int×Int×Int×Int×(List Int)->List Data:=λ(a,b,k,x,i,e,set)=>[.agg [.int .i64 a,.int .i64 b,.int .i64 k,.int .i64 x],.ptr [.int .i64 i],.ptr [.int .i64 e],.ptr [.X (set.map ad)]]
def aaQ:=cj aaP λ(a,b,k,x,i,e,set)=>cN (D set<=1000000) (.same (.bool (a==i&&(k==e&&(decide (x>0) && !decide (b∈set))))))
theorem azt:∀a b,aaP a=aaP b->a=b:=by
  rintro⟨cQ,c1,b6,a7,i1,ay,akm⟩ ⟨de,ee,dd,b3,i2,aB,akn⟩ h;simp only[a6,Data.agg.injEq,Data.int.injEq,Data.ptr.injEq,Data.X.injEq,and_true,true_and] at h;obtain⟨⟨E,H,af,aP⟩,bt,bU,bM⟩:=h;rw[E,H,af,aP,bt,bU,map_inj fi _ _ bM]
@[go_sem] theorem azu (a:Int)(b:Int)(k:Int)(x:Int)(i:Int)(e:Int)(set:List Int)(G:(D set)<=1000000):aaQ [.agg [.int .i64 a,.int .i64 b,.int .i64 k,.int .i64 x],.ptr [.int .i64 i],.ptr [.int .i64 e],.ptr [.X (set.map ad)]]=some (.same (.bool (a==i&&(k==e&&(decide (x>0) && !decide (b∈set)))))):=(cu azt (a,b,k,x,i,e,set)).trans (cT G _)
theorem ME (T:bb)(id:FuncId)(eP:List Data)(aS:List Data->Option eJ)(cI:T id=aV aS)(p:aw->Bool)(l:List aw)(av:(D l)<=1000000)(fa:∀a b k z,(a,b,k,z)∈l->aS (.agg [.int .i64 a,.int .i64 b,.int .i64 k,.int .i64 z]::eP)=some (.same (.bool (p (a,b,k,z))))):WP T KM (.same (.int .i64 (kP p l))) [.I (.X (l.map ca)),.I (.fn id eP)]:=by
 refine cv ?_;simp only[KM];simp only[go_sem,go_sem_proc,ai];refine dm [0,1,7] [] (λ(i:Nat) tm mem=>i<=D l/\(∀x∈l.take i,p x=false)/\tm 8=.I (.int .i64 i)) (λi=>D l-i) 0 (by refine⟨fs _,by simp,rfl⟩) ?_;intro vs ms aR aN;simp only[go_sem,go_sem_proc,ai] at aR aN;subst aR aN;rintro i tm mem M hm ⟨J,fh,cf⟩;simp only[go_sem,go_sem_proc,a6] at M hm;obtain⟨ao,E,bM⟩:=M;have fu:∀m:Mem,(eP.map Q.I).mapM (cy 6 m)=some eP:=λm=>tH (cy 6 m) (λd=>rfl) eP;rcases dv (i<D l) with az|b2
 ·have O:=bu az;have Cm:=np az;have cg:=λh=>Ls (p:=p) fh O h;have hW:=λh=>P4 (p:=p) fh O h;generalize l[i]=x at *;obtain⟨a,b,k,z⟩:=x;have mS:=fa a b k z Cm;have hB:decide ((i:Int)<(D l:Int))=true:=dj;have hw:=eZ (i:=i) (by omega);rcases ae:p (a,b,k,z)
  ·rw[ae] at mS;simp only[go_sem,go_sem_proc,cI,ao,E,bM,cf,O,hB,hw,mS,fu,ca,ai,bh,la];repeat' (first|refine ax ?_ ?_|fail)<;>intro h<;>simp only[h,go_sem,go_sem_proc,cI,ao,E,bM,cf,O,hB,hw,mS,fu,ca,ai,bh,la]
   exact⟨i+1,by omega,by omega,hW ae,rfl⟩
  ·rw[ae] at mS;rw[cg ae];simp only[go_sem,go_sem_proc,cI,ao,E,bM,cf,O,hB,hw,mS,fu,ca,ai,bh,la];repeat' (first|refine ax ?_ ?_|fail)<;>intro h<;>simp only[h,go_sem,go_sem_proc,cI,ao,E,bM,cf,O,hB,hw,mS,fu,ca,ai,bh,la]
 ·have hB:decide ((i:Int)<(D l:Int))=false:=c5;obtain rfl:i=D l:=by omega
  rw[lK] at fh;rw[P3 fh];simp only[go_sem,go_sem_proc,ao,E,bM,cf,hB,ai];repeat' (first|refine ax ?_ ?_|fail)<;>intro h<;>simp only[h,go_sem,go_sem_proc,ao,E,bM,cf,hB,ai]
inductive AF where
 |right (n:Int)
 |day (cash:List Int)
 |hold (n:Int)
 |rY (n:Int)
 |E0 (i e:Int) (set:List Int)
def wc:AF->Data
 |.right n => .fn Kz [.ptr [.fn vu []],.ptr [.int .i64 n]]
 |.day cash => .fn Gn [.ptr [.X (cash.map ad)]]
 |.hold n => .fn Gq [.ptr [.int .i64 n],.ptr [.fn wO []]]
 |.rY n => .fn DQ [.ptr [.fn yd [.ptr [.int .i64 n],.ptr [.fn nu []]]]]
 |.E0 i e set => .fn DR [.ptr [.int .i64 i],.ptr [.int .i64 e],.ptr [.X (set.map ad)]]
theorem azv:∀a b:AF,wc a=wc b->a=b:=by
 intro a b e
 cases a<;>cases b
 all_goals first|(simp[wc,Kz,Gn,Gq,DQ,DR] at e;done)|simp only[wc,Data.fn.injEq,a6,Data.ptr.injEq,Data.X.injEq,Data.int.injEq,and_true,true_and] at e
 ·rw[e]
 ·rw[map_inj fi _ _ e]
 ·rw[e]
 ·rw[e]
 ·rw[e.1,e.2.1,map_inj fi _ _ e.2.2]
def s7:AF->aw->Bool
 |.right n,c => !hS n c
 |.day cash,c => !hS (D cash) c
 |.hold n,c => !hS n c
 |.rY n,c => !hS n c
 |.E0 i e set,c=>c.1==i&&(c.2.2.1==e&&(decide (c.2.2.2>0) && !decide (c.2.1∈set)))
def Ij:AF->Prop
 |.right n=>0<=n/\n<=1000000
 |.day cash=>Gn<900000/\D cash<=1000000
 |.hold n=>Gq<900000/\0<=n/\n<=1000000
 |.rY n=>DQ<900000/\0<=n/\n<=1000000
 |.E0 _ _ set=>DR<900000/\D set<=1000000
abbrev Rz:(List aw)×AF->List Data:=λ(l,c)=>[.X (l.map ca),wc c]
def aaR:=cj Rz λ(l,c)=>cN (D l<=1000000/\Ij c) (.same (.int .i64 (kP (s7 c) l)))
theorem aks:∀a b,Rz a=Rz b->a=b:=by
  rintro⟨en,aI⟩ ⟨al,c2⟩ h;simp only[a6,Data.X.injEq,and_true] at h;exact dQ (map_inj rU _ _ h.1) (azv _ _ h.2)
@[go_sem] theorem aMb (l:List aw)(c:AF)(G:(D l)<=1000000/\Ij c):aaR [.X (l.map ca),wc c]=some (.same (.int .i64 (kP (s7 c) l))):=(cu aks (l,c)).trans (cT G _)
theorem azw (T:bb)(azx:T Kz=aV aao)(azy:Gn<900000->T Gn=aV aaI)(azz:Gq<900000->T Gq=aV aaK)(azA:DQ<900000->T DQ=aV aaO)(azB:DR<900000->T DR=aV aaQ)(l:List aw)(c:AF)(G:(D l)<=1000000/\Ij c):WP T KM (.same (.int .i64 (kP (s7 c) l))) [.I (.X (l.map ca)),.I (wc c)]:=by
 refine cv ?_;simp only[KM];obtain⟨av,cR⟩:=G
 cases c with
 |right n=>exact qR (ME T _ _ _ azx (s7 (.right n)) l av λa b k z _=>ayP a b k z n cR)
 |day cash=>exact qR (ME T _ _ _ (azy cR.1) (s7 (.day cash)) l av λa b k z _=>azi a b k z cash cR.2)
 |hold n=>exact qR (ME T _ _ _ (azz cR.1) (s7 (.hold n)) l av λa b k z _=>azl a b k z n cR.2)
 |rY n=>exact qR (ME T _ _ _ (azA cR.1) (s7 (.rY n)) l av λa b k z _=>azq a b k z n cR.2)
 |E0 i e set=>exact qR (ME T _ _ _ (azB cR.1) (s7 (.E0 i e set)) l av λa b k z _=>azu a b k z i e set cR.2)
def MF:=cj Rz λ(l,c)=>cN (D l<=1000000/\Ij c) (.same (.bool (l.any (s7 c))))
@[go_sem] theorem aaS (l:List aw)(c:AF)(G:(D l)<=1000000/\Ij c):MF [.X (l.map ca),wc c]=some (.same (.bool (l.any (s7 c)))):=(cu aks (l,c)).trans (cT G _)
theorem azC (T:bb)(azD:T UF=aV aaR)(l:List aw)(c:AF)(G:(D l)<=1000000/\Ij c):WP T Vw (.same (.bool (l.any (s7 c)))) [.I (.X (l.map ca)),.I (wc c)]:=by
 refine cv ?_;simp only[Vw];rw[<-Lt];refine aY ?_;repeat' (intro h<;>simp only[h,go_sem,go_sem_proc,azD,G]<;>try refine ax ?_ ?_)
theorem MG {α:Type}(l:List α)(p:α->Bool):l.any (λx => !p x) = !l.all p:=by
 induction l with
 |nil=>rfl
 |cons a l aA=>rw[List.any_cons,List.all_cons,aA];cases p a<;>rfl
abbrev RA:(List Int)×(List aw)->List Data:=λ(cash,cs)=>[.X (cash.map ad),.X (cs.map ca)]
def aaT:=cj RA λ(cash,cs)=>cN (D cash<=1000000/\D cs<=1000000) (.same (.bool (kx cash cs)))
theorem akt:∀a b,RA a=RA b->a=b:=by
  rintro⟨uJ,uK⟩ ⟨uL,n1⟩ h;simp only[a6,Data.X.injEq,and_true] at h;exact dQ (map_inj fi _ _ h.1) (map_inj rU _ _ h.2)
@[go_sem] theorem aMc (cash:List Int)(cs:List aw)(G:(D cash)<=1000000/\D cs<=1000000):aaT [.X (cash.map ad),.X (cs.map ca)]=some (.same (.bool (kx cash cs))):=(cu akt (cash,cs)).trans (cT G _)
theorem azE (T:bb)(RB:T KA=aV Ry)(Ik:T DN=aV MF)(cash:List Int)(cs:List aw)(G:(D cash)<=1000000/\D cs<=1000000):WP T Xb (.same (.bool (kx cash cs))) [.I (.X (cash.map ad)),.I (.X (cs.map ca))]:=by
 refine cv ?_;simp only[Xb];obtain⟨E,H⟩:=G;rw[aya];have dK:=akr cash .right ⟨E,trivial⟩;have fW:=aaS cs (.right (D cash)) ⟨H,by show (0:Int)<=(D cash:Int);omega,by show (D cash:Int)<=1000000;omega⟩
 have ay:cash.any (qd .right) = !cash.all gl:=MG cash gl;have aB:cs.any (s7 (.right (D cash))) = !cs.all (hS (D cash)):=MG cs _;rw[ay] at dK;rw[aB] at fW;simp only[rZ] at dK;simp only[wc] at fW;have d1:decide (D cash<=60)=decide ((D cash:Int)<=60):=by rw[B7,decide_eq_true_iff,decide_eq_true_iff];omega
 have d2:decide (D cs<=2000)=decide ((D cs:Int)<=2000):=by rw[B7,decide_eq_true_iff,decide_eq_true_iff];omega
 rw[d1,d2];rcases hp:decide ((D cash:Int)<=60)<;>rcases fb:decide ((D cs:Int)<=2000)<;>rcases uC:cash.all gl<;>rcases oh:cs.all (hS (D cash))
 all_goals rw[uC] at dK
 all_goals rw[oh] at fW
 all_goals
      refine aY ?_;repeat' (intro h<;>simp only[h,go_sem,go_sem_proc,RB,Ik,dK,fW,hp,fb,ai,cP,du,Bool.and_true,iZ,cy,nT,Option.bind_none,scalar]<;>try refine ax ?_ ?_)
structure dc.Il (a:dc):Prop where
 uM:fz a.cash a.cs
 gu:∀x∈a.aD,0<=x/\x<=10
theorem dc.MH {a:dc}{m:Mem}(h:a.eI m)(aK:a.Il){i:Nat}(J:i<D a.cash):a.aD.getD i 10=(bJ a.aD i:Int)/\bJ a.aD i<=10:=by
 have av:=h.aD
 have:a.aD.getD i 10∈a.aD:=by
  rw[dZ,bu (by omega)];exact np _
 have:=aK.gu _ this;unfold bJ;omega
structure aaU (x:dc×Nat) (mem:Mem):Prop where
 at_:x.1.eI mem
 no:rW 255 mem
 Im:x.1.Il
 lt:x.2<x.1.cash.length
 f10:bJ x.1.aD x.2<10
 S:0<(au x.1.cash x.1.cs).S x.2 (bJ x.1.aD x.2)
def RC (x:dc×Nat):Data:=.cH [.X ((dC x.1.cash.length λi=>(au x.1.cash x.1.cs).W (bJ x.1.aD) x.2 i).map aG),.bool true]
def RD:List Q->Mem->Option Data:=EV (λ(x:dc×Nat) args mem=>args=[.ptr (228500+x.2) (x.1.gs.getD x.2 0) 0,.I (.int .i64 x.1.cash.length)]/\aaU x mem) RC
theorem azF (a:dc)(k:Nat)(mem:Mem)(h:aaU (a,k) mem):RD [.ptr (228500+k) (a.gs.getD k 0) 0,.I (.int .i64 (D a.cash))] mem=some (RC (a,k)):=by
 refine Z9 (a:=(a,k)) ?_ ⟨rfl,h⟩;rintro⟨a,i⟩ ⟨b,j⟩ args mem ⟨ay,aB⟩ ⟨bG,dp⟩;obtain rfl:=dc.uniq aB.at_ dp.at_;rw[ay] at bG;simp only[a6,Q.ptr.injEq,Q.I.injEq,Data.int.injEq,true_and,and_true] at bG;have E:228500+i=228500+j:=bG.1;have:i=j:=by omega
 rw[this]
theorem azG (N:Nat)(aS:bg):(dD N (aG aS)).flatten.map Q.I=a8 aG (dD N aS):=by
 unfold a8;rw[HB,List.map_flatten,HB]
theorem azH (T:bb)(hM:T po=aV v5)(azI:T Uj=aV Y4)(mh:T zH=aV Em)(eE:T vl=aV yv)(a:dc)(k:Nat)(mem:Mem)(h:aaU (a,k) mem):
  wp T P1.body (od P1.res λm mem'=>cy 6 emp m=some (RC (a,k))/\eu 255 mem mem') ⟨kr [.ptr (228500+k) (a.gs.getD k 0) 0,.I (.int .i64 (D a.cash))],mem⟩:=by
 obtain⟨cg,gq,r0,M,we,cJ⟩:=h;dsimp only at *;obtain⟨U,gu⟩:=r0;have aH:=U.jB;have sy:=cg.dz k M;have uu:=(dc.MH cg ⟨U,gu⟩ M).1;have cR:=a.xu k;have hlen:=CM cR;have mj:=Mz cR;rw[show (a.gJ k).f=(bJ a.aD k:Int) from uu] at mj;have CP:=ake (x:=a.gJ k) (k:=bJ a.aD k) (l:=di a.cs k (bJ a.aD k)) (jg _ we);have s8:=My cR (k:=bJ a.aD k) (z:=cO a.cs k (bJ a.aD k:Nat)) (jg _ (by omega));have aku:=My cR (k:=bJ a.aD k+1) (z:=cO a.cs k (bJ a.aD k+1:Nat)) (jg _ (by omega));have WA:∀j,228500+k≠255000+j:=λj=>by omega
 generalize fE (a.gJ k)=DC at *;have aaV:=CI 0 EW;have aW:dC (D a.cash) (km (au a.cash a.cs) [])=dD (D a.cash) (aq ((0:Int):Rat)):=(Mq An λj ah=>by rw[aj2,ab ah,ayC];rfl).symm;generalize gw:di a.cs k (bJ a.aD k)=L at *;refine qv ?_;simp only[P1];have uN:(228500+k)/1000≠255:=by omega
 have lL:mem 255017=none:=gq 255017 (by decide);have gp:=λc (G:c∈L)=>EU.1 (gw ▸ G:c∈di a.cs k (bJ a.aD k));have akv:=λc (G:c∈L)=>(Rm U cJ (gw ▸ G:c∈di a.cs k (bJ a.aD k))).2.2;have akw:=λl i (av:∃fS,L=l++fS)=>ayE U cJ (l:=l) (by rw[gw];exact av) i;have akx:=λi=>ayD U.right (bJ a.aD) k i;rw[gw] at akx
 have aMd:(D L)<=12:=by
  have E:=om (λc:aw=>c.1==(k:Int)&&c.2.2.1==(bJ a.aD k:Int)) a.cs;have H:=U.qY;rw[<-gw];unfold di;omega
 have aMe:(0:Int)<kW a.cs k (bJ a.aD k):=by
  have E:=QV U.right k (bJ a.aD k);rw[<-E] at cJ;have:(0:Int)<cO a.cs k (bJ a.aD k+1:Nat)-cO a.cs k (bJ a.aD k):=by exact_mod_cast cJ
  exact this
 have azJ:kW a.cs k (bJ a.aD k)=cO a.cs k (bJ a.aD k+1:Nat)-cO a.cs k (bJ a.aD k:Nat):=rfl;have W5:=U.upto k (bJ a.aD k+1:Nat);have Ee:=U.upto k (bJ a.aD k:Nat);have azK:=(gQ.1 U.right).2.2.2;generalize dN:228500+k=ed at *;have o5:∀j,ed≠255000+j:=λj=>by omega
 have MI:(ed=255009)=False:=eq_false (o5 9);have aky:(ed=255010)=False:=eq_false (o5 10);have akz:(ed=255012)=False:=eq_false (o5 12);have aaW:(ed=255017)=False:=eq_false (o5 17);have E1:(ed==255009)=false:=beq_eq_false_iff_ne.2 (o5 9);have akA:(ed==255010)=false:=beq_eq_false_iff_ne.2 (o5 10);have akB:(ed==255012)=false:=beq_eq_false_iff_ne.2 (o5 12);have akC:(ed==255017)=false:=beq_eq_false_iff_ne.2 (o5 17);have d9:(255009==ed)=false:=beq_eq_false_iff_ne.2 (o5 9).symm;have d10:(255010==ed)=false:=beq_eq_false_iff_ne.2 (o5 10).symm;have d12:(255012==ed)=false:=beq_eq_false_iff_ne.2 (o5 12).symm;have d17:(255017==ed)=false:=beq_eq_false_iff_ne.2 (o5 17).symm;have en:bJ a.aD k+1<11:=by omega
 have al:bJ a.aD k<11:=by omega
 have b1:(1+bJ a.aD k+1<=24)=True:=eq_true (by omega);have cr:(11+bJ a.aD k+1<=24)=True:=eq_true (by omega);have akD:(11+(bJ a.aD k+1)+1<=24)=True:=eq_true (by omega);have wf:IntKind.i64.wrap ((bJ a.aD k:Int)+1)=((bJ a.aD k+1:Nat):Int):=by rw[eM _];omega
 have kt:=sy;generalize aMf:cO a.cs k (bJ a.aD k+1:Nat)=akE at *;generalize aMg:cO a.cs k (bJ a.aD k:Nat)=azL at *;generalize aMh:bJ a.aD k=F0 at *;generalize MJ:aq ((0:Int):Rat)=Z at *;obtain⟨⟨jN,kO⟩,⟨uO,AG⟩⟩:=Z;have aaX:=av8 jN kO uO AG (D a.cash) (by omega);have gL:=azG (D a.cash) ((jN,kO),(uO,AG));simp only[aG] at aaV aaX gL;have dM:=akc L;simp only[go_sem,go_sem_proc] at dM;simp only[go_sem,go_sem_proc,hM,aaV,azI,aaX,gL,sy,hlen,we,mj,CP,aaW,b1,lL,bF,cD,dM,An]
 refine dm [0,6,26,27] [] (λ(j:Nat) tm m=>j<=D L/\tm 28=.I (.int .i64 j)/\tm 7=.I (.bool true)/\m 255017=some (0,a8 aG (dC (D a.cash) (km (au a.cash a.cs) (L.take j))))/\eu 255 mem m) (λj=>D L-j) 0 (by
  refine⟨by omega,rfl,rfl,?_,(eu.refl _ _).e6 (by decide)⟩
  rw[mH,aW];simp[a1,lL,gE]) ?_
 intro vs ms aR aN;simp only[go_sem,go_sem_proc] at aR aN;subst aR aN;clear aaV aaX gL sy;rintro j tm m M-⟨ah,jC,bH,CQ,bW⟩;simp only[go_sem,go_sem_proc,a6] at M;obtain⟨bm,bK,il,im⟩:=M;have ae:=(bW ed uN).trans kt;rcases dv (j<D L) with az|b2
 ·have d1:decide ((j:Int)<(D L:Int))=true:=dj;have bO:=eZ (i:=j) (by omega);obtain⟨⟨aI,c2,c3,c4⟩,O⟩:∃c,L[j]?=some c:=⟨_,bu az⟩;have Cm:=eg O;have lY:=azK _ (gp _ Cm).1;dsimp only at lY;have sM:=akd O;simp only[go_sem,go_sem_proc] at sM;have gN:L.take (j+1)=L.take j++[(aI,c2,c3,c4)]:=by rw[hk,O];rfl
  rcases q:decide (c2<0)
  ·have u7:0<=c2:=by have:=of_decide_eq_false q;omega
   obtain⟨t,rfl⟩:∃t:Nat,c2=(t:Int):=⟨c2.toNat,by omega⟩
   have hw:=akv _ Cm;dsimp only at hw;have lC:=ayj (p:=c4) (q:=kW a.cs k F0) (o3 (by omega) (by omega)) (o3 (by omega) (by omega)) (by omega);rw[<-hw] at lC;have o6:=agh c4 (kW a.cs k F0) ⟨o3 (by omega) (by omega),o3 (by omega) (by omega)⟩;rw[lC] at o6;have jN:=akw (L.take j) t ⟨L.drop j,(tG j L).symm⟩;have kO:=ayk U (gp _ Cm).1;have iO:=ajJ (iU jN (by omega)) (iU kO (by omega)) (EM jN kO (by omega))
   have AH:dC (D a.cash) (km (au a.cash a.cs) (L.take (j+1)))=(dC (D a.cash) (km (au a.cash a.cs) (L.take j))).set t (aq (km (au a.cash a.cs) (L.take j) t+(au a.cash a.cs).w (cA (aI,(t:Int),c3,c4)))):=by
    rw[ayl];refine HV λi _=>?_;rw[gN,akb]
    by_cases J:i=t
    ·rw[ab J,ab (by dsimp only;omega),J]
    ·rw[ag J,ag (by dsimp only;omega),p5]
   have akF:IntKind.i64.wrap (akE-azL)=kW a.cs k F0:=by rw[wrap64 _ (by omega) (by omega),azJ]
   have Yb:(dC (D a.cash) (km (au a.cash a.cs) (L.take j))).length=D a.cash:=pD _ _;have azM:=s4 (N:=D a.cash) (km (au a.cash a.cs) (L.take j)) (k:=t) (by omega);clear jN kO akw akv lC hw;generalize aq (km (au a.cash a.cs) (L.take j) t+(au a.cash a.cs).w (cA (aI,(t:Int),c3,c4)))=F1 at *;generalize aq (km (au a.cash a.cs) (L.take j) t)=F2 at *;generalize aq ((au a.cash a.cs).w (cA (aI,(t:Int),c3,c4)))=F3 at *;generalize dC (D a.cash) (km (au a.cash a.cs) (L.take j))=bV at *;obtain⟨⟨cQ,de⟩,⟨ep,fe⟩⟩:=F1;obtain⟨⟨f1,f2⟩,⟨f3,f4⟩⟩:=F2;obtain⟨⟨cE,ck⟩,⟨hj,kg⟩⟩:=F3;have t1:=Hn azM;have t2:=Hm (l:=bV) (k:=t) (by omega);have t3:=Yt (l:=bV) (k:=t) (by omega) cQ de ep fe;have Oi:t<D a.cash:=by omega
   simp only[aG,ez] at o6 iO;simp only[go_sem,go_sem_proc,mh,eE,bm,bK,bH,il,im,jC,ae,CQ,sM,hlen,mj,s8,aku,wf,akF,d1,bO,q,o6,iO,t1,t2,t3,Oi,we,en,al,b1,cr,akD,MI,aky,akz,aaW,E1,akA,akB,akC,d9,d10,d12,d17,ca,bF,cD,beq_self_eq_true];repeat' (first|refine ax ?_ ?_|fail)<;>intro h<;>simp only[h,go_sem,go_sem_proc,mh,eE,bm,bK,bH,il,im,jC,ae,CQ,sM,hlen,mj,s8,aku,wf,akF,d1,bO,q,o6,iO,t1,t2,t3,Oi,we,en,al,b1,cr,akD,MI,aky,akz,aaW,E1,akA,akB,akC,d9,d10,d12,d17,ca,bF,cD,beq_self_eq_true]
   refine⟨j+1,by omega,by omega,rfl,by rw[AH],by repeat first|exact bW|refine eu.e6 ?_ (by decide)⟩
  ·have u7:c2<0:=of_decide_eq_true q
   have AH:dC (D a.cash) (km (au a.cash a.cs) (L.take (j+1)))=dC (D a.cash) (km (au a.cash a.cs) (L.take j)):=HV λi _=>by
    rw[gN,akb,ag (by dsimp only;omega),p5]
   simp only[go_sem,go_sem_proc,bm,bK,bH,il,im,jC,ae,CQ,sM,d1,bO,q,ca,cD];repeat' (first|refine ax ?_ ?_|fail)<;>intro h<;>simp only[h,go_sem,go_sem_proc,bm,bK,bH,il,im,jC,ae,CQ,sM,d1,bO,q,ca,cD]
   refine⟨j+1,by omega,by omega,rfl,by rw[AH],by repeat first|exact bW|refine eu.e6 ?_ (by decide)⟩
 ·have d1:decide ((j:Int)<(D L:Int))=false:=c5;rw[dx (by omega)] at CQ;have AH:dC (D a.cash) (km (au a.cash a.cs) L)=dC (D a.cash) λi=>(au a.cash a.cs).W (bJ a.aD) k i:=HV λi _=>akx i;rw[AH] at CQ;have mA:(dC (D a.cash) λi=>(au a.cash a.cs).W (bJ a.aD) k i).length=D a.cash:=pD _ _;have kl:=λ(K:ba->Prop) (st:ba)=>mJ (K:=K) (st:=st) nA 6 255017 0 (dC (D a.cash) λi=>(au a.cash a.cs).W (bJ a.aD) k i);rw[mA] at kl;simp only[go_sem,go_sem_proc,bm,bK,bH,il,im,jC,ae,CQ,d1,kl];repeat' (first|refine ax ?_ ?_|fail)<;>intro h<;>simp only[h,go_sem,go_sem_proc,bm,bK,bH,il,im,jC,ae,CQ,d1,kl]
  exact⟨_,rfl,rfl,by repeat first|exact bW|refine eu.e6 ?_ (by decide)|refine eu.kill ?_ (by decide)⟩
theorem akG (N:Nat)(x:Nat->Rat):dC (N+1) x=dC N x++[aq (x N)]:=by
 unfold dC;rw[oo,kT,kT];rfl
theorem wg {l:List Q}{k:Nat}{y:Q}(h:l[k]?=some y):fM 1 (fX k l)=[y]:=by
 have:=v9 (f:=id) h;rwa [List.map_id] at this
def s9 (n:Nat)(W:Nat->Nat->Rat)(k:Nat):List Data:=[.X ((dC n (W k)).map aG)]
theorem azN (T:bb)(hM:T po=aV v5)(eW:T vm=aV w8){K:eY->ba->Prop}{kk:List gD}(eD:Mem)(n:Nat)(aH:n<=60)(p:List Nat)(aF:(D p)<=60)(W:Nat->Nat->Rat)(r i:Nat)(J:i<n)(su:∀k,k<(D p)->ec 54 (W (p.getD k 0) i))(v0 v1 v10 v20 akH akI:Q)(bN Io:Nat)(aI c2 c3 c4:Q)(akJ:Option (Nat×List Q))(tm:Nat->Q)(m:Mem)
  (bm:tm 0=v0) (ay:tm 1=v1) (aB:tm 2=.I (.X (p.map iG))) (bG:tm 3=.I (.X (p.map (s9 n W)))) (c8:tm 10=v10) (jD:tm 11=.I (.int .i64 r)) (eh:tm 12=.I (.int .i64 i)) (ie:tm 13=.ptr 256013 bN 0) (ml:tm 20=v20) (pv:tm 21=akH) (uc:tm 22=akI) (nI:tm 50=.I (.int .i64 (D p))) (nJ:tm 51=.I (.int .i64 0)) (Ip:m 256013=some (bN,[.ref 256076 Io 4 0 0,aI,c2,c3,c4])) (Iq:m 256076=some (Io,[])) (E2:m 256082=akJ) (bW:eu 256 eD m)
  (dN:∀tm' m' akK,tm' 0=v0->tm' 1=v1->tm' 2=.I (.X (p.map iG))->tm' 3=.I (.X (p.map (s9 n W)))->tm' 10=v10->tm' 13=.ptr 256013 bN 0->tm' 20=v20->tm' 21=akH->tm' 22=akI->m' 256013=some (bN,[.ref 256076 akK 4 0 (D p),aI,c2,c3,c4])->m' 256076=some (akK,a8 aG (dC (D p) λk=>(if r=k then 1 else 0)-W (p.getD k 0) i))->m' 256082=akJ->eu 256 eD m'->cB T K kk (.exit 2) ⟨tm',m'⟩) :
  wp T (GZ.body.sub [1,1,0,1,0,0,0,1,1,0,0,1,1,0,1,0]) (cB T K kk) ⟨tm,m⟩:=by
 simp only[GZ,eA.sub];refine dm [0,1,2,3,10,11,12,13,20,21,22,50] [256082] (λ((k,g):Nat×Nat) tm m=>k<=D p/\tm 51=.I (.int .i64 k)/\m 256013=some (bN,[.ref 256076 g 4 0 k,aI,c2,c3,c4])/\m 256076=some (g,a8 aG (dC k λk=>(if r=k then 1 else 0)-W (p.getD k 0) i))/\eu 256 eD m) (λ(k,_)=>D p-k) (0,Io) (by refine⟨by omega,nJ,Ip,Iq,bW⟩) ?_;intro vs ms aR aN;simp only[go_sem,go_sem_proc,bm,ay,aB,bG,c8,jD,eh,ie,ml,pv,uc,nI,E2] at aR aN;subst aR aN;clear bm ay aB bG c8 jD eh ie ml pv uc nI nJ Ip Iq E2 bW tm m;rintro⟨k,g⟩ tm m M hm ⟨HF,nJ,Ip,Iq,bW⟩;simp only[go_sem,go_sem_proc,a6] at M hm;obtain⟨bm,ay,aB,bG,c8,jD,eh,ie,ml,pv,uc,nI⟩:=M;rcases dv (k<D p) with az|b2
 ·have d1:decide ((k:Int)<(D p:Int))=true:=dj;have bO:=eZ (i:=k) (by omega);obtain⟨wh,O⟩:∃c,p[k]?=some c:=⟨_,bu az⟩;have nc:p.getD k 0=wh:=by rw[dZ,O];rfl
  have MK:=su k az;have aR:=akG k λk=>(if r=k then 1 else 0)-W (p.getD k 0) i;have bZ:(dC k λk=>(if r=k then 1 else 0)-W (p.getD k 0) i).length=k:=pD _ _;have dG:=λ(aS:bg) cs k1=>mI nA G0 256076 g 64 (dC k λk=>(if r=k then 1 else 0)-W (p.getD k 0) i) aS (cs:=cs) k1 (by omega) (by omega);simp only[bZ] at dG;rw[nc] at MK aR;have a9:=s4 (W wh) J;generalize dC k (λk=>(if r=k then 1 else 0)-W (p.getD k 0) i)=V at *;generalize vG:dC (k+1) (λk=>(if r=k then 1 else 0)-W (p.getD k 0) i)=V2 at *;clear dN su;have key:∀o:Int,(o=0\/o=1)->(if r=k then (1:Rat) else 0)=(o:Rat)->True:=λ_ _ _=>trivial;rcases q:((k:Int)==(r:Int))
  ·have h6:¬ r=k:=by have:=ne_of_beq_false q;omega
   have hw:=CI 0 EW;have U:=Z5 (qb EW) (iU MK (by omega)) (EM (Aw (z:=0) (b:=1) (by decide)) (HS MK) (by omega));rw[ag h6,show (0:Rat)=((0:Int):Rat) from rfl] at aR;generalize aq ((0:Int):Rat)=Z at *;generalize aq (W wh i)=eT at *;generalize aq (((0:Int):Rat)-W wh i)=df at *;obtain⟨⟨jN,kO⟩,⟨uO,AG⟩⟩:=Z;obtain⟨⟨oR,oS⟩,⟨EY,EZ⟩⟩:=eT;obtain⟨⟨a7,b3⟩,⟨cZ,eo⟩⟩:=df;have r1:=dG ((a7,b3),(cZ,eo)) _ rfl;rw[<-aR] at r1;simp only[aG,eC,cS] at r1 hw U;refine aY ?_;repeat' (intro h<;>simp only[h,go_sem,go_sem_proc,hM,eW,bm,ay,aB,bG,c8,jD,eh,ie,ml,pv,uc,nI,nJ,Ip,Iq,hm,d1,bO,q,O,s9,a9,hw,U,r1,aG,ai,bh,bne,beq_self_eq_true,cP,rN]<;>try refine ax ?_ ?_)
   exact⟨(k+1,g+1),by dsimp only;omega,by dsimp only;omega,rfl,rfl,by rw[<-vG],by repeat first|exact bW|refine eu.e6 ?_ (by decide)⟩
  ·have h6:r=k:=by have:=eq_of_beq q;omega
   have hw:=CI 1 Ri;have U:=Z5 (qb Ri) (iU MK (by omega)) (EM (Aw (z:=1) (b:=1) (by decide)) (HS MK) (by omega));rw[ab h6,show (1:Rat)=((1:Int):Rat) from rfl] at aR;generalize aq ((1:Int):Rat)=Z at *;generalize aq (W wh i)=eT at *;generalize aq (((1:Int):Rat)-W wh i)=df at *;obtain⟨⟨jN,kO⟩,⟨uO,AG⟩⟩:=Z;obtain⟨⟨oR,oS⟩,⟨EY,EZ⟩⟩:=eT;obtain⟨⟨a7,b3⟩,⟨cZ,eo⟩⟩:=df;have r1:=dG ((a7,b3),(cZ,eo)) _ rfl;rw[<-aR] at r1;simp only[aG,eC,cS] at r1 hw U;refine aY ?_;repeat' (intro h<;>simp only[h,go_sem,go_sem_proc,hM,eW,bm,ay,aB,bG,c8,jD,eh,ie,ml,pv,uc,nI,nJ,Ip,Iq,hm,d1,bO,q,O,s9,a9,hw,U,r1,aG,ai,bh,bne,beq_self_eq_true,cP,rN]<;>try refine ax ?_ ?_)
   exact⟨(k+1,g+1),by dsimp only;omega,by dsimp only;omega,rfl,rfl,by rw[<-vG],by repeat first|exact bW|refine eu.e6 ?_ (by decide)⟩
 ·have d1:decide ((k:Int)<(D p:Int))=false:=c5;obtain rfl:k=D p:=by omega
  refine aY ?_;repeat' (intro h<;>simp only[h,go_sem,go_sem_proc,bm,ay,aB,bG,c8,jD,eh,ie,ml,pv,uc,nI,nJ,d1]<;>try refine ax ?_ ?_)
  refine dN _ _ g ?_ ?_ ?_ ?_ ?_ ?_ ?_ ?_ ?_ Ip Iq hm bW<;>simp only[e7,dW,if_false,bm,ay,aB,bG,c8,ie,ml,pv,uc]
structure aaY (a:dc) (mem:Mem):Prop where
 at_:a.eI mem
 no:rW 256 mem
 Im:a.Il
 fv:s5 (au a.cash a.cs) (bJ a.aD) (fw a.P)
def dc.p (a:dc):List Nat:=cV (fw a.P) (D a.cash)
def RE (a:dc):List Q:=[.ref 228023 a.g 1 0 (D a.cash),.I (.X ((bD (D a.cash) λi=>lo a.cash a.cs (bJ a.aD) i).map ad)),.I (.X (a.p.map iG)),.I (.X (a.p.map (s9 (D a.cash) λk i=>(au a.cash a.cs).W (bJ a.aD) k i)))]
def dc.xs (a:dc):List bg:=dC (D a.p) λk=>(au a.cash a.cs).ff (bJ a.aD) (fw a.P) (a.p.getD k 0)-(au a.cash a.cs).bz (a.p.getD k 0) (bJ a.aD (a.p.getD k 0))
def RF (a:dc):Data:=.cH [.X (a.xs.map aG),.bool true]
def RG:List Q->Mem->Option Data:=EV (λ(a:dc) args mem=>args=RE a/\aaY a mem) RF
theorem azO (a:dc)(mem:Mem)(h:aaY a mem):RG (RE a) mem=some (RF a):=by
 refine Z9 (a:=a) ?_ ⟨rfl,h⟩;rintro a b args mem ⟨ay,aB⟩ ⟨bG,dp⟩;rw[dc.uniq aB.at_ dp.at_]
theorem azP (T:bb)(hM:T po=aV v5)(eW:T vm=aV w8)(azQ:T Ug=aV YS)(a:dc)(mem:Mem)(aM:aaY a mem):
  wp T GZ.body (od GZ.res λm mem'=>cy 6 emp m=some (RF a)/\eu 256 mem mem') ⟨kr (RE a),mem⟩:=by
 obtain⟨cg,gq,r0,mW⟩:=aM;have uu:=λi=>dc.MH cg r0 (i:=i);obtain⟨U,gu⟩:=r0;have aH:=U.jB;have mG:=λk=>xo (P:=fw a.P) (n:=D a.cash) (k:=k);have Ra:=axA U mW;have ML:=ZR U mW.rQ (cV (fw a.P) (D a.cash)) (λk M=>⟨(xo M).2,(xo M).1⟩) λi j J ah=>ZS J ah;have azR:=λk (M:fw a.P k) i=>(Q9 U mW M i).1
 have aMi:(cV (fw a.P) (D a.cash)).length<=6:=by
  unfold cV;exact eQ (om _ _) (by rw[sn];exact aH)
 have azS:mem 256082=none:=gq 256082 (by decide);unfold RE RF dc.xs dc.p;generalize aF:cV (fw a.P) (D a.cash)=p at *;generalize dK:(au a.cash a.cs).uH (bJ a.aD) p=A at *;generalize azT:(bD (D a.cash) λi=>lo a.cash a.cs (bJ a.aD) i).map ad=akL at *;have azU:∀i,i<(D a.cash)->akL[i]?=some [.int .i64 (lo a.cash a.cs (bJ a.aD) i)]:=λi J=>by rw[<-azT,bh,jg _ J];rfl
 refine qv ?_;simp only[GZ];simp only[go_sem,go_sem_proc,azS,ai];refine dm [0,1,2,3,20,21] [] (λ((r,g):Nat×Nat) tm m=>r<=D p/\tm 22=.I (.int .i64 r)/\tm 10=.ref 256082 g 5 0 r/\m 256082=some (g,a8 ka ((rowsOf (D p) A).take r))/\eu 256 mem m) (λ(r,_)=>D p-r) (0,0) (by refine⟨by omega,rfl,rfl,rfl,(eu.refl _ _).e6 (by decide)⟩) ?_;intro vs ms aR aN;simp only[go_sem,go_sem_proc,ai] at aR aN;subst aR aN;rintro⟨r,g⟩ tm m M hm ⟨akM,uc,c8,E2,bW⟩;simp only[go_sem,go_sem_proc,a6] at M;obtain⟨bm,ay,aB,bG,ml,pv⟩:=M;rcases dv (r<D p) with az|b2
 ·have d1:decide ((r:Int)<(D p:Int))=true:=dj;have bO:=eZ (i:=r) (by omega);obtain⟨i,O⟩:∃c,p[r]?=some c:=⟨_,bu az⟩;have EO:p.getD r 0=i:=by rw[dZ,O];rfl
  obtain⟨J,azV⟩:=mG r az;rw[EO] at J azV;obtain⟨r0,we⟩:=uu i J;have eS:=(bW.at 228023 (by omega)).trans cg.row;have fl:=(bW.at (228500+i) (by omega)).trans (cg.dz i J);have iy:=wg (jg (λi=>Q.ptr (228500+i) (a.gs.getD i 0) 0) J);have bZ:(bD (D a.cash) λi=>Q.ptr (228500+i) (a.gs.getD i 0) 0).length=D a.cash:=gT _ _;have cR:=a.xu i;have hlen:=CM cR;have mj:=Mz cR;rw[show (a.gJ i).f=(bJ a.aD i:Int) from r0] at mj;have s8:=My cR (k:=bJ a.aD i) (z:=cO a.cs i (bJ a.aD i:Nat)) (jg _ (by omega));have dy:=azU i J;have c1:=U.steady (bJ a.aD) i;have ee:=U.upto i (bJ a.aD i);have azW:IntKind.i64.wrap (lo a.cash a.cs (bJ a.aD) i-cO a.cs i (bJ a.aD i:Nat))=lo a.cash a.cs (bJ a.aD) i-cO a.cs i (bJ a.aD i:Nat):=by rw[eM _]
  have hw:=CI (lo a.cash a.cs (bJ a.aD) i-cO a.cs i (bJ a.aD i:Nat)) (o3 (by omega) (by omega))
  have azX:A r (D p)=((lo a.cash a.cs (bJ a.aD) i-cO a.cs i (bJ a.aD i:Nat):Int):Rat):=by
   rw[<-dK];unfold Day.uH;rw[ag (by omega),EO,<-Ms U.right,<-uA U.right,CA]
  have azY:∀k,k<(D p)->A r k=(if r=k then 1 else 0)-(au a.cash a.cs).W (bJ a.aD) (p.getD k 0) i:=λk M=>by
   rw[<-dK];unfold Day.uH;rw[ab M,EO]
  have en:i+1<=D a.cash:=by omega
  have al:bJ a.aD i<11:=by omega
  have b1:(11+bJ a.aD i+1<=24)=True:=eq_true (by omega);rw[<-azX] at hw;generalize uN:228500+i=ed at *;generalize fE (a.gJ i)=DC at *;generalize (bD (D a.cash) λi=>Q.ptr (228500+i) (a.gs.getD i 0) 0)=xv at *;generalize lo a.cash a.cs (bJ a.aD) i=S1 at *;generalize cO a.cs i (bJ a.aD i:Nat)=akE at *;generalize bJ a.aD i=F0 at *;generalize iz:aq (A r (D p))=eT at *;obtain⟨⟨oR,oS⟩,⟨EY,EZ⟩⟩:=eT;simp only[aG] at hw;have azZ:(ed==256013)=false:=beq_eq_false_iff_ne.2 (by omega);have az0:(256013==ed)=false:=beq_eq_false_iff_ne.2 (by omega);have az1:(ed=256013)=False:=eq_false (by omega);simp only[go_sem,go_sem_proc,hM,bm,ay,aB,bG,c8,ml,pv,uc,eS,fl,iy,bZ,hlen,mj,s8,dy,azW,hw,O,d1,bO,J,en,al,b1,azZ,az0,az1,bF,iG,cD,ai,bh];refine ayf (kc:=256013) (g:=gE (m 256013)) (off:=0) (cs:=[.nil,.I (.int .i64 oR),.I (.X (oS.map ad)),.I (.int .i64 EY),.I (.X (EZ.map ad))]) ?_ ?_ rfl (by decide) ?_
  ·simp only[go_sem,go_sem_proc]
  ·simp[a1]
  simp only[go_sem,go_sem_proc,aB,ai,rN];refine azN T hM eW mem (D a.cash) (by omega) p (by omega) (λk i=>(au a.cash a.cs).W (bJ a.aD) k i) r i J (λk M=>azR _ (mG k M).2 i) (.ref 228023 a.g 1 0 (D a.cash)) (.I (.X akL)) (.ref 256082 g 5 0 r) (.I (.X (p.map iG))) (.I (.int .i64 (D p))) (.I (.int .i64 r)) (gE (m 256013)) (gE (m 256076)) (.I (.int .i64 oR)) (.I (.X (oS.map ad))) (.I (.int .i64 EY)) (.I (.X (EZ.map ad))) (some (g,a8 ka ((rowsOf (D p) A).take r))) _ _ ?_ ?_ ?_ ?_ ?_ ?_ ?_ ?_ ?_ ?_ ?_ ?_ ?_ ?_ ?_ ?_ ?_ ?_
  ·simp only[e7,dW,if_false];exact bm
  ·simp only[e7,dW,if_false];exact ay
  ·simp only[e7,dW,if_false];exact aB
  ·simp only[e7,dW,if_false];exact bG
  ·simp only[e7,dW,if_false];exact c8
  ·simp only[e7,dW,if_false,if_true]
  ·simp only[e7,dW,if_false,if_true]
  ·simp only[e7,dW,if_false,if_true]
  ·simp only[e7,dW,if_false];exact ml
  ·simp only[e7,dW,if_false];exact pv
  ·simp only[e7,dW,if_false];exact uc
  ·simp only[e7,dW,if_false,if_true]
  ·simp only[e7,dW,if_false,if_true]
  ·simp[a1]
  ·simp[a1]
  ·simp only[a1,dW,if_false];exact E2
  ·repeat first|exact bW|refine eu.e6 ?_ (by decide)
  intro tm cU Io fP b6 dd ey n7 w0 RH az2 az3 az4 aaZ az5 q1;have az6:(dC (D p) λk=>(if r=k then 1 else 0)-(au a.cash a.cs).W (bJ a.aD) (p.getD k 0) i)=dC (D p) (A r):=HV λk M=>(azY k M).symm;rw[az6] at aaZ;clear bm ay aB bG c8 ml pv uc E2 eS fl iy bW;have dG:=λcs k1=>mI agu aym 256082 g 88 ((rowsOf (D p) A).take r) (dC (D p) (A r),aq (A r (D p))) (cs:=cs) k1;have sS:((rowsOf (D p) A).take r).length=r:=by rw[gC,CH];omega
  have gN:(rowsOf (D p) A).take r++[(dC (D p) (A r),aq (A r (D p)))]=(rowsOf (D p) A).take (r+1):=by
   rw[hk,ajd A az];rfl
  rw[sS,gN,iz] at dG;have mA:(dC (D p) (A r)).length=D p:=pD _ _;generalize dC (D p) (A r)=V at *;have r1:=dG _ rfl (by omega) (by omega);simp only[aG,ka,eC,cS] at r1;simp only[go_sem,go_sem_proc];refine ayg (kc:=256013) (gc:=gE (m 256013)) (off:=0) (cc:=[.ref 256076 Io 4 0 (D p),.I (.int .i64 oR),.I (.X (oS.map ad)),.I (.int .i64 EY),.I (.X (EZ.map ad))]) (k:=256076) (g:=Io) (sz:=4) (o:=0) (len:=D p) (cs:=a8 aG V) (d:=.X (V.map aG)) ?_ az4 rfl aaZ (aeD _ _) (by decide) ?_ ?_
  ·exact w0
  ·have:=qz (n:=0) nA aaZ;rw[mA] at this;exact this
  refine aY ?_;repeat' (intro h<;>simp only[h,go_sem,go_sem_proc,fP,b6,dd,ey,n7,w0,RH,az2,az3,az5,r1,bO,rN]<;>try refine ax ?_ ?_)
  exact⟨(r+1,g+1),by dsimp only;omega,by dsimp only;omega,rfl,rfl,rfl,by repeat first|exact q1|refine eu.e6 ?_ (by decide)⟩
 ·have d1:decide ((r:Int)<(D p:Int))=false:=c5;have akM:r=D p:=by omega
  have hlen:=CH (D p) A;rw[dx (by rw[hlen];omega)] at E2;obtain⟨c1,ee⟩:=Ra;have kV:rJ (rowsOf (D p) A):=axs (by omega) λi J k M=>iU (ML.sz (by omega) J M) (by omega);have fa:=avT (rowsOf (D p) A) (D p) kV;rw[c1] at fa;dsimp only at fa;have kl:=λ(K:ba->Prop) (st:ba)=>mJ (K:=K) (st:=st) agu 10 256082 g (rowsOf (D p) A);rw[hlen] at kl;subst akM;refine aY ?_;repeat' (intro h<;>simp only[h,go_sem,go_sem_proc,azQ,bm,ay,aB,bG,c8,ml,pv,uc,E2,d1,kl,fa,ai,bne,beq_self_eq_true,cP]<;>try refine ax ?_ ?_)
  exact⟨_,rfl,rfl,by repeat first|exact bW|refine eu.e6 ?_ (by decide)|refine eu.kill ?_ (by decide)⟩
end Go.Mini
namespace Go.Mini
open Classical
def ta (cs:List aw)(f:Nat->Nat)(n:Nat):List aw:=(dU n).flatMap λi=>(dU (f i)).flatMap λk=>di cs i k
theorem az7 (aS:Nat->List aw)(r n:Nat)(h:r<=n):((dU n).flatMap λk=>if k<r then aS k else [])=(dU r).flatMap aS:=by
 induction n with
 |zero=>rw[show r=0 by omega];rfl
 |succ n aA =>
  rw[oo,yP,qB,CJ,fG]
  by_cases aa:r=n+1
  ·subst aa;rw[ab (by omega),oo,yP,qB,CJ,fG]
   congr 1
   rw[yQ,yQ]
   congr 1
   exact m3 λk M=>ab (by have:=g2.1 M;omega)
  ·rw[ag (by omega),fG];exact aA (by omega)
theorem akN {α:Type}(l:List α)(aS:α->List aw)(p:aw->Bool):(l.flatMap aS).filter p=l.flatMap λx=>(aS x).filter p:=by
 induction l with
 |nil=>rfl
 |cons a l aA=>rw[qB,qB,rV,aA]
theorem az8 {cs:List aw}{f:Nat->Nat}{n:Nat}(aK:∀i,i<n->f i<=10):ta cs f n=(dw n cs).filter λc=>decide (c.2.2.1<(f c.1.toNat:Int)):=by
 unfold ta dw;rw[akN,yQ,yQ]
 congr 1
 refine m3 λi J=>?_;rw[akN,<-az7 (λk=>di cs i k) (f i) 10 (aK i (g2.1 J)),yQ,yQ]
 congr 1
 refine m3 λk _=>?_
 by_cases h:k<f i
 ·rw[ab h];refine (List.filter_eq_self.2 λc G=>?_).symm;obtain⟨-,E,H⟩:=EU.1 G;rw[E,H,lH];exact dj
 ·rw[ag h];refine (HZ.2 λc G=>?_).symm;obtain⟨-,E,H⟩:=EU.1 G;rw[E,H,lH,decide_eq_true_eq];omega
theorem az9 (cs:List aw)(p:aw->Prop)[DecidablePred p](aS:aw->Int):cK (cs.filter λc=>decide (p c)) aS=cK cs λc=>if p c then aS c else 0:=by
 induction cs with
 |nil=>rfl
 |cons c l aA =>
  by_cases h:p c
  ·rw[v7 (by simpa using h)];simp only[cK,aA,ab h]
  ·rw[xq (by simpa using h),aA];simp only[cK,ag h];omega
def gU (j:Nat)(c:aw):Int:=if c.2.1=(j:Int) then c.2.2.2 else 0
theorem akO {cash:List Int}{cs:List aw}{f:Nat->Nat}(MM:cs=dw (D cash) cs)(aK:∀i,i<(D cash)->f i<=10)(j:Nat):lo cash cs f j=cash.getD j 0+cK (ta cs f (D cash)) (gU j):=by
 rw[az8 aK,<-MM,az9 cs (λc=>c.2.2.1<(f c.1.toNat:Int))];unfold lo
 congr 1
 refine HM λc _=>?_;unfold gU
 by_cases E:c.2.1=(j:Int)
 ·by_cases H:c.2.2.1<(f c.1.toNat:Int)
  ·rw[ab ⟨E,H⟩,ab H,ab E]
  ·rw[ag λh=>H h.2,ag H]
 ·rw[ag λh=>E h.1,ag E]
  split<;>rfl
theorem aAa {cs:List aw}{f:Nat->Nat}{n:Nat}{c:aw}(h:c∈ta cs f n):c∈cs:=by
 unfold ta at h;simp only[x3] at h;obtain⟨i,-,k,-,G⟩:=h;exact (EU.1 G).1
def kz (cs:List aw)(f:Nat->Nat)(i k t:Nat):List aw:=ta cs f i++(((dU k).flatMap λk=>di cs i k)++(di cs i k).take t)
theorem aAb (cs:List aw)(f:Nat->Nat):kz cs f 0 0 0=[]:=rfl
theorem aAc (cs:List aw)(f:Nat->Nat)(i k:Nat):kz cs f i k (di cs i k).length=kz cs f i (k+1) 0:=by
 unfold kz;rw[lK,mH,fG,oo,yP,qB,CJ,fG]
theorem aAd (cs:List aw)(f:Nat->Nat)(i:Nat):kz cs f i (f i) 0=kz cs f (i+1) 0 0:=by
 unfold kz ta;rw[mH,mH,fG,oo,yP,qB,CJ,fG];simp
theorem akP (cs:List aw)(f:Nat->Nat)(n:Nat):kz cs f n 0 0=ta cs f n:=by
 unfold kz;simp
theorem akQ (cs:List aw)(f:Nat->Nat){n i k t:Nat}(J:i<n)(M:k<f i):∃l,ta cs f n=kz cs f i k t++l:=by
 have aH:∃m,n=i+1+m:=⟨n-(i+1),by omega⟩
 obtain⟨m,rfl⟩:=aH;have aK:∃r,f i=k+1+r:=⟨f i-(k+1),by omega⟩
 obtain⟨r,aa⟩:=aK;have RI:∀(a b:Nat) (aS:Nat->List aw),(dU (a+b)).flatMap aS=(dU a).flatMap aS++((dU b).map (a+·)).flatMap aS:=λa b aS=>by rw[akR,yP]
 unfold ta kz;rw[RI,oo,yP,qB,CJ,fG,aa,RI,oo,yP,qB,CJ,fG];refine⟨(di cs i k).drop t++(((dU r).map (k+1+·)).flatMap (λk=>di cs i k)++((dU m).map (i+1+·)).flatMap λi=>(dU (f i)).flatMap λk=>di cs i k),?_⟩;unfold ta;simp only[gM]
 congr 1
 congr 1
 rw[<-gM ((di cs i k).take t),tG]
theorem akS {cash:List Int}{cs:List aw}(h:fz cash cs){f:Nat->Nat}(MM:cs=dw (D cash) cs)(aK:∀i,i<(D cash)->f i<=10)(j:Nat){l fS:List aw}(av:ta cs f (D cash)=l++fS):0<=cK l (gU j)/\cK l (gU j)<=13000000000000000:=by
 have Dh:∀m:List aw,(∀c∈m,c∈cs)->0<=cK m (gU j):=by
  intro m
  induction m with
  |nil=>intro _;exact Q3 _
  |cons c m aA =>
   intro hm;have E:=aA λy ar=>hm y (hf _ ar);have H:=((gQ.1 h.right).2.2.2 c (hm c gF)).2.2.2.2.2.2.1;simp only[cK,gU] at *
   split<;>omega
 have hm:∀c∈l++fS,c∈cs:=λc G=>aAa (by rw[av];exact G);have E:=Dh l λc G=>hm c (by simp[G]);have H:=Dh fS λc G=>hm c (by simp[G]);have af:=akO MM aK j;rw[av,Md] at af;have aP:=h.steady f j;have bt:=h.cash j;omega
end Go.Mini
namespace Go.Mini
open Go
theorem akT {n c:Nat}(G:c<n)(q:Nat->Int)(v:Int):fM c (yH bF (bD n q))++[Q.I (.int .i64 v)]++fX (c+1) (yH bF (bD n q))=yH bF (bD n λj=>if j=c then v else q j):=by
 rw[<-Ax,Ag,MN,ab (by rw[ai,gT];exact G)];simp[bF]
theorem akU {n c:Nat}(G:c<n)(q:Nat->Int):fM 1 (fX c (yH bF (bD n q)))=[.I (.int .i64 (q c))]:=v9 (f:=bF) (jg q G)
theorem akV (n:Nat)(q:Nat->Int):(yH bF (bD n q)).length=n:=by rw[ai,gT]
theorem RJ (l:List aw)(c:aw)(aS:aw->Int):cK (l++[c]) aS=cK l aS+aS c:=by
 rw[Md];simp[cK]
theorem aAe (T:bb){K:eY->ba->Prop}{kk:List gD}(eD:Mem)(n:Nat)(aH:n<=60)(L:List aw)(B:Nat->Int)(fW:∀t j,0<=B j+cK (L.take t) (gU j)/\B j+cK (L.take t) (gU j)<=4000000000000000000)(gw:∀c∈L,c.2.1<n /\ -1<=c.2.1)(aMj:(D L)<=2000)(v0 v4 v6 r2 Ad akW v30 Ir Is akX akY:Q)(bN:Nat)(It Iu:Option (Nat×List Q))(tm:Nat->Q)(m:Mem)
  (bm:tm 0=v0) (dp:tm 4=v4) (cL:tm 5=.ref 248029 bN 1 0 n) (bK:tm 6=v6) (bH:tm 7=r2) (eb:tm 8=Ad) (dr:tm 9=akW) (g4:tm 30=v30) (hT:tm 31=Ir) (jj:tm 32=Is) (nI:tm 50=akX) (nJ:tm 51=akY) (ov:tm 59=kn L) (kA:tm 60=.I (.int .i64 (D L))) (tb:tm 61=.I (.int .i64 0))
  (mm:m 248029=some (bN,(bD n B).map bF)) (nK:m 248094=It) (nL:m 248098=Iu) (bW:eu 248 eD m)
  (dN:∀tm' m',tm' 0=v0->tm' 4=v4->tm' 5=.ref 248029 bN 1 0 n->tm' 6=v6->tm' 7=r2->tm' 8=Ad->tm' 9=akW->tm' 30=v30->tm' 31=Ir->tm' 32=Is->tm' 50=akX->tm' 51=akY->m' 248029=some (bN,(bD n λj=>B j+cK L (gU j)).map bF)->m' 248094=It->m' 248098=Iu->eu 248 eD m'->cB T K kk (.exit 4) ⟨tm',m'⟩) :
  wp T (vO.body.sub [1,1,1,1,1,0,1,0,0,0,0,1,1,0,0,1,1,0,1,0,0,1,1,0,0,1,1,0]) (cB T K kk) ⟨tm,m⟩:=by
 simp only[vO,eA.sub]
 refine dm [0,4,5,6,7,8,9,30,31,32,50,51,59,60] [248094,248098] (λ(t:Nat) tm m=>t<=D L/\tm 61=.I (.int .i64 t)/\m 248029=some (bN,(bD n λj=>B j+cK (L.take t) (gU j)).map bF)/\eu 248 eD m) (λt=>D L-t) 0 (by
  refine⟨by omega,tb,?_,bW⟩
  rw[mm]
  congr 3
  exact kX λj _=>by rw[mH];simp[cK]) ?_
 intro vs ms aR aN;simp only[go_sem,go_sem_proc,bm,dp,cL,bK,bH,eb,dr,g4,hT,jj,nI,nJ,ov,kA,nK,nL] at aR aN;subst aR aN;clear bm dp cL bK bH eb dr g4 hT jj nI nJ ov kA tb mm nK nL bW tm m;rintro t tm m M hm ⟨ajh,tb,mm,bW⟩;simp only[go_sem,go_sem_proc,a6] at M hm;obtain⟨bm,dp,cL,bK,bH,eb,dr,g4,hT,jj,nI,nJ,ov,kA⟩:=M;obtain⟨nK,nL⟩:=hm;rcases dv (t<D L) with az|b2
 ·have d1:decide ((t:Int)<(D L:Int))=true:=dj;have bO:=eZ (i:=t) (by omega);obtain⟨⟨aI,c2,c3,c4⟩,O⟩:∃c,L[t]?=some c:=⟨_,bu az⟩;have lY:=gw _ (eg O);dsimp only at lY;have sM:=akd O;simp only[go_sem,go_sem_proc] at sM;have gN:L.take (t+1)=L.take t++[(aI,c2,c3,c4)]:=by rw[hk,O];rfl
  rcases q:decide (c2>=0)
  ·have u7:c2<0:=by have:=of_decide_eq_false q;omega
   have AH:(bD n λj=>B j+cK (L.take (t+1)) (gU j))=bD n λj=>B j+cK (L.take t) (gU j):=kX λj _=>by
    rw[gN,RJ];unfold gU;rw[ag (by dsimp only;omega)];omega
   refine aY ?_;repeat' (intro h<;>simp only[h,go_sem,go_sem_proc,bm,dp,cL,bK,bH,eb,dr,g4,hT,jj,nI,nJ,ov,kA,tb,mm,nK,nL,sM,d1,bO,q,ca,cD]<;>try refine ax ?_ ?_)
   refine⟨t+1,by omega,by omega,rfl,by rw[AH],by repeat first|exact bW|refine eu.e6 ?_ (by decide)⟩
  ·have u7:0<=c2:=of_decide_eq_true q;obtain⟨i,rfl⟩:∃t:Nat,c2=(t:Int):=⟨c2.toNat,by omega⟩
   have ct:i<n:=by omega
   have kt:=fW t i;have eR:=fW (t+1) i;rw[gN,RJ] at eR;have yV:gU i (aI,(i:Int),c3,c4)=c4:=by unfold gU;rw[ab rfl]
   rw[yV] at eR;have MO:IntKind.i64.wrap (B i+cK (L.take t) (gU i)+c4)=B i+cK (L.take t) (gU i)+c4:=by rw[eM _]
   have AH:(bD n λj=>B j+cK (L.take (t+1)) (gU j))=bD n λj=>if j=i then B i+cK (L.take t) (gU i)+c4 else B j+cK (L.take t) (gU j):=kX λj _=>by
    rw[gN,RJ]
    by_cases ah:j=i
    ·rw[ab ah,ah,yV];omega
    ·rw[ag ah];have:gU j (aI,(i:Int),c3,c4)=0:=by unfold gU;rw[ag (by dsimp only;omega)]
     rw[this];omega
   have t1:=akU ct λj=>B j+cK (L.take t) (gU j);have t2:=akV n λj=>B j+cK (L.take t) (gU j);have t3:=akT ct (λj=>B j+cK (L.take t) (gU j)) (B i+cK (L.take t) (gU i)+c4);rw[<-AH] at t3;have en:i+1<=n:=by omega
   generalize ak:(bD n λj=>B j+cK (L.take t) (gU j)).map bF=bV at *;generalize oI:(bD n λj=>B j+cK (L.take (t+1)) (gU j)).map bF=qT at *;generalize B i+cK (L.take t) (gU i)=S1 at *;refine aY ?_;repeat' (intro h<;>simp only[h,go_sem,go_sem_proc,bm,dp,cL,bK,bH,eb,dr,g4,hT,jj,nI,nJ,ov,kA,tb,mm,nK,nL,sM,d1,bO,q,MO,t1,t2,t3,ct,en,ca,cD]<;>try refine ax ?_ ?_)
   refine⟨t+1,by omega,by omega,rfl,by rw[oI],by repeat first|exact bW|refine eu.e6 ?_ (by decide)⟩
 ·have d1:decide ((t:Int)<(D L:Int))=false:=c5;rw[dx (by omega)] at mm;refine aY ?_;repeat' (intro h<;>simp only[h,go_sem,go_sem_proc,bm,dp,cL,bK,bH,eb,dr,g4,hT,jj,nI,nJ,ov,kA,tb,d1]<;>try refine ax ?_ ?_)
  refine dN _ _ ?_ ?_ ?_ ?_ ?_ ?_ ?_ ?_ ?_ ?_ ?_ ?_ mm nK nL bW<;>simp only[e7,dW,if_false,bm,dp,cL,bK,bH,eb,dr,g4,hT,jj,nI,nJ]
theorem akZ (cs:List aw)(f:Nat->Nat)(i k t:Nat):kz cs f i k t=kz cs f i k 0++(di cs i k).take t:=by
 unfold kz;simp
theorem aAf (T:bb){K:eY->ba->Prop}{kk:List gD}(eD:Mem)(cash:List Int)(cs:List aw)(f:Nat->Nat)(U:fz cash cs)(MM:cs=dw (D cash) cs)(aK:∀i,i<(D cash)->f i<=10)(i:Nat)(J:i<D cash)(x:ou)(O:x.dk)(dM:∀k,k<10->x.cX[k]?=some (di cs i k))(B:Nat->Int)(fW:∀j,0<=B j/\B j<=1000000000000000)(ed g:Nat)(uN:ed/1000≠248)(k8:eD ed=some (g,fE x))(v0 v4 v6 r2 Ad v30 Ir Is:Q)(bN:Nat)(It Iu:Option (Nat×List Q))(tm:Nat->Q)(m:Mem)
  (bm:tm 0=v0) (dp:tm 4=v4) (cL:tm 5=.ref 248029 bN 1 0 (D cash)) (bK:tm 6=v6) (bH:tm 7=r2) (eb:tm 8=Ad) (dr:tm 9=.ptr ed g 0) (g4:tm 30=v30) (hT:tm 31=Ir) (jj:tm 32=Is) (nI:tm 50=.I (.int .i64 (f i))) (nJ:tm 51=.I (.int .i64 0))
  (mm:m 248029=some (bN,(bD (D cash) λj=>B j+cK (kz cs f i 0 0) (gU j)).map bF)) (nK:m 248094=It) (nL:m 248098=Iu) (bW:eu 248 eD m)
  (dN:∀tm' m',tm' 0=v0->tm' 4=v4->tm' 5=.ref 248029 bN 1 0 (D cash)->tm' 6=v6->tm' 7=r2->tm' 8=Ad->tm' 9=.ptr ed g 0->tm' 30=v30->tm' 31=Ir->tm' 32=Is->m' 248029=some (bN,(bD (D cash) λj=>B j+cK (kz cs f (i+1) 0 0) (gU j)).map bF)->m' 248094=It->m' 248098=Iu->eu 248 eD m'->cB T K kk (.exit 2) ⟨tm',m'⟩) :
  wp T (vO.body.sub [1,1,1,1,1,0,1,0,0,0,0,1,1,0,0,1,1,0,1,0]) (cB T K kk) ⟨tm,m⟩:=by
 simp only[vO,eA.sub];have r0:=aK i J;have aH:=U.jB;refine dm [0,4,5,6,7,8,9,30,31,32,50] [248094,248098] (λ(k:Nat) tm m=>k<=f i/\tm 51=.I (.int .i64 k)/\m 248029=some (bN,(bD (D cash) λj=>B j+cK (kz cs f i k 0) (gU j)).map bF)/\eu 248 eD m) (λk=>f i-k) 0 (by refine⟨by omega,nJ,mm,bW⟩) ?_;intro vs ms aR aN;simp only[go_sem,go_sem_proc,bm,dp,cL,bK,bH,eb,dr,g4,hT,jj,nI,nK,nL] at aR aN;subst aR aN;clear bm dp cL bK bH eb dr g4 hT jj nI nJ mm nK nL bW tm m;rintro k tm m M hm ⟨HF,nJ,mm,bW⟩;simp only[go_sem,go_sem_proc,a6] at M hm;obtain⟨bm,dp,cL,bK,bH,eb,dr,g4,hT,jj,nI⟩:=M;obtain⟨nK,nL⟩:=hm;rcases dv (k<f i) with az|b2
 ·have d1:decide ((k:Int)<(f i:Int))=true:=dj;have bO:=eZ (i:=k) (by omega);have ae:=(bW ed uN).trans k8;have hlen:=CM O;have CP:=ake (x:=x) (k:=k) (l:=di cs i k) (dM k (by omega));have en:k<10:=by omega
  have b1:(1+k+1<=24)=True:=eq_true (by omega);have ak0:=akc (di cs i k);simp only[go_sem,go_sem_proc] at ak0;generalize fE x=DC at *;simp only[go_sem,go_sem_proc,bm,dp,cL,bK,bH,eb,dr,g4,hT,jj,nI,nJ,ae,hlen,CP,d1,en,b1,ak0,cD];refine aAe T eD (D cash) (by omega) (di cs i k) (λj=>B j+cK (kz cs f i k 0) (gU j)) (λt j=>?_) (λc G=>?_) ?_ v0 v4 v6 r2 Ad (.ptr ed g 0) v30 Ir Is (.I (.int .i64 (f i))) (.I (.int .i64 k)) bN It Iu _ _ ?_ ?_ ?_ ?_ ?_ ?_ ?_ ?_ ?_ ?_ ?_ ?_ ?_ ?_ ?_ mm nK nL bW ?_
  ·obtain⟨l,av⟩:=akQ cs f (n:=D cash) (t:=t) J az;have E:=akS U MM aK j av;rw[akZ,Md] at E;have H:=fW j;omega
  ·have:=(gQ.1 U.right).2.2.2 c (EU.1 G).1;omega
  ·have E:=om (λc:aw=>c.1==(i:Int)&&c.2.2.1==(k:Int)) cs;have H:=U.qY;unfold di;omega
  all_goals first|(intro tm' m' fP kj pC iF h2 h1 m9 RK RL RM aAg aAh Iv RN RO xw)|(simp only[e7,dW,if_false,if_true,bm,dp,cL,bK,bH,eb,dr,g4,hT,jj,nI,nJ])
  have hW:(bD (D cash) λj=>B j+cK (kz cs f i k 0) (gU j)+cK (di cs i k) (gU j))=bD (D cash) λj=>B j+cK (kz cs f i (k+1) 0) (gU j):=kX λj _=>by
   rw[<-aAc,akZ cs f i k (di cs i k).length,lK,Md];omega
  rw[hW] at Iv;refine aY ?_;repeat' (intro h<;>simp only[h,go_sem,go_sem_proc,fP,kj,pC,iF,h2,h1,m9,RK,RL,RM,aAg,aAh,RN,RO,bO]<;>try refine ax ?_ ?_)
  refine⟨k+1,by omega,by omega,rfl,Iv,xw⟩
 ·have d1:decide ((k:Int)<(f i:Int))=false:=c5;obtain rfl:k=f i:=by omega
  rw[aAd] at mm;refine aY ?_;repeat' (intro h<;>simp only[h,go_sem,go_sem_proc,bm,dp,cL,bK,bH,eb,dr,g4,hT,jj,nI,nJ,d1]<;>try refine ax ?_ ?_)
  refine dN _ _ ?_ ?_ ?_ ?_ ?_ ?_ ?_ ?_ ?_ ?_ mm nK nL bW<;>simp only[e7,dW,if_false,bm,dp,cL,bK,bH,eb,dr,g4,hT,jj]
structure RP (a:dc) (mem:Mem):Prop where
 at_:a.eI mem
 iw:rW 248 mem
 jr:rW 255 mem
 tc:rW 256 mem
 Im:a.Il
 fv:s5 (au a.cash a.cs) (bJ a.aD) (fw a.P)
open Classical in
theorem ak1 (P:Nat->Prop)(n:Nat):cV P (n+1)=cV P n++(if P n then [n] else []):=by
 unfold cV;rw[oo,rV]
 by_cases h:P n
 ·rw[ab h,v7 (by simpa using h),qa]
 ·rw[ag h,xq (by simpa using h),qa]
theorem ak2 (P:Nat->Prop)(n:Nat):(cV P n).length<=n:=by
 unfold cV;exact eQ (om _ _) (by rw[sn];exact bX _)
def dc.W (a:dc)(k i:Nat):Rat:=(au a.cash a.cs).W (bJ a.aD) k i
theorem ak3 (n:Nat)(W:Nat->Nat->Rat)(k:Nat):(s9 n W k).length=1:=rfl
theorem aAi (n:Nat)(W:Nat->Nat->Rat)(k:Nat):((s9 n W k).map Q.I).all Q.one=true:=rfl
def ow (a:dc)(i j:Nat):Int:=(if j<i then a.cash.getD j 0 else 0)+cK (kz a.cs (bJ a.aD) i 0 0) (gU j)
theorem aAj (T:bb)(aa0:T OM=yS RD){K:eY->ba->Prop}{kk:List gD}(a:dc)(eD:Mem)(aM:RP a eD)(v0 v4 v30:Q)(bN pF lu:Nat)(tm:Nat->Q)(m:Mem)
  (bm:tm 0=v0) (dp:tm 4=.I (.int .i64 (D a.cash))) (cL:tm 5=.ref 248029 bN 1 0 (D a.cash)) (bK:tm 6=.ref 248094 pF 1 0 0) (bH:tm 7=.ref 248098 lu 1 0 0) (g4:tm 30=.ref 228023 a.g 1 0 (D a.cash)) (hT:tm 31=.I (.int .i64 (D a.cash))) (jj:tm 32=.I (.int .i64 0))
  (mm:m 248029=some (bN,(bD (D a.cash) λj=>ow a 0 j).map bF)) (nK:m 248094=some (pF,[])) (nL:m 248098=some (lu,[])) (bW:eu 248 eD m)
  (dN:∀tm' m' ak4 ak5,tm' 0=v0->tm' 4=.I (.int .i64 (D a.cash))->tm' 5=.ref 248029 bN 1 0 (D a.cash)->tm' 6=.ref 248094 ak4 1 0 (D a.p)->tm' 7=.ref 248098 ak5 1 0 (D a.p)->m' 248029=some (bN,(bD (D a.cash) λj=>ow a (D a.cash) j).map bF)->m' 248094=some (ak4,a8 iG a.p)->m' 248098=some (ak5,a8 (s9 (D a.cash) a.W) a.p)->eu 248 eD m'->cB T K kk (.exit 0) ⟨tm',m'⟩) :
  wp T (vO.body.sub [1,1,1,1,1,0,1,0,0,0]) (cB T K kk) ⟨tm,m⟩:=by
 have RQ:=aM;obtain⟨cg,iw,jr,tc,wi,mW⟩:=aM;have uu:=λi=>dc.MH cg wi (i:=i);obtain⟨U,gu⟩:=wi;have aH:=U.jB;simp only[vO,eA.sub];refine dm [0,4,5,30,31] [] (λ((i,pF,lu):Nat×Nat×Nat) tm m=>i<=D a.cash/\tm 32=.I (.int .i64 i)/\tm 6=.ref 248094 pF 1 0 (cV (fw a.P) i).length/\tm 7=.ref 248098 lu 1 0 (cV (fw a.P) i).length/\m 248029=some (bN,(bD (D a.cash) λj=>ow a i j).map bF)/\m 248094=some (pF,a8 iG (cV (fw a.P) i))/\m 248098=some (lu,a8 (s9 (D a.cash) a.W) (cV (fw a.P) i))/\eu 248 eD m) (λ(i,_)=>D a.cash-i) (0,pF,lu) (by refine⟨by omega,jj,bK,bH,mm,nK,nL,bW⟩) ?_;intro vs ms aR aN;simp only[go_sem,go_sem_proc,bm,dp,cL,g4,hT] at aR aN;subst aR aN;clear bm dp cL bK bH g4 hT jj mm nK nL bW tm m;rintro⟨i,pF,lu⟩ tm m M-⟨ct,jj,bK,bH,mm,nK,nL,bW⟩;simp only[go_sem,go_sem_proc,a6] at M;obtain⟨bm,dp,cL,g4,hT⟩:=M;rcases dv (i<D a.cash) with J|b2
 ·have d1:decide ((i:Int)<(D a.cash:Int))=true:=dj;have bO:=eZ (i:=i) (by omega);obtain⟨r0,we⟩:=uu i J;have eS:=(bW.at 228023 (by omega)).trans cg.row;have sy:=cg.dz i J;have fl:=(bW.at (228500+i) (by omega)).trans sy;have iy:=wg (jg (λi=>Q.ptr (228500+i) (a.gs.getD i 0) 0) J);have bZ:(bD (D a.cash) λi=>Q.ptr (228500+i) (a.gs.getD i 0) 0).length=D a.cash:=gT _ _;have cR:=a.xu i;have hlen:=CM cR;have mj:=Mz cR;have r3:=akg cR;have ak6:=ayI (x:=a.gJ i);rw[show (a.gJ i).f=(bJ a.aD i:Int) from r0] at mj;rw[show (a.gJ i).p=a.P.getD i false from rfl] at r3;rw[show (a.gJ i).cash=a.cash.getD i 0 from rfl] at ak6;have aMk:=U.cash i;have jI:=akQ a.cs (bJ a.aD) (n:=D a.cash) (i:=i) (k:=0) (t:=0) J
  have aMl:0<=cK (kz a.cs (bJ a.aD) i 0 0) (gU i)/\cK (kz a.cs (bJ a.aD) i 0 0) (gU i)<=13000000000000000:=by
   have:∃l,ta a.cs (bJ a.aD) (D a.cash)=kz a.cs (bJ a.aD) i 0 0++l:=by
    obtain⟨r,aa⟩:∃r,D a.cash=i+r:=⟨D a.cash-i,by omega⟩
    refine⟨((dU r).map (i+·)).flatMap λi=>(dU (bJ a.aD i)).flatMap λk=>di a.cs i k,?_⟩;rw[akP];unfold ta;rw[aa,akR,yP]
   obtain⟨l,av⟩:=this;exact akS U cg.can (λi J=>(uu i J).2) i av
  have ZU:ow a i i=cK (kz a.cs (bJ a.aD) i 0 0) (gU i):=by unfold ow;rw[ag (by omega)];omega
  have aAk:IntKind.i64.wrap (ow a i i+a.cash.getD i 0)=ow a i i+a.cash.getD i 0:=by rw[eM _]
  have t1:=akU J λj=>ow a i j;have t2:=akV (D a.cash) λj=>ow a i j;have t3:=akT J (λj=>ow a i j) (ow a i i+a.cash.getD i 0)
  have E3:(bD (D a.cash) λj=>if j=i then ow a i i+a.cash.getD i 0 else ow a i j)=bD (D a.cash) λj=>(if j<i+1 then a.cash.getD j 0 else 0)+cK (kz a.cs (bJ a.aD) i 0 0) (gU j):=kX λj _=>by
   by_cases ah:j=i
   ·rw[ab ah,ah,ab (by omega),ZU];omega
   ·rw[ag ah];unfold ow
    by_cases vg:j<i
    ·rw[ab vg,ab (by omega)]
    ·rw[ag vg,ag (by omega)]
  rw[E3] at t3;have en:i+1<=D a.cash:=by omega
  have uN:(228500+i)/1000≠248:=by omega
  generalize o5:228500+i=ed at *;have aAl:(ed=248029)=False:=eq_false (by omega);have aAm:(ed==248029)=false:=beq_eq_false_iff_ne.2 (by omega);have aAn:(248029==ed)=false:=beq_eq_false_iff_ne.2 (by omega);have aMm:fE (a.gJ i)=fE (a.gJ i):=rfl;generalize gf:(bD (D a.cash) λj=>ow a i j).map bF=bV at *;generalize ak7:(bD (D a.cash) λj=>(if j<i+1 then a.cash.getD j 0 else 0)+cK (kz a.cs (bJ a.aD) i 0 0) (gU j)).map bF=qT at *;generalize Iw:(bD (D a.cash) λi=>Q.ptr (228500+i) (a.gs.getD i 0) 0)=xv at *;generalize MP:fE (a.gJ i)=DC at *;simp only[go_sem,go_sem_proc,bm,dp,cL,bK,bH,g4,hT,jj,eS,fl,iy,bZ,hlen,mj,r3,ak6,mm,t1,t2,t3,aAk,d1,J,en,aAl,aAm,aAn,bF,lr,cD];refine aAf T eD a.cash a.cs (bJ a.aD) U cg.can (λi J=>(uu i J).2) i J (a.gJ i) cR (λk M=>jg _ M) (λj=>if j<i+1 then a.cash.getD j 0 else 0) (λj=>?_) ed (a.gs.getD i 0) uN (by rw[MP];exact sy) v0 (.I (.int .i64 (D a.cash))) (.ref 248094 pF 1 0 (cV (fw a.P) i).length) (.ref 248098 lu 1 0 (cV (fw a.P) i).length) (.I (.int .i64 i)) (.ref 228023 a.g 1 0 (D a.cash)) (.I (.int .i64 (D a.cash))) (.I (.int .i64 i)) bN (some (pF,a8 iG (cV (fw a.P) i))) (some (lu,a8 (s9 (D a.cash) a.W) (cV (fw a.P) i))) _ _ ?_ ?_ ?_ ?_ ?_ ?_ ?_ ?_ ?_ ?_ ?_ ?_ ?_ ?_ ?_ (bW.e6 (by decide)) ?_
  ·have:=U.cash j
   split<;>omega
  all_goals first|(intro tm' m' fP kj pC iF h2 h1 m9 RK RL RM Iv RN RO xw)|(simp only[e7,dW,if_false,if_true,bm,dp,cL,bK,bH,g4,hT,jj])|(simp only[a1,dW,if_false,if_true,nK,nL])|skip
  ·rw[<-ak7]
  have hW:(bD (D a.cash) λj=>(if j<i+1 then a.cash.getD j 0 else 0)+cK (kz a.cs (bJ a.aD) (i+1) 0 0) (gU j))=bD (D a.cash) λj=>ow a (i+1) j:=rfl;rw[hW] at Iv;have eR:=(xw ed uN).trans sy;have pl:=ak2 (fw a.P) i;rcases q:a.P.getD i false
  ·have gH:cV (fw a.P) (i+1)=cV (fw a.P) i:=by
    rw[ak1,ag (by unfold fw;rw[q];decide),fG]
   rw[q] at r3;refine aY ?_;repeat' (intro h<;>simp only[h,go_sem,go_sem_proc,fP,kj,pC,iF,h2,h1,m9,RK,RL,RM,RN,RO,eR,hlen,r3,bO,lr,cD]<;>try refine ax ?_ ?_)
   exact⟨(i+1,pF,lu),by dsimp only;omega,by dsimp only;omega,rfl,by rw[gH],by rw[gH],Iv,by rw[gH],by rw[gH],xw⟩
  ·have gv:fw a.P i:=q
   have gH:cV (fw a.P) (i+1)=cV (fw a.P) i++[i]:=by
    rw[ak1,ab gv]
   have aAo:bJ a.aD i<10:=by
    obtain⟨E,g,H,af⟩:=mW;exact (af.gI i gv).2
   have j0:=azF a i m' ⟨cg.aE xw (by decide) aH,jr.aE xw (by decide),⟨U,gu⟩,J,aAo,mW.rQ i gv⟩;rw[o5] at j0;have aAp:RC (a,i)=.cH [.X ((dC (D a.cash) (a.W i)).map aG),.bool true]:=rfl;rw[aAp] at j0;have ak8:=mI yJ aka 248094 pF 8 (cV (fw a.P) i) i (cs:=[.I (.int .i64 i)]) rfl (by omega) (by omega);have ak9:=mI (ak3 (D a.cash) a.W) (aAi (D a.cash) a.W) 248098 lu 24 (cV (fw a.P) i) i (cs:=[.I (.X ((dC (D a.cash) (a.W i)).map aG))]) rfl (by omega) (by omega);have b5:(cV (fw a.P) (i+1)).length=(cV (fw a.P) i).length+1:=by rw[gH,fQ];rfl
   rw[<-gH] at ak8 ak9;rw[q] at r3;generalize (dC (D a.cash) (a.W i)).map aG=V at *;refine aY ?_;repeat' (intro h<;>simp only[h,go_sem,go_sem_proc,aa0,fP,kj,pC,iF,h2,h1,m9,RK,RL,RM,RN,RO,eR,hlen,r3,j0,ak8,ak9,bO,lr,cD,cP]<;>try refine ax ?_ ?_)
   exact⟨(i+1,pF+1,lu+1),by dsimp only;omega,by dsimp only;omega,rfl,by rw[b5],by rw[b5],Iv,rfl,rfl,by repeat first|exact xw|refine eu.e6 ?_ (by decide)⟩
 ·have d1:decide ((i:Int)<(D a.cash:Int))=false:=c5;obtain rfl:i=D a.cash:=by omega
  refine aY ?_;repeat' (intro h<;>simp only[h,go_sem,go_sem_proc,bm,dp,cL,bK,bH,g4,hT,jj,d1]<;>try refine ax ?_ ?_)
  refine dN _ _ pF lu ?_ ?_ ?_ ?_ ?_ mm nK nL bW<;>simp only[e7,dW,if_false,bm,dp,cL,bK,bH,dc.p]
theorem aAq (T:bb)(mc:T wK=aV yw)(eE:T vl=aV yv){K:eY->ba->Prop}{kk:List gD}(eD:Mem)(n:Nat)(p:List Nat)(aF:(D p)<=60)(W:Nat->Nat->Rat)(df:Nat->Rat)(i:Nat)(J:i<n)(wj:Rat)(aW:∀t,t<=(D p)->ec 708 (wj+bx t λk=>W (p.getD k 0) i*df k))(cI:∀k,k<(D p)->ec 438 (W (p.getD k 0) i*df k)/\ec 54 (W (p.getD k 0) i)/\ec 384 (df k))(ala alb alc ald:Q)(bN:Nat)(ale:Option (Nat×List Q))(tm:Nat->Q)(m:Mem)
  (bK:tm 6=.I (.X (p.map iG))) (bH:tm 7=.I (.X (p.map (s9 n W)))) (mX:tm 15=.I (.X ((dC (D p) df).map aG))) (nd:tm 17=ala) (hC:tm 18=.I (.int .i64 i)) (ml:tm 20=.ptr 248020 bN 0) (xx:tm 110=alb) (xy:tm 111=alc) (p1:tm 112=ald) (MQ:tm 120=.I (.int .i64 (D p))) (MR:tm 121=.I (.int .i64 0))
  (Ix:m 248020=some (bN,(aG (aq wj)).map .I)) (Iy:m 248156=ale) (bW:eu 248 eD m)
  (dN:∀tm' m',tm' 6=.I (.X (p.map iG))->tm' 7=.I (.X (p.map (s9 n W)))->tm' 15=.I (.X ((dC (D p) df).map aG))->tm' 17=ala->tm' 20=.ptr 248020 bN 0->tm' 110=alb->tm' 111=alc->tm' 112=ald->m' 248020=some (bN,(aG (aq (wj+bx (D p) λk=>W (p.getD k 0) i*df k))).map .I)->m' 248156=ale->eu 248 eD m'->cB T K kk (.exit 8) ⟨tm',m'⟩) :
  wp T (vO.body.sub [1,1,1,1,1,1,1,1,1,0,1,0,0,0,1,1,0,0,1,1,0,1,0]) (cB T K kk) ⟨tm,m⟩:=by
 simp only[vO,eA.sub]
 refine dm [6,7,15,17,18,20,110,111,112,120] [248156] (λ(k:Nat) tm m=>k<=D p/\tm 121=.I (.int .i64 k)/\m 248020=some (bN,(aG (aq (wj+bx k λk=>W (p.getD k 0) i*df k))).map .I)/\eu 248 eD m) (λk=>D p-k) 0 (by
  refine⟨by omega,MR,?_,bW⟩
  rw[Ix,bx,p5]) ?_
 intro vs ms aR aN;simp only[go_sem,go_sem_proc,bK,bH,mX,nd,hC,ml,xx,xy,p1,MQ,Iy] at aR aN;subst aR aN;clear bK bH mX nd hC ml xx xy p1 MQ MR Ix Iy bW tm m;rintro k tm m M hm ⟨HF,MR,Ix,bW⟩;simp only[go_sem,go_sem_proc,a6] at M hm;obtain⟨bK,bH,mX,nd,hC,ml,xx,xy,p1,MQ⟩:=M;rcases dv (k<D p) with az|b2
 ·have d1:decide ((k:Int)<(D p:Int))=true:=dj;have bO:=eZ (i:=k) (by omega);obtain⟨wh,O⟩:∃c,p[k]?=some c:=⟨_,bu az⟩;have nc:p.getD k 0=wh:=by rw[dZ,O];rfl
  obtain⟨jN,kO,uO⟩:=cI k az;have aa1:=aW k (by omega);rw[nc] at jN kO;have hmul:=ajK (iU kO (by omega)) (iU uO (by omega)) (ZF kO uO (by omega));have iO:=ajJ (iU aa1 (by omega)) (iU jN (by omega)) (EM aa1 jN (by omega))
  have U:(wj+bx (k+1) λk=>W (p.getD k 0) i*df k)=wj+bx k (λk=>W (p.getD k 0) i*df k)+W wh i*df k:=by
   rw[bx,nc];grind
  have a9:=s4 (W wh) J;have aAr:=s4 df az;rw[<-U] at iO;clear aa1 jN kO uO cI aW U dN;generalize aq (wj+bx k λk=>W (p.getD k 0) i*df k)=F1 at *;generalize aAs:aq (wj+bx (k+1) λk=>W (p.getD k 0) i*df k)=F2 at *;generalize aq (W wh i*df k)=F3 at *;generalize aq (W wh i)=F4 at *;generalize aq (df k)=F5 at *;obtain⟨⟨cQ,de⟩,⟨ep,fe⟩⟩:=F1;obtain⟨⟨c1,ee⟩,⟨jz,lq⟩⟩:=F2;obtain⟨⟨f1,f2⟩,⟨f3,f4⟩⟩:=F3;obtain⟨⟨cE,ck⟩,⟨hj,kg⟩⟩:=F4;obtain⟨⟨b6,dd⟩,⟨ey,kj⟩⟩:=F5;simp only[aG,eC,cS] at hmul iO Ix;refine aY ?_;repeat' (intro h<;>simp only[h,go_sem,go_sem_proc,mc,eE,bK,bH,mX,nd,hC,ml,xx,xy,p1,MQ,MR,Ix,hm,d1,bO,O,s9,a9,aAr,hmul,iO,aG,ai,bh,bne,beq_self_eq_true,cP]<;>try refine ax ?_ ?_)
  refine⟨k+1,by omega,by omega,rfl,by rw[aAs],by repeat first|exact bW|refine eu.e6 ?_ (by decide)⟩
 ·have d1:decide ((k:Int)<(D p:Int))=false:=c5;obtain rfl:k=D p:=by omega
  refine aY ?_;repeat' (intro h<;>simp only[h,go_sem,go_sem_proc,bK,bH,mX,nd,hC,ml,xx,xy,p1,MQ,MR,d1]<;>try refine ax ?_ ?_)
  refine dN _ _ ?_ ?_ ?_ ?_ ?_ ?_ ?_ ?_ Ix hm bW<;>simp only[e7,dW,if_false,bK,bH,mX,nd,ml,xx,xy,p1]
def RR (a:dc):Data:=.cH [.X ((dC (D a.cash) ((au a.cash a.cs).ff (bJ a.aD) (fw a.P))).map aG),.bool true]
def aa2:List Q->Mem->Option Data:=EV (λ(a:dc) args mem=>args=[.ref 228023 a.g 1 0 (D a.cash)]/\RP a mem) RR
theorem aAt (a:dc)(mem:Mem)(h:RP a mem):aa2 [.ref 228023 a.g 1 0 (D a.cash)] mem=some (RR a):=by
 refine Z9 (a:=a) ?_ ⟨rfl,h⟩;rintro a b args mem ⟨ay,aB⟩ ⟨bG,dp⟩;rw[dc.uniq aB.at_ dp.at_]
theorem yW (l:List Int):l.map bF=a8 ad l:=by
 unfold a8
 induction l with
 |nil=>rfl
 |cons a l aA=>rw[eC,eC,jP,kT,<-aA];rfl
theorem aAu (n:Nat):(dD n [Q.I (.int .i64 0)]).flatten=(bD n λ_=>(0:Int)).map bF:=by
 induction n with
 |zero=>rfl
 |succ n aA=>rw[List.replicate_succ',List.flatten_append,aA];simp[bD,oo,bF]
theorem aAv (T:bb)(hM:T po=aV v5)(aa0:T OM=yS RD)(aAw:T UG=yS RG)(mc:T wK=aV yw)(eE:T vl=aV yv)(a:dc)(mem:Mem)(aM:RP a mem):
  wp T vO.body (od vO.res λm mem'=>cy 6 emp m=some (RR a)/\eu 248 mem mem') ⟨kr [.ref 228023 a.g 1 0 (D a.cash)],mem⟩:=by
 have cg:=aM.at_;have U:=aM.Im.uM;have mW:=aM.fv;have aH:=U.jB;have HC:(8*D a.cash<=140737488355328)=True:=eq_true (by omega);have Cs:(D a.cash<=maxLen)=True:=eq_true (by unfold maxLen;omega);have alf:mem 248094=none:=aM.iw 248094 (by decide);have alg:mem 248098=none:=aM.iw 248098 (by decide);have Qx:mem 248029=none:=aM.iw 248029 (by decide);have aW:=aAu (D a.cash)
 have rk:(bD (D a.cash) λj=>ow a 0 j)=bD (D a.cash) λ_=>(0:Int):=kX λj _=>by
  unfold ow;rw[ag (by omega),aAb];rfl
 refine qv ?_;simp only[vO];simp only[go_sem,go_sem_proc,HC,Cs,alf,alg,Qx,aW];refine aAj T aa0 a mem aM (.ref 228023 a.g 1 0 (D a.cash)) (.ref 228023 a.g 1 0 (D a.cash)) (.ref 228023 a.g 1 0 (D a.cash)) 0 0 0 _ _ ?_ ?_ ?_ ?_ ?_ ?_ ?_ ?_ ?_ ?_ ?_ ((((eu.refl _ _).e6 (by decide)).e6 (by decide)).e6 (by decide)) ?_
 all_goals first|(intro tm m pF lu fP kj pC iF h2 mm nK nL bW)|(simp only[e7,dW,if_false,if_true];done)|(simp only[e7,dW,if_false,if_true];rfl)|(simp only[a1,dW,if_false,if_true,rk])|skip
 have dy:(bD (D a.cash) λj=>ow a (D a.cash) j)=bD (D a.cash) λi=>lo a.cash a.cs (bJ a.aD) i:=kX λj ah=>by
  unfold ow;rw[ab ah,akP,akO cg.can λi J=>(dc.MH cg aM.Im J).2]
 rw[dy,yW] at mm;have gG:∀iK,eu 248 mem iK->RG [.ref 228023 a.g 1 0 (D a.cash),.I (.X ((bD (D a.cash) λi=>lo a.cash a.cs (bJ a.aD) i).map ad)),.I (.X (a.p.map iG)),.I (.X (a.p.map (s9 (D a.cash) a.W)))] iK=some (.cH [.X (a.xs.map aG),.bool true]):=λiK h=>azO a iK ⟨cg.aE h (by decide) aH,aM.tc.aE h (by decide),aM.Im,mW⟩;have alh:(bD (D a.cash) λi=>lo a.cash a.cs (bJ a.aD) i).length=D a.cash:=gT _ _;have aAx:∀i,i<(D a.cash)->(bD (D a.cash) λi=>lo a.cash a.cs (bJ a.aD) i)[i]?=some (lo a.cash a.cs (bJ a.aD) i):=λi J=>jg _ J;generalize aMn:(bD (D a.cash) λi=>lo a.cash a.cs (bJ a.aD) i)=ST at *;have aa3:=λ(K:ba->Prop) (st:ba)=>mJ (K:=K) (st:=st) hl 5 248029 0 ST;rw[alh] at aa3;have RS:=λ(K:ba->Prop) (st:ba)=>mJ (K:=K) (st:=st) yJ 6 248094 pF a.p;have RT:=λ(K:ba->Prop) (st:ba)=>mJ (K:=K) (st:=st) (ak3 (D a.cash) a.W) 7 248098 lu a.p;have ali:=λcE ck hj aI c2 c3=>gG (a1 (a1 (a1 m 248029 cE aI) 248094 ck c2) 248098 hj c3) (((bW.e6 (by decide)).e6 (by decide)).e6 (by decide));simp only[go_sem,go_sem_proc,aAw,fP,kj,pC,iF,h2,mm,nK,nL,aa3,RS,RT,ali,alh,ai,cP];have nW:(D a.p)<=D a.cash:=ak2 _ _;have gH:=λi (J:i<D a.cash) t (bA:t<=D a.p)=>axC U mW J bA;have E6:=λi (J:i<D a.cash)=>mW.good.ai3 (d:=au a.cash a.cs) J;have AJ:cV (fw a.P) (au a.cash a.cs).n=a.p:=rfl;have aAy:cV (fw a.P) (D a.cash)=a.p:=rfl;have Bo:a.xs=dC (D a.p) λk=>(au a.cash a.cs).ff (bJ a.aD) (fw a.P) (a.p.getD k 0)-(au a.cash a.cs).bz (a.p.getD k 0) (bJ a.aD (a.p.getD k 0)):=rfl;rw[AJ] at E6;rw[aAy] at gH;rw[Bo];generalize nw:(λk=>(au a.cash a.cs).ff (bJ a.aD) (fw a.P) (a.p.getD k 0)-(au a.cash a.cs).bz (a.p.getD k 0) (bJ a.aD (a.p.getD k 0)))=df at *;have Ab:∀k,(au a.cash a.cs).ff (bJ a.aD) (fw a.P) (a.p.getD k 0)-(au a.cash a.cs).bz (a.p.getD k 0) (bJ a.aD (a.p.getD k 0))=df k:=λk=>congrFun nw k;simp only[Ab] at gH E6;have Iz:=λi=>Ms U.right (bJ a.aD) i;have r4:=λi=>U.steady (bJ a.aD) i;clear aa3 RS RT gG ali Bo nw Ab fP kj pC iF h2 mm nK nL alf alg Qx aW rk HC Cs
 refine dm [6,7,15,110,111] [] (λ((i,g):Nat×Nat) tm iK=>i<=D a.cash/\tm 112=.I (.int .i64 i)/\tm 17=.ref 248156 g 4 0 i/\iK 248156=some (g,a8 aG (dC i ((au a.cash a.cs).ff (bJ a.aD) (fw a.P))))/\eu 248 mem iK) (λ(i,_)=>D a.cash-i) (0,gE (m 248156)) (by
  refine⟨by omega,rfl,rfl,by simp[a1];rfl,by repeat first|exact bW|refine eu.e6 ?_ (by decide)⟩) ?_
 intro vs ms aR aN;simp only[go_sem,go_sem_proc] at aR aN;subst aR aN;clear bW m tm;rintro⟨i,g⟩ tm m M-⟨ct,p1,nd,Iy,bW⟩;simp only[go_sem,go_sem_proc,a6] at M;obtain⟨bK,bH,mX,xx,xy⟩:=M;rcases dv (i<D a.cash) with J|b2
 ·have d1:decide ((i:Int)<(D a.cash:Int))=true:=dj;have bO:=eZ (i:=i) (by omega);have aAz:=aAx i J;have hw:=CI _ (o3 (z:=lo a.cash a.cs (bJ a.aD) i) (by have:=r4 i;omega) (by have:=r4 i;omega));rw[Iz] at hw;have aa4:=gH i J;have aAA:=E6 i J;generalize qO:(au a.cash a.cs).st (bJ a.aD) i=wj at *;generalize iz:aq wj=eT at *;obtain⟨⟨oR,oS⟩,⟨EY,EZ⟩⟩:=eT;simp only[aG] at hw;simp only[go_sem,go_sem_proc,hM,bK,bH,mX,nd,xx,xy,p1,d1,aAz,hw,ad,ai,bh];refine aAq T mc eE mem (D a.cash) a.p (by omega) a.W df i J wj (λt bA=>(aa4 t bA).1) (λk M=>⟨(aa4 0 (by omega)).2.1 k M,(Q9 U mW (xo M).2 i).1,(aa4 0 (by omega)).2.2 k M⟩) (.ref 248156 g 4 0 i) (.I (.X (ST.map ad))) (.I (.int .i64 (D a.cash))) (.I (.int .i64 i)) (gE (m 248020)) (some (g,a8 aG (dC i ((au a.cash a.cs).ff (bJ a.aD) (fw a.P))))) _ _ ?_ ?_ ?_ ?_ ?_ ?_ ?_ ?_ ?_ ?_ ?_ ?_ ?_ ((bW.e6 (by decide)).e6 (by decide)) ?_
  all_goals first|(intro tm' m' iF h2 alj alk RH alm aln LP RU alo xw)|(simp only[e7,dW,if_false,if_true,bK,bH,mX,nd,xx,xy,p1];done)|(simp only[a1,dW,if_false,if_true,Iy];done)|(simp only[a1,if_true];rw[iz];rfl)
  have aa5:wj+(bx (D a.p) λk=>a.W (a.p.getD k 0) i*df k)=(au a.cash a.cs).ff (bJ a.aD) (fw a.P) i:=aAA.symm;rw[aa5] at RU;have aR:=akG i ((au a.cash a.cs).ff (bJ a.aD) (fw a.P));have bZ:(dC i ((au a.cash a.cs).ff (bJ a.aD) (fw a.P))).length=i:=pD _ _;have dG:=λ(aS:bg) cs k1=>mI nA G0 248156 g 64 (dC i ((au a.cash a.cs).ff (bJ a.aD) (fw a.P))) aS (cs:=cs) k1 (by omega) (by omega);simp only[bZ] at dG;generalize dC i ((au a.cash a.cs).ff (bJ a.aD) (fw a.P))=V at *;generalize vG:dC (i+1) ((au a.cash a.cs).ff (bJ a.aD) (fw a.P))=V2 at *;generalize aq ((au a.cash a.cs).ff (bJ a.aD) (fw a.P) i)=aS at *;obtain⟨⟨cQ,de⟩,⟨ep,fe⟩⟩:=aS;have r1:=dG ((cQ,de),(ep,fe)) _ rfl;rw[<-aR] at r1;simp only[aG,eC,cS] at r1 RU;simp only[go_sem,go_sem_proc,iF,h2,alj,alk,RH,alm,aln,LP,RU,alo,r1,bO];repeat' (first|refine ax ?_ ?_|fail)<;>intro h<;>simp only[h,go_sem,go_sem_proc,iF,h2,alj,alk,RH,alm,aln,LP,RU,alo,r1,bO]
  exact⟨(i+1,g+1),by dsimp only;omega,by dsimp only;omega,rfl,rfl,by rw[<-vG],by repeat first|exact xw|refine eu.e6 ?_ (by decide)⟩
 ·have d1:decide ((i:Int)<(D a.cash:Int))=false:=c5;obtain rfl:i=D a.cash:=by omega
  have mA:(dC (D a.cash) ((au a.cash a.cs).ff (bJ a.aD) (fw a.P))).length=D a.cash:=pD _ _;have kl:=λ(K:ba->Prop) (st:ba)=>mJ (K:=K) (st:=st) nA 17 248156 g (dC (D a.cash) ((au a.cash a.cs).ff (bJ a.aD) (fw a.P)));rw[mA] at kl;simp only[go_sem,go_sem_proc,bK,bH,mX,nd,xx,xy,p1,Iy,d1,kl];repeat' (first|refine ax ?_ ?_|fail)<;>intro h<;>simp only[h,go_sem,go_sem_proc,bK,bH,mX,nd,xx,xy,p1,Iy,d1,kl]
  exact⟨_,rfl,rfl,by repeat first|exact bW|refine eu.e6 ?_ (by decide)|refine eu.kill ?_ (by decide)⟩
def dc.hN (a:dc)(p:Nat->Bool):dc:={ a with P:=nH (D a.cash) p }
theorem dc.RV (a:dc)(p:Nat->Bool){i:Nat}(J:i<D a.cash):(a.hN p).gJ i=(a.gJ i).sp (p i):=by
 have:(nH (D a.cash) p).getD i false=p i:=by rw[dZ,Rk _ J];rfl
 unfold dc.gJ dc.hN ou.sp;dsimp only;rw[this]
theorem dc.eI.alp {a:dc}{m:Mem}{p:Nat->Bool}(h:(a.hN p).eI m){i:Nat}(J:i<D a.cash)(b:Bool):(a.hN λj=>if j=i then b else p j).eI (a1 m (228500+i) (a.gs.getD i 0) (fE ((a.gJ i).sp b))):=by
 refine⟨h.can,h.aD,Rj _ _,h.Rn,?_,λj ah=>?_⟩
 ·have:=h.row;simp only[a1];rw[ag (show ¬ ((228023:Nat)=228500+i) by omega)];exact this
 ·rw[dc.RV a _ ah];simp only[a1]
  by_cases ic:j=i
  ·subst ic;rw[ab rfl,ab rfl]
   rfl
  ·rw[ag (show ¬ ((228500+j:Nat)=228500+i) by omega),ag ic];have:=h.dz j ah;rw[dc.RV a _ ah] at this;exact this
theorem dc.aAB {a:dc}(h:(D a.P)=D a.cash):a.hN (λj=>a.P.getD j false)=a:=by
 have:nH (D a.cash) (λj=>a.P.getD j false)=a.P:=by
  refine MA (d:=false) (Rj _ _) h λj ah=>?_;rw[dZ,Rk _ ah];rfl
 unfold dc.hN;rw[this]
theorem dc.IA (a:dc){p q:Nat->Bool}(h:∀i,i<(D a.cash)->p i=q i):a.hN p=a.hN q:=by
 unfold dc.hN;rw[ayn h]
def xz (n:Nat)(mem m:Mem):Prop:=∀k,(∀i,i<n->k≠228500+i)->m k=mem k
theorem xz.e6 {n i g:Nat}{cs:List Q}{mem m:Mem}(h:xz n mem m)(J:i<n):xz n mem (a1 m (228500+i) g cs):=λk M=>by
 simp only[a1];rw[ag (M i J)];exact h k M
theorem xz.no {n j:Nat}{mem m:Mem}(h:xz n mem m)(aH:n<=6)(ah:j≠228)(hm:rW j mem):rW j m:=λk M=>by
 rw[h k λi J=>by omega]
 exact hm k M
theorem aAC (T:bb)(hM:T po=aV v5)(cW:T lF=aV sG){K:eY->ba->Prop}{kk:List gD}(eD:Mem)(a:dc)(p:Nat->Bool)(wi:a.Il)(h:Nat->Rat)(kV:∀i,i<(D a.cash)->dg (h i))(tm:Nat->Q)(m:Mem)
  (cg:(a.hN p).eI m) (bW:xz (D a.cash) eD m) (bm:tm 0=.ref 228023 a.g 1 0 (D a.cash)) (bK:tm 6=.I (.X ((dC (D a.cash) h).map aG))) (eb:tm 8=.I (.bool false)) (jC:tm 28=.ref 228023 a.g 1 0 (D a.cash)) (uP:tm 29=.I (.int .i64 (D a.cash))) (g4:tm 30=.I (.int .i64 0))
  (dN:∀tm' m',tm' 0=.ref 228023 a.g 1 0 (D a.cash)->tm' 6=.I (.X ((dC (D a.cash) h).map aG))->tm' 8=.I (.bool (yT (au a.cash a.cs) (bJ a.aD) h p (D a.cash)))->(a.hN (oq (au a.cash a.cs) (bJ a.aD) h p (D a.cash))).eI m'->xz (D a.cash) eD m'->cB T K kk (.exit 4) ⟨tm',m'⟩) :
  wp T (GY.body.sub [1,1,0,0,0,1,1,1,0,1,0]) (cB T K kk) ⟨tm,m⟩:=by
 simp only[GY,eA.sub];obtain⟨U,gu⟩:=wi;have aH:=U.jB
 refine dm [0,6,28,29] [] (λ(i:Nat) tm m=>i<=D a.cash/\tm 30=.I (.int .i64 i)/\tm 8=.I (.bool (yT (au a.cash a.cs) (bJ a.aD) h p i))/\(a.hN (oq (au a.cash a.cs) (bJ a.aD) h p i)).eI m/\xz (D a.cash) eD m) (λi=>D a.cash-i) 0 (by
  refine⟨by omega,g4,eb,?_,bW⟩
  have:a.hN (oq (au a.cash a.cs) (bJ a.aD) h p 0)=a.hN p:=a.IA λj _=>by
   unfold oq;rw[c5,fB,l3]
  rw[this];exact cg) ?_
 intro vs ms aR aN;simp only[go_sem,go_sem_proc,bm,bK,jC,uP] at aR aN;subst aR aN;clear bm bK eb jC uP g4 cg bW tm m;rintro i tm m M-⟨J,g4,eb,cg,bW⟩;simp only[go_sem,go_sem_proc,a6] at M;obtain⟨bm,bK,jC,uP⟩:=M;rcases dv (i<D a.cash) with az|b2
 ·have d1:decide ((i:Int)<(D a.cash:Int))=true:=dj;have bO:=eZ (i:=i) (by omega);have r0:a.aD.getD i 10=(bJ a.aD i:Int)/\bJ a.aD i<=10:=dc.MH (a:=a.hN (oq (au a.cash a.cs) (bJ a.aD) h p i)) cg ⟨U,gu⟩ az;obtain⟨r0,we⟩:=r0;have eS:m 228023=some (a.g,bD (D a.cash) λi => .ptr (228500+i) (a.gs.getD i 0) 0):=cg.row;have fl:m (228500+i)=some (a.gs.getD i 0,fE ((a.hN (oq (au a.cash a.cs) (bJ a.aD) h p i)).gJ i)):=cg.dz i az;rw[dc.RV a _ az,ajX] at fl;have iy:=wg (jg (λi=>Q.ptr (228500+i) (a.gs.getD i 0) 0) az);have bZ:(bD (D a.cash) λi=>Q.ptr (228500+i) (a.gs.getD i 0) 0).length=D a.cash:=gT _ _;have cR:((a.gJ i).sp (p i)).dk:=⟨(a.xu i).cX,(a.xu i).us⟩;have hlen:=CM cR;have mj:fM 1 (fX 22 (fE ((a.gJ i).sp (p i))))=[bF (bJ a.aD i:Int)]:=(Mz cR).trans (congrArg (λx=>[bF x]) r0);have r3:fM 1 (fX 23 (fE ((a.gJ i).sp (p i))))=[lr (p i)]:=akg cR;have s8:=My cR (k:=bJ a.aD i) (z:=cO a.cs i (bJ a.aD i:Nat)) (jg _ (by omega));have eB:_=fE ((a.gJ i).sp true):=akh cR true;have mT:=cg.alp az true;have aN:=ayo (au a.cash a.cs) (bJ a.aD) h p i
  have xU:(p i=true\/wa (au a.cash a.cs) (bJ a.aD) h i=false)->a.hN (oq (au a.cash a.cs) (bJ a.aD) h p (i+1))=a.hN (oq (au a.cash a.cs) (bJ a.aD) h p i):=λaT=>a.IA λj _=>by
   rw[ajY]
   by_cases ah:j=i
   ·subst ah;rw[ab rfl,ajX];rcases aT with E|E
    ·rw[E];rfl
    ·rw[E,l3]
   ·rw[ag ah]
  have en:i+1<=D a.cash:=by omega
  have al:bJ a.aD i<11:=by omega
  have b1:(11+bJ a.aD i+1<=24)=True:=eq_true (by omega);have cr:(23+1<=24)=True:=eq_true (by omega);generalize Iw:(bD (D a.cash) λi=>Q.ptr (228500+i) (a.gs.getD i 0) 0)=xv at *;have o5:228500+i=228500+i:=rfl;generalize uN:228500+i=ed at *;generalize MP:fE ((a.gJ i).sp (p i))=DC at *;rcases d2:decide ((bJ a.aD i:Int)<10)
  ·have lC:wa (au a.cash a.cs) (bJ a.aD) h i=false:=by
    unfold wa;rw[mo (by have:=of_decide_eq_false d2;omega),fB]
   rw[lC,iZ,l3] at aN;simp only[go_sem,go_sem_proc,bm,bK,eb,jC,uP,g4,eS,fl,iy,bZ,hlen,mj,d1,d2,bO,az,en,bF,lr,cD];repeat' (first|refine ax ?_ ?_|fail)<;>intro h<;>simp only[h,go_sem,go_sem_proc,bm,bK,eb,jC,uP,g4,eS,fl,iy,bZ,hlen,mj,d1,d2,bO,az,en,bF,lr,cD]
   exact⟨i+1,by omega,by omega,rfl,by rw[aN],by rw[xU (.inr lC)];exact cg,bW⟩
  ·rcases zt:p i
   ·rw[zt] at r3;have oe:=U.upto i (bJ a.aD i);have E7:dA (cO a.cs i (bJ a.aD i:Nat)):=o3 (by omega) (by omega);have hw:=CI _ E7;have pr:=yR (kV i az) (qb E7);have gr:decide (j9 (h i) ((cO a.cs i (bJ a.aD i:Nat):Int):Rat)>0)=decide (((cO a.cs i (bJ a.aD i:Nat):Int):Rat)<h i):=Z6
    have bI:wa (au a.cash a.cs) (bJ a.aD) h i=decide (((cO a.cs i (bJ a.aD i:Nat):Int):Rat)<h i):=by
     unfold wa;rw[uA U.right,lU (show bJ a.aD i<10 by have:=of_decide_eq_true d2;omega),g1]
    rw[<-bI] at gr;have AK:=s4 h az;generalize aAD:aq (h i)=hI at *;generalize nw:aq ((cO a.cs i (bJ a.aD i:Nat):Int):Rat)=df at *;obtain⟨⟨c1,ee⟩,⟨jz,lq⟩⟩:=df;obtain⟨⟨cQ,de⟩,⟨ep,fe⟩⟩:=hI;simp only[aG] at hw pr;rcases lC:wa (au a.cash a.cs) (bJ a.aD) h i
    ·rw[lC] at gr;rw[zt,lC,iZ,l3] at aN;simp only[go_sem,go_sem_proc,hM,cW,bm,bK,eb,jC,uP,g4,eS,fl,iy,bZ,hlen,mj,r3,s8,d1,d2,bO,az,en,al,b1,hw,pr,gr,AK,aG,bF,lr,cD,du,cP,ai,bh];repeat' (first|refine ax ?_ ?_|fail)<;>intro h<;>simp only[h,go_sem,go_sem_proc,hM,cW,bm,bK,eb,jC,uP,g4,eS,fl,iy,bZ,hlen,mj,r3,s8,d1,d2,bO,az,en,al,b1,hw,pr,gr,AK,aG,bF,lr,cD,du,cP,ai,bh]
     exact⟨i+1,by omega,by omega,rfl,by rw[aN],by rw[xU (.inr lC)];exact cg,bW⟩
    ·rw[lC] at gr;rw[zt,lC,du,g1,vj] at aN
     have hW:a.hN (oq (au a.cash a.cs) (bJ a.aD) h p (i+1))=a.hN λj=>if j=i then true else oq (au a.cash a.cs) (bJ a.aD) h p i j:=a.IA λj _=>by
      rw[ajY,lC,vj]
     rw[<-hW] at mT;have q1:=bW.e6 (g:=a.gs.getD i 0) (cs:=fE ((a.gJ i).sp true)) az;rw[uN] at q1;simp only[go_sem,go_sem_proc,hM,cW,bm,bK,eb,jC,uP,g4,eS,fl,iy,bZ,hlen,mj,r3,s8,eB,d1,d2,bO,az,en,al,b1,cr,hw,pr,gr,AK,aG,bF,lr,cD,du,cP,ai,bh];repeat' (first|refine ax ?_ ?_|fail)<;>intro h<;>simp only[h,go_sem,go_sem_proc,hM,cW,bm,bK,eb,jC,uP,g4,eS,fl,iy,bZ,hlen,mj,r3,s8,eB,d1,d2,bO,az,en,al,b1,cr,hw,pr,gr,AK,aG,bF,lr,cD,du,cP,ai,bh]
     exact⟨i+1,by omega,by omega,rfl,by rw[aN],mT,q1⟩
   ·rw[zt] at r3;rw[zt,cP,fB,l3] at aN;simp only[go_sem,go_sem_proc,bm,bK,eb,jC,uP,g4,eS,fl,iy,bZ,hlen,mj,r3,d1,d2,bO,az,en,bF,lr,cD,cP];repeat' (first|refine ax ?_ ?_|fail)<;>intro h<;>simp only[h,go_sem,go_sem_proc,bm,bK,eb,jC,uP,g4,eS,fl,iy,bZ,hlen,mj,r3,d1,d2,bO,az,en,bF,lr,cD,cP]
    exact⟨i+1,by omega,by omega,rfl,by rw[aN],by rw[xU (.inl zt)];exact cg,bW⟩
 ·have d1:decide ((i:Int)<(D a.cash:Int))=false:=c5;obtain rfl:i=D a.cash:=by omega
  simp only[go_sem,go_sem_proc,bm,bK,eb,jC,uP,g4,d1];repeat' (first|refine ax ?_ ?_|fail)<;>intro h<;>simp only[h,go_sem,go_sem_proc,bm,bK,eb,jC,uP,g4,d1]
  refine dN _ _ ?_ ?_ ?_ cg bW<;>simp only[e7,dW,if_false,bm,bK,eb]
structure aa6 (a:dc) (mem:Mem):Prop where
 at_:a.eI mem
 iw:rW 248 mem
 jr:rW 255 mem
 tc:rW 256 mem
 Im:a.Il
 inv:∃g,Inv (au a.cash a.cs) (bJ a.aD) g
def RW (a:dc)(mem:Mem):Q->Mem->Prop:=λm mem'=>m=.cH [.I (.X ((dC (D a.cash) ((au a.cash a.cs).top (bJ a.aD))).map aG)),.I (.bool true)]/\∃p,(a.hN p).eI mem'/\xz (D a.cash) mem mem'
def MS:List Q->Mem->Option (Q->Mem->Prop):=ui (λ(a:dc) args mem=>args=[.ref 228023 a.g 1 0 (D a.cash)]/\aa6 a mem) RW
theorem aAE (a:dc)(mem:Mem)(h:aa6 a mem):MS [.ref 228023 a.g 1 0 (D a.cash)] mem=some (RW a mem):=by
 refine ajN (a:=a) ?_ ⟨rfl,h⟩;rintro a b args mem ⟨ay,aB⟩ ⟨bG,dp⟩;rw[dc.uniq aB.at_ dp.at_]
theorem aAF (T:bb)(aAG:T UE=yS aa2)(hM:T po=aV v5)(cW:T lF=aV sG)(a:dc)(mem:Mem)(aM:aa6 a mem):
  wp T GY.body (od GY.res (RW a mem)) ⟨kr [.ref 228023 a.g 1 0 (D a.cash)],mem⟩:=by
 obtain⟨alq,iw,jr,tc,wi,Ds,hinv⟩:=aM;have U:=wi.uM;have aH:=U.jB;have Y:=U.ok;refine qv ?_;simp only[GY];simp only[go_sem,go_sem_proc]
 refine dm [0,11,12] [] (λ(i:Nat) tm m=>i<=D a.cash/\tm 13=.I (.int .i64 i)/\(a.hN λj=>if j<i then false else a.P.getD j false).eI m/\xz (D a.cash) mem m) (λi=>D a.cash-i) 0 (by
  refine⟨by omega,rfl,?_,λ_ _=>rfl⟩
  have:(a.hN λj=>if j<0 then false else a.P.getD j false)=a:=(a.IA λj _=>by rw[ag (by omega)]).trans (dc.aAB alq.pl);rw[this];exact alq) ?_
 intro vs ms aR aN;simp only[go_sem,go_sem_proc] at aR aN;subst aR aN;rintro i tm m M-⟨J,ie,cg,bW⟩;simp only[go_sem,go_sem_proc,a6] at M;obtain⟨bm,jD,eh⟩:=M;rcases dv (i<D a.cash) with az|b2
 ·have d1:decide ((i:Int)<(D a.cash:Int))=true:=dj;have bO:=eZ (i:=i) (by omega);have eS:m 228023=some (a.g,bD (D a.cash) λi => .ptr (228500+i) (a.gs.getD i 0) 0):=cg.row;have fl:m (228500+i)=some (a.gs.getD i 0,_):=cg.dz i az;rw[dc.RV a _ az] at fl;have iy:=wg (jg (λi=>Q.ptr (228500+i) (a.gs.getD i 0) 0) az);have bZ:(bD (D a.cash) λi=>Q.ptr (228500+i) (a.gs.getD i 0) 0).length=D a.cash:=gT _ _;have cR:((a.gJ i).sp (if i<i then false else a.P.getD i false)).dk:=⟨(a.xu i).cX,(a.xu i).us⟩;have hlen:=CM cR;have eB:_=fE ((a.gJ i).sp false):=akh cR false;have mT:=cg.alp az false;have q1:=bW.e6 (g:=a.gs.getD i 0) (cs:=fE ((a.gJ i).sp false)) az
  have hW:(a.hN λj=>if j<i+1 then false else a.P.getD j false)=a.hN λj=>if j=i then false else if j<i then false else a.P.getD j false:=a.IA λj _=>by
   by_cases E:j=i
   ·rw[ab E,ab (by omega)]
   ·rw[ag E]
    by_cases H:j<i
    ·rw[ab H,ab (by omega)]
    ·rw[ag H,ag (by omega)]
  rw[<-hW] at mT;have en:i+1<=D a.cash:=by omega
  have cr:(23+1<=24)=True:=eq_true (by omega);generalize Iw:(bD (D a.cash) λi=>Q.ptr (228500+i) (a.gs.getD i 0) 0)=xv at *;generalize uN:228500+i=ed at *;generalize MP:fE ((a.gJ i).sp (if i<i then false else a.P.getD i false))=DC at *;simp only[go_sem,go_sem_proc,bm,jD,eh,ie,eS,fl,iy,bZ,hlen,eB,d1,bO,az,en,cr,bF,lr,cD];repeat' (first|refine ax ?_ ?_|fail)<;>intro h<;>simp only[h,go_sem,go_sem_proc,bm,jD,eh,ie,eS,fl,iy,bZ,hlen,eB,d1,bO,az,en,cr,bF,lr,cD]
  exact⟨i+1,by omega,by omega,rfl,mT,q1⟩
 ·have d1:decide ((i:Int)<(D a.cash:Int))=false:=c5;obtain rfl:i=D a.cash:=by omega
  have hW:(a.hN λj=>if j<(D a.cash) then false else a.P.getD j false)=a.hN λ_=>false:=a.IA λj ah=>by rw[ab ah]
  rw[hW] at cg;simp only[go_sem,go_sem_proc,bm,jD,eh,ie,d1]
  refine dm [0] [] (λ(p:Nat->Bool) tm m=>(a.hN p).eI m/\xz (D a.cash) mem m/\s5 (au a.cash a.cs) (bJ a.aD) (fw (nH (D a.cash) p))) (λp=>mV (D a.cash) λi=>if p i then 0 else 1) (λ_=>false) (by
   refine⟨cg,bW,?_⟩;rw[ayq];exact⟨Y,Ds,hinv,iH.first Y hinv⟩) ?_
  intro vs ms aR aN;simp only[go_sem,go_sem_proc,bm] at aR aN;subst aR aN;clear bm jD eh ie bW cg;rintro p tm m bm-⟨cg,bW,mW⟩;simp only[go_sem,go_sem_proc,a6] at bm;have gG:=aAt (a.hN p) m ⟨cg,bW.no aH (by decide) iw,bW.no aH (by decide) jr,bW.no aH (by decide) tc,⟨wi.uM,wi.gu⟩,mW⟩;have gw:RR (a.hN p)=.cH [.X ((dC (D a.cash) ((au a.cash a.cs).ff (bJ a.aD) (fw (nH (D a.cash) p)))).map aG),.bool true]:=rfl;rw[gw,show (a.hN p).g=a.g from rfl,show (a.hN p).cash=a.cash from rfl] at gG;simp only[go_sem,go_sem_proc,aAG,bm,gG,cP];refine aAC T hM cW m a p wi ((au a.cash a.cs).ff (bJ a.aD) (fw (nH (D a.cash) p))) (λi J=>iU (ajk U mW J) (by omega)) _ _ cg (λ_ _=>rfl) ?_ ?_ ?_ ?_ ?_ ?_ ?_
  all_goals first|(intro MT cU fP iF h1 zp q1)|(simp only[e7,dW,if_false,if_true,bm];done)
  obtain⟨cR,cE,rh,Pp⟩:=mW;rcases hm:yT (au a.cash a.cs) (bJ a.aD) ((au a.cash a.cs).ff (bJ a.aD) (fw (nH (D a.cash) p))) p (D a.cash)
  ·rw[hm] at h1;have afK:=Pp.ai5 Y rh λi J E H=>Rl.2 ⟨J,ays hm J E H⟩;rw[HV (N:=D a.cash) afK] at iF;simp only[go_sem,go_sem_proc,fP,iF,h1,du];repeat' (first|refine ax ?_ ?_|fail)<;>intro h<;>simp only[h,go_sem,go_sem_proc,fP,iF,h1,du]
   exact⟨_,rfl,rfl,_,zp,λk M=>(q1 k M).trans (bW k M)⟩
  ·rw[hm] at h1;simp only[go_sem,go_sem_proc,fP,iF,h1,cP];repeat' (first|refine ax ?_ ?_|fail)<;>intro h<;>simp only[h,go_sem,go_sem_proc,fP,iF,h1,cP]
   refine⟨_,ayr hm,zp,λk M=>(q1 k M).trans (bW k M),?_⟩;have rK:=ayp (d:=au a.cash a.cs) (f:=bJ a.aD) (h:=(au a.cash a.cs).ff (bJ a.aD) (fw (nH (D a.cash) p))) (p:=p);have kv:(au a.cash a.cs).n=D a.cash:=rfl;rw[kv] at rK;rw[rK];exact⟨Y,cE,rh,Pp.succ Y rh⟩
def hU (c:Int)(q:Nat->Q)(us:Nat->Int)(f:Int)(p:Bool):List Q:=bF c::(bD 10 q++((bD 11 us).map bF++[bF f,lr p]))
theorem RX (c:Int)(q:Nat->Q)(us:Nat->Int)(f:Int)(p:Bool):(hU c q us f p).length=24:=by
 simp[hU,gT]
theorem aa7 {c:Int}{q:Nat->Q}{us:Nat->Int}{f:Int}{p:Bool}{k:Nat}(M:k<10):(hU c q us f p)[1+k]?=some (q k):=by
 unfold hU;rw[zb,IB,qq (by rw[gT];exact M)];exact jg q M
theorem aAH {c:Int}{q:Nat->Q}{us:Nat->Int}{f:Int}{p:Bool}{k:Nat}(M:k<10):fM 1 (fX (1+k) (hU c q us f p))=[q k]:=wg (aa7 M)
theorem aAI {c:Int}{q:Nat->Q}{us:Nat->Int}{f:Int}{p:Bool}{k:Nat}(M:k<11):fM 1 (fX (11+k) (hU c q us f p))=[.I (.int .i64 (us k))]:=by
 refine wg ?_;unfold hU;rw[show 11+k=(10+k)+1 by omega,IB,ri (by rw[gT];omega),gT,qq (by rw[ai,gT];omega),show 10+k-10=k by omega,bh,jg us M]
 rfl
theorem RY {l:List Q}{k:Nat}{v:Q}(M:k<D l):fM k l++[v]++fX (k+1) l=l.set k v:=by
 rw[MN,ab M];simp
theorem aa8 {c:Int}{q:Nat->Q}{us:Nat->Int}{f:Int}{p:Bool}{k:Nat}(M:k<10)(v:Q):(hU c q us f p).set (1+k) v=hU c (λj=>if j=k then v else q j) us f p:=by
 unfold hU;rw[zb,Hr,alr _ _ (by rw[gT];exact M),Ax]
theorem aAJ {c:Int}{q:Nat->Q}{us:Nat->Int}{f:Int}{p:Bool}{k:Nat}(M:k<11)(v:Int):(hU c q us f p).set (11+k) (.I (.int .i64 v))=hU c q (λj=>if j=k then v else us j) f p:=by
 unfold hU;rw[show 11+k=(10+k)+1 by omega,Hr,EB _ _ (by rw[gT];omega),gT,alr _ _ (by rw[ai,gT];omega),show 10+k-10=k by omega,<-Ax,Ag]
 rfl
theorem AL {c:Int}{q tS:Nat->Q}{us als:Nat->Int}{f:Int}{p:Bool}(h:∀k,k<10->q k=tS k)(cn:∀k,k<11->us k=als k):hU c q us f p=hU c tS als f p:=by
 unfold hU;rw[kX h,kX cn]
theorem alu (T:bb){K:eY->ba->Prop}{kk:List gD}(lE:Mem)(ed RZ R0:Nat)(c:Int)(q:Nat->Q)(us:Nat->Int)(aI c2:Int)(r:Nat)(am:Int)(aa:r<10)(ae:∀j,0<=us j/\us j<=4000000000000000000)(ux:0<=am/\am<=1000000000000000)(o5:ed≠228009)(alv alw alx aly:Q)(tm:Nat->Q)(m:Mem)
  (cL:tm 5=alv) (dr:tm 9=.ptr 228009 R0 0) (c8:tm 10=.ptr ed RZ 0) (jD:tm 11=.I (.int .i64 (r+1:Nat))) (hq:tm 25=alw) (il:tm 26=alx) (im:tm 27=aly) (aAK:lE 228009=some (R0,[.I (.int .i64 aI),.I (.int .i64 c2),.I (.int .i64 r),.I (.int .i64 am)])) (IC:m ed=some (RZ,hU c q us 10 false)) (bW:∀k,k≠ed->m k=lE k)
  (dN:∀tm' m',tm' 5=alv->tm' 25=alw->tm' 26=alx->tm' 27=aly->m' ed=some (RZ,hU c q (λj=>us j+if r<j then am else 0) 10 false)->(∀k,k≠ed->m' k=lE k)->cB T K kk (.exit 4) ⟨tm',m'⟩) :
  wp T (Cc.body.sub [1,1,1,0,1,0,0,1,1,0,0,1,1,1,1,0]) (cB T K kk) ⟨tm,m⟩:=by
 simp only[Cc,eA.sub]
 refine dm [5,9,10,25,26,27] [] (λ(k:Nat) tm m=>r<k/\k<=11/\tm 11=.I (.int .i64 k)/\m ed=some (RZ,hU c q (λj=>us j+if r<j/\j<k then am else 0) 10 false)/\∀k,k≠ed->m k=lE k) (λk=>11-k) (r+1) (by
  refine⟨by omega,by omega,jD,?_,bW⟩
  rw[IC]
  congr 2
  exact AL (λ_ _=>rfl) λj _=>by rw[ag (by omega)];omega) ?_
 intro vs ms aR aN;simp only[go_sem,go_sem_proc,cL,dr,c8,hq,il,im] at aR aN;subst aR aN;clear cL dr c8 jD hq il im IC bW tm m;rintro k tm m M-⟨h6,aMo,jD,IC,bW⟩;simp only[go_sem,go_sem_proc,a6] at M;obtain⟨cL,dr,c8,hq,il,im⟩:=M;have aAL:=(bW 228009 (Ne.symm o5)).trans aAK;rcases dv (k<=10) with az|b2
 ·have d1:decide ((k:Int)<=10)=true:=dj;have bO:=eZ (i:=k) (by omega);have hlen:=RX c q (λj=>us j+if r<j/\j<k then am else 0) 10 false;have a9:=aAI (c:=c) (q:=q) (us:=λj=>us j+if r<j/\j<k then am else 0) (f:=10) (p:=false) (k:=k) (by omega);have dy:=(RY (l:=hU c q (λj=>us j+if r<j/\j<k then am else 0) 10 false) (k:=11+k) (v:=.I (.int .i64 (us k+am))) (by rw[RX];omega)).trans (aAJ (by omega) (us k+am))
  have hW:hU c q (λj=>if j=k then us k+am else us j+if r<j/\j<k then am else 0) 10 false=hU c q (λj=>us j+if r<j/\j<k+1 then am else 0) 10 false:=AL (λ_ _=>rfl) λj _=>by
   by_cases ah:j=k
   ·rw[ab ah,ah,ab ⟨h6,by omega⟩]
   ·rw[ag ah]
    by_cases H:r<j/\j<k
    ·rw[ab H,ab ⟨H.1,by omega⟩]
    ·rw[ag H,ag (by omega)]
  rw[hW] at dy;rw[ag (by omega),wY] at a9;have MO:IntKind.i64.wrap (us k+am)=us k+am:=by have:=ae k;rw[eM _]
  have al:k<11:=by omega
  have b1:(11+k+1<=24)=True:=eq_true (by omega);have E1:(ed==228009)=false:=beq_eq_false_iff_ne.2 o5;have R2:(228009==ed)=false:=beq_eq_false_iff_ne.2 (Ne.symm o5);generalize hU c q (λj=>us j+if r<j/\j<k then am else 0) 10 false=D1 at *;generalize HA:hU c q (λj=>us j+if r<j/\j<k+1 then am else 0) 10 false=D2 at *;refine aY ?_;repeat' (intro h<;>simp only[h,go_sem,go_sem_proc,cL,dr,c8,jD,hq,il,im,aAL,IC,d1,bO,hlen,a9,dy,MO,al,b1,E1,R2,cD]<;>try refine ax ?_ ?_)
  refine⟨k+1,by omega,by omega,by omega,rfl,by rw[HA],λj ah=>?_⟩
  simp only[a1,ah,if_false];exact bW j ah
 ·have d1:decide ((k:Int)<=10)=false:=c5;obtain rfl:k=11:=by omega
  have hW:hU c q (λj=>us j+if r<j/\j<11 then am else 0) 10 false=hU c q (λj=>us j+if r<j then am else 0) 10 false:=AL (λ_ _=>rfl) λj ah=>by
   by_cases H:r<j
   ·rw[ab ⟨H,ah⟩,ab H]
   ·rw[ag (by omega),ag H]
  rw[hW] at IC;refine aY ?_;repeat' (intro h<;>simp only[h,go_sem,go_sem_proc,cL,dr,c8,jD,hq,il,im,d1]<;>try refine ax ?_ ?_)
  refine dN _ _ ?_ ?_ ?_ ?_ IC bW<;>simp only[e7,dW,if_false,cL,hq,il,im]
def ox (l:List aw)(e1:Nat->Nat->Nat)(i k:Nat):Q:=if di l i k=[] then .nil else .ref (228600+10*i+k) (e1 i k) 4 0 (di l i k).length
structure yX (cash:List Int) (l:List aw) (g:Nat) (gs:Nat->Nat) (e1:Nat->Nat->Nat) (m:Mem):Prop where
 row:m 228023=some (g,bD (D cash) λi => .ptr (228500+i) (gs i) 0)
 dz:∀i,i<(D cash)->m (228500+i)=some (gs i,hU (cash.getD i 0) (ox l e1 i) (λk=>cO l i (k:Nat)) 10 false)
 E8:∀i k,i<(D cash)->k<10->di l i k≠[]->m (228600+10*i+k)=some (e1 i k,a8 ca (di l i k))
theorem aAM (l:List aw)(c:aw)(i k:Nat):di (l++[c]) i k=if c.1=(i:Int)/\c.2.2.1=(k:Int) then di l i k++[c] else di l i k:=by
 unfold di;rw[rV]
 by_cases h:c.1=(i:Int)/\c.2.2.1=(k:Int)
 ·rw[ab h,v7 (by simp[h.1,h.2]),qa]
 ·rw[ag h,xq (by simpa using h),qa,fG]
theorem MU (l:List aw)(aI c2 c3 c4:Int)(i k:Nat):di (l++[(aI,c2,c3,c4)]) i k=if aI=(i:Int)/\c3=(k:Int) then di l i k++[(aI,c2,c3,c4)] else di l i k:=aAM l _ i k
theorem aAN (l:List aw)(c:aw)(i r:Int):cO (l++[c]) i r=cO l i r+if c.1=i/\c.2.2.1<r then c.2.2.2 else 0:=by
 unfold cO;rw[RJ]
theorem alz (l:List aw)(aI c2 c3 c4 i r:Int):cO (l++[(aI,c2,c3,c4)]) i r=cO l i r+if aI=i/\c3<r then c4 else 0:=aAN l _ i r
theorem yX.next {cash:List Int}{l:List aw}{g:Nat}{gs:Nat->Nat}{e1:Nat->Nat->Nat}{m m':Mem}(h:yX cash l g gs e1 m)(aH:(D cash)<=6){aI c3:Nat}{c2 c4:Int}(g0:aI<D cash)(pW:c3<10)(q2:Nat)
  (eS:m' 228023=m 228023) (aAO:∀i,i<(D cash)->i≠aI->m' (228500+i)=m (228500+i)) (fl:m' (228500+aI)=some (gs aI,hU (cash.getD aI 0) (λk=>if k=c3 then .ref (228600+10*aI+c3) q2 4 0 ((di l aI c3).length+1) else ox l e1 aI k) (λk=>cO l aI (k:Nat)+if c3<k then c4 else 0) 10 false))
  (R4:m' (228600+10*aI+c3)=some (q2,a8 ca (di l aI c3++[((aI:Int),c2,(c3:Int),c4)]))) (aAP:∀i k,i<(D cash)->k<10->¬ (i=aI/\k=c3)->m' (228600+10*i+k)=m (228600+10*i+k)):yX cash (l++[((aI:Int),c2,(c3:Int),c4)]) g gs (λi k=>if i=aI/\k=c3 then q2 else e1 i k) m':=by
 refine⟨by rw[eS];exact h.row,λi J=>?_,λi k J M bI=>?_⟩
 ·by_cases hic:i=aI
  ·subst hic;rw[fl]
   congr 2
   refine AL (λk M=>?_) λk M=>?_
   ·unfold ox
    by_cases Cf:k=c3
    ·subst Cf;have ay:di (l++[((i:Int),c2,(k:Int),c4)]) i k=di l i k++[((i:Int),c2,(k:Int),c4)]:=by rw[MU,ab ⟨rfl,rfl⟩]
     rw[ay,ab rfl,ag (by simp),fQ];simp
    ·have ay:di (l++[((i:Int),c2,(c3:Int),c4)]) i k=di l i k:=by rw[MU,ag (by omega)]
     rw[ag Cf,ay];dsimp only;rw[ag (show ¬ (i=i/\k=c3) by omega)]
   ·rw[alz]
    by_cases fF:c3<k
    ·rw[ab fF,ab (by omega)]
    ·rw[ag fF,ag (by omega)]
  ·rw[aAO i J hic,h.dz i J]
   congr 2
   refine AL (λk M=>?_) λk M=>?_
   ·unfold ox;have ay:di (l++[((aI:Int),c2,(c3:Int),c4)]) i k=di l i k:=by rw[MU,ag (by omega)]
    rw[ay];dsimp only;rw[ag (show ¬ (i=aI/\k=c3) by omega)]
   ·rw[alz,ag (by omega),wY]
 ·by_cases hic:i=aI/\k=c3
  ·obtain⟨rfl,rfl⟩:=hic;have ay:di (l++[((i:Int),c2,(k:Int),c4)]) i k=di l i k++[((i:Int),c2,(k:Int),c4)]:=by rw[MU,ab ⟨rfl,rfl⟩]
   rw[ay,ab ⟨rfl,rfl⟩];exact R4
  ·have ay:di (l++[((aI:Int),c2,(c3:Int),c4)]) i k=di l i k:=by rw[MU,ag (by omega)]
   rw[ay] at bI ⊢;rw[ag hic,aAP i k J M hic];exact h.E8 i k J M bI
theorem aa9 {K:ba->Prop}{tm:Nat->Q}{mem mem':Mem}(h:sd mem mem')(dN:∀bd,bd=mem'->K ⟨tm,bd⟩):ly K ⟨tm,mem⟩ .many:=⟨mem',.step h (.refl _),dN _ rfl⟩
theorem aba {K:ba->Prop}{tm:Nat->Q}{mem:Mem}(dN:∀bd,bd=mem->K ⟨tm,bd⟩):ly K ⟨tm,mem⟩ .many:=⟨mem,.refl _,dN _ rfl⟩
theorem iI {m:Mem}{k g:Nat}{cs:List Q}:a1 m k g cs k=some (g,cs):=by simp[a1]
theorem dn {m:Mem}{k j g:Nat}{cs:List Q}(h:k≠j):a1 m j g cs k=m k:=by
 simp only[a1];rw[ag h]
theorem aAQ (T:bb){K:eY->ba->Prop}{kk:List gD}(eD:Mem)(cash:List Int)(cs:List aw)(U:fz cash cs)(g:Nat)(gs:Nat->Nat)(e1:Nat->Nat->Nat)(tm:Nat->Q)(m:Mem)
  (cL:tm 5=.ref 228023 g 1 0 (D cash)) (hq:tm 25=.I (.X (cs.map ca))) (il:tm 26=.I (.int .i64 (D cs))) (im:tm 27=.I (.int .i64 0)) (cg:yX cash [] g gs e1 m) (bW:eu 228 eD m)
  (dN:∀tm' m' aAR,tm' 5=.ref 228023 g 1 0 (D cash)->yX cash cs g gs aAR m'->eu 228 eD m'->cB T K kk (.exit 2) ⟨tm',m'⟩) :
  wp T (Cc.body.sub [1,1,1,0,1,0]) (cB T K kk) ⟨tm,m⟩:=by
 simp only[Cc,eA.sub];have aH:=U.jB;have aa:=(gQ.1 U.right).2.2.2;have jb:=U.qY;refine dm [5,25,26] [] (λ((t,e1):Nat×(Nat->Nat->Nat)) tm m=>t<=D cs/\tm 27=.I (.int .i64 t)/\yX cash (cs.take t) g gs e1 m/\eu 228 eD m) (λ(t,_)=>D cs-t) (0,e1) (by refine⟨by omega,im,by rw[mH];exact cg,bW⟩) ?_;intro vs ms aR aN;simp only[go_sem,go_sem_proc,cL,hq,il] at aR aN;subst aR aN;clear cL hq il im cg bW tm m;rintro⟨t,e1⟩ tm m M-⟨bA,im,cg,bW⟩;simp only[go_sem,go_sem_proc,a6] at M;obtain⟨cL,hq,il⟩:=M;rcases dv (t<D cs) with az|b2
 ·have d1:decide ((t:Int)<(D cs:Int))=true:=dj;have bO:=eZ (i:=t) (by omega);obtain⟨⟨aI,c2,c3,c4⟩,O⟩:∃c,cs[t]?=some c:=⟨_,bu az⟩;have lY:=aa _ (eg O);dsimp only at lY;obtain⟨aI,rfl⟩:∃k:Nat,aI=(k:Int):=⟨aI.toNat,by omega⟩
  obtain⟨c3,rfl⟩:∃k:Nat,c3=(k:Int):=⟨c3.toNat,by omega⟩
  have gN:cs.take (t+1)=cs.take t++[((aI:Int),c2,(c3:Int),c4)]:=by rw[hk,O];rfl
  generalize av:cs.take t=l at *;have MV:(D l)<=12:=by rw[<-av,gC];omega
  have g0:aI<D cash:=by omega
  have pW:c3<10:=by omega
  have eS:=cg.row;have fl:=cg.dz aI g0;have iy:=wg (jg (λi=>Q.ptr (228500+i) (gs i) 0) g0);have bZ:(bD (D cash) λi=>Q.ptr (228500+i) (gs i) 0).length=D cash:=gT _ _;have hlen:=RX (cash.getD aI 0) (ox l e1 aI) (λk=>cO l aI (k:Nat)) 10 false;have CP:=aAH (c:=cash.getD aI 0) (q:=ox l e1 aI) (us:=λk=>cO l aI (k:Nat)) (f:=10) (p:=false) pW;have eB:=λv=>(RY (l:=hU (cash.getD aI 0) (ox l e1 aI) (λk=>cO l aI (k:Nat)) 10 false) (k:=1+c3) (v:=v) (by rw[RX];omega)).trans (aa8 pW v);have en:aI+1<=D cash:=by omega
  have b1:(1+c3+1<=24)=True:=eq_true (by omega);have w1:=eZ (i:=c3) (by omega);generalize Iw:(bD (D cash) λi=>Q.ptr (228500+i) (gs i) 0)=xv at *;generalize MP:hU (cash.getD aI 0) (ox l e1 aI) (λk=>cO l aI (k:Nat)) 10 false=DC at *;generalize uN:228500+aI=ed at *;have MI:(ed=228009)=False:=eq_false (by omega);have alA:(ed=228048)=False:=eq_false (by omega);have E1:(ed==228009)=false:=beq_eq_false_iff_ne.2 (by omega);have R2:(228009==ed)=false:=beq_eq_false_iff_ne.2 (by omega);have alB:(ed==228048)=false:=beq_eq_false_iff_ne.2 (by omega);have alC:(228048==ed)=false:=beq_eq_false_iff_ne.2 (by omega);have mz:(1<=maxLen)=True:=eq_true (by decide);have aMp:=λj=>(ajn U.right).upto aI j
  have Ef:∀j:Nat,0<=cO l aI (j:Nat)/\cO l aI (j:Nat)<=4000000000000000000:=λj=>by
   have:=(ajn U.right).sum (λc=>c.1=(aI:Int)/\c.2.2.1<(j:Int)) t;rw[av] at this;unfold cO;omega
  generalize R5:228600+10*aI+c3=kB at *;have cQ:(228009=ed)=False:=eq_false (by omega);have de:(228009=kB)=False:=eq_false (by omega);have ep:(228048=kB)=False:=eq_false (by omega);have fe:(228048=ed)=False:=eq_false (by omega);have o2:(kB=ed)=False:=eq_false (by omega);have s6:(ed=kB)=False:=eq_false (by omega);have ajR:(kB=228009)=False:=eq_false (by omega);have pG:(kB=228048)=False:=eq_false (by omega);have alD:(228009=228048)=False:=eq_false (by omega)
  have tail:∀(tm':Nat->Q) (M2:Mem) (q2 R0:Nat),tm' 5=.ref 228023 g 1 0 (D cash)->tm' 25=.I (.X (cs.map ca))->tm' 26=.I (.int .i64 (D cs))->tm' 27=.I (.int .i64 t)->M2 ed=some (gs aI,hU (cash.getD aI 0) (λk=>if k=c3 then .ref kB q2 4 0 ((di l aI c3).length+1) else ox l e1 aI k) (λk=>cO l aI (k:Nat)  + if c3<k then c4 else 0) 10 false)->M2 kB=some (q2,a8 ca (di l aI c3++[((aI:Int),c2,(c3:Int),c4)]))->(∀k:Nat,k≠228009->k≠228048->k≠ed->k≠kB->M2 k=m k)->yX cash (cs.take (t+1)) g gs (λi k=>if i=aI/\k=c3 then q2 else e1 i k) M2/\eu 228 eD M2:=by
   intro tm' M2 q2 R0 pC ID IE IF E9 MW nM;rw[gN];refine⟨yX.next cg aH g0 pW q2 ?_ (λi J bI=>?_) ?_ ?_ λi k J M bI=>?_,λk M=>?_⟩
   ·exact nM 228023 (by omega) (by omega) (by omega) (by omega)
   ·exact nM (228500+i) (by omega) (by omega) (by omega) (by omega)
   ·rw[uN,R5];exact E9
   ·rw[R5];exact MW
   ·exact nM (228600+10*i+k) (by omega) (by omega) (by omega) (by omega)
   ·rw[nM k (by omega) (by omega) (by omega) (by omega)];exact bW k M
  by_cases hR:di l aI c3=[]
  ·have fx:ox l e1 aI c3=.nil:=by unfold ox;rw[ab hR]
   rw[fx] at CP;simp only[go_sem,go_sem_proc,mz,cL,hq,il,im,O,eS,fl,iy,bZ,hlen,CP,eB,d1,en,b1,g0,pW,MI,alA,E1,R2,alB,alC,ca,cD,ai,bh];refine aa9 (sd.NR ed (gs aI) _ (1+c3) 228048 (gE (m 228048)) 4 0 1 _ kB iI (aa7 pW |>.trans (by rw[ab rfl])) ((dn (by omega)).trans iI) (by show (228048:Nat)≠ed;omega) (by show kB≠(228048:Nat);omega) (by show kB≠ed;omega)) ?_;intro M2 hc;rw[aa8 pW] at hc
   have MX:M2 228009=some (gE (m 228009),[.I (.int .i64 aI),.I (.int .i64 c2),.I (.int .i64 c3),.I (.int .i64 c4)]):=by
    rw[hc];simp only[Bh,cQ,de,alD,if_false,if_true]
   have E9:∃q2,M2 ed=some (gs aI,hU (cash.getD aI 0) (λk=>if k=c3 then .ref kB q2 4 0 ((di l aI c3).length+1) else ox l e1 aI k) (λk=>cO l aI (k:Nat)) 10 false)/\M2 kB=some (q2,a8 ca (di l aI c3++[((aI:Int),c2,(c3:Int),c4)])):=by
    rw[hR];apply Exists.intro;apply And.intro
    rotate_left
    ·rw[hc];simp only[Bh,o2,if_false,if_true];rfl
    ·rw[hc];simp only[Bh,if_true]
     congr 2
     refine AL (λk _=>?_) λ_ _=>rfl
     by_cases M:k=c3
     ·rw[ab M,ab M];rfl
     ·rw[ag M,ag M,ag M]
   obtain⟨q2,E9,MW⟩:=E9
   have nM:∀k:Nat,k≠228009->k≠228048->k≠ed->k≠kB->M2 k=m k:=λk E H af aP=>by
    rw[hc];simp only[Bh,E,H,af,aP,if_false]
   clear hc;simp only[go_sem,go_sem_proc,MX,w1,cQ];refine alu T M2 ed (gs aI) (gE (m 228009)) (cash.getD aI 0) (λk=>if k=c3 then .ref kB q2 4 0 ((di l aI c3).length+1) else ox l e1 aI k) (λk=>cO l aI (k:Nat)) aI c2 c3 c4 pW Ef (by omega) (by omega) (.ref 228023 g 1 0 (D cash)) (.I (.X (cs.map ca))) (.I (.int .i64 (D cs))) (.I (.int .i64 t)) _ _ ?_ ?_ ?_ ?_ ?_ ?_ ?_ MX E9 (λ_ _=>rfl) ?_
   all_goals first|(intro tm' m' pC ID IE IF abb MY)|(simp only[e7,dW,if_false,if_true,cL,hq,il,im];done)
   have iM:=tail tm' m' q2 0 pC ID IE IF abb (by rw[MY kB (by omega)];exact MW) λk E H af aP=>by rw[MY k af];exact nM k E H af aP
   refine aY ?_;repeat' (intro h<;>simp only[h,go_sem,go_sem_proc,pC,ID,IE,IF,bO]<;>try refine ax ?_ ?_)
   exact⟨(t+1,λi k=>if i=aI/\k=c3 then q2 else e1 i k),by dsimp only;omega,by dsimp only;omega,rfl,iM.1,iM.2⟩
  ·have fx:ox l e1 aI c3=.ref kB (e1 aI c3) 4 0 (di l aI c3).length:=by unfold ox;rw[ag hR,R5]
   rw[fx] at CP;have R4:=cg.E8 aI c3 g0 pW hR;rw[R5] at R4;have dM:(di l aI c3).length<=12:=eQ (om _ _) MV;have dG:=mI ET ZZ kB (e1 aI c3) 32 (di l aI c3) ((aI:Int),c2,(c3:Int),c4) (cs:=[.I (.int .i64 aI),.I (.int .i64 c2),.I (.int .i64 c3),.I (.int .i64 c4)]) rfl (by omega) (by omega);have ajT:(kB==228009)=false:=beq_eq_false_iff_ne.2 (by omega);have aAS:(228009==kB)=false:=beq_eq_false_iff_ne.2 (by omega);have aAT:(kB==ed)=false:=beq_eq_false_iff_ne.2 (by omega);have aAU:(ed==kB)=false:=beq_eq_false_iff_ne.2 (by omega);simp only[go_sem,go_sem_proc,mz,cL,hq,il,im,O,eS,fl,iy,bZ,hlen,CP,eB,d1,en,b1,g0,pW,MI,alA,E1,R2,alB,alC,ep,o2,s6,ajR,pG,ajT,aAS,aAT,aAU,R4,dG,ca,cD,ai,bh];refine aba ?_;intro M2 hc
   have MX:M2 228009=some (gE (m 228009),[.I (.int .i64 aI),.I (.int .i64 c2),.I (.int .i64 c3),.I (.int .i64 c4)]):=by
    rw[hc];simp only[Bh,cQ,de,alD,if_false,if_true]
   have E9:M2 ed=some (gs aI,hU (cash.getD aI 0) (λk=>if k=c3 then .ref kB (e1 aI c3+1) 4 0 ((di l aI c3).length+1) else ox l e1 aI k) (λk=>cO l aI (k:Nat)) 10 false):=by
    rw[hc];simp only[Bh,if_true]
   have MW:M2 kB=some (e1 aI c3+1,a8 ca (di l aI c3++[((aI:Int),c2,(c3:Int),c4)])):=by
    rw[hc];simp only[Bh,o2,if_false,if_true]
   have nM:∀k:Nat,k≠228009->k≠228048->k≠ed->k≠kB->M2 k=m k:=λk E H af aP=>by
    rw[hc];simp only[Bh,E,af,aP,if_false]
   clear hc;simp only[go_sem,go_sem_proc,MX,w1,cQ];refine alu T M2 ed (gs aI) (gE (m 228009)) (cash.getD aI 0) (λk=>if k=c3 then .ref kB (e1 aI c3+1) 4 0 ((di l aI c3).length+1) else ox l e1 aI k) (λk=>cO l aI (k:Nat)) aI c2 c3 c4 pW Ef (by omega) (by omega) (.ref 228023 g 1 0 (D cash)) (.I (.X (cs.map ca))) (.I (.int .i64 (D cs))) (.I (.int .i64 t)) _ _ ?_ ?_ ?_ ?_ ?_ ?_ ?_ MX E9 (λ_ _=>rfl) ?_
   all_goals first|(intro tm' m' pC ID IE IF abb MY)|(simp only[e7,dW,if_false,if_true,cL,hq,il,im];done)
   have iM:=tail tm' m' (e1 aI c3+1) 0 pC ID IE IF abb (by rw[MY kB (by omega)];exact MW) λk E H af aP=>by rw[MY k af];exact nM k E H af aP
   refine aY ?_;repeat' (intro h<;>simp only[h,go_sem,go_sem_proc,pC,ID,IE,IF,bO]<;>try refine ax ?_ ?_)
   exact⟨(t+1,λi k=>if i=aI/\k=c3 then e1 aI c3+1 else e1 i k),by dsimp only;omega,by dsimp only;omega,rfl,iM.1,iM.2⟩
 ·have d1:decide ((t:Int)<(D cs:Int))=false:=c5;rw[dx (by omega)] at cg;refine aY ?_;repeat' (intro h<;>simp only[h,go_sem,go_sem_proc,cL,hq,il,im,d1]<;>try refine ax ?_ ?_)
  refine dN _ _ e1 ?_ cg bW;simp only[e7,dW,if_false,cL]
theorem tj.trans {a b c:Mem}(h:tj a b)(cn:tj b c):tj a c:=by
 induction h with
 |refl=>exact cn
 |step E _ aA=>exact .step E (aA cn)
theorem alE {K:ba->Prop}{tm:Nat->Q}{mem mem':Mem}(h:tj mem mem')(dN:K ⟨tm,mem'⟩):ly K ⟨tm,mem⟩ .many:=⟨mem',h,dN⟩
def wk (l:List aw)(e1:Nat->Nat->Nat)(d i k:Nat):Q:=if 10*i+k<d then kn (di l i k) else ox l e1 i k
structure xA (cash:List Int) (l:List aw) (g:Nat) (gs:Nat->Nat) (e1:Nat->Nat->Nat) (d:Nat) (m:Mem):Prop where
 row:m 228023=some (g,bD (D cash) λi => .ptr (228500+i) (gs i) 0)
 dz:∀i,i<(D cash)->m (228500+i)=some (gs i,hU (cash.getD i 0) (wk l e1 d i) (λk=>cO l i (k:Nat)) 10 false)
 E8:∀i k,i<(D cash)->k<10->d<=10*i+k->di l i k≠[]->m (228600+10*i+k)=some (e1 i k,a8 ca (di l i k))
theorem xA.step {cash:List Int}{l:List aw}{g:Nat}{gs:Nat->Nat}{e1:Nat->Nat->Nat}{d:Nat}{m:Mem}(h:xA cash l g gs e1 d m)(aH:(D cash)<=6)(Y:d<10*D cash):∃m',tj m m'/\xA cash l g gs e1 (d+1) m'/\eu 228 m m':=by
 obtain⟨i,k,J,M,rfl⟩:∃i k,i<D cash/\k<10/\d=10*i+k:=⟨d/10,d%10,by omega,by omega,by omega⟩
 have abc:∀j r,j<(D cash)->r<10->¬ (j=i/\r=k)->wk l e1 (10*i+k+1) j r=wk l e1 (10*i+k) j r:=λj r ah aa bI=>by
  unfold wk
  by_cases E:10*j+r<10*i+k
  ·rw[ab E,ab (by omega)]
  ·rw[ag E,ag (by omega)]
 by_cases G:di l i k=[]
 ·refine⟨m,.refl m,⟨h.row,λj ah=>?_,λj r ah aa Y bI=>h.E8 j r ah aa (by omega) bI⟩,eu.refl _ _⟩;rw[h.dz j ah]
  congr 2
  refine AL (λr aa=>?_) λ_ _=>rfl
  by_cases Mj:j=i/\r=k
  ·obtain⟨rfl,rfl⟩:=Mj;unfold wk;rw[ag (by omega),ab (by omega)];unfold ox kn;rw[ab G,ab G]
  ·exact (abc j r ah aa Mj).symm
 ·have ae:=h.dz i J;have dM:=h.E8 i k J M (bX _) G
  have V4:wk l e1 (10*i+k) i k=.ref (228600+10*i+k) (e1 i k) 4 0 (di l i k).length:=by
   unfold wk;rw[ag (by omega)];unfold ox;rw[ag G]
  have fO:=aa7 (c:=cash.getD i 0) (q:=wk l e1 (10*i+k) i) (us:=λk=>cO l i (k:Nat)) (f:=10) (p:=false) M;rw[V4] at fO;have vD:cy 1 m (.ref (228600+10*i+k) (e1 i k) 4 0 (di l i k).length)=some (.X ((di l i k).map ca)):=qz (n:=0) ET dM;refine⟨_,.step (sd.NS (228500+i) (gs i) _ (1+k) (228600+10*i+k) (e1 i k) 4 0 (di l i k).length _ (.X ((di l i k).map ca)) ae fO dM (by show (228600+10*i+k:Nat)≠228500+i;omega) vD) (.refl _),⟨?_,λj ah=>?_,λj r ah aa Y bI=>?_⟩,λx O=>?_⟩
  ·rw[dn (by show (228023:Nat)≠228500+i;omega)];unfold kill;rw[dn (by show (228023:Nat)≠228600+10*i+k;omega)];exact h.row
  ·by_cases ic:j=i
   ·subst ic;rw[iI,aa8 M]
    congr 2
    refine AL (λr aa=>?_) λ_ _=>rfl
    by_cases h6:r=k
    ·subst h6;rw[ab rfl];unfold wk;rw[ab (by omega)];unfold kn;rw[ag G]
    ·rw[ag h6];exact (abc j r ah aa (by omega)).symm
   ·rw[dn (by show (228500+j:Nat)≠228500+i;omega)];unfold kill;rw[dn (by show (228500+j:Nat)≠228600+10*i+k;omega),h.dz j ah]
    congr 2
    refine AL (λr aa=>(abc j r ah aa (by omega)).symm) λ_ _=>rfl
  ·rw[dn (by show (228600+10*j+r:Nat)≠228500+i;omega)];unfold kill;rw[dn (by show (228600+10*j+r:Nat)≠228600+10*i+k;omega)];exact h.E8 j r ah aa (by omega) bI
  ·have vh:x/1000≠228:=O;rw[dn (by show x≠228500+i;omega)];unfold kill;rw[dn (by show x≠228600+10*i+k;omega)]
theorem xA.all {cash:List Int}{l:List aw}{g:Nat}{gs:Nat->Nat}{e1:Nat->Nat->Nat}(aH:(D cash)<=6):∀r d m,d+r=10*(D cash)->xA cash l g gs e1 d m->∃m',tj m m'/\xA cash l g gs e1 (10*D cash) m'/\eu 228 m m'
 |0,d,m,Y,h=>⟨m,.refl m,by rw[<-Y];exact h,eu.refl _ _⟩
 |r+1,d,m,Y,h=>by
  obtain⟨dJ,E,H,af⟩:=h.step aH (by omega);obtain⟨cU,b6,dd,ey⟩:=xA.all aH r (d+1) dJ (by omega) H;exact⟨cU,E.trans b6,dd,λx O=>(ey x O).trans (af x O)⟩
theorem yX.aAV {cash:List Int}{l:List aw}{g:Nat}{gs:Nat->Nat}{e1:Nat->Nat->Nat}{m:Mem}(h:yX cash l g gs e1 m):xA cash l g gs e1 0 m :=
 ⟨h.row,λi J=>by
  rw[h.dz i J]
  congr 2,λi k J M _ bI=>h.E8 i k J M bI⟩
def yY (cash:List Int)(cs:List aw)(g:Nat)(gs:Nat->Nat):dc:=⟨cash,dw (D cash) cs,bD (D cash) λ_=>10,nH (D cash) λ_=>false,g,bD (D cash) gs⟩
theorem aAW {cash:List Int}{cs:List aw}(h:fz cash cs)(i r:Nat):cO (dw (D cash) cs) i r=cO cs i r:=by
 have E:=uA h.right i r;have H:=uA (Z2 h).right i r;rw[<-(ajw h.right).bz,<-E] at H;exact_mod_cast H
theorem AM {α:Type}{n i:Nat}(q:Nat->α)(d:α)(h:i<n):(bD n q).getD i d=q i:=by
 rw[dZ,jg q h];rfl
theorem xA.at {cash:List Int}{cs:List aw}(U:fz cash cs){g:Nat}{gs:Nat->Nat}{e1:Nat->Nat->Nat}{m:Mem}(h:xA cash cs g gs e1 (10*D cash) m):(yY cash cs g gs).eI m:=by
 refine⟨(axS _ _).symm,gT _ _,Rj _ _,gT _ _,?_,λi J=>?_⟩
 ·refine h.row.trans ?_
  congr 2
  exact kX λi J=>by
   show Q.ptr (228500+i) (gs i) 0=Q.ptr (228500+i) ((bD (D cash) gs).getD i 0) 0;rw[AM gs 0 J]
 ·have ks:i<D cash:=J;refine (h.dz i ks).trans ?_;have ay:(yY cash cs g gs).gs.getD i 0=gs i:=AM gs 0 ks;rw[ay]
  congr 2
  have aB:(bD (D cash) λ_=>(10:Int)).getD i 10=10:=AM _ _ ks;have bG:(nH (D cash) λ_=>false).getD i false=false:=by rw[dZ,Rk _ ks];rfl
  have dp:fE ((yY cash cs g gs).gJ i)=bF (cash.getD i 0)::((bD 10 λk=>di (dw (D cash) cs) i k).map kn++((bD 11 λk=>cO (dw (D cash) cs) i (k:Nat)).map bF++[bF ((bD (D cash) λ_=>(10:Int)).getD i 10),lr ((nH (D cash) λ_=>false).getD i false)])):=rfl;rw[dp,aB,bG];unfold hU
  have cL:(bD 10 λk=>di (dw (D cash) cs) i k).map kn=bD 10 (wk cs e1 (10*D cash) i):=by
   unfold bD;rw[m4];refine m3 λk M=>?_;have LQ:=g2.1 M;show kn (di (dw (D cash) cs) i k)=wk cs e1 (10*D cash) i k;rw[ajs cs ks LQ];unfold wk;rw[ab (by omega)]
  have bK:(bD 11 λk=>cO (dw (D cash) cs) i (k:Nat))=bD 11 λk=>cO cs i (k:Nat):=kX λk _=>aAW U i k;rw[cL,bK]
theorem alF {α:Type}(n:Nat)(q:Nat->α):bD (n+1) q=bD n q++[q n]:=by
 unfold bD;rw[oo,kT];rfl
structure abd (x:List Int×List aw) (mem:Mem):Prop where
 uM:fz x.1 x.2
 no:rW 228 mem
def abe (x:List Int×List aw)(mem:Mem):Q->Mem->Prop:=λm mem'=>∃g gs,m=.ref 228023 g 1 0 x.1.length/\(yY x.1 x.2 g gs).eI mem'/\eu 228 mem mem'
def abf:List Q->Mem->Option (Q->Mem->Prop):=ui (λ(x:List Int×List aw) args mem=>args=[.I (.X (x.1.map ad)),.I (.X (x.2.map ca))]/\abd x mem) abe
theorem aAX (cash:List Int)(cs:List aw)(mem:Mem)(h:abd (cash,cs) mem):abf [.I (.X (cash.map ad)),.I (.X (cs.map ca))] mem=some (abe (cash,cs) mem):=by
 refine ajN (a:=(cash,cs)) ?_ ⟨rfl,h⟩;rintro⟨a,b⟩ ⟨c,d⟩ args mem ⟨ay,aB⟩ ⟨bG,dp⟩;rw[ay] at bG;simp only[a6,Q.I.injEq,Data.X.injEq,and_true] at bG;obtain⟨E,H⟩:=bG;rw[map_inj fi _ _ E,map_inj rU _ _ H]
def alG (_:Nat):Q:=.nil
def alH (_:Nat):Int:=0
theorem aAY (T:bb)(cash:List Int)(cs:List aw)(mem:Mem)(aM:abd (cash,cs) mem):
  wp T Cc.body (od Cc.res (abe (cash,cs) mem)) ⟨kr [.I (.X (cash.map ad)),.I (.X (cs.map ca))],mem⟩:=by
 obtain⟨U,gq⟩:=aM;dsimp only at U;have aH:=U.jB;have aAZ:mem 228023=none:=gq 228023 (by decide);refine qv ?_;simp only[Cc];simp only[go_sem,go_sem_proc,aAZ,ai]
 refine dm [1,12,13] [] (λ((i,g,gs):Nat×Nat×(Nat->Nat)) tm m=>i<=D cash/\tm 14=.I (.int .i64 i)/\tm 5=.ref 228023 g 1 0 i/\m 228023=some (g,bD i λj => .ptr (228500+j) (gs j) 0)/\(∀j,j<i->m (228500+j)=some (gs j,hU (cash.getD j 0) alG alH 10 false))/\eu 228 mem m) (λ(i,_)=>D cash-i) (0,0,λ_=>0) (by
  refine⟨by omega,rfl,rfl,by simp[a1];rfl,λj ah=>by omega,(eu.refl _ _).e6 (by decide)⟩) ?_
 intro vs ms aR aN;simp only[go_sem,go_sem_proc] at aR aN;subst aR aN;rintro⟨i,g,gs⟩ tm m M-⟨J,jd,cL,eS,fl,bW⟩;simp only[go_sem,go_sem_proc,a6] at M;obtain⟨ay,eh,ie⟩:=M;rcases dv (i<D cash) with az|b2
 ·have d1:decide ((i:Int)<(D cash:Int))=true:=dj;have bO:=eZ (i:=i) (by omega);obtain⟨y,ar⟩:∃y,cash[i]?=some y:=⟨_,bu az⟩;have W4:cash.getD i 0=y:=by rw[dZ,ar];rfl
  have bZ:(bD i λj=>Q.ptr (228500+j) (gs j) 0).length=i:=gT _ _;have gN:fM i (bD i λj=>Q.ptr (228500+j) (gs j) 0)=bD i λj=>Q.ptr (228500+j) (gs j) 0:=dx (by omega);have en:((i+1)*8<=140737488355328)=True:=eq_true (by omega);have al:(i+1<=maxLen)=True:=eq_true (by unfold maxLen;omega);have b1:(i<=i)=True:=eq_true (bX _)
  have dG:mw 228023 g 1 i 8 1 [.ptr 228021 (gE (m 228021)) 0] (some (g,bD i λj=>Q.ptr (228500+j) (gs j) 0))=some (.ref 228023 (g+1) 1 0 (i+1),some (228023,g+1,(bD i λj=>Q.ptr (228500+j) (gs j) 0)++[.ptr 228021 (gE (m 228021)) 0])):=by
   unfold mw;dsimp only;rw[ab ⟨rfl,by rw[gT];omega,by omega,by unfold maxLen;omega,rfl⟩,cD,gN]
  generalize Iw:(bD i λj=>Q.ptr (228500+j) (gs j) 0)=xv at *;simp only[go_sem,go_sem_proc,ay,cL,eh,ie,jd,eS,ar,bZ,dG,d1,ad,cD,ai,bh]
  have R6:(xv++[Q.ptr 228021 (gE (m 228021)) 0])[i]?=some (.ptr 228021 (gE (m 228021)) 0):=by
   rw[ri (by omega),bZ];simp
  have cQ:(228021=228022)=False:=eq_false (by decide);refine aa9 (sd.acV 228023 (g+1) _ i 228021 (gE (m 228021)) 0 _ (228500+i) iI R6 ((dn (by decide)).trans ((dn (by decide)).trans iI)) (by decide) (by show (228500+i:Nat)≠228021;omega) (by show (228500+i:Nat)≠228023;omega)) ?_;intro M2 hc
  have mT:∀p,(xv++[Q.ptr 228021 (gE (m 228021)) 0]).set i p=xv++[p]:=λp=>by
   rw[EB _ _ (by omega),bZ,Nat.sub_self];rfl
  rw[mT] at hc
  obtain⟨IG,alI,aA0⟩:∃IG,M2 228023=some (g+1,xv++[.ptr (228500+i) IG 0])/\M2 (228500+i)=some (IG,hU y alG alH 10 false):=by
   apply Exists.intro;apply And.intro
   rotate_left
   ·rw[hc,dn (by show (228500+i:Nat)≠228023;omega),iI];rfl
   ·rw[hc,iI]
  have nM:∀k:Nat,k≠228021->k≠228022->k≠228023->k≠228500+i->M2 k=m k:=λk E H af aP=>by
   rw[hc,dn af,dn aP,dn E,dn af,dn H,dn E]
  clear hc
  have hW:xv++[Q.ptr (228500+i) IG 0]=bD (i+1) λj => .ptr (228500+j) (if j=i then IG else gs j) 0:=by
   rw[alF,ab rfl,<-Iw]
   congr 1
   exact kX λj ah=>by rw[ag (by omega)]
  rw[hW] at alI;refine aY ?_;repeat' (intro h<;>simp only[h,go_sem,go_sem_proc,ay,eh,ie,jd,bO]<;>try refine ax ?_ ?_)
  refine⟨(i+1,g+1,λj=>if j=i then IG else gs j),by dsimp only;omega,by dsimp only;omega,rfl,rfl,alI,λj ah=>?_,λk M=>?_⟩
  ·by_cases ic:j=i
   ·subst ic;dsimp only;rw[ab rfl,aA0,W4]
   ·dsimp only;rw[ag ic,nM (228500+j) (by omega) (by omega) (by omega) (by omega)];exact fl j (by dsimp only at ah;omega)
  ·rw[nM k (by omega) (by omega) (by omega) (by omega)];exact bW k M
 ·have d1:decide ((i:Int)<(D cash:Int))=false:=c5;obtain rfl:i=D cash:=by omega
  simp only[go_sem,go_sem_proc,ay,cL,eh,ie,jd,d1,ai];refine aAQ T mem cash cs U g gs (λ_ _=>0) _ _ ?_ ?_ ?_ ?_ ⟨eS,λj ah=>?_,λj k ah M bI=>absurd rfl bI⟩ bW ?_
  all_goals first|(intro tm' m' e1 pC cg xw)|(simp only[e7,dW,if_false,if_true,ay,cL];done)|skip
  ·rw[fl j ah]
   congr 2
  obtain⟨cU,E,H,af⟩:=xA.all aH (10*D cash) 0 m' (by omega) cg.aAV;simp only[go_sem,go_sem_proc];refine alE E ?_;refine aY ?_;repeat' (intro h<;>simp only[h,go_sem,go_sem_proc,pC]<;>try refine ax ?_ ?_)
  exact⟨_,rfl,g,gs,rfl,H.at U,λk M=>(af k M).trans (xw k M)⟩
end Go.Mini
