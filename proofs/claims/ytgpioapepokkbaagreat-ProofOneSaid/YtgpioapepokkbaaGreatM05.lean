/- A part of the proof. -/
import Derived.Test.YtgpioapepokkbaaGreatM04
set_option linter.unusedSimpArgs false
set_option linter.unusedVariables false
set_option maxRecDepth 100000
set_option maxHeartbeats 4000000
noncomputable section
open Bool renaming and_eq_true->ec,and_false->iQ,eq_iff_iff->w2,false_and->fz,not_eq_true'->pj,not_false->dD,not_true->c8,or_eq_true->x3,or_false->lR,or_true->u3,true_and->gT
open Classical renaming byContradiction->kn,choose->tB,choose_spec->o7
open Decidable renaming em->dA
open Int renaming add_zero->wS,le_refl->QG,natAbs_natCast->mC,sign_neg_iff->ajm,toNat_natCast->lu
open List renaming any_eq_false->ug,append_assoc->gU,append_inj->Gm,append_nil->fJ,cons_append->jO,drop->gI,drop_append->rn,drop_append_of_le_length->ajO,drop_eq_nil_of_le->kP,drop_succ_cons->CJ,ext_getElem?->o4,filter_append->rT,filter_cons->Z7,filter_cons_of_neg->vP,filter_cons_of_pos->ux,filter_eq_nil_iff->HX,filter_nil->p9,flatMap_append->yJ,flatMap_cons->qA,flatMap_def->yK,flatMap_eq_nil_iff->aiY,flatMap_nil->CG,flatten_cons->jC,getD_eq_getElem?_getD->en,getElem?_append_left->qo,getElem?_append_right->rb,getElem?_cons_succ->yO,getElem?_eq_getElem->bx,getElem?_eq_none->ke,getElem?_eq_some_iff->dz,getElem?_map->bq,getElem?_range->th,getElem?_replicate->ajD,getElem?_set->nr,getElem_mem->nc,length->D,length_append->fE,length_cons->hV,length_drop->rp,length_filter_le->od,length_map->ak,length_range->ss,length_replicate->Cq,length_set->jf,length_take->fR,map->yG,map_append->kI,map_congr_left->jM,map_cons->eE,map_map->lo,map_nil->c1,map_replicate->Hy,map_set->Ai,mem_cons->hE,mem_cons_of_mem->gX,mem_cons_self->gn,mem_filter->rP,mem_flatMap->x1,mem_map->dS,mem_map_of_mem->pt,mem_of_getElem?->ep,mem_range->gV,nil_append->jg,range->dP,range_add->ako,range_succ->nx,replicate->dC,set_append_left->akX,set_append_right->En,set_cons_succ->Ho,set_cons_zero->rJ,set_eq_take_append_cons_drop->akr,take->gq,take_add_one->g1,take_append_drop->Bs,take_append_of_le_length->Co,take_length->k3,take_of_length_le->dt,take_zero->nd
open List.cons renaming inj->wO,injEq->bb
open Nat renaming add_comm->y6,le_refl->bW,le_trans->eP,lt_of_le_of_lt->vk,lt_or_ge->h9,lt_trichotomy->aiN,mul_comm->rq,mul_le_mul->oS,mul_one->cK,mul_pos->L1,one_le_two_pow->ZH,pow_add->vK,pow_le_pow_right->wT,reduceEqDiff->eb,succ_mul->ti,zero_le->fg
open Option renaming bind_some->kB,map_eq_some_iff->dR
open Option.some renaming inj->mj,injEq->cj
open Prod renaming ext->ed,ext_iff->ye
open Prod.mk renaming injEq->fp
open Rat renaming add_zero->oQ,den_intCast->ajw,divInt_eq_div->L4,intCast_add->vJ,intCast_mul->p6,intCast_natCast->ob,intCast_sub->Cx,le_refl->gd,le_trans->vI,lt_iff->ZK,mul_comm->ur,mul_zero->nu,natCast_mul->Zs,num_intCast->ajv,zero_add->vM
namespace Go.Mini
open Classical
def fb (bj:Nat)(x:Rat):Prop:=∃z:Int,x*(bj:Rat)=(z:Rat)
theorem fb.add {bj:Nat}{x y:Rat}(O:fb bj x)(ar:fb bj y):fb bj (x+y):=by
 obtain⟨a,aN⟩:=O;obtain⟨b,ah⟩:=ar;exact⟨a+b,by rw[vJ,<-aN,<-ah];grind⟩
theorem fb.sub {bj:Nat}{x y:Rat}(O:fb bj x)(ar:fb bj y):fb bj (x-y):=by
 obtain⟨a,aN⟩:=O;obtain⟨b,ah⟩:=ar;exact⟨a-b,by rw[Cx,<-aN,<-ah];grind⟩
theorem fb.mul {bj N:Nat}{x y:Rat}(O:fb bj x)(ar:fb N y):fb (bj*N) (x*y):=by
 obtain⟨a,aN⟩:=O;obtain⟨b,ah⟩:=ar;exact⟨a*b,by rw[p6,<-aN,<-ah,Zs];grind⟩
theorem fb.int (bj:Nat)(z:Int):fb bj (z:Rat):=⟨z*bj,by rw[p6,ob]⟩
theorem fb.zero (bj:Nat):fb bj 0:=⟨0,by rw[Rat.zero_mul];rfl⟩
theorem fb.more {bj:Nat}{x:Rat}(h:fb bj x)(N:Nat):fb (bj*N) x:=by
 obtain⟨a,aN⟩:=h;exact⟨a*N,by rw[p6,<-aN,Zs,ob];grind⟩
theorem fb.of_dvd {bj N:Nat}{x:Rat}(h:fb bj x)(aa:∃m,N=bj*m):fb N x:=by
 obtain⟨m,rfl⟩:=aa;exact h.more m
theorem fb.b5 {bj:Nat}{l:List dM}{aO:dM->Rat}(h:∀c∈l,fb bj (aO c)):fb bj (b5 l aO):=by
 induction l with
 |nil=>exact fb.zero bj
 |cons c l ax=>exact (h c gn).add (ax λx O=>h x (gX _ O))
theorem fb.bE {bj n:Nat}{aO:Nat->Rat}(h:∀k,k<n->fb bj (aO k)):fb bj (bE n aO):=by
 induction n with
 |zero=>exact fb.zero bj
 |succ n ax=>exact (ax λk Q=>h k (by omega)).add (h n (by omega))
theorem fb.sz {bj a e:Nat}{x:Rat}(h:fb bj x)(mW:0<bj)(Ma:bj<=2^a)(al:0<=x)(O:x<=((2^e:Nat):Rat)):dT (a+e) x:=by
 obtain⟨z,aS⟩:=h;have uW:(0:Rat)<=(z:Rat):=by rw[<-aS];exact Rat.mul_nonneg al (by exact_mod_cast fg bj)
 have awK:(z:Rat)<=((2^e*bj:Nat):Rat):=by
  rw[<-aS,Zs];exact Rat.mul_le_mul_of_nonneg_right O (by exact_mod_cast fg bj)
 have fM:0<=z:=by exact_mod_cast uW
 have ca:z<=((2^e*bj:Nat):Int):=by exact_mod_cast awK
 obtain⟨f1,f2⟩:=Cz (q:=x) (v:=z) (d:=(bj:Int)) (by omega) (by rw[ob];exact aS);rw[mC] at f2;have c7:z.natAbs<=2^e*bj:=by omega
 refine⟨eP f1 (eP c7 ?_),eP f2 (eP Ma (wT (by omega) (by omega)))⟩;rw[vK,rq (2^a)];exact Nat.mul_le_mul_left _ Ma
structure e2 (E:List Int) (cs:List ao):Prop where
 right:iF E cs=true
 n5:(D E)<=6
 sZ:(D cs)<=12
 am:∀c∈cs,c.2.2.2<=1000000000000000
theorem e2.ok {E:List Int}{cs:List ao}(h:e2 E cs):(aB E cs).dj:=ahB h.right
theorem e2.sum {E:List Int}{cs:List ao}(h:e2 E cs)(p:ao->Prop)[DecidablePred p]:0<=cP cs (λc=>if p c then c.2.2.2 else 0)/\cP cs (λc=>if p c then c.2.2.2 else 0)<=12000000000000000:=by
 have:=Qv (cs:=cs) (aO:=λc=>if p c then c.2.2.2 else 0) (B:=1000000000000000) (by omega) λc G=>by
  have F:=h.am c G;have I:=((hy.1 h.right).2.2.2 c G).2.2.2.2.2.2.1
  try dsimp only
  split<;>omega
 have ji:=h.sZ;omega
theorem e2.upto {E:List Int}{cs:List ao}(h:e2 E cs)(i r:Int):0<=cS cs i r/\cS cs i r<=12000000000000000:=h.sum λc=>c.1=i/\c.2.2.1<r
theorem awL {E:List Int}{cs:List ao}(h:iF E cs=true)(i:Int){r s:Int}(Bo:r<=s):cS cs i r<=cS cs i s:=by
 have aM:=(hy.1 h).2.2.2
 have:∀l:List ao,(∀c∈l,0<=c.2.2.2)->cP l (λc=>if c.1=i/\c.2.2.1<r then c.2.2.2 else 0)<=cP l (λc=>if c.1=i/\c.2.2.1<s then c.2.2.2 else 0):=by
  intro l
  induction l with
  |nil=>intro _;exact QG _
  |cons c l ax =>
   intro aq;have F:=ax λx O=>aq x (gX _ O);have I:=aq c gn;simp only[cP]
   split<;>split<;>omega
 exact this cs λc G=>(aM c G).2.2.2.2.2.2.1
def h4 (cs:List ao)(k r:Nat):Nat:=(cS cs k (r+1:Nat)-cS cs k r).toNat
theorem EA {E:List Int}{cs:List ao}(h:iF E cs=true)(k r:Nat):((h4 cs k r:Nat):Rat)=(aB E cs).S k r:=by
 have F:=Qw h k r;have I:=awL h k (r:=r) (s:=(r+1:Nat)) (by omega);rw[<-F,<-ob];unfold h4;rw[Int.toNat_of_nonneg (by omega)]
theorem e2.EB {E:List Int}{cs:List ao}(h:e2 E cs)(k r:Nat):h4 cs k r<=2^54:=by
 have F:=h.upto k (r+1:Nat);have I:=h.upto k r;unfold h4;omega
def pw (cs:List ao)(f:Nat->Nat)(k i:Nat):Int:=cP cs λc=>if c.2.1=(i:Int)/\c.1=(k:Int)/\c.2.2.1=(f k:Int) then c.2.2.2 else 0
theorem awM {E:List Int}{cs:List ao}(h:iF E cs=true)(f:Nat->Nat){k:Nat}(i:Nat)(cJ:0<(aB E cs).S k (f k)):(aB E cs).W f k i*(aB E cs).S k (f k)=((pw cs f k i:Int):Rat):=by
 unfold Day.W pw
 rw[Qu cs _ (λc=>if c.to=(i:Int)/\c.az=k/\c.bm=f k then c.am else 0) λc G=>by
  have:=(hy.1 h).2.2.2 c G;show ((if c.2.1=(i:Int)/\c.1=(k:Int)/\c.2.2.1=(f k:Int) then c.2.2.2 else 0:Int):Rat)=if c.2.1=(i:Int)/\c.1.toNat=k/\c.2.2.1.toNat=f k then (c.2.2.2:Rat) else 0
  by_cases F:c.2.1=(i:Int)/\c.1=(k:Int)/\c.2.2.1=(f k:Int)
  ·rw[ad F,ad (by omega)]
  ·rw[ae F,ae (by omega)];rfl]
 rw[ur,<-Qi];refine po λc _=>?_
 split
 ·rename_i F;rw[ur];have aA:=F.2.1;have aC:=F.2.2;subst aA;rw[<-aC] at cJ ⊢;exact Day.Au cJ
 ·rw[nu]
theorem Mb {E:List Int}{cs:List ao}(h:iF E cs=true)(f:Nat->Nat)(i:Nat):((k8 E cs f i:Int):Rat)=(aB E cs).st f i:=by
 unfold k8 Day.st;rw[vJ]
 congr 1
 refine Qu cs _ (λc=>if c.to=(i:Int)/\c.bm<f c.az then c.am else 0) λc G=>?_;have:=(hy.1 h).2.2.2 c G;show ((if c.2.1=(i:Int)/\c.2.2.1<(f c.1.toNat:Int) then c.2.2.2 else 0:Int):Rat)=if c.2.1=(i:Int)/\c.2.2.1.toNat<f c.1.toNat then (c.2.2.2:Rat) else 0
 by_cases F:c.2.1=(i:Int)/\c.2.2.1<(f c.1.toNat:Int)
 ·rw[ad F,ad (by omega)]
 ·rw[ae F,ae (by omega)];rfl
theorem e2.E {E:List Int}{cs:List ao}(h:e2 E cs)(i:Nat):0<=E.getD i 0/\E.getD i 0<=1000000000000000:=by
 rw[en]
 cases M:E[i]? with
 |none=>simp
 |some x=>exact (hy.1 h.right).2.2.1 x (ep M)
theorem e2.steady {E:List Int}{cs:List ao}(h:e2 E cs)(f:Nat->Nat)(i:Nat):0<=k8 E cs f i/\k8 E cs f i<=13000000000000000:=by
 have F:=h.E i;have I:=h.sum λc=>c.2.1=(i:Int)/\c.2.2.1<(f c.1.toNat:Int);unfold k8;omega
theorem QH (n:Nat)(a b:Nat->Nat):fe n (λi=>a i+b i)=fe n a+fe n b:=by
 induction n with
 |zero=>rfl
 |succ n ax=>simp only[fe,ax];omega
theorem QI {n:Nat}{a:Nat->Nat}(h:∀i,i<n->a i=0):fe n a=0:=by
 induction n with
 |zero=>rfl
 |succ n ax=>rw[fe,ax λi M=>h i (by omega),h n (by omega)]
theorem aiE {n b e:Nat}{cb:Nat->Nat}(h:∀k,k<n->cb k<=2^b)(he:n*b<=e):iG n cb<=2^e:=eP (Zc h) (wT (by omega) he)
theorem QJ {n x:Nat}{p:Nat->Prop}[DecidablePred p](h:∀i j,p i->p j->i=j):fe n (λi=>if p i then x else 0)<=x:=by
 induction n with
 |zero=>exact fg _
 |succ n ax =>
  rw[fe]
  by_cases aE:p n
  ·rw[ad aE,QI λi M=>ae λF=>by have:=h i n F aE;omega]
   omega
  ·rw[ae aE];omega
theorem aiF {cs:List ao}{aO:ao->Int}(h:∀c∈cs,0<=aO c):0<=cP cs aO:=by
 induction cs with
 |nil=>exact QG _
 |cons c l ax =>
  have F:=ax λx O=>h x (gX _ O);have I:=h c gn;simp only[cP];omega
theorem aiG {cs:List ao}(h:∀c∈cs,0<=c.2.2.2)(f:Nat->Nat)(k i:Nat):0<=pw cs f k i:=aiF λc G=>by
 have:=h c G
 split<;>omega
theorem awN {cs:List ao}(h:∀c∈cs,0<=c.2.2.2)(k r:Nat):h4 cs k r=(cP cs λc=>if c.1=(k:Int)/\c.2.2.1=(r:Int) then c.2.2.2 else 0).toNat:=by
 unfold h4 cS
 congr 1
 induction cs with
 |nil=>rfl
 |cons c l ax =>
  have F:=ax λx O=>h x (gX _ O);simp only[cP]
  have e:(if c.1=(k:Int)/\c.2.2.1<((r+1:Nat):Int) then c.2.2.2 else 0)-(if c.1=(k:Int)/\c.2.2.1<(r:Int) then c.2.2.2 else 0)=if c.1=(k:Int)/\c.2.2.1=(r:Int) then c.2.2.2 else 0:=by
   (repeat' split)<;>omega
  omega
theorem awO {cs:List ao}(h:∀c∈cs,0<=c.2.2.2)(f:Nat->Nat)(k N:Nat):fe N (λi=>(pw cs f k i).toNat)<=h4 cs k (f k):=by
 rw[awN h]
 induction cs with
 |nil=>exact eP (Nat.le_of_eq (QI λi _=>rfl)) (fg _)
 |cons c l ax =>
  have aq:=λx O=>h x (gX c O);have F:=ax aq;have I:=h c gn
  have e:fe N (λi=>(pw (c::l) f k i).toNat)=fe N (λi=>if c.2.1=(i:Int)/\c.1=(k:Int)/\c.2.2.1=(f k:Int) then c.2.2.2.toNat else 0)+fe N λi=>(pw l f k i).toNat:=by
   rw[<-QH];refine L0 λi _=>?_;have:=aiG aq f k i;have aA:pw (c::l) f k i=(if c.2.1=(i:Int)/\c.1=(k:Int)/\c.2.2.1=(f k:Int) then c.2.2.2 else 0)+pw l f k i:=rfl;rw[aA]
   split<;>omega
  have aM:0<=cP l λc=>if c.1=(k:Int)/\c.2.2.1=(f k:Int) then c.2.2.2 else 0:=aiF λc G=>by
   have:=aq c G
   split<;>omega
  have af:fe N (λi=>if c.2.1=(i:Int)/\c.1=(k:Int)/\c.2.2.1=(f k:Int) then c.2.2.2.toNat else 0)<=if c.1=(k:Int)/\c.2.2.1=(f k:Int) then c.2.2.2.toNat else 0:=by
   by_cases G:c.1=(k:Int)/\c.2.2.1=(f k:Int)
   ·rw[ad G];exact QJ λi j M aj=>by omega
   ·rw[ae G,QI λi _=>ae λh=>G h.2];exact bW _
  simp only[cP];rw[e]
  split at af<;>rename_i G
  ·rw[ad G];omega
  ·rw[ae G];omega
section
variable {E:List Int} {cs:List ao} (U:e2 E cs) {f:Nat->Nat} {P:Nat->Prop} (cJ:∀k,P k->0<(aB E cs).S k (f k))
include U cJ
theorem QK {k:Nat}(Q:P k):0<h4 cs k (f k):=by
 have F:=cJ k Q;rw[<-EA U.right] at F;exact_mod_cast F
theorem aiH {k:Nat}(Q:P k)(i:Nat):((h4 cs k (f k):Nat):Rat)*(aB E cs).W f k i=((pw cs f k i:Int):Rat):=by
 rw[EA U.right,ur];exact awM U.right f i (cJ k Q)
theorem aiI {k:Nat}(Q:P k)(i:Nat)(p:Prop)[Decidable p]:eN ((if p then h4 cs k (f k) else 0)+(pw cs f k i).toNat) (((h4 cs k (f k):Nat):Rat)*((if p then 1 else 0)-(aB E cs).W f k i)):=by
 have e:((h4 cs k (f k):Nat):Rat)*((if p then 1 else 0)-(aB E cs).W f k i)=((if p then h4 cs k (f k) else 0:Nat):Rat)-((pw cs f k i:Int):Rat):=by
  rw[<-aiH U cJ Q i]
  split<;>grind
 have I:=aiG (λc G=>((hy.1 U.right).2.2.2 c G).2.2.2.2.2.2.1) f k i;rw[e];exact (eN.nat (bW _)).sub (eN.of (by omega))
omit cJ in
theorem aiJ {N:Nat}{k:Nat}(τ:Nat->Nat)(t:Nat)(hτ:∀i,i<N->τ i<D E)(aj:∀i j,i<N->j<N->τ i=τ j->i=j):fe N (λi=>(if i=t then h4 cs k (f k) else 0)+(pw cs f k (τ i)).toNat)<=2*h4 cs k (f k):=by
 rw[QH];have F:fe N (λi=>if i=t then h4 cs k (f k) else 0)<=h4 cs k (f k):=QJ λi j M aj=>by omega
 have I:=Za (λi=>(pw cs f k i).toNat) hτ aj;have af:=awO (λc G=>((hy.1 U.right).2.2.2 c G).2.2.2.2.2.2.1) f k (D E);omega
omit cJ in
theorem aiK (i:Nat):(k8 E cs f i-cS cs (i:Nat) (f i)).natAbs<=2^54/\(k8 E cs f i).natAbs<=2^54:=by
 have F:=U.steady f i;have I:=U.upto (i:Nat) (f i);omega
theorem awP:uu (D E) ((aB E cs).Ay f P) (D E*54) 54:=by
 have ki:(aB E cs).n=D E:=rfl;refine⟨λk=>if P k then h4 cs k (f k) else 1,λk=>if P k then cS cs k (f k) else 0,λi=>k8 E cs f i-if P i then cS cs i (f i) else 0,Zc λk _=>?_,λk=>?_,λk Q=>?_,λk _=>?_,λi M=>⟨?_,?_⟩⟩
 ·try dsimp only
  split
  ·exact U.EB k _
  ·decide
 ·try dsimp only
  split
  ·exact QK U cJ (by assumption)
  ·omega
 ·by_cases gr:P k
  ·refine⟨λi=>(if i=k then h4 cs k (f k) else 0)+(pw cs f k i).toNat,by dsimp only;rw[ad gr];exact aiJ U (λi=>i) k (λi M=>M) λi j _ _ h=>h,λi M=>?_⟩
   unfold Day.Ay;dsimp only;rw[ad gr,ad (show k<(aB E cs).n from Q),ad gr];exact aiI U cJ gr i _
  ·refine⟨λi=>if i=k then 1 else 0,by dsimp only;rw[ae gr];exact eP (QJ λi j M aj=>by omega) (by omega),λi M=>?_⟩
   unfold Day.Ay;dsimp only;rw[ae gr,ad (show k<(aB E cs).n from Q),ae gr];have:(((1:Nat):Rat)*((if i=k then 1 else 0)-0))=((if i=k then 1 else 0:Nat):Rat):=by split<;>simp<;>grind
   rw[this];exact eN.nat (bW _)
 ·try dsimp only
  split
  ·have:=U.upto (k:Nat) (f k);omega
  ·decide
 ·have:=aiK U (f:=f) i;dsimp only
  split
  ·exact this.1
  ·rw[Int.sub_zero];exact this.2
 ·unfold Day.Ay;rw[ae (by rw[ki];omega),ki]
  have aA:(λk=>(if k<(D E) then (if i=k then 1 else 0)-(if P k then (aB E cs).W f k i else 0) else (aB E cs).st f i-bE (D E) λk=>if P k then (aB E cs).W f k i*(aB E cs).br k (f k) else 0)*((if P k then cS cs k (f k) else 0:Int):Rat))=λk=>(if k<(D E) then (if i=k then ((if P k then cS cs k (f k) else 0:Int):Rat) else 0)-(if P k then (aB E cs).W f k i*(aB E cs).br k (f k) else 0) else ((aB E cs).st f i-bE (D E) λk=>if P k then (aB E cs).W f k i*(aB E cs).br k (f k) else 0)*((if P k then cS cs k (f k) else 0:Int):Rat)):=by
   funext k
   by_cases F:k<D E
   ·rw[ad F,ad F]
    by_cases I:P k
    ·rw[ad I,ad I,ad I,<-uk U.right k (f k)]
     split<;>grind
    ·rw[ae I,ae I,ae I]
     split<;>simp<;>grind
   ·rw[ae F,ae F]
  rw[aA];rw[j1 (g:=λk=>(if i=k then ((if P k then cS cs k (f k) else 0:Int):Rat) else 0)-(if P k then (aB E cs).W f k i*(aB E cs).br k (f k) else 0)) λk Q=>ad Q];rw[Cu,xi M λk _ Q=>ae (Ne.symm Q),ad rfl,Cx,Mb U.right];grind
theorem Zt (p:List Nat)(aE:∀k,k<(D p)->P (p.getD k 0)/\p.getD k 0<D E)(aj:∀i j,i<(D p)->j<(D p)->p.getD i 0=p.getD j 0->i=j):uu (D p) ((aB E cs).uw f p) (D p*54) 54:=by
 refine⟨λk=>if k<(D p) then h4 cs (p.getD k 0) (f (p.getD k 0)) else 1,λ_=>0,λi=>k8 E cs f (p.getD i 0)-cS cs (p.getD i 0:Nat) (f (p.getD i 0)),Zc λk Q=>?_,λk=>?_,λk Q=>?_,λk _=>fg _,λi M=>⟨?_,?_⟩⟩
 ·try dsimp only
  rw[ad Q];exact U.EB _ _
 ·try dsimp only
  split
  ·exact QK U cJ (aE k (by assumption)).1
  ·omega
 ·refine⟨λi=>(if i=k then h4 cs (p.getD k 0) (f (p.getD k 0)) else 0)+(pw cs f (p.getD k 0) (p.getD i 0)).toNat,by dsimp only;rw[ad Q];exact aiJ U (λi=>p.getD i 0) k (λi M=>(aE i M).2) aj,λi M=>?_⟩
  unfold Day.uw;dsimp only;rw[ad Q,ad Q];exact aiI U cJ (aE k Q).1 _ _
 ·exact (aiK U _).1
 ·unfold Day.uw;rw[ae (by omega),sT λk _=>by rw[show ((0:Int):Rat)=0 from rfl,nu],vM,Cx,Mb U.right,uk U.right]
end
end Go.Mini
namespace Go.Mini
open Go Classical
theorem j4 {b:Nat}{q:Rat}(h:dT b q)(ah:b<1200):dm q:=by
 obtain⟨B,fU,gu⟩:=ah4;have:2^b<ee:=by rw[gu];exact Nat.pow_lt_pow_right (by omega) (by omega)
 exact⟨vk h.1 this,vk h.2 this⟩
def rowsOf (N:Nat)(A:eH):List eV:=(dP N).map λi=>(dF N (A i),av (A i N))
theorem CE (N:Nat)(A:eH):(rowsOf N A).length=N:=by simp[rowsOf]
theorem aiL {N i:Nat}(A:eH)(h:i<N):(rowsOf N A)[i]?=some (dF N (A i),av (A i N)):=by
 unfold rowsOf;rw[bq,th h];rfl
theorem awQ {N i k:Nat}(A:eH)(M:i<N)(Q:k<=N):qU (rowsOf N A) i k=A i k:=by
 unfold qU;rw[ah1 (aiL A M),CE]
 by_cases h:k<N
 ·rw[ad h,en,vN _ h,Option.getD_some,zW]
 ·rw[ae h,zW,show k=N by omega]
theorem EC {x:Rat}(h:dm x):ei (av x)=true:=(K3 _).2 ⟨x,h,rfl⟩
theorem awR {N:Nat}{A:eH}(gB:N<=40)(aq:∀i,i<N->∀k,k<=N->dm (A i k)):n3 (rowsOf N A) N=true:=by
 unfold n3
 have af:(rowsOf N A).any (oN N)=false:=by
  rw[ug];intro r ab;obtain⟨i,M,rfl⟩:=dS.1 ab;have M:=gV.1 M;unfold oN GW;simp only[p8,beq_self_eq_true,gT,EC (aq i M N (bW _))]
  have:(dF N (A i)).any (λf => !ei f)=false:=by
   rw[ug];intro f aF;unfold dF at aF;obtain⟨x,O,rfl⟩:=dS.1 aF;obtain⟨k,Q,rfl⟩:=dS.1 O;rw[EC (aq i M k (by have:=gV.1 Q;omega))]
   decide
  rw[this];decide
 rw[af,CE];simp only[ec,pj,decide_eq_false_iff_not,beq_self_eq_true,dD,and_true];omega
theorem awS {N:Nat}{A:eH}(gB:N<=40)(aq:∀i,i<N->∀k,k<=N->dm (A i k)):rH (rowsOf N A):=by
 refine⟨by rw[CE];omega,λr ab=>?_⟩
 obtain⟨i,M,rfl⟩:=dS.1 ab;have M:=gV.1 M;exact⟨Zp gB λk Q=>aq i M k (by omega),lA (aq i M N (bW _))⟩
theorem aiM {N:Nat}{a b y:Nat->Rat}(h:∀k,k<=N->a k=b k):mI N a y=mI N b y:=j1 λk Q=>by rw[h k (by omega)]
theorem hT.congr {N:Nat}{A B:eH}(h:∀i,i<N->∀k,k<=N->A i k=B i k)(y:Nat->Rat):hT N A y↔hT N B y:=by
 unfold hT
 constructor
 ·intro dZ i M;rw[<-aiM (h i M)];exact dZ i M
 ·intro dZ i M;rw[aiM (h i M)];exact dZ i M
theorem uu.congr {N δ v:Nat}{A B:eH}(h:∀i,i<N->∀k,k<=N->A i k=B i k)(U:uu N A δ v):uu N B δ v:=by
 obtain⟨cb,u,w,cU,de,a3,a4,a5⟩:=U;refine⟨cb,u,w,cU,de,λk Q=>?_,a4,λi M=>⟨(a5 i M).1,?_⟩⟩
 ·obtain⟨b,df,eD⟩:=a3 k Q;exact⟨b,df,λi M=>by rw[<-h i M k (by omega)];exact eD i M⟩
 ·rw[<-h i M N (bW _),(a5 i M).2,j1 λk Q=>by rw[h i M k (by omega)]]
theorem uu.sz {N δ v:Nat}{A:eH}(U:uu N A δ v)(gB:N<=7){i k:Nat}(M:i<N)(Q:k<=N):dT (N+δ+v+4) (A i k):=(U.ail gB A 0 (fg _) (lE.start N A) i k M (fg _) Q).1
theorem awT {N:Nat}{A:eH}(gB:N<=6)(U:uu N A (N*54) 54)(awU:¬ CD N A){x:Nat->Rat}(O:hT N A (ext N x (-1))):
  qS (rowsOf N A) N=(dF N x,0)/\n3 (rowsOf N A) N=true/\∀k,k<N->dm (x k):=by
 have aq:∀i,i<N->∀k,k<=N->dm (A i k):=λi M k Q=>j4 (U.sz (by omega) M Q) (by omega);have ab:=awR (by omega) aq;have G:∀i,i<N->∀k,k<=N->A i k=qU (rowsOf N A) i k:=λi M k Q=>(awQ A M Q).symm;have iL:=(U.congr G).ail (by omega)
 have awV:¬ CD N (qU (rowsOf N A)):=by
  rintro⟨y,ar,h⟩;exact awU ⟨y,(hT.congr G _).2 ar,h⟩
 obtain⟨y,aA,aC,bZ⟩:=awF (rs:=rowsOf N A) (n:=N) (eR:=N+N*54+54+4) (aO:=N+N*54) ab (by rw[CE];exact iL) (by omega) (by rw[CE];exact awV);rw[CE] at aA aC bZ;have mn:∀k,k<N->x k=y k:=λk Q=>(bZ.1 x).1 ((hT.congr G _).1 O) k Q;exact⟨by rw[aA,HU λk Q=>(mn k Q).symm],ab,λk Q=>by rw[mn k Q];exact aC k Q⟩
theorem Zu {P:Nat->Prop}{n i j:Nat}(M:i<(c0 P n).length)(aj:j<(c0 P n).length)(h:(c0 P n).getD i 0=(c0 P n).getD j 0):i=j:=by
 have aK:(c0 P n).Pairwise (·≠·):=List.Pairwise.filter _ List.nodup_range;rw[List.pairwise_iff_getElem] at aK;rw[en,en,bx M,bx aj] at h;rcases aiN i j with F|F|F
 ·exact absurd h (aK i j M aj F)
 ·exact F
 ·exact absurd h.symm (aK j i aj M F)
structure s0 (d:Day) (f:Nat->Nat) (P:Nat->Prop):Prop where
 ok:d.dj
 ex:∃g,Inv d f g/\iu d f g P (d.fa f P)
theorem s0.good {d:Day}{f:Nat->Nat}{P:Nat->Prop}(h:s0 d f P):Good d f P:=by
 obtain⟨F,g,I,af⟩:=h;exact af.good F I
theorem s0.rO {d:Day}{f:Nat->Nat}{P:Nat->Prop}(h:s0 d f P):∀k,P k->0<d.S k (f k):=by
 obtain⟨F,g,I,af⟩:=h;exact λk Q=>I.rO (af.gC k Q).1 (af.gC k Q).2
theorem s0.gt {d:Day}{f:Nat->Nat}{P:Nat->Prop}(h:s0 d f P):∀k,P k->d.br k (f k)<d.fa f P k:=by
 obtain⟨F,g,I,af⟩:=h;exact af.ge
theorem iu.aiO {d:Day}(aa:d.dj){f:Nat->Nat}{g:Nat->Rat}{P:Nat->Prop}{h:Nat->Rat}(M:Inv d f g)(aE:iu d f g P h){c:dM}(G:c∈d.cO):0<=d.l f P h c/\d.l f P h c<=c.am:=by
 have al:=aa.am c G
 by_cases F:c.bm<f c.az
 ·rw[Day.aht F];exact⟨al,gd⟩
 ·by_cases I:c.bm=f c.az/\P c.az
  ·rw[Day.ahu I.1 I.2];have aA:=aE.ge _ I.2;have aC:=aE.le _ (aa.az c G);have bZ:=M.M _ (aa.az c G) (aE.gC _ I.2).2;rw[d.p2] at bZ;rw[I.1];exact⟨ui (aa.pq G) (by grind),aa.Qp G (by rw[I.1];grind)⟩
  ·rw[Day.YQ F I];exact⟨gd,al⟩
theorem s0.range {d:Day}{f:Nat->Nat}{P:Nat->Prop}(h:s0 d f P){i:Nat}(M:i<d.n):0<=d.fa f P i/\d.fa f P i<=d.e1 (λc=>c.am) i:=by
 obtain⟨F,g,I,af⟩:=h;rw[af.sys i M];exact⟨F.YU (λc G=>(af.aiO F I G).1) M,d.Eu (λc G=>(af.aiO F I G).2) i⟩
theorem awW {E:List Int}{cs:List ao}(U:e2 E cs)(i:Nat):(aB E cs).e1 (λc=>c.am) i<=((2^54:Nat):Rat):=by
 have e:(aB E cs).e1 (λc=>c.am) i=((E.getD i 0+cP cs (λc=>if c.2.1=(i:Int) then c.2.2.2 else 0):Int):Rat):=by
  unfold Day.e1;rw[vJ]
  congr 1
  refine (Qu cs _ (λc=>if c.to=(i:Int) then c.am else 0) λc G=>?_).symm;show ((if c.2.1=(i:Int) then c.2.2.2 else 0:Int):Rat)=if c.2.1=(i:Int) then (c.2.2.2:Rat) else 0
  split<;>rfl
 rw[e];have F:=U.E i;have I:=U.sum λc=>c.2.1=(i:Int)
 have:E.getD i 0+cP cs (λc=>if c.2.1=(i:Int) then c.2.2.2 else 0)<=((2^54:Nat):Int):=by omega
 rw[<-ob];exact_mod_cast this
theorem Day.dj.awX {d:Day}(aa:d.dj)(f:Nat->Nat)(k i:Nat):0<=d.W f k i:=xj λc G=>by
 split
 ·exact aa.pq G
 ·exact gd
theorem awY {n t:Nat}{T:Nat->Rat}(h:∀k,k<n->0<=T k)(bD:t<=n):bE t T<=bE n T:=by
 induction n with
 |zero=>rw[show t=0 by omega];exact gd
 |succ n ax =>
  by_cases aiP:t=n+1
  ·rw[aiP];exact gd
  ·have F:=ax (λk Q=>h k (by omega)) (by omega);have I:=h n (by omega);rw[bE];grind
theorem awZ {N t bj a e:Nat}{s:Rat}{T:Nat->Rat}(mW:0<bj)(Ma:bj<=2^a)(qL:0<=s)(JS:fb bj s)(Zv:∀k,k<N->0<=T k)(aiQ:∀k,k<N->fb bj (T k))(O:s+bE N T<=((2^e:Nat):Rat))(bD:t<=N):dT (a+e) (s+bE t T)/\∀k,k<N->dT (a+e) (T k):=by
 have F:∀t,t<=N->0<=bE t T/\bE t T<=bE N T:=λt bD=>⟨YN λk Q=>Zv k (by omega),awY Zv bD⟩;refine⟨(JS.add (fb.bE λk Q=>aiQ k (by omega))).sz mW Ma (by have:=(F t bD).1;grind) (by have:=(F t bD).2;grind),λk Q=>(aiQ k Q).sz mW Ma (Zv k Q) ?_⟩;have I:=(F k (by omega)).1;have af:=(F (k+1) (by omega)).2;rw[bE] at af;grind
section
variable {E:List Int} {cs:List ao} (U:e2 E cs) {f:Nat->Nat} {P:Nat->Prop} (aE:s0 (aB E cs) f P)
include U aE
theorem QL {i:Nat}(M:i<D E):0<=(aB E cs).fa f P i/\(aB E cs).fa f P i<=((2^54:Nat):Rat):=by
 have h:=aE.range (d:=aB E cs) M;exact⟨h.1,vI h.2 (awW U i)⟩
theorem aiR:∃bj:Nat,0<bj/\(∃a,a<=330/\bj<=2^a)/\∀i,i<(D E)->fb bj ((aB E cs).fa f P i):=by
 obtain⟨bj,F,I,af⟩:=aiu (N:=D E) aE.good.aiy (awP U aE.rO) ((aiw aE.ok f P _).2 aE.good.fa);have aK:=U.n5;exact⟨bj,F,⟨_,by omega,I⟩,af⟩
theorem aiS {i:Nat}(M:i<D E):dT 428 ((aB E cs).fa f P i):=by
 obtain⟨bj,F,⟨a,al,I⟩,af⟩:=aiR U aE;have aM:=QL U aE M;exact ((af i M).sz F I aM.1 aM.2).mono (by omega)
theorem aw0:qS (rowsOf (c0 P (D E)).length ((aB E cs).uw f (c0 P (D E)))) (c0 P (D E)).length=(dF (c0 P (D E)).length (λk=>(aB E cs).fa f P ((c0 P (D E)).getD k 0)-(aB E cs).br ((c0 P (D E)).getD k 0) (f ((c0 P (D E)).getD k 0))),0)/\n3 (rowsOf (c0 P (D E)).length ((aB E cs).uw f (c0 P (D E)))) (c0 P (D E)).length=true:=by
 have hlen:(c0 P (D E)).length<=6:=by
  have:=od (λi=>decide (P i)) (dP (D E));rw[ss] at this;have:=U.n5;unfold c0;omega
 have:=awT hlen (Zt U aE.rO _ (λk Q=>⟨(xo Q).2,(xo Q).1⟩) λi j M aj=>Zu M aj) aE.good.small aE.good.aiA;exact⟨this.1,this.2.1⟩
theorem aw1:∃bj:Nat,0<bj/\(∃a,a<=330/\bj<=2^a)/\∀k,k<(c0 P (D E)).length->fb bj ((aB E cs).fa f P ((c0 P (D E)).getD k 0)-(aB E cs).br ((c0 P (D E)).getD k 0) (f ((c0 P (D E)).getD k 0))):=by
 have hlen:(c0 P (D E)).length<=6:=by
  have:=od (λi=>decide (P i)) (dP (D E));rw[ss] at this;have:=U.n5;unfold c0;omega
 have CC:c0 P (aB E cs).n=c0 P (D E):=rfl;have aiT:=aE.good.aiA;have xp:=aE.good.small;rw[CC] at aiT xp;obtain⟨bj,F,I,af⟩:=aiu xp (Zt U aE.rO _ (λk Q=>⟨(xo Q).2,(xo Q).1⟩) λi j M aj=>Zu M aj) aiT;exact⟨bj,F,⟨_,by omega,I⟩,af⟩
theorem QM {k:Nat}(Q:P k)(i:Nat):dT 54 ((aB E cs).W f k i)/\fb (h4 cs k (f k)) ((aB E cs).W f k i):=by
 have e:=aiH U aE.rO Q i;have al:=QK U aE.rO Q;have F:=U.EB k (f k);have I:=U.sum λc=>c.2.1=(i:Int)/\c.1=(k:Int)/\c.2.2.1=(f k:Int)
 obtain⟨f1,f2⟩:=Cz (q:=(aB E cs).W f k i) (v:=pw cs f k i) (d:=(h4 cs k (f k):Int)) (by omega) (by rw[<-e,ob,ur]);rw[mC] at f2;refine⟨⟨eP f1 (by unfold pw;omega),eP f2 (by omega)⟩,pw cs f k i,by rw[<-e,ur]⟩
theorem aw2 {i t:Nat}(M:i<D E)(bD:t<=(c0 P (D E)).length):
  dT 708 ((aB E cs).st f i+bE t λk=>(aB E cs).W f ((c0 P (D E)).getD k 0) i*((aB E cs).fa f P ((c0 P (D E)).getD k 0)-(aB E cs).br ((c0 P (D E)).getD k 0) (f ((c0 P (D E)).getD k 0)))) /\
  (∀k,k<(c0 P (D E)).length->dT 438 ((aB E cs).W f ((c0 P (D E)).getD k 0) i*((aB E cs).fa f P ((c0 P (D E)).getD k 0)-(aB E cs).br ((c0 P (D E)).getD k 0) (f ((c0 P (D E)).getD k 0))))) /\
  ∀k,k<(c0 P (D E)).length->dT 384 ((aB E cs).fa f P ((c0 P (D E)).getD k 0)-(aB E cs).br ((c0 P (D E)).getD k 0) (f ((c0 P (D E)).getD k 0))):=by
 have hlen:(c0 P (D E)).length<=6:=by
  have:=od (λi=>decide (P i)) (dP (D E));rw[ss] at this;have:=U.n5;unfold c0;omega
 obtain⟨bj,dx,⟨a,lp,cM⟩,nX⟩:=aw1 U aE;have fZ:∀k,k<(c0 P (D E)).length->(c0 P (D E)).getD k 0<D E/\P ((c0 P (D E)).getD k 0):=λk Q=>xo Q;have QN:=aE.good.aiB (d:=aB E cs) M;have CC:c0 P (aB E cs).n=c0 P (D E):=rfl;rw[CC] at QN;generalize px:c0 P (D E)=p at *
 have aiU:∀k,k<(D p)->0<=(aB E cs).fa f P (p.getD k 0)-(aB E cs).br (p.getD k 0) (f (p.getD k 0)):=λk Q=>by
  have:=aE.gt _ (fZ k Q).2;grind
 have aw3:∀k,k<(D p)->(aB E cs).fa f P (p.getD k 0)-(aB E cs).br (p.getD k 0) (f (p.getD k 0))<=((2^54:Nat):Rat):=λk Q=>by
  have F:=(QL U aE (fZ k Q).1).2;have I:=aE.ok.avG (p.getD k 0) (f (p.getD k 0));grind
 have aw4:0<iG (D p) λk=>h4 cs (p.getD k 0) (f (p.getD k 0)):=ahJ λk Q=>QK U aE.rO (fZ k Q).2;obtain⟨eR,hq⟩:∃eR,eR=324:=⟨_,rfl⟩;have o3:(iG (D p) λk=>h4 cs (p.getD k 0) (f (p.getD k 0)))<=2^eR:=aiE (e:=eR) (λk _=>U.EB _ _) (by omega);have dy:=Mb U.right f i;have QO:=U.steady f i;have Zw:0<=(aB E cs).st f i:=by rw[<-dy];exact_mod_cast QO.1
 have ab:=(QL U aE M).2;rw[QN] at ab
 have aw5:(iG (D p) λk=>h4 cs (p.getD k 0) (f (p.getD k 0)))*bj<=2^(eR+a):=by
  rw[vK];exact oS o3 cM
 have aw6:=awZ (T:=λk=>(aB E cs).W f (p.getD k 0) i*((aB E cs).fa f P (p.getD k 0)-(aB E cs).br (p.getD k 0) (f (p.getD k 0)))) (L1 aw4 dx) aw5 Zw (by rw[<-dy];exact fb.int _ _) (λk Q=>ui (aE.ok.awX f _ _) (aiU k Q)) (λk Q=>((QM U aE (fZ k Q).2 i).2.of_dvd (ahK (cb:=λk=>h4 cs (p.getD k 0) (f (p.getD k 0))) Q)).mul (nX k Q)) ab bD;have hex:∀k,k<(D p)->dT 384 ((aB E cs).fa f P (p.getD k 0)-(aB E cs).br (p.getD k 0) (f (p.getD k 0))):=λk Q=>((nX k Q).sz dx cM (aiU k Q) (aw3 k Q)).mono (by omega);exact⟨aw6.1.mono (by omega),λk Q=>(L5 (QM U aE (fZ k Q).2 i).1 (hex k Q)).mono (by omega),hex⟩
end
end Go.Mini
namespace Go.Mini
open Go
def Zx:bT:=cn 27 2 [.t 4] (X [cH 4 false] (.seq (X [H 6 0,cm 7 6,H 8 1,cm 9 8,bB 10 .neq 7 9] (a7 10 (X [cH 4 false] .ret) .skip)) (.seq (X [bA 5 0] (.block 0 (.loop  (.seq (X [H 11 5,H 12 0,cm 13 12,bB 14 .lss 11 13] (a7 14 .skip (.exit 0))) (.seq (.block 1 (ga [H 17 0,H 18 5,b2 19 4 17 18,bw 20 4 19,H 21 1,H 22 5,b2 23 4 21 22,bw 24 4 23,(cE 25 TU 20 24),fs 26 25] Gj (a7 26 (X [cH 4 false] .ret) .skip))) (.ops [H 15 5,bn 16 .add 15 1,H 5 16])))))) (X [cH 4 true] .ret))))
def Zy:bT:=cn 49 2 [.t 4,.t 5] (X [bA 4 0,cH 5 false] (.seq (X [H 9 0,(dX 10 Kp 9),fs 11 10,H 12 11,⟨some 13,some (12,false),.cQ (.t 1)⟩,⟨some 14,some (12,false),.len (.t 13)⟩,⟨some 15,some (12,false),.cQ (.t 0)⟩,⟨some 16,some (12,false),.len (.t 15)⟩,⟨some 17,some (12,false),.bin .neq (.t 14) (.t 16)⟩,eu 18 12 17] (a7 18 (X [bA 4 0,cH 5 false] .ret) .skip)) (X [bA 6 10] (.seq (X [H 19 0,cm 20 19,bA 21 0] (.block 0 (.loop  (X [bB 22 .lss 21 20] (.seq (a7 22 .skip (.exit 0)) (.seq (.block 1 (X [H 23 21,b2 24 4 19 21,bw 25 4 24,(aD 8 (.alloc 225008 [(au 0),(au 0),(au 0),(au 0)])),H 7 23,bu 4 8 25] (.seq (X [H 26 1,H 27 7,b2 28 4 26 27,bw 29 4 28,(dX 30 lT 29),fs 31 30] (a7 31 (X [bA 4 0,cH 5 false] .ret) .skip)) (ga [H 32 1,H 33 7,b2 34 4 32 33,bw 35 4 34,bl 36 3 8,aU 37 1 36,(dX 38 vd 37),(cE 39 oI 35 38),bn 40 .lss 39 0] DI (a7 40 (.ops [H 41 6,bl 42 2 8,aU 43 1 42,(aD 44 (.iJ false (.t 41) (.t 43))),H 6 44]) .skip))))) (.ops [bn 45 .add 21 1,H 21 45]))))))) (.seq (X [H 46 6,bn 47 .eql 46 10] (a7 47 (X [bA 4 0,cH 5 false] .ret) .skip)) (X [H 48 6,H 4 48,cH 5 true] .ret))))))
def Zz:bT:=cn 46 1 [.t 2] (X [cH 2 false] (.seq (X [H 5 0,cm 6 5,bA 7 0] (.block 0 (.loop  (X [bB 8 .lss 7 6] (.seq (a7 8 .skip (.exit 0)) (.seq (.block 1 (X [b2 9 4 5 7,bw 10 4 9,(aD 4 (.alloc 240004 [(au 0),(au 0),(au 0),(au 0)])),bu 4 4 10] (ga [bl 11 0 4,aU 12 1 11,(aD 13 (.call Gg [(.t 12),(.c (au 0)),(.c (au 59))])),fs 14 13,H 15 14,⟨some 16,some (15,false),.dQ 1 (.t 4)⟩,⟨some 17,some (15,false),.load 1 false (.t 16)⟩,⟨some 18,some (15,false),.call Gg [(.t 17),(.c (.J (.int .i64 (-1)))),(.c (au 59))]⟩,⟨some 19,some (15,false),.un .not (.t 18)⟩,eu 20 15 19,H 21 20,⟨some 22,some (21,false),.dQ 2 (.t 4)⟩,⟨some 23,some (21,false),.load 1 false (.t 22)⟩,⟨some 24,some (21,false),.call Gg [(.t 23),(.c (au 0)),(.c (au 9))]⟩,⟨some 25,some (21,false),.un .not (.t 24)⟩,eu 26 21 25,H 27 26,⟨some 28,some (27,false),.dQ 3 (.t 4)⟩,⟨some 29,some (27,false),.load 1 false (.t 28)⟩,⟨some 30,some (27,false),.call Gg [(.t 29),(.c (au 0)),(.c (au 1000000000000000))]⟩,⟨some 31,some (27,false),.un .not (.t 30)⟩,eu 32 27 31,H 33 32,⟨some 34,some (33,false),.dQ 0 (.t 4)⟩,⟨some 35,some (33,false),.load 1 false (.t 34)⟩,⟨some 36,some (33,false),.cQ (.t 0)⟩,⟨some 37,some (33,false),.m8 4 (.t 36) (.c (au 0))⟩,⟨some 38,some (33,false),.dQ 0 (.t 37)⟩,⟨some 39,some (33,false),.load 1 false (.t 38)⟩,⟨some 40,some (33,false),.bin .neq (.t 35) (.t 39)⟩,eu 41 33 40] [[],[],[],[],[],[],[],[],[],[],[],[],[],[],[],[],[],[],[],[],[],[],[],[],[],[],[],[],[],[],[]] (a7 41 (X [cH 2 false] .ret) .skip)))) (.ops [bn 42 .add 7 1,H 7 42]))))))) (X [H 43 0,cm 44 43,bn 45 .leq 44 2000,H 2 45] .ret)))
def ZA:bT:=cn 11 1 [.cell 2 4 true] (X [(aD 2 (.alloc 241002 [(au 0),.nil,(au 0),.nil]))] (X [H 6 0,(aD 7 (.call zB [(.t 6),(.c (au 1))])),H 5 7,bN 8 0 5,bN 9 1 5,(aD 3 (.alloc 241003 [(au 0),.nil,(au 0),.nil])),bu 4 3 8,H 4 9] (X [bw 10 4 3,bu 4 2 10] .ret)))
def ED:bT:=cn 118 2 [.t 4,.t 5] (X [dH 2 249002 0,eM 4,bA 5 0] (.seq (ga [bw 19 4 2,(dX 20 lT 19),fs 21 20,H 22 21,⟨some 23,some (22,false),.load 4 true (.t 2)⟩,⟨some 24,some (22,false),.call vd [(.c (au 0))]⟩,⟨some 25,some (22,false),.call oI [(.t 23),(.t 24)]⟩,⟨some 26,some (22,false),.bin .lss (.t 25) (.c (au 0))⟩,eu 27 22 26,H 28 27,⟨some 29,some (28,false),.cQ (.t 1)⟩,⟨some 30,some (28,false),.call Kp [(.t 29)]⟩,⟨some 31,some (28,false),.un .not (.t 30)⟩,eu 32 28 31] Kz (a7 32 (X [eM 4,bA 5 1] .ret) .skip)) (X [H 33 1,cm 34 33,(aD 35 (.mc 249035 [(au 0),.nil,(au 0),.nil] 64 (.t 34) (.t 34))),H 6 35] (X [bw 36 4 2,(aD 7 (.alloc 249007 [(au 0),.nil,(au 0),.nil])),bu 4 7 36] (.seq (X [bA 37 0] (.block 0 (.loop  (X [bn 38 .lss 37 10] (.seq (a7 38 .skip (.exit 0)) (.seq (.block 1 (X [H 39 37,H 8 39] (X [bA 9 0] (.seq (X [H 40 1,cm 41 40,bA 42 0] (.block 2 (.loop  (X [bB 43 .lss 42 41] (.seq (a7 43 .skip (.exit 2)) (.seq (.block 3 (X [b2 44 4 40 42,bw 45 4 44,(aD 11 (.alloc 249011 [(au 0),(au 0),(au 0),(au 0)])),bu 4 11 45] (X [bl 46 2 11,aU 47 1 46,H 48 8,bB 49 .eql 47 48] (a7 49 (.ops [H 50 9,bl 51 3 11,aU 52 1 51,bB 53 .add 50 52,H 9 53]) .skip)))) (.ops [bn 54 .add 42 1,H 42 54]))))))) (ga [bw 55 4 7,H 56 9,(dX 57 vd 56),(cE 58 oI 55 57),bn 59 .geq 58 0,H 12 59] aey (.seq (X [H 60 1,cm 61 60,bA 62 0] (.block 4 (.loop  (X [bB 63 .lss 62 61] (.seq (a7 63 .skip (.exit 4)) (.seq (.block 5 (X [H 64 62,b2 65 4 60 62,bw 66 4 65,(aD 14 (.alloc 249014 [(au 0),(au 0),(au 0),(au 0)])),H 13 64,bu 4 14 66] (.seq (X [bl 67 2 14,aU 68 1 67,H 69 8,bB 70 .neq 68 69] (a7 70 (.exit 5) .skip)) (X [H 71 6,H 72 13,bl 73 3 14,aU 74 1 73,(dX 75 vd 74),b2 76 4 71 72,bu 4 76 75] (.seq (X [H 77 12] (a7 77 (.exit 5) .skip)) (ga [bl 79 3 14,aU 80 1 79,(dX 81 vd 80),bw 82 4 7,(cE 83 wE 81 82),H 78 83,bN 84 0 78,bN 85 1 78,(aD 15 (.alloc 249015 [(au 0),.nil,(au 0),.nil])),bu 4 15 84,H 16 85] [[],[],[],[],[],[],[],[],[1,3],[],[]] (.seq (X [H 86 16,bn 87 .eql 86 0] (a7 87 (.nK [H 89 6,H 90 13,bw 91 4 15,H 92 9,(dX 93 vd 92),(cE 94 Dy 91 93),H 88 94,bN 95 0 88,bN 96 1 88,b2 97 4 89 90,bu 4 97 95,H 16 96] aez) .skip)) (X [H 98 16,bn 99 .neq 98 0] (a7 99 (X [H 100 16,eM 4,H 5 100] .ret) .skip))))))))) (.ops [bn 101 .add 62 1,H 62 101]))))))) (.seq (X [H 102 12,fs 103 102] (a7 103 (X [(aD 104 (.call vd [(.c (au 0))])),bu 4 7 104] (.exit 1)) .skip)) (ga [bw 106 4 7,H 107 9,(dX 108 vd 107),(cE 109 yc 106 108),H 105 109,bN 110 0 105,bN 111 1 105,(aD 17 (.alloc 249017 [(au 0),.nil,(au 0),.nil])),bu 4 17 110,H 18 111] [[],[],[],[],[],[],[],[0],[],[]] (.seq (X [H 112 18,bn 113 .neq 112 0] (a7 113 (X [H 114 18,eM 4,H 5 114] .ret) .skip)) (.ops [bw 115 4 17,bu 4 7 115])))))))))) (.ops [bn 116 .add 37 1,H 37 116]))))))) (.seq (.ghost (.freeze 6) (.ops [H 117 6,H 4 117,bA 5 0])) .ret))))))
def ZB:bT:=cn 15 3 [.t 6] (X [cH 6 false] (X [H 7 0,H 8 1,bB 9 .geq 7 8,H 10 9,⟨some 11,some (10,true),.cQ (.t 0)⟩,⟨some 12,some (10,true),.cQ (.t 2)⟩,⟨some 13,some (10,true),.bin .leq (.t 11) (.t 12)⟩,gH 14 10 13,H 6 14] .ret))


def cx (c:ao):List Data:=[.int .i64 c.1,.int .i64 c.2.1,.int .i64 c.2.2.1,.int .i64 c.2.2.2]
theorem EE (c:ao):(cx c).length=4:=rfl
theorem ZC (c:ao):((cx c).map R.J).all R.one=true:=rfl
theorem s3:∀a b:ao,cx a=cx b->a=b:=by
 rintro⟨cU,de,a3,a4⟩ ⟨df,eD,j3,l2⟩ h;simp only[cx,bb,Data.int.injEq,true_and,and_true] at h;obtain⟨rfl,rfl,rfl,rfl⟩:=h
 rfl
theorem aw7 {cs:List ao}{i:Nat}{c:ao}(h:cs[i]?=some c)(aO:ao->Int):cP (cs.take (i+1)) aO=cP (cs.take i) aO+aO c:=by
 rw[g1,h,LW];simp[cP]
def HV (cs:List ao):Prop:=D cs<=2000/\∀c∈cs,0<=c.2.2.2/\c.2.2.2<=1000000000000000
theorem HV.sum {cs:List ao}(h:HV cs)(p:ao->Prop)[DecidablePred p](i:Nat):0<=cP (cs.take i) (λc=>if p c then c.2.2.2 else 0)/\cP (cs.take i) (λc=>if p c then c.2.2.2 else 0)<=2000000000000000000:=by
 have F:=Qv (cs:=cs.take i) (aO:=λc=>if p c then c.2.2.2 else 0) (B:=1000000000000000) (by omega) λc G=>by
  have:=h.2 c (List.mem_of_mem_take G)
  try dsimp only
  split<;>omega
 have I:=h.1;have af:(cs.take i).length<=D cs:=by rw[fR];omega
 omega
theorem aiV {E:List Int}{cs:List ao}(h:iF E cs=true):HV cs :=
 ⟨(hy.1 h).2.1,λc G=>⟨((hy.1 h).2.2.2 c G).2.2.2.2.2.2.1,((hy.1 h).2.2.2 c G).2.2.2.2.2.2.2⟩⟩
theorem QP {n:Int}(h:dB n):ht (bO n) (bO 1)=(av (n:Rat),0):=by
 rw[zX (yt h) (by decide +kernel) (by decide),L4,show ((1:Int):Rat)=1 from rfl,show (n:Rat)/1=n by grind]
def vO:=cp wJ λ(n:Int)=>cV (dB n) (.same (.agg (aH (av (n:Rat)))))
@[go_sem] theorem CF (n:Int)(G:dB n):vO [.int .i64 n]=some (.same (.agg (aH (av (n:Rat))))):=(cA zF n).trans (cY G _)
theorem aw8 (T:bh)(l3:T zB=aV Eb)(n:Int)(G:dB n):WP T WK (.same (.agg (aH (av (n:Rat))))) [.J (.int .i64 n)]:=by
 refine cB ?_;simp only[WK];have F:dB 1:=by unfold dB;omega
 have h:=QP G;generalize av (n:Rat)=aO at *;obtain⟨⟨a,b⟩,⟨c,d⟩⟩:=aO;simp only[go_sem,go_sem_proc,l3,G,F,h,eG,aH];repeat' (first|refine aw ?_ ?_|fail)<;>intro h<;>simp only[h,go_sem,go_sem_proc,l3,G,F,h,eG,aH]
def HW:=cp wJ λ(n:Int)=>cV (dB n) (.same (.agg (aH (av (n:Rat)))))
@[go_sem] theorem aw9 (n:Int)(G:dB n):HW [.int .i64 n]=some (.same (.agg (aH (av (n:Rat))))):=(cA zF n).trans (cY G _)
theorem axa (T:bh)(l3:T zB=aV Eb)(n:Int)(G:dB n):WP T ZA (.same (.agg (aH (av (n:Rat))))) [.J (.int .i64 n)]:=by
 refine cB ?_;simp only[ZA];have F:dB 1:=by unfold dB;omega
 have h:=QP G;generalize av (n:Rat)=aO at *;obtain⟨⟨a,b⟩,⟨c,d⟩⟩:=aO;simp only[go_sem,go_sem_proc,l3,G,F,h,eG,aH];repeat' (first|refine aw ?_ ?_|fail)<;>intro h<;>simp only[h,go_sem,go_sem_proc,l3,G,F,h,eG,aH]
theorem axb {x:List Data}(h:Fits [.int .i64,.int .i64,.int .i64,.int .i64] x):∃c:ao,x=cx c:=by
 simp only[Fit,Fits] at h;obtain⟨_,_,rfl,⟨a,rfl,-⟩,_,_,rfl,⟨b,rfl,-⟩,_,_,rfl,⟨c,rfl,-⟩,_,_,rfl,⟨d,rfl,-⟩,rfl⟩:=h;exact⟨(a,b,c,d),rfl⟩
theorem axc {es:List (List Data)}(h:∀x∈es,Fit (.st [.int .i64,.int .i64,.int .i64,.int .i64]) x):∃l:List ao,es=l.map cx:=by
 obtain⟨l,e,-⟩:=Kc (e:=cx) (good:=λ_=>True) λx O=>by
  have:=h x O;unfold Fit at this;obtain⟨c,rfl⟩:=axb this;exact⟨c,rfl,trivial⟩
 exact⟨l,e⟩
end Go.Mini
namespace Go.Mini
open Classical
structure Alike (d e:Day):Prop where
 n:d.n=e.n
 E:d.E=e.E
 mem:∀c,c∈d.cO↔c∈e.cO
 sum:∀aO,b5 d.cO aO=b5 e.cO aO
theorem Alike.symm {d e:Day}(h:Alike d e):Alike e d:=⟨h.n.symm,h.E.symm,λc=>(h.mem c).symm,λaO=>(h.sum aO).symm⟩
section
variable {d e:Day} (h:Alike d e)
include h
theorem Alike.br:d.br=e.br:=by funext k r;exact h.sum _
theorem Alike.S:d.S=e.S:=by funext k r;exact h.sum _
theorem Alike.w:d.w=e.w:=by funext c;unfold Day.w;rw[h.S]
theorem Alike.q:d.q=e.q:=by funext f x c;unfold Day.q;rw[h.br,h.w]
theorem Alike.l:d.l=e.l:=by funext f P x c;unfold Day.l;rw[h.br,h.w]
theorem Alike.ez:d.ez=e.ez:=by funext x c;unfold Day.ez;rw[h.br,h.w]
theorem Alike.e1:d.e1=e.e1:=by funext a i;unfold Day.e1;rw[h.E,h.sum]
theorem Alike.p5:d.p5=e.p5:=by funext x i;unfold Day.p5;rw[h.e1,h.ez]
theorem Alike.fx:d.fx=e.fx:=by funext C x;unfold Day.fx;rw[h.n]
theorem Alike.cap:d.cap=e.cap:=by funext f g C k;unfold Day.cap;rw[h.br]
theorem Alike.closed (f:Nat->Nat)(C:Nat->Prop):d.closed f C↔e.closed f C:=by
 unfold Day.closed;exact⟨λk c G=>k c ((h.mem c).2 G),λk c G=>k c ((h.mem c).1 G)⟩
theorem Alike.inv {f:Nat->Nat}{g:Nat->Rat}(a:Inv d f g):Inv e f g:=by
 obtain⟨F,I,af,aM,bk⟩:=a;refine⟨F,λi M=>?_,λi M aF=>?_,λi M aF=>?_,λC fN axd axe=>?_⟩
 ·have:=I i (by rw[h.n];exact M);rwa [h.e1,h.q] at this
 ·have:=af i (by rw[h.n];exact M) aF;rwa [h.br] at this
 ·have:=aM i (by rw[h.n];exact M) aF;rwa [h.br] at this
 ·have:=bk C fN (λi M=>by rw[h.n];exact axd i M) ((h.closed f C).2 axe);rwa [h.fx,h.e1,h.q,h.cap,h.br] at this
theorem Alike.ok (a:d.dj):e.dj:=⟨λc G=>by rw[<-h.n];exact a.az c ((h.mem c).2 G),λc G=>by rw[<-h.n];exact a.to c ((h.mem c).2 G),λc G=>a.bm c ((h.mem c).2 G),λc G=>a.am c ((h.mem c).2 G),λi M=>by rw[<-h.E];exact a.E i (by rw[h.n];exact M)⟩
theorem Alike.aiW {f:Nat->Nat}{x:Nat->Rat}(a:nv d f x):nv e f x:=by
 obtain⟨g,F,I,af⟩:=a;refine⟨g,h.inv F,λi M=>?_,λi M=>af i (by rw[h.n];exact M)⟩;have:=I i (by rw[h.n];exact M);rwa [h.e1,h.q] at this
theorem Alike.axf:nv d=nv e:=by
 funext f x
 exact propext ⟨h.aiW,h.symm.aiW⟩
theorem Alike.top:d.top=e.top:=by
 funext f
 unfold Day.top;rw[h.axf]
theorem Alike.h3:d.h3=e.h3:=by
 funext f
 unfold Day.h3;rw[h.top,h.br,h.n]
theorem Alike.jA:d.jA=e.jA:=by
 funext x i k
 induction k with
 |zero=>rfl
 |succ k ax=>unfold Day.jA;rw[h.br,ax]
theorem Alike.gC:d.gC=e.gC:=by
 funext f x i
 unfold Day.gC;rw[h.n,h.br,h.jA]
theorem Alike.rounds:d.rounds=e.rounds:=by
 funext k
 induction k with
 |zero=>funext f;rfl
 |succ k ax =>
  funext f
  unfold Day.rounds;rw[h.h3,h.gC,h.top,ax]
end
def dh (cs:List ao)(i k:Nat):List ao:=cs.filter λc=>c.1==(i:Int)&&c.2.2.1==(k:Int)
theorem EF {cs:List ao}{i k:Nat}{c:ao}:c∈dh cs i k↔c∈cs/\c.1=(i:Int)/\c.2.2.1=(k:Int):=by
 unfold dh;rw[rP,ec,beq_iff_eq,beq_iff_eq]
def dw (n:Nat)(cs:List ao):List ao:=(dP n).flatMap λi=>(dP 10).flatMap λk=>dh cs i k
theorem axg (cs:List ao)(i k j r:Nat):dh (dh cs i k) j r=if i=j/\k=r then dh cs i k else []:=by
 unfold dh;rw[List.filter_filter]
 by_cases h:i=j/\k=r
 ·obtain⟨rfl,rfl⟩:=h;rw[ad ⟨rfl,rfl⟩]
  congr 1
  funext c
  simp
 ·rw[ae h,HX];intro c _;simp only[ec,beq_iff_eq];rintro⟨⟨F,I⟩,af,aM⟩;exact h ⟨by omega,by omega⟩
theorem aiX {α:Type}{n i:Nat}(M:i<n)(aO:Nat->List α)(h:∀k,k<n->k≠i->aO k=[]):(dP n).flatMap aO=aO i:=by
 induction n with
 |zero=>omega
 |succ n ax =>
  rw[nx,yJ,qA,CG,fJ]
  by_cases aK:i=n
  ·subst aK
   have:(dP i).flatMap aO=[]:=by
    rw[aiY];intro k Q;have:=gV.1 Q;exact h k (by omega) (by omega)
   rw[this,jg]
  ·rw[ax (by omega) λk Q=>h k (by omega),h n (by omega) (Ne.symm aK),fJ]
theorem aiZ {α:Type}(l:List α)(aO:α->List ao)(i k:Nat):dh (l.flatMap aO) i k=l.flatMap λx=>dh (aO x) i k:=by
 unfold dh
 induction l with
 |nil=>rfl
 |cons a l ax=>rw[qA,qA,rT,ax]
theorem ai0 {n i k:Nat}(cs:List ao)(M:i<n)(Q:k<10):dh (dw n cs) i k=dh cs i k:=by
 unfold dw;rw[aiZ];simp only[aiZ,axg];rw[aiX M,aiX Q]
 ·rw[ad ⟨rfl,rfl⟩]
 ·intro r _ ab;rw[ae λh=>ab h.2]
 ·intro j _ aj;rw[aiY];intro r _;rw[ae λh=>aj h.1]
theorem ai1 {n:Nat}{a b:List ao}(h:∀i,i<n->∀k,k<10->dh a i k=dh b i k):dw n a=dw n b:=by
 unfold dw;rw[yK,yK]
 congr 1
 refine jM λi M=>?_;rw[yK,yK]
 congr 1
 exact jM λk Q=>h i (gV.1 M) k (gV.1 Q)
theorem axh (n:Nat)(cs:List ao):dw n (dw n cs)=dw n cs:=ai1 λ_ M _ Q=>ai0 cs M Q
theorem ZD {n:Nat}{cs:List ao}(ab:∀c∈cs,0<=c.1/\c.1<n/\0<=c.2.2.1/\c.2.2.1<10){c:ao}:c∈dw n cs↔c∈cs:=by
 unfold dw;simp only[x1,gV,EF]
 constructor
 ·rintro⟨i,-,k,-,h,-⟩;exact h
 ·intro G;have:=ab c G;exact⟨c.1.toNat,by omega,c.2.2.1.toNat,by omega,G,by omega,by omega⟩
theorem HY (a b:List dM)(aO:dM->Rat):b5 (a++b) aO=b5 a aO+b5 b aO:=by
 induction a with
 |nil=>simp only[jg,b5];grind
 |cons c l ax=>rw[jO,b5,b5,ax];grind
theorem ai2 (aO:Nat->List ao)(bM:dM->Rat)(n:Nat):b5 (((dP n).flatMap aO).map cv) bM=bE n λi=>b5 ((aO i).map cv) bM:=by
 induction n with
 |zero=>rfl
 |succ n ax=>rw[nx,yJ,kI,HY,ax,bE,qA,CG,fJ]
theorem axi {l:List dM}(aq:∀c∈l,c.bm<10)(b:Nat->dM->Rat):bE 10 (λk=>b5 l (λc=>if c.bm=k then b k c else 0))=b5 l (λc=>b c.bm c):=by
 induction l with
 |nil=>exact sT λk _=>rfl
 |cons c l ax =>
  rw[b5,<-ax λx O=>aq x (gX _ O)];have e:(λk:Nat=>b5 (c::l) (λc=>if c.bm=k then b k c else 0))=λk=>(if c.bm=k then b k c else 0)+b5 l (λc=>if c.bm=k then b k c else 0):=rfl;rw[e,vH]
  congr 1
  rw[xi (aq c gn) λk _ Q=>ae (Ne.symm Q),ad rfl]
theorem ZE {cs:List ao}(ab:∀c∈cs,0<=c.1/\0<=c.2.2.1)(i k:Nat)(bM:dM->Rat):b5 ((dh cs i k).map cv) bM=b5 (cs.map cv) λc=>if c.az=i/\c.bm=k then bM c else 0:=by
 induction cs with
 |nil=>rfl
 |cons c l ax =>
  have al:=ab c gn;have ax:=ax λx O=>ab x (gX _ O);unfold dh at ax ⊢;rw[eE,b5,<-ax]
  by_cases h:(cv c).az=i/\(cv c).bm=k
  ·obtain⟨F,I⟩:=h;have aA:c.1=(i:Int):=by have:c.1.toNat=i:=F;omega
   have aC:c.2.2.1=(k:Int):=by have:c.2.2.1.toNat=k:=I;omega
   rw[ux (by simp[aA,aC]),eE,b5,ad ⟨F,I⟩]
  ·rw[ae h,vP,vM];intro ah;rw[ec,beq_iff_eq,beq_iff_eq] at ah;refine h ⟨?_,?_⟩
   ·show c.1.toNat=i;omega
   ·show c.2.2.1.toNat=k;omega
theorem ai3 {n:Nat}{cs:List ao}(ab:∀c∈cs,0<=c.1/\c.1<n/\0<=c.2.2.1/\c.2.2.1<10)(bM:dM->Rat):b5 ((dw n cs).map cv) bM=b5 (cs.map cv) bM:=by
 unfold dw;rw[ai2]
 have bQ:∀c∈cs.map cv,c.az<n:=λc G=>by
  obtain⟨x,O,rfl⟩:=dS.1 G;have:=ab x O;show x.1.toNat<n;omega
 have hk:∀c∈cs.map cv,c.bm<10:=λc G=>by
  obtain⟨x,O,rfl⟩:=dS.1 G;have:=ab x O;show x.2.2.1.toNat<10;omega
 have e:(λi=>b5 (((dP 10).flatMap λk=>dh cs i k).map cv) bM)=λi=>b5 (cs.map cv) λc=>if c.az=i then bM c else 0:=by
  funext i
  rw[ai2,<-axi hk λ_ c=>if c.az=i then bM c else 0]
  congr 1
  funext k
  rw[ZE λc G=>⟨(ab c G).1,(ab c G).2.2.1⟩];refine po λc _=>?_
  by_cases F:c.bm=k
  ·rw[ad F]
   by_cases I:c.az=i
   ·rw[ad ⟨I,F⟩,ad I]
   ·rw[ae λh=>I h.1,ae I]
  ·rw[ae F,ae λh=>F h.2]
 rw[e,LP bQ λ_ c=>bM c]
theorem ai4 {E:List Int}{cs:List ao}(h:iF E cs=true):Alike (aB E cs) (aB E (dw (D E) cs)):=by
 have ab:∀c∈cs,0<=c.1/\c.1<D E/\0<=c.2.2.1/\c.2.2.1<10:=λc G=>by
  have:=(hy.1 h).2.2.2 c G;exact⟨this.1,this.2.1,this.2.2.2.2.1,this.2.2.2.2.2.1⟩
 refine⟨rfl,rfl,λc=>?_,λaO=>(ai3 ab aO).symm⟩;show c∈cs.map cv↔c∈(dw (D E) cs).map cv;rw[dS,dS];simp only[ZD ab]
theorem ai5 {n:Nat}{cs:List ao}(ab:∀c∈cs,0<=c.1/\c.1<n/\0<=c.2.2.1/\c.2.2.1<10):(dw n cs).length=D cs:=by
 have F:∀l:List ao,b5 (l.map cv) (λ_=>1)=(D l:Rat):=λl=>by
  induction l with
  |nil=>rfl
  |cons a l ax=>rw[eE,b5,ax,hV,Rat.natCast_add,Rat.add_comm];rfl
 have:=ai3 ab λ_=>1;rw[F,F] at this;exact_mod_cast this
theorem ZF {E:List Int}{cs:List ao}(h:e2 E cs):e2 E (dw (D E) cs):=by
 have ih:=hy.1 h.right
 have ab:∀c∈cs,0<=c.1/\c.1<D E/\0<=c.2.2.1/\c.2.2.1<10:=λc G=>by
  have:=ih.2.2.2 c G;exact⟨this.1,this.2.1,this.2.2.2.2.1,this.2.2.2.2.2.1⟩
 refine⟨hy.2 ⟨ih.1,by rw[ai5 ab];exact ih.2.1,ih.2.2.1,λc G=>ih.2.2.2 c ((ZD ab).1 G)⟩,h.n5,by rw[ai5 ab];exact h.sZ,λc G=>h.am c ((ZD ab).1 G)⟩
end Go.Mini
namespace Go.Mini
open Classical
def Day.jq (d:Day):Nat->Nat:=(d.rounds (10*d.n) λ_=>10).2
def Day.iU (d:Day):List (List Nat):=(d.rounds (10*d.n) λ_=>10).1
def Day.cF (d:Day):Nat->Rat:=d.top d.jq
theorem ai6 (n k:Nat):mJ n (λ_=>k)=k*n:=by
 induction n with
 |zero=>rfl
 |succ n ax=>rw[mJ,ax,Nat.mul_succ]
section
variable {d:Day} (aa:d.dj)
include aa
theorem Day.dj.hex:∀f,Reach d f->∃h,nv d f h:=λ_ ab=>awJ aa ab
theorem HZ:Reach d d.jq/\d.h3 d.jq=[]:=ahA aa aa.hex (10*d.n) (λ_=>10) (Reach.start aa) (by rw[ai6];exact bW _)
theorem H0:nv d d.jq d.cF:=Day.Cw (aa.hex _ (HZ aa).1)
theorem QQ:∀i,i<d.n->d.br i (d.jq i)<=d.cF i:=by
 intro i M;apply kn;intro aK;have:i∈d.h3 d.jq:=Day.LV.2 ⟨M,by unfold Day.cF at aK;grind⟩
 rw[(HZ aa).2] at this
 cases this
theorem EG:(∀i,i<d.n->d.cF i=d.p5 d.cF i)/\∀i,i<d.n->(d.jq i<10↔d.cF i<d.br i 10):=by
 obtain⟨g,F,I,af⟩:=H0 aa;exact F.final aa I af (QQ aa)
theorem axj {z:Nat->Rat}(aS:∀i,i<d.n->z i<=d.p5 z i):∀i,i<d.n->z i<=d.cF i:=ahz aa aa.hex (HZ aa).1 aS
theorem H2 {i:Nat}(M:i<d.n):0<=d.cF i:=(H0 aa).Qt aa M
end
theorem HD {d:Day}(aa:d.dj)(i k:Nat):0<=d.S i k:=xj λc G=>by
 try dsimp only
 split
 ·exact aa.am c G
 ·exact gd
end Go.Mini
namespace Go.Mini
open Classical
def Day.xq (d:Day)(i r:Nat):Nat:=((dP r).filter λk=>decide (0<d.S i k)).length
theorem axk (d:Day)(i:Nat){r s:Nat}(h:r<=s):d.xq i r<=d.xq i s:=by
 induction s with
 |zero =>
      have:r=0:=by omega
      subst this;exact bW _
 |succ s ax =>
  by_cases ab:r=s+1
  ·rw[ab];exact bW _
  ·have:=ax (by omega);unfold Day.xq at *;rw[nx,rT,fE];omega
theorem axl (d:Day)(i:Nat){r s:Nat}(h:r<s)(cJ:0<d.S i r):d.xq i r+1<=d.xq i s:=by
 have F:=axk d i (r:=r+1) (s:=s) (by omega);unfold Day.xq at *;rw[nx,rT,fE,ux (by simpa using cJ)] at F;simp only[p9,hV,List.length_nil] at F;omega
theorem ai7 (d:Day)(f:Nat->Nat):(d.h3 f).Pairwise (·<·):=List.Pairwise.filter _ List.pairwise_lt_range
theorem axm (d:Day)(f:Nat->Nat)(i:Nat):(d.h3 f).count i=if i∈d.h3 f then 1 else 0:=by
 have axn:(d.h3 f).Nodup:=(ai7 d f).imp λh=>by omega
 rw[axn.count]
section
variable {d:Day} (aa:d.dj)
include aa
theorem axo {f:Nat->Nat}(ab:Reach d f){i:Nat}(M:i<d.n):(i∈d.h3 f->d.gC f (d.top f) i<f i/\0<d.S i (d.gC f (d.top f) i))/\(i ∉ d.h3 f->d.gC f (d.top f) i=f i):=by
 have bD:=Day.Cw (aa.hex f ab);have hle:∀i,f i<=10:=by obtain⟨g,ca,-⟩:=bD;exact ca.le
 have aF:=Y0 aa hle (h:=d.top f) λi cw=>bD.Qt aa cw
 constructor
 ·intro hm;obtain⟨F,I⟩:=Day.LV.1 hm;have af:=aF.2.1 i F I;refine⟨af.1,?_⟩;have aM:=d.p2 i (d.gC f (d.top f) i);grind
 ·intro hm;refine aF.2.2 i M ?_;apply kn;intro aK;exact hm (Day.LV.2 ⟨M,by grind⟩)
theorem ai8:∀k (f:Nat->Nat),Reach d f->(∀l∈(d.rounds k f).1,l≠[]/\l.Pairwise (·<·)/\∀i∈l,i<d.n)/\∀i,i<d.n->(d.rounds k f).1.flatten.count i+d.xq i ((d.rounds k f).2 i)<=d.xq i (f i)/\((d.rounds k f).2 i<f i↔0<(d.rounds k f).1.flatten.count i)/\(d.rounds k f).2 i<=f i
 |0,f,ab=>⟨λl aq=>(by cases aq),λi M=>by simp[Day.rounds]⟩
 |k+1,f,ab=>by
  unfold Day.rounds
  by_cases bC:d.h3 f=[]
  ·rw[ad bC];exact⟨λl aq=>(by cases aq),λi M=>by simp⟩
  ·rw[ae bC];obtain⟨F,I⟩:=ai8 k _ (ab.next aa aa.hex);refine⟨λl aq=>?_,λi M=>?_⟩
   ·dsimp only at aq;rcases hE.1 aq with rfl|aq
    ·exact⟨bC,ai7 d f,λi M=>(Day.LV.1 M).1⟩
    ·exact F l aq
   ·obtain⟨af,aM,bk⟩:=I i M;obtain⟨f1,f2⟩:=axo aa ab M;dsimp only;rw[jC,List.count_append,axm]
    by_cases hm:i∈d.h3 f
    ·obtain⟨f3,f4⟩:=f1 hm;rw[ad hm];have:=axl d i f3 f4;refine⟨by omega,?_,by omega⟩
     constructor<;>intro _<;>omega
    ·have f3:=f2 hm;rw[f3] at af aM bk;rw[ae hm];refine⟨by omega,?_,by omega⟩
     rw[aM];omega
theorem axp:(∀l∈d.iU,l≠[]/\l.Pairwise (·<·)/\∀i∈l,i<d.n)/\∀i,i<d.n->d.iU.flatten.count i<=d.xq i 10/\(d.cF i<d.br i 10↔0<d.iU.flatten.count i):=by
 obtain⟨F,I⟩:=ai8 aa (10*d.n) (λ_=>10) (Reach.start aa);refine⟨F,λi M=>?_⟩;obtain⟨af,aM,bk⟩:=I i M;unfold Day.iU;refine⟨by omega,?_⟩
 rw[<-aM,<-(EG aa).2 i M]
 rfl
omit aa in
theorem ai9 {i:Nat}{x:Rat}(al:0<=x):∀k,x<d.br i k->∃r,r<k/\d.br i r<=x/\x<d.br i (r+1):=by
 intro k
 induction k with
 |zero=>intro h;rw[d.LQ] at h;grind
 |succ k ax =>
  intro h
  by_cases I:x<d.br i k
  ·obtain⟨r,af,aM⟩:=ax I;exact⟨r,by omega,aM⟩
  ·exact⟨k,by omega,by grind,h⟩
theorem axq {i:Nat}{x:Nat->Rat}(al:0<=x i):(∃c∈d.cO,c.az=i/\d.ez x c<c.am)↔x i<d.br i 10:=by
 constructor
 ·rintro⟨c,G,rfl,F⟩;apply kn;intro I;have:=aa.uh c.az (r:=c.bm+1) (s:=10) (by have:=aa.bm c G;omega);unfold Day.ez at F;rw[ad (by grind)] at F;grind
 ·intro F;obtain⟨r,I,af,aM⟩:=ai9 al 10 F;have bk:=d.p2 i r;have cJ:0<d.S i r:=by grind
  obtain⟨c,G,aE⟩:=LN cJ
  by_cases hp:c.az=i/\c.bm=r
  ·obtain⟨rfl,rfl⟩:=hp;rw[ad ⟨rfl,rfl⟩] at aE;refine⟨c,G,rfl,?_⟩;unfold Day.ez;rw[ae (by grind),p3 (by grind)];have hw:=aa.HF G aE;have bI:=Day.Au cJ;have bH:=Rat.mul_lt_mul_of_pos_left (show x c.az-d.br c.az c.bm<d.S c.az c.bm by grind) hw;grind
  ·rw[ae hp] at aE;grind
theorem aja (i:Nat)(k:Nat):0<d.S i k↔∃c∈d.cO,c.az=i/\c.bm=k/\0<c.am:=by
 constructor
 ·intro h;obtain⟨c,G,aE⟩:=LN h
  by_cases hp:c.az=i/\c.bm=k
  ·rw[ad hp] at aE;exact⟨c,G,hp.1,hp.2,aE⟩
  ·rw[ae hp] at aE;grind
 ·rintro⟨c,G,rfl,rfl,aE⟩;have:=aa.Qk G;grind
end
end Go.Mini
namespace Go.Mini
open Classical
def Day.times (d:Day)(k:Rat):Day:=⟨d.n,λi=>k*d.E i,d.cO.map λc=>⟨c.az,c.to,c.bm,k*c.am⟩⟩
section
variable {d:Day} (aa:d.dj) {k:Rat} (Q:0<k)
include Q
end
section
variable {d:Day} (aa:d.dj) (di:Nat)
include aa
end
end Go.Mini
namespace Go.Mini
open Classical
theorem ajb {d:Day}(aa:d.dj){f:Nat->Nat}{g:Nat->Rat}(M:Inv d f g):∀m (P:Nat->Prop),idle d P<=m->iu d f g P (d.fa f P)->∃P,s0 d f P/\∀i,i<d.n->d.fa f P i=d.top f i
 |m,P,hm,aE=>by
  by_cases U:∀i,i<d.n->f i<10->d.br i (f i)<d.fa f P i->P i
  ·exact⟨P,⟨aa,g,M,aE⟩,aE.aiD aa M U⟩
  ·have⟨i,F,I,af,aM⟩:∃i,i<d.n/\f i<10/\d.br i (f i)<d.fa f P i/\¬ P i:=by
    apply kn;intro aK;exact U λi F I af=>kn λaM=>aK ⟨i,F,I,af,aM⟩
   have ay:=aiC (h:=d.fa f P) F I af aM
   cases m with
   |zero=>omega
   |succ m=>exact ajb aa M m _ (by omega) (aE.succ aa M)
theorem ZG {d:Day}(aa:d.dj){f:Nat->Nat}(ab:Reach d f):∃P,s0 d f P/\∀i,i<d.n->d.fa f P i=d.top f i:=by
 obtain⟨g,M,-⟩:=ab;exact ajb aa M _ _ (bW _) (iu.first aa M)
section
variable {E:List Int} {cs:List ao} (U:e2 E cs)
include U
theorem ajc {f:Nat->Nat}(ab:Reach (aB E cs) f){i:Nat}(M:i<D E):dT 428 ((aB E cs).top f i):=by
 obtain⟨P,aE,he⟩:=ZG U.ok ab;rw[<-he i M];exact aiS U aE M
theorem EH {i:Nat}(M:i<D E):dT 428 ((aB E cs).cF i):=ajc U (HZ U.ok).1 M
theorem axr {i:Nat}(M:i<D E):(aB E cs).cF i<=((2^54:Nat):Rat):=by
 obtain⟨P,aE,he⟩:=ZG U.ok (HZ U.ok).1;have:=(QL U aE M).2;rw[he i M] at this;exact this
theorem ajd:∃bj:Nat,0<bj/\(∃a,a<=330/\bj<=2^a)/\∀i,i<(D E)->fb bj ((aB E cs).cF i):=by
 obtain⟨P,aE,he⟩:=ZG U.ok (HZ U.ok).1;obtain⟨bj,F,I,af⟩:=aiR U aE;refine⟨bj,F,I,λi M=>?_⟩;have:=af i M;rw[he i M] at this;exact this
end
section
variable {d:Day} (aa:d.dj)
include aa
theorem axs {i:Nat}(M:i<d.n){x:Nat->Rat}(k:Nat):b5 d.cO (λc=>if c.az=i/\c.bm=k then d.ez x c else 0)=if d.br i (k+1)<=x i then d.S i k else pos (x i-d.br i k):=by
 have mG:=d.p2 i k
 by_cases h:d.br i (k+1)<=x i
 ·rw[ad h];unfold Day.S;refine po λc _=>?_
  by_cases G:c.az=i/\c.bm=k
  ·obtain⟨rfl,rfl⟩:=G;unfold Day.ez;rw[ad h]
  ·rw[ae G,ae G]
 ·rw[ae h]
  have e:b5 d.cO (λc=>if c.az=i/\c.bm=k then d.ez x c else 0)=b5 d.cO λc=>if c.az=i/\c.bm=k then d.w c*pos (x i-d.br i k) else 0:=by
   refine po λc _=>?_
   by_cases G:c.az=i/\c.bm=k
   ·obtain⟨rfl,rfl⟩:=G;rw[ad ⟨rfl,rfl⟩,ad ⟨rfl,rfl⟩];unfold Day.ez;rw[ae h]
   ·rw[ae G,ae G]
  rw[e]
  by_cases cJ:0<d.S i k
  ·have:=aa.HG (λj=>j=i) (λ_=>k) (λj aj=>by subst aj;exact cJ) λ_=>pos (x i-d.br i k);rw[xi M (λj _ aj=>by rw[ae aj]),ad rfl] at this;refine (po λc _=>?_).trans this
   by_cases G:c.az=i/\c.bm=k
   ·rw[ad G,ad G]
   ·rw[ae G,ae G]
  ·have al:=HD aa i k;rw[sU (by grind)];exact Ct λc _=>by split<;>grind
theorem axt {i:Nat}(M:i<d.n){x:Nat->Rat}(al:0<=x i)(k:Nat):b5 d.cO (λc=>if c.az=i/\c.bm<k then d.ez x c else 0)=if d.br i k<=x i then d.br i k else x i:=by
 induction k with
 |zero=>rw[d.LQ,ad al];exact Ct λc _=>ae (by omega)
 |succ k ax =>
  have e:b5 d.cO (λc=>if c.az=i/\c.bm<k+1 then d.ez x c else 0)=b5 d.cO (λc=>if c.az=i/\c.bm<k then d.ez x c else 0)+b5 d.cO λc=>if c.az=i/\c.bm=k then d.ez x c else 0:=by
   rw[<-LM];refine po λc _=>?_
   by_cases F:c.az=i
   ·by_cases I:c.bm<k
    ·rw[ad ⟨F,by omega⟩,ad ⟨F,I⟩,ae (by omega)];grind
    ·by_cases af:c.bm=k
     ·rw[ad ⟨F,by omega⟩,ae (by omega),ad ⟨F,af⟩];grind
     ·rw[ae (by omega),ae (by omega),ae (by omega)];grind
   ·rw[ae λh=>F h.1,ae λh=>F h.1,ae λh=>F h.1];grind
  rw[e,ax,axs aa M];have mG:=d.p2 i k;have cJ:=HD aa i k
  by_cases F:d.br i (k+1)<=x i
  ·rw[ad F,ad F,ad (by grind),mG]
  ·rw[ae F,ae F]
   by_cases I:d.br i k<=x i
   ·rw[ad I,p3 (by grind)];grind
   ·rw[ae I,sU (by grind)];grind
theorem aje {i:Nat}(M:i<d.n){x:Nat->Rat}(al:0<=x i):b5 d.cO (λc=>if c.az=i then d.ez x c else 0)=if d.br i 10<=x i then d.br i 10 else x i:=by
 rw[<-axt aa M al 10];refine po λc G=>?_;have:=aa.bm c G
 by_cases F:c.az=i
 ·rw[ad F,ad ⟨F,this⟩]
 ·rw[ae F,ae λh=>F h.1]
end
def vQ (E:List Int)(cs:List ao)(k:Nat):Nat:=if (aB E cs).jq k<10 then h4 cs k ((aB E cs).jq k) else 1
section
variable {E:List Int} {cs:List ao} (U:e2 E cs)
include U
theorem ajf {k:Nat}(Q:k<D E):0<vQ E cs k:=by
 unfold vQ
 split
 ·rename_i h;obtain⟨g,F,-⟩:=H0 U.ok;have I:=F.rO (i:=k) Q h;rw[<-EA U.right] at I;exact_mod_cast I
 ·omega
theorem ajg (k:Nat):vQ E cs k<=2^54:=by
 unfold vQ
 split
 ·exact U.EB _ _
 ·exact ZH
theorem ajh {bj:Nat}(mW:∀i,i<(D E)->fb bj ((aB E cs).cF i)){c:ao}(G:c∈cs):fb (bj*vQ E cs (cv c).az) ((aB E cs).ez (aB E cs).cF (cv c)):=by
 have aa:=U.ok;have gR:cv c∈(aB E cs).cO:=pt G;have Q:(cv c).az<D E:=aa.az _ gR;have p4:∀N,fb N (cv c).am:=λN=>fb.int N c.2.2.2;have aS:∀N,fb N (0:Rat):=fb.zero;have mG:=λr s=>@Day.dj.uh _ aa (cv c).az r s;have hk:=aa.bm _ gR;have gg:=QQ aa _ Q;unfold Day.ez
 by_cases F:(aB E cs).br (cv c).az ((cv c).bm+1)<=(aB E cs).cF (cv c).az
 ·rw[ad F];exact p4 _
 ·rw[ae F]
  have aF:(aB E cs).jq (cv c).az<10:=by
   refine ((EG aa).2 _ Q).2 ?_;have:=mG ((cv c).bm+1) 10 (by omega);grind
  have ay:(aB E cs).cF (cv c).az<(aB E cs).br (cv c).az ((aB E cs).jq (cv c).az+1):=by
   obtain⟨g,ca,-,ey⟩:=H0 aa;have:=ca.M _ Q aF;have:=ey _ Q;grind
  rcases aiN (cv c).bm ((aB E cs).jq (cv c).az) with I|I|I
  ·have:=mG ((cv c).bm+1) ((aB E cs).jq (cv c).az) (by omega);exact absurd (vI this gg) F
  ·have hw:fb (vQ E cs (cv c).az) ((aB E cs).w (cv c)):=by
    unfold vQ;rw[ad aF];refine⟨c.2.2.2,?_⟩;rw[EA U.right,<-I]
    have:0<(aB E cs).S (cv c).az (cv c).bm:=by
     have:=(aB E cs).p2 (cv c).az ((aB E cs).jq (cv c).az);rw[I];grind
    exact Day.Au this
   have aji:fb bj ((aB E cs).cF (cv c).az-(aB E cs).br (cv c).az (cv c).bm):=by
    refine (mW _ Q).sub ?_;rw[<-uk U.right];exact fb.int _ _
   rw[p3 (by rw[I];grind),rq];exact hw.mul aji
  ·have:=mG ((aB E cs).jq (cv c).az+1) (cv c).bm (by omega);rw[sU (by grind),nu];exact aS _
theorem ZI {c:ao}(G:c∈cs):dT 482 ((aB E cs).ez (aB E cs).cF (cv c)):=by
 obtain⟨bj,F,⟨a,I,af⟩,aM⟩:=ajd U;have gR:cv c∈(aB E cs).cO:=pt G;have Q:(cv c).az<D E:=U.ok.az _ gR;have bk:=ajh U aM G;have bI:=ajf U Q;have bH:=ajg U (cv c).az;have b6:bj*vQ E cs (cv c).az<=2^(a+54):=by rw[vK];exact oS af bH
 have iN:=U.ok.YT (aB E cs).cF gR
 have gp:(aB E cs).ez (aB E cs).cF (cv c)<=((2^50:Nat):Rat):=by
  refine vI (U.ok.Qq _ gR) ?_;have:=U.am c G;show ((c.2.2.2:Int):Rat)<=_;have:c.2.2.2<=((2^50:Nat):Int):=by omega
  rw[<-ob];exact Rat.intCast_le_intCast.2 this
 exact (bk.sz (L1 F bI) b6 iN gp).mono (by omega)
end
end Go.Mini
namespace Go.Mini
open Go
theorem Mc {n:Int}{c:ao}:hI n c=true↔0<=c.1/\c.1<n /\ -1<=c.2.1/\c.2.1<n/\0<=c.2.2.1/\c.2.2.1<10/\0<=c.2.2.2/\c.2.2.2<=1000000000000000:=by
 unfold hI;simp only[ec,decide_eq_true_eq,and_assoc]
def gj (x:Int):Bool:=decide (0<=x)&&decide (x<=1000000000000000)
theorem QR {x:Int}:gj x=true↔0<=x/\x<=1000000000000000:=by
 unfold gj;simp only[ec,decide_eq_true_eq]
theorem axu (E:List Int)(cs:List ao):iF E cs=(decide (D E<=60)&&decide (D cs<=2000)&&E.all gj&&cs.all (hI (D E))):=rfl

theorem ajj {x y:Rat}(O:dm x)(ar:dm y)(h:mD x y=true):zZ [.agg (aH (av x)),.agg (aH (av y))]=some (.same (.cI [.agg (aH (av (x+y))),.int .i64 0])):=by
 have F:=lA O;have I:=lA ar;have:=afP (av x).1.1 (av x).1.2 (av x).2.1 (av x).2.2 (av y).1.1 (av y).1.2 (av y).2.1 (av y).2.2 ⟨F.1,F.2,I.1,I.2⟩;have e:vw (av x) (av y)=(av (x+y),0):=by rw[Wx O ar,h];rfl
 exact this.trans (by show some (eL.same (eG (vw (av x) (av y))))=_;rw[e];rfl)
theorem ZJ {x y:Rat}(O:dm x)(ar:dm y)(h:mD x (-y)=true):z1 [.agg (aH (av x)),.agg (aH (av y))]=some (.same (.cI [.agg (aH (av (x-y))),.int .i64 0])):=by
 have F:=lA O;have I:=lA ar;have:=as0 (av x).1.1 (av x).1.2 (av x).2.1 (av x).2.2 (av y).1.1 (av y).1.2 (av y).2.1 (av y).2.2 ⟨F.1,F.2,I.1,I.2⟩;have e:pf (av x) (av y)=(av (x-y),0):=by rw[Ps O ar,h];rfl
 exact this.trans (by show some (eL.same (eG (pf (av x) (av y))))=_;rw[e];rfl)
theorem ajk {x y:Rat}(O:dm x)(ar:dm y)(h:z6 x y=true):yx [.agg (aH (av x)),.agg (aH (av y))]=some (.same (.cI [.agg (aH (av (x*y))),.int .i64 0])):=by
 have F:=lA O;have I:=lA ar;have:=as2 (av x).1.1 (av x).1.2 (av x).2.1 (av x).2.2 (av y).1.1 (av y).1.2 (av y).2.1 (av y).2.2 ⟨F.1,F.2,I.1,I.2⟩;have e:n2 (av x) (av y)=(av (x*y),0):=by rw[Wy O ar,h];rfl
 exact this.trans (by show some (eL.same (eG (n2 (av x) (av y))))=_;rw[e];rfl)
theorem axv {x y:Rat}(O:dm x)(ar:dm y)(al:y≠0)(h:w4 x y=true):Ed [.agg (aH (av x)),.agg (aH (av y))]=some (.same (.cI [.agg (aH (av (x/y))),.int .i64 0])):=by
 have F:=lA O;have I:=lA ar;have:=as4 (av x).1.1 (av x).1.2 (av x).2.1 (av x).2.2 (av y).1.1 (av y).1.2 (av y).2.1 (av y).2.2 ⟨F.1,F.2,I.1,I.2⟩;have e:jU (av x) (av y)=(av (x/y),0):=by rw[Pt O ar al,h];rfl
 exact this.trans (by show some (eL.same (eG (jU (av x) (av y))))=_;rw[e];rfl)
theorem H3 {x y:Rat}(O:dm x)(ar:dm y):tW [.agg (aH (av x)),.agg (aH (av y))]=some (.same (.int .i64 (mE x y))):=by
 have F:=lA O;have I:=lA ar;have:=afX (av x).1.1 (av x).1.2 (av x).2.1 (av x).2.2 (av y).1.1 (av y).1.2 (av y).2.1 (av y).2.2 ⟨F.1,F.2,I.1,I.2⟩;exact this.trans (by show some (eL.same (.int .i64 (lz (av x) (av y))))=_;rw[Pu O ar])
theorem ajl {x y:Rat}:decide (mE x y>0)=decide (y<x):=by
 have F:mE x y>0↔y<x:=by
  unfold mE;rw[gt_iff_lt,Int.sign_pos_iff,ZK];omega
 rw[decide_eq_decide];exact F
theorem QS {x y:Rat}:decide (mE x y<0)=decide (x<y):=by
 have F:mE x y<0↔x<y:=by
  unfold mE;rw[ajm,ZK];omega
 rw[decide_eq_decide];exact F
theorem ajn {x y:Rat}:decide (mE x y>=0)=decide (y<=x):=by
 have F:mE x y>=0↔y<=x:=by
  unfold mE;rw[ge_iff_le,Int.sign_nonneg_iff,Rat.le_iff];omega
 rw[decide_eq_decide];exact F
end Go.Mini
namespace Go.Mini
open Go
variable {P:Program} {A:Nat->Prop} {w aP:World} {B bt:Lay} {mem mem':Mem}
def yL (N:List R->Mem->Option Data)(args:List R)(mem:Mem):Option gY:=(N args mem).map λd => .rel (zv (.J d) mem)
@[go_sem] theorem aK8 (N:List R->Mem->Option Data)(args:List R)(mem:Mem):yL N args mem=(N args mem).map λd => .rel (zv (.J d) mem):=bz
theorem ZL {T : bh}{kb : Nat}{own : List Nat}(cN : qv P T)(hm : P.follows .mixedOrders = true){f : FuncId}{fn : Func}{mf : bT}(aF : P.funcs[f]? = some fn)(tA : (fn.name == "runtime.NumGoroutine") = false)(aY : sl P kb own fn = some { mf with body := erase mf.body })
  (da:Key->Prop) {N:List R->Mem->Option Data}
  (h:∀args mem d,N args mem=some d->(D args)<=mf.n/\(∀j,da j->mem j=none) /\
   wp T mf.body (pV mf.res λm mem'=>cz 6 emp m=some d/\∀j,¬ da j->mem' j=mem j) ⟨lf args,mem⟩):k7 P f (yL N):=by
 refine⟨PS aF tA aY,λargs mem oB hq A w B vs bS hv=>?_⟩;unfold yL at hq;rw[dR] at hq;obtain⟨d,mG,rfl⟩:=hq;obtain⟨hlen,tX,wz⟩:=h args mem d mG;refine Calls.mono (FT (Post:=λm mem'=>cz 6 emp m=some d/\∀j,¬ da j->mem' j=mem j) cN hm aF aY hlen (λe st Q=>PR Q) wz bS hv) λe aP he=>?_;obtain⟨v,m,mem',bt,rfl,U,lh,aa,fZ⟩:=he;exact⟨v,.J d,mem,sK da bt,rfl,U.drop bS tX tX (λj aj=>(fZ j aj).symm) (λk g cs Q m hm => .inr ⟨k,g,cs,Q,hm⟩),.J ((N3 6 m v d aa lh).less λb ah=>ah.imp Ej id),rfl,rfl⟩
def Md (W:List R->Mem->Option (Data×Key))(args:List R)(mem:Mem):Option gY:=(W args mem).map λx => .y9 x.1 x.2
@[go_sem] theorem aK9 (W:List R->Mem->Option (Data×Key))(args:List R)(mem:Mem):Md W args mem=(W args mem).map λx => .y9 x.1 x.2:=bz
theorem axw {T : bh}{kb : Nat}{own : List Nat}(cN : qv P T)(hm : P.follows .mixedOrders = true){f : FuncId}{fn : Func}{mf : bT}(aF : P.funcs[f]? = some fn)(tA : (fn.name == "runtime.NumGoroutine") = false)(aY : sl P kb own fn = some { mf with body := erase mf.body })
  (da:Key->Prop) {W:List R->Mem->Option (Data×Key)}
  (h:∀args mem d k,W args mem=some (d,k)->(D args)<=mf.n/\(∀j,da j->mem j=none)/\¬ da k /\
   wp T mf.body (pV mf.res λm mem'=>cz 6 emp m=some d/\∀j,¬ da j->mem' j=aZ mem k (bU mem k) [] j) ⟨lf args,mem⟩):k7 P f (Md W):=by
 refine⟨PS aF tA aY,λargs mem oB hq A w B vs bS hv=>?_⟩;unfold Md at hq;rw[dR] at hq;obtain⟨⟨d,k⟩,mG,rfl⟩:=hq;obtain⟨hlen,tX,Q,wz⟩:=h args mem d k mG;refine Calls.mono (FT (Post:=λm mem'=>cz 6 emp m=some d/\∀j,¬ da j->mem' j=aZ mem k (bU mem k) [] j) cN hm aF aY hlen (λe st Q=>PR Q) wz bS hv) λe aP he=>?_;obtain⟨v,m,mem',bt,rfl,U,lh,aa,fZ⟩:=he;refine⟨v,sK da bt,rfl,U.drop bS tX (λj aj=>?_) (λj aj=>(fZ j aj).symm) ?_,.J ((N3 6 m v d aa lh).less λb ah=>ah.imp Ej id)⟩
 ·have:j≠k:=λe=>Q (e ▸ aj);simp only[aZ,this,if_false];exact tX j aj
 ·intro c7 cf oC I m nm
  by_cases gy:c7=k
  ·subst gy;simp only[aZ,if_true,cj,fp] at I;obtain⟨-,rfl⟩:=I
   cases nm
  ·simp only[aZ,gy,if_false] at I;exact .inr ⟨c7,cf,oC,I,nm⟩
open Classical in
def Me {α:Type}(bj:α->List R->Mem->Prop)(res:α->Data×Key):List R->Mem->Option (Data×Key):=λargs mem=>if h:∃a,bj a args mem then some (res (tB h)) else none
theorem axx {α:Type}{bj:α->List R->Mem->Prop}{res:α->Data×Key}(uniq:∀a b args mem,bj a args mem->bj b args mem->res a=res b){a:α}{args:List R}{mem:Mem}(h:bj a args mem):Me bj res args mem=some (res a):=by
 have O:∃b,bj b args mem:=⟨a,h⟩;unfold Me;rw[dif_pos O,uniq _ _ _ _ (o7 O) h]
theorem axy {α:Type}{bj:α->List R->Mem->Prop}{res:α->Data×Key}{args:List R}{mem:Mem}{d:Data×Key}(h:Me bj res args mem=some d):∃a,bj a args mem/\d=res a:=by
 unfold Me at h
 split at h
 ·rename_i O;exact⟨_,o7 O,(mj h).symm⟩
 ·cases h
open Classical in
def EI {α:Type}(bj:α->List R->Mem->Prop)(res:α->Data):List R->Mem->Option Data:=λargs mem=>if h:∃a,bj a args mem then some (res (tB h)) else none
theorem ZM {α:Type}{bj:α->List R->Mem->Prop}{res:α->Data}(uniq:∀a b args mem,bj a args mem->bj b args mem->res a=res b){a:α}{args:List R}{mem:Mem}(h:bj a args mem):EI bj res args mem=some (res a):=by
 have O:∃b,bj b args mem:=⟨a,h⟩;unfold EI;rw[dif_pos O,uniq _ _ _ _ (o7 O) h]
theorem ZN {α:Type}{bj:α->List R->Mem->Prop}{res:α->Data}{args:List R}{mem:Mem}{d:Data}(h:EI bj res args mem=some d):∃a,bj a args mem/\d=res a:=by
 unfold EI at h
 split at h
 ·rename_i O;exact⟨_,o7 O,(mj h).symm⟩
 ·cases h
theorem ajo {α:Type}{bj:α->List R->Mem->Prop}{cg:α->Mem->R->Mem->Prop}(uniq:∀a b args mem,bj a args mem->bj b args mem->cg a mem=cg b mem){a:α}{args:List R}{mem:Mem}(h:bj a args mem):xc bj cg args mem=some (cg a mem):=by
 have O:∃b,bj b args mem:=⟨a,h⟩;unfold xc;rw[dif_pos O,uniq _ _ _ _ (o7 O) h]
theorem axz {K:bd->Prop}{st:bd}{x:bP}{i k sz kc g off:Nat}{cs:List R}(F:a6 st.tm x=.ptr kc g off)(I:st.mem kc=some (g,cs))(af:cs[off+i]?=some .nil)(aM:k≠kc)
  (h:K ⟨st.tm,aZ (aZ st.mem k (bU st.mem k) []) kc g (cs.set (off+i) (.ref k (bU st.mem k) sz 0 0))⟩):ld K st (.Nh x i k sz):=by
 simp only[ld,F,I,if_true,af];rw[ad aM];exact h
theorem axA {K:bd->Prop}{st:bd}{x:bP}{i kc gc off k g sz o len:Nat}{cc cs:List R}{d:Data}(F:a6 st.tm x=.ptr kc gc off)(I:st.mem kc=some (gc,cc))(af:cc[off+i]?=some (.ref k g sz o len))(aM:st.mem k=some (g,cs))(bk:nM cs=true)(bI:k≠kc)(bH:cz 1 st.mem (.ref k g sz o len)=some d)
  (h:K ⟨st.tm,aZ (kill st.mem k) kc gc (cc.set (off+i) (.J d))⟩):ld K st (.Ni x i):=by
 simp only[ld,F,I,if_true,af,aM];rw[ad ⟨trivial,bk,bI⟩,bH];exact h
def er (n:Nat)(mem m:Mem):Prop:=∀k,k/1000≠n->m k=mem k
theorem er.refl (n:Nat)(mem:Mem):er n mem mem:=λ_ _=>rfl
theorem er.e3 {n k g:Nat}{cs:List R}{mem m:Mem}(h:er n mem m)(Q:k/1000=n):er n mem (aZ m k g cs):=λj aj=>by
 have:j≠k:=λe=>aj (by rw[e];exact Q);simp only[aZ,this,if_false];exact h j aj
theorem er.kill {n k:Nat}{mem m:Mem}(h:er n mem m)(Q:k/1000=n):er n mem (kill m k):=h.e3 Q
theorem er.at {n:Nat}{mem m:Mem}(h:er n mem m)(k:Nat)(Q:k/1000≠n):m k=mem k:=h k Q
def rU (n:Nat)(mem:Mem):Prop:=∀k,k/1000=n->mem k=none
theorem rU.az {n ajp:Nat}{mem m:Mem}(h:rU n mem)(aF:er ajp mem m)(aK:n≠ajp):rU n m:=λk Q=>by rw[aF k (by omega)];exact h k Q
end Go.Mini
namespace Go.Mini
open Go
def cd (x:Int):R:=.J (.int .i64 x)
def la (b:Bool):R:=.J (.bool b)
theorem Az {α:Type}{f:α->R}{l:List α}{k:Nat}{y:α}(h:l[k]?=some y):gq 1 (gI k (l.map f))=[f y]:=by
 obtain⟨aq,rfl⟩:=dz.1 h;rw[<-List.map_drop,List.drop_eq_getElem_cons aq,eE,List.take_succ_cons,nd]
structure CH (E:List Int) (cs:List ao) (fl:List Int) (P:List Bool) (g cF gL:Nat) (mem:Mem):Prop where
 r:mem 261029=some (g,[.J (.Y (E.map ag)),.J (.Y (cs.map cx)),.ref 261042 cF 1 0 (D fl),.ref 261027 gL 1 0 (D P),.J (.bool false)])
 f:mem 261042=some (cF,fl.map cd)
 p:mem 261027=some (gL,P.map la)
theorem CH.az {E:List Int}{cs:List ao}{fl:List Int}{P:List Bool}{g cF gL n:Nat}{mem m:Mem}(h:CH E cs fl P g cF gL mem)(aF:er n mem m)(aK:n≠261):CH E cs fl P g cF gL m :=
 ⟨(aF.at 261029 (by omega)).trans h.r,(aF.at 261042 (by omega)).trans h.f,(aF.at 261027 (by omega)).trans h.p⟩
theorem QT {a b:List Int}(h:a.map cd=b.map cd):a=b:=map_inj (λx y h=>by simpa [cd] using h) _ _ h
theorem axB {a b:List Bool}(h:a.map la=b.map la):a=b:=map_inj (λx y h=>by simpa [la] using h) _ _ h
theorem CH.uniq {E H4:List Int}{cs na:List ao}{fl AA:List Int}{P ajq:List Bool}{g cF gL c6 ajr QU:Nat}{mem:Mem}(h:CH E cs fl P g cF gL mem)(ct:CH H4 na AA ajq c6 ajr QU mem):E=H4/\cs=na/\fl=AA/\P=ajq/\g=c6/\cF=ajr/\gL=QU:=by
 have F:=h.r;rw[ct.r] at F;simp only[cj,fp,bb,R.J.injEq,Data.Y.injEq,R.ref.injEq,true_and,and_true] at F;obtain⟨aA,aC,bZ,⟨dq,-⟩,bY,-⟩:=F;have I:=h.f;rw[ct.f] at I;simp only[cj,fp] at I;have af:=h.p;rw[ct.p] at af;simp only[cj,fp] at af;exact⟨(map_inj fj _ _ aC).symm,(map_inj s3 _ _ bZ).symm,(QT I.2).symm,(axB af.2).symm,aA.symm,dq.symm,bY.symm⟩
structure QV where
 E:List Int
 cs:List ao
 fl:List Int
 P:List Bool
 g:Nat
 cF:Nat
 gL:Nat
def QV.At (a:QV)(mem:Mem):Prop:=CH a.E a.cs a.fl a.P a.g a.cF a.gL mem
theorem QV.uniq {a b:QV}{mem:Mem}(h:a.At mem)(ct:b.At mem):a=b:=by
 obtain⟨cU,de,a3,a4,a5,s4,ajs⟩:=a;obtain⟨df,eD,j3,l2,axC,ajt,aju⟩:=b;have:=CH.uniq h ct;dsimp only at this;obtain⟨rfl,rfl,rfl,rfl,rfl,rfl,rfl⟩:=this
 rfl
theorem er.same {n k g:Nat}{cs:List R}{mem m:Mem}(h:er n mem m)(hm:mem k=some (g,cs)):er n mem (aZ m k g cs):=λj aj=>by
 by_cases e:j=k
 ·subst e;simp only[aZ,if_true];exact hm.symm
 ·simp only[aZ,e,if_false];exact h j aj
theorem qa {z:Int}(F:-9000000000000000000<=z)(I:z<=9000000000000000000):dB z:=by unfold dB;omega
theorem HV.upto {cs:List ao}(h:HV cs)(i r:Int):0<=cS cs i r/\cS cs i r<=2000000000000000000:=by
 have:=h.sum (λc=>c.1=i/\c.2.2.1<r) (D cs);rw[k3] at this;exact this
theorem axD {p q:Int}(aE:dB p)(aG:dB q)(al:q≠0):ht (bO p) (bO q)=(av ((p:Rat)/(q:Rat)),0):=by
 rw[zX (yt aE) (yt aG) al,L4]
def kK (cs:List ao)(i r:Int):Int:=cS cs i (r+1)-cS cs i r
end Go.Mini
namespace Go.Mini
open Go Classical
def bK (fl:List Int)(i:Nat):Nat:=(fl.getD i 10).toNat
def fv (P:List Bool)(i:Nat):Prop:=P.getD i false=true
theorem AB {z:Int}{b:Nat}(h:z.natAbs<=2^b):dT b (z:Rat):=⟨by rw[ajv];exact h,by rw[ajw];exact ZH⟩
theorem axE {E:List Int}{cs:List ao}(U:e2 E cs){c:ao}(G:c∈cs):dT 54 ((aB E cs).w (cv c)):=by
 have ab:=(hy.1 U.right).2.2.2 c G;have p4:=U.am c G
 by_cases al:c.2.2.2=0
 ·have:(cv c).am=0:=by show ((c.2.2.2:Int):Rat)=0;rw[al];rfl
  rw[Day.Ls this];exact⟨fg _,ZH⟩
 ·have cJ:=EA U.right (cv c).az (cv c).bm;have hle:=(ahB U.right).Qk (c:=cv c) (pt G);rw[<-cJ] at hle
  have F:c.2.2.2<=((h4 cs (cv c).az (cv c).bm:Nat):Int):=by
   have:((c.2.2.2:Int):Rat)<=(((h4 cs (cv c).az (cv c).bm:Nat):Int):Rat):=by rw[ob];exact hle
   exact_mod_cast this
  have I:=U.EB (cv c).az (cv c).bm
  obtain⟨f1,f2⟩:=Cz (q:=(aB E cs).w (cv c)) (v:=c.2.2.2) (d:=((h4 cs (cv c).az (cv c).bm:Nat):Int)) (by omega) (by
   rw[ob,cJ];refine Day.Au ?_;rw[<-cJ];have:0<h4 cs (cv c).az (cv c).bm:=by omega
   exact_mod_cast this)
  rw[mC] at f2;exact⟨by omega,by omega⟩
section
variable {E:List Int} {cs:List ao} (U:e2 E cs) (f:Nat->Nat) (P:Nat->Prop) (i:Nat) (cJ:∀k,P k->0<(aB E cs).S k (f k))
include U cJ
end
end Go.Mini
namespace Go.Mini
open Go
theorem Mf:dB 0:=by unfold dB;omega
theorem QW:dB 1:=by unfold dB;omega
theorem axF {N k:Nat}(x:Nat->Rat)(y:Rat):(dF N x).set k (av y)=dF N λj=>if j=k then y else x j:=by
 refine L9 (by rw[jf,p8]) λj aj=>?_;rw[nr]
 by_cases h:k=j
 ·rw[ad h,ad (by rw[p8];omega),ad h.symm]
 ·rw[ae h,vN _ aj,ae (Ne.symm h)]
theorem ajx {α:Type}{l:List α}{k:Nat}{d x:α}(h:l[k]?=some x):l.getD k d=x:=by rw[en,h];rfl
theorem axG (r:eV):((iT r).map R.J).all R.one=true:=rfl

def ny (n:Nat)(p:Nat->Bool):List Bool:=(dP n).map p
theorem QX (n:Nat)(p:Nat->Bool):(ny n p).length=n:=by simp[ny]
theorem QY {n i:Nat}(p:Nat->Bool)(h:i<n):(ny n p)[i]?=some (p i):=by
 unfold ny;rw[bq,th h];rfl
theorem axH {n:Nat}{p q:Nat->Bool}(h:∀i,i<n->p i=q i):ny n p=ny n q:=jM λi M=>h i (gV.1 M)
theorem QZ {n i:Nat}{p:Nat->Bool}:fv (ny n p) i↔i<n/\p i=true:=by
 unfold fv;rcases h9 i n with h|h
 ·rw[ajx (QY p h)];exact⟨λe=>⟨h,e⟩,λe=>e.2⟩
 ·rw[en,ke (by rw[QX];exact h)];simp;omega
def vR (d:Day)(f:Nat->Nat)(h:Nat->Rat)(i:Nat):Bool:=decide (f i<10)&&decide (d.br i (f i)<h i)
def oe (d:Day)(f:Nat->Nat)(h:Nat->Rat)(p:Nat->Bool)(i j:Nat):Bool:=p j||(decide (j<i)&&vR d f h j)
def yM (d:Day)(f:Nat->Nat)(h:Nat->Rat)(p:Nat->Bool)(i:Nat):Bool:=(dP i).any λj => !p j&&vR d f h j
theorem axI (d:Day)(f:Nat->Nat)(h:Nat->Rat)(p:Nat->Bool)(i:Nat):yM d f h p (i+1)=(yM d f h p i||(!p i&&vR d f h i)):=by
 unfold yM;rw[nx,List.any_append];simp
theorem ajy (d:Day)(f:Nat->Nat)(h:Nat->Rat)(p:Nat->Bool)(i:Nat):oe d f h p i i=p i:=by
 unfold oe;rw[j9 (Nat.lt_irrefl i),fz,lR]
theorem ajz (d:Day)(f:Nat->Nat)(h:Nat->Rat)(p:Nat->Bool)(i j:Nat):oe d f h p (i+1) j=if j=i then (p i||vR d f h i) else oe d f h p i j:=by
 unfold oe
 by_cases aj:j=i
 ·subst aj;rw[ad rfl,iw (Nat.lt_succ_self j),gT]
 ·rw[ae aj]
  congr 2
  rw[decide_eq_decide];omega
theorem axJ {d:Day}{f:Nat->Nat}{h:Nat->Rat}{p:Nat->Bool}:fv (ny d.n (oe d f h p d.n))=sV d f (fv (ny d.n p)) h:=by
 funext i
 apply propext;rw[QZ];unfold sV oe vR;rw[QZ]
 constructor
 ·rintro⟨F,I⟩;rw[x3] at I;rcases I with I|I
  ·exact .inl ⟨F,I⟩
  ·simp only[ec,decide_eq_true_eq] at I;exact .inr ⟨F,I.2⟩
 ·rintro (⟨F,I⟩|⟨F,I⟩)
  ·exact⟨F,by rw[I];rfl⟩
  ·refine⟨F,?_⟩;rw[x3]
   right
   simp only[ec,decide_eq_true_eq];exact⟨F,I⟩
theorem axK {n:Nat}:fv (ny n λ_=>false)=λ_=>False:=by
 funext i
 apply propext;rw[QZ];simp
theorem axL {d:Day}{f:Nat->Nat}{h:Nat->Rat}{p:Nat->Bool}{n:Nat}(hm:yM d f h p n=true):mJ n (λi=>if oe d f h p n i then 0 else 1)<mJ n λi=>if p i then 0 else 1:=by
 unfold yM at hm;rw[List.any_eq_true] at hm;obtain⟨j,aj,I⟩:=hm;have aj:=gV.1 aj;simp only[ec,pj] at I;refine Y1 (j:=j) (λi M=>?_) aj ?_
 ·unfold oe
  cases p i
  ·try dsimp only
   split<;>simp
  ·simp
 ·unfold oe;rw[I.1,I.2,iw aj]
  decide
theorem axM {d:Day}{f:Nat->Nat}{h:Nat->Rat}{p:Nat->Bool}{n:Nat}(hm:yM d f h p n=false){i:Nat}(M:i<n)(F:f i<10)(I:d.br i (f i)<h i):p i=true:=by
 unfold yM at hm;rw[ug] at hm;have:=hm i (gV.2 M);unfold vR at this;rw[iw F,iw I] at this
 simpa using this
def ff (cs:List ao)(x:Rat)(c:ao):Rat:=if ((cS cs c.1 (c.2.2.1+1):Int):Rat)<=x then (c.2.2.2:Rat) else (c.2.2.2:Rat)/((kK cs c.1 c.2.2.1:Int):Rat)*pos (x-((cS cs c.1 c.2.2.1:Int):Rat))
theorem Mg {E:List Int}{cs:List ao}(h:iF E cs=true)(x:Nat->Rat){c:ao}(G:c∈cs):(aB E cs).ez x (cv c)=ff cs (x c.1.toNat) c:=by
 have ab:=(hy.1 h).2.2.2 c G;obtain⟨aI,c2,c3,c4⟩:=c;dsimp only at ab;obtain⟨aI,rfl⟩:∃k:Nat,aI=(k:Int):=⟨aI.toNat,by omega⟩
 obtain⟨c3,rfl⟩:∃k:Nat,c3=(k:Int):=⟨c3.toNat,by omega⟩
 unfold Day.ez ff Day.w;have F:=uk h aI (c3+1);have I:=uk h aI c3;have af:=Qw h aI c3;have aA:(cv ((aI:Int),c2,(c3:Int),c4)).az=aI:=lu aI;have aC:(cv ((aI:Int),c2,(c3:Int),c4)).bm=c3:=lu c3;have bZ:(cv ((aI:Int),c2,(c3:Int),c4)).am=(c4:Rat):=rfl;rw[aA,aC,bZ,<-F,<-I,<-af]
 rfl
structure ko (l:List ao):Prop where
 len:(D l)<=12
 c:∀c∈l,0<=c.1/\c.1<60 /\ -1<=c.2.1/\c.2.1<60/\0<=c.2.2.1/\c.2.2.1<10/\0<=c.2.2.2/\c.2.2.2<=1000000000000000
 one:∀c∈l,∀c'∈l,c.1=c'.1
theorem ko.cs {l:List ao}(h:ko l):HV l:=⟨by have:=h.len;omega,λc G=>by have:=h.c c G;omega⟩
def l4 {α:Type}(enc:α->List R)(l:List α):List R:=(l.map enc).flatten
theorem axN {α:Type}{enc:α->List R}{sz:Nat}(h:∀a,(enc a).length=sz)(l:List α):(l4 enc l).length=D l*sz:=by
 unfold l4
 induction l with
 |nil=>simp
 |cons a l ax=>rw[eE,jC,fE,ax,h,hV,ti];omega
theorem ajA {α:Type}{enc:α->List R}{sz:Nat}(h:∀a,(enc a).length=sz):∀(l:List α) (i:Nat),i<(D l)->∀b,gq (i*sz) (l4 enc l)++enc b++gI (i*sz+sz) (l4 enc l)=l4 enc (l.set i b)
 | [],i,M,b=>absurd M (by simp)
 |a::l,0,_,b=>by
  have aN:=h a;unfold l4;simp only[Nat.zero_mul,Nat.zero_add,nd,jg,eE,jC,rJ];rw[<-aN,List.drop_left]
 |a::l,i+1,M,b=>by
  have aN:=h a;have ax:=ajA h l i (by simpa using M) b;unfold l4 at ax ⊢;simp only[eE,jC,Ho];rw[<-ax,ti,List.take_append,rn,aN];rw[dt (by omega),kP (by omega),jg];rw[show i*sz+sz-sz=i*sz by omega,show i*sz+sz+sz-sz=i*sz+sz by omega]
  simp only[gU]
def bF {α:Type}(n:Nat)(q:Nat->α):List α:=(dP n).map q
theorem gM {α:Type}(n:Nat)(q:Nat->α):(bF n q).length=n:=by simp[bF]
theorem iV {α:Type}{n i:Nat}(q:Nat->α)(h:i<n):(bF n q)[i]?=some (q i):=by
 unfold bF;rw[bq,th h];rfl
theorem ZO {α:Type}{n:Nat}{l:List α}{q:Nat->α}(aq:(D l)=n)(h:∀i,i<n->l[i]?=some (q i)):l=bF n q:=by
 apply o4;intro i;rcases h9 i n with M|M
 ·rw[h i M,iV q M]
 ·rw[ke (by omega),ke (by rw[gM];exact M)]
theorem AD {α:Type}{n i:Nat}(q:Nat->α)(b:α):(bF n q).set i b=bF n λj=>if j=i then b else q j:=by
 refine ZO (by rw[jf,gM]) λj aj=>?_;rw[nr]
 by_cases h:i=j
 ·rw[ad h,ad (by rw[gM];omega),ad h.symm]
 ·rw[ae h,iV _ aj,ae (Ne.symm h)]
theorem kL {α:Type}{n:Nat}{p q:Nat->α}(h:∀i,i<n->p i=q i):bF n p=bF n q:=jM λi M=>h i (gV.1 M)
def qV:Option a1->List R
 |none=>[.J (.int .i64 0),.nil,.J (.int .i64 0),.nil]
 |some f=>(aH f).map .J
theorem ajB:∀a,(qV a).length=4
 |none=>rfl
 |some _=>rfl
theorem ajC (n:Nat):(dC n [R.J (.int .i64 0),R.nil,R.J (.int .i64 0),R.nil]).flatten=l4 qV (bF n λ_=>none):=by
 unfold l4 bF;rw[lo]
 congr 1
 apply o4;intro i;rw[bq];rcases h9 i n with M|M
 ·rw[th M,ajD,ad M];rfl
 ·rw[ke (by simpa using M),ke (by simpa using M)];rfl
theorem ajE (l:List a1):l4 qV (l.map some)=bf aH l:=by
 unfold l4 bf
 induction l with
 |nil=>rfl
 |cons f l ax =>
  simp only[eE,jC,kI];rw[ax];rfl
theorem ZP {n i:Nat}{q:Nat->Option a1}(h:i<n):(i*4+4<=(l4 qV (bF n q)).length)=True:=eq_true (by rw[axN ajB,gM];omega)
theorem ZQ {n i:Nat}{q:Nat->Option a1}(h:i<n)(a:Int)(b:List Int)(c:Int)(d:List Int):
  gq (i*4) (l4 qV (bF n q))++[R.J (.int .i64 a),.J (.Y (b.map ag)),.J (.int .i64 c),.J (.Y (d.map ag))]++gI (i*4+4) (l4 qV (bF n q))=l4 qV (bF n λj=>if j=i then some ((a,b),(c,d)) else q j):=by
 rw[<-AD];exact ajA ajB (bF n q) i (by rw[gM];exact h) (some ((a,b),(c,d)))
structure H5 (l:List ao) (x:Rat):Prop where
 own:ko l
 pos:0<=x
 sz:dT 460 x
theorem ko.less {l:List ao}(h:ko l){c:ao}(G:c∈l)(r:Int):(cP l λc'=>if c'.2.2.1<r then c'.2.2.2 else 0)=cS l c.1 r:=by
 unfold cS;refine HL λc' lN=>?_;have:=h.one c' lN c G
 by_cases F:c'.2.2.1<r
 ·rw[ad F,ad ⟨this,F⟩]
 ·rw[ae F,ae λh=>F h.2]
theorem ZR (l:List ao)(aO bM:ao->Int):cP l (λc=>aO c+bM c)=cP l aO+cP l bM:=by
 induction l with
 |nil=>simp[cP]
 |cons c l ax=>simp only[cP,ax];omega
theorem ko.same {l:List ao}(h:ko l){c:ao}(G:c∈l)(r:Int):(cP l λc'=>if c'.2.2.1=r then c'.2.2.2 else 0)=kK l c.1 r:=by
 have F:=h.less G r;have I:=h.less G (r+1)
 have af:(cP l λc'=>if c'.2.2.1<r+1 then c'.2.2.2 else 0)=(cP l λc'=>if c'.2.2.1<r then c'.2.2.2 else 0)+cP l λc'=>if c'.2.2.1=r then c'.2.2.2 else 0:=by
  rw[<-ZR];refine HL λc _=>?_
  by_cases ca:c.2.2.1<r
  ·rw[ad (by omega),ad ca,ae (by omega)];omega
  ·rw[ae ca]
   by_cases c7:c.2.2.1=r
   ·rw[ad (by omega),ad c7];omega
   ·rw[ae (by omega),ae c7];omega
 unfold kK;omega
theorem ko.bound {l:List ao}(h:ko l)(p:ao->Prop)[DecidablePred p]:0<=cP l (λc=>if p c then c.2.2.2 else 0)/\cP l (λc=>if p c then c.2.2.2 else 0)<=12000000000000000:=by
 have:=Qv (cs:=l) (aO:=λc=>if p c then c.2.2.2 else 0) (B:=1000000000000000) (by omega) λc G=>by
  have:=h.c c G
  try dsimp only
  split<;>omega
 have:=h.len;omega
theorem ajF (cs:List ao)(i r:Int):kK cs i r=cP cs λc=>if c.1=i/\c.2.2.1=r then c.2.2.2 else 0:=by
 have af:cS cs i (r+1)=cS cs i r+cP cs λc=>if c.1=i/\c.2.2.1=r then c.2.2.2 else 0:=by
  unfold cS;rw[<-ZR];refine HL λc _=>?_
  split<;>split<;>split<;>omega
 unfold kK;omega
theorem axO {cs:List ao}{aO:ao->Int}(h:∀c∈cs,0<=aO c){c:ao}(G:c∈cs):aO c<=cP cs aO:=by
 induction cs with
 |nil=>cases G
 |cons a l ax =>
  simp only[cP];have al:=h a gn
  have F:0<=cP l aO:=by
   have:∀l:List ao,(∀c∈l,0<=aO c)->0<=cP l aO:=by
    intro l
    induction l with
    |nil=>intro _;exact QG _
    |cons b l QA=>intro aQ;simp only[cP];have:=aQ b gn;have:=QA λc G=>aQ c (gX _ G);omega
   exact this l λc G=>h c (gX _ G)
  rcases hE.1 G with rfl|G
  ·omega
  ·have:=ax (λc G=>h c (gX _ G)) G;omega
theorem ajG {cs:List ao}(h:∀c∈cs,0<=c.2.2.2){c:ao}(G:c∈cs):c.2.2.2<=kK cs c.1 c.2.2.1:=by
 rw[ajF];have:=axO (aO:=λc'=>if c'.1=c.1/\c'.2.2.1=c.2.2.1 then c'.2.2.2 else 0) (λc' lN=>by have:=h c' lN;split<;>omega) G;rwa [ad ⟨rfl,rfl⟩] at this
section
variable {cs:List ao} {x:Rat} {c:ao}
theorem ZS (cs:List ao)(i r:Int):((cS cs i (r+1):Int):Rat)=((cS cs i r:Int):Rat)+((kK cs i r:Int):Rat):=by
 rw[<-vJ]
 congr 1
 unfold kK;omega
theorem ajH (aK:∀c∈cs,0<=c.2.2.2)(G:c∈cs)(h:x-((cS cs c.1 c.2.2.1:Int):Rat)<=0):ff cs x c=0:=by
 unfold ff;have F:=ajG aK G;have I:=aK c G;rw[ZS]
 split
 ·rename_i af
  have aM:((kK cs c.1 c.2.2.1:Int):Rat)<=((0:Int):Rat):=by
   have:((0:Int):Rat)=0:=rfl;rw[this];generalize ((cS cs c.1 c.2.2.1:Int):Rat)=u at *;grind
  have bk:kK cs c.1 c.2.2.1<=0:=by exact_mod_cast aM
  rw[show c.2.2.2=0 by omega];rfl
 ·rw[sU h,nu]
theorem axP (h:((kK cs c.1 c.2.2.1:Int):Rat)<=x-((cS cs c.1 c.2.2.1:Int):Rat)):ff cs x c=(c.2.2.2:Rat):=by
 unfold ff;rw[ZS,ad];generalize ((cS cs c.1 c.2.2.1:Int):Rat)=u at *;generalize ((kK cs c.1 c.2.2.1:Int):Rat)=s at *;grind
theorem axQ (al:0<=x-((cS cs c.1 c.2.2.1:Int):Rat))(h:x-((cS cs c.1 c.2.2.1:Int):Rat)<((kK cs c.1 c.2.2.1:Int):Rat)):ff cs x c=(c.2.2.2:Rat)*(x-((cS cs c.1 c.2.2.1:Int):Rat))/((kK cs c.1 c.2.2.1:Int):Rat):=by
 unfold ff;rw[ZS,ae,p3 al]
 ·generalize ((cS cs c.1 c.2.2.1:Int):Rat)=u at *;generalize ((kK cs c.1 c.2.2.1:Int):Rat)=s at *;grind
 ·generalize ((cS cs c.1 c.2.2.1:Int):Rat)=u at *;generalize ((kK cs c.1 c.2.2.1:Int):Rat)=s at *;grind
end
theorem uy {n:Int}(h:dB n):dm (n:Rat):=⟨by rw[ajv];exact yt h,by rw[ajw];decide +kernel⟩
theorem Q0 {x:Rat}:decide (x.num.sign<0)=decide (x<0):=by
 have:x.num.sign<0↔x<0:=by
  rw[ajm,ZK,Rat.zero_num,Rat.zero_den];omega
 rw[decide_eq_decide];exact this
def iW:ao:=(0,0,0,0)
def EJ (l:List ao)(x:Rat)(j:Nat):a1:=av (ff l x (l.getD j iW))
theorem axR (l:List ao)(x:Rat):(bF (D l) λj=>some (EJ l x j))=(l.map λc=>av (ff l x c)).map some:=by
 symm
 refine ZO (by simp) λi M=>?_;rw[bq,bq,bx M];unfold EJ;rw[ajx (bx M)];rfl
def cu (cs:List ao)(di:Int):List ao:=cs.filter λc=>c.1==di
theorem axS (cs:List ao)(di:Int)(p:ao->Prop)[DecidablePred p]:cP (cu cs di) (λc=>if c.1=di/\p c then c.2.2.2 else 0)=cP cs λc=>if c.1=di/\p c then c.2.2.2 else 0:=by
 unfold cu
 induction cs with
 |nil=>rfl
 |cons c l ax =>
  by_cases h:c.1=di
  ·rw[ux (by simpa using h)];simp only[cP,ax]
  ·rw[vP (by simpa using h),ax];simp only[cP];rw[ae λaQ=>h aQ.1];omega
theorem ajI (cs:List ao)(di r:Int):cS (cu cs di) di r=cS cs di r:=axS cs di λc=>c.2.2.1<r
theorem l5 {cs:List ao}{di:Int}{c:ao}:c∈cu cs di↔c∈cs/\c.1=di:=by
 unfold cu;rw[rP,beq_iff_eq]
theorem ZT {cs:List ao}{di:Int}{x:Rat}{c:ao}(h:c.1=di):ff (cu cs di) x c=ff cs x c:=by
 unfold ff kK;rw[h,ajI,ajI]
theorem axT (cs:List ao)(di:Int)(x:Rat):((cu cs di).map λc=>av (ff (cu cs di) x c))=(cu cs di).map λc=>av (ff cs x c) :=
 jM λc G=>by rw[ZT (l5.1 G).2]
theorem e2.own {E:List Int}{cs:List ao}(h:e2 E cs)(di:Int):ko (cu cs di):=by
 have ab:=hy.1 h.right;have aK:=h.n5;refine⟨?_,λc G=>?_,λc G c' lN=>?_⟩
 ·have:=od (λc:ao=>c.1==di) cs;have:=h.sZ;unfold cu;omega
 ·have F:=ab.2.2.2 c (l5.1 G).1;have I:=h.am c (l5.1 G).1;omega
 ·rw[(l5.1 G).2,(l5.1 lN).2]
theorem ajJ (n:Nat):((ir n).map R.J).all R.one=true:=rfl
def uz (d:Day)(f:Nat->Nat)(h:Nat->Rat)(i:Nat):List Nat:=(dP i).filter λj=>decide (h j<d.br j (f j))
theorem axU (d:Day)(f:Nat->Nat)(h:Nat->Rat)(i:Nat):uz d f h (i+1)=if h i<d.br i (f i) then uz d f h i++[i] else uz d f h i:=by
 unfold uz;rw[nx,rT]
 by_cases aQ:h i<d.br i (f i)
 ·rw[ad aQ,ux (by simpa using aQ),p9]
 ·rw[ae aQ,vP (by simpa using aQ),p9,fJ]
theorem axV (d:Day)(f:Nat->Nat)(h:Nat->Rat)(i:Nat):(uz d f h i).length<=i:=by
 have:=od (λj=>decide (h j<d.br j (f j))) (dP i);rw[ss] at this;exact this
end Go.Mini
namespace Go.Mini
open Classical
def j5 (d:Day)(l:List ao)(i:Nat):Rat:=b5 (l.map cv) λc=>if c.to=(i:Int) then d.w c else 0
theorem axW (d:Day)(i:Nat):j5 d [] i=0:=rfl
theorem ajK (d:Day)(l:List ao)(c:ao)(i:Nat):j5 d (l++[c]) i=j5 d l i+if c.2.1=(i:Int) then d.w (cv c) else 0:=by
 unfold j5;rw[kI,HY]
 congr 1
 show (if (cv c).to=(i:Int) then d.w (cv c) else 0)+0=_;rw[oQ]
 rfl
theorem axX {E:List Int}{cs:List ao}(h:iF E cs=true)(f:Nat->Nat)(k i:Nat):j5 (aB E cs) (dh cs k (f k)) i=(aB E cs).W f k i:=by
 have ab:=(hy.1 h).2.2.2;unfold j5 Day.W;rw[ZE λc G=>⟨(ab c G).1,(ab c G).2.2.2.2.1⟩];refine po λc _=>?_
 by_cases F:c.az=k/\c.bm=f k
 ·rw[ad F]
  by_cases I:c.to=(i:Int)
  ·rw[ad I,ad ⟨I,F⟩]
  ·rw[ae I,ae λh=>I h.1]
 ·rw[ae F,ae λh=>F h.2]
section
variable {E:List Int} {cs:List ao} (U:e2 E cs) {k r:Nat} (cJ:0<(aB E cs).S k r)
include U cJ
theorem Q1 {c:ao}(G:c∈dh cs k r):fb (h4 cs k r) ((aB E cs).w (cv c))/\0<=(aB E cs).w (cv c)/\(aB E cs).w (cv c)=(c.2.2.2:Rat)/((kK cs k r:Int):Rat):=by
 obtain⟨F,I,af⟩:=EF.1 G;have aA:(cv c).az=k:=by show c.1.toNat=k;omega
 have aC:(cv c).bm=r:=by show c.2.2.1.toNat=r;omega
 have hm:cv c∈(aB E cs).cO:=pt F;refine⟨⟨c.2.2.2,?_⟩,U.ok.pq hm,?_⟩
 ·rw[EA U.right,<-aA,<-aC];exact Day.Au (by rw[aA,aC];exact cJ)
 ·unfold Day.w kK;rw[aA,aC];have:=Qw U.right k r;rw[<-this]
  rfl
theorem axY {l:List ao}(aq:∃fr,dh cs k r=l++fr)(i:Nat):dT 54 (j5 (aB E cs) l i):=by
 obtain⟨fr,aq⟩:=aq;have fZ:∀c∈l,c∈dh cs k r:=λc G=>by rw[aq];simp[G]
 have axZ:∀c∈fr,c∈dh cs k r:=λc G=>by rw[aq];simp[G]
 have aa:fb (h4 cs k r) (j5 (aB E cs) l i):=by
  unfold j5;refine fb.b5 λx O=>?_;obtain⟨c,G,rfl⟩:=dS.1 O
  split
  ·exact (Q1 U cJ (fZ c G)).1
  ·exact fb.zero _
 have al:∀m:List ao,(∀c∈m,c∈dh cs k r)->0<=j5 (aB E cs) m i:=λm hm=>xj λx O=>by
  obtain⟨c,G,rfl⟩:=dS.1 O
  try dsimp only
  split
  ·exact (Q1 U cJ (hm c G)).2.1
  ·exact gd
 have F:j5 (aB E cs) l i<=1:=by
  have e:j5 (aB E cs) (dh cs k r) i=j5 (aB E cs) l i+j5 (aB E cs) fr i:=by
   rw[aq];unfold j5;rw[kI,HY]
  have aC:j5 (aB E cs) (dh cs k r) i<=b5 ((dh cs k r).map cv) (aB E cs).w:=Et λx O=>by
   obtain⟨c,G,rfl⟩:=dS.1 O;have:=(Q1 U cJ G).2.1
   split
   ·exact gd
   ·exact this
  have ab:=(hy.1 U.right).2.2.2;rw[ZE λc G=>⟨(ab c G).1,(ab c G).2.2.2.2.1⟩] at aC
  have bZ:b5 (cs.map cv) (λc=>if c.az=k/\c.bm=r then (aB E cs).w c else 0)=1:=by
   have Q:k<(aB E cs).n:=by
    obtain⟨c,G,aE⟩:=LN cJ
    by_cases hp:c.az=k/\c.bm=r
    ·rw[<-hp.1];exact U.ok.az c G
    ·rw[ae hp] at aE;grind
   have:=U.ok.HG (λj=>j=k) (λ_=>r) (λj aj=>by subst aj;exact cJ) λ_=>1;rw[xi Q (λj _ aj=>by rw[ae aj]),ad rfl] at this;refine (po λc _=>?_).trans this
   by_cases G:c.az=k/\c.bm=r
   ·rw[ad G,ad G,Rat.mul_one]
   ·rw[ae G,ae G]
  have:=al fr axZ;grind
 have gB:0<h4 cs k r:=by
  rw[<-EA U.right] at cJ;exact_mod_cast cJ
 exact (aa.sz gB (U.EB k r) (al l fZ) (e:=0) (by rw[show ((2^0:Nat):Rat)=1 from rfl];exact F)).mono (by omega)
end
end Go.Mini
namespace Go.Mini
open Go
def j6 (l:List ao):R:=if l=[] then .nil else .J (.Y (l.map cx))
theorem ax0 {a b:List ao}(h:j6 a=j6 b):a=b:=by
 unfold j6 at h
 by_cases aN:a=[]<;>by_cases ah:b=[]
 ·rw[aN,ah]
 ·rw[ad aN,ae ah] at h;cases h
 ·rw[ae aN,ad ah] at h;cases h
 ·rw[ae aN,ae ah] at h;exact map_inj s3 _ _ (Data.Y.inj (R.J.inj h))
theorem ajL (l:List ao):qi (j6 l)=some (D l):=by
 unfold j6
 split
 ·rename_i h;rw[h];rfl
 ·simp[qi]
theorem ajM {l:List ao}{n:Nat}{c:ao}(h:l[n]?=some c):y8 4 n (j6 l)=some (.J (.ptr (cx c))):=by
 unfold j6
 split
 ·rename_i aq;rw[aq] at h;cases h
 ·simp only[y8,bq,h,Option.map_some];rw[ad (EE c)]
structure og where
 E:Int
 cO:List (List ao)
 us:List Int
 f:Int
 p:Bool
def fD (x:og):List R:=cd x.E::(x.cO.map j6++(x.us.map cd++[cd x.f,la x.p]))
def og.xr (x:og)(f:Int):og:=⟨x.E,x.cO,x.us,f,x.p⟩
def og.sp (x:og)(p:Bool):og:=⟨x.E,x.cO,x.us,x.f,p⟩
structure og.dj (x:og):Prop where
 cO:(D x.cO)=10
 us:(D x.us)=11
theorem CI {x:og}(h:x.dj):(fD x).length=24:=by
 simp[fD,h.cO,h.us]
theorem ax1 {x y:og}(O:x.dj)(ar:y.dj)(h:fD x=fD y):x=y:=by
 unfold fD at h;obtain⟨F,I⟩:=wO h;obtain⟨af,aM⟩:=Gm I (by rw[ak,ak,O.cO,ar.cO]);obtain⟨bk,bI⟩:=Gm aM (by rw[ak,ak,O.us,ar.us]);obtain⟨bH,b6⟩:=wO bI;obtain⟨iN,-⟩:=wO b6;obtain⟨a8,bV,cZ,ea,iv⟩:=x;obtain⟨tI,tJ,EK,EL,aLa⟩:=y;have aC:=map_inj (λa b h=>ax0 h) _ _ af;have bZ:=QT bk;simp only[cd,la,R.J.injEq,Data.int.injEq,Data.bool.injEq,true_and] at F bH iN;dsimp only at *;rw[F,aC,bZ,bH,iN]
section
variable {x:og} (h:x.dj)
include h
omit h in
theorem ax2:gq 1 (fD x)=[cd x.E]:=rfl
omit h in
theorem ajN {k:Nat}{l:List ao}(Q:x.cO[k]?=some l):gq 1 (gI (1+k) (fD x))=[j6 l]:=by
 have ay:=(dz.1 Q).1;unfold fD;rw[y6,CJ,ajO (by rw[ak];omega),Co (by rw[rp,ak];omega)];exact Az (f:=j6) Q
theorem Mh {k:Nat}{z:Int}(Q:x.us[k]?=some z):gq 1 (gI (11+k) (fD x))=[cd z]:=by
 have ay:=(dz.1 Q).1;unfold fD;rw[show 11+k=(10+k)+1 by omega,CJ,rn,kP (by rw[ak,h.cO];omega),ak,h.cO,jg,show 10+k-10=k by omega,ajO (by rw[ak];omega),Co (by rw[rp,ak];omega)]
 exact Az (f:=cd) Q
theorem Mi:gq 1 (gI 22 (fD x))=[cd x.f]:=by
 unfold fD;rw[CJ,rn,kP (by rw[ak,h.cO];omega),ak,h.cO,jg,rn,kP (by rw[ak,h.us];omega),ak,h.us]
 rfl
theorem ajP:gq 1 (gI 23 (fD x))=[la x.p]:=by
 unfold fD;rw[CJ,rn,kP (by rw[ak,h.cO];omega),ak,h.cO,jg,rn,kP (by rw[ak,h.us];omega),ak,h.us]
 rfl
theorem ax3 (f:Int):gq 22 (fD x)++[R.J (.int .i64 f)]++gI 23 (fD x)=fD (x.xr f):=by
 have e:fD x=(cd x.E::(x.cO.map j6++x.us.map cd))++[cd x.f,la x.p]:=by simp[fD]
 have l:(cd x.E::(x.cO.map j6++x.us.map cd)).length=22:=by simp[h.cO,h.us]
 rw[e,Co (by omega),dt (by omega),rn,kP (by omega),l];simp[fD,og.xr,cd]
theorem ajQ (p:Bool):gq 23 (fD x)++[R.J (.bool p)]++gI 24 (fD x)=fD (x.sp p):=by
 have e:fD x=(cd x.E::(x.cO.map j6++(x.us.map cd++[cd x.f])))++[la x.p]:=by simp[fD]
 have l:(cd x.E::(x.cO.map j6++(x.us.map cd++[cd x.f]))).length=23:=by simp[h.cO,h.us]
 rw[e,Co (by omega),dt (by omega),rn,kP (by omega),l];simp[fD,og.sp,la]
end
structure dc where
 E:List Int
 cs:List ao
 fl:List Int
 P:List Bool
 g:Nat
 gs:List Nat
def dc.gD (a:dc)(i:Nat):og:=⟨a.E.getD i 0,bF 10 λk=>dh a.cs i k,bF 11 λk=>cS a.cs i (k:Nat),a.fl.getD i 10,a.P.getD i false⟩
theorem dc.xt (a:dc)(i:Nat):(a.gD i).dj:=⟨gM _ _,gM _ _⟩
structure dc.At (a:dc) (m:Mem):Prop where
 can:a.cs=dw (D a.E) a.cs
 fl:(D a.fl)=D a.E
 pl:(D a.P)=D a.E
 Q2:(D a.gs)=D a.E
 row:m 228023=some (a.g,bF (D a.E) λi => .ptr (228500+i) (a.gs.getD i 0) 0)
 dd:∀i,i<(D a.E)->m (228500+i)=some (a.gs.getD i 0,fD (a.gD i))
theorem Mj {α:Type}{d:α}{n:Nat}{a b:List α}(aN:(D a)=n)(ah:(D b)=n)(h:∀i,i<n->a.getD i d=b.getD i d):a=b:=by
 apply o4;intro i;rcases h9 i n with M|M
 ·have:=h i M;rw[en,en,bx (by omega),bx (by omega)] at this;rw[bx (by omega),bx (by omega)];exact congrArg some this
 ·rw[ke (by omega),ke (by omega)]
theorem ajR {α:Type}{n:Nat}{p q:Nat->α}(h:bF n p=bF n q):∀i,i<n->p i=q i:=λi M=>by
 have F:=iV p M;rw[h,iV q M] at F;exact (mj F).symm
theorem dc.uniq {a b:dc}{m:Mem}(h:a.At m)(ct:b.At m):a=b:=by
 obtain⟨cU,de,a3,a4,a5,s4⟩:=a;obtain⟨df,eD,j3,l2,axC,ajt⟩:=b;obtain⟨aI,c2,c3,c4,yN,ZU⟩:=h;obtain⟨d1,d2,d3,d4,d5,d6⟩:=ct;dsimp only at *;rw[yN,cj,fp] at d5;obtain⟨rfl,e8⟩:=d5
 have aK:(D cU)=D df:=by
  have:=congrArg D e8;rwa [gM,gM] at this
 rw[<-aK] at e8 d1 d2 d3 d4 d6
 have bc:s4=ajt:=Mj (d:=0) c4 d4 λi M=>by
  have:=ajR e8 i M;rw[R.ptr.injEq] at this;exact this.2.1
 subst bc
 have ah:∀i,i<(D cU)->dc.gD ⟨cU,de,a3,a4,a5,s4⟩ i=dc.gD ⟨df,eD,j3,l2,a5,s4⟩ i:=λi M=>by
  have F:=ZU i M;rw[d6 i M,cj,fp] at F;exact (ax1 (dc.xt _ _) (dc.xt _ _) F.2).symm
 simp only[dc.gD,og.mk.injEq] at ah;have aA:cU=df:=Mj (d:=0) rfl aK.symm λi M=>(ah i M).1;subst aA
 have aC:de=eD:=by
  rw[aI,d1];exact ai1 λi M k Q=>ajR (ah i M).2.1 k Q
 have bZ:a3=j3:=Mj (d:=10) c2 d2 λi M=>(ah i M).2.2.2.1;have dq:a4=l2:=Mj (d:=false) c3 d3 λi M=>(ah i M).2.2.2.2;rw[aC,bZ,dq]
theorem dc.At.az {a:dc}{mem m:Mem}{n:Nat}(h:a.At mem)(aF:er n mem m)(aK:n≠228)(bk:(D a.E)<=6):a.At m :=
 ⟨h.can,h.fl,h.pl,h.Q2,by rw[aF 228023 (by omega)];exact h.row,λi M=>by rw[aF (228500+i) (by omega)];exact h.dd i M⟩
def ZV:bT:=cn 6 1 [.t 2] (X [cH 2 false] (X [H 3 0,(dX 4 Ku 3),fs 5 4,H 2 5] .ret))
def ZW:bT:=cn 9 1 [.t 2] (X [cH 2 false] (X [H 3 0,bn 4 .geq 3 0,H 5 4,⟨some 6,some (5,true),.cQ (.t 0)⟩,⟨some 7,some (5,true),.bin .leq (.t 6) (.c (au 1000000000000000))⟩,gH 8 5 7,H 2 8] .ret))
def ZX:bT:=cn 42 2 [.t 3] (X [dH 2 252002 0,cH 3 false] (X [bl 4 0 2,aU 5 1 4,bn 6 .lss 5 0,H 7 6,⟨some 8,some (7,false),.dQ 0 (.t 2)⟩,⟨some 9,some (7,false),.load 1 false (.t 8)⟩,⟨some 10,some (7,false),.load 1 false (.t 1)⟩,⟨some 11,some (7,false),.len (.t 10)⟩,⟨some 12,some (7,false),.bin .geq (.t 9) (.t 11)⟩,eu 13 7 12,H 14 13,⟨some 15,some (14,false),.dQ 1 (.t 2)⟩,⟨some 16,some (14,false),.load 1 false (.t 15)⟩,⟨some 17,some (14,false),.bin .lss (.t 16) (.c (.J (.int .i64 (-1))))⟩,eu 18 14 17,H 19 18,⟨some 20,some (19,false),.dQ 1 (.t 2)⟩,⟨some 21,some (19,false),.load 1 false (.t 20)⟩,⟨some 22,some (19,false),.load 1 false (.t 1)⟩,⟨some 23,some (19,false),.len (.t 22)⟩,⟨some 24,some (19,false),.bin .geq (.t 21) (.t 23)⟩,eu 25 19 24,H 26 25,⟨some 27,some (26,false),.dQ 2 (.t 2)⟩,⟨some 28,some (26,false),.load 1 false (.t 27)⟩,⟨some 29,some (26,false),.bin .lss (.t 28) (.c (au 0))⟩,eu 30 26 29,H 31 30,⟨some 32,some (31,false),.dQ 2 (.t 2)⟩,⟨some 33,some (31,false),.load 1 false (.t 32)⟩,⟨some 34,some (31,false),.bin .geq (.t 33) (.c (au 10))⟩,eu 35 31 34,H 36 35,⟨some 37,some (36,false),.dQ 3 (.t 2)⟩,⟨some 38,some (36,false),.load 1 false (.t 37)⟩,⟨some 39,some (36,false),.call Ku [(.t 38)]⟩,⟨some 40,some (36,false),.un .not (.t 39)⟩,eu 41 36 40,H 3 41] .ret))
abbrev H6:Int×Int×Int->List Data:=λ(x,a,b)=>[.int .i64 x,.int .i64 a,.int .i64 b]
def Q3:=cp H6 λ(x,a,b)=>some (.same (.bool (decide (a<=x)&&decide (x<=b))))
theorem Q4:∀a b,H6 a=H6 b->a=b:=by
  rintro⟨a8,cU,df⟩ ⟨bV,de,eD⟩ h;simp only[bb,Data.int.injEq,Data.agg.injEq,Data.Y.injEq,Data.bool.injEq,Data.str.injEq,Data.ptr.injEq,Data.cI.injEq,fp,true_and,and_true] at h ⊢
  first|exact h|simpa [ye,and_assoc] using h|grind
@[go_sem] theorem aLb (x:Int)(a:Int)(b:Int):Q3 [.int .i64 x,.int .i64 a,.int .i64 b]=some (.same (.bool (decide (a<=x)&&decide (x<=b)))):=cA Q4 (x,a,b)
theorem ax4 (T:bh)  (x:Int) (a:Int) (b:Int):WP T WM (.same (.bool (decide (a<=x)&&decide (x<=b)))) [.J (.int .i64 x),.J (.int .i64 a),.J (.int .i64 b)]:=by
 refine cB ?_;simp only[WM];rcases aI:decide (a<=x)
 ·have c2:decide (x>=a)=false:=aI;refine aX ?_;repeat' (intro h<;>simp only[h,go_sem,go_sem_proc,aI,c2,fz]<;>try refine aw ?_ ?_)
 ·have c2:decide (x>=a)=true:=aI;refine aX ?_;repeat' (intro h<;>simp only[h,go_sem,go_sem_proc,aI,c2,gT]<;>try refine aw ?_ ?_)
abbrev ZY:Int->List Data:=λ(x:Int)=>[.int .i64 x,.ptr [.fn ve []]]
def ZZ:=cp ZY λ(x:Int)=>some (.same (.bool (!gj x)))
theorem ax5:∀a b,ZY a=ZY b->a=b:=by
  intro a8 bV h;simp only[bb,Data.int.injEq,Data.agg.injEq,Data.Y.injEq,Data.bool.injEq,Data.str.injEq,Data.ptr.injEq,Data.cI.injEq,fp,true_and,and_true] at h ⊢
  first|exact h|simpa [ye,and_assoc] using h|grind
@[go_sem] theorem ax6 (x:Int):ZZ [.int .i64 x,.ptr [.fn ve []]]=some (.same (.bool (!gj x))):=cA ax5 x
theorem ax7 (T:bh)(Z0:T ve=aV Q3)(x:Int):WP T WN (.same (.bool (!gj x))) [.J (.int .i64 x),.J (.ptr [.fn ve []])]:=by
 refine cB ?_;simp only[WN];unfold gj;refine aX ?_;repeat' (intro h<;>simp only[h,go_sem,go_sem_proc,Z0]<;>try refine aw ?_ ?_)
abbrev Z1:Int×Int×Int×Int×Int->List Data:=λ(a,b,k,x,n)=>[.agg [.int .i64 a,.int .i64 b,.int .i64 k,.int .i64 x],.ptr [.fn ve []],.ptr [.int .i64 n]]
def Z2:=cp Z1 λ(a,b,k,x,n)=>cV (0<=n/\n<=1000000) (.same (.bool (!hI n (a,b,k,x))))
theorem ax8:∀a b,Z1 a=Z1 b->a=b:=by
  rintro⟨cU,df,ca,a8,hC⟩ ⟨de,eD,c7,bV,ie⟩ h;simp only[bb,Data.int.injEq,Data.agg.injEq,Data.Y.injEq,Data.bool.injEq,Data.str.injEq,Data.ptr.injEq,Data.cI.injEq,fp,true_and,and_true] at h ⊢
  first|exact h|simpa [ye,and_assoc] using h|grind
@[go_sem] theorem ax9 (a:Int)(b:Int)(k:Int)(x:Int)(n:Int)(G:0<=n/\n<=1000000):Z2 [.agg [.int .i64 a,.int .i64 b,.int .i64 k,.int .i64 x],.ptr [.fn ve []],.ptr [.int .i64 n]]=some (.same (.bool (!hI n (a,b,k,x)))):=(cA ax8 (a,b,k,x,n)).trans (cY G _)
theorem aya (T:bh)(Z0:T ve=aV Q3)(a:Int)(b:Int)(k:Int)(x:Int)(n:Int)(G:0<=n/\n<=1000000):WP T WO (.same (.bool (!hI n (a,b,k,x)))) [.J (.agg [.int .i64 a,.int .i64 b,.int .i64 k,.int .i64 x]),.J (.ptr [.fn ve []]),.J (.ptr [.int .i64 n])]:=by
 refine cB ?_;simp only[WO];have w:IntKind.i64.wrap (n-1)=n-1:=by rw[fi _]
 have e:hI n (a,b,k,x)=((decide (0<=a)&&decide (a<=n-1))&&((decide (-1<=b)&&decide (b<=n-1))&&((decide (0<=k)&&decide (k<=9))&&(decide (0<=x)&&decide (x<=1000000000000000))))):=by
  rw[w2,Mc];simp only[ec,decide_eq_true_eq];omega
 rw[e];rcases aI:(decide (0<=a)&&decide (a<=n-1))<;>rcases c2:(decide (-1<=b)&&decide (b<=n-1))<;>rcases c3:(decide (0<=k)&&decide (k<=9))<;>rcases c4:(decide (0<=x)&&decide (x<=1000000000000000))
 all_goals
      refine aX ?_;repeat' (intro h<;>simp only[h,go_sem,go_sem_proc,Z0,w,aI,c2,c3,c4]<;>try refine aw ?_ ?_)
def Z3:bT:=cn 15 3 [.t 6] (X [cH 6 false] (X [H 7 1,H 8 0,bB 9 .leq 7 8,H 10 9,⟨some 11,some (10,true),.cQ (.t 0)⟩,⟨some 12,some (10,true),.cQ (.t 2)⟩,⟨some 13,some (10,true),.bin .leq (.t 11) (.t 12)⟩,gH 14 10 13,H 6 14] .ret))
def Z4:bT:=cn 6 1 [.t 2] (X [cH 2 false] (X [H 3 0,(aD 4 (.call DH [(.t 3),(.c (au 0)),(.c (au 1000000000000000))])),fs 5 4,H 2 5] .ret))
def Z5:bT:=cn 31 3 [.t 4] (X [dH 3 362003 0,cH 4 false] (X [bl 5 0 3,aU 6 1 5,aU 7 1 1,bn 8 .sub 7 1,(aD 9 (.call DH [(.t 6),(.c (au 0)),(.t 8)])),fs 10 9,H 11 10,⟨some 12,some (11,false),.dQ 1 (.t 3)⟩,⟨some 13,some (11,false),.load 1 false (.t 12)⟩,⟨some 14,some (11,false),.load 1 false (.t 1)⟩,⟨some 15,some (11,false),.bin .sub (.t 14) (.c (au 1))⟩,⟨some 16,some (11,false),.call DH [(.t 13),(.c (.J (.int .i64 (-1)))),(.t 15)]⟩,⟨some 17,some (11,false),.un .not (.t 16)⟩,eu 18 11 17,H 19 18,⟨some 20,some (19,false),.dQ 2 (.t 3)⟩,⟨some 21,some (19,false),.load 1 false (.t 20)⟩,⟨some 22,some (19,false),.call DH [(.t 21),(.c (au 0)),(.c (au 9))]⟩,⟨some 23,some (19,false),.un .not (.t 22)⟩,eu 24 19 23,H 25 24,⟨some 26,some (25,false),.load 1 false (.t 2)⟩,⟨some 27,some (25,false),.dQ 3 (.t 3)⟩,⟨some 28,some (25,false),.load 1 false (.t 27)⟩,⟨some 29,some (25,false),.jD (.t 26) [(.t 28)]⟩,eu 30 25 29,H 4 30] .ret))
def nz (l:List Int):List Data:=[.Y (l.map ag)]
theorem Z6:∀a b:List Int,nz a=nz b->a=b:=by
 intro a b h;simp only[nz,bb,Data.Y.injEq,and_true] at h;exact map_inj fj _ _ h
def ayb (a:List (List Int)):Prop:=D a<=1000000/\∀l∈a,D l<=1000000
def fk {α:Type}:List ao->List α->Int->List α
 |c::cs,p::ps,di=>if c.1==di then p::fk cs ps di else fk cs ps di
 |_,_,_=>[]
theorem ajS {α:Type}:∀(cs:List ao) (ps:List α) (c:ao) (p:α) (di:Int),D cs=(D ps)->fk (cs++[c]) (ps++[p]) di=fk cs ps di++if c.1==di then [p] else []
 | [],[],c,p,di,_=>by simp only[jg,fk]
 | [],_::_,_,_,_,h=>by simp at h
 |_::_,[],_,_,_,h=>by simp at h
 |a::cs,b::ps,c,p,di,h=>by
  have ax:=ajS cs ps c p di (by simpa using h);simp only[jO,fk,ax]
  split<;>rfl
theorem ajT {α:Type}(cs:List ao)(aO:ao->α)(di:Int):fk cs (cs.map aO) di=(cu cs di).map aO:=by
 unfold cu
 induction cs with
 |nil=>rfl
 |cons c cs ax =>
  rw[eE,fk,ax]
  by_cases h:(c.1==di)=true
  ·rw[ad h,Z7,ad h];rfl
  ·rw[ae h,Z7,ae h]
theorem ajU {α:Type}:∀(cs:List ao) (ps:List α) (di:Int),(fk cs ps di).length<=D cs
 | [],_,_=>by simp[fk]
 |_::_,[],_=>by simp[fk]
 |a::cs,b::ps,di=>by
  have ax:=ajU cs ps di;rw[fk]
  split<;>simp<;>omega
theorem Z8 {α β:Type}(f:α->β):∀(cs:List ao) (ps:List α) (di:Int),fk cs (ps.map f) di=(fk cs ps di).map f
 | [],_,_=>by simp[fk]
 |_::_,[],_=>by simp[fk]
 |a::cs,b::ps,di=>by
  have ax:=Z8 f cs ps di;rw[eE,fk,fk,ax]
  split<;>simp
theorem Z9 {α:Type}:∀(cs:List ao) (ps:List α) (di:Int),D ps=(D cs)->(fk cs ps di).length=(cu cs di).length
 | [],_,_,_=>by simp[fk,cu]
 |_::_,[],_,h=>by simp at h
 |a::cs,b::ps,di,h=>by
  have ax:=Z9 cs ps di (by simpa using h);unfold cu at ax ⊢;rw[fk,Z7]
  split<;>simp[ax]
theorem Q5 {α:Type}{x:α}:∀{cs:List ao} {ps:List α} {di:Int},x∈fk cs ps di->x∈ps
 | [],_,_,h=>by simp[fk] at h
 |_::_,[],_,h=>by simp[fk] at h
 |a::cs,b::ps,di,h=>by
  rw[fk] at h
  split at h
  ·rcases hE.1 h with rfl|h
   ·simp
   ·exact gX _ (Q5 h)
  ·exact gX _ (Q5 h)
def h5 (l:List ao)(q:Nat->Rat):Nat->Int
 |0=>10
 |k+1=>match l[k]? with
  |some c=>if q k<(c.2.2.2:Rat) then min (h5 l q k) c.2.2.1 else h5 l q k
  |none=>h5 l q k
theorem ajV {l:List ao}{q:Nat->Rat}(h:∀c∈l,0<=c.2.2.1/\c.2.2.1<10)(k:Nat):0<=h5 l q k/\h5 l q k<=10:=by
 induction k with
 |zero=>exact⟨show (0:Int)<=10 by decide,show (10:Int)<=10 by decide⟩
 |succ k ax =>
  unfold h5
  split
  ·rename_i c G;have:=h c (ep G)
   split<;>omega
  ·exact ax
theorem ayc {l:List ao}{q:Nat->Rat}(h:∀c∈l,0<=c.2.2.1/\c.2.2.1<10)(k:Nat):h5 l q k<10↔∃i,i<k/\∃c,l[i]?=some c/\q i<(c.2.2.2:Rat):=by
 induction k with
 |zero=>exact⟨λh=>absurd h (show ¬ (10:Int)<10 by decide),fun⟨i,h,_⟩=>by omega⟩
 |succ k ax =>
  unfold h5
  split
  ·rename_i c G;have ah:=h c (ep G);have Q:=ajV (q:=q) h k
   by_cases aG:q k<(c.2.2.2:Rat)
   ·rw[ad aG];exact⟨λ_=>⟨k,by omega,c,G,aG⟩,λ_=>by omega⟩
   ·rw[ae aG,ax]
    constructor
    ·rintro⟨i,F,I⟩;exact⟨i,by omega,I⟩
    ·rintro⟨i,F,c',I,af⟩
     by_cases Mk:i=k
     ·subst Mk;rw[G] at I;cases I;exact absurd af aG
     ·exact⟨i,by omega,c',I,af⟩
  ·rename_i G;rw[ax]
   constructor
   ·rintro⟨i,F,I⟩;exact⟨i,by omega,I⟩
   ·rintro⟨i,F,c',I,af⟩
    by_cases Mk:i=k
    ·subst Mk;rw[G] at I;cases I
    ·exact⟨i,by omega,c',I,af⟩
structure Q6 (l:List ao) (q:List Rat):Prop where
 own:ko l
 len:(D q)=D l
 lim:∀x∈q,dm x
def H7 (l:List ao)(q:List Rat):Data:=if h5 l (λi=>q.getD i 0) (D l)<10 then .cI [.int .i64 (h5 l (λi=>q.getD i 0) (D l)),.bool true] else .cI [.int .i64 0,.bool false]
def nA (cs:List ao)(ps:List Rat)(i:Int):Int:=h5 (cu cs i) (λk=>(fk cs ps i).getD k 0) (cu cs i).length
def qb (cs:List ao)(ps:List Rat)(i:Int):Int:=if nA cs ps i<10 then nA cs ps i else 0
theorem ayd (cs:List ao)(ps:List Rat)(i:Int):H7 (cu cs i) (fk cs ps i)=.cI [.int .i64 (qb cs ps i),.bool (decide (nA cs ps i<10))]:=by
 unfold H7 qb nA
 split
 ·rename_i h;rw[iw h]
 ·rename_i h;rw[j9 h]
def oh (cs:List ao)(ps:List Rat)(set:List Int)(i:Int):Bool:=cs.any λc=>c.1==i&&(c.2.2.1==qb cs ps i&&(decide (c.2.2.2>0) && !decide (c.2.1∈set)))
structure j7 (E:List Int) (cs:List ao) (ps:List Rat):Prop where
 len:(D ps)=D cs
 l:(D cs)<=2000
 n:(D E)<=60
 own:∀i:Int,ko (cu cs i)
 lim:∀x∈ps,dm x
theorem j7.short {E:List Int}{cs:List ao}{ps:List Rat}(h:j7 E cs ps)(i:Int):Q6 (cu cs i) (fk cs ps i):=⟨h.own i,Z9 cs ps i h.len,λx O=>h.lim x (Q5 O)⟩
def eJ (E:List Int)(cs:List ao)(hv pv:List a1)(fl:List (List Int)):List Data:=[.Y (E.map ag),.Y (cs.map cx),.Y (hv.map aH),.Y (pv.map aH),.Y (fl.map nz)]
theorem AE {E H4:List Int}{cs na:List ao}{hv lh pv um:List a1}{fl AA:List (List Int)}(h:eJ E cs hv pv fl=eJ H4 na lh um AA):E=H4/\cs=na/\hv=lh/\pv=um/\fl=AA:=by
 simp only[eJ,bb,Data.Y.injEq,and_true] at h;exact⟨map_inj fj _ _ h.1,map_inj s3 _ _ h.2.1,map_inj m0 _ _ h.2.2.1,map_inj m0 _ _ h.2.2.2.1,map_inj Z6 _ _ h.2.2.2.2⟩
abbrev aaa:Int×(List a1)×Nat->List Data:=λ(z,h,i)=>[.int .i64 z,.ptr [.Y (h.map aH)],.ptr [.int .i64 i]]
def aab:=cp aaa λ(z,h,i)=>cV (dB z/\i<D h/\e6 h) (.same (.bool (decide (lz (h.getD i ft) (av (z:Rat))<0))))
theorem aye:∀a b,aaa a=aaa b->a=b:=by
  rintro⟨jm,F,i1⟩ ⟨kl,I,i2⟩ h;simp only[bb,Data.int.injEq,Data.ptr.injEq,Data.Y.injEq,and_true,true_and] at h;exact ed h.1 (ed (map_inj m0 _ _ h.2.1) (by have:=h.2.2;dsimp only;omega))
@[go_sem] theorem ayf (z:Int)(h:List a1)(i:Nat)(G:dB z/\i<D h/\e6 h):aab [.int .i64 z,.ptr [.Y (h.map aH)],.ptr [.int .i64 i]]=some (.same (.bool (decide (lz (h.getD i ft) (av (z:Rat))<0)))):=(cA aye (z,h,i)).trans (cY G _)
theorem ayg (T:bh)(hz:T pa=aV vO)(eK:T oI=aV tW)(z:Int)(h:List a1)(i:Nat)(G:dB z/\i<D h/\e6 h):WP T WL (.same (.bool (decide (lz (h.getD i ft) (av (z:Rat))<0)))) [.J (.int .i64 z),.J (.ptr [.Y (h.map aH)]),.J (.ptr [.int .i64 i])]:=by
 refine cB ?_;simp only[WL];obtain⟨aS,M,cX⟩:=G;have hw:=CF z aS;obtain⟨x,O⟩:∃x,h[i]?=some x:=⟨_,bx M⟩;have GQ:h.getD i ft=x:=by rw[en,O];rfl
 obtain⟨rV,py⟩:=cX.2 x (ep O);obtain⟨vS,vT⟩:=lA (uy aS);rw[GQ];generalize av (z:Rat)=Z at *;obtain⟨⟨cU,de⟩,⟨a3,a4⟩⟩:=Z;obtain⟨⟨df,eD⟩,⟨j3,l2⟩⟩:=x;have iA:=afX df eD j3 l2 cU de a3 a4 ⟨rV,py,vS,vT⟩;simp only[aH] at hw;simp only[go_sem,go_sem_proc,hz,eK,hw,O,iA,aH,ak,bq];repeat' (first|refine aw ?_ ?_|fail)<;>intro h<;>simp only[h,go_sem,go_sem_proc,hz,eK,hw,O,iA,aH,ak,bq]
def Q7:=cp wJ λ(x:Int)=>some (.same (.bool (gj x)))
@[go_sem] theorem aLc (x:Int):Q7 [.int .i64 x]=some (.same (.bool (gj x))):=cA zF x
theorem ayh (T:bh)  (x:Int):WP T ZW (.same (.bool (gj x))) [.J (.int .i64 x)]:=by
 refine cB ?_;simp only[ZW];unfold gj;rcases aI:decide (0<=x)
 ·have c2:decide (x>=0)=false:=aI;refine aX ?_;repeat' (intro h<;>simp only[h,go_sem,go_sem_proc,aI,c2,fz]<;>try refine aw ?_ ?_)
 ·have c2:decide (x>=0)=true:=aI;refine aX ?_;repeat' (intro h<;>simp only[h,go_sem,go_sem_proc,aI,c2,gT]<;>try refine aw ?_ ?_)
def aac:=cp wJ λ(x:Int)=>some (.same (.bool (!gj x)))
@[go_sem] theorem ayi (x:Int):aac [.int .i64 x]=some (.same (.bool (!gj x))):=cA zF x
theorem ayj (T:bh)(Ml:T Ku=aV Q7)(x:Int):WP T ZV (.same (.bool (!gj x))) [.J (.int .i64 x)]:=by
 refine cB ?_;simp only[ZV];refine aX ?_;repeat' (intro h<;>simp only[h,go_sem,go_sem_proc,Ml]<;>try refine aw ?_ ?_)
def Q8:=cp H6 λ(x,a,b)=>some (.same (.bool (decide (a<=x)&&decide (x<=b))))
@[go_sem] theorem aLd (x:Int)(a:Int)(b:Int):Q8 [.int .i64 x,.int .i64 a,.int .i64 b]=some (.same (.bool (decide (a<=x)&&decide (x<=b)))):=cA Q4 (x,a,b)
theorem ayk (T:bh)  (x:Int) (a:Int) (b:Int):WP T Z3 (.same (.bool (decide (a<=x)&&decide (x<=b)))) [.J (.int .i64 x),.J (.int .i64 a),.J (.int .i64 b)]:=by
 refine cB ?_;simp only[Z3];rcases aI:decide (a<=x)
 ·refine aX ?_;repeat' (intro h<;>simp only[h,go_sem,go_sem_proc,aI,fz]<;>try refine aw ?_ ?_)
 ·refine aX ?_;repeat' (intro h<;>simp only[h,go_sem,go_sem_proc,aI,gT]<;>try refine aw ?_ ?_)
def Q9:=cp wJ λ(x:Int)=>some (.same (.bool (!gj x)))
@[go_sem] theorem ayl (x:Int):Q9 [.int .i64 x]=some (.same (.bool (!gj x))):=cA zF x
theorem aym (T:bh)(aad:T DH=aV Q8)(x:Int):WP T Z4 (.same (.bool (!gj x))) [.J (.int .i64 x)]:=by
 refine cB ?_;simp only[Z4];unfold gj;refine aX ?_;repeat' (intro h<;>simp only[h,go_sem,go_sem_proc,aad]<;>try refine aw ?_ ?_)
def Ra:=cp H6 λ(x,a,b)=>some (.same (.bool (decide (a<=x)&&decide (x<=b))))
@[go_sem] theorem aLe (x:Int)(a:Int)(b:Int):Ra [.int .i64 x,.int .i64 a,.int .i64 b]=some (.same (.bool (decide (a<=x)&&decide (x<=b)))):=cA Q4 (x,a,b)
theorem ayn (T:bh)  (x:Int) (a:Int) (b:Int):WP T WW (.same (.bool (decide (a<=x)&&decide (x<=b)))) [.J (.int .i64 x),.J (.int .i64 a),.J (.int .i64 b)]:=by
 refine cB ?_;simp only[WW];rcases aI:decide (a<=x)
 ·refine aX ?_;repeat' (intro h<;>simp only[h,go_sem,go_sem_proc,aI,fz]<;>try refine aw ?_ ?_)
 ·refine aX ?_;repeat' (intro h<;>simp only[h,go_sem,go_sem_proc,aI,gT]<;>try refine aw ?_ ?_)
def Rb:=cp wJ λ(x:Int)=>some (.same (.bool (gj x)))
@[go_sem] theorem aLf (x:Int):Rb [.int .i64 x]=some (.same (.bool (gj x))):=cA zF x
theorem ayo (T:bh)(aae:T DD=aV Ra)(x:Int):WP T WV (.same (.bool (gj x))) [.J (.int .i64 x)]:=by
 refine cB ?_;simp only[WV];unfold gj;refine aX ?_;repeat' (intro h<;>simp only[h,go_sem,go_sem_proc,aae]<;>try refine aw ?_ ?_)
abbrev aaf:Int->List Data:=λ(x:Int)=>[.int .i64 x,.ptr [.fn ni []]]
def aag:=cp aaf λ(x:Int)=>some (.same (.bool (!gj x)))
theorem ayp:∀a b,aaf a=aaf b->a=b:=by
  intro a8 bV h;simp only[bb,Data.int.injEq,Data.agg.injEq,Data.Y.injEq,Data.bool.injEq,Data.str.injEq,Data.ptr.injEq,Data.cI.injEq,fp,true_and,and_true] at h ⊢
  first|exact h|simpa [ye,and_assoc] using h|grind
@[go_sem] theorem ayq (x:Int):aag [.int .i64 x,.ptr [.fn ni []]]=some (.same (.bool (!gj x))):=cA ayp x
theorem ayr (T:bh)(aah:T ni=aV Rb)(x:Int):WP T W7 (.same (.bool (!gj x))) [.J (.int .i64 x),.J (.ptr [.fn ni []])]:=by
 refine cB ?_;simp only[W7];refine aX ?_;repeat' (intro h<;>simp only[h,go_sem,go_sem_proc,aah]<;>try refine aw ?_ ?_)
abbrev aai:Int×(List Int)×(List ao)×(List a1)×(List Rat)×(List (List Int))×(List Int)->List Data:=λ(x,E,cs,hv,ps,fl,set)=>[.int .i64 x,.ptr (eJ E cs hv (ps.map av) fl),.ptr [.Y (set.map ag)]]
def H8:=cp aai λ(x,E,cs,hv,ps,fl,set)=>cV (j7 E cs ps/\D set<=1000000) (.same (.bool (oh cs ps set x)))
theorem ays:∀a b,aai a=aai b->a=b:=by
  rintro⟨a8,vU,vV,nO,Mm,AF,ajW⟩ ⟨bV,vW,oC,nP,Mn,AG,ajX⟩ h;simp only[bb,Data.int.injEq,Data.ptr.injEq,Data.Y.injEq,and_true,true_and] at h;obtain⟨F,cD,I⟩:=h;obtain⟨rfl,rfl,rfl,cf,rfl⟩:=AE cD;rw[F,map_inj fj _ _ I,map_inj (λ_ _ aQ=>wZ aQ) _ _ cf]
@[go_sem] theorem ajY (x:Int)(E:List Int)(cs:List ao)(hv:List a1)(ps:List Rat)(fl:List (List Int))(set:List Int)(G:j7 E cs ps/\D set<=1000000):H8 [.int .i64 x,.ptr (eJ E cs hv (ps.map av) fl),.ptr [.Y (set.map ag)]]=some (.same (.bool (oh cs ps set x))):=(cA ays (x,E,cs,hv,ps,fl,set)).trans (cY G _)
theorem H9 (T:bh)(id:FuncId)(eO:List Data)(aO:List Data->Option eL)(cN:T id=aV aO)(p:Int->Bool)(l:List Int)(aq:(D l)<=1000000)(e5:∀x∈l,aO (.int .i64 x::eO)=some (.same (.bool (p x)))):WP T KA (.same (.int .i64 (kG p l))) [.J (.Y (l.map ag)),.J (.fn id eO)]:=by
 refine cB ?_;simp only[KA];simp only[go_sem,go_sem_proc,ak];refine dv [0,1,7] [] (λ(i:Nat) tm mem=>i<=D l/\(∀x∈l.take i,p x=false)/\tm 8=.J (.int .i64 i)) (λi=>D l-i) 0 (by refine⟨fg _,by simp,rfl⟩) ?_;intro vs ms aT aR;simp only[go_sem,go_sem_proc,ak] at aT aR;subst aT aR;rintro i tm mem Q hm ⟨M,eZ,b6⟩;simp only[go_sem,go_sem_proc,bb] at Q hm;obtain⟨al,F,bH⟩:=Q;have iA:∀m:Mem,(eO.map R.J).mapM (cz 6 m)=some eO:=λm=>tC (cz 6 m) (λd=>rfl) eO;rcases dA (i<D l) with ay|b9
 ·have O:=bx ay;have mF:=e5 _ (nc ay);have b8:=λh=>Lg (p:=p) eZ O h;have hK:=λh=>PC (p:=p) eZ O h;generalize l[i]=x at *;have hi:decide ((i:Int)<(D l:Int))=true:=dn;have hw:=e9 (i:=i) (by omega);rcases ah:p x
  ·rw[ah] at mF;simp only[go_sem,go_sem_proc,cN,al,F,bH,b6,O,hi,hw,mF,iA,ag,ak,bq,kB];repeat' (first|refine aw ?_ ?_|fail)<;>intro h<;>simp only[h,go_sem,go_sem_proc,cN,al,F,bH,b6,O,hi,hw,mF,iA,ag,ak,bq,kB]
   exact⟨i+1,by omega,by omega,hK ah,rfl⟩
  ·rw[ah] at mF;rw[b8 ah];simp only[go_sem,go_sem_proc,cN,al,F,bH,b6,O,hi,hw,mF,iA,ag,ak,bq,kB];repeat' (first|refine aw ?_ ?_|fail)<;>intro h<;>simp only[h,go_sem,go_sem_proc,cN,al,F,bH,b6,O,hi,hw,mF,iA,ag,ak,bq,kB]
 ·have hi:decide ((i:Int)<(D l:Int))=false:=dk;obtain rfl:i=D l:=by omega
  rw[k3] at eZ;rw[PB eZ];simp only[go_sem,go_sem_proc,al,F,bH,b6,hi,ak];repeat' (first|refine aw ?_ ?_|fail)<;>intro h<;>simp only[h,go_sem,go_sem_proc,al,F,bH,b6,hi,ak]
inductive AH where
 |right
 |day
 |hold
 |solve (h:List a1) (i:Nat)
 |rW
 |CK (E:List Int) (cs:List ao) (hv:List a1) (ps:List Rat) (fl:List (List Int)) (set:List Int)
def rX:AH->Data
 |.right => .fn Kq [.ptr [.fn ve []]]
 |.day => .fn Ge []
 |.hold => .fn wI []
 |.solve h i => .fn DA [.ptr [.Y (h.map aH)],.ptr [.int .i64 i]]
 |.rW => .fn BB [.ptr [.fn ni []]]
 |.CK E cs hv ps fl set => .fn tH [.ptr (eJ E cs hv (ps.map av) fl),.ptr [.Y (set.map ag)]]
theorem ayt:∀a b:AH,rX a=rX b->a=b:=by
 intro a b e
 cases a<;>cases b
 all_goals first|rfl|(simp[rX,Kq,Ge,DA,wI,BB,tH] at e;done)|skip
 ·simp only[rX,Data.fn.injEq,bb,Data.ptr.injEq,Data.Y.injEq,Data.int.injEq,and_true,true_and] at e;rw[map_inj m0 _ _ e.1,Int.ofNat.inj e.2]
 ·simp only[rX,Data.fn.injEq,bb,Data.ptr.injEq,Data.Y.injEq,and_true,true_and] at e;obtain⟨cD,I⟩:=e;obtain⟨rfl,rfl,rfl,cf,rfl⟩:=AE cD;rw[map_inj fj _ _ I,map_inj (λ_ _ aQ=>wZ aQ) _ _ cf]
def qc:AH->Int->Bool
 |.right,x => !gj x
 |.day,x => !gj x
 |.hold,x => !gj x
 |.solve h i,x=>decide (lz (h.getD i ft) (av (x:Rat))<0)
 |.rW,x => !gj x
 |.CK _ cs _ ps _ set,x=>oh cs ps set x
def Ia (l:List Int):AH->Prop
 |.right=>True
 |.day=>Ge<900000
 |.hold=>wI<900000
 |.solve h i=>DA<900000/\i<D h/\e6 h/\∀x∈l,dB x
 |.rW=>BB<900000
 |.CK E cs _ ps _ set=>tH<900000/\j7 E cs ps/\D set<=1000000
abbrev Rc:(List Int)×AH->List Data:=λ(l,c)=>[.Y (l.map ag),rX c]
def AJ:=cp Rc λ(l,c)=>cV (D l<=1000000/\Ia l c) (.same (.int .i64 (kG (qc c) l)))
theorem ajZ:∀a b,Rc a=Rc b->a=b:=by
  rintro⟨dY,aI⟩ ⟨ai,c2⟩ h;simp only[bb,Data.Y.injEq,and_true] at h;exact ed (map_inj fj _ _ h.1) (ayt _ _ h.2)
@[go_sem] theorem aj0 (l:List Int)(c:AH)(G:(D l)<=1000000/\Ia l c):AJ [.Y (l.map ag),rX c]=some (.same (.int .i64 (kG (qc c) l))):=(cA ajZ (l,c)).trans (cY G _)
theorem ayu (T:bh)(ayv:T Kq=aV ZZ)(ayw:Ge<900000->T Ge=aV aac)(aaj:wI<900000->T wI=aV Q9)(ayx:DA<900000->T DA=aV aab)(ayy:BB<900000->T BB=aV aag)(Mo:tH<900000->T tH=aV H8)(l:List Int)(c:AH)(G:(D l)<=1000000/\Ia l c):WP T KA (.same (.int .i64 (kG (qc c) l))) [.J (.Y (l.map ag)),.J (rX c)]:=by
 refine cB ?_;simp only[KA];obtain⟨aq,cX⟩:=G
 cases c with
 |right=>exact qO (H9 T _ _ _ ayv (qc .right) l aq λx _=>ax6 x)
 |day=>exact qO (H9 T _ _ _ (ayw cX) (qc .day) l aq λx _=>ayi x)
 |hold=>exact qO (H9 T _ _ _ (aaj cX) (qc .hold) l aq λx _=>ayl x)
 |solve h k=>exact qO (H9 T _ _ _ (ayx cX.1) (qc (.solve h k)) l aq λx O=>ayf x h k ⟨cX.2.2.2 x O,cX.2.1,cX.2.2.1⟩)
 |rW=>exact qO (H9 T _ _ _ (ayy cX) (qc .rW) l aq λx _=>ayq x)
 |CK E cs hv ps fl set=>exact qO (H9 T _ _ _ (Mo cX.1) (qc (.CK E cs hv ps fl set)) l aq λx _=>ajY x E cs hv ps fl set cX.2)
def Re:=cp Rc λ(l,c)=>cV (D l<=1000000/\Ia l c) (.same (.bool (l.any (qc c))))
@[go_sem] theorem aj1 (l:List Int)(c:AH)(G:(D l)<=1000000/\Ia l c):Re [.Y (l.map ag),rX c]=some (.same (.bool (l.any (qc c)))):=(cA ajZ (l,c)).trans (cY G _)
theorem ayz (T:bh)(m5:T wF=aV AJ)(l:List Int)(c:AH)(G:(D l)<=1000000/\Ia l c):WP T U5 (.same (.bool (l.any (qc c)))) [.J (.Y (l.map ag)),.J (rX c)]:=by
 refine cB ?_;simp only[U5];rw[<-Lh];refine aX ?_;repeat' (intro h<;>simp only[h,go_sem,go_sem_proc,m5,G]<;>try refine aw ?_ ?_)
abbrev aak:Int×Int×Int×Int×(List Int)->List Data:=λ(a,b,k,x,E)=>[.agg [.int .i64 a,.int .i64 b,.int .i64 k,.int .i64 x],.ptr [.Y (E.map ag)]]
def aal:=cp aak λ(a,b,k,x,E)=>cV (D E<=1000000) (.same (.bool (!hI (D E) (a,b,k,x))))
theorem ayA:∀a b,aak a=aak b->a=b:=by
  rintro⟨cU,df,ca,a8,vU⟩ ⟨de,eD,c7,bV,vW⟩ h;simp only[bb,Data.agg.injEq,Data.int.injEq,Data.ptr.injEq,Data.Y.injEq,and_true,true_and] at h;obtain⟨⟨F,I,af,aM⟩,bk⟩:=h;rw[F,I,af,aM,map_inj fj _ _ bk]
@[go_sem] theorem ayB (a:Int)(b:Int)(k:Int)(x:Int)(E:List Int)(G:(D E)<=1000000):aal [.agg [.int .i64 a,.int .i64 b,.int .i64 k,.int .i64 x],.ptr [.Y (E.map ag)]]=some (.same (.bool (!hI (D E) (a,b,k,x)))):=(cA ayA (a,b,k,x,E)).trans (cY G _)
theorem ayC (T:bh)(Ml:T Ku=aV Q7)(a:Int)(b:Int)(k:Int)(x:Int)(E:List Int)(G:(D E)<=1000000):WP T ZX (.same (.bool (!hI (D E) (a,b,k,x)))) [.J (.agg [.int .i64 a,.int .i64 b,.int .i64 k,.int .i64 x]),.J (.ptr [.Y (E.map ag)])]:=by
 refine cB ?_;simp only[ZX]
 by_cases ab:hI (D E) (a,b,k,x)=true
 ·have FH:=Mc.1 ab;dsimp only at FH;have aI:decide (a<0)=false:=dk;have c2:decide (a>=(D E:Int))=false:=dk;have c3:decide (b < -1)=false:=dk;have c4:decide (b>=(D E:Int))=false:=dk;have yN:decide (k<0)=false:=dk;have ZU:decide (k>=10)=false:=dk;have Mp:gj x=true:=QR.2 (by omega);refine aX ?_;repeat' (intro h<;>simp only[h,go_sem,go_sem_proc,Ml,ab,aI,c2,c3,c4,yN,ZU,Mp,ak,c8]<;>try refine aw ?_ ?_)
 ·have aF:hI (D E) (a,b,k,x)=false:=by simpa using ab
  rw[Mc] at ab;dsimp only at ab;rcases Mp:gj x
  ·refine aX ?_;repeat' (intro h<;>simp only[h,go_sem,go_sem_proc,Ml,aF,Mp,ak,c8,dD]<;>try refine aw ?_ ?_)
  ·have aLg:=QR.1 Mp;refine aX ?_;repeat' (intro h<;>simp only[h,go_sem,go_sem_proc,Ml,aF,Mp,ak,c8,dD]<;>try refine aw ?_ ?_)
   all_goals (exfalso;simp only[decide_eq_false_iff_not] at *;omega)
abbrev aam:Int×Int×Int×Int×Int->List Data:=λ(a,b,k,x,n)=>[.agg [.int .i64 a,.int .i64 b,.int .i64 k,.int .i64 x],.ptr [.int .i64 n],.ptr [.fn wI []]]
def aan:=cp aam λ(a,b,k,x,n)=>cV (0<=n/\n<=1000000) (.same (.bool (!hI n (a,b,k,x))))
theorem ayD:∀a b,aam a=aam b->a=b:=by
  rintro⟨cU,df,ca,a8,hC⟩ ⟨de,eD,c7,bV,ie⟩ h;simp only[bb,Data.int.injEq,Data.agg.injEq,Data.Y.injEq,Data.bool.injEq,Data.str.injEq,Data.ptr.injEq,Data.cI.injEq,fp,true_and,and_true] at h ⊢
  first|exact h|simpa [ye,and_assoc] using h|grind
@[go_sem] theorem ayE (a:Int)(b:Int)(k:Int)(x:Int)(n:Int)(G:0<=n/\n<=1000000):aan [.agg [.int .i64 a,.int .i64 b,.int .i64 k,.int .i64 x],.ptr [.int .i64 n],.ptr [.fn wI []]]=some (.same (.bool (!hI n (a,b,k,x)))):=(cA ayD (a,b,k,x,n)).trans (cY G _)
theorem ayF (T:bh)(aad:T DH=aV Q8)(aaj:T wI=aV Q9)(a:Int)(b:Int)(k:Int)(x:Int)(n:Int)(G:0<=n/\n<=1000000):WP T Z5 (.same (.bool (!hI n (a,b,k,x)))) [.J (.agg [.int .i64 a,.int .i64 b,.int .i64 k,.int .i64 x]),.J (.ptr [.int .i64 n]),.J (.ptr [.fn wI []])]:=by
 refine cB ?_;simp only[Z5];have w:IntKind.i64.wrap (n-1)=n-1:=by rw[fi _]
 have e:hI n (a,b,k,x)=((decide (0<=a)&&decide (a<=n-1))&&((decide (-1<=b)&&decide (b<=n-1))&&((decide (0<=k)&&decide (k<=9))&&gj x))):=by
  rw[w2,Mc];simp only[ec,decide_eq_true_eq,QR];omega
 rw[e];rcases aI:(decide (0<=a)&&decide (a<=n-1))<;>rcases c2:(decide (-1<=b)&&decide (b<=n-1))<;>rcases c3:(decide (0<=k)&&decide (k<=9))<;>rcases c4:gj x
 all_goals
      refine aX ?_;repeat' (intro h<;>simp only[h,go_sem,go_sem_proc,aad,aaj,w,aI,c2,c3,c4]<;>try refine aw ?_ ?_)
abbrev aao:Int×Int×Int×Int×Int->List Data:=λ(a,b,k,x,n)=>[.agg [.int .i64 a,.int .i64 b,.int .i64 k,.int .i64 x],.ptr [.int .i64 n],.ptr [.fn ni []]]
def aap:=cp aao λ(a,b,k,x,n)=>cV (0<=n/\n<=1000000) (.same (.bool (hI n (a,b,k,x))))
theorem ayG:∀a b,aao a=aao b->a=b:=by
  rintro⟨cU,df,ca,a8,hC⟩ ⟨de,eD,c7,bV,ie⟩ h;simp only[bb,Data.int.injEq,Data.agg.injEq,Data.Y.injEq,Data.bool.injEq,Data.str.injEq,Data.ptr.injEq,Data.cI.injEq,fp,true_and,and_true] at h ⊢
  first|exact h|simpa [ye,and_assoc] using h|grind
@[go_sem] theorem aLh (a:Int)(b:Int)(k:Int)(x:Int)(n:Int)(G:0<=n/\n<=1000000):aap [.agg [.int .i64 a,.int .i64 b,.int .i64 k,.int .i64 x],.ptr [.int .i64 n],.ptr [.fn ni []]]=some (.same (.bool (hI n (a,b,k,x)))):=(cA ayG (a,b,k,x,n)).trans (cY G _)
theorem ayH (T:bh)(aae:T DD=aV Ra)(aah:T ni=aV Rb)(a:Int)(b:Int)(k:Int)(x:Int)(n:Int)(G:0<=n/\n<=1000000):WP T WX (.same (.bool (hI n (a,b,k,x)))) [.J (.agg [.int .i64 a,.int .i64 b,.int .i64 k,.int .i64 x]),.J (.ptr [.int .i64 n]),.J (.ptr [.fn ni []])]:=by
 refine cB ?_;simp only[WX];have w:IntKind.i64.wrap (n-1)=n-1:=by rw[fi _]
 have e:hI n (a,b,k,x)=((decide (0<=a)&&decide (a<=n-1))&&((decide (-1<=b)&&decide (b<=n-1))&&((decide (0<=k)&&decide (k<=9))&&gj x))):=by
  rw[w2,Mc];simp only[ec,decide_eq_true_eq,QR];omega
 rw[e];rcases aI:(decide (0<=a)&&decide (a<=n-1))<;>rcases c2:(decide (-1<=b)&&decide (b<=n-1))<;>rcases c3:(decide (0<=k)&&decide (k<=9))<;>rcases c4:gj x
 all_goals
      refine aX ?_;repeat' (intro h<;>simp only[h,go_sem,go_sem_proc,aae,aah,w,aI,c2,c3,c4]<;>try refine aw ?_ ?_)
abbrev aaq:Int×Int×Int×Int×Int->List Data:=λ(a,b,k,x,n)=>[.agg [.int .i64 a,.int .i64 b,.int .i64 k,.int .i64 x],.ptr [.fn yd [.ptr [.int .i64 n],.ptr [.fn ni []]]]]
def aar:=cp aaq λ(a,b,k,x,n)=>cV (0<=n/\n<=1000000) (.same (.bool (!hI n (a,b,k,x))))
theorem ayI:∀a b,aaq a=aaq b->a=b:=by
  rintro⟨cU,df,ca,a8,hC⟩ ⟨de,eD,c7,bV,ie⟩ h;simp only[bb,Data.int.injEq,Data.agg.injEq,Data.Y.injEq,Data.bool.injEq,Data.str.injEq,Data.ptr.injEq,Data.cI.injEq,fp,true_and,and_true] at h ⊢
  first|exact h|simpa [ye,and_assoc] using h|grind
@[go_sem] theorem ayJ (a:Int)(b:Int)(k:Int)(x:Int)(n:Int)(G:0<=n/\n<=1000000):aar [.agg [.int .i64 a,.int .i64 b,.int .i64 k,.int .i64 x],.ptr [.fn yd [.ptr [.int .i64 n],.ptr [.fn ni []]]]]=some (.same (.bool (!hI n (a,b,k,x)))):=(cA ayI (a,b,k,x,n)).trans (cY G _)
theorem ayK (T:bh)(ayL:T yd=aV aap)(a:Int)(b:Int)(k:Int)(x:Int)(n:Int)(G:0<=n/\n<=1000000):WP T W8 (.same (.bool (!hI n (a,b,k,x)))) [.J (.agg [.int .i64 a,.int .i64 b,.int .i64 k,.int .i64 x]),.J (.ptr [.fn yd [.ptr [.int .i64 n],.ptr [.fn ni []]]])]:=by
 refine cB ?_;simp only[W8];refine aX ?_;repeat' (intro h<;>simp only[h,go_sem,go_sem_proc,ayL,G]<;>try refine aw ?_ ?_)
abbrev aas:Int×Int×Int×Int×Int×Int×(List Int)->List Data:=λ(a,b,k,x,i,e,set)=>[.agg [.int .i64 a,.int .i64 b,.int .i64 k,.int .i64 x],.ptr [.int .i64 i],.ptr [.int .i64 e],.ptr [.Y (set.map ag)]]
def aat:=cp aas λ(a,b,k,x,i,e,set)=>cV (D set<=1000000) (.same (.bool (a==i&&(k==e&&(decide (x>0) && !decide (b∈set))))))
theorem ayM:∀a b,aas a=aas b->a=b:=by
  rintro⟨cU,df,ca,a8,i1,aA,ajW⟩ ⟨de,eD,c7,bV,i2,aC,ajX⟩ h;simp only[bb,Data.agg.injEq,Data.int.injEq,Data.ptr.injEq,Data.Y.injEq,and_true,true_and] at h;obtain⟨⟨F,I,af,aM⟩,bk,bI,bH⟩:=h;rw[F,I,af,aM,bk,bI,map_inj fj _ _ bH]
@[go_sem] theorem ayN (a:Int)(b:Int)(k:Int)(x:Int)(i:Int)(e:Int)(set:List Int)(G:(D set)<=1000000):aat [.agg [.int .i64 a,.int .i64 b,.int .i64 k,.int .i64 x],.ptr [.int .i64 i],.ptr [.int .i64 e],.ptr [.Y (set.map ag)]]=some (.same (.bool (a==i&&(k==e&&(decide (x>0) && !decide (b∈set)))))):=(cA ayM (a,b,k,x,i,e,set)).trans (cY G _)
theorem Mq (T:bh)(id:FuncId)(eO:List Data)(aO:List Data->Option eL)(cN:T id=aV aO)(p:ao->Bool)(l:List ao)(aq:(D l)<=1000000)(e5:∀a b k z,(a,b,k,z)∈l->aO (.agg [.int .i64 a,.int .i64 b,.int .i64 k,.int .i64 z]::eO)=some (.same (.bool (p (a,b,k,z))))):WP T KC (.same (.int .i64 (kG p l))) [.J (.Y (l.map cx)),.J (.fn id eO)]:=by
 refine cB ?_;simp only[KC];simp only[go_sem,go_sem_proc,ak];refine dv [0,1,7] [] (λ(i:Nat) tm mem=>i<=D l/\(∀x∈l.take i,p x=false)/\tm 8=.J (.int .i64 i)) (λi=>D l-i) 0 (by refine⟨fg _,by simp,rfl⟩) ?_;intro vs ms aT aR;simp only[go_sem,go_sem_proc,ak] at aT aR;subst aT aR;rintro i tm mem Q hm ⟨M,eZ,b6⟩;simp only[go_sem,go_sem_proc,bb] at Q hm;obtain⟨al,F,bH⟩:=Q;have iA:∀m:Mem,(eO.map R.J).mapM (cz 6 m)=some eO:=λm=>tC (cz 6 m) (λd=>rfl) eO;rcases dA (i<D l) with ay|b9
 ·have O:=bx ay;have Ck:=nc ay;have b8:=λh=>Lg (p:=p) eZ O h;have hK:=λh=>PC (p:=p) eZ O h;generalize l[i]=x at *;obtain⟨a,b,k,z⟩:=x;have mF:=e5 a b k z Ck;have hi:decide ((i:Int)<(D l:Int))=true:=dn;have hw:=e9 (i:=i) (by omega);rcases ah:p (a,b,k,z)
  ·rw[ah] at mF;simp only[go_sem,go_sem_proc,cN,al,F,bH,b6,O,hi,hw,mF,iA,cx,ak,bq,kB];repeat' (first|refine aw ?_ ?_|fail)<;>intro h<;>simp only[h,go_sem,go_sem_proc,cN,al,F,bH,b6,O,hi,hw,mF,iA,cx,ak,bq,kB]
   exact⟨i+1,by omega,by omega,hK ah,rfl⟩
  ·rw[ah] at mF;rw[b8 ah];simp only[go_sem,go_sem_proc,cN,al,F,bH,b6,O,hi,hw,mF,iA,cx,ak,bq,kB];repeat' (first|refine aw ?_ ?_|fail)<;>intro h<;>simp only[h,go_sem,go_sem_proc,cN,al,F,bH,b6,O,hi,hw,mF,iA,cx,ak,bq,kB]
 ·have hi:decide ((i:Int)<(D l:Int))=false:=dk;obtain rfl:i=D l:=by omega
  rw[k3] at eZ;rw[PB eZ];simp only[go_sem,go_sem_proc,al,F,bH,b6,hi,ak];repeat' (first|refine aw ?_ ?_|fail)<;>intro h<;>simp only[h,go_sem,go_sem_proc,al,F,bH,b6,hi,ak]
inductive AK where
 |right (n:Int)
 |day (E:List Int)
 |hold (n:Int)
 |rW (n:Int)
 |EM (i e:Int) (set:List Int)
def vX:AK->Data
 |.right n => .fn Kr [.ptr [.fn ve []],.ptr [.int .i64 n]]
 |.day E => .fn Gf [.ptr [.Y (E.map ag)]]
 |.hold n => .fn Gh [.ptr [.int .i64 n],.ptr [.fn wI []]]
 |.rW n => .fn DF [.ptr [.fn yd [.ptr [.int .i64 n],.ptr [.fn ni []]]]]
 |.EM i e set => .fn DG [.ptr [.int .i64 i],.ptr [.int .i64 e],.ptr [.Y (set.map ag)]]
theorem ayO:∀a b:AK,vX a=vX b->a=b:=by
 intro a b e
 cases a<;>cases b
 all_goals first|(simp[vX,Kr,Gf,Gh,DF,DG] at e;done)|simp only[vX,Data.fn.injEq,bb,Data.ptr.injEq,Data.Y.injEq,Data.int.injEq,and_true,true_and] at e
 ·rw[e]
 ·rw[map_inj fj _ _ e]
 ·rw[e]
 ·rw[e]
 ·rw[e.1,e.2.1,map_inj fj _ _ e.2.2]
def s5:AK->ao->Bool
 |.right n,c => !hI n c
 |.day E,c => !hI (D E) c
 |.hold n,c => !hI n c
 |.rW n,c => !hI n c
 |.EM i e set,c=>c.1==i&&(c.2.2.1==e&&(decide (c.2.2.2>0) && !decide (c.2.1∈set)))
def Ib:AK->Prop
 |.right n=>0<=n/\n<=1000000
 |.day E=>Gf<900000/\D E<=1000000
 |.hold n=>Gh<900000/\0<=n/\n<=1000000
 |.rW n=>DF<900000/\0<=n/\n<=1000000
 |.EM _ _ set=>DG<900000/\D set<=1000000
abbrev Rf:(List ao)×AK->List Data:=λ(l,c)=>[.Y (l.map cx),vX c]
def aau:=cp Rf λ(l,c)=>cV (D l<=1000000/\Ib c) (.same (.int .i64 (kG (s5 c) l)))
theorem aj2:∀a b,Rf a=Rf b->a=b:=by
  rintro⟨dY,aI⟩ ⟨ai,c2⟩ h;simp only[bb,Data.Y.injEq,and_true] at h;exact ed (map_inj s3 _ _ h.1) (ayO _ _ h.2)
@[go_sem] theorem aLi (l:List ao)(c:AK)(G:(D l)<=1000000/\Ib c):aau [.Y (l.map cx),vX c]=some (.same (.int .i64 (kG (s5 c) l))):=(cA aj2 (l,c)).trans (cY G _)
theorem ayP (T:bh)(ayQ:T Kr=aV Z2)(ayR:Gf<900000->T Gf=aV aal)(ayS:Gh<900000->T Gh=aV aan)(ayT:DF<900000->T DF=aV aar)(ayU:DG<900000->T DG=aV aat)(l:List ao)(c:AK)(G:(D l)<=1000000/\Ib c):WP T KC (.same (.int .i64 (kG (s5 c) l))) [.J (.Y (l.map cx)),.J (vX c)]:=by
 refine cB ?_;simp only[KC];obtain⟨aq,cX⟩:=G
 cases c with
 |right n=>exact qO (Mq T _ _ _ ayQ (s5 (.right n)) l aq λa b k z _=>ax9 a b k z n cX)
 |day E=>exact qO (Mq T _ _ _ (ayR cX.1) (s5 (.day E)) l aq λa b k z _=>ayB a b k z E cX.2)
 |hold n=>exact qO (Mq T _ _ _ (ayS cX.1) (s5 (.hold n)) l aq λa b k z _=>ayE a b k z n cX.2)
 |rW n=>exact qO (Mq T _ _ _ (ayT cX.1) (s5 (.rW n)) l aq λa b k z _=>ayJ a b k z n cX.2)
 |EM i e set=>exact qO (Mq T _ _ _ (ayU cX.1) (s5 (.EM i e set)) l aq λa b k z _=>ayN a b k z i e set cX.2)
def Mr:=cp Rf λ(l,c)=>cV (D l<=1000000/\Ib c) (.same (.bool (l.any (s5 c))))
@[go_sem] theorem aav (l:List ao)(c:AK)(G:(D l)<=1000000/\Ib c):Mr [.Y (l.map cx),vX c]=some (.same (.bool (l.any (s5 c)))):=(cA aj2 (l,c)).trans (cY G _)
theorem ayV (T:bh)(ayW:T Uk=aV aau)(l:List ao)(c:AK)(G:(D l)<=1000000/\Ib c):WP T U6 (.same (.bool (l.any (s5 c)))) [.J (.Y (l.map cx)),.J (vX c)]:=by
 refine cB ?_;simp only[U6];rw[<-Lh];refine aX ?_;repeat' (intro h<;>simp only[h,go_sem,go_sem_proc,ayW,G]<;>try refine aw ?_ ?_)
theorem Ms {α:Type}(l:List α)(p:α->Bool):l.any (λx => !p x) = !l.all p:=by
 induction l with
 |nil=>rfl
 |cons a l ax=>rw[List.any_cons,List.all_cons,ax];cases p a<;>rfl
abbrev Rg:(List Int)×(List ao)->List Data:=λ(E,cs)=>[.Y (E.map ag),.Y (cs.map cx)]
def aaw:=cp Rg λ(E,cs)=>cV (D E<=1000000/\D cs<=1000000) (.same (.bool (iF E cs)))
theorem aj3:∀a b,Rg a=Rg b->a=b:=by
  rintro⟨vU,vV⟩ ⟨vW,oC⟩ h;simp only[bb,Data.Y.injEq,and_true] at h;exact ed (map_inj fj _ _ h.1) (map_inj s3 _ _ h.2)
@[go_sem] theorem aLj (E:List Int)(cs:List ao)(G:(D E)<=1000000/\D cs<=1000000):aaw [.Y (E.map ag),.Y (cs.map cx)]=some (.same (.bool (iF E cs))):=(cA aj3 (E,cs)).trans (cY G _)
theorem ayX (T:bh)(Rh:T Ks=aV Re)(Ic:T DB=aV Mr)(E:List Int)(cs:List ao)(G:(D E)<=1000000/\D cs<=1000000):WP T WJ (.same (.bool (iF E cs))) [.J (.Y (E.map ag)),.J (.Y (cs.map cx))]:=by
 refine cB ?_;simp only[WJ];obtain⟨F,I⟩:=G;rw[axu];have dZ:=aj1 E .right ⟨F,trivial⟩;have fU:=aav cs (.right (D E)) ⟨I,by show (0:Int)<=(D E:Int);omega,by show (D E:Int)<=1000000;omega⟩
 have aA:E.any (qc .right) = !E.all gj:=Ms E gj;have aC:cs.any (s5 (.right (D E))) = !cs.all (hI (D E)):=Ms cs _;rw[aA] at dZ;rw[aC] at fU;simp only[rX] at dZ;simp only[vX] at fU;have d1:decide (D E<=60)=decide ((D E:Int)<=60):=by rw[w2,decide_eq_true_iff,decide_eq_true_iff];omega
 have d2:decide (D cs<=2000)=decide ((D cs:Int)<=2000):=by rw[w2,decide_eq_true_iff,decide_eq_true_iff];omega
 rw[d1,d2];rcases ha:decide ((D E:Int)<=60)<;>rcases fu:decide ((D cs:Int)<=2000)<;>rcases uo:E.all gj<;>rcases oa:cs.all (hI (D E))
 all_goals rw[uo] at dZ
 all_goals rw[oa] at fU
 all_goals
      refine aX ?_;repeat' (intro h<;>simp only[h,go_sem,go_sem_proc,Rh,Ic,dZ,fU,ha,fu,ak,c8,dD,Bool.and_true,iQ,cz,nL,Option.bind_none,scalar]<;>try refine aw ?_ ?_)
structure dc.Ie (a:dc):Prop where
 uA:e2 a.E a.cs
 gp:∀x∈a.fl,0<=x/\x<=10
theorem dc.Mt {a:dc}{m:Mem}(h:a.At m)(aF:a.Ie){i:Nat}(M:i<D a.E):a.fl.getD i 10=(bK a.fl i:Int)/\bK a.fl i<=10:=by
 have aq:=h.fl
 have:a.fl.getD i 10∈a.fl:=by
  rw[en,bx (by omega)];exact nc _
 have:=aF.gp _ this;unfold bK;omega
structure aax (x:dc×Nat) (mem:Mem):Prop where
 at_:x.1.At mem
 no:rU 255 mem
 Ig:x.1.Ie
 lt:x.2<x.1.E.length
 f10:bK x.1.fl x.2<10
 S:0<(aB x.1.E x.1.cs).S x.2 (bK x.1.fl x.2)
def Ri (x:dc×Nat):Data:=.cI [.Y ((dF x.1.E.length λi=>(aB x.1.E x.1.cs).W (bK x.1.fl) x.2 i).map aH),.bool true]
def Rj:List R->Mem->Option Data:=EI (λ(x:dc×Nat) args mem=>args=[.ptr (228500+x.2) (x.1.gs.getD x.2 0) 0,.J (.int .i64 x.1.E.length)]/\aax x mem) Ri
theorem ayY (a:dc)(k:Nat)(mem:Mem)(h:aax (a,k) mem):Rj [.ptr (228500+k) (a.gs.getD k 0) 0,.J (.int .i64 (D a.E))] mem=some (Ri (a,k)):=by
 refine ZM (a:=(a,k)) ?_ ⟨rfl,h⟩;rintro⟨a,i⟩ ⟨b,j⟩ args mem ⟨aA,aC⟩ ⟨bZ,dq⟩;obtain rfl:=dc.uniq aC.at_ dq.at_;rw[aA] at bZ;simp only[bb,R.ptr.injEq,R.J.injEq,Data.int.injEq,true_and,and_true] at bZ;have F:228500+i=228500+j:=bZ.1;have:i=j:=by omega
 rw[this]
theorem ayZ (N:Nat)(aO:a1):(dC N (aH aO)).flatten.map R.J=bf aH (dC N aO):=by
 unfold bf;rw[Hy,List.map_flatten,Hy]
theorem ay0 (T:bh)(hz:T pa=aV vO)(ay1:T TX=aV YH)(l3:T zB=aV Eb)(k4:T yb=aV zZ)(a:dc)(k:Nat)(mem:Mem)(h:aax (a,k) mem):
  wp T Pz.body (pV Pz.res λm mem'=>cz 6 emp m=some (Ri (a,k))/\er 255 mem mem') ⟨lf [.ptr (228500+k) (a.gs.getD k 0) 0,.J (.int .i64 (D a.E))],mem⟩:=by
 obtain⟨b8,gg,rY,Q,vY,cJ⟩:=h;dsimp only at *;obtain⟨U,gp⟩:=rY;have aK:=U.n5;have sA:=b8.dd k Q;have uf:=(dc.Mt b8 ⟨U,gp⟩ Q).1;have cX:=a.xt k;have hlen:=CI cX;have l6:=Mi cX;rw[show (a.gD k).f=(bK a.fl k:Int) from uf] at l6;have CL:=ajN (x:=a.gD k) (k:=bK a.fl k) (l:=dh a.cs k (bK a.fl k)) (iV _ vY);have s6:=Mh cX (k:=bK a.fl k) (z:=cS a.cs k (bK a.fl k:Nat)) (iV _ (by omega));have aj4:=Mh cX (k:=bK a.fl k+1) (z:=cS a.cs k (bK a.fl k+1:Nat)) (iV _ (by omega));have Wa:∀j,228500+k≠255000+j:=λj=>by omega
 generalize fD (a.gD k)=DC at *;have aay:=CF 0 Mf;have aS:dF (D a.E) (j5 (aB a.E a.cs) [])=dC (D a.E) (av ((0:Int):Rat)):=(L9 Cq λj aj=>by rw[ajD,ad aj,axW];rfl).symm;generalize gu:dh a.cs k (bK a.fl k)=L at *;refine tn ?_;simp only[Pz];have uB:(228500+k)/1000≠255:=by omega
 have ly:mem 255017=none:=gg 255017 (by decide);have fZ:=λc (G:c∈L)=>EF.1 (gu ▸ G:c∈dh a.cs k (bK a.fl k));have aj5:=λc (G:c∈L)=>(Q1 U cJ (gu ▸ G:c∈dh a.cs k (bK a.fl k))).2.2;have aj6:=λl i (aq:∃fr,L=l++fr)=>axY U cJ (l:=l) (by rw[gu];exact aq) i;have aj7:=λi=>axX U.right (bK a.fl) k i;rw[gu] at aj7
 have aLk:(D L)<=12:=by
  have F:=od (λc:ao=>c.1==(k:Int)&&c.2.2.1==(bK a.fl k:Int)) a.cs;have I:=U.sZ;rw[<-gu];unfold dh;omega
 have aLl:(0:Int)<kK a.cs k (bK a.fl k):=by
  have F:=Qw U.right k (bK a.fl k);rw[<-F] at cJ;have:(0:Int)<cS a.cs k (bK a.fl k+1:Nat)-cS a.cs k (bK a.fl k):=by exact_mod_cast cJ
  exact this
 have ay2:kK a.cs k (bK a.fl k)=cS a.cs k (bK a.fl k+1:Nat)-cS a.cs k (bK a.fl k:Nat):=rfl;have WC:=U.upto k (bK a.fl k+1:Nat);have D4:=U.upto k (bK a.fl k:Nat);have ay3:=(hy.1 U.right).2.2.2;generalize dN:228500+k=eg at *;have oT:∀j,eg≠255000+j:=λj=>by omega
 have n9:(eg=255009)=False:=eq_false (oT 9);have n10:(eg=255010)=False:=eq_false (oT 10);have n12:(eg=255012)=False:=eq_false (oT 12);have n17:(eg=255017)=False:=eq_false (oT 17);have EN:(eg==255009)=false:=beq_eq_false_iff_ne.2 (oT 9);have aj8:(eg==255010)=false:=beq_eq_false_iff_ne.2 (oT 10);have aj9:(eg==255012)=false:=beq_eq_false_iff_ne.2 (oT 12);have aka:(eg==255017)=false:=beq_eq_false_iff_ne.2 (oT 17);have d9:(255009==eg)=false:=beq_eq_false_iff_ne.2 (oT 9).symm;have d10:(255010==eg)=false:=beq_eq_false_iff_ne.2 (oT 10).symm;have d12:(255012==eg)=false:=beq_eq_false_iff_ne.2 (oT 12).symm;have d17:(255017==eg)=false:=beq_eq_false_iff_ne.2 (oT 17).symm;have dY:bK a.fl k+1<11:=by omega
 have ai:bK a.fl k<11:=by omega
 have bL:(1+bK a.fl k+1<=24)=True:=eq_true (by omega);have b3:(11+bK a.fl k+1<=24)=True:=eq_true (by omega);have akb:(11+(bK a.fl k+1)+1<=24)=True:=eq_true (by omega);have wf:IntKind.i64.wrap ((bK a.fl k:Int)+1)=((bK a.fl k+1:Nat):Int):=by rw[fi _];omega
 have kW:=sA;generalize aLm:cS a.cs k (bK a.fl k+1:Nat)=akc at *;generalize aLn:cS a.cs k (bK a.fl k:Nat)=ay4 at *;generalize aLo:bK a.fl k=F0 at *;generalize Mu:av ((0:Int):Rat)=Z at *;obtain⟨⟨jm,kl⟩,⟨z3,z4⟩⟩:=Z;have aaz:=avx jm kl z3 z4 (D a.E) (by omega);have gF:=ayZ (D a.E) ((jm,kl),(z3,z4));simp only[aH] at aay aaz gF;have ew:=ajL L;simp only[go_sem,go_sem_proc] at ew;simp only[go_sem,go_sem_proc,hz,aay,ay1,aaz,gF,sA,hlen,vY,l6,CL,n17,bL,ly,cd,cK,ew,Cq]
 refine dv [0,6,26,27] [] (λ(j:Nat) tm m=>j<=D L/\tm 28=.J (.int .i64 j)/\tm 7=.J (.bool true)/\m 255017=some (0,bf aH (dF (D a.E) (j5 (aB a.E a.cs) (L.take j))))/\er 255 mem m) (λj=>D L-j) 0 (by
  refine⟨by omega,rfl,rfl,?_,(er.refl _ _).e3 (by decide)⟩
  rw[nd,aS];simp[aZ,ly,gA]) ?_
 intro vs ms aT aR;simp only[go_sem,go_sem_proc] at aT aR;subst aT aR;clear aay aaz gF sA;rintro j tm m Q-⟨aj,oi,bR,CM,bQ⟩;simp only[go_sem,go_sem_proc,bb] at Q;obtain⟨b0,bY,h6,h7⟩:=Q;have ah:=(bQ eg uB).trans kW;rcases dA (j<D L) with ay|b9
 ·have d1:decide ((j:Int)<(D L:Int))=true:=dn;have b4:=e9 (i:=j) (by omega);obtain⟨⟨aI,c2,c3,c4⟩,O⟩:∃c,L[j]?=some c:=⟨_,bx ay⟩;have Ck:=ep O;have lj:=ay3 _ (fZ _ Ck).1;dsimp only at lj;have sM:=ajM O;simp only[go_sem,go_sem_proc] at sM;have g2:L.take (j+1)=L.take j++[(aI,c2,c3,c4)]:=by rw[g1,O];rfl
  rcases q:decide (c2<0)
  ·have uQ:0<=c2:=by have:=of_decide_eq_false q;omega
   obtain⟨t,rfl⟩:∃t:Nat,c2=(t:Int):=⟨c2.toNat,by omega⟩
   have hw:=aj5 _ Ck;dsimp only at hw;have lk:=axD (p:=c4) (q:=kK a.cs k F0) (qa (by omega) (by omega)) (qa (by omega) (by omega)) (by omega);rw[<-hw] at lk;have Rk:=afN c4 (kK a.cs k F0) ⟨qa (by omega) (by omega),qa (by omega) (by omega)⟩;rw[lk] at Rk;have jm:=aj6 (L.take j) t ⟨L.drop j,(Bs j L).symm⟩;have kl:=axE U (fZ _ Ck).1;have iB:=ajj (j4 jm (by omega)) (j4 kl (by omega)) (Ex jm kl (by omega))
   have AL:dF (D a.E) (j5 (aB a.E a.cs) (L.take (j+1)))=(dF (D a.E) (j5 (aB a.E a.cs) (L.take j))).set t (av (j5 (aB a.E a.cs) (L.take j) t+(aB a.E a.cs).w (cv (aI,(t:Int),c3,c4)))):=by
    rw[axF];refine HU λi _=>?_;rw[g2,ajK]
    by_cases M:i=t
    ·rw[ad M,ad (by dsimp only;omega),M]
    ·rw[ae M,ae (by dsimp only;omega),oQ]
   have akd:IntKind.i64.wrap (akc-ay4)=kK a.cs k F0:=by rw[wrap64 _ (by omega) (by omega),ay2]
   have XL:(dF (D a.E) (j5 (aB a.E a.cs) (L.take j))).length=D a.E:=p8 _ _;have ay5:=vN (N:=D a.E) (j5 (aB a.E a.cs) (L.take j)) (k:=t) (by omega);clear jm kl aj6 aj5 lk hw;generalize av (j5 (aB a.E a.cs) (L.take j) t+(aB a.E a.cs).w (cv (aI,(t:Int),c3,c4)))=F1 at *;generalize av (j5 (aB a.E a.cs) (L.take j) t)=F2 at *;generalize av ((aB a.E a.cs).w (cv (aI,(t:Int),c3,c4)))=F3 at *;generalize dF (D a.E) (j5 (aB a.E a.cs) (L.take j))=cg at *;obtain⟨⟨cU,de⟩,⟨a3,a4⟩⟩:=F1;obtain⟨⟨f1,f2⟩,⟨f3,f4⟩⟩:=F2;obtain⟨⟨cD,cf⟩,⟨gS,jY⟩⟩:=F3;have t1:=Hj ay5;have t2:=Hi (l:=cg) (k:=t) (by omega);have t3:=X7 (l:=cg) (k:=t) (by omega) cU de a3 a4;have NW:t<D a.E:=by omega
   simp only[aH,eG] at Rk iB;simp only[go_sem,go_sem_proc,l3,k4,b0,bY,bR,h6,h7,oi,ah,CM,sM,hlen,l6,s6,aj4,wf,akd,d1,b4,q,Rk,iB,t1,t2,t3,NW,vY,dY,ai,bL,b3,akb,n9,n10,n12,n17,EN,aj8,aj9,aka,d9,d10,d12,d17,cx,cd,cK,beq_self_eq_true];repeat' (first|refine aw ?_ ?_|fail)<;>intro h<;>simp only[h,go_sem,go_sem_proc,l3,k4,b0,bY,bR,h6,h7,oi,ah,CM,sM,hlen,l6,s6,aj4,wf,akd,d1,b4,q,Rk,iB,t1,t2,t3,NW,vY,dY,ai,bL,b3,akb,n9,n10,n12,n17,EN,aj8,aj9,aka,d9,d10,d12,d17,cx,cd,cK,beq_self_eq_true]
   refine⟨j+1,by omega,by omega,rfl,by rw[AL],by repeat first|exact bQ|refine er.e3 ?_ (by decide)⟩
  ·have uQ:c2<0:=of_decide_eq_true q
   have AL:dF (D a.E) (j5 (aB a.E a.cs) (L.take (j+1)))=dF (D a.E) (j5 (aB a.E a.cs) (L.take j)):=HU λi _=>by
    rw[g2,ajK,ae (by dsimp only;omega),oQ]
   simp only[go_sem,go_sem_proc,b0,bY,bR,h6,h7,oi,ah,CM,sM,d1,b4,q,cx,cK];repeat' (first|refine aw ?_ ?_|fail)<;>intro h<;>simp only[h,go_sem,go_sem_proc,b0,bY,bR,h6,h7,oi,ah,CM,sM,d1,b4,q,cx,cK]
   refine⟨j+1,by omega,by omega,rfl,by rw[AL],by repeat first|exact bQ|refine er.e3 ?_ (by decide)⟩
 ·have d1:decide ((j:Int)<(D L:Int))=false:=dk;rw[dt (by omega)] at CM;have AL:dF (D a.E) (j5 (aB a.E a.cs) L)=dF (D a.E) λi=>(aB a.E a.cs).W (bK a.fl) k i:=HU λi _=>aj7 i;rw[AL] at CM;have mi:(dF (D a.E) λi=>(aB a.E a.cs).W (bK a.fl) k i).length=D a.E:=p8 _ _;have mK:=λ(K:bd->Prop) (st:bd)=>mS (K:=K) (st:=st) nq 6 255017 0 (dF (D a.E) λi=>(aB a.E a.cs).W (bK a.fl) k i);rw[mi] at mK;simp only[go_sem,go_sem_proc,b0,bY,bR,h6,h7,oi,ah,CM,d1,mK];repeat' (first|refine aw ?_ ?_|fail)<;>intro h<;>simp only[h,go_sem,go_sem_proc,b0,bY,bR,h6,h7,oi,ah,CM,d1,mK]
  exact⟨_,rfl,rfl,by repeat first|exact bQ|refine er.e3 ?_ (by decide)|refine er.kill ?_ (by decide)⟩
theorem ake (N:Nat)(x:Nat->Rat):dF (N+1) x=dF N x++[av (x N)]:=by
 unfold dF;rw[nx,kI,kI];rfl
theorem vZ {l:List R}{k:Nat}{y:R}(h:l[k]?=some y):gq 1 (gI k l)=[y]:=by
 have:=Az (f:=id) h;rwa [List.map_id] at this
def s7 (n:Nat)(W:Nat->Nat->Rat)(k:Nat):List Data:=[.Y ((dF n (W k)).map aH)]
theorem ay6 (T:bh)(hz:T pa=aV vO)(m2:T yc=aV z1){K:eX->bd->Prop}{kk:List gz}(eF:Mem)(n:Nat)(aK:n<=60)(p:List Nat)(aE:(D p)<=60)(W:Nat->Nat->Rat)(r i:Nat)(M:i<n)(rr:∀k,k<(D p)->dT 54 (W (p.getD k 0) i))(v0 v1 v10 v20 akf v22:R)(bM Ih:Nat)(aI c2 c3 c4:R)(akg:Option (Nat×List R))(tm:Nat->R)(m:Mem)
  (b0:tm 0=v0) (aA:tm 1=v1) (aC:tm 2=.J (.Y (p.map ir))) (bZ:tm 3=.J (.Y (p.map (s7 n W)))) (ej:tm 10=v10) (hl:tm 11=.J (.int .i64 r)) (fA:tm 12=.J (.int .i64 i)) (h1:tm 13=.ptr 256013 bM 0) (l7:tm 20=v20) (pe:tm 21=akf) (tV:tm 22=v22) (nB:tm 50=.J (.int .i64 (D p))) (nC:tm 51=.J (.int .i64 0)) (Ii:m 256013=some (bM,[.ref 256076 Ih 4 0 0,aI,c2,c3,c4])) (Ij:m 256076=some (Ih,[])) (EO:m 256082=akg) (bQ:er 256 eF m)
  (dN:∀tm' m' akh,tm' 0=v0->tm' 1=v1->tm' 2=.J (.Y (p.map ir))->tm' 3=.J (.Y (p.map (s7 n W)))->tm' 10=v10->tm' 13=.ptr 256013 bM 0->tm' 20=v20->tm' 21=akf->tm' 22=v22->m' 256013=some (bM,[.ref 256076 akh 4 0 (D p),aI,c2,c3,c4])->m' 256076=some (akh,bf aH (dF (D p) λk=>(if r=k then 1 else 0)-W (p.getD k 0) i))->m' 256082=akg->er 256 eF m'->cG T K kk (.exit 2) ⟨tm',m'⟩) :
  wp T (GU.body.sub [1,1,0,1,0,0,0,1,1,0,0,1,1,0,1,0]) (cG T K kk) ⟨tm,m⟩:=by
 simp only[GU,eA.sub];refine dv [0,1,2,3,10,11,12,13,20,21,22,50] [256082] (λ((k,g):Nat×Nat) tm m=>k<=D p/\tm 51=.J (.int .i64 k)/\m 256013=some (bM,[.ref 256076 g 4 0 k,aI,c2,c3,c4])/\m 256076=some (g,bf aH (dF k λk=>(if r=k then 1 else 0)-W (p.getD k 0) i))/\er 256 eF m) (λ(k,_)=>D p-k) (0,Ih) (by refine⟨by omega,nC,Ii,Ij,bQ⟩) ?_;intro vs ms aT aR;simp only[go_sem,go_sem_proc,b0,aA,aC,bZ,ej,hl,fA,h1,l7,pe,tV,nB,EO] at aT aR;subst aT aR;clear b0 aA aC bZ ej hl fA h1 l7 pe tV nB nC Ii Ij EO bQ tm m;rintro⟨k,g⟩ tm m Q hm ⟨HC,nC,Ii,Ij,bQ⟩;simp only[go_sem,go_sem_proc,bb] at Q hm;obtain⟨b0,aA,aC,bZ,ej,hl,fA,h1,l7,pe,tV,nB⟩:=Q;rcases dA (k<D p) with ay|b9
 ·have d1:decide ((k:Int)<(D p:Int))=true:=dn;have b4:=e9 (i:=k) (by omega);obtain⟨v7,O⟩:∃c,p[k]?=some c:=⟨_,bx ay⟩;have sR:p.getD k 0=v7:=by rw[en,O];rfl
  have Mv:=rr k ay;have aT:=ake k λk=>(if r=k then 1 else 0)-W (p.getD k 0) i;have bX:(dF k λk=>(if r=k then 1 else 0)-W (p.getD k 0) i).length=k:=p8 _ _;have dL:=λ(aO:a1) cs jI=>mu nq GV 256076 g 64 (dF k λk=>(if r=k then 1 else 0)-W (p.getD k 0) i) aO (cs:=cs) jI (by omega) (by omega);simp only[bX] at dL;rw[sR] at Mv aT;have bc:=vN (W v7) M;generalize dF k (λk=>(if r=k then 1 else 0)-W (p.getD k 0) i)=V at *;generalize vp:dF (k+1) (λk=>(if r=k then 1 else 0)-W (p.getD k 0) i)=V2 at *;clear dN rr;have key:∀o:Int,(o=0\/o=1)->(if r=k then (1:Rat) else 0)=(o:Rat)->True:=λ_ _ _=>trivial;rcases q:((k:Int)==(r:Int))
  ·have hk:¬ r=k:=by have:=ne_of_beq_false q;omega
   have hw:=CF 0 Mf;have U:=ZJ (uy Mf) (j4 Mv (by omega)) (Ex (AB (z:=0) (b:=1) (by decide)) (HR Mv) (by omega));rw[ae hk,show (0:Rat)=((0:Int):Rat) from rfl] at aT;generalize av ((0:Int):Rat)=Z at *;generalize av (W v7 i)=eR at *;generalize av (((0:Int):Rat)-W v7 i)=dg at *;obtain⟨⟨jm,kl⟩,⟨z3,z4⟩⟩:=Z;obtain⟨⟨tI,tJ⟩,⟨EK,EL⟩⟩:=eR;obtain⟨⟨a8,bV⟩,⟨cZ,ea⟩⟩:=dg;have rZ:=dL ((a8,bV),(cZ,ea)) _ rfl;rw[<-aT] at rZ;simp only[aH,eE,c1] at rZ hw U;refine aX ?_;repeat' (intro h<;>simp only[h,go_sem,go_sem_proc,hz,m2,b0,aA,aC,bZ,ej,hl,fA,h1,l7,pe,tV,nB,nC,Ii,Ij,hm,d1,b4,q,O,s7,bc,hw,U,rZ,aH,ak,bq,bne,beq_self_eq_true,c8,rJ]<;>try refine aw ?_ ?_)
   exact⟨(k+1,g+1),by dsimp only;omega,by dsimp only;omega,rfl,rfl,by rw[<-vp],by repeat first|exact bQ|refine er.e3 ?_ (by decide)⟩
  ·have hk:r=k:=by have:=eq_of_beq q;omega
   have hw:=CF 1 QW;have U:=ZJ (uy QW) (j4 Mv (by omega)) (Ex (AB (z:=1) (b:=1) (by decide)) (HR Mv) (by omega));rw[ad hk,show (1:Rat)=((1:Int):Rat) from rfl] at aT;generalize av ((1:Int):Rat)=Z at *;generalize av (W v7 i)=eR at *;generalize av (((1:Int):Rat)-W v7 i)=dg at *;obtain⟨⟨jm,kl⟩,⟨z3,z4⟩⟩:=Z;obtain⟨⟨tI,tJ⟩,⟨EK,EL⟩⟩:=eR;obtain⟨⟨a8,bV⟩,⟨cZ,ea⟩⟩:=dg;have rZ:=dL ((a8,bV),(cZ,ea)) _ rfl;rw[<-aT] at rZ;simp only[aH,eE,c1] at rZ hw U;refine aX ?_;repeat' (intro h<;>simp only[h,go_sem,go_sem_proc,hz,m2,b0,aA,aC,bZ,ej,hl,fA,h1,l7,pe,tV,nB,nC,Ii,Ij,hm,d1,b4,q,O,s7,bc,hw,U,rZ,aH,ak,bq,bne,beq_self_eq_true,c8,rJ]<;>try refine aw ?_ ?_)
   exact⟨(k+1,g+1),by dsimp only;omega,by dsimp only;omega,rfl,rfl,by rw[<-vp],by repeat first|exact bQ|refine er.e3 ?_ (by decide)⟩
 ·have d1:decide ((k:Int)<(D p:Int))=false:=dk;obtain rfl:k=D p:=by omega
  refine aX ?_;repeat' (intro h<;>simp only[h,go_sem,go_sem_proc,b0,aA,aC,bZ,ej,hl,fA,h1,l7,pe,tV,nB,nC,d1]<;>try refine aw ?_ ?_)
  refine dN _ _ g ?_ ?_ ?_ ?_ ?_ ?_ ?_ ?_ ?_ Ii Ij hm bQ<;>simp only[e4,eb,if_false,b0,aA,aC,bZ,ej,h1,l7,pe,tV]
structure aaA (a:dc) (mem:Mem):Prop where
 at_:a.At mem
 no:rU 256 mem
 Ig:a.Ie
 ez:s0 (aB a.E a.cs) (bK a.fl) (fv a.P)
def dc.p (a:dc):List Nat:=c0 (fv a.P) (D a.E)
def Rl (a:dc):List R:=[.ref 228023 a.g 1 0 (D a.E),.J (.Y ((bF (D a.E) λi=>k8 a.E a.cs (bK a.fl) i).map ag)),.J (.Y (a.p.map ir)),.J (.Y (a.p.map (s7 (D a.E) λk i=>(aB a.E a.cs).W (bK a.fl) k i)))]
def dc.xs (a:dc):List a1:=dF (D a.p) λk=>(aB a.E a.cs).fa (bK a.fl) (fv a.P) (a.p.getD k 0)-(aB a.E a.cs).br (a.p.getD k 0) (bK a.fl (a.p.getD k 0))
def Rm (a:dc):Data:=.cI [.Y (a.xs.map aH),.bool true]
def Rn:List R->Mem->Option Data:=EI (λ(a:dc) args mem=>args=Rl a/\aaA a mem) Rm
theorem ay7 (a:dc)(mem:Mem)(h:aaA a mem):Rn (Rl a) mem=some (Rm a):=by
 refine ZM (a:=a) ?_ ⟨rfl,h⟩;rintro a b args mem ⟨aA,aC⟩ ⟨bZ,dq⟩;rw[dc.uniq aC.at_ dq.at_]
theorem ay8 (T:bh)(hz:T pa=aV vO)(m2:T yc=aV z1)(ay9:T TT=aV Yx)(a:dc)(mem:Mem)(aN:aaA a mem):
  wp T GU.body (pV GU.res λm mem'=>cz 6 emp m=some (Rm a)/\er 256 mem mem') ⟨lf (Rl a),mem⟩:=by
 obtain⟨b8,gg,rY,lG⟩:=aN;have uf:=λi=>dc.Mt b8 rY (i:=i);obtain⟨U,gp⟩:=rY;have aK:=U.n5;have oD:=λk=>xo (P:=fv a.P) (n:=D a.E) (k:=k);have QN:=aw0 U lG;have Mw:=Zt U lG.rO (c0 (fv a.P) (D a.E)) (λk Q=>⟨(xo Q).2,(xo Q).1⟩) λi j M aj=>Zu M aj;have aza:=λk (Q:fv a.P k) i=>(QM U lG Q i).1
 have aLp:(c0 (fv a.P) (D a.E)).length<=6:=by
  unfold c0;exact eP (od _ _) (by rw[ss];exact aK)
 have azb:mem 256082=none:=gg 256082 (by decide);unfold Rl Rm dc.xs dc.p;generalize aE:c0 (fv a.P) (D a.E)=p at *;generalize dZ:(aB a.E a.cs).uw (bK a.fl) p=A at *;generalize azc:(bF (D a.E) λi=>k8 a.E a.cs (bK a.fl) i).map ag=aki at *;have azd:∀i,i<(D a.E)->aki[i]?=some [.int .i64 (k8 a.E a.cs (bK a.fl) i)]:=λi M=>by rw[<-azc,bq,iV _ M];rfl
 refine tn ?_;simp only[GU];simp only[go_sem,go_sem_proc,azb,ak];refine dv [0,1,2,3,20,21] [] (λ((r,g):Nat×Nat) tm m=>r<=D p/\tm 22=.J (.int .i64 r)/\tm 10=.ref 256082 g 5 0 r/\m 256082=some (g,bf iT ((rowsOf (D p) A).take r))/\er 256 mem m) (λ(r,_)=>D p-r) (0,0) (by refine⟨by omega,rfl,rfl,rfl,(er.refl _ _).e3 (by decide)⟩) ?_;intro vs ms aT aR;simp only[go_sem,go_sem_proc,ak] at aT aR;subst aT aR;rintro⟨r,g⟩ tm m Q hm ⟨akj,tV,ej,EO,bQ⟩;simp only[go_sem,go_sem_proc,bb] at Q;obtain⟨b0,aA,aC,bZ,l7,pe⟩:=Q;rcases dA (r<D p) with ay|b9
 ·have d1:decide ((r:Int)<(D p:Int))=true:=dn;have b4:=e9 (i:=r) (by omega);obtain⟨i,O⟩:∃c,p[r]?=some c:=⟨_,bx ay⟩;have Ez:p.getD r 0=i:=by rw[en,O];rfl
  obtain⟨M,aze⟩:=oD r ay;rw[Ez] at M aze;obtain⟨rY,vY⟩:=uf i M;have e8:=(bQ.at 228023 (by omega)).trans b8.row;have e7:=(bQ.at (228500+i) (by omega)).trans (b8.dd i M);have ih:=vZ (iV (λi=>R.ptr (228500+i) (a.gs.getD i 0) 0) M);have bX:(bF (D a.E) λi=>R.ptr (228500+i) (a.gs.getD i 0) 0).length=D a.E:=gM _ _;have cX:=a.xt i;have hlen:=CI cX;have l6:=Mi cX;rw[show (a.gD i).f=(bK a.fl i:Int) from rY] at l6;have s6:=Mh cX (k:=bK a.fl i) (z:=cS a.cs i (bK a.fl i:Nat)) (iV _ (by omega));have dy:=azd i M;have df:=U.steady (bK a.fl) i;have eD:=U.upto i (bK a.fl i);have azf:IntKind.i64.wrap (k8 a.E a.cs (bK a.fl) i-cS a.cs i (bK a.fl i:Nat))=k8 a.E a.cs (bK a.fl) i-cS a.cs i (bK a.fl i:Nat):=by rw[fi _]
  have hw:=CF (k8 a.E a.cs (bK a.fl) i-cS a.cs i (bK a.fl i:Nat)) (qa (by omega) (by omega))
  have azg:A r (D p)=((k8 a.E a.cs (bK a.fl) i-cS a.cs i (bK a.fl i:Nat):Int):Rat):=by
   rw[<-dZ];unfold Day.uw;rw[ae (by omega),Ez,<-Mb U.right,<-uk U.right,Cx]
  have azh:∀k,k<(D p)->A r k=(if r=k then 1 else 0)-(aB a.E a.cs).W (bK a.fl) (p.getD k 0) i:=λk Q=>by
   rw[<-dZ];unfold Day.uw;rw[ad Q,Ez]
  have dY:i+1<=D a.E:=by omega
  have ai:bK a.fl i<11:=by omega
  have bL:(11+bK a.fl i+1<=24)=True:=eq_true (by omega);rw[<-azg] at hw;generalize uB:228500+i=eg at *;generalize fD (a.gD i)=DC at *;generalize (bF (D a.E) λi=>R.ptr (228500+i) (a.gs.getD i 0) 0)=xu at *;generalize k8 a.E a.cs (bK a.fl) i=S1 at *;generalize cS a.cs i (bK a.fl i:Nat)=akc at *;generalize bK a.fl i=F0 at *;generalize hq:av (A r (D p))=eR at *;obtain⟨⟨tI,tJ⟩,⟨EK,EL⟩⟩:=eR;simp only[aH] at hw;have n13:(eg==256013)=false:=beq_eq_false_iff_ne.2 (by omega);have azi:(256013==eg)=false:=beq_eq_false_iff_ne.2 (by omega);have azj:(eg=256013)=False:=eq_false (by omega);simp only[go_sem,go_sem_proc,hz,b0,aA,aC,bZ,ej,l7,pe,tV,e8,e7,ih,bX,hlen,l6,s6,dy,azf,hw,O,d1,b4,M,dY,ai,bL,n13,azi,azj,cd,ir,cK,ak,bq];refine axz (kc:=256013) (g:=gA (m 256013)) (off:=0) (cs:=[.nil,.J (.int .i64 tI),.J (.Y (tJ.map ag)),.J (.int .i64 EK),.J (.Y (EL.map ag))]) ?_ ?_ rfl (by decide) ?_
  ·simp only[go_sem,go_sem_proc]
  ·simp[aZ]
  simp only[go_sem,go_sem_proc,aC,ak,rJ];refine ay6 T hz m2 mem (D a.E) (by omega) p (by omega) (λk i=>(aB a.E a.cs).W (bK a.fl) k i) r i M (λk Q=>aza _ (oD k Q).2 i) (.ref 228023 a.g 1 0 (D a.E)) (.J (.Y aki)) (.ref 256082 g 5 0 r) (.J (.Y (p.map ir))) (.J (.int .i64 (D p))) (.J (.int .i64 r)) (gA (m 256013)) (gA (m 256076)) (.J (.int .i64 tI)) (.J (.Y (tJ.map ag))) (.J (.int .i64 EK)) (.J (.Y (EL.map ag))) (some (g,bf iT ((rowsOf (D p) A).take r))) _ _ ?_ ?_ ?_ ?_ ?_ ?_ ?_ ?_ ?_ ?_ ?_ ?_ ?_ ?_ ?_ ?_ ?_ ?_
  ·simp only[e4,eb,if_false];exact b0
  ·simp only[e4,eb,if_false];exact aA
  ·simp only[e4,eb,if_false];exact aC
  ·simp only[e4,eb,if_false];exact bZ
  ·simp only[e4,eb,if_false];exact ej
  ·simp only[e4,eb,if_false,if_true]
  ·simp only[e4,eb,if_false,if_true]
  ·simp only[e4,eb,if_false,if_true]
  ·simp only[e4,eb,if_false];exact l7
  ·simp only[e4,eb,if_false];exact pe
  ·simp only[e4,eb,if_false];exact tV
  ·simp only[e4,eb,if_false,if_true]
  ·simp only[e4,eb,if_false,if_true]
  ·simp[aZ]
  ·simp[aZ]
  ·simp only[aZ,eb,if_false];exact EO
  ·repeat first|exact bQ|refine er.e3 ?_ (by decide)
  intro tm cM Ih fM ca c7 ey nZ wU Ro azk azl azm aaB azn qW;have azo:(dF (D p) λk=>(if r=k then 1 else 0)-(aB a.E a.cs).W (bK a.fl) (p.getD k 0) i)=dF (D p) (A r):=HU λk Q=>(azh k Q).symm;rw[azo] at aaB;clear b0 aA aC bZ ej l7 pe tV EO e8 e7 ih bQ;have dL:=λcs jI=>mu Xe axG 256082 g 88 ((rowsOf (D p) A).take r) (dF (D p) (A r),av (A r (D p))) (cs:=cs) jI;have sS:((rowsOf (D p) A).take r).length=r:=by rw[fR,CE];omega
  have g2:(rowsOf (D p) A).take r++[(dF (D p) (A r),av (A r (D p)))]=(rowsOf (D p) A).take (r+1):=by
   rw[g1,aiL A ay];rfl
  rw[sS,g2,hq] at dL;have mi:(dF (D p) (A r)).length=D p:=p8 _ _;generalize dF (D p) (A r)=V at *;have rZ:=dL _ rfl (by omega) (by omega);simp only[aH,iT,eE,c1] at rZ;simp only[go_sem,go_sem_proc];refine axA (kc:=256013) (gc:=gA (m 256013)) (off:=0) (cc:=[.ref 256076 Ih 4 0 (D p),.J (.int .i64 tI),.J (.Y (tJ.map ag)),.J (.int .i64 EK),.J (.Y (EL.map ag))]) (k:=256076) (g:=Ih) (sz:=4) (o:=0) (len:=D p) (cs:=bf aH V) (d:=.Y (V.map aH)) ?_ azm rfl aaB (aec _ _) (by decide) ?_ ?_
  ·exact wU
  ·have:=qy (n:=0) nq aaB;rw[mi] at this;exact this
  refine aX ?_;repeat' (intro h<;>simp only[h,go_sem,go_sem_proc,fM,ca,c7,ey,nZ,wU,Ro,azk,azl,azn,rZ,b4,rJ]<;>try refine aw ?_ ?_)
  exact⟨(r+1,g+1),by dsimp only;omega,by dsimp only;omega,rfl,rfl,rfl,by repeat first|exact qW|refine er.e3 ?_ (by decide)⟩
 ·have d1:decide ((r:Int)<(D p:Int))=false:=dk;have akj:r=D p:=by omega
  have hlen:=CE (D p) A;rw[dt (by rw[hlen];omega)] at EO;obtain⟨df,eD⟩:=QN;have kJ:rH (rowsOf (D p) A):=awS (by omega) λi M k Q=>j4 (Mw.sz (by omega) M Q) (by omega);have e5:=avi (rowsOf (D p) A) (D p) kJ;rw[df] at e5;dsimp only at e5;have mK:=λ(K:bd->Prop) (st:bd)=>mS (K:=K) (st:=st) Xe 10 256082 g (rowsOf (D p) A);rw[hlen] at mK;subst akj;refine aX ?_;repeat' (intro h<;>simp only[h,go_sem,go_sem_proc,ay9,b0,aA,aC,bZ,ej,l7,pe,tV,EO,d1,mK,e5,ak,bne,beq_self_eq_true,c8]<;>try refine aw ?_ ?_)
  exact⟨_,rfl,rfl,by repeat first|exact bQ|refine er.e3 ?_ (by decide)|refine er.kill ?_ (by decide)⟩
end Go.Mini
namespace Go.Mini
open Classical
def s8 (cs:List ao)(f:Nat->Nat)(n:Nat):List ao:=(dP n).flatMap λi=>(dP (f i)).flatMap λk=>dh cs i k
theorem azp (aO:Nat->List ao)(r n:Nat)(h:r<=n):((dP n).flatMap λk=>if k<r then aO k else [])=(dP r).flatMap aO:=by
 induction n with
 |zero=>rw[show r=0 by omega];rfl
 |succ n ax =>
  rw[nx,yJ,qA,CG,fJ]
  by_cases ab:r=n+1
  ·subst ab;rw[ad (by omega),nx,yJ,qA,CG,fJ]
   congr 1
   rw[yK,yK]
   congr 1
   exact jM λk Q=>ad (by have:=gV.1 Q;omega)
  ·rw[ae (by omega),fJ];exact ax (by omega)
theorem akk {α:Type}(l:List α)(aO:α->List ao)(p:ao->Bool):(l.flatMap aO).filter p=l.flatMap λx=>(aO x).filter p:=by
 induction l with
 |nil=>rfl
 |cons a l ax=>rw[qA,qA,rT,ax]
theorem azq {cs:List ao}{f:Nat->Nat}{n:Nat}(aF:∀i,i<n->f i<=10):s8 cs f n=(dw n cs).filter λc=>decide (c.2.2.1<(f c.1.toNat:Int)):=by
 unfold s8 dw;rw[akk,yK,yK]
 congr 1
 refine jM λi M=>?_;rw[akk,<-azp (λk=>dh cs i k) (f i) 10 (aF i (gV.1 M)),yK,yK]
 congr 1
 refine jM λk _=>?_
 by_cases h:k<f i
 ·rw[ad h];refine (List.filter_eq_self.2 λc G=>?_).symm;obtain⟨-,F,I⟩:=EF.1 G;rw[F,I,lu];exact dn
 ·rw[ae h];refine (HX.2 λc G=>?_).symm;obtain⟨-,F,I⟩:=EF.1 G;rw[F,I,lu,decide_eq_true_eq];omega
theorem azr (cs:List ao)(p:ao->Prop)[DecidablePred p](aO:ao->Int):cP (cs.filter λc=>decide (p c)) aO=cP cs λc=>if p c then aO c else 0:=by
 induction cs with
 |nil=>rfl
 |cons c l ax =>
  by_cases h:p c
  ·rw[ux (by simpa using h)];simp only[cP,ax,ad h]
  ·rw[vP (by simpa using h),ax];simp only[cP,ae h];omega
def gN (j:Nat)(c:ao):Int:=if c.2.1=(j:Int) then c.2.2.2 else 0
theorem akl {E:List Int}{cs:List ao}{f:Nat->Nat}(Mx:cs=dw (D E) cs)(aF:∀i,i<(D E)->f i<=10)(j:Nat):k8 E cs f j=E.getD j 0+cP (s8 cs f (D E)) (gN j):=by
 rw[azq aF,<-Mx,azr cs (λc=>c.2.2.1<(f c.1.toNat:Int))];unfold k8
 congr 1
 refine HL λc _=>?_;unfold gN
 by_cases F:c.2.1=(j:Int)
 ·by_cases I:c.2.2.1<(f c.1.toNat:Int)
  ·rw[ad ⟨F,I⟩,ad I,ad F]
  ·rw[ae λh=>I h.2,ae I]
 ·rw[ae λh=>F h.1,ae F]
  split<;>rfl
theorem azs {cs:List ao}{f:Nat->Nat}{n:Nat}{c:ao}(h:c∈s8 cs f n):c∈cs:=by
 unfold s8 at h;simp only[x1] at h;obtain⟨i,-,k,-,G⟩:=h;exact (EF.1 G).1
def kp (cs:List ao)(f:Nat->Nat)(i k t:Nat):List ao:=s8 cs f i++(((dP k).flatMap λk=>dh cs i k)++(dh cs i k).take t)
theorem azt (cs:List ao)(f:Nat->Nat):kp cs f 0 0 0=[]:=rfl
theorem azu (cs:List ao)(f:Nat->Nat)(i k:Nat):kp cs f i k (dh cs i k).length=kp cs f i (k+1) 0:=by
 unfold kp;rw[k3,nd,fJ,nx,yJ,qA,CG,fJ]
theorem azv (cs:List ao)(f:Nat->Nat)(i:Nat):kp cs f i (f i) 0=kp cs f (i+1) 0 0:=by
 unfold kp s8;rw[nd,nd,fJ,nx,yJ,qA,CG,fJ];simp
theorem akm (cs:List ao)(f:Nat->Nat)(n:Nat):kp cs f n 0 0=s8 cs f n:=by
 unfold kp;simp
theorem akn (cs:List ao)(f:Nat->Nat){n i k t:Nat}(M:i<n)(Q:k<f i):∃l,s8 cs f n=kp cs f i k t++l:=by
 have aK:∃m,n=i+1+m:=⟨n-(i+1),by omega⟩
 obtain⟨m,rfl⟩:=aK;have aF:∃r,f i=k+1+r:=⟨f i-(k+1),by omega⟩
 obtain⟨r,ab⟩:=aF;have Rp:∀(a b:Nat) (aO:Nat->List ao),(dP (a+b)).flatMap aO=(dP a).flatMap aO++((dP b).map (a+·)).flatMap aO:=λa b aO=>by rw[ako,yJ]
 unfold s8 kp;rw[Rp,nx,yJ,qA,CG,fJ,ab,Rp,nx,yJ,qA,CG,fJ];refine⟨(dh cs i k).drop t++(((dP r).map (k+1+·)).flatMap (λk=>dh cs i k)++((dP m).map (i+1+·)).flatMap λi=>(dP (f i)).flatMap λk=>dh cs i k),?_⟩;unfold s8;simp only[gU]
 congr 1
 congr 1
 rw[<-gU ((dh cs i k).take t),Bs]
theorem akp {E:List Int}{cs:List ao}(h:e2 E cs){f:Nat->Nat}(Mx:cs=dw (D E) cs)(aF:∀i,i<(D E)->f i<=10)(j:Nat){l fr:List ao}(aq:s8 cs f (D E)=l++fr):0<=cP l (gN j)/\cP l (gN j)<=13000000000000000:=by
 have C8:∀m:List ao,(∀c∈m,c∈cs)->0<=cP m (gN j):=by
  intro m
  induction m with
  |nil=>intro _;exact QG _
  |cons c m ax =>
   intro hm;have F:=ax λy ar=>hm y (gX _ ar);have I:=((hy.1 h.right).2.2.2 c (hm c gn)).2.2.2.2.2.2.1;simp only[cP,gN] at *
   split<;>omega
 have hm:∀c∈l++fr,c∈cs:=λc G=>azs (by rw[aq];exact G);have F:=C8 l λc G=>hm c (by simp[G]);have I:=C8 fr λc G=>hm c (by simp[G]);have af:=akl Mx aF j;rw[aq,LW] at af;have aM:=h.steady f j;have bk:=h.E j;omega
end Go.Mini
namespace Go.Mini
open Go
theorem akq {n c:Nat}(G:c<n)(q:Nat->Int)(v:Int):gq c (yG cd (bF n q))++[R.J (.int .i64 v)]++gI (c+1) (yG cd (bF n q))=yG cd (bF n λj=>if j=c then v else q j):=by
 rw[<-AD,Ai,akr,ad (by rw[ak,gM];exact G)];simp[cd]
theorem aks {n c:Nat}(G:c<n)(q:Nat->Int):gq 1 (gI c (yG cd (bF n q)))=[.J (.int .i64 (q c))]:=Az (f:=cd) (iV q G)
theorem akt (n:Nat)(q:Nat->Int):(yG cd (bF n q)).length=n:=by rw[ak,gM]
theorem Rq (l:List ao)(c:ao)(aO:ao->Int):cP (l++[c]) aO=cP l aO+aO c:=by
 rw[LW];simp[cP]
theorem azw (T:bh){K:eX->bd->Prop}{kk:List gz}(eF:Mem)(n:Nat)(aK:n<=60)(L:List ao)(B:Nat->Int)(fU:∀t j,0<=B j+cP (L.take t) (gN j)/\B j+cP (L.take t) (gN j)<=4000000000000000000)(gu:∀c∈L,c.2.1<n /\ -1<=c.2.1)(aLq:(D L)<=2000)(v0 v4 v6 r0 Ae v9 v30 Ik v32 aku akv:R)(bM:Nat)(Il Im:Option (Nat×List R))(tm:Nat->R)(m:Mem)
  (b0:tm 0=v0) (dq:tm 4=v4) (cL:tm 5=.ref 248029 bM 1 0 n) (bY:tm 6=v6) (bR:tm 7=r0) (ef:tm 8=Ae) (fF:tm 9=v9) (hU:tm 30=v30) (iX:tm 31=Ik) (iY:tm 32=v32) (nB:tm 50=aku) (nC:tm 51=akv) (oj:tm 59=j6 L) (kq:tm 60=.J (.int .i64 (D L))) (s9:tm 61=.J (.int .i64 0))
  (l8:m 248029=some (bM,(bF n B).map cd)) (nD:m 248094=Il) (nE:m 248098=Im) (bQ:er 248 eF m)
  (dN:∀tm' m',tm' 0=v0->tm' 4=v4->tm' 5=.ref 248029 bM 1 0 n->tm' 6=v6->tm' 7=r0->tm' 8=Ae->tm' 9=v9->tm' 30=v30->tm' 31=Ik->tm' 32=v32->tm' 50=aku->tm' 51=akv->m' 248029=some (bM,(bF n λj=>B j+cP L (gN j)).map cd)->m' 248094=Il->m' 248098=Im->er 248 eF m'->cG T K kk (.exit 4) ⟨tm',m'⟩) :
  wp T (vy.body.sub [1,1,1,1,1,0,1,0,0,0,0,1,1,0,0,1,1,0,1,0,0,1,1,0,0,1,1,0]) (cG T K kk) ⟨tm,m⟩:=by
 simp only[vy,eA.sub]
 refine dv [0,4,5,6,7,8,9,30,31,32,50,51,59,60] [248094,248098] (λ(t:Nat) tm m=>t<=D L/\tm 61=.J (.int .i64 t)/\m 248029=some (bM,(bF n λj=>B j+cP (L.take t) (gN j)).map cd)/\er 248 eF m) (λt=>D L-t) 0 (by
  refine⟨by omega,s9,?_,bQ⟩
  rw[l8]
  congr 3
  exact kL λj _=>by rw[nd];simp[cP]) ?_
 intro vs ms aT aR;simp only[go_sem,go_sem_proc,b0,dq,cL,bY,bR,ef,fF,hU,iX,iY,nB,nC,oj,kq,nD,nE] at aT aR;subst aT aR;clear b0 dq cL bY bR ef fF hU iX iY nB nC oj kq s9 l8 nD nE bQ tm m;rintro t tm m Q hm ⟨aiP,s9,l8,bQ⟩;simp only[go_sem,go_sem_proc,bb] at Q hm;obtain⟨b0,dq,cL,bY,bR,ef,fF,hU,iX,iY,nB,nC,oj,kq⟩:=Q;obtain⟨nD,nE⟩:=hm;rcases dA (t<D L) with ay|b9
 ·have d1:decide ((t:Int)<(D L:Int))=true:=dn;have b4:=e9 (i:=t) (by omega);obtain⟨⟨aI,c2,c3,c4⟩,O⟩:∃c,L[t]?=some c:=⟨_,bx ay⟩;have lj:=gu _ (ep O);dsimp only at lj;have sM:=ajM O;simp only[go_sem,go_sem_proc] at sM;have g2:L.take (t+1)=L.take t++[(aI,c2,c3,c4)]:=by rw[g1,O];rfl
  rcases q:decide (c2>=0)
  ·have uQ:c2<0:=by have:=of_decide_eq_false q;omega
   have AL:(bF n λj=>B j+cP (L.take (t+1)) (gN j))=bF n λj=>B j+cP (L.take t) (gN j):=kL λj _=>by
    rw[g2,Rq];unfold gN;rw[ae (by dsimp only;omega)];omega
   refine aX ?_;repeat' (intro h<;>simp only[h,go_sem,go_sem_proc,b0,dq,cL,bY,bR,ef,fF,hU,iX,iY,nB,nC,oj,kq,s9,l8,nD,nE,sM,d1,b4,q,cx,cK]<;>try refine aw ?_ ?_)
   refine⟨t+1,by omega,by omega,rfl,by rw[AL],by repeat first|exact bQ|refine er.e3 ?_ (by decide)⟩
  ·have uQ:0<=c2:=of_decide_eq_true q;obtain⟨i,rfl⟩:∃t:Nat,c2=(t:Int):=⟨c2.toNat,by omega⟩
   have cw:i<n:=by omega
   have kW:=fU t i;have eQ:=fU (t+1) i;rw[g2,Rq] at eQ;have r1:gN i (aI,(i:Int),c3,c4)=c4:=by unfold gN;rw[ad rfl]
   rw[r1] at eQ;have My:IntKind.i64.wrap (B i+cP (L.take t) (gN i)+c4)=B i+cP (L.take t) (gN i)+c4:=by rw[fi _]
   have AL:(bF n λj=>B j+cP (L.take (t+1)) (gN j))=bF n λj=>if j=i then B i+cP (L.take t) (gN i)+c4 else B j+cP (L.take t) (gN j):=kL λj _=>by
    rw[g2,Rq]
    by_cases aj:j=i
    ·rw[ad aj,aj,r1];omega
    ·rw[ae aj];have:gN j (aI,(i:Int),c3,c4)=0:=by unfold gN;rw[ae (by dsimp only;omega)]
     rw[this];omega
   have t1:=aks cw λj=>B j+cP (L.take t) (gN j);have t2:=akt n λj=>B j+cP (L.take t) (gN j);have t3:=akq cw (λj=>B j+cP (L.take t) (gN j)) (B i+cP (L.take t) (gN i)+c4);rw[<-AL] at t3;have dY:i+1<=n:=by omega
   generalize hv:(bF n λj=>B j+cP (L.take t) (gN j)).map cd=cg at *;generalize nP:(bF n λj=>B j+cP (L.take (t+1)) (gN j)).map cd=rK at *;generalize B i+cP (L.take t) (gN i)=S1 at *;refine aX ?_;repeat' (intro h<;>simp only[h,go_sem,go_sem_proc,b0,dq,cL,bY,bR,ef,fF,hU,iX,iY,nB,nC,oj,kq,s9,l8,nD,nE,sM,d1,b4,q,My,t1,t2,t3,cw,dY,cx,cK]<;>try refine aw ?_ ?_)
   refine⟨t+1,by omega,by omega,rfl,by rw[nP],by repeat first|exact bQ|refine er.e3 ?_ (by decide)⟩
 ·have d1:decide ((t:Int)<(D L:Int))=false:=dk;rw[dt (by omega)] at l8;refine aX ?_;repeat' (intro h<;>simp only[h,go_sem,go_sem_proc,b0,dq,cL,bY,bR,ef,fF,hU,iX,iY,nB,nC,oj,kq,s9,d1]<;>try refine aw ?_ ?_)
  refine dN _ _ ?_ ?_ ?_ ?_ ?_ ?_ ?_ ?_ ?_ ?_ ?_ ?_ l8 nD nE bQ<;>simp only[e4,eb,if_false,b0,dq,cL,bY,bR,ef,fF,hU,iX,iY,nB,nC]
theorem akw (cs:List ao)(f:Nat->Nat)(i k t:Nat):kp cs f i k t=kp cs f i k 0++(dh cs i k).take t:=by
 unfold kp;simp
theorem azx (T:bh){K:eX->bd->Prop}{kk:List gz}(eF:Mem)(E:List Int)(cs:List ao)(f:Nat->Nat)(U:e2 E cs)(Mx:cs=dw (D E) cs)(aF:∀i,i<(D E)->f i<=10)(i:Nat)(M:i<D E)(x:og)(O:x.dj)(ew:∀k,k<10->x.cO[k]?=some (dh cs i k))(B:Nat->Int)(fU:∀j,0<=B j/\B j<=1000000000000000)(eg g:Nat)(uB:eg/1000≠248)(ml:eF eg=some (g,fD x))(v0 v4 v6 r0 Ae v30 Ik v32:R)(bM:Nat)(Il Im:Option (Nat×List R))(tm:Nat->R)(m:Mem)
  (b0:tm 0=v0) (dq:tm 4=v4) (cL:tm 5=.ref 248029 bM 1 0 (D E)) (bY:tm 6=v6) (bR:tm 7=r0) (ef:tm 8=Ae) (fF:tm 9=.ptr eg g 0) (hU:tm 30=v30) (iX:tm 31=Ik) (iY:tm 32=v32) (nB:tm 50=.J (.int .i64 (f i))) (nC:tm 51=.J (.int .i64 0))
  (l8:m 248029=some (bM,(bF (D E) λj=>B j+cP (kp cs f i 0 0) (gN j)).map cd)) (nD:m 248094=Il) (nE:m 248098=Im) (bQ:er 248 eF m)
  (dN:∀tm' m',tm' 0=v0->tm' 4=v4->tm' 5=.ref 248029 bM 1 0 (D E)->tm' 6=v6->tm' 7=r0->tm' 8=Ae->tm' 9=.ptr eg g 0->tm' 30=v30->tm' 31=Ik->tm' 32=v32->m' 248029=some (bM,(bF (D E) λj=>B j+cP (kp cs f (i+1) 0 0) (gN j)).map cd)->m' 248094=Il->m' 248098=Im->er 248 eF m'->cG T K kk (.exit 2) ⟨tm',m'⟩) :
  wp T (vy.body.sub [1,1,1,1,1,0,1,0,0,0,0,1,1,0,0,1,1,0,1,0]) (cG T K kk) ⟨tm,m⟩:=by
 simp only[vy,eA.sub];have rY:=aF i M;have aK:=U.n5;refine dv [0,4,5,6,7,8,9,30,31,32,50] [248094,248098] (λ(k:Nat) tm m=>k<=f i/\tm 51=.J (.int .i64 k)/\m 248029=some (bM,(bF (D E) λj=>B j+cP (kp cs f i k 0) (gN j)).map cd)/\er 248 eF m) (λk=>f i-k) 0 (by refine⟨by omega,nC,l8,bQ⟩) ?_;intro vs ms aT aR;simp only[go_sem,go_sem_proc,b0,dq,cL,bY,bR,ef,fF,hU,iX,iY,nB,nD,nE] at aT aR;subst aT aR;clear b0 dq cL bY bR ef fF hU iX iY nB nC l8 nD nE bQ tm m;rintro k tm m Q hm ⟨HC,nC,l8,bQ⟩;simp only[go_sem,go_sem_proc,bb] at Q hm;obtain⟨b0,dq,cL,bY,bR,ef,fF,hU,iX,iY,nB⟩:=Q;obtain⟨nD,nE⟩:=hm;rcases dA (k<f i) with ay|b9
 ·have d1:decide ((k:Int)<(f i:Int))=true:=dn;have b4:=e9 (i:=k) (by omega);have ah:=(bQ eg uB).trans ml;have hlen:=CI O;have CL:=ajN (x:=x) (k:=k) (l:=dh cs i k) (ew k (by omega));have dY:k<10:=by omega
  have bL:(1+k+1<=24)=True:=eq_true (by omega);have akx:=ajL (dh cs i k);simp only[go_sem,go_sem_proc] at akx;generalize fD x=DC at *;simp only[go_sem,go_sem_proc,b0,dq,cL,bY,bR,ef,fF,hU,iX,iY,nB,nC,ah,hlen,CL,d1,dY,bL,akx,cK];refine azw T eF (D E) (by omega) (dh cs i k) (λj=>B j+cP (kp cs f i k 0) (gN j)) (λt j=>?_) (λc G=>?_) ?_ v0 v4 v6 r0 Ae (.ptr eg g 0) v30 Ik v32 (.J (.int .i64 (f i))) (.J (.int .i64 k)) bM Il Im _ _ ?_ ?_ ?_ ?_ ?_ ?_ ?_ ?_ ?_ ?_ ?_ ?_ ?_ ?_ ?_ l8 nD nE bQ ?_
  ·obtain⟨l,aq⟩:=akn cs f (n:=D E) (t:=t) M ay;have F:=akp U Mx aF j aq;rw[akw,LW] at F;have I:=fU j;omega
  ·have:=(hy.1 U.right).2.2.2 c (EF.1 G).1;omega
  ·have F:=od (λc:ao=>c.1==(i:Int)&&c.2.2.1==(k:Int)) cs;have I:=U.sZ;unfold dh;omega
  all_goals first|(intro tm' m' fM j2 pr iq hR hP mY Rr Rs Rt azy azz Io Ru Rv xv)|(simp only[e4,eb,if_false,if_true,b0,dq,cL,bY,bR,ef,fF,hU,iX,iY,nB,nC])
  have hK:(bF (D E) λj=>B j+cP (kp cs f i k 0) (gN j)+cP (dh cs i k) (gN j))=bF (D E) λj=>B j+cP (kp cs f i (k+1) 0) (gN j):=kL λj _=>by
   rw[<-azu,akw cs f i k (dh cs i k).length,k3,LW];omega
  rw[hK] at Io;refine aX ?_;repeat' (intro h<;>simp only[h,go_sem,go_sem_proc,fM,j2,pr,iq,hR,hP,mY,Rr,Rs,Rt,azy,azz,Ru,Rv,b4]<;>try refine aw ?_ ?_)
  refine⟨k+1,by omega,by omega,rfl,Io,xv⟩
 ·have d1:decide ((k:Int)<(f i:Int))=false:=dk;obtain rfl:k=f i:=by omega
  rw[azv] at l8;refine aX ?_;repeat' (intro h<;>simp only[h,go_sem,go_sem_proc,b0,dq,cL,bY,bR,ef,fF,hU,iX,iY,nB,nC,d1]<;>try refine aw ?_ ?_)
  refine dN _ _ ?_ ?_ ?_ ?_ ?_ ?_ ?_ ?_ ?_ ?_ l8 nD nE bQ<;>simp only[e4,eb,if_false,b0,dq,cL,bY,bR,ef,fF,hU,iX,iY]
structure Rw (a:dc) (mem:Mem):Prop where
 at_:a.At mem
 hC:rU 248 mem
 ie:rU 255 mem
 v8:rU 256 mem
 Ig:a.Ie
 ez:s0 (aB a.E a.cs) (bK a.fl) (fv a.P)
open Classical in
theorem aky (P:Nat->Prop)(n:Nat):c0 P (n+1)=c0 P n++(if P n then [n] else []):=by
 unfold c0;rw[nx,rT]
 by_cases h:P n
 ·rw[ad h,ux (by simpa using h),p9]
 ·rw[ae h,vP (by simpa using h),p9]
theorem akz (P:Nat->Prop)(n:Nat):(c0 P n).length<=n:=by
 unfold c0;exact eP (od _ _) (by rw[ss];exact bW _)
def dc.W (a:dc)(k i:Nat):Rat:=(aB a.E a.cs).W (bK a.fl) k i
theorem akA (n:Nat)(W:Nat->Nat->Rat)(k:Nat):(s7 n W k).length=1:=rfl
theorem azA (n:Nat)(W:Nat->Nat->Rat)(k:Nat):((s7 n W k).map R.J).all R.one=true:=rfl
def om (a:dc)(i j:Nat):Int:=(if j<i then a.E.getD j 0 else 0)+cP (kp a.cs (bK a.fl) i 0 0) (gN j)
theorem azB (T:bh)(aaC:T On=yL Rj){K:eX->bd->Prop}{kk:List gz}(a:dc)(eF:Mem)(aN:Rw a eF)(v0 v4 v30:R)(bM pz lb:Nat)(tm:Nat->R)(m:Mem)
  (b0:tm 0=v0) (dq:tm 4=.J (.int .i64 (D a.E))) (cL:tm 5=.ref 248029 bM 1 0 (D a.E)) (bY:tm 6=.ref 248094 pz 1 0 0) (bR:tm 7=.ref 248098 lb 1 0 0) (hU:tm 30=.ref 228023 a.g 1 0 (D a.E)) (iX:tm 31=.J (.int .i64 (D a.E))) (iY:tm 32=.J (.int .i64 0))
  (l8:m 248029=some (bM,(bF (D a.E) λj=>om a 0 j).map cd)) (nD:m 248094=some (pz,[])) (nE:m 248098=some (lb,[])) (bQ:er 248 eF m)
  (dN:∀tm' m' akB akC,tm' 0=v0->tm' 4=.J (.int .i64 (D a.E))->tm' 5=.ref 248029 bM 1 0 (D a.E)->tm' 6=.ref 248094 akB 1 0 (D a.p)->tm' 7=.ref 248098 akC 1 0 (D a.p)->m' 248029=some (bM,(bF (D a.E) λj=>om a (D a.E) j).map cd)->m' 248094=some (akB,bf ir a.p)->m' 248098=some (akC,bf (s7 (D a.E) a.W) a.p)->er 248 eF m'->cG T K kk (.exit 0) ⟨tm',m'⟩) :
  wp T (vy.body.sub [1,1,1,1,1,0,1,0,0,0]) (cG T K kk) ⟨tm,m⟩:=by
 have Rx:=aN;obtain⟨b8,hC,ie,v8,r2,lG⟩:=aN;have uf:=λi=>dc.Mt b8 r2 (i:=i);obtain⟨U,gp⟩:=r2;have aK:=U.n5;simp only[vy,eA.sub];refine dv [0,4,5,30,31] [] (λ((i,pz,lb):Nat×Nat×Nat) tm m=>i<=D a.E/\tm 32=.J (.int .i64 i)/\tm 6=.ref 248094 pz 1 0 (c0 (fv a.P) i).length/\tm 7=.ref 248098 lb 1 0 (c0 (fv a.P) i).length/\m 248029=some (bM,(bF (D a.E) λj=>om a i j).map cd)/\m 248094=some (pz,bf ir (c0 (fv a.P) i))/\m 248098=some (lb,bf (s7 (D a.E) a.W) (c0 (fv a.P) i))/\er 248 eF m) (λ(i,_)=>D a.E-i) (0,pz,lb) (by refine⟨by omega,iY,bY,bR,l8,nD,nE,bQ⟩) ?_;intro vs ms aT aR;simp only[go_sem,go_sem_proc,b0,dq,cL,hU,iX] at aT aR;subst aT aR;clear b0 dq cL bY bR hU iX iY l8 nD nE bQ tm m;rintro⟨i,pz,lb⟩ tm m Q-⟨cw,iY,bY,bR,l8,nD,nE,bQ⟩;simp only[go_sem,go_sem_proc,bb] at Q;obtain⟨b0,dq,cL,hU,iX⟩:=Q;rcases dA (i<D a.E) with M|b9
 ·have d1:decide ((i:Int)<(D a.E:Int))=true:=dn;have b4:=e9 (i:=i) (by omega);obtain⟨rY,vY⟩:=uf i M;have e8:=(bQ.at 228023 (by omega)).trans b8.row;have sA:=b8.dd i M;have e7:=(bQ.at (228500+i) (by omega)).trans sA;have ih:=vZ (iV (λi=>R.ptr (228500+i) (a.gs.getD i 0) 0) M);have bX:(bF (D a.E) λi=>R.ptr (228500+i) (a.gs.getD i 0) 0).length=D a.E:=gM _ _;have cX:=a.xt i;have hlen:=CI cX;have l6:=Mi cX;have r3:=ajP cX;have akD:=ax2 (x:=a.gD i);rw[show (a.gD i).f=(bK a.fl i:Int) from rY] at l6;rw[show (a.gD i).p=a.P.getD i false from rfl] at r3;rw[show (a.gD i).E=a.E.getD i 0 from rfl] at akD;have aLr:=U.E i;have iP:=akn a.cs (bK a.fl) (n:=D a.E) (i:=i) (k:=0) (t:=0) M
  have aLs:0<=cP (kp a.cs (bK a.fl) i 0 0) (gN i)/\cP (kp a.cs (bK a.fl) i 0 0) (gN i)<=13000000000000000:=by
   have:∃l,s8 a.cs (bK a.fl) (D a.E)=kp a.cs (bK a.fl) i 0 0++l:=by
    obtain⟨r,ab⟩:∃r,D a.E=i+r:=⟨D a.E-i,by omega⟩
    refine⟨((dP r).map (i+·)).flatMap λi=>(dP (bK a.fl i)).flatMap λk=>dh a.cs i k,?_⟩;rw[akm];unfold s8;rw[ab,ako,yJ]
   obtain⟨l,aq⟩:=this;exact akp U b8.can (λi M=>(uf i M).2) i aq
  have Zw:om a i i=cP (kp a.cs (bK a.fl) i 0 0) (gN i):=by unfold om;rw[ae (by omega)];omega
  have azC:IntKind.i64.wrap (om a i i+a.E.getD i 0)=om a i i+a.E.getD i 0:=by rw[fi _]
  have t1:=aks M λj=>om a i j;have t2:=akt (D a.E) λj=>om a i j;have t3:=akq M (λj=>om a i j) (om a i i+a.E.getD i 0)
  have EP:(bF (D a.E) λj=>if j=i then om a i i+a.E.getD i 0 else om a i j)=bF (D a.E) λj=>(if j<i+1 then a.E.getD j 0 else 0)+cP (kp a.cs (bK a.fl) i 0 0) (gN j):=kL λj _=>by
   by_cases aj:j=i
   ·rw[ad aj,aj,ad (by omega),Zw];omega
   ·rw[ae aj];unfold om
    by_cases uY:j<i
    ·rw[ad uY,ad (by omega)]
    ·rw[ae uY,ae (by omega)]
  rw[EP] at t3;have dY:i+1<=D a.E:=by omega
  have uB:(228500+i)/1000≠248:=by omega
  generalize oT:228500+i=eg at *;have n29:(eg=248029)=False:=eq_false (by omega);have azD:(eg==248029)=false:=beq_eq_false_iff_ne.2 (by omega);have azE:(248029==eg)=false:=beq_eq_false_iff_ne.2 (by omega);have aLt:fD (a.gD i)=fD (a.gD i):=rfl;generalize eS:(bF (D a.E) λj=>om a i j).map cd=cg at *;generalize azF:(bF (D a.E) λj=>(if j<i+1 then a.E.getD j 0 else 0)+cP (kp a.cs (bK a.fl) i 0 0) (gN j)).map cd=rK at *;generalize Ip:(bF (D a.E) λi=>R.ptr (228500+i) (a.gs.getD i 0) 0)=xu at *;generalize Mz:fD (a.gD i)=DC at *;simp only[go_sem,go_sem_proc,b0,dq,cL,bY,bR,hU,iX,iY,e8,e7,ih,bX,hlen,l6,r3,akD,l8,t1,t2,t3,azC,d1,M,dY,n29,azD,azE,cd,la,cK];refine azx T eF a.E a.cs (bK a.fl) U b8.can (λi M=>(uf i M).2) i M (a.gD i) cX (λk Q=>iV _ Q) (λj=>if j<i+1 then a.E.getD j 0 else 0) (λj=>?_) eg (a.gs.getD i 0) uB (by rw[Mz];exact sA) v0 (.J (.int .i64 (D a.E))) (.ref 248094 pz 1 0 (c0 (fv a.P) i).length) (.ref 248098 lb 1 0 (c0 (fv a.P) i).length) (.J (.int .i64 i)) (.ref 228023 a.g 1 0 (D a.E)) (.J (.int .i64 (D a.E))) (.J (.int .i64 i)) bM (some (pz,bf ir (c0 (fv a.P) i))) (some (lb,bf (s7 (D a.E) a.W) (c0 (fv a.P) i))) _ _ ?_ ?_ ?_ ?_ ?_ ?_ ?_ ?_ ?_ ?_ ?_ ?_ ?_ ?_ ?_ (bQ.e3 (by decide)) ?_
  ·have:=U.E j
   split<;>omega
  all_goals first|(intro tm' m' fM j2 pr iq hR hP mY Rr Rs Rt Io Ru Rv xv)|(simp only[e4,eb,if_false,if_true,b0,dq,cL,bY,bR,hU,iX,iY])|(simp only[aZ,eb,if_false,if_true,nD,nE])|skip
  ·rw[<-azF]
  have hK:(bF (D a.E) λj=>(if j<i+1 then a.E.getD j 0 else 0)+cP (kp a.cs (bK a.fl) (i+1) 0 0) (gN j))=bF (D a.E) λj=>om a (i+1) j:=rfl;rw[hK] at Io;have eQ:=(xv eg uB).trans sA;have pl:=akz (fv a.P) i;rcases q:a.P.getD i false
  ·have fW:c0 (fv a.P) (i+1)=c0 (fv a.P) i:=by
    rw[aky,ae (by unfold fv;rw[q];decide),fJ]
   rw[q] at r3;refine aX ?_;repeat' (intro h<;>simp only[h,go_sem,go_sem_proc,fM,j2,pr,iq,hR,hP,mY,Rr,Rs,Rt,Ru,Rv,eQ,hlen,r3,b4,la,cK]<;>try refine aw ?_ ?_)
   exact⟨(i+1,pz,lb),by dsimp only;omega,by dsimp only;omega,rfl,by rw[fW],by rw[fW],Io,by rw[fW],by rw[fW],xv⟩
  ·have gr:fv a.P i:=q
   have fW:c0 (fv a.P) (i+1)=c0 (fv a.P) i++[i]:=by
    rw[aky,ad gr]
   have azG:bK a.fl i<10:=by
    obtain⟨F,g,I,af⟩:=lG;exact (af.gC i gr).2
   have jv:=ayY a i m' ⟨b8.az xv (by decide) aK,ie.az xv (by decide),⟨U,gp⟩,M,azG,lG.rO i gr⟩;rw[oT] at jv;have azH:Ri (a,i)=.cI [.Y ((dF (D a.E) (a.W i)).map aH),.bool true]:=rfl;rw[azH] at jv;have akE:=mu yH ajJ 248094 pz 8 (c0 (fv a.P) i) i (cs:=[.J (.int .i64 i)]) rfl (by omega) (by omega);have akF:=mu (akA (D a.E) a.W) (azA (D a.E) a.W) 248098 lb 24 (c0 (fv a.P) i) i (cs:=[.J (.Y ((dF (D a.E) (a.W i)).map aH))]) rfl (by omega) (by omega);have ck:(c0 (fv a.P) (i+1)).length=(c0 (fv a.P) i).length+1:=by rw[fW,fE];rfl
   rw[<-fW] at akE akF;rw[q] at r3;generalize (dF (D a.E) (a.W i)).map aH=V at *;refine aX ?_;repeat' (intro h<;>simp only[h,go_sem,go_sem_proc,aaC,fM,j2,pr,iq,hR,hP,mY,Rr,Rs,Rt,Ru,Rv,eQ,hlen,r3,jv,akE,akF,b4,la,cK,c8]<;>try refine aw ?_ ?_)
   exact⟨(i+1,pz+1,lb+1),by dsimp only;omega,by dsimp only;omega,rfl,by rw[ck],by rw[ck],Io,rfl,rfl,by repeat first|exact xv|refine er.e3 ?_ (by decide)⟩
 ·have d1:decide ((i:Int)<(D a.E:Int))=false:=dk;obtain rfl:i=D a.E:=by omega
  refine aX ?_;repeat' (intro h<;>simp only[h,go_sem,go_sem_proc,b0,dq,cL,bY,bR,hU,iX,iY,d1]<;>try refine aw ?_ ?_)
  refine dN _ _ pz lb ?_ ?_ ?_ ?_ ?_ l8 nD nE bQ<;>simp only[e4,eb,if_false,b0,dq,cL,bY,bR,dc.p]
theorem azI (T:bh)(lZ:T wE=aV yx)(k4:T yb=aV zZ){K:eX->bd->Prop}{kk:List gz}(eF:Mem)(n:Nat)(p:List Nat)(aE:(D p)<=60)(W:Nat->Nat->Rat)(dg:Nat->Rat)(i:Nat)(M:i<n)(wa:Rat)(aS:∀t,t<=(D p)->dT 708 (wa+bE t λk=>W (p.getD k 0) i*dg k))(cN:∀k,k<(D p)->dT 438 (W (p.getD k 0) i*dg k)/\dT 54 (W (p.getD k 0) i)/\dT 384 (dg k))(akG akH akI akJ:R)(bM:Nat)(akK:Option (Nat×List R))(tm:Nat->R)(m:Mem)
  (bY:tm 6=.J (.Y (p.map ir))) (bR:tm 7=.J (.Y (p.map (s7 n W)))) (r4:tm 15=.J (.Y ((dF (D p) dg).map aH))) (j0:tm 17=akG) (jz:tm 18=.J (.int .i64 i)) (l7:tm 20=.ptr 248020 bM 0) (xw:tm 110=akH) (xx:tm 111=akI) (pX:tm 112=akJ) (MA:tm 120=.J (.int .i64 (D p))) (MB:tm 121=.J (.int .i64 0))
  (Iq:m 248020=some (bM,(aH (av wa)).map .J)) (Ir:m 248156=akK) (bQ:er 248 eF m)
  (dN:∀tm' m',tm' 6=.J (.Y (p.map ir))->tm' 7=.J (.Y (p.map (s7 n W)))->tm' 15=.J (.Y ((dF (D p) dg).map aH))->tm' 17=akG->tm' 20=.ptr 248020 bM 0->tm' 110=akH->tm' 111=akI->tm' 112=akJ->m' 248020=some (bM,(aH (av (wa+bE (D p) λk=>W (p.getD k 0) i*dg k))).map .J)->m' 248156=akK->er 248 eF m'->cG T K kk (.exit 8) ⟨tm',m'⟩) :
  wp T (vy.body.sub [1,1,1,1,1,1,1,1,1,0,1,0,0,0,1,1,0,0,1,1,0,1,0]) (cG T K kk) ⟨tm,m⟩:=by
 simp only[vy,eA.sub]
 refine dv [6,7,15,17,18,20,110,111,112,120] [248156] (λ(k:Nat) tm m=>k<=D p/\tm 121=.J (.int .i64 k)/\m 248020=some (bM,(aH (av (wa+bE k λk=>W (p.getD k 0) i*dg k))).map .J)/\er 248 eF m) (λk=>D p-k) 0 (by
  refine⟨by omega,MB,?_,bQ⟩
  rw[Iq,bE,oQ]) ?_
 intro vs ms aT aR;simp only[go_sem,go_sem_proc,bY,bR,r4,j0,jz,l7,xw,xx,pX,MA,Ir] at aT aR;subst aT aR;clear bY bR r4 j0 jz l7 xw xx pX MA MB Iq Ir bQ tm m;rintro k tm m Q hm ⟨HC,MB,Iq,bQ⟩;simp only[go_sem,go_sem_proc,bb] at Q hm;obtain⟨bY,bR,r4,j0,jz,l7,xw,xx,pX,MA⟩:=Q;rcases dA (k<D p) with ay|b9
 ·have d1:decide ((k:Int)<(D p:Int))=true:=dn;have b4:=e9 (i:=k) (by omega);obtain⟨v7,O⟩:∃c,p[k]?=some c:=⟨_,bx ay⟩;have sR:p.getD k 0=v7:=by rw[en,O];rfl
  obtain⟨jm,kl,z3⟩:=cN k ay;have z0:=aS k (by omega);rw[sR] at jm kl;have hmul:=ajk (j4 kl (by omega)) (j4 z3 (by omega)) (Zh kl z3 (by omega));have iB:=ajj (j4 z0 (by omega)) (j4 jm (by omega)) (Ex z0 jm (by omega))
  have U:(wa+bE (k+1) λk=>W (p.getD k 0) i*dg k)=wa+bE k (λk=>W (p.getD k 0) i*dg k)+W v7 i*dg k:=by
   rw[bE,sR];grind
  have bc:=vN (W v7) M;have azJ:=vN dg ay;rw[<-U] at iB;clear z0 jm kl z3 cN aS U dN;generalize av (wa+bE k λk=>W (p.getD k 0) i*dg k)=F1 at *;generalize azK:av (wa+bE (k+1) λk=>W (p.getD k 0) i*dg k)=F2 at *;generalize av (W v7 i*dg k)=F3 at *;generalize av (W v7 i)=F4 at *;generalize av (dg k)=F5 at *;obtain⟨⟨cU,de⟩,⟨a3,a4⟩⟩:=F1;obtain⟨⟨df,eD⟩,⟨j3,l2⟩⟩:=F2;obtain⟨⟨f1,f2⟩,⟨f3,f4⟩⟩:=F3;obtain⟨⟨cD,cf⟩,⟨gS,jY⟩⟩:=F4;obtain⟨⟨ca,c7⟩,⟨ey,j2⟩⟩:=F5;simp only[aH,eE,c1] at hmul iB Iq;refine aX ?_;repeat' (intro h<;>simp only[h,go_sem,go_sem_proc,lZ,k4,bY,bR,r4,j0,jz,l7,xw,xx,pX,MA,MB,Iq,hm,d1,b4,O,s7,bc,azJ,hmul,iB,aH,ak,bq,bne,beq_self_eq_true,c8]<;>try refine aw ?_ ?_)
  refine⟨k+1,by omega,by omega,rfl,by rw[azK],by repeat first|exact bQ|refine er.e3 ?_ (by decide)⟩
 ·have d1:decide ((k:Int)<(D p:Int))=false:=dk;obtain rfl:k=D p:=by omega
  refine aX ?_;repeat' (intro h<;>simp only[h,go_sem,go_sem_proc,bY,bR,r4,j0,jz,l7,xw,xx,pX,MA,MB,d1]<;>try refine aw ?_ ?_)
  refine dN _ _ ?_ ?_ ?_ ?_ ?_ ?_ ?_ ?_ Iq hm bQ<;>simp only[e4,eb,if_false,bY,bR,r4,j0,l7,xw,xx,pX]
def Ry (a:dc):Data:=.cI [.Y ((dF (D a.E) ((aB a.E a.cs).fa (bK a.fl) (fv a.P))).map aH),.bool true]
def aaD:List R->Mem->Option Data:=EI (λ(a:dc) args mem=>args=[.ref 228023 a.g 1 0 (D a.E)]/\Rw a mem) Ry
theorem azL (a:dc)(mem:Mem)(h:Rw a mem):aaD [.ref 228023 a.g 1 0 (D a.E)] mem=some (Ry a):=by
 refine ZM (a:=a) ?_ ⟨rfl,h⟩;rintro a b args mem ⟨aA,aC⟩ ⟨bZ,dq⟩;rw[dc.uniq aC.at_ dq.at_]
theorem Is (l:List Int):l.map cd=bf ag l:=by
 unfold bf
 induction l with
 |nil=>rfl
 |cons a l ax=>rw[eE,eE,jC,kI,<-ax];rfl
theorem azM (n:Nat):(dC n [R.J (.int .i64 0)]).flatten=(bF n λ_=>(0:Int)).map cd:=by
 induction n with
 |zero=>rfl
 |succ n ax=>rw[List.replicate_succ',List.flatten_append,ax];simp[bF,nx,cd]
theorem azN (T:bh)(hz:T pa=aV vO)(aaC:T On=yL Rj)(azO:T Ul=yL Rn)(lZ:T wE=aV yx)(k4:T yb=aV zZ)(a:dc)(mem:Mem)(aN:Rw a mem):
  wp T vy.body (pV vy.res λm mem'=>cz 6 emp m=some (Ry a)/\er 248 mem mem') ⟨lf [.ref 228023 a.g 1 0 (D a.E)],mem⟩:=by
 have b8:=aN.at_;have U:=aN.Ig.uA;have lG:=aN.ez;have aK:=U.n5;have HA:(8*D a.E<=140737488355328)=True:=eq_true (by omega);have Cp:(D a.E<=maxLen)=True:=eq_true (by unfold maxLen;omega);have akL:mem 248094=none:=aN.hC 248094 (by decide);have akM:mem 248098=none:=aN.hC 248098 (by decide);have P9:mem 248029=none:=aN.hC 248029 (by decide);have aS:=azM (D a.E)
 have uW:(bF (D a.E) λj=>om a 0 j)=bF (D a.E) λ_=>(0:Int):=kL λj _=>by
  unfold om;rw[ae (by omega),azt];rfl
 refine tn ?_;simp only[vy];simp only[go_sem,go_sem_proc,HA,Cp,akL,akM,P9,aS];refine azB T aaC a mem aN (.ref 228023 a.g 1 0 (D a.E)) (.ref 228023 a.g 1 0 (D a.E)) (.ref 228023 a.g 1 0 (D a.E)) 0 0 0 _ _ ?_ ?_ ?_ ?_ ?_ ?_ ?_ ?_ ?_ ?_ ?_ ((((er.refl _ _).e3 (by decide)).e3 (by decide)).e3 (by decide)) ?_
 all_goals first|(intro tm m pz lb fM j2 pr iq hR l8 nD nE bQ)|(simp only[e4,eb,if_false,if_true];done)|(simp only[e4,eb,if_false,if_true];rfl)|(simp only[aZ,eb,if_false,if_true,uW])|skip
 have dy:(bF (D a.E) λj=>om a (D a.E) j)=bF (D a.E) λi=>k8 a.E a.cs (bK a.fl) i:=kL λj aj=>by
  unfold om;rw[ad aj,akm,akl b8.can λi M=>(dc.Mt b8 aN.Ig M).2]
 rw[dy,Is] at l8;have gB:∀iJ,er 248 mem iJ->Rn [.ref 228023 a.g 1 0 (D a.E),.J (.Y ((bF (D a.E) λi=>k8 a.E a.cs (bK a.fl) i).map ag)),.J (.Y (a.p.map ir)),.J (.Y (a.p.map (s7 (D a.E) a.W)))] iJ=some (.cI [.Y (a.xs.map aH),.bool true]):=λiJ h=>ay7 a iJ ⟨b8.az h (by decide) aK,aN.v8.az h (by decide),aN.Ig,lG⟩;have akN:(bF (D a.E) λi=>k8 a.E a.cs (bK a.fl) i).length=D a.E:=gM _ _;have azP:∀i,i<(D a.E)->(bF (D a.E) λi=>k8 a.E a.cs (bK a.fl) i)[i]?=some (k8 a.E a.cs (bK a.fl) i):=λi M=>iV _ M;generalize aLu:(bF (D a.E) λi=>k8 a.E a.cs (bK a.fl) i)=ST at *;have aaE:=λ(K:bd->Prop) (st:bd)=>mS (K:=K) (st:=st) hr 5 248029 0 ST;rw[akN] at aaE;have Rz:=λ(K:bd->Prop) (st:bd)=>mS (K:=K) (st:=st) yH 6 248094 pz a.p;have RA:=λ(K:bd->Prop) (st:bd)=>mS (K:=K) (st:=st) (akA (D a.E) a.W) 7 248098 lb a.p;have akO:=λcD cf gS aI c2 c3=>gB (aZ (aZ (aZ m 248029 cD aI) 248094 cf c2) 248098 gS c3) (((bQ.e3 (by decide)).e3 (by decide)).e3 (by decide));simp only[go_sem,go_sem_proc,azO,fM,j2,pr,iq,hR,l8,nD,nE,aaE,Rz,RA,akO,akN,ak,c8];have o3:(D a.p)<=D a.E:=akz _ _;have fW:=λi (M:i<D a.E) t (bD:t<=D a.p)=>aw2 U lG M bD;have RB:=λi (M:i<D a.E)=>lG.good.aiB (d:=aB a.E a.cs) M;have AM:c0 (fv a.P) (aB a.E a.cs).n=a.p:=rfl;have azQ:c0 (fv a.P) (D a.E)=a.p:=rfl;have Bn:a.xs=dF (D a.p) λk=>(aB a.E a.cs).fa (bK a.fl) (fv a.P) (a.p.getD k 0)-(aB a.E a.cs).br (a.p.getD k 0) (bK a.fl (a.p.getD k 0)):=rfl;rw[AM] at RB;rw[azQ] at fW;rw[Bn];generalize nk:(λk=>(aB a.E a.cs).fa (bK a.fl) (fv a.P) (a.p.getD k 0)-(aB a.E a.cs).br (a.p.getD k 0) (bK a.fl (a.p.getD k 0)))=dg at *;have Ac:∀k,(aB a.E a.cs).fa (bK a.fl) (fv a.P) (a.p.getD k 0)-(aB a.E a.cs).br (a.p.getD k 0) (bK a.fl (a.p.getD k 0))=dg k:=λk=>congrFun nk k;simp only[Ac] at fW RB;have It:=λi=>Mb U.right (bK a.fl) i;have akP:=λi=>U.steady (bK a.fl) i;clear aaE Rz RA gB akO Bn nk Ac fM j2 pr iq hR l8 nD nE akL akM P9 aS uW HA Cp
 refine dv [6,7,15,110,111] [] (λ((i,g):Nat×Nat) tm iJ=>i<=D a.E/\tm 112=.J (.int .i64 i)/\tm 17=.ref 248156 g 4 0 i/\iJ 248156=some (g,bf aH (dF i ((aB a.E a.cs).fa (bK a.fl) (fv a.P))))/\er 248 mem iJ) (λ(i,_)=>D a.E-i) (0,gA (m 248156)) (by
  refine⟨by omega,rfl,rfl,by simp[aZ];rfl,by repeat first|exact bQ|refine er.e3 ?_ (by decide)⟩) ?_
 intro vs ms aT aR;simp only[go_sem,go_sem_proc] at aT aR;subst aT aR;clear bQ m tm;rintro⟨i,g⟩ tm m Q-⟨cw,pX,j0,Ir,bQ⟩;simp only[go_sem,go_sem_proc,bb] at Q;obtain⟨bY,bR,r4,xw,xx⟩:=Q;rcases dA (i<D a.E) with M|b9
 ·have d1:decide ((i:Int)<(D a.E:Int))=true:=dn;have b4:=e9 (i:=i) (by omega);have azR:=azP i M;have hw:=CF _ (qa (z:=k8 a.E a.cs (bK a.fl) i) (by have:=akP i;omega) (by have:=akP i;omega));rw[It] at hw;have aaF:=fW i M;have azS:=RB i M;generalize qL:(aB a.E a.cs).st (bK a.fl) i=wa at *;generalize hq:av wa=eR at *;obtain⟨⟨tI,tJ⟩,⟨EK,EL⟩⟩:=eR;simp only[aH] at hw;simp only[go_sem,go_sem_proc,hz,bY,bR,r4,j0,xw,xx,pX,d1,azR,hw,ag,ak,bq];refine azI T lZ k4 mem (D a.E) a.p (by omega) a.W dg i M wa (λt bD=>(aaF t bD).1) (λk Q=>⟨(aaF 0 (by omega)).2.1 k Q,(QM U lG (xo Q).2 i).1,(aaF 0 (by omega)).2.2 k Q⟩) (.ref 248156 g 4 0 i) (.J (.Y (ST.map ag))) (.J (.int .i64 (D a.E))) (.J (.int .i64 i)) (gA (m 248020)) (some (g,bf aH (dF i ((aB a.E a.cs).fa (bK a.fl) (fv a.P))))) _ _ ?_ ?_ ?_ ?_ ?_ ?_ ?_ ?_ ?_ ?_ ?_ ?_ ?_ ((bQ.e3 (by decide)).e3 (by decide)) ?_
  all_goals first|(intro tm' m' iq hR akQ akR Ro akS akT LA RC akU xv)|(simp only[e4,eb,if_false,if_true,bY,bR,r4,j0,xw,xx,pX];done)|(simp only[aZ,eb,if_false,if_true,Ir];done)|(simp only[aZ,if_true];rw[hq];rfl)
  have aaG:wa+(bE (D a.p) λk=>a.W (a.p.getD k 0) i*dg k)=(aB a.E a.cs).fa (bK a.fl) (fv a.P) i:=azS.symm;rw[aaG] at RC;have aT:=ake i ((aB a.E a.cs).fa (bK a.fl) (fv a.P));have bX:(dF i ((aB a.E a.cs).fa (bK a.fl) (fv a.P))).length=i:=p8 _ _;have dL:=λ(aO:a1) cs jI=>mu nq GV 248156 g 64 (dF i ((aB a.E a.cs).fa (bK a.fl) (fv a.P))) aO (cs:=cs) jI (by omega) (by omega);simp only[bX] at dL;generalize dF i ((aB a.E a.cs).fa (bK a.fl) (fv a.P))=V at *;generalize vp:dF (i+1) ((aB a.E a.cs).fa (bK a.fl) (fv a.P))=V2 at *;generalize av ((aB a.E a.cs).fa (bK a.fl) (fv a.P) i)=aO at *;obtain⟨⟨cU,de⟩,⟨a3,a4⟩⟩:=aO;have rZ:=dL ((cU,de),(a3,a4)) _ rfl;rw[<-aT] at rZ;simp only[aH,eE,c1] at rZ RC;simp only[go_sem,go_sem_proc,iq,hR,akQ,akR,Ro,akS,akT,LA,RC,akU,rZ,b4];repeat' (first|refine aw ?_ ?_|fail)<;>intro h<;>simp only[h,go_sem,go_sem_proc,iq,hR,akQ,akR,Ro,akS,akT,LA,RC,akU,rZ,b4]
  exact⟨(i+1,g+1),by dsimp only;omega,by dsimp only;omega,rfl,rfl,by rw[<-vp],by repeat first|exact xv|refine er.e3 ?_ (by decide)⟩
 ·have d1:decide ((i:Int)<(D a.E:Int))=false:=dk;obtain rfl:i=D a.E:=by omega
  have mi:(dF (D a.E) ((aB a.E a.cs).fa (bK a.fl) (fv a.P))).length=D a.E:=p8 _ _;have mK:=λ(K:bd->Prop) (st:bd)=>mS (K:=K) (st:=st) nq 17 248156 g (dF (D a.E) ((aB a.E a.cs).fa (bK a.fl) (fv a.P)));rw[mi] at mK;simp only[go_sem,go_sem_proc,bY,bR,r4,j0,xw,xx,pX,Ir,d1,mK];repeat' (first|refine aw ?_ ?_|fail)<;>intro h<;>simp only[h,go_sem,go_sem_proc,bY,bR,r4,j0,xw,xx,pX,Ir,d1,mK]
  exact⟨_,rfl,rfl,by repeat first|exact bQ|refine er.e3 ?_ (by decide)|refine er.kill ?_ (by decide)⟩
def dc.hA (a:dc)(p:Nat->Bool):dc:={ a with P:=ny (D a.E) p }
theorem dc.RD (a:dc)(p:Nat->Bool){i:Nat}(M:i<D a.E):(a.hA p).gD i=(a.gD i).sp (p i):=by
 have:(ny (D a.E) p).getD i false=p i:=by rw[en,QY _ M];rfl
 unfold dc.gD dc.hA og.sp;dsimp only;rw[this]
theorem dc.At.akV {a:dc}{m:Mem}{p:Nat->Bool}(h:(a.hA p).At m){i:Nat}(M:i<D a.E)(b:Bool):(a.hA λj=>if j=i then b else p j).At (aZ m (228500+i) (a.gs.getD i 0) (fD ((a.gD i).sp b))):=by
 refine⟨h.can,h.fl,QX _ _,h.Q2,?_,λj aj=>?_⟩
 ·have:=h.row;simp only[aZ];rw[ae (show ¬ ((228023:Nat)=228500+i) by omega)];exact this
 ·rw[dc.RD a _ aj];simp only[aZ]
  by_cases h0:j=i
  ·subst h0;rw[ad rfl,ad rfl]
   rfl
  ·rw[ae (show ¬ ((228500+j:Nat)=228500+i) by omega),ae h0];have:=h.dd j aj;rw[dc.RD a _ aj] at this;exact this
theorem dc.azT {a:dc}(h:(D a.P)=D a.E):a.hA (λj=>a.P.getD j false)=a:=by
 have:ny (D a.E) (λj=>a.P.getD j false)=a.P:=by
  refine Mj (d:=false) (QX _ _) h λj aj=>?_;rw[en,QY _ aj];rfl
 unfold dc.hA;rw[this]
theorem dc.Iu (a:dc){p q:Nat->Bool}(h:∀i,i<(D a.E)->p i=q i):a.hA p=a.hA q:=by
 unfold dc.hA;rw[axH h]
def xy (n:Nat)(mem m:Mem):Prop:=∀k,(∀i,i<n->k≠228500+i)->m k=mem k
theorem xy.e3 {n i g:Nat}{cs:List R}{mem m:Mem}(h:xy n mem m)(M:i<n):xy n mem (aZ m (228500+i) g cs):=λk Q=>by
 simp only[aZ];rw[ae (Q i M)];exact h k Q
theorem xy.no {n j:Nat}{mem m:Mem}(h:xy n mem m)(aK:n<=6)(aj:j≠228)(hm:rU j mem):rU j m:=λk Q=>by
 rw[h k λi M=>by omega]
 exact hm k Q
theorem azU (T:bh)(hz:T pa=aV vO)(eK:T oI=aV tW){K:eX->bd->Prop}{kk:List gz}(eF:Mem)(a:dc)(p:Nat->Bool)(r2:a.Ie)(h:Nat->Rat)(kJ:∀i,i<(D a.E)->dm (h i))(tm:Nat->R)(m:Mem)
  (b8:(a.hA p).At m) (bQ:xy (D a.E) eF m) (b0:tm 0=.ref 228023 a.g 1 0 (D a.E)) (bY:tm 6=.J (.Y ((dF (D a.E) h).map aH))) (ef:tm 8=.J (.bool false)) (oi:tm 28=.ref 228023 a.g 1 0 (D a.E)) (uC:tm 29=.J (.int .i64 (D a.E))) (hU:tm 30=.J (.int .i64 0))
  (dN:∀tm' m',tm' 0=.ref 228023 a.g 1 0 (D a.E)->tm' 6=.J (.Y ((dF (D a.E) h).map aH))->tm' 8=.J (.bool (yM (aB a.E a.cs) (bK a.fl) h p (D a.E)))->(a.hA (oe (aB a.E a.cs) (bK a.fl) h p (D a.E))).At m'->xy (D a.E) eF m'->cG T K kk (.exit 4) ⟨tm',m'⟩) :
  wp T (GS.body.sub [1,1,0,0,0,1,1,1,0,1,0]) (cG T K kk) ⟨tm,m⟩:=by
 simp only[GS,eA.sub];obtain⟨U,gp⟩:=r2;have aK:=U.n5
 refine dv [0,6,28,29] [] (λ(i:Nat) tm m=>i<=D a.E/\tm 30=.J (.int .i64 i)/\tm 8=.J (.bool (yM (aB a.E a.cs) (bK a.fl) h p i))/\(a.hA (oe (aB a.E a.cs) (bK a.fl) h p i)).At m/\xy (D a.E) eF m) (λi=>D a.E-i) 0 (by
  refine⟨by omega,hU,ef,?_,bQ⟩
  have:a.hA (oe (aB a.E a.cs) (bK a.fl) h p 0)=a.hA p:=a.Iu λj _=>by
   unfold oe;rw[dk,fz,lR]
  rw[this];exact b8) ?_
 intro vs ms aT aR;simp only[go_sem,go_sem_proc,b0,bY,oi,uC] at aT aR;subst aT aR;clear b0 bY ef oi uC hU b8 bQ tm m;rintro i tm m Q-⟨M,hU,ef,b8,bQ⟩;simp only[go_sem,go_sem_proc,bb] at Q;obtain⟨b0,bY,oi,uC⟩:=Q;rcases dA (i<D a.E) with ay|b9
 ·have d1:decide ((i:Int)<(D a.E:Int))=true:=dn;have b4:=e9 (i:=i) (by omega);have rY:a.fl.getD i 10=(bK a.fl i:Int)/\bK a.fl i<=10:=dc.Mt (a:=a.hA (oe (aB a.E a.cs) (bK a.fl) h p i)) b8 ⟨U,gp⟩ ay;obtain⟨rY,vY⟩:=rY;have e8:m 228023=some (a.g,bF (D a.E) λi => .ptr (228500+i) (a.gs.getD i 0) 0):=b8.row;have e7:m (228500+i)=some (a.gs.getD i 0,fD ((a.hA (oe (aB a.E a.cs) (bK a.fl) h p i)).gD i)):=b8.dd i ay;rw[dc.RD a _ ay,ajy] at e7;have ih:=vZ (iV (λi=>R.ptr (228500+i) (a.gs.getD i 0) 0) ay);have bX:(bF (D a.E) λi=>R.ptr (228500+i) (a.gs.getD i 0) 0).length=D a.E:=gM _ _;have cX:((a.gD i).sp (p i)).dj:=⟨(a.xt i).cO,(a.xt i).us⟩;have hlen:=CI cX;have l6:gq 1 (gI 22 (fD ((a.gD i).sp (p i))))=[cd (bK a.fl i:Int)]:=(Mi cX).trans (congrArg (λx=>[cd x]) rY);have r3:gq 1 (gI 23 (fD ((a.gD i).sp (p i))))=[la (p i)]:=ajP cX;have s6:=Mh cX (k:=bK a.fl i) (z:=cS a.cs i (bK a.fl i:Nat)) (iV _ (by omega));have eC:_=fD ((a.gD i).sp true):=ajQ cX true;have mH:=b8.akV ay true;have aR:=axI (aB a.E a.cs) (bK a.fl) h p i
  have xT:(p i=true\/vR (aB a.E a.cs) (bK a.fl) h i=false)->a.hA (oe (aB a.E a.cs) (bK a.fl) h p (i+1))=a.hA (oe (aB a.E a.cs) (bK a.fl) h p i):=λaQ=>a.Iu λj _=>by
   rw[ajz]
   by_cases aj:j=i
   ·subst aj;rw[ad rfl,ajy];rcases aQ with F|F
    ·rw[F];rfl
    ·rw[F,lR]
   ·rw[ae aj]
  have dY:i+1<=D a.E:=by omega
  have ai:bK a.fl i<11:=by omega
  have bL:(11+bK a.fl i+1<=24)=True:=eq_true (by omega);have b3:(23+1<=24)=True:=eq_true (by omega);generalize Ip:(bF (D a.E) λi=>R.ptr (228500+i) (a.gs.getD i 0) 0)=xu at *;have oT:228500+i=228500+i:=rfl;generalize uB:228500+i=eg at *;generalize Mz:fD ((a.gD i).sp (p i))=DC at *;rcases d2:decide ((bK a.fl i:Int)<10)
  ·have lk:vR (aB a.E a.cs) (bK a.fl) h i=false:=by
    unfold vR;rw[j9 (by have:=of_decide_eq_false d2;omega),fz]
   rw[lk,iQ,lR] at aR;simp only[go_sem,go_sem_proc,b0,bY,ef,oi,uC,hU,e8,e7,ih,bX,hlen,l6,d1,d2,b4,ay,dY,cd,la,cK];repeat' (first|refine aw ?_ ?_|fail)<;>intro h<;>simp only[h,go_sem,go_sem_proc,b0,bY,ef,oi,uC,hU,e8,e7,ih,bX,hlen,l6,d1,d2,b4,ay,dY,cd,la,cK]
   exact⟨i+1,by omega,by omega,rfl,by rw[aR],by rw[xT (.inr lk)];exact b8,bQ⟩
  ·rcases zo:p i
   ·rw[zo] at r3;have mG:=U.upto i (bK a.fl i);have ER:dB (cS a.cs i (bK a.fl i:Nat)):=qa (by omega) (by omega);have hw:=CF _ ER;have pc:=H3 (kJ i ay) (uy ER);have iM:decide (mE (h i) ((cS a.cs i (bK a.fl i:Nat):Int):Rat)>0)=decide (((cS a.cs i (bK a.fl i:Nat):Int):Rat)<h i):=ajl
    have bC:vR (aB a.E a.cs) (bK a.fl) h i=decide (((cS a.cs i (bK a.fl i:Nat):Int):Rat)<h i):=by
     unfold vR;rw[uk U.right,iw (show bK a.fl i<10 by have:=of_decide_eq_true d2;omega),gT]
    rw[<-bC] at iM;have AO:=vN h ay;generalize aaH:av (h i)=hL at *;generalize nk:av ((cS a.cs i (bK a.fl i:Nat):Int):Rat)=dg at *;obtain⟨⟨df,eD⟩,⟨j3,l2⟩⟩:=dg;obtain⟨⟨cU,de⟩,⟨a3,a4⟩⟩:=hL;simp only[aH] at hw pc;rcases lk:vR (aB a.E a.cs) (bK a.fl) h i
    ·rw[lk] at iM;rw[zo,lk,iQ,lR] at aR;simp only[go_sem,go_sem_proc,hz,eK,b0,bY,ef,oi,uC,hU,e8,e7,ih,bX,hlen,l6,r3,s6,d1,d2,b4,ay,dY,ai,bL,hw,pc,iM,AO,aH,cd,la,cK,dD,c8,ak,bq];repeat' (first|refine aw ?_ ?_|fail)<;>intro h<;>simp only[h,go_sem,go_sem_proc,hz,eK,b0,bY,ef,oi,uC,hU,e8,e7,ih,bX,hlen,l6,r3,s6,d1,d2,b4,ay,dY,ai,bL,hw,pc,iM,AO,aH,cd,la,cK,dD,c8,ak,bq]
     exact⟨i+1,by omega,by omega,rfl,by rw[aR],by rw[xT (.inr lk)];exact b8,bQ⟩
    ·rw[lk] at iM;rw[zo,lk,dD,gT,u3] at aR
     have hK:a.hA (oe (aB a.E a.cs) (bK a.fl) h p (i+1))=a.hA λj=>if j=i then true else oe (aB a.E a.cs) (bK a.fl) h p i j:=a.Iu λj _=>by
      rw[ajz,lk,u3]
     rw[<-hK] at mH;have qW:=bQ.e3 (g:=a.gs.getD i 0) (cs:=fD ((a.gD i).sp true)) ay;rw[uB] at qW;simp only[go_sem,go_sem_proc,hz,eK,b0,bY,ef,oi,uC,hU,e8,e7,ih,bX,hlen,l6,r3,s6,eC,d1,d2,b4,ay,dY,ai,bL,b3,hw,pc,iM,AO,aH,cd,la,cK,dD,c8,ak,bq];repeat' (first|refine aw ?_ ?_|fail)<;>intro h<;>simp only[h,go_sem,go_sem_proc,hz,eK,b0,bY,ef,oi,uC,hU,e8,e7,ih,bX,hlen,l6,r3,s6,eC,d1,d2,b4,ay,dY,ai,bL,b3,hw,pc,iM,AO,aH,cd,la,cK,dD,c8,ak,bq]
     exact⟨i+1,by omega,by omega,rfl,by rw[aR],mH,qW⟩
   ·rw[zo] at r3;rw[zo,c8,fz,lR] at aR;simp only[go_sem,go_sem_proc,b0,bY,ef,oi,uC,hU,e8,e7,ih,bX,hlen,l6,r3,d1,d2,b4,ay,dY,cd,la,cK,c8];repeat' (first|refine aw ?_ ?_|fail)<;>intro h<;>simp only[h,go_sem,go_sem_proc,b0,bY,ef,oi,uC,hU,e8,e7,ih,bX,hlen,l6,r3,d1,d2,b4,ay,dY,cd,la,cK,c8]
    exact⟨i+1,by omega,by omega,rfl,by rw[aR],by rw[xT (.inl zo)];exact b8,bQ⟩
 ·have d1:decide ((i:Int)<(D a.E:Int))=false:=dk;obtain rfl:i=D a.E:=by omega
  simp only[go_sem,go_sem_proc,b0,bY,ef,oi,uC,hU,d1];repeat' (first|refine aw ?_ ?_|fail)<;>intro h<;>simp only[h,go_sem,go_sem_proc,b0,bY,ef,oi,uC,hU,d1]
  refine dN _ _ ?_ ?_ ?_ b8 bQ<;>simp only[e4,eb,if_false,b0,bY,ef]
structure aaI (a:dc) (mem:Mem):Prop where
 at_:a.At mem
 hC:rU 248 mem
 ie:rU 255 mem
 v8:rU 256 mem
 Ig:a.Ie
 inv:∃g,Inv (aB a.E a.cs) (bK a.fl) g
def RE (a:dc)(mem:Mem):R->Mem->Prop:=λm mem'=>m=.cI [.J (.Y ((dF (D a.E) ((aB a.E a.cs).top (bK a.fl))).map aH)),.J (.bool true)]/\∃p,(a.hA p).At mem'/\xy (D a.E) mem mem'
def MC:List R->Mem->Option (R->Mem->Prop):=xc (λ(a:dc) args mem=>args=[.ref 228023 a.g 1 0 (D a.E)]/\aaI a mem) RE
theorem azV (a:dc)(mem:Mem)(h:aaI a mem):MC [.ref 228023 a.g 1 0 (D a.E)] mem=some (RE a mem):=by
 refine ajo (a:=a) ?_ ⟨rfl,h⟩;rintro a b args mem ⟨aA,aC⟩ ⟨bZ,dq⟩;rw[dc.uniq aC.at_ dq.at_]
theorem azW (T:bh)(azX:T Uj=yL aaD)(hz:T pa=aV vO)(eK:T oI=aV tW)(a:dc)(mem:Mem)(aN:aaI a mem):
  wp T GS.body (pV GS.res (RE a mem)) ⟨lf [.ref 228023 a.g 1 0 (D a.E)],mem⟩:=by
 obtain⟨akW,hC,ie,v8,r2,Dj,hinv⟩:=aN;have U:=r2.uA;have aK:=U.n5;have aa:=U.ok;refine tn ?_;simp only[GS];simp only[go_sem,go_sem_proc]
 refine dv [0,11,12] [] (λ(i:Nat) tm m=>i<=D a.E/\tm 13=.J (.int .i64 i)/\(a.hA λj=>if j<i then false else a.P.getD j false).At m/\xy (D a.E) mem m) (λi=>D a.E-i) 0 (by
  refine⟨by omega,rfl,?_,λ_ _=>rfl⟩
  have:(a.hA λj=>if j<0 then false else a.P.getD j false)=a:=(a.Iu λj _=>by rw[ae (by omega)]).trans (dc.azT akW.pl);rw[this];exact akW) ?_
 intro vs ms aT aR;simp only[go_sem,go_sem_proc] at aT aR;subst aT aR;rintro i tm m Q-⟨M,h1,b8,bQ⟩;simp only[go_sem,go_sem_proc,bb] at Q;obtain⟨b0,hl,fA⟩:=Q;rcases dA (i<D a.E) with ay|b9
 ·have d1:decide ((i:Int)<(D a.E:Int))=true:=dn;have b4:=e9 (i:=i) (by omega);have e8:m 228023=some (a.g,bF (D a.E) λi => .ptr (228500+i) (a.gs.getD i 0) 0):=b8.row;have e7:m (228500+i)=some (a.gs.getD i 0,_):=b8.dd i ay;rw[dc.RD a _ ay] at e7;have ih:=vZ (iV (λi=>R.ptr (228500+i) (a.gs.getD i 0) 0) ay);have bX:(bF (D a.E) λi=>R.ptr (228500+i) (a.gs.getD i 0) 0).length=D a.E:=gM _ _;have cX:((a.gD i).sp (if i<i then false else a.P.getD i false)).dj:=⟨(a.xt i).cO,(a.xt i).us⟩;have hlen:=CI cX;have eC:_=fD ((a.gD i).sp false):=ajQ cX false;have mH:=b8.akV ay false;have qW:=bQ.e3 (g:=a.gs.getD i 0) (cs:=fD ((a.gD i).sp false)) ay
  have hK:(a.hA λj=>if j<i+1 then false else a.P.getD j false)=a.hA λj=>if j=i then false else if j<i then false else a.P.getD j false:=a.Iu λj _=>by
   by_cases F:j=i
   ·rw[ad F,ad (by omega)]
   ·rw[ae F]
    by_cases I:j<i
    ·rw[ad I,ad (by omega)]
    ·rw[ae I,ae (by omega)]
  rw[<-hK] at mH;have dY:i+1<=D a.E:=by omega
  have b3:(23+1<=24)=True:=eq_true (by omega);generalize Ip:(bF (D a.E) λi=>R.ptr (228500+i) (a.gs.getD i 0) 0)=xu at *;generalize uB:228500+i=eg at *;generalize Mz:fD ((a.gD i).sp (if i<i then false else a.P.getD i false))=DC at *;simp only[go_sem,go_sem_proc,b0,hl,fA,h1,e8,e7,ih,bX,hlen,eC,d1,b4,ay,dY,b3,cd,la,cK];repeat' (first|refine aw ?_ ?_|fail)<;>intro h<;>simp only[h,go_sem,go_sem_proc,b0,hl,fA,h1,e8,e7,ih,bX,hlen,eC,d1,b4,ay,dY,b3,cd,la,cK]
  exact⟨i+1,by omega,by omega,rfl,mH,qW⟩
 ·have d1:decide ((i:Int)<(D a.E:Int))=false:=dk;obtain rfl:i=D a.E:=by omega
  have hK:(a.hA λj=>if j<(D a.E) then false else a.P.getD j false)=a.hA λ_=>false:=a.Iu λj aj=>by rw[ad aj]
  rw[hK] at b8;simp only[go_sem,go_sem_proc,b0,hl,fA,h1,d1]
  refine dv [0] [] (λ(p:Nat->Bool) tm m=>(a.hA p).At m/\xy (D a.E) mem m/\s0 (aB a.E a.cs) (bK a.fl) (fv (ny (D a.E) p))) (λp=>mJ (D a.E) λi=>if p i then 0 else 1) (λ_=>false) (by
   refine⟨b8,bQ,?_⟩;rw[axK];exact⟨aa,Dj,hinv,iu.first aa hinv⟩) ?_
  intro vs ms aT aR;simp only[go_sem,go_sem_proc,b0] at aT aR;subst aT aR;clear b0 hl fA h1 bQ b8;rintro p tm m b0-⟨b8,bQ,lG⟩;simp only[go_sem,go_sem_proc,bb] at b0;have gB:=azL (a.hA p) m ⟨b8,bQ.no aK (by decide) hC,bQ.no aK (by decide) ie,bQ.no aK (by decide) v8,⟨r2.uA,r2.gp⟩,lG⟩;have gu:Ry (a.hA p)=.cI [.Y ((dF (D a.E) ((aB a.E a.cs).fa (bK a.fl) (fv (ny (D a.E) p)))).map aH),.bool true]:=rfl;rw[gu,show (a.hA p).g=a.g from rfl,show (a.hA p).E=a.E from rfl] at gB;simp only[go_sem,go_sem_proc,azX,b0,gB,c8];refine azU T hz eK m a p r2 ((aB a.E a.cs).fa (bK a.fl) (fv (ny (D a.E) p))) (λi M=>j4 (aiS U lG M) (by omega)) _ _ b8 (λ_ _=>rfl) ?_ ?_ ?_ ?_ ?_ ?_ ?_
  all_goals first|(intro MD cM fM iq hP zk qW)|(simp only[e4,eb,if_false,if_true,b0];done)
  obtain⟨cX,cD,ra,OW⟩:=lG;rcases hm:yM (aB a.E a.cs) (bK a.fl) ((aB a.E a.cs).fa (bK a.fl) (fv (ny (D a.E) p))) p (D a.E)
  ·rw[hm] at hP;have afh:=OW.aiD aa ra λi M F I=>QZ.2 ⟨M,axM hm M F I⟩;rw[HU (N:=D a.E) afh] at iq;simp only[go_sem,go_sem_proc,fM,iq,hP,dD];repeat' (first|refine aw ?_ ?_|fail)<;>intro h<;>simp only[h,go_sem,go_sem_proc,fM,iq,hP,dD]
   exact⟨_,rfl,rfl,_,zk,λk Q=>(qW k Q).trans (bQ k Q)⟩
  ·rw[hm] at hP;simp only[go_sem,go_sem_proc,fM,iq,hP,c8];repeat' (first|refine aw ?_ ?_|fail)<;>intro h<;>simp only[h,go_sem,go_sem_proc,fM,iq,hP,c8]
   refine⟨_,axL hm,zk,λk Q=>(qW k Q).trans (bQ k Q),?_⟩;have rI:=axJ (d:=aB a.E a.cs) (f:=bK a.fl) (h:=(aB a.E a.cs).fa (bK a.fl) (fv (ny (D a.E) p))) (p:=p);have ki:(aB a.E a.cs).n=D a.E:=rfl;rw[ki] at rI;rw[rI];exact⟨aa,cD,ra,OW.succ aa ra⟩
def hJ (c:Int)(q:Nat->R)(us:Nat->Int)(f:Int)(p:Bool):List R:=cd c::(bF 10 q++((bF 11 us).map cd++[cd f,la p]))
theorem RF (c:Int)(q:Nat->R)(us:Nat->Int)(f:Int)(p:Bool):(hJ c q us f p).length=24:=by
 simp[hJ,gM]
theorem aaJ {c:Int}{q:Nat->R}{us:Nat->Int}{f:Int}{p:Bool}{k:Nat}(Q:k<10):(hJ c q us f p)[1+k]?=some (q k):=by
 unfold hJ;rw[y6,yO,qo (by rw[gM];exact Q)];exact iV q Q
theorem azY {c:Int}{q:Nat->R}{us:Nat->Int}{f:Int}{p:Bool}{k:Nat}(Q:k<10):gq 1 (gI (1+k) (hJ c q us f p))=[q k]:=vZ (aaJ Q)
theorem azZ {c:Int}{q:Nat->R}{us:Nat->Int}{f:Int}{p:Bool}{k:Nat}(Q:k<11):gq 1 (gI (11+k) (hJ c q us f p))=[.J (.int .i64 (us k))]:=by
 refine vZ ?_;unfold hJ;rw[show 11+k=(10+k)+1 by omega,yO,rb (by rw[gM];omega),gM,qo (by rw[ak,gM];omega),show 10+k-10=k by omega,bq,iV us Q]
 rfl
theorem RG {l:List R}{k:Nat}{v:R}(Q:k<D l):gq k l++[v]++gI (k+1) l=l.set k v:=by
 rw[akr,ad Q];simp
theorem aaK {c:Int}{q:Nat->R}{us:Nat->Int}{f:Int}{p:Bool}{k:Nat}(Q:k<10)(v:R):(hJ c q us f p).set (1+k) v=hJ c (λj=>if j=k then v else q j) us f p:=by
 unfold hJ;rw[y6,Ho,akX _ _ (by rw[gM];exact Q),AD]
theorem az0 {c:Int}{q:Nat->R}{us:Nat->Int}{f:Int}{p:Bool}{k:Nat}(Q:k<11)(v:Int):(hJ c q us f p).set (11+k) (.J (.int .i64 v))=hJ c q (λj=>if j=k then v else us j) f p:=by
 unfold hJ;rw[show 11+k=(10+k)+1 by omega,Ho,En _ _ (by rw[gM];omega),gM,akX _ _ (by rw[ak,gM];omega),show 10+k-10=k by omega,<-AD,Ai]
 rfl
theorem AP {c:Int}{q tN:Nat->R}{us akY:Nat->Int}{f:Int}{p:Bool}(h:∀k,k<10->q k=tN k)(ct:∀k,k<11->us k=akY k):hJ c q us f p=hJ c tN akY f p:=by
 unfold hJ;rw[kL h,kL ct]
theorem akZ (T:bh){K:eX->bd->Prop}{kk:List gz}(lp:Mem)(eg RH RI:Nat)(c:Int)(q:Nat->R)(us:Nat->Int)(aI c2:Int)(r:Nat)(am:Int)(ab:r<10)(ah:∀j,0<=us j/\us j<=4000000000000000000)(p4:0<=am/\am<=1000000000000000)(oT:eg≠228009)(v5 v25 v26 v27:R)(tm:Nat->R)(m:Mem)
  (cL:tm 5=v5) (fF:tm 9=.ptr 228009 RI 0) (ej:tm 10=.ptr eg RH 0) (hl:tm 11=.J (.int .i64 (r+1:Nat))) (hb:tm 25=v25) (h6:tm 26=v26) (h7:tm 27=v27) (az1:lp 228009=some (RI,[.J (.int .i64 aI),.J (.int .i64 c2),.J (.int .i64 r),.J (.int .i64 am)])) (Iv:m eg=some (RH,hJ c q us 10 false)) (bQ:∀k,k≠eg->m k=lp k)
  (dN:∀tm' m',tm' 5=v5->tm' 25=v25->tm' 26=v26->tm' 27=v27->m' eg=some (RH,hJ c q (λj=>us j+if r<j then am else 0) 10 false)->(∀k,k≠eg->m' k=lp k)->cG T K kk (.exit 4) ⟨tm',m'⟩) :
  wp T (B8.body.sub [1,1,1,0,1,0,0,1,1,0,0,1,1,1,1,0]) (cG T K kk) ⟨tm,m⟩:=by
 simp only[B8,eA.sub]
 refine dv [5,9,10,25,26,27] [] (λ(k:Nat) tm m=>r<k/\k<=11/\tm 11=.J (.int .i64 k)/\m eg=some (RH,hJ c q (λj=>us j+if r<j/\j<k then am else 0) 10 false)/\∀k,k≠eg->m k=lp k) (λk=>11-k) (r+1) (by
  refine⟨by omega,by omega,hl,?_,bQ⟩
  rw[Iv]
  congr 2
  exact AP (λ_ _=>rfl) λj _=>by rw[ae (by omega)];omega) ?_
 intro vs ms aT aR;simp only[go_sem,go_sem_proc,cL,fF,ej,hb,h6,h7] at aT aR;subst aT aR;clear cL fF ej hl hb h6 h7 Iv bQ tm m;rintro k tm m Q-⟨hk,aLv,hl,Iv,bQ⟩;simp only[go_sem,go_sem_proc,bb] at Q;obtain⟨cL,fF,ej,hb,h6,h7⟩:=Q;have az2:=(bQ 228009 (Ne.symm oT)).trans az1;rcases dA (k<=10) with ay|b9
 ·have d1:decide ((k:Int)<=10)=true:=dn;have b4:=e9 (i:=k) (by omega);have hlen:=RF c q (λj=>us j+if r<j/\j<k then am else 0) 10 false;have bc:=azZ (c:=c) (q:=q) (us:=λj=>us j+if r<j/\j<k then am else 0) (f:=10) (p:=false) (k:=k) (by omega);have dy:=(RG (l:=hJ c q (λj=>us j+if r<j/\j<k then am else 0) 10 false) (k:=11+k) (v:=.J (.int .i64 (us k+am))) (by rw[RF];omega)).trans (az0 (by omega) (us k+am))
  have hK:hJ c q (λj=>if j=k then us k+am else us j+if r<j/\j<k then am else 0) 10 false=hJ c q (λj=>us j+if r<j/\j<k+1 then am else 0) 10 false:=AP (λ_ _=>rfl) λj _=>by
   by_cases aj:j=k
   ·rw[ad aj,aj,ad ⟨hk,by omega⟩]
   ·rw[ae aj]
    by_cases I:r<j/\j<k
    ·rw[ad I,ad ⟨I.1,by omega⟩]
    ·rw[ae I,ae (by omega)]
  rw[hK] at dy;rw[ae (by omega),wS] at bc;have My:IntKind.i64.wrap (us k+am)=us k+am:=by have:=ah k;rw[fi _]
  have ai:k<11:=by omega
  have bL:(11+k+1<=24)=True:=eq_true (by omega);have EN:(eg==228009)=false:=beq_eq_false_iff_ne.2 oT;have RJ:(228009==eg)=false:=beq_eq_false_iff_ne.2 (Ne.symm oT);generalize hJ c q (λj=>us j+if r<j/\j<k then am else 0) 10 false=D1 at *;generalize Hx:hJ c q (λj=>us j+if r<j/\j<k+1 then am else 0) 10 false=D2 at *;refine aX ?_;repeat' (intro h<;>simp only[h,go_sem,go_sem_proc,cL,fF,ej,hl,hb,h6,h7,az2,Iv,d1,b4,hlen,bc,dy,My,ai,bL,EN,RJ,cK]<;>try refine aw ?_ ?_)
  refine⟨k+1,by omega,by omega,by omega,rfl,by rw[Hx],λj aj=>?_⟩
  simp only[aZ,aj,if_false];exact bQ j aj
 ·have d1:decide ((k:Int)<=10)=false:=dk;obtain rfl:k=11:=by omega
  have hK:hJ c q (λj=>us j+if r<j/\j<11 then am else 0) 10 false=hJ c q (λj=>us j+if r<j then am else 0) 10 false:=AP (λ_ _=>rfl) λj aj=>by
   by_cases I:r<j
   ·rw[ad ⟨I,aj⟩,ad I]
   ·rw[ae (by omega),ae I]
  rw[hK] at Iv;refine aX ?_;repeat' (intro h<;>simp only[h,go_sem,go_sem_proc,cL,fF,ej,hl,hb,h6,h7,d1]<;>try refine aw ?_ ?_)
  refine dN _ _ ?_ ?_ ?_ ?_ Iv bQ<;>simp only[e4,eb,if_false,cL,hb,h6,h7]
def oo (l:List ao)(e0:Nat->Nat->Nat)(i k:Nat):R:=if dh l i k=[] then .nil else .ref (228600+10*i+k) (e0 i k) 4 0 (dh l i k).length
structure yP (E:List Int) (l:List ao) (g:Nat) (gs:Nat->Nat) (e0:Nat->Nat->Nat) (m:Mem):Prop where
 row:m 228023=some (g,bF (D E) λi => .ptr (228500+i) (gs i) 0)
 dd:∀i,i<(D E)->m (228500+i)=some (gs i,hJ (E.getD i 0) (oo l e0 i) (λk=>cS l i (k:Nat)) 10 false)
 ES:∀i k,i<(D E)->k<10->dh l i k≠[]->m (228600+10*i+k)=some (e0 i k,bf cx (dh l i k))
theorem az3 (l:List ao)(c:ao)(i k:Nat):dh (l++[c]) i k=if c.1=(i:Int)/\c.2.2.1=(k:Int) then dh l i k++[c] else dh l i k:=by
 unfold dh;rw[rT]
 by_cases h:c.1=(i:Int)/\c.2.2.1=(k:Int)
 ·rw[ad h,ux (by simp[h.1,h.2]),p9]
 ·rw[ae h,vP (by simpa using h),p9,fJ]
theorem ME (l:List ao)(aI c2 c3 c4:Int)(i k:Nat):dh (l++[(aI,c2,c3,c4)]) i k=if aI=(i:Int)/\c3=(k:Int) then dh l i k++[(aI,c2,c3,c4)] else dh l i k:=az3 l _ i k
theorem az4 (l:List ao)(c:ao)(i r:Int):cS (l++[c]) i r=cS l i r+if c.1=i/\c.2.2.1<r then c.2.2.2 else 0:=by
 unfold cS;rw[Rq]
theorem ak0 (l:List ao)(aI c2 c3 c4 i r:Int):cS (l++[(aI,c2,c3,c4)]) i r=cS l i r+if aI=i/\c3<r then c4 else 0:=az4 l _ i r
theorem yP.next {E:List Int}{l:List ao}{g:Nat}{gs:Nat->Nat}{e0:Nat->Nat->Nat}{m m':Mem}(h:yP E l g gs e0 m)(aK:(D E)<=6){aI c3:Nat}{c2 c4:Int}(gQ:aI<D E)(pP:c3<10)(qX:Nat)
  (e8:m' 228023=m 228023) (az5:∀i,i<(D E)->i≠aI->m' (228500+i)=m (228500+i)) (e7:m' (228500+aI)=some (gs aI,hJ (E.getD aI 0) (λk=>if k=c3 then .ref (228600+10*aI+c3) qX 4 0 ((dh l aI c3).length+1) else oo l e0 aI k) (λk=>cS l aI (k:Nat)+if c3<k then c4 else 0) 10 false))
  (RK:m' (228600+10*aI+c3)=some (qX,bf cx (dh l aI c3++[((aI:Int),c2,(c3:Int),c4)]))) (az6:∀i k,i<(D E)->k<10->¬ (i=aI/\k=c3)->m' (228600+10*i+k)=m (228600+10*i+k)):yP E (l++[((aI:Int),c2,(c3:Int),c4)]) g gs (λi k=>if i=aI/\k=c3 then qX else e0 i k) m':=by
 refine⟨by rw[e8];exact h.row,λi M=>?_,λi k M Q bC=>?_⟩
 ·by_cases CN:i=aI
  ·subst CN;rw[e7]
   congr 2
   refine AP (λk Q=>?_) λk Q=>?_
   ·unfold oo
    by_cases Cc:k=c3
    ·subst Cc;have aA:dh (l++[((i:Int),c2,(k:Int),c4)]) i k=dh l i k++[((i:Int),c2,(k:Int),c4)]:=by rw[ME,ad ⟨rfl,rfl⟩]
     rw[aA,ad rfl,ae (by simp),fE];simp
    ·have aA:dh (l++[((i:Int),c2,(c3:Int),c4)]) i k=dh l i k:=by rw[ME,ae (by omega)]
     rw[ae Cc,aA];dsimp only;rw[ae (show ¬ (i=i/\k=c3) by omega)]
   ·rw[ak0]
    by_cases gy:c3<k
    ·rw[ad gy,ad (by omega)]
    ·rw[ae gy,ae (by omega)]
  ·rw[az5 i M CN,h.dd i M]
   congr 2
   refine AP (λk Q=>?_) λk Q=>?_
   ·unfold oo;have aA:dh (l++[((aI:Int),c2,(c3:Int),c4)]) i k=dh l i k:=by rw[ME,ae (by omega)]
    rw[aA];dsimp only;rw[ae (show ¬ (i=aI/\k=c3) by omega)]
   ·rw[ak0,ae (by omega),wS]
 ·by_cases CN:i=aI/\k=c3
  ·obtain⟨rfl,rfl⟩:=CN;have aA:dh (l++[((i:Int),c2,(k:Int),c4)]) i k=dh l i k++[((i:Int),c2,(k:Int),c4)]:=by rw[ME,ad ⟨rfl,rfl⟩]
   rw[aA,ad ⟨rfl,rfl⟩];exact RK
  ·have aA:dh (l++[((aI:Int),c2,(c3:Int),c4)]) i k=dh l i k:=by rw[ME,ae (by omega)]
   rw[aA] at bC ⊢;rw[ae CN,az6 i k M Q CN];exact h.ES i k M Q bC
theorem aaL {K:bd->Prop}{tm:Nat->R}{mem mem':Mem}(h:si mem mem')(dN:∀bj,bj=mem'->K ⟨tm,bj⟩):ld K ⟨tm,mem⟩ .many:=⟨mem',.step h (.refl _),dN _ rfl⟩
theorem aaM {K:bd->Prop}{tm:Nat->R}{mem:Mem}(dN:∀bj,bj=mem->K ⟨tm,bj⟩):ld K ⟨tm,mem⟩ .many:=⟨mem,.refl _,dN _ rfl⟩
theorem iH {m:Mem}{k g:Nat}{cs:List R}:aZ m k g cs k=some (g,cs):=by simp[aZ]
theorem dr {m:Mem}{k j g:Nat}{cs:List R}(h:k≠j):aZ m j g cs k=m k:=by
 simp only[aZ];rw[ae h]
theorem az7 (T:bh){K:eX->bd->Prop}{kk:List gz}(eF:Mem)(E:List Int)(cs:List ao)(U:e2 E cs)(g:Nat)(gs:Nat->Nat)(e0:Nat->Nat->Nat)(tm:Nat->R)(m:Mem)
  (cL:tm 5=.ref 228023 g 1 0 (D E)) (hb:tm 25=.J (.Y (cs.map cx))) (h6:tm 26=.J (.int .i64 (D cs))) (h7:tm 27=.J (.int .i64 0)) (b8:yP E [] g gs e0 m) (bQ:er 228 eF m)
  (dN:∀tm' m' az8,tm' 5=.ref 228023 g 1 0 (D E)->yP E cs g gs az8 m'->er 228 eF m'->cG T K kk (.exit 2) ⟨tm',m'⟩) :
  wp T (B8.body.sub [1,1,1,0,1,0]) (cG T K kk) ⟨tm,m⟩:=by
 simp only[B8,eA.sub];have aK:=U.n5;have ab:=(hy.1 U.right).2.2.2;have ji:=U.sZ;refine dv [5,25,26] [] (λ((t,e0):Nat×(Nat->Nat->Nat)) tm m=>t<=D cs/\tm 27=.J (.int .i64 t)/\yP E (cs.take t) g gs e0 m/\er 228 eF m) (λ(t,_)=>D cs-t) (0,e0) (by refine⟨by omega,h7,by rw[nd];exact b8,bQ⟩) ?_;intro vs ms aT aR;simp only[go_sem,go_sem_proc,cL,hb,h6] at aT aR;subst aT aR;clear cL hb h6 h7 b8 bQ tm m;rintro⟨t,e0⟩ tm m Q-⟨bD,h7,b8,bQ⟩;simp only[go_sem,go_sem_proc,bb] at Q;obtain⟨cL,hb,h6⟩:=Q;rcases dA (t<D cs) with ay|b9
 ·have d1:decide ((t:Int)<(D cs:Int))=true:=dn;have b4:=e9 (i:=t) (by omega);obtain⟨⟨aI,c2,c3,c4⟩,O⟩:∃c,cs[t]?=some c:=⟨_,bx ay⟩;have lj:=ab _ (ep O);dsimp only at lj;obtain⟨aI,rfl⟩:∃k:Nat,aI=(k:Int):=⟨aI.toNat,by omega⟩
  obtain⟨c3,rfl⟩:∃k:Nat,c3=(k:Int):=⟨c3.toNat,by omega⟩
  have g2:cs.take (t+1)=cs.take t++[((aI:Int),c2,(c3:Int),c4)]:=by rw[g1,O];rfl
  generalize aq:cs.take t=l at *;have MF:(D l)<=12:=by rw[<-aq,fR];omega
  have gQ:aI<D E:=by omega
  have pP:c3<10:=by omega
  have e8:=b8.row;have e7:=b8.dd aI gQ;have ih:=vZ (iV (λi=>R.ptr (228500+i) (gs i) 0) gQ);have bX:(bF (D E) λi=>R.ptr (228500+i) (gs i) 0).length=D E:=gM _ _;have hlen:=RF (E.getD aI 0) (oo l e0 aI) (λk=>cS l aI (k:Nat)) 10 false;have CL:=azY (c:=E.getD aI 0) (q:=oo l e0 aI) (us:=λk=>cS l aI (k:Nat)) (f:=10) (p:=false) pP;have eC:=λv=>(RG (l:=hJ (E.getD aI 0) (oo l e0 aI) (λk=>cS l aI (k:Nat)) 10 false) (k:=1+c3) (v:=v) (by rw[RF];omega)).trans (aaK pP v);have dY:aI+1<=D E:=by omega
  have bL:(1+c3+1<=24)=True:=eq_true (by omega);have w1:=e9 (i:=c3) (by omega);generalize Ip:(bF (D E) λi=>R.ptr (228500+i) (gs i) 0)=xu at *;generalize Mz:hJ (E.getD aI 0) (oo l e0 aI) (λk=>cS l aI (k:Nat)) 10 false=DC at *;generalize uB:228500+aI=eg at *;have n9:(eg=228009)=False:=eq_false (by omega);have ak1:(eg=228048)=False:=eq_false (by omega);have EN:(eg==228009)=false:=beq_eq_false_iff_ne.2 (by omega);have RJ:(228009==eg)=false:=beq_eq_false_iff_ne.2 (by omega);have ak2:(eg==228048)=false:=beq_eq_false_iff_ne.2 (by omega);have ak3:(228048==eg)=false:=beq_eq_false_iff_ne.2 (by omega);have mh:(1<=maxLen)=True:=eq_true (by decide);have aLw:=λj=>(aiV U.right).upto aI j
  have D5:∀j:Nat,0<=cS l aI (j:Nat)/\cS l aI (j:Nat)<=4000000000000000000:=λj=>by
   have:=(aiV U.right).sum (λc=>c.1=(aI:Int)/\c.2.2.1<(j:Int)) t;rw[aq] at this;unfold cS;omega
  generalize RL:228600+10*aI+c3=kr at *;have cU:(228009=eg)=False:=eq_false (by omega);have de:(228009=kr)=False:=eq_false (by omega);have a3:(228048=kr)=False:=eq_false (by omega);have a4:(228048=eg)=False:=eq_false (by omega);have a5:(kr=eg)=False:=eq_false (by omega);have s4:(eg=kr)=False:=eq_false (by omega);have ajs:(kr=228009)=False:=eq_false (by omega);have az9:(kr=228048)=False:=eq_false (by omega);have a9:(228009=228048)=False:=eq_false (by omega)
  have tail:∀(tm':Nat->R) (M2:Mem) (qX RI:Nat),tm' 5=.ref 228023 g 1 0 (D E)->tm' 25=.J (.Y (cs.map cx))->tm' 26=.J (.int .i64 (D cs))->tm' 27=.J (.int .i64 t)->M2 eg=some (gs aI,hJ (E.getD aI 0) (λk=>if k=c3 then .ref kr qX 4 0 ((dh l aI c3).length+1) else oo l e0 aI k) (λk=>cS l aI (k:Nat)  + if c3<k then c4 else 0) 10 false)->M2 kr=some (qX,bf cx (dh l aI c3++[((aI:Int),c2,(c3:Int),c4)]))->(∀k:Nat,k≠228009->k≠228048->k≠eg->k≠kr->M2 k=m k)->yP E (cs.take (t+1)) g gs (λi k=>if i=aI/\k=c3 then qX else e0 i k) M2/\er 228 eF M2:=by
   intro tm' M2 qX RI pr Iw Ix Iy ET MG nF;rw[g2];refine⟨yP.next b8 aK gQ pP qX ?_ (λi M bC=>?_) ?_ ?_ λi k M Q bC=>?_,λk Q=>?_⟩
   ·exact nF 228023 (by omega) (by omega) (by omega) (by omega)
   ·exact nF (228500+i) (by omega) (by omega) (by omega) (by omega)
   ·rw[uB,RL];exact ET
   ·rw[RL];exact MG
   ·exact nF (228600+10*i+k) (by omega) (by omega) (by omega) (by omega)
   ·rw[nF k (by omega) (by omega) (by omega) (by omega)];exact bQ k Q
  by_cases hG:dh l aI c3=[]
  ·have gR:oo l e0 aI c3=.nil:=by unfold oo;rw[ad hG]
   rw[gR] at CL;simp only[go_sem,go_sem_proc,mh,cL,hb,h6,h7,O,e8,e7,ih,bX,hlen,CL,eC,d1,dY,bL,gQ,pP,n9,ak1,EN,RJ,ak2,ak3,cx,cK,ak,bq];refine aaL (si.Nq eg (gs aI) _ (1+c3) 228048 (gA (m 228048)) 4 0 1 _ kr iH (aaJ pP |>.trans (by rw[ad rfl])) ((dr (by omega)).trans iH) (by show (228048:Nat)≠eg;omega) (by show kr≠(228048:Nat);omega) (by show kr≠eg;omega)) ?_;intro M2 g3;rw[aaK pP] at g3
   have MH:M2 228009=some (gA (m 228009),[.J (.int .i64 aI),.J (.int .i64 c2),.J (.int .i64 c3),.J (.int .i64 c4)]):=by
    rw[g3];simp only[Bg,cU,de,a9,if_false,if_true]
   have ET:∃qX,M2 eg=some (gs aI,hJ (E.getD aI 0) (λk=>if k=c3 then .ref kr qX 4 0 ((dh l aI c3).length+1) else oo l e0 aI k) (λk=>cS l aI (k:Nat)) 10 false)/\M2 kr=some (qX,bf cx (dh l aI c3++[((aI:Int),c2,(c3:Int),c4)])):=by
    rw[hG];apply Exists.intro;apply And.intro
    rotate_left
    ·rw[g3];simp only[Bg,a5,if_false,if_true];rfl
    ·rw[g3];simp only[Bg,if_true]
     congr 2
     refine AP (λk _=>?_) λ_ _=>rfl
     by_cases Q:k=c3
     ·rw[ad Q,ad Q];rfl
     ·rw[ae Q,ae Q,ae Q]
   obtain⟨qX,ET,MG⟩:=ET
   have nF:∀k:Nat,k≠228009->k≠228048->k≠eg->k≠kr->M2 k=m k:=λk F I af aM=>by
    rw[g3];simp only[Bg,F,I,af,aM,if_false]
   clear g3;simp only[go_sem,go_sem_proc,MH,w1,cU];refine akZ T M2 eg (gs aI) (gA (m 228009)) (E.getD aI 0) (λk=>if k=c3 then .ref kr qX 4 0 ((dh l aI c3).length+1) else oo l e0 aI k) (λk=>cS l aI (k:Nat)) aI c2 c3 c4 pP D5 (by omega) (by omega) (.ref 228023 g 1 0 (D E)) (.J (.Y (cs.map cx))) (.J (.int .i64 (D cs))) (.J (.int .i64 t)) _ _ ?_ ?_ ?_ ?_ ?_ ?_ ?_ MH ET (λ_ _=>rfl) ?_
   all_goals first|(intro tm' m' pr Iw Ix Iy aaN MI)|(simp only[e4,eb,if_false,if_true,cL,hb,h6,h7];done)
   have ix:=tail tm' m' qX 0 pr Iw Ix Iy aaN (by rw[MI kr (by omega)];exact MG) λk F I af aM=>by rw[MI k af];exact nF k F I af aM
   refine aX ?_;repeat' (intro h<;>simp only[h,go_sem,go_sem_proc,pr,Iw,Ix,Iy,b4]<;>try refine aw ?_ ?_)
   exact⟨(t+1,λi k=>if i=aI/\k=c3 then qX else e0 i k),by dsimp only;omega,by dsimp only;omega,rfl,ix.1,ix.2⟩
  ·have gR:oo l e0 aI c3=.ref kr (e0 aI c3) 4 0 (dh l aI c3).length:=by unfold oo;rw[ae hG,RL]
   rw[gR] at CL;have RK:=b8.ES aI c3 gQ pP hG;rw[RL] at RK;have ew:(dh l aI c3).length<=12:=eP (od _ _) MF;have dL:=mu EE ZC kr (e0 aI c3) 32 (dh l aI c3) ((aI:Int),c2,(c3:Int),c4) (cs:=[.J (.int .i64 aI),.J (.int .i64 c2),.J (.int .i64 c3),.J (.int .i64 c4)]) rfl (by omega) (by omega);have aju:(kr==228009)=false:=beq_eq_false_iff_ne.2 (by omega);have aAa:(228009==kr)=false:=beq_eq_false_iff_ne.2 (by omega);have aAb:(kr==eg)=false:=beq_eq_false_iff_ne.2 (by omega);have aAc:(eg==kr)=false:=beq_eq_false_iff_ne.2 (by omega);simp only[go_sem,go_sem_proc,mh,cL,hb,h6,h7,O,e8,e7,ih,bX,hlen,CL,eC,d1,dY,bL,gQ,pP,n9,ak1,EN,RJ,ak2,ak3,a3,a5,s4,ajs,az9,aju,aAa,aAb,aAc,RK,dL,cx,cK,ak,bq];refine aaM ?_;intro M2 g3
   have MH:M2 228009=some (gA (m 228009),[.J (.int .i64 aI),.J (.int .i64 c2),.J (.int .i64 c3),.J (.int .i64 c4)]):=by
    rw[g3];simp only[Bg,cU,de,a9,if_false,if_true]
   have ET:M2 eg=some (gs aI,hJ (E.getD aI 0) (λk=>if k=c3 then .ref kr (e0 aI c3+1) 4 0 ((dh l aI c3).length+1) else oo l e0 aI k) (λk=>cS l aI (k:Nat)) 10 false):=by
    rw[g3];simp only[Bg,if_true]
   have MG:M2 kr=some (e0 aI c3+1,bf cx (dh l aI c3++[((aI:Int),c2,(c3:Int),c4)])):=by
    rw[g3];simp only[Bg,a5,if_false,if_true]
   have nF:∀k:Nat,k≠228009->k≠228048->k≠eg->k≠kr->M2 k=m k:=λk F I af aM=>by
    rw[g3];simp only[Bg,F,af,aM,if_false]
   clear g3;simp only[go_sem,go_sem_proc,MH,w1,cU];refine akZ T M2 eg (gs aI) (gA (m 228009)) (E.getD aI 0) (λk=>if k=c3 then .ref kr (e0 aI c3+1) 4 0 ((dh l aI c3).length+1) else oo l e0 aI k) (λk=>cS l aI (k:Nat)) aI c2 c3 c4 pP D5 (by omega) (by omega) (.ref 228023 g 1 0 (D E)) (.J (.Y (cs.map cx))) (.J (.int .i64 (D cs))) (.J (.int .i64 t)) _ _ ?_ ?_ ?_ ?_ ?_ ?_ ?_ MH ET (λ_ _=>rfl) ?_
   all_goals first|(intro tm' m' pr Iw Ix Iy aaN MI)|(simp only[e4,eb,if_false,if_true,cL,hb,h6,h7];done)
   have ix:=tail tm' m' (e0 aI c3+1) 0 pr Iw Ix Iy aaN (by rw[MI kr (by omega)];exact MG) λk F I af aM=>by rw[MI k af];exact nF k F I af aM
   refine aX ?_;repeat' (intro h<;>simp only[h,go_sem,go_sem_proc,pr,Iw,Ix,Iy,b4]<;>try refine aw ?_ ?_)
   exact⟨(t+1,λi k=>if i=aI/\k=c3 then e0 aI c3+1 else e0 i k),by dsimp only;omega,by dsimp only;omega,rfl,ix.1,ix.2⟩
 ·have d1:decide ((t:Int)<(D cs:Int))=false:=dk;rw[dt (by omega)] at b8;refine aX ?_;repeat' (intro h<;>simp only[h,go_sem,go_sem_proc,cL,hb,h6,h7,d1]<;>try refine aw ?_ ?_)
  refine dN _ _ e0 ?_ b8 bQ;simp only[e4,eb,if_false,cL]
theorem td.trans {a b c:Mem}(h:td a b)(ct:td b c):td a c:=by
 induction h with
 |refl=>exact ct
 |step F _ ax=>exact .step F (ax ct)
theorem ak4 {K:bd->Prop}{tm:Nat->R}{mem mem':Mem}(h:td mem mem')(dN:K ⟨tm,mem'⟩):ld K ⟨tm,mem⟩ .many:=⟨mem',h,dN⟩
def wb (l:List ao)(e0:Nat->Nat->Nat)(d i k:Nat):R:=if 10*i+k<d then j6 (dh l i k) else oo l e0 i k
structure xz (E:List Int) (l:List ao) (g:Nat) (gs:Nat->Nat) (e0:Nat->Nat->Nat) (d:Nat) (m:Mem):Prop where
 row:m 228023=some (g,bF (D E) λi => .ptr (228500+i) (gs i) 0)
 dd:∀i,i<(D E)->m (228500+i)=some (gs i,hJ (E.getD i 0) (wb l e0 d i) (λk=>cS l i (k:Nat)) 10 false)
 ES:∀i k,i<(D E)->k<10->d<=10*i+k->dh l i k≠[]->m (228600+10*i+k)=some (e0 i k,bf cx (dh l i k))
theorem xz.step {E:List Int}{l:List ao}{g:Nat}{gs:Nat->Nat}{e0:Nat->Nat->Nat}{d:Nat}{m:Mem}(h:xz E l g gs e0 d m)(aK:(D E)<=6)(aa:d<10*D E):∃m',td m m'/\xz E l g gs e0 (d+1) m'/\er 228 m m':=by
 obtain⟨i,k,M,Q,rfl⟩:∃i k,i<D E/\k<10/\d=10*i+k:=⟨d/10,d%10,by omega,by omega,by omega⟩
 have aaO:∀j r,j<(D E)->r<10->¬ (j=i/\r=k)->wb l e0 (10*i+k+1) j r=wb l e0 (10*i+k) j r:=λj r aj ab bC=>by
  unfold wb
  by_cases F:10*j+r<10*i+k
  ·rw[ad F,ad (by omega)]
  ·rw[ae F,ae (by omega)]
 by_cases G:dh l i k=[]
 ·refine⟨m,.refl m,⟨h.row,λj aj=>?_,λj r aj ab aa bC=>h.ES j r aj ab (by omega) bC⟩,er.refl _ _⟩;rw[h.dd j aj]
  congr 2
  refine AP (λr ab=>?_) λ_ _=>rfl
  by_cases L2:j=i/\r=k
  ·obtain⟨rfl,rfl⟩:=L2;unfold wb;rw[ae (by omega),ad (by omega)];unfold oo j6;rw[ad G,ad G]
  ·exact (aaO j r aj ab L2).symm
 ·have ah:=h.dd i M;have ew:=h.ES i k M Q (bW _) G
  have VD:wb l e0 (10*i+k) i k=.ref (228600+10*i+k) (e0 i k) 4 0 (dh l i k).length:=by
   unfold wb;rw[ae (by omega)];unfold oo;rw[ae G]
  have iz:=aaJ (c:=E.getD i 0) (q:=wb l e0 (10*i+k) i) (us:=λk=>cS l i (k:Nat)) (f:=10) (p:=false) Q;rw[VD] at iz;have vm:cz 1 m (.ref (228600+10*i+k) (e0 i k) 4 0 (dh l i k).length)=some (.Y ((dh l i k).map cx)):=qy (n:=0) EE ew;refine⟨_,.step (si.Nr (228500+i) (gs i) _ (1+k) (228600+10*i+k) (e0 i k) 4 0 (dh l i k).length _ (.Y ((dh l i k).map cx)) ah iz ew (by show (228600+10*i+k:Nat)≠228500+i;omega) vm) (.refl _),⟨?_,λj aj=>?_,λj r aj ab aa bC=>?_⟩,λx O=>?_⟩
  ·rw[dr (by show (228023:Nat)≠228500+i;omega)];unfold kill;rw[dr (by show (228023:Nat)≠228600+10*i+k;omega)];exact h.row
  ·by_cases h0:j=i
   ·subst h0;rw[iH,aaK Q]
    congr 2
    refine AP (λr ab=>?_) λ_ _=>rfl
    by_cases hk:r=k
    ·subst hk;rw[ad rfl];unfold wb;rw[ad (by omega)];unfold j6;rw[ae G]
    ·rw[ae hk];exact (aaO j r aj ab (by omega)).symm
   ·rw[dr (by show (228500+j:Nat)≠228500+i;omega)];unfold kill;rw[dr (by show (228500+j:Nat)≠228600+10*i+k;omega),h.dd j aj]
    congr 2
    refine AP (λr ab=>(aaO j r aj ab (by omega)).symm) λ_ _=>rfl
  ·rw[dr (by show (228600+10*j+r:Nat)≠228500+i;omega)];unfold kill;rw[dr (by show (228600+10*j+r:Nat)≠228600+10*i+k;omega)];exact h.ES j r aj ab (by omega) bC
  ·have uZ:x/1000≠228:=O;rw[dr (by show x≠228500+i;omega)];unfold kill;rw[dr (by show x≠228600+10*i+k;omega)]
theorem xz.all {E:List Int}{l:List ao}{g:Nat}{gs:Nat->Nat}{e0:Nat->Nat->Nat}(aK:(D E)<=6):∀r d m,d+r=10*(D E)->xz E l g gs e0 d m->∃m',td m m'/\xz E l g gs e0 (10*D E) m'/\er 228 m m'
 |0,d,m,aa,h=>⟨m,.refl m,by rw[<-aa];exact h,er.refl _ _⟩
 |r+1,d,m,aa,h=>by
  obtain⟨dx,F,I,af⟩:=h.step aK (by omega);obtain⟨cM,ca,c7,ey⟩:=xz.all aK r (d+1) dx (by omega) I;exact⟨cM,F.trans ca,c7,λx O=>(ey x O).trans (af x O)⟩
theorem yP.aAd {E:List Int}{l:List ao}{g:Nat}{gs:Nat->Nat}{e0:Nat->Nat->Nat}{m:Mem}(h:yP E l g gs e0 m):xz E l g gs e0 0 m :=
 ⟨h.row,λi M=>by
  rw[h.dd i M]
  congr 2,λi k M Q _ bC=>h.ES i k M Q bC⟩
def yQ (E:List Int)(cs:List ao)(g:Nat)(gs:Nat->Nat):dc:=⟨E,dw (D E) cs,bF (D E) λ_=>10,ny (D E) λ_=>false,g,bF (D E) gs⟩
theorem aAe {E:List Int}{cs:List ao}(h:e2 E cs)(i r:Nat):cS (dw (D E) cs) i r=cS cs i r:=by
 have F:=uk h.right i r;have I:=uk (ZF h).right i r;rw[<-(ai4 h.right).br,<-F] at I;exact_mod_cast I
theorem AQ {α:Type}{n i:Nat}(q:Nat->α)(d:α)(h:i<n):(bF n q).getD i d=q i:=by
 rw[en,iV q h];rfl
theorem xz.at {E:List Int}{cs:List ao}(U:e2 E cs){g:Nat}{gs:Nat->Nat}{e0:Nat->Nat->Nat}{m:Mem}(h:xz E cs g gs e0 (10*D E) m):(yQ E cs g gs).At m:=by
 refine⟨(axh _ _).symm,gM _ _,QX _ _,gM _ _,?_,λi M=>?_⟩
 ·refine h.row.trans ?_
  congr 2
  exact kL λi M=>by
   show R.ptr (228500+i) (gs i) 0=R.ptr (228500+i) ((bF (D E) gs).getD i 0) 0;rw[AQ gs 0 M]
 ·have kf:i<D E:=M;refine (h.dd i kf).trans ?_;have aA:(yQ E cs g gs).gs.getD i 0=gs i:=AQ gs 0 kf;rw[aA]
  congr 2
  have aC:(bF (D E) λ_=>(10:Int)).getD i 10=10:=AQ _ _ kf;have bZ:(ny (D E) λ_=>false).getD i false=false:=by rw[en,QY _ kf];rfl
  have dq:fD ((yQ E cs g gs).gD i)=cd (E.getD i 0)::((bF 10 λk=>dh (dw (D E) cs) i k).map j6++((bF 11 λk=>cS (dw (D E) cs) i (k:Nat)).map cd++[cd ((bF (D E) λ_=>(10:Int)).getD i 10),la ((ny (D E) λ_=>false).getD i false)])):=rfl;rw[dq,aC,bZ];unfold hJ
  have cL:(bF 10 λk=>dh (dw (D E) cs) i k).map j6=bF 10 (wb cs e0 (10*D E) i):=by
   unfold bF;rw[lo];refine jM λk Q=>?_;have LB:=gV.1 Q;show j6 (dh (dw (D E) cs) i k)=wb cs e0 (10*D E) i k;rw[ai0 cs kf LB];unfold wb;rw[ad (by omega)]
  have bY:(bF 11 λk=>cS (dw (D E) cs) i (k:Nat))=bF 11 λk=>cS cs i (k:Nat):=kL λk _=>aAe U i k;rw[cL,bY]
theorem ak5 {α:Type}(n:Nat)(q:Nat->α):bF (n+1) q=bF n q++[q n]:=by
 unfold bF;rw[nx,kI];rfl
structure aaP (x:List Int×List ao) (mem:Mem):Prop where
 uA:e2 x.1 x.2
 no:rU 228 mem
def aaQ (x:List Int×List ao)(mem:Mem):R->Mem->Prop:=λm mem'=>∃g gs,m=.ref 228023 g 1 0 x.1.length/\(yQ x.1 x.2 g gs).At mem'/\er 228 mem mem'
def aaR:List R->Mem->Option (R->Mem->Prop):=xc (λ(x:List Int×List ao) args mem=>args=[.J (.Y (x.1.map ag)),.J (.Y (x.2.map cx))]/\aaP x mem) aaQ
theorem aAf (E:List Int)(cs:List ao)(mem:Mem)(h:aaP (E,cs) mem):aaR [.J (.Y (E.map ag)),.J (.Y (cs.map cx))] mem=some (aaQ (E,cs) mem):=by
 refine ajo (a:=(E,cs)) ?_ ⟨rfl,h⟩;rintro⟨a,b⟩ ⟨c,d⟩ args mem ⟨aA,aC⟩ ⟨bZ,dq⟩;rw[aA] at bZ;simp only[bb,R.J.injEq,Data.Y.injEq,and_true] at bZ;obtain⟨F,I⟩:=bZ;rw[map_inj fj _ _ F,map_inj s3 _ _ I]
def ak6 (_:Nat):R:=.nil
def ak7 (_:Nat):Int:=0
theorem aAg (T:bh)(E:List Int)(cs:List ao)(mem:Mem)(aN:aaP (E,cs) mem):
  wp T B8.body (pV B8.res (aaQ (E,cs) mem)) ⟨lf [.J (.Y (E.map ag)),.J (.Y (cs.map cx))],mem⟩:=by
 obtain⟨U,gg⟩:=aN;dsimp only at U;have aK:=U.n5;have aAh:mem 228023=none:=gg 228023 (by decide);refine tn ?_;simp only[B8];simp only[go_sem,go_sem_proc,aAh,ak]
 refine dv [1,12,13] [] (λ((i,g,gs):Nat×Nat×(Nat->Nat)) tm m=>i<=D E/\tm 14=.J (.int .i64 i)/\tm 5=.ref 228023 g 1 0 i/\m 228023=some (g,bF i λj => .ptr (228500+j) (gs j) 0)/\(∀j,j<i->m (228500+j)=some (gs j,hJ (E.getD j 0) ak6 ak7 10 false))/\er 228 mem m) (λ(i,_)=>D E-i) (0,0,λ_=>0) (by
  refine⟨by omega,rfl,rfl,by simp[aZ];rfl,λj aj=>by omega,(er.refl _ _).e3 (by decide)⟩) ?_
 intro vs ms aT aR;simp only[go_sem,go_sem_proc] at aT aR;subst aT aR;rintro⟨i,g,gs⟩ tm m Q-⟨M,Hl,cL,e8,e7,bQ⟩;simp only[go_sem,go_sem_proc,bb] at Q;obtain⟨aA,fA,h1⟩:=Q;rcases dA (i<D E) with ay|b9
 ·have d1:decide ((i:Int)<(D E:Int))=true:=dn;have b4:=e9 (i:=i) (by omega);obtain⟨y,ar⟩:∃y,E[i]?=some y:=⟨_,bx ay⟩;have WB:E.getD i 0=y:=by rw[en,ar];rfl
  have bX:(bF i λj=>R.ptr (228500+j) (gs j) 0).length=i:=gM _ _;have g2:gq i (bF i λj=>R.ptr (228500+j) (gs j) 0)=bF i λj=>R.ptr (228500+j) (gs j) 0:=dt (by omega);have dY:((i+1)*8<=140737488355328)=True:=eq_true (by omega);have ai:(i+1<=maxLen)=True:=eq_true (by unfold maxLen;omega);have bL:(i<=i)=True:=eq_true (bW _)
  have dL:mN 228023 g 1 i 8 1 [.ptr 228021 (gA (m 228021)) 0] (some (g,bF i λj=>R.ptr (228500+j) (gs j) 0))=some (.ref 228023 (g+1) 1 0 (i+1),some (228023,g+1,(bF i λj=>R.ptr (228500+j) (gs j) 0)++[.ptr 228021 (gA (m 228021)) 0])):=by
   unfold mN;dsimp only;rw[ad ⟨rfl,by rw[gM];omega,by omega,by unfold maxLen;omega,rfl⟩,cK,g2]
  generalize Ip:(bF i λj=>R.ptr (228500+j) (gs j) 0)=xu at *;simp only[go_sem,go_sem_proc,aA,cL,fA,h1,Hl,e8,ar,bX,dL,d1,ag,cK,ak,bq]
  have RM:(xu++[R.ptr 228021 (gA (m 228021)) 0])[i]?=some (.ptr 228021 (gA (m 228021)) 0):=by
   rw[rb (by omega),bX];simp
  have cU:(228021=228022)=False:=eq_false (by decide);refine aaL (si.acy 228023 (g+1) _ i 228021 (gA (m 228021)) 0 _ (228500+i) iH RM ((dr (by decide)).trans ((dr (by decide)).trans iH)) (by decide) (by show (228500+i:Nat)≠228021;omega) (by show (228500+i:Nat)≠228023;omega)) ?_;intro M2 g3
  have mH:∀p,(xu++[R.ptr 228021 (gA (m 228021)) 0]).set i p=xu++[p]:=λp=>by
   rw[En _ _ (by omega),bX,Nat.sub_self];rfl
  rw[mH] at g3
  obtain⟨Iz,ak8,aAi⟩:∃Iz,M2 228023=some (g+1,xu++[.ptr (228500+i) Iz 0])/\M2 (228500+i)=some (Iz,hJ y ak6 ak7 10 false):=by
   apply Exists.intro;apply And.intro
   rotate_left
   ·rw[g3,dr (by show (228500+i:Nat)≠228023;omega),iH];rfl
   ·rw[g3,iH]
  have nF:∀k:Nat,k≠228021->k≠228022->k≠228023->k≠228500+i->M2 k=m k:=λk F I af aM=>by
   rw[g3,dr af,dr aM,dr F,dr af,dr I,dr F]
  clear g3
  have hK:xu++[R.ptr (228500+i) Iz 0]=bF (i+1) λj => .ptr (228500+j) (if j=i then Iz else gs j) 0:=by
   rw[ak5,ad rfl,<-Ip]
   congr 1
   exact kL λj aj=>by rw[ae (by omega)]
  rw[hK] at ak8;refine aX ?_;repeat' (intro h<;>simp only[h,go_sem,go_sem_proc,aA,fA,h1,Hl,b4]<;>try refine aw ?_ ?_)
  refine⟨(i+1,g+1,λj=>if j=i then Iz else gs j),by dsimp only;omega,by dsimp only;omega,rfl,rfl,ak8,λj aj=>?_,λk Q=>?_⟩
  ·by_cases h0:j=i
   ·subst h0;dsimp only;rw[ad rfl,aAi,WB]
   ·dsimp only;rw[ae h0,nF (228500+j) (by omega) (by omega) (by omega) (by omega)];exact e7 j (by dsimp only at aj;omega)
  ·rw[nF k (by omega) (by omega) (by omega) (by omega)];exact bQ k Q
 ·have d1:decide ((i:Int)<(D E:Int))=false:=dk;obtain rfl:i=D E:=by omega
  simp only[go_sem,go_sem_proc,aA,cL,fA,h1,Hl,d1,ak];refine az7 T mem E cs U g gs (λ_ _=>0) _ _ ?_ ?_ ?_ ?_ ⟨e8,λj aj=>?_,λj k aj Q bC=>absurd rfl bC⟩ bQ ?_
  all_goals first|(intro tm' m' e0 pr b8 xv)|(simp only[e4,eb,if_false,if_true,aA,cL];done)|skip
  ·rw[e7 j aj]
   congr 2
  obtain⟨cM,F,I,af⟩:=xz.all aK (10*D E) 0 m' (by omega) b8.aAd;simp only[go_sem,go_sem_proc];refine ak4 F ?_;refine aX ?_;repeat' (intro h<;>simp only[h,go_sem,go_sem_proc,pr]<;>try refine aw ?_ ?_)
  exact⟨_,rfl,g,gs,rfl,I.at U,λk Q=>(af k Q).trans (xv k Q)⟩
end Go.Mini
