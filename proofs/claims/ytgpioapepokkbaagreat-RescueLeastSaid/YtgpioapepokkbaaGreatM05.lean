/- A part of the proof. -/
import Derived.Test.YtgpioapepokkbaaGreatM04
set_option linter.unusedSimpArgs false
set_option linter.unusedVariables false
set_option maxRecDepth 100000
set_option maxHeartbeats 4000000
noncomputable section
open Bool renaming and_eq_true->e4,and_false->h6,and_true->vu,eq_iff_iff->qL,false_and->fS,not_eq_true'->pU,not_false->dt,not_true->cK,or_eq_true->yg,or_false->l2,or_true->vt,true_and->gW
open Classical renaming byContradiction->me,choose->tO,choose_spec->o7
open Decidable renaming em->dA
open Int renaming le_refl->Q5,natAbs_natCast->mL,sign_neg_iff->akf,toNat_natCast->jX
open List renaming any_eq_false->xu,append_assoc->gM,append_inj->GK,append_nil->fC,cons_append->jW,drop->fT,drop_append->oG,drop_append_of_le_length->akH,drop_eq_nil_of_le->jQ,drop_succ_cons->CH,ext_getElem?->pH,filter_append->p8,filter_cons->aaZ,filter_cons_of_neg->r0,filter_cons_of_pos->qX,filter_eq_nil_iff->Ir,filter_nil->oR,flatMap_append->y2,flatMap_cons->qy,flatMap_def->y3,flatMap_eq_nil_iff->ajN,flatMap_nil->CE,flatten_cons->jL,getD_eq_getElem?_getD->dY,getElem?_eq_getElem->bx,getElem?_eq_none->kF,getElem?_eq_some_iff->dP,getElem?_map->bl,getElem?_range->tv,getElem?_replicate->akv,getElem?_set->nE,getElem_mem->o1,length->D,length_append->fH,length_cons->hN,length_drop->ry,length_filter_le->mg,length_map->al,length_range->sA,length_replicate->Au,length_set->hP,length_take->gf,map->yV,map_append->kR,map_congr_left->lY,map_cons->eG,map_nil->cV,map_replicate->HW,mem_cons->hj,mem_cons_of_mem->gx,mem_cons_self->fZ,mem_filter->s9,mem_flatMap->yd,mem_map->ek,mem_map_of_mem->p5,mem_of_getElem?->ec,mem_range->ha,nil_append->jo,range->dS,range_add->alh,range_succ->oS,replicate->dG,set_cons_zero->v5,take->fN,take_add_one->hv,take_append_drop->sx,take_append_of_le_length->Cl,take_length->lf,take_of_length_le->dy,take_zero->m0
open List.cons renaming inj->w2,injEq->ba
open Nat renaming le_refl->bZ,le_trans->eQ,lt_of_le_of_lt->vL,lt_or_ge->il,lt_trichotomy->ajD,mul_comm->rz,mul_le_mul->oP,mul_one->cL,mul_pos->MD,one_le_two_pow->aaz,pow_add->wg,pow_le_pow_right->w7,reduceEqDiff->dJ,succ_mul->tx,zero_le->fv
open Option renaming bind_none->hK,bind_some->kK,map_eq_some_iff->eb
open Option.some renaming inj->o3,injEq->cn
open Prod renaming ext->dT,ext_iff->yr
open Prod.mk renaming injEq->fb
open Rat renaming add_zero->nI,den_intCast->ako,divInt_eq_div->MG,intCast_add->uD,intCast_mul->p3,intCast_natCast->oh,intCast_sub->Ct,le_refl->gb,le_trans->we,lt_iff->aaB,mul_comm->uF,mul_zero->og,natCast_mul->aac,num_intCast->akn,zero_add->wi
namespace Go.Mini
open Classical
def fh (bh:Nat)(x:Rat):Prop:=∃z:Int,x*(bh:Rat)=(z:Rat)
theorem fh.add {bh:Nat}{x y:Rat}(Q:fh bh x)(av:fh bh y):fh bh (x+y):=by
 obtain⟨a,aP⟩:=Q;obtain⟨b,ah⟩:=av;exact⟨a+b,by rw[uD,<-aP,<-ah];grind⟩
theorem fh.sub {bh:Nat}{x y:Rat}(Q:fh bh x)(av:fh bh y):fh bh (x-y):=by
 obtain⟨a,aP⟩:=Q;obtain⟨b,ah⟩:=av;exact⟨a-b,by rw[Ct,<-aP,<-ah];grind⟩
theorem fh.mul {bh N:Nat}{x y:Rat}(Q:fh bh x)(av:fh N y):fh (bh*N) (x*y):=by
 obtain⟨a,aP⟩:=Q;obtain⟨b,ah⟩:=av;exact⟨a*b,by rw[p3,<-aP,<-ah,aac];grind⟩
theorem fh.int (bh:Nat)(z:Int):fh bh (z:Rat):=⟨z*bh,by rw[p3,oh]⟩
theorem fh.zero (bh:Nat):fh bh 0:=⟨0,by rw[Rat.zero_mul];rfl⟩
theorem fh.more {bh:Nat}{x:Rat}(h:fh bh x)(N:Nat):fh (bh*N) x:=by
 obtain⟨a,aP⟩:=h;exact⟨a*N,by rw[p3,<-aP,aac,oh];grind⟩
theorem fh.of_dvd {bh N:Nat}{x:Rat}(h:fh bh x)(aa:∃m,N=bh*m):fh N x:=by
 obtain⟨m,rfl⟩:=aa;exact h.more m
theorem fh.b8 {bh:Nat}{l:List eg}{aQ:eg->Rat}(h:∀c∈l,fh bh (aQ c)):fh bh (b8 l aQ):=by
 induction l with
 |nil=>exact fh.zero bh
 |cons c l az=>exact (h c fZ).add (az λx Q=>h x (gx _ Q))
theorem fh.bH {bh n:Nat}{aQ:Nat->Rat}(h:∀k,k<n->fh bh (aQ k)):fh bh (bH n aQ):=by
 induction n with
 |zero=>exact fh.zero bh
 |succ n az=>exact (az λk O=>h k (by omega)).add (h n (by omega))
theorem fh.sz {bh a e:Nat}{x:Rat}(h:fh bh x)(m4:0<bh)(MM:bh<=2^a)(ao:0<=x)(Q:x<=((2^e:Nat):Rat)):dX (a+e) x:=by
 obtain⟨z,aX⟩:=h;have vn:(0:Rat)<=(z:Rat):=by rw[<-aX];exact Rat.mul_nonneg ao (by exact_mod_cast fv bh)
 have axt:(z:Rat)<=((2^e*bh:Nat):Rat):=by
  rw[<-aX,aac];exact Rat.mul_le_mul_of_nonneg_right Q (by exact_mod_cast fv bh)
 have fE:0<=z:=by exact_mod_cast vn
 have cd:z<=((2^e*bh:Nat):Int):=by exact_mod_cast axt
 obtain⟨f1,f2⟩:=Cv (q:=x) (v:=z) (d:=(bh:Int)) (by omega) (by rw[oh];exact aX);rw[mL] at f2;have c0:z.natAbs<=2^e*bh:=by omega
 refine⟨eQ f1 (eQ c0 ?_),eQ f2 (eQ MM (w7 (by omega) (by omega)))⟩;rw[wg,rz (2^a)];exact Nat.mul_le_mul_left _ MM
structure eI (E:List Int) (cs:List aq):Prop where
 right:hL E cs=true
 jv:(D E)<=6
 p7:(D cs)<=12
 am:∀c∈cs,c.2.2.2<=1000000000000000
theorem eI.ok {E:List Int}{cs:List aq}(h:eI E cs):(ax E cs).de:=Mw h.right
theorem eI.sum {E:List Int}{cs:List aq}(h:eI E cs)(p:aq->Prop)[DecidablePred p]:0<=cv cs (λc=>if p c then c.2.2.2 else 0)/\cv cs (λc=>if p c then c.2.2.2 else 0)<=12000000000000000:=by
 have:=H9 (cs:=cs) (aQ:=λc=>if p c then c.2.2.2 else 0) (B:=1000000000000000) (by omega) λc H=>by
  have F:=h.am c H;have I:=((gd.1 h.right).2.2.2 c H).2.2.2.2.2.2.1
  try dsimp only
  split<;>omega
 have h8:=h.p7;omega
theorem eI.upto {E:List Int}{cs:List aq}(h:eI E cs)(i r:Int):0<=cU cs i r/\cU cs i r<=12000000000000000:=h.sum λc=>c.1=i/\c.2.2.1<r
theorem axu {E:List Int}{cs:List aq}(h:hL E cs=true)(i:Int){r s:Int}(Bp:r<=s):cU cs i r<=cU cs i s:=by
 have aO:=(gd.1 h).2.2.2
 have:∀l:List aq,(∀c∈l,0<=c.2.2.2)->cv l (λc=>if c.1=i/\c.2.2.1<r then c.2.2.2 else 0)<=cv l (λc=>if c.1=i/\c.2.2.1<s then c.2.2.2 else 0):=by
  intro l
  induction l with
  |nil=>intro _;exact Q5 _
  |cons c l az =>
   intro ar;have F:=az λx Q=>ar x (gx _ Q);have I:=ar c fZ;simp only[cv]
   split<;>split<;>omega
 exact this cs λc H=>(aO c H).2.2.2.2.2.2.1
def ic (cs:List aq)(k r:Nat):Nat:=(cU cs k (r+1:Nat)-cU cs k r).toNat
theorem ES {E:List Int}{cs:List aq}(h:hL E cs=true)(k r:Nat):((ic cs k r:Nat):Rat)=(ax E cs).S k r:=by
 have F:=QX h k r;have I:=axu h k (r:=r) (s:=(r+1:Nat)) (by omega);rw[<-F,<-oh];unfold ic;rw[Int.toNat_of_nonneg (by omega)]
theorem eI.ET {E:List Int}{cs:List aq}(h:eI E cs)(k r:Nat):ic cs k r<=2^54:=by
 have F:=h.upto k (r+1:Nat);have I:=h.upto k r;unfold ic;omega
def pt (cs:List aq)(f:Nat->Nat)(k i:Nat):Int:=cv cs λc=>if c.2.1=(i:Int)/\c.1=(k:Int)/\c.2.2.1=(f k:Int) then c.2.2.2 else 0
theorem axv {E:List Int}{cs:List aq}(h:hL E cs=true)(f:Nat->Nat){k:Nat}(i:Nat)(cS:0<(ax E cs).S k (f k)):(ax E cs).W f k i*(ax E cs).S k (f k)=((pt cs f k i:Int):Rat):=by
 unfold Day.W pt
 rw[Mx cs _ (λc=>if c.to=(i:Int)/\c.aE=k/\c.br=f k then c.am else 0) λc H=>by
  have:=(gd.1 h).2.2.2 c H;show ((if c.2.1=(i:Int)/\c.1=(k:Int)/\c.2.2.1=(f k:Int) then c.2.2.2 else 0:Int):Rat)=if c.2.1=(i:Int)/\c.1.toNat=k/\c.2.2.1.toNat=f k then (c.2.2.2:Rat) else 0
  by_cases F:c.2.1=(i:Int)/\c.1=(k:Int)/\c.2.2.1=(f k:Int)
  ·rw[ad F,ad (by omega)]
  ·rw[ag F,ag (by omega)];rfl]
 rw[uF,<-QO];refine rQ λc _=>?_
 split
 ·rename_i F;rw[uF];have aC:=F.2.1;have aD:=F.2.2;subst aC;rw[<-aD] at cS ⊢;exact Day.Cq cS
 ·rw[og]
theorem MN {E:List Int}{cs:List aq}(h:hL E cs=true)(f:Nat->Nat)(i:Nat):((lk E cs f i:Int):Rat)=(ax E cs).st f i:=by
 unfold lk Day.st;rw[uD]
 congr 1
 refine Mx cs _ (λc=>if c.to=(i:Int)/\c.br<f c.aE then c.am else 0) λc H=>?_;have:=(gd.1 h).2.2.2 c H;show ((if c.2.1=(i:Int)/\c.2.2.1<(f c.1.toNat:Int) then c.2.2.2 else 0:Int):Rat)=if c.2.1=(i:Int)/\c.2.2.1.toNat<f c.1.toNat then (c.2.2.2:Rat) else 0
 by_cases F:c.2.1=(i:Int)/\c.2.2.1<(f c.1.toNat:Int)
 ·rw[ad F,ad (by omega)]
 ·rw[ag F,ag (by omega)];rfl
theorem eI.E {E:List Int}{cs:List aq}(h:eI E cs)(i:Nat):0<=E.getD i 0/\E.getD i 0<=1000000000000000:=by
 rw[dY]
 cases M:E[i]? with
 |none=>simp
 |some x=>exact (gd.1 h.right).2.2.1 x (ec M)
theorem eI.steady {E:List Int}{cs:List aq}(h:eI E cs)(f:Nat->Nat)(i:Nat):0<=lk E cs f i/\lk E cs f i<=13000000000000000:=by
 have F:=h.E i;have I:=h.sum λc=>c.2.1=(i:Int)/\c.2.2.1<(f c.1.toNat:Int);unfold lk;omega
theorem Q6 (n:Nat)(a b:Nat->Nat):fj n (λi=>a i+b i)=fj n a+fj n b:=by
 induction n with
 |zero=>rfl
 |succ n az=>simp only[fj,az];omega
theorem Q7 {n:Nat}{a:Nat->Nat}(h:∀i,i<n->a i=0):fj n a=0:=by
 induction n with
 |zero=>rfl
 |succ n az=>rw[fj,az λi M=>h i (by omega),h n (by omega)]
theorem aju {n b e:Nat}{cf:Nat->Nat}(h:∀k,k<n->cf k<=2^b)(he:n*b<=e):iP n cf<=2^e:=eQ (ZU h) (w7 (by omega) he)
theorem Q8 {n x:Nat}{p:Nat->Prop}[DecidablePred p](h:∀i j,p i->p j->i=j):fj n (λi=>if p i then x else 0)<=x:=by
 induction n with
 |zero=>exact fv _
 |succ n az =>
  rw[fj]
  by_cases aF:p n
  ·rw[ad aF,Q7 λi M=>ag λF=>by have:=h i n F aF;omega]
   omega
  ·rw[ag aF];omega
theorem ajv {cs:List aq}{aQ:aq->Int}(h:∀c∈cs,0<=aQ c):0<=cv cs aQ:=by
 induction cs with
 |nil=>exact Q5 _
 |cons c l az =>
  have F:=az λx Q=>h x (gx _ Q);have I:=h c fZ;simp only[cv];omega
theorem ajw {cs:List aq}(h:∀c∈cs,0<=c.2.2.2)(f:Nat->Nat)(k i:Nat):0<=pt cs f k i:=ajv λc H=>by
 have:=h c H
 split<;>omega
theorem axw {cs:List aq}(h:∀c∈cs,0<=c.2.2.2)(k r:Nat):ic cs k r=(cv cs λc=>if c.1=(k:Int)/\c.2.2.1=(r:Int) then c.2.2.2 else 0).toNat:=by
 unfold ic cU
 congr 1
 induction cs with
 |nil=>rfl
 |cons c l az =>
  have F:=az λx Q=>h x (gx _ Q);simp only[cv]
  have e:(if c.1=(k:Int)/\c.2.2.1<((r+1:Nat):Int) then c.2.2.2 else 0)-(if c.1=(k:Int)/\c.2.2.1<(r:Int) then c.2.2.2 else 0)=if c.1=(k:Int)/\c.2.2.1=(r:Int) then c.2.2.2 else 0:=by
   (repeat' split)<;>omega
  omega
theorem axx {cs:List aq}(h:∀c∈cs,0<=c.2.2.2)(f:Nat->Nat)(k N:Nat):fj N (λi=>(pt cs f k i).toNat)<=ic cs k (f k):=by
 rw[axw h]
 induction cs with
 |nil=>exact eQ (Nat.le_of_eq (Q7 λi _=>rfl)) (fv _)
 |cons c l az =>
  have ar:=λx Q=>h x (gx c Q);have F:=az ar;have I:=h c fZ
  have e:fj N (λi=>(pt (c::l) f k i).toNat)=fj N (λi=>if c.2.1=(i:Int)/\c.1=(k:Int)/\c.2.2.1=(f k:Int) then c.2.2.2.toNat else 0)+fj N λi=>(pt l f k i).toNat:=by
   rw[<-Q6];refine MC λi _=>?_;have:=ajw ar f k i;have aC:pt (c::l) f k i=(if c.2.1=(i:Int)/\c.1=(k:Int)/\c.2.2.1=(f k:Int) then c.2.2.2 else 0)+pt l f k i:=rfl;rw[aC]
   split<;>omega
  have aO:0<=cv l λc=>if c.1=(k:Int)/\c.2.2.1=(f k:Int) then c.2.2.2 else 0:=ajv λc H=>by
   have:=ar c H
   split<;>omega
  have af:fj N (λi=>if c.2.1=(i:Int)/\c.1=(k:Int)/\c.2.2.1=(f k:Int) then c.2.2.2.toNat else 0)<=if c.1=(k:Int)/\c.2.2.1=(f k:Int) then c.2.2.2.toNat else 0:=by
   by_cases H:c.1=(k:Int)/\c.2.2.1=(f k:Int)
   ·rw[ad H];exact Q8 λi j M ai=>by omega
   ·rw[ag H,Q7 λi _=>ag λh=>H h.2];exact bZ _
  simp only[cv];rw[e]
  split at af<;>rename_i H
  ·rw[ad H];omega
  ·rw[ag H];omega
section
variable {E:List Int} {cs:List aq} (X:eI E cs) {f:Nat->Nat} {P:Nat->Prop} (cS:∀k,P k->0<(ax E cs).S k (f k))
include X cS
theorem Q9 {k:Nat}(O:P k):0<ic cs k (f k):=by
 have F:=cS k O;rw[<-ES X.right] at F;exact_mod_cast F
theorem ajx {k:Nat}(O:P k)(i:Nat):((ic cs k (f k):Nat):Rat)*(ax E cs).W f k i=((pt cs f k i:Int):Rat):=by
 rw[ES X.right,uF];exact axv X.right f i (cS k O)
theorem ajy {k:Nat}(O:P k)(i:Nat)(p:Prop)[Decidable p]:eO ((if p then ic cs k (f k) else 0)+(pt cs f k i).toNat) (((ic cs k (f k):Nat):Rat)*((if p then 1 else 0)-(ax E cs).W f k i)):=by
 have e:((ic cs k (f k):Nat):Rat)*((if p then 1 else 0)-(ax E cs).W f k i)=((if p then ic cs k (f k) else 0:Nat):Rat)-((pt cs f k i:Int):Rat):=by
  rw[<-ajx X cS O i]
  split<;>grind
 have I:=ajw (λc H=>((gd.1 X.right).2.2.2 c H).2.2.2.2.2.2.1) f k i;rw[e];exact (eO.nat (bZ _)).sub (eO.of (by omega))
omit cS in
theorem ajz {N:Nat}{k:Nat}(τ:Nat->Nat)(t:Nat)(hτ:∀i,i<N->τ i<D E)(ai:∀i j,i<N->j<N->τ i=τ j->i=j):fj N (λi=>(if i=t then ic cs k (f k) else 0)+(pt cs f k (τ i)).toNat)<=2*ic cs k (f k):=by
 rw[Q6];have F:fj N (λi=>if i=t then ic cs k (f k) else 0)<=ic cs k (f k):=Q8 λi j M ai=>by omega
 have I:=ZS (λi=>(pt cs f k i).toNat) hτ ai;have af:=axx (λc H=>((gd.1 X.right).2.2.2 c H).2.2.2.2.2.2.1) f k (D E);omega
omit cS in
theorem ajA (i:Nat):(lk E cs f i-cU cs (i:Nat) (f i)).natAbs<=2^54/\(lk E cs f i).natAbs<=2^54:=by
 have F:=X.steady f i;have I:=X.upto (i:Nat) (f i);omega
theorem axy:uG (D E) ((ax E cs).Az f P) (D E*54) 54:=by
 have kq:(ax E cs).n=D E:=rfl;refine⟨λk=>if P k then ic cs k (f k) else 1,λk=>if P k then cU cs k (f k) else 0,λi=>lk E cs f i-if P i then cU cs i (f i) else 0,ZU λk _=>?_,λk=>?_,λk O=>?_,λk _=>?_,λi M=>⟨?_,?_⟩⟩
 ·try dsimp only
  split
  ·exact X.ET k _
  ·decide
 ·try dsimp only
  split
  ·exact Q9 X cS (by assumption)
  ·omega
 ·by_cases gr:P k
  ·refine⟨λi=>(if i=k then ic cs k (f k) else 0)+(pt cs f k i).toNat,by dsimp only;rw[ad gr];exact ajz X (λi=>i) k (λi M=>M) λi j _ _ h=>h,λi M=>?_⟩
   unfold Day.Az;dsimp only;rw[ad gr,ad (show k<(ax E cs).n from O),ad gr];exact ajy X cS gr i _
  ·refine⟨λi=>if i=k then 1 else 0,by dsimp only;rw[ag gr];exact eQ (Q8 λi j M ai=>by omega) (by omega),λi M=>?_⟩
   unfold Day.Az;dsimp only;rw[ag gr,ad (show k<(ax E cs).n from O),ag gr];have:(((1:Nat):Rat)*((if i=k then 1 else 0)-0))=((if i=k then 1 else 0:Nat):Rat):=by split<;>simp<;>grind
   rw[this];exact eO.nat (bZ _)
 ·try dsimp only
  split
  ·have:=X.upto (k:Nat) (f k);omega
  ·decide
 ·have:=ajA X (f:=f) i;dsimp only
  split
  ·exact this.1
  ·rw[Int.sub_zero];exact this.2
 ·unfold Day.Az;rw[ag (by rw[kq];omega),kq]
  have aC:(λk=>(if k<(D E) then (if i=k then 1 else 0)-(if P k then (ax E cs).W f k i else 0) else (ax E cs).st f i-bH (D E) λk=>if P k then (ax E cs).W f k i*(ax E cs).bt k (f k) else 0)*((if P k then cU cs k (f k) else 0:Int):Rat))=λk=>(if k<(D E) then (if i=k then ((if P k then cU cs k (f k) else 0:Int):Rat) else 0)-(if P k then (ax E cs).W f k i*(ax E cs).bt k (f k) else 0) else ((ax E cs).st f i-bH (D E) λk=>if P k then (ax E cs).W f k i*(ax E cs).bt k (f k) else 0)*((if P k then cU cs k (f k) else 0:Int):Rat)):=by
   funext k
   by_cases F:k<D E
   ·rw[ad F,ad F]
    by_cases I:P k
    ·rw[ad I,ad I,ad I,<-rU X.right k (f k)]
     split<;>grind
    ·rw[ag I,ag I,ag I]
     split<;>simp<;>grind
   ·rw[ag F,ag F]
  rw[aC];rw[ks (g:=λk=>(if i=k then ((if P k then cU cs k (f k) else 0:Int):Rat) else 0)-(if P k then (ax E cs).W f k i*(ax E cs).bt k (f k) else 0)) λk O=>ad O];rw[H0,yY M λk _ O=>ag (Ne.symm O),ad rfl,Ct,MN X.right];grind
theorem aad (p:List Nat)(aF:∀k,k<(D p)->P (p.getD k 0)/\p.getD k 0<D E)(ai:∀i j,i<(D p)->j<(D p)->p.getD i 0=p.getD j 0->i=j):uG (D p) ((ax E cs).uJ f p) (D p*54) 54:=by
 refine⟨λk=>if k<(D p) then ic cs (p.getD k 0) (f (p.getD k 0)) else 1,λ_=>0,λi=>lk E cs f (p.getD i 0)-cU cs (p.getD i 0:Nat) (f (p.getD i 0)),ZU λk O=>?_,λk=>?_,λk O=>?_,λk _=>fv _,λi M=>⟨?_,?_⟩⟩
 ·try dsimp only
  rw[ad O];exact X.ET _ _
 ·try dsimp only
  split
  ·exact Q9 X cS (aF k (by assumption)).1
  ·omega
 ·refine⟨λi=>(if i=k then ic cs (p.getD k 0) (f (p.getD k 0)) else 0)+(pt cs f (p.getD k 0) (p.getD i 0)).toNat,by dsimp only;rw[ad O];exact ajz X (λi=>p.getD i 0) k (λi M=>(aF i M).2) ai,λi M=>?_⟩
  unfold Day.uJ;dsimp only;rw[ad O,ad O];exact ajy X cS (aF k O).1 _ _
 ·exact (ajA X _).1
 ·unfold Day.uJ;rw[ag (by omega),s5 λk _=>by rw[show ((0:Int):Rat)=0 from rfl,og],wi,Ct,MN X.right,rU X.right]
end
end Go.Mini
namespace Go.Mini
open Go Classical
theorem kt {b:Nat}{q:Rat}(h:dX b q)(ah:b<1200):dj q:=by
 obtain⟨B,fw,gu⟩:=aiW;have:2^b<ee:=by rw[gu];exact Nat.pow_lt_pow_right (by omega) (by omega)
 exact⟨vL h.1 this,vL h.2 this⟩
def rowsOf (N:Nat)(A:eD):List e1:=(dS N).map λi=>(dF N (A i),au (A i N))
theorem CC (N:Nat)(A:eD):(rowsOf N A).length=N:=by simp[rowsOf]
theorem ajB {N i:Nat}(A:eD)(h:i<N):(rowsOf N A)[i]?=some (dF N (A i),au (A i N)):=by
 unfold rowsOf;rw[bl,tv h];rfl
theorem axz {N i k:Nat}(A:eD)(M:i<N)(O:k<=N):qW (rowsOf N A) i k=A i k:=by
 unfold qW;rw[aiT (ajB A M),CC]
 by_cases h:k<N
 ·rw[ad h,dY,uI _ h,Option.getD_some,Ei]
 ·rw[ag h,Ei,show k=N by omega]
theorem Ij {x:Rat}(h:dj x):ej (au x)=true:=(Lx _).2 ⟨x,h,rfl⟩
theorem axA {N:Nat}{A:eD}(gF:N<=40)(ar:∀i,i<N->∀k,k<=N->dj (A i k)):oc (rowsOf N A) N=true:=by
 unfold oc
 have af:(rowsOf N A).any (oL N)=false:=by
  rw[xu];intro r ab;obtain⟨i,M,rfl⟩:=ek.1 ab;have M:=ha.1 M;unfold oL Hm;simp only[p6,beq_self_eq_true,gW,Ij (ar i M N (bZ _))]
  have:(dF N (A i)).any (λf => !ej f)=false:=by
   rw[xu];intro f aI;unfold dF at aI;obtain⟨x,Q,rfl⟩:=ek.1 aI;obtain⟨k,O,rfl⟩:=ek.1 Q;rw[Ij (ar i M k (by have:=ha.1 O;omega))]
   decide
  rw[this];decide
 rw[af,CC];simp only[e4,pU,decide_eq_false_iff_not,beq_self_eq_true,dt,and_true];omega
theorem axB {N:Nat}{A:eD}(gF:N<=40)(ar:∀i,i<N->∀k,k<=N->dj (A i k)):rK (rowsOf N A):=by
 refine⟨by rw[CC];omega,λr ab=>?_⟩
 obtain⟨i,M,rfl⟩:=ek.1 ab;have M:=ha.1 M;exact⟨Z9 gF λk O=>ar i M k (by omega),mO (ar i M N (bZ _))⟩
theorem ajC {N:Nat}{a b y:Nat->Rat}(h:∀k,k<=N->a k=b k):mQ N a y=mQ N b y:=ks λk O=>by rw[h k (by omega)]
theorem hY.congr {N:Nat}{A B:eD}(h:∀i,i<N->∀k,k<=N->A i k=B i k)(y:Nat->Rat):hY N A y↔hY N B y:=by
 unfold hY
 constructor
 ·intro dz i M;rw[<-ajC (h i M)];exact dz i M
 ·intro dz i M;rw[ajC (h i M)];exact dz i M
theorem uG.congr {N δ v:Nat}{A B:eD}(h:∀i,i<N->∀k,k<=N->A i k=B i k)(X:uG N A δ v):uG N B δ v:=by
 obtain⟨cf,u,w,cT,c7,dZ,fm,oQ⟩:=X;refine⟨cf,u,w,cT,c7,λk O=>?_,fm,λi M=>⟨(oQ i M).1,?_⟩⟩
 ·obtain⟨b,dh,eK⟩:=dZ k O;exact⟨b,dh,λi M=>by rw[<-h i M k (by omega)];exact eK i M⟩
 ·rw[<-h i M N (bZ _),(oQ i M).2,ks λk O=>by rw[h i M k (by omega)]]
theorem uG.sz {N δ v:Nat}{A:eD}(X:uG N A δ v)(gF:N<=7){i k:Nat}(M:i<N)(O:k<=N):dX (N+δ+v+4) (A i k):=(X.ajb gF A 0 (fv _) (lO.start N A) i k M (fv _) O).1
theorem axC {N:Nat}{A:eD}(gF:N<=6)(X:uG N A (N*54) 54)(axD:¬ CB N A){x:Nat->Rat}(Q:hY N A (ext N x (-1))):
  qT (rowsOf N A) N=(dF N x,0)/\oc (rowsOf N A) N=true/\∀k,k<N->dj (x k):=by
 have ar:∀i,i<N->∀k,k<=N->dj (A i k):=λi M k O=>kt (X.sz (by omega) M O) (by omega);have ab:=axA (by omega) ar;have H:∀i,i<N->∀k,k<=N->A i k=qW (rowsOf N A) i k:=λi M k O=>(axz A M O).symm;have iV:=(X.congr H).ajb (by omega)
 have axE:¬ CB N (qW (rowsOf N A)):=by
  rintro⟨y,av,h⟩;exact axD ⟨y,(hY.congr H _).2 av,h⟩
 obtain⟨y,aC,aD,b9⟩:=axo (rs:=rowsOf N A) (n:=N) (eT:=N+N*54+54+4) (aQ:=N+N*54) ab (by rw[CC];exact iV) (by omega) (by rw[CC];exact axE);rw[CC] at aC aD b9;have jk:∀k,k<N->x k=y k:=λk O=>(b9.1 x).1 ((hY.congr H _).1 Q) k O;exact⟨by rw[aC,Ii λk O=>(jk k O).symm],ab,λk O=>by rw[jk k O];exact aD k O⟩
theorem aae {P:Nat->Prop}{n i j:Nat}(M:i<(cZ P n).length)(ai:j<(cZ P n).length)(h:(cZ P n).getD i 0=(cZ P n).getD j 0):i=j:=by
 have aL:(cZ P n).Pairwise (·≠·):=List.Pairwise.filter _ List.nodup_range;rw[List.pairwise_iff_getElem] at aL;rw[dY,dY,bx M,bx ai] at h;rcases ajD i j with F|F|F
 ·exact absurd h (aL i j M ai F)
 ·exact F
 ·exact absurd h.symm (aL j i ai M F)
structure td (d:Day) (f:Nat->Nat) (P:Nat->Prop):Prop where
 ok:d.de
 ex:∃g,Inv d f g/\iD d f g P (d.fg f P)
theorem td.good {d:Day}{f:Nat->Nat}{P:Nat->Prop}(h:td d f P):Good d f P:=by
 obtain⟨F,g,I,af⟩:=h;exact af.good F I
theorem td.rS {d:Day}{f:Nat->Nat}{P:Nat->Prop}(h:td d f P):∀k,P k->0<d.S k (f k):=by
 obtain⟨F,g,I,af⟩:=h;exact λk O=>I.rS (af.gH k O).1 (af.gH k O).2
theorem td.gt {d:Day}{f:Nat->Nat}{P:Nat->Prop}(h:td d f P):∀k,P k->d.bt k (f k)<d.fg f P k:=by
 obtain⟨F,g,I,af⟩:=h;exact af.ge
theorem iD.ajE {d:Day}(aa:d.de){f:Nat->Nat}{g:Nat->Rat}{P:Nat->Prop}{h:Nat->Rat}(M:Inv d f g)(aF:iD d f g P h){c:eg}(H:c∈d.cF):0<=d.l f P h c/\d.l f P h c<=c.am:=by
 have ao:=aa.am c H
 by_cases F:c.br<f c.aE
 ·rw[Day.ail F];exact⟨ao,gb⟩
 ·by_cases I:c.br=f c.aE/\P c.aE
  ·rw[Day.aim I.1 I.2];have aC:=aF.ge _ I.2;have aD:=aF.le _ (aa.aE c H);have b9:=M.M _ (aa.aE c H) (aF.gH _ I.2).2;rw[d.s6] at b9;rw[I.1];exact⟨uB (aa.p2 H) (by grind),aa.QT H (by rw[I.1];grind)⟩
  ·rw[Day.Zy F I];exact⟨gb,ao⟩
theorem td.range {d:Day}{f:Nat->Nat}{P:Nat->Prop}(h:td d f P){i:Nat}(M:i<d.n):0<=d.fg f P i/\d.fg f P i<=d.eZ (λc=>c.am) i:=by
 obtain⟨F,g,I,af⟩:=h;rw[af.sys i M];exact⟨F.ZC (λc H=>(af.ajE F I H).1) M,d.EK (λc H=>(af.ajE F I H).2) i⟩
theorem axF {E:List Int}{cs:List aq}(X:eI E cs)(i:Nat):(ax E cs).eZ (λc=>c.am) i<=((2^54:Nat):Rat):=by
 have e:(ax E cs).eZ (λc=>c.am) i=((E.getD i 0+cv cs (λc=>if c.2.1=(i:Int) then c.2.2.2 else 0):Int):Rat):=by
  unfold Day.eZ;rw[uD]
  congr 1
  refine (Mx cs _ (λc=>if c.to=(i:Int) then c.am else 0) λc H=>?_).symm;show ((if c.2.1=(i:Int) then c.2.2.2 else 0:Int):Rat)=if c.2.1=(i:Int) then (c.2.2.2:Rat) else 0
  split<;>rfl
 rw[e];have F:=X.E i;have I:=X.sum λc=>c.2.1=(i:Int)
 have:E.getD i 0+cv cs (λc=>if c.2.1=(i:Int) then c.2.2.2 else 0)<=((2^54:Nat):Int):=by omega
 rw[<-oh];exact_mod_cast this
theorem Day.de.axG {d:Day}(aa:d.de)(f:Nat->Nat)(k i:Nat):0<=d.W f k i:=xw λc H=>by
 split
 ·exact aa.p2 H
 ·exact gb
theorem axH {n t:Nat}{T:Nat->Rat}(h:∀k,k<n->0<=T k)(bF:t<=n):bH t T<=bH n T:=by
 induction n with
 |zero=>rw[show t=0 by omega];exact gb
 |succ n az =>
  by_cases Ik:t=n+1
  ·rw[Ik];exact gb
  ·have F:=az (λk O=>h k (by omega)) (by omega);have I:=h n (by omega);rw[bH];grind
theorem axI {N t bh a e:Nat}{s:Rat}{T:Nat->Rat}(m4:0<bh)(MM:bh<=2^a)(qN:0<=s)(Km:fh bh s)(aaf:∀k,k<N->0<=T k)(ajF:∀k,k<N->fh bh (T k))(Q:s+bH N T<=((2^e:Nat):Rat))(bF:t<=N):dX (a+e) (s+bH t T)/\∀k,k<N->dX (a+e) (T k):=by
 have F:∀t,t<=N->0<=bH t T/\bH t T<=bH N T:=λt bF=>⟨aif λk O=>aaf k (by omega),axH aaf bF⟩;refine⟨(Km.add (fh.bH λk O=>ajF k (by omega))).sz m4 MM (by have:=(F t bF).1;grind) (by have:=(F t bF).2;grind),λk O=>(ajF k O).sz m4 MM (aaf k O) ?_⟩;have I:=(F k (by omega)).1;have af:=(F (k+1) (by omega)).2;rw[bH] at af;grind
section
variable {E:List Int} {cs:List aq} (X:eI E cs) {f:Nat->Nat} {P:Nat->Prop} (aF:td (ax E cs) f P)
include X aF
theorem Ra {i:Nat}(M:i<D E):0<=(ax E cs).fg f P i/\(ax E cs).fg f P i<=((2^54:Nat):Rat):=by
 have h:=aF.range (d:=ax E cs) M;exact⟨h.1,we h.2 (axF X i)⟩
theorem ajG:∃bh:Nat,0<bh/\(∃a,a<=330/\bh<=2^a)/\∀i,i<(D E)->fh bh ((ax E cs).fg f P i):=by
 obtain⟨bh,F,I,af⟩:=ajk (N:=D E) aF.good.ajo (axy X aF.rS) ((ajm aF.ok f P _).2 aF.good.fg);have aL:=X.jv;exact⟨bh,F,⟨_,by omega,I⟩,af⟩
theorem ajH {i:Nat}(M:i<D E):dX 428 ((ax E cs).fg f P i):=by
 obtain⟨bh,F,⟨a,ao,I⟩,af⟩:=ajG X aF;have aO:=Ra X aF M;exact ((af i M).sz F I aO.1 aO.2).mono (by omega)
theorem axJ:qT (rowsOf (cZ P (D E)).length ((ax E cs).uJ f (cZ P (D E)))) (cZ P (D E)).length=(dF (cZ P (D E)).length (λk=>(ax E cs).fg f P ((cZ P (D E)).getD k 0)-(ax E cs).bt ((cZ P (D E)).getD k 0) (f ((cZ P (D E)).getD k 0))),0)/\oc (rowsOf (cZ P (D E)).length ((ax E cs).uJ f (cZ P (D E)))) (cZ P (D E)).length=true:=by
 have hlen:(cZ P (D E)).length<=6:=by
  have:=mg (λi=>decide (P i)) (dS (D E));rw[sA] at this;have:=X.jv;unfold cZ;omega
 have:=axC hlen (aad X aF.rS _ (λk O=>⟨(xA O).2,(xA O).1⟩) λi j M ai=>aae M ai) aF.good.small aF.good.ajq;exact⟨this.1,this.2.1⟩
theorem axK:∃bh:Nat,0<bh/\(∃a,a<=330/\bh<=2^a)/\∀k,k<(cZ P (D E)).length->fh bh ((ax E cs).fg f P ((cZ P (D E)).getD k 0)-(ax E cs).bt ((cZ P (D E)).getD k 0) (f ((cZ P (D E)).getD k 0))):=by
 have hlen:(cZ P (D E)).length<=6:=by
  have:=mg (λi=>decide (P i)) (dS (D E));rw[sA] at this;have:=X.jv;unfold cZ;omega
 have CA:cZ P (ax E cs).n=cZ P (D E):=rfl;have Il:=aF.good.ajq;have oj:=aF.good.small;rw[CA] at Il oj;obtain⟨bh,F,I,af⟩:=ajk oj (aad X aF.rS _ (λk O=>⟨(xA O).2,(xA O).1⟩) λi j M ai=>aae M ai) Il;exact⟨bh,F,⟨_,by omega,I⟩,af⟩
theorem Rb {k:Nat}(O:P k)(i:Nat):dX 54 ((ax E cs).W f k i)/\fh (ic cs k (f k)) ((ax E cs).W f k i):=by
 have e:=ajx X aF.rS O i;have ao:=Q9 X aF.rS O;have F:=X.ET k (f k);have I:=X.sum λc=>c.2.1=(i:Int)/\c.1=(k:Int)/\c.2.2.1=(f k:Int)
 obtain⟨f1,f2⟩:=Cv (q:=(ax E cs).W f k i) (v:=pt cs f k i) (d:=(ic cs k (f k):Int)) (by omega) (by rw[<-e,oh,uF]);rw[mL] at f2;refine⟨⟨eQ f1 (by unfold pt;omega),eQ f2 (by omega)⟩,pt cs f k i,by rw[<-e,uF]⟩
theorem axL {i t:Nat}(M:i<D E)(bF:t<=(cZ P (D E)).length):
  dX 708 ((ax E cs).st f i+bH t λk=>(ax E cs).W f ((cZ P (D E)).getD k 0) i*((ax E cs).fg f P ((cZ P (D E)).getD k 0)-(ax E cs).bt ((cZ P (D E)).getD k 0) (f ((cZ P (D E)).getD k 0)))) /\
  (∀k,k<(cZ P (D E)).length->dX 438 ((ax E cs).W f ((cZ P (D E)).getD k 0) i*((ax E cs).fg f P ((cZ P (D E)).getD k 0)-(ax E cs).bt ((cZ P (D E)).getD k 0) (f ((cZ P (D E)).getD k 0))))) /\
  ∀k,k<(cZ P (D E)).length->dX 384 ((ax E cs).fg f P ((cZ P (D E)).getD k 0)-(ax E cs).bt ((cZ P (D E)).getD k 0) (f ((cZ P (D E)).getD k 0))):=by
 have hlen:(cZ P (D E)).length<=6:=by
  have:=mg (λi=>decide (P i)) (dS (D E));rw[sA] at this;have:=X.jv;unfold cZ;omega
 obtain⟨bh,dN,⟨a,lC,cO⟩,n7⟩:=axK X aF;have gm:∀k,k<(cZ P (D E)).length->(cZ P (D E)).getD k 0<D E/\P ((cZ P (D E)).getD k 0):=λk O=>xA O;have Rc:=aF.good.ajr (d:=ax E cs) M;have CA:cZ P (ax E cs).n=cZ P (D E):=rfl;rw[CA] at Rc;generalize MO:cZ P (D E)=p at *
 have ajI:∀k,k<(D p)->0<=(ax E cs).fg f P (p.getD k 0)-(ax E cs).bt (p.getD k 0) (f (p.getD k 0)):=λk O=>by
  have:=aF.gt _ (gm k O).2;grind
 have axM:∀k,k<(D p)->(ax E cs).fg f P (p.getD k 0)-(ax E cs).bt (p.getD k 0) (f (p.getD k 0))<=((2^54:Nat):Rat):=λk O=>by
  have F:=(Ra X aF (gm k O).1).2;have I:=aF.ok.aws (p.getD k 0) (f (p.getD k 0));grind
 have axN:0<iP (D p) λk=>ic cs (p.getD k 0) (f (p.getD k 0)):=aiA λk O=>Q9 X aF.rS (gm k O).2;obtain⟨eT,iw⟩:∃eT,eT=324:=⟨_,rfl⟩;have nY:(iP (D p) λk=>ic cs (p.getD k 0) (f (p.getD k 0)))<=2^eT:=aju (e:=eT) (λk _=>X.ET _ _) (by omega);have dv:=MN X.right f i;have Rd:=X.steady f i;have aag:0<=(ax E cs).st f i:=by rw[<-dv];exact_mod_cast Rd.1
 have ab:=(Ra X aF M).2;rw[Rc] at ab
 have axO:(iP (D p) λk=>ic cs (p.getD k 0) (f (p.getD k 0)))*bh<=2^(eT+a):=by
  rw[wg];exact oP nY cO
 have axP:=axI (T:=λk=>(ax E cs).W f (p.getD k 0) i*((ax E cs).fg f P (p.getD k 0)-(ax E cs).bt (p.getD k 0) (f (p.getD k 0)))) (MD axN dN) axO aag (by rw[<-dv];exact fh.int _ _) (λk O=>uB (aF.ok.axG f _ _) (ajI k O)) (λk O=>((Rb X aF (gm k O).2 i).2.of_dvd (aiB (cf:=λk=>ic cs (p.getD k 0) (f (p.getD k 0))) O)).mul (n7 k O)) ab bF;have hex:∀k,k<(D p)->dX 384 ((ax E cs).fg f P (p.getD k 0)-(ax E cs).bt (p.getD k 0) (f (p.getD k 0))):=λk O=>((n7 k O).sz dN cO (ajI k O) (axM k O)).mono (by omega);exact⟨axP.1.mono (by omega),λk O=>(MH (Rb X aF (gm k O).2 i).1 (hex k O)).mono (by omega),hex⟩
end
end Go.Mini
namespace Go.Mini
open Go
def aah:bN:=ca 53 2 [.t 4] (U [cP 4 false] (.seq (U [G 7 0,ct 8 7,a9 9 .gtr 8 5,G 10 9,⟨some 11,some (10,false),.b6 (.t 1)⟩,⟨some 12,some (10,false),.len (.t 11)⟩,⟨some 13,some (10,false),.bin .gtr (.t 12) (.c (aj 12))⟩,ed 14 10 13] (a2 14 (U [cP 4 false] .ret) .skip)) (.seq (U [bp 5 0] (.block 0 (.loop  (.seq (U [G 15 5,G 16 0,ct 17 16,bq 18 .lss 15 17] (a2 18 .skip (.exit 0))) (.seq (.block 1 (U [G 21 0,G 22 5,bW 23 1 21 22,aY 24 1 23,a9 25 .gtr 24 1000000,G 26 25,⟨some 27,some (26,true),.b6 (.t 0)⟩,⟨some 28,some (26,true),.b6 (.t 5)⟩,⟨some 29,some (26,true),.jy 1 (.t 27) (.t 28)⟩,⟨some 30,some (26,true),.load 1 false (.t 29)⟩,⟨some 31,some (26,true),.bin .leq (.t 30) (.c (aj 1000000000000000))⟩,fx 32 26 31] (a2 32 (U [cP 4 false] .ret) .skip))) (.ops [G 19 5,a9 20 .add 19 1,G 5 20])))))) (.seq (U [bp 6 0] (.block 2 (.loop  (.seq (U [G 33 6,G 34 1,ct 35 34,bq 36 .lss 33 35] (a2 36 .skip (.exit 2))) (.seq (.block 3 (U [G 39 1,G 40 6,bW 41 4 39 40,bj 42 3 41,aY 43 1 42,a9 44 .gtr 43 1000000,G 45 44,⟨some 46,some (45,true),.b6 (.t 1)⟩,⟨some 47,some (45,true),.b6 (.t 6)⟩,⟨some 48,some (45,true),.jy 4 (.t 46) (.t 47)⟩,⟨some 49,some (45,true),.ei 3 (.t 48)⟩,⟨some 50,some (45,true),.load 1 false (.t 49)⟩,⟨some 51,some (45,true),.bin .leq (.t 50) (.c (aj 1000000000000000))⟩,fx 52 45 51] (a2 52 (U [cP 4 false] .ret) .skip))) (.ops [G 37 6,a9 38 .add 37 1,G 6 38])))))) (U [cP 4 true] .ret)))))

def aai:bN:=ca 49 2 [.t 4,.t 5] (U [bp 4 0,cP 5 false] (.seq (U [G 9 0,(dQ 10 KT 9),fy 11 10,G 12 11,⟨some 13,some (12,false),.b6 (.t 1)⟩,⟨some 14,some (12,false),.len (.t 13)⟩,⟨some 15,some (12,false),.b6 (.t 0)⟩,⟨some 16,some (12,false),.len (.t 15)⟩,⟨some 17,some (12,false),.bin .neq (.t 14) (.t 16)⟩,ed 18 12 17] (a2 18 (U [bp 4 0,cP 5 false] .ret) .skip)) (U [bp 6 10] (.seq (U [G 19 0,ct 20 19,bp 21 0] (.block 0 (.loop  (U [bq 22 .lss 21 20] (.seq (a2 22 .skip (.exit 0)) (.seq (.block 1 (U [G 23 21,bW 24 4 19 21,bz 25 4 24,(aB 8 (.alloc 225008 [(aj 0),(aj 0),(aj 0),(aj 0)])),G 7 23,bn 4 8 25] (.seq (U [G 26 1,G 27 7,bW 28 4 26 27,bz 29 4 28,(dQ 30 l5 29),fy 31 30] (a2 31 (U [bp 4 0,cP 5 false] .ret) .skip)) (fM [G 32 1,G 33 7,bW 34 4 32 33,bz 35 4 34,bj 36 3 8,aY 37 1 36,(dQ 38 vC 37),(cA 39 nu 35 38),a9 40 .lss 39 0] GH (a2 40 (.ops [G 41 6,bj 42 2 8,aY 43 1 42,(aB 44 (.iH false (.t 41) (.t 43))),G 6 44]) .skip))))) (.ops [a9 45 .add 21 1,G 21 45]))))))) (.seq (U [G 46 6,a9 47 .eql 46 10] (a2 47 (U [bp 4 0,cP 5 false] .ret) .skip)) (U [G 48 6,G 4 48,cP 5 true] .ret))))))
def aaj:bN:=ca 46 1 [.t 2] (U [cP 2 false] (.seq (U [G 5 0,ct 6 5,bp 7 0] (.block 0 (.loop  (U [bq 8 .lss 7 6] (.seq (a2 8 .skip (.exit 0)) (.seq (.block 1 (U [bW 9 4 5 7,bz 10 4 9,(aB 4 (.alloc 240004 [(aj 0),(aj 0),(aj 0),(aj 0)])),bn 4 4 10] (fM [bj 11 0 4,aY 12 1 11,(aB 13 (.call GF [(.t 12),(.c (aj 0)),(.c (aj 59))])),fy 14 13,G 15 14,⟨some 16,some (15,false),.ei 1 (.t 4)⟩,⟨some 17,some (15,false),.load 1 false (.t 16)⟩,⟨some 18,some (15,false),.call GF [(.t 17),(.c (.J (.int .i64 (-1)))),(.c (aj 59))]⟩,⟨some 19,some (15,false),.un .not (.t 18)⟩,ed 20 15 19,G 21 20,⟨some 22,some (21,false),.ei 2 (.t 4)⟩,⟨some 23,some (21,false),.load 1 false (.t 22)⟩,⟨some 24,some (21,false),.call GF [(.t 23),(.c (aj 0)),(.c (aj 9))]⟩,⟨some 25,some (21,false),.un .not (.t 24)⟩,ed 26 21 25,G 27 26,⟨some 28,some (27,false),.ei 3 (.t 4)⟩,⟨some 29,some (27,false),.load 1 false (.t 28)⟩,⟨some 30,some (27,false),.call GF [(.t 29),(.c (aj 0)),(.c (aj 1000000000000000))]⟩,⟨some 31,some (27,false),.un .not (.t 30)⟩,ed 32 27 31,G 33 32,⟨some 34,some (33,false),.ei 0 (.t 4)⟩,⟨some 35,some (33,false),.load 1 false (.t 34)⟩,⟨some 36,some (33,false),.b6 (.t 0)⟩,⟨some 37,some (33,false),.jy 4 (.t 36) (.c (aj 0))⟩,⟨some 38,some (33,false),.ei 0 (.t 37)⟩,⟨some 39,some (33,false),.load 1 false (.t 38)⟩,⟨some 40,some (33,false),.bin .neq (.t 35) (.t 39)⟩,ed 41 33 40] [[],[],[],[],[],[],[],[],[],[],[],[],[],[],[],[],[],[],[],[],[],[],[],[],[],[],[],[],[],[],[]] (a2 41 (U [cP 2 false] .ret) .skip)))) (.ops [a9 42 .add 7 1,G 7 42]))))))) (U [G 43 0,ct 44 43,a9 45 .leq 44 2000,G 2 45] .ret)))
def aak:bN:=ca 11 1 [.cell 2 4 true] (U [(aB 2 (.alloc 241002 [(aj 0),.nil,(aj 0),.nil]))] (U [G 6 0,(aB 7 (.call vw [(.t 6),(.c (aj 1))])),G 5 7,bB 8 0 5,bB 9 1 5,(aB 3 (.alloc 241003 [(aj 0),.nil,(aj 0),.nil])),bn 4 3 8,G 4 9] (U [bz 10 4 3,bn 4 2 10] .ret)))
def EU:bN:=ca 118 2 [.t 4,.t 5] (U [dO 2 249002 0,eM 4,bp 5 0] (.seq (fM [bz 19 4 2,(dQ 20 l5 19),fy 21 20,G 22 21,⟨some 23,some (22,false),.load 4 true (.t 2)⟩,⟨some 24,some (22,false),.call vC [(.c (aj 0))]⟩,⟨some 25,some (22,false),.call nu [(.t 23),(.t 24)]⟩,⟨some 26,some (22,false),.bin .lss (.t 25) (.c (aj 0))⟩,ed 27 22 26,G 28 27,⟨some 29,some (28,false),.b6 (.t 1)⟩,⟨some 30,some (28,false),.call KT [(.t 29)]⟩,⟨some 31,some (28,false),.un .not (.t 30)⟩,ed 32 28 31] K2 (a2 32 (U [eM 4,bp 5 1] .ret) .skip)) (U [G 33 1,ct 34 33,(aB 35 (.mv 249035 [(aj 0),.nil,(aj 0),.nil] 64 (.t 34) (.t 34))),G 6 35] (U [bz 36 4 2,(aB 7 (.alloc 249007 [(aj 0),.nil,(aj 0),.nil])),bn 4 7 36] (.seq (U [bp 37 0] (.block 0 (.loop  (U [a9 38 .lss 37 10] (.seq (a2 38 .skip (.exit 0)) (.seq (.block 1 (U [G 39 37,G 8 39] (U [bp 9 0] (.seq (U [G 40 1,ct 41 40,bp 42 0] (.block 2 (.loop  (U [bq 43 .lss 42 41] (.seq (a2 43 .skip (.exit 2)) (.seq (.block 3 (U [bW 44 4 40 42,bz 45 4 44,(aB 11 (.alloc 249011 [(aj 0),(aj 0),(aj 0),(aj 0)])),bn 4 11 45] (U [bj 46 2 11,aY 47 1 46,G 48 8,bq 49 .eql 47 48] (a2 49 (.ops [G 50 9,bj 51 3 11,aY 52 1 51,bq 53 .add 50 52,G 9 53]) .skip)))) (.ops [a9 54 .add 42 1,G 42 54]))))))) (fM [bz 55 4 7,G 56 9,(dQ 57 vC 56),(cA 58 nu 55 57),a9 59 .geq 58 0,G 12 59] afo (.seq (U [G 60 1,ct 61 60,bp 62 0] (.block 4 (.loop  (U [bq 63 .lss 62 61] (.seq (a2 63 .skip (.exit 4)) (.seq (.block 5 (U [G 64 62,bW 65 4 60 62,bz 66 4 65,(aB 14 (.alloc 249014 [(aj 0),(aj 0),(aj 0),(aj 0)])),G 13 64,bn 4 14 66] (.seq (U [bj 67 2 14,aY 68 1 67,G 69 8,bq 70 .neq 68 69] (a2 70 (.exit 5) .skip)) (U [G 71 6,G 72 13,bj 73 3 14,aY 74 1 73,(dQ 75 vC 74),bW 76 4 71 72,bn 4 76 75] (.seq (U [G 77 12] (a2 77 (.exit 5) .skip)) (fM [bj 79 3 14,aY 80 1 79,(dQ 81 vC 80),bz 82 4 7,(cA 83 wS 81 82),G 78 83,bB 84 0 78,bB 85 1 78,(aB 15 (.alloc 249015 [(aj 0),.nil,(aj 0),.nil])),bn 4 15 84,G 16 85] [[],[],[],[],[],[],[],[],[1,3],[],[]] (.seq (U [G 86 16,a9 87 .eql 86 0] (a2 87 (.mU [G 89 6,G 90 13,bz 91 4 15,G 92 9,(dQ 93 vC 92),(cA 94 DJ 91 93),G 88 94,bB 95 0 88,bB 96 1 88,bW 97 4 89 90,bn 4 97 95,G 16 96] afp) .skip)) (U [G 98 16,a9 99 .neq 98 0] (a2 99 (U [G 100 16,eM 4,G 5 100] .ret) .skip))))))))) (.ops [a9 101 .add 62 1,G 62 101]))))))) (.seq (U [G 102 12,fy 103 102] (a2 103 (U [(aB 104 (.call vC [(.c (aj 0))])),bn 4 7 104] (.exit 1)) .skip)) (fM [bz 106 4 7,G 107 9,(dQ 108 vC 107),(cA 109 vx 106 108),G 105 109,bB 110 0 105,bB 111 1 105,(aB 17 (.alloc 249017 [(aj 0),.nil,(aj 0),.nil])),bn 4 17 110,G 18 111] [[],[],[],[],[],[],[],[0],[],[]] (.seq (U [G 112 18,a9 113 .neq 112 0] (a2 113 (U [G 114 18,eM 4,G 5 114] .ret) .skip)) (.ops [bz 115 4 17,bn 4 7 115])))))))))) (.ops [a9 116 .add 37 1,G 37 116]))))))) (.seq (.ghost (.freeze 6) (.ops [G 117 6,G 4 117,bp 5 0])) .ret))))))
def aal:bN:=ca 15 3 [.t 6] (U [cP 6 false] (U [G 7 0,G 8 1,bq 9 .geq 7 8,G 10 9,⟨some 11,some (10,true),.b6 (.t 0)⟩,⟨some 12,some (10,true),.b6 (.t 2)⟩,⟨some 13,some (10,true),.bin .leq (.t 11) (.t 12)⟩,fx 14 10 13,G 6 14] .ret))

def aam:bN:=ca 62 0 [.t 0] (U [cP 0 false] (U [(aB 10 (.fe 220010 false [(aj 0),(aj 0)] 1 2 [(0,1,(.c (aj 10))),(1,1,(.c (aj 0)))])),(aB 11 (.call GD [])),(aB 12 (.call Bz [(.t 10),(.t 11),(.c (aj 0))])),G 9 12,bB 13 0 9,bB 14 1 9,(aB 1 (.alloc 220001 [(aj 0),.nil,(aj 0),.nil])),bn 4 1 13,G 2 14] (U [(aB 16 (.fe 220016 false [(aj 0),(aj 0)] 1 2 [(0,1,(.c (aj 10))),(1,1,(.c (aj 0)))])),(aB 17 (.call GD [])),(aB 18 (.call Bz [(.t 16),(.t 17),(.c (aj 1))])),G 15 18,bB 19 0 15,bB 20 1 15,(aB 3 (.alloc 220003 [(aj 0),.nil,(aj 0),.nil])),bn 4 3 19,G 4 20] (U [(aB 22 (.fe 220022 false [(aj 0),(aj 0)] 1 2 [(0,1,(.c (aj 30))),(1,1,(.c (aj 0)))])),(aB 23 (.call GD [])),(aB 24 (.call Bz [(.t 22),(.t 23),(.c (aj 1))])),G 21 24,bB 25 0 21,bB 26 1 21,(aB 5 (.alloc 220005 [(aj 0),.nil,(aj 0),.nil])),bn 4 5 25,G 6 26] (U [(aB 28 (.fe 220028 false [(aj 0),(aj 0)] 1 2 [(0,1,(.c (aj 10))),(1,1,(.c (aj 0)))])),(aB 29 (.call GD [])),(aB 30 (.call Bz [(.t 28),(.t 29),(.c (aj 2))])),G 27 30,bB 31 0 27,bB 32 1 27,(aB 7 (.alloc 220007 [(aj 0),.nil,(aj 0),.nil])),bn 4 7 31,G 8 32] (fM [bz 33 4 1,(aB 34 (.call zN [(.c (aj 20))])),(cA 35 DG 33 34),G 36 35,⟨some 37,some (36,true),.b6 (.t 2)⟩,⟨some 38,some (36,true),.bin .eql (.t 37) (.c (aj 0))⟩,fx 39 36 38,G 40 39,⟨some 41,some (40,true),.load 4 true (.t 3)⟩,⟨some 42,some (40,true),.call zN [(.c (aj 15))]⟩,⟨some 43,some (40,true),.call DG [(.t 41),(.t 42)]⟩,fx 44 40 43,G 45 44,⟨some 46,some (45,true),.b6 (.t 4)⟩,⟨some 47,some (45,true),.bin .eql (.t 46) (.c (aj 0))⟩,fx 48 45 47,G 49 48,⟨some 50,some (49,true),.load 4 true (.t 5)⟩,⟨some 51,some (49,true),.call zN [(.c (aj 0))]⟩,⟨some 52,some (49,true),.call DG [(.t 50),(.t 51)]⟩,fx 53 49 52,G 54 53,⟨some 55,some (54,true),.b6 (.t 6)⟩,⟨some 56,some (54,true),.bin .eql (.t 55) (.c (aj 0))⟩,fx 57 54 56,G 58 57,⟨some 59,some (58,true),.b6 (.t 8)⟩,⟨some 60,some (58,true),.bin .eql (.t 59) (.c (aj 1))⟩,fx 61 58 60,G 0 61] aft .ret))))))
def aan:bN:=ca 21 3 [.t 6] (U [eM 6] (U [(aB 8 (.fe 222008 true [] 1 0 [])),G 9 0,(aB 10 (.app 222010 [(aj 0)] 8 (.t 8) (.t 9))),G 7 10] (U [G 11 7,G 12 1,G 13 7,G 14 1,bW 15 1 13 14,aY 16 1 15,G 17 2,bq 18 .add 16 17,bW 19 1 11 12,bn 1 19 18] (.seq (.ghost (.freeze 7) (.ops [G 20 7,G 6 20])) .ret))))
def aao:bN:=ca 11 1 [.cell 2 4 true] (U [(aB 2 (.alloc 223002 [(aj 0),.nil,(aj 0),.nil]))] (U [G 6 0,(aB 7 (.call Uu [(.t 6),(.c (aj 1))])),G 5 7,bB 8 0 5,bB 9 1 5,(aB 3 (.alloc 223003 [(aj 0),.nil,(aj 0),.nil])),bn 4 3 8,G 4 9] (U [bz 10 4 3,bn 4 2 10] .ret)))
def aap:bN:=ca 4 0 [.t 0] (U [eM 0] (U [(aB 1 (.build [(aj 0),(aj 0),(aj 0),(aj 0)] [(0,1,(.c (aj 0))),(1,1,(.c (aj 1))),(3,1,(.c (aj 30)))])),(aB 2 (.build [(aj 0),(aj 0),(aj 0),(aj 0)] [(0,1,(.c (aj 1))),(1,1,(.c (.J (.int .i64 (-1))))),(3,1,(.c (aj 25)))])),(aB 3 (.fe 237003 false [(aj 0),(aj 0),(aj 0),(aj 0),(aj 0),(aj 0),(aj 0),(aj 0)] 4 2 [(0,4,(.t 1)),(4,4,(.t 2))])),G 0 3] .ret))
def aaq:bN:=ca 49 3 [.t 6] (U [dO 4 267004 1,cP 6 false] (.seq (U [bp 7 0] (.block 0 (.loop  (.seq (U [G 8 7,G 9 0,ct 10 9,bq 11 .lss 8 10,G 12 11,⟨some 13,some (12,true),.b6 (.t 7)⟩,⟨some 14,some (12,true),.ei 1 (.t 4)⟩,⟨some 15,some (12,true),.load 1 false (.t 14)⟩,⟨some 16,some (12,true),.len (.t 15)⟩,⟨some 17,some (12,true),.bin .lss (.t 13) (.t 16)⟩,fx 18 12 17] (a2 18 .skip (.exit 0))) (.seq (.block 1 (fM [G 21 0,G 22 7,bW 23 4 21 22,bj 24 0 23,aY 25 1 24,G 26 2,bq 27 .eql 25 26,G 28 27,⟨some 29,some (28,true),.ei 1 (.t 4)⟩,⟨some 30,some (28,true),.load 1 false (.t 29)⟩,⟨some 31,some (28,true),.b6 (.t 7)⟩,⟨some 32,some (28,true),.jy 4 (.t 30) (.t 31)⟩,⟨some 33,some (28,true),.load 4 true (.t 32)⟩,⟨some 34,some (28,true),.b6 (.t 0)⟩,⟨some 35,some (28,true),.b6 (.t 7)⟩,⟨some 36,some (28,true),.jy 4 (.t 34) (.t 35)⟩,⟨some 37,some (28,true),.ei 3 (.t 36)⟩,⟨some 38,some (28,true),.load 1 false (.t 37)⟩,⟨some 39,some (28,true),.call zN [(.t 38)]⟩,⟨some 40,some (28,true),.call DG [(.t 33),(.t 39)]⟩,⟨some 41,some (28,true),.un .not (.t 40)⟩,fx 42 28 41] afs (a2 42 (U [cP 6 false] .ret) .skip))) (.ops [G 19 7,a9 20 .add 19 1,G 7 20])))))) (U [bj 43 1 4,aY 44 1 43,ct 45 44,G 46 0,ct 47 46,bq 48 .eql 45 47,G 6 48] .ret)))
def aar:bN:=ca 100 4 [.t 8] (U [cP 8 false] (U [(aB 16 (.call UO [])),G 9 16] (.seq (U [G 17 0,G 18 1,(cA 19 UN 17 18),fy 20 19,G 21 20,⟨some 22,some (21,false),.b6 (.t 2)⟩,⟨some 23,some (21,false),.bin .lss (.t 22) (.c (aj 0))⟩,ed 24 21 23,G 25 24,⟨some 26,some (25,false),.b6 (.t 2)⟩,⟨some 27,some (25,false),.b6 (.t 0)⟩,⟨some 28,some (25,false),.len (.t 27)⟩,⟨some 29,some (25,false),.bin .geq (.t 26) (.t 28)⟩,ed 30 25 29,G 31 30,⟨some 32,some (31,false),.b6 (.t 3)⟩,⟨some 33,some (31,false),.bin .lss (.t 32) (.c (aj 0))⟩,ed 34 31 33,G 35 34,⟨some 36,some (35,false),.b6 (.t 3)⟩,⟨some 37,some (35,false),.bin .gtr (.t 36) (.c (aj 1000000000000000))⟩,ed 38 35 37] (a2 38 (U [G 39 9,G 8 39] .ret) .skip)) (U [G 41 0,G 42 1,G 43 2,(vF 44 Bz 41 42 43),G 40 44,bB 45 0 40,bB 46 1 40,(aB 10 (.alloc 285010 [(aj 0),.nil,(aj 0),.nil])),bn 4 10 45,G 11 46] (.seq (U [G 47 11,a9 48 .neq 47 0] (a2 48 (U [G 49 9,G 8 49] .ret) .skip)) (U [G 50 0,G 51 2,G 52 3,(vF 53 UP 50 51 52),G 12 53] (U [G 55 12,G 56 1,(cA 57 KS 55 56),G 54 57,bB 58 0 54,bB 59 1 54,(aB 13 (.alloc 285013 [.nil,.nil,.nil])),bn 3 13 58,G 14 59] (.seq (U [G 60 14,a9 61 .neq 60 0] (a2 61 (U [G 62 9,G 8 62] .ret) .skip)) (.seq (U [bj 63 0 13,aY 64 1 63,ct 65 64,G 66 0,ct 67 66,bq 68 .neq 65 67,G 69 68,⟨some 70,some (69,false),.ei 0 (.t 10)⟩,⟨some 71,some (69,false),.ei 0 (.t 70)⟩,⟨some 72,some (69,false),.load 1 false (.t 71)⟩,⟨some 73,some (69,false),.bin .lss (.t 72) (.c (aj 0))⟩,ed 74 69 73] (a2 74 (U [cP 8 false] .ret) .skip)) (U [G 75 12,G 76 1,bz 77 3 13,(vF 78 U2 75 76 77),G 15 78] (fM [G 79 9,G 80 79,⟨some 81,some (80,true),.b6 (.t 1)⟩,⟨some 82,some (80,true),.load 3 true (.t 13)⟩,⟨some 83,some (80,true),.b6 (.t 2)⟩,⟨some 84,some (80,true),.call U1 [(.t 81),(.t 82),(.t 83)]⟩,⟨some 85,some (80,true),.b6 (.t 3)⟩,⟨some 86,some (80,true),.call zN [(.t 85)]⟩,⟨some 87,some (80,true),.load 4 true (.t 10)⟩,⟨some 88,some (80,true),.call nu [(.t 86),(.t 87)]⟩,⟨some 89,some (80,true),.bin .geq (.t 88) (.c (aj 0))⟩,⟨some 90,some (80,true),.beq false (.t 84) (.t 89)⟩,fx 91 80 90,G 92 91,⟨some 93,some (92,true),.b6 (.t 15)⟩,⟨some 94,some (92,true),.bin .eql (.t 93) (.c (aj 0))⟩,⟨some 95,some (92,true),.b6 (.t 94)⟩,⟨some 96,some (95,false),.b6 (.t 15)⟩,⟨some 97,some (95,false),.bin .eql (.t 96) (.c (aj 6))⟩,⟨some 98,some (92,true),.pick (.t 95) (.c (.J (.bool true))) (.t 97)⟩,fx 99 92 98,G 8 99] afs .ret)))))))))))
def b4 (c:aq):List Data:=[.int .i64 c.1,.int .i64 c.2.1,.int .i64 c.2.2.1,.int .i64 c.2.2.2]
theorem AA (c:aq):(b4 c).length=4:=rfl
theorem Re (c:aq):((b4 c).map R.J).all R.one=true:=rfl
theorem rZ:∀a b:aq,b4 a=b4 b->a=b:=by
 rintro⟨cT,c7,dZ,fm⟩ ⟨dh,eK,kd,mh⟩ h;simp only[b4,ba,Data.int.injEq,true_and,and_true] at h;obtain⟨rfl,rfl,rfl,rfl⟩:=h
 rfl
theorem axQ {cs:List aq}{i:Nat}{c:aq}(h:cs[i]?=some c)(aQ:aq->Int):cv (cs.take (i+1)) aQ=cv (cs.take i) aQ+aQ c:=by
 rw[hv,h,My];simp[cv]
def Im (cs:List aq):Prop:=D cs<=2000/\∀c∈cs,0<=c.2.2.2/\c.2.2.2<=1000000000000000
theorem Im.sum {cs:List aq}(h:Im cs)(p:aq->Prop)[DecidablePred p](i:Nat):0<=cv (cs.take i) (λc=>if p c then c.2.2.2 else 0)/\cv (cs.take i) (λc=>if p c then c.2.2.2 else 0)<=2000000000000000000:=by
 have F:=H9 (cs:=cs.take i) (aQ:=λc=>if p c then c.2.2.2 else 0) (B:=1000000000000000) (by omega) λc H=>by
  have:=h.2 c (List.mem_of_mem_take H)
  try dsimp only
  split<;>omega
 have I:=h.1;have af:(cs.take i).length<=D cs:=by rw[gf];omega
 omega
theorem ajJ {E:List Int}{cs:List aq}(h:hL E cs=true):Im cs :=
 ⟨(gd.1 h).2.1,λc H=>⟨((gd.1 h).2.2.2 c H).2.2.2.2.2.2.1,((gd.1 h).2.2.2 c H).2.2.2.2.2.2.2⟩⟩
theorem Rf {n:Int}(h:dw n):hz (bQ n) (bQ 1)=(au (n:Rat),0):=by
 rw[Aa (yG h) (by decide +kernel) (by decide),MG,show ((1:Int):Rat)=1 from rfl,show (n:Rat)/1=n by grind]
def wj:=ck vH λ(n:Int)=>cR (dw n) (.same (.agg (aH (au (n:Rat)))))
@[go_sem] theorem CD (n:Int)(H:dw n):wj [.int .i64 n]=some (.same (.agg (aH (au (n:Rat))))):=(cx yq n).trans (cW H _)
theorem axR (T:bd)(hB:T vw=aW B1)(n:Int)(H:dw n):WP T Xv (.same (.agg (aH (au (n:Rat))))) [.J (.int .i64 n)]:=by
 refine cy ?_;simp only[Xv];have F:dw 1:=by unfold dw;omega
 have h:=Rf H;generalize au (n:Rat)=aQ at *;obtain⟨⟨a,b⟩,⟨c,d⟩⟩:=aQ;simp only[go_sem,go_sem_proc,hB,H,F,h,ew,aH];repeat' (first|refine aw ?_ ?_|fail)<;>intro h<;>simp only[h,go_sem,go_sem_proc,hB,H,F,h,ew,aH]
def Io:=ck vH λ(n:Int)=>cR (dw n) (.same (.agg (aH (au (n:Rat)))))
@[go_sem] theorem axS (n:Int)(H:dw n):Io [.int .i64 n]=some (.same (.agg (aH (au (n:Rat))))):=(cx yq n).trans (cW H _)
theorem axT (T:bd)(hB:T vw=aW B1)(n:Int)(H:dw n):WP T aak (.same (.agg (aH (au (n:Rat))))) [.J (.int .i64 n)]:=by
 refine cy ?_;simp only[aak];have F:dw 1:=by unfold dw;omega
 have h:=Rf H;generalize au (n:Rat)=aQ at *;obtain⟨⟨a,b⟩,⟨c,d⟩⟩:=aQ;simp only[go_sem,go_sem_proc,hB,H,F,h,ew,aH];repeat' (first|refine aw ?_ ?_|fail)<;>intro h<;>simp only[h,go_sem,go_sem_proc,hB,H,F,h,ew,aH]
def Ip:=ck vH λ(n:Int)=>cR (dw n) (.same (.agg (aH (au (n:Rat)))))
@[go_sem] theorem axU (n:Int)(H:dw n):Ip [.int .i64 n]=some (.same (.agg (aH (au (n:Rat))))):=(cx yq n).trans (cW H _)
theorem axV (T:bd)(ajK:T Uu=aW YF)(n:Int)(H:dw n):WP T aao (.same (.agg (aH (au (n:Rat))))) [.J (.int .i64 n)]:=by
 refine cy ?_;simp only[aao];have F:dw 1:=by unfold dw;omega
 have h:=Rf H;generalize au (n:Rat)=aQ at *;obtain⟨⟨a,b⟩,⟨c,d⟩⟩:=aQ;simp only[go_sem,go_sem_proc,ajK,H,F,h,ew,aH];repeat' (first|refine aw ?_ ?_|fail)<;>intro h<;>simp only[h,go_sem,go_sem_proc,ajK,H,F,h,ew,aH]
def nK (m:Int):Bool:=!(decide (m>1000000)&&decide (m<=1000000000000000))
def y1 (E:List Int)(cs:List aq):Bool:=!(decide ((D E:Int)>5))&&(!(decide ((D cs:Int)>12))&&(E.all nK&&cs.all λc=>nK c.2.2.2))
abbrev Iq:(List Int)×(List aq)->List Data:=λ(E,cs)=>[.Y (E.map ae),.Y (cs.map b4)]
def aas:=ck Iq λ(E,cs)=>some (.same (.bool (y1 E cs)))
theorem Rg:∀a b,Iq a=Iq b->a=b:=by
  rintro⟨uK,uL⟩ ⟨uM,n1⟩ h;simp only[ba,Data.Y.injEq] at h;exact dT (map_inj fp _ _ h.1) (map_inj rZ _ _ h.2.1)
@[go_sem] theorem axW (E:List Int)(cs:List aq):aas [.Y (E.map ae),.Y (cs.map b4)]=some (.same (.bool (y1 E cs))):=cx Rg (E,cs)
theorem axX (T:bd)  (E:List Int) (cs:List aq):WP T aah (.same (.bool (y1 E cs))) [.J (.Y (E.map ae)),.J (.Y (cs.map b4))]:=by
 refine cy ?_;simp only[aah];unfold y1;rcases aC:decide ((D E:Int)>5)
 ·rcases aD:decide ((D cs:Int)>12)
  ·have dW:(D E)<=5:=by have:=of_decide_eq_false aC;omega
   have ak:(D cs)<=12:=by have:=of_decide_eq_false aD;omega
   simp only[go_sem,go_sem_proc,aC,aD,al];refine dn [0,1] [] (λ(i:Nat) tm mem=>i<=D E/\(E.take i).all nK=true/\tm 5=.J (.int .i64 i)) (λi=>D E-i) 0 (by refine⟨by omega,by simp,rfl⟩) ?_;intro vs ms aV aS;simp only[go_sem,go_sem_proc,al] at aV aS;subst aV aS;rintro i tm mem O hm ⟨M,aI,bm⟩;simp only[go_sem,go_sem_proc,ba] at O;obtain⟨ao,F⟩:=O;rcases dA (i<D E) with ay|cj
   ·obtain⟨x,Q⟩:∃c,E[i]?=some c:=⟨_,bx ay⟩;have d1:decide ((i:Int)<(D E:Int))=true:=di;have bX:=ff (i:=i) (by omega);rcases aJ:decide (x>1000000)
    ·have H:nK x=true:=by unfold nK;rw[aJ];rfl
     refine a0 ?_;repeat' (intro h<;>simp only[h,go_sem,go_sem_proc,ao,F,bm,Q,d1,bX,aJ,ae,al,bl]<;>try refine aw ?_ ?_)
     exact⟨i+1,by omega,by omega,by rw[HB Q,aI,H];rfl,rfl⟩
    ·rcases c2:decide (x<=1000000000000000)
     ·have H:nK x=true:=by unfold nK;rw[aJ,c2];rfl
      refine a0 ?_;repeat' (intro h<;>simp only[h,go_sem,go_sem_proc,ao,F,bm,Q,d1,bX,aJ,c2,ae,al,bl]<;>try refine aw ?_ ?_)
      exact⟨i+1,by omega,by omega,by rw[HB Q,aI,H];rfl,rfl⟩
     ·have H:nK x=false:=by unfold nK;rw[aJ,c2];rfl
      rw[ahq Q H];refine a0 ?_;repeat' (intro h<;>simp only[h,go_sem,go_sem_proc,ao,F,bm,Q,d1,bX,aJ,c2,ae,al,bl,dt,gW,fS]<;>try refine aw ?_ ?_)
   ·have d1:decide ((i:Int)<(D E:Int))=false:=c9;have EV:E.all nK=true:=by rw[dy (by omega)] at aI;exact aI
    rw[EV];simp only[go_sem,go_sem_proc,ao,F,bm,d1,al];refine dn [1] [] (λ(i:Nat) tm mem=>i<=D cs/\(cs.take i).all (λc=>nK c.2.2.2)=true/\tm 6=.J (.int .i64 i)) (λi=>D cs-i) 0 (by refine⟨by omega,by simp,rfl⟩) ?_;intro vs ms aV aS;simp only[go_sem,go_sem_proc,al,F] at aV aS;subst aV aS;clear ao F bm hm;rintro i tm mem O hm ⟨M,aI,bK⟩;simp only[go_sem,go_sem_proc,ba] at O;have F:=O;rcases dA (i<D cs) with ay|cj
    ·obtain⟨⟨a,b,k,x⟩,Q⟩:∃c,cs[i]?=some c:=⟨_,bx ay⟩;have d1:decide ((i:Int)<(D cs:Int))=true:=di;have bX:=ff (i:=i) (by omega);rcases aJ:decide (x>1000000)
     ·have H:nK x=true:=by unfold nK;rw[aJ];rfl
      refine a0 ?_;repeat' (intro h<;>simp only[h,go_sem,go_sem_proc,F,bK,Q,d1,bX,aJ,b4,al,bl]<;>try refine aw ?_ ?_)
      exact⟨i+1,by omega,by omega,by rw[HB Q,aI];exact H,rfl⟩
     ·rcases c2:decide (x<=1000000000000000)
      ·have H:nK x=true:=by unfold nK;rw[aJ,c2];rfl
       refine a0 ?_;repeat' (intro h<;>simp only[h,go_sem,go_sem_proc,F,bK,Q,d1,bX,aJ,c2,b4,al,bl]<;>try refine aw ?_ ?_)
       exact⟨i+1,by omega,by omega,by rw[HB Q,aI];exact H,rfl⟩
      ·have H:nK x=false:=by unfold nK;rw[aJ,c2];rfl
       rw[ahq (p:=λc:aq=>nK c.2.2.2) Q H];refine a0 ?_;repeat' (intro h<;>simp only[h,go_sem,go_sem_proc,F,bK,Q,d1,bX,aJ,c2,b4,al,bl,dt,gW]<;>try refine aw ?_ ?_)
    ·have d1:decide ((i:Int)<(D cs:Int))=false:=c9;have EV:cs.all (λc=>nK c.2.2.2)=true:=by rw[dy (by omega)] at aI;exact aI
     rw[EV];refine a0 ?_;repeat' (intro h<;>simp only[h,go_sem,go_sem_proc,F,bK,d1,al,dt,gW]<;>try refine aw ?_ ?_)
  ·refine a0 ?_;repeat' (intro h<;>simp only[h,go_sem,go_sem_proc,aC,aD,al,cK,fS,h6]<;>try refine aw ?_ ?_)
 ·refine a0 ?_;repeat' (intro h<;>simp only[h,go_sem,go_sem_proc,aC,al,cK,fS]<;>try refine aw ?_ ?_)
theorem axY {x:List Data}(h:Fits [.int .i64,.int .i64,.int .i64,.int .i64] x):∃c:aq,x=b4 c:=by
 simp only[Fit,Fits] at h;obtain⟨_,_,rfl,⟨a,rfl,-⟩,_,_,rfl,⟨b,rfl,-⟩,_,_,rfl,⟨c,rfl,-⟩,_,_,rfl,⟨d,rfl,-⟩,rfl⟩:=h;exact⟨(a,b,c,d),rfl⟩
theorem axZ {es:List (List Data)}(h:∀x∈es,Fit (.st [.int .i64,.int .i64,.int .i64,.int .i64]) x):∃l:List aq,es=l.map b4:=by
 obtain⟨l,e,-⟩:=Uo (e:=b4) (good:=λ_=>True) λx Q=>by
  have:=h x Q;unfold Fit at this;obtain⟨c,rfl⟩:=axY this;exact⟨c,rfl,trivial⟩
 exact⟨l,e⟩
end Go.Mini
namespace Go.Mini
open Classical
structure Alike (d e:Day):Prop where
 n:d.n=e.n
 E:d.E=e.E
 mem:∀c,c∈d.cF↔c∈e.cF
 sum:∀aQ,b8 d.cF aQ=b8 e.cF aQ
theorem Alike.symm {d e:Day}(h:Alike d e):Alike e d:=⟨h.n.symm,h.E.symm,λc=>(h.mem c).symm,λaQ=>(h.sum aQ).symm⟩
section
variable {d e:Day} (h:Alike d e)
include h
theorem Alike.bt:d.bt=e.bt:=by funext k r;exact h.sum _
theorem Alike.S:d.S=e.S:=by funext k r;exact h.sum _
theorem Alike.w:d.w=e.w:=by funext c;unfold Day.w;rw[h.S]
theorem Alike.q:d.q=e.q:=by funext f x c;unfold Day.q;rw[h.bt,h.w]
theorem Alike.l:d.l=e.l:=by funext f P x c;unfold Day.l;rw[h.bt,h.w]
theorem Alike.fA:d.fA=e.fA:=by funext x c;unfold Day.fA;rw[h.bt,h.w]
theorem Alike.eZ:d.eZ=e.eZ:=by funext a i;unfold Day.eZ;rw[h.E,h.sum]
theorem Alike.pr:d.pr=e.pr:=by funext x i;unfold Day.pr;rw[h.eZ,h.fA]
theorem Alike.gj:d.gj=e.gj:=by funext C x;unfold Day.gj;rw[h.n]
theorem Alike.cap:d.cap=e.cap:=by funext f g C k;unfold Day.cap;rw[h.bt]
theorem Alike.closed (f:Nat->Nat)(C:Nat->Prop):d.closed f C↔e.closed f C:=by
 unfold Day.closed;exact⟨λk c H=>k c ((h.mem c).2 H),λk c H=>k c ((h.mem c).1 H)⟩
theorem Alike.inv {f:Nat->Nat}{g:Nat->Rat}(a:Inv d f g):Inv e f g:=by
 obtain⟨F,I,af,aO,bm⟩:=a;refine⟨F,λi M=>?_,λi M aI=>?_,λi M aI=>?_,λC gO ax0 ax1=>?_⟩
 ·have:=I i (by rw[h.n];exact M);rwa [h.eZ,h.q] at this
 ·have:=af i (by rw[h.n];exact M) aI;rwa [h.bt] at this
 ·have:=aO i (by rw[h.n];exact M) aI;rwa [h.bt] at this
 ·have:=bm C gO (λi M=>by rw[h.n];exact ax0 i M) ((h.closed f C).2 ax1);rwa [h.gj,h.eZ,h.q,h.cap,h.bt] at this
theorem Alike.ok (a:d.de):e.de:=⟨λc H=>by rw[<-h.n];exact a.aE c ((h.mem c).2 H),λc H=>by rw[<-h.n];exact a.to c ((h.mem c).2 H),λc H=>a.br c ((h.mem c).2 H),λc H=>a.am c ((h.mem c).2 H),λi M=>by rw[<-h.E];exact a.E i (by rw[h.n];exact M)⟩
theorem Alike.ajL {f:Nat->Nat}{x:Nat->Rat}(a:nJ d f x):nJ e f x:=by
 obtain⟨g,F,I,af⟩:=a;refine⟨g,h.inv F,λi M=>?_,λi M=>af i (by rw[h.n];exact M)⟩;have:=I i (by rw[h.n];exact M);rwa [h.eZ,h.q] at this
theorem Alike.ax2:nJ d=nJ e:=by
 funext f x
 exact propext ⟨h.ajL,h.symm.ajL⟩
theorem Alike.top:d.top=e.top:=by
 funext f
 unfold Day.top;rw[h.ax2]
theorem Alike.ib:d.ib=e.ib:=by
 funext f
 unfold Day.ib;rw[h.top,h.bt,h.n]
theorem Alike.jJ:d.jJ=e.jJ:=by
 funext x i k
 induction k with
 |zero=>rfl
 |succ k az=>unfold Day.jJ;rw[h.bt,az]
theorem Alike.gH:d.gH=e.gH:=by
 funext f x i
 unfold Day.gH;rw[h.n,h.bt,h.jJ]
theorem Alike.rounds:d.rounds=e.rounds:=by
 funext k
 induction k with
 |zero=>funext f;rfl
 |succ k az =>
  funext f
  unfold Day.rounds;rw[h.ib,h.gH,h.top,az]
end
def df (cs:List aq)(i k:Nat):List aq:=cs.filter λc=>c.1==(i:Int)&&c.2.2.1==(k:Int)
theorem EW {cs:List aq}{i k:Nat}{c:aq}:c∈df cs i k↔c∈cs/\c.1=(i:Int)/\c.2.2.1=(k:Int):=by
 unfold df;rw[s9,e4,beq_iff_eq,beq_iff_eq]
def du (n:Nat)(cs:List aq):List aq:=(dS n).flatMap λi=>(dS 10).flatMap λk=>df cs i k
theorem ax3 (cs:List aq)(i k j r:Nat):df (df cs i k) j r=if i=j/\k=r then df cs i k else []:=by
 unfold df;rw[List.filter_filter]
 by_cases h:i=j/\k=r
 ·obtain⟨rfl,rfl⟩:=h;rw[ad ⟨rfl,rfl⟩]
  congr 1
  funext c
  simp
 ·rw[ag h,Ir];intro c _;simp only[e4,beq_iff_eq];rintro⟨⟨F,I⟩,af,aO⟩;exact h ⟨by omega,by omega⟩
theorem ajM {α:Type}{n i:Nat}(M:i<n)(aQ:Nat->List α)(h:∀k,k<n->k≠i->aQ k=[]):(dS n).flatMap aQ=aQ i:=by
 induction n with
 |zero=>omega
 |succ n az =>
  rw[oS,y2,qy,CE,fC]
  by_cases aL:i=n
  ·subst aL
   have:(dS i).flatMap aQ=[]:=by
    rw[ajN];intro k O;have:=ha.1 O;exact h k (by omega) (by omega)
   rw[this,jo]
  ·rw[az (by omega) λk O=>h k (by omega),h n (by omega) (Ne.symm aL),fC]
theorem ajO {α:Type}(l:List α)(aQ:α->List aq)(i k:Nat):df (l.flatMap aQ) i k=l.flatMap λx=>df (aQ x) i k:=by
 unfold df
 induction l with
 |nil=>rfl
 |cons a l az=>rw[qy,qy,p8,az]
theorem ajP {n i k:Nat}(cs:List aq)(M:i<n)(O:k<10):df (du n cs) i k=df cs i k:=by
 unfold du;rw[ajO];simp only[ajO,ax3];rw[ajM M,ajM O]
 ·rw[ad ⟨rfl,rfl⟩]
 ·intro r _ ab;rw[ag λh=>ab h.2]
 ·intro j _ ai;rw[ajN];intro r _;rw[ag λh=>ai h.1]
theorem ajQ {n:Nat}{a b:List aq}(h:∀i,i<n->∀k,k<10->df a i k=df b i k):du n a=du n b:=by
 unfold du;rw[y3,y3]
 congr 1
 refine lY λi M=>?_;rw[y3,y3]
 congr 1
 exact lY λk O=>h i (ha.1 M) k (ha.1 O)
theorem ax4 (n:Nat)(cs:List aq):du n (du n cs)=du n cs:=ajQ λ_ M _ O=>ajP cs M O
theorem aat {n:Nat}{cs:List aq}(ab:∀c∈cs,0<=c.1/\c.1<n/\0<=c.2.2.1/\c.2.2.1<10){c:aq}:c∈du n cs↔c∈cs:=by
 unfold du;simp only[yd,ha,EW]
 constructor
 ·rintro⟨i,-,k,-,h,-⟩;exact h
 ·intro H;have:=ab c H;exact⟨c.1.toNat,by omega,c.2.2.1.toNat,by omega,H,by omega,by omega⟩
theorem MP (a b:List eg)(aQ:eg->Rat):b8 (a++b) aQ=b8 a aQ+b8 b aQ:=by
 induction a with
 |nil=>simp only[jo,b8];grind
 |cons c l az=>rw[jW,b8,b8,az];grind
theorem ajR (aQ:Nat->List aq)(bL:eg->Rat)(n:Nat):b8 (((dS n).flatMap aQ).map cC) bL=bH n λi=>b8 ((aQ i).map cC) bL:=by
 induction n with
 |zero=>rfl
 |succ n az=>rw[oS,y2,kR,MP,az,bH,qy,CE,fC]
theorem ax5 {l:List eg}(ar:∀c∈l,c.br<10)(b:Nat->eg->Rat):bH 10 (λk=>b8 l (λc=>if c.br=k then b k c else 0))=b8 l (λc=>b c.br c):=by
 induction l with
 |nil=>exact s5 λk _=>rfl
 |cons c l az =>
  rw[b8,<-az λx Q=>ar x (gx _ Q)];have e:(λk:Nat=>b8 (c::l) (λc=>if c.br=k then b k c else 0))=λk=>(if c.br=k then b k c else 0)+b8 l (λc=>if c.br=k then b k c else 0):=rfl;rw[e,wc]
  congr 1
  rw[yY (ar c fZ) λk _ O=>ag (Ne.symm O),ad rfl]
theorem aau {cs:List aq}(ab:∀c∈cs,0<=c.1/\0<=c.2.2.1)(i k:Nat)(bL:eg->Rat):b8 ((df cs i k).map cC) bL=b8 (cs.map cC) λc=>if c.aE=i/\c.br=k then bL c else 0:=by
 induction cs with
 |nil=>rfl
 |cons c l az =>
  have ao:=ab c fZ;have az:=az λx Q=>ab x (gx _ Q);unfold df at az ⊢;rw[eG,b8,<-az]
  by_cases h:(cC c).aE=i/\(cC c).br=k
  ·obtain⟨F,I⟩:=h;have aC:c.1=(i:Int):=by have:c.1.toNat=i:=F;omega
   have aD:c.2.2.1=(k:Int):=by have:c.2.2.1.toNat=k:=I;omega
   rw[qX (by simp[aC,aD]),eG,b8,ad ⟨F,I⟩]
  ·rw[ag h,r0,wi];intro ah;rw[e4,beq_iff_eq,beq_iff_eq] at ah;refine h ⟨?_,?_⟩
   ·show c.1.toNat=i;omega
   ·show c.2.2.1.toNat=k;omega
theorem ajS {n:Nat}{cs:List aq}(ab:∀c∈cs,0<=c.1/\c.1<n/\0<=c.2.2.1/\c.2.2.1<10)(bL:eg->Rat):b8 ((du n cs).map cC) bL=b8 (cs.map cC) bL:=by
 unfold du;rw[ajR]
 have bT:∀c∈cs.map cC,c.aE<n:=λc H=>by
  obtain⟨x,Q,rfl⟩:=ek.1 H;have:=ab x Q;show x.1.toNat<n;omega
 have hZ:∀c∈cs.map cC,c.br<10:=λc H=>by
  obtain⟨x,Q,rfl⟩:=ek.1 H;have:=ab x Q;show x.2.2.1.toNat<10;omega
 have e:(λi=>b8 (((dS 10).flatMap λk=>df cs i k).map cC) bL)=λi=>b8 (cs.map cC) λc=>if c.aE=i then bL c else 0:=by
  funext i
  rw[ajR,<-ax5 hZ λ_ c=>if c.aE=i then bL c else 0]
  congr 1
  funext k
  rw[aau λc H=>⟨(ab c H).1,(ab c H).2.2.1⟩];refine rQ λc _=>?_
  by_cases F:c.br=k
  ·rw[ad F]
   by_cases I:c.aE=i
   ·rw[ad ⟨I,F⟩,ad I]
   ·rw[ag λh=>I h.1,ag I]
  ·rw[ag F,ag λh=>F h.2]
 rw[e,Zv bT λ_ c=>bL c]
theorem ajT {E:List Int}{cs:List aq}(h:hL E cs=true):Alike (ax E cs) (ax E (du (D E) cs)):=by
 have ab:∀c∈cs,0<=c.1/\c.1<D E/\0<=c.2.2.1/\c.2.2.1<10:=λc H=>by
  have:=(gd.1 h).2.2.2 c H;exact⟨this.1,this.2.1,this.2.2.2.2.1,this.2.2.2.2.2.1⟩
 refine⟨rfl,rfl,λc=>?_,λaQ=>(ajS ab aQ).symm⟩;show c∈cs.map cC↔c∈(du (D E) cs).map cC;rw[ek,ek];simp only[aat ab]
theorem ajU {n:Nat}{cs:List aq}(ab:∀c∈cs,0<=c.1/\c.1<n/\0<=c.2.2.1/\c.2.2.1<10):(du n cs).length=D cs:=by
 have F:∀l:List aq,b8 (l.map cC) (λ_=>1)=(D l:Rat):=λl=>by
  induction l with
  |nil=>rfl
  |cons a l az=>rw[eG,b8,az,hN,Rat.natCast_add,Rat.add_comm];rfl
 have:=ajS ab λ_=>1;rw[F,F] at this;exact_mod_cast this
theorem aav {E:List Int}{cs:List aq}(h:eI E cs):eI E (du (D E) cs):=by
 have iv:=gd.1 h.right
 have ab:∀c∈cs,0<=c.1/\c.1<D E/\0<=c.2.2.1/\c.2.2.1<10:=λc H=>by
  have:=iv.2.2.2 c H;exact⟨this.1,this.2.1,this.2.2.2.2.1,this.2.2.2.2.2.1⟩
 refine⟨gd.2 ⟨iv.1,by rw[ajU ab];exact iv.2.1,iv.2.2.1,λc H=>iv.2.2.2 c ((aat ab).1 H)⟩,h.jv,by rw[ajU ab];exact h.p7,λc H=>h.am c ((aat ab).1 H)⟩
end Go.Mini
namespace Go.Mini
open Classical
def Day.hq (d:Day):Nat->Nat:=(d.rounds (10*d.n) λ_=>10).2
def Day.iQ (d:Day):List (List Nat):=(d.rounds (10*d.n) λ_=>10).1
def Day.cm (d:Day):Nat->Rat:=d.top d.hq
theorem ajV (n k:Nat):mR n (λ_=>k)=k*n:=by
 induction n with
 |zero=>rfl
 |succ n az=>rw[mR,az,Nat.mul_succ]
section
variable {d:Day} (aa:d.de)
include aa
theorem Day.de.hex:∀f,Reach d f->∃h,nJ d f h:=λ_ ab=>axs aa ab
theorem Is:Reach d d.hq/\d.ib d.hq=[]:=ais aa aa.hex (10*d.n) (λ_=>10) (Reach.start aa) (by rw[ajV];exact bZ _)
theorem It:nJ d d.hq d.cm:=Day.Cs (aa.hex _ (Is aa).1)
theorem Rh:∀i,i<d.n->d.bt i (d.hq i)<=d.cm i:=by
 intro i M;apply me;intro aL;have:i∈d.ib d.hq:=Day.Mv.2 ⟨M,by unfold Day.cm at aL;grind⟩
 rw[(Is aa).2] at this
 cases this
theorem xB:(∀i,i<d.n->d.cm i=d.pr d.cm i)/\∀i,i<d.n->(d.hq i<10↔d.cm i<d.bt i 10):=by
 obtain⟨g,F,I,af⟩:=It aa;exact F.final aa I af (Rh aa)
theorem ajW {z:Nat->Rat}(aX:∀i,i<d.n->z i<=d.pr z i):∀i,i<d.n->z i<=d.cm i:=air aa aa.hex (Is aa).1 aX
theorem Iu {i:Nat}(M:i<d.n):0<=d.cm i:=(It aa).QW aa M
end
theorem ajX {d e:Day}(dq:e.cF=d.cF):e.bt=d.bt:=by funext i k;unfold Day.bt;rw[dq]
theorem ax6 {d e:Day}(dq:e.cF=d.cF):e.S=d.S:=by funext i k;unfold Day.S;rw[dq]
theorem ax7 {d e:Day}(dq:e.cF=d.cF):e.w=d.w:=by funext c;unfold Day.w;rw[ax6 dq]
theorem ax8 {d e:Day}(dq:e.cF=d.cF):e.fA=d.fA:=by funext h c;unfold Day.fA;rw[ajX dq,ax7 dq]
theorem QP {d:Day}(aa:d.de)(i k:Nat):0<=d.S i k:=xw λc H=>by
 try dsimp only
 split
 ·exact aa.am c H
 ·exact gb
end Go.Mini
namespace Go.Mini
open Classical
def Day.xC (d:Day)(i r:Nat):Nat:=((dS r).filter λk=>decide (0<d.S i k)).length
theorem ax9 (d:Day)(i:Nat){r s:Nat}(h:r<=s):d.xC i r<=d.xC i s:=by
 induction s with
 |zero =>
      have:r=0:=by omega
      subst this;exact bZ _
 |succ s az =>
  by_cases ab:r=s+1
  ·rw[ab];exact bZ _
  ·have:=az (by omega);unfold Day.xC at *;rw[oS,p8,fH];omega
theorem aya (d:Day)(i:Nat){r s:Nat}(h:r<s)(cS:0<d.S i r):d.xC i r+1<=d.xC i s:=by
 have F:=ax9 d i (r:=r+1) (s:=s) (by omega);unfold Day.xC at *;rw[oS,p8,fH,qX (by simpa using cS)] at F;simp only[oR,hN,List.length_nil] at F;omega
theorem ajY (d:Day)(f:Nat->Nat):(d.ib f).Pairwise (·<·):=List.Pairwise.filter _ List.pairwise_lt_range
theorem ayb (d:Day)(f:Nat->Nat)(i:Nat):(d.ib f).count i=if i∈d.ib f then 1 else 0:=by
 have ayc:(d.ib f).Nodup:=(ajY d f).imp λh=>by omega
 rw[ayc.count]
section
variable {d:Day} (aa:d.de)
include aa
theorem ayd {f:Nat->Nat}(ab:Reach d f){i:Nat}(M:i<d.n):(i∈d.ib f->d.gH f (d.top f) i<f i/\0<d.S i (d.gH f (d.top f) i))/\(i ∉ d.ib f->d.gH f (d.top f) i=f i):=by
 have bF:=Day.Cs (aa.hex f ab);have hle:∀i,f i<=10:=by obtain⟨g,cd,-⟩:=bF;exact cd.le
 have aI:=ZI aa hle (h:=d.top f) λi cD=>bF.QW aa cD
 constructor
 ·intro hm;obtain⟨F,I⟩:=Day.Mv.1 hm;have af:=aI.2.1 i F I;refine⟨af.1,?_⟩;have aO:=d.s6 i (d.gH f (d.top f) i);grind
 ·intro hm;refine aI.2.2 i M ?_;apply me;intro aL;exact hm (Day.Mv.2 ⟨M,by grind⟩)
theorem ajZ:∀k (f:Nat->Nat),Reach d f->(∀l∈(d.rounds k f).1,l≠[]/\l.Pairwise (·<·)/\∀i∈l,i<d.n)/\∀i,i<d.n->(d.rounds k f).1.flatten.count i+d.xC i ((d.rounds k f).2 i)<=d.xC i (f i)/\((d.rounds k f).2 i<f i↔0<(d.rounds k f).1.flatten.count i)/\(d.rounds k f).2 i<=f i
 |0,f,ab=>⟨λl ar=>(by cases ar),λi M=>by simp[Day.rounds]⟩
 |k+1,f,ab=>by
  unfold Day.rounds
  by_cases bG:d.ib f=[]
  ·rw[ad bG];exact⟨λl ar=>(by cases ar),λi M=>by simp⟩
  ·rw[ag bG];obtain⟨F,I⟩:=ajZ k _ (ab.next aa aa.hex);refine⟨λl ar=>?_,λi M=>?_⟩
   ·dsimp only at ar;rcases hj.1 ar with rfl|ar
    ·exact⟨bG,ajY d f,λi M=>(Day.Mv.1 M).1⟩
    ·exact F l ar
   ·obtain⟨af,aO,bm⟩:=I i M;obtain⟨f1,f2⟩:=ayd aa ab M;dsimp only;rw[jL,List.count_append,ayb]
    by_cases hm:i∈d.ib f
    ·obtain⟨f3,f4⟩:=f1 hm;rw[ad hm];have:=aya d i f3 f4;refine⟨by omega,?_,by omega⟩
     constructor<;>intro _<;>omega
    ·have f3:=f2 hm;rw[f3] at af aO bm;rw[ag hm];refine⟨by omega,?_,by omega⟩
     rw[aO];omega
theorem aye:(∀l∈d.iQ,l≠[]/\l.Pairwise (·<·)/\∀i∈l,i<d.n)/\∀i,i<d.n->d.iQ.flatten.count i<=d.xC i 10/\(d.cm i<d.bt i 10↔0<d.iQ.flatten.count i):=by
 obtain⟨F,I⟩:=ajZ aa (10*d.n) (λ_=>10) (Reach.start aa);refine⟨F,λi M=>?_⟩;obtain⟨af,aO,bm⟩:=I i M;unfold Day.iQ;refine⟨by omega,?_⟩
 rw[<-aO,<-(xB aa).2 i M]
 rfl
omit aa in
theorem ayf {i:Nat}{x:Rat}(ao:0<=x):∀k,x<d.bt i k->∃r,r<k/\d.bt i r<=x/\x<d.bt i (r+1):=by
 intro k
 induction k with
 |zero=>intro h;rw[d.Mn] at h;grind
 |succ k az =>
  intro h
  by_cases I:x<d.bt i k
  ·obtain⟨r,af,aO⟩:=az I;exact⟨r,by omega,aO⟩
  ·exact⟨k,by omega,by grind,h⟩
theorem aj0 {i:Nat}{x:Nat->Rat}(ao:0<=x i):(∃c∈d.cF,c.aE=i/\d.fA x c<c.am)↔x i<d.bt i 10:=by
 constructor
 ·rintro⟨c,H,rfl,F⟩;apply me;intro I;have:=aa.s7 c.aE (r:=c.br+1) (s:=10) (by have:=aa.br c H;omega);unfold Day.fA at F;rw[ad (by grind)] at F;grind
 ·intro F;obtain⟨r,I,af,aO⟩:=ayf ao 10 F;have bm:=d.s6 i r;have cS:0<d.S i r:=by grind
  obtain⟨c,H,aF⟩:=Ml cS
  by_cases ht:c.aE=i/\c.br=r
  ·obtain⟨rfl,rfl⟩:=ht;rw[ad ⟨rfl,rfl⟩] at aF;refine⟨c,H,rfl,?_⟩;unfold Day.fA;rw[ag (by grind),rR (by grind)];have hw:=aa.Mo H aF;have bK:=Day.Cq cS;have bP:=Rat.mul_lt_mul_of_pos_left (show x c.aE-d.bt c.aE c.br<d.S c.aE c.br by grind) hw;grind
  ·rw[ag ht] at aF;grind
theorem aj1 (i:Nat)(k:Nat):0<d.S i k↔∃c∈d.cF,c.aE=i/\c.br=k/\0<c.am:=by
 constructor
 ·intro h;obtain⟨c,H,aF⟩:=Ml h
  by_cases ht:c.aE=i/\c.br=k
  ·rw[ad ht] at aF;exact⟨c,H,ht.1,ht.2,aF⟩
  ·rw[ag ht] at aF;grind
 ·rintro⟨c,H,rfl,rfl,aF⟩;have:=aa.QQ H;grind
end
end Go.Mini
namespace Go.Mini
open Classical
def Day.times (d:Day)(k:Rat):Day:=⟨d.n,λi=>k*d.E i,d.cF.map λc=>⟨c.aE,c.to,c.br,k*c.am⟩⟩
section
variable {d:Day} (aa:d.de) {k:Rat} (O:0<k)
include O
end
def Day.saved (d:Day)(aG:Nat):Day:=⟨d.n,λi=>d.E i+b8 d.cF λc=>if c.aE=aG/\c.to=(i:Int) then c.am else 0,d.cF.filter λc=>decide (c.aE≠aG)⟩
theorem Ri (d:Day)(aG:Nat):(d.saved aG).cF=d.cF.filter λc=>decide (c.aE≠aG):=rfl
theorem aaw (l:List eg)(p:eg->Prop)[DecidablePred p](aQ:eg->Rat):b8 (l.filter λc=>decide (p c)) aQ=b8 l λc=>if p c then aQ c else 0:=by
 induction l with
 |nil=>rfl
 |cons c l az =>
  rw[b8]
  by_cases h:p c
  ·rw[qX (by simpa using h),b8,az,ad h]
  ·rw[r0 (by simpa using h),az,ag h];grind
section
variable {d:Day} (aa:d.de) (aG:Nat)
theorem aj2 {i:Nat}(M:i≠aG)(r:Nat):(d.saved aG).bt i r=d.bt i r:=by
 unfold Day.bt;rw[Ri,aaw d.cF λc=>c.aE≠aG];refine rQ λc _=>?_
 by_cases h:c.aE=i/\c.br<r
 ·rw[ad h,ad (by omega)]
 ·rw[ag h];split<;>rfl
theorem ayg {i:Nat}(M:i≠aG)(r:Nat):(d.saved aG).S i r=d.S i r:=by
 unfold Day.S;rw[Ri,aaw d.cF λc=>c.aE≠aG];refine rQ λc _=>?_
 by_cases h:c.aE=i/\c.br=r
 ·rw[ad h,ad (by omega)]
 ·rw[ag h];split<;>rfl
include aa
theorem ayh:(d.saved aG).de:=by
 have hm:∀c∈(d.saved aG).cF,c∈d.cF:=λc H=>(s9.1 H).1;refine⟨λc H=>aa.aE c (hm c H),λc H=>aa.to c (hm c H),λc H=>aa.br c (hm c H),λc H=>aa.am c (hm c H),λi M=>?_⟩;have F:=aa.E i M
 have I:0<=b8 d.cF λc=>if c.aE=aG/\c.to=(i:Int) then c.am else 0:=xw λc H=>by
  try dsimp only
  split
  ·exact aa.am c H
  ·exact gb
 show 0<=d.E i+_;grind
theorem aj3 {e:Day}(dq:e.cF=d.cF){x y:Nat->Rat}(aL6:d.bt aG 10<=x aG)(jk:∀i,i<d.n->i≠aG->x i=y i)(i:Nat):e.pr x i=(d.saved aG).pr y i+(e.E i-d.E i):=by
 unfold Day.pr Day.eZ;rw[dq,ax8 dq];have aC:b8 (d.saved aG).cF (λc=>if c.to=(i:Int) then (d.saved aG).fA y c else 0)=b8 d.cF λc=>if c.aE≠aG then (if c.to=(i:Int) then (d.saved aG).fA y c else 0) else 0:=by rw[Ri,aaw d.cF λc=>c.aE≠aG]
 have aD:(d.saved aG).E i=d.E i+b8 d.cF λc=>if c.aE=aG/\c.to=(i:Int) then c.am else 0:=rfl;rw[aC,aD]
 have b9:b8 d.cF (λc=>if c.to=(i:Int) then d.fA x c else 0)=b8 d.cF (λc=>if c.aE=aG/\c.to=(i:Int) then c.am else 0)+b8 d.cF λc=>if c.aE≠aG then (if c.to=(i:Int) then (d.saved aG).fA y c else 0) else 0:=by
  rw[<-Mi];refine rQ λc H=>?_
  try dsimp only
  by_cases p9:c.to=(i:Int)
  ·by_cases aI:c.aE=aG
   ·rw[ad p9,ad ⟨aI,p9⟩,ag (by simpa using aI)];have:=aa.s7 c.aE (r:=c.br+1) (s:=10) (by have:=aa.br c H;omega);unfold Day.fA;rw[ad (by rw[aI] at *;grind)];grind
   ·rw[ad p9,ag λh=>aI h.1,ad aI,ad p9]
    have:d.fA x c=(d.saved aG).fA y c:=by
     unfold Day.fA Day.w;rw[aj2 aG aI,aj2 aG aI,ayg aG aI,jk _ (aa.aE c H) aI]
    rw[this];grind
  ·rw[ag p9,ag λh=>p9 h.2]
   split<;>grind
 rw[b9];grind
theorem ayi {e:Day}(he:e.de)(aL:e.n=d.n)(dq:e.cF=d.cF){m:Rat}(hm:0<=m)(aax:∀i,e.E i=d.E i+if i=aG then m else 0)(hw:aG<d.n):d.bt aG 10<=e.cm aG↔d.bt aG 10<=(d.saved aG).cm aG+m:=by
 have X:=ayh aa aG;have pV:(d.saved aG).n=d.n:=rfl
 constructor
 ·intro h
  have F:=ajW X (z:=λi=>e.cm i-if i=aG then m else 0) (λi M=>by
   rw[pV] at M;have I:=aj3 aa aG dq (x:=e.cm) (y:=λi=>e.cm i-if i=aG then m else 0) h (λi _ bG=>by rw[ag bG];grind) i;rw[<-(xB he).1 i (by rw[aL];exact M),aax] at I;grind) aG hw
  rw[ad rfl] at F;grind
 ·intro h
  have F:=ajW he (z:=λi=>(d.saved aG).cm i+if i=aG then m else 0) (λi M=>by
   rw[aL] at M;have I:=aj3 aa aG dq (x:=λi=>(d.saved aG).cm i+if i=aG then m else 0) (y:=(d.saved aG).cm) (by rw[ad rfl];exact h) (λi _ bG=>by rw[ag bG];grind) i;rw[I,<-(xB X).1 i M,aax];grind) aG (by rw[aL];exact hw)
  rw[ad rfl] at F;grind
end
end Go.Mini
namespace Go.Mini
open Classical
theorem aj4 {d:Day}(aa:d.de){f:Nat->Nat}{g:Nat->Rat}(M:Inv d f g):∀m (P:Nat->Prop),idle d P<=m->iD d f g P (d.fg f P)->∃P,td d f P/\∀i,i<d.n->d.fg f P i=d.top f i
 |m,P,hm,aF=>by
  by_cases X:∀i,i<d.n->f i<10->d.bt i (f i)<d.fg f P i->P i
  ·exact⟨P,⟨aa,g,M,aF⟩,aF.ajt aa M X⟩
  ·have⟨i,F,I,af,aO⟩:∃i,i<d.n/\f i<10/\d.bt i (f i)<d.fg f P i/\¬ P i:=by
    apply me;intro aL;exact X λi F I af=>me λaO=>aL ⟨i,F,I,af,aO⟩
   have ay:=ajs (h:=d.fg f P) F I af aO
   cases m with
   |zero=>omega
   |succ m=>exact aj4 aa M m _ (by omega) (aF.succ aa M)
theorem aay {d:Day}(aa:d.de){f:Nat->Nat}(ab:Reach d f):∃P,td d f P/\∀i,i<d.n->d.fg f P i=d.top f i:=by
 obtain⟨g,M,-⟩:=ab;exact aj4 aa M _ _ (bZ _) (iD.first aa M)
section
variable {E:List Int} {cs:List aq} (X:eI E cs)
include X
theorem aj5 {f:Nat->Nat}(ab:Reach (ax E cs) f){i:Nat}(M:i<D E):dX 428 ((ax E cs).top f i):=by
 obtain⟨P,aF,he⟩:=aay X.ok ab;rw[<-he i M];exact ajH X aF M
theorem AB {i:Nat}(M:i<D E):dX 428 ((ax E cs).cm i):=aj5 X (Is X.ok).1 M
theorem ayj {i:Nat}(M:i<D E):(ax E cs).cm i<=((2^54:Nat):Rat):=by
 obtain⟨P,aF,he⟩:=aay X.ok (Is X.ok).1;have:=(Ra X aF M).2;rw[he i M] at this;exact this
theorem aj6:∃bh:Nat,0<bh/\(∃a,a<=330/\bh<=2^a)/\∀i,i<(D E)->fh bh ((ax E cs).cm i):=by
 obtain⟨P,aF,he⟩:=aay X.ok (Is X.ok).1;obtain⟨bh,F,I,af⟩:=ajG X aF;refine⟨bh,F,I,λi M=>?_⟩;have:=af i M;rw[he i M] at this;exact this
end
section
variable {d:Day} (aa:d.de)
include aa
end
def wk (E:List Int)(cs:List aq)(k:Nat):Nat:=if (ax E cs).hq k<10 then ic cs k ((ax E cs).hq k) else 1
section
variable {E:List Int} {cs:List aq} (X:eI E cs)
include X
theorem aj7 {k:Nat}(O:k<D E):0<wk E cs k:=by
 unfold wk
 split
 ·rename_i h;obtain⟨g,F,-⟩:=It X.ok;have I:=F.rS (i:=k) O h;rw[<-ES X.right] at I;exact_mod_cast I
 ·omega
theorem aj8 (k:Nat):wk E cs k<=2^54:=by
 unfold wk
 split
 ·exact X.ET _ _
 ·exact aaz
theorem aj9 {bh:Nat}(m4:∀i,i<(D E)->fh bh ((ax E cs).cm i)){c:aq}(H:c∈cs):fh (bh*wk E cs (cC c).aE) ((ax E cs).fA (ax E cs).cm (cC c)):=by
 have aa:=X.ok;have gp:cC c∈(ax E cs).cF:=p5 H;have O:(cC c).aE<D E:=aa.aE _ gp;have rT:∀N,fh N (cC c).am:=λN=>fh.int N c.2.2.2;have aX:∀N,fh N (0:Rat):=fh.zero;have m8:=λr s=>@Day.de.s7 _ aa (cC c).aE r s;have hZ:=aa.br _ gp;have h5:=Rh aa _ O;unfold Day.fA
 by_cases F:(ax E cs).bt (cC c).aE ((cC c).br+1)<=(ax E cs).cm (cC c).aE
 ·rw[ad F];exact rT _
 ·rw[ag F]
  have aI:(ax E cs).hq (cC c).aE<10:=by
   refine ((xB aa).2 _ O).2 ?_;have:=m8 ((cC c).br+1) 10 (by omega);grind
  have ay:(ax E cs).cm (cC c).aE<(ax E cs).bt (cC c).aE ((ax E cs).hq (cC c).aE+1):=by
   obtain⟨g,cd,-,ev⟩:=It aa;have:=cd.M _ O aI;have:=ev _ O;grind
  rcases ajD (cC c).br ((ax E cs).hq (cC c).aE) with I|I|I
  ·have:=m8 ((cC c).br+1) ((ax E cs).hq (cC c).aE) (by omega);exact absurd (we this h5) F
  ·have hw:fh (wk E cs (cC c).aE) ((ax E cs).w (cC c)):=by
    unfold wk;rw[ad aI];refine⟨c.2.2.2,?_⟩;rw[ES X.right,<-I]
    have:0<(ax E cs).S (cC c).aE (cC c).br:=by
     have:=(ax E cs).s6 (cC c).aE ((ax E cs).hq (cC c).aE);rw[I];grind
    exact Day.Cq this
   have aka:fh bh ((ax E cs).cm (cC c).aE-(ax E cs).bt (cC c).aE (cC c).br):=by
    refine (m4 _ O).sub ?_;rw[<-rU X.right];exact fh.int _ _
   rw[rR (by rw[I];grind),rz];exact hw.mul aka
  ·have:=m8 ((ax E cs).hq (cC c).aE+1) (cC c).br (by omega);rw[uA (by grind),og];exact aX _
theorem aaA {c:aq}(H:c∈cs):dX 482 ((ax E cs).fA (ax E cs).cm (cC c)):=by
 obtain⟨bh,F,⟨a,I,af⟩,aO⟩:=aj6 X;have gp:cC c∈(ax E cs).cF:=p5 H;have O:(cC c).aE<D E:=X.ok.aE _ gp;have bm:=aj9 X aO H;have bK:=aj7 X O;have bP:=aj8 X (cC c).aE;have cl:bh*wk E cs (cC c).aE<=2^(a+54):=by rw[wg];exact oP af bP
 have jn:=X.ok.ZB (ax E cs).cm gp
 have gq:(ax E cs).fA (ax E cs).cm (cC c)<=((2^50:Nat):Rat):=by
  refine we (X.ok.QU _ gp) ?_;have:=X.am c H;show ((c.2.2.2:Int):Rat)<=_;have:c.2.2.2<=((2^50:Nat):Int):=by omega
  rw[<-oh];exact Rat.intCast_le_intCast.2 this
 exact (bm.sz (MD F bK) cl jn gq).mono (by omega)
end
end Go.Mini
namespace Go.Mini
open Go
theorem MQ {n:Int}{c:aq}:hp n c=true↔0<=c.1/\c.1<n /\ -1<=c.2.1/\c.2.1<n/\0<=c.2.2.1/\c.2.2.1<10/\0<=c.2.2.2/\c.2.2.2<=1000000000000000:=by
 unfold hp;simp only[e4,decide_eq_true_eq,and_assoc]
def fX (x:Int):Bool:=decide (0<=x)&&decide (x<=1000000000000000)
theorem Rj {x:Int}:fX x=true↔0<=x/\x<=1000000000000000:=by
 unfold fX;simp only[e4,decide_eq_true_eq]
theorem akb (E:List Int)(cs:List aq):hL E cs=(decide (D E<=60)&&decide (D cs<=2000)&&E.all fX&&cs.all (hp (D E))):=rfl

theorem akc {x y:Rat}(Q:dj x)(av:dj y)(h:m6 x y=true):Ac [.agg (aH (au x)),.agg (aH (au y))]=some (.same (.cI [.agg (aH (au (x+y))),.int .i64 0])):=by
 have F:=mO Q;have I:=mO av;have:=agJ (au x).1.1 (au x).1.2 (au x).2.1 (au x).2.2 (au y).1.1 (au y).1.2 (au y).2.1 (au y).2.2 ⟨F.1,F.2,I.1,I.2⟩;have e:vW (au x) (au y)=(au (x+y),0):=by rw[Xj Q av,h];rfl
 exact this.trans (by show some (eL.same (ew (vW (au x) (au y))))=_;rw[e];rfl)
theorem Rk {x y:Rat}(Q:dj x)(av:dj y)(h:m6 x (-y)=true):yK [.agg (aH (au x)),.agg (aH (au y))]=some (.same (.cI [.agg (aH (au (x-y))),.int .i64 0])):=by
 have F:=mO Q;have I:=mO av;have:=atN (au x).1.1 (au x).1.2 (au x).2.1 (au x).2.2 (au y).1.1 (au y).1.2 (au y).2.1 (au y).2.2 ⟨F.1,F.2,I.1,I.2⟩;have e:pf (au x) (au y)=(au (x-y),0):=by rw[P3 Q av,h];rfl
 exact this.trans (by show some (eL.same (ew (pf (au x) (au y))))=_;rw[e];rfl)
theorem akd {x y:Rat}(Q:dj x)(av:dj y)(h:Ae x y=true):yL [.agg (aH (au x)),.agg (aH (au y))]=some (.same (.cI [.agg (aH (au (x*y))),.int .i64 0])):=by
 have F:=mO Q;have I:=mO av;have:=atP (au x).1.1 (au x).1.2 (au x).2.1 (au x).2.2 (au y).1.1 (au y).1.2 (au y).2.1 (au y).2.2 ⟨F.1,F.2,I.1,I.2⟩;have e:ob (au x) (au y)=(au (x*y),0):=by rw[Xk Q av,h];rfl
 exact this.trans (by show some (eL.same (ew (ob (au x) (au y))))=_;rw[e];rfl)
theorem ayk {x y:Rat}(Q:dj x)(av:dj y)(ao:y≠0)(h:xf x y=true):Ep [.agg (aH (au x)),.agg (aH (au y))]=some (.same (.cI [.agg (aH (au (x/y))),.int .i64 0])):=by
 have F:=mO Q;have I:=mO av;have:=atS (au x).1.1 (au x).1.2 (au x).2.1 (au x).2.2 (au y).1.1 (au y).1.2 (au y).2.1 (au y).2.2 ⟨F.1,F.2,I.1,I.2⟩;have e:j5 (au x) (au y)=(au (x/y),0):=by rw[P4 Q av ao,h];rfl
 exact this.trans (by show some (eL.same (ew (j5 (au x) (au y))))=_;rw[e];rfl)
theorem EX {x y:Rat}(Q:dj x)(av:dj y):sS [.agg (aH (au x)),.agg (aH (au y))]=some (.same (.int .i64 (lJ x y))):=by
 have F:=mO Q;have I:=mO av;have:=agR (au x).1.1 (au x).1.2 (au x).2.1 (au x).2.2 (au y).1.1 (au y).1.2 (au y).2.1 (au y).2.2 ⟨F.1,F.2,I.1,I.2⟩;exact this.trans (by show some (eL.same (.int .i64 (lK (au x) (au y))))=_;rw[P5 Q av])
theorem ake {x y:Rat}:decide (lJ x y>0)=decide (y<x):=by
 have F:lJ x y>0↔y<x:=by
  unfold lJ;rw[gt_iff_lt,Int.sign_pos_iff,aaB];omega
 rw[decide_eq_decide];exact F
theorem Rl {x y:Rat}:decide (lJ x y<0)=decide (x<y):=by
 have F:lJ x y<0↔x<y:=by
  unfold lJ;rw[akf,aaB];omega
 rw[decide_eq_decide];exact F
theorem aaC {x y:Rat}:decide (lJ x y>=0)=decide (y<=x):=by
 have F:lJ x y>=0↔y<=x:=by
  unfold lJ;rw[ge_iff_le,Int.sign_nonneg_iff,Rat.le_iff];omega
 rw[decide_eq_decide];exact F
end Go.Mini
namespace Go.Mini
open Go
variable {P:Program} {A:Nat->Prop} {w aR:World} {B bu:e9} {mem mem':Mem}
def y4 (N:List R->Mem->Option Data)(args:List R)(mem:Mem):Option gZ:=(N args mem).map λd => .rel (zH (.J d) mem)
@[go_sem] theorem aL7 (N:List R->Mem->Option Data)(args:List R)(mem:Mem):y4 N args mem=(N args mem).map λd => .rel (zH (.J d) mem):=bw
theorem aaD {T : bd}{kb : Nat}{own : List Nat}(cQ : qu P T)(hm : P.follows .mixedOrders = true){f : FuncId}{fn : Func}{mf : bN}(aI : P.funcs[f]? = some fn)(tN : (fn.name == "runtime.NumGoroutine") = false)(a1 : sq P kb own fn = some { mf with body := erase mf.body })
  (da:Key->Prop) {N:List R->Mem->Option Data}
  (h:∀args mem d,N args mem=some d->(D args)<=mf.n/\(∀j,da j->mem j=none) /\
   wp T mf.body (oe mf.res λm mem'=>cE 6 emp m=some d/\∀j,¬ da j->mem' j=mem j) ⟨km args,mem⟩):kQ P f (y4 N):=by
 refine⟨Qo aI tN a1,λargs mem o6 iw A w B vs b2 aA=>?_⟩;unfold y4 at iw;rw[eb] at iw;obtain⟨d,m8,rfl⟩:=iw;obtain⟨hlen,um,wN⟩:=h args mem d m8;refine Calls.mono (Gl (Post:=λm mem'=>cE 6 emp m=some d/\∀j,¬ da j->mem' j=mem j) cQ hm aI a1 hlen (λe st O=>Qn O) wN b2 aA) λe aR he=>?_;obtain⟨v,m,mem',bu,rfl,X,mW,aa,gm⟩:=he;exact⟨v,.J d,mem,sU da bu,rfl,X.drop b2 um um (λj ai=>(gm j ai).symm) (λk g cs O m hm => .inr ⟨k,g,cs,O,hm⟩),.J ((OB 6 m v d aa mW).less λb ah=>ah.imp Ew id),rfl,rfl⟩
def MR (W:List R->Mem->Option (Data×Key))(args:List R)(mem:Mem):Option gZ:=(W args mem).map λx => .zl x.1 x.2
@[go_sem] theorem aL8 (W:List R->Mem->Option (Data×Key))(args:List R)(mem:Mem):MR W args mem=(W args mem).map λx => .zl x.1 x.2:=bw
theorem ayl {T : bd}{kb : Nat}{own : List Nat}(cQ : qu P T)(hm : P.follows .mixedOrders = true){f : FuncId}{fn : Func}{mf : bN}(aI : P.funcs[f]? = some fn)(tN : (fn.name == "runtime.NumGoroutine") = false)(a1 : sq P kb own fn = some { mf with body := erase mf.body })
  (da:Key->Prop) {W:List R->Mem->Option (Data×Key)}
  (h:∀args mem d k,W args mem=some (d,k)->(D args)<=mf.n/\(∀j,da j->mem j=none)/\¬ da k /\
   wp T mf.body (oe mf.res λm mem'=>cE 6 emp m=some d/\∀j,¬ da j->mem' j=a4 mem k (bV mem k) [] j) ⟨km args,mem⟩):kQ P f (MR W):=by
 refine⟨Qo aI tN a1,λargs mem o6 iw A w B vs b2 aA=>?_⟩;unfold MR at iw;rw[eb] at iw;obtain⟨⟨d,k⟩,m8,rfl⟩:=iw;obtain⟨hlen,um,O,wN⟩:=h args mem d k m8;refine Calls.mono (Gl (Post:=λm mem'=>cE 6 emp m=some d/\∀j,¬ da j->mem' j=a4 mem k (bV mem k) [] j) cQ hm aI a1 hlen (λe st O=>Qn O) wN b2 aA) λe aR he=>?_;obtain⟨v,m,mem',bu,rfl,X,mW,aa,gm⟩:=he;refine⟨v,sU da bu,rfl,X.drop b2 um (λj ai=>?_) (λj ai=>(gm j ai).symm) ?_,.J ((OB 6 m v d aa mW).less λb ah=>ah.imp Ew id)⟩
 ·have:j≠k:=λe=>O (e ▸ ai);simp only[a4,this,if_false];exact um j ai
 ·intro c0 cr n1 I m nz
  by_cases gC:c0=k
  ·subst gC;simp only[a4,if_true,cn,fb] at I;obtain⟨-,rfl⟩:=I
   cases nz
  ·simp only[a4,gC,if_false] at I;exact .inr ⟨c0,cr,n1,I,nz⟩
open Classical in
def MS {α:Type}(bh:α->List R->Mem->Prop)(res:α->Data×Key):List R->Mem->Option (Data×Key):=λargs mem=>if h:∃a,bh a args mem then some (res (tO h)) else none
theorem aym {α:Type}{bh:α->List R->Mem->Prop}{res:α->Data×Key}(uniq:∀a b args mem,bh a args mem->bh b args mem->res a=res b){a:α}{args:List R}{mem:Mem}(h:bh a args mem):MS bh res args mem=some (res a):=by
 have Q:∃b,bh b args mem:=⟨a,h⟩;unfold MS;rw[dif_pos Q,uniq _ _ _ _ (o7 Q) h]
theorem ayn {α:Type}{bh:α->List R->Mem->Prop}{res:α->Data×Key}{args:List R}{mem:Mem}{d:Data×Key}(h:MS bh res args mem=some d):∃a,bh a args mem/\d=res a:=by
 unfold MS at h
 split at h
 ·rename_i Q;exact⟨_,o7 Q,(o3 h).symm⟩
 ·cases h
open Classical in
def EY {α:Type}(bh:α->List R->Mem->Prop)(res:α->Data):List R->Mem->Option Data:=λargs mem=>if h:∃a,bh a args mem then some (res (tO h)) else none
theorem aaE {α:Type}{bh:α->List R->Mem->Prop}{res:α->Data}(uniq:∀a b args mem,bh a args mem->bh b args mem->res a=res b){a:α}{args:List R}{mem:Mem}(h:bh a args mem):EY bh res args mem=some (res a):=by
 have Q:∃b,bh b args mem:=⟨a,h⟩;unfold EY;rw[dif_pos Q,uniq _ _ _ _ (o7 Q) h]
theorem aaF {α:Type}{bh:α->List R->Mem->Prop}{res:α->Data}{args:List R}{mem:Mem}{d:Data}(h:EY bh res args mem=some d):∃a,bh a args mem/\d=res a:=by
 unfold EY at h
 split at h
 ·rename_i Q;exact⟨_,o7 Q,(o3 h).symm⟩
 ·cases h
theorem akg {α:Type}{bh:α->List R->Mem->Prop}{bU:α->Mem->R->Mem->Prop}(uniq:∀a b args mem,bh a args mem->bh b args mem->bU a mem=bU b mem){a:α}{args:List R}{mem:Mem}(h:bh a args mem):uq bh bU args mem=some (bU a mem):=by
 have Q:∃b,bh b args mem:=⟨a,h⟩;unfold uq;rw[dif_pos Q,uniq _ _ _ _ (o7 Q) h]
theorem ayo {K:bb->Prop}{st:bb}{x:bS}{i k sz kc g off:Nat}{cs:List R}(F:a6 st.tm x=.ptr kc g off)(I:st.mem kc=some (g,cs))(af:cs[off+i]?=some .nil)(aO:k≠kc)
  (h:K ⟨st.tm,a4 (a4 st.mem k (bV st.mem k) []) kc g (cs.set (off+i) (.ref k (bV st.mem k) sz 0 0))⟩):lr K st (.NS x i k sz):=by
 simp only[lr,F,I,if_true,af];rw[ad aO];exact h
theorem ayp {K:bb->Prop}{st:bb}{x:bS}{i kc gc off k g sz o len:Nat}{cc cs:List R}{d:Data}(F:a6 st.tm x=.ptr kc gc off)(I:st.mem kc=some (gc,cc))(af:cc[off+i]?=some (.ref k g sz o len))(aO:st.mem k=some (g,cs))(bm:nV cs=true)(bK:k≠kc)(bP:cE 1 st.mem (.ref k g sz o len)=some d)
  (h:K ⟨st.tm,a4 (kill st.mem k) kc gc (cc.set (off+i) (.J d))⟩):lr K st (.NT x i):=by
 simp only[lr,F,I,if_true,af,aO];rw[ad ⟨trivial,bm,bK⟩,bP];exact h
def et (n:Nat)(mem m:Mem):Prop:=∀k,k/1000≠n->m k=mem k
theorem et.refl (n:Nat)(mem:Mem):et n mem mem:=λ_ _=>rfl
theorem et.fa {n k g:Nat}{cs:List R}{mem m:Mem}(h:et n mem m)(O:k/1000=n):et n mem (a4 m k g cs):=λj ai=>by
 have:j≠k:=λe=>ai (by rw[e];exact O);simp only[a4,this,if_false];exact h j ai
theorem et.kill {n k:Nat}{mem m:Mem}(h:et n mem m)(O:k/1000=n):et n mem (kill m k):=h.fa O
theorem et.at {n:Nat}{mem m:Mem}(h:et n mem m)(k:Nat)(O:k/1000≠n):m k=mem k:=h k O
def r1 (n:Nat)(mem:Mem):Prop:=∀k,k/1000=n->mem k=none
theorem r1.aE {n akh:Nat}{mem m:Mem}(h:r1 n mem)(aI:et akh mem m)(aL:n≠akh):r1 n m:=λk O=>by rw[aI k (by omega)];exact h k O
end Go.Mini
namespace Go.Mini
open Go
def bD (x:Int):R:=.J (.int .i64 x)
def ln (b:Bool):R:=.J (.bool b)
theorem wm {α:Type}{f:α->R}{l:List α}{k:Nat}{y:α}(h:l[k]?=some y):fN 1 (fT k (l.map f))=[f y]:=by
 obtain⟨ar,rfl⟩:=dP.1 h;rw[<-List.map_drop,List.drop_eq_getElem_cons ar,eG,List.take_succ_cons,m0]
structure CF (E:List Int) (cs:List aq) (aK:List Int) (P:List Bool) (g cm gR:Nat) (mem:Mem):Prop where
 r:mem 261029=some (g,[.J (.Y (E.map ae)),.J (.Y (cs.map b4)),.ref 261042 cm 1 0 (D aK),.ref 261027 gR 1 0 (D P),.J (.bool false)])
 f:mem 261042=some (cm,aK.map bD)
 p:mem 261027=some (gR,P.map ln)
theorem CF.aE {E:List Int}{cs:List aq}{aK:List Int}{P:List Bool}{g cm gR n:Nat}{mem m:Mem}(h:CF E cs aK P g cm gR mem)(aI:et n mem m)(aL:n≠261):CF E cs aK P g cm gR m :=
 ⟨(aI.at 261029 (by omega)).trans h.r,(aI.at 261042 (by omega)).trans h.f,(aI.at 261027 (by omega)).trans h.p⟩
theorem Rm {a b:List Int}(h:a.map bD=b.map bD):a=b:=map_inj (λx y h=>by simpa [bD] using h) _ _ h
theorem ayq {a b:List Bool}(h:a.map ln=b.map ln):a=b:=map_inj (λx y h=>by simpa [ln] using h) _ _ h
theorem CF.uniq {E Iv:List Int}{cs nm:List aq}{aK Iw:List Int}{P aki:List Bool}{g cm gR c6 akj Rn:Nat}{mem:Mem}(h:CF E cs aK P g cm gR mem)(cG:CF Iv nm Iw aki c6 akj Rn mem):E=Iv/\cs=nm/\aK=Iw/\P=aki/\g=c6/\cm=akj/\gR=Rn:=by
 have F:=h.r;rw[cG.r] at F;simp only[cn,fb,ba,R.J.injEq,Data.Y.injEq,R.ref.injEq,true_and,and_true] at F;obtain⟨aC,aD,b9,⟨dg,-⟩,bE,-⟩:=F;have I:=h.f;rw[cG.f] at I;simp only[cn,fb] at I;have af:=h.p;rw[cG.p] at af;simp only[cn,fb] at af;exact⟨(map_inj fp _ _ aD).symm,(map_inj rZ _ _ b9).symm,(Rm I.2).symm,(ayq af.2).symm,aC.symm,dg.symm,bE.symm⟩
structure Ro where
 E:List Int
 cs:List aq
 aK:List Int
 P:List Bool
 g:Nat
 cm:Nat
 gR:Nat
def Ro.eF (a:Ro)(mem:Mem):Prop:=CF a.E a.cs a.aK a.P a.g a.cm a.gR mem
theorem Ro.uniq {a b:Ro}{mem:Mem}(h:a.eF mem)(cG:b.eF mem):a=b:=by
 obtain⟨cT,c7,dZ,fm,oQ,te,akk⟩:=a;obtain⟨dh,eK,kd,mh,ayr,akl,akm⟩:=b;have:=CF.uniq h cG;dsimp only at this;obtain⟨rfl,rfl,rfl,rfl,rfl,rfl,rfl⟩:=this
 rfl
theorem et.same {n k g:Nat}{cs:List R}{mem m:Mem}(h:et n mem m)(hm:mem k=some (g,cs)):et n mem (a4 m k g cs):=λj ai=>by
 by_cases e:j=k
 ·subst e;simp only[a4,if_true];exact hm.symm
 ·simp only[a4,e,if_false];exact h j ai
theorem oT {z:Int}(F:-9000000000000000000<=z)(I:z<=9000000000000000000):dw z:=by unfold dw;omega
theorem Im.upto {cs:List aq}(h:Im cs)(i r:Int):0<=cU cs i r/\cU cs i r<=2000000000000000000:=by
 have:=h.sum (λc=>c.1=i/\c.2.2.1<r) (D cs);rw[lf] at this;exact this
theorem ays {p q:Int}(aF:dw p)(aT:dw q)(ao:q≠0):hz (bQ p) (bQ q)=(au ((p:Rat)/(q:Rat)),0):=by
 rw[Aa (yG aF) (yG aT) ao,MG]
def kT (cs:List aq)(i r:Int):Int:=cU cs i (r+1)-cU cs i r
end Go.Mini
namespace Go.Mini
open Go Classical
def bM (aK:List Int)(i:Nat):Nat:=(aK.getD i 10).toNat
def ft (P:List Bool)(i:Nat):Prop:=P.getD i false=true
theorem xD {z:Int}{b:Nat}(h:z.natAbs<=2^b):dX b (z:Rat):=⟨by rw[akn];exact h,by rw[ako];exact aaz⟩
theorem ayt {E:List Int}{cs:List aq}(X:eI E cs){c:aq}(H:c∈cs):dX 54 ((ax E cs).w (cC c)):=by
 have ab:=(gd.1 X.right).2.2.2 c H;have rT:=X.am c H
 by_cases ao:c.2.2.2=0
 ·have:(cC c).am=0:=by show ((c.2.2.2:Int):Rat)=0;rw[ao];rfl
  rw[Day.LX this];exact⟨fv _,aaz⟩
 ·have cS:=ES X.right (cC c).aE (cC c).br;have hle:=(Mw X.right).QQ (c:=cC c) (p5 H);rw[<-cS] at hle
  have F:c.2.2.2<=((ic cs (cC c).aE (cC c).br:Nat):Int):=by
   have:((c.2.2.2:Int):Rat)<=(((ic cs (cC c).aE (cC c).br:Nat):Int):Rat):=by rw[oh];exact hle
   exact_mod_cast this
  have I:=X.ET (cC c).aE (cC c).br
  obtain⟨f1,f2⟩:=Cv (q:=(ax E cs).w (cC c)) (v:=c.2.2.2) (d:=((ic cs (cC c).aE (cC c).br:Nat):Int)) (by omega) (by
   rw[oh,cS];refine Day.Cq ?_;rw[<-cS];have:0<ic cs (cC c).aE (cC c).br:=by omega
   exact_mod_cast this)
  rw[mL] at f2;exact⟨by omega,by omega⟩
section
variable {E:List Int} {cs:List aq} (X:eI E cs) (f:Nat->Nat) (P:Nat->Prop) (i:Nat) (cS:∀k,P k->0<(ax E cs).S k (f k))
include X cS
end
end Go.Mini
namespace Go.Mini
open Go
theorem AD:dw 0:=by unfold dw;omega
theorem aaG:dw 1:=by unfold dw;omega
theorem ayu {N k:Nat}(x:Nat->Rat)(y:Rat):(dF N x).set k (au y)=dF N λj=>if j=k then y else x j:=by
 refine ML (by rw[hP,p6]) λj ai=>?_;rw[nE]
 by_cases h:k=j
 ·rw[ad h,ad (by rw[p6];omega),ad h.symm]
 ·rw[ag h,uI _ ai,ag (Ne.symm h)]
theorem akp {α:Type}{l:List α}{k:Nat}{d x:α}(h:l[k]?=some x):l.getD k d=x:=by rw[dY,h];rfl
theorem ayv (r:e1):((j6 r).map R.J).all R.one=true:=rfl

def nL (n:Nat)(p:Nat->Bool):List Bool:=(dS n).map p
theorem Rp (n:Nat)(p:Nat->Bool):(nL n p).length=n:=by simp[nL]
theorem Rq {n i:Nat}(p:Nat->Bool)(h:i<n):(nL n p)[i]?=some (p i):=by
 unfold nL;rw[bl,tv h];rfl
theorem ayw {n:Nat}{p q:Nat->Bool}(h:∀i,i<n->p i=q i):nL n p=nL n q:=lY λi M=>h i (ha.1 M)
theorem Rr {n i:Nat}{p:Nat->Bool}:ft (nL n p) i↔i<n/\p i=true:=by
 unfold ft;rcases il i n with h|h
 ·rw[akp (Rq p h)];exact⟨λe=>⟨h,e⟩,λe=>e.2⟩
 ·rw[dY,kF (by rw[Rp];exact h)];simp;omega
def wo (d:Day)(f:Nat->Nat)(h:Nat->Rat)(i:Nat):Bool:=decide (f i<10)&&decide (d.bt i (f i)<h i)
def om (d:Day)(f:Nat->Nat)(h:Nat->Rat)(p:Nat->Bool)(i j:Nat):Bool:=p j||(decide (j<i)&&wo d f h j)
def y5 (d:Day)(f:Nat->Nat)(h:Nat->Rat)(p:Nat->Bool)(i:Nat):Bool:=(dS i).any λj => !p j&&wo d f h j
theorem ayx (d:Day)(f:Nat->Nat)(h:Nat->Rat)(p:Nat->Bool)(i:Nat):y5 d f h p (i+1)=(y5 d f h p i||(!p i&&wo d f h i)):=by
 unfold y5;rw[oS,List.any_append];simp
theorem akq (d:Day)(f:Nat->Nat)(h:Nat->Rat)(p:Nat->Bool)(i:Nat):om d f h p i i=p i:=by
 unfold om;rw[mq (Nat.lt_irrefl i),fS,l2]
theorem akr (d:Day)(f:Nat->Nat)(h:Nat->Rat)(p:Nat->Bool)(i j:Nat):om d f h p (i+1) j=if j=i then (p i||wo d f h i) else om d f h p i j:=by
 unfold om
 by_cases ai:j=i
 ·subst ai;rw[ad rfl,lq (Nat.lt_succ_self j),gW]
 ·rw[ag ai]
  congr 2
  rw[decide_eq_decide];omega
theorem ayy {d:Day}{f:Nat->Nat}{h:Nat->Rat}{p:Nat->Bool}:ft (nL d.n (om d f h p d.n))=s8 d f (ft (nL d.n p)) h:=by
 funext i
 apply propext;rw[Rr];unfold s8 om wo;rw[Rr]
 constructor
 ·rintro⟨F,I⟩;rw[yg] at I;rcases I with I|I
  ·exact .inl ⟨F,I⟩
  ·simp only[e4,decide_eq_true_eq] at I;exact .inr ⟨F,I.2⟩
 ·rintro (⟨F,I⟩|⟨F,I⟩)
  ·exact⟨F,by rw[I];rfl⟩
  ·refine⟨F,?_⟩;rw[yg]
   right
   simp only[e4,decide_eq_true_eq];exact⟨F,I⟩
theorem ayz {n:Nat}:ft (nL n λ_=>false)=λ_=>False:=by
 funext i
 apply propext;rw[Rr];simp
theorem ayA {d:Day}{f:Nat->Nat}{h:Nat->Rat}{p:Nat->Bool}{n:Nat}(hm:y5 d f h p n=true):mR n (λi=>if om d f h p n i then 0 else 1)<mR n λi=>if p i then 0 else 1:=by
 unfold y5 at hm;rw[List.any_eq_true] at hm;obtain⟨j,ai,I⟩:=hm;have ai:=ha.1 ai;simp only[e4,pU] at I;refine ZJ (j:=j) (λi M=>?_) ai ?_
 ·unfold om
  cases p i
  ·try dsimp only
   split<;>simp
  ·simp
 ·unfold om;rw[I.1,I.2,lq ai]
  decide
theorem ayB {d:Day}{f:Nat->Nat}{h:Nat->Rat}{p:Nat->Bool}{n:Nat}(hm:y5 d f h p n=false){i:Nat}(M:i<n)(F:f i<10)(I:d.bt i (f i)<h i):p i=true:=by
 unfold y5 at hm;rw[xu] at hm;have:=hm i (ha.2 M);unfold wo at this;rw[lq F,lq I] at this
 simpa using this
def fB (cs:List aq)(x:Rat)(c:aq):Rat:=if ((cU cs c.1 (c.2.2.1+1):Int):Rat)<=x then (c.2.2.2:Rat) else (c.2.2.2:Rat)/((kT cs c.1 c.2.2.1:Int):Rat)*pos (x-((cU cs c.1 c.2.2.1:Int):Rat))
theorem Ix {E:List Int}{cs:List aq}(h:hL E cs=true)(x:Nat->Rat){c:aq}(H:c∈cs):(ax E cs).fA x (cC c)=fB cs (x c.1.toNat) c:=by
 have ab:=(gd.1 h).2.2.2 c H;obtain⟨aJ,c2,c3,c4⟩:=c;dsimp only at ab;obtain⟨aJ,rfl⟩:∃k:Nat,aJ=(k:Int):=⟨aJ.toNat,by omega⟩
 obtain⟨c3,rfl⟩:∃k:Nat,c3=(k:Int):=⟨c3.toNat,by omega⟩
 unfold Day.fA fB Day.w;have F:=rU h aJ (c3+1);have I:=rU h aJ c3;have af:=QX h aJ c3;have aC:(cC ((aJ:Int),c2,(c3:Int),c4)).aE=aJ:=jX aJ;have aD:(cC ((aJ:Int),c2,(c3:Int),c4)).br=c3:=jX c3;have b9:(cC ((aJ:Int),c2,(c3:Int),c4)).am=(c4:Rat):=rfl;rw[aC,aD,b9,<-F,<-I,<-af]
 rfl
structure ku (l:List aq):Prop where
 len:(D l)<=12
 c:∀c∈l,0<=c.1/\c.1<60 /\ -1<=c.2.1/\c.2.1<60/\0<=c.2.2.1/\c.2.2.1<10/\0<=c.2.2.2/\c.2.2.2<=1000000000000000
 one:∀c∈l,∀c'∈l,c.1=c'.1
theorem ku.cs {l:List aq}(h:ku l):Im l:=⟨by have:=h.len;omega,λc H=>by have:=h.c c H;omega⟩
def mi {α:Type}(enc:α->List R)(l:List α):List R:=(l.map enc).flatten
theorem ayC {α:Type}{enc:α->List R}{sz:Nat}(h:∀a,(enc a).length=sz)(l:List α):(mi enc l).length=D l*sz:=by
 unfold mi
 induction l with
 |nil=>simp
 |cons a l az=>rw[eG,jL,fH,az,h,hN,tx];omega
theorem aks {α:Type}{enc:α->List R}{sz:Nat}(h:∀a,(enc a).length=sz):∀(l:List α) (i:Nat),i<(D l)->∀b,fN (i*sz) (mi enc l)++enc b++fT (i*sz+sz) (mi enc l)=mi enc (l.set i b)
 | [],i,M,b=>absurd M (by simp)
 |a::l,0,_,b=>by
  have aP:=h a;unfold mi;simp only[Nat.zero_mul,Nat.zero_add,m0,jo,eG,jL,v5];rw[<-aP,List.drop_left]
 |a::l,i+1,M,b=>by
  have aP:=h a;have az:=aks h l i (by simpa using M) b;unfold mi at az ⊢;simp only[eG,jL,List.set_cons_succ];rw[<-az,tx,List.take_append,oG,aP];rw[dy (by omega),jQ (by omega),jo];rw[show i*sz+sz-sz=i*sz by omega,show i*sz+sz+sz-sz=i*sz+sz by omega]
  simp only[gM]
def bA {α:Type}(n:Nat)(q:Nat->α):List α:=(dS n).map q
theorem gI {α:Type}(n:Nat)(q:Nat->α):(bA n q).length=n:=by simp[bA]
theorem jb {α:Type}{n i:Nat}(q:Nat->α)(h:i<n):(bA n q)[i]?=some (q i):=by
 unfold bA;rw[bl,tv h];rfl
theorem Rs {α:Type}{n:Nat}{l:List α}{q:Nat->α}(ar:(D l)=n)(h:∀i,i<n->l[i]?=some (q i)):l=bA n q:=by
 apply pH;intro i;rcases il i n with M|M
 ·rw[h i M,jb q M]
 ·rw[kF (by omega),kF (by rw[gI];exact M)]
theorem AE {α:Type}{n i:Nat}(q:Nat->α)(b:α):(bA n q).set i b=bA n λj=>if j=i then b else q j:=by
 refine Rs (by rw[hP,gI]) λj ai=>?_;rw[nE]
 by_cases h:i=j
 ·rw[ad h,ad (by rw[gI];omega),ad h.symm]
 ·rw[ag h,jb _ ai,ag (Ne.symm h)]
theorem jK {α:Type}{n:Nat}{p q:Nat->α}(h:∀i,i<n->p i=q i):bA n p=bA n q:=lY λi M=>h i (ha.1 M)
def qY:Option bo->List R
 |none=>[.J (.int .i64 0),.nil,.J (.int .i64 0),.nil]
 |some f=>(aH f).map .J
theorem akt:∀a,(qY a).length=4
 |none=>rfl
 |some _=>rfl
theorem aku (n:Nat):(dG n [R.J (.int .i64 0),R.nil,R.J (.int .i64 0),R.nil]).flatten=mi qY (bA n λ_=>none):=by
 unfold mi bA;rw[List.map_map]
 congr 1
 apply pH;intro i;rw[bl];rcases il i n with M|M
 ·rw[tv M,akv,ad M];rfl
 ·rw[kF (by simpa using M),kF (by simpa using M)];rfl
theorem akw (l:List bo):mi qY (l.map some)=bc aH l:=by
 unfold mi bc
 induction l with
 |nil=>rfl
 |cons f l az =>
  simp only[eG,jL,kR];rw[az];rfl
theorem aaH {n i:Nat}{q:Nat->Option bo}(h:i<n):(i*4+4<=(mi qY (bA n q)).length)=True:=eq_true (by rw[ayC akt,gI];omega)
theorem aaI {n i:Nat}{q:Nat->Option bo}(h:i<n)(a:Int)(b:List Int)(c:Int)(d:List Int):
  fN (i*4) (mi qY (bA n q))++[R.J (.int .i64 a),.J (.Y (b.map ae)),.J (.int .i64 c),.J (.Y (d.map ae))]++fT (i*4+4) (mi qY (bA n q))=mi qY (bA n λj=>if j=i then some ((a,b),(c,d)) else q j):=by
 rw[<-AE];exact aks akt (bA n q) i (by rw[gI];exact h) (some ((a,b),(c,d)))
structure Iy (l:List aq) (x:Rat):Prop where
 own:ku l
 pos:0<=x
 sz:dX 460 x
theorem ku.less {l:List aq}(h:ku l){c:aq}(H:c∈l)(r:Int):(cv l λc'=>if c'.2.2.1<r then c'.2.2.2 else 0)=cU l c.1 r:=by
 unfold cU;refine H8 λc' lX=>?_;have:=h.one c' lX c H
 by_cases F:c'.2.2.1<r
 ·rw[ad F,ad ⟨this,F⟩]
 ·rw[ag F,ag λh=>F h.2]
theorem aaJ (l:List aq)(aQ bL:aq->Int):cv l (λc=>aQ c+bL c)=cv l aQ+cv l bL:=by
 induction l with
 |nil=>simp[cv]
 |cons c l az=>simp only[cv,az];omega
theorem ku.same {l:List aq}(h:ku l){c:aq}(H:c∈l)(r:Int):(cv l λc'=>if c'.2.2.1=r then c'.2.2.2 else 0)=kT l c.1 r:=by
 have F:=h.less H r;have I:=h.less H (r+1)
 have af:(cv l λc'=>if c'.2.2.1<r+1 then c'.2.2.2 else 0)=(cv l λc'=>if c'.2.2.1<r then c'.2.2.2 else 0)+cv l λc'=>if c'.2.2.1=r then c'.2.2.2 else 0:=by
  rw[<-aaJ];refine H8 λc _=>?_
  by_cases cd:c.2.2.1<r
  ·rw[ad (by omega),ad cd,ag (by omega)];omega
  ·rw[ag cd]
   by_cases c0:c.2.2.1=r
   ·rw[ad (by omega),ad c0];omega
   ·rw[ag (by omega),ag c0];omega
 unfold kT;omega
theorem ku.bound {l:List aq}(h:ku l)(p:aq->Prop)[DecidablePred p]:0<=cv l (λc=>if p c then c.2.2.2 else 0)/\cv l (λc=>if p c then c.2.2.2 else 0)<=12000000000000000:=by
 have:=H9 (cs:=l) (aQ:=λc=>if p c then c.2.2.2 else 0) (B:=1000000000000000) (by omega) λc H=>by
  have:=h.c c H
  try dsimp only
  split<;>omega
 have:=h.len;omega
theorem akx (cs:List aq)(i r:Int):kT cs i r=cv cs λc=>if c.1=i/\c.2.2.1=r then c.2.2.2 else 0:=by
 have af:cU cs i (r+1)=cU cs i r+cv cs λc=>if c.1=i/\c.2.2.1=r then c.2.2.2 else 0:=by
  unfold cU;rw[<-aaJ];refine H8 λc _=>?_
  split<;>split<;>split<;>omega
 unfold kT;omega
theorem ayD {cs:List aq}{aQ:aq->Int}(h:∀c∈cs,0<=aQ c){c:aq}(H:c∈cs):aQ c<=cv cs aQ:=by
 induction cs with
 |nil=>cases H
 |cons a l az =>
  simp only[cv];have ao:=h a fZ
  have F:0<=cv l aQ:=by
   have:∀l:List aq,(∀c∈l,0<=aQ c)->0<=cv l aQ:=by
    intro l
    induction l with
    |nil=>intro _;exact Q5 _
    |cons b l Q1=>intro aU;simp only[cv];have:=aU b fZ;have:=Q1 λc H=>aU c (gx _ H);omega
   exact this l λc H=>h c (gx _ H)
  rcases hj.1 H with rfl|H
  ·omega
  ·have:=az (λc H=>h c (gx _ H)) H;omega
theorem aky {cs:List aq}(h:∀c∈cs,0<=c.2.2.2){c:aq}(H:c∈cs):c.2.2.2<=kT cs c.1 c.2.2.1:=by
 rw[akx];have:=ayD (aQ:=λc'=>if c'.1=c.1/\c'.2.2.1=c.2.2.1 then c'.2.2.2 else 0) (λc' lX=>by have:=h c' lX;split<;>omega) H;rwa [ad ⟨rfl,rfl⟩] at this
section
variable {cs:List aq} {x:Rat} {c:aq}
theorem aaK (cs:List aq)(i r:Int):((cU cs i (r+1):Int):Rat)=((cU cs i r:Int):Rat)+((kT cs i r:Int):Rat):=by
 rw[<-uD]
 congr 1
 unfold kT;omega
theorem akz (aL:∀c∈cs,0<=c.2.2.2)(H:c∈cs)(h:x-((cU cs c.1 c.2.2.1:Int):Rat)<=0):fB cs x c=0:=by
 unfold fB;have F:=aky aL H;have I:=aL c H;rw[aaK]
 split
 ·rename_i af
  have aO:((kT cs c.1 c.2.2.1:Int):Rat)<=((0:Int):Rat):=by
   have:((0:Int):Rat)=0:=rfl;rw[this];generalize ((cU cs c.1 c.2.2.1:Int):Rat)=u at *;grind
  have bm:kT cs c.1 c.2.2.1<=0:=by exact_mod_cast aO
  rw[show c.2.2.2=0 by omega];rfl
 ·rw[uA h,og]
theorem ayE (h:((kT cs c.1 c.2.2.1:Int):Rat)<=x-((cU cs c.1 c.2.2.1:Int):Rat)):fB cs x c=(c.2.2.2:Rat):=by
 unfold fB;rw[aaK,ad];generalize ((cU cs c.1 c.2.2.1:Int):Rat)=u at *;generalize ((kT cs c.1 c.2.2.1:Int):Rat)=s at *;grind
theorem ayF (ao:0<=x-((cU cs c.1 c.2.2.1:Int):Rat))(h:x-((cU cs c.1 c.2.2.1:Int):Rat)<((kT cs c.1 c.2.2.1:Int):Rat)):fB cs x c=(c.2.2.2:Rat)*(x-((cU cs c.1 c.2.2.1:Int):Rat))/((kT cs c.1 c.2.2.1:Int):Rat):=by
 unfold fB;rw[aaK,ag,rR ao]
 ·generalize ((cU cs c.1 c.2.2.1:Int):Rat)=u at *;generalize ((kT cs c.1 c.2.2.1:Int):Rat)=s at *;grind
 ·generalize ((cU cs c.1 c.2.2.1:Int):Rat)=u at *;generalize ((kT cs c.1 c.2.2.1:Int):Rat)=s at *;grind
end
theorem nM {n:Int}(h:dw n):dj (n:Rat):=⟨by rw[akn];exact yG h,by rw[ako];decide +kernel⟩
theorem Rt {x:Rat}:decide (x.num.sign<0)=decide (x<0):=by
 have:x.num.sign<0↔x<0:=by
  rw[akf,aaB,Rat.zero_num,Rat.zero_den];omega
 rw[decide_eq_decide];exact this
def jc:aq:=(0,0,0,0)
def EZ (l:List aq)(x:Rat)(j:Nat):bo:=au (fB l x (l.getD j jc))
theorem ayG (l:List aq)(x:Rat):(bA (D l) λj=>some (EZ l x j))=(l.map λc=>au (fB l x c)).map some:=by
 symm
 refine Rs (by simp) λi M=>?_;rw[bl,bl,bx M];unfold EZ;rw[akp (bx M)];rfl
def b1 (cs:List aq)(aG:Int):List aq:=cs.filter λc=>c.1==aG
theorem ayH (cs:List aq)(aG:Int)(p:aq->Prop)[DecidablePred p]:cv (b1 cs aG) (λc=>if c.1=aG/\p c then c.2.2.2 else 0)=cv cs λc=>if c.1=aG/\p c then c.2.2.2 else 0:=by
 unfold b1
 induction cs with
 |nil=>rfl
 |cons c l az =>
  by_cases h:c.1=aG
  ·rw[qX (by simpa using h)];simp only[cv,az]
  ·rw[r0 (by simpa using h),az];simp only[cv];rw[ag λaU=>h aU.1];omega
theorem akA (cs:List aq)(aG r:Int):cU (b1 cs aG) aG r=cU cs aG r:=ayH cs aG λc=>c.2.2.1<r
theorem mj {cs:List aq}{aG:Int}{c:aq}:c∈b1 cs aG↔c∈cs/\c.1=aG:=by
 unfold b1;rw[s9,beq_iff_eq]
theorem akB {cs:List aq}{aG:Int}{x:Rat}{c:aq}(h:c.1=aG):fB (b1 cs aG) x c=fB cs x c:=by
 unfold fB kT;rw[h,akA,akA]
theorem ayI (cs:List aq)(aG:Int)(x:Rat):((b1 cs aG).map λc=>au (fB (b1 cs aG) x c))=(b1 cs aG).map λc=>au (fB cs x c) :=
 lY λc H=>by rw[akB (mj.1 H).2]
theorem eI.own {E:List Int}{cs:List aq}(h:eI E cs)(aG:Int):ku (b1 cs aG):=by
 have ab:=gd.1 h.right;have aL:=h.jv;refine⟨?_,λc H=>?_,λc H c' lX=>?_⟩
 ·have:=mg (λc:aq=>c.1==aG) cs;have:=h.p7;unfold b1;omega
 ·have F:=ab.2.2.2 c (mj.1 H).1;have I:=h.am c (mj.1 H).1;omega
 ·rw[(mj.1 H).2,(mj.1 lX).2]
theorem akC (n:Nat):((iC n).map R.J).all R.one=true:=rfl
def uN (d:Day)(f:Nat->Nat)(h:Nat->Rat)(i:Nat):List Nat:=(dS i).filter λj=>decide (h j<d.bt j (f j))
theorem ayJ (d:Day)(f:Nat->Nat)(h:Nat->Rat)(i:Nat):uN d f h (i+1)=if h i<d.bt i (f i) then uN d f h i++[i] else uN d f h i:=by
 unfold uN;rw[oS,p8]
 by_cases aU:h i<d.bt i (f i)
 ·rw[ad aU,qX (by simpa using aU),oR]
 ·rw[ag aU,r0 (by simpa using aU),oR,fC]
theorem ayK (d:Day)(f:Nat->Nat)(h:Nat->Rat)(i:Nat):(uN d f h i).length<=i:=by
 have:=mg (λj=>decide (h j<d.bt j (f j))) (dS i);rw[sA] at this;exact this
end Go.Mini
namespace Go.Mini
open Classical
def kg (d:Day)(l:List aq)(i:Nat):Rat:=b8 (l.map cC) λc=>if c.to=(i:Int) then d.w c else 0
theorem ayL (d:Day)(i:Nat):kg d [] i=0:=rfl
theorem akD (d:Day)(l:List aq)(c:aq)(i:Nat):kg d (l++[c]) i=kg d l i+if c.2.1=(i:Int) then d.w (cC c) else 0:=by
 unfold kg;rw[kR,MP]
 congr 1
 show (if (cC c).to=(i:Int) then d.w (cC c) else 0)+0=_;rw[nI]
 rfl
theorem ayM {E:List Int}{cs:List aq}(h:hL E cs=true)(f:Nat->Nat)(k i:Nat):kg (ax E cs) (df cs k (f k)) i=(ax E cs).W f k i:=by
 have ab:=(gd.1 h).2.2.2;unfold kg Day.W;rw[aau λc H=>⟨(ab c H).1,(ab c H).2.2.2.2.1⟩];refine rQ λc _=>?_
 by_cases F:c.aE=k/\c.br=f k
 ·rw[ad F]
  by_cases I:c.to=(i:Int)
  ·rw[ad I,ad ⟨I,F⟩]
  ·rw[ag I,ag λh=>I h.1]
 ·rw[ag F,ag λh=>F h.2]
section
variable {E:List Int} {cs:List aq} (X:eI E cs) {k r:Nat} (cS:0<(ax E cs).S k r)
include X cS
theorem Ru {c:aq}(H:c∈df cs k r):fh (ic cs k r) ((ax E cs).w (cC c))/\0<=(ax E cs).w (cC c)/\(ax E cs).w (cC c)=(c.2.2.2:Rat)/((kT cs k r:Int):Rat):=by
 obtain⟨F,I,af⟩:=EW.1 H;have aC:(cC c).aE=k:=by show c.1.toNat=k;omega
 have aD:(cC c).br=r:=by show c.2.2.1.toNat=r;omega
 have hm:cC c∈(ax E cs).cF:=p5 F;refine⟨⟨c.2.2.2,?_⟩,X.ok.p2 hm,?_⟩
 ·rw[ES X.right,<-aC,<-aD];exact Day.Cq (by rw[aC,aD];exact cS)
 ·unfold Day.w kT;rw[aC,aD];have:=QX X.right k r;rw[<-this]
  rfl
theorem ayN {l:List aq}(ar:∃fP,df cs k r=l++fP)(i:Nat):dX 54 (kg (ax E cs) l i):=by
 obtain⟨fP,ar⟩:=ar;have gm:∀c∈l,c∈df cs k r:=λc H=>by rw[ar];simp[H]
 have ayO:∀c∈fP,c∈df cs k r:=λc H=>by rw[ar];simp[H]
 have aa:fh (ic cs k r) (kg (ax E cs) l i):=by
  unfold kg;refine fh.b8 λx Q=>?_;obtain⟨c,H,rfl⟩:=ek.1 Q
  split
  ·exact (Ru X cS (gm c H)).1
  ·exact fh.zero _
 have ao:∀m:List aq,(∀c∈m,c∈df cs k r)->0<=kg (ax E cs) m i:=λm hm=>xw λx Q=>by
  obtain⟨c,H,rfl⟩:=ek.1 Q
  try dsimp only
  split
  ·exact (Ru X cS (hm c H)).2.1
  ·exact gb
 have F:kg (ax E cs) l i<=1:=by
  have e:kg (ax E cs) (df cs k r) i=kg (ax E cs) l i+kg (ax E cs) fP i:=by
   rw[ar];unfold kg;rw[kR,MP]
  have aD:kg (ax E cs) (df cs k r) i<=b8 ((df cs k r).map cC) (ax E cs).w:=EI λx Q=>by
   obtain⟨c,H,rfl⟩:=ek.1 Q;have:=(Ru X cS H).2.1
   split
   ·exact gb
   ·exact this
  have ab:=(gd.1 X.right).2.2.2;rw[aau λc H=>⟨(ab c H).1,(ab c H).2.2.2.2.1⟩] at aD
  have b9:b8 (cs.map cC) (λc=>if c.aE=k/\c.br=r then (ax E cs).w c else 0)=1:=by
   have O:k<(ax E cs).n:=by
    obtain⟨c,H,aF⟩:=Ml cS
    by_cases ht:c.aE=k/\c.br=r
    ·rw[<-ht.1];exact X.ok.aE c H
    ·rw[ag ht] at aF;grind
   have:=X.ok.Mq (λj=>j=k) (λ_=>r) (λj ai=>by subst ai;exact cS) λ_=>1;rw[yY O (λj _ ai=>by rw[ag ai]),ad rfl] at this;refine (rQ λc _=>?_).trans this
   by_cases H:c.aE=k/\c.br=r
   ·rw[ad H,ad H,Rat.mul_one]
   ·rw[ag H,ag H]
  have:=ao fP ayO;grind
 have gF:0<ic cs k r:=by
  rw[<-ES X.right] at cS;exact_mod_cast cS
 exact (aa.sz gF (X.ET k r) (ao l gm) (e:=0) (by rw[show ((2^0:Nat):Rat)=1 from rfl];exact F)).mono (by omega)
end
end Go.Mini
namespace Go.Mini
open Go
def kh (l:List aq):R:=if l=[] then .nil else .J (.Y (l.map b4))
theorem ayP {a b:List aq}(h:kh a=kh b):a=b:=by
 unfold kh at h
 by_cases aP:a=[]<;>by_cases ah:b=[]
 ·rw[aP,ah]
 ·rw[ad aP,ag ah] at h;cases h
 ·rw[ag aP,ad ah] at h;cases h
 ·rw[ag aP,ag ah] at h;exact map_inj rZ _ _ (Data.Y.inj (R.J.inj h))
theorem akE (l:List aq):qh (kh l)=some (D l):=by
 unfold kh
 split
 ·rename_i h;rw[h];rfl
 ·simp[qh]
theorem akF {l:List aq}{n:Nat}{c:aq}(h:l[n]?=some c):zk 4 n (kh l)=some (.J (.ptr (b4 c))):=by
 unfold kh
 split
 ·rename_i ar;rw[ar] at h;cases h
 ·simp only[zk,bl,h,Option.map_some];rw[ad (AA c)]
structure oo where
 E:Int
 cF:List (List aq)
 us:List Int
 f:Int
 p:Bool
def fG (x:oo):List R:=bD x.E::(x.cF.map kh++(x.us.map bD++[bD x.f,ln x.p]))
def oo.xE (x:oo)(f:Int):oo:=⟨x.E,x.cF,x.us,f,x.p⟩
def oo.sp (x:oo)(p:Bool):oo:=⟨x.E,x.cF,x.us,x.f,p⟩
structure oo.de (x:oo):Prop where
 cF:(D x.cF)=10
 us:(D x.us)=11
theorem CG {x:oo}(h:x.de):(fG x).length=24:=by
 simp[fG,h.cF,h.us]
theorem ayQ {x y:oo}(Q:x.de)(av:y.de)(h:fG x=fG y):x=y:=by
 unfold fG at h;obtain⟨F,I⟩:=w2 h;obtain⟨af,aO⟩:=GK I (by rw[al,al,Q.cF,av.cF]);obtain⟨bm,bK⟩:=GK aO (by rw[al,al,Q.us,av.us]);obtain⟨bP,cl⟩:=w2 bK;obtain⟨jn,-⟩:=w2 cl;obtain⟨a8,bY,c5,ey,iE⟩:=x;obtain⟨tV,tW,E0,E1,aL9⟩:=y;have aD:=map_inj (λa b h=>ayP h) _ _ af;have b9:=Rm bm;simp only[bD,ln,R.J.injEq,Data.int.injEq,Data.bool.injEq,true_and] at F bP jn;dsimp only at *;rw[F,aD,b9,bP,jn]
section
variable {x:oo} (h:x.de)
include h
omit h in
theorem ayR:fN 1 (fG x)=[bD x.E]:=rfl
omit h in
theorem akG {k:Nat}{l:List aq}(O:x.cF[k]?=some l):fN 1 (fT (1+k) (fG x))=[kh l]:=by
 have ay:=(dP.1 O).1;unfold fG;rw[Nat.add_comm,CH,akH (by rw[al];omega),Cl (by rw[ry,al];omega)];exact wm (f:=kh) O
theorem MT {k:Nat}{z:Int}(O:x.us[k]?=some z):fN 1 (fT (11+k) (fG x))=[bD z]:=by
 have ay:=(dP.1 O).1;unfold fG;rw[show 11+k=(10+k)+1 by omega,CH,oG,jQ (by rw[al,h.cF];omega),al,h.cF,jo,show 10+k-10=k by omega,akH (by rw[al];omega),Cl (by rw[ry,al];omega)]
 exact wm (f:=bD) O
theorem MU:fN 1 (fT 22 (fG x))=[bD x.f]:=by
 unfold fG;rw[CH,oG,jQ (by rw[al,h.cF];omega),al,h.cF,jo,oG,jQ (by rw[al,h.us];omega),al,h.us]
 rfl
theorem akI:fN 1 (fT 23 (fG x))=[ln x.p]:=by
 unfold fG;rw[CH,oG,jQ (by rw[al,h.cF];omega),al,h.cF,jo,oG,jQ (by rw[al,h.us];omega),al,h.us]
 rfl
theorem ayS (f:Int):fN 22 (fG x)++[R.J (.int .i64 f)]++fT 23 (fG x)=fG (x.xE f):=by
 have e:fG x=(bD x.E::(x.cF.map kh++x.us.map bD))++[bD x.f,ln x.p]:=by simp[fG]
 have l:(bD x.E::(x.cF.map kh++x.us.map bD)).length=22:=by simp[h.cF,h.us]
 rw[e,Cl (by omega),dy (by omega),oG,jQ (by omega),l];simp[fG,oo.xE,bD]
theorem akJ (p:Bool):fN 23 (fG x)++[R.J (.bool p)]++fT 24 (fG x)=fG (x.sp p):=by
 have e:fG x=(bD x.E::(x.cF.map kh++(x.us.map bD++[bD x.f])))++[ln x.p]:=by simp[fG]
 have l:(bD x.E::(x.cF.map kh++(x.us.map bD++[bD x.f]))).length=23:=by simp[h.cF,h.us]
 rw[e,Cl (by omega),dy (by omega),oG,jQ (by omega),l];simp[fG,oo.sp,ln]
end
structure dc where
 E:List Int
 cs:List aq
 aK:List Int
 P:List Bool
 g:Nat
 gs:List Nat
def dc.gJ (a:dc)(i:Nat):oo:=⟨a.E.getD i 0,bA 10 λk=>df a.cs i k,bA 11 λk=>cU a.cs i (k:Nat),a.aK.getD i 10,a.P.getD i false⟩
theorem dc.xF (a:dc)(i:Nat):(a.gJ i).de:=⟨gI _ _,gI _ _⟩
structure dc.eF (a:dc) (m:Mem):Prop where
 can:a.cs=du (D a.E) a.cs
 aK:(D a.aK)=D a.E
 pl:(D a.P)=D a.E
 Rv:(D a.gs)=D a.E
 row:m 228023=some (a.g,bA (D a.E) λi => .ptr (228500+i) (a.gs.getD i 0) 0)
 dx:∀i,i<(D a.E)->m (228500+i)=some (a.gs.getD i 0,fG (a.gJ i))
theorem MV {α:Type}{d:α}{n:Nat}{a b:List α}(aP:(D a)=n)(ah:(D b)=n)(h:∀i,i<n->a.getD i d=b.getD i d):a=b:=by
 apply pH;intro i;rcases il i n with M|M
 ·have:=h i M;rw[dY,dY,bx (by omega),bx (by omega)] at this;rw[bx (by omega),bx (by omega)];exact congrArg some this
 ·rw[kF (by omega),kF (by omega)]
theorem akK {α:Type}{n:Nat}{p q:Nat->α}(h:bA n p=bA n q):∀i,i<n->p i=q i:=λi M=>by
 have F:=jb p M;rw[h,jb q M] at F;exact (o3 F).symm
theorem dc.uniq {a b:dc}{m:Mem}(h:a.eF m)(cG:b.eF m):a=b:=by
 obtain⟨cT,c7,dZ,fm,oQ,te⟩:=a;obtain⟨dh,eK,kd,mh,ayr,akl⟩:=b;obtain⟨aJ,c2,c3,c4,aaL,aaM⟩:=h;obtain⟨d1,d2,d3,d4,d5,d6⟩:=cG;dsimp only at *;rw[aaL,cn,fb] at d5;obtain⟨rfl,eR⟩:=d5
 have aL:(D cT)=D dh:=by
  have:=congrArg D eR;rwa [gI,gI] at this
 rw[<-aL] at eR d1 d2 d3 d4 d6
 have a7:te=akl:=MV (d:=0) c4 d4 λi M=>by
  have:=akK eR i M;rw[R.ptr.injEq] at this;exact this.2.1
 subst a7
 have ah:∀i,i<(D cT)->dc.gJ ⟨cT,c7,dZ,fm,oQ,te⟩ i=dc.gJ ⟨dh,eK,kd,mh,oQ,te⟩ i:=λi M=>by
  have F:=aaM i M;rw[d6 i M,cn,fb] at F;exact (ayQ (dc.xF _ _) (dc.xF _ _) F.2).symm
 simp only[dc.gJ,oo.mk.injEq] at ah;have aC:cT=dh:=MV (d:=0) rfl aL.symm λi M=>(ah i M).1;subst aC
 have aD:c7=eK:=by
  rw[aJ,d1];exact ajQ λi M k O=>akK (ah i M).2.1 k O
 have b9:dZ=kd:=MV (d:=10) c2 d2 λi M=>(ah i M).2.2.2.1;have dg:fm=mh:=MV (d:=false) c3 d3 λi M=>(ah i M).2.2.2.2;rw[aD,b9,dg]
theorem dc.eF.aE {a:dc}{mem m:Mem}{n:Nat}(h:a.eF mem)(aI:et n mem m)(aL:n≠228)(bm:(D a.E)<=6):a.eF m :=
 ⟨h.can,h.aK,h.pl,h.Rv,by rw[aI 228023 (by omega)];exact h.row,λi M=>by rw[aI (228500+i) (by omega)];exact h.dx i M⟩
def MW:bN:=ca 107 3 [.cell 6 4 true,.t 7] (U [(aB 6 (.alloc 221006 [(aj 0),.nil,(aj 0),.nil])),bp 7 0] (.seq (U [G 18 0,G 19 1,(cA 20 UW 18 19),fy 21 20,G 22 21,⟨some 23,some (22,false),.b6 (.t 2)⟩,⟨some 24,some (22,false),.bin .lss (.t 23) (.c (aj 0))⟩,ed 25 22 24,G 26 25,⟨some 27,some (26,false),.b6 (.t 2)⟩,⟨some 28,some (26,false),.b6 (.t 0)⟩,⟨some 29,some (26,false),.len (.t 28)⟩,⟨some 30,some (26,false),.bin .geq (.t 27) (.t 29)⟩,ed 31 26 30] (a2 31 (U [(aB 32 (.build [(aj 0),.nil,(aj 0),.nil] [])),bn 4 6 32,bp 7 1] .ret) .skip)) (U [G 33 0,(aB 34 (.nT 221034 1 sG [(.t 33)])),G 8 34,bp 9 0] (U [eM 10] (.seq (U [G 35 1,ct 36 35,bp 37 0] (.block 0 (.ghost (.nU 10 221048 4) (.loop  (U [bq 38 .lss 37 36] (.seq (a2 38 .skip (.exit 0)) (.seq (.block 1 (U [bW 39 4 35 37,bz 40 4 39,(aB 12 (.alloc 221012 [(aj 0),(aj 0),(aj 0),(aj 0)])),bn 4 12 40] (.seq (U [bj 41 0 12,aY 42 1 41,G 43 2,bq 44 .neq 42 43] (a2 44 (U [G 45 10,bz 46 4 12,(aB 47 (.fe 221047 false [(aj 0),(aj 0),(aj 0),(aj 0)] 4 1 [(0,4,(.t 46))])),(aB 48 (.app 221048 [(aj 0),(aj 0),(aj 0),(aj 0)] 32 (.t 45) (.t 47))),G 10 48] (.exit 1)) .skip)) (U [G 49 9,bj 50 3 12,aY 51 1 50,bq 52 .add 49 51,G 9 52] (U [bj 53 1 12,aY 54 1 53,a9 55 .geq 54 0] (a2 55 (.mU [G 56 8,bj 57 1 12,aY 58 1 57,bW 59 1 56 58,aY 60 1 59,bj 61 3 12,aY 62 1 61,bq 63 .add 60 62,bW 64 1 56 58,bn 1 64 63] GI) .skip)))))) (.ops [a9 65 .add 37 1,G 37 65])))))))) (.seq (U [G 66 8,(dQ 67 UX 66),a9 68 .gtr 67 1000000000000000] (a2 68 (U [(aB 69 (.build [(aj 0),.nil,(aj 0),.nil] [])),bn 4 6 69,bp 7 6] .ret) .skip)) (.seq (.ghost (.freeze 8) (.ghost (.freeze 10) (.ops [G 71 8,G 72 10,(cA 73 KS 71 72),G 70 73,bB 74 0 70,bB 75 1 70,(aB 13 (.alloc 221013 [.nil,.nil,.nil])),bn 3 13 74,G 14 75]))) (.seq (U [G 76 14,a9 77 .neq 76 0] (a2 77 (U [(aB 78 (.build [(aj 0),.nil,(aj 0),.nil] [])),bn 4 6 78,bp 7 6] .ret) .skip)) (U [G 80 9,(aB 81 (.call vw [(.t 80),(.c (aj 1))])),G 79 81,bB 82 0 79,bB 83 1 79,(aB 15 (.alloc 221015 [(aj 0),.nil,(aj 0),.nil])),bn 4 15 82,G 16 83] (fM [bz 85 4 15,bj 86 0 13,aY 87 1 86,G 88 2,bW 89 4 87 88,bz 90 4 89,(cA 91 vx 85 90),G 84 91,bB 92 0 84,bB 93 1 84,(aB 17 (.alloc 221017 [(aj 0),.nil,(aj 0),.nil])),bn 4 17 92,G 14 93] [[],[],[],[],[],[],[],[],[],[],[0,2,5],[],[]] (.seq (.block 2 (U [G 95 14,a9 96 .neq 95 0,G 94 96] (a2 94 (U [(aB 97 (.build [(aj 0),.nil,(aj 0),.nil] [])),bn 4 6 97,bp 7 6] .ret) (U [bj 99 0 17,bj 100 0 99,aY 101 1 100,a9 102 .lss 101 0,G 98 102] (a2 98 (U [(aB 103 (.call vw [(.c (aj 0)),(.c (aj 1))])),bB 104 0 103,bB 105 1 103,bn 4 6 104,G 7 105] .ret) .skip))))) (U [bz 106 4 17,bn 4 6 106,bp 7 0] .ret))))))))))))
def aaN:bN:=ca 21 2 [.t 4] (U [dO 2 238002 0,cP 4 false] (.seq (U [aY 5 1 2,ct 6 5,a9 7 .gtr 6 60,G 8 7,⟨some 9,some (8,false),.b6 (.t 1)⟩,⟨some 10,some (8,false),.len (.t 9)⟩,⟨some 11,some (8,false),.bin .gtr (.t 10) (.c (aj 2000))⟩,ed 12 8 11,G 13 12,⟨some 14,some (13,false),.load 1 false (.t 2)⟩,⟨some 15,some (13,false),.call DN [(.t 14),(.c (.fu BB []))]⟩,ed 16 13 15] (a2 16 (U [cP 4 false] .ret) .skip)) (U [G 17 1,(aB 18 (.oY DO [(.t 2)])),(cA 19 zP 17 18),fy 20 19,G 4 20] .ret)))
def aaO:bN:=ca 6 1 [.t 2] (U [cP 2 false] (U [G 3 0,(dQ 4 KX 3),fy 5 4,G 2 5] .ret))
def aaP:bN:=ca 9 1 [.t 2] (U [cP 2 false] (U [G 3 0,a9 4 .geq 3 0,G 5 4,⟨some 6,some (5,true),.b6 (.t 0)⟩,⟨some 7,some (5,true),.bin .leq (.t 6) (.c (aj 1000000000000000))⟩,fx 8 5 7,G 2 8] .ret))
def aaQ:bN:=ca 42 2 [.t 3] (U [dO 2 252002 0,cP 3 false] (U [bj 4 0 2,aY 5 1 4,a9 6 .lss 5 0,G 7 6,⟨some 8,some (7,false),.ei 0 (.t 2)⟩,⟨some 9,some (7,false),.load 1 false (.t 8)⟩,⟨some 10,some (7,false),.load 1 false (.t 1)⟩,⟨some 11,some (7,false),.len (.t 10)⟩,⟨some 12,some (7,false),.bin .geq (.t 9) (.t 11)⟩,ed 13 7 12,G 14 13,⟨some 15,some (14,false),.ei 1 (.t 2)⟩,⟨some 16,some (14,false),.load 1 false (.t 15)⟩,⟨some 17,some (14,false),.bin .lss (.t 16) (.c (.J (.int .i64 (-1))))⟩,ed 18 14 17,G 19 18,⟨some 20,some (19,false),.ei 1 (.t 2)⟩,⟨some 21,some (19,false),.load 1 false (.t 20)⟩,⟨some 22,some (19,false),.load 1 false (.t 1)⟩,⟨some 23,some (19,false),.len (.t 22)⟩,⟨some 24,some (19,false),.bin .geq (.t 21) (.t 23)⟩,ed 25 19 24,G 26 25,⟨some 27,some (26,false),.ei 2 (.t 2)⟩,⟨some 28,some (26,false),.load 1 false (.t 27)⟩,⟨some 29,some (26,false),.bin .lss (.t 28) (.c (aj 0))⟩,ed 30 26 29,G 31 30,⟨some 32,some (31,false),.ei 2 (.t 2)⟩,⟨some 33,some (31,false),.load 1 false (.t 32)⟩,⟨some 34,some (31,false),.bin .geq (.t 33) (.c (aj 10))⟩,ed 35 31 34,G 36 35,⟨some 37,some (36,false),.ei 3 (.t 2)⟩,⟨some 38,some (36,false),.load 1 false (.t 37)⟩,⟨some 39,some (36,false),.call KX [(.t 38)]⟩,⟨some 40,some (36,false),.un .not (.t 39)⟩,ed 41 36 40,G 3 41] .ret))
abbrev Iz:Int×Int×Int->List Data:=λ(x,a,b)=>[.int .i64 x,.int .i64 a,.int .i64 b]
def Rw:=ck Iz λ(x,a,b)=>some (.same (.bool (decide (a<=x)&&decide (x<=b))))
theorem Rx:∀a b,Iz a=Iz b->a=b:=by
  rintro⟨a8,cT,dh⟩ ⟨bY,c7,eK⟩ h;simp only[ba,Data.int.injEq,Data.agg.injEq,Data.Y.injEq,Data.bool.injEq,Data.str.injEq,Data.ptr.injEq,Data.cI.injEq,fb,true_and,and_true] at h ⊢
  first|exact h|simpa [yr,and_assoc] using h|grind
@[go_sem] theorem aMa (x:Int)(a:Int)(b:Int):Rw [.int .i64 x,.int .i64 a,.int .i64 b]=some (.same (.bool (decide (a<=x)&&decide (x<=b)))):=cx Rx (x,a,b)
theorem ayT (T:bd)  (x:Int) (a:Int) (b:Int):WP T Xx (.same (.bool (decide (a<=x)&&decide (x<=b)))) [.J (.int .i64 x),.J (.int .i64 a),.J (.int .i64 b)]:=by
 refine cy ?_;simp only[Xx];rcases aJ:decide (a<=x)
 ·have c2:decide (x>=a)=false:=aJ;refine a0 ?_;repeat' (intro h<;>simp only[h,go_sem,go_sem_proc,aJ,c2,fS]<;>try refine aw ?_ ?_)
 ·have c2:decide (x>=a)=true:=aJ;refine a0 ?_;repeat' (intro h<;>simp only[h,go_sem,go_sem_proc,aJ,c2,gW]<;>try refine aw ?_ ?_)
abbrev aaR:Int->List Data:=λ(x:Int)=>[.int .i64 x,.ptr [.fn vD []]]
def aaS:=ck aaR λ(x:Int)=>some (.same (.bool (!fX x)))
theorem ayU:∀a b,aaR a=aaR b->a=b:=by
  intro a8 bY h;simp only[ba,Data.int.injEq,Data.agg.injEq,Data.Y.injEq,Data.bool.injEq,Data.str.injEq,Data.ptr.injEq,Data.cI.injEq,fb,true_and,and_true] at h ⊢
  first|exact h|simpa [yr,and_assoc] using h|grind
@[go_sem] theorem ayV (x:Int):aaS [.int .i64 x,.ptr [.fn vD []]]=some (.same (.bool (!fX x))):=cx ayU x
theorem ayW (T:bd)(aaT:T vD=aW Rw)(x:Int):WP T Xy (.same (.bool (!fX x))) [.J (.int .i64 x),.J (.ptr [.fn vD []])]:=by
 refine cy ?_;simp only[Xy];unfold fX;refine a0 ?_;repeat' (intro h<;>simp only[h,go_sem,go_sem_proc,aaT]<;>try refine aw ?_ ?_)
abbrev aaU:Int×Int×Int×Int×Int->List Data:=λ(a,b,k,x,n)=>[.agg [.int .i64 a,.int .i64 b,.int .i64 k,.int .i64 x],.ptr [.fn vD []],.ptr [.int .i64 n]]
def aaV:=ck aaU λ(a,b,k,x,n)=>cR (0<=n/\n<=1000000) (.same (.bool (!hp n (a,b,k,x))))
theorem ayX:∀a b,aaU a=aaU b->a=b:=by
  rintro⟨cT,dh,cd,a8,hF⟩ ⟨c7,eK,c0,bY,ir⟩ h;simp only[ba,Data.int.injEq,Data.agg.injEq,Data.Y.injEq,Data.bool.injEq,Data.str.injEq,Data.ptr.injEq,Data.cI.injEq,fb,true_and,and_true] at h ⊢
  first|exact h|simpa [yr,and_assoc] using h|grind
@[go_sem] theorem ayY (a:Int)(b:Int)(k:Int)(x:Int)(n:Int)(H:0<=n/\n<=1000000):aaV [.agg [.int .i64 a,.int .i64 b,.int .i64 k,.int .i64 x],.ptr [.fn vD []],.ptr [.int .i64 n]]=some (.same (.bool (!hp n (a,b,k,x)))):=(cx ayX (a,b,k,x,n)).trans (cW H _)
theorem ayZ (T:bd)(aaT:T vD=aW Rw)(a:Int)(b:Int)(k:Int)(x:Int)(n:Int)(H:0<=n/\n<=1000000):WP T Xz (.same (.bool (!hp n (a,b,k,x)))) [.J (.agg [.int .i64 a,.int .i64 b,.int .i64 k,.int .i64 x]),.J (.ptr [.fn vD []]),.J (.ptr [.int .i64 n])]:=by
 refine cy ?_;simp only[Xz];have w:IntKind.i64.wrap (n-1)=n-1:=by rw[eS _]
 have e:hp n (a,b,k,x)=((decide (0<=a)&&decide (a<=n-1))&&((decide (-1<=b)&&decide (b<=n-1))&&((decide (0<=k)&&decide (k<=9))&&(decide (0<=x)&&decide (x<=1000000000000000))))):=by
  rw[qL,MQ];simp only[e4,decide_eq_true_eq];omega
 rw[e];rcases aJ:(decide (0<=a)&&decide (a<=n-1))<;>rcases c2:(decide (-1<=b)&&decide (b<=n-1))<;>rcases c3:(decide (0<=k)&&decide (k<=9))<;>rcases c4:(decide (0<=x)&&decide (x<=1000000000000000))
 all_goals
      refine a0 ?_;repeat' (intro h<;>simp only[h,go_sem,go_sem_proc,aaT,w,aJ,c2,c3,c4]<;>try refine aw ?_ ?_)
def aaW:bN:=ca 15 3 [.t 6] (U [cP 6 false] (U [G 7 1,G 8 0,bq 9 .leq 7 8,G 10 9,⟨some 11,some (10,true),.b6 (.t 0)⟩,⟨some 12,some (10,true),.b6 (.t 2)⟩,⟨some 13,some (10,true),.bin .leq (.t 11) (.t 12)⟩,fx 14 10 13,G 6 14] .ret))
def aaX:bN:=ca 6 1 [.t 2] (U [cP 2 false] (U [G 3 0,(aB 4 (.call DS [(.t 3),(.c (aj 0)),(.c (aj 1000000000000000))])),fy 5 4,G 2 5] .ret))
def aaY:bN:=ca 31 3 [.t 4] (U [dO 3 362003 0,cP 4 false] (U [bj 5 0 3,aY 6 1 5,aY 7 1 1,a9 8 .sub 7 1,(aB 9 (.call DS [(.t 6),(.c (aj 0)),(.t 8)])),fy 10 9,G 11 10,⟨some 12,some (11,false),.ei 1 (.t 3)⟩,⟨some 13,some (11,false),.load 1 false (.t 12)⟩,⟨some 14,some (11,false),.load 1 false (.t 1)⟩,⟨some 15,some (11,false),.bin .sub (.t 14) (.c (aj 1))⟩,⟨some 16,some (11,false),.call DS [(.t 13),(.c (.J (.int .i64 (-1)))),(.t 15)]⟩,⟨some 17,some (11,false),.un .not (.t 16)⟩,ed 18 11 17,G 19 18,⟨some 20,some (19,false),.ei 2 (.t 3)⟩,⟨some 21,some (19,false),.load 1 false (.t 20)⟩,⟨some 22,some (19,false),.call DS [(.t 21),(.c (aj 0)),(.c (aj 9))]⟩,⟨some 23,some (19,false),.un .not (.t 22)⟩,ed 24 19 23,G 25 24,⟨some 26,some (25,false),.load 1 false (.t 2)⟩,⟨some 27,some (25,false),.ei 3 (.t 3)⟩,⟨some 28,some (25,false),.load 1 false (.t 27)⟩,⟨some 29,some (25,false),.jM (.t 26) [(.t 28)]⟩,ed 30 25 29,G 4 30] .ret))
def r2 (l:List Int):List Data:=[.Y (l.map ae)]
theorem akL:∀a b:List Int,r2 a=r2 b->a=b:=by
 intro a b h;simp only[r2,ba,Data.Y.injEq,and_true] at h;exact map_inj fp _ _ h
def ay0 (a:List (List Int)):Prop:=D a<=1000000/\∀l∈a,D l<=1000000
def gy {α:Type}:List aq->List α->Int->List α
 |c::cs,p::ps,aG=>if c.1==aG then p::gy cs ps aG else gy cs ps aG
 |_,_,_=>[]
theorem akM {α:Type}:∀(cs:List aq) (ps:List α) (c:aq) (p:α) (aG:Int),D cs=(D ps)->gy (cs++[c]) (ps++[p]) aG=gy cs ps aG++if c.1==aG then [p] else []
 | [],[],c,p,aG,_=>by simp only[jo,gy]
 | [],_::_,_,_,_,h=>by simp at h
 |_::_,[],_,_,_,h=>by simp at h
 |a::cs,b::ps,c,p,aG,h=>by
  have az:=akM cs ps c p aG (by simpa using h);simp only[jW,gy,az]
  split<;>rfl
theorem ay1 {α:Type}(cs:List aq)(aQ:aq->α)(aG:Int):gy cs (cs.map aQ) aG=(b1 cs aG).map aQ:=by
 unfold b1
 induction cs with
 |nil=>rfl
 |cons c cs az =>
  rw[eG,gy,az]
  by_cases h:(c.1==aG)=true
  ·rw[ad h,aaZ,ad h];rfl
  ·rw[ag h,aaZ,ag h]
theorem akN {α:Type}:∀(cs:List aq) (ps:List α) (aG:Int),(gy cs ps aG).length<=D cs
 | [],_,_=>by simp[gy]
 |_::_,[],_=>by simp[gy]
 |a::cs,b::ps,aG=>by
  have az:=akN cs ps aG;rw[gy]
  split<;>simp<;>omega
theorem aa0 {α β:Type}(f:α->β):∀(cs:List aq) (ps:List α) (aG:Int),gy cs (ps.map f) aG=(gy cs ps aG).map f
 | [],_,_=>by simp[gy]
 |_::_,[],_=>by simp[gy]
 |a::cs,b::ps,aG=>by
  have az:=aa0 f cs ps aG;rw[eG,gy,gy,az]
  split<;>simp
theorem aa1 {α:Type}:∀(cs:List aq) (ps:List α) (aG:Int),D ps=(D cs)->(gy cs ps aG).length=(b1 cs aG).length
 | [],_,_,_=>by simp[gy,b1]
 |_::_,[],_,h=>by simp at h
 |a::cs,b::ps,aG,h=>by
  have az:=aa1 cs ps aG (by simpa using h);unfold b1 at az ⊢;rw[gy,aaZ]
  split<;>simp[az]
theorem Ry {α:Type}{x:α}:∀{cs:List aq} {ps:List α} {aG:Int},x∈gy cs ps aG->x∈ps
 | [],_,_,h=>by simp[gy] at h
 |_::_,[],_,h=>by simp[gy] at h
 |a::cs,b::ps,aG,h=>by
  rw[gy] at h
  split at h
  ·rcases hj.1 h with rfl|h
   ·simp
   ·exact gx _ (Ry h)
  ·exact gx _ (Ry h)
def ie (l:List aq)(q:Nat->Rat):Nat->Int
 |0=>10
 |k+1=>match l[k]? with
  |some c=>if q k<(c.2.2.2:Rat) then min (ie l q k) c.2.2.1 else ie l q k
  |none=>ie l q k
theorem akO {l:List aq}{q:Nat->Rat}(h:∀c∈l,0<=c.2.2.1/\c.2.2.1<10)(k:Nat):0<=ie l q k/\ie l q k<=10:=by
 induction k with
 |zero=>exact⟨show (0:Int)<=10 by decide,show (10:Int)<=10 by decide⟩
 |succ k az =>
  unfold ie
  split
  ·rename_i c H;have:=h c (ec H)
   split<;>omega
  ·exact az
theorem ay2 {l:List aq}{q:Nat->Rat}(h:∀c∈l,0<=c.2.2.1/\c.2.2.1<10)(k:Nat):ie l q k<10↔∃i,i<k/\∃c,l[i]?=some c/\q i<(c.2.2.2:Rat):=by
 induction k with
 |zero=>exact⟨λh=>absurd h (show ¬ (10:Int)<10 by decide),fun⟨i,h,_⟩=>by omega⟩
 |succ k az =>
  unfold ie
  split
  ·rename_i c H;have ah:=h c (ec H);have O:=akO (q:=q) h k
   by_cases aT:q k<(c.2.2.2:Rat)
   ·rw[ad aT];exact⟨λ_=>⟨k,by omega,c,H,aT⟩,λ_=>by omega⟩
   ·rw[ag aT,az]
    constructor
    ·rintro⟨i,F,I⟩;exact⟨i,by omega,I⟩
    ·rintro⟨i,F,c',I,af⟩
     by_cases aa2:i=k
     ·subst aa2;rw[H] at I;cases I;exact absurd af aT
     ·exact⟨i,by omega,c',I,af⟩
  ·rename_i H;rw[az]
   constructor
   ·rintro⟨i,F,I⟩;exact⟨i,by omega,I⟩
   ·rintro⟨i,F,c',I,af⟩
    by_cases aa2:i=k
    ·subst aa2;rw[H] at I;cases I
    ·exact⟨i,by omega,c',I,af⟩
structure Rz (l:List aq) (q:List Rat):Prop where
 own:ku l
 len:(D q)=D l
 Ay:∀x∈q,dj x
def IA (l:List aq)(q:List Rat):Data:=if ie l (λi=>q.getD i 0) (D l)<10 then .cI [.int .i64 (ie l (λi=>q.getD i 0) (D l)),.bool true] else .cI [.int .i64 0,.bool false]
def qa (cs:List aq)(ps:List Rat)(i:Int):Int:=ie (b1 cs i) (λk=>(gy cs ps i).getD k 0) (b1 cs i).length
def r3 (cs:List aq)(ps:List Rat)(i:Int):Int:=if qa cs ps i<10 then qa cs ps i else 0
theorem ay3 (cs:List aq)(ps:List Rat)(i:Int):IA (b1 cs i) (gy cs ps i)=.cI [.int .i64 (r3 cs ps i),.bool (decide (qa cs ps i<10))]:=by
 unfold IA r3 qa
 split
 ·rename_i h;rw[lq h]
 ·rename_i h;rw[mq h]
def qZ (cs:List aq)(ps:List Rat)(set:List Int)(i:Int):Bool:=cs.any λc=>c.1==i&&(c.2.2.1==r3 cs ps i&&(decide (c.2.2.2>0) && !decide (c.2.1∈set)))
structure nd (E:List Int) (cs:List aq) (ps:List Rat):Prop where
 len:(D ps)=D cs
 l:(D cs)<=2000
 n:(D E)<=60
 own:∀i:Int,ku (b1 cs i)
 Ay:∀x∈ps,dj x
theorem nd.short {E:List Int}{cs:List aq}{ps:List Rat}(h:nd E cs ps)(i:Int):Rz (b1 cs i) (gy cs ps i):=⟨h.own i,aa1 cs ps i h.len,λx Q=>h.Ay x (Ry Q)⟩
def eU (E:List Int)(cs:List aq)(aA cu:List bo)(aK:List (List Int)):List Data:=[.Y (E.map ae),.Y (cs.map b4),.Y (aA.map aH),.Y (cu.map aH),.Y (aK.map r2)]
theorem AF {E Iv:List Int}{cs nm:List aq}{aA mW cu y0:List bo}{aK Iw:List (List Int)}(h:eU E cs aA cu aK=eU Iv nm mW y0 Iw):E=Iv/\cs=nm/\aA=mW/\cu=y0/\aK=Iw:=by
 simp only[eU,ba,Data.Y.injEq,and_true] at h;exact⟨map_inj fp _ _ h.1,map_inj rZ _ _ h.2.1,map_inj m7 _ _ h.2.2.1,map_inj m7 _ _ h.2.2.2.1,map_inj akL _ _ h.2.2.2.2⟩
abbrev aa3:Int×(List bo)×Nat->List Data:=λ(z,h,i)=>[.int .i64 z,.ptr [.Y (h.map aH)],.ptr [.int .i64 i]]
def aa4:=ck aa3 λ(z,h,i)=>cR (dw z/\i<D h/\gv h) (.same (.bool (decide (lK (h.getD i er) (au (z:Rat))<0))))
theorem ay4:∀a b,aa3 a=aa3 b->a=b:=by
  rintro⟨iB,F,i1⟩ ⟨iZ,I,i2⟩ h;simp only[ba,Data.int.injEq,Data.ptr.injEq,Data.Y.injEq,and_true,true_and] at h;exact dT h.1 (dT (map_inj m7 _ _ h.2.1) (by have:=h.2.2;dsimp only;omega))
@[go_sem] theorem ay5 (z:Int)(h:List bo)(i:Nat)(H:dw z/\i<D h/\gv h):aa4 [.int .i64 z,.ptr [.Y (h.map aH)],.ptr [.int .i64 i]]=some (.same (.bool (decide (lK (h.getD i er) (au (z:Rat))<0)))):=(cx ay4 (z,h,i)).trans (cW H _)
theorem ay6 (T:bd)(hC:T pa=aW wj)(dB:T nu=aW sS)(z:Int)(h:List bo)(i:Nat)(H:dw z/\i<D h/\gv h):WP T Xw (.same (.bool (decide (lK (h.getD i er) (au (z:Rat))<0)))) [.J (.int .i64 z),.J (.ptr [.Y (h.map aH)]),.J (.ptr [.int .i64 i])]:=by
 refine cy ?_;simp only[Xw];obtain⟨aX,M,c1⟩:=H;have hw:=CD z aX;obtain⟨x,Q⟩:∃x,h[i]?=some x:=⟨_,bx M⟩;have Hh:h.getD i er=x:=by rw[dY,Q];rfl
 obtain⟨E2,E3⟩:=c1.2 x (ec Q);obtain⟨E4,E5⟩:=mO (nM aX);rw[Hh];generalize au (z:Rat)=Z at *;obtain⟨⟨cT,c7⟩,⟨dZ,fm⟩⟩:=Z;obtain⟨⟨dh,eK⟩,⟨kd,mh⟩⟩:=x;have iK:=agR dh eK kd mh cT c7 dZ fm ⟨E2,E3,E4,E5⟩;simp only[aH] at hw;simp only[go_sem,go_sem_proc,hC,dB,hw,Q,iK,aH,al,bl];repeat' (first|refine aw ?_ ?_|fail)<;>intro h<;>simp only[h,go_sem,go_sem_proc,hC,dB,hw,Q,iK,aH,al,bl]
def RA:=ck vH λ(x:Int)=>some (.same (.bool (fX x)))
@[go_sem] theorem aMb (x:Int):RA [.int .i64 x]=some (.same (.bool (fX x))):=cx yq x
theorem ay7 (T:bd)  (x:Int):WP T aaP (.same (.bool (fX x))) [.J (.int .i64 x)]:=by
 refine cy ?_;simp only[aaP];unfold fX;rcases aJ:decide (0<=x)
 ·have c2:decide (x>=0)=false:=aJ;refine a0 ?_;repeat' (intro h<;>simp only[h,go_sem,go_sem_proc,aJ,c2,fS]<;>try refine aw ?_ ?_)
 ·have c2:decide (x>=0)=true:=aJ;refine a0 ?_;repeat' (intro h<;>simp only[h,go_sem,go_sem_proc,aJ,c2,gW]<;>try refine aw ?_ ?_)
def aa5:=ck vH λ(x:Int)=>some (.same (.bool (!fX x)))
@[go_sem] theorem ay8 (x:Int):aa5 [.int .i64 x]=some (.same (.bool (!fX x))):=cx yq x
theorem ay9 (T:bd)(MX:T KX=aW RA)(x:Int):WP T aaO (.same (.bool (!fX x))) [.J (.int .i64 x)]:=by
 refine cy ?_;simp only[aaO];refine a0 ?_;repeat' (intro h<;>simp only[h,go_sem,go_sem_proc,MX]<;>try refine aw ?_ ?_)
def RB:=ck Iz λ(x,a,b)=>some (.same (.bool (decide (a<=x)&&decide (x<=b))))
@[go_sem] theorem aMc (x:Int)(a:Int)(b:Int):RB [.int .i64 x,.int .i64 a,.int .i64 b]=some (.same (.bool (decide (a<=x)&&decide (x<=b)))):=cx Rx (x,a,b)
theorem aza (T:bd)  (x:Int) (a:Int) (b:Int):WP T aaW (.same (.bool (decide (a<=x)&&decide (x<=b)))) [.J (.int .i64 x),.J (.int .i64 a),.J (.int .i64 b)]:=by
 refine cy ?_;simp only[aaW];rcases aJ:decide (a<=x)
 ·refine a0 ?_;repeat' (intro h<;>simp only[h,go_sem,go_sem_proc,aJ,fS]<;>try refine aw ?_ ?_)
 ·refine a0 ?_;repeat' (intro h<;>simp only[h,go_sem,go_sem_proc,aJ,gW]<;>try refine aw ?_ ?_)
def RC:=ck vH λ(x:Int)=>some (.same (.bool (!fX x)))
@[go_sem] theorem azb (x:Int):RC [.int .i64 x]=some (.same (.bool (!fX x))):=cx yq x
theorem azc (T:bd)(aa6:T DS=aW RB)(x:Int):WP T aaX (.same (.bool (!fX x))) [.J (.int .i64 x)]:=by
 refine cy ?_;simp only[aaX];unfold fX;refine a0 ?_;repeat' (intro h<;>simp only[h,go_sem,go_sem_proc,aa6]<;>try refine aw ?_ ?_)
def RD:=ck Iz λ(x,a,b)=>some (.same (.bool (decide (a<=x)&&decide (x<=b))))
@[go_sem] theorem aMd (x:Int)(a:Int)(b:Int):RD [.int .i64 x,.int .i64 a,.int .i64 b]=some (.same (.bool (decide (a<=x)&&decide (x<=b)))):=cx Rx (x,a,b)
theorem azd (T:bd)  (x:Int) (a:Int) (b:Int):WP T XG (.same (.bool (decide (a<=x)&&decide (x<=b)))) [.J (.int .i64 x),.J (.int .i64 a),.J (.int .i64 b)]:=by
 refine cy ?_;simp only[XG];rcases aJ:decide (a<=x)
 ·refine a0 ?_;repeat' (intro h<;>simp only[h,go_sem,go_sem_proc,aJ,fS]<;>try refine aw ?_ ?_)
 ·refine a0 ?_;repeat' (intro h<;>simp only[h,go_sem,go_sem_proc,aJ,gW]<;>try refine aw ?_ ?_)
def RE:=ck vH λ(x:Int)=>some (.same (.bool (fX x)))
@[go_sem] theorem aMe (x:Int):RE [.int .i64 x]=some (.same (.bool (fX x))):=cx yq x
theorem aze (T:bd)(aa7:T DP=aW RD)(x:Int):WP T XF (.same (.bool (fX x))) [.J (.int .i64 x)]:=by
 refine cy ?_;simp only[XF];unfold fX;refine a0 ?_;repeat' (intro h<;>simp only[h,go_sem,go_sem_proc,aa7]<;>try refine aw ?_ ?_)
abbrev aa8:Int->List Data:=λ(x:Int)=>[.int .i64 x,.ptr [.fn nv []]]
def aa9:=ck aa8 λ(x:Int)=>some (.same (.bool (!fX x)))
theorem azf:∀a b,aa8 a=aa8 b->a=b:=by
  intro a8 bY h;simp only[ba,Data.int.injEq,Data.agg.injEq,Data.Y.injEq,Data.bool.injEq,Data.str.injEq,Data.ptr.injEq,Data.cI.injEq,fb,true_and,and_true] at h ⊢
  first|exact h|simpa [yr,and_assoc] using h|grind
@[go_sem] theorem azg (x:Int):aa9 [.int .i64 x,.ptr [.fn nv []]]=some (.same (.bool (!fX x))):=cx azf x
theorem azh (T:bd)(aba:T nv=aW RE)(x:Int):WP T XR (.same (.bool (!fX x))) [.J (.int .i64 x),.J (.ptr [.fn nv []])]:=by
 refine cy ?_;simp only[XR];refine a0 ?_;repeat' (intro h<;>simp only[h,go_sem,go_sem_proc,aba]<;>try refine aw ?_ ?_)
abbrev abb:Int×(List Int)×(List aq)×(List bo)×(List Rat)×(List (List Int))×(List Int)->List Data:=λ(x,E,cs,aA,ps,aK,set)=>[.int .i64 x,.ptr (eU E cs aA (ps.map au) aK),.ptr [.Y (set.map ae)]]
def IB:=ck abb λ(x,E,cs,aA,ps,aK,set)=>cR (nd E cs ps/\D set<=1000000) (.same (.bool (qZ cs ps set x)))
theorem azi:∀a b,abb a=abb b->a=b:=by
  rintro⟨a8,uK,uL,o2,IC,CI,akP⟩ ⟨bY,uM,n1,nX,ID,CJ,akQ⟩ h;simp only[ba,Data.int.injEq,Data.ptr.injEq,Data.Y.injEq,and_true,true_and] at h;obtain⟨F,cq,I⟩:=h;obtain⟨rfl,rfl,rfl,cr,rfl⟩:=AF cq;rw[F,map_inj fp _ _ I,map_inj (λ_ _ aU=>sR aU) _ _ cr]
@[go_sem] theorem akR (x:Int)(E:List Int)(cs:List aq)(aA:List bo)(ps:List Rat)(aK:List (List Int))(set:List Int)(H:nd E cs ps/\D set<=1000000):IB [.int .i64 x,.ptr (eU E cs aA (ps.map au) aK),.ptr [.Y (set.map ae)]]=some (.same (.bool (qZ cs ps set x))):=(cx azi (x,E,cs,aA,ps,aK,set)).trans (cW H _)
theorem IE (T:bd)(id:FuncId)(eP:List Data)(aQ:List Data->Option eL)(cQ:T id=aW aQ)(p:Int->Bool)(l:List Int)(ar:(D l)<=1000000)(eA:∀x∈l,aQ (.int .i64 x::eP)=some (.same (.bool (p x)))):WP T K3 (.same (.int .i64 (kP p l))) [.J (.Y (l.map ae)),.J (.fn id eP)]:=by
 refine cy ?_;simp only[K3];simp only[go_sem,go_sem_proc,al];refine dn [0,1,7] [] (λ(i:Nat) tm mem=>i<=D l/\(∀x∈l.take i,p x=false)/\tm 8=.J (.int .i64 i)) (λi=>D l-i) 0 (by refine⟨fv _,by simp,rfl⟩) ?_;intro vs ms aV aS;simp only[go_sem,go_sem_proc,al] at aV aS;subst aV aS;rintro i tm mem O hm ⟨M,fi,cl⟩;simp only[go_sem,go_sem_proc,ba] at O hm;obtain⟨ao,F,bP⟩:=O;have iK:∀m:Mem,(eP.map R.J).mapM (cE 6 m)=some eP:=λm=>tP (cE 6 m) (λd=>rfl) eP;rcases dA (i<D l) with ay|cj
 ·have Q:=bx ay;have mN:=eA _ (o1 ay);have cp:=λh=>LJ (p:=p) fi Q h;have hO:=λh=>Qc (p:=p) fi Q h;generalize l[i]=x at *;have hn:decide ((i:Int)<(D l:Int))=true:=di;have hw:=ff (i:=i) (by omega);rcases ah:p x
  ·rw[ah] at mN;simp only[go_sem,go_sem_proc,cQ,ao,F,bP,cl,Q,hn,hw,mN,iK,ae,al,bl,kK];repeat' (first|refine aw ?_ ?_|fail)<;>intro h<;>simp only[h,go_sem,go_sem_proc,cQ,ao,F,bP,cl,Q,hn,hw,mN,iK,ae,al,bl,kK]
   exact⟨i+1,by omega,by omega,hO ah,rfl⟩
  ·rw[ah] at mN;rw[cp ah];simp only[go_sem,go_sem_proc,cQ,ao,F,bP,cl,Q,hn,hw,mN,iK,ae,al,bl,kK];repeat' (first|refine aw ?_ ?_|fail)<;>intro h<;>simp only[h,go_sem,go_sem_proc,cQ,ao,F,bP,cl,Q,hn,hw,mN,iK,ae,al,bl,kK]
 ·have hn:decide ((i:Int)<(D l:Int))=false:=c9;obtain rfl:i=D l:=by omega
  rw[lf] at fi;rw[Qb fi];simp only[go_sem,go_sem_proc,ao,F,bP,cl,hn,al];repeat' (first|refine aw ?_ ?_|fail)<;>intro h<;>simp only[h,go_sem,go_sem_proc,ao,F,bP,cl,hn,al]
inductive AG where
 |right
 |day
 |hold
 |solve (h:List bo) (i:Nat)
 |r4
 |CK (E:List Int) (cs:List aq) (aA:List bo) (ps:List Rat) (aK:List (List Int)) (set:List Int)
def q0:AG->Data
 |.right => .fn KU [.ptr [.fn vD []]]
 |.day => .fn BB []
 |.hold => .fn wW []
 |.solve h i => .fn DM [.ptr [.Y (h.map aH)],.ptr [.int .i64 i]]
 |.r4 => .fn BC [.ptr [.fn nv []]]
 |.CK E cs aA ps aK set => .fn tU [.ptr (eU E cs aA (ps.map au) aK),.ptr [.Y (set.map ae)]]
theorem azj:∀a b:AG,q0 a=q0 b->a=b:=by
 intro a b e
 cases a<;>cases b
 all_goals first|rfl|(simp[q0,KU,BB,DM,wW,BC,tU] at e;done)|skip
 ·simp only[q0,Data.fn.injEq,ba,Data.ptr.injEq,Data.Y.injEq,Data.int.injEq,and_true,true_and] at e;rw[map_inj m7 _ _ e.1,Int.ofNat.inj e.2]
 ·simp only[q0,Data.fn.injEq,ba,Data.ptr.injEq,Data.Y.injEq,and_true,true_and] at e;obtain⟨cq,I⟩:=e;obtain⟨rfl,rfl,rfl,cr,rfl⟩:=AF cq;rw[map_inj fp _ _ I,map_inj (λ_ _ aU=>sR aU) _ _ cr]
def pv:AG->Int->Bool
 |.right,x => !fX x
 |.day,x => !fX x
 |.hold,x => !fX x
 |.solve h i,x=>decide (lK (h.getD i er) (au (x:Rat))<0)
 |.r4,x => !fX x
 |.CK _ cs _ ps _ set,x=>qZ cs ps set x
def IF (l:List Int):AG->Prop
 |.right=>True
 |.day=>BB<900000
 |.hold=>wW<900000
 |.solve h i=>DM<900000/\i<D h/\gv h/\∀x∈l,dw x
 |.r4=>BC<900000
 |.CK E cs _ ps _ set=>tU<900000/\nd E cs ps/\D set<=1000000
abbrev RF:(List Int)×AG->List Data:=λ(l,c)=>[.Y (l.map ae),q0 c]
def AH:=ck RF λ(l,c)=>cR (D l<=1000000/\IF l c) (.same (.int .i64 (kP (pv c) l)))
theorem akS:∀a b,RF a=RF b->a=b:=by
  rintro⟨dW,aJ⟩ ⟨ak,c2⟩ h;simp only[ba,Data.Y.injEq,and_true] at h;exact dT (map_inj fp _ _ h.1) (azj _ _ h.2)
@[go_sem] theorem akT (l:List Int)(c:AG)(H:(D l)<=1000000/\IF l c):AH [.Y (l.map ae),q0 c]=some (.same (.int .i64 (kP (pv c) l))):=(cx akS (l,c)).trans (cW H _)
theorem azk (T:bd)(azl:T KU=aW aaS)(azm:BB<900000->T BB=aW aa5)(abc:wW<900000->T wW=aW RC)(azn:DM<900000->T DM=aW aa4)(azo:BC<900000->T BC=aW aa9)(MY:tU<900000->T tU=aW IB)(l:List Int)(c:AG)(H:(D l)<=1000000/\IF l c):WP T K3 (.same (.int .i64 (kP (pv c) l))) [.J (.Y (l.map ae)),.J (q0 c)]:=by
 refine cy ?_;simp only[K3];obtain⟨ar,c1⟩:=H
 cases c with
 |right=>exact qQ (IE T _ _ _ azl (pv .right) l ar λx _=>ayV x)
 |day=>exact qQ (IE T _ _ _ (azm c1) (pv .day) l ar λx _=>ay8 x)
 |hold=>exact qQ (IE T _ _ _ (abc c1) (pv .hold) l ar λx _=>azb x)
 |solve h k=>exact qQ (IE T _ _ _ (azn c1.1) (pv (.solve h k)) l ar λx Q=>ay5 x h k ⟨c1.2.2.2 x Q,c1.2.1,c1.2.2.1⟩)
 |r4=>exact qQ (IE T _ _ _ (azo c1) (pv .r4) l ar λx _=>azg x)
 |CK E cs aA ps aK set=>exact qQ (IE T _ _ _ (MY c1.1) (pv (.CK E cs aA ps aK set)) l ar λx _=>akR x E cs aA ps aK set c1.2)
def MZ:=ck RF λ(l,c)=>cR (D l<=1000000/\IF l c) (.same (.bool (l.any (pv c))))
@[go_sem] theorem abd (l:List Int)(c:AG)(H:(D l)<=1000000/\IF l c):MZ [.Y (l.map ae),q0 c]=some (.same (.bool (l.any (pv c)))):=(cx akS (l,c)).trans (cW H _)
theorem azp (T:bd)(nf:T wT=aW AH)(l:List Int)(c:AG)(H:(D l)<=1000000/\IF l c):WP T VN (.same (.bool (l.any (pv c)))) [.J (.Y (l.map ae)),.J (q0 c)]:=by
 refine cy ?_;simp only[VN];rw[<-LK];refine a0 ?_;repeat' (intro h<;>simp only[h,go_sem,go_sem_proc,nf,H]<;>try refine aw ?_ ?_)
abbrev abe:Int×Int×Int×Int×(List Int)->List Data:=λ(a,b,k,x,E)=>[.agg [.int .i64 a,.int .i64 b,.int .i64 k,.int .i64 x],.ptr [.Y (E.map ae)]]
def abf:=ck abe λ(a,b,k,x,E)=>cR (D E<=1000000) (.same (.bool (!hp (D E) (a,b,k,x))))
theorem azq:∀a b,abe a=abe b->a=b:=by
  rintro⟨cT,dh,cd,a8,uK⟩ ⟨c7,eK,c0,bY,uM⟩ h;simp only[ba,Data.agg.injEq,Data.int.injEq,Data.ptr.injEq,Data.Y.injEq,and_true,true_and] at h;obtain⟨⟨F,I,af,aO⟩,bm⟩:=h;rw[F,I,af,aO,map_inj fp _ _ bm]
@[go_sem] theorem azr (a:Int)(b:Int)(k:Int)(x:Int)(E:List Int)(H:(D E)<=1000000):abf [.agg [.int .i64 a,.int .i64 b,.int .i64 k,.int .i64 x],.ptr [.Y (E.map ae)]]=some (.same (.bool (!hp (D E) (a,b,k,x)))):=(cx azq (a,b,k,x,E)).trans (cW H _)
theorem azs (T:bd)(MX:T KX=aW RA)(a:Int)(b:Int)(k:Int)(x:Int)(E:List Int)(H:(D E)<=1000000):WP T aaQ (.same (.bool (!hp (D E) (a,b,k,x)))) [.J (.agg [.int .i64 a,.int .i64 b,.int .i64 k,.int .i64 x]),.J (.ptr [.Y (E.map ae)])]:=by
 refine cy ?_;simp only[aaQ]
 by_cases ab:hp (D E) (a,b,k,x)=true
 ·have Ga:=MQ.1 ab;dsimp only at Ga;have aJ:decide (a<0)=false:=c9;have c2:decide (a>=(D E:Int))=false:=c9;have c3:decide (b < -1)=false:=c9;have c4:decide (b>=(D E:Int))=false:=c9;have aaL:decide (k<0)=false:=c9;have aaM:decide (k>=10)=false:=c9;have M0:fX x=true:=Rj.2 (by omega);refine a0 ?_;repeat' (intro h<;>simp only[h,go_sem,go_sem_proc,MX,ab,aJ,c2,c3,c4,aaL,aaM,M0,al,cK]<;>try refine aw ?_ ?_)
 ·have aI:hp (D E) (a,b,k,x)=false:=by simpa using ab
  rw[MQ] at ab;dsimp only at ab;rcases M0:fX x
  ·refine a0 ?_;repeat' (intro h<;>simp only[h,go_sem,go_sem_proc,MX,aI,M0,al,cK,dt]<;>try refine aw ?_ ?_)
  ·have aMf:=Rj.1 M0;refine a0 ?_;repeat' (intro h<;>simp only[h,go_sem,go_sem_proc,MX,aI,M0,al,cK,dt]<;>try refine aw ?_ ?_)
   all_goals (exfalso;simp only[decide_eq_false_iff_not] at *;omega)
abbrev abg:Int×Int×Int×Int×Int->List Data:=λ(a,b,k,x,n)=>[.agg [.int .i64 a,.int .i64 b,.int .i64 k,.int .i64 x],.ptr [.int .i64 n],.ptr [.fn wW []]]
def abh:=ck abg λ(a,b,k,x,n)=>cR (0<=n/\n<=1000000) (.same (.bool (!hp n (a,b,k,x))))
theorem azt:∀a b,abg a=abg b->a=b:=by
  rintro⟨cT,dh,cd,a8,hF⟩ ⟨c7,eK,c0,bY,ir⟩ h;simp only[ba,Data.int.injEq,Data.agg.injEq,Data.Y.injEq,Data.bool.injEq,Data.str.injEq,Data.ptr.injEq,Data.cI.injEq,fb,true_and,and_true] at h ⊢
  first|exact h|simpa [yr,and_assoc] using h|grind
@[go_sem] theorem azu (a:Int)(b:Int)(k:Int)(x:Int)(n:Int)(H:0<=n/\n<=1000000):abh [.agg [.int .i64 a,.int .i64 b,.int .i64 k,.int .i64 x],.ptr [.int .i64 n],.ptr [.fn wW []]]=some (.same (.bool (!hp n (a,b,k,x)))):=(cx azt (a,b,k,x,n)).trans (cW H _)
theorem azv (T:bd)(aa6:T DS=aW RB)(abc:T wW=aW RC)(a:Int)(b:Int)(k:Int)(x:Int)(n:Int)(H:0<=n/\n<=1000000):WP T aaY (.same (.bool (!hp n (a,b,k,x)))) [.J (.agg [.int .i64 a,.int .i64 b,.int .i64 k,.int .i64 x]),.J (.ptr [.int .i64 n]),.J (.ptr [.fn wW []])]:=by
 refine cy ?_;simp only[aaY];have w:IntKind.i64.wrap (n-1)=n-1:=by rw[eS _]
 have e:hp n (a,b,k,x)=((decide (0<=a)&&decide (a<=n-1))&&((decide (-1<=b)&&decide (b<=n-1))&&((decide (0<=k)&&decide (k<=9))&&fX x))):=by
  rw[qL,MQ];simp only[e4,decide_eq_true_eq,Rj];omega
 rw[e];rcases aJ:(decide (0<=a)&&decide (a<=n-1))<;>rcases c2:(decide (-1<=b)&&decide (b<=n-1))<;>rcases c3:(decide (0<=k)&&decide (k<=9))<;>rcases c4:fX x
 all_goals
      refine a0 ?_;repeat' (intro h<;>simp only[h,go_sem,go_sem_proc,aa6,abc,w,aJ,c2,c3,c4]<;>try refine aw ?_ ?_)
abbrev abi:Int×Int×Int×Int×Int->List Data:=λ(a,b,k,x,n)=>[.agg [.int .i64 a,.int .i64 b,.int .i64 k,.int .i64 x],.ptr [.int .i64 n],.ptr [.fn nv []]]
def abj:=ck abi λ(a,b,k,x,n)=>cR (0<=n/\n<=1000000) (.same (.bool (hp n (a,b,k,x))))
theorem azw:∀a b,abi a=abi b->a=b:=by
  rintro⟨cT,dh,cd,a8,hF⟩ ⟨c7,eK,c0,bY,ir⟩ h;simp only[ba,Data.int.injEq,Data.agg.injEq,Data.Y.injEq,Data.bool.injEq,Data.str.injEq,Data.ptr.injEq,Data.cI.injEq,fb,true_and,and_true] at h ⊢
  first|exact h|simpa [yr,and_assoc] using h|grind
@[go_sem] theorem aMg (a:Int)(b:Int)(k:Int)(x:Int)(n:Int)(H:0<=n/\n<=1000000):abj [.agg [.int .i64 a,.int .i64 b,.int .i64 k,.int .i64 x],.ptr [.int .i64 n],.ptr [.fn nv []]]=some (.same (.bool (hp n (a,b,k,x)))):=(cx azw (a,b,k,x,n)).trans (cW H _)
theorem azx (T:bd)(aa7:T DP=aW RD)(aba:T nv=aW RE)(a:Int)(b:Int)(k:Int)(x:Int)(n:Int)(H:0<=n/\n<=1000000):WP T XH (.same (.bool (hp n (a,b,k,x)))) [.J (.agg [.int .i64 a,.int .i64 b,.int .i64 k,.int .i64 x]),.J (.ptr [.int .i64 n]),.J (.ptr [.fn nv []])]:=by
 refine cy ?_;simp only[XH];have w:IntKind.i64.wrap (n-1)=n-1:=by rw[eS _]
 have e:hp n (a,b,k,x)=((decide (0<=a)&&decide (a<=n-1))&&((decide (-1<=b)&&decide (b<=n-1))&&((decide (0<=k)&&decide (k<=9))&&fX x))):=by
  rw[qL,MQ];simp only[e4,decide_eq_true_eq,Rj];omega
 rw[e];rcases aJ:(decide (0<=a)&&decide (a<=n-1))<;>rcases c2:(decide (-1<=b)&&decide (b<=n-1))<;>rcases c3:(decide (0<=k)&&decide (k<=9))<;>rcases c4:fX x
 all_goals
      refine a0 ?_;repeat' (intro h<;>simp only[h,go_sem,go_sem_proc,aa7,aba,w,aJ,c2,c3,c4]<;>try refine aw ?_ ?_)
abbrev abk:Int×Int×Int×Int×Int->List Data:=λ(a,b,k,x,n)=>[.agg [.int .i64 a,.int .i64 b,.int .i64 k,.int .i64 x],.ptr [.fn yp [.ptr [.int .i64 n],.ptr [.fn nv []]]]]
def abl:=ck abk λ(a,b,k,x,n)=>cR (0<=n/\n<=1000000) (.same (.bool (!hp n (a,b,k,x))))
theorem azy:∀a b,abk a=abk b->a=b:=by
  rintro⟨cT,dh,cd,a8,hF⟩ ⟨c7,eK,c0,bY,ir⟩ h;simp only[ba,Data.int.injEq,Data.agg.injEq,Data.Y.injEq,Data.bool.injEq,Data.str.injEq,Data.ptr.injEq,Data.cI.injEq,fb,true_and,and_true] at h ⊢
  first|exact h|simpa [yr,and_assoc] using h|grind
@[go_sem] theorem azz (a:Int)(b:Int)(k:Int)(x:Int)(n:Int)(H:0<=n/\n<=1000000):abl [.agg [.int .i64 a,.int .i64 b,.int .i64 k,.int .i64 x],.ptr [.fn yp [.ptr [.int .i64 n],.ptr [.fn nv []]]]]=some (.same (.bool (!hp n (a,b,k,x)))):=(cx azy (a,b,k,x,n)).trans (cW H _)
theorem azA (T:bd)(azB:T yp=aW abj)(a:Int)(b:Int)(k:Int)(x:Int)(n:Int)(H:0<=n/\n<=1000000):WP T XS (.same (.bool (!hp n (a,b,k,x)))) [.J (.agg [.int .i64 a,.int .i64 b,.int .i64 k,.int .i64 x]),.J (.ptr [.fn yp [.ptr [.int .i64 n],.ptr [.fn nv []]]])]:=by
 refine cy ?_;simp only[XS];refine a0 ?_;repeat' (intro h<;>simp only[h,go_sem,go_sem_proc,azB,H]<;>try refine aw ?_ ?_)
abbrev abm:Int×Int×Int×Int×Int×Int×(List Int)->List Data:=λ(a,b,k,x,i,e,set)=>[.agg [.int .i64 a,.int .i64 b,.int .i64 k,.int .i64 x],.ptr [.int .i64 i],.ptr [.int .i64 e],.ptr [.Y (set.map ae)]]
def abn:=ck abm λ(a,b,k,x,i,e,set)=>cR (D set<=1000000) (.same (.bool (a==i&&(k==e&&(decide (x>0) && !decide (b∈set))))))
theorem azC:∀a b,abm a=abm b->a=b:=by
  rintro⟨cT,dh,cd,a8,i1,aC,akP⟩ ⟨c7,eK,c0,bY,i2,aD,akQ⟩ h;simp only[ba,Data.agg.injEq,Data.int.injEq,Data.ptr.injEq,Data.Y.injEq,and_true,true_and] at h;obtain⟨⟨F,I,af,aO⟩,bm,bK,bP⟩:=h;rw[F,I,af,aO,bm,bK,map_inj fp _ _ bP]
@[go_sem] theorem azD (a:Int)(b:Int)(k:Int)(x:Int)(i:Int)(e:Int)(set:List Int)(H:(D set)<=1000000):abn [.agg [.int .i64 a,.int .i64 b,.int .i64 k,.int .i64 x],.ptr [.int .i64 i],.ptr [.int .i64 e],.ptr [.Y (set.map ae)]]=some (.same (.bool (a==i&&(k==e&&(decide (x>0) && !decide (b∈set)))))):=(cx azC (a,b,k,x,i,e,set)).trans (cW H _)
theorem M3 (T:bd)(id:FuncId)(eP:List Data)(aQ:List Data->Option eL)(cQ:T id=aW aQ)(p:aq->Bool)(l:List aq)(ar:(D l)<=1000000)(eA:∀a b k z,(a,b,k,z)∈l->aQ (.agg [.int .i64 a,.int .i64 b,.int .i64 k,.int .i64 z]::eP)=some (.same (.bool (p (a,b,k,z))))):WP T K5 (.same (.int .i64 (kP p l))) [.J (.Y (l.map b4)),.J (.fn id eP)]:=by
 refine cy ?_;simp only[K5];simp only[go_sem,go_sem_proc,al];refine dn [0,1,7] [] (λ(i:Nat) tm mem=>i<=D l/\(∀x∈l.take i,p x=false)/\tm 8=.J (.int .i64 i)) (λi=>D l-i) 0 (by refine⟨fv _,by simp,rfl⟩) ?_;intro vs ms aV aS;simp only[go_sem,go_sem_proc,al] at aV aS;subst aV aS;rintro i tm mem O hm ⟨M,fi,cl⟩;simp only[go_sem,go_sem_proc,ba] at O hm;obtain⟨ao,F,bP⟩:=O;have iK:∀m:Mem,(eP.map R.J).mapM (cE 6 m)=some eP:=λm=>tP (cE 6 m) (λd=>rfl) eP;rcases dA (i<D l) with ay|cj
 ·have Q:=bx ay;have Cg:=o1 ay;have cp:=λh=>LJ (p:=p) fi Q h;have hO:=λh=>Qc (p:=p) fi Q h;generalize l[i]=x at *;obtain⟨a,b,k,z⟩:=x;have mN:=eA a b k z Cg;have hn:decide ((i:Int)<(D l:Int))=true:=di;have hw:=ff (i:=i) (by omega);rcases ah:p (a,b,k,z)
  ·rw[ah] at mN;simp only[go_sem,go_sem_proc,cQ,ao,F,bP,cl,Q,hn,hw,mN,iK,b4,al,bl,kK];repeat' (first|refine aw ?_ ?_|fail)<;>intro h<;>simp only[h,go_sem,go_sem_proc,cQ,ao,F,bP,cl,Q,hn,hw,mN,iK,b4,al,bl,kK]
   exact⟨i+1,by omega,by omega,hO ah,rfl⟩
  ·rw[ah] at mN;rw[cp ah];simp only[go_sem,go_sem_proc,cQ,ao,F,bP,cl,Q,hn,hw,mN,iK,b4,al,bl,kK];repeat' (first|refine aw ?_ ?_|fail)<;>intro h<;>simp only[h,go_sem,go_sem_proc,cQ,ao,F,bP,cl,Q,hn,hw,mN,iK,b4,al,bl,kK]
 ·have hn:decide ((i:Int)<(D l:Int))=false:=c9;obtain rfl:i=D l:=by omega
  rw[lf] at fi;rw[Qb fi];simp only[go_sem,go_sem_proc,ao,F,bP,cl,hn,al];repeat' (first|refine aw ?_ ?_|fail)<;>intro h<;>simp only[h,go_sem,go_sem_proc,ao,F,bP,cl,hn,al]
inductive AJ where
 |right (n:Int)
 |day (E:List Int)
 |hold (n:Int)
 |r4 (n:Int)
 |E6 (i e:Int) (set:List Int)
def uO:AJ->Data
 |.right n => .fn KV [.ptr [.fn vD []],.ptr [.int .i64 n]]
 |.day E => .fn DO [.ptr [.Y (E.map ae)]]
 |.hold n => .fn GG [.ptr [.int .i64 n],.ptr [.fn wW []]]
 |.r4 n => .fn DQ [.ptr [.fn yp [.ptr [.int .i64 n],.ptr [.fn nv []]]]]
 |.E6 i e set => .fn DR [.ptr [.int .i64 i],.ptr [.int .i64 e],.ptr [.Y (set.map ae)]]
theorem azE:∀a b:AJ,uO a=uO b->a=b:=by
 intro a b e
 cases a<;>cases b
 all_goals first|(simp[uO,KV,DO,GG,DQ,DR] at e;done)|simp only[uO,Data.fn.injEq,ba,Data.ptr.injEq,Data.Y.injEq,Data.int.injEq,and_true,true_and] at e
 ·rw[e]
 ·rw[map_inj fp _ _ e]
 ·rw[e]
 ·rw[e]
 ·rw[e.1,e.2.1,map_inj fp _ _ e.2.2]
def r5:AJ->aq->Bool
 |.right n,c => !hp n c
 |.day E,c => !hp (D E) c
 |.hold n,c => !hp n c
 |.r4 n,c => !hp n c
 |.E6 i e set,c=>c.1==i&&(c.2.2.1==e&&(decide (c.2.2.2>0) && !decide (c.2.1∈set)))
def IG:AJ->Prop
 |.right n=>0<=n/\n<=1000000
 |.day E=>DO<900000/\D E<=1000000
 |.hold n=>GG<900000/\0<=n/\n<=1000000
 |.r4 n=>DQ<900000/\0<=n/\n<=1000000
 |.E6 _ _ set=>DR<900000/\D set<=1000000
abbrev RG:(List aq)×AJ->List Data:=λ(l,c)=>[.Y (l.map b4),uO c]
def abo:=ck RG λ(l,c)=>cR (D l<=1000000/\IG c) (.same (.int .i64 (kP (r5 c) l)))
theorem akU:∀a b,RG a=RG b->a=b:=by
  rintro⟨dW,aJ⟩ ⟨ak,c2⟩ h;simp only[ba,Data.Y.injEq,and_true] at h;exact dT (map_inj rZ _ _ h.1) (azE _ _ h.2)
@[go_sem] theorem aMh (l:List aq)(c:AJ)(H:(D l)<=1000000/\IG c):abo [.Y (l.map b4),uO c]=some (.same (.int .i64 (kP (r5 c) l))):=(cx akU (l,c)).trans (cW H _)
theorem azF (T:bd)(azG:T KV=aW aaV)(azH:DO<900000->T DO=aW abf)(azI:GG<900000->T GG=aW abh)(azJ:DQ<900000->T DQ=aW abl)(azK:DR<900000->T DR=aW abn)(l:List aq)(c:AJ)(H:(D l)<=1000000/\IG c):WP T K5 (.same (.int .i64 (kP (r5 c) l))) [.J (.Y (l.map b4)),.J (uO c)]:=by
 refine cy ?_;simp only[K5];obtain⟨ar,c1⟩:=H
 cases c with
 |right n=>exact qQ (M3 T _ _ _ azG (r5 (.right n)) l ar λa b k z _=>ayY a b k z n c1)
 |day E=>exact qQ (M3 T _ _ _ (azH c1.1) (r5 (.day E)) l ar λa b k z _=>azr a b k z E c1.2)
 |hold n=>exact qQ (M3 T _ _ _ (azI c1.1) (r5 (.hold n)) l ar λa b k z _=>azu a b k z n c1.2)
 |r4 n=>exact qQ (M3 T _ _ _ (azJ c1.1) (r5 (.r4 n)) l ar λa b k z _=>azz a b k z n c1.2)
 |E6 i e set=>exact qQ (M3 T _ _ _ (azK c1.1) (r5 (.E6 i e set)) l ar λa b k z _=>azD a b k z i e set c1.2)
def IH:=ck RG λ(l,c)=>cR (D l<=1000000/\IG c) (.same (.bool (l.any (r5 c))))
@[go_sem] theorem RH (l:List aq)(c:AJ)(H:(D l)<=1000000/\IG c):IH [.Y (l.map b4),uO c]=some (.same (.bool (l.any (r5 c)))):=(cx akU (l,c)).trans (cW H _)
theorem azL (T:bd)(azM:T UZ=aW abo)(l:List aq)(c:AJ)(H:(D l)<=1000000/\IG c):WP T VO (.same (.bool (l.any (r5 c)))) [.J (.Y (l.map b4)),.J (uO c)]:=by
 refine cy ?_;simp only[VO];rw[<-LK];refine a0 ?_;repeat' (intro h<;>simp only[h,go_sem,go_sem_proc,azM,H]<;>try refine aw ?_ ?_)
theorem E7 {α:Type}(l:List α)(p:α->Bool):l.any (λx => !p x) = !l.all p:=by
 induction l with
 |nil=>rfl
 |cons a l az=>rw[List.any_cons,List.all_cons,az];cases p a<;>rfl
def abp:=ck Iq λ(E,cs)=>cR (D E<=1000000/\D cs<=1000000) (.same (.bool (hL E cs)))
@[go_sem] theorem aMi (E:List Int)(cs:List aq)(H:(D E)<=1000000/\D cs<=1000000):abp [.Y (E.map ae),.Y (cs.map b4)]=some (.same (.bool (hL E cs))):=(cx Rg (E,cs)).trans (cW H _)
theorem azN (T:bd)(II:T DN=aW MZ)(CL:T zP=aW IH)(E:List Int)(cs:List aq)(H:(D E)<=1000000/\D cs<=1000000):WP T Xu (.same (.bool (hL E cs))) [.J (.Y (E.map ae)),.J (.Y (cs.map b4))]:=by
 refine cy ?_;simp only[Xu];obtain⟨F,I⟩:=H;rw[akb];have dz:=abd E .right ⟨F,trivial⟩;have fw:=RH cs (.right (D E)) ⟨I,by show (0:Int)<=(D E:Int);omega,by show (D E:Int)<=1000000;omega⟩
 have aC:E.any (pv .right) = !E.all fX:=E7 E fX;have aD:cs.any (r5 (.right (D E))) = !cs.all (hp (D E)):=E7 cs _;rw[aC] at dz;rw[aD] at fw;simp only[q0] at dz;simp only[uO] at fw;have d1:decide (D E<=60)=decide ((D E:Int)<=60):=by rw[qL,decide_eq_true_iff,decide_eq_true_iff];omega
 have d2:decide (D cs<=2000)=decide ((D cs:Int)<=2000):=by rw[qL,decide_eq_true_iff,decide_eq_true_iff];omega
 rw[d1,d2];rcases fl:decide ((D E:Int)<=60)<;>rcases e6:decide ((D cs:Int)<=2000)<;>rcases rX:E.all fX<;>rcases m9:cs.all (hp (D E))
 all_goals rw[rX] at dz
 all_goals rw[m9] at fw
 all_goals
      refine a0 ?_;repeat' (intro h<;>simp only[h,go_sem,go_sem_proc,II,CL,dz,fw,fl,e6,al,cK,dt,vu,h6,cE,nj,hK,scalar]<;>try refine aw ?_ ?_)
def abq:=ck Iq λ(E,cs)=>cR (D E<=1000000/\D cs<=1000000) (.same (.bool (hL E cs)))
@[go_sem] theorem azO (E:List Int)(cs:List aq)(H:(D E)<=1000000/\D cs<=1000000):abq [.Y (E.map ae),.Y (cs.map b4)]=some (.same (.bool (hL E cs))):=(cx Rg (E,cs)).trans (cW H _)
theorem azP (T:bd)(II:T DN=aW MZ)(CL:T zP=aW IH)(E:List Int)(cs:List aq)(H:(D E)<=1000000/\D cs<=1000000):WP T aaN (.same (.bool (hL E cs))) [.J (.Y (E.map ae)),.J (.Y (cs.map b4))]:=by
 refine cy ?_;simp only[aaN];obtain⟨F,I⟩:=H;rw[akb];have dz:=abd E .day ⟨F,by show BB<900000;decide⟩
 have fw:=RH cs (.day E) ⟨I,by decide,F⟩
 have aC:E.any (pv .day) = !E.all fX:=E7 E fX;have aD:cs.any (r5 (.day E)) = !cs.all (hp (D E)):=E7 cs _;rw[aC] at dz;rw[aD] at fw;simp only[q0] at dz;simp only[uO] at fw;have d1:decide (D E<=60) = !decide ((D E:Int)>60):=by rw[qL,decide_eq_true_iff,pU,decide_eq_false_iff_not];omega
 have d2:decide (D cs<=2000) = !decide ((D cs:Int)>2000):=by rw[qL,decide_eq_true_iff,pU,decide_eq_false_iff_not];omega
 rw[d1,d2];rcases fl:decide ((D E:Int)>60)<;>rcases e6:decide ((D cs:Int)>2000)<;>rcases rX:E.all fX<;>rcases m9:cs.all (hp (D E))
 all_goals rw[rX] at dz
 all_goals rw[m9] at fw
 all_goals
      refine a0 ?_;repeat' (intro h<;>simp only[h,go_sem,go_sem_proc,II,CL,dz,fw,fl,e6,al,cK,dt,vu,h6,cE,nj,hK,scalar]<;>try refine aw ?_ ?_)
structure dc.IJ (a:dc):Prop where
 lQ:eI a.E a.cs
 gq:∀x∈a.aK,0<=x/\x<=10
theorem dc.M4 {a:dc}{m:Mem}(h:a.eF m)(aI:a.IJ){i:Nat}(M:i<D a.E):a.aK.getD i 10=(bM a.aK i:Int)/\bM a.aK i<=10:=by
 have ar:=h.aK
 have:a.aK.getD i 10∈a.aK:=by
  rw[dY,bx (by omega)];exact o1 _
 have:=aI.gq _ this;unfold bM;omega
structure abr (x:dc×Nat) (mem:Mem):Prop where
 at_:x.1.eF mem
 no:r1 255 mem
 IK:x.1.IJ
 lt:x.2<x.1.E.length
 f10:bM x.1.aK x.2<10
 S:0<(ax x.1.E x.1.cs).S x.2 (bM x.1.aK x.2)
def RI (x:dc×Nat):Data:=.cI [.Y ((dF x.1.E.length λi=>(ax x.1.E x.1.cs).W (bM x.1.aK) x.2 i).map aH),.bool true]
def RJ:List R->Mem->Option Data:=EY (λ(x:dc×Nat) args mem=>args=[.ptr (228500+x.2) (x.1.gs.getD x.2 0) 0,.J (.int .i64 x.1.E.length)]/\abr x mem) RI
theorem azQ (a:dc)(k:Nat)(mem:Mem)(h:abr (a,k) mem):RJ [.ptr (228500+k) (a.gs.getD k 0) 0,.J (.int .i64 (D a.E))] mem=some (RI (a,k)):=by
 refine aaE (a:=(a,k)) ?_ ⟨rfl,h⟩;rintro⟨a,i⟩ ⟨b,j⟩ args mem ⟨aC,aD⟩ ⟨b9,dg⟩;obtain rfl:=dc.uniq aD.at_ dg.at_;rw[aC] at b9;simp only[ba,R.ptr.injEq,R.J.injEq,Data.int.injEq,true_and,and_true] at b9;have F:228500+i=228500+j:=b9.1;have:i=j:=by omega
 rw[this]
theorem azR (N:Nat)(aQ:bo):(dG N (aH aQ)).flatten.map R.J=bc aH (dG N aQ):=by
 unfold bc;rw[HW,List.map_flatten,HW]
theorem azS (T:bd)(hC:T pa=aW wj)(azT:T Ux=aW Zm)(hB:T vw=aW B1)(lg:T yo=aW Ac)(a:dc)(k:Nat)(mem:Mem)(h:abr (a,k) mem):
  wp T P9.body (oe P9.res λm mem'=>cE 6 emp m=some (RI (a,k))/\et 255 mem mem') ⟨km [.ptr (228500+k) (a.gs.getD k 0) 0,.J (.int .i64 (D a.E))],mem⟩:=by
 obtain⟨cp,h5,r6,O,qb,cS⟩:=h;dsimp only at *;obtain⟨X,gq⟩:=r6;have aL:=X.jv;have sJ:=cp.dx k O;have uz:=(dc.M4 cp ⟨X,gq⟩ O).1;have c1:=a.xF k;have hlen:=CG c1;have ml:=MU c1;rw[show (a.gJ k).f=(bM a.aK k:Int) from uz] at ml;have CM:=akG (x:=a.gJ k) (k:=bM a.aK k) (l:=df a.cs k (bM a.aK k)) (jb _ qb);have tf:=MT c1 (k:=bM a.aK k) (z:=cU a.cs k (bM a.aK k:Nat)) (jb _ (by omega));have akV:=MT c1 (k:=bM a.aK k+1) (z:=cU a.cs k (bM a.aK k+1:Nat)) (jb _ (by omega));have WW:∀j,228500+k≠255000+j:=λj=>by omega
 generalize fG (a.gJ k)=DC at *;have RK:=CD 0 AD;have aX:dF (D a.E) (kg (ax a.E a.cs) [])=dG (D a.E) (au ((0:Int):Rat)):=(ML Au λj ai=>by rw[akv,ad ai,ayL];rfl).symm;generalize gu:df a.cs k (bM a.aK k)=L at *;refine qs ?_;simp only[P9];have uP:(228500+k)/1000≠255:=by omega
 have lI:mem 255017=none:=h5 255017 (by decide);have gm:=λc (H:c∈L)=>EW.1 (gu ▸ H:c∈df a.cs k (bM a.aK k));have akW:=λc (H:c∈L)=>(Ru X cS (gu ▸ H:c∈df a.cs k (bM a.aK k))).2.2;have akX:=λl i (ar:∃fP,L=l++fP)=>ayN X cS (l:=l) (by rw[gu];exact ar) i;have akY:=λi=>ayM X.right (bM a.aK) k i;rw[gu] at akY
 have aMj:(D L)<=12:=by
  have F:=mg (λc:aq=>c.1==(k:Int)&&c.2.2.1==(bM a.aK k:Int)) a.cs;have I:=X.p7;rw[<-gu];unfold df;omega
 have aMk:(0:Int)<kT a.cs k (bM a.aK k):=by
  have F:=QX X.right k (bM a.aK k);rw[<-F] at cS;have:(0:Int)<cU a.cs k (bM a.aK k+1:Nat)-cU a.cs k (bM a.aK k):=by exact_mod_cast cS
  exact this
 have azU:kT a.cs k (bM a.aK k)=cU a.cs k (bM a.aK k+1:Nat)-cU a.cs k (bM a.aK k:Nat):=rfl;have Xo:=X.upto k (bM a.aK k+1:Nat);have Eg:=X.upto k (bM a.aK k:Nat);have azV:=(gd.1 X.right).2.2.2;generalize dK:228500+k=eh at *;have oU:∀j,eh≠255000+j:=λj=>by omega
 have M5:(eh=255009)=False:=eq_false (oU 9);have akZ:(eh=255010)=False:=eq_false (oU 10);have ak0:(eh=255012)=False:=eq_false (oU 12);have abt:(eh=255017)=False:=eq_false (oU 17);have E8:(eh==255009)=false:=beq_eq_false_iff_ne.2 (oU 9);have ak1:(eh==255010)=false:=beq_eq_false_iff_ne.2 (oU 10);have ak2:(eh==255012)=false:=beq_eq_false_iff_ne.2 (oU 12);have ak3:(eh==255017)=false:=beq_eq_false_iff_ne.2 (oU 17);have d9:(255009==eh)=false:=beq_eq_false_iff_ne.2 (oU 9).symm;have d10:(255010==eh)=false:=beq_eq_false_iff_ne.2 (oU 10).symm;have d12:(255012==eh)=false:=beq_eq_false_iff_ne.2 (oU 12).symm;have d17:(255017==eh)=false:=beq_eq_false_iff_ne.2 (oU 17).symm;have dW:bM a.aK k+1<11:=by omega
 have ak:bM a.aK k<11:=by omega
 have bJ:(1+bM a.aK k+1<=24)=True:=eq_true (by omega);have b3:(11+bM a.aK k+1<=24)=True:=eq_true (by omega);have ak4:(11+(bM a.aK k+1)+1<=24)=True:=eq_true (by omega);have wf:IntKind.i64.wrap ((bM a.aK k:Int)+1)=((bM a.aK k+1:Nat):Int):=by rw[eS _];omega
 have kJ:=sJ;generalize aMl:cU a.cs k (bM a.aK k+1:Nat)=RL at *;generalize aMm:cU a.cs k (bM a.aK k:Nat)=azW at *;generalize aMn:bM a.aK k=F0 at *;generalize M6:au ((0:Int):Rat)=Z at *;obtain⟨⟨iB,iZ⟩,⟨tg,y6⟩⟩:=Z;have abu:=awi iB iZ tg y6 (D a.E) (by omega);have gL:=azR (D a.E) ((iB,iZ),(tg,y6));simp only[aH] at RK abu gL;have dq:=akE L;simp only[go_sem,go_sem_proc] at dq;simp only[go_sem,go_sem_proc,hC,RK,azT,abu,gL,sJ,hlen,qb,ml,CM,abt,bJ,lI,bD,cL,dq,Au]
 refine dn [0,6,26,27] [] (λ(j:Nat) tm m=>j<=D L/\tm 28=.J (.int .i64 j)/\tm 7=.J (.bool true)/\m 255017=some (0,bc aH (dF (D a.E) (kg (ax a.E a.cs) (L.take j))))/\et 255 mem m) (λj=>D L-j) 0 (by
  refine⟨by omega,rfl,rfl,?_,(et.refl _ _).fa (by decide)⟩
  rw[m0,aX];simp[a4,lI,gD]) ?_
 intro vs ms aV aS;simp only[go_sem,go_sem_proc] at aV aS;subst aV aS;clear RK abu gL sJ;rintro j tm m O-⟨ai,oq,bR,CN,bT⟩;simp only[go_sem,go_sem_proc,ba] at O;obtain⟨bI,bE,ig,ih⟩:=O;have ah:=(bT eh uP).trans kJ;rcases dA (j<D L) with ay|cj
 ·have d1:decide ((j:Int)<(D L:Int))=true:=di;have bX:=ff (i:=j) (by omega);obtain⟨⟨aJ,c2,c3,c4⟩,Q⟩:∃c,L[j]?=some c:=⟨_,bx ay⟩;have Cg:=ec Q;have lx:=azV _ (gm _ Cg).1;dsimp only at lx;have sW:=akF Q;simp only[go_sem,go_sem_proc] at sW;have fY:L.take (j+1)=L.take j++[(aJ,c2,c3,c4)]:=by rw[hv,Q];rfl
  rcases q:decide (c2<0)
  ·have vg:0<=c2:=by have:=of_decide_eq_false q;omega
   obtain⟨t,rfl⟩:∃t:Nat,c2=(t:Int):=⟨c2.toNat,by omega⟩
   have hw:=akW _ Cg;dsimp only at hw;have ly:=ays (p:=c4) (q:=kT a.cs k F0) (oT (by omega) (by omega)) (oT (by omega) (by omega)) (by omega);rw[<-hw] at ly;have RM:=agH c4 (kT a.cs k F0) ⟨oT (by omega) (by omega),oT (by omega) (by omega)⟩;rw[ly] at RM;have iB:=akX (L.take j) t ⟨L.drop j,(sx j L).symm⟩;have iZ:=ayt X (gm _ Cg).1;have iL:=akc (kt iB (by omega)) (kt iZ (by omega)) (Cx iB iZ (by omega))
   have AK:dF (D a.E) (kg (ax a.E a.cs) (L.take (j+1)))=(dF (D a.E) (kg (ax a.E a.cs) (L.take j))).set t (au (kg (ax a.E a.cs) (L.take j) t+(ax a.E a.cs).w (cC (aJ,(t:Int),c3,c4)))):=by
    rw[ayu];refine Ii λi _=>?_;rw[fY,akD]
    by_cases M:i=t
    ·rw[ad M,ad (by dsimp only;omega),M]
    ·rw[ag M,ag (by dsimp only;omega),nI]
   have ak5:IntKind.i64.wrap (RL-azW)=kT a.cs k F0:=by rw[wrap64 _ (by omega) (by omega),azU]
   have Yt:(dF (D a.E) (kg (ax a.E a.cs) (L.take j))).length=D a.E:=p6 _ _;have azX:=uI (N:=D a.E) (kg (ax a.E a.cs) (L.take j)) (k:=t) (by omega);clear iB iZ akX akW ly hw;generalize au (kg (ax a.E a.cs) (L.take j) t+(ax a.E a.cs).w (cC (aJ,(t:Int),c3,c4)))=F1 at *;generalize au (kg (ax a.E a.cs) (L.take j) t)=F2 at *;generalize au ((ax a.E a.cs).w (cC (aJ,(t:Int),c3,c4)))=F3 at *;generalize dF (D a.E) (kg (ax a.E a.cs) (L.take j))=bU at *;obtain⟨⟨cT,c7⟩,⟨dZ,fm⟩⟩:=F1;obtain⟨⟨f1,f2⟩,⟨f3,f4⟩⟩:=F2;obtain⟨⟨cq,cr⟩,⟨g2,jH⟩⟩:=F3;have t1:=HG azX;have t2:=HF (l:=bU) (k:=t) (by omega);have t3:=YL (l:=bU) (k:=t) (by omega) cT c7 dZ fm;have Ou:t<D a.E:=by omega
   simp only[aH,ew] at RM iL;simp only[go_sem,go_sem_proc,hB,lg,bI,bE,bR,ig,ih,oq,ah,CN,sW,hlen,ml,tf,akV,wf,ak5,d1,bX,q,RM,iL,t1,t2,t3,Ou,qb,dW,ak,bJ,b3,ak4,M5,akZ,ak0,abt,E8,ak1,ak2,ak3,d9,d10,d12,d17,b4,bD,cL,beq_self_eq_true];repeat' (first|refine aw ?_ ?_|fail)<;>intro h<;>simp only[h,go_sem,go_sem_proc,hB,lg,bI,bE,bR,ig,ih,oq,ah,CN,sW,hlen,ml,tf,akV,wf,ak5,d1,bX,q,RM,iL,t1,t2,t3,Ou,qb,dW,ak,bJ,b3,ak4,M5,akZ,ak0,abt,E8,ak1,ak2,ak3,d9,d10,d12,d17,b4,bD,cL,beq_self_eq_true]
   refine⟨j+1,by omega,by omega,rfl,by rw[AK],by repeat first|exact bT|refine et.fa ?_ (by decide)⟩
  ·have vg:c2<0:=of_decide_eq_true q
   have AK:dF (D a.E) (kg (ax a.E a.cs) (L.take (j+1)))=dF (D a.E) (kg (ax a.E a.cs) (L.take j)):=Ii λi _=>by
    rw[fY,akD,ag (by dsimp only;omega),nI]
   simp only[go_sem,go_sem_proc,bI,bE,bR,ig,ih,oq,ah,CN,sW,d1,bX,q,b4,cL];repeat' (first|refine aw ?_ ?_|fail)<;>intro h<;>simp only[h,go_sem,go_sem_proc,bI,bE,bR,ig,ih,oq,ah,CN,sW,d1,bX,q,b4,cL]
   refine⟨j+1,by omega,by omega,rfl,by rw[AK],by repeat first|exact bT|refine et.fa ?_ (by decide)⟩
 ·have d1:decide ((j:Int)<(D L:Int))=false:=c9;rw[dy (by omega)] at CN;have AK:dF (D a.E) (kg (ax a.E a.cs) L)=dF (D a.E) λi=>(ax a.E a.cs).W (bM a.aK) k i:=Ii λi _=>akY i;rw[AK] at CN;have lz:(dF (D a.E) λi=>(ax a.E a.cs).W (bM a.aK) k i).length=D a.E:=p6 _ _;have ke:=λ(K:bb->Prop) (st:bb)=>lE (K:=K) (st:=st) nC 6 255017 0 (dF (D a.E) λi=>(ax a.E a.cs).W (bM a.aK) k i);rw[lz] at ke;simp only[go_sem,go_sem_proc,bI,bE,bR,ig,ih,oq,ah,CN,d1,ke];repeat' (first|refine aw ?_ ?_|fail)<;>intro h<;>simp only[h,go_sem,go_sem_proc,bI,bE,bR,ig,ih,oq,ah,CN,d1,ke]
  exact⟨_,rfl,rfl,by repeat first|exact bT|refine et.fa ?_ (by decide)|refine et.kill ?_ (by decide)⟩
theorem ak6 (N:Nat)(x:Nat->Rat):dF (N+1) x=dF N x++[au (x N)]:=by
 unfold dF;rw[oS,kR,kR];rfl
theorem wq {l:List R}{k:Nat}{y:R}(h:l[k]?=some y):fN 1 (fT k l)=[y]:=by
 have:=wm (f:=id) h;rwa [List.map_id] at this
def th (n:Nat)(W:Nat->Nat->Rat)(k:Nat):List Data:=[.Y ((dF n (W k)).map aH)]
theorem azY (T:bd)(hC:T pa=aW wj)(hX:T vx=aW yK){K:eW->bb->Prop}{kk:List gn}(eC:Mem)(n:Nat)(aL:n<=60)(p:List Nat)(aF:(D p)<=60)(W:Nat->Nat->Rat)(r i:Nat)(M:i<n)(sE:∀k,k<(D p)->dX 54 (W (p.getD k 0) i))(v0 v1 v10 v20 ak7 ak8:R)(bL IL:Nat)(aJ c2 c3 c4:R)(ak9:Option (Nat×List R))(tm:Nat->R)(m:Mem)
  (bI:tm 0=v0) (aC:tm 1=v1) (aD:tm 2=.J (.Y (p.map iC))) (b9:tm 3=.J (.Y (p.map (th n W)))) (ef:tm 10=v10) (jw:tm 11=.J (.int .i64 r)) (gh:tm 12=.J (.int .i64 i)) (h9:tm 13=.ptr 256013 bL 0) (mm:tm 20=v20) (pe:tm 21=ak7) (uj:tm 22=ak8) (nN:tm 50=.J (.int .i64 (D p))) (nO:tm 51=.J (.int .i64 0)) (IM:m 256013=some (bL,[.ref 256076 IL 4 0 0,aJ,c2,c3,c4])) (IP:m 256076=some (IL,[])) (E9:m 256082=ak9) (bT:et 256 eC m)
  (dK:∀tm' m' ala,tm' 0=v0->tm' 1=v1->tm' 2=.J (.Y (p.map iC))->tm' 3=.J (.Y (p.map (th n W)))->tm' 10=v10->tm' 13=.ptr 256013 bL 0->tm' 20=v20->tm' 21=ak7->tm' 22=ak8->m' 256013=some (bL,[.ref 256076 ala 4 0 (D p),aJ,c2,c3,c4])->m' 256076=some (ala,bc aH (dF (D p) λk=>(if r=k then 1 else 0)-W (p.getD k 0) i))->m' 256082=ak9->et 256 eC m'->cJ T K kk (.exit 2) ⟨tm',m'⟩) :
  wp T (Hk.body.sub [1,1,0,1,0,0,0,1,1,0,0,1,1,0,1,0]) (cJ T K kk) ⟨tm,m⟩:=by
 simp only[Hk,ez.sub];refine dn [0,1,2,3,10,11,12,13,20,21,22,50] [256082] (λ((k,g):Nat×Nat) tm m=>k<=D p/\tm 51=.J (.int .i64 k)/\m 256013=some (bL,[.ref 256076 g 4 0 k,aJ,c2,c3,c4])/\m 256076=some (g,bc aH (dF k λk=>(if r=k then 1 else 0)-W (p.getD k 0) i))/\et 256 eC m) (λ(k,_)=>D p-k) (0,IL) (by refine⟨by omega,nO,IM,IP,bT⟩) ?_;intro vs ms aV aS;simp only[go_sem,go_sem_proc,bI,aC,aD,b9,ef,jw,gh,h9,mm,pe,uj,nN,E9] at aV aS;subst aV aS;clear bI aC aD b9 ef jw gh h9 mm pe uj nN nO IM IP E9 bT tm m;rintro⟨k,g⟩ tm m O hm ⟨H2,nO,IM,IP,bT⟩;simp only[go_sem,go_sem_proc,ba] at O hm;obtain⟨bI,aC,aD,b9,ef,jw,gh,h9,mm,pe,uj,nN⟩:=O;rcases dA (k<D p) with ay|cj
 ·have d1:decide ((k:Int)<(D p:Int))=true:=di;have bX:=ff (i:=k) (by omega);obtain⟨wu,Q⟩:∃c,p[k]?=some c:=⟨_,bx ay⟩;have pY:p.getD k 0=wu:=by rw[dY,Q];rfl
  have M7:=sE k ay;have aV:=ak6 k λk=>(if r=k then 1 else 0)-W (p.getD k 0) i;have b0:(dF k λk=>(if r=k then 1 else 0)-W (p.getD k 0) i).length=k:=p6 _ _;have dC:=λ(aQ:bo) cs kZ=>l3 nC Hl 256076 g 64 (dF k λk=>(if r=k then 1 else 0)-W (p.getD k 0) i) aQ (cs:=cs) kZ (by omega) (by omega);simp only[b0] at dC;rw[pY] at M7 aV;have a7:=uI (W wu) M;generalize dF k (λk=>(if r=k then 1 else 0)-W (p.getD k 0) i)=V at *;generalize vQ:dF (k+1) (λk=>(if r=k then 1 else 0)-W (p.getD k 0) i)=V2 at *;clear dK sE;have key:∀o:Int,(o=0\/o=1)->(if r=k then (1:Rat) else 0)=(o:Rat)->True:=λ_ _ _=>trivial;rcases q:((k:Int)==(r:Int))
  ·have hZ:¬ r=k:=by have:=ne_of_beq_false q;omega
   have hw:=CD 0 AD;have X:=Rk (nM AD) (kt M7 (by omega)) (Cx (xD (z:=0) (b:=1) (by decide)) (Cy M7) (by omega));rw[ag hZ,show (0:Rat)=((0:Int):Rat) from rfl] at aV;generalize au ((0:Int):Rat)=Z at *;generalize au (W wu i)=eT at *;generalize au (((0:Int):Rat)-W wu i)=dd at *;obtain⟨⟨iB,iZ⟩,⟨tg,y6⟩⟩:=Z;obtain⟨⟨tV,tW⟩,⟨E0,E1⟩⟩:=eT;obtain⟨⟨a8,bY⟩,⟨c5,ey⟩⟩:=dd;have r7:=dC ((a8,bY),(c5,ey)) _ rfl;rw[<-aV] at r7;simp only[aH,eG,cV] at r7 hw X;refine a0 ?_;repeat' (intro h<;>simp only[h,go_sem,go_sem_proc,hC,hX,bI,aC,aD,b9,ef,jw,gh,h9,mm,pe,uj,nN,nO,IM,IP,hm,d1,bX,q,Q,th,a7,hw,X,r7,aH,al,bl,bne,beq_self_eq_true,cK,v5]<;>try refine aw ?_ ?_)
   exact⟨(k+1,g+1),by dsimp only;omega,by dsimp only;omega,rfl,rfl,by rw[<-vQ],by repeat first|exact bT|refine et.fa ?_ (by decide)⟩
  ·have hZ:r=k:=by have:=eq_of_beq q;omega
   have hw:=CD 1 aaG;have X:=Rk (nM aaG) (kt M7 (by omega)) (Cx (xD (z:=1) (b:=1) (by decide)) (Cy M7) (by omega));rw[ad hZ,show (1:Rat)=((1:Int):Rat) from rfl] at aV;generalize au ((1:Int):Rat)=Z at *;generalize au (W wu i)=eT at *;generalize au (((1:Int):Rat)-W wu i)=dd at *;obtain⟨⟨iB,iZ⟩,⟨tg,y6⟩⟩:=Z;obtain⟨⟨tV,tW⟩,⟨E0,E1⟩⟩:=eT;obtain⟨⟨a8,bY⟩,⟨c5,ey⟩⟩:=dd;have r7:=dC ((a8,bY),(c5,ey)) _ rfl;rw[<-aV] at r7;simp only[aH,eG,cV] at r7 hw X;refine a0 ?_;repeat' (intro h<;>simp only[h,go_sem,go_sem_proc,hC,hX,bI,aC,aD,b9,ef,jw,gh,h9,mm,pe,uj,nN,nO,IM,IP,hm,d1,bX,q,Q,th,a7,hw,X,r7,aH,al,bl,bne,beq_self_eq_true,cK,v5]<;>try refine aw ?_ ?_)
   exact⟨(k+1,g+1),by dsimp only;omega,by dsimp only;omega,rfl,rfl,by rw[<-vQ],by repeat first|exact bT|refine et.fa ?_ (by decide)⟩
 ·have d1:decide ((k:Int)<(D p:Int))=false:=c9;obtain rfl:k=D p:=by omega
  refine a0 ?_;repeat' (intro h<;>simp only[h,go_sem,go_sem_proc,bI,aC,aD,b9,ef,jw,gh,h9,mm,pe,uj,nN,nO,d1]<;>try refine aw ?_ ?_)
  refine dK _ _ g ?_ ?_ ?_ ?_ ?_ ?_ ?_ ?_ ?_ IM IP hm bT<;>simp only[eV,dJ,if_false,bI,aC,aD,b9,ef,h9,mm,pe,uj]
structure abv (a:dc) (mem:Mem):Prop where
 at_:a.eF mem
 no:r1 256 mem
 IK:a.IJ
 fA:td (ax a.E a.cs) (bM a.aK) (ft a.P)
def dc.p (a:dc):List Nat:=cZ (ft a.P) (D a.E)
def RN (a:dc):List R:=[.ref 228023 a.g 1 0 (D a.E),.J (.Y ((bA (D a.E) λi=>lk a.E a.cs (bM a.aK) i).map ae)),.J (.Y (a.p.map iC)),.J (.Y (a.p.map (th (D a.E) λk i=>(ax a.E a.cs).W (bM a.aK) k i)))]
def dc.xs (a:dc):List bo:=dF (D a.p) λk=>(ax a.E a.cs).fg (bM a.aK) (ft a.P) (a.p.getD k 0)-(ax a.E a.cs).bt (a.p.getD k 0) (bM a.aK (a.p.getD k 0))
def RO (a:dc):Data:=.cI [.Y (a.xs.map aH),.bool true]
def RP:List R->Mem->Option Data:=EY (λ(a:dc) args mem=>args=RN a/\abv a mem) RO
theorem azZ (a:dc)(mem:Mem)(h:abv a mem):RP (RN a) mem=some (RO a):=by
 refine aaE (a:=a) ?_ ⟨rfl,h⟩;rintro a b args mem ⟨aC,aD⟩ ⟨b9,dg⟩;rw[dc.uniq aD.at_ dg.at_]
theorem az0 (T:bd)(hC:T pa=aW wj)(hX:T vx=aW yK)(az1:T Ut=aW Za)(a:dc)(mem:Mem)(aP:abv a mem):
  wp T Hk.body (oe Hk.res λm mem'=>cE 6 emp m=some (RO a)/\et 256 mem mem') ⟨km (RN a),mem⟩:=by
 obtain⟨cp,h5,r6,mS⟩:=aP;have uz:=λi=>dc.M4 cp r6 (i:=i);obtain⟨X,gq⟩:=r6;have aL:=X.jv;have mD:=λk=>xA (P:=ft a.P) (n:=D a.E) (k:=k);have Rc:=axJ X mS;have M8:=aad X mS.rS (cZ (ft a.P) (D a.E)) (λk O=>⟨(xA O).2,(xA O).1⟩) λi j M ai=>aae M ai;have az2:=λk (O:ft a.P k) i=>(Rb X mS O i).1
 have aMo:(cZ (ft a.P) (D a.E)).length<=6:=by
  unfold cZ;exact eQ (mg _ _) (by rw[sA];exact aL)
 have az3:mem 256082=none:=h5 256082 (by decide);unfold RN RO dc.xs dc.p;generalize aF:cZ (ft a.P) (D a.E)=p at *;generalize dz:(ax a.E a.cs).uJ (bM a.aK) p=A at *;generalize az4:(bA (D a.E) λi=>lk a.E a.cs (bM a.aK) i).map ae=alb at *;have az5:∀i,i<(D a.E)->alb[i]?=some [.int .i64 (lk a.E a.cs (bM a.aK) i)]:=λi M=>by rw[<-az4,bl,jb _ M];rfl
 refine qs ?_;simp only[Hk];simp only[go_sem,go_sem_proc,az3,al];refine dn [0,1,2,3,20,21] [] (λ((r,g):Nat×Nat) tm m=>r<=D p/\tm 22=.J (.int .i64 r)/\tm 10=.ref 256082 g 5 0 r/\m 256082=some (g,bc j6 ((rowsOf (D p) A).take r))/\et 256 mem m) (λ(r,_)=>D p-r) (0,0) (by refine⟨by omega,rfl,rfl,rfl,(et.refl _ _).fa (by decide)⟩) ?_;intro vs ms aV aS;simp only[go_sem,go_sem_proc,al] at aV aS;subst aV aS;rintro⟨r,g⟩ tm m O hm ⟨alc,uj,ef,E9,bT⟩;simp only[go_sem,go_sem_proc,ba] at O;obtain⟨bI,aC,aD,b9,mm,pe⟩:=O;rcases dA (r<D p) with ay|cj
 ·have d1:decide ((r:Int)<(D p:Int))=true:=di;have bX:=ff (i:=r) (by omega);obtain⟨i,Q⟩:∃c,p[r]?=some c:=⟨_,bx ay⟩;have ER:p.getD r 0=i:=by rw[dY,Q];rfl
  obtain⟨M,az6⟩:=mD r ay;rw[ER] at M az6;obtain⟨r6,qb⟩:=uz i M;have eR:=(bT.at 228023 (by omega)).trans cp.row;have fk:=(bT.at (228500+i) (by omega)).trans (cp.dx i M);have iv:=wq (jb (λi=>R.ptr (228500+i) (a.gs.getD i 0) 0) M);have b0:(bA (D a.E) λi=>R.ptr (228500+i) (a.gs.getD i 0) 0).length=D a.E:=gI _ _;have c1:=a.xF i;have hlen:=CG c1;have ml:=MU c1;rw[show (a.gJ i).f=(bM a.aK i:Int) from r6] at ml;have tf:=MT c1 (k:=bM a.aK i) (z:=cU a.cs i (bM a.aK i:Nat)) (jb _ (by omega));have dv:=az5 i M;have dh:=X.steady (bM a.aK) i;have eK:=X.upto i (bM a.aK i);have az7:IntKind.i64.wrap (lk a.E a.cs (bM a.aK) i-cU a.cs i (bM a.aK i:Nat))=lk a.E a.cs (bM a.aK) i-cU a.cs i (bM a.aK i:Nat):=by rw[eS _]
  have hw:=CD (lk a.E a.cs (bM a.aK) i-cU a.cs i (bM a.aK i:Nat)) (oT (by omega) (by omega))
  have az8:A r (D p)=((lk a.E a.cs (bM a.aK) i-cU a.cs i (bM a.aK i:Nat):Int):Rat):=by
   rw[<-dz];unfold Day.uJ;rw[ag (by omega),ER,<-MN X.right,<-rU X.right,Ct]
  have az9:∀k,k<(D p)->A r k=(if r=k then 1 else 0)-(ax a.E a.cs).W (bM a.aK) (p.getD k 0) i:=λk O=>by
   rw[<-dz];unfold Day.uJ;rw[ad O,ER]
  have dW:i+1<=D a.E:=by omega
  have ak:bM a.aK i<11:=by omega
  have bJ:(11+bM a.aK i+1<=24)=True:=eq_true (by omega);rw[<-az8] at hw;generalize uP:228500+i=eh at *;generalize fG (a.gJ i)=DC at *;generalize (bA (D a.E) λi=>R.ptr (228500+i) (a.gs.getD i 0) 0)=xG at *;generalize lk a.E a.cs (bM a.aK) i=S1 at *;generalize cU a.cs i (bM a.aK i:Nat)=RL at *;generalize bM a.aK i=F0 at *;generalize iw:au (A r (D p))=eT at *;obtain⟨⟨tV,tW⟩,⟨E0,E1⟩⟩:=eT;simp only[aH] at hw;have aAa:(eh==256013)=false:=beq_eq_false_iff_ne.2 (by omega);have aAb:(256013==eh)=false:=beq_eq_false_iff_ne.2 (by omega);have aAc:(eh=256013)=False:=eq_false (by omega);simp only[go_sem,go_sem_proc,hC,bI,aC,aD,b9,ef,mm,pe,uj,eR,fk,iv,b0,hlen,ml,tf,dv,az7,hw,Q,d1,bX,M,dW,ak,bJ,aAa,aAb,aAc,bD,iC,cL,al,bl];refine ayo (kc:=256013) (g:=gD (m 256013)) (off:=0) (cs:=[.nil,.J (.int .i64 tV),.J (.Y (tW.map ae)),.J (.int .i64 E0),.J (.Y (E1.map ae))]) ?_ ?_ rfl (by decide) ?_
  ·simp only[go_sem,go_sem_proc]
  ·simp[a4]
  simp only[go_sem,go_sem_proc,aD,al,v5];refine azY T hC hX mem (D a.E) (by omega) p (by omega) (λk i=>(ax a.E a.cs).W (bM a.aK) k i) r i M (λk O=>az2 _ (mD k O).2 i) (.ref 228023 a.g 1 0 (D a.E)) (.J (.Y alb)) (.ref 256082 g 5 0 r) (.J (.Y (p.map iC))) (.J (.int .i64 (D p))) (.J (.int .i64 r)) (gD (m 256013)) (gD (m 256076)) (.J (.int .i64 tV)) (.J (.Y (tW.map ae))) (.J (.int .i64 E0)) (.J (.Y (E1.map ae))) (some (g,bc j6 ((rowsOf (D p) A).take r))) _ _ ?_ ?_ ?_ ?_ ?_ ?_ ?_ ?_ ?_ ?_ ?_ ?_ ?_ ?_ ?_ ?_ ?_ ?_
  ·simp only[eV,dJ,if_false];exact bI
  ·simp only[eV,dJ,if_false];exact aC
  ·simp only[eV,dJ,if_false];exact aD
  ·simp only[eV,dJ,if_false];exact b9
  ·simp only[eV,dJ,if_false];exact ef
  ·simp only[eV,dJ,if_false,if_true]
  ·simp only[eV,dJ,if_false,if_true]
  ·simp only[eV,dJ,if_false,if_true]
  ·simp only[eV,dJ,if_false];exact mm
  ·simp only[eV,dJ,if_false];exact pe
  ·simp only[eV,dJ,if_false];exact uj
  ·simp only[eV,dJ,if_false,if_true]
  ·simp only[eV,dJ,if_false,if_true]
  ·simp[a4]
  ·simp[a4]
  ·simp only[a4,dJ,if_false];exact E9
  ·repeat first|exact bT|refine et.fa ?_ (by decide)
  intro tm cO IL fE cd c0 ev kN w8 RQ aAd aAe aAf abw aAg q1;have aAh:(dF (D p) λk=>(if r=k then 1 else 0)-(ax a.E a.cs).W (bM a.aK) (p.getD k 0) i)=dF (D p) (A r):=Ii λk O=>(az9 k O).symm;rw[aAh] at abw;clear bI aC aD b9 ef mm pe uj E9 eR fk iv bT;have dC:=λcs kZ=>l3 agU ayv 256082 g 88 ((rowsOf (D p) A).take r) (dF (D p) (A r),au (A r (D p))) (cs:=cs) kZ;have po:((rowsOf (D p) A).take r).length=r:=by rw[gf,CC];omega
  have fY:(rowsOf (D p) A).take r++[(dF (D p) (A r),au (A r (D p)))]=(rowsOf (D p) A).take (r+1):=by
   rw[hv,ajB A ay];rfl
  rw[po,fY,iw] at dC;have lz:(dF (D p) (A r)).length=D p:=p6 _ _;generalize dF (D p) (A r)=V at *;have r7:=dC _ rfl (by omega) (by omega);simp only[aH,j6,eG,cV] at r7;simp only[go_sem,go_sem_proc];refine ayp (kc:=256013) (gc:=gD (m 256013)) (off:=0) (cc:=[.ref 256076 IL 4 0 (D p),.J (.int .i64 tV),.J (.Y (tW.map ae)),.J (.int .i64 E0),.J (.Y (E1.map ae))]) (k:=256076) (g:=IL) (sz:=4) (o:=0) (len:=D p) (cs:=bc aH V) (d:=.Y (V.map aH)) ?_ aAf rfl abw (ae2 _ _) (by decide) ?_ ?_
  ·exact w8
  ·have:=pM (n:=0) nC abw;rw[lz] at this;exact this
  refine a0 ?_;repeat' (intro h<;>simp only[h,go_sem,go_sem_proc,fE,cd,c0,ev,kN,w8,RQ,aAd,aAe,aAg,r7,bX,v5]<;>try refine aw ?_ ?_)
  exact⟨(r+1,g+1),by dsimp only;omega,by dsimp only;omega,rfl,rfl,rfl,by repeat first|exact q1|refine et.fa ?_ (by decide)⟩
 ·have d1:decide ((r:Int)<(D p:Int))=false:=c9;have alc:r=D p:=by omega
  have hlen:=CC (D p) A;rw[dy (by rw[hlen];omega)] at E9;obtain⟨dh,eK⟩:=Rc;have kf:rK (rowsOf (D p) A):=axB (by omega) λi M k O=>kt (M8.sz (by omega) M O) (by omega);have eA:=av3 (rowsOf (D p) A) (D p) kf;rw[dh] at eA;dsimp only at eA;have ke:=λ(K:bb->Prop) (st:bb)=>lE (K:=K) (st:=st) agU 10 256082 g (rowsOf (D p) A);rw[hlen] at ke;subst alc;refine a0 ?_;repeat' (intro h<;>simp only[h,go_sem,go_sem_proc,az1,bI,aC,aD,b9,ef,mm,pe,uj,E9,d1,ke,eA,al,bne,beq_self_eq_true,cK]<;>try refine aw ?_ ?_)
  exact⟨_,rfl,rfl,by repeat first|exact bT|refine et.fa ?_ (by decide)|refine et.kill ?_ (by decide)⟩
end Go.Mini
namespace Go.Mini
open Classical
def ti (cs:List aq)(f:Nat->Nat)(n:Nat):List aq:=(dS n).flatMap λi=>(dS (f i)).flatMap λk=>df cs i k
theorem aAi (aQ:Nat->List aq)(r n:Nat)(h:r<=n):((dS n).flatMap λk=>if k<r then aQ k else [])=(dS r).flatMap aQ:=by
 induction n with
 |zero=>rw[show r=0 by omega];rfl
 |succ n az =>
  rw[oS,y2,qy,CE,fC]
  by_cases ab:r=n+1
  ·subst ab;rw[ad (by omega),oS,y2,qy,CE,fC]
   congr 1
   rw[y3,y3]
   congr 1
   exact lY λk O=>ad (by have:=ha.1 O;omega)
  ·rw[ag (by omega),fC];exact az (by omega)
theorem ald {α:Type}(l:List α)(aQ:α->List aq)(p:aq->Bool):(l.flatMap aQ).filter p=l.flatMap λx=>(aQ x).filter p:=by
 induction l with
 |nil=>rfl
 |cons a l az=>rw[qy,qy,p8,az]
theorem aAj {cs:List aq}{f:Nat->Nat}{n:Nat}(aI:∀i,i<n->f i<=10):ti cs f n=(du n cs).filter λc=>decide (c.2.2.1<(f c.1.toNat:Int)):=by
 unfold ti du;rw[ald,y3,y3]
 congr 1
 refine lY λi M=>?_;rw[ald,<-aAi (λk=>df cs i k) (f i) 10 (aI i (ha.1 M)),y3,y3]
 congr 1
 refine lY λk _=>?_
 by_cases h:k<f i
 ·rw[ad h];refine (List.filter_eq_self.2 λc H=>?_).symm;obtain⟨-,F,I⟩:=EW.1 H;rw[F,I,jX];exact di
 ·rw[ag h];refine (Ir.2 λc H=>?_).symm;obtain⟨-,F,I⟩:=EW.1 H;rw[F,I,jX,decide_eq_true_eq];omega
theorem aAk (cs:List aq)(p:aq->Prop)[DecidablePred p](aQ:aq->Int):cv (cs.filter λc=>decide (p c)) aQ=cv cs λc=>if p c then aQ c else 0:=by
 induction cs with
 |nil=>rfl
 |cons c l az =>
  by_cases h:p c
  ·rw[qX (by simpa using h)];simp only[cv,az,ad h]
  ·rw[r0 (by simpa using h),az];simp only[cv,ag h];omega
def e2 (j:Nat)(c:aq):Int:=if c.2.1=(j:Int) then c.2.2.2 else 0
theorem ale {E:List Int}{cs:List aq}{f:Nat->Nat}(M9:cs=du (D E) cs)(aI:∀i,i<(D E)->f i<=10)(j:Nat):lk E cs f j=E.getD j 0+cv (ti cs f (D E)) (e2 j):=by
 rw[aAj aI,<-M9,aAk cs (λc=>c.2.2.1<(f c.1.toNat:Int))];unfold lk
 congr 1
 refine H8 λc _=>?_;unfold e2
 by_cases F:c.2.1=(j:Int)
 ·by_cases I:c.2.2.1<(f c.1.toNat:Int)
  ·rw[ad ⟨F,I⟩,ad I,ad F]
  ·rw[ag λh=>I h.2,ag I]
 ·rw[ag λh=>F h.1,ag F]
  split<;>rfl
theorem aAl {cs:List aq}{f:Nat->Nat}{n:Nat}{c:aq}(h:c∈ti cs f n):c∈cs:=by
 unfold ti at h;simp only[yd] at h;obtain⟨i,-,k,-,H⟩:=h;exact (EW.1 H).1
def kv (cs:List aq)(f:Nat->Nat)(i k t:Nat):List aq:=ti cs f i++(((dS k).flatMap λk=>df cs i k)++(df cs i k).take t)
theorem aAm (cs:List aq)(f:Nat->Nat):kv cs f 0 0 0=[]:=rfl
theorem aAn (cs:List aq)(f:Nat->Nat)(i k:Nat):kv cs f i k (df cs i k).length=kv cs f i (k+1) 0:=by
 unfold kv;rw[lf,m0,fC,oS,y2,qy,CE,fC]
theorem aAo (cs:List aq)(f:Nat->Nat)(i:Nat):kv cs f i (f i) 0=kv cs f (i+1) 0 0:=by
 unfold kv ti;rw[m0,m0,fC,oS,y2,qy,CE,fC];simp
theorem alf (cs:List aq)(f:Nat->Nat)(n:Nat):kv cs f n 0 0=ti cs f n:=by
 unfold kv;simp
theorem alg (cs:List aq)(f:Nat->Nat){n i k t:Nat}(M:i<n)(O:k<f i):∃l,ti cs f n=kv cs f i k t++l:=by
 have aL:∃m,n=i+1+m:=⟨n-(i+1),by omega⟩
 obtain⟨m,rfl⟩:=aL;have aI:∃r,f i=k+1+r:=⟨f i-(k+1),by omega⟩
 obtain⟨r,ab⟩:=aI;have RR:∀(a b:Nat) (aQ:Nat->List aq),(dS (a+b)).flatMap aQ=(dS a).flatMap aQ++((dS b).map (a+·)).flatMap aQ:=λa b aQ=>by rw[alh,y2]
 unfold ti kv;rw[RR,oS,y2,qy,CE,fC,ab,RR,oS,y2,qy,CE,fC];refine⟨(df cs i k).drop t++(((dS r).map (k+1+·)).flatMap (λk=>df cs i k)++((dS m).map (i+1+·)).flatMap λi=>(dS (f i)).flatMap λk=>df cs i k),?_⟩;unfold ti;simp only[gM]
 congr 1
 congr 1
 rw[<-gM ((df cs i k).take t),sx]
theorem ali {E:List Int}{cs:List aq}(h:eI E cs){f:Nat->Nat}(M9:cs=du (D E) cs)(aI:∀i,i<(D E)->f i<=10)(j:Nat){l fP:List aq}(ar:ti cs f (D E)=l++fP):0<=cv l (e2 j)/\cv l (e2 j)<=13000000000000000:=by
 have Dg:∀m:List aq,(∀c∈m,c∈cs)->0<=cv m (e2 j):=by
  intro m
  induction m with
  |nil=>intro _;exact Q5 _
  |cons c m az =>
   intro hm;have F:=az λy av=>hm y (gx _ av);have I:=((gd.1 h.right).2.2.2 c (hm c fZ)).2.2.2.2.2.2.1;simp only[cv,e2] at *
   split<;>omega
 have hm:∀c∈l++fP,c∈cs:=λc H=>aAl (by rw[ar];exact H);have F:=Dg l λc H=>hm c (by simp[H]);have I:=Dg fP λc H=>hm c (by simp[H]);have af:=ale M9 aI j;rw[ar,My] at af;have aO:=h.steady f j;have bm:=h.E j;omega
end Go.Mini
namespace Go.Mini
open Go
theorem abx {n c:Nat}(H:c<n)(q:Nat->Int)(v:Int):fN c (yV bD (bA n q))++[R.J (.int .i64 v)]++fT (c+1) (yV bD (bA n q))=yV bD (bA n λj=>if j=c then v else q j):=by
 rw[<-AE,List.map_set,List.set_eq_take_append_cons_drop,ad (by rw[al,gI];exact H)];simp[bD]
theorem aby {n c:Nat}(H:c<n)(q:Nat->Int):fN 1 (fT c (yV bD (bA n q)))=[.J (.int .i64 (q c))]:=wm (f:=bD) (jb q H)
theorem abz (n:Nat)(q:Nat->Int):(yV bD (bA n q)).length=n:=by rw[al,gI]
theorem Fa (l:List aq)(c:aq)(aQ:aq->Int):cv (l++[c]) aQ=cv l aQ+aQ c:=by
 rw[My];simp[cv]
theorem aAp (T:bd){K:eW->bb->Prop}{kk:List gn}(eC:Mem)(n:Nat)(aL:n<=60)(L:List aq)(B:Nat->Int)(fw:∀t j,0<=B j+cv (L.take t) (e2 j)/\B j+cv (L.take t) (e2 j)<=4000000000000000000)(gu:∀c∈L,c.2.1<n /\ -1<=c.2.1)(aMp:(D L)<=2000)(v0 v4 v6 r8 Al alj v30 IQ IU alk alm:R)(bL:Nat)(IV IW:Option (Nat×List R))(tm:Nat->R)(m:Mem)
  (bI:tm 0=v0) (dg:tm 4=v4) (dk:tm 5=.ref 248029 bL 1 0 n) (bE:tm 6=v6) (bR:tm 7=r8) (dE:tm 8=Al) (e0:tm 9=alj) (h0:tm 30=v30) (jd:tm 31=IQ) (je:tm 32=IU) (nN:tm 50=alk) (nO:tm 51=alm) (ot:tm 59=kh L) (kx:tm 60=.J (.int .i64 (D L))) (tj:tm 61=.J (.int .i64 0))
  (mn:m 248029=some (bL,(bA n B).map bD)) (nP:m 248094=IV) (nQ:m 248098=IW) (bT:et 248 eC m)
  (dK:∀tm' m',tm' 0=v0->tm' 4=v4->tm' 5=.ref 248029 bL 1 0 n->tm' 6=v6->tm' 7=r8->tm' 8=Al->tm' 9=alj->tm' 30=v30->tm' 31=IQ->tm' 32=IU->tm' 50=alk->tm' 51=alm->m' 248029=some (bL,(bA n λj=>B j+cv L (e2 j)).map bD)->m' 248094=IV->m' 248098=IW->et 248 eC m'->cJ T K kk (.exit 4) ⟨tm',m'⟩) :
  wp T (vY.body.sub [1,1,1,1,1,0,1,0,0,0,0,1,1,0,0,1,1,0,1,0,0,1,1,0,0,1,1,0]) (cJ T K kk) ⟨tm,m⟩:=by
 simp only[vY,ez.sub]
 refine dn [0,4,5,6,7,8,9,30,31,32,50,51,59,60] [248094,248098] (λ(t:Nat) tm m=>t<=D L/\tm 61=.J (.int .i64 t)/\m 248029=some (bL,(bA n λj=>B j+cv (L.take t) (e2 j)).map bD)/\et 248 eC m) (λt=>D L-t) 0 (by
  refine⟨by omega,tj,?_,bT⟩
  rw[mn]
  congr 3
  exact jK λj _=>by rw[m0];simp[cv]) ?_
 intro vs ms aV aS;simp only[go_sem,go_sem_proc,bI,dg,dk,bE,bR,dE,e0,h0,jd,je,nN,nO,ot,kx,nP,nQ] at aV aS;subst aV aS;clear bI dg dk bE bR dE e0 h0 jd je nN nO ot kx tj mn nP nQ bT tm m;rintro t tm m O hm ⟨Ik,tj,mn,bT⟩;simp only[go_sem,go_sem_proc,ba] at O hm;obtain⟨bI,dg,dk,bE,bR,dE,e0,h0,jd,je,nN,nO,ot,kx⟩:=O;obtain⟨nP,nQ⟩:=hm;rcases dA (t<D L) with ay|cj
 ·have d1:decide ((t:Int)<(D L:Int))=true:=di;have bX:=ff (i:=t) (by omega);obtain⟨⟨aJ,c2,c3,c4⟩,Q⟩:∃c,L[t]?=some c:=⟨_,bx ay⟩;have lx:=gu _ (ec Q);dsimp only at lx;have sW:=akF Q;simp only[go_sem,go_sem_proc] at sW;have fY:L.take (t+1)=L.take t++[(aJ,c2,c3,c4)]:=by rw[hv,Q];rfl
  rcases q:decide (c2>=0)
  ·have vg:c2<0:=by have:=of_decide_eq_false q;omega
   have AK:(bA n λj=>B j+cv (L.take (t+1)) (e2 j))=bA n λj=>B j+cv (L.take t) (e2 j):=jK λj _=>by
    rw[fY,Fa];unfold e2;rw[ag (by dsimp only;omega)];omega
   refine a0 ?_;repeat' (intro h<;>simp only[h,go_sem,go_sem_proc,bI,dg,dk,bE,bR,dE,e0,h0,jd,je,nN,nO,ot,kx,tj,mn,nP,nQ,sW,d1,bX,q,b4,cL]<;>try refine aw ?_ ?_)
   refine⟨t+1,by omega,by omega,rfl,by rw[AK],by repeat first|exact bT|refine et.fa ?_ (by decide)⟩
  ·have vg:0<=c2:=of_decide_eq_true q;obtain⟨i,rfl⟩:∃t:Nat,c2=(t:Int):=⟨c2.toNat,by omega⟩
   have cD:i<n:=by omega
   have kJ:=fw t i;have eJ:=fw (t+1) i;rw[fY,Fa] at eJ;have p9:e2 i (aJ,(i:Int),c3,c4)=c4:=by unfold e2;rw[ad rfl]
   rw[p9] at eJ;have Fb:IntKind.i64.wrap (B i+cv (L.take t) (e2 i)+c4)=B i+cv (L.take t) (e2 i)+c4:=by rw[eS _]
   have AK:(bA n λj=>B j+cv (L.take (t+1)) (e2 j))=bA n λj=>if j=i then B i+cv (L.take t) (e2 i)+c4 else B j+cv (L.take t) (e2 j):=jK λj _=>by
    rw[fY,Fa]
    by_cases ai:j=i
    ·rw[ad ai,ai,p9];omega
    ·rw[ag ai];have:e2 j (aJ,(i:Int),c3,c4)=0:=by unfold e2;rw[ag (by dsimp only;omega)]
     rw[this];omega
   have t1:=aby cD λj=>B j+cv (L.take t) (e2 j);have t2:=abz n λj=>B j+cv (L.take t) (e2 j);have t3:=abx cD (λj=>B j+cv (L.take t) (e2 j)) (B i+cv (L.take t) (e2 i)+c4);rw[<-AK] at t3;have dW:i+1<=n:=by omega
   generalize aA:(bA n λj=>B j+cv (L.take t) (e2 j)).map bD=bU at *;generalize nX:(bA n λj=>B j+cv (L.take (t+1)) (e2 j)).map bD=pW at *;generalize B i+cv (L.take t) (e2 i)=S1 at *;refine a0 ?_;repeat' (intro h<;>simp only[h,go_sem,go_sem_proc,bI,dg,dk,bE,bR,dE,e0,h0,jd,je,nN,nO,ot,kx,tj,mn,nP,nQ,sW,d1,bX,q,Fb,t1,t2,t3,cD,dW,b4,cL]<;>try refine aw ?_ ?_)
   refine⟨t+1,by omega,by omega,rfl,by rw[nX],by repeat first|exact bT|refine et.fa ?_ (by decide)⟩
 ·have d1:decide ((t:Int)<(D L:Int))=false:=c9;rw[dy (by omega)] at mn;refine a0 ?_;repeat' (intro h<;>simp only[h,go_sem,go_sem_proc,bI,dg,dk,bE,bR,dE,e0,h0,jd,je,nN,nO,ot,kx,tj,d1]<;>try refine aw ?_ ?_)
  refine dK _ _ ?_ ?_ ?_ ?_ ?_ ?_ ?_ ?_ ?_ ?_ ?_ ?_ mn nP nQ bT<;>simp only[eV,dJ,if_false,bI,dg,dk,bE,bR,dE,e0,h0,jd,je,nN,nO]
theorem aln (cs:List aq)(f:Nat->Nat)(i k t:Nat):kv cs f i k t=kv cs f i k 0++(df cs i k).take t:=by
 unfold kv;simp
theorem aAq (T:bd){K:eW->bb->Prop}{kk:List gn}(eC:Mem)(E:List Int)(cs:List aq)(f:Nat->Nat)(X:eI E cs)(M9:cs=du (D E) cs)(aI:∀i,i<(D E)->f i<=10)(i:Nat)(M:i<D E)(x:oo)(Q:x.de)(dq:∀k,k<10->x.cF[k]?=some (df cs i k))(B:Nat->Int)(fw:∀j,0<=B j/\B j<=1000000000000000)(eh g:Nat)(uP:eh/1000≠248)(k6:eC eh=some (g,fG x))(v0 v4 v6 r8 Al v30 IQ IU:R)(bL:Nat)(IV IW:Option (Nat×List R))(tm:Nat->R)(m:Mem)
  (bI:tm 0=v0) (dg:tm 4=v4) (dk:tm 5=.ref 248029 bL 1 0 (D E)) (bE:tm 6=v6) (bR:tm 7=r8) (dE:tm 8=Al) (e0:tm 9=.ptr eh g 0) (h0:tm 30=v30) (jd:tm 31=IQ) (je:tm 32=IU) (nN:tm 50=.J (.int .i64 (f i))) (nO:tm 51=.J (.int .i64 0))
  (mn:m 248029=some (bL,(bA (D E) λj=>B j+cv (kv cs f i 0 0) (e2 j)).map bD)) (nP:m 248094=IV) (nQ:m 248098=IW) (bT:et 248 eC m)
  (dK:∀tm' m',tm' 0=v0->tm' 4=v4->tm' 5=.ref 248029 bL 1 0 (D E)->tm' 6=v6->tm' 7=r8->tm' 8=Al->tm' 9=.ptr eh g 0->tm' 30=v30->tm' 31=IQ->tm' 32=IU->m' 248029=some (bL,(bA (D E) λj=>B j+cv (kv cs f (i+1) 0 0) (e2 j)).map bD)->m' 248094=IV->m' 248098=IW->et 248 eC m'->cJ T K kk (.exit 2) ⟨tm',m'⟩) :
  wp T (vY.body.sub [1,1,1,1,1,0,1,0,0,0,0,1,1,0,0,1,1,0,1,0]) (cJ T K kk) ⟨tm,m⟩:=by
 simp only[vY,ez.sub];have r6:=aI i M;have aL:=X.jv;refine dn [0,4,5,6,7,8,9,30,31,32,50] [248094,248098] (λ(k:Nat) tm m=>k<=f i/\tm 51=.J (.int .i64 k)/\m 248029=some (bL,(bA (D E) λj=>B j+cv (kv cs f i k 0) (e2 j)).map bD)/\et 248 eC m) (λk=>f i-k) 0 (by refine⟨by omega,nO,mn,bT⟩) ?_;intro vs ms aV aS;simp only[go_sem,go_sem_proc,bI,dg,dk,bE,bR,dE,e0,h0,jd,je,nN,nP,nQ] at aV aS;subst aV aS;clear bI dg dk bE bR dE e0 h0 jd je nN nO mn nP nQ bT tm m;rintro k tm m O hm ⟨H2,nO,mn,bT⟩;simp only[go_sem,go_sem_proc,ba] at O hm;obtain⟨bI,dg,dk,bE,bR,dE,e0,h0,jd,je,nN⟩:=O;obtain⟨nP,nQ⟩:=hm;rcases dA (k<f i) with ay|cj
 ·have d1:decide ((k:Int)<(f i:Int))=true:=di;have bX:=ff (i:=k) (by omega);have ah:=(bT eh uP).trans k6;have hlen:=CG Q;have CM:=akG (x:=x) (k:=k) (l:=df cs i k) (dq k (by omega));have dW:k<10:=by omega
  have bJ:(1+k+1<=24)=True:=eq_true (by omega);have alo:=akE (df cs i k);simp only[go_sem,go_sem_proc] at alo;generalize fG x=DC at *;simp only[go_sem,go_sem_proc,bI,dg,dk,bE,bR,dE,e0,h0,jd,je,nN,nO,ah,hlen,CM,d1,dW,bJ,alo,cL];refine aAp T eC (D E) (by omega) (df cs i k) (λj=>B j+cv (kv cs f i k 0) (e2 j)) (λt j=>?_) (λc H=>?_) ?_ v0 v4 v6 r8 Al (.ptr eh g 0) v30 IQ IU (.J (.int .i64 (f i))) (.J (.int .i64 k)) bL IV IW _ _ ?_ ?_ ?_ ?_ ?_ ?_ ?_ ?_ ?_ ?_ ?_ ?_ ?_ ?_ ?_ mn nP nQ bT ?_
  ·obtain⟨l,ar⟩:=alg cs f (n:=D E) (t:=t) M ay;have F:=ali X M9 aI j ar;rw[aln,My] at F;have I:=fw j;omega
  ·have:=(gd.1 X.right).2.2.2 c (EW.1 H).1;omega
  ·have F:=mg (λc:aq=>c.1==(i:Int)&&c.2.2.1==(k:Int)) cs;have I:=X.p7;unfold df;omega
  all_goals first|(intro tm' m' fE jI pq g5 hV gN j1 RS RT RU aAr aAs IX RV RW wv)|(simp only[eV,dJ,if_false,if_true,bI,dg,dk,bE,bR,dE,e0,h0,jd,je,nN,nO])
  have hO:(bA (D E) λj=>B j+cv (kv cs f i k 0) (e2 j)+cv (df cs i k) (e2 j))=bA (D E) λj=>B j+cv (kv cs f i (k+1) 0) (e2 j):=jK λj _=>by
   rw[<-aAn,aln cs f i k (df cs i k).length,lf,My];omega
  rw[hO] at IX;refine a0 ?_;repeat' (intro h<;>simp only[h,go_sem,go_sem_proc,fE,jI,pq,g5,hV,gN,j1,RS,RT,RU,aAr,aAs,RV,RW,bX]<;>try refine aw ?_ ?_)
  refine⟨k+1,by omega,by omega,rfl,IX,wv⟩
 ·have d1:decide ((k:Int)<(f i:Int))=false:=c9;obtain rfl:k=f i:=by omega
  rw[aAo] at mn;refine a0 ?_;repeat' (intro h<;>simp only[h,go_sem,go_sem_proc,bI,dg,dk,bE,bR,dE,e0,h0,jd,je,nN,nO,d1]<;>try refine aw ?_ ?_)
  refine dK _ _ ?_ ?_ ?_ ?_ ?_ ?_ ?_ ?_ ?_ ?_ mn nP nQ bT<;>simp only[eV,dJ,if_false,bI,dg,dk,bE,bR,dE,e0,h0,jd,je]
structure RX (a:dc) (mem:Mem):Prop where
 at_:a.eF mem
 hF:r1 248 mem
 ir:r1 255 mem
 r9:r1 256 mem
 IK:a.IJ
 fA:td (ax a.E a.cs) (bM a.aK) (ft a.P)
open Classical in
theorem alp (P:Nat->Prop)(n:Nat):cZ P (n+1)=cZ P n++(if P n then [n] else []):=by
 unfold cZ;rw[oS,p8]
 by_cases h:P n
 ·rw[ad h,qX (by simpa using h),oR]
 ·rw[ag h,r0 (by simpa using h),oR]
theorem alq (P:Nat->Prop)(n:Nat):(cZ P n).length<=n:=by
 unfold cZ;exact eQ (mg _ _) (by rw[sA];exact bZ _)
def dc.W (a:dc)(k i:Nat):Rat:=(ax a.E a.cs).W (bM a.aK) k i
theorem alr (n:Nat)(W:Nat->Nat->Rat)(k:Nat):(th n W k).length=1:=rfl
theorem aAt (n:Nat)(W:Nat->Nat->Rat)(k:Nat):((th n W k).map R.J).all R.one=true:=rfl
def ou (a:dc)(i j:Nat):Int:=(if j<i then a.E.getD j 0 else 0)+cv (kv a.cs (bM a.aK) i 0 0) (e2 j)
theorem aAu (T:bd)(abA:T OT=y4 RJ){K:eW->bb->Prop}{kk:List gn}(a:dc)(eC:Mem)(aP:RX a eC)(v0 v4 v30:R)(bL pw lo:Nat)(tm:Nat->R)(m:Mem)
  (bI:tm 0=v0) (dg:tm 4=.J (.int .i64 (D a.E))) (dk:tm 5=.ref 248029 bL 1 0 (D a.E)) (bE:tm 6=.ref 248094 pw 1 0 0) (bR:tm 7=.ref 248098 lo 1 0 0) (h0:tm 30=.ref 228023 a.g 1 0 (D a.E)) (jd:tm 31=.J (.int .i64 (D a.E))) (je:tm 32=.J (.int .i64 0))
  (mn:m 248029=some (bL,(bA (D a.E) λj=>ou a 0 j).map bD)) (nP:m 248094=some (pw,[])) (nQ:m 248098=some (lo,[])) (bT:et 248 eC m)
  (dK:∀tm' m' als alu,tm' 0=v0->tm' 4=.J (.int .i64 (D a.E))->tm' 5=.ref 248029 bL 1 0 (D a.E)->tm' 6=.ref 248094 als 1 0 (D a.p)->tm' 7=.ref 248098 alu 1 0 (D a.p)->m' 248029=some (bL,(bA (D a.E) λj=>ou a (D a.E) j).map bD)->m' 248094=some (als,bc iC a.p)->m' 248098=some (alu,bc (th (D a.E) a.W) a.p)->et 248 eC m'->cJ T K kk (.exit 0) ⟨tm',m'⟩) :
  wp T (vY.body.sub [1,1,1,1,1,0,1,0,0,0]) (cJ T K kk) ⟨tm,m⟩:=by
 have RY:=aP;obtain⟨cp,hF,ir,r9,wx,mS⟩:=aP;have uz:=λi=>dc.M4 cp wx (i:=i);obtain⟨X,gq⟩:=wx;have aL:=X.jv;simp only[vY,ez.sub];refine dn [0,4,5,30,31] [] (λ((i,pw,lo):Nat×Nat×Nat) tm m=>i<=D a.E/\tm 32=.J (.int .i64 i)/\tm 6=.ref 248094 pw 1 0 (cZ (ft a.P) i).length/\tm 7=.ref 248098 lo 1 0 (cZ (ft a.P) i).length/\m 248029=some (bL,(bA (D a.E) λj=>ou a i j).map bD)/\m 248094=some (pw,bc iC (cZ (ft a.P) i))/\m 248098=some (lo,bc (th (D a.E) a.W) (cZ (ft a.P) i))/\et 248 eC m) (λ(i,_)=>D a.E-i) (0,pw,lo) (by refine⟨by omega,je,bE,bR,mn,nP,nQ,bT⟩) ?_;intro vs ms aV aS;simp only[go_sem,go_sem_proc,bI,dg,dk,h0,jd] at aV aS;subst aV aS;clear bI dg dk bE bR h0 jd je mn nP nQ bT tm m;rintro⟨i,pw,lo⟩ tm m O-⟨cD,je,bE,bR,mn,nP,nQ,bT⟩;simp only[go_sem,go_sem_proc,ba] at O;obtain⟨bI,dg,dk,h0,jd⟩:=O;rcases dA (i<D a.E) with M|cj
 ·have d1:decide ((i:Int)<(D a.E:Int))=true:=di;have bX:=ff (i:=i) (by omega);obtain⟨r6,qb⟩:=uz i M;have eR:=(bT.at 228023 (by omega)).trans cp.row;have sJ:=cp.dx i M;have fk:=(bT.at (228500+i) (by omega)).trans sJ;have iv:=wq (jb (λi=>R.ptr (228500+i) (a.gs.getD i 0) 0) M);have b0:(bA (D a.E) λi=>R.ptr (228500+i) (a.gs.getD i 0) 0).length=D a.E:=gI _ _;have c1:=a.xF i;have hlen:=CG c1;have ml:=MU c1;have sa:=akI c1;have alv:=ayR (x:=a.gJ i);rw[show (a.gJ i).f=(bM a.aK i:Int) from r6] at ml;rw[show (a.gJ i).p=a.P.getD i false from rfl] at sa;rw[show (a.gJ i).E=a.E.getD i 0 from rfl] at alv;have aax:=X.E i;have jD:=alg a.cs (bM a.aK) (n:=D a.E) (i:=i) (k:=0) (t:=0) M
  have aMq:0<=cv (kv a.cs (bM a.aK) i 0 0) (e2 i)/\cv (kv a.cs (bM a.aK) i 0 0) (e2 i)<=13000000000000000:=by
   have:∃l,ti a.cs (bM a.aK) (D a.E)=kv a.cs (bM a.aK) i 0 0++l:=by
    obtain⟨r,ab⟩:∃r,D a.E=i+r:=⟨D a.E-i,by omega⟩
    refine⟨((dS r).map (i+·)).flatMap λi=>(dS (bM a.aK i)).flatMap λk=>df a.cs i k,?_⟩;rw[alf];unfold ti;rw[ab,alh,y2]
   obtain⟨l,ar⟩:=this;exact ali X cp.can (λi M=>(uz i M).2) i ar
  have aag:ou a i i=cv (kv a.cs (bM a.aK) i 0 0) (e2 i):=by unfold ou;rw[ag (by omega)];omega
  have aAv:IntKind.i64.wrap (ou a i i+a.E.getD i 0)=ou a i i+a.E.getD i 0:=by rw[eS _]
  have t1:=aby M λj=>ou a i j;have t2:=abz (D a.E) λj=>ou a i j;have t3:=abx M (λj=>ou a i j) (ou a i i+a.E.getD i 0)
  have Fc:(bA (D a.E) λj=>if j=i then ou a i i+a.E.getD i 0 else ou a i j)=bA (D a.E) λj=>(if j<i+1 then a.E.getD j 0 else 0)+cv (kv a.cs (bM a.aK) i 0 0) (e2 j):=jK λj _=>by
   by_cases ai:j=i
   ·rw[ad ai,ai,ad (by omega),aag];omega
   ·rw[ag ai];unfold ou
    by_cases vp:j<i
    ·rw[ad vp,ad (by omega)]
    ·rw[ag vp,ag (by omega)]
  rw[Fc] at t3;have dW:i+1<=D a.E:=by omega
  have uP:(228500+i)/1000≠248:=by omega
  generalize oU:228500+i=eh at *;have aAw:(eh=248029)=False:=eq_false (by omega);have aAx:(eh==248029)=false:=beq_eq_false_iff_ne.2 (by omega);have aAy:(248029==eh)=false:=beq_eq_false_iff_ne.2 (by omega);have aMr:fG (a.gJ i)=fG (a.gJ i):=rfl;generalize gE:(bA (D a.E) λj=>ou a i j).map bD=bU at *;generalize alw:(bA (D a.E) λj=>(if j<i+1 then a.E.getD j 0 else 0)+cv (kv a.cs (bM a.aK) i 0 0) (e2 j)).map bD=pW at *;generalize IY:(bA (D a.E) λi=>R.ptr (228500+i) (a.gs.getD i 0) 0)=xG at *;generalize Na:fG (a.gJ i)=DC at *;simp only[go_sem,go_sem_proc,bI,dg,dk,bE,bR,h0,jd,je,eR,fk,iv,b0,hlen,ml,sa,alv,mn,t1,t2,t3,aAv,d1,M,dW,aAw,aAx,aAy,bD,ln,cL];refine aAq T eC a.E a.cs (bM a.aK) X cp.can (λi M=>(uz i M).2) i M (a.gJ i) c1 (λk O=>jb _ O) (λj=>if j<i+1 then a.E.getD j 0 else 0) (λj=>?_) eh (a.gs.getD i 0) uP (by rw[Na];exact sJ) v0 (.J (.int .i64 (D a.E))) (.ref 248094 pw 1 0 (cZ (ft a.P) i).length) (.ref 248098 lo 1 0 (cZ (ft a.P) i).length) (.J (.int .i64 i)) (.ref 228023 a.g 1 0 (D a.E)) (.J (.int .i64 (D a.E))) (.J (.int .i64 i)) bL (some (pw,bc iC (cZ (ft a.P) i))) (some (lo,bc (th (D a.E) a.W) (cZ (ft a.P) i))) _ _ ?_ ?_ ?_ ?_ ?_ ?_ ?_ ?_ ?_ ?_ ?_ ?_ ?_ ?_ ?_ (bT.fa (by decide)) ?_
  ·have:=X.E j
   split<;>omega
  all_goals first|(intro tm' m' fE jI pq g5 hV gN j1 RS RT RU IX RV RW wv)|(simp only[eV,dJ,if_false,if_true,bI,dg,dk,bE,bR,h0,jd,je])|(simp only[a4,dJ,if_false,if_true,nP,nQ])|skip
  ·rw[<-alw]
  have hO:(bA (D a.E) λj=>(if j<i+1 then a.E.getD j 0 else 0)+cv (kv a.cs (bM a.aK) (i+1) 0 0) (e2 j))=bA (D a.E) λj=>ou a (i+1) j:=rfl;rw[hO] at IX;have eJ:=(wv eh uP).trans sJ;have pl:=alq (ft a.P) i;rcases q:a.P.getD i false
  ·have gG:cZ (ft a.P) (i+1)=cZ (ft a.P) i:=by
    rw[alp,ag (by unfold ft;rw[q];decide),fC]
   rw[q] at sa;refine a0 ?_;repeat' (intro h<;>simp only[h,go_sem,go_sem_proc,fE,jI,pq,g5,hV,gN,j1,RS,RT,RU,RV,RW,eJ,hlen,sa,bX,ln,cL]<;>try refine aw ?_ ?_)
   exact⟨(i+1,pw,lo),by dsimp only;omega,by dsimp only;omega,rfl,by rw[gG],by rw[gG],IX,by rw[gG],by rw[gG],wv⟩
  ·have gr:ft a.P i:=q
   have gG:cZ (ft a.P) (i+1)=cZ (ft a.P) i++[i]:=by
    rw[alp,ad gr]
   have aAz:bM a.aK i<10:=by
    obtain⟨F,g,I,af⟩:=mS;exact (af.gH i gr).2
   have jV:=azQ a i m' ⟨cp.aE wv (by decide) aL,ir.aE wv (by decide),⟨X,gq⟩,M,aAz,mS.rS i gr⟩;rw[oU] at jV;have aAA:RI (a,i)=.cI [.Y ((dF (D a.E) (a.W i)).map aH),.bool true]:=rfl;rw[aAA] at jV;have alx:=l3 yX akC 248094 pw 8 (cZ (ft a.P) i) i (cs:=[.J (.int .i64 i)]) rfl (by omega) (by omega);have aly:=l3 (alr (D a.E) a.W) (aAt (D a.E) a.W) 248098 lo 24 (cZ (ft a.P) i) i (cs:=[.J (.Y ((dF (D a.E) (a.W i)).map aH))]) rfl (by omega) (by omega);have cb:(cZ (ft a.P) (i+1)).length=(cZ (ft a.P) i).length+1:=by rw[gG,fH];rfl
   rw[<-gG] at alx aly;rw[q] at sa;generalize (dF (D a.E) (a.W i)).map aH=V at *;refine a0 ?_;repeat' (intro h<;>simp only[h,go_sem,go_sem_proc,abA,fE,jI,pq,g5,hV,gN,j1,RS,RT,RU,RV,RW,eJ,hlen,sa,jV,alx,aly,bX,ln,cL,cK]<;>try refine aw ?_ ?_)
   exact⟨(i+1,pw+1,lo+1),by dsimp only;omega,by dsimp only;omega,rfl,by rw[cb],by rw[cb],IX,rfl,rfl,by repeat first|exact wv|refine et.fa ?_ (by decide)⟩
 ·have d1:decide ((i:Int)<(D a.E:Int))=false:=c9;obtain rfl:i=D a.E:=by omega
  refine a0 ?_;repeat' (intro h<;>simp only[h,go_sem,go_sem_proc,bI,dg,dk,bE,bR,h0,jd,je,d1]<;>try refine aw ?_ ?_)
  refine dK _ _ pw lo ?_ ?_ ?_ ?_ ?_ mn nP nQ bT<;>simp only[eV,dJ,if_false,bI,dg,dk,bE,bR,dc.p]
theorem aAB (T:bd)(mb:T wS=aW yL)(lg:T yo=aW Ac){K:eW->bb->Prop}{kk:List gn}(eC:Mem)(n:Nat)(p:List Nat)(aF:(D p)<=60)(W:Nat->Nat->Rat)(dd:Nat->Rat)(i:Nat)(M:i<n)(wy:Rat)(aX:∀t,t<=(D p)->dX 708 (wy+bH t λk=>W (p.getD k 0) i*dd k))(cQ:∀k,k<(D p)->dX 438 (W (p.getD k 0) i*dd k)/\dX 54 (W (p.getD k 0) i)/\dX 384 (dd k))(alz alA alB alC:R)(bL:Nat)(alD:Option (Nat×List R))(tm:Nat->R)(m:Mem)
  (bE:tm 6=.J (.Y (p.map iC))) (bR:tm 7=.J (.Y (p.map (th n W)))) (sb:tm 15=.J (.Y ((dF (D p) dd).map aH))) (na:tm 17=alz) (nG:tm 18=.J (.int .i64 i)) (mm:tm 20=.ptr 248020 bL 0) (xH:tm 110=alA) (xI:tm 111=alB) (pX:tm 112=alC) (Nb:tm 120=.J (.int .i64 (D p))) (Nc:tm 121=.J (.int .i64 0))
  (IZ:m 248020=some (bL,(aH (au wy)).map .J)) (I0:m 248156=alD) (bT:et 248 eC m)
  (dK:∀tm' m',tm' 6=.J (.Y (p.map iC))->tm' 7=.J (.Y (p.map (th n W)))->tm' 15=.J (.Y ((dF (D p) dd).map aH))->tm' 17=alz->tm' 20=.ptr 248020 bL 0->tm' 110=alA->tm' 111=alB->tm' 112=alC->m' 248020=some (bL,(aH (au (wy+bH (D p) λk=>W (p.getD k 0) i*dd k))).map .J)->m' 248156=alD->et 248 eC m'->cJ T K kk (.exit 8) ⟨tm',m'⟩) :
  wp T (vY.body.sub [1,1,1,1,1,1,1,1,1,0,1,0,0,0,1,1,0,0,1,1,0,1,0]) (cJ T K kk) ⟨tm,m⟩:=by
 simp only[vY,ez.sub]
 refine dn [6,7,15,17,18,20,110,111,112,120] [248156] (λ(k:Nat) tm m=>k<=D p/\tm 121=.J (.int .i64 k)/\m 248020=some (bL,(aH (au (wy+bH k λk=>W (p.getD k 0) i*dd k))).map .J)/\et 248 eC m) (λk=>D p-k) 0 (by
  refine⟨by omega,Nc,?_,bT⟩
  rw[IZ,bH,nI]) ?_
 intro vs ms aV aS;simp only[go_sem,go_sem_proc,bE,bR,sb,na,nG,mm,xH,xI,pX,Nb,I0] at aV aS;subst aV aS;clear bE bR sb na nG mm xH xI pX Nb Nc IZ I0 bT tm m;rintro k tm m O hm ⟨H2,Nc,IZ,bT⟩;simp only[go_sem,go_sem_proc,ba] at O hm;obtain⟨bE,bR,sb,na,nG,mm,xH,xI,pX,Nb⟩:=O;rcases dA (k<D p) with ay|cj
 ·have d1:decide ((k:Int)<(D p:Int))=true:=di;have bX:=ff (i:=k) (by omega);obtain⟨wu,Q⟩:∃c,p[k]?=some c:=⟨_,bx ay⟩;have pY:p.getD k 0=wu:=by rw[dY,Q];rfl
  obtain⟨iB,iZ,tg⟩:=cQ k ay;have abB:=aX k (by omega);rw[pY] at iB iZ;have hmul:=akd (kt iZ (by omega)) (kt tg (by omega)) (ZZ iZ tg (by omega));have iL:=akc (kt abB (by omega)) (kt iB (by omega)) (Cx abB iB (by omega))
  have X:(wy+bH (k+1) λk=>W (p.getD k 0) i*dd k)=wy+bH k (λk=>W (p.getD k 0) i*dd k)+W wu i*dd k:=by
   rw[bH,pY];grind
  have a7:=uI (W wu) M;have aAC:=uI dd ay;rw[<-X] at iL;clear abB iB iZ tg cQ aX X dK;generalize au (wy+bH k λk=>W (p.getD k 0) i*dd k)=F1 at *;generalize aAD:au (wy+bH (k+1) λk=>W (p.getD k 0) i*dd k)=F2 at *;generalize au (W wu i*dd k)=F3 at *;generalize au (W wu i)=F4 at *;generalize au (dd k)=F5 at *;obtain⟨⟨cT,c7⟩,⟨dZ,fm⟩⟩:=F1;obtain⟨⟨dh,eK⟩,⟨kd,mh⟩⟩:=F2;obtain⟨⟨f1,f2⟩,⟨f3,f4⟩⟩:=F3;obtain⟨⟨cq,cr⟩,⟨g2,jH⟩⟩:=F4;obtain⟨⟨cd,c0⟩,⟨ev,jI⟩⟩:=F5;simp only[aH,eG,cV] at hmul iL IZ;refine a0 ?_;repeat' (intro h<;>simp only[h,go_sem,go_sem_proc,mb,lg,bE,bR,sb,na,nG,mm,xH,xI,pX,Nb,Nc,IZ,hm,d1,bX,Q,th,a7,aAC,hmul,iL,aH,al,bl,bne,beq_self_eq_true,cK]<;>try refine aw ?_ ?_)
  refine⟨k+1,by omega,by omega,rfl,by rw[aAD],by repeat first|exact bT|refine et.fa ?_ (by decide)⟩
 ·have d1:decide ((k:Int)<(D p:Int))=false:=c9;obtain rfl:k=D p:=by omega
  refine a0 ?_;repeat' (intro h<;>simp only[h,go_sem,go_sem_proc,bE,bR,sb,na,nG,mm,xH,xI,pX,Nb,Nc,d1]<;>try refine aw ?_ ?_)
  refine dK _ _ ?_ ?_ ?_ ?_ ?_ ?_ ?_ ?_ IZ hm bT<;>simp only[eV,dJ,if_false,bE,bR,sb,na,mm,xH,xI,pX]
def RZ (a:dc):Data:=.cI [.Y ((dF (D a.E) ((ax a.E a.cs).fg (bM a.aK) (ft a.P))).map aH),.bool true]
def abC:List R->Mem->Option Data:=EY (λ(a:dc) args mem=>args=[.ref 228023 a.g 1 0 (D a.E)]/\RX a mem) RZ
theorem aAE (a:dc)(mem:Mem)(h:RX a mem):abC [.ref 228023 a.g 1 0 (D a.E)] mem=some (RZ a):=by
 refine aaE (a:=a) ?_ ⟨rfl,h⟩;rintro a b args mem ⟨aC,aD⟩ ⟨b9,dg⟩;rw[dc.uniq aD.at_ dg.at_]
theorem wz (l:List Int):l.map bD=bc ae l:=by
 unfold bc
 induction l with
 |nil=>rfl
 |cons a l az=>rw[eG,eG,jL,kR,<-az];rfl
theorem aAF (n:Nat):(dG n [R.J (.int .i64 0)]).flatten=(bA n λ_=>(0:Int)).map bD:=by
 induction n with
 |zero=>rfl
 |succ n az=>rw[List.replicate_succ',List.flatten_append,az];simp[bA,oS,bD]
theorem aAG (T:bd)(hC:T pa=aW wj)(abA:T OT=y4 RJ)(aAH:T U0=y4 RP)(mb:T wS=aW yL)(lg:T yo=aW Ac)(a:dc)(mem:Mem)(aP:RX a mem):
  wp T vY.body (oe vY.res λm mem'=>cE 6 emp m=some (RZ a)/\et 248 mem mem') ⟨km [.ref 228023 a.g 1 0 (D a.E)],mem⟩:=by
 have cp:=aP.at_;have X:=aP.IK.lQ;have mS:=aP.fA;have aL:=X.jv;have HY:(8*D a.E<=140737488355328)=True:=eq_true (by omega);have Cm:(D a.E<=maxLen)=True:=eq_true (by unfold maxLen;omega);have alE:mem 248094=none:=aP.hF 248094 (by decide);have alF:mem 248098=none:=aP.hF 248098 (by decide);have QG:mem 248029=none:=aP.hF 248029 (by decide);have aX:=aAF (D a.E)
 have vn:(bA (D a.E) λj=>ou a 0 j)=bA (D a.E) λ_=>(0:Int):=jK λj _=>by
  unfold ou;rw[ag (by omega),aAm];rfl
 refine qs ?_;simp only[vY];simp only[go_sem,go_sem_proc,HY,Cm,alE,alF,QG,aX];refine aAu T abA a mem aP (.ref 228023 a.g 1 0 (D a.E)) (.ref 228023 a.g 1 0 (D a.E)) (.ref 228023 a.g 1 0 (D a.E)) 0 0 0 _ _ ?_ ?_ ?_ ?_ ?_ ?_ ?_ ?_ ?_ ?_ ?_ ((((et.refl _ _).fa (by decide)).fa (by decide)).fa (by decide)) ?_
 all_goals first|(intro tm m pw lo fE jI pq g5 hV mn nP nQ bT)|(simp only[eV,dJ,if_false,if_true];done)|(simp only[eV,dJ,if_false,if_true];rfl)|(simp only[a4,dJ,if_false,if_true,vn])|skip
 have dv:(bA (D a.E) λj=>ou a (D a.E) j)=bA (D a.E) λi=>lk a.E a.cs (bM a.aK) i:=jK λj ai=>by
  unfold ou;rw[ad ai,alf,ale cp.can λi M=>(dc.M4 cp aP.IK M).2]
 rw[dv,wz] at mn;have gF:∀iH,et 248 mem iH->RP [.ref 228023 a.g 1 0 (D a.E),.J (.Y ((bA (D a.E) λi=>lk a.E a.cs (bM a.aK) i).map ae)),.J (.Y (a.p.map iC)),.J (.Y (a.p.map (th (D a.E) a.W)))] iH=some (.cI [.Y (a.xs.map aH),.bool true]):=λiH h=>azZ a iH ⟨cp.aE h (by decide) aL,aP.r9.aE h (by decide),aP.IK,mS⟩;have alG:(bA (D a.E) λi=>lk a.E a.cs (bM a.aK) i).length=D a.E:=gI _ _;have aAI:∀i,i<(D a.E)->(bA (D a.E) λi=>lk a.E a.cs (bM a.aK) i)[i]?=some (lk a.E a.cs (bM a.aK) i):=λi M=>jb _ M;generalize aMs:(bA (D a.E) λi=>lk a.E a.cs (bM a.aK) i)=ST at *;have abD:=λ(K:bb->Prop) (st:bb)=>lE (K:=K) (st:=st) gX 5 248029 0 ST;rw[alG] at abD;have R0:=λ(K:bb->Prop) (st:bb)=>lE (K:=K) (st:=st) yX 6 248094 pw a.p;have R2:=λ(K:bb->Prop) (st:bb)=>lE (K:=K) (st:=st) (alr (D a.E) a.W) 7 248098 lo a.p;have alH:=λcq cr g2 aJ c2 c3=>gF (a4 (a4 (a4 m 248029 cq aJ) 248094 cr c2) 248098 g2 c3) (((bT.fa (by decide)).fa (by decide)).fa (by decide));simp only[go_sem,go_sem_proc,aAH,fE,jI,pq,g5,hV,mn,nP,nQ,abD,R0,R2,alH,alG,al,cK];have nY:(D a.p)<=D a.E:=alq _ _;have gG:=λi (M:i<D a.E) t (bF:t<=D a.p)=>axL X mS M bF;have R4:=λi (M:i<D a.E)=>mS.good.ajr (d:=ax a.E a.cs) M;have AL:cZ (ft a.P) (ax a.E a.cs).n=a.p:=rfl;have aAJ:cZ (ft a.P) (D a.E)=a.p:=rfl;have Bo:a.xs=dF (D a.p) λk=>(ax a.E a.cs).fg (bM a.aK) (ft a.P) (a.p.getD k 0)-(ax a.E a.cs).bt (a.p.getD k 0) (bM a.aK (a.p.getD k 0)):=rfl;rw[AL] at R4;rw[aAJ] at gG;rw[Bo];generalize ny:(λk=>(ax a.E a.cs).fg (bM a.aK) (ft a.P) (a.p.getD k 0)-(ax a.E a.cs).bt (a.p.getD k 0) (bM a.aK (a.p.getD k 0)))=dd at *;have Aj:∀k,(ax a.E a.cs).fg (bM a.aK) (ft a.P) (a.p.getD k 0)-(ax a.E a.cs).bt (a.p.getD k 0) (bM a.aK (a.p.getD k 0))=dd k:=λk=>congrFun ny k;simp only[Aj] at gG R4;have I1:=λi=>MN X.right (bM a.aK) i;have alI:=λi=>X.steady (bM a.aK) i;clear abD R0 R2 gF alH Bo ny Aj fE jI pq g5 hV mn nP nQ alE alF QG aX vn HY Cm
 refine dn [6,7,15,110,111] [] (λ((i,g):Nat×Nat) tm iH=>i<=D a.E/\tm 112=.J (.int .i64 i)/\tm 17=.ref 248156 g 4 0 i/\iH 248156=some (g,bc aH (dF i ((ax a.E a.cs).fg (bM a.aK) (ft a.P))))/\et 248 mem iH) (λ(i,_)=>D a.E-i) (0,gD (m 248156)) (by
  refine⟨by omega,rfl,rfl,by simp[a4];rfl,by repeat first|exact bT|refine et.fa ?_ (by decide)⟩) ?_
 intro vs ms aV aS;simp only[go_sem,go_sem_proc] at aV aS;subst aV aS;clear bT m tm;rintro⟨i,g⟩ tm m O-⟨cD,pX,na,I0,bT⟩;simp only[go_sem,go_sem_proc,ba] at O;obtain⟨bE,bR,sb,xH,xI⟩:=O;rcases dA (i<D a.E) with M|cj
 ·have d1:decide ((i:Int)<(D a.E:Int))=true:=di;have bX:=ff (i:=i) (by omega);have aAK:=aAI i M;have hw:=CD _ (oT (z:=lk a.E a.cs (bM a.aK) i) (by have:=alI i;omega) (by have:=alI i;omega));rw[I1] at hw;have abE:=gG i M;have aAL:=R4 i M;generalize qN:(ax a.E a.cs).st (bM a.aK) i=wy at *;generalize iw:au wy=eT at *;obtain⟨⟨tV,tW⟩,⟨E0,E1⟩⟩:=eT;simp only[aH] at hw;simp only[go_sem,go_sem_proc,hC,bE,bR,sb,na,xH,xI,pX,d1,aAK,hw,ae,al,bl];refine aAB T mb lg mem (D a.E) a.p (by omega) a.W dd i M wy (λt bF=>(abE t bF).1) (λk O=>⟨(abE 0 (by omega)).2.1 k O,(Rb X mS (xA O).2 i).1,(abE 0 (by omega)).2.2 k O⟩) (.ref 248156 g 4 0 i) (.J (.Y (ST.map ae))) (.J (.int .i64 (D a.E))) (.J (.int .i64 i)) (gD (m 248020)) (some (g,bc aH (dF i ((ax a.E a.cs).fg (bM a.aK) (ft a.P))))) _ _ ?_ ?_ ?_ ?_ ?_ ?_ ?_ ?_ ?_ ?_ ?_ ?_ ?_ ((bT.fa (by decide)).fa (by decide)) ?_
  all_goals first|(intro tm' m' g5 hV alJ alK RQ alL alM L7 R5 alN wv)|(simp only[eV,dJ,if_false,if_true,bE,bR,sb,na,xH,xI,pX];done)|(simp only[a4,dJ,if_false,if_true,I0];done)|(simp only[a4,if_true];rw[iw];rfl)
  have abF:wy+(bH (D a.p) λk=>a.W (a.p.getD k 0) i*dd k)=(ax a.E a.cs).fg (bM a.aK) (ft a.P) i:=aAL.symm;rw[abF] at R5;have aV:=ak6 i ((ax a.E a.cs).fg (bM a.aK) (ft a.P));have b0:(dF i ((ax a.E a.cs).fg (bM a.aK) (ft a.P))).length=i:=p6 _ _;have dC:=λ(aQ:bo) cs kZ=>l3 nC Hl 248156 g 64 (dF i ((ax a.E a.cs).fg (bM a.aK) (ft a.P))) aQ (cs:=cs) kZ (by omega) (by omega);simp only[b0] at dC;generalize dF i ((ax a.E a.cs).fg (bM a.aK) (ft a.P))=V at *;generalize vQ:dF (i+1) ((ax a.E a.cs).fg (bM a.aK) (ft a.P))=V2 at *;generalize au ((ax a.E a.cs).fg (bM a.aK) (ft a.P) i)=aQ at *;obtain⟨⟨cT,c7⟩,⟨dZ,fm⟩⟩:=aQ;have r7:=dC ((cT,c7),(dZ,fm)) _ rfl;rw[<-aV] at r7;simp only[aH,eG,cV] at r7 R5;simp only[go_sem,go_sem_proc,g5,hV,alJ,alK,RQ,alL,alM,L7,R5,alN,r7,bX];repeat' (first|refine aw ?_ ?_|fail)<;>intro h<;>simp only[h,go_sem,go_sem_proc,g5,hV,alJ,alK,RQ,alL,alM,L7,R5,alN,r7,bX]
  exact⟨(i+1,g+1),by dsimp only;omega,by dsimp only;omega,rfl,rfl,by rw[<-vQ],by repeat first|exact wv|refine et.fa ?_ (by decide)⟩
 ·have d1:decide ((i:Int)<(D a.E:Int))=false:=c9;obtain rfl:i=D a.E:=by omega
  have lz:(dF (D a.E) ((ax a.E a.cs).fg (bM a.aK) (ft a.P))).length=D a.E:=p6 _ _;have ke:=λ(K:bb->Prop) (st:bb)=>lE (K:=K) (st:=st) nC 17 248156 g (dF (D a.E) ((ax a.E a.cs).fg (bM a.aK) (ft a.P)));rw[lz] at ke;simp only[go_sem,go_sem_proc,bE,bR,sb,na,xH,xI,pX,I0,d1,ke];repeat' (first|refine aw ?_ ?_|fail)<;>intro h<;>simp only[h,go_sem,go_sem_proc,bE,bR,sb,na,xH,xI,pX,I0,d1,ke]
  exact⟨_,rfl,rfl,by repeat first|exact bT|refine et.fa ?_ (by decide)|refine et.kill ?_ (by decide)⟩
def dc.hD (a:dc)(p:Nat->Bool):dc:={ a with P:=nL (D a.E) p }
theorem dc.R6 (a:dc)(p:Nat->Bool){i:Nat}(M:i<D a.E):(a.hD p).gJ i=(a.gJ i).sp (p i):=by
 have:(nL (D a.E) p).getD i false=p i:=by rw[dY,Rq _ M];rfl
 unfold dc.gJ dc.hD oo.sp;dsimp only;rw[this]
theorem dc.eF.alO {a:dc}{m:Mem}{p:Nat->Bool}(h:(a.hD p).eF m){i:Nat}(M:i<D a.E)(b:Bool):(a.hD λj=>if j=i then b else p j).eF (a4 m (228500+i) (a.gs.getD i 0) (fG ((a.gJ i).sp b))):=by
 refine⟨h.can,h.aK,Rp _ _,h.Rv,?_,λj ai=>?_⟩
 ·have:=h.row;simp only[a4];rw[ag (show ¬ ((228023:Nat)=228500+i) by omega)];exact this
 ·rw[dc.R6 a _ ai];simp only[a4]
  by_cases h4:j=i
  ·subst h4;rw[ad rfl,ad rfl]
   rfl
  ·rw[ag (show ¬ ((228500+j:Nat)=228500+i) by omega),ag h4];have:=h.dx j ai;rw[dc.R6 a _ ai] at this;exact this
theorem dc.aAM {a:dc}(h:(D a.P)=D a.E):a.hD (λj=>a.P.getD j false)=a:=by
 have:nL (D a.E) (λj=>a.P.getD j false)=a.P:=by
  refine MV (d:=false) (Rp _ _) h λj ai=>?_;rw[dY,Rq _ ai];rfl
 unfold dc.hD;rw[this]
theorem dc.I2 (a:dc){p q:Nat->Bool}(h:∀i,i<(D a.E)->p i=q i):a.hD p=a.hD q:=by
 unfold dc.hD;rw[ayw h]
def xJ (n:Nat)(mem m:Mem):Prop:=∀k,(∀i,i<n->k≠228500+i)->m k=mem k
theorem xJ.fa {n i g:Nat}{cs:List R}{mem m:Mem}(h:xJ n mem m)(M:i<n):xJ n mem (a4 m (228500+i) g cs):=λk O=>by
 simp only[a4];rw[ag (O i M)];exact h k O
theorem xJ.no {n j:Nat}{mem m:Mem}(h:xJ n mem m)(aL:n<=6)(ai:j≠228)(hm:r1 j mem):r1 j m:=λk O=>by
 rw[h k λi M=>by omega]
 exact hm k O
theorem aAN (T:bd)(hC:T pa=aW wj)(dB:T nu=aW sS){K:eW->bb->Prop}{kk:List gn}(eC:Mem)(a:dc)(p:Nat->Bool)(wx:a.IJ)(h:Nat->Rat)(kf:∀i,i<(D a.E)->dj (h i))(tm:Nat->R)(m:Mem)
  (cp:(a.hD p).eF m) (bT:xJ (D a.E) eC m) (bI:tm 0=.ref 228023 a.g 1 0 (D a.E)) (bE:tm 6=.J (.Y ((dF (D a.E) h).map aH))) (dE:tm 8=.J (.bool false)) (oq:tm 28=.ref 228023 a.g 1 0 (D a.E)) (uQ:tm 29=.J (.int .i64 (D a.E))) (h0:tm 30=.J (.int .i64 0))
  (dK:∀tm' m',tm' 0=.ref 228023 a.g 1 0 (D a.E)->tm' 6=.J (.Y ((dF (D a.E) h).map aH))->tm' 8=.J (.bool (y5 (ax a.E a.cs) (bM a.aK) h p (D a.E)))->(a.hD (om (ax a.E a.cs) (bM a.aK) h p (D a.E))).eF m'->xJ (D a.E) eC m'->cJ T K kk (.exit 4) ⟨tm',m'⟩) :
  wp T (Hj.body.sub [1,1,0,0,0,1,1,1,0,1,0]) (cJ T K kk) ⟨tm,m⟩:=by
 simp only[Hj,ez.sub];obtain⟨X,gq⟩:=wx;have aL:=X.jv
 refine dn [0,6,28,29] [] (λ(i:Nat) tm m=>i<=D a.E/\tm 30=.J (.int .i64 i)/\tm 8=.J (.bool (y5 (ax a.E a.cs) (bM a.aK) h p i))/\(a.hD (om (ax a.E a.cs) (bM a.aK) h p i)).eF m/\xJ (D a.E) eC m) (λi=>D a.E-i) 0 (by
  refine⟨by omega,h0,dE,?_,bT⟩
  have:a.hD (om (ax a.E a.cs) (bM a.aK) h p 0)=a.hD p:=a.I2 λj _=>by
   unfold om;rw[c9,fS,l2]
  rw[this];exact cp) ?_
 intro vs ms aV aS;simp only[go_sem,go_sem_proc,bI,bE,oq,uQ] at aV aS;subst aV aS;clear bI bE dE oq uQ h0 cp bT tm m;rintro i tm m O-⟨M,h0,dE,cp,bT⟩;simp only[go_sem,go_sem_proc,ba] at O;obtain⟨bI,bE,oq,uQ⟩:=O;rcases dA (i<D a.E) with ay|cj
 ·have d1:decide ((i:Int)<(D a.E:Int))=true:=di;have bX:=ff (i:=i) (by omega);have r6:a.aK.getD i 10=(bM a.aK i:Int)/\bM a.aK i<=10:=dc.M4 (a:=a.hD (om (ax a.E a.cs) (bM a.aK) h p i)) cp ⟨X,gq⟩ ay;obtain⟨r6,qb⟩:=r6;have eR:m 228023=some (a.g,bA (D a.E) λi => .ptr (228500+i) (a.gs.getD i 0) 0):=cp.row;have fk:m (228500+i)=some (a.gs.getD i 0,fG ((a.hD (om (ax a.E a.cs) (bM a.aK) h p i)).gJ i)):=cp.dx i ay;rw[dc.R6 a _ ay,akq] at fk;have iv:=wq (jb (λi=>R.ptr (228500+i) (a.gs.getD i 0) 0) ay);have b0:(bA (D a.E) λi=>R.ptr (228500+i) (a.gs.getD i 0) 0).length=D a.E:=gI _ _;have c1:((a.gJ i).sp (p i)).de:=⟨(a.xF i).cF,(a.xF i).us⟩;have hlen:=CG c1;have ml:fN 1 (fT 22 (fG ((a.gJ i).sp (p i))))=[bD (bM a.aK i:Int)]:=(MU c1).trans (congrArg (λx=>[bD x]) r6);have sa:fN 1 (fT 23 (fG ((a.gJ i).sp (p i))))=[ln (p i)]:=akI c1;have tf:=MT c1 (k:=bM a.aK i) (z:=cU a.cs i (bM a.aK i:Nat)) (jb _ (by omega));have eB:_=fG ((a.gJ i).sp true):=akJ c1 true;have mP:=cp.alO ay true;have aS:=ayx (ax a.E a.cs) (bM a.aK) h p i
  have x5:(p i=true\/wo (ax a.E a.cs) (bM a.aK) h i=false)->a.hD (om (ax a.E a.cs) (bM a.aK) h p (i+1))=a.hD (om (ax a.E a.cs) (bM a.aK) h p i):=λaU=>a.I2 λj _=>by
   rw[akr]
   by_cases ai:j=i
   ·subst ai;rw[ad rfl,akq];rcases aU with F|F
    ·rw[F];rfl
    ·rw[F,l2]
   ·rw[ag ai]
  have dW:i+1<=D a.E:=by omega
  have ak:bM a.aK i<11:=by omega
  have bJ:(11+bM a.aK i+1<=24)=True:=eq_true (by omega);have b3:(23+1<=24)=True:=eq_true (by omega);generalize IY:(bA (D a.E) λi=>R.ptr (228500+i) (a.gs.getD i 0) 0)=xG at *;have oU:228500+i=228500+i:=rfl;generalize uP:228500+i=eh at *;generalize Na:fG ((a.gJ i).sp (p i))=DC at *;rcases d2:decide ((bM a.aK i:Int)<10)
  ·have ly:wo (ax a.E a.cs) (bM a.aK) h i=false:=by
    unfold wo;rw[mq (by have:=of_decide_eq_false d2;omega),fS]
   rw[ly,h6,l2] at aS;simp only[go_sem,go_sem_proc,bI,bE,dE,oq,uQ,h0,eR,fk,iv,b0,hlen,ml,d1,d2,bX,ay,dW,bD,ln,cL];repeat' (first|refine aw ?_ ?_|fail)<;>intro h<;>simp only[h,go_sem,go_sem_proc,bI,bE,dE,oq,uQ,h0,eR,fk,iv,b0,hlen,ml,d1,d2,bX,ay,dW,bD,ln,cL]
   exact⟨i+1,by omega,by omega,rfl,by rw[aS],by rw[x5 (.inr ly)];exact cp,bT⟩
  ·rcases zA:p i
   ·rw[zA] at sa;have m8:=X.upto i (bM a.aK i);have Fe:dw (cU a.cs i (bM a.aK i:Nat)):=oT (by omega) (by omega);have hw:=CD _ Fe;have pc:=EX (kf i ay) (nM Fe);have iW:decide (lJ (h i) ((cU a.cs i (bM a.aK i:Nat):Int):Rat)>0)=decide (((cU a.cs i (bM a.aK i:Nat):Int):Rat)<h i):=ake
    have bG:wo (ax a.E a.cs) (bM a.aK) h i=decide (((cU a.cs i (bM a.aK i:Nat):Int):Rat)<h i):=by
     unfold wo;rw[rU X.right,lq (show bM a.aK i<10 by have:=of_decide_eq_true d2;omega),gW]
    rw[<-bG] at iW;have AM:=uI h ay;generalize aAO:au (h i)=hQ at *;generalize ny:au ((cU a.cs i (bM a.aK i:Nat):Int):Rat)=dd at *;obtain⟨⟨dh,eK⟩,⟨kd,mh⟩⟩:=dd;obtain⟨⟨cT,c7⟩,⟨dZ,fm⟩⟩:=hQ;simp only[aH] at hw pc;rcases ly:wo (ax a.E a.cs) (bM a.aK) h i
    ·rw[ly] at iW;rw[zA,ly,h6,l2] at aS;simp only[go_sem,go_sem_proc,hC,dB,bI,bE,dE,oq,uQ,h0,eR,fk,iv,b0,hlen,ml,sa,tf,d1,d2,bX,ay,dW,ak,bJ,hw,pc,iW,AM,aH,bD,ln,cL,dt,cK,al,bl];repeat' (first|refine aw ?_ ?_|fail)<;>intro h<;>simp only[h,go_sem,go_sem_proc,hC,dB,bI,bE,dE,oq,uQ,h0,eR,fk,iv,b0,hlen,ml,sa,tf,d1,d2,bX,ay,dW,ak,bJ,hw,pc,iW,AM,aH,bD,ln,cL,dt,cK,al,bl]
     exact⟨i+1,by omega,by omega,rfl,by rw[aS],by rw[x5 (.inr ly)];exact cp,bT⟩
    ·rw[ly] at iW;rw[zA,ly,dt,gW,vt] at aS
     have hO:a.hD (om (ax a.E a.cs) (bM a.aK) h p (i+1))=a.hD λj=>if j=i then true else om (ax a.E a.cs) (bM a.aK) h p i j:=a.I2 λj _=>by
      rw[akr,ly,vt]
     rw[<-hO] at mP;have q1:=bT.fa (g:=a.gs.getD i 0) (cs:=fG ((a.gJ i).sp true)) ay;rw[uP] at q1;simp only[go_sem,go_sem_proc,hC,dB,bI,bE,dE,oq,uQ,h0,eR,fk,iv,b0,hlen,ml,sa,tf,eB,d1,d2,bX,ay,dW,ak,bJ,b3,hw,pc,iW,AM,aH,bD,ln,cL,dt,cK,al,bl];repeat' (first|refine aw ?_ ?_|fail)<;>intro h<;>simp only[h,go_sem,go_sem_proc,hC,dB,bI,bE,dE,oq,uQ,h0,eR,fk,iv,b0,hlen,ml,sa,tf,eB,d1,d2,bX,ay,dW,ak,bJ,b3,hw,pc,iW,AM,aH,bD,ln,cL,dt,cK,al,bl]
     exact⟨i+1,by omega,by omega,rfl,by rw[aS],mP,q1⟩
   ·rw[zA] at sa;rw[zA,cK,fS,l2] at aS;simp only[go_sem,go_sem_proc,bI,bE,dE,oq,uQ,h0,eR,fk,iv,b0,hlen,ml,sa,d1,d2,bX,ay,dW,bD,ln,cL,cK];repeat' (first|refine aw ?_ ?_|fail)<;>intro h<;>simp only[h,go_sem,go_sem_proc,bI,bE,dE,oq,uQ,h0,eR,fk,iv,b0,hlen,ml,sa,d1,d2,bX,ay,dW,bD,ln,cL,cK]
    exact⟨i+1,by omega,by omega,rfl,by rw[aS],by rw[x5 (.inl zA)];exact cp,bT⟩
 ·have d1:decide ((i:Int)<(D a.E:Int))=false:=c9;obtain rfl:i=D a.E:=by omega
  simp only[go_sem,go_sem_proc,bI,bE,dE,oq,uQ,h0,d1];repeat' (first|refine aw ?_ ?_|fail)<;>intro h<;>simp only[h,go_sem,go_sem_proc,bI,bE,dE,oq,uQ,h0,d1]
  refine dK _ _ ?_ ?_ ?_ cp bT<;>simp only[eV,dJ,if_false,bI,bE,dE]
structure abG (a:dc) (mem:Mem):Prop where
 at_:a.eF mem
 hF:r1 248 mem
 ir:r1 255 mem
 r9:r1 256 mem
 IK:a.IJ
 inv:∃g,Inv (ax a.E a.cs) (bM a.aK) g
def R7 (a:dc)(mem:Mem):R->Mem->Prop:=λm mem'=>m=.cI [.J (.Y ((dF (D a.E) ((ax a.E a.cs).top (bM a.aK))).map aH)),.J (.bool true)]/\∃p,(a.hD p).eF mem'/\xJ (D a.E) mem mem'
def Nd:List R->Mem->Option (R->Mem->Prop):=uq (λ(a:dc) args mem=>args=[.ref 228023 a.g 1 0 (D a.E)]/\abG a mem) R7
theorem aAP (a:dc)(mem:Mem)(h:abG a mem):Nd [.ref 228023 a.g 1 0 (D a.E)] mem=some (R7 a mem):=by
 refine akg (a:=a) ?_ ⟨rfl,h⟩;rintro a b args mem ⟨aC,aD⟩ ⟨b9,dg⟩;rw[dc.uniq aD.at_ dg.at_]
theorem aAQ (T:bd)(aAR:T UY=y4 abC)(hC:T pa=aW wj)(dB:T nu=aW sS)(a:dc)(mem:Mem)(aP:abG a mem):
  wp T Hj.body (oe Hj.res (R7 a mem)) ⟨km [.ref 228023 a.g 1 0 (D a.E)],mem⟩:=by
 obtain⟨alP,hF,ir,r9,wx,ye,hinv⟩:=aP;have X:=wx.lQ;have aL:=X.jv;have aa:=X.ok;refine qs ?_;simp only[Hj];simp only[go_sem,go_sem_proc]
 refine dn [0,11,12] [] (λ(i:Nat) tm m=>i<=D a.E/\tm 13=.J (.int .i64 i)/\(a.hD λj=>if j<i then false else a.P.getD j false).eF m/\xJ (D a.E) mem m) (λi=>D a.E-i) 0 (by
  refine⟨by omega,rfl,?_,λ_ _=>rfl⟩
  have:(a.hD λj=>if j<0 then false else a.P.getD j false)=a:=(a.I2 λj _=>by rw[ag (by omega)]).trans (dc.aAM alP.pl);rw[this];exact alP) ?_
 intro vs ms aV aS;simp only[go_sem,go_sem_proc] at aV aS;subst aV aS;rintro i tm m O-⟨M,h9,cp,bT⟩;simp only[go_sem,go_sem_proc,ba] at O;obtain⟨bI,jw,gh⟩:=O;rcases dA (i<D a.E) with ay|cj
 ·have d1:decide ((i:Int)<(D a.E:Int))=true:=di;have bX:=ff (i:=i) (by omega);have eR:m 228023=some (a.g,bA (D a.E) λi => .ptr (228500+i) (a.gs.getD i 0) 0):=cp.row;have fk:m (228500+i)=some (a.gs.getD i 0,_):=cp.dx i ay;rw[dc.R6 a _ ay] at fk;have iv:=wq (jb (λi=>R.ptr (228500+i) (a.gs.getD i 0) 0) ay);have b0:(bA (D a.E) λi=>R.ptr (228500+i) (a.gs.getD i 0) 0).length=D a.E:=gI _ _;have c1:((a.gJ i).sp (if i<i then false else a.P.getD i false)).de:=⟨(a.xF i).cF,(a.xF i).us⟩;have hlen:=CG c1;have eB:_=fG ((a.gJ i).sp false):=akJ c1 false;have mP:=cp.alO ay false;have q1:=bT.fa (g:=a.gs.getD i 0) (cs:=fG ((a.gJ i).sp false)) ay
  have hO:(a.hD λj=>if j<i+1 then false else a.P.getD j false)=a.hD λj=>if j=i then false else if j<i then false else a.P.getD j false:=a.I2 λj _=>by
   by_cases F:j=i
   ·rw[ad F,ad (by omega)]
   ·rw[ag F]
    by_cases I:j<i
    ·rw[ad I,ad (by omega)]
    ·rw[ag I,ag (by omega)]
  rw[<-hO] at mP;have dW:i+1<=D a.E:=by omega
  have b3:(23+1<=24)=True:=eq_true (by omega);generalize IY:(bA (D a.E) λi=>R.ptr (228500+i) (a.gs.getD i 0) 0)=xG at *;generalize uP:228500+i=eh at *;generalize Na:fG ((a.gJ i).sp (if i<i then false else a.P.getD i false))=DC at *;simp only[go_sem,go_sem_proc,bI,jw,gh,h9,eR,fk,iv,b0,hlen,eB,d1,bX,ay,dW,b3,bD,ln,cL];repeat' (first|refine aw ?_ ?_|fail)<;>intro h<;>simp only[h,go_sem,go_sem_proc,bI,jw,gh,h9,eR,fk,iv,b0,hlen,eB,d1,bX,ay,dW,b3,bD,ln,cL]
  exact⟨i+1,by omega,by omega,rfl,mP,q1⟩
 ·have d1:decide ((i:Int)<(D a.E:Int))=false:=c9;obtain rfl:i=D a.E:=by omega
  have hO:(a.hD λj=>if j<(D a.E) then false else a.P.getD j false)=a.hD λ_=>false:=a.I2 λj ai=>by rw[ad ai]
  rw[hO] at cp;simp only[go_sem,go_sem_proc,bI,jw,gh,h9,d1]
  refine dn [0] [] (λ(p:Nat->Bool) tm m=>(a.hD p).eF m/\xJ (D a.E) mem m/\td (ax a.E a.cs) (bM a.aK) (ft (nL (D a.E) p))) (λp=>mR (D a.E) λi=>if p i then 0 else 1) (λ_=>false) (by
   refine⟨cp,bT,?_⟩;rw[ayz];exact⟨aa,ye,hinv,iD.first aa hinv⟩) ?_
  intro vs ms aV aS;simp only[go_sem,go_sem_proc,bI] at aV aS;subst aV aS;clear bI jw gh h9 bT cp;rintro p tm m bI-⟨cp,bT,mS⟩;simp only[go_sem,go_sem_proc,ba] at bI;have gF:=aAE (a.hD p) m ⟨cp,bT.no aL (by decide) hF,bT.no aL (by decide) ir,bT.no aL (by decide) r9,⟨wx.lQ,wx.gq⟩,mS⟩;have gu:RZ (a.hD p)=.cI [.Y ((dF (D a.E) ((ax a.E a.cs).fg (bM a.aK) (ft (nL (D a.E) p)))).map aH),.bool true]:=rfl;rw[gu,show (a.hD p).g=a.g from rfl,show (a.hD p).E=a.E from rfl] at gF;simp only[go_sem,go_sem_proc,aAR,bI,gF,cK];refine aAN T hC dB m a p wx ((ax a.E a.cs).fg (bM a.aK) (ft (nL (D a.E) p))) (λi M=>kt (ajH X mS M) (by omega)) _ _ cp (λ_ _=>rfl) ?_ ?_ ?_ ?_ ?_ ?_ ?_
  all_goals first|(intro I3 cO fE g5 gN zw q1)|(simp only[eV,dJ,if_false,if_true,bI];done)
  obtain⟨c1,cq,ri,Pv⟩:=mS;rcases hm:y5 (ax a.E a.cs) (bM a.aK) ((ax a.E a.cs).fg (bM a.aK) (ft (nL (D a.E) p))) p (D a.E)
  ·rw[hm] at gN;have aga:=Pv.ajt aa ri λi M F I=>Rr.2 ⟨M,ayB hm M F I⟩;rw[Ii (N:=D a.E) aga] at g5;simp only[go_sem,go_sem_proc,fE,g5,gN,dt];repeat' (first|refine aw ?_ ?_|fail)<;>intro h<;>simp only[h,go_sem,go_sem_proc,fE,g5,gN,dt]
   exact⟨_,rfl,rfl,_,zw,λk O=>(q1 k O).trans (bT k O)⟩
  ·rw[hm] at gN;simp only[go_sem,go_sem_proc,fE,g5,gN,cK];repeat' (first|refine aw ?_ ?_|fail)<;>intro h<;>simp only[h,go_sem,go_sem_proc,fE,g5,gN,cK]
   refine⟨_,ayA hm,zw,λk O=>(q1 k O).trans (bT k O),?_⟩;have pV:=ayy (d:=ax a.E a.cs) (f:=bM a.aK) (h:=(ax a.E a.cs).fg (bM a.aK) (ft (nL (D a.E) p))) (p:=p);have kq:(ax a.E a.cs).n=D a.E:=rfl;rw[kq] at pV;rw[pV];exact⟨aa,cq,ri,Pv.succ aa ri⟩
end Go.Mini
