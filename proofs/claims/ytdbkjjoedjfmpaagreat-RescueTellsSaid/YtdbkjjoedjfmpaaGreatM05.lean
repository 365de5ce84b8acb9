/- A part of the proof. -/
import Derived.Test.YtdbkjjoedjfmpaaGreatM04
set_option linter.unusedSimpArgs false
set_option linter.unusedVariables false
set_option maxRecDepth 100000
set_option maxHeartbeats 4000000
noncomputable section
open Bool renaming and_eq_true->gb,and_false->jB,false_and->fr,not_eq_true'->vy,not_false->cp,not_true->bT,or_eq_true->zn,or_false->lA,true_and->fP
open Classical renaming byContradiction->nY,choose->zq,choose_spec->r2
open Decidable renaming em->dk
open Int renaming add_zero->k9,fmod_add_mul_fdiv->NY,fmod_lt_of_pos->N0,fmod_nonneg_of_pos->NZ,lt_or_gt_of_ne->akZ,mul_le_mul_of_nonneg_left->wO,mul_le_mul_of_nonneg_right->mg,mul_ne_zero->Bx,mul_nonneg->vh,mul_one->sY,natAbs_mul->ug,natAbs_natCast->lL,sign_eq_one_of_pos->ht,sign_mul->pa,sign_trichotomy->Mb,sub_zero->CZ,toNat_natCast->iY,zero_mul->vo
open List renaming any_eq_false->BP,append_assoc->hd,append_nil->gD,append_of_mem->ajH,concat_eq_append->zw,cons_append->m0,count_cons->akf,count_cons_self->aaZ,count_eq_zero->aj9,eq_nil_or_concat->zv,ext_getElem?->pJ,filter_append->rE,filter_cons_of_neg->pv,filter_cons_of_pos->oK,filter_nil->pt,findIdx_getElem->ajU,flatMap_append->yP,flatMap_cons->q6,flatMap_def->yQ,flatMap_eq_nil_iff->akI,flatMap_nil->B0,getD_eq_getElem?_getD->ez,getElem?_append_left->oZ,getElem?_append_right->nK,getElem?_cons_zero->K7,getElem?_eq_getElem->bB,getElem?_eq_none->iD,getElem?_eq_some_iff->eg,getElem?_map->aW,getElem?_range->uV,getElem?_set->mo,getElem_drop->Dt,getElem_mem->nM,length->D,length_append->gj,length_cons->kB,length_drop->oi,length_eq_zero_iff->yS,length_filter_le->mO,length_map->ah,length_nil->og,length_range->sW,length_set->kd,length_singleton->s7,length_take->fU,map_append->kg,map_congr_left->pP,map_cons->eI,map_map->pQ,map_nil->b6,mem_append->jy,mem_cons->m1,mem_cons_of_mem->h3,mem_cons_self->g0,mem_filter->Jn,mem_map->gE,mem_map_of_mem->BZ,mem_of_getElem?->dS,mem_of_mem_take->tM,mem_range->jC,nil_append->ir,range->eY,range_succ->sx,replicate->en,sum_cons->akb,take_add_one->g2,take_of_length_le->dH,take_zero->ma,zipWith->aaW,zipWith_cons_cons->ajO,zip_cons_cons->ajN
open List.cons renaming injEq->bf
open Nat renaming add_comm->AA,add_zero->l7,eq_zero_or_pos->k3,le_refl->cI,le_trans->eP,lt_of_le_of_lt->vg,lt_or_ge->hn,mul_assoc->aaT,mul_comm->tU,mul_le_mul->xc,mul_le_mul_right->o0,mul_left_comm->aaU,mul_one->cD,mul_pos->aba,one_le_two_pow->Ju,one_pos->akv,pow_add->tk,pow_le_pow_right->ov,pow_lt_pow_right->aj1,pow_succ->wF,reduceEqDiff->cx,sub_self->j6,succ_mul->qq,zero_add->rT,zero_le->fA
open Option renaming getD_some->K8,map_some->l9
open Option.some renaming inj->pL,injEq->cO
open Prod renaming ext->ei
open Prod.mk renaming injEq->fJ
open Rat renaming add_zero->pr,divInt->mH,divInt_eq_div->R9,intCast_add->z7,intCast_eq_zero_iff->ajZ,intCast_mul->tg,intCast_natCast->oJ,intCast_sub->R5,le_refl->g8,le_trans->yH,mul_add->ake,mul_comm->xh,mul_eq_zero->Sb,mul_nonneg->ajq,mul_pos->R1,mul_zero->xb,natCast_eq_zero_iff->akd,natCast_mul->Sf,neg_num->aj3,one_mul->Nv,sub_eq_add_neg->Dd,zero_add->DN,zero_den->NJ,zero_mul->Np,zero_num->NK
namespace Go.Mini
open Classical
def pos (x:Rat):Rat:=if x<=0 then 0 else x
theorem Gd (x:Rat):0<=pos x:=by unfold pos;split<;>grind
theorem RY (x:Rat):x<=pos x:=by unfold pos;split<;>grind
theorem ajp {x y:Rat}(h:x<=y):pos x<=pos y:=by unfold pos;split<;>split<;>grind
theorem yF {x:Rat}(h:0<=x):pos x=x:=by unfold pos;split<;>grind
theorem vM {x:Rat}(h:x<=0):pos x=0:=ad h
theorem Ge {a x y:Rat}(a4:0<=a)(h:x<=y):a*x<=a*y:=Rat.mul_le_mul_of_nonneg_left h a4
theorem vN {a x:Rat}(a4:0<=a)(h:0<=x):0<=a*x:=ajq a4 h
def Day.q (d:Day)(f:Nat->Nat)(h:Nat->Rat)(c:dZ):Rat:=if c.bM<f c.aE then c.am else if c.bM=f c.aE then d.w c*pos (h c.aE-d.bZ c.aE c.bM) else 0
def Day.l (d:Day)(f:Nat->Nat)(P:Nat->Prop)(h:Nat->Rat)(c:dZ):Rat:=if c.bM<f c.aE then c.am else if c.bM=f c.aE/\P c.aE then d.w c*(h c.aE-d.bZ c.aE c.bM) else 0
def Day.fq (d:Day)(a:dZ->Rat)(i:Nat):Rat:=d.E i+ck d.dt λc=>if c.to=(i:Int) then a c else 0
theorem Day.Gf {d:Day}{a b:dZ->Rat}(h:∀c∈d.dt,a c<=b c)(i:Nat):d.fq a i<=d.fq b i:=by
 unfold Day.fq
 have:=Gc (l:=d.dt) (aR:=λc=>if c.to=(i:Int) then a c else 0) (bD:=λc=>if c.to=(i:Int) then b c else 0) λc H=>by
  try dsimp only
  split
  ·exact h c H
  ·exact g8
 grind
theorem Day.ajr {d:Day}{a b:dZ->Rat}(h:∀c∈d.dt,a c=b c)(i:Nat):d.fq a i=d.fq b i:=by
 unfold Day.fq
 congr 1
 exact uD λc H=>by rw[h c H]
theorem Day.RZ (d:Day)(a b:dZ->Rat)(i:Nat):d.fq a i-d.fq b i=ck d.dt λc=>if c.to=(i:Int) then a c-b c else 0:=by
 unfold Day.fq
 have:(λc:dZ=>if c.to=(i:Int) then a c-b c else 0)=λc=>(if c.to=(i:Int) then a c else 0)-(if c.to=(i:Int) then b c else 0):=by
  funext c;split<;>grind
 rw[this,Ni];grind
def Day.hA (d:Day)(C:Nat->Prop)(x:Nat->Rat):Rat:=cN d.n λi=>if C i then x i else 0
theorem Day.axo (d:Day)(C:Nat->Prop)(x y:Nat->Rat):d.hA C (λi=>x i-y i)=d.hA C x-d.hA C y:=by
 unfold Day.hA;rw[<-Nk];exact oG λk _=>by split<;>grind
theorem Day.axp (d:Day)(C:Nat->Prop)(x y:Nat->Rat):d.hA C (λi=>x i+y i)=d.hA C x+d.hA C y:=by
 unfold Day.hA;rw[<-Ga];exact oG λk _=>by split<;>grind
theorem Day.ajs {d:Day}{C:Nat->Prop}{x y:Nat->Rat}(h:∀i,i<d.n->C i->x i<=y i):d.hA C x<=d.hA C y:=by
 refine Nj λk L=>?_
 by_cases H:C k
 ·rw[ad H,ad H];exact h k L H
 ·rw[ag H,ag H];exact g8
theorem Day.Nm {d:Day}{C:Nat->Prop}{x y:Nat->Rat}(h:∀i,i<d.n->C i->x i=y i):d.hA C x=d.hA C y:=by
 refine oG λk L=>?_
 split
 ·exact h k L (by assumption)
 ·rfl
theorem Day.aaA {d:Day}{C:Nat->Prop}(ll:∀i,C i->i<d.n)(a:dZ->Rat):d.hA C (d.fq a)=d.hA C d.E+ck d.dt λc=>if ss C c then a c else 0:=by
 rw[<-aau C ll];show cN d.n _=cN d.n _+_;rw[<-Ga];refine oG λk _=>?_;unfold Day.fq
 split<;>grind
def Day.closed (d:Day)(f:Nat->Nat)(C:Nat->Prop):Prop:=∀c∈d.dt,C c.aE->c.bM=f c.aE->0<c.am->ss C c
def Day.cap (d:Day)(f:Nat->Nat)(g:Nat->Rat)(C:Nat->Prop)(k:Nat):Rat:=if C k then d.bZ k (f k) else g k
section
variable {d:Day} {f:Nat->Nat} {P:Nat->Prop} {h g:Nat->Rat} {C:Nat->Prop} {c:dZ}
theorem Day.ajt (G:c.bM<f c.aE):d.l f P h c=c.am:=by unfold Day.l;rw[ad G]
theorem Day.aju (G:c.bM=f c.aE)(J:P c.aE):d.l f P h c=d.w c*(h c.aE-d.bZ c.aE c.bM):=by
 unfold Day.l;rw[ag (by omega),ad ⟨G,J⟩]
theorem Day.aaB (G:¬ c.bM<f c.aE)(J:¬ (c.bM=f c.aE/\P c.aE)):d.l f P h c=0:=by
 unfold Day.l;rw[ag G,ag J]
theorem Day.axq (G:c.bM<f c.aE):d.q f h c=c.am:=by unfold Day.q;rw[ad G]
theorem Day.axr (G:c.bM=f c.aE):d.q f h c=d.w c*pos (h c.aE-d.bZ c.aE c.bM):=by
 unfold Day.q;rw[ag (by omega),ad G]
theorem Day.axs (G:¬ c.bM<f c.aE)(J:¬ c.bM=f c.aE):d.q f h c=0:=by
 unfold Day.q;rw[ag G,ag J]
theorem Nn (h:¬ C c.aE):d.q f (d.cap f g C) c=d.q f g c:=by
 unfold Day.q Day.cap;rw[ag h]
theorem Jj (h:C c.aE):d.q f (d.cap f g C) c=if c.bM<f c.aE then c.am else 0:=by
 by_cases G:c.bM<f c.aE
 ·rw[ad G,Day.axq G]
 ·rw[ag G]
  by_cases J:c.bM=f c.aE
  ·rw[Day.axr J];unfold Day.cap;rw[ad h,J,vM (by grind),xb]
  ·rw[Day.axs G J]
end
structure Inv (d:Day) (f:Nat->Nat) (g:Nat->Rat):Prop where
 le:∀i,f i<=10
 sup:∀i,i<d.n->d.fq (d.q f g) i<=g i
 cP:∀i,i<d.n->f i<10->d.bZ i (f i)<=g i
 U:∀i,i<d.n->f i<10->g i<d.bZ i (f i+1)
 dt:∀C:Nat->Prop,(∃i,C i)->(∀i,C i->i<d.n/\f i<10)->d.closed f C->d.hA C (d.fq (d.q f (d.cap f g C)))<d.hA C λi=>d.bZ i (f i)
theorem Inv.qP {d:Day}{f:Nat->Nat}{g:Nat->Rat}(h:Inv d f g){i:Nat}(U:i<d.n)(aD:f i<10):0<d.S i (f i):=by
 have G:=h.cP i U aD;have J:=h.U i U aD;rw[d.z6] at J;grind
theorem Inv.start {d:Day}(ab:d.dF):Inv d (λ_=>10) (d.fq λc=>c.am) :=
 ⟨λ_=>cI _,λi _=>d.Gf (λc H=>by
  unfold Day.q;rw[ad (ab.bM c H)];exact g8) i,λi _ h=>absurd h (by omega),λi _ h=>absurd h (by omega),λC ⟨i,U⟩ h=>absurd (h i U).2 (by omega)⟩
theorem Inv.ajv {d:Day}{f:Nat->Nat}{g:Nat->Rat}(U:Inv d f g)(ab:d.dF){C:Nat->Prop}(G:∃i,C i)(J:∀i,C i->i<d.n/\f i<10)(af:d.closed f C)(cz:dZ->Rat)(e:Nat->Rat)(he:∀k,k<d.n->C k->0<=e k)
  (fo:∀c∈d.dt,ss C c->cz c<=d.q f (d.cap f g C) c+if C c.aE/\c.bM=f c.aE then d.w c*e c.aE else 0):d.hA C (d.fq cz)<d.hA C λi=>d.bZ i (f i)+e i:=by
 have cL:=U.dt C G J af;have ll:∀i,C i->i<d.n:=λi h=>(J i h).1;have dN:=ab.Nl C f (λk L=>U.qP (J k L).1 (J k L).2) e;rw[Day.aaA ll] at cL ⊢;rw[Day.axp]
 have eo:ck d.dt (λc=>if ss C c then cz c else 0)<=ck d.dt λc=>(if ss C c then d.q f (d.cap f g C) c else 0)+(if C c.aE/\c.bM=f c.aE then d.w c*e c.aE else 0):=by
  refine Gc λc H=>?_
  have aj:0<=if C c.aE/\c.bM=f c.aE then d.w c*e c.aE else 0:=by
   split
   ·exact vN (ab.su H) (he _ (ab.aE c H) (by rename_i h;exact h.1))
   ·exact g8
  by_cases cJ:ss C c
  ·rw[ad cJ,ad cJ];exact fo c H cJ
  ·rw[ag cJ,ag cJ];grind
 rw[RU,dN] at eo;have gh:d.hA C e=cN d.n λk=>if C k then e k else 0:=rfl;rw[<-gh] at eo;grind
structure jc (d:Day) (f:Nat->Nat) (g:Nat->Rat) (P:Nat->Prop) (h:Nat->Rat):Prop where
 gr:∀i,P i->i<d.n/\f i<10
 R0:∀C:Nat->Prop,(∃i,C i)->(∀i,C i->P i)->¬ d.closed f C
 sys:∀i,i<d.n->h i=d.fq (d.l f P h) i
 le:∀i,i<d.n->h i<=g i
 ge:∀i,P i->d.bZ i (f i)<h i
theorem Er {d:Day}{f:Nat->Nat}{g:Nat->Rat}(U:Inv d f g)(ab:d.dF){P:Nat->Prop}(fs:∀i,P i->i<d.n/\f i<10)(bS:∀C:Nat->Prop,(∃i,C i)->(∀i,C i->P i)->¬ d.closed f C)(x:Nat->Rat)
  (M:∀i,i<d.n->(ck d.dt λc=>if c.to=(i:Int) then (if c.bM=f c.aE/\P c.aE then d.w c*x c.aE else 0) else 0)<=x i):∀i,i<d.n->0<=x i:=by
 have key:∀i,P i->0<=x i:=by
  intro i0 tZ;apply nY;intro lD;obtain⟨C,vO⟩:∃C:Nat->Prop,∀i,C i↔P i/\x i<0:=⟨λi=>P i/\x i<0,λ_=>Iff.rfl⟩;have ll:∀i,C i->i<d.n:=λi h=>(fs i ((vO i).1 h).1).1;refine bS C ⟨i0,(vO i0).2 ⟨tZ,by grind⟩⟩ (λi h=>((vO i).1 h).1) ?_
  have ay:=aau C ll d.dt λc=>if c.bM=f c.aE/\P c.aE then d.w c*x c.aE else 0;have aA:=ab.Nl C f (λk L=>U.qP (fs k ((vO k).1 L).1).1 (fs k ((vO k).1 L).1).2) x
  have bQ:cN d.n (λi=>if C i then ck d.dt (λc=>if c.to=(i:Int) then (if c.bM=f c.aE/\P c.aE then d.w c*x c.aE else 0) else 0) else 0)<=cN d.n (λk=>if C k then x k else 0):=by
   refine Nj λk L=>?_
   by_cases H:C k
   ·rw[ad H,ad H];exact M k L
   ·rw[ag H,ag H];exact g8
  rw[ay,<-aA] at bQ;have bL:=aas (l:=d.dt) (aR:=λc=>(if ss C c then (if c.bM=f c.aE/\P c.aE then d.w c*x c.aE else 0) else 0)-(if C c.aE/\c.bM=f c.aE then d.w c*x c.aE else 0)) (λc H=>?_) (by rw[Ni];grind)
  ·intro c H hh kR yG;apply nY;intro cJ;have:=bL c H
   try dsimp only at this
   rw[ag cJ,ad ⟨hh,kR⟩] at this;have G:=ab.aaz H yG;have J:=((vO _).1 hh).2;have af:0<d.w c*(-x c.aE):=R1 G (by grind);grind
  ·try dsimp only
   have G:=ab.su H
   have jK:((if C c.aE/\c.bM=f c.aE then d.w c*x c.aE else 0)=(if c.bM=f c.aE/\P c.aE then d.w c*x c.aE else 0)/\(if C c.aE/\c.bM=f c.aE then d.w c*x c.aE else 0)<=0)\/((if C c.aE/\c.bM=f c.aE then d.w c*x c.aE else 0)=0/\0<=(if c.bM=f c.aE/\P c.aE then d.w c*x c.aE else 0)):=by
    by_cases hh:C c.aE/\c.bM=f c.aE
    ·left
     have J:=(vO _).1 hh.1;have af:0<=d.w c*(-x c.aE):=vN G (by have:=J.2;grind);have aP:c.bM=f c.aE/\P c.aE:=⟨hh.2,J.1⟩;rw[ad hh,ad aP];exact⟨rfl,by grind⟩
    ·right
     rw[ag hh];refine⟨rfl,?_⟩
     split
     ·rename_i J;refine vN G ?_;apply nY;intro h;exact hh ⟨(vO _).2 ⟨J.2,by grind⟩,J.1⟩
     ·exact g8
   generalize (if C c.aE/\c.bM=f c.aE then d.w c*x c.aE else 0)=B at *;generalize (if c.bM=f c.aE/\P c.aE then d.w c*x c.aE else 0)=A at *;rcases jK with ⟨J,af⟩|⟨J,af⟩<;>split<;>grind
 intro i cJ;refine yH ?_ (M i cJ);refine z5 λc H=>?_
 split
 ·split
  ·rename_i h;exact vN (ab.su H) (key _ h.2)
  ·exact g8
 ·exact g8
theorem Day.axt (d:Day)(f:Nat->Nat)(P:Nat->Prop)(h cv:Nat->Rat)(c:dZ):d.l f P cv c-d.l f P h c=if c.bM=f c.aE/\P c.aE then d.w c*(cv c.aE-h c.aE) else 0:=by
 unfold Day.l
 by_cases G:c.bM<f c.aE
 ·rw[ad G,ad G,ag (by omega)];grind
 ·rw[ag G,ag G]
  split<;>grind
theorem axu {d:Day}{f:Nat->Nat}{g:Nat->Rat}(U:Inv d f g)(ab:d.dF){P:Nat->Prop}(fs:∀i,P i->i<d.n/\f i<10)(bS:∀C:Nat->Prop,(∃i,C i)->(∀i,C i->P i)->¬ d.closed f C){h cv:Nat->Rat}
  (e:∀i,i<d.n->h i=d.fq (d.l f P h) i) (e':∀i,i<d.n->cv i=d.fq (d.l f P cv) i):∀i,i<d.n->h i=cv i:=by
 have main:∀h cv:Nat->Rat,(∀i,i<d.n->h i=d.fq (d.l f P h) i)->(∀i,i<d.n->cv i=d.fq (d.l f P cv) i)->∀i,i<d.n->0<=cv i-h i:=by
  intro h cv e e';refine Er U ab fs bS (λi=>cv i-h i) λi cJ=>?_;rw[e i cJ,e' i cJ,d.RZ];refine Gb (uD λc H=>?_);rw[d.axt]
 intro i cJ;have G:=main h cv e e' i cJ;have J:=main cv h e' e i cJ;grind
theorem axv {d:Day}{f:Nat->Nat}{g:Nat->Rat}(U:Inv d f g)(ab:d.dF){P:Nat->Prop}(fs:∀i,P i->i<d.n/\f i<10)(bS:∀C:Nat->Prop,(∃i,C i)->(∀i,C i->P i)->¬ d.closed f C)(x:Nat->Rat)
  (M:∀i,i<d.n->x i=ck d.dt λc=>if c.to=(i:Int) then (if c.bM=f c.aE/\P c.aE then d.w c*x c.aE else 0) else 0):∀i,i<d.n->x i=0:=by
 intro i cJ;have G:=Er U ab fs bS x (λi cJ=>Gb (M i cJ).symm) i cJ;have J:=Er U ab fs bS (λi => -x i) (λi cJ=>?_) i cJ
 ·grind
 ·rw[M i cJ];refine Gb ?_;have:∀aR:dZ->Rat,-(ck d.dt aR)=ck d.dt λc=>(-1)*aR c:=λaR=>by rw[RV];grind
  rw[this];refine uD λc H=>?_
  split
  ·split<;>grind
  ·grind
theorem Day.axw {d:Day}(ab:d.dF){f:Nat->Nat}{P:Nat->Prop}{h g:Nat->Rat}(hle:∀i,i<d.n->h i<=g i){c:dZ}(H:c∈d.dt):d.l f P h c<=d.q f g c:=by
 unfold Day.l Day.q
 by_cases G:c.bM<f c.aE
 ·rw[ad G,ad G];exact g8
 ·rw[ag G,ag G]
  by_cases J:c.bM=f c.aE
  ·rw[ad J];have hw:=ab.su H
   by_cases af:P c.aE
   ·rw[ad ⟨J,af⟩];refine Ge hw (yH ?_ (RY _));have:=hle _ (ab.aE c H);grind
   ·rw[ag λh=>af h.2];exact vN hw (Gd _)
  ·rw[ag λh=>J h.1,ag J];exact g8
theorem jc.start {d:Day}(ab:d.dF){f:Nat->Nat}{g:Nat->Rat}(U:Inv d f g){h:Nat->Rat}(Q:∀i,i<d.n->h i=d.fq (d.l f (λ_=>False) h) i):jc d f g (λ_=>False) h :=
 ⟨λi h=>h.elim,λC ⟨i,h⟩ cv=>(cv i h).elim,Q,λi cJ=>by
  rw[Q i cJ];refine yH (d.Gf (b:=d.q f g) (λc H=>?_) i) (U.sup i cJ);unfold Day.l Day.q
  by_cases G:c.bM<f c.aE
  ·rw[ad G,ad G];exact g8
  ·rw[ag G,ag G,ag λh=>h.2]
   split
   ·exact vN (ab.su H) (Gd _)
   ·exact g8,λi h=>h.elim⟩
def uE (d:Day)(f:Nat->Nat)(P:Nat->Prop)(h:Nat->Rat)(i:Nat):Prop:=P i\/(i<d.n/\f i<10/\d.bZ i (f i)<h i)
theorem jc.Jk {d:Day}{f:Nat->Nat}{g:Nat->Rat}{P:Nat->Prop}{h:Nat->Rat}(aC:jc d f g P h):∀i,uE d f P h i->i<d.n/\f i<10:=λi aM=>aM.elim (aC.gr i) λh=>⟨h.1,h.2.1⟩
theorem jc.aaC {d:Day}{f:Nat->Nat}{g:Nat->Rat}{P:Nat->Prop}{h:Nat->Rat}(aC:jc d f g P h):∀i,uE d f P h i->d.bZ i (f i)<h i:=λi aM=>aM.elim (aC.ge i) λh=>h.2.2
theorem jc.ajw {d:Day}(ab:d.dF){f:Nat->Nat}{g:Nat->Rat}(U:Inv d f g){P:Nat->Prop}{h:Nat->Rat}(aC:jc d f g P h):∀C:Nat->Prop,(∃i,C i)->(∀i,C i->uE d f P h i)->¬ d.closed f C:=by
 intro C G J af;have aD:∀i,C i->i<d.n/\f i<10:=λi H=>aC.Jk i (J i H)
 have jg:=U.ajv ab G aD af (d.l f P h) (λk=>if P k then h k-d.bZ k (f k) else 0) (λk _ L=>by
  try dsimp only
  split
  ·have:=aC.ge k (by assumption);grind
  ·exact g8) λc H _=>by
   by_cases eo:C c.aE
   ·rw[Jj eo]
    by_cases cL:c.bM<f c.aE
    ·rw[Day.ajt cL,ad cL,ag (λh=>by have:=h.2;omega)];grind
    ·rw[ag cL]
     by_cases dN:c.bM=f c.aE
     ·have iP:C c.aE/\c.bM=f c.aE:=⟨eo,dN⟩;rw[ad iP]
      by_cases gh:P c.aE
      ·rw[Day.aju dN gh,ad gh,dN];grind
      ·rw[Day.aaB cL (λh=>gh h.2),ag gh];grind
     ·rw[Day.aaB cL (λh=>dN h.1),ag λh=>dN h.2];grind
   ·rw[Nn eo,ag λh=>eo h.1];have:=Day.axw ab (P:=P) (f:=f) aC.le H;grind
 have e:d.hA C (d.fq (d.l f P h))=d.hA C h:=Day.Nm λi cJ _=>(aC.sys i cJ).symm;rw[e] at jg
 have:d.hA C (λi=>d.bZ i (f i)+if P i then h i-d.bZ i (f i) else 0)<=d.hA C h:=by
  refine Day.ajs λi cJ H=>?_;have:=aC.aaC i (J i H)
  split<;>grind
 grind
theorem jc.next {d:Day}(ab:d.dF){f:Nat->Nat}{g:Nat->Rat}(U:Inv d f g){P:Nat->Prop}{h cv:Nat->Rat}(aC:jc d f g P h)(Q:∀i,i<d.n->cv i=d.fq (d.l f (uE d f P h) cv) i):jc d f g (uE d f P h) cv:=by
 have bS:=aC.ajw ab U
 have mj:∀i,i<d.n->0<=cv i-h i:=by
  refine Er U ab aC.Jk bS (λi=>cv i-h i) λi cJ=>?_;rw[Q i cJ,aC.sys i cJ,d.RZ];refine Gc λc H=>?_;have hw:=ab.su H
  split
  ·unfold Day.l
   by_cases G:c.bM<f c.aE
   ·rw[ad G,ad G,ag (by omega)];grind
   ·rw[ag G,ag G]
    by_cases J:c.bM=f c.aE
    ·by_cases af:uE d f P h c.aE
     ·rw[ad ⟨J,af⟩,ad ⟨J,af⟩]
      by_cases aP:P c.aE
      ·rw[ad ⟨J,aP⟩];grind
      ·rw[ag λh=>aP h.2];have bh:=aC.aaC _ af;have:=vN hw (show 0<=h c.aE-d.bZ c.aE c.bM by rw[J];grind);grind
     ·rw[ag λh=>af h.2,ag λh=>af h.2,ag λh=>af (.inl h.2)];grind
    ·rw[ag λh=>J h.1,ag λh=>J h.1,ag λh=>J h.1];grind
  ·exact g8
 have hle:∀i,i<d.n->0<=g i-cv i:=by
  refine Er U ab aC.Jk bS (λi=>g i-cv i) λi cJ=>?_;refine yH ?_ (show d.fq (d.q f g) i-cv i<=g i-cv i by have:=U.sup i cJ;grind);rw[Q i cJ,d.RZ];refine Gc λc H=>?_;have hw:=ab.su H
  split
  ·unfold Day.l Day.q
   by_cases G:c.bM<f c.aE
   ·rw[ad G,ad G,ag (by omega)];grind
   ·rw[ag G,ag G]
    by_cases J:c.bM=f c.aE
    ·rw[ad J]
     by_cases af:uE d f P h c.aE
     ·rw[ad ⟨J,af⟩,ad ⟨J,af⟩];have:=Ge hw (RY (g c.aE-d.bZ c.aE c.bM));grind
     ·rw[ag λh=>af h.2,ag λh=>af h.2];have:=vN hw (Gd (g c.aE-d.bZ c.aE c.bM));grind
    ·rw[ag λh=>J h.1,ag J,ag λh=>J h.1];grind
  ·exact g8
 exact⟨aC.Jk,bS,Q,λi cJ=>by have:=hle i cJ;grind,λi aM=>by
  have G:=aC.aaC i aM;have J:=mj i (aC.Jk i aM).1;grind⟩
theorem jc.stop {d:Day}(ab:d.dF){f:Nat->Nat}{g:Nat->Rat}{P:Nat->Prop}{h:Nat->Rat}(aC:jc d f g P h)(U:Inv d f g)(axx:∀i,i<d.n->f i<10->d.bZ i (f i)<h i->P i):∀i,i<d.n->h i=d.fq (d.q f h) i:=by
 intro i cJ;rw[aC.sys i cJ];refine d.ajr (λc H=>?_) i;unfold Day.l Day.q
 by_cases G:c.bM<f c.aE
 ·rw[ad G,ad G]
 ·rw[ag G,ag G]
  by_cases J:c.bM=f c.aE
  ·rw[ad J]
   by_cases af:P c.aE
   ·rw[ad ⟨J,af⟩,yF];have:=aC.ge _ af;rw[J];grind
   ·rw[ag λh=>af h.2,vM]
    ·grind
    ·apply nY;intro aM;refine af (axx _ (ab.aE c H) (by rw[<-J];exact ab.bM c H) ?_);rw[<-J];grind
  ·rw[ag λh=>J h.1,ag J]
end Go.Mini
namespace Go.Mini
open Classical
def Day.jE (d:Day)(h:Nat->Rat)(c:dZ):Rat:=if d.bZ c.aE (c.bM+1)<=h c.aE then c.am else d.w c*pos (h c.aE-d.bZ c.aE c.bM)
theorem Day.dF.R2 {d:Day}(ab:d.dF){c:dZ}(H:c∈d.dt){x:Rat}(h:x<=d.S c.aE c.bM):d.w c*x<=c.am:=by
 have aj:=ab.am c H;have G:=ab.aax H
 by_cases dn:0<d.S c.aE c.bM
 ·have:=Ge (ab.su H) h;rw[Day.Ji dn] at this;exact this
 ·rw[Day.FN (by grind),Np];exact aj
theorem Day.dF.aaD {d:Day}(ab:d.dF)(h:Nat->Rat){c:dZ}(H:c∈d.dt):d.jE h c<=c.am:=by
 unfold Day.jE
 split
 ·exact g8
 ·rename_i aM;refine ab.R2 H ?_;rw[d.z6] at aM;have:=ab.RX c.aE c.bM;unfold pos
  split<;>grind
theorem Day.dF.ajx {d:Day}(ab:d.dF)(h:Nat->Rat){c:dZ}(H:c∈d.dt):0<=d.jE h c:=by
 unfold Day.jE
 split
 ·exact ab.am c H
 ·exact vN (ab.su H) (Gd _)
theorem Day.dF.R3 {d:Day}(ab:d.dF)(f:Nat->Nat)(h:Nat->Rat){c:dZ}(H:c∈d.dt):0<=d.q f h c:=by
 unfold Day.q
 split
 ·exact ab.am c H
 ·split
  ·exact vN (ab.su H) (Gd _)
  ·exact g8
theorem Day.dF.aaE {d:Day}(ab:d.dF){a:dZ->Rat}(h:∀c∈d.dt,0<=a c){i:Nat}(U:i<d.n):0<=d.fq a i:=by
 unfold Day.fq;have G:=ab.E i U
 have:=z5 (l:=d.dt) (aR:=λc=>if c.to=(i:Int) then a c else 0) λc H=>by
  try dsimp only
  split
  ·exact h c H
  ·exact g8
 grind
theorem Day.dF.ajy {d:Day}(ab:d.dF){f:Nat->Nat}{h g:Nat->Rat}{c:dZ}(H:c∈d.dt)(hle:h c.aE<=g c.aE):d.q f h c<=d.q f g c:=by
 unfold Day.q
 split
 ·exact g8
 ·split
  ·exact Ge (ab.su H) (ajp (by grind))
  ·exact g8
def aaF (d:Day)(f:Nat->Nat)(h:Nat->Rat)(hI:Nat->Nat):Prop:=(∀i,hI i<=10)/\(∀i,i<d.n->h i<d.bZ i (f i)->hI i<f i/\d.bZ i (hI i)<=h i/\h i<d.bZ i (hI i+1))/\∀i,i<d.n->d.bZ i (f i)<=h i->hI i=f i
theorem aaG {d:Day}(ab:d.dF){f hI:Nat->Nat}{h:Nat->Rat}(aD:aaF d f h hI){c:dZ}(H:c∈d.dt):d.q hI h c<=d.q f h c:=by
 obtain⟨-,G,J⟩:=aD;have bC:=ab.aE c H
 by_cases dw:h c.aE<d.bZ c.aE (f c.aE)
 ·obtain⟨cL,dN,eo⟩:=G _ bC dw;unfold Day.q
  by_cases eS:c.bM<hI c.aE
  ·rw[ad eS,ad (by omega)];exact g8
  ·rw[ag eS]
   by_cases eO:c.bM=hI c.aE
   ·rw[ad eO,ad (by omega)];rw[<-eO] at dN eo;rw[d.z6] at eo;exact ab.R2 H (by rw[yF (by grind)];grind)
   ·rw[ag eO];exact ab.R3 f h H
 ·have:=J _ bC (by grind);unfold Day.q;rw[this];exact g8
theorem Inv.aaH {d:Day}(ab:d.dF){f hI:Nat->Nat}{g h:Nat->Rat}(U:Inv d f g)(DI:∀i,i<d.n->h i=d.fq (d.q f h) i)(hle:∀i,i<d.n->h i<=g i)(aD:aaF d f h hI):Inv d hI h:=by
 have iW:∀i,i<d.n->hI i<10->d.bZ i (hI i)<=h i:=by
  intro i cJ Dy
  by_cases dw:h i<d.bZ i (f i)
  ·exact (aD.2.1 i cJ dw).2.1
  ·rw[aD.2.2 i cJ (by grind)];grind
 have k2:∀i,i<d.n->hI i<10->h i<d.bZ i (hI i+1):=by
  intro i cJ Dy
  by_cases dw:h i<d.bZ i (f i)
  ·exact (aD.2.1 i cJ dw).2.2
  ·have e:=aD.2.2 i cJ (by grind);rw[e] at Dy ⊢;have:=U.U i cJ Dy;have:=hle i cJ;grind
 have dn:∀i,i<d.n->hI i<10->0<d.S i (hI i):=by
  intro i cJ Dy;have G:=iW i cJ Dy;have J:=k2 i cJ Dy;rw[d.z6] at J;grind
 refine⟨aD.1,λi cJ=>?_,iW,k2,λC G J af=>?_⟩
 ·exact yH (d.Gf (λc H=>aaG ab aD H) i) (Gb (DI i cJ).symm)
 ·have ll:∀i,C i->i<d.n:=λi H=>(J i H).1
  by_cases hex:∃k,C k/\h k<d.bZ k (f k)
  ·obtain⟨ej,EE,dw⟩:=hex;have ajz:=ll ej EE;obtain⟨c0,et,gN⟩:=aD.2.1 ej ajz dw;have qC:=dn ej ajz (J ej EE).2;obtain⟨mN,iv,iJ⟩:=aat qC
   have axy:mN.aE=ej/\mN.bM=hI ej/\0<mN.am:=by
    by_cases aX:mN.aE=ej/\mN.bM=hI ej
    ·rw[ad aX] at iJ;exact⟨aX.1,aX.2,iJ⟩
    ·rw[ag aX] at iJ;exact absurd iJ (by grind)
   obtain⟨cE,cS,dU⟩:=axy;have ay:=Day.aaA ll (d.q f h);have aA:=Day.aaA ll (d.q hI (d.cap hI h C));have bQ:d.hA C (d.fq (d.q f h))=d.hA C h:=Day.Nm λi cJ _=>(DI i cJ).symm;have bL:=ab.Nl C hI (λk L=>dn k (ll k L) (J k L).2) λk=>h k-d.bZ k (hI k);have da:d.hA C (λk=>h k-d.bZ k (hI k))=cN d.n λk=>if C k then h k-d.bZ k (hI k) else 0:=rfl;rw[<-da,d.axo] at bL
   have bj:ck d.dt (λc=>(if ss C c then d.q hI (d.cap hI h C) c else 0)+(if C c.aE/\c.bM=hI c.aE then d.w c*(h c.aE-d.bZ c.aE (hI c.aE)) else 0))<ck d.dt (λc=>if ss C c then d.q f h c else 0):=by
    refine axl (λc H=>?_) iv ?_
    ·have bC:=ab.aE c H
     by_cases cJ:ss C c
     ·rw[ad cJ,ad cJ]
      by_cases hh:C c.aE
      ·rw[Jj hh]
       by_cases eS:c.bM<hI c.aE
       ·rw[ad eS,ag (by omega)]
        have:c.bM<f c.aE:=by
         by_cases dw:h c.aE<d.bZ c.aE (f c.aE)
         ·have:=(aD.2.1 _ bC dw).1;omega
         ·rw[<-aD.2.2 _ bC (by grind)];exact eS
        unfold Day.q;rw[ad this];grind
       ·rw[ag eS]
        by_cases eO:c.bM=hI c.aE
        ·rw[ad ⟨hh,eO⟩]
         by_cases dw:h c.aE<d.bZ c.aE (f c.aE)
         ·obtain⟨cL,dN,eo⟩:=aD.2.1 _ bC dw;unfold Day.q;rw[ad (by omega)];rw[d.z6] at eo;have:=ab.R2 H (x:=h c.aE-d.bZ c.aE (hI c.aE)) (by rw[eO];grind);grind
         ·have e:=aD.2.2 _ bC (by grind);rw[e] at eS eO ⊢;unfold Day.q;rw[ag eS,ad eO,<-eO];have:=Ge (ab.su H) (RY (h c.aE-d.bZ c.aE c.bM));grind
        ·rw[ag λh=>eO h.2];have:=ab.R3 f h H;grind
      ·rw[Nn hh,ag λh=>hh h.1];have:=aaG ab aD H;grind
     ·rw[ag cJ,ag cJ]
      by_cases hh:C c.aE/\c.bM=hI c.aE
      ·rw[ad hh]
       have:c.am=0:=by
        have aj:=ab.am c H
        by_cases aC:0<c.am
        ·exact absurd (af c H hh.1 hh.2 aC) cJ
        ·grind
       rw[Day.FN this];grind
      ·rw[ag hh];grind
    ·have hh:C mN.aE:=by rw[cE];exact EE
     have kR:mN.bM=hI mN.aE:=by rw[cE];exact cS
     have cJ:=af mN iv hh kR dU;rw[ad cJ,ad cJ,Jj hh,ag (by omega),ad ⟨hh,kR⟩];unfold Day.q;rw[ad (by rw[cE];omega)];have hw:=ab.aaz iv dU;have Il:=d.Ji (c:=mN) (by rw[cE,cS];exact qC);rw[d.z6] at gN;rw[<-cE,<-kR] at gN;rw[<-kR];have:0<d.w mN*(d.S mN.aE mN.bM-(h mN.aE-d.bZ mN.aE mN.bM)):=R1 hw (by rw[cE] at gN ⊢;grind);grind
   rw[RU,bL] at bj;grind
  ·have tJ:∀k,C k->hI k=f k:=λk L=>aD.2.2 k (ll k L) (by
    apply nY;intro aM;exact hex ⟨k,L,by grind⟩)
   have cL:=U.dt C G (λi H=>⟨ll i H,by rw[<-tJ i H];exact (J i H).2⟩) (λc H hh kR yG=>af c H hh (by rw[tJ _ hh];exact kR) yG);have dN:d.hA C (λi=>d.bZ i (hI i))=d.hA C λi=>d.bZ i (f i):=Day.Nm λi _ H=>by rw[tJ i H]
   rw[dN]
   have eo:d.hA C (d.fq (d.q hI (d.cap hI h C)))<=d.hA C (d.fq (d.q f (d.cap f g C))):=by
    refine Day.ajs λi _ _=>d.Gf (λc H=>?_) i
    by_cases hh:C c.aE
    ·rw[Jj hh,Jj hh,tJ _ hh];exact g8
    ·rw[Nn hh,Nn hh];exact yH (aaG ab aD H) (ab.ajy H (hle _ (ab.aE c H)))
   grind
def Day.uF (d:Day)(h:Nat->Rat)(i:Nat):Rat:=d.fq (d.jE h) i
theorem axz {d:Day}(ab:d.dF){f:Nat->Nat}{g z:Nat->Rat}(U:Inv d f g)(a2:∀i,i<d.n->z i<=g i){c:dZ}(H:c∈d.dt):d.jE z c<=d.q f z c:=by
 have bC:=ab.aE c H;have kR:=ab.bM c H;unfold Day.q
 by_cases eS:c.bM<f c.aE
 ·rw[ad eS];exact ab.aaD z H
 ·rw[ag eS];have dj:f c.aE<10:=by omega
  have G:=U.U _ bC dj;have J:=a2 _ bC
  by_cases eO:c.bM=f c.aE
  ·rw[ad eO];unfold Day.jE;rw[ag (by rw[eO];grind)];exact g8
  ·rw[ag eO];have af:=ab.yE c.aE (r:=f c.aE+1) (s:=c.bM) (by omega);have aP:=ab.yE c.aE (r:=c.bM) (s:=c.bM+1) (by omega);unfold Day.jE;rw[ag (by grind),vM (by grind),xb];exact g8
theorem Inv.aaI {d:Day}(ab:d.dF){f:Nat->Nat}{g h z:Nat->Rat}(U:Inv d f g)(DI:∀i,i<d.n->h i=d.fq (d.q f h) i)(hle:∀i,i<d.n->h i<=g i)(a2:∀i,i<d.n->z i<=d.fq (d.q f z) i):∀i,i<d.n->z i<=h i:=by
 intro i0 tZ;apply nY;intro lD;obtain⟨C,vO⟩:∃C:Nat->Prop,∀i,C i↔i<d.n/\h i<z i:=⟨λi=>i<d.n/\h i<z i,λ_=>Iff.rfl⟩;obtain⟨Jl,BW⟩:∃axA:Nat->Prop,∀i,axA i↔C i/\f i<10:=⟨λi=>C i/\f i<10,λ_=>Iff.rfl⟩;have ll:∀i,C i->i<d.n:=λi h=>((vO i).1 h).1;have Jm:∀i,C i->h i<z i:=λi h=>((vO i).1 h).2;have b5:∃i,C i:=⟨i0,(vO i0).2 ⟨tZ,by grind⟩⟩
 have ay:=aau C ll d.dt λc=>d.q f z c-d.q f h c;have aA:=ab.Nl Jl f (λk L=>U.qP (ll k ((BW k).1 L).1) ((BW k).1 L).2) λk=>z k-h k
 have bQ:d.hA C (λi=>z i-h i)<=cN d.n λi=>if C i then ck d.dt (λc=>if c.to=(i:Int) then d.q f z c-d.q f h c else 0) else 0:=by
  refine Nj λk L=>?_
  by_cases H:C k
  ·rw[ad H,ad H,<-d.RZ,<-DI k L];have G:=a2 k L;grind
  ·rw[ag H,ag H];exact g8
 rw[ay] at bQ
 have bL:cN d.n (λk=>if Jl k then z k-h k else 0)<=d.hA C (λi=>z i-h i):=by
  refine Nj λk L=>?_
  by_cases H:C k
  ·rw[ad H];have:=Jm k H
   split<;>grind
  ·rw[ag H,ag λh=>H ((BW k).1 h).1];exact g8
 have ajA:∀c∈d.dt,0<=(if Jl c.aE/\c.bM=f c.aE then d.w c*(z c.aE-h c.aE) else 0)-(if ss C c then d.q f z c-d.q f h c else 0):=by
  intro c H;have hw:=ab.su H;have bC:=ab.aE c H;have kR:=ab.bM c H
  by_cases G:Jl c.aE/\c.bM=f c.aE
  ·rw[ad G];have J:0<=d.w c*(z c.aE-h c.aE):=vN hw (by have:=Jm _ ((BW _).1 G.1).1;grind)
   have af:d.q f z c-d.q f h c<=d.w c*(z c.aE-h c.aE):=by
    unfold Day.q;rw[ag (by omega),ad G.2,ag (by omega),ad G.2]
    have aP:pos (z c.aE-d.bZ c.aE c.bM)-pos (h c.aE-d.bZ c.aE c.bM)<=z c.aE-h c.aE:=by
     have:=Jm _ ((BW _).1 G.1).1;unfold pos
     split<;>split<;>grind
    have:=Ge hw aP;grind
   split<;>grind
  ·rw[ag G]
   have af:d.q f z c-d.q f h c<=0:=by
    unfold Day.q
    by_cases eS:c.bM<f c.aE
    ·rw[ad eS,ad eS];grind
    ·rw[ag eS,ag eS]
     by_cases eO:c.bM=f c.aE
     ·rw[ad eO,ad eO]
      have aP:z c.aE<=h c.aE:=by
       apply nY;intro aM;exact G ⟨(BW _).2 ⟨(vO _).2 ⟨bC,by grind⟩,by omega⟩,eO⟩
      have:=Ge hw (ajp (show z c.aE-d.bZ c.aE c.bM<=h c.aE-d.bZ c.aE c.bM by grind));grind
     ·rw[ag eO,ag eO];grind
   split<;>grind
 have axB:=aas ajA (by rw[Ni,aA];grind)
 have aaJ:∀k,C k->f k<10:=by
  have:cN d.n (λk=>(if C k then z k-h k else 0)-(if Jl k then z k-h k else 0))<=0:=by
   rw[Nk];have:0<=ck d.dt λc=>(if Jl c.aE/\c.bM=f c.aE then d.w c*(z c.aE-h c.aE) else 0)-(if ss C c then d.q f z c-d.q f h c else 0):=z5 ajA;rw[Ni,aA] at this;have bh:d.hA C (λi=>z i-h i)=cN d.n λk=>if C k then z k-h k else 0:=rfl;grind
  have aM:=axm (λk L=>by
   try dsimp only
   by_cases H:C k
   ·rw[ad H];have:=Jm k H
    split<;>grind
   ·rw[ag H,ag λh=>H ((BW k).1 h).1];grind) this
  intro k L;apply nY;intro dj;have:=aM k (ll k L)
  try dsimp only at this
  rw[ad L,ag λh=>dj ((BW k).1 h).2] at this;have:=Jm k L;grind
 have cJ:∀c∈d.dt,C c.aE->c.bM=f c.aE->0<c.am->ss C c/\d.bZ c.aE c.bM<=h c.aE:=by
  intro c H hh kR yG;have aj:=axB c H;have hw:=ab.aaz H yG;have av:=Jm _ hh
  try dsimp only at aj
  rw[ad ⟨(BW _).2 ⟨hh,aaJ _ hh⟩,kR⟩] at aj
  by_cases cJ:ss C c
  ·refine⟨cJ,?_⟩;rw[ad cJ] at aj;unfold Day.q at aj;rw[ag (by omega),ad kR,ag (by omega),ad kR] at aj;apply nY;intro aM;rw[vM (x:=h c.aE-d.bZ c.aE c.bM) (by grind)] at aj
   have aP:0<z c.aE-h c.aE-pos (z c.aE-d.bZ c.aE c.bM):=by
    unfold pos
    split<;>grind
   have:=R1 hw aP;grind
  ·rw[ag cJ] at aj;have:0<d.w c*(z c.aE-h c.aE):=R1 hw (by grind);grind
 have oC:∀k,C k->d.bZ k (f k)<=h k:=by
  intro k L;have Q:=U.qP (ll k L) (aaJ k L);obtain⟨mN,iv,iJ⟩:=aat Q
  by_cases aX:mN.aE=k/\mN.bM=f k
  ·rw[ad aX] at iJ;have:=(cJ mN iv (by rw[aX.1];exact L) (by rw[aX.1];exact aX.2) iJ).2;rwa [aX.1,aX.2] at this
  ·rw[ag aX] at iJ;exact absurd iJ (by grind)
 have jg:=U.ajv ab b5 (λi H=>⟨ll i H,aaJ i H⟩) (λc H hh kR yG=>(cJ c H hh kR yG).1) (d.q f h) (λk=>h k-d.bZ k (f k)) (λk _ L=>by have:=oC k L;grind) λc H _=>by
  by_cases hh:C c.aE
  ·rw[Jj hh];unfold Day.q
   by_cases eS:c.bM<f c.aE
   ·rw[ad eS,ad eS,ag (by omega)];grind
   ·rw[ag eS,ag eS]
    by_cases eO:c.bM=f c.aE
    ·rw[ad eO,ad ⟨hh,eO⟩,eO,yF (by have:=oC _ hh;grind)];grind
    ·rw[ag eO,ag λh=>eO h.2];grind
  ·rw[Nn hh,ag λh=>hh h.1];have:=ab.ajy (f:=f) H (hle _ (ab.aE c H));grind
 have bK:d.hA C (d.fq (d.q f h))=d.hA C h:=Day.Nm λi cJ _=>(DI i cJ).symm;have bE:d.hA C (λi=>d.bZ i (f i)+(h i-d.bZ i (f i)))=d.hA C h:=Day.Nm λi _ _=>by grind
 rw[bK,bE] at jg;exact absurd jg (by grind)
theorem Inv.final {d:Day}(ab:d.dF){f:Nat->Nat}{g h:Nat->Rat}(U:Inv d f g)(DI:∀i,i<d.n->h i=d.fq (d.q f h) i)(hle:∀i,i<d.n->h i<=g i)(hE:∀i,i<d.n->d.bZ i (f i)<=h i):(∀i,i<d.n->h i=d.uF h i)/\∀i,i<d.n->(f i<10↔h i<d.bZ i 10):=by
 constructor
 ·intro i cJ;rw[DI i cJ];unfold Day.uF;have:∀j,j<d.n->h j=d.fq (d.q f h) j:=DI;refine d.ajr (λc H=>?_) i;have bC:=ab.aE c H;have kR:=ab.bM c H;have aj:=hE _ bC;unfold Day.q Day.jE
  by_cases eS:c.bM<f c.aE
  ·have:=ab.yE c.aE (r:=c.bM+1) (s:=f c.aE) (by omega);rw[ad eS,ad (by grind)]
  ·rw[ag eS];have dj:f c.aE<10:=by omega
   have G:=U.U _ bC dj;have J:=hle _ bC
   by_cases eO:c.bM=f c.aE
   ·rw[ad eO,ag (by rw[eO];grind)]
   ·have af:=ab.yE c.aE (r:=f c.aE+1) (s:=c.bM) (by omega);have aP:=ab.yE c.aE (r:=c.bM) (s:=c.bM+1) (by omega);rw[ag eO,ag (by grind),vM (by grind),xb]
 ·intro i cJ
  constructor
  ·intro dj;have G:=U.U _ cJ dj;have J:=hle _ cJ;have af:=ab.yE i (r:=f i+1) (s:=10) (by omega);grind
  ·intro G;apply nY;intro J;have af:=U.le i;have aP:f i=10:=by omega
   have bh:=hE i cJ;rw[aP] at bh;grind
end Go.Mini
namespace Go.Mini
open Classical
def oH (d:Day)(f:Nat->Nat)(h:Nat->Rat):Prop:=∃g,Inv d f g/\(∀i,i<d.n->h i=d.fq (d.q f h) i)/\∀i,i<d.n->h i<=g i
theorem oH.unique {d:Day}(ab:d.dF){f:Nat->Nat}{h cv:Nat->Rat}(a:oH d f h)(b:oH d f cv):∀i,i<d.n->h i=cv i:=by
 obtain⟨g,G,J,af⟩:=a;obtain⟨ea,cL,dN,eo⟩:=b;intro i cJ;have ay:=G.aaI ab J af (z:=cv) (λi U=>Gb (dN i U)) i cJ;have aA:=cL.aaI ab dN eo (z:=h) (λi U=>Gb (J i U)) i cJ;grind
def Day.jd (d:Day)(h:Nat->Rat)(i:Nat):Nat->Nat
 |0=>10
 |k+1=>if h i<d.bZ i (10-(k+1)+1) then 10-(k+1) else Day.jd d h i k
theorem aaK {d:Day}(ab:d.dF){h:Nat->Rat}{i:Nat}:∀k,k<=10->d.bZ i (10-k)<=h i->(d.jd h i k=10/\d.bZ i 10<=h i)\/(10-k<=d.jd h i k/\d.jd h i k<10/\d.bZ i (d.jd h i k)<=h i/\h i<d.bZ i (d.jd h i k+1))
 |0,_,aj => .inl ⟨rfl,aj⟩
 |k+1,L,aj=>by
  unfold Day.jd
  by_cases G:h i<d.bZ i (10-(k+1)+1)
  ·rw[ad G];exact .inr ⟨cI _,by omega,aj,G⟩
  ·rw[ag G];rcases aaK ab (h:=h) (i:=i) k (by omega) (by rw[show 10-k=10-(k+1)+1 by omega];grind) with e|⟨ay,aA⟩
   ·exact .inl e
   ·exact .inr ⟨by omega,aA⟩
def Day.gr (d:Day)(f:Nat->Nat)(h:Nat->Rat)(i:Nat):Nat:=if i<d.n/\h i<d.bZ i (f i) then d.jd h i 10 else f i
theorem ajB {d:Day}(ab:d.dF){f:Nat->Nat}{h:Nat->Rat}(hle:∀i,f i<=10)(aj:∀i,i<d.n->0<=h i):aaF d f h (d.gr f h):=by
 have key:∀i,i<d.n->h i<d.bZ i (f i)->d.jd h i 10<f i/\d.bZ i (d.jd h i 10)<=h i/\h i<d.bZ i (d.jd h i 10+1):=by
  intro i cJ dw;have hm:=ab.yE i (hle i);rcases aaK ab (h:=h) (i:=i) 10 (cI _) (by rw[j6,d.RW];exact aj i cJ) with ⟨-,e⟩|⟨-,ay,aA,bQ⟩
  ·grind
  ·refine⟨?_,aA,bQ⟩;apply nY;intro aM;have:=ab.yE i (r:=f i) (s:=d.jd h i 10) (by omega);grind
 refine⟨λi=>?_,λi cJ dw=>?_,λi cJ dw=>?_⟩
 ·unfold Day.gr
  split
  ·rename_i aX;have:=(key i aX.1 aX.2).1;have:=hle i;omega
  ·exact hle i
 ·unfold Day.gr;rw[ad ⟨cJ,dw⟩];exact key i cJ dw
 ·unfold Day.gr;rw[ag λaX=>by have:=aX.2;grind]
theorem oH.aaH {d:Day}(ab:d.dF){f:Nat->Nat}{h:Nat->Rat}(a:oH d f h):Inv d (d.gr f h) h:=by
 obtain⟨g,G,J,af⟩:=a;exact G.aaH ab J af (ajB ab G.le λi cJ=>by rw[J i cJ];exact ab.aaE (λc H=>ab.R3 f h H) cJ)
theorem oH.aaL {d:Day}(ab:d.dF){f:Nat->Nat}{h:Nat->Rat}(a:oH d f h){i:Nat}(cJ:i<d.n):0<=h i:=by
 obtain⟨g,G,J,af⟩:=a;rw[J i cJ];exact ab.aaE (λc H=>ab.R3 f h H) cJ
def Day.top (d:Day)(f:Nat->Nat):Nat->Rat:=if h:∃x,oH d f x then zq h else λ_=>0
def Day.hU (d:Day)(f:Nat->Nat):List Nat:=(eY d.n).filter λi=>decide (d.top f i<d.bZ i (f i))
def Day.rounds (d:Day):Nat->(Nat->Nat)->List (List Nat)×(Nat->Nat)
 |0,f=>([],f)
 |k+1,f=>if d.hU f=[] then ([],f) else (d.hU f::(Day.rounds d k (d.gr f (d.top f))).1,(Day.rounds d k (d.gr f (d.top f))).2)
def Reach (d:Day)(f:Nat->Nat):Prop:=∃g,Inv d f g/\∀z,(∀i,i<d.n->z i<=d.uF z i)->∀i,i<d.n->z i<=g i
theorem Reach.start {d:Day}(ab:d.dF):Reach d λ_=>10:=⟨_,Inv.start ab,λz a2 i cJ=>yH (a2 i cJ) (d.Gf (λ_ H=>ab.aaD z H) i)⟩
def kj:Nat->(Nat->Nat)->Nat
 |0,_=>0
 |n+1,f=>kj n f+f n
theorem axC {n:Nat}{f g:Nat->Nat}(h:∀i,i<n->f i<=g i):kj n f<=kj n g:=by
 induction n with
 |zero=>exact cI _
 |succ n aH =>
  have:=aH λi U=>h i (by omega);have:=h n (by omega);simp only[kj];omega
theorem aaM {n:Nat}{f g:Nat->Nat}(h:∀i,i<n->f i<=g i){j:Nat}(ax:j<n)(av:f j<g j):kj n f<kj n g:=by
 induction n with
 |zero=>omega
 |succ n aH =>
  have G:=h n (by omega);simp only[kj]
  by_cases axD:j=n
  ·subst axD;have:=axC (n:=j) (f:=f) (g:=g) λi U=>h i (by omega);omega
  ·have:=aH (λi U=>h i (by omega)) (by omega);omega
theorem Day.DJ {d:Day}{f:Nat->Nat}(h:∃x,oH d f x):oH d f (d.top f):=by
 unfold Day.top;rw[dif_pos h];exact r2 h
theorem Day.Nq {d:Day}{f:Nat->Nat}{i:Nat}:i∈d.hU f↔i<d.n/\d.top f i<d.bZ i (f i):=by
 unfold Day.hU;rw[Jn,jC,decide_eq_true_eq]
section
variable {d:Day} (ab:d.dF) (hex:∀f,Reach d f->∃h,oH d f h)
include ab hex
theorem axE {f:Nat->Nat}(X:Reach d f){z:Nat->Rat}(a2:∀i,i<d.n->z i<=d.uF z i):∀i,i<d.n->z i<=d.top f i:=by
 obtain⟨g,G,J,af⟩:=Day.DJ (hex f X);obtain⟨ea,cL,dN⟩:=X;have cm:oH d f (d.top f):=⟨g,G,J,af⟩
 -- the end of the round below ea
 intro i cJ;have KX:=λk L=>yH (a2 k L) (d.Gf (λ_ H=>axz ab cL (dN z a2) H) k);exact G.aaI ab J af KX i cJ
theorem Reach.next {f:Nat->Nat}(X:Reach d f):Reach d (d.gr f (d.top f)):=⟨d.top f,(Day.DJ (hex f X)).aaH ab,λz a2=>axE ab hex X a2⟩
theorem R4 {f:Nat->Nat}(X:Reach d f)(b5:d.hU f≠[]):kj d.n (d.gr f (d.top f))<kj d.n f:=by
 obtain⟨i,U⟩:=List.exists_mem_of_ne_nil _ b5;obtain⟨G,J⟩:=Day.Nq.1 U;have cm:=Day.DJ (hex f X);obtain⟨g,cL,-⟩:=cm;have aD:=ajB ab cL.le (h:=d.top f) λi cJ=>(Day.DJ (hex f X)).aaL ab cJ;refine aaM (λj ax=>?_) G (aD.2.1 i G J).1
 by_cases dw:d.top f j<d.bZ j (f j)
 ·have:=(aD.2.1 j ax dw).1;omega
 ·rw[aD.2.2 j ax (by grind)];exact cI _
theorem ajC:∀k (f:Nat->Nat),Reach d f->kj d.n f<=k->Reach d (d.rounds k f).2/\d.hU (d.rounds k f).2=[]
 |0,f,X,L=>by
  refine⟨X,?_⟩;apply nY;intro b5;have:=R4 ab hex X b5;omega
 |k+1,f,X,L=>by
  unfold Day.rounds
  by_cases b5:d.hU f=[]
  ·rw[ad b5];exact⟨X,b5⟩
  ·rw[ag b5];have:=R4 ab hex X b5;exact ajC k _ (X.next ab hex) (by omega)
end
theorem Day.ajD (d:Day){f:Nat->Nat}(h:d.hU f=[]):∀k,d.rounds k f=([],f)
 |0=>rfl
 |k+1=>by unfold Day.rounds;rw[ad h]
end Go.Mini
namespace Go.Mini
abbrev aB:=Int×Int×Int×Int
def lQ (n:Int)(c:aB):Bool:=decide (0<=c.1)&&decide (c.1<n)&&decide (-1<=c.2.1)&&decide (c.2.1<n)&&decide (0<=c.2.2.1)&&decide (c.2.2.1<10)&&decide (0<=c.2.2.2)&&decide (c.2.2.2<=1000000000000000)
def g9 (E:List Int)(cs:List aB):Bool:=decide (D E<=60)&&decide (D cs<=2000)&&E.all (λx=>decide (0<=x)&&decide (x<=1000000000000000))&&cs.all (lQ (D E))
def ca (c:aB):dZ:=⟨c.1.toNat,c.2.1,c.2.2.1.toNat,(c.2.2.2:Rat)⟩
def ak (E:List Int)(cs:List aB):Day:=⟨D E,λi=>((E.getD i 0:Int):Rat),cs.map ca⟩
theorem hB {E:List Int}{cs:List aB}:g9 E cs=true↔(D E)<=60/\D cs<=2000/\(∀x∈E,0<=x/\x<=1000000000000000)/\∀c∈cs,0<=c.1/\c.1<(D E) /\ -1<=c.2.1/\c.2.1<D E/\0<=c.2.2.1/\c.2.2.1<10/\0<=c.2.2.2/\c.2.2.2<=1000000000000000:=by
 unfold g9 lQ;simp only[gb,decide_eq_true_eq,List.all_eq_true,and_assoc]
theorem Nr {E:List Int}{cs:List aB}(h:g9 E cs=true):(ak E cs).dF:=by
 obtain⟨-,-,af,aP⟩:=hB.1 h
 have H:∀x∈(ak E cs).dt,∃c∈cs,x=ca c:=λx M=>by
  obtain⟨c,H,rfl⟩:=gE.1 M;exact⟨c,H,rfl⟩
 refine⟨λx M=>?_,λx M=>?_,λx M=>?_,λx M=>?_,λi U=>?_⟩
 ·obtain⟨c,H,rfl⟩:=H x M;have:=aP c H;show c.1.toNat<D E;omega
 ·obtain⟨c,H,rfl⟩:=H x M;have:=aP c H;show c.2.1<(D E:Int);omega
 ·obtain⟨c,H,rfl⟩:=H x M;have:=aP c H;show c.2.2.1.toNat<10;omega
 ·obtain⟨c,H,rfl⟩:=H x M;have:=(aP c H).2.2.2.2.2.2.1;show (0:Rat)<=(c.2.2.2:Rat);exact_mod_cast this
 ·show (0:Rat)<=((E.getD i 0:Int):Rat);have mB:i<D E:=U
  have:0<=E.getD i 0:=by
   rw[ez,bB mB];exact (af _ (nM mB)).1
  exact_mod_cast this
def cl:List aB->(aB->Int)->Int
 | [],_=>0
 |c::l,aR=>aR c+cl l aR
def b0 (cs:List aB)(who r:Int):Int:=cl cs λc=>if c.1=who/\c.2.2.1<r then c.2.2.2 else 0
theorem Ns (cs:List aB)(aR:aB->Int)(bD:dZ->Rat)(h:∀c∈cs,((aR c:Int):Rat)=bD (ca c)):((cl cs aR:Int):Rat)=ck (cs.map ca) bD:=by
 induction cs with
 |nil=>rfl
 |cons c l aH=>rw[cl,eI,ck,z7,h c g0,aH λx M=>h x (h3 _ M)]
theorem Gg {cs:List aB}{aR bD:aB->Int}(h:∀c∈cs,aR c=bD c):cl cs aR=cl cs bD:=by
 induction cs with
 |nil=>rfl
 |cons c l aH=>rw[cl,cl,h c g0,aH λx M=>h x (h3 _ M)]
theorem Jo {cs:List aB}{aR:aB->Int}{B:Int}(jK:0<=B)(h:∀c∈cs,0<=aR c/\aR c<=B):0<=cl cs aR/\cl cs aR<=D cs*B:=by
 induction cs with
 |nil=>simp[cl]
 |cons c l aH =>
  have G:=h c g0;have J:=aH λx M=>h x (h3 _ M);simp only[cl,kB]
  have:((D l+1:Nat):Int)*B=D l*B+B:=by
   rw[Int.natCast_add,Int.add_mul];simp
  omega
theorem Nt (a b:List aB)(aR:aB->Int):cl (a++b) aR=cl a aR+cl b aR:=by
 induction a with
 |nil=>simp[cl]
 |cons c l aH=>simp only[m0,cl,aH];omega
theorem ps {E:List Int}{cs:List aB}(h:g9 E cs=true)(i r:Nat):((b0 cs i r:Int):Rat)=(ak E cs).bZ i r:=by
 refine Ns cs _ (λc=>if c.aE=i/\c.bM<r then c.am else 0) λc H=>?_;have:=(hB.1 h).2.2.2 c H;show ((if c.1=(i:Int)/\c.2.2.1<(r:Int) then c.2.2.2 else 0:Int):Rat)=if c.1.toNat=i/\c.2.2.1.toNat<r then (c.2.2.2:Rat) else 0
 by_cases G:c.1=(i:Int)/\c.2.2.1<(r:Int)
 ·rw[ad G,ad (by omega)]
 ·rw[ag G,ag (by omega)];rfl
theorem Jp {E:List Int}{cs:List aB}(h:g9 E cs=true)(i r:Nat):((b0 cs i (r+1:Nat)-b0 cs i r:Int):Rat)=(ak E cs).S i r:=by
 have G:=ps h i r;have J:=ps h i (r+1);rw[R5,G,J,Day.z6];grind
def lR (E:List Int)(cs:List aB)(f:Nat->Nat)(i:Nat):Int:=E.getD i 0+cl cs λc=>if c.2.1=(i:Int)/\c.2.2.1<(f c.1.toNat:Int) then c.2.2.2 else 0
def ext (N:Nat)(y:Nat->Rat)(z:Rat):Nat->Rat:=λk=>if k<N then y k else z
theorem Nu (N:Nat)(a y:Nat->Rat)(z:Rat):nE N a (ext N y z)=cN N (λk=>a k*y k)+a N*z:=by
 unfold nE ext;rw[cN]
 congr 1
 ·exact oG λk L=>by rw[ad L]
 ·rw[ag (by omega)]
theorem aaN {N:Nat}{aU:ff}{ew:Nat->Nat}(h:sr N aU N N ew)(jT:∀j,j<N->ew j=j){i:Nat}(U:i<N)(y:Nat->Rat)(z:Rat):nE N (aU i) (ext N y z)=y i+aU i N*z:=by
 rw[Nu]
 congr 1
 have:∀k,k<N->aU i k=if i=k then 1 else 0:=λk L=>by
  have:=h.unit k L i U;rwa [jT k L] at this
 rw[BV U λk L tR=>by rw[this k L,ag (Ne.symm tR),Np],this i U,ad rfl,Nv]
theorem ajE {N:Nat}{aU:ff}{ew:Nat->Nat}(h:sr N aU N N ew)(jT:∀j,j<N->ew j=j)(y:Nat->Rat):iS N aU (ext N y (-1))↔∀i,i<N->y i=aU i N:=by
 unfold iS
 constructor
 ·intro dL i U;have:=dL i U;rw[aaN h jT U] at this;grind
 ·intro dL i U;rw[aaN h jT U,dL i U];grind
theorem axF {N:Nat}{aU:ff}{ew:Nat->Nat}(h:sr N aU N N ew)(jT:∀j,j<N->ew j=j)(y:Nat->Rat)(dL:iS N aU (ext N y 0)):∀i,i<N->y i=0:=by
 intro i U;have:=dL i U;rw[aaN h jT U] at this;grind
def uG (aU:ff)(c:Nat):Nat->Rat:=λk=>if k<c then 0-aU k c else if k=c then 1 else 0
theorem ajF {N c:Nat}{aU:ff}{ew:Nat->Nat}(h:sr N aU c c ew)(jT:∀j,j<c->ew j=j)(H:c<N)(a2:∀i,c<=i->i<N->aU i c=0):iS N aU (ext N (uG aU c) 0):=by
 intro i U;rw[Nu]
 have main:∀n,c<n->n<=N->cN n (λk=>aU i k*uG aU c k)=cN (c+1) (λk=>aU i k*uG aU c k):=by
  intro n
  induction n with
  |zero=>intro h;omega
  |succ n aH =>
   intro G J
   by_cases KW:c=n
   ·rw[KW]
   ·rw[cN,aH (by omega) (by omega)];unfold uG;rw[ag (show ¬ n<c by omega),ag (show ¬ n=c by omega)];grind
 rw[main N H (cI _),cN];have L:uG aU c c=1:=by unfold uG;rw[ag (by omega),ad rfl]
 rw[L]
 have hu:∀k,k<c->aU i k=if i=k then 1 else 0:=λk L=>by
  have:=h.unit k L i U;rwa [jT k L] at this
 rcases hn i c with av|b4
 ·rw[BV av λk L tR=>by rw[hu k L,ag (Ne.symm tR),Np],hu i av,ad rfl]
  unfold uG;rw[ad av];grind
 ·rw[BU λk L=>by rw[hu k L,ag (by omega),Np],a2 i b4 U]
  grind
abbrev fO:=Nat->Rat
def kl (n:Nat)(f:List fO->Rat):List fO->List fO->Rat
 |_,[]=>0
 |pre,c::cs=>c n*f (pre++cs)-kl n f (pre++[c]) cs
def gV:Nat->List fO->Rat
 |0,[]=>1
 |0,_::_=>0
 |n+1,cs=>kl n (gV n) [] cs
def DK (x y:fO)(a:Rat):fO:=λi=>x i+a*y i
def aaO (f:List fO->Rat):Prop:=∀A B x y a,f (A++DK x y a::B)=f (A++x::B)+a*f (A++y::B)
def aaP (f:List fO->Rat):Prop:=∀A B z,f (A++z::z::B)=0
theorem axG {n:Nat}{f:List fO->Rat}(h:aaO f)(x y:fO)(a:Rat)(A:List fO):∀cs oI,kl n f (A++DK x y a::oI) cs=kl n f (A++x::oI) cs+a*kl n f (A++y::oI) cs:=by
 intro cs
 induction cs with
 |nil=>intro oI;simp only[kl];grind
 |cons c cs aH =>
  intro oI;have e:=aH (oI++[c]);simp only[kl,hd,m0] at e ⊢;rw[h A (oI++cs) x y a,e];grind
theorem axH {n:Nat}{f:List fO->Rat}(h:aaO f)(x y:fO)(a:Rat)(B:List fO):∀A pre,kl n f pre (A++DK x y a::B)=kl n f pre (A++x::B)+a*kl n f pre (A++y::B):=by
 intro A
 induction A with
 |nil =>
  intro pre;have e:=axG (n:=n) h x y a pre B [];simp only[ir,kl];rw[e];simp only[DK];grind
 |cons c A aH =>
  intro pre;have e:=aH (pre++[c]);have aA:=h (pre++A) B x y a;simp only[hd] at aA;simp only[m0,kl];rw[e,aA];grind
theorem Gh:∀n,aaO (gV n)
 |0=>by
  intro A B x y a
  cases A<;>simp only[ir,m0,gV]<;>grind
 |n+1=>λA B x y a=>axH (Gh n) x y a B A []
theorem axI {n:Nat}{f:List fO->Rat}(h:aaP f)(z:fO)(A:List fO):∀cs oI,kl n f (A++z::z::oI) cs=0:=by
 intro cs
 induction cs with
 |nil=>intro oI;rfl
 |cons c cs aH =>
  intro oI;have e:=aH (oI++[c]);have aA:=h A (oI++cs) z;simp only[kl,hd,m0] at e aA ⊢;rw[e,aA];grind
theorem axJ {n:Nat}{f:List fO->Rat}(h:aaP f)(z:fO)(B:List fO):∀A pre,kl n f pre (A++z::z::B)=0:=by
 intro A
 induction A with
 |nil =>
  intro pre;have e:=axI (n:=n) h z pre B [];simp only[ir,kl,hd,m0] at e ⊢;rw[e];grind
 |cons c A aH =>
  intro pre;have e:=aH (pre++[c]);have aA:=h (pre++A) B z;simp only[hd] at aA;simp only[m0,kl];rw[e,aA];grind
theorem Nw:∀n,aaP (gV n)
 |0=>by
  intro A B z
  cases A<;>rfl
 |n+1=>λA B z=>axJ (Nw n) z B A []
theorem axK (n:Nat)(A B:List fO)(x y:fO):gV n (A++x::y::B) = -gV n (A++y::x::B):=by
 have aj:=Nw n A B (DK x y 1);have G:=Gh n A (DK x y 1::B) x y 1;rw[aj] at G;have J:=Gh n (A++[x]) B x y 1;have af:=Gh n (A++[y]) B x y 1;simp only[hd,m0,ir] at J af;rw[J,af,Nw n A B x,Nw n A B y] at G;grind
theorem ajG (n:Nat)(C:List fO)(z:fO):∀B A,gV n (A++z::(B++z::C))=0:=by
 intro B
 induction B with
 |nil=>intro A;exact Nw n A C z
 |cons b B aH =>
  intro A;have:=aH (A++[b]);simp only[hd,m0,ir] at this ⊢;rw[axK,this];grind
theorem aaQ {n:Nat}{A B:List fO}{z:fO}(h:z∈A++B):gV n (A++z::B)=0:=by
 rcases jy.1 h with h|h
 ·obtain⟨axL,Nx,rfl⟩:=ajH h;have:=ajG n B z Nx axL
  simpa only [hd,m0] using this
 ·obtain⟨Ec,Ed,rfl⟩:=ajH h;exact ajG n Ed z Ec A
theorem axM {n:Nat}{f:List fO->Rat}{z:fO}(a2:z n=0)(h:∀A B,f (A++z::B)=0):(∀cs A oI,kl n f (A++z::oI) cs=0)/\∀A B pre,kl n f pre (A++z::B)=0:=by
 have G:∀cs A oI,kl n f (A++z::oI) cs=0:=by
  intro cs
  induction cs with
  |nil=>intro A oI;rfl
  |cons c cs aH =>
   intro A oI;have e:=aH A (oI++[c]);have aA:=h A (oI++cs);simp only[kl,hd,m0] at e aA ⊢;rw[e,aA];grind
 refine⟨G,λA=>?_⟩
 induction A with
 |nil =>
  intro B pre;have e:=G B pre [];simp only[ir,kl];rw[e,a2];grind
 |cons c A aH =>
  intro B pre;have e:=aH B (pre++[c]);have aA:=h (pre++A) B;simp only[hd] at aA;simp only[m0,kl];rw[e,aA];grind
theorem aaR:∀n (z:fO),(∀i,i<n->z i=0)->∀A B,gV n (A++z::B)=0
 |0,z,_=>λA B=>by cases A<;>rfl
 |n+1,z,h=>λA B=>(axM (h n (by omega)) (aaR n z λi U=>h i (by omega))).2 A B []
theorem ajI {n:Nat}{e:fO}(h:∀i,i<n->e i=0)(cs:List fO):gV (n+1) (e::cs)=e n*gV n cs:=by
 show e n*gV n ([]++cs)-kl n (gV n) ([]++[e]) cs=_
 have:∀cs pre,kl n (gV n) (e::pre) cs=0:=by
  intro cs
  induction cs with
  |nil=>intro pre;rfl
  |cons c cs aH =>
   intro pre;have ay:=aH (pre++[c]);have aA:=aaR n e h [] (pre++cs);simp only[kl,m0,ir] at ay aA ⊢;rw[ay,aA];grind
 simp only[ir];rw[this cs []];grind
theorem axN {n:Nat}{f:List fO->Rat}{T:fO->fO}(dy:∀c,T c n=c n)(h:∀l,f (l.map T)=f l):∀cs pre,kl n f (pre.map T) (cs.map T)=kl n f pre cs:=by
 intro cs
 induction cs with
 |nil=>intro pre;rfl
 |cons c cs aH =>
  intro pre;have e:=aH (pre++[c]);have aA:=h (pre++cs);simp only[kg,eI,b6] at e aA;simp only[eI,kl];rw[e,aA,dy]
theorem aaS:∀n (T:fO->fO),(∀c i,i<n->T c i=c i)->∀l,gV n (l.map T)=gV n l
 |0,T,_=>λl=>by cases l<;>rfl
 |n+1,T,h=>λl=>axN (λc=>h c n (by omega)) (aaS n T λc i U=>h c i (by omega)) l []
theorem ajJ {n:Nat}{α:Type}(l:List α)(f g:α->fO)(h:∀a∈l,∀i,i<n->f a i=g a i):gV n (l.map f)=gV n (l.map g):=by
 rw[<-aaS n (λc i=>if i<n then c i else 0) (λc i U=>ad U),<-aaS n (λc i=>if i<n then c i else 0) (λc i U=>ad U) (l.map g)];rw[pQ,pQ]
 congr 1
 apply pP;intro a a4
 funext i
 simp only[Function.comp]
 split
 ·exact h a a4 i (by assumption)
 ·rfl
theorem Ny (n:Nat)(A B:List fO)(x:Nat->Rat)(C:Nat->fO):∀m,gV n (A++(λi=>cN m λl=>x l*C l i)::B)=cN m λl=>x l*gV n (A++C l::B)
 |0=>aaR n _ (λi _=>rfl) A B
 |m+1=>by
  have e:=Gh n A B (λi=>cN m λl=>x l*C l i) (C m) (x m);rw[Ny n A B x C m] at e;exact e
def fx (B:Nat)(x:Rat):Prop:=∃z:Int,x=(z:Rat)/\z.natAbs<=B
theorem fx.mono {A B:Nat}{x:Rat}(h:fx A x)(az:A<=B):fx B x:=by obtain⟨z,G,J⟩:=h;exact⟨z,G,by omega⟩
theorem fx.mul {A B:Nat}{x y:Rat}(M:fx A x)(ao:fx B y):fx (A*B) (x*y):=by
 obtain⟨z,rfl,J⟩:=M;obtain⟨w,rfl,dC⟩:=ao;exact⟨z*w,by rw[tg],by rw[ug];exact xc J dC⟩
theorem fx.sub {A B:Nat}{x y:Rat}(M:fx A x)(ao:fx B y):fx (A+B) (x-y):=by
 obtain⟨z,rfl,J⟩:=M;obtain⟨w,rfl,dC⟩:=ao;exact⟨z-w,by rw[R5],by omega⟩
theorem fx.add {A B:Nat}{x y:Rat}(M:fx A x)(ao:fx B y):fx (A+B) (x+y):=by
 obtain⟨z,rfl,J⟩:=M;obtain⟨w,rfl,dC⟩:=ao;exact⟨z+w,by rw[z7],by omega⟩
theorem fx.zero {B:Nat}:fx B 0:=⟨0,by rfl,by simp⟩
theorem fx.int (z:Int):fx z.natAbs (z:Rat):=⟨z,rfl,cI _⟩
theorem fx.sum {B:Nat}{f:Nat->Rat}:∀n,(∀k,k<n->fx B (f k))->fx (n*B) (cN n f)
 |0,_=>fx.zero
 |n+1,h=>by
  have:=(fx.sum n λk L=>h k (by omega)).add (h n (by omega));exact this.mono (by rw[qq];exact cI _)
def rB:List (fO×Nat)->Nat
 | []=>1
 |p::l=>p.2*rB l
theorem axO (a b:List (fO×Nat)):rB (a++b)=rB a*rB b:=by
 induction a with
 |nil=>simp[rB]
 |cons p l aH=>simp only[m0,rB,aH,aaT]
theorem ajK {n bp:Nat}{f:List fO->Rat}(h:∀l:List (fO×Nat),(∀p∈l,∀i,i<n+1->fx p.2 (p.1 i))->(D l)<=bp->fx (bp^n*rB l) (f (l.map (·.1)))):
  ∀cs pre:List (fO×Nat),(∀p∈pre++cs,∀i,i<n+1->fx p.2 (p.1 i))->(D pre)+D cs<=bp+1->fx (D cs*(bp^n*rB (pre++cs))) (kl n f (pre.map (·.1)) (cs.map (·.1)))
 | [],pre,_,_=>fx.zero
 |c::cs,pre,aC,az=>by
  have e:=ajK h cs (pre++[c]) (by simpa using aC) (by simp at az ⊢;omega);have aA:=h (pre++cs) (λp hm=>aC p (by simp only[jy,m1] at hm ⊢;rcases hm with hm|hm<;>simp[hm])) (by simp at az ⊢;omega)
  have bQ:=(aC c (by simp) n (by omega)).mul aA;simp only[kg,eI,b6] at e aA bQ;simp only[eI,kl];refine (bQ.sub e).mono ?_;simp only[axO,rB,kB,hd,m0,ir,qq]
  have:c.2*(bp^n*(rB pre*rB cs))=bp^n*(rB pre*(c.2*rB cs)):=by
   rw[aaU,aaU c.2]
  rw[this];omega
theorem ajL (bp:Nat):∀n (l:List (fO×Nat)),(∀p∈l,∀i,i<n->fx p.2 (p.1 i))->(D l)<=bp->fx (bp^n*rB l) (gV n (l.map (·.1)))
 |0,[],_,_=>⟨1,by rfl,by simp[rB]⟩
 |0,p::l,_,_=>fx.zero
 |n+1,l,h,az=>by
  have:=ajK (bp:=bp) (f:=gV n) (λfL cv Cv=>ajL bp n fL (λp aC i U=>cv p aC i (by omega)) Cv) l [] (by simpa using h) (by simp;omega);refine fx.mono this ?_;rw[ir,wF,tU (bp^n) bp,aaT];exact o0 _ az
open Go
def mr (N:Nat)(l:List bG)(q:Nat->Rat):Prop:=l=((eY (N+1)).map q).map aq/\∀k,k<=N->dX (q k)
def yI (N:Nat)(rows:List dE)(aU:ff):Prop:=D rows=N/\∀(i:Nat) x,rows[i]?=some x->mr N x.2.2 (aU i)
theorem mr.get {N:Nat}{l:List bG}{q:Nat->Rat}(h:mr N l q){k:Nat}(L:k<=N):l[k]?=some (aq (q k)):=by
 rw[h.1,aW,aW,uV (by omega)]
 rfl
theorem mr.len {N:Nat}{l:List bG}{q:Nat->Rat}(h:mr N l q):(D l)=N+1:=by rw[h.1];simp
theorem mr.aaV {N:Nat}{l:List bG}{q:Nat->Rat}(az:(D l)=N+1)(h:∀k,k<=N->l[k]?=some (aq (q k))/\dX (q k)):mr N l q:=by
 refine⟨?_,λk L=>(h k L).2⟩;apply pJ;intro k;rcases hn k (N+1) with L|L
 ·rw[(h k (by omega)).1,aW,aW,uV L];rfl
 ·rw[iD (by omega),iD (by simp;omega)]
theorem mr.congr {N:Nat}{l:List bG}{q vj:Nat->Rat}(h:mr N l q)(bF:∀k,k<=N->q k=vj k):mr N l vj :=
 mr.aaV h.len λk L=>by rw[<-bF k L];exact⟨h.get L,h.2 k L⟩
theorem mr.cell {N:Nat}{x:dE}{q:Nat->Rat}(h:mr N x.2.2 q){k:Nat}(L:k<=N):cellOf x k=aq (q k):=Zp (h.get L)
theorem R6 (q:Rat):g7 (aq q)=decide (q=0):=by
 unfold g7 aq bd;rw[Bool.eq_iff_iff,beq_iff_eq,decide_eq_true_eq,Int.sign_eq_zero_iff_zero,Rat.num_eq_zero]
def th (fD a b:Rat):Bool:=zQ fD b&&qD a (-(fD*b))
theorem ajM {fD a b:Rat}(aD:dX fD)(a4:dX a)(ai:dX b)(h:th fD a b=true):
  h2 (aq fD) (aq b)=(aq (fD*b),0)/\kf (aq a) (aq (fD*b))=(aq (a-fD*b),0)/\dX (a-fD*b):=by
 unfold th at h;rw[gb] at h;refine⟨?_,?_,ahs h.2⟩
 ·rw[QL aD ai,h.1];rfl
 ·rw[Mo a4 (aht h.1),h.2];rfl
theorem axP {fD a b:Rat}(aD:dX fD)(a4:dX a)(ai:dX b)(h:th fD a b=false):
  ((h2 (aq fD) (aq b)).2 != 0||(kf (aq a) (h2 (aq fD) (aq b)).1).2 != 0)=true:=by
 unfold th at h;rw[QL aD ai];rcases G:zQ fD b
 ·rfl
 ·rw[G,fP] at h;show ((kf (aq a) (aq (fD*b))).2 != 0)=true;rw[Mo a4 (aht G),h]
  rfl
theorem axQ {fD:Rat}(aD:dX fD):∀(yJ pl:List Rat),D yJ=(D pl)->(∀x∈yJ,dX x)->(∀x∈pl,dX x) ->
  ((∀q∈yJ.zip pl,th fD q.1 q.2=true)->iz (aq fD) (yJ.map aq) (pl.map aq) false=((aaW (λa b=>a-fD*b) yJ pl).map aq,false)/\∀x∈aaW (λa b=>a-fD*b) yJ pl,dX x) /\
  ((iz (aq fD) (yJ.map aq) (pl.map aq) false).2=false->∀q∈yJ.zip pl,th fD q.1 q.2=true):=by
 intro yJ
 induction yJ with
 |nil=>intro pl az _ _;cases pl with
  |nil=>exact⟨λ_=>⟨rfl,by simp⟩,λ_=>by simp⟩
  |cons=>cases az
 |cons a yJ aH =>
  intro pl az G J
  cases pl with
  |nil=>cases az
  |cons b pl =>
   have a4:=G a g0;have ai:=J b g0;obtain⟨i1,i2⟩:=aH pl (by simpa using az) (λx M=>G x (h3 _ M)) (λx M=>J x (h3 _ M))
   constructor
   ·intro dO;obtain⟨ay,aA,bQ⟩:=ajM aD a4 ai (dO (a,b) (by simp));obtain⟨i3,i4⟩:=i1 λq bF=>dO q (by simp only[ajN,m1];exact .inr bF);refine⟨?_,λx M=>?_⟩
    ·simp only[eI,iz,ay,aA,ajO,bne_self_eq_false,lA,i3]
    ·rw[ajO,m1] at M;rcases M with rfl|M
     ·exact bQ
     ·exact i4 x M
   ·intro e1;simp only[eI,iz] at e1;rcases Q:th fD a b
    ·rw[axP aD a4 ai Q,MM] at e1
     cases e1
    ·obtain⟨ay,aA,bQ⟩:=ajM aD a4 ai Q;simp only[ay,aA,bne_self_eq_false,lA] at e1;intro q bF;rw[ajN,m1] at bF;rcases bF with rfl|bF
     ·exact Q
     ·exact i2 e1 q bF
theorem axR (n:Nat)(q p:Nat->Rat):((eY n).map q).zip ((eY n).map p)=(eY n).map λk=>(q k,p k):=by
 rw[List.zip_map',]
theorem axS (n:Nat)(f:Rat->Rat->Rat)(q p:Nat->Rat):aaW f ((eY n).map q) ((eY n).map p)=(eY n).map λk=>f (q k) (p k):=by
 rw[List.zipWith_map,List.zipWith_self]
theorem axT {N:Nat}{fD:Rat}{l aa:List bG}{q p:Nat->Rat}(aD:dX fD)(G:mr N l q)(J:mr N aa p):
  ((∀k,k<=N->th fD (q k) (p k)=true)->(iz (aq fD) l aa false).2=false)/\((iz (aq fD) l aa false).2=false->mr N (iz (aq fD) l aa false).1 (λk=>q k-fD*p k)):=by
 obtain⟨ay,aA⟩:=axQ aD ((eY (N+1)).map q) ((eY (N+1)).map p) (by simp) (by
  intro x M;obtain⟨k,L,rfl⟩:=gE.1 M;exact G.2 k (by have:=jC.1 L;omega)) (by
  intro x M;obtain⟨k,L,rfl⟩:=gE.1 M;exact J.2 k (by have:=jC.1 L;omega))
 rw[<-G.1,<-J.1] at ay aA
 have a2:(∀k,k<=N->th fD (q k) (p k)=true)↔∀x∈((eY (N+1)).map q).zip ((eY (N+1)).map p),th fD x.1 x.2=true:=by
  rw[axR];simp only[gE,jC]
  constructor
  ·rintro h x ⟨k,L,rfl⟩;exact h k (by omega)
  ·intro h k L;exact h (q k,p k) ⟨k,by omega,rfl⟩
 refine⟨λh=>by rw[(ay (a2.1 h)).1],λh=>?_⟩
 obtain⟨bQ,bL⟩:=ay (aA h);rw[bQ,axS] at *;exact⟨rfl,λk L=>bL _ (gE.2 ⟨k,jC.2 (by omega),rfl⟩)⟩
theorem R7 (fX:List bG)(r c:Nat):∀(i:Nat) (l:List dE),(iN fX r c i l true).2=true
 |_,[]=>rfl
 |i,x::xs=>by
  unfold iN
  split
  ·exact R7 fX r c (i+1) xs
  ·rw[MM];exact R7 fX r c (i+1) xs
theorem ajP {N r c:Nat}{fX:List bG}{p:Nat->Rat}(aC:mr N fX p)(H:c<=N):∀(i:Nat) (l:List dE) (cZ:ff),(∀(j:Nat) x,l[j]?=some x->mr N x.2.2 (cZ (i+j))) ->
  ((∀j,j<(D l)->i+j≠r->cZ (i+j) c≠0->∀k,k<=N->th (cZ (i+j) c) (cZ (i+j) k) (p k)=true)->(iN fX r c i l false).2=false) /\
  ((iN fX r c i l false).2=false->∀(j:Nat) x,(iN fX r c i l false).1[j]?=some x->mr N x.2.2 (λk=>if i+j=r then cZ (i+j) k else cZ (i+j) k-cZ (i+j) c*p k))
 |i,[],cZ,h=>⟨λ_=>rfl,λ_ j x M=>by simp[iN] at M⟩
 |i,x::xs,cZ,h=>by
  have aj:=h 0 x rfl;rw[l7] at aj
  obtain⟨ajQ,R8⟩:=ajP aC H (i+1) xs cZ λj y ao=>by
   have:=h (j+1) y ao;rwa [show i+(j+1)=i+1+j by omega] at this
  have nr:=aj.cell H
  have ajR:(∀j,j<(x::xs).length->i+j≠r->cZ (i+j) c≠0->∀k,k<=N->th (cZ (i+j) c) (cZ (i+j) k) (p k)=true)->∀j,j<(D xs)->i+1+j≠r->cZ (i+1+j) c≠0->∀k,k<=N->th (cZ (i+1+j) c) (cZ (i+1+j) k) (p k)=true:=by
   intro aX j ax;have:=aX (j+1) (by simpa using ax);rwa [show i+(j+1)=i+1+j by omega] at this
  unfold iN;rw[nr,R6]
  by_cases a2:(i==r||decide (cZ i c=0))=true
  ·rw[ad a2];refine⟨λaX=>ajQ (ajR aX),λai j y ao=>?_⟩
   cases j with
   |zero =>
    simp only[K7,cO] at ao;subst ao;rw[l7];refine aj.congr λk L=>?_;simp only[zn,beq_iff_eq,decide_eq_true_eq] at a2
    split
    ·rfl
    ·rcases a2 with a2|a2
     ·contradiction
     ·rw[a2];grind
   |succ j =>
    have:=R8 ai j y (by simpa using ao);rwa [show i+(j+1)=i+1+j by omega]
  ·rw[ag a2];simp only[zn,beq_iff_eq,decide_eq_true_eq,not_or] at a2;obtain⟨dh,dC⟩:=axT (aj.2 c H) aj aC
   constructor
   ·intro aX;have af:=dh (aX 0 (by simp) (by simpa using a2.1) (by simpa using a2.2));dsimp only;rw[af];exact ajQ (ajR aX)
   ·intro ai j y ao;dsimp only at ai ao;rcases ot:(iz (aq (cZ i c)) x.2.2 fX false).2
    ·rw[ot] at ai ao
     cases j with
     |zero =>
      simp only[K7,cO] at ao;subst ao;rw[l7];exact (dC ot).congr λk L=>by rw[ag a2.1]
     |succ j =>
      have:=R8 ai j y (by simpa using ao);rwa [show i+(j+1)=i+1+j by omega]
    ·rw[ot,R7] at ai
     cases ai
theorem axU {N:Nat}{l:List bG}{q:Nat->Rat}{b:Rat}(h:mr N l q)(ai:dX b)(aj:b≠0):
  ((hx (aq b) l).2=false↔∀k,k<=N->w2 (q k) b=true)/\((hx (aq b) l).2=false->mr N (hx (aq b) l).1 (λk=>q k/b)):=by
 have ay:(hx (aq b) l).2=false↔∀k,k<=N->w2 (q k) b=true:=by
  unfold hx;rw[h.1];simp only[BP,gE,jC]
  constructor
  ·intro aX k L;have:=aX (aq (q k)) ⟨q k,⟨k,by omega,rfl⟩,rfl⟩
   rw[Mp (h.2 k L) ai aj] at this;rcases ab:w2 (q k) b
   ·rw[ab] at this;exact absurd rfl this
   ·rfl
  ·rintro aX _ ⟨_,⟨k,L,rfl⟩,rfl⟩;rw[Mp (h.2 k (by omega)) ai aj,aX k (by omega)];simp[Mn]
 refine⟨ay,λaX=>?_⟩;have cR:=ay.1 aX;refine mr.aaV (by unfold hx;rw[ah,h.len]) λk L=>⟨?_,atV (cR k L)⟩;unfold hx;rw[aW,h.get L,l9,Mp (h.2 k L) ai aj,cR k L]
 rfl
theorem yI.row {N:Nat}{rows:List dE}{aU:ff}(h:yI N rows aU){i:Nat}(U:i<N):∃x,rows[i]?=some x/\rowAt rows i=x/\mr N x.2.2 (aU i):=by
 obtain⟨x,M⟩:∃x,rows[i]?=some x:=⟨_,bB (by have:=h.1;omega)⟩;exact⟨x,M,uw M,h.2 i x M⟩
theorem yI.swap {N:Nat}{rows:List dE}{aU:ff}(h:yI N rows aU){r s:Nat}(X:r<N)(Q:s<N):yI N (nA rows r s) (h5 aU r s):=by
 obtain⟨x,M,ex,nF⟩:=h.row X;obtain⟨y,ao,zh,axV⟩:=h.row Q;unfold nA;rw[ex,zh];refine⟨by rw[kd,kd];exact h.1,λi z a2=>?_⟩
 rw[mo,mo,kd] at a2;unfold h5
 by_cases G:s=i
 ·rw[ad G,ad (by have:=h.1;omega)] at a2
  cases a2;rw[ad G.symm];exact nF
 ·rw[ag G] at a2;rw[ag (Ne.symm G)]
  by_cases J:r=i
  ·rw[ad J,ad (by have:=h.1;omega)] at a2
   cases a2;rw[ad J.symm];exact axV
  ·rw[ag J] at a2;rw[ag (Ne.symm J)];exact h.2 i z a2
def ajS (N:Nat)(S:ff)(r c:Nat):Prop:=(∀k,k<=N->w2 (S r k) (S r c)=true)/\∀i,i<N->i≠r->S i c≠0->∀k,k<=N->th (S i c) (S i k) (S r k/S r c)=true
theorem ajT {N:Nat}{rows:List dE}{aU:ff}(h:yI N rows aU){r c:Nat}(X:r<N)(H:c<N):
  ((iA rows r c).1=true/\(iA rows r c).2.1=rows/\(iA rows r c).2.2=false/\∀i,r<=i->i<N->aU i c=0) \/
  ((iA rows r c).1=false/\∃s,r<=s/\s<N/\aU s c≠0/\((iA rows r c).2.2=false->yI N (iA rows r c).2.1 (p8 aU r c s))/\(ajS N (h5 aU r s) r c->(iA rows r c).2.2=false)):=by
 have az:=h.1;have jg:=aiA rows r c (by omega)
 have jF:∀i x,r<=i->i<findAt rows r c->rows[i]?=some x->g7 (cellOf x c)=true:=by
  intro i x ob sL M;unfold findAt at sL;have av:i-r<(rows.drop r).findIdx λx => !g7 (cellOf x c):=by omega
  have:=List.not_of_lt_findIdx av
  have bq:(rows.drop r)[i-r]'(Nat.lt_of_lt_of_le av List.findIdx_le_length)=x:=by
   rw[Dt];have:=(eg.1 M)
   obtain⟨G,J⟩:=this;simp only[show r+(i-r)=i by omega]
   exact J
  rw[bq] at this
  simpa using this
 unfold iA
 by_cases aD:findAt rows r c=D rows
 ·left
  rw[ad aD];refine⟨rfl,rfl,rfl,λi ob sL=>?_⟩;obtain⟨x,M,-,nF⟩:=h.row sL;have:=jF i x ob (by omega) M;rw[nF.cell (by omega),R6] at this
  simpa using this
 ·right
  rw[ag aD];refine⟨rfl,findAt rows r c,jg.1,by omega,?_,?_⟩
  ·obtain⟨x,M,-,nF⟩:=h.row (i:=findAt rows r c) (by omega);have av:findAt rows r c-r<(rows.drop r).length:=by rw[oi];omega
   have J:(rows.drop r).findIdx (λx => !g7 (cellOf x c))<(rows.drop r).length:=by
    unfold findAt at av;omega
   have af:=ajU (w:=J)
   have bq:(rows.drop r)[(rows.drop r).findIdx λx => !g7 (cellOf x c)]=x:=by
    rw[Dt];exact (eg.1 M).2
   rw[bq,nF.cell (by omega),R6] at af
   simpa using af
  ·have Q:findAt rows r c<N:=by omega
   have rv:=h.swap X Q
   have b5:h5 aU r (findAt rows r c) r c≠0:=by
    rw[RS];obtain⟨x,M,-,nF⟩:=h.row Q
    have J:(rows.drop r).findIdx (λx => !g7 (cellOf x c))<(rows.drop r).length:=by
     rw[oi];unfold findAt at Q;omega
    have af:=ajU (w:=J)
    have bq:(rows.drop r)[(rows.drop r).findIdx λx => !g7 (cellOf x c)]=x:=by
     rw[Dt];exact (eg.1 M).2
    rw[bq,nF.cell (by omega),R6] at af
    simpa using af
   have Rr:p8 aU r c (findAt rows r c)=λi k=>if i=r then h5 aU r (findAt rows r c) r k/h5 aU r (findAt rows r c) r c else h5 aU r (findAt rows r c) i k-h5 aU r (findAt rows r c) i c*(h5 aU r (findAt rows r c) r k/h5 aU r (findAt rows r c) r c):=rfl;rw[Rr];generalize nA rows r (findAt rows r c)=gA at *;generalize h5 aU r (findAt rows r c)=S at *;obtain⟨x,M,ex,nF⟩:=rv.row X;rw[ex,nF.cell (by omega)];obtain⟨d1,d2⟩:=axU nF (nF.2 c (by omega)) b5
   have o7:BK gA r c=gA.set r (x.1,x.2.1,(hx (aq (S r c)) x.2.2).1):=by
    unfold BK;rw[ex,nF.cell (by omega)]
   rw[o7]
   have aaX:mr N (hx (aq (S r c)) x.2.2).1 (λk=>S r k/S r c)->∀(j:Nat) y,(gA.set r (x.1,x.2.1,(hx (aq (S r c)) x.2.2).1))[j]?=some y->mr N y.2.2 ((λi=>if i=r then λk=>S r k/S r c else S i) (0+j)):=by
    intro ab j y ao;rw[rT];rw[mo] at ao
    by_cases ax:r=j
    ·rw[ad ax,ad (by have:=rv.1;omega)] at ao
     cases ao;dsimp only;rw[ad ax.symm];exact ab
    ·rw[ag ax] at ao;dsimp only;rw[ag (Ne.symm ax)];exact rv.2 j y ao
   dsimp only;rcases ua:(hx (aq (S r c)) x.2.2).2
   ·have ab:=d2 ua;obtain⟨eS,eO⟩:=ajP (r:=r) (c:=c) ab (by omega) 0 (gA.set r (x.1,x.2.1,(hx (aq (S r c)) x.2.2).1)) (λi=>if i=r then λk=>S r k/S r c else S i) (aaX ab)
    constructor
    ·intro ai;refine⟨?_,λi z a2=>?_⟩
     ·have:=congrArg D (RA (hx (aq (S r c)) x.2.2).1 r c 0 (gA.set r (x.1,x.2.1,(hx (aq (S r c)) x.2.2).1)) false);rw[ah,ah,kd] at this;rw[this];exact rv.1
     ·have:=eO ai i z a2;rw[rT] at this;refine this.congr λk L=>?_
      by_cases po:i=r
      ·simp only[ad po]
      ·simp only[ag po]
    ·intro cR;refine eS λj ax Nz b5 k L=>?_;rw[rT] at *;simp only[ag Nz] at b5 ⊢;rw[kd,rv.1] at ax;exact cR.2 j ax Nz b5 k L
   ·constructor
    ·intro ai;rw[R7] at ai
     cases ai
    ·intro cR;rw[d1.2 cR.1] at ua
     cases ua
structure Jq (N:Nat) (aU xd:ff) (rows:List dE) (p c:Nat) (ew:Nat->Nat):Prop where
 enc:yI N rows xd
 red:sr N xd p c ew
 Jr:∀y,iS N xd y↔iS N aU y
theorem axW (stop:Bool)(N:Nat)(ajV:ff):∀k c rows free aU p ew,c+k=N->Jq N ajV aU rows p c ew->p+D free=c->(stop=true->free=[]/\∀j,j<p->ew j=j) ->
  ∀yK ti,lk stop k c rows free false=(yK,ti,false) ->
  ∃xd q2 c' Gi,Jq N ajV xd yK q2 c' Gi/\(stop=false->c'=N/\q2+D ti=N) /\
   (stop=true->(ti=[]/\c'=N/\q2=N/\∀j,j<N->Gi j=j)\/(∃f,ti=[f]/\f<N/\q2=f/\c'=f/\(∀j,j<f->Gi j=j)/\∀i,f<=i->i<N->xd i f=0)):=by
 intro k
 induction k with
 |zero =>
  intro c rows free aU p ew H he aC Q yK ti M;simp only[lk,fJ,and_true] at M;obtain⟨rfl,rfl⟩:=M;refine⟨aU,p,c,ew,he,λ_=>⟨by omega,by omega⟩,λh=>?_⟩
  obtain⟨G,J⟩:=Q h;subst G;simp only[og,l7] at aC;exact .inl ⟨rfl,by omega,by omega,λj ax=>J j (by omega)⟩
 |succ k aH =>
  intro c rows free aU p ew H he aC Q yK ti M;have yc:c-D free=p:=by omega
  unfold lk at M;rw[yc] at M;rcases ajT he.enc (r:=p) (c:=c) (by omega) (by omega) with ⟨G,J,af,aP⟩|⟨G,s,hR,lM,yL,aP,bh⟩
  ·rw[G,J,af,ad rfl] at M
   cases stop with
   |true =>
    rw[ad rfl] at M;simp only[fJ,and_true] at M;obtain⟨rfl,rfl⟩:=M;obtain⟨dh,dC⟩:=Q rfl;subst dh;simp only[og,l7] at aC;subst aC;exact⟨aU,p,p,ew,he,by simp,λ_ => .inr ⟨p,rfl,by omega,rfl,rfl,dC,aP⟩⟩
   |false =>
    rw[ag (by simp)] at M;exact aH (c+1) rows (free++[c]) aU p ew (by omega) ⟨he.enc,he.red.free aP,he.Jr⟩ (by simp;omega) (by simp) yK ti M
  ·rw[G,ag (by simp)] at M;rcases ai:(iA rows p c).2.2
   ·rw[ai] at M;have xe:=aP ai;refine aH (c+1) _ free (p8 aU p c s) (p+1) (λj=>if j=p then c else ew j) (by omega) ⟨xe,he.red.FX (by omega) hR lM yL,λy=>(aar (by omega) lM yL).trans (he.Jr y)⟩ (by omega) (λh=>?_) yK ti M;obtain⟨dh,dC⟩:=Q h;refine⟨dh,λj ax=>?_⟩;subst dh;simp only[og,l7] at aC;show (if j=p then c else ew j)=j
    split
    ·omega
    ·exact dC j (by omega)
   ·rw[ai,Rz] at M
    cases M
def sv (rs:List b9):ff:=λi k=>if k<(D rs) then Da ((rs.getD i ([],c1)).1.getD k c1) else Da (rs.getD i ([],c1)).2
theorem ajW {f:bG}(h:dJ f=true):f=aq (Da f)/\dX (Da f):=by
 obtain⟨x,M,rfl⟩:=(Bt _).1 h;rw[Ft];exact⟨rfl,M⟩
theorem axX {rs:List b9}{n:Int}(h:iM rs n=true):(D rs:Int)=n/\D rs<=40/\∀r∈rs,r.1.length=D rs/\dJ r.2=true/\∀f∈r.1,dJ f=true:=by
 unfold iM at h;simp only[gb,vy,decide_eq_false_iff_not,beq_iff_eq] at h;obtain⟨G,J,af,aP⟩:=h;refine⟨af,by omega,λr X=>?_⟩
 rw[BP] at aP;have:=aP r X;unfold lg zW at this;simp only[vy,Bool.not_eq_true,Bool.not_eq_false',gb,beq_iff_eq,BP,Bool.not_eq_false] at this;obtain⟨ev,gg,tj⟩:=this;exact⟨by omega,gg,λf aD=>by simpa using tj f aD⟩
theorem ajX {rs:List b9}{i:Nat}{r:b9}(h:rs[i]?=some r):rs.getD i ([],c1)=r:=by
 rw[ez,h];rfl
theorem ajY {rs:List b9}{n:Int}(h:iM rs n=true):yI (D rs) (hJ rs) (sv rs):=by
 obtain⟨aM,aKo,aaX⟩:=axX h;refine⟨FW rs,λi x M=>?_⟩
 have U:i<D rs:=by
  have:=(eg.1 M).1;rwa [FW] at this
 obtain⟨r,X⟩:∃r,rs[i]?=some r:=⟨_,bB U⟩;rw[ait X] at M
 cases M;obtain⟨ay,aA,bQ⟩:=aaX r (dS X);refine mr.aaV (by simp[ay]) λk L=>?_;unfold sv;rw[ajX X]
 by_cases jJ:k<D rs
 ·rw[ad jJ];obtain⟨f,aD⟩:∃f,r.1[k]?=some f:=⟨_,bB (by omega)⟩;obtain⟨ev,gg⟩:=ajW (bQ f (dS aD));rw[oZ (by omega),aD,ez,aD];exact⟨congrArg some ev,gg⟩
 ·rw[ag jJ];obtain⟨ev,gg⟩:=ajW aA;rw[nK (by omega),ay,show k-D rs=0 by omega]
  exact⟨congrArg some ev,gg⟩
theorem axY (stop:Bool){rs:List b9}{n:Int}(h:iM rs n=true){yK:List dE}{ti:List Nat}(M:pq stop rs=(yK,ti,false)):
  ∃xd q2 c' Gi,Jq (D rs) (sv rs) xd yK q2 c' Gi/\(stop=false->c'=D rs/\q2+D ti=D rs) /\
   (stop=true->(ti=[]/\c'=D rs/\q2=D rs/\∀j,j<(D rs)->Gi j=j)\/(∃f,ti=[f]/\f<D rs/\q2=f/\c'=f/\(∀j,j<f->Gi j=j)/\∀i,f<=i->i<(D rs)->xd i f=0)) :=
 axW stop (D rs) (sv rs) (D rs) 0 (hJ rs) [] (sv rs) 0 (λj=>j) (by omega) ⟨ajY h,RT _ _ _,λ_=>Iff.rfl⟩ rfl (λ_=>⟨rfl,λj ax=>by omega⟩) yK ti M
def NA (N:Nat)(q:Nat->Rat)(b:Nat):Prop:=∃(v:Nat->Int) (d:Int),d≠0/\d.natAbs<=2^b/\∀k,k<=N->q k*(d:Rat)=(v k:Rat)/\(v k).natAbs<=2^b
theorem NA.mono {N a b:Nat}{q:Nat->Rat}(h:NA N q a)(BD:a<=b):NA N q b:=by
 obtain⟨v,d,G,J,af⟩:=h;have aC:2^a<=2^b:=ov (by omega) BD;exact⟨v,d,G,eP J aC,λk L=>⟨(af k L).1,eP (af k L).2 aC⟩⟩
theorem axZ {q:Rat}{v d:Int}(ab:d≠0)(h:q*(d:Rat)=(v:Rat)):q.num*d=v*q.den:=by
 have qX:(d:Rat)≠0:=by rw[Ne,ajZ];exact ab
 have e:q=mH v d:=by rw[R9];grind
 have aA:mH q.num q.den=mH v d:=by rw[Rat.num_divInt_den];exact e
 exact (Rat.divInt_eq_divInt_iff (zR q) ab).1 aA
theorem BX {q:Rat}{v d:Int}(ab:d≠0)(h:q*(d:Rat)=(v:Rat)):q.num.natAbs<=v.natAbs/\q.den<=d.natAbs:=by
 have H:=axZ ab h
 have ly:q.num.natAbs*d.natAbs=v.natAbs*q.den:=by
  have:=congrArg Int.natAbs H;rwa [ug,ug,lL] at this
 have Cx:q.den∣d.natAbs:=(Nat.Coprime.symm q.reduced).dvd_of_dvd_mul_left ⟨v.natAbs,by rw[ly,tU]⟩
 have Xv:0<d.natAbs:=by omega
 have J:=Nat.le_of_dvd Xv Cx;refine⟨?_,J⟩;obtain⟨m,hm⟩:=Cx;rw[hm] at ly;have Xx:=q.den_pos
 have af:q.num.natAbs*m=v.natAbs:=by
  have:q.den*(q.num.natAbs*m)=q.den*v.natAbs:=by rw[tU q.den v.natAbs,<-ly];rw[aaU]
  exact Nat.eq_of_mul_eq_mul_left Xx this
 have qY:0<m:=by
  rcases k3 m with aj|aj
  ·rw[aj,Nat.mul_zero] at hm;omega
  ·exact aj
 rw[<-af];exact Nat.le_mul_of_pos_right _ qY
def eJ (b:Nat)(q:Rat):Prop:=q.num.natAbs<=2^b/\q.den<=2^b
theorem NA.sz {N b:Nat}{q:Nat->Rat}(h:NA N q b){k:Nat}(L:k<=N):eJ b (q k):=by
 obtain⟨v,d,G,J,af⟩:=h;obtain⟨ay,aA⟩:=af k L;obtain⟨f1,f2⟩:=BX G ay;exact⟨eP f1 aA,eP f2 J⟩
theorem ax0 (a b c:Nat)(h:a=2^b):a^c=2^(b*c):=by rw[h,<-Nat.pow_mul]
theorem aj0:∃B:Nat,B=1200/\dP=2^B:=⟨20*60,rfl,ax0 1048576 20 60 (by decide)⟩
theorem DL {z:Int}{b:Nat}(h:z.natAbs<=2^b)(ai:b<1200):hS z=true:=by
 obtain⟨B,jK,fo⟩:=aj0;unfold hS;rw[fo,decide_eq_true_eq];exact vg h (aj1 (by omega) (by omega))
theorem xf {x y:Int}{a b:Nat}(M:x.natAbs<=2^a)(ao:y.natAbs<=2^b):(x*y).natAbs<=2^(a+b):=by
 rw[ug,tk];exact xc M ao
theorem aj2 {x y:Int}{a:Nat}(M:x.natAbs<=2^a)(ao:y.natAbs<=2^a):(x+y).natAbs<=2^(a+1):=by
 have:=Int.natAbs_add_le x y;rw[wF];omega
theorem eJ.mono {a b:Nat}{q:Rat}(h:eJ a q)(BD:a<=b):eJ b q:=by
 have aC:2^a<=2^b:=ov (by omega) BD;exact⟨eP h.1 aC,eP h.2 aC⟩
theorem NB {x y:Rat}{a b:Nat}(M:eJ a x)(ao:eJ b y)(h:a+b<1200):zQ x y=true:=by
 unfold zQ;rw[gb];exact⟨DL (xf M.1 ao.1) h,DL (xf (x:=(x.den:Int)) (y:=(y.den:Int)) (by simpa using M.2) (by simpa using ao.2)) h⟩
theorem aaY {x y:Rat}{a b:Nat}(M:eJ a x)(ao:eJ b y)(h:a+b<1200):w2 x y=true:=by
 unfold w2;rw[gb];exact⟨DL (xf (y:=(y.den:Int)) M.1 (by simpa using ao.2)) h,DL (xf (x:=(x.den:Int)) (by simpa using M.2) ao.1) h⟩
theorem xg {x y:Rat}{a b:Nat}(M:eJ a x)(ao:eJ b y)(h:a+b+1<1200):qD x y=true:=by
 unfold qD;have G:=xf (y:=(y.den:Int)) M.1 (by simpa using ao.2);have J:=xf (y:=(x.den:Int)) ao.1 (by simpa using M.2);rw[AA b a] at J;simp only[gb];exact⟨DL G (by omega),DL J (by omega),DL (aj2 G J) h,DL (xf (x:=(x.den:Int)) (y:=(y.den:Int)) (by simpa using M.2) (by simpa using ao.2)) (by omega)⟩
theorem uH {b:Nat}{q:Rat}(h:eJ b q):eJ b (-q):=⟨by rw[aj3,Int.natAbs_neg];exact h.1,h.2⟩
theorem aj4 {p q:Int}{b:Nat}(G:p.natAbs<=2^b)(J:q.natAbs<=2^b)(bF:q≠0):eJ b (mH p q):=by
 have aKp:(q:Rat)≠0:=by rw[Ne,ajZ];exact bF
 have:=BX (q:=mH p q) (v:=p) bF (by rw[R9];grind);exact⟨eP this.1 G,eP this.2 J⟩
theorem DM {x y:Rat}{a b:Nat}(M:eJ a x)(ao:eJ b y):eJ (a+b) (x*y):=by
 rw[<-X4];exact aj4 (xf M.1 ao.1) (xf (x:=(x.den:Int)) (y:=(y.den:Int)) (by simpa using M.2) (by simpa using ao.2)) (Bx (zR x) (zR y))
theorem NC {x y:Rat}{a b:Nat}(M:eJ a x)(ao:eJ b y):eJ (a+b+1) (x+y):=by
 rw[<-X3];have G:=xf (y:=(y.den:Int)) M.1 (by simpa using ao.2);have J:=xf (y:=(x.den:Int)) ao.1 (by simpa using M.2);rw[AA b a] at J;have af:=xf (x:=(x.den:Int)) (y:=(y.den:Int)) (a:=a) (b:=b) (by simpa using M.2) (by simpa using ao.2);exact aj4 (aj2 G J) (eP af (ov (by omega) (by omega))) (Bx (zR x) (zR y))
def rC (A:ff)(σ:Nat->Nat)(k:Nat):fO:=λi=>A (σ i) k
def mu:Nat->List Nat
 |0=>[]
 |p+1=>p::mu p
theorem z8 {k:Nat}:∀{p:Nat},k∈mu p↔k<p
 |0=>by simp[mu]
 |p+1=>by
  simp only[mu,m1,z8 (p:=p)];omega
theorem ND:∀p,(mu p).length=p
 |0=>rfl
 |p+1=>by simp[mu,ND p]
theorem aj5 {l:Nat}:∀{p:Nat},l<p->∃cr hQ,mu p=cr++l::hQ/\∀m,m∈cr++hQ↔m<p/\m≠l
 |0,h=>by omega
 |p+1,h=>by
  by_cases az:l=p
  ·subst az;refine⟨[],mu l,rfl,λm=>?_⟩;rw[ir,z8];omega
  ·obtain⟨cr,hQ,G,J⟩:=aj5 (l:=l) (p:=p) (by omega);refine⟨p::cr,hQ,by simp[mu,G],λm=>?_⟩
   rw[m0,m1,J];omega
def rD (A:ff)(σ:Nat->Nat)(p:Nat):List fO:=(mu p).map (rC A σ)
theorem Sa {n:Nat}{c c':fO}(cr hQ:List fO)(h:∀i,i<n->c i=c' i):gV n (cr++c::hQ)=gV n (cr++c'::hQ):=by
 have:=ajJ (n:=n) (cr.map (λx=>(x,x))++(c,c')::hQ.map (λx=>(x,x))) Prod.fst Prod.snd (λa a4 i U=>by
  simp only[jy,m1,gE] at a4;rcases a4 with ⟨x,_,rfl⟩|rfl|⟨x,_,rfl⟩
  ·rfl
  ·exact h i U
  ·rfl)
 simpa [Function.comp_def] using this
theorem aj6 {A:ff}{σ τ:Nat->Nat}{p:Nat}(h:∀i,i<p->σ i=τ i):gV p (rD A σ p)=gV p (rD A τ p) :=
 ajJ _ _ _ λa _ i U=>by unfold rC;rw[h i U]
def Js (N:Nat)(A aU:ff)(σ:Nat->Nat)(p:Nat):Prop:=∀i,i<N->∀k,p<=k->k<=N->A (σ i) k=(if i<p then 0 else aU i k)+cN p λl=>A (σ i) l*aU l k
def nf (N:Nat)(A aU:ff)(p:Nat):Prop:=∃σ:Nat->Nat,(∀i,i<N->σ i<N)/\Js N A aU σ p/\gV p (rD A σ p)≠0
theorem nf.start (N:Nat)(A:ff):nf N A A 0:=by
 refine⟨λi=>i,λi h=>h,λi U k _ L=>?_,?_⟩
 ·rw[ag (by omega)];show A i k=A i k+0;grind
 ·show (1:Rat)≠0;decide
theorem ax1 {p:Nat}(a x y:Nat->Rat)(t:Rat):cN p (λl=>a l*(x l-y l*t))=cN p (λl=>a l*x l)-t*cN p λl=>a l*y l:=by
 have:(λl=>a l*(x l-y l*t))=λl=>a l*x l+(-t)*(a l*y l):=by funext l;grind
 rw[this,Ga,Jf];grind
theorem nf.step {N p s:Nat}{A aU:ff}(h:nf N A aU p)(aC:p<N)(Q:p<=s)(xa:s<N)(b5:aU s p≠0):nf N A (p8 aU p p s) (p+1):=by
 obtain⟨σ,hσ,X,ab⟩:=h
 let π:Nat->Nat:=λi=>if i=s then p else if i=p then s else i
 have hπ:∀i,h5 aU p s i=aU (π i):=by
  intro i;show (if i=s then aU p else if i=p then aU s else aU i)=aU (if i=s then p else if i=p then s else i)
  split
  ·rfl
  ·split<;>rfl
 have hπN:∀i,i<N->π i<N:=λi U=>by show (if i=s then p else if i=p then s else i)<N;split<;>(try split)<;>omega
 have hπp:∀i,i<p->π i=i:=λi U=>by show (if i=s then p else if i=p then s else i)=i;rw[ag (by omega),ag (by omega)]
 have hπq:∀i,p<=i->p<=π i:=λi U=>by show p<=(if i=s then p else if i=p then s else i);split<;>(try split)<;>omega
 have dn:Js N A (h5 aU p s) (λi=>σ (π i)) p:=by
  intro i U k tl jJ;have:=X (π i) (hπN i U) k tl jJ;rw[this]
  congr 1
  ·by_cases qO:i<p
   ·rw[ad qO,ad (by rw[hπp i qO];exact qO)]
   ·rw[ag qO,ag (by have:=hπq i (by omega);omega),hπ]
  ·refine oG λl az=>?_;rw[hπ l,hπp l az]
 have ax2:h5 aU p s p p≠0:=by rw[RS];exact b5
 generalize aj7:h5 aU p s=S at *
 have bF:p8 aU p p s=λi k=>if i=p then S p k/S p p else S i k-S i p*(S p k/S p p):=by
  funext i k;unfold p8;rw[aj7]
 rw[bF]
 have qX:gV p (rD A (λi=>σ (π i)) p)≠0:=by
  rw[aj6 (τ:=σ) λi U=>by show σ (π i)=σ i;rw[hπp i U]]
  exact ab
 generalize hτ:(λi=>σ (π i))=τ at *;refine⟨τ,λi U=>by rw[<-hτ];exact hσ _ (hπN i U),λi U k tl jJ=>?_,?_⟩
 ·have ay:=dn i U k (by omega) jJ;have aA:=dn i U p (by omega) (by omega);simp only[cN,if_true];rw[oG (g:=λl=>A (τ i) l*(S l k-S l p*(S p k/S p p))) λl az=>by rw[ag (by omega)],ax1]
  generalize cN p (λl=>A (τ i) l*S l k)=cr at *;generalize cN p (λl=>A (τ i) l*S l p)=hQ at *
  by_cases G:i<p
  ·rw[ad G] at ay aA;rw[ad (by omega)];grind
  ·rw[ag G] at ay aA
   by_cases J:i=p
   ·subst J;rw[ad (by omega)];grind
   ·rw[ag (by omega),ag J];grind
 ·have H:gV (p+1) (rD A τ (p+1))=S p p*gV p (rD A τ p):=by
   show gV (p+1) ([]++rC A τ p::rD A τ p)=_
   rw[Sa (c':=DK (λi=>if i<p then 0 else S i p) (λi=>cN p λl=>S l p*rC A τ l i) 1) [] _ λi U=>by
    have:=dn i (by omega) p (by omega) (by omega);show A (τ i) p=(if i<p then 0 else S i p)+1*cN p λl=>S l p*A (τ i) l;rw[this,Nv]
    congr 1
    exact oG λl _=>xh _ _]
   rw[Gh,Ny,BU λl az=>by
    rw[aaQ (by rw[ir];exact BZ (z8.2 az))];exact xb _]
   rw[ir,ajI λi U=>ad U,ag (by omega)];grind
  rw[H];intro aj;rcases Sb.1 aj with aj|aj
  ·exact ax2 aj
  ·exact qX aj
theorem aj8 {N p l k:Nat}{A aU:ff}{σ:Nat->Nat}(X:Js N A aU σ p)(aC:p<=N)(az:l<p)(tl:p<=k)(jJ:k<=N):∃cz:List Nat,D cz=p/\(∀m∈cz,m<p\/m=k)/\cz.count k<=1/\aU l k*gV p (rD A σ p)=gV p (cz.map (rC A σ)):=by
 obtain⟨cr,hQ,jN,hm⟩:=aj5 az;have hlen:=ND p;rw[jN] at hlen;refine⟨cr++k::hQ,by simp at hlen ⊢;omega,λm Ep=>?_,?_,?_⟩
 ·have:m=k\/m∈cr++hQ:=by
   simp only[jy,m1] at Ep ⊢;rcases Ep with h|h|h<;>simp[h]
  rcases this with h|h
  ·exact .inr h
  ·exact .inl ((hm m).1 h).1
 ·have aj:∀nW:List Nat,(∀m∈nW,m∈cr++hQ)->nW.count k=0:=λnW NF=>aj9.2 λa2=>by have:=((hm k).1 (NF k a2)).1;omega
  rw[List.count_append,aaZ,aj cr (by simp +contextual),aj hQ (by simp +contextual)];omega
 ·rw[kg,eI]
  rw[Sa (c':=λi=>cN p λm=>aU m k*rC A σ m i) _ _ λi U=>by
   have:=X i (by omega) k tl jJ;rw[ad U] at this;show A (σ i) k=cN p λm=>aU m k*A (σ i) m;rw[this,DN];exact oG λl _=>xh _ _]
  rw[Ny,BV az λm ax3 pH=>by
   rw[aaQ (by rw[<-kg];exact BZ ((hm m).2 ⟨ax3,pH⟩))];exact xb _]
  unfold rD;rw[jN,kg,eI]
theorem ax4 {N p i k:Nat}{A aU:ff}{σ:Nat->Nat}(X:Js N A aU σ p)(ob:p<=i)(sL:i<N)(tl:p<=k)(jJ:k<=N):aU i k*gV p (rD A σ p)=gV (p+1) ((k::mu p).map (rC A λj=>if j=p then σ i else σ j)):=by
 have hτ:∀j,j<p->(λj=>if j=p then σ i else σ j) j=σ j:=λj ax=>ag (by omega);have hτp:(λj=>if j=p then σ i else σ j) p=σ i:=ad rfl;generalize (λj=>if j=p then σ i else σ j)=τ at *;show _=gV (p+1) ([]++rC A τ k::rD A τ p)
 rw[Sa (c':=DK (λj=>if j<p then 0 else aU i k) (λj=>cN p λl=>aU l k*rC A τ l j) 1) [] _ λj ax=>by
  show A (τ j) k=(if j<p then 0 else aU i k)+1*cN p λl=>aU l k*A (τ j) l;rw[Nv]
  by_cases Jg:j<p
  ·have:=X j (by omega) k tl jJ;rw[ad Jg] at this ⊢;rw[hτ j Jg,this]
   congr 1
   exact oG λl _=>xh _ _
  ·obtain rfl:j=p:=by omega
   have:=X i sL k tl jJ;rw[ag (by omega)] at this;rw[ag Jg,hτp,this]
   congr 1
   exact oG λl _=>xh _ _]
 rw[Gh,Ny,BU λl az=>by
  rw[aaQ (by rw[ir];exact BZ (z8.2 az))];exact xb _]
 rw[ir,ajI λi U=>ad U,ag (by omega),aj6 λj ax=>(hτ j ax).symm];grind
theorem ax5 (n:Nat)(cr hQ:List fO)(x:fO)(a:Rat):gV n (cr++(λi=>a*x i)::hQ)=a*gV n (cr++x::hQ):=by
 have:=Ny n cr hQ (λ_=>a) (λ_=>x) 1;simp only[cN] at this;rw[DN] at this;rw[<-this];exact Sa cr hQ λi _=>(DN _).symm
theorem aa0 (n:Nat)(cZ:Nat->Rat)(C:Nat->fO):∀(cz:List Nat) (cr:List fO),∃a:Rat,((∀k∈cz,cZ k≠0)->a≠0)/\gV n (cr++cz.map λk=>λi=>cZ k*C k i)=a*gV n (cr++cz.map C)
 | [],cr=>⟨1,λ_=>by decide,by rw[Nv];rfl⟩
 |k::cz,cr=>by
  obtain⟨a,G,J⟩:=aa0 n cZ C cz (cr++[C k]);refine⟨cZ k*a,λh=>?_,?_⟩
  ·intro aj;rcases Sb.1 aj with aj|aj
   ·exact h k g0 aj
   ·exact G (λm hm=>h m (h3 _ hm)) aj
  ·simp only[eI,hd,m0,ir] at J ⊢;rw[ax5,J,Rat.mul_assoc]
structure sw (N:Nat) (A:ff) (b v:Nat):Prop where
 ex:∃cZ:Nat->Nat,(∀k,k<=N->0<cZ k/\cZ k<=2^(if k<N then b else v)/\∀i,i<N->fx (2^(if k<N then b else v)) (cZ k*A i k))
theorem aka {α:Type}(f:α->fO)(x:α->Nat):∀cz:List α,rB (cz.map λk=>(f k,2^x k))=2^(cz.map x).sum
 | []=>rfl
 |k::cz=>by simp only[eI,rB,aka f x cz,akb,tk]
theorem akc (x:Nat->Nat)(k b:Nat):∀cz:List Nat,(∀m∈cz,m≠k->x m<=b)->(cz.map x).sum<=D cz*b+cz.count k*x k
 | [],_=>by simp
 |m::cz,h=>by
  have aH:=akc x k b cz λn aM=>h n (h3 _ aM);simp only[eI,akb,kB,qq]
  by_cases hm:m=k
  ·subst hm;rw[aaZ,qq];omega
  ·rw[List.count_cons_of_ne hm];have:=h m g0 hm;omega
theorem NG {N n c b v:Nat}{A:ff}(e8:N^N<=2^c)(aM:n<=N)(dL:∀k,k<=N->∀i,i<N->fx (2^(if k<N then b else v)) (A i k)){σ:Nat->Nat}(hσ:∀i,i<n->σ i<N)(cz:List Nat)(fo:(D cz)<=N)(k:Nat)(L:k<=N)(hm:∀m∈cz,m≠k->m<N)(H:cz.count k<=1)(e:Nat)(he:c+N*b+(if k<N then b else v)<=e):
  fx (2^e) (gV n (cz.map (rC A σ))):=by
 let x:Nat->Nat:=λk=>if k<N then b else v
 have G:=ajL N n (cz.map λk=>(rC A σ k,2^x k)) (λp aC i U=>by
  obtain⟨m,Ep,rfl⟩:=gE.1 aC
  have ax6:m<=N:=by
   by_cases o1:m=k
   ·omega
   ·have:=hm m Ep o1;omega
  exact dL m ax6 (σ i) (hσ i U)) (by rw[ah];exact fo)
 rw[pQ,aka] at G;have aD:((λp:fO×Nat=>p.1) ∘ λk=>(rC A σ k,2^x k))=rC A σ:=rfl;rw[aD] at G;refine G.mono ?_
 have J:=akc x k b cz λm Ep o1=>by
  show (if m<N then b else v)<=b;rw[ad (hm m Ep o1)];exact cI _
 have af:N^n<=2^c:=by
  rcases k3 N with aj|aj
  ·subst aj;obtain rfl:n=0:=by omega
   exact e8
  ·exact eP (ov aj aM) e8
 have aP:(D cz)*b<=N*b:=o0 _ fo
 have bh:cz.count k*x k<=x k:=by
  have:cz.count k=0\/cz.count k=1:=by omega
  rcases this with h|h<;>rw[h]<;>omega
 have bK:x k=if k<N then b else v:=rfl;rw[<-bK] at he
 calc N^n*2^(cz.map x).sum<=2^c*2^(N*b+x k):=xc af (ov (by omega) (by omega))
  _=2^(c+(N*b+x k)):=by rw[<-tk]
  _<=2^e:=ov (by omega) (by omega)
theorem nf.sz {N p c b v:Nat}{A aU:ff}(e8:N^N<=2^c)(dL:sw N A b v)(h:nf N A aU p)(aC:p<=N){i k:Nat}(U:i<N)(tl:p<=k)(jJ:k<=N):eJ (c+(N+1)*b+(if k<N then b else v)) (aU i k):=by
 obtain⟨σ,hσ,X,ab⟩:=h;obtain⟨cZ,fC⟩:=dL
 have Gj:∀m,m<=N->((cZ m:Nat):Rat)≠0:=λm hm=>by
  have:=(fC m hm).1;rw[Ne,akd];omega
 -- the scaled matrix
 have aZ:Js N (λi k=>cZ k*A i k) (λl k=>if l<p then cZ k*aU l k/cZ l else cZ k*aU l k) σ p:=by
  intro i U k tl jJ;have:=X i U k tl jJ;show (cZ k:Rat)*A (σ i) k=_;rw[this,ake,<-Jf]
  congr 1
  ·split<;>grind
  ·refine oG λl az=>?_;dsimp only;rw[ad az];have:=Gj l (by omega);grind
 have mG:gV p (rD (λi k=>cZ k*A i k) σ p)≠0:=by
  obtain⟨a,G,J⟩:=aa0 p (λk=>(cZ k:Rat)) (rC A σ) (mu p) [];have Gk:rD (λi k=>cZ k*A i k) σ p=(mu p).map λk=>λi=>(cZ k:Rat)*rC A σ k i:=rfl;rw[ir,ir] at J;rw[Gk,J];intro aj;rcases Sb.1 aj with aj|aj
  ·exact G (λm hm=>Gj m (by have:=z8.1 hm;omega)) aj
  ·exact ab aj
 have sn:∀k,k<=N->∀i,i<N->fx (2^(if k<N then b else v)) ((λi k=>(cZ k:Rat)*A i k) i k):=λk L i U=>(fC k L).2.2 i U;generalize ax7:(λ(i k:Nat)=>(cZ k:Rat)*A i k)=Nx at *
 have wB:fx (2^(c+N*b+b)) (gV p (rD Nx σ p)):=by
  rcases k3 N with aj|aj
  ·omega
  ·refine NG e8 aC sn (λi U=>hσ i (by omega)) (mu p) (by rw[ND];exact aC) 0 (by omega) (λm hm _=>by have:=z8.1 hm;omega) ?_ _ (by rw[ad aj];exact cI _)
   have:∀p,(mu p).count 0<=1:=by
    intro p
    induction p with
    |zero=>simp[mu]
    |succ p aH =>
     simp only[mu];rw[akf]
     by_cases iJ:p=0
     ·subst iJ;simp[mu]
     ·rw[ag (by simpa using iJ)];exact aH
   exact this p
 obtain⟨d,yd,ua⟩:=wB
 have ya:d≠0:=by
  intro aj;rw[yd,aj] at mG;exact mG (by rfl)
 obtain⟨ax8,NH,-⟩:=fC k jJ;have yg:(N+1)*b=N*b+b:=qq N b
 by_cases qO:i<p
 ·obtain⟨cz,ax9,Jt,aa1,DO⟩:=aj8 aZ aC qO tl jJ;obtain⟨m,NI,Sc⟩:=NG e8 aC sn (λi U=>hσ i (by omega)) cz (by omega) k jJ (λm hm o1=>by rcases Jt m hm with h|h<;>omega) aa1 _ (cI _)
  rw[ad qO,NI,yd] at DO;have tZ:=Gj i (by omega)
  have he:aU i k*(((cZ k:Int)*d:Int):Rat)=(((cZ i:Int)*m:Int):Rat):=by
   rw[tg,tg,<-DO,oJ,oJ];grind
  obtain⟨f1,f2⟩:=BX (Bx (by omega) ya) he;obtain⟨-,akg,-⟩:=fC i (by omega);rw[ad U] at akg;refine⟨eP f1 ?_,eP f2 ?_⟩
  ·rw[ug,lL];refine eP (xc akg Sc) ?_;rw[<-tk];exact ov (by omega) (by omega)
  ·rw[ug,lL];refine eP (xc NH ua) ?_;rw[<-tk];exact ov (by omega) (by omega)
 ·have DO:=ax4 aZ (by omega) U tl jJ
  have hτ:∀j,j<p+1->(λj=>if j=p then σ i else σ j) j<N:=λj ax=>by
   show (if j=p then σ i else σ j)<N
   split
   ·exact hσ i U
   ·exact hσ j (by omega)
  obtain⟨m,NI,Sc⟩:=NG (n:=p+1) e8 (by omega) sn hτ (k::mu p) (by rw[kB,ND];omega) k jJ (λm hm o1=>by
   rcases m1.1 hm with h|h
   ·exact absurd h o1
   ·have:=z8.1 h;omega) (by rw[aaZ,aj9.2 λa2=>by have:=z8.1 a2;omega];omega) _ (cI _)
  rw[ag qO,NI,yd] at DO
  have he:aU i k*(((cZ k:Int)*d:Int):Rat)=((m:Int):Rat):=by
   rw[tg,<-DO,oJ];grind
  obtain⟨f1,f2⟩:=BX (Bx (by omega) ya) he;refine⟨eP f1 (eP Sc ?_),eP f2 ?_⟩
  ·exact ov (by omega) (by omega)
  ·rw[ug,lL];refine eP (xc NH ua) ?_;rw[<-tk];exact ov (by omega) (by omega)
theorem nf.aya {N c b v:Nat}{A aU:ff}(e8:N^N<=2^c)(dL:sw N A b v)(h:nf N A aU N):∃bp:Nat,0<bp/\bp<=2^(c+(N+1)*b+v)/\∀i,i<N->∃z:Int,aU i N*(bp:Rat)=(z:Rat):=by
 obtain⟨p,aai⟩:∃p,p=N:=⟨N,rfl⟩;have aC:p<=N:=by omega
 have h:nf N A aU p:=by rw[aai];exact h
 obtain⟨σ,hσ,X,ab⟩:=h;obtain⟨cZ,fC⟩:=dL
 have Gj:∀m,m<=N->((cZ m:Nat):Rat)≠0:=λm hm=>by
  have:=(fC m hm).1;rw[Ne,akd];omega
 -- the scaled matrix
 have aZ:Js N (λi k=>cZ k*A i k) (λl k=>if l<p then cZ k*aU l k/cZ l else cZ k*aU l k) σ p:=by
  intro i U k tl jJ;have:=X i U k tl jJ;show (cZ k:Rat)*A (σ i) k=_;rw[this,ake,<-Jf]
  congr 1
  ·split<;>grind
  ·refine oG λl az=>?_;dsimp only;rw[ad az];have:=Gj l (by omega);grind
 have mG:gV p (rD (λi k=>cZ k*A i k) σ p)≠0:=by
  obtain⟨a,G,J⟩:=aa0 p (λk=>(cZ k:Rat)) (rC A σ) (mu p) [];have Gk:rD (λi k=>cZ k*A i k) σ p=(mu p).map λk=>λi=>(cZ k:Rat)*rC A σ k i:=rfl;rw[ir,ir] at J;rw[Gk,J];intro aj;rcases Sb.1 aj with aj|aj
  ·exact G (λm hm=>Gj m (by have:=z8.1 hm;omega)) aj
  ·exact ab aj
 have sn:∀k,k<=N->∀i,i<N->fx (2^(if k<N then b else v)) ((λi k=>(cZ k:Rat)*A i k) i k):=λk L i U=>(fC k L).2.2 i U;generalize ax7:(λ(i k:Nat)=>(cZ k:Rat)*A i k)=Nx at *
 have wB:fx (2^(c+N*b+b)) (gV p (rD Nx σ p)):=by
  rcases k3 N with aj|aj
  ·have iJ:p=0:=by omega
   subst iJ;exact⟨1,by rfl,Ju⟩
  ·refine NG e8 aC sn (λi U=>hσ i (by omega)) (mu p) (by rw[ND];exact aC) 0 (by omega) (λm hm _=>by have:=z8.1 hm;omega) ?_ _ (by rw[ad aj];exact cI _)
   have:∀p,(mu p).count 0<=1:=by
    intro p
    induction p with
    |zero=>simp[mu]
    |succ p aH =>
     simp only[mu];rw[akf]
     by_cases iJ:p=0
     ·subst iJ;simp[mu]
     ·rw[ag (by simpa using iJ)];exact aH
   exact this p
 obtain⟨d,yd,ua⟩:=wB
 have ya:d≠0:=by
  intro aj;rw[yd,aj] at mG;exact mG (by rfl)
 obtain⟨ax8,NH,-⟩:=fC N (cI _);have yg:(N+1)*b=N*b+b:=qq N b;rw[ag (by omega)] at NH
 have z9:∃s:Int,(s=1\/s = -1)/\(((cZ N:Int)*d).natAbs:Int)=s*((cZ N:Int)*d):=by
  rcases Int.natAbs_eq ((cZ N:Int)*d) with e|e
  ·exact⟨1,.inl rfl,by omega⟩
  ·exact⟨-1,.inr rfl,by omega⟩
 obtain⟨s,-,Q⟩:=z9;have aj:(cZ N:Int)*d≠0:=Bx (by omega) ya;refine⟨((cZ N:Int)*d).natAbs,Int.natAbs_pos.2 aj,?_,λi U=>?_⟩
 ·rw[ug,lL];refine eP (xc NH ua) ?_;rw[<-tk];exact ov (by omega) (by omega)
 ·obtain⟨cz,ax9,Jt,aa1,DO⟩:=aj8 aZ aC (by omega:i<p) (by omega:p<=N) (cI N);obtain⟨m,NI,Sc⟩:=NG e8 aC sn (λi U=>hσ i (by omega)) cz (by omega) N (cI _) (λm hm o1=>by rcases Jt m hm with h|h<;>omega) aa1 _ (cI _)
  rw[ad (by omega),NI,yd] at DO;have tZ:=Gj i (by omega);refine⟨s*(cZ i*m),?_⟩;have e:((((cZ N:Int)*d).natAbs:Nat):Rat)=((((cZ N:Int)*d).natAbs:Int):Rat):=(oJ _).symm;rw[e,Q,tg,tg,tg,tg,<-DO,oJ,oJ];grind
def c8 (N:Nat)(x:Nat->Rat):List bG:=((eY N).map x).map aq
theorem qQ (N:Nat)(x:Nat->Rat):(c8 N x).length=N:=by simp[c8]
theorem p9 {N k:Nat}(x:Nat->Rat)(h:k<N):(c8 N x)[k]?=some (aq (x k)):=by
 unfold c8;rw[aW,aW,uV h];rfl
theorem Jv {N:Nat}{l:List bG}{x:Nat->Rat}(az:(D l)=N)(h:∀k,k<N->l[k]?=some (aq (x k))):l=c8 N x:=by
 apply pJ;intro k;rcases hn k N with L|L
 ·rw[h k L,p9 x L]
 ·rw[iD (by omega),iD (by rw[qQ];omega)]
theorem xi {N:Nat}{x y:Nat->Rat}(h:∀k,k<N->x k=y k):c8 N x=c8 N y :=
 Jv (qQ N x) λk L=>by rw[p9 x L,h k L]
theorem aa2 {N:Nat}{x:Nat->Rat}(fM:N<=40)(h:∀k,k<N->dX (x k)):rk (c8 N x):=by
 refine⟨by rw[qQ];omega,λf aD=>?_⟩
 obtain⟨k,L⟩:=List.mem_iff_getElem?.1 aD;have Zx:k<N:=by have:=(eg.1 L).1;rwa [qQ] at this
 rw[p9 x Zx] at L
 cases L;exact lP (h k Zx)
def akh (N:Nat)(bp:ff)(x:Nat->Rat):Prop:=(∀y,iS N bp (ext N y (-1))↔∀k,k<N->y k=x k)/\∀y,iS N bp (ext N y 0)->∀k,k<N->y k=0
def DP (N:Nat)(bp:ff):Prop:=∃y,iS N bp (ext N y 0)/\∃k,k<N/\y k≠0
theorem ayb {N:Nat}{rows:List dE}{aU:ff}(h:yI N rows aU):rows.map (vI N)=c8 N (λi=>aU i N) :=
 Jv (by rw[ah];exact h.1) λk L=>by
  obtain⟨x,M,-,nF⟩:=h.row L;rw[aW,M,l9];unfold vI;rw[ez,nF.get (cI _)]
  rfl
theorem Jq.aki {N:Nat}{aU xd:ff}{rows:List dE}{p c:Nat}{ew:Nat->Nat}(h:Jq N aU xd rows p c ew){i k:Nat}(U:i<N)(L:k<=N):dX (xd i k):=by
 obtain⟨x,-,-,nF⟩:=h.enc.row U;exact nF.2 k L
theorem akj {q:Rat}(h:dX q):qD 0 (-q)=true:=by
 unfold qD;simp only[gb]
 have G:hS ((-q).num*((0:Rat).den:Int))=true:=by
  rw[aj3,NJ];unfold hS;rw[decide_eq_true_eq];have:=h.1;omega
 refine⟨?_,G,?_,?_⟩
 ·rw[NK,vo];decide +kernel
 ·rw[NK,vo,Int.zero_add];exact G
 ·rw[NJ,Rat.neg_den];unfold hS;rw[decide_eq_true_eq];have:=h.2;omega
theorem akk:dX 0:=⟨by decide +kernel,by decide +kernel⟩
theorem ayc {N f:Nat}{rows:List dE}{aU:ff}(h:yI N rows aU)(aD:f<N):Nb rows f N f=c8 N (uG aU f) :=
 Jv (awt _ _ _ _) λk L=>by
  unfold Nb;rw[aW,uV L,l9];unfold uG
  by_cases G:k<f
  ·rw[ad G,ad G];obtain⟨x,-,ex,nF⟩:=h.row (i:=k) (by omega);rw[ex,nF.cell (by omega),<-aiO,Mo akk (nF.2 f (by omega)),akj (nF.2 f (by omega))]
   rfl
  ·rw[ag G,ag G]
   by_cases J:k=f
   ·rw[ad J,ad J,aws]
   ·rw[ag J,ag J,aiO]
theorem aa3 {N:Nat}{bp aU:ff}(h:∀y,iS N aU y↔iS N bp y):∀y z,iS N aU (ext N y z)↔iS N bp (ext N y z):=λ_ _=>h _
theorem ayd {rs:List b9}{n:Int}(h:iM rs n=true):
  (p3 rs n=([],6)) \/
  (∃x,p3 rs n=(c8 (D rs) x,0)/\Z0 rs n=([],false)/\(∀k,k<(D rs)->dX (x k))/\akh (D rs) (sv rs) x) \/
  (∃y,p3 rs n=([],17)/\Z0 rs n=(c8 (D rs) y,true)/\(∀k,k<(D rs)->dX (y k))/\iS (D rs) (sv rs) (ext (D rs) y 0)/\∃k,k<D rs/\y k=1):=by
 unfold p3 Z0;rw[ad h];rcases M:pq true rs with ⟨yK,ti,bad⟩
 cases bad
 ·right
  obtain⟨aU,p,c,ew,he,-,Q⟩:=axY true h M;rw[ad h];rcases Q rfl with ⟨rfl,rfl,rfl,jT⟩|⟨f,rfl,aD,rfl,rfl,jT,a2⟩
  ·left
   refine⟨λi=>aU i (D rs),?_,rfl,λk L=>he.aki L (cI _),λy=>?_,λy ao=>?_⟩
   ·rw[ag (by simp),ag (by simp),ayb he.enc]
   ·rw[<-aa3 he.Jr];exact ajE he.red jT y
   ·exact axF he.red jT y ((aa3 he.Jr y 0).2 ao)
  ·right
   refine⟨uG aU c,?_,?_,λk L=>?_,?_,⟨c,aD,by unfold uG;simp⟩⟩
   ·rw[ag (by simp),ad (by simp)]
   ·rw[ag (by simp)];exact congrArg (λl=>(l,true)) (ayc he.enc aD)
   ·unfold uG
    split
    ·exact ahs (akj (he.aki L (by omega)))
    ·split
     ·exact⟨by decide +kernel,by decide +kernel⟩
     ·exact akk
   ·exact (aa3 he.Jr _ _).1 (ajF he.red jT aD a2)
 ·left
  rw[ad rfl]
theorem akl (aU:ff){N p s:Nat}(aC:p<N)(Q:p<=s)(xa:s<N){i:Nat}(U:i<N):∃bn,bn<N/\h5 aU p s i=aU bn:=by
 unfold h5
 by_cases G:i=s
 ·exact⟨p,aC,by rw[ad G]⟩
 ·by_cases J:i=p
  ·exact⟨s,xa,by rw[ag G,ad J]⟩
  ·exact⟨i,U,by rw[ag G,ag J]⟩
theorem akm (b:Nat)(p:Prop)[Decidable p]:eJ b (if p then 1 else 0):=by
 have ai:1<=2^b:=Ju
 split
 ·exact⟨ai,ai⟩
 ·exact⟨fA _,ai⟩
theorem nf.all {N p c b v:Nat}{A aU:ff}{ew:Nat->Nat}(e8:N^N<=2^c)(dL:sw N A b v)(ai:b<=v)(h:nf N A aU p)(X:sr N aU p p ew)(jT:∀j,j<p->ew j=j)(aC:p<=N){i k:Nat}(U:i<N)(L:k<=N):eJ (c+(N+1)*b+v) (aU i k):=by
 by_cases akn:k<p
 ·have:=X.unit k akn i U;rw[jT k akn] at this;rw[this];exact akm _ _
 ·refine (h.sz e8 dL aC U (by omega) L).mono ?_
  split<;>omega
theorem aye {N p s c b v:Nat}{A aU:ff}{ew:Nat->Nat}(e8:N^N<=2^c)(dL:sw N A b v)(ai:b<=v)(h:nf N A aU p)(X:sr N aU p p ew)(jT:∀j,j<p->ew j=j)(aC:p<N)(Q:p<=s)(xa:s<N)(b5:aU s p≠0)(ic:2*(c+(N+1)*b+v)+(c+(N+2)*b)+1<1200):ajS N (h5 aU p s) p p:=by
 have J:=h.step aC Q xa b5;have aZ:=X.FX aC Q xa b5
 have ayf:∀j,j<p+1->(if j=p then p else ew j)=j:=λj ax=>by
  split
  ·omega
  ·exact jT j (by omega)
 have ay:(N+2)*b=(N+1)*b+b:=qq (N+1) b
 have dO:∀i,i<N->∀k,k<=N->eJ (c+(N+1)*b+v) (h5 aU p s i k):=by
  intro i U k L;obtain⟨bn,G,e⟩:=akl aU aC Q xa U;rw[e];exact h.all e8 dL ai X jT (by omega) G L
 have Gk:∀i,i<N->eJ (c+(N+2)*b) (h5 aU p s i p):=by
  intro i U;obtain⟨bn,G,e⟩:=akl aU aC Q xa U;rw[e];have:=h.sz e8 dL (by omega) G (cI p) (by omega);rw[ad aC] at this;exact this.mono (by omega)
 have ako:∀k,k<=N->eJ (c+(N+1)*b+v) (h5 aU p s p k/h5 aU p s p p):=by
  intro k L;have:=J.all e8 dL ai aZ ayf (by omega) (i:=p) aC L;unfold p8 at this;rwa [ad rfl] at this
 refine⟨λk L=>aaY (dO p aC k L) (Gk p aC) (by omega),λi U _ _ k L=>?_⟩;unfold th;rw[gb];exact⟨NB (Gk i U) (ako k L) (by omega),xg (dO i U k L) (uH (DM (Gk i U) (ako k L))) (by omega)⟩
theorem ayg {N c b v:Nat}{A:ff}(e8:N^N<=2^c)(dL:sw N A b v)(ai:b<=v)(ic:2*(c+(N+1)*b+v)+(c+(N+2)*b)+1<1200):
  ∀k p rows aU ew,p+k=N->Jq N A aU rows p p ew->nf N A aU p->(∀j,j<p->ew j=j)->(lk true k p rows [] false).2.2=false:=by
 intro k
 induction k with
 |zero=>intro p rows aU ew _ _ _ _;rfl
 |succ k aH =>
  intro p rows aU ew aC he ab jT;unfold lk;rw[og,Nat.sub_zero];rcases ajT he.enc (r:=p) (c:=p) (by omega) (by omega) with ⟨G,J,af,aP⟩|⟨G,s,hR,lM,yL,aP,bh⟩
  ·rw[G,J,af,ad rfl,ad rfl]
  ·have cR:=aye e8 dL ai ab he.red jT (by omega) hR lM yL ic;have ai:=bh cR;rw[G,ag (by simp),ai];refine aH (p+1) _ (p8 aU p p s) (λj=>if j=p then p else ew j) (by omega) ⟨aP ai,he.red.FX (by omega) hR lM yL,λy=>(aar (by omega) lM yL).trans (he.Jr y)⟩ (ab.step (by omega) hR lM yL) λj ax=>?_;show (if j=p then p else ew j)=j
   split
   ·omega
   ·exact jT j (by omega)
theorem ayh {rs:List b9}{n:Int}{c b v:Nat}(h:iM rs n=true)(e8:(D rs)^(D rs)<=2^c)(dL:sw (D rs) (sv rs) b v)(ai:b<=v)(ic:2*(c+(D rs+1)*b+v)+(c+(D rs+2)*b)+1<1200):p3 rs n≠([],6):=by
 have M:(pq true rs).2.2=false :=
  ayg e8 dL ai ic (D rs) 0 (hJ rs) (sv rs) (λj=>j) (by omega) ⟨ajY h,RT _ _ _,λ_=>Iff.rfl⟩ (nf.start _ _) λj ax=>by omega
 unfold p3;rw[ad h,ag (by rw[M];simp)]
 split
 ·simp
 ·simp
theorem ayi {rs:List b9}{n:Int}{c b v:Nat}(h:iM rs n=true)(e8:(D rs)^(D rs)<=2^c)(dL:sw (D rs) (sv rs) b v)(ai:b<=v)(ic:2*(c+(D rs+1)*b+v)+(c+(D rs+2)*b)+1<1200)(Q:¬ DP (D rs) (sv rs)):
  ∃x,p3 rs n=(c8 (D rs) x,0)/\(∀k,k<(D rs)->dX (x k))/\akh (D rs) (sv rs) x:=by
 rcases ayd h with e|⟨x,e,-,G,J⟩|⟨y,-,-,-,G,k,L,ao⟩
 ·exact absurd e (ayh h e8 dL ai ic)
 ·exact⟨x,e,G,J⟩
 ·exact absurd ⟨y,G,k,L,by rw[ao];decide⟩ Q
theorem nf.full {N:Nat}{A:ff}(Q:¬ DP N A):∀k p aU ew,p+k=N->sr N aU p p ew->(∀y,iS N aU y↔iS N A y)->nf N A aU p->(∀j,j<p->ew j=j)->∃aU ew,nf N A aU N/\sr N aU N N ew/\(∀j,j<N->ew j=j)/\∀y,iS N aU y↔iS N A y
 |0,p,aU,ew,aC,X,a4,ab,jT=>by
  obtain rfl:p=N:=by omega
  exact⟨aU,ew,ab,X,jT,a4⟩
 |k+1,p,aU,ew,aC,X,a4,ab,jT=>by
  by_cases a2:∀i,p<=i->i<N->aU i p=0
  ·exfalso
   refine Q ⟨uG aU p,(a4 _).1 (ajF X jT (by omega) a2),p,by omega,?_⟩
   unfold uG;rw[ag (by omega),ad rfl]
   decide
  ·have⟨s,hR,lM,yL⟩:∃s,p<=s/\s<N/\aU s p≠0:=by
    apply nY;intro h;exact a2 λi G J=>nY λaf=>h ⟨i,G,J,af⟩
   refine nf.full Q k (p+1) (p8 aU p p s) (λj=>if j=p then p else ew j) (by omega) (X.FX (by omega) hR lM yL) (λy=>(aar (by omega) lM yL).trans (a4 y)) (ab.step (by omega) hR lM yL) λj ax=>?_;show (if j=p then p else ew j)=j
   split
   ·omega
   ·exact jT j (by omega)
theorem akp {N c b v:Nat}{A:ff}(Q:¬ DP N A)(e8:N^N<=2^c)(dL:sw N A b v){x:Nat->Rat}(M:iS N A (ext N x (-1))):∃bp:Nat,0<bp/\bp<=2^(c+(N+1)*b+v)/\∀i,i<N->∃z:Int,x i*(bp:Rat)=(z:Rat):=by
 obtain⟨aU,ew,⟨σ,G,J,af⟩,-⟩:=nf.full Q N 0 A (λj=>j) (by omega) (RT _ _ _) (λ_=>Iff.rfl) (nf.start _ _) (λj ax=>by omega);refine nf.aya (aU:=λi _=>x i) e8 dL ⟨σ,G,λi U k tl jJ=>?_,af⟩;obtain rfl:k=N:=by omega
 rw[ad U];have:=M (σ i) (G i U);rw[Nu] at this;grind
theorem ayj {N:Nat}{A:ff}(Q:¬ DP N A):∃x,iS N A (ext N x (-1)):=by
 obtain⟨aU,ew,-,G,J,af⟩:=nf.full Q N 0 A (λj=>j) (by omega) (RT _ _ _) (λ_=>Iff.rfl) (nf.start _ _) (λj ax=>by omega);exact⟨λi=>aU i N,(af _).1 ((ajE G J _).2 λ_ _=>rfl)⟩
end Go.Mini
namespace Go.Mini
open Classical
def Day.W (d:Day)(f:Nat->Nat)(k i:Nat):Rat:=ck d.dt λc=>if c.to=(i:Int)/\c.aE=k/\c.bM=f k then d.w c else 0
def Day.st (d:Day)(f:Nat->Nat)(i:Nat):Rat:=d.E i+ck d.dt λc=>if c.to=(i:Int)/\c.bM<f c.aE then c.am else 0
theorem Day.dF.aa4 {d:Day}(ab:d.dF)(f:Nat->Nat)(P:Nat->Prop)(x:Nat->Rat)(i:Nat):(ck d.dt λc=>if c.to=(i:Int) then (if c.bM=f c.aE/\P c.aE then d.w c*x c.aE else 0) else 0)=cN d.n λk=>if P k then d.W f k i*x k else 0:=by
 have e:=aaw (n:=d.n) ab.aE λk c=>if c.to=(i:Int) then (if c.bM=f k/\P k then d.w c*x k else 0) else 0;rw[<-e];refine oG λk L=>?_
 by_cases fs:P k
 ·rw[ad fs,xh];unfold Day.W;rw[<-RV];refine uD λc _=>?_
  by_cases G:c.aE=k
  ·by_cases J:c.to=(i:Int)
   ·by_cases af:c.bM=f k
    ·rw[ad G,ad J,ad ⟨af,fs⟩,ad ⟨J,G,af⟩,xh]
    ·rw[ad G,ad J,ag λh=>af h.1,ag λh=>af h.2.2,xb]
   ·rw[ad G,ag J,ag λh=>J h.1,xb]
  ·rw[ag G,ag λh=>G h.2.1,xb]
 ·rw[ag fs];refine Jh λc _=>?_
  split
  ·split
   ·rw[ag λh=>fs h.2]
   ·rfl
  ·rfl
theorem Day.dF.Sd {d:Day}(ab:d.dF)(f:Nat->Nat)(P:Nat->Prop)(h:Nat->Rat)(i:Nat):d.fq (d.l f P h) i=d.st f i+cN d.n λk=>if P k then d.W f k i*(h k-d.bZ k (f k)) else 0:=by
 rw[<-ab.aa4 f P (λk=>h k-d.bZ k (f k)) i];unfold Day.fq Day.st;rw[Rat.add_assoc,<-RU]
 congr 1
 refine uD λc _=>?_;unfold Day.l
 by_cases G:c.to=(i:Int)
 ·rw[ad G,ad G]
  by_cases J:c.bM<f c.aE
  ·have af:c.to=(i:Int)/\c.bM<f c.aE:=⟨G,J⟩;have aP:¬ (c.bM=f c.aE/\P c.aE):=λh=>by have:=h.1;omega
   rw[ad J,ad af,ag aP,pr]
  ·have af:¬ (c.to=(i:Int)/\c.bM<f c.aE):=λh=>J h.2;rw[ag J,ag af,DN]
   by_cases aP:c.bM=f c.aE/\P c.aE
   ·rw[ad aP,ad aP,aP.1]
   ·rw[ag aP,ag aP]
 ·have af:¬ (c.to=(i:Int)/\c.bM<f c.aE):=λh=>G h.1;rw[ag G,ag af,ag G,pr]
def Day.qa (d:Day)(f:Nat->Nat)(P:Nat->Prop):ff:=λi k=>if k<d.n then (if i=k then 1 else 0)-(if P k then d.W f k i else 0) else d.st f i-cN d.n λk=>if P k then d.W f k i*d.bZ k (f k) else 0
theorem aa5 {d:Day}(f:Nat->Nat)(P:Nat->Prop)(x:Nat->Rat)(z:Rat){i:Nat}(U:i<d.n):nE d.n (d.qa f P i) (ext d.n x z)=x i-(cN d.n λk=>if P k then d.W f k i*x k else 0)+(d.st f i-cN d.n λk=>if P k then d.W f k i*d.bZ k (f k) else 0)*z:=by
 rw[Nu]
 congr 1
 ·have e:=BV (n:=d.n) (f:=λk=>if i=k then x k else 0) (j:=i) U λk _ L=>ag (Ne.symm L);rw[ad rfl] at e;rw[<-e,<-Nk];refine oG λk L=>?_;unfold Day.qa;rw[ad L]
  split<;>split<;>grind
 ·unfold Day.qa;rw[ag (by omega)]
theorem aa6 {d:Day}(ab:d.dF)(f:Nat->Nat)(P:Nat->Prop)(h:Nat->Rat):iS d.n (d.qa f P) (ext d.n h (-1))↔∀i,i<d.n->h i=d.fq (d.l f P h) i:=by
 have e:∀i,(cN d.n λk=>if P k then d.W f k i*(h k-d.bZ k (f k)) else 0)=(cN d.n λk=>if P k then d.W f k i*h k else 0)-cN d.n λk=>if P k then d.W f k i*d.bZ k (f k) else 0:=λi=>by
  rw[<-Nk];refine oG λk _=>?_
  split<;>grind
 unfold iS
 constructor
 ·intro dL i U;have:=dL i U;rw[aa5 f P h _ U] at this;rw[ab.Sd,e];grind
 ·intro dL i U;have:=dL i U;rw[ab.Sd,e] at this;rw[aa5 f P h _ U];grind
structure Good (d:Day) (f:Nat->Nat) (P:Nat->Prop):Prop where
 ok:d.dF
 inv:∃g,Inv d f g
 gr:∀i,P i->i<d.n/\f i<10
 R0:∀C:Nat->Prop,(∃i,C i)->(∀i,C i->P i)->¬ d.closed f C
theorem Good.akq {d:Day}{f:Nat->Nat}{P:Nat->Prop}(bq:Good d f P){x:Nat->Rat}(M:∀i,i<d.n->x i=cN d.n λk=>if P k then d.W f k i*x k else 0):∀i,i<d.n->x i=0:=by
 obtain⟨g,U⟩:=bq.inv;exact axv U bq.ok bq.gr bq.R0 x λi cJ=>by rw[bq.ok.aa4 f P x i];exact M i cJ
theorem Good.aa7 {d:Day}{f:Nat->Nat}{P:Nat->Prop}(bq:Good d f P):¬ DP d.n (d.qa f P):=by
 rintro⟨y,ao,k,L,b5⟩;refine b5 (bq.akq (x:=y) (λi U=>?_) k L);have:=ao i U;rw[aa5 f P y _ U] at this;grind
theorem Good.ex {d:Day}{f:Nat->Nat}{P:Nat->Prop}(bq:Good d f P):∃h:Nat->Rat,∀i,i<d.n->h i=d.fq (d.l f P h) i:=by
 obtain⟨x,M⟩:=ayj bq.aa7;exact⟨x,(aa6 bq.ok f P x).1 M⟩
theorem Good.uniq {d:Day}{f:Nat->Nat}{P:Nat->Prop}(bq:Good d f P){h cv:Nat->Rat}(e:∀i,i<d.n->h i=d.fq (d.l f P h) i)(e':∀i,i<d.n->cv i=d.fq (d.l f P cv) i):∀i,i<d.n->h i=cv i:=by
 obtain⟨g,U⟩:=bq.inv;exact axu U bq.ok bq.gr bq.R0 e e'
def Day.e4 (d:Day)(f:Nat->Nat)(P:Nat->Prop):Nat->Rat:=if h:∃x:Nat->Rat,∀i,i<d.n->x i=d.fq (d.l f P x) i then zq h else λ_=>0
theorem Good.e4 {d:Day}{f:Nat->Nat}{P:Nat->Prop}(bq:Good d f P):∀i,i<d.n->d.e4 f P i=d.fq (d.l f P (d.e4 f P)) i:=by
 have h:=bq.ex;unfold Day.e4;rw[dif_pos h];exact r2 h
theorem ayk {l:List Nat}{a k:Nat}(h:k<D l):(l++[a]).getD k 0=l.getD k 0:=by
 rw[ez,ez,oZ h]
theorem ayl (l:List Nat)(a:Nat)(aR:Nat->Rat):cN (l++[a]).length (λk=>aR ((l++[a]).getD k 0))=cN (D l) (λk=>aR (l.getD k 0))+aR a:=by
 rw[gj,s7,cN]
 congr 1
 ·refine oG λk L=>?_;rw[ayk L]
 ·rw[ez,nK (cI _),j6];rfl
def dm (P:Nat->Prop)(n:Nat):List Nat:=(eY n).filter λi=>decide (P i)
theorem Se (P:Nat->Prop)(aR:Nat->Rat):∀n,cN (dm P n).length (λk=>aR ((dm P n).getD k 0))=cN n λk=>if P k then aR k else 0
 |0=>rfl
 |n+1=>by
  have aH:=Se P aR n;unfold dm at aH ⊢;rw[sx,rE]
  by_cases fs:P n
  ·rw[oK (by simpa using fs),pt,ayl,aH,cN,ad fs]
  ·rw[pv (by simpa using fs),pt,gD,aH,cN,ag fs,pr]
theorem DQ {P:Nat->Prop}{n k:Nat}(h:k<(dm P n).length):(dm P n).getD k 0<n/\P ((dm P n).getD k 0):=by
 have hm:(dm P n).getD k 0∈dm P n:=by
  rw[ez,bB h];exact nM h
 unfold dm at hm ⊢;rw[Jn,jC,decide_eq_true_eq] at hm;exact hm
def Day.vP (d:Day)(f:Nat->Nat)(p:List Nat):ff:=λi k=>if k<(D p) then (if i=k then 1 else 0)-d.W f (p.getD k 0) (p.getD i 0) else d.st f (p.getD i 0)-d.bZ (p.getD i 0) (f (p.getD i 0))
theorem akr {d:Day}(f:Nat->Nat)(p:List Nat)(x:Nat->Rat)(z:Rat){i:Nat}(U:i<D p):nE (D p) (d.vP f p i) (ext (D p) x z)=x i-(cN (D p) λk=>d.W f (p.getD k 0) (p.getD i 0)*x k)+(d.st f (p.getD i 0)-d.bZ (p.getD i 0) (f (p.getD i 0)))*z:=by
 rw[Nu]
 congr 1
 ·have e:=BV (n:=D p) (f:=λk=>if i=k then x k else 0) (j:=i) U λk _ L=>ag (Ne.symm L);rw[ad rfl] at e;rw[<-e,<-Nk];refine oG λk L=>?_;unfold Day.vP;rw[ad L]
  split<;>grind
 ·unfold Day.vP;rw[ag (by omega)]
theorem Good.small {d:Day}{f:Nat->Nat}{P:Nat->Prop}(bq:Good d f P):¬ DP (dm P d.n).length (d.vP f (dm P d.n)):=by
 rintro⟨y,ao,k,L,b5⟩
 have G:∀r,r<(dm P d.n).length->y r=cN (dm P d.n).length λk=>d.W f ((dm P d.n).getD k 0) ((dm P d.n).getD r 0)*y k:=λr X=>by
  have:=ao r X;rw[akr f _ y _ X] at this;grind
 have J:=bq.akq (x:=λi=>cN (dm P d.n).length λk=>d.W f ((dm P d.n).getD k 0) i*y k) (λi U=>by
  rw[<-Se P (λk=>d.W f k i*cN (dm P d.n).length λk'=>d.W f ((dm P d.n).getD k' 0) k*y k') d.n];exact oG λr X=>by rw[G r X]) ((dm P d.n).getD k 0) (DQ L).1
 refine b5 ?_;rw[G k L];exact J
theorem Good.aks {d:Day}{f:Nat->Nat}{P:Nat->Prop}(bq:Good d f P):iS (dm P d.n).length (d.vP f (dm P d.n)) (ext (dm P d.n).length (λk=>d.e4 f P ((dm P d.n).getD k 0)-d.bZ ((dm P d.n).getD k 0) (f ((dm P d.n).getD k 0))) (-1)):=by
 intro r X;rw[akr f _ _ _ X,Se P (λk=>d.W f k ((dm P d.n).getD r 0)*(d.e4 f P k-d.bZ k (f k))) d.n];have:=bq.e4 _ (DQ X).1;rw[bq.ok.Sd] at this;grind
theorem Good.akt {d:Day}{f:Nat->Nat}{P:Nat->Prop}(bq:Good d f P){i:Nat}(U:i<d.n):d.e4 f P i=d.st f i+cN (dm P d.n).length λk=>d.W f ((dm P d.n).getD k 0) i*(d.e4 f P ((dm P d.n).getD k 0)-d.bZ ((dm P d.n).getD k 0) (f ((dm P d.n).getD k 0))):=by
 rw[Se P (λk=>d.W f k i*(d.e4 f P k-d.bZ k (f k))) d.n,<-bq.ok.Sd];exact bq.e4 i U
theorem jc.good {d:Day}(ab:d.dF){f:Nat->Nat}{g:Nat->Rat}(U:Inv d f g){P:Nat->Prop}{h:Nat->Rat}(aC:jc d f g P h):Good d f P:=⟨ab,⟨g,U⟩,aC.gr,aC.R0⟩
theorem Good.none {d:Day}(ab:d.dF){f:Nat->Nat}{g:Nat->Rat}(U:Inv d f g):Good d f λ_=>False:=⟨ab,⟨g,U⟩,λ_ h=>h.elim,λ_ ⟨i,h⟩ cv=>(cv i h).elim⟩
theorem jc.first {d:Day}(ab:d.dF){f:Nat->Nat}{g:Nat->Rat}(U:Inv d f g):jc d f g (λ_=>False) (d.e4 f λ_=>False):=jc.start ab U (Good.none ab U).e4
theorem jc.succ {d:Day}(ab:d.dF){f:Nat->Nat}{g:Nat->Rat}(U:Inv d f g){P:Nat->Prop}{h:Nat->Rat}(aC:jc d f g P h):jc d f g (uE d f P h) (d.e4 f (uE d f P h)):=aC.next ab U (Good.e4 ⟨ab,⟨g,U⟩,aC.Jk,aC.ajw ab U⟩)
def idle (d:Day)(P:Nat->Prop):Nat:=kj d.n λi=>if P i then 0 else 1
theorem aku {d:Day}{f:Nat->Nat}{P:Nat->Prop}{h:Nat->Rat}{i:Nat}(U:i<d.n)(aD:f i<10)(oC:d.bZ i (f i)<h i)(fs:¬ P i):idle d (uE d f P h)<idle d P:=by
 refine aaM (j:=i) (λj _=>?_) U ?_
 ·by_cases ax:P j
  ·have G:uE d f P h j:=Or.inl ax;rw[ad G,ad ax];exact cI _
  ·rw[ag ax];split<;>omega
 ·have G:uE d f P h i:=Or.inr ⟨U,aD,oC⟩;rw[ad G,ag fs];omega
theorem jc.top {d:Day}(ab:d.dF){f:Nat->Nat}{g:Nat->Rat}(U:Inv d f g):∀m (P:Nat->Prop) (h:Nat->Rat),idle d P<=m->jc d f g P h->∃h,oH d f h
 |m,P,h,hm,aC=>by
  by_cases Q:∀i,i<d.n->f i<10->d.bZ i (f i)<h i->P i
  ·exact⟨h,g,U,aC.stop ab U Q,aC.le⟩
  ·have⟨i,G,J,af,aP⟩:∃i,i<d.n/\f i<10/\d.bZ i (f i)<h i/\¬ P i:=by
    apply nY;intro aM;exact Q λi G J af=>nY λaP=>aM ⟨i,G,J,af,aP⟩
   have av:=aku (h:=h) G J af aP
   cases m with
   |zero=>omega
   |succ m=>exact jc.top ab U m _ _ (by omega) (aC.succ ab U)
theorem aym {d:Day}(ab:d.dF){f:Nat->Nat}(X:Reach d f):∃h,oH d f h:=by
 obtain⟨g,U,-⟩:=X;exact jc.top ab U _ _ _ (cI _) (jc.first ab U)
theorem jc.aa8 {d:Day}(ab:d.dF){f:Nat->Nat}{g:Nat->Rat}(U:Inv d f g){P:Nat->Prop}{h:Nat->Rat}(aC:jc d f g P h)(Q:∀i,i<d.n->f i<10->d.bZ i (f i)<h i->P i):∀i,i<d.n->h i=d.top f i :=
 have cm:oH d f h:=⟨g,U,aC.stop ab U Q,aC.le⟩
 cm.unique ab (Day.DJ ⟨h,cm⟩)
end Go.Mini
namespace Go.Mini
open Classical
def oL:Nat->(Nat->Nat)->Nat
 |0,_=>1
 |n+1,cZ=>oL n cZ*cZ n
theorem aa9 {n:Nat}{cZ:Nat->Nat}(h:∀k,k<n->0<cZ k):0<oL n cZ:=by
 induction n with
 |zero=>exact akv
 |succ n aH=>exact aba (aH λk L=>h k (by omega)) (h n (by omega))
theorem abb {n b:Nat}{cZ:Nat->Nat}(h:∀k,k<n->cZ k<=2^b):oL n cZ<=2^(n*b):=by
 induction n with
 |zero=>simp[oL]
 |succ n aH =>
  rw[qq,tk];exact xc (aH λk L=>h k (by omega)) (h n (by omega))
theorem abc {n:Nat}{cZ:Nat->Nat}{k:Nat}(L:k<n):∃m,oL n cZ=cZ k*m:=by
 induction n with
 |zero=>omega
 |succ n aH =>
  by_cases mq:k=n
  ·subst mq;exact⟨oL k cZ,tU _ _⟩
  ·obtain⟨m,hm⟩:=aH (by omega);exact⟨m*cZ n,by rw[oL,hm,aaT]⟩
def fv (bp:Nat)(x:Rat):Prop:=∃z:Int,x*(bp:Rat)=(z:Rat)
theorem fv.add {bp:Nat}{x y:Rat}(M:fv bp x)(ao:fv bp y):fv bp (x+y):=by
 obtain⟨a,a4⟩:=M;obtain⟨b,ai⟩:=ao;exact⟨a+b,by rw[z7,<-a4,<-ai];grind⟩
theorem fv.sub {bp:Nat}{x y:Rat}(M:fv bp x)(ao:fv bp y):fv bp (x-y):=by
 obtain⟨a,a4⟩:=M;obtain⟨b,ai⟩:=ao;exact⟨a-b,by rw[R5,<-a4,<-ai];grind⟩
theorem fv.mul {bp N:Nat}{x y:Rat}(M:fv bp x)(ao:fv N y):fv (bp*N) (x*y):=by
 obtain⟨a,a4⟩:=M;obtain⟨b,ai⟩:=ao;exact⟨a*b,by rw[tg,<-a4,<-ai,Sf];grind⟩
theorem fv.int (bp:Nat)(z:Int):fv bp (z:Rat):=⟨z*bp,by rw[tg,oJ]⟩
theorem fv.zero (bp:Nat):fv bp 0:=⟨0,by rw[Np];rfl⟩
theorem fv.more {bp:Nat}{x:Rat}(h:fv bp x)(N:Nat):fv (bp*N) x:=by
 obtain⟨a,a4⟩:=h;exact⟨a*N,by rw[tg,<-a4,Sf,oJ];grind⟩
theorem fv.of_dvd {bp N:Nat}{x:Rat}(h:fv bp x)(ab:∃m,N=bp*m):fv N x:=by
 obtain⟨m,rfl⟩:=ab;exact h.more m
theorem fv.ck {bp:Nat}{l:List dZ}{aR:dZ->Rat}(h:∀c∈l,fv bp (aR c)):fv bp (ck l aR):=by
 induction l with
 |nil=>exact fv.zero bp
 |cons c l aH=>exact (h c g0).add (aH λx M=>h x (h3 _ M))
theorem fv.cN {bp n:Nat}{aR:Nat->Rat}(h:∀k,k<n->fv bp (aR k)):fv bp (cN n aR):=by
 induction n with
 |zero=>exact fv.zero bp
 |succ n aH=>exact (aH λk L=>h k (by omega)).add (h n (by omega))
theorem fv.sz {bp a e:Nat}{x:Rat}(h:fv bp x)(e8:0<bp)(NL:bp<=2^a)(aj:0<=x)(M:x<=((2^e:Nat):Rat)):eJ (a+e) x:=by
 obtain⟨z,a2⟩:=h;have wx:(0:Rat)<=(z:Rat):=by rw[<-a2];exact ajq aj (by exact_mod_cast fA bp)
 have ayn:(z:Rat)<=((2^e*bp:Nat):Rat):=by
  rw[<-a2,Sf];exact Rat.mul_le_mul_of_nonneg_right M (by exact_mod_cast fA bp)
 have ej:0<=z:=by exact_mod_cast wx
 have cL:z<=((2^e*bp:Nat):Int):=by exact_mod_cast ayn
 obtain⟨f1,f2⟩:=BX (q:=x) (v:=z) (d:=(bp:Int)) (by omega) (by rw[oJ];exact a2);rw[lL] at f2;have dN:z.natAbs<=2^e*bp:=by omega
 refine⟨eP f1 (eP dN ?_),eP f2 (eP NL (ov (by omega) (by omega)))⟩;rw[tk,tU (2^a)];exact Nat.mul_le_mul_left _ NL
structure e5 (E:List Int) (cs:List aB):Prop where
 right:g9 E cs=true
 hV:(D E)<=5
 qR:(D cs)<=12
 am:∀c∈cs,c.2.2.2<=33554432
theorem e5.ok {E:List Int}{cs:List aB}(h:e5 E cs):(ak E cs).dF:=Nr h.right
theorem e5.sum {E:List Int}{cs:List aB}(h:e5 E cs)(p:aB->Prop)[DecidablePred p]:0<=cl cs (λc=>if p c then c.2.2.2 else 0)/\cl cs (λc=>if p c then c.2.2.2 else 0)<=536870912:=by
 have:=Jo (cs:=cs) (aR:=λc=>if p c then c.2.2.2 else 0) (B:=33554432) (by omega) λc H=>by
  have G:=h.am c H;have J:=((hB.1 h.right).2.2.2 c H).2.2.2.2.2.2.1
  try dsimp only
  split<;>omega
 have eG:=h.qR;omega
theorem e5.upto {E:List Int}{cs:List aB}(h:e5 E cs)(i r:Int):0<=b0 cs i r/\b0 cs i r<=536870912:=h.sum λc=>c.1=i/\c.2.2.1<r
theorem ayo {E:List Int}{cs:List aB}(h:g9 E cs=true)(i:Int){r s:Int}(xV:r<=s):b0 cs i r<=b0 cs i s:=by
 have aP:=(hB.1 h).2.2.2
 have:∀l:List aB,(∀c∈l,0<=c.2.2.2)->cl l (λc=>if c.1=i/\c.2.2.1<r then c.2.2.2 else 0)<=cl l (λc=>if c.1=i/\c.2.2.1<s then c.2.2.2 else 0):=by
  intro l
  induction l with
  |nil=>intro _;exact Int.le_refl _
  |cons c l aH =>
   intro az;have G:=aH λx M=>az x (h3 _ M);have J:=az c g0;simp only[cl]
   split<;>split<;>omega
 exact this cs λc H=>(aP c H).2.2.2.2.2.2.1
def kS (cs:List aB)(k r:Nat):Nat:=(b0 cs k (r+1:Nat)-b0 cs k r).toNat
theorem Gl {E:List Int}{cs:List aB}(h:g9 E cs=true)(k r:Nat):((kS cs k r:Nat):Rat)=(ak E cs).S k r:=by
 have G:=Jp h k r;have J:=ayo h k (r:=r) (s:=(r+1:Nat)) (by omega);rw[<-G,<-oJ];unfold kS;rw[Int.toNat_of_nonneg (by omega)]
theorem e5.DR {E:List Int}{cs:List aB}(h:e5 E cs)(k r:Nat):kS cs k r<=2^29:=by
 have G:=h.upto k (r+1:Nat);have J:=h.upto k r;unfold kS;omega
def Aa (cs:List aB)(f:Nat->Nat)(k i:Nat):Int:=cl cs λc=>if c.2.1=(i:Int)/\c.1=(k:Int)/\c.2.2.1=(f k:Int) then c.2.2.2 else 0
theorem ayp {E:List Int}{cs:List aB}(h:g9 E cs=true)(f:Nat->Nat){k:Nat}(i:Nat)(dn:0<(ak E cs).S k (f k)):(ak E cs).W f k i*(ak E cs).S k (f k)=((Aa cs f k i:Int):Rat):=by
 unfold Day.W Aa
 rw[Ns cs _ (λc=>if c.to=(i:Int)/\c.aE=k/\c.bM=f k then c.am else 0) λc H=>by
  have:=(hB.1 h).2.2.2 c H;show ((if c.2.1=(i:Int)/\c.1=(k:Int)/\c.2.2.1=(f k:Int) then c.2.2.2 else 0:Int):Rat)=if c.2.1=(i:Int)/\c.1.toNat=k/\c.2.2.1.toNat=f k then (c.2.2.2:Rat) else 0
  by_cases G:c.2.1=(i:Int)/\c.1=(k:Int)/\c.2.2.1=(f k:Int)
  ·rw[ad G,ad (by omega)]
  ·rw[ag G,ag (by omega)];rfl]
 rw[xh,<-RV];refine uD λc _=>?_
 split
 ·rename_i G;rw[xh];have ay:=G.2.1;have aA:=G.2.2;subst ay;rw[<-aA] at dn ⊢;exact Day.Ji dn
 ·rw[xb]
theorem Gm {E:List Int}{cs:List aB}(h:g9 E cs=true)(f:Nat->Nat)(i:Nat):((lR E cs f i:Int):Rat)=(ak E cs).st f i:=by
 unfold lR Day.st;rw[z7]
 congr 1
 refine Ns cs _ (λc=>if c.to=(i:Int)/\c.bM<f c.aE then c.am else 0) λc H=>?_;have:=(hB.1 h).2.2.2 c H;show ((if c.2.1=(i:Int)/\c.2.2.1<(f c.1.toNat:Int) then c.2.2.2 else 0:Int):Rat)=if c.2.1=(i:Int)/\c.2.2.1.toNat<f c.1.toNat then (c.2.2.2:Rat) else 0
 by_cases G:c.2.1=(i:Int)/\c.2.2.1<(f c.1.toNat:Int)
 ·rw[ad G,ad (by omega)]
 ·rw[ag G,ag (by omega)];rfl
theorem e5.E {E:List Int}{cs:List aB}(h:e5 E cs)(i:Nat):0<=E.getD i 0/\E.getD i 0<=1000000000000000:=by
 rw[ez]
 cases U:E[i]? with
 |none=>simp
 |some x=>exact (hB.1 h.right).2.2.1 x (dS U)
theorem e5.steady {E:List Int}{cs:List aB}(h:e5 E cs)(f:Nat->Nat)(i:Nat):0<=lR E cs f i/\lR E cs f i<=1000000536870912:=by
 have G:=h.E i;have J:=h.sum λc=>c.2.1=(i:Int)/\c.2.2.1<(f c.1.toNat:Int);unfold lR;omega
theorem fx.of {z:Int}{B:Nat}(h:z.natAbs<=B):fx B (z:Rat):=⟨z,rfl,h⟩
theorem fx.nat {z:Nat}{B:Nat}(h:z<=B):fx B (z:Rat):=⟨z,(oJ _).symm,by omega⟩
theorem abd {N:Nat}(h:N<=5):N^N<=2^12:=by
 match N,h with
 |0,_|1,_|2,_|3,_|4,_|5,_=>decide
 |n+6,h=>omega
section
variable {E:List Int} {cs:List aB} (Q:e5 E cs) {f:Nat->Nat} {P:Nat->Prop} (dn:∀k,P k->0<(ak E cs).S k (f k))
include Q dn
theorem Sg {k:Nat}(L:P k):0<kS cs k (f k):=by
 have G:=dn k L;rw[<-Gl Q.right] at G;exact_mod_cast G
theorem abe {k:Nat}(L:P k)(i:Nat):((kS cs k (f k):Nat):Rat)*(ak E cs).W f k i=((Aa cs f k i:Int):Rat):=by
 rw[Gl Q.right,xh];exact ayp Q.right f i (dn k L)
theorem akw {k:Nat}(L:P k)(i:Nat)(p:Prop)[Decidable p]:fx (2^30) (((kS cs k (f k):Nat):Rat)*((if p then 1 else 0)-(ak E cs).W f k i)):=by
 have e:((kS cs k (f k):Nat):Rat)*((if p then 1 else 0)-(ak E cs).W f k i)=((if p then kS cs k (f k) else 0:Nat):Rat)-((Aa cs f k i:Int):Rat):=by
  rw[<-abe Q dn L i]
  split<;>grind
 have G:=Q.DR k (f k);have J:=Q.sum λc=>c.2.1=(i:Int)/\c.1=(k:Int)/\c.2.2.1=(f k:Int)
 rw[e];refine ((fx.nat (B:=2^29) ?_).sub (fx.of (B:=2^29) ?_)).mono (by decide)
 ·split<;>omega
 ·unfold Aa;omega
theorem abf:sw (D E) ((ak E cs).qa f P) 30 210:=by
 let cZ:Nat->Nat:=λk=>if P k then kS cs k (f k) else 1
 have tc:∀k,0<cZ k:=λk=>by
  show 0<if P k then kS cs k (f k) else 1
  split
  ·exact Sg Q dn (by assumption)
  ·omega
 have sm:∀k,cZ k<=2^29:=λk=>by
  show (if P k then kS cs k (f k) else 1)<=2^29
  split
  ·exact Q.DR k _
  ·decide
 have aM:=Q.hV;have yD:oL (D E) cZ<=2^145:=eP (abb λk _=>sm k) (ov (by omega) (by omega));refine⟨λk=>if k<(D E) then cZ k else oL (D E) cZ,λk L=>?_⟩;have kM:(ak E cs).n=D E:=rfl
 by_cases mq:k<D E
 ·dsimp only;rw[ad mq,ad mq];refine⟨tc k,eP (sm k) (by decide),λi U=>?_⟩;unfold Day.qa;rw[ad (by rw[kM];exact mq)]
  by_cases fs:P k
  ·have e:cZ k=kS cs k (f k):=ad fs;rw[e,ad fs];exact akw Q dn fs i _
  ·have e:cZ k=1:=ag fs;rw[e,ag fs];have:(((1:Nat):Rat)*((if i=k then 1 else 0)-0))=((if i=k then 1 else 0:Nat):Rat):=by split<;>simp<;>grind
   rw[this];exact fx.nat (by split<;>decide)
 ·dsimp only;rw[ag mq,ag mq];refine⟨aa9 λk _=>tc k,eP yD (ov (by omega) (by omega)),λi U=>?_⟩;unfold Day.qa;rw[ag (by rw[kM];exact mq),kM]
  have e:((oL (D E) cZ:Nat):Rat)*((ak E cs).st f i-cN (D E) λk=>if P k then (ak E cs).W f k i*(ak E cs).bZ k (f k) else 0)=((oL (D E) cZ:Nat):Rat)*(ak E cs).st f i-cN (D E) λk=>((oL (D E) cZ:Nat):Rat)*(if P k then (ak E cs).W f k i*(ak E cs).bZ k (f k) else 0):=by
   rw[Jf];grind
  rw[e]
  have G:fx (2^196) (((oL (D E) cZ:Nat):Rat)*(ak E cs).st f i):=by
   rw[<-Gm Q.right];have:=Q.steady f i;refine ((fx.nat yD).mul (fx.of (B:=2^51) (by omega))).mono ?_;rw[<-tk];exact cI _
  have J:∀k,k<(D E)->fx (2^203) (((oL (D E) cZ:Nat):Rat)*(if P k then (ak E cs).W f k i*(ak E cs).bZ k (f k) else 0)):=by
   intro k L
   by_cases fs:P k
   ·rw[ad fs];obtain⟨m,hm⟩:=abc (cZ:=cZ) L;have fC:cZ k=kS cs k (f k):=ad fs
    have o9:m<=2^145:=by
     refine eP ?_ yD;rw[hm];exact Nat.le_mul_of_pos_left _ (tc k)
    have aA:((oL (D E) cZ:Nat):Rat)*((ak E cs).W f k i*(ak E cs).bZ k (f k))=((m:Nat):Rat)*((Aa cs f k i:Int):Rat)*((b0 cs k (f k):Int):Rat):=by
     rw[hm,fC,<-abe Q dn fs i,<-ps Q.right k (f k),Sf];grind
    rw[aA];have af:=Q.upto k (f k);have aP:=Q.sum λc=>c.2.1=(i:Int)/\c.1=(k:Int)/\c.2.2.1=(f k:Int)
    refine (((fx.nat o9).mul (fx.of (B:=2^29) (by unfold Aa;omega))).mul (fx.of (B:=2^29) (by omega))).mono ?_;rw[<-tk,<-tk];exact cI _
   ·rw[ag fs,xb];exact fx.zero
  refine (G.sub (fx.sum (D E) J)).mono ?_;have bh:(D E)*2^203<=2^3*2^203:=o0 _ (by omega);rw[<-tk] at bh;have bK:2^196<=2^206:=ov (by omega) (by omega);have bE:2^206+2^206=2^207:=by rw[<-Nat.two_mul,wF,tU]
  have bP:2^207<=2^210:=ov (by omega) (by omega);have eA:(3:Nat)+203=206:=rfl;rw[eA] at bh;exact eP (Nat.add_le_add bK bh) (by rw[bE];exact bP)
theorem abg (p:List Nat)(aC:∀k,k<(D p)->P (p.getD k 0)):sw (D p) ((ak E cs).vP f p) 30 52:=by
 refine⟨λk=>if k<(D p) then kS cs (p.getD k 0) (f (p.getD k 0)) else 1,λk L=>?_⟩
 by_cases mq:k<D p
 ·dsimp only;rw[ad mq,ad mq];refine⟨Sg Q dn (aC k mq),eP (Q.DR _ _) (by decide),λi U=>?_⟩;unfold Day.vP;rw[ad mq];exact akw Q dn (aC k mq) _ _
 ·dsimp only;rw[ag mq,ag mq];refine⟨akv,Ju,λi U=>?_⟩;unfold Day.vP;rw[ag mq,<-Gm Q.right,<-ps Q.right];have G:=Q.steady f (p.getD i 0);have J:=Q.upto (p.getD i 0:Nat) (f (p.getD i 0))
  have e:((1:Nat):Rat)*(((lR E cs f (p.getD i 0):Int):Rat)-((b0 cs (p.getD i 0:Nat) (f (p.getD i 0)):Int):Rat))=((lR E cs f (p.getD i 0)-b0 cs (p.getD i 0:Nat) (f (p.getD i 0)):Int):Rat):=by
   rw[R5];have:((1:Nat):Rat)=1:=rfl;rw[this,Nv]
  rw[e];exact fx.of (by omega)
end
end Go.Mini
namespace Go.Mini
open Go Classical
theorem je {b:Nat}{q:Rat}(h:eJ b q)(ai:b<1200):dX q:=by
 obtain⟨B,jK,fo⟩:=aj0;have:2^b<dP:=by rw[fo];exact aj1 (by omega) (by omega)
 exact⟨vg h.1 this,vg h.2 this⟩
def rowsOf (N:Nat)(A:ff):List b9:=(eY N).map λi=>(c8 N (A i),aq (A i N))
theorem xj (N:Nat)(A:ff):(rowsOf N A).length=N:=by simp[rowsOf]
theorem abh {N i:Nat}(A:ff)(h:i<N):(rowsOf N A)[i]?=some (c8 N (A i),aq (A i N)):=by
 unfold rowsOf;rw[aW,uV h];rfl
theorem ayq {N i k:Nat}(A:ff)(U:i<N)(L:k<=N):sv (rowsOf N A) i k=A i k:=by
 unfold sv;rw[ajX (abh A U),xj]
 by_cases h:k<N
 ·rw[ad h,ez,p9 _ h,K8,Ft]
 ·rw[ag h,Ft,show k=N by omega]
theorem NM {x:Rat}(h:dX x):dJ (aq x)=true:=(Bt _).2 ⟨x,h,rfl⟩
theorem ayr {N:Nat}{A:ff}(fM:N<=40)(az:∀i,i<N->∀k,k<=N->dX (A i k)):iM (rowsOf N A) N=true:=by
 unfold iM
 have af:(rowsOf N A).any (lg N)=false:=by
  rw[BP];intro r X;obtain⟨i,U,rfl⟩:=gE.1 X;have U:=jC.1 U;unfold lg zW;simp only[qQ,beq_self_eq_true,fP,NM (az i U N (cI _))]
  have:(c8 N (A i)).any (λf => !dJ f)=false:=by
   rw[BP];intro f aD;unfold c8 at aD;obtain⟨x,M,rfl⟩:=gE.1 aD;obtain⟨k,L,rfl⟩:=gE.1 M;rw[NM (az i U k (by have:=jC.1 L;omega))]
   decide
  rw[this];decide
 rw[af,xj];simp only[gb,vy,decide_eq_false_iff_not,beq_self_eq_true,cp,and_true];omega
theorem akx {N:Nat}{A:ff}(fM:N<=40)(az:∀i,i<N->∀k,k<=N->dX (A i k)):lf (rowsOf N A):=by
 refine⟨by rw[xj];omega,λr X=>?_⟩
 obtain⟨i,U,rfl⟩:=gE.1 X;have U:=jC.1 U;exact⟨aa2 fM λk L=>az i U k (by omega),lP (az i U N (cI _))⟩
theorem aky {N:Nat}{a b y:Nat->Rat}(h:∀k,k<=N->a k=b k):nE N a y=nE N b y:=oG λk L=>by rw[h k (by omega)]
theorem iS.congr {N:Nat}{A B:ff}(h:∀i,i<N->∀k,k<=N->A i k=B i k)(y:Nat->Rat):iS N A y↔iS N B y:=by
 unfold iS
 constructor
 ·intro dL i U;rw[<-aky (h i U)];exact dL i U
 ·intro dL i U;rw[aky (h i U)];exact dL i U
theorem sw.congr {N b v:Nat}{A B:ff}(h:∀i,i<N->∀k,k<=N->A i k=B i k)(Q:sw N A b v):sw N B b v:=by
 obtain⟨cZ,fC⟩:=Q;exact⟨cZ,λk L=>⟨(fC k L).1,(fC k L).2.1,λi U=>by rw[<-h i U k L];exact (fC k L).2.2 i U⟩⟩
theorem sw.sz {N b v:Nat}{A:ff}(Q:sw N A b v)(ai:b<=v){i k:Nat}(U:i<N)(L:k<=N):eJ v (A i k):=by
 obtain⟨cZ,fC⟩:=Q;obtain⟨G,J,af⟩:=fC k L;obtain⟨z,a2,Sh⟩:=af i U;have hle:2^(if k<N then b else v)<=2^v:=ov (by omega) (by split<;>omega);obtain⟨f1,f2⟩:=BX (q:=A i k) (v:=z) (d:=(cZ k:Int)) (by omega) (by rw[<-a2,oJ,xh]);rw[lL] at f2;exact⟨eP f1 (eP Sh hle),eP f2 (eP J hle)⟩
theorem akz {N b v:Nat}{A:ff}(fM:N<=5)(Q:sw N A b v)(ai:b<=30)(aN:v<=210)(akA:b<=v)(z4:¬ DP N A){x:Nat->Rat}(M:iS N A (ext N x (-1))):
  p3 (rowsOf N A) N=(c8 N x,0)/\iM (rowsOf N A) N=true/\∀k,k<N->dX (x k):=by
 have az:∀i,i<N->∀k,k<=N->dX (A i k):=λi U k L=>je (Q.sz akA U L) (by omega);have X:=ayr (by omega) az;have H:∀i,i<N->∀k,k<=N->A i k=sv (rowsOf N A) i k:=λi U k L=>(ayq A U L).symm;have jL:=Q.congr H
 have ays:¬ DP N (sv (rowsOf N A)):=by
  rintro⟨y,ao,h⟩;exact z4 ⟨y,(iS.congr H _).2 ao,h⟩
 have G:(N+1)*b<=6*30:=xc (by omega) ai;have J:(N+2)*b<=7*30:=xc (by omega) ai;obtain⟨y,ay,aA,bQ⟩:=ayi (rs:=rowsOf N A) (n:=N) (c:=12) (b:=b) (v:=v) X (by rw[xj];exact abd fM) (by rw[xj];exact jL) akA (by rw[xj];omega) (by rw[xj];exact ays);rw[xj] at ay aA bQ;have hf:∀k,k<N->x k=y k:=(bQ.1 x).1 ((iS.congr H _).1 M);exact⟨by rw[ay,xi λk L=>(hf k L).symm],X,λk L=>by rw[hf k L];exact aA k L⟩
structure sy (d:Day) (f:Nat->Nat) (P:Nat->Prop):Prop where
 ok:d.dF
 ex:∃g,Inv d f g/\jc d f g P (d.e4 f P)
theorem sy.good {d:Day}{f:Nat->Nat}{P:Nat->Prop}(h:sy d f P):Good d f P:=by
 obtain⟨G,g,J,af⟩:=h;exact af.good G J
theorem sy.qP {d:Day}{f:Nat->Nat}{P:Nat->Prop}(h:sy d f P):∀k,P k->0<d.S k (f k):=by
 obtain⟨G,g,J,af⟩:=h;exact λk L=>J.qP (af.gr k L).1 (af.gr k L).2
theorem sy.gt {d:Day}{f:Nat->Nat}{P:Nat->Prop}(h:sy d f P):∀k,P k->d.bZ k (f k)<d.e4 f P k:=by
 obtain⟨G,g,J,af⟩:=h;exact af.ge
theorem jc.akB {d:Day}(ab:d.dF){f:Nat->Nat}{g:Nat->Rat}{P:Nat->Prop}{h:Nat->Rat}(U:Inv d f g)(aC:jc d f g P h){c:dZ}(H:c∈d.dt):0<=d.l f P h c/\d.l f P h c<=c.am:=by
 have aj:=ab.am c H
 by_cases G:c.bM<f c.aE
 ·rw[Day.ajt G];exact⟨aj,g8⟩
 ·by_cases J:c.bM=f c.aE/\P c.aE
  ·rw[Day.aju J.1 J.2];have ay:=aC.ge _ J.2;have aA:=aC.le _ (ab.aE c H);have bQ:=U.U _ (ab.aE c H) (aC.gr _ J.2).2;rw[d.z6] at bQ;rw[J.1];exact⟨vN (ab.su H) (by grind),ab.R2 H (by rw[J.1];grind)⟩
  ·rw[Day.aaB G J];exact⟨g8,aj⟩
theorem sy.range {d:Day}{f:Nat->Nat}{P:Nat->Prop}(h:sy d f P){i:Nat}(U:i<d.n):0<=d.e4 f P i/\d.e4 f P i<=d.fq (λc=>c.am) i:=by
 obtain⟨G,g,J,af⟩:=h;rw[af.sys i U];exact⟨G.aaE (λc H=>(af.akB G J H).1) U,d.Gf (λc H=>(af.akB G J H).2) i⟩
theorem ayt {E:List Int}{cs:List aB}(Q:e5 E cs)(i:Nat):(ak E cs).fq (λc=>c.am) i<=((2^51:Nat):Rat):=by
 have e:(ak E cs).fq (λc=>c.am) i=((E.getD i 0+cl cs (λc=>if c.2.1=(i:Int) then c.2.2.2 else 0):Int):Rat):=by
  unfold Day.fq;rw[z7]
  congr 1
  refine (Ns cs _ (λc=>if c.to=(i:Int) then c.am else 0) λc H=>?_).symm;show ((if c.2.1=(i:Int) then c.2.2.2 else 0:Int):Rat)=if c.2.1=(i:Int) then (c.2.2.2:Rat) else 0
  split<;>rfl
 rw[e];have G:=Q.E i;have J:=Q.sum λc=>c.2.1=(i:Int)
 have:E.getD i 0+cl cs (λc=>if c.2.1=(i:Int) then c.2.2.2 else 0)<=((2^51:Nat):Int):=by omega
 rw[<-oJ];exact_mod_cast this
theorem Day.dF.ayu {d:Day}(ab:d.dF)(f:Nat->Nat)(k i:Nat):0<=d.W f k i:=z5 λc H=>by
 split
 ·exact ab.su H
 ·exact g8
theorem ayv {n t:Nat}{T:Nat->Rat}(h:∀k,k<n->0<=T k)(cm:t<=n):cN t T<=cN n T:=by
 induction n with
 |zero=>rw[show t=0 by omega];exact g8
 |succ n aH =>
  by_cases Ab:t=n+1
  ·rw[Ab];exact g8
  ·have G:=aH (λk L=>h k (by omega)) (by omega);have J:=h n (by omega);rw[cN];grind
theorem ayw {N t bp a e:Nat}{s:Rat}{T:Nat->Rat}(e8:0<bp)(NL:bp<=2^a)(qC:0<=s)(K2:fv bp s)(abi:∀k,k<N->0<=T k)(akC:∀k,k<N->fv bp (T k))(M:s+cN N T<=((2^e:Nat):Rat))(cm:t<=N):eJ (a+e) (s+cN t T)/\∀k,k<N->eJ (a+e) (T k):=by
 have G:∀t,t<=N->0<=cN t T/\cN t T<=cN N T:=λt cm=>⟨ajn λk L=>abi k (by omega),ayv abi cm⟩;refine⟨(K2.add (fv.cN λk L=>akC k (by omega))).sz e8 NL (by have:=(G t cm).1;grind) (by have:=(G t cm).2;grind),λk L=>(akC k L).sz e8 NL (abi k L) ?_⟩;have J:=(G k (by omega)).1;have af:=(G (k+1) (by omega)).2;rw[cN] at af;grind
section
variable {E:List Int} {cs:List aB} (Q:e5 E cs) {f:Nat->Nat} {P:Nat->Prop} (aC:sy (ak E cs) f P)
include Q aC
theorem Si {i:Nat}(U:i<D E):0<=(ak E cs).e4 f P i/\(ak E cs).e4 f P i<=((2^51:Nat):Rat):=by
 have h:=aC.range (d:=ak E cs) U;exact⟨h.1,yH h.2 (ayt Q i)⟩
theorem akD:∃bp:Nat,0<bp/\(∃a,a<=402/\bp<=2^a)/\∀i,i<(D E)->fv bp ((ak E cs).e4 f P i):=by
 obtain⟨bp,G,J,af⟩:=akp (N:=D E) aC.good.aa7 (abd Q.hV) (abf Q aC.qP) ((aa6 aC.ok f P _).2 aC.good.e4);have aM:=Q.hV;have:(D E+1)*30<=6*30:=o0 _ (by omega);exact⟨bp,G,⟨_,by omega,J⟩,af⟩
theorem abj {i:Nat}(U:i<D E):eJ 453 ((ak E cs).e4 f P i):=by
 obtain⟨bp,G,⟨a,aj,J⟩,af⟩:=akD Q aC;have aP:=Si Q aC U;exact ((af i U).sz G J aP.1 aP.2).mono (by omega)
theorem ayx:p3 (rowsOf (D E) ((ak E cs).qa f P)) (D E)=(c8 (D E) ((ak E cs).e4 f P),0)/\iM (rowsOf (D E) ((ak E cs).qa f P)) (D E)=true:=by
 have:=akz Q.hV (abf Q aC.qP) (cI _) (cI _) (by omega) aC.good.aa7 ((aa6 aC.ok f P _).2 aC.good.e4);exact⟨this.1,this.2.1⟩
theorem ayy:p3 (rowsOf (dm P (D E)).length ((ak E cs).vP f (dm P (D E)))) (dm P (D E)).length=(c8 (dm P (D E)).length (λk=>(ak E cs).e4 f P ((dm P (D E)).getD k 0)-(ak E cs).bZ ((dm P (D E)).getD k 0) (f ((dm P (D E)).getD k 0))),0)/\iM (rowsOf (dm P (D E)).length ((ak E cs).vP f (dm P (D E)))) (dm P (D E)).length=true:=by
 have hlen:(dm P (D E)).length<=5:=by
  have:=mO (λi=>decide (P i)) (eY (D E));rw[sW] at this;have:=Q.hV;unfold dm;omega
 have:=akz hlen (abg Q aC.qP _ λk L=>(DQ L).2) (cI _) (by omega) (by omega) aC.good.small aC.good.aks;exact⟨this.1,this.2.1⟩
theorem ayz:∃bp:Nat,0<bp/\(∃a,a<=244/\bp<=2^a)/\∀k,k<(dm P (D E)).length->fv bp ((ak E cs).e4 f P ((dm P (D E)).getD k 0)-(ak E cs).bZ ((dm P (D E)).getD k 0) (f ((dm P (D E)).getD k 0))):=by
 have hlen:(dm P (D E)).length<=5:=by
  have:=mO (λi=>decide (P i)) (eY (D E));rw[sW] at this;have:=Q.hV;unfold dm;omega
 have Jw:dm P (ak E cs).n=dm P (D E):=rfl;have Ac:=aC.good.aks;have nz:=aC.good.small;rw[Jw] at Ac nz;obtain⟨bp,G,J,af⟩:=akp nz (abd hlen) (abg Q aC.qP _ λk L=>(DQ L).2) Ac;have:((dm P (D E)).length+1)*30<=6*30:=o0 _ (by omega);exact⟨bp,G,⟨_,by omega,J⟩,af⟩
theorem abk {k:Nat}(L:P k)(i:Nat):eJ 30 ((ak E cs).W f k i)/\fv (kS cs k (f k)) ((ak E cs).W f k i):=by
 have e:=abe Q aC.qP L i;have aj:=Sg Q aC.qP L;have G:=Q.DR k (f k);have J:=Q.sum λc=>c.2.1=(i:Int)/\c.1=(k:Int)/\c.2.2.1=(f k:Int)
 obtain⟨f1,f2⟩:=BX (q:=(ak E cs).W f k i) (v:=Aa cs f k i) (d:=(kS cs k (f k):Int)) (by omega) (by rw[<-e,oJ,xh]);rw[lL] at f2;refine⟨⟨eP f1 (by unfold Aa;omega),eP f2 (by omega)⟩,Aa cs f k i,by rw[<-e,xh]⟩
theorem ayA {i t:Nat}(U:i<D E)(cm:t<=(dm P (D E)).length):
  eJ 440 ((ak E cs).st f i+cN t λk=>(ak E cs).W f ((dm P (D E)).getD k 0) i*((ak E cs).e4 f P ((dm P (D E)).getD k 0)-(ak E cs).bZ ((dm P (D E)).getD k 0) (f ((dm P (D E)).getD k 0)))) /\
  (∀k,k<(dm P (D E)).length->eJ 440 ((ak E cs).W f ((dm P (D E)).getD k 0) i*((ak E cs).e4 f P ((dm P (D E)).getD k 0)-(ak E cs).bZ ((dm P (D E)).getD k 0) (f ((dm P (D E)).getD k 0))))) /\
  ∀k,k<(dm P (D E)).length->eJ 295 ((ak E cs).e4 f P ((dm P (D E)).getD k 0)-(ak E cs).bZ ((dm P (D E)).getD k 0) (f ((dm P (D E)).getD k 0))):=by
 have hlen:(dm P (D E)).length<=5:=by
  have:=mO (λi=>decide (P i)) (eY (D E));rw[sW] at this;have:=Q.hV;unfold dm;omega
 obtain⟨bp,ef,⟨a,kK,bX⟩,g4⟩:=ayz Q aC;have ia:∀k,k<(dm P (D E)).length->(dm P (D E)).getD k 0<D E/\P ((dm P (D E)).getD k 0):=λk L=>DQ L;have Sj:=aC.good.akt (d:=ak E cs) U;have Jw:dm P (ak E cs).n=dm P (D E):=rfl;rw[Jw] at Sj;generalize aKq:dm P (D E)=p at *
 have akE:∀k,k<(D p)->0<=(ak E cs).e4 f P (p.getD k 0)-(ak E cs).bZ (p.getD k 0) (f (p.getD k 0)):=λk L=>by
  have:=aC.gt _ (ia k L).2;grind
 have ayB:∀k,k<(D p)->(ak E cs).e4 f P (p.getD k 0)-(ak E cs).bZ (p.getD k 0) (f (p.getD k 0))<=((2^51:Nat):Rat):=λk L=>by
  have G:=(Si Q aC (ia k L).1).2;have J:=aC.ok.axn (p.getD k 0) (f (p.getD k 0));grind
 have ayC:0<oL (D p) λk=>kS cs (p.getD k 0) (f (p.getD k 0)):=aa9 λk L=>Sg Q aC.qP (ia k L).2;have j7:(oL (D p) λk=>kS cs (p.getD k 0) (f (p.getD k 0)))<=2^145:=eP (abb λk _=>Q.DR _ _) (ov (by omega) (by omega));have dq:=Gm Q.right f i;have Sk:=Q.steady f i;have abl:0<=(ak E cs).st f i:=by rw[<-dq];exact_mod_cast Sk.1
 have X:=(Si Q aC U).2;rw[Sj] at X
 have ayD:(oL (D p) λk=>kS cs (p.getD k 0) (f (p.getD k 0)))*bp<=2^(145+a):=by
  rw[tk];exact xc j7 bX
 have akF:=ayw (T:=λk=>(ak E cs).W f (p.getD k 0) i*((ak E cs).e4 f P (p.getD k 0)-(ak E cs).bZ (p.getD k 0) (f (p.getD k 0)))) (aba ayC ef) ayD abl (by rw[<-dq];exact fv.int _ _) (λk L=>vN (aC.ok.ayu f _ _) (akE k L)) (λk L=>((abk Q aC (ia k L).2 i).2.of_dvd (abc (cZ:=λk=>kS cs (p.getD k 0) (f (p.getD k 0))) L)).mul (g4 k L)) X cm;exact⟨akF.1.mono (by omega),λk L=>(akF.2 k L).mono (by omega),λk L=>((g4 k L).sz ef bX (akE k L) (ayB k L)).mono (by omega)⟩
end
end Go.Mini
namespace Go.Mini
open Go
def abm:b1:=cq 53 2 [.t 4] (O [dd 4 false] (.seq (O [F 7 0,cC 8 7,a7 9 .gtr 8 5,F 10 9,⟨some 11,some (10,false),.b8 (.t 1)⟩,⟨some 12,some (10,false),.len (.t 11)⟩,⟨some 13,some (10,false),.bin .gtr (.t 12) (.c (Z 12))⟩,c6 14 10 13] (aQ 14 (O [dd 4 false] .ret) .skip)) (.seq (O [ba 5 0] (.block 0 (.loop  (.seq (O [F 15 5,F 16 0,cC 17 16,bA 18 .lss 15 17] (aQ 18 .skip (.exit 0))) (.seq (.block 1 (O [F 21 0,F 22 5,bI 23 1 21 22,aG 24 1 23,a7 25 .gtr 24 1000000,F 26 25,⟨some 27,some (26,true),.b8 (.t 0)⟩,⟨some 28,some (26,true),.b8 (.t 5)⟩,⟨some 29,some (26,true),.ij 1 (.t 27) (.t 28)⟩,⟨some 30,some (26,true),.load 1 false (.t 29)⟩,⟨some 31,some (26,true),.bin .leq (.t 30) (.c (Z 1000000000000000))⟩,hF 32 26 31] (aQ 32 (O [dd 4 false] .ret) .skip))) (.ops [F 19 5,a7 20 .add 19 1,F 5 20])))))) (.seq (O [ba 6 0] (.block 2 (.loop  (.seq (O [F 33 6,F 34 1,cC 35 34,bA 36 .lss 33 35] (aQ 36 .skip (.exit 2))) (.seq (.block 3 (O [F 39 1,F 40 6,bI 41 4 39 40,aI 42 3 41,aG 43 1 42,a7 44 .gtr 43 1000000,F 45 44,⟨some 46,some (45,true),.b8 (.t 1)⟩,⟨some 47,some (45,true),.b8 (.t 6)⟩,⟨some 48,some (45,true),.ij 4 (.t 46) (.t 47)⟩,⟨some 49,some (45,true),.dQ 3 (.t 48)⟩,⟨some 50,some (45,true),.load 1 false (.t 49)⟩,⟨some 51,some (45,true),.bin .leq (.t 50) (.c (Z 1000000000000000))⟩,hF 52 45 51] (aQ 52 (O [dd 4 false] .ret) .skip))) (.ops [F 37 6,a7 38 .add 37 1,F 6 38])))))) (O [dd 4 true] .ret)))))
def vQ:b1:=cq 175 2 [.cell 4 3 true,.t 5] (O [(ar 4 (.alloc 261004 [.nil,.nil,.nil])),ba 5 0] (O [(ar 17 (.build [.nil,.nil,.nil] [])),(ar 6 (.alloc 261006 [.nil,.nil,.nil])),aT 3 6 17] (.seq (O [F 18 0,F 19 1,(b2 20 LN 18 19),fu 21 20] (aQ 21 (O [aY 22 3 6,aT 3 4 22,ba 5 1] .ret) .skip)) (O [F 23 0,F 24 1,F 25 0,cC 26 25,(ar 27 (.mx 261027 [(.I (.bool false))] 1 (.t 26) (.t 26))),(ar 28 (.build [.nil,.nil,.nil,.nil,(.I (.bool false))] [(0,1,(.t 23)),(1,1,(.t 24)),(3,1,(.t 27))])),dB 29 261029 28,F 7 29] (.seq (.seq (.ghost (.Cn (.t 7) 2 261042 1) (.ghost (.Cn (.t 6) 2 261117 1) (.ops [ba 8 0]))) (.block 0 (.loop  (.seq (O [F 30 8,F 31 0,cC 32 31,bA 33 .lss 30 32] (aQ 33 .skip (.exit 0))) (.seq (.block 1 (.ops [F 36 7,F 37 7,e2 38 37,aI 39 2 38,aG 40 1 39,(ar 41 (.eL 261041 false [(Z 0)] 1 1 [(0,1,(.c (Z 10)))])),(ar 42 (.app 261042 [(Z 0)] 8 (.t 40) (.t 41))),e2 43 36,aI 44 2 43,aT 1 44 42])) (.ops [F 34 8,a7 35 .add 34 1,F 8 35])))))) (.seq (.block 2 (.loop  (.block 3 (O [F 45 7,(dT 46 PV 45),aI 47 0 6,aT 1 47 46] (.seq (O [F 48 7,e2 49 48,aI 50 4 49,aG 51 1 50] (aQ 51 (O [(ar 52 (.build [.nil,.nil,.nil] [])),aT 3 4 52,ba 5 6] .ret) .skip)) (O [ec 9] (.seq (O [ba 10 0] (.block 4 (.ghost (.nn 9 261080 1) (.loop  (.seq (O [F 53 10,F 54 0,cC 55 54,bA 56 .lss 53 55] (aQ 56 .skip (.exit 4))) (.seq (.block 5 (eT [aI 59 0 6,aG 60 1 59,F 61 10,bI 62 4 60 61,aY 63 4 62,F 64 1,F 65 10,F 66 7,e2 67 66,aI 68 2 67,aG 69 1 68,F 70 10,bI 71 1 69 70,aG 72 1 71,(q9 73 r6 64 65 72),(dT 74 q8 73),(b2 75 wM 63 74),a7 76 .lss 75 0] aga (aQ 76 (.ops [F 77 9,F 78 10,(ar 79 (.eL 261079 false [(Z 0)] 1 1 [(0,1,(.t 78))])),(ar 80 (.app 261080 [(Z 0)] 8 (.t 77) (.t 79))),F 9 80]) .skip))) (.ops [F 57 10,a7 58 .add 57 1,F 10 58]))))))) (.seq (O [F 81 9,cC 82 81,a7 83 .eql 82 0] (aQ 83 (.exit 2) .skip)) (.seq (O [ba 11 0] (.block 6 (.loop  (.seq (O [F 84 11,F 85 9,cC 86 85,bA 87 .lss 84 86] (aQ 87 .skip (.exit 6))) (.seq (.block 7 (.my [F 90 7,e2 91 90,aI 92 2 91,aG 93 1 92,F 94 9,F 95 11,bI 96 1 94 95,aG 97 1 96,F 98 1,F 99 9,F 100 11,bI 101 1 99 100,aG 102 1 101,aI 103 0 6,aG 104 1 103,F 105 9,F 106 11,bI 107 1 105 106,aG 108 1 107,bI 109 4 104 108,aY 110 4 109,(q9 111 LO 98 102 110),bI 112 1 93 97,aT 1 112 111] arS)) (.ops [F 88 11,a7 89 .add 88 1,F 11 89])))))) (.ghost (.freeze 9) (.ops [aI 113 2 6,aG 114 1 113,F 115 9,(ar 116 (.eL 261116 false [.nil] 1 1 [(0,1,(.t 115))])),(ar 117 (.app 261117 [.nil] 24 (.t 114) (.t 116))),aI 118 2 6,aT 1 118 117]))))))))))) (.seq (.seq (.ghost (.Cn (.t 6) 1 261172 4) (.ops [ba 12 0])) (.block 8 (.loop  (.seq (O [F 119 12,F 120 1,cC 121 120,bA 122 .lss 119 121] (aQ 122 .skip (.exit 8))) (.seq (.block 9 (eT [F 126 1,F 127 1,F 128 12,bI 129 4 127 128,aI 130 0 129,aG 131 1 130,aI 132 0 6,aG 133 1 132,F 134 1,F 135 12,bI 136 4 134 135,aI 137 0 136,aG 138 1 137,bI 139 4 133 138,aY 140 4 139,(q9 141 PW 126 131 140),F 125 141,a6 142 0 125,a6 143 1 125,F 13 142,F 14 143] arR (.seq (O [F 144 14,a7 145 .neq 144 0] (aQ 145 (O [(ar 146 (.build [.nil,.nil,.nil] [])),aT 3 4 146,ba 5 6] .ret) .skip)) (O [ba 15 0] (.seq (O [ba 16 0] (.block 10 (.loop  (.seq (O [F 147 16,F 148 12,bA 149 .lss 147 148] (aQ 149 .skip (.exit 10))) (.seq (.block 11 (eT [F 152 1,F 153 16,bI 154 4 152 153,aI 155 0 154,aG 156 1 155,F 157 1,F 158 12,bI 159 4 157 158,aI 160 0 159,aG 161 1 160,bA 162 .eql 156 161] HY (aQ 162 (.ops [F 163 15,a7 164 .add 163 1,F 15 164]) .skip))) (.ops [F 150 16,a7 151 .add 150 1,F 16 151])))))) (.my [aI 165 1 6,aG 166 1 165,F 167 13,F 168 15,bI 169 4 167 168,aY 170 4 169,(ar 171 (.eL 261171 false [(Z 0),.nil,(Z 0),.nil] 4 1 [(0,4,(.t 170))])),(ar 172 (.app 261172 [(Z 0),.nil,(Z 0),.nil] 64 (.t 166) (.t 171))),aI 173 1 6,aT 1 173 172] LP)))))) (.ops [F 123 12,a7 124 .add 123 1,F 12 124])))))) (.seq (.ghost (.Eh (.t 6) 1) (.ghost (.Eh (.t 6) 2) (.ops [aY 174 3 6,aT 3 4 174,ba 5 0]))) .ret))))))))
def abn:b1:=cq 85 2 [.t 4] (O [dd 4 false] (O [F 9 0,cC 10 9,F 5 10] (.seq (O [F 11 5,a7 12 .gtr 11 60,F 13 12,⟨some 14,some (13,false),.b8 (.t 1)⟩,⟨some 15,some (13,false),.len (.t 14)⟩,⟨some 16,some (13,false),.bin .gtr (.t 15) (.c (Z 2000))⟩,c6 17 13 16] (aQ 17 (O [dd 4 false] .ret) .skip)) (.seq (O [ba 6 0] (.block 0 (.loop  (.seq (O [F 18 6,F 19 5,bA 20 .lss 18 19] (aQ 20 .skip (.exit 0))) (.seq (.block 1 (O [F 23 0,F 24 6,bI 25 1 23 24,aG 26 1 25,a7 27 .lss 26 0,F 28 27,⟨some 29,some (28,false),.b8 (.t 0)⟩,⟨some 30,some (28,false),.b8 (.t 6)⟩,⟨some 31,some (28,false),.ij 1 (.t 29) (.t 30)⟩,⟨some 32,some (28,false),.load 1 false (.t 31)⟩,⟨some 33,some (28,false),.bin .gtr (.t 32) (.c (Z 1000000000000000))⟩,c6 34 28 33] (aQ 34 (O [dd 4 false] .ret) .skip))) (.ops [F 21 6,a7 22 .add 21 1,F 6 22])))))) (.seq (O [ba 7 0] (.block 2 (.loop  (.seq (O [F 35 7,F 36 1,cC 37 36,bA 38 .lss 35 37] (aQ 38 .skip (.exit 2))) (.seq (.block 3 (O [F 41 1,F 42 7,bI 43 4 41 42,aY 44 4 43,(ar 8 (.alloc 268008 [(Z 0),(Z 0),(Z 0),(Z 0)])),aT 4 8 44] (O [aI 45 0 8,aG 46 1 45,a7 47 .lss 46 0,F 48 47,⟨some 49,some (48,false),.dQ 0 (.t 8)⟩,⟨some 50,some (48,false),.load 1 false (.t 49)⟩,⟨some 51,some (48,false),.b8 (.t 5)⟩,⟨some 52,some (48,false),.bin .geq (.t 50) (.t 51)⟩,c6 53 48 52,F 54 53,⟨some 55,some (54,false),.dQ 1 (.t 8)⟩,⟨some 56,some (54,false),.load 1 false (.t 55)⟩,⟨some 57,some (54,false),.bin .lss (.t 56) (.c (.I (.int .i64 (-1))))⟩,c6 58 54 57,F 59 58,⟨some 60,some (59,false),.dQ 1 (.t 8)⟩,⟨some 61,some (59,false),.load 1 false (.t 60)⟩,⟨some 62,some (59,false),.b8 (.t 5)⟩,⟨some 63,some (59,false),.bin .geq (.t 61) (.t 62)⟩,c6 64 59 63,F 65 64,⟨some 66,some (65,false),.dQ 2 (.t 8)⟩,⟨some 67,some (65,false),.load 1 false (.t 66)⟩,⟨some 68,some (65,false),.bin .lss (.t 67) (.c (Z 0))⟩,c6 69 65 68,F 70 69,⟨some 71,some (70,false),.dQ 2 (.t 8)⟩,⟨some 72,some (70,false),.load 1 false (.t 71)⟩,⟨some 73,some (70,false),.bin .geq (.t 72) (.c (Z 10))⟩,c6 74 70 73,F 75 74,⟨some 76,some (75,false),.dQ 3 (.t 8)⟩,⟨some 77,some (75,false),.load 1 false (.t 76)⟩,⟨some 78,some (75,false),.bin .lss (.t 77) (.c (Z 0))⟩,c6 79 75 78,F 80 79,⟨some 81,some (80,false),.dQ 3 (.t 8)⟩,⟨some 82,some (80,false),.load 1 false (.t 81)⟩,⟨some 83,some (80,false),.bin .gtr (.t 82) (.c (Z 1000000000000000))⟩,c6 84 80 83] (aQ 84 (O [dd 4 false] .ret) .skip)))) (.ops [F 39 7,a7 40 .add 39 1,F 7 40])))))) (O [dd 4 true] .ret))))))
def Jx:b1:=cq 92 1 [.t 2] (O [ec 2] (O [F 8 0,e2 9 8,aI 10 0 9,aG 11 1 10,cC 12 11,F 3 12] (.seq (O [ba 4 0] (.block 0 (.loop  (.seq (O [F 13 4,F 14 3,bA 15 .lss 13 14] (aQ 15 .skip (.exit 0))) (.seq (.block 1 (.ops [F 18 0,e2 19 18,aI 20 3 19,aG 21 1 20,F 22 4,bI 23 1 21 22,⟨none,none,.store 1 (.t 23) (.c (.I (.bool false)))⟩])) (.ops [F 16 4,a7 17 .add 16 1,F 4 17])))))) (.seq (.block 2 (.loop  (.seq (O [F 24 0,e2 25 24,aI 26 4 25,aG 27 1 26,fu 28 27] (aQ 28 .skip (.exit 2))) (.block 3 (O [F 29 0,(dT 30 Wb 29),F 5 30] (O [dd 6 false] (.seq (O [ba 7 0] (.block 4 (.loop  (.seq (O [F 31 7,F 32 3,bA 33 .lss 31 32,F 34 33,⟨some 35,some (34,true),.b8 (.t 0)⟩,⟨some 36,some (34,true),.n7 (.t 35)⟩,⟨some 37,some (34,true),.dQ 4 (.t 36)⟩,⟨some 38,some (34,true),.load 1 false (.t 37)⟩,⟨some 39,some (34,true),.un .not (.t 38)⟩,hF 40 34 39] (aQ 40 .skip (.exit 4))) (.seq (.block 5 (eT [F 43 0,e2 44 43,aI 45 2 44,aG 46 1 45,F 47 7,bI 48 1 46 47,aG 49 1 48,a7 50 .lss 49 10,F 51 50,⟨some 52,some (51,true),.b8 (.t 0)⟩,⟨some 53,some (51,true),.n7 (.t 52)⟩,⟨some 54,some (51,true),.dQ 3 (.t 53)⟩,⟨some 55,some (51,true),.load 1 false (.t 54)⟩,⟨some 56,some (51,true),.b8 (.t 7)⟩,⟨some 57,some (51,true),.ij 1 (.t 55) (.t 56)⟩,⟨some 58,some (51,true),.load 1 false (.t 57)⟩,⟨some 59,some (51,true),.un .not (.t 58)⟩,hF 60 51 59,F 61 60,⟨some 62,some (61,true),.b8 (.t 5)⟩,⟨some 63,some (61,true),.b8 (.t 7)⟩,⟨some 64,some (61,true),.ij 4 (.t 62) (.t 63)⟩,⟨some 65,some (61,true),.load 4 true (.t 64)⟩,⟨some 66,some (61,true),.b8 (.t 0)⟩,⟨some 67,some (61,true),.n7 (.t 66)⟩,⟨some 68,some (61,true),.dQ 1 (.t 67)⟩,⟨some 69,some (61,true),.load 1 false (.t 68)⟩,⟨some 70,some (61,true),.b8 (.t 7)⟩,⟨some 71,some (61,true),.b8 (.t 0)⟩,⟨some 72,some (61,true),.n7 (.t 71)⟩,⟨some 73,some (61,true),.dQ 2 (.t 72)⟩,⟨some 74,some (61,true),.load 1 false (.t 73)⟩,⟨some 75,some (61,true),.b8 (.t 7)⟩,⟨some 76,some (61,true),.ij 1 (.t 74) (.t 75)⟩,⟨some 77,some (61,true),.load 1 false (.t 76)⟩,⟨some 78,some (61,true),.call r6 [(.t 69),(.t 70),(.t 77)]⟩,⟨some 79,some (61,true),.call q8 [(.t 78)]⟩,⟨some 80,some (61,true),.call wM [(.t 65),(.t 79)]⟩,⟨some 81,some (61,true),.bin .gtr (.t 80) (.c (Z 0))⟩,hF 82 61 81] [[],[],[],[],[],[],[],[],[],[],[],[],[],[],[],[],[],[],[],[],[],[],[],[],[],[],[],[],[],[],[],[],[],[],[],[],[],[],[],[]] (aQ 82 (O [F 83 0,e2 84 83,aI 85 3 84,aG 86 1 85,F 87 7,bI 88 1 86 87,⟨none,none,.store 1 (.t 88) (.c (.I (.bool true)))⟩] (.ops [dd 6 true])) .skip))) (.ops [F 41 7,a7 42 .add 41 1,F 7 42])))))) (O [F 89 6,fu 90 89] (aQ 90 (O [F 91 5,F 2 91] .ret) .skip))))))))) (O [ec 2] .ret)))))
def abo:b1:=cq 11 1 [.cell 2 4 true] (O [(ar 2 (.alloc 271002 [(Z 0),.nil,(Z 0),.nil]))] (O [F 6 0,(ar 7 (.call wG [(.t 6),(.c (Z 1))])),F 5 7,a6 8 0 5,a6 9 1 5,(ar 3 (.alloc 271003 [(Z 0),.nil,(Z 0),.nil])),aT 4 3 8,F 4 9] (O [aY 10 4 3,aT 4 2 10] .ret)))
def abp:b1:=cq 39 3 [.t 6] (O [ba 6 0] (O [ba 7 0] (.seq (O [ba 8 0] (.block 0 (.loop  (.seq (O [F 9 8,F 10 0,cC 11 10,bA 12 .lss 9 11] (aQ 12 .skip (.exit 0))) (.seq (.block 1 (O [F 15 0,F 16 8,bI 17 4 15 16,aI 18 0 17,aG 19 1 18,F 20 1,bA 21 .eql 19 20,F 22 21,⟨some 23,some (22,true),.b8 (.t 0)⟩,⟨some 24,some (22,true),.b8 (.t 8)⟩,⟨some 25,some (22,true),.ij 4 (.t 23) (.t 24)⟩,⟨some 26,some (22,true),.dQ 2 (.t 25)⟩,⟨some 27,some (22,true),.load 1 false (.t 26)⟩,⟨some 28,some (22,true),.b8 (.t 2)⟩,⟨some 29,some (22,true),.bin .lss (.t 27) (.t 28)⟩,hF 30 22 29] (aQ 30 (.ops [F 31 7,F 32 0,F 33 8,bI 34 4 32 33,aI 35 3 34,aG 36 1 35,bA 37 .add 31 36,F 7 37]) .skip))) (.ops [F 13 8,a7 14 .add 13 1,F 8 14])))))) (O [F 38 7,F 6 38] .ret))))
def abq:b1:=cq 24 3 [.t 6] (O [dB 5 273005 2,ba 6 0] (O [ba 7 0] (.seq (.block 0 (.loop  (.seq (eT [F 8 7,a7 9 .lss 8 10,F 10 9,⟨some 11,some (10,true),.load 4 true (.t 5)⟩,⟨some 12,some (10,true),.b8 (.t 0)⟩,⟨some 13,some (10,true),.b8 (.t 1)⟩,⟨some 14,some (10,true),.b8 (.t 7)⟩,⟨some 15,some (10,true),.bin .add (.t 14) (.c (Z 1))⟩,⟨some 16,some (10,true),.call r6 [(.t 12),(.t 13),(.t 15)]⟩,⟨some 17,some (10,true),.call q8 [(.t 16)]⟩,⟨some 18,some (10,true),.call wM [(.t 11),(.t 17)]⟩,⟨some 19,some (10,true),.bin .geq (.t 18) (.c (Z 0))⟩,hF 20 10 19] E0 (aQ 20 .skip (.exit 0))) (.block 1 (.ops [F 21 7,a7 22 .add 21 1,F 7 22]))))) (O [F 23 7,F 6 23] .ret))))
def abr:b1:=cq 35 3 [.t 6,.t 7] (O [dB 5 274005 2,ec 6,ba 7 0] (O [ec 8] (.seq (O [ba 9 0] (.block 0 (.ghost (.nn 8 274029 4) (.loop  (.seq (O [F 10 9,F 11 0,cC 12 11,bA 13 .lss 10 12] (aQ 13 .skip (.exit 0))) (.seq (.block 1 (O [F 16 0,F 17 9,bI 18 4 16 17,aI 19 0 18,aG 20 1 19,F 21 1,bA 22 .eql 20 21] (aQ 22 (.ops [F 23 8,F 24 0,F 25 9,bI 26 4 24 25,aY 27 4 26,(ar 28 (.eL 274028 false [(Z 0),(Z 0),(Z 0),(Z 0)] 4 1 [(0,4,(.t 27))])),(ar 29 (.app 274029 [(Z 0),(Z 0),(Z 0),(Z 0)] 32 (.t 23) (.t 28))),F 8 29]) .skip))) (.ops [F 14 9,a7 15 .add 14 1,F 9 15]))))))) (.seq (.ghost (.freeze 8) (.ops [aY 30 4 5,F 31 8,(b2 32 Wc 30 31),a6 33 0 32,a6 34 1 32,F 6 33,F 7 34])) .ret))))
def DS:b1:=cq 188 1 [.t 2] (O [ec 2] (O [F 19 0,e2 20 19,aI 21 0 20,aG 22 1 21,cC 23 22,F 3 23] (O [ec 4] (.seq (O [ba 5 0] (.block 0 (.ghost (.nn 4 277165 5) (.loop  (.seq (O [F 24 5,F 25 3,bA 26 .lss 24 25] (aQ 26 .skip (.exit 0))) (.seq (.block 1 (O [F 29 0,F 30 5,(b2 31 Wd 29 30),(dT 32 q8 31),(ar 33 (.build [.nil,(Z 0),.nil,(Z 0),.nil] [(1,4,(.t 32))])),(ar 6 (.alloc 277006 [.nil,(Z 0),.nil,(Z 0),.nil])),aT 5 6 33] (.seq (.seq (.ghost (.Cn (.t 6) 0 277043 4) (.ops [ba 7 0])) (.block 2 (.loop  (.seq (O [F 34 7,F 35 3,bA 36 .lss 34 35] (aQ 36 .skip (.exit 2))) (.seq (.block 3 (.my [aI 39 0 6,aG 40 1 39,(ar 41 (.call q8 [(.c (Z 0))])),(ar 42 (.eL 277042 false [(Z 0),.nil,(Z 0),.nil] 4 1 [(0,4,(.t 41))])),(ar 43 (.app 277043 [(Z 0),.nil,(Z 0),.nil] 64 (.t 40) (.t 42))),aI 44 0 6,aT 1 44 43] Wh)) (.ops [F 37 7,a7 38 .add 37 1,F 7 38])))))) (eT [aI 45 0 6,aG 46 1 45,F 47 5,(ar 48 (.call q8 [(.c (Z 1))])),bI 49 4 46 47,aT 4 49 48] Wg (.seq (O [ba 8 0] (.block 4 (.loop  (.seq (O [F 50 8,F 51 0,e2 52 51,aI 53 1 52,aG 54 1 53,cC 55 54,bA 56 .lss 50 55] (aQ 56 .skip (.exit 4))) (.seq (.block 5 (O [F 59 0,e2 60 59,aI 61 1 60,aG 62 1 61,F 63 8,bI 64 4 62 63,aY 65 4 64,(ar 9 (.alloc 277009 [(Z 0),(Z 0),(Z 0),(Z 0)])),aT 4 9 65] (.seq (eT [aI 66 1 9,aG 67 1 66,F 68 5,bA 69 .neq 67 68,F 70 69,⟨some 71,some (70,false),.b8 (.t 0)⟩,⟨some 72,some (70,false),.n7 (.t 71)⟩,⟨some 73,some (70,false),.dQ 3 (.t 72)⟩,⟨some 74,some (70,false),.load 1 false (.t 73)⟩,⟨some 75,some (70,false),.dQ 0 (.t 9)⟩,⟨some 76,some (70,false),.load 1 false (.t 75)⟩,⟨some 77,some (70,false),.ij 1 (.t 74) (.t 76)⟩,⟨some 78,some (70,false),.load 1 false (.t 77)⟩,⟨some 79,some (70,false),.un .not (.t 78)⟩,c6 80 70 79,F 81 80,⟨some 82,some (81,false),.dQ 2 (.t 9)⟩,⟨some 83,some (81,false),.load 1 false (.t 82)⟩,⟨some 84,some (81,false),.b8 (.t 0)⟩,⟨some 85,some (81,false),.n7 (.t 84)⟩,⟨some 86,some (81,false),.dQ 2 (.t 85)⟩,⟨some 87,some (81,false),.load 1 false (.t 86)⟩,⟨some 88,some (81,false),.dQ 0 (.t 9)⟩,⟨some 89,some (81,false),.load 1 false (.t 88)⟩,⟨some 90,some (81,false),.ij 1 (.t 87) (.t 89)⟩,⟨some 91,some (81,false),.load 1 false (.t 90)⟩,⟨some 92,some (81,false),.bin .neq (.t 83) (.t 91)⟩,c6 93 81 92,F 94 93,⟨some 95,some (94,false),.dQ 3 (.t 9)⟩,⟨some 96,some (94,false),.load 1 false (.t 95)⟩,⟨some 97,some (94,false),.bin .eql (.t 96) (.c (Z 0))⟩,c6 98 94 97] [[],[],[],[],[],[],[],[],[],[],[],[],[],[],[],[],[],[],[],[],[],[],[],[],[],[],[],[],[],[],[],[],[]] (aQ 98 (.exit 5) .skip)) (O [F 99 0,aY 100 4 9,(b2 101 PX 99 100),(ar 10 (.alloc 277010 [(Z 0),.nil,(Z 0),.nil])),aT 4 10 101] (eT [aI 103 0 6,aG 104 1 103,aI 105 0 9,aG 106 1 105,bI 107 4 104 106,aY 108 4 107,aY 109 4 10,(b2 110 x0 108 109),F 102 110,a6 111 0 102,a6 112 1 102,(ar 11 (.alloc 277011 [(Z 0),.nil,(Z 0),.nil])),aT 4 11 111,F 12 112] [[],[],[],[],[],[],[],[],[],[],[],[1,3,5,6],[],[]] (eT [aY 114 4 10,F 115 0,e2 116 115,aI 117 1 116,aG 118 1 117,aI 119 0 9,aG 120 1 119,aI 121 2 9,aG 122 1 121,(q9 123 r6 118 120 122),(dT 124 q8 123),(b2 125 CS 114 124),F 113 125,a6 126 0 113,a6 127 1 113,(ar 13 (.alloc 277013 [(Z 0),.nil,(Z 0),.nil])),aT 4 13 126,F 14 127] [[],[],[],[],[],[],[],[],[],[],[],[],[],[],[],[0,4,6,8],[],[]] (O [aI 129 1 6,aY 130 4 129,aY 131 4 13,(b2 132 x0 130 131),F 128 132,a6 133 0 128,a6 134 1 128,(ar 15 (.alloc 277015 [(Z 0),.nil,(Z 0),.nil])),aT 4 15 133,F 16 134] (O [F 135 0,F 136 0,e2 137 136,aI 138 4 137,aG 139 1 138,F 140 139,⟨some 141,some (140,false),.b8 (.t 12)⟩,⟨some 142,some (140,false),.bin .neq (.t 141) (.c (Z 0))⟩,c6 143 140 142,F 144 143,⟨some 145,some (144,false),.b8 (.t 14)⟩,⟨some 146,some (144,false),.bin .neq (.t 145) (.c (Z 0))⟩,c6 147 144 146,F 148 147,⟨some 149,some (148,false),.b8 (.t 16)⟩,⟨some 150,some (148,false),.bin .neq (.t 149) (.c (Z 0))⟩,c6 151 148 150,e2 152 135,aI 153 4 152,aT 1 153 151] (O [aI 154 0 6,aG 155 1 154,aI 156 0 9,aG 157 1 156,aY 158 4 11,bI 159 4 155 157,aT 4 159 158] (.ops [aY 160 4 15,aI 161 1 6,aT 4 161 160])))))))))) (.ops [F 57 8,a7 58 .add 57 1,F 8 58])))))) (.ghost (.Eh (.t 6) 0) (.ops [F 162 4,aY 163 5 6,(ar 164 (.eL 277164 false [.nil,(Z 0),.nil,(Z 0),.nil] 5 1 [(0,5,(.t 163))])),(ar 165 (.app 277165 [.nil,(Z 0),.nil,(Z 0),.nil] 88 (.t 162) (.t 164))),F 4 165]))))))) (.ops [F 27 5,a7 28 .add 27 1,F 5 28]))))))) (.seq (O [F 166 0,e2 167 166,aI 168 4 167,aG 169 1 168] (aQ 169 (O [ec 2] .ret) .skip)) (.seq (.ghost (.freeze 4) (.ops [F 171 4,F 172 3,(b2 173 VL 171 172),F 170 173,a6 174 0 170,a6 175 1 170,F 17 174,F 18 175])) (O [F 176 0,F 177 0,e2 178 177,aI 179 4 178,aG 180 1 179,F 181 180,⟨some 182,some (181,false),.b8 (.t 18)⟩,⟨some 183,some (181,false),.bin .neq (.t 182) (.c (Z 0))⟩,c6 184 181 183,e2 185 176,aI 186 4 185,aT 1 186 184] (O [F 187 17,F 2 187] .ret))))))))
def Sl:b1:=cq 53 2 [.t 4] (O [ba 4 0] (O [F 8 0,e2 9 8,aI 10 0 9,aG 11 1 10,F 12 1,bI 13 1 11 12,aG 14 1 13,F 5 14] (.seq (O [ba 6 0] (.block 0 (.loop  (.seq (O [F 15 6,F 16 0,e2 17 16,aI 18 1 17,aG 19 1 18,cC 20 19,bA 21 .lss 15 20] (aQ 21 .skip (.exit 0))) (.seq (.block 1 (O [F 24 0,e2 25 24,aI 26 1 25,aG 27 1 26,F 28 6,bI 29 4 27 28,aY 30 4 29,(ar 7 (.alloc 280007 [(Z 0),(Z 0),(Z 0),(Z 0)])),aT 4 7 30] (eT [aI 31 1 7,aG 32 1 31,F 33 1,bA 34 .eql 32 33,F 35 34,⟨some 36,some (35,true),.dQ 2 (.t 7)⟩,⟨some 37,some (35,true),.load 1 false (.t 36)⟩,⟨some 38,some (35,true),.b8 (.t 0)⟩,⟨some 39,some (35,true),.n7 (.t 38)⟩,⟨some 40,some (35,true),.dQ 2 (.t 39)⟩,⟨some 41,some (35,true),.load 1 false (.t 40)⟩,⟨some 42,some (35,true),.dQ 0 (.t 7)⟩,⟨some 43,some (35,true),.load 1 false (.t 42)⟩,⟨some 44,some (35,true),.ij 1 (.t 41) (.t 43)⟩,⟨some 45,some (35,true),.load 1 false (.t 44)⟩,⟨some 46,some (35,true),.bin .lss (.t 37) (.t 45)⟩,hF 47 35 46] af9 (aQ 47 (.ops [F 48 5,aI 49 3 7,aG 50 1 49,bA 51 .add 48 50,F 5 51]) .skip)))) (.ops [F 22 6,a7 23 .add 22 1,F 6 23])))))) (O [F 52 5,F 4 52] .ret))))
def Sm:b1:=cq 45 2 [.cell 4 4 true] (O [dB 3 281003 1,(ar 4 (.alloc 281004 [(Z 0),.nil,(Z 0),.nil]))] (eT [aI 8 3 3,aG 9 1 8,F 10 0,e2 11 10,aI 12 1 11,aG 13 1 12,aI 14 0 3,aG 15 1 14,aI 16 2 3,aG 17 1 16,a7 18 .add 17 1,(q9 19 r6 13 15 18),F 20 0,e2 21 20,aI 22 1 21,aG 23 1 22,aI 24 0 3,aG 25 1 24,aI 26 2 3,aG 27 1 26,(q9 28 r6 23 25 27),bA 29 .sub 19 28,(b2 30 wG 9 29),F 7 30,a6 31 0 7,a6 32 1 7,(ar 5 (.alloc 281005 [(Z 0),.nil,(Z 0),.nil])),aT 4 5 31,F 6 32] [[],[],[],[],[],[],[],[],[],[],[],[],[],[],[],[],[],[],[],[],[],[],[],[],[],[],[1,5,7,9,15,17,19],[],[]] (O [F 33 0,F 34 0,e2 35 34,aI 36 4 35,aG 37 1 36,F 38 37,⟨some 39,some (38,false),.b8 (.t 6)⟩,⟨some 40,some (38,false),.bin .neq (.t 39) (.c (Z 0))⟩,c6 41 38 40,e2 42 33,aI 43 4 42,aT 1 43 41] (O [aY 44 4 5,aT 4 4 44] .ret))))
def abt:b1:=cq 108 2 [.t 4,.t 5] (O [dB 2 279002 0,ec 4,ba 5 0] (.seq (O [aY 16 4 2,(dT 17 qy 16),fu 18 17,F 19 18,⟨some 20,some (19,false),.b8 (.t 1)⟩,⟨some 21,some (19,false),.call We [(.t 20)]⟩,⟨some 22,some (19,false),.un .not (.t 21)⟩,c6 23 19 22] (aQ 23 (O [ec 4,ba 5 1] .ret) .skip)) (.seq (O [aI 24 0 2,aI 25 0 24,aG 26 1 25,a7 27 .lss 26 0] (aQ 27 (O [ec 4,ba 5 1] .ret) .skip)) (O [F 28 1,cC 29 28,(ar 30 (.mx 279030 [(Z 0),.nil,(Z 0),.nil] 64 (.t 29) (.t 29))),F 6 30] (.seq (O [ba 7 0] (.block 0 (.loop  (.seq (O [F 31 7,F 32 1,cC 33 32,bA 34 .lss 31 33] (aQ 34 .skip (.exit 0))) (.seq (.block 1 (O [F 38 1,F 39 1,F 40 7,bI 41 4 39 40,aI 42 2 41,aG 43 1 42,(b2 44 Wf 38 43),F 37 44,a6 45 0 37,a6 46 1 37,F 8 45,F 9 46] (eT [aY 48 4 2,F 49 8,(ar 50 (.call CU [(.t 49),(.c (Z 1))])),(b2 51 x0 48 50),F 47 51,a6 52 0 47,a6 53 1 47,(ar 10 (.alloc 279010 [(Z 0),.nil,(Z 0),.nil])),aT 4 10 52,F 11 53] [[],[],[],[],[],[],[],[0],[],[]] (.seq (O [F 54 11,a7 55 .neq 54 0] (aQ 55 (O [F 56 11,ec 4,F 5 56] .ret) .skip)) (.seq (O [aI 57 0 10,aI 58 0 57,aG 59 1 58,a7 60 .leq 59 0] (aQ 60 (O [F 61 6,F 62 7,(ar 63 (.call CU [(.c (Z 0)),(.c (Z 1))])),bI 64 4 61 62,aT 4 64 63] (.exit 1)) .skip)) (.seq (eT [aY 65 4 10,F 66 9,(ar 67 (.call CU [(.t 66),(.c (Z 1))])),(b2 68 wM 65 67),a7 69 .geq 68 0] af7 (aQ 69 (O [F 70 6,F 71 7,F 72 1,F 73 7,bI 74 4 72 73,aI 75 3 74,aG 76 1 75,(ar 77 (.call CU [(.t 76),(.c (Z 1))])),bI 78 4 70 71,aT 4 78 77] (.exit 1)) .skip)) (eT [F 80 1,F 81 7,bI 82 4 80 81,aI 83 3 82,aG 84 1 83,(ar 85 (.call CU [(.t 84),(.c (Z 1))])),aY 86 4 10,(b2 87 CS 85 86),F 79 87,a6 88 0 79,a6 89 1 79,(ar 12 (.alloc 279012 [(Z 0),.nil,(Z 0),.nil])),aT 4 12 88,F 13 89] [[],[],[],[],[],[],[],[],[],[],[],[4,6],[],[]] (.seq (O [F 90 13,a7 91 .neq 90 0] (aQ 91 (O [F 92 13,ec 4,F 5 92] .ret) .skip)) (eT [aY 94 4 12,F 95 9,(ar 96 (.call CU [(.t 95),(.c (Z 1))])),(b2 97 HU 94 96),F 93 97,a6 98 0 93,a6 99 1 93,(ar 14 (.alloc 279014 [(Z 0),.nil,(Z 0),.nil])),aT 4 14 98,F 15 99] [[],[],[],[],[],[],[],[0],[],[]] (.seq (O [F 100 15,a7 101 .neq 100 0] (aQ 101 (O [F 102 15,ec 4,F 5 102] .ret) .skip)) (.ops [F 103 6,F 104 7,aY 105 4 14,bI 106 4 103 104,aT 4 106 105]))))))))))) (.ops [F 35 7,a7 36 .add 35 1,F 7 36])))))) (.seq (.ghost (.freeze 6) (.ops [F 107 6,F 4 107,ba 5 0])) .ret))))))
def abu:b1:=cq 63 1 [.t 2] (O [dd 2 false] (.seq (O [F 5 0,cC 6 5,a7 7 .gtr 6 2000] (aQ 7 (O [dd 2 false] .ret) .skip)) (.seq (O [ba 3 0] (.block 0 (.loop  (.seq (O [F 8 3,F 9 0,cC 10 9,bA 11 .lss 8 10] (aQ 11 .skip (.exit 0))) (.seq (.block 1 (O [F 14 0,F 15 3,bI 16 4 14 15,aY 17 4 16,(ar 4 (.alloc 282004 [(Z 0),(Z 0),(Z 0),(Z 0)])),aT 4 4 17] (.seq (O [aI 18 0 4,aG 19 1 18,a7 20 .lss 19 0,F 21 20,⟨some 22,some (21,false),.dQ 0 (.t 4)⟩,⟨some 23,some (21,false),.load 1 false (.t 22)⟩,⟨some 24,some (21,false),.bin .geq (.t 23) (.c (Z 60))⟩,c6 25 21 24,F 26 25,⟨some 27,some (26,false),.dQ 1 (.t 4)⟩,⟨some 28,some (26,false),.load 1 false (.t 27)⟩,⟨some 29,some (26,false),.bin .lss (.t 28) (.c (.I (.int .i64 (-1))))⟩,c6 30 26 29,F 31 30,⟨some 32,some (31,false),.dQ 1 (.t 4)⟩,⟨some 33,some (31,false),.load 1 false (.t 32)⟩,⟨some 34,some (31,false),.bin .geq (.t 33) (.c (Z 60))⟩,c6 35 31 34,F 36 35,⟨some 37,some (36,false),.dQ 2 (.t 4)⟩,⟨some 38,some (36,false),.load 1 false (.t 37)⟩,⟨some 39,some (36,false),.bin .lss (.t 38) (.c (Z 0))⟩,c6 40 36 39,F 41 40,⟨some 42,some (41,false),.dQ 2 (.t 4)⟩,⟨some 43,some (41,false),.load 1 false (.t 42)⟩,⟨some 44,some (41,false),.bin .geq (.t 43) (.c (Z 10))⟩,c6 45 41 44,F 46 45,⟨some 47,some (46,false),.dQ 3 (.t 4)⟩,⟨some 48,some (46,false),.load 1 false (.t 47)⟩,⟨some 49,some (46,false),.bin .lss (.t 48) (.c (Z 0))⟩,c6 50 46 49,F 51 50,⟨some 52,some (51,false),.dQ 3 (.t 4)⟩,⟨some 53,some (51,false),.load 1 false (.t 52)⟩,⟨some 54,some (51,false),.bin .gtr (.t 53) (.c (Z 1000000000000000))⟩,c6 55 51 54] (aQ 55 (O [dd 2 false] .ret) .skip)) (eT [aI 56 0 4,aG 57 1 56,F 58 0,(ar 59 (.ij 4 (.t 58) (.c (Z 0)))),aI 60 0 59,aG 61 1 60,bA 62 .neq 57 61] Wh (aQ 62 (O [dd 2 false] .ret) .skip))))) (.ops [F 12 3,a7 13 .add 12 1,F 3 13])))))) (O [dd 2 true] .ret))))
def abv:b1:=cq 45 2 [.t 4,.t 5] (O [ba 4 0,ba 5 0] (O [ba 6 0] (O [ba 7 0] (.seq (O [ba 8 0] (.block 0 (.loop  (.seq (O [F 9 8,F 10 0,cC 11 10,bA 12 .lss 9 11] (aQ 12 .skip (.exit 0))) (.seq (.block 1 (.seq (O [F 15 0,F 16 8,bI 17 4 15 16,aI 18 2 17,aG 19 1 18,F 20 1,bA 21 .lss 19 20] (aQ 21 (.ops [F 22 6,F 23 0,F 24 8,bI 25 4 23 24,aI 26 3 25,aG 27 1 26,bA 28 .add 22 27,F 6 28]) .skip)) (O [F 29 0,F 30 8,bI 31 4 29 30,aI 32 2 31,aG 33 1 32,F 34 1,bA 35 .eql 33 34] (aQ 35 (.ops [F 36 7,F 37 0,F 38 8,bI 39 4 37 38,aI 40 3 39,aG 41 1 40,bA 42 .add 36 41,F 7 42]) .skip)))) (.ops [F 13 8,a7 14 .add 13 1,F 8 14])))))) (O [F 43 6,F 44 7,F 4 43,F 5 44] .ret)))))
def abw:b1:=cq 14 2 [.cell 4 4 true] (O [(ar 4 (.alloc 284004 [(Z 0),.nil,(Z 0),.nil]))] (O [F 8 0,F 9 1,(b2 10 wG 8 9),F 7 10,a6 11 0 7,a6 12 1 7,(ar 5 (.alloc 284005 [(Z 0),.nil,(Z 0),.nil])),aT 4 5 11,F 6 12] (O [aY 13 4 5,aT 4 4 13] .ret)))
def abx:b1:=cq 46 1 [.t 2] (O [dd 2 false] (.seq (O [F 5 0,cC 6 5,ba 7 0] (.block 0 (.loop  (O [bA 8 .lss 7 6] (.seq (aQ 8 .skip (.exit 0)) (.seq (.block 1 (O [bI 9 4 5 7,aY 10 4 9,(ar 4 (.alloc 240004 [(Z 0),(Z 0),(Z 0),(Z 0)])),aT 4 4 10] (eT [aI 11 0 4,aG 12 1 11,(ar 13 (.call HW [(.t 12),(.c (Z 0)),(.c (Z 59))])),fu 14 13,F 15 14,⟨some 16,some (15,false),.dQ 1 (.t 4)⟩,⟨some 17,some (15,false),.load 1 false (.t 16)⟩,⟨some 18,some (15,false),.call HW [(.t 17),(.c (.I (.int .i64 (-1)))),(.c (Z 59))]⟩,⟨some 19,some (15,false),.un .not (.t 18)⟩,c6 20 15 19,F 21 20,⟨some 22,some (21,false),.dQ 2 (.t 4)⟩,⟨some 23,some (21,false),.load 1 false (.t 22)⟩,⟨some 24,some (21,false),.call HW [(.t 23),(.c (Z 0)),(.c (Z 9))]⟩,⟨some 25,some (21,false),.un .not (.t 24)⟩,c6 26 21 25,F 27 26,⟨some 28,some (27,false),.dQ 3 (.t 4)⟩,⟨some 29,some (27,false),.load 1 false (.t 28)⟩,⟨some 30,some (27,false),.call HW [(.t 29),(.c (Z 0)),(.c (Z 1000000000000000))]⟩,⟨some 31,some (27,false),.un .not (.t 30)⟩,c6 32 27 31,F 33 32,⟨some 34,some (33,false),.dQ 0 (.t 4)⟩,⟨some 35,some (33,false),.load 1 false (.t 34)⟩,⟨some 36,some (33,false),.b8 (.t 0)⟩,⟨some 37,some (33,false),.ij 4 (.t 36) (.c (Z 0))⟩,⟨some 38,some (33,false),.dQ 0 (.t 37)⟩,⟨some 39,some (33,false),.load 1 false (.t 38)⟩,⟨some 40,some (33,false),.bin .neq (.t 35) (.t 39)⟩,c6 41 33 40] [[],[],[],[],[],[],[],[],[],[],[],[],[],[],[],[],[],[],[],[],[],[],[],[],[],[],[],[],[],[],[]] (aQ 41 (O [dd 2 false] .ret) .skip)))) (.ops [a7 42 .add 7 1,F 7 42]))))))) (O [F 43 0,cC 44 43,a7 45 .leq 44 2000,F 2 45] .ret)))
def aby:b1:=cq 11 1 [.cell 2 4 true] (O [(ar 2 (.alloc 241002 [(Z 0),.nil,(Z 0),.nil]))] (O [F 6 0,(ar 7 (.call zx [(.t 6),(.c (Z 1))])),F 5 7,a6 8 0 5,a6 9 1 5,(ar 3 (.alloc 241003 [(Z 0),.nil,(Z 0),.nil])),aT 4 3 8,F 4 9] (O [aY 10 4 3,aT 4 2 10] .ret)))
def Gn:b1:=cq 118 2 [.t 4,.t 5] (O [dB 2 249002 0,ec 4,ba 5 0] (.seq (eT [aY 19 4 2,(dT 20 nR 19),fu 21 20,F 22 21,⟨some 23,some (22,false),.load 4 true (.t 2)⟩,⟨some 24,some (22,false),.call zy [(.c (Z 0))]⟩,⟨some 25,some (22,false),.call u9 [(.t 23),(.t 24)]⟩,⟨some 26,some (22,false),.bin .lss (.t 25) (.c (Z 0))⟩,c6 27 22 26,F 28 27,⟨some 29,some (28,false),.b8 (.t 1)⟩,⟨some 30,some (28,false),.call V1 [(.t 29)]⟩,⟨some 31,some (28,false),.un .not (.t 30)⟩,c6 32 28 31] LQ (aQ 32 (O [ec 4,ba 5 1] .ret) .skip)) (O [F 33 1,cC 34 33,(ar 35 (.mx 249035 [(Z 0),.nil,(Z 0),.nil] 64 (.t 34) (.t 34))),F 6 35] (O [aY 36 4 2,(ar 7 (.alloc 249007 [(Z 0),.nil,(Z 0),.nil])),aT 4 7 36] (.seq (O [ba 37 0] (.block 0 (.loop  (O [a7 38 .lss 37 10] (.seq (aQ 38 .skip (.exit 0)) (.seq (.block 1 (O [F 39 37,F 8 39] (O [ba 9 0] (.seq (O [F 40 1,cC 41 40,ba 42 0] (.block 2 (.loop  (O [bA 43 .lss 42 41] (.seq (aQ 43 .skip (.exit 2)) (.seq (.block 3 (O [bI 44 4 40 42,aY 45 4 44,(ar 11 (.alloc 249011 [(Z 0),(Z 0),(Z 0),(Z 0)])),aT 4 11 45] (O [aI 46 2 11,aG 47 1 46,F 48 8,bA 49 .eql 47 48] (aQ 49 (.ops [F 50 9,aI 51 3 11,aG 52 1 51,bA 53 .add 50 52,F 9 53]) .skip)))) (.ops [a7 54 .add 42 1,F 42 54]))))))) (eT [aY 55 4 7,F 56 9,(dT 57 zy 56),(b2 58 u9 55 57),a7 59 .geq 58 0,F 12 59] Wg (.seq (O [F 60 1,cC 61 60,ba 62 0] (.block 4 (.loop  (O [bA 63 .lss 62 61] (.seq (aQ 63 .skip (.exit 4)) (.seq (.block 5 (O [F 64 62,bI 65 4 60 62,aY 66 4 65,(ar 14 (.alloc 249014 [(Z 0),(Z 0),(Z 0),(Z 0)])),F 13 64,aT 4 14 66] (.seq (O [aI 67 2 14,aG 68 1 67,F 69 8,bA 70 .neq 68 69] (aQ 70 (.exit 5) .skip)) (O [F 71 6,F 72 13,aI 73 3 14,aG 74 1 73,(dT 75 zy 74),bI 76 4 71 72,aT 4 76 75] (.seq (O [F 77 12] (aQ 77 (.exit 5) .skip)) (eT [aI 79 3 14,aG 80 1 79,(dT 81 zy 80),aY 82 4 7,(b2 83 xZ 81 82),F 78 83,a6 84 0 78,a6 85 1 78,(ar 15 (.alloc 249015 [(Z 0),.nil,(Z 0),.nil])),aT 4 15 84,F 16 85] [[],[],[],[],[],[],[],[],[1,3],[],[]] (.seq (O [F 86 16,a7 87 .eql 86 0] (aQ 87 (.my [F 89 6,F 90 13,aY 91 4 15,F 92 9,(dT 93 zy 92),(b2 94 EU 91 93),F 88 94,a6 95 0 88,a6 96 1 88,bI 97 4 89 90,aT 4 97 95,F 16 96] af8) .skip)) (O [F 98 16,a7 99 .neq 98 0] (aQ 99 (O [F 100 16,ec 4,F 5 100] .ret) .skip))))))))) (.ops [a7 101 .add 62 1,F 62 101]))))))) (.seq (O [F 102 12,fu 103 102] (aQ 103 (O [(ar 104 (.call zy [(.c (Z 0))])),aT 4 7 104] (.exit 1)) .skip)) (eT [aY 106 4 7,F 107 9,(dT 108 zy 107),(b2 109 wH 106 108),F 105 109,a6 110 0 105,a6 111 1 105,(ar 17 (.alloc 249017 [(Z 0),.nil,(Z 0),.nil])),aT 4 17 110,F 18 111] [[],[],[],[],[],[],[],[0],[],[]] (.seq (O [F 112 18,a7 113 .neq 112 0] (aQ 113 (O [F 114 18,ec 4,F 5 114] .ret) .skip)) (.ops [aY 115 4 17,aT 4 7 115])))))))))) (.ops [a7 116 .add 37 1,F 37 116]))))))) (.seq (.ghost (.freeze 6) (.ops [F 117 6,F 4 117,ba 5 0])) .ret))))))
def abz:b1:=cq 15 3 [.t 6] (O [dd 6 false] (O [F 7 0,F 8 1,bA 9 .geq 7 8,F 10 9,⟨some 11,some (10,true),.b8 (.t 0)⟩,⟨some 12,some (10,true),.b8 (.t 2)⟩,⟨some 13,some (10,true),.bin .leq (.t 11) (.t 12)⟩,hF 14 10 13,F 6 14] .ret))

def abA:b1:=cq 62 0 [.t 0] (O [dd 0 false] (O [(ar 10 (.eL 220010 false [(Z 0),(Z 0)] 1 2 [(0,1,(.c (Z 10))),(1,1,(.c (Z 0)))])),(ar 11 (.call HV [])),(ar 12 (.call CT [(.t 10),(.t 11),(.c (Z 0))])),F 9 12,a6 13 0 9,a6 14 1 9,(ar 1 (.alloc 220001 [(Z 0),.nil,(Z 0),.nil])),aT 4 1 13,F 2 14] (O [(ar 16 (.eL 220016 false [(Z 0),(Z 0)] 1 2 [(0,1,(.c (Z 10))),(1,1,(.c (Z 0)))])),(ar 17 (.call HV [])),(ar 18 (.call CT [(.t 16),(.t 17),(.c (Z 1))])),F 15 18,a6 19 0 15,a6 20 1 15,(ar 3 (.alloc 220003 [(Z 0),.nil,(Z 0),.nil])),aT 4 3 19,F 4 20] (O [(ar 22 (.eL 220022 false [(Z 0),(Z 0)] 1 2 [(0,1,(.c (Z 30))),(1,1,(.c (Z 0)))])),(ar 23 (.call HV [])),(ar 24 (.call CT [(.t 22),(.t 23),(.c (Z 1))])),F 21 24,a6 25 0 21,a6 26 1 21,(ar 5 (.alloc 220005 [(Z 0),.nil,(Z 0),.nil])),aT 4 5 25,F 6 26] (O [(ar 28 (.eL 220028 false [(Z 0),(Z 0)] 1 2 [(0,1,(.c (Z 10))),(1,1,(.c (Z 0)))])),(ar 29 (.call HV [])),(ar 30 (.call CT [(.t 28),(.t 29),(.c (Z 2))])),F 27 30,a6 31 0 27,a6 32 1 27,(ar 7 (.alloc 220007 [(Z 0),.nil,(Z 0),.nil])),aT 4 7 31,F 8 32] (eT [aY 33 4 1,(ar 34 (.call LD [(.c (Z 20))])),(b2 35 EP 33 34),F 36 35,⟨some 37,some (36,true),.b8 (.t 2)⟩,⟨some 38,some (36,true),.bin .eql (.t 37) (.c (Z 0))⟩,hF 39 36 38,F 40 39,⟨some 41,some (40,true),.load 4 true (.t 3)⟩,⟨some 42,some (40,true),.call LD [(.c (Z 15))]⟩,⟨some 43,some (40,true),.call EP [(.t 41),(.t 42)]⟩,hF 44 40 43,F 45 44,⟨some 46,some (45,true),.b8 (.t 4)⟩,⟨some 47,some (45,true),.bin .eql (.t 46) (.c (Z 0))⟩,hF 48 45 47,F 49 48,⟨some 50,some (49,true),.load 4 true (.t 5)⟩,⟨some 51,some (49,true),.call LD [(.c (Z 0))]⟩,⟨some 52,some (49,true),.call EP [(.t 50),(.t 51)]⟩,hF 53 49 52,F 54 53,⟨some 55,some (54,true),.b8 (.t 6)⟩,⟨some 56,some (54,true),.bin .eql (.t 55) (.c (Z 0))⟩,hF 57 54 56,F 58 57,⟨some 59,some (58,true),.b8 (.t 8)⟩,⟨some 60,some (58,true),.bin .eql (.t 59) (.c (Z 1))⟩,hF 61 58 60,F 0 61] agb .ret))))))
def abB:b1:=cq 11 1 [.cell 2 4 true] (O [(ar 2 (.alloc 223002 [(Z 0),.nil,(Z 0),.nil]))] (O [F 6 0,(ar 7 (.call wG [(.t 6),(.c (Z 1))])),F 5 7,a6 8 0 5,a6 9 1 5,(ar 3 (.alloc 223003 [(Z 0),.nil,(Z 0),.nil])),aT 4 3 8,F 4 9] (O [aY 10 4 3,aT 4 2 10] .ret)))
def abC:b1:=cq 4 0 [.t 0] (O [ec 0] (O [(ar 1 (.build [(Z 0),(Z 0),(Z 0),(Z 0)] [(0,1,(.c (Z 0))),(1,1,(.c (Z 1))),(3,1,(.c (Z 30)))])),(ar 2 (.build [(Z 0),(Z 0),(Z 0),(Z 0)] [(0,1,(.c (Z 1))),(1,1,(.c (.I (.int .i64 (-1))))),(3,1,(.c (Z 25)))])),(ar 3 (.eL 237003 false [(Z 0),(Z 0),(Z 0),(Z 0),(Z 0),(Z 0),(Z 0),(Z 0)] 4 2 [(0,4,(.t 1)),(4,4,(.t 2))])),F 0 3] .ret))
def abD:b1:=cq 43 3 [.t 6] (O [dd 6 false] (O [(ar 12 (.call VV [])),F 7 12] (.seq (O [F 13 0,F 14 1,(b2 15 VT 13 14),fu 16 15] (aQ 16 (O [F 17 7,F 6 17] .ret) .skip)) (O [F 19 0,F 20 1,F 21 2,(q9 22 CT 19 20 21),F 18 22,a6 23 0 18,a6 24 1 18,(ar 8 (.alloc 258008 [(Z 0),.nil,(Z 0),.nil])),aT 4 8 23,F 9 24] (O [F 26 0,F 27 1,F 28 2,(q9 29 V8 26 27 28),F 25 29,a6 30 0 25,a6 31 1 25,(ar 10 (.alloc 258010 [(Z 0),.nil,(Z 0),.nil])),aT 4 10 30,F 11 31] (O [F 32 7,F 33 32,⟨some 34,some (33,true),.load 4 true (.t 8)⟩,⟨some 35,some (33,true),.load 4 true (.t 10)⟩,⟨some 36,some (33,true),.call EP [(.t 34),(.t 35)]⟩,hF 37 33 36,F 38 37,⟨some 39,some (38,true),.b8 (.t 9)⟩,⟨some 40,some (38,true),.b8 (.t 11)⟩,⟨some 41,some (38,true),.bin .eql (.t 39) (.t 40)⟩,hF 42 38 41,F 6 42] .ret))))))
def bw (c:aB):List Data:=[.int .i64 c.1,.int .i64 c.2.1,.int .i64 c.2.2.1,.int .i64 c.2.2.2]
theorem yM (c:aB):(bw c).length=4:=rfl
theorem NN (c:aB):((bw c).map R.I).all R.one=true:=rfl
theorem sA:∀a b:aB,bw a=bw b->a=b:=by
 rintro⟨cE,cS,dU,eN⟩ ⟨c0,et,gN,hz⟩ h;simp only[bw,bf,Data.int.injEq,true_and,and_true] at h;obtain⟨rfl,rfl,rfl,rfl⟩:=h
 rfl
theorem NO {cs:List aB}{i:Nat}{c:aB}(h:cs[i]?=some c)(aR:aB->Int):cl (cs.take (i+1)) aR=cl (cs.take i) aR+aR c:=by
 rw[g2,h,Nt];simp[cl]
def sB (cs:List aB):Prop:=D cs<=2000/\∀c∈cs,0<=c.2.2.2/\c.2.2.2<=1000000000000000
theorem sB.sum {cs:List aB}(h:sB cs)(p:aB->Prop)[DecidablePred p](i:Nat):0<=cl (cs.take i) (λc=>if p c then c.2.2.2 else 0)/\cl (cs.take i) (λc=>if p c then c.2.2.2 else 0)<=2000000000000000000:=by
 have G:=Jo (cs:=cs.take i) (aR:=λc=>if p c then c.2.2.2 else 0) (B:=1000000000000000) (by omega) λc H=>by
  have:=h.2 c (tM H)
  try dsimp only
  split<;>omega
 have J:=h.1;have af:(cs.take i).length<=D cs:=by rw[fU];omega
 omega
theorem Ad {E:List Int}{cs:List aB}(h:g9 E cs=true):sB cs :=
 ⟨(hB.1 h).2.1,λc H=>⟨((hB.1 h).2.2.2 c H).2.2.2.2.2.2.1,((hB.1 h).2.2.2 c H).2.2.2.2.2.2.2⟩⟩
theorem Gp {n:Int}(h:df n):gT (bd n) (bd 1)=(aq (n:Rat),0):=by
 rw[Bu (uh h) (by decide +kernel) (by decide),R9,show ((1:Int):Rat)=1 from rfl,show (n:Rat)/1=n by grind]
def yN:=cy x2 λ(n:Int)=>cT (df n) (.same (.agg (aw (aq (n:Rat)))))
@[go_sem] theorem Gq (n:Int)(H:df n):yN [.int .i64 n]=some (.same (.agg (aw (aq (n:Rat))))):=(cF Bd n).trans (cY H _)
theorem ayE (T:bm)(nG:T wG=aO Dn)(n:Int)(H:df n):WP T abo (.same (.agg (aw (aq (n:Rat))))) [.I (.int .i64 n)]:=by
 refine cH ?_;simp only[abo];have G:df 1:=by unfold df;omega
 have h:=Gp H;generalize aq (n:Rat)=aR at *;obtain⟨⟨a,b⟩,⟨c,d⟩⟩:=aR;simp only[go_sem,go_sem_proc,nG,H,G,h,cQ,aw];repeat' (first|refine al ?_ ?_|fail)<;>intro h<;>simp only[h,go_sem,go_sem_proc,nG,H,G,h,cQ,aw]
def xk:=cy x2 λ(n:Int)=>cT (df n) (.same (.agg (aw (aq (n:Rat)))))
@[go_sem] theorem DT (n:Int)(H:df n):xk [.int .i64 n]=some (.same (.agg (aw (aq (n:Rat))))):=(cF Bd n).trans (cY H _)
theorem ayF (T:bm)(nZ:T zx=aO Fx)(n:Int)(H:df n):WP T Yc (.same (.agg (aw (aq (n:Rat))))) [.I (.int .i64 n)]:=by
 refine cH ?_;simp only[Yc];have G:df 1:=by unfold df;omega
 have h:=Gp H;generalize aq (n:Rat)=aR at *;obtain⟨⟨a,b⟩,⟨c,d⟩⟩:=aR;simp only[go_sem,go_sem_proc,nZ,H,G,h,cQ,aw];repeat' (first|refine al ?_ ?_|fail)<;>intro h<;>simp only[h,go_sem,go_sem_proc,nZ,H,G,h,cQ,aw]
def NP:=cy x2 λ(n:Int)=>cT (df n) (.same (.agg (aw (aq (n:Rat)))))
@[go_sem] theorem ayG (n:Int)(H:df n):NP [.int .i64 n]=some (.same (.agg (aw (aq (n:Rat))))):=(cF Bd n).trans (cY H _)
theorem ayH (T:bm)(nZ:T zx=aO Fx)(n:Int)(H:df n):WP T aby (.same (.agg (aw (aq (n:Rat))))) [.I (.int .i64 n)]:=by
 refine cH ?_;simp only[aby];have G:df 1:=by unfold df;omega
 have h:=Gp H;generalize aq (n:Rat)=aR at *;obtain⟨⟨a,b⟩,⟨c,d⟩⟩:=aR;simp only[go_sem,go_sem_proc,nZ,H,G,h,cQ,aw];repeat' (first|refine al ?_ ?_|fail)<;>intro h<;>simp only[h,go_sem,go_sem_proc,nZ,H,G,h,cQ,aw]
def Sn:=cy x2 λ(n:Int)=>cT (df n) (.same (.agg (aw (aq (n:Rat)))))
@[go_sem] theorem ayI (n:Int)(H:df n):Sn [.int .i64 n]=some (.same (.agg (aw (aq (n:Rat))))):=(cF Bd n).trans (cY H _)
theorem ayJ (T:bm)(nG:T wG=aO Dn)(n:Int)(H:df n):WP T abB (.same (.agg (aw (aq (n:Rat))))) [.I (.int .i64 n)]:=by
 refine cH ?_;simp only[abB];have G:df 1:=by unfold df;omega
 have h:=Gp H;generalize aq (n:Rat)=aR at *;obtain⟨⟨a,b⟩,⟨c,d⟩⟩:=aR;simp only[go_sem,go_sem_proc,nG,H,G,h,cQ,aw];repeat' (first|refine al ?_ ?_|fail)<;>intro h<;>simp only[h,go_sem,go_sem_proc,nG,H,G,h,cQ,aw]
def So:=cy H3 λ(p,q)=>cT (df p/\df q) (.same (.agg (aw (gT (bd p) (bd q)).1)))
@[go_sem] theorem ayK (p:Int)(q:Int)(H:df p/\df q):So [.int .i64 p,.int .i64 q]=some (.same (.agg (aw (gT (bd p) (bd q)).1))):=(cF P3 (p,q)).trans (cY H _)
theorem ayL (T:bm)(nG:T wG=aO Dn)(p:Int)(q:Int)(H:df p/\df q):WP T abw (.same (.agg (aw (gT (bd p) (bd q)).1))) [.I (.int .i64 p),.I (.int .i64 q)]:=by
 refine cH ?_;simp only[abw];obtain⟨G,J⟩:=H;generalize dw:gT (bd p) (bd q)=aR at *;obtain⟨⟨⟨a,b⟩,⟨c,d⟩⟩,e⟩:=aR;refine a1 ?_;repeat' (intro h<;>simp only[h,go_sem,go_sem_proc,nG,G,J,dw,cQ,aw]<;>try refine al ?_ ?_)
abbrev abE:(List aB)×Int×Int->List Data:=λ(cs,who,r)=>[.Y (cs.map bw),.int .i64 who,.int .i64 r]
def yO:=cy abE λ(cs,who,r)=>cT (sB cs) (.same (.int .i64 (b0 cs who r)))
theorem ayM:∀a b,abE a=abE b->a=b:=by
  rintro⟨DU,Sp,eS⟩ ⟨u1,Sq,eO⟩ h;simp only[bf,Data.int.injEq,Data.Y.injEq] at h;exact ei (map_inj sA _ _ h.1) (ei h.2.1.2 h.2.2.1.2)
@[go_sem] theorem Sr (cs:List aB)(who:Int)(r:Int)(H:sB cs):yO [.Y (cs.map bw),.int .i64 who,.int .i64 r]=some (.same (.int .i64 (b0 cs who r))):=(cF ayM (cs,who,r)).trans (cY H _)
theorem ayN (T:bm)  (cs:List aB) (who:Int) (r:Int) (H:sB cs):WP T abp (.same (.int .i64 (b0 cs who r))) [.I (.Y (cs.map bw)),.I (.int .i64 who),.I (.int .i64 r)]:=by
 refine cH ?_;simp only[abp];have az:=H.1;simp only[go_sem,go_sem_proc,ah];refine c9 [0,1,2] [] (λ(i:Nat) tm mem=>i<=D cs/\tm 7=.I (.int .i64 (b0 (cs.take i) who r))/\tm 8=.I (.int .i64 i)) (λi=>D cs-i) 0 (by refine⟨by omega,rfl,rfl⟩) ?_;intro vs ms aK aF;simp only[go_sem,go_sem_proc,ah] at aK aF;subst aK aF;rintro i tm mem L hm ⟨U,bE,bP⟩;simp only[go_sem,go_sem_proc,bf] at L;obtain⟨aj,G,J⟩:=L;rcases dk (i<D cs) with av|b4
 ·obtain⟨⟨a,b,k,m⟩,M⟩:∃c,cs[i]?=some c:=⟨_,bB av⟩;have d1:decide ((i:Int)<(D cs:Int))=true:=c5;have bl:=eu (i:=i) (by omega);have Q:=H.sum (λc=>c.1=who/\c.2.2.1<r) i;have hm:=H.2 _ (dS M);have dq:=NO M λc=>if c.1=who/\c.2.2.1<r then c.2.2.2 else 0;unfold b0 at bE ⊢;generalize cl (cs.take i) (λc=>if c.1=who/\c.2.2.1<r then c.2.2.2 else 0)=s at *;dsimp only at dq hm;have jr:IntKind.i64.wrap (s+m)=s+m:=by rw[e7 _]
  rcases ay:(a==who)
  ·have:¬ (a=who/\k<r):=λh=>by rw[h.1] at ay;simp at ay
   rw[ag this] at dq;simp only[go_sem,go_sem_proc,aj,G,J,bE,bP,M,d1,bl,jr,ay,bw,ah,aW];repeat' (first|refine al ?_ ?_|fail)<;>intro h<;>simp only[h,go_sem,go_sem_proc,aj,G,J,bE,bP,M,d1,bl,jr,ay,bw,ah,aW]
   exact⟨i+1,by omega,by omega,by rw[dq,k9],rfl⟩
  ·have FA:=beq_iff_eq.1 ay;rcases aA:decide (k<r)
   ·have:¬ (a=who/\k<r):=λh=>of_decide_eq_false aA h.2;rw[ag this] at dq;simp only[go_sem,go_sem_proc,aj,G,J,bE,bP,M,d1,bl,jr,ay,aA,bw,ah,aW];repeat' (first|refine al ?_ ?_|fail)<;>intro h<;>simp only[h,go_sem,go_sem_proc,aj,G,J,bE,bP,M,d1,bl,jr,ay,aA,bw,ah,aW]
    exact⟨i+1,by omega,by omega,by rw[dq,k9],rfl⟩
   ·rw[ad ⟨FA,of_decide_eq_true aA⟩] at dq;simp only[go_sem,go_sem_proc,aj,G,J,bE,bP,M,d1,bl,jr,ay,aA,bw,ah,aW];repeat' (first|refine al ?_ ?_|fail)<;>intro h<;>simp only[h,go_sem,go_sem_proc,aj,G,J,bE,bP,M,d1,bl,jr,ay,aA,bw,ah,aW]
    exact⟨i+1,by omega,by omega,by rw[dq],rfl⟩
 ·have d1:decide ((i:Int)<(D cs:Int))=false:=cu;rw[dH (by omega)] at bE;simp only[go_sem,go_sem_proc,aj,G,J,bE,bP,d1,ah];repeat' (first|refine al ?_ ?_|fail)<;>intro h<;>simp only[h,go_sem,go_sem_proc,aj,G,J,bE,bP,d1,ah]
def oM (m:Int):Bool:=!(decide (m>1000000)&&decide (m<=1000000000000000))
def Ae (E:List Int)(cs:List aB):Bool:=!(decide ((D E:Int)>5))&&(!(decide ((D cs:Int)>12))&&(E.all oM&&cs.all λc=>oM c.2.2.2))
abbrev DV:(List Int)×(List aB)->List Data:=λ(E,cs)=>[.Y (E.map ae),.Y (cs.map bw)]
def abF:=cy DV λ(E,cs)=>some (.same (.bool (Ae E cs)))
theorem Jy:∀a b,DV a=DV b->a=b:=by
  rintro⟨abG,DU⟩ ⟨abH,u1⟩ h;simp only[bf,Data.Y.injEq] at h;exact ei (map_inj hp _ _ h.1) (map_inj sA _ _ h.2.1)
@[go_sem] theorem ayO (E:List Int)(cs:List aB):abF [.Y (E.map ae),.Y (cs.map bw)]=some (.same (.bool (Ae E cs))):=cF Jy (E,cs)
theorem ayP (T:bm)  (E:List Int) (cs:List aB):WP T abm (.same (.bool (Ae E cs))) [.I (.Y (E.map ae)),.I (.Y (cs.map bw))]:=by
 refine cH ?_;simp only[abm];unfold Ae;rcases ay:decide ((D E:Int)>5)
 ·rcases aA:decide ((D cs:Int)>12)
  ·have dr:(D E)<=5:=by have:=of_decide_eq_false ay;omega
   have aa:(D cs)<=12:=by have:=of_decide_eq_false aA;omega
   simp only[go_sem,go_sem_proc,ay,aA,ah];refine c9 [0,1] [] (λ(i:Nat) tm mem=>i<=D E/\(E.take i).all oM=true/\tm 5=.I (.int .i64 i)) (λi=>D E-i) 0 (by refine⟨by omega,by simp,rfl⟩) ?_;intro vs ms aK aF;simp only[go_sem,go_sem_proc,ah] at aK aF;subst aK aF;rintro i tm mem L hm ⟨U,aD,bh⟩;simp only[go_sem,go_sem_proc,bf] at L;obtain⟨aj,G⟩:=L;rcases dk (i<D E) with av|b4
   ·obtain⟨x,M⟩:∃c,E[i]?=some c:=⟨_,bB av⟩;have d1:decide ((i:Int)<(D E:Int))=true:=c5;have bl:=eu (i:=i) (by omega);rcases au:decide (x>1000000)
    ·have H:oM x=true:=by unfold oM;rw[au];rfl
     refine a1 ?_;repeat' (intro h<;>simp only[h,go_sem,go_sem_proc,aj,G,bh,M,d1,bl,au,ae,ah,aW]<;>try refine al ?_ ?_)
     exact⟨i+1,by omega,by omega,by rw[IM M,aD,H];rfl,rfl⟩
    ·rcases c2:decide (x<=1000000000000000)
     ·have H:oM x=true:=by unfold oM;rw[au,c2];rfl
      refine a1 ?_;repeat' (intro h<;>simp only[h,go_sem,go_sem_proc,aj,G,bh,M,d1,bl,au,c2,ae,ah,aW]<;>try refine al ?_ ?_)
      exact⟨i+1,by omega,by omega,by rw[IM M,aD,H];rfl,rfl⟩
     ·have H:oM x=false:=by unfold oM;rw[au,c2];rfl
      rw[Rf M H];refine a1 ?_;repeat' (intro h<;>simp only[h,go_sem,go_sem_proc,aj,G,bh,M,d1,bl,au,c2,ae,ah,aW,cp,fP,fr]<;>try refine al ?_ ?_)
   ·have d1:decide ((i:Int)<(D E:Int))=false:=cu;have Gr:E.all oM=true:=by rw[dH (by omega)] at aD;exact aD
    rw[Gr];simp only[go_sem,go_sem_proc,aj,G,bh,d1,ah];refine c9 [1] [] (λ(i:Nat) tm mem=>i<=D cs/\(cs.take i).all (λc=>oM c.2.2.2)=true/\tm 6=.I (.int .i64 i)) (λi=>D cs-i) 0 (by refine⟨by omega,by simp,rfl⟩) ?_;intro vs ms aK aF;simp only[go_sem,go_sem_proc,ah,G] at aK aF;subst aK aF;clear aj G bh hm;rintro i tm mem L hm ⟨U,aD,bK⟩;simp only[go_sem,go_sem_proc,bf] at L;have G:=L;rcases dk (i<D cs) with av|b4
    ·obtain⟨⟨a,b,k,x⟩,M⟩:∃c,cs[i]?=some c:=⟨_,bB av⟩;have d1:decide ((i:Int)<(D cs:Int))=true:=c5;have bl:=eu (i:=i) (by omega);rcases au:decide (x>1000000)
     ·have H:oM x=true:=by unfold oM;rw[au];rfl
      refine a1 ?_;repeat' (intro h<;>simp only[h,go_sem,go_sem_proc,G,bK,M,d1,bl,au,bw,ah,aW]<;>try refine al ?_ ?_)
      exact⟨i+1,by omega,by omega,by rw[IM M,aD];exact H,rfl⟩
     ·rcases c2:decide (x<=1000000000000000)
      ·have H:oM x=true:=by unfold oM;rw[au,c2];rfl
       refine a1 ?_;repeat' (intro h<;>simp only[h,go_sem,go_sem_proc,G,bK,M,d1,bl,au,c2,bw,ah,aW]<;>try refine al ?_ ?_)
       exact⟨i+1,by omega,by omega,by rw[IM M,aD];exact H,rfl⟩
      ·have H:oM x=false:=by unfold oM;rw[au,c2];rfl
       rw[Rf (p:=λc:aB=>oM c.2.2.2) M H];refine a1 ?_;repeat' (intro h<;>simp only[h,go_sem,go_sem_proc,G,bK,M,d1,bl,au,c2,bw,ah,aW,cp,fP]<;>try refine al ?_ ?_)
    ·have d1:decide ((i:Int)<(D cs:Int))=false:=cu;have Gr:cs.all (λc=>oM c.2.2.2)=true:=by rw[dH (by omega)] at aD;exact aD
     rw[Gr];refine a1 ?_;repeat' (intro h<;>simp only[h,go_sem,go_sem_proc,G,bK,d1,ah,cp,fP]<;>try refine al ?_ ?_)
  ·refine a1 ?_;repeat' (intro h<;>simp only[h,go_sem,go_sem_proc,ay,aA,ah,bT,fr,jB]<;>try refine al ?_ ?_)
 ·refine a1 ?_;repeat' (intro h<;>simp only[h,go_sem,go_sem_proc,ay,ah,bT,fr]<;>try refine al ?_ ?_)
theorem ayQ {x:List Data}(h:Fits [.int .i64,.int .i64,.int .i64,.int .i64] x):∃c:aB,x=bw c:=by
 simp only[Fit,Fits] at h;obtain⟨_,_,rfl,⟨a,rfl,-⟩,_,_,rfl,⟨b,rfl,-⟩,_,_,rfl,⟨c,rfl,-⟩,_,_,rfl,⟨d,rfl,-⟩,rfl⟩:=h;exact⟨(a,b,c,d),rfl⟩
theorem ayR {es:List (List Data)}(h:∀x∈es,Fit (.st [.int .i64,.int .i64,.int .i64,.int .i64]) x):∃l:List aB,es=l.map bw:=by
 obtain⟨l,e,-⟩:=Vp (e:=bw) (good:=λ_=>True) λx M=>by
  have:=h x M;unfold Fit at this;obtain⟨c,rfl⟩:=ayQ this;exact⟨c,rfl,trivial⟩
 exact⟨l,e⟩
end Go.Mini
namespace Go.Mini
open Classical
structure Alike (d e:Day):Prop where
 n:d.n=e.n
 E:d.E=e.E
 mem:∀c,c∈d.dt↔c∈e.dt
 sum:∀aR,ck d.dt aR=ck e.dt aR
theorem Alike.symm {d e:Day}(h:Alike d e):Alike e d:=⟨h.n.symm,h.E.symm,λc=>(h.mem c).symm,λaR=>(h.sum aR).symm⟩
section
variable {d e:Day} (h:Alike d e)
include h
theorem Alike.bZ:d.bZ=e.bZ:=by funext k r;exact h.sum _
theorem Alike.S:d.S=e.S:=by funext k r;exact h.sum _
theorem Alike.w:d.w=e.w:=by funext c;unfold Day.w;rw[h.S]
theorem Alike.q:d.q=e.q:=by funext f x c;unfold Day.q;rw[h.bZ,h.w]
theorem Alike.l:d.l=e.l:=by funext f P x c;unfold Day.l;rw[h.bZ,h.w]
theorem Alike.jE:d.jE=e.jE:=by funext x c;unfold Day.jE;rw[h.bZ,h.w]
theorem Alike.fq:d.fq=e.fq:=by funext a i;unfold Day.fq;rw[h.E,h.sum]
theorem Alike.uF:d.uF=e.uF:=by funext x i;unfold Day.uF;rw[h.fq,h.jE]
theorem Alike.hA:d.hA=e.hA:=by funext C x;unfold Day.hA;rw[h.n]
theorem Alike.cap:d.cap=e.cap:=by funext f g C k;unfold Day.cap;rw[h.bZ]
theorem Alike.closed (f:Nat->Nat)(C:Nat->Prop):d.closed f C↔e.closed f C:=by
 unfold Day.closed;exact⟨λk c H=>k c ((h.mem c).2 H),λk c H=>k c ((h.mem c).1 H)⟩
theorem Alike.inv {f:Nat->Nat}{g:Nat->Rat}(a:Inv d f g):Inv e f g:=by
 obtain⟨G,J,af,aP,bh⟩:=a;refine⟨G,λi U=>?_,λi U aD=>?_,λi U aD=>?_,λC ll ayS ayT=>?_⟩
 ·have:=J i (by rw[h.n];exact U);rwa [h.fq,h.q] at this
 ·have:=af i (by rw[h.n];exact U) aD;rwa [h.bZ] at this
 ·have:=aP i (by rw[h.n];exact U) aD;rwa [h.bZ] at this
 ·have:=bh C ll (λi U=>by rw[h.n];exact ayS i U) ((h.closed f C).2 ayT);rwa [h.hA,h.fq,h.q,h.cap,h.bZ] at this
theorem Alike.ok (a:d.dF):e.dF:=⟨λc H=>by rw[<-h.n];exact a.aE c ((h.mem c).2 H),λc H=>by rw[<-h.n];exact a.to c ((h.mem c).2 H),λc H=>a.bM c ((h.mem c).2 H),λc H=>a.am c ((h.mem c).2 H),λi U=>by rw[<-h.E];exact a.E i (by rw[h.n];exact U)⟩
theorem Alike.akG {f:Nat->Nat}{x:Nat->Rat}(a:oH d f x):oH e f x:=by
 obtain⟨g,G,J,af⟩:=a;refine⟨g,h.inv G,λi U=>?_,λi U=>af i (by rw[h.n];exact U)⟩;have:=J i (by rw[h.n];exact U);rwa [h.fq,h.q] at this
theorem Alike.ayU:oH d=oH e:=by
 funext f x
 exact propext ⟨h.akG,h.symm.akG⟩
theorem Alike.top:d.top=e.top:=by
 funext f
 unfold Day.top;rw[h.ayU]
theorem Alike.hU:d.hU=e.hU:=by
 funext f
 unfold Day.hU;rw[h.top,h.bZ,h.n]
theorem Alike.jd:d.jd=e.jd:=by
 funext x i k
 induction k with
 |zero=>rfl
 |succ k aH=>unfold Day.jd;rw[h.bZ,aH]
theorem Alike.gr:d.gr=e.gr:=by
 funext f x i
 unfold Day.gr;rw[h.n,h.bZ,h.jd]
theorem Alike.rounds:d.rounds=e.rounds:=by
 funext k
 induction k with
 |zero=>funext f;rfl
 |succ k aH =>
  funext f
  unfold Day.rounds;rw[h.hU,h.gr,h.top,aH]
end
def dA (cs:List aB)(i k:Nat):List aB:=cs.filter λc=>c.1==(i:Int)&&c.2.2.1==(k:Int)
theorem Gs {cs:List aB}{i k:Nat}{c:aB}:c∈dA cs i k↔c∈cs/\c.1=(i:Int)/\c.2.2.1=(k:Int):=by
 unfold dA;rw[Jn,gb,beq_iff_eq,beq_iff_eq]
def dV (n:Nat)(cs:List aB):List aB:=(eY n).flatMap λi=>(eY 10).flatMap λk=>dA cs i k
theorem ayV (cs:List aB)(i k j r:Nat):dA (dA cs i k) j r=if i=j/\k=r then dA cs i k else []:=by
 unfold dA;rw[List.filter_filter]
 by_cases h:i=j/\k=r
 ·obtain⟨rfl,rfl⟩:=h;rw[ad ⟨rfl,rfl⟩]
  congr 1
  funext c
  simp
 ·rw[ag h,List.filter_eq_nil_iff];intro c _;simp only[gb,beq_iff_eq];rintro⟨⟨G,J⟩,af,aP⟩;exact h ⟨by omega,by omega⟩
theorem akH {α:Type}{n i:Nat}(U:i<n)(aR:Nat->List α)(h:∀k,k<n->k≠i->aR k=[]):(eY n).flatMap aR=aR i:=by
 induction n with
 |zero=>omega
 |succ n aH =>
  rw[sx,yP,q6,B0,gD]
  by_cases aM:i=n
  ·subst aM
   have:(eY i).flatMap aR=[]:=by
    rw[akI];intro k L;have:=jC.1 L;exact h k (by omega) (by omega)
   rw[this,ir]
  ·rw[aH (by omega) λk L=>h k (by omega),h n (by omega) (Ne.symm aM),gD]
theorem akJ {α:Type}(l:List α)(aR:α->List aB)(i k:Nat):dA (l.flatMap aR) i k=l.flatMap λx=>dA (aR x) i k:=by
 unfold dA
 induction l with
 |nil=>rfl
 |cons a l aH=>rw[q6,q6,rE,aH]
theorem akK {n i k:Nat}(cs:List aB)(U:i<n)(L:k<10):dA (dV n cs) i k=dA cs i k:=by
 unfold dV;rw[akJ];simp only[akJ,ayV];rw[akH U,akH L]
 ·rw[ad ⟨rfl,rfl⟩]
 ·intro r _ X;rw[ag λh=>X h.2]
 ·intro j _ ax;rw[akI];intro r _;rw[ag λh=>ax h.1]
theorem akL {n:Nat}{a b:List aB}(h:∀i,i<n->∀k,k<10->dA a i k=dA b i k):dV n a=dV n b:=by
 unfold dV;rw[yQ,yQ]
 congr 1
 refine pP λi U=>?_;rw[yQ,yQ]
 congr 1
 exact pP λk L=>h i (jC.1 U) k (jC.1 L)
theorem ayW (n:Nat)(cs:List aB):dV n (dV n cs)=dV n cs:=akL λ_ U _ L=>akK cs U L
theorem abI {n:Nat}{cs:List aB}(X:∀c∈cs,0<=c.1/\c.1<n/\0<=c.2.2.1/\c.2.2.1<10){c:aB}:c∈dV n cs↔c∈cs:=by
 unfold dV;simp only[List.mem_flatMap,jC,Gs]
 constructor
 ·rintro⟨i,-,k,-,h,-⟩;exact h
 ·intro H;have:=X c H;exact⟨c.1.toNat,by omega,c.2.2.1.toNat,by omega,H,by omega,by omega⟩
theorem NQ (a b:List dZ)(aR:dZ->Rat):ck (a++b) aR=ck a aR+ck b aR:=by
 induction a with
 |nil=>simp only[ir,ck];grind
 |cons c l aH=>rw[m0,ck,ck,aH];grind
theorem akM (aR:Nat->List aB)(bD:dZ->Rat)(n:Nat):ck (((eY n).flatMap aR).map ca) bD=cN n λi=>ck ((aR i).map ca) bD:=by
 induction n with
 |zero=>rfl
 |succ n aH=>rw[sx,yP,kg,NQ,aH,cN,q6,B0,gD]
theorem ayX {l:List dZ}(az:∀c∈l,c.bM<10)(b:Nat->dZ->Rat):cN 10 (λk=>ck l (λc=>if c.bM=k then b k c else 0))=ck l (λc=>b c.bM c):=by
 induction l with
 |nil=>exact BU λk _=>rfl
 |cons c l aH =>
  rw[ck,<-aH λx M=>az x (h3 _ M)];have e:(λk:Nat=>ck (c::l) (λc=>if c.bM=k then b k c else 0))=λk=>(if c.bM=k then b k c else 0)+ck l (λc=>if c.bM=k then b k c else 0):=rfl;rw[e,Ga]
  congr 1
  rw[BV (az c g0) λk _ L=>ag (Ne.symm L),ad rfl]
theorem abJ {cs:List aB}(X:∀c∈cs,0<=c.1/\0<=c.2.2.1)(i k:Nat)(bD:dZ->Rat):ck ((dA cs i k).map ca) bD=ck (cs.map ca) λc=>if c.aE=i/\c.bM=k then bD c else 0:=by
 induction cs with
 |nil=>rfl
 |cons c l aH =>
  have aj:=X c g0;have aH:=aH λx M=>X x (h3 _ M);unfold dA at aH ⊢;rw[eI,ck,<-aH]
  by_cases h:(ca c).aE=i/\(ca c).bM=k
  ·obtain⟨G,J⟩:=h;have ay:c.1=(i:Int):=by have:c.1.toNat=i:=G;omega
   have aA:c.2.2.1=(k:Int):=by have:c.2.2.1.toNat=k:=J;omega
   rw[oK (by simp[ay,aA]),eI,ck,ad ⟨G,J⟩]
  ·rw[ag h,pv,DN];intro ai;rw[gb,beq_iff_eq,beq_iff_eq] at ai;refine h ⟨?_,?_⟩
   ·show c.1.toNat=i;omega
   ·show c.2.2.1.toNat=k;omega
theorem akN {n:Nat}{cs:List aB}(X:∀c∈cs,0<=c.1/\c.1<n/\0<=c.2.2.1/\c.2.2.1<10)(bD:dZ->Rat):ck ((dV n cs).map ca) bD=ck (cs.map ca) bD:=by
 unfold dV;rw[akM]
 have bC:∀c∈cs.map ca,c.aE<n:=λc H=>by
  obtain⟨x,M,rfl⟩:=gE.1 H;have:=X x M;show x.1.toNat<n;omega
 have kR:∀c∈cs.map ca,c.bM<10:=λc H=>by
  obtain⟨x,M,rfl⟩:=gE.1 H;have:=X x M;show x.2.2.1.toNat<10;omega
 have e:(λi=>ck (((eY 10).flatMap λk=>dA cs i k).map ca) bD)=λi=>ck (cs.map ca) λc=>if c.aE=i then bD c else 0:=by
  funext i
  rw[akM,<-ayX kR λ_ c=>if c.aE=i then bD c else 0]
  congr 1
  funext k
  rw[abJ λc H=>⟨(X c H).1,(X c H).2.2.1⟩];refine uD λc _=>?_
  by_cases G:c.bM=k
  ·rw[ad G]
   by_cases J:c.aE=i
   ·rw[ad ⟨J,G⟩,ad J]
   ·rw[ag λh=>J h.1,ag J]
  ·rw[ag G,ag λh=>G h.2]
 rw[e,aaw bC λ_ c=>bD c]
theorem akO {E:List Int}{cs:List aB}(h:g9 E cs=true):Alike (ak E cs) (ak E (dV (D E) cs)):=by
 have X:∀c∈cs,0<=c.1/\c.1<D E/\0<=c.2.2.1/\c.2.2.1<10:=λc H=>by
  have:=(hB.1 h).2.2.2 c H;exact⟨this.1,this.2.1,this.2.2.2.2.1,this.2.2.2.2.2.1⟩
 refine⟨rfl,rfl,λc=>?_,λaR=>(akN X aR).symm⟩;show c∈cs.map ca↔c∈(dV (D E) cs).map ca;rw[gE,gE];simp only[abI X]
theorem akP {n:Nat}{cs:List aB}(X:∀c∈cs,0<=c.1/\c.1<n/\0<=c.2.2.1/\c.2.2.1<10):(dV n cs).length=D cs:=by
 have G:∀l:List aB,ck (l.map ca) (λ_=>1)=(D l:Rat):=λl=>by
  induction l with
  |nil=>rfl
  |cons a l aH=>rw[eI,ck,aH,kB,Rat.natCast_add,Rat.add_comm];rfl
 have:=akN X λ_=>1;rw[G,G] at this;exact_mod_cast this
theorem abK {E:List Int}{cs:List aB}(h:e5 E cs):e5 E (dV (D E) cs):=by
 have iG:=hB.1 h.right
 have X:∀c∈cs,0<=c.1/\c.1<D E/\0<=c.2.2.1/\c.2.2.1<10:=λc H=>by
  have:=iG.2.2.2 c H;exact⟨this.1,this.2.1,this.2.2.2.2.1,this.2.2.2.2.2.1⟩
 refine⟨hB.2 ⟨iG.1,by rw[akP X];exact iG.2.1,iG.2.2.1,λc H=>iG.2.2.2 c ((abI X).1 H)⟩,h.hV,by rw[akP X];exact h.qR,λc H=>h.am c ((abI X).1 H)⟩
end Go.Mini
namespace Go.Mini
open Classical
def Day.pw (d:Day):Nat->Nat:=(d.rounds (10*d.n) λ_=>10).2
def Day.jv (d:Day):List (List Nat):=(d.rounds (10*d.n) λ_=>10).1
def Day.ct (d:Day):Nat->Rat:=d.top d.pw
theorem abL (n k:Nat):kj n (λ_=>k)=k*n:=by
 induction n with
 |zero=>rfl
 |succ n aH=>rw[kj,aH,Nat.mul_succ]
section
variable {d:Day} (ab:d.dF)
include ab
theorem Day.dF.hex:∀f,Reach d f->∃h,oH d f h:=λ_ X=>aym ab X
theorem NR:Reach d d.pw/\d.hU d.pw=[]:=ajC ab ab.hex (10*d.n) (λ_=>10) (Reach.start ab) (by rw[abL];exact cI _)
theorem Ss:oH d d.pw d.ct:=Day.DJ (ab.hex _ (NR ab).1)
theorem akQ:∀i,i<d.n->d.bZ i (d.pw i)<=d.ct i:=by
 intro i U;apply nY;intro aM;have:i∈d.hU d.pw:=Day.Nq.2 ⟨U,by unfold Day.ct at aM;grind⟩
 rw[(NR ab).2] at this
 cases this
theorem Jz:(∀i,i<d.n->d.ct i=d.uF d.ct i)/\∀i,i<d.n->(d.pw i<10↔d.ct i<d.bZ i 10):=by
 obtain⟨g,G,J,af⟩:=Ss ab;exact G.final ab J af (akQ ab)
theorem abM {i:Nat}(U:i<d.n):0<=d.ct i:=(Ss ab).aaL ab U
end
theorem RX {d:Day}(ab:d.dF)(i k:Nat):0<=d.S i k:=z5 λc H=>by
 try dsimp only
 split
 ·exact ab.am c H
 ·exact g8
end Go.Mini
namespace Go.Mini
open Classical
section
variable {d:Day} (ab:d.dF)
include ab
end
end Go.Mini
namespace Go.Mini
open Classical
section
variable {d:Day} (ab:d.dF) {k:Rat} (L:0<k)
include L
end
def Day.saved (d:Day)(who:Nat):Day:=⟨d.n,λi=>d.E i+ck d.dt λc=>if c.aE=who/\c.to=(i:Int) then c.am else 0,d.dt.filter λc=>decide (c.aE≠who)⟩
theorem ayY (d:Day)(who:Nat):(d.saved who).dt=d.dt.filter λc=>decide (c.aE≠who):=rfl
section
variable {d:Day} (ab:d.dF) (who:Nat)
include ab
end
end Go.Mini
namespace Go.Mini
open Classical
theorem akR {d:Day}(ab:d.dF){f:Nat->Nat}{g:Nat->Rat}(U:Inv d f g):∀m (P:Nat->Prop),idle d P<=m->jc d f g P (d.e4 f P)->∃P,sy d f P/\∀i,i<d.n->d.e4 f P i=d.top f i
 |m,P,hm,aC=>by
  by_cases Q:∀i,i<d.n->f i<10->d.bZ i (f i)<d.e4 f P i->P i
  ·exact⟨P,⟨ab,g,U,aC⟩,aC.aa8 ab U Q⟩
  ·have⟨i,G,J,af,aP⟩:∃i,i<d.n/\f i<10/\d.bZ i (f i)<d.e4 f P i/\¬ P i:=by
    apply nY;intro aM;exact Q λi G J af=>nY λaP=>aM ⟨i,G,J,af,aP⟩
   have av:=aku (h:=d.e4 f P) G J af aP
   cases m with
   |zero=>omega
   |succ m=>exact akR ab U m _ (by omega) (aC.succ ab U)
theorem abN {d:Day}(ab:d.dF){f:Nat->Nat}(X:Reach d f):∃P,sy d f P/\∀i,i<d.n->d.e4 f P i=d.top f i:=by
 obtain⟨g,U,-⟩:=X;exact akR ab U _ _ (cI _) (jc.first ab U)
section
variable {E:List Int} {cs:List aB} (Q:e5 E cs)
include Q
theorem abO {f:Nat->Nat}(X:Reach (ak E cs) f){i:Nat}(U:i<D E):eJ 453 ((ak E cs).top f i):=by
 obtain⟨P,aC,he⟩:=abN Q.ok X;rw[<-he i U];exact abj Q aC U
theorem DW {i:Nat}(U:i<D E):eJ 453 ((ak E cs).ct i):=abO Q (NR Q.ok).1 U
theorem ayZ {i:Nat}(U:i<D E):(ak E cs).ct i<=((2^51:Nat):Rat):=by
 obtain⟨P,aC,he⟩:=abN Q.ok (NR Q.ok).1;have:=(Si Q aC U).2;rw[he i U] at this;exact this
theorem akS:∃bp:Nat,0<bp/\(∃a,a<=402/\bp<=2^a)/\∀i,i<(D E)->fv bp ((ak E cs).ct i):=by
 obtain⟨P,aC,he⟩:=abN Q.ok (NR Q.ok).1;obtain⟨bp,G,J,af⟩:=akD Q aC;refine⟨bp,G,J,λi U=>?_⟩;have:=af i U;rw[he i U] at this;exact this
end
section
variable {d:Day} (ab:d.dF)
include ab
end
def xl (E:List Int)(cs:List aB)(k:Nat):Nat:=if (ak E cs).pw k<10 then kS cs k ((ak E cs).pw k) else 1
section
variable {E:List Int} {cs:List aB} (Q:e5 E cs)
include Q
theorem akT {k:Nat}(L:k<D E):0<xl E cs k:=by
 unfold xl
 split
 ·rename_i h;obtain⟨g,G,-⟩:=Ss Q.ok;have J:=G.qP (i:=k) L h;rw[<-Gl Q.right] at J;exact_mod_cast J
 ·omega
theorem akU (k:Nat):xl E cs k<=2^29:=by
 unfold xl
 split
 ·exact Q.DR _ _
 ·exact Ju
theorem akV {bp:Nat}(e8:∀i,i<(D E)->fv bp ((ak E cs).ct i)){c:aB}(H:c∈cs):fv (bp*xl E cs (ca c).aE) ((ak E cs).jE (ak E cs).ct (ca c)):=by
 have ab:=Q.ok;have fc:ca c∈(ak E cs).dt:=BZ H;have L:(ca c).aE<D E:=ab.aE _ fc;have yG:∀N,fv N (ca c).am:=λN=>fv.int N c.2.2.2;have a2:∀N,fv N (0:Rat):=fv.zero;have oC:=λr s=>@Day.dF.yE _ ab (ca c).aE r s;have kR:=ab.bM _ fc;have hE:=akQ ab _ L;unfold Day.jE
 by_cases G:(ak E cs).bZ (ca c).aE ((ca c).bM+1)<=(ak E cs).ct (ca c).aE
 ·rw[ad G];exact yG _
 ·rw[ag G]
  have aD:(ak E cs).pw (ca c).aE<10:=by
   refine ((Jz ab).2 _ L).2 ?_;have:=oC ((ca c).bM+1) 10 (by omega);grind
  have av:(ak E cs).ct (ca c).aE<(ak E cs).bZ (ca c).aE ((ak E cs).pw (ca c).aE+1):=by
   obtain⟨g,cL,-,eo⟩:=Ss ab;have:=cL.U _ L aD;have:=eo _ L;grind
  rcases Nat.lt_trichotomy (ca c).bM ((ak E cs).pw (ca c).aE) with J|J|J
  ·have:=oC ((ca c).bM+1) ((ak E cs).pw (ca c).aE) (by omega);exact absurd (yH this hE) G
  ·have hw:fv (xl E cs (ca c).aE) ((ak E cs).w (ca c)):=by
    unfold xl;rw[ad aD];refine⟨c.2.2.2,?_⟩;rw[Gl Q.right,<-J]
    have:0<(ak E cs).S (ca c).aE (ca c).bM:=by
     have:=(ak E cs).z6 (ca c).aE ((ak E cs).pw (ca c).aE);rw[J];grind
    exact Day.Ji this
   have F9:fv bp ((ak E cs).ct (ca c).aE-(ak E cs).bZ (ca c).aE (ca c).bM):=by
    refine (e8 _ L).sub ?_;rw[<-ps Q.right];exact fv.int _ _
   rw[yF (by rw[J];grind),tU];exact hw.mul F9
  ·have:=oC ((ak E cs).pw (ca c).aE+1) (ca c).bM (by omega);rw[vM (by grind),xb];exact a2 _
theorem ay0 {c:aB}(H:c∈cs):eJ 482 ((ak E cs).jE (ak E cs).ct (ca c)):=by
 obtain⟨bp,G,⟨a,J,af⟩,aP⟩:=akS Q;have fc:ca c∈(ak E cs).dt:=BZ H;have L:(ca c).aE<D E:=Q.ok.aE _ fc;have bh:=akV Q aP H;have bK:=akT Q L;have bE:=akU Q (ca c).aE;have bP:bp*xl E cs (ca c).aE<=2^(a+29):=by rw[tk];exact xc af bE
 have eA:=Q.ok.ajx (ak E cs).ct fc
 have dj:(ak E cs).jE (ak E cs).ct (ca c)<=((2^25:Nat):Rat):=by
  refine yH (Q.ok.aaD _ fc) ?_;have:=Q.am c H;show ((c.2.2.2:Int):Rat)<=_;have:c.2.2.2<=((2^25:Nat):Int):=by omega
  rw[<-oJ];exact Rat.intCast_le_intCast.2 this
 exact (bh.sz (aba G bK) bP eA dj).mono (by omega)
end
end Go.Mini
namespace Go.Mini
open Go
theorem NS {n:Int}{c:aB}:lQ n c=true↔0<=c.1/\c.1<n /\ -1<=c.2.1/\c.2.1<n/\0<=c.2.2.1/\c.2.2.1<10/\0<=c.2.2.2/\c.2.2.2<=1000000000000000:=by
 unfold lQ;simp only[gb,decide_eq_true_eq,and_assoc]
def jW (x:Int):Bool:=decide (0<=x)&&decide (x<=1000000000000000)
theorem St {x:Int}:jW x=true↔0<=x/\x<=1000000000000000:=by
 unfold jW;simp only[gb,decide_eq_true_eq]
theorem abP (E:List Int)(cs:List aB):g9 E cs=(decide (D E<=60)&&decide (D cs<=2000)&&E.all jW&&cs.all (lQ (D E))):=rfl
def Su:=cy DV λ(E,cs)=>some (.same (.bool (g9 E cs)))
@[go_sem] theorem ay1 (E:List Int)(cs:List aB):Su [.Y (E.map ae),.Y (cs.map bw)]=some (.same (.bool (g9 E cs))):=cF Jy (E,cs)
theorem ay2 (T:bm)  (E:List Int) (cs:List aB):WP T abn (.same (.bool (g9 E cs))) [.I (.Y (E.map ae)),.I (.Y (cs.map bw))]:=by
 refine cH ?_;simp only[abn];rw[abP]
 by_cases dr:(D E)<=60
 ·by_cases aa:(D cs)<=2000
  ·have ay:decide ((D E:Int)>60)=false:=cu;have aA:decide ((D cs:Int)>2000)=false:=cu;rw[jw dr,jw aa,fP,fP];simp only[go_sem,go_sem_proc,ay,aA,ah];refine c9 [0,1,5] [268008] (λ(i:Nat) tm mem=>i<=D E/\(E.take i).all jW=true/\tm 6=.I (.int .i64 i)) (λi=>D E-i) 0 (by refine⟨by omega,by simp,rfl⟩) ?_;intro vs ms aK aF;simp only[go_sem,go_sem_proc,ah] at aK aF;subst aK aF;rintro i tm mem L hm ⟨U,aD,bK⟩;simp only[go_sem,go_sem_proc,bf] at L hm;obtain⟨aj,G,bh⟩:=L;rcases dk (i<D E) with av|b4
   ·obtain⟨x,M⟩:∃c,E[i]?=some c:=⟨_,bB av⟩;have d1:decide ((i:Int)<(D E:Int))=true:=c5;have bl:=eu (i:=i) (by omega)
    by_cases H:jW x=true
    ·have ly:=St.1 H;have au:decide (x<0)=false:=cu;have c2:decide (x>1000000000000000)=false:=cu;refine a1 ?_;repeat' (intro h<;>simp only[h,go_sem,go_sem_proc,aj,G,bh,bK,hm,M,d1,bl,au,c2,ae,ah,aW]<;>try refine al ?_ ?_)
     exact⟨i+1,by omega,by omega,by rw[IM M,aD,H];rfl,rfl⟩
    ·have E9:jW x=false:=by simpa using H
     rw[Rf M E9,fr];rw[St] at H;rcases au:decide (x<0)
     ·have c2:decide (x>1000000000000000)=true:=jw (by have:=of_decide_eq_false au;omega);refine a1 ?_;repeat' (intro h<;>simp only[h,go_sem,go_sem_proc,aj,G,bh,bK,hm,M,d1,bl,au,c2,ae,ah,aW]<;>try refine al ?_ ?_)
     ·refine a1 ?_;repeat' (intro h<;>simp only[h,go_sem,go_sem_proc,aj,G,bh,bK,hm,M,d1,bl,au,ae,ah,aW]<;>try refine al ?_ ?_)
   ·have d1:decide ((i:Int)<(D E:Int))=false:=cu;have Gr:E.all jW=true:=by rw[dH (by omega)] at aD;exact aD
    rw[Gr,fP];simp only[go_sem,go_sem_proc,aj,G,bh,bK,hm,d1,ah];refine c9 [1,5] [] (λ(i:Nat) tm mem=>i<=D cs/\(cs.take i).all (lQ (D E))=true/\tm 7=.I (.int .i64 i)) (λi=>D cs-i) 0 (by refine⟨by omega,by simp,rfl⟩) ?_;intro vs ms aK aF;simp only[go_sem,go_sem_proc,ah,G,bh] at aK aF;subst aK aF;clear aj G bh bK hm;rintro i tm mem L hm ⟨U,aD,bE⟩;simp only[go_sem,go_sem_proc,bf] at L;obtain⟨G,bh⟩:=L;rcases dk (i<D cs) with av|b4
    ·obtain⟨⟨a,b,k,x⟩,M⟩:∃c,cs[i]?=some c:=⟨_,bB av⟩;have d1:decide ((i:Int)<(D cs:Int))=true:=c5;have bl:=eu (i:=i) (by omega)
     by_cases H:lQ (D E) (a,b,k,x)=true
     ·have ly:=NS.1 H;dsimp only at ly;have au:decide (a<0)=false:=cu;have c2:decide (a>=(D E:Int))=false:=cu;have c3:decide (b < -1)=false:=cu;have c4:decide (b>=(D E:Int))=false:=cu;have NT:decide (k<0)=false:=cu;have NU:decide (k>=10)=false:=cu;have Gt:decide (x<0)=false:=cu;have ay3:decide (x>1000000000000000)=false:=cu;refine a1 ?_;repeat' (intro h<;>simp only[h,go_sem,go_sem_proc,G,bh,bE,M,d1,bl,au,c2,c3,c4,NT,NU,Gt,ay3,bw,ah,aW]<;>try refine al ?_ ?_)
      exact⟨i+1,by omega,by omega,by rw[IM M,aD,H];rfl,rfl⟩
     ·have E9:lQ (D E) (a,b,k,x)=false:=by simpa using H
      rw[Rf M E9];rw[NS] at H;dsimp only at H;refine a1 ?_;repeat' (intro h<;>simp only[h,go_sem,go_sem_proc,G,bh,bE,M,d1,bl,bw,ah,aW]<;>try refine al ?_ ?_)
      all_goals (exfalso;simp only[decide_eq_false_iff_not] at *;omega)
    ·have d1:decide ((i:Int)<(D cs:Int))=false:=cu;have Gr:cs.all (lQ (D E))=true:=by rw[dH (by omega)] at aD;exact aD
     rw[Gr];refine a1 ?_;repeat' (intro h<;>simp only[h,go_sem,go_sem_proc,G,bh,bE,d1,ah]<;>try refine al ?_ ?_)
  ·have ay:decide ((D E:Int)>60)=false:=cu;have aA:decide ((D cs:Int)>2000)=true:=c5;rw[kY aa,jB,fr,fr];refine a1 ?_;repeat' (intro h<;>simp only[h,go_sem,go_sem_proc,ay,aA,ah]<;>try refine al ?_ ?_)
 ·have ay:decide ((D E:Int)>60)=true:=c5;rw[kY dr,fr,fr,fr];refine a1 ?_;repeat' (intro h<;>simp only[h,go_sem,go_sem_proc,ay,ah]<;>try refine al ?_ ?_)
def JA (p q r s:Int):Prop:=p.natAbs<dP/\q.natAbs<dP/\r.natAbs<dP/\s.natAbs<dP/\0<q/\0<s
def NV (a:Int×Int×Int×Int):List Data:=[.agg (bU (bd a.1)),.agg (bU (bd a.2.1)),.agg (bU (bd a.2.2.1)),.agg (bU (bd a.2.2.2))]
theorem Sv {a b:Raw}(h:bU a=bU b):a=b:=by
 obtain⟨s,l⟩:=a;obtain⟨t,m⟩:=b;simp only[bU,bf,Data.int.injEq,Data.Y.injEq,true_and,and_true] at h;exact ei h.1 (map_inj hp _ _ h.2)
theorem akW:∀a b:Int×Int×Int×Int,NV a=NV b->a=b:=by
 rintro⟨cE,cS,dU,eN⟩ ⟨c0,et,gN,hz⟩ h;simp only[NV,bf,Data.agg.injEq,and_true] at h;obtain⟨G,J,af,aP⟩:=h;rw[QF (Sv G),QF (Sv J),QF (Sv af),QF (Sv aP)]
def akX (a:Int×Int×Int×Int):eM:=.same (.int .i64 (a.1*a.2.2.2-a.2.2.1*a.2.1).sign)
def NW:List Data->Option eM:=cy NV λa=>cT (JA a.1 a.2.1 a.2.2.1 a.2.2.2) (akX a)
def NX (n:Nat):List Data->Option eM:=cy NV λa=>cT (JA a.1 a.2.1 a.2.2.1 a.2.2.2/\a.2.1.toNat+a.2.2.2.toNat<n) (akX a)
theorem akY {n:Nat}{p q r s:Int}(h:JA p q r s/\q.toNat+s.toNat<n):NX n [.agg (bU (bd p)),.agg (bU (bd q)),.agg (bU (bd r)),.agg (bU (bd s))]=some (.same (.int .i64 (p*s-r*q).sign)) :=
 (cF akW (p,q,r,s)).trans (cY h _)
theorem ay4 {p q r s:Int}(h:JA p q r s):NW [.agg (bU (bd p)),.agg (bU (bd q)),.agg (bU (bd r)),.agg (bU (bd s))]=some (.same (.int .i64 (p*s-r*q).sign)) :=
 (cF akW (p,q,r,s)).trans (cY h _)
theorem ay5 {ds:List Data}{x:eM}(h:NW ds=some x):∃n,NX n ds=some x:=by
 obtain⟨⟨p,q,r,s⟩,rfl,J⟩:=U9 h;obtain⟨H,rfl⟩:=Va J;exact⟨_,akY ⟨H,Nat.lt_succ_self _⟩⟩
theorem ay6 {p q r s:Int}(bF:0<q)(Q:0<s)(h:p.fdiv q≠r.fdiv s):(p*s-r*q).sign=gx (p.fdiv q) (r.fdiv s):=by
 have ay:p.fmod q+q*p.fdiv q=p:=NY p q;have aA:r.fmod s+s*r.fdiv s=r:=NY r s;have lE:=NZ p bF;have nN:=N0 p bF;have v0:=NZ r Q;have v1:=N0 r Q;generalize p.fdiv q=x at *;generalize r.fdiv s=y at *;generalize p.fmod q=u at *;generalize r.fmod s=v at *;have AU:0<q*s:=Int.mul_pos bF Q;have cL:0<=u*s:=vh lE (by omega);have dN:0<=v*q:=vh v0 (by omega)
 have eo:u*s<=q*s-s:=by
  have:=mg (show u<=q-1 by omega) (show 0<=s by omega);grind
 have gh:v*q<=q*s-q:=by
  have:=mg (show v<=s-1 by omega) (show 0<=q by omega);grind
 have e:p*s-r*q=q*s*(x-y)+(u*s-v*q):=by rw[<-ay,<-aA];grind
 rw[e];rcases akZ h with av|g1
 ·have iP:q*s*(x-y)<=q*s*(-1):=wO (by omega) (by omega);rw[Bp av];exact Int.sign_eq_neg_one_of_neg (by omega)
 ·have iP:q*s*1<=q*s*(x-y):=wO (by omega) (by omega)
  have:gx x y=1:=by
   unfold gx;rw[ag (by simp;omega),ad (by simp;omega)]
  rw[this];exact ht (by omega)
theorem ay7 {p q r s:Int}(h:p.fdiv q=r.fdiv s):p*s-r*q=p.fmod q*s-r.fmod s*q:=by
 have ay:p.fmod q+q*p.fdiv q=p:=NY p q;have aA:r.fmod s+s*r.fdiv s=r:=NY r s;rw[h] at ay;generalize r.fdiv s=y at *;generalize p.fmod q=u at *;generalize r.fmod s=v at *;rw[<-ay,<-aA];grind
theorem ay8 (T:bm)(uq:T ET=aO Q9)(rp:T LC=aO Q7)(n:Nat)(JB:T HX=aO (NX n))(p q r s:Int)(H:JA p q r s/\q.toNat+s.toNat<n+1):WP T Ra (.same (.int .i64 (p*s-r*q).sign)) [.I (.agg (bU (bd p))),.I (.agg (bU (bd q))),.I (.agg (bU (bd r))),.I (.agg (bU (bd s)))]:=by
 refine cH ?_;simp only[Ra];obtain⟨⟨jz,ev,eS,s1,bF,Q⟩,aM⟩:=H;have dr:=ke jz;have aa:=ke ev;have bo:=ke eS;have bH:=ke s1;have lE:=NZ p bF;have nN:=N0 p bF;have v0:=NZ r Q;have v1:=N0 r Q;have ak0:(p.fmod q).natAbs<dP:=by omega
 have nF:(r.fmod s).natAbs<dP:=by omega
 have EF:∀{a b:Int},a.natAbs<dP->0<b->(a.fdiv b).natAbs<dP:=by
  intro a b a4 ai;have ay:a.fmod b+b*a.fdiv b=a:=NY a b;have aA:=NZ a ai;have bQ:=N0 a ai
  have:(a.fdiv b).natAbs<=a.natAbs:=by
   rcases Int.lt_or_le (a.fdiv b) 0 with h|h
   ·have k:b*(a.fdiv b+1)<=1*(a.fdiv b+1):=Int.mul_le_mul_of_nonpos_right (by omega) (by omega);have:b*(a.fdiv b+1)=b*a.fdiv b+b:=by grind
    omega
   ·have k:1*a.fdiv b<=b*a.fdiv b:=mg (by omega) h;omega
  omega
 have bb:=EF jz bF;have nv:=EF eS Q;have ef:=ke bb;have bX:=ke nv;have g4:=ke ak0;have gf:=ke nF;have d1:=Br jz ev (by omega);have d2:=Br eS s1 (by omega);have d3:=Md bb nv;have b5:=ay6 (p:=p) (r:=r) bF Q;have heq:=ay7 (p:=p) (q:=q) (r:=r) (s:=s);have zo:JA s (r.fmod s) q (p.fmod q)->NX n [.agg (bU (bd s)),.agg (bU (bd (r.fmod s))),.agg (bU (bd q)),.agg (bU (bd (p.fmod q)))]=some (.same (.int .i64 (s*p.fmod q-q*r.fmod s).sign)):=λh=>akY ⟨h,by omega⟩
 have iy:p.fdiv q=r.fdiv s->gx (p.fdiv q) (r.fdiv s)=0:=λh=>by unfold gx;rw[ag (by simp;omega),ag (by simp;omega)]
 have ay9:p.fdiv q≠r.fdiv s->(gx (p.fdiv q) (r.fdiv s)==0)=false:=λh=>by
  rcases akZ h with h|h
  ·rw[Bp h];rfl
  ·unfold gx;rw[ag (by simp;omega),ad (by simp;omega)];rfl
 have es:∀z:Int,bd z=(z.sign,aL z.natAbs):=λz=>rfl;rw[es,es] at d1 d2 d3
 by_cases hf:p.fdiv q=r.fdiv s
 ·have iv:=iy hf
  by_cases hu:p.fmod q=0
  ·have oB:(p.fmod q).sign=0:=by rw[hu];rfl
   have jj:(p*s-r*q).sign=0-(r.fmod s).sign:=by
    rw[heq hf,hu,vo,Int.zero_sub,Int.sign_neg,pa,ht bF,sY];omega
   rw[jj]
   have w:IntKind.i64.wrap (0-(r.fmod s).sign)=0-(r.fmod s).sign:=by
    have:=Mb (r.fmod s);rw[e7 _]
   simp only[go_sem,go_sem_proc,uq,rp,bU,gK,dr,aa,bo,bH,ef,bX,d1,d2,d3,iv,oB,w,es,ah,beq_self_eq_true,bne,bT];repeat' (first|refine al ?_ ?_|fail)<;>intro h<;>simp only[h,go_sem,go_sem_proc,uq,rp,bU,gK,dr,aa,bo,bH,ef,bX,d1,d2,d3,iv,oB,w,es,ah,beq_self_eq_true,bne,bT]
  ·have oB:((p.fmod q).sign==0)=false:=by
    rw[ht (by omega)];rfl
   by_cases aN:r.fmod s=0
   ·have oN:(r.fmod s).sign=0:=by rw[aN];rfl
    have jj:(p*s-r*q).sign=(p.fmod q).sign-0:=by
     rw[heq hf,aN,vo,CZ,pa,ht Q,sY,CZ]
    rw[jj]
    have w:IntKind.i64.wrap ((p.fmod q).sign-0)=(p.fmod q).sign-0:=by
     have:=Mb (p.fmod q);rw[e7 _]
    simp only[go_sem,go_sem_proc,uq,rp,bU,gK,dr,aa,bo,bH,ef,bX,d1,d2,d3,iv,oB,oN,w,es,ah,beq_self_eq_true,bne,bT];repeat' (first|refine al ?_ ?_|fail)<;>intro h<;>simp only[h,go_sem,go_sem_proc,uq,rp,bU,gK,dr,aa,bo,bH,ef,bX,d1,d2,d3,iv,oB,oN,w,es,ah,beq_self_eq_true,bne,bT]
   ·have oN:((r.fmod s).sign==0)=false:=by
     rw[ht (by omega)];rfl
    have X:=zo ⟨s1,nF,ev,ak0,by omega,by omega⟩
    have jj:s*p.fmod q-q*r.fmod s=p*s-r*q:=by rw[heq hf];grind
    rw[jj] at X;simp only[bU,es] at X;simp only[go_sem,go_sem_proc,uq,rp,JB,bU,gK,dr,aa,bo,bH,ef,bX,d1,d2,d3,iv,oB,oN,X,es,ah,beq_self_eq_true,bne,bT];repeat' (first|refine al ?_ ?_|fail)<;>intro h<;>simp only[h,go_sem,go_sem_proc,uq,rp,JB,bU,gK,dr,aa,bo,bH,ef,bX,d1,d2,d3,iv,oB,oN,X,es,ah,beq_self_eq_true,bne,bT]
 ·have iv:=ay9 hf;rw[b5 hf];simp only[go_sem,go_sem_proc,uq,rp,bU,gK,dr,aa,bo,bH,ef,bX,d1,d2,d3,iv,es,ah,bne,cp];repeat' (first|refine al ?_ ?_|fail)<;>intro h<;>simp only[h,go_sem,go_sem_proc,uq,rp,bU,gK,dr,aa,bo,bH,ef,bX,d1,d2,d3,iv,es,ah,bne,cp]
def Af:=cy wZ λ(s,l,s2,aa,bY,bo,b7,bH)=>cT (D l<=1000000/\D aa<=1000000/\D bo<=1000000/\D bH<=1000000) (.same (.int .i64 (pf ((s,l),(s2,aa)) ((bY,bo),(b7,bH)))))
@[go_sem] theorem aza (s:Int)(l:List Int)(s2:Int)(aa:List Int)(bY:Int)(bo:List Int)(b7:Int)(bH:List Int)(H:(D l)<=1000000/\D aa<=1000000/\D bo<=1000000/\D bH<=1000000):Af [.agg [.int .i64 s,.Y (l.map ae),.int .i64 s2,.Y (aa.map ae)],.agg [.int .i64 bY,.Y (bo.map ae),.int .i64 b7,.Y (bH.map ae)]]=some (.same (.int .i64 (pf ((s,l),(s2,aa)) ((bY,bo),(b7,bH))))):=(cF zM (s,l,s2,aa,bY,bo,b7,bH)).trans (cY H _)
theorem azb (T:bm)(fS:T qy=aO Dp)(JB:T HX=aO NW)(s:Int)(l:List Int)(s2:Int)(aa:List Int)(bY:Int)(bo:List Int)(b7:Int)(bH:List Int)(H:(D l)<=1000000/\D aa<=1000000/\D bo<=1000000/\D bH<=1000000):WP T Y8 (.same (.int .i64 (pf ((s,l),(s2,aa)) ((bY,bo),(b7,bH))))) [.I (.agg [.int .i64 s,.Y (l.map ae),.int .i64 s2,.Y (aa.map ae)]),.I (.agg [.int .i64 bY,.Y (bo.map ae),.int .i64 b7,.Y (bH.map ae)])]:=by
 refine cH ?_;simp only[Y8];obtain⟨bt,bz,eU,fk⟩:=H;unfold pf;rcases X:dJ ((s,l),(s2,aa))
 ·refine a1 ?_;repeat' (intro h<;>simp only[h,go_sem,go_sem_proc,fS,JB,bt,bz,X]<;>try refine al ?_ ?_)
 ·rcases aZ:dJ ((bY,bo),(b7,bH))
  ·refine a1 ?_;repeat' (intro h<;>simp only[h,go_sem,go_sem_proc,fS,JB,bt,bz,eU,fk,X,aZ]<;>try refine al ?_ ?_)
  ·obtain⟨x,M,ex⟩:=(Bt _).1 X;obtain⟨y,ao,zh⟩:=(Bt _).1 aZ;have ai:NW [.agg (bU (bd x.num)),.agg (bU (bd x.den)),.agg (bU (bd y.num)),.agg (bU (bd y.den))]=some (.same (.int .i64 (x.num*y.den-y.num*x.den).sign)):=ay4 ⟨M.1,qB M,ao.1,qB ao,den_pos x,den_pos y⟩;unfold aq at ex zh;simp only[fJ] at ex zh;obtain⟨ay,aA⟩:=ex;obtain⟨bQ,bL⟩:=zh;rw[<-ay,<-aA,<-bQ,<-bL] at ai
   have aN:(hs (s,l)*hs (b7,bH)-hs (bY,bo)*hs (s2,aa))=x.num*y.den-y.num*x.den:=by
    rw[ay,aA,bQ,bL,fe,fe,fe,fe]
   simp only[bU] at ai;rw[ad rfl,ad rfl,aN];refine a1 ?_;repeat' (intro h<;>simp only[h,go_sem,go_sem_proc,fS,JB,bt,bz,eU,fk,X,aZ,ai]<;>try refine al ?_ ?_)
theorem Sw {x y:Rat}(M:dX x)(ao:dX y)(h:qD x (-y)=true):Dq [.agg (aw (aq x)),.agg (aw (aq y))]=some (.same (.cB [.agg (aw (aq (x-y))),.int .i64 0])):=by
 have G:=lP M;have J:=lP ao;have:=au2 (aq x).1.1 (aq x).1.2 (aq x).2.1 (aq x).2.2 (aq y).1.1 (aq y).1.2 (aq y).2.1 (aq y).2.2 ⟨G.1,G.2,J.1,J.2⟩;have e:kf (aq x) (aq y)=(aq (x-y),0):=by rw[Mo M ao,h];rfl
 exact this.trans (by show some (eM.same (cQ (kf (aq x) (aq y))))=_;rw[e];rfl)
theorem ak1 {x y:Rat}(M:dX x)(ao:dX y)(h:zQ x y=true):FK [.agg (aw (aq x)),.agg (aw (aq y))]=some (.same (.cB [.agg (aw (aq (x*y))),.int .i64 0])):=by
 have G:=lP M;have J:=lP ao;have:=au4 (aq x).1.1 (aq x).1.2 (aq x).2.1 (aq x).2.2 (aq y).1.1 (aq y).1.2 (aq y).2.1 (aq y).2.2 ⟨G.1,G.2,J.1,J.2⟩;have e:h2 (aq x) (aq y)=(aq (x*y),0):=by rw[QL M ao,h];rfl
 exact this.trans (by show some (eM.same (cQ (h2 (aq x) (aq y))))=_;rw[e];rfl)
theorem ak2 {x y:Rat}(M:dX x)(ao:dX y)(h:qD x y=true):Fy [.agg (aw (aq x)),.agg (aw (aq y))]=some (.same (.cB [.agg (aw (aq (x+y))),.int .i64 0])):=by
 have G:=lP M;have J:=lP ao;have:=atK (aq x).1.1 (aq x).1.2 (aq x).2.1 (aq x).2.2 (aq y).1.1 (aq y).1.2 (aq y).2.1 (aq y).2.2 ⟨G.1,G.2,J.1,J.2⟩;have e:vv (aq x) (aq y)=(aq (x+y),0):=by rw[ahq M ao,h];rfl
 exact this.trans (by show some (eM.same (cQ (vv (aq x) (aq y))))=_;rw[e];rfl)
theorem Sx {x y:Rat}(M:dX x)(ao:dX y)(h:qD x (-y)=true):zN [.agg (aw (aq x)),.agg (aw (aq y))]=some (.same (.cB [.agg (aw (aq (x-y))),.int .i64 0])):=by
 have G:=lP M;have J:=lP ao;have:=atM (aq x).1.1 (aq x).1.2 (aq x).2.1 (aq x).2.2 (aq y).1.1 (aq y).1.2 (aq y).2.1 (aq y).2.2 ⟨G.1,G.2,J.1,J.2⟩;have e:kf (aq x) (aq y)=(aq (x-y),0):=by rw[Mo M ao,h];rfl
 exact this.trans (by show some (eM.same (cQ (kf (aq x) (aq y))))=_;rw[e];rfl)
theorem ak3 {x y:Rat}(M:dX x)(ao:dX y)(h:zQ x y=true):zP [.agg (aw (aq x)),.agg (aw (aq y))]=some (.same (.cB [.agg (aw (aq (x*y))),.int .i64 0])):=by
 have G:=lP M;have J:=lP ao;have:=atO (aq x).1.1 (aq x).1.2 (aq x).2.1 (aq x).2.2 (aq y).1.1 (aq y).1.2 (aq y).2.1 (aq y).2.2 ⟨G.1,G.2,J.1,J.2⟩;have e:h2 (aq x) (aq y)=(aq (x*y),0):=by rw[QL M ao,h];rfl
 exact this.trans (by show some (eM.same (cQ (h2 (aq x) (aq y))))=_;rw[e];rfl)
theorem azc {x y:Rat}(M:dX x)(ao:dX y)(aj:y≠0)(h:w2 x y=true):MJ [.agg (aw (aq x)),.agg (aw (aq y))]=some (.same (.cB [.agg (aw (aq (x/y))),.int .i64 0])):=by
 have G:=lP M;have J:=lP ao;have:=au6 (aq x).1.1 (aq x).1.2 (aq x).2.1 (aq x).2.2 (aq y).1.1 (aq y).1.2 (aq y).2.1 (aq y).2.2 ⟨G.1,G.2,J.1,J.2⟩;have e:fG (aq x) (aq y)=(aq (x/y),0):=by rw[Mp M ao aj,h];rfl
 exact this.trans (by show some (eM.same (cQ (fG (aq x) (aq y))))=_;rw[e];rfl)
theorem azd {x y:Rat}(M:dX x)(ao:dX y)(aj:y≠0)(h:w2 x y=true):Fz [.agg (aw (aq x)),.agg (aw (aq y))]=some (.same (.cB [.agg (aw (aq (x/y))),.int .i64 0])):=by
 have G:=lP M;have J:=lP ao;have:=atQ (aq x).1.1 (aq x).1.2 (aq x).2.1 (aq x).2.2 (aq y).1.1 (aq y).1.2 (aq y).2.1 (aq y).2.2 ⟨G.1,G.2,J.1,J.2⟩;have e:fG (aq x) (aq y)=(aq (x/y),0):=by rw[Mp M ao aj,h];rfl
 exact this.trans (by show some (eM.same (cQ (fG (aq x) (aq y))))=_;rw[e];rfl)
theorem Sy {x y:Rat}(M:dX x)(ao:dX y):Af [.agg (aw (aq x)),.agg (aw (aq y))]=some (.same (.int .i64 (mI x y))):=by
 have G:=lP M;have J:=lP ao;have:=aza (aq x).1.1 (aq x).1.2 (aq x).2.1 (aq x).2.2 (aq y).1.1 (aq y).1.2 (aq y).2.1 (aq y).2.2 ⟨G.1,G.2,J.1,J.2⟩;exact this.trans (by show some (eM.same (.int .i64 (pf (aq x) (aq y))))=_;rw[QM M ao])
theorem Sz {x y:Rat}(M:dX x)(ao:dX y):zS [.agg (aw (aq x)),.agg (aw (aq y))]=some (.same (.int .i64 (mI x y))):=by
 have G:=lP M;have J:=lP ao;have:=ahx (aq x).1.1 (aq x).1.2 (aq x).2.1 (aq x).2.2 (aq y).1.1 (aq y).1.2 (aq y).2.1 (aq y).2.2 ⟨G.1,G.2,J.1,J.2⟩;exact this.trans (by show some (eM.same (.int .i64 (pf (aq x) (aq y))))=_;rw[QM M ao])
theorem ak4 {x y:Rat}:decide (mI x y>0)=decide (y<x):=by
 have G:mI x y>0↔y<x:=by
  unfold mI;rw[gt_iff_lt,Int.sign_pos_iff,Rat.lt_iff];omega
 rw[decide_eq_decide];exact G
theorem abQ {x y:Rat}:decide (mI x y<0)=decide (x<y):=by
 have G:mI x y<0↔x<y:=by
  unfold mI;rw[Int.sign_neg_iff,Rat.lt_iff];omega
 rw[decide_eq_decide];exact G
theorem SA {x y:Rat}:decide (mI x y>=0)=decide (y<=x):=by
 have G:mI x y>=0↔y<=x:=by
  unfold mI;rw[ge_iff_le,Int.sign_nonneg_iff,Rat.le_iff];omega
 rw[decide_eq_decide];exact G
end Go.Mini
namespace Go.Mini
open Go
variable {P:Program} {A:Nat->Prop} {w aV:World} {B bR:ft} {mem mem':Mem}
def rF (N:List R->Mem->Option Data)(args:List R)(mem:Mem):Option hY:=(N args mem).map λd => .rel (A6 (.I d) mem)
@[go_sem] theorem aKr (N:List R->Mem->Option Data)(args:List R)(mem:Mem):rF N args mem=(N args mem).map λd => .rel (A6 (.I d) mem):=bN
theorem JC {T : bm}{kb : Nat}{own : List Nat}(dy : rY P T)(hm : P.follows .mixedOrders = true){f : FuncId}{fn : Func}{mf : b1}(aD : P.funcs[f]? = some fn)(u5 : (fn.name == "runtime.NumGoroutine") = false)(bc : tI P kb own fn = some { mf with body := erase mf.body })
  (dI:Key->Prop) {N:List R->Mem->Option Data}
  (h:∀args mem d,N args mem=some d->(D args)<=mf.n/\(∀j,dI j->mem j=none) /\
   wp T mf.body (qG mf.res λm mem'=>dx 6 emp m=some d/\∀j,¬ dI j->mem' j=mem j) ⟨l1 args,mem⟩):mJ P f (rF N):=by
 refine⟨Zj aD u5 bc,λargs mem q0 gQ A w B vs cw aN=>?_⟩;unfold rF at gQ;rw[Option.map_eq_some_iff] at gQ;obtain⟨d,oC,rfl⟩:=gQ;obtain⟨hlen,zY,A4⟩:=h args mem d oC;refine Calls.mono (Lh (Post:=λm mem'=>dx 6 emp m=some d/\∀j,¬ dI j->mem' j=mem j) dy hm aD bc hlen (λe st L=>Zi L) A4 cw aN) λe aV he=>?_;obtain⟨v,m,mem',bR,rfl,Q,tK,ab,ia⟩:=he;exact⟨v,.I d,mem,vB dI bR,rfl,Q.drop cw zY zY (λj ax=>(ia j ax).symm) (λk g cs L m hm => .inr ⟨k,g,cs,L,hm⟩),.I ((U3 6 m v d ab tK).less λb ai=>ai.imp IP id),rfl,rfl⟩
open Classical in
def Ag {α:Type}(bp:α->List R->Mem->Prop)(res:α->Data):List R->Mem->Option Data:=λargs mem=>if h:∃a,bp a args mem then some (res (zq h)) else none
theorem JD {α:Type}{bp:α->List R->Mem->Prop}{res:α->Data}(uniq:∀a b args mem,bp a args mem->bp b args mem->res a=res b){a:α}{args:List R}{mem:Mem}(h:bp a args mem):Ag bp res args mem=some (res a):=by
 have M:∃b,bp b args mem:=⟨a,h⟩;unfold Ag;rw[dif_pos M,uniq _ _ _ _ (r2 M) h]
theorem JE {α:Type}{bp:α->List R->Mem->Prop}{res:α->Data}{args:List R}{mem:Mem}{d:Data}(h:Ag bp res args mem=some d):∃a,bp a args mem/\d=res a:=by
 unfold Ag at h
 split at h
 ·rename_i M;exact⟨_,r2 M,(pL h).symm⟩
 ·cases h
theorem abR {α:Type}{bp:α->List R->Mem->Prop}{bV:α->Mem->R->Mem->Prop}(uniq:∀a b args mem,bp a args mem->bp b args mem->bV a mem=bV b mem){a:α}{args:List R}{mem:Mem}(h:bp a args mem):zZ bp bV args mem=some (bV a mem):=by
 have M:∃b,bp b args mem:=⟨a,h⟩;unfold zZ;rw[dif_pos M,uniq _ _ _ _ (r2 M) h]
theorem N1 {K:bg->Prop}{st:bg}{x:cd}{i k sz kc g off:Nat}{cs:List R}(G:br st.tm x=.ptr kc g off)(J:st.mem kc=some (g,cs))(af:cs[off+i]?=some .nil)(aP:k≠kc)
  (h:K ⟨st.tm,a5 (a5 st.mem k (cA st.mem k) []) kc g (cs.set (off+i) (.ref k (cA st.mem k) sz 0 0))⟩):k1 K st (.Cn x i k sz):=by
 simp only[k1,G,J,if_true,af];rw[ad aP];exact h
theorem SB {K:bg->Prop}{st:bg}{x:cd}{i kc gc off k g sz o len:Nat}{cc cs:List R}{d:Data}(G:br st.tm x=.ptr kc gc off)(J:st.mem kc=some (gc,cc))(af:cc[off+i]?=some (.ref k g sz o len))(aP:st.mem k=some (g,cs))(bh:xK cs=true)(bK:k≠kc)(bE:dx 1 st.mem (.ref k g sz o len)=some d)
  (h:K ⟨st.tm,a5 (kill st.mem k) kc gc (cc.set (off+i) (.I d))⟩):k1 K st (.Eh x i):=by
 simp only[k1,G,J,if_true,af,aP];rw[ad ⟨trivial,bh,bK⟩,bE];exact h
def dG (n:Nat)(mem m:Mem):Prop:=∀k,k/1000≠n->m k=mem k
theorem dG.refl (n:Nat)(mem:Mem):dG n mem mem:=λ_ _=>rfl
theorem dG.dW {n k g:Nat}{cs:List R}{mem m:Mem}(h:dG n mem m)(L:k/1000=n):dG n mem (a5 m k g cs):=λj ax=>by
 have:j≠k:=λe=>ax (by rw[e];exact L);simp only[a5,this,if_false];exact h j ax
theorem dG.kill {n k:Nat}{mem m:Mem}(h:dG n mem m)(L:k/1000=n):dG n mem (kill m k):=h.dW L
theorem dG.at {n:Nat}{mem m:Mem}(h:dG n mem m)(k:Nat)(L:k/1000≠n):m k=mem k:=h k L
def lS (n:Nat)(mem:Mem):Prop:=∀k,k/1000=n->mem k=none
theorem lS.aE {n abS:Nat}{mem m:Mem}(h:lS n mem)(aD:dG abS mem m)(aM:n≠abS):lS n m:=λk L=>by rw[aD k (by omega)];exact h k L
end Go.Mini
namespace Go.Mini
open Go
def db (x:Int):R:=.I (.int .i64 x)
def hi (b:Bool):R:=.I (.bool b)
theorem xm {α:Type}{f:α->R}{l:List α}{k:Nat}{y:α}(h:l[k]?=some y):List.take 1 (List.drop k (l.map f))=[f y]:=by
 obtain⟨az,rfl⟩:=eg.1 h;rw[<-List.map_drop,List.drop_eq_getElem_cons az,eI,List.take_succ_cons,ma]
structure uI (E:List Int) (cs:List aB) (aJ:List Int) (P:List Bool) (g ct eW:Nat) (mem:Mem):Prop where
 r:mem 261029=some (g,[.I (.Y (E.map ae)),.I (.Y (cs.map bw)),.ref 261042 ct 1 0 (D aJ),.ref 261027 eW 1 0 (D P),.I (.bool false)])
 f:mem 261042=some (ct,aJ.map db)
 p:mem 261027=some (eW,P.map hi)
theorem uI.aE {E:List Int}{cs:List aB}{aJ:List Int}{P:List Bool}{g ct eW n:Nat}{mem m:Mem}(h:uI E cs aJ P g ct eW mem)(aD:dG n mem m)(aM:n≠261):uI E cs aJ P g ct eW m :=
 ⟨(aD.at 261029 (by omega)).trans h.r,(aD.at 261042 (by omega)).trans h.f,(aD.at 261027 (by omega)).trans h.p⟩
theorem ak5 {a b:List Int}(h:a.map db=b.map db):a=b:=map_inj (λx y h=>by simpa [db] using h) _ _ h
theorem aze {a b:List Bool}(h:a.map hi=b.map hi):a=b:=map_inj (λx y h=>by simpa [hi] using h) _ _ h
theorem uI.uniq {E ak6:List Int}{cs rS:List aB}{aJ ak7:List Int}{P yR:List Bool}{g ct eW ea ak8 SC:Nat}{mem:Mem}(h:uI E cs aJ P g ct eW mem)(cv:uI ak6 rS ak7 yR ea ak8 SC mem):E=ak6/\cs=rS/\aJ=ak7/\P=yR/\g=ea/\ct=ak8/\eW=SC:=by
 have G:=h.r;rw[cv.r] at G;simp only[cO,fJ,bf,R.I.injEq,Data.Y.injEq,R.ref.injEq,true_and,and_true] at G;obtain⟨ay,aA,bQ,⟨bL,-⟩,bj,-⟩:=G;have J:=h.f;rw[cv.f] at J;simp only[cO,fJ] at J;have af:=h.p;rw[cv.p] at af;simp only[cO,fJ] at af;exact⟨(map_inj hp _ _ aA).symm,(map_inj sA _ _ bQ).symm,(ak5 J.2).symm,(aze af.2).symm,ay.symm,bL.symm,bj.symm⟩
def Gu (E:List Int)(cs:List aB)(aJ:List Int)(who:Nat):Int:=E.getD who 0+cl cs λc=>if c.2.1=(who:Int)/\c.2.2.1<aJ.getD c.1.toNat 0 then c.2.2.2 else 0
structure n0 where
 E:List Int
 cs:List aB
 aJ:List Int
 P:List Bool
 g:Nat
 ct:Nat
 eW:Nat
def n0.fb (a:n0)(mem:Mem):Prop:=uI a.E a.cs a.aJ a.P a.g a.ct a.eW mem
theorem n0.uniq {a b:n0}{mem:Mem}(h:a.fb mem)(cv:b.fb mem):a=b:=by
 obtain⟨cE,cS,dU,eN,vR,uJ,ak9⟩:=a;obtain⟨c0,et,gN,hz,azf,ala,alb⟩:=b;have:=uI.uniq h cv;dsimp only at this;obtain⟨rfl,rfl,rfl,rfl,rfl,rfl,rfl⟩:=this
 rfl
def abT:List R->Mem->Option Data:=Ag (λ(a:n0×Nat) args mem=>args=[.ptr 261029 a.1.g 0,.I (.int .i64 a.2)]/\a.1.fb mem/\lS 280 mem/\g9 a.1.E a.1.cs=true/\a.1.aJ.length=a.1.E.length/\a.2<a.1.E.length) λa => .int .i64 (Gu a.1.E a.1.cs a.1.aJ a.2)
theorem azg (a:n0)(who:Nat)(mem:Mem)(G:a.fb mem)(J:lS 280 mem)(af:g9 a.E a.cs=true)(aP:(D a.aJ)=D a.E)(bh:who<D a.E):abT [.ptr 261029 a.g 0,.I (.int .i64 who)] mem=some (.int .i64 (Gu a.E a.cs a.aJ who)):=by
 refine JD (a:=(a,who)) ?_ ⟨rfl,G,J,af,aP,bh⟩;rintro⟨a,i⟩ ⟨b,j⟩ args mem ⟨ay,aA,-⟩ ⟨bQ,bL,-⟩;obtain rfl:=n0.uniq aA bL;rw[ay] at bQ;simp only[bf,R.I.injEq,Data.int.injEq,true_and,and_true] at bQ;have:i=j:=by omega
 rw[this]
theorem azh {E:List Int}{cs:List aB}(h:g9 E cs=true)(aJ:List Int)(who i:Nat):0<=E.getD who 0/\E.getD who 0<=1000000000000000/\0<=cl (cs.take i) (λc=>if c.2.1=(who:Int)/\c.2.2.1<aJ.getD c.1.toNat 0 then c.2.2.2 else 0)/\cl (cs.take i) (λc=>if c.2.1=(who:Int)/\c.2.2.1<aJ.getD c.1.toNat 0 then c.2.2.2 else 0)<=2000000000000000000:=by
 have G:=(Ad h).sum (λc=>c.2.1=(who:Int)/\c.2.2.1<aJ.getD c.1.toNat 0) i;refine⟨?_,?_,G.1,G.2⟩ <;>
 ·rw[ez]
  cases U:E[who]? with
  |none=>simp
  |some x=>have:=(hB.1 h).2.2.1 x (dS U);simp only[K8];omega
theorem azi (T:bm)(a:n0)(who:Nat)(mem:Mem)(G:a.fb mem)(J:lS 280 mem)(af:g9 a.E a.cs=true)(aP:(D a.aJ)=D a.E)(bh:who<D a.E):
  wp T Sl.body (qG Sl.res λm mem'=>dx 6 emp m=some (.int .i64 (Gu a.E a.cs a.aJ who))/\dG 280 mem mem') ⟨l1 [.ptr 261029 a.g 0,.I (.int .i64 who)],mem⟩:=by
 obtain⟨E,cs,aJ,P,g,ct,eW⟩:=a;dsimp only at *;have X:=G.r;have aD:=G.f;dsimp only at X aD;refine tQ ?_;simp only[Sl];obtain⟨a8,pZ⟩:∃x,E[who]?=some x:=⟨_,bB bh⟩;have abU:E.getD who 0=a8:=by rw[ez,pZ];rfl
 simp only[go_sem,go_sem_proc,X,aD,pZ,ae,ah,aW];refine c9 [0,1] [] (λ(i:Nat) tm m=>i<=D cs/\tm 5=.I (.int .i64 (a8+cl (cs.take i) λc=>if c.2.1=(who:Int)/\c.2.2.1<aJ.getD c.1.toNat 0 then c.2.2.2 else 0))/\tm 6=.I (.int .i64 i)/\dG 280 mem m) (λi=>D cs-i) 0 (by refine⟨by omega,?_,rfl,dG.refl _ _⟩;simp[cl,go_sem]) ?_;intro vs ms aK aF;simp only[go_sem,go_sem_proc,ah] at aK aF;subst aK aF;rintro i tm m L hm ⟨U,B1,DX,bC⟩;simp only[go_sem,go_sem_proc,bf] at L;obtain⟨ej,cL⟩:=L;have sN:=(bC.at 261029 (by omega)).trans X;have uX:=(bC.at 261042 (by omega)).trans aD;have az:=(Ad af).1;rcases dk (i<D cs) with av|b4
 ·obtain⟨⟨au,c2,c3,c4⟩,M⟩:∃c,cs[i]?=some c:=⟨_,bB av⟩;have d1:decide ((i:Int)<(D cs:Int))=true:=c5;have bl:=eu (i:=i) (by omega);have dq:=NO M λc=>if c.2.1=(who:Int)/\c.2.2.1<aJ.getD c.1.toNat 0 then c.2.2.2 else 0;have ai:=azh af aJ who i;have H:=(hB.1 af).2.2.2 _ (dS M);generalize cl (cs.take i) (λc=>if c.2.1=(who:Int)/\c.2.2.1<aJ.getD c.1.toNat 0 then c.2.2.2 else 0)=s at *;dsimp only at dq H;rw[abU] at ai;obtain⟨au,rfl⟩:∃k:Nat,au=(k:Int):=⟨au.toNat,by omega⟩
  rw[iY] at dq;have jr:IntKind.i64.wrap (a8+s+c4)=a8+s+c4:=by rw[e7 _]
  obtain⟨y,ao⟩:∃y,aJ[au]?=some y:=⟨_,bB (by omega)⟩;have Mq:aJ.getD au 0=y:=by rw[ez,ao];rfl
  have eC:au+1<=D aJ:=by omega
  have SD:au<D aJ:=by omega
  have SE:=xm (f:=db) ao;rw[Mq] at dq;rcases ay:(c2==(who:Int))
  ·have:¬ (c2=(who:Int)/\c3<y):=λh=>by rw[h.1] at ay;simp at ay
   rw[ag this] at dq;simp only[go_sem,go_sem_proc,ej,cL,B1,DX,sN,uX,M,d1,bl,jr,ay,bw,ah,aW];repeat' (first|refine al ?_ ?_|fail)<;>intro h<;>simp only[h,go_sem,go_sem_proc,ej,cL,B1,DX,sN,uX,M,d1,bl,jr,ay,bw,ah,aW]
   exact⟨i+1,by omega,by omega,by rw[dq,k9],rfl,(bC.dW (by decide)).dW (by decide)⟩
  ·have FA:=beq_iff_eq.1 ay;rcases aA:decide (c3<y)
   ·have:¬ (c2=(who:Int)/\c3<y):=λh=>of_decide_eq_false aA h.2;rw[ag this] at dq;simp only[go_sem,go_sem_proc,ej,cL,B1,DX,sN,uX,M,SE,eC,SD,d1,bl,jr,ay,aA,bw,cD,ah,aW,show ∀x,db x=.I (.int .i64 x) from λ_=>rfl];repeat' (first|refine al ?_ ?_|fail)<;>intro h<;>simp only[h,go_sem,go_sem_proc,ej,cL,B1,DX,sN,uX,M,SE,eC,SD,d1,bl,jr,ay,aA,bw,cD,ah,aW,show ∀x,db x=.I (.int .i64 x) from λ_=>rfl]
    exact⟨i+1,by omega,by omega,by rw[dq,k9],rfl,(bC.dW (by decide)).dW (by decide)⟩
   ·rw[ad ⟨FA,of_decide_eq_true aA⟩] at dq;simp only[go_sem,go_sem_proc,ej,cL,B1,DX,sN,uX,M,SE,eC,SD,d1,bl,jr,ay,aA,bw,cD,ah,aW,show ∀x,db x=.I (.int .i64 x) from λ_=>rfl];repeat' (first|refine al ?_ ?_|fail)<;>intro h<;>simp only[h,go_sem,go_sem_proc,ej,cL,B1,DX,sN,uX,M,SE,eC,SD,d1,bl,jr,ay,aA,bw,cD,ah,aW,show ∀x,db x=.I (.int .i64 x) from λ_=>rfl]
    exact⟨i+1,by omega,by omega,by rw[dq,Int.add_assoc],rfl,(bC.dW (by decide)).dW (by decide)⟩
 ·have d1:decide ((i:Int)<(D cs:Int))=false:=cu;rw[dH (by omega)] at B1;have jj:Gu E cs aJ who=a8+cl cs (λc=>if c.2.1=(who:Int)/\c.2.2.1<aJ.getD c.1.toNat 0 then c.2.2.2 else 0):=by unfold Gu;rw[abU]
  rw[jj];simp only[go_sem,go_sem_proc,ej,cL,B1,DX,sN,uX,d1,ah];repeat' (first|refine al ?_ ?_|fail)<;>intro h<;>simp only[h,go_sem,go_sem_proc,ej,cL,B1,DX,sN,uX,d1,ah]
  exact⟨_,rfl,rfl,bC⟩
theorem dG.same {n k g:Nat}{cs:List R}{mem m:Mem}(h:dG n mem m)(hm:mem k=some (g,cs)):dG n mem (a5 m k g cs):=λj ax=>by
 by_cases e:j=k
 ·subst e;simp only[a5,if_true];exact hm.symm
 ·simp only[a5,e,if_false];exact h j ax
theorem lT {z:Int}(G:-9000000000000000000<=z)(J:z<=9000000000000000000):df z:=by unfold df;omega
theorem sB.upto {cs:List aB}(h:sB cs)(i r:Int):0<=b0 cs i r/\b0 cs i r<=2000000000000000000:=by
 have:=h.sum (λc=>c.1=i/\c.2.2.1<r) (D cs);rw[List.take_length] at this;exact this
theorem alc {p q:Int}(aC:df p)(bF:df q)(aj:q≠0):gT (bd p) (bd q)=(aq ((p:Rat)/(q:Rat)),0):=by
 rw[Bu (uh aC) (uh bF) aj,R9]
def hj (cs:List aB)(i r:Int):Int:=b0 cs i (r+1)-b0 cs i r
structure SG where
 E:List Int
 cs:List aB
 b3:R
 c7:R
 g:Nat
 c:aB
def abV (a:SG)(mem:Mem):Prop:=mem 261029=some (a.g,[.I (.Y (a.E.map ae)),.I (.Y (a.cs.map bw)),a.b3,a.c7,.I (.bool false)])/\lS 281 mem/\sB a.cs/\0<=a.c.2.2.1/\a.c.2.2.1<10/\0<=a.c.2.2.2/\a.c.2.2.2<=1000000000000000/\0<hj a.cs a.c.1 a.c.2.2.1
def JF (cs:List aB)(c:aB):Rat:=(c.2.2.2:Rat)/((hj cs c.1 c.2.2.1:Int):Rat)
def N2:List R->Mem->Option Data:=Ag (λ(a:SG) args mem=>args=[.ptr 261029 a.g 0,.agg ((bw a.c).map .I)]/\abV a mem) λa => .agg (aw (aq (JF a.cs a.c)))
theorem azj (a:SG)(mem:Mem)(h:abV a mem):N2 [.ptr 261029 a.g 0,.agg ((bw a.c).map .I)] mem=some (.agg (aw (aq (JF a.cs a.c)))):=by
 refine JD (a:=a) ?_ ⟨rfl,h⟩;rintro a b args mem ⟨ay,aA,-⟩ ⟨bQ,bL,-⟩;rw[ay] at bQ;simp only[bf,R.agg.injEq,and_true] at bQ;have H:=sA _ _ (map_inj (λx y h=>R.I.inj h) _ _ bQ.2);rw[bL] at aA;simp only[cO,fJ,bf,R.I.injEq,Data.Y.injEq] at aA;have Q:=map_inj sA _ _ aA.2.2.1;rw[H,Q]
theorem azk (T:bm)(gG:T r6=aO yO)(nG:T wG=aO Dn)(a:SG)(mem:Mem)(h:abV a mem):
  wp T Sm.body (qG Sm.res λm mem'=>dx 6 emp m=some (.agg (aw (aq (JF a.cs a.c))))/\dG 281 mem mem') ⟨l1 [.ptr 261029 a.g 0,.agg ((bw a.c).map .I)],mem⟩:=by
 obtain⟨E,cs,b3,c7,g,⟨au,c2,c3,c4⟩⟩:=a;obtain⟨X,aM,cR,cL,dN,eo,gh,dn⟩:=h;dsimp only at *;refine tQ ?_;simp only[Sm,bw,eI,b6];have bl:IntKind.i64.wrap (c3+1)=c3+1:=by rw[e7 _]
 have nN:=cR.upto au (c3+1);have im:=cR.upto au c3;have aj7:b0 cs au (c3+1)-b0 cs au c3=hj cs au c3:=rfl;have jr:IntKind.i64.wrap (b0 cs au (c3+1)-b0 cs au c3)=hj cs au c3:=by rw[e7 _];rfl
 have i1:df c4:=lT (by omega) (by omega);have i2:df (hj cs au c3):=lT (by omega) (by omega);have h9:=alc i1 i2 (by omega);unfold JF;dsimp only;generalize aq ((c4:Rat)/((hj cs au c3:Int):Rat))=aR at *;obtain⟨⟨cE,cS⟩,⟨dU,eN⟩⟩:=aR;simp only[go_sem,go_sem_proc,gG,nG,X,cR,bl,jr,i1,i2,h9,cQ,aw,bne,beq_self_eq_true,bT];repeat' (first|refine al ?_ ?_|fail)<;>intro h<;>simp only[h,go_sem,go_sem_proc,gG,nG,X,cR,bl,jr,i1,i2,h9,cQ,aw,bne,beq_self_eq_true,bT]
 refine⟨_,rfl,by simp[go_sem,dx],?_⟩
 refine dG.dW ?_ (by decide);refine dG.same ?_ X;exact (((((dG.refl 281 mem).dW (by decide)).dW (by decide)).dW (by decide)).dW (by decide))
end Go.Mini
namespace Go.Mini
open Go Classical
def a9 (aJ:List Int)(i:Nat):Nat:=(aJ.getD i 10).toNat
def dK (P:List Bool)(i:Nat):Prop:=P.getD i false=true
def qb (f:Nat->Nat)(P:Nat->Prop)(i:Nat)(c:dZ):Prop:=c.to=(i:Int)/\c.bM=f c.aE/\P c.aE
def ng (d:Day)(f:Nat->Nat)(P:Nat->Prop)(i:Nat)(l:List dZ)(j:Nat):Rat:=(if i=j then 1 else 0)-ck l λc=>if qb f P i c/\c.aE=j then d.w c else 0
def qc (d:Day)(f:Nat->Nat)(P:Nat->Prop)(i:Nat)(l:List dZ):Rat:=d.st f i-ck l λc=>if qb f P i c then d.w c*d.bZ c.aE c.bM else 0
theorem SH (a b:List dZ)(aR:dZ->Rat):ck (a++b) aR=ck a aR+ck b aR:=by
 induction a with
 |nil=>simp only[ir,ck];grind
 |cons c l aH=>rw[m0,ck,ck,aH];grind
theorem azl {d:Day}{f:Nat->Nat}{P:Nat->Prop}{i j:Nat}(U:i<d.n)(ax:j<d.n):ng d f P i d.dt j=d.qa f P i j:=by
 unfold ng Day.qa;rw[ad ax]
 congr 1
 by_cases fs:P j
 ·rw[ad fs];unfold Day.W;refine uD λc _=>?_
  by_cases h:c.to=(i:Int)/\c.aE=j/\c.bM=f j
  ·have J:qb f P i c/\c.aE=j:=⟨⟨h.1,by rw[h.2.1];exact h.2.2,by rw[h.2.1];exact fs⟩,h.2.1⟩
   rw[ad h,ad J]
  ·have J:¬ (qb f P i c/\c.aE=j):=λaf=>h ⟨af.1.1,af.2,by rw[<-af.2];exact af.1.2.1⟩
   rw[ag h,ag J]
 ·rw[ag fs];exact Jh λc _=>ag λh=>fs (by rw[<-h.2];exact h.1.2.2)
theorem azm {d:Day}(ab:d.dF){f:Nat->Nat}{P:Nat->Prop}{i:Nat}:qc d f P i d.dt=d.qa f P i d.n:=by
 unfold qc Day.qa;rw[ag (by omega),<-ab.aa4 f P (λk=>d.bZ k (f k)) i]
 congr 1
 refine uD λc _=>?_
 by_cases G:c.to=(i:Int)
 ·rw[ad G]
  by_cases J:c.bM=f c.aE/\P c.aE
  ·have af:qb f P i c:=⟨G,J⟩;rw[ad J,ad af,J.1]
  ·have af:¬ qb f P i c:=λh=>J h.2;rw[ag J,ag af]
 ·have af:¬ qb f P i c:=λh=>G h.1;rw[ag G,ag af]
theorem ald (d:Day)(f:Nat->Nat)(P:Nat->Prop)(i j:Nat):ng d f P i [] j=if i=j then 1 else 0:=by unfold ng;simp only[ck];split<;>grind
theorem ale (d:Day)(f:Nat->Nat)(P:Nat->Prop)(i:Nat):qc d f P i []=d.st f i:=by unfold qc;simp only[ck];grind
theorem alf {d:Day}{f:Nat->Nat}{P:Nat->Prop}{i:Nat}{l:List dZ}{c:dZ}(h:qb f P i c)(j:Nat):ng d f P i (l++[c]) j=if j=c.aE then ng d f P i l j-d.w c else ng d f P i l j:=by
 unfold ng;rw[SH];simp only[ck]
 by_cases ax:c.aE=j
 ·have J:qb f P i c/\c.aE=j:=⟨h,ax⟩;rw[ad J,ad ax.symm];grind
 ·have J:¬ (qb f P i c/\c.aE=j):=λaf=>ax af.2;rw[ag J,ag (Ne.symm ax)];grind
theorem alg {d:Day}{f:Nat->Nat}{P:Nat->Prop}{i:Nat}{l:List dZ}{c:dZ}(h:¬ qb f P i c\/c.am=0)(j:Nat):ng d f P i (l++[c]) j=ng d f P i l j:=by
 unfold ng;rw[SH];simp only[ck];rcases h with h|h
 ·have J:¬ (qb f P i c/\c.aE=j):=λaf=>h af.1;rw[ag J];grind
 ·have J:=Day.FN (d:=d) h;rw[J]
  split<;>grind
theorem alh {d:Day}{f:Nat->Nat}{P:Nat->Prop}{i:Nat}{l:List dZ}{c:dZ}(h:qb f P i c):qc d f P i (l++[c])=qc d f P i l-d.w c*d.bZ c.aE c.bM:=by
 unfold qc;rw[SH];simp only[ck];rw[ad h];grind
theorem ali {d:Day}{f:Nat->Nat}{P:Nat->Prop}{i:Nat}{l:List dZ}{c:dZ}(h:¬ qb f P i c\/c.am=0):qc d f P i (l++[c])=qc d f P i l:=by
 unfold qc;rw[SH];simp only[ck];rcases h with h|h
 ·rw[ag h];grind
 ·rw[Day.FN h]
  split<;>grind
theorem tn {z:Int}{b:Nat}(h:z.natAbs<=2^b):eJ b (z:Rat):=⟨by rw[Rat.num_intCast];exact h,by rw[Rat.den_intCast];exact Ju⟩
theorem SI {E:List Int}{cs:List aB}(Q:e5 E cs){c:aB}(H:c∈cs):eJ 29 ((ak E cs).w (ca c)):=by
 have X:=(hB.1 Q.right).2.2.2 c H;have yG:=Q.am c H
 by_cases aj:c.2.2.2=0
 ·have:(ca c).am=0:=by show ((c.2.2.2:Int):Rat)=0;rw[aj];rfl
  rw[Day.FN this];exact⟨fA _,Ju⟩
 ·have dn:=Gl Q.right (ca c).aE (ca c).bM;have hle:=(Nr Q.right).aax (c:=ca c) (BZ H);rw[<-dn] at hle
  have G:c.2.2.2<=((kS cs (ca c).aE (ca c).bM:Nat):Int):=by
   have:((c.2.2.2:Int):Rat)<=(((kS cs (ca c).aE (ca c).bM:Nat):Int):Rat):=by rw[oJ];exact hle
   exact_mod_cast this
  have J:=Q.DR (ca c).aE (ca c).bM
  obtain⟨f1,f2⟩:=BX (q:=(ak E cs).w (ca c)) (v:=c.2.2.2) (d:=((kS cs (ca c).aE (ca c).bM:Nat):Int)) (by omega) (by
   rw[oJ,dn];refine Day.Ji ?_;rw[<-dn];have:0<kS cs (ca c).aE (ca c).bM:=by omega
   exact_mod_cast this)
  rw[lL] at f2;exact⟨by omega,by omega⟩
section
variable {E:List Int} {cs:List aB} (Q:e5 E cs) (f:Nat->Nat) (P:Nat->Prop) (i:Nat)
include Q
theorem azn:∀(l:List aB),(∀c∈l,c∈cs)->∀j,eJ (30*D l) (ng (ak E cs) f P i (l.map ca) j):=by
 have:∀n (l:List aB),D l=n->(∀c∈l,c∈cs)->∀j,eJ (30*D l) (ng (ak E cs) f P i (l.map ca) j):=by
  intro n
  induction n with
  |zero =>
   intro l az _ j;have:l=[]:=yS.1 az;subst this;rw[b6,ald];exact akm _ _
  |succ n aH =>
   intro l az hm j;rcases zv l with aj|⟨fL,c,rfl⟩
   ·subst aj;cases az
   ·rw[zw] at *;simp only[gj,s7] at az;have G:=aH fL (by omega) (λx M=>hm x (by simp[M])) j;have J:=SI Q (hm c (by simp));rw[kg,eI,b6,gj,s7]
    by_cases H:qb f P i (ca c)
    ·rw[alf H]
     split
     ·rw[Dd];exact (NC G (uH J)).mono (by omega)
     ·exact G.mono (by omega)
    ·rw[alg (.inl H)];exact G.mono (by omega)
 intro l hm j;exact this _ l rfl hm j
theorem azo:∀(l:List aB),(∀c∈l,c∈cs)->eJ (50+60*D l) (qc (ak E cs) f P i (l.map ca)):=by
 have:∀n (l:List aB),D l=n->(∀c∈l,c∈cs)->eJ (50+60*D l) (qc (ak E cs) f P i (l.map ca)):=by
  intro n
  induction n with
  |zero =>
   intro l az _;have:l=[]:=yS.1 az;subst this;rw[b6,ale,<-Gm Q.right];have:=Q.steady f i;exact (tn (b:=50) (by omega)).mono (by omega)
  |succ n aH =>
   intro l az hm;rcases zv l with aj|⟨fL,c,rfl⟩
   ·subst aj;cases az
   ·rw[zw] at *;simp only[gj,s7] at az;have G:=aH fL (by omega) (λx M=>hm x (by simp[M]));have J:=SI Q (hm c (by simp))
    have af:eJ 29 ((ak E cs).bZ (ca c).aE (ca c).bM):=by
     rw[<-ps Q.right];have:=Q.upto (ca c).aE (ca c).bM;exact tn (by omega)
    rw[kg,eI,b6,gj,s7]
    by_cases H:qb f P i (ca c)
    ·rw[alh H,Dd];exact (NC G (uH (DM J af))).mono (by omega)
    ·rw[ali (.inl H)];exact G.mono (by omega)
 intro l hm;exact this _ l rfl hm
end
end Go.Mini
namespace Go.Mini
open Go
theorem xn:df 0:=by unfold df;omega
theorem JG:df 1:=by unfold df;omega
theorem azp (T:bm)(gu:T q8=aO yN){K:eF->bg->Prop}{kk:List fB}(eh:Mem)(n:Nat)(aM:n<=60)(alj tp:R)(bD nH:Nat)(v1 v2 jb v4:R)(N3:Option (Nat×List R))(tm:Nat->R)(m:Mem)
  (bu:tm 0=alj) (bQ:tm 3=.I (.int .i64 n)) (bL:tm 4=tp) (i:Nat) (da:tm 5=.I (.int .i64 i)) (bj:tm 6=.ptr 277006 bD 0) (bJ:tm 7=.I (.int .i64 0)) (fW:m 277006=some (bD,[.ref 277043 nH 4 0 0,v1,v2,jb,v4])) (n1:m 277043=some (nH,[])) (Ah:m 277165=N3) (bC:dG 277 eh m)
  (cX:∀tm' m' N4,tm' 0=alj->tm' 3=.I (.int .i64 n)->tm' 4=tp->tm' 5=.I (.int .i64 i)->tm' 6=.ptr 277006 bD 0->m' 277006=some (bD,[.ref 277043 N4 4 0 n,v1,v2,jb,v4])->m' 277043=some (N4,aS aw (en n (aq ((0:Int):Rat))))->m' 277165=N3->dG 277 eh m'->cj T K kk (.exit 2) ⟨tm',m'⟩) :
  wp T (DS.body.sub [1,1,1,0,1,0,0,0,1,0,0,1,0,1,0]) (cj T K kk) ⟨tm,m⟩:=by
 simp only[DS,ep.sub];refine c9 [0,3,4,5,6] [277165] (λ((k,g):Nat×Nat) tm m=>k<=n/\tm 7=.I (.int .i64 k)/\m 277006=some (bD,[.ref 277043 g 4 0 k,v1,v2,jb,v4])/\m 277043=some (g,aS aw (en k (aq ((0:Int):Rat))))/\dG 277 eh m) (λ(k,_)=>n-k) (0,nH) (by refine⟨by omega,bJ,fW,n1,bC⟩) ?_;intro vs ms aK aF;simp only[go_sem,go_sem_proc,bu,bQ,bL,da,bj,Ah] at aK aF;subst aK aF;clear bu bQ bL da bj bJ fW n1 Ah bC tm m;rintro⟨k,g⟩ tm m L hm ⟨mq,bJ,fW,n1,bC⟩;simp only[go_sem,go_sem_proc,bf] at L hm;obtain⟨bu,bQ,bL,da,bj⟩:=L;rcases dk (k<n) with av|b4
 ·have d1:decide ((k:Int)<(n:Int))=true:=c5;have bl:=eu (i:=k) (by omega);have hw:=Gq 0 xn;have cg:(en k (aq ((0:Int):Rat))).length=k:=List.length_replicate;have cW:=λcs kq=>ka jS yo 277043 g 64 (en k (aq ((0:Int):Rat))) (aq ((0:Int):Rat)) (cs:=cs) kq (by omega) (by omega);rw[cg,<-List.replicate_succ'] at cW;have aKs:=cX;clear cX;generalize NF:aq ((0:Int):Rat)=nW at *;obtain⟨⟨cE,cS⟩,⟨dU,eN⟩⟩:=nW;have mP:=cW _ rfl;simp only[aw,eI,b6] at mP hw;refine a1 ?_;repeat' (intro h<;>simp only[h,go_sem,go_sem_proc,gu,bu,bQ,bL,da,bj,bJ,fW,n1,hm,d1,bl,hw,mP]<;>try refine al ?_ ?_)
  exact⟨(k+1,g+1),by dsimp only;omega,by dsimp only;omega,rfl,rfl,rfl,by repeat first|exact bC|refine dG.dW ?_ (by decide)⟩
 ·have d1:decide ((k:Int)<(n:Int))=false:=cu;obtain rfl:k=n:=by omega
  refine a1 ?_;repeat' (intro h<;>simp only[h,go_sem,go_sem_proc,bu,bQ,bL,da,bj,bJ,d1]<;>try refine al ?_ ?_)
  refine cX _ _ g ?_ ?_ ?_ ?_ ?_ fW n1 hm bC<;>simp only[dv,cx,if_false,bu,bQ,bL,da,bj]
theorem abW {N k:Nat}(x:Nat->Rat)(y:Rat):(c8 N x).set k (aq y)=c8 N λj=>if j=k then y else x j:=by
 refine Jv (by rw[kd,qQ]) λj ax=>?_;rw[mo]
 by_cases h:k=j
 ·rw[ad h,ad (by rw[qQ];omega),ad h.symm]
 ·rw[ag h,p9 _ ax,ag (Ne.symm h)]
theorem Gv {α:Type}{l:List α}{k:Nat}{d x:α}(h:l[k]?=some x):l.getD k d=x:=by rw[ez,h];rfl
theorem azq {E:List Int}{cs:List aB}(h:g9 E cs=true)(au:Nat)(c2:Int)(c3:Nat)(c4:Int):JF cs ((au:Int),c2,(c3:Int),c4)=(ak E cs).w (ca ((au:Int),c2,(c3:Int),c4)):=by
 unfold JF Day.w;have:=Jp h au c3;show ((c4:Int):Rat)/((hj cs au c3:Int):Rat)=((c4:Int):Rat)/(ak E cs).S ((au:Int)).toNat ((c3:Int)).toNat;rw[iY,iY,<-this]
 rfl
structure SJ (a:n0) (mem:Mem):Prop where
 at_:a.fb mem
 cL:lS 277 mem
 dN:lS 280 mem
 eo:lS 281 mem
 vS:e5 a.E a.cs
 aJ:(D a.aJ)=D a.E
 pl:(D a.P)=D a.E
 f10:∀x∈a.aJ,0<=x/\x<=10
 jE:sy (ak a.E a.cs) (a9 a.aJ) (dK a.P)
theorem azr (T:bm)(gu:T q8=aO yN)(gG:T r6=aO yO)(SK:T PX=rF N2)(kh:T x0=aO Dq)(qN:T CS=aO FK){K:eF->bg->Prop}{kk:List fB}(eh:Mem)(a:n0)(a4:SJ a eh)(i:Nat)(U:i<D a.E)(tp:R)(bD nH:Nat)(N3:Option (Nat×List R))(KS:List R)(tm:Nat->R)(m:Mem)
  (bu:tm 0=.ptr 261029 a.g 0) (bQ:tm 3=.I (.int .i64 (D a.E))) (bL:tm 4=tp) (da:tm 5=.I (.int .i64 i)) (bj:tm 6=.ptr 277006 bD 0) (dg:tm 8=.I (.int .i64 0)) (alk:KS=(aw (aq ((ak a.E a.cs).st (a9 a.aJ) i))).map .I) (fW:m 277006=some (bD,.ref 277043 nH 4 0 (D a.E)::KS)) (n1:m 277043=some (nH,aS aw (c8 (D a.E) λj=>if i=j then 1 else 0))) (Ah:m 277165=N3) (bC:dG 277 eh m)
  (cX:∀tm' m',tm' 0=.ptr 261029 a.g 0->tm' 3=.I (.int .i64 (D a.E))->tm' 4=tp->tm' 5=.I (.int .i64 i)->tm' 6=.ptr 277006 bD 0->m' 277006=some (bD,.ref 277043 nH 4 0 (D a.E)::(aw (aq ((ak a.E a.cs).qa (a9 a.aJ) (dK a.P) i (D a.E)))).map .I)->m' 277043=some (nH,aS aw (c8 (D a.E) ((ak a.E a.cs).qa (a9 a.aJ) (dK a.P) i)))->m' 277165=N3->dG 277 eh m'->cj T K kk (.exit 4) ⟨tm',m'⟩) :
  wp T (DS.body.sub [1,1,1,0,1,0,0,0,1,0,0,1,1,1,0,1,0]) (cj T K kk) ⟨tm,m⟩:=by
 simp only[DS,ep.sub];obtain⟨E,cs,aJ,P,g,ct,eW⟩:=a;obtain⟨bW,h0,iE,nh,Q,jg,j7,dj,iT⟩:=a4;dsimp only at *;have ab:=Q.ok;have az:=(Ad Q.right).1;have iw:=bW.r;have wA:=bW.f;have iJ:=bW.p;dsimp only at iw wA iJ
 refine c9 [0,3,4,5,6] [277165] (λ(t:Nat) tm m=>t<=D cs/\tm 8=.I (.int .i64 t)/\m 277006=some (bD,.ref 277043 nH 4 0 (D E)::(aw (aq (qc (ak E cs) (a9 aJ) (dK P) i ((cs.take t).map ca)))).map .I)/\m 277043=some (nH,aS aw (c8 (D E) (ng (ak E cs) (a9 aJ) (dK P) i ((cs.take t).map ca))))/\dG 277 eh m) (λt=>D cs-t) 0 (by
  refine⟨by omega,dg,?_,?_,bC⟩
  ·rw[fW,alk,ma,b6,ale]
  ·rw[n1,ma,b6]
   congr 3
   exact xi λk _=>(ald _ _ _ i k).symm) ?_
 intro vs ms aK aF;simp only[go_sem,go_sem_proc,bu,bQ,bL,da,bj,Ah] at aK aF;subst aK aF;clear bu bQ bL da bj dg fW n1 Ah bC alk tm m;rintro t tm m L hm ⟨cm,dg,fW,n1,bC⟩;simp only[go_sem,go_sem_proc,bf] at L hm;obtain⟨bu,bQ,bL,da,bj⟩:=L;have X:=(bC.at 261029 (by omega)).trans iw;have aD:=(bC.at 261042 (by omega)).trans wA;have aC:=(bC.at 261027 (by omega)).trans iJ;rcases dk (t<D cs) with av|b4
 ·obtain⟨⟨au,c2,c3,c4⟩,M⟩:∃c,cs[t]?=some c:=⟨_,bB av⟩;have d1:decide ((t:Int)<(D cs:Int))=true:=c5;have bl:=eu (i:=t) (by omega);have fc:=dS M;have H:=(hB.1 Q.right).2.2.2 _ fc;dsimp only at H
  have fR:(cs.take (t+1)).map ca=(cs.take t).map ca++[ca (au,c2,c3,c4)]:=by
   rw[g2,M,kg];rfl
  obtain⟨au,rfl⟩:∃k:Nat,au=(k:Int):=⟨au.toNat,by omega⟩
  obtain⟨c3,rfl⟩:∃k:Nat,c3=(k:Int):=⟨c3.toNat,by omega⟩
  obtain⟨b,ai⟩:∃b,P[au]?=some b:=⟨_,bB (by omega)⟩;obtain⟨y,ao⟩:∃y,aJ[au]?=some y:=⟨_,bB (by omega)⟩;have rG:=xm (f:=hi) ai;have px:=xm (f:=db) ao;have qK:=dj y (dS ao);have bt:au+1<=D P:=by omega
  have bz:au<D P:=by omega
  have eU:au+1<=D aJ:=by omega
  have fk:au<D aJ:=by omega
  have l3:a9 aJ au=y.toNat:=by unfold a9;rw[Gv ao]
  have yw:dK P au↔b=true:=by unfold dK;rw[Gv ai]
  have eC:ca ((au:Int),c2,(c3:Int),c4)=⟨au,c2,c3,(c4:Rat)⟩:=by
   show dZ.mk ((au:Int)).toNat c2 ((c3:Int)).toNat (c4:Rat)=_;rw[iY,iY]
  have N5:qb (a9 aJ) (dK P) i (ca ((au:Int),c2,(c3:Int),c4))↔c2=(i:Int)/\(c3:Int)=y/\b=true:=by
   rw[eC];show c2=(i:Int)/\c3=a9 aJ au/\dK P au↔_;rw[l3,yw]
   constructor
   ·rintro⟨G,J,af⟩;exact⟨G,by omega,af⟩
   ·rintro⟨G,J,af⟩;exact⟨G,by omega,af⟩
  have yy:(¬ qb (a9 aJ) (dK P) i (ca ((au:Int),c2,(c3:Int),c4))\/c4=0)->m 277006=some (bD,.ref 277043 nH 4 0 (D E)::(aw (aq (qc (ak E cs) (a9 aJ) (dK P) i ((cs.take (t+1)).map ca)))).map .I)/\m 277043=some (nH,aS aw (c8 (D E) (ng (ak E cs) (a9 aJ) (dK P) i ((cs.take (t+1)).map ca)))):=by
   intro h
   have cv:¬ qb (a9 aJ) (dK P) i (ca ((au:Int),c2,(c3:Int),c4))\/(ca ((au:Int),c2,(c3:Int),c4)).am=0:=h.imp id λh=>by
    show ((c4:Int):Rat)=0;rw[h];rfl
   rw[fR,ali cv,fW];refine⟨rfl,?_⟩;rw[n1]
   congr 3
   exact xi λk _=>(alg cv k).symm
  have p4:∀x,hi x=.I (.bool x):=λ_=>rfl;have gH:∀x,db x=.I (.int .i64 x):=λ_=>rfl;rcases ay:(c2==(i:Int))
  ·obtain⟨s1,s2⟩:=yy (.inl λh=>by have:=(N5.1 h).1;rw[this] at ay;simp at ay);simp only[go_sem,go_sem_proc,bu,bQ,bL,da,bj,dg,hm,X,M,d1,bl,ay,bw,ah,aW,bne,cp,bT];repeat' (first|refine al ?_ ?_|fail)<;>intro h<;>simp only[h,go_sem,go_sem_proc,bu,bQ,bL,da,bj,dg,hm,X,M,d1,bl,ay,bw,ah,aW,bne,cp,bT]
   exact⟨t+1,by omega,by omega,rfl,s1,s2,(bC.dW (by decide)).dW (by decide)⟩
  ·cases b
   ·obtain⟨s1,s2⟩:=yy (.inl λh=>by have:=(N5.1 h).2.2;cases this);simp only[go_sem,go_sem_proc,bu,bQ,bL,da,bj,dg,hm,X,aD,aC,M,rG,bt,bz,d1,bl,ay,bw,cD,p4,ah,aW,bne,cp,bT];repeat' (first|refine al ?_ ?_|fail)<;>intro h<;>simp only[h,go_sem,go_sem_proc,bu,bQ,bL,da,bj,dg,hm,X,aD,aC,M,rG,bt,bz,d1,bl,ay,bw,cD,p4,ah,aW,bne,cp,bT]
    exact⟨t+1,by omega,by omega,rfl,s1,s2,(bC.dW (by decide)).dW (by decide)⟩
   ·rcases aA:((c3:Int)==y)
    ·obtain⟨s1,s2⟩:=yy (.inl λh=>by have:=(N5.1 h).2.1;rw[this] at aA;simp at aA);simp only[go_sem,go_sem_proc,bu,bQ,bL,da,bj,dg,hm,X,aD,aC,M,rG,px,bt,bz,eU,fk,d1,bl,ay,aA,bw,cD,p4,gH,ah,aW,bne,cp,bT];repeat' (first|refine al ?_ ?_|fail)<;>intro h<;>simp only[h,go_sem,go_sem_proc,bu,bQ,bL,da,bj,dg,hm,X,aD,aC,M,rG,px,bt,bz,eU,fk,d1,bl,ay,aA,bw,cD,p4,gH,ah,aW,bne,cp,bT]
     exact⟨t+1,by omega,by omega,rfl,s1,s2,(bC.dW (by decide)).dW (by decide)⟩
    ·rcases N6:(c4==0)
     ·have FA:c2=(i:Int):=beq_iff_eq.1 ay;have zh:(c3:Int)=y:=beq_iff_eq.1 aA;have alm:=N5.2 ⟨FA,zh,rfl⟩;have dn:=iT.qP au (yw.2 rfl);rw[l3,<-zh,iY,<-Jp Q.right] at dn
      have aln:0<hj cs au c3:=by
       have:(0:Int)<b0 cs au (c3+1:Nat)-b0 cs au c3:=by exact_mod_cast dn
       exact this
      have o2:∀m':Mem,dG 277 eh m'->N2 [.ptr 261029 g 0,.agg ((bw ((au:Int),c2,(c3:Int),c4)).map .I)] m'=some (.agg (aw (aq ((ak E cs).w (ca ((au:Int),c2,(c3:Int),c4)))))):=λm' uX=>by
       rw[<-azq Q.right au c2 c3 c4];exact azj ⟨E,cs,.ref 261042 ct 1 0 (D aJ),.ref 261027 eW 1 0 (D P),g,((au:Int),c2,(c3:Int),c4)⟩ m' ⟨(uX.at 261029 (by omega)).trans iw,nh.aE uX (by decide),Ad Q.right,by dsimp only;omega,by dsimp only;omega,by dsimp only;omega,by dsimp only;omega,aln⟩
      have L6:=λ(dh dC:Nat) (DU u1:List R)=>o2 (a5 (a5 m 277009 dh DU) 277009 dC u1) ((bC.dW (by decide)).dW (by decide));have oC:=Q.upto au c3;have oO:df (b0 cs au c3):=lT (by omega) (by omega);have abX:=Gq (b0 cs au c3) oO;have mj:=Sr cs au c3 (Ad Q.right);have jq:=azn Q (a9 aJ) (dK P) i (cs.take t) (λc H=>tM H) au;have iL:=azo Q (a9 aJ) (dK P) i (cs.take t) λc H=>tM H;have n2:=SI Q fc;have sC:eJ 29 ((b0 cs au c3:Int):Rat):=tn (by omega);have kQ:(cs.take t).length<=12:=by have:=Q.qR;rw[fU];omega
      have ev:=Sw (je jq (by omega)) (je n2 (by omega)) (xg jq (uH n2) (by omega));have gg:=ak1 (je n2 (by omega)) (je sC (by omega)) (NB n2 sC (by omega));have tj:=Sw (je iL (by omega)) (je (DM n2 sC) (by omega)) (xg iL (uH (DM n2 sC)) (by omega))
      have yT:c8 (D E) (ng (ak E cs) (a9 aJ) (dK P) i ((cs.take (t+1)).map ca))=(c8 (D E) (ng (ak E cs) (a9 aJ) (dK P) i ((cs.take t).map ca))).set au (aq (ng (ak E cs) (a9 aJ) (dK P) i ((cs.take t).map ca) au-(ak E cs).w (ca ((au:Int),c2,(c3:Int),c4)))):=by
       rw[abW,fR];refine xi λk _=>?_;rw[alf alm,eC]
       by_cases L:k=au
       ·rw[ad L,ad L,L]
       ·rw[ag L,ag L]
      have jT:qc (ak E cs) (a9 aJ) (dK P) i ((cs.take (t+1)).map ca)=qc (ak E cs) (a9 aJ) (dK P) i ((cs.take t).map ca)-(ak E cs).w (ca ((au:Int),c2,(c3:Int),c4))*((b0 cs au c3:Int):Rat):=by
       rw[fR,alh alm,ps Q.right,eC]
      have MC:(c8 (D E) (ng (ak E cs) (a9 aJ) (dK P) i ((cs.take t).map ca))).length=D E:=qQ _ _;have abY:=p9 (N:=D E) (ng (ak E cs) (a9 aJ) (dK P) i ((cs.take t).map ca)) (k:=au) (by omega);have azs:=congrArg aq jT;clear jT yy cX N5 jq iL n2 sC fR;generalize aq (qc (ak E cs) (a9 aJ) (dK P) i ((cs.take t).map ca)-(ak E cs).w (ca ((au:Int),c2,(c3:Int),c4))*((b0 cs au c3:Int):Rat))=F1 at *;generalize aq (ng (ak E cs) (a9 aJ) (dK P) i ((cs.take t).map ca) au-(ak E cs).w (ca ((au:Int),c2,(c3:Int),c4)))=F2 at *;generalize aq ((ak E cs).w (ca ((au:Int),c2,(c3:Int),c4))*((b0 cs au c3:Int):Rat))=F3 at *;generalize aq ((b0 cs au c3:Int):Rat)=F4 at *;generalize aq ((ak E cs).w (ca ((au:Int),c2,(c3:Int),c4)))=F5 at *;generalize aq (qc (ak E cs) (a9 aJ) (dK P) i ((cs.take t).map ca))=F6 at *;generalize aq (ng (ak E cs) (a9 aJ) (dK P) i ((cs.take t).map ca) au)=F7 at *;generalize c8 (D E) (ng (ak E cs) (a9 aJ) (dK P) i ((cs.take t).map ca))=bV at *;obtain⟨⟨cE,cS⟩,⟨dU,eN⟩⟩:=F1;obtain⟨⟨c0,et⟩,⟨gN,hz⟩⟩:=F2;obtain⟨⟨f1,f2⟩,⟨f3,f4⟩⟩:=F3;obtain⟨⟨dh,dC⟩,⟨ji,m9⟩⟩:=F4;obtain⟨⟨cL,dN⟩,⟨eo,gh⟩⟩:=F5;obtain⟨⟨p1,p2⟩,⟨JH,JI⟩⟩:=F6;obtain⟨⟨jz,kJ⟩,⟨sk,sl⟩⟩:=F7;have t1:=FO abY;have t2:=z1 (l:=bV) (k:=au) (by omega);have t3:=FP (l:=bV) (k:=au) (by omega) c0 et gN hz;have EC:au<D E:=by omega
      simp only[aw,eI,b6,bw] at ev gg tj L6 abX fW;simp only[go_sem,go_sem_proc,gu,gG,SK,kh,qN,bu,bQ,bL,da,bj,dg,hm,X,aD,aC,fW,n1,M,rG,px,bt,bz,eU,fk,EC,d1,bl,ay,aA,N6,L6,mj,abX,ev,gg,tj,t1,t2,t3,bw,cD,p4,gH,ah,aW,bne,cp,bT,beq_self_eq_true];repeat' (first|refine al ?_ ?_|fail)<;>intro h<;>simp only[h,go_sem,go_sem_proc,gu,gG,SK,kh,qN,bu,bQ,bL,da,bj,dg,hm,X,aD,aC,fW,n1,M,rG,px,bt,bz,eU,fk,EC,d1,bl,ay,aA,N6,L6,mj,abX,ev,gg,tj,t1,t2,t3,bw,cD,p4,gH,ah,aW,bne,cp,bT,beq_self_eq_true]
      refine⟨t+1,by omega,by omega,rfl,by rw[azs];rfl,by rw[yT],by repeat first|exact bC|refine dG.same ?_ iw|refine dG.dW ?_ (by decide)⟩
     ·obtain⟨s1,s2⟩:=yy (.inr (beq_iff_eq.1 N6));simp only[go_sem,go_sem_proc,bu,bQ,bL,da,bj,dg,hm,X,aD,aC,M,rG,px,bt,bz,eU,fk,d1,bl,ay,aA,N6,bw,cD,p4,gH,ah,aW,bne,cp,bT];repeat' (first|refine al ?_ ?_|fail)<;>intro h<;>simp only[h,go_sem,go_sem_proc,bu,bQ,bL,da,bj,dg,hm,X,aD,aC,M,rG,px,bt,bz,eU,fk,d1,bl,ay,aA,N6,bw,cD,p4,gH,ah,aW,bne,cp,bT]
      exact⟨t+1,by omega,by omega,rfl,s1,s2,(bC.dW (by decide)).dW (by decide)⟩
 ·have d1:decide ((t:Int)<(D cs:Int))=false:=cu;rw[dH (by omega)] at fW n1;have G:qc (ak E cs) (a9 aJ) (dK P) i (cs.map ca)=(ak E cs).qa (a9 aJ) (dK P) i (D E):=azm ab;have J:c8 (D E) (ng (ak E cs) (a9 aJ) (dK P) i (cs.map ca))=c8 (D E) ((ak E cs).qa (a9 aJ) (dK P) i):=xi λk L=>azl (d:=ak E cs) U L;rw[G] at fW;rw[J] at n1;simp only[go_sem,go_sem_proc,bu,bQ,bL,da,bj,dg,X,d1,ah];repeat' (first|refine al ?_ ?_|fail)<;>intro h<;>simp only[h,go_sem,go_sem_proc,bu,bQ,bL,da,bj,dg,X,d1,ah]
  refine cX _ _ ?_ ?_ ?_ ?_ ?_ fW n1 hm bC<;>simp only[dv,cx,if_false,bu,bQ,bL,da,bj]
end Go.Mini
