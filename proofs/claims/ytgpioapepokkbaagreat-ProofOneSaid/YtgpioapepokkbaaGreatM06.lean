/- A part of the proof. -/
import Derived.Test.YtgpioapepokkbaaGreatM05
set_option linter.unusedSimpArgs false
set_option linter.unusedVariables false
set_option maxRecDepth 100000
set_option maxHeartbeats 4000000
noncomputable section
open Bool renaming and_eq_true->ec,and_false->iQ,false_and->fz,false_or->pL,not_eq_true'->pj,not_false->dD,not_not->IX,not_true->c8,or_eq_false_iff->M7,or_false->lR,true_and->gT,true_or->sq
open Decidable renaming em->dA
open Int renaming ofNat_le->amc,reduceLE->alV,reduceToNat->alW,toNat_natCast->lu
open List renaming all_eq_true->jc,any_eq_false->ug,append_assoc->gU,append_nil->fJ,concat_eq_append->Bw,cons_append->jO,count_pos_iff->amD,drop->gI,drop_eq_nil_of_le->kP,drop_succ_cons->CJ,drop_zero->lQ,eq_nil_or_concat->Bv,filter_append->rT,filter_cons_of_neg->vP,filter_cons_of_pos->ux,filter_eq_nil_iff->HX,filter_eq_self->amt,filter_nil->p9,foldl_append->aa3,foldl_cons->FG,getD_eq_getElem?_getD->en,getElem?_append_left->qo,getElem?_append_right->rb,getElem?_cons_succ->yO,getElem?_cons_zero->u0,getElem?_drop->kU,getElem?_eq_getElem->bx,getElem?_eq_some_iff->dz,getElem?_map->bq,getElem?_take->uR,getElem_of_mem->JL,length->D,length_append->fE,length_cons->hV,length_eq_zero_iff->CP,length_filter_le->od,length_map->ak,length_nil->lq,length_range->ss,length_replicate->Cq,length_set->jf,length_singleton->Af,length_take->fR,mapM_cons->lg,mapM_nil->FW,map_append->kI,map_congr_left->jM,map_cons->eE,map_drop->amu,map_map->lo,map_nil->c1,map_take->Ca,mem_cons->hE,mem_cons_of_mem->gX,mem_cons_self->gn,mem_filter->rP,mem_iff_getElem?->tD,mem_map->dS,mem_map_of_mem->pt,mem_of_getElem?->ep,mem_range->gV,mem_singleton->tP,pairwise_append->abm,pairwise_cons->E8,range->dP,range_succ->nx,replicate->dC,replicate_succ->pG,take->gq,take_add_one->g1,take_append->FC,take_length->k3,take_of_length_le->dt,take_succ_cons->wB,take_zero->nd
open List.cons renaming injEq->bb
open Nat renaming le_of_lt->DZ,le_refl->bW,le_trans->eP,mul_one->cK,one_mul->wg,reduceEqDiff->eb,sub_self->mg,sub_zero->Ap,zero_add->kx,zero_le->fg,zero_mul->Dq
open Option renaming bind_none->kH,bind_some->kB,map_some->ll
open Option.some renaming inj->mj,injEq->cj
open Prod renaming ext->ed
open Rat renaming add_zero->oQ,div_def->HE,intCast_add->vJ,intCast_mul->p6,intCast_natCast->ob,le_refl->gd,mul_zero->nu,sub_eq_add_neg->K7,zero_add->vM,zero_mul->Cv
namespace Go.Mini
open Go
def qY (l:List ao)(r:Int):Int:=cP l λc=>if c.2.2.1<r then c.2.2.2 else 0
def gO (l:List ao)(r:Int):Int:=cP l λc=>if c.2.2.1=r then c.2.2.2 else 0
theorem ak9 (l:List ao)(r:Int):qY l (r+1)=qY l r+gO l r:=by
 unfold qY gO;rw[<-ZR];refine HL λc _=>?_
 by_cases F:c.2.2.1<r
 ·rw[ad F,ad (by omega),ae (by omega)];omega
 ·by_cases I:c.2.2.1=r
  ·rw[ad (by omega),ae F,ad I];omega
  ·rw[ae (by omega),ae F,ae I];rfl
def g5 (l:List ao)(x:Rat)(k:Nat):Rat:=pos (x-((qY l k:Int):Rat))
theorem ko.aaS {l:List ao}(h:ko l)(r:Int):0<=gO l r/\gO l r<=12000000000000000:=h.bound λc=>c.2.2.1=r
theorem ko.aAj {l:List ao}(h:ko l)(r:Int):0<=qY l r/\qY l r<=12000000000000000:=h.bound λc=>c.2.2.1<r
theorem aAk (l:List ao)(x:Rat)(k:Nat):0<=g5 l x k:=HH _
theorem aAl {l:List ao}(h:ko l){x:Rat}(O:0<=x):g5 l x 0=x:=by
 have:qY l (0:Nat)=0:=by
  unfold qY
  have:(cP l λc=>if c.2.2.1<((0:Nat):Int) then c.2.2.2 else 0)=cP l λ_=>0:=HL λc G=>by
   have:=(h.c c G).2.2.2.2.1;rw[ae (by omega)]
  rw[this];clear h this
  induction l with
  |nil=>rfl
  |cons c l ax=>simp only[cP,ax];omega
 unfold g5;rw[this,p3]<;>grind
theorem aAm {l:List ao}(h:ko l){x:Rat}{k:Nat}(he:((gO l k:Int):Rat)<=g5 l x k):g5 l x (k+1)=g5 l x k-((gO l k:Int):Rat):=by
 have F:=ak9 l k;have al:=(h.aaS k).1;have aLx:(0:Rat)<=((gO l k:Int):Rat):=by exact_mod_cast al
 unfold g5 at *;rw[show ((k+1:Nat):Int)=(k:Int)+1 by omega,F,vJ]
 by_cases aE:x-((qY l k:Int):Rat)<=0
 ·have aA:=sU aE;rw[aA] at he ⊢;rw[sU (by grind)];grind
 ·have aA:=p3 (x:=x-((qY l k:Int):Rat)) (by grind);rw[aA] at he ⊢;rw[p3 (by grind)];grind
theorem aAn {l:List ao}{x:Rat}{k:Nat}(he:¬ ((gO l k:Int):Rat)<=g5 l x k):g5 l x (k+1)=0:=by
 have F:=ak9 l k;have I:=Ql (x-((qY l k:Int):Rat));unfold g5 at *;rw[show ((k+1:Nat):Int)=(k:Int)+1 by omega,F,vJ,sU (by grind)]
section
variable {l:List ao} (h:ko l) {x:Rat} {k:Nat} {c:ao} (G:c∈l) (Q:c.2.2.1=k)
include h G Q
theorem ala:cS l c.1 c.2.2.1=qY l k/\kK l c.1 c.2.2.1=gO l k:=by
 rw[Q];exact⟨(h.less G k).symm,(h.same G k).symm⟩
theorem aAo (he:((gO l k:Int):Rat)<=g5 l x k):ff l x c=(c.2.2.2:Rat):=by
 obtain⟨aA,aC⟩:=ala h G Q;have aK:∀c∈l,0<=c.2.2.2:=λc G=>(h.c c G).2.2.2.2.2.2.1
 by_cases aE:x-((qY l k:Int):Rat)<=0
 ·have al:g5 l x k=0:=sU aE;rw[al] at he;have cJ:gO l k<=0:=by exact_mod_cast he
  have aN:=ajG aK G;rw[aC] at aN;have aLy:=aK c G;rw[ajH aK G (by rw[aA];exact aE),show c.2.2.2=0 by omega];rfl
 ·refine axP ?_;rw[aA,aC];unfold g5 at he;rwa [p3 (by grind)] at he
theorem aAp (he:¬ ((gO l k:Int):Rat)<=g5 l x k):ff l x c=(c.2.2.2:Rat)*g5 l x k/((gO l k:Int):Rat):=by
 obtain⟨aA,aC⟩:=ala h G Q;have aK:∀c∈l,0<=c.2.2.2:=λc G=>(h.c c G).2.2.2.2.2.2.1
 by_cases aE:x-((qY l k:Int):Rat)<=0
 ·have al:g5 l x k=0:=sU aE;rw[ajH aK G (by rw[aA];exact aE),al,nu,HE,Cv]
 ·have al:g5 l x k=x-((qY l k:Int):Rat):=p3 (by grind);rw[axQ (by rw[aA];grind) (by rw[aA,aC,<-al];grind),aA,aC,al]
end
theorem alb {l:List ao}{x:Rat}(h:H5 l x)(k:Nat):dT 515 (g5 l x k):=by
 have gu:=h.own.aAj k;unfold g5 pos
 split
 ·exact (show dT 1 0 from⟨by decide,by decide⟩).mono (by omega)
 ·rw[K7];exact (ah8 h.sz (HR (AB (z:=qY l k) (b:=54) (by omega)))).mono (by omega)
def aaT:=cp H6 λ(x,a,b)=>some (.same (.bool (decide (a<=x)&&decide (x<=b))))
@[go_sem] theorem aLz (x:Int)(a:Int)(b:Int):aaT [.int .i64 x,.int .i64 a,.int .i64 b]=some (.same (.bool (decide (a<=x)&&decide (x<=b)))):=cA Q4 (x,a,b)
theorem aAq (T:bh)  (x:Int) (a:Int) (b:Int):WP T ZB (.same (.bool (decide (a<=x)&&decide (x<=b)))) [.J (.int .i64 x),.J (.int .i64 a),.J (.int .i64 b)]:=by
 refine cB ?_;simp only[ZB];rcases aI:decide (a<=x)
 ·have c2:decide (x>=a)=false:=aI;refine aX ?_;repeat' (intro h<;>simp only[h,go_sem,go_sem_proc,aI,c2,fz]<;>try refine aw ?_ ?_)
 ·have c2:decide (x>=a)=true:=aI;refine aX ?_;repeat' (intro h<;>simp only[h,go_sem,go_sem_proc,aI,c2,gT]<;>try refine aw ?_ ?_)
abbrev aaU:List ao->List Data:=λ(l:List ao)=>[.Y (l.map cx)]
def RN:=cp aaU λ(l:List ao)=>cV (ko l) (.same (.bool true))
theorem aAr:∀a b,aaU a=aaU b->a=b:=by
  intro dY ai h;simp only[bb,Data.Y.injEq,and_true] at h;exact map_inj s3 _ _ h
@[go_sem] theorem aLA (l:List ao)(G:ko l):RN [.Y (l.map cx)]=some (.same (.bool true)):=(cA aAr l).trans (cY G _)
theorem aAs (T:bh)(MJ:T Gg=aV aaT)(l:List ao)(G:ko l):WP T Zz (.same (.bool true)) [.J (.Y (l.map cx))]:=by
 refine cB ?_;simp only[Zz];have aq:=G.len;simp only[go_sem,go_sem_proc,MJ,ak];refine dv [0,5,6] [] (λ(i:Nat) tm mem=>i<=D l/\tm 7=.J (.int .i64 i)) (λi=>D l-i) 0 (by refine⟨by omega,rfl⟩) ?_;intro vs ms aT aR;simp only[go_sem,go_sem_proc,MJ,ak] at aT aR;subst aT aR;rintro i tm mem Q hm ⟨M,bH⟩;simp only[go_sem,go_sem_proc,MJ,bb] at Q hm;obtain⟨al,bk,bI⟩:=Q;rcases dA (i<D l) with ay|b9
 ·have d1:decide ((i:Int)<(D l:Int))=true:=dn;have b4:=e9 (i:=i) (by omega);obtain⟨⟨aI,c2,c3,c4⟩,O⟩:∃c,l[i]?=some c:=⟨_,bx ay⟩;obtain⟨⟨cU,de,a3,a4⟩,rG⟩:∃c,l[0]?=some c:=⟨_,bx (by omega)⟩;have hp:=G.c _ (ep O);have xY:=G.one _ (ep O) _ (ep rG);dsimp only at hp xY;subst xY;have ha:(decide (0<=aI)&&decide (aI<=59))=true:=by simp only[ec,decide_eq_true_eq];omega
  have fu:(decide (-1<=c2)&&decide (c2<=59))=true:=by simp only[ec,decide_eq_true_eq];omega
  have uo:(decide (0<=c3)&&decide (c3<=9))=true:=by simp only[ec,decide_eq_true_eq];omega
  have oa:(decide (0<=c4)&&decide (c4<=1000000000000000))=true:=by simp only[ec,decide_eq_true_eq];omega
  refine aX ?_;repeat' (intro h<;>simp only[h,go_sem,go_sem_proc,MJ,al,bk,bI,bH,O,rG,d1,b4,ha,fu,uo,oa,cx,bne,beq_self_eq_true,c8,ak,bq]<;>try refine aw ?_ ?_)
  exact⟨i+1,by omega,by omega,rfl⟩
 ·have d1:decide ((i:Int)<(D l:Int))=false:=dk;have d2:decide ((D l:Int)<=2000)=true:=dn;refine aX ?_;repeat' (intro h<;>simp only[h,go_sem,go_sem_proc,MJ,al,bk,bI,bH,d1,d2,ak]<;>try refine aw ?_ ?_)
theorem aAt (T:bh){K:eX->bd->Prop}{kk:List gz}(l:List ao)(aq:ko l)(k:Nat)(v1 v6 r0:R)(EU:R)(bV oq alc:Option (Nat×List R))(tm:Nat->R)(m:Mem)
  (aA:tm 1=v1) (bY:tm 6=v6) (bR:tm 7=r0) (ef:tm 8=.J (.int .i64 k)) (fF:tm 9=.J (.int .i64 0)) (nG:tm 37=EU) (IA:tm 40=.J (.Y (l.map cx))) (IB:tm 41=.J (.int .i64 (D l))) (IC:tm 42=.J (.int .i64 0)) (cM:m 249002=bV) (k5:m 249007=oq) (ot:m 249035=alc)
  (dN:∀tm' m',tm' 1=v1->tm' 6=v6->tm' 7=r0->tm' 8=.J (.int .i64 k)->tm' 9=.J (.int .i64 (gO l k))->tm' 37=EU->m' 249002=bV->m' 249007=oq->m' 249035=alc->cG T K kk (.exit 2) ⟨tm',m'⟩) :
  wp T (ED.body.sub [1,1,1,1,0,1,0,0,1,1,0,0,1,1,0,1,0]) (cG T K kk) ⟨tm,m⟩:=by
 simp only[ED,eA.sub];have ah:=λt=>aq.cs.sum (λc=>c.2.2.1=(k:Int)) t;have hlen:=aq.len;refine dv [1,6,7,8,37,40,41] [249002,249007,249035] (λ(t:Nat) tm m=>t<=D l/\tm 42=.J (.int .i64 t)/\tm 9=.J (.int .i64 (gO (l.take t) k))) (λt=>D l-t) 0 (by refine⟨by omega,IC,fF⟩) ?_;intro vs ms aT aR;simp only[go_sem,go_sem_proc,aA,bY,bR,ef,nG,IA,IB,cM,k5,ot] at aT aR;subst aT aR;clear aA bY bR ef fF nG IA IB IC cM k5 ot tm m;rintro t tm m Q hm ⟨bD,IC,fF⟩;simp only[go_sem,go_sem_proc,bb] at Q hm;obtain⟨aA,bY,bR,ef,nG,IA,IB⟩:=Q;obtain⟨cM,k5,ot⟩:=hm;rcases dA (t<D l) with ay|b9
 ·have d1:decide ((t:Int)<(D l:Int))=true:=dn;have b4:=e9 (i:=t) (by omega);obtain⟨⟨aI,c2,c3,c4⟩,O⟩:∃c,l[t]?=some c:=⟨_,bx ay⟩
  have dy:gO (l.take (t+1)) k=gO (l.take t) k+if c3=(k:Int) then c4 else 0:=by
   unfold gO;rw[aw7 O]
  have F:=ah t;have I:=ah (t+1);have afl:gO (l.take t) k=cP (l.take t) λc=>if c.2.2.1=(k:Int) then c.2.2.2 else 0:=rfl;have aAu:gO (l.take (t+1)) k=cP (l.take (t+1)) λc=>if c.2.2.1=(k:Int) then c.2.2.2 else 0:=rfl;rw[<-afl] at F;rw[<-aAu] at I;rcases q:(c3==(k:Int))
  ·rw[ae (by have:=ne_of_beq_false q;omega),Int.add_zero] at dy;refine aX ?_;repeat' (intro h<;>simp only[h,go_sem,go_sem_proc,aA,bY,bR,ef,fF,nG,IA,IB,IC,cM,k5,ot,O,d1,b4,q,cx,ak,bq]<;>try refine aw ?_ ?_)
   exact⟨t+1,by omega,by omega,rfl,by rw[dy]⟩
  ·rw[ad (by have:=eq_of_beq q;omega)] at dy;have My:IntKind.i64.wrap (gO (l.take t) k+c4)=gO (l.take (t+1)) k:=by rw[dy,wrap64 _ (by omega) (by omega)]
   refine aX ?_;repeat' (intro h<;>simp only[h,go_sem,go_sem_proc,aA,bY,bR,ef,fF,nG,IA,IB,IC,cM,k5,ot,O,d1,b4,q,My,cx,ak,bq]<;>try refine aw ?_ ?_)
   exact⟨t+1,by omega,by omega,rfl,rfl⟩
 ·have d1:decide ((t:Int)<(D l:Int))=false:=dk;rw[dt (by omega)] at fF;refine aX ?_;repeat' (intro h<;>simp only[h,go_sem,go_sem_proc,aA,bY,bR,ef,fF,nG,IA,IB,IC,d1]<;>try refine aw ?_ ?_)
  refine dN _ _ ?_ ?_ ?_ ?_ ?_ ?_ cM k5 ot<;>simp only[e4,eb,if_false,aA,bY,bR,ef,fF,nG]
def lH (l:List ao)(x:Rat)(k t j:Nat):Option a1:=if (l.getD j iW).2.2.1<(k:Int)\/((l.getD j iW).2.2.1=(k:Int)/\j<t) then some (EJ l x j) else none
theorem aAv (l:List ao)(h:ko l)(x:Rat):(bF (D l) λj=>lH l x 0 0 j)=bF (D l) λ_=>none:=kL λj aj=>by
 have:=(h.c _ (ep (bx aj))).2.2.2.2.1;have e:l.getD j iW=l[j]:=by rw[en,bx aj];rfl
 unfold lH;rw[e,ae (by omega)]
theorem aAw (l:List ao)(x:Rat)(k:Nat):(bF (D l) λj=>lH l x k (D l) j)=bF (D l) λj=>lH l x (k+1) 0 j:=kL λj aj=>by
 unfold lH
 by_cases h:(l.getD j iW).2.2.1<((k+1:Nat):Int)
 ·rw[ad (by omega),ad (.inl h)]
 ·rw[ae (by omega),ae (by omega)]
theorem aAx (l:List ao)(h:ko l)(x:Rat):(bF (D l) λj=>lH l x 10 0 j)=bF (D l) λj=>some (EJ l x j):=kL λj aj=>by
 have:=(h.c _ (ep (bx aj))).2.2.2.2.2.1;have e:l.getD j iW=l[j]:=by rw[en,bx aj];rfl
 unfold lH;rw[e,ad (.inl (by omega))]
theorem MK {n:Int}(h:dB n):HW [.int .i64 n]=some (.same (.agg (aH (av (n:Rat))))):=aw9 n h
theorem aAy (T:bh)(mL:T vd=aV HW)(lZ:T wE=aV yx)(pn:T Dy=aV Ed){K:eX->bd->Prop}{kk:List gz}(l:List ao)(x:Rat)(iP:H5 l x)(k:Nat)(bM lb:Nat)(v1 EU:R)(bV:Option (Nat×List R))(tm:Nat->R)(m:Mem)
  (aA:tm 1=v1) (bY:tm 6=.ref 249035 bM 4 0 (D l)) (bR:tm 7=.ptr 249007 lb 0) (ef:tm 8=.J (.int .i64 k)) (fF:tm 9=.J (.int .i64 (gO l k))) (fA:tm 12=.J (.bool (decide (((gO l k:Int):Rat)<=g5 l x k)))) (nG:tm 37=EU) (kq:tm 60=.J (.Y (l.map cx))) (s9:tm 61=.J (.int .i64 (D l))) (EV:tm 62=.J (.int .i64 0)) (cM:m 249002=bV) (k5:m 249007=some (lb,(aH (av (g5 l x k))).map .J)) (ot:m 249035=some (bM,l4 qV (bF (D l) λj=>lH l x k 0 j)))
  (dN:∀tm' m',tm' 1=v1->tm' 6=.ref 249035 bM 4 0 (D l)->tm' 7=.ptr 249007 lb 0->tm' 9=.J (.int .i64 (gO l k))->tm' 12=.J (.bool (decide (((gO l k:Int):Rat)<=g5 l x k)))->tm' 37=EU->m' 249002=bV->m' 249007=some (lb,(aH (av (g5 l x k))).map .J)->m' 249035=some (bM,l4 qV (bF (D l) λj=>lH l x (k+1) 0 j))->cG T K kk (.exit 4) ⟨tm',m'⟩) :
  wp T (ED.body.sub [1,1,1,1,0,1,0,0,1,1,0,0,1,1,1,1,0,1,0]) (cG T K kk) ⟨tm,m⟩:=by
 simp only[ED,eA.sub];have how:=iP.own;have hlen:=how.len;refine dv [1,6,7,8,9,12,37,60,61] [249002,249007] (λ(t:Nat) tm m=>t<=D l/\tm 62=.J (.int .i64 t)/\m 249035=some (bM,l4 qV (bF (D l) λj=>lH l x k t j))) (λt=>D l-t) 0 (by refine⟨by omega,EV,ot⟩) ?_;intro vs ms aT aR;simp only[go_sem,go_sem_proc,aA,bY,bR,ef,fF,fA,nG,kq,s9,cM,k5] at aT aR;subst aT aR;clear aA bY bR ef fF fA nG kq s9 EV cM k5 ot tm m;rintro t tm m Q hm ⟨bD,EV,ot⟩;simp only[go_sem,go_sem_proc,bb] at Q hm;obtain⟨aA,bY,bR,ef,fF,fA,nG,kq,s9⟩:=Q;obtain⟨cM,k5⟩:=hm;rcases dA (t<D l) with ay|b9
 ·have d1:decide ((t:Int)<(D l:Int))=true:=dn;have b4:=e9 (i:=t) (by omega);obtain⟨⟨aI,c2,c3,c4⟩,O⟩:∃c,l[t]?=some c:=⟨_,bx ay⟩;have gR:=ep O;have lN:=how.c _ gR;dsimp only at lN;have wm:l.getD t iW=(aI,c2,c3,c4):=by rw[en,O];rfl
  have ML:=ZP (q:=λj=>lH l x k t j) ay;rcases q:(c3==(k:Int))
  ·have bC:c3≠(k:Int):=ne_of_beq_false q
   have hK:(bF (D l) λj=>lH l x k (t+1) j)=bF (D l) λj=>lH l x k t j:=kL λj _=>by
    unfold lH
    by_cases aj:j=t
    ·subst aj;rw[wm];dsimp only
     by_cases F:c3<(k:Int)
     ·rw[ad (.inl F),ad (.inl F)]
     ·rw[ae (by omega),ae (by omega)]
    ·by_cases F:(l.getD j iW).2.2.1<(k:Int)\/((l.getD j iW).2.2.1=(k:Int)/\j<t)
     ·rw[ad F,ad (by omega)]
     ·rw[ae F,ae (by omega)]
   refine aX ?_;repeat' (intro h<;>simp only[h,go_sem,go_sem_proc,aA,bY,bR,ef,fF,fA,nG,kq,s9,EV,cM,k5,O,d1,b4,q,cx,bne,dD,ak,bq]<;>try refine aw ?_ ?_)
   exact⟨t+1,by omega,by omega,rfl,by rw[hK];exact ot⟩
  ·have aaV:c3=(k:Int):=eq_of_beq q;have mH:=λa b c d=>ZQ (q:=λj=>lH l x k t j) ay a b c d
   have uX:∀aO:a1,aO=EJ l x t->(bF (D l) λj=>if j=t then some aO else lH l x k t j)=bF (D l) λj=>lH l x k (t+1) j:=by
    intro aO e5;refine kL λj _=>?_
    by_cases aj:j=t
    ·subst aj;rw[ad rfl];unfold lH;rw[wm,ad (.inr ⟨aaV,by omega⟩),e5]
    ·rw[ae aj];unfold lH
     by_cases F:(l.getD j iW).2.2.1<(k:Int)\/((l.getD j iW).2.2.1=(k:Int)/\j<t)
     ·rw[ad F,ad (by omega)]
     ·rw[ae F,ae (by omega)]
   have ald:EJ l x t=av (ff l x (aI,c2,c3,c4)):=by unfold EJ;rw[wm]
   have ale:dB c4:=qa (by omega) (by omega);have RO:=MK ale;rcases c7:decide (((gO l k:Int):Rat)<=g5 l x k)
   ·have aAz:=of_decide_eq_false c7;have aAA:=how.aaS k;have ID:dB (gO l k):=qa (by omega) (by omega);have EW:=MK ID;have CO:=alb iP k;have EX:dT 54 ((c4:Int):Rat):=AB (by omega);have IE:dT 54 ((gO l k:Int):Rat):=AB (by omega);have aAB:((gO l k:Int):Rat)≠0:=by have:=aAk l x k;grind
    have f1:=ajk (uy ale) (j4 CO (by omega)) (Zh EX CO (by omega));have f2:=axv (j4 (L5 EX CO) (by omega)) (uy ID) aAB (ah6 (L5 EX CO) IE (by omega));have lG:=aAp how gR aaV aAz;dsimp only at lG;have aAC:=λa b c d=>ZQ (q:=λj=>if j=t then some ((a,b),(c,d)) else lH l x k t j) ay;have aAD:=λa b c d=>ZP (q:=λj=>if j=t then some ((a,b),(c,d)) else lH l x k t j) ay;have aK:=uX (av (((c4:Int):Rat)*g5 l x k/((gO l k:Int):Rat))) (by rw[ald,lG])
    have aAE:∀aO alf:a1,(bF (D l) λj=>if j=t then some aO else if j=t then some alf else lH l x k t j)=bF (D l) λj=>if j=t then some aO else lH l x k t j:=λaO alf=>kL λj _=>by
     by_cases aj:j=t
     ·rw[ad aj,ad aj]
     ·rw[ae aj,ae aj,ae aj]
    clear CO EX IE;generalize av (((c4:Int):Rat)*g5 l x k/((gO l k:Int):Rat))=G1 at *;generalize av (((c4:Int):Rat)*g5 l x k)=G2 at *;generalize av ((gO l k:Int):Rat)=G3 at *;generalize aaW:av (g5 l x k)=G4 at *;generalize av ((c4:Int):Rat)=G5 at *;obtain⟨⟨cD,cf⟩,⟨gS,jY⟩⟩:=G1;obtain⟨⟨F,I⟩,⟨af,aM⟩⟩:=G2;obtain⟨⟨i1,i2⟩,⟨i3,i4⟩⟩:=G3;obtain⟨⟨yR,u1⟩,⟨aAF,P2⟩⟩:=G4;obtain⟨⟨hC,ie⟩,⟨v8,vD⟩⟩:=G5;simp only[aH,eE,c1] at RO EW f1 f2 k5;have dy:=mH hC ie v8 vD;have QO:=aAC hC ie v8 vD cD cf gS jY;have aAG:=aAD hC ie v8 vD;rw[aAE,aK] at QO;refine aX ?_;repeat' (intro h<;>simp only[h,go_sem,go_sem_proc,mL,lZ,pn,aA,bY,bR,ef,fF,fA,nG,kq,s9,EV,cM,k5,ot,O,d1,b4,ay,q,c7,RO,EW,f1,f2,ML,aAG,dy,QO,cx,ak,bq,bne,beq_self_eq_true,c8,dD]<;>try refine aw ?_ ?_)
    exact⟨t+1,by omega,rfl,by omega,rfl,rfl⟩
   ·have lG:=aAo how gR aaV (of_decide_eq_true c7);dsimp only at lG;have aK:=uX (av ((c4:Int):Rat)) (by rw[ald,lG]);generalize av ((c4:Int):Rat)=G5 at *;obtain⟨⟨hC,ie⟩,⟨v8,vD⟩⟩:=G5;simp only[aH] at RO;have dy:=mH hC ie v8 vD;rw[aK] at dy;refine aX ?_;repeat' (intro h<;>simp only[h,go_sem,go_sem_proc,mL,aA,bY,bR,ef,fF,fA,nG,kq,s9,EV,cM,k5,ot,O,d1,b4,ay,q,c7,RO,ML,dy,cx,ak,bq,bne,beq_self_eq_true,c8,dD]<;>try refine aw ?_ ?_)
    exact⟨t+1,by omega,by omega,rfl,rfl⟩
 ·have d1:decide ((t:Int)<(D l:Int))=false:=dk;obtain rfl:t=D l:=by omega
  rw[aAw] at ot;refine aX ?_;repeat' (intro h<;>simp only[h,go_sem,go_sem_proc,aA,bY,bR,ef,fF,fA,nG,kq,s9,EV,d1]<;>try refine aw ?_ ?_)
  refine dN _ _ ?_ ?_ ?_ ?_ ?_ ?_ cM k5 ot<;>simp only[e4,eb,if_false,aA,bY,bR,fF,fA,nG]
abbrev aaX:Rat×(List ao)->List Data:=λ(x,l)=>[.agg (aH (av x)),.Y (l.map cx)]
def RP:=cp aaX λ(x,l)=>cV (H5 l x) (.same (.cI [.Y ((l.map λc=>av (ff l x c)).map aH),.int .i64 0]))
theorem aAH:∀a b,aaX a=aaX b->a=b:=by
  rintro⟨a8,dY⟩ ⟨bV,ai⟩ h;simp only[bb,Data.Y.injEq,Data.agg.injEq,and_true] at h;exact ed (wZ (m0 _ _ h.1)) (map_inj s3 _ _ h.2)
@[go_sem] theorem alg (x:Rat)(l:List ao)(G:H5 l x):RP [.agg (aH (av x)),.Y (l.map cx)]=some (.same (.cI [.Y ((l.map λc=>av (ff l x c)).map aH),.int .i64 0])):=(cA aAH (x,l)).trans (cY G _)
theorem aAI (T:bh)(fG:T lT=aV vu)(eK:T oI=aV tW)(mL:T vd=aV HW)(oU:T Kp=aV RN)(lZ:T wE=aV yx)(pn:T Dy=aV Ed)(m2:T yc=aV z1)(x:Rat)(l:List ao)(G:H5 l x):WP T ED (.same (.cI [.Y ((l.map λc=>av (ff l x c)).map aH),.int .i64 0])) [.J (.agg (aH (av x))),.J (.Y (l.map cx))]:=by
 refine cB ?_;simp only[ED];have hp:=G;obtain⟨how,rG,Bn⟩:=G;have kJ:=j4 Bn (by omega);have hlen:=how.len;have aAJ:=EC kJ;have RM:=H3 kJ (uy Mf);have aAK:decide (mE x ((0:Int):Rat)<0)=false:=by rw[QS];exact j9 (by have:((0:Int):Rat)=0:=rfl;grind)
 have bJ:=lA kJ;have iP:=axR l x;have f0:=MK Mf;have pO:=aAl how rG;have fW:=aAv l how x;have aS:=ajC (D l);rw[<-fW] at aS;have x5:(64*D l<=140737488355328)=True:=eq_true (by omega);have Cp:(D l<=maxLen)=True:=eq_true (by unfold maxLen;omega);generalize e5:av x=aO at *;generalize Mu:av ((0:Int):Rat)=Z at *;obtain⟨⟨cU,de⟩,⟨a3,a4⟩⟩:=aO;obtain⟨⟨jm,kl⟩,⟨z3,z4⟩⟩:=Z;simp only[aH] at f0 RM;simp only[go_sem,go_sem_proc,fG,eK,mL,oU,lZ,pn,m2,aH,aAJ,bJ.1,bJ.2,f0,RM,aAK,how,x5,Cp,aS,ak,c8,dD];refine dv [1,6,7] [249002] (λ(k:Nat) tm m=>k<=10/\tm 37=.J (.int .i64 k)/\m 249007=some (0,(aH (av (g5 l x k))).map .J)/\m 249035=some (0,l4 qV (bF (D l) λj=>lH l x k 0 j))) (λk=>10-k) 0 (by refine⟨by omega,rfl,by rw[pO,e5];rfl,rfl⟩) ?_;intro vs ms aT aR;simp only[go_sem,go_sem_proc,fG,eK,mL,oU,lZ,pn,m2,aH,ak] at aT aR;subst aT aR;rintro k tm m Q hm ⟨aLB,nG,k5,ot⟩;simp only[go_sem,go_sem_proc,fG,eK,mL,oU,lZ,pn,m2,bb] at Q hm;obtain⟨aA,bY,bR⟩:=Q;rcases dA (k<10) with ay|b9
 ·have d1:decide ((k:Int)<10)=true:=dn;have b4:=e9 (i:=k) (by omega);simp only[go_sem,go_sem_proc,fG,eK,mL,oU,lZ,pn,m2,aA,bY,bR,nG,hm,d1,ak];refine aAt T l how k (.J (.Y (l.map cx))) (.ref 249035 0 4 0 (D l)) (.ptr 249007 0 0) (.J (.int .i64 k)) _ (some (0,(aH (av (g5 l x k))).map .J)) (some (0,l4 qV (bF (D l) λj=>lH l x k 0 j))) _ _ ?_ ?_ ?_ ?_ ?_ ?_ ?_ ?_ ?_ hm k5 ot ?_
  all_goals first|(intro tm' m' ca iq hR hP mY alh fu qd ali)|(simp only[e4,eb,if_false,if_true,aA,bY,bR,nG];done)
  have aAA:=how.aaS k;have ID:dB (gO l k):=qa (by omega) (by omega);have EW:=MK ID;have CO:=alb hp k;have B7:=j4 CO (by omega);have IE:dT 54 ((gO l k:Int):Rat):=AB (by omega);have iA:=H3 B7 (uy ID);have BP:decide (mE (g5 l x k) ((gO l k:Int):Rat)>=0)=decide (((gO l k:Int):Rat)<=g5 l x k):=ajn;have jj:=ZJ B7 (uy ID) (Ex CO (HR IE) (by omega));have alj:=λ(K:eX->bd->Prop) (kk:List gz) bM lb v1 EU bV tm m=>aAy T mL lZ pn (K:=K) (kk:=kk) l x hp k bM lb v1 EU bV tm m;have Zg:((gO l k:Int):Rat)<=g5 l x k->av (g5 l x (k+1))=av (g5 l x k-((gO l k:Int):Rat)):=λh=>by rw[aAm how h]
  have gg:¬ ((gO l k:Int):Rat)<=g5 l x k->av (g5 l x (k+1))=((jm,kl),(z3,z4)):=λh=>by rw[aAn h,<-Mu];rfl
  generalize av (g5 l x k-((gO l k:Int):Rat))=G1 at *;generalize aLC:av (g5 l x k)=G2 at *;generalize av ((gO l k:Int):Rat)=G3 at *;generalize aaW:av (g5 l x (k+1))=G4 at *;obtain⟨⟨cD,cf⟩,⟨gS,jY⟩⟩:=G1;obtain⟨⟨F,I⟩,⟨af,aM⟩⟩:=G2;obtain⟨⟨i1,i2⟩,⟨i3,i4⟩⟩:=G3;simp only[aH,eE,c1] at EW iA jj qd;simp only[go_sem,go_sem_proc,fG,eK,mL,oU,lZ,pn,m2,ca,iq,hR,hP,mY,alh,fu,qd,ali,EW,iA,BP,ak];refine alj _ _ 0 0 (.J (.Y (l.map cx))) (.J (.int .i64 k)) _ _ _ ?_ ?_ ?_ ?_ ?_ ?_ ?_ ?_ ?_ ?_ fu ?_ ali ?_
  all_goals first|(intro MD cM yR Cg RQ RR IF RS eh xA RT)|(simp only[e4,eb,if_false,if_true,ca,iq,hR,hP,mY,alh];done)|(rw[qd];rfl)
  simp only[aH,eE,c1] at xA;clear alj;rcases q:decide (((gO l k:Int):Rat)<=g5 l x k)
  ·have he:=gg (of_decide_eq_false q);rw[q] at IF;simp only[go_sem,go_sem_proc,fG,eK,mL,oU,lZ,pn,m2,yR,Cg,RQ,RR,IF,RS,eh,xA,RT,f0,b4,dD,c8];repeat' (first|refine aw ?_ ?_|fail)<;>intro h<;>simp only[h,go_sem,go_sem_proc,fG,eK,mL,oU,lZ,pn,m2,yR,Cg,RQ,RR,IF,RS,eh,xA,RT,f0,b4,dD,c8]
   exact⟨k+1,by omega,by omega,rfl,by rw[aaW,he];rfl,rfl⟩
  ·have he:=Zg (of_decide_eq_true q);rw[q] at IF;simp only[go_sem,go_sem_proc,fG,eK,mL,oU,lZ,pn,m2,yR,Cg,RQ,RR,IF,RS,eh,xA,RT,EW,jj,b4,bne,beq_self_eq_true,dD,c8];repeat' (first|refine aw ?_ ?_|fail)<;>intro h<;>simp only[h,go_sem,go_sem_proc,fG,eK,mL,oU,lZ,pn,m2,yR,Cg,RQ,RR,IF,RS,eh,xA,RT,EW,jj,b4,bne,beq_self_eq_true,dD,c8]
   exact⟨k+1,by omega,by omega,rfl,by rw[aaW,he];rfl,rfl⟩
 ·have d1:decide ((k:Int)<10)=false:=dk;obtain rfl:k=10:=by omega
  rw[aAx l how x,iP,ajE] at ot;have mK:=λ(K:bd->Prop) (st:bd)=>mS (K:=K) (st:=st) nq 6 249035 0 (l.map λc=>av (ff l x c));rw[ak] at mK;simp only[go_sem,go_sem_proc,fG,eK,mL,oU,lZ,pn,m2,aA,bY,bR,nG,hm,d1,ot,mK,ak];repeat' (first|refine aw ?_ ?_|fail)<;>intro h<;>simp only[h,go_sem,go_sem_proc,fG,eK,mL,oU,lZ,pn,m2,aA,bY,bR,nG,hm,d1,ot,mK,ak]
theorem RU {fP gZ n:Nat}(key:Nat->Nat)(tN:Nat->R)(RV:∀i,i<n->key i≠fP)(C6:∀i j,i<n->j<n->key i=key j->i=j):∀r d (q:Nat->R) (m:Mem),d+r=n->m fP=some (gZ,bF n q)->(∀i,i<d->q i=tN i) ->
  (∀i,d<=i->i<n->q i=tN i\/∃g sz len cs x,q i=.ref (key i) g sz 0 len/\m (key i)=some (g,cs)/\(∀cM:Mem,cM (key i)=some (g,cs)->cz 1 cM (.ref (key i) g sz 0 len)=some x)/\tN i=.J x) ->
  ∃m',td m m'/\m' fP=some (gZ,bF n tN)/\∀k:Nat,k≠fP->(∀i,i<n->k≠key i)->m' k=m k
 |0,d,q,m,aa,F,I,_=>⟨m,.refl m,by rw[F,kL λi M=>I i (by omega)],λ_ _ _=>rfl⟩
 |r+1,d,q,m,aa,F,I,af=>by
  rcases af d (bW _) (by omega) with he|⟨g,sz,len,cs,x,aA,aC,bZ,dq⟩
  ·obtain⟨m',ca,c7,ey⟩:=RU key tN RV C6 r (d+1) q m (by omega) F (λi M=>by
    by_cases kQ:i=d
    ·rw[kQ];exact he
    ·exact I i (by omega)) λi M cw=>af i (by omega) cw
   exact⟨m',ca,c7,ey⟩
  ·have ki:d<n:=by omega
   have iz:(bF n q)[d]?=some (.ref (key d) g sz 0 len):=by rw[iV q ki,aA]
   have rh:=si.Nr fP gZ _ d (key d) g sz 0 len cs x F iz aC (RV d ki) (bZ m aC);have lk:aZ (kill m (key d)) fP gZ ((bF n q).set d (.J x)) fP=some (gZ,bF n λj=>if j=d then .J x else q j):=by rw[iH,AD]
   obtain⟨m',ca,c7,ey⟩:=RU key tN RV C6 r (d+1) (λj=>if j=d then .J x else q j) _ (by omega) lk (λi M=>by
    by_cases kQ:i=d
    ·rw[ad kQ,kQ,dq]
    ·rw[ae kQ];exact I i (by omega)) λi M cw=>by
     rw[ae (by omega)];rcases af i (by omega) cw with he|⟨c6,et,SZ,na,je,f1,f2,f3,f4⟩
     ·exact .inl he
     ·refine .inr ⟨c6,et,SZ,na,je,f1,?_,f3,f4⟩;rw[dr (RV i cw)];unfold kill;rw[dr λaQ=>by have:=C6 i d cw ki aQ;omega]
      exact f2
   refine⟨m',.step rh ca,c7,λk Q qw=>?_⟩;rw[ey k Q qw,dr Q];unfold kill;rw[dr (qw d ki)]
def gk (l:List ao)(i:Nat):List Nat:=(dP (D l)).filter λj=>(l.getD j iW).1==(i:Int)
theorem aaY (l:List ao)(c:ao)(i:Nat):gk (l++[c]) i=if c.1=(i:Int) then gk l i++[D l] else gk l i:=by
 unfold gk;have aA:(l++[c]).getD (D l) iW=c:=by rw[en,rb (bW _),mg];rfl
 have aC:(dP (D l)).filter (λj=>((l++[c]).getD j iW).1==(i:Int))=(dP (D l)).filter λj=>(l.getD j iW).1==(i:Int):=List.filter_congr λj aj=>by
  rw[en,qo (gV.1 aj),<-en]
 rw[fE,Af,nx,rT,aC]
 by_cases h:c.1=(i:Int)
 ·rw[ad h,ux (by rw[aA];simpa using h),p9]
 ·rw[ae h,vP (by rw[aA];simpa using h),p9,fJ]
theorem aaZ {l:List ao}{i j:Nat}:j∈gk l i↔j<D l/\(l.getD j iW).1=(i:Int):=by
 unfold gk;rw[rP,gV,beq_iff_eq]
theorem aa0 (l:List ao)(c:ao)(i:Nat):cu (l++[c]) i=if c.1=(i:Int) then cu l i++[c] else cu l i:=by
 unfold cu;rw[rT]
 by_cases h:c.1=(i:Int)
 ·rw[ad h,ux (by simpa using h),p9]
 ·rw[ae h,vP (by simpa using h),p9,fJ]
theorem alk (l:List ao)(i:Nat):cu l i=(gk l i).map λj=>l.getD j iW:=by
 have:∀n (l:List ao),D l=n->cu l i=(gk l i).map λj=>l.getD j iW:=by
  intro n
  induction n with
  |zero =>
   intro l aq;have:l=[]:=CP.1 aq;subst this;rfl
  |succ n ax =>
   intro l aq;rcases Bv l with al|⟨fr,c,rfl⟩
   ·subst al;cases aq
   ·rw[Bw] at *;simp only[fE,Af] at aq;have aA:(fr++[c]).getD (D fr) iW=c:=by rw[en,rb (bW _),mg];rfl
    have aC:(gk fr i).map (λj=>(fr++[c]).getD j iW)=(gk fr i).map λj=>fr.getD j iW:=jM λj aj=>by
     rw[en,qo (aaZ.1 aj).1,<-en]
    rw[aa0,aaY]
    by_cases h:c.1=(i:Int)
    ·rw[ad h,ad h,kI,aC,ax fr (by omega)];show _=_++[(fr++[c]).getD (D fr) iW];rw[aA]
    ·rw[ae h,ae h,aC,ax fr (by omega)]
 exact this _ l rfl
theorem RW (l:List ao)(i:Nat):(gk l i).length=(cu l i).length:=by rw[alk,ak]
theorem aAL (l:List ao)(i:Nat):(gk l i).length<=D l:=by
 unfold gk;exact eP (od _ _) (by rw[ss];exact bW _)
def lO (l:List ao)(gc:Nat->Nat)(i:Nat):R:=if cu l i=[] then .nil else .ref (233600+i) (gc i) 4 0 (cu l i).length
def pp (l:List ao)(gL:Nat->Nat)(i:Nat):R:=if cu l i=[] then .nil else .ref (233700+i) (gL i) 1 0 (cu l i).length
structure IG (n:Nat) (l:List ao) (gc gL:Nat->Nat) (m:Mem):Prop where
 eY:m 233019=some (0,bF n (lO l gc))
 eh:m 233022=some (0,bF n (pp l gL))
 ca:∀i,i<n->cu l i≠[]->m (233600+i)=some (gc i,bf cx (cu l i))
 c7:∀i,i<n->cu l i≠[]->m (233700+i)=some (gL i,bf ir (gk l i))
theorem IG.next {n:Nat}{l:List ao}{gc gL:Nat->Nat}{m m':Mem}(h:IG n l gc gL m)(aK:n<=6){aI:Nat}{c2 c3 c4:Int}(cD cf:Nat)
  (F:m' 233019=some (0,bF n λi=>if i=aI then .ref (233600+aI) cD 4 0 ((cu l aI).length+1) else lO l gc i)) (I:m' 233022=some (0,bF n λi=>if i=aI then .ref (233700+aI) cf 1 0 ((cu l aI).length+1) else pp l gL i))
  (af:m' (233600+aI)=some (cD,bf cx (cu l aI++[((aI:Int),c2,c3,c4)]))) (aM:m' (233700+aI)=some (cf,bf ir (gk l aI++[D l])))
  (bJ:∀i,i<n->i≠aI->m' (233600+i)=m (233600+i)/\m' (233700+i)=m (233700+i)):IG n (l++[((aI:Int),c2,c3,c4)]) (λi=>if i=aI then cD else gc i) (λi=>if i=aI then cf else gL i) m':=by
 have RX:∀i:Nat,i≠aI->cu (l++[((aI:Int),c2,c3,c4)]) i=cu l i:=λi M=>by rw[aa0,ae (by show ¬ ((aI:Int)=(i:Int));omega)]
 have OK:∀i:Nat,i≠aI->gk (l++[((aI:Int),c2,c3,c4)]) i=gk l i:=λi M=>by rw[aaY,ae (by show ¬ ((aI:Int)=(i:Int));omega)]
 have so:cu (l++[((aI:Int),c2,c3,c4)]) aI=cu l aI++[((aI:Int),c2,c3,c4)]:=by rw[aa0,ad rfl]
 have sp:gk (l++[((aI:Int),c2,c3,c4)]) aI=gk l aI++[D l]:=by rw[aaY,ad rfl]
 refine⟨?_,?_,λi M bC=>?_,λi M bC=>?_⟩
 ·rw[F]
  congr 2
  refine kL λi M=>?_;unfold lO
  by_cases G:i=aI
  ·subst G;rw[so,ad rfl,ae (by simp),fE];dsimp only;rw[ad rfl];rfl
  ·rw[RX i G,ae G];dsimp only;rw[ae G]
 ·rw[I]
  congr 2
  refine kL λi M=>?_;unfold pp
  by_cases G:i=aI
  ·subst G;rw[so,ad rfl,ae (by simp),fE];dsimp only;rw[ad rfl];rfl
  ·rw[RX i G,ae G];dsimp only;rw[ae G]
 ·by_cases G:i=aI
  ·subst G;rw[ad rfl,so];exact af
  ·rw[RX i G] at bC ⊢;rw[ae G,(bJ i M G).1];exact h.ca i M bC
 ·by_cases G:i=aI
  ·subst G;rw[ad rfl,sp];exact aM
  ·rw[RX i G] at bC;rw[OK i G,ae G,(bJ i M G).2];exact h.c7 i M bC
structure CQ (cs:List ao) (h:List Rat):Prop where
 len:(D cs)<=12
 n:(D h)<=6
 c:∀c∈cs,0<=c.1/\c.1<(D h) /\ -1<=c.2.1/\c.2.1<60/\0<=c.2.2.1/\c.2.2.1<10/\0<=c.2.2.2/\c.2.2.2<=1000000000000000
 x:∀x∈h,0<=x/\dT 460 x
theorem aAM {K:bd->Prop}{tm:Nat->R}{mem JA mem':Mem}(h:si mem JA)(I:si JA mem')(dN:∀bj,bj=mem'->K ⟨tm,bj⟩):ld K ⟨tm,mem⟩ .many:=⟨mem',.step h (.step I (.refl _)),dN _ rfl⟩
theorem aAN (T:bh){K:eX->bd->Prop}{kk:List gz}(cs:List ao)(h:List Rat)(aE:CQ cs h)(v1:R)(tm:Nat->R)(m:Mem)
  (b0:tm 0=.J (.Y (cs.map cx))) (aA:tm 1=v1) (bY:tm 6=.ref 233019 0 1 0 (D h)) (bR:tm 7=.ref 233022 0 1 0 (D h)) (xB:tm 23=.J (.Y (cs.map cx))) (xC:tm 24=.J (.int .i64 (D cs))) (hb:tm 25=.J (.int .i64 0)) (iZ:m 233057=none) (gc gL:Nat->Nat) (b8:IG (D h) [] gc gL m)
  (dN:∀tm' m' JB QU,tm' 0=.J (.Y (cs.map cx))->tm' 1=v1->tm' 6=.ref 233019 0 1 0 (D h)->tm' 7=.ref 233022 0 1 0 (D h)->m' 233057=none->IG (D h) cs JB QU m'->cG T K kk (.exit 0) ⟨tm',m'⟩) :
  wp T (Eg.body.sub [1,1,1,0,1,0]) (cG T K kk) ⟨tm,m⟩:=by
 simp only[Eg,eA.sub];have aK:=aE.n;have ji:=aE.len;refine dv [0,1,6,7,23,24] [233057] (λ((t,gc,gL):Nat×(Nat->Nat)×(Nat->Nat)) tm m=>t<=D cs/\tm 25=.J (.int .i64 t)/\IG (D h) (cs.take t) gc gL m) (λ(t,_)=>D cs-t) (0,gc,gL) (by refine⟨by omega,hb,by rw[nd];exact b8⟩) ?_;intro vs ms aT aR;simp only[go_sem,go_sem_proc,b0,aA,bY,bR,xB,xC,iZ] at aT aR;subst aT aR;clear b0 aA bY bR xB xC hb iZ b8 tm m;rintro⟨t,gc,gL⟩ tm m Q iZ ⟨bD,hb,b8⟩;simp only[go_sem,go_sem_proc,bb] at Q iZ;obtain⟨b0,aA,bY,bR,xB,xC⟩:=Q;rcases dA (t<D cs) with ay|b9
 ·have d1:decide ((t:Int)<(D cs:Int))=true:=dn;have b4:=e9 (i:=t) (by omega);obtain⟨⟨aI,c2,c3,c4⟩,O⟩:∃c,cs[t]?=some c:=⟨_,bx ay⟩;have lj:=aE.c _ (ep O);dsimp only at lj;obtain⟨aI,rfl⟩:∃k:Nat,aI=(k:Int):=⟨aI.toNat,by omega⟩
  have g2:cs.take (t+1)=cs.take t++[((aI:Int),c2,c3,c4)]:=by rw[g1,O];rfl
  have sS:(cs.take t).length=t:=by rw[fR];omega
  generalize aq:cs.take t=l at *;have gQ:aI<D h:=by omega
  have eY:=b8.eY;have eh:=b8.eh;have cD:=vZ (iV (lO l gc) gQ);have cf:=vZ (iV (pp l gL) gQ);have hC:(bF (D h) (lO l gc)).length=D h:=gM _ _;have ie:(bF (D h) (pp l gL)).length=D h:=gM _ _;have s1:=λv=>(RG (l:=bF (D h) (lO l gc)) (k:=aI) (v:=v) (by rw[gM];exact gQ)).trans (AD (lO l gc) v);have s2:=λv=>(RG (l:=bF (D h) (pp l gL)) (k:=aI) (v:=v) (by rw[gM];exact gQ)).trans (AD (pp l gL) v);have dY:aI+1<=D h:=by omega
  have mh:(1<=maxLen)=True:=eq_true (by decide);have FK:(cu l aI).length<=12:=eP (od _ _) (by omega);have o3:=RW l aI;have RY:∀i,i<(D h)->233600+i≠233009/\233600+i≠233019/\233600+i≠233022/\233600+i≠233043/\233600+i≠233051/\233600+i≠233700+aI/\233600+i≠233057:=λi M=>by omega
  have MM:∀i,i<(D h)->233700+i≠233009/\233700+i≠233019/\233700+i≠233022/\233700+i≠233043/\233700+i≠233051/\233700+i≠233600+aI/\233700+i≠233057:=λi M=>by omega
  by_cases hG:cu l aI=[]
  ·have aa1:lO l gc aI=.nil:=by unfold lO;rw[ad hG]
   have aa2:pp l gL aI=.nil:=by unfold pp;rw[ad hG]
   have AM:gk l aI=[]:=CP.1 (by rw[o3,hG];rfl);rw[aa1] at cD;rw[aa2] at cf;simp only[go_sem,go_sem_proc,mh,b0,aA,bY,bR,xB,xC,hb,O,eY,eh,cD,cf,hC,ie,s1,s2,d1,dY,gQ,cx,cK,ak,bq];obtain⟨f11,f12,f13,f14,f15,f16,f17⟩:=RY aI gQ;obtain⟨f21,f22,f23,f24,f25,f26,f27⟩:=MM aI gQ
   refine aAM (si.Nq 233019 0 _ aI 233043 (gA (m 233043)) 4 0 1 _ (233600+aI) ((dr (by decide)).trans iH) ((iV _ gQ).trans (by rw[ad rfl])) ((dr (by decide)).trans ((dr (by decide)).trans ((dr (by decide)).trans iH))) (by decide) f14 f12)
    (si.Nq 233022 0 _ aI 233051 (gA (m 233051)) 1 0 1 _ (233700+aI) ((dr (by decide)).trans ((dr (Ne.symm f13)).trans ((dr (by decide)).trans iH))) ((iV _ gQ).trans (by rw[ad rfl])) ((dr (by decide)).trans ((dr (Ne.symm f15)).trans ((dr (by decide)).trans ((dr (by decide)).trans ((dr (by decide)).trans iH))))) (by decide) f25 f23) ?_
   intro M2 g3
   have nF:∀k:Nat,k≠233009->k≠233019->k≠233022->k≠233043->k≠233051->k≠233600+aI->k≠233700+aI->M2 k=m k:=λk iN wP sy alm aln aAO aAP=>by
    rw[g3,dr sy,dr aAP,dr aln,dr wP,dr aAO,dr alm,dr sy,dr wP,dr aln,dr alm,dr iN,dr iN]
   obtain⟨RZ,xh,Ey⟩:∃RZ,M2 233019=some (0,bF (D h) λi=>if i=aI then .ref (233600+aI) RZ 4 0 ((cu l aI).length+1) else lO l gc i)/\M2 (233600+aI)=some (RZ,bf cx (cu l aI++[((aI:Int),c2,c3,c4)])):=by
    rw[hG];apply Exists.intro;apply And.intro
    rotate_left
    ·rw[g3,dr f13,dr f16,dr f15,dr f12,iH];rfl
    ·rw[g3,dr (by decide),dr (Ne.symm f22),dr (by decide),iH,AD]
     congr 2
     refine kL λi _=>?_
     by_cases M:i=aI
     ·rw[ad M,ad M];rfl
     ·rw[ae M,ae M,ae M]
   obtain⟨R0,MN,EP⟩:∃R0,M2 233022=some (0,bF (D h) λi=>if i=aI then .ref (233700+aI) R0 1 0 ((cu l aI).length+1) else pp l gL i)/\M2 (233700+aI)=some (R0,bf ir (gk l aI++[D l])):=by
    rw[hG,AM,sS];apply Exists.intro;apply And.intro
    rotate_left
    ·rw[g3,dr f23,iH];rfl
    ·rw[g3,iH,AD]
     congr 2
     refine kL λi _=>?_
     by_cases M:i=aI
     ·rw[ad M,ad M];rfl
     ·rw[ae M,ae M,ae M]
   have ix:=b8.next (m':=M2) aK RZ R0 xh MN Ey EP λi M bC=>⟨by
    obtain⟨cU,de,a3,a4,a5,s4,-⟩:=RY i M;exact nF _ cU de a3 a4 a5 (by omega) s4,by
    obtain⟨cU,de,a3,a4,a5,s4,-⟩:=MM i M;exact nF _ cU de a3 a4 a5 s4 (by omega)⟩
   have MO:M2 233057=none:=(nF 233057 (by decide) (by decide) (by decide) (by decide) (by decide) (Ne.symm f17) (Ne.symm f27)).trans iZ;clear g3 nF xh Ey MN EP;simp only[go_sem,go_sem_proc,b0,aA,bY,bR,xB,xC,hb,b4,MO];repeat' (first|refine aw ?_ ?_|fail)<;>intro h<;>simp only[h,go_sem,go_sem_proc,b0,aA,bY,bR,xB,xC,hb,b4,MO]
   exact⟨(t+1,_,_),by dsimp only;omega,by dsimp only;omega,rfl,by rw[g2];exact ix⟩
  ·have aa1:lO l gc aI=.ref (233600+aI) (gc aI) 4 0 (cu l aI).length:=by unfold lO;rw[ae hG]
   have aa2:pp l gL aI=.ref (233700+aI) (gL aI) 1 0 (gk l aI).length:=by unfold pp;rw[ae hG,o3]
   rw[aa1] at cD;rw[aa2] at cf;have ca:=b8.ca aI gQ hG;have c7:=b8.c7 aI gQ hG;have Ka:=mu EE ZC (233600+aI) (gc aI) 32 (cu l aI) ((aI:Int),c2,c3,c4) (cs:=[.J (.int .i64 aI),.J (.int .i64 c2),.J (.int .i64 c3),.J (.int .i64 c4)]) rfl (by omega) (by omega);have Bt:=mu yH ag5 (233700+aI) (gL aI) 8 (gk l aI) (D l) (cs:=[.J (.int .i64 t)]) (by rw[sS];rfl) (by omega) (by omega);obtain⟨f11,f12,f13,f14,f15,f16,f17⟩:=RY aI gQ;obtain⟨f21,f22,f23,f24,f25,f26,f27⟩:=MM aI gQ;have aLD:(233600+aI)=233600+aI:=rfl;generalize dZ:233600+aI=A at *;generalize fU:233700+aI=B at *;have MP:A≠B:=f16;have ha:(A==233009)=false:=beq_eq_false_iff_ne.2 f11;have aAQ:(233009==A)=false:=beq_eq_false_iff_ne.2 (Ne.symm f11);have fu:(A==233019)=false:=beq_eq_false_iff_ne.2 f12;have aAR:(233019==A)=false:=beq_eq_false_iff_ne.2 (Ne.symm f12);have uo:(A==233022)=false:=beq_eq_false_iff_ne.2 f13;have aAS:(233022==A)=false:=beq_eq_false_iff_ne.2 (Ne.symm f13);have oa:(A==233043)=false:=beq_eq_false_iff_ne.2 f14;have aAT:(233043==A)=false:=beq_eq_false_iff_ne.2 (Ne.symm f14);have aAU:(A==233051)=false:=beq_eq_false_iff_ne.2 f15;have aAV:(233051==A)=false:=beq_eq_false_iff_ne.2 (Ne.symm f15);have Cj:(A==B)=false:=beq_eq_false_iff_ne.2 MP;have aAW:(B==A)=false:=beq_eq_false_iff_ne.2 (Ne.symm MP);have iO:(B==233009)=false:=beq_eq_false_iff_ne.2 f21;have aAX:(233009==B)=false:=beq_eq_false_iff_ne.2 (Ne.symm f21);have ju:(B==233019)=false:=beq_eq_false_iff_ne.2 f22;have aAY:(233019==B)=false:=beq_eq_false_iff_ne.2 (Ne.symm f22);have ud:(B==233022)=false:=beq_eq_false_iff_ne.2 f23;have aAZ:(233022==B)=false:=beq_eq_false_iff_ne.2 (Ne.symm f23);have xg:(B==233043)=false:=beq_eq_false_iff_ne.2 f24;have aA0:(233043==B)=false:=beq_eq_false_iff_ne.2 (Ne.symm f24);have aA1:(B==233051)=false:=beq_eq_false_iff_ne.2 f25;have aA2:(233051==B)=false:=beq_eq_false_iff_ne.2 (Ne.symm f25);have a8:(A=233009)=False:=eq_false f11;have bV:(B=233009)=False:=eq_false f21;have cZ:(B=A)=False:=eq_false (Ne.symm MP);have ea:(233019=A)=False:=eq_false (Ne.symm f12);have iv:(233019=B)=False:=eq_false (Ne.symm f22);have mM:(233022=A)=False:=eq_false (Ne.symm f13);have oq:(233022=B)=False:=eq_false (Ne.symm f23);have aA3:(233009=A)=False:=eq_false (Ne.symm f11);have aA4:(233009=B)=False:=eq_false (Ne.symm f21);have aA5:(A=B)=False:=eq_false MP;simp only[go_sem,go_sem_proc,mh,b0,aA,bY,bR,xB,xC,hb,O,eY,eh,cD,cf,hC,ie,s1,s2,d1,dY,gQ,ca,c7,Ka,Bt,ha,aAQ,fu,aAR,uo,aAS,oa,aAT,aAU,aAV,Cj,aAW,iO,aAX,ju,aAY,ud,aAZ,xg,aA0,aA1,aA2,a8,bV,cZ,ea,iv,mM,oq,aA3,aA4,aA5,cx,cK,ak,bq];refine aaM ?_;intro M2 g3
   have nF:∀k:Nat,k≠233009->k≠233019->k≠233022->k≠A->k≠B->M2 k=m k:=λk iN wP sy dZ fU=>by
    rw[g3,dr sy,dr wP,dr fU,dr dZ,dr iN,dr iN]
   have xh:M2 233019=some (0,bF (D h) λi=>if i=aI then .ref A (gc aI+1) 4 0 ((cu l aI).length+1) else lO l gc i):=by
    rw[g3,dr (by decide),iH]
   have Ey:M2 A=some (gc aI+1,bf cx (cu l aI++[((aI:Int),c2,c3,c4)])):=by
    rw[g3,dr f13,dr f12,dr MP,iH]
   have MN:M2 233022=some (0,bF (D h) λi=>if i=aI then .ref B (gL aI+1) 1 0 ((cu l aI).length+1) else pp l gL i):=by
    rw[g3,iH,o3]
   have EP:M2 B=some (gL aI+1,bf ir (gk l aI++[D l])):=by
    rw[g3,dr f23,dr f22,iH]
   have ix:=b8.next (m':=M2) aK (c2:=c2) (c3:=c3) (c4:=c4) (gc aI+1) (gL aI+1) (by rw[dZ];exact xh) (by rw[fU];exact MN) (by rw[dZ];exact Ey) (by rw[fU];exact EP) λi M bC=>⟨by
    obtain⟨cU,de,a3,a4,a5,s4,-⟩:=RY i M;exact nF _ cU de a3 (by omega) s4,by
    obtain⟨cU,de,a3,a4,a5,s4,-⟩:=MM i M;exact nF _ cU de a3 s4 (by omega)⟩
   have MO:M2 233057=none:=(nF 233057 (by decide) (by decide) (by decide) (Ne.symm f17) (Ne.symm f27)).trans iZ;clear g3 nF xh Ey MN EP;simp only[go_sem,go_sem_proc,b0,aA,bY,bR,xB,xC,hb,b4,MO];repeat' (first|refine aw ?_ ?_|fail)<;>intro h<;>simp only[h,go_sem,go_sem_proc,b0,aA,bY,bR,xB,xC,hb,b4,MO]
   exact⟨(t+1,_,_),by dsimp only;omega,by dsimp only;omega,rfl,by rw[g2];exact ix⟩
 ·have d1:decide ((t:Int)<(D cs:Int))=false:=dk;rw[dt (by omega)] at b8;simp only[go_sem,go_sem_proc,b0,aA,bY,bR,xB,xC,hb,d1];repeat' (first|refine aw ?_ ?_|fail)<;>intro h<;>simp only[h,go_sem,go_sem_proc,b0,aA,bY,bR,xB,xC,hb,d1]
  refine dN _ _ gc gL ?_ ?_ ?_ ?_ iZ b8<;>simp only[e4,eb,if_false,b0,aA,bY,bR]
def yS (l:List Nat):R:=if l=[] then .nil else .J (.Y (l.map ir))
theorem aA6 (l:List Nat):qi (yS l)=some (D l):=by
 unfold yS
 split
 ·rename_i h;rw[h];rfl
 ·simp[qi]
theorem aA7 {l:List Nat}{n y:Nat}(h:l[n]?=some y):y8 1 n (yS l)=some (.J (.ptr (ir y))):=by
 unfold yS
 split
 ·rename_i aq;rw[aq] at h;cases h
 ·simp only[y8,bq,h,ll]
  rfl
theorem aA8 (l:List ao)(n:Nat)(m:Mem):cz n m (j6 l)=some (.Y (l.map cx)):=by
 unfold j6
 split
 ·rename_i h;rw[h];exact aqc n
 ·exact N6 n _
def IH (cs:List ao)(h:List Rat)(j:Nat):a1:=av (ff cs (h.getD (cs.getD j iW).1.toNat 0) (cs.getD j iW))
def qe (cs:List ao)(h:List Rat)(i t j:Nat):Option a1:=if (cs.getD j iW).1<(i:Int)\/((cs.getD j iW).1=(i:Int)/\j∈(gk cs i).take t) then some (IH cs h j) else none
theorem aA9 (cs:List ao)(h:List Rat)(i:Nat):(bF (D cs) λj=>qe cs h i (gk cs i).length j)=bF (D cs) λj=>qe cs h (i+1) 0 j:=kL λj aj=>by
 unfold qe;rw[k3,nd];have hm:=aaZ (l:=cs) (i:=i) (j:=j)
 by_cases F:(cs.getD j iW).1<(i:Int)
 ·rw[ad (.inl F),ad (.inl (by omega))]
 ·by_cases I:(cs.getD j iW).1=(i:Int)
  ·rw[ad (.inr ⟨I,hm.2 ⟨aj,I⟩⟩),ad (.inl (by omega))]
  ·rw[ae (λaQ=>aQ.elim F λx=>I x.1),ae (λaQ=>aQ.elim (by omega) λx=>by simpa using x.2)]
theorem aBa (cs:List ao)(h:List Rat)(aE:CQ cs h):(bF (D cs) λj=>qe cs h 0 0 j)=bF (D cs) λ_=>none:=kL λj aj=>by
 have:=(aE.c _ (ep (bx aj))).1;have e:cs.getD j iW=cs[j]:=by rw[en,bx aj];rfl
 unfold qe;rw[e,nd,ae (λaQ=>aQ.elim (by omega) λx=>by simpa using x.2)]
theorem aBb (cs:List ao)(h:List Rat)(aE:CQ cs h):(bF (D cs) λj=>qe cs h (D h) 0 j)=(cs.map λc=>av (ff cs (h.getD c.1.toNat 0) c)).map some:=by
 refine (ZO (by simp) λj aj=>?_).symm;have:=(aE.c _ (ep (bx aj))).2.1;have e:cs.getD j iW=cs[j]:=by rw[en,bx aj];rfl
 unfold qe;rw[bq,bq,bx aj,e,ad (.inl this)];unfold IH;rw[e];rfl
theorem aBc (T:bh){K:eX->bd->Prop}{kk:List gz}(cs:List ao)(h:List Rat)(aE:CQ cs h)(i:Nat)(M:i<D h)(v1 r0 alo alp alq:R)(alr als:Option (Nat×List R))(tm:Nat->R)(m:Mem)
  (aA:tm 1=v1) (bR:tm 7=r0) (ej:tm 10=.ref 233057 0 4 0 (D cs)) (h1:tm 13=.J (.Y (((cu cs i).map λc=>av (ff cs (h.getD i 0) c)).map aH))) (uD:tm 58=alo) (oj:tm 59=alp) (kq:tm 60=alq) (EY:tm 79=yS (gk cs i)) (EZ:tm 80=.J (.int .i64 (gk cs i).length)) (E0:tm 81=.J (.int .i64 0)) (AR:m 233019=alr) (AS:m 233022=als) (iZ:m 233057=some (0,l4 qV (bF (D cs) λj=>qe cs h i 0 j)))
  (dN:∀tm' m',tm' 1=v1->tm' 7=r0->tm' 10=.ref 233057 0 4 0 (D cs)->tm' 58=alo->tm' 59=alp->tm' 60=alq->m' 233019=alr->m' 233022=als->m' 233057=some (0,l4 qV (bF (D cs) λj=>qe cs h (i+1) 0 j))->cG T K kk (.exit 4) ⟨tm',m'⟩) :
  wp T (Eg.body.sub [1,1,1,1,1,0,1,0,0,1,1,0,0,1,1,1,1,0]) (cG T K kk) ⟨tm,m⟩:=by
 simp only[Eg,eA.sub];have ji:=aE.len;have o3:=aAL cs i;refine dv [1,7,10,13,58,59,60,79,80] [233019,233022] (λ(k:Nat) tm m=>k<=(gk cs i).length/\tm 81=.J (.int .i64 k)/\m 233057=some (0,l4 qV (bF (D cs) λj=>qe cs h i k j))) (λk=>(gk cs i).length-k) 0 (by refine⟨by omega,E0,iZ⟩) ?_;intro vs ms aT aR;simp only[go_sem,go_sem_proc,aA,bR,ej,h1,uD,oj,kq,EY,EZ,AR,AS] at aT aR;subst aT aR;clear aA bR ej h1 uD oj kq EY EZ E0 AR AS iZ tm m;rintro k tm m Q hm ⟨rM,E0,iZ⟩;simp only[go_sem,go_sem_proc,bb] at Q hm;obtain⟨aA,bR,ej,h1,uD,oj,kq,EY,EZ⟩:=Q;obtain⟨AR,AS⟩:=hm;rcases dA (k<(gk cs i).length) with ay|b9
 ·have d1:decide ((k:Int)<((gk cs i).length:Int))=true:=dn;have b4:=e9 (i:=k) (by omega);obtain⟨y,ar⟩:∃y,(gk cs i)[k]?=some y:=⟨_,bx ay⟩;obtain⟨zf,alu⟩:=aaZ.1 (ep ar);have sM:=aA7 ar;simp only[go_sem,go_sem_proc,cK] at sM
  have alv:((cu cs i).map λc=>av (ff cs (h.getD i 0) c))[k]?=some (IH cs h y):=by
   rw[alk,bq,bq,ar];unfold IH;rw[alu,lu];rfl
  have ML:=ZP (q:=λj=>qe cs h i k j) zf;have mH:=λa b c d=>ZQ (q:=λj=>qe cs h i k j) zf a b c d
  have hK:∀aO:a1,aO=IH cs h y->(bF (D cs) λj=>if j=y then some aO else qe cs h i k j)=bF (D cs) λj=>qe cs h i (k+1) j:=λaO e5=>kL λj _=>by
   have g2:(gk cs i).take (k+1)=(gk cs i).take k++[y]:=by rw[g1,ar];rfl
   by_cases aj:j=y
   ·subst aj;rw[ad rfl];unfold qe;rw[g2,ad (.inr ⟨alu,by simp⟩),e5]
   ·rw[ae aj];unfold qe;rw[g2]
    by_cases F:(cs.getD j iW).1<(i:Int)\/((cs.getD j iW).1=(i:Int)/\j∈(gk cs i).take k)
    ·rw[ad F,ad (F.imp id λx=>⟨x.1,by simp[x.2]⟩)]
    ·rw[ae F,ae λaQ=>F (aQ.imp id λx=>⟨x.1,by simpa [aj] using x.2⟩)]
  have aK:=hK _ rfl;clear dN;generalize ((cu cs i).map λc=>av (ff cs (h.getD i 0) c))=yT at *;generalize IH cs h y=aO at *;obtain⟨⟨cU,de⟩,⟨a3,a4⟩⟩:=aO;have dy:=mH cU de a3 a4;rw[aK] at dy;simp only[go_sem,go_sem_proc,aA,bR,ej,h1,uD,oj,kq,EY,EZ,E0,AR,AS,iZ,d1,b4,sM,alv,ML,dy,zf,ir,aH,cK,ak,bq];repeat' (first|refine aw ?_ ?_|fail)<;>intro h<;>simp only[h,go_sem,go_sem_proc,aA,bR,ej,h1,uD,oj,kq,EY,EZ,E0,AR,AS,iZ,d1,b4,sM,alv,ML,dy,zf,ir,aH,cK,ak,bq]
  exact⟨k+1,by omega,by omega,rfl,rfl⟩
 ·have d1:decide ((k:Int)<((gk cs i).length:Int))=false:=dk;obtain rfl:k=(gk cs i).length:=by omega
  rw[aA9] at iZ;simp only[go_sem,go_sem_proc,aA,bR,ej,h1,uD,oj,kq,EY,EZ,E0,d1];repeat' (first|refine aw ?_ ?_|fail)<;>intro h<;>simp only[h,go_sem,go_sem_proc,aA,bR,ej,h1,uD,oj,kq,EY,EZ,E0,d1]
  refine dN _ _ ?_ ?_ ?_ ?_ ?_ ?_ AR AS iZ<;>simp only[e4,eb,if_false,aA,bR,ej,uD,oj,kq]
theorem aBd (n:Nat):(dC n [R.nil]).flatten=bF n λ_ => .nil:=by
 induction n with
 |zero=>rfl
 |succ n ax=>rw[List.replicate_succ',List.flatten_append,ax,ak5];rfl
theorem aBe {a b:List Rat}(h:(a.map av).map aH=(b.map av).map aH):a=b:=map_inj (λ_ _ h=>wZ h) _ _ (map_inj m0 _ _ h)
abbrev R1:(List ao)×(List Rat)->List Data:=λ(cs,h)=>[.Y (cs.map cx),.Y ((h.map av).map aH)]
def R2:=cp R1 λ(cs,h)=>cV (CQ cs h) (.same (.cI [.Y ((cs.map λc=>av (ff cs (h.getD c.1.toNat 0) c)).map aH),.bool true]))
theorem alw:∀a b,R1 a=R1 b->a=b:=by
  rintro⟨vV,F⟩ ⟨oC,I⟩ h;simp only[bb,Data.Y.injEq,and_true] at h;exact ed (map_inj s3 _ _ h.1) (aBe h.2)
@[go_sem] theorem aBf (cs:List ao)(h:List Rat)(G:CQ cs h):R2 [.Y (cs.map cx),.Y ((h.map av).map aH)]=some (.same (.cI [.Y ((cs.map λc=>av (ff cs (h.getD c.1.toNat 0) c)).map aH),.bool true])):=(cA alw (cs,h)).trans (cY G _)
theorem aBg (T:bh)(ks:T Kt=aV RP)(cs:List ao)(h:List Rat)(G:CQ cs h):WP T Eg (.same (.cI [.Y ((cs.map λc=>av (ff cs (h.getD c.1.toNat 0) c)).map aH),.bool true])) [.J (.Y (cs.map cx)),.J (.Y ((h.map av).map aH))]:=by
 refine cB ?_;simp only[Eg];have aK:=G.n;have ji:=G.len;have HA:(24*D h<=140737488355328)=True:=eq_true (by omega);have Cp:(D h<=maxLen)=True:=eq_true (by unfold maxLen;omega);have aBh:(64*D cs<=140737488355328)=True:=eq_true (by omega);have aBi:(D cs<=maxLen)=True:=eq_true (by unfold maxLen;omega);have aS:=aBd (D h);have alx:=ajC (D cs);rw[<-aBa cs h G] at alx;simp only[go_sem,go_sem_proc,ks,HA,Cp,aS,ak];refine aAN T cs h G (.J (.Y ((h.map av).map aH))) _ _ ?_ ?_ ?_ ?_ ?_ ?_ ?_ ?_ (λ_=>0) (λ_=>0) ⟨?_,?_,λi M bC=>absurd rfl bC,λi M bC=>absurd rfl bC⟩ ?_
 all_goals first|(intro tm m gc gL fM ca iq hR iZ b8)|(simp only[e4,eb,if_false,if_true];done)|(simp only[e4,eb,if_false,if_true];rfl)|(simp only[aZ,eb,if_false,if_true];rfl)|skip
 obtain⟨dx,F,I,af⟩:=RU (λi=>233600+i) (λi=>j6 (cu cs i)) (λi M=>by omega) (λi j _ _ he=>by omega) (D h) 0 (lO cs gc) m (by omega) b8.eY (λi M=>by omega) λi _ M=>by
  by_cases hG:cu cs i=[]
  ·refine .inl ?_;unfold lO j6;rw[ad hG,ad hG]
  ·refine .inr ⟨gc i,4,(cu cs i).length,bf cx (cu cs i),.Y ((cu cs i).map cx),?_,b8.ca i M hG,λcM nm=>qy (n:=0) EE nm,?_⟩
   ·unfold lO;rw[ae hG]
   ·unfold j6;rw[ae hG]
 have sy:dx 233022=some (0,bF (D h) (pp cs gL)):=(af 233022 (by decide) λi M=>by omega).trans b8.eh;have aly:dx 233057=none:=(af 233057 (by decide) λi M=>by omega).trans iZ
 obtain⟨cM,cD,cf,gS⟩:=RU (λi=>233700+i) (λi=>yS (gk cs i)) (λi M=>by omega) (λi j _ _ he=>by omega) (D h) 0 (pp cs gL) dx (by omega) sy (λi M=>by omega) λi _ M=>by
  by_cases hG:cu cs i=[]
  ·refine .inl ?_;have AM:gk cs i=[]:=CP.1 (by rw[RW,hG];rfl);unfold pp yS;rw[ad hG,ad AM]
  ·have AM:gk cs i≠[]:=λaQ=>hG (CP.1 (by rw[<-RW,aQ];rfl));refine .inr ⟨gL i,1,(cu cs i).length,bf ir (gk cs i),.Y ((gk cs i).map ir),?_,?_,λcM nm=>by rw[<-RW];exact qy (n:=0) yH nm,?_⟩
   ·unfold pp;rw[ae hG]
   ·exact (af (233700+i) (by omega) λj aj=>by omega).trans (b8.c7 i M hG)
   ·unfold yS;rw[ae AM]
 have MQ:cM 233019=some (0,bF (D h) λi=>j6 (cu cs i)):=(gS 233019 (by decide) λi M=>by omega).trans I;have yU:cM 233057=none:=(gS 233057 (by decide) λi M=>by omega).trans aly;simp only[go_sem,go_sem_proc,ks];refine ak4 (F.trans cD) ?_;clear F I af cD gS sy aly b8 iZ;simp only[go_sem,go_sem_proc,ks,fM,ca,iq,hR,aBh,aBi,alx,yU,ak];refine dv [1,7,10,58,59] [233019,233022] (λ(i:Nat) tm m=>i<=D h/\tm 60=.J (.int .i64 i)/\m 233057=some (0,l4 qV (bF (D cs) λj=>qe cs h i 0 j))) (λi=>D h-i) 0 (by refine⟨by omega,rfl,by simp[aZ]⟩) ?_;intro vs ms aT aR;simp only[go_sem,go_sem_proc,ks,ca,hR,MQ,cf,ak] at aT aR;subst aT aR;clear fM ca iq hR MQ yU cf tm m dx cM;rintro i tm m Q hm ⟨M,kq,iZ⟩;simp only[go_sem,go_sem_proc,ks,bb] at Q hm;obtain⟨aA,bR,ej,uD,oj⟩:=Q;obtain⟨AR,AS⟩:=hm;rcases dA (i<D h) with ay|b9
 ·have d1:decide ((i:Int)<(D h:Int))=true:=dn;have b4:=e9 (i:=i) (by omega);obtain⟨x,O⟩:∃x,h[i]?=some x:=⟨_,bx ay⟩;have GQ:h.getD i 0=x:=by rw[en,O];rfl
  have rG:=G.x x (ep O)
  have nR:ko (cu cs i):=⟨eP (od _ _) ji,λc gR=>by
   have F:=G.c c (l5.1 gR).1;omega,λc gR c' aBj=>by rw[(l5.1 gR).2,(l5.1 aBj).2]⟩
  have e5:=alg x (cu cs i) ⟨nR,rG.1,rG.2⟩;rw[axT,<-GQ] at e5;rw[<-GQ] at O;have eY:=vZ (iV (λi=>j6 (cu cs i)) ay);have eh:=vZ (iV (λi=>yS (gk cs i)) ay);have hC:(bF (D h) λi=>j6 (cu cs i)).length=D h:=gM _ _;have ie:(bF (D h) λi=>yS (gk cs i)).length=D h:=gM _ _;have dY:i+1<=D h:=by omega
  have vm:=aA8 (cu cs i) 6;have alz:=aA6 (gk cs i);simp only[go_sem,go_sem_proc,ks] at alz;generalize nk:av (h.getD i 0)=dg at *;obtain⟨⟨cU,de⟩,⟨a3,a4⟩⟩:=dg;simp only[aH] at e5;simp only[go_sem,go_sem_proc,ks,ks,aA,bR,ej,uD,oj,kq,AR,AS,iZ,d1,eY,eh,hC,ie,dY,ay,O,nk,vm,e5,alz,aH,cK,ak,bq,bne,beq_self_eq_true,c8];refine aBc T cs h G i ay (.J (.Y ((h.map av).map aH))) (.ref 233022 0 1 0 (D h)) (.ref 233019 0 1 0 (D h)) (.J (.int .i64 (D h))) (.J (.int .i64 i)) _ _ _ _ ?_ ?_ ?_ ?_ ?_ ?_ ?_ ?_ ?_ ?_ AR AS iZ ?_
  all_goals first|(intro tm' m' ca hR nZ alA alB alC MQ alD yU)|(simp only[e4,eb,if_false,if_true,aA,bR,ej,uD,oj,kq];done)
  simp only[go_sem,go_sem_proc,ks,ca,hR,nZ,alA,alB,alC,MQ,alD,yU,b4];repeat' (first|refine aw ?_ ?_|fail)<;>intro h<;>simp only[h,go_sem,go_sem_proc,ks,ca,hR,nZ,alA,alB,alC,MQ,alD,yU,b4]
  exact⟨i+1,by omega,by omega,rfl,rfl⟩
 ·have d1:decide ((i:Int)<(D h:Int))=false:=dk;obtain rfl:i=D h:=by omega
  rw[aBb cs h G,ajE] at iZ;have mK:=λ(K:bd->Prop) (st:bd)=>mS (K:=K) (st:=st) nq 10 233057 0 (cs.map λc=>av (ff cs (h.getD c.1.toNat 0) c));rw[ak] at mK;simp only[go_sem,go_sem_proc,ks,aA,bR,ej,uD,oj,kq,d1,iZ,mK,ak];repeat' (first|refine aw ?_ ?_|fail)<;>intro h<;>simp only[h,go_sem,go_sem_proc,ks,aA,bR,ej,uD,oj,kq,d1,iZ,mK,ak]
end Go.Mini
namespace Go.Mini
open Classical
def E1 (cs:List ao)(x:Nat->Rat)(i:Nat)(acc:Option Rat)(c:ao):Option Rat :=
 if c.2.1=(i:Int) then acc.bind λs=>if mD s (ff cs (x c.1.toNat) c)=true then some (s+ff cs (x c.1.toNat) c) else none else acc
def uE (E:List Int)(cs:List ao)(x:Nat->Rat)(i:Nat)(l:List ao):Option Rat:=l.foldl (E1 cs x i) (some ((E.getD i 0:Int):Rat))
theorem alE (E:List Int)(cs:List ao)(x:Nat->Rat)(i:Nat):uE E cs x i []=some ((E.getD i 0:Int):Rat):=rfl
theorem II (E:List Int)(cs:List ao)(x:Nat->Rat)(i:Nat)(l:List ao)(c:ao):uE E cs x i (l++[c])=E1 cs x i (uE E cs x i l) c:=by
 unfold uE;rw[aa3];rfl
def pA (E:List Int)(cs:List ao)(x:Nat->Rat)(i:Nat)(l:List ao):Rat:=((E.getD i 0:Int):Rat)+b5 (l.map cv) λc=>if c.to=(i:Int) then (aB E cs).ez x c else 0
theorem alF {E:List Int}{cs:List ao}(h:iF E cs=true)(x:Nat->Rat)(i:Nat)(l:List ao){c:ao}(G:c∈cs):pA E cs x i (l++[c])=pA E cs x i l+if c.2.1=(i:Int) then ff cs (x c.1.toNat) c else 0:=by
 unfold pA;rw[kI,HY,<-Mg h x G];show _+(_+((if (cv c).to=(i:Int) then (aB E cs).ez x (cv c) else 0)+0))=_;have e:(cv c).to=c.2.1:=rfl;rw[e,oQ];grind
theorem alG {E:List Int}{cs:List ao}(h:iF E cs=true)(x:Nat->Rat)(i:Nat):∀n (l:List ao),D l=n->(∀c∈l,c∈cs)->∀s,uE E cs x i l=some s->s=pA E cs x i l:=by
 intro n
 induction n with
 |zero =>
  intro l aq _ s U;have:l=[]:=CP.1 aq;subst this;rw[alE,cj] at U;rw[<-U];unfold pA;rw[c1,b5,oQ]
 |succ n ax =>
  intro l aq hm s U;rcases Bv l with al|⟨fr,c,rfl⟩
  ·subst al;cases aq
  ·rw[Bw] at *;simp only[fE,Af] at aq;have G:=hm c (by simp);rw[II] at U;rw[alF h x i fr G];have ax:=ax fr (by omega) (λy ar=>hm y (by simp[ar]));unfold E1 at U
   by_cases r1:c.2.1=(i:Int)
   ·rw[ad r1] at U
    cases aN:uE E cs x i fr with
    |none=>rw[aN] at U;cases U
    |some t =>
     rw[aN,kB] at U;rw[ax t aN] at U
     by_cases Q:mD (pA E cs x i fr) (ff cs (x c.1.toNat) c)=true
     ·rw[ad Q,cj] at U;rw[ad r1,U]
     ·rw[ae Q] at U;cases U
   ·rw[ae r1] at U;rw[ae r1,oQ];exact ax s U
def MR (E:List Int)(cs:List ao)(x:Nat->Rat):Prop:=∀i,i<(D E)->uE E cs x i cs=some (x i)
theorem aBk {E:List Int}{cs:List ao}(h:iF E cs=true){x:Nat->Rat}(aF:MR E cs x):∀i,i<(D E)->x i=(aB E cs).p5 x i:=λi M=>by
 rw[alG h x i _ cs rfl (λc G=>G) _ (aF i M)]
 rfl
section
variable {E:List Int} {cs:List ao} (U:e2 E cs)
include U
theorem aBl {eR:Nat}(hq:eR=324):0<iG (D E) (vQ E cs)/\iG (D E) (vQ E cs)<=2^eR:=by
 have:=U.n5;exact⟨ahJ λk Q=>ajf U Q,aiE (e:=eR) (λk _=>ajg U k) (by omega)⟩
theorem aBm:∃bj:Nat,0<bj/\(∃a,a<=654/\bj<=2^a)/\(∀i,i<(D E)->fb bj ((aB E cs).cF i))/\∀c∈cs,fb bj ((aB E cs).ez (aB E cs).cF (cv c)):=by
 obtain⟨bj,F,⟨a,I,af⟩,aM⟩:=ajd U;obtain⟨eR,hq⟩:∃eR,eR=324:=⟨_,rfl⟩;obtain⟨iO,ju⟩:=aBl U hq;refine⟨bj*iG (D E) (vQ E cs),Nat.mul_pos F iO,⟨a+eR,by omega,by rw[Nat.pow_add];exact Nat.mul_le_mul af ju⟩,λi M=>(aM i M).more _,λc G=>?_⟩
 have bk:=ajh U aM G;have Q:(cv c).az<D E:=U.ok.az _ (pt G);refine bk.of_dvd ?_;obtain⟨m,hm⟩:=ahK (cb:=vQ E cs) Q;exact⟨m,by rw[hm,Nat.mul_assoc]⟩
theorem aBn {i:Nat}(M:i<D E){l fr:List ao}(aq:cs=l++fr):dT 708 (pA E cs (aB E cs).cF i l):=by
 obtain⟨bj,F,⟨a,I,af⟩,-,aM⟩:=aBm U
 have CC:∀m:List ao,(∀c∈m,c∈cs)->0<=b5 (m.map cv) λc=>if c.to=(i:Int) then (aB E cs).ez (aB E cs).cF c else 0:=λm hm=>xj λy ar=>by
  obtain⟨c,G,rfl⟩:=dS.1 ar
  try dsimp only
  split
  ·exact U.ok.YT _ (pt (hm c G))
  ·exact gd
 have GD:∀c∈l,c∈cs:=λc G=>by rw[aq];simp[G]
 have nm:∀c∈fr,c∈cs:=λc G=>by rw[aq];simp[G]
 have oK:(0:Rat)<=((E.getD i 0:Int):Rat):=by have:=(U.E i).1;exact_mod_cast this
 have aa:fb bj (pA E cs (aB E cs).cF i l):=by
  unfold pA;refine (fb.int _ _).add (fb.b5 λy ar=>?_);obtain⟨c,G,rfl⟩:=dS.1 ar
  split
  ·exact aM c (GD c G)
  ·exact fb.zero _
 have al:0<=pA E cs (aB E cs).cF i l:=by
  have:=CC l GD;unfold pA;grind
 have hle:pA E cs (aB E cs).cF i l<=(aB E cs).cF i:=by
  rw[(EG U.ok).1 i M]
  have e:(aB E cs).p5 (aB E cs).cF i=pA E cs (aB E cs).cF i l+b5 (fr.map cv) λc=>if c.to=(i:Int) then (aB E cs).ez (aB E cs).cF c else 0:=by
   have aC:(aB E cs).p5 (aB E cs).cF i=((E.getD i 0:Int):Rat)+b5 (cs.map cv) λc=>if c.to=(i:Int) then (aB E cs).ez (aB E cs).cF c else 0:=rfl;rw[aC];unfold pA;have bZ:b5 (cs.map cv) (λc=>if c.to=(i:Int) then (aB E cs).ez (aB E cs).cF c else 0)=b5 ((l++fr).map cv) λc=>if c.to=(i:Int) then (aB E cs).ez (aB E cs).cF c else 0:=by rw[<-aq]
   rw[bZ,kI,HY];grind
  have:=CC fr nm;grind
 exact (aa.sz F af al (e:=54) (Rat.le_trans hle (axr U M))).mono (by omega)
theorem alH:MR E cs (aB E cs).cF:=λi M=>by
 have key:∀n (l fr:List ao),D l=n->cs=l++fr->uE E cs (aB E cs).cF i l=some (pA E cs (aB E cs).cF i l):=by
  intro n
  induction n with
  |zero =>
   intro l fr aq _;have:l=[]:=CP.1 aq;subst this;rw[alE];unfold pA;rw[c1,b5,oQ]
  |succ n ax =>
   intro l fr aq jI;rcases Bv l with al|⟨m,c,rfl⟩
   ·subst al;cases aq
   ·rw[Bw] at *;simp only[fE,Af] at aq;have G:c∈cs:=by rw[jI];simp
    have gR:cs=m++([c]++fr):=by rw[jI,gU]
    rw[II,alF U.right _ i m G,ax m _ (by omega) gR];unfold E1
    by_cases r1:c.2.1=(i:Int)
    ·rw[ad r1,ad r1,kB,ad];refine Ex (aBn U M gR) (b:=482) ?_ (by omega);rw[<-Mg U.right _ G];exact ZI U G
    ·rw[ae r1,ae r1,oQ]
 have F:=key _ cs [] rfl (by simp);rw[F,(EG U.ok).1 i M]
 rfl
end
end Go.Mini
namespace Go.Mini
open Go
theorem alI (x:Rat):x*(x.den:Rat)=(x.num:Rat):=by
 have h:(Rat.divInt x.num x.den)=x:=Rat.num_divInt_den x;rw[Rat.divInt_eq_div] at h;have al:((x.den:Int):Rat)≠0:=by have:=x.den_nz;exact_mod_cast this
 have I:(x.num:Rat)/((x.den:Int):Rat)*((x.den:Int):Rat)=(x.num:Rat):=Rat.div_mul_cancel al;rw[h,ob] at I;exact I
theorem alJ {x y:Rat}(h:mD x y=true):dm (x+y):=by
 unfold mD at h;simp only[ec] at h;obtain⟨-,-,af,aM⟩:=h
 have aa:((x.den:Int)*y.den)≠0:=by
  have F:=x.den_nz;have I:=y.den_nz;exact Int.mul_ne_zero (by omega) (by omega)
 have e:(x+y)*(((x.den:Int)*y.den:Int):Rat)=((x.num*y.den+y.num*x.den:Int):Rat):=by
  have aA:x*(x.den:Rat)=(x.num:Rat):=alI x;have aC:y*(y.den:Rat)=(y.num:Rat):=alI y;rw[vJ,p6,p6,p6,ob,ob,<-aA,<-aC];grind
 obtain⟨f1,f2⟩:=Cz aa e;have:=qN af;have:=qN aM;exact⟨by omega,by omega⟩
theorem aBo {x y:Rat}(O:dm x)(ar:dm y):zZ [.agg (aH (av x)),.agg (aH (av y))]=some (.same (.cI [.agg (aH (z2 (mD x y) (x+y)).1),.int .i64 (z2 (mD x y) (x+y)).2])):=by
 have F:=lA O;have I:=lA ar;have:=afP (av x).1.1 (av x).1.2 (av x).2.1 (av x).2.2 (av y).1.1 (av y).1.2 (av y).2.1 (av y).2.2 ⟨F.1,F.2,I.1,I.2⟩;exact this.trans (by show some (eL.same (eG (vw (av x) (av y))))=_;rw[Wx O ar];rfl)
def alK:=cp yw λ(s,l,s2,ai,cR,bL,cW,b3)=>cV (D l<=1000000/\D ai<=1000000/\D bL<=1000000/\D b3<=1000000) (.same (.bool (lz ((s,l),(s2,ai)) ((cR,bL),(cW,b3))==0)))
@[go_sem] theorem aBp (s:Int)(l:List Int)(s2:Int)(ai:List Int)(cR:Int)(bL:List Int)(cW:Int)(b3:List Int)(G:(D l)<=1000000/\D ai<=1000000/\D bL<=1000000/\D b3<=1000000):alK [.agg [.int .i64 s,.Y (l.map ag),.int .i64 s2,.Y (ai.map ag)],.agg [.int .i64 cR,.Y (bL.map ag),.int .i64 cW,.Y (b3.map ag)]]=some (.same (.bool (lz ((s,l),(s2,ai)) ((cR,bL),(cW,b3))==0))):=(cA B4 (s,l,s2,ai,cR,bL,cW,b3)).trans (cY G _)
def kt:List a1->List a1->Bool
 | [],[]=>true
 |a::l,b::m=>(lz a b==0)&&kt l m
 |_,_=>false
theorem alL:∀(a b:List a1),(D a)≠(D b)->kt a b=false
 | [],[],h=>absurd rfl h
 | [],_::_,_=>rfl
 |_::_,[],_=>rfl
 |a::l,b::m,h=>by
  unfold kt;rw[alL l m (by simpa using h),iQ]
theorem aBq {a b:List a1}{i:Nat}{x y:a1}(aN:a[i]?=some x)(ah:b[i]?=some y)(h:kt (a.take i) (b.take i)=true)(G:(lz x y==0)=false):kt a b=false:=by
 induction i generalizing a b with
 |zero =>
  cases a with
  |nil=>cases aN
  |cons a l =>
   cases b with
   |nil=>cases ah
   |cons b m =>
    simp only[u0,cj] at aN ah;subst aN ah;rw[kt,G,fz]
 |succ i ax =>
  cases a with
  |nil=>cases aN
  |cons a l =>
   cases b with
   |nil=>cases ah
   |cons b m =>
    simp only[yO] at aN ah;rw[wB,wB,kt,ec] at h;rw[kt,ax aN ah h.2,iQ]
theorem aBr {a b:List a1}{i:Nat}{x y:a1}(aN:a[i]?=some x)(ah:b[i]?=some y)(h:kt (a.take i) (b.take i)=true)(G:(lz x y==0)=true):kt (a.take (i+1)) (b.take (i+1))=true:=by
 induction i generalizing a b with
 |zero =>
  cases a with
  |nil=>cases aN
  |cons a l =>
   cases b with
   |nil=>cases ah
   |cons b m =>
    simp only[u0,cj] at aN ah;subst aN ah;simp[kt,G]
 |succ i ax =>
  cases a with
  |nil=>cases aN
  |cons a l =>
   cases b with
   |nil=>cases ah
   |cons b m =>
    simp only[yO] at aN ah;rw[wB,wB,kt,ec] at h;rw[wB,wB,kt,h.1,ax aN ah h.2];rfl
theorem alM (T:bh)(f:FuncId)(aO:List Data->Option eL)(cN:T f=aV aO)(a b:List a1)(aN:e6 a)(ah:e6 b)(e5:∀cU de a3 a4 df eD j3 l2,D de<=1000000->(D a4)<=1000000->(D eD)<=1000000->(D l2)<=1000000->aO [.agg [.int .i64 cU,.Y (de.map ag),.int .i64 a3,.Y (a4.map ag)],.agg [.int .i64 df,.Y (eD.map ag),.int .i64 j3,.Y (l2.map ag)]]=some (.same (.bool (lz ((cU,de),(a3,a4)) ((df,eD),(j3,l2))==0)))):WP T KB (.same (.bool (kt a b))) [.J (.Y (a.map aH)),.J (.Y (b.map aH)),.J (.fn f [])]:=by
 refine cB ?_;simp only[KB];obtain⟨aN,aBs⟩:=aN;obtain⟨ah,aBt⟩:=ah;rcases aq:((D a:Int)==(D b:Int))
 ·rw[alL a b (by have:=ne_of_beq_false aq;omega)];refine aX ?_;repeat' (intro h<;>simp only[h,go_sem,go_sem_proc,aq,ak,bne,dD]<;>try refine aw ?_ ?_)
 ·have hle:(D a)=D b:=by have:=eq_of_beq aq;omega
  simp only[go_sem,go_sem_proc,aq,ak,bne,c8];refine dv [1,2,15,16] [] (λ(i:Nat) tm mem=>i<=D a/\kt (a.take i) (b.take i)=true/\tm 17=.J (.int .i64 i)) (λi=>D a-i) 0 (by refine⟨fg _,by simp[kt],rfl⟩) ?_;intro vs ms aT aR;simp only[go_sem,go_sem_proc,ak] at aT aR;subst aT aR;rintro i tm mem Q hm ⟨M,eZ,j0⟩;simp only[go_sem,go_sem_proc,bb] at Q hm;obtain⟨aA,aC,r4,p0⟩:=Q;rcases dA (i<D a) with ay|b9
  ·have d1:decide ((i:Int)<(D a:Int))=true:=dn;have b4:=e9 (i:=i) (by omega);obtain⟨x,O⟩:∃x,a[i]?=some x:=⟨_,bx ay⟩;obtain⟨y,ar⟩:∃x,b[i]?=some x:=⟨_,bx (by omega)⟩;obtain⟨rV,py⟩:=aBs x (ep O);obtain⟨vS,vT⟩:=aBt y (ep ar);have dy:=λG=>aBq O ar eZ G;have g2:=λG=>aBr O ar eZ G;obtain⟨⟨cU,de⟩,⟨a3,a4⟩⟩:=x;obtain⟨⟨df,eD⟩,⟨j3,l2⟩⟩:=y;dsimp only at rV py vS vT;have mF:=e5 cU de a3 a4 df eD j3 l2 rV py vS vT;rcases q:(lz ((cU,de),(a3,a4)) ((df,eD),(j3,l2))==0)
   ·rw[dy q];refine aX ?_;repeat' (intro h<;>simp only[h,go_sem,go_sem_proc,aA,aC,r4,p0,j0,O,ar,d1,b4,cN,mF,q,aH,ak,bq,dD]<;>try refine aw ?_ ?_)
   ·refine aX ?_;repeat' (intro h<;>simp only[h,go_sem,go_sem_proc,aA,aC,r4,p0,j0,O,ar,d1,b4,cN,mF,q,aH,ak,bq,c8]<;>try refine aw ?_ ?_)
    exact⟨i+1,by omega,by omega,g2 q,rfl⟩
  ·have d1:decide ((i:Int)<(D a:Int))=false:=dk;rw[dt (by omega),dt (by omega)] at eZ;rw[eZ];refine aX ?_;repeat' (intro h<;>simp only[h,go_sem,go_sem_proc,aA,aC,r4,p0,j0,d1,ak]<;>try refine aw ?_ ?_)
def aa4:=cp yw λ(s,l,s2,ai,cR,bL,cW,b3)=>cV (D l<=1000000/\D ai<=1000000/\D bL<=1000000/\D b3<=1000000) (.same (.bool (lz ((s,l),(s2,ai)) ((cR,bL),(cW,b3))==0)))
@[go_sem] theorem aBu (s:Int)(l:List Int)(s2:Int)(ai:List Int)(cR:Int)(bL:List Int)(cW:Int)(b3:List Int)(G:(D l)<=1000000/\D ai<=1000000/\D bL<=1000000/\D b3<=1000000):aa4 [.agg [.int .i64 s,.Y (l.map ag),.int .i64 s2,.Y (ai.map ag)],.agg [.int .i64 cR,.Y (bL.map ag),.int .i64 cW,.Y (b3.map ag)]]=some (.same (.bool (lz ((s,l),(s2,ai)) ((cR,bL),(cW,b3))==0))):=(cA B4 (s,l,s2,ai,cR,bL,cW,b3)).trans (cY G _)
theorem aBv (T:bh)(eK:T oI=aV tW)(s:Int)(l:List Int)(s2:Int)(ai:List Int)(cR:Int)(bL:List Int)(cW:Int)(b3:List Int)(G:(D l)<=1000000/\D ai<=1000000/\D bL<=1000000/\D b3<=1000000):WP T Xa (.same (.bool (lz ((s,l),(s2,ai)) ((cR,bL),(cW,b3))==0))) [.J (.agg [.int .i64 s,.Y (l.map ag),.int .i64 s2,.Y (ai.map ag)]),.J (.agg [.int .i64 cR,.Y (bL.map ag),.int .i64 cW,.Y (b3.map ag)])]:=by
 refine cB ?_;simp only[Xa];obtain⟨rV,py,vS,vT⟩:=G;refine aX ?_;repeat' (intro h<;>simp only[h,go_sem,go_sem_proc,eK,rV,py,vS,vT]<;>try refine aw ?_ ?_)
abbrev aa5:(List a1)×(List a1)×FuncId->List Data:=λ(a,b,f)=>[.Y (a.map aH),.Y (b.map aH),.fn f []]
def aa6:=cp aa5 λ(a,b,f)=>cV (e6 a/\e6 b/\((f=BA/\BA<900000)\/(f=wH/\wH<900000))) (.same (.bool (kt a b)))
theorem aBw:∀a b,aa5 a=aa5 b->a=b:=by
  rintro⟨cU,df,f1⟩ ⟨de,eD,f2⟩ h;simp only[bb,Data.Y.injEq,Data.fn.injEq,and_true] at h;exact ed (map_inj m0 _ _ h.1) (ed (map_inj m0 _ _ h.2.1) h.2.2)
@[go_sem] theorem aBx (a:List a1)(b:List a1)(f:FuncId)(G:e6 a/\e6 b/\((f=BA/\BA<900000)\/(f=wH/\wH<900000))):aa6 [.Y (a.map aH),.Y (b.map aH),.fn f []]=some (.same (.bool (kt a b))):=(cA aBw (a,b,f)).trans (cY G _)
theorem aBy (T:bh)(aBz:BA<900000->T BA=aV alK)(aBA:wH<900000->T wH=aV aa4)(a:List a1)(b:List a1)(f:FuncId)(G:e6 a/\e6 b/\((f=BA/\BA<900000)\/(f=wH/\wH<900000))):WP T KB (.same (.bool (kt a b))) [.J (.Y (a.map aH)),.J (.Y (b.map aH)),.J (.fn f [])]:=by
 refine cB ?_;simp only[KB];obtain⟨aN,ah,aF⟩:=G;rcases aF with ⟨rfl,M⟩|⟨rfl,M⟩
 ·exact qO (alM T _ _ (aBz M) a b aN ah λcU de a3 a4 df eD j3 l2 F I af aM=>aBp cU de a3 a4 df eD j3 l2 ⟨F,I,af,aM⟩)
 ·exact qO (alM T _ _ (aBA M) a b aN ah λcU de a3 a4 df eD j3 l2 F I af aM=>aBu cU de a3 a4 df eD j3 l2 ⟨F,I,af,aM⟩)
abbrev R3:(List a1)×(List a1)->List Data:=λ(a,b)=>[.Y (a.map aH),.Y (b.map aH)]
def aa7:=cp R3 λ(a,b)=>cV (e6 a/\e6 b) (.same (.bool (kt a b)))
theorem alN:∀a b,R3 a=R3 b->a=b:=by
  rintro⟨cU,df⟩ ⟨de,eD⟩ h;simp only[bb,Data.Y.injEq,and_true] at h;exact ed (map_inj m0 _ _ h.1) (map_inj m0 _ _ h.2)
@[go_sem] theorem aBB (a:List a1)(b:List a1)(G:e6 a/\e6 b):aa7 [.Y (a.map aH),.Y (b.map aH)]=some (.same (.bool (kt a b))):=(cA alN (a,b)).trans (cY G _)
theorem aBC (T:bh)(aBD:T Ui=aV aa6)(a:List a1)(b:List a1)(G:e6 a/\e6 b):WP T W3 (.same (.bool (kt a b))) [.J (.Y (a.map aH)),.J (.Y (b.map aH))]:=by
 refine cB ?_;simp only[W3];have aG:=aBx a b wH ⟨G.1,G.2,.inr ⟨rfl,by decide⟩⟩
 refine aX ?_;repeat' (intro h<;>simp only[h,go_sem,go_sem_proc,aBD,aG]<;>try refine aw ?_ ?_)
theorem aBE {α:Type}(p:α->Bool)(l:List α)(k:Nat)(Q:k<D l)(h:∀j (aj:j<k),p (l[j]'(by omega))=false)(I:p l[k]=true):kG p l=k :=
 Lg (λx O=>by
  obtain⟨j,aj⟩:=tD.1 O;rw[uR] at aj
  by_cases dW:j<k
  ·rw[ad dW,bx (by omega),cj] at aj;rw[<-aj];exact h j dW
  ·rw[ae dW] at aj;cases aj) (bx Q) I
theorem alO {d:Day}{h:Nat->Rat}{i:Nat}:∀k,k<=10->d.jA h i k<10->(∀j,10-k<=j->j<d.jA h i k->d.br i (j+1)<=h i)/\h i<d.br i (d.jA h i k+1)/\10-k<=d.jA h i k
 |0,_,F=>by rw[Day.jA] at F;omega
 |k+1,Q,F=>by
  rw[Day.jA] at F ⊢
  by_cases G:h i<d.br i (10-(k+1)+1)
  ·rw[ad G] at F ⊢;exact⟨λj I af=>by omega,G,bW _⟩
  ·rw[ae G] at F ⊢;obtain⟨ca,c7,ey⟩:=alO k (by omega) F;refine⟨λj I af=>?_,c7,by omega⟩
   by_cases aj:j=10-(k+1)
   ·rw[aj];grind
   ·exact ca j (by omega) af
theorem aBF {E:List Int}{cs:List ao}(U:e2 E cs)(h:Nat->Rat)(n i:Nat)(M:i<n)(kJ:dm (h i))(aF:(aB E cs).jA h i 10<10):kG (qc (.solve (dF n h) i)) (bF 10 λk=>cS cs i (k+1:Nat))=((aB E cs).jA h i 10:Int):=by
 obtain⟨F,I,af⟩:=alO 10 (bW _) aF;have mG:=λk:Nat=>U.upto i k
 have aE:∀k:Nat,qc (.solve (dF n h) i) (cS cs i (k+1:Nat))=decide (h i<(aB E cs).br i (k+1)):=λk=>by
  have aa:(dF n h).getD i ft=av (h i):=by rw[en,vN h M];rfl
  have ER:dB (cS cs i (k+1:Nat)):=qa (by have:=mG (k+1);omega) (by have:=mG (k+1);omega);simp only[qc];rw[aa,Pu kJ (uy ER),QS,uk U.right]
 refine aBE _ _ _ (by rw[gM];exact aF) (λj aj=>?_) ?_
 ·have e:=iV (λk=>cS cs i (k+1:Nat)) (show j<10 by omega);rw[bx (by rw[gM];omega),cj] at e;rw[e,aE];exact j9 (by have:=F j (by omega) aj;grind)
 ·have e:=iV (λk=>cS cs i (k+1:Nat)) aF;rw[bx (by rw[gM];omega),cj] at e;rw[e,aE];exact iw I
def dc.wf (a:dc)(f:Nat->Nat):dc:={ a with fl:=bF (D a.E) λi=>(f i:Int) }
theorem dc.aa8 (a:dc)(f:Nat->Nat){i:Nat}(M:i<D a.E):(a.wf f).gD i=(a.gD i).xr (f i):=by
 have:(bF (D a.E) λi=>(f i:Int)).getD i 10=(f i:Int):=AQ _ _ M;unfold dc.gD dc.wf og.xr;dsimp only;rw[this]
theorem dc.At.aBG {a:dc}{m:Mem}{f:Nat->Nat}(h:(a.wf f).At m){i:Nat}(M:i<D a.E)(r:Nat):(a.wf λj=>if j=i then r else f j).At (aZ m (228500+i) (a.gs.getD i 0) (fD ((a.gD i).xr r))):=by
 refine⟨h.can,gM _ _,h.pl,h.Q2,?_,λj aj=>?_⟩
 ·have:=h.row;simp only[aZ];rw[ae (show ¬ ((228023:Nat)=228500+i) by omega)];exact this
 ·rw[dc.aa8 a _ aj];simp only[aZ]
  by_cases h0:j=i
  ·subst h0;rw[ad rfl,ad rfl]
   rfl
  ·rw[ae (show ¬ ((228500+j:Nat)=228500+i) by omega),ae h0];have:=h.dd j aj;rw[dc.aa8 a _ aj] at this;exact this
theorem dc.R4 (a:dc){p q:Nat->Nat}(h:∀i,i<(D a.E)->p i=q i):a.wf p=a.wf q:=by
 unfold dc.wf;rw[kL λi M=>by rw[h i M]]
theorem aBH {n i:Nat}(f:Nat->Nat)(h:i<n):bK (bF n λi=>(f i:Int)) i=f i:=by
 unfold bK;rw[AQ _ _ h,lu]
theorem aBI {x:og}(h:x.dj){k g:Nat}{m:Mem}(hm:m k=some (g,fD x))(n:Nat):cz (n+1) m (.ref k g 1 12 10)=some (.Y (x.us.tail.map ag)):=by
 have e:cut (fD x) 12 10=some (x.us.tail.map cd):=by
  unfold cut;rw[ad (by rw[CI h];omega)]
  congr 1
  obtain⟨c,cO,us,f,p⟩:=x;obtain⟨F,I⟩:=h;dsimp only at F I
  cases us with
  |nil=>cases I
  |cons u us =>
   have aq:(D us)=10:=by simpa using I
   unfold fD;dsimp only;rw[CJ,List.drop_append,kP (by rw[ak];omega),ak,F,List.nil_append,eE];rw[show 11-10=1 from rfl,jO,CJ,lQ,List.take_append_of_le_length (by rw[ak];omega),dt (by rw[ak];omega)]
   rfl
 have aC:∀l:List Int,(l.map cd).mapM (cz n m)=some (l.map λz=>Data.int .i64 z):=by
  intro l
  induction l with
  |nil=>rfl
  |cons a l ax =>
   rw[eE,lg,ax];rw[show cz n m (cd a)=some (.int .i64 a) from N6 n _]
   rfl
 have bZ:∀l:List Int,chunk 1 (D l) (l.map λz=>Data.int .i64 z)=l.map ag:=by
  intro l
  induction l with
  |nil=>rfl
  |cons a l ax=>simp only[hV,eE,chunk,wB,nd,CJ,lQ,ax];rfl
 have aq:(D x.us.tail)=10:=by rw[List.length_tail,h.us]
 unfold cz;rw[hm];dsimp only;rw[ad rfl,cK,e];dsimp only;rw[aC];have:=bZ x.us.tail;rw[aq] at this;rw[ll,this]
theorem dc.At.up {a:dc}{m:Mem}(h:a.At m)(aK:(D a.E)<=6){k g:Nat}{cs:List R}(Q:k/1000≠228):a.At (aZ m k g cs) :=
 ⟨h.can,h.fl,h.pl,h.Q2,by rw[dr (by omega)];exact h.row,λi M=>by rw[dr (by omega)];exact h.dd i M⟩
theorem aBJ {α:Type}(n:Nat)(q:Nat->α):(bF (n+1) q).tail=bF n λk=>q (k+1):=by
 unfold bF;rw[List.range_succ_eq_map,eE,List.tail_cons,lo]
 rfl
theorem alP {m:Mem}{k g:Nat}{d:Data}(hm:m k=some (g,[.J d]))(n:Nat):cz (n+1) m (.ptr k g 0)=some (.ptr [d]):=by
 unfold cz;rw[hm];dsimp only;rw[ad ⟨rfl,fg _⟩,lQ,lg,N6]
 rfl
theorem aBK (n k g sz o l:Nat):cz (n+1) emp (.ref k g sz o l)=none:=by
 unfold cz;rfl
def wc (d:Day)(f:Nat->Nat)(h:Nat->Rat)(i j:Nat):Nat:=if j<i then d.gC f h j else f j
theorem aBL (T:bh)(hz:T pa=aV vO)(eK:T oI=aV tW)(m5:T wF=aV AJ){K:eX->bd->Prop}{kk:List gz}(a:dc)(U:e2 a.E a.cs)(f:Nat->Nat)(aF:∀i,i<(D a.E)->f i<=10)(h:Nat->Rat)(kJ:∀i,i<(D a.E)->dm (h i))(al:∀i,i<(D a.E)->0<=h i)(lp:Mem)(v1 v4 r0:R)(MS aa9:Nat)(tm:Nat->R)(m:Mem)
  (aA:tm 1=v1) (dq:tm 4=v4) (bY:tm 6=.ref 228023 a.g 1 0 (D a.E)) (bR:tm 7=r0) (ef:tm 8=.ptr 217008 MS 0) (ej:tm 10=.ref 217057 aa9 1 0 0) (iX:tm 31=.ref 228023 a.g 1 0 (D a.E)) (iY:tm 32=.J (.int .i64 (D a.E))) (AU:tm 33=.J (.int .i64 0))
  (b8:(a.wf f).At m) (Ee:lp 217008=some (MS,[.J (.Y ((dF (D a.E) h).map aH))])) (iZ:m 217057=some (aa9,[])) (bQ:∀k,k/1000≠228->k≠217011->k≠217057->m k=lp k)
  (dN:∀tm' m' c6,tm' 1=v1->tm' 4=v4->tm' 6=.ref 228023 a.g 1 0 (D a.E)->tm' 7=r0->tm' 8=.ptr 217008 MS 0->tm' 10=.ref 217057 c6 1 0 (uz (aB a.E a.cs) f h (D a.E)).length->m' 217057=some (c6,bf ir (uz (aB a.E a.cs) f h (D a.E)))->(a.wf ((aB a.E a.cs).gC f h)).At m'->(∀k,k/1000≠228->k≠217011->k≠217057->m' k=lp k)->cG T K kk (.exit 2) ⟨tm',m'⟩) :
  wp T (Ef.body.sub [1,1,1,1,0,0,0,0,1,1,1,0,1,0,0]) (cG T K kk) ⟨tm,m⟩:=by
 simp only[Ef,eA.sub];have aK:=U.n5;have aa:=U.ok
 refine dv [1,4,6,7,8,31,32] [] (λ((i,g):Nat×Nat) tm m=>i<=D a.E/\tm 33=.J (.int .i64 i)/\tm 10=.ref 217057 g 1 0 (uz (aB a.E a.cs) f h i).length/\m 217057=some (g,bf ir (uz (aB a.E a.cs) f h i))/\(a.wf (wc (aB a.E a.cs) f h i)).At m/\∀k,k/1000≠228->k≠217011->k≠217057->m k=lp k) (λ(i,_)=>D a.E-i) (0,aa9) (by
  refine⟨by omega,AU,ej,iZ,?_,bQ⟩
  rw[a.R4 (q:=f) λj _=>by unfold wc;rw[ae (by omega)]]
  exact b8) ?_
 intro vs ms aT aR;simp only[go_sem,go_sem_proc,aA,dq,bY,bR,ef,iX,iY] at aT aR;subst aT aR;clear aA dq bY bR ef ej iX iY AU b8 iZ bQ tm m;rintro⟨i,g⟩ tm m Q-⟨M,AU,ej,iZ,b8,bQ⟩;simp only[go_sem,go_sem_proc,bb] at Q;obtain⟨aA,dq,bY,bR,ef,iX,iY⟩:=Q;rcases dA (i<D a.E) with ay|b9
 ·have d1:decide ((i:Int)<(D a.E:Int))=true:=dn;have b4:=e9 (i:=i) (by omega);have vY:=aF i ay;have rY:wc (aB a.E a.cs) f h i i=f i:=by unfold wc;rw[ae (by omega)]
  have e8:m 228023=some (a.g,bF (D a.E) λi => .ptr (228500+i) (a.gs.getD i 0) 0):=b8.row;have e7:m (228500+i)=some (a.gs.getD i 0,_):=b8.dd i ay;rw[dc.aa8 a _ ay,rY] at e7;have E2:=(bQ 217008 (by decide) (by decide) (by decide)).trans Ee;have ih:=vZ (iV (λi=>R.ptr (228500+i) (a.gs.getD i 0) 0) ay);have bX:(bF (D a.E) λi=>R.ptr (228500+i) (a.gs.getD i 0) 0).length=D a.E:=gM _ _;have cX:((a.gD i).xr (f i)).dj:=⟨(a.xt i).cO,(a.xt i).us⟩;have hlen:=CI cX;have l6:gq 1 (gI 22 (fD ((a.gD i).xr (f i))))=[cd (f i:Int)]:=Mi cX;have s6:=Mh cX (k:=f i) (z:=cS a.cs i (f i:Nat)) (iV _ (by omega));have eC:_=fD ((a.gD i).xr ((aB a.E a.cs).jA h i 10)):=ax3 cX ((aB a.E a.cs).jA h i 10:Nat);have dY:i+1<=D a.E:=by omega
  have ai:f i<11:=by omega
  have bL:(11+f i+1<=24)=True:=eq_true (by omega);have mG:=U.upto i (f i);have ER:dB (cS a.cs i (f i:Nat)):=qa (by omega) (by omega);have hw:=CF _ ER;have pc:=H3 (kJ i ay) (uy ER);have It:=uk U.right i (f i);have BP:decide (mE (h i) ((cS a.cs i (f i:Nat):Int):Rat)>=0)=decide (((cS a.cs i (f i:Nat):Int):Rat)<=h i):=ajn;have E3:=axU (aB a.E a.cs) f h i;rw[<-It] at E3;have AO:=vN h ay;have aBM:=axV (aB a.E a.cs) f h i;have dL:=mu yH ajJ 217057 g 8 (uz (aB a.E a.cs) f h i) i (cs:=[.J (.int .i64 i)]) rfl (by omega) (by omega);have aba:=λ(cM:Mem) (nm:cM (228500+i)=some (a.gs.getD i 0,fD ((a.gD i).xr (f i)))) n=>aBI cX nm n;have aBN:((a.gD i).xr (f i)).us.tail=bF 10 λk=>cS a.cs i (k+1:Nat):=aBJ 10 _;simp only[aBN] at aba
  have aBO:¬ h i<((cS a.cs i (f i:Nat):Int):Rat)->a.wf (wc (aB a.E a.cs) f h (i+1))=a.wf (wc (aB a.E a.cs) f h i):=λaQ=>a.R4 λj _=>by
   unfold wc
   by_cases aj:j=i
   ·subst aj;rw[ad (by omega),ae (by omega)];unfold Day.gC;rw[ae (by rw[<-It];exact λx=>aQ x.2)]
   ·by_cases uY:j<i
    ·rw[ad uY,ad (by omega)]
    ·rw[ae uY,ae (by omega)]
  have aBP:h i<((cS a.cs i (f i:Nat):Int):Rat)->a.wf (wc (aB a.E a.cs) f h (i+1))=a.wf (λj=>if j=i then (aB a.E a.cs).jA h i 10 else wc (aB a.E a.cs) f h i j):=λaQ=>a.R4 λj _=>by
   unfold wc
   by_cases aj:j=i
   ·subst aj;rw[ad (by omega),ad rfl];unfold Day.gC;rw[ad ⟨ay,by rw[<-It];exact aQ⟩]
   ·rw[ae aj]
    by_cases uY:j<i
    ·rw[ad uY,ad (by omega)]
    ·rw[ae uY,ae (by omega)]
  have mH:=λ(bj:Mem) (mW:(a.wf (wc (aB a.E a.cs) f h i)).At bj)=>mW.aBG ay ((aB a.E a.cs).jA h i 10)
  have uc:h i<((cS a.cs i (f i:Nat):Int):Rat)->(aB a.E a.cs).jA h i 10<10:=λaQ=>by
   rw[It] at aQ;have:=aa.uh i vY;rcases YZ aa (h:=h) (i:=i) 10 (bW _) (by rw[mg,Day.LQ];exact al i ay) with ⟨-,e⟩|⟨-,e,-⟩
   ·grind
   ·exact e
  have aBQ:=λaQ=>aBF U h (D a.E) i ay (kJ i ay) (uc aQ)
  have vG:=aj0 (bF 10 λk=>cS a.cs i (k+1:Nat)) (.solve (dF (D a.E) h) i) ⟨by rw[gM];omega,by decide,by rw[p8];exact ay,Zp (by omega) kJ,λx O=>by
   obtain⟨k,-,rfl⟩:=dS.1 O;have:=U.upto i (k+1:Nat);exact qa (by omega) (by omega)⟩
  simp only[rX] at vG;generalize aLE:(bF 10 λk=>cS a.cs i (k+1:Nat))=SL at *;generalize Ip:(bF (D a.E) λi=>R.ptr (228500+i) (a.gs.getD i 0) 0)=xu at *;have aBR:(228500+i)/1000=228:=by omega
  generalize uB:228500+i=eg at *;generalize Mz:fD ((a.gD i).xr (f i))=DC at *;have n11:(eg=217011)=False:=eq_false (by omega);have alQ:(eg=217057)=False:=eq_false (by omega);have alR:(217057=eg)=False:=eq_false (by omega);have aLF:av (h i)=av (h i):=rfl;generalize aaH:av (h i)=hL at *;generalize nk:av ((cS a.cs i (f i:Nat):Int):Rat)=dg at *;obtain⟨⟨df,eD⟩,⟨j3,l2⟩⟩:=dg;obtain⟨⟨cU,de⟩,⟨a3,a4⟩⟩:=hL;simp only[aH] at hw pc;rcases ha:decide (((cS a.cs i (f i:Nat):Int):Rat)<=h i)
  ·have aQ:h i<((cS a.cs i (f i:Nat):Int):Rat):=by have:=of_decide_eq_false ha;grind
   rw[ad aQ] at E3;rw[<-E3] at dL;rw[aBQ aQ] at vG;simp only[<-aBP aQ] at mH;have ck:(uz (aB a.E a.cs) f h (i+1)).length=(uz (aB a.E a.cs) f h i).length+1:=by rw[E3,fE];rfl
   have alS:∀cM:Mem,cM 217008=some (MS,[.J (.Y ((dF (D a.E) h).map aH))])->cz 5 cM (.ptr 217008 MS 0)=some (.ptr [.Y ((dF (D a.E) h).map aH)]):=λcM nm=>alP nm 4;have alT:∀(cM:Mem) (g:Nat),cM 217011=some (g,[.J (.int .i64 i)])->cz 5 cM (.ptr 217011 g 0)=some (.ptr [.int .i64 i]):=λcM g nm=>alP nm 4;have alU:=aBK 5 eg (a.gs.getD i 0) 1 12 10;simp only[go_sem,go_sem_proc,hz,eK,m5,aA,dq,bY,bR,ef,ej,iX,iY,AU,e8,e7,E2,iZ,ih,bX,hlen,l6,s6,eC,dY,ai,bL,ay,hw,pc,BP,ha,AO,dL,aba,vG,alS,alT,alU,n11,alQ,alR,d1,b4,aH,cd,cK,ak,bq,kH,scalar,nL,alV,alW];repeat' (first|refine aw ?_ ?_|fail)<;>intro h<;>simp only[h,go_sem,go_sem_proc,hz,eK,m5,aA,dq,bY,bR,ef,ej,iX,iY,AU,e8,e7,E2,iZ,ih,bX,hlen,l6,s6,eC,dY,ai,bL,ay,hw,pc,BP,ha,AO,dL,aba,vG,alS,alT,alU,n11,alQ,alR,d1,b4,aH,cd,cK,ak,bq,kH,scalar,nL,alV,alW]
   refine⟨(i+1,g+1),by dsimp only;omega,by dsimp only;omega,rfl,by rw[ck],rfl,mH _ (((b8.up aK (by decide)).up aK (by decide)).up aK (by decide)),λk F I af=>?_⟩
   rw[ae (show ¬ k=eg by intro Q;rw[Q] at F;exact F aBR),ae af,ae I,ae I];exact bQ k F I af
  ·have aQ:¬ h i<((cS a.cs i (f i:Nat):Int):Rat):=by have:=of_decide_eq_true ha;grind
   rw[ae aQ] at E3;simp only[go_sem,go_sem_proc,hz,eK,aA,dq,bY,bR,ef,ej,iX,iY,AU,e8,e7,E2,ih,bX,hlen,l6,s6,dY,ai,bL,ay,hw,pc,BP,ha,AO,n11,d1,b4,aH,cd,cK,ak,bq];repeat' (first|refine aw ?_ ?_|fail)<;>intro h<;>simp only[h,go_sem,go_sem_proc,hz,eK,aA,dq,bY,bR,ef,ej,iX,iY,AU,e8,e7,E2,ih,bX,hlen,l6,s6,dY,ai,bL,ay,hw,pc,BP,ha,AO,n11,d1,b4,aH,cd,cK,ak,bq]
   refine⟨(i+1,g),by dsimp only;omega,by dsimp only;omega,rfl,by rw[E3],by rw[E3];exact iZ,?_,λk F I af=>?_⟩
   ·rw[aBO aQ];exact (b8.up aK (by decide)).up aK (by decide)
   ·rw[ae I,ae I];exact bQ k F I af
 ·have d1:decide ((i:Int)<(D a.E:Int))=false:=dk;obtain rfl:i=D a.E:=by omega
  rw[a.R4 (q:=(aB a.E a.cs).gC f h) λj aj=>by unfold wc;rw[ad aj]] at b8
  simp only[go_sem,go_sem_proc,aA,dq,bY,bR,ef,ej,iX,iY,AU,d1];repeat' (first|refine aw ?_ ?_|fail)<;>intro h<;>simp only[h,go_sem,go_sem_proc,aA,dq,bY,bR,ef,ej,iX,iY,AU,d1]
  refine dN _ _ g ?_ ?_ ?_ ?_ ?_ ?_ iZ b8 bQ<;>simp only[e4,eb,if_false,aA,dq,bY,bR,ef,ej]
def we (hv:List a1):List Rat:=hv.map pd
structure abb (E:List Int) (cs:List ao) (hv:List a1):Prop where
 n:(D E)<=1000000
 c:(D cs)<=1000000
 o:e6 hv
 uA:iF E cs=true->e2 E cs
 sz:iF E cs=true->(D hv)=(D E)->hv.any (pS zC)=false->∀f∈hv,dT 460 (pd f)
open Classical in
def abc (E:List Int)(cs:List ao)(x:Nat->Rat):Bool:=decide (MR E cs x)
open Classical in
theorem aBS {E:List Int}{cs:List ao}{x:Nat->Rat}:abc E cs x=true↔MR E cs x:=by
 unfold abc;exact decide_eq_true_iff
def R5 (E:List Int)(cs:List ao)(hv:List a1):Bool:=iF E cs&&(decide (D hv=D E)&&(!hv.any (pS zC)&&abc E cs λi=>(we hv).getD i 0))
theorem alX:∀(a b:List Rat),(∀x∈a,dm x)->(∀x∈b,dm x)->(kt (a.map av) (b.map av)=true↔a=b)
 | [],[],_,_=>by simp[kt]
 | [],_::_,_,_=>by simp[kt]
 |_::_,[],_,_=>by simp[kt]
 |x::a,y::b,aN,ah=>by
  have ax:=alX a b (λz aS=>aN z (gX _ aS)) λz aS=>ah z (gX _ aS);rw[eE,eE,kt,ec,ax,bb,Pu (aN x gn) (ah y gn)]
  have:(mE x y==0)=true↔x=y:=by
   have F:=ajl (x:=x) (y:=y);have I:=QS (x:=x) (y:=y);rw[beq_iff_eq]
   constructor
   ·intro h;rw[h] at F I;have aA:¬ y<x:=of_decide_eq_false (F.symm.trans rfl);have aC:¬ x<y:=of_decide_eq_false (I.symm.trans rfl);grind
   ·intro h;have aA:¬ y<x:=by grind
    have aC:¬ x<y:=by grind
    rw[j9 aA] at F;rw[j9 aC] at I;have:=of_decide_eq_false F;have:=of_decide_eq_false I;omega
  rw[this]
structure CR (E:List Int) (cs:List ao) (x:Nat->Rat) (l:List ao) (s:Nat->Rat):Prop where
 a:∀i,i<(D E)->uE E cs x i l=some (s i)
 l:∀i,i<(D E)->dm (s i)
theorem CR.skip {E:List Int}{cs:List ao}{x:Nat->Rat}{l:List ao}{s:Nat->Rat}(h:CR E cs x l s){c:ao}(G:c.2.1<0):CR E cs x (l++[c]) s:=by
 refine⟨λi M=>?_,h.l⟩;rw[II,h.a i M];unfold E1;rw[ae (by omega)]
theorem CR.add {E:List Int}{cs:List ao}{x:Nat->Rat}{l:List ao}{s:Nat->Rat}(h:CR E cs x l s){c:ao}{t:Nat}(G:c.2.1=(t:Int))(Q:mD (s t) (ff cs (x c.1.toNat) c)=true):CR E cs x (l++[c]) λi=>if i=t then s t+ff cs (x c.1.toNat) c else s i:=by
 refine⟨λi M=>?_,λi M=>?_⟩
 ·rw[II,h.a i M];unfold E1
  by_cases MT:i=t
  ·subst MT;rw[ad G,kB,ad Q,ad rfl]
  ·rw[ae (by omega),ae MT]
 ·by_cases MT:i=t
  ·rw[ad MT];exact alJ Q
  ·rw[ae MT];exact h.l i M
theorem abd {cs:List ao}(cX:∀c∈cs,0<=c.2.2.2/\c.2.2.2<=1000000000000000)(ji:(D cs)<=12){x:Rat}(O:dT 460 x){c:ao}(G:c∈cs):dm (ff cs x c):=by
 have ah:∀(p:ao->Prop) [DecidablePred p],0<=cP cs (λc=>if p c then c.2.2.2 else 0)/\cP cs (λc=>if p c then c.2.2.2 else 0)<=12000000000000000:=λp _=>by
  have:=Qv (cs:=cs) (aO:=λc=>if p c then c.2.2.2 else 0) (B:=1000000000000000) (by omega) λc G=>by
   have F:=cX c G
   try dsimp only
   split<;>omega
  omega
 have mG:=ah λc'=>c'.1=c.1/\c'.2.2.1<c.2.2.1;have cJ:=ah λc'=>c'.1=c.1/\c'.2.2.1=c.2.2.1;rw[<-ajF] at cJ;have aN:=cX c G;have EX:dT 54 ((c.2.2.2:Int):Rat):=AB (by omega);have IE:dT 54 ((kK cs c.1 c.2.2.1:Int):Rat):=AB (by omega);have aBT:dT 54 ((cS cs c.1 c.2.2.1:Int):Rat):=AB (by unfold cS;omega);unfold ff
 split
 ·exact j4 EX (by omega)
 ·have aBU:dT 515 (pos (x-((cS cs c.1 c.2.2.1:Int):Rat))):=by
   unfold pos
   split
   ·exact (show dT 1 0 from⟨by decide,by decide⟩).mono (by omega)
   ·rw[K7];exact (ah8 O (HR aBT)).mono (by omega)
  by_cases al:((kK cs c.1 c.2.2.1:Int):Rat)=0
  ·rw[al,HE,Rat.inv_zero,nu,Cv];exact j4 (show dT 1 0 from⟨by decide,by decide⟩) (by omega)
  ·exact j4 (L5 (awk EX IE al) aBU) (by omega)
abbrev abe:(List Int)×(List ao)×(List a1)->List Data:=λ(E,cs,hv)=>[.Y (E.map ag),.Y (cs.map cx),.Y (hv.map aH)]
def alY:=cp abe λ(E,cs,hv)=>cV (abb E cs hv) (.same (.bool (R5 E cs hv)))
theorem aBV:∀a b,abe a=abe b->a=b:=by
  rintro⟨vU,vV,nO⟩ ⟨vW,oC,nP⟩ h;simp only[bb,Data.Y.injEq,and_true] at h;exact ed (map_inj fj _ _ h.1) (ed (map_inj s3 _ _ h.2.1) (map_inj m0 _ _ h.2.2))
@[go_sem] theorem aBW (E:List Int)(cs:List ao)(hv:List a1)(G:abb E cs hv):alY [.Y (E.map ag),.Y (cs.map cx),.Y (hv.map aH)]=some (.same (.bool (R5 E cs hv))):=(cA aBV (E,cs,hv)).trans (cY G _)
theorem aBX {n:Nat}{f:Nat->Nat}(h:∀i,n<=i->f i=10):bK (bF n λi=>(f i:Int))=f:=by
 funext i
 by_cases M:i<n
 ·exact aBH f M
 ·unfold bK;rw[en,List.getElem?_eq_none (by rw[gM];omega),h i (by omega)];rfl
theorem aBY {d:Day}{f:Nat->Nat}{h:Nat->Rat}(gp:∀i,d.n<=i->f i=10):∀i,d.n<=i->d.gC f h i=10:=λi M=>by
 unfold Day.gC;rw[ae λx=>by omega,gp i M]
theorem abf (d:Day):∀k f,(d.rounds k f).1.length<=k
 |0,f=>bW _
 |k+1,f=>by
  rw[Day.rounds]
  split
  ·exact fg _
  ·have:=abf d k (d.gC f (d.top f));simp only[hV];omega
def r5 (l:List Nat):List Data:=[.Y (l.map ir)]
theorem alZ (l:List Nat):(r5 l).length=1:=rfl
theorem aBZ (l:List Nat):((r5 l).map R.J).all R.one=true:=rfl
def yV (done:List (List Nat))(g:Nat):R:=if done=[] then .nil else .ref 217077 g 1 0 (D done)
structure al0 (E:List Int) (cs:List ao) (g:Nat) (gs:Nat->Nat) (f:Nat->Nat) (done:List (List Nat)) (nH:Nat) (m:Mem):Prop where
 at_:∃p,(((yQ E cs g gs).wf f).hA p).At m
 out:∃lb,lb=0/\m 217007=some (lb,[.nil,.nil,yV done nH])
 row:done≠[]->m 217077=some (nH,bf r5 done)
 no:∀k:Nat,k/1000≠217->k/1000≠228->m k=none
 f10:∀i,D E<=i->f i=10
 reach:Reach (aB E (dw (D E) cs)) f
 iU:∃r,mJ (D E) f<=r/\(aB E (dw (D E) cs)).iU=done++((aB E (dw (D E) cs)).rounds r f).1/\(aB E (dw (D E) cs)).jq=((aB E (dw (D E) cs)).rounds r f).2
theorem aB0 (T:bh)(uF:T Om=qP MC)(hz:T pa=aV vO)(eK:T oI=aV tW)(m5:T wF=aV AJ){K:eX->bd->Prop}{kk:List gz}(E:List Int)(cs:List ao)(qL:e2 E cs)(g:Nat)(gs:Nat->Nat)(v1:R)(tm:Nat->R)(m:Mem)
  (aA:tm 1=v1) (dq:tm 4=.ptr 217004 0 0) (bY:tm 6=.ref 228023 g 1 0 (D E)) (bR:tm 7=.ptr 217007 0 0) (qF:m 217004=some (0,[.nil,.nil,.nil])) (b8:al0 E cs g gs (λ_=>10) [] 0 m)
  (dN:∀tm' m' nH,tm' 1=v1->tm' 4=.ptr 217004 0 0->tm' 7=.ptr 217007 0 0->m' 217004=some (0,[.nil,.nil,.nil])->m' 217007=some (0,[.J (.Y ((dF (D E) (aB E (dw (D E) cs)).cF).map aH)),.nil,yV (aB E (dw (D E) cs)).iU nH])->((aB E (dw (D E) cs)).iU≠[]->m' 217077=some (nH,bf r5 (aB E (dw (D E) cs)).iU))->cG T K kk (.exit 0) ⟨tm',m'⟩) :
  wp T (Ef.body.sub [1,1,1,1,0,0]) (cG T K kk) ⟨tm,m⟩:=by
 simp only[Ef,eA.sub];have U:=ZF qL;have aK:=U.n5;have aa:=U.ok;refine dv [1,4,6,7] [217004] (λ((f,done,nH):(Nat->Nat)×List (List Nat)×Nat) tm m=>al0 E cs g gs f done nH m) (λ(f,_)=>mJ (D E) f) (λ_=>10,[],0) (by exact b8) ?_;intro vs ms aT aR;simp only[go_sem,go_sem_proc,aA,dq,bY,bR,qF] at aT aR;subst aT aR;clear aA dq bY bR qF b8 tm m;rintro⟨f,done,nH⟩ tm m Q qF b8;simp only[go_sem,go_sem_proc,bb] at Q qF;obtain⟨aA,dq,bY,bR⟩:=Q;obtain⟨⟨p,b8⟩,⟨lb,rfl,R6⟩,e8,gg,vY,al1,r,Gw,bG,yr⟩:=b8;dsimp only at *;have uT:=aBX vY;have lj:=al1;obtain⟨al2,hinv,-⟩:=al1
 have fh:=azV (((yQ E cs g gs).wf f).hA p) m ⟨b8,λk Q=>gg k (by omega) (by omega),λk Q=>gg k (by omega) (by omega),λk Q=>gg k (by omega) (by omega),⟨U,λx O=>by
  obtain⟨i,-,rfl⟩:=dS.1 O;have:=hinv.le i;omega⟩,⟨al2,by show Inv (aB E (dw (D E) cs)) (bK (bF (D E) λi=>(f i:Int))) al2;rw[uT];exact hinv⟩⟩
 have al3:MC [.ref 228023 g 1 0 (D E)] m=some (RE (((yQ E cs g gs).wf f).hA p) m):=fh;simp only[go_sem,go_sem_proc,uF,aA,dq,bY,bR,al3];have bD:=Day.Cw (aa.hex f lj);have kJ:∀i,i<(D E)->dm ((aB E (dw (D E) cs)).top f i):=λi M=>j4 (ajc U lj M) (by omega);have al:∀i,i<(D E)->0<=(aB E (dw (D E) cs)).top f i:=λi M=>bD.Qt aa M;rintro al4 mem' ⟨z8,o6,NH,al5⟩
 have aB1:al4=.cI [.J (.Y ((dF (D E) ((aB E (dw (D E) cs)).top f)).map aH)),.J (.bool true)]:=by
  rw[z8];show R.cI [.J (.Y ((dF (D E) ((aB E (dw (D E) cs)).top (bK (bF (D E) λi=>(f i:Int))))).map aH)),.J (.bool true)]=_;rw[uT]
 clear z8 fh al3;subst aB1;have fH:∀k:Nat,k/1000≠228->mem' k=m k:=λk Q=>al5 k λi M=>by have:i<D E:=M;omega
 have oa:=(fH 217004 (by decide)).trans qF;have qd:=(fH 217007 (by decide)).trans R6;have aji:(aB E (dw (D E) cs)).h3 f=uz (aB E (dw (D E) cs)) f ((aB E (dw (D E) cs)).top f) (D E):=rfl
 have al6:(aB E (dw (D E) cs)).h3 f=[]->(aB E (dw (D E) cs)).iU=done/\(aB E (dw (D E) cs)).cF=(aB E (dw (D E) cs)).top f:=λh=>by
  have:=(aB E (dw (D E) cs)).avX h r;rw[this,fJ] at bG;rw[this] at yr;exact⟨bG,by unfold Day.cF;rw[yr]⟩
 have uX:(aB E (dw (D E) cs)).h3 f≠[]->mJ (D E) ((aB E (dw (D E) cs)).gC f ((aB E (dw (D E) cs)).top f))<mJ (D E) f/\Reach (aB E (dw (D E) cs)) ((aB E (dw (D E) cs)).gC f ((aB E (dw (D E) cs)).top f))/\(∀i,D E<=i->(aB E (dw (D E) cs)).gC f ((aB E (dw (D E) cs)).top f) i=10)/\∃r,mJ (D E) ((aB E (dw (D E) cs)).gC f ((aB E (dw (D E) cs)).top f))<=r/\(aB E (dw (D E) cs)).iU=(done++[(aB E (dw (D E) cs)).h3 f])++((aB E (dw (D E) cs)).rounds r ((aB E (dw (D E) cs)).gC f ((aB E (dw (D E) cs)).top f))).1/\(aB E (dw (D E) cs)).jq=((aB E (dw (D E) cs)).rounds r ((aB E (dw (D E) cs)).gC f ((aB E (dw (D E) cs)).top f))).2:=λbC=>by
  have ay:=Y2 aa aa.hex lj bC;have hi:mJ (D E) ((aB E (dw (D E) cs)).gC f ((aB E (dw (D E) cs)).top f))<mJ (D E) f:=ay;refine⟨hi,lj.next aa aa.hex,aBY (d:=aB E (dw (D E) cs)) vY,?_⟩
  cases r with
  |zero=>omega
  |succ r =>
   rw[Day.rounds,ae bC] at bG yr;exact⟨r,by omega,by rw[bG];simp,yr⟩
 generalize nb:aB E (dw (D E) cs)=d at *;generalize ru:(dF (D E) (d.top f)).map aH=V at *;simp only[go_sem,go_sem_proc,aA,dq,bY,bR,oa,qd,c8];subst nb;rw[<-ru];refine aBL T hz eK m5 ((yQ E cs g gs).hA o6) U f (λi _=>hinv.le i) ((aB E (dw (D E) cs)).top f) kJ al _ v1 (.ptr 217004 0 0) (.ptr 217007 0 0) (gA (mem' 217008)) (gA (mem' 217057)) _ _ ?_ ?_ ?_ ?_ ?_ ?_ ?_ ?_ ?_ (((show ((((yQ E cs g gs).hA o6).wf f)).At mem' from NH).up aK (by decide)).up aK (by decide)|>.up aK (by decide)) ?_ ?_ (λ_ _ _ _=>rfl) ?_
 all_goals first|(intro MD cM cf ca j2 iq hR hP nZ yU zk qW)|(simp only[e4,eb,if_false,if_true,aA,dq,bY,bR];done)|(simp only[e4,eb,if_false,if_true];rfl)|(simp only[e4,eb,if_false,if_true,aA,dq,bY,bR];rfl)|(simp only[aZ,eb,if_false,if_true];done)|(simp only[aZ,eb,if_false,if_true];rfl)|skip
 replace nZ:MD 10=.ref 217057 cf 1 0 ((aB E (dw (D E) cs)).h3 f).length:=nZ;replace yU:cM 217057=some (cf,bf ir ((aB E (dw (D E) cs)).h3 f)):=yU;replace iq:MD 6=.ref 228023 g 1 0 (D E):=iq;replace zk:(((yQ E cs g gs).hA o6).wf ((aB E (dw (D E) cs)).gC f ((aB E (dw (D E) cs)).top f))).At cM:=zk;have IJ:cM 217004=some (0,[.nil,.nil,.nil]):=(qW 217004 (by decide) (by decide) (by decide)).trans (by simp only[aZ,eb,if_false];exact oa);have xA:cM 217007=some (0,[.nil,.nil,yV done nH]):=(qW 217007 (by decide) (by decide) (by decide)).trans (by simp only[aZ,eb,if_false];exact qd);have abg:cM 217008=some (gA (mem' 217008),[.J (.Y V)]):=(qW 217008 (by decide) (by decide) (by decide)).trans (by simp only[aZ,eb,if_false,if_true];rw[ru]);have al7:done≠[]->cM 217077=some (nH,bf r5 done):=λh=>(qW 217077 (by decide) (by decide) (by decide)).trans (by simp only[aZ,eb,if_false];exact (fH 217077 (by decide)).trans (e8 h));have xD:∀(k j:Nat),k/1000≠217->j/1000=217->k≠j:=λk j F I h=>F (h ▸ I)
 have aB2:∀k:Nat,k/1000≠217->k/1000≠228->cM k=none:=λk F I=>(qW k I (xD k _ F (by decide)) (xD k _ F (by decide))).trans (by
  rw[dr (xD k _ F (by decide)),dr (xD k _ F (by decide)),dr (xD k _ F (by decide))];exact (fH k I).trans (gg k F I))
 clear qW fH NH al5 oa qd R6 e8 gg qF aA dq bY bR bG yr
 by_cases bC:(aB E (dw (D E) cs)).h3 f=[]
 ·obtain⟨F,I⟩:=al6 bC;rw[bC] at nZ;rw[F,I] at dN;have rf:(((0:Nat):Int)==0)=true:=rfl;simp only[go_sem,go_sem_proc,ca,j2,iq,hR,hP,nZ,IJ,xA,abg,rf,lq,List.set_cons_zero];refine dN _ _ nH ?_ ?_ ?_ ?_ ?_ λh=>?_
  ·simp only[e4,eb,if_false];exact ca
  ·simp only[e4,eb,if_false];exact j2
  ·simp only[e4,eb,if_false];exact hR
  ·simp only[aZ,eb,if_false];exact IJ
  ·simp only[aZ,eb,if_true];rw[ru]
  ·simp only[aZ,eb,if_false];exact al7 h
 ·obtain⟨F,I,af,aM⟩:=uX bC;have aBM:((aB E (dw (D E) cs)).h3 f).length<=6:=eP (od _ _) (by rw[ss];exact aK)
  have rf:((((aB E (dw (D E) cs)).h3 f).length:Int)==0)=false:=by
   have:((aB E (dw (D E) cs)).h3 f).length≠0:=λh=>bC (CP.1 h);rw[beq_eq_false_iff_ne];omega
  have mK:=λ(K:bd->Prop) (st:bd)=>mS (K:=K) (st:=st) yH 10 217057 cf ((aB E (dw (D E) cs)).h3 f);have mh:(1<=maxLen)=True:=eq_true (by decide);generalize Tb:(aB E (dw (D E) cs)).h3 f=fl at *;clear al6 uX dN;have al8:∀(bj:Mem),(∀k:Nat,k/1000≠217->bj k=cM k)->∀k:Nat,k/1000≠217->k/1000≠228->bj k=none:=λbj mW k F I=>(mW k F).trans (aB2 k F I)
  by_cases ki:done=[]
  ·subst ki;have MU:yV [] nH=.nil:=rfl;rw[MU] at xA;simp only[go_sem,go_sem_proc,ca,j2,iq,hR,hP,nZ,IJ,xA,abg,yU,rf,mK,mh];refine⟨(_,[fl],gA (cM 217077)),F,⟨⟨o6,((zk.up aK (by decide)).up aK (by decide)).up aK (by decide)⟩,⟨0,rfl,?_⟩,λ_=>?_,?_,af,I,aM⟩⟩
   ·rw[iH];rfl
   ·rw[dr (by decide),iH];rfl
   ·exact al8 _ λk Q=>by rw[dr (xD k _ Q (by decide)),dr (xD k _ Q (by decide)),dr (xD k _ Q (by decide))]
  ·have MU:yV done nH=.ref 217077 nH 1 0 (D done):=by unfold yV;rw[ae ki]
   rw[MU] at xA;have R7:=al7 ki
   have Tv:(D done)+1<=60:=by
    obtain⟨Fw,-,bk,-⟩:=aM;have bI:=abf (aB E (dw (D E) cs)) (10*(aB E (dw (D E) cs)).n) λ_=>10;have bH:(aB E (dw (D E) cs)).iU.length<=10*D E:=bI;rw[bk] at bH;simp only[fE,Af] at bH;omega
   have dL:=mu alZ aBZ 217077 nH 24 done fl (cs:=[.J (.Y (fl.map ir))]) rfl (by omega) (by omega);simp only[go_sem,go_sem_proc,ca,j2,iq,hR,hP,nZ,IJ,xA,abg,yU,R7,rf,mK,dL];refine⟨(_,done++[fl],nH+1),F,⟨⟨o6,((zk.up aK (by decide)).up aK (by decide)).up aK (by decide)⟩,⟨0,rfl,?_⟩,λ_=>?_,?_,af,I,aM⟩⟩
   ·rw[iH];unfold yV;rw[ae (by simp),fE];rfl
   ·rw[dr (by decide),iH]
   ·exact al8 _ λk Q=>by rw[dr (xD k _ Q (by decide)),dr (xD k _ Q (by decide)),dr (xD k _ Q (by decide))]

theorem Alike.cF {d e:Day}(h:Alike d e):d.cF=e.cF:=by unfold Day.cF Day.jq;rw[h.top,h.rounds,h.n]
theorem Alike.iU {d e:Day}(h:Alike d e):d.iU=e.iU:=by unfold Day.iU;rw[h.rounds,h.n]
structure R8 (E:List Int) (cs:List ao):Prop where
 n:(D E)<=1000000
 c:(D cs)<=1000000
 uA:iF E cs=true->e2 E cs
def oV (E:List Int)(cs:List ao):List a1:=cs.map λc=>av (ff cs ((aB E cs).cF c.1.toNat) c)
def lI (E:List Int)(cs:List ao):List a1:=dF (D E) (aB E cs).cF
def IK (E:List Int)(cs:List ao):Data:=if iF E cs=true then .cI [.agg [.Y ((lI E cs).map aH),.Y ((oV E cs).map aH),.Y ((aB E cs).iU.map r5)],.int .i64 0] else .cI [.agg [.Y [],.Y [],.Y []],.int .i64 1]
theorem aB3 {E:List Int}{cs:List ao}(U:e2 E cs):CQ cs ((dP (D E)).map (aB E cs).cF):=by
 have ab:=(hy.1 U.right).2.2.2;have aK:=U.n5;refine⟨U.sZ,by simp;exact aK,λc G=>?_,λx O=>?_⟩
 ·have F:=ab c G;have I:=U.am c G;rw[ak,ss];omega
 ·obtain⟨i,M,rfl⟩:=dS.1 O;have kf:=gV.1 M;exact⟨H2 U.ok kf,(EH U kf).mono (by omega)⟩
theorem aB4 {E:List Int}{cs:List ao}(U:e2 E cs):(cs.map λc=>av (ff cs (((dP (D E)).map (aB E cs).cF).getD c.1.toNat 0) c))=oV E cs:=jM λc G=>by
 have F:=(hy.1 U.right).2.2.2 c G;have:((dP (D E)).map (aB E cs).cF).getD c.1.toNat 0=(aB E cs).cF c.1.toNat:=AQ (aB E cs).cF 0 (show c.1.toNat<(D E) by omega);rw[this]
def R9:=cp Rg λ(E,cs)=>cV (R8 E cs) (.same (IK E cs))
@[go_sem] theorem al9 (E:List Int)(cs:List ao)(G:R8 E cs):R9 [.Y (E.map ag),.Y (cs.map cx)]=some (.same (IK E cs)):=(cA aj3 (E,cs)).trans (cY G _)
theorem aB5 (T:bh)(yW:T Uf=aV aaw)(yX:T Ug=qP aaR)(uF:T Om=qP MC)(hz:T pa=aV vO)(eK:T oI=aV tW)(m5:T wF=aV AJ)(yY:T Uh=aV R2)(E:List Int)(cs:List ao)(G:R8 E cs):WP T Ef (.same (IK E cs)) [.J (.Y (E.map ag)),.J (.Y (cs.map cx))]:=by
 refine cB ?_;simp only[Ef];obtain⟨mm,oK,xp⟩:=G;unfold IK;rcases ab:iF E cs
 ·rw[ae (by decide)];simp only[go_sem,go_sem_proc,yW,yX,uF,hz,eK,m5,yY,mm,oK,ab,dD];repeat' (first|refine aw ?_ ?_|fail)<;>intro h<;>simp only[h,go_sem,go_sem_proc,yW,yX,uF,hz,eK,m5,yY,mm,oK,ab,dD]
 ·rw[ad rfl];have U:=xp ab;have aK:=U.n5;have E6:=ai4 ab
  have gg:rU 228 (aZ emp 217004 0 [R.nil,R.nil,R.nil]):=λk Q=>by
   rw[dr (by rintro rfl;omega)];rfl
  have fh:=aAf E cs (aZ emp 217004 0 [R.nil,R.nil,R.nil]) ⟨U,gg⟩;simp only[go_sem,go_sem_proc,yW,yX,uF,hz,eK,m5,yY,mm,oK,ab,fh,c8];rintro al4 m ⟨g,gs,rfl,b8,bQ⟩;dsimp only at b8;have qF:m 217004=some (0,[.nil,.nil,.nil]):=(bQ 217004 (by decide)).trans iH;have k5:m 217007=none:=(bQ 217007 (by decide)).trans (dr (by decide));simp only[go_sem,go_sem_proc,yW,yX,uF,hz,eK,m5,yY,k5];refine aB0 T uF hz eK m5 E cs U g gs (.J (.Y (cs.map cx))) _ _ ?_ ?_ ?_ ?_ ?_ ⟨⟨λ_=>false,?_⟩,⟨0,rfl,?_⟩,λh=>absurd rfl h,?_,λ_ _=>rfl,Reach.start (ZF U).ok,⟨10*D E,?_,rfl,rfl⟩⟩ ?_
  all_goals first|(intro MD cM nH ca j2 hR oa qd R7)|(simp only[e4,eb,if_false,if_true];done)|(simp only[e4,eb,if_false,if_true];rfl)|(simp only[aZ,eb,if_false,if_true];done)|(simp only[aZ,eb,if_false,if_true];rfl)|(simp only[aZ,eb,if_false,if_true];exact qF)|skip
  ·exact b8.up aK (by decide)
  ·intro k F I;rw[dr (by rintro rfl;exact F (by decide)),bQ k I,dr (by rintro rfl;exact F (by decide))];rfl
  ·rw[ai6];exact bW _
  rw[<-E6.cF,<-E6.iU] at qd;rw[<-E6.iU] at R7;have E7:=aBf cs ((dP (D E)).map (aB E cs).cF) (aB3 U);rw[aB4 U] at E7;replace E7:R2 [.Y (cs.map cx),.Y ((lI E cs).map aH)]=some (.same (.cI [.Y ((oV E cs).map aH),.bool true])):=E7;replace qd:cM 217007=some (0,[.J (.Y ((lI E cs).map aH)),.nil,yV (aB E cs).iU nH]):=qd;generalize lI E cs=MV at *;generalize oV E cs=yT at *;generalize (aB E cs).iU=IL at *;clear E6 fh b8 bQ qF k5
  by_cases uf:IL=[]
  ·subst uf;replace qd:cM 217007=some (0,[.J (.Y (MV.map aH)),.nil,.nil]):=qd;simp only[go_sem,go_sem_proc,yW,yX,uF,hz,eK,m5,yY];refine aaM ?_;rintro bj rfl;simp only[go_sem,go_sem_proc,yW,yX,uF,hz,eK,m5,yY,ca,j2,hR,oa,qd,E7,c8,c1];repeat' (first|refine aw ?_ ?_|fail)<;>intro h<;>simp only[h,go_sem,go_sem_proc,yW,yX,uF,hz,eK,m5,yY,ca,j2,hR,oa,qd,E7,c8,c1]
  ·have E2:=R7 uf;have MU:yV IL nH=.ref 217077 nH 1 0 (D IL):=by unfold yV;rw[ae uf]
   rw[MU] at qd;simp only[go_sem,go_sem_proc,yW,yX,uF,hz,eK,m5,yY];refine aaL (si.Nr 217007 0 _ 2 217077 nH 1 0 (D IL) _ (.Y (IL.map r5)) qd rfl E2 (by decide) (qy (n:=0) alZ E2)) ?_;intro bj mW;have ama:bj 217007=some (0,[.J (.Y (MV.map aH)),.nil,.J (.Y (IL.map r5))]):=by rw[mW,iH];rfl
   have amb:bj 217004=some (0,[.nil,.nil,.nil]):=by
    rw[mW,dr (by decide)];unfold kill;rw[dr (by decide)];exact oa
   clear mW;simp only[go_sem,go_sem_proc,yW,yX,uF,hz,eK,m5,yY,ca,j2,hR,amb,ama,E7,c8];repeat' (first|refine aw ?_ ?_|fail)<;>intro h<;>simp only[h,go_sem,go_sem_proc,yW,yX,uF,hz,eK,m5,yY,ca,j2,hR,amb,ama,E7,c8]
theorem aB6 (cs:List ao)(w:Int):(cu cs w).length<=D cs:=by unfold cu;exact od _ _
theorem aB7 {f:a1}{d:Nat}(ab:ei f=true)(aF:pU f d=true):dT (20*d) (pd f):=by
 obtain⟨e,F,I⟩:=QB ab;unfold pU at aF;simp only[ec,decide_eq_true_eq] at aF;obtain⟨cD,cf⟩:=aF;rw[e] at cD cf;have ca:=gG.1 (show (aJ (pd f).num.natAbs).length<=d from amc.1 cD);have c7:=gG.1 (show (aJ ((pd f).den:Int).natAbs).length<=d from amc.1 cf);rw[Int.natAbs_natCast] at c7;have rz:(1048576:Nat)^d=2^(20*d):=by rw[Nat.pow_mul]
 rw[rz] at ca c7;exact⟨DZ ca,DZ c7⟩
section
variable {E:List Int} {cs:List ao} (U:e2 E cs)
include U
theorem Sa:e6 (lI E cs):=by
 have:=U.n5;exact Zp (by omega) λi M=>j4 (EH U M) (by omega)
theorem aB8:(lI E cs).any (pS zC)=false/\we (lI E cs)=(dP (D E)).map (aB E cs).cF:=by
 refine⟨?_,?_⟩
 ·rw[ug];intro f aF;obtain⟨y,ar,rfl⟩:=dS.1 aF;obtain⟨i,M,rfl⟩:=dS.1 ar;have kf:i<D E:=gV.1 M;have aq:=j4 (EH U kf) (by omega);have aK:=H2 U.ok kf;rw[af3];show ¬ (!ei (av ((aB E cs).cF i))||decide ((av ((aB E cs).cF i)).1.1<0))=true;rw[EC aq];have:decide ((aB E cs).cF i<0)=false:=j9 (by grind);rw[<-Q0] at this;have I:decide ((av ((aB E cs).cF i)).1.1<0)=false:=this;rw[I];decide
 ·unfold we lI dF;rw[lo];exact (jM λx _=>zW x).trans (List.map_id _)
theorem aB9:abb E cs (lI E cs)/\R5 E cs (lI E cs)=true:=by
 obtain⟨F,I⟩:=aB8 U;have aK:=U.n5;have ji:=U.sZ;refine⟨⟨by omega,by omega,Sa U,λ_=>U,λ_ _ _ f aF=>?_⟩,?_⟩
 ·obtain⟨y,ar,rfl⟩:=dS.1 aF;obtain⟨i,M,rfl⟩:=dS.1 ar;rw[zW];exact (EH U (gV.1 M)).mono (by omega)
 ·unfold R5;have aq:(lI E cs).length=D E:=p8 _ _;rw[U.right,F,iw aq,gT,gT,dD,gT,aBS,I];intro i M;have O:=alH U i M
  have jI:uE E cs (λi=>((dP (D E)).map (aB E cs).cF).getD i 0) i cs=uE E cs (aB E cs).cF i cs:=by
   have ab:=(hy.1 U.right).2.2.2
   have key:∀n (l:List ao),D l=n->(∀c∈l,c∈cs)->uE E cs (λi=>((dP (D E)).map (aB E cs).cF).getD i 0) i l=uE E cs (aB E cs).cF i l:=by
    intro n
    induction n with
    |zero=>intro l aq _;rw[CP.1 aq];rfl
    |succ n ax =>
     intro l aq hm;rcases Bv l with al|⟨m,c,rfl⟩
     ·subst al;cases aq
     ·rw[Bw] at *;simp only[fE,Af] at aq;have G:=ab c (hm c (by simp));rw[II,II,ax m (by omega) λy ar=>hm y (by simp[ar])];unfold E1;have:((dP (D E)).map (aB E cs).cF).getD c.1.toNat 0=(aB E cs).cF c.1.toNat:=AQ (aB E cs).cF 0 (show c.1.toNat<(D E) by omega);simp only[this]
   exact key _ cs rfl λc G=>G
  rw[jI,O];show _=some ((bF (D E) (aB E cs).cF).getD i 0);rw[AQ (aB E cs).cF 0 M]
end
theorem aCa (l:List (List Nat)):l.map r5=(l.map λr=>r.map λn=>((n:Nat):Int)).map nz:=by
 rw[lo];refine jM λr _=>?_;simp only[r5,nz,Function.comp_apply,lo]
 rfl
theorem aCb {x:Rat}(O:dm x):vu [.agg (aH (av x))]=some (.same (.bool true)):=by
 have F:=lA O;have:=asE (av x).1.1 (av x).1.2 (av x).2.1 (av x).2.2 ⟨F.1,F.2⟩;rw[show ei (((av x).1.1,(av x).1.2),((av x).2.1,(av x).2.2))=true from EC O] at this;exact this
structure IM (E:List Int) (cs:List ao) (hv pv:List Int) (fl:List (List Int)):Prop where
 s:e2 E cs
 h:lI E cs=hv.map λn:Int=>av (n:Rat)
 p:oV E cs=pv.map λn:Int=>av (n:Rat)
 f:((aB E cs).iU.map λr=>r.map λn=>((n:Nat):Int))=fl
 M:∀n∈hv,dB n
 pi:∀n∈pv,dB n
 o:ayb fl
theorem IM.solve {E:List Int}{cs:List ao}{hv pv:List Int}{fl:List (List Int)}(h:IM E cs hv pv fl):R9 [.Y (E.map ag),.Y (cs.map cx)]=some (.same (.cI [.agg [.Y ((hv.map λn:Int=>av (n:Rat)).map aH),.Y ((pv.map λn:Int=>av (n:Rat)).map aH),.Y (fl.map nz)],.int .i64 0])):=by
 have aK:=h.s.n5;have ji:=h.s.sZ;have yZ:=al9 E cs ⟨by omega,by omega,λ_=>h.s⟩
 unfold IK at yZ;rw[ad h.s.right,h.h,h.p,aCa,h.f] at yZ;exact yZ
theorem IM.fits {E:List Int}{cs:List ao}{hv pv:List Int}{fl:List (List Int)}(h:IM E cs hv pv fl):alY [.Y (E.map ag),.Y (cs.map cx),.Y ((hv.map λn:Int=>av (n:Rat)).map aH)]=some (.same (.bool true)):=by
 obtain⟨F,I⟩:=aB9 h.s;have:=aBW E cs (lI E cs) F;rw[I,h.h] at this;exact this
theorem IM.small {E:List Int}{cs:List ao}{hv pv:List Int}{fl:List (List Int)}(h:IM E cs hv pv fl):(D hv)<=6/\D pv<=12:=by
 have F:=congrArg D h.h;have I:=congrArg D h.p;unfold lI at F;unfold oV at I;rw[p8,ak] at F;rw[ak,ak] at I;have aK:=h.s.n5;have ji:=h.s.sZ;omega
end Go.Mini
namespace Go.Mini
open Classical
def aA:Day:=aB [5,0] [(0,1,0,10),(1,-1,0,4)]
def aC:Day:=aB [0,0] [(0,1,1,10),(1,0,1,10)]
def dq:Day:=aB [9] [(0,-1,0,6),(0,-1,1,2),(0,-1,1,4)]
def bZ:Day:=aB [0,0] [(0,1,1,10),(1,0,1,10),(0,-1,0,5)]
def cL:Day:=aB [10,30] [(1,-1,0,25)]
def bY:Day:=aB [10,0] [(0,1,0,30)]
def bR:Day:=aB [30,0] [(0,1,0,30)]
end Go.Mini
namespace Go.Mini
open Go

end Go.Mini
namespace Go.Mini
open Classical
section
variable {E:List Int} {cs:List ao} (U:e2 E cs)
include U
theorem aCc (i:Nat)(aO:dM->Rat):b5 ((cu cs i).map cv) aO=b5 (aB E cs).cO λc=>if c.az=i then aO c else 0:=by
 have ab:=(hy.1 U.right).2.2.2
 have e:∀l:List ao,(∀c∈l,c∈cs)->b5 ((cu l i).map cv) aO=b5 (l.map cv) λc=>if c.az=i then aO c else 0:=by
  intro l
  induction l with
  |nil=>intro _;rfl
  |cons c l ax =>
   intro hm;have al:=(ab c (hm c gn)).1;have ax:=ax λy ar=>hm y (gX _ ar);unfold cu at *
   by_cases G:c.1=(i:Int)
   ·rw[ux (by simpa using G),eE,eE,b5,b5,ax,ad (by show c.1.toNat=i;omega)]
   ·rw[vP (by simpa using G),eE,b5,ax,ae (by show ¬ c.1.toNat=i;omega),vM]
 exact e cs λc G=>G
end
end Go.Mini
namespace Go.Mini
open Go
def abh:=cp R1 λ(l,q)=>cV (Q6 l q) (.same (H7 l q))
@[go_sem] theorem aCd (l:List ao)(q:List Rat)(G:Q6 l q):abh [.Y (l.map cx),.Y ((q.map av).map aH)]=some (.same (H7 l q)):=(cA alw (l,q)).trans (cY G _)
theorem aCe (T:bh)(oU:T Kp=aV RN)(fG:T lT=aV vu)(mL:T vd=aV HW)(eK:T oI=aV tW)(l:List ao)(q:List Rat)(G:Q6 l q):WP T Zy (.same (H7 l q)) [.J (.Y (l.map cx)),.J (.Y ((q.map av).map aH))]:=by
 refine cB ?_;simp only[Zy];obtain⟨how,hlen,kJ⟩:=G;have ji:=how.len;have hk:∀c∈l,0<=c.2.2.1/\c.2.2.1<10:=λc G=>by have:=how.c c G;omega
 have hle:((D q:Int)==(D l:Int))=true:=by rw[hlen];exact beq_self_eq_true _
 simp only[go_sem,go_sem_proc,oU,fG,mL,eK,how,hle,ak,bne,c8];refine dv [1,19,20] [] (λ(i:Nat) tm m=>i<=D l/\tm 21=.J (.int .i64 i)/\tm 6=.J (.int .i64 (h5 l (λi=>q.getD i 0) i))) (λi=>D l-i) 0 (by refine⟨by omega,rfl,rfl⟩) ?_;intro vs ms aT aR;simp only[go_sem,go_sem_proc,oU,fG,mL,eK,ak] at aT aR;subst aT aR;rintro i tm m Q-⟨M,pe,bY⟩;simp only[go_sem,go_sem_proc,oU,fG,mL,eK,bb] at Q;obtain⟨aA,r6,l7⟩:=Q;rcases dA (i<D l) with ay|b9
 ·have d1:decide ((i:Int)<(D l:Int))=true:=dn;have b4:=e9 (i:=i) (by omega);obtain⟨⟨aI,c2,c3,c4⟩,O⟩:∃c,l[i]?=some c:=⟨_,bx ay⟩;obtain⟨x,ar⟩:∃x,q[i]?=some x:=⟨_,bx (by omega)⟩;have G:=how.c _ (ep O);have aq:=kJ x (ep ar);dsimp only at G;have cw:dB c4:=qa (by omega) (by omega);have cU:=aCb aq;have de:=MK cw;have a3:=H3 aq (uy cw);have aK:decide (mE x ((c4:Int):Rat)<0)=decide (x<((c4:Int):Rat)):=QS;have wm:q.getD i 0=x:=by rw[en,ar];rfl
  have rI:h5 l (λi=>q.getD i 0) (i+1)=if x<((c4:Int):Rat) then min (h5 l (λi=>q.getD i 0) i) c3 else h5 l (λi=>q.getD i 0) i:=by
   rw[h5,O];dsimp only;rw[wm]
  have amd:(q.map av)[i]?=some (av x):=by rw[bq,ar];rfl
  generalize q.map av=QE at *;generalize av x=aO at *;generalize av ((c4:Int):Rat)=bM at *;obtain⟨⟨f1,f2⟩,⟨f3,f4⟩⟩:=aO;obtain⟨⟨cD,cf⟩,⟨gS,jY⟩⟩:=bM;simp only[aH] at cU de a3;rcases ca:decide (x<((c4:Int):Rat))
  ·rw[ca] at aK;rw[ae (of_decide_eq_false ca)] at rI;refine aX ?_;repeat' (intro h<;>simp only[h,go_sem,go_sem_proc,oU,fG,mL,eK,aA,bY,r6,l7,pe,O,amd,d1,b4,cU,de,a3,aK,cx,aH,ak,bq,c8]<;>try refine aw ?_ ?_)
   exact⟨i+1,by omega,by omega,rfl,by rw[rI]⟩
  ·rw[ca] at aK;rw[ad (of_decide_eq_true ca)] at rI;have aCf:(if c3<h5 l (λi=>q.getD i 0) i then c3 else h5 l (λi=>q.getD i 0) i)=min (h5 l (λi=>q.getD i 0) i) c3:=by rw[Int.min_def];split<;>split<;>omega
   refine aX ?_;repeat' (intro h<;>simp only[h,go_sem,go_sem_proc,oU,fG,mL,eK,aA,bY,r6,l7,pe,O,amd,d1,b4,cU,de,a3,aK,cx,aH,ak,bq,c8]<;>try refine aw ?_ ?_)
   exact⟨i+1,by omega,by omega,rfl,by rw[rI,aCf]⟩
 ·have d1:decide ((i:Int)<(D l:Int))=false:=dk;obtain rfl:i=D l:=by omega
  have ah:=ajV (q:=λi=>q.getD i 0) hk (D l);unfold H7;generalize h5 l (λi=>q.getD i 0) (D l)=s at *;rcases ca:(s==10)
  ·rw[ad (by have:=ne_of_beq_false ca;omega)];refine aX ?_;repeat' (intro h<;>simp only[h,go_sem,go_sem_proc,oU,fG,mL,eK,aA,bY,r6,l7,pe,d1,ca,ak]<;>try refine aw ?_ ?_)
  ·rw[ae (by have:=eq_of_beq ca;omega)];refine aX ?_;repeat' (intro h<;>simp only[h,go_sem,go_sem_proc,oU,fG,mL,eK,aA,bY,r6,l7,pe,d1,ca,ak]<;>try refine aw ?_ ?_)
def AV (E:List Int)(cs:List ao)(i:Nat):List Rat:=(cu cs i).map λc=>ff cs ((aB E cs).cF i) c
section
variable {E:List Int} {cs:List ao} (U:e2 E cs) {i:Nat}
include U
theorem abi {c:ao}(G:c∈cu cs i):ff cs ((aB E cs).cF i) c=(aB E cs).ez (aB E cs).cF (cv c):=by
 obtain⟨F,I⟩:=l5.1 G;rw[Mg U.right _ F,I,lu]
theorem aCg {x:Rat}(O:x∈AV E cs i):dT 482 x:=by
 obtain⟨c,G,rfl⟩:=dS.1 O;rw[abi U G];exact ZI U (l5.1 G).1
theorem aCh (M:i<D E):h5 (cu cs i) (λk=>(AV E cs i).getD k 0) (cu cs i).length<10↔(aB E cs).cF i<(aB E cs).br i 10:=by
 have hk:∀c∈cu cs i,0<=c.2.2.1/\c.2.2.1<10:=λc G=>by have:=(U.own i).c c G;omega
 rw[ayc hk,<-axq U.ok (H2 U.ok M)]
 constructor
 ·rintro⟨k,Q,c,G,ay⟩;have hm:=ep G;have e:(AV E cs i).getD k 0=ff cs ((aB E cs).cF i) c:=by unfold AV;rw[en,bq,G];rfl
  try dsimp only at ay
  rw[e,abi U hm] at ay;have I:=(l5.1 hm).2;exact⟨cv c,pt (l5.1 hm).1,by show c.1.toNat=i;omega,ay⟩
 ·rintro⟨b,ah,bQ,ay⟩;obtain⟨c,G,rfl⟩:=dS.1 ah;have F:=((hy.1 U.right).2.2.2 c G).1;have hm:c∈cu cs i:=l5.2 ⟨G,by have:c.1.toNat=i:=bQ;omega⟩
  obtain⟨k,Q,he⟩:=JL hm;have bc:(cu cs i)[k]?=some c:=by rw[bx Q,he]
  have e:(AV E cs i).getD k 0=ff cs ((aB E cs).cF i) c:=by unfold AV;rw[en,bq,bc];rfl
  refine⟨k,Q,c,bc,?_⟩
  try dsimp only
  rw[e,abi U hm];exact ay
end

abbrev Sb:(List Int)×(List Int)->List Data:=λ(l,m)=>[.Y (l.map ag),.Y (m.map ag)]
def abj:=cp Sb λ(l,m)=>cV (D l<=1000000/\D m<=1000000) (.same (.bool (decide (l=m))))
theorem ame:∀a b,Sb a=Sb b->a=b:=by
  rintro⟨dY,dx⟩ ⟨ai,cM⟩ h;simp only[bb,Data.Y.injEq,and_true] at h;exact ed (map_inj fj _ _ h.1) (map_inj fj _ _ h.2)
@[go_sem] theorem aCi (l:List Int)(m:List Int)(G:(D l)<=1000000/\D m<=1000000):abj [.Y (l.map ag),.Y (m.map ag)]=some (.same (.bool (decide (l=m)))):=(cA ame (l,m)).trans (cY G _)
theorem aCj (T:bh)  (l:List Int) (m:List Int) (G:(D l)<=1000000/\D m<=1000000):WP T U7 (.same (.bool (decide (l=m)))) [.J (.Y (l.map ag)),.J (.Y (m.map ag))]:=by
 refine cB ?_;simp only[U7];obtain⟨F,I⟩:=G;rcases q:((D l:Int)==(D m:Int))
 ·have bC:decide (l=m)=false:=j9 λe=>by rw[e,beq_self_eq_true] at q;cases q
  refine aX ?_;repeat' (intro h<;>simp only[h,go_sem,go_sem_proc,q,bC,ak,bne,dD]<;>try refine aw ?_ ?_)
 have aq:(D l)=D m:=by have:=eq_of_beq q;omega
 simp only[go_sem,go_sem_proc,q,ak,bne,c8];refine dv [0,1,12] [] (λ(i:Nat) tm _=>i<=D l/\l.take i=m.take i/\tm 13=.J (.int .i64 i)) (λi=>D l-i) 0 (by refine⟨by omega,by simp,rfl⟩) ?_;intro vs ms aT aR;simp only[go_sem,go_sem_proc,ak] at aT aR;subst aT aR;rintro i tm mem Q-⟨M,bD,h1⟩;simp only[go_sem,go_sem_proc,bb] at Q;obtain⟨b0,aA,fA⟩:=Q;rcases dA (i<D l) with ay|b9
 ·have d3:decide ((i:Int)<(D l:Int))=true:=dn;have b4:=e9 (i:=i) (by omega);obtain⟨x,O⟩:∃x,l[i]?=some x:=⟨_,bx ay⟩;obtain⟨y,ar⟩:∃y,m[i]?=some y:=⟨_,bx (by omega)⟩;rcases fu:(x==y)
  ·have bC:decide (l=m)=false:=j9 λe=>by
    rw[e,ar] at O
    cases O;rw[beq_self_eq_true] at fu
    cases fu
   refine aX ?_;repeat' (intro h<;>simp only[h,go_sem,go_sem_proc,b0,aA,fA,h1,O,ar,d3,fu,bC,ag,ak,bq,hV,lq,kx,bne,dD]<;>try refine aw ?_ ?_)
  ·obtain rfl:x=y:=eq_of_beq fu;refine aX ?_;repeat' (intro h<;>simp only[h,go_sem,go_sem_proc,b0,aA,fA,h1,O,ar,d3,b4,fu,ag,ak,bq,hV,lq,kx,bne,c8]<;>try refine aw ?_ ?_)
   refine⟨i+1,by omega,by omega,?_,rfl⟩
   rw[g1,g1,bD,O,ar]
 ·have d3:decide ((i:Int)<(D l:Int))=false:=dk
  have he:decide (l=m)=true:=iw (by
   rw[dt (by omega),dt (by omega)] at bD;exact bD)
  refine aX ?_;repeat' (intro h<;>simp only[h,go_sem,go_sem_proc,b0,aA,fA,h1,d3,he,ak]<;>try refine aw ?_ ?_)
def uG (v:Int):List Int->Nat->Int
 | [],_ => -1
 |x::r,i=>if (v==x)=true then (i:Int) else uG v r (i+1)
theorem amf (v:Int):∀(l:List Int) (i:Nat),decide (uG v l i>=0)=decide (v∈l)
 | [],i=>by simp[uG]
 |x::r,i=>by
  unfold uG;rcases q:(v==x)
  ·rw[ae (by decide),amf v r (i+1)];have:v≠x:=beq_eq_false_iff_ne.1 q;rw[decide_eq_decide];simp[this]
  ·rw[ad rfl];obtain rfl:v=x:=eq_of_beq q;rw[decide_eq_decide];simp
abbrev Sc:(List Int)×Int->List Data:=λ(l,v)=>[.Y (l.map ag),.int .i64 v]
def abk:=cp Sc λ(l,v)=>cV (D l<=1000000) (.same (.int .i64 (uG v l 0)))
theorem amg:∀a b,Sc a=Sc b->a=b:=by
  rintro⟨dY,v1⟩ ⟨ai,v2⟩ h;simp only[bb,Data.Y.injEq,Data.int.injEq,and_true,true_and] at h;exact ed (map_inj fj _ _ h.1) h.2
@[go_sem] theorem aCk (l:List Int)(v:Int)(G:(D l)<=1000000):abk [.Y (l.map ag),.int .i64 v]=some (.same (.int .i64 (uG v l 0))):=(cA amg (l,v)).trans (cY G _)
theorem aCl (T:bh)  (l:List Int) (v:Int) (G:(D l)<=1000000):WP T U9 (.same (.int .i64 (uG v l 0))) [.J (.Y (l.map ag)),.J (.int .i64 v)]:=by
 refine cB ?_;simp only[U9];simp only[go_sem,go_sem_proc,ak];refine dv [0,1,7] [] (λ(i:Nat) tm _=>i<=D l/\uG v l 0=uG v (l.drop i) i/\tm 8=.J (.int .i64 i)) (λi=>D l-i) 0 (by refine⟨by omega,by simp,rfl⟩) ?_;intro vs ms aT aR;simp only[go_sem,go_sem_proc,ak] at aT aR;subst aT aR;rintro i tm mem Q-⟨M,bD,ef⟩;simp only[go_sem,go_sem_proc,bb] at Q;obtain⟨b0,aA,bR⟩:=Q;rcases dA (i<D l) with ay|b9
 ·have d3:decide ((i:Int)<(D l:Int))=true:=dn;have b4:=e9 (i:=i) (by omega);obtain⟨x,O⟩:∃x,l[i]?=some x:=⟨_,bx ay⟩;rw[List.drop_eq_getElem_cons ay,(dz.1 O).2] at bD;have dy:uG v (x::l.drop (i+1)) i=if (v==x)=true then (i:Int) else uG v (l.drop (i+1)) (i+1):=rfl;rw[dy] at bD;rcases fu:(v==x)
  ·rw[fu,ae (by decide)] at bD;refine aX ?_;repeat' (intro h<;>simp only[h,go_sem,go_sem_proc,b0,aA,bR,ef,O,d3,b4,fu,ag,ak,bq,hV,lq,kx]<;>try refine aw ?_ ?_)
   exact⟨i+1,by omega,by omega,bD,rfl⟩
  ·rw[fu,ad rfl] at bD;have aS:uG v l 0=(i:Int):=bD;refine aX ?_;repeat' (intro h<;>simp only[h,go_sem,go_sem_proc,b0,aA,bR,ef,O,d3,fu,aS,ag,ak,bq,hV,lq,kx]<;>try refine aw ?_ ?_)
 ·have d3:decide ((i:Int)<(D l:Int))=false:=dk;rw[kP (by omega)] at bD;have aS:uG v l 0 = -1:=bD;refine aX ?_;repeat' (intro h<;>simp only[h,go_sem,go_sem_proc,b0,aA,bR,ef,d3,aS,ak]<;>try refine aw ?_ ?_)
def abl:=cp Sc λ(l,v)=>cV (D l<=1000000) (.same (.bool (decide (v∈l))))
@[go_sem] theorem aCm (l:List Int)(v:Int)(G:(D l)<=1000000):abl [.Y (l.map ag),.int .i64 v]=some (.same (.bool (decide (v∈l)))):=(cA amg (l,v)).trans (cY G _)
theorem aCn (T:bh)(aCo:T Uy=aV abk)(l:List Int)(v:Int)(G:(D l)<=1000000):WP T U8 (.same (.bool (decide (v∈l)))) [.J (.Y (l.map ag)),.J (.int .i64 v)]:=by
 refine cB ?_;simp only[U8];have M:=aCk l v G;have hm:=amf v l 0;refine aX ?_;repeat' (intro h<;>simp only[h,go_sem,go_sem_proc,aCo,M,hm]<;>try refine aw ?_ ?_)
section
variable (A cg:List Int) (x y:Int)
end
structure MW (l:List Int) (i:Nat) (C A:List Int) (x:Int) (B:List Int):Prop where
 len:(D A)+D B=i
 amh:(A++B).Pairwise (·<=·)
 up:∀b∈B,x<=b
 perm:(A++x::(B++C)).Perm l
theorem MW.step {l:List Int}{i:Nat}{C A B:List Int}{x y:Int}(h:MW l i C (A++[y]) x B)(mn:x<y):MW l i C A x (y::B):=by
 refine⟨?_,?_,λb ah=>?_,?_⟩
 ·have:=h.len;simp at this ⊢;omega
 ·have:=h.amh;rwa [gU] at this
 ·rcases hE.1 ah with rfl|ah
  ·omega
  ·exact h.up b ah
 ·refine List.Perm.trans ?_ h.perm;rw[gU];refine List.Perm.append_left A ?_;exact List.Perm.swap y x (B++C)
theorem MW.stop {l:List Int}{i:Nat}{C A B:List Int}{x:Int}(h:MW l i C A x B)(O:∀a∈A,a<=x):(A++x::B).Pairwise (·<=·):=by
 have U:=abm.1 h.amh;refine abm.2 ⟨U.1,E8.2 ⟨h.up,U.2.1⟩,λa aN b ah=>?_⟩;rcases hE.1 ah with rfl|ah
 ·exact O a aN
 ·exact U.2.2 a aN b ah
theorem abn {m:Mem}{k a b:Nat}{x y:List R}:aZ (aZ m k a x) k b y=aZ m k b y:=by
 funext j
 by_cases h:j=k
 ·subst h;rw[iH,iH]
 ·rw[dr h,dr h,dr h]
structure CS where
 l:List Int
 g:Nat
def ami (a:CS)(mem:Mem):R->Mem->Prop:=λm mem'=>m=.cI []/\∃s:List Int,s.Perm a.l/\s.Pairwise (·<=·)/\mem'=aZ mem 289040 a.g (s.map cd)

def nI:Int->List Int->List Int
 |_,[]=>[]
 |y,x::r=>if x=y then nI x r else x::nI x r
def ku:List Int->List Int
 | []=>[]
 |x::r=>x::nI x r
theorem amj (x:Int):∀(m:List Int) (z:Int),nI z (m++[x])=nI z m++if x=m.getLast?.getD z then [] else [x]
 | [],z=>by
  by_cases h:x=z
  ·simp[nI,h]
  ·simp[nI,h]
 |a::r,z=>by
  have e:(a::r).getLast?.getD z=r.getLast?.getD a:=by rw[List.getLast?_cons];rfl
  rw[e,jO,nI,nI,amj x r a]
  split
  ·rfl
  ·rfl
theorem aCp (m:List Int)(y x:Int):ku (m++[y]++[x])=ku (m++[y])++if x=y then [] else [x]:=by
 cases m with
 |nil =>
  by_cases h:x=y
  ·simp[ku,nI,h]
  ·simp[ku,nI,h]
 |cons a r =>
  have:nI a (r++[y]++[x])=nI a (r++[y])++if x=y then [] else [x]:=by
   rw[amj x (r++[y]) a];simp
  simp only[jO,ku,this]
theorem abo {l:List Int}{q:Nat}{y x:Int}(al:0<q)(ar:l[q-1]?=some y)(O:l[q]?=some x):ku (l.take (q+1))=ku (l.take q)++if x=y then [] else [x]:=by
 have aA:l.take q=l.take (q-1)++[y]:=by
  have:q=q-1+1:=by omega
  conv=>lhs;rw[this,g1,ar]
  rfl
 have aC:l.take (q+1)=l.take q++[x]:=by rw[g1,O];rfl
 rw[aC,aA];exact aCp _ _ _
theorem amk:∀(l:List Int) (z:Int),(z::l).Pairwise (·<=·)->(nI z l).Pairwise (·<·)/\(∀x∈nI z l,z<x)/\∀x,x∈nI z l↔x∈l/\x≠z
 | [],z,_=>⟨List.Pairwise.nil,λx h=>(by cases h),λx=>(by simp[nI])⟩
 |a::r,z,h=>by
  have aS:=E8.1 h;obtain⟨F,I,af⟩:=amk r a aS.2;have aN:=E8.1 aS.2;have aLG:=aS.1 a (by simp);rw[nI]
  split
  ·rename_i e;subst e;refine⟨F,I,λx=>?_⟩;rw[af,hE]
   constructor
   ·rintro⟨ca,c7⟩;exact⟨.inr ca,c7⟩
   ·rintro⟨ca|ca,c7⟩
    ·exact absurd ca c7
    ·exact⟨ca,c7⟩
  ·rename_i e;refine⟨E8.2 ⟨I,F⟩,λx O=>?_,λx=>?_⟩
   ·rcases hE.1 O with rfl|O
    ·omega
    ·have:=I x O;omega
   ·rw[hE,af,hE]
    constructor
    ·rintro (rfl|⟨ca,c7⟩)
     ·exact⟨.inl rfl,e⟩
     ·refine⟨.inr ca,λaLH=>?_⟩;have:=aN.1 x ca;omega
    ·rintro⟨ca|ca,c7⟩
     ·exact .inl ca
     ·by_cases hxa:x=a
      ·exact .inl hxa
      ·exact .inr ⟨ca,hxa⟩
theorem aCq {l:List Int}(h:l.Pairwise (·<=·)):(ku l).Pairwise (·<·)/\∀x,x∈ku l↔x∈l:=by
 cases l with
 |nil=>exact⟨List.Pairwise.nil,λx=>Iff.rfl⟩
 |cons a r =>
  obtain⟨F,I,af⟩:=amk r a h;refine⟨E8.2 ⟨I,F⟩,λx=>?_⟩;rw[ku,hE,hE,af]
  constructor
  ·rintro (h|⟨h,-⟩)
   ·exact .inl h
   ·exact .inr h
  ·rintro (h|h)
   ·exact .inl h
   ·by_cases O:x=a
    ·exact .inl O
    ·exact .inr ⟨h,O⟩
theorem aml {K:bd->Prop}{st:bd}(s k g n:Nat)(P:List Int)(Z:List R)(Mu:nM Z=true)(aK:n=D P):
  Br K st s k g 1 0 n (some (g,P.map cd++Z))=K ⟨e3 st.tm s (.J (.Y (P.map ag))),kill st.mem k⟩:=by
 subst aK;unfold Br;dsimp only
 have aN:nM (P.map cd++Z)=true:=by
  unfold nM at Mu ⊢;rw[List.all_append,Mu,Bool.and_true,jc];intro x O;obtain⟨y,-,rfl⟩:=dS.1 O
  rfl
 rw[ad ⟨rfl,aN⟩];unfold cut;rw[kx,cK,fE,ak,ad (by omega)];dsimp only;rw[lQ,FC,dt (by rw[ak];exact bW _),ak,mg,nd,fJ];have e:P.map cd=((P.map ag).flatten).map R.J:=by rw[Is];rfl
 rw[e,tC _ λd=>rfl];dsimp only;have:=x9 (sz:=1) (P.map ag) (λx O=>by obtain⟨y,-,rfl⟩:=dS.1 O;rfl);rw[ak] at this;rw[this]
theorem aCr {l:List Int}{k:Nat}(Q:0<k)(aq:k<D l){y x:Int}(ar:l[k-1]?=some y)(O:l[k]?=some x)(bC:x≠y)(h:ku (l.take k)=l.take k):ku (l.take (k+1))=l.take (k+1):=by
 rw[abo Q ar O,ae bC,h,g1,O];rfl
abbrev abp:(List Int)×(List ao)×(List a1)×(List a1)×(List (List Int))×Int->List Data:=λ(E,cs,hv,pv,fl,di)=>[.agg (eJ E cs hv pv fl),.int .i64 di]
def Sd:=cp abp λ(E,cs,hv,pv,fl,di)=>cV (D pv=D cs/\D cs<=2000) (.same (.cI [.Y ((cu cs di).map cx),.Y ((fk cs pv di).map aH)]))
theorem aCs:∀a b,abp a=abp b->a=b:=by
  rintro⟨vU,vV,nO,abq,AF,aLI⟩ ⟨vW,oC,nP,abr,AG,aLJ⟩ h;simp only[bb,Data.agg.injEq,Data.int.injEq,and_true,true_and] at h;obtain⟨cD,cf⟩:=h;obtain⟨rfl,rfl,rfl,rfl,rfl⟩:=AE cD;rw[cf]
@[go_sem] theorem amm (E:List Int)(cs:List ao)(hv:List a1)(pv:List a1)(fl:List (List Int))(di:Int)(G:(D pv)=D cs/\D cs<=2000):Sd [.agg (eJ E cs hv pv fl),.int .i64 di]=some (.same (.cI [.Y ((cu cs di).map cx),.Y ((fk cs pv di).map aH)])):=(cA aCs (E,cs,hv,pv,fl,di)).trans (cY G _)
theorem aCt (T:bh)  (E:List Int) (cs:List ao) (hv:List a1) (pv:List a1) (fl:List (List Int)) (di:Int) (G:(D pv)=D cs/\D cs<=2000):WP T W2 (.same (.cI [.Y ((cu cs di).map cx),.Y ((fk cs pv di).map aH)])) [.J (.agg (eJ E cs hv pv fl)),.J (.int .i64 di)]:=by
 refine cB ?_;simp only[W2];obtain⟨RB,hlen⟩:=G;simp only[go_sem,go_sem_proc,eJ,ak];refine dv [1,2,11,12] [298002] (λ((i,g,cf):Nat×Nat×Nat) tm m=>i<=D cs/\tm 13=.J (.int .i64 i)/\tm 6=.ref 298025 g 4 0 (cu (cs.take i) di).length/\tm 7=.ref 298034 cf 4 0 (fk (cs.take i) (pv.take i) di).length/\m 298025=some (g,bf cx (cu (cs.take i) di))/\m 298034=some (cf,bf aH (fk (cs.take i) (pv.take i) di))) (λ(i,_,_)=>D cs-i) (0,0,0) (by refine⟨by omega,rfl,rfl,rfl,rfl,rfl⟩) ?_;intro vs ms aT aR;simp only[go_sem,go_sem_proc,eJ,ak] at aT aR;subst aT aR;rintro⟨i,g,cf⟩ tm m Q hm ⟨M,h1,bY,bR,Se,Sf⟩;simp only[go_sem,go_sem_proc,bb] at Q hm;obtain⟨aA,aC,hl,fA⟩:=Q;rcases dA (i<D cs) with ay|b9
 ·have d1:decide ((i:Int)<(D cs:Int))=true:=dn;have b4:=e9 (i:=i) (by omega);obtain⟨⟨aI,c2,c3,c4⟩,O⟩:∃c,cs[i]?=some c:=⟨_,bx ay⟩;obtain⟨⟨⟨iO,ju⟩,⟨ud,xg⟩⟩,ar⟩:∃c,pv[i]?=some c:=⟨_,bx (by omega)⟩;have g2:cs.take (i+1)=cs.take i++[(aI,c2,c3,c4)]:=by rw[g1,O];rfl
  have aCu:pv.take (i+1)=pv.take i++[((iO,ju),(ud,xg))]:=by rw[g1,ar];rfl
  have sS:(cs.take i).length=(pv.take i).length:=by rw[fR,fR];omega
  have FK:(cu (cs.take i) di).length<=2000:=by
   have F:=aB6 (cs.take i) di;have I:(cs.take i).length<=D cs:=by rw[fR];omega
   omega
  have aLK:(fk (cs.take i) (pv.take i) di).length<=2000:=by
   have F:=ajU (cs.take i) (pv.take i) di;have I:(cs.take i).length<=D cs:=by rw[fR];omega
   omega
  have E9:=ajS (cs.take i) (pv.take i) (aI,c2,c3,c4) ((iO,ju),(ud,xg)) di sS;rw[<-g2,<-aCu] at E9;have aaG:i<D pv:=by omega
  rcases ha:(aI==di)
  ·have nR:cu (cs.take (i+1)) di=cu (cs.take i) di:=by
    unfold cu;rw[g2,rT,vP (by simpa using ha),p9,fJ]
   rw[ae (by dsimp only;rw[ha];decide),fJ] at E9;refine aX ?_;repeat' (intro h<;>simp only[h,go_sem,go_sem_proc,aA,aC,hl,fA,h1,bY,bR,hm,O,ar,d1,b4,ha,cx,ak,bq]<;>try refine aw ?_ ?_)
   exact⟨(i+1,g,cf),by dsimp only;omega,by dsimp only;omega,rfl,by rw[nR],by rw[E9],by rw[nR];exact Se,by rw[E9];exact Sf⟩
  ·have nR:cu (cs.take (i+1)) di=cu (cs.take i) di++[(aI,c2,c3,c4)]:=by
    unfold cu;rw[g2,rT,ux (by simpa using ha),p9]
   rw[ad (by dsimp only;exact ha)] at E9;have dL:=mu EE ZC 298025 g 32 (cu (cs.take i) di) (aI,c2,c3,c4) (cs:=[.J (.int .i64 aI),.J (.int .i64 c2),.J (.int .i64 c3),.J (.int .i64 c4)]) rfl (by omega) (by omega);rw[<-nR] at dL;have aCv:=λna jI=>mu nq GV 298034 cf 64 (fk (cs.take i) (pv.take i) di) ((iO,ju),(ud,xg)) (cs:=na) jI (by omega) (by omega);have abt:=aCv _ rfl;rw[<-E9] at abt;have ck:(cu (cs.take (i+1)) di).length=(cu (cs.take i) di).length+1:=by rw[nR,fE];rfl
   have cq:(fk (cs.take (i+1)) (pv.take (i+1)) di).length=(fk (cs.take i) (pv.take i) di).length+1:=by rw[E9,fE];rfl
   simp only[aH,eE,c1] at abt;refine aX ?_;repeat' (intro h<;>simp only[h,go_sem,go_sem_proc,aA,aC,hl,fA,h1,bY,bR,hm,Se,Sf,O,ar,dL,abt,d1,b4,ha,aaG,cx,aH,ak,bq]<;>try refine aw ?_ ?_)
   exact⟨(i+1,g+1,cf+1),by dsimp only;omega,by dsimp only;omega,rfl,by rw[ck],by rw[cq],rfl,rfl⟩
 ·have d1:decide ((i:Int)<(D cs:Int))=false:=dk;obtain rfl:i=D cs:=by omega
  rw[k3,dt (by omega)] at bR Sf;rw[k3] at bY Se;have Rz:=λ(K:bd->Prop) (st:bd)=>mS (K:=K) (st:=st) EE 6 298025 g (cu cs di);have RA:=λ(K:bd->Prop) (st:bd)=>mS (K:=K) (st:=st) nq 7 298034 cf (fk cs pv di);refine aX ?_;repeat' (intro h<;>simp only[h,go_sem,go_sem_proc,aA,aC,hl,fA,h1,bY,bR,Se,Sf,d1,Rz,RA,ak]<;>try refine aw ?_ ?_)
def IP (cs:List ao)(ps:List Rat)(n:Nat):List Nat:=(dP n).filter λi=>decide (nA cs ps (i:Int)<10)
def gw (cs:List ao)(ps:List Rat)(n:Nat):List Int:=(IP cs ps n).map λi:Nat=>(i:Int)
theorem amn (cs:List ao)(ps:List Rat)(n:Nat):gw cs ps (n+1)=gw cs ps n++if nA cs ps (n:Int)<10 then [(n:Int)] else []:=by
 unfold gw IP;rw[nx,rT,kI]
 by_cases h:nA cs ps (n:Int)<10
 ·simp[h]
 ·simp[h]
theorem Sg (cs:List ao)(ps:List Rat)(n:Nat):(gw cs ps n).length<=n:=by
 unfold gw IP;rw[ak];have:=od (λi:Nat=>decide (nA cs ps (i:Int)<10)) (dP n);rwa [ss] at this
abbrev abu:(List Int)×(List ao)×(List a1)×(List Rat)×(List (List Int))×Int->List Data:=λ(E,cs,hv,ps,fl,i)=>[.agg (eJ E cs hv (ps.map av) fl),.int .i64 i]
def Sh:=cp abu λ(E,cs,hv,ps,fl,i)=>cV (j7 E cs ps) (.same (.cI [.int .i64 (qb cs ps i),.bool (decide (nA cs ps i<10))]))
theorem aCw:∀a b,abu a=abu b->a=b:=by
  rintro⟨vU,vV,nO,Mm,AF,i1⟩ ⟨vW,oC,nP,Mn,AG,i2⟩ h;simp only[bb,Data.agg.injEq,Data.int.injEq,and_true,true_and] at h;obtain⟨cD,cf⟩:=h;obtain⟨rfl,rfl,rfl,gS,rfl⟩:=AE cD;rw[cf,map_inj (λ_ _ aQ=>wZ aQ) _ _ gS]
@[go_sem] theorem amo (E:List Int)(cs:List ao)(hv:List a1)(ps:List Rat)(fl:List (List Int))(i:Int)(G:j7 E cs ps):Sh [.agg (eJ E cs hv (ps.map av) fl),.int .i64 i]=some (.same (.cI [.int .i64 (qb cs ps i),.bool (decide (nA cs ps i<10))])):=(cA aCw (E,cs,hv,ps,fl,i)).trans (cY G _)
theorem aCx (T:bh)(qf:T Kw=aV Sd)(aCy:T Ue=aV abh)(E:List Int)(cs:List ao)(hv:List a1)(ps:List Rat)(fl:List (List Int))(i:Int)(G:j7 E cs ps):WP T Xb (.same (.cI [.int .i64 (qb cs ps i),.bool (decide (nA cs ps i<10))])) [.J (.agg (eJ E cs hv (ps.map av) fl)),.J (.int .i64 i)]:=by
 refine cB ?_;simp only[Xb];have F:=amm E cs hv (ps.map av) fl i ⟨by rw[ak];exact G.len,G.l⟩
 rw[Z8] at F;have I:=aCd (cu cs i) (fk cs ps i) (G.short i);rw[ayd] at I;simp only[eJ] at F;generalize ((fk cs ps i).map av).map aH=aL at *;generalize ps.map av=yT at *;generalize qb cs ps i=eR at *;generalize decide (nA cs ps i<10)=B at *;refine aX ?_;repeat' (intro h<;>simp only[h,go_sem,go_sem_proc,qf,aCy,eJ,F,I]<;>try refine aw ?_ ?_)
theorem aCz {m:Mem}{k g:Nat}{l:List Int}(h:m k=some (g,bf ag l)):rm 1 m (.ref k g 1 0 (D l))=some (l.map ag):=by
 have hlen:(bf ag l).length=D l:=by rw[oE hr];omega
 unfold rm;simp only[h,hlen];rw[ad ⟨trivial,trivial⟩,ad ⟨trivial,by omega⟩,dt (by omega)]
 unfold bf;rw[tC _ λd=>rfl,ll];have:=x9 (sz:=1) (l.map ag) (λe he=>by obtain⟨c,-,rfl⟩:=dS.1 he;rfl);rw[ak] at this;rw[this]
abbrev MX:(List Int)×(List ao)×(List a1)×(List Rat)×(List (List Int))->List Data:=λ(E,cs,hv,ps,fl)=>[.agg (eJ E cs hv (ps.map av) fl)]
def MY:=cp MX λ(E,cs,hv,ps,fl)=>cV (j7 E cs ps) (.own 1 ((gw cs ps (D E)).map ag))
theorem abv:∀a b,MX a=MX b->a=b:=by
  rintro⟨vU,vV,nO,Mm,AF⟩ ⟨vW,oC,nP,Mn,AG⟩ h;simp only[bb,Data.agg.injEq,and_true] at h;obtain⟨rfl,rfl,rfl,gS,rfl⟩:=AE h;rw[map_inj (λ_ _ aQ=>wZ aQ) _ _ gS]
@[go_sem] theorem abw (E:List Int)(cs:List ao)(hv:List a1)(ps:List Rat)(fl:List (List Int))(G:j7 E cs ps):MY [.agg (eJ E cs hv (ps.map av) fl)]=some (.own 1 ((gw cs ps (D E)).map ag)):=(cA abv (E,cs,hv,ps,fl)).trans (cY G _)
theorem aCA (T:bh)(CT:T Kx=aV Sh)(E:List Int)(cs:List ao)(hv:List a1)(ps:List Rat)(fl:List (List Int))(G:j7 E cs ps):WP T W4 (.own 1 ((gw cs ps (D E)).map ag)) [.J (.agg (eJ E cs hv (ps.map av) fl))]:=by
 refine cB ?_;simp only[W4];have aK:=G.n;have he:=λi=>amo E cs hv ps fl i G;simp only[eJ] at he;generalize ps.map av=yT at *;simp only[go_sem,go_sem_proc,CT,eJ,ak];refine dv [1,9] [303001] (λ((i,g):Nat×Nat) tm m=>i<=D E/\tm 10=.J (.int .i64 i)/\tm 3=.ref 303023 g 1 0 (gw cs ps i).length/\m 303023=some (g,bf ag (gw cs ps i))) (λ(i,_)=>D E-i) (0,0) (by refine⟨by omega,rfl,rfl,rfl⟩) ?_;intro vs ms aT aR;simp only[go_sem,go_sem_proc,CT,eJ,ak] at aT aR;subst aT aR;rintro⟨i,g⟩ tm m Q hm ⟨M,ej,bZ,Si⟩;simp only[go_sem,go_sem_proc,CT,bb] at Q hm;obtain⟨aA,fF⟩:=Q;have JK:=Sg cs ps i;rcases dA (i<D E) with ay|b9
 ·have d1:decide ((i:Int)<(D E:Int))=true:=dn;have b4:=e9 (i:=i) (by omega);have he:=he i;have IQ:=amn cs ps i;rcases q:decide (nA cs ps (i:Int)<10)
  ·rw[q] at he;rw[ae (of_decide_eq_false q),fJ] at IQ;generalize qb cs ps i=eR at *;refine aX ?_;repeat' (intro h<;>simp only[h,go_sem,go_sem_proc,CT,aA,bZ,fF,ej,hm,Si,he,d1,b4,ak]<;>try refine aw ?_ ?_)
   exact⟨(i+1,g),by dsimp only;omega,by dsimp only;omega,rfl,by rw[IQ],by rw[IQ]⟩
  ·rw[q] at he;rw[ad (of_decide_eq_true q)] at IQ;have dL:=mu hr u5 303023 g 8 (gw cs ps i) (i:Int) (cs:=[.J (.int .i64 (i:Int))]) rfl (by omega) (by omega);rw[<-IQ] at dL;have aq:(gw cs ps (i+1)).length=(gw cs ps i).length+1:=by rw[IQ,fE];rfl
   generalize qb cs ps i=eR at *;refine aX ?_;repeat' (intro h<;>simp only[h,go_sem,go_sem_proc,CT,aA,bZ,fF,ej,hm,Si,he,dL,d1,b4,ak]<;>try refine aw ?_ ?_)
   exact⟨(i+1,g+1),by dsimp only;omega,by dsimp only;omega,rfl,by rw[aq],rfl⟩
 ·have d1:decide ((i:Int)<(D E:Int))=false:=dk;obtain rfl:i=D E:=by omega
  refine aX ?_;repeat' (intro h<;>simp only[h,go_sem,go_sem_proc,CT,aA,bZ,fF,ej,hm,Si,d1,ak]<;>try refine aw ?_ ?_)
  exact aCz Si
theorem aCB (T:bh)(Sj:T Ux=aV abl)(a:Int)(b:Int)(k:Int)(x:Int)(i:Int)(e:Int)(set:List Int)(G:(D set)<=1000000):WP T Xc (.same (.bool (a==i&&(k==e&&(decide (x>0) && !decide (b∈set)))))) [.J (.agg [.int .i64 a,.int .i64 b,.int .i64 k,.int .i64 x]),.J (.ptr [.int .i64 i]),.J (.ptr [.int .i64 e]),.J (.ptr [.Y (set.map ag)])]:=by
 refine cB ?_;simp only[Xc];have fN:=aCm set b G;rcases aI:(a==i)
 ·refine aX ?_;repeat' (intro h<;>simp only[h,go_sem,go_sem_proc,Sj,aI,fz]<;>try refine aw ?_ ?_)
 rcases c2:(k==e)
 ·refine aX ?_;repeat' (intro h<;>simp only[h,go_sem,go_sem_proc,Sj,aI,c2,fz,iQ]<;>try refine aw ?_ ?_)
 rcases c3:decide (x>0)
 ·refine aX ?_;repeat' (intro h<;>simp only[h,go_sem,go_sem_proc,Sj,aI,c2,c3,fz,iQ]<;>try refine aw ?_ ?_)
 ·refine aX ?_;repeat' (intro h<;>simp only[h,go_sem,go_sem_proc,Sj,aI,c2,c3,fN,gT]<;>try refine aw ?_ ?_)
abbrev abx:(List Int)×(List ao)×(List a1)×(List Rat)×(List (List Int))×Int×(List Int)->List Data:=λ(E,cs,hv,ps,fl,i,set)=>[.agg (eJ E cs hv (ps.map av) fl),.int .i64 i,.Y (set.map ag)]
def aby:=cp abx λ(E,cs,hv,ps,fl,i,set)=>cV (j7 E cs ps/\D set<=1000000) (.same (.bool (oh cs ps set i)))
theorem aCC:∀a b,abx a=abx b->a=b:=by
  rintro⟨vU,vV,nO,Mm,AF,i1,ajW⟩ ⟨vW,oC,nP,Mn,AG,i2,ajX⟩ h;simp only[bb,Data.agg.injEq,Data.int.injEq,Data.Y.injEq,and_true,true_and] at h;obtain⟨cD,cf,jY⟩:=h;obtain⟨rfl,rfl,rfl,gS,rfl⟩:=AE cD;rw[cf,map_inj (λ_ _ aQ=>wZ aQ) _ _ gS,map_inj fj _ _ jY]
@[go_sem] theorem aCD (E:List Int)(cs:List ao)(hv:List a1)(ps:List Rat)(fl:List (List Int))(i:Int)(set:List Int)(G:j7 E cs ps/\D set<=1000000):aby [.agg (eJ E cs hv (ps.map av) fl),.int .i64 i,.Y (set.map ag)]=some (.same (.bool (oh cs ps set i))):=(cA aCC (E,cs,hv,ps,fl,i,set)).trans (cY G _)
theorem aCE (T:bh)(CT:T Kx=aV Sh)(Ic:T DB=aV Mr)(E:List Int)(cs:List ao)(hv:List a1)(ps:List Rat)(fl:List (List Int))(i:Int)(set:List Int)(G:j7 E cs ps/\D set<=1000000):WP T W6 (.same (.bool (oh cs ps set i))) [.J (.agg (eJ E cs hv (ps.map av) fl)),.J (.int .i64 i),.J (.Y (set.map ag))]:=by
 refine cB ?_;simp only[W6];have F:=amo E cs hv ps fl i G.1;have I:=aav cs (.EM i (qb cs ps i) set) ⟨by have:=G.1.l;omega,by decide,G.2⟩
 have e:cs.any (s5 (.EM i (qb cs ps i) set))=oh cs ps set i:=rfl;rw[e] at I;simp only[vX] at I;simp only[eJ] at F;generalize ps.map av=yT at *;generalize qb cs ps i=eR at *;generalize oh cs ps set i=B at *;refine aX ?_;repeat' (intro h<;>simp only[h,go_sem,go_sem_proc,CT,Ic,eJ,F,I,cz,nL,kH,scalar]<;>try refine aw ?_ ?_)
theorem aCF (T:bh)(amp:T Uw=aV aby)(x:Int)(E:List Int)(cs:List ao)(hv:List a1)(ps:List Rat)(fl:List (List Int))(set:List Int)(G:j7 E cs ps/\D set<=1000000):WP T W5 (.same (.bool (oh cs ps set x))) [.J (.int .i64 x),.J (.ptr (eJ E cs hv (ps.map av) fl)),.J (.ptr [.Y (set.map ag)])]:=by
 refine cB ?_;simp only[W5];have h:=aCD E cs hv ps fl x set G;simp only[eJ] at h;generalize oh cs ps set x=B at *;generalize ps.map av=yT at *;simp only[go_sem,go_sem_proc,amp,eJ,h];repeat' (first|refine aw ?_ ?_|fail)<;>intro h<;>simp only[h,go_sem,go_sem_proc,amp,eJ,h]
structure ta where
 g:Nat
 cD:Nat
 cf:Nat
 L:List Int
 Z:List Int
 E:List Int
 cs:List ao
 hv:List a1
 ps:List Rat
 fl:List (List Int)
 set:List Int
structure ta.At (a:ta) (mem:Mem):Prop where
 row:mem 290006=some (a.g,(a.L++a.Z).map cd)
 day:mem 290001=some (a.cD,(eJ a.E a.cs a.hv (a.ps.map av) a.fl).map .J)
 st:mem 290004=some (a.cf,[Data.Y (a.set.map ag)].map .J)
 xE:j7 a.E a.cs a.ps
 Y:(D a.set)<=60
 amq:(D a.L)+D a.Z<=60
def ta.args (a:ta):List R:=[.ref 290006 a.g 1 0 (D a.L),.fy tH [.ptr 290001 a.cD 0,.ptr 290004 a.cf 0]]
def stay (cs:List ao)(ps:List Rat)(set L:List Int):List Int:=L.filter λx => !oh cs ps set x
def MZ (a:ta)(mem:Mem):R->Mem->Prop:=λm mem'=>∃M0:List Int,D M0+(stay a.cs a.ps a.set a.L).length=D a.L+D a.Z/\m=.ref 290006 a.g 1 0 (stay a.cs a.ps a.set a.L).length/\mem'=aZ mem 290006 a.g ((stay a.cs a.ps a.set a.L++M0).map cd)
def M3:List R->Mem->Option (R->Mem->Prop):=xc (λ(a:ta) args mem=>args=a.args/\a.At mem) MZ
theorem aCG:∀a b:Data,R.J a=R.J b->a=b:=λa b h=>by cases h;rfl
theorem aCH {a b:ta}{mem:Mem}(h:a.args=b.args)(F:a.At mem)(I:b.At mem):a=b:=by
 obtain⟨g,cD,cf,L,Z,E,cs,hv,ps,fl,set⟩:=a;obtain⟨c6,aLL,aLM,aLN,M0,H4,na,lh,y0,AA,aLO⟩:=b;have aA:=F.row.symm.trans I.row;have aC:=F.day.symm.trans I.day;have bZ:=F.st.symm.trans I.st;simp only[ta.args,bb,R.ref.injEq,and_true,true_and] at h;simp only[cj,Prod.mk.injEq] at aA aC bZ;obtain⟨rfl,aA⟩:=aA;obtain⟨rfl,aC⟩:=aC;obtain⟨rfl,bZ⟩:=bZ;obtain⟨rfl,rfl,rfl,j2,rfl⟩:=AE (map_inj aCG _ _ aC);obtain rfl:=map_inj (λ_ _ aQ=>wZ aQ) _ _ j2;simp only[eE,c1,bb,R.J.injEq,Data.Y.injEq,and_true] at bZ;obtain rfl:=map_inj fj _ _ bZ;obtain⟨rfl,rfl⟩:=List.append_inj (QT aA) h.1.2
 rfl
theorem aCI (a:ta)(mem:Mem)(h:a.At mem):M3 a.args mem=some (MZ a mem):=by
 unfold M3;exact X4 (a:=a) (λa b args mem F I=>aCH (F.1.symm.trans I.1) F.2 I.2) ⟨rfl,h⟩
theorem Sk {n k g:Nat}{mem:Mem}{ds:List Data}(h:mem k=some (g,ds.map .J)):cz (n+1) mem (.ptr k g 0)=some (.ptr ds):=by
 unfold cz;rw[h];simp only;rw[ad ⟨trivial,fg _⟩,lQ,tC _ λd=>by cases n<;>rfl]
 rfl
theorem amr {n k g:Nat}{mem:Mem}{L Z:List Int}(h:mem k=some (g,(L++Z).map cd)):cz (n+1) mem (.ref k g 1 0 (D L))=some (.Y (L.map ag)):=by
 unfold cz;rw[h];simp only[if_true];unfold cut;rw[kx,cK,ad (by simp),lQ,kI,FC,ak,mg,nd,fJ,dt (by rw[ak];exact bW _)];have e:L.map cd=((L.map ag).flatten).map R.J:=by rw[Is];rfl
 rw[e];simp only;rw[tC _ λd=>by cases n<;>rfl]
 have:=x9 (sz:=1) (L.map ag) (λx O=>by obtain⟨y,-,rfl⟩:=dS.1 O;rfl);rw[ak] at this;simp[this]
theorem aCJ {T:bh}(Mo:T tH=aV H8){a:ta}{mem m:Mem}(aN:a.At mem)(F:m 290001=mem 290001)(aM:m 290004=mem 290004)(x:Int):
  T tH [.J (.int .i64 x),.ptr 290001 a.cD 0,.ptr 290004 a.cf 0] m=some (.same (.bool (oh a.cs a.ps a.set x))):=by
 have t1:cz 6 m (.ptr 290001 a.cD 0)=some (.ptr (eJ a.E a.cs a.hv (a.ps.map av) a.fl)):=Sk (F.trans aN.day);have t2:cz 6 m (.ptr 290004 a.cf 0)=some (.ptr [.Y (a.set.map ag)]):=Sk (aM.trans aN.st);have t3:cz 6 m (.J (.int .i64 x))=some (.int .i64 x):=rfl;have e5:=ajY x a.E a.cs a.hv a.ps a.fl a.set ⟨aN.xE,by have:=aN.Y;omega⟩
 have aA:[R.J (.int .i64 x),.ptr 290001 a.cD 0,.ptr 290004 a.cf 0].mapM (cz 6 m)=some [.int .i64 x,.ptr (eJ a.E a.cs a.hv (a.ps.map av) a.fl),.ptr [.Y (a.set.map ag)]]:=by
  simp only[lg,FW,t1,t2,t3];rfl
 have b0:[R.J (.int .i64 x),.ptr 290001 a.cD 0,.ptr 290004 a.cf 0].mapM (cz 6 emp)=none:=rfl;rw[Mo];unfold aV;rw[b0,aA];show (H8 _).bind wA=_;rw[e5];simp[wA,scalar]
theorem aCK {T:bh}(m5:T wF=aV AJ){a:ta}{mem:Mem}(aN:a.At mem):
  T wF a.args mem=some (.same (.int .i64 (kG (λx=>oh a.cs a.ps a.set x) a.L))):=by
 have t1:cz 5 mem (.ptr 290001 a.cD 0)=some (.ptr (eJ a.E a.cs a.hv (a.ps.map av) a.fl)):=Sk aN.day;have t2:cz 5 mem (.ptr 290004 a.cf 0)=some (.ptr [.Y (a.set.map ag)]):=Sk aN.st;have t3:cz 6 mem (.ref 290006 a.g 1 0 (D a.L))=some (.Y (a.L.map ag)):=amr aN.row
 have t4:cz 6 mem (.fy tH [.ptr 290001 a.cD 0,.ptr 290004 a.cf 0])=some (rX (.CK a.E a.cs a.hv a.ps a.fl a.set)):=by
  rw[aqd];simp only[lg,FW,t1,t2];rfl
 have aq:=aN.amq;have e5:=aj0 a.L (.CK a.E a.cs a.hv a.ps a.fl a.set) ⟨by omega,by decide,aN.xE,by have:=aN.Y;omega⟩
 have aA:a.args.mapM (cz 6 mem)=some [.Y (a.L.map ag),rX (.CK a.E a.cs a.hv a.ps a.fl a.set)]:=by
  unfold ta.args;simp only[lg,FW,t3,t4];rfl
 have b0:a.args.mapM (cz 6 emp)=none:=rfl;rw[m5];unfold aV;rw[b0,aA];show (AJ _).bind wA=_;rw[e5];simp only[kB,wA,scalar,if_true]
 rfl
theorem ams {p:Int->Bool}{L:List Int}{j:Nat}{x:Int}(h:L[j]?=some x):(L.take (j+1)).filter p=(L.take j).filter p++if p x=true then [x] else []:=by
 rw[g1,h,rT]
 cases aE:p x<;>simp[aE]
theorem aCL (n:Nat):(dC n [R.J (.int .i64 0)]).flatten=(dC n (0:Int)).map cd:=by
 induction n with
 |zero=>rfl
 |succ n ax=>rw[pG,List.flatten_cons,ax,pG];rfl
theorem aCM (T:bh)(m5:T wF=aV AJ)(Mo:T tH=aV H8)(a:ta)(mem:Mem)(aN:a.At mem):
  wp T Ox.body (pV Ox.res (MZ a mem)) ⟨lf a.args,mem⟩:=by
 have vG:=aCK m5 aN;have hp:=λ(m:Mem) (F:m 290001=mem 290001) (aM:m 290004=mem 290004) (x:Int)=>aCJ Mo aN F aM x;have e8:=aN.row;have MF:=aN.amq;obtain⟨g,cD,cf,L,Z,E,cs,hv,ps,fl,set⟩:=a;clear aN;unfold MZ;simp only[ta.args,stay] at vG hp e8 MF ⊢;generalize aE:oh cs ps set=p at *;refine tn ?_;simp only[Ox];rcases aG:(kG (λx=>p x) L == -1)
 case true =>
  have aF:L.filter (λx => !p x)=L:=by
   rw[amt];intro x O;have:=Lh (λx=>p x) L;rw[eq_of_beq aG] at this;have I:=ug.1 this.symm x O
   simpa using I
  rw[aF];simp only[go_sem,go_sem_proc,vG,aG];repeat' (first|refine aw ?_ ?_|fail)<;>intro h<;>simp only[h,go_sem,go_sem_proc,vG,aG]
  exact⟨_,rfl,Z,by omega,rfl,by
   funext k
   by_cases Q:k=290006
   ·subst Q;rw[iH,e8]
   ·rw[dr Q]⟩
 obtain⟨i0,pM,aLP,b8,BQ⟩:∃i0:Nat,kG (λx=>p x) L=(i0:Int)/\i0<D L/\(∃x,L[i0]?=some x/\p x=true)/\∀x∈L.take i0,p x=false:=by
  unfold kG at aG ⊢
  cases h:L.findIdx? (λx=>p x) with
  |none=>rw[h] at aG;cases aG
  |some i =>
   obtain⟨F,I,af⟩:=List.findIdx?_eq_some_iff_getElem.1 h;refine⟨i,rfl,F,⟨_,bx F,I⟩,λx O=>?_⟩;obtain⟨j,aj⟩:=tD.1 O;rw[uR] at aj
   split at aj
   ·rename_i h0;obtain⟨ib,rfl⟩:=dz.1 aj;have:=af j h0
    simpa using this
   ·cases aj
 rw[pM] at vG aG;have ev:=e9 (i:=i0) (by omega);simp only[go_sem,go_sem_proc,vG,aG,ev]
 refine dv [0,1] [] (λ((j,row):Nat×List Int) tm m=>j<=D L/\tm 6=.J (.int .i64 (j:Int))/\tm 5=.J (.int .i64 (((L.take j).filter λx => !p x).length:Int))/\D row=D L+D Z/\row.take ((L.take j).filter λx => !p x).length=(L.take j).filter (λx => !p x)/\row.drop j=(L++Z).drop j/\m=aZ mem 290006 g (row.map cd)) (λ(j,_)=>D L-j) (i0+1,L++Z) (by
  obtain⟨x,O,IU⟩:=b8
  have e:(L.take (i0+1)).filter (λx => !p x)=L.take i0:=by
   rw[ams O,ae (by rw[IU];decide),fJ,amt];intro y ar;rw[BQ y ar];rfl
  have aC:(L.take i0).length=i0:=by rw[fR];omega
  refine⟨by omega,rfl,?_,by rw[fE],?_,rfl,?_⟩
  ·rw[e,aC];rfl
  ·rw[e,aC,FC,show i0-D L=0 by omega,nd,fJ]
  ·funext k
   by_cases Q:k=290006
   ·subst Q;rw[iH];exact e8
   ·rw[dr Q]) ?_
 intro vs ms aT aR;simp only[go_sem,go_sem_proc] at aT aR;subst aT aR;rintro⟨j,row⟩ tm m Q-⟨aj,bY,cL,bX,g2,qE,hm⟩;simp only[go_sem,go_sem_proc,bb] at Q;obtain⟨b0,aA⟩:=Q;subst hm;have ew:=λ(x:Int)=>hp (aZ mem 290006 g (row.map cd)) rfl rfl x
 have kA:((L.take j).filter λx => !p x).length<=j:=by
  have F:=od (λx => !p x) (L.take j);have I:(L.take j).length<=j:=List.length_take_le _ _;omega
 rcases dA (j<D L) with ay|b9
 ·have d1:decide ((j:Int)<(D L:Int))=true:=dn;obtain⟨x,O⟩:∃x,L[j]?=some x:=⟨_,bx ay⟩
  have aCN:row[j]?=some x:=by
   have F:row[j]?=(row.drop j)[0]?:=by rw[kU];rfl
   rw[F,qE,kU,Nat.add_zero,qo ay,O]
  have IV:=ams (p:=λx => !p x) O;have ew:=ew x;have w1:=e9 (i:=j) (by omega);have s1:gq 1 (gI j (row.map cd))=[.J (.int .i64 x)]:=Az (f:=cd) aCN;have df:(j<D L)=True:=eq_true ay;have eD:(j+1<=D L+D Z)=True:=eq_true (by omega);have qZ:(row.map cd).length=D L+D Z:=by rw[ak,bX]
  have ki:∀y:List Int,D y=(D row)->(∀k,j+1<=k->y[k]?=row[k]?)->y.drop (j+1)=(L++Z).drop (j+1):=λy zf ar=>by
   apply List.ext_getElem?;intro k;rw[kU,kU,ar _ (by omega)];have F:row[j+1+k]?=(row.drop j)[1+k]?:=by rw[kU];congr 1;omega
   have I:(L++Z)[j+1+k]?=((L++Z).drop j)[1+k]?:=by rw[kU];congr 1;omega
   rw[F,I,qE]
  rcases IU:p x
  ·rw[IU] at ew;rw[ad (by rw[IU];rfl)] at IV;have gB:((L.take (j+1)).filter λx => !p x).length=((L.take j).filter λx => !p x).length+1:=by rw[IV,fE];rfl
   generalize aK:((L.take j).filter λx => !p x).length=n at *;have m7:=e9 (i:=n) (by omega);have j3:(n<D L)=True:=eq_true (by omega);have l2:(n+1<=D L+D Z)=True:=eq_true (by omega)
   have mH:gq n (row.map cd)++[R.J (.int .i64 x)]++gI (n+1) (row.map cd)=(row.set n x).map cd:=by
    rw[List.set_eq_take_append_cons_drop,ad (by omega),kI,eE,Ca,amu,gU];rfl
   generalize M4:row.map cd=Fa at *;simp only[go_sem,go_sem_proc,b0,aA,cL,bY,s1,d1,w1,m7,df,eD,j3,l2,qZ,mH,ew,dD,cK];repeat' (first|refine aw ?_ ?_|fail)<;>intro h<;>simp only[h,go_sem,go_sem_proc,b0,aA,cL,bY,s1,d1,w1,m7,df,eD,j3,l2,qZ,mH,ew,dD,cK]
   refine⟨(j+1,row.set n x),by dsimp only;omega,by dsimp only;omega,rfl,?_,?_,?_,?_,?_⟩
   ·rw[gB]
   ·dsimp only;rw[jf,bX]
   ·dsimp only;rw[gB,IV,g1,List.take_set_of_le (bW _),g2,List.getElem?_set_self (by omega)];rfl
   ·exact ki _ (jf ..) λk Q=>by rw[List.getElem?_set_ne (by omega)]
   ·rw[abn]
  ·rw[IU] at ew;rw[ae (by rw[IU];decide),fJ] at IV;generalize M4:row.map cd=Fa at *;simp only[go_sem,go_sem_proc,b0,aA,cL,bY,s1,d1,w1,df,eD,qZ,ew,c8,cK];repeat' (first|refine aw ?_ ?_|fail)<;>intro h<;>simp only[h,go_sem,go_sem_proc,b0,aA,cL,bY,s1,d1,w1,df,eD,qZ,ew,c8,cK]
   exact⟨(j+1,row),by dsimp only;omega,by dsimp only;omega,rfl,by rw[IV],bX,by rw[IV];exact g2,ki _ rfl λk Q=>rfl,by rw[M4]⟩
 ·have d1:decide ((j:Int)<(D L:Int))=false:=dk;obtain rfl:j=D L:=by omega
  rw[k3] at cL g2 kA;have hlen:((L.filter λx => !p x).length)<=D L:=kA;generalize e5:L.filter (λx => !p x)=aO at *;have aI:(D aO<=D L)=True:=eq_true hlen;have c2:(D aO+(D L-D aO)<=D L+D Z)=True:=eq_true (by omega);have c3:(D L<=D L)=True:=eq_true (bW _);have qZ:(row.map cd).length=D L+D Z:=by rw[ak,bX]
  have DO:gq (D aO) (row.map cd)=aO.map cd:=by rw[<-Ca,g2]
  have zV:gI (D L) (row.map cd)=Z.map cd:=by rw[<-amu,qE,List.drop_left]
  have o2:gq (D aO) (row.map cd)++(dC (D L-D aO) [R.J (.int .i64 0)]).flatten++gI (D aO+(dC (D L-D aO) [R.J (.int .i64 0)]).flatten.length) (row.map cd)=(aO++(dC (D L-D aO) 0++Z)).map cd:=by
   rw[aCL,ak,Cq,show (D aO)+(D L-D aO)=(D L) by omega,zV,DO,kI,kI,gU]
  generalize row.map cd=Fa at *;simp only[go_sem,go_sem_proc,b0,aA,cL,bY,d1,aI,c2,c3,qZ,o2,Ap,cK,wg,Dq,kx];repeat' (first|refine aw ?_ ?_|fail)<;>intro h<;>simp only[h,go_sem,go_sem_proc,b0,aA,cL,bY,d1,aI,c2,c3,qZ,o2,Ap,cK,wg,Dq,kx]
  exact⟨_,rfl,dC (D L-D aO) 0++Z,by rw[fE,Cq];omega,rfl,by rw[abn];rfl⟩
def hc (cs:List ao)(ps:List Rat)(s:List Int):Nat->List Int
 |0=>s
 |k+1=>stay cs ps (hc cs ps s k) (hc cs ps s k)
theorem amv (cs:List ao)(ps:List Rat)(set L:List Int):(stay cs ps set L).length<=D L:=od _ _
theorem aCO (cs:List ao)(ps:List Rat)(s:List Int)(k:Nat):(hc cs ps s k).length<=D s:=by
 induction k with
 |zero=>exact bW _
 |succ k ax=>exact eP (amv ..) ax
def abz:=cp MX λ(E,cs,hv,ps,fl)=>cV (j7 E cs ps) (.same (.bool (decide (((hc cs ps (gw cs ps (D E)) (D E)).length:Int)>0))))
@[go_sem] theorem aCP (E:List Int)(cs:List ao)(hv:List a1)(ps:List Rat)(fl:List (List Int))(G:j7 E cs ps):abz [.agg (eJ E cs hv (ps.map av) fl)]=some (.same (.bool (decide (((hc cs ps (gw cs ps (D E)) (D E)).length:Int)>0)))):=(cA abv (E,cs,hv,ps,fl)).trans (cY G _)
theorem aCQ (T:bh)(j8:T DE=aV MY)(fL:T va=aV BD)(IW:T Uv=qP M3)(E:List Int)(cs:List ao)(hv:List a1)(ps:List Rat)(fl:List (List Int))(G:j7 E cs ps):WP T WU (.same (.bool (decide (((hc cs ps (gw cs ps (D E)) (D E)).length:Int)>0)))) [.J (.agg (eJ E cs hv (ps.map av) fl))]:=by
 refine cB ?_;simp only[WU];have aK:=G.n;have jv:=abw E cs hv ps fl G;have JK:=Sg cs ps (D E);have ew:=aCO cs ps (gw cs ps (D E));have e8:∀l:List Int,bf ag l=l.map cd:=λl=>(Is l).symm;generalize cJ:gw cs ps (D E)=xF at *
 have fh:∀(m:Mem) (g cD cf:Nat) (L Z:List Int),m 290006=some (g,(L++Z).map cd)->(D L)+D Z<=60->m 290001=some (cD,[.J (.Y (E.map ag)),.J (.Y (cs.map cx)),.J (.Y (hv.map aH)),.J (.Y ((ps.map av).map aH)),.J (.Y (fl.map nz))])->M3 [.ref 290006 g 1 0 (D L),.fy tH [.ptr 290001 cD 0,.ptr 290004 cf 0]] (aZ (aZ m 290004 cf [.nil]) 290004 cf [.J (.Y (L.map ag))])=some (MZ ⟨g,cD,cf,L,Z,E,cs,hv,ps,fl,L⟩ (aZ (aZ m 290004 cf [.nil]) 290004 cf [.J (.Y (L.map ag))])):=λm g cD cf L Z F I af =>
  aCI ⟨g,cD,cf,L,Z,E,cs,hv,ps,fl,L⟩ _ ⟨F,af,iH,G,by dsimp only;omega,I⟩
 simp only[eJ] at jv;generalize aLQ:ps.map av=yT at *;simp only[go_sem,go_sem_proc,j8,fL,IW,eJ,jv,ak]
 refine dv [1,9] [290001] (λ((k,g,Z):Nat×Nat×List Int) tm m=>k<=D E/\tm 10=.J (.int .i64 k)/\tm 3=.ref 290006 g 1 0 (hc cs ps xF k).length/\m 290006=some (g,(hc cs ps xF k++Z).map cd)/\(hc cs ps xF k).length+D Z<=60) (λ(k,_,_)=>D E-k) (0,0,[]) (by
  refine⟨by omega,rfl,?_,?_,?_⟩
  ·show _=R.ref 290006 0 1 0 (D xF);simp[e4]
  ·show _=some (0,(xF++[]).map cd);rw[fJ,Is]
   rfl
  ·show (D xF)+0<=60;omega) ?_
 intro vs ms aT aR;simp only[go_sem,go_sem_proc,j8,fL,IW,eJ,ak] at aT aR;subst aT aR;rintro⟨k,g,Z⟩ tm m Q hm ⟨qw,ej,bZ,amw,MF⟩;simp only[go_sem,go_sem_proc,j8,fL,IW,bb] at Q hm;obtain⟨aA,fF⟩:=Q;rcases dA (k<D E) with ay|b9
 ·have d1:decide ((k:Int)<(D E:Int))=true:=dn;have b4:=e9 (i:=k) (by omega);have hK:hc cs ps xF (k+1)=stay cs ps (hc cs ps xF k) (hc cs ps xF k):=rfl;generalize hc cs ps xF k=S at *;have bD:cz 6 m (.ref 290006 g 1 0 (D S))=some (.Y (S.map ag)):=amr amw;have aCR:cz 6 emp (.ref 290006 g 1 0 (D S))=none:=rfl;have fN:=aeD S (by omega)
  have Mw:((S.map ag).all λe=>e.all scalar)=true:=by
   rw[jc];intro x O;obtain⟨y,-,rfl⟩:=dS.1 O;simp[ag,scalar]
  have aG:=fh m g 0 (gA (m 290004)) S Z amw MF hm;simp only[go_sem,go_sem_proc,j8,fL,IW,aA,bZ,fF,ej,hm,d1,bD,aCR,fN,aG,wA,Mw,kH,kB];rintro r m' ⟨M0,aS,ab,nT⟩;dsimp only at aS ab nT;rw[<-hK] at aS ab nT;subst ab nT;refine aX ?_;repeat' (intro h<;>simp only[h,go_sem,go_sem_proc,j8,fL,IW,aA,fF,ej,hm,b4]<;>try refine aw ?_ ?_)
  exact⟨(k+1,g,M0),by dsimp only;omega,by dsimp only;omega,rfl,rfl,rfl,by dsimp only;omega⟩
 ·have d1:decide ((k:Int)<(D E:Int))=false:=dk;obtain rfl:k=D E:=by omega
  generalize hc cs ps xF (D E)=S at *;refine aX ?_;repeat' (intro h<;>simp only[h,go_sem,go_sem_proc,j8,fL,IW,aA,bZ,fF,ej,hm,d1]<;>try refine aw ?_ ?_)
def y1 (l:List ao)(k:Nat):Bool:=l.any λc=>(c.2.2.1==(k:Int))&&decide (c.2.2.2>0)
def Sl (l:List ao)(k:Nat):Nat:=((dP k).filter (y1 l)).length
theorem aCS {E:List Int}{cs:List ao}(U:e2 E cs)(i k:Nat):Sl (cu cs i) k=(aB E cs).xq i k:=by
 unfold Sl Day.xq
 congr 2
 funext r
 have h:=aja U.ok i r;have ab:=(hy.1 U.right).2.2.2;rw[Bool.eq_iff_iff,decide_eq_true_eq,h];unfold y1;rw[List.any_eq_true]
 constructor
 ·rintro⟨c,G,F⟩;simp only[ec,beq_iff_eq,decide_eq_true_eq] at F;obtain⟨I,af⟩:=l5.1 G;refine⟨cv c,pt I,by show c.1.toNat=i;omega,by show c.2.2.1.toNat=r;omega,?_⟩
  show (0:Rat)<((c.2.2.2:Int):Rat);exact_mod_cast F.2
 ·rintro⟨b,ah,F,I,af⟩;obtain⟨c,G,rfl⟩:=dS.1 ah;have aM:=ab c G;have x6:c.1.toNat=i:=F;have sn:c.2.2.1.toNat=r:=I;refine⟨c,l5.2 ⟨G,by omega⟩,?_⟩
  have aCT:(0:Rat)<((c.2.2.2:Int):Rat):=af;have bk:0<c.2.2.2:=by exact_mod_cast aCT
  simp only[ec,beq_iff_eq,decide_eq_true_eq];omega


theorem aCU {n:Int}(h:dB n):Eb [.int .i64 n,.int .i64 1]=some (.same (.cI [.agg (aH (av (n:Rat))),.int .i64 0])):=by
 have:=afN n 1 ⟨h,QW⟩;rw[QP h] at this;exact this
abbrev abA:List Int->List Data:=λ(l:List Int)=>[.Y (l.map ag),.fn ni []]
def abB:=cp abA λ(l:List Int)=>cV (D l<=1000000) (.same (.bool (l.all gj)))
theorem aCV:∀a b,abA a=abA b->a=b:=by
  intro dY ai h;simp only[bb,Data.Y.injEq,and_true] at h;exact map_inj fj _ _ h
@[go_sem] theorem aCW (l:List Int)(G:(D l)<=1000000):abB [.Y (l.map ag),.fn ni []]=some (.same (.bool (l.all gj))):=(cA aCV l).trans (cY G _)
theorem aCX (T:bh)(Rh:T Ks=aV Re)(l:List Int)(G:(D l)<=1000000):WP T WZ (.same (.bool (l.all gj))) [.J (.Y (l.map ag)),.J (.fn ni [])]:=by
 refine cB ?_;simp only[WZ];have h:=aj1 l .rW ⟨G,by show BB<900000;decide⟩
 have e:l.any (qc .rW) = !l.all gj:=Ms l gj;rw[e] at h;simp only[rX] at h;simp only[go_sem,go_sem_proc,Rh,h,cz,nL,kH,scalar,IX];repeat' (first|refine aw ?_ ?_|fail)<;>intro h<;>simp only[h,go_sem,go_sem_proc,Rh,h,cz,nL,kH,scalar,IX]
abbrev abC:(List ao)×Int->List Data:=λ(l,n)=>[.Y (l.map cx),.fn yd [.ptr [.int .i64 n],.ptr [.fn ni []]]]
def abD:=cp abC λ(l,n)=>cV (D l<=1000000/\0<=n/\n<=1000000) (.same (.bool (l.all (hI n))))
theorem aCY:∀a b,abC a=abC b->a=b:=by
  rintro⟨dY,hC⟩ ⟨ai,ie⟩ h;simp only[bb,Data.Y.injEq,Data.fn.injEq,Data.ptr.injEq,Data.int.injEq,and_true,true_and] at h;exact ed (map_inj s3 _ _ h.1) h.2
@[go_sem] theorem aCZ (l:List ao)(n:Int)(G:(D l)<=1000000/\0<=n/\n<=1000000):abD [.Y (l.map cx),.fn yd [.ptr [.int .i64 n],.ptr [.fn ni []]]]=some (.same (.bool (l.all (hI n)))):=(cA aCY (l,n)).trans (cY G _)
theorem aC0 (T:bh)(Ic:T DB=aV Mr)(l:List ao)(n:Int)(G:(D l)<=1000000/\0<=n/\n<=1000000):WP T W0 (.same (.bool (l.all (hI n)))) [.J (.Y (l.map cx)),.J (.fn yd [.ptr [.int .i64 n],.ptr [.fn ni []]])]:=by
 refine cB ?_;simp only[W0];have h:=aav l (.rW n) ⟨G.1,by decide,G.2⟩
 have e:l.any (s5 (.rW n)) = !l.all (hI n):=Ms l _;rw[e] at h;simp only[vX] at h;simp only[go_sem,go_sem_proc,Ic,h,cz,nL,kH,scalar,IX];repeat' (first|refine aw ?_ ?_|fail)<;>intro h<;>simp only[h,go_sem,go_sem_proc,Ic,h,cz,nL,kH,scalar,IX]
def qg (f:a1):Bool:=ei f&&decide (f.1.1>=0)
abbrev abE:List a1->List Data:=λ(l:List a1)=>[.Y (l.map aH),.fn wG []]
def abF:=cp abE λ(l:List a1)=>cV (e6 l) (.same (.bool (l.all qg)))
theorem aC1:∀a b,abE a=abE b->a=b:=by
  intro dY ai h;simp only[bb,Data.Y.injEq,and_true] at h;exact map_inj m0 _ _ h
@[go_sem] theorem amx (l:List a1)(G:e6 l):abF [.Y (l.map aH),.fn wG []]=some (.same (.bool (l.all qg))):=(cA aC1 l).trans (cY G _)
theorem aC2 (T:bh)(GZ:T Kg=aV Lj)(l:List a1)(G:e6 l):WP T W1 (.same (.bool (l.all qg))) [.J (.Y (l.map aH)),.J (.fn wG [])]:=by
 refine cB ?_;simp only[W1];have h:=af6 l vf ⟨G,.inr (.inr ⟨rfl,by decide⟩)⟩;have e:l.any (pS vf) = !l.all qg:=by rw[af4];exact Ms l qg
 have WA:GX vf=[.ptr [.fn wG []]]:=ad rfl;rw[e,WA] at h;simp only[go_sem,go_sem_proc,GZ,h,cz,nL,kH,scalar,IX];repeat' (first|refine aw ?_ ?_|fail)<;>intro h<;>simp only[h,go_sem,go_sem_proc,GZ,h,cz,nL,kH,scalar,IX]
def jr (E:List Int)(cs:List ao)(hv pv:List a1):Bool:=!(decide ((D E:Int)>60)||(decide ((D cs:Int)>2000)||(!((D hv:Int)==(D E:Int)) || !((D pv:Int)==(D cs:Int)))))&&(E.all gj&&(cs.all (hI (D E))&&(hv.all qg&&pv.all qg)))
abbrev abG:(List Int)×(List ao)×(List a1)×(List a1)×(List (List Int))->List Data:=λ(E,cs,hv,pv,fl)=>[.agg (eJ E cs hv pv fl)]
def Sm:=cp abG λ(E,cs,hv,pv,fl)=>cV (D E<=1000000/\D cs<=1000000/\e6 hv/\e6 pv) (.same (.bool (jr E cs hv pv)))
theorem aC3:∀a b,abG a=abG b->a=b:=by
  rintro⟨vU,vV,nO,abq,AF⟩ ⟨vW,oC,nP,abr,AG⟩ h;simp only[bb,Data.agg.injEq,and_true] at h;obtain⟨rfl,rfl,rfl,rfl,rfl⟩:=AE h;rfl
@[go_sem] theorem amy (E:List Int)(cs:List ao)(hv:List a1)(pv:List a1)(fl:List (List Int))(G:(D E)<=1000000/\D cs<=1000000/\e6 hv/\e6 pv):Sm [.agg (eJ E cs hv pv fl)]=some (.same (.bool (jr E cs hv pv))):=(cA aC3 (E,cs,hv,pv,fl)).trans (cY G _)
theorem aC4 (T:bh)(CU:T Up=aV abB)(CV:T Uq=aV abD)(CW:T Oo=aV abF)(E:List Int)(cs:List ao)(hv:List a1)(pv:List a1)(fl:List (List Int))(G:(D E)<=1000000/\D cs<=1000000/\e6 hv/\e6 pv):WP T WR (.same (.bool (jr E cs hv pv))) [.J (.agg (eJ E cs hv pv fl))]:=by
 refine cB ?_;simp only[WR];obtain⟨F,I,af,aM⟩:=G;have cU:=aCW E F;have de:=aCZ cs (D E) ⟨I,by omega,by omega⟩
 have a3:=amx hv af;have a4:=amx pv aM;unfold jr;generalize hv.all qg=A3 at *;generalize pv.all qg=A4 at *;generalize E.all gj=Y7 at *;generalize cs.all (hI (D E))=HM at *;rcases aI:decide ((D E:Int)>60)
 case true =>
        refine aX ?_;repeat' (intro h<;>simp only[h,go_sem,go_sem_proc,CU,CV,CW,eJ,aI,ak,sq,c8,fz]<;>try refine aw ?_ ?_)
 rcases c2:decide ((D cs:Int)>2000)
 case true =>
        refine aX ?_;repeat' (intro h<;>simp only[h,go_sem,go_sem_proc,CU,CV,CW,eJ,aI,c2,ak,sq,pL,c8,fz]<;>try refine aw ?_ ?_)
 rcases c3:((D hv:Int)==(D E:Int))
 case false =>
        refine aX ?_;repeat' (intro h<;>simp only[h,go_sem,go_sem_proc,CU,CV,CW,eJ,aI,c2,c3,ak,bne,sq,pL,c8,dD,fz]<;>try refine aw ?_ ?_)
 rcases c4:((D pv:Int)==(D cs:Int))
 case false =>
        refine aX ?_;repeat' (intro h<;>simp only[h,go_sem,go_sem_proc,CU,CV,CW,eJ,aI,c2,c3,c4,ak,bne,sq,Bool.or_true,pL,c8,dD,fz]<;>try refine aw ?_ ?_)
 cases Y7
 ·refine aX ?_;repeat' (intro h<;>simp only[h,go_sem,go_sem_proc,CU,CV,CW,eJ,aI,c2,c3,c4,cU,ak,bne,cz,nL,kH,scalar,lR,c8,dD,fz,iQ]<;>try refine aw ?_ ?_)
 cases HM
 ·refine aX ?_;repeat' (intro h<;>simp only[h,go_sem,go_sem_proc,CU,CV,CW,eJ,aI,c2,c3,c4,cU,de,ak,bne,cz,nL,kH,scalar,lR,c8,dD,gT,fz,iQ]<;>try refine aw ?_ ?_)
 cases A3
 ·refine aX ?_;repeat' (intro h<;>simp only[h,go_sem,go_sem_proc,CU,CV,CW,eJ,aI,c2,c3,c4,cU,de,a3,ak,bne,cz,nL,kH,scalar,lR,c8,dD,gT,fz,iQ]<;>try refine aw ?_ ?_)
 ·refine aX ?_;repeat' (intro h<;>simp only[h,go_sem,go_sem_proc,CU,CV,CW,eJ,aI,c2,c3,c4,cU,de,a3,a4,ak,bne,cz,nL,kH,scalar,lR,c8,dD,gT,fz,iQ]<;>try refine aw ?_ ?_)
def y2 (i:Int)(acc:Option Rat)(abH:ao×Rat):Option Rat:=if abH.1.2.1=i then acc.bind λs=>if mD s abH.2=true then some (s+abH.2) else none else acc
def q0 (z:Int)(i:Int)(l:List (ao×Rat)):Option Rat:=l.foldl (y2 i) (some (z:Rat))
theorem aC5 {z i:Int}{l:List (ao×Rat)}{k:Nat}{c:ao×Rat}(h:l[k]?=some c):q0 z i (l.take (k+1))=y2 i (q0 z i (l.take k)) c:=by
 unfold q0;rw[g1,h,aa3];rfl
theorem aC6 (i:Int)(l:List (ao×Rat)):l.foldl (y2 i) none=none:=by
 induction l with
 |nil=>rfl
 |cons c l ax =>
  have:y2 i none c=none:=by unfold y2;split<;>rfl
  rw[FG,this,ax]
theorem aC7 {z i:Int}{l:List (ao×Rat)}{k:Nat}(h:q0 z i (l.take k)=none):q0 z i l=none:=by
 have:l=l.take k++l.drop k:=(List.take_append_drop k l).symm;rw[this];unfold q0 at *;rw[aa3,h,aC6]
theorem aC8 {z i:Int}(aS:dB z)(l:List (ao×Rat)):∀x,q0 z i l=some x->dm x:=by
 unfold q0
 have:∀(l:List (ao×Rat)) (a:Option Rat),(∀x,a=some x->dm x)->∀x,l.foldl (y2 i) a=some x->dm x:=by
  intro l
  induction l with
  |nil=>intro a h;exact h
  |cons c l ax =>
   intro a h;refine ax _ λx O=>?_;unfold y2 at O
   split at O
   ·cases a with
    |none=>cases O
    |some s =>
     rw[kB] at O
     split at O
     ·rename_i Q;rw[<-mj O];exact alJ Q
     ·cases O
   ·exact h x O
 exact this l _ λx O=>by rw[<-mj O];exact uy aS
def l9 (E:List Int)(cs:List ao)(aG ps:List Rat)(i:Nat):Int:=match q0 (E.getD i 0) i (cs.zip ps) with
 |none=>6
 |some x=>if x=aG.getD i 0/\fk cs ps i=(cu cs i).map (λc=>ff (cu cs i) x c) then 0 else 24
structure Fb (E:List Int) (cs:List ao) (aG ps:List Rat) (i:Nat):Prop where
 xE:j7 E cs ps
 M:i<D E
 aq:(D aG)=D E
 kJ:∀x∈aG,dm x
 aLR:dB (E.getD i 0)
 split:∀x,q0 (E.getD i 0) i (cs.zip ps)=some x->x=aG.getD i 0->H5 (cu cs i) x
theorem ko.abd {l:List ao}(h:ko l){x:Rat}(O:dT 460 x){c:ao}(G:c∈l):dm (ff l x c):=Mini.abd (λc G=>by have:=h.c c G;omega) h.len O G
abbrev abI:(List Int)×(List ao)×(List Rat)×(List Rat)×(List (List Int))×Nat->List Data:=λ(E,cs,aG,ps,fl,i)=>[.agg (eJ E cs (aG.map av) (ps.map av) fl),.int .i64 (i:Int)]
def abJ:=cp abI λ(E,cs,aG,ps,fl,i)=>cV (Fb E cs aG ps i) (.same (.int .i64 (l9 E cs aG ps i)))
theorem aC9:∀a b,abI a=abI b->a=b:=by
  rintro⟨vU,vV,rB,Mm,AF,i1⟩ ⟨vW,oC,DT,Mn,AG,i2⟩ h;simp only[bb,Data.agg.injEq,Data.int.injEq,and_true,true_and] at h;obtain⟨h,jY⟩:=h;obtain⟨rfl,rfl,cf,gS,rfl⟩:=AE h;rw[map_inj (λ_ _ aQ=>wZ aQ) _ _ gS,map_inj (λ_ _ aQ=>wZ aQ) _ _ cf,Int.ofNat.inj jY]
@[go_sem] theorem aDa (E:List Int)(cs:List ao)(aG:List Rat)(ps:List Rat)(fl:List (List Int))(i:Nat)(G:Fb E cs aG ps i):abJ [.agg (eJ E cs (aG.map av) (ps.map av) fl),.int .i64 (i:Int)]=some (.same (.int .i64 (l9 E cs aG ps i))):=(cA aC9 (E,cs,aG,ps,fl,i)).trans (cY G _)
theorem aDb (T:bh)(l3:T zB=aV Eb)(k4:T yb=aV zZ)(eK:T oI=aV tW)(qf:T Kw=aV Sd)(ks:T Kt=aV RP)(r7:T Ur=aV aa7)(E:List Int)(cs:List ao)(aG:List Rat)(ps:List Rat)(fl:List (List Int))(i:Nat)(G:Fb E cs aG ps i):WP T WS (.same (.int .i64 (l9 E cs aG ps i))) [.J (.agg (eJ E cs (aG.map av) (ps.map av) fl)),.J (.int .i64 (i:Int))]:=by
 refine cB ?_;simp only[WS];obtain⟨px,M,aq,kJ,abK,iP⟩:=G;have hlen:=px.len;have aDc:=px.l;obtain⟨z,aS⟩:∃z,E[i]?=some z:=⟨_,bx M⟩;have OM:E.getD i 0=z:=by rw[en,aS];rfl
 rw[OM] at abK iP;unfold l9;rw[OM];have al:=aCU abK;have wq:=aC8 (i:=(i:Int)) abK;have aDd:∀k c p,cs[k]?=some c->ps[k]?=some p->(cs.zip ps)[k]?=some (c,p):=λk c p F I=>List.getElem?_zip_eq_some.2 ⟨F,I⟩;have aLS:(cs.zip ps).length=D cs:=by rw[List.length_zip];omega
 have IY:=amm E cs (aG.map av) (ps.map av) fl i ⟨by rw[ak];exact hlen,aDc⟩
 rw[Z8] at IY;simp only[eJ] at IY;have aDe:∃x,aG[i]?=some x:=⟨_,bx (by omega)⟩;obtain⟨O,abL⟩:=aDe;have aDf:aG.getD i 0=O:=by rw[en,abL];rfl
 have aDg:=kJ O (ep abL);have b9:(aG.map av)[i]?=some (av O):=by rw[bq,abL];rfl
 have aDh:∀k,(ps.map av)[k]?=(ps[k]?).map av:=λk=>bq;have hQ:i<(aG.map av).length:=by rw[ak];omega
 have aLT:(ps.map av).length=D cs:=by rw[ak];exact hlen
 rw[aDf] at iP ⊢;generalize aLU:aG.map av=HQ at *;generalize aLV:ps.map av=M5 at *;have aDi:∃e,e=av ((z:Int):Rat):=⟨_,rfl⟩;obtain⟨e,he⟩:=aDi;rw[<-he] at al;obtain⟨⟨jm,kl⟩,⟨z3,z4⟩⟩:=e;simp only[aH] at al;simp only[go_sem,go_sem_proc,l3,k4,eK,qf,ks,r7,eJ,aS,M,al,ag,hV,lq,kx,ak,bq]
 refine dv [1,2,5,25,26] [288002] (λ((k,x,f):Nat×Rat×a1) tm m=>k<=D cs/\tm 27=.J (.int .i64 k)/\q0 z i ((cs.zip ps).take k)=some x/\f=av x/\m 288005=some (0,(aH f).map .J)) (λ(k,_,_)=>D cs-k) (0,((z:Int):Rat),((jm,kl),(z3,z4))) (by
  refine⟨by omega,rfl,rfl,he,rfl⟩) ?_
 intro vs ms aT aR;simp only[go_sem,go_sem_proc,l3,k4,eK,qf,ks,r7,eJ,ak] at aT aR;subst aT aR;rintro⟨k,x,⟨⟨a8,bV⟩,⟨cZ,ea⟩⟩⟩ tm m Q hm ⟨qw,h7,mX,tu,uH⟩;simp only[go_sem,go_sem_proc,l3,k4,eK,qf,ks,r7,bb] at Q hm;obtain⟨aA,aC,cL,hb,h6⟩:=Q;have tf:=wq ((cs.zip ps).take k) x mX;simp only[aH,eE,c1] at uH;rcases dA (k<D cs) with ay|aLW
 ·have d1:decide ((k:Int)<(D cs:Int))=true:=dn;have b4:=e9 (i:=k) (by omega);obtain⟨⟨aI,c2,c3,c4⟩,G⟩:∃c,cs[k]?=some c:=⟨_,bx ay⟩;obtain⟨p,aE⟩:∃p,ps[k]?=some p:=⟨_,bx (by omega)⟩;have o3:=px.lim p (ep aE);have dy:=aC5 (z:=z) (i:=(i:Int)) (aDd k _ p G aE);rw[mX] at dy;have sR:M5[k]?=some (av p):=by rw[aDh,aE];rfl
  have rM:k<D M5:=by omega
  have iB:=aBo tf o3;rw[<-tu] at iB;obtain⟨e,AM⟩:∃e,e=av p:=⟨_,rfl⟩;rw[<-AM] at iB sR;obtain⟨⟨iO,ju⟩,⟨ud,xg⟩⟩:=e;simp only[aH] at iB;rcases ha:(c2==(i:Int))
  ·have bC:¬ c2=(i:Int):=ne_of_beq_false ha;unfold y2 at dy;rw[ae bC] at dy;simp only[go_sem,go_sem_proc,l3,k4,eK,qf,ks,r7,aA,aC,cL,hb,h6,h7,hm,uH,G,d1,b4,ha,cx,ak,bq,bne,dD];repeat' (first|refine aw ?_ ?_|fail)<;>intro h<;>simp only[h,go_sem,go_sem_proc,l3,k4,eK,qf,ks,r7,aA,aC,cL,hb,h6,h7,hm,uH,G,d1,b4,ha,cx,ak,bq,bne,dD]
   exact⟨(k+1,x,((a8,bV),(cZ,ea))),by dsimp only;omega,by dsimp only;omega,rfl,dy,tu,rfl⟩
  ·have heq:c2=(i:Int):=eq_of_beq ha;unfold y2 at dy;rw[ad heq,kB] at dy;rcases gy:mD x p
   ·rw[gy] at iB dy;rw[ae (by decide)] at dy;have gg:=aC7 dy;rw[gg];have abM:z2 false (x+p)=(ft,6):=rfl;simp only[abM,ft] at iB;have bI:((6:Int)==0)=false:=rfl;simp only[go_sem,go_sem_proc,l3,k4,eK,qf,ks,r7,aA,aC,cL,hb,h6,h7,hm,uH,G,sR,rM,iB,bI,d1,b4,ha,cx,aH,ak,bq,bne,c8,dD];repeat' (first|refine aw ?_ ?_|fail)<;>intro h<;>simp only[h,go_sem,go_sem_proc,l3,k4,eK,qf,ks,r7,aA,aC,cL,hb,h6,h7,hm,uH,G,sR,rM,iB,bI,d1,b4,ha,cx,aH,ak,bq,bne,c8,dD]
   ·rw[gy] at iB dy;rw[ad rfl] at dy;have abM:z2 true (x+p)=(av (x+p),0):=rfl;simp only[abM] at iB;obtain⟨e,B1⟩:∃e,e=av (x+p):=⟨_,rfl⟩;rw[<-B1] at iB;obtain⟨⟨s1,s2⟩,⟨cR,cW⟩⟩:=e;simp only at iB;simp only[go_sem,go_sem_proc,l3,k4,eK,qf,ks,r7,aA,aC,cL,hb,h6,h7,hm,uH,G,sR,rM,iB,d1,b4,ha,cx,aH,ak,bq,bne,beq_self_eq_true,c8];repeat' (first|refine aw ?_ ?_|fail)<;>intro h<;>simp only[h,go_sem,go_sem_proc,l3,k4,eK,qf,ks,r7,aA,aC,cL,hb,h6,h7,hm,uH,G,sR,rM,iB,d1,b4,ha,cx,aH,ak,bq,bne,beq_self_eq_true,c8]
    exact⟨(k+1,x+p,((s1,s2),(cR,cW))),by dsimp only;omega,by dsimp only;omega,rfl,dy,B1,rfl⟩
 ·have d1:decide ((k:Int)<(D cs:Int))=false:=dk;rw[dt (by omega)] at mX;rw[mX];have iA:=H3 tf aDg;rw[<-tu] at iA;obtain⟨e,aDj⟩:∃e,e=av O:=⟨_,rfl⟩;rw[<-aDj] at iA b9;obtain⟨⟨F,I⟩,⟨af,aM⟩⟩:=e;simp only[aH] at iA;dsimp only;rcases fu:(mE x O==0)
  ·have bC:¬ x=O:=λh=>by rw[afT.2 h] at fu;cases fu
   rw[ae (λh=>bC h.1)];simp only[go_sem,go_sem_proc,l3,k4,eK,qf,ks,r7,aA,aC,cL,hb,h6,h7,hm,uH,b9,hQ,iA,d1,fu,aH,ak,bq,bne,dD];repeat' (first|refine aw ?_ ?_|fail)<;>intro h<;>simp only[h,go_sem,go_sem_proc,l3,k4,eK,qf,ks,r7,aA,aC,cL,hb,h6,h7,hm,uH,b9,hQ,iA,d1,fu,aH,ak,bq,bne,dD]
  ·have heq:x=O:=afT.1 (eq_of_beq fu);have yD:=iP x mX heq;have zg:=alg x (cu cs i) yD;rw[<-tu] at zg;have fU:(cu cs (i:Int)).map (λc=>av (ff (cu cs i) x c))=((cu cs (i:Int)).map λc=>ff (cu cs i) x c).map av:=by rw[lo];rfl
   rw[fU] at zg;have FK:=yD.own.len;have iR:∀y∈fk cs ps (i:Int),dm y:=λy ar=>px.lim y (Q5 ar)
   have kD:∀y∈(cu cs (i:Int)).map (λc=>ff (cu cs i) x c),dm y:=λy ar=>by
    obtain⟨c,G,rfl⟩:=dS.1 ar;exact yD.own.abd yD.sz G
   have eW:=Z9 cs ps (i:Int) hlen;have xp:=aBB ((fk cs ps (i:Int)).map av) (((cu cs (i:Int)).map λc=>ff (cu cs i) x c).map av) ⟨⟨by rw[ak];omega,λf aF=>by obtain⟨y,ar,rfl⟩:=dS.1 aF;exact lA (iR y ar)⟩,⟨by rw[ak,ak];omega,λf aF=>by obtain⟨y,ar,rfl⟩:=dS.1 aF;exact lA (kD y ar)⟩⟩
   have amz:=alX _ _ iR kD;generalize (fk cs ps (i:Int)).map av=aDk at *;generalize (((cu cs (i:Int)).map λc=>ff (cu cs i) x c).map av)=aDl at *;simp only[aH] at zg;rcases uo:kt aDk aDl
   ·rw[uo] at xp;rw[ae (λh=>by rw[amz.2 h.2] at uo;cases uo)];simp only[go_sem,go_sem_proc,l3,k4,eK,qf,ks,r7,aA,aC,cL,hb,h6,h7,hm,uH,b9,hQ,iA,IY,zg,xp,d1,fu,aH,ak,bq,bne,beq_self_eq_true,c8,dD];repeat' (first|refine aw ?_ ?_|fail)<;>intro h<;>simp only[h,go_sem,go_sem_proc,l3,k4,eK,qf,ks,r7,aA,aC,cL,hb,h6,h7,hm,uH,b9,hQ,iA,IY,zg,xp,d1,fu,aH,ak,bq,bne,beq_self_eq_true,c8,dD]
   ·rw[uo] at xp;rw[ad ⟨heq,amz.1 uo⟩];simp only[go_sem,go_sem_proc,l3,k4,eK,qf,ks,r7,aA,aC,cL,hb,h6,h7,hm,uH,b9,hQ,iA,IY,zg,xp,d1,fu,aH,ak,bq,bne,beq_self_eq_true,c8,dD];repeat' (first|refine aw ?_ ?_|fail)<;>intro h<;>simp only[h,go_sem,go_sem_proc,l3,k4,eK,qf,ks,r7,aA,aC,cL,hb,h6,h7,hm,uH,b9,hQ,iA,IY,zg,xp,d1,fu,aH,ak,bq,bne,beq_self_eq_true,c8,dD]
theorem amA:∀{a b:List Int},a.Pairwise (·<·)->b.Pairwise (·<·)->(∀x,x∈a↔x∈b)->a=b
 | [],[],_,_,_=>rfl
 | [],y::b,_,_,h=>by have:=(h y).2 (by simp);cases this
 |x::a,[],_,_,h=>by have:=(h x).1 (by simp);cases this
 |x::a,y::b,aN,ah,h=>by
  have Rx:=E8.1 aN;have hX:=E8.1 ah
  have mn:x=y:=by
   have F:=(h x).1 (by simp);have I:=(h y).2 (by simp);rcases hE.1 F with F|F
   ·exact F
   ·rcases hE.1 I with I|I
    ·exact I.symm
    ·have:=Rx.1 y I;have:=hX.1 x F;omega
  subst mn;rw[amA Rx.2 hX.2 λz=>?_]
  constructor
  ·intro aS;have:=(h z).1 (gX _ aS);rcases hE.1 this with F|F
   ·have:=Rx.1 z aS;omega
   ·exact F
  ·intro aS;have:=(h z).2 (gX _ aS);rcases hE.1 this with F|F
   ·have:=hX.1 z aS;omega
   ·exact F
theorem aDm (cs:List ao)(ps:List Rat)(n:Nat):(gw cs ps n).Pairwise (·<·)/\∀x,x∈gw cs ps n->∃i:Nat,x=(i:Int)/\i<n:=by
 induction n with
 |zero=>exact⟨List.Pairwise.nil,λx h=>by cases h⟩
 |succ n ax =>
  obtain⟨F,I⟩:=ax;rw[amn]
  by_cases aG:nA cs ps (n:Int)<10
  ·rw[ad aG];refine⟨abm.2 ⟨F,List.pairwise_singleton _ _,λa aN b ah=>?_⟩,λx O=>?_⟩
   ·obtain⟨i,rfl,M⟩:=I a aN;rw[tP.1 ah];omega
   ·rcases List.mem_append.1 O with O|O
    ·obtain⟨i,e,M⟩:=I x O;exact⟨i,e,by omega⟩
    ·exact⟨n,tP.1 O,by omega⟩
  ·rw[ae aG,fJ];exact⟨F,λx O=>by obtain⟨i,e,M⟩:=I x O;exact⟨i,e,by omega⟩⟩
structure amB (E:List Int) (cs:List ao) (ps:List Rat) (fl:List (List Int)):Prop where
 xE:j7 E cs ps
 len:(D fl)<=1000
 ne:∀r∈fl,r≠[]/\r.Pairwise (·<·)
 names:(D fl.flatten)<=12
 mem:∀x,x∈fl.flatten↔x∈gw cs ps (D E)
theorem aDn {α:Type}(l:List α)(p q:α->Bool):(l.filter λx=>p x||q x).length<=(l.filter p).length+(l.filter q).length:=by
 induction l with
 |nil=>simp
 |cons a l ax =>
  simp only[List.filter_cons]
  cases p a<;>cases q a<;>simp<;>omega
theorem aDo (n:Nat)(z:Int)(b:Bool):((dP n).filter λk:Nat=>(z==(k:Int))&&b).length<=1:=by
 induction n with
 |zero=>simp
 |succ n ax =>
  rw[nx,rT,fE]
  by_cases h:((z==(n:Int))&&b)=true
  ·have al:(dP n).filter (λk:Nat=>(z==(k:Int))&&b)=[]:=by
    rw[HX];intro k Q I;simp only[ec,beq_iff_eq] at h I;have:=gV.1 Q;omega
   have af:=od (λk:Nat=>(z==(k:Int))&&b) [n];rw[al]
   simpa using af
  ·have af:[n].filter (λk:Nat=>(z==(k:Int))&&b)=[]:=by
    rw[HX];intro k Q;rw[tP.1 Q];exact h
   rw[af]
   simpa using ax
theorem aDp (l:List ao):Sl l 10<=D l:=by
 unfold Sl
 induction l with
 |nil =>
  have:(dP 10).filter (y1 [])=[]:=by rw[HX];intro k _;simp[y1]
  rw[this];exact bW _
 |cons c l ax =>
  have e:(λk=>y1 (c::l) k)=λk:Nat=>((c.2.2.1==(k:Int))&&decide (c.2.2.2>0))||y1 l k:=by
   funext k
   unfold y1;rw[List.any_cons]
  have F:=aDn (dP 10) (λk:Nat=>(c.2.2.1==(k:Int))&&decide (c.2.2.2>0)) (y1 l);have I:=aDo 10 c.2.2.1 (decide (c.2.2.2>0));have aC:(dP 10).filter (y1 (c::l))=(dP 10).filter λk:Nat=>((c.2.2.1==(k:Int))&&decide (c.2.2.2>0))||y1 l k:=by rw[<-e]
  rw[aC,hV];omega
theorem aDq (cs:List ao)(n:Nat):fe n (λi=>(cu cs i).length)<=D cs:=by
 induction cs with
 |nil=>exact Nat.le_of_eq (QI λi _=>rfl)
 |cons c cs ax =>
  have e:fe n (λi=>(cu (c::cs) i).length)=fe n (λi=>if c.1=(i:Int) then 1 else 0)+fe n λi=>(cu cs i).length:=by
   rw[<-QH];refine L0 λi _=>?_;unfold cu
   by_cases h:c.1=(i:Int)
   ·rw[ux (by simpa using h),ad h,hV];omega
   ·rw[vP (by simpa using h),ae h];omega
  have F:fe n (λi=>if c.1=(i:Int) then 1 else 0)<=1:=QJ λi j M aj=>by omega
  rw[e,hV];omega
theorem aDr {n:Nat}{l:List Nat}(h:∀x∈l,x<n):(D l)<=fe n λi=>l.count i:=by
 induction l with
 |nil=>exact fg _
 |cons a l ax =>
  have ax:=ax λx O=>h x (gX _ O);have aN:=h a gn
  have e:fe n (λi=>(a::l).count i)=fe n (λi=>l.count i)+fe n λi=>if i=a then 1 else 0:=by
   rw[<-QH];refine L0 λi _=>?_;rw[List.count_cons]
   by_cases M:i=a
   ·subst M;rw[ad rfl,ad (by simp)]
   ·rw[ae M,ae (by simpa using λh=>M h.symm)]
  have F:1<=fe n λi=>if i=a then 1 else 0:=by
   have:=ahI (N:=n) (λi=>if i=a then 1 else 0) aN;rw[ad rfl] at this;omega
  rw[e,hV];omega
def y3 (E:List Int)(cs:List ao):List (List Int):=(aB E cs).iU.map λr=>r.map λi:Nat=>(i:Int)
theorem amC (E:List Int)(cs:List ao):(y3 E cs).flatten=(aB E cs).iU.flatten.map λi:Nat=>(i:Int):=by
 unfold y3;rw[List.map_flatten]
def hB (E:List Int)(cs:List ao):List Rat:=cs.map λc=>ff cs ((aB E cs).cF c.1.toNat) c
theorem abN (E:List Int)(cs:List ao):(hB E cs).map av=oV E cs:=by
 unfold hB oV;rw[lo];rfl
theorem abO {E:List Int}{cs:List ao}{i:Nat}:fk cs (hB E cs) i=AV E cs i:=by
 unfold hB AV;rw[ajT];refine jM λc G=>?_;rw[(l5.1 G).2,lu]
theorem Sn {E:List Int}{cs:List ao}(U:e2 E cs):j7 E cs (hB E cs):=by
 have bk:=U.n5;have ji:=U.sZ;refine⟨by unfold hB;rw[ak],by omega,by omega,λi=>U.own i,λx O=>?_⟩
 obtain⟨c,G,rfl⟩:=dS.1 O;have F:=((hy.1 U.right).2.2.2 c G)
 refine j4 (aCg (i:=c.1.toNat) U (dS.2 ⟨c,l5.2 ⟨G,by omega⟩,rfl⟩)) (by omega)
theorem abP {E:List Int}{cs:List ao}(U:e2 E cs){i:Nat}(M:i<D E):nA cs (hB E cs) i<10↔(aB E cs).cF i<(aB E cs).br i 10:=by
 unfold nA;rw[abO];exact aCh U M
theorem Sp {E:List Int}{cs:List ao}(U:e2 E cs):amB E cs (hB E cs) (y3 E cs):=by
 obtain⟨bC,Hb⟩:=axp U.ok;have ki:(aB E cs).n=D E:=rfl;have aK:=U.n5
 have ay:∀x∈(aB E cs).iU.flatten,x<D E:=λx O=>by
  obtain⟨l,aq,tf⟩:=List.mem_flatten.1 O;exact (bC l aq).2.2 x tf
 have F:=aDr ay
 have I:fe (D E) (λi=>(aB E cs).iU.flatten.count i)<=fe (D E) λi=>(cu cs i).length:=av6 λi M=>by
  have ca:=(Hb i M).1;have c7:=aCS U i 10;have ey:=aDp (cu cs i);omega
 have af:=aDq cs (D E);have aM:=U.sZ
 have kA:(aB E cs).iU.length<=60:=by
  have:=abf (aB E cs) (10*(aB E cs).n) λ_=>10;unfold Day.iU;omega
 refine⟨Sn U,by unfold y3;rw[ak];omega,λr ab=>?_,?_,λx=>?_⟩
 ·obtain⟨l,aq,rfl⟩:=dS.1 ab;obtain⟨ca,c7,-⟩:=bC l aq;exact⟨by simpa using ca,List.pairwise_map.2 (c7.imp λh=>by omega)⟩
 ·rw[amC,ak];omega
 ·rw[amC];unfold gw IP;rw[dS,dS]
  constructor
  ·rintro⟨i,M,rfl⟩;refine⟨i,rP.2 ⟨gV.2 (ay i M),iw ?_⟩,rfl⟩;exact (abP U (ay i M)).2 (((Hb i (ay i M)).2).2 (amD.2 M))
  ·rintro⟨i,M,rfl⟩;obtain⟨ca,c7⟩:=rP.1 M;have ca:=gV.1 ca;exact⟨i,amD.1 (((Hb i ca).2).1 ((abP U ca).1 (of_decide_eq_true c7))),rfl⟩
theorem aDs (E:List Int)(cs:List ao):(y3 E cs).map nz=(aB E cs).iU.map r5:=by
 unfold y3;rw[lo];refine jM λr _=>?_;unfold r5;show nz (r.map λi:Nat=>(i:Int))=_;unfold nz;rw[lo]
 rfl
end Go.Mini
namespace Go.Mini
open Classical
theorem aDt {d:Day}(aa:d.dj){C:Nat->Prop}(F:∃i,C i)(I:∀i,C i->i<d.n/\d.cF i<d.br i 10):¬ d.closed d.jq C:=by
 intro af;obtain⟨g,M,yI,hle⟩:=H0 aa;have sn:∀i,C i->i<d.n/\d.jq i<10:=λi h=>⟨(I i h).1,((EG aa).2 i (I i h).1).2 (I i h).2⟩;have gg:=QQ aa
 have k:=M.YR aa F sn af (d.q d.jq d.cF) (λk=>d.cF k-d.br k (d.jq k)) (λk Q _=>by have:=gg k Q;grind) λc G _=>by
  have bQ:=aa.az c G;have hw:=aa.pq G;have aK:=gg c.az bQ;unfold Day.q
  by_cases eY:c.bm<d.jq c.az
  ·rw[ad eY,ad eY,ae (λh=>by have:=h.2;omega)];grind
  ·rw[ae eY,ae eY]
   by_cases eh:c.bm=d.jq c.az
   ·rw[ad eh,ad eh]
    by_cases fN:C c.az
    ·rw[ad ⟨fN,eh⟩];unfold Day.cap;rw[ad fN,eh,p3 (by grind)];have e:d.br c.az (d.jq c.az)-d.br c.az (d.jq c.az)=0:=by grind
     rw[e,p3 gd,nu,vM];exact gd
    ·rw[ae (λh=>fN h.1),oQ];unfold Day.cap;rw[ae fN];exact Av hw (Qm (by have:=hle c.az bQ;grind))
   ·rw[ae eh,ae eh,ae (λh=>eh h.2)];grind
 have aA:d.fx C (d.e1 (d.q d.jq d.cF))=d.fx C d.cF:=Day.Aw λi M _=>(yI i M).symm;have aC:(d.fx C λi=>d.br i (d.jq i)+(d.cF i-d.br i (d.jq i)))=d.fx C d.cF:=Day.Aw λi _ _=>by grind
 rw[aA,aC] at k;grind
end Go.Mini
namespace Go.Mini
open Go
def m6 (f:Nat->Int):Nat->Int
 |0=>0
 |k+1=>if m6 f k=0 then f k else m6 f k
theorem amE {f:Nat->Int}{k:Nat}(h:m6 f k=0)(Q:f k≠0):∀{n:Nat},k<n->m6 f n=f k
 |0,h=>by omega
 |n+1,aK=>by
  by_cases e:k=n
  ·subst e;rw[m6,ad h]
  ·have:=amE h Q (n:=n) (by omega);rw[m6,this,ae Q]
theorem aDu {f:Nat->Int}{n:Nat}(h:m6 f n=0):∀i,i<n->f i=0:=by
 induction n with
 |zero=>intro i M;omega
 |succ n ax =>
  rw[m6] at h
  split at h
  ·rename_i al;intro i M
   by_cases e:i=n
   ·subst e;exact h
   ·exact ax al i (by omega)
  ·rename_i al;exact absurd h al
theorem aDv {f:Nat->Int}{n:Nat}(h:∀i,i<n->f i=0):m6 f n=0:=by
 induction n with
 |zero=>rfl
 |succ n ax=>rw[m6,ad (ax λi M=>h i (by omega))];exact h n (by omega)
structure aDw (E:List Int) (cs:List ao) (aG ps:List Rat) (fl:List (List Int)):Prop where
 n:(D E)<=1000000
 c:(D cs)<=1000000
 h:e6 (aG.map av)
 p:e6 (ps.map av)
 sum:jr E cs (aG.map av) (ps.map av)=true->∀i,i<(D E)->Fb E cs aG ps i
 Qs:jr E cs (aG.map av) (ps.map av)=true->(∀i,i<(D E)->l9 E cs aG ps i=0)->amB E cs ps fl
theorem aDx {l:List ao}{q:Nat->Rat}{k i:Nat}{c:ao}(M:i<k)(G:l[i]?=some c)(aG:q i<(c.2.2.2:Rat)):h5 l q k<=c.2.2.1:=by
 induction k with
 |zero=>omega
 |succ k ax =>
  have e:h5 l q (k+1)=match l[k]? with|some c=>if q k<(c.2.2.2:Rat) then min (h5 l q k) c.2.2.1 else h5 l q k|none=>h5 l q k:=rfl
  rw[e]
  by_cases he:i=k
  ·subst he;rw[G];dsimp only;rw[ad aG];exact Int.min_le_right ..
  ·have ax:=ax (by omega)
   split
   ·split
    ·exact Int.le_trans (Int.min_le_left ..) ax
    ·exact ax
   ·exact ax
theorem aDy {l:List ao}{q:Nat->Rat}{k:Nat}(h:h5 l q k<10):∃i,i<k/\∃c,l[i]?=some c/\q i<(c.2.2.2:Rat)/\h5 l q k=c.2.2.1:=by
 induction k with
 |zero=>exact absurd h (show ¬ (10:Int)<10 by decide)
 |succ k ax =>
  have e:h5 l q (k+1)=match l[k]? with|some c=>if q k<(c.2.2.2:Rat) then min (h5 l q k) c.2.2.1 else h5 l q k|none=>h5 l q k:=rfl
  rw[e] at h ⊢
  cases Q:l[k]? with
  |none =>
   rw[Q] at h;obtain⟨i,F,I⟩:=ax h;exact⟨i,by omega,I⟩
  |some c =>
   rw[Q] at h;dsimp only at h ⊢
   by_cases aG:q k<(c.2.2.2:Rat)
   ·rw[ad aG] at h ⊢
    by_cases hm:h5 l q k<c.2.2.1
    ·have aC:min (h5 l q k) c.2.2.1=h5 l q k:=Int.min_eq_left (by omega);rw[aC] at h ⊢;obtain⟨i,F,I⟩:=ax h;exact⟨i,by omega,I⟩
    ·exact⟨k,by omega,c,Q,aG,Int.min_eq_right (by omega)⟩
   ·rw[ae aG] at h ⊢;obtain⟨i,F,I⟩:=ax h;exact⟨i,by omega,I⟩
theorem amF {E:List Int}{cs:List ao}(U:e2 E cs){ps:List Rat}{x:Nat->Rat}{i:Nat}(M:i<D E)(fW:fk cs ps i=(cu cs i).map λc=>ff cs (x i) c){r:Nat}(ab:r<10)(fQ:(aB E cs).br i r<=x i)(sC:x i<(aB E cs).br i (r+1)):nA cs ps i<10/\qb cs ps i=(r:Int):=by
 have aa:=U.ok
 have lG:∀c∈cu cs i,ff cs (x i) c=(aB E cs).ez x (cv c):=λc G=>by
  obtain⟨F,I⟩:=l5.1 G;rw[Mg U.right _ F,I,lu]
 have iz:∀(k:Nat) (c:ao),(cu cs i)[k]?=some c->(fk cs ps i).getD k 0=(aB E cs).ez x (cv c):=λk c G=>by
  rw[<-lG c (ep G),fW,en,bq,G];rfl
 have cJ:0<(aB E cs).S i r:=by
  rw[(aB E cs).p2] at sC;grind
 obtain⟨b,ah,df,eD,j3⟩:=(aja aa i _).1 cJ;obtain⟨c',lN,rfl⟩:=dS.1 ah;have aLX:=(hy.1 U.right).2.2.2 c' lN;have aLY:c'.1.toNat=i:=df;have aLZ:c'.2.2.1.toNat=r:=eD;have nT:c'∈cu cs i:=l5.2 ⟨lN,by omega⟩
 obtain⟨k',LB,A9⟩:=JL nT;have M6:(cu cs i)[k']?=some c':=by rw[bx LB,A9]
 have ay:(fk cs ps i).getD k' 0<(c'.2.2.2:Rat):=by
  rw[iz k' c' M6];show (aB E cs).ez x (cv c')<(cv c').am;unfold Day.ez;rw[df,eD,ae (by grind)];have hw:=aa.HF ah j3
  have aL0:(aB E cs).w (cv c')*(aB E cs).S i r=(cv c').am:=by
   have h:=Day.Au (d:=aB E cs) (c:=cv c') (by rw[df,eD];exact cJ);rw[df,eD] at h;exact h
  have bI:=Rat.mul_lt_mul_of_pos_left (show x i-(aB E cs).br i r<(aB E cs).S i r by rw[(aB E cs).p2] at sC;grind) hw;rw[p3 (by grind)];grind
 have I:nA cs ps i<=c'.2.2.1:=aDx (q:=λk=>(fk cs ps i).getD k 0) LB M6 ay;have jv:nA cs ps i<10:=by omega
 refine⟨jv,?_⟩;unfold qb;rw[ad jv];unfold nA at jv I ⊢;obtain⟨k,Q,c,G,aG,he⟩:=aDy jv;have hm:=l5.1 (ep G);have lj:=(hy.1 U.right).2.2.2 c hm.1;have bQ:(cv c).az=i:=by show c.1.toNat=i;omega
 rw[iz k c G] at aG
 have F:¬ (cv c).bm<r:=λay=>by
  have lG:(aB E cs).ez x (cv c)=(cv c).am:=by
   unfold Day.ez;rw[ad];rw[bQ];have:=aa.uh i (show (cv c).bm+1<=r from ay);grind
  rw[lG] at aG;exact absurd aG Rat.lt_irrefl
 have aA:(cv c).bm=c.2.2.1.toNat:=rfl;omega
theorem aDz {E:List Int}{cs:List ao}(U:e2 E cs){i:Nat}(M:i<D E)(h:(aB E cs).cF i<(aB E cs).br i 10):qb cs (hB E cs) i=((aB E cs).jq i:Int):=by
 have aa:=U.ok;obtain⟨g,hinv,-,hle⟩:=H0 aa;have aF:=((EG aa).2 i M).2 h
 exact (amF U (x:=(aB E cs).cF) M abO aF (QQ aa i M) (by
  have F:=hinv.M i M aF;have I:=hle i M;grind)).2
theorem abQ {cs:List ao}{ps:List Rat}{set L:List Int}{x:Int}:x∈stay cs ps set L↔x∈L/\oh cs ps set x=false:=by
 unfold stay;rw[rP,pj]
theorem amG {cs:List ao}{ps:List Rat}{s:List Int}{x:Int}:∀k,x∈hc cs ps s k->x∈s
 |0,h=>h
 |k+1,h=>amG k (abQ.1 h).1
theorem amH (cs:List ao)(ps:List Rat)(s:List Int):∀k,stay cs ps (hc cs ps s k) (hc cs ps s k)=hc cs ps s k\/(hc cs ps s k).length+k<=D s
 |0 => .inr (bW _)
 |k+1=>by
  have e:hc cs ps s (k+1)=stay cs ps (hc cs ps s k) (hc cs ps s k):=rfl;rcases dA (stay cs ps (hc cs ps s k) (hc cs ps s k)=hc cs ps s k) with h|h
  ·left;rw[e,h];exact h
  ·rcases amH cs ps s k with F|F
   ·exact absurd F h
   ·right
    have I:=amv cs ps (hc cs ps s k) (hc cs ps s k);have af:(stay cs ps (hc cs ps s k) (hc cs ps s k)).length≠(hc cs ps s k).length:=λaf=>h (List.Sublist.eq_of_length List.filter_sublist af);rw[e];omega
theorem abR {cs:List ao}{ps:List Rat}{s C:List Int}(U:∀x∈C,x∈s)(h:∀x∈C,oh cs ps C x=false):∀k,∀x∈C,x∈hc cs ps s k
 |0,x,O=>U x O
 |k+1,x,O=>by
  refine abQ.2 ⟨abR U h k x O,?_⟩;have F:=h x O;unfold oh at F ⊢;rw[ug] at F ⊢;intro c G aq;refine F c G ?_;simp only[ec,pj,decide_eq_false_iff_not] at aq ⊢;exact⟨aq.1,aq.2.1,aq.2.2.1,λhm=>aq.2.2.2 (abR U h k _ hm)⟩
section
variable {E:List Int} {cs:List ao} (U:e2 E cs)
include U
theorem aDA:(hc cs (hB E cs) (gw cs (hB E cs) (D E)) (D E)).length=0:=by
 have fZ:∀x,x∈gw cs (hB E cs) (D E)->∃i:Nat,x=(i:Int)/\i<D E/\(aB E cs).cF i<(aB E cs).br i 10:=λx O=>by
  unfold gw IP at O;obtain⟨i,M,rfl⟩:=dS.1 O;obtain⟨ca,c7⟩:=rP.1 M;have ca:=gV.1 ca;exact⟨i,rfl,ca,(abP U ca).1 (of_decide_eq_true c7)⟩
 have JK:=Sg cs (hB E cs) (D E);have jj:=λx=>amG (cs:=cs) (ps:=hB E cs) (s:=gw cs (hB E cs) (D E)) (x:=x) (D E);rcases amH cs (hB E cs) (gw cs (hB E cs) (D E)) (D E) with h|h
 ·generalize hc cs (hB E cs) (gw cs (hB E cs) (D E)) (D E)=C at *;rcases C with _|⟨y,C⟩
  ·rfl
  refine absurd ?_ (aDt U.ok (C:=λi=>(i:Int)∈y::C) ?_ ?_)
  ·intro b ah fN hk p4;obtain⟨c,G,rfl⟩:=dS.1 ah;have lj:=(hy.1 U.right).2.2.2 c G;have bQ:(((cv c).az:Nat):Int)=c.1:=by show ((c.1.toNat:Nat):Int)=c.1;omega
   rw[bQ] at fN;have Q:c.1∈stay cs (hB E cs) (y::C) (y::C):=by rw[h];exact fN
   have aq:=(abQ.1 Q).2;obtain⟨i,aA,aC,bZ⟩:=fZ c.1 (jj _ fN);have he:=aDz U aC bZ;have M:(cv c).az=i:=by omega
   rw[M] at hk;unfold oh at aq;rw[ug] at aq;have aq:=aq c G;have aDB:(0:Rat)<(c.2.2.2:Rat):=p4;have aDC:0<c.2.2.2:=by exact_mod_cast aDB
   have aL1:c.2.2.1.toNat=(aB E cs).jq i:=hk;have aS:c.2.2.1=qb cs (hB E cs) c.1:=by rw[aA,he];omega
   have r1:c.2.1∈y::C:=Decidable.byContradiction λgg=>aq (by
    simp only[beq_self_eq_true,gT,ec,beq_iff_eq,decide_eq_true_eq,pj,decide_eq_false_iff_not];exact⟨aS,aDC,gg⟩)
   obtain⟨j,yR,u1,aAF⟩:=fZ c.2.1 (jj _ r1);exact⟨j,yR,by show (j:Int)∈y::C;rw[<-yR];exact r1⟩
  ·obtain⟨i,aA,aC,bZ⟩:=fZ y (jj y (by simp));exact⟨i,by show (i:Int)∈y::C;rw[<-aA];simp⟩
  ·intro i M;obtain⟨j,aA,aC,bZ⟩:=fZ i (jj i M);obtain rfl:i=j:=by omega
   exact⟨aC,bZ⟩
 ·omega
def q1 (E:List Int)(cs:List ao):List Rat:=(dP (D E)).map (aB E cs).cF
omit U in
theorem amI:(q1 E cs).map av=lI E cs:=rfl
omit U in
theorem abS {i:Nat}(M:i<D E):(q1 E cs).getD i 0=(aB E cs).cF i:=AQ (aB E cs).cF 0 M
omit U in
theorem amJ (z:Int)(i:Int)(aO:ao->Rat)(l:List ao)(a:Option Rat):(l.zip (l.map aO)).foldl (y2 i) a=l.foldl (λa c=>if c.2.1=i then a.bind λs=>if mD s (aO c)=true then some (s+aO c) else none else a) a:=by
 induction l generalizing a with
 |nil=>rfl
 |cons c l ax=>rw[eE,List.zip_cons_cons,FG,FG,ax];rfl
theorem aDD {i:Nat}(M:i<D E):q0 (E.getD i 0) i (cs.zip (hB E cs))=some ((aB E cs).cF i):=by
 have h:=alH U i M;unfold q0 hB;rw[amJ (E.getD i 0)];exact h
omit U in
theorem amK {aG ps:List Rat}(ab:iF E cs=true)(dY:(D aG)=D E)(ai:(D ps)=D cs)(iO:∀x∈aG,0<=x/\dm x)(ju:∀x∈ps,0<=x/\dm x):jr E cs (aG.map av) (ps.map av)=true:=by
 obtain⟨F,I,af,aM⟩:=hy.1 ab;unfold iF at ab;simp only[ec] at ab;obtain⟨⟨-,Sq⟩,IJ⟩:=ab
 have r2:∀l:List Rat,(∀x∈l,0<=x/\dm x)->(l.map av).all qg=true:=λl aq=>by
  rw[jc];intro f aF;obtain⟨x,O,rfl⟩:=dS.1 aF;obtain⟨ca,c7⟩:=aq x O;unfold qg;rw[EC c7,gT];have:decide (x<0)=false:=j9 (by grind);rw[<-Q0] at this;have ey:=of_decide_eq_false this;exact iw (show x.num.sign>=0 by omega)
 unfold jr;have a3:E.all gj=true:=Sq;have df:decide ((D E:Int)>60)=false:=dk;have eD:decide ((D cs:Int)>2000)=false:=dk;rw[ak,ak,dY,ai,a3,IJ,r2 aG iO,r2 ps ju,df,eD];simp
theorem aDE:jr E cs ((q1 E cs).map av) ((hB E cs).map av)=true:=by
 refine amK U.right (by unfold q1;simp) (by unfold hB;simp) (λx O=>?_) λx O=>?_
 ·obtain⟨i,M,rfl⟩:=dS.1 O;have kf:=gV.1 M;exact⟨H2 U.ok kf,j4 (EH U kf) (by omega)⟩
 ·obtain⟨c,G,rfl⟩:=dS.1 O;rw[<-Mg U.right _ G];exact⟨U.ok.YT _ (pt G),j4 (ZI U G) (by omega)⟩
theorem aDF {i:Nat}(M:i<D E):Fb E cs (q1 E cs) (hB E cs) i:=by
 refine⟨Sn U,M,by unfold q1;simp,λx O=>?_,?_,λx O he=>?_⟩
 ·obtain⟨j,aj,rfl⟩:=dS.1 O;exact j4 (EH U (gV.1 aj)) (by omega)
 ·have:=U.E i
  constructor<;>omega
 ·rw[he,abS M];exact⟨U.own i,H2 U.ok M,(EH U M).mono (by omega)⟩
theorem aDG {i:Nat}(M:i<D E):l9 E cs (q1 E cs) (hB E cs) i=0:=by
 unfold l9;rw[aDD U M];dsimp only;rw[ad];refine⟨(abS M).symm,?_⟩;rw[abO];unfold AV;exact jM λc G=>(ZT (l5.1 G).2).symm
theorem amL:aDw E cs (q1 E cs) (hB E cs) (y3 E cs):=by
 have aK:=U.n5;have ji:=U.sZ
 have I:e6 ((hB E cs).map av):=by
  refine⟨by unfold hB;simp;omega,λf aF=>?_⟩
  obtain⟨x,O,rfl⟩:=dS.1 aF;exact lA ((Sn U).lim x O)
 exact⟨by omega,by omega,Sa U,I,λ_ i M=>aDF U M,λ_ _=>Sp U⟩
end







theorem amM {n:Int}(h:dB n):PO [.int .i64 n,.int .i64 1]=some (.same (.cI [.agg (aH (av (n:Rat))),.int .i64 0])):=by
 have:=at2 n 1 ⟨h,QW⟩;rw[QP h] at this;exact this
def abT:bT:=cn 78 3 [.t 6] (X [dH 5 369005 2,cH 6 false] (.seq (X [H 10 0,cm 11 10,bn 12 .gtr 11 6,H 13 12,⟨some 14,some (13,false),.cQ (.t 1)⟩,⟨some 15,some (13,false),.len (.t 14)⟩,⟨some 16,some (13,false),.bin .gtr (.t 15) (.c (au 12))⟩,eu 17 13 16,H 18 17,⟨some 19,some (18,false),.dQ 0 (.t 5)⟩,⟨some 20,some (18,false),.load 1 false (.t 19)⟩,⟨some 21,some (18,false),.len (.t 20)⟩,⟨some 22,some (18,false),.bin .gtr (.t 21) (.c (au 8))⟩,eu 23 18 22,H 24 23,⟨some 25,some (24,false),.dQ 1 (.t 5)⟩,⟨some 26,some (24,false),.load 1 false (.t 25)⟩,⟨some 27,some (24,false),.len (.t 26)⟩,⟨some 28,some (24,false),.bin .gtr (.t 27) (.c (au 14))⟩,eu 29 24 28,H 30 29,⟨some 31,some (30,false),.dQ 2 (.t 5)⟩,⟨some 32,some (30,false),.load 1 false (.t 31)⟩,⟨some 33,some (30,false),.len (.t 32)⟩,⟨some 34,some (30,false),.bin .gtr (.t 33) (.c (au 12))⟩,eu 35 30 34] (a7 35 (X [cH 6 false] .ret) .skip)) (.seq (X [bA 7 0] (.block 0 (.loop  (.seq (X [H 36 7,bl 37 0 5,aU 38 1 37,cm 39 38,bB 40 .lss 36 39] (a7 40 .skip (.exit 0))) (.seq (.block 1 (X [bl 43 0 5,aU 44 1 43,H 45 7,b2 46 4 44 45,bw 47 4 46,(aD 48 (.call Oa [(.t 47),(.c (au 8))])),fs 49 48] (a7 49 (X [cH 6 false] .ret) .skip))) (.ops [H 41 7,bn 42 .add 41 1,H 7 42])))))) (.seq (X [bA 8 0] (.block 2 (.loop  (.seq (X [H 50 8,bl 51 1 5,aU 52 1 51,cm 53 52,bB 54 .lss 50 53] (a7 54 .skip (.exit 2))) (.seq (.block 3 (X [bl 57 1 5,aU 58 1 57,H 59 8,b2 60 4 58 59,bw 61 4 60,(aD 62 (.call Oa [(.t 61),(.c (au 8))])),fs 63 62] (a7 63 (X [cH 6 false] .ret) .skip))) (.ops [H 55 8,bn 56 .add 55 1,H 8 56])))))) (.seq (X [bA 9 0] (.block 4 (.loop  (.seq (X [H 64 9,bl 65 2 5,aU 66 1 65,cm 67 66,bB 68 .lss 64 67] (a7 68 .skip (.exit 4))) (.seq (.block 5 (X [bl 71 2 5,aU 72 1 71,H 73 9,b2 74 1 72 73,aU 75 1 74,cm 76 75,bn 77 .gtr 76 12] (a7 77 (X [cH 6 false] .ret) .skip))) (.ops [H 69 9,bn 70 .add 69 1,H 9 70])))))) (X [cH 6 true] .ret))))))
def abU:bT:=cn 26 2 [.t 4] (X [cH 4 false] (.seq (X [H 6 0,cm 7 6,H 8 1,cm 9 8,bB 10 .neq 7 9] (a7 10 (X [cH 4 false] .ret) .skip)) (.seq (X [bA 5 0] (.block 0 (.loop  (.seq (X [H 11 5,H 12 0,cm 13 12,bB 14 .lss 11 13] (a7 14 .skip (.exit 0))) (.seq (.block 1 (ga [H 17 0,H 18 5,b2 19 1 17 18,aU 20 1 19,H 21 1,H 22 5,b2 23 1 21 22,aU 24 1 23,bB 25 .neq 20 24] DI (a7 25 (X [cH 4 false] .ret) .skip))) (.ops [H 15 5,bn 16 .add 15 1,H 5 16])))))) (X [cH 4 true] .ret))))
def abV:bT:=cn 69 3 [.t 6] (X [dH 5 364005 2,cH 6 false] (X [(aD 10 (.call Uz [])),H 7 10] (.seq (X [H 11 0,H 12 1,bw 13 3 5,(Gi 14 UA 11 12 13),fs 15 14] (a7 15 (X [H 16 7,H 6 16] .ret) .skip)) (X [H 18 0,H 19 1,(cE 20 Ud 18 19),H 17 20,bN 21 0 17,bN 22 1 17,(aD 8 (.alloc 364008 [.nil,.nil,.nil])),bu 3 8 21,H 9 22] (.seq (X [H 23 9,bn 24 .neq 23 0] (a7 24 (X [H 25 7,H 6 25] .ret) .skip)) (.seq (X [bl 26 0 8,aU 27 1 26,cm 28 27,H 29 0,cm 30 29,bB 31 .neq 28 30,H 32 31,⟨some 33,some (32,false),.dQ 1 (.t 8)⟩,⟨some 34,some (32,false),.load 1 false (.t 33)⟩,⟨some 35,some (32,false),.len (.t 34)⟩,⟨some 36,some (32,false),.cQ (.t 1)⟩,⟨some 37,some (32,false),.len (.t 36)⟩,⟨some 38,some (32,false),.bin .neq (.t 35) (.t 37)⟩,eu 39 32 38,H 40 39,⟨some 41,some (40,false),.cQ (.t 0)⟩,⟨some 42,some (40,false),.cQ (.t 1)⟩,⟨some 43,some (40,false),.load 3 true (.t 8)⟩,⟨some 44,some (40,false),.call zD [(.t 41),(.t 42),(.t 43)]⟩,⟨some 45,some (40,false),.bin .neq (.t 44) (.c (au 0))⟩,eu 46 40 45] (a7 46 (X [cH 6 false] .ret) .skip)) (.seq (X [H 47 0,H 48 1,bw 49 3 5,(Gi 50 zD 47 48 49),bn 51 .eql 50 0,H 52 51,⟨some 53,some (52,true),.dQ 0 (.t 5)⟩,⟨some 54,some (52,true),.load 1 false (.t 53)⟩,⟨some 55,some (52,true),.dQ 0 (.t 8)⟩,⟨some 56,some (52,true),.load 1 false (.t 55)⟩,⟨some 57,some (52,true),.call Oq [(.t 54),(.t 56)]⟩,⟨some 58,some (52,true),.un .not (.t 57)⟩,⟨some 59,some (52,true),.cQ (.t 58)⟩,⟨some 60,some (59,false),.dQ 1 (.t 5)⟩,⟨some 61,some (59,false),.load 1 false (.t 60)⟩,⟨some 62,some (59,false),.dQ 1 (.t 8)⟩,⟨some 63,some (59,false),.load 1 false (.t 62)⟩,⟨some 64,some (59,false),.call Oq [(.t 61),(.t 63)]⟩,⟨some 65,some (59,false),.un .not (.t 64)⟩,⟨some 66,some (52,true),.pick (.t 59) (.c (.J (.bool true))) (.t 65)⟩,gH 67 52 66] (a7 67 (X [cH 6 false] .ret) .skip)) (X [H 68 7,H 6 68] .ret))))))))
def abW:bT:=cn 54 0 [.t 0] (X [cH 0 false] (X [(aD 6 (.fc 368006 false [(au 0),(au 0)] 1 2 [(0,1,(.c (au 0))),(1,1,(.c (au 0)))])),H 1 6] (X [(aD 7 (.build [(au 0),(au 0),(au 0),(au 0)] [(0,1,(.c (au 1))),(1,1,(.c (au 0))),(3,1,(.c (au 5)))])),(aD 8 (.build [(au 0),(au 0),(au 0),(au 0)] [(0,1,(.c (au 0))),(1,1,(.c (au 1))),(3,1,(.c (au 5)))])),(aD 9 (.fc 368009 false [(au 0),(au 0),(au 0),(au 0),(au 0),(au 0),(au 0),(au 0)] 4 2 [(0,4,(.t 7)),(4,4,(.t 8))])),H 2 9] (X [(aD 10 (.call BC [(.c (au 5)),(.c (au 5))])),(aD 11 (.call BC [(.c (au 5)),(.c (au 5))])),(aD 12 (.build [.nil,.nil,.nil] [(0,1,(.t 10)),(1,1,(.t 11))])),(aD 3 (.alloc 368003 [.nil,.nil,.nil])),bu 3 3 12] (X [(aD 13 (.call BC [(.c (au 2)),(.c (au 2))])),(aD 14 (.call BC [(.c (au 2)),(.c (au 2))])),(aD 15 (.fc 368015 false [(au 0),(au 0)] 1 2 [(0,1,(.c (au 0))),(1,1,(.c (au 1)))])),(aD 16 (.fc 368016 false [.nil] 1 1 [(0,1,(.t 15))])),(aD 17 (.build [.nil,.nil,.nil] [(0,1,(.t 13)),(1,1,(.t 14)),(2,1,(.t 16))])),(aD 4 (.alloc 368004 [.nil,.nil,.nil])),bu 3 4 17] (X [(aD 18 (.call BC [(.c (au 5)),(.c (au 4))])),(aD 19 (.call BC [(.c (au 5)),(.c (au 5))])),(aD 20 (.build [.nil,.nil,.nil] [(0,1,(.t 18)),(1,1,(.t 19))])),(aD 5 (.alloc 368005 [.nil,.nil,.nil])),bu 3 5 20] (X [H 21 1,H 22 2,bw 23 3 3,(Gi 24 zD 21 22 23),bn 25 .eql 24 0,H 26 25,⟨some 27,some (26,true),.cQ (.t 1)⟩,⟨some 28,some (26,true),.cQ (.t 2)⟩,⟨some 29,some (26,true),.load 3 true (.t 4)⟩,⟨some 30,some (26,true),.call zD [(.t 27),(.t 28),(.t 29)]⟩,⟨some 31,some (26,true),.bin .eql (.t 30) (.c (au 24))⟩,gH 32 26 31,H 33 32,⟨some 34,some (33,true),.cQ (.t 1)⟩,⟨some 35,some (33,true),.cQ (.t 2)⟩,⟨some 36,some (33,true),.load 3 true (.t 5)⟩,⟨some 37,some (33,true),.call zD [(.t 34),(.t 35),(.t 36)]⟩,⟨some 38,some (33,true),.bin .eql (.t 37) (.c (au 24))⟩,gH 39 33 38,H 40 39,⟨some 41,some (40,true),.cQ (.t 1)⟩,⟨some 42,some (40,true),.cQ (.t 2)⟩,⟨some 43,some (40,true),.load 3 true (.t 4)⟩,⟨some 44,some (40,true),.call UC [(.t 41),(.t 42),(.t 43)]⟩,⟨some 45,some (40,true),.fc 368045 false [(au 0),(au 0)] 1 2 [(0,1,(.c (au 0))),(1,1,(.c (au 1)))]⟩,⟨some 46,some (40,true),.call UB [(.t 44),(.t 45)]⟩,gH 47 40 46,H 48 47,⟨some 49,some (48,true),.cQ (.t 1)⟩,⟨some 50,some (48,true),.load 3 true (.t 3)⟩,⟨some 51,some (48,true),.call zD [(.t 49),(.c .nil),(.t 50)]⟩,⟨some 52,some (48,true),.bin .eql (.t 51) (.c (au 1))⟩,gH 53 48 52,H 0 53] .ret)))))))
def abX:bT:=cn 22 2 [.t 4] (X [eM 4] (X [H 10 0,(aD 11 (.call Ob [(.t 10),(.c (au 1))])),H 9 11,bN 12 0 9,bN 13 1 9,(aD 5 (.alloc 378005 [(au 0),.nil,(au 0),.nil])),bu 4 5 12,H 6 13] (X [H 15 1,(aD 16 (.call Ob [(.t 15),(.c (au 1))])),H 14 16,bN 17 0 14,bN 18 1 14,(aD 7 (.alloc 378007 [(au 0),.nil,(au 0),.nil])),bu 4 7 17,H 8 18] (X [bw 19 4 5,bw 20 4 7,(aD 21 (.fc 378021 false [(au 0),.nil,(au 0),.nil,(au 0),.nil,(au 0),.nil] 4 2 [(0,4,(.t 19)),(4,4,(.t 20))])),H 4 21] .ret))))
def iI (hv pv:List a1)(fl:List (List Int)):List Data:=[.Y (hv.map aH),.Y (pv.map aH),.Y (fl.map nz)]
theorem amN {hv lh pv um:List a1}{fl AA:List (List Int)}(h:iI hv pv fl=iI lh um AA):hv=lh/\pv=um/\fl=AA:=by
 simp only[iI,bb,Data.Y.injEq,and_true] at h;exact⟨map_inj m0 _ _ h.1,map_inj m0 _ _ h.2.1,map_inj Z6 _ _ h.2.2⟩
def IZ (E:List Int)(cs:List ao)(hv pv:List a1)(fl:List (List Int)):Bool:=decide ((D E:Int)>6)||(decide ((D cs:Int)>12)||(decide ((D hv:Int)>8)||(decide ((D pv:Int)>14)||decide ((D fl:Int)>12))))
def xG (E:List Int)(cs:List ao)(hv pv:List a1)(fl:List (List Int)):Bool:=!IZ E cs hv pv fl&&((hv.all λf=>pU f 8)&&((pv.all λf=>pU f 8)&&fl.all λr => !decide ((D r:Int)>12)))
theorem Sr {α:Type}{p:α->Bool}{l:List α}{i:Nat}{x:α}(O:l[i]?=some x)(h:p x=false):l.all p=false:=by
 rw[List.all_eq_false];exact⟨x,ep O,by rw[h];decide⟩
abbrev Ss:(List Int)×(List ao)×(List a1)×(List a1)×(List (List Int))->List Data:=λ(E,cs,hv,pv,fl)=>[.Y (E.map ag),.Y (cs.map cx),.agg (iI hv pv fl)]
def abY:=cp Ss λ(E,cs,hv,pv,fl)=>some (.same (.bool (xG E cs hv pv fl)))
theorem amO:∀a b,Ss a=Ss b->a=b:=by
  rintro⟨vU,vV,nO,abq,AF⟩ ⟨vW,oC,nP,abr,AG⟩ h;simp only[bb,Data.Y.injEq,Data.agg.injEq,and_true] at h;obtain⟨F,I,af⟩:=h;obtain⟨rfl,rfl,rfl⟩:=amN af;rw[map_inj fj _ _ F,map_inj s3 _ _ I]
@[go_sem] theorem aDH (E:List Int)(cs:List ao)(hv:List a1)(pv:List a1)(fl:List (List Int)):abY [.Y (E.map ag),.Y (cs.map cx),.agg (iI hv pv fl)]=some (.same (.bool (xG E cs hv pv fl))):=cA amO (E,cs,hv,pv,fl)
theorem aDI (T:bh)(nJ:T Oa=aV X1)(E:List Int)(cs:List ao)(hv:List a1)(pv:List a1)(fl:List (List Int)):WP T abT (.same (.bool (xG E cs hv pv fl))) [.J (.Y (E.map ag)),.J (.Y (cs.map cx)),.J (.agg (iI hv pv fl))]:=by
 refine cB ?_;simp only[abT];unfold xG;rcases fQ:IZ E cs hv pv fl
 case true =>
  unfold IZ at fQ;rcases aI:decide ((D E:Int)>6)
  case true =>
         refine aX ?_;repeat' (intro h<;>simp only[h,go_sem,go_sem_proc,nJ,iI,aI,ak,c8,fz]<;>try refine aw ?_ ?_)
  rw[aI,pL] at fQ;rcases c2:decide ((D cs:Int)>12)
  case true =>
         refine aX ?_;repeat' (intro h<;>simp only[h,go_sem,go_sem_proc,nJ,iI,aI,c2,ak,c8,fz]<;>try refine aw ?_ ?_)
  rw[c2,pL] at fQ;rcases c3:decide ((D hv:Int)>8)
  case true =>
         refine aX ?_;repeat' (intro h<;>simp only[h,go_sem,go_sem_proc,nJ,iI,aI,c2,c3,ak,c8,fz]<;>try refine aw ?_ ?_)
  rw[c3,pL] at fQ;rcases c4:decide ((D pv:Int)>14)
  case true =>
         refine aX ?_;repeat' (intro h<;>simp only[h,go_sem,go_sem_proc,nJ,iI,aI,c2,c3,c4,ak,c8,fz]<;>try refine aw ?_ ?_)
  rw[c4,pL] at fQ;refine aX ?_;repeat' (intro h<;>simp only[h,go_sem,go_sem_proc,nJ,iI,aI,c2,c3,c4,fQ,ak,c8,fz]<;>try refine aw ?_ ?_)
 unfold IZ at fQ;simp only[M7] at fQ;obtain⟨aI,c2,c3,c4,yN⟩:=fQ;have v8:=of_decide_eq_false c3;have vD:=of_decide_eq_false c4;have n5:=of_decide_eq_false yN;simp only[go_sem,go_sem_proc,nJ,iI,aI,c2,c3,c4,yN,ak,dD,gT];refine dv [5] [369005] (λ(i:Nat) tm m=>i<=D hv/\tm 7=.J (.int .i64 i)/\(hv.take i).all (λf=>pU f 8)=true) (λi=>D hv-i) 0 (by refine⟨by omega,rfl,rfl⟩) ?_;intro vs ms aT aR;simp only[go_sem,go_sem_proc,nJ,iI,ak] at aT aR;subst aT aR;rintro i tm m Q hm ⟨M,bR,aN⟩;simp only[go_sem,go_sem_proc,nJ,bb] at Q hm;have cL:=Q;rcases dA (i<D hv) with ay|b9
 ·have d1:decide ((i:Int)<(D hv:Int))=true:=dn;have b4:=e9 (i:=i) (by omega);obtain⟨⟨⟨f1,f2⟩,⟨f3,f4⟩⟩,O⟩:∃x,hv[i]?=some x:=⟨_,bx ay⟩;rcases q:pU ((f1,f2),(f3,f4)) 8
  ·rw[Sr O q,fz];refine aX ?_;repeat' (intro h<;>simp only[h,go_sem,go_sem_proc,nJ,cL,bR,hm,O,d1,q,aH,ak,bq,dD]<;>try refine aw ?_ ?_)
  ·refine aX ?_;repeat' (intro h<;>simp only[h,go_sem,go_sem_proc,nJ,cL,bR,hm,O,d1,b4,q,aH,ak,bq,c8]<;>try refine aw ?_ ?_)
   exact⟨i+1,by omega,by omega,rfl,by rw[PQ O,aN,q];rfl⟩
 have d1:decide ((i:Int)<(D hv:Int))=false:=dk;rw[dt (by omega)] at aN;rw[aN,gT];simp only[go_sem,go_sem_proc,nJ,cL,bR,hm,d1,ak];refine dv [5] [369005] (λ(i:Nat) tm m=>i<=D pv/\tm 8=.J (.int .i64 i)/\(pv.take i).all (λf=>pU f 8)=true) (λi=>D pv-i) 0 (by refine⟨by omega,rfl,rfl⟩) ?_;intro vs ms aT aR;simp only[go_sem,go_sem_proc,nJ,cL,bR,hm,ak] at aT aR;subst aT aR;clear cL bR hm Q d1 aN;clear b9 M;rintro i tm m Q hm ⟨M,bR,aN⟩;simp only[go_sem,go_sem_proc,nJ,bb] at Q hm;have cL:=Q;rcases dA (i<D pv) with ay|b9
 ·have d1:decide ((i:Int)<(D pv:Int))=true:=dn;have b4:=e9 (i:=i) (by omega);obtain⟨⟨⟨f1,f2⟩,⟨f3,f4⟩⟩,O⟩:∃x,pv[i]?=some x:=⟨_,bx ay⟩;rcases q:pU ((f1,f2),(f3,f4)) 8
  ·rw[Sr O q,fz];refine aX ?_;repeat' (intro h<;>simp only[h,go_sem,go_sem_proc,nJ,cL,bR,hm,O,d1,q,aH,ak,bq,dD]<;>try refine aw ?_ ?_)
  ·refine aX ?_;repeat' (intro h<;>simp only[h,go_sem,go_sem_proc,nJ,cL,bR,hm,O,d1,b4,q,aH,ak,bq,c8]<;>try refine aw ?_ ?_)
   exact⟨i+1,by omega,by omega,rfl,by rw[PQ O,aN,q];rfl⟩
 have d1:decide ((i:Int)<(D pv:Int))=false:=dk;rw[dt (by omega)] at aN;rw[aN,gT];simp only[go_sem,go_sem_proc,nJ,cL,bR,hm,d1,ak];refine dv [5] [369005] (λ(i:Nat) tm m=>i<=D fl/\tm 9=.J (.int .i64 i)/\(fl.take i).all (λr => !decide ((D r:Int)>12))=true) (λi=>D fl-i) 0 (by refine⟨by omega,rfl,rfl⟩) ?_;intro vs ms aT aR;simp only[go_sem,go_sem_proc,nJ,cL,bR,hm,ak] at aT aR;subst aT aR;clear cL bR hm Q d1 aN;clear b9 M;rintro i tm m Q hm ⟨M,bR,aN⟩;simp only[go_sem,go_sem_proc,nJ,bb] at Q hm;have cL:=Q;rcases dA (i<D fl) with ay|b9
 ·have d1:decide ((i:Int)<(D fl:Int))=true:=dn;have b4:=e9 (i:=i) (by omega);obtain⟨r,O⟩:∃x,fl[i]?=some x:=⟨_,bx ay⟩;rcases q:decide ((D r:Int)>12)
  ·refine aX ?_;repeat' (intro h<;>simp only[h,go_sem,go_sem_proc,nJ,cL,bR,hm,O,d1,b4,q,nz,ak,bq]<;>try refine aw ?_ ?_)
   exact⟨i+1,by omega,by omega,rfl,by rw[PQ O,aN,q];rfl⟩
  ·rw[Sr O (by rw[q];rfl)];refine aX ?_;repeat' (intro h<;>simp only[h,go_sem,go_sem_proc,nJ,cL,bR,hm,O,d1,q,nz,ak,bq]<;>try refine aw ?_ ?_)
 have d1:decide ((i:Int)<(D fl:Int))=false:=dk;rw[dt (by omega)] at aN;rw[aN];refine aX ?_;repeat' (intro h<;>simp only[h,go_sem,go_sem_proc,nJ,cL,bR,hm,d1,ak]<;>try refine aw ?_ ?_)
def abZ:=cp Sb λ(l,m)=>cV (D l<=1000000/\D m<=1000000) (.same (.bool (decide (l=m))))
@[go_sem] theorem aDJ (l:List Int)(m:List Int)(G:(D l)<=1000000/\D m<=1000000):abZ [.Y (l.map ag),.Y (m.map ag)]=some (.same (.bool (decide (l=m)))):=(cA ame (l,m)).trans (cY G _)
theorem aDK (T:bh)  (l:List Int) (m:List Int) (G:(D l)<=1000000/\D m<=1000000):WP T abU (.same (.bool (decide (l=m)))) [.J (.Y (l.map ag)),.J (.Y (m.map ag))]:=by
 refine cB ?_;simp only[abU];obtain⟨F,I⟩:=G;rcases q:((D l:Int)==(D m:Int))
 ·have bC:decide (l=m)=false:=j9 λe=>by rw[e,beq_self_eq_true] at q;cases q
  refine aX ?_;repeat' (intro h<;>simp only[h,go_sem,go_sem_proc,q,bC,ak,bne,dD]<;>try refine aw ?_ ?_)
 have aq:(D l)=D m:=by have:=eq_of_beq q;omega
 simp only[go_sem,go_sem_proc,q,ak,bne,c8];refine dv [0,1] [] (λ(i:Nat) tm _=>i<=D l/\l.take i=m.take i/\tm 5=.J (.int .i64 i)) (λi=>D l-i) 0 (by refine⟨by omega,by simp,rfl⟩) ?_;intro vs ms aT aR;simp only[go_sem,go_sem_proc,ak] at aT aR;subst aT aR;rintro i tm mem Q-⟨M,bD,cL⟩;simp only[go_sem,go_sem_proc,bb] at Q;obtain⟨b0,aA⟩:=Q;rcases dA (i<D l) with ay|b9
 ·have d3:decide ((i:Int)<(D l:Int))=true:=dn;have b4:=e9 (i:=i) (by omega);obtain⟨x,O⟩:∃x,l[i]?=some x:=⟨_,bx ay⟩;obtain⟨y,ar⟩:∃y,m[i]?=some y:=⟨_,bx (by omega)⟩;rcases fu:(x==y)
  ·have bC:decide (l=m)=false:=j9 λe=>by
    rw[e,ar] at O
    cases O;rw[beq_self_eq_true] at fu
    cases fu
   refine aX ?_;repeat' (intro h<;>simp only[h,go_sem,go_sem_proc,b0,aA,cL,O,ar,d3,fu,bC,ag,ak,bq,bne,dD]<;>try refine aw ?_ ?_)
  ·obtain rfl:x=y:=eq_of_beq fu;refine aX ?_;repeat' (intro h<;>simp only[h,go_sem,go_sem_proc,b0,aA,cL,O,ar,d3,b4,fu,ag,ak,bq,bne,c8]<;>try refine aw ?_ ?_)
   refine⟨i+1,by omega,by omega,?_,rfl⟩
   rw[g1,g1,bD,O,ar]
 ·have d3:decide ((i:Int)<(D l:Int))=false:=dk
  have he:decide (l=m)=true:=iw (by
   rw[dt (by omega),dt (by omega)] at bD;exact bD)
  refine aX ?_;repeat' (intro h<;>simp only[h,go_sem,go_sem_proc,b0,aA,cL,d3,he,ak]<;>try refine aw ?_ ?_)
structure ab0 (E:List Int) (cs:List ao) (hv:List a1) (ps:List Rat):Prop where
 n:(D E)<=1000000
 c:(D cs)<=1000000
 h:e6 hv
 p:e6 (ps.map av)
 xE:jr E cs hv (ps.map av)=true->j7 E cs ps
def M8 (E:List Int)(cs:List ao)(hv:List a1)(ps:List Rat):List Int:=if jr E cs hv (ps.map av)=true then gw cs ps (D E) else []
abbrev ab1:(List Int)×(List ao)×(List a1)×(List Rat)×(List (List Int))->List Data:=λ(E,cs,hv,ps,fl)=>[.Y (E.map ag),.Y (cs.map cx),.agg (iI hv (ps.map av) fl)]
def St:=cp ab1 λ(E,cs,hv,ps,fl)=>cV (ab0 E cs hv ps) (.same (.Y ((M8 E cs hv ps).map ag)))
theorem aDL:∀a b,ab1 a=ab1 b->a=b:=by
  rintro⟨vU,vV,nO,Mm,AF⟩ ⟨vW,oC,nP,Mn,AG⟩ h;simp only[bb,Data.Y.injEq,Data.agg.injEq,and_true] at h;obtain⟨F,I,af⟩:=h;obtain⟨rfl,aM,rfl⟩:=amN af;rw[map_inj fj _ _ F,map_inj s3 _ _ I,map_inj (λ_ _ aQ=>wZ aQ) _ _ aM]
@[go_sem] theorem aDM (E:List Int)(cs:List ao)(hv:List a1)(ps:List Rat)(fl:List (List Int))(G:ab0 E cs hv ps):St [.Y (E.map ag),.Y (cs.map cx),.agg (iI hv (ps.map av) fl)]=some (.same (.Y ((M8 E cs hv ps).map ag))):=(cA aDL (E,cs,hv,ps,fl)).trans (cY G _)
theorem aDN (T:bh)(pB:T Kv=aV Sm)(j8:T DE=aV MY)(E:List Int)(cs:List ao)(hv:List a1)(ps:List Rat)(fl:List (List Int))(G:ab0 E cs hv ps):WP T Xd (.same (.Y ((M8 E cs hv ps).map ag))) [.J (.Y (E.map ag)),.J (.Y (cs.map cx)),.J (.agg (iI hv (ps.map av) fl))]:=by
 refine cB ?_;simp only[Xd];have ab:=amy E cs hv (ps.map av) fl ⟨G.n,G.c,G.h,G.p⟩;have px:=G.xE;clear G;unfold M8;rcases eS:jr E cs hv (ps.map av)
 ·rw[eS] at ab;rw[ae (by decide)];simp only[eJ] at ab;generalize ps.map av=M5 at *;refine aX ?_;repeat' (intro h<;>simp only[h,go_sem,go_sem_proc,pB,j8,iI,ab,dD,c1]<;>try refine aw ?_ ?_)
 rw[eS] at ab;rw[ad rfl];have U:=abw E cs hv ps fl (px eS);simp only[eJ] at ab U;generalize ps.map av=M5 at *;generalize gw cs ps (D E)=S at *;refine aX ?_;repeat' (intro h<;>simp only[h,go_sem,go_sem_proc,pB,j8,iI,ab,U,c8]<;>try refine aw ?_ ?_)
def ab2:=cp Gn λ(a,b)=>cV (dB a/\dB b) (.same (.Y ([av (a:Rat),av (b:Rat)].map aH)))
@[go_sem] theorem ab3 (a:Int)(b:Int)(G:dB a/\dB b):ab2 [.int .i64 a,.int .i64 b]=some (.same (.Y ([av (a:Rat),av (b:Rat)].map aH))):=(cA OC (a,b)).trans (cY G _)
theorem aDO (T:bh)(aDP:T Ob=aV PO)(a:Int)(b:Int)(G:dB a/\dB b):WP T abX (.same (.Y ([av (a:Rat),av (b:Rat)].map aH))) [.J (.int .i64 a),.J (.int .i64 b)]:=by
 refine cB ?_;simp only[abX];obtain⟨F,I⟩:=G;have rV:=amM F;have py:=amM I;generalize av (a:Rat)=A at *;generalize av (b:Rat)=B at *;obtain⟨⟨cU,de⟩,⟨a3,a4⟩⟩:=A;obtain⟨⟨df,eD⟩,⟨j3,l2⟩⟩:=B;simp only[aH] at rV py;refine aX ?_;repeat' (intro h<;>simp only[h,go_sem,go_sem_proc,aDP,rV,py,aH,eE,c1]<;>try refine aw ?_ ?_)
def lJ:List ao:=[(1,0,0,5),(0,1,0,5)]
theorem ab4:e2 [0,0] lJ:=⟨by decide,by decide,by decide,by decide⟩
theorem aDQ {n:Int}(al:0<=n)(h:n<=9):(0:Rat)<=(n:Rat)/\dT 460 (n:Rat):=by
 refine⟨by exact_mod_cast al,(show dT 4 (n:Rat) from⟨?_,?_⟩).mono (by omega)⟩
 ·rw[Rat.num_intCast];omega
 ·rw[Rat.den_intCast];decide
def fO (l:List Int):List Rat:=l.map λn:Int=>(n:Rat)
theorem nine {l:List Int}(h:∀x∈l,0<=x/\x<=9):∀q∈fO l,0<=q/\dT 460 q:=λq aG=>by
 obtain⟨n,aK,rfl⟩:=dS.1 aG;exact aDQ (h n aK).1 (h n aK).2
theorem M9 {l:List Int}(h:∀x∈l,0<=x/\x<=9):∀q∈fO l,dm q:=λq aG=>j4 (nine h q aG).2 (by omega)
theorem amP {a b:List Int}(F:(D a)=2)(I:(D b)=2)(aN:∀x∈a,0<=x/\x<=9)(ah:∀x∈b,0<=x/\x<=9):jr [0,0] lJ ((fO a).map av) ((fO b).map av)=true :=
 amK ab4.right (by unfold fO;rw[ak,F];rfl) (by unfold fO;rw[ak,I];rfl) (λx O=>⟨(nine aN x O).1,j4 (nine aN x O).2 (by omega)⟩) λx O=>⟨(nine ah x O).1,M9 ah x O⟩
theorem aDR:gw lJ (fO [2,2]) 2=[0,1]:=by decide +kernel
theorem aDS:gw lJ (fO [5,5]) 2=[]:=by decide +kernel
theorem aDT:(hc lJ (fO [2,2]) (gw lJ (fO [2,2]) 2) 2).length=2:=by decide +kernel
theorem aDU:(hc lJ (fO [5,5]) (gw lJ (fO [5,5]) 2) 2).length=0:=by decide +kernel
theorem aDV:m6 (l9 [0,0] lJ (fO [2,2]) (fO [2,2])) 2=0:=by decide +kernel
theorem aDW:m6 (l9 [0,0] lJ (fO [5,5]) (fO [5,5])) 2=0:=by decide +kernel
theorem amQ:m6 (l9 [0,0] lJ (fO [5,4]) (fO [5,5])) 2=24:=by decide +kernel
theorem aDX:St [.Y (([0,0]:List Int).map ag),.Y (lJ.map cx),.agg (iI ((fO [2,2]).map av) ((fO [2,2]).map av) [[0,1]])]=some (.same (.Y (([0,1]:List Int).map ag))):=by
 have cX:e6 ((fO [2,2]).map av):=⟨by decide,λf aF=>by obtain⟨x,O,rfl⟩:=dS.1 aF;exact lA (M9 (by decide) x O)⟩
 have h:=aDM [0,0] lJ ((fO [2,2]).map av) (fO [2,2]) [[0,1]] ⟨by decide,by decide,cX,cX,λ_=>⟨rfl,by decide,by decide,λi=>ab4.own i,M9 (by decide)⟩⟩
 unfold M8 at h;rw[ad (amP rfl rfl (by decide) (by decide)),show ([0,0]:List Int).length=2 from rfl,aDR] at h;exact h
theorem amR {E:List Int}{cs:List ao}{hv pv:List a1}{fl:List (List Int)}(h:xG E cs hv pv fl=true):(D E)<=6/\D cs<=12:=by
 unfold xG IZ at h;simp only[ec,pj,M7,decide_eq_false_iff_not] at h;omega
theorem ab5 {E:List Int}{cs:List ao}{hv pv:List a1}{fl:List (List Int)}(h:xG E cs hv pv fl=true):R8 E cs:=by
 obtain⟨F,I⟩:=amR h;exact⟨by omega,by omega,λab=>⟨ab,F,I,λc G=>((hy.1 ab).2.2.2 c G).2.2.2.2.2.2.2⟩⟩
section
variable {E:List Int} {cs:List ao} (U:e2 E cs)
include U
end
def AW (cs:List ao)(n:Nat):List ao:=(dP n).flatMap λi:Nat=>cu cs (i:Int)
theorem aDY (cs:List ao)(n:Nat):AW cs (n+1)=AW cs n++cu cs (n:Int):=by
 unfold AW;rw[nx,List.flatMap_append];simp
theorem aDZ {cs:List ao}{n:Nat}{c:ao}(h:c∈AW cs n):c∈cs:=by
 unfold AW at h;obtain⟨i,-,G⟩:=List.mem_flatMap.1 h;exact (l5.1 G).1
theorem aD0 {E:List Int}{cs:List ao}(U:e2 E cs)(aO:dM->Rat):b5 ((AW cs (D E)).map cv) aO=b5 (aB E cs).cO aO:=by
 have F:∀n,b5 ((AW cs n).map cv) aO=bE n λi=>b5 (aB E cs).cO λc=>if c.az=i then aO c else 0:=by
  intro n
  induction n with
  |zero=>rfl
  |succ n ax =>
   rw[aDY,kI,HY,ax,aCc U];rfl
 rw[F,LP (n:=D E) U.ok.az λ_ c=>aO c]
theorem aD1 {E:List Int}{cs:List ao}(U:e2 E cs)(x:Nat->Rat)(i:Nat):pA E cs x i (AW cs (D E))=(aB E cs).p5 x i:=by
 unfold pA;rw[aD0 U];rfl
theorem CR.p5 {E:List Int}{cs:List ao}(U:e2 E cs){x:Nat->Rat}{s:Nat->Rat}(h:CR E cs x (AW cs (D E)) s):∀i,i<(D E)->s i=(aB E cs).p5 x i:=λi M=>by
 rw[<-aD1 U];exact alG U.right x i _ _ rfl (λc G=>aDZ G) _ (h.a i M)
end Go.Mini
