/- A part of the proof. -/
import Derived.Test.YtkfoalgfjchcfaaGreatM03
set_option linter.unusedSimpArgs false
set_option linter.unusedVariables false
set_option maxRecDepth 100000
set_option maxHeartbeats 4000000
noncomputable section
open Bool renaming and_eq_true->e3,false_eq_true->jU,not_eq_true'->Ck,or_eq_true->qn,or_false->nL,true_and->iy
open Classical renaming byContradiction->kC,choose->yc,choose_spec->oQ
open Decidable renaming em->dX
open Int renaming add_zero->tU,le_refl->FG,mul_ne_zero->Ai,mul_zero->sB,natAbs_mul->qy,natAbs_natCast->l5,one_mul->nb,zero_add->BQ,zero_mul->wW
open List renaming any_eq_false->Fg,append_assoc->gK,append_nil->hO,append_of_mem->adA,cons_append->lz,drop->hR,drop_append->oc,drop_eq_getElem_cons->hL,drop_eq_nil_of_le->lq,drop_zero->mv,ext_getElem?->q6,filter_append->y6,filter_cons_of_neg->xw,filter_cons_of_pos->xv,filter_nil->s6,findIdx_getElem->adS,findIdx_le_length->acY,flatMap_append->vG,flatMap_cons->oS,flatMap_def->vH,flatMap_eq_nil_iff->aeR,flatMap_nil->y8,flatten_append->Fj,flatten_cons->ko,getD_eq_getElem?_getD->ea,getElem?_append_left->q3,getElem?_append_right->q4,getElem?_cons_zero->HB,getElem?_drop->uM,getElem?_eq_getElem->bx,getElem?_eq_none->lr,getElem?_eq_some_iff->dM,getElem?_map->bd,getElem?_range->r0,getElem?_set->kz,getElem?_zipIdx->Uv,getElem_drop->EY,getElem_mem->n7,length->D,length_append->hj,length_cons->kJ,length_drop->pA,length_filter_le->rK,length_map->al,length_nil->mu,length_range->q9,length_replicate->Jx,length_set->iM,length_take->g7,map->xm,mapM_cons->mn,map_append->k0,map_congr_left->m5,map_cons->eY,map_map->oN,map_nil->cg,map_replicate->Fi,map_set->xi,mem_append->iw,mem_cons->nM,mem_cons_of_mem->hY,mem_cons_self->ha,mem_filter->Fw,mem_iff_getElem?->pD,mem_map->fI,mem_map_of_mem->vD,mem_of_getElem?->eU,mem_of_mem_drop->Iy,mem_range->hn,mem_singleton->yz,nil_append->iJ,nodup_range->ac0,range->dQ,range_succ->pd,replicate->ep,replicate_append_replicate->UO,replicate_succ->uN,set_append_right->Cn,set_cons_succ->E4,set_cons_zero->qE,set_set->acx,take->ho,take_add_one->lA,take_append_of_le_length->AA,take_of_length_le->dE,zipWith->Vy,zipWith_cons_cons->adM,zip_cons_cons->adL
open List.cons renaming injEq->bf
open Nat renaming add_comm->xL,add_sub_cancel_left->DQ,add_zero->n8,eq_zero_or_pos->iU,exists_eq_add_of_le->ac6,le_mul_of_pos_right->Hq,le_of_eq->xo,le_refl->bM,le_trans->ey,lt_of_le_of_lt->sw,lt_or_ge->hK,mul_assoc->Cz,mul_comm->si,mul_le_mul->pb,mul_left_comm->adI,mul_one->cI,mul_pos->Vv,one_pos->Vu,pow_add->xu,pow_le_pow_right->wP,pow_lt_pow_right->adZ,pow_succ->uZ,reduceEqDiff->dA,reduceLeDiff->acw,sub_self->kL,sub_zero->UR,succ_mul->r1,zero_add->oH,zero_le->fr
open Option renaming map_some->iW
open Option.some renaming inj->m4,injEq->b8
open Prod renaming ext->eN
open Prod.mk renaming injEq->fv
open Rat renaming add_zero->pa,divInt->kX,divInt_eq_div->VB,div_def->sS,intCast_add->sZ,intCast_eq_zero_iff->adX,intCast_mul->pZ,intCast_natCast->nm,intCast_sub->y4,inv_pos->adh,le_refl->fQ,le_trans->sY,mul_comm->uo,mul_eq_zero->VD,mul_nonneg->U5,mul_pos->JB,mul_zero->l8,natCast_mul->NM,neg_num->ad2,one_mul->NF,zero_add->AL,zero_den->JQ,zero_mul->y2,zero_num->JR
namespace Go.Mini
open Go
theorem o4 {x:Rat}(h:dI x):okF (aE x):=⟨mF h.1,mF (vf h)⟩
theorem sK:okF dT:=⟨by simp[dT],by simp[dT]⟩
theorem ao9 (p q:Raw):okF (g0 p q).1:=by
 unfold g0
 split
 ·rename_i h;rw[e3] at h;obtain⟨x,O,aA⟩:=(jc _).1 h.1;obtain⟨y,ak,ay⟩:=(jc _).1 h.2
  split
  ·exact sK
  ·rw[aA,ay,ft,ft];exact o4 (MF O ak)
 ·exact sK
theorem Ue (p q:Raw×Int):okF (ua p q).1:=by
 unfold ua
 split
 ·split
  ·exact ao9 _ _
  ·exact sK
 ·exact sK
theorem apa (a b:bS):okF (vh a b).1:=by
 unfold vh
 split
 ·split
  ·exact Ue _ _
  ·exact sK
 ·exact sK
theorem aco (a b:bS):okF (oo a b).1:=by
 unfold oo
 split
 ·split
  ·exact apa _ _
  ·exact sK
 ·exact sK
theorem apb (a b:bS):okF (nh a b).1:=by
 unfold nh
 split
 ·split
  ·exact Ue _ _
  ·exact sK
 ·exact sK
theorem acp (a b:bS):okF (je a b).1:=by
 unfold je
 split
 ·split
  ·split
   ·exact sK
   ·exact Ue _ _
  ·exact sK
 ·exact sK
theorem Uf {x:cX}{c:Nat}{f:bS}(h:x.2.2[c]?=some f):cellOf x c=f:=by
 unfold cellOf;rw[ea,h]
 rfl
theorem vt {rows:List cX}{i:Nat}{x:cX}(h:rows[i]?=some x):rowAt rows i=x:=by
 unfold rowAt;rw[ea,h]
 rfl
theorem EZ {l:List bS}{k:Nat}(h:k<D l):(k*4+4<=(aY aK l).length)=True:=eq_true (by rw[kP mG];omega)
theorem E0 {l:List bS}{k:Nat}{a b c d}(h:l[k]?=some ((a,b),(c,d))):ho 4 (hR (k*4) (aY aK l))=[.I (.int .i64 a),.I (.ae (b.map af)),.I (.int .i64 c),.I (.ae (d.map af))]:=by
 have:=ao4 h;unfold cut at this;rw[Z (by rw[kP mG];have:=(dM.1 h).1;omega)] at this;exact m4 this
theorem Ug {l:List bS}{k:Nat}(h:k<D l)(a:Int)(b:List Int)(c:Int)(d:List Int):
  ho (k*4) (aY aK l)++[M.I (.int .i64 a),.I (.ae (b.map af)),.I (.int .i64 c),.I (.ae (d.map af))]++hR (k*4+4) (aY aK l)=aY aK (l.set k ((a,b),(c,d))):=by
 rw[<-Qt mG h]
 rfl
theorem Cm {N:Nat}{rows:List cX}{i:Nat}(h:i<D rows):(i+1<=(refsOf N rows).length)=True:=eq_true (by unfold refsOf;rw[al];omega)
theorem E1 {N:Nat}{rows:List cX}{i:Nat}{x:cX}(h:rows[i]?=some x):ho 1 (hR i (refsOf N rows))=[.ref (x.1+900000) x.2.1 4 0 (N+1)]:=by
 have:=ao5 (N:=N) h;unfold cut at this;rw[Z (by unfold refsOf;rw[al];have:=(dM.1 h).1;omega)] at this;exact m4 this
theorem acq {N:Nat}{rows:List cX}{i:Nat}(h:i<D rows)(b:cX):ho i (refsOf N rows)++[M.ref (b.1+900000) b.2.1 4 0 (N+1)]++hR (i+1) (refsOf N rows)=refsOf N (rows.set i b):=by
 unfold refsOf;rw[xi,List.set_eq_take_append_cons_drop,Z (by rw[al];exact h),gK]
 rfl
theorem acr (fe:bS):∀(l p:List bS) (b:Bool),(iD fe l p b).1.length=D l
 | [],_,_=>by simp[iD]
 |f::dj,[],b=>by cases b<;>simp[iD]
 |f::dj,p::cS,true=>by simp[iD]
 |f::dj,p::cS,false=>by simp[iD,acr fe dj cS]
theorem Uh (fe:bS)(l p:List bS):iD fe l p true=(l,true):=by
 cases l<;>cases p<;>simp[iD]
theorem acs (fe:bS)(p:List bS)(b:Bool):iD fe [] p b=([],b):=by
 cases b<;>simp[iD]
theorem apc {α:Type}(f:α->α){l:List α}{k:Nat}{x:α}(h:l[k]?=some x):((l.take k).map f++l.drop k).set k (f x)=(l.take (k+1)).map f++l.drop (k+1):=by
 obtain⟨ao,O⟩:=dM.1 h;have aq:((l.take k).map f).length=k:=by rw[al,g7];omega
 rw[Cn _ _ (by omega),aq,kL,hL ao,qE,lA,h,k0,gK]
 rfl
theorem apd {α:Type}(f:α->α){l:List α}{k:Nat}:((l.take k).map f++l.drop k)[k]?=l[k]?:=by
 rcases hK k (D l) with h|h
 ·have aq:((l.take k).map f).length=k:=by rw[al,g7];omega
  rw[q4 (by omega),aq,kL,uM,n8]
 ·rw[lr h,lr (by rw[hj,al,g7,pA];omega)]
theorem Ui {α:Type}{rows:List α}{r i:Nat}{x vu:α}(O:rows[i]?=some x)(ov:rows[r]?=some vu):((rows.set r x).set i vu)[r]?=some x:=by
 have E:=(dM.1 O).1;have H:=(dM.1 ov).1;rw[kz,kz,iM]
 by_cases h:i=r
 ·subst h;rw[O] at ov
  cases ov;rw[Z rfl,Z E]
 ·rw[aa h,Z rfl,Z H]
theorem Uj {α:Type}{l:List α}{i:Nat}{x:α}(h:l[i]?=some x):l.set i x=l:=by
 obtain⟨ao,O⟩:=dM.1 h;apply q6;intro j;rw[kz]
 by_cases ly:i=j
 ·subst ly;rw[Z rfl,Z ao,h]
 ·rw[aa ly]
theorem ape (a b:Nat):(!(a+900000==129015)||decide (2<b*4))=true:=by
 have:(a+900000==129015)=false:=by simp
 rw[this];rfl
theorem Uk:EX 168004:=by unfold EX;omega
theorem Ul:EX 168006:=by unfold EX;omega
def dY.sub:dY->List Nat->dY
 |.seq a _,0::p=>a.sub p
 |.seq _ b,_::p=>b.sub p
 |.cond _ a _,0::p=>a.sub p
 |.cond _ _ b,_::p=>b.sub p
 |.block _ c,_::p=>c.sub p
 |.ghost _ c,_::p=>c.sub p
 |.loop c,_::p=>c.sub p
 |c,_=>c
def apf (f:bS):List M:=[.I (.int .i64 f.1.1),.I (.ae (f.1.2.map af)),.I (.int .i64 f.2.1),.I (.ae (f.2.2.map af))]
theorem apg (T:bk)(vv:T zS=Ap yR)(kf:T tF=aX w3)(k1:T u0=aX w5){K:er->a2->Prop}{kk:List fU}
  (go N r c i2:Nat) (mem:Mem) (As:mem 168004=none) (At:mem 168006=none) (gB:N<=40) (qF:List cX) (rB:jh N qF) (x y:cX) (fz:List bS) (vw:qF[i2]?=some y) (br:qF[r]?=some (x.1,x.2.1,fz)) (Co:i2≠r) (sL:r<N) (kZ:Bool)
  (cG:Int) (cO:List Int) (h1:Int) (k2:List Int) (nT:okF ((cG,cO),(h1,k2))) (tm:Nat->M) (m:Mem) (bz:Nat)
  (cw:tm 0=.ptr 129015 0 0) (aA:tm 1=.I (.int .i64 r)) (ay:tm 2=.I (.int .i64 c)) (h4:tm 12=.ref (y.1+900000) y.2.1 4 0 (N+1)) (iE:tm 13=.ptr 148013 bz 0) (o5:tm 112=.ref 129035 go 1 0 N) (Ji:tm 113=.I (.int .i64 N)) (Jj:tm 114=.I (.int .i64 i2)) (xj:tm 14=.I (.int .i64 0))
  (em:m 148013=some (bz,[.I (.int .i64 cG),.I (.ae (cO.map af)),.I (.int .i64 h1),.I (.ae (k2.map af))])) (fX:jy mem go N qF kZ m)
  (dp:∀tm' m' l b,tm' 0=.ptr 129015 0 0->tm' 1=.I (.int .i64 r)->tm' 2=.I (.int .i64 c)->tm' 112=.ref 129035 go 1 0 N->tm' 113=.I (.int .i64 N)->tm' 114=.I (.int .i64 i2)->(l,b)=iD ((cG,cO),(h1,k2)) y.2.2 fz kZ->jh N (qF.set i2 (y.1,y.2.1,l))->jy mem go N (qF.set i2 (y.1,y.2.1,l)) b m'->b7 T K kk (.exit 6) ⟨tm',m'⟩) :
  wp T (xa.body.sub [1,1,1,1,1,1,1,0,1,0,0,1,1,0,0,1,1,1,1,0]) (b7 T K kk) ⟨tm,m⟩:=by
 simp only[xa,dY.sub];have aph:i2<N:=by rw[<-rB.len];exact (dM.1 vw).1
 obtain⟨zv,Nh⟩:=rB.row y (eU vw);have api:qF.set i2 (y.1,y.2.1,[]++y.2.2.drop 0)=qF:=Uj vw
 refine dG [0,1,2,12,13,112,113,114] [148013] (λ((k,pre,b):Nat×List bS×Bool) tm m=>k<=N+1/\D pre=k/\(∀f∈pre,okF f)/\iD ((cG,cO),(h1,k2)) y.2.2 fz kZ=(pre++(iD ((cG,cO),(h1,k2)) (y.2.2.drop k) (fz.drop k) b).1,(iD ((cG,cO),(h1,k2)) (y.2.2.drop k) (fz.drop k) b).2)/\tm 14=.I (.int .i64 k)/\jy mem go N (qF.set i2 (y.1,y.2.1,pre++y.2.2.drop k)) b m) (λ(k,_,_)=>N+1-k) (0,[],kZ) (by
  refine⟨fr _,rfl,(by simp),rfl,xj,?_⟩;rw[api];exact fX) ?_
 intro vs ms aV aS;simp only[go_sem,go_sem_proc,cw,aA,ay,h4,iE,o5,Ji,Jj,em] at aV aS;subst aV aS;clear cw aA ay h4 iE o5 Ji Jj em xj fX tm m;rintro⟨dN,pre,b⟩ tm na J hm ⟨aCL,Es,E2,Jk,va,sM⟩;simp only[go_sem,go_sem_proc,bf] at J hm;obtain⟨ai,E,H,hS,m9,rC,rD,rE⟩:=J;have apj:(pre++y.2.2.drop dN).length=N+1:=by rw[hj,pA];omega
 have E3:jh N (qF.set i2 (y.1,y.2.1,pre++y.2.2.drop dN)):=rB.set vw apj λf aJ=>by
  rw[iw] at aJ;rcases aJ with aJ|aJ
  ·exact E2 f aJ
  ·exact Nh f (Iy aJ)
 have acu:(qF.set i2 (y.1,y.2.1,pre++y.2.2.drop dN))[i2]?=some (y.1,y.2.1,pre++y.2.2.drop dN):=by
  rw[kz,Z rfl,Z (by rw[rB.len];exact aph)]
 have wX:(qF.set i2 (y.1,y.2.1,pre++y.2.2.drop dN))[r]?=some (x.1,x.2.1,fz):=by
  rw[kz,aa Co];exact br
 have qG:=sM.1.m;have sN:=sM.1.o;rcases dX (dN<N+1) with apk|aCM
 ·have yT:decide ((dN:Int)<((N+1:Nat):Int))=true:=dn
  cases b
  ·obtain⟨⟨⟨c5,dK⟩,⟨fl,fP⟩⟩,sO⟩:∃f,y.2.2[dN]?=some f:=⟨_,bx (by omega)⟩;have aCN:(D fz)=N+1:=(rB.row _ (eU br)).1;obtain⟨⟨⟨nI,nJ⟩,⟨pS,sP⟩⟩,kA⟩:∃f,fz[dN]?=some f:=⟨_,bx (by omega)⟩;have tt:=Nh _ (eU sO);have acv:=(rB.row _ (eU br)).2 _ (eU kA)
   have Um:(pre++y.2.2.drop dN)[dN]?=some ((c5,dK),(fl,fP)):=by
    rw[q4 (by omega),Es,kL,uM,n8,sO]
   have jw:y.2.2.drop dN=((c5,dK),(fl,fP))::y.2.2.drop (dN+1):=by
    obtain⟨aq,e⟩:=dM.1 sO;rw[hL aq,e]
   have l2:fz.drop dN=((nI,nJ),(pS,sP))::fz.drop (dN+1):=by
    obtain⟨aq,e⟩:=dM.1 kA;rw[hL aq,e]
   have kq:∀s:bS,(pre++y.2.2.drop dN).set dN s=(pre++[s])++y.2.2.drop (dN+1):=λs=>by
    rw[Cn _ _ (by omega),Es,kL,jw,qE,gK];rfl
   have apl:=sM.1.r _ (eU acu);have apm:=sM.1.r _ (eU wX);have lJ:na 168004=none:=(sM.2 _ Uk).trans As;have Au:na 168006=none:=(sM.2 _ Ul).trans At;have t1:=E1 (N:=N) wX;have t2:=Cm (N:=N) (rows:=qF.set i2 (y.1,y.2.1,pre++y.2.2.drop dN)) (i:=r) (by rw[E3.len];exact sL);have t3:=E0 Um;have t4:=EZ (l:=pre++y.2.2.drop dN) (k:=dN) (by omega);have t5:=E0 kA;have t6:=EZ (l:=fz) (k:=dN) (by omega);have iK:=gu (i:=dN) (by omega);have Un:=apb ((cG,cO),(h1,k2)) ((nI,nJ),(pS,sP));have Uo:=aco ((c5,dK),(fl,fP)) (nh ((cG,cO),(h1,k2)) ((nI,nJ),(pS,sP))).1;have Jl:=Jk;rw[jw,l2] at Jl;simp only[iD] at Jl;generalize l0:nh ((cG,cO),(h1,k2)) ((nI,nJ),(pS,sP))=a5 at *;obtain⟨⟨⟨r3,jJ⟩,⟨apn,apo⟩⟩,aA⟩:=a5;dsimp only at Uo Jl Un;generalize cv:oo ((c5,dK),(fl,fP)) ((r3,jJ),(apn,apo))=S at *;obtain⟨⟨⟨v1,v2⟩,⟨ue,v4⟩⟩,ay⟩:=S;dsimp only at Uo Jl;have t7:=Ug (l:=pre++y.2.2.drop dN) (k:=dN) (by omega) v1 v2 ue v4;refine a7 ?_;repeat' (intro h<;>simp only[h,go_sem,go_sem_proc,vv,k1,kf,ai,E,H,hS,m9,va,rC,rD,rE,hm,qG,sN,apl,apm,lJ,Au,t1,t2,t3,t4,t5,t6,t7,yT,apk,sL,iK,l0,cv,tt.1,tt.2,acv.1,acv.2,nT.1,nT.2,Un.1,Un.2,apf,ef,aK,cI,yR,E4,qE,decide_true,decide_false,acw,ne_eq,not_false_eq_true,and_self]<;>try refine av ?_ ?_)
   have dC:=jy.set E3 acu ((pre++y.2.2.drop dN).set dN ((v1,v2),(ue,v4))) ((sM.flag (aA != 0)).flag (aA != 0||ay != 0));rw[acx,kq] at dC;refine⟨ape _ _,(dN+1,pre++[((v1,v2),(ue,v4))],(aA != 0||ay != 0)),by dsimp only;omega,by dsimp only;omega,by simp[Es],?_,?_,rfl,?_⟩
   ·intro f aJ;rw[iw,yz] at aJ;rcases aJ with aJ|rfl
    ·exact E2 f aJ
    ·exact Uo
   ·rw[Jl];dsimp only;rw[gK]
    rfl
   ·dsimp only;rw[kq];exact dC
  ·rw[Uh] at Jk;refine a7 ?_;repeat' (intro h<;>simp only[h,go_sem,go_sem_proc,ai,E,H,hS,m9,va,rC,rD,rE,qG,sN,yT]<;>try refine av ?_ ?_)
   refine dp _ _ (pre++y.2.2.drop dN) true ?_ ?_ ?_ ?_ ?_ ?_ Jk.symm E3 sM<;>simp only[eL,dA,if_false,ai,E,H,rC,rD,rE]
 ·have yT:decide ((dN:Int)<((N+1:Nat):Int))=false:=dr;have iX:y.2.2.drop dN=[]:=lq (by omega);rw[iX,acs,<-iX] at Jk;refine a7 ?_;repeat' (intro h<;>simp only[h,go_sem,go_sem_proc,ai,E,H,hS,m9,va,rC,rD,rE,qG,sN,yT]<;>try refine av ?_ ?_)
  refine dp _ _ (pre++y.2.2.drop dN) b ?_ ?_ ?_ ?_ ?_ ?_ Jk.symm E3 sM<;>simp only[eL,dA,if_false,ai,E,H,rC,rD,rE]
theorem apq (T:bk)(xk:T HZ=aX M7)(vv:T zS=Ap yR)(kf:T tF=aX w3)(k1:T u0=aX w5){K:er->a2->Prop}{kk:List fU}
  (go N r c:Nat) (mem:Mem) (As:mem 168004=none) (At:mem 168006=none) (gB:N<=40) (sL:r<N) (yU:c<N+1) (h8:List cX) (Cp:jh N h8) (x:cX) (fz:List bS) (nf:h8[r]?=some (x.1,x.2.1,fz)) (E6:Bool) (tm:Nat->M) (m:Mem)
  (cw:tm 0=.ptr 129015 0 0) (aA:tm 1=.I (.int .i64 r)) (ay:tm 2=.I (.int .i64 c)) (o5:tm 112=.ref 129035 go 1 0 N) (Ji:tm 113=.I (.int .i64 N)) (Jj:tm 114=.I (.int .i64 0)) (fX:jy mem go N h8 E6 m)
  (dp:∀tm' m',jy mem go N (ji fz r c 0 h8 E6).1 (ji fz r c 0 h8 E6).2 m'->b7 T K kk (.exit 4) ⟨tm',m'⟩) :
  wp T (xa.body.sub [1,1,1,1,1,1,1,0,1,0]) (b7 T K kk) ⟨tm,m⟩:=by
 simp only[xa,dY.sub]
 refine dG [0,1,2,112,113] [] (λ((i2,o6,kZ):Nat×List cX×Bool) tm m=>i2<=N/\D o6=i2/\ji fz r c 0 h8 E6=(o6++(ji fz r c i2 (h8.drop i2) kZ).1,(ji fz r c i2 (h8.drop i2) kZ).2)/\jh N (o6++h8.drop i2)/\(o6++h8.drop i2)[r]?=some (x.1,x.2.1,fz)/\tm 114=.I (.int .i64 i2)/\jy mem go N (o6++h8.drop i2) kZ m) (λ(i2,_,_)=>N-i2) (0,[],E6) (by
  exact⟨fr _,rfl,rfl,Cp,nf,Jj,fX⟩) ?_
 intro vs ms aV aS;simp only[go_sem,go_sem_proc,cw,aA,ay,o5,Ji] at aV aS;subst aV aS;clear cw aA ay o5 Ji Jj fX tm m;rintro⟨i2,o6,kZ⟩ tm bY J hm ⟨m2,kS,jY,rB,br,rE,uf⟩;simp only[go_sem,go_sem_proc,bf] at J hm;obtain⟨ai,E,H,rC,rD⟩:=J;have qG:=uf.1.m;have sN:=uf.1.o;have aCO:(D h8)=N:=Cp.len;rcases dX (i2<N) with E7|aCP
 ·obtain⟨y,ak⟩:∃y,h8[i2]?=some y:=⟨_,bx (by omega)⟩
  have Et:h8.drop i2=y::h8.drop (i2+1):=by
   obtain⟨aq,rfl⟩:=dM.1 ak;exact hL aq
  have vw:(o6++h8.drop i2)[i2]?=some y:=by
   rw[q4 (by omega),kS,kL,uM,n8,ak]
  obtain⟨zv,Nh⟩:=rB.row y (eU vw);have Jm:=uf.1.r y (eU vw);obtain⟨⟨⟨cG,cO⟩,⟨h1,k2⟩⟩,aU⟩:∃f,y.2.2[c]?=some f:=⟨_,bx (by omega)⟩;have vd:=Uf aU;have t1:=E1 (N:=N) vw;have t2:=Cm (N:=N) (rows:=o6++h8.drop i2) (i:=i2) (by rw[rB.len];exact E7);have t3:=E0 aU;have t4:=EZ (l:=y.2.2) (k:=c) (by omega);have jx:decide ((i2:Int)<(N:Int))=true:=dn;have hw:=gu (i:=i2) (by omega)
  have xU:∀z:cX,(o6++[z])++h8.drop (i2+1)=(o6++h8.drop i2).set i2 z:=λz=>by
   rw[Cn _ _ (by omega),kS,kL,Et,qE,gK];rfl
  have E8:(o6++[y])++h8.drop (i2+1)=o6++h8.drop i2:=by rw[xU];exact Uj vw
  have acy:∀b:Bool,(b=true->i2=r\/(cG==0)=true)->b=true->ji fz r c 0 h8 E6=((o6++[y])++(ji fz r c (i2+1) (h8.drop (i2+1)) kZ).1,(ji fz r c (i2+1) (h8.drop (i2+1)) kZ).2):=by
   intro b ad TS
   have Up:(i2==r||mI (cellOf y c))=true:=by
    rcases ad TS with h|h
    ·rw[h,beq_self_eq_true];rfl
    ·rw[vd];have:mI ((cG,cO),(h1,k2))=true:=h;rw[this,Bool.or_true]
   rw[jY,Et];simp only[ji];rw[Z Up,gK]
   rfl
  rcases o7:((i2:Int)==(r:Int))
  ·have Co:i2≠r:=by intro h;rw[h] at o7;simp at o7
   rcases Jn:(cG==0)
   ·have nT:okF ((cG,cO),(h1,k2)):=Nh _ (eU aU);simp only[go_sem,go_sem_proc,xk,ai,E,H,rC,rD,rE,qG,sN,Jm,t1,t2,t3,t4,E7,jx,yU,o7,Jn,cI];refine apg T vv kf k1 go N r c i2 mem As At gB (o6++h8.drop i2) rB x y fz vw br Co sL kZ cG cO h1 k2 nT _ _ (gf (bY 148013)) ?_ ?_ ?_ ?_ ?_ ?_ ?_ ?_ ?_ ?_ ((uf.own (.inr (.inr rfl))).own (.inr (.inr rfl))) ?_
    ·exact ai
    ·exact E
    ·exact H
    ·rfl
    ·rfl
    ·exact rC
    ·exact rD
    ·exact rE
    ·rfl
    ·simp[a3]
    ·intro tm' m' l b e5 cF dk Jo acz acA mD E3 sM;simp only[go_sem,go_sem_proc,ai,E,H,e5,cF,dk,Jo,acz,acA,hw];repeat' (first|refine av ?_ ?_|fail)<;>intro h<;>simp only[h,go_sem,go_sem_proc,ai,E,H,e5,cF,dk,Jo,acz,acA,hw]
     refine⟨(i2+1,o6++[(y.1,y.2.1,l)],b),by dsimp only;omega,by dsimp only;omega,by simp[kS],?_,by dsimp only;rw[xU];exact E3,by dsimp only;rw[xU,kz,aa Co];exact br,rfl,?_⟩
     ·have Up:¬ (i2==r||mI (cellOf y c))=true:=by
       rw[vd];have E:mI ((cG,cO),(h1,k2))=false:=Jn;have H:(i2==r)=false:=by simpa using Co
       rw[E,H];simp
      rw[jY,Et];simp only[ji];rw[aa Up,vd,<-mD,gK]
      rfl
     ·dsimp only;rw[xU];exact sM
   ·simp only[go_sem,go_sem_proc,xk,ai,E,H,rC,rD,rE,qG,sN,Jm,t1,t2,t3,t4,E7,jx,yU,hw,o7,Jn,cI];repeat' (first|refine av ?_ ?_|fail)<;>intro h<;>simp only[h,go_sem,go_sem_proc,xk,ai,E,H,rC,rD,rE,qG,sN,Jm,t1,t2,t3,t4,E7,jx,yU,hw,o7,Jn,cI]
    refine⟨(i2+1,o6++[y],kZ),by dsimp only;omega,by dsimp only;omega,by simp[kS],acy true (λ_ => .inr Jn) rfl,by dsimp only;rw[E8];exact rB,by dsimp only;rw[E8];exact br,rfl,?_⟩
    dsimp only;rw[E8];exact (uf.own (.inr (.inr rfl))).own (.inr (.inr rfl))
  ·have Co:i2=r:=by have h:=beq_iff_eq.1 o7;omega
   simp only[go_sem,go_sem_proc,xk,ai,E,H,rC,rD,rE,qG,sN,Jm,t1,t2,t3,t4,E7,jx,yU,hw,o7,cI];repeat' (first|refine av ?_ ?_|fail)<;>intro h<;>simp only[h,go_sem,go_sem_proc,xk,ai,E,H,rC,rD,rE,qG,sN,Jm,t1,t2,t3,t4,E7,jx,yU,hw,o7,cI]
   refine⟨(i2+1,o6++[y],kZ),by dsimp only;omega,by dsimp only;omega,by simp[kS],acy true (λ_ => .inl Co) rfl,by dsimp only;rw[E8];exact rB,by dsimp only;rw[E8];exact br,rfl,?_⟩
   dsimp only;rw[E8];exact (uf.own (.inr (.inr rfl))).own (.inr (.inr rfl))
 ·have b9:i2=N:=by omega
  have jx:decide ((i2:Int)<(N:Int))=false:=dr;have Lq:h8.drop i2=[]:=lq (by omega);rw[Lq] at jY uf;simp only[ji,hO] at jY uf;rw[jY] at dp;simp only[go_sem,go_sem_proc,ai,E,H,rC,rD,rE,qG,sN,jx];repeat' (first|refine av ?_ ?_|fail)<;>intro h<;>simp only[h,go_sem,go_sem_proc,ai,E,H,rC,rD,rE,qG,sN,jx]
  exact dp _ _ uf
theorem apr (T:bk)(vv:T zS=Ap yR)(ow:T BD=aX Cd){K:er->a2->Prop}{kk:List fU}
  (go N r c:Nat) (mem:Mem) (As:mem 168004=none) (At:mem 168006=none) (gB:N<=40) (sL:r<N) (hG:List cX) (E9:jh N hG) (x:cX) (xl:hG[r]?=some x) (f1:Int) (f2:List Int) (f3:Int) (f4:List Int) (ir:okF ((f1,f2),(f3,f4))) (tm:Nat->M) (m:Mem) (bz:Nat)
  (cw:tm 0=.ptr 129015 0 0) (aA:tm 1=.I (.int .i64 r)) (ay:tm 2=.I (.int .i64 c)) (dq:tm 8=.ptr 148008 bz 0) (acB:tm 85=.ref (x.1+900000) x.2.1 4 0 (N+1)) (acC:tm 86=.I (.int .i64 ((N+1:Nat):Int))) (acD:tm 87=.I (.int .i64 0))
  (em:m 148008=some (bz,[.I (.int .i64 f1),.I (.ae (f2.map af)),.I (.int .i64 f3),.I (.ae (f4.map af))])) (fX:jy mem go N hG false m)
  (dp:∀tm' m',tm' 0=.ptr 129015 0 0->tm' 1=.I (.int .i64 r)->tm' 2=.I (.int .i64 c)->jh N (hG.set r (x.1,x.2.1,(hv ((f1,f2),(f3,f4)) x.2.2).1))->jy mem go N (hG.set r (x.1,x.2.1,(hv ((f1,f2),(f3,f4)) x.2.2).1)) (hv ((f1,f2),(f3,f4)) x.2.2).2 m'->b7 T K kk (.exit 2) ⟨tm',m'⟩) :
  wp T (xa.body.sub [1,1,1,1,1,1,0,1,0]) (b7 T K kk) ⟨tm,m⟩:=by
 simp only[xa,dY.sub];obtain⟨zu,Fa⟩:=E9.row x (eU xl)
 have aps:∀l:List bS,(hG.set r (x.1,x.2.1,l))[r]?=some (x.1,x.2.1,l):=λl=>by
  rw[kz,Z rfl,Z (by rw[E9.len];exact sL)]
 refine dG [0,1,2,8,85,86] [148008] (λ(k:Nat) tm m=>k<=N+1/\tm 87=.I (.int .i64 k)/\jy mem go N (hG.set r (x.1,x.2.1,(x.2.2.take k).map (λf=>(je f ((f1,f2),(f3,f4))).1)++x.2.2.drop k)) ((x.2.2.take k).any λf=>(je f ((f1,f2),(f3,f4))).2 != 0) m) (λk=>N+1-k) 0 (by
  refine⟨fr _,acD,?_⟩;have e:hG.set r (x.1,x.2.1,(x.2.2.take 0).map (λf=>(je f ((f1,f2),(f3,f4))).1)++x.2.2.drop 0)=hG:=Uj xl;rw[e];exact fX) ?_
 intro vs ms aV aS;simp only[go_sem,go_sem_proc,cw,aA,ay,dq,acB,acC,em] at aV aS;subst aV aS;clear cw aA ay dq acB acC acD em fX tm m;rintro k tm m J hm ⟨nV,acE,fX⟩;simp only[go_sem,go_sem_proc,bf] at J hm;obtain⟨ai,E,H,bT,acF,acG⟩:=J
 have dF:((x.2.2.take k).map (λf=>(je f ((f1,f2),(f3,f4))).1)++x.2.2.drop k).length=N+1:=by
  rw[hj,al,g7,pA];omega
 have Cp:jh N (hG.set r (x.1,x.2.1,(x.2.2.take k).map (λf=>(je f ((f1,f2),(f3,f4))).1)++x.2.2.drop k)):=by
  refine E9.set xl dF λf aJ=>?_;rw[iw] at aJ;rcases aJ with aJ|aJ
  ·obtain⟨gG,-,rfl⟩:=fI.1 aJ;exact acp _ _
  ·exact Fa f (Iy aJ)
 have nf:=aps ((x.2.2.take k).map (λf=>(je f ((f1,f2),(f3,f4))).1)++x.2.2.drop k);rcases dX (k<N+1) with apt|aCQ
 ·obtain⟨⟨⟨c5,dK⟩,⟨fl,fP⟩⟩,sO⟩:∃f,x.2.2[k]?=some f:=⟨_,bx (by omega)⟩;have Um:=(apd (λf=>(je f ((f1,f2),(f3,f4))).1) (l:=x.2.2) (k:=k)).trans sO;have kq:=apc (λf=>(je f ((f1,f2),(f3,f4))).1) sO
  have HD:(x.2.2.take (k+1)).any (λf=>(je f ((f1,f2),(f3,f4))).2 != 0)=((x.2.2.take k).any (λf=>(je f ((f1,f2),(f3,f4))).2 != 0)||(je ((c5,dK),(fl,fP)) ((f1,f2),(f3,f4))).2 != 0):=by
   rw[lA,sO,List.any_append];simp
  obtain⟨apu,apv⟩:=Fa _ (eU sO);generalize (x.2.2.take k).map (λf=>(je f ((f1,f2),(f3,f4))).1)++x.2.2.drop k=cur at *;generalize ((x.2.2.take k).any λf=>(je f ((f1,f2),(f3,f4))).2 != 0)=kZ at *;have qG:=fX.1.m;have sN:=fX.1.o;have apw:=fX.1.r _ (eU nf);have lJ:m 168004=none:=(fX.2 _ Uk).trans As;have Au:m 168006=none:=(fX.2 _ Ul).trans At;have t1:=E1 (N:=N) nf;have t2:=Cm (N:=N) (rows:=hG.set r (x.1,x.2.1,cur)) (i:=r) (by rw[Cp.len];exact sL);have t3:=E0 Um;have t4:=EZ (l:=cur) (k:=k) (by omega);have yT:decide ((k:Int)<((N+1:Nat):Int))=true:=dn;have hw:=gu (i:=k) (by omega);generalize qq:je ((c5,dK),(fl,fP)) ((f1,f2),(f3,f4))=V at *;obtain⟨⟨⟨v1,v2⟩,⟨ue,v4⟩⟩,sF⟩:=V;dsimp only at kq HD;have t5:=Ug (l:=cur) (k:=k) (by omega) v1 v2 ue v4;refine a7 ?_;repeat' (intro h<;>simp only[h,go_sem,go_sem_proc,vv,ow,ai,E,H,bT,acF,acG,acE,hm,qG,sN,apw,lJ,Au,t1,t2,t3,t4,t5,yT,apt,sL,hw,qq,apu,apv,ir.1,ir.2,ef,aK,cI,yR,E4,qE,decide_true,decide_false,acw,ne_eq,not_false_eq_true,and_self]<;>try refine av ?_ ?_)
  have aA:=jy.set Cp nf (cur.set k ((v1,v2),(ue,v4))) (((fX.own (k:=148010) (g:=gf (m 148010)) (cs:=[M.I (Data.int IntKind.i64 0),M.nil,M.I (Data.int IntKind.i64 0),M.nil]) (.inr (.inl rfl))).own (k:=148010) (g:=gf (m 148010)) (cs:=[M.I (Data.int IntKind.i64 c5),M.I (Data.ae (xm af dK)),M.I (Data.int IntKind.i64 fl),M.I (Data.ae (xm af fP))]) (.inr (.inl rfl))).flag (kZ||sF != 0));rw[acx,kq] at aA;refine⟨k+1,by omega,by omega,rfl,?_⟩
  show jy mem go N _ ((x.2.2.take (k+1)).any λf=>(je f ((f1,f2),(f3,f4))).2 != 0) _;rw[HD,kq];exact aA
 ·have acH:k=N+1:=by omega
  have apx:(x.2.2.take k).map (λf=>(je f ((f1,f2),(f3,f4))).1)++x.2.2.drop k=(hv ((f1,f2),(f3,f4)) x.2.2).1:=by
   unfold hv;rw[dE (by omega),lq (by omega),hO]
  have apy:((x.2.2.take k).any λf=>(je f ((f1,f2),(f3,f4))).2 != 0)=(hv ((f1,f2),(f3,f4)) x.2.2).2:=by
   unfold hv;rw[dE (by omega)]
  rw[apx] at Cp fX;rw[apy] at fX;have yT:decide ((k:Int)<((N+1:Nat):Int))=false:=dr;refine a7 ?_;repeat' (intro h<;>simp only[h,go_sem,go_sem_proc,ai,E,H,bT,acF,acG,acE,hm,yT]<;>try refine av ?_ ?_)
  refine dp _ _ ?_ ?_ ?_ Cp fX<;>simp only[eL,dA,if_false,ai,E,H]
theorem apz (T:bk)(xk:T HZ=aX M7)(vv:T zS=Ap yR)(ow:T BD=aX Cd)(kf:T tF=aX w3)(k1:T u0=aX w5)
  (go N:Nat) (rows:List cX) (r c:Nat) (eb:Mem) (cU:jh N rows) (bJ:yS go N rows false eb) (As:eb 168004=none) (At:eb 168006=none) (gB:N<=40) (mo:r<=c) (apA:c<N) :
  wp T xa.body (ru xa.res λm mem'=>m=.I (.bool (h7 rows r c).1)/\jy eb go N (h7 rows r c).2.1 (h7 rows r c).2.2 mem') ⟨mj [.ptr 129015 0 0,.I (.int .i64 r),.I (.int .i64 c)],eb⟩:=by
 refine wo ?_;simp only[xa];simp only[go_sem,go_sem_proc];refine dG [0,1,2] [] (λ(i:Nat) tm mem=>r<=i/\i<=N/\(∀j y,r<=j->j<i->rows[j]?=some y->mI (cellOf y c)=true)/\tm 7=.I (.int .i64 i)/\mem=eb) (λi=>N-i) r (by refine⟨bM _,by omega,λj y E H=>by omega,rfl,rfl⟩) ?_;intro vs ms aV aS;simp only[go_sem,go_sem_proc] at aV aS;subst aV aS;rintro i tm mem J hm ⟨hN,acI,aR,bA,rfl⟩;simp only[go_sem,go_sem_proc,bf] at J hm;obtain⟨ai,E,H⟩:=J;have sQ:=bJ.m;have Jp:=bJ.o;have hlen:=cU.len;rcases dX (i<N) with ao|cf
 ·have O:∃x,rows[i]?=some x:=⟨_,bx (by omega)⟩;obtain⟨x,O⟩:=O;obtain⟨zu,Fa⟩:=cU.row x (eU O);have Av:=bJ.r x (eU O);have aJ:∃f,x.2.2[c]?=some f:=⟨_,bx (by omega)⟩;obtain⟨⟨⟨f1,f2⟩,⟨f3,f4⟩⟩,aJ⟩:=aJ;have acJ:=E1 (N:=N) O;have acK:=Cm (N:=N) (rows:=rows) (i:=i) (by omega);have acL:=E0 aJ;have acM:=EZ (l:=x.2.2) (k:=c) (by omega);have tv:=Uf aJ;have gU:decide ((i:Int)<(N:Int))=true:=dn;have yU:c<N+1:=by omega
  rcases sm:(f1==0)
  ·have apB:findAt rows r c=i:=ao7 O hN aR (by rw[tv];exact sm);obtain⟨vu,ov⟩:∃x,rows[r]?=some x:=⟨_,bx (by omega)⟩
   have jj:h7 rows r c=(false,ji (hv ((f1,f2),(f3,f4)) x.2.2).1 r c 0 (((rows.set r x).set i vu).set r (x.1,x.2.1,(hv ((f1,f2),(f3,f4)) x.2.2).1)) (hv ((f1,f2),(f3,f4)) x.2.2).2):=by
    unfold h7 Cl;rw[aa (by omega),apB];have:rowAt (pR rows r i) r=x:=vt (by unfold pR;rw[vt O,vt ov];exact Ui O ov);rw[this,tv];unfold pR;rw[vt O,vt ov]
   rw[jj];clear jj;have E9:jh N ((rows.set r x).set i vu):=cU.swap ov O;have apC:jy mem go N ((rows.set r x).set i vu) false _:=jy.swap ov O ⟨bJ,λ_ _=>rfl⟩;have xl:((rows.set r x).set i vu)[r]?=some x:=Ui O ov;have sL:r<N:=by omega
   have s1:=E1 (N:=N) ov;have s2:=Cm (N:=N) (rows:=rows) (i:=r) (by omega);have cM:=acq (N:=N) (rows:=rows) (i:=r) (by omega) x;have cQ:=Cm (N:=N) (rows:=rows.set r x) (i:=i) (by rw[iM];omega);have apD:=acq (N:=N) (rows:=rows.set r x) (i:=i) (by rw[iM];omega) vu;have apE:=E1 (N:=N) xl;have apF:=Cm (N:=N) (rows:=(rows.set r x).set i vu) (i:=r) (by rw[iM,iM];omega);generalize yV:(rows.set r x).set i vu=hG at *;have ir:=Fa _ (eU aJ);have aCR:decide ((i:Int)<(N:Int))=true:=gU;have apG:((i:Int)==(N:Int))=false:=by simp;omega
   simp only[go_sem,go_sem_proc,xk,vv,ai,E,H,bA,sQ,Jp,Av,acJ,acK,acL,acM,ao,gU,yU,sm,cI,sL,s1,s2,cM,cQ,apD,apE,apF,apG];refine apr T vv ow go N r c mem As At gB sL hG E9 x xl f1 f2 f3 f4 ir _ _ (gf (mem 148008)) ?_ ?_ ?_ ?_ ?_ ?_ ?_ ?_ ((apC.own (.inl rfl)).own (.inl rfl)) ?_
   ·exact ai
   ·exact E
   ·exact H
   ·rfl
   ·rfl
   ·rfl
   ·rfl
   ·simp[a3]
   intro tm' m' e5 cF dk rB uf;have qG:=uf.1.m
   have br:(hG.set r (x.1,x.2.1,(hv ((f1,f2),(f3,f4)) x.2.2).1))[r]?=some (x.1,x.2.1,(hv ((f1,f2),(f3,f4)) x.2.2).1):=by
    rw[kz,Z rfl,Z (by rw[E9.len];exact sL)]
   simp only[go_sem,go_sem_proc,e5,cF,dk,qG];refine apq T xk vv kf k1 go N r c mem As At gB sL yU _ rB x _ br _ _ _ ?_ ?_ ?_ ?_ ?_ ?_ uf ?_
   ·exact e5
   ·exact cF
   ·exact dk
   ·rfl
   ·rfl
   ·rfl
   intro aCS na sM;refine a7 ?_;repeat' (intro h<;>simp only[h,go_sem,go_sem_proc]<;>try refine av ?_ ?_)
   exact⟨_,rfl,rfl,sM⟩
  ·have hw:=gu (i:=i) (by omega);refine a7 ?_;repeat' (intro h<;>simp only[h,go_sem,go_sem_proc,xk,vv,ai,E,H,bA,sQ,Jp,Av,acJ,acK,acL,acM,ao,gU,yU,sm,hw,cI]<;>try refine av ?_ ?_)
   refine⟨i+1,by omega,by omega,by omega,?_,rfl⟩
   intro j y apH tA ak
   by_cases jL:j=i
   ·subst jL;rw[O] at ak
    cases ak;rw[tv];exact sm
   ·exact aR j y apH (by omega) ak
 ·have apI:i=N:=by omega
  subst apI;have gU:decide ((i:Int)<(i:Int))=false:=dr;have sR:=ao8 (rows:=rows) (r:=r) (c:=c) (by omega) (λj y ag ak=>aR j y ag (by have:=(dM.1 ak).1;omega) ak);have aC:h7 rows r c=(true,rows,false):=by unfold h7;rw[Z sR]
  rw[aC];refine a7 ?_;repeat' (intro h<;>simp only[h,go_sem,go_sem_proc,xk,vv,ai,E,H,bA,sQ,Jp,gU,beq_self_eq_true]<;>try refine av ?_ ?_)
  exact⟨_,rfl,rfl,bJ,λ_ _=>rfl⟩
structure Ni where
 go:Nat
 N:Nat
 rows:List cX
 r:Nat
 c:Nat
def Uq (a:Ni)(mem:Mem):Prop:=jh a.N a.rows/\yS a.go a.N a.rows false mem/\mem 168004=none/\mem 168006=none/\a.N<=40/\a.r<=a.c/\a.c<a.N
def Ur (a:Ni)(mem:Mem):M->Mem->Prop:=λm mem'=>m=.I (.bool (h7 a.rows a.r a.c).1)/\jy mem a.go a.N (h7 a.rows a.r a.c).2.1 (h7 a.rows a.r a.c).2.2 mem'
def Jq:List M->Mem->Option (M->Mem->Prop):=yQ (λ(a:Ni) args mem=>args=[.ptr 129015 0 0,.I (.int .i64 a.r),.I (.int .i64 a.c)]/\Uq a mem) Ur
theorem apJ {N:Nat}{a b:List cX}(h:refsOf N a=refsOf N b):a.map (λx=>(x.1,x.2.1))=b.map λx=>(x.1,x.2.1):=by
 induction a generalizing b with
 |nil=>cases b with
  |nil=>rfl
  |cons y r=>simp[refsOf] at h
 |cons x a aw=>cases b with
  |nil=>simp[refsOf] at h
  |cons y b =>
   simp only[refsOf,eY,bf,M.ref.injEq] at h;have E:x.1=y.1:=by have:=h.1.1;simp only[Key] at this;omega
   simp only[eY,bf,fv];exact⟨⟨E,h.1.2.1⟩,aw h.2⟩
theorem apK (a:Ni)(mem:Mem)(h:Uq a mem):Jq [.ptr 129015 0 0,.I (.int .i64 a.r),.I (.int .i64 a.c)] mem=some (Ur a mem):=by
 unfold Jq;refine ao1 (a:=a) ?_ ⟨rfl,h⟩;rintro a b args mem ⟨E,H,ab,_⟩ ⟨aM,bj,bH,_⟩;rw[E] at aM;simp only[bf,M.I.injEq,Data.int.injEq,true_and,and_true] at aM;have hm:=ab.m;rw[bH.m] at hm;simp only[b8,fv,bf,M.ref.injEq,true_and,and_true] at hm;obtain⟨⟨aU,aG⟩,-⟩:=hm;have bu:=ab.o;rw[bH.o] at bu;simp only[b8,fv] at bu;obtain⟨dy,aCT,Us,c5,dK⟩:=a;obtain⟨aCU,aCV,Ut,dR,gQ⟩:=b;dsimp only at *;subst aU aG
 have Y:Ut=Us:=by
  have bA:=apJ bu.2;have aq:(D Ut)=D Us:=by have:=congrArg D bA;simpa using this
  apply List.ext_getElem aq;intro i qi m2;have bT:(Ut.map λx=>(x.1,x.2.1))[i]?=(Us.map λx=>(x.1,x.2.1))[i]?:=by rw[bA]
  rw[bd,bd,bx qi,bx m2] at bT;simp only[iW,b8,fv] at bT;have eT:=bH.r _ (n7 qi);have ei:=ab.r _ (n7 m2);rw[bT.1,ei] at eT;simp only[b8,fv] at eT;have:=ao6 eT.2;exact eN bT.1 (eN bT.2 this.symm)
 subst Y;have aA:c5=dR:=by omega
 have ay:dK=gQ:=by omega
 subst aA ay
 rfl
theorem apL {args:List M}{mem:Mem}{bZ:M->Mem->Prop}(h:Jq args mem=some bZ):∃a,args=[.ptr 129015 0 0,.I (.int .i64 a.r),.I (.int .i64 a.c)]/\Uq a mem/\bZ=Ur a mem:=by
 obtain⟨a,⟨E,H⟩,ab⟩:=Ud h;exact⟨a,E,H,ab⟩
theorem acN (l:List bS):((l.map aK).all λe=>D e==4)=true:=by simp[aK]
abbrev Uu:List bS->List Data:=λ(l:List bS)=>[.ae (l.map aK)]
def Nj:=cy Uu λ(l:List bS)=>cW (D l<=1000000) (.own 4 (l.map aK))
theorem apM:∀a b,Uu a=Uu b->a=b:=by
  intro eE aj h;exact map_inj vl _ _ (by simpa using h)
@[go_sem] theorem aCW (l:List bS)(G:(D l)<=1000000):Nj [.ae (l.map aK)]=some (.own 4 (l.map aK)):=(cK apM l).trans (c6 G _)
theorem apN (T:bk)  (l:List bS) (G:(D l)<=1000000):WP T RJ (.own 4 (l.map aK)) [.I (.ae (l.map aK))]:=by
 refine cH ?_;simp only[RJ]
 have dm:lQ 147005 0 4 0 64 (D l) ((l.map aK).flatten.map .I) (some (0,[]))=some (.ref 147005 1 4 0 (D l),some (147005,1,aY aK l)):=by
  have:=DO mG EI 147005 0 64 [] l (by simp;omega) (by simp;omega)
  simpa [aY] using this
 have hlen:(aY aK l).length=D l*4:=kP mG l;refine a7 ?_;repeat' (intro h<;>simp only[h,go_sem,go_sem_proc,acN,dm,al]<;>try refine av ?_ ?_)
 rintro b ad
 cases b
 ·refine a7 ?_;repeat' (intro h<;>simp only[h,go_sem,go_sem_proc,acN,dm,al,oP,hlen]<;>try refine av ?_ ?_)
  rw[Z (by omega),dE (by omega)];unfold aY;rw[wB _ λd=>rfl];have:=zO (sz:=4) (l.map aK) (by intro e he;obtain⟨f,-,rfl⟩:=fI.1 he;rfl);rw[al] at this;simp[this]
 ·cases l with
  |nil =>
       refine a7 ?_;repeat' (intro h<;>simp only[h,go_sem,go_sem_proc,oP,cg]<;>try refine av ?_ ?_)
  |cons x r=>simp at ad
def g1 (rs:List eu):List cX:=rs.zipIdx.map λp=>(p.2,0,p.1.1++[p.1.2])
theorem Cq (rs:List eu):(g1 rs).length=D rs:=by simp[g1]
theorem acO {rs:List eu}{i:Nat}{r:eu}(h:rs[i]?=some r):(g1 rs)[i]?=some (i,0,r.1++[r.2]):=by
 unfold g1;rw[bd,Uv,h];simp
theorem Uw {rs:List eu}{i:Nat}{r:eu}(h:rs[i]?=some r):(g1 rs).take (i+1)=(g1 rs).take i++[(i,0,r.1++[r.2])]:=by
 rw[lA,acO h]
 rfl
theorem apO {rs:List eu}{i:Nat}{x:cX}(h:x∈(g1 rs).take i):x.1<i/\x.2.1=0:=by
 obtain⟨j,ag⟩:=pD.1 h;rw[List.getElem?_take] at ag
 split at ag
 ·rename_i jL;unfold g1 at ag;rw[bd,Uv] at ag
  cases Y:rs[j]? with
  |none=>rw[Y] at ag;cases ag
  |some r =>
   rw[Y] at ag;simp only[iW,b8] at ag;subst ag;exact⟨by simpa using jL,rfl⟩
 ·cases ag
theorem apP (N:Nat)(a b:List cX):refsOf N (a++b)=refsOf N a++refsOf N b:=by simp[refsOf]
theorem Fb (N:Nat)(a:List cX):(refsOf N a).length=D a:=by simp[refsOf]
structure yW (N:Nat) (rs:List eu) (i go:Nat) (mem:Mem):Prop where
 z:i=0->mem 129015=some (0,[.nil,.I (.int .i64 N),.I (.bool false)])
 p:0<i->mem 129015=some (0,[.ref 129035 go 1 0 i,.I (.int .i64 N),.I (.bool false)])/\mem 129035=some (go,refsOf N ((g1 rs).take i))
 r:∀x∈(g1 rs).take i,mem (x.1+900000)=some (x.2.1,aY aK x.2.2)
 n:∀j:Nat,i<=j->mem (j+900000)=none
 a:mem 168004=none
 b:mem 168006=none
theorem acP (l:List bS):(l.map aK).flatten.map M.I=aY aK l:=rfl
theorem apQ (bz:Nat)(l:List bS)(v1:Int)(v2:List Int)(ue:Int)(v4:List Int)(h:(D l)<=1000000):lQ 129029 bz 4 (D l) 64 1 [.I (.int .i64 v1),.I (.ae (v2.map af)),.I (.int .i64 ue),.I (.ae (v4.map af))] (some (bz,aY aK l))=some (.ref 129029 (bz+1) 4 0 (D l+1),some (129029,bz+1,aY aK (l++[((v1,v2),(ue,v4))]))) :=
 mw mG EI 129029 bz 64 l ((v1,v2),(ue,v4)) rfl (by omega) (by omega)
theorem apR (N bz i g:Nat)(a:List cX)(L:(D a)=i)(h:i<=1000)(m:M)(hm:m=.ref 129029 g 4 0 (N+1)):lQ 129035 bz 1 i 24 1 [m] (some (bz,refsOf N a))=some (.ref 129035 (bz+1) 1 0 (i+1),some (129035,bz+1,refsOf N a++[m])):=by
 subst hm;unfold lQ;dsimp only;rw[Z ⟨rfl,by rw[Fb];omega,by omega,by unfold maxLen;omega,rfl⟩,dE (by rw[Fb];omega)]
theorem apS {N i go go' bz:Nat}{rs:List eu}{r:eu}{m m':Mem}(ad:yW N rs i go m)(Y:rs[i]?=some r)(tX:m' 129015=some (0,[.ref 129035 go' 1 0 (i+1),.I (.int .i64 N),.I (.bool false)]))(aJ:∀k:Nat,900000<=k\/k=168004\/k=168006->m' k=m k):
  yW N rs (i+1) go' (a3 (a3 (a3 m' 129029 (bW m' 129029) []) (i+900000) (bW m' (i+900000)) (aY aK (r.1++[r.2]))) 129035 go' ((refsOf N ((g1 rs).take i)++[M.ref 129029 bz 4 0 (N+1)]).set i (M.ref (i+900000) (bW m' (i+900000)) 4 0 (N+1)))):=by
 have ao:=(dM.1 Y).1
 have aU:bW m' (i+900000)=0:=by
  unfold bW;rw[aJ _ (.inl (by omega)),ad.n i (bM _)]
 have ug:(refsOf N ((g1 rs).take i)).length=i:=by rw[Fb,g7,Cq];omega
 rw[aU]
 have o8:(refsOf N ((g1 rs).take i)++[M.ref 129029 bz 4 0 (N+1)]).set i (.ref (i+900000) 0 4 0 (N+1))=refsOf N ((g1 rs).take (i+1)):=by
  rw[Cn _ _ (by omega),ug,kL,qE,Uw Y,apP]
  rfl
 rw[o8];have Jr:∀(k:Nat),k≠129029->k≠129035->k≠i+900000->a3 (a3 (a3 m' 129029 (bW m' 129029) []) (i+900000) 0 (aY aK (r.1++[r.2]))) 129035 go' (refsOf N ((g1 rs).take (i+1))) k=m' k:=λk E H ab=>by simp[a3,E,H,ab]
 refine⟨λh=>by omega,λ_=>⟨by rw[Jr _ (by omega) (by omega) (by omega)];exact tX,by simp[a3]⟩,λx O=>?_,λj ag=>?_,?_,?_⟩
 ·rw[Uw Y,iw,yz] at O;rcases O with O|rfl
  ·obtain⟨lB,oV⟩:=apO O;rw[Jr _ (by omega) (by omega) (by omega),aJ _ (.inl (by omega))];exact ad.r x O
  ·have H:(i+900000:Nat)≠129035:=by omega
   simp[a3]
 ·rw[Jr _ (by omega) (by omega) (by omega),aJ _ (.inl (by omega))];exact ad.n j (by omega)
 ·rw[Jr _ (by omega) (by omega) (by omega),aJ _ (.inr (.inl rfl))];exact ad.a
 ·rw[Jr _ (by omega) (by omega) (by omega),aJ _ (.inr (.inr rfl))];exact ad.b
theorem acQ {K:a2->Prop}{tm:Nat->M}{N i go:Nat}(go' bz:Nat){rs:List eu}{r:eu}{m m':Mem}(ad:yW N rs i go m)(Y:rs[i]?=some r)(tX:m' 129015=some (0,[.ref 129035 go' 1 0 (i+1),.I (.int .i64 N),.I (.bool false)]))
  (Nk:m' 129035=some (go',refsOf N ((g1 rs).take i)++[.ref 129029 bz 4 0 (N+1)])) (Nl:m' 129029=some (bz,aY aK (r.1++[r.2]))) (aJ:∀k:Nat,900000<=k\/k=168004\/k=168006->m' k=m k) (h:∀a5,yW N rs (i+1) go' a5->K ⟨tm,a5⟩):kp K ⟨tm,m'⟩ .move:=by
 have ao:=(dM.1 Y).1;have ug:(refsOf N ((g1 rs).take i)).length=i:=by rw[Fb,g7,Cq];omega
 exact alm 129035 i 129029 (i+900000) Nk (by rw[q4 (by omega),ug,kL];rfl) Nl (by omega) (show (i+900000:Nat)≠129029 by omega) (show (i+900000:Nat)≠129035 by omega) (h _ (apS ad Y tX aJ))
theorem kB {m:Mem}{k g:Nat}{cs:List M}{j:Nat}(h:j≠k):a3 m k g cs j=m j:=aa h
theorem apT (T:bk)(k3:T LI=aX Nj){K:er->a2->Prop}{kk:List fU}(N:Nat)(rs:List eu)(stop:Bool)(gB:N<=40)(hlen:(D rs)=N)(x8:∀r∈rs,r.1.length=N/\xb r)(tm:Nat->M)(m:Mem)
  (aA:tm 1=.I (.int .i64 N)) (ay:tm 2=.I (.bool stop)) (dq:tm 8=.ptr 129015 0 0) (acR:tm 16=.I (.ae (rs.map jf))) (rF:tm 17=.I (.int .i64 N)) (Aw:tm 18=.I (.int .i64 0)) (ad:yW N rs 0 0 m)
  (dp:∀tm' m' go,tm' 1=.I (.int .i64 N)->tm' 2=.I (.bool stop)->tm' 8=.ptr 129015 0 0->yW N rs N go m'->b7 T K kk (.exit 0) ⟨tm',m'⟩) :
  wp T (I6.body.sub [1,1,0,1,0]) (b7 T K kk) ⟨tm,m⟩:=by
 simp only[I6,dY.sub];refine dG [1,2,8,16,17] [] (λ((i,go):Nat×Nat) tm m=>i<=N/\tm 18=.I (.int .i64 i)/\yW N rs i go m) (λ(i,_)=>N-i) (0,0) (by exact⟨fr _,Aw,ad⟩) ?_;intro vs ms aV aS;simp only[go_sem,go_sem_proc,aA,ay,dq,acR,rF] at aV aS;subst aV aS;clear aA ay dq acR rF Aw ad tm m;rintro⟨i,go⟩ tm m J hm ⟨acI,jb,ad⟩;simp only[go_sem,go_sem_proc,bf] at J hm;obtain⟨E,H,bT,rn,ky⟩:=J;rcases dX (i<N) with ao|cf
 ·obtain⟨⟨A,⟨v1,v2⟩,⟨ue,v4⟩⟩,Y⟩:∃r,rs[i]?=some r:=⟨_,bx (by omega)⟩;obtain⟨Nm,⟨acS,apU⟩,apV,tW⟩:=x8 _ (eU Y);dsimp only at Nm acS apU apV tW;have jx:decide ((i:Int)<(N:Int))=true:=dn;have hw:=gu (i:=i) (by omega);have dm:∀bz,lQ 129029 bz 4 N 64 1 _ _=_:=λbz=>Nm ▸ apQ bz A v1 v2 ue v4 acS;have acT:N<=1000000:=by omega
  have hC:(1<=maxLen)=True:=eq_true (by unfold maxLen;omega);have aCX:=Uw Y;have ug:((g1 rs).take i).length=i:=by rw[g7,Cq];omega
  rcases iU i with ai|hD
  ·have sQ:=ad.z ai;refine a7 ?_;repeat' (intro h<;>simp only[h,go_sem,go_sem_proc,k3,E,H,bT,rn,ky,jb,sQ,jx,Y,hw,acT,Nm,dm,hC,acP,al,bd,jf,aK,decide_true,decide_false,ne_eq,not_false_eq_true,and_self]<;>try refine av ?_ ?_)
   refine acQ (gf (m 129035)) (gf (m 129029)+1) ad Y (by simp[a3,ai]) (by simp[a3,ai,refsOf]) (by simp[a3]) (λk J=>?_) λa5 fh=>?_
   ·rw[kB (by omega),kB (by omega),kB (by omega),kB (by omega),kB (by omega),kB (by omega),kB (by omega)]
   ·refine a7 ?_;repeat' (intro h<;>simp only[h,go_sem,go_sem_proc,E,H,bT,rn,ky,jb,hw]<;>try refine av ?_ ?_)
    exact⟨(i+1,gf (m 129035)),by dsimp only;omega,by dsimp only;omega,rfl,fh⟩
  ·obtain⟨sQ,Jp⟩:=ad.p hD;have apW:=apR N go i (gf (m 129029)+1) ((g1 rs).take i) ug (by omega) _ rfl;refine a7 ?_;repeat' (intro h<;>simp only[h,go_sem,go_sem_proc,k3,E,H,bT,rn,ky,jb,sQ,Jp,jx,Y,hw,acT,Nm,dm,apW,acP,al,bd,jf,aK,decide_true,decide_false,ne_eq,not_false_eq_true,and_self]<;>try refine av ?_ ?_)
   refine acQ (go+1) (gf (m 129029)+1) ad Y (by simp[a3]) (by simp[a3]) (by simp[a3]) (λk J=>?_) λa5 fh=>?_
   ·rw[kB (by omega),kB (by omega),kB (by omega),kB (by omega),kB (by omega),kB (by omega),kB (by omega)]
   ·refine a7 ?_;repeat' (intro h<;>simp only[h,go_sem,go_sem_proc,E,H,bT,rn,ky,jb,hw]<;>try refine av ?_ ?_)
    exact⟨(i+1,go+1),by dsimp only;omega,by dsimp only;omega,rfl,fh⟩
 ·have jx:decide ((i:Int)<(N:Int))=false:=dr;obtain rfl:i=N:=by omega
  refine a7 ?_;repeat' (intro h<;>simp only[h,go_sem,go_sem_proc,E,H,bT,rn,ky,jb,jx]<;>try refine av ?_ ?_)
  refine dp _ _ go ?_ ?_ ?_ ad<;>simp only[eL,dA,if_false,E,H,bT]
def k4 (stop:Bool):Nat->Nat->List cX->List Nat->Bool->List cX×List Nat×Bool
 |0,_,rows,free,bad=>(rows,free,bad)
 |_+1,_,rows,free,true=>(rows,free,true)
 |k+1,c,rows,free,false =>
  if (h7 rows (c-D free) c).1=true then
   (if stop=true then ((h7 rows (c-D free) c).2.1,free++[c],(h7 rows (c-D free) c).2.2) else k4 stop k (c+1) (h7 rows (c-D free) c).2.1 (free++[c]) (h7 rows (c-D free) c).2.2)
  else k4 stop k (c+1) (h7 rows (c-D free) c).2.1 free (h7 rows (c-D free) c).2.2
theorem acU (stop:Bool)(k c:Nat)(rows:List cX)(free:List Nat):k4 stop k c rows free true=(rows,free,true):=by
 cases k<;>rfl
def hX (n:Nat):List Data:=[.int .i64 n]
theorem xn (n:Nat):(hX n).length=1:=rfl
theorem acV (n:Nat):((hX n).map M.I).all M.one=true:=rfl
def Ux (N:Nat)(rows:List cX)(bad:Bool):Data:=.ptr [.ae (rows.map λx=>[.ae (x.2.2.map aK)]),.int .i64 N,.bool bad]
def Fc (N:Nat)(p:List cX×List Nat×Bool):Data:=.cq [Ux N p.1 p.2.2,.ae (p.2.1.map hX)]
theorem Nn (fz:List bS)(r c:Nat):∀(i:Nat) (l:List cX) (b:Bool),(ji fz r c i l b).1.map (λx=>(x.1,x.2.1,x.2.2.length))=l.map λx=>(x.1,x.2.1,x.2.2.length)
 |_,[],_=>rfl
 |i,x::xs,b=>by
  unfold ji
  split
  ·simp only[eY,Nn fz r c (i+1) xs b]
  ·simp only[eY,Nn fz r c (i+1) xs,acr]
theorem acW (fe:bS):∀(l p:List bS) (b:Bool),(∀f∈l,okF f)->∀f∈(iD fe l p b).1,okF f
 | [],p,b,h=>by rw[acs];exact h
 |f::dj,[],b,h=>by cases b<;>(simp only[iD];exact h)
 |f::dj,p::cS,true,h=>by simp only[iD];exact h
 |f::dj,p::cS,false,h=>by
  simp only[iD];intro g aU;rcases nM.1 aU with rfl|aU
  ·exact aco _ _
  ·exact acW fe dj cS _ (λx O=>h x (hY _ O)) g aU
theorem Uy (fz:List bS)(r c:Nat):∀(i:Nat) (l:List cX) (b:Bool),(∀x∈l,∀f∈x.2.2,okF f)->∀x∈(ji fz r c i l b).1,∀f∈x.2.2,okF f
 |_,[],_,h=>h
 |i,x::xs,b,h=>by
  unfold ji
  split
  ·intro y ak;rcases nM.1 ak with rfl|ak
   ·exact h _ ha
   ·exact Uy fz r c (i+1) xs b (λz aR=>h z (hY _ aR)) y ak
  ·intro y ak;rcases nM.1 ak with rfl|ak
   ·exact acW _ _ _ _ (h _ ha)
   ·exact Uy fz r c (i+1) xs _ (λz aR=>h z (hY _ aR)) y ak
theorem acX (rows:List cX)(r c:Nat)(Y:r<=D rows):r<=findAt rows r c/\findAt rows r c<=D rows:=by
 unfold findAt;have:=acY (p:=λx => !mI (cellOf x c)) (xs:=rows.drop r);rw[pA] at this;omega
theorem jh.Cr {N:Nat}{rows:List cX}(h:jh N rows){r c:Nat}(Y:r<N):jh N (h7 rows r c).2.1:=by
 unfold h7
 split
 ·exact h
 ·rename_i bP;have ir:=acX rows r c (by rw[h.len];omega);have aq:=h.len;obtain⟨x,O⟩:∃x,rows[findAt rows r c]?=some x:=⟨_,bx (by omega)⟩;obtain⟨vu,ov⟩:∃x,rows[r]?=some x:=⟨_,bx (by omega)⟩
  have yV:jh N (pR rows r (findAt rows r c)):=by
   unfold pR;rw[vt O,vt ov];exact h.swap ov O
  have xl:(pR rows r (findAt rows r c))[r]?=some x:=by
   unfold pR;rw[vt O,vt ov];exact Ui O ov
  generalize pR rows r (findAt rows r c)=hG at *;obtain⟨zu,Fa⟩:=yV.row x (eU xl)
  have yx:jh N (Cl hG r c):=by
   unfold Cl;rw[vt xl];refine yV.set xl (by simp[hv,zu]) λf aJ=>?_;obtain⟨g,-,rfl⟩:=fI.1 aJ;exact acp _ _
  generalize Cl hG r c=h8 at *;have ob:=Nn (hv (cellOf (rowAt hG r) c) (rowAt hG r).2.2).1 r c 0 h8 (hv (cellOf (rowAt hG r) c) (rowAt hG r).2.2).2;have cU:=Uy (hv (cellOf (rowAt hG r) c) (rowAt hG r).2.2).1 r c 0 h8 (hv (cellOf (rowAt hG r) c) (rowAt hG r).2.2).2 λx O=>(yx.row x O).2;dsimp only;generalize (ji (hv (cellOf (rowAt hG r) c) (rowAt hG r).2.2).1 r c 0 h8 (hv (cellOf (rowAt hG r) c) (rowAt hG r).2.2).2).1=el at *;refine⟨?_,?_,λy ak=>⟨?_,cU y ak⟩⟩
  ·have:=congrArg D ob;rw[al,al] at this;rw[this,yx.len]
  ·have E:el.map (·.1)=h8.map (·.1):=by
    have:=congrArg (xm λp:Nat×Nat×Nat=>p.1) ob
    simpa [oN,Function.comp_def] using this
   rw[E];exact yx.Nf
  ·have E:el.map (λx=>x.2.2.length)=h8.map λx=>x.2.2.length:=by
    have:=congrArg (xm λp:Nat×Nat×Nat=>p.2.2) ob
    simpa [oN,Function.comp_def] using this
   have H:y.2.2.length∈h8.map λx=>x.2.2.length:=by rw[<-E];exact fI.2 ⟨y,ak,rfl⟩
   obtain⟨z,aR,e⟩:=fI.1 H;rw[<-e];exact (yx.row z aR).1
theorem apX {n k g N:Nat}{mem:Mem}{l:List bS}(aq:(D l)=N+1)(hm:mem k=some (g,aY aK l)):cZ (n+1) mem (.ref k g 4 0 (N+1))=some (.ae (l.map aK)):=by
 rw[<-aq];exact pB mG hm
theorem apY {n N:Nat}{mem:Mem}{rows:List cX}(h:∀x∈rows,mem (x.1+900000)=some (x.2.1,aY aK x.2.2))(aq:∀x∈rows,x.2.2.length=N+1):(refsOf N rows).mapM (cZ (n+1) mem)=some (rows.map λx => .ae (x.2.2.map aK)):=by
 unfold refsOf
 induction rows with
 |nil=>rfl
 |cons x xs aw =>
  have E:=apX (n:=n) (aq x ha) (h x ha);have H:=aw (λy ak=>h y (hY _ ak)) λy ak=>aq y (hY _ ak);simp only[eY,mn,E,H]
  rfl
theorem Uz {n N go:Nat}{mem:Mem}{rows:List cX}{bad:Bool}(cU:jh N rows)(h:yS go N rows bad mem):cZ (n+3) mem (.ptr 129015 0 0)=some (Ux N rows bad):=by
 have E:=apY (n:=n) h.r λx O=>(cU.row x O).1
 have H:cZ (n+2) mem (.ref 129035 go 1 0 N)=some (.ae (rows.map λx=>[.ae (x.2.2.map aK)])):=by
  unfold cZ;rw[h.o];simp only[if_true];unfold cut;rw[Z (by rw[Fb,cU.len];omega),mv,dE (by rw[Fb,cU.len];omega)];dsimp only;rw[E];have:=zO (sz:=1) (rows.map λx=>[Data.ae (x.2.2.map aK)]) (by intro e he;obtain⟨x,-,rfl⟩:=fI.1 he;rfl);rw[al,cU.len] at this;simp only[iW,b8,Data.ae.injEq]
  have ir:∀l:List cX,(l.map λx=>Data.ae (x.2.2.map aK))=(l.map λx=>[Data.ae (x.2.2.map aK)]).flatten:=by
   intro l
   induction l with
   |nil=>rfl
   |cons x xs aw=>simp only[eY,ko,aw];rfl
  rw[ir,this]
 unfold cZ;rw[h.m];simp only[if_true,mv,mn,List.mapM_nil,H,true_and,fr];simp only[Ly]
 rfl
theorem yW.apZ {N go:Nat}{rs:List eu}{m:Mem}(aq:(D rs)=N)(gB:0<N)(h:yW N rs N go m):yS go N (g1 rs) false m:=by
 have bI:(g1 rs).take N=g1 rs:=dE (by rw[Cq];omega);have aC:=h.p gB;rw[bI] at aC;exact⟨aC.1,aC.2,by have:=h.r;rw[bI] at this;exact this⟩
theorem yS.other {go N:Nat}{rows:List cX}{bad:Bool}{mem:Mem}{k g:Nat}{cs:List M}(h:yS go N rows bad mem)(E:k≠129015)(H:k≠129035)(ab:k<900000):yS go N rows bad (a3 mem k g cs) :=
 ⟨(kB (Ne.symm E)).trans h.m,(kB (Ne.symm H)).trans h.o,λx O=>(kB (show (x.1+900000:Nat)≠k by omega)).trans (h.r x O)⟩
theorem acZ {N:Nat}{rs:List eu}(aq:(D rs)=N)(h:∀r∈rs,r.1.length=N/\xb r):jh N (g1 rs):=by
 refine⟨by rw[Cq,aq],?_,λx O=>?_⟩
 ·have:(g1 rs).map (·.1)=dQ (D rs):=by
   unfold g1;rw[oN];apply q6;intro i;rw[bd,Uv];rcases hK i (D rs) with h|h
   ·rw[bx h];simp[h]
   ·rw[lr h];simp[h]
  rw[this];exact ac0
 ·unfold g1 at O;obtain⟨⟨r,i⟩,aC,rfl⟩:=fI.1 O;have Y:=List.fst_mem_of_mem_zipIdx aC;obtain⟨E,H,ab⟩:=h r Y;refine⟨by simp[E],λf aJ=>?_⟩
  rw[iw,yz] at aJ;rcases aJ with aJ|rfl
  ·exact H.2 f aJ
  ·exact ab
abbrev UA:(List eu)×Int×Bool->List Data:=λ(rs,n,stop)=>[.ae (rs.map jf),.int .i64 n,.bool stop]
def Np:=cy UA λ(rs,n,stop)=>cW ((D rs:Int)=n/\D rs<=40/\∀r∈rs,r.1.length=D rs/\xb r) (.same (Fc (D rs) (k4 stop (D rs) 0 (g1 rs) [] false)))
theorem ap0:∀a b,UA a=UA b->a=b:=by
  rintro⟨abT,iv,aCY⟩ ⟨abU,jr,aCZ⟩ h;simp only[bf,Data.ae.injEq,Data.int.injEq,Data.bool.injEq] at h;exact eN (map_inj Tq _ _ h.1) (eN h.2.1.2 h.2.2.1)
@[go_sem] theorem ap1 (rs:List eu)(n:Int)(stop:Bool)(G:(D rs:Int)=n/\D rs<=40/\∀r∈rs,r.1.length=D rs/\xb r):Np [.ae (rs.map jf),.int .i64 n,.bool stop]=some (.same (Fc (D rs) (k4 stop (D rs) 0 (g1 rs) [] false))):=(cK ap0 (rs,n,stop)).trans (c6 G _)
theorem ap2 (T:bk)(k3:T LI=aX Nj)(mJ:T QW=xe Jq)(rs:List eu)(n:Int)(stop:Bool)(G:(D rs:Int)=n/\D rs<=40/\∀r∈rs,r.1.length=D rs/\xb r):WP T I6 (.same (Fc (D rs) (k4 stop (D rs) 0 (g1 rs) [] false))) [.I (.ae (rs.map jf)),.I (.int .i64 n),.I (.bool stop)]:=by
 refine cH ?_;simp only[I6];obtain⟨aG,gB,x8⟩:=G;subst aG;simp only[go_sem,go_sem_proc,k3,mJ,al];generalize UB:(D rs)=N at *;refine apT T k3 N rs stop gB UB x8 _ _ rfl rfl rfl rfl rfl rfl ⟨λ_=>by simp[a3],λh=>by omega,λx O=>by simp at O,λj _=>kB (show (j+900000:Nat)≠129015 by omega),kB (by omega),kB (by omega)⟩ ?_
 intro tm m go E H bT ad;rcases iU N with ai|hD
 ·have oU:rs=[]:=List.eq_nil_of_length_eq_zero (by omega);have aR:=ad.z ai;subst ai;subst oU;simp only[go_sem,go_sem_proc,k3,mJ,E,H,bT];refine dG [1,2,8] [129015] (λ(_:Unit) tm' m'=>tm' 11=.ref 129061 (gf (m 129061)) 1 0 0/\m' 129061=some (gf (m 129061),[])/\tm' 12=.I (.int .i64 0)) (λ_=>0) () (by refine⟨rfl,?_,rfl⟩;simp[a3]) ?_;intro vs ms aV aS;simp only[go_sem,go_sem_proc,k3,mJ,E,H,bT,aR] at aV aS;subst aV aS;rintro _ tm' m' J hm ⟨lD,Fe,lE⟩;simp only[go_sem,go_sem_proc,k3,mJ,bf] at J hm;obtain⟨cF,dk,hr⟩:=J;simp only[go_sem,go_sem_proc,k3,mJ,cF,dk,hr,hm,lD,Fe,lE,show decide ((0:Int)<((0:Nat):Int))=false from rfl,cZ,v8,mv];repeat' (first|refine av ?_ ?_|fail)<;>intro h<;>simp only[h,go_sem,go_sem_proc,k3,mJ,cF,dk,hr,hm,lD,Fe,lE,show decide ((0:Int)<((0:Nat):Int))=false from rfl,cZ,v8,mv]
  rfl
 ·have yX:=ad.apZ UB hD;have cU:=acZ UB x8;have Js:=ad.a;have Jt:=ad.b;clear ad;simp only[go_sem,go_sem_proc,k3,mJ,E,H,bT]
  refine dG [1,2,8] [] (λ((c,rows,free,bad,g):Nat×List cX×List Nat×Bool×Nat) tm m=>c<=N/\D free<=c/\k4 stop N 0 (g1 rs) [] false=k4 stop (N-c) c rows free bad/\jh N rows/\yS go N rows bad m/\m 168004=none/\m 168006=none/\tm 11=.ref 129061 g 1 0 (D free)/\m 129061=some (g,aY hX free)/\tm 12=.I (.int .i64 c)) (λ(c,_,_,_,_)=>N-c) (0,g1 rs,[],false,gf (m 129061)) (by
   refine⟨fr _,bM _,rfl,cU,⟨?_,?_,λx O=>?_⟩,?_,?_,rfl,?_,rfl⟩
   ·rw[kB (by omega)];exact yX.m
   ·rw[kB (by omega)];exact yX.o
   ·rw[kB (show (x.1+900000:Nat)≠129061 by omega)];exact yX.r x O
   ·rw[kB (by omega)];exact Js
   ·rw[kB (by omega)];exact Jt
   ·simp[a3,aY]) ?_
  intro vs ms aV aS;simp only[go_sem,go_sem_proc,k3,mJ,E,H,bT] at aV aS;subst aV aS;clear E H bT yX Js Jt;rintro⟨c,rows,free,bad,g⟩ tm m J hm ⟨apA,aC0,jY,cU,yX,Js,Jt,lD,Fe,lE⟩;simp only[go_sem,go_sem_proc,k3,mJ,bf] at J hm;obtain⟨E,H,bT⟩:=J;have sQ:=yX.m
  have Sv:k4 stop N 0 (g1 rs) [] false=(rows,free,bad)->((cZ 5 m (.ptr 129015 0 0)).bind λd=>(cZ 5 m (.ref 129061 g 1 0 (D free))).bind λe=>some (Data.cq [d,e]))=some (Fc N (k4 stop N 0 (g1 rs) [] false)):=by
   intro h;rw[h,Uz (n:=2) cU yX,pB xn Fe]
   rfl
  have Nq:=Uz (n:=2) cU yX;have Ff:=pB (n:=4) xn Fe;rcases dX (c<N) with ao|cf
  ·have dF:decide ((c:Int)<(N:Int))=true:=dn
   cases bad
   ·have nP:IntKind.i64.wrap ((c:Int)-(D free:Int))=((c-D free:Nat):Int):=by rw[eC _];omega
    have e9:=gu (i:=c) (by omega);have fi:=apK ⟨go,N,rows,c-D free,c⟩ m ⟨cU,yX,Js,Jt,gB,Nat.sub_le _ _,ao⟩;dsimp only at fi;have UC:N-c=(N-(c+1))+1:=by omega
    rw[UC] at jY;simp only[k4] at jY;have E2:=cU.Cr (r:=c-D free) (c:=c) (by omega);simp only[go_sem,go_sem_proc,k3,mJ,mJ,E,H,bT,lD,lE,sQ,dF,nP,fi];intro Cj m' jK;obtain⟨Jb,fX⟩:=jK;dsimp only at Jb fX;subst Jb;have lJ:m' 168004=none:=(fX.2 _ Uk).trans Js;have Au:m' 168006=none:=(fX.2 _ Ul).trans Jt;have Ju:m' 129061=some (g,aY hX free):=(fX.2 129061 (by unfold EX;omega)).trans Fe;have dm:lQ 129061 g 1 (D free) 8 1 [.I (.int .i64 c)] (some (g,aY hX free))=_:=mw xn acV 129061 g 8 free c rfl (by omega) (by omega);generalize aC1:h7 rows (c-D free) c=dx at *;obtain⟨ap3,ac1,ac2⟩:=dx;dsimp only at *
    cases ap3
    ·simp only[jU,if_false] at jY;simp only[go_sem,go_sem_proc,k3,mJ,E,H,bT,lD,lE,e9];repeat' (first|refine av ?_ ?_|fail)<;>intro h<;>simp only[h,go_sem,go_sem_proc,k3,mJ,E,H,bT,lD,lE,e9]
     exact⟨(c+1,ac1,free,ac2,g),by dsimp only;omega,by dsimp only;omega,by dsimp only;omega,jY,E2,fX.1,lJ,Au,rfl,Ju,rfl⟩
    ·simp only[if_true] at jY;have ac3:=fX.1.other (k:=129061) (g:=g+1) (cs:=aY hX (free++[c])) (by omega) (by omega) (by omega)
     cases stop
     ·simp only[jU,if_false] at jY;simp only[go_sem,go_sem_proc,k3,mJ,E,H,bT,lD,lE,e9,Ju,dm];repeat' (first|refine av ?_ ?_|fail)<;>intro h<;>simp only[h,go_sem,go_sem_proc,k3,mJ,E,H,bT,lD,lE,e9,Ju,dm]
      exact⟨(c+1,ac1,free++[c],ac2,g+1),by dsimp only;omega,by dsimp only;omega,by simp;omega,jY,E2,ac3,lJ,Au,by simp,rfl,rfl⟩
     ·simp only[if_true] at jY;simp only[go_sem,go_sem_proc,k3,mJ,E,H,bT,lD,lE,e9,Ju,dm];repeat' (first|refine av ?_ ?_|fail)<;>intro h<;>simp only[h,go_sem,go_sem_proc,k3,mJ,E,H,bT,lD,lE,e9,Ju,dm]
      have Ax:(D free)+1=(free++[c]).length:=by simp
      rw[Uz (n:=2) E2 ac3,Ax,pB (n:=4) xn (g:=g+1) (l:=free++[c]) (by simp[a3]),jY]
      rfl
   ·rw[acU] at jY;simp only[go_sem,go_sem_proc,k3,mJ,E,H,bT,lD,lE,sQ,dF,Nq,Ff];repeat' (first|refine av ?_ ?_|fail)<;>intro h<;>simp only[h,go_sem,go_sem_proc,k3,mJ,E,H,bT,lD,lE,sQ,dF,Nq,Ff]
    rw[jY]
    rfl
  ·have dF:decide ((c:Int)<(N:Int))=false:=dr;have UC:N-c=0:=by omega
   rw[UC] at jY;simp only[k4] at jY;simp only[go_sem,go_sem_proc,k3,mJ,E,H,bT,lD,lE,sQ,dF,Nq,Ff];repeat' (first|refine av ?_ ?_|fail)<;>intro h<;>simp only[h,go_sem,go_sem_proc,k3,mJ,E,H,bT,lD,lE,sQ,dF,Nq,Ff]
   rw[jY]
   rfl
theorem UD {rs:List eu}{n:Int}(bu:qD rs)(h:nj rs n=true):(D rs:Int)=n/\D rs<=40/\∀r∈rs,r.1.length=D rs/\xb r:=by
 unfold nj at h;simp only[e3,Ck,decide_eq_false_iff_not,beq_iff_eq] at h;obtain⟨E,H,ab,aM⟩:=h;refine⟨ab,by omega,λr Y=>⟨?_,bu.2 r Y⟩⟩
 rw[Fg] at aM;have:=aM r Y;unfold nU at this;simp at this;omega
theorem UE {stop:Bool}{N:Nat}:∀(k c:Nat) (rows:List cX) (free:List Nat) (bad:Bool),c+k=N->jh N rows->jh N (k4 stop k c rows free bad).1
 |0,_,rows,_,_,_,h=>h
 |k+1,c,rows,free,true,G,h=>h
 |k+1,c,rows,free,false,G,h=>by
  have aC:=h.Cr (r:=c-D free) (c:=c) (by omega);unfold k4
  split
  ·split
   ·exact aC
   ·exact UE k (c+1) _ _ _ (by omega) aC
  ·exact UE k (c+1) _ _ _ (by omega) aC
def pT (stop:Bool)(rs:List eu):List cX×List Nat×Bool:=k4 stop (D rs) 0 (g1 rs) [] false
theorem UF (stop:Bool):∀(k c:Nat) (rows:List cX) (free:List Nat) (bad:Bool),(k4 stop k c rows free bad).2.1.length<=D free+k
 |0,_,_,_,_=>by simp[k4]
 |k+1,c,rows,free,true=>by simp[k4]
 |k+1,c,rows,free,false=>by
  unfold k4
  split
  ·split
   ·simp
   ·have:=UF stop k (c+1) (h7 rows (c-D free) c).2.1 (free++[c]) (h7 rows (c-D free) c).2.2;simp at this;omega
  ·have:=UF stop k (c+1) (h7 rows (c-D free) c).2.1 free (h7 rows (c-D free) c).2.2;omega
theorem ap4 (stop:Bool)(rs:List eu):(pT stop rs).2.1.length<=D rs:=by
 have:=UF stop (D rs) 0 (g1 rs) [] false;unfold pT
 simpa using this
theorem ap5 {rs:List eu}{stop:Bool}(h:∀r∈rs,r.1.length=D rs/\xb r):jh (D rs) (pT stop rs).1:=UE _ _ _ _ _ (by omega) (acZ rfl h)
def uh (N:Nat)(x:cX):bS:=x.2.2.getD N dT
def pU (rs:List eu)(n:Int):List bS×Int :=
 if nj rs n=true then (if (pT true rs).2.2=true then ([],6) else if (pT true rs).2.1.length>0 then ([],17) else ((pT true rs).1.map (uh (D rs)),0)) else ([],1)
theorem ap6 {N:Nat}{x:cX}{f:bS}(h:x.2.2[N]?=some f):uh N x=f:=by
 unfold uh;rw[ea,h]
 rfl
def UG:=cy MT λ(rs,n)=>cW (qD rs) (.same (.cq [.ae ((pU rs n).1.map aK),.int .i64 (pU rs n).2]))
@[go_sem] theorem ap7 (rs:List eu)(n:Int)(G:qD rs):UG [.ae (rs.map jf),.int .i64 n]=some (.same (.cq [.ae ((pU rs n).1.map aK),.int .i64 (pU rs n).2])):=(cK abV (rs,n)).trans (c6 G _)
theorem ap8 (T:bk)(Ay:T QJ=aX Tz)(Az:T QP=aX Np)(rs:List eu)(n:Int)(G:qD rs):WP T Tg (.same (.cq [.ae ((pU rs n).1.map aK),.int .i64 (pU rs n).2])) [.I (.ae (rs.map jf)),.I (.int .i64 n)]:=by
 refine cH ?_;simp only[Tg];unfold pU;rcases Y:nj rs n
 ·refine a7 ?_;repeat' (intro h<;>simp only[h,go_sem,go_sem_proc,Ay,Az,G,Y,cg]<;>try refine av ?_ ?_)
 ·have cU:=ap5 (stop:=true) (UD G Y).2.2;have e4:Np [.ae (rs.map jf),.int .i64 n,.bool true]=some (.same (Fc (D rs) (pT true rs))):=ap1 rs n true (UD G Y);have ir:=ap4 true rs;obtain⟨aG,gB,-⟩:=UD G Y;rcases fN:pT true rs with ⟨rows,free,bad⟩;rw[fN] at ir cU e4;dsimp only at ir cU;simp only[Fc,Ux] at e4
  cases bad
  ·cases free with
   |nil =>
    simp only[go_sem,go_sem_proc,Ay,Az,G,Y,e4,al,show decide (((0:Nat):Int)>0)=false from rfl,cg];rw[aa (by simp)];refine dG [1,33,34] [] (λ((i,g):Nat×Nat) tm m=>i<=D rs/\tm 35=.I (.int .i64 i)/\tm 8=.ref 109045 g 4 0 i/\m 109045=some (g,aY aK ((rows.take i).map (uh (D rs))))) (λ(i,_)=>D rs-i) (0,0) (by refine⟨fr _,rfl,rfl,?_⟩;simp[a3,aY,bW,emp]) ?_;intro vs ms aV aS;simp only[go_sem,go_sem_proc,Ay,Az] at aV aS;subst aV aS;rintro⟨i,g⟩ tm m J hm ⟨acI,Nk,bT,UH⟩;simp only[go_sem,go_sem_proc,Ay,Az,bf] at J hm;obtain⟨E,IM,ac4⟩:=J;have bV:=cU.len;rcases dX (i<D rs) with ao|cf
    ·obtain⟨x,O⟩:∃x,rows[i]?=some x:=⟨_,bx (by omega)⟩;obtain⟨zu,Fa⟩:=cU.row x (eU O);obtain⟨⟨⟨c5,dK⟩,⟨fl,fP⟩⟩,sO⟩:∃f,x.2.2[D rs]?=some f:=⟨_,bx (by omega)⟩;have j3:=ap6 sO;have ug:((rows.take i).map (uh (D rs))).length=i:=by rw[al,g7];omega
     have dm:=mw mG EI 109045 g 64 ((rows.take i).map (uh (D rs))) ((c5,dK),(fl,fP)) (cs:=[.I (.int .i64 c5),.I (.ae (dK.map af)),.I (.int .i64 fl),.I (.ae (fP.map af))]) rfl (by omega) (by omega);rw[ug] at dm
     have ap9:(rows.take (i+1)).map (uh (D rs))=(rows.take i).map (uh (D rs))++[((c5,dK),(fl,fP))]:=by
      rw[lA,O,k0];simp[j3]
     have jx:decide ((i:Int)<(D rs:Int))=true:=dn;have UI:decide ((i:Int)<(D rows:Int))=true:=dn;have hw:=gu (i:=i) (by omega);have nF:decide (0<=n)=true:=dn;have Fh:n=((D rs:Nat):Int):=aG.symm;refine a7 ?_;repeat' (intro h<;>simp only[h,go_sem,go_sem_proc,Ay,Az,E,IM,ac4,Nk,bT,UH,O,sO,dm,jx,UI,hw,Fh,al,bd,aK]<;>try refine av ?_ ?_)
     exact⟨(i+1,g+1),by dsimp only;omega,by dsimp only;omega,rfl,rfl,by dsimp only;rw[ap9]⟩
    ·have b9:i=D rs:=by omega
     have UI:decide ((i:Int)<(D rows:Int))=false:=dr;have e1:rows.take i=rows:=dE (by omega);rw[e1] at UH
     have jM:∀n,cZ (n+1) m (.ref 109045 g 4 0 i)=some (.ae ((rows.map (uh (D rs))).map aK)):=λn=>by
      have:=pB (n:=n) mG UH;rw[show (rows.map (uh (D rs))).length=i by rw[al];omega] at this
      exact this
     have aqa:=jM 4;refine a7 ?_;repeat' (intro h<;>simp only[h,go_sem,go_sem_proc,Ay,Az,E,IM,ac4,Nk,bT,UI,aqa]<;>try refine av ?_ ?_)
   |cons f dj =>
    have ic:decide ((((f::dj).length:Nat):Int)>0)=true:=kH (by simp only[kJ];omega);simp only[kJ] at ic;refine a7 ?_;repeat' (intro h<;>simp only[h,go_sem,go_sem_proc,Ay,Az,G,Y,e4,al,ic,cg]<;>try refine av ?_ ?_)
    rw[Z (by omega)]
    rfl
  ·refine a7 ?_;repeat' (intro h<;>simp only[h,go_sem,go_sem_proc,Ay,Az,G,Y,e4,al,cg]<;>try refine av ?_ ?_)
def UJ:b5:=cx 30 2 [.t 4,.t 5] (R [(az 4 (.cn (.c (.I (.int .u64 0))))),(az 5 (.cn (.c (.I (.int .u64 0)))))] (.seq (.cond (.c (.I (.bool false))) (R [F 11 0,(az 12 (.conv .u32 (.t 11))),F 13 1,(az 14 (.conv .u32 (.t 13))),(cj 15 alU 12 14),F 10 15,bt 16 0 10,bt 17 1 10,F 6 16,F 7 17] (R [F 18 6,(az 19 (.conv .u64 (.t 18))),F 20 7,(az 21 (.conv .u64 (.t 20))),F 4 19,F 5 21] .ret)) .skip) (R [F 23 0,F 24 1,(cj 25 Q2 23 24),F 22 25,bt 26 0 22,bt 27 1 22,F 8 26,F 9 27] (R [F 28 8,F 29 9,F 4 28,F 5 29] .ret))))
def UK:b5:=cx 51 2 [.t 4,.t 5] (R [(az 4 (.cn (.c (.I (.int .u64 0))))),(az 5 (.cn (.c (.I (.int .u64 0)))))] (R [F 14 0,(az 15 (.bin .and (.t 14) (.c (.I (.int .u64 4294967295))))),F 6 15] (R [F 16 0,(az 17 (.bin .shr (.t 16) (.c (.I (.int .u64 32))))),F 7 17] (R [F 18 1,(az 19 (.bin .and (.t 18) (.c (.I (.int .u64 4294967295))))),F 8 19] (R [F 20 1,(az 21 (.bin .shr (.t 20) (.c (.I (.int .u64 32))))),F 9 21] (R [F 22 6,F 23 8,bC 24 .mul 22 23,F 10 24] (R [F 25 7,F 26 8,bC 27 .mul 25 26,F 28 10,(az 29 (.bin .shr (.t 28) (.c (.I (.int .u64 32))))),bC 30 .add 27 29,F 11 30] (R [F 31 11,(az 32 (.bin .and (.t 31) (.c (.I (.int .u64 4294967295))))),F 12 32] (R [F 33 11,(az 34 (.bin .shr (.t 33) (.c (.I (.int .u64 32))))),F 13 34] (R [F 35 12,F 36 6,F 37 9,bC 38 .mul 36 37,bC 39 .add 35 38,F 12 39] (R [F 40 7,F 41 9,bC 42 .mul 40 41,F 43 13,bC 44 .add 42 43,F 45 12,(az 46 (.bin .shr (.t 45) (.c (.I (.int .u64 32))))),bC 47 .add 44 46,F 4 47] (R [F 48 0,F 49 1,bC 50 .mul 48 49,F 5 50] .ret))))))))))))
theorem UL:∀y:Nat,y<41->bits .and .u64 (y:Int) 4294967295=y:=by decide
theorem aqb (y:Nat)(h:y<41):(y:Int).fdiv 4294967296=0:=by
 rw[Int.fdiv_eq_ediv_of_nonneg _ (by omega)];omega
abbrev Nr:Nat->List Data:=λ(y:Nat)=>[.int .u64 1,.int .u64 y]
def UM:=cy Nr λ(y:Nat)=>cW (y<41) (.same (.cq [.int .u64 0,.int .u64 y]))
theorem ac5:∀a b,Nr a=Nr b->a=b:=by
  intro sq sr h;simp only[bf,Data.int.injEq] at h;omega
@[go_sem] theorem aC2 (y:Nat)(G:y<41):UM [.int .u64 1,.int .u64 y]=some (.same (.cq [.int .u64 0,.int .u64 y])):=(cK ac5 y).trans (c6 G _)
theorem aqc (T:bk)  (y:Nat) (G:y<41):WP T UK (.same (.cq [.int .u64 0,.int .u64 y])) [.I (.int .u64 1),.I (.int .u64 y)]:=by
 refine cH ?_;simp only[UK];have E:=UL y G;have H:=aqb y G;have ab:=UL 1 (by omega);have aM:=UL 0 (by omega);have bj:((1:Int)).fdiv 4294967296=0:=by decide
 have bH:((0:Int)).fdiv 4294967296=0:=by decide
 have hw:∀x:Int,0<=x/\x<18446744073709551616->IntKind.u64.wrap x=x:=λx h=>yk x h;have dw:=hw 0 (by omega);have w1:=hw y (by omega);simp only[Int.natCast_zero,Int.cast_ofNat_Int,Int.natCast_one] at ab aM;simp only[go_sem,go_sem_proc,E,H,ab,aM,bj,bH,dw,w1,show ((32:Int)<0)=False from by simp,if_false,show (2:Int)^min (Int.toNat 32) 64=4294967296 from rfl,nb,wW,sB,tU,BQ]
 repeat' (first|refine av ?_ ?_|fail)<;>intro h<;>simp only[h,go_sem,go_sem_proc,E,H,ab,aM,bj,bH,dw,w1,show ((32:Int)<0)=False from by simp,if_false,show (2:Int)^min (Int.toNat 32) 64=4294967296 from rfl,nb,wW,sB,tU,BQ]
def UN:=cy Nr λ(y:Nat)=>cW (y<41) (.same (.cq [.int .u64 0,.int .u64 y]))
@[go_sem] theorem aC3 (y:Nat)(G:y<41):UN [.int .u64 1,.int .u64 y]=some (.same (.cq [.int .u64 0,.int .u64 y])):=(cK ac5 y).trans (c6 G _)
theorem aqd (T:bk)(aqe:T Q2=aX UM)(y:Nat)(G:y<41):WP T UJ (.same (.cq [.int .u64 0,.int .u64 y])) [.I (.int .u64 1),.I (.int .u64 y)]:=by
 refine cH ?_;simp only[UJ];refine a7 ?_;repeat' (intro h<;>simp only[h,go_sem,go_sem_proc,aqe,G]<;>try refine av ?_ ?_)
theorem qH {α:Type}{A:List α}{k:Nat}(dh:(D A)=k)(n:Nat):(ep n A).flatten.length=n*k:=by
 rw[List.length_flatten,Fi,dh,List.sum_replicate_nat]
theorem aqf {α:Type}{A:List α}{k:Nat}(dh:(D A)=k){q j:Nat}(h:q<=j):(ep j A).flatten.take (q*k)=(ep q A).flatten:=by
 obtain⟨d,rfl⟩:=ac6 h;rw[<-UO,Fj,AA (by rw[qH dh];omega),dE (by rw[qH dh];omega)]
theorem aqg {α:Type}{A:List α}{k:Nat}(dh:(D A)=k){q j:Nat}(h:q<=j):(ep j A).flatten.drop (q*k)=(ep (j-q) A).flatten:=by
 obtain⟨d,rfl⟩:=ac6 h;rw[<-UO,Fj,oc,lq (by rw[qH dh];omega),qH dh,kL,mv,iJ,DQ]
def Cs:List M:=[.I (.int .i64 0),.nil,.I (.int .i64 0),.nil]
def o9 (A:List M)(N j:Nat):List M:=(ep j A).flatten++(ep (N-j) Cs).flatten
theorem ac7 {A:List M}(dh:(D A)=4){N j:Nat}(h:j<=N):(o9 A N j).length=N*4:=by
 unfold o9;rw[hj,qH dh,qH (show (D Cs)=4 from rfl)];omega
theorem ac8 {A:List M}(dh:(D A)=4){N j q:Nat}(h:j+q<=N):(o9 A N j).take (j*4)++(ep q A).flatten++(o9 A N j).drop (j*4+q*4)=o9 A N (j+q):=by
 unfold o9;rw[AA (by rw[qH dh];omega),dE (by rw[qH dh];omega),oc,lq (by rw[qH dh];omega),qH dh,DQ,aqg (show (D Cs)=4 from rfl) (by omega),iJ,<-UO (n:=j),Fj,Nat.sub_sub]
theorem aqh {A:List M}(dh:(D A)=4){N j:Nat}:(o9 A N j).take (j*4)=(ep j A).flatten:=by
 unfold o9;rw[AA (by rw[qH dh];omega),dE (by rw[qH dh];omega)]
theorem ac9 {A:List M}(h:A.all M.one=true)(q:Nat):(ep q A).flatten.all M.one=true:=by
 induction q with
 |zero=>rfl
 |succ n aw=>rw[uN,ko,List.all_append,h,aw];rfl
theorem aqi (f:bS)(N:Nat):o9 ((aK f).map .I) N N=aY aK (ep N f):=by
 unfold o9 aY;rw[kL,Fi];simp only[List.replicate_zero,List.flatten_nil,hO]
 induction N with
 |zero=>rfl
 |succ n aw=>rw[uN,ko,uN,ko,k0,aw]
theorem aqj {A:List M}(dh:(D A)=4)(E:A.all M.one=true)(N:Nat):zp 131030 0 4 0 N 1 A (some (0,(ep N Cs).flatten))=some (.I (.int .i64 ((min 1 N:Nat):Int)),some (131030,0,o9 A N (min 1 N))):=by
 unfold zp;dsimp only;rw[Z ⟨rfl,by rw[qH (show (D Cs)=4 from rfl)];omega,E⟩]
 have ai:(ep N Cs).flatten=o9 A N 0:=by simp[o9]
 have bI:A.take (min 1 N*4)=(ep (min 1 N) A).flatten:=by
  rcases iU N with h|h
  ·subst h;simp
  ·rw[show min 1 N=1 by omega];simp[dE (xo dh)]
 have:=ac8 dh (N:=N) (j:=0) (q:=min 1 N) (by omega);rw[ai,bI];unfold ln;rw[qH dh];simp only[Nat.zero_mul,oH] at this ⊢;rw[this]
theorem aqk {A:List M}(dh:(D A)=4)(E:A.all M.one=true){N j:Nat}(h:j<N):zp 131030 0 4 (j*4) (N-j) j (ep j A).flatten (some (0,o9 A N j))=some (.I (.int .i64 ((min j (N-j):Nat):Int)),some (131030,0,o9 A N (j+min j (N-j)))):=by
 unfold zp;dsimp only;rw[Z ⟨rfl,by rw[ac7 dh (by omega)];omega,ac9 E j⟩]
 rw[aqf dh (show min j (N-j)<=j by omega)];have:=ac8 dh (N:=N) (j:=j) (q:=min j (N-j)) (by omega);unfold ln;rw[qH dh,this]
abbrev UP:Int×(List Int)×Int×(List Int)×Nat->List Data:=λ(s,l,s2,aj,N)=>[.ae [[.int .i64 s,.ae (l.map af),.int .i64 s2,.ae (aj.map af)]],.int .i64 N]
def UQ:=cy UP λ(s,l,s2,aj,N)=>cW (N<41) (.own 4 (ep N (aK ((s,l),(s2,aj)))))
theorem aql:∀a b,UP a=UP b->a=b:=by
  rintro⟨s1,eE,Ex,Ey,aC4⟩ ⟨s2,aj,Ez,EA,aC5⟩ h;simp only[bf,Data.int.injEq,Data.ae.injEq] at h;exact eN h.1.1.1.2 (eN (map_inj gY _ _ h.1.1.2.1) (eN h.1.1.2.2.1.2 (eN (map_inj gY _ _ h.1.1.2.2.2.1) (by have:=h.2.1.2;dsimp only;omega))))
@[go_sem] theorem aqm (s:Int)(l:List Int)(s2:Int)(aj:List Int)(N:Nat)(G:N<41):UQ [.ae [[.int .i64 s,.ae (l.map af),.int .i64 s2,.ae (aj.map af)]],.int .i64 N]=some (.own 4 (ep N (aK ((s,l),(s2,aj))))):=(cK aql (s,l,s2,aj,N)).trans (c6 G _)
theorem aqn (T:bk)(yY:T QX=aX UN)(s:Int)(l:List Int)(s2:Int)(aj:List Int)(N:Nat)(G:N<41):WP T RG (.own 4 (ep N (aK ((s,l),(s2,aj))))) [.I (.ae [[.int .i64 s,.ae (l.map af),.int .i64 s2,.ae (aj.map af)]]),.I (.int .i64 N)]:=by
 refine cH ?_;simp only[RG];have ai:decide ((N:Int)<0)=false:=dr;have hw:IntKind.u64.wrap (N:Int)=N:=yk _ ⟨by omega,by omega⟩
 have Zo:IntKind.i64.wrap (N:Int)=N:=wrap64 _ (by omega) (by omega);have nP:IntKind.u64.wrap ((1:Nat):Int)=1:=by decide
 have aU:decide ((N:Int)>9223372036854775807)=false:=dr;have Fk:(64*N<=140737488355328)=True:=eq_true (by omega);have AB:(N<=maxLen)=True:=eq_true (by unfold maxLen;omega);have dh:((aK ((s,l),(s2,aj))).map M.I).length=4:=rfl;have vx:((aK ((s,l),(s2,aj))).map M.I).all M.one=true:=rfl;have zy:=aqj dh vx N;have tz:=λj (h:j<N)=>aqk dh vx h;have Jv:(aK ((s,l),(s2,aj))).map M.I=[.I (.int .i64 s),.I (.ae (l.map af)),.I (.int .i64 s2),.I (.ae (aj.map af))]:=rfl;simp only[Cs] at zy;rw[Jv] at zy;simp only[go_sem,go_sem_proc,yY] at zy;simp only[go_sem,go_sem_proc,yY,ai,hw,Zo,nP,G,aU,Fk,AB,show decide ((0:Int)>0)=false from rfl,zy];rw[Jv] at dh vx;have h2:=aqi ((s,l),(s2,aj)) N;rw[Jv] at h2;simp only[Jv] at tz;clear Jv zy;generalize [M.I (.int .i64 s),.I (.ae (l.map af)),.I (.int .i64 s2),.I (.ae (aj.map af))]=A at *;refine dG [7] [] (λ(j:Nat) tm m=>j<=N/\(0<N->0<j)/\tm 8=.I (.int .i64 j)/\m 131030=some (0,o9 A N j)) (λj=>N-j) (min 1 N) (by refine⟨by omega,by omega,rfl,?_⟩;simp[a3]) ?_;intro vs ms aV aS;simp only[go_sem,go_sem_proc,yY] at aV aS;subst aV aS;rintro j tm m J hm ⟨ada,aqo,bT,Jw⟩;simp only[go_sem,go_sem_proc,yY,bf] at J hm;have bA:=J;rcases dX (j<N) with ao|cf
 ·have jV:decide ((j:Int)<(N:Int))=true:=dn;have aG:=tz j ao;have e8:=aqh dh (N:=N) (j:=j);have hlen:(j*4<=(o9 A N j).length)=True:=eq_true (by rw[ac7 dh ada];omega);have adb:(j<=N)=True:=eq_true ada;have e1:=ac9 vx j;simp only[go_sem,go_sem_proc,yY,e1,vx,e8] at aG;have e9:IntKind.i64.wrap ((j:Int)+((min j (N-j):Nat):Int))=((j+min j (N-j):Nat):Int):=by rw[eC _];omega
  simp only[go_sem,go_sem_proc,yY,bA,bT,Jw,jV,e8,hlen,adb,e1,aG,e9,bM,UR,fr];repeat' (first|refine av ?_ ?_|fail)<;>intro h<;>simp only[h,go_sem,go_sem_proc,yY,bA,bT,Jw,jV,e8,hlen,adb,e1,aG,e9,bM,UR,fr]
  exact⟨j+min j (N-j),by have:=aqo (by omega);omega,by omega,by omega,rfl,rfl⟩
 ·have jV:decide ((j:Int)<(N:Int))=false:=dr;obtain rfl:j=N:=by omega
  rw[h2] at Jw;have B2:=kP mG (ep j ((s,l),(s2,aj)));rw[Jx] at B2;simp only[go_sem,go_sem_proc,yY,bA,bT,Jw,jV,oP,B2];repeat' (first|refine av ?_ ?_|fail)<;>intro h<;>simp only[h,go_sem,go_sem_proc,yY,bA,bT,Jw,jV,oP,B2]
  rw[Z (bM _),dE (by omega)];unfold aY;rw[wB _ λd=>rfl];have:=zO (sz:=4) ((ep j ((s,l),(s2,aj))).map aK) (by intro e he;obtain⟨f,-,rfl⟩:=fI.1 he;rfl);rw[al,Jx] at this;rw[iW,this,Fi]
def Ns:bS:=((0,[]),(1,[1]))
def US:bS:=((1,[1]),(1,[1]))
theorem ade:aE 0=Ns:=by
 unfold aE bD Ns;simp[Bx,rf]
theorem aqp:aE 1=US:=by
 unfold aE bD US;simp[Bx]
def Jy (rows:List cX)(f N i:Nat):List bS:=(dQ N).map λk=>if k<i then (oo Ns (cellOf (rowAt rows k) f)).1 else if k=f then US else Ns
theorem aqq (rows:List cX)(f N i:Nat):(Jy rows f N i).length=N:=by simp[Jy]
def UT (rs:List eu)(n:Int):List bS×Bool :=
 if nj rs n=true then (if ((pT true rs).2.2||(pT true rs).2.1.length==0)=true then ([],false) else (Jy (pT true rs).1 ((pT true rs).2.1.headD 0) (D rs) ((pT true rs).2.1.headD 0),true)) else ([],false)



section
variable {α:Type} {op:α->bS×Int} {e:α->bS}
end
def UU (N:Nat)(rows:List eu):Prop:=D rows=N/\∀x∈rows,x.1.length=N/\xb x
theorem UU.set {N:Nat}{rows:List eu}(h:UU N rows){i:Nat}{x:eu}(O:x.1.length=N/\xb x):UU N (rows.set i x):=by
 refine⟨by rw[iM];exact h.1,λy ak=>?_⟩
 rcases List.mem_or_eq_of_mem_set ak with ak|rfl
 ·exact h.2 y ak
 ·exact O




def UW (r:eu):List bS:=r.1++[r.2]
def AD (cA:List cX)(bZ:List eu):Prop:=cA.map (·.2.2)=bZ.map UW
theorem AD.len {cA:List cX}{bZ:List eu}(h:AD cA bZ):(D cA)=D bZ:=by
 have:=congrArg D h
 simpa using this
theorem AD.at_ {cA:List cX}{bZ:List eu}(h:AD cA bZ){i:Nat}{x:cX}{r:eu}(O:cA[i]?=some x)(Y:bZ[i]?=some r):x.2.2=UW r:=by
 have:=congrArg (λl:List (List bS)=>l[i]?) h;simp only[bd,O,Y,iW,b8] at this;exact this
theorem AD.set {cA:List cX}{bZ:List eu}(h:AD cA bZ){i:Nat}{x:cX}{r:eu}(ov:x.2.2=UW r):AD (cA.set i x) (bZ.set i r):=by
 unfold AD at h ⊢;rw[xi,xi,h,ov]
def bw:Nat->(Nat->Rat)->Rat
 |0,_=>0
 |n+1,f=>bw n f+f n
theorem jz {n:Nat}{f g:Nat->Rat}(h:∀k,k<n->f k=g k):bw n f=bw n g:=by
 induction n with
 |zero=>rfl
 |succ n aw=>rw[bw,bw,aw λk J=>h k (by omega),h n (by omega)]
theorem ui (n:Nat)(f g:Nat->Rat):bw n (λk=>f k+g k)=bw n f+bw n g:=by
 induction n with
 |zero=>simp[bw,pa]
 |succ n aw=>rw[bw,bw,bw,aw];grind
theorem yZ (n:Nat)(c:Rat)(f:Nat->Rat):bw n (λk=>c*f k)=c*bw n f:=by
 induction n with
 |zero=>simp[bw,l8]
 |succ n aw=>rw[bw,bw,aw];grind
theorem rG {n:Nat}{f:Nat->Rat}(h:∀k,k<n->f k=0):bw n f=0:=by
 induction n with
 |zero=>rfl
 |succ n aw=>rw[bw,aw λk J=>h k (by omega),h n (by omega)];exact pa 0
theorem xp {n:Nat}{f:Nat->Rat}{j:Nat}(ag:j<n)(h:∀k,k<n->k≠j->f k=0):bw n f=f j:=by
 induction n with
 |zero=>omega
 |succ n aw =>
  rw[bw]
  by_cases aG:j=n
  ·subst aG;rw[rG λk J=>h k (by omega) (by omega)];grind
  ·rw[aw (by omega) λk J=>h k (by omega),h n (by omega) (by omega)];grind
theorem aqr (n m:Nat)(f:Nat->Nat->Rat):bw n (λi=>bw m (λj=>f i j))=bw m (λj=>bw n (λi=>f i j)):=by
 induction n with
 |zero=>rw[bw,rG];intro k J;rfl
 |succ n aw =>
  rw[bw,aw,<-ui]
  rfl
abbrev ec:=Nat->Nat->Rat
def lK (N:Nat)(a y:Nat->Rat):Rat:=bw (N+1) λk=>a k*y k
def hx (N:Nat)(A:ec)(y:Nat->Rat):Prop:=∀i,i<N->lK N (A i) y=0
def gV (A:ec)(r s:Nat):ec:=λi=>if i=s then A r else if i=r then A s else A i
def nW (A:ec)(r c s:Nat):ec:=λi k=>if i=r then gV A r s r k/gV A r s r c else gV A r s i k-gV A r s i c*(gV A r s r k/gV A r s r c)
theorem Nt (A:ec)(r s:Nat):gV A r s r=A s:=by
 unfold gV
 by_cases h:r=s
 ·simp[h]
 ·simp[h]
theorem aqs {N r s:Nat}{A:ec}{y:Nat->Rat}(Y:r<N)(Q:s<N):hx N (gV A r s) y↔hx N A y:=by
 unfold hx gV
 constructor
 ·intro h i L
  by_cases E:i=r
  ·have:=h s Q;simp at this;rw[E];exact this
  ·by_cases H:i=s
   ·have:=h r Y;rw[H]
    by_cases ab:r=s
    ·omega
    ·simp[ab] at this;exact this
   ·have:=h i L;simp[E,H] at this;exact this
 ·intro h i L
  by_cases H:i=s
  ·simp[H];exact h r Y
  ·by_cases E:i=r
   ·have:=h s Q;rw[aa H,Z E];exact this
   ·simp[E,H];exact h i L
theorem aqt (N:Nat)(a b y:Nat->Rat)(x:Rat):lK N (λk=>a k-x*b k) y=lK N a y-x*lK N b y:=by
 unfold lK;have:(λk=>(a k-x*b k)*y k)=λk=>a k*y k+(-x)*(b k*y k):=by funext k;grind
 rw[this,ui,yZ];grind
theorem adf (N:Nat)(a y:Nat->Rat)(x:Rat):lK N (λk=>a k/x) y=lK N a y/x:=by
 unfold lK;have:(λk=>(a k/x)*y k)=λk=>(1/x)*(a k*y k):=by funext k;grind
 rw[this,yZ];grind
theorem UX {N r s c:Nat}{A:ec}{y:Nat->Rat}(Y:r<N)(Q:s<N)(bP:A s c≠0):hx N (nW A r c s) y↔hx N A y:=by
 rw[<-aqs (A:=A) Y Q];have aC6:gV A r s r c≠0:=by rw[Nt];exact bP
 generalize cv:gV A r s=S at *
 have d1:∀i,i≠r->lK N (nW A r c s i) y=lK N (S i) y-S i c*(lK N (S r) y/S r c):=by
  intro i L;have:nW A r c s i=λk=>S i k-S i c*(S r k/S r c):=by funext k;unfold nW;rw[cv,aa L]
  rw[this,aqt N (S i) (λk=>S r k/S r c) y (S i c),adf]
 have d2:lK N (nW A r c s r) y=lK N (S r) y/S r c:=by
  have:nW A r c s r=λk=>S r k/S r c:=by funext k;unfold nW;rw[cv,Z rfl]
  rw[this,adf]
 unfold hx
 constructor
 ·intro h
  have ai:lK N (S r) y=0:=by
   have:=h r Y;rw[d2] at this;generalize lK N (S r) y=d at *;grind
  intro i L
  by_cases o7:i=r
  ·rw[o7];exact ai
  ·have:=h i L;rw[d1 i o7,ai] at this;generalize lK N (S i) y=d at *;grind
 ·intro h i L;have ai:=h r Y
  by_cases o7:i=r
  ·rw[o7,d2,ai];grind
  ·rw[d1 i o7,ai,h i L];grind
structure pV (N:Nat) (aF:ec) (p c:Nat) (dx:Nat->Nat):Prop where
 kN:p<=c
 lt:∀j,j<p->dx j<c
 unit:∀j,j<p->∀i,i<N->aF i (dx j)=if i=j then 1 else 0
 zero:∀i,p<=i->i<N->∀k,k<c->aF i k=0
theorem pV.free {N p c:Nat}{aF:ec}{dx:Nat->Nat}(h:pV N aF p c dx)(aR:∀i,p<=i->i<N->aF i c=0):pV N aF p (c+1) dx :=
 ⟨by have:=h.kN;omega,λj ag=>by have:=h.lt j ag;omega,h.unit,λi L gB k J=>by
  by_cases Ao:k=c
  ·rw[Ao];exact aR i L gB
  ·exact h.zero i L gB k (by omega)⟩
theorem pV.Cr {N p c s:Nat}{aF:ec}{dx:Nat->Nat}(h:pV N aF p c dx)(aC:p<N)(Q:p<=s)(y0:s<N)(bP:aF s c≠0):pV N (nW aF p c s) (p+1) (c+1) (λj=>if j=p then c else dx j):=by
 have cv:∀i,i<N->∃a4,a4<N/\gV aF p s i=aF a4/\(i<p->a4=i)/\(p<=i->p<=a4):=by
  intro i L;unfold gV
  by_cases E:i=s
  ·exact⟨p,aC,by rw[Z E],by omega,by omega⟩
  ·by_cases H:i=p
   ·exact⟨s,y0,by rw[aa E,Z H],by omega,by omega⟩
   ·exact⟨i,L,by rw[aa E,aa H],by omega,by omega⟩
 have aC7:gV aF p s p c≠0:=by rw[Nt];exact bP
 have aR:∀i,p<=i->i<N->∀k,k<c->gV aF p s i k=0:=by
  intro i L gB k J;obtain⟨a4,E,H,-,aM⟩:=cv i gB;rw[H];exact h.zero a4 (aM L) E k J
 refine⟨by have:=h.kN;omega,λj ag=>?_,λj ag i L=>?_,λi L gB k J=>?_⟩
 ·show (if j=p then c else dx j)<c+1
  split
  ·omega
  ·have:=h.lt j (by omega);omega
 ·unfold nW
  by_cases Fl:j=p
  ·simp only[Fl,if_true]
   by_cases l9:i=p
   ·rw[Z l9,Z l9];grind
   ·rw[aa l9,aa l9];grind
  ·simp only[Fl,if_false];have ts:j<p:=by omega
   have aA:gV aF p s p (dx j)=0:=aR p (bM _) aC _ (h.lt j ts);rw[aA]
   by_cases l9:i=p
   ·rw[Z l9,aa (by omega)];grind
   ·rw[aa l9];obtain⟨a4,E,H,ab,aM⟩:=cv i L;rw[H,h.unit j ts a4 E];rcases hK i p with ao|cf
    ·rw[ab ao];grind
    ·rw[aa (by have:=aM cf;omega),aa (by omega)];grind
 ·unfold nW;rw[aa (by omega)]
  by_cases Ao:k=c
  ·subst Ao;grind
  ·rw[aR i (by omega) gB k (by omega),aR p (bM _) aC k (by omega)];grind
theorem Nu (N:Nat)(aF:ec)(dx:Nat->Nat):pV N aF 0 0 dx:=⟨bM _,λj ag=>by omega,λj ag=>by omega,λi L gB k J=>by omega⟩
end Go.Mini
namespace Go.Mini
open Classical
structure dL where
 ax:Nat
 to:Int
 rk:Nat
 am:Rat
theorem y1 {a b:Rat}(h:a=b):a<=b:=by rw[h];exact fQ
def b4:List dL->(dL->Rat)->Rat
 | [],_=>0
 |c::l,aO=>aO c+b4 l aO
theorem uj {l:List dL}{aO bz:dL->Rat}(h:∀c∈l,aO c=bz c):b4 l aO=b4 l bz:=by
 induction l with
 |nil=>rfl
 |cons c l aw=>rw[b4,b4,h c ha,aw λx O=>h x (hY _ O)]
theorem Nv (l:List dL)(aO bz:dL->Rat):b4 l (λc=>aO c+bz c)=b4 l aO+b4 l bz:=by
 induction l with
 |nil=>simp only[b4];grind
 |cons c l aw=>rw[b4,b4,b4,aw];grind
theorem Jz (l:List dL)(aO bz:dL->Rat):b4 l (λc=>aO c-bz c)=b4 l aO-b4 l bz:=by
 induction l with
 |nil=>simp only[b4];grind
 |cons c l aw=>rw[b4,b4,b4,aw];grind
theorem Nw (l:List dL)(a:Rat)(aO:dL->Rat):b4 l (λc=>a*aO c)=a*b4 l aO:=by
 induction l with
 |nil=>simp only[b4];grind
 |cons c l aw=>rw[b4,b4,aw];grind
theorem Fm {l:List dL}{aO:dL->Rat}(h:∀c∈l,aO c=0):b4 l aO=0:=by
 induction l with
 |nil=>rfl
 |cons c l aw=>rw[b4,h c ha,aw λx O=>h x (hY _ O)];grind
theorem Ct {l:List dL}{aO bz:dL->Rat}(h:∀c∈l,aO c<=bz c):b4 l aO<=b4 l bz:=by
 induction l with
 |nil=>exact fQ
 |cons c l aw =>
  have E:=h c ha;have H:=aw λx O=>h x (hY _ O);rw[b4,b4];grind
theorem xq {l:List dL}{aO:dL->Rat}(h:∀c∈l,0<=aO c):0<=b4 l aO:=by
 have:=Ct (l:=l) (aO:=λ_=>0) (bz:=aO) h;rwa [Fm λ_ _=>rfl] at this
theorem UY {l:List dL}{aO:dL->Rat}(h:∀c∈l,0<=aO c)(Q:b4 l aO<=0):∀c∈l,aO c=0:=by
 induction l with
 |nil=>intro c G;cases G
 |cons c l aw =>
  rw[b4] at Q;have E:=h c ha;have H:=xq λx O=>h x (hY c O);intro x O;rcases nM.1 O with rfl|O
  ·grind
  ·exact aw (λy ak=>h y (hY _ ak)) (by grind) x O
theorem aqu {l:List dL}{aO bz:dL->Rat}(h:∀c∈l,aO c<=bz c){gx:dL}(G:gx∈l)(ao:aO gx<bz gx):b4 l aO<b4 l bz:=by
 by_cases Q:b4 l aO<b4 l bz
 ·exact Q
 ·have:=UY (l:=l) (aO:=λc=>bz c-aO c) (λc G=>by have:=h c G;grind) (by rw[Jz];grind) gx G;grind
theorem UZ {l:List dL}{aO:dL->Rat}(h:0<b4 l aO):∃c∈l,0<aO c:=by
 apply kC;intro aG
 have:=Ct (l:=l) (aO:=aO) (bz:=λ_=>0) λc G=>by
  apply kC;intro H;exact aG ⟨c,G,by grind⟩
 rw[Fm (aO:=λ_=>(0:Rat)) λ_ _=>rfl] at this;grind
theorem JA {n:Nat}{f g:Nat->Rat}(h:∀k,k<n->f k<=g k):bw n f<=bw n g:=by
 induction n with
 |zero=>exact fQ
 |succ n aw =>
  have E:=h n (by omega);have H:=aw λk J=>h k (by omega);rw[bw,bw];grind
theorem adg {n:Nat}{f:Nat->Rat}(h:∀k,k<n->0<=f k):0<=bw n f:=by
 have:=JA (n:=n) (f:=λ_=>0) (g:=f) h;rwa [rG λ_ _=>rfl] at this
theorem Fo (n:Nat)(f g:Nat->Rat):bw n (λk=>f k-g k)=bw n f-bw n g:=by
 induction n with
 |zero=>simp only[bw];grind
 |succ n aw=>rw[bw,bw,bw,aw];grind
theorem aqv {n:Nat}{f:Nat->Rat}(h:∀k,k<n->0<=f k)(Q:bw n f<=0):∀k,k<n->f k=0:=by
 induction n with
 |zero=>intro k J;omega
 |succ n aw =>
  rw[bw] at Q;have E:=h n (by omega);have H:=adg (n:=n) (f:=f) λk J=>h k (by omega);intro k J
  by_cases Fp:k=n
  ·subst Fp;grind
  ·exact aw (λk J=>h k (by omega)) (by grind) k (by omega)
def pW (C:Nat->Prop)(c:dL):Prop:=∃i:Nat,c.to=i/\C i
theorem U0 {n:Nat}(C:Nat->Prop)(jA:∀i,C i->i<n)(l:List dL)(a:dL->Rat):bw n (λi=>if C i then b4 l (λc=>if c.to=(i:Int) then a c else 0) else 0)=b4 l (λc=>if pW C c then a c else 0):=by
 induction l with
 |nil=>exact rG λk _=>by split<;>rfl
 |cons c l aw =>
  rw[b4,<-aw]
  have e:(λi:Nat=>if C i then b4 (c::l) (λc=>if c.to=(i:Int) then a c else 0) else 0)=λi=>(if C i then (if c.to=(i:Int) then a c else 0) else 0)+(if C i then b4 l (λc=>if c.to=(i:Int) then a c else 0) else 0):=by
   funext i
   split
   ·rw[b4]
   ·grind
  rw[e,ui]
  congr 1
  by_cases h:pW C c
  ·obtain⟨i,L,U1⟩:=h
   rw[xp (jA i U1) λk J sb=>by
    split
    ·rw[aa (by omega)]
    ·rfl]
   rw[Z U1,Z L,Z ⟨i,L,U1⟩]
  ·rw[aa h];refine rG λk J=>?_
   split
   ·rw[aa λg8=>h ⟨k,g8,by assumption⟩]
   ·rfl
theorem U2 {n:Nat}{l:List dL}(aq:∀c∈l,c.ax<n)(b:Nat->dL->Rat):bw n (λk=>b4 l (λc=>if c.ax=k then b k c else 0))=b4 l (λc=>b c.ax c):=by
 induction l with
 |nil=>exact rG λk _=>rfl
 |cons c l aw =>
  rw[b4,<-aw λx O=>aq x (hY _ O)];have e:(λk:Nat=>b4 (c::l) (λc=>if c.ax=k then b k c else 0))=λk=>(if c.ax=k then b k c else 0)+b4 l (λc=>if c.ax=k then b k c else 0):=rfl;rw[e,ui]
  congr 1
  rw[xp (aq c ha) λk _ J=>aa (Ne.symm J),Z rfl]
structure Day where
 n:Nat
 cash:Nat->Rat
 cN:List dL
structure Day.cT (d:Day):Prop where
 ax:∀c∈d.cN,c.ax<d.n
 to:∀c∈d.cN,c.to<d.n
 rk:∀c∈d.cN,c.rk<10
 am:∀c∈d.cN,0<=c.am
 cash:∀i,i<d.n->0<=d.cash i
def Day.U (d:Day)(k r:Nat):Rat:=b4 d.cN λc=>if c.ax=k/\c.rk<r then c.am else 0
def Day.S (d:Day)(k r:Nat):Rat:=b4 d.cN λc=>if c.ax=k/\c.rk=r then c.am else 0
theorem Day.U3 (d:Day)(k:Nat):d.U k 0=0:=Fm λc _=>aa (by omega)
theorem Day.xr (d:Day)(k r:Nat):d.U k (r+1)=d.U k r+d.S k r:=by
 unfold Day.U Day.S;rw[<-Nv];refine uj λc _=>?_
 by_cases E:c.ax=k/\c.rk<r
 ·rw[Z ⟨E.1,by omega⟩,Z E,aa (by omega)];grind
 ·rw[aa E]
  by_cases H:c.ax=k/\c.rk=r
  ·rw[Z ⟨H.1,by omega⟩,Z H];grind
  ·rw[aa (by omega),aa H];grind
theorem Day.cT.Nx {d:Day}(X:d.cT)(k r:Nat):0<=d.S k r:=xq λc G=>by
 split
 ·exact X.am c G
 ·exact fQ
theorem Day.cT.vy {d:Day}(X:d.cT)(k:Nat){r s:Nat}(h:r<=s):d.U k r<=d.U k s:=by
 induction s with
 |zero =>
      obtain rfl:r=0:=by omega
      exact fQ
 |succ s aw =>
  by_cases Y:r=s+1
  ·rw[Y];exact fQ
  ·have E:=aw (by omega);have H:=X.Nx k s;rw[d.xr];grind
theorem Day.cT.aqw {d:Day}(X:d.cT)(k r:Nat):0<=d.U k r:=by
 have:=X.vy k (fr r);rwa [d.U3] at this
theorem Day.cT.U4 {d:Day}(X:d.cT){c:dL}(G:c∈d.cN):c.am<=d.S c.ax c.rk:=by
 have:∀l:List dL,(∀x∈l,0<=x.am)->c∈l->c.am<=b4 l λx=>if x.ax=c.ax/\x.rk=c.rk then x.am else 0:=by
  intro l
  induction l with
  |nil=>intro _ h;cases h
  |cons x l aw =>
   intro E H;rw[b4]
   have ab:0<=b4 l λx=>if x.ax=c.ax/\x.rk=c.rk then x.am else 0:=xq λy ak=>by
    split
    ·exact E y (hY _ ak)
    ·exact fQ
   rcases nM.1 H with rfl|H
   ·rw[Z ⟨rfl,rfl⟩];grind
   ·have aM:=aw (λy ak=>E y (hY _ ak)) H;have bj:=E x ha
    split<;>grind
 exact this d.cN X.am G
def Day.w (d:Day)(c:dL):Rat:=c.am/d.S c.ax c.rk
theorem Day.cT.pX {d:Day}(X:d.cT){c:dL}(G:c∈d.cN):0<=d.w c:=by
 unfold Day.w;have E:=X.am c G;have H:=X.Nx c.ax c.rk;rw[sS]
 exact U5 E (by
  rcases Rat.le_iff_lt_or_eq.1 H with h|h
  ·exact Rat.le_of_lt (adh.2 h)
  ·rw[<-h];exact y1 Rat.inv_zero.symm)
theorem Day.cT.U6 {d:Day}(X:d.cT){c:dL}(G:c∈d.cN)(h:0<c.am):0<d.w c:=by
 unfold Day.w;have H:=X.U4 G;rw[sS];exact JB h (adh.2 (by grind))
theorem Day.Jg {d:Day}{c:dL}(h:c.am=0):d.w c=0:=by
 unfold Day.w;rw[h,sS,y2]
theorem Day.Fq {d:Day}{c:dL}(h:0<d.S c.ax c.rk):d.w c*d.S c.ax c.rk=c.am:=by
 unfold Day.w;grind
theorem Day.cT.JC {d:Day}(X:d.cT)(C:Nat->Prop)(f:Nat->Nat)(cv:∀k,C k->0<d.S k (f k))(x:Nat->Rat):b4 d.cN (λc=>if C c.ax/\c.rk=f c.ax then d.w c*x c.ax else 0)=bw d.n (λk=>if C k then x k else 0):=by
 rw[<-U2 X.ax λk c=>if C k/\c.rk=f k then d.w c*x k else 0];refine jz λk J=>?_
 by_cases jA:C k
 ·rw[Z jA];have hD:=cv k jA
  have e:b4 d.cN (λc=>if c.ax=k then (if C k/\c.rk=f k then d.w c*x k else 0) else 0)=b4 d.cN λc=>(x k/d.S k (f k))*(if c.ax=k/\c.rk=f k then c.am else 0):=by
   refine uj λc _=>?_
   by_cases E:c.ax=k
   ·by_cases H:c.rk=f k
    ·rw[Z E,Z ⟨jA,H⟩,Z ⟨E,H⟩];unfold Day.w;rw[E,H];grind
    ·rw[Z E,aa (λh=>H h.2),aa (λh=>H h.2)];grind
   ·rw[aa E,aa (λh=>E h.1)];grind
  rw[e,Nw];show x k/d.S k (f k)*d.S k (f k)=x k;grind
 ·rw[aa jA]
  exact Fm λc _=>by
   split
   ·rw[aa λh=>jA h.1]
   ·rfl
end Go.Mini
namespace Go.Mini
open Classical
def pos (x:Rat):Rat:=if x<=0 then 0 else x
theorem xt (x:Rat):0<=pos x:=by unfold pos;split<;>grind
theorem JD (x:Rat):x<=pos x:=by unfold pos;split<;>grind
theorem adi {x y:Rat}(h:x<=y):pos x<=pos y:=by unfold pos;split<;>split<;>grind
theorem sT {x:Rat}(h:0<=x):pos x=x:=by unfold pos;split<;>grind
theorem sU {x:Rat}(h:x<=0):pos x=0:=Z h
theorem Cu {a x y:Rat}(aZ:0<=a)(h:x<=y):a*x<=a*y:=Rat.mul_le_mul_of_nonneg_left h aZ
theorem sV {a x:Rat}(aZ:0<=a)(h:0<=x):0<=a*x:=U5 aZ h
def Day.q (d:Day)(f:Nat->Nat)(h:Nat->Rat)(c:dL):Rat:=if c.rk<f c.ax then c.am else if c.rk=f c.ax then d.w c*pos (h c.ax-d.U c.ax c.rk) else 0
def Day.l (d:Day)(f:Nat->Nat)(P:Nat->Prop)(h:Nat->Rat)(c:dL):Rat:=if c.rk<f c.ax then c.am else if c.rk=f c.ax/\P c.ax then d.w c*(h c.ax-d.U c.ax c.rk) else 0
def Day.eG (d:Day)(a:dL->Rat)(i:Nat):Rat:=d.cash i+b4 d.cN λc=>if c.to=(i:Int) then a c else 0
theorem Day.Cv {d:Day}{a b:dL->Rat}(h:∀c∈d.cN,a c<=b c)(i:Nat):d.eG a i<=d.eG b i:=by
 unfold Day.eG
 have:=Ct (l:=d.cN) (aO:=λc=>if c.to=(i:Int) then a c else 0) (bz:=λc=>if c.to=(i:Int) then b c else 0) λc G=>by
  try dsimp only
  split
  ·exact h c G
  ·exact fQ
 grind
theorem Day.adj {d:Day}{a b:dL->Rat}(h:∀c∈d.cN,a c=b c)(i:Nat):d.eG a i=d.eG b i:=by
 unfold Day.eG
 congr 1
 exact uj λc G=>by rw[h c G]
theorem Day.Ny (d:Day)(a b:dL->Rat)(i:Nat):d.eG a i-d.eG b i=b4 d.cN λc=>if c.to=(i:Int) then a c-b c else 0:=by
 unfold Day.eG
 have:(λc:dL=>if c.to=(i:Int) then a c-b c else 0)=λc=>(if c.to=(i:Int) then a c else 0)-(if c.to=(i:Int) then b c else 0):=by
  funext c;split<;>grind
 rw[this,Jz];grind
def Day.gy (d:Day)(C:Nat->Prop)(x:Nat->Rat):Rat:=bw d.n λi=>if C i then x i else 0
theorem Day.aqx (d:Day)(C:Nat->Prop)(x y:Nat->Rat):d.gy C (λi=>x i-y i)=d.gy C x-d.gy C y:=by
 unfold Day.gy;rw[<-Fo];exact jz λk _=>by split<;>grind
theorem Day.aqy (d:Day)(C:Nat->Prop)(x y:Nat->Rat):d.gy C (λi=>x i+y i)=d.gy C x+d.gy C y:=by
 unfold Day.gy;rw[<-ui];exact jz λk _=>by split<;>grind
theorem Day.adk {d:Day}{C:Nat->Prop}{x y:Nat->Rat}(h:∀i,i<d.n->C i->x i<=y i):d.gy C x<=d.gy C y:=by
 refine JA λk J=>?_
 by_cases G:C k
 ·rw[Z G,Z G];exact h k J G
 ·rw[aa G,aa G];exact fQ
theorem Day.JE {d:Day}{C:Nat->Prop}{x y:Nat->Rat}(h:∀i,i<d.n->C i->x i=y i):d.gy C x=d.gy C y:=by
 refine jz λk J=>?_
 split
 ·exact h k J (by assumption)
 ·rfl
theorem Day.U7 {d:Day}{C:Nat->Prop}(jA:∀i,C i->i<d.n)(a:dL->Rat):d.gy C (d.eG a)=d.gy C d.cash+b4 d.cN λc=>if pW C c then a c else 0:=by
 rw[<-U0 C jA];show bw d.n _=bw d.n _+_;rw[<-ui];refine jz λk _=>?_;unfold Day.eG
 split<;>grind
def Day.closed (d:Day)(f:Nat->Nat)(C:Nat->Prop):Prop:=∀c∈d.cN,C c.ax->c.rk=f c.ax->0<c.am->pW C c
def Day.cap (d:Day)(f:Nat->Nat)(g:Nat->Rat)(C:Nat->Prop)(k:Nat):Rat:=if C k then d.U k (f k) else g k
section
variable {d:Day} {f:Nat->Nat} {P:Nat->Prop} {h g:Nat->Rat} {C:Nat->Prop} {c:dL}
theorem Day.adl (E:c.rk<f c.ax):d.l f P h c=c.am:=by unfold Day.l;rw[Z E]
theorem Day.adm (E:c.rk=f c.ax)(H:P c.ax):d.l f P h c=d.w c*(h c.ax-d.U c.ax c.rk):=by
 unfold Day.l;rw[aa (by omega),Z ⟨E,H⟩]
theorem Day.U8 (E:¬ c.rk<f c.ax)(H:¬ (c.rk=f c.ax/\P c.ax)):d.l f P h c=0:=by
 unfold Day.l;rw[aa E,aa H]
theorem Day.aqz (E:c.rk<f c.ax):d.q f h c=c.am:=by unfold Day.q;rw[Z E]
theorem Day.aqA (E:c.rk=f c.ax):d.q f h c=d.w c*pos (h c.ax-d.U c.ax c.rk):=by
 unfold Day.q;rw[aa (by omega),Z E]
theorem Day.aqB (E:¬ c.rk<f c.ax)(H:¬ c.rk=f c.ax):d.q f h c=0:=by
 unfold Day.q;rw[aa E,aa H]
theorem JF (h:¬ C c.ax):d.q f (d.cap f g C) c=d.q f g c:=by
 unfold Day.q Day.cap;rw[aa h]
theorem Fs (h:C c.ax):d.q f (d.cap f g C) c=if c.rk<f c.ax then c.am else 0:=by
 by_cases E:c.rk<f c.ax
 ·rw[Z E,Day.aqz E]
 ·rw[aa E]
  by_cases H:c.rk=f c.ax
  ·rw[Day.aqA H];unfold Day.cap;rw[Z h,H,sU (by grind),l8]
  ·rw[Day.aqB E H]
end
structure Inv (d:Day) (f:Nat->Nat) (g:Nat->Rat):Prop where
 le:∀i,f i<=10
 sup:∀i,i<d.n->d.eG (d.q f g) i<=g i
 bG:∀i,i<d.n->f i<10->d.U i (f i)<=g i
 L:∀i,i<d.n->f i<10->g i<d.U i (f i+1)
 cN:∀C:Nat->Prop,(∃i,C i)->(∀i,C i->i<d.n/\f i<10)->d.closed f C->d.gy C (d.eG (d.q f (d.cap f g C)))<d.gy C λi=>d.U i (f i)
theorem Inv.qI {d:Day}{f:Nat->Nat}{g:Nat->Rat}(h:Inv d f g){i:Nat}(L:i<d.n)(aJ:f i<10):0<d.S i (f i):=by
 have E:=h.bG i L aJ;have H:=h.L i L aJ;rw[d.xr] at H;grind
theorem Inv.start {d:Day}(X:d.cT):Inv d (λ_=>10) (d.eG λc=>c.am) :=
 ⟨λ_=>bM _,λi _=>d.Cv (λc G=>by
  unfold Day.q;rw[Z (X.rk c G)];exact fQ) i,λi _ h=>absurd h (by omega),λi _ h=>absurd h (by omega),λC ⟨i,L⟩ h=>absurd (h i L).2 (by omega)⟩
theorem Inv.adn {d:Day}{f:Nat->Nat}{g:Nat->Rat}(L:Inv d f g)(X:d.cT){C:Nat->Prop}(E:∃i,C i)(H:∀i,C i->i<d.n/\f i<10)(ab:d.closed f C)(cr:dL->Rat)(e:Nat->Rat)(he:∀k,k<d.n->C k->0<=e k)
  (fD:∀c∈d.cN,pW C c->cr c<=d.q f (d.cap f g C) c+if C c.ax/\c.rk=f c.ax then d.w c*e c.ax else 0):d.gy C (d.eG cr)<d.gy C λi=>d.U i (f i)+e i:=by
 have cF:=L.cN C E H ab;have jA:∀i,C i->i<d.n:=λi h=>(H i h).1;have dk:=X.JC C f (λk J=>L.qI (H k J).1 (H k J).2) e;rw[Day.U7 jA] at cF ⊢;rw[Day.aqy]
 have dN:b4 d.cN (λc=>if pW C c then cr c else 0)<=b4 d.cN λc=>(if pW C c then d.q f (d.cap f g C) c else 0)+(if C c.ax/\c.rk=f c.ax then d.w c*e c.ax else 0):=by
  refine Ct λc G=>?_
  have ai:0<=if C c.ax/\c.rk=f c.ax then d.w c*e c.ax else 0:=by
   split
   ·exact sV (X.pX G) (he _ (X.ax c G) (by rename_i h;exact h.1))
   ·exact fQ
  by_cases b9:pW C c
  ·rw[Z b9,Z b9];exact fD c G b9
  ·rw[aa b9,aa b9];grind
 rw[Nv,dk] at dN;have hH:d.gy C e=bw d.n λk=>if C k then e k else 0:=rfl;rw[<-hH] at dN;grind
structure hZ (d:Day) (f:Nat->Nat) (g:Nat->Rat) (P:Nat->Prop) (h:Nat->Rat):Prop where
 gN:∀i,P i->i<d.n/\f i<10
 Nz:∀C:Nat->Prop,(∃i,C i)->(∀i,C i->P i)->¬ d.closed f C
 sys:∀i,i<d.n->h i=d.eG (d.l f P h) i
 le:∀i,i<d.n->h i<=g i
 ge:∀i,P i->d.U i (f i)<h i
theorem Bg {d:Day}{f:Nat->Nat}{g:Nat->Rat}(L:Inv d f g)(X:d.cT){P:Nat->Prop}(fN:∀i,P i->i<d.n/\f i<10)(bu:∀C:Nat->Prop,(∃i,C i)->(∀i,C i->P i)->¬ d.closed f C)(x:Nat->Rat)
  (O:∀i,i<d.n->(b4 d.cN λc=>if c.to=(i:Int) then (if c.rk=f c.ax/\P c.ax then d.w c*x c.ax else 0) else 0)<=x i):∀i,i<d.n->0<=x i:=by
 have key:∀i,P i->0<=x i:=by
  intro i0 sn;apply kC;intro jN;obtain⟨C,sW⟩:∃C:Nat->Prop,∀i,C i↔P i/\x i<0:=⟨λi=>P i/\x i<0,λ_=>Iff.rfl⟩;have jA:∀i,C i->i<d.n:=λi h=>(fN i ((sW i).1 h).1).1;refine bu C ⟨i0,(sW i0).2 ⟨sn,by grind⟩⟩ (λi h=>((sW i).1 h).1) ?_
  have aA:=U0 C jA d.cN λc=>if c.rk=f c.ax/\P c.ax then d.w c*x c.ax else 0;have ay:=X.JC C f (λk J=>L.qI (fN k ((sW k).1 J).1).1 (fN k ((sW k).1 J).1).2) x
  have cV:bw d.n (λi=>if C i then b4 d.cN (λc=>if c.to=(i:Int) then (if c.rk=f c.ax/\P c.ax then d.w c*x c.ax else 0) else 0) else 0)<=bw d.n (λk=>if C k then x k else 0):=by
   refine JA λk J=>?_
   by_cases G:C k
   ·rw[Z G,Z G];exact O k J
   ·rw[aa G,aa G];exact fQ
  rw[aA,<-ay] at cV;have da:=UY (l:=d.cN) (aO:=λc=>(if pW C c then (if c.rk=f c.ax/\P c.ax then d.w c*x c.ax else 0) else 0)-(if C c.ax/\c.rk=f c.ax then d.w c*x c.ax else 0)) (λc G=>?_) (by rw[Jz];grind)
  ·intro c G gh gH sX;apply kC;intro b9;have:=da c G
   try dsimp only at this
   rw[aa b9,Z ⟨gh,gH⟩] at this;have E:=X.U6 G sX;have H:=((sW _).1 gh).2;have ab:0<d.w c*(-x c.ax):=JB E (by grind);grind
  ·try dsimp only
   have E:=X.pX G
   have fh:((if C c.ax/\c.rk=f c.ax then d.w c*x c.ax else 0)=(if c.rk=f c.ax/\P c.ax then d.w c*x c.ax else 0)/\(if C c.ax/\c.rk=f c.ax then d.w c*x c.ax else 0)<=0)\/((if C c.ax/\c.rk=f c.ax then d.w c*x c.ax else 0)=0/\0<=(if c.rk=f c.ax/\P c.ax then d.w c*x c.ax else 0)):=by
    by_cases gh:C c.ax/\c.rk=f c.ax
    ·left
     have H:=(sW _).1 gh.1;have ab:0<=d.w c*(-x c.ax):=sV E (by have:=H.2;grind);have aM:c.rk=f c.ax/\P c.ax:=⟨gh.2,H.1⟩;rw[Z gh,Z aM];exact⟨rfl,by grind⟩
    ·right
     rw[aa gh];refine⟨rfl,?_⟩
     split
     ·rename_i H;refine sV E ?_;apply kC;intro h;exact gh ⟨(sW _).2 ⟨H.2,by grind⟩,H.1⟩
     ·exact fQ
   generalize (if C c.ax/\c.rk=f c.ax then d.w c*x c.ax else 0)=B at *;generalize (if c.rk=f c.ax/\P c.ax then d.w c*x c.ax else 0)=A at *;rcases fh with ⟨H,ab⟩|⟨H,ab⟩<;>split<;>grind
 intro i b9;refine sY ?_ (O i b9);refine xq λc G=>?_
 split
 ·split
  ·rename_i h;exact sV (X.pX G) (key _ h.2)
  ·exact fQ
 ·exact fQ
theorem Day.aqC (d:Day)(f:Nat->Nat)(P:Nat->Prop)(h b2:Nat->Rat)(c:dL):d.l f P b2 c-d.l f P h c=if c.rk=f c.ax/\P c.ax then d.w c*(b2 c.ax-h c.ax) else 0:=by
 unfold Day.l
 by_cases E:c.rk<f c.ax
 ·rw[Z E,Z E,aa (by omega)];grind
 ·rw[aa E,aa E]
  split<;>grind
theorem aqD {d:Day}{f:Nat->Nat}{g:Nat->Rat}(L:Inv d f g)(X:d.cT){P:Nat->Prop}(fN:∀i,P i->i<d.n/\f i<10)(bu:∀C:Nat->Prop,(∃i,C i)->(∀i,C i->P i)->¬ d.closed f C){h b2:Nat->Rat}
  (e:∀i,i<d.n->h i=d.eG (d.l f P h) i) (e':∀i,i<d.n->b2 i=d.eG (d.l f P b2) i):∀i,i<d.n->h i=b2 i:=by
 have main:∀h b2:Nat->Rat,(∀i,i<d.n->h i=d.eG (d.l f P h) i)->(∀i,i<d.n->b2 i=d.eG (d.l f P b2) i)->∀i,i<d.n->0<=b2 i-h i:=by
  intro h b2 e e';refine Bg L X fN bu (λi=>b2 i-h i) λi b9=>?_;rw[e i b9,e' i b9,d.Ny];refine y1 (uj λc G=>?_);rw[d.aqC]
 intro i b9;have E:=main h b2 e e' i b9;have H:=main b2 h e' e i b9;grind
theorem aqE {d:Day}{f:Nat->Nat}{g:Nat->Rat}(L:Inv d f g)(X:d.cT){P:Nat->Prop}(fN:∀i,P i->i<d.n/\f i<10)(bu:∀C:Nat->Prop,(∃i,C i)->(∀i,C i->P i)->¬ d.closed f C)(x:Nat->Rat)
  (O:∀i,i<d.n->x i=b4 d.cN λc=>if c.to=(i:Int) then (if c.rk=f c.ax/\P c.ax then d.w c*x c.ax else 0) else 0):∀i,i<d.n->x i=0:=by
 intro i b9;have E:=Bg L X fN bu x (λi b9=>y1 (O i b9).symm) i b9;have H:=Bg L X fN bu (λi => -x i) (λi b9=>?_) i b9
 ·grind
 ·rw[O i b9];refine y1 ?_;have:∀aO:dL->Rat,-(b4 d.cN aO)=b4 d.cN λc=>(-1)*aO c:=λaO=>by rw[Nw];grind
  rw[this];refine uj λc G=>?_
  split
  ·split<;>grind
  ·grind
theorem Day.aqF {d:Day}(X:d.cT){f:Nat->Nat}{P:Nat->Prop}{h g:Nat->Rat}(hle:∀i,i<d.n->h i<=g i){c:dL}(G:c∈d.cN):d.l f P h c<=d.q f g c:=by
 unfold Day.l Day.q
 by_cases E:c.rk<f c.ax
 ·rw[Z E,Z E];exact fQ
 ·rw[aa E,aa E]
  by_cases H:c.rk=f c.ax
  ·rw[Z H];have hw:=X.pX G
   by_cases ab:P c.ax
   ·rw[Z ⟨H,ab⟩];refine Cu hw (sY ?_ (JD _));have:=hle _ (X.ax c G);grind
   ·rw[aa λh=>ab h.2];exact sV hw (xt _)
  ·rw[aa λh=>H h.1,aa H];exact fQ
theorem hZ.start {d:Day}(X:d.cT){f:Nat->Nat}{g:Nat->Rat}(L:Inv d f g){h:Nat->Rat}(Q:∀i,i<d.n->h i=d.eG (d.l f (λ_=>False) h) i):hZ d f g (λ_=>False) h :=
 ⟨λi h=>h.elim,λC ⟨i,h⟩ b2=>(b2 i h).elim,Q,λi b9=>by
  rw[Q i b9];refine sY (d.Cv (b:=d.q f g) (λc G=>?_) i) (L.sup i b9);unfold Day.l Day.q
  by_cases E:c.rk<f c.ax
  ·rw[Z E,Z E];exact fQ
  ·rw[aa E,aa E,aa λh=>h.2]
   split
   ·exact sV (X.pX G) (xt _)
   ·exact fQ,λi h=>h.elim⟩
def rH (d:Day)(f:Nat->Nat)(P:Nat->Prop)(h:Nat->Rat)(i:Nat):Prop:=P i\/(i<d.n/\f i<10/\d.U i (f i)<h i)
theorem hZ.Ft {d:Day}{f:Nat->Nat}{g:Nat->Rat}{P:Nat->Prop}{h:Nat->Rat}(aC:hZ d f g P h):∀i,rH d f P h i->i<d.n/\f i<10:=λi aG=>aG.elim (aC.gN i) λh=>⟨h.1,h.2.1⟩
theorem hZ.U9 {d:Day}{f:Nat->Nat}{g:Nat->Rat}{P:Nat->Prop}{h:Nat->Rat}(aC:hZ d f g P h):∀i,rH d f P h i->d.U i (f i)<h i:=λi aG=>aG.elim (aC.ge i) λh=>h.2.2
theorem hZ.ado {d:Day}(X:d.cT){f:Nat->Nat}{g:Nat->Rat}(L:Inv d f g){P:Nat->Prop}{h:Nat->Rat}(aC:hZ d f g P h):∀C:Nat->Prop,(∃i,C i)->(∀i,C i->rH d f P h i)->¬ d.closed f C:=by
 intro C E H ab;have aJ:∀i,C i->i<d.n/\f i<10:=λi G=>aC.Ft i (H i G)
 have ir:=L.adn X E aJ ab (d.l f P h) (λk=>if P k then h k-d.U k (f k) else 0) (λk _ J=>by
  try dsimp only
  split
  ·have:=aC.ge k (by assumption);grind
  ·exact fQ) λc G _=>by
   by_cases dN:C c.ax
   ·rw[Fs dN]
    by_cases cF:c.rk<f c.ax
    ·rw[Day.adl cF,Z cF,aa (λh=>by have:=h.2;omega)];grind
    ·rw[aa cF]
     by_cases dk:c.rk=f c.ax
     ·have k5:C c.ax/\c.rk=f c.ax:=⟨dN,dk⟩;rw[Z k5]
      by_cases hH:P c.ax
      ·rw[Day.adm dk hH,Z hH,dk];grind
      ·rw[Day.U8 cF (λh=>hH h.2),aa hH];grind
     ·rw[Day.U8 cF (λh=>dk h.1),aa λh=>dk h.2];grind
   ·rw[JF dN,aa λh=>dN h.1];have:=Day.aqF X (P:=P) (f:=f) aC.le G;grind
 have e:d.gy C (d.eG (d.l f P h))=d.gy C h:=Day.JE λi b9 _=>(aC.sys i b9).symm;rw[e] at ir
 have:d.gy C (λi=>d.U i (f i)+if P i then h i-d.U i (f i) else 0)<=d.gy C h:=by
  refine Day.adk λi b9 G=>?_;have:=aC.U9 i (H i G)
  split<;>grind
 grind
theorem hZ.next {d:Day}(X:d.cT){f:Nat->Nat}{g:Nat->Rat}(L:Inv d f g){P:Nat->Prop}{h b2:Nat->Rat}(aC:hZ d f g P h)(Q:∀i,i<d.n->b2 i=d.eG (d.l f (rH d f P h) b2) i):hZ d f g (rH d f P h) b2:=by
 have bu:=aC.ado X L
 have wR:∀i,i<d.n->0<=b2 i-h i:=by
  refine Bg L X aC.Ft bu (λi=>b2 i-h i) λi b9=>?_;rw[Q i b9,aC.sys i b9,d.Ny];refine Ct λc G=>?_;have hw:=X.pX G
  split
  ·unfold Day.l
   by_cases E:c.rk<f c.ax
   ·rw[Z E,Z E,aa (by omega)];grind
   ·rw[aa E,aa E]
    by_cases H:c.rk=f c.ax
    ·by_cases ab:rH d f P h c.ax
     ·rw[Z ⟨H,ab⟩,Z ⟨H,ab⟩]
      by_cases aM:P c.ax
      ·rw[Z ⟨H,aM⟩];grind
      ·rw[aa λh=>aM h.2];have bj:=aC.U9 _ ab;have:=sV hw (show 0<=h c.ax-d.U c.ax c.rk by rw[H];grind);grind
     ·rw[aa λh=>ab h.2,aa λh=>ab h.2,aa λh=>ab (.inl h.2)];grind
    ·rw[aa λh=>H h.1,aa λh=>H h.1,aa λh=>H h.1];grind
  ·exact fQ
 have hle:∀i,i<d.n->0<=g i-b2 i:=by
  refine Bg L X aC.Ft bu (λi=>g i-b2 i) λi b9=>?_;refine sY ?_ (show d.eG (d.q f g) i-b2 i<=g i-b2 i by have:=L.sup i b9;grind);rw[Q i b9,d.Ny];refine Ct λc G=>?_;have hw:=X.pX G
  split
  ·unfold Day.l Day.q
   by_cases E:c.rk<f c.ax
   ·rw[Z E,Z E,aa (by omega)];grind
   ·rw[aa E,aa E]
    by_cases H:c.rk=f c.ax
    ·rw[Z H]
     by_cases ab:rH d f P h c.ax
     ·rw[Z ⟨H,ab⟩,Z ⟨H,ab⟩];have:=Cu hw (JD (g c.ax-d.U c.ax c.rk));grind
     ·rw[aa λh=>ab h.2,aa λh=>ab h.2];have:=sV hw (xt (g c.ax-d.U c.ax c.rk));grind
    ·rw[aa λh=>H h.1,aa H,aa λh=>H h.1];grind
  ·exact fQ
 exact⟨aC.Ft,bu,Q,λi b9=>by have:=hle i b9;grind,λi aG=>by
  have E:=aC.U9 i aG;have H:=wR i (aC.Ft i aG).1;grind⟩
theorem hZ.stop {d:Day}(X:d.cT){f:Nat->Nat}{g:Nat->Rat}{P:Nat->Prop}{h:Nat->Rat}(aC:hZ d f g P h)(L:Inv d f g)(aqG:∀i,i<d.n->f i<10->d.U i (f i)<h i->P i):∀i,i<d.n->h i=d.eG (d.q f h) i:=by
 intro i b9;rw[aC.sys i b9];refine d.adj (λc G=>?_) i;unfold Day.l Day.q
 by_cases E:c.rk<f c.ax
 ·rw[Z E,Z E]
 ·rw[aa E,aa E]
  by_cases H:c.rk=f c.ax
  ·rw[Z H]
   by_cases ab:P c.ax
   ·rw[Z ⟨H,ab⟩,sT];have:=aC.ge _ ab;rw[H];grind
   ·rw[aa λh=>ab h.2,sU]
    ·grind
    ·apply kC;intro aG;refine ab (aqG _ (X.ax c G) (by rw[<-H];exact X.rk c G) ?_);rw[<-H];grind
  ·rw[aa λh=>H h.1,aa H]
end Go.Mini
namespace Go.Mini
open Classical
def Day.hy (d:Day)(h:Nat->Rat)(c:dL):Rat:=if d.U c.ax (c.rk+1)<=h c.ax then c.am else d.w c*pos (h c.ax-d.U c.ax c.rk)
theorem Day.cT.NA {d:Day}(X:d.cT){c:dL}(G:c∈d.cN){x:Rat}(h:x<=d.S c.ax c.rk):d.w c*x<=c.am:=by
 have ai:=X.am c G;have E:=X.U4 G
 by_cases cv:0<d.S c.ax c.rk
 ·have:=Cu (X.pX G) h;rw[Day.Fq cv] at this;exact this
 ·rw[Day.Jg (by grind),y2];exact ai
theorem Day.cT.Va {d:Day}(X:d.cT)(h:Nat->Rat){c:dL}(G:c∈d.cN):d.hy h c<=c.am:=by
 unfold Day.hy
 split
 ·exact fQ
 ·rename_i aG;refine X.NA G ?_;rw[d.xr] at aG;have:=X.Nx c.ax c.rk;unfold pos
  split<;>grind
theorem Day.cT.adp {d:Day}(X:d.cT)(h:Nat->Rat){c:dL}(G:c∈d.cN):0<=d.hy h c:=by
 unfold Day.hy
 split
 ·exact X.am c G
 ·exact sV (X.pX G) (xt _)
theorem Day.cT.NB {d:Day}(X:d.cT)(f:Nat->Nat)(h:Nat->Rat){c:dL}(G:c∈d.cN):0<=d.q f h c:=by
 unfold Day.q
 split
 ·exact X.am c G
 ·split
  ·exact sV (X.pX G) (xt _)
  ·exact fQ
theorem Day.cT.Vb {d:Day}(X:d.cT){a:dL->Rat}(h:∀c∈d.cN,0<=a c){i:Nat}(L:i<d.n):0<=d.eG a i:=by
 unfold Day.eG;have E:=X.cash i L
 have:=xq (l:=d.cN) (aO:=λc=>if c.to=(i:Int) then a c else 0) λc G=>by
  try dsimp only
  split
  ·exact h c G
  ·exact fQ
 grind
theorem Day.cT.adq {d:Day}(X:d.cT){f:Nat->Nat}{h g:Nat->Rat}{c:dL}(G:c∈d.cN)(hle:h c.ax<=g c.ax):d.q f h c<=d.q f g c:=by
 unfold Day.q
 split
 ·exact fQ
 ·split
  ·exact Cu (X.pX G) (adi (by grind))
  ·exact fQ
def Vc (d:Day)(f:Nat->Nat)(h:Nat->Rat)(gG:Nat->Nat):Prop:=(∀i,gG i<=10)/\(∀i,i<d.n->h i<d.U i (f i)->gG i<f i/\d.U i (gG i)<=h i/\h i<d.U i (gG i+1))/\∀i,i<d.n->d.U i (f i)<=h i->gG i=f i
theorem Vd {d:Day}(X:d.cT){f gG:Nat->Nat}{h:Nat->Rat}(aJ:Vc d f h gG){c:dL}(G:c∈d.cN):d.q gG h c<=d.q f h c:=by
 obtain⟨-,E,H⟩:=aJ;have bK:=X.ax c G
 by_cases e4:h c.ax<d.U c.ax (f c.ax)
 ·obtain⟨cF,dk,dN⟩:=E _ bK e4;unfold Day.q
  by_cases eT:c.rk<gG c.ax
  ·rw[Z eT,Z (by omega)];exact fQ
  ·rw[aa eT]
   by_cases ei:c.rk=gG c.ax
   ·rw[Z ei,Z (by omega)];rw[<-ei] at dk dN;rw[d.xr] at dN;exact X.NA G (by rw[sT (by grind)];grind)
   ·rw[aa ei];exact X.NB f h G
 ·have:=H _ bK (by grind);unfold Day.q;rw[this];exact fQ
theorem Inv.Ve {d:Day}(X:d.cT){f gG:Nat->Nat}{g h:Nat->Rat}(L:Inv d f g)(AE:∀i,i<d.n->h i=d.eG (d.q f h) i)(hle:∀i,i<d.n->h i<=g i)(aJ:Vc d f h gG):Inv d gG h:=by
 have fg:∀i,i<d.n->gG i<10->d.U i (gG i)<=h i:=by
  intro i b9 Ax
  by_cases e4:h i<d.U i (f i)
  ·exact (aJ.2.1 i b9 e4).2.1
  ·rw[aJ.2.2 i b9 (by grind)];grind
 have iq:∀i,i<d.n->gG i<10->h i<d.U i (gG i+1):=by
  intro i b9 Ax
  by_cases e4:h i<d.U i (f i)
  ·exact (aJ.2.1 i b9 e4).2.2
  ·have e:=aJ.2.2 i b9 (by grind);rw[e] at Ax ⊢;have:=L.L i b9 Ax;have:=hle i b9;grind
 have cv:∀i,i<d.n->gG i<10->0<d.S i (gG i):=by
  intro i b9 Ax;have E:=fg i b9 Ax;have H:=iq i b9 Ax;rw[d.xr] at H;grind
 refine⟨aJ.1,λi b9=>?_,fg,iq,λC E H ab=>?_⟩
 ·exact sY (d.Cv (λc G=>Vd X aJ G) i) (y1 (AE i b9).symm)
 ·have jA:∀i,C i->i<d.n:=λi G=>(H i G).1
  by_cases hex:∃k,C k/\h k<d.U k (f k)
  ·obtain⟨e5,sf,e4⟩:=hex;have adr:=jA e5 sf;obtain⟨dR,gQ,ox⟩:=aJ.2.1 e5 adr e4;have pM:=cv e5 adr (H e5 sf).2;obtain⟨gx,j5,oh⟩:=UZ pM
   have aqH:gx.ax=e5/\gx.rk=gG e5/\0<gx.am:=by
    by_cases aQ:gx.ax=e5/\gx.rk=gG e5
    ·rw[Z aQ] at oh;exact⟨aQ.1,aQ.2,oh⟩
    ·rw[aa aQ] at oh;exact absurd oh (by grind)
   obtain⟨c5,dK,fl⟩:=aqH;have aA:=Day.U7 jA (d.q f h);have ay:=Day.U7 jA (d.q gG (d.cap gG h C));have cV:d.gy C (d.eG (d.q f h))=d.gy C h:=Day.JE λi b9 _=>(AE i b9).symm;have da:=X.JC C gG (λk J=>cv k (jA k J) (H k J).2) λk=>h k-d.U k (gG k);have dC:d.gy C (λk=>h k-d.U k (gG k))=bw d.n λk=>if C k then h k-d.U k (gG k) else 0:=rfl;rw[<-dC,d.aqx] at da
   have bL:b4 d.cN (λc=>(if pW C c then d.q gG (d.cap gG h C) c else 0)+(if C c.ax/\c.rk=gG c.ax then d.w c*(h c.ax-d.U c.ax (gG c.ax)) else 0))<b4 d.cN (λc=>if pW C c then d.q f h c else 0):=by
    refine aqu (λc G=>?_) j5 ?_
    ·have bK:=X.ax c G
     by_cases b9:pW C c
     ·rw[Z b9,Z b9]
      by_cases gh:C c.ax
      ·rw[Fs gh]
       by_cases eT:c.rk<gG c.ax
       ·rw[Z eT,aa (by omega)]
        have:c.rk<f c.ax:=by
         by_cases e4:h c.ax<d.U c.ax (f c.ax)
         ·have:=(aJ.2.1 _ bK e4).1;omega
         ·rw[<-aJ.2.2 _ bK (by grind)];exact eT
        unfold Day.q;rw[Z this];grind
       ·rw[aa eT]
        by_cases ei:c.rk=gG c.ax
        ·rw[Z ⟨gh,ei⟩]
         by_cases e4:h c.ax<d.U c.ax (f c.ax)
         ·obtain⟨cF,dk,dN⟩:=aJ.2.1 _ bK e4;unfold Day.q;rw[Z (by omega)];rw[d.xr] at dN;have:=X.NA G (x:=h c.ax-d.U c.ax (gG c.ax)) (by rw[ei];grind);grind
         ·have e:=aJ.2.2 _ bK (by grind);rw[e] at eT ei ⊢;unfold Day.q;rw[aa eT,Z ei,<-ei];have:=Cu (X.pX G) (JD (h c.ax-d.U c.ax c.rk));grind
        ·rw[aa λh=>ei h.2];have:=X.NB f h G;grind
      ·rw[JF gh,aa λh=>gh h.1];have:=Vd X aJ G;grind
     ·rw[aa b9,aa b9]
      by_cases gh:C c.ax/\c.rk=gG c.ax
      ·rw[Z gh]
       have:c.am=0:=by
        have ai:=X.am c G
        by_cases aC:0<c.am
        ·exact absurd (ab c G gh.1 gh.2 aC) b9
        ·grind
       rw[Day.Jg this];grind
      ·rw[aa gh];grind
    ·have gh:C gx.ax:=by rw[c5];exact sf
     have gH:gx.rk=gG gx.ax:=by rw[c5];exact dK
     have b9:=ab gx j5 gh gH fl;rw[Z b9,Z b9,Fs gh,aa (by omega),Z ⟨gh,gH⟩];unfold Day.q;rw[Z (by rw[c5];omega)];have hw:=X.U6 j5 fl;have L9:=d.Fq (c:=gx) (by rw[c5,dK];exact pM);rw[d.xr] at ox;rw[<-c5,<-gH] at ox;rw[<-gH];have:0<d.w gx*(d.S gx.ax gx.rk-(h gx.ax-d.U gx.ax gx.rk)):=JB hw (by rw[c5] at ox ⊢;grind);grind
   rw[Nv,da] at bL;grind
  ·have wc:∀k,C k->gG k=f k:=λk J=>aJ.2.2 k (jA k J) (by
    apply kC;intro aG;exact hex ⟨k,J,by grind⟩)
   have cF:=L.cN C E (λi G=>⟨jA i G,by rw[<-wc i G];exact (H i G).2⟩) (λc G gh gH sX=>ab c G gh (by rw[wc _ gh];exact gH) sX);have dk:d.gy C (λi=>d.U i (gG i))=d.gy C λi=>d.U i (f i):=Day.JE λi _ G=>by rw[wc i G]
   rw[dk]
   have dN:d.gy C (d.eG (d.q gG (d.cap gG h C)))<=d.gy C (d.eG (d.q f (d.cap f g C))):=by
    refine Day.adk λi _ _=>d.Cv (λc G=>?_) i
    by_cases gh:C c.ax
    ·rw[Fs gh,Fs gh,wc _ gh];exact fQ
    ·rw[JF gh,JF gh];exact sY (Vd X aJ G) (X.adq G (hle _ (X.ax c G)))
   grind
def Day.pY (d:Day)(h:Nat->Rat)(i:Nat):Rat:=d.eG (d.hy h) i
theorem aqI {d:Day}(X:d.cT){f:Nat->Nat}{g z:Nat->Rat}(L:Inv d f g)(aR:∀i,i<d.n->z i<=g i){c:dL}(G:c∈d.cN):d.hy z c<=d.q f z c:=by
 have bK:=X.ax c G;have gH:=X.rk c G;unfold Day.q
 by_cases eT:c.rk<f c.ax
 ·rw[Z eT];exact X.Va z G
 ·rw[aa eT];have fH:f c.ax<10:=by omega
  have E:=L.L _ bK fH;have H:=aR _ bK
  by_cases ei:c.rk=f c.ax
  ·rw[Z ei];unfold Day.hy;rw[aa (by rw[ei];grind)];exact fQ
  ·rw[aa ei];have ab:=X.vy c.ax (r:=f c.ax+1) (s:=c.rk) (by omega);have aM:=X.vy c.ax (r:=c.rk) (s:=c.rk+1) (by omega);unfold Day.hy;rw[aa (by grind),sU (by grind),l8];exact fQ
theorem Inv.Vf {d:Day}(X:d.cT){f:Nat->Nat}{g h z:Nat->Rat}(L:Inv d f g)(AE:∀i,i<d.n->h i=d.eG (d.q f h) i)(hle:∀i,i<d.n->h i<=g i)(aR:∀i,i<d.n->z i<=d.eG (d.q f z) i):∀i,i<d.n->z i<=h i:=by
 intro i0 sn;apply kC;intro jN;obtain⟨C,sW⟩:∃C:Nat->Prop,∀i,C i↔i<d.n/\h i<z i:=⟨λi=>i<d.n/\h i<z i,λ_=>Iff.rfl⟩;obtain⟨Fu,y3⟩:∃aqJ:Nat->Prop,∀i,aqJ i↔C i/\f i<10:=⟨λi=>C i/\f i<10,λ_=>Iff.rfl⟩;have jA:∀i,C i->i<d.n:=λi h=>((sW i).1 h).1;have Fv:∀i,C i->h i<z i:=λi h=>((sW i).1 h).2;have bP:∃i,C i:=⟨i0,(sW i0).2 ⟨sn,by grind⟩⟩
 have aA:=U0 C jA d.cN λc=>d.q f z c-d.q f h c;have ay:=X.JC Fu f (λk J=>L.qI (jA k ((y3 k).1 J).1) ((y3 k).1 J).2) λk=>z k-h k
 have cV:d.gy C (λi=>z i-h i)<=bw d.n λi=>if C i then b4 d.cN (λc=>if c.to=(i:Int) then d.q f z c-d.q f h c else 0) else 0:=by
  refine JA λk J=>?_
  by_cases G:C k
  ·rw[Z G,Z G,<-d.Ny,<-AE k J];have E:=aR k J;grind
  ·rw[aa G,aa G];exact fQ
 rw[aA] at cV
 have da:bw d.n (λk=>if Fu k then z k-h k else 0)<=d.gy C (λi=>z i-h i):=by
  refine JA λk J=>?_
  by_cases G:C k
  ·rw[Z G];have:=Fv k G
   split<;>grind
  ·rw[aa G,aa λh=>G ((y3 k).1 h).1];exact fQ
 have ads:∀c∈d.cN,0<=(if Fu c.ax/\c.rk=f c.ax then d.w c*(z c.ax-h c.ax) else 0)-(if pW C c then d.q f z c-d.q f h c else 0):=by
  intro c G;have hw:=X.pX G;have bK:=X.ax c G;have gH:=X.rk c G
  by_cases E:Fu c.ax/\c.rk=f c.ax
  ·rw[Z E];have H:0<=d.w c*(z c.ax-h c.ax):=sV hw (by have:=Fv _ ((y3 _).1 E.1).1;grind)
   have ab:d.q f z c-d.q f h c<=d.w c*(z c.ax-h c.ax):=by
    unfold Day.q;rw[aa (by omega),Z E.2,aa (by omega),Z E.2]
    have aM:pos (z c.ax-d.U c.ax c.rk)-pos (h c.ax-d.U c.ax c.rk)<=z c.ax-h c.ax:=by
     have:=Fv _ ((y3 _).1 E.1).1;unfold pos
     split<;>split<;>grind
    have:=Cu hw aM;grind
   split<;>grind
  ·rw[aa E]
   have ab:d.q f z c-d.q f h c<=0:=by
    unfold Day.q
    by_cases eT:c.rk<f c.ax
    ·rw[Z eT,Z eT];grind
    ·rw[aa eT,aa eT]
     by_cases ei:c.rk=f c.ax
     ·rw[Z ei,Z ei]
      have aM:z c.ax<=h c.ax:=by
       apply kC;intro aG;exact E ⟨(y3 _).2 ⟨(sW _).2 ⟨bK,by grind⟩,by omega⟩,ei⟩
      have:=Cu hw (adi (show z c.ax-d.U c.ax c.rk<=h c.ax-d.U c.ax c.rk by grind));grind
     ·rw[aa ei,aa ei];grind
   split<;>grind
 have aqK:=UY ads (by rw[Jz,ay];grind)
 have Vg:∀k,C k->f k<10:=by
  have:bw d.n (λk=>(if C k then z k-h k else 0)-(if Fu k then z k-h k else 0))<=0:=by
   rw[Fo];have:0<=b4 d.cN λc=>(if Fu c.ax/\c.rk=f c.ax then d.w c*(z c.ax-h c.ax) else 0)-(if pW C c then d.q f z c-d.q f h c else 0):=xq ads;rw[Jz,ay] at this;have bj:d.gy C (λi=>z i-h i)=bw d.n λk=>if C k then z k-h k else 0:=rfl;grind
  have aG:=aqv (λk J=>by
   try dsimp only
   by_cases G:C k
   ·rw[Z G];have:=Fv k G
    split<;>grind
   ·rw[aa G,aa λh=>G ((y3 k).1 h).1];grind) this
  intro k J;apply kC;intro fH;have:=aG k (jA k J)
  try dsimp only at this
  rw[Z J,aa λh=>fH ((y3 k).1 h).2] at this;have:=Fv k J;grind
 have b9:∀c∈d.cN,C c.ax->c.rk=f c.ax->0<c.am->pW C c/\d.U c.ax c.rk<=h c.ax:=by
  intro c G gh gH sX;have ai:=aqK c G;have hw:=X.U6 G sX;have ao:=Fv _ gh
  try dsimp only at ai
  rw[Z ⟨(y3 _).2 ⟨gh,Vg _ gh⟩,gH⟩] at ai
  by_cases b9:pW C c
  ·refine⟨b9,?_⟩;rw[Z b9] at ai;unfold Day.q at ai;rw[aa (by omega),Z gH,aa (by omega),Z gH] at ai;apply kC;intro aG;rw[sU (x:=h c.ax-d.U c.ax c.rk) (by grind)] at ai
   have aM:0<z c.ax-h c.ax-pos (z c.ax-d.U c.ax c.rk):=by
    unfold pos
    split<;>grind
   have:=JB hw aM;grind
  ·rw[aa b9] at ai;have:0<d.w c*(z c.ax-h c.ax):=JB hw (by grind);grind
 have kY:∀k,C k->d.U k (f k)<=h k:=by
  intro k J;have Q:=L.qI (jA k J) (Vg k J);obtain⟨gx,j5,oh⟩:=UZ Q
  by_cases aQ:gx.ax=k/\gx.rk=f k
  ·rw[Z aQ] at oh;have:=(b9 gx j5 (by rw[aQ.1];exact J) (by rw[aQ.1];exact aQ.2) oh).2;rwa [aQ.1,aQ.2] at this
  ·rw[aa aQ] at oh;exact absurd oh (by grind)
 have ir:=L.adn X bP (λi G=>⟨jA i G,Vg i G⟩) (λc G gh gH sX=>(b9 c G gh gH sX).1) (d.q f h) (λk=>h k-d.U k (f k)) (λk _ J=>by have:=kY k J;grind) λc G _=>by
  by_cases gh:C c.ax
  ·rw[Fs gh];unfold Day.q
   by_cases eT:c.rk<f c.ax
   ·rw[Z eT,Z eT,aa (by omega)];grind
   ·rw[aa eT,aa eT]
    by_cases ei:c.rk=f c.ax
    ·rw[Z ei,Z ⟨gh,ei⟩,ei,sT (by have:=kY _ gh;grind)];grind
    ·rw[aa ei,aa λh=>ei h.2];grind
  ·rw[JF gh,aa λh=>gh h.1];have:=X.adq (f:=f) G (hle _ (X.ax c G));grind
 have bH:d.gy C (d.eG (d.q f h))=d.gy C h:=Day.JE λi b9 _=>(AE i b9).symm;have bA:d.gy C (λi=>d.U i (f i)+(h i-d.U i (f i)))=d.gy C h:=Day.JE λi _ _=>by grind
 rw[bH,bA] at ir;exact absurd ir (by grind)
theorem Inv.final {d:Day}(X:d.cT){f:Nat->Nat}{g h:Nat->Rat}(L:Inv d f g)(AE:∀i,i<d.n->h i=d.eG (d.q f h) i)(hle:∀i,i<d.n->h i<=g i)(jt:∀i,i<d.n->d.U i (f i)<=h i):(∀i,i<d.n->h i=d.pY h i)/\∀i,i<d.n->(f i<10↔h i<d.U i 10):=by
 constructor
 ·intro i b9;rw[AE i b9];unfold Day.pY;have:∀j,j<d.n->h j=d.eG (d.q f h) j:=AE;refine d.adj (λc G=>?_) i;have bK:=X.ax c G;have gH:=X.rk c G;have ai:=jt _ bK;unfold Day.q Day.hy
  by_cases eT:c.rk<f c.ax
  ·have:=X.vy c.ax (r:=c.rk+1) (s:=f c.ax) (by omega);rw[Z eT,Z (by grind)]
  ·rw[aa eT];have fH:f c.ax<10:=by omega
   have E:=L.L _ bK fH;have H:=hle _ bK
   by_cases ei:c.rk=f c.ax
   ·rw[Z ei,aa (by rw[ei];grind)]
   ·have ab:=X.vy c.ax (r:=f c.ax+1) (s:=c.rk) (by omega);have aM:=X.vy c.ax (r:=c.rk) (s:=c.rk+1) (by omega);rw[aa ei,aa (by grind),sU (by grind),l8]
 ·intro i b9
  constructor
  ·intro fH;have E:=L.L _ b9 fH;have H:=hle _ b9;have ab:=X.vy i (r:=f i+1) (s:=10) (by omega);grind
  ·intro E;apply kC;intro H;have ab:=L.le i;have aM:f i=10:=by omega
   have bj:=jt i b9;rw[aM] at bj;grind
end Go.Mini
namespace Go.Mini
open Classical
def mK (d:Day)(f:Nat->Nat)(h:Nat->Rat):Prop:=∃g,Inv d f g/\(∀i,i<d.n->h i=d.eG (d.q f h) i)/\∀i,i<d.n->h i<=g i
theorem mK.unique {d:Day}(X:d.cT){f:Nat->Nat}{h b2:Nat->Rat}(a:mK d f h)(b:mK d f b2):∀i,i<d.n->h i=b2 i:=by
 obtain⟨g,E,H,ab⟩:=a;obtain⟨df,cF,dk,dN⟩:=b;intro i b9;have aA:=E.Vf X H ab (z:=b2) (λi L=>y1 (dk i L)) i b9;have ay:=cF.Vf X dk dN (z:=h) (λi L=>y1 (H i L)) i b9;grind
def Day.iQ (d:Day)(h:Nat->Rat)(i:Nat):Nat->Nat
 |0=>10
 |k+1=>if h i<d.U i (10-(k+1)+1) then 10-(k+1) else Day.iQ d h i k
theorem Vh {d:Day}(X:d.cT){h:Nat->Rat}{i:Nat}:∀k,k<=10->d.U i (10-k)<=h i->(d.iQ h i k=10/\d.U i 10<=h i)\/(10-k<=d.iQ h i k/\d.iQ h i k<10/\d.U i (d.iQ h i k)<=h i/\h i<d.U i (d.iQ h i k+1))
 |0,_,ai => .inl ⟨rfl,ai⟩
 |k+1,J,ai=>by
  unfold Day.iQ
  by_cases E:h i<d.U i (10-(k+1)+1)
  ·rw[Z E];exact .inr ⟨bM _,by omega,ai,E⟩
  ·rw[aa E];rcases Vh X (h:=h) (i:=i) k (by omega) (by rw[show 10-k=10-(k+1)+1 by omega];grind) with e|⟨aA,ay⟩
   ·exact .inl e
   ·exact .inr ⟨by omega,ay⟩
def Day.gN (d:Day)(f:Nat->Nat)(h:Nat->Rat)(i:Nat):Nat:=if i<d.n/\h i<d.U i (f i) then d.iQ h i 10 else f i
theorem adt {d:Day}(X:d.cT){f:Nat->Nat}{h:Nat->Rat}(hle:∀i,f i<=10)(ai:∀i,i<d.n->0<=h i):Vc d f h (d.gN f h):=by
 have key:∀i,i<d.n->h i<d.U i (f i)->d.iQ h i 10<f i/\d.U i (d.iQ h i 10)<=h i/\h i<d.U i (d.iQ h i 10+1):=by
  intro i b9 e4;have hm:=X.vy i (hle i);rcases Vh X (h:=h) (i:=i) 10 (bM _) (by rw[kL,d.U3];exact ai i b9) with ⟨-,e⟩|⟨-,aA,ay,cV⟩
  ·grind
  ·refine⟨?_,ay,cV⟩;apply kC;intro aG;have:=X.vy i (r:=f i) (s:=d.iQ h i 10) (by omega);grind
 refine⟨λi=>?_,λi b9 e4=>?_,λi b9 e4=>?_⟩
 ·unfold Day.gN
  split
  ·rename_i aQ;have:=(key i aQ.1 aQ.2).1;have:=hle i;omega
  ·exact hle i
 ·unfold Day.gN;rw[Z ⟨b9,e4⟩];exact key i b9 e4
 ·unfold Day.gN;rw[aa λaQ=>by have:=aQ.2;grind]
theorem mK.Ve {d:Day}(X:d.cT){f:Nat->Nat}{h:Nat->Rat}(a:mK d f h):Inv d (d.gN f h) h:=by
 obtain⟨g,E,H,ab⟩:=a;exact E.Ve X H ab (adt X E.le λi b9=>by rw[H i b9];exact X.Vb (λc G=>X.NB f h G) b9)
theorem mK.Vi {d:Day}(X:d.cT){f:Nat->Nat}{h:Nat->Rat}(a:mK d f h){i:Nat}(b9:i<d.n):0<=h i:=by
 obtain⟨g,E,H,ab⟩:=a;rw[H i b9];exact X.Vb (λc G=>X.NB f h G) b9
def Day.top (d:Day)(f:Nat->Nat):Nat->Rat:=if h:∃x,mK d f x then yc h else λ_=>0
def Day.jP (d:Day)(f:Nat->Nat):List Nat:=(dQ d.n).filter λi=>decide (d.top f i<d.U i (f i))
def Day.rounds (d:Day):Nat->(Nat->Nat)->List (List Nat)×(Nat->Nat)
 |0,f=>([],f)
 |k+1,f=>if d.jP f=[] then ([],f) else (d.jP f::(Day.rounds d k (d.gN f (d.top f))).1,(Day.rounds d k (d.gN f (d.top f))).2)
def Reach (d:Day)(f:Nat->Nat):Prop:=∃g,Inv d f g/\∀z,(∀i,i<d.n->z i<=d.pY z i)->∀i,i<d.n->z i<=g i
theorem Reach.start {d:Day}(X:d.cT):Reach d λ_=>10:=⟨_,Inv.start X,λz aR i b9=>sY (aR i b9) (d.Cv (λ_ G=>X.Va z G) i)⟩
def lL:Nat->(Nat->Nat)->Nat
 |0,_=>0
 |n+1,f=>lL n f+f n
theorem aqL {n:Nat}{f g:Nat->Nat}(h:∀i,i<n->f i<=g i):lL n f<=lL n g:=by
 induction n with
 |zero=>exact bM _
 |succ n aw =>
  have:=aw λi L=>h i (by omega);have:=h n (by omega);simp only[lL];omega
theorem Vj {n:Nat}{f g:Nat->Nat}(h:∀i,i<n->f i<=g i){j:Nat}(ag:j<n)(ao:f j<g j):lL n f<lL n g:=by
 induction n with
 |zero=>omega
 |succ n aw =>
  have E:=h n (by omega);simp only[lL]
  by_cases aqM:j=n
  ·subst aqM;have:=aqL (n:=j) (f:=f) (g:=g) λi L=>h i (by omega);omega
  ·have:=aw (λi L=>h i (by omega)) (by omega);omega
theorem Day.Cw {d:Day}{f:Nat->Nat}(h:∃x,mK d f x):mK d f (d.top f):=by
 unfold Day.top;rw[dif_pos h];exact oQ h
theorem Day.adu {d:Day}{f:Nat->Nat}{i:Nat}:i∈d.jP f↔i<d.n/\d.top f i<d.U i (f i):=by
 unfold Day.jP;rw[Fw,hn,decide_eq_true_eq]
section
variable {d:Day} (X:d.cT) (hex:∀f,Reach d f->∃h,mK d f h)
include X hex
theorem adv {f:Nat->Nat}(Y:Reach d f){z:Nat->Rat}(aR:∀i,i<d.n->z i<=d.pY z i):∀i,i<d.n->z i<=d.top f i:=by
 obtain⟨g,E,H,ab⟩:=Day.Cw (hex f Y);obtain⟨df,cF,dk⟩:=Y;have bI:mK d f (d.top f):=⟨g,E,H,ab⟩
 -- the end of the round below df
 intro i b9;have Hr:=λk J=>sY (aR k J) (d.Cv (λ_ G=>aqI X cF (dk z aR) G) k);exact E.Vf X H ab Hr i b9
theorem Reach.next {f:Nat->Nat}(Y:Reach d f):Reach d (d.gN f (d.top f)):=⟨d.top f,(Day.Cw (hex f Y)).Ve X,λz aR=>adv X hex Y aR⟩
theorem Vk {f:Nat->Nat}(Y:Reach d f)(bP:d.jP f≠[]):lL d.n (d.gN f (d.top f))<lL d.n f:=by
 obtain⟨i,L⟩:=List.exists_mem_of_ne_nil _ bP;obtain⟨E,H⟩:=Day.adu.1 L;have bI:=Day.Cw (hex f Y);obtain⟨g,cF,-⟩:=bI;have aJ:=adt X cF.le (h:=d.top f) λi b9=>(Day.Cw (hex f Y)).Vi X b9;refine Vj (λj ag=>?_) E (aJ.2.1 i E H).1
 by_cases e4:d.top f j<d.U j (f j)
 ·have:=(aJ.2.1 j ag e4).1;omega
 ·rw[aJ.2.2 j ag (by grind)];exact bM _
theorem adw:∀k (f:Nat->Nat),Reach d f->lL d.n f<=k->Reach d (d.rounds k f).2/\d.jP (d.rounds k f).2=[]
 |0,f,Y,J=>by
  refine⟨Y,?_⟩;apply kC;intro bP;have:=Vk X hex Y bP;omega
 |k+1,f,Y,J=>by
  unfold Day.rounds
  by_cases bP:d.jP f=[]
  ·rw[Z bP];exact⟨Y,bP⟩
  ·rw[aa bP];have:=Vk X hex Y bP;exact adw k _ (Y.next X hex) (by omega)
end
theorem Day.aqN (d:Day){f:Nat->Nat}(h:d.jP f=[]):∀k,d.rounds k f=([],f)
 |0=>rfl
 |k+1=>by unfold Day.rounds;rw[Z h]
end Go.Mini
namespace Go.Mini
abbrev ar:=Int×Int×Int×Int
def oy (n:Int)(c:ar):Bool:=decide (0<=c.1)&&decide (c.1<n)&&decide (-1<=c.2.1)&&decide (c.2.1<n)&&decide (0<=c.2.2.1)&&decide (c.2.2.1<10)&&decide (0<=c.2.2.2)&&decide (c.2.2.2<=1000000000000000)
def hI (cash:List Int)(cs:List ar):Bool:=decide (D cash<=60)&&decide (D cs<=2000)&&cash.all (λx=>decide (0<=x)&&decide (x<=1000000000000000))&&cs.all (oy (D cash))
def cm (c:ar):dL:=⟨c.1.toNat,c.2.1,c.2.2.1.toNat,(c.2.2.2:Rat)⟩
def aB (cash:List Int)(cs:List ar):Day:=⟨D cash,λi=>((cash.getD i 0:Int):Rat),cs.map cm⟩
theorem g2 {cash:List Int}{cs:List ar}:hI cash cs=true↔(D cash)<=60/\D cs<=2000/\(∀x∈cash,0<=x/\x<=1000000000000000)/\∀c∈cs,0<=c.1/\c.1<(D cash) /\ -1<=c.2.1/\c.2.1<D cash/\0<=c.2.2.1/\c.2.2.1<10/\0<=c.2.2.2/\c.2.2.2<=1000000000000000:=by
 unfold hI oy;simp only[e3,decide_eq_true_eq,List.all_eq_true,and_assoc]
theorem JG {cash:List Int}{cs:List ar}(h:hI cash cs=true):(aB cash cs).cT:=by
 obtain⟨-,-,ab,aM⟩:=g2.1 h
 have G:∀x∈(aB cash cs).cN,∃c∈cs,x=cm c:=λx O=>by
  obtain⟨c,G,rfl⟩:=fI.1 O;exact⟨c,G,rfl⟩
 refine⟨λx O=>?_,λx O=>?_,λx O=>?_,λx O=>?_,λi L=>?_⟩
 ·obtain⟨c,G,rfl⟩:=G x O;have:=aM c G;show c.1.toNat<D cash;omega
 ·obtain⟨c,G,rfl⟩:=G x O;have:=aM c G;show c.2.1<(D cash:Int);omega
 ·obtain⟨c,G,rfl⟩:=G x O;have:=aM c G;show c.2.2.1.toNat<10;omega
 ·obtain⟨c,G,rfl⟩:=G x O;have:=(aM c G).2.2.2.2.2.2.1;show (0:Rat)<=(c.2.2.2:Rat);exact_mod_cast this
 ·show (0:Rat)<=((cash.getD i 0:Int):Rat);have kr:i<D cash:=L
  have:0<=cash.getD i 0:=by
   rw[ea,bx kr];exact (ab _ (n7 kr)).1
  exact_mod_cast this
def ck:List ar->(ar->Int)->Int
 | [],_=>0
 |c::l,aO=>aO c+ck l aO
def ca (cs:List ar)(jQ r:Int):Int:=ck cs λc=>if c.1=jQ/\c.2.2.1<r then c.2.2.2 else 0
theorem NC (cs:List ar)(aO:ar->Int)(bz:dL->Rat)(h:∀c∈cs,((aO c:Int):Rat)=bz (cm c)):((ck cs aO:Int):Rat)=b4 (cs.map cm) bz:=by
 induction cs with
 |nil=>rfl
 |cons c l aw=>rw[ck,eY,b4,sZ,h c ha,aw λx O=>h x (hY _ O)]
theorem Fx {cs:List ar}{aO bz:ar->Int}(h:∀c∈cs,aO c=bz c):ck cs aO=ck cs bz:=by
 induction cs with
 |nil=>rfl
 |cons c l aw=>rw[ck,ck,h c ha,aw λx O=>h x (hY _ O)]
theorem Vl {cs:List ar}{aO:ar->Int}{B:Int}(fh:0<=B)(h:∀c∈cs,0<=aO c/\aO c<=B):0<=ck cs aO/\ck cs aO<=D cs*B:=by
 induction cs with
 |nil=>simp[ck]
 |cons c l aw =>
  have E:=h c ha;have H:=aw λx O=>h x (hY _ O);simp only[ck,kJ]
  have:((D l+1:Nat):Int)*B=D l*B+B:=by
   rw[Int.natCast_add,Int.add_mul];simp
  omega
theorem Cx (a b:List ar)(aO:ar->Int):ck (a++b) aO=ck a aO+ck b aO:=by
 induction a with
 |nil=>simp[ck]
 |cons c l aw=>simp only[lz,ck,aw];omega
theorem s0 {cash:List Int}{cs:List ar}(h:hI cash cs=true)(i r:Nat):((ca cs i r:Int):Rat)=(aB cash cs).U i r:=by
 refine NC cs _ (λc=>if c.ax=i/\c.rk<r then c.am else 0) λc G=>?_;have:=(g2.1 h).2.2.2 c G;show ((if c.1=(i:Int)/\c.2.2.1<(r:Int) then c.2.2.2 else 0:Int):Rat)=if c.1.toNat=i/\c.2.2.1.toNat<r then (c.2.2.2:Rat) else 0
 by_cases E:c.1=(i:Int)/\c.2.2.1<(r:Int)
 ·rw[Z E,Z (by omega)]
 ·rw[aa E,aa (by omega)];rfl
theorem ND {cash:List Int}{cs:List ar}(h:hI cash cs=true)(i r:Nat):((ca cs i (r+1:Nat)-ca cs i r:Int):Rat)=(aB cash cs).S i r:=by
 have E:=s0 h i r;have H:=s0 h i (r+1);rw[y4,E,H,Day.xr];grind
def kg (cash:List Int)(cs:List ar)(f:Nat->Nat)(i:Nat):Int:=cash.getD i 0+ck cs λc=>if c.2.1=(i:Int)/\c.2.2.1<(f c.1.toNat:Int) then c.2.2.2 else 0
def ext (N:Nat)(y:Nat->Rat)(z:Rat):Nat->Rat:=λk=>if k<N then y k else z
theorem JH (N:Nat)(a y:Nat->Rat)(z:Rat):lK N a (ext N y z)=bw N (λk=>a k*y k)+a N*z:=by
 unfold lK ext;rw[bw]
 congr 1
 ·exact jz λk J=>by rw[Z J]
 ·rw[aa (by omega)]
theorem Vm {N:Nat}{aF:ec}{dx:Nat->Nat}(h:pV N aF N N dx)(jj:∀j,j<N->dx j=j){i:Nat}(L:i<N)(y:Nat->Rat)(z:Rat):lK N (aF i) (ext N y z)=y i+aF i N*z:=by
 rw[JH]
 congr 1
 have:∀k,k<N->aF i k=if i=k then 1 else 0:=λk J=>by
  have:=h.unit k J i L;rwa [jj k J] at this
 rw[xp L λk J sb=>by rw[this k J,aa (Ne.symm sb),y2],this i L,Z rfl,NF]
theorem adx {N:Nat}{aF:ec}{dx:Nat->Nat}(h:pV N aF N N dx)(jj:∀j,j<N->dx j=j)(y:Nat->Rat):hx N aF (ext N y (-1))↔∀i,i<N->y i=aF i N:=by
 unfold hx
 constructor
 ·intro dh i L;have:=dh i L;rw[Vm h jj L] at this;grind
 ·intro dh i L;rw[Vm h jj L,dh i L];grind
theorem aqO {N:Nat}{aF:ec}{dx:Nat->Nat}(h:pV N aF N N dx)(jj:∀j,j<N->dx j=j)(y:Nat->Rat)(dh:hx N aF (ext N y 0)):∀i,i<N->y i=0:=by
 intro i L;have:=dh i L;rw[Vm h jj L] at this;grind
def rI (aF:ec)(c:Nat):Nat->Rat:=λk=>if k<c then 0-aF k c else if k=c then 1 else 0
theorem ady {N c:Nat}{aF:ec}{dx:Nat->Nat}(h:pV N aF c c dx)(jj:∀j,j<c->dx j=j)(G:c<N)(aR:∀i,c<=i->i<N->aF i c=0):hx N aF (ext N (rI aF c) 0):=by
 intro i L;rw[JH]
 have main:∀n,c<n->n<=N->bw n (λk=>aF i k*rI aF c k)=bw (c+1) (λk=>aF i k*rI aF c k):=by
  intro n
  induction n with
  |zero=>intro h;omega
  |succ n aw =>
   intro E H
   by_cases tx:c=n
   ·rw[tx]
   ·rw[bw,aw (by omega) (by omega)];unfold rI;rw[aa (show ¬ n<c by omega),aa (show ¬ n=c by omega)];grind
 rw[main N G (bM _),bw];have J:rI aF c c=1:=by unfold rI;rw[aa (by omega),Z rfl]
 rw[J]
 have hu:∀k,k<c->aF i k=if i=k then 1 else 0:=λk J=>by
  have:=h.unit k J i L;rwa [jj k J] at this
 rcases hK i c with ao|cf
 ·rw[xp ao λk J sb=>by rw[hu k J,aa (Ne.symm sb),y2],hu i ao,Z rfl]
  unfold rI;rw[Z ao];grind
 ·rw[rG λk J=>by rw[hu k J,aa (by omega),y2],aR i cf L]
  grind
abbrev fA:=Nat->Rat
def iF (n:Nat)(f:List fA->Rat):List fA->List fA->Rat
 |_,[]=>0
 |pre,c::cs=>c n*f (pre++cs)-iF n f (pre++[c]) cs
def gi:Nat->List fA->Rat
 |0,[]=>1
 |0,_::_=>0
 |n+1,cs=>iF n (gi n) [] cs
def AF (x y:fA)(a:Rat):fA:=λi=>x i+a*y i
def Vn (f:List fA->Rat):Prop:=∀A B x y a,f (A++AF x y a::B)=f (A++x::B)+a*f (A++y::B)
def Vo (f:List fA->Rat):Prop:=∀A B z,f (A++z::z::B)=0
theorem aqP {n:Nat}{f:List fA->Rat}(h:Vn f)(x y:fA)(a:Rat)(A:List fA):∀cs mL,iF n f (A++AF x y a::mL) cs=iF n f (A++x::mL) cs+a*iF n f (A++y::mL) cs:=by
 intro cs
 induction cs with
 |nil=>intro mL;simp only[iF];grind
 |cons c cs aw =>
  intro mL;have e:=aw (mL++[c]);simp only[iF,gK,lz] at e ⊢;rw[h A (mL++cs) x y a,e];grind
theorem aqQ {n:Nat}{f:List fA->Rat}(h:Vn f)(x y:fA)(a:Rat)(B:List fA):∀A pre,iF n f pre (A++AF x y a::B)=iF n f pre (A++x::B)+a*iF n f pre (A++y::B):=by
 intro A
 induction A with
 |nil =>
  intro pre;have e:=aqP (n:=n) h x y a pre B [];simp only[iJ,iF];rw[e];simp only[AF];grind
 |cons c A aw =>
  intro pre;have e:=aw (pre++[c]);have ay:=h (pre++A) B x y a;simp only[gK] at ay;simp only[lz,iF];rw[e,ay];grind
theorem Cy:∀n,Vn (gi n)
 |0=>by
  intro A B x y a
  cases A<;>simp only[iJ,lz,gi]<;>grind
 |n+1=>λA B x y a=>aqQ (Cy n) x y a B A []
theorem aqR {n:Nat}{f:List fA->Rat}(h:Vo f)(z:fA)(A:List fA):∀cs mL,iF n f (A++z::z::mL) cs=0:=by
 intro cs
 induction cs with
 |nil=>intro mL;rfl
 |cons c cs aw =>
  intro mL;have e:=aw (mL++[c]);have ay:=h A (mL++cs) z;simp only[iF,gK,lz] at e ay ⊢;rw[e,ay];grind
theorem aqS {n:Nat}{f:List fA->Rat}(h:Vo f)(z:fA)(B:List fA):∀A pre,iF n f pre (A++z::z::B)=0:=by
 intro A
 induction A with
 |nil =>
  intro pre;have e:=aqR (n:=n) h z pre B [];simp only[iJ,iF,gK,lz] at e ⊢;rw[e];grind
 |cons c A aw =>
  intro pre;have e:=aw (pre++[c]);have ay:=h (pre++A) B z;simp only[gK] at ay;simp only[lz,iF];rw[e,ay];grind
theorem JI:∀n,Vo (gi n)
 |0=>by
  intro A B z
  cases A<;>rfl
 |n+1=>λA B z=>aqS (JI n) z B A []
theorem aqT (n:Nat)(A B:List fA)(x y:fA):gi n (A++x::y::B) = -gi n (A++y::x::B):=by
 have ai:=JI n A B (AF x y 1);have E:=Cy n A (AF x y 1::B) x y 1;rw[ai] at E;have H:=Cy n (A++[x]) B x y 1;have ab:=Cy n (A++[y]) B x y 1;simp only[gK,lz,iJ] at H ab;rw[H,ab,JI n A B x,JI n A B y] at E;grind
theorem adz (n:Nat)(C:List fA)(z:fA):∀B A,gi n (A++z::(B++z::C))=0:=by
 intro B
 induction B with
 |nil=>intro A;exact JI n A C z
 |cons b B aw =>
  intro A;have:=aw (A++[b]);simp only[gK,lz,iJ] at this ⊢;rw[aqT,this];grind
theorem Vp {n:Nat}{A B:List fA}{z:fA}(h:z∈A++B):gi n (A++z::B)=0:=by
 rcases iw.1 h with h|h
 ·obtain⟨aqU,NG,rfl⟩:=adA h;have:=adz n B z NG aqU
  simpa only [gK,lz] using this
 ·obtain⟨A6,A7,rfl⟩:=adA h;exact adz n A7 z A6 A
theorem aqV {n:Nat}{f:List fA->Rat}{z:fA}(aR:z n=0)(h:∀A B,f (A++z::B)=0):(∀cs A mL,iF n f (A++z::mL) cs=0)/\∀A B pre,iF n f pre (A++z::B)=0:=by
 have E:∀cs A mL,iF n f (A++z::mL) cs=0:=by
  intro cs
  induction cs with
  |nil=>intro A mL;rfl
  |cons c cs aw =>
   intro A mL;have e:=aw A (mL++[c]);have ay:=h A (mL++cs);simp only[iF,gK,lz] at e ay ⊢;rw[e,ay];grind
 refine⟨E,λA=>?_⟩
 induction A with
 |nil =>
  intro B pre;have e:=E B pre [];simp only[iJ,iF];rw[e,aR];grind
 |cons c A aw =>
  intro B pre;have e:=aw B (pre++[c]);have ay:=h (pre++A) B;simp only[gK] at ay;simp only[lz,iF];rw[e,ay];grind
theorem Vq:∀n (z:fA),(∀i,i<n->z i=0)->∀A B,gi n (A++z::B)=0
 |0,z,_=>λA B=>by cases A<;>rfl
 |n+1,z,h=>λA B=>(aqV (h n (by omega)) (Vq n z λi L=>h i (by omega))).2 A B []
theorem adB {n:Nat}{e:fA}(h:∀i,i<n->e i=0)(cs:List fA):gi (n+1) (e::cs)=e n*gi n cs:=by
 show e n*gi n ([]++cs)-iF n (gi n) ([]++[e]) cs=_
 have:∀cs pre,iF n (gi n) (e::pre) cs=0:=by
  intro cs
  induction cs with
  |nil=>intro pre;rfl
  |cons c cs aw =>
   intro pre;have aA:=aw (pre++[c]);have ay:=Vq n e h [] (pre++cs);simp only[iF,lz,iJ] at aA ay ⊢;rw[aA,ay];grind
 simp only[iJ];rw[this cs []];grind
theorem aqW {n:Nat}{f:List fA->Rat}{T:fA->fA}(cz:∀c,T c n=c n)(h:∀l,f (l.map T)=f l):∀cs pre,iF n f (pre.map T) (cs.map T)=iF n f pre cs:=by
 intro cs
 induction cs with
 |nil=>intro pre;rfl
 |cons c cs aw =>
  intro pre;have e:=aw (pre++[c]);have ay:=h (pre++cs);simp only[k0,eY,cg] at e ay;simp only[eY,iF];rw[e,ay,cz]
theorem Vr:∀n (T:fA->fA),(∀c i,i<n->T c i=c i)->∀l,gi n (l.map T)=gi n l
 |0,T,_=>λl=>by cases l<;>rfl
 |n+1,T,h=>λl=>aqW (λc=>h c n (by omega)) (Vr n T λc i L=>h c i (by omega)) l []
theorem adC {n:Nat}{α:Type}(l:List α)(f g:α->fA)(h:∀a∈l,∀i,i<n->f a i=g a i):gi n (l.map f)=gi n (l.map g):=by
 rw[<-Vr n (λc i=>if i<n then c i else 0) (λc i L=>Z L),<-Vr n (λc i=>if i<n then c i else 0) (λc i L=>Z L) (l.map g)];rw[oN,oN]
 congr 1
 apply m5;intro a aZ
 funext i
 simp only[Function.comp]
 split
 ·exact h a aZ i (by assumption)
 ·rfl
theorem JJ (n:Nat)(A B:List fA)(x:Nat->Rat)(C:Nat->fA):∀m,gi n (A++(λi=>bw m λl=>x l*C l i)::B)=bw m λl=>x l*gi n (A++C l::B)
 |0=>Vq n _ (λi _=>rfl) A B
 |m+1=>by
  have e:=Cy n A B (λi=>bw m λl=>x l*C l i) (C m) (x m);rw[JJ n A B x C m] at e;exact e
def eg (B:Nat)(x:Rat):Prop:=∃z:Int,x=(z:Rat)/\z.natAbs<=B
theorem eg.mono {A B:Nat}{x:Rat}(h:eg A x)(aq:A<=B):eg B x:=by obtain⟨z,E,H⟩:=h;exact⟨z,E,by omega⟩
theorem eg.mul {A B:Nat}{x y:Rat}(O:eg A x)(ak:eg B y):eg (A*B) (x*y):=by
 obtain⟨z,rfl,H⟩:=O;obtain⟨w,rfl,cO⟩:=ak;exact⟨z*w,by rw[pZ],by rw[qy];exact pb H cO⟩
theorem eg.sub {A B:Nat}{x y:Rat}(O:eg A x)(ak:eg B y):eg (A+B) (x-y):=by
 obtain⟨z,rfl,H⟩:=O;obtain⟨w,rfl,cO⟩:=ak;exact⟨z-w,by rw[y4],by omega⟩
theorem eg.add {A B:Nat}{x y:Rat}(O:eg A x)(ak:eg B y):eg (A+B) (x+y):=by
 obtain⟨z,rfl,H⟩:=O;obtain⟨w,rfl,cO⟩:=ak;exact⟨z+w,by rw[sZ],by omega⟩
theorem eg.zero {B:Nat}:eg B 0:=⟨0,by rfl,by simp⟩
theorem eg.int (z:Int):eg z.natAbs (z:Rat):=⟨z,rfl,bM _⟩
theorem eg.sum {B:Nat}{f:Nat->Rat}:∀n,(∀k,k<n->eg B (f k))->eg (n*B) (bw n f)
 |0,_=>eg.zero
 |n+1,h=>by
  have:=(eg.sum n λk J=>h k (by omega)).add (h n (by omega));exact this.mono (by rw[r1];exact bM _)
theorem eg.of {z:Int}{B:Nat}(h:z.natAbs<=B):eg B (z:Rat):=⟨z,rfl,h⟩
theorem eg.nat {z:Nat}{B:Nat}(h:z<=B):eg B (z:Rat):=⟨z,(nm _).symm,by omega⟩
def fY:Nat->(Nat->Nat)->Nat
 |0,_=>0
 |n+1,a=>fY n a+a n
theorem Vs {n:Nat}{a b:Nat->Nat}(h:∀i,i<n->a i=b i):fY n a=fY n b:=by
 induction n with
 |zero=>rfl
 |succ n aw=>rw[fY,fY,aw λi L=>h i (by omega),h n (by omega)]
theorem aqX {N t:Nat}(b:Nat->Nat)(bI:t<N):fY N b=fY N (λi=>if i=t then 0 else b i)+b t:=by
 induction N with
 |zero=>omega
 |succ N aw =>
  by_cases h:t=N
  ·subst h;rw[fY,fY,Z rfl];have:fY t b=fY t λi=>if i=t then 0 else b i:=Vs λi L=>by rw[aa (by omega)]
   omega
  ·have:=aw (by omega);rw[fY,fY,aa (by omega)];omega
theorem Vt {N:Nat}{τ:Nat->Nat}:∀{n:Nat} (b:Nat->Nat),(∀i,i<n->τ i<N)->(∀i j,i<n->j<n->τ i=τ j->i=j)->fY n (λi=>b (τ i))<=fY N b
 |0,_,_,_=>fr _
 |n+1,b,E,H=>by
  have aw:=Vt (n:=n) (λi=>if i=τ n then 0 else b i) (λi L=>E i (by omega)) λi j L ag=>H i j (by omega) (by omega);rw[aqX b (E n (by omega)),fY]
  have:fY n (λi=>b (τ i))=fY n λi=>if τ i=τ n then 0 else b (τ i):=Vs λi L=>by
   rw[aa λh=>by have:=H i n (by omega) (by omega) h;omega]
  omega
def h9:Nat->(Nat->Nat)->Nat
 |0,_=>1
 |n+1,bR=>h9 n bR*bR n
theorem adD {n:Nat}{bR:Nat->Nat}(h:∀k,k<n->0<bR k):0<h9 n bR:=by
 induction n with
 |zero=>exact Vu
 |succ n aw=>exact Vv (aw λk J=>h k (by omega)) (h n (by omega))
theorem Vw {n b:Nat}{bR:Nat->Nat}(h:∀k,k<n->bR k<=2^b):h9 n bR<=2^(n*b):=by
 induction n with
 |zero=>simp[h9]
 |succ n aw =>
  rw[r1,xu];exact pb (aw λk J=>h k (by omega)) (h n (by omega))
theorem adE {n:Nat}{bR:Nat->Nat}{k:Nat}(J:k<n):∃m,h9 n bR=bR k*m:=by
 induction n with
 |zero=>omega
 |succ n aw =>
  by_cases Fp:k=n
  ·subst Fp;exact⟨h9 k bR,si _ _⟩
  ·obtain⟨m,hm⟩:=aw (by omega);exact⟨m*bR n,by rw[h9,hm,Cz]⟩
theorem adF {p:Nat}{bR:Nat->Nat}(jM:∀k,0<bR k):∀{N:Nat},p<=N->∃bZ,0<bZ/\h9 N bR=h9 p bR*bZ/\∀k,p<=k->k<N->∃m,bZ=bR k*m
 |0,h=>⟨1,Vu,by rw[show p=0 by omega];rfl,λk _ h=>by omega⟩
 |N+1,h=>by
  by_cases aC:p=N+1
  ·exact⟨1,Vu,by rw[aC,cI],λk E H=>by omega⟩
  ·obtain⟨bZ,ai,E,H⟩:=adF (p:=p) jM (N:=N) (by omega);refine⟨bZ*bR N,Vv ai (jM N),by rw[h9,E,Cz],λk cF dk=>?_⟩
   by_cases J:k=N
   ·exact⟨bZ,by rw[J,si]⟩
   ·obtain⟨m,hm⟩:=H k cF (by omega);exact⟨m*bR N,by rw[hm,Cz]⟩
abbrev Fy:=fA×(Nat->Nat)
def ma (n:Nat):List Fy->Nat
 | []=>1
 |p::l=>fY n p.2*ma n l
theorem aqY (n:Nat)(a b:List Fy):ma n (a++b)=ma n a*ma n b:=by
 induction a with
 |nil=>simp[ma]
 |cons p l aw=>simp only[lz,ma,aw,Cz]
theorem adG (n:Nat):∀l:List Fy,ma n l<=ma (n+1) l
 | []=>bM _
 |p::l=>pb (Nat.le_add_right _ _) (adG n l)
theorem adH {n:Nat}{f:List fA->Rat}(h:∀l:List Fy,(∀p∈l,∀i,i<n->eg (p.2 i) (p.1 i))->eg (ma n l) (f (l.map (·.1)))):
  ∀cs pre:List Fy,(∀p∈pre++cs,∀i,i<n+1->eg (p.2 i) (p.1 i))->∃z:Int,iF n f (pre.map (·.1)) (cs.map (·.1))=(z:Rat)/\z.natAbs+ma n pre*ma n cs<=ma n pre*ma (n+1) cs
 | [],pre,_=>⟨0,rfl,by simp[ma]⟩
 |c::cs,pre,aC=>by
  obtain⟨z,E,H⟩:=adH h cs (pre++[c]) (by simpa using aC);obtain⟨y,cG,cO⟩:=h (pre++cs) λp hm i L=>aC p (by simp only[iw,nM] at hm ⊢;rcases hm with hm|hm<;>simp[hm]) i (by omega)
  obtain⟨x,cF,dk⟩:=aC c (by simp) n (by omega);simp only[k0,eY,cg] at E cG;refine⟨x*y-z,?_,?_⟩
  ·simp only[eY,iF];rw[cF,cG,E,y4,pZ]
  ·rw[aqY] at H cO;simp only[ma,fY,cI] at H ⊢;have c5:(x*y-z).natAbs<=x.natAbs*y.natAbs+z.natAbs:=by rw[<-qy];omega
   have dK:=pb dk (ey cO (pb (bM _) (adG n cs)));generalize ma n pre=P at *;generalize ma n cs=s at *;generalize ma (n+1) cs=S at *;generalize fY n c.2=cr at *;generalize c.2 n=a at *;have aA:P*((cr+a)*S)=P*cr*S+a*(P*S):=by rw[Nat.add_mul,Nat.mul_add,Cz,adI a]
   have ay:P*(cr*s)=P*cr*s:=(Cz _ _ _).symm;rw[aA,ay];omega
theorem adJ:∀n (l:List Fy),(∀p∈l,∀i,i<n->eg (p.2 i) (p.1 i))->eg (ma n l) (gi n (l.map (·.1)))
 |0,[],_=>⟨1,by rfl,by simp[ma]⟩
 |0,p::l,_=>eg.zero
 |n+1,l,h=>by
  obtain⟨z,E,H⟩:=adH (f:=gi n) (adJ n) l [] (by simpa using h);refine⟨z,E,?_⟩;simp only[ma,Nat.one_mul] at H;omega
open Go
def kh (N:Nat)(l:List bS)(q:Nat->Rat):Prop:=l=((dQ (N+1)).map q).map aE/\∀k,k<=N->dI (q k)
def vz (N:Nat)(rows:List cX)(aF:ec):Prop:=D rows=N/\∀(i:Nat) x,rows[i]?=some x->kh N x.2.2 (aF i)
theorem kh.get {N:Nat}{l:List bS}{q:Nat->Rat}(h:kh N l q){k:Nat}(J:k<=N):l[k]?=some (aE (q k)):=by
 rw[h.1,bd,bd,r0 (by omega)]
 rfl
theorem kh.len {N:Nat}{l:List bS}{q:Nat->Rat}(h:kh N l q):(D l)=N+1:=by rw[h.1];simp
theorem kh.Vx {N:Nat}{l:List bS}{q:Nat->Rat}(aq:(D l)=N+1)(h:∀k,k<=N->l[k]?=some (aE (q k))/\dI (q k)):kh N l q:=by
 refine⟨?_,λk J=>(h k J).2⟩;apply q6;intro k;rcases hK k (N+1) with J|J
 ·rw[(h k (by omega)).1,bd,bd,r0 J];rfl
 ·rw[lr (by omega),lr (by simp;omega)]
theorem kh.congr {N:Nat}{l:List bS}{q sy:Nat->Rat}(h:kh N l q)(a9:∀k,k<=N->q k=sy k):kh N l sy :=
 kh.Vx h.len λk J=>by rw[<-a9 k J];exact⟨h.get J,h.2 k J⟩
theorem kh.cell {N:Nat}{x:cX}{q:Nat->Rat}(h:kh N x.2.2 q){k:Nat}(J:k<=N):cellOf x k=aE (q k):=Uf (h.get J)
theorem NH (q:Rat):mI (aE q)=decide (q=0):=by
 unfold mI aE bD;rw[Bool.eq_iff_iff,beq_iff_eq,decide_eq_true_eq,Int.sign_eq_zero_iff_zero,Rat.num_eq_zero]
def qJ (fe a b:Rat):Bool:=yJ fe b&&oZ a (-(fe*b))
theorem adK {fe a b:Rat}(aJ:dI fe)(aZ:dI a)(ad:dI b)(h:qJ fe a b=true):
  nh (aE fe) (aE b)=(aE (fe*b),0)/\oo (aE a) (aE (fe*b))=(aE (a-fe*b),0)/\dI (a-fe*b):=by
 unfold qJ at h;rw[e3] at h;refine⟨?_,?_,abF h.2⟩
 ·rw[Tb aJ ad,h.1];rfl
 ·rw[MH aZ (abG h.1),h.2];rfl
theorem aqZ {fe a b:Rat}(aJ:dI fe)(aZ:dI a)(ad:dI b)(h:qJ fe a b=false):
  ((nh (aE fe) (aE b)).2 != 0||(oo (aE a) (nh (aE fe) (aE b)).1).2 != 0)=true:=by
 unfold qJ at h;rw[Tb aJ ad];rcases E:yJ fe b
 ·rfl
 ·rw[E,iy] at h;show ((oo (aE a) (aE (fe*b))).2 != 0)=true;rw[MH aZ (abG E),h]
  rfl
theorem aq0 {fe:Rat}(aJ:dI fe):∀(vA pl:List Rat),D vA=(D pl)->(∀x∈vA,dI x)->(∀x∈pl,dI x) ->
  ((∀q∈vA.zip pl,qJ fe q.1 q.2=true)->iD (aE fe) (vA.map aE) (pl.map aE) false=((Vy (λa b=>a-fe*b) vA pl).map aE,false)/\∀x∈Vy (λa b=>a-fe*b) vA pl,dI x) /\
  ((iD (aE fe) (vA.map aE) (pl.map aE) false).2=false->∀q∈vA.zip pl,qJ fe q.1 q.2=true):=by
 intro vA
 induction vA with
 |nil=>intro pl aq _ _;cases pl with
  |nil=>exact⟨λ_=>⟨rfl,by simp⟩,λ_=>by simp⟩
  |cons=>cases aq
 |cons a vA aw =>
  intro pl aq E H
  cases pl with
  |nil=>cases aq
  |cons b pl =>
   have aZ:=E a ha;have ad:=H b ha;obtain⟨i1,i2⟩:=aw pl (by simpa using aq) (λx O=>E x (hY _ O)) (λx O=>H x (hY _ O))
   constructor
   ·intro e1;obtain⟨aA,ay,cV⟩:=adK aJ aZ ad (e1 (a,b) (by simp));obtain⟨i3,i4⟩:=i1 λq a9=>e1 q (by simp only[adL,nM];exact .inr a9);refine⟨?_,λx O=>?_⟩
    ·simp only[eY,iD,aA,ay,adM,bne_self_eq_false,nL,i3]
    ·rw[adM,nM] at O;rcases O with rfl|O
     ·exact cV
     ·exact i4 x O
   ·intro eh;simp only[eY,iD] at eh;rcases Q:qJ fe a b
    ·rw[aqZ aJ aZ ad Q,Uh] at eh
     cases eh
    ·obtain⟨aA,ay,cV⟩:=adK aJ aZ ad Q;simp only[aA,ay,bne_self_eq_false,nL] at eh;intro q a9;rw[adL,nM] at a9;rcases a9 with rfl|a9
     ·exact Q
     ·exact i2 eh q a9
theorem aq1 (n:Nat)(q p:Nat->Rat):((dQ n).map q).zip ((dQ n).map p)=(dQ n).map λk=>(q k,p k):=by
 rw[List.zip_map',]
theorem aq2 (n:Nat)(f:Rat->Rat->Rat)(q p:Nat->Rat):Vy f ((dQ n).map q) ((dQ n).map p)=(dQ n).map λk=>f (q k) (p k):=by
 rw[List.zipWith_map,List.zipWith_self]
theorem aq3 {N:Nat}{fe:Rat}{l aj:List bS}{q p:Nat->Rat}(aJ:dI fe)(E:kh N l q)(H:kh N aj p):
  ((∀k,k<=N->qJ fe (q k) (p k)=true)->(iD (aE fe) l aj false).2=false)/\((iD (aE fe) l aj false).2=false->kh N (iD (aE fe) l aj false).1 (λk=>q k-fe*p k)):=by
 obtain⟨aA,ay⟩:=aq0 aJ ((dQ (N+1)).map q) ((dQ (N+1)).map p) (by simp) (by
  intro x O;obtain⟨k,J,rfl⟩:=fI.1 O;exact E.2 k (by have:=hn.1 J;omega)) (by
  intro x O;obtain⟨k,J,rfl⟩:=fI.1 O;exact H.2 k (by have:=hn.1 J;omega))
 rw[<-E.1,<-H.1] at aA ay
 have aR:(∀k,k<=N->qJ fe (q k) (p k)=true)↔∀x∈((dQ (N+1)).map q).zip ((dQ (N+1)).map p),qJ fe x.1 x.2=true:=by
  rw[aq1];simp only[fI,hn]
  constructor
  ·rintro h x ⟨k,J,rfl⟩;exact h k (by omega)
  ·intro h k J;exact h (q k,p k) ⟨k,by omega,rfl⟩
 refine⟨λh=>by rw[(aA (aR.1 h)).1],λh=>?_⟩
 obtain⟨cV,da⟩:=aA (ay h);rw[cV,aq2] at *;exact⟨rfl,λk J=>da _ (fI.2 ⟨k,hn.2 (by omega),rfl⟩)⟩
theorem NI (fz:List bS)(r c:Nat):∀(i:Nat) (l:List cX),(ji fz r c i l true).2=true
 |_,[]=>rfl
 |i,x::xs=>by
  unfold ji
  split
  ·exact NI fz r c (i+1) xs
  ·rw[Uh];exact NI fz r c (i+1) xs
theorem adN {N r c:Nat}{fz:List bS}{p:Nat->Rat}(aC:kh N fz p)(G:c<=N):∀(i:Nat) (l:List cX) (bR:ec),(∀(j:Nat) x,l[j]?=some x->kh N x.2.2 (bR (i+j))) ->
  ((∀j,j<(D l)->i+j≠r->bR (i+j) c≠0->∀k,k<=N->qJ (bR (i+j) c) (bR (i+j) k) (p k)=true)->(ji fz r c i l false).2=false) /\
  ((ji fz r c i l false).2=false->∀(j:Nat) x,(ji fz r c i l false).1[j]?=some x->kh N x.2.2 (λk=>if i+j=r then bR (i+j) k else bR (i+j) k-bR (i+j) c*p k))
 |i,[],bR,h=>⟨λ_=>rfl,λ_ j x O=>by simp[ji] at O⟩
 |i,x::xs,bR,h=>by
  have ai:=h 0 x rfl;rw[n8] at ai
  obtain⟨adO,NJ⟩:=adN aC G (i+1) xs bR λj y ak=>by
   have:=h (j+1) y ak;rwa [show i+(j+1)=i+1+j by omega] at this
  have tv:=ai.cell G
  have adP:(∀j,j<(x::xs).length->i+j≠r->bR (i+j) c≠0->∀k,k<=N->qJ (bR (i+j) c) (bR (i+j) k) (p k)=true)->∀j,j<(D xs)->i+1+j≠r->bR (i+1+j) c≠0->∀k,k<=N->qJ (bR (i+1+j) c) (bR (i+1+j) k) (p k)=true:=by
   intro aQ j ag;have:=aQ (j+1) (by simpa using ag);rwa [show i+(j+1)=i+1+j by omega] at this
  unfold ji;rw[tv,NH]
  by_cases aR:(i==r||decide (bR i c=0))=true
  ·rw[Z aR];refine⟨λaQ=>adO (adP aQ),λad j y ak=>?_⟩
   cases j with
   |zero =>
    simp only[HB,b8] at ak;subst ak;rw[n8];refine ai.congr λk J=>?_;simp only[qn,beq_iff_eq,decide_eq_true_eq] at aR
    split
    ·rfl
    ·rcases aR with aR|aR
     ·contradiction
     ·rw[aR];grind
   |succ j =>
    have:=NJ ad j y (by simpa using ak);rwa [show i+(j+1)=i+1+j by omega]
  ·rw[aa aR];simp only[qn,beq_iff_eq,decide_eq_true_eq,not_or] at aR;obtain⟨cG,cO⟩:=aq3 (ai.2 c G) ai aC
   constructor
   ·intro aQ;have ab:=cG (aQ 0 (by simp) (by simpa using aR.1) (by simpa using aR.2));dsimp only;rw[ab];exact adO (adP aQ)
   ·intro ad j y ak;dsimp only at ad ak;rcases mC:(iD (aE (bR i c)) x.2.2 fz false).2
    ·rw[mC] at ad ak
     cases j with
     |zero =>
      simp only[HB,b8] at ak;subst ak;rw[n8];exact (cO mC).congr λk J=>by rw[aa aR.1]
     |succ j =>
      have:=NJ ad j y (by simpa using ak);rwa [show i+(j+1)=i+1+j by omega]
    ·rw[mC,NI] at ad
     cases ad
theorem aq4 {N:Nat}{l:List bS}{q:Nat->Rat}{b:Rat}(h:kh N l q)(ad:dI b)(ai:b≠0):
  ((hv (aE b) l).2=false↔∀k,k<=N->vi (q k) b=true)/\((hv (aE b) l).2=false->kh N (hv (aE b) l).1 (λk=>q k/b)):=by
 have aA:(hv (aE b) l).2=false↔∀k,k<=N->vi (q k) b=true:=by
  unfold hv;rw[h.1];simp only[Fg,fI,hn]
  constructor
  ·intro aQ k J;have:=aQ (aE (q k)) ⟨q k,⟨k,by omega,rfl⟩,rfl⟩
   rw[MI (h.2 k J) ad ai] at this;rcases X:vi (q k) b
   ·rw[X] at this;exact absurd rfl this
   ·rfl
  ·rintro aQ _ ⟨_,⟨k,J,rfl⟩,rfl⟩;rw[MI (h.2 k (by omega)) ad ai,aQ k (by omega)];simp[IZ]
 refine⟨aA,λaQ=>?_⟩;have cU:=aA.1 aQ;refine kh.Vx (by unfold hv;rw[al,h.len]) λk J=>⟨?_,an8 (cU k J)⟩;unfold hv;rw[bd,h.get J,iW,MI (h.2 k J) ad ai,cU k J]
 rfl
theorem vz.row {N:Nat}{rows:List cX}{aF:ec}(h:vz N rows aF){i:Nat}(L:i<N):∃x,rows[i]?=some x/\rowAt rows i=x/\kh N x.2.2 (aF i):=by
 obtain⟨x,O⟩:∃x,rows[i]?=some x:=⟨_,bx (by have:=h.1;omega)⟩;exact⟨x,O,vt O,h.2 i x O⟩
theorem vz.swap {N:Nat}{rows:List cX}{aF:ec}(h:vz N rows aF){r s:Nat}(Y:r<N)(Q:s<N):vz N (pR rows r s) (gV aF r s):=by
 obtain⟨x,O,ex,nn⟩:=h.row Y;obtain⟨y,ak,PI,aq5⟩:=h.row Q;unfold pR;rw[ex,PI];refine⟨by rw[iM,iM];exact h.1,λi z aR=>?_⟩
 rw[kz,kz,iM] at aR;unfold gV
 by_cases E:s=i
 ·rw[Z E,Z (by have:=h.1;omega)] at aR
  cases aR;rw[Z E.symm];exact nn
 ·rw[aa E] at aR;rw[aa (Ne.symm E)]
  by_cases H:r=i
  ·rw[Z H,Z (by have:=h.1;omega)] at aR
   cases aR;rw[Z H.symm];exact aq5
  ·rw[aa H] at aR;rw[aa (Ne.symm H)];exact h.2 i z aR
def adQ (N:Nat)(S:ec)(r c:Nat):Prop:=(∀k,k<=N->vi (S r k) (S r c)=true)/\∀i,i<N->i≠r->S i c≠0->∀k,k<=N->qJ (S i c) (S i k) (S r k/S r c)=true
theorem adR {N:Nat}{rows:List cX}{aF:ec}(h:vz N rows aF){r c:Nat}(Y:r<N)(G:c<N):
  ((h7 rows r c).1=true/\(h7 rows r c).2.1=rows/\(h7 rows r c).2.2=false/\∀i,r<=i->i<N->aF i c=0) \/
  ((h7 rows r c).1=false/\∃s,r<=s/\s<N/\aF s c≠0/\((h7 rows r c).2.2=false->vz N (h7 rows r c).2.1 (nW aF r c s))/\(adQ N (gV aF r s) r c->(h7 rows r c).2.2=false)):=by
 have aq:=h.1;have ir:=acX rows r c (by omega)
 have lM:∀i x,r<=i->i<findAt rows r c->rows[i]?=some x->mI (cellOf x c)=true:=by
  intro i x qi m2 O;unfold findAt at m2;have ao:i-r<(rows.drop r).findIdx λx => !mI (cellOf x c):=by omega
  have:=List.not_of_lt_findIdx ao
  have aU:(rows.drop r)[i-r]'(Nat.lt_of_lt_of_le ao acY)=x:=by
   rw[EY];have:=(dM.1 O)
   obtain⟨E,H⟩:=this;simp only[show r+(i-r)=i by omega]
   exact H
  rw[aU] at this
  simpa using this
 unfold h7
 by_cases aJ:findAt rows r c=D rows
 ·left
  rw[Z aJ];refine⟨rfl,rfl,rfl,λi qi m2=>?_⟩;obtain⟨x,O,-,nn⟩:=h.row m2;have:=lM i x qi (by omega) O;rw[nn.cell (by omega),NH] at this
  simpa using this
 ·right
  rw[aa aJ];refine⟨rfl,findAt rows r c,ir.1,by omega,?_,?_⟩
  ·obtain⟨x,O,-,nn⟩:=h.row (i:=findAt rows r c) (by omega);have ao:findAt rows r c-r<(rows.drop r).length:=by rw[pA];omega
   have H:(rows.drop r).findIdx (λx => !mI (cellOf x c))<(rows.drop r).length:=by
    unfold findAt at ao;omega
   have ab:=adS (w:=H)
   have aU:(rows.drop r)[(rows.drop r).findIdx λx => !mI (cellOf x c)]=x:=by
    rw[EY];exact (dM.1 O).2
   rw[aU,nn.cell (by omega),NH] at ab
   simpa using ab
  ·have Q:findAt rows r c<N:=by omega
   have yV:=h.swap Y Q
   have bP:gV aF r (findAt rows r c) r c≠0:=by
    rw[Nt];obtain⟨x,O,-,nn⟩:=h.row Q
    have H:(rows.drop r).findIdx (λx => !mI (cellOf x c))<(rows.drop r).length:=by
     rw[pA];unfold findAt at Q;omega
    have ab:=adS (w:=H)
    have aU:(rows.drop r)[(rows.drop r).findIdx λx => !mI (cellOf x c)]=x:=by
     rw[EY];exact (dM.1 O).2
    rw[aU,nn.cell (by omega),NH] at ab
    simpa using ab
   have Ng:nW aF r c (findAt rows r c)=λi k=>if i=r then gV aF r (findAt rows r c) r k/gV aF r (findAt rows r c) r c else gV aF r (findAt rows r c) i k-gV aF r (findAt rows r c) i c*(gV aF r (findAt rows r c) r k/gV aF r (findAt rows r c) r c):=rfl;rw[Ng];generalize pR rows r (findAt rows r c)=hG at *;generalize gV aF r (findAt rows r c)=S at *;obtain⟨x,O,ex,nn⟩:=yV.row Y;rw[ex,nn.cell (by omega)];obtain⟨d1,d2⟩:=aq4 nn (nn.2 c (by omega)) bP
   have yx:Cl hG r c=hG.set r (x.1,x.2.1,(hv (aE (S r c)) x.2.2).1):=by
    unfold Cl;rw[ex,nn.cell (by omega)]
   rw[yx]
   have Vz:kh N (hv (aE (S r c)) x.2.2).1 (λk=>S r k/S r c)->∀(j:Nat) y,(hG.set r (x.1,x.2.1,(hv (aE (S r c)) x.2.2).1))[j]?=some y->kh N y.2.2 ((λi=>if i=r then λk=>S r k/S r c else S i) (0+j)):=by
    intro X j y ak;rw[oH];rw[kz] at ak
    by_cases ag:r=j
    ·rw[Z ag,Z (by have:=yV.1;omega)] at ak
     cases ak;dsimp only;rw[Z ag.symm];exact X
    ·rw[aa ag] at ak;dsimp only;rw[aa (Ne.symm ag)];exact yV.2 j y ak
   dsimp only;rcases u5:(hv (aE (S r c)) x.2.2).2
   ·have X:=d2 u5;obtain⟨eT,ei⟩:=adN (r:=r) (c:=c) X (by omega) 0 (hG.set r (x.1,x.2.1,(hv (aE (S r c)) x.2.2).1)) (λi=>if i=r then λk=>S r k/S r c else S i) (Vz X)
    constructor
    ·intro ad;refine⟨?_,λi z aR=>?_⟩
     ·have:=congrArg D (Nn (hv (aE (S r c)) x.2.2).1 r c 0 (hG.set r (x.1,x.2.1,(hv (aE (S r c)) x.2.2).1)) false);rw[al,al,iM] at this;rw[this];exact yV.1
     ·have:=ei ad i z aR;rw[oH] at this;refine this.congr λk J=>?_
      by_cases o7:i=r
      ·simp only[Z o7]
      ·simp only[aa o7]
    ·intro cU;refine eT λj ag JK bP k J=>?_;rw[oH] at *;simp only[aa JK] at bP ⊢;rw[iM,yV.1] at ag;exact cU.2 j ag JK bP k J
   ·constructor
    ·intro ad;rw[NI] at ad
     cases ad
    ·intro cU;rw[d1.2 cU.1] at u5
     cases u5
structure Fz (N:Nat) (aF uk:ec) (rows:List cX) (p c:Nat) (dx:Nat->Nat):Prop where
 enc:vz N rows uk
 red:pV N uk p c dx
 FA:∀y,hx N uk y↔hx N aF y
theorem aq6 (stop:Bool)(N:Nat)(adT:ec):∀k c rows free aF p dx,c+k=N->Fz N adT aF rows p c dx->p+D free=c->(stop=true->free=[]/\∀j,j<p->dx j=j) ->
  ∀vB qK,k4 stop k c rows free false=(vB,qK,false) ->
  ∃uk oM c' CA,Fz N adT uk vB oM c' CA/\(stop=false->c'=N/\oM+D qK=N) /\
   (stop=true->(qK=[]/\c'=N/\oM=N/\∀j,j<N->CA j=j)\/(∃f,qK=[f]/\f<N/\oM=f/\c'=f/\(∀j,j<f->CA j=j)/\∀i,f<=i->i<N->uk i f=0)):=by
 intro k
 induction k with
 |zero =>
  intro c rows free aF p dx G he aC Q vB qK O;simp only[k4,fv,and_true] at O;obtain⟨rfl,rfl⟩:=O;refine⟨aF,p,c,dx,he,λ_=>⟨by omega,by omega⟩,λh=>?_⟩
  obtain⟨E,H⟩:=Q h;subst E;simp only[mu,n8] at aC;exact .inl ⟨rfl,by omega,by omega,λj ag=>H j (by omega)⟩
 |succ k aw =>
  intro c rows free aF p dx G he aC Q vB qK O;have kT:c-D free=p:=by omega
  unfold k4 at O;rw[kT] at O;rcases adR he.enc (r:=p) (c:=c) (by omega) (by omega) with ⟨E,H,ab,aM⟩|⟨E,s,hs,h5,vC,aM,bj⟩
  ·rw[E,H,ab,Z rfl] at O
   cases stop with
   |true =>
    rw[Z rfl] at O;simp only[fv,and_true] at O;obtain⟨rfl,rfl⟩:=O;obtain⟨cG,cO⟩:=Q rfl;subst cG;simp only[mu,n8] at aC;subst aC;exact⟨aF,p,p,dx,he,by simp,λ_ => .inr ⟨p,rfl,by omega,rfl,rfl,cO,aM⟩⟩
   |false =>
    rw[aa (by simp)] at O;exact aw (c+1) rows (free++[c]) aF p dx (by omega) ⟨he.enc,he.red.free aM,he.FA⟩ (by simp;omega) (by simp) vB qK O
  ·rw[E,aa (by simp)] at O;rcases ad:(h7 rows p c).2.2
   ·rw[ad] at O;have VA:=aM ad;refine aw (c+1) _ free (nW aF p c s) (p+1) (λj=>if j=p then c else dx j) (by omega) ⟨VA,he.red.Cr (by omega) hs h5 vC,λy=>(UX (by omega) h5 vC).trans (he.FA y)⟩ (by omega) (λh=>?_) vB qK O;obtain⟨cG,cO⟩:=Q h;refine⟨cG,λj ag=>?_⟩;subst cG;simp only[mu,n8] at aC;show (if j=p then c else dx j)=j
    split
    ·omega
    ·exact cO j (by omega)
   ·rw[ad,acU] at O
    cases O
def p0 (rs:List eu):ec:=λi k=>if k<(D rs) then Ae ((rs.getD i ([],dT)).1.getD k dT) else Ae (rs.getD i ([],dT)).2
theorem adU {f:bS}(h:eV f=true):f=aE (Ae f)/\dI (Ae f):=by
 obtain⟨x,O,rfl⟩:=(IU _).1 h;rw[B7];exact⟨rfl,O⟩
theorem aq7 {rs:List eu}{n:Int}(h:nj rs n=true):(D rs:Int)=n/\D rs<=40/\∀r∈rs,r.1.length=D rs/\eV r.2=true/\∀f∈r.1,eV f=true:=by
 unfold nj at h;simp only[e3,Ck,decide_eq_false_iff_not,beq_iff_eq] at h;obtain⟨E,H,ab,aM⟩:=h;refine⟨ab,by omega,λr Y=>?_⟩
 rw[Fg] at aM;have:=aM r Y;unfold nU Ch at this;simp only[Ck,Bool.not_eq_true,Bool.not_eq_false',e3,beq_iff_eq,Fg,Bool.not_eq_false] at this;obtain⟨fE,gF,p1⟩:=this;exact⟨by omega,gF,λf aJ=>by simpa using p1 f aJ⟩
theorem adV {rs:List eu}{i:Nat}{r:eu}(h:rs[i]?=some r):rs.getD i ([],dT)=r:=by
 rw[ea,h];rfl
theorem adW {rs:List eu}{n:Int}(h:nj rs n=true):vz (D rs) (g1 rs) (p0 rs):=by
 obtain⟨aG,aC8,Vz⟩:=aq7 h;refine⟨Cq rs,λi x O=>?_⟩
 have L:i<D rs:=by
  have:=(dM.1 O).1;rwa [Cq] at this
 obtain⟨r,Y⟩:∃r,rs[i]?=some r:=⟨_,bx L⟩;rw[acO Y] at O
 cases O;obtain⟨aA,ay,cV⟩:=Vz r (eU Y);refine kh.Vx (by simp[aA]) λk J=>?_;unfold p0;rw[adV Y]
 by_cases g8:k<D rs
 ·rw[Z g8];obtain⟨f,aJ⟩:∃f,r.1[k]?=some f:=⟨_,bx (by omega)⟩;obtain⟨fE,gF⟩:=adU (cV f (eU aJ));rw[q3 (by omega),aJ,ea,aJ];exact⟨congrArg some fE,gF⟩
 ·rw[aa g8];obtain⟨fE,gF⟩:=adU ay;rw[q4 (by omega),aA,show k-D rs=0 by omega]
  exact⟨congrArg some fE,gF⟩
theorem aq8 (stop:Bool){rs:List eu}{n:Int}(h:nj rs n=true){vB:List cX}{qK:List Nat}(O:pT stop rs=(vB,qK,false)):
  ∃uk oM c' CA,Fz (D rs) (p0 rs) uk vB oM c' CA/\(stop=false->c'=D rs/\oM+D qK=D rs) /\
   (stop=true->(qK=[]/\c'=D rs/\oM=D rs/\∀j,j<(D rs)->CA j=j)\/(∃f,qK=[f]/\f<D rs/\oM=f/\c'=f/\(∀j,j<f->CA j=j)/\∀i,f<=i->i<(D rs)->uk i f=0)) :=
 aq6 stop (D rs) (p0 rs) (D rs) 0 (g1 rs) [] (p0 rs) 0 (λj=>j) (by omega) ⟨adW h,Nu _ _ _,λ_=>Iff.rfl⟩ rfl (λ_=>⟨rfl,λj ag=>by omega⟩) vB qK O
def JL (N:Nat)(q:Nat->Rat)(b:Nat):Prop:=∃(v:Nat->Int) (d:Int),d≠0/\d.natAbs<=2^b/\∀k,k<=N->q k*(d:Rat)=(v k:Rat)/\(v k).natAbs<=2^b
theorem JL.mono {N a b:Nat}{q:Nat->Rat}(h:JL N q a)(yL:a<=b):JL N q b:=by
 obtain⟨v,d,E,H,ab⟩:=h;have aC:2^a<=2^b:=wP (by omega) yL;exact⟨v,d,E,ey H aC,λk J=>⟨(ab k J).1,ey (ab k J).2 aC⟩⟩
theorem aq9 {q:Rat}{v d:Int}(X:d≠0)(h:q*(d:Rat)=(v:Rat)):q.num*d=v*q.den:=by
 have oG:(d:Rat)≠0:=by rw[Ne,adX];exact X
 have e:q=kX v d:=by rw[VB];grind
 have ay:kX q.num q.den=kX v d:=by rw[Rat.num_divInt_den];exact e
 exact (Rat.divInt_eq_divInt_iff (w6 q) X).1 ay
theorem AG {q:Rat}{v d:Int}(X:d≠0)(h:q*(d:Rat)=(v:Rat)):q.num.natAbs<=v.natAbs/\q.den<=d.natAbs:=by
 have G:=aq9 X h
 have nG:q.num.natAbs*d.natAbs=v.natAbs*q.den:=by
  have:=congrArg Int.natAbs G;rwa [qy,qy,l5] at this
 have zw:q.den∣d.natAbs:=(Nat.Coprime.symm q.reduced).dvd_of_dvd_mul_left ⟨v.natAbs,by rw[nG,si]⟩
 have Su:0<d.natAbs:=by omega
 have H:=Nat.le_of_dvd Su zw;refine⟨?_,H⟩;obtain⟨m,hm⟩:=zw;rw[hm] at nG;have Sw:=q.den_pos
 have ab:q.num.natAbs*m=v.natAbs:=by
  have:q.den*(q.num.natAbs*m)=q.den*v.natAbs:=by rw[si q.den v.natAbs,<-nG];rw[adI]
  exact Nat.eq_of_mul_eq_mul_left Sw this
 have r6:0<m:=by
  rcases iU m with ai|ai
  ·rw[ai,Nat.mul_zero] at hm;omega
  ·exact ai
 rw[<-ab];exact Hq _ r6
def eB (b:Nat)(q:Rat):Prop:=q.num.natAbs<=2^b/\q.den<=2^b
theorem JL.sz {N b:Nat}{q:Nat->Rat}(h:JL N q b){k:Nat}(J:k<=N):eB b (q k):=by
 obtain⟨v,d,E,H,ab⟩:=h;obtain⟨aA,ay⟩:=ab k J;obtain⟨f1,f2⟩:=AG E aA;exact⟨ey f1 ay,ey f2 H⟩
theorem ara (a b c:Nat)(h:a=2^b):a^c=2^(b*c):=by rw[h,<-Nat.pow_mul]
theorem adY:∃B:Nat,B=1200/\dH=2^B:=⟨20*60,rfl,ara 1048576 20 60 (by decide)⟩
theorem AH {z:Int}{b:Nat}(h:z.natAbs<=2^b)(ad:b<1200):h6 z=true:=by
 obtain⟨B,fh,fD⟩:=adY;unfold h6;rw[fD,decide_eq_true_eq];exact sw h (adZ (by omega) (by omega))
theorem um {x y:Int}{a b:Nat}(O:x.natAbs<=2^a)(ak:y.natAbs<=2^b):(x*y).natAbs<=2^(a+b):=by
 rw[qy,xu];exact pb O ak
theorem ad0 {x y:Int}{a:Nat}(O:x.natAbs<=2^a)(ak:y.natAbs<=2^a):(x+y).natAbs<=2^(a+1):=by
 have:=Int.natAbs_add_le x y;rw[uZ];omega
theorem eB.mono {a b:Nat}{q:Rat}(h:eB a q)(yL:a<=b):eB b q:=by
 have aC:2^a<=2^b:=wP (by omega) yL;exact⟨ey h.1 aC,ey h.2 aC⟩
theorem VC {x y:Rat}{a b:Nat}(O:eB a x)(ak:eB b y)(h:a+b<1200):yJ x y=true:=by
 unfold yJ;rw[e3];exact⟨AH (um O.1 ak.1) h,AH (um (x:=(x.den:Int)) (y:=(y.den:Int)) (by simpa using O.2) (by simpa using ak.2)) h⟩
theorem ad1 {x y:Rat}{a b:Nat}(O:eB a x)(ak:eB b y)(h:a+b<1200):vi x y=true:=by
 unfold vi;rw[e3];exact⟨AH (um (y:=(y.den:Int)) O.1 (by simpa using ak.2)) h,AH (um (x:=(x.den:Int)) (by simpa using O.2) ak.1) h⟩
theorem AJ {x y:Rat}{a b:Nat}(O:eB a x)(ak:eB b y)(h:a+b+1<1200):oZ x y=true:=by
 unfold oZ;have E:=um (y:=(y.den:Int)) O.1 (by simpa using ak.2);have H:=um (y:=(x.den:Int)) ak.1 (by simpa using O.2);rw[xL b a] at H;simp only[e3];exact⟨AH E (by omega),AH H (by omega),AH (ad0 E H) h,AH (um (x:=(x.den:Int)) (y:=(y.den:Int)) (by simpa using O.2) (by simpa using ak.2)) (by omega)⟩
theorem FB {b:Nat}{q:Rat}(h:eB b q):eB b (-q):=⟨by rw[ad2,Int.natAbs_neg];exact h.1,h.2⟩
theorem ad3 {p q:Int}{b:Nat}(E:p.natAbs<=2^b)(H:q.natAbs<=2^b)(a9:q≠0):eB b (kX p q):=by
 have aC9:(q:Rat)≠0:=by rw[Ne,adX];exact a9
 have:=AG (q:=kX p q) (v:=p) a9 (by rw[VB];grind);exact⟨ey this.1 E,ey this.2 H⟩
theorem NK {x y:Rat}{a b:Nat}(O:eB a x)(ak:eB b y):eB (a+b) (x*y):=by
 rw[<-Ta];exact ad3 (um O.1 ak.1) (um (x:=(x.den:Int)) (y:=(y.den:Int)) (by simpa using O.2) (by simpa using ak.2)) (Ai (w6 x) (w6 y))
theorem arb {x y:Rat}{a b:Nat}(O:eB a x)(ak:eB b y):eB (a+b+1) (x+y):=by
 rw[<-S9];have E:=um (y:=(y.den:Int)) O.1 (by simpa using ak.2);have H:=um (y:=(x.den:Int)) ak.1 (by simpa using O.2);rw[xL b a] at H;have ab:=um (x:=(x.den:Int)) (y:=(y.den:Int)) (a:=a) (b:=b) (by simpa using O.2) (by simpa using ak.2);exact ad3 (ad0 E H) (ey ab (wP (by omega) (by omega))) (Ai (w6 x) (w6 y))
def s3 (A:ec)(σ:Nat->Nat)(k:Nat):fA:=λi=>A (σ i) k
def pc:Nat->List Nat
 |0=>[]
 |p+1=>p::pc p
theorem AK {k:Nat}:∀{p:Nat},k∈pc p↔k<p
 |0=>by simp[pc]
 |p+1=>by
  simp only[pc,nM,AK (p:=p)];omega
theorem ad4 {l:Nat}:∀{p:Nat},l<p->∃cA fK,pc p=cA++l::fK/\∀m,m∈cA++fK↔m<p/\m≠l
 |0,h=>by omega
 |p+1,h=>by
  by_cases aq:l=p
  ·subst aq;refine⟨[],pc l,rfl,λm=>?_⟩;rw[iJ,AK];omega
  ·obtain⟨cA,fK,E,H⟩:=ad4 (l:=l) (p:=p) (by omega);refine⟨p::cA,fK,by simp[pc,E],λm=>?_⟩
   rw[lz,nM,H];omega
def qL (A:ec)(σ:Nat->Nat)(p:Nat):List fA:=(pc p).map (s3 A σ)
theorem NL {n:Nat}{c c':fA}(cA fK:List fA)(h:∀i,i<n->c i=c' i):gi n (cA++c::fK)=gi n (cA++c'::fK):=by
 have:=adC (n:=n) (cA.map (λx=>(x,x))++(c,c')::fK.map (λx=>(x,x))) Prod.fst Prod.snd (λa aZ i L=>by
  simp only[iw,nM,fI] at aZ;rcases aZ with ⟨x,_,rfl⟩|rfl|⟨x,_,rfl⟩
  ·rfl
  ·exact h i L
  ·rfl)
 simpa [Function.comp_def] using this
theorem ad5 {A:ec}{σ τ:Nat->Nat}{p:Nat}(h:∀i,i<p->σ i=τ i):gi p (qL A σ p)=gi p (qL A τ p) :=
 adC _ _ _ λa _ i L=>by unfold s3;rw[h i L]
def JM (N:Nat)(A aF:ec)(σ:Nat->Nat)(p:Nat):Prop:=∀i,i<N->∀k,p<=k->k<=N->A (σ i) k=(if i<p then 0 else aF i k)+bw p λl=>A (σ i) l*aF l k
def kD (N:Nat)(A aF:ec)(p:Nat):Prop:=∃σ:Nat->Nat,(∀i,i<N->σ i<N)/\(∀i j,i<N->j<N->σ i=σ j->i=j)/\JM N A aF σ p/\gi p (qL A σ p)≠0
theorem kD.start (N:Nat)(A:ec):kD N A A 0:=by
 refine⟨λi=>i,λi h=>h,λi j _ _ h=>h,λi L k _ J=>?_,?_⟩
 ·rw[aa (by omega)];show A i k=A i k+0;grind
 ·show (1:Rat)≠0;decide
theorem arc {p:Nat}(a x y:Nat->Rat)(t:Rat):bw p (λl=>a l*(x l-y l*t))=bw p (λl=>a l*x l)-t*bw p λl=>a l*y l:=by
 have:(λl=>a l*(x l-y l*t))=λl=>a l*x l+(-t)*(a l*y l):=by funext l;grind
 rw[this,ui,yZ];grind
theorem kD.step {N p s:Nat}{A aF:ec}(h:kD N A aF p)(aC:p<N)(Q:p<=s)(y0:s<N)(bP:aF s p≠0):kD N A (nW aF p p s) (p+1):=by
 obtain⟨σ,hσ,FC,Y,X⟩:=h
 let π:Nat->Nat:=λi=>if i=s then p else if i=p then s else i
 have hπ:∀i,gV aF p s i=aF (π i):=by
  intro i;show (if i=s then aF p else if i=p then aF s else aF i)=aF (if i=s then p else if i=p then s else i)
  split
  ·rfl
  ·split<;>rfl
 have hπN:∀i,i<N->π i<N:=λi L=>by show (if i=s then p else if i=p then s else i)<N;split<;>(try split)<;>omega
 have hπp:∀i,i<p->π i=i:=λi L=>by show (if i=s then p else if i=p then s else i)=i;rw[aa (by omega),aa (by omega)]
 have hπq:∀i,p<=i->p<=π i:=λi L=>by show p<=(if i=s then p else if i=p then s else i);split<;>(try split)<;>omega
 have hπj:∀i j,π i=π j->i=j:=λi j=>by
  show (if i=s then p else if i=p then s else i)=(if j=s then p else if j=p then s else j)->i=j
  (repeat' split)<;>omega
 have ad6:∀i j,i<N->j<N->σ (π i)=σ (π j)->i=j:=λi j L ag h=>hπj i j (FC _ _ (hπN i L) (hπN j ag) h)
 have cv:JM N A (gV aF p s) (λi=>σ (π i)) p:=by
  intro i L k k6 g8;have:=Y (π i) (hπN i L) k k6 g8;rw[this]
  congr 1
  ·by_cases l9:i<p
   ·rw[Z l9,Z (by rw[hπp i l9];exact l9)]
   ·rw[aa l9,aa (by have:=hπq i (by omega);omega),hπ]
  ·refine jz λl aq=>?_;rw[hπ l,hπp l aq]
 have ard:gV aF p s p p≠0:=by rw[Nt];exact bP
 generalize arf:gV aF p s=S at *
 have a9:nW aF p p s=λi k=>if i=p then S p k/S p p else S i k-S i p*(S p k/S p p):=by
  funext i k;unfold nW;rw[arf]
 rw[a9]
 have oG:gi p (qL A (λi=>σ (π i)) p)≠0:=by
  rw[ad5 (τ:=σ) λi L=>by show σ (π i)=σ i;rw[hπp i L]]
  exact X
 have hσ2:∀i,i<N->σ (π i)<N:=λi L=>hσ _ (hπN i L)
 change ∀i,i<N->(λi=>σ (π i)) i<N at hσ2
 change ∀i j,i<N->j<N->(λi=>σ (π i)) i=(λi=>σ (π i)) j->i=j at ad6
 generalize hτ:(λi=>σ (π i))=τ at *;refine⟨τ,hσ2,ad6,λi L k k6 g8=>?_,?_⟩
 ·have aA:=cv i L k (by omega) g8;have ay:=cv i L p (by omega) (by omega);simp only[bw,if_true];rw[jz (g:=λl=>A (τ i) l*(S l k-S l p*(S p k/S p p))) λl aq=>by rw[aa (by omega)],arc]
  generalize bw p (λl=>A (τ i) l*S l k)=cA at *;generalize bw p (λl=>A (τ i) l*S l p)=fK at *
  by_cases E:i<p
  ·rw[Z E] at aA ay;rw[Z (by omega)];grind
  ·rw[aa E] at aA ay
   by_cases H:i=p
   ·subst H;rw[Z (by omega)];grind
   ·rw[aa (by omega),aa H];grind
 ·have G:gi (p+1) (qL A τ (p+1))=S p p*gi p (qL A τ p):=by
   show gi (p+1) ([]++s3 A τ p::qL A τ p)=_
   rw[NL (c':=AF (λi=>if i<p then 0 else S i p) (λi=>bw p λl=>S l p*s3 A τ l i) 1) [] _ λi L=>by
    have:=cv i (by omega) p (by omega) (by omega);show A (τ i) p=(if i<p then 0 else S i p)+1*bw p λl=>S l p*A (τ i) l;rw[this,NF]
    congr 1
    exact jz λl _=>uo _ _]
   rw[Cy,JJ,rG λl aq=>by
    rw[Vp (by rw[iJ];exact vD (AK.2 aq))];exact l8 _]
   rw[iJ,adB λi L=>Z L,aa (by omega)];grind
  rw[G];intro ai;rcases VD.1 ai with ai|ai
  ·exact ard ai
  ·exact oG ai
theorem arh {N p l k:Nat}{A aF:ec}{σ:Nat->Nat}(Y:JM N A aF σ p)(aC:p<=N)(aq:l<p)(k6:p<=k)(g8:k<=N):∃cA fK:List Nat,pc p=cA++l::fK/\(∀m∈cA++fK,m<p)/\aF l k*gi p (qL A σ p)=gi p ((cA++k::fK).map (s3 A σ)):=by
 obtain⟨cA,fK,lZ,hm⟩:=ad4 aq;refine⟨cA,fK,lZ,λm Yv=>((hm m).1 Yv).1,?_⟩
 ·rw[k0,eY]
  rw[NL (c':=λi=>bw p λm=>aF m k*s3 A σ m i) _ _ λi L=>by
   have:=Y i (by omega) k k6 g8;rw[Z L] at this;show A (σ i) k=bw p λm=>aF m k*A (σ i) m;rw[this,AL];exact jz λl _=>uo _ _]
  rw[JJ,xp aq λm ari lS=>by
   rw[Vp (by rw[<-k0];exact vD ((hm m).2 ⟨ari,lS⟩))];exact l8 _]
  unfold qL;rw[lZ,k0,eY]
theorem arj {N p i k:Nat}{A aF:ec}{σ:Nat->Nat}(Y:JM N A aF σ p)(qi:p<=i)(m2:i<N)(k6:p<=k)(g8:k<=N):aF i k*gi p (qL A σ p)=gi (p+1) ((k::pc p).map (s3 A λj=>if j=p then σ i else σ j)):=by
 have hτ:∀j,j<p->(λj=>if j=p then σ i else σ j) j=σ j:=λj ag=>aa (by omega);have hτp:(λj=>if j=p then σ i else σ j) p=σ i:=Z rfl;generalize (λj=>if j=p then σ i else σ j)=τ at *;show _=gi (p+1) ([]++s3 A τ k::qL A τ p)
 rw[NL (c':=AF (λj=>if j<p then 0 else aF i k) (λj=>bw p λl=>aF l k*s3 A τ l j) 1) [] _ λj ag=>by
  show A (τ j) k=(if j<p then 0 else aF i k)+1*bw p λl=>aF l k*A (τ j) l;rw[NF]
  by_cases Fl:j<p
  ·have:=Y j (by omega) k k6 g8;rw[Z Fl] at this ⊢;rw[hτ j Fl,this]
   congr 1
   exact jz λl _=>uo _ _
  ·obtain rfl:j=p:=by omega
   have:=Y i m2 k k6 g8;rw[aa (by omega)] at this;rw[aa Fl,hτp,this]
   congr 1
   exact jz λl _=>uo _ _]
 rw[Cy,JJ,rG λl aq=>by
  rw[Vp (by rw[iJ];exact vD (AK.2 aq))];exact l8 _]
 rw[iJ,adB λi L=>Z L,aa (by omega),ad5 λj ag=>(hτ j ag).symm];grind
theorem ark (n:Nat)(cA fK:List fA)(x:fA)(a:Rat):gi n (cA++(λi=>a*x i)::fK)=a*gi n (cA++x::fK):=by
 have:=JJ n cA fK (λ_=>a) (λ_=>x) 1;simp only[bw] at this;rw[AL] at this;rw[<-this];exact NL cA fK λi _=>(AL _).symm
theorem ad7 (n:Nat)(bR:Nat->Rat)(C:Nat->fA):∀(cr:List Nat) (cA:List fA),∃a:Rat,((∀k∈cr,bR k≠0)->a≠0)/\gi n (cA++cr.map λk=>λi=>bR k*C k i)=a*gi n (cA++cr.map C)
 | [],cA=>⟨1,λ_=>by decide,by rw[NF];rfl⟩
 |k::cr,cA=>by
  obtain⟨a,E,H⟩:=ad7 n bR C cr (cA++[C k]);refine⟨bR k*a,λh=>?_,?_⟩
  ·intro ai;rcases VD.1 ai with ai|ai
   ·exact h k ha ai
   ·exact E (λm hm=>h m (hY _ hm)) ai
  ·simp only[eY,gK,lz,iJ] at H ⊢;rw[ark,H,Rat.mul_assoc]
structure s4 (N:Nat) (A:ec) (δ v:Nat):Prop where
 ex:∃(bR:Nat->Nat) (u w:Nat->Int),h9 N bR<=2^δ/\(∀k,0<bR k)/\(∀k,k<N->∃b:Nat->Nat,fY N b<=2*bR k/\∀i,i<N->eg (b i) (bR k*A i k))/\(∀k,k<N->(u k).natAbs<=2^v)/\∀i,i<N->(w i).natAbs<=2^v/\A i N=bw N (λk=>A i k*(u k:Rat))+(w i:Rat)
def kE (e:Nat->Nat):List Nat->Nat
 | []=>1
 |m::l=>e m*kE e l
theorem ad8 (e:Nat->Nat)(a b:List Nat):kE e (a++b)=kE e a*kE e b:=by
 induction a with
 |nil=>simp[kE]
 |cons p l aw=>simp only[lz,kE,aw,Cz]
theorem arl {e f:Nat->Nat}{l:List Nat}(h:∀m∈l,e m=f m):kE e l=kE f l:=by
 induction l with
 |nil=>rfl
 |cons m l aw=>rw[kE,kE,aw λx O=>h x (hY _ O),h m ha]
theorem ad9 (bR:Nat->Nat):∀p,kE (λm=>2*bR m) (pc p)=2^p*h9 p bR
 |0=>rfl
 |p+1=>by
  rw[pc,kE,ad9 bR p,h9,uZ];grind
theorem VE {N n:Nat}{A:ec}{e:Nat->Nat}(dh:∀k,k<=N->∃b:Nat->Nat,fY N b<=e k/\∀i,i<N->eg (b i) (A i k)){τ:Nat->Nat}(E:∀i,i<n->τ i<N)(H:∀i j,i<n->j<n->τ i=τ j->i=j)(cr:List Nat)(fD:∀m∈cr,m<=N):eg (kE e cr) (gi n (cr.map (s3 A τ))):=by
 have⟨B,fh⟩:∃B:Nat->Nat->Nat,∀k,k<=N->fY N (B k)<=e k/\∀i,i<N->eg (B k i) (A i k):=by
  refine⟨λk=>if h:k<=N then (dh k h).choose else λ_=>0,λk J=>?_⟩;dsimp only;rw[dif_pos J];exact (dh k J).choose_spec
 have h:=adJ n (cr.map λk=>(s3 A τ k,λi=>B k (τ i))) λp aC i L=>by
  obtain⟨m,hm,rfl⟩:=fI.1 aC;exact (fh m (fD m hm)).2 _ (E i L)
 rw[oN] at h;refine eg.mono h ?_;clear h
 induction cr with
 |nil=>exact bM _
 |cons m cr aw =>
  rw[eY,ma,kE];exact pb (ey (Vt (B m) E H) (fh m (fD m ha)).1) (aw λx O=>fD x (hY _ O))
structure arn (N:Nat) (aF:ec) (δ v p:Nat) (bR:Nat->Nat) (u:Nat->Int) (d:Int):Prop where
 d0:d≠0
 pos:∀k,0<bR k
 aea:h9 N bR<=2^δ
 aeb:∀k,k<N->(u k).natAbs<=2^v
 Bt:d.natAbs<=2^p*h9 p bR
 aec:∀i,i<N->∀k,p<=k->k<N->eg (2^(p+1)*(h9 p bR*bR k)) (aF i k*(bR k*d))
 val:∀i,i<N->eg (2^p*h9 p bR*(N*2^v)) ((aF i N-(if i<p then (u i:Rat) else 0)-bw N λk=>if p<=k then aF i k*(u k:Rat) else 0)*d)
theorem kD.aed {N p δ v:Nat}{A aF:ec}(dh:s4 N A δ v)(h:kD N A aF p)(aC:p<=N):∃bR u d,arn N aF δ v p bR u d:=by
 obtain⟨σ,hσ,FC,Y,X⟩:=h;obtain⟨bR,u,w,c5,dK,fl,fP,nX⟩:=dh
 have JN:∀m,((bR m:Nat):Rat)≠0:=λm=>by
  have:=dK m;rw[Ne,Rat.natCast_eq_zero_iff];omega
 -- the scaled matrix, with the whole numbers of the values
 have br:JM N (λi k=>if k<N then bR k*A i k else (w i:Rat)) (λl k=>if k<N then (if l<p then bR k*aF l k/bR l else bR k*aF l k) else (if l<p then (1:Rat)/bR l else 1)*(aF l N-(if l<p then (u l:Rat) else 0)-bw N λk=>if p<=k then aF l k*(u k:Rat) else 0)) σ p:=by
  intro i L k k6 g8
  by_cases nV:k<N
  ·have:=Y i L k k6 g8;dsimp only;rw[Z nV,Z nV,this,Rat.mul_add,<-yZ]
   congr 1
   ·split<;>grind
   ·refine jz λl aq=>?_;rw[Z nV,Z (by omega),Z aq];have:=JN l;grind
  ·obtain rfl:k=N:=by omega
   dsimp only;rw[aa nV,aa nV];have aA:=Y i L k k6 g8;have ay:=(nX (σ i) (hσ i L)).2
   have cV:(λm=>A (σ i) m*(u m:Rat))=λm=>(if m<p then A (σ i) m*(u m:Rat) else 0)+if p<=m then A (σ i) m*(u m:Rat) else 0:=by
    funext m
    by_cases hm:m<p
    ·rw[Z hm,aa (by omega),pa]
    ·rw[aa hm,Z (by omega),AL]
   have da:bw k (λm=>if p<=m then A (σ i) m*(u m:Rat) else 0)=bw k λm=>(if p<=m then (if i<p then 0 else aF i m*(u m:Rat)) else 0)+bw p λl=>A (σ i) l*(if p<=m then aF l m*(u m:Rat) else 0):=jz λm hm=>by
    by_cases nH:p<=m
    ·rw[Z nH,Z nH,Y i L m nH (by omega),Rat.add_mul]
     congr 1
     ·split<;>grind
     ·rw[uo,<-yZ];refine jz λl _=>?_;rw[Z nH];grind
    ·rw[aa nH,aa nH,AL];exact (rG λl _=>by rw[aa nH,l8]).symm
   rw[cV,ui,da,ui,aqr] at ay
   have dC:bw k (λm=>if m<p then A (σ i) m*(u m:Rat) else 0)=bw p λl=>A (σ i) l*(u l:Rat):=by
    have:∀n,p<=n->bw n (λm=>if m<p then A (σ i) m*(u m:Rat) else 0)=bw p λl=>A (σ i) l*(u l:Rat):=by
     intro n
     induction n with
     |zero =>
          intro h;obtain rfl:p=0:=by omega
          rfl
     |succ n aw =>
      intro h
      by_cases AM:p=n+1
      ·rw[AM];exact jz λm hm=>Z hm
      ·rw[bw,aw (by omega),aa (by omega),pa]
    exact this k aC
   rw[dC] at ay
   have bL:(bw p λl=>(λi s5=>if s5<k then (bR s5:Rat)*A i s5 else (w i:Rat)) (σ i) l*((if l<p then (1:Rat)/bR l else 1)*(aF l k-(if l<p then (u l:Rat) else 0)-bw k λm=>if p<=m then aF l m*(u m:Rat) else 0)))=bw p (λl=>A (σ i) l*aF l k)-bw p (λl=>A (σ i) l*(u l:Rat))-bw p λl=>bw k λm=>A (σ i) l*(if p<=m then aF l m*(u m:Rat) else 0):=by
    have:∀f g h:Nat->Rat,bw p (λl=>f l-g l-h l)=bw p f-bw p g-bw p h:=λf g h=>by
     have e:(λl=>f l-g l-h l)=λl=>f l+((-1)*g l+(-1)*h l):=by funext l;grind
     rw[e,ui,ui,yZ,yZ];grind
    rw[<-this];refine jz λl aq=>?_;dsimp only;rw[Z (by omega),Z aq,Z aq,yZ];have:=JN l;grind
   have b1:(bw p λl=>(λi s5=>if s5<k then (bR s5:Rat)*A i s5 else (w i:Rat)) (σ i) l*(λl s5=>if s5<k then (if l<p then (bR s5:Rat)*aF l s5/bR l else bR s5*aF l s5) else (if l<p then (1:Rat)/bR l else 1)*(aF l k-(if l<p then (u l:Rat) else 0)-bw k λm=>if p<=m then aF l m*(u m:Rat) else 0)) l k)=bw p (λl=>A (σ i) l*aF l k)-bw p (λl=>A (σ i) l*(u l:Rat))-bw p λl=>bw k λm=>A (σ i) l*(if p<=m then aF l m*(u m:Rat) else 0):=by
    rw[<-bL];refine jz λl aq=>?_;dsimp only;rw[aa (by omega:¬ k<k)]
   dsimp only at b1;rw[b1]
   by_cases l9:i<p
   ·rw[Z l9] at aA ⊢;have dq:bw k (λm=>if p<=m then (if i<p then 0 else aF i m*(u m:Rat)) else 0)=0:=rG λm _=>by rw[Z l9];split<;>rfl
    rw[dq] at ay;grind
   ·rw[aa l9] at aA ⊢;have dq:bw k (λm=>if p<=m then (if i<p then 0 else aF i m*(u m:Rat)) else 0)=bw k λm=>if p<=m then aF i m*(u m:Rat) else 0:=jz λm _=>by rw[aa l9]
    rw[dq] at ay;rw[aa l9,aa l9];grind
 have l2:gi p (qL (λi k=>if k<N then bR k*A i k else (w i:Rat)) σ p)≠0:=by
  obtain⟨a,E,H⟩:=ad7 p (λk=>(bR k:Rat)) (s3 A σ) (pc p) []
  have JO:qL (λi k=>if k<N then bR k*A i k else (w i:Rat)) σ p=(pc p).map λk=>λi=>(bR k:Rat)*s3 A σ k i:=by
   unfold qL;refine m5 λm hm=>?_;have:=AK.1 hm
   funext i
   show (if m<N then (bR m:Rat)*A (σ i) m else (w (σ i):Rat))=_;rw[Z (by omega)];rfl
  rw[iJ,iJ] at H;rw[JO,H];intro ai;rcases VD.1 ai with ai|ai
  ·exact E (λm hm=>JN m) ai
  ·exact X ai
 have CB:∀k,k<=N->∃b:Nat->Nat,fY N b<=(if k<N then 2*bR k else N*2^v)/\∀i,i<N->eg (b i) ((λi k=>if k<N then (bR k:Rat)*A i k else (w i:Rat)) i k):=by
  intro k J
  by_cases nV:k<N
  ·obtain⟨b,dR,gQ⟩:=fl k nV;refine⟨b,by rw[Z nV];exact dR,λi L=>?_⟩
   dsimp only;rw[Z nV];exact gQ i L
  ·refine⟨λ_=>2^v,?_,λi L=>?_⟩
   ·rw[aa nV]
    have:∀n,fY n (λ_=>2^v)=n*2^v:=λn=>by
     induction n with
     |zero=>simp[fY]
     |succ n aw=>rw[fY,aw,r1]
    rw[this];exact bM _
   ·dsimp only;rw[aa nV];exact eg.mono (eg.int _) (nX i L).1
 generalize aDa:(λ(i k:Nat)=>if k<N then (bR k:Rat)*A i k else (w i:Rat))=NG at *;generalize VF:(λk=>if k<N then 2*bR k else N*2^v)=e at *
 have VG:∀k,k<=N->∃b:Nat->Nat,fY N b<=e k/\∀i,i<N->eg (b i) (NG i k):=by
  intro k J;rw[<-VF];exact CB k J
 have VH:∀m,m<N->e m=2*bR m:=λm hm=>by rw[<-VF];exact Z hm
 have aro:e N=N*2^v:=by rw[<-VF];exact aa (by omega)
 have VI:kE e (pc p)=2^p*h9 p bR:=by
  rw[<-ad9];exact arl λm hm=>VH m (by have:=AK.1 hm;omega)
 have hσp:∀i,i<p->σ i<N:=λi L=>hσ i (by omega);have l9:∀i j,i<p->j<p->σ i=σ j->i=j:=λi j L ag=>FC i j (by omega) (by omega);have uT:=VE VG hσp l9 (pc p) λm hm=>by have:=AK.1 hm;omega
 rw[VI] at uT;obtain⟨d,yy,u5⟩:=uT
 change gi p (qL NG σ p)=(d:Rat) at yy
 have zX:d≠0:=by
  intro ai;rw[yy,ai] at l2;exact l2 (by rfl)
 -- both kinds of rows
 have fg:∀l,l<p->∀k,p<=k->k<=N->∃m:Int,(λl k=>if k<N then (if l<p then (bR k:Rat)*aF l k/bR l else bR k*aF l k) else (if l<p then (1:Rat)/bR l else 1)*(aF l N-(if l<p then (u l:Rat) else 0)-bw N λk=>if p<=k then aF l k*(u k:Rat) else 0)) l k*(d:Rat)=(m:Rat)/\bR l*m.natAbs<=2^p*h9 p bR*e k:=by
  intro l aq k k6 g8;obtain⟨cA,fK,bh,cd,c7⟩:=arh br aC aq k6 g8
  have ad:=VE VG hσp l9 (cA++k::fK) λm hm=>by
   have:m=k\/m∈cA++fK:=by
    simp only[iw,nM] at hm ⊢;rcases hm with h|h|h<;>simp[h]
   rcases this with h|h
   ·omega
   ·have:=cd m h;omega
  obtain⟨m,dD,bY⟩:=ad;rw[yy,dD] at c7;refine⟨m,c7,?_⟩;have aA:kE e (cA++k::fK)=kE e cA*(e k*kE e fK):=by rw[ad8,kE]
  have ay:kE e cA*(2*bR l*kE e fK)=2^p*h9 p bR:=by
   rw[<-VI,bh,ad8,kE,VH l (by omega)]
  rw[aA] at bY;rw[<-ay];generalize kE e cA=x at *;generalize kE e fK=y at *;have cF:=pb (bM (bR l)) bY;have dk:x*(2*bR l*y)*e k=bR l*(x*(e k*y))+bR l*(x*(e k*y)):=by grind
  rw[dk];omega
 have iq:∀i,p<=i->i<N->∀k,p<=k->k<=N->∃m:Int,(λl k=>if k<N then (if l<p then (bR k:Rat)*aF l k/bR l else bR k*aF l k) else (if l<p then (1:Rat)/bR l else 1)*(aF l N-(if l<p then (u l:Rat) else 0)-bw N λk=>if p<=k then aF l k*(u k:Rat) else 0)) i k*(d:Rat)=(m:Rat)/\m.natAbs<=2^p*h9 p bR*e k:=by
  intro i qi m2 k k6 g8;have aee:=arj br qi m2 k6 g8
  have hτ:∀j,j<p+1->(λj=>if j=p then σ i else σ j) j<N:=λj ag=>by
   show (if j=p then σ i else σ j)<N
   split
   ·exact hσ i m2
   ·exact hσ j (by omega)
  have hτj:∀j k,j<p+1->k<p+1->(λj=>if j=p then σ i else σ j) j=(λj=>if j=p then σ i else σ j) k->j=k:=λj k ag J=>by
   show (if j=p then σ i else σ j)=(if k=p then σ i else σ k)->j=k;intro h
   by_cases aH:j=p
   ·by_cases c2:k=p
    ·omega
    ·rw[Z aH,aa c2] at h;have:=FC _ _ m2 (by omega) h;omega
   ·by_cases c2:k=p
    ·rw[aa aH,Z c2] at h;have:=FC _ _ (by omega) m2 h;omega
    ·rw[aa aH,aa c2] at h;exact FC _ _ (by omega) (by omega) h
  obtain⟨m,dD,bY⟩:=VE VG hτ hτj (k::pc p) λm hm=>by
   rcases nM.1 hm with h|h
   ·omega
   ·have:=AK.1 h;omega
  rw[yy,dD] at aee;refine⟨m,aee,ey bY ?_⟩;rw[kE,VI,si];exact bM _
 refine⟨bR,u,d,zX,dK,c5,fP,u5,λi L k k6 g8=>?_,λi L=>?_⟩
 ·have Td:2^(p+1)*(h9 p bR*bR k)=2^p*h9 p bR*e k:=by rw[VH k g8,uZ];grind
  rw[Td]
  by_cases ao:i<p
  ·obtain⟨m,dD,bY⟩:=fg i ao k k6 (by omega);dsimp only at dD;rw[Z g8,Z ao] at dD;refine⟨bR i*m,?_,by rw[qy,l5];exact bY⟩
   rw[pZ,<-dD,nm];have:=JN i;grind
  ·obtain⟨m,dD,bY⟩:=iq i (by omega) L k k6 (by omega);dsimp only at dD;rw[Z g8,aa ao] at dD;refine⟨m,?_,bY⟩;rw[<-dD];grind
 ·rw[<-aro]
  by_cases ao:i<p
  ·obtain⟨m,dD,bY⟩:=fg i ao N aC (bM _);dsimp only at dD;rw[aa (by omega:¬ N<N),Z ao,Z ao] at dD;refine⟨bR i*m,?_,by rw[qy,l5];exact bY⟩
   rw[pZ,<-dD,nm,Z ao];have:=JN i;grind
  ·obtain⟨m,dD,bY⟩:=iq i (by omega) L N aC (bM _);dsimp only at dD;rw[aa (by omega:¬ N<N),aa ao,aa ao] at dD;refine⟨m,?_,bY⟩;rw[<-dD,aa ao];grind
def FE (N:Nat)(A:ec)(eF aO:Nat):Prop:=∀aF p,p<=N->kD N A aF p->∀i k,i<N->p<=k->k<=N->eB eF (aF i k)/\(k<N->eB aO (aF i k))
theorem s4.aef {N δ v:Nat}{A:ec}(dh:s4 N A δ v)(gB:N<=7):FE N A (N+δ+v+4) (N+δ):=by
 intro aF p aC h i k L k6 g8;obtain⟨bR,u,d,aG⟩:=h.aed dh aC;obtain⟨bZ,aDb,eT,ei⟩:=adF aG.pos aC;have CC:=aG.aea;rw[eT] at CC
 have arp:∀k,p<=k->k<N->h9 p bR*bR k<=h9 p bR*bZ:=λk E H=>by
  obtain⟨m,hm⟩:=ei k E H;refine pb (bM _) ?_
  have:0<m:=by
   rcases iU m with h|h
   ·rw[h] at hm;omega
   ·exact h
  rw[hm];exact Hq _ this
 have EC:∀q,q<=N->∀x,x<=2^δ->2^q*x<=2^(N+δ):=λq a9 x O=>by
  rw[xu];exact pb (wP (by omega) a9) O
 have e4:∀k,p<=k->k<N->eB (N+δ) (aF i k):=λk k6 g8=>by
  obtain⟨z,gD,iC⟩:=aG.aec i L k k6 g8;have aDc:=aG.pos k;obtain⟨f1,f2⟩:=AG (q:=aF i k) (v:=z) (d:=(bR k:Int)*d) (Ai (by omega) aG.d0) (by rw[<-gD,pZ,nm]);have hle:=ey (arp k k6 g8) CC;refine⟨ey f1 (ey iC (EC _ (by omega) _ hle)),ey f2 ?_⟩;rw[qy,l5];refine ey (pb (bM _) aG.Bt) (ey ?_ (EC p aC _ hle));exact xo (by grind)
 by_cases nV:k<N
 ·exact⟨(e4 k k6 nV).mono (by omega),λ_=>e4 k k6 nV⟩
 refine⟨?_,λh=>absurd h nV⟩;obtain rfl:k=N:=by omega
 have hl:=aG.val i L;have fh:∀q,q<=k->2^q*(h9 p bR*bZ)<=2^(k+δ):=λq a9=>EC q a9 _ CC
 -- the three parts, times d and bZ
 have nI:eg (k*2^(k+δ+v)) ((aF i k-(if i<p then (u i:Rat) else 0)-bw k λm=>if p<=m then aF i m*(u m:Rat) else 0)*d*(bZ:Rat)):=by
  refine (hl.mul (eg.nat (bM bZ))).mono ?_;have:=pb (fh p aC) (bM (k*2^v));refine ey (xo ?_) (ey this (xo ?_))
  ·grind
  ·rw[xu 2 (k+δ) v];grind
 have nJ:eg (2^(k+δ+v)) ((if i<p then (u i:Rat) else 0)*d*(bZ:Rat)):=by
  have hu:eg (2^v) (if i<p then (u i:Rat) else 0):=by
   split
   ·exact eg.mono (eg.int _) (aG.aeb i L)
   ·exact eg.zero
  refine ((hu.mul (eg.mono (eg.int d) aG.Bt)).mul (eg.nat (bM bZ))).mono ?_;have:=pb (fh p aC) (bM (2^v));refine ey (xo ?_) (ey this (xo ?_))
  ·grind
  ·rw[xu 2 (k+δ) v]
 have pS:eg (k*2^(k+δ+v)) ((bw k λm=>if p<=m then aF i m*(u m:Rat) else 0)*d*(bZ:Rat)):=by
  have e:(bw k λm=>if p<=m then aF i m*(u m:Rat) else 0)*(d:Rat)*(bZ:Rat)=bw k λm=>((d:Rat)*(bZ:Rat))*(if p<=m then aF i m*(u m:Rat) else 0):=by
   rw[yZ];grind
  rw[e];refine eg.sum k λm hm=>?_
  by_cases nH:p<=m
  ·rw[Z nH];obtain⟨y,ak⟩:=ei m nH hm
   have ay:(d:Rat)*(bZ:Rat)*(aF i m*(u m:Rat))=(aF i m*((bR m:Rat)*d))*(y:Rat)*(u m:Rat):=by
    rw[ak,NM];grind
   rw[ay];refine (((aG.aec i L m nH hm).mul (eg.nat (bM y))).mul (eg.mono (eg.int (u m)) (aG.aeb m hm))).mono ?_;have:=pb (fh (p+1) (by omega)) (bM (2^v));refine ey (xo ?_) (ey this (xo ?_))
   ·rw[ak];grind
   ·rw[xu 2 (k+δ) v]
  ·rw[aa nH,l8];exact eg.zero
 obtain⟨z,gD,iC⟩:=(nI.add nJ).add pS
 have e:aF i k*((d*(bZ:Int):Int):Rat)=(z:Rat):=by
  rw[<-gD,pZ,nm];grind
 obtain⟨f1,f2⟩:=AG (Ai aG.d0 (by omega)) e;refine⟨ey f1 (ey iC ?_),ey f2 ?_⟩
 ·rw[xu 2 (k+δ+v) 4];generalize 2^(k+δ+v)=cA at *;have:k*cA<=7*cA:=Nat.mul_le_mul_right _ gB;omega
 ·rw[qy,l5];refine ey (pb aG.Bt (bM bZ)) (ey (xo ?_) (ey (fh p aC) (wP (by omega) (by omega))));grind
theorem kD.arq {N δ v:Nat}{A aF:ec}(dh:s4 N A δ v)(h:kD N A aF N):∃a5:Nat,0<a5/\a5<=2^(N+δ)/\∀i,i<N->∃z:Int,aF i N*(a5:Rat)=(z:Rat):=by
 obtain⟨bR,u,d,aG⟩:=h.aed dh (bM N)
 have⟨s,Q⟩:∃s:Int,(d.natAbs:Int)=s*d:=by
  rcases Int.natAbs_eq d with e|e
  ·exact⟨1,by omega⟩
  ·exact⟨-1,by omega⟩
 have X:=aG.d0;refine⟨d.natAbs,by omega,ey aG.Bt ?_,λi L=>?_⟩
 ·rw[xu];exact pb (bM _) aG.aea
 ·obtain⟨z,gD,-⟩:=aG.val i L;rw[Z L,rG λk J=>aa (by omega)] at gD;refine⟨s*(z+u i*d),?_⟩;have e:((d.natAbs:Nat):Rat)=((d.natAbs:Int):Rat):=(nm _).symm;rw[e,Q,pZ,pZ,sZ,pZ,<-gD];grind
def de (N:Nat)(x:Nat->Rat):List bS:=((dQ N).map x).map aE
theorem p2 (N:Nat)(x:Nat->Rat):(de N x).length=N:=by simp[de]
theorem uq {N k:Nat}(x:Nat->Rat)(h:k<N):(de N x)[k]?=some (aE (x k)):=by
 unfold de;rw[bd,bd,r0 h];rfl
theorem JP {N:Nat}{l:List bS}{x:Nat->Rat}(aq:(D l)=N)(h:∀k,k<N->l[k]?=some (aE (x k))):l=de N x:=by
 apply q6;intro k;rcases hK k N with J|J
 ·rw[h k J,uq x J]
 ·rw[lr (by omega),lr (by rw[p2];omega)]
theorem FF {N:Nat}{x y:Nat->Rat}(h:∀k,k<N->x k=y k):de N x=de N y :=
 JP (p2 N x) λk J=>by rw[uq x J,h k J]
theorem VJ {N:Nat}{x:Nat->Rat}(gB:N<=40)(h:∀k,k<N->dI (x k)):o0 (de N x):=by
 refine⟨by rw[p2];omega,λf aJ=>?_⟩
 obtain⟨k,J⟩:=pD.1 aJ;have nV:k<N:=by have:=(dM.1 J).1;rwa [p2] at this
 rw[uq x nV] at J
 cases J;exact o4 (h k nV)
def aeg (N:Nat)(a5:ec)(x:Nat->Rat):Prop:=(∀y,hx N a5 (ext N y (-1))↔∀k,k<N->y k=x k)/\∀y,hx N a5 (ext N y 0)->∀k,k<N->y k=0
def AO (N:Nat)(a5:ec):Prop:=∃y,hx N a5 (ext N y 0)/\∃k,k<N/\y k≠0
theorem ars {N:Nat}{rows:List cX}{aF:ec}(h:vz N rows aF):rows.map (uh N)=de N (λi=>aF i N) :=
 JP (by rw[al];exact h.1) λk J=>by
  obtain⟨x,O,-,nn⟩:=h.row J;rw[bd,O,iW];unfold uh;rw[ea,nn.get (bM _)]
  rfl
theorem Fz.aeh {N:Nat}{aF uk:ec}{rows:List cX}{p c:Nat}{dx:Nat->Nat}(h:Fz N aF uk rows p c dx){i k:Nat}(L:i<N)(J:k<=N):dI (uk i k):=by
 obtain⟨x,-,-,nn⟩:=h.enc.row L;exact nn.2 k J
theorem aei {q:Rat}(h:dI q):oZ 0 (-q)=true:=by
 unfold oZ;simp only[e3]
 have E:h6 ((-q).num*((0:Rat).den:Int))=true:=by
  rw[ad2,JQ];unfold h6;rw[decide_eq_true_eq];have:=h.1;omega
 refine⟨?_,E,?_,?_⟩
 ·rw[JR,wW];decide +kernel
 ·rw[JR,wW,BQ];exact E
 ·rw[JQ,Rat.neg_den];unfold h6;rw[decide_eq_true_eq];have:=h.2;omega
theorem aej:dI 0:=⟨by decide +kernel,by decide +kernel⟩
theorem art {N f:Nat}{rows:List cX}{aF:ec}(h:vz N rows aF)(aJ:f<N):Jy rows f N f=de N (rI aF f) :=
 JP (aqq _ _ _ _) λk J=>by
  unfold Jy;rw[bd,r0 J,iW];unfold rI
  by_cases E:k<f
  ·rw[Z E,Z E];obtain⟨x,-,ex,nn⟩:=h.row (i:=k) (by omega);rw[ex,nn.cell (by omega),<-ade,MH aej (nn.2 f (by omega)),aei (nn.2 f (by omega))]
   rfl
  ·rw[aa E,aa E]
   by_cases H:k=f
   ·rw[Z H,Z H,aqp]
   ·rw[aa H,aa H,ade]
theorem VK {N:Nat}{a5 aF:ec}(h:∀y,hx N aF y↔hx N a5 y):∀y z,hx N aF (ext N y z)↔hx N a5 (ext N y z):=λ_ _=>h _
theorem aru {rs:List eu}{n:Int}(h:nj rs n=true):
  (pU rs n=([],6)) \/
  (∃x,pU rs n=(de (D rs) x,0)/\UT rs n=([],false)/\(∀k,k<(D rs)->dI (x k))/\aeg (D rs) (p0 rs) x) \/
  (∃y,pU rs n=([],17)/\UT rs n=(de (D rs) y,true)/\(∀k,k<(D rs)->dI (y k))/\hx (D rs) (p0 rs) (ext (D rs) y 0)/\∃k,k<D rs/\y k=1):=by
 unfold pU UT;rw[Z h];rcases O:pT true rs with ⟨vB,qK,bad⟩
 cases bad
 ·right
  obtain⟨aF,p,c,dx,he,-,Q⟩:=aq8 true h O;rw[Z h];rcases Q rfl with ⟨rfl,rfl,rfl,jj⟩|⟨f,rfl,aJ,rfl,rfl,jj,aR⟩
  ·left
   refine⟨λi=>aF i (D rs),?_,rfl,λk J=>he.aeh J (bM _),λy=>?_,λy ak=>?_⟩
   ·rw[aa (by simp),aa (by simp),ars he.enc]
   ·rw[<-VK he.FA];exact adx he.red jj y
   ·exact aqO he.red jj y ((VK he.FA y 0).2 ak)
  ·right
   refine⟨rI aF c,?_,?_,λk J=>?_,?_,⟨c,aJ,by unfold rI;simp⟩⟩
   ·rw[aa (by simp),Z (by simp)]
   ·rw[aa (by simp)];exact congrArg (λl=>(l,true)) (art he.enc aJ)
   ·unfold rI
    split
    ·exact abF (aei (he.aeh J (by omega)))
    ·split
     ·exact⟨by decide +kernel,by decide +kernel⟩
     ·exact aej
   ·exact (VK he.FA _ _).1 (ady he.red jj aJ aR)
 ·left
  rw[Z rfl]
theorem aek (aF:ec){N p s:Nat}(aC:p<N)(Q:p<=s)(y0:s<N){i:Nat}(L:i<N):∃a4,a4<N/\gV aF p s i=aF a4:=by
 unfold gV
 by_cases E:i=s
 ·exact⟨p,aC,by rw[Z E]⟩
 ·by_cases H:i=p
  ·exact⟨s,y0,by rw[aa E,Z H]⟩
  ·exact⟨i,L,by rw[aa E,aa H]⟩
theorem arv (b:Nat)(p:Prop)[Decidable p]:eB b (if p then 1 else 0):=by
 have ad:1<=2^b:=Nat.one_le_two_pow
 split
 ·exact⟨ad,ad⟩
 ·exact⟨fr _,ad⟩
theorem kD.all {N p eF aO:Nat}{A aF:ec}{dx:Nat->Nat}(fh:FE N A eF aO)(h:kD N A aF p)(Y:pV N aF p p dx)(jj:∀j,j<p->dx j=j)(aC:p<=N){i k:Nat}(L:i<N)(J:k<=N):eB eF (aF i k):=by
 by_cases ael:k<p
 ·have:=Y.unit k ael i L;rw[jj k ael] at this;rw[this];exact arv _ _
 ·exact (fh aF p aC h i k L (by omega) J).1
theorem arw {N p s eF aO:Nat}{A aF:ec}{dx:Nat->Nat}(fh:FE N A eF aO)(h:kD N A aF p)(Y:pV N aF p p dx)(jj:∀j,j<p->dx j=j)(aC:p<N)(Q:p<=s)(y0:s<N)(bP:aF s p≠0)(mb:2*eF+aO+1<1200):adQ N (gV aF p s) p p:=by
 have H:=h.step aC Q y0 bP;have br:=Y.Cr aC Q y0 bP
 have arx:∀j,j<p+1->(if j=p then p else dx j)=j:=λj ag=>by
  split
  ·omega
  ·exact jj j (by omega)
 have e1:∀i,i<N->∀k,k<=N->eB eF (gV aF p s i k):=by
  intro i L k J;obtain⟨a4,E,e⟩:=aek aF aC Q y0 L;rw[e];exact h.all fh Y jj (by omega) E J
 have JO:∀i,i<N->eB aO (gV aF p s i p):=by
  intro i L;obtain⟨a4,E,e⟩:=aek aF aC Q y0 L;rw[e];exact (fh aF p (by omega) h a4 p E (bM p) (by omega)).2 aC
 have aem:∀k,k<=N->eB eF (gV aF p s p k/gV aF p s p p):=by
  intro k J;have:=H.all fh br arx (by omega) (i:=p) aC J;unfold nW at this;rwa [Z rfl] at this
 refine⟨λk J=>ad1 (e1 p aC k J) (JO p aC) (by omega),λi L _ _ k J=>?_⟩;unfold qJ;rw[e3];exact⟨VC (JO i L) (aem k J) (by omega),AJ (e1 i L k J) (FB (NK (JO i L) (aem k J))) (by omega)⟩
theorem ary {N eF aO:Nat}{A:ec}(fh:FE N A eF aO)(mb:2*eF+aO+1<1200):
  ∀k p rows aF dx,p+k=N->Fz N A aF rows p p dx->kD N A aF p->(∀j,j<p->dx j=j)->(k4 true k p rows [] false).2.2=false:=by
 intro k
 induction k with
 |zero=>intro p rows aF dx _ _ _ _;rfl
 |succ k aw =>
  intro p rows aF dx aC he X jj;unfold k4;rw[mu,UR];rcases adR he.enc (r:=p) (c:=p) (by omega) (by omega) with ⟨E,H,ab,aM⟩|⟨E,s,hs,h5,vC,aM,bj⟩
  ·rw[E,H,ab,Z rfl,Z rfl]
  ·have cU:=arw fh X he.red jj (by omega) hs h5 vC mb;have ad:=bj cU;rw[E,aa (by simp),ad];refine aw (p+1) _ (nW aF p p s) (λj=>if j=p then p else dx j) (by omega) ⟨aM ad,he.red.Cr (by omega) hs h5 vC,λy=>(UX (by omega) h5 vC).trans (he.FA y)⟩ (X.step (by omega) hs h5 vC) λj ag=>?_;show (if j=p then p else dx j)=j
   split
   ·omega
   ·exact jj j (by omega)
theorem arz {rs:List eu}{n:Int}{eF aO:Nat}(h:nj rs n=true)(fh:FE (D rs) (p0 rs) eF aO)(mb:2*eF+aO+1<1200):pU rs n≠([],6):=by
 have O:(pT true rs).2.2=false :=
  ary fh mb (D rs) 0 (g1 rs) (p0 rs) (λj=>j) (by omega) ⟨adW h,Nu _ _ _,λ_=>Iff.rfl⟩ (kD.start _ _) λj ag=>by omega
 unfold pU;rw[Z h,aa (by rw[O];simp)]
 split
 ·simp
 ·simp
theorem arA {rs:List eu}{n:Int}{eF aO:Nat}(h:nj rs n=true)(fh:FE (D rs) (p0 rs) eF aO)(mb:2*eF+aO+1<1200)(Q:¬ AO (D rs) (p0 rs)):
  ∃x,pU rs n=(de (D rs) x,0)/\(∀k,k<(D rs)->dI (x k))/\aeg (D rs) (p0 rs) x:=by
 rcases aru h with e|⟨x,e,-,E,H⟩|⟨y,-,-,-,E,k,J,ak⟩
 ·exact absurd e (arz h fh mb)
 ·exact⟨x,e,E,H⟩
 ·exact absurd ⟨y,E,k,J,by rw[ak];decide⟩ Q
theorem kD.full {N:Nat}{A:ec}(Q:¬ AO N A):∀k p aF dx,p+k=N->pV N aF p p dx->(∀y,hx N aF y↔hx N A y)->kD N A aF p->(∀j,j<p->dx j=j)->∃aF dx,kD N A aF N/\pV N aF N N dx/\(∀j,j<N->dx j=j)/\∀y,hx N aF y↔hx N A y
 |0,p,aF,dx,aC,Y,aZ,X,jj=>by
  obtain rfl:p=N:=by omega
  exact⟨aF,dx,X,Y,jj,aZ⟩
 |k+1,p,aF,dx,aC,Y,aZ,X,jj=>by
  by_cases aR:∀i,p<=i->i<N->aF i p=0
  ·exfalso
   refine Q ⟨rI aF p,(aZ _).1 (ady Y jj (by omega) aR),p,by omega,?_⟩
   unfold rI;rw[aa (by omega),Z rfl]
   decide
  ·have⟨s,hs,h5,vC⟩:∃s,p<=s/\s<N/\aF s p≠0:=by
    apply kC;intro h;exact aR λi E H=>kC λab=>h ⟨i,E,H,ab⟩
   refine kD.full Q k (p+1) (nW aF p p s) (λj=>if j=p then p else dx j) (by omega) (Y.Cr (by omega) hs h5 vC) (λy=>(UX (by omega) h5 vC).trans (aZ y)) (X.step (by omega) hs h5 vC) λj ag=>?_;show (if j=p then p else dx j)=j
   split
   ·omega
   ·exact jj j (by omega)
theorem aen {N δ v:Nat}{A:ec}(Q:¬ AO N A)(dh:s4 N A δ v){x:Nat->Rat}(O:hx N A (ext N x (-1))):∃a5:Nat,0<a5/\a5<=2^(N+δ)/\∀i,i<N->∃z:Int,x i*(a5:Rat)=(z:Rat):=by
 obtain⟨aF,dx,⟨σ,E,x7,H,ab⟩,-⟩:=kD.full Q N 0 A (λj=>j) (by omega) (Nu _ _ _) (λ_=>Iff.rfl) (kD.start _ _) (λj ag=>by omega);refine kD.arq (aF:=λi _=>x i) dh ⟨σ,E,x7,λi L k k6 g8=>?_,ab⟩;obtain rfl:k=N:=by omega
 rw[Z L];have:=O (σ i) (E i L);rw[JH] at this;grind
theorem arB {N:Nat}{A:ec}(Q:¬ AO N A):∃x,hx N A (ext N x (-1)):=by
 obtain⟨aF,dx,-,E,H,ab⟩:=kD.full Q N 0 A (λj=>j) (by omega) (Nu _ _ _) (λ_=>Iff.rfl) (kD.start _ _) (λj ag=>by omega);exact⟨λi=>aF i N,(ab _).1 ((adx E H _).2 λ_ _=>rfl)⟩
end Go.Mini
namespace Go.Mini
open Classical
def Day.W (d:Day)(f:Nat->Nat)(k i:Nat):Rat:=b4 d.cN λc=>if c.to=(i:Int)/\c.ax=k/\c.rk=f k then d.w c else 0
def Day.st (d:Day)(f:Nat->Nat)(i:Nat):Rat:=d.cash i+b4 d.cN λc=>if c.to=(i:Int)/\c.rk<f c.ax then c.am else 0
theorem Day.cT.aeo {d:Day}(X:d.cT)(f:Nat->Nat)(P:Nat->Prop)(x:Nat->Rat)(i:Nat):(b4 d.cN λc=>if c.to=(i:Int) then (if c.rk=f c.ax/\P c.ax then d.w c*x c.ax else 0) else 0)=bw d.n λk=>if P k then d.W f k i*x k else 0:=by
 have e:=U2 (n:=d.n) X.ax λk c=>if c.to=(i:Int) then (if c.rk=f k/\P k then d.w c*x k else 0) else 0;rw[<-e];refine jz λk J=>?_
 by_cases fN:P k
 ·rw[Z fN,uo];unfold Day.W;rw[<-Nw];refine uj λc _=>?_
  by_cases E:c.ax=k
  ·by_cases H:c.to=(i:Int)
   ·by_cases ab:c.rk=f k
    ·rw[Z E,Z H,Z ⟨ab,fN⟩,Z ⟨H,E,ab⟩,uo]
    ·rw[Z E,Z H,aa λh=>ab h.1,aa λh=>ab h.2.2,l8]
   ·rw[Z E,aa H,aa λh=>H h.1,l8]
  ·rw[aa E,aa λh=>E h.2.1,l8]
 ·rw[aa fN];refine Fm λc _=>?_
  split
  ·split
   ·rw[aa λh=>fN h.2]
   ·rfl
  ·rfl
theorem Day.cT.NN {d:Day}(X:d.cT)(f:Nat->Nat)(P:Nat->Prop)(h:Nat->Rat)(i:Nat):d.eG (d.l f P h) i=d.st f i+bw d.n λk=>if P k then d.W f k i*(h k-d.U k (f k)) else 0:=by
 rw[<-X.aeo f P (λk=>h k-d.U k (f k)) i];unfold Day.eG Day.st;rw[Rat.add_assoc,<-Nv]
 congr 1
 refine uj λc _=>?_;unfold Day.l
 by_cases E:c.to=(i:Int)
 ·rw[Z E,Z E]
  by_cases H:c.rk<f c.ax
  ·have ab:c.to=(i:Int)/\c.rk<f c.ax:=⟨E,H⟩;have aM:¬ (c.rk=f c.ax/\P c.ax):=λh=>by have:=h.1;omega
   rw[Z H,Z ab,aa aM,pa]
  ·have ab:¬ (c.to=(i:Int)/\c.rk<f c.ax):=λh=>H h.2;rw[aa H,aa ab,AL]
   by_cases aM:c.rk=f c.ax/\P c.ax
   ·rw[Z aM,Z aM,aM.1]
   ·rw[aa aM,aa aM]
 ·have ab:¬ (c.to=(i:Int)/\c.rk<f c.ax):=λh=>E h.1;rw[aa E,aa ab,aa E,pa]
def Day.y5 (d:Day)(f:Nat->Nat)(P:Nat->Prop):ec:=λi k=>if k<d.n then (if i=k then 1 else 0)-(if P k then d.W f k i else 0) else d.st f i-bw d.n λk=>if P k then d.W f k i*d.U k (f k) else 0
theorem VL {d:Day}(f:Nat->Nat)(P:Nat->Prop)(x:Nat->Rat)(z:Rat){i:Nat}(L:i<d.n):lK d.n (d.y5 f P i) (ext d.n x z)=x i-(bw d.n λk=>if P k then d.W f k i*x k else 0)+(d.st f i-bw d.n λk=>if P k then d.W f k i*d.U k (f k) else 0)*z:=by
 rw[JH]
 congr 1
 ·have e:=xp (n:=d.n) (f:=λk=>if i=k then x k else 0) (j:=i) L λk _ J=>aa (Ne.symm J);rw[Z rfl] at e;rw[<-e,<-Fo];refine jz λk J=>?_;unfold Day.y5;rw[Z J]
  split<;>split<;>grind
 ·unfold Day.y5;rw[aa (by omega)]
theorem aep {d:Day}(X:d.cT)(f:Nat->Nat)(P:Nat->Prop)(h:Nat->Rat):hx d.n (d.y5 f P) (ext d.n h (-1))↔∀i,i<d.n->h i=d.eG (d.l f P h) i:=by
 have e:∀i,(bw d.n λk=>if P k then d.W f k i*(h k-d.U k (f k)) else 0)=(bw d.n λk=>if P k then d.W f k i*h k else 0)-bw d.n λk=>if P k then d.W f k i*d.U k (f k) else 0:=λi=>by
  rw[<-Fo];refine jz λk _=>?_
  split<;>grind
 unfold hx
 constructor
 ·intro dh i L;have:=dh i L;rw[VL f P h _ L] at this;rw[X.NN,e];grind
 ·intro dh i L;have:=dh i L;rw[X.NN,e] at this;rw[VL f P h _ L];grind
structure Good (d:Day) (f:Nat->Nat) (P:Nat->Prop):Prop where
 ok:d.cT
 inv:∃g,Inv d f g
 gN:∀i,P i->i<d.n/\f i<10
 Nz:∀C:Nat->Prop,(∃i,C i)->(∀i,C i->P i)->¬ d.closed f C
theorem Good.aeq {d:Day}{f:Nat->Nat}{P:Nat->Prop}(aU:Good d f P){x:Nat->Rat}(O:∀i,i<d.n->x i=bw d.n λk=>if P k then d.W f k i*x k else 0):∀i,i<d.n->x i=0:=by
 obtain⟨g,L⟩:=aU.inv;exact aqE L aU.ok aU.gN aU.Nz x λi b9=>by rw[aU.ok.aeo f P x i];exact O i b9
theorem Good.aer {d:Day}{f:Nat->Nat}{P:Nat->Prop}(aU:Good d f P):¬ AO d.n (d.y5 f P):=by
 rintro⟨y,ak,k,J,bP⟩;refine bP (aU.aeq (x:=y) (λi L=>?_) k J);have:=ak i L;rw[VL f P y _ L] at this;grind
theorem Good.ex {d:Day}{f:Nat->Nat}{P:Nat->Prop}(aU:Good d f P):∃h:Nat->Rat,∀i,i<d.n->h i=d.eG (d.l f P h) i:=by
 obtain⟨x,O⟩:=arB aU.aer;exact⟨x,(aep aU.ok f P x).1 O⟩
theorem Good.uniq {d:Day}{f:Nat->Nat}{P:Nat->Prop}(aU:Good d f P){h b2:Nat->Rat}(e:∀i,i<d.n->h i=d.eG (d.l f P h) i)(e':∀i,i<d.n->b2 i=d.eG (d.l f P b2) i):∀i,i<d.n->h i=b2 i:=by
 obtain⟨g,L⟩:=aU.inv;exact aqD L aU.ok aU.gN aU.Nz e e'
def Day.eI (d:Day)(f:Nat->Nat)(P:Nat->Prop):Nat->Rat:=if h:∃x:Nat->Rat,∀i,i<d.n->x i=d.eG (d.l f P x) i then yc h else λ_=>0
theorem Good.eI {d:Day}{f:Nat->Nat}{P:Nat->Prop}(aU:Good d f P):∀i,i<d.n->d.eI f P i=d.eG (d.l f P (d.eI f P)) i:=by
 have h:=aU.ex;unfold Day.eI;rw[dif_pos h];exact oQ h
theorem arC {l:List Nat}{a k:Nat}(h:k<D l):(l++[a]).getD k 0=l.getD k 0:=by
 rw[ea,ea,q3 h]
theorem arD (l:List Nat)(a:Nat)(aO:Nat->Rat):bw (l++[a]).length (λk=>aO ((l++[a]).getD k 0))=bw (D l) (λk=>aO (l.getD k 0))+aO a:=by
 rw[hj,List.length_singleton,bw]
 congr 1
 ·refine jz λk J=>?_;rw[arC J]
 ·rw[ea,q4 (bM _),kL];rfl
def ct (P:Nat->Prop)(n:Nat):List Nat:=(dQ n).filter λi=>decide (P i)
theorem NO (P:Nat->Prop)(aO:Nat->Rat):∀n,bw (ct P n).length (λk=>aO ((ct P n).getD k 0))=bw n λk=>if P k then aO k else 0
 |0=>rfl
 |n+1=>by
  have aw:=NO P aO n;unfold ct at aw ⊢;rw[pd,y6]
  by_cases fN:P n
  ·rw[xv (by simpa using fN),s6,arD,aw,bw,Z fN]
  ·rw[xw (by simpa using fN),s6,hO,aw,bw,aa fN,pa]
theorem vE {P:Nat->Prop}{n k:Nat}(h:k<(ct P n).length):(ct P n).getD k 0<n/\P ((ct P n).getD k 0):=by
 have hm:(ct P n).getD k 0∈ct P n:=by
  rw[ea,bx h];exact n7 h
 unfold ct at hm ⊢;rw[Fw,hn,decide_eq_true_eq] at hm;exact hm
def Day.s7 (d:Day)(f:Nat->Nat)(p:List Nat):ec:=λi k=>if k<(D p) then (if i=k then 1 else 0)-d.W f (p.getD k 0) (p.getD i 0) else d.st f (p.getD i 0)-d.U (p.getD i 0) (f (p.getD i 0))
theorem aes {d:Day}(f:Nat->Nat)(p:List Nat)(x:Nat->Rat)(z:Rat){i:Nat}(L:i<D p):lK (D p) (d.s7 f p i) (ext (D p) x z)=x i-(bw (D p) λk=>d.W f (p.getD k 0) (p.getD i 0)*x k)+(d.st f (p.getD i 0)-d.U (p.getD i 0) (f (p.getD i 0)))*z:=by
 rw[JH]
 congr 1
 ·have e:=xp (n:=D p) (f:=λk=>if i=k then x k else 0) (j:=i) L λk _ J=>aa (Ne.symm J);rw[Z rfl] at e;rw[<-e,<-Fo];refine jz λk J=>?_;unfold Day.s7;rw[Z J]
  split<;>grind
 ·unfold Day.s7;rw[aa (by omega)]
theorem Good.small {d:Day}{f:Nat->Nat}{P:Nat->Prop}(aU:Good d f P):¬ AO (ct P d.n).length (d.s7 f (ct P d.n)):=by
 rintro⟨y,ak,k,J,bP⟩
 have E:∀r,r<(ct P d.n).length->y r=bw (ct P d.n).length λk=>d.W f ((ct P d.n).getD k 0) ((ct P d.n).getD r 0)*y k:=λr Y=>by
  have:=ak r Y;rw[aes f _ y _ Y] at this;grind
 have H:=aU.aeq (x:=λi=>bw (ct P d.n).length λk=>d.W f ((ct P d.n).getD k 0) i*y k) (λi L=>by
  rw[<-NO P (λk=>d.W f k i*bw (ct P d.n).length λk'=>d.W f ((ct P d.n).getD k' 0) k*y k') d.n];exact jz λr Y=>by rw[E r Y]) ((ct P d.n).getD k 0) (vE J).1
 refine bP ?_;rw[E k J];exact H
theorem Good.aet {d:Day}{f:Nat->Nat}{P:Nat->Prop}(aU:Good d f P):hx (ct P d.n).length (d.s7 f (ct P d.n)) (ext (ct P d.n).length (λk=>d.eI f P ((ct P d.n).getD k 0)-d.U ((ct P d.n).getD k 0) (f ((ct P d.n).getD k 0))) (-1)):=by
 intro r Y;rw[aes f _ _ _ Y,NO P (λk=>d.W f k ((ct P d.n).getD r 0)*(d.eI f P k-d.U k (f k))) d.n];have:=aU.eI _ (vE Y).1;rw[aU.ok.NN] at this;grind
theorem Good.aeu {d:Day}{f:Nat->Nat}{P:Nat->Prop}(aU:Good d f P){i:Nat}(L:i<d.n):d.eI f P i=d.st f i+bw (ct P d.n).length λk=>d.W f ((ct P d.n).getD k 0) i*(d.eI f P ((ct P d.n).getD k 0)-d.U ((ct P d.n).getD k 0) (f ((ct P d.n).getD k 0))):=by
 rw[NO P (λk=>d.W f k i*(d.eI f P k-d.U k (f k))) d.n,<-aU.ok.NN];exact aU.eI i L
theorem hZ.good {d:Day}(X:d.cT){f:Nat->Nat}{g:Nat->Rat}(L:Inv d f g){P:Nat->Prop}{h:Nat->Rat}(aC:hZ d f g P h):Good d f P:=⟨X,⟨g,L⟩,aC.gN,aC.Nz⟩
theorem Good.none {d:Day}(X:d.cT){f:Nat->Nat}{g:Nat->Rat}(L:Inv d f g):Good d f λ_=>False:=⟨X,⟨g,L⟩,λ_ h=>h.elim,λ_ ⟨i,h⟩ b2=>(b2 i h).elim⟩
theorem hZ.first {d:Day}(X:d.cT){f:Nat->Nat}{g:Nat->Rat}(L:Inv d f g):hZ d f g (λ_=>False) (d.eI f λ_=>False):=hZ.start X L (Good.none X L).eI
theorem hZ.succ {d:Day}(X:d.cT){f:Nat->Nat}{g:Nat->Rat}(L:Inv d f g){P:Nat->Prop}{h:Nat->Rat}(aC:hZ d f g P h):hZ d f g (rH d f P h) (d.eI f (rH d f P h)):=aC.next X L (Good.eI ⟨X,⟨g,L⟩,aC.Ft,aC.ado X L⟩)
def idle (d:Day)(P:Nat->Prop):Nat:=lL d.n λi=>if P i then 0 else 1
theorem aev {d:Day}{f:Nat->Nat}{P:Nat->Prop}{h:Nat->Rat}{i:Nat}(L:i<d.n)(aJ:f i<10)(kY:d.U i (f i)<h i)(fN:¬ P i):idle d (rH d f P h)<idle d P:=by
 refine Vj (j:=i) (λj _=>?_) L ?_
 ·by_cases ag:P j
  ·have E:rH d f P h j:=Or.inl ag;rw[Z E,Z ag];exact bM _
  ·rw[aa ag];split<;>omega
 ·have E:rH d f P h i:=Or.inr ⟨L,aJ,kY⟩;rw[Z E,aa fN];omega
theorem hZ.top {d:Day}(X:d.cT){f:Nat->Nat}{g:Nat->Rat}(L:Inv d f g):∀m (P:Nat->Prop) (h:Nat->Rat),idle d P<=m->hZ d f g P h->∃h,mK d f h
 |m,P,h,hm,aC=>by
  by_cases Q:∀i,i<d.n->f i<10->d.U i (f i)<h i->P i
  ·exact⟨h,g,L,aC.stop X L Q,aC.le⟩
  ·have⟨i,E,H,ab,aM⟩:∃i,i<d.n/\f i<10/\d.U i (f i)<h i/\¬ P i:=by
    apply kC;intro aG;exact Q λi E H ab=>kC λaM=>aG ⟨i,E,H,ab,aM⟩
   have ao:=aev (h:=h) E H ab aM
   cases m with
   |zero=>omega
   |succ m=>exact hZ.top X L m _ _ (by omega) (aC.succ X L)
theorem arE {d:Day}(X:d.cT){f:Nat->Nat}(Y:Reach d f):∃h,mK d f h:=by
 obtain⟨g,L,-⟩:=Y;exact hZ.top X L _ _ _ (bM _) (hZ.first X L)
theorem hZ.aew {d:Day}(X:d.cT){f:Nat->Nat}{g:Nat->Rat}(L:Inv d f g){P:Nat->Prop}{h:Nat->Rat}(aC:hZ d f g P h)(Q:∀i,i<d.n->f i<10->d.U i (f i)<h i->P i):∀i,i<d.n->h i=d.top f i :=
 have bI:mK d f h:=⟨g,L,aC.stop X L Q,aC.le⟩
 bI.unique X (Day.Cw ⟨h,bI⟩)
end Go.Mini
namespace Go.Mini
open Classical
def eJ (a5:Nat)(x:Rat):Prop:=∃z:Int,x*(a5:Rat)=(z:Rat)
theorem eJ.add {a5:Nat}{x y:Rat}(O:eJ a5 x)(ak:eJ a5 y):eJ a5 (x+y):=by
 obtain⟨a,aZ⟩:=O;obtain⟨b,ad⟩:=ak;exact⟨a+b,by rw[sZ,<-aZ,<-ad];grind⟩
theorem eJ.sub {a5:Nat}{x y:Rat}(O:eJ a5 x)(ak:eJ a5 y):eJ a5 (x-y):=by
 obtain⟨a,aZ⟩:=O;obtain⟨b,ad⟩:=ak;exact⟨a-b,by rw[y4,<-aZ,<-ad];grind⟩
theorem eJ.mul {a5 N:Nat}{x y:Rat}(O:eJ a5 x)(ak:eJ N y):eJ (a5*N) (x*y):=by
 obtain⟨a,aZ⟩:=O;obtain⟨b,ad⟩:=ak;exact⟨a*b,by rw[pZ,<-aZ,<-ad,NM];grind⟩
theorem eJ.int (a5:Nat)(z:Int):eJ a5 (z:Rat):=⟨z*a5,by rw[pZ,nm]⟩
theorem eJ.zero (a5:Nat):eJ a5 0:=⟨0,by rw[y2];rfl⟩
theorem eJ.more {a5:Nat}{x:Rat}(h:eJ a5 x)(N:Nat):eJ (a5*N) x:=by
 obtain⟨a,aZ⟩:=h;exact⟨a*N,by rw[pZ,<-aZ,NM,nm];grind⟩
theorem eJ.of_dvd {a5 N:Nat}{x:Rat}(h:eJ a5 x)(X:∃m,N=a5*m):eJ N x:=by
 obtain⟨m,rfl⟩:=X;exact h.more m
theorem eJ.b4 {a5:Nat}{l:List dL}{aO:dL->Rat}(h:∀c∈l,eJ a5 (aO c)):eJ a5 (b4 l aO):=by
 induction l with
 |nil=>exact eJ.zero a5
 |cons c l aw=>exact (h c ha).add (aw λx O=>h x (hY _ O))
theorem eJ.bw {a5 n:Nat}{aO:Nat->Rat}(h:∀k,k<n->eJ a5 (aO k)):eJ a5 (bw n aO):=by
 induction n with
 |zero=>exact eJ.zero a5
 |succ n aw=>exact (aw λk J=>h k (by omega)).add (h n (by omega))
theorem eJ.sz {a5 a e:Nat}{x:Rat}(h:eJ a5 x)(l0:0<a5)(JS:a5<=2^a)(ai:0<=x)(O:x<=((2^e:Nat):Rat)):eB (a+e) x:=by
 obtain⟨z,aR⟩:=h;have tw:(0:Rat)<=(z:Rat):=by rw[<-aR];exact U5 ai (by exact_mod_cast fr a5)
 have arF:(z:Rat)<=((2^e*a5:Nat):Rat):=by
  rw[<-aR,NM];exact Rat.mul_le_mul_of_nonneg_right O (by exact_mod_cast fr a5)
 have e5:0<=z:=by exact_mod_cast tw
 have cF:z<=((2^e*a5:Nat):Int):=by exact_mod_cast arF
 obtain⟨f1,f2⟩:=AG (q:=x) (v:=z) (d:=(a5:Int)) (by omega) (by rw[nm];exact aR);rw[l5] at f2;have dk:z.natAbs<=2^e*a5:=by omega
 refine⟨ey f1 (ey dk ?_),ey f2 (ey JS (wP (by omega) (by omega)))⟩;rw[xu,si (2^a)];exact Nat.mul_le_mul_left _ JS
structure fF (cash:List Int) (cs:List ar):Prop where
 right:hI cash cs=true
 k7:(D cash)<=6
 vF:(D cs)<=12
 am:∀c∈cs,c.2.2.2<=1000000000000000
theorem fF.ok {cash:List Int}{cs:List ar}(h:fF cash cs):(aB cash cs).cT:=JG h.right
theorem fF.sum {cash:List Int}{cs:List ar}(h:fF cash cs)(p:ar->Prop)[DecidablePred p]:0<=ck cs (λc=>if p c then c.2.2.2 else 0)/\ck cs (λc=>if p c then c.2.2.2 else 0)<=12000000000000000:=by
 have:=Vl (cs:=cs) (aO:=λc=>if p c then c.2.2.2 else 0) (B:=1000000000000000) (by omega) λc G=>by
  have E:=h.am c G;have H:=((g2.1 h.right).2.2.2 c G).2.2.2.2.2.2.1
  try dsimp only
  split<;>omega
 have hS:=h.vF;omega
theorem fF.upto {cash:List Int}{cs:List ar}(h:fF cash cs)(i r:Int):0<=ca cs i r/\ca cs i r<=12000000000000000:=h.sum λc=>c.1=i/\c.2.2.1<r
theorem arG {cash:List Int}{cs:List ar}(h:hI cash cs=true)(i:Int){r s:Int}(x8:r<=s):ca cs i r<=ca cs i s:=by
 have aM:=(g2.1 h).2.2.2
 have:∀l:List ar,(∀c∈l,0<=c.2.2.2)->ck l (λc=>if c.1=i/\c.2.2.1<r then c.2.2.2 else 0)<=ck l (λc=>if c.1=i/\c.2.2.1<s then c.2.2.2 else 0):=by
  intro l
  induction l with
  |nil=>intro _;exact FG _
  |cons c l aw =>
   intro aq;have E:=aw λx O=>aq x (hY _ O);have H:=aq c ha;simp only[ck]
   split<;>split<;>omega
 exact this cs λc G=>(aM c G).2.2.2.2.2.2.1
def hJ (cs:List ar)(k r:Nat):Nat:=(ca cs k (r+1:Nat)-ca cs k r).toNat
theorem CD {cash:List Int}{cs:List ar}(h:hI cash cs=true)(k r:Nat):((hJ cs k r:Nat):Rat)=(aB cash cs).S k r:=by
 have E:=ND h k r;have H:=arG h k (r:=r) (s:=(r+1:Nat)) (by omega);rw[<-E,<-nm];unfold hJ;rw[Int.toNat_of_nonneg (by omega)]
theorem fF.CE {cash:List Int}{cs:List ar}(h:fF cash cs)(k r:Nat):hJ cs k r<=2^54:=by
 have E:=h.upto k (r+1:Nat);have H:=h.upto k r;unfold hJ;omega
def oz (cs:List ar)(f:Nat->Nat)(k i:Nat):Int:=ck cs λc=>if c.2.1=(i:Int)/\c.1=(k:Int)/\c.2.2.1=(f k:Int) then c.2.2.2 else 0
theorem arH {cash:List Int}{cs:List ar}(h:hI cash cs=true)(f:Nat->Nat){k:Nat}(i:Nat)(cv:0<(aB cash cs).S k (f k)):(aB cash cs).W f k i*(aB cash cs).S k (f k)=((oz cs f k i:Int):Rat):=by
 unfold Day.W oz
 rw[NC cs _ (λc=>if c.to=(i:Int)/\c.ax=k/\c.rk=f k then c.am else 0) λc G=>by
  have:=(g2.1 h).2.2.2 c G;show ((if c.2.1=(i:Int)/\c.1=(k:Int)/\c.2.2.1=(f k:Int) then c.2.2.2 else 0:Int):Rat)=if c.2.1=(i:Int)/\c.1.toNat=k/\c.2.2.1.toNat=f k then (c.2.2.2:Rat) else 0
  by_cases E:c.2.1=(i:Int)/\c.1=(k:Int)/\c.2.2.1=(f k:Int)
  ·rw[Z E,Z (by omega)]
  ·rw[aa E,aa (by omega)];rfl]
 rw[uo,<-Nw];refine uj λc _=>?_
 split
 ·rename_i E;rw[uo];have aA:=E.2.1;have ay:=E.2.2;subst aA;rw[<-ay] at cv ⊢;exact Day.Fq cv
 ·rw[l8]
theorem JT {cash:List Int}{cs:List ar}(h:hI cash cs=true)(f:Nat->Nat)(i:Nat):((kg cash cs f i:Int):Rat)=(aB cash cs).st f i:=by
 unfold kg Day.st;rw[sZ]
 congr 1
 refine NC cs _ (λc=>if c.to=(i:Int)/\c.rk<f c.ax then c.am else 0) λc G=>?_;have:=(g2.1 h).2.2.2 c G;show ((if c.2.1=(i:Int)/\c.2.2.1<(f c.1.toNat:Int) then c.2.2.2 else 0:Int):Rat)=if c.2.1=(i:Int)/\c.2.2.1.toNat<f c.1.toNat then (c.2.2.2:Rat) else 0
 by_cases E:c.2.1=(i:Int)/\c.2.2.1<(f c.1.toNat:Int)
 ·rw[Z E,Z (by omega)]
 ·rw[aa E,aa (by omega)];rfl
theorem fF.cash {cash:List Int}{cs:List ar}(h:fF cash cs)(i:Nat):0<=cash.getD i 0/\cash.getD i 0<=1000000000000000:=by
 rw[ea]
 cases L:cash[i]? with
 |none=>simp
 |some x=>exact (g2.1 h.right).2.2.1 x (eU L)
theorem fF.steady {cash:List Int}{cs:List ar}(h:fF cash cs)(f:Nat->Nat)(i:Nat):0<=kg cash cs f i/\kg cash cs f i<=13000000000000000:=by
 have E:=h.cash i;have H:=h.sum λc=>c.2.1=(i:Int)/\c.2.2.1<(f c.1.toNat:Int);unfold kg;omega
theorem aex (n:Nat)(a b:Nat->Nat):fY n (λi=>a i+b i)=fY n a+fY n b:=by
 induction n with
 |zero=>rfl
 |succ n aw=>simp only[fY,aw];omega
theorem VM {n:Nat}{a:Nat->Nat}(h:∀i,i<n->a i=0):fY n a=0:=by
 induction n with
 |zero=>rfl
 |succ n aw=>rw[fY,aw λi L=>h i (by omega),h n (by omega)]
theorem aey {n b e:Nat}{bR:Nat->Nat}(h:∀k,k<n->bR k<=2^b)(he:n*b<=e):h9 n bR<=2^e:=ey (Vw h) (wP (by omega) he)
theorem VN {n x:Nat}{p:Nat->Prop}[DecidablePred p](h:∀i j,p i->p j->i=j):fY n (λi=>if p i then x else 0)<=x:=by
 induction n with
 |zero=>exact fr _
 |succ n aw =>
  rw[fY]
  by_cases aC:p n
  ·rw[Z aC,VM λi L=>aa λE=>by have:=h i n E aC;omega]
   omega
  ·rw[aa aC];omega
theorem aez {cs:List ar}{aO:ar->Int}(h:∀c∈cs,0<=aO c):0<=ck cs aO:=by
 induction cs with
 |nil=>exact FG _
 |cons c l aw =>
  have E:=aw λx O=>h x (hY _ O);have H:=h c ha;simp only[ck];omega
theorem aeA {cs:List ar}(h:∀c∈cs,0<=c.2.2.2)(f:Nat->Nat)(k i:Nat):0<=oz cs f k i:=aez λc G=>by
 have:=h c G
 split<;>omega
theorem arI {cs:List ar}(h:∀c∈cs,0<=c.2.2.2)(k r:Nat):hJ cs k r=(ck cs λc=>if c.1=(k:Int)/\c.2.2.1=(r:Int) then c.2.2.2 else 0).toNat:=by
 unfold hJ ca
 congr 1
 induction cs with
 |nil=>rfl
 |cons c l aw =>
  have E:=aw λx O=>h x (hY _ O);simp only[ck]
  have e:(if c.1=(k:Int)/\c.2.2.1<((r+1:Nat):Int) then c.2.2.2 else 0)-(if c.1=(k:Int)/\c.2.2.1<(r:Int) then c.2.2.2 else 0)=if c.1=(k:Int)/\c.2.2.1=(r:Int) then c.2.2.2 else 0:=by
   (repeat' split)<;>omega
  omega
theorem arJ {cs:List ar}(h:∀c∈cs,0<=c.2.2.2)(f:Nat->Nat)(k N:Nat):fY N (λi=>(oz cs f k i).toNat)<=hJ cs k (f k):=by
 rw[arI h]
 induction cs with
 |nil=>exact ey (xo (VM λi _=>rfl)) (fr _)
 |cons c l aw =>
  have aq:=λx O=>h x (hY c O);have E:=aw aq;have H:=h c ha
  have e:fY N (λi=>(oz (c::l) f k i).toNat)=fY N (λi=>if c.2.1=(i:Int)/\c.1=(k:Int)/\c.2.2.1=(f k:Int) then c.2.2.2.toNat else 0)+fY N λi=>(oz l f k i).toNat:=by
   rw[<-aex];refine Vs λi _=>?_;have:=aeA aq f k i;have aA:oz (c::l) f k i=(if c.2.1=(i:Int)/\c.1=(k:Int)/\c.2.2.1=(f k:Int) then c.2.2.2 else 0)+oz l f k i:=rfl;rw[aA]
   split<;>omega
  have aM:0<=ck l λc=>if c.1=(k:Int)/\c.2.2.1=(f k:Int) then c.2.2.2 else 0:=aez λc G=>by
   have:=aq c G
   split<;>omega
  have ab:fY N (λi=>if c.2.1=(i:Int)/\c.1=(k:Int)/\c.2.2.1=(f k:Int) then c.2.2.2.toNat else 0)<=if c.1=(k:Int)/\c.2.2.1=(f k:Int) then c.2.2.2.toNat else 0:=by
   by_cases G:c.1=(k:Int)/\c.2.2.1=(f k:Int)
   ·rw[Z G];exact VN λi j L ag=>by omega
   ·rw[aa G,VM λi _=>aa λh=>G h.2];exact bM _
  simp only[ck];rw[e]
  split at ab<;>rename_i G
  ·rw[Z G];omega
  ·rw[aa G];omega
section
variable {cash:List Int} {cs:List ar} (Q:fF cash cs) {f:Nat->Nat} {P:Nat->Prop} (cv:∀k,P k->0<(aB cash cs).S k (f k))
include Q cv
theorem NP {k:Nat}(J:P k):0<hJ cs k (f k):=by
 have E:=cv k J;rw[<-CD Q.right] at E;exact_mod_cast E
theorem aeB {k:Nat}(J:P k)(i:Nat):((hJ cs k (f k):Nat):Rat)*(aB cash cs).W f k i=((oz cs f k i:Int):Rat):=by
 rw[CD Q.right,uo];exact arH Q.right f i (cv k J)
theorem aeC {k:Nat}(J:P k)(i:Nat)(p:Prop)[Decidable p]:eg ((if p then hJ cs k (f k) else 0)+(oz cs f k i).toNat) (((hJ cs k (f k):Nat):Rat)*((if p then 1 else 0)-(aB cash cs).W f k i)):=by
 have e:((hJ cs k (f k):Nat):Rat)*((if p then 1 else 0)-(aB cash cs).W f k i)=((if p then hJ cs k (f k) else 0:Nat):Rat)-((oz cs f k i:Int):Rat):=by
  rw[<-aeB Q cv J i]
  split<;>grind
 have H:=aeA (λc G=>((g2.1 Q.right).2.2.2 c G).2.2.2.2.2.2.1) f k i;rw[e];exact (eg.nat (bM _)).sub (eg.of (by omega))
omit cv in
theorem aeD {N:Nat}{k:Nat}(τ:Nat->Nat)(t:Nat)(hτ:∀i,i<N->τ i<D cash)(ag:∀i j,i<N->j<N->τ i=τ j->i=j):fY N (λi=>(if i=t then hJ cs k (f k) else 0)+(oz cs f k (τ i)).toNat)<=2*hJ cs k (f k):=by
 rw[aex];have E:fY N (λi=>if i=t then hJ cs k (f k) else 0)<=hJ cs k (f k):=VN λi j L ag=>by omega
 have H:=Vt (λi=>(oz cs f k i).toNat) hτ ag;have ab:=arJ (λc G=>((g2.1 Q.right).2.2.2 c G).2.2.2.2.2.2.1) f k (D cash);omega
omit cv in
theorem aeE (i:Nat):(kg cash cs f i-ca cs (i:Nat) (f i)).natAbs<=2^54/\(kg cash cs f i).natAbs<=2^54:=by
 have E:=Q.steady f i;have H:=Q.upto (i:Nat) (f i);omega
theorem arK:s4 (D cash) ((aB cash cs).y5 f P) (D cash*54) 54:=by
 have kS:(aB cash cs).n=D cash:=rfl;refine⟨λk=>if P k then hJ cs k (f k) else 1,λk=>if P k then ca cs k (f k) else 0,λi=>kg cash cs f i-if P i then ca cs i (f i) else 0,Vw λk _=>?_,λk=>?_,λk J=>?_,λk _=>?_,λi L=>⟨?_,?_⟩⟩
 ·try dsimp only
  split
  ·exact Q.CE k _
  ·decide
 ·try dsimp only
  split
  ·exact NP Q cv (by assumption)
  ·omega
 ·by_cases fN:P k
  ·refine⟨λi=>(if i=k then hJ cs k (f k) else 0)+(oz cs f k i).toNat,by dsimp only;rw[Z fN];exact aeD Q (λi=>i) k (λi L=>L) λi j _ _ h=>h,λi L=>?_⟩
   unfold Day.y5;dsimp only;rw[Z fN,Z (show k<(aB cash cs).n from J),Z fN];exact aeC Q cv fN i _
  ·refine⟨λi=>if i=k then 1 else 0,by dsimp only;rw[aa fN];exact ey (VN λi j L ag=>by omega) (by omega),λi L=>?_⟩
   unfold Day.y5;dsimp only;rw[aa fN,Z (show k<(aB cash cs).n from J),aa fN];have:(((1:Nat):Rat)*((if i=k then 1 else 0)-0))=((if i=k then 1 else 0:Nat):Rat):=by split<;>simp<;>grind
   rw[this];exact eg.nat (bM _)
 ·try dsimp only
  split
  ·have:=Q.upto (k:Nat) (f k);omega
  ·decide
 ·have:=aeE Q (f:=f) i;dsimp only
  split
  ·exact this.1
  ·rw[Int.sub_zero];exact this.2
 ·unfold Day.y5;rw[aa (by rw[kS];omega),kS]
  have aA:(λk=>(if k<(D cash) then (if i=k then 1 else 0)-(if P k then (aB cash cs).W f k i else 0) else (aB cash cs).st f i-bw (D cash) λk=>if P k then (aB cash cs).W f k i*(aB cash cs).U k (f k) else 0)*((if P k then ca cs k (f k) else 0:Int):Rat))=λk=>(if k<(D cash) then (if i=k then ((if P k then ca cs k (f k) else 0:Int):Rat) else 0)-(if P k then (aB cash cs).W f k i*(aB cash cs).U k (f k) else 0) else ((aB cash cs).st f i-bw (D cash) λk=>if P k then (aB cash cs).W f k i*(aB cash cs).U k (f k) else 0)*((if P k then ca cs k (f k) else 0:Int):Rat)):=by
   funext k
   by_cases E:k<D cash
   ·rw[Z E,Z E]
    by_cases H:P k
    ·rw[Z H,Z H,Z H,<-s0 Q.right k (f k)]
     split<;>grind
    ·rw[aa H,aa H,aa H]
     split<;>simp<;>grind
   ·rw[aa E,aa E]
  rw[aA];rw[jz (g:=λk=>(if i=k then ((if P k then ca cs k (f k) else 0:Int):Rat) else 0)-(if P k then (aB cash cs).W f k i*(aB cash cs).U k (f k) else 0)) λk J=>Z J];rw[Fo,xp L λk _ J=>aa (Ne.symm J),Z rfl,y4,JT Q.right];grind
theorem VO (p:List Nat)(aC:∀k,k<(D p)->P (p.getD k 0)/\p.getD k 0<D cash)(ag:∀i j,i<(D p)->j<(D p)->p.getD i 0=p.getD j 0->i=j):s4 (D p) ((aB cash cs).s7 f p) (D p*54) 54:=by
 refine⟨λk=>if k<(D p) then hJ cs (p.getD k 0) (f (p.getD k 0)) else 1,λ_=>0,λi=>kg cash cs f (p.getD i 0)-ca cs (p.getD i 0:Nat) (f (p.getD i 0)),Vw λk J=>?_,λk=>?_,λk J=>?_,λk _=>fr _,λi L=>⟨?_,?_⟩⟩
 ·try dsimp only
  rw[Z J];exact Q.CE _ _
 ·try dsimp only
  split
  ·exact NP Q cv (aC k (by assumption)).1
  ·omega
 ·refine⟨λi=>(if i=k then hJ cs (p.getD k 0) (f (p.getD k 0)) else 0)+(oz cs f (p.getD k 0) (p.getD i 0)).toNat,by dsimp only;rw[Z J];exact aeD Q (λi=>p.getD i 0) k (λi L=>(aC i L).2) ag,λi L=>?_⟩
  unfold Day.s7;dsimp only;rw[Z J,Z J];exact aeC Q cv (aC k J).1 _ _
 ·exact (aeE Q _).1
 ·unfold Day.s7;rw[aa (by omega),rG λk _=>by rw[show ((0:Int):Rat)=0 from rfl,l8],AL,y4,JT Q.right,s0 Q.right]
end
end Go.Mini
namespace Go.Mini
open Go Classical
theorem mc {b:Nat}{q:Rat}(h:eB b q)(ad:b<1200):dI q:=by
 obtain⟨B,fh,fD⟩:=adY;have:2^b<dH:=by rw[fD];exact adZ (by omega) (by omega)
 exact⟨sw h.1 this,sw h.2 this⟩
def rowsOf (N:Nat)(A:ec):List eu:=(dQ N).map λi=>(de N (A i),aE (A i N))
theorem AP (N:Nat)(A:ec):(rowsOf N A).length=N:=by simp[rowsOf]
theorem aeF {N i:Nat}(A:ec)(h:i<N):(rowsOf N A)[i]?=some (de N (A i),aE (A i N)):=by
 unfold rowsOf;rw[bd,r0 h];rfl
theorem arL {N i k:Nat}(A:ec)(L:i<N)(J:k<=N):p0 (rowsOf N A) i k=A i k:=by
 unfold p0;rw[adV (aeF A L),AP]
 by_cases h:k<N
 ·rw[Z h,ea,uq _ h,Option.getD_some,B7]
 ·rw[aa h,B7,show k=N by omega]
theorem NQ {x:Rat}(h:dI x):eV (aE x)=true:=(IU _).2 ⟨x,h,rfl⟩
theorem arM {N:Nat}{A:ec}(gB:N<=40)(aq:∀i,i<N->∀k,k<=N->dI (A i k)):nj (rowsOf N A) N=true:=by
 unfold nj
 have ab:(rowsOf N A).any (nU N)=false:=by
  rw[Fg];intro r Y;obtain⟨i,L,rfl⟩:=fI.1 Y;have L:=hn.1 L;unfold nU Ch;simp only[p2,beq_self_eq_true,iy,NQ (aq i L N (bM _))]
  have:(de N (A i)).any (λf => !eV f)=false:=by
   rw[Fg];intro f aJ;unfold de at aJ;obtain⟨x,O,rfl⟩:=fI.1 aJ;obtain⟨k,J,rfl⟩:=fI.1 O;rw[NQ (aq i L k (by have:=hn.1 J;omega))]
   decide
  rw[this];decide
 rw[ab,AP];simp only[e3,Ck,decide_eq_false_iff_not,beq_self_eq_true,Bool.not_false,and_true];omega
theorem arN {N:Nat}{A:ec}(gB:N<=40)(aq:∀i,i<N->∀k,k<=N->dI (A i k)):qD (rowsOf N A):=by
 refine⟨by rw[AP];omega,λr Y=>?_⟩
 obtain⟨i,L,rfl⟩:=fI.1 Y;have L:=hn.1 L;exact⟨VJ gB λk J=>aq i L k (by omega),o4 (aq i L N (bM _))⟩
theorem aeG {N:Nat}{a b y:Nat->Rat}(h:∀k,k<=N->a k=b k):lK N a y=lK N b y:=jz λk J=>by rw[h k (by omega)]
theorem hx.congr {N:Nat}{A B:ec}(h:∀i,i<N->∀k,k<=N->A i k=B i k)(y:Nat->Rat):hx N A y↔hx N B y:=by
 unfold hx
 constructor
 ·intro dh i L;rw[<-aeG (h i L)];exact dh i L
 ·intro dh i L;rw[aeG (h i L)];exact dh i L
theorem s4.congr {N δ v:Nat}{A B:ec}(h:∀i,i<N->∀k,k<=N->A i k=B i k)(Q:s4 N A δ v):s4 N B δ v:=by
 obtain⟨bR,u,w,c5,dK,fl,fP,nX⟩:=Q;refine⟨bR,u,w,c5,dK,λk J=>?_,fP,λi L=>⟨(nX i L).1,?_⟩⟩
 ·obtain⟨b,dR,gQ⟩:=fl k J;exact⟨b,dR,λi L=>by rw[<-h i L k (by omega)];exact gQ i L⟩
 ·rw[<-h i L N (bM _),(nX i L).2,jz λk J=>by rw[h i L k (by omega)]]
theorem s4.sz {N δ v:Nat}{A:ec}(Q:s4 N A δ v)(gB:N<=7){i k:Nat}(L:i<N)(J:k<=N):eB (N+δ+v+4) (A i k):=(Q.aef gB A 0 (fr _) (kD.start N A) i k L (fr _) J).1
theorem arO {N:Nat}{A:ec}(gB:N<=6)(Q:s4 N A (N*54) 54)(arP:¬ AO N A){x:Nat->Rat}(O:hx N A (ext N x (-1))):
  pU (rowsOf N A) N=(de N x,0)/\nj (rowsOf N A) N=true/\∀k,k<N->dI (x k):=by
 have aq:∀i,i<N->∀k,k<=N->dI (A i k):=λi L k J=>mc (Q.sz (by omega) L J) (by omega);have Y:=arM (by omega) aq;have G:∀i,i<N->∀k,k<=N->A i k=p0 (rowsOf N A) i k:=λi L k J=>(arL A L J).symm;have hE:=(Q.congr G).aef (by omega)
 have arQ:¬ AO N (p0 (rowsOf N A)):=by
  rintro⟨y,ak,h⟩;exact arP ⟨y,(hx.congr G _).2 ak,h⟩
 obtain⟨y,aA,ay,cV⟩:=arA (rs:=rowsOf N A) (n:=N) (eF:=N+N*54+54+4) (aO:=N+N*54) Y (by rw[AP];exact hE) (by omega) (by rw[AP];exact arQ);rw[AP] at aA ay cV;have mB:∀k,k<N->x k=y k:=λk J=>(cV.1 x).1 ((hx.congr G _).1 O) k J;exact⟨by rw[aA,FF λk J=>(mB k J).symm],Y,λk J=>by rw[mB k J];exact ay k J⟩
theorem VP {P:Nat->Prop}{n i j:Nat}(L:i<(ct P n).length)(ag:j<(ct P n).length)(h:(ct P n).getD i 0=(ct P n).getD j 0):i=j:=by
 have aG:(ct P n).Pairwise (·≠·):=List.Pairwise.filter _ ac0;rw[List.pairwise_iff_getElem] at aG;rw[ea,ea,bx L,bx ag] at h;rcases Nat.lt_trichotomy i j with E|E|E
 ·exact absurd h (aG i j L ag E)
 ·exact E
 ·exact absurd h.symm (aG j i ag L E)
structure rJ (d:Day) (f:Nat->Nat) (P:Nat->Prop):Prop where
 ok:d.cT
 ex:∃g,Inv d f g/\hZ d f g P (d.eI f P)
theorem rJ.good {d:Day}{f:Nat->Nat}{P:Nat->Prop}(h:rJ d f P):Good d f P:=by
 obtain⟨E,g,H,ab⟩:=h;exact ab.good E H
theorem rJ.qI {d:Day}{f:Nat->Nat}{P:Nat->Prop}(h:rJ d f P):∀k,P k->0<d.S k (f k):=by
 obtain⟨E,g,H,ab⟩:=h;exact λk J=>H.qI (ab.gN k J).1 (ab.gN k J).2
theorem rJ.gt {d:Day}{f:Nat->Nat}{P:Nat->Prop}(h:rJ d f P):∀k,P k->d.U k (f k)<d.eI f P k:=by
 obtain⟨E,g,H,ab⟩:=h;exact ab.ge
theorem hZ.aeH {d:Day}(X:d.cT){f:Nat->Nat}{g:Nat->Rat}{P:Nat->Prop}{h:Nat->Rat}(L:Inv d f g)(aC:hZ d f g P h){c:dL}(G:c∈d.cN):0<=d.l f P h c/\d.l f P h c<=c.am:=by
 have ai:=X.am c G
 by_cases E:c.rk<f c.ax
 ·rw[Day.adl E];exact⟨ai,fQ⟩
 ·by_cases H:c.rk=f c.ax/\P c.ax
  ·rw[Day.adm H.1 H.2];have aA:=aC.ge _ H.2;have ay:=aC.le _ (X.ax c G);have cV:=L.L _ (X.ax c G) (aC.gN _ H.2).2;rw[d.xr] at cV;rw[H.1];exact⟨sV (X.pX G) (by grind),X.NA G (by rw[H.1];grind)⟩
  ·rw[Day.U8 E H];exact⟨fQ,ai⟩
theorem rJ.range {d:Day}{f:Nat->Nat}{P:Nat->Prop}(h:rJ d f P){i:Nat}(L:i<d.n):0<=d.eI f P i/\d.eI f P i<=d.eG (λc=>c.am) i:=by
 obtain⟨E,g,H,ab⟩:=h;rw[ab.sys i L];exact⟨E.Vb (λc G=>(ab.aeH E H G).1) L,d.Cv (λc G=>(ab.aeH E H G).2) i⟩
theorem arR {cash:List Int}{cs:List ar}(Q:fF cash cs)(i:Nat):(aB cash cs).eG (λc=>c.am) i<=((2^54:Nat):Rat):=by
 have e:(aB cash cs).eG (λc=>c.am) i=((cash.getD i 0+ck cs (λc=>if c.2.1=(i:Int) then c.2.2.2 else 0):Int):Rat):=by
  unfold Day.eG;rw[sZ]
  congr 1
  refine (NC cs _ (λc=>if c.to=(i:Int) then c.am else 0) λc G=>?_).symm;show ((if c.2.1=(i:Int) then c.2.2.2 else 0:Int):Rat)=if c.2.1=(i:Int) then (c.2.2.2:Rat) else 0
  split<;>rfl
 rw[e];have E:=Q.cash i;have H:=Q.sum λc=>c.2.1=(i:Int)
 have:cash.getD i 0+ck cs (λc=>if c.2.1=(i:Int) then c.2.2.2 else 0)<=((2^54:Nat):Int):=by omega
 rw[<-nm];exact_mod_cast this
theorem Day.cT.arS {d:Day}(X:d.cT)(f:Nat->Nat)(k i:Nat):0<=d.W f k i:=xq λc G=>by
 split
 ·exact X.pX G
 ·exact fQ
theorem arT {n t:Nat}{T:Nat->Rat}(h:∀k,k<n->0<=T k)(bI:t<=n):bw t T<=bw n T:=by
 induction n with
 |zero=>rw[show t=0 by omega];exact fQ
 |succ n aw =>
  by_cases aeI:t=n+1
  ·rw[aeI];exact fQ
  ·have E:=aw (λk J=>h k (by omega)) (by omega);have H:=h n (by omega);rw[bw];grind
theorem arU {N t a5 a e:Nat}{s:Rat}{T:Nat->Rat}(l0:0<a5)(JS:a5<=2^a)(pM:0<=s)(Hw:eJ a5 s)(VQ:∀k,k<N->0<=T k)(aeJ:∀k,k<N->eJ a5 (T k))(O:s+bw N T<=((2^e:Nat):Rat))(bI:t<=N):eB (a+e) (s+bw t T)/\∀k,k<N->eB (a+e) (T k):=by
 have E:∀t,t<=N->0<=bw t T/\bw t T<=bw N T:=λt bI=>⟨adg λk J=>VQ k (by omega),arT VQ bI⟩;refine⟨(Hw.add (eJ.bw λk J=>aeJ k (by omega))).sz l0 JS (by have:=(E t bI).1;grind) (by have:=(E t bI).2;grind),λk J=>(aeJ k J).sz l0 JS (VQ k J) ?_⟩;have H:=(E k (by omega)).1;have ab:=(E (k+1) (by omega)).2;rw[bw] at ab;grind
section
variable {cash:List Int} {cs:List ar} (Q:fF cash cs) {f:Nat->Nat} {P:Nat->Prop} (aC:rJ (aB cash cs) f P)
include Q aC
theorem NR {i:Nat}(L:i<D cash):0<=(aB cash cs).eI f P i/\(aB cash cs).eI f P i<=((2^54:Nat):Rat):=by
 have h:=aC.range (d:=aB cash cs) L;exact⟨h.1,sY h.2 (arR Q i)⟩
theorem aeK:∃a5:Nat,0<a5/\(∃a,a<=330/\a5<=2^a)/\∀i,i<(D cash)->eJ a5 ((aB cash cs).eI f P i):=by
 obtain⟨a5,E,H,ab⟩:=aen (N:=D cash) aC.good.aer (arK Q aC.qI) ((aep aC.ok f P _).2 aC.good.eI);have aG:=Q.k7;exact⟨a5,E,⟨_,by omega,H⟩,ab⟩
theorem aeL {i:Nat}(L:i<D cash):eB 428 ((aB cash cs).eI f P i):=by
 obtain⟨a5,E,⟨a,ai,H⟩,ab⟩:=aeK Q aC;have aM:=NR Q aC L;exact ((ab i L).sz E H aM.1 aM.2).mono (by omega)
theorem arV:pU (rowsOf (ct P (D cash)).length ((aB cash cs).s7 f (ct P (D cash)))) (ct P (D cash)).length=(de (ct P (D cash)).length (λk=>(aB cash cs).eI f P ((ct P (D cash)).getD k 0)-(aB cash cs).U ((ct P (D cash)).getD k 0) (f ((ct P (D cash)).getD k 0))),0)/\nj (rowsOf (ct P (D cash)).length ((aB cash cs).s7 f (ct P (D cash)))) (ct P (D cash)).length=true:=by
 have hlen:(ct P (D cash)).length<=6:=by
  have:=rK (λi=>decide (P i)) (dQ (D cash));rw[q9] at this;have:=Q.k7;unfold ct;omega
 have:=arO hlen (VO Q aC.qI _ (λk J=>⟨(vE J).2,(vE J).1⟩) λi j L ag=>VP L ag) aC.good.small aC.good.aet;exact⟨this.1,this.2.1⟩
theorem arW:∃a5:Nat,0<a5/\(∃a,a<=330/\a5<=2^a)/\∀k,k<(ct P (D cash)).length->eJ a5 ((aB cash cs).eI f P ((ct P (D cash)).getD k 0)-(aB cash cs).U ((ct P (D cash)).getD k 0) (f ((ct P (D cash)).getD k 0))):=by
 have hlen:(ct P (D cash)).length<=6:=by
  have:=rK (λi=>decide (P i)) (dQ (D cash));rw[q9] at this;have:=Q.k7;unfold ct;omega
 have AM:ct P (aB cash cs).n=ct P (D cash):=rfl;have aeM:=aC.good.aet;have NS:=aC.good.small;rw[AM] at aeM NS;obtain⟨a5,E,H,ab⟩:=aen NS (VO Q aC.qI _ (λk J=>⟨(vE J).2,(vE J).1⟩) λi j L ag=>VP L ag) aeM;exact⟨a5,E,⟨_,by omega,H⟩,ab⟩
theorem NT {k:Nat}(J:P k)(i:Nat):eB 54 ((aB cash cs).W f k i)/\eJ (hJ cs k (f k)) ((aB cash cs).W f k i):=by
 have e:=aeB Q aC.qI J i;have ai:=NP Q aC.qI J;have E:=Q.CE k (f k);have H:=Q.sum λc=>c.2.1=(i:Int)/\c.1=(k:Int)/\c.2.2.1=(f k:Int)
 obtain⟨f1,f2⟩:=AG (q:=(aB cash cs).W f k i) (v:=oz cs f k i) (d:=(hJ cs k (f k):Int)) (by omega) (by rw[<-e,nm,uo]);rw[l5] at f2;refine⟨⟨ey f1 (by unfold oz;omega),ey f2 (by omega)⟩,oz cs f k i,by rw[<-e,uo]⟩
theorem arX {i t:Nat}(L:i<D cash)(bI:t<=(ct P (D cash)).length):
  eB 708 ((aB cash cs).st f i+bw t λk=>(aB cash cs).W f ((ct P (D cash)).getD k 0) i*((aB cash cs).eI f P ((ct P (D cash)).getD k 0)-(aB cash cs).U ((ct P (D cash)).getD k 0) (f ((ct P (D cash)).getD k 0)))) /\
  (∀k,k<(ct P (D cash)).length->eB 438 ((aB cash cs).W f ((ct P (D cash)).getD k 0) i*((aB cash cs).eI f P ((ct P (D cash)).getD k 0)-(aB cash cs).U ((ct P (D cash)).getD k 0) (f ((ct P (D cash)).getD k 0))))) /\
  ∀k,k<(ct P (D cash)).length->eB 384 ((aB cash cs).eI f P ((ct P (D cash)).getD k 0)-(aB cash cs).U ((ct P (D cash)).getD k 0) (f ((ct P (D cash)).getD k 0))):=by
 have hlen:(ct P (D cash)).length<=6:=by
  have:=rK (λi=>decide (P i)) (dQ (D cash));rw[q9] at this;have:=Q.k7;unfold ct;omega
 obtain⟨a5,dD,⟨a,ks,bY⟩,na⟩:=arW Q aC;have gR:∀k,k<(ct P (D cash)).length->(ct P (D cash)).getD k 0<D cash/\P ((ct P (D cash)).getD k 0):=λk J=>vE J;have NU:=aC.good.aeu (d:=aB cash cs) L;have AM:ct P (aB cash cs).n=ct P (D cash):=rfl;rw[AM] at NU;generalize aDd:ct P (D cash)=p at *
 have aeN:∀k,k<(D p)->0<=(aB cash cs).eI f P (p.getD k 0)-(aB cash cs).U (p.getD k 0) (f (p.getD k 0)):=λk J=>by
  have:=aC.gt _ (gR k J).2;grind
 have arY:∀k,k<(D p)->(aB cash cs).eI f P (p.getD k 0)-(aB cash cs).U (p.getD k 0) (f (p.getD k 0))<=((2^54:Nat):Rat):=λk J=>by
  have E:=(NR Q aC (gR k J).1).2;have H:=aC.ok.aqw (p.getD k 0) (f (p.getD k 0));grind
 have arZ:0<h9 (D p) λk=>hJ cs (p.getD k 0) (f (p.getD k 0)):=adD λk J=>NP Q aC.qI (gR k J).2;obtain⟨eF,iI⟩:∃eF,eF=324:=⟨_,rfl⟩;have nD:(h9 (D p) λk=>hJ cs (p.getD k 0) (f (p.getD k 0)))<=2^eF:=aey (e:=eF) (λk _=>Q.CE _ _) (by omega);have eA:=JT Q.right f i;have NV:=Q.steady f i;have VR:0<=(aB cash cs).st f i:=by rw[<-eA];exact_mod_cast NV.1
 have Y:=(NR Q aC L).2;rw[NU] at Y
 have ar0:(h9 (D p) λk=>hJ cs (p.getD k 0) (f (p.getD k 0)))*a5<=2^(eF+a):=by
  rw[xu];exact pb nD bY
 have ar1:=arU (T:=λk=>(aB cash cs).W f (p.getD k 0) i*((aB cash cs).eI f P (p.getD k 0)-(aB cash cs).U (p.getD k 0) (f (p.getD k 0)))) (Vv arZ dD) ar0 VR (by rw[<-eA];exact eJ.int _ _) (λk J=>sV (aC.ok.arS f _ _) (aeN k J)) (λk J=>((NT Q aC (gR k J).2 i).2.of_dvd (adE (bR:=λk=>hJ cs (p.getD k 0) (f (p.getD k 0))) J)).mul (na k J)) Y bI;have hex:∀k,k<(D p)->eB 384 ((aB cash cs).eI f P (p.getD k 0)-(aB cash cs).U (p.getD k 0) (f (p.getD k 0))):=λk J=>((na k J).sz dD bY (aeN k J) (arY k J)).mono (by omega);exact⟨ar1.1.mono (by omega),λk J=>(NK (NT Q aC (gR k J).2 i).1 (hex k J)).mono (by omega),hex⟩
end
end Go.Mini
namespace Go.Mini
open Go

def VS:b5:=cx 46 1 [.t 2] (R [du 2 false] (.seq (R [F 5 0,cp 6 5,bs 7 0] (.block 0 (.loop  (R [bC 8 .lss 7 6] (.seq (a6 8 .skip (.exit 0)) (.seq (.block 1 (R [bX 9 4 5 7,bp 10 4 9,(az 4 (.alloc 240004 [(ah 0),(ah 0),(ah 0),(ah 0)])),ba 4 4 10] (fs [aW 11 0 4,aN 12 1 11,(az 13 (.call D0 [(.t 12),(.c (ah 0)),(.c (ah 59))])),gv 14 13,F 15 14,⟨some 16,some (15,false),.eX 1 (.t 4)⟩,⟨some 17,some (15,false),.load 1 false (.t 16)⟩,⟨some 18,some (15,false),.call D0 [(.t 17),(.c (.I (.int .i64 (-1)))),(.c (ah 59))]⟩,⟨some 19,some (15,false),.un .not (.t 18)⟩,eo 20 15 19,F 21 20,⟨some 22,some (21,false),.eX 2 (.t 4)⟩,⟨some 23,some (21,false),.load 1 false (.t 22)⟩,⟨some 24,some (21,false),.call D0 [(.t 23),(.c (ah 0)),(.c (ah 9))]⟩,⟨some 25,some (21,false),.un .not (.t 24)⟩,eo 26 21 25,F 27 26,⟨some 28,some (27,false),.eX 3 (.t 4)⟩,⟨some 29,some (27,false),.load 1 false (.t 28)⟩,⟨some 30,some (27,false),.call D0 [(.t 29),(.c (ah 0)),(.c (ah 1000000000000000))]⟩,⟨some 31,some (27,false),.un .not (.t 30)⟩,eo 32 27 31,F 33 32,⟨some 34,some (33,false),.eX 0 (.t 4)⟩,⟨some 35,some (33,false),.load 1 false (.t 34)⟩,⟨some 36,some (33,false),.cn (.t 0)⟩,⟨some 37,some (33,false),.jF 4 (.t 36) (.c (ah 0))⟩,⟨some 38,some (33,false),.eX 0 (.t 37)⟩,⟨some 39,some (33,false),.load 1 false (.t 38)⟩,⟨some 40,some (33,false),.bin .neq (.t 35) (.t 39)⟩,eo 41 33 40] [[],[],[],[],[],[],[],[],[],[],[],[],[],[],[],[],[],[],[],[],[],[],[],[],[],[],[],[],[],[],[]] (a6 41 (R [du 2 false] .ret) .skip)))) (.ops [bg 42 .add 7 1,F 7 42]))))))) (R [F 43 0,cp 44 43,bg 45 .leq 44 2000,F 2 45] .ret)))
def VT:b5:=cx 11 1 [.cell 2 4 true] (R [(az 2 (.alloc 241002 [(ah 0),.nil,(ah 0),.nil]))] (R [F 6 0,(az 7 (.call BA [(.t 6),(.c (ah 1))])),F 5 7,bt 8 0 5,bt 9 1 5,(az 3 (.alloc 241003 [(ah 0),.nil,(ah 0),.nil])),ba 4 3 8,F 4 9] (R [bp 10 4 3,ba 4 2 10] .ret)))
def CF:b5:=cx 118 2 [.t 4,.t 5] (R [dW 2 249002 0,eD 4,bs 5 0] (.seq (fs [bp 19 4 2,(dP 20 m6 19),gv 21 20,F 22 21,⟨some 23,some (22,false),.load 4 true (.t 2)⟩,⟨some 24,some (22,false),.call wG [(.c (ah 0))]⟩,⟨some 25,some (22,false),.call qt [(.t 23),(.t 24)]⟩,⟨some 26,some (22,false),.bin .lss (.t 25) (.c (ah 0))⟩,eo 27 22 26,F 28 27,⟨some 29,some (28,false),.cn (.t 1)⟩,⟨some 30,some (28,false),.call Q9 [(.t 29)]⟩,⟨some 31,some (28,false),.un .not (.t 30)⟩,eo 32 28 31] Ii (a6 32 (R [eD 4,bs 5 1] .ret) .skip)) (R [F 33 1,cp 34 33,(az 35 (.lj 249035 [(ah 0),.nil,(ah 0),.nil] 64 (.t 34) (.t 34))),F 6 35] (R [bp 36 4 2,(az 7 (.alloc 249007 [(ah 0),.nil,(ah 0),.nil])),ba 4 7 36] (.seq (R [bs 37 0] (.block 0 (.loop  (R [bg 38 .lss 37 10] (.seq (a6 38 .skip (.exit 0)) (.seq (.block 1 (R [F 39 37,F 8 39] (R [bs 9 0] (.seq (R [F 40 1,cp 41 40,bs 42 0] (.block 2 (.loop  (R [bC 43 .lss 42 41] (.seq (a6 43 .skip (.exit 2)) (.seq (.block 3 (R [bX 44 4 40 42,bp 45 4 44,(az 11 (.alloc 249011 [(ah 0),(ah 0),(ah 0),(ah 0)])),ba 4 11 45] (R [aW 46 2 11,aN 47 1 46,F 48 8,bC 49 .eql 47 48] (a6 49 (.ops [F 50 9,aW 51 3 11,aN 52 1 51,bC 53 .add 50 52,F 9 53]) .skip)))) (.ops [bg 54 .add 42 1,F 42 54]))))))) (fs [bp 55 4 7,F 56 9,(dP 57 wG 56),(cj 58 qt 55 57),bg 59 .geq 58 0,F 12 59] aam (.seq (R [F 60 1,cp 61 60,bs 62 0] (.block 4 (.loop  (R [bC 63 .lss 62 61] (.seq (a6 63 .skip (.exit 4)) (.seq (.block 5 (R [F 64 62,bX 65 4 60 62,bp 66 4 65,(az 14 (.alloc 249014 [(ah 0),(ah 0),(ah 0),(ah 0)])),F 13 64,ba 4 14 66] (.seq (R [aW 67 2 14,aN 68 1 67,F 69 8,bC 70 .neq 68 69] (a6 70 (.exit 5) .skip)) (R [F 71 6,F 72 13,aW 73 3 14,aN 74 1 73,(dP 75 wG 74),bX 76 4 71 72,ba 4 76 75] (.seq (R [F 77 12] (a6 77 (.exit 5) .skip)) (fs [aW 79 3 14,aN 80 1 79,(dP 81 wG 80),bp 82 4 7,(cj 83 u0 81 82),F 78 83,bt 84 0 78,bt 85 1 78,(az 15 (.alloc 249015 [(ah 0),.nil,(ah 0),.nil])),ba 4 15 84,F 16 85] [[],[],[],[],[],[],[],[],[1,3],[],[]] (.seq (R [F 86 16,bg 87 .eql 86 0] (a6 87 (.m1 [F 89 6,F 90 13,bp 91 4 15,F 92 9,(dP 93 wG 92),(cj 94 BD 91 93),F 88 94,bt 95 0 88,bt 96 1 88,bX 97 4 89 90,ba 4 97 95,F 16 96] aao) .skip)) (R [F 98 16,bg 99 .neq 98 0] (a6 99 (R [F 100 16,eD 4,F 5 100] .ret) .skip))))))))) (.ops [bg 101 .add 62 1,F 62 101]))))))) (.seq (R [F 102 12,gv 103 102] (a6 103 (R [(az 104 (.call wG [(.c (ah 0))])),ba 4 7 104] (.exit 1)) .skip)) (fs [bp 106 4 7,F 107 9,(dP 108 wG 107),(cj 109 tF 106 108),F 105 109,bt 110 0 105,bt 111 1 105,(az 17 (.alloc 249017 [(ah 0),.nil,(ah 0),.nil])),ba 4 17 110,F 18 111] [[],[],[],[],[],[],[],[0],[],[]] (.seq (R [F 112 18,bg 113 .neq 112 0] (a6 113 (R [F 114 18,eD 4,F 5 114] .ret) .skip)) (.ops [bp 115 4 17,ba 4 7 115])))))))))) (.ops [bg 116 .add 37 1,F 37 116]))))))) (.seq (.ghost (.freeze 6) (.ops [F 117 6,F 4 117,bs 5 0])) .ret))))))
def VU:b5:=cx 15 3 [.t 6] (R [du 6 false] (R [F 7 0,F 8 1,bC 9 .geq 7 8,F 10 9,⟨some 11,some (10,true),.cn (.t 0)⟩,⟨some 12,some (10,true),.cn (.t 2)⟩,⟨some 13,some (10,true),.bin .leq (.t 11) (.t 12)⟩,gg 14 10 13,F 6 14] .ret))


def bE (c:ar):List Data:=[.int .i64 c.1,.int .i64 c.2.1,.int .i64 c.2.2.1,.int .i64 c.2.2.2]
theorem p3 (c:ar):(bE c).length=4:=rfl
theorem VV (c:ar):((bE c).map M.I).all M.one=true:=rfl
theorem y7:∀a b:ar,bE a=bE b->a=b:=by
 rintro⟨c5,dK,fl,fP⟩ ⟨dR,gQ,ox,s8⟩ h;simp only[bE,bf,Data.int.injEq,true_and,and_true] at h;obtain⟨rfl,rfl,rfl,rfl⟩:=h
 rfl
theorem ar2 {cs:List ar}{i:Nat}{c:ar}(h:cs[i]?=some c)(aO:ar->Int):ck (cs.take (i+1)) aO=ck (cs.take i) aO+aO c:=by
 rw[lA,h,Cx];simp[ck]
def FH (cs:List ar):Prop:=D cs<=2000/\∀c∈cs,0<=c.2.2.2/\c.2.2.2<=1000000000000000
theorem FH.sum {cs:List ar}(h:FH cs)(p:ar->Prop)[DecidablePred p](i:Nat):0<=ck (cs.take i) (λc=>if p c then c.2.2.2 else 0)/\ck (cs.take i) (λc=>if p c then c.2.2.2 else 0)<=2000000000000000000:=by
 have E:=Vl (cs:=cs.take i) (aO:=λc=>if p c then c.2.2.2 else 0) (B:=1000000000000000) (by omega) λc G=>by
  have:=h.2 c (List.mem_of_mem_take G)
  try dsimp only
  split<;>omega
 have H:=h.1;have ab:(cs.take i).length<=D cs:=by rw[g7];omega
 omega
theorem aeO {cash:List Int}{cs:List ar}(h:hI cash cs=true):FH cs :=
 ⟨(g2.1 h).2.1,λc G=>⟨((g2.1 h).2.2.2 c G).2.2.2.2.2.2.1,((g2.1 h).2.2.2 c G).2.2.2.2.2.2.2⟩⟩
theorem VW {n:Int}(h:dz n):g0 (bD n) (bD 1)=(aE (n:Rat),0):=by
 rw[yH (wY h) (by decide +kernel) (by decide),VB,show ((1:Int):Rat)=1 from rfl,show (n:Rat)/1=n by grind]
def ur:=cy zT λ(n:Int)=>cW (dz n) (.same (.agg (aK (aE (n:Rat)))))
@[go_sem] theorem AQ (n:Int)(G:dz n):ur [.int .i64 n]=some (.same (.agg (aK (aE (n:Rat))))):=(cK D7 n).trans (c6 G _)
theorem ar3 (T:bk)(AR:T BA=aX IW)(n:Int)(G:dz n):WP T Tl (.same (.agg (aK (aE (n:Rat))))) [.I (.int .i64 n)]:=by
 refine cH ?_;simp only[Tl];have E:dz 1:=by unfold dz;omega
 have h:=VW G;generalize aE (n:Rat)=aO at *;obtain⟨⟨a,b⟩,⟨c,d⟩⟩:=aO;simp only[go_sem,go_sem_proc,AR,G,E,h,ef,aK];repeat' (first|refine av ?_ ?_|fail)<;>intro h<;>simp only[h,go_sem,go_sem_proc,AR,G,E,h,ef,aK]
def JU:=cy zT λ(n:Int)=>cW (dz n) (.same (.agg (aK (aE (n:Rat)))))
@[go_sem] theorem ar4 (n:Int)(G:dz n):JU [.int .i64 n]=some (.same (.agg (aK (aE (n:Rat))))):=(cK D7 n).trans (c6 G _)
theorem ar5 (T:bk)(AR:T BA=aX IW)(n:Int)(G:dz n):WP T VT (.same (.agg (aK (aE (n:Rat))))) [.I (.int .i64 n)]:=by
 refine cH ?_;simp only[VT];have E:dz 1:=by unfold dz;omega
 have h:=VW G;generalize aE (n:Rat)=aO at *;obtain⟨⟨a,b⟩,⟨c,d⟩⟩:=aO;simp only[go_sem,go_sem_proc,AR,G,E,h,ef,aK];repeat' (first|refine av ?_ ?_|fail)<;>intro h<;>simp only[h,go_sem,go_sem_proc,AR,G,E,h,ef,aK]
theorem ar6 {x:List Data}(h:Fits [.int .i64,.int .i64,.int .i64,.int .i64] x):∃c:ar,x=bE c:=by
 simp only[Fit,Fits] at h;obtain⟨_,_,rfl,⟨a,rfl,-⟩,_,_,rfl,⟨b,rfl,-⟩,_,_,rfl,⟨c,rfl,-⟩,_,_,rfl,⟨d,rfl,-⟩,rfl⟩:=h;exact⟨(a,b,c,d),rfl⟩
theorem ar7 {es:List (List Data)}(h:∀x∈es,Fit (.st [.int .i64,.int .i64,.int .i64,.int .i64]) x):∃l:List ar,es=l.map bE:=by
 obtain⟨l,e,-⟩:=QF (e:=bE) (good:=λ_=>True) λx O=>by
  have:=h x O;unfold Fit at this;obtain⟨c,rfl⟩:=ar6 this;exact⟨c,rfl,trivial⟩
 exact⟨l,e⟩
end Go.Mini
namespace Go.Mini
open Classical
structure Alike (d e:Day):Prop where
 n:d.n=e.n
 cash:d.cash=e.cash
 mem:∀c,c∈d.cN↔c∈e.cN
 sum:∀aO,b4 d.cN aO=b4 e.cN aO
theorem Alike.symm {d e:Day}(h:Alike d e):Alike e d:=⟨h.n.symm,h.cash.symm,λc=>(h.mem c).symm,λaO=>(h.sum aO).symm⟩
section
variable {d e:Day} (h:Alike d e)
include h
theorem Alike.U:d.U=e.U:=by funext k r;exact h.sum _
theorem Alike.S:d.S=e.S:=by funext k r;exact h.sum _
theorem Alike.w:d.w=e.w:=by funext c;unfold Day.w;rw[h.S]
theorem Alike.q:d.q=e.q:=by funext f x c;unfold Day.q;rw[h.U,h.w]
theorem Alike.l:d.l=e.l:=by funext f P x c;unfold Day.l;rw[h.U,h.w]
theorem Alike.hy:d.hy=e.hy:=by funext x c;unfold Day.hy;rw[h.U,h.w]
theorem Alike.eG:d.eG=e.eG:=by funext a i;unfold Day.eG;rw[h.cash,h.sum]
theorem Alike.pY:d.pY=e.pY:=by funext x i;unfold Day.pY;rw[h.eG,h.hy]
theorem Alike.gy:d.gy=e.gy:=by funext C x;unfold Day.gy;rw[h.n]
theorem Alike.cap:d.cap=e.cap:=by funext f g C k;unfold Day.cap;rw[h.U]
theorem Alike.closed (f:Nat->Nat)(C:Nat->Prop):d.closed f C↔e.closed f C:=by
 unfold Day.closed;exact⟨λk c G=>k c ((h.mem c).2 G),λk c G=>k c ((h.mem c).1 G)⟩
theorem Alike.inv {f:Nat->Nat}{g:Nat->Rat}(a:Inv d f g):Inv e f g:=by
 obtain⟨E,H,ab,aM,bj⟩:=a;refine⟨E,λi L=>?_,λi L aJ=>?_,λi L aJ=>?_,λC jA ar8 ar9=>?_⟩
 ·have:=H i (by rw[h.n];exact L);rwa [h.eG,h.q] at this
 ·have:=ab i (by rw[h.n];exact L) aJ;rwa [h.U] at this
 ·have:=aM i (by rw[h.n];exact L) aJ;rwa [h.U] at this
 ·have:=bj C jA (λi L=>by rw[h.n];exact ar8 i L) ((h.closed f C).2 ar9);rwa [h.gy,h.eG,h.q,h.cap,h.U] at this
theorem Alike.ok (a:d.cT):e.cT:=⟨λc G=>by rw[<-h.n];exact a.ax c ((h.mem c).2 G),λc G=>by rw[<-h.n];exact a.to c ((h.mem c).2 G),λc G=>a.rk c ((h.mem c).2 G),λc G=>a.am c ((h.mem c).2 G),λi L=>by rw[<-h.cash];exact a.cash i (by rw[h.n];exact L)⟩
theorem Alike.aeP {f:Nat->Nat}{x:Nat->Rat}(a:mK d f x):mK e f x:=by
 obtain⟨g,E,H,ab⟩:=a;refine⟨g,h.inv E,λi L=>?_,λi L=>ab i (by rw[h.n];exact L)⟩;have:=H i (by rw[h.n];exact L);rwa [h.eG,h.q] at this
theorem Alike.asa:mK d=mK e:=by
 funext f x
 exact propext ⟨h.aeP,h.symm.aeP⟩
theorem Alike.top:d.top=e.top:=by
 funext f
 unfold Day.top;rw[h.asa]
theorem Alike.jP:d.jP=e.jP:=by
 funext f
 unfold Day.jP;rw[h.top,h.U,h.n]
theorem Alike.iQ:d.iQ=e.iQ:=by
 funext x i k
 induction k with
 |zero=>rfl
 |succ k aw=>unfold Day.iQ;rw[h.U,aw]
theorem Alike.gN:d.gN=e.gN:=by
 funext f x i
 unfold Day.gN;rw[h.n,h.U,h.iQ]
theorem Alike.rounds:d.rounds=e.rounds:=by
 funext k
 induction k with
 |zero=>funext f;rfl
 |succ k aw =>
  funext f
  unfold Day.rounds;rw[h.jP,h.gN,h.top,aw]
end
def cL (cs:List ar)(i k:Nat):List ar:=cs.filter λc=>c.1==(i:Int)&&c.2.2.1==(k:Int)
theorem CG {cs:List ar}{i k:Nat}{c:ar}:c∈cL cs i k↔c∈cs/\c.1=(i:Int)/\c.2.2.1=(k:Int):=by
 unfold cL;rw[Fw,e3,beq_iff_eq,beq_iff_eq]
def c1 (n:Nat)(cs:List ar):List ar:=(dQ n).flatMap λi=>(dQ 10).flatMap λk=>cL cs i k
theorem asb (cs:List ar)(i k j r:Nat):cL (cL cs i k) j r=if i=j/\k=r then cL cs i k else []:=by
 unfold cL;rw[List.filter_filter]
 by_cases h:i=j/\k=r
 ·obtain⟨rfl,rfl⟩:=h;rw[Z ⟨rfl,rfl⟩]
  congr 1
  funext c
  simp
 ·rw[aa h,List.filter_eq_nil_iff];intro c _;simp only[e3,beq_iff_eq];rintro⟨⟨E,H⟩,ab,aM⟩;exact h ⟨by omega,by omega⟩
theorem aeQ {α:Type}{n i:Nat}(L:i<n)(aO:Nat->List α)(h:∀k,k<n->k≠i->aO k=[]):(dQ n).flatMap aO=aO i:=by
 induction n with
 |zero=>omega
 |succ n aw =>
  rw[pd,vG,oS,y8,hO]
  by_cases aG:i=n
  ·subst aG
   have:(dQ i).flatMap aO=[]:=by
    rw[aeR];intro k J;have:=hn.1 J;exact h k (by omega) (by omega)
   rw[this,iJ]
  ·rw[aw (by omega) λk J=>h k (by omega),h n (by omega) (Ne.symm aG),hO]
theorem aeS {α:Type}(l:List α)(aO:α->List ar)(i k:Nat):cL (l.flatMap aO) i k=l.flatMap λx=>cL (aO x) i k:=by
 unfold cL
 induction l with
 |nil=>rfl
 |cons a l aw=>rw[oS,oS,y6,aw]
theorem aeT {n i k:Nat}(cs:List ar)(L:i<n)(J:k<10):cL (c1 n cs) i k=cL cs i k:=by
 unfold c1;rw[aeS];simp only[aeS,asb];rw[aeQ L,aeQ J]
 ·rw[Z ⟨rfl,rfl⟩]
 ·intro r _ Y;rw[aa λh=>Y h.2]
 ·intro j _ ag;rw[aeR];intro r _;rw[aa λh=>ag h.1]
theorem aeU {n:Nat}{a b:List ar}(h:∀i,i<n->∀k,k<10->cL a i k=cL b i k):c1 n a=c1 n b:=by
 unfold c1;rw[vH,vH]
 congr 1
 refine m5 λi L=>?_;rw[vH,vH]
 congr 1
 exact m5 λk J=>h i (hn.1 L) k (hn.1 J)
theorem asc (n:Nat)(cs:List ar):c1 n (c1 n cs)=c1 n cs:=aeU λ_ L _ J=>aeT cs L J
theorem VX {n:Nat}{cs:List ar}(Y:∀c∈cs,0<=c.1/\c.1<n/\0<=c.2.2.1/\c.2.2.1<10){c:ar}:c∈c1 n cs↔c∈cs:=by
 unfold c1;simp only[List.mem_flatMap,hn,CG]
 constructor
 ·rintro⟨i,-,k,-,h,-⟩;exact h
 ·intro G;have:=Y c G;exact⟨c.1.toNat,by omega,c.2.2.1.toNat,by omega,G,by omega,by omega⟩
theorem vI (a b:List dL)(aO:dL->Rat):b4 (a++b) aO=b4 a aO+b4 b aO:=by
 induction a with
 |nil=>simp only[iJ,b4];grind
 |cons c l aw=>rw[lz,b4,b4,aw];grind
theorem aeV (aO:Nat->List ar)(bz:dL->Rat)(n:Nat):b4 (((dQ n).flatMap aO).map cm) bz=bw n λi=>b4 ((aO i).map cm) bz:=by
 induction n with
 |zero=>rfl
 |succ n aw=>rw[pd,vG,k0,vI,aw,bw,oS,y8,hO]
theorem asd {l:List dL}(aq:∀c∈l,c.rk<10)(b:Nat->dL->Rat):bw 10 (λk=>b4 l (λc=>if c.rk=k then b k c else 0))=b4 l (λc=>b c.rk c):=by
 induction l with
 |nil=>exact rG λk _=>rfl
 |cons c l aw =>
  rw[b4,<-aw λx O=>aq x (hY _ O)];have e:(λk:Nat=>b4 (c::l) (λc=>if c.rk=k then b k c else 0))=λk=>(if c.rk=k then b k c else 0)+b4 l (λc=>if c.rk=k then b k c else 0):=rfl;rw[e,ui]
  congr 1
  rw[xp (aq c ha) λk _ J=>aa (Ne.symm J),Z rfl]
theorem VY {cs:List ar}(Y:∀c∈cs,0<=c.1/\0<=c.2.2.1)(i k:Nat)(bz:dL->Rat):b4 ((cL cs i k).map cm) bz=b4 (cs.map cm) λc=>if c.ax=i/\c.rk=k then bz c else 0:=by
 induction cs with
 |nil=>rfl
 |cons c l aw =>
  have ai:=Y c ha;have aw:=aw λx O=>Y x (hY _ O);unfold cL at aw ⊢;rw[eY,b4,<-aw]
  by_cases h:(cm c).ax=i/\(cm c).rk=k
  ·obtain⟨E,H⟩:=h;have aA:c.1=(i:Int):=by have:c.1.toNat=i:=E;omega
   have ay:c.2.2.1=(k:Int):=by have:c.2.2.1.toNat=k:=H;omega
   rw[xv (by simp[aA,ay]),eY,b4,Z ⟨E,H⟩]
  ·rw[aa h,xw,AL];intro ad;rw[e3,beq_iff_eq,beq_iff_eq] at ad;refine h ⟨?_,?_⟩
   ·show c.1.toNat=i;omega
   ·show c.2.2.1.toNat=k;omega
theorem aeW {n:Nat}{cs:List ar}(Y:∀c∈cs,0<=c.1/\c.1<n/\0<=c.2.2.1/\c.2.2.1<10)(bz:dL->Rat):b4 ((c1 n cs).map cm) bz=b4 (cs.map cm) bz:=by
 unfold c1;rw[aeV]
 have bK:∀c∈cs.map cm,c.ax<n:=λc G=>by
  obtain⟨x,O,rfl⟩:=fI.1 G;have:=Y x O;show x.1.toNat<n;omega
 have gH:∀c∈cs.map cm,c.rk<10:=λc G=>by
  obtain⟨x,O,rfl⟩:=fI.1 G;have:=Y x O;show x.2.2.1.toNat<10;omega
 have e:(λi=>b4 (((dQ 10).flatMap λk=>cL cs i k).map cm) bz)=λi=>b4 (cs.map cm) λc=>if c.ax=i then bz c else 0:=by
  funext i
  rw[aeV,<-asd gH λ_ c=>if c.ax=i then bz c else 0]
  congr 1
  funext k
  rw[VY λc G=>⟨(Y c G).1,(Y c G).2.2.1⟩];refine uj λc _=>?_
  by_cases E:c.rk=k
  ·rw[Z E]
   by_cases H:c.ax=i
   ·rw[Z ⟨H,E⟩,Z H]
   ·rw[aa λh=>H h.1,aa H]
  ·rw[aa E,aa λh=>E h.2]
 rw[e,U2 bK λ_ c=>bz c]
theorem aeX {cash:List Int}{cs:List ar}(h:hI cash cs=true):Alike (aB cash cs) (aB cash (c1 (D cash) cs)):=by
 have Y:∀c∈cs,0<=c.1/\c.1<D cash/\0<=c.2.2.1/\c.2.2.1<10:=λc G=>by
  have:=(g2.1 h).2.2.2 c G;exact⟨this.1,this.2.1,this.2.2.2.2.1,this.2.2.2.2.2.1⟩
 refine⟨rfl,rfl,λc=>?_,λaO=>(aeW Y aO).symm⟩;show c∈cs.map cm↔c∈(c1 (D cash) cs).map cm;rw[fI,fI];simp only[VX Y]
theorem aeY {n:Nat}{cs:List ar}(Y:∀c∈cs,0<=c.1/\c.1<n/\0<=c.2.2.1/\c.2.2.1<10):(c1 n cs).length=D cs:=by
 have E:∀l:List ar,b4 (l.map cm) (λ_=>1)=(D l:Rat):=λl=>by
  induction l with
  |nil=>rfl
  |cons a l aw=>rw[eY,b4,aw,kJ,Rat.natCast_add,Rat.add_comm];rfl
 have:=aeW Y λ_=>1;rw[E,E] at this;exact_mod_cast this
theorem VZ {cash:List Int}{cs:List ar}(h:fF cash cs):fF cash (c1 (D cash) cs):=by
 have hN:=g2.1 h.right
 have Y:∀c∈cs,0<=c.1/\c.1<D cash/\0<=c.2.2.1/\c.2.2.1<10:=λc G=>by
  have:=hN.2.2.2 c G;exact⟨this.1,this.2.1,this.2.2.2.2.1,this.2.2.2.2.2.1⟩
 refine⟨g2.2 ⟨hN.1,by rw[aeY Y];exact hN.2.1,hN.2.2.1,λc G=>hN.2.2.2 c ((VX Y).1 G)⟩,h.k7,by rw[aeY Y];exact h.vF,λc G=>h.am c ((VX Y).1 G)⟩
end Go.Mini
namespace Go.Mini
open Classical
def Day.oA (d:Day):Nat->Nat:=(d.rounds (10*d.n) λ_=>10).2
def Day.mM (d:Day):List (List Nat):=(d.rounds (10*d.n) λ_=>10).1
def Day.db (d:Day):Nat->Rat:=d.top d.oA
theorem aeZ (n k:Nat):lL n (λ_=>k)=k*n:=by
 induction n with
 |zero=>rfl
 |succ n aw=>rw[lL,aw,Nat.mul_succ]
section
variable {d:Day} (X:d.cT)
include X
theorem Day.cT.hex:∀f,Reach d f->∃h,mK d f h:=λ_ Y=>arE X Y
theorem FI:Reach d d.oA/\d.jP d.oA=[]:=adw X X.hex (10*d.n) (λ_=>10) (Reach.start X) (by rw[aeZ];exact bM _)
theorem NW:mK d d.oA d.db:=Day.Cw (X.hex _ (FI X).1)
theorem ae0:∀i,i<d.n->d.U i (d.oA i)<=d.db i:=by
 intro i L;apply kC;intro aG;have:i∈d.jP d.oA:=Day.adu.2 ⟨L,by unfold Day.db at aG;grind⟩
 rw[(FI X).2] at this
 cases this
theorem FJ:(∀i,i<d.n->d.db i=d.pY d.db i)/\∀i,i<d.n->(d.oA i<10↔d.db i<d.U i 10):=by
 obtain⟨g,E,H,ab⟩:=NW X;exact E.final X H ab (ae0 X)
theorem ae1 {z:Nat->Rat}(aR:∀i,i<d.n->z i<=d.pY z i):∀i,i<d.n->z i<=d.db i:=adv X X.hex (FI X).1 aR
theorem ae2 {i:Nat}(L:i<d.n):0<=d.db i:=(NW X).Vi X L
end
theorem Nx {d:Day}(X:d.cT)(i k:Nat):0<=d.S i k:=xq λc G=>by
 try dsimp only
 split
 ·exact X.am c G
 ·exact fQ
end Go.Mini
namespace Go.Mini
open Go
theorem ae3 {n:Int}{c:ar}:oy n c=true↔0<=c.1/\c.1<n /\ -1<=c.2.1/\c.2.1<n/\0<=c.2.2.1/\c.2.2.1<10/\0<=c.2.2.2/\c.2.2.2<=1000000000000000:=by
 unfold oy;simp only[e3,decide_eq_true_eq,and_assoc]
def md (x:Int):Bool:=decide (0<=x)&&decide (x<=1000000000000000)
theorem ase {x:Int}:md x=true↔0<=x/\x<=1000000000000000:=by
 unfold md;simp only[e3,decide_eq_true_eq]
theorem ae4 (cash:List Int)(cs:List ar):hI cash cs=(decide (D cash<=60)&&decide (D cs<=2000)&&cash.all md&&cs.all (oy (D cash))):=rfl

end Go.Mini
