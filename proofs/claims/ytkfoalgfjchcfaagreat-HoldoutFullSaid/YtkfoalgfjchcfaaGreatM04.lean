/- A part of the proof. -/
import Derived.Test.YtkfoalgfjchcfaaGreatM03
set_option linter.unusedSimpArgs false
set_option linter.unusedVariables false
set_option maxRecDepth 100000
set_option maxHeartbeats 4000000
noncomputable section
open Bool renaming and_eq_true->e3,false_eq_true->kh,not_eq_true'->pZ,or_eq_true->qz,or_false->nT,true_and->hP
open Classical renaming byContradiction->j6,choose->yi,choose_spec->oX
open Decidable renaming em->dQ
open Int renaming add_zero->tV,le_refl->J8,mul_ne_zero->Av,mul_zero->sH,natAbs_mul->qI,natAbs_natCast->ml,one_mul->nt,zero_add->B6,zero_mul->wX
open List renaming any_eq_false->FK,append_assoc->gN,append_nil->h1,append_of_mem->ad3,cons_append->lP,drop->h4,drop_append->pK,drop_eq_getElem_cons->hW,drop_eq_nil_of_le->k7,drop_zero->nk,ext_getElem?->ri,filter_append->ze,filter_cons_of_neg->xy,filter_cons_of_pos->xx,filter_nil->s5,findIdx_getElem->ael,findIdx_le_length->adu,flatMap_append->vJ,flatMap_cons->o0,flatMap_def->vK,flatMap_eq_nil_iff->afn,flatMap_nil->zg,flatten_append->FN,flatten_cons->kL,getD_eq_getElem?_getD->dY,getElem?_append_left->re,getElem?_append_right->rf,getElem?_cons_zero->HT,getElem?_drop->uQ,getElem?_eq_getElem->bs,getElem?_eq_none->lL,getElem?_eq_some_iff->dK,getElem?_map->a5,getElem?_range->sb,getElem?_set->mo,getElem?_zipIdx->UP,getElem_drop->Ft,getElem_mem->mD,length->D,length_append->hr,length_cons->kf,length_drop->pL,length_filter_le->rU,length_map->aj,length_nil->mJ,length_range->rm,length_replicate->JP,length_set->ja,length_take->hh,map->xn,mapM_cons->oi,map_append->mq,map_congr_left->nj,map_cons->e5,map_map->oU,map_nil->cl,map_replicate->FM,map_set->xi,mem_append->jK,mem_cons->nU,mem_cons_of_mem->ir,mem_cons_self->hv,mem_filter->FZ,mem_iff_getElem?->tF,mem_map->fO,mem_map_of_mem->vG,mem_of_getElem?->eL,mem_of_mem_drop->IU,mem_range->hk,mem_singleton->yG,nil_append->iM,nodup_range->adw,range->dL,range_succ->po,replicate->eu,replicate_append_replicate->U9,replicate_succ->uR,set_append_right->CC,set_cons_succ->Fz,set_cons_zero->ug,set_set->ac1,take->hA,take_add_one->ks,take_append_of_le_length->y6,take_of_length_le->dD,zipWith->VT,zipWith_cons_cons->aef,zip_cons_cons->aee
open List.cons renaming injEq->bh
open Nat renaming add_comm->xT,add_sub_cancel_left->Ej,add_zero->om,eq_zero_or_pos->jm,exists_eq_add_of_le->adC,le_mul_of_pos_right->HI,le_of_eq->xp,le_refl->bP,le_trans->eF,lt_of_le_of_lt->sD,lt_or_ge->hV,mul_assoc->CR,mul_comm->sr,mul_le_mul->pk,mul_left_comm->aeb,mul_one->cM,mul_pos->VQ,one_pos->VP,pow_add->xw,pow_le_pow_right->wQ,pow_lt_pow_right->aes,pow_succ->u3,reduceEqDiff->dA,reduceLeDiff->ac0,sub_self->mE,sub_zero->Vc,succ_mul->sc,zero_add->oP,zero_le->fr
open Option renaming map_some->jo
open Option.some renaming inj->ni,injEq->cb
open Prod renaming ext->eS
open Prod.mk renaming injEq->fu
open Rat renaming add_zero->pj,divInt->lp,divInt_eq_div->VW,div_def->za,intCast_add->xv,intCast_eq_zero_iff->aeq,intCast_mul->p8,intCast_natCast->nB,intCast_sub->sZ,inv_pos->adL,le_refl->fA,le_trans->uq,mul_comm->uw,mul_eq_zero->VY,mul_nonneg->Vp,mul_pos->JT,mul_zero->nA,natCast_mul->N1,neg_num->aev,one_mul->NU,zero_add->AY,zero_den->aeN,zero_mul->zb,zero_num->aeO
namespace Go.Mini
open Go
theorem pc {x:Rat}(h:dz x):okF (aE x):=⟨mT h.1,mT (vj h)⟩
theorem sP:okF dW:=⟨by simp[dW],by simp[dW]⟩
theorem apH (p q:Raw):okF (g8 p q).1:=by
 unfold g8
 split
 ·rename_i h;rw[e3] at h;obtain⟨x,O,aw⟩:=(ju _).1 h.1;obtain⟨y,ao,aC⟩:=(ju _).1 h.2
  split
  ·exact sP
  ·rw[aw,aC,fs,fs];exact pc (MU O ao)
 ·exact sP
theorem Uy (p q:Raw×Int):okF (ub p q).1:=by
 unfold ub
 split
 ·split
  ·exact apH _ _
  ·exact sP
 ·exact sP
theorem apI (a b:bU):okF (vl a b).1:=by
 unfold vl
 split
 ·split
  ·exact Uy _ _
  ·exact sP
 ·exact sP
theorem acT (a b:bU):okF (oB a b).1:=by
 unfold oB
 split
 ·split
  ·exact apI _ _
  ·exact sP
 ·exact sP
theorem apJ (a b:bU):okF (nx a b).1:=by
 unfold nx
 split
 ·split
  ·exact Uy _ _
  ·exact sP
 ·exact sP
theorem acU (a b:bU):okF (jw a b).1:=by
 unfold jw
 split
 ·split
  ·split
   ·exact sP
   ·exact Uy _ _
  ·exact sP
 ·exact sP
theorem Uz {x:c6}{c:Nat}{f:bU}(h:x.2.2[c]?=some f):cellOf x c=f:=by
 unfold cellOf;rw[dY,h]
 rfl
theorem vw {rows:List c6}{i:Nat}{x:c6}(h:rows[i]?=some x):rowAt rows i=x:=by
 unfold rowAt;rw[dY,h]
 rfl
theorem Fu {l:List bU}{k:Nat}(h:k<D l):(k*4+4<=(aY aL l).length)=True:=eq_true (by rw[ld mU];omega)
theorem Fv {l:List bU}{k:Nat}{a b c d}(h:l[k]?=some ((a,b),(c,d))):hA 4 (h4 (k*4) (aY aL l))=[.I (.int .i64 a),.I (.af (b.map ad)),.I (.int .i64 c),.I (.af (d.map ad))]:=by
 have:=apC h;unfold cut at this;rw[Z (by rw[ld mU];have:=(dK.1 h).1;omega)] at this;exact ni this
theorem UA {l:List bU}{k:Nat}(h:k<D l)(a:Int)(b:List Int)(c:Int)(d:List Int):
  hA (k*4) (aY aL l)++[M.I (.int .i64 a),.I (.af (b.map ad)),.I (.int .i64 c),.I (.af (d.map ad))]++h4 (k*4+4) (aY aL l)=aY aL (l.set k ((a,b),(c,d))):=by
 rw[<-QL mU h]
 rfl
theorem CB {N:Nat}{rows:List c6}{i:Nat}(h:i<D rows):(i+1<=(refsOf N rows).length)=True:=eq_true (by unfold refsOf;rw[aj];omega)
theorem Fw {N:Nat}{rows:List c6}{i:Nat}{x:c6}(h:rows[i]?=some x):hA 1 (h4 i (refsOf N rows))=[.ref (x.1+900000) x.2.1 4 0 (N+1)]:=by
 have:=apD (N:=N) h;unfold cut at this;rw[Z (by unfold refsOf;rw[aj];have:=(dK.1 h).1;omega)] at this;exact ni this
theorem acV {N:Nat}{rows:List c6}{i:Nat}(h:i<D rows)(b:c6):hA i (refsOf N rows)++[M.ref (b.1+900000) b.2.1 4 0 (N+1)]++h4 (i+1) (refsOf N rows)=refsOf N (rows.set i b):=by
 unfold refsOf;rw[xi,List.set_eq_take_append_cons_drop,Z (by rw[aj];exact h),gN]
 rfl
theorem acW (fg:bU):∀(l p:List bU) (b:Bool),(iQ fg l p b).1.length=D l
 | [],_,_=>by simp[iQ]
 |f::dq,[],b=>by cases b<;>simp[iQ]
 |f::dq,p::cW,true=>by simp[iQ]
 |f::dq,p::cW,false=>by simp[iQ,acW fg dq cW]
theorem UB (fg:bU)(l p:List bU):iQ fg l p true=(l,true):=by
 cases l<;>cases p<;>simp[iQ]
theorem acX (fg:bU)(p:List bU)(b:Bool):iQ fg [] p b=([],b):=by
 cases b<;>simp[iQ]
theorem apK {α:Type}(f:α->α){l:List α}{k:Nat}{x:α}(h:l[k]?=some x):((l.take k).map f++l.drop k).set k (f x)=(l.take (k+1)).map f++l.drop (k+1):=by
 obtain⟨aq,O⟩:=dK.1 h;have au:((l.take k).map f).length=k:=by rw[aj,hh];omega
 rw[CC _ _ (by omega),au,mE,hW aq,ug,ks,h,mq,gN]
 rfl
theorem apL {α:Type}(f:α->α){l:List α}{k:Nat}:((l.take k).map f++l.drop k)[k]?=l[k]?:=by
 rcases hV k (D l) with h|h
 ·have au:((l.take k).map f).length=k:=by rw[aj,hh];omega
  rw[rf (by omega),au,mE,uQ,om]
 ·rw[lL h,lL (by rw[hr,aj,hh,pL];omega)]
theorem UC {α:Type}{rows:List α}{r i:Nat}{x vx:α}(O:rows[i]?=some x)(oF:rows[r]?=some vx):((rows.set r x).set i vx)[r]?=some x:=by
 have E:=(dK.1 O).1;have H:=(dK.1 oF).1;rw[mo,mo,ja]
 by_cases h:i=r
 ·subst h;rw[O] at oF
  cases oF;rw[Z rfl,Z E]
 ·rw[aa h,Z rfl,Z H]
theorem UD {α:Type}{l:List α}{i:Nat}{x:α}(h:l[i]?=some x):l.set i x=l:=by
 obtain⟨aq,O⟩:=dK.1 h;apply ri;intro j;rw[mo]
 by_cases lO:i=j
 ·subst lO;rw[Z rfl,Z aq,h]
 ·rw[aa lO]
theorem apM (a b:Nat):(!(a+900000==129015)||decide (2<b*4))=true:=by
 have:(a+900000==129015)=false:=by simp
 rw[this];rfl
theorem UE:Fs 168004:=by unfold Fs;omega
theorem UF:Fs 168006:=by unfold Fs;omega
def dZ.sub:dZ->List Nat->dZ
 |.seq a _,0::p=>a.sub p
 |.seq _ b,_::p=>b.sub p
 |.cond _ a _,0::p=>a.sub p
 |.cond _ _ b,_::p=>b.sub p
 |.block _ c,_::p=>c.sub p
 |.ghost _ c,_::p=>c.sub p
 |.loop c,_::p=>c.sub p
 |c,_=>c
def apN (f:bU):List M:=[.I (.int .i64 f.1.1),.I (.af (f.1.2.map ad)),.I (.int .i64 f.2.1),.I (.af (f.2.2.map ad))]
theorem apO (T:bk)(vy:T z2=AB yZ)(kF:T tH=aW w3)(lr:T u4=aW w5){K:ev->a2->Prop}{kk:List fV}
  (go N r c i2:Nat) (mem:Mem) (AF:mem 168004=none) (AG:mem 168006=none) (gH:N<=40) (qP:List c6) (rL:jz N qP) (x y:c6) (fy:List bU) (xj:qP[i2]?=some y) (bw:qP[r]?=some (x.1,x.2.1,fy)) (CD:i2≠r) (sQ:r<N) (lq:Bool)
  (cF:Int) (cQ:List Int) (h0:Int) (kV:List Int) (n2:okF ((cF,cQ),(h0,kV))) (tm:Nat->M) (m:Mem) (bA:Nat)
  (b6:tm 0=.ptr 129015 0 0) (aw:tm 1=.I (.int .i64 r)) (aC:tm 2=.I (.int .i64 c)) (ij:tm 12=.ref (y.1+900000) y.2.1 4 0 (N+1)) (iR:tm 13=.ptr 148013 bA 0) (pd:tm 112=.ref 129035 go 1 0 N) (JA:tm 113=.I (.int .i64 N)) (JB:tm 114=.I (.int .i64 i2)) (xk:tm 14=.I (.int .i64 0))
  (em:m 148013=some (bA,[.I (.int .i64 cF),.I (.af (cQ.map ad)),.I (.int .i64 h0),.I (.af (kV.map ad))])) (fZ:jO mem go N qP lq m)
  (du:∀tm' m' l b,tm' 0=.ptr 129015 0 0->tm' 1=.I (.int .i64 r)->tm' 2=.I (.int .i64 c)->tm' 112=.ref 129035 go 1 0 N->tm' 113=.I (.int .i64 N)->tm' 114=.I (.int .i64 i2)->(l,b)=iQ ((cF,cQ),(h0,kV)) y.2.2 fy lq->jz N (qP.set i2 (y.1,y.2.1,l))->jO mem go N (qP.set i2 (y.1,y.2.1,l)) b m'->b8 T K kk (.exit 6) ⟨tm',m'⟩) :
  wp T (xa.body.sub [1,1,1,1,1,1,1,0,1,0,0,1,1,0,0,1,1,1,1,0]) (b8 T K kk) ⟨tm,m⟩:=by
 simp only[xa,dZ.sub];have apP:i2<N:=by rw[<-rL.len];exact (dK.1 xj).1
 obtain⟨zE,Nw⟩:=rL.row y (eL xj);have apQ:qP.set i2 (y.1,y.2.1,[]++y.2.2.drop 0)=qP:=UD xj
 refine dE [0,1,2,12,13,112,113,114] [148013] (λ((k,pre,b):Nat×List bU×Bool) tm m=>k<=N+1/\D pre=k/\(∀f∈pre,okF f)/\iQ ((cF,cQ),(h0,kV)) y.2.2 fy lq=(pre++(iQ ((cF,cQ),(h0,kV)) (y.2.2.drop k) (fy.drop k) b).1,(iQ ((cF,cQ),(h0,kV)) (y.2.2.drop k) (fy.drop k) b).2)/\tm 14=.I (.int .i64 k)/\jO mem go N (qP.set i2 (y.1,y.2.1,pre++y.2.2.drop k)) b m) (λ(k,_,_)=>N+1-k) (0,[],lq) (by
  refine⟨fr _,rfl,(by simp),rfl,xk,?_⟩;rw[apQ];exact fZ) ?_
 intro vs ms aV aR;simp only[go_sem,go_sem_proc,b6,aw,aC,ij,iR,pd,JA,JB,em] at aV aR;subst aV aR;clear b6 aw aC ij iR pd JA JB em xk fZ tm m;rintro⟨dV,pre,b⟩ tm ns J hm ⟨aDb,Ai,Fx,JC,ve,sR⟩;simp only[go_sem,go_sem_proc,bh] at J hm;obtain⟨ak,E,H,hB,nr,rM,rN,rO⟩:=J;have apR:(pre++y.2.2.drop dV).length=N+1:=by rw[hr,pL];omega
 have Fy:jz N (qP.set i2 (y.1,y.2.1,pre++y.2.2.drop dV)):=rL.set xj apR λf aJ=>by
  rw[jK] at aJ;rcases aJ with aJ|aJ
  ·exact Fx f aJ
  ·exact Nw f (IU aJ)
 have acY:(qP.set i2 (y.1,y.2.1,pre++y.2.2.drop dV))[i2]?=some (y.1,y.2.1,pre++y.2.2.drop dV):=by
  rw[mo,Z rfl,Z (by rw[rL.len];exact apP)]
 have wY:(qP.set i2 (y.1,y.2.1,pre++y.2.2.drop dV))[r]?=some (x.1,x.2.1,fy):=by
  rw[mo,aa CD];exact bw
 have qQ:=sR.1.m;have sS:=sR.1.o;rcases dQ (dV<N+1) with apS|aDc
 ·have y1:decide ((dV:Int)<((N+1:Nat):Int))=true:=dg
  cases b
  ·obtain⟨⟨⟨db,dH⟩,⟨fk,fM⟩⟩,sT⟩:∃f,y.2.2[dV]?=some f:=⟨_,bs (by omega)⟩;have aDd:(D fy)=N+1:=(rL.row _ (eL bw)).1;obtain⟨⟨⟨js,iX⟩,⟨p1,CE⟩⟩,kW⟩:∃f,fy[dV]?=some f:=⟨_,bs (by omega)⟩;have tv:=Nw _ (eL sT);have acZ:=(rL.row _ (eL bw)).2 _ (eL kW)
   have UG:(pre++y.2.2.drop dV)[dV]?=some ((db,dH),(fk,fM)):=by
    rw[rf (by omega),Ai,mE,uQ,om,sT]
   have jM:y.2.2.drop dV=((db,dH),(fk,fM))::y.2.2.drop (dV+1):=by
    obtain⟨au,e⟩:=dK.1 sT;rw[hW au,e]
   have mh:fy.drop dV=((js,iX),(p1,CE))::fy.drop (dV+1):=by
    obtain⟨au,e⟩:=dK.1 kW;rw[hW au,e]
   have kN:∀s:bU,(pre++y.2.2.drop dV).set dV s=(pre++[s])++y.2.2.drop (dV+1):=λs=>by
    rw[CC _ _ (by omega),Ai,mE,jM,ug,gN];rfl
   have apT:=sR.1.r _ (eL acY);have apU:=sR.1.r _ (eL wY);have iD:ns 168004=none:=(sR.2 _ UE).trans AF;have AH:ns 168006=none:=(sR.2 _ UF).trans AG;have t1:=Fw (N:=N) wY;have t2:=CB (N:=N) (rows:=qP.set i2 (y.1,y.2.1,pre++y.2.2.drop dV)) (i:=r) (by rw[Fy.len];exact sQ);have t3:=Fv UG;have t4:=Fu (l:=pre++y.2.2.drop dV) (k:=dV) (by omega);have t5:=Fv kW;have t6:=Fu (l:=fy) (k:=dV) (by omega);have iY:=fW (i:=dV) (by omega);have UH:=apJ ((cF,cQ),(h0,kV)) ((js,iX),(p1,CE));have UI:=acT ((db,dH),(fk,fM)) (nx ((cF,cQ),(h0,kV)) ((js,iX),(p1,CE))).1;have JD:=JC;rw[jM,mh] at JD;simp only[iQ] at JD;generalize mg:nx ((cF,cQ),(h0,kV)) ((js,iX),(p1,CE))=a8 at *;obtain⟨⟨⟨oo,iy⟩,⟨apV,apW⟩⟩,aw⟩:=a8;dsimp only at UI JD UH;generalize cB:oB ((db,dH),(fk,fM)) ((oo,iy),(apV,apW))=S at *;obtain⟨⟨⟨v1,v2⟩,⟨uh,v4⟩⟩,aC⟩:=S;dsimp only at UI JD;have t7:=UA (l:=pre++y.2.2.drop dV) (k:=dV) (by omega) v1 v2 uh v4;refine a9 ?_;repeat' (intro h<;>simp only[h,go_sem,go_sem_proc,vy,lr,kF,ak,E,H,hB,nr,ve,rM,rN,rO,hm,qQ,sS,apT,apU,iD,AH,t1,t2,t3,t4,t5,t6,t7,y1,apS,sQ,iY,mg,cB,tv.1,tv.2,acZ.1,acZ.2,n2.1,n2.2,UH.1,UH.2,apN,eh,aL,cM,yZ,Fz,ug,decide_true,decide_false,ac0,ne_eq,not_false_eq_true,and_self]<;>try refine av ?_ ?_)
   have dS:=jO.set Fy acY ((pre++y.2.2.drop dV).set dV ((v1,v2),(uh,v4))) ((sR.flag (aw != 0)).flag (aw != 0||aC != 0));rw[ac1,kN] at dS;refine⟨apM _ _,(dV+1,pre++[((v1,v2),(uh,v4))],(aw != 0||aC != 0)),by dsimp only;omega,by dsimp only;omega,by simp[Ai],?_,?_,rfl,?_⟩
   ·intro f aJ;rw[jK,yG] at aJ;rcases aJ with aJ|rfl
    ·exact Fx f aJ
    ·exact UI
   ·rw[JD];dsimp only;rw[gN]
    rfl
   ·dsimp only;rw[kN];exact dS
  ·rw[UB] at JC;refine a9 ?_;repeat' (intro h<;>simp only[h,go_sem,go_sem_proc,ak,E,H,hB,nr,ve,rM,rN,rO,qQ,sS,y1]<;>try refine av ?_ ?_)
   refine du _ _ (pre++y.2.2.drop dV) true ?_ ?_ ?_ ?_ ?_ ?_ JC.symm Fy sR<;>simp only[eQ,dA,if_false,ak,E,H,rM,rN,rO]
 ·have y1:decide ((dV:Int)<((N+1:Nat):Int))=false:=c1;have g6:y.2.2.drop dV=[]:=k7 (by omega);rw[g6,acX,<-g6] at JC;refine a9 ?_;repeat' (intro h<;>simp only[h,go_sem,go_sem_proc,ak,E,H,hB,nr,ve,rM,rN,rO,qQ,sS,y1]<;>try refine av ?_ ?_)
  refine du _ _ (pre++y.2.2.drop dV) b ?_ ?_ ?_ ?_ ?_ ?_ JC.symm Fy sR<;>simp only[eQ,dA,if_false,ak,E,H,rM,rN,rO]
theorem apX (T:bk)(xl:T Ik=aW Nm)(vy:T z2=AB yZ)(kF:T tH=aW w3)(lr:T u4=aW w5){K:ev->a2->Prop}{kk:List fV}
  (go N r c:Nat) (mem:Mem) (AF:mem 168004=none) (AG:mem 168006=none) (gH:N<=40) (sQ:r<N) (y2:c<N+1) (iq:List c6) (CF:jz N iq) (x:c6) (fy:List bU) (je:iq[r]?=some (x.1,x.2.1,fy)) (FA:Bool) (tm:Nat->M) (m:Mem)
  (b6:tm 0=.ptr 129015 0 0) (aw:tm 1=.I (.int .i64 r)) (aC:tm 2=.I (.int .i64 c)) (pd:tm 112=.ref 129035 go 1 0 N) (JA:tm 113=.I (.int .i64 N)) (JB:tm 114=.I (.int .i64 0)) (fZ:jO mem go N iq FA m)
  (du:∀tm' m',jO mem go N (jA fy r c 0 iq FA).1 (jA fy r c 0 iq FA).2 m'->b8 T K kk (.exit 4) ⟨tm',m'⟩) :
  wp T (xa.body.sub [1,1,1,1,1,1,1,0,1,0]) (b8 T K kk) ⟨tm,m⟩:=by
 simp only[xa,dZ.sub]
 refine dE [0,1,2,112,113] [] (λ((i2,pe,lq):Nat×List c6×Bool) tm m=>i2<=N/\D pe=i2/\jA fy r c 0 iq FA=(pe++(jA fy r c i2 (iq.drop i2) lq).1,(jA fy r c i2 (iq.drop i2) lq).2)/\jz N (pe++iq.drop i2)/\(pe++iq.drop i2)[r]?=some (x.1,x.2.1,fy)/\tm 114=.I (.int .i64 i2)/\jO mem go N (pe++iq.drop i2) lq m) (λ(i2,_,_)=>N-i2) (0,[],FA) (by
  exact⟨fr _,rfl,rfl,CF,je,JB,fZ⟩) ?_
 intro vs ms aV aR;simp only[go_sem,go_sem_proc,b6,aw,aC,pd,JA] at aV aR;subst aV aR;clear b6 aw aC pd JA JB fZ tm m;rintro⟨i2,pe,lq⟩ tm cn J hm ⟨ng,lh,km,rL,bw,rO,ui⟩;simp only[go_sem,go_sem_proc,bh] at J hm;obtain⟨ak,E,H,rM,rN⟩:=J;have qQ:=ui.1.m;have sS:=ui.1.o;have aDe:(D iq)=N:=CF.len;rcases dQ (i2<N) with FB|aDf
 ·obtain⟨y,ao⟩:∃y,iq[i2]?=some y:=⟨_,bs (by omega)⟩
  have EV:iq.drop i2=y::iq.drop (i2+1):=by
   obtain⟨au,rfl⟩:=dK.1 ao;exact hW au
  have xj:(pe++iq.drop i2)[i2]?=some y:=by
   rw[rf (by omega),lh,mE,uQ,om,ao]
  obtain⟨zE,Nw⟩:=rL.row y (eL xj);have JE:=ui.1.r y (eL xj);obtain⟨⟨⟨cF,cQ⟩,⟨h0,kV⟩⟩,aX⟩:∃f,y.2.2[c]?=some f:=⟨_,bs (by omega)⟩;have vh:=Uz aX;have t1:=Fw (N:=N) xj;have t2:=CB (N:=N) (rows:=pe++iq.drop i2) (i:=i2) (by rw[rL.len];exact FB);have t3:=Fv aX;have t4:=Fu (l:=y.2.2) (k:=c) (by omega);have jN:decide ((i2:Int)<(N:Int))=true:=dg;have hw:=fW (i:=i2) (by omega)
  have x2:∀z:c6,(pe++[z])++iq.drop (i2+1)=(pe++iq.drop i2).set i2 z:=λz=>by
   rw[CC _ _ (by omega),lh,mE,EV,ug,gN];rfl
  have FC:(pe++[y])++iq.drop (i2+1)=pe++iq.drop i2:=by rw[x2];exact UD xj
  have ac2:∀b:Bool,(b=true->i2=r\/(cF==0)=true)->b=true->jA fy r c 0 iq FA=((pe++[y])++(jA fy r c (i2+1) (iq.drop (i2+1)) lq).1,(jA fy r c (i2+1) (iq.drop (i2+1)) lq).2):=by
   intro b ae Uc
   have UJ:(i2==r||mX (cellOf y c))=true:=by
    rcases ae Uc with h|h
    ·rw[h,beq_self_eq_true];rfl
    ·rw[vh];have:mX ((cF,cQ),(h0,kV))=true:=h;rw[this,Bool.or_true]
   rw[km,EV];simp only[jA];rw[Z UJ,gN]
   rfl
  rcases pf:((i2:Int)==(r:Int))
  ·have CD:i2≠r:=by intro h;rw[h] at pf;simp at pf
   rcases JF:(cF==0)
   ·have n2:okF ((cF,cQ),(h0,kV)):=Nw _ (eL aX);simp only[go_sem,go_sem_proc,xl,ak,E,H,rM,rN,rO,qQ,sS,JE,t1,t2,t3,t4,FB,jN,y2,pf,JF,cM];refine apO T vy kF lr go N r c i2 mem AF AG gH (pe++iq.drop i2) rL x y fy xj bw CD sQ lq cF cQ h0 kV n2 _ _ (gh (cn 148013)) ?_ ?_ ?_ ?_ ?_ ?_ ?_ ?_ ?_ ?_ ((ui.own (.inr (.inr rfl))).own (.inr (.inr rfl))) ?_
    ·exact ak
    ·exact E
    ·exact H
    ·rfl
    ·rfl
    ·exact rM
    ·exact rN
    ·exact rO
    ·rfl
    ·simp[a3]
    ·intro tm' m' l b ff cH dc JG ac3 ac4 mR Fy sR;simp only[go_sem,go_sem_proc,ak,E,H,ff,cH,dc,JG,ac3,ac4,hw];repeat' (first|refine av ?_ ?_|fail)<;>intro h<;>simp only[h,go_sem,go_sem_proc,ak,E,H,ff,cH,dc,JG,ac3,ac4,hw]
     refine⟨(i2+1,pe++[(y.1,y.2.1,l)],b),by dsimp only;omega,by dsimp only;omega,by simp[lh],?_,by dsimp only;rw[x2];exact Fy,by dsimp only;rw[x2,mo,aa CD];exact bw,rfl,?_⟩
     ·have UJ:¬ (i2==r||mX (cellOf y c))=true:=by
       rw[vh];have E:mX ((cF,cQ),(h0,kV))=false:=JF;have H:(i2==r)=false:=by simpa using CD
       rw[E,H];simp
      rw[km,EV];simp only[jA];rw[aa UJ,vh,<-mR,gN]
      rfl
     ·dsimp only;rw[x2];exact sR
   ·simp only[go_sem,go_sem_proc,xl,ak,E,H,rM,rN,rO,qQ,sS,JE,t1,t2,t3,t4,FB,jN,y2,hw,pf,JF,cM];repeat' (first|refine av ?_ ?_|fail)<;>intro h<;>simp only[h,go_sem,go_sem_proc,xl,ak,E,H,rM,rN,rO,qQ,sS,JE,t1,t2,t3,t4,FB,jN,y2,hw,pf,JF,cM]
    refine⟨(i2+1,pe++[y],lq),by dsimp only;omega,by dsimp only;omega,by simp[lh],ac2 true (λ_ => .inr JF) rfl,by dsimp only;rw[FC];exact rL,by dsimp only;rw[FC];exact bw,rfl,?_⟩
    dsimp only;rw[FC];exact (ui.own (.inr (.inr rfl))).own (.inr (.inr rfl))
  ·have CD:i2=r:=by have h:=beq_iff_eq.1 pf;omega
   simp only[go_sem,go_sem_proc,xl,ak,E,H,rM,rN,rO,qQ,sS,JE,t1,t2,t3,t4,FB,jN,y2,hw,pf,cM];repeat' (first|refine av ?_ ?_|fail)<;>intro h<;>simp only[h,go_sem,go_sem_proc,xl,ak,E,H,rM,rN,rO,qQ,sS,JE,t1,t2,t3,t4,FB,jN,y2,hw,pf,cM]
   refine⟨(i2+1,pe++[y],lq),by dsimp only;omega,by dsimp only;omega,by simp[lh],ac2 true (λ_ => .inl CD) rfl,by dsimp only;rw[FC];exact rL,by dsimp only;rw[FC];exact bw,rfl,?_⟩
   dsimp only;rw[FC];exact (ui.own (.inr (.inr rfl))).own (.inr (.inr rfl))
 ·have b9:i2=N:=by omega
  have jN:decide ((i2:Int)<(N:Int))=false:=c1;have LG:iq.drop i2=[]:=k7 (by omega);rw[LG] at km ui;simp only[jA,h1] at km ui;rw[km] at du;simp only[go_sem,go_sem_proc,ak,E,H,rM,rN,rO,qQ,sS,jN];repeat' (first|refine av ?_ ?_|fail)<;>intro h<;>simp only[h,go_sem,go_sem_proc,ak,E,H,rM,rN,rO,qQ,sS,jN]
  exact du _ _ ui
theorem apY (T:bk)(vy:T z2=AB yZ)(oG:T BS=aW Cs){K:ev->a2->Prop}{kk:List fV}
  (go N r c:Nat) (mem:Mem) (AF:mem 168004=none) (AG:mem 168006=none) (gH:N<=40) (sQ:r<N) (hR:List c6) (FE:jz N hR) (x:c6) (xm:hR[r]?=some x) (f1:Int) (f2:List Int) (f3:Int) (f4:List Int) (g5:okF ((f1,f2),(f3,f4))) (tm:Nat->M) (m:Mem) (bA:Nat)
  (b6:tm 0=.ptr 129015 0 0) (aw:tm 1=.I (.int .i64 r)) (aC:tm 2=.I (.int .i64 c)) (dR:tm 8=.ptr 148008 bA 0) (ac5:tm 85=.ref (x.1+900000) x.2.1 4 0 (N+1)) (ac6:tm 86=.I (.int .i64 ((N+1:Nat):Int))) (ac7:tm 87=.I (.int .i64 0))
  (em:m 148008=some (bA,[.I (.int .i64 f1),.I (.af (f2.map ad)),.I (.int .i64 f3),.I (.af (f4.map ad))])) (fZ:jO mem go N hR false m)
  (du:∀tm' m',tm' 0=.ptr 129015 0 0->tm' 1=.I (.int .i64 r)->tm' 2=.I (.int .i64 c)->jz N (hR.set r (x.1,x.2.1,(hH ((f1,f2),(f3,f4)) x.2.2).1))->jO mem go N (hR.set r (x.1,x.2.1,(hH ((f1,f2),(f3,f4)) x.2.2).1)) (hH ((f1,f2),(f3,f4)) x.2.2).2 m'->b8 T K kk (.exit 2) ⟨tm',m'⟩) :
  wp T (xa.body.sub [1,1,1,1,1,1,0,1,0]) (b8 T K kk) ⟨tm,m⟩:=by
 simp only[xa,dZ.sub];obtain⟨zD,FF⟩:=FE.row x (eL xm)
 have apZ:∀l:List bU,(hR.set r (x.1,x.2.1,l))[r]?=some (x.1,x.2.1,l):=λl=>by
  rw[mo,Z rfl,Z (by rw[FE.len];exact sQ)]
 refine dE [0,1,2,8,85,86] [148008] (λ(k:Nat) tm m=>k<=N+1/\tm 87=.I (.int .i64 k)/\jO mem go N (hR.set r (x.1,x.2.1,(x.2.2.take k).map (λf=>(jw f ((f1,f2),(f3,f4))).1)++x.2.2.drop k)) ((x.2.2.take k).any λf=>(jw f ((f1,f2),(f3,f4))).2 != 0) m) (λk=>N+1-k) 0 (by
  refine⟨fr _,ac7,?_⟩;have e:hR.set r (x.1,x.2.1,(x.2.2.take 0).map (λf=>(jw f ((f1,f2),(f3,f4))).1)++x.2.2.drop 0)=hR:=UD xm;rw[e];exact fZ) ?_
 intro vs ms aV aR;simp only[go_sem,go_sem_proc,b6,aw,aC,dR,ac5,ac6,em] at aV aR;subst aV aR;clear b6 aw aC dR ac5 ac6 ac7 em fZ tm m;rintro k tm m J hm ⟨n4,ac8,fZ⟩;simp only[go_sem,go_sem_proc,bh] at J hm;obtain⟨ak,E,H,bW,ac9,ada⟩:=J
 have eb:((x.2.2.take k).map (λf=>(jw f ((f1,f2),(f3,f4))).1)++x.2.2.drop k).length=N+1:=by
  rw[hr,aj,hh,pL];omega
 have CF:jz N (hR.set r (x.1,x.2.1,(x.2.2.take k).map (λf=>(jw f ((f1,f2),(f3,f4))).1)++x.2.2.drop k)):=by
  refine FE.set xm eb λf aJ=>?_;rw[jK] at aJ;rcases aJ with aJ|aJ
  ·obtain⟨gK,-,rfl⟩:=fO.1 aJ;exact acU _ _
  ·exact FF f (IU aJ)
 have je:=apZ ((x.2.2.take k).map (λf=>(jw f ((f1,f2),(f3,f4))).1)++x.2.2.drop k);rcases dQ (k<N+1) with ap0|aDg
 ·obtain⟨⟨⟨db,dH⟩,⟨fk,fM⟩⟩,sT⟩:∃f,x.2.2[k]?=some f:=⟨_,bs (by omega)⟩;have UG:=(apL (λf=>(jw f ((f1,f2),(f3,f4))).1) (l:=x.2.2) (k:=k)).trans sT;have kN:=apK (λf=>(jw f ((f1,f2),(f3,f4))).1) sT
  have HW:(x.2.2.take (k+1)).any (λf=>(jw f ((f1,f2),(f3,f4))).2 != 0)=((x.2.2.take k).any (λf=>(jw f ((f1,f2),(f3,f4))).2 != 0)||(jw ((db,dH),(fk,fM)) ((f1,f2),(f3,f4))).2 != 0):=by
   rw[ks,sT,List.any_append];simp
  obtain⟨ap1,ap2⟩:=FF _ (eL sT);generalize (x.2.2.take k).map (λf=>(jw f ((f1,f2),(f3,f4))).1)++x.2.2.drop k=cur at *;generalize ((x.2.2.take k).any λf=>(jw f ((f1,f2),(f3,f4))).2 != 0)=lq at *;have qQ:=fZ.1.m;have sS:=fZ.1.o;have ap3:=fZ.1.r _ (eL je);have iD:m 168004=none:=(fZ.2 _ UE).trans AF;have AH:m 168006=none:=(fZ.2 _ UF).trans AG;have t1:=Fw (N:=N) je;have t2:=CB (N:=N) (rows:=hR.set r (x.1,x.2.1,cur)) (i:=r) (by rw[CF.len];exact sQ);have t3:=Fv UG;have t4:=Fu (l:=cur) (k:=k) (by omega);have y1:decide ((k:Int)<((N+1:Nat):Int))=true:=dg;have hw:=fW (i:=k) (by omega);generalize qC:jw ((db,dH),(fk,fM)) ((f1,f2),(f3,f4))=V at *;obtain⟨⟨⟨v1,v2⟩,⟨uh,v4⟩⟩,sL⟩:=V;dsimp only at kN HW;have t5:=UA (l:=cur) (k:=k) (by omega) v1 v2 uh v4;refine a9 ?_;repeat' (intro h<;>simp only[h,go_sem,go_sem_proc,vy,oG,ak,E,H,bW,ac9,ada,ac8,hm,qQ,sS,ap3,iD,AH,t1,t2,t3,t4,t5,y1,ap0,sQ,hw,qC,ap1,ap2,g5.1,g5.2,eh,aL,cM,yZ,Fz,ug,decide_true,decide_false,ac0,ne_eq,not_false_eq_true,and_self]<;>try refine av ?_ ?_)
  have aw:=jO.set CF je (cur.set k ((v1,v2),(uh,v4))) (((fZ.own (k:=148010) (g:=gh (m 148010)) (cs:=[M.I (Data.int IntKind.i64 0),M.nil,M.I (Data.int IntKind.i64 0),M.nil]) (.inr (.inl rfl))).own (k:=148010) (g:=gh (m 148010)) (cs:=[M.I (Data.int IntKind.i64 db),M.I (Data.af (xn ad dH)),M.I (Data.int IntKind.i64 fk),M.I (Data.af (xn ad fM))]) (.inr (.inl rfl))).flag (lq||sL != 0));rw[ac1,kN] at aw;refine⟨k+1,by omega,by omega,rfl,?_⟩
  show jO mem go N _ ((x.2.2.take (k+1)).any λf=>(jw f ((f1,f2),(f3,f4))).2 != 0) _;rw[HW,kN];exact aw
 ·have adb:k=N+1:=by omega
  have ap4:(x.2.2.take k).map (λf=>(jw f ((f1,f2),(f3,f4))).1)++x.2.2.drop k=(hH ((f1,f2),(f3,f4)) x.2.2).1:=by
   unfold hH;rw[dD (by omega),k7 (by omega),h1]
  have ap5:((x.2.2.take k).any λf=>(jw f ((f1,f2),(f3,f4))).2 != 0)=(hH ((f1,f2),(f3,f4)) x.2.2).2:=by
   unfold hH;rw[dD (by omega)]
  rw[ap4] at CF fZ;rw[ap5] at fZ;have y1:decide ((k:Int)<((N+1:Nat):Int))=false:=c1;refine a9 ?_;repeat' (intro h<;>simp only[h,go_sem,go_sem_proc,ak,E,H,bW,ac9,ada,ac8,hm,y1]<;>try refine av ?_ ?_)
  refine du _ _ ?_ ?_ ?_ CF fZ<;>simp only[eQ,dA,if_false,ak,E,H]
theorem ap6 (T:bk)(xl:T Ik=aW Nm)(vy:T z2=AB yZ)(oG:T BS=aW Cs)(kF:T tH=aW w3)(lr:T u4=aW w5)
  (go N:Nat) (rows:List c6) (r c:Nat) (ec:Mem) (cX:jz N rows) (bF:y0 go N rows false ec) (AF:ec 168004=none) (AG:ec 168006=none) (gH:N<=40) (mF:r<=c) (ap7:c<N) :
  wp T xa.body (rG xa.res λm mem'=>m=.I (.bool (im rows r c).1)/\jO ec go N (im rows r c).2.1 (im rows r c).2.2 mem') ⟨mA [.ptr 129015 0 0,.I (.int .i64 r),.I (.int .i64 c)],ec⟩:=by
 refine wq ?_;simp only[xa];simp only[go_sem,go_sem_proc];refine dE [0,1,2] [] (λ(i:Nat) tm mem=>r<=i/\i<=N/\(∀j y,r<=j->j<i->rows[j]?=some y->mX (cellOf y c)=true)/\tm 7=.I (.int .i64 i)/\mem=ec) (λi=>N-i) r (by refine⟨bP _,by omega,λj y E H=>by omega,rfl,rfl⟩) ?_;intro vs ms aV aR;simp only[go_sem,go_sem_proc] at aV aR;subst aV aR;rintro i tm mem J hm ⟨hZ,ade,aQ,bC,rfl⟩;simp only[go_sem,go_sem_proc,bh] at J hm;obtain⟨ak,E,H⟩:=J;have sU:=bF.m;have JH:=bF.o;have hlen:=cX.len;rcases dQ (i<N) with aq|ck
 ·have O:∃x,rows[i]?=some x:=⟨_,bs (by omega)⟩;obtain⟨x,O⟩:=O;obtain⟨zD,FF⟩:=cX.row x (eL O);have AJ:=bF.r x (eL O);have aJ:∃f,x.2.2[c]?=some f:=⟨_,bs (by omega)⟩;obtain⟨⟨⟨f1,f2⟩,⟨f3,f4⟩⟩,aJ⟩:=aJ;have adf:=Fw (N:=N) O;have adg:=CB (N:=N) (rows:=rows) (i:=i) (by omega);have adh:=Fv aJ;have adi:=Fu (l:=x.2.2) (k:=c) (by omega);have tx:=Uz aJ;have gZ:decide ((i:Int)<(N:Int))=true:=dg;have y2:c<N+1:=by omega
  rcases sw:(f1==0)
  ·have ap8:findAt rows r c=i:=apF O hZ aQ (by rw[tx];exact sw);obtain⟨vx,oF⟩:∃x,rows[r]?=some x:=⟨_,bs (by omega)⟩
   have jB:im rows r c=(false,jA (hH ((f1,f2),(f3,f4)) x.2.2).1 r c 0 (((rows.set r x).set i vx).set r (x.1,x.2.1,(hH ((f1,f2),(f3,f4)) x.2.2).1)) (hH ((f1,f2),(f3,f4)) x.2.2).2):=by
    unfold im CA;rw[aa (by omega),ap8];have:rowAt (p0 rows r i) r=x:=vw (by unfold p0;rw[vw O,vw oF];exact UC O oF);rw[this,tx];unfold p0;rw[vw O,vw oF]
   rw[jB];clear jB;have FE:jz N ((rows.set r x).set i vx):=cX.swap oF O;have ap9:jO mem go N ((rows.set r x).set i vx) false _:=jO.swap oF O ⟨bF,λ_ _=>rfl⟩;have xm:((rows.set r x).set i vx)[r]?=some x:=UC O oF;have sQ:r<N:=by omega
   have s1:=Fw (N:=N) oF;have s2:=CB (N:=N) (rows:=rows) (i:=r) (by omega);have cP:=acV (N:=N) (rows:=rows) (i:=r) (by omega) x;have cS:=CB (N:=N) (rows:=rows.set r x) (i:=i) (by rw[ja];omega);have aqa:=acV (N:=N) (rows:=rows.set r x) (i:=i) (by rw[ja];omega) vx;have aqb:=Fw (N:=N) xm;have aqc:=CB (N:=N) (rows:=(rows.set r x).set i vx) (i:=r) (by rw[ja,ja];omega);generalize y3:(rows.set r x).set i vx=hR at *;have g5:=FF _ (eL aJ);have aDh:decide ((i:Int)<(N:Int))=true:=gZ;have aqd:((i:Int)==(N:Int))=false:=by simp;omega
   simp only[go_sem,go_sem_proc,xl,vy,ak,E,H,bC,sU,JH,AJ,adf,adg,adh,adi,aq,gZ,y2,sw,cM,sQ,s1,s2,cP,cS,aqa,aqb,aqc,aqd];refine apY T vy oG go N r c mem AF AG gH sQ hR FE x xm f1 f2 f3 f4 g5 _ _ (gh (mem 148008)) ?_ ?_ ?_ ?_ ?_ ?_ ?_ ?_ ((ap9.own (.inl rfl)).own (.inl rfl)) ?_
   ·exact ak
   ·exact E
   ·exact H
   ·rfl
   ·rfl
   ·rfl
   ·rfl
   ·simp[a3]
   intro tm' m' ff cH dc rL ui;have qQ:=ui.1.m
   have bw:(hR.set r (x.1,x.2.1,(hH ((f1,f2),(f3,f4)) x.2.2).1))[r]?=some (x.1,x.2.1,(hH ((f1,f2),(f3,f4)) x.2.2).1):=by
    rw[mo,Z rfl,Z (by rw[FE.len];exact sQ)]
   simp only[go_sem,go_sem_proc,ff,cH,dc,qQ];refine apX T xl vy kF lr go N r c mem AF AG gH sQ y2 _ rL x _ bw _ _ _ ?_ ?_ ?_ ?_ ?_ ?_ ui ?_
   ·exact ff
   ·exact cH
   ·exact dc
   ·rfl
   ·rfl
   ·rfl
   intro aDi ns sR;refine a9 ?_;repeat' (intro h<;>simp only[h,go_sem,go_sem_proc]<;>try refine av ?_ ?_)
   exact⟨_,rfl,rfl,sR⟩
  ·have hw:=fW (i:=i) (by omega);refine a9 ?_;repeat' (intro h<;>simp only[h,go_sem,go_sem_proc,xl,vy,ak,E,H,bC,sU,JH,AJ,adf,adg,adh,adi,aq,gZ,y2,sw,hw,cM]<;>try refine av ?_ ?_)
   refine⟨i+1,by omega,by omega,by omega,?_,rfl⟩
   intro j y aqe tB ao
   by_cases j1:j=i
   ·subst j1;rw[O] at ao
    cases ao;rw[tx];exact sw
   ·exact aQ j y aqe (by omega) ao
 ·have aqf:i=N:=by omega
  subst aqf;have gZ:decide ((i:Int)<(i:Int))=false:=c1;have sV:=apG (rows:=rows) (r:=r) (c:=c) (by omega) (λj y ai ao=>aQ j y ai (by have:=(dK.1 ao).1;omega) ao);have aB:im rows r c=(true,rows,false):=by unfold im;rw[Z sV]
  rw[aB];refine a9 ?_;repeat' (intro h<;>simp only[h,go_sem,go_sem_proc,xl,vy,ak,E,H,bC,sU,JH,gZ,beq_self_eq_true]<;>try refine av ?_ ?_)
  exact⟨_,rfl,rfl,bF,λ_ _=>rfl⟩
structure Nx where
 go:Nat
 N:Nat
 rows:List c6
 r:Nat
 c:Nat
def UK (a:Nx)(mem:Mem):Prop:=jz a.N a.rows/\y0 a.go a.N a.rows false mem/\mem 168004=none/\mem 168006=none/\a.N<=40/\a.r<=a.c/\a.c<a.N
def UL (a:Nx)(mem:Mem):M->Mem->Prop:=λm mem'=>m=.I (.bool (im a.rows a.r a.c).1)/\jO mem a.go a.N (im a.rows a.r a.c).2.1 (im a.rows a.r a.c).2.2 mem'
def JI:List M->Mem->Option (M->Mem->Prop):=yY (λ(a:Nx) args mem=>args=[.ptr 129015 0 0,.I (.int .i64 a.r),.I (.int .i64 a.c)]/\UK a mem) UL
theorem aqg {N:Nat}{a b:List c6}(h:refsOf N a=refsOf N b):a.map (λx=>(x.1,x.2.1))=b.map λx=>(x.1,x.2.1):=by
 induction a generalizing b with
 |nil=>cases b with
  |nil=>rfl
  |cons y r=>simp[refsOf] at h
 |cons x a ay=>cases b with
  |nil=>simp[refsOf] at h
  |cons y b =>
   simp only[refsOf,e5,bh,M.ref.injEq] at h;have E:x.1=y.1:=by have:=h.1.1;simp only[Key] at this;omega
   simp only[e5,bh,fu];exact⟨⟨E,h.1.2.1⟩,ay h.2⟩
theorem aqh (a:Nx)(mem:Mem)(h:UK a mem):JI [.ptr 129015 0 0,.I (.int .i64 a.r),.I (.int .i64 a.c)] mem=some (UL a mem):=by
 unfold JI;refine apz (a:=a) ?_ ⟨rfl,h⟩;rintro a b args mem ⟨E,H,ab,_⟩ ⟨aM,bl,bI,_⟩;rw[E] at aM;simp only[bh,M.I.injEq,Data.int.injEq,true_and,and_true] at aM;have hm:=ab.m;rw[bI.m] at hm;simp only[cb,fu,bh,M.ref.injEq,true_and,and_true] at hm;obtain⟨⟨aX,aG⟩,-⟩:=hm;have bx:=ab.o;rw[bI.o] at bx;simp only[cb,fu] at bx;obtain⟨dC,aDj,UM,db,dH⟩:=a;obtain⟨aDk,aDl,UN,dP,gV⟩:=b;dsimp only at *;subst aX aG
 have Y:UN=UM:=by
  have bC:=aqg bx.2;have au:(D UN)=D UM:=by have:=congrArg D bC;simpa using this
  apply List.ext_getElem au;intro i qt ng;have bW:(UN.map λx=>(x.1,x.2.1))[i]?=(UM.map λx=>(x.1,x.2.1))[i]?:=by rw[bC]
  rw[a5,a5,bs qt,bs ng] at bW;simp only[jo,cb,fu] at bW;have fb:=bI.r _ (mD qt);have ew:=ab.r _ (mD ng);rw[bW.1,ew] at fb;simp only[cb,fu] at fb;have:=apE fb.2;exact eS bW.1 (eS bW.2 this.symm)
 subst Y;have aw:db=dP:=by omega
 have aC:dH=gV:=by omega
 subst aw aC
 rfl
theorem aqi {args:List M}{mem:Mem}{bZ:M->Mem->Prop}(h:JI args mem=some bZ):∃a,args=[.ptr 129015 0 0,.I (.int .i64 a.r),.I (.int .i64 a.c)]/\UK a mem/\bZ=UL a mem:=by
 obtain⟨a,⟨E,H⟩,ab⟩:=Ux h;exact⟨a,E,H,ab⟩
theorem adj (l:List bU):((l.map aL).all λe=>D e==4)=true:=by simp[aL]
abbrev UO:List bU->List Data:=λ(l:List bU)=>[.af (l.map aL)]
def Ny:=cy UO λ(l:List bU)=>cT (D l<=1000000) (.own 4 (l.map aL))
theorem aqj:∀a b,UO a=UO b->a=b:=by
  intro eB al h;exact map_inj vo _ _ (by simpa using h)
@[go_sem] theorem aDm (l:List bU)(G:(D l)<=1000000):Ny [.af (l.map aL)]=some (.own 4 (l.map aL)):=(cI aqj l).trans (cY G _)
theorem aqk (T:bk)  (l:List bU) (G:(D l)<=1000000):WP T R4 (.own 4 (l.map aL)) [.I (.af (l.map aL))]:=by
 refine cC ?_;simp only[R4]
 have di:l5 147005 0 4 0 64 (D l) ((l.map aL).flatten.map .I) (some (0,[]))=some (.ref 147005 1 4 0 (D l),some (147005,1,aY aL l)):=by
  have:=Eh mU Fb 147005 0 64 [] l (by simp;omega) (by simp;omega)
  simpa [aY] using this
 have hlen:(aY aL l).length=D l*4:=ld mU l;refine a9 ?_;repeat' (intro h<;>simp only[h,go_sem,go_sem_proc,adj,di,aj]<;>try refine av ?_ ?_)
 rintro b ae
 cases b
 ·refine a9 ?_;repeat' (intro h<;>simp only[h,go_sem,go_sem_proc,adj,di,aj,oW,hlen]<;>try refine av ?_ ?_)
  rw[Z (by omega),dD (by omega)];unfold aY;rw[wC _ λd=>rfl];have:=zY (sz:=4) (l.map aL) (by intro e he;obtain⟨f,-,rfl⟩:=fO.1 he;rfl);rw[aj] at this;simp[this]
 ·cases l with
  |nil =>
       refine a9 ?_;repeat' (intro h<;>simp only[h,go_sem,go_sem_proc,oW,cl]<;>try refine av ?_ ?_)
  |cons x r=>simp at ae
def g9 (rs:List eC):List c6:=rs.zipIdx.map λp=>(p.2,0,p.1.1++[p.1.2])
theorem CG (rs:List eC):(g9 rs).length=D rs:=by simp[g9]
theorem adk {rs:List eC}{i:Nat}{r:eC}(h:rs[i]?=some r):(g9 rs)[i]?=some (i,0,r.1++[r.2]):=by
 unfold g9;rw[a5,UP,h];simp
theorem UQ {rs:List eC}{i:Nat}{r:eC}(h:rs[i]?=some r):(g9 rs).take (i+1)=(g9 rs).take i++[(i,0,r.1++[r.2])]:=by
 rw[ks,adk h]
 rfl
theorem aql {rs:List eC}{i:Nat}{x:c6}(h:x∈(g9 rs).take i):x.1<i/\x.2.1=0:=by
 obtain⟨j,ai⟩:=tF.1 h;rw[List.getElem?_take] at ai
 split at ai
 ·rename_i j1;unfold g9 at ai;rw[a5,UP] at ai
  cases Y:rs[j]? with
  |none=>rw[Y] at ai;cases ai
  |some r =>
   rw[Y] at ai;simp only[jo,cb] at ai;subst ai;exact⟨by simpa using j1,rfl⟩
 ·cases ai
theorem aqm (N:Nat)(a b:List c6):refsOf N (a++b)=refsOf N a++refsOf N b:=by simp[refsOf]
theorem FG (N:Nat)(a:List c6):(refsOf N a).length=D a:=by simp[refsOf]
structure y4 (N:Nat) (rs:List eC) (i go:Nat) (mem:Mem):Prop where
 z:i=0->mem 129015=some (0,[.nil,.I (.int .i64 N),.I (.bool false)])
 p:0<i->mem 129015=some (0,[.ref 129035 go 1 0 i,.I (.int .i64 N),.I (.bool false)])/\mem 129035=some (go,refsOf N ((g9 rs).take i))
 r:∀x∈(g9 rs).take i,mem (x.1+900000)=some (x.2.1,aY aL x.2.2)
 n:∀j:Nat,i<=j->mem (j+900000)=none
 a:mem 168004=none
 b:mem 168006=none
theorem adl (l:List bU):(l.map aL).flatten.map M.I=aY aL l:=rfl
theorem aqn (bA:Nat)(l:List bU)(v1:Int)(v2:List Int)(uh:Int)(v4:List Int)(h:(D l)<=1000000):l5 129029 bA 4 (D l) 64 1 [.I (.int .i64 v1),.I (.af (v2.map ad)),.I (.int .i64 uh),.I (.af (v4.map ad))] (some (bA,aY aL l))=some (.ref 129029 (bA+1) 4 0 (D l+1),some (129029,bA+1,aY aL (l++[((v1,v2),(uh,v4))]))) :=
 mK mU Fb 129029 bA 64 l ((v1,v2),(uh,v4)) rfl (by omega) (by omega)
theorem aqo (N bA i g:Nat)(a:List c6)(L:(D a)=i)(h:i<=1000)(m:M)(hm:m=.ref 129029 g 4 0 (N+1)):l5 129035 bA 1 i 24 1 [m] (some (bA,refsOf N a))=some (.ref 129035 (bA+1) 1 0 (i+1),some (129035,bA+1,refsOf N a++[m])):=by
 subst hm;unfold l5;dsimp only;rw[Z ⟨rfl,by rw[FG];omega,by omega,by unfold maxLen;omega,rfl⟩,dD (by rw[FG];omega)]
theorem aqp {N i go go' bA:Nat}{rs:List eC}{r:eC}{m m':Mem}(ae:y4 N rs i go m)(Y:rs[i]?=some r)(tY:m' 129015=some (0,[.ref 129035 go' 1 0 (i+1),.I (.int .i64 N),.I (.bool false)]))(aJ:∀k:Nat,900000<=k\/k=168004\/k=168006->m' k=m k):
  y4 N rs (i+1) go' (a3 (a3 (a3 m' 129029 (bY m' 129029) []) (i+900000) (bY m' (i+900000)) (aY aL (r.1++[r.2]))) 129035 go' ((refsOf N ((g9 rs).take i)++[M.ref 129029 bA 4 0 (N+1)]).set i (M.ref (i+900000) (bY m' (i+900000)) 4 0 (N+1)))):=by
 have aq:=(dK.1 Y).1
 have aX:bY m' (i+900000)=0:=by
  unfold bY;rw[aJ _ (.inl (by omega)),ae.n i (bP _)]
 have uj:(refsOf N ((g9 rs).take i)).length=i:=by rw[FG,hh,CG];omega
 rw[aX]
 have pg:(refsOf N ((g9 rs).take i)++[M.ref 129029 bA 4 0 (N+1)]).set i (.ref (i+900000) 0 4 0 (N+1))=refsOf N ((g9 rs).take (i+1)):=by
  rw[CC _ _ (by omega),uj,mE,ug,UQ Y,aqm]
  rfl
 rw[pg];have JJ:∀(k:Nat),k≠129029->k≠129035->k≠i+900000->a3 (a3 (a3 m' 129029 (bY m' 129029) []) (i+900000) 0 (aY aL (r.1++[r.2]))) 129035 go' (refsOf N ((g9 rs).take (i+1))) k=m' k:=λk E H ab=>by simp[a3,E,H,ab]
 refine⟨λh=>by omega,λ_=>⟨by rw[JJ _ (by omega) (by omega) (by omega)];exact tY,by simp[a3]⟩,λx O=>?_,λj ai=>?_,?_,?_⟩
 ·rw[UQ Y,jK,yG] at O;rcases O with O|rfl
  ·obtain⟨lQ,o3⟩:=aql O;rw[JJ _ (by omega) (by omega) (by omega),aJ _ (.inl (by omega))];exact ae.r x O
  ·have H:(i+900000:Nat)≠129035:=by omega
   simp[a3]
 ·rw[JJ _ (by omega) (by omega) (by omega),aJ _ (.inl (by omega))];exact ae.n j (by omega)
 ·rw[JJ _ (by omega) (by omega) (by omega),aJ _ (.inr (.inl rfl))];exact ae.a
 ·rw[JJ _ (by omega) (by omega) (by omega),aJ _ (.inr (.inr rfl))];exact ae.b
theorem adm {K:a2->Prop}{tm:Nat->M}{N i go:Nat}(go' bA:Nat){rs:List eC}{r:eC}{m m':Mem}(ae:y4 N rs i go m)(Y:rs[i]?=some r)(tY:m' 129015=some (0,[.ref 129035 go' 1 0 (i+1),.I (.int .i64 N),.I (.bool false)]))
  (Nz:m' 129035=some (go',refsOf N ((g9 rs).take i)++[.ref 129029 bA 4 0 (N+1)])) (NA:m' 129029=some (bA,aY aL (r.1++[r.2]))) (aJ:∀k:Nat,900000<=k\/k=168004\/k=168006->m' k=m k) (h:∀a8,y4 N rs (i+1) go' a8->K ⟨tm,a8⟩):kM K ⟨tm,m'⟩ .move:=by
 have aq:=(dK.1 Y).1;have uj:(refsOf N ((g9 rs).take i)).length=i:=by rw[FG,hh,CG];omega
 exact alT 129035 i 129029 (i+900000) Nz (by rw[rf (by omega),uj,mE];rfl) NA (by omega) (show (i+900000:Nat)≠129029 by omega) (show (i+900000:Nat)≠129035 by omega) (h _ (aqp ae Y tY aJ))
theorem kX {m:Mem}{k g:Nat}{cs:List M}{j:Nat}(h:j≠k):a3 m k g cs j=m j:=aa h
theorem aqq (T:bk)(lu:T LY=aW Ny){K:ev->a2->Prop}{kk:List fV}(N:Nat)(rs:List eC)(stop:Bool)(gH:N<=40)(hlen:(D rs)=N)(zT:∀r∈rs,r.1.length=N/\xb r)(tm:Nat->M)(m:Mem)
  (aw:tm 1=.I (.int .i64 N)) (aC:tm 2=.I (.bool stop)) (dR:tm 8=.ptr 129015 0 0) (adn:tm 16=.I (.af (rs.map jx))) (rP:tm 17=.I (.int .i64 N)) (AK:tm 18=.I (.int .i64 0)) (ae:y4 N rs 0 0 m)
  (du:∀tm' m' go,tm' 1=.I (.int .i64 N)->tm' 2=.I (.bool stop)->tm' 8=.ptr 129015 0 0->y4 N rs N go m'->b8 T K kk (.exit 0) ⟨tm',m'⟩) :
  wp T (Jn.body.sub [1,1,0,1,0]) (b8 T K kk) ⟨tm,m⟩:=by
 simp only[Jn,dZ.sub];refine dE [1,2,8,16,17] [] (λ((i,go):Nat×Nat) tm m=>i<=N/\tm 18=.I (.int .i64 i)/\y4 N rs i go m) (λ(i,_)=>N-i) (0,0) (by exact⟨fr _,AK,ae⟩) ?_;intro vs ms aV aR;simp only[go_sem,go_sem_proc,aw,aC,dR,adn,rP] at aV aR;subst aV aR;clear aw aC dR adn rP AK ae tm m;rintro⟨i,go⟩ tm m J hm ⟨ade,jt,ae⟩;simp only[go_sem,go_sem_proc,bh] at J hm;obtain⟨E,H,bW,rC,kU⟩:=J;rcases dQ (i<N) with aq|ck
 ·obtain⟨⟨A,⟨v1,v2⟩,⟨uh,v4⟩⟩,Y⟩:∃r,rs[i]?=some r:=⟨_,bs (by omega)⟩;obtain⟨NB,⟨ado,aqr⟩,aqs,tX⟩:=zT _ (eL Y);dsimp only at NB ado aqr aqs tX;have jN:decide ((i:Int)<(N:Int))=true:=dg;have hw:=fW (i:=i) (by omega);have di:∀bA,l5 129029 bA 4 N 64 1 _ _=_:=λbA=>NB ▸ aqn bA A v1 v2 uh v4 ado;have adp:N<=1000000:=by omega
  have hN:(1<=maxLen)=True:=eq_true (by unfold maxLen;omega);have aDn:=UQ Y;have uj:((g9 rs).take i).length=i:=by rw[hh,CG];omega
  rcases jm i with ak|hO
  ·have sU:=ae.z ak;refine a9 ?_;repeat' (intro h<;>simp only[h,go_sem,go_sem_proc,lu,E,H,bW,rC,kU,jt,sU,jN,Y,hw,adp,NB,di,hN,adl,aj,a5,jx,aL,decide_true,decide_false,ne_eq,not_false_eq_true,and_self]<;>try refine av ?_ ?_)
   refine adm (gh (m 129035)) (gh (m 129029)+1) ae Y (by simp[a3,ak]) (by simp[a3,ak,refsOf]) (by simp[a3]) (λk J=>?_) λa8 fi=>?_
   ·rw[kX (by omega),kX (by omega),kX (by omega),kX (by omega),kX (by omega),kX (by omega),kX (by omega)]
   ·refine a9 ?_;repeat' (intro h<;>simp only[h,go_sem,go_sem_proc,E,H,bW,rC,kU,jt,hw]<;>try refine av ?_ ?_)
    exact⟨(i+1,gh (m 129035)),by dsimp only;omega,by dsimp only;omega,rfl,fi⟩
  ·obtain⟨sU,JH⟩:=ae.p hO;have aqt:=aqo N go i (gh (m 129029)+1) ((g9 rs).take i) uj (by omega) _ rfl;refine a9 ?_;repeat' (intro h<;>simp only[h,go_sem,go_sem_proc,lu,E,H,bW,rC,kU,jt,sU,JH,jN,Y,hw,adp,NB,di,aqt,adl,aj,a5,jx,aL,decide_true,decide_false,ne_eq,not_false_eq_true,and_self]<;>try refine av ?_ ?_)
   refine adm (go+1) (gh (m 129029)+1) ae Y (by simp[a3]) (by simp[a3]) (by simp[a3]) (λk J=>?_) λa8 fi=>?_
   ·rw[kX (by omega),kX (by omega),kX (by omega),kX (by omega),kX (by omega),kX (by omega),kX (by omega)]
   ·refine a9 ?_;repeat' (intro h<;>simp only[h,go_sem,go_sem_proc,E,H,bW,rC,kU,jt,hw]<;>try refine av ?_ ?_)
    exact⟨(i+1,go+1),by dsimp only;omega,by dsimp only;omega,rfl,fi⟩
 ·have jN:decide ((i:Int)<(N:Int))=false:=c1;obtain rfl:i=N:=by omega
  refine a9 ?_;repeat' (intro h<;>simp only[h,go_sem,go_sem_proc,E,H,bW,rC,kU,jt,jN]<;>try refine av ?_ ?_)
  refine du _ _ go ?_ ?_ ?_ ae<;>simp only[eQ,dA,if_false,E,H,bW]
def lv (stop:Bool):Nat->Nat->List c6->List Nat->Bool->List c6×List Nat×Bool
 |0,_,rows,free,bad=>(rows,free,bad)
 |_+1,_,rows,free,true=>(rows,free,true)
 |k+1,c,rows,free,false =>
  if (im rows (c-D free) c).1=true then
   (if stop=true then ((im rows (c-D free) c).2.1,free++[c],(im rows (c-D free) c).2.2) else lv stop k (c+1) (im rows (c-D free) c).2.1 (free++[c]) (im rows (c-D free) c).2.2)
  else lv stop k (c+1) (im rows (c-D free) c).2.1 free (im rows (c-D free) c).2.2
theorem adq (stop:Bool)(k c:Nat)(rows:List c6)(free:List Nat):lv stop k c rows free true=(rows,free,true):=by
 cases k<;>rfl
def h9 (n:Nat):List Data:=[.int .i64 n]
theorem xo (n:Nat):(h9 n).length=1:=rfl
theorem adr (n:Nat):((h9 n).map M.I).all M.one=true:=rfl
def UR (N:Nat)(rows:List c6)(bad:Bool):Data:=.ptr [.af (rows.map λx=>[.af (x.2.2.map aL)]),.int .i64 N,.bool bad]
def FH (N:Nat)(p:List c6×List Nat×Bool):Data:=.cw [UR N p.1 p.2.2,.af (p.2.1.map h9)]
theorem NC (fy:List bU)(r c:Nat):∀(i:Nat) (l:List c6) (b:Bool),(jA fy r c i l b).1.map (λx=>(x.1,x.2.1,x.2.2.length))=l.map λx=>(x.1,x.2.1,x.2.2.length)
 |_,[],_=>rfl
 |i,x::xs,b=>by
  unfold jA
  split
  ·simp only[e5,NC fy r c (i+1) xs b]
  ·simp only[e5,NC fy r c (i+1) xs,acW]
theorem ads (fg:bU):∀(l p:List bU) (b:Bool),(∀f∈l,okF f)->∀f∈(iQ fg l p b).1,okF f
 | [],p,b,h=>by rw[acX];exact h
 |f::dq,[],b,h=>by cases b<;>(simp only[iQ];exact h)
 |f::dq,p::cW,true,h=>by simp only[iQ];exact h
 |f::dq,p::cW,false,h=>by
  simp only[iQ];intro g aX;rcases nU.1 aX with rfl|aX
  ·exact acT _ _
  ·exact ads fg dq cW _ (λx O=>h x (ir _ O)) g aX
theorem US (fy:List bU)(r c:Nat):∀(i:Nat) (l:List c6) (b:Bool),(∀x∈l,∀f∈x.2.2,okF f)->∀x∈(jA fy r c i l b).1,∀f∈x.2.2,okF f
 |_,[],_,h=>h
 |i,x::xs,b,h=>by
  unfold jA
  split
  ·intro y ao;rcases nU.1 ao with rfl|ao
   ·exact h _ hv
   ·exact US fy r c (i+1) xs b (λz aQ=>h z (ir _ aQ)) y ao
  ·intro y ao;rcases nU.1 ao with rfl|ao
   ·exact ads _ _ _ _ (h _ hv)
   ·exact US fy r c (i+1) xs _ (λz aQ=>h z (ir _ aQ)) y ao
theorem adt (rows:List c6)(r c:Nat)(Y:r<=D rows):r<=findAt rows r c/\findAt rows r c<=D rows:=by
 unfold findAt;have:=adu (p:=λx => !mX (cellOf x c)) (xs:=rows.drop r);rw[pL] at this;omega
theorem jz.CH {N:Nat}{rows:List c6}(h:jz N rows){r c:Nat}(Y:r<N):jz N (im rows r c).2.1:=by
 unfold im
 split
 ·exact h
 ·rename_i bN;have g5:=adt rows r c (by rw[h.len];omega);have au:=h.len;obtain⟨x,O⟩:∃x,rows[findAt rows r c]?=some x:=⟨_,bs (by omega)⟩;obtain⟨vx,oF⟩:∃x,rows[r]?=some x:=⟨_,bs (by omega)⟩
  have y3:jz N (p0 rows r (findAt rows r c)):=by
   unfold p0;rw[vw O,vw oF];exact h.swap oF O
  have xm:(p0 rows r (findAt rows r c))[r]?=some x:=by
   unfold p0;rw[vw O,vw oF];exact UC O oF
  generalize p0 rows r (findAt rows r c)=hR at *;obtain⟨zD,FF⟩:=y3.row x (eL xm)
  have yE:jz N (CA hR r c):=by
   unfold CA;rw[vw xm];refine y3.set xm (by simp[hH,zD]) λf aJ=>?_;obtain⟨g,-,rfl⟩:=fO.1 aJ;exact acU _ _
  generalize CA hR r c=iq at *;have ou:=NC (hH (cellOf (rowAt hR r) c) (rowAt hR r).2.2).1 r c 0 iq (hH (cellOf (rowAt hR r) c) (rowAt hR r).2.2).2;have cX:=US (hH (cellOf (rowAt hR r) c) (rowAt hR r).2.2).1 r c 0 iq (hH (cellOf (rowAt hR r) c) (rowAt hR r).2.2).2 λx O=>(yE.row x O).2;dsimp only;generalize (jA (hH (cellOf (rowAt hR r) c) (rowAt hR r).2.2).1 r c 0 iq (hH (cellOf (rowAt hR r) c) (rowAt hR r).2.2).2).1=el at *;refine⟨?_,?_,λy ao=>⟨?_,cX y ao⟩⟩
  ·have:=congrArg D ou;rw[aj,aj] at this;rw[this,yE.len]
  ·have E:el.map (·.1)=iq.map (·.1):=by
    have:=congrArg (xn λp:Nat×Nat×Nat=>p.1) ou
    simpa [oU,Function.comp_def] using this
   rw[E];exact yE.Nu
  ·have E:el.map (λx=>x.2.2.length)=iq.map λx=>x.2.2.length:=by
    have:=congrArg (xn λp:Nat×Nat×Nat=>p.2.2) ou
    simpa [oU,Function.comp_def] using this
   have H:y.2.2.length∈iq.map λx=>x.2.2.length:=by rw[<-E];exact fO.2 ⟨y,ao,rfl⟩
   obtain⟨z,aQ,e⟩:=fO.1 H;rw[<-e];exact (yE.row z aQ).1
theorem aqu {n k g N:Nat}{mem:Mem}{l:List bU}(au:(D l)=N+1)(hm:mem k=some (g,aY aL l)):c8 (n+1) mem (.ref k g 4 0 (N+1))=some (.af (l.map aL)):=by
 rw[<-au];exact pM mU hm
theorem aqv {n N:Nat}{mem:Mem}{rows:List c6}(h:∀x∈rows,mem (x.1+900000)=some (x.2.1,aY aL x.2.2))(au:∀x∈rows,x.2.2.length=N+1):(refsOf N rows).mapM (c8 (n+1) mem)=some (rows.map λx => .af (x.2.2.map aL)):=by
 unfold refsOf
 induction rows with
 |nil=>rfl
 |cons x xs ay =>
  have E:=aqu (n:=n) (au x hv) (h x hv);have H:=ay (λy ao=>h y (ir _ ao)) λy ao=>au y (ir _ ao);simp only[e5,oi,E,H]
  rfl
theorem UT {n N go:Nat}{mem:Mem}{rows:List c6}{bad:Bool}(cX:jz N rows)(h:y0 go N rows bad mem):c8 (n+3) mem (.ptr 129015 0 0)=some (UR N rows bad):=by
 have E:=aqv (n:=n) h.r λx O=>(cX.row x O).1
 have H:c8 (n+2) mem (.ref 129035 go 1 0 N)=some (.af (rows.map λx=>[.af (x.2.2.map aL)])):=by
  unfold c8;rw[h.o];simp only[if_true];unfold cut;rw[Z (by rw[FG,cX.len];omega),nk,dD (by rw[FG,cX.len];omega)];dsimp only;rw[E];have:=zY (sz:=1) (rows.map λx=>[Data.af (x.2.2.map aL)]) (by intro e he;obtain⟨x,-,rfl⟩:=fO.1 he;rfl);rw[aj,cX.len] at this;simp only[jo,cb,Data.af.injEq]
  have g5:∀l:List c6,(l.map λx=>Data.af (x.2.2.map aL))=(l.map λx=>[Data.af (x.2.2.map aL)]).flatten:=by
   intro l
   induction l with
   |nil=>rfl
   |cons x xs ay=>simp only[e5,kL,ay];rfl
  rw[g5,this]
 unfold c8;rw[h.m];simp only[if_true,nk,oi,List.mapM_nil,H,true_and,fr];simp only[LO]
 rfl
theorem y4.aqw {N go:Nat}{rs:List eC}{m:Mem}(au:(D rs)=N)(gH:0<N)(h:y4 N rs N go m):y0 go N (g9 rs) false m:=by
 have bJ:(g9 rs).take N=g9 rs:=dD (by rw[CG];omega);have aB:=h.p gH;rw[bJ] at aB;exact⟨aB.1,aB.2,by have:=h.r;rw[bJ] at this;exact this⟩
theorem y0.other {go N:Nat}{rows:List c6}{bad:Bool}{mem:Mem}{k g:Nat}{cs:List M}(h:y0 go N rows bad mem)(E:k≠129015)(H:k≠129035)(ab:k<900000):y0 go N rows bad (a3 mem k g cs) :=
 ⟨(kX (Ne.symm E)).trans h.m,(kX (Ne.symm H)).trans h.o,λx O=>(kX (show (x.1+900000:Nat)≠k by omega)).trans (h.r x O)⟩
theorem adv {N:Nat}{rs:List eC}(au:(D rs)=N)(h:∀r∈rs,r.1.length=N/\xb r):jz N (g9 rs):=by
 refine⟨by rw[CG,au],?_,λx O=>?_⟩
 ·have:(g9 rs).map (·.1)=dL (D rs):=by
   unfold g9;rw[oU];apply ri;intro i;rw[a5,UP];rcases hV i (D rs) with h|h
   ·rw[bs h];simp[h]
   ·rw[lL h];simp[h]
  rw[this];exact adw
 ·unfold g9 at O;obtain⟨⟨r,i⟩,aB,rfl⟩:=fO.1 O;have Y:=List.fst_mem_of_mem_zipIdx aB;obtain⟨E,H,ab⟩:=h r Y;refine⟨by simp[E],λf aJ=>?_⟩
  rw[jK,yG] at aJ;rcases aJ with aJ|rfl
  ·exact H.2 f aJ
  ·exact ab
abbrev UU:(List eC)×Int×Bool->List Data:=λ(rs,n,stop)=>[.af (rs.map jx),.int .i64 n,.bool stop]
def ND:=cy UU λ(rs,n,stop)=>cT ((D rs:Int)=n/\D rs<=40/\∀r∈rs,r.1.length=D rs/\xb r) (.same (FH (D rs) (lv stop (D rs) 0 (g9 rs) [] false)))
theorem aqx:∀a b,UU a=UU b->a=b:=by
  rintro⟨acp,ht,aDo⟩ ⟨acq,jI,aDp⟩ h;simp only[bh,Data.af.injEq,Data.int.injEq,Data.bool.injEq] at h;exact eS (map_inj TK _ _ h.1) (eS h.2.1.2 h.2.2.1)
@[go_sem] theorem aqy (rs:List eC)(n:Int)(stop:Bool)(G:(D rs:Int)=n/\D rs<=40/\∀r∈rs,r.1.length=D rs/\xb r):ND [.af (rs.map jx),.int .i64 n,.bool stop]=some (.same (FH (D rs) (lv stop (D rs) 0 (g9 rs) [] false))):=(cI aqx (rs,n,stop)).trans (cY G _)
theorem aqz (T:bk)(lu:T LY=aW Ny)(mY:T Rd=xe JI)(rs:List eC)(n:Int)(stop:Bool)(G:(D rs:Int)=n/\D rs<=40/\∀r∈rs,r.1.length=D rs/\xb r):WP T Jn (.same (FH (D rs) (lv stop (D rs) 0 (g9 rs) [] false))) [.I (.af (rs.map jx)),.I (.int .i64 n),.I (.bool stop)]:=by
 refine cC ?_;simp only[Jn];obtain⟨aG,gH,zT⟩:=G;subst aG;simp only[go_sem,go_sem_proc,lu,mY,aj];generalize UW:(D rs)=N at *;refine aqq T lu N rs stop gH UW zT _ _ rfl rfl rfl rfl rfl rfl ⟨λ_=>by simp[a3],λh=>by omega,λx O=>by simp at O,λj _=>kX (show (j+900000:Nat)≠129015 by omega),kX (by omega),kX (by omega)⟩ ?_
 intro tm m go E H bW ae;rcases jm N with ak|hO
 ·have o2:rs=[]:=List.eq_nil_of_length_eq_zero (by omega);have aQ:=ae.z ak;subst ak;subst o2;simp only[go_sem,go_sem_proc,lu,mY,E,H,bW];refine dE [1,2,8] [129015] (λ(_:Unit) tm' m'=>tm' 11=.ref 129061 (gh (m 129061)) 1 0 0/\m' 129061=some (gh (m 129061),[])/\tm' 12=.I (.int .i64 0)) (λ_=>0) () (by refine⟨rfl,?_,rfl⟩;simp[a3]) ?_;intro vs ms aV aR;simp only[go_sem,go_sem_proc,lu,mY,E,H,bW,aQ] at aV aR;subst aV aR;rintro _ tm' m' J hm ⟨lT,FI,lU⟩;simp only[go_sem,go_sem_proc,lu,mY,bh] at J hm;obtain⟨cH,dc,hE⟩:=J;simp only[go_sem,go_sem_proc,lu,mY,cH,dc,hE,hm,lT,FI,lU,show decide ((0:Int)<((0:Nat):Int))=false from rfl,c8,v9,nk];repeat' (first|refine av ?_ ?_|fail)<;>intro h<;>simp only[h,go_sem,go_sem_proc,lu,mY,cH,dc,hE,hm,lT,FI,lU,show decide ((0:Int)<((0:Nat):Int))=false from rfl,c8,v9,nk]
  rfl
 ·have y5:=ae.aqw UW hO;have cX:=adv UW zT;have JK:=ae.a;have JL:=ae.b;clear ae;simp only[go_sem,go_sem_proc,lu,mY,E,H,bW]
  refine dE [1,2,8] [] (λ((c,rows,free,bad,g):Nat×List c6×List Nat×Bool×Nat) tm m=>c<=N/\D free<=c/\lv stop N 0 (g9 rs) [] false=lv stop (N-c) c rows free bad/\jz N rows/\y0 go N rows bad m/\m 168004=none/\m 168006=none/\tm 11=.ref 129061 g 1 0 (D free)/\m 129061=some (g,aY h9 free)/\tm 12=.I (.int .i64 c)) (λ(c,_,_,_,_)=>N-c) (0,g9 rs,[],false,gh (m 129061)) (by
   refine⟨fr _,bP _,rfl,cX,⟨?_,?_,λx O=>?_⟩,?_,?_,rfl,?_,rfl⟩
   ·rw[kX (by omega)];exact y5.m
   ·rw[kX (by omega)];exact y5.o
   ·rw[kX (show (x.1+900000:Nat)≠129061 by omega)];exact y5.r x O
   ·rw[kX (by omega)];exact JK
   ·rw[kX (by omega)];exact JL
   ·simp[a3,aY]) ?_
  intro vs ms aV aR;simp only[go_sem,go_sem_proc,lu,mY,E,H,bW] at aV aR;subst aV aR;clear E H bW y5 JK JL;rintro⟨c,rows,free,bad,g⟩ tm m J hm ⟨ap7,aDq,km,cX,y5,JK,JL,lT,FI,lU⟩;simp only[go_sem,go_sem_proc,lu,mY,bh] at J hm;obtain⟨E,H,bW⟩:=J;have sU:=y5.m
  have SQ:lv stop N 0 (g9 rs) [] false=(rows,free,bad)->((c8 5 m (.ptr 129015 0 0)).bind λd=>(c8 5 m (.ref 129061 g 1 0 (D free))).bind λe=>some (Data.cw [d,e]))=some (FH N (lv stop N 0 (g9 rs) [] false)):=by
   intro h;rw[h,UT (n:=2) cX y5,pM xo FI]
   rfl
  have NF:=UT (n:=2) cX y5;have FJ:=pM (n:=4) xo FI;rcases dQ (c<N) with aq|ck
  ·have eb:decide ((c:Int)<(N:Int))=true:=dg
   cases bad
   ·have nX:IntKind.i64.wrap ((c:Int)-(D free:Int))=((c-D free:Nat):Int):=by rw[eA _];omega
    have e8:=fW (i:=c) (by omega);have fj:=aqh ⟨go,N,rows,c-D free,c⟩ m ⟨cX,y5,JK,JL,gH,Nat.sub_le _ _,aq⟩;dsimp only at fj;have UX:N-c=(N-(c+1))+1:=by omega
    rw[UX] at km;simp only[lv] at km;have Fx:=cX.CH (r:=c-D free) (c:=c) (by omega);simp only[go_sem,go_sem_proc,lu,mY,mY,E,H,bW,lT,lU,sU,eb,nX,fj];intro Cz m' j0;obtain⟨Js,fZ⟩:=j0;dsimp only at Js fZ;subst Js;have iD:m' 168004=none:=(fZ.2 _ UE).trans JK;have AH:m' 168006=none:=(fZ.2 _ UF).trans JL;have JM:m' 129061=some (g,aY h9 free):=(fZ.2 129061 (by unfold Fs;omega)).trans FI;have di:l5 129061 g 1 (D free) 8 1 [.I (.int .i64 c)] (some (g,aY h9 free))=_:=mK xo adr 129061 g 8 free c rfl (by omega) (by omega);generalize aDr:im rows (c-D free) c=dB at *;obtain⟨aqA,adx,ady⟩:=dB;dsimp only at *
    cases aqA
    ·simp only[kh,if_false] at km;simp only[go_sem,go_sem_proc,lu,mY,E,H,bW,lT,lU,e8];repeat' (first|refine av ?_ ?_|fail)<;>intro h<;>simp only[h,go_sem,go_sem_proc,lu,mY,E,H,bW,lT,lU,e8]
     exact⟨(c+1,adx,free,ady,g),by dsimp only;omega,by dsimp only;omega,by dsimp only;omega,km,Fx,fZ.1,iD,AH,rfl,JM,rfl⟩
    ·simp only[if_true] at km;have adz:=fZ.1.other (k:=129061) (g:=g+1) (cs:=aY h9 (free++[c])) (by omega) (by omega) (by omega)
     cases stop
     ·simp only[kh,if_false] at km;simp only[go_sem,go_sem_proc,lu,mY,E,H,bW,lT,lU,e8,JM,di];repeat' (first|refine av ?_ ?_|fail)<;>intro h<;>simp only[h,go_sem,go_sem_proc,lu,mY,E,H,bW,lT,lU,e8,JM,di]
      exact⟨(c+1,adx,free++[c],ady,g+1),by dsimp only;omega,by dsimp only;omega,by simp;omega,km,Fx,adz,iD,AH,by simp,rfl,rfl⟩
     ·simp only[if_true] at km;simp only[go_sem,go_sem_proc,lu,mY,E,H,bW,lT,lU,e8,JM,di];repeat' (first|refine av ?_ ?_|fail)<;>intro h<;>simp only[h,go_sem,go_sem_proc,lu,mY,E,H,bW,lT,lU,e8,JM,di]
      have AL:(D free)+1=(free++[c]).length:=by simp
      rw[UT (n:=2) Fx adz,AL,pM (n:=4) xo (g:=g+1) (l:=free++[c]) (by simp[a3]),km]
      rfl
   ·rw[adq] at km;simp only[go_sem,go_sem_proc,lu,mY,E,H,bW,lT,lU,sU,eb,NF,FJ];repeat' (first|refine av ?_ ?_|fail)<;>intro h<;>simp only[h,go_sem,go_sem_proc,lu,mY,E,H,bW,lT,lU,sU,eb,NF,FJ]
    rw[km]
    rfl
  ·have eb:decide ((c:Int)<(N:Int))=false:=c1;have UX:N-c=0:=by omega
   rw[UX] at km;simp only[lv] at km;simp only[go_sem,go_sem_proc,lu,mY,E,H,bW,lT,lU,sU,eb,NF,FJ];repeat' (first|refine av ?_ ?_|fail)<;>intro h<;>simp only[h,go_sem,go_sem_proc,lu,mY,E,H,bW,lT,lU,sU,eb,NF,FJ]
   rw[km]
   rfl
theorem UY {rs:List eC}{n:Int}(bx:qO rs)(h:ny rs n=true):(D rs:Int)=n/\D rs<=40/\∀r∈rs,r.1.length=D rs/\xb r:=by
 unfold ny at h;simp only[e3,pZ,decide_eq_false_iff_not,beq_iff_eq] at h;obtain⟨E,H,ab,aM⟩:=h;refine⟨ab,by omega,λr Y=>⟨?_,bx.2 r Y⟩⟩
 rw[FK] at aM;have:=aM r Y;unfold n3 at this;simp at this;omega
theorem UZ {stop:Bool}{N:Nat}:∀(k c:Nat) (rows:List c6) (free:List Nat) (bad:Bool),c+k=N->jz N rows->jz N (lv stop k c rows free bad).1
 |0,_,rows,_,_,_,h=>h
 |k+1,c,rows,free,true,G,h=>h
 |k+1,c,rows,free,false,G,h=>by
  have aB:=h.CH (r:=c-D free) (c:=c) (by omega);unfold lv
  split
  ·split
   ·exact aB
   ·exact UZ k (c+1) _ _ _ (by omega) aB
  ·exact UZ k (c+1) _ _ _ (by omega) aB
def p2 (stop:Bool)(rs:List eC):List c6×List Nat×Bool:=lv stop (D rs) 0 (g9 rs) [] false
theorem U0 (stop:Bool):∀(k c:Nat) (rows:List c6) (free:List Nat) (bad:Bool),(lv stop k c rows free bad).2.1.length<=D free+k
 |0,_,_,_,_=>by simp[lv]
 |k+1,c,rows,free,true=>by simp[lv]
 |k+1,c,rows,free,false=>by
  unfold lv
  split
  ·split
   ·simp
   ·have:=U0 stop k (c+1) (im rows (c-D free) c).2.1 (free++[c]) (im rows (c-D free) c).2.2;simp at this;omega
  ·have:=U0 stop k (c+1) (im rows (c-D free) c).2.1 free (im rows (c-D free) c).2.2;omega
theorem aqB (stop:Bool)(rs:List eC):(p2 stop rs).2.1.length<=D rs:=by
 have:=U0 stop (D rs) 0 (g9 rs) [] false;unfold p2
 simpa using this
theorem aqC {rs:List eC}{stop:Bool}(h:∀r∈rs,r.1.length=D rs/\xb r):jz (D rs) (p2 stop rs).1:=UZ _ _ _ _ _ (by omega) (adv rfl h)
def uk (N:Nat)(x:c6):bU:=x.2.2.getD N dW
def p3 (rs:List eC)(n:Int):List bU×Int :=
 if ny rs n=true then (if (p2 true rs).2.2=true then ([],6) else if (p2 true rs).2.1.length>0 then ([],17) else ((p2 true rs).1.map (uk (D rs)),0)) else ([],1)
theorem aqD {N:Nat}{x:c6}{f:bU}(h:x.2.2[N]?=some f):uk N x=f:=by
 unfold uk;rw[dY,h]
 rfl
def U1:=cy Na λ(rs,n)=>cT (qO rs) (.same (.cw [.af ((p3 rs n).1.map aL),.int .i64 (p3 rs n).2]))
@[go_sem] theorem aqE (rs:List eC)(n:Int)(G:qO rs):U1 [.af (rs.map jx),.int .i64 n]=some (.same (.cw [.af ((p3 rs n).1.map aL),.int .i64 (p3 rs n).2])):=(cI acr (rs,n)).trans (cY G _)
theorem aqF (T:bk)(AM:T Q1=aW TT)(AO:T Q6=aW ND)(rs:List eC)(n:Int)(G:qO rs):WP T TA (.same (.cw [.af ((p3 rs n).1.map aL),.int .i64 (p3 rs n).2])) [.I (.af (rs.map jx)),.I (.int .i64 n)]:=by
 refine cC ?_;simp only[TA];unfold p3;rcases Y:ny rs n
 ·refine a9 ?_;repeat' (intro h<;>simp only[h,go_sem,go_sem_proc,AM,AO,G,Y,cl]<;>try refine av ?_ ?_)
 ·have cX:=aqC (stop:=true) (UY G Y).2.2;have e4:ND [.af (rs.map jx),.int .i64 n,.bool true]=some (.same (FH (D rs) (p2 true rs))):=aqy rs n true (UY G Y);have g5:=aqB true rs;obtain⟨aG,gH,-⟩:=UY G Y;rcases fP:p2 true rs with ⟨rows,free,bad⟩;rw[fP] at g5 cX e4;dsimp only at g5 cX;simp only[FH,UR] at e4
  cases bad
  ·cases free with
   |nil =>
    simp only[go_sem,go_sem_proc,AM,AO,G,Y,e4,aj,show decide (((0:Nat):Int)>0)=false from rfl,cl];rw[aa (by simp)];refine dE [1,33,34] [] (λ((i,g):Nat×Nat) tm m=>i<=D rs/\tm 35=.I (.int .i64 i)/\tm 8=.ref 109045 g 4 0 i/\m 109045=some (g,aY aL ((rows.take i).map (uk (D rs))))) (λ(i,_)=>D rs-i) (0,0) (by refine⟨fr _,rfl,rfl,?_⟩;simp[a3,aY,bY,emp]) ?_;intro vs ms aV aR;simp only[go_sem,go_sem_proc,AM,AO] at aV aR;subst aV aR;rintro⟨i,g⟩ tm m J hm ⟨ade,Nz,bW,U2⟩;simp only[go_sem,go_sem_proc,AM,AO,bh] at J hm;obtain⟨E,I7,adA⟩:=J;have bX:=cX.len;rcases dQ (i<D rs) with aq|ck
    ·obtain⟨x,O⟩:∃x,rows[i]?=some x:=⟨_,bs (by omega)⟩;obtain⟨zD,FF⟩:=cX.row x (eL O);obtain⟨⟨⟨db,dH⟩,⟨fk,fM⟩⟩,sT⟩:∃f,x.2.2[D rs]?=some f:=⟨_,bs (by omega)⟩;have kr:=aqD sT;have uj:((rows.take i).map (uk (D rs))).length=i:=by rw[aj,hh];omega
     have di:=mK mU Fb 109045 g 64 ((rows.take i).map (uk (D rs))) ((db,dH),(fk,fM)) (cs:=[.I (.int .i64 db),.I (.af (dH.map ad)),.I (.int .i64 fk),.I (.af (fM.map ad))]) rfl (by omega) (by omega);rw[uj] at di
     have aqG:(rows.take (i+1)).map (uk (D rs))=(rows.take i).map (uk (D rs))++[((db,dH),(fk,fM))]:=by
      rw[ks,O,mq];simp[kr]
     have jN:decide ((i:Int)<(D rs:Int))=true:=dg;have U3:decide ((i:Int)<(D rows:Int))=true:=dg;have hw:=fW (i:=i) (by omega);have mH:decide (0<=n)=true:=dg;have FL:n=((D rs:Nat):Int):=aG.symm;refine a9 ?_;repeat' (intro h<;>simp only[h,go_sem,go_sem_proc,AM,AO,E,I7,adA,Nz,bW,U2,O,sT,di,jN,U3,hw,FL,aj,a5,aL]<;>try refine av ?_ ?_)
     exact⟨(i+1,g+1),by dsimp only;omega,by dsimp only;omega,rfl,rfl,by dsimp only;rw[aqG]⟩
    ·have b9:i=D rs:=by omega
     have U3:decide ((i:Int)<(D rows:Int))=false:=c1;have ef:rows.take i=rows:=dD (by omega);rw[ef] at U2
     have j2:∀n,c8 (n+1) m (.ref 109045 g 4 0 i)=some (.af ((rows.map (uk (D rs))).map aL)):=λn=>by
      have:=pM (n:=n) mU U2;rw[show (rows.map (uk (D rs))).length=i by rw[aj];omega] at this
      exact this
     have aqH:=j2 4;refine a9 ?_;repeat' (intro h<;>simp only[h,go_sem,go_sem_proc,AM,AO,E,I7,adA,Nz,bW,U3,aqH]<;>try refine av ?_ ?_)
   |cons f dq =>
    have iB:decide ((((f::dq).length:Nat):Int)>0)=true:=iH (by simp only[kf];omega);simp only[kf] at iB;refine a9 ?_;repeat' (intro h<;>simp only[h,go_sem,go_sem_proc,AM,AO,G,Y,e4,aj,iB,cl]<;>try refine av ?_ ?_)
    rw[Z (by omega)]
    rfl
  ·refine a9 ?_;repeat' (intro h<;>simp only[h,go_sem,go_sem_proc,AM,AO,G,Y,e4,aj,cl]<;>try refine av ?_ ?_)
def U4:b1:=cu 30 2 [.t 4,.t 5] (R [(ax 4 (.b3 (.c (.I (.int .u64 0))))),(ax 5 (.b3 (.c (.I (.int .u64 0)))))] (.seq (.cond (.c (.I (.bool false))) (R [F 11 0,(ax 12 (.conv .u32 (.t 11))),F 13 1,(ax 14 (.conv .u32 (.t 13))),(cd 15 amq 12 14),F 10 15,br 16 0 10,br 17 1 10,F 6 16,F 7 17] (R [F 18 6,(ax 19 (.conv .u64 (.t 18))),F 20 7,(ax 21 (.conv .u64 (.t 20))),F 4 19,F 5 21] .ret)) .skip) (R [F 23 0,F 24 1,(cd 25 Rj 23 24),F 22 25,br 26 0 22,br 27 1 22,F 8 26,F 9 27] (R [F 28 8,F 29 9,F 4 28,F 5 29] .ret))))
def U5:b1:=cu 51 2 [.t 4,.t 5] (R [(ax 4 (.b3 (.c (.I (.int .u64 0))))),(ax 5 (.b3 (.c (.I (.int .u64 0)))))] (R [F 14 0,(ax 15 (.bin .and (.t 14) (.c (.I (.int .u64 4294967295))))),F 6 15] (R [F 16 0,(ax 17 (.bin .shr (.t 16) (.c (.I (.int .u64 32))))),F 7 17] (R [F 18 1,(ax 19 (.bin .and (.t 18) (.c (.I (.int .u64 4294967295))))),F 8 19] (R [F 20 1,(ax 21 (.bin .shr (.t 20) (.c (.I (.int .u64 32))))),F 9 21] (R [F 22 6,F 23 8,bB 24 .mul 22 23,F 10 24] (R [F 25 7,F 26 8,bB 27 .mul 25 26,F 28 10,(ax 29 (.bin .shr (.t 28) (.c (.I (.int .u64 32))))),bB 30 .add 27 29,F 11 30] (R [F 31 11,(ax 32 (.bin .and (.t 31) (.c (.I (.int .u64 4294967295))))),F 12 32] (R [F 33 11,(ax 34 (.bin .shr (.t 33) (.c (.I (.int .u64 32))))),F 13 34] (R [F 35 12,F 36 6,F 37 9,bB 38 .mul 36 37,bB 39 .add 35 38,F 12 39] (R [F 40 7,F 41 9,bB 42 .mul 40 41,F 43 13,bB 44 .add 42 43,F 45 12,(ax 46 (.bin .shr (.t 45) (.c (.I (.int .u64 32))))),bB 47 .add 44 46,F 4 47] (R [F 48 0,F 49 1,bB 50 .mul 48 49,F 5 50] .ret))))))))))))
theorem U6:∀y:Nat,y<41->bits .and .u64 (y:Int) 4294967295=y:=by decide
theorem aqI (y:Nat)(h:y<41):(y:Int).fdiv 4294967296=0:=by
 rw[Int.fdiv_eq_ediv_of_nonneg _ (by omega)];omega
abbrev NG:Nat->List Data:=λ(y:Nat)=>[.int .u64 1,.int .u64 y]
def U7:=cy NG λ(y:Nat)=>cT (y<41) (.same (.cw [.int .u64 0,.int .u64 y]))
theorem adB:∀a b,NG a=NG b->a=b:=by
  intro sx sy h;simp only[bh,Data.int.injEq] at h;omega
@[go_sem] theorem aDs (y:Nat)(G:y<41):U7 [.int .u64 1,.int .u64 y]=some (.same (.cw [.int .u64 0,.int .u64 y])):=(cI adB y).trans (cY G _)
theorem aqJ (T:bk)  (y:Nat) (G:y<41):WP T U5 (.same (.cw [.int .u64 0,.int .u64 y])) [.I (.int .u64 1),.I (.int .u64 y)]:=by
 refine cC ?_;simp only[U5];have E:=U6 y G;have H:=aqI y G;have ab:=U6 1 (by omega);have aM:=U6 0 (by omega);have bl:((1:Int)).fdiv 4294967296=0:=by decide
 have bI:((0:Int)).fdiv 4294967296=0:=by decide
 have hw:∀x:Int,0<=x/\x<18446744073709551616->IntKind.u64.wrap x=x:=λx h=>yq x h;have dt:=hw 0 (by omega);have w1:=hw y (by omega);simp only[Int.natCast_zero,Int.cast_ofNat_Int,Int.natCast_one] at ab aM;simp only[go_sem,go_sem_proc,E,H,ab,aM,bl,bI,dt,w1,show ((32:Int)<0)=False from by simp,if_false,show (2:Int)^min (Int.toNat 32) 64=4294967296 from rfl,nt,wX,sH,tV,B6]
 repeat' (first|refine av ?_ ?_|fail)<;>intro h<;>simp only[h,go_sem,go_sem_proc,E,H,ab,aM,bl,bI,dt,w1,show ((32:Int)<0)=False from by simp,if_false,show (2:Int)^min (Int.toNat 32) 64=4294967296 from rfl,nt,wX,sH,tV,B6]
def U8:=cy NG λ(y:Nat)=>cT (y<41) (.same (.cw [.int .u64 0,.int .u64 y]))
@[go_sem] theorem aDt (y:Nat)(G:y<41):U8 [.int .u64 1,.int .u64 y]=some (.same (.cw [.int .u64 0,.int .u64 y])):=(cI adB y).trans (cY G _)
theorem aqK (T:bk)(aqL:T Rj=aW U7)(y:Nat)(G:y<41):WP T U4 (.same (.cw [.int .u64 0,.int .u64 y])) [.I (.int .u64 1),.I (.int .u64 y)]:=by
 refine cC ?_;simp only[U4];refine a9 ?_;repeat' (intro h<;>simp only[h,go_sem,go_sem_proc,aqL,G]<;>try refine av ?_ ?_)
theorem qR {α:Type}{A:List α}{k:Nat}(dj:(D A)=k)(n:Nat):(eu n A).flatten.length=n*k:=by
 rw[List.length_flatten,FM,dj,List.sum_replicate_nat]
theorem aqM {α:Type}{A:List α}{k:Nat}(dj:(D A)=k){q j:Nat}(h:q<=j):(eu j A).flatten.take (q*k)=(eu q A).flatten:=by
 obtain⟨d,rfl⟩:=adC h;rw[<-U9,FN,y6 (by rw[qR dj];omega),dD (by rw[qR dj];omega)]
theorem aqN {α:Type}{A:List α}{k:Nat}(dj:(D A)=k){q j:Nat}(h:q<=j):(eu j A).flatten.drop (q*k)=(eu (j-q) A).flatten:=by
 obtain⟨d,rfl⟩:=adC h;rw[<-U9,FN,pK,k7 (by rw[qR dj];omega),qR dj,mE,nk,iM,Ej]
def CI:List M:=[.I (.int .i64 0),.nil,.I (.int .i64 0),.nil]
def ph (A:List M)(N j:Nat):List M:=(eu j A).flatten++(eu (N-j) CI).flatten
theorem adD {A:List M}(dj:(D A)=4){N j:Nat}(h:j<=N):(ph A N j).length=N*4:=by
 unfold ph;rw[hr,qR dj,qR (show (D CI)=4 from rfl)];omega
theorem adE {A:List M}(dj:(D A)=4){N j q:Nat}(h:j+q<=N):(ph A N j).take (j*4)++(eu q A).flatten++(ph A N j).drop (j*4+q*4)=ph A N (j+q):=by
 unfold ph;rw[y6 (by rw[qR dj];omega),dD (by rw[qR dj];omega),pK,k7 (by rw[qR dj];omega),qR dj,Ej,aqN (show (D CI)=4 from rfl) (by omega),iM,<-U9 (n:=j),FN,Nat.sub_sub]
theorem aqO {A:List M}(dj:(D A)=4){N j:Nat}:(ph A N j).take (j*4)=(eu j A).flatten:=by
 unfold ph;rw[y6 (by rw[qR dj];omega),dD (by rw[qR dj];omega)]
theorem adF {A:List M}(h:A.all M.one=true)(q:Nat):(eu q A).flatten.all M.one=true:=by
 induction q with
 |zero=>rfl
 |succ n ay=>rw[uR,kL,List.all_append,h,ay];rfl
theorem aqP (f:bU)(N:Nat):ph ((aL f).map .I) N N=aY aL (eu N f):=by
 unfold ph aY;rw[mE,FM];simp only[List.replicate_zero,List.flatten_nil,h1]
 induction N with
 |zero=>rfl
 |succ n ay=>rw[uR,kL,uR,kL,mq,ay]
theorem aqQ {A:List M}(dj:(D A)=4)(E:A.all M.one=true)(N:Nat):zy 131030 0 4 0 N 1 A (some (0,(eu N CI).flatten))=some (.I (.int .i64 ((min 1 N:Nat):Int)),some (131030,0,ph A N (min 1 N))):=by
 unfold zy;dsimp only;rw[Z ⟨rfl,by rw[qR (show (D CI)=4 from rfl)];omega,E⟩]
 have ak:(eu N CI).flatten=ph A N 0:=by simp[ph]
 have bJ:A.take (min 1 N*4)=(eu (min 1 N) A).flatten:=by
  rcases jm N with h|h
  ·subst h;simp
  ·rw[show min 1 N=1 by omega];simp[dD (xp dj)]
 have:=adE dj (N:=N) (j:=0) (q:=min 1 N) (by omega);rw[ak,bJ];unfold lI;rw[qR dj];simp only[Nat.zero_mul,oP] at this ⊢;rw[this]
theorem aqR {A:List M}(dj:(D A)=4)(E:A.all M.one=true){N j:Nat}(h:j<N):zy 131030 0 4 (j*4) (N-j) j (eu j A).flatten (some (0,ph A N j))=some (.I (.int .i64 ((min j (N-j):Nat):Int)),some (131030,0,ph A N (j+min j (N-j)))):=by
 unfold zy;dsimp only;rw[Z ⟨rfl,by rw[adD dj (by omega)];omega,adF E j⟩]
 rw[aqM dj (show min j (N-j)<=j by omega)];have:=adE dj (N:=N) (j:=j) (q:=min j (N-j)) (by omega);unfold lI;rw[qR dj,this]
abbrev Va:Int×(List Int)×Int×(List Int)×Nat->List Data:=λ(s,l,s2,al,N)=>[.af [[.int .i64 s,.af (l.map ad),.int .i64 s2,.af (al.map ad)]],.int .i64 N]
def Vb:=cy Va λ(s,l,s2,al,N)=>cT (N<41) (.own 4 (eu N (aL ((s,l),(s2,al)))))
theorem aqS:∀a b,Va a=Va b->a=b:=by
  rintro⟨s1,eB,EZ,E0,aDu⟩ ⟨s2,al,E1,E2,aDv⟩ h;simp only[bh,Data.int.injEq,Data.af.injEq] at h;exact eS h.1.1.1.2 (eS (map_inj g7 _ _ h.1.1.2.1) (eS h.1.1.2.2.1.2 (eS (map_inj g7 _ _ h.1.1.2.2.2.1) (by have:=h.2.1.2;dsimp only;omega))))
@[go_sem] theorem aqT (s:Int)(l:List Int)(s2:Int)(al:List Int)(N:Nat)(G:N<41):Vb [.af [[.int .i64 s,.af (l.map ad),.int .i64 s2,.af (al.map ad)]],.int .i64 N]=some (.own 4 (eu N (aL ((s,l),(s2,al))))):=(cI aqS (s,l,s2,al,N)).trans (cY G _)
theorem aqU (T:bk)(y7:T Re=aW U8)(s:Int)(l:List Int)(s2:Int)(al:List Int)(N:Nat)(G:N<41):WP T R1 (.own 4 (eu N (aL ((s,l),(s2,al))))) [.I (.af [[.int .i64 s,.af (l.map ad),.int .i64 s2,.af (al.map ad)]]),.I (.int .i64 N)]:=by
 refine cC ?_;simp only[R1];have ak:decide ((N:Int)<0)=false:=c1;have hw:IntKind.u64.wrap (N:Int)=N:=yq _ ⟨by omega,by omega⟩
 have ZS:IntKind.i64.wrap (N:Int)=N:=wrap64 _ (by omega) (by omega);have nX:IntKind.u64.wrap ((1:Nat):Int)=1:=by decide
 have aX:decide ((N:Int)>9223372036854775807)=false:=c1;have FO:(64*N<=140737488355328)=True:=eq_true (by omega);have AP:(N<=maxLen)=True:=eq_true (by unfold maxLen;omega);have dj:((aL ((s,l),(s2,al))).map M.I).length=4:=rfl;have vz:((aL ((s,l),(s2,al))).map M.I).all M.one=true:=rfl;have zH:=aqQ dj vz N;have tA:=λj (h:j<N)=>aqR dj vz h;have JN:(aL ((s,l),(s2,al))).map M.I=[.I (.int .i64 s),.I (.af (l.map ad)),.I (.int .i64 s2),.I (.af (al.map ad))]:=rfl;simp only[CI] at zH;rw[JN] at zH;simp only[go_sem,go_sem_proc,y7] at zH;simp only[go_sem,go_sem_proc,y7,ak,hw,ZS,nX,G,aX,FO,AP,show decide ((0:Int)>0)=false from rfl,zH];rw[JN] at dj vz;have ig:=aqP ((s,l),(s2,al)) N;rw[JN] at ig;simp only[JN] at tA;clear JN zH;generalize [M.I (.int .i64 s),.I (.af (l.map ad)),.I (.int .i64 s2),.I (.af (al.map ad))]=A at *;refine dE [7] [] (λ(j:Nat) tm m=>j<=N/\(0<N->0<j)/\tm 8=.I (.int .i64 j)/\m 131030=some (0,ph A N j)) (λj=>N-j) (min 1 N) (by refine⟨by omega,by omega,rfl,?_⟩;simp[a3]) ?_;intro vs ms aV aR;simp only[go_sem,go_sem_proc,y7] at aV aR;subst aV aR;rintro j tm m J hm ⟨adG,aqV,bW,JO⟩;simp only[go_sem,go_sem_proc,y7,bh] at J hm;have bC:=J;rcases dQ (j<N) with aq|ck
 ·have ki:decide ((j:Int)<(N:Int))=true:=dg;have aG:=tA j aq;have e7:=aqO dj (N:=N) (j:=j);have hlen:(j*4<=(ph A N j).length)=True:=eq_true (by rw[adD dj adG];omega);have adH:(j<=N)=True:=eq_true adG;have ef:=adF vz j;simp only[go_sem,go_sem_proc,y7,ef,vz,e7] at aG;have e8:IntKind.i64.wrap ((j:Int)+((min j (N-j):Nat):Int))=((j+min j (N-j):Nat):Int):=by rw[eA _];omega
  simp only[go_sem,go_sem_proc,y7,bC,bW,JO,ki,e7,hlen,adH,ef,aG,e8,bP,Vc,fr];repeat' (first|refine av ?_ ?_|fail)<;>intro h<;>simp only[h,go_sem,go_sem_proc,y7,bC,bW,JO,ki,e7,hlen,adH,ef,aG,e8,bP,Vc,fr]
  exact⟨j+min j (N-j),by have:=aqV (by omega);omega,by omega,by omega,rfl,rfl⟩
 ·have ki:decide ((j:Int)<(N:Int))=false:=c1;obtain rfl:j=N:=by omega
  rw[ig] at JO;have Ch:=ld mU (eu j ((s,l),(s2,al)));rw[JP] at Ch;simp only[go_sem,go_sem_proc,y7,bC,bW,JO,ki,oW,Ch];repeat' (first|refine av ?_ ?_|fail)<;>intro h<;>simp only[h,go_sem,go_sem_proc,y7,bC,bW,JO,ki,oW,Ch]
  rw[Z (bP _),dD (by omega)];unfold aY;rw[wC _ λd=>rfl];have:=zY (sz:=4) ((eu j ((s,l),(s2,al))).map aL) (by intro e he;obtain⟨f,-,rfl⟩:=fO.1 he;rfl);rw[aj,JP] at this;rw[jo,this,FM]
def NH:bU:=((0,[]),(1,[1]))
def Vd:bU:=((1,[1]),(1,[1]))
theorem adI:aE 0=NH:=by
 unfold aE bE NH;simp[BN,rr]
theorem aqW:aE 1=Vd:=by
 unfold aE bE Vd;simp[BN]
def JQ (rows:List c6)(f N i:Nat):List bU:=(dL N).map λk=>if k<i then (oB NH (cellOf (rowAt rows k) f)).1 else if k=f then Vd else NH
theorem aqX (rows:List c6)(f N i:Nat):(JQ rows f N i).length=N:=by simp[JQ]
def Ve (rs:List eC)(n:Int):List bU×Bool :=
 if ny rs n=true then (if ((p2 true rs).2.2||(p2 true rs).2.1.length==0)=true then ([],false) else (JQ (p2 true rs).1 ((p2 true rs).2.1.headD 0) (D rs) ((p2 true rs).2.1.headD 0),true)) else ([],false)



section
variable {α:Type} {op:α->bU×Int} {e:α->bU}
end
def Vf (N:Nat)(rows:List eC):Prop:=D rows=N/\∀x∈rows,x.1.length=N/\xb x
theorem Vf.set {N:Nat}{rows:List eC}(h:Vf N rows){i:Nat}{x:eC}(O:x.1.length=N/\xb x):Vf N (rows.set i x):=by
 refine⟨by rw[ja];exact h.1,λy ao=>?_⟩
 rcases List.mem_or_eq_of_mem_set ao with ao|rfl
 ·exact h.2 y ao
 ·exact O




def Vg (r:eC):List bU:=r.1++[r.2]
def AQ (cA:List c6)(bZ:List eC):Prop:=cA.map (·.2.2)=bZ.map Vg
theorem AQ.len {cA:List c6}{bZ:List eC}(h:AQ cA bZ):(D cA)=D bZ:=by
 have:=congrArg D h
 simpa using this
theorem AQ.at_ {cA:List c6}{bZ:List eC}(h:AQ cA bZ){i:Nat}{x:c6}{r:eC}(O:cA[i]?=some x)(Y:bZ[i]?=some r):x.2.2=Vg r:=by
 have:=congrArg (λl:List (List bU)=>l[i]?) h;simp only[a5,O,Y,jo,cb] at this;exact this
theorem AQ.set {cA:List c6}{bZ:List eC}(h:AQ cA bZ){i:Nat}{x:c6}{r:eC}(oF:x.2.2=Vg r):AQ (cA.set i x) (bZ.set i r):=by
 unfold AQ at h ⊢;rw[xi,xi,h,oF]
def bz:Nat->(Nat->Rat)->Rat
 |0,_=>0
 |n+1,f=>bz n f+f n
theorem jP {n:Nat}{f g:Nat->Rat}(h:∀k,k<n->f k=g k):bz n f=bz n g:=by
 induction n with
 |zero=>rfl
 |succ n ay=>rw[bz,bz,ay λk J=>h k (by omega),h n (by omega)]
theorem um (n:Nat)(f g:Nat->Rat):bz n (λk=>f k+g k)=bz n f+bz n g:=by
 induction n with
 |zero=>simp[bz,pj]
 |succ n ay=>rw[bz,bz,bz,ay];grind
theorem y8 (n:Nat)(c:Rat)(f:Nat->Rat):bz n (λk=>c*f k)=c*bz n f:=by
 induction n with
 |zero=>simp[bz,nA]
 |succ n ay=>rw[bz,bz,ay];grind
theorem rQ {n:Nat}{f:Nat->Rat}(h:∀k,k<n->f k=0):bz n f=0:=by
 induction n with
 |zero=>rfl
 |succ n ay=>rw[bz,ay λk J=>h k (by omega),h n (by omega)];exact pj 0
theorem xq {n:Nat}{f:Nat->Rat}{j:Nat}(ai:j<n)(h:∀k,k<n->k≠j->f k=0):bz n f=f j:=by
 induction n with
 |zero=>omega
 |succ n ay =>
  rw[bz]
  by_cases aG:j=n
  ·subst aG;rw[rQ λk J=>h k (by omega) (by omega)];grind
  ·rw[ay (by omega) λk J=>h k (by omega),h n (by omega) (by omega)];grind
theorem aqY (n m:Nat)(f:Nat->Nat->Rat):bz n (λi=>bz m (λj=>f i j))=bz m (λj=>bz n (λi=>f i j)):=by
 induction n with
 |zero=>rw[bz,rQ];intro k J;rfl
 |succ n ay =>
  rw[bz,ay,<-um]
  rfl
abbrev ed:=Nat->Nat->Rat
def lY (N:Nat)(a y:Nat->Rat):Rat:=bz (N+1) λk=>a k*y k
def hI (N:Nat)(A:ed)(y:Nat->Rat):Prop:=∀i,i<N->lY N (A i) y=0
def g0 (A:ed)(r s:Nat):ed:=λi=>if i=s then A r else if i=r then A s else A i
def n5 (A:ed)(r c s:Nat):ed:=λi k=>if i=r then g0 A r s r k/g0 A r s r c else g0 A r s i k-g0 A r s i c*(g0 A r s r k/g0 A r s r c)
theorem NI (A:ed)(r s:Nat):g0 A r s r=A s:=by
 unfold g0
 by_cases h:r=s
 ·simp[h]
 ·simp[h]
theorem aqZ {N r s:Nat}{A:ed}{y:Nat->Rat}(Y:r<N)(Q:s<N):hI N (g0 A r s) y↔hI N A y:=by
 unfold hI g0
 constructor
 ·intro h i L
  by_cases E:i=r
  ·have:=h s Q;simp at this;rw[E];exact this
  ·by_cases H:i=s
   ·have:=h r Y;rw[H]
    by_cases ab:r=s
    ·omega
    ·simp[ab] at this;exact this
   ·have:=h i L;simp[E,H] at this;exact this
 ·intro h i L
  by_cases H:i=s
  ·simp[H];exact h r Y
  ·by_cases E:i=r
   ·have:=h s Q;rw[aa H,Z E];exact this
   ·simp[E,H];exact h i L
theorem aq0 (N:Nat)(a b y:Nat->Rat)(x:Rat):lY N (λk=>a k-x*b k) y=lY N a y-x*lY N b y:=by
 unfold lY;have:(λk=>(a k-x*b k)*y k)=λk=>a k*y k+(-x)*(b k*y k):=by funext k;grind
 rw[this,um,y8];grind
theorem adJ (N:Nat)(a y:Nat->Rat)(x:Rat):lY N (λk=>a k/x) y=lY N a y/x:=by
 unfold lY;have:(λk=>(a k/x)*y k)=λk=>(1/x)*(a k*y k):=by funext k;grind
 rw[this,y8];grind
theorem Vh {N r s c:Nat}{A:ed}{y:Nat->Rat}(Y:r<N)(Q:s<N)(bN:A s c≠0):hI N (n5 A r c s) y↔hI N A y:=by
 rw[<-aqZ (A:=A) Y Q];have aDw:g0 A r s r c≠0:=by rw[NI];exact bN
 generalize cB:g0 A r s=S at *
 have d1:∀i,i≠r->lY N (n5 A r c s i) y=lY N (S i) y-S i c*(lY N (S r) y/S r c):=by
  intro i L;have:n5 A r c s i=λk=>S i k-S i c*(S r k/S r c):=by funext k;unfold n5;rw[cB,aa L]
  rw[this,aq0 N (S i) (λk=>S r k/S r c) y (S i c),adJ]
 have d2:lY N (n5 A r c s r) y=lY N (S r) y/S r c:=by
  have:n5 A r c s r=λk=>S r k/S r c:=by funext k;unfold n5;rw[cB,Z rfl]
  rw[this,adJ]
 unfold hI
 constructor
 ·intro h
  have ak:lY N (S r) y=0:=by
   have:=h r Y;rw[d2] at this;generalize lY N (S r) y=d at *;grind
  intro i L
  by_cases pf:i=r
  ·rw[pf];exact ak
  ·have:=h i L;rw[d1 i pf,ak] at this;generalize lY N (S i) y=d at *;grind
 ·intro h i L;have ak:=h r Y
  by_cases pf:i=r
  ·rw[pf,d2,ak];grind
  ·rw[d1 i pf,ak,h i L];grind
structure p4 (N:Nat) (aH:ed) (p c:Nat) (dB:Nat->Nat):Prop where
 la:p<=c
 lt:∀j,j<p->dB j<c
 unit:∀j,j<p->∀i,i<N->aH i (dB j)=if i=j then 1 else 0
 zero:∀i,p<=i->i<N->∀k,k<c->aH i k=0
theorem p4.free {N p c:Nat}{aH:ed}{dB:Nat->Nat}(h:p4 N aH p c dB)(aQ:∀i,p<=i->i<N->aH i c=0):p4 N aH p (c+1) dB :=
 ⟨by have:=h.la;omega,λj ai=>by have:=h.lt j ai;omega,h.unit,λi L gH k J=>by
  by_cases AA:k=c
  ·rw[AA];exact aQ i L gH
  ·exact h.zero i L gH k (by omega)⟩
theorem p4.CH {N p c s:Nat}{aH:ed}{dB:Nat->Nat}(h:p4 N aH p c dB)(aB:p<N)(Q:p<=s)(y9:s<N)(bN:aH s c≠0):p4 N (n5 aH p c s) (p+1) (c+1) (λj=>if j=p then c else dB j):=by
 have cB:∀i,i<N->∃a6,a6<N/\g0 aH p s i=aH a6/\(i<p->a6=i)/\(p<=i->p<=a6):=by
  intro i L;unfold g0
  by_cases E:i=s
  ·exact⟨p,aB,by rw[Z E],by omega,by omega⟩
  ·by_cases H:i=p
   ·exact⟨s,y9,by rw[aa E,Z H],by omega,by omega⟩
   ·exact⟨i,L,by rw[aa E,aa H],by omega,by omega⟩
 have aDx:g0 aH p s p c≠0:=by rw[NI];exact bN
 have aQ:∀i,p<=i->i<N->∀k,k<c->g0 aH p s i k=0:=by
  intro i L gH k J;obtain⟨a6,E,H,-,aM⟩:=cB i gH;rw[H];exact h.zero a6 (aM L) E k J
 refine⟨by have:=h.la;omega,λj ai=>?_,λj ai i L=>?_,λi L gH k J=>?_⟩
 ·show (if j=p then c else dB j)<c+1
  split
  ·omega
  ·have:=h.lt j (by omega);omega
 ·unfold n5
  by_cases FP:j=p
  ·simp only[FP,if_true]
   by_cases mr:i=p
   ·rw[Z mr,Z mr];grind
   ·rw[aa mr,aa mr];grind
  ·simp only[FP,if_false];have tu:j<p:=by omega
   have aw:g0 aH p s p (dB j)=0:=aQ p (bP _) aB _ (h.lt j tu);rw[aw]
   by_cases mr:i=p
   ·rw[Z mr,aa (by omega)];grind
   ·rw[aa mr];obtain⟨a6,E,H,ab,aM⟩:=cB i L;rw[H,h.unit j tu a6 E];rcases hV i p with aq|ck
    ·rw[ab aq];grind
    ·rw[aa (by have:=aM ck;omega),aa (by omega)];grind
 ·unfold n5;rw[aa (by omega)]
  by_cases AA:k=c
  ·subst AA;grind
  ·rw[aQ i (by omega) gH k (by omega),aQ p (bP _) aB k (by omega)];grind
theorem NJ (N:Nat)(aH:ed)(dB:Nat->Nat):p4 N aH 0 0 dB:=⟨bP _,λj ai=>by omega,λj ai=>by omega,λi L gH k J=>by omega⟩
end Go.Mini
namespace Go.Mini
open Classical
structure dT where
 az:Nat
 to:Int
 rk:Nat
 am:Rat
theorem CJ {a b:Rat}(h:a=b):a<=b:=by rw[h];exact fA
def cm:List dT->(dT->Rat)->Rat
 | [],_=>0
 |c::l,aP=>aP c+cm l aP
theorem vA {l:List dT}{aP bA:dT->Rat}(h:∀c∈l,aP c=bA c):cm l aP=cm l bA:=by
 induction l with
 |nil=>rfl
 |cons c l ay=>rw[cm,cm,h c hv,ay λx O=>h x (ir _ O)]
theorem NK (l:List dT)(aP bA:dT->Rat):cm l (λc=>aP c+bA c)=cm l aP+cm l bA:=by
 induction l with
 |nil=>simp only[cm];grind
 |cons c l ay=>rw[cm,cm,cm,ay];grind
theorem JR (l:List dT)(aP bA:dT->Rat):cm l (λc=>aP c-bA c)=cm l aP-cm l bA:=by
 induction l with
 |nil=>simp only[cm];grind
 |cons c l ay=>rw[cm,cm,cm,ay];grind
theorem NL (l:List dT)(a:Rat)(aP:dT->Rat):cm l (λc=>a*aP c)=a*cm l aP:=by
 induction l with
 |nil=>simp only[cm];grind
 |cons c l ay=>rw[cm,cm,ay];grind
theorem FQ {l:List dT}{aP:dT->Rat}(h:∀c∈l,aP c=0):cm l aP=0:=by
 induction l with
 |nil=>rfl
 |cons c l ay=>rw[cm,h c hv,ay λx O=>h x (ir _ O)];grind
theorem CK {l:List dT}{aP bA:dT->Rat}(h:∀c∈l,aP c<=bA c):cm l aP<=cm l bA:=by
 induction l with
 |nil=>exact fA
 |cons c l ay =>
  have E:=h c hv;have H:=ay λx O=>h x (ir _ O);rw[cm,cm];grind
theorem xr {l:List dT}{aP:dT->Rat}(h:∀c∈l,0<=aP c):0<=cm l aP:=by
 have:=CK (l:=l) (aP:=λ_=>0) (bA:=aP) h;rwa [FQ λ_ _=>rfl] at this
theorem Vi {l:List dT}{aP:dT->Rat}(h:∀c∈l,0<=aP c)(Q:cm l aP<=0):∀c∈l,aP c=0:=by
 induction l with
 |nil=>intro c G;cases G
 |cons c l ay =>
  rw[cm] at Q;have E:=h c hv;have H:=xr λx O=>h x (ir c O);intro x O;rcases nU.1 O with rfl|O
  ·grind
  ·exact ay (λy ao=>h y (ir _ ao)) (by grind) x O
theorem aq1 {l:List dT}{aP bA:dT->Rat}(h:∀c∈l,aP c<=bA c){j5:dT}(G:j5∈l)(aq:aP j5<bA j5):cm l aP<cm l bA:=by
 by_cases Q:cm l aP<cm l bA
 ·exact Q
 ·have:=Vi (l:=l) (aP:=λc=>bA c-aP c) (λc G=>by have:=h c G;grind) (by rw[JR];grind) j5 G;grind
theorem Vj {l:List dT}{aP:dT->Rat}(h:0<cm l aP):∃c∈l,0<aP c:=by
 apply j6;intro aG
 have:=CK (l:=l) (aP:=aP) (bA:=λ_=>0) λc G=>by
  apply j6;intro H;exact aG ⟨c,G,by grind⟩
 rw[FQ (aP:=λ_=>(0:Rat)) λ_ _=>rfl] at this;grind
theorem JS {n:Nat}{f g:Nat->Rat}(h:∀k,k<n->f k<=g k):bz n f<=bz n g:=by
 induction n with
 |zero=>exact fA
 |succ n ay =>
  have E:=h n (by omega);have H:=ay λk J=>h k (by omega);rw[bz,bz];grind
theorem adK {n:Nat}{f:Nat->Rat}(h:∀k,k<n->0<=f k):0<=bz n f:=by
 have:=JS (n:=n) (f:=λ_=>0) (g:=f) h;rwa [rQ λ_ _=>rfl] at this
theorem FR (n:Nat)(f g:Nat->Rat):bz n (λk=>f k-g k)=bz n f-bz n g:=by
 induction n with
 |zero=>simp only[bz];grind
 |succ n ay=>rw[bz,bz,bz,ay];grind
theorem aq2 {n:Nat}{f:Nat->Rat}(h:∀k,k<n->0<=f k)(Q:bz n f<=0):∀k,k<n->f k=0:=by
 induction n with
 |zero=>intro k J;omega
 |succ n ay =>
  rw[bz] at Q;have E:=h n (by omega);have H:=adK (n:=n) (f:=f) λk J=>h k (by omega);intro k J
  by_cases FT:k=n
  ·subst FT;grind
  ·exact ay (λk J=>h k (by omega)) (by grind) k (by omega)
def p5 (C:Nat->Prop)(c:dT):Prop:=∃i:Nat,c.to=i/\C i
theorem Vk {n:Nat}(C:Nat->Prop)(jQ:∀i,C i->i<n)(l:List dT)(a:dT->Rat):bz n (λi=>if C i then cm l (λc=>if c.to=(i:Int) then a c else 0) else 0)=cm l (λc=>if p5 C c then a c else 0):=by
 induction l with
 |nil=>exact rQ λk _=>by split<;>rfl
 |cons c l ay =>
  rw[cm,<-ay]
  have e:(λi:Nat=>if C i then cm (c::l) (λc=>if c.to=(i:Int) then a c else 0) else 0)=λi=>(if C i then (if c.to=(i:Int) then a c else 0) else 0)+(if C i then cm l (λc=>if c.to=(i:Int) then a c else 0) else 0):=by
   funext i
   split
   ·rw[cm]
   ·grind
  rw[e,um]
  congr 1
  by_cases h:p5 C c
  ·obtain⟨i,L,Vl⟩:=h
   rw[xq (jQ i Vl) λk J sk=>by
    split
    ·rw[aa (by omega)]
    ·rfl]
   rw[Z Vl,Z L,Z ⟨i,L,Vl⟩]
  ·rw[aa h];refine rQ λk J=>?_
   split
   ·rw[aa λhi=>h ⟨k,hi,by assumption⟩]
   ·rfl
theorem Vm {n:Nat}{l:List dT}(au:∀c∈l,c.az<n)(b:Nat->dT->Rat):bz n (λk=>cm l (λc=>if c.az=k then b k c else 0))=cm l (λc=>b c.az c):=by
 induction l with
 |nil=>exact rQ λk _=>rfl
 |cons c l ay =>
  rw[cm,<-ay λx O=>au x (ir _ O)];have e:(λk:Nat=>cm (c::l) (λc=>if c.az=k then b k c else 0))=λk=>(if c.az=k then b k c else 0)+cm l (λc=>if c.az=k then b k c else 0):=rfl;rw[e,um]
  congr 1
  rw[xq (au c hv) λk _ J=>aa (Ne.symm J),Z rfl]
structure Day where
 n:Nat
 cash:Nat->Rat
 cZ:List dT
structure Day.c0 (d:Day):Prop where
 az:∀c∈d.cZ,c.az<d.n
 to:∀c∈d.cZ,c.to<d.n
 rk:∀c∈d.cZ,c.rk<10
 am:∀c∈d.cZ,0<=c.am
 cash:∀i,i<d.n->0<=d.cash i
def Day.U (d:Day)(k r:Nat):Rat:=cm d.cZ λc=>if c.az=k/\c.rk<r then c.am else 0
def Day.S (d:Day)(k r:Nat):Rat:=cm d.cZ λc=>if c.az=k/\c.rk=r then c.am else 0
theorem Day.Vn (d:Day)(k:Nat):d.U k 0=0:=FQ λc _=>aa (by omega)
theorem Day.xt (d:Day)(k r:Nat):d.U k (r+1)=d.U k r+d.S k r:=by
 unfold Day.U Day.S;rw[<-NK];refine vA λc _=>?_
 by_cases E:c.az=k/\c.rk<r
 ·rw[Z ⟨E.1,by omega⟩,Z E,aa (by omega)];grind
 ·rw[aa E]
  by_cases H:c.az=k/\c.rk=r
  ·rw[Z ⟨H.1,by omega⟩,Z H];grind
  ·rw[aa (by omega),aa H];grind
theorem Day.c0.NM {d:Day}(X:d.c0)(k r:Nat):0<=d.S k r:=xr λc G=>by
 split
 ·exact X.am c G
 ·exact fA
theorem Day.c0.vB {d:Day}(X:d.c0)(k:Nat){r s:Nat}(h:r<=s):d.U k r<=d.U k s:=by
 induction s with
 |zero =>
      obtain rfl:r=0:=by omega
      exact fA
 |succ s ay =>
  by_cases Y:r=s+1
  ·rw[Y];exact fA
  ·have E:=ay (by omega);have H:=X.NM k s;rw[d.xt];grind
theorem Day.c0.aq3 {d:Day}(X:d.c0)(k r:Nat):0<=d.U k r:=by
 have:=X.vB k (fr r);rwa [d.Vn] at this
theorem Day.c0.Vo {d:Day}(X:d.c0){c:dT}(G:c∈d.cZ):c.am<=d.S c.az c.rk:=by
 have:∀l:List dT,(∀x∈l,0<=x.am)->c∈l->c.am<=cm l λx=>if x.az=c.az/\x.rk=c.rk then x.am else 0:=by
  intro l
  induction l with
  |nil=>intro _ h;cases h
  |cons x l ay =>
   intro E H;rw[cm]
   have ab:0<=cm l λx=>if x.az=c.az/\x.rk=c.rk then x.am else 0:=xr λy ao=>by
    split
    ·exact E y (ir _ ao)
    ·exact fA
   rcases nU.1 H with rfl|H
   ·rw[Z ⟨rfl,rfl⟩];grind
   ·have aM:=ay (λy ao=>E y (ir _ ao)) H;have bl:=E x hv
    split<;>grind
 exact this d.cZ X.am G
def Day.w (d:Day)(c:dT):Rat:=c.am/d.S c.az c.rk
theorem Day.c0.p6 {d:Day}(X:d.c0){c:dT}(G:c∈d.cZ):0<=d.w c:=by
 unfold Day.w;have E:=X.am c G;have H:=X.NM c.az c.rk;rw[za]
 exact Vp E (by
  rcases Rat.le_iff_lt_or_eq.1 H with h|h
  ·exact Rat.le_of_lt (adL.2 h)
  ·rw[<-h];exact CJ Rat.inv_zero.symm)
theorem Day.c0.Vq {d:Day}(X:d.c0){c:dT}(G:c∈d.cZ)(h:0<c.am):0<d.w c:=by
 unfold Day.w;have H:=X.Vo G;rw[za];exact JT h (adL.2 (by grind))
theorem Day.Jy {d:Day}{c:dT}(h:c.am=0):d.w c=0:=by
 unfold Day.w;rw[h,za,zb]
theorem Day.FU {d:Day}{c:dT}(h:0<d.S c.az c.rk):d.w c*d.S c.az c.rk=c.am:=by
 unfold Day.w;grind
theorem Day.c0.JU {d:Day}(X:d.c0)(C:Nat->Prop)(f:Nat->Nat)(cB:∀k,C k->0<d.S k (f k))(x:Nat->Rat):cm d.cZ (λc=>if C c.az/\c.rk=f c.az then d.w c*x c.az else 0)=bz d.n (λk=>if C k then x k else 0):=by
 rw[<-Vm X.az λk c=>if C k/\c.rk=f k then d.w c*x k else 0];refine jP λk J=>?_
 by_cases jQ:C k
 ·rw[Z jQ];have hO:=cB k jQ
  have e:cm d.cZ (λc=>if c.az=k then (if C k/\c.rk=f k then d.w c*x k else 0) else 0)=cm d.cZ λc=>(x k/d.S k (f k))*(if c.az=k/\c.rk=f k then c.am else 0):=by
   refine vA λc _=>?_
   by_cases E:c.az=k
   ·by_cases H:c.rk=f k
    ·rw[Z E,Z ⟨jQ,H⟩,Z ⟨E,H⟩];unfold Day.w;rw[E,H];grind
    ·rw[Z E,aa (λh=>H h.2),aa (λh=>H h.2)];grind
   ·rw[aa E,aa (λh=>E h.1)];grind
  rw[e,NL];show x k/d.S k (f k)*d.S k (f k)=x k;grind
 ·rw[aa jQ]
  exact FQ λc _=>by
   split
   ·rw[aa λh=>jQ h.1]
   ·rfl
end Go.Mini
namespace Go.Mini
open Classical
def pos (x:Rat):Rat:=if x<=0 then 0 else x
theorem CL (x:Rat):0<=pos x:=by unfold pos;split<;>grind
theorem NN (x:Rat):x<=pos x:=by unfold pos;split<;>grind
theorem adM {x y:Rat}(h:x<=y):pos x<=pos y:=by unfold pos;split<;>split<;>grind
theorem xu {x:Rat}(h:0<=x):pos x=x:=by unfold pos;split<;>grind
theorem uo {x:Rat}(h:x<=0):pos x=0:=Z h
theorem CM {a x y:Rat}(a1:0<=a)(h:x<=y):a*x<=a*y:=Rat.mul_le_mul_of_nonneg_left h a1
theorem sW {a x:Rat}(a1:0<=a)(h:0<=x):0<=a*x:=Vp a1 h
def Day.q (d:Day)(f:Nat->Nat)(h:Nat->Rat)(c:dT):Rat:=if c.rk<f c.az then c.am else if c.rk=f c.az then d.w c*pos (h c.az-d.U c.az c.rk) else 0
def Day.l (d:Day)(f:Nat->Nat)(P:Nat->Prop)(h:Nat->Rat)(c:dT):Rat:=if c.rk<f c.az then c.am else if c.rk=f c.az/\P c.az then d.w c*(h c.az-d.U c.az c.rk) else 0
def Day.eM (d:Day)(a:dT->Rat)(i:Nat):Rat:=d.cash i+cm d.cZ λc=>if c.to=(i:Int) then a c else 0
theorem Day.CN {d:Day}{a b:dT->Rat}(h:∀c∈d.cZ,a c<=b c)(i:Nat):d.eM a i<=d.eM b i:=by
 unfold Day.eM
 have:=CK (l:=d.cZ) (aP:=λc=>if c.to=(i:Int) then a c else 0) (bA:=λc=>if c.to=(i:Int) then b c else 0) λc G=>by
  try dsimp only
  split
  ·exact h c G
  ·exact fA
 grind
theorem Day.adN {d:Day}{a b:dT->Rat}(h:∀c∈d.cZ,a c=b c)(i:Nat):d.eM a i=d.eM b i:=by
 unfold Day.eM
 congr 1
 exact vA λc G=>by rw[h c G]
theorem Day.NO (d:Day)(a b:dT->Rat)(i:Nat):d.eM a i-d.eM b i=cm d.cZ λc=>if c.to=(i:Int) then a c-b c else 0:=by
 unfold Day.eM
 have:(λc:dT=>if c.to=(i:Int) then a c-b c else 0)=λc=>(if c.to=(i:Int) then a c else 0)-(if c.to=(i:Int) then b c else 0):=by
  funext c;split<;>grind
 rw[this,JR];grind
def Day.gC (d:Day)(C:Nat->Prop)(x:Nat->Rat):Rat:=bz d.n λi=>if C i then x i else 0
theorem Day.aq4 (d:Day)(C:Nat->Prop)(x y:Nat->Rat):d.gC C (λi=>x i-y i)=d.gC C x-d.gC C y:=by
 unfold Day.gC;rw[<-FR];exact jP λk _=>by split<;>grind
theorem Day.aq5 (d:Day)(C:Nat->Prop)(x y:Nat->Rat):d.gC C (λi=>x i+y i)=d.gC C x+d.gC C y:=by
 unfold Day.gC;rw[<-um];exact jP λk _=>by split<;>grind
theorem Day.adO {d:Day}{C:Nat->Prop}{x y:Nat->Rat}(h:∀i,i<d.n->C i->x i<=y i):d.gC C x<=d.gC C y:=by
 refine JS λk J=>?_
 by_cases G:C k
 ·rw[Z G,Z G];exact h k J G
 ·rw[aa G,aa G];exact fA
theorem Day.JV {d:Day}{C:Nat->Prop}{x y:Nat->Rat}(h:∀i,i<d.n->C i->x i=y i):d.gC C x=d.gC C y:=by
 refine jP λk J=>?_
 split
 ·exact h k J (by assumption)
 ·rfl
theorem Day.Vr {d:Day}{C:Nat->Prop}(jQ:∀i,C i->i<d.n)(a:dT->Rat):d.gC C (d.eM a)=d.gC C d.cash+cm d.cZ λc=>if p5 C c then a c else 0:=by
 rw[<-Vk C jQ];show bz d.n _=bz d.n _+_;rw[<-um];refine jP λk _=>?_;unfold Day.eM
 split<;>grind
def Day.closed (d:Day)(f:Nat->Nat)(C:Nat->Prop):Prop:=∀c∈d.cZ,C c.az->c.rk=f c.az->0<c.am->p5 C c
def Day.cap (d:Day)(f:Nat->Nat)(g:Nat->Rat)(C:Nat->Prop)(k:Nat):Rat:=if C k then d.U k (f k) else g k
section
variable {d:Day} {f:Nat->Nat} {P:Nat->Prop} {h g:Nat->Rat} {C:Nat->Prop} {c:dT}
theorem Day.adP (E:c.rk<f c.az):d.l f P h c=c.am:=by unfold Day.l;rw[Z E]
theorem Day.adQ (E:c.rk=f c.az)(H:P c.az):d.l f P h c=d.w c*(h c.az-d.U c.az c.rk):=by
 unfold Day.l;rw[aa (by omega),Z ⟨E,H⟩]
theorem Day.Vs (E:¬ c.rk<f c.az)(H:¬ (c.rk=f c.az/\P c.az)):d.l f P h c=0:=by
 unfold Day.l;rw[aa E,aa H]
theorem Day.aq6 (E:c.rk<f c.az):d.q f h c=c.am:=by unfold Day.q;rw[Z E]
theorem Day.aq7 (E:c.rk=f c.az):d.q f h c=d.w c*pos (h c.az-d.U c.az c.rk):=by
 unfold Day.q;rw[aa (by omega),Z E]
theorem Day.aq8 (E:¬ c.rk<f c.az)(H:¬ c.rk=f c.az):d.q f h c=0:=by
 unfold Day.q;rw[aa E,aa H]
theorem JW (h:¬ C c.az):d.q f (d.cap f g C) c=d.q f g c:=by
 unfold Day.q Day.cap;rw[aa h]
theorem FV (h:C c.az):d.q f (d.cap f g C) c=if c.rk<f c.az then c.am else 0:=by
 by_cases E:c.rk<f c.az
 ·rw[Z E,Day.aq6 E]
 ·rw[aa E]
  by_cases H:c.rk=f c.az
  ·rw[Day.aq7 H];unfold Day.cap;rw[Z h,H,uo (by grind),nA]
  ·rw[Day.aq8 E H]
end
structure Inv (d:Day) (f:Nat->Nat) (g:Nat->Rat):Prop where
 le:∀i,f i<=10
 sup:∀i,i<d.n->d.eM (d.q f g) i<=g i
 bG:∀i,i<d.n->f i<10->d.U i (f i)<=g i
 L:∀i,i<d.n->f i<10->g i<d.U i (f i+1)
 cZ:∀C:Nat->Prop,(∃i,C i)->(∀i,C i->i<d.n/\f i<10)->d.closed f C->d.gC C (d.eM (d.q f (d.cap f g C)))<d.gC C λi=>d.U i (f i)
theorem Inv.qS {d:Day}{f:Nat->Nat}{g:Nat->Rat}(h:Inv d f g){i:Nat}(L:i<d.n)(aJ:f i<10):0<d.S i (f i):=by
 have E:=h.bG i L aJ;have H:=h.L i L aJ;rw[d.xt] at H;grind
theorem Inv.start {d:Day}(X:d.c0):Inv d (λ_=>10) (d.eM λc=>c.am) :=
 ⟨λ_=>bP _,λi _=>d.CN (λc G=>by
  unfold Day.q;rw[Z (X.rk c G)];exact fA) i,λi _ h=>absurd h (by omega),λi _ h=>absurd h (by omega),λC ⟨i,L⟩ h=>absurd (h i L).2 (by omega)⟩
theorem Inv.adR {d:Day}{f:Nat->Nat}{g:Nat->Rat}(L:Inv d f g)(X:d.c0){C:Nat->Prop}(E:∃i,C i)(H:∀i,C i->i<d.n/\f i<10)(ab:d.closed f C)(cN:dT->Rat)(e:Nat->Rat)(he:∀k,k<d.n->C k->0<=e k)
  (fQ:∀c∈d.cZ,p5 C c->cN c<=d.q f (d.cap f g C) c+if C c.az/\c.rk=f c.az then d.w c*e c.az else 0):d.gC C (d.eM cN)<d.gC C λi=>d.U i (f i)+e i:=by
 have cH:=L.cZ C E H ab;have jQ:∀i,C i->i<d.n:=λi h=>(H i h).1;have dc:=X.JU C f (λk J=>L.qS (H k J).1 (H k J).2) e;rw[Day.Vr jQ] at cH ⊢;rw[Day.aq5]
 have dV:cm d.cZ (λc=>if p5 C c then cN c else 0)<=cm d.cZ λc=>(if p5 C c then d.q f (d.cap f g C) c else 0)+(if C c.az/\c.rk=f c.az then d.w c*e c.az else 0):=by
  refine CK λc G=>?_
  have ak:0<=if C c.az/\c.rk=f c.az then d.w c*e c.az else 0:=by
   split
   ·exact sW (X.p6 G) (he _ (X.az c G) (by rename_i h;exact h.1))
   ·exact fA
  by_cases b9:p5 C c
  ·rw[Z b9,Z b9];exact fQ c G b9
  ·rw[aa b9,aa b9];grind
 rw[NK,dc] at dV;have iu:d.gC C e=bz d.n λk=>if C k then e k else 0:=rfl;rw[<-iu] at dV;grind
structure ia (d:Day) (f:Nat->Nat) (g:Nat->Rat) (P:Nat->Prop) (h:Nat->Rat):Prop where
 gQ:∀i,P i->i<d.n/\f i<10
 NP:∀C:Nat->Prop,(∃i,C i)->(∀i,C i->P i)->¬ d.closed f C
 sys:∀i,i<d.n->h i=d.eM (d.l f P h) i
 le:∀i,i<d.n->h i<=g i
 ge:∀i,P i->d.U i (f i)<h i
theorem Bt {d:Day}{f:Nat->Nat}{g:Nat->Rat}(L:Inv d f g)(X:d.c0){P:Nat->Prop}(fP:∀i,P i->i<d.n/\f i<10)(bx:∀C:Nat->Prop,(∃i,C i)->(∀i,C i->P i)->¬ d.closed f C)(x:Nat->Rat)
  (O:∀i,i<d.n->(cm d.cZ λc=>if c.to=(i:Int) then (if c.rk=f c.az/\P c.az then d.w c*x c.az else 0) else 0)<=x i):∀i,i<d.n->0<=x i:=by
 have key:∀i,P i->0<=x i:=by
  intro i0 rv;apply j6;intro j3;obtain⟨C,sX⟩:∃C:Nat->Prop,∀i,C i↔P i/\x i<0:=⟨λi=>P i/\x i<0,λ_=>Iff.rfl⟩;have jQ:∀i,C i->i<d.n:=λi h=>(fP i ((sX i).1 h).1).1;refine bx C ⟨i0,(sX i0).2 ⟨rv,by grind⟩⟩ (λi h=>((sX i).1 h).1) ?_
  have aw:=Vk C jQ d.cZ λc=>if c.rk=f c.az/\P c.az then d.w c*x c.az else 0;have aC:=X.JU C f (λk J=>L.qS (fP k ((sX k).1 J).1).1 (fP k ((sX k).1 J).1).2) x
  have cx:bz d.n (λi=>if C i then cm d.cZ (λc=>if c.to=(i:Int) then (if c.rk=f c.az/\P c.az then d.w c*x c.az else 0) else 0) else 0)<=bz d.n (λk=>if C k then x k else 0):=by
   refine JS λk J=>?_
   by_cases G:C k
   ·rw[Z G,Z G];exact O k J
   ·rw[aa G,aa G];exact fA
  rw[aw,<-aC] at cx;have dk:=Vi (l:=d.cZ) (aP:=λc=>(if p5 C c then (if c.rk=f c.az/\P c.az then d.w c*x c.az else 0) else 0)-(if C c.az/\c.rk=f c.az then d.w c*x c.az else 0)) (λc G=>?_) (by rw[JR];grind)
  ·intro c G gk ha p7;apply j6;intro b9;have:=dk c G
   try dsimp only at this
   rw[aa b9,Z ⟨gk,ha⟩] at this;have E:=X.Vq G p7;have H:=((sX _).1 gk).2;have ab:0<d.w c*(-x c.az):=JT E (by grind);grind
  ·try dsimp only
   have E:=X.p6 G
   have fi:((if C c.az/\c.rk=f c.az then d.w c*x c.az else 0)=(if c.rk=f c.az/\P c.az then d.w c*x c.az else 0)/\(if C c.az/\c.rk=f c.az then d.w c*x c.az else 0)<=0)\/((if C c.az/\c.rk=f c.az then d.w c*x c.az else 0)=0/\0<=(if c.rk=f c.az/\P c.az then d.w c*x c.az else 0)):=by
    by_cases gk:C c.az/\c.rk=f c.az
    ·left
     have H:=(sX _).1 gk.1;have ab:0<=d.w c*(-x c.az):=sW E (by have:=H.2;grind);have aM:c.rk=f c.az/\P c.az:=⟨gk.2,H.1⟩;rw[Z gk,Z aM];exact⟨rfl,by grind⟩
    ·right
     rw[aa gk];refine⟨rfl,?_⟩
     split
     ·rename_i H;refine sW E ?_;apply j6;intro h;exact gk ⟨(sX _).2 ⟨H.2,by grind⟩,H.1⟩
     ·exact fA
   generalize (if C c.az/\c.rk=f c.az then d.w c*x c.az else 0)=B at *;generalize (if c.rk=f c.az/\P c.az then d.w c*x c.az else 0)=A at *;rcases fi with ⟨H,ab⟩|⟨H,ab⟩<;>split<;>grind
 intro i b9;refine uq ?_ (O i b9);refine xr λc G=>?_
 split
 ·split
  ·rename_i h;exact sW (X.p6 G) (key _ h.2)
  ·exact fA
 ·exact fA
theorem Day.aq9 (d:Day)(f:Nat->Nat)(P:Nat->Prop)(h b2:Nat->Rat)(c:dT):d.l f P b2 c-d.l f P h c=if c.rk=f c.az/\P c.az then d.w c*(b2 c.az-h c.az) else 0:=by
 unfold Day.l
 by_cases E:c.rk<f c.az
 ·rw[Z E,Z E,aa (by omega)];grind
 ·rw[aa E,aa E]
  split<;>grind
theorem ara {d:Day}{f:Nat->Nat}{g:Nat->Rat}(L:Inv d f g)(X:d.c0){P:Nat->Prop}(fP:∀i,P i->i<d.n/\f i<10)(bx:∀C:Nat->Prop,(∃i,C i)->(∀i,C i->P i)->¬ d.closed f C){h b2:Nat->Rat}
  (e:∀i,i<d.n->h i=d.eM (d.l f P h) i) (e':∀i,i<d.n->b2 i=d.eM (d.l f P b2) i):∀i,i<d.n->h i=b2 i:=by
 have main:∀h b2:Nat->Rat,(∀i,i<d.n->h i=d.eM (d.l f P h) i)->(∀i,i<d.n->b2 i=d.eM (d.l f P b2) i)->∀i,i<d.n->0<=b2 i-h i:=by
  intro h b2 e e';refine Bt L X fP bx (λi=>b2 i-h i) λi b9=>?_;rw[e i b9,e' i b9,d.NO];refine CJ (vA λc G=>?_);rw[d.aq9]
 intro i b9;have E:=main h b2 e e' i b9;have H:=main b2 h e' e i b9;grind
theorem arb {d:Day}{f:Nat->Nat}{g:Nat->Rat}(L:Inv d f g)(X:d.c0){P:Nat->Prop}(fP:∀i,P i->i<d.n/\f i<10)(bx:∀C:Nat->Prop,(∃i,C i)->(∀i,C i->P i)->¬ d.closed f C)(x:Nat->Rat)
  (O:∀i,i<d.n->x i=cm d.cZ λc=>if c.to=(i:Int) then (if c.rk=f c.az/\P c.az then d.w c*x c.az else 0) else 0):∀i,i<d.n->x i=0:=by
 intro i b9;have E:=Bt L X fP bx x (λi b9=>CJ (O i b9).symm) i b9;have H:=Bt L X fP bx (λi => -x i) (λi b9=>?_) i b9
 ·grind
 ·rw[O i b9];refine CJ ?_;have:∀aP:dT->Rat,-(cm d.cZ aP)=cm d.cZ λc=>(-1)*aP c:=λaP=>by rw[NL];grind
  rw[this];refine vA λc G=>?_
  split
  ·split<;>grind
  ·grind
theorem Day.arc {d:Day}(X:d.c0){f:Nat->Nat}{P:Nat->Prop}{h g:Nat->Rat}(hle:∀i,i<d.n->h i<=g i){c:dT}(G:c∈d.cZ):d.l f P h c<=d.q f g c:=by
 unfold Day.l Day.q
 by_cases E:c.rk<f c.az
 ·rw[Z E,Z E];exact fA
 ·rw[aa E,aa E]
  by_cases H:c.rk=f c.az
  ·rw[Z H];have hw:=X.p6 G
   by_cases ab:P c.az
   ·rw[Z ⟨H,ab⟩];refine CM hw (uq ?_ (NN _));have:=hle _ (X.az c G);grind
   ·rw[aa λh=>ab h.2];exact sW hw (CL _)
  ·rw[aa λh=>H h.1,aa H];exact fA
theorem ia.start {d:Day}(X:d.c0){f:Nat->Nat}{g:Nat->Rat}(L:Inv d f g){h:Nat->Rat}(Q:∀i,i<d.n->h i=d.eM (d.l f (λ_=>False) h) i):ia d f g (λ_=>False) h :=
 ⟨λi h=>h.elim,λC ⟨i,h⟩ b2=>(b2 i h).elim,Q,λi b9=>by
  rw[Q i b9];refine uq (d.CN (b:=d.q f g) (λc G=>?_) i) (L.sup i b9);unfold Day.l Day.q
  by_cases E:c.rk<f c.az
  ·rw[Z E,Z E];exact fA
  ·rw[aa E,aa E,aa λh=>h.2]
   split
   ·exact sW (X.p6 G) (CL _)
   ·exact fA,λi h=>h.elim⟩
def rR (d:Day)(f:Nat->Nat)(P:Nat->Prop)(h:Nat->Rat)(i:Nat):Prop:=P i\/(i<d.n/\f i<10/\d.U i (f i)<h i)
theorem ia.FW {d:Day}{f:Nat->Nat}{g:Nat->Rat}{P:Nat->Prop}{h:Nat->Rat}(aB:ia d f g P h):∀i,rR d f P h i->i<d.n/\f i<10:=λi aG=>aG.elim (aB.gQ i) λh=>⟨h.1,h.2.1⟩
theorem ia.Vt {d:Day}{f:Nat->Nat}{g:Nat->Rat}{P:Nat->Prop}{h:Nat->Rat}(aB:ia d f g P h):∀i,rR d f P h i->d.U i (f i)<h i:=λi aG=>aG.elim (aB.ge i) λh=>h.2.2
theorem ia.adS {d:Day}(X:d.c0){f:Nat->Nat}{g:Nat->Rat}(L:Inv d f g){P:Nat->Prop}{h:Nat->Rat}(aB:ia d f g P h):∀C:Nat->Prop,(∃i,C i)->(∀i,C i->rR d f P h i)->¬ d.closed f C:=by
 intro C E H ab;have aJ:∀i,C i->i<d.n/\f i<10:=λi G=>aB.FW i (H i G)
 have g5:=L.adR X E aJ ab (d.l f P h) (λk=>if P k then h k-d.U k (f k) else 0) (λk _ J=>by
  try dsimp only
  split
  ·have:=aB.ge k (by assumption);grind
  ·exact fA) λc G _=>by
   by_cases dV:C c.az
   ·rw[FV dV]
    by_cases cH:c.rk<f c.az
    ·rw[Day.adP cH,Z cH,aa (λh=>by have:=h.2;omega)];grind
    ·rw[aa cH]
     by_cases dc:c.rk=f c.az
     ·have mu:C c.az/\c.rk=f c.az:=⟨dV,dc⟩;rw[Z mu]
      by_cases iu:P c.az
      ·rw[Day.adQ dc iu,Z iu,dc];grind
      ·rw[Day.Vs cH (λh=>iu h.2),aa iu];grind
     ·rw[Day.Vs cH (λh=>dc h.1),aa λh=>dc h.2];grind
   ·rw[JW dV,aa λh=>dV h.1];have:=Day.arc X (P:=P) (f:=f) aB.le G;grind
 have e:d.gC C (d.eM (d.l f P h))=d.gC C h:=Day.JV λi b9 _=>(aB.sys i b9).symm;rw[e] at g5
 have:d.gC C (λi=>d.U i (f i)+if P i then h i-d.U i (f i) else 0)<=d.gC C h:=by
  refine Day.adO λi b9 G=>?_;have:=aB.Vt i (H i G)
  split<;>grind
 grind
theorem ia.next {d:Day}(X:d.c0){f:Nat->Nat}{g:Nat->Rat}(L:Inv d f g){P:Nat->Prop}{h b2:Nat->Rat}(aB:ia d f g P h)(Q:∀i,i<d.n->b2 i=d.eM (d.l f (rR d f P h) b2) i):ia d f g (rR d f P h) b2:=by
 have bx:=aB.adS X L
 have wS:∀i,i<d.n->0<=b2 i-h i:=by
  refine Bt L X aB.FW bx (λi=>b2 i-h i) λi b9=>?_;rw[Q i b9,aB.sys i b9,d.NO];refine CK λc G=>?_;have hw:=X.p6 G
  split
  ·unfold Day.l
   by_cases E:c.rk<f c.az
   ·rw[Z E,Z E,aa (by omega)];grind
   ·rw[aa E,aa E]
    by_cases H:c.rk=f c.az
    ·by_cases ab:rR d f P h c.az
     ·rw[Z ⟨H,ab⟩,Z ⟨H,ab⟩]
      by_cases aM:P c.az
      ·rw[Z ⟨H,aM⟩];grind
      ·rw[aa λh=>aM h.2];have bl:=aB.Vt _ ab;have:=sW hw (show 0<=h c.az-d.U c.az c.rk by rw[H];grind);grind
     ·rw[aa λh=>ab h.2,aa λh=>ab h.2,aa λh=>ab (.inl h.2)];grind
    ·rw[aa λh=>H h.1,aa λh=>H h.1,aa λh=>H h.1];grind
  ·exact fA
 have hle:∀i,i<d.n->0<=g i-b2 i:=by
  refine Bt L X aB.FW bx (λi=>g i-b2 i) λi b9=>?_;refine uq ?_ (show d.eM (d.q f g) i-b2 i<=g i-b2 i by have:=L.sup i b9;grind);rw[Q i b9,d.NO];refine CK λc G=>?_;have hw:=X.p6 G
  split
  ·unfold Day.l Day.q
   by_cases E:c.rk<f c.az
   ·rw[Z E,Z E,aa (by omega)];grind
   ·rw[aa E,aa E]
    by_cases H:c.rk=f c.az
    ·rw[Z H]
     by_cases ab:rR d f P h c.az
     ·rw[Z ⟨H,ab⟩,Z ⟨H,ab⟩];have:=CM hw (NN (g c.az-d.U c.az c.rk));grind
     ·rw[aa λh=>ab h.2,aa λh=>ab h.2];have:=sW hw (CL (g c.az-d.U c.az c.rk));grind
    ·rw[aa λh=>H h.1,aa H,aa λh=>H h.1];grind
  ·exact fA
 exact⟨aB.FW,bx,Q,λi b9=>by have:=hle i b9;grind,λi aG=>by
  have E:=aB.Vt i aG;have H:=wS i (aB.FW i aG).1;grind⟩
theorem ia.stop {d:Day}(X:d.c0){f:Nat->Nat}{g:Nat->Rat}{P:Nat->Prop}{h:Nat->Rat}(aB:ia d f g P h)(L:Inv d f g)(ard:∀i,i<d.n->f i<10->d.U i (f i)<h i->P i):∀i,i<d.n->h i=d.eM (d.q f h) i:=by
 intro i b9;rw[aB.sys i b9];refine d.adN (λc G=>?_) i;unfold Day.l Day.q
 by_cases E:c.rk<f c.az
 ·rw[Z E,Z E]
 ·rw[aa E,aa E]
  by_cases H:c.rk=f c.az
  ·rw[Z H]
   by_cases ab:P c.az
   ·rw[Z ⟨H,ab⟩,xu];have:=aB.ge _ ab;rw[H];grind
   ·rw[aa λh=>ab h.2,uo]
    ·grind
    ·apply j6;intro aG;refine ab (ard _ (X.az c G) (by rw[<-H];exact X.rk c G) ?_);rw[<-H];grind
  ·rw[aa λh=>H h.1,aa H]
end Go.Mini
namespace Go.Mini
open Classical
def Day.iS (d:Day)(h:Nat->Rat)(c:dT):Rat:=if d.U c.az (c.rk+1)<=h c.az then c.am else d.w c*pos (h c.az-d.U c.az c.rk)
theorem Day.c0.NQ {d:Day}(X:d.c0){c:dT}(G:c∈d.cZ){x:Rat}(h:x<=d.S c.az c.rk):d.w c*x<=c.am:=by
 have ak:=X.am c G;have E:=X.Vo G
 by_cases cB:0<d.S c.az c.rk
 ·have:=CM (X.p6 G) h;rw[Day.FU cB] at this;exact this
 ·rw[Day.Jy (by grind),zb];exact ak
theorem Day.c0.Vu {d:Day}(X:d.c0)(h:Nat->Rat){c:dT}(G:c∈d.cZ):d.iS h c<=c.am:=by
 unfold Day.iS
 split
 ·exact fA
 ·rename_i aG;refine X.NQ G ?_;rw[d.xt] at aG;have:=X.NM c.az c.rk;unfold pos
  split<;>grind
theorem Day.c0.adT {d:Day}(X:d.c0)(h:Nat->Rat){c:dT}(G:c∈d.cZ):0<=d.iS h c:=by
 unfold Day.iS
 split
 ·exact X.am c G
 ·exact sW (X.p6 G) (CL _)
theorem Day.c0.NR {d:Day}(X:d.c0)(f:Nat->Nat)(h:Nat->Rat){c:dT}(G:c∈d.cZ):0<=d.q f h c:=by
 unfold Day.q
 split
 ·exact X.am c G
 ·split
  ·exact sW (X.p6 G) (CL _)
  ·exact fA
theorem Day.c0.Vv {d:Day}(X:d.c0){a:dT->Rat}(h:∀c∈d.cZ,0<=a c){i:Nat}(L:i<d.n):0<=d.eM a i:=by
 unfold Day.eM;have E:=X.cash i L
 have:=xr (l:=d.cZ) (aP:=λc=>if c.to=(i:Int) then a c else 0) λc G=>by
  try dsimp only
  split
  ·exact h c G
  ·exact fA
 grind
theorem Day.c0.adU {d:Day}(X:d.c0){f:Nat->Nat}{h g:Nat->Rat}{c:dT}(G:c∈d.cZ)(hle:h c.az<=g c.az):d.q f h c<=d.q f g c:=by
 unfold Day.q
 split
 ·exact fA
 ·split
  ·exact CM (X.p6 G) (adM (by grind))
  ·exact fA
def Vw (d:Day)(f:Nat->Nat)(h:Nat->Rat)(gK:Nat->Nat):Prop:=(∀i,gK i<=10)/\(∀i,i<d.n->h i<d.U i (f i)->gK i<f i/\d.U i (gK i)<=h i/\h i<d.U i (gK i+1))/\∀i,i<d.n->d.U i (f i)<=h i->gK i=f i
theorem Vx {d:Day}(X:d.c0){f gK:Nat->Nat}{h:Nat->Rat}(aJ:Vw d f h gK){c:dT}(G:c∈d.cZ):d.q gK h c<=d.q f h c:=by
 obtain⟨-,E,H⟩:=aJ;have bR:=X.az c G
 by_cases e4:h c.az<d.U c.az (f c.az)
 ·obtain⟨cH,dc,dV⟩:=E _ bR e4;unfold Day.q
  by_cases fb:c.rk<gK c.az
  ·rw[Z fb,Z (by omega)];exact fA
  ·rw[aa fb]
   by_cases ew:c.rk=gK c.az
   ·rw[Z ew,Z (by omega)];rw[<-ew] at dc dV;rw[d.xt] at dV;exact X.NQ G (by rw[xu (by grind)];grind)
   ·rw[aa ew];exact X.NR f h G
 ·have:=H _ bR (by grind);unfold Day.q;rw[this];exact fA
theorem Inv.Vy {d:Day}(X:d.c0){f gK:Nat->Nat}{g h:Nat->Rat}(L:Inv d f g)(AR:∀i,i<d.n->h i=d.eM (d.q f h) i)(hle:∀i,i<d.n->h i<=g i)(aJ:Vw d f h gK):Inv d gK h:=by
 have fa:∀i,i<d.n->gK i<10->d.U i (gK i)<=h i:=by
  intro i b9 AL
  by_cases e4:h i<d.U i (f i)
  ·exact (aJ.2.1 i b9 e4).2.1
  ·rw[aJ.2.2 i b9 (by grind)];grind
 have iJ:∀i,i<d.n->gK i<10->h i<d.U i (gK i+1):=by
  intro i b9 AL
  by_cases e4:h i<d.U i (f i)
  ·exact (aJ.2.1 i b9 e4).2.2
  ·have e:=aJ.2.2 i b9 (by grind);rw[e] at AL ⊢;have:=L.L i b9 AL;have:=hle i b9;grind
 have cB:∀i,i<d.n->gK i<10->0<d.S i (gK i):=by
  intro i b9 AL;have E:=fa i b9 AL;have H:=iJ i b9 AL;rw[d.xt] at H;grind
 refine⟨aJ.1,λi b9=>?_,fa,iJ,λC E H ab=>?_⟩
 ·exact uq (d.CN (λc G=>Vx X aJ G) i) (CJ (AR i b9).symm)
 ·have jQ:∀i,C i->i<d.n:=λi G=>(H i G).1
  by_cases hex:∃k,C k/\h k<d.U k (f k)
  ·obtain⟨ff,ma,e4⟩:=hex;have adV:=jQ ff ma;obtain⟨dP,gV,oH⟩:=aJ.2.1 ff adV e4;have pV:=cB ff adV (H ff ma).2;obtain⟨j5,ku,oy⟩:=Vj pV
   have arf:j5.az=ff/\j5.rk=gK ff/\0<j5.am:=by
    by_cases aS:j5.az=ff/\j5.rk=gK ff
    ·rw[Z aS] at oy;exact⟨aS.1,aS.2,oy⟩
    ·rw[aa aS] at oy;exact absurd oy (by grind)
   obtain⟨db,dH,fk⟩:=arf;have aw:=Day.Vr jQ (d.q f h);have aC:=Day.Vr jQ (d.q gK (d.cap gK h C));have cx:d.gC C (d.eM (d.q f h))=d.gC C h:=Day.JV λi b9 _=>(AR i b9).symm;have dk:=X.JU C gK (λk J=>cB k (jQ k J) (H k J).2) λk=>h k-d.U k (gK k);have dS:d.gC C (λk=>h k-d.U k (gK k))=bz d.n λk=>if C k then h k-d.U k (gK k) else 0:=rfl;rw[<-dS,d.aq4] at dk
   have bQ:cm d.cZ (λc=>(if p5 C c then d.q gK (d.cap gK h C) c else 0)+(if C c.az/\c.rk=gK c.az then d.w c*(h c.az-d.U c.az (gK c.az)) else 0))<cm d.cZ (λc=>if p5 C c then d.q f h c else 0):=by
    refine aq1 (λc G=>?_) ku ?_
    ·have bR:=X.az c G
     by_cases b9:p5 C c
     ·rw[Z b9,Z b9]
      by_cases gk:C c.az
      ·rw[FV gk]
       by_cases fb:c.rk<gK c.az
       ·rw[Z fb,aa (by omega)]
        have:c.rk<f c.az:=by
         by_cases e4:h c.az<d.U c.az (f c.az)
         ·have:=(aJ.2.1 _ bR e4).1;omega
         ·rw[<-aJ.2.2 _ bR (by grind)];exact fb
        unfold Day.q;rw[Z this];grind
       ·rw[aa fb]
        by_cases ew:c.rk=gK c.az
        ·rw[Z ⟨gk,ew⟩]
         by_cases e4:h c.az<d.U c.az (f c.az)
         ·obtain⟨cH,dc,dV⟩:=aJ.2.1 _ bR e4;unfold Day.q;rw[Z (by omega)];rw[d.xt] at dV;have:=X.NQ G (x:=h c.az-d.U c.az (gK c.az)) (by rw[ew];grind);grind
         ·have e:=aJ.2.2 _ bR (by grind);rw[e] at fb ew ⊢;unfold Day.q;rw[aa fb,Z ew,<-ew];have:=CM (X.p6 G) (NN (h c.az-d.U c.az c.rk));grind
        ·rw[aa λh=>ew h.2];have:=X.NR f h G;grind
      ·rw[JW gk,aa λh=>gk h.1];have:=Vx X aJ G;grind
     ·rw[aa b9,aa b9]
      by_cases gk:C c.az/\c.rk=gK c.az
      ·rw[Z gk]
       have:c.am=0:=by
        have ak:=X.am c G
        by_cases aB:0<c.am
        ·exact absurd (ab c G gk.1 gk.2 aB) b9
        ·grind
       rw[Day.Jy this];grind
      ·rw[aa gk];grind
    ·have gk:C j5.az:=by rw[db];exact ma
     have ha:j5.rk=gK j5.az:=by rw[db];exact dH
     have b9:=ab j5 ku gk ha fk;rw[Z b9,Z b9,FV gk,aa (by omega),Z ⟨gk,ha⟩];unfold Day.q;rw[Z (by rw[db];omega)];have hw:=X.Vq ku fk;have Mp:=d.FU (c:=j5) (by rw[db,dH];exact pV);rw[d.xt] at oH;rw[<-db,<-ha] at oH;rw[<-ha];have:0<d.w j5*(d.S j5.az j5.rk-(h j5.az-d.U j5.az j5.rk)):=JT hw (by rw[db] at oH ⊢;grind);grind
   rw[NK,dk] at bQ;grind
  ·have we:∀k,C k->gK k=f k:=λk J=>aJ.2.2 k (jQ k J) (by
    apply j6;intro aG;exact hex ⟨k,J,by grind⟩)
   have cH:=L.cZ C E (λi G=>⟨jQ i G,by rw[<-we i G];exact (H i G).2⟩) (λc G gk ha p7=>ab c G gk (by rw[we _ gk];exact ha) p7);have dc:d.gC C (λi=>d.U i (gK i))=d.gC C λi=>d.U i (f i):=Day.JV λi _ G=>by rw[we i G]
   rw[dc]
   have dV:d.gC C (d.eM (d.q gK (d.cap gK h C)))<=d.gC C (d.eM (d.q f (d.cap f g C))):=by
    refine Day.adO λi _ _=>d.CN (λc G=>?_) i
    by_cases gk:C c.az
    ·rw[FV gk,FV gk,we _ gk];exact fA
    ·rw[JW gk,JW gk];exact uq (Vx X aJ G) (X.adU G (hle _ (X.az c G)))
   grind
def Day.ur (d:Day)(h:Nat->Rat)(i:Nat):Rat:=d.eM (d.iS h) i
theorem arh {d:Day}(X:d.c0){f:Nat->Nat}{g z:Nat->Rat}(L:Inv d f g)(aQ:∀i,i<d.n->z i<=g i){c:dT}(G:c∈d.cZ):d.iS z c<=d.q f z c:=by
 have bR:=X.az c G;have ha:=X.rk c G;unfold Day.q
 by_cases fb:c.rk<f c.az
 ·rw[Z fb];exact X.Vu z G
 ·rw[aa fb];have fI:f c.az<10:=by omega
  have E:=L.L _ bR fI;have H:=aQ _ bR
  by_cases ew:c.rk=f c.az
  ·rw[Z ew];unfold Day.iS;rw[aa (by rw[ew];grind)];exact fA
  ·rw[aa ew];have ab:=X.vB c.az (r:=f c.az+1) (s:=c.rk) (by omega);have aM:=X.vB c.az (r:=c.rk) (s:=c.rk+1) (by omega);unfold Day.iS;rw[aa (by grind),uo (by grind),nA];exact fA
theorem Inv.Vz {d:Day}(X:d.c0){f:Nat->Nat}{g h z:Nat->Rat}(L:Inv d f g)(AR:∀i,i<d.n->h i=d.eM (d.q f h) i)(hle:∀i,i<d.n->h i<=g i)(aQ:∀i,i<d.n->z i<=d.eM (d.q f z) i):∀i,i<d.n->z i<=h i:=by
 intro i0 rv;apply j6;intro j3;obtain⟨C,sX⟩:∃C:Nat->Prop,∀i,C i↔i<d.n/\h i<z i:=⟨λi=>i<d.n/\h i<z i,λ_=>Iff.rfl⟩;obtain⟨FX,zc⟩:∃ari:Nat->Prop,∀i,ari i↔C i/\f i<10:=⟨λi=>C i/\f i<10,λ_=>Iff.rfl⟩;have jQ:∀i,C i->i<d.n:=λi h=>((sX i).1 h).1;have FY:∀i,C i->h i<z i:=λi h=>((sX i).1 h).2;have bN:∃i,C i:=⟨i0,(sX i0).2 ⟨rv,by grind⟩⟩
 have aw:=Vk C jQ d.cZ λc=>d.q f z c-d.q f h c;have aC:=X.JU FX f (λk J=>L.qS (jQ k ((zc k).1 J).1) ((zc k).1 J).2) λk=>z k-h k
 have cx:d.gC C (λi=>z i-h i)<=bz d.n λi=>if C i then cm d.cZ (λc=>if c.to=(i:Int) then d.q f z c-d.q f h c else 0) else 0:=by
  refine JS λk J=>?_
  by_cases G:C k
  ·rw[Z G,Z G,<-d.NO,<-AR k J];have E:=aQ k J;grind
  ·rw[aa G,aa G];exact fA
 rw[aw] at cx
 have dk:bz d.n (λk=>if FX k then z k-h k else 0)<=d.gC C (λi=>z i-h i):=by
  refine JS λk J=>?_
  by_cases G:C k
  ·rw[Z G];have:=FY k G
   split<;>grind
  ·rw[aa G,aa λh=>G ((zc k).1 h).1];exact fA
 have adW:∀c∈d.cZ,0<=(if FX c.az/\c.rk=f c.az then d.w c*(z c.az-h c.az) else 0)-(if p5 C c then d.q f z c-d.q f h c else 0):=by
  intro c G;have hw:=X.p6 G;have bR:=X.az c G;have ha:=X.rk c G
  by_cases E:FX c.az/\c.rk=f c.az
  ·rw[Z E];have H:0<=d.w c*(z c.az-h c.az):=sW hw (by have:=FY _ ((zc _).1 E.1).1;grind)
   have ab:d.q f z c-d.q f h c<=d.w c*(z c.az-h c.az):=by
    unfold Day.q;rw[aa (by omega),Z E.2,aa (by omega),Z E.2]
    have aM:pos (z c.az-d.U c.az c.rk)-pos (h c.az-d.U c.az c.rk)<=z c.az-h c.az:=by
     have:=FY _ ((zc _).1 E.1).1;unfold pos
     split<;>split<;>grind
    have:=CM hw aM;grind
   split<;>grind
  ·rw[aa E]
   have ab:d.q f z c-d.q f h c<=0:=by
    unfold Day.q
    by_cases fb:c.rk<f c.az
    ·rw[Z fb,Z fb];grind
    ·rw[aa fb,aa fb]
     by_cases ew:c.rk=f c.az
     ·rw[Z ew,Z ew]
      have aM:z c.az<=h c.az:=by
       apply j6;intro aG;exact E ⟨(zc _).2 ⟨(sX _).2 ⟨bR,by grind⟩,by omega⟩,ew⟩
      have:=CM hw (adM (show z c.az-d.U c.az c.rk<=h c.az-d.U c.az c.rk by grind));grind
     ·rw[aa ew,aa ew];grind
   split<;>grind
 have arj:=Vi adW (by rw[JR,aC];grind)
 have VA:∀k,C k->f k<10:=by
  have:bz d.n (λk=>(if C k then z k-h k else 0)-(if FX k then z k-h k else 0))<=0:=by
   rw[FR];have:0<=cm d.cZ λc=>(if FX c.az/\c.rk=f c.az then d.w c*(z c.az-h c.az) else 0)-(if p5 C c then d.q f z c-d.q f h c else 0):=xr adW;rw[JR,aC] at this;have bl:d.gC C (λi=>z i-h i)=bz d.n λk=>if C k then z k-h k else 0:=rfl;grind
  have aG:=aq2 (λk J=>by
   try dsimp only
   by_cases G:C k
   ·rw[Z G];have:=FY k G
    split<;>grind
   ·rw[aa G,aa λh=>G ((zc k).1 h).1];grind) this
  intro k J;apply j6;intro fI;have:=aG k (jQ k J)
  try dsimp only at this
  rw[Z J,aa λh=>fI ((zc k).1 h).2] at this;have:=FY k J;grind
 have b9:∀c∈d.cZ,C c.az->c.rk=f c.az->0<c.am->p5 C c/\d.U c.az c.rk<=h c.az:=by
  intro c G gk ha p7;have ak:=arj c G;have hw:=X.Vq G p7;have aq:=FY _ gk
  try dsimp only at ak
  rw[Z ⟨(zc _).2 ⟨gk,VA _ gk⟩,ha⟩] at ak
  by_cases b9:p5 C c
  ·refine⟨b9,?_⟩;rw[Z b9] at ak;unfold Day.q at ak;rw[aa (by omega),Z ha,aa (by omega),Z ha] at ak;apply j6;intro aG;rw[uo (x:=h c.az-d.U c.az c.rk) (by grind)] at ak
   have aM:0<z c.az-h c.az-pos (z c.az-d.U c.az c.rk):=by
    unfold pos
    split<;>grind
   have:=JT hw aM;grind
  ·rw[aa b9] at ak;have:0<d.w c*(z c.az-h c.az):=JT hw (by grind);grind
 have mW:∀k,C k->d.U k (f k)<=h k:=by
  intro k J;have Q:=L.qS (jQ k J) (VA k J);obtain⟨j5,ku,oy⟩:=Vj Q
  by_cases aS:j5.az=k/\j5.rk=f k
  ·rw[Z aS] at oy;have:=(b9 j5 ku (by rw[aS.1];exact J) (by rw[aS.1];exact aS.2) oy).2;rwa [aS.1,aS.2] at this
  ·rw[aa aS] at oy;exact absurd oy (by grind)
 have g5:=L.adR X bN (λi G=>⟨jQ i G,VA i G⟩) (λc G gk ha p7=>(b9 c G gk ha p7).1) (d.q f h) (λk=>h k-d.U k (f k)) (λk _ J=>by have:=mW k J;grind) λc G _=>by
  by_cases gk:C c.az
  ·rw[FV gk];unfold Day.q
   by_cases fb:c.rk<f c.az
   ·rw[Z fb,Z fb,aa (by omega)];grind
   ·rw[aa fb,aa fb]
    by_cases ew:c.rk=f c.az
    ·rw[Z ew,Z ⟨gk,ew⟩,ew,xu (by have:=mW _ gk;grind)];grind
    ·rw[aa ew,aa λh=>ew h.2];grind
  ·rw[JW gk,aa λh=>gk h.1];have:=X.adU (f:=f) G (hle _ (X.az c G));grind
 have bI:d.gC C (d.eM (d.q f h))=d.gC C h:=Day.JV λi b9 _=>(AR i b9).symm;have bC:d.gC C (λi=>d.U i (f i)+(h i-d.U i (f i)))=d.gC C h:=Day.JV λi _ _=>by grind
 rw[bI,bC] at g5;exact absurd g5 (by grind)
theorem Inv.final {d:Day}(X:d.c0){f:Nat->Nat}{g h:Nat->Rat}(L:Inv d f g)(AR:∀i,i<d.n->h i=d.eM (d.q f h) i)(hle:∀i,i<d.n->h i<=g i)(ie:∀i,i<d.n->d.U i (f i)<=h i):(∀i,i<d.n->h i=d.ur h i)/\∀i,i<d.n->(f i<10↔h i<d.U i 10):=by
 constructor
 ·intro i b9;rw[AR i b9];unfold Day.ur;have:∀j,j<d.n->h j=d.eM (d.q f h) j:=AR;refine d.adN (λc G=>?_) i;have bR:=X.az c G;have ha:=X.rk c G;have ak:=ie _ bR;unfold Day.q Day.iS
  by_cases fb:c.rk<f c.az
  ·have:=X.vB c.az (r:=c.rk+1) (s:=f c.az) (by omega);rw[Z fb,Z (by grind)]
  ·rw[aa fb];have fI:f c.az<10:=by omega
   have E:=L.L _ bR fI;have H:=hle _ bR
   by_cases ew:c.rk=f c.az
   ·rw[Z ew,aa (by rw[ew];grind)]
   ·have ab:=X.vB c.az (r:=f c.az+1) (s:=c.rk) (by omega);have aM:=X.vB c.az (r:=c.rk) (s:=c.rk+1) (by omega);rw[aa ew,aa (by grind),uo (by grind),nA]
 ·intro i b9
  constructor
  ·intro fI;have E:=L.L _ b9 fI;have H:=hle _ b9;have ab:=X.vB i (r:=f i+1) (s:=10) (by omega);grind
  ·intro E;apply j6;intro H;have ab:=L.le i;have aM:f i=10:=by omega
   have bl:=ie i b9;rw[aM] at bl;grind
end Go.Mini
namespace Go.Mini
open Classical
def mZ (d:Day)(f:Nat->Nat)(h:Nat->Rat):Prop:=∃g,Inv d f g/\(∀i,i<d.n->h i=d.eM (d.q f h) i)/\∀i,i<d.n->h i<=g i
theorem mZ.unique {d:Day}(X:d.c0){f:Nat->Nat}{h b2:Nat->Rat}(a:mZ d f h)(b:mZ d f b2):∀i,i<d.n->h i=b2 i:=by
 obtain⟨g,E,H,ab⟩:=a;obtain⟨dh,cH,dc,dV⟩:=b;intro i b9;have aw:=E.Vz X H ab (z:=b2) (λi L=>CJ (dc i L)) i b9;have aC:=cH.Vz X dc dV (z:=h) (λi L=>CJ (H i L)) i b9;grind
def Day.jg (d:Day)(h:Nat->Rat)(i:Nat):Nat->Nat
 |0=>10
 |k+1=>if h i<d.U i (10-(k+1)+1) then 10-(k+1) else Day.jg d h i k
theorem VB {d:Day}(X:d.c0){h:Nat->Rat}{i:Nat}:∀k,k<=10->d.U i (10-k)<=h i->(d.jg h i k=10/\d.U i 10<=h i)\/(10-k<=d.jg h i k/\d.jg h i k<10/\d.U i (d.jg h i k)<=h i/\h i<d.U i (d.jg h i k+1))
 |0,_,ak => .inl ⟨rfl,ak⟩
 |k+1,J,ak=>by
  unfold Day.jg
  by_cases E:h i<d.U i (10-(k+1)+1)
  ·rw[Z E];exact .inr ⟨bP _,by omega,ak,E⟩
  ·rw[aa E];rcases VB X (h:=h) (i:=i) k (by omega) (by rw[show 10-k=10-(k+1)+1 by omega];grind) with e|⟨aw,aC⟩
   ·exact .inl e
   ·exact .inr ⟨by omega,aC⟩
def Day.gQ (d:Day)(f:Nat->Nat)(h:Nat->Rat)(i:Nat):Nat:=if i<d.n/\h i<d.U i (f i) then d.jg h i 10 else f i
theorem adX {d:Day}(X:d.c0){f:Nat->Nat}{h:Nat->Rat}(hle:∀i,f i<=10)(ak:∀i,i<d.n->0<=h i):Vw d f h (d.gQ f h):=by
 have key:∀i,i<d.n->h i<d.U i (f i)->d.jg h i 10<f i/\d.U i (d.jg h i 10)<=h i/\h i<d.U i (d.jg h i 10+1):=by
  intro i b9 e4;have hm:=X.vB i (hle i);rcases VB X (h:=h) (i:=i) 10 (bP _) (by rw[mE,d.Vn];exact ak i b9) with ⟨-,e⟩|⟨-,aw,aC,cx⟩
  ·grind
  ·refine⟨?_,aC,cx⟩;apply j6;intro aG;have:=X.vB i (r:=f i) (s:=d.jg h i 10) (by omega);grind
 refine⟨λi=>?_,λi b9 e4=>?_,λi b9 e4=>?_⟩
 ·unfold Day.gQ
  split
  ·rename_i aS;have:=(key i aS.1 aS.2).1;have:=hle i;omega
  ·exact hle i
 ·unfold Day.gQ;rw[Z ⟨b9,e4⟩];exact key i b9 e4
 ·unfold Day.gQ;rw[aa λaS=>by have:=aS.2;grind]
theorem mZ.Vy {d:Day}(X:d.c0){f:Nat->Nat}{h:Nat->Rat}(a:mZ d f h):Inv d (d.gQ f h) h:=by
 obtain⟨g,E,H,ab⟩:=a;exact E.Vy X H ab (adX X E.le λi b9=>by rw[H i b9];exact X.Vv (λc G=>X.NR f h G) b9)
theorem mZ.VC {d:Day}(X:d.c0){f:Nat->Nat}{h:Nat->Rat}(a:mZ d f h){i:Nat}(b9:i<d.n):0<=h i:=by
 obtain⟨g,E,H,ab⟩:=a;rw[H i b9];exact X.Vv (λc G=>X.NR f h G) b9
def Day.top (d:Day)(f:Nat->Nat):Nat->Rat:=if h:∃x,mZ d f x then yi h else λ_=>0
def Day.j7 (d:Day)(f:Nat->Nat):List Nat:=(dL d.n).filter λi=>decide (d.top f i<d.U i (f i))
def Day.rounds (d:Day):Nat->(Nat->Nat)->List (List Nat)×(Nat->Nat)
 |0,f=>([],f)
 |k+1,f=>if d.j7 f=[] then ([],f) else (d.j7 f::(Day.rounds d k (d.gQ f (d.top f))).1,(Day.rounds d k (d.gQ f (d.top f))).2)
def Reach (d:Day)(f:Nat->Nat):Prop:=∃g,Inv d f g/\∀z,(∀i,i<d.n->z i<=d.ur z i)->∀i,i<d.n->z i<=g i
theorem Reach.start {d:Day}(X:d.c0):Reach d λ_=>10:=⟨_,Inv.start X,λz aQ i b9=>uq (aQ i b9) (d.CN (λ_ G=>X.Vu z G) i)⟩
def lZ:Nat->(Nat->Nat)->Nat
 |0,_=>0
 |n+1,f=>lZ n f+f n
theorem ark {n:Nat}{f g:Nat->Nat}(h:∀i,i<n->f i<=g i):lZ n f<=lZ n g:=by
 induction n with
 |zero=>exact bP _
 |succ n ay =>
  have:=ay λi L=>h i (by omega);have:=h n (by omega);simp only[lZ];omega
theorem VD {n:Nat}{f g:Nat->Nat}(h:∀i,i<n->f i<=g i){j:Nat}(ai:j<n)(aq:f j<g j):lZ n f<lZ n g:=by
 induction n with
 |zero=>omega
 |succ n ay =>
  have E:=h n (by omega);simp only[lZ]
  by_cases arl:j=n
  ·subst arl;have:=ark (n:=j) (f:=f) (g:=g) λi L=>h i (by omega);omega
  ·have:=ay (λi L=>h i (by omega)) (by omega);omega
theorem Day.CO {d:Day}{f:Nat->Nat}(h:∃x,mZ d f x):mZ d f (d.top f):=by
 unfold Day.top;rw[dif_pos h];exact oX h
theorem Day.adY {d:Day}{f:Nat->Nat}{i:Nat}:i∈d.j7 f↔i<d.n/\d.top f i<d.U i (f i):=by
 unfold Day.j7;rw[FZ,hk,decide_eq_true_eq]
section
variable {d:Day} (X:d.c0) (hex:∀f,Reach d f->∃h,mZ d f h)
include X hex
theorem arn {f:Nat->Nat}(Y:Reach d f){z:Nat->Rat}(aQ:∀i,i<d.n->z i<=d.ur z i):∀i,i<d.n->z i<=d.top f i:=by
 obtain⟨g,E,H,ab⟩:=Day.CO (hex f Y);obtain⟨dh,cH,dc⟩:=Y;have bJ:mZ d f (d.top f):=⟨g,E,H,ab⟩
 -- the end of the round below dh
 intro i b9;have HJ:=λk J=>uq (aQ k J) (d.CN (λ_ G=>arh X cH (dc z aQ) G) k);exact E.Vz X H ab HJ i b9
theorem Reach.next {f:Nat->Nat}(Y:Reach d f):Reach d (d.gQ f (d.top f)):=⟨d.top f,(Day.CO (hex f Y)).Vy X,λz aQ=>arn X hex Y aQ⟩
theorem VE {f:Nat->Nat}(Y:Reach d f)(bN:d.j7 f≠[]):lZ d.n (d.gQ f (d.top f))<lZ d.n f:=by
 obtain⟨i,L⟩:=List.exists_mem_of_ne_nil _ bN;obtain⟨E,H⟩:=Day.adY.1 L;have bJ:=Day.CO (hex f Y);obtain⟨g,cH,-⟩:=bJ;have aJ:=adX X cH.le (h:=d.top f) λi b9=>(Day.CO (hex f Y)).VC X b9;refine VD (λj ai=>?_) E (aJ.2.1 i E H).1
 by_cases e4:d.top f j<d.U j (f j)
 ·have:=(aJ.2.1 j ai e4).1;omega
 ·rw[aJ.2.2 j ai (by grind)];exact bP _
theorem adZ:∀k (f:Nat->Nat),Reach d f->lZ d.n f<=k->Reach d (d.rounds k f).2/\d.j7 (d.rounds k f).2=[]
 |0,f,Y,J=>by
  refine⟨Y,?_⟩;apply j6;intro bN;have:=VE X hex Y bN;omega
 |k+1,f,Y,J=>by
  unfold Day.rounds
  by_cases bN:d.j7 f=[]
  ·rw[Z bN];exact⟨Y,bN⟩
  ·rw[aa bN];have:=VE X hex Y bN;exact adZ k _ (Y.next X hex) (by omega)
end
theorem Day.aro (d:Day){f:Nat->Nat}(h:d.j7 f=[]):∀k,d.rounds k f=([],f)
 |0=>rfl
 |k+1=>by unfold Day.rounds;rw[Z h]
end Go.Mini
namespace Go.Mini
abbrev ar:=Int×Int×Int×Int
def kY (n:Int)(c:ar):Bool:=decide (0<=c.1)&&decide (c.1<n)&&decide (-1<=c.2.1)&&decide (c.2.1<n)&&decide (0<=c.2.2.1)&&decide (c.2.2.1<10)&&decide (0<=c.2.2.2)&&decide (c.2.2.2<=1000000000000000)
def gR (cash:List Int)(cs:List ar):Bool:=decide (D cash<=60)&&decide (D cs<=2000)&&cash.all (λx=>decide (0<=x)&&decide (x<=1000000000000000))&&cs.all (kY (D cash))
def cK (c:ar):dT:=⟨c.1.toNat,c.2.1,c.2.2.1.toNat,(c.2.2.2:Rat)⟩
def aA (cash:List Int)(cs:List ar):Day:=⟨D cash,λi=>((cash.getD i 0:Int):Rat),cs.map cK⟩
theorem g1 {cash:List Int}{cs:List ar}:gR cash cs=true↔(D cash)<=60/\D cs<=2000/\(∀x∈cash,0<=x/\x<=1000000000000000)/\∀c∈cs,0<=c.1/\c.1<(D cash) /\ -1<=c.2.1/\c.2.1<D cash/\0<=c.2.2.1/\c.2.2.1<10/\0<=c.2.2.2/\c.2.2.2<=1000000000000000:=by
 unfold gR kY;simp only[e3,decide_eq_true_eq,List.all_eq_true,and_assoc]
theorem VF {cash:List Int}{cs:List ar}(h:gR cash cs=true):(aA cash cs).c0:=by
 obtain⟨-,-,ab,aM⟩:=g1.1 h
 have G:∀x∈(aA cash cs).cZ,∃c∈cs,x=cK c:=λx O=>by
  obtain⟨c,G,rfl⟩:=fO.1 O;exact⟨c,G,rfl⟩
 refine⟨λx O=>?_,λx O=>?_,λx O=>?_,λx O=>?_,λi L=>?_⟩
 ·obtain⟨c,G,rfl⟩:=G x O;have:=aM c G;show c.1.toNat<D cash;omega
 ·obtain⟨c,G,rfl⟩:=G x O;have:=aM c G;show c.2.1<(D cash:Int);omega
 ·obtain⟨c,G,rfl⟩:=G x O;have:=aM c G;show c.2.2.1.toNat<10;omega
 ·obtain⟨c,G,rfl⟩:=G x O;have:=(aM c G).2.2.2.2.2.2.1;show (0:Rat)<=(c.2.2.2:Rat);exact_mod_cast this
 ·show (0:Rat)<=((cash.getD i 0:Int):Rat);have kO:i<D cash:=L
  have:0<=cash.getD i 0:=by
   rw[dY,bs kO];exact (ab _ (mD kO)).1
  exact_mod_cast this
def cq:List ar->(ar->Int)->Int
 | [],_=>0
 |c::l,aP=>aP c+cq l aP
def cr (cs:List ar)(j8 r:Int):Int:=cq cs λc=>if c.1=j8/\c.2.2.1<r then c.2.2.2 else 0
theorem NS (cs:List ar)(aP:ar->Int)(bA:dT->Rat)(h:∀c∈cs,((aP c:Int):Rat)=bA (cK c)):((cq cs aP:Int):Rat)=cm (cs.map cK) bA:=by
 induction cs with
 |nil=>rfl
 |cons c l ay=>rw[cq,e5,cm,xv,h c hv,ay λx O=>h x (ir _ O)]
theorem F6 {cs:List ar}{aP bA:ar->Int}(h:∀c∈cs,aP c=bA c):cq cs aP=cq cs bA:=by
 induction cs with
 |nil=>rfl
 |cons c l ay=>rw[cq,cq,h c hv,ay λx O=>h x (ir _ O)]
theorem VG {cs:List ar}{aP:ar->Int}{B:Int}(fi:0<=B)(h:∀c∈cs,0<=aP c/\aP c<=B):0<=cq cs aP/\cq cs aP<=D cs*B:=by
 induction cs with
 |nil=>simp[cq]
 |cons c l ay =>
  have E:=h c hv;have H:=ay λx O=>h x (ir _ O);simp only[cq,kf]
  have:((D l+1:Nat):Int)*B=D l*B+B:=by
   rw[Int.natCast_add,Int.add_mul];simp
  omega
theorem JX (a b:List ar)(aP:ar->Int):cq (a++b) aP=cq a aP+cq b aP:=by
 induction a with
 |nil=>simp[cq]
 |cons c l ay=>simp only[lP,cq,ay];omega
theorem sY {cash:List Int}{cs:List ar}(h:gR cash cs=true)(i r:Nat):((cr cs i r:Int):Rat)=(aA cash cs).U i r:=by
 refine NS cs _ (λc=>if c.az=i/\c.rk<r then c.am else 0) λc G=>?_;have:=(g1.1 h).2.2.2 c G;show ((if c.1=(i:Int)/\c.2.2.1<(r:Int) then c.2.2.2 else 0:Int):Rat)=if c.1.toNat=i/\c.2.2.1.toNat<r then (c.2.2.2:Rat) else 0
 by_cases E:c.1=(i:Int)/\c.2.2.1<(r:Int)
 ·rw[Z E,Z (by omega)]
 ·rw[aa E,aa (by omega)];rfl
theorem NT {cash:List Int}{cs:List ar}(h:gR cash cs=true)(i r:Nat):((cr cs i (r+1:Nat)-cr cs i r:Int):Rat)=(aA cash cs).S i r:=by
 have E:=sY h i r;have H:=sY h i (r+1);rw[sZ,E,H,Day.xt];grind
def kG (cash:List Int)(cs:List ar)(f:Nat->Nat)(i:Nat):Int:=cash.getD i 0+cq cs λc=>if c.2.1=(i:Int)/\c.2.2.1<(f c.1.toNat:Int) then c.2.2.2 else 0
def ext (N:Nat)(y:Nat->Rat)(z:Rat):Nat->Rat:=λk=>if k<N then y k else z
theorem JY (N:Nat)(a y:Nat->Rat)(z:Rat):lY N a (ext N y z)=bz N (λk=>a k*y k)+a N*z:=by
 unfold lY ext;rw[bz]
 congr 1
 ·exact jP λk J=>by rw[Z J]
 ·rw[aa (by omega)]
theorem VH {N:Nat}{aH:ed}{dB:Nat->Nat}(h:p4 N aH N N dB)(jB:∀j,j<N->dB j=j){i:Nat}(L:i<N)(y:Nat->Rat)(z:Rat):lY N (aH i) (ext N y z)=y i+aH i N*z:=by
 rw[JY]
 congr 1
 have:∀k,k<N->aH i k=if i=k then 1 else 0:=λk J=>by
  have:=h.unit k J i L;rwa [jB k J] at this
 rw[xq L λk J sk=>by rw[this k J,aa (Ne.symm sk),zb],this i L,Z rfl,NU]
theorem ad0 {N:Nat}{aH:ed}{dB:Nat->Nat}(h:p4 N aH N N dB)(jB:∀j,j<N->dB j=j)(y:Nat->Rat):hI N aH (ext N y (-1))↔∀i,i<N->y i=aH i N:=by
 unfold hI
 constructor
 ·intro dj i L;have:=dj i L;rw[VH h jB L] at this;grind
 ·intro dj i L;rw[VH h jB L,dj i L];grind
theorem arp {N:Nat}{aH:ed}{dB:Nat->Nat}(h:p4 N aH N N dB)(jB:∀j,j<N->dB j=j)(y:Nat->Rat)(dj:hI N aH (ext N y 0)):∀i,i<N->y i=0:=by
 intro i L;have:=dj i L;rw[VH h jB L] at this;grind
def rS (aH:ed)(c:Nat):Nat->Rat:=λk=>if k<c then 0-aH k c else if k=c then 1 else 0
theorem ad1 {N c:Nat}{aH:ed}{dB:Nat->Nat}(h:p4 N aH c c dB)(jB:∀j,j<c->dB j=j)(G:c<N)(aQ:∀i,c<=i->i<N->aH i c=0):hI N aH (ext N (rS aH c) 0):=by
 intro i L;rw[JY]
 have main:∀n,c<n->n<=N->bz n (λk=>aH i k*rS aH c k)=bz (c+1) (λk=>aH i k*rS aH c k):=by
  intro n
  induction n with
  |zero=>intro h;omega
  |succ n ay =>
   intro E H
   by_cases qv:c=n
   ·rw[qv]
   ·rw[bz,ay (by omega) (by omega)];unfold rS;rw[aa (show ¬ n<c by omega),aa (show ¬ n=c by omega)];grind
 rw[main N G (bP _),bz];have J:rS aH c c=1:=by unfold rS;rw[aa (by omega),Z rfl]
 rw[J]
 have hu:∀k,k<c->aH i k=if i=k then 1 else 0:=λk J=>by
  have:=h.unit k J i L;rwa [jB k J] at this
 rcases hV i c with aq|ck
 ·rw[xq aq λk J sk=>by rw[hu k J,aa (Ne.symm sk),zb],hu i aq,Z rfl]
  unfold rS;rw[Z aq];grind
 ·rw[rQ λk J=>by rw[hu k J,aa (by omega),zb],aQ i ck L]
  grind
abbrev fz:=Nat->Rat
def iT (n:Nat)(f:List fz->Rat):List fz->List fz->Rat
 |_,[]=>0
 |pre,c::cs=>c n*f (pre++cs)-iT n f (pre++[c]) cs
def gl:Nat->List fz->Rat
 |0,[]=>1
 |0,_::_=>0
 |n+1,cs=>iT n (gl n) [] cs
def AS (x y:fz)(a:Rat):fz:=λi=>x i+a*y i
def VI (f:List fz->Rat):Prop:=∀A B x y a,f (A++AS x y a::B)=f (A++x::B)+a*f (A++y::B)
def VJ (f:List fz->Rat):Prop:=∀A B z,f (A++z::z::B)=0
theorem arq {n:Nat}{f:List fz->Rat}(h:VI f)(x y:fz)(a:Rat)(A:List fz):∀cs m0,iT n f (A++AS x y a::m0) cs=iT n f (A++x::m0) cs+a*iT n f (A++y::m0) cs:=by
 intro cs
 induction cs with
 |nil=>intro m0;simp only[iT];grind
 |cons c cs ay =>
  intro m0;have e:=ay (m0++[c]);simp only[iT,gN,lP] at e ⊢;rw[h A (m0++cs) x y a,e];grind
theorem ars {n:Nat}{f:List fz->Rat}(h:VI f)(x y:fz)(a:Rat)(B:List fz):∀A pre,iT n f pre (A++AS x y a::B)=iT n f pre (A++x::B)+a*iT n f pre (A++y::B):=by
 intro A
 induction A with
 |nil =>
  intro pre;have e:=arq (n:=n) h x y a pre B [];simp only[iM,iT];rw[e];simp only[AS];grind
 |cons c A ay =>
  intro pre;have e:=ay (pre++[c]);have aC:=h (pre++A) B x y a;simp only[gN] at aC;simp only[lP,iT];rw[e,aC];grind
theorem CP:∀n,VI (gl n)
 |0=>by
  intro A B x y a
  cases A<;>simp only[iM,lP,gl]<;>grind
 |n+1=>λA B x y a=>ars (CP n) x y a B A []
theorem art {n:Nat}{f:List fz->Rat}(h:VJ f)(z:fz)(A:List fz):∀cs m0,iT n f (A++z::z::m0) cs=0:=by
 intro cs
 induction cs with
 |nil=>intro m0;rfl
 |cons c cs ay =>
  intro m0;have e:=ay (m0++[c]);have aC:=h A (m0++cs) z;simp only[iT,gN,lP] at e aC ⊢;rw[e,aC];grind
theorem aru {n:Nat}{f:List fz->Rat}(h:VJ f)(z:fz)(B:List fz):∀A pre,iT n f pre (A++z::z::B)=0:=by
 intro A
 induction A with
 |nil =>
  intro pre;have e:=art (n:=n) h z pre B [];simp only[iM,iT,gN,lP] at e ⊢;rw[e];grind
 |cons c A ay =>
  intro pre;have e:=ay (pre++[c]);have aC:=h (pre++A) B z;simp only[gN] at aC;simp only[lP,iT];rw[e,aC];grind
theorem JZ:∀n,VJ (gl n)
 |0=>by
  intro A B z
  cases A<;>rfl
 |n+1=>λA B z=>aru (JZ n) z B A []
theorem arv (n:Nat)(A B:List fz)(x y:fz):gl n (A++x::y::B) = -gl n (A++y::x::B):=by
 have ak:=JZ n A B (AS x y 1);have E:=CP n A (AS x y 1::B) x y 1;rw[ak] at E;have H:=CP n (A++[x]) B x y 1;have ab:=CP n (A++[y]) B x y 1;simp only[gN,lP,iM] at H ab;rw[H,ab,JZ n A B x,JZ n A B y] at E;grind
theorem ad2 (n:Nat)(C:List fz)(z:fz):∀B A,gl n (A++z::(B++z::C))=0:=by
 intro B
 induction B with
 |nil=>intro A;exact JZ n A C z
 |cons b B ay =>
  intro A;have:=ay (A++[b]);simp only[gN,lP,iM] at this ⊢;rw[arv,this];grind
theorem VK {n:Nat}{A B:List fz}{z:fz}(h:z∈A++B):gl n (A++z::B)=0:=by
 rcases jK.1 h with h|h
 ·obtain⟨arw,NV,rfl⟩:=ad3 h;have:=ad2 n B z NV arw
  simpa only [gN,lP] using this
 ·obtain⟨Bj,Bk,rfl⟩:=ad3 h;exact ad2 n Bk z Bj A
theorem arx {n:Nat}{f:List fz->Rat}{z:fz}(aQ:z n=0)(h:∀A B,f (A++z::B)=0):(∀cs A m0,iT n f (A++z::m0) cs=0)/\∀A B pre,iT n f pre (A++z::B)=0:=by
 have E:∀cs A m0,iT n f (A++z::m0) cs=0:=by
  intro cs
  induction cs with
  |nil=>intro A m0;rfl
  |cons c cs ay =>
   intro A m0;have e:=ay A (m0++[c]);have aC:=h A (m0++cs);simp only[iT,gN,lP] at e aC ⊢;rw[e,aC];grind
 refine⟨E,λA=>?_⟩
 induction A with
 |nil =>
  intro B pre;have e:=E B pre [];simp only[iM,iT];rw[e,aQ];grind
 |cons c A ay =>
  intro B pre;have e:=ay B (pre++[c]);have aC:=h (pre++A) B;simp only[gN] at aC;simp only[lP,iT];rw[e,aC];grind
theorem VL:∀n (z:fz),(∀i,i<n->z i=0)->∀A B,gl n (A++z::B)=0
 |0,z,_=>λA B=>by cases A<;>rfl
 |n+1,z,h=>λA B=>(arx (h n (by omega)) (VL n z λi L=>h i (by omega))).2 A B []
theorem ad4 {n:Nat}{e:fz}(h:∀i,i<n->e i=0)(cs:List fz):gl (n+1) (e::cs)=e n*gl n cs:=by
 show e n*gl n ([]++cs)-iT n (gl n) ([]++[e]) cs=_
 have:∀cs pre,iT n (gl n) (e::pre) cs=0:=by
  intro cs
  induction cs with
  |nil=>intro pre;rfl
  |cons c cs ay =>
   intro pre;have aw:=ay (pre++[c]);have aC:=VL n e h [] (pre++cs);simp only[iT,lP,iM] at aw aC ⊢;rw[aw,aC];grind
 simp only[iM];rw[this cs []];grind
theorem ary {n:Nat}{f:List fz->Rat}{T:fz->fz}(cE:∀c,T c n=c n)(h:∀l,f (l.map T)=f l):∀cs pre,iT n f (pre.map T) (cs.map T)=iT n f pre cs:=by
 intro cs
 induction cs with
 |nil=>intro pre;rfl
 |cons c cs ay =>
  intro pre;have e:=ay (pre++[c]);have aC:=h (pre++cs);simp only[mq,e5,cl] at e aC;simp only[e5,iT];rw[e,aC,cE]
theorem VM:∀n (T:fz->fz),(∀c i,i<n->T c i=c i)->∀l,gl n (l.map T)=gl n l
 |0,T,_=>λl=>by cases l<;>rfl
 |n+1,T,h=>λl=>ary (λc=>h c n (by omega)) (VM n T λc i L=>h c i (by omega)) l []
theorem ad5 {n:Nat}{α:Type}(l:List α)(f g:α->fz)(h:∀a∈l,∀i,i<n->f a i=g a i):gl n (l.map f)=gl n (l.map g):=by
 rw[<-VM n (λc i=>if i<n then c i else 0) (λc i L=>Z L),<-VM n (λc i=>if i<n then c i else 0) (λc i L=>Z L) (l.map g)];rw[oU,oU]
 congr 1
 apply nj;intro a a1
 funext i
 simp only[Function.comp]
 split
 ·exact h a a1 i (by assumption)
 ·rfl
theorem J0 (n:Nat)(A B:List fz)(x:Nat->Rat)(C:Nat->fz):∀m,gl n (A++(λi=>bz m λl=>x l*C l i)::B)=bz m λl=>x l*gl n (A++C l::B)
 |0=>VL n _ (λi _=>rfl) A B
 |m+1=>by
  have e:=CP n A B (λi=>bz m λl=>x l*C l i) (C m) (x m);rw[J0 n A B x C m] at e;exact e
def ej (B:Nat)(x:Rat):Prop:=∃z:Int,x=(z:Rat)/\z.natAbs<=B
theorem ej.mono {A B:Nat}{x:Rat}(h:ej A x)(au:A<=B):ej B x:=by obtain⟨z,E,H⟩:=h;exact⟨z,E,by omega⟩
theorem ej.mul {A B:Nat}{x y:Rat}(O:ej A x)(ao:ej B y):ej (A*B) (x*y):=by
 obtain⟨z,rfl,H⟩:=O;obtain⟨w,rfl,cQ⟩:=ao;exact⟨z*w,by rw[p8],by rw[qI];exact pk H cQ⟩
theorem ej.sub {A B:Nat}{x y:Rat}(O:ej A x)(ao:ej B y):ej (A+B) (x-y):=by
 obtain⟨z,rfl,H⟩:=O;obtain⟨w,rfl,cQ⟩:=ao;exact⟨z-w,by rw[sZ],by omega⟩
theorem ej.add {A B:Nat}{x y:Rat}(O:ej A x)(ao:ej B y):ej (A+B) (x+y):=by
 obtain⟨z,rfl,H⟩:=O;obtain⟨w,rfl,cQ⟩:=ao;exact⟨z+w,by rw[xv],by omega⟩
theorem ej.zero {B:Nat}:ej B 0:=⟨0,by rfl,by simp⟩
theorem ej.int (z:Int):ej z.natAbs (z:Rat):=⟨z,rfl,bP _⟩
theorem ej.sum {B:Nat}{f:Nat->Rat}:∀n,(∀k,k<n->ej B (f k))->ej (n*B) (bz n f)
 |0,_=>ej.zero
 |n+1,h=>by
  have:=(ej.sum n λk J=>h k (by omega)).add (h n (by omega));exact this.mono (by rw[sc];exact bP _)
theorem ej.of {z:Int}{B:Nat}(h:z.natAbs<=B):ej B (z:Rat):=⟨z,rfl,h⟩
theorem ej.nat {z:Nat}{B:Nat}(h:z<=B):ej B (z:Rat):=⟨z,(nB _).symm,by omega⟩
def ga:Nat->(Nat->Nat)->Nat
 |0,_=>0
 |n+1,a=>ga n a+a n
theorem VN {n:Nat}{a b:Nat->Nat}(h:∀i,i<n->a i=b i):ga n a=ga n b:=by
 induction n with
 |zero=>rfl
 |succ n ay=>rw[ga,ga,ay λi L=>h i (by omega),h n (by omega)]
theorem arz {N t:Nat}(b:Nat->Nat)(bJ:t<N):ga N b=ga N (λi=>if i=t then 0 else b i)+b t:=by
 induction N with
 |zero=>omega
 |succ N ay =>
  by_cases h:t=N
  ·subst h;rw[ga,ga,Z rfl];have:ga t b=ga t λi=>if i=t then 0 else b i:=VN λi L=>by rw[aa (by omega)]
   omega
  ·have:=ay (by omega);rw[ga,ga,aa (by omega)];omega
theorem VO {N:Nat}{τ:Nat->Nat}:∀{n:Nat} (b:Nat->Nat),(∀i,i<n->τ i<N)->(∀i j,i<n->j<n->τ i=τ j->i=j)->ga n (λi=>b (τ i))<=ga N b
 |0,_,_,_=>fr _
 |n+1,b,E,H=>by
  have ay:=VO (n:=n) (λi=>if i=τ n then 0 else b i) (λi L=>E i (by omega)) λi j L ai=>H i j (by omega) (by omega);rw[arz b (E n (by omega)),ga]
  have:ga n (λi=>b (τ i))=ga n λi=>if τ i=τ n then 0 else b (τ i):=VN λi L=>by
   rw[aa λh=>by have:=H i n (by omega) (by omega) h;omega]
  omega
def iv:Nat->(Nat->Nat)->Nat
 |0,_=>1
 |n+1,bS=>iv n bS*bS n
theorem ad6 {n:Nat}{bS:Nat->Nat}(h:∀k,k<n->0<bS k):0<iv n bS:=by
 induction n with
 |zero=>exact VP
 |succ n ay=>exact VQ (ay λk J=>h k (by omega)) (h n (by omega))
theorem VR {n b:Nat}{bS:Nat->Nat}(h:∀k,k<n->bS k<=2^b):iv n bS<=2^(n*b):=by
 induction n with
 |zero=>simp[iv]
 |succ n ay =>
  rw[sc,xw];exact pk (ay λk J=>h k (by omega)) (h n (by omega))
theorem ad7 {n:Nat}{bS:Nat->Nat}{k:Nat}(J:k<n):∃m,iv n bS=bS k*m:=by
 induction n with
 |zero=>omega
 |succ n ay =>
  by_cases FT:k=n
  ·subst FT;exact⟨iv k bS,sr _ _⟩
  ·obtain⟨m,hm⟩:=ay (by omega);exact⟨m*bS n,by rw[iv,hm,CR]⟩
theorem ad8 {p:Nat}{bS:Nat->Nat}(j2:∀k,0<bS k):∀{N:Nat},p<=N->∃bZ,0<bZ/\iv N bS=iv p bS*bZ/\∀k,p<=k->k<N->∃m,bZ=bS k*m
 |0,h=>⟨1,VP,by rw[show p=0 by omega];rfl,λk _ h=>by omega⟩
 |N+1,h=>by
  by_cases aB:p=N+1
  ·exact⟨1,VP,by rw[aB,cM],λk E H=>by omega⟩
  ·obtain⟨bZ,ak,E,H⟩:=ad8 (p:=p) j2 (N:=N) (by omega);refine⟨bZ*bS N,VQ ak (j2 N),by rw[iv,E,CR],λk cH dc=>?_⟩
   by_cases J:k=N
   ·exact⟨bZ,by rw[J,sr]⟩
   ·obtain⟨m,hm⟩:=H k cH (by omega);exact⟨m*bS N,by rw[hm,CR]⟩
abbrev F7:=fz×(Nat->Nat)
def mv (n:Nat):List F7->Nat
 | []=>1
 |p::l=>ga n p.2*mv n l
theorem arA (n:Nat)(a b:List F7):mv n (a++b)=mv n a*mv n b:=by
 induction a with
 |nil=>simp[mv]
 |cons p l ay=>simp only[lP,mv,ay,CR]
theorem ad9 (n:Nat):∀l:List F7,mv n l<=mv (n+1) l
 | []=>bP _
 |p::l=>pk (Nat.le_add_right _ _) (ad9 n l)
theorem aea {n:Nat}{f:List fz->Rat}(h:∀l:List F7,(∀p∈l,∀i,i<n->ej (p.2 i) (p.1 i))->ej (mv n l) (f (l.map (·.1)))):
  ∀cs pre:List F7,(∀p∈pre++cs,∀i,i<n+1->ej (p.2 i) (p.1 i))->∃z:Int,iT n f (pre.map (·.1)) (cs.map (·.1))=(z:Rat)/\z.natAbs+mv n pre*mv n cs<=mv n pre*mv (n+1) cs
 | [],pre,_=>⟨0,rfl,by simp[mv]⟩
 |c::cs,pre,aB=>by
  obtain⟨z,E,H⟩:=aea h cs (pre++[c]) (by simpa using aB);obtain⟨y,cF,cQ⟩:=h (pre++cs) λp hm i L=>aB p (by simp only[jK,nU] at hm ⊢;rcases hm with hm|hm<;>simp[hm]) i (by omega)
  obtain⟨x,cH,dc⟩:=aB c (by simp) n (by omega);simp only[mq,e5,cl] at E cF;refine⟨x*y-z,?_,?_⟩
  ·simp only[e5,iT];rw[cH,cF,E,sZ,p8]
  ·rw[arA] at H cQ;simp only[mv,ga,cM] at H ⊢;have db:(x*y-z).natAbs<=x.natAbs*y.natAbs+z.natAbs:=by rw[<-qI];omega
   have dH:=pk dc (eF cQ (pk (bP _) (ad9 n cs)));generalize mv n pre=P at *;generalize mv n cs=s at *;generalize mv (n+1) cs=S at *;generalize ga n c.2=cN at *;generalize c.2 n=a at *;have aw:P*((cN+a)*S)=P*cN*S+a*(P*S):=by rw[Nat.add_mul,Nat.mul_add,CR,aeb a]
   have aC:P*(cN*s)=P*cN*s:=(CR _ _ _).symm;rw[aw,aC];omega
theorem aec:∀n (l:List F7),(∀p∈l,∀i,i<n->ej (p.2 i) (p.1 i))->ej (mv n l) (gl n (l.map (·.1)))
 |0,[],_=>⟨1,by rfl,by simp[mv]⟩
 |0,p::l,_=>ej.zero
 |n+1,l,h=>by
  obtain⟨z,E,H⟩:=aea (f:=gl n) (aec n) l [] (by simpa using h);refine⟨z,E,?_⟩;simp only[mv,Nat.one_mul] at H;omega
open Go
def kH (N:Nat)(l:List bU)(q:Nat->Rat):Prop:=l=((dL (N+1)).map q).map aE/\∀k,k<=N->dz (q k)
def vC (N:Nat)(rows:List c6)(aH:ed):Prop:=D rows=N/\∀(i:Nat) x,rows[i]?=some x->kH N x.2.2 (aH i)
theorem kH.get {N:Nat}{l:List bU}{q:Nat->Rat}(h:kH N l q){k:Nat}(J:k<=N):l[k]?=some (aE (q k)):=by
 rw[h.1,a5,a5,sb (by omega)]
 rfl
theorem kH.len {N:Nat}{l:List bU}{q:Nat->Rat}(h:kH N l q):(D l)=N+1:=by rw[h.1];simp
theorem kH.VS {N:Nat}{l:List bU}{q:Nat->Rat}(au:(D l)=N+1)(h:∀k,k<=N->l[k]?=some (aE (q k))/\dz (q k)):kH N l q:=by
 refine⟨?_,λk J=>(h k J).2⟩;apply ri;intro k;rcases hV k (N+1) with J|J
 ·rw[(h k (by omega)).1,a5,a5,sb J];rfl
 ·rw[lL (by omega),lL (by simp;omega)]
theorem kH.congr {N:Nat}{l:List bU}{q sF:Nat->Rat}(h:kH N l q)(bd:∀k,k<=N->q k=sF k):kH N l sF :=
 kH.VS h.len λk J=>by rw[<-bd k J];exact⟨h.get J,h.2 k J⟩
theorem kH.cell {N:Nat}{x:c6}{q:Nat->Rat}(h:kH N x.2.2 q){k:Nat}(J:k<=N):cellOf x k=aE (q k):=Uz (h.get J)
theorem NW (q:Rat):mX (aE q)=decide (q=0):=by
 unfold mX aE bE;rw[Bool.eq_iff_iff,beq_iff_eq,decide_eq_true_eq,Int.sign_eq_zero_iff_zero,Rat.num_eq_zero]
def qT (fg a b:Rat):Bool:=yR fg b&&o7 a (-(fg*b))
theorem aed {fg a b:Rat}(aJ:dz fg)(a1:dz a)(ae:dz b)(h:qT fg a b=true):
  nx (aE fg) (aE b)=(aE (fg*b),0)/\oB (aE a) (aE (fg*b))=(aE (a-fg*b),0)/\dz (a-fg*b):=by
 unfold qT at h;rw[e3] at h;refine⟨?_,?_,ab9 h.2⟩
 ·rw[Tv aJ ae,h.1];rfl
 ·rw[MW a1 (aca h.1),h.2];rfl
theorem arB {fg a b:Rat}(aJ:dz fg)(a1:dz a)(ae:dz b)(h:qT fg a b=false):
  ((nx (aE fg) (aE b)).2 != 0||(oB (aE a) (nx (aE fg) (aE b)).1).2 != 0)=true:=by
 unfold qT at h;rw[Tv aJ ae];rcases E:yR fg b
 ·rfl
 ·rw[E,hP] at h;show ((oB (aE a) (aE (fg*b))).2 != 0)=true;rw[MW a1 (aca E),h]
  rfl
theorem arC {fg:Rat}(aJ:dz fg):∀(vD pl:List Rat),D vD=(D pl)->(∀x∈vD,dz x)->(∀x∈pl,dz x) ->
  ((∀q∈vD.zip pl,qT fg q.1 q.2=true)->iQ (aE fg) (vD.map aE) (pl.map aE) false=((VT (λa b=>a-fg*b) vD pl).map aE,false)/\∀x∈VT (λa b=>a-fg*b) vD pl,dz x) /\
  ((iQ (aE fg) (vD.map aE) (pl.map aE) false).2=false->∀q∈vD.zip pl,qT fg q.1 q.2=true):=by
 intro vD
 induction vD with
 |nil=>intro pl au _ _;cases pl with
  |nil=>exact⟨λ_=>⟨rfl,by simp⟩,λ_=>by simp⟩
  |cons=>cases au
 |cons a vD ay =>
  intro pl au E H
  cases pl with
  |nil=>cases au
  |cons b pl =>
   have a1:=E a hv;have ae:=H b hv;obtain⟨i1,i2⟩:=ay pl (by simpa using au) (λx O=>E x (ir _ O)) (λx O=>H x (ir _ O))
   constructor
   ·intro ef;obtain⟨aw,aC,cx⟩:=aed aJ a1 ae (ef (a,b) (by simp));obtain⟨i3,i4⟩:=i1 λq bd=>ef q (by simp only[aee,nU];exact .inr bd);refine⟨?_,λx O=>?_⟩
    ·simp only[e5,iQ,aw,aC,aef,bne_self_eq_false,nT,i3]
    ·rw[aef,nU] at O;rcases O with rfl|O
     ·exact cx
     ·exact i4 x O
   ·intro en;simp only[e5,iQ] at en;rcases Q:qT fg a b
    ·rw[arB aJ a1 ae Q,UB] at en
     cases en
    ·obtain⟨aw,aC,cx⟩:=aed aJ a1 ae Q;simp only[aw,aC,bne_self_eq_false,nT] at en;intro q bd;rw[aee,nU] at bd;rcases bd with rfl|bd
     ·exact Q
     ·exact i2 en q bd
theorem arD (n:Nat)(q p:Nat->Rat):((dL n).map q).zip ((dL n).map p)=(dL n).map λk=>(q k,p k):=by
 rw[List.zip_map',]
theorem arE (n:Nat)(f:Rat->Rat->Rat)(q p:Nat->Rat):VT f ((dL n).map q) ((dL n).map p)=(dL n).map λk=>f (q k) (p k):=by
 rw[List.zipWith_map,List.zipWith_self]
theorem arF {N:Nat}{fg:Rat}{l al:List bU}{q p:Nat->Rat}(aJ:dz fg)(E:kH N l q)(H:kH N al p):
  ((∀k,k<=N->qT fg (q k) (p k)=true)->(iQ (aE fg) l al false).2=false)/\((iQ (aE fg) l al false).2=false->kH N (iQ (aE fg) l al false).1 (λk=>q k-fg*p k)):=by
 obtain⟨aw,aC⟩:=arC aJ ((dL (N+1)).map q) ((dL (N+1)).map p) (by simp) (by
  intro x O;obtain⟨k,J,rfl⟩:=fO.1 O;exact E.2 k (by have:=hk.1 J;omega)) (by
  intro x O;obtain⟨k,J,rfl⟩:=fO.1 O;exact H.2 k (by have:=hk.1 J;omega))
 rw[<-E.1,<-H.1] at aw aC
 have aQ:(∀k,k<=N->qT fg (q k) (p k)=true)↔∀x∈((dL (N+1)).map q).zip ((dL (N+1)).map p),qT fg x.1 x.2=true:=by
  rw[arD];simp only[fO,hk]
  constructor
  ·rintro h x ⟨k,J,rfl⟩;exact h k (by omega)
  ·intro h k J;exact h (q k,p k) ⟨k,by omega,rfl⟩
 refine⟨λh=>by rw[(aw (aQ.1 h)).1],λh=>?_⟩
 obtain⟨cx,dk⟩:=aw (aC h);rw[cx,arE] at *;exact⟨rfl,λk J=>dk _ (fO.2 ⟨k,hk.2 (by omega),rfl⟩)⟩
theorem NX (fy:List bU)(r c:Nat):∀(i:Nat) (l:List c6),(jA fy r c i l true).2=true
 |_,[]=>rfl
 |i,x::xs=>by
  unfold jA
  split
  ·exact NX fy r c (i+1) xs
  ·rw[UB];exact NX fy r c (i+1) xs
theorem aeg {N r c:Nat}{fy:List bU}{p:Nat->Rat}(aB:kH N fy p)(G:c<=N):∀(i:Nat) (l:List c6) (bS:ed),(∀(j:Nat) x,l[j]?=some x->kH N x.2.2 (bS (i+j))) ->
  ((∀j,j<(D l)->i+j≠r->bS (i+j) c≠0->∀k,k<=N->qT (bS (i+j) c) (bS (i+j) k) (p k)=true)->(jA fy r c i l false).2=false) /\
  ((jA fy r c i l false).2=false->∀(j:Nat) x,(jA fy r c i l false).1[j]?=some x->kH N x.2.2 (λk=>if i+j=r then bS (i+j) k else bS (i+j) k-bS (i+j) c*p k))
 |i,[],bS,h=>⟨λ_=>rfl,λ_ j x O=>by simp[jA] at O⟩
 |i,x::xs,bS,h=>by
  have ak:=h 0 x rfl;rw[om] at ak
  obtain⟨aeh,NY⟩:=aeg aB G (i+1) xs bS λj y ao=>by
   have:=h (j+1) y ao;rwa [show i+(j+1)=i+1+j by omega] at this
  have tx:=ak.cell G
  have aei:(∀j,j<(x::xs).length->i+j≠r->bS (i+j) c≠0->∀k,k<=N->qT (bS (i+j) c) (bS (i+j) k) (p k)=true)->∀j,j<(D xs)->i+1+j≠r->bS (i+1+j) c≠0->∀k,k<=N->qT (bS (i+1+j) c) (bS (i+1+j) k) (p k)=true:=by
   intro aS j ai;have:=aS (j+1) (by simpa using ai);rwa [show i+(j+1)=i+1+j by omega] at this
  unfold jA;rw[tx,NW]
  by_cases aQ:(i==r||decide (bS i c=0))=true
  ·rw[Z aQ];refine⟨λaS=>aeh (aei aS),λae j y ao=>?_⟩
   cases j with
   |zero =>
    simp only[HT,cb] at ao;subst ao;rw[om];refine ak.congr λk J=>?_;simp only[qz,beq_iff_eq,decide_eq_true_eq] at aQ
    split
    ·rfl
    ·rcases aQ with aQ|aQ
     ·contradiction
     ·rw[aQ];grind
   |succ j =>
    have:=NY ae j y (by simpa using ao);rwa [show i+(j+1)=i+1+j by omega]
  ·rw[aa aQ];simp only[qz,beq_iff_eq,decide_eq_true_eq,not_or] at aQ;obtain⟨cF,cQ⟩:=arF (ak.2 c G) ak aB
   constructor
   ·intro aS;have ab:=cF (aS 0 (by simp) (by simpa using aQ.1) (by simpa using aQ.2));dsimp only;rw[ab];exact aeh (aei aS)
   ·intro ae j y ao;dsimp only at ae ao;rcases mQ:(iQ (aE (bS i c)) x.2.2 fy false).2
    ·rw[mQ] at ae ao
     cases j with
     |zero =>
      simp only[HT,cb] at ao;subst ao;rw[om];exact (cQ mQ).congr λk J=>by rw[aa aQ.1]
     |succ j =>
      have:=NY ae j y (by simpa using ao);rwa [show i+(j+1)=i+1+j by omega]
    ·rw[mQ,NX] at ae
     cases ae
theorem arG {N:Nat}{l:List bU}{q:Nat->Rat}{b:Rat}(h:kH N l q)(ae:dz b)(ak:b≠0):
  ((hH (aE b) l).2=false↔∀k,k<=N->vm (q k) b=true)/\((hH (aE b) l).2=false->kH N (hH (aE b) l).1 (λk=>q k/b)):=by
 have aw:(hH (aE b) l).2=false↔∀k,k<=N->vm (q k) b=true:=by
  unfold hH;rw[h.1];simp only[FK,fO,hk]
  constructor
  ·intro aS k J;have:=aS (aE (q k)) ⟨q k,⟨k,by omega,rfl⟩,rfl⟩
   rw[MX (h.2 k J) ae ak] at this;rcases X:vm (q k) b
   ·rw[X] at this;exact absurd rfl this
   ·rfl
  ·rintro aS _ ⟨_,⟨k,J,rfl⟩,rfl⟩;rw[MX (h.2 k (by omega)) ae ak,aS k (by omega)];simp[Jf]
 refine⟨aw,λaS=>?_⟩;have cX:=aw.1 aS;refine kH.VS (by unfold hH;rw[aj,h.len]) λk J=>⟨?_,aoF (cX k J)⟩;unfold hH;rw[a5,h.get J,jo,MX (h.2 k J) ae ak,cX k J]
 rfl
theorem vC.row {N:Nat}{rows:List c6}{aH:ed}(h:vC N rows aH){i:Nat}(L:i<N):∃x,rows[i]?=some x/\rowAt rows i=x/\kH N x.2.2 (aH i):=by
 obtain⟨x,O⟩:∃x,rows[i]?=some x:=⟨_,bs (by have:=h.1;omega)⟩;exact⟨x,O,vw O,h.2 i x O⟩
theorem vC.swap {N:Nat}{rows:List c6}{aH:ed}(h:vC N rows aH){r s:Nat}(Y:r<N)(Q:s<N):vC N (p0 rows r s) (g0 aH r s):=by
 obtain⟨x,O,ex,nC⟩:=h.row Y;obtain⟨y,ao,P2,arH⟩:=h.row Q;unfold p0;rw[ex,P2];refine⟨by rw[ja,ja];exact h.1,λi z aQ=>?_⟩
 rw[mo,mo,ja] at aQ;unfold g0
 by_cases E:s=i
 ·rw[Z E,Z (by have:=h.1;omega)] at aQ
  cases aQ;rw[Z E.symm];exact nC
 ·rw[aa E] at aQ;rw[aa (Ne.symm E)]
  by_cases H:r=i
  ·rw[Z H,Z (by have:=h.1;omega)] at aQ
   cases aQ;rw[Z H.symm];exact arH
  ·rw[aa H] at aQ;rw[aa (Ne.symm H)];exact h.2 i z aQ
def aej (N:Nat)(S:ed)(r c:Nat):Prop:=(∀k,k<=N->vm (S r k) (S r c)=true)/\∀i,i<N->i≠r->S i c≠0->∀k,k<=N->qT (S i c) (S i k) (S r k/S r c)=true
theorem aek {N:Nat}{rows:List c6}{aH:ed}(h:vC N rows aH){r c:Nat}(Y:r<N)(G:c<N):
  ((im rows r c).1=true/\(im rows r c).2.1=rows/\(im rows r c).2.2=false/\∀i,r<=i->i<N->aH i c=0) \/
  ((im rows r c).1=false/\∃s,r<=s/\s<N/\aH s c≠0/\((im rows r c).2.2=false->vC N (im rows r c).2.1 (n5 aH r c s))/\(aej N (g0 aH r s) r c->(im rows r c).2.2=false)):=by
 have au:=h.1;have g5:=adt rows r c (by omega)
 have l0:∀i x,r<=i->i<findAt rows r c->rows[i]?=some x->mX (cellOf x c)=true:=by
  intro i x qt ng O;unfold findAt at ng;have aq:i-r<(rows.drop r).findIdx λx => !mX (cellOf x c):=by omega
  have:=List.not_of_lt_findIdx aq
  have aX:(rows.drop r)[i-r]'(Nat.lt_of_lt_of_le aq adu)=x:=by
   rw[Ft];have:=(dK.1 O)
   obtain⟨E,H⟩:=this;simp only[show r+(i-r)=i by omega]
   exact H
  rw[aX] at this
  simpa using this
 unfold im
 by_cases aJ:findAt rows r c=D rows
 ·left
  rw[Z aJ];refine⟨rfl,rfl,rfl,λi qt ng=>?_⟩;obtain⟨x,O,-,nC⟩:=h.row ng;have:=l0 i x qt (by omega) O;rw[nC.cell (by omega),NW] at this
  simpa using this
 ·right
  rw[aa aJ];refine⟨rfl,findAt rows r c,g5.1,by omega,?_,?_⟩
  ·obtain⟨x,O,-,nC⟩:=h.row (i:=findAt rows r c) (by omega);have aq:findAt rows r c-r<(rows.drop r).length:=by rw[pL];omega
   have H:(rows.drop r).findIdx (λx => !mX (cellOf x c))<(rows.drop r).length:=by
    unfold findAt at aq;omega
   have ab:=ael (w:=H)
   have aX:(rows.drop r)[(rows.drop r).findIdx λx => !mX (cellOf x c)]=x:=by
    rw[Ft];exact (dK.1 O).2
   rw[aX,nC.cell (by omega),NW] at ab
   simpa using ab
  ·have Q:findAt rows r c<N:=by omega
   have y3:=h.swap Y Q
   have bN:g0 aH r (findAt rows r c) r c≠0:=by
    rw[NI];obtain⟨x,O,-,nC⟩:=h.row Q
    have H:(rows.drop r).findIdx (λx => !mX (cellOf x c))<(rows.drop r).length:=by
     rw[pL];unfold findAt at Q;omega
    have ab:=ael (w:=H)
    have aX:(rows.drop r)[(rows.drop r).findIdx λx => !mX (cellOf x c)]=x:=by
     rw[Ft];exact (dK.1 O).2
    rw[aX,nC.cell (by omega),NW] at ab
    simpa using ab
   have Nv:n5 aH r c (findAt rows r c)=λi k=>if i=r then g0 aH r (findAt rows r c) r k/g0 aH r (findAt rows r c) r c else g0 aH r (findAt rows r c) i k-g0 aH r (findAt rows r c) i c*(g0 aH r (findAt rows r c) r k/g0 aH r (findAt rows r c) r c):=rfl;rw[Nv];generalize p0 rows r (findAt rows r c)=hR at *;generalize g0 aH r (findAt rows r c)=S at *;obtain⟨x,O,ex,nC⟩:=y3.row Y;rw[ex,nC.cell (by omega)];obtain⟨d1,d2⟩:=arG nC (nC.2 c (by omega)) bN
   have yE:CA hR r c=hR.set r (x.1,x.2.1,(hH (aE (S r c)) x.2.2).1):=by
    unfold CA;rw[ex,nC.cell (by omega)]
   rw[yE]
   have VU:kH N (hH (aE (S r c)) x.2.2).1 (λk=>S r k/S r c)->∀(j:Nat) y,(hR.set r (x.1,x.2.1,(hH (aE (S r c)) x.2.2).1))[j]?=some y->kH N y.2.2 ((λi=>if i=r then λk=>S r k/S r c else S i) (0+j)):=by
    intro X j y ao;rw[oP];rw[mo] at ao
    by_cases ai:r=j
    ·rw[Z ai,Z (by have:=y3.1;omega)] at ao
     cases ao;dsimp only;rw[Z ai.symm];exact X
    ·rw[aa ai] at ao;dsimp only;rw[aa (Ne.symm ai)];exact y3.2 j y ao
   dsimp only;rcases va:(hH (aE (S r c)) x.2.2).2
   ·have X:=d2 va;obtain⟨fb,ew⟩:=aeg (r:=r) (c:=c) X (by omega) 0 (hR.set r (x.1,x.2.1,(hH (aE (S r c)) x.2.2).1)) (λi=>if i=r then λk=>S r k/S r c else S i) (VU X)
    constructor
    ·intro ae;refine⟨?_,λi z aQ=>?_⟩
     ·have:=congrArg D (NC (hH (aE (S r c)) x.2.2).1 r c 0 (hR.set r (x.1,x.2.1,(hH (aE (S r c)) x.2.2).1)) false);rw[aj,aj,ja] at this;rw[this];exact y3.1
     ·have:=ew ae i z aQ;rw[oP] at this;refine this.congr λk J=>?_
      by_cases pf:i=r
      ·simp only[Z pf]
      ·simp only[aa pf]
    ·intro cX;refine fb λj ai J1 bN k J=>?_;rw[oP] at *;simp only[aa J1] at bN ⊢;rw[ja,y3.1] at ai;exact cX.2 j ai J1 bN k J
   ·constructor
    ·intro ae;rw[NX] at ae
     cases ae
    ·intro cX;rw[d1.2 cX.1] at va
     cases va
structure F8 (N:Nat) (aH uu:ed) (rows:List c6) (p c:Nat) (dB:Nat->Nat):Prop where
 enc:vC N rows uu
 red:p4 N uu p c dB
 F9:∀y,hI N uu y↔hI N aH y
theorem arI (stop:Bool)(N:Nat)(aem:ed):∀k c rows free aH p dB,c+k=N->F8 N aem aH rows p c dB->p+D free=c->(stop=true->free=[]/\∀j,j<p->dB j=j) ->
  ∀vE qU,lv stop k c rows free false=(vE,qU,false) ->
  ∃uu oT c' CS,F8 N aem uu vE oT c' CS/\(stop=false->c'=N/\oT+D qU=N) /\
   (stop=true->(qU=[]/\c'=N/\oT=N/\∀j,j<N->CS j=j)\/(∃f,qU=[f]/\f<N/\oT=f/\c'=f/\(∀j,j<f->CS j=j)/\∀i,f<=i->i<N->uu i f=0)):=by
 intro k
 induction k with
 |zero =>
  intro c rows free aH p dB G he aB Q vE qU O;simp only[lv,fu,and_true] at O;obtain⟨rfl,rfl⟩:=O;refine⟨aH,p,c,dB,he,λ_=>⟨by omega,by omega⟩,λh=>?_⟩
  obtain⟨E,H⟩:=Q h;subst E;simp only[mJ,om] at aB;exact .inl ⟨rfl,by omega,by omega,λj ai=>H j (by omega)⟩
 |succ k ay =>
  intro c rows free aH p dB G he aB Q vE qU O;have lj:c-D free=p:=by omega
  unfold lv at O;rw[lj] at O;rcases aek he.enc (r:=p) (c:=c) (by omega) (by omega) with ⟨E,H,ab,aM⟩|⟨E,s,hF,ik,vF,aM,bl⟩
  ·rw[E,H,ab,Z rfl] at O
   cases stop with
   |true =>
    rw[Z rfl] at O;simp only[fu,and_true] at O;obtain⟨rfl,rfl⟩:=O;obtain⟨cF,cQ⟩:=Q rfl;subst cF;simp only[mJ,om] at aB;subst aB;exact⟨aH,p,p,dB,he,by simp,λ_ => .inr ⟨p,rfl,by omega,rfl,rfl,cQ,aM⟩⟩
   |false =>
    rw[aa (by simp)] at O;exact ay (c+1) rows (free++[c]) aH p dB (by omega) ⟨he.enc,he.red.free aM,he.F9⟩ (by simp;omega) (by simp) vE qU O
  ·rw[E,aa (by simp)] at O;rcases ae:(im rows p c).2.2
   ·rw[ae] at O;have VV:=aM ae;refine ay (c+1) _ free (n5 aH p c s) (p+1) (λj=>if j=p then c else dB j) (by omega) ⟨VV,he.red.CH (by omega) hF ik vF,λy=>(Vh (by omega) ik vF).trans (he.F9 y)⟩ (by omega) (λh=>?_) vE qU O;obtain⟨cF,cQ⟩:=Q h;refine⟨cF,λj ai=>?_⟩;subst cF;simp only[mJ,om] at aB;show (if j=p then c else dB j)=j
    split
    ·omega
    ·exact cQ j (by omega)
   ·rw[ae,adq] at O
    cases O
def p9 (rs:List eC):ed:=λi k=>if k<(D rs) then Ar ((rs.getD i ([],dW)).1.getD k dW) else Ar (rs.getD i ([],dW)).2
theorem aen {f:bU}(h:eX f=true):f=aE (Ar f)/\dz (Ar f):=by
 obtain⟨x,O,rfl⟩:=(Ja _).1 h;rw[Cl];exact⟨rfl,O⟩
theorem arJ {rs:List eC}{n:Int}(h:ny rs n=true):(D rs:Int)=n/\D rs<=40/\∀r∈rs,r.1.length=D rs/\eX r.2=true/\∀f∈r.1,eX f=true:=by
 unfold ny at h;simp only[e3,pZ,decide_eq_false_iff_not,beq_iff_eq] at h;obtain⟨E,H,ab,aM⟩:=h;refine⟨ab,by omega,λr Y=>?_⟩
 rw[FK] at aM;have:=aM r Y;unfold n3 Cx at this;simp only[pZ,Bool.not_eq_true,Bool.not_eq_false',e3,beq_iff_eq,FK,Bool.not_eq_false] at this;obtain⟨fF,eY,jC⟩:=this;exact⟨by omega,eY,λf aJ=>by simpa using jC f aJ⟩
theorem aeo {rs:List eC}{i:Nat}{r:eC}(h:rs[i]?=some r):rs.getD i ([],dW)=r:=by
 rw[dY,h];rfl
theorem aep {rs:List eC}{n:Int}(h:ny rs n=true):vC (D rs) (g9 rs) (p9 rs):=by
 obtain⟨aG,aDy,VU⟩:=arJ h;refine⟨CG rs,λi x O=>?_⟩
 have L:i<D rs:=by
  have:=(dK.1 O).1;rwa [CG] at this
 obtain⟨r,Y⟩:∃r,rs[i]?=some r:=⟨_,bs L⟩;rw[adk Y] at O
 cases O;obtain⟨aw,aC,cx⟩:=VU r (eL Y);refine kH.VS (by simp[aw]) λk J=>?_;unfold p9;rw[aeo Y]
 by_cases hi:k<D rs
 ·rw[Z hi];obtain⟨f,aJ⟩:∃f,r.1[k]?=some f:=⟨_,bs (by omega)⟩;obtain⟨fF,eY⟩:=aen (cx f (eL aJ));rw[re (by omega),aJ,dY,aJ];exact⟨congrArg some fF,eY⟩
 ·rw[aa hi];obtain⟨fF,eY⟩:=aen aC;rw[rf (by omega),aw,show k-D rs=0 by omega]
  exact⟨congrArg some fF,eY⟩
theorem arK (stop:Bool){rs:List eC}{n:Int}(h:ny rs n=true){vE:List c6}{qU:List Nat}(O:p2 stop rs=(vE,qU,false)):
  ∃uu oT c' CS,F8 (D rs) (p9 rs) uu vE oT c' CS/\(stop=false->c'=D rs/\oT+D qU=D rs) /\
   (stop=true->(qU=[]/\c'=D rs/\oT=D rs/\∀j,j<(D rs)->CS j=j)\/(∃f,qU=[f]/\f<D rs/\oT=f/\c'=f/\(∀j,j<f->CS j=j)/\∀i,f<=i->i<(D rs)->uu i f=0)) :=
 arI stop (D rs) (p9 rs) (D rs) 0 (g9 rs) [] (p9 rs) 0 (λj=>j) (by omega) ⟨aep h,NJ _ _ _,λ_=>Iff.rfl⟩ rfl (λ_=>⟨rfl,λj ai=>by omega⟩) vE qU O
def J2 (N:Nat)(q:Nat->Rat)(b:Nat):Prop:=∃(v:Nat->Int) (d:Int),d≠0/\d.natAbs<=2^b/\∀k,k<=N->q k*(d:Rat)=(v k:Rat)/\(v k).natAbs<=2^b
theorem J2.mono {N a b:Nat}{q:Nat->Rat}(h:J2 N q a)(yT:a<=b):J2 N q b:=by
 obtain⟨v,d,E,H,ab⟩:=h;have aB:2^a<=2^b:=wQ (by omega) yT;exact⟨v,d,E,eF H aB,λk J=>⟨(ab k J).1,eF (ab k J).2 aB⟩⟩
theorem arL {q:Rat}{v d:Int}(X:d≠0)(h:q*(d:Rat)=(v:Rat)):q.num*d=v*q.den:=by
 have oO:(d:Rat)≠0:=by rw[Ne,aeq];exact X
 have e:q=lp v d:=by rw[VW];grind
 have aC:lp q.num q.den=lp v d:=by rw[Rat.num_divInt_den];exact e
 exact (Rat.divInt_eq_divInt_iff (w6 q) X).1 aC
theorem AU {q:Rat}{v d:Int}(X:d≠0)(h:q*(d:Rat)=(v:Rat)):q.num.natAbs<=v.natAbs/\q.den<=d.natAbs:=by
 have G:=arL X h
 have nR:q.num.natAbs*d.natAbs=v.natAbs*q.den:=by
  have:=congrArg Int.natAbs G;rwa [qI,qI,ml] at this
 have zF:q.den∣d.natAbs:=(Nat.Coprime.symm q.reduced).dvd_of_dvd_mul_left ⟨v.natAbs,by rw[nR,sr]⟩
 have SP:0<d.natAbs:=by omega
 have H:=Nat.le_of_dvd SP zF;refine⟨?_,H⟩;obtain⟨m,hm⟩:=zF;rw[hm] at nR;have SR:=q.den_pos
 have ab:q.num.natAbs*m=v.natAbs:=by
  have:q.den*(q.num.natAbs*m)=q.den*v.natAbs:=by rw[sr q.den v.natAbs,<-nR];rw[aeb]
  exact Nat.eq_of_mul_eq_mul_left SR this
 have l9:0<m:=by
  rcases jm m with ak|ak
  ·rw[ak,Nat.mul_zero] at hm;omega
  ·exact ak
 rw[<-ab];exact HI _ l9
def eI (b:Nat)(q:Rat):Prop:=q.num.natAbs<=2^b/\q.den<=2^b
theorem J2.sz {N b:Nat}{q:Nat->Rat}(h:J2 N q b){k:Nat}(J:k<=N):eI b (q k):=by
 obtain⟨v,d,E,H,ab⟩:=h;obtain⟨aw,aC⟩:=ab k J;obtain⟨f1,f2⟩:=AU E aw;exact⟨eF f1 aC,eF f2 H⟩
theorem arM (a b c:Nat)(h:a=2^b):a^c=2^(b*c):=by rw[h,<-Nat.pow_mul]
theorem aer:∃B:Nat,B=1200/\dI=2^B:=⟨20*60,rfl,arM 1048576 20 60 (by decide)⟩
theorem AV {z:Int}{b:Nat}(h:z.natAbs<=2^b)(ae:b<1200):il z=true:=by
 obtain⟨B,fi,fQ⟩:=aer;unfold il;rw[fQ,decide_eq_true_eq];exact sD h (aes (by omega) (by omega))
theorem uv {x y:Int}{a b:Nat}(O:x.natAbs<=2^a)(ao:y.natAbs<=2^b):(x*y).natAbs<=2^(a+b):=by
 rw[qI,xw];exact pk O ao
theorem aet {x y:Int}{a:Nat}(O:x.natAbs<=2^a)(ao:y.natAbs<=2^a):(x+y).natAbs<=2^(a+1):=by
 have:=Int.natAbs_add_le x y;rw[u3];omega
theorem eI.mono {a b:Nat}{q:Rat}(h:eI a q)(yT:a<=b):eI b q:=by
 have aB:2^a<=2^b:=wQ (by omega) yT;exact⟨eF h.1 aB,eF h.2 aB⟩
theorem VX {x y:Rat}{a b:Nat}(O:eI a x)(ao:eI b y)(h:a+b<1200):yR x y=true:=by
 unfold yR;rw[e3];exact⟨AV (uv O.1 ao.1) h,AV (uv (x:=(x.den:Int)) (y:=(y.den:Int)) (by simpa using O.2) (by simpa using ao.2)) h⟩
theorem aeu {x y:Rat}{a b:Nat}(O:eI a x)(ao:eI b y)(h:a+b<1200):vm x y=true:=by
 unfold vm;rw[e3];exact⟨AV (uv (y:=(y.den:Int)) O.1 (by simpa using ao.2)) h,AV (uv (x:=(x.den:Int)) (by simpa using O.2) ao.1) h⟩
theorem AW {x y:Rat}{a b:Nat}(O:eI a x)(ao:eI b y)(h:a+b+1<1200):o7 x y=true:=by
 unfold o7;have E:=uv (y:=(y.den:Int)) O.1 (by simpa using ao.2);have H:=uv (y:=(x.den:Int)) ao.1 (by simpa using O.2);rw[xT b a] at H;simp only[e3];exact⟨AV E (by omega),AV H (by omega),AV (aet E H) h,AV (uv (x:=(x.den:Int)) (y:=(y.den:Int)) (by simpa using O.2) (by simpa using ao.2)) (by omega)⟩
theorem CT {b:Nat}{q:Rat}(h:eI b q):eI b (-q):=⟨by rw[aev,Int.natAbs_neg];exact h.1,h.2⟩
theorem aew {p q:Int}{b:Nat}(E:p.natAbs<=2^b)(H:q.natAbs<=2^b)(bd:q≠0):eI b (lp p q):=by
 have aDz:(q:Rat)≠0:=by rw[Ne,aeq];exact bd
 have:=AU (q:=lp p q) (v:=p) bd (by rw[VW];grind);exact⟨eF this.1 E,eF this.2 H⟩
theorem NZ {x y:Rat}{a b:Nat}(O:eI a x)(ao:eI b y):eI (a+b) (x*y):=by
 rw[<-Tu];exact aew (uv O.1 ao.1) (uv (x:=(x.den:Int)) (y:=(y.den:Int)) (by simpa using O.2) (by simpa using ao.2)) (Av (w6 x) (w6 y))
theorem aex {x y:Rat}{a b:Nat}(O:eI a x)(ao:eI b y):eI (a+b+1) (x+y):=by
 rw[<-Tt];have E:=uv (y:=(y.den:Int)) O.1 (by simpa using ao.2);have H:=uv (y:=(x.den:Int)) ao.1 (by simpa using O.2);rw[xT b a] at H;have ab:=uv (x:=(x.den:Int)) (y:=(y.den:Int)) (a:=a) (b:=b) (by simpa using O.2) (by simpa using ao.2);exact aew (aet E H) (eF ab (wQ (by omega) (by omega))) (Av (w6 x) (w6 y))
def s0 (A:ed)(σ:Nat->Nat)(k:Nat):fz:=λi=>A (σ i) k
def pn:Nat->List Nat
 |0=>[]
 |p+1=>p::pn p
theorem AX {k:Nat}:∀{p:Nat},k∈pn p↔k<p
 |0=>by simp[pn]
 |p+1=>by
  simp only[pn,nU,AX (p:=p)];omega
theorem aey {l:Nat}:∀{p:Nat},l<p->∃cA fK,pn p=cA++l::fK/\∀m,m∈cA++fK↔m<p/\m≠l
 |0,h=>by omega
 |p+1,h=>by
  by_cases au:l=p
  ·subst au;refine⟨[],pn l,rfl,λm=>?_⟩;rw[iM,AX];omega
  ·obtain⟨cA,fK,E,H⟩:=aey (l:=l) (p:=p) (by omega);refine⟨p::cA,fK,by simp[pn,E],λm=>?_⟩
   rw[lP,nU,H];omega
def qV (A:ed)(σ:Nat->Nat)(p:Nat):List fz:=(pn p).map (s0 A σ)
theorem N0 {n:Nat}{c c':fz}(cA fK:List fz)(h:∀i,i<n->c i=c' i):gl n (cA++c::fK)=gl n (cA++c'::fK):=by
 have:=ad5 (n:=n) (cA.map (λx=>(x,x))++(c,c')::fK.map (λx=>(x,x))) Prod.fst Prod.snd (λa a1 i L=>by
  simp only[jK,nU,fO] at a1;rcases a1 with ⟨x,_,rfl⟩|rfl|⟨x,_,rfl⟩
  ·rfl
  ·exact h i L
  ·rfl)
 simpa [Function.comp_def] using this
theorem aez {A:ed}{σ τ:Nat->Nat}{p:Nat}(h:∀i,i<p->σ i=τ i):gl p (qV A σ p)=gl p (qV A τ p) :=
 ad5 _ _ _ λa _ i L=>by unfold s0;rw[h i L]
def J3 (N:Nat)(A aH:ed)(σ:Nat->Nat)(p:Nat):Prop:=∀i,i<N->∀k,p<=k->k<=N->A (σ i) k=(if i<p then 0 else aH i k)+bz p λl=>A (σ i) l*aH l k
def kZ (N:Nat)(A aH:ed)(p:Nat):Prop:=∃σ:Nat->Nat,(∀i,i<N->σ i<N)/\(∀i j,i<N->j<N->σ i=σ j->i=j)/\J3 N A aH σ p/\gl p (qV A σ p)≠0
theorem kZ.start (N:Nat)(A:ed):kZ N A A 0:=by
 refine⟨λi=>i,λi h=>h,λi j _ _ h=>h,λi L k _ J=>?_,?_⟩
 ·rw[aa (by omega)];show A i k=A i k+0;grind
 ·show (1:Rat)≠0;decide
theorem arN {p:Nat}(a x y:Nat->Rat)(t:Rat):bz p (λl=>a l*(x l-y l*t))=bz p (λl=>a l*x l)-t*bz p λl=>a l*y l:=by
 have:(λl=>a l*(x l-y l*t))=λl=>a l*x l+(-t)*(a l*y l):=by funext l;grind
 rw[this,um,y8];grind
theorem kZ.step {N p s:Nat}{A aH:ed}(h:kZ N A aH p)(aB:p<N)(Q:p<=s)(y9:s<N)(bN:aH s p≠0):kZ N A (n5 aH p p s) (p+1):=by
 obtain⟨σ,hσ,Ga,Y,X⟩:=h
 let π:Nat->Nat:=λi=>if i=s then p else if i=p then s else i
 have hπ:∀i,g0 aH p s i=aH (π i):=by
  intro i;show (if i=s then aH p else if i=p then aH s else aH i)=aH (if i=s then p else if i=p then s else i)
  split
  ·rfl
  ·split<;>rfl
 have hπN:∀i,i<N->π i<N:=λi L=>by show (if i=s then p else if i=p then s else i)<N;split<;>(try split)<;>omega
 have hπp:∀i,i<p->π i=i:=λi L=>by show (if i=s then p else if i=p then s else i)=i;rw[aa (by omega),aa (by omega)]
 have hπq:∀i,p<=i->p<=π i:=λi L=>by show p<=(if i=s then p else if i=p then s else i);split<;>(try split)<;>omega
 have hπj:∀i j,π i=π j->i=j:=λi j=>by
  show (if i=s then p else if i=p then s else i)=(if j=s then p else if j=p then s else j)->i=j
  (repeat' split)<;>omega
 have aeA:∀i j,i<N->j<N->σ (π i)=σ (π j)->i=j:=λi j L ai h=>hπj i j (Ga _ _ (hπN i L) (hπN j ai) h)
 have cB:J3 N A (g0 aH p s) (λi=>σ (π i)) p:=by
  intro i L k lx hi;have:=Y (π i) (hπN i L) k lx hi;rw[this]
  congr 1
  ·by_cases mr:i<p
   ·rw[Z mr,Z (by rw[hπp i mr];exact mr)]
   ·rw[aa mr,aa (by have:=hπq i (by omega);omega),hπ]
  ·refine jP λl au=>?_;rw[hπ l,hπp l au]
 have arO:g0 aH p s p p≠0:=by rw[NI];exact bN
 generalize arP:g0 aH p s=S at *
 have bd:n5 aH p p s=λi k=>if i=p then S p k/S p p else S i k-S i p*(S p k/S p p):=by
  funext i k;unfold n5;rw[arP]
 rw[bd]
 have oO:gl p (qV A (λi=>σ (π i)) p)≠0:=by
  rw[aez (τ:=σ) λi L=>by show σ (π i)=σ i;rw[hπp i L]]
  exact X
 have hσ2:∀i,i<N->σ (π i)<N:=λi L=>hσ _ (hπN i L)
 change ∀i,i<N->(λi=>σ (π i)) i<N at hσ2
 change ∀i j,i<N->j<N->(λi=>σ (π i)) i=(λi=>σ (π i)) j->i=j at aeA
 generalize hτ:(λi=>σ (π i))=τ at *;refine⟨τ,hσ2,aeA,λi L k lx hi=>?_,?_⟩
 ·have aw:=cB i L k (by omega) hi;have aC:=cB i L p (by omega) (by omega);simp only[bz,if_true];rw[jP (g:=λl=>A (τ i) l*(S l k-S l p*(S p k/S p p))) λl au=>by rw[aa (by omega)],arN]
  generalize bz p (λl=>A (τ i) l*S l k)=cA at *;generalize bz p (λl=>A (τ i) l*S l p)=fK at *
  by_cases E:i<p
  ·rw[Z E] at aw aC;rw[Z (by omega)];grind
  ·rw[aa E] at aw aC
   by_cases H:i=p
   ·subst H;rw[Z (by omega)];grind
   ·rw[aa (by omega),aa H];grind
 ·have G:gl (p+1) (qV A τ (p+1))=S p p*gl p (qV A τ p):=by
   show gl (p+1) ([]++s0 A τ p::qV A τ p)=_
   rw[N0 (c':=AS (λi=>if i<p then 0 else S i p) (λi=>bz p λl=>S l p*s0 A τ l i) 1) [] _ λi L=>by
    have:=cB i (by omega) p (by omega) (by omega);show A (τ i) p=(if i<p then 0 else S i p)+1*bz p λl=>S l p*A (τ i) l;rw[this,NU]
    congr 1
    exact jP λl _=>uw _ _]
   rw[CP,J0,rQ λl au=>by
    rw[VK (by rw[iM];exact vG (AX.2 au))];exact nA _]
   rw[iM,ad4 λi L=>Z L,aa (by omega)];grind
  rw[G];intro ak;rcases VY.1 ak with ak|ak
  ·exact arO ak
  ·exact oO ak
theorem arQ {N p l k:Nat}{A aH:ed}{σ:Nat->Nat}(Y:J3 N A aH σ p)(aB:p<=N)(au:l<p)(lx:p<=k)(hi:k<=N):∃cA fK:List Nat,pn p=cA++l::fK/\(∀m∈cA++fK,m<p)/\aH l k*gl p (qV A σ p)=gl p ((cA++k::fK).map (s0 A σ)):=by
 obtain⟨cA,fK,lS,hm⟩:=aey au;refine⟨cA,fK,lS,λm YY=>((hm m).1 YY).1,?_⟩
 ·rw[mq,e5]
  rw[N0 (c':=λi=>bz p λm=>aH m k*s0 A σ m i) _ _ λi L=>by
   have:=Y i (by omega) k lx hi;rw[Z L] at this;show A (σ i) k=bz p λm=>aH m k*A (σ i) m;rw[this,AY];exact jP λl _=>uw _ _]
  rw[J0,xq au λm arR hs=>by
   rw[VK (by rw[<-mq];exact vG ((hm m).2 ⟨arR,hs⟩))];exact nA _]
  unfold qV;rw[lS,mq,e5]
theorem arS {N p i k:Nat}{A aH:ed}{σ:Nat->Nat}(Y:J3 N A aH σ p)(qt:p<=i)(ng:i<N)(lx:p<=k)(hi:k<=N):aH i k*gl p (qV A σ p)=gl (p+1) ((k::pn p).map (s0 A λj=>if j=p then σ i else σ j)):=by
 have hτ:∀j,j<p->(λj=>if j=p then σ i else σ j) j=σ j:=λj ai=>aa (by omega);have hτp:(λj=>if j=p then σ i else σ j) p=σ i:=Z rfl;generalize (λj=>if j=p then σ i else σ j)=τ at *;show _=gl (p+1) ([]++s0 A τ k::qV A τ p)
 rw[N0 (c':=AS (λj=>if j<p then 0 else aH i k) (λj=>bz p λl=>aH l k*s0 A τ l j) 1) [] _ λj ai=>by
  show A (τ j) k=(if j<p then 0 else aH i k)+1*bz p λl=>aH l k*A (τ j) l;rw[NU]
  by_cases FP:j<p
  ·have:=Y j (by omega) k lx hi;rw[Z FP] at this ⊢;rw[hτ j FP,this]
   congr 1
   exact jP λl _=>uw _ _
  ·obtain rfl:j=p:=by omega
   have:=Y i ng k lx hi;rw[aa (by omega)] at this;rw[aa FP,hτp,this]
   congr 1
   exact jP λl _=>uw _ _]
 rw[CP,J0,rQ λl au=>by
  rw[VK (by rw[iM];exact vG (AX.2 au))];exact nA _]
 rw[iM,ad4 λi L=>Z L,aa (by omega),aez λj ai=>(hτ j ai).symm];grind
theorem arT (n:Nat)(cA fK:List fz)(x:fz)(a:Rat):gl n (cA++(λi=>a*x i)::fK)=a*gl n (cA++x::fK):=by
 have:=J0 n cA fK (λ_=>a) (λ_=>x) 1;simp only[bz] at this;rw[AY] at this;rw[<-this];exact N0 cA fK λi _=>(AY _).symm
theorem aeB (n:Nat)(bS:Nat->Rat)(C:Nat->fz):∀(cN:List Nat) (cA:List fz),∃a:Rat,((∀k∈cN,bS k≠0)->a≠0)/\gl n (cA++cN.map λk=>λi=>bS k*C k i)=a*gl n (cA++cN.map C)
 | [],cA=>⟨1,λ_=>by decide,by rw[NU];rfl⟩
 |k::cN,cA=>by
  obtain⟨a,E,H⟩:=aeB n bS C cN (cA++[C k]);refine⟨bS k*a,λh=>?_,?_⟩
  ·intro ak;rcases VY.1 ak with ak|ak
   ·exact h k hv ak
   ·exact E (λm hm=>h m (ir _ hm)) ak
  ·simp only[e5,gN,lP,iM] at H ⊢;rw[arT,H,Rat.mul_assoc]
structure s3 (N:Nat) (A:ed) (δ v:Nat):Prop where
 ex:∃(bS:Nat->Nat) (u w:Nat->Int),iv N bS<=2^δ/\(∀k,0<bS k)/\(∀k,k<N->∃b:Nat->Nat,ga N b<=2*bS k/\∀i,i<N->ej (b i) (bS k*A i k))/\(∀k,k<N->(u k).natAbs<=2^v)/\∀i,i<N->(w i).natAbs<=2^v/\A i N=bz N (λk=>A i k*(u k:Rat))+(w i:Rat)
def k0 (e:Nat->Nat):List Nat->Nat
 | []=>1
 |m::l=>e m*k0 e l
theorem aeC (e:Nat->Nat)(a b:List Nat):k0 e (a++b)=k0 e a*k0 e b:=by
 induction a with
 |nil=>simp[k0]
 |cons p l ay=>simp only[lP,k0,ay,CR]
theorem arU {e f:Nat->Nat}{l:List Nat}(h:∀m∈l,e m=f m):k0 e l=k0 f l:=by
 induction l with
 |nil=>rfl
 |cons m l ay=>rw[k0,k0,ay λx O=>h x (ir _ O),h m hv]
theorem aeD (bS:Nat->Nat):∀p,k0 (λm=>2*bS m) (pn p)=2^p*iv p bS
 |0=>rfl
 |p+1=>by
  rw[pn,k0,aeD bS p,iv,u3];grind
theorem VZ {N n:Nat}{A:ed}{e:Nat->Nat}(dj:∀k,k<=N->∃b:Nat->Nat,ga N b<=e k/\∀i,i<N->ej (b i) (A i k)){τ:Nat->Nat}(E:∀i,i<n->τ i<N)(H:∀i j,i<n->j<n->τ i=τ j->i=j)(cN:List Nat)(fQ:∀m∈cN,m<=N):ej (k0 e cN) (gl n (cN.map (s0 A τ))):=by
 have⟨B,fi⟩:∃B:Nat->Nat->Nat,∀k,k<=N->ga N (B k)<=e k/\∀i,i<N->ej (B k i) (A i k):=by
  refine⟨λk=>if h:k<=N then (dj k h).choose else λ_=>0,λk J=>?_⟩;dsimp only;rw[dif_pos J];exact (dj k J).choose_spec
 have h:=aec n (cN.map λk=>(s0 A τ k,λi=>B k (τ i))) λp aB i L=>by
  obtain⟨m,hm,rfl⟩:=fO.1 aB;exact (fi m (fQ m hm)).2 _ (E i L)
 rw[oU] at h;refine ej.mono h ?_;clear h
 induction cN with
 |nil=>exact bP _
 |cons m cN ay =>
  rw[e5,mv,k0];exact pk (eF (VO (B m) E H) (fi m (fQ m hv)).1) (ay λx O=>fQ x (ir _ O))
structure arV (N:Nat) (aH:ed) (δ v p:Nat) (bS:Nat->Nat) (u:Nat->Int) (d:Int):Prop where
 d0:d≠0
 pos:∀k,0<bS k
 aeE:iv N bS<=2^δ
 aeF:∀k,k<N->(u k).natAbs<=2^v
 BJ:d.natAbs<=2^p*iv p bS
 aeG:∀i,i<N->∀k,p<=k->k<N->ej (2^(p+1)*(iv p bS*bS k)) (aH i k*(bS k*d))
 val:∀i,i<N->ej (2^p*iv p bS*(N*2^v)) ((aH i N-(if i<p then (u i:Rat) else 0)-bz N λk=>if p<=k then aH i k*(u k:Rat) else 0)*d)
theorem kZ.aeH {N p δ v:Nat}{A aH:ed}(dj:s3 N A δ v)(h:kZ N A aH p)(aB:p<=N):∃bS u d,arV N aH δ v p bS u d:=by
 obtain⟨σ,hσ,Ga,Y,X⟩:=h;obtain⟨bS,u,w,db,dH,fk,fM,n6⟩:=dj
 have J4:∀m,((bS m:Nat):Rat)≠0:=λm=>by
  have:=dH m;rw[Ne,Rat.natCast_eq_zero_iff];omega
 -- the scaled matrix, with the whole numbers of the values
 have bw:J3 N (λi k=>if k<N then bS k*A i k else (w i:Rat)) (λl k=>if k<N then (if l<p then bS k*aH l k/bS l else bS k*aH l k) else (if l<p then (1:Rat)/bS l else 1)*(aH l N-(if l<p then (u l:Rat) else 0)-bz N λk=>if p<=k then aH l k*(u k:Rat) else 0)) σ p:=by
  intro i L k lx hi
  by_cases n4:k<N
  ·have:=Y i L k lx hi;dsimp only;rw[Z n4,Z n4,this,Rat.mul_add,<-y8]
   congr 1
   ·split<;>grind
   ·refine jP λl au=>?_;rw[Z n4,Z (by omega),Z au];have:=J4 l;grind
  ·obtain rfl:k=N:=by omega
   dsimp only;rw[aa n4,aa n4];have aw:=Y i L k lx hi;have aC:=(n6 (σ i) (hσ i L)).2
   have cx:(λm=>A (σ i) m*(u m:Rat))=λm=>(if m<p then A (σ i) m*(u m:Rat) else 0)+if p<=m then A (σ i) m*(u m:Rat) else 0:=by
    funext m
    by_cases hm:m<p
    ·rw[Z hm,aa (by omega),pj]
    ·rw[aa hm,Z (by omega),AY]
   have dk:bz k (λm=>if p<=m then A (σ i) m*(u m:Rat) else 0)=bz k λm=>(if p<=m then (if i<p then 0 else aH i m*(u m:Rat)) else 0)+bz p λl=>A (σ i) l*(if p<=m then aH l m*(u m:Rat) else 0):=jP λm hm=>by
    by_cases nS:p<=m
    ·rw[Z nS,Z nS,Y i L m nS (by omega),Rat.add_mul]
     congr 1
     ·split<;>grind
     ·rw[uw,<-y8];refine jP λl _=>?_;rw[Z nS];grind
    ·rw[aa nS,aa nS,AY];exact (rQ λl _=>by rw[aa nS,nA]).symm
   rw[cx,um,dk,um,aqY] at aC
   have dS:bz k (λm=>if m<p then A (σ i) m*(u m:Rat) else 0)=bz p λl=>A (σ i) l*(u l:Rat):=by
    have:∀n,p<=n->bz n (λm=>if m<p then A (σ i) m*(u m:Rat) else 0)=bz p λl=>A (σ i) l*(u l:Rat):=by
     intro n
     induction n with
     |zero =>
          intro h;obtain rfl:p=0:=by omega
          rfl
     |succ n ay =>
      intro h
      by_cases AZ:p=n+1
      ·rw[AZ];exact jP λm hm=>Z hm
      ·rw[bz,ay (by omega),aa (by omega),pj]
    exact this k aB
   rw[dS] at aC
   have bQ:(bz p λl=>(λi s4=>if s4<k then (bS s4:Rat)*A i s4 else (w i:Rat)) (σ i) l*((if l<p then (1:Rat)/bS l else 1)*(aH l k-(if l<p then (u l:Rat) else 0)-bz k λm=>if p<=m then aH l m*(u m:Rat) else 0)))=bz p (λl=>A (σ i) l*aH l k)-bz p (λl=>A (σ i) l*(u l:Rat))-bz p λl=>bz k λm=>A (σ i) l*(if p<=m then aH l m*(u m:Rat) else 0):=by
    have:∀f g h:Nat->Rat,bz p (λl=>f l-g l-h l)=bz p f-bz p g-bz p h:=λf g h=>by
     have e:(λl=>f l-g l-h l)=λl=>f l+((-1)*g l+(-1)*h l):=by funext l;grind
     rw[e,um,um,y8,y8];grind
    rw[<-this];refine jP λl au=>?_;dsimp only;rw[Z (by omega),Z au,Z au,y8];have:=J4 l;grind
   have cg:(bz p λl=>(λi s4=>if s4<k then (bS s4:Rat)*A i s4 else (w i:Rat)) (σ i) l*(λl s4=>if s4<k then (if l<p then (bS s4:Rat)*aH l s4/bS l else bS s4*aH l s4) else (if l<p then (1:Rat)/bS l else 1)*(aH l k-(if l<p then (u l:Rat) else 0)-bz k λm=>if p<=m then aH l m*(u m:Rat) else 0)) l k)=bz p (λl=>A (σ i) l*aH l k)-bz p (λl=>A (σ i) l*(u l:Rat))-bz p λl=>bz k λm=>A (σ i) l*(if p<=m then aH l m*(u m:Rat) else 0):=by
    rw[<-bQ];refine jP λl au=>?_;dsimp only;rw[aa (by omega:¬ k<k)]
   dsimp only at cg;rw[cg]
   by_cases mr:i<p
   ·rw[Z mr] at aw ⊢;have dR:bz k (λm=>if p<=m then (if i<p then 0 else aH i m*(u m:Rat)) else 0)=0:=rQ λm _=>by rw[Z mr];split<;>rfl
    rw[dR] at aC;grind
   ·rw[aa mr] at aw ⊢;have dR:bz k (λm=>if p<=m then (if i<p then 0 else aH i m*(u m:Rat)) else 0)=bz k λm=>if p<=m then aH i m*(u m:Rat) else 0:=jP λm _=>by rw[aa mr]
    rw[dR] at aC;rw[aa mr,aa mr];grind
 have mh:gl p (qV (λi k=>if k<N then bS k*A i k else (w i:Rat)) σ p)≠0:=by
  obtain⟨a,E,H⟩:=aeB p (λk=>(bS k:Rat)) (s0 A σ) (pn p) []
  have J5:qV (λi k=>if k<N then bS k*A i k else (w i:Rat)) σ p=(pn p).map λk=>λi=>(bS k:Rat)*s0 A σ k i:=by
   unfold qV;refine nj λm hm=>?_;have:=AX.1 hm
   funext i
   show (if m<N then (bS m:Rat)*A (σ i) m else (w (σ i):Rat))=_;rw[Z (by omega)];rfl
  rw[iM,iM] at H;rw[J5,H];intro ak;rcases VY.1 ak with ak|ak
  ·exact E (λm hm=>J4 m) ak
  ·exact X ak
 have CU:∀k,k<=N->∃b:Nat->Nat,ga N b<=(if k<N then 2*bS k else N*2^v)/\∀i,i<N->ej (b i) ((λi k=>if k<N then (bS k:Rat)*A i k else (w i:Rat)) i k):=by
  intro k J
  by_cases n4:k<N
  ·obtain⟨b,dP,gV⟩:=fk k n4;refine⟨b,by rw[Z n4];exact dP,λi L=>?_⟩
   dsimp only;rw[Z n4];exact gV i L
  ·refine⟨λ_=>2^v,?_,λi L=>?_⟩
   ·rw[aa n4]
    have:∀n,ga n (λ_=>2^v)=n*2^v:=λn=>by
     induction n with
     |zero=>simp[ga]
     |succ n ay=>rw[ga,ay,sc]
    rw[this];exact bP _
   ·dsimp only;rw[aa n4];exact ej.mono (ej.int _) (n6 i L).1
 generalize aDA:(λ(i k:Nat)=>if k<N then (bS k:Rat)*A i k else (w i:Rat))=NV at *;generalize V0:(λk=>if k<N then 2*bS k else N*2^v)=e at *
 have V1:∀k,k<=N->∃b:Nat->Nat,ga N b<=e k/\∀i,i<N->ej (b i) (NV i k):=by
  intro k J;rw[<-V0];exact CU k J
 have V3:∀m,m<N->e m=2*bS m:=λm hm=>by rw[<-V0];exact Z hm
 have arW:e N=N*2^v:=by rw[<-V0];exact aa (by omega)
 have V4:k0 e (pn p)=2^p*iv p bS:=by
  rw[<-aeD];exact arU λm hm=>V3 m (by have:=AX.1 hm;omega)
 have hσp:∀i,i<p->σ i<N:=λi L=>hσ i (by omega);have mr:∀i j,i<p->j<p->σ i=σ j->i=j:=λi j L ai=>Ga i j (by omega) (by omega);have uX:=VZ V1 hσp mr (pn p) λm hm=>by have:=AX.1 hm;omega
 rw[V4] at uX;obtain⟨d,yF,va⟩:=uX
 change gl p (qV NV σ p)=(d:Rat) at yF
 have z9:d≠0:=by
  intro ak;rw[yF,ak] at mh;exact mh (by rfl)
 -- both kinds of rows
 have fa:∀l,l<p->∀k,p<=k->k<=N->∃m:Int,(λl k=>if k<N then (if l<p then (bS k:Rat)*aH l k/bS l else bS k*aH l k) else (if l<p then (1:Rat)/bS l else 1)*(aH l N-(if l<p then (u l:Rat) else 0)-bz N λk=>if p<=k then aH l k*(u k:Rat) else 0)) l k*(d:Rat)=(m:Rat)/\bS l*m.natAbs<=2^p*iv p bS*e k:=by
  intro l au k lx hi;obtain⟨cA,fK,bf,b5,cU⟩:=arQ bw aB au lx hi
  have ae:=VZ V1 hσp mr (cA++k::fK) λm hm=>by
   have:m=k\/m∈cA++fK:=by
    simp only[jK,nU] at hm ⊢;rcases hm with h|h|h<;>simp[h]
   rcases this with h|h
   ·omega
   ·have:=b5 m h;omega
  obtain⟨m,dG,cn⟩:=ae;rw[yF,dG] at cU;refine⟨m,cU,?_⟩;have aw:k0 e (cA++k::fK)=k0 e cA*(e k*k0 e fK):=by rw[aeC,k0]
  have aC:k0 e cA*(2*bS l*k0 e fK)=2^p*iv p bS:=by
   rw[<-V4,bf,aeC,k0,V3 l (by omega)]
  rw[aw] at cn;rw[<-aC];generalize k0 e cA=x at *;generalize k0 e fK=y at *;have cH:=pk (bP (bS l)) cn;have dc:x*(2*bS l*y)*e k=bS l*(x*(e k*y))+bS l*(x*(e k*y)):=by grind
  rw[dc];omega
 have iJ:∀i,p<=i->i<N->∀k,p<=k->k<=N->∃m:Int,(λl k=>if k<N then (if l<p then (bS k:Rat)*aH l k/bS l else bS k*aH l k) else (if l<p then (1:Rat)/bS l else 1)*(aH l N-(if l<p then (u l:Rat) else 0)-bz N λk=>if p<=k then aH l k*(u k:Rat) else 0)) i k*(d:Rat)=(m:Rat)/\m.natAbs<=2^p*iv p bS*e k:=by
  intro i qt ng k lx hi;have aeI:=arS bw qt ng lx hi
  have hτ:∀j,j<p+1->(λj=>if j=p then σ i else σ j) j<N:=λj ai=>by
   show (if j=p then σ i else σ j)<N
   split
   ·exact hσ i ng
   ·exact hσ j (by omega)
  have hτj:∀j k,j<p+1->k<p+1->(λj=>if j=p then σ i else σ j) j=(λj=>if j=p then σ i else σ j) k->j=k:=λj k ai J=>by
   show (if j=p then σ i else σ j)=(if k=p then σ i else σ k)->j=k;intro h
   by_cases aD:j=p
   ·by_cases c2:k=p
    ·omega
    ·rw[Z aD,aa c2] at h;have:=Ga _ _ ng (by omega) h;omega
   ·by_cases c2:k=p
    ·rw[aa aD,Z c2] at h;have:=Ga _ _ (by omega) ng h;omega
    ·rw[aa aD,aa c2] at h;exact Ga _ _ (by omega) (by omega) h
  obtain⟨m,dG,cn⟩:=VZ V1 hτ hτj (k::pn p) λm hm=>by
   rcases nU.1 hm with h|h
   ·omega
   ·have:=AX.1 h;omega
  rw[yF,dG] at aeI;refine⟨m,aeI,eF cn ?_⟩;rw[k0,V4,sr];exact bP _
 refine⟨bS,u,d,z9,dH,db,fM,va,λi L k lx hi=>?_,λi L=>?_⟩
 ·have Tx:2^(p+1)*(iv p bS*bS k)=2^p*iv p bS*e k:=by rw[V3 k hi,u3];grind
  rw[Tx]
  by_cases aq:i<p
  ·obtain⟨m,dG,cn⟩:=fa i aq k lx (by omega);dsimp only at dG;rw[Z hi,Z aq] at dG;refine⟨bS i*m,?_,by rw[qI,ml];exact cn⟩
   rw[p8,<-dG,nB];have:=J4 i;grind
  ·obtain⟨m,dG,cn⟩:=iJ i (by omega) L k lx (by omega);dsimp only at dG;rw[Z hi,aa aq] at dG;refine⟨m,?_,cn⟩;rw[<-dG];grind
 ·rw[<-arW]
  by_cases aq:i<p
  ·obtain⟨m,dG,cn⟩:=fa i aq N aB (bP _);dsimp only at dG;rw[aa (by omega:¬ N<N),Z aq,Z aq] at dG;refine⟨bS i*m,?_,by rw[qI,ml];exact cn⟩
   rw[p8,<-dG,nB,Z aq];have:=J4 i;grind
  ·obtain⟨m,dG,cn⟩:=iJ i (by omega) L N aB (bP _);dsimp only at dG;rw[aa (by omega:¬ N<N),aa aq,aa aq] at dG;refine⟨m,?_,cn⟩;rw[<-dG,aa aq];grind
def Gb (N:Nat)(A:ed)(eJ aP:Nat):Prop:=∀aH p,p<=N->kZ N A aH p->∀i k,i<N->p<=k->k<=N->eI eJ (aH i k)/\(k<N->eI aP (aH i k))
theorem s3.aeJ {N δ v:Nat}{A:ed}(dj:s3 N A δ v)(gH:N<=7):Gb N A (N+δ+v+4) (N+δ):=by
 intro aH p aB h i k L lx hi;obtain⟨bS,u,d,aG⟩:=h.aeH dj aB;obtain⟨bZ,aDB,fb,ew⟩:=ad8 aG.pos aB;have CV:=aG.aeE;rw[fb] at CV
 have arX:∀k,p<=k->k<N->iv p bS*bS k<=iv p bS*bZ:=λk E H=>by
  obtain⟨m,hm⟩:=ew k E H;refine pk (bP _) ?_
  have:0<m:=by
   rcases jm m with h|h
   ·rw[h] at hm;omega
   ·exact h
  rw[hm];exact HI _ this
 have E4:∀q,q<=N->∀x,x<=2^δ->2^q*x<=2^(N+δ):=λq bd x O=>by
  rw[xw];exact pk (wQ (by omega) bd) O
 have e4:∀k,p<=k->k<N->eI (N+δ) (aH i k):=λk lx hi=>by
  obtain⟨z,gj,h7⟩:=aG.aeG i L k lx hi;have aDC:=aG.pos k;obtain⟨f1,f2⟩:=AU (q:=aH i k) (v:=z) (d:=(bS k:Int)*d) (Av (by omega) aG.d0) (by rw[<-gj,p8,nB]);have hle:=eF (arX k lx hi) CV;refine⟨eF f1 (eF h7 (E4 _ (by omega) _ hle)),eF f2 ?_⟩;rw[qI,ml];refine eF (pk (bP _) aG.BJ) (eF ?_ (E4 p aB _ hle));exact xp (by grind)
 by_cases n4:k<N
 ·exact⟨(e4 k lx n4).mono (by omega),λ_=>e4 k lx n4⟩
 refine⟨?_,λh=>absurd h n4⟩;obtain rfl:k=N:=by omega
 have hz:=aG.val i L;have fi:∀q,q<=k->2^q*(iv p bS*bZ)<=2^(k+δ):=λq bd=>E4 q bd _ CV
 -- the three parts, times d and bZ
 have js:ej (k*2^(k+δ+v)) ((aH i k-(if i<p then (u i:Rat) else 0)-bz k λm=>if p<=m then aH i m*(u m:Rat) else 0)*d*(bZ:Rat)):=by
  refine (hz.mul (ej.nat (bP bZ))).mono ?_;have:=pk (fi p aB) (bP (k*2^v));refine eF (xp ?_) (eF this (xp ?_))
  ·grind
  ·rw[xw 2 (k+δ) v];grind
 have iX:ej (2^(k+δ+v)) ((if i<p then (u i:Rat) else 0)*d*(bZ:Rat)):=by
  have hu:ej (2^v) (if i<p then (u i:Rat) else 0):=by
   split
   ·exact ej.mono (ej.int _) (aG.aeF i L)
   ·exact ej.zero
  refine ((hu.mul (ej.mono (ej.int d) aG.BJ)).mul (ej.nat (bP bZ))).mono ?_;have:=pk (fi p aB) (bP (2^v));refine eF (xp ?_) (eF this (xp ?_))
  ·grind
  ·rw[xw 2 (k+δ) v]
 have p1:ej (k*2^(k+δ+v)) ((bz k λm=>if p<=m then aH i m*(u m:Rat) else 0)*d*(bZ:Rat)):=by
  have e:(bz k λm=>if p<=m then aH i m*(u m:Rat) else 0)*(d:Rat)*(bZ:Rat)=bz k λm=>((d:Rat)*(bZ:Rat))*(if p<=m then aH i m*(u m:Rat) else 0):=by
   rw[y8];grind
  rw[e];refine ej.sum k λm hm=>?_
  by_cases nS:p<=m
  ·rw[Z nS];obtain⟨y,ao⟩:=ew m nS hm
   have aC:(d:Rat)*(bZ:Rat)*(aH i m*(u m:Rat))=(aH i m*((bS m:Rat)*d))*(y:Rat)*(u m:Rat):=by
    rw[ao,N1];grind
   rw[aC];refine (((aG.aeG i L m nS hm).mul (ej.nat (bP y))).mul (ej.mono (ej.int (u m)) (aG.aeF m hm))).mono ?_;have:=pk (fi (p+1) (by omega)) (bP (2^v));refine eF (xp ?_) (eF this (xp ?_))
   ·rw[ao];grind
   ·rw[xw 2 (k+δ) v]
  ·rw[aa nS,nA];exact ej.zero
 obtain⟨z,gj,h7⟩:=(js.add iX).add p1
 have e:aH i k*((d*(bZ:Int):Int):Rat)=(z:Rat):=by
  rw[<-gj,p8,nB];grind
 obtain⟨f1,f2⟩:=AU (Av aG.d0 (by omega)) e;refine⟨eF f1 (eF h7 ?_),eF f2 ?_⟩
 ·rw[xw 2 (k+δ+v) 4];generalize 2^(k+δ+v)=cA at *;have:k*cA<=7*cA:=Nat.mul_le_mul_right _ gH;omega
 ·rw[qI,ml];refine eF (pk aG.BJ (bP bZ)) (eF (xp ?_) (eF (fi p aB) (wQ (by omega) (by omega))));grind
theorem kZ.arY {N δ v:Nat}{A aH:ed}(dj:s3 N A δ v)(h:kZ N A aH N):∃a8:Nat,0<a8/\a8<=2^(N+δ)/\∀i,i<N->∃z:Int,aH i N*(a8:Rat)=(z:Rat):=by
 obtain⟨bS,u,d,aG⟩:=h.aeH dj (bP N)
 have⟨s,Q⟩:∃s:Int,(d.natAbs:Int)=s*d:=by
  rcases Int.natAbs_eq d with e|e
  ·exact⟨1,by omega⟩
  ·exact⟨-1,by omega⟩
 have X:=aG.d0;refine⟨d.natAbs,by omega,eF aG.BJ ?_,λi L=>?_⟩
 ·rw[xw];exact pk (bP _) aG.aeE
 ·obtain⟨z,gj,-⟩:=aG.val i L;rw[Z L,rQ λk J=>aa (by omega)] at gj;refine⟨s*(z+u i*d),?_⟩;have e:((d.natAbs:Nat):Rat)=((d.natAbs:Int):Rat):=(nB _).symm;rw[e,Q,p8,p8,xv,p8,<-gj];grind
def df (N:Nat)(x:Nat->Rat):List bU:=((dL N).map x).map aE
theorem qa (N:Nat)(x:Nat->Rat):(df N x).length=N:=by simp[df]
theorem ux {N k:Nat}(x:Nat->Rat)(h:k<N):(df N x)[k]?=some (aE (x k)):=by
 unfold df;rw[a5,a5,sb h];rfl
theorem J6 {N:Nat}{l:List bU}{x:Nat->Rat}(au:(D l)=N)(h:∀k,k<N->l[k]?=some (aE (x k))):l=df N x:=by
 apply ri;intro k;rcases hV k N with J|J
 ·rw[h k J,ux x J]
 ·rw[lL (by omega),lL (by rw[qa];omega)]
theorem Gc {N:Nat}{x y:Nat->Rat}(h:∀k,k<N->x k=y k):df N x=df N y :=
 J6 (qa N x) λk J=>by rw[ux x J,h k J]
theorem V5 {N:Nat}{x:Nat->Rat}(gH:N<=40)(h:∀k,k<N->dz (x k)):o8 (df N x):=by
 refine⟨by rw[qa];omega,λf aJ=>?_⟩
 obtain⟨k,J⟩:=tF.1 aJ;have n4:k<N:=by have:=(dK.1 J).1;rwa [qa] at this
 rw[ux x n4] at J
 cases J;exact pc (h k n4)
def aeK (N:Nat)(a8:ed)(x:Nat->Rat):Prop:=(∀y,hI N a8 (ext N y (-1))↔∀k,k<N->y k=x k)/\∀y,hI N a8 (ext N y 0)->∀k,k<N->y k=0
def A0 (N:Nat)(a8:ed):Prop:=∃y,hI N a8 (ext N y 0)/\∃k,k<N/\y k≠0
theorem arZ {N:Nat}{rows:List c6}{aH:ed}(h:vC N rows aH):rows.map (uk N)=df N (λi=>aH i N) :=
 J6 (by rw[aj];exact h.1) λk J=>by
  obtain⟨x,O,-,nC⟩:=h.row J;rw[a5,O,jo];unfold uk;rw[dY,nC.get (bP _)]
  rfl
theorem F8.aeL {N:Nat}{aH uu:ed}{rows:List c6}{p c:Nat}{dB:Nat->Nat}(h:F8 N aH uu rows p c dB){i k:Nat}(L:i<N)(J:k<=N):dz (uu i k):=by
 obtain⟨x,-,-,nC⟩:=h.enc.row L;exact nC.2 k J
theorem aeM {q:Rat}(h:dz q):o7 0 (-q)=true:=by
 unfold o7;simp only[e3]
 have E:il ((-q).num*((0:Rat).den:Int))=true:=by
  rw[aev,aeN];unfold il;rw[decide_eq_true_eq];have:=h.1;omega
 refine⟨?_,E,?_,?_⟩
 ·rw[aeO,wX];decide +kernel
 ·rw[aeO,wX,B6];exact E
 ·rw[aeN,Rat.neg_den];unfold il;rw[decide_eq_true_eq];have:=h.2;omega
theorem aeP:dz 0:=⟨by decide +kernel,by decide +kernel⟩
theorem ar0 {N f:Nat}{rows:List c6}{aH:ed}(h:vC N rows aH)(aJ:f<N):JQ rows f N f=df N (rS aH f) :=
 J6 (aqX _ _ _ _) λk J=>by
  unfold JQ;rw[a5,sb J,jo];unfold rS
  by_cases E:k<f
  ·rw[Z E,Z E];obtain⟨x,-,ex,nC⟩:=h.row (i:=k) (by omega);rw[ex,nC.cell (by omega),<-adI,MW aeP (nC.2 f (by omega)),aeM (nC.2 f (by omega))]
   rfl
  ·rw[aa E,aa E]
   by_cases H:k=f
   ·rw[Z H,Z H,aqW]
   ·rw[aa H,aa H,adI]
theorem V6 {N:Nat}{a8 aH:ed}(h:∀y,hI N aH y↔hI N a8 y):∀y z,hI N aH (ext N y z)↔hI N a8 (ext N y z):=λ_ _=>h _
theorem ar1 {rs:List eC}{n:Int}(h:ny rs n=true):
  (p3 rs n=([],6)) \/
  (∃x,p3 rs n=(df (D rs) x,0)/\Ve rs n=([],false)/\(∀k,k<(D rs)->dz (x k))/\aeK (D rs) (p9 rs) x) \/
  (∃y,p3 rs n=([],17)/\Ve rs n=(df (D rs) y,true)/\(∀k,k<(D rs)->dz (y k))/\hI (D rs) (p9 rs) (ext (D rs) y 0)/\∃k,k<D rs/\y k=1):=by
 unfold p3 Ve;rw[Z h];rcases O:p2 true rs with ⟨vE,qU,bad⟩
 cases bad
 ·right
  obtain⟨aH,p,c,dB,he,-,Q⟩:=arK true h O;rw[Z h];rcases Q rfl with ⟨rfl,rfl,rfl,jB⟩|⟨f,rfl,aJ,rfl,rfl,jB,aQ⟩
  ·left
   refine⟨λi=>aH i (D rs),?_,rfl,λk J=>he.aeL J (bP _),λy=>?_,λy ao=>?_⟩
   ·rw[aa (by simp),aa (by simp),arZ he.enc]
   ·rw[<-V6 he.F9];exact ad0 he.red jB y
   ·exact arp he.red jB y ((V6 he.F9 y 0).2 ao)
  ·right
   refine⟨rS aH c,?_,?_,λk J=>?_,?_,⟨c,aJ,by unfold rS;simp⟩⟩
   ·rw[aa (by simp),Z (by simp)]
   ·rw[aa (by simp)];exact congrArg (λl=>(l,true)) (ar0 he.enc aJ)
   ·unfold rS
    split
    ·exact ab9 (aeM (he.aeL J (by omega)))
    ·split
     ·exact⟨by decide +kernel,by decide +kernel⟩
     ·exact aeP
   ·exact (V6 he.F9 _ _).1 (ad1 he.red jB aJ aQ)
 ·left
  rw[Z rfl]
theorem aeQ (aH:ed){N p s:Nat}(aB:p<N)(Q:p<=s)(y9:s<N){i:Nat}(L:i<N):∃a6,a6<N/\g0 aH p s i=aH a6:=by
 unfold g0
 by_cases E:i=s
 ·exact⟨p,aB,by rw[Z E]⟩
 ·by_cases H:i=p
  ·exact⟨s,y9,by rw[aa E,Z H]⟩
  ·exact⟨i,L,by rw[aa E,aa H]⟩
theorem ar2 (b:Nat)(p:Prop)[Decidable p]:eI b (if p then 1 else 0):=by
 have ae:1<=2^b:=Nat.one_le_two_pow
 split
 ·exact⟨ae,ae⟩
 ·exact⟨fr _,ae⟩
theorem kZ.all {N p eJ aP:Nat}{A aH:ed}{dB:Nat->Nat}(fi:Gb N A eJ aP)(h:kZ N A aH p)(Y:p4 N aH p p dB)(jB:∀j,j<p->dB j=j)(aB:p<=N){i k:Nat}(L:i<N)(J:k<=N):eI eJ (aH i k):=by
 by_cases aeR:k<p
 ·have:=Y.unit k aeR i L;rw[jB k aeR] at this;rw[this];exact ar2 _ _
 ·exact (fi aH p aB h i k L (by omega) J).1
theorem ar3 {N p s eJ aP:Nat}{A aH:ed}{dB:Nat->Nat}(fi:Gb N A eJ aP)(h:kZ N A aH p)(Y:p4 N aH p p dB)(jB:∀j,j<p->dB j=j)(aB:p<N)(Q:p<=s)(y9:s<N)(bN:aH s p≠0)(mw:2*eJ+aP+1<1200):aej N (g0 aH p s) p p:=by
 have H:=h.step aB Q y9 bN;have bw:=Y.CH aB Q y9 bN
 have ar4:∀j,j<p+1->(if j=p then p else dB j)=j:=λj ai=>by
  split
  ·omega
  ·exact jB j (by omega)
 have ef:∀i,i<N->∀k,k<=N->eI eJ (g0 aH p s i k):=by
  intro i L k J;obtain⟨a6,E,e⟩:=aeQ aH aB Q y9 L;rw[e];exact h.all fi Y jB (by omega) E J
 have J5:∀i,i<N->eI aP (g0 aH p s i p):=by
  intro i L;obtain⟨a6,E,e⟩:=aeQ aH aB Q y9 L;rw[e];exact (fi aH p (by omega) h a6 p E (bP p) (by omega)).2 aB
 have aeS:∀k,k<=N->eI eJ (g0 aH p s p k/g0 aH p s p p):=by
  intro k J;have:=H.all fi bw ar4 (by omega) (i:=p) aB J;unfold n5 at this;rwa [Z rfl] at this
 refine⟨λk J=>aeu (ef p aB k J) (J5 p aB) (by omega),λi L _ _ k J=>?_⟩;unfold qT;rw[e3];exact⟨VX (J5 i L) (aeS k J) (by omega),AW (ef i L k J) (CT (NZ (J5 i L) (aeS k J))) (by omega)⟩
theorem ar5 {N eJ aP:Nat}{A:ed}(fi:Gb N A eJ aP)(mw:2*eJ+aP+1<1200):
  ∀k p rows aH dB,p+k=N->F8 N A aH rows p p dB->kZ N A aH p->(∀j,j<p->dB j=j)->(lv true k p rows [] false).2.2=false:=by
 intro k
 induction k with
 |zero=>intro p rows aH dB _ _ _ _;rfl
 |succ k ay =>
  intro p rows aH dB aB he X jB;unfold lv;rw[mJ,Vc];rcases aek he.enc (r:=p) (c:=p) (by omega) (by omega) with ⟨E,H,ab,aM⟩|⟨E,s,hF,ik,vF,aM,bl⟩
  ·rw[E,H,ab,Z rfl,Z rfl]
  ·have cX:=ar3 fi X he.red jB (by omega) hF ik vF mw;have ae:=bl cX;rw[E,aa (by simp),ae];refine ay (p+1) _ (n5 aH p p s) (λj=>if j=p then p else dB j) (by omega) ⟨aM ae,he.red.CH (by omega) hF ik vF,λy=>(Vh (by omega) ik vF).trans (he.F9 y)⟩ (X.step (by omega) hF ik vF) λj ai=>?_;show (if j=p then p else dB j)=j
   split
   ·omega
   ·exact jB j (by omega)
theorem ar6 {rs:List eC}{n:Int}{eJ aP:Nat}(h:ny rs n=true)(fi:Gb (D rs) (p9 rs) eJ aP)(mw:2*eJ+aP+1<1200):p3 rs n≠([],6):=by
 have O:(p2 true rs).2.2=false :=
  ar5 fi mw (D rs) 0 (g9 rs) (p9 rs) (λj=>j) (by omega) ⟨aep h,NJ _ _ _,λ_=>Iff.rfl⟩ (kZ.start _ _) λj ai=>by omega
 unfold p3;rw[Z h,aa (by rw[O];simp)]
 split
 ·simp
 ·simp
theorem ar7 {rs:List eC}{n:Int}{eJ aP:Nat}(h:ny rs n=true)(fi:Gb (D rs) (p9 rs) eJ aP)(mw:2*eJ+aP+1<1200)(Q:¬ A0 (D rs) (p9 rs)):
  ∃x,p3 rs n=(df (D rs) x,0)/\(∀k,k<(D rs)->dz (x k))/\aeK (D rs) (p9 rs) x:=by
 rcases ar1 h with e|⟨x,e,-,E,H⟩|⟨y,-,-,-,E,k,J,ao⟩
 ·exact absurd e (ar6 h fi mw)
 ·exact⟨x,e,E,H⟩
 ·exact absurd ⟨y,E,k,J,by rw[ao];decide⟩ Q
theorem kZ.full {N:Nat}{A:ed}(Q:¬ A0 N A):∀k p aH dB,p+k=N->p4 N aH p p dB->(∀y,hI N aH y↔hI N A y)->kZ N A aH p->(∀j,j<p->dB j=j)->∃aH dB,kZ N A aH N/\p4 N aH N N dB/\(∀j,j<N->dB j=j)/\∀y,hI N aH y↔hI N A y
 |0,p,aH,dB,aB,Y,a1,X,jB=>by
  obtain rfl:p=N:=by omega
  exact⟨aH,dB,X,Y,jB,a1⟩
 |k+1,p,aH,dB,aB,Y,a1,X,jB=>by
  by_cases aQ:∀i,p<=i->i<N->aH i p=0
  ·exfalso
   refine Q ⟨rS aH p,(a1 _).1 (ad1 Y jB (by omega) aQ),p,by omega,?_⟩
   unfold rS;rw[aa (by omega),Z rfl]
   decide
  ·have⟨s,hF,ik,vF⟩:∃s,p<=s/\s<N/\aH s p≠0:=by
    apply j6;intro h;exact aQ λi E H=>j6 λab=>h ⟨i,E,H,ab⟩
   refine kZ.full Q k (p+1) (n5 aH p p s) (λj=>if j=p then p else dB j) (by omega) (Y.CH (by omega) hF ik vF) (λy=>(Vh (by omega) ik vF).trans (a1 y)) (X.step (by omega) hF ik vF) λj ai=>?_;show (if j=p then p else dB j)=j
   split
   ·omega
   ·exact jB j (by omega)
theorem aeT {N δ v:Nat}{A:ed}(Q:¬ A0 N A)(dj:s3 N A δ v){x:Nat->Rat}(O:hI N A (ext N x (-1))):∃a8:Nat,0<a8/\a8<=2^(N+δ)/\∀i,i<N->∃z:Int,x i*(a8:Rat)=(z:Rat):=by
 obtain⟨aH,dB,⟨σ,E,ye,H,ab⟩,-⟩:=kZ.full Q N 0 A (λj=>j) (by omega) (NJ _ _ _) (λ_=>Iff.rfl) (kZ.start _ _) (λj ai=>by omega);refine kZ.arY (aH:=λi _=>x i) dj ⟨σ,E,ye,λi L k lx hi=>?_,ab⟩;obtain rfl:k=N:=by omega
 rw[Z L];have:=O (σ i) (E i L);rw[JY] at this;grind
theorem ar8 {N:Nat}{A:ed}(Q:¬ A0 N A):∃x,hI N A (ext N x (-1)):=by
 obtain⟨aH,dB,-,E,H,ab⟩:=kZ.full Q N 0 A (λj=>j) (by omega) (NJ _ _ _) (λ_=>Iff.rfl) (kZ.start _ _) (λj ai=>by omega);exact⟨λi=>aH i N,(ab _).1 ((ad0 E H _).2 λ_ _=>rfl)⟩
end Go.Mini
namespace Go.Mini
open Classical
def Day.W (d:Day)(f:Nat->Nat)(k i:Nat):Rat:=cm d.cZ λc=>if c.to=(i:Int)/\c.az=k/\c.rk=f k then d.w c else 0
def Day.st (d:Day)(f:Nat->Nat)(i:Nat):Rat:=d.cash i+cm d.cZ λc=>if c.to=(i:Int)/\c.rk<f c.az then c.am else 0
theorem Day.c0.aeU {d:Day}(X:d.c0)(f:Nat->Nat)(P:Nat->Prop)(x:Nat->Rat)(i:Nat):(cm d.cZ λc=>if c.to=(i:Int) then (if c.rk=f c.az/\P c.az then d.w c*x c.az else 0) else 0)=bz d.n λk=>if P k then d.W f k i*x k else 0:=by
 have e:=Vm (n:=d.n) X.az λk c=>if c.to=(i:Int) then (if c.rk=f k/\P k then d.w c*x k else 0) else 0;rw[<-e];refine jP λk J=>?_
 by_cases fP:P k
 ·rw[Z fP,uw];unfold Day.W;rw[<-NL];refine vA λc _=>?_
  by_cases E:c.az=k
  ·by_cases H:c.to=(i:Int)
   ·by_cases ab:c.rk=f k
    ·rw[Z E,Z H,Z ⟨ab,fP⟩,Z ⟨H,E,ab⟩,uw]
    ·rw[Z E,Z H,aa λh=>ab h.1,aa λh=>ab h.2.2,nA]
   ·rw[Z E,aa H,aa λh=>H h.1,nA]
  ·rw[aa E,aa λh=>E h.2.1,nA]
 ·rw[aa fP];refine FQ λc _=>?_
  split
  ·split
   ·rw[aa λh=>fP h.2]
   ·rfl
  ·rfl
theorem Day.c0.N2 {d:Day}(X:d.c0)(f:Nat->Nat)(P:Nat->Prop)(h:Nat->Rat)(i:Nat):d.eM (d.l f P h) i=d.st f i+bz d.n λk=>if P k then d.W f k i*(h k-d.U k (f k)) else 0:=by
 rw[<-X.aeU f P (λk=>h k-d.U k (f k)) i];unfold Day.eM Day.st;rw[Rat.add_assoc,<-NK]
 congr 1
 refine vA λc _=>?_;unfold Day.l
 by_cases E:c.to=(i:Int)
 ·rw[Z E,Z E]
  by_cases H:c.rk<f c.az
  ·have ab:c.to=(i:Int)/\c.rk<f c.az:=⟨E,H⟩;have aM:¬ (c.rk=f c.az/\P c.az):=λh=>by have:=h.1;omega
   rw[Z H,Z ab,aa aM,pj]
  ·have ab:¬ (c.to=(i:Int)/\c.rk<f c.az):=λh=>H h.2;rw[aa H,aa ab,AY]
   by_cases aM:c.rk=f c.az/\P c.az
   ·rw[Z aM,Z aM,aM.1]
   ·rw[aa aM,aa aM]
 ·have ab:¬ (c.to=(i:Int)/\c.rk<f c.az):=λh=>E h.1;rw[aa E,aa ab,aa E,pj]
def Day.zd (d:Day)(f:Nat->Nat)(P:Nat->Prop):ed:=λi k=>if k<d.n then (if i=k then 1 else 0)-(if P k then d.W f k i else 0) else d.st f i-bz d.n λk=>if P k then d.W f k i*d.U k (f k) else 0
theorem V7 {d:Day}(f:Nat->Nat)(P:Nat->Prop)(x:Nat->Rat)(z:Rat){i:Nat}(L:i<d.n):lY d.n (d.zd f P i) (ext d.n x z)=x i-(bz d.n λk=>if P k then d.W f k i*x k else 0)+(d.st f i-bz d.n λk=>if P k then d.W f k i*d.U k (f k) else 0)*z:=by
 rw[JY]
 congr 1
 ·have e:=xq (n:=d.n) (f:=λk=>if i=k then x k else 0) (j:=i) L λk _ J=>aa (Ne.symm J);rw[Z rfl] at e;rw[<-e,<-FR];refine jP λk J=>?_;unfold Day.zd;rw[Z J]
  split<;>split<;>grind
 ·unfold Day.zd;rw[aa (by omega)]
theorem aeV {d:Day}(X:d.c0)(f:Nat->Nat)(P:Nat->Prop)(h:Nat->Rat):hI d.n (d.zd f P) (ext d.n h (-1))↔∀i,i<d.n->h i=d.eM (d.l f P h) i:=by
 have e:∀i,(bz d.n λk=>if P k then d.W f k i*(h k-d.U k (f k)) else 0)=(bz d.n λk=>if P k then d.W f k i*h k else 0)-bz d.n λk=>if P k then d.W f k i*d.U k (f k) else 0:=λi=>by
  rw[<-FR];refine jP λk _=>?_
  split<;>grind
 unfold hI
 constructor
 ·intro dj i L;have:=dj i L;rw[V7 f P h _ L] at this;rw[X.N2,e];grind
 ·intro dj i L;have:=dj i L;rw[X.N2,e] at this;rw[V7 f P h _ L];grind
structure Good (d:Day) (f:Nat->Nat) (P:Nat->Prop):Prop where
 ok:d.c0
 inv:∃g,Inv d f g
 gQ:∀i,P i->i<d.n/\f i<10
 NP:∀C:Nat->Prop,(∃i,C i)->(∀i,C i->P i)->¬ d.closed f C
theorem Good.aeW {d:Day}{f:Nat->Nat}{P:Nat->Prop}(aX:Good d f P){x:Nat->Rat}(O:∀i,i<d.n->x i=bz d.n λk=>if P k then d.W f k i*x k else 0):∀i,i<d.n->x i=0:=by
 obtain⟨g,L⟩:=aX.inv;exact arb L aX.ok aX.gQ aX.NP x λi b9=>by rw[aX.ok.aeU f P x i];exact O i b9
theorem Good.aeX {d:Day}{f:Nat->Nat}{P:Nat->Prop}(aX:Good d f P):¬ A0 d.n (d.zd f P):=by
 rintro⟨y,ao,k,J,bN⟩;refine bN (aX.aeW (x:=y) (λi L=>?_) k J);have:=ao i L;rw[V7 f P y _ L] at this;grind
theorem Good.ex {d:Day}{f:Nat->Nat}{P:Nat->Prop}(aX:Good d f P):∃h:Nat->Rat,∀i,i<d.n->h i=d.eM (d.l f P h) i:=by
 obtain⟨x,O⟩:=ar8 aX.aeX;exact⟨x,(aeV aX.ok f P x).1 O⟩
theorem Good.uniq {d:Day}{f:Nat->Nat}{P:Nat->Prop}(aX:Good d f P){h b2:Nat->Rat}(e:∀i,i<d.n->h i=d.eM (d.l f P h) i)(e':∀i,i<d.n->b2 i=d.eM (d.l f P b2) i):∀i,i<d.n->h i=b2 i:=by
 obtain⟨g,L⟩:=aX.inv;exact ara L aX.ok aX.gQ aX.NP e e'
def Day.eN (d:Day)(f:Nat->Nat)(P:Nat->Prop):Nat->Rat:=if h:∃x:Nat->Rat,∀i,i<d.n->x i=d.eM (d.l f P x) i then yi h else λ_=>0
theorem Good.eN {d:Day}{f:Nat->Nat}{P:Nat->Prop}(aX:Good d f P):∀i,i<d.n->d.eN f P i=d.eM (d.l f P (d.eN f P)) i:=by
 have h:=aX.ex;unfold Day.eN;rw[dif_pos h];exact oX h
theorem ar9 {l:List Nat}{a k:Nat}(h:k<D l):(l++[a]).getD k 0=l.getD k 0:=by
 rw[dY,dY,re h]
theorem asa (l:List Nat)(a:Nat)(aP:Nat->Rat):bz (l++[a]).length (λk=>aP ((l++[a]).getD k 0))=bz (D l) (λk=>aP (l.getD k 0))+aP a:=by
 rw[hr,List.length_singleton,bz]
 congr 1
 ·refine jP λk J=>?_;rw[ar9 J]
 ·rw[dY,rf (bP _),mE];rfl
def cz (P:Nat->Prop)(n:Nat):List Nat:=(dL n).filter λi=>decide (P i)
theorem N3 (P:Nat->Prop)(aP:Nat->Rat):∀n,bz (cz P n).length (λk=>aP ((cz P n).getD k 0))=bz n λk=>if P k then aP k else 0
 |0=>rfl
 |n+1=>by
  have ay:=N3 P aP n;unfold cz at ay ⊢;rw[po,ze]
  by_cases fP:P n
  ·rw[xx (by simpa using fP),s5,asa,ay,bz,Z fP]
  ·rw[xy (by simpa using fP),s5,h1,ay,bz,aa fP,pj]
theorem vH {P:Nat->Prop}{n k:Nat}(h:k<(cz P n).length):(cz P n).getD k 0<n/\P ((cz P n).getD k 0):=by
 have hm:(cz P n).getD k 0∈cz P n:=by
  rw[dY,bs h];exact mD h
 unfold cz at hm ⊢;rw[FZ,hk,decide_eq_true_eq] at hm;exact hm
def Day.s6 (d:Day)(f:Nat->Nat)(p:List Nat):ed:=λi k=>if k<(D p) then (if i=k then 1 else 0)-d.W f (p.getD k 0) (p.getD i 0) else d.st f (p.getD i 0)-d.U (p.getD i 0) (f (p.getD i 0))
theorem aeY {d:Day}(f:Nat->Nat)(p:List Nat)(x:Nat->Rat)(z:Rat){i:Nat}(L:i<D p):lY (D p) (d.s6 f p i) (ext (D p) x z)=x i-(bz (D p) λk=>d.W f (p.getD k 0) (p.getD i 0)*x k)+(d.st f (p.getD i 0)-d.U (p.getD i 0) (f (p.getD i 0)))*z:=by
 rw[JY]
 congr 1
 ·have e:=xq (n:=D p) (f:=λk=>if i=k then x k else 0) (j:=i) L λk _ J=>aa (Ne.symm J);rw[Z rfl] at e;rw[<-e,<-FR];refine jP λk J=>?_;unfold Day.s6;rw[Z J]
  split<;>grind
 ·unfold Day.s6;rw[aa (by omega)]
theorem Good.small {d:Day}{f:Nat->Nat}{P:Nat->Prop}(aX:Good d f P):¬ A0 (cz P d.n).length (d.s6 f (cz P d.n)):=by
 rintro⟨y,ao,k,J,bN⟩
 have E:∀r,r<(cz P d.n).length->y r=bz (cz P d.n).length λk=>d.W f ((cz P d.n).getD k 0) ((cz P d.n).getD r 0)*y k:=λr Y=>by
  have:=ao r Y;rw[aeY f _ y _ Y] at this;grind
 have H:=aX.aeW (x:=λi=>bz (cz P d.n).length λk=>d.W f ((cz P d.n).getD k 0) i*y k) (λi L=>by
  rw[<-N3 P (λk=>d.W f k i*bz (cz P d.n).length λk'=>d.W f ((cz P d.n).getD k' 0) k*y k') d.n];exact jP λr Y=>by rw[E r Y]) ((cz P d.n).getD k 0) (vH J).1
 refine bN ?_;rw[E k J];exact H
theorem Good.aeZ {d:Day}{f:Nat->Nat}{P:Nat->Prop}(aX:Good d f P):hI (cz P d.n).length (d.s6 f (cz P d.n)) (ext (cz P d.n).length (λk=>d.eN f P ((cz P d.n).getD k 0)-d.U ((cz P d.n).getD k 0) (f ((cz P d.n).getD k 0))) (-1)):=by
 intro r Y;rw[aeY f _ _ _ Y,N3 P (λk=>d.W f k ((cz P d.n).getD r 0)*(d.eN f P k-d.U k (f k))) d.n];have:=aX.eN _ (vH Y).1;rw[aX.ok.N2] at this;grind
theorem Good.ae0 {d:Day}{f:Nat->Nat}{P:Nat->Prop}(aX:Good d f P){i:Nat}(L:i<d.n):d.eN f P i=d.st f i+bz (cz P d.n).length λk=>d.W f ((cz P d.n).getD k 0) i*(d.eN f P ((cz P d.n).getD k 0)-d.U ((cz P d.n).getD k 0) (f ((cz P d.n).getD k 0))):=by
 rw[N3 P (λk=>d.W f k i*(d.eN f P k-d.U k (f k))) d.n,<-aX.ok.N2];exact aX.eN i L
theorem ia.good {d:Day}(X:d.c0){f:Nat->Nat}{g:Nat->Rat}(L:Inv d f g){P:Nat->Prop}{h:Nat->Rat}(aB:ia d f g P h):Good d f P:=⟨X,⟨g,L⟩,aB.gQ,aB.NP⟩
theorem Good.none {d:Day}(X:d.c0){f:Nat->Nat}{g:Nat->Rat}(L:Inv d f g):Good d f λ_=>False:=⟨X,⟨g,L⟩,λ_ h=>h.elim,λ_ ⟨i,h⟩ b2=>(b2 i h).elim⟩
theorem ia.first {d:Day}(X:d.c0){f:Nat->Nat}{g:Nat->Rat}(L:Inv d f g):ia d f g (λ_=>False) (d.eN f λ_=>False):=ia.start X L (Good.none X L).eN
theorem ia.succ {d:Day}(X:d.c0){f:Nat->Nat}{g:Nat->Rat}(L:Inv d f g){P:Nat->Prop}{h:Nat->Rat}(aB:ia d f g P h):ia d f g (rR d f P h) (d.eN f (rR d f P h)):=aB.next X L (Good.eN ⟨X,⟨g,L⟩,aB.FW,aB.adS X L⟩)
def idle (d:Day)(P:Nat->Prop):Nat:=lZ d.n λi=>if P i then 0 else 1
theorem ae1 {d:Day}{f:Nat->Nat}{P:Nat->Prop}{h:Nat->Rat}{i:Nat}(L:i<d.n)(aJ:f i<10)(mW:d.U i (f i)<h i)(fP:¬ P i):idle d (rR d f P h)<idle d P:=by
 refine VD (j:=i) (λj _=>?_) L ?_
 ·by_cases ai:P j
  ·have E:rR d f P h j:=Or.inl ai;rw[Z E,Z ai];exact bP _
  ·rw[aa ai];split<;>omega
 ·have E:rR d f P h i:=Or.inr ⟨L,aJ,mW⟩;rw[Z E,aa fP];omega
theorem ia.top {d:Day}(X:d.c0){f:Nat->Nat}{g:Nat->Rat}(L:Inv d f g):∀m (P:Nat->Prop) (h:Nat->Rat),idle d P<=m->ia d f g P h->∃h,mZ d f h
 |m,P,h,hm,aB=>by
  by_cases Q:∀i,i<d.n->f i<10->d.U i (f i)<h i->P i
  ·exact⟨h,g,L,aB.stop X L Q,aB.le⟩
  ·have⟨i,E,H,ab,aM⟩:∃i,i<d.n/\f i<10/\d.U i (f i)<h i/\¬ P i:=by
    apply j6;intro aG;exact Q λi E H ab=>j6 λaM=>aG ⟨i,E,H,ab,aM⟩
   have aq:=ae1 (h:=h) E H ab aM
   cases m with
   |zero=>omega
   |succ m=>exact ia.top X L m _ _ (by omega) (aB.succ X L)
theorem asb {d:Day}(X:d.c0){f:Nat->Nat}(Y:Reach d f):∃h,mZ d f h:=by
 obtain⟨g,L,-⟩:=Y;exact ia.top X L _ _ _ (bP _) (ia.first X L)
theorem ia.ae2 {d:Day}(X:d.c0){f:Nat->Nat}{g:Nat->Rat}(L:Inv d f g){P:Nat->Prop}{h:Nat->Rat}(aB:ia d f g P h)(Q:∀i,i<d.n->f i<10->d.U i (f i)<h i->P i):∀i,i<d.n->h i=d.top f i :=
 have bJ:mZ d f h:=⟨g,L,aB.stop X L Q,aB.le⟩
 bJ.unique X (Day.CO ⟨h,bJ⟩)
end Go.Mini
namespace Go.Mini
open Classical
def eO (a8:Nat)(x:Rat):Prop:=∃z:Int,x*(a8:Rat)=(z:Rat)
theorem eO.add {a8:Nat}{x y:Rat}(O:eO a8 x)(ao:eO a8 y):eO a8 (x+y):=by
 obtain⟨a,a1⟩:=O;obtain⟨b,ae⟩:=ao;exact⟨a+b,by rw[xv,<-a1,<-ae];grind⟩
theorem eO.sub {a8:Nat}{x y:Rat}(O:eO a8 x)(ao:eO a8 y):eO a8 (x-y):=by
 obtain⟨a,a1⟩:=O;obtain⟨b,ae⟩:=ao;exact⟨a-b,by rw[sZ,<-a1,<-ae];grind⟩
theorem eO.mul {a8 N:Nat}{x y:Rat}(O:eO a8 x)(ao:eO N y):eO (a8*N) (x*y):=by
 obtain⟨a,a1⟩:=O;obtain⟨b,ae⟩:=ao;exact⟨a*b,by rw[p8,<-a1,<-ae,N1];grind⟩
theorem eO.int (a8:Nat)(z:Int):eO a8 (z:Rat):=⟨z*a8,by rw[p8,nB]⟩
theorem eO.zero (a8:Nat):eO a8 0:=⟨0,by rw[zb];rfl⟩
theorem eO.more {a8:Nat}{x:Rat}(h:eO a8 x)(N:Nat):eO (a8*N) x:=by
 obtain⟨a,a1⟩:=h;exact⟨a*N,by rw[p8,<-a1,N1,nB];grind⟩
theorem eO.of_dvd {a8 N:Nat}{x:Rat}(h:eO a8 x)(X:∃m,N=a8*m):eO N x:=by
 obtain⟨m,rfl⟩:=X;exact h.more m
theorem eO.cm {a8:Nat}{l:List dT}{aP:dT->Rat}(h:∀c∈l,eO a8 (aP c)):eO a8 (cm l aP):=by
 induction l with
 |nil=>exact eO.zero a8
 |cons c l ay=>exact (h c hv).add (ay λx O=>h x (ir _ O))
theorem eO.bz {a8 n:Nat}{aP:Nat->Rat}(h:∀k,k<n->eO a8 (aP k)):eO a8 (bz n aP):=by
 induction n with
 |zero=>exact eO.zero a8
 |succ n ay=>exact (ay λk J=>h k (by omega)).add (h n (by omega))
theorem eO.sz {a8 a e:Nat}{x:Rat}(h:eO a8 x)(mg:0<a8)(J7:a8<=2^a)(ak:0<=x)(O:x<=((2^e:Nat):Rat)):eI (a+e) x:=by
 obtain⟨z,aQ⟩:=h;have tz:(0:Rat)<=(z:Rat):=by rw[<-aQ];exact Vp ak (by exact_mod_cast fr a8)
 have asc:(z:Rat)<=((2^e*a8:Nat):Rat):=by
  rw[<-aQ,N1];exact Rat.mul_le_mul_of_nonneg_right O (by exact_mod_cast fr a8)
 have ff:0<=z:=by exact_mod_cast tz
 have cH:z<=((2^e*a8:Nat):Int):=by exact_mod_cast asc
 obtain⟨f1,f2⟩:=AU (q:=x) (v:=z) (d:=(a8:Int)) (by omega) (by rw[nB];exact aQ);rw[ml] at f2;have dc:z.natAbs<=2^e*a8:=by omega
 refine⟨eF f1 (eF dc ?_),eF f2 (eF J7 (wQ (by omega) (by omega)))⟩;rw[xw,sr (2^a)];exact Nat.mul_le_mul_left _ J7
structure fG (cash:List Int) (cs:List ar):Prop where
 right:gR cash cs=true
 ly:(D cash)<=6
 vI:(D cs)<=12
 am:∀c∈cs,c.2.2.2<=1000000000000000
theorem fG.ok {cash:List Int}{cs:List ar}(h:fG cash cs):(aA cash cs).c0:=VF h.right
theorem fG.sum {cash:List Int}{cs:List ar}(h:fG cash cs)(p:ar->Prop)[DecidablePred p]:0<=cq cs (λc=>if p c then c.2.2.2 else 0)/\cq cs (λc=>if p c then c.2.2.2 else 0)<=12000000000000000:=by
 have:=VG (cs:=cs) (aP:=λc=>if p c then c.2.2.2 else 0) (B:=1000000000000000) (by omega) λc G=>by
  have E:=h.am c G;have H:=((g1.1 h.right).2.2.2 c G).2.2.2.2.2.2.1
  try dsimp only
  split<;>omega
 have hB:=h.vI;omega
theorem fG.upto {cash:List Int}{cs:List ar}(h:fG cash cs)(i r:Int):0<=cr cs i r/\cr cs i r<=12000000000000000:=h.sum λc=>c.1=i/\c.2.2.1<r
theorem asd {cash:List Int}{cs:List ar}(h:gR cash cs=true)(i:Int){r s:Int}(zT:r<=s):cr cs i r<=cr cs i s:=by
 have aM:=(g1.1 h).2.2.2
 have:∀l:List ar,(∀c∈l,0<=c.2.2.2)->cq l (λc=>if c.1=i/\c.2.2.1<r then c.2.2.2 else 0)<=cq l (λc=>if c.1=i/\c.2.2.1<s then c.2.2.2 else 0):=by
  intro l
  induction l with
  |nil=>intro _;exact J8 _
  |cons c l ay =>
   intro au;have E:=ay λx O=>au x (ir _ O);have H:=au c hv;simp only[cq]
   split<;>split<;>omega
 exact this cs λc G=>(aM c G).2.2.2.2.2.2.1
def hS (cs:List ar)(k r:Nat):Nat:=(cr cs k (r+1:Nat)-cr cs k r).toNat
theorem CW {cash:List Int}{cs:List ar}(h:gR cash cs=true)(k r:Nat):((hS cs k r:Nat):Rat)=(aA cash cs).S k r:=by
 have E:=NT h k r;have H:=asd h k (r:=r) (s:=(r+1:Nat)) (by omega);rw[<-E,<-nB];unfold hS;rw[Int.toNat_of_nonneg (by omega)]
theorem fG.CX {cash:List Int}{cs:List ar}(h:fG cash cs)(k r:Nat):hS cs k r<=2^54:=by
 have E:=h.upto k (r+1:Nat);have H:=h.upto k r;unfold hS;omega
def oI (cs:List ar)(f:Nat->Nat)(k i:Nat):Int:=cq cs λc=>if c.2.1=(i:Int)/\c.1=(k:Int)/\c.2.2.1=(f k:Int) then c.2.2.2 else 0
theorem ase {cash:List Int}{cs:List ar}(h:gR cash cs=true)(f:Nat->Nat){k:Nat}(i:Nat)(cB:0<(aA cash cs).S k (f k)):(aA cash cs).W f k i*(aA cash cs).S k (f k)=((oI cs f k i:Int):Rat):=by
 unfold Day.W oI
 rw[NS cs _ (λc=>if c.to=(i:Int)/\c.az=k/\c.rk=f k then c.am else 0) λc G=>by
  have:=(g1.1 h).2.2.2 c G;show ((if c.2.1=(i:Int)/\c.1=(k:Int)/\c.2.2.1=(f k:Int) then c.2.2.2 else 0:Int):Rat)=if c.2.1=(i:Int)/\c.1.toNat=k/\c.2.2.1.toNat=f k then (c.2.2.2:Rat) else 0
  by_cases E:c.2.1=(i:Int)/\c.1=(k:Int)/\c.2.2.1=(f k:Int)
  ·rw[Z E,Z (by omega)]
  ·rw[aa E,aa (by omega)];rfl]
 rw[uw,<-NL];refine vA λc _=>?_
 split
 ·rename_i E;rw[uw];have aw:=E.2.1;have aC:=E.2.2;subst aw;rw[<-aC] at cB ⊢;exact Day.FU cB
 ·rw[nA]
theorem J9 {cash:List Int}{cs:List ar}(h:gR cash cs=true)(f:Nat->Nat)(i:Nat):((kG cash cs f i:Int):Rat)=(aA cash cs).st f i:=by
 unfold kG Day.st;rw[xv]
 congr 1
 refine NS cs _ (λc=>if c.to=(i:Int)/\c.rk<f c.az then c.am else 0) λc G=>?_;have:=(g1.1 h).2.2.2 c G;show ((if c.2.1=(i:Int)/\c.2.2.1<(f c.1.toNat:Int) then c.2.2.2 else 0:Int):Rat)=if c.2.1=(i:Int)/\c.2.2.1.toNat<f c.1.toNat then (c.2.2.2:Rat) else 0
 by_cases E:c.2.1=(i:Int)/\c.2.2.1<(f c.1.toNat:Int)
 ·rw[Z E,Z (by omega)]
 ·rw[aa E,aa (by omega)];rfl
theorem fG.cash {cash:List Int}{cs:List ar}(h:fG cash cs)(i:Nat):0<=cash.getD i 0/\cash.getD i 0<=1000000000000000:=by
 rw[dY]
 cases L:cash[i]? with
 |none=>simp
 |some x=>exact (g1.1 h.right).2.2.1 x (eL L)
theorem fG.steady {cash:List Int}{cs:List ar}(h:fG cash cs)(f:Nat->Nat)(i:Nat):0<=kG cash cs f i/\kG cash cs f i<=13000000000000000:=by
 have E:=h.cash i;have H:=h.sum λc=>c.2.1=(i:Int)/\c.2.2.1<(f c.1.toNat:Int);unfold kG;omega
theorem ae3 (n:Nat)(a b:Nat->Nat):ga n (λi=>a i+b i)=ga n a+ga n b:=by
 induction n with
 |zero=>rfl
 |succ n ay=>simp only[ga,ay];omega
theorem V8 {n:Nat}{a:Nat->Nat}(h:∀i,i<n->a i=0):ga n a=0:=by
 induction n with
 |zero=>rfl
 |succ n ay=>rw[ga,ay λi L=>h i (by omega),h n (by omega)]
theorem ae4 {n b e:Nat}{bS:Nat->Nat}(h:∀k,k<n->bS k<=2^b)(he:n*b<=e):iv n bS<=2^e:=eF (VR h) (wQ (by omega) he)
theorem V9 {n x:Nat}{p:Nat->Prop}[DecidablePred p](h:∀i j,p i->p j->i=j):ga n (λi=>if p i then x else 0)<=x:=by
 induction n with
 |zero=>exact fr _
 |succ n ay =>
  rw[ga]
  by_cases aB:p n
  ·rw[Z aB,V8 λi L=>aa λE=>by have:=h i n E aB;omega]
   omega
  ·rw[aa aB];omega
theorem ae5 {cs:List ar}{aP:ar->Int}(h:∀c∈cs,0<=aP c):0<=cq cs aP:=by
 induction cs with
 |nil=>exact J8 _
 |cons c l ay =>
  have E:=ay λx O=>h x (ir _ O);have H:=h c hv;simp only[cq];omega
theorem ae6 {cs:List ar}(h:∀c∈cs,0<=c.2.2.2)(f:Nat->Nat)(k i:Nat):0<=oI cs f k i:=ae5 λc G=>by
 have:=h c G
 split<;>omega
theorem asf {cs:List ar}(h:∀c∈cs,0<=c.2.2.2)(k r:Nat):hS cs k r=(cq cs λc=>if c.1=(k:Int)/\c.2.2.1=(r:Int) then c.2.2.2 else 0).toNat:=by
 unfold hS cr
 congr 1
 induction cs with
 |nil=>rfl
 |cons c l ay =>
  have E:=ay λx O=>h x (ir _ O);simp only[cq]
  have e:(if c.1=(k:Int)/\c.2.2.1<((r+1:Nat):Int) then c.2.2.2 else 0)-(if c.1=(k:Int)/\c.2.2.1<(r:Int) then c.2.2.2 else 0)=if c.1=(k:Int)/\c.2.2.1=(r:Int) then c.2.2.2 else 0:=by
   (repeat' split)<;>omega
  omega
theorem asg {cs:List ar}(h:∀c∈cs,0<=c.2.2.2)(f:Nat->Nat)(k N:Nat):ga N (λi=>(oI cs f k i).toNat)<=hS cs k (f k):=by
 rw[asf h]
 induction cs with
 |nil=>exact eF (xp (V8 λi _=>rfl)) (fr _)
 |cons c l ay =>
  have au:=λx O=>h x (ir c O);have E:=ay au;have H:=h c hv
  have e:ga N (λi=>(oI (c::l) f k i).toNat)=ga N (λi=>if c.2.1=(i:Int)/\c.1=(k:Int)/\c.2.2.1=(f k:Int) then c.2.2.2.toNat else 0)+ga N λi=>(oI l f k i).toNat:=by
   rw[<-ae3];refine VN λi _=>?_;have:=ae6 au f k i;have aw:oI (c::l) f k i=(if c.2.1=(i:Int)/\c.1=(k:Int)/\c.2.2.1=(f k:Int) then c.2.2.2 else 0)+oI l f k i:=rfl;rw[aw]
   split<;>omega
  have aM:0<=cq l λc=>if c.1=(k:Int)/\c.2.2.1=(f k:Int) then c.2.2.2 else 0:=ae5 λc G=>by
   have:=au c G
   split<;>omega
  have ab:ga N (λi=>if c.2.1=(i:Int)/\c.1=(k:Int)/\c.2.2.1=(f k:Int) then c.2.2.2.toNat else 0)<=if c.1=(k:Int)/\c.2.2.1=(f k:Int) then c.2.2.2.toNat else 0:=by
   by_cases G:c.1=(k:Int)/\c.2.2.1=(f k:Int)
   ·rw[Z G];exact V9 λi j L ai=>by omega
   ·rw[aa G,V8 λi _=>aa λh=>G h.2];exact bP _
  simp only[cq];rw[e]
  split at ab<;>rename_i G
  ·rw[Z G];omega
  ·rw[aa G];omega
section
variable {cash:List Int} {cs:List ar} (Q:fG cash cs) {f:Nat->Nat} {P:Nat->Prop} (cB:∀k,P k->0<(aA cash cs).S k (f k))
include Q cB
theorem N4 {k:Nat}(J:P k):0<hS cs k (f k):=by
 have E:=cB k J;rw[<-CW Q.right] at E;exact_mod_cast E
theorem ae7 {k:Nat}(J:P k)(i:Nat):((hS cs k (f k):Nat):Rat)*(aA cash cs).W f k i=((oI cs f k i:Int):Rat):=by
 rw[CW Q.right,uw];exact ase Q.right f i (cB k J)
theorem ae8 {k:Nat}(J:P k)(i:Nat)(p:Prop)[Decidable p]:ej ((if p then hS cs k (f k) else 0)+(oI cs f k i).toNat) (((hS cs k (f k):Nat):Rat)*((if p then 1 else 0)-(aA cash cs).W f k i)):=by
 have e:((hS cs k (f k):Nat):Rat)*((if p then 1 else 0)-(aA cash cs).W f k i)=((if p then hS cs k (f k) else 0:Nat):Rat)-((oI cs f k i:Int):Rat):=by
  rw[<-ae7 Q cB J i]
  split<;>grind
 have H:=ae6 (λc G=>((g1.1 Q.right).2.2.2 c G).2.2.2.2.2.2.1) f k i;rw[e];exact (ej.nat (bP _)).sub (ej.of (by omega))
omit cB in
theorem ae9 {N:Nat}{k:Nat}(τ:Nat->Nat)(t:Nat)(hτ:∀i,i<N->τ i<D cash)(ai:∀i j,i<N->j<N->τ i=τ j->i=j):ga N (λi=>(if i=t then hS cs k (f k) else 0)+(oI cs f k (τ i)).toNat)<=2*hS cs k (f k):=by
 rw[ae3];have E:ga N (λi=>if i=t then hS cs k (f k) else 0)<=hS cs k (f k):=V9 λi j L ai=>by omega
 have H:=VO (λi=>(oI cs f k i).toNat) hτ ai;have ab:=asg (λc G=>((g1.1 Q.right).2.2.2 c G).2.2.2.2.2.2.1) f k (D cash);omega
omit cB in
theorem afa (i:Nat):(kG cash cs f i-cr cs (i:Nat) (f i)).natAbs<=2^54/\(kG cash cs f i).natAbs<=2^54:=by
 have E:=Q.steady f i;have H:=Q.upto (i:Nat) (f i);omega
theorem ash:s3 (D cash) ((aA cash cs).zd f P) (D cash*54) 54:=by
 have lh:(aA cash cs).n=D cash:=rfl;refine⟨λk=>if P k then hS cs k (f k) else 1,λk=>if P k then cr cs k (f k) else 0,λi=>kG cash cs f i-if P i then cr cs i (f i) else 0,VR λk _=>?_,λk=>?_,λk J=>?_,λk _=>?_,λi L=>⟨?_,?_⟩⟩
 ·try dsimp only
  split
  ·exact Q.CX k _
  ·decide
 ·try dsimp only
  split
  ·exact N4 Q cB (by assumption)
  ·omega
 ·by_cases fP:P k
  ·refine⟨λi=>(if i=k then hS cs k (f k) else 0)+(oI cs f k i).toNat,by dsimp only;rw[Z fP];exact ae9 Q (λi=>i) k (λi L=>L) λi j _ _ h=>h,λi L=>?_⟩
   unfold Day.zd;dsimp only;rw[Z fP,Z (show k<(aA cash cs).n from J),Z fP];exact ae8 Q cB fP i _
  ·refine⟨λi=>if i=k then 1 else 0,by dsimp only;rw[aa fP];exact eF (V9 λi j L ai=>by omega) (by omega),λi L=>?_⟩
   unfold Day.zd;dsimp only;rw[aa fP,Z (show k<(aA cash cs).n from J),aa fP];have:(((1:Nat):Rat)*((if i=k then 1 else 0)-0))=((if i=k then 1 else 0:Nat):Rat):=by split<;>simp<;>grind
   rw[this];exact ej.nat (bP _)
 ·try dsimp only
  split
  ·have:=Q.upto (k:Nat) (f k);omega
  ·decide
 ·have:=afa Q (f:=f) i;dsimp only
  split
  ·exact this.1
  ·rw[Int.sub_zero];exact this.2
 ·unfold Day.zd;rw[aa (by rw[lh];omega),lh]
  have aw:(λk=>(if k<(D cash) then (if i=k then 1 else 0)-(if P k then (aA cash cs).W f k i else 0) else (aA cash cs).st f i-bz (D cash) λk=>if P k then (aA cash cs).W f k i*(aA cash cs).U k (f k) else 0)*((if P k then cr cs k (f k) else 0:Int):Rat))=λk=>(if k<(D cash) then (if i=k then ((if P k then cr cs k (f k) else 0:Int):Rat) else 0)-(if P k then (aA cash cs).W f k i*(aA cash cs).U k (f k) else 0) else ((aA cash cs).st f i-bz (D cash) λk=>if P k then (aA cash cs).W f k i*(aA cash cs).U k (f k) else 0)*((if P k then cr cs k (f k) else 0:Int):Rat)):=by
   funext k
   by_cases E:k<D cash
   ·rw[Z E,Z E]
    by_cases H:P k
    ·rw[Z H,Z H,Z H,<-sY Q.right k (f k)]
     split<;>grind
    ·rw[aa H,aa H,aa H]
     split<;>simp<;>grind
   ·rw[aa E,aa E]
  rw[aw];rw[jP (g:=λk=>(if i=k then ((if P k then cr cs k (f k) else 0:Int):Rat) else 0)-(if P k then (aA cash cs).W f k i*(aA cash cs).U k (f k) else 0)) λk J=>Z J];rw[FR,xq L λk _ J=>aa (Ne.symm J),Z rfl,sZ,J9 Q.right];grind
theorem Wa (p:List Nat)(aB:∀k,k<(D p)->P (p.getD k 0)/\p.getD k 0<D cash)(ai:∀i j,i<(D p)->j<(D p)->p.getD i 0=p.getD j 0->i=j):s3 (D p) ((aA cash cs).s6 f p) (D p*54) 54:=by
 refine⟨λk=>if k<(D p) then hS cs (p.getD k 0) (f (p.getD k 0)) else 1,λ_=>0,λi=>kG cash cs f (p.getD i 0)-cr cs (p.getD i 0:Nat) (f (p.getD i 0)),VR λk J=>?_,λk=>?_,λk J=>?_,λk _=>fr _,λi L=>⟨?_,?_⟩⟩
 ·try dsimp only
  rw[Z J];exact Q.CX _ _
 ·try dsimp only
  split
  ·exact N4 Q cB (aB k (by assumption)).1
  ·omega
 ·refine⟨λi=>(if i=k then hS cs (p.getD k 0) (f (p.getD k 0)) else 0)+(oI cs f (p.getD k 0) (p.getD i 0)).toNat,by dsimp only;rw[Z J];exact ae9 Q (λi=>p.getD i 0) k (λi L=>(aB i L).2) ai,λi L=>?_⟩
  unfold Day.s6;dsimp only;rw[Z J,Z J];exact ae8 Q cB (aB k J).1 _ _
 ·exact (afa Q _).1
 ·unfold Day.s6;rw[aa (by omega),rQ λk _=>by rw[show ((0:Int):Rat)=0 from rfl,nA],AY,sZ,J9 Q.right,sY Q.right]
end
end Go.Mini
namespace Go.Mini
open Go Classical
theorem k1 {b:Nat}{q:Rat}(h:eI b q)(ae:b<1200):dz q:=by
 obtain⟨B,fi,fQ⟩:=aer;have:2^b<dI:=by rw[fQ];exact aes (by omega) (by omega)
 exact⟨sD h.1 this,sD h.2 this⟩
def rowsOf (N:Nat)(A:ed):List eC:=(dL N).map λi=>(df N (A i),aE (A i N))
theorem A1 (N:Nat)(A:ed):(rowsOf N A).length=N:=by simp[rowsOf]
theorem afb {N i:Nat}(A:ed)(h:i<N):(rowsOf N A)[i]?=some (df N (A i),aE (A i N)):=by
 unfold rowsOf;rw[a5,sb h];rfl
theorem asi {N i k:Nat}(A:ed)(L:i<N)(J:k<=N):p9 (rowsOf N A) i k=A i k:=by
 unfold p9;rw[aeo (afb A L),A1]
 by_cases h:k<N
 ·rw[Z h,dY,ux _ h,Option.getD_some,Cl]
 ·rw[aa h,Cl,show k=N by omega]
theorem N5 {x:Rat}(h:dz x):eX (aE x)=true:=(Ja _).2 ⟨x,h,rfl⟩
theorem asj {N:Nat}{A:ed}(gH:N<=40)(au:∀i,i<N->∀k,k<=N->dz (A i k)):ny (rowsOf N A) N=true:=by
 unfold ny
 have ab:(rowsOf N A).any (n3 N)=false:=by
  rw[FK];intro r Y;obtain⟨i,L,rfl⟩:=fO.1 Y;have L:=hk.1 L;unfold n3 Cx;simp only[qa,beq_self_eq_true,hP,N5 (au i L N (bP _))]
  have:(df N (A i)).any (λf => !eX f)=false:=by
   rw[FK];intro f aJ;unfold df at aJ;obtain⟨x,O,rfl⟩:=fO.1 aJ;obtain⟨k,J,rfl⟩:=fO.1 O;rw[N5 (au i L k (by have:=hk.1 J;omega))]
   decide
  rw[this];decide
 rw[ab,A1];simp only[e3,pZ,decide_eq_false_iff_not,beq_self_eq_true,Bool.not_false,and_true];omega
theorem asl {N:Nat}{A:ed}(gH:N<=40)(au:∀i,i<N->∀k,k<=N->dz (A i k)):qO (rowsOf N A):=by
 refine⟨by rw[A1];omega,λr Y=>?_⟩
 obtain⟨i,L,rfl⟩:=fO.1 Y;have L:=hk.1 L;exact⟨V5 gH λk J=>au i L k (by omega),pc (au i L N (bP _))⟩
theorem afc {N:Nat}{a b y:Nat->Rat}(h:∀k,k<=N->a k=b k):lY N a y=lY N b y:=jP λk J=>by rw[h k (by omega)]
theorem hI.congr {N:Nat}{A B:ed}(h:∀i,i<N->∀k,k<=N->A i k=B i k)(y:Nat->Rat):hI N A y↔hI N B y:=by
 unfold hI
 constructor
 ·intro dj i L;rw[<-afc (h i L)];exact dj i L
 ·intro dj i L;rw[afc (h i L)];exact dj i L
theorem s3.congr {N δ v:Nat}{A B:ed}(h:∀i,i<N->∀k,k<=N->A i k=B i k)(Q:s3 N A δ v):s3 N B δ v:=by
 obtain⟨bS,u,w,db,dH,fk,fM,n6⟩:=Q;refine⟨bS,u,w,db,dH,λk J=>?_,fM,λi L=>⟨(n6 i L).1,?_⟩⟩
 ·obtain⟨b,dP,gV⟩:=fk k J;exact⟨b,dP,λi L=>by rw[<-h i L k (by omega)];exact gV i L⟩
 ·rw[<-h i L N (bP _),(n6 i L).2,jP λk J=>by rw[h i L k (by omega)]]
theorem s3.sz {N δ v:Nat}{A:ed}(Q:s3 N A δ v)(gH:N<=7){i k:Nat}(L:i<N)(J:k<=N):eI (N+δ+v+4) (A i k):=(Q.aeJ gH A 0 (fr _) (kZ.start N A) i k L (fr _) J).1
theorem asm {N:Nat}{A:ed}(gH:N<=6)(Q:s3 N A (N*54) 54)(asn:¬ A0 N A){x:Nat->Rat}(O:hI N A (ext N x (-1))):
  p3 (rowsOf N A) N=(df N x,0)/\ny (rowsOf N A) N=true/\∀k,k<N->dz (x k):=by
 have au:∀i,i<N->∀k,k<=N->dz (A i k):=λi L k J=>k1 (Q.sz (by omega) L J) (by omega);have Y:=asj (by omega) au;have G:∀i,i<N->∀k,k<=N->A i k=p9 (rowsOf N A) i k:=λi L k J=>(asi A L J).symm;have iz:=(Q.congr G).aeJ (by omega)
 have aso:¬ A0 N (p9 (rowsOf N A)):=by
  rintro⟨y,ao,h⟩;exact asn ⟨y,(hI.congr G _).2 ao,h⟩
 obtain⟨y,aw,aC,cx⟩:=ar7 (rs:=rowsOf N A) (n:=N) (eJ:=N+N*54+54+4) (aP:=N+N*54) Y (by rw[A1];exact iz) (by omega) (by rw[A1];exact aso);rw[A1] at aw aC cx;have mP:∀k,k<N->x k=y k:=λk J=>(cx.1 x).1 ((hI.congr G _).1 O) k J;exact⟨by rw[aw,Gc λk J=>(mP k J).symm],Y,λk J=>by rw[mP k J];exact aC k J⟩
theorem Wb {P:Nat->Prop}{n i j:Nat}(L:i<(cz P n).length)(ai:j<(cz P n).length)(h:(cz P n).getD i 0=(cz P n).getD j 0):i=j:=by
 have aG:(cz P n).Pairwise (·≠·):=List.Pairwise.filter _ adw;rw[List.pairwise_iff_getElem] at aG;rw[dY,dY,bs L,bs ai] at h;rcases Nat.lt_trichotomy i j with E|E|E
 ·exact absurd h (aG i j L ai E)
 ·exact E
 ·exact absurd h.symm (aG j i ai L E)
structure rT (d:Day) (f:Nat->Nat) (P:Nat->Prop):Prop where
 ok:d.c0
 ex:∃g,Inv d f g/\ia d f g P (d.eN f P)
theorem rT.good {d:Day}{f:Nat->Nat}{P:Nat->Prop}(h:rT d f P):Good d f P:=by
 obtain⟨E,g,H,ab⟩:=h;exact ab.good E H
theorem rT.qS {d:Day}{f:Nat->Nat}{P:Nat->Prop}(h:rT d f P):∀k,P k->0<d.S k (f k):=by
 obtain⟨E,g,H,ab⟩:=h;exact λk J=>H.qS (ab.gQ k J).1 (ab.gQ k J).2
theorem rT.gt {d:Day}{f:Nat->Nat}{P:Nat->Prop}(h:rT d f P):∀k,P k->d.U k (f k)<d.eN f P k:=by
 obtain⟨E,g,H,ab⟩:=h;exact ab.ge
theorem ia.afd {d:Day}(X:d.c0){f:Nat->Nat}{g:Nat->Rat}{P:Nat->Prop}{h:Nat->Rat}(L:Inv d f g)(aB:ia d f g P h){c:dT}(G:c∈d.cZ):0<=d.l f P h c/\d.l f P h c<=c.am:=by
 have ak:=X.am c G
 by_cases E:c.rk<f c.az
 ·rw[Day.adP E];exact⟨ak,fA⟩
 ·by_cases H:c.rk=f c.az/\P c.az
  ·rw[Day.adQ H.1 H.2];have aw:=aB.ge _ H.2;have aC:=aB.le _ (X.az c G);have cx:=L.L _ (X.az c G) (aB.gQ _ H.2).2;rw[d.xt] at cx;rw[H.1];exact⟨sW (X.p6 G) (by grind),X.NQ G (by rw[H.1];grind)⟩
  ·rw[Day.Vs E H];exact⟨fA,ak⟩
theorem rT.range {d:Day}{f:Nat->Nat}{P:Nat->Prop}(h:rT d f P){i:Nat}(L:i<d.n):0<=d.eN f P i/\d.eN f P i<=d.eM (λc=>c.am) i:=by
 obtain⟨E,g,H,ab⟩:=h;rw[ab.sys i L];exact⟨E.Vv (λc G=>(ab.afd E H G).1) L,d.CN (λc G=>(ab.afd E H G).2) i⟩
theorem asp {cash:List Int}{cs:List ar}(Q:fG cash cs)(i:Nat):(aA cash cs).eM (λc=>c.am) i<=((2^54:Nat):Rat):=by
 have e:(aA cash cs).eM (λc=>c.am) i=((cash.getD i 0+cq cs (λc=>if c.2.1=(i:Int) then c.2.2.2 else 0):Int):Rat):=by
  unfold Day.eM;rw[xv]
  congr 1
  refine (NS cs _ (λc=>if c.to=(i:Int) then c.am else 0) λc G=>?_).symm;show ((if c.2.1=(i:Int) then c.2.2.2 else 0:Int):Rat)=if c.2.1=(i:Int) then (c.2.2.2:Rat) else 0
  split<;>rfl
 rw[e];have E:=Q.cash i;have H:=Q.sum λc=>c.2.1=(i:Int)
 have:cash.getD i 0+cq cs (λc=>if c.2.1=(i:Int) then c.2.2.2 else 0)<=((2^54:Nat):Int):=by omega
 rw[<-nB];exact_mod_cast this
theorem Day.c0.asq {d:Day}(X:d.c0)(f:Nat->Nat)(k i:Nat):0<=d.W f k i:=xr λc G=>by
 split
 ·exact X.p6 G
 ·exact fA
theorem asr {n t:Nat}{T:Nat->Rat}(h:∀k,k<n->0<=T k)(bJ:t<=n):bz t T<=bz n T:=by
 induction n with
 |zero=>rw[show t=0 by omega];exact fA
 |succ n ay =>
  by_cases afe:t=n+1
  ·rw[afe];exact fA
  ·have E:=ay (λk J=>h k (by omega)) (by omega);have H:=h n (by omega);rw[bz];grind
theorem ass {N t a8 a e:Nat}{s:Rat}{T:Nat->Rat}(mg:0<a8)(J7:a8<=2^a)(pV:0<=s)(HO:eO a8 s)(Wc:∀k,k<N->0<=T k)(aff:∀k,k<N->eO a8 (T k))(O:s+bz N T<=((2^e:Nat):Rat))(bJ:t<=N):eI (a+e) (s+bz t T)/\∀k,k<N->eI (a+e) (T k):=by
 have E:∀t,t<=N->0<=bz t T/\bz t T<=bz N T:=λt bJ=>⟨adK λk J=>Wc k (by omega),asr Wc bJ⟩;refine⟨(HO.add (eO.bz λk J=>aff k (by omega))).sz mg J7 (by have:=(E t bJ).1;grind) (by have:=(E t bJ).2;grind),λk J=>(aff k J).sz mg J7 (Wc k J) ?_⟩;have H:=(E k (by omega)).1;have ab:=(E (k+1) (by omega)).2;rw[bz] at ab;grind
section
variable {cash:List Int} {cs:List ar} (Q:fG cash cs) {f:Nat->Nat} {P:Nat->Prop} (aB:rT (aA cash cs) f P)
include Q aB
theorem N6 {i:Nat}(L:i<D cash):0<=(aA cash cs).eN f P i/\(aA cash cs).eN f P i<=((2^54:Nat):Rat):=by
 have h:=aB.range (d:=aA cash cs) L;exact⟨h.1,uq h.2 (asp Q i)⟩
theorem afg:∃a8:Nat,0<a8/\(∃a,a<=330/\a8<=2^a)/\∀i,i<(D cash)->eO a8 ((aA cash cs).eN f P i):=by
 obtain⟨a8,E,H,ab⟩:=aeT (N:=D cash) aB.good.aeX (ash Q aB.qS) ((aeV aB.ok f P _).2 aB.good.eN);have aG:=Q.ly;exact⟨a8,E,⟨_,by omega,H⟩,ab⟩
theorem afh {i:Nat}(L:i<D cash):eI 428 ((aA cash cs).eN f P i):=by
 obtain⟨a8,E,⟨a,ak,H⟩,ab⟩:=afg Q aB;have aM:=N6 Q aB L;exact ((ab i L).sz E H aM.1 aM.2).mono (by omega)
theorem ast:p3 (rowsOf (cz P (D cash)).length ((aA cash cs).s6 f (cz P (D cash)))) (cz P (D cash)).length=(df (cz P (D cash)).length (λk=>(aA cash cs).eN f P ((cz P (D cash)).getD k 0)-(aA cash cs).U ((cz P (D cash)).getD k 0) (f ((cz P (D cash)).getD k 0))),0)/\ny (rowsOf (cz P (D cash)).length ((aA cash cs).s6 f (cz P (D cash)))) (cz P (D cash)).length=true:=by
 have hlen:(cz P (D cash)).length<=6:=by
  have:=rU (λi=>decide (P i)) (dL (D cash));rw[rm] at this;have:=Q.ly;unfold cz;omega
 have:=asm hlen (Wa Q aB.qS _ (λk J=>⟨(vH J).2,(vH J).1⟩) λi j L ai=>Wb L ai) aB.good.small aB.good.aeZ;exact⟨this.1,this.2.1⟩
theorem asu:∃a8:Nat,0<a8/\(∃a,a<=330/\a8<=2^a)/\∀k,k<(cz P (D cash)).length->eO a8 ((aA cash cs).eN f P ((cz P (D cash)).getD k 0)-(aA cash cs).U ((cz P (D cash)).getD k 0) (f ((cz P (D cash)).getD k 0))):=by
 have hlen:(cz P (D cash)).length<=6:=by
  have:=rU (λi=>decide (P i)) (dL (D cash));rw[rm] at this;have:=Q.ly;unfold cz;omega
 have AZ:cz P (aA cash cs).n=cz P (D cash):=rfl;have afi:=aB.good.aeZ;have N7:=aB.good.small;rw[AZ] at afi N7;obtain⟨a8,E,H,ab⟩:=aeT N7 (Wa Q aB.qS _ (λk J=>⟨(vH J).2,(vH J).1⟩) λi j L ai=>Wb L ai) afi;exact⟨a8,E,⟨_,by omega,H⟩,ab⟩
theorem N8 {k:Nat}(J:P k)(i:Nat):eI 54 ((aA cash cs).W f k i)/\eO (hS cs k (f k)) ((aA cash cs).W f k i):=by
 have e:=ae7 Q aB.qS J i;have ak:=N4 Q aB.qS J;have E:=Q.CX k (f k);have H:=Q.sum λc=>c.2.1=(i:Int)/\c.1=(k:Int)/\c.2.2.1=(f k:Int)
 obtain⟨f1,f2⟩:=AU (q:=(aA cash cs).W f k i) (v:=oI cs f k i) (d:=(hS cs k (f k):Int)) (by omega) (by rw[<-e,nB,uw]);rw[ml] at f2;refine⟨⟨eF f1 (by unfold oI;omega),eF f2 (by omega)⟩,oI cs f k i,by rw[<-e,uw]⟩
theorem asv {i t:Nat}(L:i<D cash)(bJ:t<=(cz P (D cash)).length):
  eI 708 ((aA cash cs).st f i+bz t λk=>(aA cash cs).W f ((cz P (D cash)).getD k 0) i*((aA cash cs).eN f P ((cz P (D cash)).getD k 0)-(aA cash cs).U ((cz P (D cash)).getD k 0) (f ((cz P (D cash)).getD k 0)))) /\
  (∀k,k<(cz P (D cash)).length->eI 438 ((aA cash cs).W f ((cz P (D cash)).getD k 0) i*((aA cash cs).eN f P ((cz P (D cash)).getD k 0)-(aA cash cs).U ((cz P (D cash)).getD k 0) (f ((cz P (D cash)).getD k 0))))) /\
  ∀k,k<(cz P (D cash)).length->eI 384 ((aA cash cs).eN f P ((cz P (D cash)).getD k 0)-(aA cash cs).U ((cz P (D cash)).getD k 0) (f ((cz P (D cash)).getD k 0))):=by
 have hlen:(cz P (D cash)).length<=6:=by
  have:=rU (λi=>decide (P i)) (dL (D cash));rw[rm] at this;have:=Q.ly;unfold cz;omega
 obtain⟨a8,dG,⟨a,kP,cn⟩,ns⟩:=asu Q aB;have fH:∀k,k<(cz P (D cash)).length->(cz P (D cash)).getD k 0<D cash/\P ((cz P (D cash)).getD k 0):=λk J=>vH J;have N9:=aB.good.ae0 (d:=aA cash cs) L;have AZ:cz P (aA cash cs).n=cz P (D cash):=rfl;rw[AZ] at N9;generalize aDD:cz P (D cash)=p at *
 have afj:∀k,k<(D p)->0<=(aA cash cs).eN f P (p.getD k 0)-(aA cash cs).U (p.getD k 0) (f (p.getD k 0)):=λk J=>by
  have:=aB.gt _ (fH k J).2;grind
 have asw:∀k,k<(D p)->(aA cash cs).eN f P (p.getD k 0)-(aA cash cs).U (p.getD k 0) (f (p.getD k 0))<=((2^54:Nat):Rat):=λk J=>by
  have E:=(N6 Q aB (fH k J).1).2;have H:=aB.ok.aq3 (p.getD k 0) (f (p.getD k 0));grind
 have asx:0<iv (D p) λk=>hS cs (p.getD k 0) (f (p.getD k 0)):=ad6 λk J=>N4 Q aB.qS (fH k J).2;obtain⟨eJ,iA⟩:∃eJ,eJ=324:=⟨_,rfl⟩;have nP:(iv (D p) λk=>hS cs (p.getD k 0) (f (p.getD k 0)))<=2^eJ:=ae4 (e:=eJ) (λk _=>Q.CX _ _) (by omega);have ey:=J9 Q.right f i;have Oa:=Q.steady f i;have Wd:0<=(aA cash cs).st f i:=by rw[<-ey];exact_mod_cast Oa.1
 have Y:=(N6 Q aB L).2;rw[N9] at Y
 have asy:(iv (D p) λk=>hS cs (p.getD k 0) (f (p.getD k 0)))*a8<=2^(eJ+a):=by
  rw[xw];exact pk nP cn
 have asz:=ass (T:=λk=>(aA cash cs).W f (p.getD k 0) i*((aA cash cs).eN f P (p.getD k 0)-(aA cash cs).U (p.getD k 0) (f (p.getD k 0)))) (VQ asx dG) asy Wd (by rw[<-ey];exact eO.int _ _) (λk J=>sW (aB.ok.asq f _ _) (afj k J)) (λk J=>((N8 Q aB (fH k J).2 i).2.of_dvd (ad7 (bS:=λk=>hS cs (p.getD k 0) (f (p.getD k 0))) J)).mul (ns k J)) Y bJ;have hex:∀k,k<(D p)->eI 384 ((aA cash cs).eN f P (p.getD k 0)-(aA cash cs).U (p.getD k 0) (f (p.getD k 0))):=λk J=>((ns k J).sz dG cn (afj k J) (asw k J)).mono (by omega);exact⟨asz.1.mono (by omega),λk J=>(NZ (N8 Q aB (fH k J).2 i).1 (hex k J)).mono (by omega),hex⟩
end
end Go.Mini
namespace Go.Mini
open Go

def We:b1:=cu 46 1 [.t 2] (R [c5 2 false] (.seq (R [F 5 0,cp 6 5,bt 7 0] (.block 0 (.loop  (R [bB 8 .lss 7 6] (.seq (a4 8 .skip (.exit 0)) (.seq (.block 1 (R [bM 9 4 5 7,bm 10 4 9,(ax 4 (.alloc 240004 [(ag 0),(ag 0),(ag 0),(ag 0)])),bb 4 4 10] (fc [aT 11 0 4,aK 12 1 11,(ax 13 (.call Ev [(.t 12),(.c (ag 0)),(.c (ag 59))])),gi 14 13,F 15 14,⟨some 16,some (15,false),.et 1 (.t 4)⟩,⟨some 17,some (15,false),.load 1 false (.t 16)⟩,⟨some 18,some (15,false),.call Ev [(.t 17),(.c (.I (.int .i64 (-1)))),(.c (ag 59))]⟩,⟨some 19,some (15,false),.un .not (.t 18)⟩,dn 20 15 19,F 21 20,⟨some 22,some (21,false),.et 2 (.t 4)⟩,⟨some 23,some (21,false),.load 1 false (.t 22)⟩,⟨some 24,some (21,false),.call Ev [(.t 23),(.c (ag 0)),(.c (ag 9))]⟩,⟨some 25,some (21,false),.un .not (.t 24)⟩,dn 26 21 25,F 27 26,⟨some 28,some (27,false),.et 3 (.t 4)⟩,⟨some 29,some (27,false),.load 1 false (.t 28)⟩,⟨some 30,some (27,false),.call Ev [(.t 29),(.c (ag 0)),(.c (ag 1000000000000000))]⟩,⟨some 31,some (27,false),.un .not (.t 30)⟩,dn 32 27 31,F 33 32,⟨some 34,some (33,false),.et 0 (.t 4)⟩,⟨some 35,some (33,false),.load 1 false (.t 34)⟩,⟨some 36,some (33,false),.b3 (.t 0)⟩,⟨some 37,some (33,false),.jj 4 (.t 36) (.c (ag 0))⟩,⟨some 38,some (33,false),.et 0 (.t 37)⟩,⟨some 39,some (33,false),.load 1 false (.t 38)⟩,⟨some 40,some (33,false),.bin .neq (.t 35) (.t 39)⟩,dn 41 33 40] [[],[],[],[],[],[],[],[],[],[],[],[],[],[],[],[],[],[],[],[],[],[],[],[],[],[],[],[],[],[],[]] (a4 41 (R [c5 2 false] .ret) .skip)))) (.ops [bc 42 .add 7 1,F 7 42]))))))) (R [F 43 0,cp 44 43,bc 45 .leq 44 2000,F 2 45] .ret)))
def Wf:b1:=cu 11 1 [.cell 2 4 true] (R [(ax 2 (.alloc 241002 [(ag 0),.nil,(ag 0),.nil]))] (R [F 6 0,(ax 7 (.call BP [(.t 6),(.c (ag 1))])),F 5 7,br 8 0 5,br 9 1 5,(ax 3 (.alloc 241003 [(ag 0),.nil,(ag 0),.nil])),bb 4 3 8,F 4 9] (R [bm 10 4 3,bb 4 2 10] .ret)))
def CY:b1:=cu 118 2 [.t 4,.t 5] (R [dM 2 249002 0,eH 4,bt 5 0] (.seq (fc [bm 19 4 2,(dN 20 nm 19),gi 21 20,F 22 21,⟨some 23,some (22,false),.load 4 true (.t 2)⟩,⟨some 24,some (22,false),.call wH [(.c (ag 0))]⟩,⟨some 25,some (22,false),.call nn [(.t 23),(.t 24)]⟩,⟨some 26,some (22,false),.bin .lss (.t 25) (.c (ag 0))⟩,dn 27 22 26,F 28 27,⟨some 29,some (28,false),.b3 (.t 1)⟩,⟨some 30,some (28,false),.call Rq [(.t 29)]⟩,⟨some 31,some (28,false),.un .not (.t 30)⟩,dn 32 28 31] Iz (a4 32 (R [eH 4,bt 5 1] .ret) .skip)) (R [F 33 1,cp 34 33,(ax 35 (.lF 249035 [(ag 0),.nil,(ag 0),.nil] 64 (.t 34) (.t 34))),F 6 35] (R [bm 36 4 2,(ax 7 (.alloc 249007 [(ag 0),.nil,(ag 0),.nil])),bb 4 7 36] (.seq (R [bt 37 0] (.block 0 (.loop  (R [bc 38 .lss 37 10] (.seq (a4 38 .skip (.exit 0)) (.seq (.block 1 (R [F 39 37,F 8 39] (R [bt 9 0] (.seq (R [F 40 1,cp 41 40,bt 42 0] (.block 2 (.loop  (R [bB 43 .lss 42 41] (.seq (a4 43 .skip (.exit 2)) (.seq (.block 3 (R [bM 44 4 40 42,bm 45 4 44,(ax 11 (.alloc 249011 [(ag 0),(ag 0),(ag 0),(ag 0)])),bb 4 11 45] (R [aT 46 2 11,aK 47 1 46,F 48 8,bB 49 .eql 47 48] (a4 49 (.ops [F 50 9,aT 51 3 11,aK 52 1 51,bB 53 .add 50 52,F 9 53]) .skip)))) (.ops [bc 54 .add 42 1,F 42 54]))))))) (fc [bm 55 4 7,F 56 9,(dN 57 wH 56),(cd 58 nn 55 57),bc 59 .geq 58 0,F 12 59] aaQ (.seq (R [F 60 1,cp 61 60,bt 62 0] (.block 4 (.loop  (R [bB 63 .lss 62 61] (.seq (a4 63 .skip (.exit 4)) (.seq (.block 5 (R [F 64 62,bM 65 4 60 62,bm 66 4 65,(ax 14 (.alloc 249014 [(ag 0),(ag 0),(ag 0),(ag 0)])),F 13 64,bb 4 14 66] (.seq (R [aT 67 2 14,aK 68 1 67,F 69 8,bB 70 .neq 68 69] (a4 70 (.exit 5) .skip)) (R [F 71 6,F 72 13,aT 73 3 14,aK 74 1 73,(dN 75 wH 74),bM 76 4 71 72,bb 4 76 75] (.seq (R [F 77 12] (a4 77 (.exit 5) .skip)) (fc [aT 79 3 14,aK 80 1 79,(dN 81 wH 80),bm 82 4 7,(cd 83 u4 81 82),F 78 83,br 84 0 78,br 85 1 78,(ax 15 (.alloc 249015 [(ag 0),.nil,(ag 0),.nil])),bb 4 15 84,F 16 85] [[],[],[],[],[],[],[],[],[1,3],[],[]] (.seq (R [F 86 16,bc 87 .eql 86 0] (a4 87 (.mz [F 89 6,F 90 13,bm 91 4 15,F 92 9,(dN 93 wH 92),(cd 94 BS 91 93),F 88 94,br 95 0 88,br 96 1 88,bM 97 4 89 90,bb 4 97 95,F 16 96] aaS) .skip)) (R [F 98 16,bc 99 .neq 98 0] (a4 99 (R [F 100 16,eH 4,F 5 100] .ret) .skip))))))))) (.ops [bc 101 .add 62 1,F 62 101]))))))) (.seq (R [F 102 12,gi 103 102] (a4 103 (R [(ax 104 (.call wH [(.c (ag 0))])),bb 4 7 104] (.exit 1)) .skip)) (fc [bm 106 4 7,F 107 9,(dN 108 wH 107),(cd 109 tH 106 108),F 105 109,br 110 0 105,br 111 1 105,(ax 17 (.alloc 249017 [(ag 0),.nil,(ag 0),.nil])),bb 4 17 110,F 18 111] [[],[],[],[],[],[],[],[0],[],[]] (.seq (R [F 112 18,bc 113 .neq 112 0] (a4 113 (R [F 114 18,eH 4,F 5 114] .ret) .skip)) (.ops [bm 115 4 17,bb 4 7 115])))))))))) (.ops [bc 116 .add 37 1,F 37 116]))))))) (.seq (.ghost (.freeze 6) (.ops [F 117 6,F 4 117,bt 5 0])) .ret))))))
def Wg:b1:=cu 15 3 [.t 6] (R [c5 6 false] (R [F 7 0,F 8 1,bB 9 .geq 7 8,F 10 9,⟨some 11,some (10,true),.b3 (.t 0)⟩,⟨some 12,some (10,true),.b3 (.t 2)⟩,⟨some 13,some (10,true),.bin .leq (.t 11) (.t 12)⟩,gG 14 10 13,F 6 14] .ret))


def bp (c:ar):List Data:=[.int .i64 c.1,.int .i64 c.2.1,.int .i64 c.2.2.1,.int .i64 c.2.2.2]
theorem qb (c:ar):(bp c).length=4:=rfl
theorem Wh (c:ar):((bp c).map M.I).all M.one=true:=rfl
theorem zf:∀a b:ar,bp a=bp b->a=b:=by
 rintro⟨db,dH,fk,fM⟩ ⟨dP,gV,oH,s7⟩ h;simp only[bp,bh,Data.int.injEq,true_and,and_true] at h;obtain⟨rfl,rfl,rfl,rfl⟩:=h
 rfl
theorem asA {cs:List ar}{i:Nat}{c:ar}(h:cs[i]?=some c)(aP:ar->Int):cq (cs.take (i+1)) aP=cq (cs.take i) aP+aP c:=by
 rw[ks,h,JX];simp[cq]
def Gd (cs:List ar):Prop:=D cs<=2000/\∀c∈cs,0<=c.2.2.2/\c.2.2.2<=1000000000000000
theorem Gd.sum {cs:List ar}(h:Gd cs)(p:ar->Prop)[DecidablePred p](i:Nat):0<=cq (cs.take i) (λc=>if p c then c.2.2.2 else 0)/\cq (cs.take i) (λc=>if p c then c.2.2.2 else 0)<=2000000000000000000:=by
 have E:=VG (cs:=cs.take i) (aP:=λc=>if p c then c.2.2.2 else 0) (B:=1000000000000000) (by omega) λc G=>by
  have:=h.2 c (List.mem_of_mem_take G)
  try dsimp only
  split<;>omega
 have H:=h.1;have ab:(cs.take i).length<=D cs:=by rw[hh];omega
 omega
theorem afk {cash:List Int}{cs:List ar}(h:gR cash cs=true):Gd cs :=
 ⟨(g1.1 h).2.1,λc G=>⟨((g1.1 h).2.2.2 c G).2.2.2.2.2.2.1,((g1.1 h).2.2.2 c G).2.2.2.2.2.2.2⟩⟩
theorem Wi {n:Int}(h:dv n):g8 (bE n) (bE 1)=(aE (n:Rat),0):=by
 rw[yP (wZ h) (by decide +kernel) (by decide),VW,show ((1:Int):Rat)=1 from rfl,show (n:Rat)/1=n by grind]
def uy:=cy z5 λ(n:Int)=>cT (dv n) (.same (.agg (aL (aE (n:Rat)))))
@[go_sem] theorem A2 (n:Int)(G:dv n):uy [.int .i64 n]=some (.same (.agg (aL (aE (n:Rat))))):=(cI Ez n).trans (cY G _)
theorem asB (T:bk)(A3:T BP=aW Jc)(n:Int)(G:dv n):WP T TF (.same (.agg (aL (aE (n:Rat))))) [.I (.int .i64 n)]:=by
 refine cC ?_;simp only[TF];have E:dv 1:=by unfold dv;omega
 have h:=Wi G;generalize aE (n:Rat)=aP at *;obtain⟨⟨a,b⟩,⟨c,d⟩⟩:=aP;simp only[go_sem,go_sem_proc,A3,G,E,h,eh,aL];repeat' (first|refine av ?_ ?_|fail)<;>intro h<;>simp only[h,go_sem,go_sem_proc,A3,G,E,h,eh,aL]
def Ka:=cy z5 λ(n:Int)=>cT (dv n) (.same (.agg (aL (aE (n:Rat)))))
@[go_sem] theorem asC (n:Int)(G:dv n):Ka [.int .i64 n]=some (.same (.agg (aL (aE (n:Rat))))):=(cI Ez n).trans (cY G _)
theorem asD (T:bk)(A3:T BP=aW Jc)(n:Int)(G:dv n):WP T Wf (.same (.agg (aL (aE (n:Rat))))) [.I (.int .i64 n)]:=by
 refine cC ?_;simp only[Wf];have E:dv 1:=by unfold dv;omega
 have h:=Wi G;generalize aE (n:Rat)=aP at *;obtain⟨⟨a,b⟩,⟨c,d⟩⟩:=aP;simp only[go_sem,go_sem_proc,A3,G,E,h,eh,aL];repeat' (first|refine av ?_ ?_|fail)<;>intro h<;>simp only[h,go_sem,go_sem_proc,A3,G,E,h,eh,aL]
theorem asE {x:List Data}(h:Fits [.int .i64,.int .i64,.int .i64,.int .i64] x):∃c:ar,x=bp c:=by
 simp only[Fit,Fits] at h;obtain⟨_,_,rfl,⟨a,rfl,-⟩,_,_,rfl,⟨b,rfl,-⟩,_,_,rfl,⟨c,rfl,-⟩,_,_,rfl,⟨d,rfl,-⟩,rfl⟩:=h;exact⟨(a,b,c,d),rfl⟩
theorem asF {es:List (List Data)}(h:∀x∈es,Fit (.st [.int .i64,.int .i64,.int .i64,.int .i64]) x):∃l:List ar,es=l.map bp:=by
 obtain⟨l,e,-⟩:=QX (e:=bp) (good:=λ_=>True) λx O=>by
  have:=h x O;unfold Fit at this;obtain⟨c,rfl⟩:=asE this;exact⟨c,rfl,trivial⟩
 exact⟨l,e⟩
end Go.Mini
namespace Go.Mini
open Classical
structure Alike (d e:Day):Prop where
 n:d.n=e.n
 cash:d.cash=e.cash
 mem:∀c,c∈d.cZ↔c∈e.cZ
 sum:∀aP,cm d.cZ aP=cm e.cZ aP
theorem Alike.symm {d e:Day}(h:Alike d e):Alike e d:=⟨h.n.symm,h.cash.symm,λc=>(h.mem c).symm,λaP=>(h.sum aP).symm⟩
section
variable {d e:Day} (h:Alike d e)
include h
theorem Alike.U:d.U=e.U:=by funext k r;exact h.sum _
theorem Alike.S:d.S=e.S:=by funext k r;exact h.sum _
theorem Alike.w:d.w=e.w:=by funext c;unfold Day.w;rw[h.S]
theorem Alike.q:d.q=e.q:=by funext f x c;unfold Day.q;rw[h.U,h.w]
theorem Alike.l:d.l=e.l:=by funext f P x c;unfold Day.l;rw[h.U,h.w]
theorem Alike.iS:d.iS=e.iS:=by funext x c;unfold Day.iS;rw[h.U,h.w]
theorem Alike.eM:d.eM=e.eM:=by funext a i;unfold Day.eM;rw[h.cash,h.sum]
theorem Alike.ur:d.ur=e.ur:=by funext x i;unfold Day.ur;rw[h.eM,h.iS]
theorem Alike.gC:d.gC=e.gC:=by funext C x;unfold Day.gC;rw[h.n]
theorem Alike.cap:d.cap=e.cap:=by funext f g C k;unfold Day.cap;rw[h.U]
theorem Alike.closed (f:Nat->Nat)(C:Nat->Prop):d.closed f C↔e.closed f C:=by
 unfold Day.closed;exact⟨λk c G=>k c ((h.mem c).2 G),λk c G=>k c ((h.mem c).1 G)⟩
theorem Alike.inv {f:Nat->Nat}{g:Nat->Rat}(a:Inv d f g):Inv e f g:=by
 obtain⟨E,H,ab,aM,bl⟩:=a;refine⟨E,λi L=>?_,λi L aJ=>?_,λi L aJ=>?_,λC jQ asG asH=>?_⟩
 ·have:=H i (by rw[h.n];exact L);rwa [h.eM,h.q] at this
 ·have:=ab i (by rw[h.n];exact L) aJ;rwa [h.U] at this
 ·have:=aM i (by rw[h.n];exact L) aJ;rwa [h.U] at this
 ·have:=bl C jQ (λi L=>by rw[h.n];exact asG i L) ((h.closed f C).2 asH);rwa [h.gC,h.eM,h.q,h.cap,h.U] at this
theorem Alike.ok (a:d.c0):e.c0:=⟨λc G=>by rw[<-h.n];exact a.az c ((h.mem c).2 G),λc G=>by rw[<-h.n];exact a.to c ((h.mem c).2 G),λc G=>a.rk c ((h.mem c).2 G),λc G=>a.am c ((h.mem c).2 G),λi L=>by rw[<-h.cash];exact a.cash i (by rw[h.n];exact L)⟩
theorem Alike.afl {f:Nat->Nat}{x:Nat->Rat}(a:mZ d f x):mZ e f x:=by
 obtain⟨g,E,H,ab⟩:=a;refine⟨g,h.inv E,λi L=>?_,λi L=>ab i (by rw[h.n];exact L)⟩;have:=H i (by rw[h.n];exact L);rwa [h.eM,h.q] at this
theorem Alike.asI:mZ d=mZ e:=by
 funext f x
 exact propext ⟨h.afl,h.symm.afl⟩
theorem Alike.top:d.top=e.top:=by
 funext f
 unfold Day.top;rw[h.asI]
theorem Alike.j7:d.j7=e.j7:=by
 funext f
 unfold Day.j7;rw[h.top,h.U,h.n]
theorem Alike.jg:d.jg=e.jg:=by
 funext x i k
 induction k with
 |zero=>rfl
 |succ k ay=>unfold Day.jg;rw[h.U,ay]
theorem Alike.gQ:d.gQ=e.gQ:=by
 funext f x i
 unfold Day.gQ;rw[h.n,h.U,h.jg]
theorem Alike.rounds:d.rounds=e.rounds:=by
 funext k
 induction k with
 |zero=>funext f;rfl
 |succ k ay =>
  funext f
  unfold Day.rounds;rw[h.j7,h.gQ,h.top,ay]
end
def cO (cs:List ar)(i k:Nat):List ar:=cs.filter λc=>c.1==(i:Int)&&c.2.2.1==(k:Int)
theorem CZ {cs:List ar}{i k:Nat}{c:ar}:c∈cO cs i k↔c∈cs/\c.1=(i:Int)/\c.2.2.1=(k:Int):=by
 unfold cO;rw[FZ,e3,beq_iff_eq,beq_iff_eq]
def da (n:Nat)(cs:List ar):List ar:=(dL n).flatMap λi=>(dL 10).flatMap λk=>cO cs i k
theorem asJ (cs:List ar)(i k j r:Nat):cO (cO cs i k) j r=if i=j/\k=r then cO cs i k else []:=by
 unfold cO;rw[List.filter_filter]
 by_cases h:i=j/\k=r
 ·obtain⟨rfl,rfl⟩:=h;rw[Z ⟨rfl,rfl⟩]
  congr 1
  funext c
  simp
 ·rw[aa h,List.filter_eq_nil_iff];intro c _;simp only[e3,beq_iff_eq];rintro⟨⟨E,H⟩,ab,aM⟩;exact h ⟨by omega,by omega⟩
theorem afm {α:Type}{n i:Nat}(L:i<n)(aP:Nat->List α)(h:∀k,k<n->k≠i->aP k=[]):(dL n).flatMap aP=aP i:=by
 induction n with
 |zero=>omega
 |succ n ay =>
  rw[po,vJ,o0,zg,h1]
  by_cases aG:i=n
  ·subst aG
   have:(dL i).flatMap aP=[]:=by
    rw[afn];intro k J;have:=hk.1 J;exact h k (by omega) (by omega)
   rw[this,iM]
  ·rw[ay (by omega) λk J=>h k (by omega),h n (by omega) (Ne.symm aG),h1]
theorem afo {α:Type}(l:List α)(aP:α->List ar)(i k:Nat):cO (l.flatMap aP) i k=l.flatMap λx=>cO (aP x) i k:=by
 unfold cO
 induction l with
 |nil=>rfl
 |cons a l ay=>rw[o0,o0,ze,ay]
theorem afp {n i k:Nat}(cs:List ar)(L:i<n)(J:k<10):cO (da n cs) i k=cO cs i k:=by
 unfold da;rw[afo];simp only[afo,asJ];rw[afm L,afm J]
 ·rw[Z ⟨rfl,rfl⟩]
 ·intro r _ Y;rw[aa λh=>Y h.2]
 ·intro j _ ai;rw[afn];intro r _;rw[aa λh=>ai h.1]
theorem afq {n:Nat}{a b:List ar}(h:∀i,i<n->∀k,k<10->cO a i k=cO b i k):da n a=da n b:=by
 unfold da;rw[vK,vK]
 congr 1
 refine nj λi L=>?_;rw[vK,vK]
 congr 1
 exact nj λk J=>h i (hk.1 L) k (hk.1 J)
theorem asK (n:Nat)(cs:List ar):da n (da n cs)=da n cs:=afq λ_ L _ J=>afp cs L J
theorem Wj {n:Nat}{cs:List ar}(Y:∀c∈cs,0<=c.1/\c.1<n/\0<=c.2.2.1/\c.2.2.1<10){c:ar}:c∈da n cs↔c∈cs:=by
 unfold da;simp only[List.mem_flatMap,hk,CZ]
 constructor
 ·rintro⟨i,-,k,-,h,-⟩;exact h
 ·intro G;have:=Y c G;exact⟨c.1.toNat,by omega,c.2.2.1.toNat,by omega,G,by omega,by omega⟩
theorem Kb (a b:List dT)(aP:dT->Rat):cm (a++b) aP=cm a aP+cm b aP:=by
 induction a with
 |nil=>simp only[iM,cm];grind
 |cons c l ay=>rw[lP,cm,cm,ay];grind
theorem afr (aP:Nat->List ar)(bA:dT->Rat)(n:Nat):cm (((dL n).flatMap aP).map cK) bA=bz n λi=>cm ((aP i).map cK) bA:=by
 induction n with
 |zero=>rfl
 |succ n ay=>rw[po,vJ,mq,Kb,ay,bz,o0,zg,h1]
theorem asL {l:List dT}(au:∀c∈l,c.rk<10)(b:Nat->dT->Rat):bz 10 (λk=>cm l (λc=>if c.rk=k then b k c else 0))=cm l (λc=>b c.rk c):=by
 induction l with
 |nil=>exact rQ λk _=>rfl
 |cons c l ay =>
  rw[cm,<-ay λx O=>au x (ir _ O)];have e:(λk:Nat=>cm (c::l) (λc=>if c.rk=k then b k c else 0))=λk=>(if c.rk=k then b k c else 0)+cm l (λc=>if c.rk=k then b k c else 0):=rfl;rw[e,um]
  congr 1
  rw[xq (au c hv) λk _ J=>aa (Ne.symm J),Z rfl]
theorem Wk {cs:List ar}(Y:∀c∈cs,0<=c.1/\0<=c.2.2.1)(i k:Nat)(bA:dT->Rat):cm ((cO cs i k).map cK) bA=cm (cs.map cK) λc=>if c.az=i/\c.rk=k then bA c else 0:=by
 induction cs with
 |nil=>rfl
 |cons c l ay =>
  have ak:=Y c hv;have ay:=ay λx O=>Y x (ir _ O);unfold cO at ay ⊢;rw[e5,cm,<-ay]
  by_cases h:(cK c).az=i/\(cK c).rk=k
  ·obtain⟨E,H⟩:=h;have aw:c.1=(i:Int):=by have:c.1.toNat=i:=E;omega
   have aC:c.2.2.1=(k:Int):=by have:c.2.2.1.toNat=k:=H;omega
   rw[xx (by simp[aw,aC]),e5,cm,Z ⟨E,H⟩]
  ·rw[aa h,xy,AY];intro ae;rw[e3,beq_iff_eq,beq_iff_eq] at ae;refine h ⟨?_,?_⟩
   ·show c.1.toNat=i;omega
   ·show c.2.2.1.toNat=k;omega
theorem afs {n:Nat}{cs:List ar}(Y:∀c∈cs,0<=c.1/\c.1<n/\0<=c.2.2.1/\c.2.2.1<10)(bA:dT->Rat):cm ((da n cs).map cK) bA=cm (cs.map cK) bA:=by
 unfold da;rw[afr]
 have bR:∀c∈cs.map cK,c.az<n:=λc G=>by
  obtain⟨x,O,rfl⟩:=fO.1 G;have:=Y x O;show x.1.toNat<n;omega
 have ha:∀c∈cs.map cK,c.rk<10:=λc G=>by
  obtain⟨x,O,rfl⟩:=fO.1 G;have:=Y x O;show x.2.2.1.toNat<10;omega
 have e:(λi=>cm (((dL 10).flatMap λk=>cO cs i k).map cK) bA)=λi=>cm (cs.map cK) λc=>if c.az=i then bA c else 0:=by
  funext i
  rw[afr,<-asL ha λ_ c=>if c.az=i then bA c else 0]
  congr 1
  funext k
  rw[Wk λc G=>⟨(Y c G).1,(Y c G).2.2.1⟩];refine vA λc _=>?_
  by_cases E:c.rk=k
  ·rw[Z E]
   by_cases H:c.az=i
   ·rw[Z ⟨H,E⟩,Z H]
   ·rw[aa λh=>H h.1,aa H]
  ·rw[aa E,aa λh=>E h.2]
 rw[e,Vm bR λ_ c=>bA c]
theorem aft {cash:List Int}{cs:List ar}(h:gR cash cs=true):Alike (aA cash cs) (aA cash (da (D cash) cs)):=by
 have Y:∀c∈cs,0<=c.1/\c.1<D cash/\0<=c.2.2.1/\c.2.2.1<10:=λc G=>by
  have:=(g1.1 h).2.2.2 c G;exact⟨this.1,this.2.1,this.2.2.2.2.1,this.2.2.2.2.2.1⟩
 refine⟨rfl,rfl,λc=>?_,λaP=>(afs Y aP).symm⟩;show c∈cs.map cK↔c∈(da (D cash) cs).map cK;rw[fO,fO];simp only[Wj Y]
theorem afu {n:Nat}{cs:List ar}(Y:∀c∈cs,0<=c.1/\c.1<n/\0<=c.2.2.1/\c.2.2.1<10):(da n cs).length=D cs:=by
 have E:∀l:List ar,cm (l.map cK) (λ_=>1)=(D l:Rat):=λl=>by
  induction l with
  |nil=>rfl
  |cons a l ay=>rw[e5,cm,ay,kf,Rat.natCast_add,Rat.add_comm];rfl
 have:=afs Y λ_=>1;rw[E,E] at this;exact_mod_cast this
theorem Wl {cash:List Int}{cs:List ar}(h:fG cash cs):fG cash (da (D cash) cs):=by
 have hZ:=g1.1 h.right
 have Y:∀c∈cs,0<=c.1/\c.1<D cash/\0<=c.2.2.1/\c.2.2.1<10:=λc G=>by
  have:=hZ.2.2.2 c G;exact⟨this.1,this.2.1,this.2.2.2.2.1,this.2.2.2.2.2.1⟩
 refine⟨g1.2 ⟨hZ.1,by rw[afu Y];exact hZ.2.1,hZ.2.2.1,λc G=>hZ.2.2.2 c ((Wj Y).1 G)⟩,h.ly,by rw[afu Y];exact h.vI,λc G=>h.am c ((Wj Y).1 G)⟩
end Go.Mini
namespace Go.Mini
open Classical
def Day.oJ (d:Day):Nat->Nat:=(d.rounds (10*d.n) λ_=>10).2
def Day.m1 (d:Day):List (List Nat):=(d.rounds (10*d.n) λ_=>10).1
def Day.dw (d:Day):Nat->Rat:=d.top d.oJ
theorem afv (n k:Nat):lZ n (λ_=>k)=k*n:=by
 induction n with
 |zero=>rfl
 |succ n ay=>rw[lZ,ay,Nat.mul_succ]
section
variable {d:Day} (X:d.c0)
include X
theorem Day.c0.hex:∀f,Reach d f->∃h,mZ d f h:=λ_ Y=>asb X Y
theorem Kc:Reach d d.oJ/\d.j7 d.oJ=[]:=adZ X X.hex (10*d.n) (λ_=>10) (Reach.start X) (by rw[afv];exact bP _)
theorem Ob:mZ d d.oJ d.dw:=Day.CO (X.hex _ (Kc X).1)
theorem afw:∀i,i<d.n->d.U i (d.oJ i)<=d.dw i:=by
 intro i L;apply j6;intro aG;have:i∈d.j7 d.oJ:=Day.adY.2 ⟨L,by unfold Day.dw at aG;grind⟩
 rw[(Kc X).2] at this
 cases this
theorem Oc:(∀i,i<d.n->d.dw i=d.ur d.dw i)/\∀i,i<d.n->(d.oJ i<10↔d.dw i<d.U i 10):=by
 obtain⟨g,E,H,ab⟩:=Ob X;exact E.final X H ab (afw X)
theorem afx {i:Nat}(L:i<d.n):0<=d.dw i:=(Ob X).VC X L
end
theorem NM {d:Day}(X:d.c0)(i k:Nat):0<=d.S i k:=xr λc G=>by
 try dsimp only
 split
 ·exact X.am c G
 ·exact fA
end Go.Mini
namespace Go.Mini
open Go
theorem Od {n:Int}{c:ar}:kY n c=true↔0<=c.1/\c.1<n /\ -1<=c.2.1/\c.2.1<n/\0<=c.2.2.1/\c.2.2.1<10/\0<=c.2.2.2/\c.2.2.2<=1000000000000000:=by
 unfold kY;simp only[e3,decide_eq_true_eq,and_assoc]
def jh (x:Int):Bool:=decide (0<=x)&&decide (x<=1000000000000000)
theorem Oe {x:Int}:jh x=true↔0<=x/\x<=1000000000000000:=by
 unfold jh;simp only[e3,decide_eq_true_eq]
theorem Wm (cash:List Int)(cs:List ar):gR cash cs=(decide (D cash<=60)&&decide (D cs<=2000)&&cash.all jh&&cs.all (kY (D cash))):=rfl

end Go.Mini
