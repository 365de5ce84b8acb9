/- A part of the proof. -/
import Derived.Test.YtgpioapepokkbaaGreatM02
set_option linter.unusedSimpArgs false
set_option linter.unusedVariables false
set_option linter.defProp false
set_option maxRecDepth 100000
set_option maxHeartbeats 4000000
noncomputable section
open Bool renaming and_eq_true->eQ,and_false->hs,eq_iff_iff->kd,false_and->fC,false_eq_true->lD,not_eq_false'->aiH,not_eq_true'->nS,not_false->dd,not_true->cF,or_true->s0,true_and->g4
open Classical renaming choose_spec->oP
open Decidable renaming em->dq
open Int renaming add_comm->yU,add_zero->Ay,cast_ofNat_Int->p4,mul_add->iq,mul_assoc->ir,mul_comm->nI,mul_fdiv_add_fmod->RJ,mul_ne_zero->AR,mul_one->vT,mul_zero->yW,natAbs_natCast->mV,natAbs_neg->ML,natCast_pos->CB,natCast_zero->pr,pow_succ->nH,sign_eq_neg_one_of_neg->q0,sign_eq_one_of_pos->jM,sign_eq_zero_iff_zero->ahl,sign_mul->q1,sign_neg->E4,sign_sign->AH,sign_zero->za,sub_zero->Mn,tdiv_eq_ediv_of_nonneg->Av,tdiv_nonneg->aiL,tmod_eq_emod_of_nonneg->Mo,tmod_nonneg->aiK,zero_mul->AG,zero_sub->ahr
open List renaming all_cons->BZ,any_eq_false->uL,append_assoc->gr,append_nil->fG,drop->ft,drop_eq_getElem_cons->iE,drop_eq_nil_of_le->j0,drop_set_of_lt->ub,drop_zero->nG,ext_getElem?->pY,findIdx?_eq_none_iff->ah3,findIdx?_eq_some_iff_getElem->ah2,flatten_nil->ais,getD_eq_getElem?_getD->ei,getElem?_append_right->rR,getElem?_drop->lE,getElem?_eq_getElem->bn,getElem?_eq_none->mB,getElem?_eq_some_iff->dK,getElem?_inj->aiX,getElem?_map->bo,getElem?_set->nT,getElem?_zipIdx->ZV,getElem_drop->I1,getElem_mem->nC,length->D,length_append->fO,length_cons->hQ,length_drop->r0,length_map->ar,length_nil->lH,length_pos_iff->CA,length_set->hL,length_singleton->AZ,length_take->gE,map->zh,mapM_cons->kr,map_append->kh,map_cons->eu,map_map->mK,map_nil->cR,map_set->CT,map_take->AU,mem_append->iF,mem_cons->hS,mem_cons_of_mem->g5,mem_cons_self->gK,mem_iff_getElem?->uk,mem_map->ef,mem_of_getElem?->dZ,mem_of_mem_drop->Ij,mem_or_eq_of_mem_set->IW,mem_replicate->Ia,mem_singleton->vY,replicate->dH,set_append_right->FF,set_cons_succ->Nr,set_cons_zero->we,set_set->ai6,take->fh,take_add_one->hF,take_length->mW,take_of_length_le->dt
open List.cons renaming injEq->bh
open Nat renaming add_zero->nE,div_div_eq_div_mul->aiw,eq_zero_or_pos->jG,gcd->jw,gcd_comm->MI,le_of_lt->MK,le_refl->bM,lt_of_div_lt_div->aix,lt_of_le_of_lt->uz,lt_or_ge->iD,max_eq_right->Zw,min_eq_left->oO,mod_lt->oS,mul_comm->sT,mul_le_mul_right->sN,mul_lt_mul_of_pos_left->aiD,mul_one->dy,pos_of_ne_zero->HI,pow_succ->xk,reduceEqDiff->dV,reduceLeDiff->ai5,sub_self->lf,zero_div->aiv,zero_le->fy
open Option renaming bind_none->nr,bind_some->ng,map_eq_some_iff->dS,map_some->iY
open Option.some renaming inj->mD,injEq->cl
open Prod renaming ext->ej,fst->RK
open Prod.mk renaming injEq->e2
open Rat renaming divInt->lO,divInt_mul_divInt->ahh,num_divInt_den->Iy,sub_eq_add_neg->MS
namespace Go.Mini
open Go
def AP (a b c d:Raw):Raw×Int :=
 if ((mulR a b).2==0)=true then (if ((mulR c d).2==0)=true then v5 (mulR a b).1 (mulR c d).1 else ((0,[]),(mulR c d).2)) else ((0,[]),(mulR a b).2)
def ahf (z:Int):(s8 z).1.2.length<=1000000:=by
 unfold s8
 split
 ·exact nQ (by assumption)
 ·simp
def Fm (a b:Raw):(mulR a b).1.2.length<=1000000:=by
 unfold mulR
 split
 ·exact ahf _
 ·simp
def avR (a b:Raw):(v5 a b).1.2.length<=1000000:=by
 unfold v5
 split
 ·exact ahf _
 ·simp
def avS (a b c d:Raw):(AP a b c d).1.2.length<=1000000:=by
 unfold AP
 split
 ·split
  ·exact avR _ _
  ·simp
 ·simp
abbrev RC:Int×(List Int)×Int×(List Int)×Int×(List Int)×Int×(List Int)->List Data:=λ(s,l,s2,aI,dP,cS,dU,dk)=>[.agg [.int .i64 s,.ay (l.map aC)],.agg [.int .i64 s2,.ay (aI.map aC)],.agg [.int .i64 dP,.ay (cS.map aC)],.agg [.int .i64 dU,.ay (dk.map aC)]]
def RD:=bU RC λ(s,l,s2,aI,dP,cS,dU,dk)=>cp (D l<=1000000/\D aI<=1000000/\D cS<=1000000/\D dk<=1000000) (.same (iL (AP (s,l) (s2,aI) (dP,cS) (dU,dk))))
def avT:∀a b,RC a=RC b->a=b:=by
  rintro⟨s1,eH,E7,E8,avU,avV,avW,avX⟩ ⟨s2,aI,E9,Fa,avY,avZ,av0,av1⟩ h;simp only[bh,Data.agg.injEq,Data.int.injEq,Data.ay.injEq] at h;exact ej h.1.1.2 (ej (map_inj fq _ _ h.1.2.1) (ej h.2.1.1.2 (ej (map_inj fq _ _ h.2.1.2.1) (ej h.2.2.1.1.2 (ej (map_inj fq _ _ h.2.2.1.2.1) (ej h.2.2.2.1.1.2 (map_inj fq _ _ h.2.2.2.1.2.1)))))))
@[go_sem] def aN2 (s l s2 aI dP cS dU dk):=cz RD rfl avT (s,l,s2,aI,dP,cS,dU,dk) rfl
def av2 (T:ba)(q4:T vI=aQ E6)(Ze:T XB=aQ Rq):WF T ag9 RD:=by
 refine cf λ(s,l,s2,aI,dP,cS,dU,dk)=>cG λH=>⟨rfl,b7 ?_⟩;simp only[ag9,RC,b1];obtain⟨cm,cC,ib,jy⟩:=H;have dw:=Fm (s,l) (s2,aI);have cv:=Fm (dP,cS) (dU,dk);unfold AP;generalize uE:mulR (s,l) (s2,aI)=M1 at *;generalize hb:mulR (dP,cS) (dU,dk)=M2 at *;obtain⟨⟨cH,cY⟩,az⟩:=M1;obtain⟨⟨c6,eB⟩,aD⟩:=M2;rcases F:(az==0)
 ·refine ai ?_;repeat' (intro h<;>simp only[h,go_sem,go_sem_proc,q4,Ze,cm,cC,ib,jy,uE,F,dw,cv,iL,eI,cR]<;>try refine ah ?_ ?_)
 ·have fA:az=0:=by simpa using F
  subst fA;rcases G:(aD==0)
  ·refine ai ?_;repeat' (intro h<;>simp only[h,go_sem,go_sem_proc,q4,Ze,cm,cC,ib,jy,uE,hb,F,G,dw,cv,iL,eI,cR]<;>try refine ah ?_ ?_)
  ·have hl:aD=0:=by simpa using G
   subst hl;refine ai ?_;repeat' (intro h<;>simp only[h,go_sem,go_sem_proc,q4,Ze,cm,cC,ib,jy,uE,hb,F,dw,cv,iL,eI,cR]<;>try refine ah ?_ ?_)
def y6 (p:Raw×Int)(q:Raw×Int):bF×Int:=if (p.2==0)=true then (if (q.2==0)=true then jN p.1 q.1 else (eA,6)) else (eA,6)
abbrev RE:Int×(List Int)×Int×Int×(List Int)×Int->List Data:=λ(s,l,e,s2,aI,aD)=>[.agg [.int .i64 s,.ay (l.map aC)],.int .i64 e,.agg [.int .i64 s2,.ay (aI.map aC)],.int .i64 aD]
def Ix:=bU RE λ(s,l,e,s2,aI,aD)=>cp (D l<=1000000/\D aI<=1000000) (.same (gf (y6 ((s,l),e) ((s2,aI),aD))))
def av3:∀a b,RE a=RE b->a=b:=by
  rintro⟨s1,eH,az,E7,E8,pw⟩ ⟨s2,aI,aD,E9,Fa,sf⟩ h;simp only[bh,Data.agg.injEq,Data.int.injEq,Data.ay.injEq] at h;exact ej h.1.1.2 (ej (map_inj fq _ _ h.1.2.1) (ej h.2.1.2 (ej h.2.2.1.1.2 (ej (map_inj fq _ _ h.2.2.1.2.1) h.2.2.2.1.2))))
@[go_sem] def aN3 (s l e s2 aI aD):=cz Ix rfl av3 (s,l,e,s2,aI,aD) rfl
def av4 (T:ba)(MR:T LO=aQ MQ):WF T aha Ix:=by
 refine cf λ(s,l,e,s2,aI,aD)=>cG λH=>⟨rfl,b7 ?_⟩;simp only[aha,RE,b1];obtain⟨cm,cC⟩:=H;unfold y6;rcases F:(e==0)
 ·refine ai ?_;repeat' (intro h<;>simp only[h,go_sem,go_sem_proc,MR,cm,cC,F,gf,aU,eA,cR]<;>try refine ah ?_ ?_)
 ·have fA:e=0:=by simpa using F
  subst fA;rcases G:(aD==0)
  ·refine ai ?_;repeat' (intro h<;>simp only[h,go_sem,go_sem_proc,MR,cm,cC,F,G,gf,aU,eA,cR]<;>try refine ah ?_ ?_)
  ·have hl:aD=0:=by simpa using G
   subst hl;refine ai ?_;repeat' (intro h<;>simp only[h,go_sem,go_sem_proc,MR,cm,cC,F,gf,aU,eA,cR]<;>try refine ah ?_ ?_)
def y7 (a b:bF):bF×Int:=if eY a=true then (if eY b=true then y6 (AP a.1 b.2 b.1 a.2) (mulR a.2 b.2) else (eA,1)) else (eA,1)
def q5 (a b:bF):bF×Int:=if eY a=true then (if eY b=true then y7 a (lM b.1,b.2) else (eA,1)) else (eA,1)
def px (a b:bF):bF×Int:=if eY a=true then (if eY b=true then y6 (mulR a.1 b.1) (mulR a.2 b.2) else (eA,1)) else (eA,1)
def kX (a b:bF):bF×Int:=if eY a=true then (if eY b=true then (if (b.1.1==0)=true then (eA,15) else y6 (mulR a.1 b.2) (mulR a.2 b.1)) else (eA,1)) else (eA,1)
def av5 (a:Raw)(h:a.2.length<=1000000):(lM a).2.length<=1000000:=by
 unfold lM
 split
 ·rename_i aa;obtain⟨z,aV,e⟩:=(j9 _).1 aa;rw[e,fT];exact nQ (by omega)
 ·simp
abbrev qc:Int×(List Int)×Int×(List Int)×Int×(List Int)×Int×(List Int)->List Data:=λ(s,l,s2,aI,dP,cS,dU,dk)=>[.agg [.int .i64 s,.ay (l.map aC),.int .i64 s2,.ay (aI.map aC)],.agg [.int .i64 dP,.ay (cS.map aC),.int .i64 dU,.ay (dk.map aC)]]
def v9:=bU qc λ(s,l,s2,aI,dP,cS,dU,dk)=>cp (D l<=1000000/\D aI<=1000000/\D cS<=1000000/\D dk<=1000000) (.same (gf (y7 ((s,l),(s2,aI)) ((dP,cS),(dU,dk)))))
def CH:∀a b,qc a=qc b->a=b:=by
  rintro⟨s1,eH,E7,E8,avU,avV,avW,avX⟩ ⟨s2,aI,E9,Fa,avY,avZ,av0,av1⟩ h;simp only[bh,Data.agg.injEq,Data.int.injEq,Data.ay.injEq] at h;exact ej h.1.1.2 (ej (map_inj fq _ _ h.1.2.1) (ej h.1.2.2.1.2 (ej (map_inj fq _ _ h.1.2.2.2.1) (ej h.2.1.1.2 (ej (map_inj fq _ _ h.2.1.2.1) (ej h.2.1.2.2.1.2 (map_inj fq _ _ h.2.1.2.2.2.1)))))))
@[go_sem] def ahg (s l s2 aI dP cS dU dk):=cz v9 rfl CH (s,l,s2,aI,dP,cS,dU,dk) rfl
def av6 (T:ba)(fV:T ma=aQ uJ)(Zf:T Xs=aQ RD)(q4:T vI=aQ E6)(wa:T Ey=aQ Ix):WF T ag3 v9:=by
 refine cf λ(s,l,s2,aI,dP,cS,dU,dk)=>cG λH=>⟨rfl,b7 ?_⟩;simp only[ag3,qc,b1];obtain⟨cm,cC,ib,jy⟩:=H;unfold y7
 by_cases aa:eY ((s,l),(s2,aI))=true
 ·by_cases bL:eY ((dP,cS),(dU,dk))=true
  ·have dw:=avS (s,l) (dU,dk) (dP,cS) (s2,aI);have cv:=Fm (s2,aI) (dU,dk);rw[ab aa,ab bL];dsimp only;generalize uE:AP (s,l) (dU,dk) (dP,cS) (s2,aI)=M1 at *;generalize hb:mulR (s2,aI) (dU,dk)=M2 at *;obtain⟨⟨cH,cY⟩,az⟩:=M1;obtain⟨⟨c6,eB⟩,aD⟩:=M2;refine ai ?_;repeat' (intro h<;>simp only[h,go_sem,go_sem_proc,fV,Zf,q4,wa,cm,cC,ib,jy,aa,bL,uE,hb,dw,cv,iL,eI,gf,aU]<;>try refine ah ?_ ?_)
  ·have bL:eY ((dP,cS),(dU,dk))=false:=by simpa using bL
   rw[ab aa,ae (by simp[bL])];refine ai ?_;repeat' (intro h<;>simp only[h,go_sem,go_sem_proc,fV,Zf,q4,wa,cm,cC,ib,jy,aa,bL,gf,aU,eA,cR]<;>try refine ah ?_ ?_)
 ·have aa:eY ((s,l),(s2,aI))=false:=by simpa using aa
  rw[ae (by simp[aa])];refine ai ?_;repeat' (intro h<;>simp only[h,go_sem,go_sem_proc,fV,Zf,q4,wa,cm,cC,ib,jy,aa,gf,aU,eA,cR]<;>try refine ah ?_ ?_)
def xD:=bU qc λ(s,l,s2,aI,dP,cS,dU,dk)=>cp (D l<=1000000/\D aI<=1000000/\D cS<=1000000/\D dk<=1000000) (.same (gf (q5 ((s,l),(s2,aI)) ((dP,cS),(dU,dk)))))
@[go_sem] def av7 (s l s2 aI dP cS dU dk):=cz xD rfl CH (s,l,s2,aI,dP,cS,dU,dk) rfl
def av8 (T:ba)(fV:T ma=aQ uJ)(AO:T HK=aQ MC)(jd:T vG=aQ v9):WF T ag5 xD:=by
 refine cf λ(s,l,s2,aI,dP,cS,dU,dk)=>cG λH=>⟨rfl,b7 ?_⟩;simp only[ag5,qc,b1];obtain⟨cm,cC,ib,jy⟩:=H;unfold q5
 by_cases aa:eY ((s,l),(s2,aI))=true
 ·by_cases bL:eY ((dP,cS),(dU,dk))=true
  ·have dw:=av5 (dP,cS) ib;rw[ab aa,ab bL];dsimp only;generalize uE:lM (dP,cS)=M1 at *;obtain⟨cH,cY⟩:=M1;refine ai ?_;repeat' (intro h<;>simp only[h,go_sem,go_sem_proc,fV,AO,jd,cm,cC,ib,jy,aa,bL,uE,dw,iL,eI,gf,aU]<;>try refine ah ?_ ?_)
  ·have bL:eY ((dP,cS),(dU,dk))=false:=by simpa using bL
   rw[ab aa,ae (by simp[bL])];refine ai ?_;repeat' (intro h<;>simp only[h,go_sem,go_sem_proc,fV,AO,jd,cm,cC,ib,jy,aa,bL,gf,aU,eA,cR]<;>try refine ah ?_ ?_)
 ·have aa:eY ((s,l),(s2,aI))=false:=by simpa using aa
  rw[ae (by simp[aa])];refine ai ?_;repeat' (intro h<;>simp only[h,go_sem,go_sem_proc,fV,AO,jd,cm,cC,ib,jy,aa,gf,aU,eA,cR]<;>try refine ah ?_ ?_)
def xE:=bU qc λ(s,l,s2,aI,dP,cS,dU,dk)=>cp (D l<=1000000/\D aI<=1000000/\D cS<=1000000/\D dk<=1000000) (.same (gf (px ((s,l),(s2,aI)) ((dP,cS),(dU,dk)))))
@[go_sem] def av9 (s l s2 aI dP cS dU dk):=cz xE rfl CH (s,l,s2,aI,dP,cS,dU,dk) rfl
def awa (T:ba)(fV:T ma=aQ uJ)(q4:T vI=aQ E6)(wa:T Ey=aQ Ix):WF T ag6 xE:=by
 refine cf λ(s,l,s2,aI,dP,cS,dU,dk)=>cG λH=>⟨rfl,b7 ?_⟩;simp only[ag6,qc,b1];obtain⟨cm,cC,ib,jy⟩:=H;unfold px
 by_cases aa:eY ((s,l),(s2,aI))=true
 ·by_cases bL:eY ((dP,cS),(dU,dk))=true
  ·have dw:=Fm (s,l) (dP,cS);have cv:=Fm (s2,aI) (dU,dk);rw[ab aa,ab bL];dsimp only;generalize uE:mulR (s,l) (dP,cS)=M1 at *;generalize hb:mulR (s2,aI) (dU,dk)=M2 at *;obtain⟨⟨cH,cY⟩,az⟩:=M1;obtain⟨⟨c6,eB⟩,aD⟩:=M2;refine ai ?_;repeat' (intro h<;>simp only[h,go_sem,go_sem_proc,fV,q4,wa,cm,cC,ib,jy,aa,bL,uE,hb,dw,cv,iL,eI,gf,aU]<;>try refine ah ?_ ?_)
  ·have bL:eY ((dP,cS),(dU,dk))=false:=by simpa using bL
   rw[ab aa,ae (by simp[bL])];refine ai ?_;repeat' (intro h<;>simp only[h,go_sem,go_sem_proc,fV,q4,wa,cm,cC,ib,jy,aa,bL,gf,aU,eA,cR]<;>try refine ah ?_ ?_)
 ·have aa:eY ((s,l),(s2,aI))=false:=by simpa using aa
  rw[ae (by simp[aa])];refine ai ?_;repeat' (intro h<;>simp only[h,go_sem,go_sem_proc,fV,q4,wa,cm,cC,ib,jy,aa,gf,aU,eA,cR]<;>try refine ah ?_ ?_)
def CI:=bU qc λ(s,l,s2,aI,dP,cS,dU,dk)=>cp (D l<=1000000/\D aI<=1000000/\D cS<=1000000/\D dk<=1000000) (.same (gf (kX ((s,l),(s2,aI)) ((dP,cS),(dU,dk)))))
@[go_sem] def awb (s l s2 aI dP cS dU dk):=cz CI rfl CH (s,l,s2,aI,dP,cS,dU,dk) rfl
def awc (T:ba)(fV:T ma=aQ uJ)(q4:T vI=aQ E6)(wa:T Ey=aQ Ix):WF T ahc CI:=by
 refine cf λ(s,l,s2,aI,dP,cS,dU,dk)=>cG λH=>⟨rfl,b7 ?_⟩;simp only[ahc,qc,b1];obtain⟨cm,cC,ib,jy⟩:=H;unfold kX
 by_cases aa:eY ((s,l),(s2,aI))=true
 ·by_cases bL:eY ((dP,cS),(dU,dk))=true
  ·rw[ab aa,ab bL];dsimp only;rcases au:(dP==0)
   ·have dw:=Fm (s,l) (dU,dk);have cv:=Fm (s2,aI) (dP,cS);rw[ae (by simp)];generalize uE:mulR (s,l) (dU,dk)=M1 at *;generalize hb:mulR (s2,aI) (dP,cS)=M2 at *;obtain⟨⟨cH,cY⟩,az⟩:=M1;obtain⟨⟨c6,eB⟩,aD⟩:=M2;refine ai ?_;repeat' (intro h<;>simp only[h,go_sem,go_sem_proc,fV,q4,wa,cm,cC,ib,jy,aa,bL,au,uE,hb,dw,cv,iL,eI,gf,aU]<;>try refine ah ?_ ?_)
   ·rw[ab rfl];refine ai ?_;repeat' (intro h<;>simp only[h,go_sem,go_sem_proc,fV,q4,wa,cm,cC,ib,jy,aa,bL,au,gf,aU,eA,cR]<;>try refine ah ?_ ?_)
  ·have bL:eY ((dP,cS),(dU,dk))=false:=by simpa using bL
   rw[ab aa,ae (by simp[bL])];refine ai ?_;repeat' (intro h<;>simp only[h,go_sem,go_sem_proc,fV,q4,wa,cm,cC,ib,jy,aa,bL,gf,aU,eA,cR]<;>try refine ah ?_ ?_)
 ·have aa:eY ((s,l),(s2,aI))=false:=by simpa using aa
  rw[ae (by simp[aa])];refine ai ?_;repeat' (intro h<;>simp only[h,go_sem,go_sem_proc,fV,q4,wa,cm,cC,ib,jy,aa,gf,aU,eA,cR]<;>try refine ah ?_ ?_)
def xF (c:Bool)(v:Rat):bF×Int:=if c=true then (ax v,0) else (eA,6)
def iM (z:Int):Bool:=decide (z.natAbs<ea)
def mX (x y:Rat):Bool:=iM (x.num*y.den)&&(iM (y.num*x.den)&&(iM (x.num*y.den+y.num*x.den)&&iM ((x.den:Int)*y.den)))
def AQ (x y:Rat):Bool:=iM (x.num*y.num)&&iM ((x.den:Int)*y.den)
def xG (x y:Rat):Bool:=iM (x.num*y.den)&&iM ((x.den:Int)*y.num)
def CJ {z:Int}(h:iM z=true):s8 z=(bY z,0):=ab (by simpa [iM] using h)
def CK {z:Int}(h:iM z=false):s8 z=((0,[]),6):=ae (by simpa [iM] using h)
def q6 {z:Int}(h:iM z=true):z.natAbs<ea:=by simpa [iM] using h
def awd {a b c d:Int}(aO:a.natAbs<ea)(ad:b.natAbs<ea)(H:c.natAbs<ea)(Y:d.natAbs<ea):
  AP (bY a) (bY b) (bY c) (bY d)=if (iM (a*b)&&(iM (c*d)&&iM (a*b+c*d)))=true then (bY (a*b+c*d),0) else ((0,[]),6):=by
 unfold AP;rw[Cx aO ad,Cx H Y];rcases F:iM (a*b)
 ·rw[CK F];rfl
 ·rw[CJ F];rcases G:iM (c*d)
  ·rw[CK G];rfl
  ·rw[CJ G];show v5 (bY (a*b)) (bY (c*d))=_;rw[agR (q6 F) (q6 G)];rcases af:iM (a*b+c*d)
   ·rw[CK af];rfl
   ·rw[CJ af];rfl
def Zg (x y:Rat):lO (x.num*y.den+y.num*x.den) ((x.den:Int)*y.den)=x+y:=by
 rw[<-Rat.divInt_add_divInt _ _ (by have:=den_pos x;omega) (by have:=den_pos y;omega),Iy,Iy]
def Zh (x y:Rat):lO (x.num*y.num) ((x.den:Int)*y.den)=x*y:=by
 rw[<-ahh,Iy,Iy]
def Zi (x y:Rat):lO (x.num*y.den) ((x.den:Int)*y.num)=x/y:=by
 rw[<-ahh,Iy,<-Rat.inv_divInt,Iy]
 rfl
def xH (x:Rat):(x.den:Int)≠0:=by have:=den_pos x;omega
def Zj {x y:Rat}(Q:dc x)(al:dc y):y7 (ax x) (ax y)=xF (mX x y) (x+y):=by
 unfold y7;rw[ab (y4 Q),ab (y4 al)];show y6 (AP (bY x.num) (bY y.den) (bY y.num) (bY x.den)) (mulR (bY x.den) (bY y.den))=_;rw[awd Q.1 (xB al) al.1 (xB Q),Cx (xB Q) (xB al)];unfold mX;rcases F:iM (x.num*y.den)
 ·rfl
 ·rcases G:iM (y.num*x.den)
  ·rfl
  ·rcases af:iM (x.num*y.den+y.num*x.den)
   ·rfl
   ·rcases aS:iM ((x.den:Int)*y.den)
    ·rw[CK aS];rfl
    ·rw[CJ aS];show jN (bY (x.num*y.den+y.num*x.den)) (bY ((x.den:Int)*y.den))=(ax (x+y),0)
     rw[AM (q6 af) (q6 aS) (AR (xH x) (xH y)),Zg]
def awe {x:Rat}(h:dc x):dc (-x):=⟨by rw[Rat.neg_num];have:=h.1;omega,by rw[Rat.neg_den];exact h.2⟩
def RF {x y:Rat}(Q:dc x)(al:dc y):q5 (ax x) (ax y)=xF (mX x (-y)) (x-y):=by
 unfold q5;rw[ab (y4 Q),ab (y4 al)]
 have:(lM (ax y).1,(ax y).2)=ax (-y):=by
  unfold ax;have:lM (bY y.num)=bY (-y.num):=by unfold lM;rw[ab (lq al.1),fT]
  dsimp only;rw[this];rfl
 rw[this,Zj Q (awe al),MS]
def Zk {x y:Rat}(Q:dc x)(al:dc y):px (ax x) (ax y)=xF (AQ x y) (x*y):=by
 unfold px;rw[ab (y4 Q),ab (y4 al)];show y6 (mulR (bY x.num) (bY y.num)) (mulR (bY x.den) (bY y.den))=_;rw[Cx Q.1 al.1,Cx (xB Q) (xB al)];unfold AQ;rcases F:iM (x.num*y.num)
 ·rw[CK F];rfl
 ·rw[CJ F];rcases aS:iM ((x.den:Int)*y.den)
  ·rw[CK aS];rfl
  ·rw[CJ aS];show jN (bY (x.num*y.num)) (bY ((x.den:Int)*y.den))=(ax (x*y),0)
   rw[AM (q6 F) (q6 aS) (AR (xH x) (xH y)),Zh]
def RG {x y:Rat}(Q:dc x)(al:dc y)(au:y≠0):kX (ax x) (ax y)=xF (xG x y) (x/y):=by
 unfold kX;rw[ab (y4 Q),ab (y4 al)];have aH:y.num≠0:=λh=>au (Rat.num_eq_zero.1 h)
 have:((ax y).1.1==0)=false:=by
  show (y.num.sign==0)=false
  simpa using aH
 rw[this,ae (by simp)];show y6 (mulR (bY x.num) (bY y.den)) (mulR (bY x.den) (bY y.num))=_;rw[Cx Q.1 (xB al),Cx (xB Q) al.1];unfold xG;rcases F:iM (x.num*y.den)
 ·rw[CK F];rfl
 ·rw[CJ F];rcases aS:iM ((x.den:Int)*y.num)
  ·rw[CK aS];rfl
  ·rw[CJ aS];show jN (bY (x.num*y.den)) (bY ((x.den:Int)*y.num))=(ax (x/y),0)
   rw[AM (q6 F) (q6 aS) (AR (xH x) aH),Zi]
def awf {x y:Rat}(h:mX x y=true):dc (x+y):=by
 unfold mX at h;simp only[eQ] at h;rw[<-Zg];exact RB (q6 h.2.2.1) (q6 h.2.2.2)
def ahi {x y:Rat}(h:mX x (-y)=true):dc (x-y):=by rw[MS];exact awf h
def ahj {x y:Rat}(h:AQ x y=true):dc (x*y):=by
 unfold AQ at h;simp only[eQ] at h;rw[<-Zh];exact RB (q6 h.1) (q6 h.2)
def awg {x y:Rat}(h:xG x y=true):dc (x/y):=by
 unfold xG at h;simp only[eQ] at h;rw[<-Zi];exact RB (q6 h.1) (q6 h.2)
def je (x y:Rat):Int:=(x.num*y.den-y.num*x.den).sign
def py (a b:bF):Int:=if eY a=true then (if eY b=true then (iu a.1*iu b.2-iu b.1*iu a.2).sign else 0) else 0
def RH {x y:Rat}(Q:dc x)(al:dc y):py (ax x) (ax y)=je x y:=by
 unfold py;rw[ab (y4 Q),ab (y4 al)];unfold ax je;rw[fT,fT,fT,fT]
def ahk {x y:Rat}:je x y=0↔x=y:=by
 unfold je;rw[ahl,Rat.eq_iff_mul_eq_mul];omega
def RI {p q:Int}(aY:0<q):0<=p.fmod q/\p.fmod q<q:=⟨Int.fmod_nonneg_of_pos _ aY,Int.fmod_lt_of_pos _ aY⟩
def ahm {p q r s:Int}(aY:0<q)(X:0<s)(h:p.fdiv q<r.fdiv s):p*s-r*q<0:=by
 have az:=RJ p q;have aD:=RJ r s;have c6:=RI (p:=p) aY;have eB:=RI (p:=r) X;generalize p.fdiv q=x at *;generalize r.fdiv s=y at *;generalize p.fmod q=u at *;generalize r.fmod s=v at *;subst az aD;have F:q*s*(x+1)<=q*s*y:=Int.mul_le_mul_of_nonneg_left (by omega) (Int.le_of_lt (Int.mul_pos aY X));have G:u*s<q*s:=Int.mul_lt_mul_of_pos_right c6.2 X;have af:0<=v*q:=Int.mul_nonneg eB.1 (by omega);have bX:(q*x+u)*s-(s*y+v)*q=q*s*(x+1)-q*s*y+(u*s-q*s)-v*q:=by grind
 omega
def awh {p q r s:Int}(h:p.fdiv q=r.fdiv s):p*s-r*q=p.fmod q*s-r.fmod s*q:=by
 have az:=RJ p q;have aD:=RJ r s;rw[h] at az;generalize r.fdiv s=y at *;generalize p.fmod q=u at *;generalize r.fmod s=v at *;subst az aD;grind
def ahn (a b:Int):(a-b).sign = -(b-a).sign:=by rw[<-E4];congr 1;omega
def aho {p q:Int}(aF:p.natAbs<ea)(aY:q.natAbs<ea)(au:0<q):
  mT (p.sign,aZ p.natAbs) (q.sign,aZ q.natAbs)=(((p.fdiv q).sign,aZ (p.fdiv q).natAbs),((p.fmod q).sign,aZ (p.fmod q).natAbs),0):=Fb aF aY (by omega)
def pz:=bU qc λ(s,l,s2,aI,dP,cS,dU,dk)=>cp (D l<=1000000/\D aI<=1000000/\D cS<=1000000/\D dk<=1000000) (.same (.int .i64 (py ((s,l),(s2,aI)) ((dP,cS),(dU,dk)))))
@[go_sem] def ahp (s l s2 aI dP cS dU dk):=cz pz rfl CH (s,l,s2,aI,dP,cS,dU,dk) rfl
def awi (T:ba)(fV:T ma=aQ uJ)(q2:T Ez=aQ MJ)(y8:T Xy=aQ Rs):WF T ag7 pz:=by
 refine cf λ(s,l,s2,aI,dP,cS,dU,dk)=>cG λH=>⟨rfl,b7 ?_⟩;simp only[ag7,qc,b1];obtain⟨cm,cC,ib,jy⟩:=H
 by_cases aa:eY ((s,l),(s2,aI))=true
 ·by_cases bL:eY ((dP,cS),(dU,dk))=true
  ·obtain⟨x,Q,e⟩:=(MN _).1 aa;obtain⟨y,al,aD⟩:=(MN _).1 bL;have hm:py ((s,l),(s2,aI)) ((dP,cS),(dU,dk))=je x y:=by rw[e,aD,RH Q al]
   rw[hm];clear hm;have awj:(s,l)=bY x.num:=congrArg RK e;have Zl:(s2,aI)=bY x.den:=congrArg Prod.snd e;have Zm:(dP,cS)=bY y.num:=congrArg RK aD;have awk:(dU,dk)=bY y.den:=congrArg Prod.snd aD;clear e aD;have jO:=xB Q;have xI:=xB al;have iN:=den_pos x;have jc:=den_pos y;have awl:=Q.1;have WD:=al.1;unfold je;generalize x.num=P at *;generalize (x.den:Int)=aN at *;generalize y.num=bK at *;generalize (y.den:Int)=S at *
   cases awj
   cases Zl
   cases Zm
   cases awk
   simp only[go_sem,go_sem_proc,fV,q2,y8,cm,cC,ib,jy,aa,bL];refine da [5,6,7,8] [135002,135003] (λ((sg,p,q,r,t):Int×Int×Int×Int×Int) tm mem=>(sg=1\/sg = -1)/\0<q/\0<t/\p.natAbs<ea/\q.natAbs<ea/\r.natAbs<ea/\t.natAbs<ea/\(P*S-bK*aN).sign=sg*(p*t-r*q).sign/\tm 9=.M (.int .i64 sg)/\mem 135005=some (0,[.M (.int .i64 p.sign),.M (.ay ((aZ p.natAbs).map aC))])/\mem 135006=some (0,[.M (.int .i64 q.sign),.M (.ay ((aZ q.natAbs).map aC))])/\mem 135007=some (0,[.M (.int .i64 r.sign),.M (.ay ((aZ r.natAbs).map aC))])/\mem 135008=some (0,[.M (.int .i64 t.sign),.M (.ay ((aZ t.natAbs).map aC))])) (λ(_,_,q,_,_)=>q.natAbs) (1,P,aN,bK,S) (by refine⟨.inl rfl,iN,jc,awl,jO,WD,xI,by rw[Int.one_mul],rfl,?_,?_,?_,?_⟩<;>rfl) ?_;intro vs ms aW aR;simp only[go_sem,go_sem_proc,fV,q2,y8] at aW aR;subst aW aR;rintro⟨sg,p,q,r,t⟩ tm mem I hm ⟨Fo,mP,MT,aF,aY,y9,bz,hT,jL,MU,uK,lr,Fp⟩;simp only[go_sem,go_sem_proc,fV,q2,y8,bh] at I hm;obtain⟨bt,b2,cb,cN⟩:=I;have MV:=nQ aF;have MW:=nQ aY;have CL:=nQ y9;have lt:=nQ bz;have j7:=aho aF aY mP;have mR:=aho y9 bz MT;have ahq:=Iu (y:=q) aF (by omega);have MX:=Iu (y:=t) y9 (by omega);have Iz:=nQ ahq;have MY:=nQ MX;have hq:AE ((p.fdiv q).sign,aZ (p.fdiv q).natAbs) ((r.fdiv t).sign,aZ (r.fdiv t).natAbs)=iI (p.fdiv q) (r.fdiv t):=agS ahq MX;have aN4:=RI (p:=p) mP;have bv:=RI (p:=r) MT;have awm:IntKind.i64.wrap (0-sg) = -sg:=by rcases Fo with rfl|rfl<;>rfl
   rcases Int.lt_trichotomy (p.fdiv q) (r.fdiv t) with aq|heq|kx
   ·have aA:=ahm mP MT aq;rw[ME aq] at hq;rw[hT,q0 aA];have hw:IntKind.i64.wrap (sg * -1)=sg * -1:=by rcases Fo with rfl|rfl<;>rfl
    refine ai ?_;repeat' (intro h<;>simp only[h,go_sem,go_sem_proc,fV,q2,y8,bt,b2,cb,cN,jL,hm,MU,uK,lr,Fp,MV,MW,CL,lt,Iz,MY,j7,mR,hq,hw,mU,eI,show ((-1:Int)==0)=false from rfl]<;>try refine ah ?_ ?_)
   ·have aA:=awh heq;rw[heq,Rr] at hq
    have hv:∀a:Int,-1<=a->a<=1->IntKind.i64.wrap (sg*a)=sg*a:=by
     intro a F G;rcases Fo with rfl|rfl<;>exact wrap64 _ (by omega) (by omega)
    rw[heq] at j7 Iz;have aN5:(p.fmod q).natAbs<ea:=by omega
    have aN6:(r.fmod t).natAbs<ea:=by omega
    rw[aA] at hT;generalize p.fmod q=u at *;generalize r.fmod t=v at *
    by_cases hu:u=0
    ·subst hu
     have X:(0*t-v*q).sign=(0:Int).sign-v.sign:=by
      rw[AG,ahr,E4,q1,jM mP,vT,za,ahr]
     rw[X] at hT;rw[hT];have af:=sd v;have Cv:IntKind.i64.wrap ((0:Int).sign-v.sign)=(0:Int).sign-v.sign:=wrap64 _ (by rw[za];omega) (by rw[za];omega);have hw:=hv ((0:Int).sign-v.sign) (by rw[za];omega) (by rw[za];omega);refine ai ?_;repeat' (intro h<;>simp only[h,go_sem,go_sem_proc,fV,q2,y8,bt,b2,cb,cN,jL,hm,MU,uK,lr,Fp,MV,MW,CL,lt,Iz,MY,j7,mR,hq,hw,Cv,mU,eI,show ((0:Int)==0)=true from rfl,show ((0:Int).sign==0)=true from rfl]<;>try refine ah ?_ ?_)
    ·have Fh:0<u:=by omega
     have Zn:(u.sign==0)=false:=by simpa using hu
     by_cases Hq:v=0
     ·subst Hq
      have X:(u*t-0*q).sign=u.sign-(0:Int).sign:=by
       rw[AG,Mn,q1,jM MT,vT,za,Mn]
      rw[X] at hT;rw[hT];have af:=sd u;have Cv:IntKind.i64.wrap (u.sign-(0:Int).sign)=u.sign-(0:Int).sign:=wrap64 _ (by rw[za];omega) (by rw[za];omega);have hw:=hv (u.sign-(0:Int).sign) (by rw[za];omega) (by rw[za];omega);refine ai ?_;repeat' (intro h<;>simp only[h,go_sem,go_sem_proc,fV,q2,y8,bt,b2,cb,cN,jL,hm,MU,uK,lr,Fp,MV,MW,CL,lt,Iz,MY,j7,mR,hq,hw,Cv,Zn,mU,eI,show ((0:Int)==0)=true from rfl,show ((0:Int).sign==0)=true from rfl]<;>try refine ah ?_ ?_)
     ·have pW:(v.sign==0)=false:=by simpa using Hq
      refine ai ?_;repeat' (intro h<;>simp only[h,go_sem,go_sem_proc,fV,q2,y8,bt,b2,cb,cN,jL,hm,MU,uK,lr,Fp,MV,MW,CL,lt,Iz,MY,j7,mR,hq,Zn,pW,awm,mU,eI,show ((0:Int)==0)=true from rfl]<;>try refine ah ?_ ?_)
      refine⟨(-sg,q,u,t,v),by dsimp only;omega,by dsimp only;omega,by dsimp only;omega,by dsimp only;omega,by dsimp only;omega,by dsimp only;omega,by dsimp only;omega,by dsimp only;omega,?_,by simp[go_sem],by simp[go_sem],by simp[go_sem],by simp[go_sem],by simp[go_sem]⟩
      dsimp only;rw[hT,ahn (q*v) (t*u),Int.neg_mul_neg,nI t u,nI q v]
   ·have aA:=ahm MT mP kx;rw[MF kx] at hq;rw[hT,ahn,q0 aA];have hw:IntKind.i64.wrap (sg*1)=sg * -(-1):=by rcases Fo with rfl|rfl<;>rfl
    refine ai ?_;repeat' (intro h<;>simp only[h,go_sem,go_sem_proc,fV,q2,y8,bt,b2,cb,cN,jL,hm,MU,uK,lr,Fp,MV,MW,CL,lt,Iz,MY,j7,mR,hq,hw,mU,eI,show ((1:Int)==0)=false from rfl]<;>try refine ah ?_ ?_)
  ·have bL:eY ((dP,cS),(dU,dk))=false:=by simpa using bL
   have hm:py ((s,l),(s2,aI)) ((dP,cS),(dU,dk))=0:=by unfold py;rw[ab aa,ae (by simp[bL])]
   rw[hm];refine ai ?_;repeat' (intro h<;>simp only[h,go_sem,go_sem_proc,fV,q2,y8,cm,cC,ib,jy,aa,bL]<;>try refine ah ?_ ?_)
 ·have aa:eY ((s,l),(s2,aI))=false:=by simpa using aa
  have hm:py ((s,l),(s2,aI)) ((dP,cS),(dU,dk))=0:=by unfold py;rw[ae (by simp[aa])]
  rw[hm];refine ai ?_;repeat' (intro h<;>simp only[h,go_sem,go_sem_proc,fV,q2,y8,cm,cC,ib,jy,aa]<;>try refine ah ?_ ?_)
def ahs:bu:=bT 22 2 [.t 4] (R [db 3 108003 1,cd 4 false] (.seq (R [aJ 6 1 3,a5 7 .lss 6 0,E 8 7,ew 9 8 1 3,gu 10 8 .gtr 9 40,c5 11 8 10,E 12 11,fY 13 12 0,ln 14 12 13,ew 15 12 1 3,p3 16 12 .neq 14 15,c5 17 12 16] (cx 17 [cd 4 false])) (R [aM 5 (.alloc 108005 [.M .tN]),⟨none,none,.store 1 (.t 5) (.c (.fx uo []))⟩] (R [E 18 0,aM 19 (.pa QF [.t 3,.t 5]),bV 20 Xo 18 19,e4 21 20,E 4 21] .ret))))
def aht:bu:=bT 48 2 [.t 4,.t 5] (R [eo 4,bk 5 0] (.seq (R [E 11 0,E 12 1,bV 13 Xl 11 12,e4 14 13] (cx 14 [eo 4,bk 5 1])) (R [E 16 0,E 17 1,aM 18 (.call Xp [.t 16,.t 17,.c (.M (.bool true))]),E 15 18,bl 19 0 15,bl 20 1 15,E 6 19,E 7 20] (.seq (.block 0 (R [E 22 6,hj 23 22,a0 24 2 23,aJ 25 1 24,E 21 25] (eC 21 (R [eo 4,bk 5 6] .ret) (R [E 27 7,b9 28 27,a5 29 .gtr 28 0,E 26 29] (cx 26 [eo 4,bk 5 17]))))) (R [eo 8] (.seq (R [E 30 6,hj 31 30,a0 32 0 31,aJ 33 1 32,b9 34 33,bk 35 0] (.block 1 (.ghost (.oa 8 109045 4) (.loop  (R [bm 36 .lss 35 34] (.seq (du 36 1) (.seq (.block 2 (R [bs 37 1 33 35,aJ 38 1 37,E 10 38] (.ops [E 39 8,E 40 10,E 41 1,bs 42 4 40 41,bd 43 4 42,aM 44 (.ff 109044 false dT 4 1 [(0,4,.t 43)]),aM 45 (.app 109045 dT 64 (.t 39) (.t 44)),E 8 45]))) (.ops [a5 46 .add 35 1,E 35 46])))))))) (R [E 47 8,E 4 47,bk 5 0] .ret)))))))
def ahu:bu:=bT 6 1 [.t 2] (R [db 1 125001 0,cd 2 false] (R [bd 3 4 1,dp 4 ma 3,e4 5 4,E 2 5] .ret))
def ahv:bu:=bT 22 3 [.t 4] (R [db 3 127003 0,cd 4 false] (R [a0 5 0 3,aJ 6 1 5,b9 7 6,aJ 8 1 1,bm 9 .neq 7 8,E 10 9,ew 11 10 1 2,fg 12 10 1 3,lG 13 10 4 12,fH 14 10 (.jV (.t 11) [.t 13]),c5 15 10 14,E 16 15,fg 17 16 0 3,ew 18 16 1 17,ew 19 16 1 2,fH 20 16 (.call LM [.t 18,.t 19]),c5 21 16 20,E 4 21] .ret))
def RL:bu:=bT 65 3 [.t 6,.t 7] (R [aM 6 (.jm (.c (.M .vj))),eo 7] (R [E 13 1,aM 14 (.build [.nil,bB 0,.M (.bool false)] [(1,1,.t 13)]),db 15 129015 14,E 8 15] (.seq (R [E 16 0,b9 17 16,bk 18 0] (dY 0 (R [bm 19 .lss 18 17] (.seq (du 19 0) (.seq (.block 1 (R [bs 20 5 16 18,bd 21 5 20,cL 10 129010 Mb,bf 5 10 21] (.mz [E 22 8,E 23 8,hj 24 23,a0 25 0 24,aJ 26 1 25,a0 27 0 10,aJ 28 1 27,aM 29 (.m8 129029 4 QI [.t 28]),a0 30 1 10,bd 31 4 30,aM 32 (.ff 129032 false dT 4 1 [(0,4,.t 31)]),aM 33 (.app 129033 dT 64 (.t 29) (.t 32)),aM 34 (.ff 129034 true [.nil] 1 1 [(0,1,.t 33)]),aM 35 (.app 129035 [.nil] 24 (.t 26) (.t 34)),hj 36 22,a0 37 0 36,bf 1 37 35] [[],[],[],[],[],[],[],[4],[],[7],[],[4],[4],[],[],[],[]]))) (.ghost (.move) (.ops [a5 38 .add 18 1,E 18 38]))))))) (R [eo 11] (.seq (R [bk 12 0] (.block 2 (.ghost (.oa 11 129061 1) (.loop  (.seq (R [E 39 12,E 40 1,bm 41 .lss 39 40,E 42 41,dv 43 42 8,gv 44 42 (.sE (.t 43)),lo 45 42 2 44,hr 46 42 1 45,xp 47 42 46,e9 48 42 47] (du 48 2)) (.seq (.block 3 (R [E 51 8,E 52 12,E 53 11,b9 54 53,bm 55 .sub 52 54,E 56 12,Al 57 Xw 51 55 56] (eC 57 (R [E 58 11,E 59 12,aM 60 (.ff 129060 false [bB 0] 1 1 [(0,1,.t 59)]),aM 61 (.app 129061 [bB 0] 8 (.t 58) (.t 60)),E 11 61] (R [E 62 2] (eC 62 (.exit 2) .skip))) .skip))) (.ops [E 49 12,a5 50 .add 49 1,E 12 50]))))))) (R [E 63 8,E 64 11,E 6 63,E 7 64] .ret))))))
def zb:bu:=bT 172 3 [.t 6] (R [cd 6 false] (R [E 15 1,E 7 15] (.seq (dY 0 (.seq (R [E 16 7,E 17 0,hj 18 17,a0 19 1 18,aJ 20 1 19,bm 21 .lss 16 20,E 22 21,dv 23 22 0,gv 24 22 (.sE (.t 23)),lo 25 22 0 24,hr 26 22 1 25,dv 27 22 7,qO 28 22 1 26 27,hr 29 22 1 28,dv 30 22 2,qO 31 22 4 29 30,r3 32 22 4 31,gv 33 22 (.call LQ [.t 32]),e9 34 22 33] (du 34 0)) (.block 1 (.ops [E 35 7,a5 36 .add 35 1,E 7 36])))) (.seq (R [E 37 7,E 38 0,hj 39 38,a0 40 1 39,aJ 41 1 40,bm 42 .eql 37 41] (cx 42 [cd 6 true])) (eR [E 43 0,hj 44 43,a0 45 0 44,aJ 46 1 45,E 47 1,E 48 0,hj 49 48,a0 50 0 49,aJ 51 1 50,E 52 7,E 53 0,hj 54 53,a0 55 0 54,aJ 56 1 55,E 57 7,bs 58 1 56 57,aJ 59 1 58,E 60 0,hj 61 60,a0 62 0 61,aJ 63 1 62,E 64 1,bs 65 1 63 64,aJ 66 1 65,bs 67 1 46 47,bf 1 67 59,bs 68 1 51 52,bf 1 68 66] aua (R [E 69 0,hj 70 69,a0 71 0 70,aJ 72 1 71,E 73 1,bs 74 1 72 73,aJ 75 1 74,E 76 2,bs 77 4 75 76,bd 78 4 77,cL 8 148008 dT,bf 4 8 78] (.seq (R [E 79 0,hj 80 79,a0 81 0 80,aJ 82 1 81,E 83 1,bs 84 1 82 83,aJ 85 1 84,b9 86 85,bk 87 0] (dY 2 (R [bm 88 .lss 87 86] (.seq (du 88 2) (.seq (.block 3 (R [E 89 87,bs 90 4 85 87,bd 91 4 90,cL 10 148010 dT,E 9 89,bf 4 10 91] (.mz [E 92 0,hj 93 92,a0 94 0 93,aJ 95 1 94,E 96 1,bs 97 1 95 96,aJ 98 1 97,E 99 9,E 100 0,bd 101 4 10,bd 102 4 8,bV 103 EA 101 102,bl 104 0 103,bl 105 1 103,aM 106 (.my 2 Cf [.t 100,.t 104,.t 105]),bs 107 4 98 99,bf 4 107 106] [[],[],[],[],[],[],[],[],[],[],[],[],[],[],[3,6],[],[]]))) (.ops [a5 108 .add 87 1,E 87 108])))))) (.seq (R [E 109 0,hj 110 109,a0 111 0 110,aJ 112 1 111,b9 113 112,bk 114 0] (dY 4 (R [bm 115 .lss 114 113] (.seq (du 115 4) (.seq (.block 5 (R [E 116 114,bs 117 1 112 114,aJ 118 1 117,E 11 116,E 12 118] (R [E 119 12,E 120 2,bs 121 4 119 120,bd 122 4 121,cL 13 148013 dT,bf 4 13 122] (.seq (R [E 123 11,E 124 1,bm 125 .eql 123 124,E 126 125,lG 127 126 4 13,fH 128 126 (.call LQ [.t 127]),c5 129 126 128] (eC 129 (.exit 5) .skip)) (R [bk 14 0] (dY 6 (.seq (R [E 130 14,E 131 12,b9 132 131,bm 133 .lss 130 132,E 134 133,dv 135 134 0,gv 136 134 (.sE (.t 135)),lo 137 134 2 136,hr 138 134 1 137,xp 139 134 138,e9 140 134 139] (du 140 6)) (.seq (.block 7 (.mz [E 143 12,E 144 14,E 145 0,E 146 12,E 147 14,bs 148 4 146 147,bd 149 4 148,E 150 0,bd 151 4 13,E 152 0,hj 153 152,a0 154 0 153,aJ 155 1 154,E 156 1,bs 157 1 155 156,aJ 158 1 157,E 159 14,bs 160 4 158 159,bd 161 4 160,bV 162 xm 151 161,bl 163 0 162,bl 164 1 162,aM 165 (.my 2 Cf [.t 150,.t 163,.t 164]),bV 166 vH 149 165,bl 167 0 166,bl 168 1 166,aM 169 (.my 2 Cf [.t 145,.t 167,.t 168]),bs 170 4 143 144,bf 4 170 169] [[],[],[],[],[],[],[],[],[],[],[],[],[],[],[],[],[],[],[],[],[],[],[6],[],[],[],[],[],[]])) (.ops [E 141 14,a5 142 .add 141 1,E 14 142]))))))))) (.ops [a5 171 .add 114 1,E 114 171])))))) (R [cd 6 false] .ret)))))))))
def ahw:bu:=bT 7 1 [.t 2] (R [db 1 167001 0,cd 2 false] (R [a0 3 0 1,a0 4 0 3,aJ 5 1 4,a5 6 .eql 5 0,E 2 6] .ret))
def RM:bu:=bT 19 3 [.cell 6 4 true] (R [db 4 168004 1,cL 6 168006 dT] (R [E 7 0,E 8 0,hj 9 8,a0 10 2 9,aJ 11 1 10,E 12 11,fY 13 12 2,gu 14 12 .neq 13 0,c5 15 12 14,hj 16 7,a0 17 2 16,bf 1 17 15] (R [bd 18 4 4,bf 4 6 18] .ret)))
def wb:bu:=bT 92 2 [.cell 4 3 true,.t 5] (R [cL 4 217004 xq,bk 5 0] (.seq (R [E 15 0,E 16 1,bV 17 HO 15 16,e4 18 17] (cx 18 [aM 19 (.build xq []),bf 3 4 19,bk 5 1])) (R [E 20 0,E 21 1,bV 22 LW 20 21,E 6 22] (R [cL 7 217007 xq] (.seq (dY 0 (.block 1 (R [E 24 6,dp 25 HP 24,E 23 25,bl 26 0 23,bl 27 1 23,aM 8 (.alloc 217008 [.nil]),bf 1 8 26,E 9 27] (.seq (R [E 28 9,e4 29 28] (cx 29 [aM 30 (.build xq []),bf 3 4 30,bk 5 6])) (R [eo 10] (.seq (R [E 31 6,b9 32 31,bk 33 0] (.block 2 (.ghost (.oa 10 217057 1) (.loop  (R [bm 34 .lss 33 32] (.seq (du 34 2) (.seq (.block 3 (R [E 35 33,bs 36 1 31 33,aJ 37 1 36,aM 11 (.alloc 217011 [bB 0]),bf 1 11 35,E 12 37] (.seq (eR [aJ 38 1 8,aJ 39 1 11,bs 40 4 38 39,bd 41 4 40,E 42 12,E 43 12,hj 44 43,a0 45 22 44,aJ 46 1 45,hj 47 42,a0 48 11 47,aM 49 (.o9 11 1 (.t 48) (.t 46)),aJ 50 1 49,dp 51 om 50,bV 52 kP 41 51,a5 53 .geq 52 0] ER (eC 53 (.exit 3) .skip)) (R [E 54 10,aJ 55 1 11,aM 56 (.ff 217056 false [bB 0] 1 1 [(0,1,.t 55)]),aM 57 (.app 217057 [bB 0] 8 (.t 54) (.t 56)),E 10 57] (.ops [E 58 12,E 59 12,hj 60 59,a0 61 11 60,aM 62 (.tO 11 1 (.t 61) (some (.c (bB 1))) none none),aM 63 (.pa ED [.t 8,.t 11]),bV 64 uv 62 63,hj 65 58,a0 66 22 65,bf 1 66 64]))))) (.ops [a5 67 .add 33 1,E 33 67])))))))) (.seq (R [E 68 10,b9 69 68,a5 70 .eql 69 0] (eC 70 (R [aJ 71 1 8,a0 72 0 7,bf 1 72 71] (.exit 0)) .skip)) (.ghost (.freeze 10) (.ops [a0 73 2 7,aJ 74 1 73,E 75 10,aM 76 (.ff 217076 false [.nil] 1 1 [(0,1,.t 75)]),aM 77 (.app 217077 [.nil] 24 (.t 74) (.t 76)),a0 78 2 7,bf 1 78 77]))))))))) (.seq (.ghost (.many) (.ops [E 80 1,a0 81 0 7,aJ 82 1 81,bV 83 LX 80 82,E 79 83,bl 84 0 79,bl 85 1 79,E 13 84,E 14 85])) (.seq (R [E 86 14,e4 87 86] (cx 87 [aM 88 (.build xq []),bf 3 4 88,bk 5 6])) (R [E 89 13,a0 90 1 7,bf 1 90 89] (R [bd 91 3 7,bf 3 4 91,bk 5 0] .ret)))))))))
def ahx:bu:=bT 32 2 [.t 4] (R [cd 4 false] (R [E 9 0,b9 10 9,aM 5 (.alloc 227005 [bB 0]),bf 1 5 10] (R [aM 6 (.alloc 227006 [.M .tN]),⟨none,none,.store 1 (.t 6) (.c (.fx Cg []))⟩] (R [aM 11 (.pa LZ [.t 6]),E 7 11] (R [aM 12 (.pa L0 [.t 6,.t 5]),E 8 12] (R [aJ 13 1 5,a5 14 .leq 13 60,E 15 14,dv 16 15 1,Ma 17 15 16,hG 18 15 .leq 17 2000,e9 19 15 18,E 20 19,dv 21 20 0,dv 22 20 7,gv 23 20 (.call EE [.t 21,.t 22]),xp 24 20 23,e9 25 20 24,E 26 25,dv 27 26 1,dv 28 26 8,gv 29 26 (.call Aj [.t 27,.t 28]),xp 30 26 29,e9 31 26 30,E 4 31] .ret))))))
def CM:bu:=bT 73 2 [.t 4] (R [eo 4] (R [eo 5] (.seq (R [E 12 0,b9 13 12,bk 14 0] (.block 0 (.ghost (.oa 5 228023 1) (.loop  (R [bm 15 .lss 14 13] (.seq (du 15 0) (.seq (.block 1 (R [bs 16 1 12 14,aJ 17 1 16,E 7 17] (.ops [E 18 5,E 19 7,aM 20 (.build [bB 0,.nil,.nil,.nil,.nil,.nil,.nil,.nil,.nil,.nil,.nil,bB 0,bB 0,bB 0,bB 0,bB 0,bB 0,bB 0,bB 0,bB 0,bB 0,bB 0,bB 0,.M (.bool false)] [(0,1,.t 19),(22,1,.c (bB 10))]),db 21 228021 20,aM 22 (.ff 228022 true [.M .vj] 1 1 [(0,1,.t 21)]),aM 23 (.app 228023 [.M .vj] 8 (.t 18) (.t 22)),E 5 23]))) (.ghost (.many) (.ops [a5 24 .add 14 1,E 14 24]))))))))) (.seq (R [E 25 1,b9 26 25,bk 27 0] (dY 2 (R [bm 28 .lss 27 26] (.seq (du 28 2) (.seq (.block 3 (R [bs 29 4 25 27,bd 30 4 29,cL 9 228009 lp,bf 4 9 30] (R [E 31 5,a0 32 0 9,aJ 33 1 32,bs 34 1 31 33,aJ 35 1 34,E 10 35] (eR [E 36 10,a0 37 2 9,aJ 38 1 37,E 39 10,a0 40 2 9,aJ 41 1 40,hj 42 39,a0 43 1 42,aM 44 (.o9 10 1 (.t 43) (.t 41)),aJ 45 1 44,bd 46 4 9,aM 47 (.ff 228047 false lp 4 1 [(0,4,.t 46)]),aM 48 (.app 228048 lp 32 (.t 45) (.t 47)),hj 49 36,a0 50 1 49,aM 51 (.o9 10 1 (.t 50) (.t 38)),bf 1 51 48] [[],[],[],[],[],[],[],[],[],[],[],[],[2],[],[],[],[]] (.seq (.ghost (.many) (.ops [a0 52 2 9,aJ 53 1 52,a5 54 .add 53 1,E 11 54])) (dY 4 (.seq (R [E 55 11,a5 56 .leq 55 10] (du 56 4)) (.seq (.block 5 (.mz [E 59 10,E 60 11,hj 61 59,a0 62 11 61,aM 63 (.o9 11 1 (.t 62) (.t 60)),aJ 64 1 63,a0 65 3 9,aJ 66 1 65,bm 67 .add 64 66,hj 68 59,a0 69 11 68,aM 70 (.o9 11 1 (.t 69) (.t 60)),bf 1 70 67] Yb)) (.ops [E 57 11,a5 58 .add 57 1,E 11 58]))))))))) (.ops [a5 71 .add 27 1,E 27 71])))))) (.seq (.ghost (.many) (.ops [E 72 5,E 4 72])) .ret)))))
def IA:bu:=bT 72 1 [.t 2,.t 3] (R [eo 2,cd 3 false] (.seq (R [E 11 0,b9 12 11,bk 13 0] (dY 0 (R [bm 14 .lss 13 12] (.seq (du 14 0) (.seq (.block 1 (R [bs 15 1 11 13,aJ 16 1 15,E 5 16] (.ops [E 17 5,hj 18 17,a0 19 23 18,⟨none,none,.store 1 (.t 19) (.c (.M (.bool false)))⟩]))) (.ops [a5 20 .add 13 1,E 13 20])))))) (dY 2 (.block 3 (R [E 22 0,dp 23 XJ 22,E 21 23,bl 24 0 21,bl 25 1 21,E 6 24,E 7 25] (.seq (R [E 26 7,e4 27 26] (cx 27 [eo 2,cd 3 false])) (R [cd 8 false] (.seq (R [E 28 0,b9 29 28,bk 30 0] (dY 4 (R [bm 31 .lss 30 29] (.seq (du 31 4) (.seq (.block 5 (R [E 32 30,bs 33 1 28 30,aJ 34 1 33,E 9 32,E 10 34] (eR [E 35 10,hj 36 35,a0 37 22 36,aJ 38 1 37,a5 39 .lss 38 10,E 40 39,dv 41 40 10,gv 42 40 (.sE (.t 41)),lo 43 40 23 42,hr 44 40 1 43,xp 45 40 44,e9 46 40 45,E 47 46,dv 48 47 6,dv 49 47 9,qO 50 47 4 48 49,r3 51 47 4 50,dv 52 47 10,dv 53 47 10,gv 54 47 (.sE (.t 53)),lo 55 47 22 54,hr 56 47 1 55,gv 57 47 (.sE (.t 52)),lo 58 47 11 57,gv 59 47 (.o9 11 1 (.t 58) (.t 56)),hr 60 47 1 59,gv 61 47 (.call om [.t 60]),gv 62 47 (.call kP [.t 51,.t 61]),hG 63 47 .gtr 62 0,e9 64 47 63] aub (eC 64 (.ops [E 65 10,hj 66 65,a0 67 23 66,⟨none,none,.store 1 (.t 67) (.c (.M (.bool true)))⟩,cd 8 true]) .skip)))) (.ops [a5 68 .add 30 1,E 30 68])))))) (R [E 69 8,e4 70 69] (cx 70 [E 71 6,E 2 71,cd 3 true]))))))))))
def ahy:bu:=bT 11 1 [.cell 2 4 true] (R [cL 2 230002 dT] (R [E 6 0,aM 7 (.call Ah [.t 6,.c (bB 1)]),E 5 7,bl 8 0 5,bl 9 1 5,cL 3 230003 dT,bf 4 3 8,E 4 9] (R [bd 10 4 3,bf 4 2 10] .ret)))
def ahz:bu:=bT 13 3 [.t 4] (R [cd 4 false] (eR [aJ 5 1 1,aJ 6 1 2,bs 7 4 5 6,bd 8 4 7,E 9 0,dp 10 om 9,bV 11 kP 8 10,a5 12 .lss 11 0,E 4 12] EO .ret))
def CN:bu:=bT 96 2 [.t 4,.t 5] (R [eo 4,cd 5 false] (R [E 17 1,b9 18 17,aM 19 (.mx 233019 [.nil] 24 (.t 18) (.t 18)),E 6 19] (R [E 20 1,b9 21 20,aM 22 (.mx 233022 [.nil] 24 (.t 21) (.t 21)),E 7 22] (.seq (R [E 23 0,b9 24 23,bk 25 0] (dY 0 (R [bm 26 .lss 25 24] (.seq (du 26 0) (.seq (.block 1 (R [E 27 25,bs 28 4 23 25,bd 29 4 28,cL 9 233009 lp,E 8 27,bf 4 9 29] (.mz [E 30 6,a0 31 0 9,aJ 32 1 31,E 33 7,a0 34 0 9,aJ 35 1 34,E 36 6,a0 37 0 9,aJ 38 1 37,bs 39 1 36 38,aJ 40 1 39,bd 41 4 9,aM 42 (.ff 233042 false lp 4 1 [(0,4,.t 41)]),aM 43 (.app 233043 lp 32 (.t 40) (.t 42)),E 44 7,a0 45 0 9,aJ 46 1 45,bs 47 1 44 46,aJ 48 1 47,E 49 8,aM 50 (.ff 233050 false [bB 0] 1 1 [(0,1,.t 49)]),aM 51 (.app 233051 [bB 0] 8 (.t 48) (.t 50)),bs 52 1 30 32,bf 1 52 43,bs 53 1 33 35,bf 1 53 51] [[],[],[],[],[],[],[],[],[],[],[],[],[],[2,5],[],[],[13],[],[13],[],[],[2,5],[],[5],[],[]]))) (.ghost (.many) (.ops [a5 54 .add 25 1,E 25 54]))))))) (.seq (.ghost (.many) (.ops [E 55 0,b9 56 55,aM 57 (.mx 233057 dT 64 (.t 56) (.t 56)),E 10 57])) (.seq (R [E 58 6,b9 59 58,bk 60 0] (dY 2 (R [bm 61 .lss 60 59] (.seq (du 61 2) (.seq (.block 3 (R [E 62 60,bs 63 1 58 60,aJ 64 1 63,E 11 62,E 12 64] (R [E 66 1,E 67 11,bs 68 4 66 67,bd 69 4 68,E 70 12,bV 71 L1 69 70,E 65 71,bl 72 0 65,bl 73 1 65,E 13 72,E 14 73] (.seq (R [E 74 14,a5 75 .neq 74 0] (cx 75 [eo 4,cd 5 false])) (R [E 76 7,E 77 11,bs 78 1 76 77,aJ 79 1 78,b9 80 79,bk 81 0] (dY 4 (R [bm 82 .lss 81 80] (.seq (du 82 4) (.seq (.block 5 (R [E 83 81,bs 84 1 79 81,aJ 85 1 84,E 15 83,E 16 85] (.ops [E 86 10,E 87 16,E 88 13,E 89 15,bs 90 4 88 89,bd 91 4 90,bs 92 4 86 87,bf 4 92 91]))) (.ops [a5 93 .add 81 1,E 81 93])))))))))) (.ops [a5 94 .add 60 1,E 60 94])))))) (.seq (.ghost (.freeze 10) (.ops [E 95 10,E 4 95,cd 5 true])) .ret)))))))
def ahA:bu:=bT 15 3 [.t 6] (R [cd 6 false] (R [E 7 0,E 8 1,bm 9 .geq 7 8,E 10 9,dv 11 10 0,dv 12 10 2,vP 13 10 .leq 11 12,e9 14 10 13,E 6 14] .ret))
def ahB:bu:=bT 8 2 [.t 3] (R [cd 3 false] (R [aJ 4 1 1,E 5 0,aM 6 (.jV (.t 4) [.t 5,.c (bB 0),.c (bB 1000000000000000)]),e4 7 6,E 3 7] .ret))
def ahC:bu:=bT 35 3 [.t 4] (R [db 3 245003 0,cd 4 false] (R [aJ 5 1 1,a0 6 0 3,aJ 7 1 6,aJ 8 1 2,a5 9 .sub 8 1,aM 10 (.jV (.t 5) [.t 7,.c (bB 0),.t 9]),e4 11 10,E 12 11,ew 13 12 1 1,fg 14 12 1 3,ew 15 12 1 14,ew 16 12 1 2,gu 17 12 .sub 16 1,fH 18 12 (.jV (.t 13) [.t 15,.c (.M (.int .i64 (-1))),.t 17]),jb 19 12 18,c5 20 12 19,E 21 20,ew 22 21 1 1,fg 23 21 2 3,ew 24 21 1 23,fH 25 21 (.jV (.t 22) [.t 24,.c (bB 0),.c (bB 9)]),jb 26 21 25,c5 27 21 26,E 28 27,ew 29 28 1 1,fg 30 28 3 3,ew 31 28 1 30,fH 32 28 (.jV (.t 29) [.t 31,.c (bB 0),.c (bB 1000000000000000)]),jb 33 28 32,c5 34 28 33,E 4 34] .ret))
def wc:bu:=bT 159 1 [.t 2,.t 3] (R [eo 2,cd 3 false] (R [E 26 0,b9 27 26,E 4 27] (R [E 28 4,aM 29 (.mx 248029 [bB 0] 8 (.t 28) (.t 28)),E 5 29] (R [eo 6] (R [eo 7] (.seq (R [E 30 0,b9 31 30,bk 32 0] (.block 0 (.ghost (.oa 6 248094 1) (.ghost (.oa 7 248098 1) (.loop  (R [bm 33 .lss 32 31] (.seq (du 33 0) (.seq (.block 1 (R [E 34 32,bs 35 1 30 32,aJ 36 1 35,E 8 34,E 9 36] (eR [E 37 5,E 38 8,bs 39 1 37 38,aJ 40 1 39,E 41 9,hj 42 41,a0 43 0 42,aJ 44 1 43,bm 45 .add 40 44,bs 46 1 37 38,bf 1 46 45] EP (.seq (R [E 47 9,hj 48 47,a0 49 22 48,aJ 50 1 49,bk 51 0] (dY 2 (R [bm 52 .lss 51 50] (.seq (du 52 2) (.seq (.block 3 (R [E 53 51,E 10 53] (R [E 54 9,E 55 10,hj 56 54,a0 57 1 56,aM 58 (.o9 10 1 (.t 57) (.t 55)),aJ 59 1 58,b9 60 59,bk 61 0] (dY 4 (R [bm 62 .lss 61 60] (.seq (du 62 4) (.seq (.block 5 (R [bs 63 4 59 61,bd 64 4 63,cL 12 248012 lp,bf 4 12 64] (R [a0 65 1 12,aJ 66 1 65,a5 67 .geq 66 0] (eC 67 (.mz [E 68 5,a0 69 1 12,aJ 70 1 69,bs 71 1 68 70,aJ 72 1 71,a0 73 3 12,aJ 74 1 73,bm 75 .add 72 74,bs 76 1 68 70,bf 1 76 75] HX) .skip)))) (.ops [a5 77 .add 61 1,E 61 77])))))))) (.ops [a5 78 .add 51 1,E 51 78])))))) (R [E 79 9,hj 80 79,a0 81 23 80,aJ 82 1 81] (eC 82 (R [E 84 9,E 85 4,bV 86 QP 84 85,E 83 86,bl 87 0 83,bl 88 1 83,E 13 87,E 14 88] (.seq (R [E 89 14,e4 90 89] (cx 90 [eo 2,cd 3 false])) (.ops [E 91 6,E 92 8,aM 93 (.ff 248093 false [bB 0] 1 1 [(0,1,.t 92)]),aM 94 (.app 248094 [bB 0] 8 (.t 91) (.t 93)),E 95 7,E 96 13,aM 97 (.ff 248097 false [.nil] 1 1 [(0,1,.t 96)]),aM 98 (.app 248098 [.nil] 24 (.t 95) (.t 97)),E 6 94,E 7 98]))) .skip)))))) (.ops [a5 99 .add 32 1,E 32 99]))))))))) (.seq (.ghost (.freeze 5) (.ghost (.freeze 6) (.ghost (.freeze 7) (.ops [E 101 0,E 102 5,E 103 6,E 104 7,Am 105 XM 101 102 103 104,E 100 105,bl 106 0 100,bl 107 1 100,E 15 106,E 16 107])))) (.seq (R [E 108 16,e4 109 108] (cx 109 [eo 2,cd 3 false])) (R [eo 17] (.seq (R [E 110 5,b9 111 110,bk 112 0] (.block 6 (.ghost (.oa 17 248156 4) (.loop  (R [bm 113 .lss 112 111] (.seq (du 113 6) (.seq (.block 7 (R [E 114 112,bs 115 1 110 112,aJ 116 1 115,E 18 114,E 19 116] (R [E 117 19,dp 118 om 117,cL 20 248020 dT,bf 4 20 118] (.seq (R [E 119 6,b9 120 119,bk 121 0] (dY 8 (R [bm 122 .lss 121 120] (.seq (du 122 8) (.seq (.block 9 (R [E 123 121,E 21 123] (eR [E 125 7,E 126 21,bs 127 1 125 126,aJ 128 1 127,E 129 18,bs 130 4 128 129,bd 131 4 130,E 132 15,E 133 21,bs 134 4 132 133,bd 135 4 134,bV 136 xm 131 135,E 124 136,bl 137 0 124,bl 138 1 124,cL 22 248022 dT,bf 4 22 137,E 23 138] [[],[],[],[],[],[],[],[],[],[],[],[],[],[],[],[3,6,10],[],[]] (R [bd 140 4 20,bd 141 4 22,bV 142 vG 140 141,E 139 142,bl 143 0 139,bl 144 1 139,cL 24 248024 dT,bf 4 24 143,E 25 144] (.seq (R [E 145 23,a5 146 .neq 145 0,E 147 146,fY 148 147 25,gu 149 147 .neq 148 0,c5 150 147 149] (cx 150 [eo 2,cd 3 false])) (.ops [bd 151 4 24,bf 4 20 151])))))) (.ops [a5 152 .add 121 1,E 121 152])))))) (.ops [E 153 17,bd 154 4 20,aM 155 (.ff 248155 false dT 4 1 [(0,4,.t 154)]),aM 156 (.app 248156 dT 64 (.t 153) (.t 155)),E 17 156]))))) (.ops [a5 157 .add 112 1,E 112 157])))))))) (.seq (.ghost (.freeze 17) (.ops [E 158 17,E 2 158,cd 3 true])) .ret)))))))))))
def RN:bu:=bT 88 2 [.t 4,.t 5] (R [eo 4,cd 5 false] (R [aM 14 (.call om [.c (bB 0)]),aM 15 (.ff 255015 false dT 4 1 [(0,4,.t 14)]),E 16 1,aM 17 (.m8 255017 4 Xq [.t 15,.t 16]),E 6 17] (R [cd 7 true] (.seq (eR [E 18 0,E 19 0,hj 20 19,a0 21 22 20,aJ 22 1 21,hj 23 18,a0 24 1 23,aM 25 (.o9 10 1 (.t 24) (.t 22)),aJ 26 1 25,b9 27 26,bk 28 0] EP (dY 0 (R [bm 29 .lss 28 27] (.seq (du 29 0) (.seq (.block 1 (R [bs 30 4 26 28,bd 31 4 30,cL 9 255009 lp,bf 4 9 31] (.seq (R [a0 32 1 9,aJ 33 1 32,a5 34 .lss 33 0] (eC 34 (.exit 1) .skip)) (eR [a0 36 3 9,aJ 37 1 36,E 38 0,E 39 0,hj 40 39,a0 41 22 40,aJ 42 1 41,a5 43 .add 42 1,hj 44 38,a0 45 11 44,aM 46 (.o9 11 1 (.t 45) (.t 43)),aJ 47 1 46,E 48 0,E 49 0,hj 50 49,a0 51 22 50,aJ 52 1 51,hj 53 48,a0 54 11 53,aM 55 (.o9 11 1 (.t 54) (.t 52)),aJ 56 1 55,bm 57 .sub 47 56,bV 58 Ah 37 57,E 35 58,bl 59 0 35,bl 60 1 35,cL 10 255010 dT,bf 4 10 59,E 11 60] [[],[],[],[],[],[],[],[],[],[],[],[],[],[],[],[],[],[],[],[],[],[],[],[],[],[],[1,6,11,16,20],[],[]] (eR [E 62 6,a0 63 1 9,aJ 64 1 63,bs 65 4 62 64,bd 66 4 65,bd 67 4 10,bV 68 vG 66 67,E 61 68,bl 69 0 61,bl 70 1 61,cL 12 255012 dT,bf 4 12 69,E 13 70] [[],[],[],[],[],[],[],[],[],[],[2,4,5],[],[]] (R [E 71 7,E 72 71,dv 73 72 11,hG 74 72 .eql 73 0,e9 75 72 74,E 76 75,dv 77 76 13,hG 78 76 .eql 77 0,e9 79 76 78,E 7 79] (.ops [E 80 6,a0 81 1 9,aJ 82 1 81,bd 83 4 12,bs 84 4 80 82,bf 4 84 83]))))))) (.ops [a5 85 .add 28 1,E 28 85])))))) (.seq (.ghost (.freeze 6) (.ops [E 86 6,E 87 7,E 4 86,E 5 87])) .ret)))))
def IB:bu:=bT 94 4 [.t 8,.t 9] (R [eo 8,cd 9 false] (R [eo 10] (.seq (R [E 20 2,b9 21 20,bk 22 0] (.block 0 (.ghost (.oa 10 256082 5) (.loop  (R [bm 23 .lss 22 21] (.seq (du 23 0) (.seq (.block 1 (R [E 24 22,bs 25 1 20 22,aJ 26 1 25,E 11 24,E 12 26] (eR [E 27 1,E 28 12,bs 29 1 27 28,aJ 30 1 29,E 31 0,E 32 12,bs 33 1 31 32,aJ 34 1 33,E 35 0,E 36 12,bs 37 1 35 36,aJ 38 1 37,hj 39 38,a0 40 22 39,aJ 41 1 40,hj 42 34,a0 43 11 42,aM 44 (.o9 11 1 (.t 43) (.t 41)),aJ 45 1 44,bm 46 .sub 30 45,dp 47 om 46,aM 48 (.build Mb [(1,4,.t 47)]),cL 13 256013 Mb,bf 5 13 48] [[],[],[],[],[],[],[],[],[],[],[],[],[],[],[],[],[],[],[],[],[],[],[3,7,11,14,18],[]] (.seq (.seq (.ghost (.PO (.t 13) 0 256076 4) (.ops [E 49 2,b9 50 49,bk 51 0])) (dY 2 (R [bm 52 .lss 51 50] (.seq (du 52 2) (.seq (.block 3 (R [E 53 51,E 14 53] (R [bk 15 0] (.seq (R [E 54 14,E 55 11,bm 56 .eql 54 55] (eC 56 (.ops [bk 15 1]) .skip)) (eR [E 58 15,dp 59 om 58,E 60 3,E 61 14,bs 62 1 60 61,aJ 63 1 62,E 64 12,bs 65 4 63 64,bd 66 4 65,bV 67 vH 59 66,E 57 67,bl 68 0 57,bl 69 1 57,cL 16 256016 dT,bf 4 16 68,E 17 69] [[],[],[],[],[],[],[],[],[],[],[],[],[],[5,8],[],[]] (.seq (R [E 70 17,a5 71 .neq 70 0] (cx 71 [eo 8,cd 9 false])) (.ops [a0 72 0 13,aJ 73 1 72,bd 74 4 16,aM 75 (.ff 256075 false dT 4 1 [(0,4,.t 74)]),aM 76 (.app 256076 dT 64 (.t 73) (.t 75)),a0 77 0 13,bf 1 77 76]))))))) (.ops [a5 78 .add 51 1,E 51 78])))))) (.ghost (.PQ (.t 13) 0) (.ops [E 79 10,bd 80 5 13,aM 81 (.ff 256081 false Mb 5 1 [(0,5,.t 80)]),aM 82 (.app 256082 Mb 88 (.t 79) (.t 81)),E 10 82])))))) (.ops [a5 83 .add 22 1,E 22 83])))))))) (.seq (.ghost (.freeze 10) (.ops [E 85 10,E 86 2,b9 87 86,bV 88 Xm 85 87,E 84 88,bl 89 0 84,bl 90 1 84,E 18 89,E 19 90])) (R [E 91 18,E 92 19,a5 93 .eql 92 0,E 8 91,E 9 93] .ret)))))
def ahD:bu:=bT 36 3 [.t 6] (R [db 5 286005 2,bk 6 0] (R [E 10 0,E 11 1,bd 12 3 5,aM 13 (.build [.nil,.nil,.nil,.nil,.nil] [(0,1,.t 10),(1,1,.t 11),(2,3,.t 12)]),aM 7 (.alloc 286007 [.nil,.nil,.nil,.nil,.nil]),bf 5 7 13] (.seq (R [bd 14 5 7,dp 15 XN 14,e4 16 15] (cx 16 [bk 6 1])) (.seq (R [E 17 0,b9 18 17,bk 19 0] (dY 0 (R [bm 20 .lss 19 18] (.seq (du 20 0) (.seq (.block 1 (R [E 21 19,E 8 21] (R [bd 22 5 7,E 23 8,bV 24 XO 22 23,E 9 24] (R [E 25 9,a5 26 .neq 25 0] (cx 26 [E 27 9,E 6 27]))))) (.ops [a5 28 .add 19 1,E 19 28])))))) (.seq (R [bd 29 5 7,dp 30 XP 29,e4 31 30,E 32 31,lG 33 32 5 7,fH 34 32 (.call XQ [.t 33]),c5 35 32 34] (cx 35 [bk 6 24])) (R [bk 6 0] .ret))))))
def ahE:bu:=bT 61 1 [.t 2] (R [db 1 287001 0,cd 2 false] (R [a0 7 0 1,aJ 8 1 7,b9 9 8,aM 3 (.alloc 287003 [bB 0]),bf 1 3 9] (R [aM 4 (.alloc 287004 [.M .tN]),⟨none,none,.store 1 (.t 4) (.c (.fx xn []))⟩] (R [aM 10 (.pa HU [.t 3,.t 4]),E 5 10] (R [aM 6 (.jm (.c (.fx EG [])))] (.seq (R [aJ 11 1 3,a5 12 .gtr 11 60,E 13 12,fg 14 13 1 1,ew 15 13 1 14,ln 16 13 15,gu 17 13 .gtr 16 2000,c5 18 13 17,E 19 18,fg 20 19 2 1,fg 21 19 0 20,ew 22 19 1 21,ln 23 19 22,ew 24 19 1 3,p3 25 19 .neq 23 24,c5 26 19 25,E 27 26,fg 28 27 2 1,fg 29 27 1 28,ew 30 27 1 29,ln 31 27 30,fg 32 27 1 1,ew 33 27 1 32,ln 34 27 33,p3 35 27 .neq 31 34,c5 36 27 35] (cx 36 [cd 2 false])) (R [a0 37 0 1,aJ 38 1 37,aJ 39 1 4,bV 40 XR 38 39,E 41 40,lo 42 41 1 1,hr 43 41 1 42,dv 44 41 5,gv 45 41 (.call XS [.t 43,.t 44]),e9 46 41 45,E 47 46,lo 48 47 2 1,lo 49 47 0 48,hr 50 47 1 49,dv 51 47 6,gv 52 47 (.call QR [.t 50,.t 51]),e9 53 47 52,E 54 53,lo 55 54 2 1,lo 56 54 1 55,hr 57 54 1 56,dv 58 54 6,gv 59 54 (.call QR [.t 57,.t 58]),e9 60 54 59,E 2 60] .ret)))))))
def ahF:bu:=bT 80 2 [.t 4] (R [db 2 288002 0,bk 4 0] (R [a0 16 0 2,aJ 17 1 16,E 18 1,bs 19 1 17 18,aJ 20 1 19,aM 21 (.call Ah [.t 20,.c (bB 1)]),E 15 21,bl 22 0 15,bl 23 1 15,cL 5 288005 dT,bf 4 5 22,E 6 23] (.seq (R [a0 24 1 2,aJ 25 1 24,b9 26 25,bk 27 0] (dY 0 (R [bm 28 .lss 27 26] (.seq (du 28 0) (.seq (.block 1 (R [E 29 27,bs 30 4 25 27,bd 31 4 30,cL 8 288008 lp,E 7 29,bf 4 8 31] (.seq (R [a0 32 1 8,aJ 33 1 32,E 34 1,bm 35 .neq 33 34] (eC 35 (.exit 1) .skip)) (eR [bd 37 4 5,a0 38 2 2,a0 39 1 38,aJ 40 1 39,E 41 7,bs 42 4 40 41,bd 43 4 42,bV 44 vG 37 43,E 36 44,bl 45 0 36,bl 46 1 36,cL 9 288009 dT,bf 4 9 45,E 10 46] [[],[],[],[],[],[],[],[],[],[],[],[0,3,6],[],[]] (.seq (R [E 47 10,a5 48 .neq 47 0] (cx 48 [E 49 10,E 4 49])) (.ops [bd 50 4 9,bf 4 5 50])))))) (.ops [a5 51 .add 27 1,E 27 51])))))) (.seq (eR [bd 52 4 5,a0 53 2 2,a0 54 0 53,aJ 55 1 54,E 56 1,bs 57 4 55 56,bd 58 4 57,bV 59 kP 52 58,a5 60 .neq 59 0] EO (cx 60 [bk 4 24])) (R [bd 62 5 2,E 63 1,bV 64 L3 62 63,E 61 64,bl 65 0 61,bl 66 1 61,E 11 65,E 12 66] (R [bd 68 4 5,E 69 11,bV 70 L1 68 69,E 67 70,bl 71 0 67,bl 72 1 67,E 13 71,E 14 72] (.seq (R [E 73 14,a5 74 .neq 73 0] (cx 74 [E 75 14,E 4 75])) (.seq (R [E 76 12,E 77 13,bV 78 XT 76 77,e4 79 78] (cx 79 [bk 4 24])) (R [bk 4 0] .ret)))))))))
def ahG:bu:=bT 49 1 [.t 2] (R [db 1 289001 0,cd 2 false] (R [eo 3] (.seq (R [a0 8 2 1,a0 9 2 8,aJ 10 1 9,b9 11 10,bk 12 0] (.block 0 (.ghost (.oa 3 289040 1) (.loop  (R [bm 13 .lss 12 11] (.seq (du 13 0) (.seq (.block 1 (R [bs 14 1 10 12,aJ 15 1 14,E 5 15] (.seq (R [E 16 5,b9 17 16,bk 18 0] (dY 2 (R [bm 19 .lss 18 17] (.seq (du 19 2) (.seq (.block 3 (R [E 20 18,bs 21 1 16 18,aJ 22 1 21,E 6 20,E 7 22] (R [E 23 6,a5 24 .gtr 23 0,E 25 24,dv 26 25 7,dv 27 25 5,dv 28 25 6,hG 29 25 .sub 28 1,qO 30 25 1 27 29,hr 31 25 1 30,vP 32 25 .leq 26 31,e9 33 25 32] (cx 33 [cd 2 false])))) (.ops [a5 34 .add 18 1,E 18 34])))))) (.seq (R [E 35 5,b9 36 35,a5 37 .eql 36 0] (cx 37 [cd 2 false])) (.ops [E 38 3,E 39 5,aM 40 (.app 289040 [bB 0] 8 (.t 38) (.t 39)),E 3 40]))))) (.ops [a5 41 .add 12 1,E 12 41])))))))) (R [E 42 3,dp 43 XU 42] (eR [E 44 3,aM 45 (.sG 0 XW [.t 44]),bd 46 5 1,dp 47 L4 46,bV 48 XV 45 47,E 2 48] [[],[],[1],[],[],[]] .ret)))))
def ahH:bu:=bT 21 1 [.t 2] (R [db 1 290001 0,cd 2 false] (R [bd 5 5 1,aM 6 (.m8 290006 1 L4 [.t 5]),E 3 6] (.seq (R [a0 7 0 1,aJ 8 1 7,b9 9 8,bk 10 0] (dY 0 (R [bm 11 .lss 10 9] (.seq (du 11 0) (.seq (.block 1 (R [E 12 3,dp 13 vK 12,aM 4 (.alloc 290004 [.nil]),bf 1 4 13] (.ops [E 14 3,aM 15 (.pa uw [.t 1,.t 4]),bV 16 XX 14 15,E 3 16]))) (.ops [a5 17 .add 10 1,E 10 17])))))) (R [E 18 3,b9 19 18,a5 20 .gtr 19 0,E 2 20] .ret))))
def ahI:bu:=bT 5 1 [.t 2] (R [cd 2 false] (R [E 3 0,aM 4 (.call EF [.t 3,.c (bB 0),.c (bB 1000000000000000)]),E 2 4] .ret))
def ahJ:bu:=bT 15 3 [.t 6] (R [cd 6 false] (R [E 7 1,E 8 0,bm 9 .leq 7 8,E 10 9,dv 11 10 0,dv 12 10 2,vP 13 10 .leq 11 12,e9 14 10 13,E 6 14] .ret))
def ahK:bu:=bT 28 3 [.t 4] (R [db 3 293003 0,cd 4 false] (R [a0 5 0 3,aJ 6 1 5,aJ 7 1 1,a5 8 .sub 7 1,aM 9 (.call EF [.t 6,.c (bB 0),.t 8]),E 10 9,lo 11 10 1 3,hr 12 10 1 11,hr 13 10 1 1,hG 14 10 .sub 13 1,gv 15 10 (.call EF [.t 12,.c (.M (.int .i64 (-1))),.t 14]),e9 16 10 15,E 17 16,lo 18 17 2 3,hr 19 17 1 18,gv 20 17 (.call EF [.t 19,.c (bB 0),.c (bB 9)]),e9 21 17 20,E 22 21,hr 23 22 1 2,lo 24 22 3 3,hr 25 22 1 24,gv 26 22 (.jV (.t 23) [.t 25]),e9 27 22 26,E 4 27] .ret))
def ahL:bu:=bT 11 1 [.t 2] (R [db 1 294001 0,cd 2 false] (R [bd 3 4 1,dp 4 ma 3,E 5 4,lo 6 5 0 1,lo 7 5 0 6,hr 8 5 1 7,hG 9 5 .geq 8 0,e9 10 5 9,E 2 10] .ret))
def ahM:bu:=bT 9 2 [.t 4] (R [db 3 295003 1,cd 4 false] (R [E 5 0,aM 6 (.pa Ch [.t 3]),bV 7 EE 5 6,e4 8 7,E 4 8] .ret))
def ahN:bu:=bT 9 2 [.t 4] (R [db 3 296003 1,cd 4 false] (R [E 5 0,aM 6 (.pa EH [.t 3]),bV 7 Aj 5 6,e4 8 7,E 4 8] .ret))
def ahO:bu:=bT 9 2 [.t 4] (R [db 3 297003 1,cd 4 false] (R [E 5 0,aM 6 (.pa vO [.t 3]),bV 7 LM 5 6,e4 8 7,E 4 8] .ret))
def ahP:bu:=bT 38 2 [.t 4,.t 5] (R [db 2 298002 0,eo 4,eo 5] (R [eo 6] (R [eo 7] (.seq (R [a0 10 1 2,aJ 11 1 10,b9 12 11,bk 13 0] (.block 0 (.ghost (.oa 6 298025 4) (.ghost (.oa 7 298034 4) (.loop  (R [bm 14 .lss 13 12] (.seq (du 14 0) (.seq (.block 1 (R [E 15 13,bs 16 4 11 13,bd 17 4 16,cL 9 298009 lp,E 8 15,bf 4 9 17] (R [a0 18 0 9,aJ 19 1 18,E 20 1,bm 21 .eql 19 20] (eC 21 (.mz [E 22 6,bd 23 4 9,aM 24 (.ff 298024 false lp 4 1 [(0,4,.t 23)]),aM 25 (.app 298025 lp 32 (.t 22) (.t 24)),E 26 7,a0 27 2 2,a0 28 1 27,aJ 29 1 28,E 30 8,bs 31 4 29 30,bd 32 4 31,aM 33 (.ff 298033 false dT 4 1 [(0,4,.t 32)]),aM 34 (.app 298034 dT 64 (.t 26) (.t 33)),E 6 25,E 7 34] [[],[],[],[],[],[],[],[3],[],[],[3],[],[],[],[]]) .skip)))) (.ops [a5 35 .add 13 1,E 13 35]))))))))) (.seq (.ghost (.freeze 6) (.ghost (.freeze 7) (.ops [E 36 6,E 37 7,E 4 36,E 5 37]))) .ret)))))
def ahQ:bu:=bT 8 2 [.t 4] (R [cd 4 false] (R [E 5 0,E 6 1,aM 7 (.call XI [.t 5,.t 6,.c (.fx EI [])]),E 4 7] .ret))
def ahR:bu:=bT 26 1 [.t 2] (R [db 1 303001 0,eo 2] (R [eo 3] (.seq (R [a0 7 0 1,aJ 8 1 7,b9 9 8,bk 10 0] (.block 0 (.ghost (.oa 3 303023 1) (.loop  (R [bm 11 .lss 10 9] (.seq (du 11 0) (.seq (.block 1 (R [E 12 10,E 4 12] (R [bd 14 5 1,E 15 4,bV 16 L6 14 15,E 13 16,bl 17 0 13,bl 18 1 13,E 5 17,E 6 18] (R [E 19 6] (eC 19 (.ops [E 20 3,E 21 4,aM 22 (.ff 303022 false [bB 0] 1 1 [(0,1,.t 21)]),aM 23 (.app 303023 [bB 0] 8 (.t 20) (.t 22)),E 3 23]) .skip))))) (.ops [a5 24 .add 10 1,E 10 24])))))))) (R [E 25 3,E 2 25] .ret))))
def ahS:bu:=bT 9 3 [.t 4] (R [cd 4 false] (R [bd 5 5 1,E 6 0,aJ 7 1 2,Al 8 XY 5 6 7,E 4 8] .ret))
def ahT:bu:=bT 19 3 [.t 6] (R [db 3 306003 0,db 4 306004 1,db 5 306005 2,cd 6 false] (R [bd 10 5 3,aJ 11 1 4,bV 12 L6 10 11,E 9 12,bl 13 0 9,bl 14 1 9,aM 7 (.alloc 306007 [bB 0]),bf 1 7 13,E 8 14] (R [a0 15 1 3,aJ 16 1 15,aM 17 (.pa EJ [.t 4,.t 7,.t 5]),bV 18 Aj 16 17,E 6 18] .ret)))
def ahU:bu:=bT 8 2 [.t 3] (R [cd 3 false] (R [aJ 4 1 1,E 5 0,aM 6 (.jV (.t 4) [.t 5]),e4 7 6,E 3 7] .ret))
def ahV:bu:=bT 8 2 [.t 3] (R [db 2 308002 0,cd 3 false] (R [aJ 4 1 1,bd 5 4 2,aM 6 (.jV (.t 4) [.t 5]),e4 7 6,E 3 7] .ret))
def ahW:bu:=bT 8 2 [.t 3] (R [db 2 309002 0,cd 3 false] (R [aJ 4 1 1,bd 5 4 2,aM 6 (.jV (.t 4) [.t 5]),e4 7 6,E 3 7] .ret))
def ahX:bu:=bT 9 2 [.t 4] (R [db 2 310002 0,db 3 310003 1,cd 4 false] (R [bd 5 4 2,bd 6 4 3,bV 7 kP 5 6,a5 8 .eql 7 0,E 4 8] .ret))
def ahY:bu:=bT 14 2 [.t 4,.t 5] (R [db 2 313002 0,bk 4 0,cd 5 false] (R [bd 6 5 2,E 7 1,bV 8 L3 6 7,bl 9 0 8,bl 10 1 8,bV 11 XH 9 10,bl 12 0 11,bl 13 1 11,E 4 12,E 5 13] .ret))
def ahZ:bu:=bT 28 4 [.t 5] (R [db 4 314004 0,cd 5 false] (R [a0 6 0 4,aJ 7 1 6,aJ 8 1 1,bm 9 .eql 7 8,E 10 9,lo 11 10 2 4,hr 12 10 1 11,hr 13 10 1 2,vP 14 10 .eql 12 13,e9 15 10 14,E 16 15,lo 17 16 3 4,hr 18 16 1 17,hG 19 16 .gtr 18 0,e9 20 16 19,E 21 20,hr 22 21 1 3,lo 23 21 1 4,hr 24 21 1 23,gv 25 21 (.call X0 [.t 22,.t 24]),xp 26 21 25,e9 27 21 26,E 5 27] .ret))
abbrev fJ:=List bF×bF
def qd (r:fJ):List Data:=.ay (r.1.map aU)::aU r.2
def mY (f:bF):(aU f).length=4:=rfl
def ah0 (r:fJ):(qd r).length=5:=rfl
def Fq (f:bF):((aU f).map O.M).all O.one=true:=rfl
def nq:∀a b:bF,aU a=aU b->a=b:=by
 rintro⟨⟨s,l⟩,⟨s2,aI⟩⟩ ⟨⟨t,m⟩,⟨t2,cv⟩⟩ h;simp only[aU,bh,Data.int.injEq,Data.ay.injEq,true_and,and_true] at h;obtain⟨rfl,F,rfl,G⟩:=h;rw[map_inj fq _ _ F,map_inj fq _ _ G]
def Zo:∀a b:fJ,qd a=qd b->a=b:=by
 rintro⟨a,b⟩ ⟨c,d⟩ h;simp only[qd,bh,Data.ay.injEq] at h;rw[map_inj nq _ _ h.1,nq _ _ h.2]
def okF (f:bF):Prop:=f.1.2.length<=1000000/\f.2.2.length<=1000000
def mZ (l:List bF):Prop:=D l<=1000000/\∀f∈l,okF f
def CO (r:fJ):Prop:=mZ r.1/\okF r.2
def Fs (rs:List fJ):Prop:=D rs<=1000000/\∀r∈rs,CO r
def MZ:=bU xC λ(s,l,s2,aI)=>cp (D l<=1000000/\D aI<=1000000) (.same (.bool (!eY ((s,l),(s2,aI)))))
@[go_sem] def awn (s l s2 aI):=cz MZ rfl MP (s,l,s2,aI) rfl
def awo (T:ba)(fV:T ma=aQ uJ):WF T ahu MZ:=by
 refine cf λ(s,l,s2,aI)=>cG λH=>⟨rfl,b7 ?_⟩;simp only[ahu,xC,b1];obtain⟨cm,cC⟩:=H;refine ai ?_;repeat' (intro h<;>simp only[h,go_sem,go_sem_proc,fV,cm,cC]<;>try refine ah ?_ ?_)
def ah1:=bU xC λ(s,l,s2,aI)=>cp (D l<=1000000/\D aI<=1000000) (.same (.bool (!eY ((s,l),(s2,aI))||decide (s<0))))
@[go_sem] def awp (s l s2 aI):=cz ah1 rfl MP (s,l,s2,aI) rfl
def RO:=bU xC λ(s,l,s2,aI)=>cp (D l<=1000000/\D aI<=1000000) (.same (.bool (eY ((s,l),(s2,aI))&&decide (s>=0))))
@[go_sem] def aN7 (s l s2 aI):=cz RO rfl MP (s,l,s2,aI) rfl
def awq (T:ba)(fV:T ma=aQ uJ):WF T ahL RO:=by
 refine cf λ(s,l,s2,aI)=>cG λH=>⟨rfl,b7 ?_⟩;simp only[ahL,xC,b1];obtain⟨cm,cC⟩:=H;rcases aa:eY ((s,l),(s2,aI))
 ·refine ai ?_;repeat' (intro h<;>simp only[h,go_sem,go_sem_proc,fV,cm,cC,aa]<;>try refine ah ?_ ?_)
 ·refine ai ?_;repeat' (intro h<;>simp only[h,go_sem,go_sem_proc,fV,cm,cC,aa]<;>try refine ah ?_ ?_)
abbrev RP:Int×(List Int)×Int×(List Int)->List Data:=λ(s,l,s2,aI)=>[.agg [.int .i64 s,.ay (l.map aC),.int .i64 s2,.ay (aI.map aC)],.ptr [.fn EG []]]
def RQ:=bU RP λ(s,l,s2,aI)=>cp (D l<=1000000/\D aI<=1000000) (.same (.bool (!(eY ((s,l),(s2,aI))&&decide (s>=0)))))
def awr:∀a b,RP a=RP b->a=b:=by
  rintro⟨s1,eH,E7,E8⟩ ⟨s2,aI,E9,Fa⟩ h;simp only[bh,Data.agg.injEq,Data.int.injEq,Data.ay.injEq] at h;exact ej h.1.1.2 (ej (map_inj fq _ _ h.1.2.1) (ej h.1.2.2.1.2 (map_inj fq _ _ h.1.2.2.2.1)))
@[go_sem] def aws (s l s2 aI):=cz RQ rfl awr (s,l,s2,aI) rfl
def awt (T:ba)(awu:T EG=aQ RO):WF T ahW RQ:=by
 refine cf λ(s,l,s2,aI)=>cG λH=>⟨rfl,b7 ?_⟩;simp only[ahW,RP,b1];obtain⟨cm,cC⟩:=H;refine ai ?_;repeat' (intro h<;>simp only[h,go_sem,go_sem_proc,awu,cm,cC]<;>try refine ah ?_ ?_)
def oW {α:Type}(p:α->Bool)(l:List α):Int:=match l.findIdx? p with
 |some i=>i
 |none => -1
def M0 {α:Type}{p:α->Bool}{l:List α}{i:Nat}(h:∀x∈l.take i,p x=false){x:α}(Q:l[i]?=some x)(aF:p x=true):oW p l=i:=by
 unfold oW
 have:l.findIdx? p=some i:=by
  rw[ah2];obtain⟨aq,rfl⟩:=dK.1 Q;refine⟨aq,aF,λj ag=>?_⟩;have:=h l[j] (uk.2 ⟨j,by rw[List.getElem?_take_of_lt ag];exact bn _⟩);rw[this];decide
 rw[this]
def RR {α:Type}{p:α->Bool}{l:List α}(h:∀x∈l,p x=false):oW p l = -1:=by
 unfold oW;rw[ah3.2 h]
def M3 {α:Type}(p:α->Bool)(l:List α):decide (oW p l>=0)=l.any p:=by
 unfold oW
 cases h:l.findIdx? p with
 |none =>
  have:=ah3.1 h;have G:l.any p=false:=by rw[uL];intro x Q;simp[this x Q]
  rw[G];rfl
 |some i =>
  rw[ah2] at h;obtain⟨F,G,-⟩:=h;have af:l.any p=true:=List.any_eq_true.2 ⟨_,nC F,G⟩;rw[af];exact h2 (by simp)
def IC (f:bF):Bool:=!eY f
def uM (f:FuncId):bF->Bool:=if f=Ai then λx => !eY x||decide (x.1.1<0) else if f=vO then λx => !(eY x&&decide (x.1.1>=0)) else IC
def ah4 (f:FuncId):List Data:=if f=vO then [.ptr [.fn EG []]] else []
@[go_sem] def awv:uM uo=IC:=by
 unfold uM;rw[ae (by decide),ae (by decide)]
@[go_sem] def ah5:uM Ai=λx => !eY x||decide (x.1.1<0):=by
 unfold uM;rw[ab rfl]
def ah6:uM vO=λx => !(eY x&&decide (x.1.1>=0)):=by
 unfold uM;rw[ae (by decide),ab rfl]
def RS {α:Type}{p:α->Bool}{l:List α}{i:Nat}(h:∀x∈l.take i,p x=false){x:α}(Q:l[i]?=some x)(aF:p x=false):∀y∈l.take (i+1),p y=false:=by
 intro y al;rw[hF,Q] at al;simp only[Option.toList_some,iF,vY] at al;rcases al with al|rfl
 ·exact h y al
 ·exact aF
def qe {T:ba}{c:eh}{K:eT->bc->Prop}{st:bc}(h:wp T c K st):wp T c (cw T K []) st:=by
 have:cw T K []=K:=by funext e st;cases e<;>rfl
 rwa [this]
def Zp (T:ba)(id:FuncId)(eM:List Data)(aL:List Data->Option dx)(cQ:T id=aQ aL)(p:bF->Bool)(l:List bF)(ak:mZ l)(eW:∀a b c d,D b<=1000000->(D d)<=1000000->aL (.agg [.int .i64 a,.ay (b.map aC),.int .i64 c,.ay (d.map aC)]::eM)=some (.same (.bool (p ((a,b),(c,d)))))):
  wp T Md.body (vC Md.res (.same (.int .i64 (oW p l)))) ⟨iC [.M (.ay (l.map aU)),.M (.fn id eM)],emp⟩:=by
 obtain⟨ak,cT⟩:=ak;refine pf ?_;simp only[Md];simp only[go_sem,go_sem_proc,ar];refine da [0,1,7] [] (λ(i:Nat) tm mem=>i<=D l/\(∀x∈l.take i,p x=false)/\tm 8=.M (.int .i64 i)) (λi=>D l-i) 0 (by refine⟨fy _,by simp,rfl⟩) ?_;intro vs ms aW aR;simp only[go_sem,go_sem_proc,ar] at aW aR;subst aW aR;rintro i tm mem I hm ⟨J,en,cN⟩;simp only[go_sem,go_sem_proc,bh] at I hm;obtain⟨au,F,cb⟩:=I;have kS:∀m:Mem,(eM.map O.M).mapM (b5 6 m)=some eM:=λm=>r1 (b5 6 m) (λd=>rfl) eM;rcases dq (i<D l) with aq|ca
 ·have Q:=bn aq;obtain⟨sS,AB⟩:=cT _ (nC aq);have bH:=λh=>M0 (p:=p) en Q h;have gJ:=λh=>RS (p:=p) en Q h;generalize l[i]=x at *;obtain⟨⟨gR,fS⟩,⟨kA,q7⟩⟩:=x;have qf:=eW gR fS kA q7 sS AB;have kY:decide ((i:Int)<(D l:Int))=true:=cX;have hw:=e0 (i:=i) (by omega);rcases ad:p ((gR,fS),(kA,q7))
  ·rw[ad] at qf;refine ai ?_;repeat' (intro (aw:_=_)<;>simp only[aw,go_sem,go_sem_proc,cQ,au,F,cb,cN,Q,kY,hw,qf,kS,aU,ar,bo,ng]<;>try refine ah ?_ ?_)
   exact⟨i+1,by omega,by omega,gJ ad,rfl⟩
  ·rw[ad] at qf;rw[bH ad];refine ai ?_;repeat' (intro (aw:_=_)<;>simp only[aw,go_sem,go_sem_proc,cQ,au,F,cb,cN,Q,kY,hw,qf,kS,aU,ar,bo,ng]<;>try refine ah ?_ ?_)
 ·have kY:decide ((i:Int)<(D l:Int))=false:=cA;obtain rfl:i=D l:=by omega
  rw[mW] at en;rw[RR en];refine ai ?_;repeat' (intro (aw:_=_)<;>simp only[aw,go_sem,go_sem_proc,au,F,cb,cN,kY,ar]<;>try refine ah ?_ ?_)
def ah7 (f:FuncId):Prop:=f=uo\/(f=Ai/\Ai<900000)\/(f=vO/\vO<900000)
abbrev ID:(List bF)×FuncId->List Data:=λ(l,f)=>[.ay (l.map aU),.fn f (ah4 f)]
def RT:=bU ID λ(l,f)=>cp (mZ l/\ah7 f) (.same (.int .i64 (oW (uM f) l)))
def ah8:∀a b,ID a=ID b->a=b:=by
  rintro⟨eH,f1⟩ ⟨aI,f2⟩ h;simp only[bh,Data.ay.injEq,Data.fn.injEq] at h;exact ej (map_inj nq _ _ h.1) h.2.1.1
@[go_sem] def aN8 (l f):=cz RT rfl ah8 (l,f) rfl
def aww (T:ba)(M4:T uo=aQ MZ)(awx:Ai<900000->T Ai=aQ ah1)(awy:vO<900000->T vO=aQ RQ):WF T Md RT:=by
 refine cf λ(l,f)=>cG λH=>⟨rfl,b7 ?_⟩;simp only[Md,ID,b1];obtain⟨ak,aK⟩:=H;rcases aK with rfl|⟨rfl,J⟩|⟨rfl,J⟩
 ·rw[awv];exact qe (Zp T _ _ _ M4 IC l ak λa b c d F G=>awn a b c d ⟨F,G⟩)
 ·rw[ah5];exact qe (Zp T _ _ _ (awx J) (λx => !eY x||decide (x.1.1<0)) l ak λa b c d F G=>awp a b c d ⟨F,G⟩)
 ·rw[ah6];exact qe (Zp T _ _ _ (awy J) (λx => !(eY x&&decide (x.1.1>=0))) l ak λa b c d F G=>aws a b c d ⟨F,G⟩)
def IE:=bU ID λ(l,f)=>cp (mZ l/\ah7 f) (.same (.bool (l.any (uM f))))
@[go_sem] def ah9 (l f):=cz IE rfl ah8 (l,f) rfl
def awz (T:ba)(awA:T Xv=aQ RT):WF T afw IE:=by
 refine cf λ(l,f)=>cG λH=>⟨rfl,b7 ?_⟩;simp only[afw,ID,b1];rw[<-M3];refine ai ?_;repeat' (intro h<;>simp only[h,go_sem,go_sem_proc,awA,H]<;>try refine ah ?_ ?_)
@[go_sem] def aN9 (l:List bF)(h:mZ l):IE [.ay (l.map aU),.fn uo []]=some (.same (.bool (l.any (uM uo)))):=ah9 l uo ⟨h,.inl rfl⟩
def uN (n:Int)(r:fJ):Bool:=!(((r.1.length:Int)==n)&&(eY r.2 && !(r.1.any IC)))
abbrev RU:(List bF)×Int×(List Int)×Int×(List Int)×Int->List Data:=λ(a,s,l,s2,aI,n)=>[.agg [.ay (a.map aU),.int .i64 s,.ay (l.map aC),.int .i64 s2,.ay (aI.map aC)],.ptr [.int .i64 n],.ptr [.fn uo []]]
def RV:=bU RU λ(a,s,l,s2,aI,n)=>cp (mZ a/\D l<=1000000/\D aI<=1000000) (.same (.bool (uN n (a,((s,l),(s2,aI))))))
def awB:∀a b,RU a=RU b->a=b:=by
  rintro⟨cH,s1,eH,E7,E8,h7⟩ ⟨cY,s2,aI,E9,Fa,iZ⟩ h;simp only[bh,Data.agg.injEq,Data.int.injEq,Data.ay.injEq,Data.ptr.injEq] at h;exact ej (map_inj nq _ _ h.1.1) (ej h.1.2.1.2 (ej (map_inj fq _ _ h.1.2.2.1) (ej h.1.2.2.2.1.2 (ej (map_inj fq _ _ h.1.2.2.2.2.1) h.2.1.1.2))))
@[go_sem] def aOa (a s l s2 aI n):=cz RV rfl awB (a,s,l,s2,aI,n) rfl
def awC (T:ba)(M4:T uo=aQ MZ)(M5:T LM=aQ IE):WF T ahv RV:=by
 refine cf λ(a,s,l,s2,aI,n)=>cG λH=>⟨rfl,b7 ?_⟩;simp only[ahv,RU,b1];obtain⟨aO,cm,cC⟩:=H;unfold uN;rcases F:((D a:Int)==n)
 ·refine ai ?_;repeat' (intro h<;>simp only[h,go_sem,go_sem_proc,M4,M5,aO,cm,cC,F,ar]<;>try refine ah ?_ ?_)
 ·rcases G:eY ((s,l),(s2,aI))
  ·refine ai ?_;repeat' (intro h<;>simp only[h,go_sem,go_sem_proc,M4,M5,aO,cm,cC,F,G,ar]<;>try refine ah ?_ ?_)
  ·refine ai ?_;repeat' (intro h<;>simp only[h,go_sem,go_sem_proc,M4,M5,aO,cm,cC,F,G,ar,show (uo=uo)=True from by simp,true_or,Bool.not_not]<;>try refine ah ?_ ?_)
abbrev IF:(List fJ)×Int->List Data:=λ(rs,n)=>[.ay (rs.map qd),.fn QF [.ptr [.int .i64 n],.ptr [.fn uo []]]]
def RW:=bU IF λ(rs,n)=>cp (Fs rs) (.same (.int .i64 (oW (uN n) rs)))
def aia:∀a b,IF a=IF b->a=b:=by
  rintro⟨aib,h7⟩ ⟨aic,iZ⟩ h;simp only[bh,Data.ay.injEq,Data.fn.injEq,Data.ptr.injEq,Data.int.injEq] at h;exact ej (map_inj Zo _ _ h.1) h.2.1.2.1.1.2
@[go_sem] def aOb (rs n):=cz RW rfl aia (rs,n) rfl
def awD (T:ba)(IG:T QF=aQ RV):WF T afy RW:=by
 refine cf λ(rs,n)=>cG λH=>⟨rfl,b7 ?_⟩;simp only[afy,IF,b1];obtain⟨ak,cT⟩:=H;simp only[go_sem,go_sem_proc,IG,ar];refine da [0,1,7] [] (λ(i:Nat) tm mem=>i<=D rs/\(∀x∈rs.take i,uN n x=false)/\tm 8=.M (.int .i64 i)) (λi=>D rs-i) 0 (by refine⟨fy _,?_,rfl⟩;simp) ?_;intro vs ms aW aR;simp only[go_sem,go_sem_proc,IG,ar] at aW aR;subst aW aR;rintro i tm mem I hm ⟨J,en,cN⟩;simp only[go_sem,go_sem_proc,IG,bh] at I hm;obtain⟨au,F,cb⟩:=I;rcases dq (i<D rs) with aq|ca
 ·have Q:=bn aq;obtain⟨iN,sS,AB⟩:=cT _ (nC aq);have bH:=λh=>M0 (p:=uN n) en Q h;have gJ:=λh=>RS (p:=uN n) en Q h;generalize rs[i]=x at *;have kY:decide ((i:Int)<(D rs:Int))=true:=cX;have hw:=e0 (i:=i) (by omega);obtain⟨a,⟨gR,fS⟩,⟨kA,q7⟩⟩:=x;dsimp only at iN sS AB;rcases ad:uN n (a,((gR,fS),(kA,q7)))
  ·refine ai ?_;repeat' (intro (aw:_=_)<;>simp only[aw,go_sem,go_sem_proc,IG,au,F,cb,cN,Q,kY,hw,iN,sS,AB,ad,ar,bo,qd,aU]<;>try refine ah ?_ ?_)
   exact⟨i+1,by omega,by omega,gJ ad,rfl⟩
  ·rw[bH ad];refine ai ?_;repeat' (intro (aw:_=_)<;>simp only[aw,go_sem,go_sem_proc,IG,au,F,cb,cN,Q,kY,hw,iN,sS,AB,ad,ar,bo,qd,aU]<;>try refine ah ?_ ?_)
 ·have kY:decide ((i:Int)<(D rs:Int))=false:=cA;have kW:i=D rs:=by omega
  subst kW;rw[mW] at en;rw[RR en];refine ai ?_;repeat' (intro (aw:_=_)<;>simp only[aw,go_sem,go_sem_proc,IG,au,F,cb,cN,kY,ar]<;>try refine ah ?_ ?_)
def RX:=bU IF λ(rs,n)=>cp (Fs rs) (.same (.bool (rs.any (uN n))))
@[go_sem] def aOc (rs n):=cz RX rfl aia (rs,n) rfl
def awE (T:ba)(awF:T Xu=aQ RW):WF T afv RX:=by
 refine cf λ(rs,n)=>cG λH=>⟨rfl,b7 ?_⟩;simp only[afv,IF,b1];rw[<-M3];refine ai ?_;repeat' (intro h<;>simp only[h,go_sem,go_sem_proc,awF,H]<;>try refine ah ?_ ?_)
def pA (rs:List fJ)(n:Int):Bool:=!(decide (n<0))&&(!(decide (n>40))&&(((D rs:Int)==n) && !(rs.any (uN n))))
abbrev IH:(List fJ)×Int->List Data:=λ(rs,n)=>[.ay (rs.map qd),.int .i64 n]
def RY:=bU IH λ(rs,n)=>cp (Fs rs) (.same (.bool (pA rs n)))
def aid:∀a b,IH a=IH b->a=b:=by
  rintro⟨aib,h7⟩ ⟨aic,iZ⟩ h;simp only[bh,Data.ay.injEq,Data.int.injEq] at h;exact ej (map_inj Zo _ _ h.1) h.2.1.2
@[go_sem] def aOd (rs n):=cz RY rfl aid (rs,n) rfl
def awG (T:ba)(RZ:T Xo=aQ RX):WF T ahs RY:=by
 refine cf λ(rs,n)=>cG λH=>⟨rfl,b7 ?_⟩;simp only[ahs,IH,b1];unfold pA;rcases F:decide (n<0)
 ·rcases G:decide (n>40)
  ·rcases af:((D rs:Int)==n)
   ·refine ai ?_;repeat' (intro h<;>simp only[h,go_sem,go_sem_proc,RZ,H,F,G,af,ar]<;>try refine ah ?_ ?_)
   ·refine ai ?_;repeat' (intro h<;>simp only[h,go_sem,go_sem_proc,RZ,H,F,G,af,ar,b5,pU,nr,scalar]<;>try refine ah ?_ ?_)
  ·refine ai ?_;repeat' (intro h<;>simp only[h,go_sem,go_sem_proc,RZ,H,F,G,ar]<;>try refine ah ?_ ?_)
 ·refine ai ?_;repeat' (intro h<;>simp only[h,go_sem,go_sem_proc,RZ,H,F,ar]<;>try refine ah ?_ ?_)
def aie {es:List (List Data)}(h:∀x∈es,Fit (.int .i64) x):∃l:List Int,es=l.map aC:=by
 obtain⟨l,e,-⟩:=Xg (e:=aC) (good:=λ_=>True) λx Q=>by
  have:=h x Q;simp only[Fit] at this;obtain⟨n,rfl,-⟩:=this;exact⟨n,rfl,trivial⟩
 exact⟨l,e⟩
def awH {n:Int}(h:(Lit.int .u8 n).wf=true):∃m:Nat,n=m/\m<256:=by
 have:0<=n/\n<=255:=by simpa [Lit.wf,IntKind.min,IntKind.max,IntKind.signed,IntKind.bits] using h
 exact⟨n.toNat,by omega,by omega⟩
def aif:bu:=bT 28 1 [.cell 2 2 true] (R [cL 2 144002 eG] (.seq (R [E 6 0,a5 7 .eql 6 0] (cx 7 [aM 8 (.build eG []),bf 2 2 8])) (R [bk 3 1] (.seq (R [E 9 0,a5 10 .lss 9 0] (eC 10 (.ops [aM 3 (.jm (.c (.M (.int .i64 (-1)))))]) .skip)) (R [eo 4] (.seq (.block 0 (.ghost (.oa 4 144022 1) (.loop  (.seq (R [E 11 0,a5 12 .neq 11 0] (du 12 0)) (.block 1 (R [E 13 0,a5 14 .rem 13 1048576,E 5 14] (.seq (R [E 15 5,a5 16 .lss 15 0] (eC 16 (.ops [E 17 5,aM 18 (.un .neg (.t 17)),E 5 18]) .skip)) (R [E 19 4,E 20 5,aM 21 (.ff 144021 false [bB 0] 1 1 [(0,1,.t 20)]),aM 22 (.app 144022 [bB 0] 8 (.t 19) (.t 21)),E 4 22] (.ops [E 23 0,a5 24 .quo 23 1048576,E 0 24]))))))))) (.seq (.ghost (.freeze 4) (.ops [E 25 3,E 26 4,bV 27 vM 25 26,bf 2 2 27])) .ret)))))))
def aih:bu:=bT 60 1 [.t 2] (R [db 1 162001 0,cd 2 false] (.seq (R [bk 3 0] (dY 0 (.seq (R [E 5 3,a0 6 1 1,aJ 7 1 6,b9 8 7,bm 9 .lss 5 8] (du 9 0)) (.seq (.block 1 (R [a0 12 1 1,aJ 13 1 12,E 14 3,bs 15 1 13 14,aJ 16 1 15,a5 17 .lss 16 0,E 18 17,fg 19 18 1 1,ew 20 18 1 19,fY 21 18 3,Ya 22 18 1 20 21,ew 23 18 1 22,gu 24 18 .geq 23 1048576,c5 25 18 24] (cx 25 [cd 2 false]))) (.ops [E 10 3,a5 11 .add 10 1,E 3 11]))))) (R [a0 26 1 1,aJ 27 1 26,b9 28 27,E 4 28] (.seq (R [a0 29 0 1,aJ 30 1 29,aM 31 (.bin .lss (.t 30) (.c (.M (.int .i64 (-1))))),E 32 31,fg 33 32 0 1,ew 34 32 1 33,gu 35 32 .gtr 34 1,c5 36 32 35,E 37 36,fY 38 37 4,gu 39 37 .gtr 38 60,c5 40 37 39,E 41 40,fY 42 41 4,gu 43 41 .eql 42 0,fg 44 41 0 1,ew 45 41 1 44,gu 46 41 .eql 45 0,fH 47 41 (.beq true (.t 43) (.t 46)),c5 48 41 47] (cx 48 [cd 2 false])) (R [E 49 4,a5 50 .eql 49 0,E 51 50,fg 52 51 1 1,ew 53 51 1 52,fY 54 51 4,gu 55 51 .sub 54 1,Ya 56 51 1 53 55,ew 57 51 1 56,gu 58 51 .neq 57 0,c5 59 51 58,E 2 59] .ret)))))
def aii:bu:=bT 13 1 [.cell 2 2 true] (R [db 1 163001 0,cL 2 163002 eG] (.seq (R [bd 3 2 1,dp 4 vL 3,e4 5 4] (cx 5 [aM 6 (.build eG []),bf 2 2 6])) (R [a0 7 0 1,aJ 8 1 7,aM 9 (.un .neg (.t 8)),a0 10 1 1,aJ 11 1 10,bV 12 vM 9 11,bf 2 2 12] .ret)))
def aij:bu:=bT 36 2 [.cell 4 2 true,.t 5] (R [db 2 164002 0,db 3 164003 1,cL 4 164004 eG,bk 5 0] (.seq (R [bd 10 2 2,dp 11 vL 10,e4 12 11,E 13 12,lG 14 13 2 3,fH 15 13 (.call vL [.t 14]),jb 16 13 15,c5 17 13 16] (cx 17 [aM 18 (.build eG []),bf 2 4 18,bk 5 1])) (R [a0 19 1 2,aJ 20 1 19,E 6 20] (R [a0 21 1 3,aJ 22 1 21,E 7 22] (.seq (dY 0 (.seq (R [E 23 7,b9 24 23,a5 25 .gtr 24 0] (du 25 0)) (.block 1 (R [E 27 6,E 28 7,bV 29 LS 27 28,E 26 29,bl 30 0 26,bl 31 1 26,E 8 30,E 9 31] (R [E 32 7,E 6 32] (.ops [E 33 9,E 7 33])))))) (R [E 34 6,aM 35 (.call vM [.c (bB 1),.t 34]),bf 2 4 35,bk 5 0] .ret))))))
def aik:bu:=bT 65 2 [.cell 4 2 true,.cell 5 2 true,.t 6] (R [db 2 165002 0,db 3 165003 1,cL 4 165004 eG,cL 5 165005 eG,bk 6 0] (.seq (R [bd 9 2 2,dp 10 vL 9,e4 11 10,E 12 11,lG 13 12 2 3,fH 14 12 (.call vL [.t 13]),jb 15 12 14,c5 16 12 15] (cx 16 [aM 17 (.build eG []),aM 18 (.build eG []),bf 2 4 17,bf 2 5 18,bk 6 1])) (.seq (R [a0 19 0 3,aJ 20 1 19,a5 21 .eql 20 0] (cx 21 [aM 22 (.build eG []),aM 23 (.build eG []),bf 2 4 22,bf 2 5 23,bk 6 15])) (R [a0 25 1 2,aJ 26 1 25,a0 27 1 3,aJ 28 1 27,bV 29 LS 26 28,E 24 29,bl 30 0 24,bl 31 1 24,E 7 30,E 8 31] (.seq (R [a0 32 0 2,aJ 33 1 32,a0 34 0 3,aJ 35 1 34,bm 36 .mul 33 35,a5 37 .geq 36 0,E 38 37,fY 39 38 8,ln 40 38 39,gu 41 38 .eql 40 0,c5 42 38 41] (eC 42 (eR [a0 43 0 2,aJ 44 1 43,a0 45 0 3,aJ 46 1 45,bm 47 .mul 44 46,E 48 7,bV 49 vM 47 48,a0 50 0 2,aJ 51 1 50,E 52 8,bV 53 vM 51 52,bf 2 4 49,bf 2 5 53,bk 6 0] Mc .ret) .skip)) (eR [E 54 7,aM 55 (.ff 165055 false [bB 0] 1 1 [(0,1,.c (bB 1))]),bV 56 XG 54 55,aM 57 (.call vM [.c (.M (.int .i64 (-1))),.t 56]),a0 58 0 3,aJ 59 1 58,a0 60 1 3,aJ 61 1 60,E 62 8,bV 63 LU 61 62,bV 64 vM 59 63,bf 2 4 57,bf 2 5 64,bk 6 0] Mc .ret))))))
def ail:bu:=bT 15 2 [.cell 4 2 true] (R [cL 4 166004 eG] (R [E 6 1,dp 7 uq 6,E 5 7] (.seq (R [E 8 5,b9 9 8,a5 10 .eql 9 0] (cx 10 [aM 11 (.build eG []),bf 2 4 11])) (R [E 12 0,E 13 5,aM 14 (.build eG [(0,1,.t 12),(1,1,.t 13)]),bf 2 4 14] .ret))))
def R0:bu:=bT 60 2 [.t 4,.t 5] (R [eo 4,eo 5] (R [E 12 0,b9 13 12,aM 14 (.mx 180014 [bB 0] 8 (.t 13) (.t 13)),E 6 14] (R [eo 7] (.seq (R [E 15 0,b9 16 15,a5 17 .sub 16 1,E 8 17] (dY 0 (.seq (R [E 18 8,a5 19 .geq 18 0] (du 19 0)) (.seq (.block 1 (R [E 22 0,E 23 8,bs 24 1 22 23,aJ 25 1 24,aM 26 (.ff 180026 true [bB 0] 1 1 [(0,1,.t 25)]),E 27 7,aM 28 (.app 180028 [bB 0] 8 (.t 26) (.t 27)),dp 29 uq 28,E 7 29] (R [bk 9 0] (R [bk 10 1048576] (.seq (dY 2 (.seq (R [E 30 10,E 31 9,bm 32 .sub 30 31,a5 33 .gtr 32 1] (du 33 2)) (.block 3 (R [E 34 9,E 35 10,bm 36 .add 34 35,a5 37 .quo 36 2,E 11 37] (R [E 38 7,E 39 1,E 40 11,aM 41 (.ff 180041 false [bB 0] 1 1 [(0,1,.t 40)]),bV 42 LV 39 41,bV 43 QN 38 42] (eC 43 (.ops [E 44 11,E 10 44]) (.ops [E 45 11,E 9 45]))))))) (R [E 46 6,E 47 8,E 48 9,bs 49 1 46 47,bf 1 49 48] (.ops [E 50 7,E 51 1,E 52 9,aM 53 (.ff 180053 false [bB 0] 1 1 [(0,1,.t 52)]),dp 54 uq 53,bV 55 LV 51 54,bV 56 LU 50 55,E 7 56]))))))) (.ops [E 20 8,a5 21 .sub 20 1,E 8 21]))))) (R [E 57 6,dp 58 uq 57,E 59 7,E 4 58,E 5 59] .ret)))))
def aim:bu:=bT 43 2 [.t 4] (R [eo 4] (R [eo 5] (R [bk 6 0] (.seq (R [bk 7 0] (.block 0 (.ghost (.oa 5 181038 1) (.loop  (.seq (R [E 9 7,E 10 0,b9 11 10,bm 12 .lss 9 11,E 13 12,fY 14 13 7,fY 15 13 1,ln 16 13 15,p3 17 13 .lss 14 16,c5 18 13 17,E 19 18,fY 20 19 6,gu 21 19 .gtr 20 0,c5 22 19 21] (du 22 0)) (.seq (.block 1 (R [E 25 0,E 26 7,bV 27 ur 25 26,E 28 1,E 29 7,bV 30 ur 28 29,bm 31 .add 27 30,E 32 6,bm 33 .add 31 32,E 8 33] (R [E 34 5,E 35 8,a5 36 .rem 35 1048576,aM 37 (.ff 181037 false [bB 0] 1 1 [(0,1,.t 36)]),aM 38 (.app 181038 [bB 0] 8 (.t 34) (.t 37)),E 5 38] (.ops [E 39 8,a5 40 .quo 39 1048576,E 6 40])))) (.ops [E 23 7,a5 24 .add 23 1,E 7 24]))))))) (R [E 41 5,dp 42 uq 41,E 4 42] .ret)))))
def ain:bu:=bT 35 2 [.t 4] (R [eo 4] (R [eo 5] (R [bk 6 0] (.seq (R [bk 7 0] (.block 0 (.ghost (.oa 5 182032 1) (.loop  (.seq (R [E 9 7,E 10 0,b9 11 10,bm 12 .lss 9 11] (du 12 0)) (.seq (.block 1 (eR [E 15 0,E 16 7,bs 17 1 15 16,aJ 18 1 17,E 19 1,E 20 7,bV 21 ur 19 20,bm 22 .sub 18 21,E 23 6,bm 24 .sub 22 23,E 8 24] EP (R [bk 6 0] (.seq (R [E 25 8,a5 26 .lss 25 0] (eC 26 (R [E 27 8,a5 28 .add 27 1048576,E 8 28] (.ops [bk 6 1])) .skip)) (.ops [E 29 5,E 30 8,aM 31 (.ff 182031 false [bB 0] 1 1 [(0,1,.t 30)]),aM 32 (.app 182032 [bB 0] 8 (.t 29) (.t 31)),E 5 32]))))) (.ops [E 13 7,a5 14 .add 13 1,E 7 14]))))))) (R [E 33 5,dp 34 uq 33,E 4 34] .ret)))))
def aio:bu:=bT 23 1 [.t 2] (R [eo 2] (R [E 4 0,b9 5 4,E 3 5] (.seq (dY 0 (.seq (R [E 6 3,a5 7 .gtr 6 0,E 8 7,dv 9 8 0,dv 10 8 3,hG 11 8 .sub 10 1,qO 12 8 1 9 11,hr 13 8 1 12,hG 14 8 .eql 13 0,e9 15 8 14] (du 15 0)) (.block 1 (.ops [E 16 3,a5 17 .sub 16 1,E 3 17])))) (R [aM 18 (.ff 183018 true [] 1 0 []),E 19 0,E 20 3,aM 21 (.oI 1 (.t 19) none (some (.t 20)) none),aM 22 (.app 183022 [bB 0] 8 (.t 18) (.t 21)),E 2 22] .ret))))
def aip:bu:=bT 30 2 [.t 4] (R [cd 4 false] (.seq (R [E 6 0,b9 7 6,E 8 1,b9 9 8,aM 10 (.iB true (.t 7) (.t 9)),a5 11 .sub 10 1,E 5 11] (dY 0 (.seq (R [E 12 5,a5 13 .geq 12 0] (du 13 0)) (.seq (.block 1 (R [E 16 0,E 17 5,bV 18 ur 16 17,E 19 1,E 20 5,bV 21 ur 19 20,bm 22 .neq 18 21] (cx 22 [E 23 0,E 24 5,bV 25 ur 23 24,E 26 1,E 27 5,bV 28 ur 26 27,bm 29 .lss 25 28,E 4 29]))) (.ops [E 14 5,a5 15 .sub 14 1,E 5 15]))))) (R [cd 4 false] .ret)))
def aiq:bu:=bT 60 2 [.t 4] (R [eo 4] (R [E 10 0,b9 11 10,E 12 1,b9 13 12,bm 14 .add 11 13,aM 15 (.mx 186015 [bB 0] 8 (.t 14) (.t 14)),E 5 15] (.seq (R [bk 6 0] (dY 0 (.seq (R [E 16 6,E 17 0,b9 18 17,bm 19 .lss 16 18] (du 19 0)) (.seq (.block 1 (R [bk 7 0] (R [bk 8 0] (dY 2 (.seq (R [E 22 8,E 23 1,b9 24 23,bm 25 .lss 22 24,E 26 25,fY 27 26 7,gu 28 26 .gtr 27 0,c5 29 26 28] (du 29 2)) (.seq (.block 3 (eR [E 32 5,E 33 6,E 34 8,bm 35 .add 33 34,bs 36 1 32 35,aJ 37 1 36,E 38 0,E 39 6,bs 40 1 38 39,aJ 41 1 40,E 42 1,E 43 8,bV 44 ur 42 43,bm 45 .mul 41 44,bm 46 .add 37 45,E 47 7,bm 48 .add 46 47,E 9 48] Yd (R [E 49 5,E 50 6,E 51 8,bm 52 .add 50 51,E 53 9,a5 54 .rem 53 1048576,bs 55 1 49 52,bf 1 55 54] (.ops [E 56 9,a5 57 .quo 56 1048576,E 7 57])))) (.ops [E 30 8,a5 31 .add 30 1,E 8 31]))))))) (.ops [E 20 6,a5 21 .add 20 1,E 6 21]))))) (R [E 58 5,dp 59 uq 58,E 4 59] .ret))))
def air:bu:=bT 13 2 [.t 4] (R [bk 4 0] (.seq (R [E 5 1,E 6 0,b9 7 6,bm 8 .lss 5 7] (cx 8 [E 9 0,E 10 1,bs 11 1 9 10,aJ 12 1 11,E 4 12])) (R [bk 4 0] .ret)))
def II (l:List Int):xh (.own 1 (l.map aC))=some (.own 1 (l.map aC)):=by
 refine ab ?_;rw[List.all_eq_true];intro e he;obtain⟨d,-,rfl⟩:=ef.1 he;simp[aC,scalar]
def Ft (n k g sz off len:Nat):b5 n emp (.ref k g sz off len)=none:=by cases n<;>rfl
def AS:=bU yO λ(l:List Int)=>cp (D l<=1000000) (.own 1 ((gb l).map aC))
@[go_sem] def Fu (l):=cz AS rfl Q4 l rfl
def awI (T:ba):WF T aio AS:=by
 refine cf λl=>cG λH=>⟨rfl,b7 ?_⟩;simp only[aio,yO,b1];have tW:((l.map aC).all λe=>D e==1)=true:=by simp[aC]
 refine ai ?_;repeat' (intro h<;>simp only[h,go_sem,go_sem_proc,ar]<;>try refine ah ?_ ?_)
 refine da [0] [] (λ(n:Nat) tm mem=>n<=D l/\gb l=gb (l.take n)/\tm 3=.M (.int .i64 n)/\mem 183018=none) (λn=>n) (D l) (by refine⟨bM _,by simp,by simp[go_sem],rfl⟩) ?_;intro vs ms aW aR;simp only[go_sem,go_sem_proc,ar] at aW aR;subst aW aR;rintro n tm mem I-⟨aH,bz,af,Zq⟩;simp only[go_sem,go_sem_proc,bh] at I;have au:=I
 have dN:∀o:List Int,D o<=(D l)->mA 183018 0 1 0 8 (D o) ((o.map aC).flatten.map .M) (some (0,[]))=some (.ref 183018 1 1 0 (D o),some (183018,1,a6 aC o)):=by
  intro o bx;have:=En iH vE 183018 0 8 [] o (by simp;omega) (by simp;omega)
  simpa [a6] using this
 have p1:∀(o:List Int) (m:Mem),m 183018=some (1,a6 aC o)->pg 1 m (.ref 183018 1 1 0 (D o))=some (o.map aC):=by
  intro o m hm;have:=afO hm (bM _);rwa [dt (bM _)] at this
 have awJ:∀o:List Int,((o.map aC).all λe=>D e==1)=true:=λo=>by simp[aC]
 rcases n with _|n
 ·have F:=dN [] (by simp);have bx:=p1 [];simp only[cR,ais,lH] at F bx;refine ai ?_;repeat' (intro h<;>simp only[h,go_sem,go_sem_proc,au,af,Zq,tW,F,pr,p4,show ¬ ((0:Int)>0) by omega,decide_false,ar,show (0:Int).toNat=0 from rfl,show (0:Int)<=0 by omega,fy,List.take_zero,cR,lH]<;>try refine ah ?_ ?_)
  rw[bx _ (by simp[a4]),bz];simp[gb]
 ·have hw:IntKind.i64.wrap (((n+1:Nat):Int)-1)=(n:Int):=by rw[ev _];omega
  have Q:l[n]?=some l[n]:=bn (by omega);have h5:((n+1:Nat):Int)>0:=by omega
  have hle:n+1<=D l:=aH
  by_cases aV:l[n]=0
  ·refine ai ?_;repeat' (intro h<;>simp only[h,go_sem,go_sem_proc,au,af,hw,Q,aV,h5,ar,bo,decide_true,aC,beq_self_eq_true,bh]<;>try refine ah ?_ ?_)
   exact⟨n,by omega,by omega,by rw[bz,Ye l n (by omega) aV],rfl,Zq⟩
  ·have r4:(l[n]==0)=false:=by simpa using aV
   have F:=dN (l.take (n+1)) (by rw[gE];omega);rw[gE,oO hle,AU] at F;have cC:(fh (n+1) (l.map aC)).length=n+1:=by rw[gE,ar];omega
   have ait:=awJ (l.take (n+1));rw[AU] at ait;refine ai ?_;repeat' (intro h<;>simp only[h,go_sem,go_sem_proc,au,af,Zq,hw,Q,r4,h5,tW,ait,hle,F,cC,aC,ar,bo,decide_true,bh,show (0:Int)<=((n+1:Nat):Int) by omega,Int.toNat_natCast,fy]<;>try refine ah ?_ ?_)
   have bx:=p1 (l.take (n+1)) _ (show a4 (a4 mem 183018 0 []) 183018 1 (a6 aC (fh (n+1) l)) 183018=_ by simp[a4])
   rw[gE,oO hle] at bx;rw[bx,bz,Yf l n (by omega) aV]
abbrev R2:(List Int)×Nat->List Data:=λ(l,i)=>[.ay (l.map aC),.int .i64 i]
def Fv:=bU R2 λ(l,i)=>cp (D l<=1000000) (.same (.int .i64 (l.getD i 0)))
def awK:∀a b,R2 a=R2 b->a=b:=by
  rintro⟨eH,i1⟩ ⟨aI,i2⟩ h;simp only[bh,Data.ay.injEq,Data.int.injEq] at h;exact ej (map_inj fq _ _ h.1) (by have:=h.2.1.2;dsimp only;omega)
@[go_sem] def aiu (l i):=cz Fv rfl awK (l,i) rfl
def awL (T:ba):WF T air Fv:=by
 refine cf λ(l,i)=>cG λH=>⟨rfl,b7 ?_⟩;simp only[air,R2,b1];rcases iD i (D l) with aq|ca
 ·have Q:=bn aq;have Y:decide ((i:Int)<(D l:Int))=true:=cX;have a8:l.getD i 0=l[i]:=by rw[ei,Q];rfl
  rw[a8];refine ai ?_;repeat' (intro h<;>simp only[h,go_sem,go_sem_proc,Q,Y,aC,ar,bo]<;>try refine ah ?_ ?_)
 ·have Y:decide ((i:Int)<(D l:Int))=false:=cA;have a8:l.getD i 0=0:=by rw[ei,mB ca];rfl
  rw[a8];refine ai ?_;repeat' (intro h<;>simp only[h,go_sem,go_sem_proc,Y,ar]<;>try refine ah ?_ ?_)
def IJ (n i:Nat):(aZ n).getD i 0=((n/1048576^i%1048576:Nat):Int):=by
 induction i generalizing n with
 |zero =>
  rcases jG n with h|h
  ·subst h;rfl
  ·rw[vF h,Nat.pow_zero,Nat.div_one];rfl
 |succ i av =>
  rcases jG n with h|h
  ·subst h;rw[aiv];rfl
  ·rw[vF h];show (aZ (n/1048576)).getD i 0=_;rw[av,aiw,<-Nat.pow_succ']
def IK (n i:Nat):n/1048576^i=n/1048576^i%1048576+1048576*(n/1048576^(i+1)):=by
 rw[xk,<-aiw];omega
def CP {n k:Nat}(h:(aZ n).length<=k):n/1048576^k=0:=Nat.div_eq_of_lt (g8.1 h)
def M6:=bU ni λ(x,y)=>cp ((aZ x).length<=100000/\(aZ y).length<=100000) (.same (.bool (decide (x<y))))
@[go_sem] def awM (x y):=cz M6 rfl yS (x,y) rfl
def awN (T:ba)(hN:T ur=aQ Fv):WF T aip M6:=by
 refine cf λ(x,y)=>cG λH=>⟨rfl,b7 ?_⟩;simp only[aip,ni,b1];obtain⟨Q,al⟩:=H;have kT:∃bb:Nat,bb=max (aZ x).length (aZ y).length:=⟨_,rfl⟩;obtain⟨bb,kT⟩:=kT;have h4:(if ((aZ y).length:Int)>((aZ x).length:Int) then ((aZ y).length:Int) else ((aZ x).length:Int))=(bb:Int):=by split<;>omega
 have Cv:IntKind.i64.wrap ((bb:Int)-1)=(bb:Int)-1:=wrap64 _ (by omega) (by omega);have md:(aZ x).length<=1000000:=by omega
 have mO:(aZ y).length<=1000000:=by omega
 simp only[go_sem,go_sem_proc,hN,dR,ar,h4,Cv];refine da [0,1] [] (λ(i:Nat) tm mem=>i<=bb/\x/1048576^i=y/1048576^i/\tm 5=.M (.int .i64 ((i:Int)-1))) (λi=>i) bb (by refine⟨bM _,?_,rfl⟩;rw[CP (by omega),CP (by omega)]) ?_;intro vs ms aW aR;simp only[go_sem,go_sem_proc,hN,dR] at aW aR;subst aW aR;rintro i tm mem I-⟨J,he,bt⟩;simp only[go_sem,go_sem_proc,hN,bh] at I;obtain⟨au,F⟩:=I;rcases i with _|i
 ·have j5:x=y:=by simpa using he
  have aq:decide (x<y)=false:=cA;rw[aq];simp only[go_sem,go_sem_proc,hN,au,F,bt,pr,p4,show ¬ ((0:Int)-1>=0) by omega,decide_false]
  repeat' (first|refine ah ?_ ?_|fail)<;>intro h<;>simp only[h,go_sem,go_sem_proc,hN,au,F,bt,pr,p4,show ¬ ((0:Int)-1>=0) by omega,decide_false]
 ·have hw:((i+1:Nat):Int)-1=(i:Int):=by omega
  have ca:decide ((i:Int)>=0)=true:=cX;have az:=IK x i;have aD:=IK y i;rw[he] at az;have hv:IntKind.i64.wrap ((i:Int)-1)=(i:Int)-1:=wrap64 _ (by omega) (by omega);have cr:=IJ x i;have b6:=IJ y i;have c6:=oS (x/1048576^i) (show 0<1048576 by omega);have eB:=oS (y/1048576^i) (show 0<1048576 by omega);have cm:x/1048576^i<y/1048576^i->x<y:=λh=>aix h;have cC:y/1048576^i<x/1048576^i->y<x:=λh=>aix h;generalize mQ:x/1048576^i=cU at *;generalize AF:y/1048576^i=gj at *;generalize y/1048576^(i+1)=Z at *;generalize cU%1048576=a at *;generalize gj%1048576=b at *;rcases Nat.lt_trichotomy a b with h|h|h
  ·have bE:((a:Int)==(b:Int))=false:=by simp;omega
   have AV:decide ((a:Int)<(b:Int))=decide (x<y):=by rw[h2 (show (a:Int)<(b:Int) by omega),h2 (cm (by omega))]
   simp only[go_sem,go_sem_proc,hN,au,F,bt,hw,ca,cr,b6,md,mO,bE,AV];repeat' (first|refine ah ?_ ?_|fail)<;>intro h<;>simp only[h,go_sem,go_sem_proc,hN,au,F,bt,hw,ca,cr,b6,md,mO,bE,AV]
  ·subst h;simp only[go_sem,go_sem_proc,hN,au,F,bt,hw,ca,cr,b6,md,mO,hv,beq_self_eq_true];repeat' (first|refine ah ?_ ?_|fail)<;>intro h<;>simp only[h,go_sem,go_sem_proc,hN,au,F,bt,hw,ca,cr,b6,md,mO,hv,beq_self_eq_true]
   exact⟨i,by omega,by omega,by rw[mQ,AF];omega,rfl⟩
  ·have bE:((a:Int)==(b:Int))=false:=by simp;omega
   have AV:decide ((a:Int)<(b:Int))=decide (x<y):=by rw[lZ (show ¬ (a:Int)<(b:Int) by omega),lZ (by have:=cC (by omega);omega)]
   simp only[go_sem,go_sem_proc,hN,au,F,bt,hw,ca,cr,b6,md,mO,bE,AV];repeat' (first|refine ah ?_ ?_|fail)<;>intro h<;>simp only[h,go_sem,go_sem_proc,hN,au,F,bt,hw,ca,cr,b6,md,mO,bE,AV]
def Zr {o:List Int}{d:Int}(h:eX o)(au:0<=d)(F:d<1048576):eX (o++[d]):=Es.2 ⟨h,Er.2 ⟨⟨au,F⟩,by intro d Y;cases Y⟩⟩
def Zs (o:List Int)(d:Int):bg (o++[d])=bg o+1048576^(D o)*d:=by rw[Et];simp[bg]
def IM {o:List Int}{n:Nat}(h:eX o)(aA:bg o=n):gb o=aZ n:=by rw[Ae h,aA];rfl
def R4:=bU ni λ(x,y)=>cp ((aZ x).length<=10000/\(aZ y).length<=10000) (.same (dR (x+y)))
@[go_sem] def awO (x y):=cz R4 rfl yS (x,y) rfl
def awP (T:ba)(hN:T ur=aQ Fv)(hO:T uq=aQ AS):WF T aim R4:=by
 refine cf λ(x,y)=>cG λH=>⟨rfl,b7 ?_⟩;simp only[aim,ni,b1];obtain⟨Q,al⟩:=H;have kT:∃bb:Nat,bb=max (aZ x).length (aZ y).length:=⟨_,rfl⟩;obtain⟨bb,kT⟩:=kT;have md:(aZ x).length<=1000000:=by omega
 have mO:(aZ y).length<=1000000:=by omega
 simp only[go_sem,go_sem_proc,hN,hO,dR,ar];refine da [0,1] [] (λ((i,c,g,o):Nat×Nat×Nat×List Int) tm mem=>i<=bb+1/\c<=1/\(i=bb+1->c=0)/\D o=i/\eX o/\bg o+1048576^i*((x/1048576^i+y/1048576^i+c:Nat):Int)=((x+y:Nat):Int)/\tm 6=.M (.int .i64 c)/\tm 7=.M (.int .i64 i)/\tm 5=.ref 181038 g 1 0 i/\mem 181038=some (g,a6 aC o)) (λ(i,_)=>bb+1-i) (0,0,0,[]) (by refine⟨by omega,by omega,by simp,rfl,by simp[eX],by simp[bg],rfl,rfl,rfl,rfl⟩) ?_;intro vs ms aW aR;simp only[go_sem,go_sem_proc,hN,hO,dR] at aW aR;subst aW aR;rintro⟨i,c,g,o⟩ tm mem I-⟨J,hC,ia,bx,iK,aA,b2,cb,bt,hm⟩;simp only[go_sem,go_sem_proc,hN,hO,bh] at I;obtain⟨au,F⟩:=I;have aF:bg o+1048576^i*((x/1048576^i+y/1048576^i+c:Nat):Int)=((x+y:Nat):Int):=aA
 by_cases M7:i<(aZ x).length\/i<(aZ y).length\/0<c
 ·have az:=IK x i;have aD:=IK y i;have cr:=IJ x i;have b6:=IJ y i;have c6:=oS (x/1048576^i) (show 0<1048576 by omega);have eB:=oS (y/1048576^i) (show 0<1048576 by omega);have YY:bb<=i->x/1048576^i=0/\y/1048576^i=0:=λh=>⟨CP (by omega),CP (by omega)⟩;have gk:(1048576:Int)^(i+1)=1048576^i*1048576:=nH _ _;generalize mQ:x/1048576^i=cU at *;generalize AF:y/1048576^i=gj at *;generalize AW:x/1048576^(i+1)=X' at *;generalize IP:y/1048576^(i+1)=Y' at *;generalize aO:cU%1048576=a at *;generalize ad:gj%1048576=b at *;have w1:IntKind.i64.wrap ((a:Int)+(b:Int))=((a+b:Nat):Int):=by rw[ev _];omega
  have n9:IntKind.i64.wrap (((a+b:Nat):Int)+(c:Int))=((a+b+c:Nat):Int):=by rw[ev _];omega
  have fu:((a+b+c:Nat):Int).tmod 1048576=(((a+b+c)%1048576:Nat):Int):=by rw[Mo (by omega)];omega
  have eg:IntKind.i64.wrap (((a+b+c:Nat):Int).tdiv 1048576)=(((a+b+c)/1048576:Nat):Int):=by rw[Av (by omega),wrap64 _ (by omega) (by omega)];omega
  have ct:=e0 (i:=i) (by omega);have dN:=l8 iH vE 181038 g 8 o (((a+b+c)%1048576:Nat):Int) (cs:=[.M (.int .i64 (((a+b+c)%1048576:Nat):Int))]) rfl (by omega) (by omega);rw[bx] at dN
  have aOe:i<=bb:=by
   rcases iD bb i with h|h
   ·have:=ia (by omega);omega
   ·exact h
  have iJ:∃bj:Nat×Nat×Nat×List Int,bb+1-bj.1<bb+1-i/\bj.1<=bb+1/\bj.2.1<=1/\(bj.1=bb+1->bj.2.1=0)/\bj.2.2.2.length=bj.1/\eX bj.2.2.2/\bg bj.2.2.2+1048576^bj.1*((x/1048576^bj.1+y/1048576^bj.1+bj.2.1:Nat):Int)=((x+y:Nat):Int)/\O.M (Data.int .i64 (((a+b+c)/1048576:Nat):Int))=O.M (Data.int .i64 (bj.2.1:Int))/\O.M (Data.int .i64 ((i+1:Nat):Int))=O.M (Data.int .i64 (bj.1:Int))/\O.ref 181038 (g+1) 1 0 (i+1)=O.ref 181038 bj.2.2.1 1 0 bj.1/\some (g+1,a6 aC (o++[(((a+b+c)%1048576:Nat):Int)]))=some (bj.2.2.1,a6 aC bj.2.2.2):=by
   refine⟨(i+1,(a+b+c)/1048576,g+1,o++[(((a+b+c)%1048576:Nat):Int)]),by dsimp only;omega,by dsimp only;omega,by dsimp only;omega,?_,by simp[bx],Zr iK (by omega) (by omega),?_,rfl,rfl,rfl,rfl⟩
   ·intro h;dsimp only at h ⊢;have:=YY (by omega);omega
   ·dsimp only;rw[AW,IP,Zs,bx,gk,<-aF];have bX:((cU+gj+c:Nat):Int)=1048576*((X'+Y'+(a+b+c)/1048576:Nat):Int)+(((a+b+c)%1048576:Nat):Int):=by omega
    rw[bX,iq,ir];omega
  by_cases z8:i<(aZ x).length
  ·have d1:decide ((i:Int)<((aZ x).length:Int))=true:=cX;refine ai ?_;repeat' (intro (aw:_=_)<;>simp only[aw,go_sem,go_sem_proc,hN,hO,au,F,bt,b2,cb,hm,cr,b6,md,mO,d1,w1,n9,fu,eg,ct,dN,ar]<;>try refine ah ?_ ?_)
   exact iJ
  ·have d1:decide ((i:Int)<((aZ x).length:Int))=false:=cA
   by_cases sO:i<(aZ y).length
   ·have d2:decide ((i:Int)<((aZ y).length:Int))=true:=cX;refine ai ?_;repeat' (intro (aw:_=_)<;>simp only[aw,go_sem,go_sem_proc,hN,hO,au,F,bt,b2,cb,hm,cr,b6,md,mO,d1,d2,w1,n9,fu,eg,ct,dN,ar]<;>try refine ah ?_ ?_)
    exact iJ
   ·have d2:decide ((i:Int)<((aZ y).length:Int))=false:=cA;have d3:decide ((c:Int)>0)=true:=cX;refine ai ?_;repeat' (intro (aw:_=_)<;>simp only[aw,go_sem,go_sem_proc,hN,hO,au,F,bt,b2,cb,hm,cr,b6,md,mO,d1,d2,d3,w1,n9,fu,eg,ct,dN,ar]<;>try refine ah ?_ ?_)
    exact iJ
 ·have d1:decide ((i:Int)<((aZ x).length:Int))=false:=cA;have d2:decide ((i:Int)<((aZ y).length:Int))=false:=cA;have d3:decide ((c:Int)>0)=false:=cA;rw[CP (n:=x) (by omega),CP (n:=y) (by omega),show c=0 by omega] at aF
  have cQ:=Fu o (by omega);rw[IM (n:=x+y) iK (by simpa using aF)] at cQ;have ha:=II (aZ (x+y));have mL:=pj (n:=5) iH hm;rw[bx] at mL;refine ai ?_;repeat' (intro (aw:_=_)<;>simp only[aw,go_sem,go_sem_proc,hN,hO,au,F,bt,b2,cb,hm,d1,d2,d3,cQ,ha,mL,Ft,nr,ar]<;>try refine ah ?_ ?_)
def M8:=bU ni λ(x,y)=>cp ((aZ x).length<=10000/\(aZ y).length<=10000/\y<=x) (.same (dR (x-y)))
@[go_sem] def aiy (x y):=cz M8 rfl yS (x,y) rfl
def awQ (T:ba)(hN:T ur=aQ Fv)(hO:T uq=aQ AS):WF T ain M8:=by
 refine cf λ(x,y)=>cG λH=>⟨rfl,b7 ?_⟩;simp only[ain,ni,b1];obtain⟨Q,al,j5⟩:=H;have md:(aZ x).length<=1000000:=by omega
 have mO:(aZ y).length<=1000000:=by omega
 have afU:(aZ y).length<=(aZ x).length:=by rw[g8];exact uz j5 (g8.1 (bM _))
 simp only[go_sem,go_sem_proc,hN,hO,dR,ar];refine da [0,1] [] (λ((i,c,g,o):Nat×Nat×Nat×List Int) tm mem=>i<=(aZ x).length/\c<=1/\y/1048576^i+c<=x/1048576^i/\D o=i/\eX o/\bg o+1048576^i*((x/1048576^i-(y/1048576^i+c):Nat):Int)=((x-y:Nat):Int)/\tm 6=.M (.int .i64 c)/\tm 7=.M (.int .i64 i)/\tm 5=.ref 182032 g 1 0 i/\mem 182032=some (g,a6 aC o)) (λ(i,_)=>(aZ x).length-i) (0,0,0,[]) (by refine⟨by omega,by omega,by simpa using j5,rfl,by simp[eX],by simp[bg],rfl,rfl,rfl,rfl⟩) ?_;intro vs ms aW aR;simp only[go_sem,go_sem_proc,hN,hO,dR] at aW aR;subst aW aR;rintro⟨i,c,g,o⟩ tm mem I-⟨J,hC,hle,bx,iK,aA,b2,cb,bt,hm⟩;simp only[go_sem,go_sem_proc,hN,hO,bh] at I;obtain⟨au,F⟩:=I;have aF:bg o+1048576^i*((x/1048576^i-(y/1048576^i+c):Nat):Int)=((x-y:Nat):Int):=aA;have Lh:y/1048576^i+c<=x/1048576^i:=hle
 by_cases M7:i<(aZ x).length
 ·have d1:decide ((i:Int)<((aZ x).length:Int))=true:=cX;have az:=IK x i;have aD:=IK y i;have cr:=IJ x i;rw[ei,bn M7] at cr;have g6:(aZ x)[i]?=some ((x/1048576^i%1048576:Nat):Int):=by rw[bn M7];exact congrArg some cr
  have b6:=IJ y i;have c6:=oS (x/1048576^i) (show 0<1048576 by omega);have eB:=oS (y/1048576^i) (show 0<1048576 by omega);have gk:(1048576:Int)^(i+1)=1048576^i*1048576:=nH _ _;clear cr hle aA;generalize mQ:x/1048576^i=cU at *;generalize AF:y/1048576^i=gj at *;generalize AW:x/1048576^(i+1)=X' at *;generalize IP:y/1048576^(i+1)=Y' at *;generalize aO:cU%1048576=a at *;generalize ad:gj%1048576=b at *;have w1:IntKind.i64.wrap ((a:Int)-(b:Int))=(a:Int)-(b:Int):=wrap64 _ (by omega) (by omega);have n9:IntKind.i64.wrap ((a:Int)-(b:Int)-(c:Int))=(a:Int)-(b:Int)-(c:Int):=wrap64 _ (by omega) (by omega);have ct:=e0 (i:=i) (by omega);have nR:IntKind.i64.wrap ((a:Int)-(b:Int)-(c:Int)+1048576)=(a:Int)-(b:Int)-(c:Int)+1048576:=wrap64 _ (by omega) (by omega);have dN:=λd:Int=>l8 iH vE 182032 g 8 o d (cs:=[.M (.int .i64 d)]) rfl (by omega) (by omega);rw[bx] at dN;rcases lL:decide ((a:Int)-(b:Int)-(c:Int)<0)
  ·have aH:=of_decide_eq_false lL;refine ai ?_;repeat' (intro h<;>simp only[h,go_sem,go_sem_proc,hN,hO,au,F,bt,b2,cb,hm,g6,b6,mO,d1,w1,n9,ct,dN,lL,aC,ar,bo]<;>try refine ah ?_ ?_)
   refine⟨(i+1,0,g+1,o++[(a:Int)-(b:Int)-(c:Int)]),by dsimp only;omega,by dsimp only;omega,by dsimp only;omega,by dsimp only;rw[AW,IP];omega,by simp[bx],Zr iK (by omega) (by omega),?_,rfl,rfl,rfl,rfl⟩
   dsimp only;rw[AW,IP,Zs,bx,gk,<-aF];have bX:((cU-(gj+c):Nat):Int)=1048576*((X'-(Y'+0):Nat):Int)+((a:Int)-b-c):=by omega
   rw[bX,iq,ir];omega
  ·have aH:=of_decide_eq_true lL;refine ai ?_;repeat' (intro h<;>simp only[h,go_sem,go_sem_proc,hN,hO,au,F,bt,b2,cb,hm,g6,b6,mO,d1,w1,n9,ct,nR,dN,lL,aC,ar,bo]<;>try refine ah ?_ ?_)
   refine⟨(i+1,1,g+1,o++[(a:Int)-(b:Int)-(c:Int)+1048576]),by dsimp only;omega,by dsimp only;omega,by dsimp only;omega,by dsimp only;rw[AW,IP];omega,by simp[bx],Zr iK (by omega) (by omega),?_,rfl,rfl,rfl,rfl⟩
   dsimp only;rw[AW,IP,Zs,bx,gk,<-aF];have bX:((cU-(gj+c):Nat):Int)=1048576*((X'-(Y'+1):Nat):Int)+((a:Int)-b-c+1048576):=by omega
   have dE:∀p b8 eS:Int,bg o+p*b8+p*1048576*eS=bg o+p*(1048576*eS+b8):=λp b8 eS=>by rw[iq p (1048576*eS) b8,<-ir];omega
   rw[bX];exact dE _ _ _
 ·have d1:decide ((i:Int)<((aZ x).length:Int))=false:=cA;rw[CP (n:=x) (by omega),CP (n:=y) (by omega),Nat.zero_sub,pr,yW,Ay] at aF;have cQ:=Fu o (by omega);rw[IM (n:=x-y) iK aF] at cQ;have ha:=II (aZ (x-y));have mL:=pj (n:=5) iH hm;rw[bx] at mL;refine ai ?_;repeat' (intro h<;>simp only[h,go_sem,go_sem_proc,hN,hO,au,F,bt,b2,cb,hm,d1,cQ,ha,mL,Ft,nr,ar]<;>try refine ah ?_ ?_)
def aiz {b:List Int}{k:Nat}(h:k<D b):b.getD k 0=b[k]:=by rw[ei,bn h];rfl
def Zt {b:List Int}{k:Nat}(h:(D b)<=k):b.getD k 0=0:=by rw[ei,mB h];rfl
def M9:=bU ni λ(x,y)=>cp ((aZ x).length<=10000/\(aZ y).length<=10000) (.same (dR (x*y)))
@[go_sem] def aiA (x y):=cz M9 rfl yS (x,y) rfl
def awR (T:ba)(hN:T ur=aQ Fv)(hO:T uq=aQ AS):WF T aiq M9:=by
 refine cf λ(x,y)=>cG λH=>⟨rfl,b7 ?_⟩;simp only[aiq,ni,b1];obtain⟨Q,al⟩:=H;have ux:=nh x;have r5:=nh y;have xt:=l9 x;have EU:=l9 y;generalize aO:aZ x=a at *;generalize ad:aZ y=b at *;have qU:IntKind.i64.wrap ((D a:Int)+(D b:Int))=((D a+D b:Nat):Int):=by rw[ev _];rfl
 have lh:8*(D a+D b)<=140737488355328:=by omega
 have eO:(D a)+D b<=maxLen:=H6 _ (by omega);have Lj:(D b)<=1000000:=by omega
 simp only[go_sem,go_sem_proc,hN,hO,dR,aO,ad,qU,lh,eO,H5,ar]
 refine da [0,1,5] [] (λ((i,o):Nat×List Int) tm mem=>i<=D a/\D o=D a+D b/\eX o/\o.drop (i+D b)=dH (D o-(i+D b)) 0/\bg o=bg (a.take i)*y/\tm 6=.M (.int .i64 (i:Nat))/\mem 186015=some (0,a6 aC o))
  (λ(i,_)=>D a-i) (0,dH (D a+D b) 0) (by
   have aV:∀n,bg (dH n 0)=0:=by
    intro n
    induction n with
    |zero=>rfl
    |succ n av=>rw[List.replicate_succ,um,av];rfl
   refine⟨fy _,by simp,λd Y=>by rw[Ia] at Y;omega,by simp,by rw[aV];simp[bg],?_,?_⟩<;>rfl) ?_
 intro vs ms aW aR;simp only[go_sem,go_sem_proc,hN,hO,dR,aO,ad,qU,ar] at aW aR;subst aW aR;rintro⟨i,o⟩ tm mem I-⟨J,bx,iK,s5,j4,b2,hm⟩;simp only[go_sem,go_sem_proc,hN,hO,bh] at I;obtain⟨au,F,bt⟩:=I;rcases dq (i<D a) with aq|ca
 ·have qS:a[i]?=some a[i]:=bn aq;have Cc:=lJ ux i aq;have uf:=lI a i aq;generalize a[i]=hU at *;have kQ:decide ((i:Int)<(D a:Int))=true:=cX;have Mt:IntKind.i64.wrap ((i:Int)+1)=((i+1:Nat):Int):=by rw[ev _];rfl
  simp only[go_sem,go_sem_proc,hN,hO,au,F,bt,b2,qS,kQ,aC,ar,bo,bh]
  refine da [0,1,5,6] [] (λ((k,c,o):Nat×Int×List Int) tm mem=>k<=D b+1/\(k=D b+1->c=0)/\D o=D a+D b/\eX o/\o.drop (i+max k (D b))=dH (D o-(i+max k (D b))) 0/\0<=c/\c<1048576/\bg o+1048576^(i+k)*c=bg (a.take i)*y+1048576^i*(hU*bg (b.take k)) /\
    tm 8=.M (.int .i64 (k:Nat))/\tm 7=.M (.int .i64 c)/\mem 186015=some (0,a6 aC o))
   (λ(k,_)=>D b+1-k) (0,0,o) (by refine⟨fy _,by simp,bx,iK,by rw[Nat.zero_max];exact s5,by omega,by omega,by simp[bg,j4],?_,?_,hm⟩<;>rfl) ?_
  intro vs ms aW aR;simp only[go_sem,go_sem_proc,hN,hO,au,F,bt,b2,aC,ar] at aW aR;subst aW aR;rintro⟨k,c,o⟩ tm mem I-⟨qH,CR,bx,iK,s5,mN,hC,j4,cN,cb,hm⟩;simp only[go_sem,go_sem_proc,hN,hO,bh] at I;obtain⟨au,F,bt,b2⟩:=I;have hv:IntKind.i64.wrap ((k:Int)+1)=((k+1:Nat):Int):=by rw[ev _];rfl
  have nj:IntKind.i64.wrap ((i:Int)+(k:Int))=((i+k:Nat):Int):=by rw[ev _];rfl
  by_cases M7:k<(D b)\/c>0
  ·have Mm:k<=D b:=by
    rcases iD (D b) k with h|h
    ·have:=CR (by omega);omega
    ·exact h
   have p5:i+k<D o:=by omega
   have Yu:=lJ iK (i+k) p5
   have Ib:0<=b.getD k 0/\b.getD k 0<1048576:=by
    rcases iD k (D b) with h|h
    ·rw[aiz h];exact lJ r5 k h
    ·rw[Zt h];omega
   have Zu:bg (b.take (k+1))=bg (b.take k)+1048576^k*b.getD k 0:=by
    rcases iD k (D b) with h|h
    ·rw[aiz h];exact lI b k h
    ·rw[Zt h,dt (by omega),dt (by omega)];simp
   have w8:k<(D b)\/(k=D b/\o[i+k]=0):=by
    rcases iD k (D b) with h|h
    ·exact .inl h
    ·refine .inr ⟨by omega,afX s5 (by omega) p5⟩
   have Zv:=aiu b k Lj;generalize b.getD k 0=qg at *;obtain⟨dw,cv,p6,oU⟩:=afW Yu Cc Ib ⟨mN,hC⟩;have oT:IntKind.i64.wrap (hU*qg)=hU*qg:=wrap64 _ (by omega) (by omega);have Ic:IntKind.i64.wrap (o[i+k]+hU*qg)=o[i+k]+hU*qg:=wrap64 _ (by omega) (by omega);have Ck:IntKind.i64.wrap (o[i+k]+hU*qg+c)=o[i+k]+hU*qg+c:=wrap64 _ (by omega) (by omega);have s6:(o[i+k]+hU*qg+c).tmod 1048576=(o[i+k]+hU*qg+c)%1048576:=Mo (by omega);have Ik:IntKind.i64.wrap ((o[i+k]+hU*qg+c).tdiv 1048576)=(o[i+k]+hU*qg+c)/1048576:=by rw[Av (by omega)];exact wrap64 _ (by omega) (by omega)
   have lK:i+k+1<=(a6 aC o).length:=by rw[qQ];omega
   have kR:=Mi o (i+k) p5;have iW:=λd=>yR o (i+k) d p5;have j1:i+k<D a+D b:=by omega
   have iJ:∃bj:Nat×Int×List Int,D b+1-bj.1<D b+1-k/\bj.1<=D b+1/\(bj.1=D b+1->bj.2.1=0)/\bj.2.2.length=D a+D b/\eX bj.2.2/\bj.2.2.drop (i+max bj.1 (D b))=dH (bj.2.2.length-(i+max bj.1 (D b))) 0/\0<=bj.2.1/\bj.2.1<1048576/\bg bj.2.2+1048576^(i+bj.1)*bj.2.1=bg (a.take i)*y+1048576^i*(hU*bg (b.take bj.1)) /\
     O.M (Data.int .i64 ((k+1:Nat):Int))=O.M (Data.int .i64 (bj.1:Nat))/\O.M (Data.int .i64 ((o[i+k]+hU*qg+c)/1048576))=O.M (Data.int .i64 bj.2.1)/\some (0,a6 aC (o.set (i+k) ((o[i+k]+hU*qg+c)%1048576)))=some (0,a6 aC bj.2.2):=by
    refine⟨(k+1,(o[i+k]+hU*qg+c)/1048576,o.set (i+k) ((o[i+k]+hU*qg+c)%1048576)),by dsimp only;omega,by dsimp only;omega,?_,by simp[bx],At iK _ (by omega),?_,p6,oU,?_,rfl,rfl,rfl⟩
    ·intro h;dsimp only at h ⊢;rcases w8 with G|⟨G,af⟩
     ·omega
     ·have awS:qg=0:=by
       have e:=Zv;rw[aiu b k Lj,Zt (by omega)] at e
       simpa using e.symm
      rw[af,awS,yW];omega
    ·dsimp only;rcases w8 with G|⟨G,af⟩
     ·rw[Zw (by omega)] at s5;rw[Zw (by omega),ub (by omega),hL,s5]
     ·rw[Zw (by omega),<-G] at s5;rw[Nat.max_eq_left (by omega)];exact afY s5 p5
    ·dsimp only;rw[Yr _ _ _ p5,Zu,<-Nat.add_assoc,nH,afV _ _ _ _ _ _ _ j4];rw[iq (hU),iq (1048576^i),Int.pow_add]
     have:(1048576:Int)^i*(hU*(1048576^k*qg))=1048576^i*1048576^k*(hU*qg):=by
      rw[<-ir (hU),nI (hU) (1048576^k),ir (1048576^k),<-ir]
     omega
   by_cases aOf:k<D b
   ·have d1:decide ((k:Int)<(D b:Int))=true:=cX;refine ai ?_;repeat' (intro (aw:_=_)<;>simp only[aw,go_sem,go_sem_proc,hN,hO,au,F,bt,b2,cb,cN,hm,qS,Zv,d1,hv,nj,oT,Ic,Ck,s6,Ik,j1,lK,kR,iW,aC,dy,ar,bo,bh]<;>try refine ah ?_ ?_)
    exact iJ
   ·have d1:decide ((k:Int)<(D b:Int))=false:=cA;have d2:decide (c>0)=true:=cX;refine ai ?_;repeat' (intro (aw:_=_)<;>simp only[aw,go_sem,go_sem_proc,hN,hO,au,F,bt,b2,cb,cN,hm,qS,Zv,d1,d2,hv,nj,oT,Ic,Ck,s6,Ik,j1,lK,kR,iW,aC,dy,ar,bo,bh]<;>try refine ah ?_ ?_)
    exact iJ
  ·have d1:decide ((k:Int)<(D b:Int))=false:=cA;have d2:decide (c>0)=false:=cA;have awT:c=0:=by omega
   rw[awT,yW,Ay,show b.take k=b from dt (by omega),EU] at j4;refine ai ?_;repeat' (intro (aw:_=_)<;>simp only[aw,go_sem,go_sem_proc,hN,hO,au,F,bt,b2,cb,cN,hm,d1,d2,Mt,ar]<;>try refine ah ?_ ?_)
   refine⟨(i+1,o),by dsimp only;omega,by dsimp only;omega,bx,iK,?_,?_,rfl,rfl⟩
   ·dsimp only;have af:=congrArg (ft (i+1+D b-(i+max k (D b)))) s5;rw[List.drop_drop,List.drop_replicate] at af;rw[show i+max k (D b)+(i+1+D b-(i+max k (D b)))=i+1+(D b) by omega] at af
    rw[af]
    congr 1
    omega
   ·dsimp only;rw[j4,uf,Int.add_mul,ir]
 ·obtain rfl:i=D a:=by omega
  have kQ:decide ((D a:Int)<(D a:Int))=false:=cA;rw[dt (bM _),xt] at j4;have cQ:=Fu o (by omega);rw[IM (n:=x*y) iK (by rw[j4];rfl)] at cQ;have ha:=II (aZ (x*y));have mL:=pj (n:=5) iH hm;rw[bx] at mL;refine ai ?_;repeat' (intro (aw:_=_)<;>simp only[aw,go_sem,go_sem_proc,hN,hO,au,F,bt,b2,hm,kQ,cQ,ha,mL,Ft,nr,dR,ar]<;>try refine ah ?_ ?_)
def eh.AX:eh->List Nat->eh
 |.seq a _,0::p=>a.AX p
 |.seq _ b,_::p=>b.AX p
 |.cond _ a _,0::p=>a.AX p
 |.cond _ _ b,_::p=>b.AX p
 |.block _ c,_::p=>c.AX p
 |.ghost _ c,_::p=>c.AX p
 |.loop c,_::p=>c.AX p
 |c,_=>c
def aiB {n:Nat}(h:0<n)(F:n<1048576):[(n:Int)]=aZ n:=(Ew h F).symm
def awU {n:Nat}(F:n<1048576):gb [(n:Int)]=aZ n:=IM (by intro d Y;have:=vY.1 Y;omega) (by simp[bg])
def awV {d:Int}{r:Nat}(au:0<=d)(F:d<1048576):gb (d::aZ r)=aZ (d.toNat+1048576*r):=IM (Er.2 ⟨⟨au,F⟩,nh r⟩) (by rw[um,l9];omega)
def Zx {n m k:Nat}(h:n<m*1048576)(hm:(aZ m).length<=k):(aZ n).length<=k+1:=by
 rw[g8] at *;rw[xk];exact Nat.lt_of_lt_of_le h (sN _ (MK hm))
def aiC (T:ba)(ta:T LV=aQ M9)(tb:T QN=aQ M6){K:eT->bc->Prop}{kk:List gG}(y bK:Nat)(al:(aZ y).length<=1000)(gI:(aZ bK).length<=1001)(jc:0<y)(awW:bK<y*1048576)(v0 v6 AY:O)(tm:Nat->O)(m:Mem)
  (bZ:tm 0=v0) (az:tm 1=.M (.ay ((aZ y).map aC))) (bP:tm 6=v6) (cg:tm 7=.M (.ay ((aZ bK).map aC))) (eb:tm 8=AY) (fI:tm 9=.M (.int .i64 0)) (eJ:tm 10=.M (.int .i64 1048576))
  (dM:∀tm',tm' 0=v0->tm' 1=.M (.ay ((aZ y).map aC))->tm' 6=v6->tm' 7=.M (.ay ((aZ bK).map aC))->tm' 8=AY->tm' 9=.M (.int .i64 ((bK/y:Nat):Int))->cw T K kk (.exit 2) ⟨tm',m⟩) :
  wp T (R0.body.AX [1,1,1,0,1,0,0,1,0,0,1,1,1,0,0]) (cw T K kk) ⟨tm,m⟩:=by
 simp only[R0,eh.AX];refine da [0,1,6,7,8] [] (λ((bN,J):Nat×Nat) tm' m'=>bN<J/\J<=1048576/\bN*y<=bK/\bK<J*y/\tm' 9=.M (.int .i64 bN)/\tm' 10=.M (.int .i64 J)/\m'=m) (λ(bN,J)=>J-bN) (0,1048576) (by refine⟨by omega,by omega,by omega,by rw[sT];exact awW,fI,eJ,rfl⟩) ?_;intro vs ms aW aR;simp only[go_sem,go_sem_proc,bZ,az,bP,cg,eb] at aW aR;subst aW aR;clear bZ az bP cg eb fI eJ;rintro⟨bN,J⟩ tm m' I hm ⟨aOg,aX,fB,jq,jL,g3,rfl⟩;simp only[go_sem,go_sem_proc,bh] at I hm;obtain⟨au,F,b2,cb,cN⟩:=I;have w1:IntKind.i64.wrap ((J:Int)-(bN:Int))=(J:Int)-(bN:Int):=wrap64 _ (by omega) (by omega)
 by_cases M7:J-bN>1
 ·have d1:decide ((J:Int)-(bN:Int)>1)=true:=cX;have n9:IntKind.i64.wrap ((bN:Int)+(J:Int))=((bN+J:Nat):Int):=by rw[ev _];omega
  have ct:IntKind.i64.wrap (((bN+J:Nat):Int).tdiv 2)=(((bN+J)/2:Nat):Int):=by rw[Av (by omega),wrap64 _ (by omega) (by omega)];omega
  obtain⟨xJ,awX⟩:∃xJ:Nat,xJ=(bN+J)/2:=⟨_,rfl⟩;rw[<-awX] at ct;have cQ:=aiA y xJ ⟨by omega,by rw[<-aiB (n:=xJ) (by omega) (by omega)];simp⟩
  simp only[dR] at cQ;rw[<-aiB (n:=xJ) (by omega) (by omega)] at cQ;simp only[eu,cR,aC] at cQ;have hD:(aZ (y*xJ)).length<=1001:=Zx (aiD (show xJ<1048576 by omega) jc) al;have ha:=awM bK (y*xJ) ⟨by omega,by omega⟩
  simp only[dR] at ha;rcases Y:decide (bK<y*xJ)
  ·have aH:=of_decide_eq_false Y;rw[Y] at ha;refine ai ?_;repeat' (intro h<;>simp only[h,go_sem,go_sem_proc,ta,tb,au,F,b2,cb,cN,jL,g3,w1,n9,ct,d1,cQ,ha]<;>try refine ah ?_ ?_)
   exact⟨(xJ,J),by dsimp only;omega,by dsimp only;omega,aX,by dsimp only;rw[sT];omega,jq,rfl,rfl⟩
  ·have aH:=of_decide_eq_true Y;rw[Y] at ha;refine ai ?_;repeat' (intro h<;>simp only[h,go_sem,go_sem_proc,ta,tb,au,F,b2,cb,cN,jL,g3,w1,n9,ct,d1,cQ,ha]<;>try refine ah ?_ ?_)
   exact⟨(bN,xJ),by dsimp only;omega,by dsimp only;omega,by dsimp only;omega,fB,by dsimp only;rw[sT];omega,rfl,rfl⟩
 ·have d1:decide ((J:Int)-(bN:Int)>1)=false:=cA
  have aY:bK/y=bN:=by
   have F:J=bN+1:=by omega
   subst F;exact Nat.div_eq_of_lt_le fB jq
  refine ai ?_;repeat' (intro h<;>simp only[h,go_sem,go_sem_proc,au,F,b2,cb,cN,jL,g3,w1,d1]<;>try refine ah ?_ ?_)
  refine dM _ ?_ ?_ ?_ ?_ ?_ ?_<;>simp only[e8,dV,if_false,au,F,b2,cb,cN,jL,aY]
def Na:=bU ni λ(x,y)=>cp ((aZ x).length<=1000/\(aZ y).length<=1000/\0<y) (.same (.cP [dR (x/y),dR (x%y)]))
@[go_sem] def aiE (x y):=cz Na rfl yS (x,y) rfl
def awY (T:ba)(hO:T uq=aQ AS)(ta:T LV=aQ M9)(tb:T QN=aQ M6)(q8:T LU=aQ M8):WF T R0 Na:=by
 refine cf λ(x,y)=>cG λH=>⟨rfl,b7 ?_⟩;simp only[R0,ni,b1];obtain⟨Q,al,jc⟩:=H;have ux:=nh x;have xt:=l9 x;generalize aO:aZ x=a at *;have lh:8*D a<=140737488355328:=by omega
 have eO:(D a)<=maxLen:=H6 _ (by omega);have Cv:IntKind.i64.wrap ((D a:Int)-1)=(D a:Int)-1:=wrap64 _ (by omega) (by omega);simp only[go_sem,go_sem_proc,hO,ta,tb,q8,dR,aO,lh,eO,H5,Cv,ar]
 refine da [0,1,6] [] (λ((n,r,zc,o):Nat×Nat×O×List Int) tm mem=>n<=D a/\D o=D a/\eX o/\r<y/\bg (a.drop n)=y*bg (o.drop n)+r/\(zc=.nil/\r=0\/zc=.M (dR r))/\tm 8=.M (.int .i64 ((n:Nat)-1))/\tm 7=zc/\mem 180014=some (0,a6 aC o))
  (λ(n,_)=>n) (D a,0,.nil,dH (D a) 0) (by
   refine⟨bM _,by simp,λd Y=>by rw[Ia] at Y;omega,jc,by simp[bg],.inl ⟨rfl,rfl⟩,rfl,rfl,rfl⟩) ?_
 intro vs ms aW aR;simp only[go_sem,go_sem_proc,hO,ta,tb,q8,dR,aO,ar] at aW aR;subst aW aR;rintro⟨n,r,zc,o⟩ tm mem I-⟨aH,bx,iK,Cm,aA,xK,cN,cb,hm⟩;simp only[go_sem,go_sem_proc,hO,ta,tb,q8,bh] at I;obtain⟨au,F,b2⟩:=I;rcases n with _|n
 ·have aY:bg o=((x/y:Nat):Int)/\r=x%y:=by
   rw[nG,nG,xt] at aA;have az:(x:Int)/(y:Int)=bg o:=by rw[aA,yU,Int.add_mul_ediv_left _ _ (by omega),Int.ediv_eq_zero_of_lt (by omega) (by omega)];omega
   have aD:(x:Int)%(y:Int)=r:=by rw[aA,yU,Int.add_mul_emod_self_left,Int.emod_eq_of_lt (by omega) (by omega)]
   refine⟨by rw[<-az];rfl,by omega⟩
  have cQ:=Fu o (by omega);rw[IM (n:=x/y) iK aY.1] at cQ;have ha:=II (aZ (x/y));have mL:=pj (n:=5) iH hm;rw[bx] at mL;rcases xK with ⟨rfl,p7⟩|rfl
  ·have aV:aZ (x%y)=[]:=by rw[<-aY.2,p7];rfl
   refine ai ?_;repeat' (intro (aw:_=_)<;>simp only[aw,go_sem,go_sem_proc,hO,ta,tb,q8,au,F,b2,cb,cN,hm,cQ,ha,mL,aV,Ft,nr,dR,pr,p4,show ¬ ((0:Int)-1>=0) by omega,decide_false,ar,cR]<;>try refine ah ?_ ?_)
  ·refine ai ?_;repeat' (intro (aw:_=_)<;>simp only[aw,go_sem,go_sem_proc,hO,ta,tb,q8,au,F,b2,cb,cN,hm,cQ,ha,mL,Ft,nr,dR,pr,p4,show ¬ ((0:Int)-1>=0) by omega,decide_false,ar,cR,aY.2]<;>try refine ah ?_ ?_)
 ·have qS:a[n]?=some a[n]:=bn (by omega);have Rc:=lJ ux n (by omega);have Ym:a.drop n=a[n]::a.drop (n+1):=iE (by omega);have fp:n<D o:=by omega
  have Yp:∀e:Int,(o.set n e).drop n=e::o.drop (n+1):=λe=>by
   rw[iE (by simpa using fp),List.getElem_set_self,ub (by omega)]
  generalize a[n]=d at *;have hw:((n+1:Nat):Int)-1=(n:Int):=by omega
  have ca:decide ((n:Int)>=0)=true:=cX;have oT:IntKind.i64.wrap ((n:Int)-1)=(n:Int)-1:=wrap64 _ (by omega) (by omega);have b0:(aZ r).length<=1000:=by rw[g8] at *;omega
  obtain⟨bK,gI⟩:∃bK:Nat,bK=d.toNat+1048576*r:=⟨_,rfl⟩
  have R5:bK<y*1048576:=by
   have:(r+1)*1048576<=y*1048576:=sN _ Cm;omega
  have Zy:=Zx R5 al;have IQ:=awV (d:=d) (r:=r) Rc.1 Rc.2;rw[<-gI] at IQ;have cQ:=Fu (d::aZ r) (by rw[hQ];omega);rw[IQ] at cQ;simp only[eu,aC] at cQ;have ha:=II (aZ bK)
  have zV:∀bC:Nat,mA 180026 bC 1 1 8 (aZ r).length (((aZ r).map aC).flatten.map .M) (some (bC,[.M (.int .i64 d)]))=some (.ref 180026 (bC+1) 1 0 (1+(aZ r).length),some (180026,bC+1,a6 aC (d::aZ r))):=λbC=>by
   have:=En iH vE 180026 bC 8 [d] (aZ r) (by rw[AZ];omega) (by rw[AZ];omega);exact this
  have awZ:∀(bC:Nat) (m:Mem),m 180026=some (bC,a6 aC (d::aZ r))->b5 6 m (.ref 180026 bC 1 0 (1+(aZ r).length))=some (.ay ((d::aZ r).map aC)):=λbC m hm=>by
   have:=pj (n:=5) iH hm;rw[hQ,Nat.add_comm (aZ r).length 1] at this;exact this
  have tW:(((aZ r).map aC).all λe=>D e==1)=true:=Q9 _;have Zz:=awZ (gH (mem 180026)+1) (a4 (a4 mem 180026 (gH (mem 180026)) [O.M (.int .i64 d)]) 180026 (gH (mem 180026)+1) (a6 aC (d::aZ r))) (by simp[a4]);have h6:n<D a:=by omega
  obtain⟨bN,fB⟩:∃bN:Nat,bN=bK/y:=⟨_,rfl⟩;have ZA:bN<1048576:=by rw[fB];exact Nat.div_lt_of_lt_mul R5
  have AL:=Nat.div_add_mod bK y;have hD:=oS bK jc;rw[<-fB] at AL;have Wo:bK-y*bN=bK%y:=by omega
  have aOh:(aZ (y*bN)).length<=1001:=Zx (aiD ZA jc) al
  have aiF:AS [.ay [[.int .i64 ((bK/y:Nat):Int)]]]=some (.own 1 ((aZ bN).map aC)):=by
   have h:=Fu [((bK/y:Nat):Int)] (by simp);rw[<-fB,awU ZA] at h;rw[<-fB];exact h
  have ZB:=aiA y bN ⟨by omega,by have:(aZ bN).length<=1:=g8.2 (by rw[Nat.pow_one];exact ZA);omega⟩
  simp only[dR] at ZB;have R6:=aiy bK (y*bN) ⟨by omega,by omega,by omega⟩
  rw[Wo] at R6;simp only[dR] at R6;have lK:n+1<=(a6 aC o).length:=by rw[qQ];omega
  have iW:=yR o n ((bK/y:Nat):Int) fp
  have iJ:∃bj:Nat×Nat×O×List Int,bj.1<n+1/\bj.1<=D a/\bj.2.2.2.length=D a/\eX bj.2.2.2/\bj.2.1<y/\bg (a.drop bj.1)=y*bg (bj.2.2.2.drop bj.1)+bj.2.1/\(bj.2.2.1=.nil/\bj.2.1=0\/bj.2.2.1=.M (.ay ((aZ bj.2.1).map aC)))/\O.M (Data.int .i64 ((n:Int)-1))=O.M (Data.int .i64 ((bj.1:Int)-1))/\O.M (Data.ay ((aZ (bK%y)).map aC))=bj.2.2.1/\some (0,a6 aC (o.set n ((bK/y:Nat):Int)))=some (0,a6 aC bj.2.2.2):=by
   refine⟨(n,bK%y,.M (dR (bK%y)),o.set n ((bK/y:Nat):Int)),by dsimp only;omega,by dsimp only;omega,by simp[bx],At iK n (by omega),hD,?_,.inr rfl,rfl,rfl,rfl⟩
   dsimp only;rw[Ym,um,aA,Yp,um,<-fB];have az:(bK:Int)=d+1048576*r:=by omega
   have aD:(y:Int)*bN+(bK%y:Nat)=bK:=by exact_mod_cast AL
   have bX:∀v:Int,(y:Int)*(bN+1048576*v)=y*bN+1048576*(y*v):=λv=>by rw[iq,Int.mul_left_comm]
   rw[bX];omega
  have main:zc=.nil/\r=0\/zc=.M (dR r):=xK;rcases main with ⟨rfl,p7⟩|rfl
  ·subst p7;have aiG:=zV;simp only[sY,cR,ais,lH] at aiG;simp only[sY,lH] at Zz;simp only[sY,cR] at cQ;simp only[go_sem,go_sem_proc,hO,ta,tb,q8,au,F,b2,cb,cN,hm,qS,hw,ca,aiG,cQ,ha,Zz,Ft,nr,aC,sY,ar,bo,cR];refine aiC T ta tb y bK al Zy jc R5 (.M (.ay (a.map aC))) (.ref 180014 0 1 0 (D a)) (.M (.int .i64 n)) _ _ ?_ ?_ ?_ ?_ ?_ ?_ ?_ ?_
   ·exact au
   ·exact F
   ·exact b2
   ·rfl
   ·simp only[e8,dV,if_false,cN,hw]
   ·rfl
   ·rfl
   intro tm' fZ bS ka jP kU qZ;refine ai ?_;repeat' (intro (aw:_=_)<;>simp only[aw,go_sem,go_sem_proc,hO,ta,tb,q8,fZ,bS,ka,jP,kU,qZ,hm,h6,lK,iW,aiF,ZB,R6,oT,dy]<;>try refine ah ?_ ?_)
   exact iJ
  ·simp only[go_sem,go_sem_proc,hO,ta,tb,q8,au,F,b2,cb,cN,hm,qS,hw,ca,zV,tW,cQ,ha,Zz,Ft,nr,dR,aC,ar,bo];refine aiC T ta tb y bK al Zy jc R5 (.M (.ay (a.map aC))) (.ref 180014 0 1 0 (D a)) (.M (.int .i64 n)) _ _ ?_ ?_ ?_ ?_ ?_ ?_ ?_ ?_
   ·exact au
   ·exact F
   ·exact b2
   ·rfl
   ·simp only[e8,dV,if_false,cN,hw]
   ·rfl
   ·rfl
   intro tm' fZ bS ka jP kU qZ;refine ai ?_;repeat' (intro (aw:_=_)<;>simp only[aw,go_sem,go_sem_proc,hO,ta,tb,q8,fZ,bS,ka,jP,kU,qZ,hm,h6,lK,iW,aiF,ZB,R6,oT,dy]<;>try refine ah ?_ ?_)
   exact iJ
def Fw:=bU H4 λ(s,l)=>cp (D l<=1000000) (.same (.agg (eI (mb s l))))
@[go_sem] def aOi (s l):=cz Fw rfl afL (s,l) rfl
def aw0 (T:ba)(hO:T uq=aQ AS):WF T ail Fw:=by
 refine cf λ(s,l)=>cG λH=>⟨rfl,b7 ?_⟩;simp only[ail,H4,b1];have cQ:=Fu l H;have ha:=II (gb l);refine ai ?_;repeat' (intro h<;>simp only[h,go_sem,go_sem_proc,hO,cQ,ha,ar]<;>try refine ah ?_ ?_)
 all_goals simp only[mb,eI,cR, *,reduceIte,cF,dd,s0,Bool.true_or,Bool.or_false,Bool.false_or,Bool.and_true,g4,hs,fC,lD,beq_self_eq_true,bne]
def Fx:=bU s3 λ(s,l)=>cp (D l<=1000000) (.same (.bool (dO (s,l))))
@[go_sem] def aOj (s l):=cz Fx rfl H0 (s,l) rfl
def aw1 (T:ba):WF T aih Fx:=by
 refine cf λ(s,l)=>cG λH=>⟨rfl,b7 ?_⟩;simp only[aih,s3,b1];simp only[go_sem,go_sem_proc,ar];refine da [1] [162001] (λ(i:Nat) tm mem=>i<=D l/\l.all oq=(l.drop i).all oq/\tm 3=.M (.int .i64 i)) (λi=>D l-i) 0 (by refine⟨by omega,by simp,rfl⟩) ?_;intro vs ms aW aR;simp only[go_sem,go_sem_proc,ar] at aW aR;subst aW aR;rintro i tm mem I hm ⟨J,aK,af⟩;simp only[go_sem,go_sem_proc,bh] at I hm;have F:=I;rcases dq (i<D l) with aq|ca
 ·have Y:l.drop i=l[i]::l.drop (i+1):=iE aq;have Q:l[i]?=some l[i]:=bn aq;generalize l[i]=x at *;have d1:decide ((i:Int)<(D l:Int))=true:=cX
  have iJ:∀b,oq x=true->b=(l.drop (i+1)).all oq->l.all oq=b:=by
   intro b F G;rw[aK,Y,BZ,F,G,g4]
  have Mh:¬ oq x=true->dO (s,l)=false:=by
   intro F;rw[Bool.not_eq_true] at F;unfold dO;rw[aK,Y,BZ,F]
   rfl
  have ct:=e0 (i:=i) (by omega);refine ai ?_;repeat' (intro (aw:_=_)<;>simp only[aw,go_sem,go_sem_proc,F,af,hm,Q,d1,ct,aC,ar,bo,bh]<;>try refine ah ?_ ?_)
  ·rw[Mh λh=>by have:=(MA x).1 h;(simp only[cl,Data.bool.injEq,Data.int.injEq,true_and,decide_eq_true_eq,decide_eq_false_iff_not,lD,beq_iff_eq,beq_eq_false_iff_ne,ne_eq] at*<;> omega)]
  ·exact⟨i+1,by omega,by omega,iJ _ ((MA x).2 (by (simp only[cl,Data.bool.injEq,Data.int.injEq,true_and,decide_eq_true_eq,decide_eq_false_iff_not,lD,beq_iff_eq,beq_eq_false_iff_ne,ne_eq] at*<;> omega))) rfl,rfl⟩
  ·rw[Mh λh=>by have:=(MA x).1 h;(simp only[cl,Data.bool.injEq,Data.int.injEq,true_and,decide_eq_true_eq,decide_eq_false_iff_not,lD,beq_iff_eq,beq_eq_false_iff_ne,ne_eq] at*<;> omega)]
 ·have he:l.drop i=[]:=j0 (by omega);rw[he] at aK;have en:l.all oq=true:=by rw[aK];rfl
  have d1:decide ((i:Int)<(D l:Int))=false:=cA;rcases List.eq_nil_or_concat l with rfl|⟨r,x,rfl⟩
  ·have d2:decide ((i:Int)<0)=false:=d1;refine ai ?_;repeat' (intro (aw:_=_)<;>simp only[aw,go_sem,go_sem_proc,F,af,hm,d2,lH,pr,p4,beq_self_eq_true,cR,bne]<;>try refine ah ?_ ?_)
   all_goals (refine congrArg (λb=>some (Data.bool b)) ?_;unfold dO;simp;try simp only[decide_eq_true_eq,decide_eq_false_iff_not,beq_iff_eq,beq_eq_false_iff_ne,nS,aiH,beq_eq_false_iff_ne,ne_eq] at *;omega)
  ·rw[List.concat_eq_append] at *;have bE:(((r++[x]).length:Int)==0)=false:=by simp;omega
   have hw:IntKind.i64.wrap (((r++[x]).length:Int)-1)=(D r:Int):=by
    have cC:(r++[x]).length=D r+1:=by simp
    rw[ev _];omega
   have a8:((r++[x]).map aC)[D r]?=some [.int .i64 x]:=by simp[aC]
   have aa:dO (s,r++[x])=((s==1||s == -1)&&decide (((r++[x]).length:Int)<=60)&&(x != 0)):=by
    unfold dO;rw[en];simp only[List.getLast?_append,List.getLast?_singleton];simp;have az:decide (D r<=59)=decide ((D r:Int)+1<=60):=decide_eq_decide.2 (by omega);have aD:(some x != some (0:Int))=(x != 0):=by simp[bne]
    rw[az,aD]
   rw[aa];refine ai ?_;repeat' (intro (aw:_=_)<;>simp only[aw,go_sem,go_sem_proc,F,af,hm,d1,bE,hw,a8,ar]<;>try refine ah ?_ ?_)
   all_goals (refine congrArg (λb=>some (Data.bool b)) ?_;clear aK en aa a8 hw I hm F af d1;rw[kd];simp only[eQ,Bool.or_eq_true,decide_eq_true_eq,decide_eq_false_iff_not,beq_iff_eq,beq_eq_false_iff_ne,nS,aiH,ne_eq,lD,false_iff,true_iff] at *;omega)
def R7:=bU s3 λ(s,l)=>cp (D l<=1000000) (.same (.agg (eI (lM (s,l)))))
@[go_sem] def aOk (s l):=cz R7 rfl H0 (s,l) rfl
def aw2 (T:ba)(m0:T vL=aQ Fx)(jQ:T vM=aQ Fw):WF T aii R7:=by
 refine cf λ(s,l)=>cG λH=>⟨rfl,b7 ?_⟩;simp only[aii,s3,b1]
 by_cases aa:dO (s,l)=true
 ·obtain⟨z,aV,e⟩:=(j9 _).1 aa;have az:lM (s,l)=bY (-z):=by unfold lM;rw[ab aa,e,fT]
  cases e
  have hw:IntKind.i64.wrap (0-z.sign) = -z.sign:=by
   have:=Int.sign_trichotomy z;rw[ev _];omega
  rw[az];refine ai ?_;repeat' (intro h<;>simp only[h,go_sem,go_sem_proc,m0,jQ,aa,H,hw,agP,eI]<;>try refine ah ?_ ?_)
 ·have aa:dO (s,l)=false:=by simpa using aa
  have az:lM (s,l)=(0,[]):=by unfold lM;rw[aa];rfl
  rw[az];refine ai ?_;repeat' (intro h<;>simp only[h,go_sem,go_sem_proc,m0,jQ,aa,H,eI,cR]<;>try refine ah ?_ ?_)
def aiI (n:Int):(n.tmod 1048576).natAbs=n.natAbs%1048576:=by rw[Int.natAbs_tmod];rfl
def aiJ (n:Int):(n.tdiv 1048576).natAbs=n.natAbs/1048576:=by rw[Int.natAbs_tdiv];rfl
def R8:=bU oo λ(n:Int)=>cp (fa n) (.same (.agg (eI (bY n))))
@[go_sem] def aOl (n):=cz R8 rfl An n rfl
def aw3 (T:ba)(jQ:T vM=aQ Fw):WF T aif R8:=by
 refine cf λn=>cG λH=>⟨rfl,b7 ?_⟩;simp only[aif,oo,b1];have l4:=H;unfold fa at l4;obtain⟨na,vq⟩:=l4;have hlen:(aZ n.natAbs).length<=60:=g8.2 (y2 H);rcases dq (n=0) with rfl|od
 ·refine ai ?_;repeat' (intro (aw:_=_)<;>simp only[aw,go_sem,go_sem_proc,jQ,eI,beq_self_eq_true]<;>try refine ah ?_ ?_)
  rfl
 have bE:(n==0)=false:=by simpa using od
 have X:∀s:Int,s=n.sign->mb s (aZ n.natAbs)=bY n:=λs h=>p8 rfl λ_=>h;have CC:(aZ n.natAbs).length<=1000000:=by omega
 rcases dq (n<0) with lL|h5
 ·have uO:=X (-1) (q0 lL).symm;simp only[go_sem,go_sem_proc,jQ,bE,lL,decide_true];refine da [2,3] [144002] (λ((u,g,l):Int×Nat×List Int) tm mem=>u<=0/\n<=u/\aZ n.natAbs=l++aZ u.natAbs/\tm 0=.M (.int .i64 u)/\tm 4=.ref 144022 g 1 0 (D l)/\mem 144022=some (g,a6 aC l)) (λ(u,_)=>u.natAbs) (n,0,[]) (by refine⟨by omega,by omega,rfl,rfl,rfl,rfl⟩) ?_;intro vs ms aW aR;simp only[go_sem,go_sem_proc,jQ,lL,decide_true] at aW aR;subst aW aR;rintro⟨u,g,l⟩ tm mem I hm ⟨hu,aw4,Y,au,aS,IU⟩;simp only[go_sem,go_sem_proc,jQ,bh] at I hm;obtain⟨G,af⟩:=I;rcases dq (u=0) with rfl|Fh
  ·rw[show (0:Int).natAbs=0 from rfl,sY,fG] at Y;rw[Y] at uO CC;refine ai ?_;repeat' (intro (aw:_=_)<;>simp only[aw,go_sem,go_sem_proc,jQ,au,G,af,aS,hm,IU,uO,CC,oQ iH,mW,eI,ar,beq_self_eq_true]<;>try refine ah ?_ ?_)
  ·have AA:(D l)<=60:=by
    have:=congrArg D Y;rw[fO] at this;omega
   have E1:(u==0)=false:=by simpa using Fh
   have dN:=λd:Int=>l8 iH vE 144022 g 8 l d (cs:=[.M (.int .i64 d)]) rfl (by omega) (by omega);have az:=aiI u;have aD:=aiJ u;have bX:u.tmod 1048576<=0:=by have:=aiK (a:=-u) 1048576 (by omega);rw[Int.neg_tmod] at this;omega
   have dE:u.tdiv 1048576<=0/\u<=u.tdiv 1048576:=by
    have:=aiL (a:=-u) (b:=1048576) (by omega) (by omega);rw[Int.neg_tdiv] at this;omega
   have qU:IntKind.i64.wrap (u.tdiv 1048576)=u.tdiv 1048576:=wrap64 _ (by omega) (by omega);have hv:IntKind.i64.wrap (0-u.tmod 1048576) = -(u.tmod 1048576):=by rw[ev _];omega
   have vW:=vF (n:=u.natAbs) (by omega)
   have iJ:∀d:Int,d=((u.natAbs%1048576:Nat):Int)->∃bj:Int×Nat×List Int,bj.1.natAbs<u.natAbs/\bj.1<=0/\n<=bj.1/\aZ n.natAbs=bj.2.2++aZ bj.1.natAbs/\O.M (.int .i64 (u.tdiv 1048576))=O.M (.int .i64 bj.1)/\O.ref 144022 (g+1) 1 0 (D l+1)=O.ref 144022 bj.2.1 1 0 bj.2.2.length/\some (g+1,a6 aC (l++[d]))=some (bj.2.1,a6 aC bj.2.2):=by
    intro d BT;refine⟨(u.tdiv 1048576,g+1,l++[d]),by dsimp only;omega,by dsimp only;omega,by dsimp only;omega,?_,rfl,by simp,rfl⟩
    dsimp only;rw[Y,vW,BT,aD,gr]
    rfl
   by_cases aV:u.tmod 1048576<0
   ·refine ai ?_;repeat' (intro (aw:_=_)<;>simp only[aw,go_sem,go_sem_proc,jQ,au,G,af,aS,hm,IU,E1,dN,qU,hv,aV,decide_true,ar,bh]<;>try refine ah ?_ ?_)
    exact iJ _ (by omega)
   ·refine ai ?_;repeat' (intro (aw:_=_)<;>simp only[aw,go_sem,go_sem_proc,jQ,au,G,af,aS,hm,IU,E1,dN,qU,hv,aV,decide_false,ar,bh]<;>try refine ah ?_ ?_)
    exact iJ _ (by omega)
 ·have uO:=X 1 (jM (by omega)).symm;simp only[go_sem,go_sem_proc,jQ,bE,h5,decide_false];refine da [2,3] [144002] (λ((u,g,l):Int×Nat×List Int) tm mem=>0<=u/\u<=n/\aZ n.natAbs=l++aZ u.natAbs/\tm 0=.M (.int .i64 u)/\tm 4=.ref 144022 g 1 0 (D l)/\mem 144022=some (g,a6 aC l)) (λ(u,_)=>u.natAbs) (n,0,[]) (by refine⟨by omega,by omega,rfl,rfl,rfl,rfl⟩) ?_;intro vs ms aW aR;simp only[go_sem,go_sem_proc,jQ,h5,decide_false] at aW aR;subst aW aR;rintro⟨u,g,l⟩ tm mem I hm ⟨hu,aw4,Y,au,aS,IU⟩;simp only[go_sem,go_sem_proc,jQ,bh] at I hm;obtain⟨G,af⟩:=I;rcases dq (u=0) with rfl|Fh
  ·rw[show (0:Int).natAbs=0 from rfl,sY,fG] at Y;rw[Y] at uO CC;refine ai ?_;repeat' (intro (aw:_=_)<;>simp only[aw,go_sem,go_sem_proc,jQ,au,G,af,aS,hm,IU,uO,CC,oQ iH,mW,eI,ar,beq_self_eq_true]<;>try refine ah ?_ ?_)
  ·have AA:(D l)<=60:=by
    have:=congrArg D Y;rw[fO] at this;omega
   have E1:(u==0)=false:=by simpa using Fh
   have dN:=λd:Int=>l8 iH vE 144022 g 8 l d (cs:=[.M (.int .i64 d)]) rfl (by omega) (by omega);have az:=aiI u;have aD:=aiJ u;have bX:=aiK (a:=u) 1048576 (by omega);have dE:=aiL (a:=u) (b:=1048576) (by omega) (by omega);have qU:IntKind.i64.wrap (u.tdiv 1048576)=u.tdiv 1048576:=wrap64 _ (by omega) (by omega);have vW:=vF (n:=u.natAbs) (by omega);have aV:decide (u.tmod 1048576<0)=false:=cA;refine ai ?_;repeat' (intro (aw:_=_)<;>simp only[aw,go_sem,go_sem_proc,jQ,au,G,af,aS,hm,IU,E1,dN,qU,aV,ar,bh]<;>try refine ah ?_ ?_)
   refine⟨(u.tdiv 1048576,g+1,l++[u.tmod 1048576]),by dsimp only;omega,by dsimp only;omega,by dsimp only;omega,?_,rfl,by simp,by first|rfl|simp[go_sem]⟩
   dsimp only;rw[Y,vW,aD,gr,show u.tmod 1048576=((u.natAbs%1048576:Nat):Int) by omega]
   rfl
def A0 (a b:Raw):Bool:=decide (a=b)
def R9:=bU np λ(s,l,s2,aI)=>cp (D l<=1000000/\D aI<=1000000) (.same (iL (ot (s,l) (s2,aI))))
@[go_sem] def aOm (s l s2 aI):=cz R9 rfl y0 (s,l,s2,aI) rfl
def aw5 (T:ba)(m0:T vL=aQ Fx)(tc:T LS=aQ Na)(jQ:T vM=aQ Fw):WF T aij R9:=by
 refine cf λ(s,l,s2,aI)=>cG λH=>⟨rfl,b7 ?_⟩;simp only[aij,np,b1];obtain⟨cm,cC⟩:=H
 by_cases aa:dO (s,l)=true
 ·by_cases bL:dO (s2,aI)=true
  ·obtain⟨x,Q,e⟩:=(j9 _).1 aa;obtain⟨y,al,aD⟩:=(j9 _).1 bL
   have hm:ot (s,l) (s2,aI)=(bY (jw x.natAbs y.natAbs:Nat),0):=by
    rw[e,aD];unfold ot
    rw[lq Q,lq al,fT,fT]
    rfl
   rw[hm];clear hm
   cases e
   cases aD;have md:=sc Q;have mO:=sc al;have a8:=MG Q al;generalize mQ:x.natAbs=cU at *;generalize AF:y.natAbs=gj at *;have Y0:(aZ cU).length<=1000000:=by omega
   simp only[go_sem,go_sem_proc,m0,tc,jQ,aa,bL,mQ,AF,cm,cC,Y0,aC,ar];refine da [4] [164004] (λ((a,b):Nat×Nat) tm mem=>a<ea/\b<ea/\jw cU gj=jw a b/\tm 6=.M (.ay ((aZ a).map aC))/\tm 7=.M (.ay ((aZ b).map aC))) (λ(_,b)=>b) (cU,gj) (by refine⟨Q,al,rfl,rfl,rfl⟩) ?_;intro vs ms aW aR;simp only[go_sem,go_sem_proc,m0,tc,jQ,mQ,AF] at aW aR;subst aW aR;rintro⟨a,b⟩ tm mem I hm ⟨aO,ad,xA,b2,cb⟩;simp only[go_sem,go_sem_proc,m0,tc,jQ,bh] at I hm;have aS:=I;have lk:(aZ a).length<=60:=g8.2 aO;have nK:(aZ b).length<=60:=g8.2 ad;rcases jG b with au|h5
   ·subst au;have aV:aZ 0=[]:=rfl;have Y1:(aZ a).length<=1000000:=by omega
    rw[Nat.gcd_zero_right] at xA;have X:mb 1 (aZ a)=bY ((a:Nat):Int):=p8 (by simp) λaH=>(jM (by omega)).symm;rw[xA];refine ai ?_;repeat' (intro h<;>simp only[h,go_sem,go_sem_proc,m0,tc,jQ,aS,b2,cb,hm,aV,Y1,X,eI,iL,v3,cR,lH,pr,p4,show ¬ ((0:Int)>0) by omega,decide_false]<;>try refine ah ?_ ?_)
   ·have bE:decide (((aZ b).length:Int)>0)=true:=by
     have:aZ b≠[]:=by rw[Ne,Ac];omega
     have:=CA.2 this;exact cX
    have hdiv:=aiE a b ⟨by omega,by omega,h5⟩
    simp only[dR] at hdiv;refine ai ?_;repeat' (intro h<;>simp only[h,go_sem,go_sem_proc,m0,tc,jQ,aS,b2,cb,hm,bE,hdiv,ar]<;>try refine ah ?_ ?_)
    exact⟨(b,a%b),oS _ h5,ad,uz (Nat.mod_le _ _) aO,by dsimp only;rw[xA,MI a b,Nat.gcd_rec b a,MI],rfl,rfl⟩
  ·have bL:dO (s2,aI)=false:=by simpa using bL
   have hm:ot (s,l) (s2,aI)=((0,[]),1):=by unfold ot;rw[bL,hs];rfl
   rw[hm];refine ai ?_;repeat' (intro h<;>simp only[h,go_sem,go_sem_proc,m0,tc,jQ,aa,bL,cm,cC,eI,iL,cR]<;>try refine ah ?_ ?_)
 ·have aa:dO (s,l)=false:=by simpa using aa
  have hm:ot (s,l) (s2,aI)=((0,[]),1):=by unfold ot;rw[aa,fC];rfl
  rw[hm];refine ai ?_;repeat' (intro h<;>simp only[h,go_sem,go_sem_proc,m0,tc,jQ,aa,cm,cC,eI,iL,cR]<;>try refine ah ?_ ?_)

def Sa:=bU np λ(s,l,s2,aI)=>cp (D l<=1000000/\D aI<=1000000) (.same (mU (mT (s,l) (s2,aI))))
@[go_sem] def aOn (s l s2 aI):=cz Sa rfl y0 (s,l,s2,aI) rfl
def aw6 (T:ba)(m0:T vL=aQ Fx)(tc:T LS=aQ Na)(IV:T XG=aQ R4)(q8:T LU=aQ M8)(jQ:T vM=aQ Fw):WF T aik Sa:=by
 refine cf λ(s,l,s2,aI)=>cG λH=>⟨rfl,b7 ?_⟩;simp only[aik,np,b1];obtain⟨cm,cC⟩:=H
 by_cases aa:dO (s,l)=true
 ·by_cases bL:dO (s2,aI)=true
  ·obtain⟨x,Q,e⟩:=(j9 _).1 aa;obtain⟨y,al,aD⟩:=(j9 _).1 bL
   by_cases jc:y=0
   ·have hm:mT (s,l) (s2,aI)=((0,[]),(0,[]),15):=by
     rw[e,aD];unfold mT
     rw[lq Q,lq al,fT,fT,ab (by rfl),ab jc]
    rw[hm]
    cases e
    cases aD;have au:((y.sign:Int)==0)=true:=by rw[jc];rfl
    refine ai ?_;repeat' (intro (aw:_=_)<;>simp only[aw,go_sem,go_sem_proc,m0,tc,IV,q8,jQ,aa,bL,cm,cC,au,eI,mU,cR]<;>try refine ah ?_ ?_)
   ·have hm:mT (s,l) (s2,aI)=(bY (x.fdiv y),bY (x.fmod y),0):=by
     rw[e,aD];exact Fb Q al jc
    rw[hm];clear hm
    cases e
    cases aD;have md:=sc Q;have mO:=sc al;have Fc:(y.sign==0)=false:=by rw[beq_eq_false_iff_ne,Ne,ahl];exact jc
    have Fe:0<y.natAbs:=by omega
    have F:=sd x;have G:=sd y;have aF:x.sign*y.sign=(x*y).sign:=(q1 x y).symm;have af:=sd (x*y);have hw:IntKind.i64.wrap (x.sign*y.sign)=x.sign*y.sign:=by rw[aF];exact wrap64 _ (by omega) (by omega)
    have hdiv:=aiE x.natAbs y.natAbs ⟨by omega,by omega,Fe⟩
    simp only[dR] at hdiv;have aY:=Iu (y:=y) Q jc;have y1:=agY (x:=x) al jc;have Y2:x.natAbs/y.natAbs<ea:=uz (Nat.div_le_self _ _) Q;have avy:(aZ (x.natAbs/y.natAbs)).length<=60:=g8.2 Y2;have Iv:x.natAbs%y.natAbs<ea:=Nat.lt_trans (oS _ Fe) al;have avz:(aZ (x.natAbs%y.natAbs)).length<=60:=g8.2 Iv
    by_cases uI:x.sign*y.sign<0/\x.natAbs%y.natAbs≠0
    ·obtain⟨eq,nP⟩:=Rt uI.1 uI.2
     have bE:(((aZ (x.natAbs%y.natAbs)).length:Int)==0)=false:=by
      have:aZ (x.natAbs%y.natAbs)≠[]:=by rw[Ne,Ac];exact uI.2
      have:=CA.2 this;rw[beq_eq_false_iff_ne];omega
     have lL:decide (x.sign*y.sign>=0)=false:=lZ (by have:=uI.1;omega);have j7:aZ 1=[1]:=by simp[aZ,yM]
     have avA:(aZ 1).length=1:=by rw[j7];rfl
     have kV:=awO (x.natAbs/y.natAbs) 1 ⟨by omega,by omega⟩
     simp only[dR,j7,eu,cR,aC] at kV;have nn:=aiy y.natAbs (x.natAbs%y.natAbs) ⟨by omega,by omega,MK (oS _ Fe)⟩
     simp only[dR] at nn
     have lk:(aZ (x.natAbs/y.natAbs+1)).length<=1000000:=by
      have:(x.natAbs/y.natAbs+1)<ea:=by rw[eq] at aY;rw[ML,mV] at aY;exact aY
      have:=(g8 (k:=60)).2 this;omega
     have nK:(aZ (y.natAbs-x.natAbs%y.natAbs)).length<=1000000:=by have:=Rp y.natAbs (x.natAbs%y.natAbs);omega
     have hM:mb (-1) (aZ (x.natAbs/y.natAbs+1))=bY (x.fdiv y):=p8 (by rw[eq,ML,mV]) λ_=>by rw[eq,E4,jM (show (0:Int)<((x.natAbs/y.natAbs+1:Nat):Int) by exact CB.2 (Nat.succ_pos _))]
     have jx:mb y.sign (aZ (y.natAbs-x.natAbs%y.natAbs))=bY (x.fmod y):=by
      refine p8 ?_ λaH=>?_
      ·rw[nP];rcases mS y with ⟨e',af⟩|⟨e',af⟩|⟨e',af⟩<;>rw[e']<;>omega
      ·rw[nP,q1,AH,jM (show (0:Int)<((y.natAbs-x.natAbs%y.natAbs:Nat):Int) by omega),vT]
     refine ai ?_;repeat' (intro (aw:_=_)<;>simp only[aw,go_sem,go_sem_proc,m0,tc,IV,q8,jQ,aa,bL,cm,cC,Fc,hw,hdiv,bE,lL,kV,nn,lk,nK,hM,jx,aC,ar,eI,mU,v3]<;>try refine ah ?_ ?_)
    ·obtain⟨eq,nP⟩:=Ru jc uI
     have Y3:(decide (x.sign*y.sign>=0)=false/\(((aZ (x.natAbs%y.natAbs)).length:Int)==0)=true)\/decide (x.sign*y.sign>=0)=true:=by
      by_cases aH:x.sign*y.sign<0
      ·left
       have:x.natAbs%y.natAbs=0:=Decidable.not_not.1 λh=>uI ⟨aH,h⟩;rw[this];exact⟨cA,rfl⟩
      ·right;exact cX
     have lk:(aZ (x.natAbs/y.natAbs)).length<=1000000:=by omega
     have nK:(aZ (x.natAbs%y.natAbs)).length<=1000000:=by omega
     have hM:mb (x.sign*y.sign) (aZ (x.natAbs/y.natAbs))=bY (x.fdiv y):=by
      refine p8 ?_ λaH=>?_
      ·rw[eq]
       have Ff:∀aN:Nat,(x=0->aN=0)->(x.sign*y.sign*(aN:Int)).natAbs=aN:=by
        intro aN au;rcases mS x with ⟨e,F⟩|⟨e,F⟩|⟨e,F⟩<;>rcases mS y with ⟨e',af⟩|⟨e',af⟩|⟨e',af⟩<;>rw[e,e']<;>first|omega|(rw[au F];rfl)
       exact Ff _ λau=>by rw[au];exact aiv _
      ·rw[eq,aF,q1,q1,q1,AH,AH,jM (show (0:Int)<((x.natAbs/y.natAbs:Nat):Int) from CB.2 (HI aH)),vT]
     have jx:mb x.sign (aZ (x.natAbs%y.natAbs))=bY (x.fmod y):=by
      refine p8 ?_ λaH=>?_
      ·rw[nP]
       have Ff:∀aN:Nat,(x=0->aN=0)->(x.sign*(aN:Int)).natAbs=aN:=by
        intro aN au;rcases mS x with ⟨e,F⟩|⟨e,F⟩|⟨e,F⟩<;>rw[e]<;>first|omega|(rw[au F];rfl)
       exact Ff _ λau=>by rw[au];exact Nat.zero_mod _
      ·rw[nP,q1,AH,jM (show (0:Int)<((x.natAbs%y.natAbs:Nat):Int) from CB.2 (HI aH)),vT]
     rcases Y3 with ⟨Fg,Y4⟩|Fg
     ·refine ai ?_;repeat' (intro (aw:_=_)<;>simp only[aw,go_sem,go_sem_proc,m0,tc,IV,q8,jQ,aa,bL,cm,cC,Fc,hw,hdiv,Fg,Y4,lk,nK,hM,jx,aC,ar,eI,mU,v3]<;>try refine ah ?_ ?_)
     ·refine ai ?_;repeat' (intro (aw:_=_)<;>simp only[aw,go_sem,go_sem_proc,m0,tc,IV,q8,jQ,aa,bL,cm,cC,Fc,hw,hdiv,Fg,lk,nK,hM,jx,aC,ar,eI,mU,v3]<;>try refine ah ?_ ?_)
  ·have bL:dO (s2,aI)=false:=by simpa using bL
   have hm:mT (s,l) (s2,aI)=((0,[]),(0,[]),1):=by unfold mT;rw[bL,hs];rfl
   rw[hm];refine ai ?_;repeat' (intro (aw:_=_)<;>simp only[aw,go_sem,go_sem_proc,m0,tc,IV,q8,jQ,aa,bL,cm,cC,eI,mU,cR]<;>try refine ah ?_ ?_)
 ·have aa:dO (s,l)=false:=by simpa using aa
  have hm:mT (s,l) (s2,aI)=((0,[]),(0,[]),1):=by unfold mT;rw[aa,fC];rfl
  rw[hm];refine ai ?_;repeat' (intro (aw:_=_)<;>simp only[aw,go_sem,go_sem_proc,m0,tc,IV,q8,jQ,aa,cm,cC,eI,mU,cR]<;>try refine ah ?_ ?_)
def aiM:bu:=bT 17 2 [.t 4] (R [db 2 120002 0,db 3 120003 1,cd 4 false] (R [a0 5 0 2,bd 6 2 5,a0 7 0 3,bd 8 2 7,bV 9 QG 6 8,E 10 9,lo 11 10 2 2,r3 12 10 2 11,lo 13 10 2 3,r3 14 10 2 13,gv 15 10 (.call QG [.t 12,.t 14]),e9 16 10 15,E 4 16] .ret))
def aiN:bu:=bT 13 2 [.cell 4 4 true,.t 5] (R [cL 4 124004 dT,bk 5 0] (R [E 6 0,dp 7 QH 6,E 8 1,dp 9 QH 8,bV 10 Xt 7 9,bl 11 0 10,bl 12 1 10,bf 4 4 11,E 5 12] .ret))
def aiO:bu:=bT 38 2 [.t 4] (R [db 2 142002 0,db 3 142003 1,cd 4 false] (.seq (R [a0 6 0 2,aJ 7 1 6,a0 8 0 3,aJ 9 1 8,bm 10 .neq 7 9,E 11 10,fg 12 11 1 2,ew 13 11 1 12,ln 14 11 13,fg 15 11 1 3,ew 16 11 1 15,ln 17 11 16,p3 18 11 .neq 14 17,c5 19 11 18] (cx 19 [cd 4 false])) (.seq (R [bk 5 0] (dY 0 (.seq (R [E 20 5,a0 21 1 2,aJ 22 1 21,b9 23 22,bm 24 .lss 20 23] (du 24 0)) (.seq (.block 1 (eR [a0 27 1 2,aJ 28 1 27,E 29 5,bs 30 1 28 29,aJ 31 1 30,a0 32 1 3,aJ 33 1 32,E 34 5,bs 35 1 33 34,aJ 36 1 35,bm 37 .neq 31 36] EP (cx 37 [cd 4 false]))) (.ops [E 25 5,a5 26 .add 25 1,E 5 26]))))) (R [cd 4 true] .ret))))
def aiP:bu:=bT 57 2 [.cell 4 4 true,.t 5] (R [db 2 143002 0,db 3 143003 1,cL 4 143004 dT,bk 5 0] (.seq (R [bd 14 2 2,dp 15 vL 14,e4 16 15,E 17 16,lG 18 17 2 3,fH 19 17 (.call vL [.t 18]),jb 20 17 19,c5 21 17 20] (cx 21 [aM 22 (.build dT []),bf 4 4 22,bk 5 1])) (.seq (R [a0 23 0 3,aJ 24 1 23,a5 25 .eql 24 0] (cx 25 [aM 26 (.build dT []),bf 4 4 26,bk 5 15])) (.seq (R [a0 27 0 3,aJ 28 1 27,a5 29 .lss 28 0] (eC 29 (R [bd 30 2 2,dp 31 QK 30,bf 2 2 31] (.ops [bd 32 2 3,dp 33 QK 32,bf 2 3 33])) .skip)) (R [bd 35 2 2,bd 36 2 3,bV 37 XC 35 36,E 34 37,bl 38 0 34,bl 39 1 34,cL 6 143006 eG,bf 2 6 38,E 7 39] (R [bd 41 2 2,bd 42 2 6,bV 43 QL 41 42,E 40 43,bl 44 0 40,bl 45 1 40,bl 46 2 40,cL 8 143008 eG,cL 9 143009 eG,bf 2 8 44,bf 2 9 45,E 10 46] (R [bd 48 2 3,bd 49 2 6,bV 50 QL 48 49,E 47 50,bl 51 0 47,bl 52 1 47,bl 53 2 47,cL 11 143011 eG,cL 12 143012 eG,bf 2 11 51,bf 2 12 52,E 13 53] (R [bd 54 2 8,bd 55 2 11,aM 56 (.build dT [(0,2,.t 54),(2,2,.t 55)]),bf 4 4 56,bk 5 0] .ret))))))))
def Sb:=bU np λ(s,l,s2,aI)=>cp (D l<=1000000/\D aI<=1000000) (.same (gf (jN (s,l) (s2,aI))))
@[go_sem] def aOo (s l s2 aI):=cz Sb rfl y0 (s,l,s2,aI) rfl
def aw7 (T:ba)(m0:T vL=aQ Fx)(Nb:T QK=aQ R7)(Nc:T XC=aQ R9)(Nd:T QL=aQ Sa):WF T aiP Sb:=by
 refine cf λ(s,l,s2,aI)=>cG λH=>⟨rfl,b7 ?_⟩;simp only[aiP,np,b1];obtain⟨cm,cC⟩:=H
 by_cases aa:dO (s,l)=true
 ·by_cases bL:dO (s2,aI)=true
  ·obtain⟨x,Q,e⟩:=(j9 _).1 aa;obtain⟨y,al,aD⟩:=(j9 _).1 bL
   by_cases au:y=0
   ·have hm:jN (s,l) (s2,aI)=(eA,15):=by
     unfold jN;rw[aa,bL,aD,fT,ab (by rfl),ab au]
    rw[hm]
    cases e
    cases aD;have X:(y.sign==0)=true:=by rw[au];rfl
    refine ai ?_;repeat' (intro h<;>simp only[h,go_sem,go_sem_proc,m0,Nb,Nc,Nd,aa,bL,cm,cC,X,gf,aU,eA,cR]<;>try refine ah ?_ ?_)
   ·have main:∀p q:Int,p.natAbs<ea->q.natAbs<ea->0<q->∃g:Raw,ot (bY p) (bY q)=(g,0)/\g.2.length<=1000000/\mT (bY p) g=(bY (lO p q).num,bY (p.fmod ((jw p.natAbs q.natAbs:Nat):Int)),0)/\mT (bY q) g=(bY (lO p q).den,bY (q.fmod ((jw p.natAbs q.natAbs:Nat):Int)),0):=by
     intro p q aF aY mP;have oV:=MG aF aY;have Fk:((jw p.natAbs q.natAbs:Nat):Int).natAbs<ea:=by rw[mV];exact oV
     have Ri:=Zd (p:=p) (q:=q) (by omega);obtain⟨F,G⟩:=Zc (p:=p) mP;refine⟨bY ((jw p.natAbs q.natAbs:Nat):Int),?_,nQ Fk,?_,?_⟩
     ·unfold ot;rw[lq aF,lq aY,fT,fT];rfl
     ·rw[Fb aF Fk (by omega),F]
     ·rw[Fb aY Fk (by omega),G]
    have q3:(y.sign==0)=false:=by simpa using au
    rcases Int.lt_or_gt_of_ne au with lL|h5
    ·have hM:decide (y.sign<0)=true:=by rw[q0 lL];rfl
     obtain⟨⟨cr,b6⟩,a8,oV,j7,mR⟩:=main (-x) (-y) (by omega) (by omega) (by omega)
     have hm:jN (s,l) (s2,aI)=(ax (lO (-x) (-y)),0):=by
      rw[e,aD,AM Q al au,Rat.neg_divInt_neg]
     rw[hm];have na:lM (s,l)=bY (-x):=by unfold lM;rw[ab aa,e,fT]
     have vq:lM (s2,aI)=bY (-y):=by unfold lM;rw[ab bL,aD,fT]
     have Fl:s2=y.sign:=congrArg RK aD;have ib:(bY (-x)).2.length<=1000000:=nQ (by omega);have jy:(bY (-y)).2.length<=1000000:=nQ (by omega);clear e aD;unfold ax;generalize bY (-x)=cU at *;generalize bY (-y)=gj at *;obtain⟨gR,fS⟩:=cU;obtain⟨qR,nJ⟩:=gj;rw[<-Fl] at q3 hM;refine ai ?_;repeat' (intro h<;>simp only[h,go_sem,go_sem_proc,m0,Nb,Nc,Nd,aa,bL,cm,cC,q3,hM,na,vq,ib,jy,a8,oV,j7,mR,gf,aU,iL,mU,eI]<;>try refine ah ?_ ?_)
    ·have hM:decide (y.sign<0)=false:=by rw[jM h5];rfl
     obtain⟨⟨cr,b6⟩,a8,oV,j7,mR⟩:=main x y Q al h5
     have hm:jN (s,l) (s2,aI)=(ax (lO x y),0):=by
      rw[e,aD,AM Q al au]
     rw[hm];have Fl:s2=y.sign:=congrArg RK aD;rw[<-e] at a8 j7;rw[<-aD] at a8 mR;rw[<-Fl] at q3 hM;unfold ax;refine ai ?_;repeat' (intro h<;>simp only[h,go_sem,go_sem_proc,m0,Nb,Nc,Nd,aa,bL,cm,cC,q3,hM,a8,oV,j7,mR,gf,aU,iL,mU,eI]<;>try refine ah ?_ ?_)
  ·have bL:dO (s2,aI)=false:=by simpa using bL
   have hm:jN (s,l) (s2,aI)=(eA,1):=by unfold jN;rw[bL,hs];rfl
   rw[hm];refine ai ?_;repeat' (intro h<;>simp only[h,go_sem,go_sem_proc,m0,Nb,Nc,Nd,aa,bL,cm,cC,gf,aU,eA,cR]<;>try refine ah ?_ ?_)
 ·have aa:dO (s,l)=false:=by simpa using aa
  have hm:jN (s,l) (s2,aI)=(eA,1):=by unfold jN;rw[aa,fC];rfl
  rw[hm];refine ai ?_;repeat' (intro h<;>simp only[h,go_sem,go_sem_proc,m0,Nb,Nc,Nd,aa,cm,cC,gf,aU,eA,cR]<;>try refine ah ?_ ?_)
def Nf:=bU yQ λ(p,q)=>cp (fa p/\fa q) (.same (gf (jN (bY p) (bY q))))
@[go_sem] def aw8 (p q):=cz Nf rfl Q7 (p,q) rfl
def aw9 (T:ba)(axa:T QH=aQ R8)(axb:T Xt=aQ Sb):WF T aiN Nf:=by
 refine cf λ(p,q)=>cG λH=>⟨rfl,b7 ?_⟩;simp only[aiN,yQ,b1];obtain⟨F,G⟩:=H;have eH:(bY p).2.length<=1000000:=nQ (y2 F);have aI:(bY q).2.length<=1000000:=nQ (y2 G);generalize gw:bY p=P at *;generalize e3:bY q=aN at *;obtain⟨gR,fS⟩:=P;obtain⟨qR,nJ⟩:=aN;refine ai ?_;repeat' (intro h<;>simp only[h,go_sem,go_sem_proc,axa,axb,F,G,gw,e3,eH,aI,eI,gf,aU]<;>try refine ah ?_ ?_)
def Sc:=bU np λ(s,l,s2,aI)=>cp (D l<=1000000/\D aI<=1000000) (.same (.bool (A0 (s,l) (s2,aI))))
@[go_sem] def aOp (s l s2 aI):=cz Sc rfl y0 (s,l,s2,aI) rfl
def axc (T:ba):WF T aiO Sc:=by
 refine cf λ(s,l,s2,aI)=>cG λH=>⟨rfl,b7 ?_⟩;simp only[aiO,np,b1];obtain⟨cm,cC⟩:=H
 by_cases X:s=s2
 ·subst X
  by_cases ak:(D l)=D aI
  ·have az:(((D l:Nat):Int)==((D aI:Nat):Int))=true:=by simp;omega
   simp only[go_sem,go_sem_proc,beq_self_eq_true,ar,az,cF,bne];refine da [2,3] [142002,142003] (λ(i:Nat) tm mem=>i<=D l/\l.take i=aI.take i/\tm 5=.M (.int .i64 i)) (λi=>D l-i) 0 (by refine⟨by omega,by simp,rfl⟩) ?_;intro vs ms aW aR;simp only[go_sem,go_sem_proc,ar] at aW aR;subst aW aR;rintro i tm mem I hm ⟨J,aK,bt⟩;simp only[go_sem,go_sem_proc,bh] at I hm;obtain⟨G,af⟩:=I;obtain⟨cv,p6⟩:=hm;rcases dq (i<D l) with aq|ca
   ·have Q:l[i]?=some l[i]:=bn aq;have al:aI[i]?=some aI[i]:=bn (by omega);have na:l.take (i+1)=l.take i++[l[i]]:=by rw[hF,Q];rfl
    have vq:aI.take (i+1)=aI.take i++[aI[i]]:=by rw[hF,al];rfl
    generalize l[i]=x at *;generalize aI[i]=y at *;have d1:decide ((i:Int)<(D l:Int))=true:=cX;have ct:=e0 (i:=i) (by omega)
    by_cases j5:x=y
    ·subst j5;refine ai ?_;repeat' (intro (aw:_=_)<;>simp only[aw,go_sem,go_sem_proc,G,af,bt,cv,p6,Q,al,d1,ct,aC,ar,bo,bh,beq_self_eq_true,cF]<;>try refine ah ?_ ?_)
     exact⟨i+1,by omega,by omega,by rw[na,vq,aK],rfl⟩
    ·have bE:(x==y)=false:=by simpa using j5
     have aa:A0 (s,l) (s,aI)=false:=by
      refine lZ λh=>j5 ?_;rw[e2] at h;rw[h.2,al] at Q;exact (mD Q).symm
     rw[aa];refine ai ?_;repeat' (intro (aw:_=_)<;>simp only[aw,go_sem,go_sem_proc,G,af,bt,cv,p6,Q,al,d1,ct,bE,aC,ar,bo,bh,dd]<;>try refine ah ?_ ?_)
   ·have d1:decide ((i:Int)<(D l:Int))=false:=cA
    have aa:A0 (s,l) (s,aI)=true:=by
     refine h2 ?_;rw[dt (by omega),dt (by omega)] at aK;rw[aK]
    rw[aa];refine ai ?_;repeat' (intro (aw:_=_)<;>simp only[aw,go_sem,go_sem_proc,G,af,bt,cv,p6,d1,ar]<;>try refine ah ?_ ?_)
  ·have az:(((D l:Nat):Int)==((D aI:Nat):Int))=false:=by simp;omega
   have aa:A0 (s,l) (s,aI)=false:=by
    refine lZ λh=>ak ?_;rw[e2] at h;rw[h.2]
   rw[aa];refine ai ?_;repeat' (intro (aw:_=_)<;>simp only[aw,go_sem,go_sem_proc,beq_self_eq_true,ar,az,cF,dd,bne]<;>try refine ah ?_ ?_)
 ·have bE:(s==s2)=false:=by simpa using X
  have aa:A0 (s,l) (s2,aI)=false:=by
   refine lZ λh=>X ?_;rw[e2] at h;exact h.1
  rw[aa];refine ai ?_;repeat' (intro (aw:_=_)<;>simp only[aw,go_sem,go_sem_proc,bE,ar,cF,dd,bne]<;>try refine ah ?_ ?_)
def Sd (a b:bF):Bool:=decide (a=b)
def Fy:=bU qc λ(s,l,s2,aI,dP,cS,dU,dk)=>cp (D l<=1000000/\D aI<=1000000/\D cS<=1000000/\D dk<=1000000) (.same (.bool (Sd ((s,l),(s2,aI)) ((dP,cS),(dU,dk)))))
@[go_sem] def axd (s l s2 aI dP cS dU dk):=cz Fy rfl CH (s,l,s2,aI,dP,cS,dU,dk) rfl
def axe (T:ba)(aiQ:T QG=aQ Sc):WF T aiM Fy:=by
 refine cf λ(s,l,s2,aI,dP,cS,dU,dk)=>cG λH=>⟨rfl,b7 ?_⟩;simp only[aiM,qc,b1];obtain⟨cm,cC,ib,jy⟩:=H
 have e:Sd ((s,l),(s2,aI)) ((dP,cS),(dU,dk))=(A0 (s,l) (dP,cS)&&A0 (s2,aI) (dU,dk)):=by
  unfold Sd A0;rw[kd,eQ,decide_eq_true_eq,decide_eq_true_eq,decide_eq_true_eq,e2]
 rw[e];rcases F:A0 (s,l) (dP,cS)
 ·refine ai ?_;repeat' (intro h<;>simp only[h,go_sem,go_sem_proc,aiQ,cm,cC,ib,jy,F,fC]<;>try refine ah ?_ ?_)
 ·refine ai ?_;repeat' (intro h<;>simp only[h,go_sem,go_sem_proc,aiQ,cm,cC,ib,jy,F,g4]<;>try refine ah ?_ ?_)



end Go.Mini
namespace Go.Mini
open Go
variable {P:Program} {A:Nat->Prop} {w aT:World} {B br:e7} {mem mem':Mem}
structure iO (P:Program) (f:FuncId) (eS:List O->Mem->Option gB):Prop where
 real:Real P f
 run:∀args mem oe,eS args mem=some oe->∀A w B vs,fs A w B mem->dg w (b4 A B) B args vs->Wz P f vs A w B mem oe
def me (res:List oJ)(bK:O->Mem->Prop):eT->bc->Prop
 |.exit _,_=>False
 |.normal,st=>∃m,oL st res=some m/\bK m st.mem
 |.ret,st=>∃m,oL st res=some m/\bK m st.mem
@[go_sem] def aOq {res:List oJ}{st:bc}(bK:O->Mem->Prop)(id:Nat):me res bK (.exit id) st=False:=bq
@[go_sem] def aOr {res:List oJ}{st:bc}(bK:O->Mem->Prop):me res bK .normal st=∃m,oL st res=some m/\bK m st.mem:=bq
@[go_sem] def aOs {res:List oJ}{st:bc}(bK:O->Mem->Prop):me res bK .ret st=∃m,oL st res=some m/\bK m st.mem:=bq
def Se {mf:bu}{bK:O->Mem->Prop}{e:eT}{st:bc}(h:me mf.res bK e st):WV mf bK e st:=by
 cases e with
 |exit id=>exact h
 |normal=>exact h
 |ret=>exact h
def Sf {kb : Nat}{own : List Nat}{f : FuncId}{fn : Func}{mf : bu}(aK : P.funcs[f]? = some fn)(uh : (fn.name == "runtime.NumGoroutine") = false)(a3 : qz P kb own fn = some mf): Real P f := by
 cases ad:fn.body with
 |none=>simp[qz,ad] at a3
 |some c=>exact⟨fn,c,aK,ad,uh⟩
def ns (aN:List O->Mem->Option (O->Mem->Prop))(args:List O)(mem:Mem):Option gB:=(aN args mem).map .rel
@[go_sem] def aOt (aN:List O->Mem->Option (O->Mem->Prop))(args:List O)(mem:Mem):ns aN args mem=(aN args mem).map .rel:=bq
def Fz {T : ba}{kb : Nat}{own : List Nat}(cQ : qF P T)(hm : P.follows .mixedOrders = true){f : FuncId}{fn : Func}{mf : bu}(aK : P.funcs[f]? = some fn)(uh : (fn.name == "runtime.NumGoroutine") = false)(a3 : qz P kb own fn = some { mf with body := erase mf.body })
  {aN:List O->Mem->Option (O->Mem->Prop)} (h:∀args mem bK,aN args mem=some bK->(D args)<=mf.n/\wp T mf.body (me mf.res bK) ⟨iC args,mem⟩):iO P f (ns aN):=by
 refine⟨Sf aK uh a3,λargs mem oe g7 A w B vs bR aA=>?_⟩;unfold ns at g7;rw[dS] at g7;obtain⟨bK,gI,rfl⟩:=g7;obtain⟨hlen,xg⟩:=h args mem bK gI;refine Calls.mono (Hx (Post:=bK) cQ hm aK a3 hlen (λe st I=>Se I) xg bR aA) λe aT he=>?_;obtain⟨v,m,mem',br,rfl,X,nb,aF⟩:=he;exact⟨v,m,mem',br,rfl,X,nb,aF⟩
inductive td (cZ:Key->Prop):O->Prop
 |M {d:Data}:td cZ (.M d)
 |nil:td cZ .nil
 |ref {k g sz off len:Nat} (h:¬ cZ k):td cZ (.ref k g sz off len)
 |ptr {k g off:Nat} (h:¬ cZ k):td cZ (.ptr k g off)
 |fx {f:FuncId} {eM:List O} (h:∀(i:Nat) (m:O),eM[i]?=some m->td cZ m):td cZ (.fx f eM)
 |agg {cs:List O} (h:∀(i:Nat) (m:O),cs[i]?=some m->td cZ m):td cZ (.agg cs)
 |cP {cs:List O} (h:∀(i:Nat) (m:O),cs[i]?=some m->td cZ m):td cZ (.cP cs)
 |no:td cZ .no
 |undef:td cZ .undef
def clean_of {cZ:Key->Prop}{a2:Nat->Prop}(uP:∀k,cZ k->B k=none){m:O}{v:Value}(h:bp w a2 B m v):td cZ m:=by
 induction h with
 |M h=>exact .M
 |nil=>exact .nil
 |ref he a8 aA=>exact .ref λag=>by rw[uP _ ag] at he;cases he
 |ptr he a8 aA=>exact .ptr λag=>by rw[uP _ ag] at he;cases he
 |fx ak Y av=>exact .fx λi m J=>av i m _ J (bn (by have aq:=(dK.1 J).1;omega))
 |agg ak Y av=>exact .agg λi m J=>av i m _ J (bn (by have aq:=(dK.1 J).1;omega))
 |cP ak Y av=>exact .cP λi m J=>av i m _ J (bn (by have aq:=(dK.1 J).1;omega))
 |no=>exact .no
 |undef=>exact .undef
open Classical in
def te (cZ:Key->Prop)(B:e7):e7:=λk=>if cZ k then none else B k
def FA {cZ:Key->Prop}{b:Nat}(h:sD (te cZ B) b):sD B b:=by
 obtain⟨k,e,he,ad⟩:=h;unfold te at he
 split at he
 ·cases he
 ·exact⟨k,e,he,ad⟩
def axf {cZ:Key->Prop}{m:O}{v:Value}(h:bp w (b4 A B) B m v)(H:td cZ m):bp w (b4 A (te cZ B)) (te cZ B) m v:=by
 have at_:∀{k:Key} {e:mw},¬ cZ k->B k=some e->te cZ B k=some e:=λI he=>by unfold te;rw[ae I];exact he
 induction h with
 |M h=>exact .M (h.less λb ad=>ad.imp FA id)
 |nil=>exact .nil
 |ref he a8 aA=>cases H with|ref I=>exact .ref (at_ I he) a8 aA
 |ptr he a8 aA=>cases H with|ptr I=>exact .ptr (at_ I he) a8 aA
 |fx ak Y av=>cases H with|fx H=>exact .fx ak λi d v J aA=>av i d v J aA (H i d J)
 |agg ak Y av=>cases H with|agg H=>exact .agg ak λi d v J aA=>av i d v J aA (H i d J)
 |cP ak Y av=>cases H with|cP H=>exact .cP ak λi d v J aA=>av i d v J aA (H i d J)
 |no=>exact .no
 |undef=>exact .undef
def eE.drop {cZ:Key->Prop}{Sg:Mem}(au:fs A w B mem)(uP:∀k,cZ k->mem k=none)(h:eE A w B aT br mem')(F:∀k,cZ k->Sg k=none)(G:∀k,¬ cZ k->Sg k=mem' k)
  (H:∀k g cs,Sg k=some (g,cs)->∀m∈cs,(∃d,m=.M d)\/∃fZ Ei ua,mem fZ=some (Ei,ua)/\m∈ua):eE A w B aT (te cZ br) Sg:=by
 have fz:∀k,cZ k->B k=none:=λk I=>au.BL k (uP k I);have at_:∀{k:Key},¬ cZ k->te cZ br k=br k:=λI=>by unfold te;rw[ae I]
 have ZC:∀{k:Key},cZ k->te cZ br k=none:=λI=>by unfold te;rw[ab I]
 refine⟨⟨λk I=>?_,λk k' e e' b he gA ad kK=>?_,λb aO bx=>h.dX.sep b aO (FA bx),h.dX.lt,λk g cs I=>?_⟩,⟨h.m9.size,λb ad bx=>?_,λk e he=>?_⟩,h.aE,λb ad=>h.fresh b (FA ad)⟩
 ·by_cases ag:cZ k
  ·exact ZC ag
  ·rw[at_ ag];exact h.dX.BL k (by rw[<-G k ag];exact I)
 ·by_cases ag:cZ k
  ·rw[ZC ag] at he;cases he
  ·by_cases pV:cZ k'
   ·rw[ZC pV] at gA;cases gA
   ·rw[at_ ag] at he;rw[at_ pV] at gA;exact h.dX.inj k k' e e' b he gA ad kK
 ·by_cases ag:cZ k
  ·rw[F k ag] at I;cases I
  ·obtain⟨e,he,a8,aH,ad⟩:=h.dX.dr k g cs (by rw[<-G k ag];exact I);refine⟨e,by rw[at_ ag];exact he,a8,aH,λb jZ=>?_⟩
   obtain⟨vs,T,aX,aV,hle,aa⟩:=ad b jZ;refine⟨vs,T,aX,aV,hle,λi m J=>?_⟩;obtain⟨v,aA,vy⟩:=aa i m J;refine⟨v,aA,axf vy ?_⟩;rcases H k g cs I m (dZ J) with ⟨d,rfl⟩|⟨fZ,Ei,ua,kv,fL⟩
   ·exact .M
   ·obtain⟨bZ,Lw,Ri,od,s4⟩:=au.dr fZ Ei ua kv
    cases Ib:bZ.dr with
    |none=>rw[od Ib] at fL;cases fL
    |some sU =>
     obtain⟨aOu,aOv,_,_,_,p7⟩:=s4 sU Ib;obtain⟨i0,qP⟩:=uk.1 fL;obtain⟨v0,_,axg⟩:=p7 i0 m qP;exact clean_of fz axg
 ·obtain⟨af,aS⟩:=h.m9.KE b ad bx;exact⟨af,λQ=>aS (FA Q)⟩
 ·have ag:¬ cZ k:=λag=>by rw[fz k ag] at he;cases he
  rw[at_ ag];exact h.m9.key k e he
def CS (U:List O->Mem->Option (Data×Key×Nat×Nat×Data))(args:List O)(mem:Mem):Option gB:=(U args mem).map λx => .eN x.1 x.2.1 x.2.2.1 x.2.2.2.1 (.M x.2.2.2.2)
@[go_sem] def aOw (U:List O->Mem->Option (Data×Key×Nat×Nat×Data))(args:List O)(mem:Mem):CS U args mem=(U args mem).map λx => .eN x.1 x.2.1 x.2.2.1 x.2.2.2.1 (.M x.2.2.2.2):=bq
def axh {T : ba}{kb : Nat}{own : List Nat}(cQ : qF P T)(hm : P.follows .mixedOrders = true){f : FuncId}{fn : Func}{mf : bu}(aK : P.funcs[f]? = some fn)(uh : (fn.name == "runtime.NumGoroutine") = false)(a3 : qz P kb own fn = some { mf with body := erase mf.body })
  (cZ:Key->Prop) {U:List O->Mem->Option (Data×Key×Nat×Nat×Data)}
  (h:∀args mem r k g i d,U args mem=some (r,k,g,i,d)->(D args)<=mf.n/\(∀j,cZ j->mem j=none)/\¬ cZ k/\(∃cs,mem k=some (g,cs)) /\
   wp T mf.body (me mf.res λm mem'=>b5 6 emp m=some r/\∀j,¬ cZ j->mem' j=a4 mem k g ((rN mem k).set i (.M d)) j) ⟨iC args,mem⟩):iO P f (CS U):=by
 refine⟨Sf aK uh a3,λargs mem oe g7 A w B vs bR aA=>?_⟩;unfold CS at g7;rw[dS] at g7;obtain⟨⟨r,k,g,i,d⟩,mg,rfl⟩:=g7;obtain⟨hlen,uP,I,⟨cs,kt⟩,xg⟩:=h args mem r k g i d mg;refine Calls.mono (Hx (Post:=λm mem'=>b5 6 emp m=some r/\∀j,¬ cZ j->mem' j=a4 mem k g ((rN mem k).set i (.M d)) j) cQ hm aK a3 hlen (λe st I=>Se I) xg bR aA) λe aT he=>?_;obtain⟨v,m,mem',br,rfl,X,nb,Y,fL⟩:=he;refine⟨v,te cZ br,rfl,X.drop bR uP (λj ag=>?_) (λj ag=>(fL j ag).symm) ?_,.M ((Ly 6 m v r Y nb).less λb ad=>ad.imp FA id)⟩
 ·have:j≠k:=λe=>I (e ▸ ag);simp only[a4,this,if_false];exact uP j ag
 ·intro cM b6 oh G m nN
  by_cases gF:cM=k
  ·subst gF;simp only[a4,if_true,cl,e2] at G;obtain⟨-,rfl⟩:=G;rcases IW nN with Q|rfl
   ·refine .inr ⟨cM,g,cs,kt,?_⟩
    simpa [rN,kt] using Q
   ·exact .inl ⟨d,rfl⟩
  ·simp only[a4,gF,if_false] at G;exact .inr ⟨cM,b6,oh,G,nN⟩
def ZD:Option gB->Option gB->Option gB
 |some x,_=>some x
 |none,e=>e
@[go_sem] def aOx (x:gB)(e:Option gB):ZD (some x) e=some x:=bq
@[go_sem] def aOy (e:Option gB):ZD none e=e:=bq
def uQ (l7:FuncId->Option (List Data->Option dx))(tf:FuncId->Option (List O->Mem->Option gB)):ba:=λf args mem=>match tf f with
 |some eS=>ZD (eS args mem) (Cb l7 f args mem)
 |none=>Cb l7 f args mem
def pB {l7:FuncId->Option (List Data->Option dx)}{tf:FuncId->Option (List O->Mem->Option gB)}(h:∀f aL,l7 f=some aL->qJ P f aL)(aa:∀f eS,tf f=some eS->iO P f eS):qF P (uQ l7 tf):=by
 intro f args mem oe cQ;unfold uQ at cQ
 split at cQ
 ·rename_i eS g7;have X:=aa f eS g7
  cases Q:eS args mem with
  |none =>
   rw[Q] at cQ;exact aeF h f args mem oe cQ
  |some y =>
   rw[Q] at cQ
   cases cQ;exact⟨X.real,λA w B vs bR aA=>X.run args mem oe Q A w B vs bR aA⟩
 ·exact aeF h f args mem oe cQ
def LJ.aiR {f:FuncId}{bC:List O->Mem->Option (O×Mem)}(h:LJ P f bC):iO P f (Ce bC):=by
 refine⟨h.real,λargs mem oe g7 A w B vs bR aA=>?_⟩;unfold Ce at g7;rw[dS] at g7;obtain⟨x,Q,rfl⟩:=g7;exact h.run args mem x Q A w B vs bR aA
section
variable {l7:FuncId->Option (List Data->Option dx)} {tf:FuncId->Option (List O->Mem->Option gB)} {f:FuncId}
def lu {aL:List Data->Option dx}(h:tf f=none)(cj:l7 f=some aL):uQ l7 tf f=aQ aL:=by
 funext args mem
 unfold uQ;rw[h];exact congrFun (congrFun (aeK cj) args) mem
def pC {eS:List O->Mem->Option gB}(h:tf f=some eS)(cj:l7 f=none):uQ l7 tf f=eS:=by
 funext args mem
 unfold uQ Cb;rw[h,cj];dsimp only
 cases eS args mem<;>rfl
def IX {aL:List Data->Option dx}{bC:List O->Mem->Option (O×Mem)}(h:tf f=some (Ce bC))(cj:l7 f=some aL):uQ l7 tf f=Ab aL bC:=by
 funext args mem
 unfold uQ;rw[h];unfold Ab Ce;rw[show Cb l7 f args mem=aQ aL args mem from congrFun (congrFun (aeK cj) args) mem];dsimp only
 cases bC args mem<;>rfl
end
def IY (l:List (FuncId×(List O->Mem->Option gB))):FuncId->Option (List O->Mem->Option gB):=λf=>(l.find? λp=>p.1==f).map (·.2)
def pD {l:List (FuncId×(List O->Mem->Option gB))}(h:∀p∈l,iO P p.1 p.2):∀f bC,IY l f=some bC->iO P f bC:=by
 intro f aL aK;unfold IY at aK;rw[dS] at aK;obtain⟨p,aF,rfl⟩:=aK;have F:=List.mem_of_find?_eq_some aF;have G:=List.find?_some aF;have af:p.1=f:=by simpa using G
 exact af ▸ h p F
def ke:∀p∈([]:List (FuncId×(List O->Mem->Option gB))),iO P p.1 p.2:=by simp
def mh {f:FuncId}{aL:List O->Mem->Option gB}{l:List (FuncId×(List O->Mem->Option gB))}(h:iO P f aL)(ak:∀p∈l,iO P p.1 p.2):∀p∈(f,aL)::l,iO P p.1 p.2:=by
 intro p aF;rcases hS.1 aF with rfl|aF
 ·exact h
 ·exact ak p aF
open Classical in
def uR {α:Type}(bb:α->List O->Mem->Prop)(bK:α->Mem->O->Mem->Prop):List O->Mem->Option (O->Mem->Prop):=λargs mem=>if h:∃a,bb a args mem then some (bK (Classical.choose h) mem) else none
def Ng {α:Type}{bb:α->List O->Mem->Prop}{bK:α->Mem->O->Mem->Prop}(uniq:∀a b args mem,bb a args mem->bb b args mem->a=b){a:α}{args:List O}{mem:Mem}(h:bb a args mem):uR bb bK args mem=some (bK a mem):=by
 have Q:∃b,bb b args mem:=⟨a,h⟩;unfold uR;rw[dif_pos Q,uniq _ _ _ _ (oP Q) h]
def FB {α:Type}{bb:α->List O->Mem->Prop}{bK:α->Mem->O->Mem->Prop}{args:List O}{mem:Mem}{x:O->Mem->Prop}(h:uR bb bK args mem=some x):∃a,bb a args mem/\x=bK a mem:=by
 unfold uR at h
 split at h
 ·rename_i Q;exact⟨_,oP Q,(mD h).symm⟩
 ·cases h
end Go.Mini
namespace Go.Mini
open Go
def Nh:=bU xC λ(s,l,s2,aI)=>some (.same (.bool (s==0)))
@[go_sem] def aOz (s l s2 aI):=pk Nh rfl MP (s,l,s2,aI) rfl
def Ni (T:ba):WF T ahw Nh:=by
 refine cf λ(s,l,s2,aI)=>⟨rfl,b7 ?_⟩;simp only[ahw,xC,b1];refine ai ?_;repeat' (intro h<;>simp only[h,go_sem,go_sem_proc]<;>try refine ah ?_ ?_)
def A1 (args:List O)(mem:Mem):Option (Data×Key×Nat×Nat×Data) :=
 match args with
 | [.ptr k g 0,.M (.agg [.int .i64 s,.ay l,.int .i64 s2,.ay aI]),.M (.int .i64 e)]=>match mem k,mem 168004,mem 168006 with
  |some (cV,[_,_,.M (.bool c)]),none,none=>if cV=g/\k≠168004/\k≠168006 then some (.agg [.int .i64 s,.ay l,.int .i64 s2,.ay aI],k,g,2,.bool (c||e != 0)) else none
  |_,_,_=>none
 |_=>none
def Sh (j:Key):Prop:=j=168004\/j=168006
def axi (T:ba)(args:List O)(mem:Mem)(r:Data)(k g i:Nat)(d:Data)(h:A1 args mem=some (r,k,g,i,d)):
  (D args)<=19/\(∀j,Sh j->mem j=none)/\¬ Sh k/\(∃cs,mem k=some (g,cs)) /\
   wp T RM.body (me RM.res λm mem'=>b5 6 emp m=some r/\∀j,¬ Sh j->mem' j=a4 mem k g ((rN mem k).set i (.M d)) j) ⟨iC args,mem⟩:=by
 unfold A1 at h
 split at h
 ·rename_i fZ Ei s l s2 aI e
  split at h
  ·rename_i cr a b c hm aS b2
   split at h
   ·rename_i a8;obtain⟨rfl,tg,Nj⟩:=a8;simp only[cl,e2] at h;obtain⟨rfl,rfl,rfl,rfl,rfl⟩:=h;refine⟨by simp,?_,?_,⟨_,hm⟩,?_⟩
    ·rintro j (rfl|rfl)
     ·exact aS
     ·exact b2
    ·rintro (h|h)
     ·exact tg h
     ·exact Nj h
    ·have iJ:∀x:Bool,rN mem fZ=[a,b,.M (.bool c)]:=λ_=>by simp only[rN,hm]
     have aiS:(fZ=168004)=False:=eq_false tg;have aiT:(fZ=168006)=False:=eq_false Nj;have aiU:(168004=fZ)=False:=eq_false (Ne.symm tg);have aiV:(168006=fZ)=False:=eq_false (Ne.symm Nj);refine pf ?_;simp only[RM]
     cases c
     ·refine ai ?_;repeat' (intro (aw:_=_)<;>simp only[aw,go_sem,go_sem_proc,hm,aS,b2,aiS,aiT,aiU,aiV]<;>try refine ah ?_ ?_)
      refine⟨_,rfl,by first|rfl|simp[go_sem,b5],λj ag=>?_⟩
      have Si:j≠168004:=λh=>ag (.inl h);have IZ:j≠168006:=λh=>ag (.inr h)
      by_cases dL:j=fZ<;>simp[a4,rN,hm,Si,IZ,dL,tg,Nj,bne]
     ·refine ai ?_;repeat' (intro (aw:_=_)<;>simp only[aw,go_sem,go_sem_proc,hm,aS,b2,aiS,aiT,aiU,aiV]<;>try refine ah ?_ ?_)
      refine⟨_,rfl,by first|rfl|simp[go_sem,b5],λj ag=>?_⟩
      have Si:j≠168004:=λh=>ag (.inl h);have IZ:j≠168006:=λh=>ag (.inr h)
      by_cases dL:j=fZ<;>simp[a4,rN,hm,Si,IZ,dL,tg,Nj,bne]
   ·cases h
  ·cases h
 ·cases h
abbrev dh:=Nat×Nat×List bF
def refsOf (N:Nat)(rows:List dh):List O:=rows.map λx => .ref (x.1+900000) x.2.1 4 0 (N+1)
structure A2 (go N:Nat) (rows:List dh) (bad:Bool) (mem:Mem):Prop where
 m:mem 129015=some (0,[.ref 129035 go 1 0 N,.M (.int .i64 N),.M (.bool bad)])
 o:mem 129035=some (go,refsOf N rows)
 r:∀x∈rows,mem (x.1+900000)=some (x.2.1,a6 aU x.2.2)
structure kf (N:Nat) (rows:List dh):Prop where
 len:(D rows)=N
 Sj:(rows.map (·.1)).Nodup
 row:∀x∈rows,x.2.2.length=N+1/\∀f∈x.2.2,okF f
def I0 (k:Nat):Prop:=k<900000/\k≠129015/\k≠129035/\k≠148008/\k≠148010/\k≠148013
def kB (ez:Mem)(go N:Nat)(rows:List dh)(bad:Bool)(mem:Mem):Prop:=A2 go N rows bad mem/\∀k,I0 k->mem k=ez k
section
variable {ez mem:Mem} {go N:Nat} {rows:List dh} {mi:Bool}
def kB.flag (b:Bool)(h:kB ez go N rows mi mem):kB ez go N rows b (a4 mem 129015 0 [.ref 129035 go 1 0 N,.M (.int .i64 N),.M (.bool b)]):=by
 refine⟨⟨by simp[a4],by simp[a4,h.1.o],λx Q=>?_⟩,λk I=>?_⟩
 ·rw[<-h.1.r x Q];exact ae (show ¬ ((x.1+900000:Nat)=129015) by omega)
 ·rw[<-h.2 k I];exact ae I.2.1
def kB.own {k g:Nat}{cs:List O}(I:k=148008\/k=148010\/k=148013)(h:kB ez go N rows mi mem):kB ez go N rows mi (a4 mem k g cs):=by
 have bE:∀j:Nat,j≠k->a4 mem k g cs j=mem j:=λj ag=>ae ag;refine⟨⟨by rw[bE _ (by omega)];exact h.1.m,by rw[bE _ (by omega)];exact h.1.o,λx Q=>by rw[bE _ (by omega)];exact h.1.r x Q⟩,λj ag=>?_⟩
 have:=ag.2;rw[bE _ (by omega)];exact h.2 j ag
def kB.set {i:Nat}{x:dh}(cT:kf N rows)(J:rows[i]?=some x)(l:List bF)(h:kB ez go N rows mi mem):kB ez go N (rows.set i (x.1,x.2.1,l)) mi (a4 mem (x.1+900000) x.2.1 (a6 aU l)):=by
 have bE:∀j:Nat,j≠x.1+900000->a4 mem (x.1+900000) x.2.1 (a6 aU l) j=mem j:=λj ag=>ae ag;obtain⟨aq,aiW⟩:=dK.1 J;refine⟨⟨by rw[bE _ (by omega)];exact h.1.m,?_,λy al=>?_⟩,λj ag=>?_⟩
 ·rw[bE _ (by omega),h.1.o]
  congr 2
  unfold refsOf;apply pY;intro j;rw[bo,bo,nT]
  by_cases mI:i=j
  ·subst mI;rw[ab rfl,ab aq,J]
   rfl
  ·rw[ae mI]
 ·obtain⟨j,ag⟩:=uk.1 al;rw[nT] at ag
  by_cases mI:i=j
  ·subst mI;rw[ab rfl,ab aq] at ag
   cases ag;simp[a4]
  ·rw[ae mI] at ag
   have aOA:y.1≠x.1:=by
    intro he;have F:(rows.map (·.1))[j]?=some y.1:=by rw[bo,ag];rfl
    have G:(rows.map (·.1))[i]?=some y.1:=by rw[bo,J,he];rfl
    have ak:i<(rows.map (·.1)).length:=by rw[ar];exact aq
    exact mI ((aiX ak cT.Sj).1 (G.trans F.symm))
   rw[bE (y.1+900000) (by omega)];exact h.1.r y (dZ ag)
 ·have:=ag.1;rw[bE j (by omega)];exact h.2 j ag
def kB.swap {i j:Nat}{a b:dh}(J:rows[i]?=some a)(ag:rows[j]?=some b)(h:kB ez go N rows mi mem):kB ez go N ((rows.set i b).set j a) mi (a4 (a4 mem 129035 go (refsOf N (rows.set i b))) 129035 go (refsOf N ((rows.set i b).set j a))):=by
 have bE:∀k:Nat,k≠129035->a4 (a4 mem 129035 go (refsOf N (rows.set i b))) 129035 go (refsOf N ((rows.set i b).set j a)) k=mem k:=λk I=>by simp[a4,I]
 refine⟨⟨by rw[bE _ (by omega)];exact h.1.m,by simp[a4],λx Q=>?_⟩,λk I=>?_⟩
 ·rw[bE _ (by omega)];apply h.1.r;rcases IW Q with Q|rfl
  ·rcases IW Q with Q|rfl
   ·exact Q
   ·exact dZ ag
  ·exact dZ J
 ·rw[bE _ I.2.2.1];exact h.2 k I
def kf.set {i:Nat}{x:dh}(cT:kf N rows)(J:rows[i]?=some x){l:List bF}(ak:(D l)=N+1)(aK:∀f∈l,okF f):kf N (rows.set i (x.1,x.2.1,l)):=by
 obtain⟨aq,aiW⟩:=dK.1 J;refine⟨by rw[hL];exact cT.len,?_,λy al=>?_⟩
 ·have:(rows.set i (x.1,x.2.1,l)).map (·.1)=rows.map (·.1):=by
   rw[CT];apply pY;intro j;rw[nT]
   by_cases mI:i=j
   ·subst mI;rw[ab rfl,ar,ab aq,bo,J];rfl
   ·rw[ae mI]
  rw[this];exact cT.Sj
 ·rcases IW al with al|rfl
  ·exact cT.row y al
  ·exact⟨ak,aK⟩
def axj {α:Type}{l:List α}{i j:Nat}{a b:α}(J:l[i]?=some a)(ag:l[j]?=some b)(h:l.Nodup):((l.set i b).set j a).Nodup:=by
 obtain⟨kW,oX⟩:=dK.1 J;obtain⟨j1,P9⟩:=dK.1 ag
 have main:∀p q,p<q->q<(D l)->((l.set i b).set j a)[p]?≠((l.set i b).set j a)[q]?:=by
  intro p q Sk aY;rw[nT,nT,nT,nT];have inj:∀p q,p<(D l)->l[p]?=l[q]?->p=q:=λp q aF he=>(aiX aF h).1 he;simp only[hL]
  by_cases F:j=p
  ·subst F;have G:¬ j=q:=by omega
   rw[ab rfl,ab j1,ae G]
   by_cases af:i=q
   ·subst af;rw[ab rfl,ab kW];intro he;rw[<-J,<-ag] at he;have:=inj _ _ kW he;omega
   ·rw[ae af,<-J];intro he;exact af (inj _ _ kW he)
  ·rw[ae F]
   by_cases af:i=p
   ·subst af;rw[ab rfl,ab kW]
    by_cases G:j=q
    ·subst G;rw[ab rfl,ab j1,<-J,<-ag];intro he;have:=inj _ _ j1 he;omega
    ·rw[ae G,ae (by omega),<-ag];intro he;exact G (inj _ _ j1 he)
   ·rw[ae af]
    by_cases G:j=q
    ·subst G;rw[ab rfl,ab j1,<-J];intro he;exact af (inj _ _ kW he.symm)
    ·rw[ae G]
     by_cases aS:i=q
     ·subst aS;rw[ab rfl,ab kW,<-ag];intro he;exact F (inj _ _ j1 he.symm)
     ·rw[ae aS];intro he;have:=inj _ _ (by omega) he;omega
 refine List.pairwise_iff_getElem.2 λp q aF aY Sk he=>?_;simp only[hL] at aF aY;refine main p q Sk aY ?_;rw[bn (by simpa using aF),bn (by simpa using aY),he]
def kf.swap {i j:Nat}{a b:dh}(cT:kf N rows)(J:rows[i]?=some a)(ag:rows[j]?=some b):kf N ((rows.set i b).set j a):=by
 refine⟨by rw[hL,hL];exact cT.len,?_,λx Q=>?_⟩
 ·rw[CT,CT];exact axj (by rw[bo,J];rfl) (by rw[bo,ag];rfl) cT.Sj
 ·rcases IW Q with Q|rfl
  ·rcases IW Q with Q|rfl
   ·exact cT.row x Q
   ·exact cT.row _ (dZ ag)
  ·exact cT.row _ (dZ J)
end
def axk {l:List bF}{i:Nat}{a b c d}(h:l[i]?=some ((a,b),(c,d))):cut (a6 aU l) (i*4) 4=some [.M (.int .i64 a),.M (.ay (b.map aC)),.M (.int .i64 c),.M (.ay (d.map aC))]:=by
 have:=Qy mY h (f:=0) (n:=4) (by omega);rw[nE] at this;rw[this]
 rfl
def axl {N:Nat}{rows:List dh}{i:Nat}{x:dh}(h:rows[i]?=some x):cut (refsOf N rows) i 1=some [.ref (x.1+900000) x.2.1 4 0 (N+1)]:=by
 obtain⟨aq,rfl⟩:=dK.1 h;unfold cut refsOf;rw[ab (by rw[ar];omega),<-List.map_drop,iE aq]
 rfl
def axm {l m:List bF}(h:a6 aU l=a6 aU m):l=m:=Yg mY nq _ _ h (by omega)
def nU (f:bF):Bool:=f.1.1==0
def cellOf (x:dh)(c:Nat):bF:=x.2.2.getD c eA
def findAt (rows:List dh)(r c:Nat):Nat:=r+(rows.drop r).findIdx λx => !nU (cellOf x c)
def jz (fE:bF):List bF->List bF->Bool->List bF×Bool
 |f::dJ,p::ps,false=>((q5 f (px fE p).1).1::(jz fE dJ ps ((px fE p).2 != 0||(q5 f (px fE p).1).2 != 0)).1,(jz fE dJ ps ((px fE p).2 != 0||(q5 f (px fE p).1).2 != 0)).2)
 |dJ,_,b=>(dJ,b)
def kg (fW:List bF)(r c:Nat):Nat->List dh->Bool->List dh×Bool
 |_,[],bad=>([],bad)
 |i,x::xs,bad=>if (i==r||nU (cellOf x c))=true then (x::(kg fW r c (i+1) xs bad).1,(kg fW r c (i+1) xs bad).2) else
  ((x.1,x.2.1,(jz (cellOf x c) x.2.2 fW bad).1)::(kg fW r c (i+1) xs (jz (cellOf x c) x.2.2 fW bad).2).1,(kg fW r c (i+1) xs (jz (cellOf x c) x.2.2 fW bad).2).2)
def hV (MX:bF)(l:List bF):List bF×Bool:=(l.map λf=>(kX f MX).1,l.any λf=>(kX f MX).2 != 0)
def rowAt (rows:List dh)(i:Nat):dh:=rows.getD i (0,0,[])
def q9 (rows:List dh)(i j:Nat):List dh:=(rows.set i (rowAt rows j)).set j (rowAt rows i)
def FC (rows:List dh)(r c:Nat):List dh:=rows.set r ((rowAt rows r).1,(rowAt rows r).2.1,(hV (cellOf (rowAt rows r) c) (rowAt rows r).2.2).1)
def iP (rows:List dh)(r c:Nat):Bool×List dh×Bool :=
 if findAt rows r c=(D rows) then (true,rows,false) else
  (false,kg (hV (cellOf (rowAt (q9 rows r (findAt rows r c)) r) c) (rowAt (q9 rows r (findAt rows r c)) r).2.2).1 r c 0 (FC (q9 rows r (findAt rows r c)) r c)
   (hV (cellOf (rowAt (q9 rows r (findAt rows r c)) r) c) (rowAt (q9 rows r (findAt rows r c)) r).2.2).2)
def axn {rows:List dh}{r c i:Nat}{x:dh}(Q:rows[i]?=some x)(aa:r<=i)(aV:∀j y,r<=j->j<i->rows[j]?=some y->nU (cellOf y c)=true)(h:nU (cellOf x c)=false):findAt rows r c=i:=by
 unfold findAt;obtain⟨aq,aiW⟩:=dK.1 Q
 have:(rows.drop r).findIdx (λx => !nU (cellOf x c))=i-r:=by
  rw[List.findIdx_eq (by rw[r0];omega)];refine⟨?_,λj ag=>?_⟩
  ·rw[I1];have:rows[r+(i-r)]?=some x:=by rw[show r+(i-r)=i by omega];exact Q
   rw[(dK.1 this).2,h];rfl
  ·rw[I1];have:=aV (r+j) _ (by omega) (by omega) (bn (by omega));rw[this];rfl
 omega
def axo {rows:List dh}{r c:Nat}(aa:r<=D rows)(aV:∀j y,r<=j->rows[j]?=some y->nU (cellOf y c)=true):findAt rows r c=D rows:=by
 unfold findAt
 have:(rows.drop r).findIdx (λx => !nU (cellOf x c))=(rows.drop r).length:=by
  rw[List.findIdx_eq_length];intro y al;obtain⟨j,ag⟩:=uk.1 al;rw[lE] at ag;rw[aV (r+j) y (by omega) ag];rfl
 rw[this,r0];omega
def m1 {x:Rat}(h:dc x):okF (ax x):=⟨nQ h.1,nQ (xB h)⟩
def uS:okF eA:=⟨by simp[eA],by simp[eA]⟩
def axp (p q:Raw):okF (jN p q).1:=by
 unfold jN
 split
 ·rename_i h;rw[eQ] at h;obtain⟨x,Q,az⟩:=(j9 _).1 h.1;obtain⟨y,al,aD⟩:=(j9 _).1 h.2
  split
  ·exact uS
  ·rw[az,aD,fT,fT];exact m1 (RB Q al)
 ·exact uS
def ZE (p q:Raw×Int):okF (y6 p q).1:=by
 unfold y6
 split
 ·split
  ·exact axp _ _
  ·exact uS
 ·exact uS
def axq (a b:bF):okF (y7 a b).1:=by
 unfold y7
 split
 ·split
  ·exact ZE _ _
  ·exact uS
 ·exact uS
def aiY (a b:bF):okF (q5 a b).1:=by
 unfold q5
 split
 ·split
  ·exact axq _ _
  ·exact uS
 ·exact uS
def axr (a b:bF):okF (px a b).1:=by
 unfold px
 split
 ·split
  ·exact ZE _ _
  ·exact uS
 ·exact uS
def aiZ (a b:bF):okF (kX a b).1:=by
 unfold kX
 split
 ·split
  ·split
   ·exact uS
   ·exact ZE _ _
  ·exact uS
 ·exact uS
def ZF {x:dh}{c:Nat}{f:bF}(h:x.2.2[c]?=some f):cellOf x c=f:=by
 unfold cellOf;rw[ei,h]
 rfl
def xL {rows:List dh}{i:Nat}{x:dh}(h:rows[i]?=some x):rowAt rows i=x:=by
 unfold rowAt;rw[ei,h]
 rfl
def I2 {l:List bF}{k:Nat}(h:k<D l):(k*4+4<=(a6 aU l).length)=True:=eq_true (by rw[lj mY];omega)
def I3 {l:List bF}{k:Nat}{a b c d}(h:l[k]?=some ((a,b),(c,d))):fh 4 (ft (k*4) (a6 aU l))=[.M (.int .i64 a),.M (.ay (b.map aC)),.M (.int .i64 c),.M (.ay (d.map aC))]:=by
 have:=axk h;unfold cut at this;rw[ab (by rw[lj mY];have:=(dK.1 h).1;omega)] at this;exact mD this
def ZG {l:List bF}{k:Nat}(h:k<D l)(a:Int)(b:List Int)(c:Int)(d:List Int):
  fh (k*4) (a6 aU l)++[O.M (.int .i64 a),.M (.ay (b.map aC)),.M (.int .i64 c),.M (.ay (d.map aC))]++ft (k*4+4) (a6 aU l)=a6 aU (l.set k ((a,b),(c,d))):=by
 rw[<-W4 mY h]
 rfl
def FE {N:Nat}{rows:List dh}{i:Nat}(h:i<D rows):(i+1<=(refsOf N rows).length)=True:=eq_true (by unfold refsOf;rw[ar];omega)
def I4 {N:Nat}{rows:List dh}{i:Nat}{x:dh}(h:rows[i]?=some x):fh 1 (ft i (refsOf N rows))=[.ref (x.1+900000) x.2.1 4 0 (N+1)]:=by
 have:=axl (N:=N) h;unfold cut at this;rw[ab (by unfold refsOf;rw[ar];have:=(dK.1 h).1;omega)] at this;exact mD this
def ai0 {N:Nat}{rows:List dh}{i:Nat}(h:i<D rows)(b:dh):fh i (refsOf N rows)++[O.ref (b.1+900000) b.2.1 4 0 (N+1)]++ft (i+1) (refsOf N rows)=refsOf N (rows.set i b):=by
 unfold refsOf;rw[CT,List.set_eq_take_append_cons_drop,ab (by rw[ar];exact h),gr]
 rfl
def ai1 (fE:bF):∀(l p:List bF) (b:Bool),(jz fE l p b).1.length=D l
 | [],_,_=>by simp[jz]
 |f::dJ,[],b=>by cases b<;>simp[jz]
 |f::dJ,p::ps,true=>by simp[jz]
 |f::dJ,p::ps,false=>by simp[jz,ai1 fE dJ ps]
def ZH (fE:bF)(l p:List bF):jz fE l p true=(l,true):=by
 cases l<;>cases p<;>simp[jz]
def ai2 (fE:bF)(p:List bF)(b:Bool):jz fE [] p b=([],b):=by
 cases b<;>simp[jz]
def axs {α:Type}(f:α->α){l:List α}{k:Nat}{x:α}(h:l[k]?=some x):((l.take k).map f++l.drop k).set k (f x)=(l.take (k+1)).map f++l.drop (k+1):=by
 obtain⟨aq,Q⟩:=dK.1 h;have ak:((l.take k).map f).length=k:=by rw[ar,gE];omega
 rw[FF _ _ (by omega),ak,lf,iE aq,we,hF,h,kh,gr]
 rfl
def axt {α:Type}(f:α->α){l:List α}{k:Nat}:((l.take k).map f++l.drop k)[k]?=l[k]?:=by
 rcases iD k (D l) with h|h
 ·have ak:((l.take k).map f).length=k:=by rw[ar,gE];omega
  rw[rR (by omega),ak,lf,lE,nE]
 ·rw[mB h,mB (by rw[fO,ar,gE,r0];omega)]
def ZI {α:Type}{rows:List α}{r i:Nat}{x xM:α}(Q:rows[i]?=some x)(pE:rows[r]?=some xM):((rows.set r x).set i xM)[r]?=some x:=by
 have F:=(dK.1 Q).1;have G:=(dK.1 pE).1;rw[nT,nT,hL]
 by_cases h:i=r
 ·subst h;rw[Q] at pE
  cases pE;rw[ab rfl,ab F]
 ·rw[ae h,ab rfl,ab G]
def ZJ {α:Type}{l:List α}{i:Nat}{x:α}(h:l[i]?=some x):l.set i x=l:=by
 obtain⟨aq,Q⟩:=dK.1 h;apply pY;intro j;rw[nT]
 by_cases mI:i=j
 ·subst mI;rw[ab rfl,ab aq,h]
 ·rw[ae mI]
def axu (a b:Nat):(!(a+900000==129015)||decide (2<b*4))=true:=by
 have:(a+900000==129015)=false:=by simp
 rw[this];rfl
def ZK:I0 168004:=by unfold I0;omega
def ZL:I0 168006:=by unfold I0;omega
def eh.sub:eh->List Nat->eh
 |.seq a _,0::p=>a.sub p
 |.seq _ b,_::p=>b.sub p
 |.cond _ a _,0::p=>a.sub p
 |.cond _ _ b,_::p=>b.sub p
 |.block _ c,_::p=>c.sub p
 |.ghost _ c,_::p=>c.sub p
 |.loop c,_::p=>c.sub p
 |c,_=>c
def axv (f:bF):List O:=[.M (.int .i64 f.1.1),.M (.ay (f.1.2.map aC)),.M (.int .i64 f.2.1),.M (.ay (f.2.2.map aC))]
def axw (T:ba)(xN:T Cf=CS A1)(m2:T vH=aQ xD)(nV:T xm=aQ xE){K:eT->bc->Prop}{kk:List gG}
  (go N r c i2:Nat) (mem:Mem) (CU:mem 168004=none) (CV:mem 168006=none) (gi:N<=40) (ra:List dh) (th:kf N ra) (x y:dh) (fW:List bF) (zd:ra[i2]?=some y) (bL:ra[r]?=some (x.1,x.2.1,fW)) (FG:i2≠r) (uT:r<N) (mi:Bool)
  (cr:Int) (b6:List Int) (ga:Int) (iQ:List Int) (oV:okF ((cr,b6),(ga,iQ))) (tm:Nat->O) (m:Mem) (bC:Nat)
  (bZ:tm 0=.ptr 129015 0 0) (az:tm 1=.M (.int .i64 r)) (aD:tm 2=.M (.int .i64 c)) (fU:tm 12=.ref (y.1+900000) y.2.1 4 0 (N+1)) (gL:tm 13=.ptr 148013 bC 0) (rb:tm 112=.ref 129035 go 1 0 N) (Nk:tm 113=.M (.int .i64 N)) (Nl:tm 114=.M (.int .i64 i2)) (pF:tm 14=.M (.int .i64 0))
  (em:m 148013=some (bC,[.M (.int .i64 cr),.M (.ay (b6.map aC)),.M (.int .i64 ga),.M (.ay (iQ.map aC))])) (gk:kB mem go N ra mi m)
  (dM:∀tm' m' l b,tm' 0=.ptr 129015 0 0->tm' 1=.M (.int .i64 r)->tm' 2=.M (.int .i64 c)->tm' 112=.ref 129035 go 1 0 N->tm' 113=.M (.int .i64 N)->tm' 114=.M (.int .i64 i2)->(l,b)=jz ((cr,b6),(ga,iQ)) y.2.2 fW mi->kf N (ra.set i2 (y.1,y.2.1,l))->kB mem go N (ra.set i2 (y.1,y.2.1,l)) b m'->cw T K kk (.exit 6) ⟨tm',m'⟩) :
  wp T (zb.body.sub [1,1,1,1,1,1,1,0,1,0,0,1,1,0,0,1,1,1,1,0]) (cw T K kk) ⟨tm,m⟩:=by
 simp only[zb,eh.sub];have axx:i2<N:=by rw[<-th.len];exact (dK.1 zd).1
 obtain⟨BS,Sl⟩:=th.row y (dZ zd);have axy:ra.set i2 (y.1,y.2.1,[]++y.2.2.drop 0)=ra:=ZJ zd
 refine da [0,1,2,12,13,112,113,114] [148013] (λ((k,pre,b):Nat×List bF×Bool) tm m=>k<=N+1/\D pre=k/\(∀f∈pre,okF f)/\jz ((cr,b6),(ga,iQ)) y.2.2 fW mi=(pre++(jz ((cr,b6),(ga,iQ)) (y.2.2.drop k) (fW.drop k) b).1,(jz ((cr,b6),(ga,iQ)) (y.2.2.drop k) (fW.drop k) b).2)/\tm 14=.M (.int .i64 k)/\kB mem go N (ra.set i2 (y.1,y.2.1,pre++y.2.2.drop k)) b m) (λ(k,_,_)=>N+1-k) (0,[],mi) (by
  refine⟨fy _,rfl,(by simp),rfl,pF,?_⟩;rw[axy];exact gk) ?_
 intro vs ms aW aR;simp only[go_sem,go_sem_proc,bZ,az,aD,fU,gL,rb,Nk,Nl,em] at aW aR;subst aW aR;clear bZ az aD fU gL rb Nk Nl em pF gk tm m;rintro⟨dj,pre,b⟩ tm p6 I hm ⟨aOB,yY,I5,Nm,Cq,uU⟩;simp only[go_sem,go_sem_proc,bh] at I hm;obtain⟨au,F,G,ht,qW,xO,xP,xQ⟩:=I;have axz:(pre++y.2.2.drop dj).length=N+1:=by rw[fO,r0];omega
 have I6:kf N (ra.set i2 (y.1,y.2.1,pre++y.2.2.drop dj)):=th.set zd axz λf aK=>by
  rw[iF] at aK;rcases aK with aK|aK
  ·exact I5 f aK
  ·exact Sl f (Ij aK)
 have ai3:(ra.set i2 (y.1,y.2.1,pre++y.2.2.drop dj))[i2]?=some (y.1,y.2.1,pre++y.2.2.drop dj):=by
  rw[nT,ab rfl,ab (by rw[th.len];exact axx)]
 have y1:(ra.set i2 (y.1,y.2.1,pre++y.2.2.drop dj))[r]?=some (x.1,x.2.1,fW):=by
  rw[nT,ae FG];exact bL
 have wg:=uU.1.m;have ze:=uU.1.o;rcases dq (dj<N+1) with axA|aOC
 ·have wh:decide ((dj:Int)<((N+1:Nat):Int))=true:=cX
  cases b
  ·obtain⟨⟨⟨cH,cY⟩,⟨ep,fi⟩⟩,ou⟩:∃f,y.2.2[dj]?=some f:=⟨_,bn (by omega)⟩;have aOD:(D fW)=N+1:=(th.row _ (dZ bL)).1;obtain⟨⟨⟨iG,h9⟩,⟨kC,kZ⟩⟩,k0⟩:∃f,fW[dj]?=some f:=⟨_,bn (by omega)⟩;have vu:=Sl _ (dZ ou);have ai4:=(th.row _ (dZ bL)).2 _ (dZ k0)
   have ZM:(pre++y.2.2.drop dj)[dj]?=some ((cH,cY),(ep,fi)):=by
    rw[rR (by omega),yY,lf,lE,nE,ou]
   have j7:y.2.2.drop dj=((cH,cY),(ep,fi))::y.2.2.drop (dj+1):=by
    obtain⟨ak,e⟩:=dK.1 ou;rw[iE ak,e]
   have mR:fW.drop dj=((iG,h9),(kC,kZ))::fW.drop (dj+1):=by
    obtain⟨ak,e⟩:=dK.1 k0;rw[iE ak,e]
   have lF:∀s:bF,(pre++y.2.2.drop dj).set dj s=(pre++[s])++y.2.2.drop (dj+1):=λs=>by
    rw[FF _ _ (by omega),yY,lf,j7,we,gr];rfl
   have axB:=uU.1.r _ (dZ ai3);have axC:=uU.1.r _ (dZ y1);have jR:p6 168004=none:=(uU.2 _ ZK).trans CU;have CW:p6 168006=none:=(uU.2 _ ZL).trans CV;have t1:=I4 (N:=N) y1;have t2:=FE (N:=N) (rows:=ra.set i2 (y.1,y.2.1,pre++y.2.2.drop dj)) (i:=r) (by rw[I6.len];exact uT);have t3:=I3 ZM;have t4:=I2 (l:=pre++y.2.2.drop dj) (k:=dj) (by omega);have t5:=I3 k0;have t6:=I2 (l:=fW) (k:=dj) (by omega);have nj:=e0 (i:=dj) (by omega);have ZN:=axr ((cr,b6),(ga,iQ)) ((iG,h9),(kC,kZ));have zf:=aiY ((cH,cY),(ep,fi)) (px ((cr,b6),(ga,iQ)) ((iG,h9),(kC,kZ))).1;have Nn:=Nm;rw[j7,mR] at Nn;simp only[jz] at Nn;generalize kT:px ((cr,b6),(ga,iQ)) ((iG,h9),(kC,kZ))=bb at *;obtain⟨⟨⟨oc,jr⟩,⟨Np,Nq⟩⟩,az⟩:=bb;dsimp only at zf Nn ZN;generalize cB:q5 ((cH,cY),(ep,fi)) ((oc,jr),(Np,Nq))=S at *;obtain⟨⟨⟨v1,v2⟩,⟨wi,v4⟩⟩,aD⟩:=S;dsimp only at zf Nn;have t7:=ZG (l:=pre++y.2.2.drop dj) (k:=dj) (by omega) v1 v2 wi v4;refine ai ?_;repeat' (intro h<;>simp only[h,go_sem,go_sem_proc,xN,nV,m2,au,F,G,ht,qW,Cq,xO,xP,xQ,hm,wg,ze,axB,axC,jR,CW,t1,t2,t3,t4,t5,t6,t7,wh,axA,uT,nj,kT,cB,vu.1,vu.2,ai4.1,ai4.2,oV.1,oV.2,ZN.1,ZN.2,axv,gf,aU,dy,A1,Nr,we,decide_true,decide_false,ai5,ne_eq,not_false_eq_true,and_self]<;>try refine ah ?_ ?_)
   have c8:=kB.set I6 ai3 ((pre++y.2.2.drop dj).set dj ((v1,v2),(wi,v4))) ((uU.flag (az != 0)).flag (az != 0||aD != 0));rw[ai6,lF] at c8;refine⟨axu _ _,(dj+1,pre++[((v1,v2),(wi,v4))],(az != 0||aD != 0)),by dsimp only;omega,by dsimp only;omega,by simp[yY],?_,?_,rfl,?_⟩
   ·intro f aK;rw[iF,vY] at aK;rcases aK with aK|rfl
    ·exact I5 f aK
    ·exact zf
   ·rw[Nn];dsimp only;rw[gr]
    rfl
   ·dsimp only;rw[lF];exact c8
  ·rw[ZH] at Nm;refine ai ?_;repeat' (intro h<;>simp only[h,go_sem,go_sem_proc,au,F,G,ht,qW,Cq,xO,xP,xQ,wg,ze,wh]<;>try refine ah ?_ ?_)
   refine dM _ _ (pre++y.2.2.drop dj) true ?_ ?_ ?_ ?_ ?_ ?_ Nm.symm I6 uU<;>simp only[e8,dV,if_false,au,F,G,xO,xP,xQ]
 ·have wh:decide ((dj:Int)<((N+1:Nat):Int))=false:=cA;have h6:y.2.2.drop dj=[]:=j0 (by omega);rw[h6,ai2,<-h6] at Nm;refine ai ?_;repeat' (intro h<;>simp only[h,go_sem,go_sem_proc,au,F,G,ht,qW,Cq,xO,xP,xQ,wg,ze,wh]<;>try refine ah ?_ ?_)
  refine dM _ _ (pre++y.2.2.drop dj) b ?_ ?_ ?_ ?_ ?_ ?_ Nm.symm I6 uU<;>simp only[e8,dV,if_false,au,F,G,xO,xP,xQ]
def axD (T:ba)(CX:T LQ=aQ Nh)(xN:T Cf=CS A1)(m2:T vH=aQ xD)(nV:T xm=aQ xE){K:eT->bc->Prop}{kk:List gG}
  (go N r c:Nat) (mem:Mem) (CU:mem 168004=none) (CV:mem 168006=none) (gi:N<=40) (uT:r<N) (FH:c<N+1) (iR:List dh) (FI:kf N iR) (x:dh) (fW:List bF) (lN:iR[r]?=some (x.1,x.2.1,fW)) (I7:Bool) (tm:Nat->O) (m:Mem)
  (bZ:tm 0=.ptr 129015 0 0) (az:tm 1=.M (.int .i64 r)) (aD:tm 2=.M (.int .i64 c)) (rb:tm 112=.ref 129035 go 1 0 N) (Nk:tm 113=.M (.int .i64 N)) (Nl:tm 114=.M (.int .i64 0)) (gk:kB mem go N iR I7 m)
  (dM:∀tm' m',kB mem go N (kg fW r c 0 iR I7).1 (kg fW r c 0 iR I7).2 m'->cw T K kk (.exit 4) ⟨tm',m'⟩) :
  wp T (zb.body.sub [1,1,1,1,1,1,1,0,1,0]) (cw T K kk) ⟨tm,m⟩:=by
 simp only[zb,eh.sub]
 refine da [0,1,2,112,113] [] (λ((i2,qh,mi):Nat×List dh×Bool) tm m=>i2<=N/\D qh=i2/\kg fW r c 0 iR I7=(qh++(kg fW r c i2 (iR.drop i2) mi).1,(kg fW r c i2 (iR.drop i2) mi).2)/\kf N (qh++iR.drop i2)/\(qh++iR.drop i2)[r]?=some (x.1,x.2.1,fW)/\tm 114=.M (.int .i64 i2)/\kB mem go N (qh++iR.drop i2) mi m) (λ(i2,_,_)=>N-i2) (0,[],I7) (by
  exact⟨fy _,rfl,rfl,FI,lN,Nl,gk⟩) ?_
 intro vs ms aW aR;simp only[go_sem,go_sem_proc,bZ,az,aD,rb,Nk] at aW aR;subst aW aR;clear bZ az aD rb Nk Nl gk tm m;rintro⟨i2,qh,mi⟩ tm cv I hm ⟨ob,kz,k9,th,bL,xQ,wj⟩;simp only[go_sem,go_sem_proc,bh] at I hm;obtain⟨au,F,G,xO,xP⟩:=I;have wg:=wj.1.m;have ze:=wj.1.o;have aOE:(D iR)=N:=FI.len;rcases dq (i2<N) with Sm|aOF
 ·obtain⟨y,al⟩:∃y,iR[i2]?=some y:=⟨_,bn (by omega)⟩
  have Io:iR.drop i2=y::iR.drop (i2+1):=by
   obtain⟨ak,rfl⟩:=dK.1 al;exact iE ak
  have zd:(qh++iR.drop i2)[i2]?=some y:=by
   rw[rR (by omega),kz,lf,lE,nE,al]
  obtain⟨BS,Sl⟩:=th.row y (dZ zd);have ZO:=wj.1.r y (dZ zd);obtain⟨⟨⟨cr,b6⟩,⟨ga,iQ⟩⟩,a8⟩:∃f,y.2.2[c]?=some f:=⟨_,bn (by omega)⟩;have xA:=ZF a8;have t1:=I4 (N:=N) zd;have t2:=FE (N:=N) (rows:=qh++iR.drop i2) (i:=i2) (by rw[th.len];exact Sm);have t3:=I3 a8;have t4:=I2 (l:=y.2.2) (k:=c) (by omega);have kW:decide ((i2:Int)<(N:Int))=true:=cX;have hw:=e0 (i:=i2) (by omega)
  have zV:∀z:dh,(qh++[z])++iR.drop (i2+1)=(qh++iR.drop i2).set i2 z:=λz=>by
   rw[FF _ _ (by omega),kz,lf,Io,we,gr];rfl
  have I8:(qh++[y])++iR.drop (i2+1)=qh++iR.drop i2:=by rw[zV];exact ZJ zd
  have ai7:∀b:Bool,(b=true->i2=r\/(cr==0)=true)->b=true->kg fW r c 0 iR I7=((qh++[y])++(kg fW r c (i2+1) (iR.drop (i2+1)) mi).1,(kg fW r c (i2+1) (iR.drop (i2+1)) mi).2):=by
   intro b ad Zu
   have ZP:(i2==r||nU (cellOf y c))=true:=by
    rcases ad Zu with h|h
    ·rw[h,beq_self_eq_true];rfl
    ·rw[xA];have:nU ((cr,b6),(ga,iQ))=true:=h;rw[this,s0]
   rw[k9,Io];simp only[kg];rw[ab ZP,gr]
   rfl
  rcases si:((i2:Int)==(r:Int))
  ·have FG:i2≠r:=by intro h;rw[h] at si;simp at si
   rcases Sn:(cr==0)
   ·have oV:okF ((cr,b6),(ga,iQ)):=Sl _ (dZ a8);simp only[go_sem,go_sem_proc,CX,au,F,G,xO,xP,xQ,wg,ze,ZO,t1,t2,t3,t4,Sm,kW,FH,si,Sn,dy];refine axw T xN m2 nV go N r c i2 mem CU CV gi (qh++iR.drop i2) th x y fW zd bL FG uT mi cr b6 ga iQ oV _ _ (gH (cv 148013)) ?_ ?_ ?_ ?_ ?_ ?_ ?_ ?_ ?_ ?_ ((wj.own (.inr (.inr rfl))).own (.inr (.inr rfl))) ?_
    ·exact au
    ·exact F
    ·exact G
    ·rfl
    ·rfl
    ·exact xO
    ·exact xP
    ·exact xQ
    ·rfl
    ·simp[a4]
    ·intro tm' m' l b fZ bS cM ZQ axE axF nK I6 uU;refine ai ?_;repeat' (intro (aw:_=_)<;>simp only[aw,go_sem,go_sem_proc,au,F,G,fZ,bS,cM,ZQ,axE,axF,hw]<;>try refine ah ?_ ?_)
     refine⟨(i2+1,qh++[(y.1,y.2.1,l)],b),by dsimp only;omega,by dsimp only;omega,by simp[kz],?_,by dsimp only;rw[zV];exact I6,by dsimp only;rw[zV,nT,ae FG];exact bL,rfl,?_⟩
     ·have ZP:¬ (i2==r||nU (cellOf y c))=true:=by
       rw[xA];have F:nU ((cr,b6),(ga,iQ))=false:=Sn;have G:(i2==r)=false:=by simpa using FG
       rw[F,G];simp
      rw[k9,Io];simp only[kg];rw[ae ZP,xA,<-nK,gr]
      rfl
     ·dsimp only;rw[zV];exact uU
   ·refine ai ?_;repeat' (intro (aw:_=_)<;>simp only[aw,go_sem,go_sem_proc,CX,au,F,G,xO,xP,xQ,wg,ze,ZO,t1,t2,t3,t4,Sm,kW,FH,hw,si,Sn,dy]<;>try refine ah ?_ ?_)
    refine⟨(i2+1,qh++[y],mi),by dsimp only;omega,by dsimp only;omega,by simp[kz],ai7 true (λ_ => .inr Sn) rfl,by dsimp only;rw[I8];exact th,by dsimp only;rw[I8];exact bL,rfl,?_⟩
    dsimp only;rw[I8];exact (wj.own (.inr (.inr rfl))).own (.inr (.inr rfl))
  ·have FG:i2=r:=by have h:=beq_iff_eq.1 si;omega
   refine ai ?_;repeat' (intro (aw:_=_)<;>simp only[aw,go_sem,go_sem_proc,CX,au,F,G,xO,xP,xQ,wg,ze,ZO,t1,t2,t3,t4,Sm,kW,FH,hw,si,dy]<;>try refine ah ?_ ?_)
   refine⟨(i2+1,qh++[y],mi),by dsimp only;omega,by dsimp only;omega,by simp[kz],ai7 true (λ_ => .inl FG) rfl,by dsimp only;rw[I8];exact th,by dsimp only;rw[I8];exact bL,rfl,?_⟩
   dsimp only;rw[I8];exact (wj.own (.inr (.inr rfl))).own (.inr (.inr rfl))
 ·have cn:i2=N:=by omega
  have kW:decide ((i2:Int)<(N:Int))=false:=cA;have Qu:iR.drop i2=[]:=j0 (by omega);rw[Qu] at k9 wj;simp only[kg,fG] at k9 wj;rw[k9] at dM;refine ai ?_;repeat' (intro (aw:_=_)<;>simp only[aw,go_sem,go_sem_proc,au,F,G,xO,xP,xQ,wg,ze,kW]<;>try refine ah ?_ ?_)
  exact dM _ _ wj
def axG (T:ba)(xN:T Cf=CS A1)(sj:T EA=aQ CI){K:eT->bc->Prop}{kk:List gG}
  (go N r c:Nat) (mem:Mem) (CU:mem 168004=none) (CV:mem 168006=none) (gi:N<=40) (uT:r<N) (ic:List dh) (I9:kf N ic) (x:dh) (zg:ic[r]?=some x) (f1:Int) (f2:List Int) (f3:Int) (f4:List Int) (g2:okF ((f1,f2),(f3,f4))) (tm:Nat->O) (m:Mem) (bC:Nat)
  (bZ:tm 0=.ptr 129015 0 0) (az:tm 1=.M (.int .i64 r)) (aD:tm 2=.M (.int .i64 c)) (eb:tm 8=.ptr 148008 bC 0) (ai8:tm 85=.ref (x.1+900000) x.2.1 4 0 (N+1)) (ai9:tm 86=.M (.int .i64 ((N+1:Nat):Int))) (aja:tm 87=.M (.int .i64 0))
  (em:m 148008=some (bC,[.M (.int .i64 f1),.M (.ay (f2.map aC)),.M (.int .i64 f3),.M (.ay (f4.map aC))])) (gk:kB mem go N ic false m)
  (dM:∀tm' m',tm' 0=.ptr 129015 0 0->tm' 1=.M (.int .i64 r)->tm' 2=.M (.int .i64 c)->kf N (ic.set r (x.1,x.2.1,(hV ((f1,f2),(f3,f4)) x.2.2).1))->kB mem go N (ic.set r (x.1,x.2.1,(hV ((f1,f2),(f3,f4)) x.2.2).1)) (hV ((f1,f2),(f3,f4)) x.2.2).2 m'->cw T K kk (.exit 2) ⟨tm',m'⟩) :
  wp T (zb.body.sub [1,1,1,1,1,1,0,1,0]) (cw T K kk) ⟨tm,m⟩:=by
 simp only[zb,eh.sub];obtain⟨tT,Ja⟩:=I9.row x (dZ zg)
 have axH:∀l:List bF,(ic.set r (x.1,x.2.1,l))[r]?=some (x.1,x.2.1,l):=λl=>by
  rw[nT,ab rfl,ab (by rw[I9.len];exact uT)]
 refine da [0,1,2,8,85,86] [148008] (λ(k:Nat) tm m=>k<=N+1/\tm 87=.M (.int .i64 k)/\kB mem go N (ic.set r (x.1,x.2.1,(x.2.2.take k).map (λf=>(kX f ((f1,f2),(f3,f4))).1)++x.2.2.drop k)) ((x.2.2.take k).any λf=>(kX f ((f1,f2),(f3,f4))).2 != 0) m) (λk=>N+1-k) 0 (by
  refine⟨fy _,aja,?_⟩;have e:ic.set r (x.1,x.2.1,(x.2.2.take 0).map (λf=>(kX f ((f1,f2),(f3,f4))).1)++x.2.2.drop 0)=ic:=ZJ zg;rw[e];exact gk) ?_
 intro vs ms aW aR;simp only[go_sem,go_sem_proc,bZ,az,aD,eb,ai8,ai9,em] at aW aR;subst aW aR;clear bZ az aD eb ai8 ai9 aja em gk tm m;rintro k tm m I hm ⟨oY,ajb,gk⟩;simp only[go_sem,go_sem_proc,bh] at I hm;obtain⟨au,F,G,cN,ajc,ajd⟩:=I
 have ee:((x.2.2.take k).map (λf=>(kX f ((f1,f2),(f3,f4))).1)++x.2.2.drop k).length=N+1:=by
  rw[fO,ar,gE,r0];omega
 have FI:kf N (ic.set r (x.1,x.2.1,(x.2.2.take k).map (λf=>(kX f ((f1,f2),(f3,f4))).1)++x.2.2.drop k)):=by
  refine I9.set zg ee λf aK=>?_;rw[iF] at aK;rcases aK with aK|aK
  ·obtain⟨hc,-,rfl⟩:=ef.1 aK;exact aiZ _ _
  ·exact Ja f (Ij aK)
 have lN:=axH ((x.2.2.take k).map (λf=>(kX f ((f1,f2),(f3,f4))).1)++x.2.2.drop k);rcases dq (k<N+1) with So|axI
 ·obtain⟨⟨⟨cH,cY⟩,⟨ep,fi⟩⟩,ou⟩:∃f,x.2.2[k]?=some f:=⟨_,bn (by omega)⟩;have ZM:=(axt (λf=>(kX f ((f1,f2),(f3,f4))).1) (l:=x.2.2) (k:=k)).trans ou;have lF:=axs (λf=>(kX f ((f1,f2),(f3,f4))).1) ou
  have Lt:(x.2.2.take (k+1)).any (λf=>(kX f ((f1,f2),(f3,f4))).2 != 0)=((x.2.2.take k).any (λf=>(kX f ((f1,f2),(f3,f4))).2 != 0)||(kX ((cH,cY),(ep,fi)) ((f1,f2),(f3,f4))).2 != 0):=by
   rw[hF,ou,List.any_append];simp
  obtain⟨axJ,axK⟩:=Ja _ (dZ ou);generalize (x.2.2.take k).map (λf=>(kX f ((f1,f2),(f3,f4))).1)++x.2.2.drop k=cur at *;generalize ((x.2.2.take k).any λf=>(kX f ((f1,f2),(f3,f4))).2 != 0)=mi at *;have wg:=gk.1.m;have ze:=gk.1.o;have axL:=gk.1.r _ (dZ lN);have jR:m 168004=none:=(gk.2 _ ZK).trans CU;have CW:m 168006=none:=(gk.2 _ ZL).trans CV;have t1:=I4 (N:=N) lN;have t2:=FE (N:=N) (rows:=ic.set r (x.1,x.2.1,cur)) (i:=r) (by rw[FI.len];exact uT);have t3:=I3 ZM;have t4:=I2 (l:=cur) (k:=k) (by omega);have wh:decide ((k:Int)<((N+1:Nat):Int))=true:=cX;have hw:=e0 (i:=k) (by omega);generalize r2:kX ((cH,cY),(ep,fi)) ((f1,f2),(f3,f4))=V at *;obtain⟨⟨⟨v1,v2⟩,⟨wi,v4⟩⟩,nP⟩:=V;dsimp only at lF Lt;have t5:=ZG (l:=cur) (k:=k) (by omega) v1 v2 wi v4;refine ai ?_;repeat' (intro h<;>simp only[h,go_sem,go_sem_proc,xN,sj,au,F,G,cN,ajc,ajd,ajb,hm,wg,ze,axL,jR,CW,t1,t2,t3,t4,t5,wh,So,uT,hw,r2,axJ,axK,g2.1,g2.2,gf,aU,dy,A1,Nr,we,decide_true,decide_false,ai5,ne_eq,not_false_eq_true,and_self]<;>try refine ah ?_ ?_)
  have az:=kB.set FI lN (cur.set k ((v1,v2),(wi,v4))) (((gk.own (k:=148010) (g:=gH (m 148010)) (cs:=[O.M (Data.int IntKind.i64 0),O.nil,O.M (Data.int IntKind.i64 0),O.nil]) (.inr (.inl rfl))).own (k:=148010) (g:=gH (m 148010)) (cs:=[O.M (Data.int IntKind.i64 cH),O.M (Data.ay (zh aC cY)),O.M (Data.int IntKind.i64 ep),O.M (Data.ay (zh aC fi))]) (.inr (.inl rfl))).flag (mi||nP != 0));rw[ai6,lF] at az;refine⟨k+1,by omega,by omega,rfl,?_⟩
  show kB mem go N _ ((x.2.2.take (k+1)).any λf=>(kX f ((f1,f2),(f3,f4))).2 != 0) _;rw[Lt,lF];exact az
 ·have Ns:k=N+1:=by omega
  have axM:(x.2.2.take k).map (λf=>(kX f ((f1,f2),(f3,f4))).1)++x.2.2.drop k=(hV ((f1,f2),(f3,f4)) x.2.2).1:=by
   unfold hV;rw[dt (by omega),j0 (by omega),fG]
  have axN:((x.2.2.take k).any λf=>(kX f ((f1,f2),(f3,f4))).2 != 0)=(hV ((f1,f2),(f3,f4)) x.2.2).2:=by
   unfold hV;rw[dt (by omega)]
  rw[axM] at FI gk;rw[axN] at gk;have wh:decide ((k:Int)<((N+1:Nat):Int))=false:=cA;refine ai ?_;repeat' (intro h<;>simp only[h,go_sem,go_sem_proc,au,F,G,cN,ajc,ajd,ajb,hm,wh]<;>try refine ah ?_ ?_)
  refine dM _ _ ?_ ?_ ?_ FI gk<;>simp only[e8,dV,if_false,au,F,G]
def axO (T:ba)(CX:T LQ=aQ Nh)(xN:T Cf=CS A1)(sj:T EA=aQ CI)(m2:T vH=aQ xD)(nV:T xm=aQ xE)
  (go N:Nat) (rows:List dh) (r c:Nat) (ez:Mem) (cT:kf N rows) (bH:A2 go N rows false ez) (CU:ez 168004=none) (CV:ez 168006=none) (gi:N<=40) (mC:r<=c) (axP:c<N) :
  wp T zb.body (me zb.res λm mem'=>m=.M (.bool (iP rows r c).1)/\kB ez go N (iP rows r c).2.1 (iP rows r c).2.2 mem') ⟨iC [.ptr 129015 0 0,.M (.int .i64 r),.M (.int .i64 c)],ez⟩:=by
 refine pf ?_;simp only[zb];simp only[go_sem,go_sem_proc];refine da [0,1,2] [] (λ(i:Nat) tm mem=>r<=i/\i<=N/\(∀j y,r<=j->j<i->rows[j]?=some y->nU (cellOf y c)=true)/\tm 7=.M (.int .i64 i)/\mem=ez) (λi=>N-i) r (by refine⟨bM _,by omega,λj y F G=>by omega,rfl,rfl⟩) ?_;intro vs ms aW aR;simp only[go_sem,go_sem_proc] at aW aR;subst aW aR;rintro i tm mem I hm ⟨kN,aje,aV,cb,rfl⟩;simp only[go_sem,go_sem_proc,bh] at I hm;obtain⟨au,F,G⟩:=I;have xR:=bH.m;have Nt:=bH.o;have hlen:=cT.len;rcases dq (i<N) with aq|ca
 ·have Q:∃x,rows[i]?=some x:=⟨_,bn (by omega)⟩;obtain⟨x,Q⟩:=Q;obtain⟨tT,Ja⟩:=cT.row x (dZ Q);have CY:=bH.r x (dZ Q);have aK:∃f,x.2.2[c]?=some f:=⟨_,bn (by omega)⟩;obtain⟨⟨⟨f1,f2⟩,⟨f3,f4⟩⟩,aK⟩:=aK;have ajf:=I4 (N:=N) Q;have ajg:=FE (N:=N) (rows:=rows) (i:=i) (by omega);have ajh:=I3 aK;have aji:=I2 (l:=x.2.2) (k:=c) (by omega);have qB:=ZF aK;have kY:decide ((i:Int)<(N:Int))=true:=cX;have FH:c<N+1:=by omega
  rcases r4:(f1==0)
  ·have axQ:findAt rows r c=i:=axn Q kN aV (by rw[qB];exact r4);obtain⟨xM,pE⟩:∃x,rows[r]?=some x:=⟨_,bn (by omega)⟩
   have ki:iP rows r c=(false,kg (hV ((f1,f2),(f3,f4)) x.2.2).1 r c 0 (((rows.set r x).set i xM).set r (x.1,x.2.1,(hV ((f1,f2),(f3,f4)) x.2.2).1)) (hV ((f1,f2),(f3,f4)) x.2.2).2):=by
    unfold iP FC;rw[ae (by omega),axQ];have:rowAt (q9 rows r i) r=x:=xL (by unfold q9;rw[xL Q,xL pE];exact ZI Q pE);rw[this,qB];unfold q9;rw[xL Q,xL pE]
   rw[ki];clear ki;have I9:kf N ((rows.set r x).set i xM):=cT.swap pE Q;have axR:kB mem go N ((rows.set r x).set i xM) false _:=kB.swap pE Q ⟨bH,λ_ _=>rfl⟩;have zg:((rows.set r x).set i xM)[r]?=some x:=ZI Q pE;have uT:r<N:=by omega
   have s1:=I4 (N:=N) pE;have s2:=FE (N:=N) (rows:=rows) (i:=r) (by omega);have dP:=ai0 (N:=N) (rows:=rows) (i:=r) (by omega) x;have dU:=FE (N:=N) (rows:=rows.set r x) (i:=i) (by rw[hL];omega);have axS:=ai0 (N:=N) (rows:=rows.set r x) (i:=i) (by rw[hL];omega) xM;have axT:=I4 (N:=N) zg;have axU:=FE (N:=N) (rows:=(rows.set r x).set i xM) (i:=r) (by rw[hL,hL];omega);generalize A5:(rows.set r x).set i xM=ic at *;have g2:=Ja _ (dZ aK);have aOG:decide ((i:Int)<(N:Int))=true:=kY;have axV:((i:Int)==(N:Int))=false:=by simp;omega
   simp only[go_sem,go_sem_proc,CX,xN,au,F,G,cb,xR,Nt,CY,ajf,ajg,ajh,aji,aq,kY,FH,r4,dy,uT,s1,s2,dP,dU,axS,axT,axU,axV];refine axG T xN sj go N r c mem CU CV gi uT ic I9 x zg f1 f2 f3 f4 g2 _ _ (gH (mem 148008)) ?_ ?_ ?_ ?_ ?_ ?_ ?_ ?_ ((axR.own (.inl rfl)).own (.inl rfl)) ?_
   ·exact au
   ·exact F
   ·exact G
   ·rfl
   ·rfl
   ·rfl
   ·rfl
   ·simp[a4]
   intro tm' m' fZ bS cM th wj;have wg:=wj.1.m
   have bL:(ic.set r (x.1,x.2.1,(hV ((f1,f2),(f3,f4)) x.2.2).1))[r]?=some (x.1,x.2.1,(hV ((f1,f2),(f3,f4)) x.2.2).1):=by
    rw[nT,ab rfl,ab (by rw[I9.len];exact uT)]
   simp only[go_sem,go_sem_proc,fZ,bS,cM,wg];refine axD T CX xN m2 nV go N r c mem CU CV gi uT FH _ th x _ bL _ _ _ ?_ ?_ ?_ ?_ ?_ ?_ wj ?_
   ·exact fZ
   ·exact bS
   ·exact cM
   ·rfl
   ·rfl
   ·rfl
   intro aOH p6 uU;refine ai ?_;repeat' (intro h<;>simp only[h,go_sem,go_sem_proc]<;>try refine ah ?_ ?_)
   exact⟨_,rfl,rfl,uU⟩
  ·have hw:=e0 (i:=i) (by omega);refine ai ?_;repeat' (intro h<;>simp only[h,go_sem,go_sem_proc,CX,xN,au,F,G,cb,xR,Nt,CY,ajf,ajg,ajh,aji,aq,kY,FH,r4,hw,dy]<;>try refine ah ?_ ?_)
   refine⟨i+1,by omega,by omega,by omega,?_,rfl⟩
   intro j y axW vA al
   by_cases h8:j=i
   ·subst h8;rw[Q] at al
    cases al;rw[qB];exact r4
   ·exact aV j y axW (by omega) al
 ·have axX:i=N:=by omega
  subst axX;have kY:decide ((i:Int)<(i:Int))=false:=cA;have uV:=axo (rows:=rows) (r:=r) (c:=c) (by omega) (λj y ag al=>aV j y ag (by have:=(dK.1 al).1;omega) al);have aF:iP rows r c=(true,rows,false):=by unfold iP;rw[ab uV]
  rw[aF];refine ai ?_;repeat' (intro h<;>simp only[h,go_sem,go_sem_proc,CX,xN,au,F,G,cb,xR,Nt,kY,beq_self_eq_true]<;>try refine ah ?_ ?_)
  exact⟨_,rfl,rfl,bH,λ_ _=>rfl⟩
structure Sp where
 go:Nat
 N:Nat
 rows:List dh
 r:Nat
 c:Nat
def ZR (a:Sp)(mem:Mem):Prop:=kf a.N a.rows/\A2 a.go a.N a.rows false mem/\mem 168004=none/\mem 168006=none/\a.N<=40/\a.r<=a.c/\a.c<a.N
def ZS (a:Sp)(mem:Mem):O->Mem->Prop:=λm mem'=>m=.M (.bool (iP a.rows a.r a.c).1)/\kB mem a.go a.N (iP a.rows a.r a.c).2.1 (iP a.rows a.r a.c).2.2 mem'
def Nu:List O->Mem->Option (O->Mem->Prop):=uR (λ(a:Sp) args mem=>args=[.ptr 129015 0 0,.M (.int .i64 a.r),.M (.int .i64 a.c)]/\ZR a mem) ZS
def axY {N:Nat}{a b:List dh}(h:refsOf N a=refsOf N b):a.map (λx=>(x.1,x.2.1))=b.map λx=>(x.1,x.2.1):=by
 induction a generalizing b with
 |nil=>cases b with
  |nil=>rfl
  |cons y r=>simp[refsOf] at h
 |cons x a av=>cases b with
  |nil=>simp[refsOf] at h
  |cons y b =>
   simp only[refsOf,eu,bh,O.ref.injEq] at h;have F:x.1=y.1:=by have:=h.1.1;simp only[Key] at this;omega
   simp only[eu,bh,e2];exact⟨⟨F,h.1.2.1⟩,av h.2⟩
def axZ (a:Sp)(mem:Mem)(h:ZR a mem):Nu [.ptr 129015 0 0,.M (.int .i64 a.r),.M (.int .i64 a.c)] mem=some (ZS a mem):=by
 unfold Nu;refine Ng (a:=a) ?_ ⟨rfl,h⟩;rintro a b args mem ⟨F,G,af,_⟩ ⟨aS,bt,b2,_⟩;rw[F] at aS;simp only[bh,O.M.injEq,Data.int.injEq,true_and,and_true] at aS;have hm:=af.m;rw[b2.m] at hm;simp only[cl,e2,bh,O.ref.injEq,true_and,and_true] at hm;obtain⟨⟨a8,aH⟩,-⟩:=hm;have bx:=af.o;rw[b2.o] at bx;simp only[cl,e2] at bx;obtain⟨dW,aOI,ZT,cH,cY⟩:=a;obtain⟨aOJ,aOK,ZU,c6,eB⟩:=b;dsimp only at *;subst a8 aH
 have aa:ZU=ZT:=by
  have cb:=axY bx.2;have ak:(D ZU)=D ZT:=by have:=congrArg D cb;simpa using this
  apply List.ext_getElem ak;intro i rQ ob;have cN:(ZU.map λx=>(x.1,x.2.1))[i]?=(ZT.map λx=>(x.1,x.2.1))[i]?:=by rw[cb]
  rw[bo,bo,bn rQ,bn ob] at cN;simp only[iY,cl,e2] at cN;have eU:=b2.r _ (nC rQ);have ey:=af.r _ (nC ob);rw[cN.1,ey] at eU;simp only[cl,e2] at eU;have:=axm eU.2;exact ej cN.1 (ej cN.2 this.symm)
 subst aa;have az:cH=c6:=by omega
 have aD:cY=eB:=by omega
 subst az aD
 rfl
def ax0 {args:List O}{mem:Mem}{bK:O->Mem->Prop}(h:Nu args mem=some bK):∃a,args=[.ptr 129015 0 0,.M (.int .i64 a.r),.M (.int .i64 a.c)]/\ZR a mem/\bK=ZS a mem:=by
 obtain⟨a,⟨F,G⟩,af⟩:=FB h;exact⟨a,F,G,af⟩
def ajj (l:List bF):((l.map aU).all λe=>D e==4)=true:=by simp[aU]
abbrev Sq:List bF->List Data:=λ(l:List bF)=>[.ay (l.map aU)]
def Nv:=bU Sq λ(l:List bF)=>cp (D l<=1000000) (.own 4 (l.map aU))
def ax1:∀a b,Sq a=Sq b->a=b:=by
  intro eH aI h;exact map_inj nq _ _ (by simpa using h)
@[go_sem] def aOL (l):=cz Nv rfl ax1 l rfl
def ax2 (T:ba):WF T afz Nv:=by
 refine cf λl=>cG λH=>⟨rfl,b7 ?_⟩;simp only[afz,Sq,b1]
 have dN:mA 147005 0 4 0 64 (D l) ((l.map aU).flatten.map .M) (some (0,[]))=some (.ref 147005 1 4 0 (D l),some (147005,1,a6 aU l)):=by
  have:=En mY Fq 147005 0 64 [] l (by simp;omega) (by simp;omega)
  simpa [a6] using this
 have hlen:(a6 aU l).length=D l*4:=lj mY l;refine ai ?_;repeat' (intro h<;>simp only[h,go_sem,go_sem_proc,ajj,dN,ar]<;>try refine ah ?_ ?_)
 rintro b ad
 cases b
 ·refine ai ?_;repeat' (intro h<;>simp only[h,go_sem,go_sem_proc,ajj,dN,ar,pg,hlen]<;>try refine ah ?_ ?_)
  rw[ab (by omega),dt (by omega)];unfold a6;rw[r1 _ λd=>rfl];have:=xj (sz:=4) (l.map aU) (by intro e he;obtain⟨f,-,rfl⟩:=ef.1 he;rfl);rw[ar] at this;simp[this]
 ·cases l with
  |nil =>
       refine ai ?_;repeat' (intro h<;>simp only[h,go_sem,go_sem_proc,pg,cR]<;>try refine ah ?_ ?_)
  |cons x r=>simp at ad
def hW (rs:List fJ):List dh:=rs.zipIdx.map λp=>(p.2,0,p.1.1++[p.1.2])
def FJ (rs:List fJ):(hW rs).length=D rs:=by simp[hW]
def ajk {rs:List fJ}{i:Nat}{r:fJ}(h:rs[i]?=some r):(hW rs)[i]?=some (i,0,r.1++[r.2]):=by
 unfold hW;rw[bo,ZV,h];simp
def ZW {rs:List fJ}{i:Nat}{r:fJ}(h:rs[i]?=some r):(hW rs).take (i+1)=(hW rs).take i++[(i,0,r.1++[r.2])]:=by
 rw[hF,ajk h]
 rfl
def ax3 {rs:List fJ}{i:Nat}{x:dh}(h:x∈(hW rs).take i):x.1<i/\x.2.1=0:=by
 obtain⟨j,ag⟩:=uk.1 h;rw[List.getElem?_take] at ag
 split at ag
 ·rename_i h8;unfold hW at ag;rw[bo,ZV] at ag
  cases aa:rs[j]? with
  |none=>rw[aa] at ag;cases ag
  |some r =>
   rw[aa] at ag;simp only[iY,cl] at ag;subst ag;exact⟨by simpa using h8,rfl⟩
 ·cases ag
def ax4 (N:Nat)(a b:List dh):refsOf N (a++b)=refsOf N a++refsOf N b:=by simp[refsOf]
def Jb (N:Nat)(a:List dh):(refsOf N a).length=D a:=by simp[refsOf]
structure A6 (N:Nat) (rs:List fJ) (i go:Nat) (mem:Mem):Prop where
 z:i=0->mem 129015=some (0,[.nil,.M (.int .i64 N),.M (.bool false)])
 p:0<i->mem 129015=some (0,[.ref 129035 go 1 0 i,.M (.int .i64 N),.M (.bool false)])/\mem 129035=some (go,refsOf N ((hW rs).take i))
 r:∀x∈(hW rs).take i,mem (x.1+900000)=some (x.2.1,a6 aU x.2.2)
 n:∀j:Nat,i<=j->mem (j+900000)=none
 a:mem 168004=none
 b:mem 168006=none
def ajl (l:List bF):(l.map aU).flatten.map O.M=a6 aU l:=rfl
def ax5 (bC:Nat)(l:List bF)(v1:Int)(v2:List Int)(wi:Int)(v4:List Int)(h:(D l)<=1000000):mA 129029 bC 4 (D l) 64 1 [.M (.int .i64 v1),.M (.ay (v2.map aC)),.M (.int .i64 wi),.M (.ay (v4.map aC))] (some (bC,a6 aU l))=some (.ref 129029 (bC+1) 4 0 (D l+1),some (129029,bC+1,a6 aU (l++[((v1,v2),(wi,v4))]))) :=
 l8 mY Fq 129029 bC 64 l ((v1,v2),(wi,v4)) rfl (by omega) (by omega)
def ax6 (N bC i g:Nat)(a:List dh)(J:(D a)=i)(h:i<=1000)(m:O)(hm:m=.ref 129029 g 4 0 (N+1)):mA 129035 bC 1 i 24 1 [m] (some (bC,refsOf N a))=some (.ref 129035 (bC+1) 1 0 (i+1),some (129035,bC+1,refsOf N a++[m])):=by
 subst hm;unfold mA;dsimp only;rw[ab ⟨rfl,by rw[Jb];omega,by omega,by unfold maxLen;omega,rfl⟩,dt (by rw[Jb];omega)]
def ax7 {N i go go' bC:Nat}{rs:List fJ}{r:fJ}{m m':Mem}(ad:A6 N rs i go m)(aa:rs[i]?=some r)(Cw:m' 129015=some (0,[.ref 129035 go' 1 0 (i+1),.M (.int .i64 N),.M (.bool false)]))(aK:∀k:Nat,900000<=k\/k=168004\/k=168006->m' k=m k):
  A6 N rs (i+1) go' (a4 (a4 (a4 m' 129029 (bQ m' 129029) []) (i+900000) (bQ m' (i+900000)) (a6 aU (r.1++[r.2]))) 129035 go' ((refsOf N ((hW rs).take i)++[O.ref 129029 bC 4 0 (N+1)]).set i (O.ref (i+900000) (bQ m' (i+900000)) 4 0 (N+1)))):=by
 have aq:=(dK.1 aa).1
 have a8:bQ m' (i+900000)=0:=by
  unfold bQ;rw[aK _ (.inl (by omega)),ad.n i (bM _)]
 have ti:(refsOf N ((hW rs).take i)).length=i:=by rw[Jb,gE,FJ];omega
 rw[a8]
 have nW:(refsOf N ((hW rs).take i)++[O.ref 129029 bC 4 0 (N+1)]).set i (.ref (i+900000) 0 4 0 (N+1))=refsOf N ((hW rs).take (i+1)):=by
  rw[FF _ _ (by omega),ti,lf,we,ZW aa,ax4]
  rfl
 rw[nW];have Nw:∀(k:Nat),k≠129029->k≠129035->k≠i+900000->a4 (a4 (a4 m' 129029 (bQ m' 129029) []) (i+900000) 0 (a6 aU (r.1++[r.2]))) 129035 go' (refsOf N ((hW rs).take (i+1))) k=m' k:=λk F G af=>by simp[a4,F,G,af]
 refine⟨λh=>by omega,λ_=>⟨by rw[Nw _ (by omega) (by omega) (by omega)];exact Cw,by simp[a4]⟩,λx Q=>?_,λj ag=>?_,?_,?_⟩
 ·rw[ZW aa,iF,vY] at Q;rcases Q with Q|rfl
  ·obtain⟨sS,AB⟩:=ax3 Q;rw[Nw _ (by omega) (by omega) (by omega),aK _ (.inl (by omega))];exact ad.r x Q
  ·have G:(i+900000:Nat)≠129035:=by omega
   simp[a4]
 ·rw[Nw _ (by omega) (by omega) (by omega),aK _ (.inl (by omega))];exact ad.n j (by omega)
 ·rw[Nw _ (by omega) (by omega) (by omega),aK _ (.inr (.inl rfl))];exact ad.a
 ·rw[Nw _ (by omega) (by omega) (by omega),aK _ (.inr (.inr rfl))];exact ad.b
def ajm {K:bc->Prop}{tm:Nat->O}{N i go:Nat}(go' bC:Nat){rs:List fJ}{r:fJ}{m m':Mem}(ad:A6 N rs i go m)(aa:rs[i]?=some r)(Cw:m' 129015=some (0,[.ref 129035 go' 1 0 (i+1),.M (.int .i64 N),.M (.bool false)]))
  (Sr:m' 129035=some (go',refsOf N ((hW rs).take i)++[.ref 129029 bC 4 0 (N+1)])) (Ss:m' 129029=some (bC,a6 aU (r.1++[r.2]))) (aK:∀k:Nat,900000<=k\/k=168004\/k=168006->m' k=m k) (h:∀bb,A6 N rs (i+1) go' bb->K ⟨tm,bb⟩):lC K ⟨tm,m'⟩ .move:=by
 have aq:=(dK.1 aa).1;have ti:(refsOf N ((hW rs).take i)).length=i:=by rw[Jb,gE,FJ];omega
 exact ato 129035 i 129029 (i+900000) Sr (by rw[rR (by omega),ti,lf];rfl) Ss (by omega) (show (i+900000:Nat)≠129029 by omega) (show (i+900000:Nat)≠129035 by omega) (h _ (ax7 ad aa Cw aK))
def lP {m:Mem}{k g:Nat}{cs:List O}{j:Nat}(h:j≠k):a4 m k g cs j=m j:=ae h
def ax8 (T:ba)(pG:T QI=aQ Nv){K:eT->bc->Prop}{kk:List gG}(N:Nat)(rs:List fJ)(stop:Bool)(gi:N<=40)(hlen:(D rs)=N)(Ca:∀r∈rs,r.1.length=N/\CO r)(tm:Nat->O)(m:Mem)
  (az:tm 1=.M (.int .i64 N)) (aD:tm 2=.M (.bool stop)) (eb:tm 8=.ptr 129015 0 0) (pH:tm 16=.M (.ay (rs.map qd))) (nX:tm 17=.M (.int .i64 N)) (lQ:tm 18=.M (.int .i64 0)) (ad:A6 N rs 0 0 m)
  (dM:∀tm' m' go,tm' 1=.M (.int .i64 N)->tm' 2=.M (.bool stop)->tm' 8=.ptr 129015 0 0->A6 N rs N go m'->cw T K kk (.exit 0) ⟨tm',m'⟩) :
  wp T (RL.body.sub [1,1,0,1,0]) (cw T K kk) ⟨tm,m⟩:=by
 simp only[RL,eh.sub];refine da [1,2,8,16,17] [] (λ((i,go):Nat×Nat) tm m=>i<=N/\tm 18=.M (.int .i64 i)/\A6 N rs i go m) (λ(i,_)=>N-i) (0,0) (by exact⟨fy _,lQ,ad⟩) ?_;intro vs ms aW aR;simp only[go_sem,go_sem_proc,az,aD,eb,pH,nX] at aW aR;subst aW aR;clear az aD eb pH nX lQ ad tm m;rintro⟨i,go⟩ tm m I hm ⟨aje,nM,ad⟩;simp only[go_sem,go_sem_proc,bh] at I hm;obtain⟨F,G,cN,yZ,qb⟩:=I;rcases dq (i<N) with aq|ca
 ·obtain⟨⟨A,⟨v1,v2⟩,⟨wi,v4⟩⟩,aa⟩:∃r,rs[i]?=some r:=⟨_,bn (by omega)⟩;obtain⟨CZ,⟨ajn,ax9⟩,aya,vZ⟩:=Ca _ (dZ aa);dsimp only at CZ ajn ax9 aya vZ;have kW:decide ((i:Int)<(N:Int))=true:=cX;have hw:=e0 (i:=i) (by omega);have dN:∀bC,mA 129029 bC 4 N 64 1 _ _=_:=λbC=>CZ ▸ ax5 bC A v1 v2 wi v4 ajn;have ajo:N<=1000000:=by omega
  have h4:(1<=maxLen)=True:=eq_true (by unfold maxLen;omega);have aOM:=ZW aa;have ti:((hW rs).take i).length=i:=by rw[gE,FJ];omega
  rcases jG i with au|h5
  ·have xR:=ad.z au;refine ai ?_;repeat' (intro h<;>simp only[h,go_sem,go_sem_proc,pG,F,G,cN,yZ,qb,nM,xR,kW,aa,hw,ajo,CZ,dN,h4,ajl,ar,bo,qd,aU,decide_true,decide_false,ne_eq,not_false_eq_true,and_self]<;>try refine ah ?_ ?_)
   refine ajm (gH (m 129035)) (gH (m 129029)+1) ad aa (by simp[a4,au]) (by simp[a4,au,refsOf]) (by simp[a4]) (λk I=>?_) λbb fz=>?_
   ·rw[lP (by omega),lP (by omega),lP (by omega),lP (by omega),lP (by omega),lP (by omega),lP (by omega)]
   ·refine ai ?_;repeat' (intro h<;>simp only[h,go_sem,go_sem_proc,F,G,cN,yZ,qb,nM,hw]<;>try refine ah ?_ ?_)
    exact⟨(i+1,gH (m 129035)),by dsimp only;omega,by dsimp only;omega,rfl,fz⟩
  ·obtain⟨xR,Nt⟩:=ad.p h5;have ayb:=ax6 N go i (gH (m 129029)+1) ((hW rs).take i) ti (by omega) _ rfl;refine ai ?_;repeat' (intro h<;>simp only[h,go_sem,go_sem_proc,pG,F,G,cN,yZ,qb,nM,xR,Nt,kW,aa,hw,ajo,CZ,dN,ayb,ajl,ar,bo,qd,aU,decide_true,decide_false,ne_eq,not_false_eq_true,and_self]<;>try refine ah ?_ ?_)
   refine ajm (go+1) (gH (m 129029)+1) ad aa (by simp[a4]) (by simp[a4]) (by simp[a4]) (λk I=>?_) λbb fz=>?_
   ·rw[lP (by omega),lP (by omega),lP (by omega),lP (by omega),lP (by omega),lP (by omega),lP (by omega)]
   ·refine ai ?_;repeat' (intro h<;>simp only[h,go_sem,go_sem_proc,F,G,cN,yZ,qb,nM,hw]<;>try refine ah ?_ ?_)
    exact⟨(i+1,go+1),by dsimp only;omega,by dsimp only;omega,rfl,fz⟩
 ·have kW:decide ((i:Int)<(N:Int))=false:=cA;obtain rfl:i=N:=by omega
  refine ai ?_;repeat' (intro h<;>simp only[h,go_sem,go_sem_proc,F,G,cN,yZ,qb,nM,kW]<;>try refine ah ?_ ?_)
  refine dM _ _ go ?_ ?_ ?_ ad<;>simp only[e8,dV,if_false,F,G,cN]
def nt (stop:Bool):Nat->Nat->List dh->List Nat->Bool->List dh×List Nat×Bool
 |0,_,rows,free,bad=>(rows,free,bad)
 |_+1,_,rows,free,true=>(rows,free,true)
 |k+1,c,rows,free,false =>
  if (iP rows (c-D free) c).1=true then
   (if stop=true then ((iP rows (c-D free) c).2.1,free++[c],(iP rows (c-D free) c).2.2) else nt stop k (c+1) (iP rows (c-D free) c).2.1 (free++[c]) (iP rows (c-D free) c).2.2)
  else nt stop k (c+1) (iP rows (c-D free) c).2.1 free (iP rows (c-D free) c).2.2
def ajp (stop:Bool)(k c:Nat)(rows:List dh)(free:List Nat):nt stop k c rows free true=(rows,free,true):=by
 cases k<;>rfl
def iS (n:Nat):List Data:=[.int .i64 n]
def zi (n:Nat):(iS n).length=1:=rfl
def ajq (n:Nat):((iS n).map O.M).all O.one=true:=rfl
def ZX (N:Nat)(rows:List dh)(bad:Bool):Data:=.ptr [.ay (rows.map λx=>[.ay (x.2.2.map aU)]),.int .i64 N,.bool bad]
def St (N:Nat)(p:List dh×List Nat×Bool):Data:=.cP [ZX N p.1 p.2.2,.ay (p.2.1.map iS)]
def Su (fW:List bF)(r c:Nat):∀(i:Nat) (l:List dh) (b:Bool),(kg fW r c i l b).1.map (λx=>(x.1,x.2.1,x.2.2.length))=l.map λx=>(x.1,x.2.1,x.2.2.length)
 |_,[],_=>rfl
 |i,x::xs,b=>by
  unfold kg
  split
  ·simp only[eu,Su fW r c (i+1) xs b]
  ·simp only[eu,Su fW r c (i+1) xs,ai1]
def ajr (fE:bF):∀(l p:List bF) (b:Bool),(∀f∈l,okF f)->∀f∈(jz fE l p b).1,okF f
 | [],p,b,h=>by rw[ai2];exact h
 |f::dJ,[],b,h=>by cases b<;>(simp only[jz];exact h)
 |f::dJ,p::ps,true,h=>by simp only[jz];exact h
 |f::dJ,p::ps,false,h=>by
  simp only[jz];intro g a8;rcases hS.1 a8 with rfl|a8
  ·exact aiY _ _
  ·exact ajr fE dJ ps _ (λx Q=>h x (g5 _ Q)) g a8
def ZY (fW:List bF)(r c:Nat):∀(i:Nat) (l:List dh) (b:Bool),(∀x∈l,∀f∈x.2.2,okF f)->∀x∈(kg fW r c i l b).1,∀f∈x.2.2,okF f
 |_,[],_,h=>h
 |i,x::xs,b,h=>by
  unfold kg
  split
  ·intro y al;rcases hS.1 al with rfl|al
   ·exact h _ gK
   ·exact ZY fW r c (i+1) xs b (λz aV=>h z (g5 _ aV)) y al
  ·intro y al;rcases hS.1 al with rfl|al
   ·exact ajr _ _ _ _ (h _ gK)
   ·exact ZY fW r c (i+1) xs _ (λz aV=>h z (g5 _ aV)) y al
def ajs (rows:List dh)(r c:Nat)(aa:r<=D rows):r<=findAt rows r c/\findAt rows r c<=D rows:=by
 unfold findAt;have:=List.findIdx_le_length (p:=λx => !nU (cellOf x c)) (xs:=rows.drop r);rw[r0] at this;omega
def kf.FK {N:Nat}{rows:List dh}(h:kf N rows){r c:Nat}(aa:r<N):kf N (iP rows r c).2.1:=by
 unfold iP
 split
 ·exact h
 ·rename_i bE;have g2:=ajs rows r c (by rw[h.len];omega);have ak:=h.len;obtain⟨x,Q⟩:∃x,rows[findAt rows r c]?=some x:=⟨_,bn (by omega)⟩;obtain⟨xM,pE⟩:∃x,rows[r]?=some x:=⟨_,bn (by omega)⟩
  have A5:kf N (q9 rows r (findAt rows r c)):=by
   unfold q9;rw[xL Q,xL pE];exact h.swap pE Q
  have zg:(q9 rows r (findAt rows r c))[r]?=some x:=by
   unfold q9;rw[xL Q,xL pE];exact ZI Q pE
  generalize q9 rows r (findAt rows r c)=ic at *;obtain⟨tT,Ja⟩:=A5.row x (dZ zg)
  have Aw:kf N (FC ic r c):=by
   unfold FC;rw[xL zg];refine A5.set zg (by simp[hV,tT]) λf aK=>?_;obtain⟨g,-,rfl⟩:=ef.1 aK;exact aiZ _ _
  generalize FC ic r c=iR at *;have kO:=Su (hV (cellOf (rowAt ic r) c) (rowAt ic r).2.2).1 r c 0 iR (hV (cellOf (rowAt ic r) c) (rowAt ic r).2.2).2;have cT:=ZY (hV (cellOf (rowAt ic r) c) (rowAt ic r).2.2).1 r c 0 iR (hV (cellOf (rowAt ic r) c) (rowAt ic r).2.2).2 λx Q=>(Aw.row x Q).2;dsimp only;generalize (kg (hV (cellOf (rowAt ic r) c) (rowAt ic r).2.2).1 r c 0 iR (hV (cellOf (rowAt ic r) c) (rowAt ic r).2.2).2).1=el at *;refine⟨?_,?_,λy al=>⟨?_,cT y al⟩⟩
  ·have:=congrArg D kO;rw[ar,ar] at this;rw[this,Aw.len]
  ·have F:el.map (·.1)=iR.map (·.1):=by
    have:=congrArg (zh λp:Nat×Nat×Nat=>p.1) kO
    simpa [mK,Function.comp_def] using this
   rw[F];exact Aw.Sj
  ·have F:el.map (λx=>x.2.2.length)=iR.map λx=>x.2.2.length:=by
    have:=congrArg (zh λp:Nat×Nat×Nat=>p.2.2) kO
    simpa [mK,Function.comp_def] using this
   have G:y.2.2.length∈iR.map λx=>x.2.2.length:=by rw[<-F];exact ef.2 ⟨y,al,rfl⟩
   obtain⟨z,aV,e⟩:=ef.1 G;rw[<-e];exact (Aw.row z aV).1
def ayc {n k g N:Nat}{mem:Mem}{l:List bF}(ak:(D l)=N+1)(hm:mem k=some (g,a6 aU l)):b5 (n+1) mem (.ref k g 4 0 (N+1))=some (.ay (l.map aU)):=by
 rw[<-ak];exact pj mY hm
def ayd {n N:Nat}{mem:Mem}{rows:List dh}(h:∀x∈rows,mem (x.1+900000)=some (x.2.1,a6 aU x.2.2))(ak:∀x∈rows,x.2.2.length=N+1):(refsOf N rows).mapM (b5 (n+1) mem)=some (rows.map λx => .ay (x.2.2.map aU)):=by
 unfold refsOf
 induction rows with
 |nil=>rfl
 |cons x xs av =>
  have F:=ayc (n:=n) (ak x gK) (h x gK);have G:=av (λy al=>h y (g5 _ al)) λy al=>ak y (g5 _ al);simp only[eu,kr,F,G]
  rfl
def ZZ {n N go:Nat}{mem:Mem}{rows:List dh}{bad:Bool}(cT:kf N rows)(h:A2 go N rows bad mem):b5 (n+3) mem (.ptr 129015 0 0)=some (ZX N rows bad):=by
 have F:=ayd (n:=n) h.r λx Q=>(cT.row x Q).1
 have G:b5 (n+2) mem (.ref 129035 go 1 0 N)=some (.ay (rows.map λx=>[.ay (x.2.2.map aU)])):=by
  unfold b5;rw[h.o];simp only[if_true];unfold cut;rw[ab (by rw[Jb,cT.len];omega),nG,dt (by rw[Jb,cT.len];omega)];dsimp only;rw[F];have:=xj (sz:=1) (rows.map λx=>[Data.ay (x.2.2.map aU)]) (by intro e he;obtain⟨x,-,rfl⟩:=ef.1 he;rfl);rw[ar,cT.len] at this;simp only[iY,cl,Data.ay.injEq]
  have g2:∀l:List dh,(l.map λx=>Data.ay (x.2.2.map aU))=(l.map λx=>[Data.ay (x.2.2.map aU)]).flatten:=by
   intro l
   induction l with
   |nil=>rfl
   |cons x xs av=>simp only[eu,List.flatten_cons,av];rfl
  rw[g2,this]
 unfold b5;rw[h.m];simp only[if_true,nG,kr,List.mapM_nil,G,true_and,fy];simp only[LA]
 rfl
def A6.aye {N go:Nat}{rs:List fJ}{m:Mem}(ak:(D rs)=N)(gi:0<N)(h:A6 N rs N go m):A2 go N (hW rs) false m:=by
 have bz:(hW rs).take N=hW rs:=dt (by rw[FJ];omega);have aF:=h.p gi;rw[bz] at aF;exact⟨aF.1,aF.2,by have:=h.r;rw[bz] at this;exact this⟩
def A2.other {go N:Nat}{rows:List dh}{bad:Bool}{mem:Mem}{k g:Nat}{cs:List O}(h:A2 go N rows bad mem)(F:k≠129015)(G:k≠129035)(af:k<900000):A2 go N rows bad (a4 mem k g cs) :=
 ⟨(lP (Ne.symm F)).trans h.m,(lP (Ne.symm G)).trans h.o,λx Q=>(lP (show (x.1+900000:Nat)≠k by omega)).trans (h.r x Q)⟩
def ajt {N:Nat}{rs:List fJ}(ak:(D rs)=N)(h:∀r∈rs,r.1.length=N/\CO r):kf N (hW rs):=by
 refine⟨by rw[FJ,ak],?_,λx Q=>?_⟩
 ·have:(hW rs).map (·.1)=List.range (D rs):=by
   unfold hW;rw[mK];apply pY;intro i;rw[bo,ZV];rcases iD i (D rs) with h|h
   ·rw[bn h];simp[h]
   ·rw[mB h];simp[h]
  rw[this];exact List.nodup_range
 ·unfold hW at Q;obtain⟨⟨r,i⟩,aF,rfl⟩:=ef.1 Q;have aa:=List.fst_mem_of_mem_zipIdx aF;obtain⟨F,G,af⟩:=h r aa;refine⟨by simp[F],λf aK=>?_⟩
  rw[iF,vY] at aK;rcases aK with aK|rfl
  ·exact G.2 f aK
  ·exact af
abbrev Sv:(List fJ)×Int×Bool->List Data:=λ(rs,n,stop)=>[.ay (rs.map qd),.int .i64 n,.bool stop]
def Nx:=bU Sv λ(rs,n,stop)=>cp ((D rs:Int)=n/\D rs<=40/\∀r∈rs,r.1.length=D rs/\CO r) (.same (St (D rs) (nt stop (D rs) 0 (hW rs) [] false)))
def ayf:∀a b,Sv a=Sv b->a=b:=by
  rintro⟨aib,h7,aON⟩ ⟨aic,iZ,aOO⟩ h;simp only[bh,Data.ay.injEq,Data.int.injEq,Data.bool.injEq] at h;exact ej (map_inj Zo _ _ h.1) (ej h.2.1.2 h.2.2.1)
@[go_sem] def ayg (rs n stop):=cz Nx rfl ayf (rs,n,stop) rfl
def ayh (T:ba)(pG:T QI=aQ Nv)(sk:T Xw=ns Nu):WF T RL Nx:=by
 refine cf λ(rs,n,stop)=>cG λH=>⟨rfl,b7 ?_⟩;simp only[RL,Sv,b1];obtain⟨aH,gi,Ca⟩:=H;subst aH;simp only[go_sem,go_sem_proc,pG,sk,ar];generalize Z0:(D rs)=N at *;refine ax8 T pG N rs stop gi Z0 Ca _ _ rfl rfl rfl rfl rfl rfl ⟨λ_=>by simp[a4],λh=>by omega,λx Q=>by simp at Q,λj _=>lP (show (j+900000:Nat)≠129015 by omega),lP (by omega),lP (by omega)⟩ ?_
 intro tm m go F G cN ad;rcases jG N with au|h5
 ·have p7:rs=[]:=List.eq_nil_of_length_eq_zero (by omega);have aV:=ad.z au;subst au;subst p7;simp only[go_sem,go_sem_proc,pG,sk,F,G,cN];refine da [1,2,8] [129015] (λ(_:Unit) tm' m'=>tm' 11=.ref 129061 (gH (m 129061)) 1 0 0/\m' 129061=some (gH (m 129061),[])/\tm' 12=.M (.int .i64 0)) (λ_=>0) () (by refine⟨rfl,?_,rfl⟩;simp[a4]) ?_;intro vs ms aW aR;simp only[go_sem,go_sem_proc,pG,sk,F,G,cN,aV] at aW aR;subst aW aR;rintro _ tm' m' I hm ⟨uG,Ny,uH⟩;simp only[go_sem,go_sem_proc,pG,sk,bh] at I hm;obtain⟨bS,cM,kU⟩:=I;refine ai ?_;repeat' (intro (aw:_=_)<;>simp only[aw,go_sem,go_sem_proc,pG,sk,bS,cM,kU,hm,uG,Ny,uH,show decide ((0:Int)<((0:Nat):Int))=false from rfl,b5,oK,nG]<;>try refine ah ?_ ?_)
  rfl
 ·have A7:=ad.aye Z0 h5;have cT:=ajt Z0 Ca;have Nz:=ad.a;have NA:=ad.b;clear ad;simp only[go_sem,go_sem_proc,pG,sk,F,G,cN]
  refine da [1,2,8] [] (λ((c,rows,free,bad,g):Nat×List dh×List Nat×Bool×Nat) tm m=>c<=N/\D free<=c/\nt stop N 0 (hW rs) [] false=nt stop (N-c) c rows free bad/\kf N rows/\A2 go N rows bad m/\m 168004=none/\m 168006=none/\tm 11=.ref 129061 g 1 0 (D free)/\m 129061=some (g,a6 iS free)/\tm 12=.M (.int .i64 c)) (λ(c,_,_,_,_)=>N-c) (0,hW rs,[],false,gH (m 129061)) (by
   refine⟨fy _,bM _,rfl,cT,⟨?_,?_,λx Q=>?_⟩,?_,?_,rfl,?_,rfl⟩
   ·rw[lP (by omega)];exact A7.m
   ·rw[lP (by omega)];exact A7.o
   ·rw[lP (show (x.1+900000:Nat)≠129061 by omega)];exact A7.r x Q
   ·rw[lP (by omega)];exact Nz
   ·rw[lP (by omega)];exact NA
   ·simp[a4,a6]) ?_
  intro vs ms aW aR;simp only[go_sem,go_sem_proc,pG,sk,F,G,cN] at aW aR;subst aW aR;clear F G cN A7 Nz NA;rintro⟨c,rows,free,bad,g⟩ tm m I hm ⟨axP,aOP,k9,cT,A7,Nz,NA,uG,Ny,uH⟩;simp only[go_sem,go_sem_proc,pG,sk,bh] at I hm;obtain⟨F,G,cN⟩:=I;have xR:=A7.m
  have YV:nt stop N 0 (hW rs) [] false=(rows,free,bad)->((b5 5 m (.ptr 129015 0 0)).bind λd=>(b5 5 m (.ref 129061 g 1 0 (D free))).bind λe=>some (Data.cP [d,e]))=some (St N (nt stop N 0 (hW rs) [] false)):=by
   intro h;rw[h,ZZ (n:=2) cT A7,pj zi Ny]
   rfl
  have aju:=ZZ (n:=2) cT A7;have Sw:=pj (n:=4) zi Ny;rcases dq (c<N) with aq|ca
  ·have ee:decide ((c:Int)<(N:Int))=true:=cX
   cases bad
   ·have qU:IntKind.i64.wrap ((c:Int)-(D free:Int))=((c-D free:Nat):Int):=by rw[ev _];omega
    have hv:=e0 (i:=c) (by omega);have e3:=axZ ⟨go,N,rows,c-D free,c⟩ m ⟨cT,A7,Nz,NA,gi,Nat.sub_le _ _,aq⟩;dsimp only at e3;have Z1:N-c=(N-(c+1))+1:=by omega
    rw[Z1] at k9;simp only[nt] at k9;have I5:=cT.FK (r:=c-D free) (c:=c) (by omega);simp only[go_sem,go_sem_proc,pG,sk,sk,F,G,cN,uG,uH,xR,ee,qU,e3];intro zc m' gI;obtain⟨xK,gk⟩:=gI;dsimp only at xK gk;subst xK;have jR:m' 168004=none:=(gk.2 _ ZK).trans Nz;have CW:m' 168006=none:=(gk.2 _ ZL).trans NA;have Z2:m' 129061=some (g,a6 iS free):=(gk.2 129061 (by unfold I0;omega)).trans Ny;have dN:mA 129061 g 1 (D free) 8 1 [.M (.int .i64 c)] (some (g,a6 iS free))=_:=l8 zi ajq 129061 g 8 free c rfl (by omega) (by omega);generalize aOQ:iP rows (c-D free) c=cy at *;obtain⟨ayi,ajv,ajw⟩:=cy;dsimp only at *
    cases ayi
    ·simp only[lD,if_false] at k9;refine ai ?_;repeat' (intro (aw:_=_)<;>simp only[aw,go_sem,go_sem_proc,pG,sk,F,G,cN,uG,uH,hv]<;>try refine ah ?_ ?_)
     exact⟨(c+1,ajv,free,ajw,g),by dsimp only;omega,by dsimp only;omega,by dsimp only;omega,k9,I5,gk.1,jR,CW,rfl,Z2,rfl⟩
    ·simp only[if_true] at k9;have ajx:=gk.1.other (k:=129061) (g:=g+1) (cs:=a6 iS (free++[c])) (by omega) (by omega) (by omega)
     cases stop
     ·simp only[lD,if_false] at k9;refine ai ?_;repeat' (intro (aw:_=_)<;>simp only[aw,go_sem,go_sem_proc,pG,sk,F,G,cN,uG,uH,hv,Z2,dN]<;>try refine ah ?_ ?_)
      exact⟨(c+1,ajv,free++[c],ajw,g+1),by dsimp only;omega,by dsimp only;omega,by simp;omega,k9,I5,ajx,jR,CW,by simp,rfl,rfl⟩
     ·simp only[if_true] at k9;refine ai ?_;repeat' (intro (aw:_=_)<;>simp only[aw,go_sem,go_sem_proc,pG,sk,F,G,cN,uG,uH,hv,Z2,dN]<;>try refine ah ?_ ?_)
      have C0:(D free)+1=(free++[c]).length:=by simp
      rw[ZZ (n:=2) I5 ajx,C0,pj (n:=4) zi (g:=g+1) (l:=free++[c]) (by simp[a4]),k9]
      rfl
   ·rw[ajp] at k9;refine ai ?_;repeat' (intro (aw:_=_)<;>simp only[aw,go_sem,go_sem_proc,pG,sk,F,G,cN,uG,uH,xR,ee,aju,Sw]<;>try refine ah ?_ ?_)
    rw[k9]
    rfl
  ·have ee:decide ((c:Int)<(N:Int))=false:=cA;have Z1:N-c=0:=by omega
   rw[Z1] at k9;simp only[nt] at k9;refine ai ?_;repeat' (intro (aw:_=_)<;>simp only[aw,go_sem,go_sem_proc,pG,sk,F,G,cN,uG,uH,xR,ee,aju,Sw]<;>try refine ah ?_ ?_)
   rw[k9]
   rfl
def Z3 {rs:List fJ}{n:Int}(bx:Fs rs)(h:pA rs n=true):(D rs:Int)=n/\D rs<=40/\∀r∈rs,r.1.length=D rs/\CO r:=by
 unfold pA at h;simp only[eQ,nS,decide_eq_false_iff_not,beq_iff_eq] at h;obtain⟨F,G,af,aS⟩:=h;refine⟨af,by omega,λr aa=>⟨?_,bx.2 r aa⟩⟩
 rw[uL] at aS;have:=aS r aa;unfold uN at this;simp at this;omega
def Z4 {stop:Bool}{N:Nat}:∀(k c:Nat) (rows:List dh) (free:List Nat) (bad:Bool),c+k=N->kf N rows->kf N (nt stop k c rows free bad).1
 |0,_,rows,_,_,_,h=>h
 |k+1,c,rows,free,true,H,h=>h
 |k+1,c,rows,free,false,H,h=>by
  have aF:=h.FK (r:=c-D free) (c:=c) (by omega);unfold nt
  split
  ·split
   ·exact aF
   ·exact Z4 k (c+1) _ _ _ (by omega) aF
  ·exact Z4 k (c+1) _ _ _ (by omega) aF
def re (stop:Bool)(rs:List fJ):List dh×List Nat×Bool:=nt stop (D rs) 0 (hW rs) [] false
def Z5 (stop:Bool):∀(k c:Nat) (rows:List dh) (free:List Nat) (bad:Bool),(nt stop k c rows free bad).2.1.length<=D free+k
 |0,_,_,_,_=>by simp[nt]
 |k+1,c,rows,free,true=>by simp[nt]
 |k+1,c,rows,free,false=>by
  unfold nt
  split
  ·split
   ·simp
   ·have:=Z5 stop k (c+1) (iP rows (c-D free) c).2.1 (free++[c]) (iP rows (c-D free) c).2.2;simp at this;omega
  ·have:=Z5 stop k (c+1) (iP rows (c-D free) c).2.1 free (iP rows (c-D free) c).2.2;omega
def ayj (stop:Bool)(rs:List fJ):(re stop rs).2.1.length<=D rs:=by
 have:=Z5 stop (D rs) 0 (hW rs) [] false;unfold re
 simpa using this
def ayk {rs:List fJ}{stop:Bool}(h:∀r∈rs,r.1.length=D rs/\CO r):kf (D rs) (re stop rs).1:=Z4 _ _ _ _ _ (by omega) (ajt rfl h)
def wk (N:Nat)(x:dh):bF:=x.2.2.getD N eA
def wm (rs:List fJ)(n:Int):List bF×Int :=
 if pA rs n=true then (if (re true rs).2.2=true then ([],6) else if (re true rs).2.1.length>0 then ([],17) else ((re true rs).1.map (wk (D rs)),0)) else ([],1)
def ayl {N:Nat}{x:dh}{f:bF}(h:x.2.2[N]?=some f):wk N x=f:=by
 unfold wk;rw[ei,h]
 rfl
def Sx:=bU IH λ(rs,n)=>cp (Fs rs) (.same (.cP [.ay ((wm rs n).1.map aU),.int .i64 (wm rs n).2]))
@[go_sem] def aym (rs n):=cz Sx rfl aid (rs,n) rfl
def ayn (T:ba)(C4:T Xl=aQ RY)(C5:T Xp=aQ Nx):WF T aht Sx:=by
 refine cf λ(rs,n)=>cG λH=>⟨rfl,b7 ?_⟩;simp only[aht,IH,b1];unfold wm;rcases aa:pA rs n
 ·refine ai ?_;repeat' (intro h<;>simp only[h,go_sem,go_sem_proc,C4,C5,H,aa,cR]<;>try refine ah ?_ ?_)
 ·have cT:=ayk (stop:=true) (Z3 H aa).2.2;have eW:Nx [.ay (rs.map qd),.int .i64 n,.bool true]=some (.same (St (D rs) (re true rs))):=ayg rs n true (Z3 H aa);have g2:=ayj true rs;obtain⟨aH,gi,-⟩:=Z3 H aa;rcases gw:re true rs with ⟨rows,free,bad⟩;rw[gw] at g2 cT eW;dsimp only at g2 cT;simp only[St,ZX] at eW
  cases bad
  ·cases free with
   |nil =>
    simp only[go_sem,go_sem_proc,C4,C5,H,aa,eW,ar,show decide (((0:Nat):Int)>0)=false from rfl,cR];rw[ae (by simp)];refine da [1,33,34] [] (λ((i,g):Nat×Nat) tm m=>i<=D rs/\tm 35=.M (.int .i64 i)/\tm 8=.ref 109045 g 4 0 i/\m 109045=some (g,a6 aU ((rows.take i).map (wk (D rs))))) (λ(i,_)=>D rs-i) (0,0) (by refine⟨fy _,rfl,rfl,?_⟩;simp[a4,a6,bQ,emp]) ?_;intro vs ms aW aR;simp only[go_sem,go_sem_proc,C4,C5] at aW aR;subst aW aR;rintro⟨i,g⟩ tm m I hm ⟨aje,Sr,cN,Z6⟩;simp only[go_sem,go_sem_proc,C4,C5,bh] at I hm;obtain⟨F,Rx,ajy⟩:=I;have b0:=cT.len;rcases dq (i<D rs) with aq|ca
    ·obtain⟨x,Q⟩:∃x,rows[i]?=some x:=⟨_,bn (by omega)⟩;obtain⟨tT,Ja⟩:=cT.row x (dZ Q);obtain⟨⟨⟨cH,cY⟩,⟨ep,fi⟩⟩,ou⟩:∃f,x.2.2[D rs]?=some f:=⟨_,bn (by omega)⟩;have lk:=ayl ou;have ti:((rows.take i).map (wk (D rs))).length=i:=by rw[ar,gE];omega
     have dN:=l8 mY Fq 109045 g 64 ((rows.take i).map (wk (D rs))) ((cH,cY),(ep,fi)) (cs:=[.M (.int .i64 cH),.M (.ay (cY.map aC)),.M (.int .i64 ep),.M (.ay (fi.map aC))]) rfl (by omega) (by omega);rw[ti] at dN
     have ayo:(rows.take (i+1)).map (wk (D rs))=(rows.take i).map (wk (D rs))++[((cH,cY),(ep,fi))]:=by
      rw[hF,Q,kh];simp[lk]
     have kW:decide ((i:Int)<(D rs:Int))=true:=cX;have Z7:decide ((i:Int)<(D rows:Int))=true:=cX;have hw:=e0 (i:=i) (by omega);have od:decide (0<=n)=true:=cX;have zj:n=((D rs:Nat):Int):=aH.symm;refine ai ?_;repeat' (intro h<;>simp only[h,go_sem,go_sem_proc,C4,C5,F,Rx,ajy,Sr,cN,Z6,Q,ou,dN,kW,Z7,hw,zj,ar,bo,aU]<;>try refine ah ?_ ?_)
     exact⟨(i+1,g+1),by dsimp only;omega,by dsimp only;omega,rfl,rfl,by dsimp only;rw[ayo]⟩
    ·have cn:i=D rs:=by omega
     have Z7:decide ((i:Int)<(D rows:Int))=false:=cA;have en:rows.take i=rows:=dt (by omega);rw[en] at Z6
     have mL:∀n,b5 (n+1) m (.ref 109045 g 4 0 i)=some (.ay ((rows.map (wk (D rs))).map aU)):=λn=>by
      have:=pj (n:=n) mY Z6;rw[show (rows.map (wk (D rs))).length=i by rw[ar];omega] at this
      exact this
     have ayp:=mL 4;refine ai ?_;repeat' (intro h<;>simp only[h,go_sem,go_sem_proc,C4,C5,F,Rx,ajy,Sr,cN,Z7,ayp]<;>try refine ah ?_ ?_)
   |cons f dJ =>
    have kx:decide ((((f::dJ).length:Nat):Int)>0)=true:=h2 (by simp only[hQ];omega);simp only[hQ] at kx;refine ai ?_;repeat' (intro h<;>simp only[h,go_sem,go_sem_proc,C4,C5,H,aa,eW,ar,kx,cR]<;>try refine ah ?_ ?_)
    rw[ab (by omega)]
    rfl
  ·refine ai ?_;repeat' (intro h<;>simp only[h,go_sem,go_sem_proc,C4,C5,H,aa,eW,ar,cR]<;>try refine ah ?_ ?_)
def ajz:bu:=bT 30 2 [.t 4,.t 5] (R [aM 4 (.jm (.c (.M (.int .u64 0)))),aM 5 (.jm (.c (.M (.int .u64 0))))] (.seq (.cond (.c (.M (.bool false))) (R [E 11 0,aM 12 (.conv .u32 (.t 11)),E 13 1,aM 14 (.conv .u32 (.t 13)),bV 15 atW 12 14,E 10 15,bl 16 0 10,bl 17 1 10,E 6 16,E 7 17] (R [E 18 6,aM 19 (.conv .u64 (.t 18)),E 20 7,aM 21 (.conv .u64 (.t 20)),E 4 19,E 5 21] .ret)) .skip) (R [E 23 0,E 24 1,bV 25 XD 23 24,E 22 25,bl 26 0 22,bl 27 1 22,E 8 26,E 9 27] (R [E 28 8,E 29 9,E 4 28,E 5 29] .ret))))
def ajA:bu:=bT 51 2 [.t 4,.t 5] (R [aM 4 (.jm (.c (.M (.int .u64 0)))),aM 5 (.jm (.c (.M (.int .u64 0))))] (R [E 14 0,aM 15 (.bin .and (.t 14) (.c (.M (.int .u64 4294967295)))),E 6 15] (R [E 16 0,aM 17 (.bin .shr (.t 16) (.c (.M (.int .u64 32)))),E 7 17] (R [E 18 1,aM 19 (.bin .and (.t 18) (.c (.M (.int .u64 4294967295)))),E 8 19] (R [E 20 1,aM 21 (.bin .shr (.t 20) (.c (.M (.int .u64 32)))),E 9 21] (R [E 22 6,E 23 8,bm 24 .mul 22 23,E 10 24] (R [E 25 7,E 26 8,bm 27 .mul 25 26,E 28 10,aM 29 (.bin .shr (.t 28) (.c (.M (.int .u64 32)))),bm 30 .add 27 29,E 11 30] (R [E 31 11,aM 32 (.bin .and (.t 31) (.c (.M (.int .u64 4294967295)))),E 12 32] (R [E 33 11,aM 34 (.bin .shr (.t 33) (.c (.M (.int .u64 32)))),E 13 34] (R [E 35 12,E 36 6,E 37 9,bm 38 .mul 36 37,bm 39 .add 35 38,E 12 39] (R [E 40 7,E 41 9,bm 42 .mul 40 41,E 43 13,bm 44 .add 42 43,E 45 12,aM 46 (.bin .shr (.t 45) (.c (.M (.int .u64 32)))),bm 47 .add 44 46,E 4 47] (R [E 48 0,E 49 1,bm 50 .mul 48 49,E 5 50] .ret))))))))))))
def ajB:bu:=bT 8 1 [.t 2] (R [bk 2 0] (.seq (.cond (.c (.M (.bool false))) (R [E 3 0,aM 4 (.conv .u32 (.t 3)),dp 5 at4 4,E 2 5] .ret) .skip) (R [E 6 0,dp 7 X2 6,E 2 7] .ret)))
def ajC:bu:=bT 25 1 [.t 2] (R [bk 2 0] (.seq (R [E 3 0,aM 4 (.bin .geq (.t 3) (.c (.M (.int .u64 4294967296))))] (eC 4 (R [E 5 0,aM 6 (.bin .shr (.t 5) (.c (.M (.int .u64 32)))),E 0 6] (.ops [bk 2 32])) .skip)) (.seq (R [E 7 0,aM 8 (.bin .geq (.t 7) (.c (.M (.int .u64 65536))))] (eC 8 (R [E 9 0,aM 10 (.bin .shr (.t 9) (.c (.M (.int .u64 16)))),E 0 10] (.ops [E 11 2,a5 12 .add 11 16,E 2 12])) .skip)) (.seq (R [E 13 0,aM 14 (.bin .geq (.t 13) (.c (.M (.int .u64 256))))] (eC 14 (R [E 15 0,aM 16 (.bin .shr (.t 15) (.c (.M (.int .u64 8)))),E 0 16] (.ops [E 17 2,a5 18 .add 17 8,E 2 18])) .skip)) (R [E 19 2,E 20 0,aM 21 (.conv .u8 (.t 20)),aM 22 (.idxs (.c (.M (.str [0,1,2,2,3,3,3,3,4,4,4,4,4,4,4,4,5,5,5,5,5,5,5,5,5,5,5,5,5,5,5,5,6,6,6,6,6,6,6,6,6,6,6,6,6,6,6,6,6,6,6,6,6,6,6,6,6,6,6,6,6,6,6,6,7,7,7,7,7,7,7,7,7,7,7,7,7,7,7,7,7,7,7,7,7,7,7,7,7,7,7,7,7,7,7,7,7,7,7,7,7,7,7,7,7,7,7,7,7,7,7,7,7,7,7,7,7,7,7,7,7,7,7,7,7,7,7,7,8,8,8,8,8,8,8,8,8,8,8,8,8,8,8,8,8,8,8,8,8,8,8,8,8,8,8,8,8,8,8,8,8,8,8,8,8,8,8,8,8,8,8,8,8,8,8,8,8,8,8,8,8,8,8,8,8,8,8,8,8,8,8,8,8,8,8,8,8,8,8,8,8,8,8,8,8,8,8,8,8,8,8,8,8,8,8,8,8,8,8,8,8,8,8,8,8,8,8,8,8,8,8,8,8,8,8,8,8,8,8,8,8,8,8,8,8,8,8,8,8,8,8,8,8,8,8,8]))) (.t 21)),aM 23 (.conv .i64 (.t 22)),bm 24 .add 19 23,E 2 24] .ret)))))
end Go.Mini
