/- A part of the proof. -/
import Derived.Test.YtdbkjjoedjfmpaaGreatM03
set_option linter.unusedSimpArgs false
set_option linter.unusedVariables false
set_option maxRecDepth 100000
set_option maxHeartbeats 4000000
noncomputable section
open Bool renaming and_eq_true->gb,eq_iff_iff->ym,false_and->fr,false_eq_true->kE,not_false->cp,not_true->bT,or_true->pR,true_and->fP
open Classical renaming byContradiction->nY,choose_spec->r2
open Decidable renaming em->dk
open Int renaming add_zero->k9,mul_zero->vk,natAbs_natCast->lL,natAbs_neg->yj,one_mul->o8,zero_add->Ia,zero_mul->vo
open List renaming all_append->Re,all_cons->xW,any_eq_false->BP,any_eq_true->aiP,append_assoc->hd,append_nil->gD,drop->jn,drop_append->sV,drop_eq_getElem_cons->iC,drop_eq_nil_of_le->mA,drop_zero->nP,ext_getElem?->pJ,findIdx_eq->ah5,findIdx_eq_length->ah6,findIdx_le_length->aiB,findIdx_map->ajk,flatten_append->RE,flatten_cons->lZ,getD_eq_getElem?_getD->ez,getElem?_append_left->oZ,getElem?_append_right->nK,getElem?_drop->rU,getElem?_eq_getElem->bB,getElem?_eq_none->iD,getElem?_eq_some_iff->eg,getElem?_inj->ah4,getElem?_map->aW,getElem?_set->mo,getElem?_zipIdx->Rw,getElem_drop->Dt,getElem_mem->nM,length->D,length_append->gj,length_cons->kB,length_drop->oi,length_map->ah,length_replicate->yC,length_set->kd,length_take->fU,length_zip->aiZ,map->oD,mapM_cons->oa,map_append->kg,map_cons->eI,map_map->pQ,map_nil->b6,map_replicate->I7,map_set->w7,mem_append->jy,mem_cons->m1,mem_cons_of_mem->h3,mem_cons_self->g0,mem_iff_getElem?->zs,mem_map->gE,mem_of_getElem?->dS,mem_of_mem_drop->L4,mem_or_eq_of_mem_set->FM,mem_singleton->ye,nil_append->ir,range->eY,replicate->en,replicate_append_replicate->ZW,replicate_succ->tN,set_append_right->z2,set_cons_succ->s9,set_cons_zero->kP,set_set->aie,take->iu,take_add_one->g2,take_append_of_le_length->DB,take_length->kN,take_of_length_le->dH,take_succ_cons->HE
open List.cons renaming injEq->bf
open Nat renaming add_sub_cancel_left->HJ,add_zero->l7,eq_zero_or_pos->k3,exists_eq_add_of_le->aiH,gcd->hg,le_refl->cI,lt_or_ge->hn,mul_one->cD,reduceEqDiff->cx,reduceLeDiff->aid,sub_self->j6,sub_zero->aiN,zero_le->fA
open Option renaming map_eq_some_iff->e6,map_some->l9
open Option.some renaming inj->pL,injEq->cO
open Prod renaming ext->ei,fst->pd
open Prod.mk renaming injEq->fJ
open Rat renaming add_zero->pr,divInt->mH,div_def->aay,inv_pos->ajo,le_refl->g8
namespace Go.Mini
open Go
def Rb:=cy rf λ(s,l,s2,aa)=>cT (D l<=1000000/\D aa<=1000000) (.same (cQ (gT (s,l) (s2,aa))))
@[go_sem] theorem aJN (s:Int)(l:List Int)(s2:Int)(aa:List Int)(H:(D l)<=1000000/\D aa<=1000000):Rb [.agg [.int .i64 s,.Y (l.map ae)],.agg [.int .i64 s2,.Y (aa.map ae)]]=some (.same (cQ (gT (s,l) (s2,aa)))):=(cF s4 (s,l,s2,aa)).trans (cY H _)
theorem auN (T:bm)(eE:T md=aO yr)(Dm:T HR=aO Q4)(uo:T Lx=aO Q8)(uq:T ET=aO Q9)(s:Int)(l:List Int)(s2:Int)(aa:List Int)(H:(D l)<=1000000/\D aa<=1000000):WP T Y2 (.same (cQ (gT (s,l) (s2,aa)))) [.I (.agg [.int .i64 s,.Y (l.map ae)]),.I (.agg [.int .i64 s2,.Y (aa.map ae)])]:=by
 refine cH ?_;simp only[Y2];obtain⟨bt,bz⟩:=H
 by_cases X:di (s,l)=true
 ·by_cases aZ:di (s2,aa)=true
  ·obtain⟨x,M,e⟩:=(ib _).1 X;obtain⟨y,ao,aA⟩:=(ib _).1 aZ
   by_cases aj:y=0
   ·have hm:gT (s,l) (s2,aa)=(c1,15):=by
     unfold gT;rw[X,aZ,aA,fe,ad (by rfl),ad aj]
    rw[hm]
    cases e
    cases aA;have Q:(y.sign==0)=true:=by rw[aj];rfl
    refine a1 ?_;repeat' (intro h<;>simp only[h,go_sem,go_sem_proc,eE,Dm,uo,uq,X,aZ,bt,bz,Q,cQ,aw,c1,b6]<;>try refine al ?_ ?_)
   ·have main:∀p q:Int,p.natAbs<dP->q.natAbs<dP->0<q->∃g:Raw,ml (bd p) (bd q)=(g,0)/\g.2.length<=1000000/\lK (bd p) g=(bd (mH p q).num,bd (p.fmod ((hg p.natAbs q.natAbs:Nat):Int)),0)/\lK (bd q) g=(bd (mH p q).den,bd (q.fmod ((hg p.natAbs q.natAbs:Nat):Int)),0):=by
     intro p q aC bF nw;have nV:=Iv aC bF;have Fw:((hg p.natAbs q.natAbs:Nat):Int).natAbs<dP:=by rw[lL];exact nV
     have yf:=XX (p:=p) (q:=q) (by omega);obtain⟨G,J⟩:=XW (p:=p) nw;refine⟨bd ((hg p.natAbs q.natAbs:Nat):Int),?_,ke Fw,?_,?_⟩
     ·unfold ml;rw[lb aC,lb bF,fe,fe];rfl
     ·rw[Br aC Fw (by omega),G]
     ·rw[Br bF Fw (by omega),J]
    have qC:(y.sign==0)=false:=by simpa using aj
    rcases Int.lt_or_gt_of_ne aj with lD|iX
    ·have hR:decide (y.sign<0)=true:=by rw[Int.sign_eq_neg_one_of_neg lD];rfl
     obtain⟨⟨dh,dC⟩,bq,nV,k8,mG⟩:=main (-x) (-y) (by omega) (by omega) (by omega)
     have hm:gT (s,l) (s2,aa)=(aq (mH (-x) (-y)),0):=by
      rw[e,aA,Bu M ao aj,Rat.neg_divInt_neg]
     rw[hm];have xL:hG (s,l)=bd (-x):=by unfold hG;rw[ad X,e,fe]
     have wk:hG (s2,aa)=bd (-y):=by unfold hG;rw[ad aZ,aA,fe]
     have Dc:s2=y.sign:=congrArg pd aA;have eU:(bd (-x)).2.length<=1000000:=ke (by omega);have fk:(bd (-y)).2.length<=1000000:=ke (by omega);clear e aA;unfold aq;generalize bd (-x)=cr at *;generalize bd (-y)=hQ at *;obtain⟨bb,b3⟩:=cr;obtain⟨nv,o4⟩:=hQ;rw[<-Dc] at qC hR;refine a1 ?_;repeat' (intro h<;>simp only[h,go_sem,go_sem_proc,eE,Dm,uo,uq,X,aZ,bt,bz,qC,hR,xL,wk,eU,fk,bq,nV,k8,mG,cQ,aw,dD,gK,bU]<;>try refine al ?_ ?_)
    ·have hR:decide (y.sign<0)=false:=by rw[Int.sign_eq_one_of_pos iX];rfl
     obtain⟨⟨dh,dC⟩,bq,nV,k8,mG⟩:=main x y M ao iX
     have hm:gT (s,l) (s2,aa)=(aq (mH x y),0):=by
      rw[e,aA,Bu M ao aj]
     rw[hm];have Dc:s2=y.sign:=congrArg pd aA;rw[<-e] at bq k8;rw[<-aA] at bq mG;rw[<-Dc] at qC hR;unfold aq;refine a1 ?_;repeat' (intro h<;>simp only[h,go_sem,go_sem_proc,eE,Dm,uo,uq,X,aZ,bt,bz,qC,hR,bq,nV,k8,mG,cQ,aw,dD,gK,bU]<;>try refine al ?_ ?_)
  ·have aZ:di (s2,aa)=false:=by simpa using aZ
   have hm:gT (s,l) (s2,aa)=(c1,1):=by unfold gT;rw[aZ,Bool.and_false];rfl
   rw[hm];refine a1 ?_;repeat' (intro h<;>simp only[h,go_sem,go_sem_proc,eE,Dm,uo,uq,X,aZ,bt,bz,cQ,aw,c1,b6]<;>try refine al ?_ ?_)
 ·have X:di (s,l)=false:=by simpa using X
  have hm:gT (s,l) (s2,aa)=(c1,1):=by unfold gT;rw[X,fr];rfl
  rw[hm];refine a1 ?_;repeat' (intro h<;>simp only[h,go_sem,go_sem_proc,eE,Dm,uo,uq,X,bt,bz,cQ,aw,c1,b6]<;>try refine al ?_ ?_)
def Dn:=cy H3 λ(p,q)=>cT (df p/\df q) (.same (cQ (gT (bd p) (bd q))))
@[go_sem] theorem auO (p:Int)(q:Int)(H:df p/\df q):Dn [.int .i64 p,.int .i64 q]=some (.same (cQ (gT (bd p) (bd q)))):=(cF P3 (p,q)).trans (cY H _)
theorem auP (T:bm)(zX:T HO=aO Q5)(Rc:T Lu=aO Rb)(p:Int)(q:Int)(H:df p/\df q):WP T Y0 (.same (cQ (gT (bd p) (bd q)))) [.I (.int .i64 p),.I (.int .i64 q)]:=by
 refine cH ?_;simp only[Y0];obtain⟨G,J⟩:=H;have dr:(bd p).2.length<=1000000:=ke (uh G);have aa:(bd q).2.length<=1000000:=ke (uh J);generalize fs:bd p=P at *;generalize fF:bd q=aU at *;obtain⟨bb,b3⟩:=P;obtain⟨nv,o4⟩:=aU;refine a1 ?_;repeat' (intro h<;>simp only[h,go_sem,go_sem_proc,zX,Rc,G,J,fs,fF,dr,aa,bU,cQ,aw]<;>try refine al ?_ ?_)
def Y9:=cy rf λ(s,l,s2,aa)=>cT (D l<=1000000/\D aa<=1000000) (.same (.bool (p0 (s,l) (s2,aa))))
@[go_sem] theorem aJO (s:Int)(l:List Int)(s2:Int)(aa:List Int)(H:(D l)<=1000000/\D aa<=1000000):Y9 [.agg [.int .i64 s,.Y (l.map ae)],.agg [.int .i64 s2,.Y (aa.map ae)]]=some (.same (.bool (p0 (s,l) (s2,aa)))):=(cF s4 (s,l,s2,aa)).trans (cY H _)
theorem auQ (T:bm)  (s:Int) (l:List Int) (s2:Int) (aa:List Int) (H:(D l)<=1000000/\D aa<=1000000):WP T Y1 (.same (.bool (p0 (s,l) (s2,aa)))) [.I (.agg [.int .i64 s,.Y (l.map ae)]),.I (.agg [.int .i64 s2,.Y (aa.map ae)])]:=by
 refine cH ?_;simp only[Y1];obtain⟨bt,bz⟩:=H
 by_cases Q:s=s2
 ·subst Q
  by_cases az:(D l)=D aa
  ·have ay:(((D l:Nat):Int)==((D aa:Nat):Int))=true:=by simp;omega
   simp only[go_sem,go_sem_proc,beq_self_eq_true,ah,ay,bT,bne];refine c9 [2,3] [142002,142003] (λ(i:Nat) tm mem=>i<=D l/\l.take i=aa.take i/\tm 5=.I (.int .i64 i)) (λi=>D l-i) 0 (by refine⟨by omega,by simp,rfl⟩) ?_;intro vs ms aK aF;simp only[go_sem,go_sem_proc,ah] at aK aF;subst aK aF;rintro i tm mem L hm ⟨U,aD,bh⟩;simp only[go_sem,go_sem_proc,bf] at L hm;obtain⟨J,af⟩:=L;obtain⟨bX,g4⟩:=hm;rcases dk (i<D l) with av|b4
   ·have M:l[i]?=some l[i]:=bB av;have ao:aa[i]?=some aa[i]:=bB (by omega);have xL:l.take (i+1)=l.take i++[l[i]]:=by rw[g2,M];rfl
    have wk:aa.take (i+1)=aa.take i++[aa[i]]:=by rw[g2,ao];rfl
    generalize l[i]=x at *;generalize aa[i]=y at *;have d1:decide ((i:Int)<(D l:Int))=true:=c5;have bl:=eu (i:=i) (by omega)
    by_cases hf:x=y
    ·subst hf;simp only[go_sem,go_sem_proc,J,af,bh,bX,g4,M,ao,d1,bl,ae,ah,aW,bf,beq_self_eq_true,bT];repeat' (first|refine al ?_ ?_|fail)<;>intro h<;>simp only[h,go_sem,go_sem_proc,J,af,bh,bX,g4,M,ao,d1,bl,ae,ah,aW,bf,beq_self_eq_true,bT]
     exact⟨i+1,by omega,by omega,by rw[xL,wk,aD],rfl⟩
    ·have b5:(x==y)=false:=by simpa using hf
     have X:p0 (s,l) (s,aa)=false:=by
      refine kY λh=>hf ?_;rw[fJ] at h;rw[h.2,ao] at M;exact (pL M).symm
     rw[X];simp only[go_sem,go_sem_proc,J,af,bh,bX,g4,M,ao,d1,bl,b5,ae,ah,aW,bf,cp];repeat' (first|refine al ?_ ?_|fail)<;>intro h<;>simp only[h,go_sem,go_sem_proc,J,af,bh,bX,g4,M,ao,d1,bl,b5,ae,ah,aW,bf,cp]
   ·have d1:decide ((i:Int)<(D l:Int))=false:=cu
    have X:p0 (s,l) (s,aa)=true:=by
     refine jw ?_;rw[dH (by omega),dH (by omega)] at aD;rw[aD]
    rw[X];simp only[go_sem,go_sem_proc,J,af,bh,bX,g4,d1,ah];repeat' (first|refine al ?_ ?_|fail)<;>intro h<;>simp only[h,go_sem,go_sem_proc,J,af,bh,bX,g4,d1,ah]
  ·have ay:(((D l:Nat):Int)==((D aa:Nat):Int))=false:=by simp;omega
   have X:p0 (s,l) (s,aa)=false:=by
    refine kY λh=>az ?_;rw[fJ] at h;rw[h.2]
   rw[X];simp only[go_sem,go_sem_proc,beq_self_eq_true,ah,ay,bT,cp,bne];repeat' (first|refine al ?_ ?_|fail)<;>intro h<;>simp only[h,go_sem,go_sem_proc,beq_self_eq_true,ah,ay,bT,cp,bne]
 ·have b5:(s==s2)=false:=by simpa using Q
  have X:p0 (s,l) (s2,aa)=false:=by
   refine kY λh=>Q ?_;rw[fJ] at h;exact h.1
  rw[X];simp only[go_sem,go_sem_proc,b5,ah,bT,cp,bne];repeat' (first|refine al ?_ ?_|fail)<;>intro h<;>simp only[h,go_sem,go_sem_proc,b5,ah,bT,cp,bne]
def FI (a b:bG):Bool:=decide (a=b)
def MF:=cy wZ λ(s,l,s2,aa,bY,bo,b7,bH)=>cT (D l<=1000000/\D aa<=1000000/\D bo<=1000000/\D bH<=1000000) (.same (.bool (FI ((s,l),(s2,aa)) ((bY,bo),(b7,bH)))))
@[go_sem] theorem ah0 (s:Int)(l:List Int)(s2:Int)(aa:List Int)(bY:Int)(bo:List Int)(b7:Int)(bH:List Int)(H:(D l)<=1000000/\D aa<=1000000/\D bo<=1000000/\D bH<=1000000):MF [.agg [.int .i64 s,.Y (l.map ae),.int .i64 s2,.Y (aa.map ae)],.agg [.int .i64 bY,.Y (bo.map ae),.int .i64 b7,.Y (bH.map ae)]]=some (.same (.bool (FI ((s,l),(s2,aa)) ((bY,bo),(b7,bH))))):=(cF zM (s,l,s2,aa,bY,bo,b7,bH)).trans (cY H _)
theorem auR (T:bm)(ah1:T PK=aO Y9)(s:Int)(l:List Int)(s2:Int)(aa:List Int)(bY:Int)(bo:List Int)(b7:Int)(bH:List Int)(H:(D l)<=1000000/\D aa<=1000000/\D bo<=1000000/\D bH<=1000000):WP T YZ (.same (.bool (FI ((s,l),(s2,aa)) ((bY,bo),(b7,bH))))) [.I (.agg [.int .i64 s,.Y (l.map ae),.int .i64 s2,.Y (aa.map ae)]),.I (.agg [.int .i64 bY,.Y (bo.map ae),.int .i64 b7,.Y (bH.map ae)])]:=by
 refine cH ?_;simp only[YZ];obtain⟨bt,bz,eU,fk⟩:=H
 have e:FI ((s,l),(s2,aa)) ((bY,bo),(b7,bH))=(p0 (s,l) (bY,bo)&&p0 (s2,aa) (b7,bH)):=by
  unfold FI p0;rw[ym,gb,decide_eq_true_eq,decide_eq_true_eq,decide_eq_true_eq,fJ]
 rw[e];rcases G:p0 (s,l) (bY,bo)
 ·refine a1 ?_;repeat' (intro h<;>simp only[h,go_sem,go_sem_proc,ah1,bt,bz,eU,fk,G,fr]<;>try refine al ?_ ?_)
 ·refine a1 ?_;repeat' (intro h<;>simp only[h,go_sem,go_sem_proc,ah1,bt,bz,eU,fk,G,fP]<;>try refine al ?_ ?_)
def Dp:=cy Db λ(s,l,s2,aa)=>cT (D l<=1000000/\D aa<=1000000) (.same (.bool (dJ ((s,l),(s2,aa)))))
@[go_sem] theorem aJP (s:Int)(l:List Int)(s2:Int)(aa:List Int)(H:(D l)<=1000000/\D aa<=1000000):Dp [.agg [.int .i64 s,.Y (l.map ae),.int .i64 s2,.Y (aa.map ae)]]=some (.same (.bool (dJ ((s,l),(s2,aa))))):=(cF Iy (s,l,s2,aa)).trans (cY H _)
theorem auS (T:bm)(eE:T md=aO yr)(uo:T Lx=aO Q8)(zX:T HO=aO Q5)(rp:T LC=aO Q7)(s:Int)(l:List Int)(s2:Int)(aa:List Int)(H:(D l)<=1000000/\D aa<=1000000):WP T Y4 (.same (.bool (dJ ((s,l),(s2,aa))))) [.I (.agg [.int .i64 s,.Y (l.map ae),.int .i64 s2,.Y (aa.map ae)])]:=by
 refine cH ?_;simp only[Y4];obtain⟨bt,bz⟩:=H
 by_cases X:di (s,l)=true
 ·by_cases aZ:di (s2,aa)=true
  ·obtain⟨x,M,e⟩:=(ib _).1 X;obtain⟨y,ao,aA⟩:=(ib _).1 aZ
   have bq:ml (s,l) (s2,aa)=(bd ((hg x.natAbs y.natAbs:Nat):Int),0):=by
    unfold ml;rw[X,aZ,e,aA,fe,fe];rfl
   have nV:=Iv M ao;have wv:hs (s,l)=x:=by rw[e,fe]
   have rV:hs (s2,aa)=y:=by rw[aA,fe]
   have iF:dJ ((s,l),(s2,aa))=((s2==1)&&(hg x.natAbs y.natAbs==1)):=by
    show (di (s,l)&&(di (s2,aa)&&((s2==1)&&(hg (hs (s,l)).natAbs (hs (s2,aa)).natAbs==1))))=_;rw[X,aZ,wv,rV];simp only[fP]
   have Dc:s2=y.sign:=congrArg pd aA;have ahb:=oz y;rw[iF];have gv:pb (bd ((hg x.natAbs y.natAbs:Nat):Int)) (bd 1)=gx ((hg x.natAbs y.natAbs:Nat):Int) 1:=Md (by rw[lL];exact nV) (uh (by unfold df;omega))
   have bS:(gx ((hg x.natAbs y.natAbs:Nat):Int) 1==0)=(hg x.natAbs y.natAbs==1):=by
    generalize hg x.natAbs y.natAbs=bD;rw[ym,beq_iff_eq,beq_iff_eq];rcases Int.lt_trichotomy (bD:Int) 1 with h|h|h
    ·rw[Bp h];omega
    ·rw[h,Iu];omega
    ·rw[Fm h];omega
   have QI:((bd ((hg x.natAbs y.natAbs:Nat):Int)).2).length<=1000000:=ke (by rw[lL];exact nV);have ob:df 1:=by unfold df;omega
   have Iw:(bd 1).2.length<=1000000:=ke (uh ob);rcases Q:decide (s2<1)
   ·have hR:(s2==1)=true:=by have:=of_decide_eq_false Q;rw[beq_iff_eq];omega
    rw[hR,fP,<-bS];generalize gx ((hg x.natAbs y.natAbs:Nat):Int) 1=C at *;generalize bd ((hg x.natAbs y.natAbs:Nat):Int)=bD at *;generalize gi:bd 1=a0 at *;obtain⟨dh,dC⟩:=bD;obtain⟨p1,p2⟩:=a0;simp only[go_sem,go_sem_proc,eE,uo,zX,rp,X,aZ,bt,bz,Q,bq,QI,ob,Iw,gv,gi,dD,bU];repeat' (first|refine al ?_ ?_|fail)<;>intro h<;>simp only[h,go_sem,go_sem_proc,eE,uo,zX,rp,X,aZ,bt,bz,Q,bq,QI,ob,Iw,gv,gi,dD,bU]
   ·have hR:(s2==1)=false:=by have:=of_decide_eq_true Q;rw[beq_eq_false_iff_ne];omega
    rw[hR,fr];simp only[go_sem,go_sem_proc,eE,uo,zX,rp,X,aZ,bt,bz,Q];repeat' (first|refine al ?_ ?_|fail)<;>intro h<;>simp only[h,go_sem,go_sem_proc,eE,uo,zX,rp,X,aZ,bt,bz,Q]
  ·have aZ:di (s2,aa)=false:=by simpa using aZ
   have iF:dJ ((s,l),(s2,aa))=false:=by unfold dJ;simp[aZ]
   rw[iF];simp only[go_sem,go_sem_proc,eE,uo,zX,rp,X,aZ,bt,bz];repeat' (first|refine al ?_ ?_|fail)<;>intro h<;>simp only[h,go_sem,go_sem_proc,eE,uo,zX,rp,X,aZ,bt,bz]
 ·have X:di (s,l)=false:=by simpa using X
  have iF:dJ ((s,l),(s2,aa))=false:=by unfold dJ;simp[X]
  rw[iF];simp only[go_sem,go_sem_proc,eE,uo,zX,rp,X,bt,bz];repeat' (first|refine al ?_ ?_|fail)<;>intro h<;>simp only[h,go_sem,go_sem_proc,eE,uo,zX,rp,X,bt,bz]
def yt (b:Bool)(p q:Raw):bG×Int:=if b=true then (c1,6) else gT p q
abbrev Za:Int×(List Int)×Int×(List Int)×Bool->List Data:=λ(s,l,s2,aa,b)=>[.agg [.int .i64 s,.Y (l.map ae)],.agg [.int .i64 s2,.Y (aa.map ae)],.bool b]
def MG:=cy Za λ(s,l,s2,aa,b)=>cT (D l<=1000000/\D aa<=1000000) (.same (cQ (yt b (s,l) (s2,aa))))
theorem auT:∀a b,Za a=Za b->a=b:=by
  rintro⟨s1,dr,Fi,Fj,c0⟩ ⟨s2,aa,Fk,Fl,et⟩ h;simp only[bf,Data.agg.injEq,Data.int.injEq,Data.Y.injEq,Data.bool.injEq] at h;exact ei h.1.1.2 (ei (map_inj hp _ _ h.1.2.1) (ei h.2.1.1.2 (ei (map_inj hp _ _ h.2.1.2.1) h.2.2.1)))
@[go_sem] theorem aJQ (s:Int)(l:List Int)(s2:Int)(aa:List Int)(b:Bool)(H:(D l)<=1000000/\D aa<=1000000):MG [.agg [.int .i64 s,.Y (l.map ae)],.agg [.int .i64 s2,.Y (aa.map ae)],.bool b]=some (.same (cQ (yt b (s,l) (s2,aa)))):=(cF auT (s,l,s2,aa,b)).trans (cY H _)
theorem auU (T:bm)(Rc:T Lu=aO Rb)(s:Int)(l:List Int)(s2:Int)(aa:List Int)(b:Bool)(H:(D l)<=1000000/\D aa<=1000000):WP T Y6 (.same (cQ (yt b (s,l) (s2,aa)))) [.I (.agg [.int .i64 s,.Y (l.map ae)]),.I (.agg [.int .i64 s2,.Y (aa.map ae)]),.I (.bool b)]:=by
 refine cH ?_;simp only[Y6];obtain⟨bt,bz⟩:=H
 cases b
 ·refine a1 ?_;repeat' (intro h<;>simp only[h,go_sem,go_sem_proc,Rc,bt,bz,yt,cQ,aw]<;>try refine al ?_ ?_)
 ·refine a1 ?_;repeat' (intro h<;>simp only[h,go_sem,go_sem_proc,Rc,bt,bz,yt,cQ,aw,c1,b6]<;>try refine al ?_ ?_)
def MH (cr hQ aU gI:Raw×Int):bG×Int:=yt (!((cr.2==0)&&((hQ.2==0)&&((aU.2==0)&&(gI.2==0))))) gI.1 aU.1
def IL (P aU:Raw×Int):bG×Int:=yt (!((P.2==0)&&(aU.2==0))) P.1 aU.1
theorem auV {a b:bG}(a4:dJ a=true)(ai:dJ b=true):h2 a b=IL (mulR a.1 b.1) (mulR a.2 b.2):=by
 unfold h2 s5 IL yt;rw[ad a4,ad ai]
 cases G:((mulR a.1 b.1).2==0)<;>cases J:((mulR a.2 b.2).2==0)<;>rfl
theorem auW {a b:bG}(a4:dJ a=true)(ai:dJ b=true):fG a b=if (b.1.1==0)=true then (c1,15) else IL (mulR a.1 b.2) (mulR a.2 b.1):=by
 unfold fG s5 IL yt;rw[ad a4,ad ai]
 cases G:((mulR a.1 b.2).2==0)<;>cases J:((mulR a.2 b.1).2==0)<;>rfl
theorem auX {a b:bG}(a4:dJ a=true)(ai:dJ b=true):vv a b=MH (mulR a.1 b.2) (mulR b.1 a.2) (mulR a.2 b.2) (lG (mulR a.1 b.2).1 (mulR b.1 a.2).1):=by
 unfold vv s5 wY MH yt;rw[ad a4,ad ai];rcases G:((mulR a.1 b.2).2==0)<;>rcases J:((mulR b.1 a.2).2==0)<;>rcases af:((mulR a.2 b.2).2==0)<;>rcases aP:((lG (mulR a.1 b.2).1 (mulR b.1 a.2).1).2==0)<;>simp_all
theorem Rd {z:Int}:((pU z).2==0)=hS z:=by
 rcases h:hS z
 ·rw[Bw h];rfl
 ·rw[w3 h];rfl
theorem auY {a b:Int}(a4:a.natAbs<dP)(ai:b.natAbs<dP):(mulR (hG (bd a)) (bd b))=pU (-(a*b)):=by
 rw[YX a4,vn (by rw[yj];exact a4) ai,Int.neg_mul]
theorem ah2 (z:Int):hS (-z)=hS z:=by unfold hS;rw[yj]
theorem auZ {a b:bG}(a4:dJ a=true)(ai:dJ b=true):kf a b=MH (mulR a.1 b.2) (mulR b.1 a.2) (mulR a.2 b.2) (w5 (mulR a.1 b.2).1 (mulR b.1 a.2).1):=by
 obtain⟨x,M,rfl⟩:=(Bt _).1 a4;obtain⟨y,ao,rfl⟩:=(Bt _).1 ai
 have au0:dJ (hG (aq y).1,(aq y).2)=true:=by
  have:(hG (aq y).1,(aq y).2)=aq (-y):=by
   unfold aq;dsimp only;rw[YX ao.1]
   rfl
  rw[this];exact yl (ahr ao)
 unfold kf;rw[ad a4,ad ai,auX a4 au0];unfold MH yt;show (if (!(((mulR (bd x.num) (bd y.den)).2==0)&&(((mulR (hG (bd y.num)) (bd x.den)).2==0)&&(((mulR (bd x.den) (bd y.den)).2==0)&&((lG (mulR (bd x.num) (bd y.den)).1 (mulR (hG (bd y.num)) (bd x.den)).1).2==0)))))=true then (c1,6) else gT (lG (mulR (bd x.num) (bd y.den)).1 (mulR (hG (bd y.num)) (bd x.den)).1).1 (mulR (bd x.den) (bd y.den)).1)=(if (!(((mulR (bd x.num) (bd y.den)).2==0)&&(((mulR (bd y.num) (bd x.den)).2==0)&&(((mulR (bd x.den) (bd y.den)).2==0)&&((w5 (mulR (bd x.num) (bd y.den)).1 (mulR (bd y.num) (bd x.den)).1).2==0)))))=true then (c1,6) else gT (w5 (mulR (bd x.num) (bd y.den)).1 (mulR (bd y.num) (bd x.den)).1).1 (mulR (bd x.den) (bd y.den)).1);rw[vn M.1 (qB ao),auY ao.1 (qB M),vn ao.1 (qB M),vn (qB M) (qB ao),Rd,Rd,Rd,Rd,ah2];rcases G:hS (x.num*y.den)
 ·rfl
 ·rcases J:hS (y.num*x.den)
  ·rfl
  ·rw[w3 G,w3 J,w3 (by rw[ah2];exact J)];dsimp only;rw[Mc (pe G) (by rw[yj];exact pe J),auJ (pe G) (pe J)]
   rfl
theorem au1 (a b:Raw):(w5 a b).1.2.length<=1000000:=by
 unfold w5
 split
 ·exact ahn _ _
 ·simp
def Dq:=cy wZ λ(s,l,s2,aa,bY,bo,b7,bH)=>cT (D l<=1000000/\D aa<=1000000/\D bo<=1000000/\D bH<=1000000) (.same (cQ (kf ((s,l),(s2,aa)) ((bY,bo),(b7,bH)))))
@[go_sem] theorem au2 (s:Int)(l:List Int)(s2:Int)(aa:List Int)(bY:Int)(bo:List Int)(b7:Int)(bH:List Int)(H:(D l)<=1000000/\D aa<=1000000/\D bo<=1000000/\D bH<=1000000):Dq [.agg [.int .i64 s,.Y (l.map ae),.int .i64 s2,.Y (aa.map ae)],.agg [.int .i64 bY,.Y (bo.map ae),.int .i64 b7,.Y (bH.map ae)]]=some (.same (cQ (kf ((s,l),(s2,aa)) ((bY,bo),(b7,bH))))):=(cF zM (s,l,s2,aa,bY,bo,b7,bH)).trans (cY H _)
theorem au3 (T:bm)(fS:T qy=aO Dp)(pj:T x1=aO ME)(FJ:T VQ=aO YY)(pk:T EX=aO MG)(s:Int)(l:List Int)(s2:Int)(aa:List Int)(bY:Int)(bo:List Int)(b7:Int)(bH:List Int)(H:(D l)<=1000000/\D aa<=1000000/\D bo<=1000000/\D bH<=1000000):WP T Y3 (.same (cQ (kf ((s,l),(s2,aa)) ((bY,bo),(b7,bH))))) [.I (.agg [.int .i64 s,.Y (l.map ae),.int .i64 s2,.Y (aa.map ae)]),.I (.agg [.int .i64 bY,.Y (bo.map ae),.int .i64 b7,.Y (bH.map ae)])]:=by
 refine cH ?_;simp only[Y3];obtain⟨bt,bz,eU,fk⟩:=H
 by_cases X:dJ ((s,l),(s2,aa))=true
 ·by_cases aZ:dJ ((bY,bo),(b7,bH))=true
  ·rw[auZ X aZ];dsimp only;have ef:=uj (s,l) (b7,bH);have bX:=uj (bY,bo) (s2,aa);have g4:=uj (s2,aa) (b7,bH);generalize lF:mulR (s,l) (b7,bH)=M1 at *;generalize fN:mulR (bY,bo) (s2,aa)=M2 at *;generalize MI:mulR (s2,aa) (b7,bH)=M3 at *;obtain⟨⟨cE,cS⟩,ay⟩:=M1;obtain⟨⟨c0,et⟩,aA⟩:=M2;obtain⟨⟨au,c2⟩,bQ⟩:=M3;dsimp only at *;have gf:=au1 (cE,cS) (c0,et);generalize Dr:w5 (cE,cS) (c0,et)=M4 at *;obtain⟨⟨d1,d2⟩,bL⟩:=M4;unfold MH;dsimp only at *;rcases G:(ay==0)
   ·refine a1 ?_;repeat' (intro h<;>simp only[h,go_sem,go_sem_proc,fS,pj,FJ,pk,bt,bz,eU,fk,X,aZ,lF,fN,MI,Dr,ef,bX,g4,gf,G,dD,bU,cQ,aw,cp,bT,bne,fr]<;>try refine al ?_ ?_)
   ·rcases J:(aA==0)
    ·refine a1 ?_;repeat' (intro h<;>simp only[h,go_sem,go_sem_proc,fS,pj,FJ,pk,bt,bz,eU,fk,X,aZ,lF,fN,MI,Dr,ef,bX,g4,gf,G,J,dD,bU,cQ,aw,cp,bT,bne,fr,fP]<;>try refine al ?_ ?_)
    ·rcases af:(bQ==0)
     ·refine a1 ?_;repeat' (intro h<;>simp only[h,go_sem,go_sem_proc,fS,pj,FJ,pk,bt,bz,eU,fk,X,aZ,lF,fN,MI,Dr,ef,bX,g4,gf,G,J,af,dD,bU,cQ,aw,cp,bT,bne,fr,fP]<;>try refine al ?_ ?_)
     ·rcases aP:(bL==0)
      ·refine a1 ?_;repeat' (intro h<;>simp only[h,go_sem,go_sem_proc,fS,pj,FJ,pk,bt,bz,eU,fk,X,aZ,lF,fN,MI,Dr,ef,bX,g4,gf,G,J,af,aP,dD,bU,cQ,aw,cp,bT,bne,fr,fP]<;>try refine al ?_ ?_)
      ·refine a1 ?_;repeat' (intro h<;>simp only[h,go_sem,go_sem_proc,fS,pj,FJ,pk,bt,bz,eU,fk,X,aZ,lF,fN,MI,Dr,ef,bX,g4,gf,G,J,af,aP,dD,bU,cQ,aw,cp,bT,bne,fr,fP]<;>try refine al ?_ ?_)
  ·have aZ:dJ ((bY,bo),(b7,bH))=false:=by simpa using aZ
   unfold kf;rw[ad X,ag (by simp[aZ])];refine a1 ?_;repeat' (intro h<;>simp only[h,go_sem,go_sem_proc,fS,pj,FJ,pk,bt,bz,eU,fk,X,aZ,cQ,aw,c1,b6]<;>try refine al ?_ ?_)
 ·have X:dJ ((s,l),(s2,aa))=false:=by simpa using X
  unfold kf;rw[ag (by simp[X])];refine a1 ?_;repeat' (intro h<;>simp only[h,go_sem,go_sem_proc,fS,pj,FJ,pk,bt,bz,eU,fk,X,cQ,aw,c1,b6]<;>try refine al ?_ ?_)
def FK:=cy wZ λ(s,l,s2,aa,bY,bo,b7,bH)=>cT (D l<=1000000/\D aa<=1000000/\D bo<=1000000/\D bH<=1000000) (.same (cQ (h2 ((s,l),(s2,aa)) ((bY,bo),(b7,bH)))))
@[go_sem] theorem au4 (s:Int)(l:List Int)(s2:Int)(aa:List Int)(bY:Int)(bo:List Int)(b7:Int)(bH:List Int)(H:(D l)<=1000000/\D aa<=1000000/\D bo<=1000000/\D bH<=1000000):FK [.agg [.int .i64 s,.Y (l.map ae),.int .i64 s2,.Y (aa.map ae)],.agg [.int .i64 bY,.Y (bo.map ae),.int .i64 b7,.Y (bH.map ae)]]=some (.same (cQ (h2 ((s,l),(s2,aa)) ((bY,bo),(b7,bH))))):=(cF zM (s,l,s2,aa,bY,bo,b7,bH)).trans (cY H _)
theorem au5 (T:bm)(fS:T qy=aO Dp)(pj:T x1=aO ME)(pk:T EX=aO MG)(s:Int)(l:List Int)(s2:Int)(aa:List Int)(bY:Int)(bo:List Int)(b7:Int)(bH:List Int)(H:(D l)<=1000000/\D aa<=1000000/\D bo<=1000000/\D bH<=1000000):WP T Y5 (.same (cQ (h2 ((s,l),(s2,aa)) ((bY,bo),(b7,bH))))) [.I (.agg [.int .i64 s,.Y (l.map ae),.int .i64 s2,.Y (aa.map ae)]),.I (.agg [.int .i64 bY,.Y (bo.map ae),.int .i64 b7,.Y (bH.map ae)])]:=by
 refine cH ?_;simp only[Y5];obtain⟨bt,bz,eU,fk⟩:=H
 by_cases X:dJ ((s,l),(s2,aa))=true
 ·by_cases aZ:dJ ((bY,bo),(b7,bH))=true
  ·rw[auV X aZ];dsimp only;have ef:=uj (s,l) (bY,bo);have bX:=uj (s2,aa) (b7,bH);generalize lF:mulR (s,l) (bY,bo)=M1 at *;generalize fN:mulR (s2,aa) (b7,bH)=M2 at *;obtain⟨⟨cE,cS⟩,ay⟩:=M1;obtain⟨⟨c0,et⟩,aA⟩:=M2;unfold IL;dsimp only at *;rcases G:(ay==0)
   ·refine a1 ?_;repeat' (intro h<;>simp only[h,go_sem,go_sem_proc,fS,pj,pk,bt,bz,eU,fk,X,aZ,lF,fN,ef,bX,G,dD,bU,cQ,aw,cp,bT,bne,fr]<;>try refine al ?_ ?_)
   ·rcases J:(aA==0)
    ·refine a1 ?_;repeat' (intro h<;>simp only[h,go_sem,go_sem_proc,fS,pj,pk,bt,bz,eU,fk,X,aZ,lF,fN,ef,bX,G,J,dD,bU,cQ,aw,cp,bT,bne,fr,fP]<;>try refine al ?_ ?_)
    ·refine a1 ?_;repeat' (intro h<;>simp only[h,go_sem,go_sem_proc,fS,pj,pk,bt,bz,eU,fk,X,aZ,lF,fN,ef,bX,G,J,dD,bU,cQ,aw,cp,bT,bne,fr,fP]<;>try refine al ?_ ?_)
  ·have aZ:dJ ((bY,bo),(b7,bH))=false:=by simpa using aZ
   unfold h2;rw[ad X,ag (by simp[aZ])];refine a1 ?_;repeat' (intro h<;>simp only[h,go_sem,go_sem_proc,fS,pj,pk,bt,bz,eU,fk,X,aZ,cQ,aw,c1,b6]<;>try refine al ?_ ?_)
 ·have X:dJ ((s,l),(s2,aa))=false:=by simpa using X
  unfold h2;rw[ag (by simp[X])];refine a1 ?_;repeat' (intro h<;>simp only[h,go_sem,go_sem_proc,fS,pj,pk,bt,bz,eU,fk,X,cQ,aw,c1,b6]<;>try refine al ?_ ?_)
def MJ:=cy wZ λ(s,l,s2,aa,bY,bo,b7,bH)=>cT (D l<=1000000/\D aa<=1000000/\D bo<=1000000/\D bH<=1000000) (.same (cQ (fG ((s,l),(s2,aa)) ((bY,bo),(b7,bH)))))
@[go_sem] theorem au6 (s:Int)(l:List Int)(s2:Int)(aa:List Int)(bY:Int)(bo:List Int)(b7:Int)(bH:List Int)(H:(D l)<=1000000/\D aa<=1000000/\D bo<=1000000/\D bH<=1000000):MJ [.agg [.int .i64 s,.Y (l.map ae),.int .i64 s2,.Y (aa.map ae)],.agg [.int .i64 bY,.Y (bo.map ae),.int .i64 b7,.Y (bH.map ae)]]=some (.same (cQ (fG ((s,l),(s2,aa)) ((bY,bo),(b7,bH))))):=(cF zM (s,l,s2,aa,bY,bo,b7,bH)).trans (cY H _)
theorem au7 (T:bm)(fS:T qy=aO Dp)(pj:T x1=aO ME)(pk:T EX=aO MG)(s:Int)(l:List Int)(s2:Int)(aa:List Int)(bY:Int)(bo:List Int)(b7:Int)(bH:List Int)(H:(D l)<=1000000/\D aa<=1000000/\D bo<=1000000/\D bH<=1000000):WP T Y7 (.same (cQ (fG ((s,l),(s2,aa)) ((bY,bo),(b7,bH))))) [.I (.agg [.int .i64 s,.Y (l.map ae),.int .i64 s2,.Y (aa.map ae)]),.I (.agg [.int .i64 bY,.Y (bo.map ae),.int .i64 b7,.Y (bH.map ae)])]:=by
 refine cH ?_;simp only[Y7];obtain⟨bt,bz,eU,fk⟩:=H
 by_cases X:dJ ((s,l),(s2,aa))=true
 ·by_cases aZ:dJ ((bY,bo),(b7,bH))=true
  ·rw[auW X aZ];dsimp only;rcases aj:(bY==0)
   ·rw[ag (by simp)];have ef:=uj (s,l) (b7,bH);have bX:=uj (s2,aa) (bY,bo);generalize lF:mulR (s,l) (b7,bH)=M1 at *;generalize fN:mulR (s2,aa) (bY,bo)=M2 at *;obtain⟨⟨cE,cS⟩,ay⟩:=M1;obtain⟨⟨c0,et⟩,aA⟩:=M2;unfold IL;dsimp only at *;rcases G:(ay==0)
    ·refine a1 ?_;repeat' (intro h<;>simp only[h,go_sem,go_sem_proc,fS,pj,pk,bt,bz,eU,fk,X,aZ,aj,lF,fN,ef,bX,G,dD,bU,cQ,aw,cp,bT,bne,fr]<;>try refine al ?_ ?_)
    ·rcases J:(aA==0)
     ·refine a1 ?_;repeat' (intro h<;>simp only[h,go_sem,go_sem_proc,fS,pj,pk,bt,bz,eU,fk,X,aZ,aj,lF,fN,ef,bX,G,J,dD,bU,cQ,aw,cp,bT,bne,fr,fP]<;>try refine al ?_ ?_)
     ·refine a1 ?_;repeat' (intro h<;>simp only[h,go_sem,go_sem_proc,fS,pj,pk,bt,bz,eU,fk,X,aZ,aj,lF,fN,ef,bX,G,J,dD,bU,cQ,aw,cp,bT,bne,fr,fP]<;>try refine al ?_ ?_)
   ·rw[ad rfl];refine a1 ?_;repeat' (intro h<;>simp only[h,go_sem,go_sem_proc,fS,pj,pk,bt,bz,eU,fk,X,aZ,aj,cQ,aw,c1,b6]<;>try refine al ?_ ?_)
  ·have aZ:dJ ((bY,bo),(b7,bH))=false:=by simpa using aZ
   unfold fG;rw[ad X,ag (by simp[aZ])];refine a1 ?_;repeat' (intro h<;>simp only[h,go_sem,go_sem_proc,fS,pj,pk,bt,bz,eU,fk,X,aZ,cQ,aw,c1,b6]<;>try refine al ?_ ?_)
 ·have X:dJ ((s,l),(s2,aa))=false:=by simpa using X
  unfold fG;rw[ag (by simp[X])];refine a1 ?_;repeat' (intro h<;>simp only[h,go_sem,go_sem_proc,fS,pj,pk,bt,bz,eU,fk,X,cQ,aw,c1,b6]<;>try refine al ?_ ?_)
def Zb:b1:=cq 7 1 [.t 2] (O [dB 1 113001 0,dd 2 false] (O [aI 3 0 1,aI 4 0 3,aG 5 1 4,a7 6 .eql 5 0,F 2 6] .ret))
def Zc:b1:=cq 41 2 [.t 4,.t 5] (O [ec 4,ba 5 0] (.seq (O [F 11 0,F 12 1,(b2 13 VM 11 12),fu 14 13] (aQ 14 (O [ec 4,ba 5 1] .ret) .skip)) (O [F 16 0,F 17 1,(ar 18 (.call VN [(.t 16),(.t 17),(.c (.I (.bool true)))])),F 15 18,a6 19 0 15,a6 20 1 15,a6 21 2 15,F 6 19,F 7 20,F 8 21] (.seq (O [F 22 8,fu 23 22] (aQ 23 (O [ec 4,ba 5 6] .ret) .skip)) (.seq (O [F 24 7,cC 25 24,a7 26 .gtr 25 0] (aQ 26 (O [ec 4,ba 5 17] .ret) .skip)) (O [ec 9] (.seq (O [ba 10 0] (.block 0 (.ghost (.nn 9 189039 4) (.loop  (.seq (O [F 27 10,F 28 1,bA 29 .lss 27 28] (aQ 29 .skip (.exit 0))) (.seq (.block 1 (.ops [F 32 9,F 33 6,F 34 10,bI 35 5 33 34,aI 36 1 35,aY 37 4 36,(ar 38 (.eL 189038 false [(Z 0),.nil,(Z 0),.nil] 4 1 [(0,4,(.t 37))])),(ar 39 (.app 189039 [(Z 0),.nil,(Z 0),.nil] 64 (.t 32) (.t 38))),F 9 39])) (.ops [F 30 10,a7 31 .add 30 1,F 10 31]))))))) (O [F 40 9,F 4 40,ba 5 0] .ret))))))))
def Zd:b1:=cq 56 2 [.t 4] (O [dd 4 false] (.seq (O [F 7 1,a7 8 .lss 7 0,F 9 8,⟨some 10,some (9,false),.b8 (.t 1)⟩,⟨some 11,some (9,false),.bin .gtr (.t 10) (.c (Z 40))⟩,c6 12 9 11,F 13 12,⟨some 14,some (13,false),.b8 (.t 0)⟩,⟨some 15,some (13,false),.len (.t 14)⟩,⟨some 16,some (13,false),.b8 (.t 1)⟩,⟨some 17,some (13,false),.bin .neq (.t 15) (.t 16)⟩,c6 18 13 17] (aQ 18 (O [dd 4 false] .ret) .skip)) (.seq (O [ba 5 0] (.block 0 (.loop  (.seq (O [F 19 5,F 20 1,bA 21 .lss 19 20] (aQ 21 .skip (.exit 0))) (.seq (.block 1 (.seq (O [F 24 0,F 25 5,bI 26 5 24 25,aI 27 0 26,aG 28 1 27,cC 29 28,F 30 1,bA 31 .neq 29 30,F 32 31,⟨some 33,some (32,false),.b8 (.t 0)⟩,⟨some 34,some (32,false),.b8 (.t 5)⟩,⟨some 35,some (32,false),.ij 5 (.t 33) (.t 34)⟩,⟨some 36,some (32,false),.dQ 1 (.t 35)⟩,⟨some 37,some (32,false),.load 4 true (.t 36)⟩,⟨some 38,some (32,false),.call qy [(.t 37)]⟩,⟨some 39,some (32,false),.un .not (.t 38)⟩,c6 40 32 39] (aQ 40 (O [dd 4 false] .ret) .skip)) (O [ba 6 0] (.block 2 (.loop  (.seq (O [F 41 6,F 42 1,bA 43 .lss 41 42] (aQ 43 .skip (.exit 2))) (.seq (.block 3 (O [F 46 0,F 47 5,bI 48 5 46 47,aI 49 0 48,aG 50 1 49,F 51 6,bI 52 4 50 51,aY 53 4 52,(dT 54 qy 53),fu 55 54] (aQ 55 (O [dd 4 false] .ret) .skip))) (.ops [F 44 6,a7 45 .add 44 1,F 6 45])))))))) (.ops [F 22 5,a7 23 .add 22 1,F 5 23])))))) (O [dd 4 true] .ret))))
def FL:b1:=cq 132 3 [.t 6,.t 7,.t 8] (O [ec 6,ec 7,dd 8 false] (O [F 20 0,(ar 21 (.oX 194021 5 VO [(.t 20)])),F 9 21] (O [ec 10] (O [ba 11 0] (.seq (O [ba 12 0] (.block 0 (.ghost (.nn 10 194050 1) (.loop  (.seq (O [F 22 12,F 23 1,bA 24 .lss 22 23] (aQ 24 .skip (.exit 0))) (.seq (.block 1 (.seq (.ghost (.move) (.ops [F 27 11,F 13 27])) (.seq (.block 2 (.loop  (.seq (O [F 28 13,F 29 1,bA 30 .lss 28 29,F 31 30,⟨some 32,some (31,true),.b8 (.t 9)⟩,⟨some 33,some (31,true),.b8 (.t 13)⟩,⟨some 34,some (31,true),.ij 5 (.t 32) (.t 33)⟩,⟨some 35,some (31,true),.dQ 0 (.t 34)⟩,⟨some 36,some (31,true),.load 1 false (.t 35)⟩,⟨some 37,some (31,true),.b8 (.t 12)⟩,⟨some 38,some (31,true),.ij 4 (.t 36) (.t 37)⟩,⟨some 39,some (31,true),.load 4 true (.t 38)⟩,⟨some 40,some (31,true),.call HN [(.t 39)]⟩,hF 41 31 40] (aQ 41 .skip (.exit 2))) (.block 3 (.ops [F 42 13,a7 43 .add 42 1,F 13 43]))))) (.seq (.seq (.ghost (.move) (.ops [F 44 13,F 45 1,bA 46 .eql 44 45])) (aQ 46 (O [F 47 10,F 48 12,(ar 49 (.eL 194049 false [(Z 0)] 1 1 [(0,1,(.t 48))])),(ar 50 (.app 194050 [(Z 0)] 8 (.t 47) (.t 49))),F 10 50] (.seq (O [F 51 2] (aQ 51 (O [F 52 9,F 53 10,F 6 52,F 7 53,dd 8 true] .ret) .skip)) (.exit 1))) .skip)) (.seq (.ghost (.move) (.ops [F 54 9,F 55 11,bI 56 5 54 55,aY 57 5 56,(ar 14 (.alloc 194014 [.nil,(Z 0),.nil,(Z 0),.nil])),aT 5 14 57])) (O [F 58 9,F 59 11,F 60 9,F 61 13,bI 62 5 60 61,aY 63 5 62,bI 64 5 58 59,aT 5 64 63] (O [F 65 9,F 66 13,aY 67 5 14,bI 68 5 65 66,aT 5 68 67] (O [F 70 9,F 71 11,bI 72 5 70 71,aY 73 5 72,F 74 1,F 75 12,(q9 76 VP 73 74 75),F 69 76,a6 77 0 69,a6 78 1 69,(ar 15 (.alloc 194015 [.nil,(Z 0),.nil,(Z 0),.nil])),aT 5 15 77,F 16 78] (.seq (.seq (.ghost (.move) (.ops [F 79 16,fu 80 79])) (aQ 80 (O [F 81 9,F 82 10,F 6 81,F 7 82,dd 8 false] .ret) .skip)) (O [F 83 9,F 84 11,aY 85 5 15,bI 86 5 83 84,aT 5 86 85] (.seq (O [ba 17 0] (.block 4 (.loop  (.seq (O [F 87 17,F 88 1,bA 89 .lss 87 88] (aQ 89 .skip (.exit 4))) (.seq (.block 5 (.seq (O [F 92 17,F 93 11,bA 94 .eql 92 93,F 95 94,⟨some 96,some (95,false),.b8 (.t 9)⟩,⟨some 97,some (95,false),.b8 (.t 17)⟩,⟨some 98,some (95,false),.ij 5 (.t 96) (.t 97)⟩,⟨some 99,some (95,false),.dQ 0 (.t 98)⟩,⟨some 100,some (95,false),.load 1 false (.t 99)⟩,⟨some 101,some (95,false),.b8 (.t 12)⟩,⟨some 102,some (95,false),.ij 4 (.t 100) (.t 101)⟩,⟨some 103,some (95,false),.load 4 true (.t 102)⟩,⟨some 104,some (95,false),.call HN [(.t 103)]⟩,c6 105 95 104] (aQ 105 (.exit 5) .skip)) (eT [F 107 9,F 108 17,bI 109 5 107 108,aY 110 5 109,F 111 9,F 112 11,bI 113 5 111 112,aY 114 5 113,F 115 1,F 116 12,(CV 117 PR 110 114 115 116),F 106 117,a6 118 0 106,a6 119 1 106,(ar 18 (.alloc 194018 [.nil,(Z 0),.nil,(Z 0),.nil])),aT 5 18 118,F 19 119] [[],[],[],[],[],[],[],[],[],[],[],[],[],[],[3,7],[],[]] (.seq (O [F 120 19,fu 121 120] (aQ 121 (O [F 122 9,F 123 10,F 6 122,F 7 123,dd 8 false] .ret) .skip)) (.ops [F 124 9,F 125 17,aY 126 5 18,bI 127 5 124 125,aT 5 127 126]))))) (.ops [F 90 17,a7 91 .add 90 1,F 17 91])))))) (.ops [F 128 11,a7 129 .add 128 1,F 11 129])))))))))))) (.ops [F 25 12,a7 26 .add 25 1,F 12 26]))))))) (O [F 130 9,F 131 10,F 6 130,F 7 131,dd 8 true] .ret))))))
def Ze:b1:=cq 28 1 [.t 2] (O [ec 2] (O [ec 3] (.seq (O [ba 4 0] (.block 0 (.ghost (.nn 3 199026 5) (.loop  (.seq (O [F 5 4,F 6 0,cC 7 6,bA 8 .lss 5 7] (aQ 8 .skip (.exit 0))) (.seq (.block 1 (.my [F 11 3,(ar 12 (.eL 199012 true [] 4 0 [])),F 13 0,F 14 4,bI 15 5 13 14,aI 16 0 15,aG 17 1 16,(ar 18 (.app 199018 [(Z 0),.nil,(Z 0),.nil] 64 (.t 12) (.t 17))),F 19 0,F 20 4,bI 21 5 19 20,aI 22 1 21,aY 23 4 22,(ar 24 (.build [.nil,(Z 0),.nil,(Z 0),.nil] [(0,1,(.t 18)),(1,4,(.t 23))])),(ar 25 (.eL 199025 true [.nil,(Z 0),.nil,(Z 0),.nil] 5 1 [(0,5,(.t 24))])),(ar 26 (.app 199026 [.nil,(Z 0),.nil,(Z 0),.nil] 88 (.t 11) (.t 25))),F 3 26] [[],[],[],[],[],[],[1],[],[],[],[],[],[1,7],[],[],[],[]])) (.ghost (.move) (.ops [F 9 4,a7 10 .add 9 1,F 4 10])))))))) (O [F 27 3,F 2 27] .ret))))
def Zf:b1:=cq 60 3 [.cell 6 5 true,.t 7] (O [dB 3 200003 0,(ar 6 (.alloc 200006 [.nil,(Z 0),.nil,(Z 0),.nil])),dd 7 false] (O [aI 15 0 3,aG 16 1 15,F 17 2,bI 18 4 16 17,aY 19 4 18,(ar 8 (.alloc 200008 [(Z 0),.nil,(Z 0),.nil])),aT 4 8 19] (O [(ar 20 (.eL 200020 true [] 4 0 [])),aI 21 0 3,aG 22 1 21,(ar 23 (.app 200023 [(Z 0),.nil,(Z 0),.nil] 64 (.t 20) (.t 22))),(ar 24 (.build [.nil,(Z 0),.nil,(Z 0),.nil] [(0,1,(.t 23))])),(ar 9 (.alloc 200009 [.nil,(Z 0),.nil,(Z 0),.nil])),aT 5 9 24] (.seq (O [ba 10 0] (.block 0 (.loop  (.seq (O [F 25 10,F 26 1,bA 27 .lss 25 26] (aQ 27 .skip (.exit 0))) (.seq (.block 1 (eT [aI 31 0 3,aG 32 1 31,F 33 10,bI 34 4 32 33,aY 35 4 34,aY 36 4 8,(b2 37 HU 35 36),F 30 37,a6 38 0 30,a6 39 1 30,(ar 11 (.alloc 200011 [(Z 0),.nil,(Z 0),.nil])),aT 4 11 38,F 12 39] [[],[],[],[],[],[],[],[],[],[],[1,4,5],[],[]] (.seq (O [F 40 12,a7 41 .neq 40 0] (aQ 41 (O [aY 42 5 9,aT 5 6 42,dd 7 false] .ret) .skip)) (.ops [aI 43 0 9,aG 44 1 43,F 45 10,aY 46 4 11,bI 47 4 44 45,aT 4 47 46])))) (.ops [F 28 10,a7 29 .add 28 1,F 10 29])))))) (O [aI 49 1 3,aY 50 4 49,aY 51 4 8,(b2 52 HU 50 51),F 48 52,a6 53 0 48,a6 54 1 48,(ar 13 (.alloc 200013 [(Z 0),.nil,(Z 0),.nil])),aT 4 13 53,F 14 54] (O [aY 55 4 13,aI 56 1 9,aT 4 56 55] (O [aY 57 5 9,F 58 14,a7 59 .eql 58 0,aT 5 6 57,F 7 59] .ret)))))))
def Zg:b1:=cq 69 4 [.cell 8 5 true,.t 9] (O [dB 4 201004 0,dB 5 201005 1,(ar 8 (.alloc 201008 [.nil,(Z 0),.nil,(Z 0),.nil])),dd 9 false] (O [aI 17 0 4,aG 18 1 17,F 19 3,bI 20 4 18 19,aY 21 4 20,(ar 10 (.alloc 201010 [(Z 0),.nil,(Z 0),.nil])),aT 4 10 21] (O [(ar 22 (.eL 201022 true [] 4 0 [])),aI 23 0 4,aG 24 1 23,(ar 25 (.app 201025 [(Z 0),.nil,(Z 0),.nil] 64 (.t 22) (.t 24))),(ar 26 (.build [.nil,(Z 0),.nil,(Z 0),.nil] [(0,1,(.t 25))])),(ar 11 (.alloc 201011 [.nil,(Z 0),.nil,(Z 0),.nil])),aT 5 11 26] (.seq (O [ba 12 0] (.block 0 (.loop  (.seq (O [F 27 12,F 28 2,bA 29 .lss 27 28] (aQ 29 .skip (.exit 0))) (.seq (.block 1 (eT [aI 33 0 4,aG 34 1 33,F 35 12,bI 36 4 34 35,aY 37 4 36,aY 38 4 10,aI 39 0 5,aG 40 1 39,F 41 12,bI 42 4 40 41,aY 43 4 42,(q9 44 PS 37 38 43),F 32 44,a6 45 0 32,a6 46 1 32,(ar 13 (.alloc 201013 [(Z 0),.nil,(Z 0),.nil])),aT 4 13 45,F 14 46] [[],[],[],[],[],[],[],[],[],[],[],[],[],[],[],[1,4,5,7,10],[],[]] (.seq (O [F 47 14,a7 48 .neq 47 0] (aQ 48 (O [aY 49 5 11,aT 5 8 49,dd 9 false] .ret) .skip)) (.ops [aI 50 0 11,aG 51 1 50,F 52 12,aY 53 4 13,bI 54 4 51 52,aT 4 54 53])))) (.ops [F 30 12,a7 31 .add 30 1,F 12 31])))))) (O [aI 56 1 4,aY 57 4 56,aY 58 4 10,aI 59 1 5,aY 60 4 59,(q9 61 PS 57 58 60),F 55 61,a6 62 0 55,a6 63 1 55,(ar 15 (.alloc 201015 [(Z 0),.nil,(Z 0),.nil])),aT 4 15 62,F 16 63] (O [aY 64 4 15,aI 65 1 11,aT 4 65 64] (O [aY 66 5 11,F 67 16,a7 68 .eql 67 0,aT 5 8 66,F 9 68] .ret)))))))
def Zh:b1:=cq 30 3 [.cell 6 4 true,.t 7] (O [dB 3 208003 0,dB 4 208004 1,dB 5 208005 2,(ar 6 (.alloc 208006 [(Z 0),.nil,(Z 0),.nil])),ba 7 0] (O [aY 13 4 4,aY 14 4 5,(b2 15 CS 13 14),F 12 15,a6 16 0 12,a6 17 1 12,(ar 8 (.alloc 208008 [(Z 0),.nil,(Z 0),.nil])),aT 4 8 16,F 9 17] (.seq (O [F 18 9,a7 19 .neq 18 0] (aQ 19 (O [(ar 20 (.build [(Z 0),.nil,(Z 0),.nil] [])),F 21 9,aT 4 6 20,F 7 21] .ret) .skip)) (O [aY 23 4 3,aY 24 4 8,(b2 25 x0 23 24),F 22 25,a6 26 0 22,a6 27 1 22,(ar 10 (.alloc 208010 [(Z 0),.nil,(Z 0),.nil])),aT 4 10 26,F 11 27] (O [aY 28 4 10,F 29 11,aT 4 6 28,F 7 29] .ret)))))
def MK:=cy Db λ(s,l,s2,aa)=>some (.same (.bool (s==0)))
@[go_sem] theorem aJR (s:Int)(l:List Int)(s2:Int)(aa:List Int):MK [.agg [.int .i64 s,.Y (l.map ae),.int .i64 s2,.Y (aa.map ae)]]=some (.same (.bool (s==0))):=cF Iy (s,l,s2,aa)
theorem au8 (T:bm)  (s:Int) (l:List Int) (s2:Int) (aa:List Int):WP T Zb (.same (.bool (s==0))) [.I (.agg [.int .i64 s,.Y (l.map ae),.int .i64 s2,.Y (aa.map ae)])]:=by
 refine cH ?_;simp only[Zb];refine a1 ?_;repeat' (intro h<;>simp only[h,go_sem,go_sem_proc,ah]<;>try refine al ?_ ?_)
theorem IM {α:Type}{p:α->Bool}{l:List α}{i:Nat}{x:α}(M:l[i]?=some x):(l.take (i+1)).all p=((l.take i).all p&&p x):=by
 rw[g2,M,Re];simp
theorem Rf {α:Type}{p:α->Bool}{l:List α}{i:Nat}{x:α}(M:l[i]?=some x)(h:p x=false):l.all p=false:=by
 rw[List.all_eq_false];exact⟨x,dS M,by simp[h]⟩
end Go.Mini
namespace Go.Mini
open Go
variable {P:Program} {A:Nat->Prop} {w aV:World} {B bR:ft} {mem mem':Mem}
structure mJ (P:Program) (f:FuncId) (kz:List R->Mem->Option hY):Prop where
 real:Real P f
 run:∀args mem q0,kz args mem=some q0->∀A w B vs,gk A w B mem->dR w (cU A B) B args vs->UK P f vs A w B mem q0
def qG (res:List pF)(bV:R->Mem->Prop):eF->bg->Prop
 |.exit _,_=>False
 |.normal,st=>∃m,qW st res=some m/\bV m st.mem
 |.ret,st=>∃m,qW st res=some m/\bV m st.mem
@[go_sem] theorem aJS {res:List pF}{st:bg}(bV:R->Mem->Prop)(id:Nat):qG res bV (.exit id) st=False:=bN
@[go_sem] theorem aJT {res:List pF}{st:bg}(bV:R->Mem->Prop):qG res bV .normal st=∃m,qW st res=some m/\bV m st.mem:=bN
@[go_sem] theorem aJU {res:List pF}{st:bg}(bV:R->Mem->Prop):qG res bV .ret st=∃m,qW st res=some m/\bV m st.mem:=bN
theorem Zi {mf:b1}{bV:R->Mem->Prop}{e:eF}{st:bg}(h:qG mf.res bV e st):U2 mf bV e st:=by
 cases e with
 |exit id=>exact h
 |normal=>exact h
 |ret=>exact h
theorem Zj {kb : Nat}{own : List Nat}{f : FuncId}{fn : Func}{mf : b1}(aD : P.funcs[f]? = some fn)(u5 : (fn.name == "runtime.NumGoroutine") = false)(bc : tI P kb own fn = some mf): Real P f := by
 cases ai:fn.body with
 |none=>simp[tI,ai] at bc
 |some c=>exact⟨fn,c,aD,ai,u5⟩
def vA (aU:List R->Mem->Option (R->Mem->Prop))(args:List R)(mem:Mem):Option hY:=(aU args mem).map .rel
@[go_sem] theorem aJV (aU:List R->Mem->Option (R->Mem->Prop))(args:List R)(mem:Mem):vA aU args mem=(aU args mem).map .rel:=bN
theorem Rg {T : bm}{kb : Nat}{own : List Nat}(dy : rY P T)(hm : P.follows .mixedOrders = true){f : FuncId}{fn : Func}{mf : b1}(aD : P.funcs[f]? = some fn)(u5 : (fn.name == "runtime.NumGoroutine") = false)(bc : tI P kb own fn = some { mf with body := erase mf.body })
  {aU:List R->Mem->Option (R->Mem->Prop)} (h:∀args mem bV,aU args mem=some bV->(D args)<=mf.n/\wp T mf.body (qG mf.res bV) ⟨l1 args,mem⟩):mJ P f (vA aU):=by
 refine⟨Zj aD u5 bc,λargs mem q0 gQ A w B vs cw aN=>?_⟩;unfold vA at gQ;rw[e6] at gQ;obtain⟨bV,iF,rfl⟩:=gQ;obtain⟨hlen,A4⟩:=h args mem bV iF;refine Calls.mono (Lh (Post:=bV) dy hm aD bc hlen (λe st L=>Zi L) A4 cw aN) λe aV he=>?_;obtain⟨v,m,mem',bR,rfl,Q,tK,aC⟩:=he;exact⟨v,m,mem',bR,rfl,Q,tK,aC⟩
inductive ur (dI:Key->Prop):R->Prop
 |I {d:Data}:ur dI (.I d)
 |nil:ur dI .nil
 |ref {k g sz off len:Nat} (h:¬ dI k):ur dI (.ref k g sz off len)
 |ptr {k g off:Nat} (h:¬ dI k):ur dI (.ptr k g off)
 |gX {f:FuncId} {gW:List R} (h:∀(i:Nat) (m:R),gW[i]?=some m->ur dI m):ur dI (.gX f gW)
 |agg {cs:List R} (h:∀(i:Nat) (m:R),cs[i]?=some m->ur dI m):ur dI (.agg cs)
 |cB {cs:List R} (h:∀(i:Nat) (m:R),cs[i]?=some m->ur dI m):ur dI (.cB cs)
 |no:ur dI .no
 |undef:ur dI .undef
theorem clean_of {dI:Key->Prop}{a0:Nat->Prop}(zY:∀k,dI k->B k=none){m:R}{v:Value}(h:bO w a0 B m v):ur dI m:=by
 induction h with
 |I h=>exact .I
 |nil=>exact .nil
 |ref he bq aN=>exact .ref λax=>by rw[zY _ ax] at he;cases he
 |ptr he bq aN=>exact .ptr λax=>by rw[zY _ ax] at he;cases he
 |gX az ab aH=>exact .gX λi m U=>aH i m _ U (bB (by have av:=(eg.1 U).1;omega))
 |agg az ab aH=>exact .agg λi m U=>aH i m _ U (bB (by have av:=(eg.1 U).1;omega))
 |cB az ab aH=>exact .cB λi m U=>aH i m _ U (bB (by have av:=(eg.1 U).1;omega))
 |no=>exact .no
 |undef=>exact .undef
open Classical in
def vB (dI:Key->Prop)(B:ft):ft:=λk=>if dI k then none else B k
theorem IP {dI:Key->Prop}{b:Nat}(h:tD (vB dI B) b):tD B b:=by
 obtain⟨k,e,he,ai⟩:=h;unfold vB at he
 split at he
 ·cases he
 ·exact⟨k,e,he,ai⟩
theorem au9 {dI:Key->Prop}{m:R}{v:Value}(h:bO w (cU A B) B m v)(H:ur dI m):bO w (cU A (vB dI B)) (vB dI B) m v:=by
 have at_:∀{k:Key} {e:nk},¬ dI k->B k=some e->vB dI B k=some e:=λL he=>by unfold vB;rw[ag L];exact he
 induction h with
 |I h=>exact .I (h.less λb ai=>ai.imp IP id)
 |nil=>exact .nil
 |ref he bq aN=>cases H with|ref L=>exact .ref (at_ L he) bq aN
 |ptr he bq aN=>cases H with|ptr L=>exact .ptr (at_ L he) bq aN
 |gX az ab aH=>cases H with|gX H=>exact .gX az λi d v U aN=>aH i d v U aN (H i d U)
 |agg az ab aH=>cases H with|agg H=>exact .agg az λi d v U aN=>aH i d v U aN (H i d U)
 |cB az ab aH=>cases H with|cB H=>exact .cB az λi d v U aN=>aH i d v U aN (H i d U)
 |no=>exact .no
 |undef=>exact .undef
theorem fm.drop {dI:Key->Prop}{Rh:Mem}(aj:gk A w B mem)(zY:∀k,dI k->mem k=none)(h:fm A w B aV bR mem')(G:∀k,dI k->Rh k=none)(J:∀k,¬ dI k->Rh k=mem' k)
  (H:∀k g cs,Rh k=some (g,cs)->∀m∈cs,(∃d,m=.I d)\/∃ej r0 uZ,mem ej=some (r0,uZ)/\m∈uZ):fm A w B aV (vB dI bR) Rh:=by
 have jK:∀k,dI k->B k=none:=λk L=>aj.Cl k (zY k L);have at_:∀{k:Key},¬ dI k->vB dI bR k=bR k:=λL=>by unfold vB;rw[ag L]
 have Zk:∀{k:Key},dI k->vB dI bR k=none:=λL=>by unfold vB;rw[ad L]
 refine⟨⟨λk L=>?_,λk k' e e' b he gY ai nq=>?_,λb a4 bS=>h.e0.sep b a4 (IP bS),h.e0.lt,λk g cs L=>?_⟩,⟨h.n8.size,λb ai bS=>?_,λk e he=>?_⟩,h.aE,λb ai=>h.fresh b (IP ai)⟩
 ·by_cases ax:dI k
  ·exact Zk ax
  ·rw[at_ ax];exact h.e0.Cl k (by rw[<-J k ax];exact L)
 ·by_cases ax:dI k
  ·rw[Zk ax] at he;cases he
  ·by_cases wq:dI k'
   ·rw[Zk wq] at gY;cases gY
   ·rw[at_ ax] at he;rw[at_ wq] at gY;exact h.e0.inj k k' e e' b he gY ai nq
 ·by_cases ax:dI k
  ·rw[G k ax] at L;cases L
  ·obtain⟨e,he,bq,aM,ai⟩:=h.e0.ek k g cs (by rw[<-J k ax];exact L);refine⟨e,by rw[at_ ax];exact he,bq,aM,λb lu=>?_⟩
   obtain⟨vs,T,aX,a2,hle,X⟩:=ai b lu;refine⟨vs,T,aX,a2,hle,λi m U=>?_⟩;obtain⟨v,aN,Es⟩:=X i m U;refine⟨v,aN,au9 Es ?_⟩;rcases H k g cs L m (dS U) with ⟨d,rfl⟩|⟨ej,r0,uZ,qY,ia⟩
   ·exact .I
   ·obtain⟨bu,Ld,yf,mW,uc⟩:=aj.ek ej r0 uZ qY
    cases H9:bu.ek with
    |none=>rw[mW H9] at ia;cases ia
    |some tV =>
     obtain⟨aJW,aJX,_,_,_,iw⟩:=uc tV H9;obtain⟨i0,tZ⟩:=zs.1 ia;obtain⟨v0,_,ava⟩:=iw i0 m tZ;exact clean_of jK ava
 ·obtain⟨af,aP⟩:=h.n8.Kr b ai bS;exact⟨af,λM=>aP (IP M)⟩
 ·have ax:¬ dI k:=λax=>by rw[jK k ax] at he;cases he
  rw[at_ ax];exact h.n8.key k e he
def Ds (bZ:List R->Mem->Option (Data×Key×Nat×Nat×Data))(args:List R)(mem:Mem):Option hY:=(bZ args mem).map λx => .dW x.1 x.2.1 x.2.2.1 x.2.2.2.1 (.I x.2.2.2.2)
@[go_sem] theorem aJY (bZ:List R->Mem->Option (Data×Key×Nat×Nat×Data))(args:List R)(mem:Mem):Ds bZ args mem=(bZ args mem).map λx => .dW x.1 x.2.1 x.2.2.1 x.2.2.2.1 (.I x.2.2.2.2):=bN
theorem avb {T : bm}{kb : Nat}{own : List Nat}(dy : rY P T)(hm : P.follows .mixedOrders = true){f : FuncId}{fn : Func}{mf : b1}(aD : P.funcs[f]? = some fn)(u5 : (fn.name == "runtime.NumGoroutine") = false)(bc : tI P kb own fn = some { mf with body := erase mf.body })
  (dI:Key->Prop) {bZ:List R->Mem->Option (Data×Key×Nat×Nat×Data)}
  (h:∀args mem r k g i d,bZ args mem=some (r,k,g,i,d)->(D args)<=mf.n/\(∀j,dI j->mem j=none)/\¬ dI k/\(∃cs,mem k=some (g,cs)) /\
   wp T mf.body (qG mf.res λm mem'=>dx 6 emp m=some r/\∀j,¬ dI j->mem' j=a5 mem k g ((sI mem k).set i (.I d)) j) ⟨l1 args,mem⟩):mJ P f (Ds bZ):=by
 refine⟨Zj aD u5 bc,λargs mem q0 gQ A w B vs cw aN=>?_⟩;unfold Ds at gQ;rw[e6] at gQ;obtain⟨⟨r,k,g,i,d⟩,oC,rfl⟩:=gQ;obtain⟨hlen,zY,L,⟨cs,kq⟩,A4⟩:=h args mem r k g i d oC;refine Calls.mono (Lh (Post:=λm mem'=>dx 6 emp m=some r/\∀j,¬ dI j->mem' j=a5 mem k g ((sI mem k).set i (.I d)) j) dy hm aD bc hlen (λe st L=>Zi L) A4 cw aN) λe aV he=>?_;obtain⟨v,m,mem',bR,rfl,Q,tK,ab,ia⟩:=he;refine⟨v,vB dI bR,rfl,Q.drop cw zY (λj ax=>?_) (λj ax=>(ia j ax).symm) ?_,.I ((U3 6 m v r ab tK).less λb ai=>ai.imp IP id)⟩
 ·have:j≠k:=λe=>L (e ▸ ax);simp only[a5,this,if_false];exact zY j ax
 ·intro dN dC u1 J m o9
  by_cases jJ:dN=k
  ·subst jJ;simp only[a5,if_true,cO,fJ] at J;obtain⟨-,rfl⟩:=J;rcases FM o9 with M|rfl
   ·refine .inr ⟨dN,g,cs,kq,?_⟩
    simpa [sI,kq] using M
   ·exact .inl ⟨d,rfl⟩
  ·simp only[a5,jJ,if_false] at J;exact .inr ⟨dN,dC,u1,J,o9⟩
def Zl:Option hY->Option hY->Option hY
 |some x,_=>some x
 |none,e=>e
@[go_sem] theorem aJZ (x:hY)(e:Option hY):Zl (some x) e=some x:=bN
@[go_sem] theorem aJ0 (e:Option hY):Zl none e=e:=bN
def yu (mZ:FuncId->Option (List Data->Option eM))(uu:FuncId->Option (List R->Mem->Option hY)):bm:=λf args mem=>match uu f with
 |some kz=>Zl (kz args mem) (CH mZ f args mem)
 |none=>CH mZ f args mem
theorem sf {mZ:FuncId->Option (List Data->Option eM)}{uu:FuncId->Option (List R->Mem->Option hY)}(h:∀f aR,mZ f=some aR->r1 P f aR)(X:∀f kz,uu f=some kz->mJ P f kz):rY P (yu mZ uu):=by
 intro f args mem q0 dy;unfold yu at dy
 split at dy
 ·rename_i kz gQ;have Q:=X f kz gQ
  cases M:kz args mem with
  |none =>
   rw[M] at dy;exact afH h f args mem q0 dy
  |some y =>
   rw[M] at dy
   cases dy;exact⟨Q.real,λA w B vs cw aN=>Q.run args mem q0 M A w B vs cw aN⟩
 ·exact afH h f args mem q0 dy
theorem Lq.ah3 {f:FuncId}{bD:List R->Mem->Option (R×Mem)}(h:Lq P f bD):mJ P f (CM bD):=by
 refine⟨h.real,λargs mem q0 gQ A w B vs cw aN=>?_⟩;unfold CM at gQ;rw[e6] at gQ;obtain⟨x,M,rfl⟩:=gQ;exact h.run args mem x M A w B vs cw aN
section
variable {mZ:FuncId->Option (List Data->Option eM)} {uu:FuncId->Option (List R->Mem->Option hY)} {f:FuncId}
theorem kA {aR:List Data->Option eM}(h:uu f=none)(cv:mZ f=some aR):yu mZ uu f=aO aR:=by
 funext args mem
 unfold yu;rw[h];exact congrFun (congrFun (afK cv) args) mem
theorem w6 {kz:List R->Mem->Option hY}(h:uu f=some kz)(cv:mZ f=none):yu mZ uu f=kz:=by
 funext args mem
 unfold yu CH;rw[h,cv];dsimp only
 cases kz args mem<;>rfl
theorem IQ {aR:List Data->Option eM}{bD:List R->Mem->Option (R×Mem)}(h:uu f=some (CM bD))(cv:mZ f=some aR):yu mZ uu f=A7 aR bD:=by
 funext args mem
 unfold yu;rw[h];unfold A7 CM;rw[show CH mZ f args mem=aO aR args mem from congrFun (congrFun (afK cv) args) mem];dsimp only
 cases bD args mem<;>rfl
end
def Ri (l:List (FuncId×(List R->Mem->Option hY))):FuncId->Option (List R->Mem->Option hY):=λf=>(l.find? λp=>p.1==f).map (·.2)
theorem sg {l:List (FuncId×(List R->Mem->Option hY))}(h:∀p∈l,mJ P p.1 p.2):∀f bD,Ri l f=some bD->mJ P f bD:=by
 intro f aR aD;unfold Ri at aD;rw[e6] at aD;obtain⟨p,aC,rfl⟩:=aD;have G:=List.mem_of_find?_eq_some aC;have J:=List.find?_some aC;have af:p.1=f:=by simpa using J
 exact af ▸ h p G
theorem mK:∀p∈([]:List (FuncId×(List R->Mem->Option hY))),mJ P p.1 p.2:=by simp
theorem qH {f:FuncId}{aR:List R->Mem->Option hY}{l:List (FuncId×(List R->Mem->Option hY))}(h:mJ P f aR)(az:∀p∈l,mJ P p.1 p.2):∀p∈(f,aR)::l,mJ P p.1 p.2:=by
 intro p aC;rcases m1.1 aC with rfl|aC
 ·exact h
 ·exact az p aC
open Classical in
def zZ {α:Type}(bp:α->List R->Mem->Prop)(bV:α->Mem->R->Mem->Prop):List R->Mem->Option (R->Mem->Prop):=λargs mem=>if h:∃a,bp a args mem then some (bV (Classical.choose h) mem) else none
theorem avc {α:Type}{bp:α->List R->Mem->Prop}{bV:α->Mem->R->Mem->Prop}(uniq:∀a b args mem,bp a args mem->bp b args mem->a=b){a:α}{args:List R}{mem:Mem}(h:bp a args mem):zZ bp bV args mem=some (bV a mem):=by
 have M:∃b,bp b args mem:=⟨a,h⟩;unfold zZ;rw[dif_pos M,uniq _ _ _ _ (r2 M) h]
theorem Rj {α:Type}{bp:α->List R->Mem->Prop}{bV:α->Mem->R->Mem->Prop}{args:List R}{mem:Mem}{x:R->Mem->Prop}(h:zZ bp bV args mem=some x):∃a,bp a args mem/\x=bV a mem:=by
 unfold zZ at h
 split at h
 ·rename_i M;exact⟨_,r2 M,(pL h).symm⟩
 ·cases h
end Go.Mini
namespace Go.Mini
open Go
def Rk:=cy Db λ(s,l,s2,aa)=>some (.same (.bool (s==0)))
@[go_sem] theorem aJ1 (s:Int)(l:List Int)(s2:Int)(aa:List Int):Rk [.agg [.int .i64 s,.Y (l.map ae),.int .i64 s2,.Y (aa.map ae)]]=some (.same (.bool (s==0))):=cF Iy (s,l,s2,aa)
theorem FN (T:bm)  (s:Int) (l:List Int) (s2:Int) (aa:List Int):WP T Ya (.same (.bool (s==0))) [.I (.agg [.int .i64 s,.Y (l.map ae),.int .i64 s2,.Y (aa.map ae)])]:=by
 refine cH ?_;simp only[Ya];refine a1 ?_;repeat' (intro h<;>simp only[h,go_sem,go_sem_proc]<;>try refine al ?_ ?_)
def BH (args:List R)(mem:Mem):Option (Data×Key×Nat×Nat×Data) :=
 match args with
 | [.ptr k g 0,.I (.agg [.int .i64 s,.Y l,.int .i64 s2,.Y aa]),.I (.int .i64 e)]=>match mem k,mem 168004,mem 168006 with
  |some (ea,[_,_,.I (.bool c)]),none,none=>if ea=g/\k≠168004/\k≠168006 then some (.agg [.int .i64 s,.Y l,.int .i64 s2,.Y aa],k,g,2,.bool (c||e != 0)) else none
  |_,_,_=>none
 |_=>none
def Rl (j:Key):Prop:=j=168004\/j=168006
theorem avd (T:bm)(args:List R)(mem:Mem)(r:Data)(k g i:Nat)(d:Data)(h:BH args mem=some (r,k,g,i,d)):
  (D args)<=19/\(∀j,Rl j->mem j=none)/\¬ Rl k/\(∃cs,mem k=some (g,cs)) /\
   wp T QP.body (qG QP.res λm mem'=>dx 6 emp m=some r/\∀j,¬ Rl j->mem' j=a5 mem k g ((sI mem k).set i (.I d)) j) ⟨l1 args,mem⟩:=by
 unfold BH at h
 split at h
 ·rename_i ej r0 s l s2 aa e
  split at h
  ·rename_i dh a b c hm aP bK
   split at h
   ·rename_i bq;obtain⟨rfl,si,ML⟩:=bq;simp only[cO,fJ] at h;obtain⟨rfl,rfl,rfl,rfl,rfl⟩:=h;refine⟨by simp,?_,?_,⟨_,hm⟩,?_⟩
    ·rintro j (rfl|rfl)
     ·exact aP
     ·exact bK
    ·rintro (h|h)
     ·exact si h
     ·exact ML h
    ·have jD:∀x:Bool,sI mem ej=[a,b,.I (.bool c)]:=λ_=>by simp only[sI,hm]
     have Rm:(ej=168004)=False:=eq_false si;have Rn:(ej=168006)=False:=eq_false ML;have Ro:(168004=ej)=False:=eq_false (Ne.symm si);have Rp:(168006=ej)=False:=eq_false (Ne.symm ML);refine tQ ?_;simp only[QP]
     cases c
     ·simp only[go_sem,go_sem_proc,hm,aP,bK,Rm,Rn,Ro,Rp];repeat' (first|refine al ?_ ?_|fail)<;>intro h<;>simp only[h,go_sem,go_sem_proc,hm,aP,bK,Rm,Rn,Ro,Rp]
      refine⟨_,rfl,by first|rfl|simp[go_sem,dx],λj ax=>?_⟩
      have BI:j≠168004:=λh=>ax (.inl h);have z0:j≠168006:=λh=>ax (.inr h)
      by_cases ga:j=ej<;>simp[a5,sI,hm,BI,z0,ga,si,ML,bne]
     ·simp only[go_sem,go_sem_proc,hm,aP,bK,Rm,Rn,Ro,Rp];repeat' (first|refine al ?_ ?_|fail)<;>intro h<;>simp only[h,go_sem,go_sem_proc,hm,aP,bK,Rm,Rn,Ro,Rp]
      refine⟨_,rfl,by first|rfl|simp[go_sem,dx],λj ax=>?_⟩
      have BI:j≠168004:=λh=>ax (.inl h);have z0:j≠168006:=λh=>ax (.inr h)
      by_cases ga:j=ej<;>simp[a5,sI,hm,BI,z0,ga,si,ML,bne]
   ·cases h
  ·cases h
 ·cases h
abbrev dE:=Nat×Nat×List bG
def refsOf (N:Nat)(rows:List dE):List R:=rows.map λx => .ref (x.1+900000) x.2.1 4 0 (N+1)
structure BJ (go N:Nat) (rows:List dE) (bad:Bool) (mem:Mem):Prop where
 m:mem 129015=some (0,[.ref 129035 go 1 0 N,.I (.int .i64 N),.I (.bool bad)])
 o:mem 129035=some (go,refsOf N rows)
 r:∀x∈rows,mem (x.1+900000)=some (x.2.1,aS aw x.2.2)
structure kO (N:Nat) (rows:List dE):Prop where
 len:(D rows)=N
 Rq:(rows.map (·.1)).Nodup
 row:∀x∈rows,x.2.2.length=N+1/\∀f∈x.2.2,okF f
def IU (k:Nat):Prop:=k<900000/\k≠129015/\k≠129035/\k≠148008/\k≠148010/\k≠148013
def lh (eh:Mem)(go N:Nat)(rows:List dE)(bad:Bool)(mem:Mem):Prop:=BJ go N rows bad mem/\∀k,IU k->mem k=eh k
section
variable {eh mem:Mem} {go N:Nat} {rows:List dE} {m6:Bool}
theorem lh.flag (b:Bool)(h:lh eh go N rows m6 mem):lh eh go N rows b (a5 mem 129015 0 [.ref 129035 go 1 0 N,.I (.int .i64 N),.I (.bool b)]):=by
 refine⟨⟨by simp[a5],by simp[a5,h.1.o],λx M=>?_⟩,λk L=>?_⟩
 ·rw[<-h.1.r x M];exact ag (show ¬ ((x.1+900000:Nat)=129015) by omega)
 ·rw[<-h.2 k L];exact ag L.2.1
theorem lh.own {k g:Nat}{cs:List R}(L:k=148008\/k=148010\/k=148013)(h:lh eh go N rows m6 mem):lh eh go N rows m6 (a5 mem k g cs):=by
 have b5:∀j:Nat,j≠k->a5 mem k g cs j=mem j:=λj ax=>ag ax;refine⟨⟨by rw[b5 _ (by omega)];exact h.1.m,by rw[b5 _ (by omega)];exact h.1.o,λx M=>by rw[b5 _ (by omega)];exact h.1.r x M⟩,λj ax=>?_⟩
 have:=ax.2;rw[b5 _ (by omega)];exact h.2 j ax
theorem lh.set {i:Nat}{x:dE}(cR:kO N rows)(U:rows[i]?=some x)(l:List bG)(h:lh eh go N rows m6 mem):lh eh go N (rows.set i (x.1,x.2.1,l)) m6 (a5 mem (x.1+900000) x.2.1 (aS aw l)):=by
 have b5:∀j:Nat,j≠x.1+900000->a5 mem (x.1+900000) x.2.1 (aS aw l) j=mem j:=λj ax=>ag ax;obtain⟨av,Zm⟩:=eg.1 U;refine⟨⟨by rw[b5 _ (by omega)];exact h.1.m,?_,λy ao=>?_⟩,λj ax=>?_⟩
 ·rw[b5 _ (by omega),h.1.o]
  congr 2
  unfold refsOf;apply pJ;intro j;rw[aW,aW,mo]
  by_cases nu:i=j
  ·subst nu;rw[ad rfl,ad av,U]
   rfl
  ·rw[ag nu]
 ·obtain⟨j,ax⟩:=zs.1 ao;rw[mo] at ax
  by_cases nu:i=j
  ·subst nu;rw[ad rfl,ad av] at ax
   cases ax;simp[a5]
  ·rw[ag nu] at ax
   have aJ2:y.1≠x.1:=by
    intro he;have G:(rows.map (·.1))[j]?=some y.1:=by rw[aW,ax];rfl
    have J:(rows.map (·.1))[i]?=some y.1:=by rw[aW,U,he];rfl
    have az:i<(rows.map (·.1)).length:=by rw[ah];exact av
    exact nu ((ah4 az cR.Rq).1 (J.trans G.symm))
   rw[b5 (y.1+900000) (by omega)];exact h.1.r y (dS ax)
 ·have:=ax.1;rw[b5 j (by omega)];exact h.2 j ax
theorem lh.swap {i j:Nat}{a b:dE}(U:rows[i]?=some a)(ax:rows[j]?=some b)(h:lh eh go N rows m6 mem):lh eh go N ((rows.set i b).set j a) m6 (a5 (a5 mem 129035 go (refsOf N (rows.set i b))) 129035 go (refsOf N ((rows.set i b).set j a))):=by
 have b5:∀k:Nat,k≠129035->a5 (a5 mem 129035 go (refsOf N (rows.set i b))) 129035 go (refsOf N ((rows.set i b).set j a)) k=mem k:=λk L=>by simp[a5,L]
 refine⟨⟨by rw[b5 _ (by omega)];exact h.1.m,by simp[a5],λx M=>?_⟩,λk L=>?_⟩
 ·rw[b5 _ (by omega)];apply h.1.r;rcases FM M with M|rfl
  ·rcases FM M with M|rfl
   ·exact M
   ·exact dS ax
  ·exact dS U
 ·rw[b5 _ L.2.2.1];exact h.2 k L
theorem kO.set {i:Nat}{x:dE}(cR:kO N rows)(U:rows[i]?=some x){l:List bG}(az:(D l)=N+1)(aD:∀f∈l,okF f):kO N (rows.set i (x.1,x.2.1,l)):=by
 obtain⟨av,Zm⟩:=eg.1 U;refine⟨by rw[kd];exact cR.len,?_,λy ao=>?_⟩
 ·have:(rows.set i (x.1,x.2.1,l)).map (·.1)=rows.map (·.1):=by
   rw[w7];apply pJ;intro j;rw[mo]
   by_cases nu:i=j
   ·subst nu;rw[ad rfl,ah,ad av,aW,U];rfl
   ·rw[ag nu]
  rw[this];exact cR.Rq
 ·rcases FM ao with ao|rfl
  ·exact cR.row y ao
  ·exact⟨az,aD⟩
theorem ave {α:Type}{l:List α}{i j:Nat}{a b:α}(U:l[i]?=some a)(ax:l[j]?=some b)(h:l.Nodup):((l.set i b).set j a).Nodup:=by
 obtain⟨ld,uv⟩:=eg.1 U;obtain⟨l2,Pa⟩:=eg.1 ax
 have main:∀p q,p<q->q<(D l)->((l.set i b).set j a)[p]?≠((l.set i b).set j a)[q]?:=by
  intro p q Rr bF;rw[mo,mo,mo,mo];have inj:∀p q,p<(D l)->l[p]?=l[q]?->p=q:=λp q aC he=>(ah4 aC h).1 he;simp only[kd]
  by_cases G:j=p
  ·subst G;have J:¬ j=q:=by omega
   rw[ad rfl,ad l2,ag J]
   by_cases af:i=q
   ·subst af;rw[ad rfl,ad ld];intro he;rw[<-U,<-ax] at he;have:=inj _ _ ld he;omega
   ·rw[ag af,<-U];intro he;exact af (inj _ _ ld he)
  ·rw[ag G]
   by_cases af:i=p
   ·subst af;rw[ad rfl,ad ld]
    by_cases J:j=q
    ·subst J;rw[ad rfl,ad l2,<-U,<-ax];intro he;have:=inj _ _ l2 he;omega
    ·rw[ag J,ag (by omega),<-ax];intro he;exact J (inj _ _ l2 he)
   ·rw[ag af]
    by_cases J:j=q
    ·subst J;rw[ad rfl,ad l2,<-U];intro he;exact af (inj _ _ ld he.symm)
    ·rw[ag J]
     by_cases aP:i=q
     ·subst aP;rw[ad rfl,ad ld,<-ax];intro he;exact G (inj _ _ l2 he.symm)
     ·rw[ag aP];intro he;have:=inj _ _ (by omega) he;omega
 refine List.pairwise_iff_getElem.2 λp q aC bF Rr he=>?_;simp only[kd] at aC bF;refine main p q Rr bF ?_;rw[bB (by simpa using aC),bB (by simpa using bF),he]
theorem kO.swap {i j:Nat}{a b:dE}(cR:kO N rows)(U:rows[i]?=some a)(ax:rows[j]?=some b):kO N ((rows.set i b).set j a):=by
 refine⟨by rw[kd,kd];exact cR.len,?_,λx M=>?_⟩
 ·rw[w7,w7];exact ave (by rw[aW,U];rfl) (by rw[aW,ax];rfl) cR.Rq
 ·rcases FM M with M|rfl
  ·rcases FM M with M|rfl
   ·exact cR.row x M
   ·exact cR.row _ (dS ax)
  ·exact cR.row _ (dS U)
end
theorem avf {l:List bG}{i:Nat}{a b c d}(h:l[i]?=some ((a,b),(c,d))):cut (aS aw l) (i*4) 4=some [.I (.int .i64 a),.I (.Y (b.map ae)),.I (.int .i64 c),.I (.Y (d.map ae))]:=by
 have:=PF jS h (f:=0) (n:=4) (by omega);rw[l7] at this;rw[this]
 rfl
theorem avg {N:Nat}{rows:List dE}{i:Nat}{x:dE}(h:rows[i]?=some x):cut (refsOf N rows) i 1=some [.ref (x.1+900000) x.2.1 4 0 (N+1)]:=by
 obtain⟨av,rfl⟩:=eg.1 h;unfold cut refsOf;rw[ad (by rw[ah];omega),<-List.map_drop,iC av]
 rfl
theorem avh {l m:List bG}(h:aS aw l=aS aw m):l=m:=WS jS uk _ _ h (by omega)
def g7 (f:bG):Bool:=f.1.1==0
def cellOf (x:dE)(c:Nat):bG:=x.2.2.getD c c1
def findAt (rows:List dE)(r c:Nat):Nat:=r+(rows.drop r).findIdx λx => !g7 (cellOf x c)
def iz (fD:bG):List bG->List bG->Bool->List bG×Bool
 |f::eb,p::dM,false=>((kf f (h2 fD p).1).1::(iz fD eb dM ((h2 fD p).2 != 0||(kf f (h2 fD p).1).2 != 0)).1,(iz fD eb dM ((h2 fD p).2 != 0||(kf f (h2 fD p).1).2 != 0)).2)
 |eb,_,b=>(eb,b)
def iN (fX:List bG)(r c:Nat):Nat->List dE->Bool->List dE×Bool
 |_,[],bad=>([],bad)
 |i,x::xs,bad=>if (i==r||g7 (cellOf x c))=true then (x::(iN fX r c (i+1) xs bad).1,(iN fX r c (i+1) xs bad).2) else
  ((x.1,x.2.1,(iz (cellOf x c) x.2.2 fX bad).1)::(iN fX r c (i+1) xs (iz (cellOf x c) x.2.2 fX bad).2).1,(iN fX r c (i+1) xs (iz (cellOf x c) x.2.2 fX bad).2).2)
def hx (Mu:bG)(l:List bG):List bG×Bool:=(l.map λf=>(fG f Mu).1,l.any λf=>(fG f Mu).2 != 0)
def rowAt (rows:List dE)(i:Nat):dE:=rows.getD i (0,0,[])
def nA (rows:List dE)(i j:Nat):List dE:=(rows.set i (rowAt rows j)).set j (rowAt rows i)
def BK (rows:List dE)(r c:Nat):List dE:=rows.set r ((rowAt rows r).1,(rowAt rows r).2.1,(hx (cellOf (rowAt rows r) c) (rowAt rows r).2.2).1)
def iA (rows:List dE)(r c:Nat):Bool×List dE×Bool :=
 if findAt rows r c=(D rows) then (true,rows,false) else
  (false,iN (hx (cellOf (rowAt (nA rows r (findAt rows r c)) r) c) (rowAt (nA rows r (findAt rows r c)) r).2.2).1 r c 0 (BK (nA rows r (findAt rows r c)) r c)
   (hx (cellOf (rowAt (nA rows r (findAt rows r c)) r) c) (rowAt (nA rows r (findAt rows r c)) r).2.2).2)
theorem avi {rows:List dE}{r c i:Nat}{x:dE}(M:rows[i]?=some x)(X:r<=i)(a2:∀j y,r<=j->j<i->rows[j]?=some y->g7 (cellOf y c)=true)(h:g7 (cellOf x c)=false):findAt rows r c=i:=by
 unfold findAt;obtain⟨av,Zm⟩:=eg.1 M
 have:(rows.drop r).findIdx (λx => !g7 (cellOf x c))=i-r:=by
  rw[ah5 (by rw[oi];omega)];refine⟨?_,λj ax=>?_⟩
  ·rw[Dt];have:rows[r+(i-r)]?=some x:=by rw[show r+(i-r)=i by omega];exact M
   rw[(eg.1 this).2,h];rfl
  ·rw[Dt];have:=a2 (r+j) _ (by omega) (by omega) (bB (by omega));rw[this];rfl
 omega
theorem avj {rows:List dE}{r c:Nat}(X:r<=D rows)(a2:∀j y,r<=j->rows[j]?=some y->g7 (cellOf y c)=true):findAt rows r c=D rows:=by
 unfold findAt
 have:(rows.drop r).findIdx (λx => !g7 (cellOf x c))=(rows.drop r).length:=by
  rw[ah6];intro y ao;obtain⟨j,ax⟩:=zs.1 ao;rw[rU] at ax;rw[a2 (r+j) y (by omega) ax];rfl
 rw[this,oi];omega
theorem lP {x:Rat}(h:dX x):okF (aq x):=⟨ke h.1,ke (qB h)⟩
theorem qI:okF c1:=⟨by simp[c1],by simp[c1]⟩
theorem avk (p q:Raw):okF (gT p q).1:=by
 unfold gT
 split
 ·rename_i h;rw[gb] at h;obtain⟨x,M,ay⟩:=(ib _).1 h.1;obtain⟨y,ao,aA⟩:=(ib _).1 h.2
  split
  ·exact qI
  ·rw[ay,aA,fe,fe];exact lP (QJ M ao)
 ·exact qI
theorem Zn (p q:Raw×Int):okF (s5 p q).1:=by
 unfold s5
 split
 ·split
  ·exact avk _ _
  ·exact qI
 ·exact qI
theorem avl (a b:bG):okF (vv a b).1:=by
 unfold vv
 split
 ·split
  ·exact Zn _ _
  ·exact qI
 ·exact qI
theorem Zo (a b:bG):okF (kf a b).1:=by
 unfold kf
 split
 ·split
  ·exact avl _ _
  ·exact qI
 ·exact qI
theorem ah7 (a b:bG):okF (h2 a b).1:=by
 unfold h2
 split
 ·split
  ·exact Zn _ _
  ·exact qI
 ·exact qI
theorem Rs (a b:bG):okF (fG a b).1:=by
 unfold fG
 split
 ·split
  ·split
   ·exact qI
   ·exact Zn _ _
  ·exact qI
 ·exact qI
theorem Zp {x:dE}{c:Nat}{f:bG}(h:x.2.2[c]?=some f):cellOf x c=f:=by
 unfold cellOf;rw[ez,h]
 rfl
theorem uw {rows:List dE}{i:Nat}{x:dE}(h:rows[i]?=some x):rowAt rows i=x:=by
 unfold rowAt;rw[ez,h]
 rfl
theorem z1 {l:List bG}{k:Nat}(h:k<D l):(k*4+4<=(aS aw l).length)=True:=eq_true (by rw[lB jS];omega)
theorem FO {l:List bG}{k:Nat}{a b c d}(h:l[k]?=some ((a,b),(c,d))):iu 4 (jn (k*4) (aS aw l))=[.I (.int .i64 a),.I (.Y (b.map ae)),.I (.int .i64 c),.I (.Y (d.map ae))]:=by
 have:=avf h;unfold cut at this;rw[ad (by rw[lB jS];have:=(eg.1 h).1;omega)] at this;exact pL this
theorem FP {l:List bG}{k:Nat}(h:k<D l)(a:Int)(b:List Int)(c:Int)(d:List Int):
  iu (k*4) (aS aw l)++[R.I (.int .i64 a),.I (.Y (b.map ae)),.I (.int .i64 c),.I (.Y (d.map ae))]++jn (k*4+4) (aS aw l)=aS aw (l.set k ((a,b),(c,d))):=by
 rw[<-Vc jS h]
 rfl
theorem FQ {N:Nat}{rows:List dE}{i:Nat}(h:i<D rows):(i+1<=(refsOf N rows).length)=True:=eq_true (by unfold refsOf;rw[ah];omega)
theorem IV {N:Nat}{rows:List dE}{i:Nat}{x:dE}(h:rows[i]?=some x):iu 1 (jn i (refsOf N rows))=[.ref (x.1+900000) x.2.1 4 0 (N+1)]:=by
 have:=avg (N:=N) h;unfold cut at this;rw[ad (by unfold refsOf;rw[ah];have:=(eg.1 h).1;omega)] at this;exact pL this
theorem ah8 {N:Nat}{rows:List dE}{i:Nat}(h:i<D rows)(b:dE):iu i (refsOf N rows)++[R.ref (b.1+900000) b.2.1 4 0 (N+1)]++jn (i+1) (refsOf N rows)=refsOf N (rows.set i b):=by
 unfold refsOf;rw[w7,List.set_eq_take_append_cons_drop,ad (by rw[ah];exact h),hd]
 rfl
theorem ah9 (fD:bG):∀(l p:List bG) (b:Bool),(iz fD l p b).1.length=D l
 | [],_,_=>by simp[iz]
 |f::eb,[],b=>by cases b<;>simp[iz]
 |f::eb,p::dM,true=>by simp[iz]
 |f::eb,p::dM,false=>by simp[iz,ah9 fD eb dM]
theorem MM (fD:bG)(l p:List bG):iz fD l p true=(l,true):=by
 cases l<;>cases p<;>simp[iz]
theorem aia (fD:bG)(p:List bG)(b:Bool):iz fD [] p b=([],b):=by
 cases b<;>simp[iz]
theorem avm {α:Type}(f:α->α){l:List α}{k:Nat}{x:α}(h:l[k]?=some x):((l.take k).map f++l.drop k).set k (f x)=(l.take (k+1)).map f++l.drop (k+1):=by
 obtain⟨av,M⟩:=eg.1 h;have az:((l.take k).map f).length=k:=by rw[ah,fU];omega
 rw[z2 _ _ (by omega),az,j6,iC av,kP,g2,h,kg,hd]
 rfl
theorem avn {α:Type}(f:α->α){l:List α}{k:Nat}:((l.take k).map f++l.drop k)[k]?=l[k]?:=by
 rcases hn k (D l) with h|h
 ·have az:((l.take k).map f).length=k:=by rw[ah,fU];omega
  rw[nK (by omega),az,j6,rU,l7]
 ·rw[iD h,iD (by rw[gj,ah,fU,oi];omega)]
theorem MN {α:Type}{rows:List α}{r i:Nat}{x sj:α}(M:rows[i]?=some x)(m7:rows[r]?=some sj):((rows.set r x).set i sj)[r]?=some x:=by
 have G:=(eg.1 M).1;have J:=(eg.1 m7).1;rw[mo,mo,kd]
 by_cases h:i=r
 ·subst h;rw[M] at m7
  cases m7;rw[ad rfl,ad G]
 ·rw[ag h,ad rfl,ad J]
theorem Zq {α:Type}{l:List α}{i:Nat}{x:α}(h:l[i]?=some x):l.set i x=l:=by
 obtain⟨av,M⟩:=eg.1 h;apply pJ;intro j;rw[mo]
 by_cases nu:i=j
 ·subst nu;rw[ad rfl,ad av,h]
 ·rw[ag nu]
theorem avo (a b:Nat):(!(a+900000==129015)||decide (2<b*4))=true:=by
 have:(a+900000==129015)=false:=by simp
 rw[this];rfl
theorem Zr:IU 168004:=by unfold IU;omega
theorem Zs:IU 168006:=by unfold IU;omega
def ep.sub:ep->List Nat->ep
 |.seq a _,0::p=>a.sub p
 |.seq _ b,_::p=>b.sub p
 |.cond _ a _,0::p=>a.sub p
 |.cond _ _ b,_::p=>b.sub p
 |.block _ c,_::p=>c.sub p
 |.ghost _ c,_::p=>c.sub p
 |.loop c,_::p=>c.sub p
 |c,_=>c
def avp (f:bG):List R:=[.I (.int .i64 f.1.1),.I (.Y (f.1.2.map ae)),.I (.int .i64 f.2.1),.I (.Y (f.2.2.map ae))]
theorem avq (T:bm)(yv:T CP=Ds BH)(iO:T wH=aO zN)(m8:T xZ=aO zP){K:eF->bg->Prop}{kk:List fB}
  (go N r c i2:Nat) (mem:Mem) (Du:mem 168004=none) (Dv:mem 168006=none) (fM:N<=40) (rq:List dE) (qJ:kO N rq) (x y:dE) (fX:List bG) (qK:rq[i2]?=some y) (aZ:rq[r]?=some (x.1,x.2.1,fX)) (FR:i2≠r) (pn:r<N) (m6:Bool)
  (dh:Int) (dC:List Int) (ji:Int) (m9:List Int) (nV:okF ((dh,dC),(ji,m9))) (tm:Nat->R) (m:Mem) (bD:Nat)
  (bu:tm 0=.ptr 129015 0 0) (ay:tm 1=.I (.int .i64 r)) (aA:tm 2=.I (.int .i64 c)) (gq:tm 12=.ref (y.1+900000) y.2.1 4 0 (N+1)) (hy:tm 13=.ptr 148013 bD 0) (rr:tm 112=.ref 129035 go 1 0 N) (MO:tm 113=.I (.int .i64 N)) (MP:tm 114=.I (.int .i64 i2)) (IW:tm 14=.I (.int .i64 0))
  (em:m 148013=some (bD,[.I (.int .i64 dh),.I (.Y (dC.map ae)),.I (.int .i64 ji),.I (.Y (m9.map ae))])) (g6:lh mem go N rq m6 m)
  (cX:∀tm' m' l b,tm' 0=.ptr 129015 0 0->tm' 1=.I (.int .i64 r)->tm' 2=.I (.int .i64 c)->tm' 112=.ref 129035 go 1 0 N->tm' 113=.I (.int .i64 N)->tm' 114=.I (.int .i64 i2)->(l,b)=iz ((dh,dC),(ji,m9)) y.2.2 fX m6->kO N (rq.set i2 (y.1,y.2.1,l))->lh mem go N (rq.set i2 (y.1,y.2.1,l)) b m'->cj T K kk (.exit 6) ⟨tm',m'⟩) :
  wp T (zV.body.sub [1,1,1,1,1,1,1,0,1,0,0,1,1,0,0,1,1,1,1,0]) (cj T K kk) ⟨tm,m⟩:=by
 simp only[zV,ep.sub];have avr:i2<N:=by rw[<-qJ.len];exact (eg.1 qK).1
 obtain⟨Cw,Rt⟩:=qJ.row y (dS qK);have avs:rq.set i2 (y.1,y.2.1,[]++y.2.2.drop 0)=rq:=Zq qK
 refine c9 [0,1,2,12,13,112,113,114] [148013] (λ((k,pre,b):Nat×List bG×Bool) tm m=>k<=N+1/\D pre=k/\(∀f∈pre,okF f)/\iz ((dh,dC),(ji,m9)) y.2.2 fX m6=(pre++(iz ((dh,dC),(ji,m9)) (y.2.2.drop k) (fX.drop k) b).1,(iz ((dh,dC),(ji,m9)) (y.2.2.drop k) (fX.drop k) b).2)/\tm 14=.I (.int .i64 k)/\lh mem go N (rq.set i2 (y.1,y.2.1,pre++y.2.2.drop k)) b m) (λ(k,_,_)=>N+1-k) (0,[],m6) (by
  refine⟨fA _,rfl,(by simp),rfl,IW,?_⟩;rw[avs];exact g6) ?_
 intro vs ms aK aF;simp only[go_sem,go_sem_proc,bu,ay,aA,gq,hy,rr,MO,MP,em] at aK aF;subst aK aF;clear bu ay aA gq hy rr MO MP em IW g6 tm m;rintro⟨eo,pre,b⟩ tm g4 L hm ⟨aJ3,Bm,yw,MQ,yb,vC⟩;simp only[go_sem,go_sem_proc,bf] at L hm;obtain⟨aj,G,J,eG,iZ,ux,uy,uz⟩:=L;have avt:(pre++y.2.2.drop eo).length=N+1:=by rw[gj,oi];omega
 have IX:kO N (rq.set i2 (y.1,y.2.1,pre++y.2.2.drop eo)):=qJ.set qK avt λf aD=>by
  rw[jy] at aD;rcases aD with aD|aD
  ·exact yw f aD
  ·exact Rt f (L4 aD)
 have aib:(rq.set i2 (y.1,y.2.1,pre++y.2.2.drop eo))[i2]?=some (y.1,y.2.1,pre++y.2.2.drop eo):=by
  rw[mo,ad rfl,ad (by rw[qJ.len];exact avr)]
 have r9:(rq.set i2 (y.1,y.2.1,pre++y.2.2.drop eo))[r]?=some (x.1,x.2.1,fX):=by
  rw[mo,ag FR];exact aZ
 have s8:=vC.1.m;have vD:=vC.1.o;rcases dk (eo<N+1) with avu|aJ4
 ·have yx:decide ((eo:Int)<((N+1:Nat):Int))=true:=c5
  cases b
  ·obtain⟨⟨⟨cE,cS⟩,⟨dU,eN⟩⟩,vE⟩:∃f,y.2.2[eo]?=some f:=⟨_,bB (by omega)⟩;have aJ5:(D fX)=N+1:=(qJ.row _ (dS aZ)).1;obtain⟨⟨⟨jz,kJ⟩,⟨sk,sl⟩⟩,Dw⟩:∃f,fX[eo]?=some f:=⟨_,bB (by omega)⟩;have l3:=Rt _ (dS vE);have aic:=(qJ.row _ (dS aZ)).2 _ (dS Dw)
   have Zt:(pre++y.2.2.drop eo)[eo]?=some ((cE,cS),(dU,eN)):=by
    rw[nK (by omega),Bm,j6,rU,l7,vE]
   have k8:y.2.2.drop eo=((cE,cS),(dU,eN))::y.2.2.drop (eo+1):=by
    obtain⟨az,e⟩:=eg.1 vE;rw[iC az,e]
   have mG:fX.drop eo=((jz,kJ),(sk,sl))::fX.drop (eo+1):=by
    obtain⟨az,e⟩:=eg.1 Dw;rw[iC az,e]
   have h9:∀s:bG,(pre++y.2.2.drop eo).set eo s=(pre++[s])++y.2.2.drop (eo+1):=λs=>by
    rw[z2 _ _ (by omega),Bm,j6,k8,kP,hd];rfl
   have avv:=vC.1.r _ (dS aib);have avw:=vC.1.r _ (dS r9);have ja:g4 168004=none:=(vC.2 _ Zr).trans Du;have js:g4 168006=none:=(vC.2 _ Zs).trans Dv;have t1:=IV (N:=N) r9;have t2:=FQ (N:=N) (rows:=rq.set i2 (y.1,y.2.1,pre++y.2.2.drop eo)) (i:=r) (by rw[IX.len];exact pn);have t3:=FO Zt;have t4:=z1 (l:=pre++y.2.2.drop eo) (k:=eo) (by omega);have t5:=FO Dw;have t6:=z1 (l:=fX) (k:=eo) (by omega);have ku:=eu (i:=eo) (by omega);have Zu:=ah7 ((dh,dC),(ji,m9)) ((jz,kJ),(sk,sl));have Zv:=Zo ((cE,cS),(dU,eN)) (h2 ((dh,dC),(ji,m9)) ((jz,kJ),(sk,sl))).1;have MR:=MQ;rw[k8,mG] at MR;simp only[iz] at MR;generalize e8:h2 ((dh,dC),(ji,m9)) ((jz,kJ),(sk,sl))=bp at *;obtain⟨⟨⟨nN,im⟩,⟨FT,FU⟩⟩,ay⟩:=bp;dsimp only at Zv MR Zu;generalize dn:kf ((cE,cS),(dU,eN)) ((nN,im),(FT,FU))=S at *;obtain⟨⟨⟨v1,v2⟩,⟨jb,v4⟩⟩,aA⟩:=S;dsimp only at Zv MR;have t7:=FP (l:=pre++y.2.2.drop eo) (k:=eo) (by omega) v1 v2 jb v4;refine a1 ?_;repeat' (intro h<;>simp only[h,go_sem,go_sem_proc,yv,m8,iO,aj,G,J,eG,iZ,yb,ux,uy,uz,hm,s8,vD,avv,avw,ja,js,t1,t2,t3,t4,t5,t6,t7,yx,avu,pn,ku,e8,dn,l3.1,l3.2,aic.1,aic.2,nV.1,nV.2,Zu.1,Zu.2,avp,cQ,aw,cD,BH,s9,kP,decide_true,decide_false,aid,ne_eq,not_false_eq_true,and_self]<;>try refine al ?_ ?_)
   have da:=lh.set IX aib ((pre++y.2.2.drop eo).set eo ((v1,v2),(jb,v4))) ((vC.flag (ay != 0)).flag (ay != 0||aA != 0));rw[aie,h9] at da;refine⟨avo _ _,(eo+1,pre++[((v1,v2),(jb,v4))],(ay != 0||aA != 0)),by dsimp only;omega,by dsimp only;omega,by simp[Bm],?_,?_,rfl,?_⟩
   ·intro f aD;rw[jy,ye] at aD;rcases aD with aD|rfl
    ·exact yw f aD
    ·exact Zv
   ·rw[MR];dsimp only;rw[hd]
    rfl
   ·dsimp only;rw[h9];exact da
  ·rw[MM] at MQ;refine a1 ?_;repeat' (intro h<;>simp only[h,go_sem,go_sem_proc,aj,G,J,eG,iZ,yb,ux,uy,uz,s8,vD,yx]<;>try refine al ?_ ?_)
   refine cX _ _ (pre++y.2.2.drop eo) true ?_ ?_ ?_ ?_ ?_ ?_ MQ.symm IX vC<;>simp only[dv,cx,if_false,aj,G,J,ux,uy,uz]
 ·have yx:decide ((eo:Int)<((N+1:Nat):Int))=false:=cu;have pN:y.2.2.drop eo=[]:=mA (by omega);rw[pN,aia,<-pN] at MQ;refine a1 ?_;repeat' (intro h<;>simp only[h,go_sem,go_sem_proc,aj,G,J,eG,iZ,yb,ux,uy,uz,s8,vD,yx]<;>try refine al ?_ ?_)
  refine cX _ _ (pre++y.2.2.drop eo) b ?_ ?_ ?_ ?_ ?_ ?_ MQ.symm IX vC<;>simp only[dv,cx,if_false,aj,G,J,ux,uy,uz]
theorem avx (T:bm)(z3:T Ly=aO Rk)(yv:T CP=Ds BH)(iO:T wH=aO zN)(m8:T xZ=aO zP){K:eF->bg->Prop}{kk:List fB}
  (go N r c:Nat) (mem:Mem) (Du:mem 168004=none) (Dv:mem 168006=none) (fM:N<=40) (pn:r<N) (BL:c<N+1) (e9:List dE) (FV:kO N e9) (x:dE) (fX:List bG) (oA:e9[r]?=some (x.1,x.2.1,fX)) (IY:Bool) (tm:Nat->R) (m:Mem)
  (bu:tm 0=.ptr 129015 0 0) (ay:tm 1=.I (.int .i64 r)) (aA:tm 2=.I (.int .i64 c)) (rr:tm 112=.ref 129035 go 1 0 N) (MO:tm 113=.I (.int .i64 N)) (MP:tm 114=.I (.int .i64 0)) (g6:lh mem go N e9 IY m)
  (cX:∀tm' m',lh mem go N (iN fX r c 0 e9 IY).1 (iN fX r c 0 e9 IY).2 m'->cj T K kk (.exit 4) ⟨tm',m'⟩) :
  wp T (zV.body.sub [1,1,1,1,1,1,1,0,1,0]) (cj T K kk) ⟨tm,m⟩:=by
 simp only[zV,ep.sub]
 refine c9 [0,1,2,112,113] [] (λ((i2,ru,m6):Nat×List dE×Bool) tm m=>i2<=N/\D ru=i2/\iN fX r c 0 e9 IY=(ru++(iN fX r c i2 (e9.drop i2) m6).1,(iN fX r c i2 (e9.drop i2) m6).2)/\kO N (ru++e9.drop i2)/\(ru++e9.drop i2)[r]?=some (x.1,x.2.1,fX)/\tm 114=.I (.int .i64 i2)/\lh mem go N (ru++e9.drop i2) m6 m) (λ(i2,_,_)=>N-i2) (0,[],IY) (by
  exact⟨fA _,rfl,rfl,FV,oA,MP,g6⟩) ?_
 intro vs ms aK aF;simp only[go_sem,go_sem_proc,bu,ay,aA,rr,MO] at aK aF;subst aK aF;clear bu ay aA rr MO MP g6 tm m;rintro⟨i2,ru,m6⟩ tm bX L hm ⟨sL,kM,l4,qJ,aZ,uz,w8⟩;simp only[go_sem,go_sem_proc,bf] at L hm;obtain⟨aj,G,J,ux,uy⟩:=L;have s8:=w8.1.m;have vD:=w8.1.o;have aJ6:(D e9)=N:=FV.len;rcases dk (i2<N) with IZ|aJ7
 ·obtain⟨y,ao⟩:∃y,e9[i2]?=some y:=⟨_,bB (by omega)⟩
  have vm:e9.drop i2=y::e9.drop (i2+1):=by
   obtain⟨az,rfl⟩:=eg.1 ao;exact iC az
  have qK:(ru++e9.drop i2)[i2]?=some y:=by
   rw[nK (by omega),kM,j6,rU,l7,ao]
  obtain⟨Cw,Rt⟩:=qJ.row y (dS qK);have MS:=w8.1.r y (dS qK);obtain⟨⟨⟨dh,dC⟩,⟨ji,m9⟩⟩,bq⟩:∃f,y.2.2[c]?=some f:=⟨_,bB (by omega)⟩;have yi:=Zp bq;have t1:=IV (N:=N) qK;have t2:=FQ (N:=N) (rows:=ru++e9.drop i2) (i:=i2) (by rw[qJ.len];exact IZ);have t3:=FO bq;have t4:=z1 (l:=y.2.2) (k:=c) (by omega);have ld:decide ((i2:Int)<(N:Int))=true:=c5;have hw:=eu (i:=i2) (by omega)
  have AM:∀z:dE,(ru++[z])++e9.drop (i2+1)=(ru++e9.drop i2).set i2 z:=λz=>by
   rw[z2 _ _ (by omega),kM,j6,vm,kP,hd];rfl
  have I0:(ru++[y])++e9.drop (i2+1)=ru++e9.drop i2:=by rw[AM];exact Zq qK
  have yy:∀b:Bool,(b=true->i2=r\/(dh==0)=true)->b=true->iN fX r c 0 e9 IY=((ru++[y])++(iN fX r c (i2+1) (e9.drop (i2+1)) m6).1,(iN fX r c (i2+1) (e9.drop (i2+1)) m6).2):=by
   intro b ai FG
   have Zw:(i2==r||g7 (cellOf y c))=true:=by
    rcases ai FG with h|h
    ·rw[h,beq_self_eq_true];rfl
    ·rw[yi];have:g7 ((dh,dC),(ji,m9))=true:=h;rw[this,pR]
   rw[l4,vm];simp only[iN];rw[ad Zw,hd]
   rfl
  rcases po:((i2:Int)==(r:Int))
  ·have FR:i2≠r:=by intro h;rw[h] at po;simp at po
   rcases MT:(dh==0)
   ·have nV:okF ((dh,dC),(ji,m9)):=Rt _ (dS bq);simp only[go_sem,go_sem_proc,z3,aj,G,J,ux,uy,uz,s8,vD,MS,t1,t2,t3,t4,IZ,ld,BL,po,MT,cD];refine avq T yv iO m8 go N r c i2 mem Du Dv fM (ru++e9.drop i2) qJ x y fX qK aZ FR pn m6 dh dC ji m9 nV _ _ (gd (bX 148013)) ?_ ?_ ?_ ?_ ?_ ?_ ?_ ?_ ?_ ?_ ((w8.own (.inr (.inr rfl))).own (.inr (.inr rfl))) ?_
    ·exact aj
    ·exact G
    ·exact J
    ·rfl
    ·rfl
    ·exact ux
    ·exact uy
    ·exact uz
    ·rfl
    ·simp[a5]
    ·intro tm' m' l b ej cL dN MU aif aih ou IX vC;simp only[go_sem,go_sem_proc,aj,G,J,ej,cL,dN,MU,aif,aih,hw];repeat' (first|refine al ?_ ?_|fail)<;>intro h<;>simp only[h,go_sem,go_sem_proc,aj,G,J,ej,cL,dN,MU,aif,aih,hw]
     refine⟨(i2+1,ru++[(y.1,y.2.1,l)],b),by dsimp only;omega,by dsimp only;omega,by simp[kM],?_,by dsimp only;rw[AM];exact IX,by dsimp only;rw[AM,mo,ag FR];exact aZ,rfl,?_⟩
     ·have Zw:¬ (i2==r||g7 (cellOf y c))=true:=by
       rw[yi];have G:g7 ((dh,dC),(ji,m9))=false:=MT;have J:(i2==r)=false:=by simpa using FR
       rw[G,J];simp
      rw[l4,vm];simp only[iN];rw[ag Zw,yi,<-ou,hd]
      rfl
     ·dsimp only;rw[AM];exact vC
   ·simp only[go_sem,go_sem_proc,z3,aj,G,J,ux,uy,uz,s8,vD,MS,t1,t2,t3,t4,IZ,ld,BL,hw,po,MT,cD];repeat' (first|refine al ?_ ?_|fail)<;>intro h<;>simp only[h,go_sem,go_sem_proc,z3,aj,G,J,ux,uy,uz,s8,vD,MS,t1,t2,t3,t4,IZ,ld,BL,hw,po,MT,cD]
    refine⟨(i2+1,ru++[y],m6),by dsimp only;omega,by dsimp only;omega,by simp[kM],yy true (λ_ => .inr MT) rfl,by dsimp only;rw[I0];exact qJ,by dsimp only;rw[I0];exact aZ,rfl,?_⟩
    dsimp only;rw[I0];exact (w8.own (.inr (.inr rfl))).own (.inr (.inr rfl))
  ·have FR:i2=r:=by have h:=beq_iff_eq.1 po;omega
   simp only[go_sem,go_sem_proc,z3,aj,G,J,ux,uy,uz,s8,vD,MS,t1,t2,t3,t4,IZ,ld,BL,hw,po,cD];repeat' (first|refine al ?_ ?_|fail)<;>intro h<;>simp only[h,go_sem,go_sem_proc,z3,aj,G,J,ux,uy,uz,s8,vD,MS,t1,t2,t3,t4,IZ,ld,BL,hw,po,cD]
   refine⟨(i2+1,ru++[y],m6),by dsimp only;omega,by dsimp only;omega,by simp[kM],yy true (λ_ => .inl FR) rfl,by dsimp only;rw[I0];exact qJ,by dsimp only;rw[I0];exact aZ,rfl,?_⟩
   dsimp only;rw[I0];exact (w8.own (.inr (.inr rfl))).own (.inr (.inr rfl))
 ·have cJ:i2=N:=by omega
  have ld:decide ((i2:Int)<(N:Int))=false:=cu;have Pv:e9.drop i2=[]:=mA (by omega);rw[Pv] at l4 w8;simp only[iN,gD] at l4 w8;rw[l4] at cX;simp only[go_sem,go_sem_proc,aj,G,J,ux,uy,uz,s8,vD,ld];repeat' (first|refine al ?_ ?_|fail)<;>intro h<;>simp only[h,go_sem,go_sem_proc,aj,G,J,ux,uy,uz,s8,vD,ld]
  exact cX _ _ w8
theorem avy (T:bm)(yv:T CP=Ds BH)(qL:T EU=aO Fz){K:eF->bg->Prop}{kk:List fB}
  (go N r c:Nat) (mem:Mem) (Du:mem 168004=none) (Dv:mem 168006=none) (fM:N<=40) (pn:r<N) (gA:List dE) (I1:kO N gA) (x:dE) (vF:gA[r]?=some x) (f1:Int) (f2:List Int) (f3:Int) (f4:List Int) (jg:okF ((f1,f2),(f3,f4))) (tm:Nat->R) (m:Mem) (bD:Nat)
  (bu:tm 0=.ptr 129015 0 0) (ay:tm 1=.I (.int .i64 r)) (aA:tm 2=.I (.int .i64 c)) (dg:tm 8=.ptr 148008 bD 0) (aii:tm 85=.ref (x.1+900000) x.2.1 4 0 (N+1)) (aij:tm 86=.I (.int .i64 ((N+1:Nat):Int))) (aik:tm 87=.I (.int .i64 0))
  (em:m 148008=some (bD,[.I (.int .i64 f1),.I (.Y (f2.map ae)),.I (.int .i64 f3),.I (.Y (f4.map ae))])) (g6:lh mem go N gA false m)
  (cX:∀tm' m',tm' 0=.ptr 129015 0 0->tm' 1=.I (.int .i64 r)->tm' 2=.I (.int .i64 c)->kO N (gA.set r (x.1,x.2.1,(hx ((f1,f2),(f3,f4)) x.2.2).1))->lh mem go N (gA.set r (x.1,x.2.1,(hx ((f1,f2),(f3,f4)) x.2.2).1)) (hx ((f1,f2),(f3,f4)) x.2.2).2 m'->cj T K kk (.exit 2) ⟨tm',m'⟩) :
  wp T (zV.body.sub [1,1,1,1,1,1,0,1,0]) (cj T K kk) ⟨tm,m⟩:=by
 simp only[zV,ep.sub];obtain⟨zg,yz⟩:=I1.row x (dS vF)
 have avz:∀l:List bG,(gA.set r (x.1,x.2.1,l))[r]?=some (x.1,x.2.1,l):=λl=>by
  rw[mo,ad rfl,ad (by rw[I1.len];exact pn)]
 refine c9 [0,1,2,8,85,86] [148008] (λ(k:Nat) tm m=>k<=N+1/\tm 87=.I (.int .i64 k)/\lh mem go N (gA.set r (x.1,x.2.1,(x.2.2.take k).map (λf=>(fG f ((f1,f2),(f3,f4))).1)++x.2.2.drop k)) ((x.2.2.take k).any λf=>(fG f ((f1,f2),(f3,f4))).2 != 0) m) (λk=>N+1-k) 0 (by
  refine⟨fA _,aik,?_⟩;have e:gA.set r (x.1,x.2.1,(x.2.2.take 0).map (λf=>(fG f ((f1,f2),(f3,f4))).1)++x.2.2.drop 0)=gA:=Zq vF;rw[e];exact g6) ?_
 intro vs ms aK aF;simp only[go_sem,go_sem_proc,bu,ay,aA,dg,aii,aij,em] at aK aF;subst aK aF;clear bu ay aA dg aii aij aik em g6 tm m;rintro k tm m L hm ⟨Zx,ail,g6⟩;simp only[go_sem,go_sem_proc,bf] at L hm;obtain⟨aj,G,J,bP,aim,ain⟩:=L
 have eC:((x.2.2.take k).map (λf=>(fG f ((f1,f2),(f3,f4))).1)++x.2.2.drop k).length=N+1:=by
  rw[gj,ah,fU,oi];omega
 have FV:kO N (gA.set r (x.1,x.2.1,(x.2.2.take k).map (λf=>(fG f ((f1,f2),(f3,f4))).1)++x.2.2.drop k)):=by
  refine I1.set vF eC λf aD=>?_;rw[jy] at aD;rcases aD with aD|aD
  ·obtain⟨hI,-,rfl⟩:=gE.1 aD;exact Rs _ _
  ·exact yz f (L4 aD)
 have oA:=avz ((x.2.2.take k).map (λf=>(fG f ((f1,f2),(f3,f4))).1)++x.2.2.drop k);rcases dk (k<N+1) with Zy|avA
 ·obtain⟨⟨⟨cE,cS⟩,⟨dU,eN⟩⟩,vE⟩:∃f,x.2.2[k]?=some f:=⟨_,bB (by omega)⟩;have Zt:=(avn (λf=>(fG f ((f1,f2),(f3,f4))).1) (l:=x.2.2) (k:=k)).trans vE;have h9:=avm (λf=>(fG f ((f1,f2),(f3,f4))).1) vE
  have La:(x.2.2.take (k+1)).any (λf=>(fG f ((f1,f2),(f3,f4))).2 != 0)=((x.2.2.take k).any (λf=>(fG f ((f1,f2),(f3,f4))).2 != 0)||(fG ((cE,cS),(dU,eN)) ((f1,f2),(f3,f4))).2 != 0):=by
   rw[g2,vE,List.any_append];simp
  obtain⟨avB,avC⟩:=yz _ (dS vE);generalize (x.2.2.take k).map (λf=>(fG f ((f1,f2),(f3,f4))).1)++x.2.2.drop k=cur at *;generalize ((x.2.2.take k).any λf=>(fG f ((f1,f2),(f3,f4))).2 != 0)=m6 at *;have s8:=g6.1.m;have vD:=g6.1.o;have avD:=g6.1.r _ (dS oA);have ja:m 168004=none:=(g6.2 _ Zr).trans Du;have js:m 168006=none:=(g6.2 _ Zs).trans Dv;have t1:=IV (N:=N) oA;have t2:=FQ (N:=N) (rows:=gA.set r (x.1,x.2.1,cur)) (i:=r) (by rw[FV.len];exact pn);have t3:=FO Zt;have t4:=z1 (l:=cur) (k:=k) (by omega);have yx:decide ((k:Int)<((N+1:Nat):Int))=true:=c5;have hw:=eu (i:=k) (by omega);generalize q7:fG ((cE,cS),(dU,eN)) ((f1,f2),(f3,f4))=V at *;obtain⟨⟨⟨v1,v2⟩,⟨jb,v4⟩⟩,vr⟩:=V;dsimp only at h9 La;have t5:=FP (l:=cur) (k:=k) (by omega) v1 v2 jb v4;refine a1 ?_;repeat' (intro h<;>simp only[h,go_sem,go_sem_proc,yv,qL,aj,G,J,bP,aim,ain,ail,hm,s8,vD,avD,ja,js,t1,t2,t3,t4,t5,yx,Zy,pn,hw,q7,avB,avC,jg.1,jg.2,cQ,aw,cD,BH,s9,kP,decide_true,decide_false,aid,ne_eq,not_false_eq_true,and_self]<;>try refine al ?_ ?_)
  have ay:=lh.set FV oA (cur.set k ((v1,v2),(jb,v4))) (((g6.own (k:=148010) (g:=gd (m 148010)) (cs:=[R.I (Data.int IntKind.i64 0),R.nil,R.I (Data.int IntKind.i64 0),R.nil]) (.inr (.inl rfl))).own (k:=148010) (g:=gd (m 148010)) (cs:=[R.I (Data.int IntKind.i64 cE),R.I (Data.Y (oD ae cS)),R.I (Data.int IntKind.i64 dU),R.I (Data.Y (oD ae eN))]) (.inr (.inl rfl))).flag (m6||vr != 0));rw[aie,h9] at ay;refine⟨k+1,by omega,by omega,rfl,?_⟩
  show lh mem go N _ ((x.2.2.take (k+1)).any λf=>(fG f ((f1,f2),(f3,f4))).2 != 0) _;rw[La,h9];exact ay
 ·have aio:k=N+1:=by omega
  have avE:(x.2.2.take k).map (λf=>(fG f ((f1,f2),(f3,f4))).1)++x.2.2.drop k=(hx ((f1,f2),(f3,f4)) x.2.2).1:=by
   unfold hx;rw[dH (by omega),mA (by omega),gD]
  have avF:((x.2.2.take k).any λf=>(fG f ((f1,f2),(f3,f4))).2 != 0)=(hx ((f1,f2),(f3,f4)) x.2.2).2:=by
   unfold hx;rw[dH (by omega)]
  rw[avE] at FV g6;rw[avF] at g6;have yx:decide ((k:Int)<((N+1:Nat):Int))=false:=cu;refine a1 ?_;repeat' (intro h<;>simp only[h,go_sem,go_sem_proc,aj,G,J,bP,aim,ain,ail,hm,yx]<;>try refine al ?_ ?_)
  refine cX _ _ ?_ ?_ ?_ FV g6<;>simp only[dv,cx,if_false,aj,G,J]
theorem avG (T:bm)(z3:T Ly=aO Rk)(yv:T CP=Ds BH)(qL:T EU=aO Fz)(iO:T wH=aO zN)(m8:T xZ=aO zP)
  (go N:Nat) (rows:List dE) (r c:Nat) (eh:Mem) (cR:kO N rows) (bW:BJ go N rows false eh) (Du:eh 168004=none) (Dv:eh 168006=none) (fM:N<=40) (jf:r<=c) (uA:c<N) :
  wp T zV.body (qG zV.res λm mem'=>m=.I (.bool (iA rows r c).1)/\lh eh go N (iA rows r c).2.1 (iA rows r c).2.2 mem') ⟨l1 [.ptr 129015 0 0,.I (.int .i64 r),.I (.int .i64 c)],eh⟩:=by
 refine tQ ?_;simp only[zV];simp only[go_sem,go_sem_proc];refine c9 [0,1,2] [] (λ(i:Nat) tm mem=>r<=i/\i<=N/\(∀j y,r<=j->j<i->rows[j]?=some y->g7 (cellOf y c)=true)/\tm 7=.I (.int .i64 i)/\mem=eh) (λi=>N-i) r (by refine⟨cI _,by omega,λj y G J=>by omega,rfl,rfl⟩) ?_;intro vs ms aK aF;simp only[go_sem,go_sem_proc] at aK aF;subst aK aF;rintro i tm mem L hm ⟨iG,MV,a2,bE,rfl⟩;simp only[go_sem,go_sem_proc,bf] at L hm;obtain⟨aj,G,J⟩:=L;have vG:=bW.m;have MW:=bW.o;have hlen:=cR.len;rcases dk (i<N) with av|b4
 ·have M:∃x,rows[i]?=some x:=⟨_,bB (by omega)⟩;obtain⟨x,M⟩:=M;obtain⟨zg,yz⟩:=cR.row x (dS M);have I2:=bW.r x (dS M);have aD:∃f,x.2.2[c]?=some f:=⟨_,bB (by omega)⟩;obtain⟨⟨⟨f1,f2⟩,⟨f3,f4⟩⟩,aD⟩:=aD;have aip:=IV (N:=N) M;have aiq:=FQ (N:=N) (rows:=rows) (i:=i) (by omega);have air:=FO aD;have yA:=z1 (l:=x.2.2) (k:=c) (by omega);have nr:=Zp aD;have ee:decide ((i:Int)<(N:Int))=true:=c5;have BL:c<N+1:=by omega
  rcases m4:(f1==0)
  ·have MX:findAt rows r c=i:=avi M iG a2 (by rw[nr];exact m4);obtain⟨sj,m7⟩:∃x,rows[r]?=some x:=⟨_,bB (by omega)⟩
   have jT:iA rows r c=(false,iN (hx ((f1,f2),(f3,f4)) x.2.2).1 r c 0 (((rows.set r x).set i sj).set r (x.1,x.2.1,(hx ((f1,f2),(f3,f4)) x.2.2).1)) (hx ((f1,f2),(f3,f4)) x.2.2).2):=by
    unfold iA BK;rw[ag (by omega),MX];have:rowAt (nA rows r i) r=x:=uw (by unfold nA;rw[uw M,uw m7];exact MN M m7);rw[this,nr];unfold nA;rw[uw M,uw m7]
   rw[jT];clear jT;have I1:kO N ((rows.set r x).set i sj):=cR.swap m7 M;have avH:lh mem go N ((rows.set r x).set i sj) false _:=lh.swap m7 M ⟨bW,λ_ _=>rfl⟩;have vF:((rows.set r x).set i sj)[r]?=some x:=MN M m7;have pn:r<N:=by omega
   have s1:=IV (N:=N) m7;have s2:=FQ (N:=N) (rows:=rows) (i:=r) (by omega);have bY:=ah8 (N:=N) (rows:=rows) (i:=r) (by omega) x;have b7:=FQ (N:=N) (rows:=rows.set r x) (i:=i) (by rw[kd];omega);have avI:=ah8 (N:=N) (rows:=rows.set r x) (i:=i) (by rw[kd];omega) sj;have Zz:=IV (N:=N) vF;have avJ:=FQ (N:=N) (rows:=(rows.set r x).set i sj) (i:=r) (by rw[kd,kd];omega);generalize rv:(rows.set r x).set i sj=gA at *;have jg:=yz _ (dS aD);have aJ8:decide ((i:Int)<(N:Int))=true:=ee;have avK:((i:Int)==(N:Int))=false:=by simp;omega
   simp only[go_sem,go_sem_proc,z3,yv,aj,G,J,bE,vG,MW,I2,aip,aiq,air,yA,av,ee,BL,m4,cD,pn,s1,s2,bY,b7,avI,Zz,avJ,avK];refine avy T yv qL go N r c mem Du Dv fM pn gA I1 x vF f1 f2 f3 f4 jg _ _ (gd (mem 148008)) ?_ ?_ ?_ ?_ ?_ ?_ ?_ ?_ ((avH.own (.inl rfl)).own (.inl rfl)) ?_
   ·exact aj
   ·exact G
   ·exact J
   ·rfl
   ·rfl
   ·rfl
   ·rfl
   ·simp[a5]
   intro tm' m' ej cL dN qJ w8;have s8:=w8.1.m
   have aZ:(gA.set r (x.1,x.2.1,(hx ((f1,f2),(f3,f4)) x.2.2).1))[r]?=some (x.1,x.2.1,(hx ((f1,f2),(f3,f4)) x.2.2).1):=by
    rw[mo,ad rfl,ad (by rw[I1.len];exact pn)]
   simp only[go_sem,go_sem_proc,ej,cL,dN,s8];refine avx T z3 yv iO m8 go N r c mem Du Dv fM pn BL _ qJ x _ aZ _ _ _ ?_ ?_ ?_ ?_ ?_ ?_ w8 ?_
   ·exact ej
   ·exact cL
   ·exact dN
   ·rfl
   ·rfl
   ·rfl
   intro ais g4 vC;refine a1 ?_;repeat' (intro h<;>simp only[h,go_sem,go_sem_proc]<;>try refine al ?_ ?_)
   exact⟨_,rfl,rfl,vC⟩
  ·have hw:=eu (i:=i) (by omega);refine a1 ?_;repeat' (intro h<;>simp only[h,go_sem,go_sem_proc,z3,yv,aj,G,J,bE,vG,MW,I2,aip,aiq,air,yA,av,ee,BL,m4,hw,cD]<;>try refine al ?_ ?_)
   refine⟨i+1,by omega,by omega,by omega,?_,rfl⟩
   intro j y avL wy ao
   by_cases lz:j=i
   ·subst lz;rw[M] at ao
    cases ao;rw[nr];exact m4
   ·exact a2 j y avL (by omega) ao
 ·have avM:i=N:=by omega
  subst avM;have ee:decide ((i:Int)<(i:Int))=false:=cu;have ta:=avj (rows:=rows) (r:=r) (c:=c) (by omega) (λj y ax ao=>a2 j y ax (by have:=(eg.1 ao).1;omega) ao);have aC:iA rows r c=(true,rows,false):=by unfold iA;rw[ad ta]
  rw[aC];refine a1 ?_;repeat' (intro h<;>simp only[h,go_sem,go_sem_proc,z3,yv,aj,G,J,bE,vG,MW,ee,beq_self_eq_true]<;>try refine al ?_ ?_)
  exact⟨_,rfl,rfl,bW,λ_ _=>rfl⟩
structure Ru where
 go:Nat
 N:Nat
 rows:List dE
 r:Nat
 c:Nat
def ZA (a:Ru)(mem:Mem):Prop:=kO a.N a.rows/\BJ a.go a.N a.rows false mem/\mem 168004=none/\mem 168006=none/\a.N<=40/\a.r<=a.c/\a.c<a.N
def ZB (a:Ru)(mem:Mem):R->Mem->Prop:=λm mem'=>m=.I (.bool (iA a.rows a.r a.c).1)/\lh mem a.go a.N (iA a.rows a.r a.c).2.1 (iA a.rows a.r a.c).2.2 mem'
def MY:List R->Mem->Option (R->Mem->Prop):=zZ (λ(a:Ru) args mem=>args=[.ptr 129015 0 0,.I (.int .i64 a.r),.I (.int .i64 a.c)]/\ZA a mem) ZB
theorem avN {N:Nat}{a b:List dE}(h:refsOf N a=refsOf N b):a.map (λx=>(x.1,x.2.1))=b.map λx=>(x.1,x.2.1):=by
 induction a generalizing b with
 |nil=>cases b with
  |nil=>rfl
  |cons y r=>simp[refsOf] at h
 |cons x a aH=>cases b with
  |nil=>simp[refsOf] at h
  |cons y b =>
   simp only[refsOf,eI,bf,R.ref.injEq] at h;have G:x.1=y.1:=by have:=h.1.1;simp only[Key] at this;omega
   simp only[eI,bf,fJ];exact⟨⟨G,h.1.2.1⟩,aH h.2⟩
theorem avO (a:Ru)(mem:Mem)(h:ZA a mem):MY [.ptr 129015 0 0,.I (.int .i64 a.r),.I (.int .i64 a.c)] mem=some (ZB a mem):=by
 unfold MY;refine avc (a:=a) ?_ ⟨rfl,h⟩;rintro a b args mem ⟨G,J,af,_⟩ ⟨aP,bh,bK,_⟩;rw[G] at aP;simp only[bf,R.I.injEq,Data.int.injEq,true_and,and_true] at aP;have hm:=af.m;rw[bK.m] at hm;simp only[cO,fJ,bf,R.ref.injEq,true_and,and_true] at hm;obtain⟨⟨bq,aM⟩,-⟩:=hm;have bS:=af.o;rw[bK.o] at bS;simp only[cO,fJ] at bS;obtain⟨ey,aJ9,ZC,cE,cS⟩:=a;obtain⟨aKa,aKb,ZD,c0,et⟩:=b;dsimp only at *;subst bq aM
 have X:ZD=ZC:=by
  have bE:=avN bS.2;have az:(D ZD)=D ZC:=by have:=congrArg D bE;simpa using this
  apply List.ext_getElem az;intro i ob sL;have bP:(ZD.map λx=>(x.1,x.2.1))[i]?=(ZC.map λx=>(x.1,x.2.1))[i]?:=by rw[bE]
  rw[aW,aW,bB ob,bB sL] at bP;simp only[l9,cO,fJ] at bP;have eS:=bK.r _ (nM ob);have eO:=af.r _ (nM sL);rw[bP.1,eO] at eS;simp only[cO,fJ] at eS;have:=avh eS.2;exact ei bP.1 (ei bP.2 this.symm)
 subst X;have ay:cE=c0:=by omega
 have aA:cS=et:=by omega
 subst ay aA
 rfl
theorem avP {args:List R}{mem:Mem}{bV:R->Mem->Prop}(h:MY args mem=some bV):∃a,args=[.ptr 129015 0 0,.I (.int .i64 a.r),.I (.int .i64 a.c)]/\ZA a mem/\bV=ZB a mem:=by
 obtain⟨a,⟨G,J⟩,af⟩:=Rj h;exact⟨a,G,J,af⟩
theorem MZ (l:List bG):((l.map aw).all λe=>D e==4)=true:=by simp[aw]
abbrev ZE:List bG->List Data:=λ(l:List bG)=>[.Y (l.map aw)]
def Rv:=cy ZE λ(l:List bG)=>cT (D l<=1000000) (.own 4 (l.map aw))
theorem avQ:∀a b,ZE a=ZE b->a=b:=by
  intro dr aa h;exact map_inj uk _ _ (by simpa using h)
@[go_sem] theorem aKc (l:List bG)(H:(D l)<=1000000):Rv [.Y (l.map aw)]=some (.own 4 (l.map aw)):=(cF avQ l).trans (cY H _)
theorem avR (T:bm)  (l:List bG) (H:(D l)<=1000000):WP T WI (.own 4 (l.map aw)) [.I (.Y (l.map aw))]:=by
 refine cH ?_;simp only[WI]
 have cW:lr 147005 0 4 0 64 (D l) ((l.map aw).flatten.map .I) (some (0,[]))=some (.ref 147005 1 4 0 (D l),some (147005,1,aS aw l)):=by
  have:=A5 jS yo 147005 0 64 [] l (by simp;omega) (by simp;omega)
  simpa [aS] using this
 have hlen:(aS aw l).length=D l*4:=lB jS l;refine a1 ?_;repeat' (intro h<;>simp only[h,go_sem,go_sem_proc,MZ,cW,ah]<;>try refine al ?_ ?_)
 rintro b ai
 cases b
 ·refine a1 ?_;repeat' (intro h<;>simp only[h,go_sem,go_sem_proc,MZ,cW,ah,tS,hlen]<;>try refine al ?_ ?_)
  rw[ad (by omega),dH (by omega)];unfold aS;rw[EH _ λd=>rfl];have:=CL (sz:=4) (l.map aw) (by intro e he;obtain⟨f,-,rfl⟩:=gE.1 he;rfl);rw[ah] at this;simp[this]
 ·cases l with
  |nil =>
       refine a1 ?_;repeat' (intro h<;>simp only[h,go_sem,go_sem_proc,tS,b6]<;>try refine al ?_ ?_)
  |cons x r=>simp at ai
def hJ (rs:List b9):List dE:=rs.zipIdx.map λp=>(p.2,0,p.1.1++[p.1.2])
theorem FW (rs:List b9):(hJ rs).length=D rs:=by simp[hJ]
theorem ait {rs:List b9}{i:Nat}{r:b9}(h:rs[i]?=some r):(hJ rs)[i]?=some (i,0,r.1++[r.2]):=by
 unfold hJ;rw[aW,Rw,h];simp
theorem ZF {rs:List b9}{i:Nat}{r:b9}(h:rs[i]?=some r):(hJ rs).take (i+1)=(hJ rs).take i++[(i,0,r.1++[r.2])]:=by
 rw[g2,ait h]
 rfl
theorem avS {rs:List b9}{i:Nat}{x:dE}(h:x∈(hJ rs).take i):x.1<i/\x.2.1=0:=by
 obtain⟨j,ax⟩:=zs.1 h;rw[List.getElem?_take] at ax
 split at ax
 ·rename_i lz;unfold hJ at ax;rw[aW,Rw] at ax
  cases X:rs[j]? with
  |none=>rw[X] at ax;cases ax
  |some r =>
   rw[X] at ax;simp only[l9,cO] at ax;subst ax;exact⟨by simpa using lz,rfl⟩
 ·cases ax
theorem avT (N:Nat)(a b:List dE):refsOf N (a++b)=refsOf N a++refsOf N b:=by simp[refsOf]
theorem I3 (N:Nat)(a:List dE):(refsOf N a).length=D a:=by simp[refsOf]
structure BM (N:Nat) (rs:List b9) (i go:Nat) (mem:Mem):Prop where
 z:i=0->mem 129015=some (0,[.nil,.I (.int .i64 N),.I (.bool false)])
 p:0<i->mem 129015=some (0,[.ref 129035 go 1 0 i,.I (.int .i64 N),.I (.bool false)])/\mem 129035=some (go,refsOf N ((hJ rs).take i))
 r:∀x∈(hJ rs).take i,mem (x.1+900000)=some (x.2.1,aS aw x.2.2)
 n:∀j:Nat,i<=j->mem (j+900000)=none
 a:mem 168004=none
 b:mem 168006=none
theorem aiu (l:List bG):(l.map aw).flatten.map R.I=aS aw l:=rfl
theorem avU (bD:Nat)(l:List bG)(v1:Int)(v2:List Int)(jb:Int)(v4:List Int)(h:(D l)<=1000000):lr 129029 bD 4 (D l) 64 1 [.I (.int .i64 v1),.I (.Y (v2.map ae)),.I (.int .i64 jb),.I (.Y (v4.map ae))] (some (bD,aS aw l))=some (.ref 129029 (bD+1) 4 0 (D l+1),some (129029,bD+1,aS aw (l++[((v1,v2),(jb,v4))]))) :=
 ka jS yo 129029 bD 64 l ((v1,v2),(jb,v4)) rfl (by omega) (by omega)
theorem avV (N bD i g:Nat)(a:List dE)(U:(D a)=i)(h:i<=1000)(m:R)(hm:m=.ref 129029 g 4 0 (N+1)):lr 129035 bD 1 i 24 1 [m] (some (bD,refsOf N a))=some (.ref 129035 (bD+1) 1 0 (i+1),some (129035,bD+1,refsOf N a++[m])):=by
 subst hm;unfold lr;dsimp only;rw[ad ⟨rfl,by rw[I3];omega,by omega,by unfold maxLen;omega,rfl⟩,dH (by rw[I3];omega)]
theorem avW {N i go go' bD:Nat}{rs:List b9}{r:b9}{m m':Mem}(ai:BM N rs i go m)(X:rs[i]?=some r)(uf:m' 129015=some (0,[.ref 129035 go' 1 0 (i+1),.I (.int .i64 N),.I (.bool false)]))(aD:∀k:Nat,900000<=k\/k=168004\/k=168006->m' k=m k):
  BM N rs (i+1) go' (a5 (a5 (a5 m' 129029 (cA m' 129029) []) (i+900000) (cA m' (i+900000)) (aS aw (r.1++[r.2]))) 129035 go' ((refsOf N ((hJ rs).take i)++[R.ref 129029 bD 4 0 (N+1)]).set i (R.ref (i+900000) (cA m' (i+900000)) 4 0 (N+1)))):=by
 have av:=(eg.1 X).1
 have bq:cA m' (i+900000)=0:=by
  unfold cA;rw[aD _ (.inl (by omega)),ai.n i (cI _)]
 have kQ:(refsOf N ((hJ rs).take i)).length=i:=by rw[I3,fU,FW];omega
 rw[bq]
 have lj:(refsOf N ((hJ rs).take i)++[R.ref 129029 bD 4 0 (N+1)]).set i (.ref (i+900000) 0 4 0 (N+1))=refsOf N ((hJ rs).take (i+1)):=by
  rw[z2 _ _ (by omega),kQ,j6,kP,ZF X,avT]
  rfl
 rw[lj];have M0:∀(k:Nat),k≠129029->k≠129035->k≠i+900000->a5 (a5 (a5 m' 129029 (cA m' 129029) []) (i+900000) 0 (aS aw (r.1++[r.2]))) 129035 go' (refsOf N ((hJ rs).take (i+1))) k=m' k:=λk G J af=>by simp[a5,G,J,af]
 refine⟨λh=>by omega,λ_=>⟨by rw[M0 _ (by omega) (by omega) (by omega)];exact uf,by simp[a5]⟩,λx M=>?_,λj ax=>?_,?_,?_⟩
 ·rw[ZF X,jy,ye] at M;rcases M with M|rfl
  ·obtain⟨lC,ow⟩:=avS M;rw[M0 _ (by omega) (by omega) (by omega),aD _ (.inl (by omega))];exact ai.r x M
  ·have J:(i+900000:Nat)≠129035:=by omega
   simp[a5]
 ·rw[M0 _ (by omega) (by omega) (by omega),aD _ (.inl (by omega))];exact ai.n j (by omega)
 ·rw[M0 _ (by omega) (by omega) (by omega),aD _ (.inr (.inl rfl))];exact ai.a
 ·rw[M0 _ (by omega) (by omega) (by omega),aD _ (.inr (.inr rfl))];exact ai.b
theorem aiv {K:bg->Prop}{tm:Nat->R}{N i go:Nat}(go' bD:Nat){rs:List b9}{r:b9}{m m':Mem}(ai:BM N rs i go m)(X:rs[i]?=some r)(uf:m' 129015=some (0,[.ref 129035 go' 1 0 (i+1),.I (.int .i64 N),.I (.bool false)]))
  (Rx:m' 129035=some (go',refsOf N ((hJ rs).take i)++[.ref 129029 bD 4 0 (N+1)])) (Ry:m' 129029=some (bD,aS aw (r.1++[r.2]))) (aD:∀k:Nat,900000<=k\/k=168004\/k=168006->m' k=m k) (h:∀bp,BM N rs (i+1) go' bp->K ⟨tm,bp⟩):k1 K ⟨tm,m'⟩ .move:=by
 have av:=(eg.1 X).1;have kQ:(refsOf N ((hJ rs).take i)).length=i:=by rw[I3,fU,FW];omega
 exact arf 129035 i 129029 (i+900000) Rx (by rw[nK (by omega),kQ,j6];rfl) Ry (by omega) (show (i+900000:Nat)≠129029 by omega) (show (i+900000:Nat)≠129035 by omega) (h _ (avW ai X uf aD))
theorem mL {m:Mem}{k g:Nat}{cs:List R}{j:Nat}(h:j≠k):a5 m k g cs j=m j:=ag h
theorem avX (T:bm)(na:T PM=aO Rv){K:eF->bg->Prop}{kk:List fB}(N:Nat)(rs:List b9)(stop:Bool)(fM:N<=40)(hlen:(D rs)=N)(xV:∀r∈rs,r.1.length=N/\lN r)(tm:Nat->R)(m:Mem)
  (ay:tm 1=.I (.int .i64 N)) (aA:tm 2=.I (.bool stop)) (dg:tm 8=.ptr 129015 0 0) (BN:tm 16=.I (.Y (rs.map cM))) (ry:tm 17=.I (.int .i64 N)) (Dx:tm 18=.I (.int .i64 0)) (ai:BM N rs 0 0 m)
  (cX:∀tm' m' go,tm' 1=.I (.int .i64 N)->tm' 2=.I (.bool stop)->tm' 8=.ptr 129015 0 0->BM N rs N go m'->cj T K kk (.exit 0) ⟨tm',m'⟩) :
  wp T (Mv.body.sub [1,1,0,1,0]) (cj T K kk) ⟨tm,m⟩:=by
 simp only[Mv,ep.sub];refine c9 [1,2,8,16,17] [] (λ((i,go):Nat×Nat) tm m=>i<=N/\tm 18=.I (.int .i64 i)/\BM N rs i go m) (λ(i,_)=>N-i) (0,0) (by exact⟨fA _,Dx,ai⟩) ?_;intro vs ms aK aF;simp only[go_sem,go_sem_proc,ay,aA,dg,BN,ry] at aK aF;subst aK aF;clear ay aA dg BN ry Dx ai tm m;rintro⟨i,go⟩ tm m L hm ⟨MV,kL,ai⟩;simp only[go_sem,go_sem_proc,bf] at L hm;obtain⟨G,J,bP,rb,jR⟩:=L;rcases dk (i<N) with av|b4
 ·obtain⟨⟨A,⟨v1,v2⟩,⟨jb,v4⟩⟩,X⟩:∃r,rs[i]?=some r:=⟨_,bB (by omega)⟩;obtain⟨tb,⟨aiw,qM⟩,uB,mF⟩:=xV _ (dS X);dsimp only at tb aiw qM uB mF;have ld:decide ((i:Int)<(N:Int))=true:=c5;have hw:=eu (i:=i) (by omega);have cW:∀bD,lr 129029 bD 4 N 64 1 _ _=_:=λbD=>tb ▸ avU bD A v1 v2 jb v4 aiw;have aix:N<=1000000:=by omega
  have ho:(1<=maxLen)=True:=eq_true (by unfold maxLen;omega);have aKd:=ZF X;have kQ:((hJ rs).take i).length=i:=by rw[fU,FW];omega
  rcases k3 i with aj|iX
  ·have vG:=ai.z aj;refine a1 ?_;repeat' (intro h<;>simp only[h,go_sem,go_sem_proc,na,G,J,bP,rb,jR,kL,vG,ld,X,hw,aix,tb,cW,ho,aiu,ah,aW,cM,aw,decide_true,decide_false,ne_eq,not_false_eq_true,and_self]<;>try refine al ?_ ?_)
   refine aiv (gd (m 129035)) (gd (m 129029)+1) ai X (by simp[a5,aj]) (by simp[a5,aj,refsOf]) (by simp[a5]) (λk L=>?_) λbp jK=>?_
   ·rw[mL (by omega),mL (by omega),mL (by omega),mL (by omega),mL (by omega),mL (by omega),mL (by omega)]
   ·refine a1 ?_;repeat' (intro h<;>simp only[h,go_sem,go_sem_proc,G,J,bP,rb,jR,kL,hw]<;>try refine al ?_ ?_)
    exact⟨(i+1,gd (m 129035)),by dsimp only;omega,by dsimp only;omega,rfl,jK⟩
  ·obtain⟨vG,MW⟩:=ai.p iX;have avY:=avV N go i (gd (m 129029)+1) ((hJ rs).take i) kQ (by omega) _ rfl;refine a1 ?_;repeat' (intro h<;>simp only[h,go_sem,go_sem_proc,na,G,J,bP,rb,jR,kL,vG,MW,ld,X,hw,aix,tb,cW,avY,aiu,ah,aW,cM,aw,decide_true,decide_false,ne_eq,not_false_eq_true,and_self]<;>try refine al ?_ ?_)
   refine aiv (go+1) (gd (m 129029)+1) ai X (by simp[a5]) (by simp[a5]) (by simp[a5]) (λk L=>?_) λbp jK=>?_
   ·rw[mL (by omega),mL (by omega),mL (by omega),mL (by omega),mL (by omega),mL (by omega),mL (by omega)]
   ·refine a1 ?_;repeat' (intro h<;>simp only[h,go_sem,go_sem_proc,G,J,bP,rb,jR,kL,hw]<;>try refine al ?_ ?_)
    exact⟨(i+1,go+1),by dsimp only;omega,by dsimp only;omega,rfl,jK⟩
 ·have ld:decide ((i:Int)<(N:Int))=false:=cu;obtain rfl:i=N:=by omega
  refine a1 ?_;repeat' (intro h<;>simp only[h,go_sem,go_sem_proc,G,J,bP,rb,jR,kL,ld]<;>try refine al ?_ ?_)
  refine cX _ _ go ?_ ?_ ?_ ai<;>simp only[dv,cx,if_false,G,J,bP]
def lk (stop:Bool):Nat->Nat->List dE->List Nat->Bool->List dE×List Nat×Bool
 |0,_,rows,free,bad=>(rows,free,bad)
 |_+1,_,rows,free,true=>(rows,free,true)
 |k+1,c,rows,free,false =>
  if (iA rows (c-D free) c).1=true then
   (if stop=true then ((iA rows (c-D free) c).2.1,free++[c],(iA rows (c-D free) c).2.2) else lk stop k (c+1) (iA rows (c-D free) c).2.1 (free++[c]) (iA rows (c-D free) c).2.2)
  else lk stop k (c+1) (iA rows (c-D free) c).2.1 free (iA rows (c-D free) c).2.2
theorem Rz (stop:Bool)(k c:Nat)(rows:List dE)(free:List Nat):lk stop k c rows free true=(rows,free,true):=by
 cases k<;>rfl
def hK (n:Nat):List Data:=[.int .i64 n]
theorem vH (n:Nat):(hK n).length=1:=rfl
theorem aiy (n:Nat):((hK n).map R.I).all R.one=true:=rfl
def ZG (N:Nat)(rows:List dE)(bad:Bool):Data:=.ptr [.Y (rows.map λx=>[.Y (x.2.2.map aw)]),.int .i64 N,.bool bad]
def I4 (N:Nat)(p:List dE×List Nat×Bool):Data:=.cB [ZG N p.1 p.2.2,.Y (p.2.1.map hK)]
theorem RA (fX:List bG)(r c:Nat):∀(i:Nat) (l:List dE) (b:Bool),(iN fX r c i l b).1.map (λx=>(x.1,x.2.1,x.2.2.length))=l.map λx=>(x.1,x.2.1,x.2.2.length)
 |_,[],_=>rfl
 |i,x::xs,b=>by
  unfold iN
  split
  ·simp only[eI,RA fX r c (i+1) xs b]
  ·simp only[eI,RA fX r c (i+1) xs,ah9]
theorem aiz (fD:bG):∀(l p:List bG) (b:Bool),(∀f∈l,okF f)->∀f∈(iz fD l p b).1,okF f
 | [],p,b,h=>by rw[aia];exact h
 |f::eb,[],b,h=>by cases b<;>(simp only[iz];exact h)
 |f::eb,p::dM,true,h=>by simp only[iz];exact h
 |f::eb,p::dM,false,h=>by
  simp only[iz];intro g bq;rcases m1.1 bq with rfl|bq
  ·exact Zo _ _
  ·exact aiz fD eb dM _ (λx M=>h x (h3 _ M)) g bq
theorem ZH (fX:List bG)(r c:Nat):∀(i:Nat) (l:List dE) (b:Bool),(∀x∈l,∀f∈x.2.2,okF f)->∀x∈(iN fX r c i l b).1,∀f∈x.2.2,okF f
 |_,[],_,h=>h
 |i,x::xs,b,h=>by
  unfold iN
  split
  ·intro y ao;rcases m1.1 ao with rfl|ao
   ·exact h _ g0
   ·exact ZH fX r c (i+1) xs b (λz a2=>h z (h3 _ a2)) y ao
  ·intro y ao;rcases m1.1 ao with rfl|ao
   ·exact aiz _ _ _ _ (h _ g0)
   ·exact ZH fX r c (i+1) xs _ (λz a2=>h z (h3 _ a2)) y ao
theorem aiA (rows:List dE)(r c:Nat)(X:r<=D rows):r<=findAt rows r c/\findAt rows r c<=D rows:=by
 unfold findAt;have:=aiB (p:=λx => !g7 (cellOf x c)) (xs:=rows.drop r);rw[oi] at this;omega
theorem kO.FX {N:Nat}{rows:List dE}(h:kO N rows){r c:Nat}(X:r<N):kO N (iA rows r c).2.1:=by
 unfold iA
 split
 ·exact h
 ·rename_i b5;have jg:=aiA rows r c (by rw[h.len];omega);have az:=h.len;obtain⟨x,M⟩:∃x,rows[findAt rows r c]?=some x:=⟨_,bB (by omega)⟩;obtain⟨sj,m7⟩:∃x,rows[r]?=some x:=⟨_,bB (by omega)⟩
  have rv:kO N (nA rows r (findAt rows r c)):=by
   unfold nA;rw[uw M,uw m7];exact h.swap m7 M
  have vF:(nA rows r (findAt rows r c))[r]?=some x:=by
   unfold nA;rw[uw M,uw m7];exact MN M m7
  generalize nA rows r (findAt rows r c)=gA at *;obtain⟨zg,yz⟩:=rv.row x (dS vF)
  have o7:kO N (BK gA r c):=by
   unfold BK;rw[uw vF];refine rv.set vF (by simp[hx,zg]) λf aD=>?_;obtain⟨g,-,rfl⟩:=gE.1 aD;exact Rs _ _
  generalize BK gA r c=e9 at *;have o2:=RA (hx (cellOf (rowAt gA r) c) (rowAt gA r).2.2).1 r c 0 e9 (hx (cellOf (rowAt gA r) c) (rowAt gA r).2.2).2;have cR:=ZH (hx (cellOf (rowAt gA r) c) (rowAt gA r).2.2).1 r c 0 e9 (hx (cellOf (rowAt gA r) c) (rowAt gA r).2.2).2 λx M=>(o7.row x M).2;dsimp only;generalize (iN (hx (cellOf (rowAt gA r) c) (rowAt gA r).2.2).1 r c 0 e9 (hx (cellOf (rowAt gA r) c) (rowAt gA r).2.2).2).1=el at *;refine⟨?_,?_,λy ao=>⟨?_,cR y ao⟩⟩
  ·have:=congrArg D o2;rw[ah,ah] at this;rw[this,o7.len]
  ·have G:el.map (·.1)=e9.map (·.1):=by
    have:=congrArg (oD λp:Nat×Nat×Nat=>p.1) o2
    simpa [pQ,Function.comp_def] using this
   rw[G];exact o7.Rq
  ·have G:el.map (λx=>x.2.2.length)=e9.map λx=>x.2.2.length:=by
    have:=congrArg (oD λp:Nat×Nat×Nat=>p.2.2) o2
    simpa [pQ,Function.comp_def] using this
   have J:y.2.2.length∈e9.map λx=>x.2.2.length:=by rw[<-G];exact gE.2 ⟨y,ao,rfl⟩
   obtain⟨z,a2,e⟩:=gE.1 J;rw[<-e];exact (o7.row z a2).1
theorem avZ {n k g N:Nat}{mem:Mem}{l:List bG}(az:(D l)=N+1)(hm:mem k=some (g,aS aw l)):dx (n+1) mem (.ref k g 4 0 (N+1))=some (.Y (l.map aw)):=by
 rw[<-az];exact kt jS hm
theorem av0 {n N:Nat}{mem:Mem}{rows:List dE}(h:∀x∈rows,mem (x.1+900000)=some (x.2.1,aS aw x.2.2))(az:∀x∈rows,x.2.2.length=N+1):(refsOf N rows).mapM (dx (n+1) mem)=some (rows.map λx => .Y (x.2.2.map aw)):=by
 unfold refsOf
 induction rows with
 |nil=>rfl
 |cons x xs aH =>
  have G:=avZ (n:=n) (az x g0) (h x g0);have J:=aH (λy ao=>h y (h3 _ ao)) λy ao=>az y (h3 _ ao);simp only[eI,oa,G,J]
  rfl
theorem ZI {n N go:Nat}{mem:Mem}{rows:List dE}{bad:Bool}(cR:kO N rows)(h:BJ go N rows bad mem):dx (n+3) mem (.ptr 129015 0 0)=some (ZG N rows bad):=by
 have G:=av0 (n:=n) h.r λx M=>(cR.row x M).1
 have J:dx (n+2) mem (.ref 129035 go 1 0 N)=some (.Y (rows.map λx=>[.Y (x.2.2.map aw)])):=by
  unfold dx;rw[h.o];simp only[if_true];unfold cut;rw[ad (by rw[I3,cR.len];omega),nP,dH (by rw[I3,cR.len];omega)];dsimp only;rw[G];have:=CL (sz:=1) (rows.map λx=>[Data.Y (x.2.2.map aw)]) (by intro e he;obtain⟨x,-,rfl⟩:=gE.1 he;rfl);rw[ah,cR.len] at this;simp only[l9,cO,Data.Y.injEq]
  have jg:∀l:List dE,(l.map λx=>Data.Y (x.2.2.map aw))=(l.map λx=>[Data.Y (x.2.2.map aw)]).flatten:=by
   intro l
   induction l with
   |nil=>rfl
   |cons x xs aH=>simp only[eI,lZ,aH];rfl
  rw[jg,this]
 unfold dx;rw[h.m];simp only[if_true,nP,oa,List.mapM_nil,J,true_and,fA];simp only[PD]
 rfl
theorem BM.av1 {N go:Nat}{rs:List b9}{m:Mem}(az:(D rs)=N)(fM:0<N)(h:BM N rs N go m):BJ go N (hJ rs) false m:=by
 have cm:(hJ rs).take N=hJ rs:=dH (by rw[FW];omega);have aC:=h.p fM;rw[cm] at aC;exact⟨aC.1,aC.2,by have:=h.r;rw[cm] at this;exact this⟩
theorem BJ.other {go N:Nat}{rows:List dE}{bad:Bool}{mem:Mem}{k g:Nat}{cs:List R}(h:BJ go N rows bad mem)(G:k≠129015)(J:k≠129035)(af:k<900000):BJ go N rows bad (a5 mem k g cs) :=
 ⟨(mL (Ne.symm G)).trans h.m,(mL (Ne.symm J)).trans h.o,λx M=>(mL (show (x.1+900000:Nat)≠k by omega)).trans (h.r x M)⟩
theorem aiC {N:Nat}{rs:List b9}(az:(D rs)=N)(h:∀r∈rs,r.1.length=N/\lN r):kO N (hJ rs):=by
 refine⟨by rw[FW,az],?_,λx M=>?_⟩
 ·have:(hJ rs).map (·.1)=eY (D rs):=by
   unfold hJ;rw[pQ];apply pJ;intro i;rw[aW,Rw];rcases hn i (D rs) with h|h
   ·rw[bB h];simp[h]
   ·rw[iD h];simp[h]
  rw[this];exact List.nodup_range
 ·unfold hJ at M;obtain⟨⟨r,i⟩,aC,rfl⟩:=gE.1 M;have X:=List.fst_mem_of_mem_zipIdx aC;obtain⟨G,J,af⟩:=h r X;refine⟨by simp[G],λf aD=>?_⟩
  rw[jy,ye] at aD;rcases aD with aD|rfl
  ·exact J.2 f aD
  ·exact af
abbrev ZJ:(List b9)×Int×Bool->List Data:=λ(rs,n,stop)=>[.Y (rs.map cM),.int .i64 n,.bool stop]
def RB:=cy ZJ λ(rs,n,stop)=>cT ((D rs:Int)=n/\D rs<=40/\∀r∈rs,r.1.length=D rs/\lN r) (.same (I4 (D rs) (lk stop (D rs) 0 (hJ rs) [] false)))
theorem av2:∀a b,ZJ a=ZJ b->a=b:=by
  rintro⟨QV,h0,av3⟩ ⟨QW,iE,av4⟩ h;simp only[bf,Data.Y.injEq,Data.int.injEq,Data.bool.injEq] at h;exact ei (map_inj Dg _ _ h.1) (ei h.2.1.2 h.2.2.1)
@[go_sem] theorem av5 (rs:List b9)(n:Int)(stop:Bool)(H:(D rs:Int)=n/\D rs<=40/\∀r∈rs,r.1.length=D rs/\lN r):RB [.Y (rs.map cM),.int .i64 n,.bool stop]=some (.same (I4 (D rs) (lk stop (D rs) 0 (hJ rs) [] false))):=(cF av2 (rs,n,stop)).trans (cY H _)
theorem av6 (T:bm)(na:T PM=aO Rv)(oE:T VD=vA MY)(rs:List b9)(n:Int)(stop:Bool)(H:(D rs:Int)=n/\D rs<=40/\∀r∈rs,r.1.length=D rs/\lN r):WP T Mv (.same (I4 (D rs) (lk stop (D rs) 0 (hJ rs) [] false))) [.I (.Y (rs.map cM)),.I (.int .i64 n),.I (.bool stop)]:=by
 refine cH ?_;simp only[Mv];obtain⟨aM,fM,xV⟩:=H;subst aM;simp only[go_sem,go_sem_proc,na,oE,ah];generalize ZK:(D rs)=N at *;refine avX T na N rs stop fM ZK xV _ _ rfl rfl rfl rfl rfl rfl ⟨λ_=>by simp[a5],λh=>by omega,λx M=>by simp at M,λj _=>mL (show (j+900000:Nat)≠129015 by omega),mL (by omega),mL (by omega)⟩ ?_
 intro tm m go G J bP ai;rcases k3 N with aj|iX
 ·have iw:rs=[]:=List.eq_nil_of_length_eq_zero (by omega);have a2:=ai.z aj;subst aj;subst iw;simp only[go_sem,go_sem_proc,na,oE,G,J,bP];refine c9 [1,2,8] [129015] (λ(_:Unit) tm' m'=>tm' 11=.ref 129061 (gd (m 129061)) 1 0 0/\m' 129061=some (gd (m 129061),[])/\tm' 12=.I (.int .i64 0)) (λ_=>0) () (by refine⟨rfl,?_,rfl⟩;simp[a5]) ?_;intro vs ms aK aF;simp only[go_sem,go_sem_proc,na,oE,G,J,bP,a2] at aK aF;subst aK aF;rintro _ tm' m' L hm ⟨la,I5,ky⟩;simp only[go_sem,go_sem_proc,na,oE,bf] at L hm;obtain⟨cL,dN,gR⟩:=L;simp only[go_sem,go_sem_proc,na,oE,cL,dN,gR,hm,la,I5,ky,show decide ((0:Int)<((0:Nat):Int))=false from rfl,dx,xK,nP];repeat' (first|refine al ?_ ?_|fail)<;>intro h<;>simp only[h,go_sem,go_sem_proc,na,oE,cL,dN,gR,hm,la,I5,ky,show decide ((0:Int)<((0:Nat):Int))=false from rfl,dx,xK,nP]
  rfl
 ·have BO:=ai.av1 ZK iX;have cR:=aiC ZK xV;have M5:=ai.a;have M6:=ai.b;clear ai;simp only[go_sem,go_sem_proc,na,oE,G,J,bP]
  refine c9 [1,2,8] [] (λ((c,rows,free,bad,g):Nat×List dE×List Nat×Bool×Nat) tm m=>c<=N/\D free<=c/\lk stop N 0 (hJ rs) [] false=lk stop (N-c) c rows free bad/\kO N rows/\BJ go N rows bad m/\m 168004=none/\m 168006=none/\tm 11=.ref 129061 g 1 0 (D free)/\m 129061=some (g,aS hK free)/\tm 12=.I (.int .i64 c)) (λ(c,_,_,_,_)=>N-c) (0,hJ rs,[],false,gd (m 129061)) (by
   refine⟨fA _,cI _,rfl,cR,⟨?_,?_,λx M=>?_⟩,?_,?_,rfl,?_,rfl⟩
   ·rw[mL (by omega)];exact BO.m
   ·rw[mL (by omega)];exact BO.o
   ·rw[mL (show (x.1+900000:Nat)≠129061 by omega)];exact BO.r x M
   ·rw[mL (by omega)];exact M5
   ·rw[mL (by omega)];exact M6
   ·simp[a5,aS]) ?_
  intro vs ms aK aF;simp only[go_sem,go_sem_proc,na,oE,G,J,bP] at aK aF;subst aK aF;clear G J bP BO M5 M6;rintro⟨c,rows,free,bad,g⟩ tm m L hm ⟨uA,aKe,l4,cR,BO,M5,M6,la,I5,ky⟩;simp only[go_sem,go_sem_proc,na,oE,bf] at L hm;obtain⟨G,J,bP⟩:=L;have vG:=BO.m
  have Xw:lk stop N 0 (hJ rs) [] false=(rows,free,bad)->((dx 5 m (.ptr 129015 0 0)).bind λd=>(dx 5 m (.ref 129061 g 1 0 (D free))).bind λe=>some (Data.cB [d,e]))=some (I4 N (lk stop N 0 (hJ rs) [] false)):=by
   intro h;rw[h,ZI (n:=2) cR BO,kt vH I5]
   rfl
  have tc:=ZI (n:=2) cR BO;have sm:=kt (n:=4) vH I5;rcases dk (c<N) with av|b4
  ·have eC:decide ((c:Int)<(N:Int))=true:=c5
   cases bad
   ·have o6:IntKind.i64.wrap ((c:Int)-(D free:Int))=((c-D free:Nat):Int):=by rw[e7 _];omega
    have fQ:=eu (i:=c) (by omega);have fF:=avO ⟨go,N,rows,c-D free,c⟩ m ⟨cR,BO,M5,M6,fM,Nat.sub_le _ _,av⟩;dsimp only at fF;have ZL:N-c=(N-(c+1))+1:=by omega
    rw[ZL] at l4;simp only[lk] at l4;have yw:=cR.FX (r:=c-D free) (c:=c) (by omega);simp only[go_sem,go_sem_proc,na,oE,oE,G,J,bP,la,ky,vG,eC,o6,fF];intro FH m' iF;obtain⟨MB,g6⟩:=iF;dsimp only at MB g6;subst MB;have ja:m' 168004=none:=(g6.2 _ Zr).trans M5;have js:m' 168006=none:=(g6.2 _ Zs).trans M6;have M7:m' 129061=some (g,aS hK free):=(g6.2 129061 (by unfold IU;omega)).trans I5;have cW:lr 129061 g 1 (D free) 8 1 [.I (.int .i64 c)] (some (g,aS hK free))=_:=ka vH aiy 129061 g 8 free c rfl (by omega) (by omega);generalize aKf:iA rows (c-D free) c=ew at *;obtain⟨av7,aiD,aiE⟩:=ew;dsimp only at *
    cases av7
    ·simp only[kE,if_false] at l4;simp only[go_sem,go_sem_proc,na,oE,G,J,bP,la,ky,fQ];repeat' (first|refine al ?_ ?_|fail)<;>intro h<;>simp only[h,go_sem,go_sem_proc,na,oE,G,J,bP,la,ky,fQ]
     exact⟨(c+1,aiD,free,aiE,g),by dsimp only;omega,by dsimp only;omega,by dsimp only;omega,l4,yw,g6.1,ja,js,rfl,M7,rfl⟩
    ·simp only[if_true] at l4;have yB:=g6.1.other (k:=129061) (g:=g+1) (cs:=aS hK (free++[c])) (by omega) (by omega) (by omega)
     cases stop
     ·simp only[kE,if_false] at l4;simp only[go_sem,go_sem_proc,na,oE,G,J,bP,la,ky,fQ,M7,cW];repeat' (first|refine al ?_ ?_|fail)<;>intro h<;>simp only[h,go_sem,go_sem_proc,na,oE,G,J,bP,la,ky,fQ,M7,cW]
      exact⟨(c+1,aiD,free++[c],aiE,g+1),by dsimp only;omega,by dsimp only;omega,by simp;omega,l4,yw,yB,ja,js,by simp,rfl,rfl⟩
     ·simp only[if_true] at l4;simp only[go_sem,go_sem_proc,na,oE,G,J,bP,la,ky,fQ,M7,cW];repeat' (first|refine al ?_ ?_|fail)<;>intro h<;>simp only[h,go_sem,go_sem_proc,na,oE,G,J,bP,la,ky,fQ,M7,cW]
      have Dy:(D free)+1=(free++[c]).length:=by simp
      rw[ZI (n:=2) yw yB,Dy,kt (n:=4) vH (g:=g+1) (l:=free++[c]) (by simp[a5]),l4]
      rfl
   ·rw[Rz] at l4;simp only[go_sem,go_sem_proc,na,oE,G,J,bP,la,ky,vG,eC,tc,sm];repeat' (first|refine al ?_ ?_|fail)<;>intro h<;>simp only[h,go_sem,go_sem_proc,na,oE,G,J,bP,la,ky,vG,eC,tc,sm]
    rw[l4]
    rfl
  ·have eC:decide ((c:Int)<(N:Int))=false:=cu;have ZL:N-c=0:=by omega
   rw[ZL] at l4;simp only[lk] at l4;simp only[go_sem,go_sem_proc,na,oE,G,J,bP,la,ky,vG,eC,tc,sm];repeat' (first|refine al ?_ ?_|fail)<;>intro h<;>simp only[h,go_sem,go_sem_proc,na,oE,G,J,bP,la,ky,vG,eC,tc,sm]
   rw[l4]
   rfl
theorem RC {rs:List b9}{n:Int}(bS:lf rs)(h:iM rs n=true):(D rs:Int)=n/\D rs<=40/\∀r∈rs,r.1.length=D rs/\lN r:=by
 unfold iM at h;simp only[gb,Bool.not_eq_true',decide_eq_false_iff_not,beq_iff_eq] at h;obtain⟨G,J,af,aP⟩:=h;refine⟨af,by omega,λr X=>⟨?_,bS.2 r X⟩⟩
 rw[BP] at aP;have:=aP r X;unfold lg at this;simp at this;omega
theorem ZM {stop:Bool}{N:Nat}:∀(k c:Nat) (rows:List dE) (free:List Nat) (bad:Bool),c+k=N->kO N rows->kO N (lk stop k c rows free bad).1
 |0,_,rows,_,_,_,h=>h
 |k+1,c,rows,free,true,H,h=>h
 |k+1,c,rows,free,false,H,h=>by
  have aC:=h.FX (r:=c-D free) (c:=c) (by omega);unfold lk
  split
  ·split
   ·exact aC
   ·exact ZM k (c+1) _ _ _ (by omega) aC
  ·exact ZM k (c+1) _ _ _ (by omega) aC
def pq (stop:Bool)(rs:List b9):List dE×List Nat×Bool:=lk stop (D rs) 0 (hJ rs) [] false
theorem ZN (stop:Bool):∀(k c:Nat) (rows:List dE) (free:List Nat) (bad:Bool),(lk stop k c rows free bad).2.1.length<=D free+k
 |0,_,_,_,_=>by simp[lk]
 |k+1,c,rows,free,true=>by simp[lk]
 |k+1,c,rows,free,false=>by
  unfold lk
  split
  ·split
   ·simp
   ·have:=ZN stop k (c+1) (iA rows (c-D free) c).2.1 (free++[c]) (iA rows (c-D free) c).2.2;simp at this;omega
  ·have:=ZN stop k (c+1) (iA rows (c-D free) c).2.1 free (iA rows (c-D free) c).2.2;omega
theorem av8 (stop:Bool)(rs:List b9):(pq stop rs).2.1.length<=D rs:=by
 have:=ZN stop (D rs) 0 (hJ rs) [] false;unfold pq
 simpa using this
theorem av9 {rs:List b9}{stop:Bool}(h:∀r∈rs,r.1.length=D rs/\lN r):kO (D rs) (pq stop rs).1:=ZM _ _ _ _ _ (by omega) (aiC rfl h)
def vI (N:Nat)(x:dE):bG:=x.2.2.getD N c1
def p3 (rs:List b9)(n:Int):List bG×Int :=
 if iM rs n=true then (if (pq true rs).2.2=true then ([],6) else if (pq true rs).2.1.length>0 then ([],17) else ((pq true rs).1.map (vI (D rs)),0)) else ([],1)
theorem awa {N:Nat}{x:dE}{f:bG}(h:x.2.2[N]?=some f):vI N x=f:=by
 unfold vI;rw[ez,h]
 rfl
def ZO:=cy IC λ(rs,n)=>cT (lf rs) (.same (.cB [.Y ((p3 rs n).1.map aw),.int .i64 (p3 rs n).2]))
@[go_sem] theorem awb (rs:List b9)(n:Int)(H:lf rs):ZO [.Y (rs.map cM),.int .i64 n]=some (.same (.cB [.Y ((p3 rs n).1.map aw),.int .i64 (p3 rs n).2])):=(cF QX (rs,n)).trans (cY H _)
theorem awc (T:bm)(Dz:T Vt=aO Yr)(DA:T Vx=aO RB)(rs:List b9)(n:Int)(H:lf rs):WP T X7 (.same (.cB [.Y ((p3 rs n).1.map aw),.int .i64 (p3 rs n).2])) [.I (.Y (rs.map cM)),.I (.int .i64 n)]:=by
 refine cH ?_;simp only[X7];unfold p3;rcases X:iM rs n
 ·refine a1 ?_;repeat' (intro h<;>simp only[h,go_sem,go_sem_proc,Dz,DA,H,X,b6]<;>try refine al ?_ ?_)
 ·have cR:=av9 (stop:=true) (RC H X).2.2;have dw:RB [.Y (rs.map cM),.int .i64 n,.bool true]=some (.same (I4 (D rs) (pq true rs))):=av5 rs n true (RC H X);have jg:=av8 true rs;obtain⟨aM,fM,-⟩:=RC H X;rcases fs:pq true rs with ⟨rows,free,bad⟩;rw[fs] at jg cR dw;dsimp only at jg cR;simp only[I4,ZG] at dw
  cases bad
  ·cases free with
   |nil =>
    simp only[go_sem,go_sem_proc,Dz,DA,H,X,dw,ah,show decide (((0:Nat):Int)>0)=false from rfl,b6];rw[ag (by simp)];refine c9 [1,33,34] [] (λ((i,g):Nat×Nat) tm m=>i<=D rs/\tm 35=.I (.int .i64 i)/\tm 8=.ref 109045 g 4 0 i/\m 109045=some (g,aS aw ((rows.take i).map (vI (D rs))))) (λ(i,_)=>D rs-i) (0,0) (by refine⟨fA _,rfl,rfl,?_⟩;simp[a5,aS,cA,emp]) ?_;intro vs ms aK aF;simp only[go_sem,go_sem_proc,Dz,DA] at aK aF;subst aK aF;rintro⟨i,g⟩ tm m L hm ⟨MV,Rx,bP,ZP⟩;simp only[go_sem,go_sem_proc,Dz,DA,bf] at L hm;obtain⟨G,Mi,aiF⟩:=L;have cg:=cR.len;rcases dk (i<D rs) with av|b4
    ·obtain⟨x,M⟩:∃x,rows[i]?=some x:=⟨_,bB (by omega)⟩;obtain⟨zg,yz⟩:=cR.row x (dS M);obtain⟨⟨⟨cE,cS⟩,⟨dU,eN⟩⟩,vE⟩:∃f,x.2.2[D rs]?=some f:=⟨_,bB (by omega)⟩;have mb:=awa vE;have kQ:((rows.take i).map (vI (D rs))).length=i:=by rw[ah,fU];omega
     have cW:=ka jS yo 109045 g 64 ((rows.take i).map (vI (D rs))) ((cE,cS),(dU,eN)) (cs:=[.I (.int .i64 cE),.I (.Y (cS.map ae)),.I (.int .i64 dU),.I (.Y (eN.map ae))]) rfl (by omega) (by omega);rw[kQ] at cW
     have M8:(rows.take (i+1)).map (vI (D rs))=(rows.take i).map (vI (D rs))++[((cE,cS),(dU,eN))]:=by
      rw[g2,M,kg];simp[mb]
     have ld:decide ((i:Int)<(D rs:Int))=true:=c5;have ZQ:decide ((i:Int)<(D rows:Int))=true:=c5;have hw:=eu (i:=i) (by omega);have mW:decide (0<=n)=true:=c5;have I6:n=((D rs:Nat):Int):=aM.symm;refine a1 ?_;repeat' (intro h<;>simp only[h,go_sem,go_sem_proc,Dz,DA,G,Mi,aiF,Rx,bP,ZP,M,vE,cW,ld,ZQ,hw,I6,ah,aW,aw]<;>try refine al ?_ ?_)
     exact⟨(i+1,g+1),by dsimp only;omega,by dsimp only;omega,rfl,rfl,by dsimp only;rw[M8]⟩
    ·have cJ:i=D rs:=by omega
     have ZQ:decide ((i:Int)<(D rows:Int))=false:=cu;have dO:rows.take i=rows:=dH (by omega);rw[dO] at ZP
     have fC:∀n,dx (n+1) m (.ref 109045 g 4 0 i)=some (.Y ((rows.map (vI (D rs))).map aw)):=λn=>by
      have:=kt (n:=n) jS ZP;rw[show (rows.map (vI (D rs))).length=i by rw[ah];omega] at this
      exact this
     have awd:=fC 4;refine a1 ?_;repeat' (intro h<;>simp only[h,go_sem,go_sem_proc,Dz,DA,G,Mi,aiF,Rx,bP,ZQ,awd]<;>try refine al ?_ ?_)
   |cons f eb =>
    have g1:decide ((((f::eb).length:Nat):Int)>0)=true:=jw (by simp only[kB];omega);simp only[kB] at g1;refine a1 ?_;repeat' (intro h<;>simp only[h,go_sem,go_sem_proc,Dz,DA,H,X,dw,ah,g1,b6]<;>try refine al ?_ ?_)
    rw[ad (by omega)]
    rfl
  ·refine a1 ?_;repeat' (intro h<;>simp only[h,go_sem,go_sem_proc,Dz,DA,H,X,dw,ah,b6]<;>try refine al ?_ ?_)
def ZR:b1:=cq 30 2 [.t 4,.t 5] (O [(ar 4 (.b8 (.c (.I (.int .u64 0))))),(ar 5 (.b8 (.c (.I (.int .u64 0)))))] (.seq (.cond (.c (.I (.bool false))) (O [F 11 0,(ar 12 (.conv .u32 (.t 11))),F 13 1,(ar 14 (.conv .u32 (.t 13))),(b2 15 arO 12 14),F 10 15,a6 16 0 10,a6 17 1 10,F 6 16,F 7 17] (O [F 18 6,(ar 19 (.conv .u64 (.t 18))),F 20 7,(ar 21 (.conv .u64 (.t 20))),F 4 19,F 5 21] .ret)) .skip) (O [F 23 0,F 24 1,(b2 25 VI 23 24),F 22 25,a6 26 0 22,a6 27 1 22,F 8 26,F 9 27] (O [F 28 8,F 29 9,F 4 28,F 5 29] .ret))))
def ZS:b1:=cq 51 2 [.t 4,.t 5] (O [(ar 4 (.b8 (.c (.I (.int .u64 0))))),(ar 5 (.b8 (.c (.I (.int .u64 0)))))] (O [F 14 0,(ar 15 (.bin .and (.t 14) (.c (.I (.int .u64 4294967295))))),F 6 15] (O [F 16 0,(ar 17 (.bin .shr (.t 16) (.c (.I (.int .u64 32))))),F 7 17] (O [F 18 1,(ar 19 (.bin .and (.t 18) (.c (.I (.int .u64 4294967295))))),F 8 19] (O [F 20 1,(ar 21 (.bin .shr (.t 20) (.c (.I (.int .u64 32))))),F 9 21] (O [F 22 6,F 23 8,bA 24 .mul 22 23,F 10 24] (O [F 25 7,F 26 8,bA 27 .mul 25 26,F 28 10,(ar 29 (.bin .shr (.t 28) (.c (.I (.int .u64 32))))),bA 30 .add 27 29,F 11 30] (O [F 31 11,(ar 32 (.bin .and (.t 31) (.c (.I (.int .u64 4294967295))))),F 12 32] (O [F 33 11,(ar 34 (.bin .shr (.t 33) (.c (.I (.int .u64 32))))),F 13 34] (O [F 35 12,F 36 6,F 37 9,bA 38 .mul 36 37,bA 39 .add 35 38,F 12 39] (O [F 40 7,F 41 9,bA 42 .mul 40 41,F 43 13,bA 44 .add 42 43,F 45 12,(ar 46 (.bin .shr (.t 45) (.c (.I (.int .u64 32))))),bA 47 .add 44 46,F 4 47] (O [F 48 0,F 49 1,bA 50 .mul 48 49,F 5 50] .ret))))))))))))
theorem ZT:∀y:Nat,y<41->bits .and .u64 (y:Int) 4294967295=y:=by decide
theorem awe (y:Nat)(h:y<41):(y:Int).fdiv 4294967296=0:=by
 rw[Int.fdiv_eq_ediv_of_nonneg _ (by omega)];omega
abbrev RD:Nat->List Data:=λ(y:Nat)=>[.int .u64 1,.int .u64 y]
def ZU:=cy RD λ(y:Nat)=>cT (y<41) (.same (.cB [.int .u64 0,.int .u64 y]))
theorem aiG:∀a b,RD a=RD b->a=b:=by
  intro nv o4 h;simp only[bf,Data.int.injEq] at h;omega
@[go_sem] theorem aKg (y:Nat)(H:y<41):ZU [.int .u64 1,.int .u64 y]=some (.same (.cB [.int .u64 0,.int .u64 y])):=(cF aiG y).trans (cY H _)
theorem awf (T:bm)  (y:Nat) (H:y<41):WP T ZS (.same (.cB [.int .u64 0,.int .u64 y])) [.I (.int .u64 1),.I (.int .u64 y)]:=by
 refine cH ?_;simp only[ZS];have G:=ZT y H;have J:=awe y H;have af:=ZT 1 (by omega);have aP:=ZT 0 (by omega);have bh:((1:Int)).fdiv 4294967296=0:=by decide
 have bK:((0:Int)).fdiv 4294967296=0:=by decide
 have hw:∀x:Int,0<=x/\x<18446744073709551616->IntKind.u64.wrap x=x:=λx h=>Bb x h;have eQ:=hw 0 (by omega);have w1:=hw y (by omega);simp only[Int.natCast_zero,Int.cast_ofNat_Int,Int.natCast_one] at af aP;simp only[go_sem,go_sem_proc,G,J,af,aP,bh,bK,eQ,w1,show ((32:Int)<0)=False from by simp,if_false,show (2:Int)^min (Int.toNat 32) 64=4294967296 from rfl,o8,vo,vk,k9,Ia]
 repeat' (first|refine al ?_ ?_|fail)<;>intro h<;>simp only[h,go_sem,go_sem_proc,G,J,af,aP,bh,bK,eQ,w1,show ((32:Int)<0)=False from by simp,if_false,show (2:Int)^min (Int.toNat 32) 64=4294967296 from rfl,o8,vo,vk,k9,Ia]
def ZV:=cy RD λ(y:Nat)=>cT (y<41) (.same (.cB [.int .u64 0,.int .u64 y]))
@[go_sem] theorem aKh (y:Nat)(H:y<41):ZV [.int .u64 1,.int .u64 y]=some (.same (.cB [.int .u64 0,.int .u64 y])):=(cF aiG y).trans (cY H _)
theorem awg (T:bm)(awh:T VI=aO ZU)(y:Nat)(H:y<41):WP T ZR (.same (.cB [.int .u64 0,.int .u64 y])) [.I (.int .u64 1),.I (.int .u64 y)]:=by
 refine cH ?_;simp only[ZR];refine a1 ?_;repeat' (intro h<;>simp only[h,go_sem,go_sem_proc,awh,H]<;>try refine al ?_ ?_)
theorem td {α:Type}{A:List α}{k:Nat}(dL:(D A)=k)(n:Nat):(en n A).flatten.length=n*k:=by
 rw[List.length_flatten,I7,dL,List.sum_replicate_nat]
theorem awi {α:Type}{A:List α}{k:Nat}(dL:(D A)=k){q j:Nat}(h:q<=j):(en j A).flatten.take (q*k)=(en q A).flatten:=by
 obtain⟨d,rfl⟩:=aiH h;rw[<-ZW,RE,DB (by rw[td dL];omega),dH (by rw[td dL];omega)]
theorem awj {α:Type}{A:List α}{k:Nat}(dL:(D A)=k){q j:Nat}(h:q<=j):(en j A).flatten.drop (q*k)=(en (j-q) A).flatten:=by
 obtain⟨d,rfl⟩:=aiH h;rw[<-ZW,RE,sV,mA (by rw[td dL];omega),td dL,j6,nP,ir,HJ]
def FY:List R:=[.I (.int .i64 0),.nil,.I (.int .i64 0),.nil]
def rz (A:List R)(N j:Nat):List R:=(en j A).flatten++(en (N-j) FY).flatten
theorem aiI {A:List R}(dL:(D A)=4){N j:Nat}(h:j<=N):(rz A N j).length=N*4:=by
 unfold rz;rw[gj,td dL,td (show (D FY)=4 from rfl)];omega
theorem aiJ {A:List R}(dL:(D A)=4){N j q:Nat}(h:j+q<=N):(rz A N j).take (j*4)++(en q A).flatten++(rz A N j).drop (j*4+q*4)=rz A N (j+q):=by
 unfold rz;rw[DB (by rw[td dL];omega),dH (by rw[td dL];omega),sV,mA (by rw[td dL];omega),td dL,HJ,awj (show (D FY)=4 from rfl) (by omega),ir,<-ZW (n:=j),RE,Nat.sub_sub]
theorem awk {A:List R}(dL:(D A)=4){N j:Nat}:(rz A N j).take (j*4)=(en j A).flatten:=by
 unfold rz;rw[DB (by rw[td dL];omega),dH (by rw[td dL];omega)]
theorem aiK {A:List R}(h:A.all R.one=true)(q:Nat):(en q A).flatten.all R.one=true:=by
 induction q with
 |zero=>rfl
 |succ n aH=>rw[tN,lZ,Re,h,aH];rfl
theorem awl (f:bG)(N:Nat):rz ((aw f).map .I) N N=aS aw (en N f):=by
 unfold rz aS;rw[j6,I7];simp only[List.replicate_zero,List.flatten_nil,gD]
 induction N with
 |zero=>rfl
 |succ n aH=>rw[tN,lZ,tN,lZ,kg,aH]
theorem awm {A:List R}(dL:(D A)=4)(G:A.all R.one=true)(N:Nat):Cq 131030 0 4 0 N 1 A (some (0,(en N FY).flatten))=some (.I (.int .i64 ((min 1 N:Nat):Int)),some (131030,0,rz A N (min 1 N))):=by
 unfold Cq;dsimp only;rw[ad ⟨rfl,by rw[td (show (D FY)=4 from rfl)];omega,G⟩]
 have aj:(en N FY).flatten=rz A N 0:=by simp[rz]
 have cm:A.take (min 1 N*4)=(en (min 1 N) A).flatten:=by
  rcases k3 N with h|h
  ·subst h;simp
  ·rw[show min 1 N=1 by omega];simp[dH (Nat.le_of_eq dL)]
 have:=aiJ dL (N:=N) (j:=0) (q:=min 1 N) (by omega);rw[aj,cm];unfold mz;rw[td dL];simp only[Nat.zero_mul,Nat.zero_add] at this ⊢;rw[this]
theorem awn {A:List R}(dL:(D A)=4)(G:A.all R.one=true){N j:Nat}(h:j<N):Cq 131030 0 4 (j*4) (N-j) j (en j A).flatten (some (0,rz A N j))=some (.I (.int .i64 ((min j (N-j):Nat):Int)),some (131030,0,rz A N (j+min j (N-j)))):=by
 unfold Cq;dsimp only;rw[ad ⟨rfl,by rw[aiI dL (by omega)];omega,aiK G j⟩]
 rw[awi dL (show min j (N-j)<=j by omega)];have:=aiJ dL (N:=N) (j:=j) (q:=min j (N-j)) (by omega);unfold mz;rw[td dL,this]
abbrev ZX:Int×(List Int)×Int×(List Int)×Nat->List Data:=λ(s,l,s2,aa,N)=>[.Y [[.int .i64 s,.Y (l.map ae),.int .i64 s2,.Y (aa.map ae)]],.int .i64 N]
def ZY:=cy ZX λ(s,l,s2,aa,N)=>cT (N<41) (.own 4 (en N (aw ((s,l),(s2,aa)))))
theorem awo:∀a b,ZX a=ZX b->a=b:=by
  rintro⟨s1,dr,Fi,Fj,aKi⟩ ⟨s2,aa,Fk,Fl,aKj⟩ h;simp only[bf,Data.int.injEq,Data.Y.injEq] at h;exact ei h.1.1.1.2 (ei (map_inj hp _ _ h.1.1.2.1) (ei h.1.1.2.2.1.2 (ei (map_inj hp _ _ h.1.1.2.2.2.1) (by have:=h.2.1.2;dsimp only;omega))))
@[go_sem] theorem awp (s:Int)(l:List Int)(s2:Int)(aa:List Int)(N:Nat)(H:N<41):ZY [.Y [[.int .i64 s,.Y (l.map ae),.int .i64 s2,.Y (aa.map ae)]],.int .i64 N]=some (.own 4 (en N (aw ((s,l),(s2,aa))))):=(cF awo (s,l,s2,aa,N)).trans (cY H _)
theorem awq (T:bm)(BQ:T VE=aO ZV)(s:Int)(l:List Int)(s2:Int)(aa:List Int)(N:Nat)(H:N<41):WP T WE (.own 4 (en N (aw ((s,l),(s2,aa))))) [.I (.Y [[.int .i64 s,.Y (l.map ae),.int .i64 s2,.Y (aa.map ae)]]),.I (.int .i64 N)]:=by
 refine cH ?_;simp only[WE];have aj:decide ((N:Int)<0)=false:=cu;have hw:IntKind.u64.wrap (N:Int)=N:=Bb _ ⟨by omega,by omega⟩
 have afd:IntKind.i64.wrap (N:Int)=N:=wrap64 _ (by omega) (by omega);have o6:IntKind.u64.wrap ((1:Nat):Int)=1:=by decide
 have bq:decide ((N:Int)>9223372036854775807)=false:=cu;have DD:(64*N<=140737488355328)=True:=eq_true (by omega);have w9:(N<=maxLen)=True:=eq_true (by unfold maxLen;omega);have dL:((aw ((s,l),(s2,aa))).map R.I).length=4:=rfl;have vJ:((aw ((s,l),(s2,aa))).map R.I).all R.one=true:=rfl;have Cy:=awm dL vJ N;have pO:=λj (h:j<N)=>awn dL vJ h;have M9:(aw ((s,l),(s2,aa))).map R.I=[.I (.int .i64 s),.I (.Y (l.map ae)),.I (.int .i64 s2),.I (.Y (aa.map ae))]:=rfl;simp only[FY] at Cy;rw[M9] at Cy;simp only[go_sem,go_sem_proc,BQ] at Cy;simp only[go_sem,go_sem_proc,BQ,aj,hw,afd,o6,H,bq,DD,w9,show decide ((0:Int)>0)=false from rfl,Cy];rw[M9] at dL vJ;have jD:=awl ((s,l),(s2,aa)) N;rw[M9] at jD;simp only[M9] at pO;clear M9 Cy;generalize [R.I (.int .i64 s),.I (.Y (l.map ae)),.I (.int .i64 s2),.I (.Y (aa.map ae))]=A at *;refine c9 [7] [] (λ(j:Nat) tm m=>j<=N/\(0<N->0<j)/\tm 8=.I (.int .i64 j)/\m 131030=some (0,rz A N j)) (λj=>N-j) (min 1 N) (by refine⟨by omega,by omega,rfl,?_⟩;simp[a5]) ?_;intro vs ms aK aF;simp only[go_sem,go_sem_proc,BQ] at aK aF;subst aK aF;rintro j tm m L hm ⟨aiL,awr,bP,Na⟩;simp only[go_sem,go_sem_proc,BQ,bf] at L hm;have bE:=L;rcases dk (j<N) with av|b4
 ·have l2:decide ((j:Int)<(N:Int))=true:=c5;have aM:=pO j av;have fh:=awk dL (N:=N) (j:=j);have hlen:(j*4<=(rz A N j).length)=True:=eq_true (by rw[aiI dL aiL];omega);have aiM:(j<=N)=True:=eq_true aiL;have dO:=aiK vJ j;simp only[go_sem,go_sem_proc,BQ,dO,vJ,fh] at aM;have fQ:IntKind.i64.wrap ((j:Int)+((min j (N-j):Nat):Int))=((j+min j (N-j):Nat):Int):=by rw[e7 _];omega
  simp only[go_sem,go_sem_proc,BQ,bE,bP,Na,l2,fh,hlen,aiM,dO,aM,fQ,cI,aiN,fA];repeat' (first|refine al ?_ ?_|fail)<;>intro h<;>simp only[h,go_sem,go_sem_proc,BQ,bE,bP,Na,l2,fh,hlen,aiM,dO,aM,fQ,cI,aiN,fA]
  exact⟨j+min j (N-j),by have:=awr (by omega);omega,by omega,by omega,rfl,rfl⟩
 ·have l2:decide ((j:Int)<(N:Int))=false:=cu;obtain rfl:j=N:=by omega
  rw[jD] at Na;have zJ:=lB jS (en j ((s,l),(s2,aa)));rw[yC] at zJ;simp only[go_sem,go_sem_proc,BQ,bE,bP,Na,l2,tS,zJ];repeat' (first|refine al ?_ ?_|fail)<;>intro h<;>simp only[h,go_sem,go_sem_proc,BQ,bE,bP,Na,l2,tS,zJ]
  rw[ad (cI _),dH (by omega)];unfold aS;rw[EH _ λd=>rfl];have:=CL (sz:=4) ((en j ((s,l),(s2,aa))).map aw) (by intro e he;obtain⟨f,-,rfl⟩:=gE.1 he;rfl);rw[ah,yC] at this;rw[l9,this,I7]
def RF:bG:=((0,[]),(1,[1]))
def ZZ:bG:=((1,[1]),(1,[1]))
theorem aiO:aq 0=RF:=by
 unfold aq bd RF;simp[EN,tY]
theorem aws:aq 1=ZZ:=by
 unfold aq bd ZZ;simp[EN]
def Nb (rows:List dE)(f N i:Nat):List bG:=(eY N).map λk=>if k<i then (kf RF (cellOf (rowAt rows k) f)).1 else if k=f then ZZ else RF
theorem awt (rows:List dE)(f N i:Nat):(Nb rows f N i).length=N:=by simp[Nb]
def Z0 (rs:List b9)(n:Int):List bG×Bool :=
 if iM rs n=true then (if ((pq true rs).2.2||(pq true rs).2.1.length==0)=true then ([],false) else (Nb (pq true rs).1 ((pq true rs).2.1.headD 0) (D rs) ((pq true rs).2.1.headD 0),true)) else ([],false)

def Z1:=cy IC λ(rs,n)=>cT (lf rs) (.same (.bool (iM rs n)))
@[go_sem] theorem aKk (rs:List b9)(n:Int)(H:lf rs):Z1 [.Y (rs.map cM),.int .i64 n]=some (.same (.bool (iM rs n))):=(cF QX (rs,n)).trans (cY H _)
theorem awu (T:bm)(fS:T qy=aO Dp)(rs:List b9)(n:Int)(H:lf rs):WP T Zd (.same (.bool (iM rs n))) [.I (.Y (rs.map cM)),.I (.int .i64 n)]:=by
 refine cH ?_;simp only[Zd];rcases G:decide (n<0)
 case true =>
  have X:iM rs n=false:=by unfold iM;rw[G];rfl
  rw[X];simp only[go_sem,go_sem_proc,fS,G,ah];repeat' (first|refine al ?_ ?_|fail)<;>intro h<;>simp only[h,go_sem,go_sem_proc,fS,G,ah]
 rcases J:decide (n>40)
 case true =>
  have X:iM rs n=false:=by unfold iM;rw[G,J];rfl
  rw[X];simp only[go_sem,go_sem_proc,fS,G,J,ah];repeat' (first|refine al ?_ ?_|fail)<;>intro h<;>simp only[h,go_sem,go_sem_proc,fS,G,J,ah]
 rcases af:((D rs:Int)==n)
 case false =>
  have X:iM rs n=false:=by unfold iM;rw[G,J,af];rfl
  rw[X];simp only[go_sem,go_sem_proc,fS,G,J,af,ah,cp,bne];repeat' (first|refine al ?_ ?_|fail)<;>intro h<;>simp only[h,go_sem,go_sem_proc,fS,G,J,af,ah,cp,bne]
 have aM:n=D rs:=(beq_iff_eq.1 af).symm;have iF:iM rs n = !(rs.any (lg n)):=by unfold iM;rw[G,J,af];rfl
 have fM:(D rs)<=40:=by have:=of_decide_eq_false J;omega
 rw[iF];simp only[go_sem,go_sem_proc,fS,G,J,af,ah,bT,bne];refine c9 [0,1] [] (λ(i:Nat) tm mem=>i<=D rs/\(∀r∈rs.take i,lg n r=false)/\tm 5=.I (.int .i64 i)) (λi=>D rs-i) 0 (by refine⟨fA _,by simp,rfl⟩) ?_;intro vs ms aK aF;simp only[go_sem,go_sem_proc,fS,ah] at aK aF;subst aK aF;rintro i tm mem L-⟨U,dO,bh⟩;simp only[go_sem,go_sem_proc,fS,bf] at L;obtain⟨aj,sT⟩:=L;rcases dk (i<D rs) with av|b4
 ·obtain⟨⟨A,⟨a,b⟩,⟨c,e⟩⟩,M⟩:∃f,rs[i]?=some f:=⟨_,bB av⟩;obtain⟨⟨tb,qM⟩,uB,mF⟩:=H.2 _ (dS M);dsimp only at tb qM uB mF;have d1:decide ((i:Int)<n)=true:=c5;have bl:=eu (i:=i) (by omega)
  have x5:lg n (A,((a,b),(c,e)))=true->(!(rs.any (lg n)))=false:=λh=>by
   rw[aiP.2 ⟨_,dS M,h⟩];rfl
  rcases az:((D A:Int)==n)
  ·rw[x5 (by unfold lg;rw[az];rfl)];simp only[go_sem,go_sem_proc,fS,aj,sT,bh,d1,M,az,cM,aw,ah,aW,cp,bne];repeat' (first|refine al ?_ ?_|fail)<;>intro h<;>simp only[h,go_sem,go_sem_proc,fS,aj,sT,bh,d1,M,az,cM,aw,ah,aW,cp,bne]
  rcases aN:dJ ((a,b),(c,e))
  ·rw[x5 (by unfold lg;rw[az,aN];rfl)];simp only[go_sem,go_sem_proc,fS,aj,sT,bh,d1,M,az,aN,uB,mF,cM,aw,ah,aW,cp,bT,bne];repeat' (first|refine al ?_ ?_|fail)<;>intro h<;>simp only[h,go_sem,go_sem_proc,fS,aj,sT,bh,d1,M,az,aN,uB,mF,cM,aw,ah,aW,cp,bT,bne]
  have RG:(D A:Int)=n:=beq_iff_eq.1 az;simp only[go_sem,go_sem_proc,fS,aj,sT,bh,d1,M,az,aN,uB,mF,cM,aw,ah,aW,cp,bT,bne];refine c9 [0,1,5] [] (λ(k:Nat) tm mem=>k<=D A/\(∀f∈A.take k,zW f=false)/\tm 6=.I (.int .i64 k)) (λk=>D A-k) 0 (by refine⟨fA _,by simp,rfl⟩) ?_;intro vs ms aK aF;simp only[go_sem,go_sem_proc,fS,aj,sT,bh] at aK aF;subst aK aF;rintro k tm' mem' L-⟨tR,Z2,bK⟩;simp only[go_sem,go_sem_proc,fS,bf] at L;obtain⟨ej,cL,iP⟩:=L;rcases dk (k<D A) with Zy|avA
  ·obtain⟨⟨⟨u,v⟩,⟨x,y⟩⟩,ao⟩:∃f,A[k]?=some f:=⟨_,bB Zy⟩;obtain⟨p1,p2⟩:=qM _ (dS ao);dsimp only at p1 p2;have d2:decide ((k:Int)<n)=true:=c5;have jr:=eu (i:=k) (by omega);rcases aD:dJ ((u,v),(x,y))
   ·rw[x5 (by unfold lg;rw[az,aN,aiP.2 ⟨_,dS ao,by unfold zW;rw[aD];rfl⟩];rfl)];simp only[go_sem,go_sem_proc,fS,ej,cL,iP,bK,d2,M,ao,aD,p1,p2,cM,aw,ah,aW,cp];repeat' (first|refine al ?_ ?_|fail)<;>intro h<;>simp only[h,go_sem,go_sem_proc,fS,ej,cL,iP,bK,d2,M,ao,aD,p1,p2,cM,aw,ah,aW,cp]
   ·simp only[go_sem,go_sem_proc,fS,ej,cL,iP,bK,d2,M,ao,aD,p1,p2,jr,cM,aw,ah,aW,bT];exact⟨k+1,by omega,by omega,BB Z2 ao (by unfold zW;rw[aD];rfl),rfl⟩
  ·have d2:decide ((k:Int)<n)=false:=cu;rw[dH (by omega)] at Z2;simp only[go_sem,go_sem_proc,fS,ej,cL,iP,bK,d2,bl];exact⟨i+1,by omega,by omega,BB dO M (by unfold lg;rw[az,aN,BP.2 λf aD=>by rw[Z2 f aD];simp];rfl),rfl⟩
 ·obtain rfl:i=D rs:=by omega
  have d1:decide ((D rs:Int)<n)=false:=cu;rw[dH (by omega)] at dO;have:rs.any (lg n)=false:=BP.2 λr X=>by rw[dO r X];simp
  rw[this];simp only[go_sem,go_sem_proc,fS,aj,sT,bh,d1,cp]
def jt (a fD b:bG):bG×Int:=if ((h2 fD b).2==0)=true then kf a (h2 fD b).1 else (c1,(h2 fD b).2)
abbrev Z3:bG×bG×bG->List Data:=λ(a,f,b)=>[.agg (aw a),.agg (aw f),.agg (aw b)]
def Z4:=cy Z3 λ(a,f,b)=>cT (okF a/\okF f/\okF b) (.same (cQ (jt a f b)))
theorem awv:∀a b,Z3 a=Z3 b->a=b:=by
  rintro⟨cE,f1,c0⟩ ⟨cS,f2,et⟩ h;simp only[bf,Data.agg.injEq] at h;exact ei (uk _ _ h.1) (ei (uk _ _ h.2.1) (uk _ _ h.2.2.1))
@[go_sem] theorem aiQ (a:bG)(f:bG)(b:bG)(H:okF a/\okF f/\okF b):Z4 [.agg (aw a),.agg (aw f),.agg (aw b)]=some (.same (cQ (jt a f b))):=(cF awv (a,f,b)).trans (cY H _)
theorem aww (T:bm)(qN:T CS=aO FK)(kh:T x0=aO Dq)(a:bG)(f:bG)(b:bG)(H:okF a/\okF f/\okF b):WP T Zh (.same (cQ (jt a f b))) [.I (.agg (aw a)),.I (.agg (aw f)),.I (.agg (aw b))]:=by
 refine cH ?_;simp only[Zh];obtain⟨⟨cE,cS⟩,⟨f1,f2⟩,⟨c0,et⟩⟩:=H;obtain⟨⟨s,l⟩,⟨s2,aa⟩⟩:=a;obtain⟨⟨t,m⟩,⟨t2,bX⟩⟩:=f;obtain⟨⟨u,k⟩,⟨im,dN⟩⟩:=b;dsimp only at cE cS f1 f2 c0 et;have bS:=ah7 ((t,m),(t2,bX)) ((u,k),(im,dN));unfold jt;rcases e8:h2 ((t,m),(t2,bX)) ((u,k),(im,dN)) with ⟨⟨⟨jz,kJ⟩,⟨sk,sl⟩⟩,BR⟩;rw[e8] at bS;obtain⟨p1,p2⟩:=bS;dsimp only at p1 p2;rcases aC:(BR==0)
 ·simp only[go_sem,go_sem_proc,qN,kh,e8,cE,cS,f1,f2,c0,et,aC,aw,cQ,c1,b6,cp,bne]
 ·simp only[go_sem,go_sem_proc,qN,kh,e8,cE,cS,f1,f2,c0,et,p1,p2,aC,aw,cQ,bT,bne]
theorem awx {k bD i:Nat}{l:List b9}{a b c d e:R}(h:(D l)=i)(U:i<=1000)(bS:[a,b,c,d,e].all R.one=true):lr k bD 5 i 88 1 [a,b,c,d,e] (some (bD,aS cM l))=some (.ref k (bD+1) 5 0 (i+1),some (k,bD+1,aS cM l++[a,b,c,d,e])):=by
 unfold lr;dsimp only;rw[ad ⟨rfl,by rw[lB rj];omega,by omega,by unfold maxLen;omega,bS⟩,dH (by rw[lB rj];omega)]
theorem awy {l:List b9}{i:Nat}(h:(D l)=i)(x:R)(A:List bG)(a:Int)(b:List Int)(c:Int)(d:List Int):
  (aS cM l++[x,.I (.int .i64 a),.I (.Y (b.map ae)),.I (.int .i64 c),.I (.Y (d.map ae))]).set (i*5) (.I (.Y (A.map aw)))=aS cM (l++[(A,((a,b),(c,d)))]):=by
 have az:(aS cM l).length=i*5:=by rw[lB rj,h]
 rw[z2 _ _ (by omega),az,j6,kP];unfold aS;rw[kg,RE,kg]
 rfl
abbrev Z5:List b9->List Data:=λ(rs:List b9)=>[.Y (rs.map cM)]
def Z6:=cy Z5 λ(rs:List b9)=>cT (D rs<=1000/\lf rs) (.own 5 (rs.map cM))
theorem awz:∀a b,Z5 a=Z5 b->a=b:=by
  intro QV QW h;exact map_inj Dg _ _ (by simpa using h)
@[go_sem] theorem awA (rs:List b9)(H:(D rs)<=1000/\lf rs):Z6 [.Y (rs.map cM)]=some (.own 5 (rs.map cM)):=(cF awz rs).trans (cY H _)
theorem awB (T:bm)  (rs:List b9) (H:(D rs)<=1000/\lf rs):WP T Ze (.own 5 (rs.map cM)) [.I (.Y (rs.map cM))]:=by
 refine cH ?_;simp only[Ze];obtain⟨fM,H⟩:=H;simp only[go_sem,go_sem_proc,ah];refine c9 [0] [] (λ((i,g):Nat×Nat) tm mem=>i<=D rs/\tm 4=.I (.int .i64 i)/\tm 3=.ref 199026 g 5 0 i/\mem 199026=some (g,aS cM (rs.take i))) (λ(i,_)=>D rs-i) (0,0) (by refine⟨fA _,rfl,rfl,rfl⟩) ?_;intro vs ms aK aF;simp only[go_sem,go_sem_proc,ah] at aK aF;subst aK aF;rintro⟨i,g⟩ tm mem L-⟨U,aP,af,Nc⟩;simp only[go_sem,go_sem_proc,bf] at L;have aj:=L;rcases dk (i<D rs) with av|b4
 ·obtain⟨⟨A,⟨a,b⟩,⟨c,e⟩⟩,M⟩:∃f,rs[i]?=some f:=⟨_,bB av⟩;obtain⟨⟨tb,qM⟩,uB,mF⟩:=H.2 _ (dS M);dsimp only at tb qM uB mF;have d1:decide ((i:Int)<(D rs:Int))=true:=c5;have bl:=eu (i:=i) (by omega);have kQ:(rs.take i).length=i:=by rw[fU];omega
  have cW:∀bD,lr 199012 bD 4 0 64 (D A) ((A.map aw).flatten.map .I) (some (bD,[]))=some (.ref 199012 (bD+1) 4 0 (D A),some (199012,bD+1,aS aw A)):=λbD=>by
   have:=A5 jS yo 199012 bD 64 [] A (by simp;omega) (by simp;omega)
   simpa [aS] using this
  have pM:=MZ A;have awC:=λ(x:R) (M:R.one x=true)=>awx (k:=199026) (bD:=g) (a:=x) (b:=.I (.int .i64 a)) (c:=.I (.Y (b.map ae))) (d:=.I (.int .i64 c)) (e:=.I (.Y (e.map ae))) kQ (by omega) (by simp only[xW,M];rfl);have awD:=λ(bD n:Nat)=>awC (.ref 199012 bD 4 0 n) rfl;simp only[go_sem,go_sem_proc,aj,af,aP,Nc,M,d1,cW,pM,awD,cM,aw,ah,aW];have Z7:(aS cM (rs.take i)).length=i*5:=by rw[lB rj,kQ]
  refine arh 199026 (i*5) 199012 (g:=gd (mem 199012)+1) (sz:=4) (off:=0) (len:=D A) (cs:=aS aw A) (d:=.Y (A.map aw)) (by simp only[a5];rfl) (by rw[nK (by omega),Z7,j6];rfl) (by simp[a5]) (HH _ _) (by decide) ?_ ?_
  ·exact kt (n:=0) jS (by simp[a5])
  ·have xO:=awy kQ (.ref 199012 (gd (mem 199012)+1) 4 0 (D A)) A a b c e;have M8:rs.take i++[(A,((a,b),(c,e)))]=rs.take (i+1):=by rw[g2,M];rfl
   rw[xO,M8];simp only[go_sem,go_sem_proc,aj,af,aP,Nc,bl];exact⟨(i+1,g+1),by dsimp only;omega,by dsimp only;omega,rfl,rfl,rfl⟩
 ·obtain rfl:i=D rs:=by omega
  have d1:decide ((D rs:Int)<(D rs:Int))=false:=cu;rw[kN] at Nc;have hlen:(aS cM rs).length=D rs*5:=lB rj rs;simp only[go_sem,go_sem_proc,aj,af,aP,Nc,d1,ah];unfold tS;dsimp only;rw[Nc];simp only[and_self,if_true];rw[ad ⟨trivial,by omega⟩,dH (by omega)]
  unfold aS;rw[EH _ λd=>rfl];have:=CL (sz:=5) (rs.map cM) (by intro x M;obtain⟨f,-,rfl⟩:=gE.1 M;rfl);rw[ah] at this;simp[this]
def nB {α:Type}(op:α->bG×Int)(e:α->bG):List α->List bG×Bool
 | []=>([],true)
 |a::r=>if ((op a).2==0)=true then ((op a).1::(nB op e r).1,(nB op e r).2) else ((a::r).map e,false)
section
variable {α:Type} {op:α->bG×Int} {e:α->bG}
theorem RH:∀{l:List α},(∀a∈l,(op a).2=0)->nB op e l=(l.map λa=>(op a).1,true)
 | [],_=>rfl
 |a::r,h=>by
  unfold nB;rw[ad (by rw[h a g0];rfl),RH λb ai=>h b (h3 _ ai)]
  rfl
theorem Z8:∀{l:List α} {k:Nat} {a:α},(∀a∈l.take k,(op a).2=0)->l[k]?=some a->((op a).2==0)=false->nB op e l=((l.take k).map (λa=>(op a).1)++(l.drop k).map e,false)
 | [],k,a,_,h,_=>by simp at h
 |b::r,0,a,_,h,aD=>by
  simp only[List.getElem?_cons_zero,cO] at h;subst h;unfold nB;rw[aD];simp
 |b::r,k+1,a,h,M,aD=>by
  have:=Z8 (l:=r) (k:=k) (λc H=>h c (by rw[HE];exact h3 _ H)) (by simpa using M) aD;unfold nB;rw[ad (by rw[h b (by rw[HE];exact g0)];rfl),this];simp
theorem aiR {l:List α}{k:Nat}{a:α}(h:l[k]?=some a):((l.take k).map (λa=>(op a).1)++(l.drop k).map e).set k (op a).1=(l.take (k+1)).map (λa=>(op a).1)++(l.drop (k+1)).map e:=by
 obtain⟨av,M⟩:=eg.1 h;have az:((l.take k).map λa=>(op a).1).length=k:=by rw[ah,fU];omega
 rw[z2 _ _ (by omega),az,j6,iC av,eI,kP,g2,h,kg,hd]
 rfl
theorem aiS {l:List α}{k:Nat}:((l.take k).map (λa=>(op a).1)++(l.drop k).map e).length=D l:=by
 rw[gj,ah,ah,fU,oi];omega
end
def iQ (x:b9)(c:Nat):b9×Bool :=
 if (nB (λa=>fG a (x.1.getD c c1)) id x.1).2=true then (((nB (λa=>fG a (x.1.getD c c1)) id x.1).1,(fG x.2 (x.1.getD c c1)).1),(fG x.2 (x.1.getD c c1)).2==0)
 else (((nB (λa=>fG a (x.1.getD c c1)) id x.1).1,c1),false)
abbrev Z9:b9×Nat->List Data:=λ(x,c)=>[.agg (cM x),.int .i64 (x.1.length:Nat),.int .i64 c]
def aaa:=cy Z9 λ(x,c)=>cT (lN x/\x.1.length<=1000/\c<x.1.length) (.same (.cB [.agg (cM (iQ x c).1),.bool (iQ x c).2]))
theorem awE:∀a b,Z9 a=Z9 b->a=b:=by
  rintro⟨bb,au⟩ ⟨b3,c2⟩ h;simp only[bf,Data.agg.injEq,Data.int.injEq] at h;exact ei (Dg _ _ h.1) (by have:=h.2.2.1.2;dsimp only;omega)
@[go_sem] theorem awF (x:b9)(c:Nat)(H:lN x/\x.1.length<=1000/\c<x.1.length):aaa [.agg (cM x),.int .i64 (x.1.length:Nat),.int .i64 c]=some (.same (.cB [.agg (cM (iQ x c).1),.bool (iQ x c).2])):=(cF awE (x,c)).trans (cY H _)
theorem awG (T:bm)(rA:T HU=aO MJ)(x:b9)(c:Nat)(H:lN x/\x.1.length<=1000/\c<x.1.length):WP T Zf (.same (.cB [.agg (cM (iQ x c).1),.bool (iQ x c).2])) [.I (.agg (cM x)),.I (.int .i64 (x.1.length:Nat)),.I (.int .i64 c)]:=by
 refine cH ?_;simp only[Zf];obtain⟨⟨⟨-,qM⟩,uB,mF⟩,fM,uA⟩:=H;obtain⟨A,⟨v1,v2⟩,⟨jb,v4⟩⟩:=x;dsimp only at qM uB mF fM uA ⊢;obtain⟨⟨⟨c0,et⟩,⟨gN,hz⟩⟩,ai⟩:∃f,A[c]?=some f:=⟨_,bB uA⟩;obtain⟨RI,RJ⟩:=qM _ (dS ai);dsimp only at RI RJ;have p4:A.getD c c1=((c0,et),(gN,hz)):=by rw[ez,ai];rfl
 unfold iQ;dsimp only;rw[p4]
 have cW:lr 200020 0 4 0 64 (D A) ((A.map aw).flatten.map .I) (some (0,[]))=some (.ref 200020 1 4 0 (D A),some (200020,1,aS aw A)):=by
  have:=A5 jS yo 200020 0 64 [] A (by simp;omega) (by simp;omega)
  simpa [aS] using this
 have pM:=MZ A
 have fC:∀(cz:List bG),D cz=(D A)->∀n (m:Mem),m 200020=some (1,aS aw cz)->dx (n+1) m (.ref 200020 1 4 0 (D A))=some (.Y (cz.map aw)):=λcz fo n m hm=>by
  have:=kt (n:=n) jS hm;rw[fo] at this;exact this
 simp only[go_sem,go_sem_proc,rA,ai,uA,cW,pM,cM,aw,ae,ah,aW];refine c9 [1,3,6,8,9] [200003,200006,200008,200009] (λ(k:Nat) tm mem=>k<=D A/\(∀a∈A.take k,(fG a ((c0,et),(gN,hz))).2=0)/\tm 10=.I (.int .i64 k)/\mem 200020=some (1,aS aw ((A.take k).map (λa=>(fG a ((c0,et),(gN,hz))).1)++(A.drop k).map id))) (λk=>D A-k) 0 (by refine⟨fA _,by simp,rfl,?_⟩;simp[a5]) ?_;intro vs ms aK aF;simp only[go_sem,go_sem_proc,rA,cM,aw] at aK aF;subst aK aF;rintro k tm mem L hm ⟨awH,dO,dj,FZ⟩;simp only[go_sem,go_sem_proc,rA,bf] at L hm;obtain⟨G,af,bK,bP,eA⟩:=L;obtain⟨g4,fW,s6,Nd⟩:=hm;rcases dk (k<D A) with av|b4
 ·obtain⟨⟨⟨cE,cS⟩,⟨dU,eN⟩⟩,M⟩:∃f,A[k]?=some f:=⟨_,bB av⟩;obtain⟨p1,p2⟩:=qM _ (dS M);dsimp only at p1 p2;have d1:decide ((k:Int)<(D A:Int))=true:=c5;have bl:=eu (i:=k) (by omega);rcases e8:fG ((cE,cS),(dU,eN)) ((c0,et),(gN,hz)) with ⟨⟨⟨jz,kJ⟩,⟨sk,sl⟩⟩,BR⟩;have fo:=aiS (op:=λa=>fG a ((c0,et),(gN,hz))) (e:=id) (l:=A) (k:=k);rcases aC:(BR==0)
  ·have hu:=Z8 (op:=λa=>fG a ((c0,et),(gN,hz))) (e:=id) dO M (by rw[e8];exact aC);rw[hu];simp only[go_sem,go_sem_proc,rA,G,af,bK,bP,eA,dj,g4,fW,s6,Nd,FZ,d1,M,p1,p2,RI,RJ,e8,aC,cM,aw,cQ,c1,b6,ah,aW,cp,bne];rw[fC _ fo 3 _ (by simp[a5,FZ])]
   rfl
  ·have iJ:BR=0:=beq_iff_eq.1 aC;subst iJ;have lj:=aiR (op:=λa=>fG a ((c0,et),(gN,hz))) (e:=id) M;rw[e8] at lj;have ee:k<((A.take k).map (λa=>(fG a ((c0,et),(gN,hz))).1)++(A.drop k).map id).length:=by rw[fo];exact av
   have dq:=FP ee jz kJ sk sl;rw[lj] at dq;have RG:=z1 ee;simp only[go_sem,go_sem_proc,rA,G,af,bK,bP,eA,dj,g4,fW,s6,Nd,FZ,d1,bl,av,M,p1,p2,RI,RJ,e8,dq,RG,cM,aw,cQ,ah,aW,beq_self_eq_true,bT,bne]
   exact⟨k+1,by omega,by omega,λa a4=>by
    rw[g2,M,jy] at a4;rcases a4 with a4|a4
    ·exact dO a a4
    ·simp at a4;rw[a4,e8],rfl,rfl⟩
 ·obtain rfl:k=D A:=by omega
  have d1:decide ((D A:Int)<(D A:Int))=false:=cu;rw[kN] at dO FZ;have hu:=RH (op:=λa=>fG a ((c0,et),(gN,hz))) (e:=id) dO;rw[hu];rw[List.drop_length,b6,gD] at FZ;rcases e8:fG ((v1,v2),(jb,v4)) ((c0,et),(gN,hz)) with ⟨⟨⟨jz,kJ⟩,⟨sk,sl⟩⟩,BR⟩;simp only[go_sem,go_sem_proc,rA,G,af,bK,bP,eA,dj,g4,fW,s6,Nd,FZ,d1,uB,mF,RI,RJ,e8,cM,aw,cQ,ah];rw[fC (A.map λa=>(fG a ((c0,et),(gN,hz))).1) (by simp) 3 _ (by simp[a5,FZ])]
  rfl
def oF (x y:b9)(c:Nat):b9×Bool :=
 if (nB (λa:bG×bG=>jt a.1 (x.1.getD c c1) a.2) pd (x.1.zip y.1)).2=true then (((nB (λa:bG×bG=>jt a.1 (x.1.getD c c1) a.2) pd (x.1.zip y.1)).1,(jt x.2 (x.1.getD c c1) y.2).1),(jt x.2 (x.1.getD c c1) y.2).2==0)
 else (((nB (λa:bG×bG=>jt a.1 (x.1.getD c c1) a.2) pd (x.1.zip y.1)).1,c1),false)
theorem aiT (a f b:bG):okF (jt a f b).1:=by
 unfold jt
 split
 ·exact Zo _ _
 ·exact qI
theorem awI {l m:List bG}(h:(D l)=D m):(l.zip m).map pd=l:=by
 rw[List.map_fst_zip (by omega)]
abbrev aab:b9×b9×Nat->List Data:=λ(x,y,c)=>[.agg (cM x),.agg (cM y),.int .i64 (x.1.length:Nat),.int .i64 c]
def RK:=cy aab λ(x,y,c)=>cT (lN x/\lN y/\x.1.length<=1000/\y.1.length=x.1.length/\c<x.1.length) (.same (.cB [.agg (cM (oF x y c).1),.bool (oF x y c).2]))
theorem awJ:∀a b,aab a=aab b->a=b:=by
  rintro⟨bb,nv,au⟩ ⟨b3,o4,c2⟩ h;simp only[bf,Data.agg.injEq,Data.int.injEq] at h;exact ei (Dg _ _ h.1) (ei (Dg _ _ h.2.1) (by have:=h.2.2.2.1.2;dsimp only;omega))
@[go_sem] theorem awK (x:b9)(y:b9)(c:Nat)(H:lN x/\lN y/\x.1.length<=1000/\y.1.length=x.1.length/\c<x.1.length):RK [.agg (cM x),.agg (cM y),.int .i64 (x.1.length:Nat),.int .i64 c]=some (.same (.cB [.agg (cM (oF x y c).1),.bool (oF x y c).2])):=(cF awJ (x,y,c)).trans (cY H _)
theorem awL (T:bm)(I8:T PS=aO Z4)(x:b9)(y:b9)(c:Nat)(H:lN x/\lN y/\x.1.length<=1000/\y.1.length=x.1.length/\c<x.1.length):WP T Zg (.same (.cB [.agg (cM (oF x y c).1),.bool (oF x y c).2])) [.I (.agg (cM x)),.I (.agg (cM y)),.I (.int .i64 (x.1.length:Nat)),.I (.int .i64 c)]:=by
 refine cH ?_;simp only[Zg];obtain⟨⟨⟨-,qM⟩,uB,mF⟩,⟨⟨-,aiU⟩,aiV,aiW⟩,fM,RL,uA⟩:=H;obtain⟨A,⟨v1,v2⟩,⟨jb,v4⟩⟩:=x;obtain⟨B,⟨nN,im⟩,⟨FT,FU⟩⟩:=y;dsimp only at qM uB mF aiU aiV aiW fM RL uA ⊢;obtain⟨⟨⟨c0,et⟩,⟨gN,hz⟩⟩,ai⟩:∃f,A[c]?=some f:=⟨_,bB uA⟩;have aiX:=qM _ (dS ai);have p4:A.getD c c1=((c0,et),(gN,hz)):=by rw[ez,ai];rfl
 unfold oF;dsimp only;rw[p4];have aiY:(A.zip B).length=D A:=by rw[aiZ];omega
 have cW:lr 201022 0 4 0 64 (D A) ((A.map aw).flatten.map .I) (some (0,[]))=some (.ref 201022 1 4 0 (D A),some (201022,1,aS aw A)):=by
  have:=A5 jS yo 201022 0 64 [] A (by simp;omega) (by simp;omega)
  simpa [aS] using this
 have pM:=MZ A
 have fC:∀(cz:List bG),D cz=(D A)->∀n (m:Mem),m 201022=some (1,aS aw cz)->dx (n+1) m (.ref 201022 1 4 0 (D A))=some (.Y (cz.map aw)):=λcz fo n m hm=>by
  have:=kt (n:=n) jS hm;rw[fo] at this;exact this
 simp only[go_sem,go_sem_proc,I8,ai,uA,cW,pM,cM,aw,ae,ah,aW];refine c9 [2,4,5,8,10,11] [201004,201005,201008,201010,201011] (λ(k:Nat) tm mem=>k<=D A/\(∀a∈(A.zip B).take k,(jt a.1 ((c0,et),(gN,hz)) a.2).2=0)/\tm 12=.I (.int .i64 k)/\mem 201022=some (1,aS aw (((A.zip B).take k).map (λa=>(jt a.1 ((c0,et),(gN,hz)) a.2).1)++((A.zip B).drop k).map pd))) (λk=>D A-k) 0 (by refine⟨fA _,by simp,rfl,?_⟩;simp only[List.take_zero,nP,b6,ir,awI RL.symm];simp[a5]) ?_;intro vs ms aK aF;simp only[go_sem,go_sem_proc,I8,cM,aw] at aK aF;subst aK aF;rintro k tm mem L hm ⟨awH,dO,eG,qE⟩;simp only[go_sem,go_sem_proc,I8,bf] at L hm;obtain⟨J,aP,bh,bP,dj,gy⟩:=L;obtain⟨gf,Bz,s6,aac,aad⟩:=hm;rcases dk (k<D A) with av|b4
 ·obtain⟨⟨⟨cE,cS⟩,⟨dU,eN⟩⟩,M⟩:∃f,A[k]?=some f:=⟨_,bB av⟩;obtain⟨⟨⟨au,c2⟩,⟨c3,c4⟩⟩,ao⟩:∃f,B[k]?=some f:=⟨_,bB (by omega)⟩;have awM:=qM _ (dS M);have awN:=aiU _ (dS ao);have a2:(A.zip B)[k]?=some (((cE,cS),(dU,eN)),((au,c2),(c3,c4))):=by rw[List.getElem?_zip_eq_some];exact⟨M,ao⟩
  have d1:decide ((k:Int)<(D A:Int))=true:=c5;have bl:=eu (i:=k) (by omega);have yA:=aiQ ((cE,cS),(dU,eN)) ((c0,et),(gN,hz)) ((au,c2),(c3,c4)) ⟨awM,aiX,awN⟩;rcases e8:jt ((cE,cS),(dU,eN)) ((c0,et),(gN,hz)) ((au,c2),(c3,c4)) with ⟨⟨⟨jz,kJ⟩,⟨sk,sl⟩⟩,BR⟩;rw[e8] at yA;simp only[aw,cQ] at yA;have fo:=aiS (op:=λa:bG×bG=>jt a.1 ((c0,et),(gN,hz)) a.2) (e:=pd) (l:=A.zip B) (k:=k);rw[aiY] at fo;rcases aC:(BR==0)
  ·have hu:=Z8 (op:=λa:bG×bG=>jt a.1 ((c0,et),(gN,hz)) a.2) (e:=pd) dO a2 (by dsimp only;rw[e8];exact aC);rw[hu];simp only[go_sem,go_sem_proc,I8,J,aP,bh,bP,dj,gy,eG,gf,Bz,s6,aac,aad,qE,d1,M,ao,yA,aC,cM,aw,cQ,c1,b6,ah,aW,cp,bne];rw[fC _ fo 3 _ (by simp[a5,qE])]
   rfl
  ·have iJ:BR=0:=beq_iff_eq.1 aC;subst iJ;have lj:=aiR (op:=λa:bG×bG=>jt a.1 ((c0,et),(gN,hz)) a.2) (e:=pd) a2;dsimp only at lj;rw[e8] at lj;have ee:k<(((A.zip B).take k).map (λa=>(jt a.1 ((c0,et),(gN,hz)) a.2).1)++((A.zip B).drop k).map pd).length:=by rw[fo];exact av
   have dq:=FP ee jz kJ sk sl;rw[lj] at dq;have RG:=z1 ee;simp only[go_sem,go_sem_proc,I8,J,aP,bh,bP,dj,gy,eG,gf,Bz,s6,aac,aad,qE,d1,bl,av,M,ao,yA,dq,RG,cM,aw,cQ,ah,aW,beq_self_eq_true,bT,bne]
   exact⟨k+1,by omega,by omega,λa a4=>by
    rw[g2,a2,jy] at a4;rcases a4 with a4|a4
    ·exact dO a a4
    ·simp at a4;rw[a4,e8],rfl,rfl⟩
 ·obtain rfl:k=D A:=by omega
  have d1:decide ((D A:Int)<(D A:Int))=false:=cu;have fR:(A.zip B).take (D A)=A.zip B:=dH (by omega);have wR:(A.zip B).drop (D A)=[]:=mA (by omega);rw[fR] at dO;rw[fR,wR,b6,gD] at qE;have hu:=RH (op:=λa:bG×bG=>jt a.1 ((c0,et),(gN,hz)) a.2) (e:=pd) dO;rw[hu];have yA:=aiQ ((v1,v2),(jb,v4)) ((c0,et),(gN,hz)) ((nN,im),(FT,FU)) ⟨⟨uB,mF⟩,aiX,⟨aiV,aiW⟩⟩;rcases e8:jt ((v1,v2),(jb,v4)) ((c0,et),(gN,hz)) ((nN,im),(FT,FU)) with ⟨⟨⟨jz,kJ⟩,⟨sk,sl⟩⟩,BR⟩;rw[e8] at yA;simp only[aw,cQ] at yA;simp only[go_sem,go_sem_proc,I8,J,aP,bh,bP,dj,gy,eG,gf,Bz,s6,aac,aad,qE,d1,yA,cM,aw,cQ,ah];rw[fC ((A.zip B).map λa=>(jt a.1 ((c0,et),(gN,hz)) a.2).1) (by rw[ah];exact aiY) 3 _ (by simp[a5,qE])]
  rfl
def ju (x:b9)(c:Nat):bG:=x.1.getD c c1
def gL (rows:List b9)(r c:Nat):Nat:=r+(rows.drop r).findIdx λx => !g7 (ju x c)
def te (rows:List b9)(i:Nat):b9:=rows.getD i ([],c1)
def hT (p:b9)(r c:Nat):Nat->List b9->List b9×Bool
 |_,[]=>([],true)
 |i,x::xs=>if (i==r||g7 (ju x c))=true then (x::(hT p r c (i+1) xs).1,(hT p r c (i+1) xs).2)
  else if (oF x p c).2=true then ((oF x p c).1::(hT p r c (i+1) xs).1,(hT p r c (i+1) xs).2) else (x::xs,false)
def nb (rows:List b9)(i j:Nat):List b9:=(rows.set i (te rows j)).set j (te rows i)
def nC (stop:Bool):Nat->Nat->List b9->Nat->List Nat->List b9×List Nat×Bool
 |0,_,rows,_,free=>(rows,free,true)
 |k+1,c,rows,r,free =>
  if gL rows r c=(D rows) then (if stop=true then (rows,free++[c],true) else nC stop k (c+1) rows r (free++[c]))
  else if (iQ (te (nb rows r (gL rows r c)) r) c).2=true then
   (if (hT (iQ (te (nb rows r (gL rows r c)) r) c).1 r c 0 ((nb rows r (gL rows r c)).set r (iQ (te (nb rows r (gL rows r c)) r) c).1)).2=true then
    nC stop k (c+1) (hT (iQ (te (nb rows r (gL rows r c)) r) c).1 r c 0 ((nb rows r (gL rows r c)).set r (iQ (te (nb rows r (gL rows r c)) r) c).1)).1 (r+1) free
   else ((hT (iQ (te (nb rows r (gL rows r c)) r) c).1 r c 0 ((nb rows r (gL rows r c)).set r (iQ (te (nb rows r (gL rows r c)) r) c).1)).1,free,false))
  else (nb rows r (gL rows r c),free,false)
def p5 (N:Nat)(rows:List b9):Prop:=D rows=N/\∀x∈rows,x.1.length=N/\lN x
theorem awO {rows:List b9}{r c i:Nat}{x:b9}(M:rows[i]?=some x)(X:r<=i)(a2:∀j y,r<=j->j<i->rows[j]?=some y->g7 (ju y c)=true)(h:g7 (ju x c)=false):gL rows r c=i:=by
 unfold gL;obtain⟨av,Zm⟩:=eg.1 M
 have:(rows.drop r).findIdx (λx => !g7 (ju x c))=i-r:=by
  rw[ah5 (by rw[oi];omega)];refine⟨?_,λj ax=>?_⟩
  ·rw[Dt];have:rows[r+(i-r)]?=some x:=by rw[show r+(i-r)=i by omega];exact M
   rw[(eg.1 this).2,h];rfl
  ·rw[Dt];have:=a2 (r+j) _ (by omega) (by omega) (bB (by omega));rw[this];rfl
 omega
theorem awP {rows:List b9}{r c:Nat}(X:r<=D rows)(a2:∀j y,r<=j->rows[j]?=some y->g7 (ju y c)=true):gL rows r c=D rows:=by
 unfold gL
 have:(rows.drop r).findIdx (λx => !g7 (ju x c))=(rows.drop r).length:=by
  rw[ah6];intro y ao;obtain⟨j,ax⟩:=zs.1 ao;rw[rU] at ax;rw[a2 (r+j) y (by omega) ax];rfl
 rw[this,oi];omega
theorem DE {rows:List b9}{i:Nat}{x:b9}(h:rows[i]?=some x):te rows i=x:=by
 unfold te;rw[ez,h];rfl
theorem ai0 {x:b9}{c:Nat}{f:bG}(h:x.1[c]?=some f):ju x c=f:=by
 unfold ju;rw[ez,h];rfl
theorem I9 {l:List b9}{k:Nat}(h:k<D l):(k*5+5<=(aS cM l).length)=True:=eq_true (by rw[lB rj];omega)
theorem ai1 {l:List b9}{k:Nat}(h:k<D l):(k*5+1<=(aS cM l).length)=True:=eq_true (by rw[lB rj];omega)
theorem RM {l:List b9}{k:Nat}(h:k<D l)(A:List bG)(a:Int)(b:List Int)(c:Int)(d:List Int):
  iu (k*5) (aS cM l)++[R.I (.Y (A.map aw)),R.I (.int .i64 a),.I (.Y (b.map ae)),.I (.int .i64 c),.I (.Y (d.map ae))]++jn (k*5+5) (aS cM l)=aS cM (l.set k (A,((a,b),(c,d)))):=by
 rw[<-Vc rj h]
 rfl
theorem Ja {l:List b9}{k:Nat}{A a b c d}(h:l[k]?=some (A,((a,b),(c,d)))):iu 5 (jn (k*5) (aS cM l))=[R.I (.Y (A.map aw)),R.I (.int .i64 a),.I (.Y (b.map ae)),.I (.int .i64 c),.I (.Y (d.map ae))]:=by
 have tO:=PF rj h (f:=0) (n:=5) (by omega);unfold cut at tO;rw[ad (by rw[lB rj];have:=(eg.1 h).1;omega)] at tO;exact pL tO
theorem ai2 {l:List b9}{k:Nat}{A a b c d}(h:l[k]?=some (A,((a,b),(c,d)))):iu 1 (jn (k*5) (aS cM l))=[R.I (.Y (A.map aw))]:=by
 have:=congrArg (iu 1) (Ja h);rw[List.take_take] at this;exact this
theorem RN {K:bg->Prop}{tm:Nat->R}{m:Mem}(P:(Nat->R)->Mem->Prop)(aj:P tm m)(h:∀tm m,P tm m->K ⟨tm,m⟩):k1 K ⟨tm,m⟩ .move:=ard (h tm m aj)
theorem aae {α:Type}{op:α->bG×Int}{e:α->bG}:∀l:List α,(nB op e l).1.length=D l
 | []=>rfl
 |a::r=>by
  unfold nB
  split
  ·simp[aae r]
  ·simp
theorem aaf {α:Type}{op:α->bG×Int}{e:α->bG}(G:∀a,okF (op a).1):∀l:List α,(∀a∈l,okF (e a))->∀f∈(nB op e l).1,okF f
 | [],_,f,aD=>by simp[nB] at aD
 |a::r,h,f,aD=>by
  unfold nB at aD
  split at aD
  ·rcases m1.1 aD with rfl|aD
   ·exact G a
   ·exact aaf G r (λb ai=>h b (h3 _ ai)) f aD
  ·obtain⟨b,ai,rfl⟩:=gE.1 aD;exact h b ai
theorem aag {N:Nat}{x:b9}(h:x.1.length=N/\lN x)(c:Nat):(iQ x c).1.1.length=N/\lN (iQ x c).1:=by
 obtain⟨az,⟨vJ,sn⟩,q7⟩:=h;have G:∀f∈(nB (λa=>fG a (x.1.getD c c1)) id x.1).1,okF f:=aaf (λa=>Rs _ _) x.1 sn;have J:=aae (op:=λa=>fG a (x.1.getD c c1)) (e:=id) x.1;unfold iQ
 split
 ·exact⟨by dsimp only;omega,⟨⟨by dsimp only;omega,G⟩,Rs _ _⟩⟩
 ·exact⟨by dsimp only;omega,⟨⟨by dsimp only;omega,G⟩,qI⟩⟩
theorem ai3 {N:Nat}{x y:b9}(h:x.1.length=N/\lN x)(ao:y.1.length=N)(c:Nat):(oF x y c).1.1.length=N/\lN (oF x y c).1:=by
 obtain⟨az,⟨vJ,sn⟩,q7⟩:=h;have a2:(x.1.zip y.1).length=N:=by rw[aiZ];omega
 have G:∀f∈(nB (λa:bG×bG=>jt a.1 (x.1.getD c c1) a.2) pd (x.1.zip y.1)).1,okF f:=aaf (λa=>aiT _ _ _) _ λa a4=>sn _ (List.of_mem_zip a4).1;have J:=aae (op:=λa:bG×bG=>jt a.1 (x.1.getD c c1) a.2) (e:=pd) (x.1.zip y.1);unfold oF
 split
 ·exact⟨by dsimp only;omega,⟨⟨by dsimp only;omega,G⟩,aiT _ _ _⟩⟩
 ·exact⟨by dsimp only;omega,⟨⟨by dsimp only;omega,G⟩,qI⟩⟩
theorem Nf {N:Nat}{p:b9}{r c:Nat}(aC:p.1.length=N):∀(i:Nat) (l:List b9),(∀x∈l,x.1.length=N/\lN x)->(hT p r c i l).1.length=D l/\∀x∈(hT p r c i l).1,x.1.length=N/\lN x
 |_,[],h=>⟨rfl,h⟩
 |i,x::xs,h=>by
  obtain⟨i1,i2⟩:=Nf (r:=r) (c:=c) aC (i+1) xs λy ao=>h y (h3 _ ao);unfold hT
  split
  ·refine⟨by simp[i1],λy ao=>?_⟩
   rcases m1.1 ao with rfl|ao
   ·exact h _ g0
   ·exact i2 y ao
  ·split
   ·refine⟨by simp[i1],λy ao=>?_⟩
    rcases m1.1 ao with rfl|ao
    ·exact ai3 (h _ g0) aC c
    ·exact i2 y ao
   ·exact⟨rfl,h⟩
theorem p5.set {N:Nat}{rows:List b9}(h:p5 N rows){i:Nat}{x:b9}(M:x.1.length=N/\lN x):p5 N (rows.set i x):=by
 refine⟨by rw[kd];exact h.1,λy ao=>?_⟩
 rcases FM ao with ao|rfl
 ·exact h.2 y ao
 ·exact M
theorem ai4 {p x:b9}{r c i:Nat}{xs:List b9}(h:(i==r||g7 (ju x c))=true):hT p r c i (x::xs)=(x::(hT p r c (i+1) xs).1,(hT p r c (i+1) xs).2):=by rw[hT,ad h]
theorem ai5 {p x:b9}{r c i:Nat}{xs:List b9}(h:¬ ((i==r||g7 (ju x c))=true))(J:(oF x p c).2=true):hT p r c i (x::xs)=((oF x p c).1::(hT p r c (i+1) xs).1,(hT p r c (i+1) xs).2):=by rw[hT,ag h,ad J]
theorem ai6 {p x:b9}{r c i:Nat}{xs:List b9}(h:¬ ((i==r||g7 (ju x c))=true))(J:(oF x p c).2=false):hT p r c i (x::xs)=(x::xs,false):=by rw[hT,ag h,ag (by rw[J];simp)]
theorem awQ (T:bm)(hL:T HN=aO MK){K:eF->bg->Prop}{kk:List fB}(N g r c:Nat)(rows:List b9)(stop:Bool)(v10:R)(cR:p5 N rows)(X:r<=N)(H:c<N)(fM:N<=40)(tm:Nat->R)(m:Mem)
  (ay:tm 1=.I (.int .i64 N)) (aA:tm 2=.I (.bool stop)) (dz:tm 9=.ref 194021 g 5 0 N) (dY:tm 10=v10) (h4:tm 11=.I (.int .i64 r)) (gq:tm 12=.I (.int .i64 c)) (hy:tm 13=.I (.int .i64 r)) (em:m 194021=some (g,aS cM rows))
  (cX:∀tm',tm' 1=.I (.int .i64 N)->tm' 2=.I (.bool stop)->tm' 9=.ref 194021 g 5 0 N->tm' 10=v10->tm' 11=.I (.int .i64 r)->tm' 12=.I (.int .i64 c)->tm' 13=.I (.int .i64 (gL rows r c:Nat))->cj T K kk (.exit 2) ⟨tm',m⟩) :
  wp T (FL.body.vx [1,1,1,1,0,1,0,0,0,1,0,0,1,0,0]) (cj T K kk) ⟨tm,m⟩:=by
 simp only[FL,ep.vx];refine c9 [1,2,9,10,11,12] [] (λ(i:Nat) tm' m'=>r<=i/\i<=N/\(∀j y,r<=j->j<i->rows[j]?=some y->g7 (ju y c)=true)/\tm' 13=.I (.int .i64 i)/\m'=m) (λi=>N-i) r (by refine⟨cI _,X,λj y G J=>by omega,hy,rfl⟩) ?_;intro vs ms aK aF;simp only[go_sem,go_sem_proc,ay,aA,dz,dY,h4,gq] at aK aF;subst aK aF;clear ay aA dz dY h4 gq hy tm;rintro i tm m' L-⟨iG,MV,a2,iZ,rfl⟩;simp only[go_sem,go_sem_proc,bf] at L;obtain⟨G,J,eA,dj,gy,eG⟩:=L;have az:=cR.1;rcases dk (i<N) with av|b4
 ·obtain⟨⟨A,⟨v1,v2⟩,⟨jb,v4⟩⟩,M⟩:∃x,rows[i]?=some x:=⟨_,bB (by omega)⟩;obtain⟨tb,-⟩:=cR.2 _ (dS M);dsimp only at tb;obtain⟨⟨⟨f1,f2⟩,⟨f3,f4⟩⟩,aD⟩:∃f,A[c]?=some f:=⟨_,bB (by omega)⟩;have nr:ju (A,((v1,v2),(jb,v4))) c=((f1,f2),(f3,f4)):=ai0 aD;have yf:=ai2 M;have od:=ai1 (l:=rows) (k:=i) (by omega);have d1:decide ((i:Int)<(N:Int))=true:=c5;have F8:c<D A:=by omega
  have bl:=eu (i:=i) (by omega);rcases m4:(f1==0)
  ·have MX:gL rows r c=i:=awO M iG a2 (by rw[nr];exact m4);rw[MX] at cX;simp only[go_sem,go_sem_proc,hL,G,J,eA,dj,gy,eG,iZ,em,d1,av,yf,od,aD,F8,m4,aw,ah,aW,l7];refine cX _ ?_ ?_ ?_ ?_ ?_ ?_ ?_<;>simp only[dv,cx,if_false,G,J,eA,dj,gy,eG,iZ]
  ·simp only[go_sem,go_sem_proc,hL,G,J,eA,dj,gy,eG,iZ,em,d1,bl,av,yf,od,aD,F8,m4,aw,ah,aW,l7];refine⟨i+1,by omega,by omega,by omega,λj y G J ao=>?_,rfl⟩
   rcases hn j i with h|h
   ·exact a2 j y G h ao
   ·obtain rfl:j=i:=by omega
    rw[M] at ao
    cases ao;rw[nr];exact m4
 ·obtain rfl:i=N:=by omega
  have d1:decide ((i:Int)<(i:Int))=false:=cu;have MX:gL rows r c=i:=by rw[awP (by omega) λj y G ao=>a2 j y G (by have:=(eg.1 ao).1;omega) ao,az]
  rw[MX] at cX;simp only[go_sem,go_sem_proc,G,J,eA,dj,gy,eG,iZ,em,d1];refine cX _ ?_ ?_ ?_ ?_ ?_ ?_ ?_<;>simp only[dv,cx,if_false,G,J,eA,dj,gy,eG,iZ]
theorem awR (T:bm)(hL:T HN=aO MK)(iR:T PR=aO RK){K:eF->bg->Prop}{kk:List fB}(N g r c:Nat)(e9:List b9)(p:b9)(stop:Bool)(v10:R)(aah:Option (Nat×List R))(cR:p5 N e9)(aC:e9[r]?=some p)(H:c<N)(fM:N<=40)(tm:Nat->R)(m:Mem)
  (ay:tm 1=.I (.int .i64 N)) (aA:tm 2=.I (.bool stop)) (dz:tm 9=.ref 194021 g 5 0 N) (dY:tm 10=v10) (h4:tm 11=.I (.int .i64 r)) (gq:tm 12=.I (.int .i64 c)) (ry:tm 17=.I (.int .i64 0)) (em:m 194021=some (g,aS cM e9)) (nc:m 194050=aah)
  (cX:(hT p r c 0 e9).2=true->∀tm' m',tm' 1=.I (.int .i64 N)->tm' 2=.I (.bool stop)->tm' 9=.ref 194021 g 5 0 N->tm' 10=v10->tm' 11=.I (.int .i64 r)->tm' 12=.I (.int .i64 c)->m' 194021=some (g,aS cM (hT p r c 0 e9).1)->m' 194050=aah->cj T K kk (.exit 4) ⟨tm',m'⟩)
  (dw:(hT p r c 0 e9).2=false->∀tm' m',tm' 6=.ref 194021 g 5 0 N->tm' 7=v10->tm' 8=.I (.bool false)->m' 194021=some (g,aS cM (hT p r c 0 e9).1)->m' 194050=aah->cj T K kk .ret ⟨tm',m'⟩) :
  wp T (FL.body.vx [1,1,1,1,0,1,0,0,0,1,0,0,1,1,1,1,1,1,1,1,1,0,1,0]) (cj T K kk) ⟨tm,m⟩:=by
 simp only[FL,ep.vx];refine c9 [1,2,9,10,11,12] [194050] (λ((i,pre):Nat×List b9) tm' m'=>i<=N/\D pre=i/\(∀x∈pre,x.1.length=N/\lN x)/\(r<i->pre[r]?=some p)/\hT p r c 0 e9=(pre++(hT p r c i (e9.drop i)).1,(hT p r c i (e9.drop i)).2)/\tm' 17=.I (.int .i64 i)/\m' 194021=some (g,aS cM (pre++e9.drop i))) (λ(i,_)=>N-i) (0,[]) (by refine⟨fA _,rfl,by simp,λh=>by omega,by simp,ry,by simpa using em⟩) ?_;intro vs ms aK aF;simp only[go_sem,go_sem_proc,ay,aA,dz,dY,h4,gq,nc] at aK aF;subst aK aF;clear ay aA dz dY h4 gq ry em nc tm m;rintro⟨i,pre⟩ tm m L hm ⟨MV,j7,Bm,yD,Jb,jR,pY⟩;simp only[go_sem,go_sem_proc,bf] at L hm;obtain⟨G,J,eA,dj,gy,eG⟩:=L;have az:=cR.1;rcases dk (i<N) with av|b4
 ·obtain⟨⟨A,⟨v1,v2⟩,⟨jb,v4⟩⟩,M⟩:∃x,e9[i]?=some x:=⟨_,bB (by omega)⟩;obtain⟨tb,qM⟩:=cR.2 _ (dS M);dsimp only at tb
  have vm:e9.drop i=(A,((v1,v2),(jb,v4)))::e9.drop (i+1):=by
   obtain⟨Cv,e⟩:=eg.1 M;rw[iC Cv,e]
  have BG:(pre++e9.drop i)[i]?=some (A,((v1,v2),(jb,v4))):=by rw[nK (by omega),j7,j6,vm];rfl
  have eC:(pre++e9.drop i).length=N:=by rw[gj,oi];omega
  have d1:decide ((i:Int)<(N:Int))=true:=c5;have bl:=eu (i:=i) (by omega)
  have yy:(i==r||g7 (ju (A,((v1,v2),(jb,v4))) c))=true->∃bn:Nat×List b9,N-bn.1<N-i/\bn.1<=N/\bn.2.length=bn.1/\(∀x∈bn.2,x.1.length=N/\lN x)/\(r<bn.1->bn.2[r]?=some p)/\hT p r c 0 e9=(bn.2++(hT p r c bn.1 (e9.drop bn.1)).1,(hT p r c bn.1 (e9.drop bn.1)).2)/\R.I (.int .i64 ((i+1:Nat):Int))=R.I (.int .i64 (bn.1:Nat))/\some (g,aS cM (pre++e9.drop i))=some (g,aS cM (bn.2++e9.drop bn.1)):=by
   intro Q;refine⟨(i+1,pre++[(A,((v1,v2),(jb,v4)))]),by dsimp only;omega,by dsimp only;omega,by simp[j7],λx wz=>?_,λh=>?_,?_,rfl,?_⟩
   ·rcases jy.1 wz with h|h
    ·exact Bm x h
    ·rw[ye] at h;rw[h];exact⟨tb,qM⟩
   ·dsimp only at h ⊢;rcases hn r i with cv|cv
    ·rw[oZ (by omega)];exact yD cv
    ·obtain rfl:r=i:=by omega
     rw[nK (by omega),j7,j6];rw[aC] at M;rw[pL M];rfl
   ·dsimp only;rw[Jb,vm,ai4 Q,hd]
    rfl
   ·dsimp only;rw[vm,hd];rfl
  by_cases po:i=r
  ·have ai:((i:Int)==(r:Int))=true:=by rw[beq_iff_eq];omega
   simp only[go_sem,go_sem_proc,G,J,eA,dj,gy,eG,jR,hm,pY,d1,bl,ai];exact yy (by rw[show (i==r)=true by simpa using po];rfl)
  have ai:((i:Int)==(r:Int))=false:=by rw[beq_eq_false_iff_ne];omega
  obtain⟨⟨⟨f1,f2⟩,⟨f3,f4⟩⟩,aD⟩:∃f,A[c]?=some f:=⟨_,bB (by omega)⟩;have nr:ju (A,((v1,v2),(jb,v4))) c=((f1,f2),(f3,f4)):=ai0 aD;have yf:=ai2 BG;have od:=ai1 (l:=pre++e9.drop i) (k:=i) (by omega);have F8:c<D A:=by omega
  rcases m4:(f1==0)
  case true =>
   simp only[go_sem,go_sem_proc,hL,G,J,eA,dj,gy,eG,jR,hm,pY,d1,bl,ai,av,yf,od,aD,F8,m4,aw,ah,aW,l7];exact yy (by rw[nr,show g7 ((f1,f2),(f3,f4))=true from m4,pR])
  have pn:r<N:=by have:=(eg.1 aC).1;omega
  have oA:(pre++e9.drop i)[r]?=some p:=by
   rcases hn r i with cv|cv
   ·rw[oZ (by omega)];exact yD cv
   ·rw[nK (by omega),rU,j7,show i+(r-i)=r by omega];exact aC
  obtain⟨aai,yw⟩:=cR.2 _ (dS aC);have u6:=awK (A,((v1,v2),(jb,v4))) p c ⟨qM,yw,by dsimp only;omega,by dsimp only;omega,F8⟩
  have nD:=ai3 (N:=N) (x:=(A,((v1,v2),(jb,v4)))) (y:=p) ⟨tb,qM⟩ aai c;dsimp only at u6;rw[tb] at u6;obtain⟨P,⟨nN,im⟩,⟨FT,FU⟩⟩:=p;rcases jN:oF (A,((v1,v2),(jb,v4))) (P,((nN,im),(FT,FU))) c with ⟨⟨sq,⟨bb,b3⟩,⟨c7,eV⟩⟩,ok⟩;rw[jN] at u6 nD;simp only[cM,aw] at u6;have Le:=Ja BG;have F9:=Ja oA;have lH:=I9 (l:=pre++e9.drop i) (k:=i) (by omega);have zJ:=I9 (l:=pre++e9.drop i) (k:=r) (by omega)
  have z4:¬ ((i==r||g7 (ju (A,((v1,v2),(jb,v4))) c))=true):=by
   rw[nr,show g7 ((f1,f2),(f3,f4))=false from m4,Bool.or_false]
   simpa using po
  cases ok
  ·have mm:hT (P,((nN,im),(FT,FU))) r c 0 e9=(pre++e9.drop i,false):=by
    rw[Jb,vm,ai6 z4 (by rw[jN])]
   rw[mm] at dw;simp only[go_sem,go_sem_proc,hL,iR,G,J,eA,dj,gy,eG,jR,hm,pY,d1,bl,ai,av,pn,yf,od,aD,F8,m4,Le,F9,lH,zJ,u6,cM,aw,ah,aW,l7,cp];refine dw rfl _ _ ?_ ?_ ?_ ?_ ?_<;>first|rfl|(simp[eA,dj];done)|(simp[a5,pY,hm];done)
  ·have wW:=RM (l:=pre++e9.drop i) (k:=i) (by omega) sq bb b3 c7 eV
   have rh:(pre++e9.drop i).set i (sq,((bb,b3),(c7,eV)))=(pre++[(sq,((bb,b3),(c7,eV)))])++e9.drop (i+1):=by
    rw[z2 _ _ (by omega),j7,j6,vm,kP,hd]
    rfl
   rw[rh] at wW;simp only[go_sem,go_sem_proc,hL,iR,G,J,eA,dj,gy,eG,jR,hm,pY,d1,bl,ai,av,pn,yf,od,aD,F8,m4,Le,F9,lH,zJ,u6,wW,cM,aw,ah,aW,l7,bf,bT];refine⟨(i+1,pre++[(sq,((bb,b3),(c7,eV)))]),by dsimp only;omega,by dsimp only;omega,by simp[j7],λx wz=>?_,λh=>?_,?_,rfl,rfl⟩
   ·rcases jy.1 wz with h|h
    ·exact Bm x h
    ·rw[ye] at h;rw[h];exact nD
   ·dsimp only at h ⊢;rw[oZ (by omega)];exact yD (by omega)
   ·dsimp only;rw[Jb,vm,ai5 z4 (by rw[jN]),jN,hd]
    rfl
 ·obtain rfl:i=N:=by omega
  have d1:decide ((i:Int)<(i:Int))=false:=cu;have kM:e9.drop i=[]:=mA (by omega);rw[kM] at pY Jb;simp only[hT,gD] at Jb pY;rw[Jb] at cX;simp only[go_sem,go_sem_proc,G,J,eA,dj,gy,eG,jR,hm,pY,d1];refine cX rfl _ _ ?_ ?_ ?_ ?_ ?_ ?_ pY hm<;>simp only[dv,cx,if_false,G,J,eA,dj,gy,eG,jR]
def tf (n:Nat):List Data:=[.int .i64 n]
theorem RO (n:Nat):(tf n).length=1:=rfl
theorem awS (n:Nat):((tf n).map R.I).all R.one=true:=rfl
theorem ai7 {stop:Bool}{k c r:Nat}{rows:List b9}{free:List Nat}(h:gL rows r c=D rows):nC stop (k+1) c rows r free=if stop=true then (rows,free++[c],true) else nC stop k (c+1) rows r (free++[c]):=by rw[nC,ad h]
theorem ai8 {stop:Bool}{k c r:Nat}{rows:List b9}{free:List Nat}{gA:List b9}{x:b9}(h:gL rows r c≠(D rows))(Q:nb rows r (gL rows r c)=gA)(M:te gA r=x):nC stop (k+1) c rows r free =
  if (iQ x c).2=true then (if (hT (iQ x c).1 r c 0 (gA.set r (iQ x c).1)).2=true then nC stop k (c+1) (hT (iQ x c).1 r c 0 (gA.set r (iQ x c).1)).1 (r+1) free else ((hT (iQ x c).1 r c 0 (gA.set r (iQ x c).1)).1,free,false)) else (gA,free,false):=by rw[nC,ag h,Q,M]
def BS (cr:List b9×List Nat×Bool):Data:=.cB [.Y (cr.1.map cM),.Y (cr.2.1.map tf),.bool cr.2.2]
theorem aaj (rows:List b9)(r c:Nat)(X:r<=D rows):r<=gL rows r c/\gL rows r c<=D rows:=by
 unfold gL;have:=aiB (p:=λx => !g7 (ju x c)) (xs:=rows.drop r);rw[oi] at this;omega
abbrev aak:(List b9)×Bool->List Data:=λ(rs,stop)=>[.Y (rs.map cM),.int .i64 (D rs:Nat),.bool stop]
def RP:=cy aak λ(rs,stop)=>cT (p5 (D rs) rs/\D rs<=40) (.same (BS (nC stop (D rs) 0 rs 0 [])))
theorem awT:∀a b,aak a=aak b->a=b:=by
  rintro⟨QV,av3⟩ ⟨QW,av4⟩ h;simp only[bf,Data.Y.injEq,Data.bool.injEq] at h;exact ei (map_inj Dg _ _ h.1) h.2.2.1
@[go_sem] theorem awU (rs:List b9)(stop:Bool)(H:p5 (D rs) rs/\D rs<=40):RP [.Y (rs.map cM),.int .i64 (D rs:Nat),.bool stop]=some (.same (BS (nC stop (D rs) 0 rs 0 []))):=(cF awT (rs,stop)).trans (cY H _)
theorem awV (T:bm)(jU:T VO=aO Z6)(hL:T HN=aO MK)(jV:T VP=aO aaa)(iR:T PR=aO RK)(rs:List b9)(stop:Bool)(H:p5 (D rs) rs/\D rs<=40):WP T FL (.same (BS (nC stop (D rs) 0 rs 0 []))) [.I (.Y (rs.map cM)),.I (.int .i64 (D rs:Nat)),.I (.bool stop)]:=by
 refine cH ?_;simp only[FL];obtain⟨cR,fM⟩:=H;have awW:lf rs:=⟨by omega,λr X=>(cR.2 r X).2⟩
 have yc:=awA rs ⟨by omega,awW⟩
 have fh:((rs.map cM).flatten.map R.I)=aS cM rs:=rfl;have L8:nC stop (D rs) 0 rs 0 []=nC stop (D rs) 0 rs 0 []:=rfl;generalize ai9:(D rs)=N at *;generalize awX:nC stop N 0 rs 0 []=kz at L8 ⊢;simp only[go_sem,go_sem_proc,jU,hL,jV,iR,yc,fh,ah,ai9];refine c9 [1,2,9] [] (λ((c,r,ki,rows,free):Nat×Nat×Nat×List b9×List Nat) tm m=>c<=N/\r+D free=c/\p5 N rows/\kz=nC stop (N-c) c rows r free/\tm 12=.I (.int .i64 c)/\tm 11=.I (.int .i64 r)/\tm 10=.ref 194050 ki 1 0 (D free)/\m 194021=some (0,aS cM rows)/\m 194050=some (ki,aS tf free)) (λ(c,_)=>N-c) (0,0,0,rs,[]) (by refine⟨fA _,rfl,cR,?_,rfl,rfl,rfl,?_,?_⟩<;>first|exact awX.symm|rfl) ?_
 intro vs ms aK aF;simp only[go_sem,go_sem_proc,jU,hL,jV,iR,yc,fh,ah,ai9] at aK aF;subst aK aF;rintro⟨c,r,ki,rows,free⟩ tm m L-⟨uA,jf,Jc,gQ,eG,gy,dj,p6,p7⟩;simp only[go_sem,go_sem_proc,jU,hL,jV,iR,bf] at L;obtain⟨G,J,eA⟩:=L;have az:=Jc.1;rcases dk (c<N) with av|b4
 ·have d1:decide ((c:Int)<(N:Int))=true:=c5;have bl:=eu (i:=c) (by omega);have jr:=eu (i:=r) (by omega);obtain⟨k,L⟩:∃k,N-c=k+1:=⟨N-c-1,by omega⟩
  rw[L] at gQ;simp only[go_sem,go_sem_proc,jU,hL,jV,iR,G,J,eA,dj,gy,eG,d1];refine RN (λtm m=>tm 1=.I (.int .i64 N)/\tm 2=.I (.bool stop)/\tm 9=.ref 194021 0 5 0 N/\tm 10=.ref 194050 ki 1 0 (D free)/\tm 11=.I (.int .i64 r)/\tm 12=.I (.int .i64 c)/\m 194021=some (0,aS cM rows)/\m 194050=some (ki,aS tf free)) (by refine⟨?_,?_,?_,?_,?_,?_,?_,?_⟩<;>first|rfl|assumption|simp only[go_sem,go_sem_proc,jU,hL,jV,iR,G,J,eA,dj,gy,eG]) ?_
  clear G J eA dj gy eG p6 p7 tm m;rintro tm m ⟨G,J,eA,dj,gy,eG,p6,p7⟩;simp only[go_sem,go_sem_proc,jU,hL,jV,iR,gy];refine awQ T hL N 0 r c rows stop (.ref 194050 ki 1 0 (D free)) Jc (by omega) av fM _ _ ?_ ?_ ?_ ?_ ?_ ?_ ?_ ?_ ?_
  ·simp only[go_sem,go_sem_proc,jU,hL,jV,iR,G]
  ·simp only[go_sem,go_sem_proc,jU,hL,jV,iR,J]
  ·simp only[go_sem,go_sem_proc,jU,hL,jV,iR,eA]
  ·simp only[go_sem,go_sem_proc,jU,hL,jV,iR,dj]
  ·simp only[go_sem,go_sem_proc,jU,hL,jV,iR,gy]
  ·simp only[go_sem,go_sem_proc,jU,hL,jV,iR,eG]
  ·rfl
  ·exact p6
  intro tm' cL dN gS iK la ky r8;have bW:=aaj rows r c (by omega);rw[az] at bW;simp only[go_sem,go_sem_proc,jU,hL,jV,iR];refine RN (λtm m=>tm 1=.I (.int .i64 N)/\tm 2=.I (.bool stop)/\tm 9=.ref 194021 0 5 0 N/\tm 10=.ref 194050 ki 1 0 (D free)/\tm 11=.I (.int .i64 r)/\tm 12=.I (.int .i64 c)/\tm 13=.I (.int .i64 (gL rows r c:Nat))/\m 194021=some (0,aS cM rows)/\m 194050=some (ki,aS tf free)) ⟨cL,dN,gS,iK,la,ky,r8,p6,p7⟩ ?_;clear G J eA dj gy eG cL dN gS iK la ky r8 p6 p7 tm tm' m;rintro tm m ⟨G,J,eA,dj,gy,eG,iZ,p6,p7⟩
  by_cases aD:gL rows r c=N
  ·have d2:((((gL rows r c:Nat):Int))==(N:Int))=true:=by rw[beq_iff_eq];omega
   have cW:=ka RO awS 194050 ki 8 free c (cs:=[.I (.int .i64 c)]) rfl (by omega) (by omega);rw[ai7 (by rw[az];exact aD)] at gQ
   cases stop
   ·rw[ag (by simp)] at gQ;simp only[go_sem,go_sem_proc,jU,hL,jV,iR,G,J,eA,dj,gy,eG,iZ,p6,p7,d2,cW,bl];exact⟨(c+1,r,ki+1,rows,free++[c]),by dsimp only;omega,by dsimp only;omega,by simp;omega,Jc,by dsimp only;rw[gQ,show N-(c+1)=k by omega],rfl,rfl,by simp,rfl,rfl⟩
   ·rw[ad rfl] at gQ
    have tc:∀n (m:Mem),m 194021=some (0,aS cM rows)->dx (n+1) m (.ref 194021 0 5 0 N)=some (.Y (rows.map cM)):=λn m hm=>by
     have:=kt (n:=n) rj hm;rwa [az] at this
    have sm:∀n (m:Mem),m 194050=some (ki+1,aS tf (free++[c]))->dx (n+1) m (.ref 194050 (ki+1) 1 0 (D free+1))=some (.Y ((free++[c]).map tf)):=λn m hm=>by
     have:=kt (n:=n) RO hm;rwa [gj,List.length_singleton] at this
    rw[gQ];simp only[go_sem,go_sem_proc,jU,hL,jV,iR,G,J,eA,dj,gy,eG,iZ,p6,p7,d2,cW,BS];rw[tc 4 _ (by simp[a5,p6]),sm 4 _ (by simp[a5])]
    rfl
  ·have d2:((((gL rows r c:Nat):Int))==(N:Int))=false:=by rw[beq_eq_false_iff_ne];omega
   generalize Q:gL rows r c=s at *;have xa:s<N:=by omega
   have pn:r<N:=by omega
   obtain⟨⟨sq,⟨bb,b3⟩,⟨c7,eV⟩⟩,M⟩:∃x,rows[s]?=some x:=⟨_,bB (by omega)⟩;obtain⟨⟨Ng,⟨nv,o4⟩,⟨vK,vL⟩⟩,ao⟩:∃x,rows[r]?=some x:=⟨_,bB (by omega)⟩
   have rv:nb rows r (gL rows r c)=(rows.set r (sq,((bb,b3),(c7,eV)))).set s (Ng,((nv,o4),(vK,vL))):=by
    unfold nb;rw[Q,DE M,DE ao]
   have vF:((rows.set r (sq,((bb,b3),(c7,eV)))).set s (Ng,((nv,o4),(vK,vL))))[r]?=some (sq,((bb,b3),(c7,eV))):=by
    rw[mo,mo,kd]
    by_cases h:s=r
    ·subst h;rw[M] at ao;rw[ad rfl,ad (by omega)];exact ao.symm
    ·rw[ag h,ad rfl,ad (by omega)]
   have yz:=Jc.2 _ (dS M);have aja:p5 N ((rows.set r (sq,((bb,b3),(c7,eV)))).set s (Ng,((nv,o4),(vK,vL)))):=(Jc.set yz).set (Jc.2 _ (dS ao));rw[ai8 (by rw[Q,az];exact aD) rv (DE vF)] at gQ;have gB:=Ja M;have ajb:=Ja ao;have BA:=I9 (l:=rows) (k:=s) (by omega);have De:=I9 (l:=rows) (k:=r) (by omega);have s1:=RM (l:=rows) (k:=r) (by omega) sq bb b3 c7 eV;have ajc:=I9 (l:=rows.set r (sq,((bb,b3),(c7,eV)))) (k:=s) (by rw[kd];omega);have s2:=RM (l:=rows.set r (sq,((bb,b3),(c7,eV)))) (k:=s) (by rw[kd];omega) Ng nv o4 vK vL;generalize aKl:(rows.set r (sq,((bb,b3),(c7,eV)))).set s (Ng,((nv,o4),(vK,vL)))=gA at *;have xO:=aja.1;simp only[go_sem,go_sem_proc,jU,hL,jV,iR,G,J,eA,dj,gy,eG,iZ,p6,p7,d2];refine RN (λtm m=>tm 1=.I (.int .i64 N)/\tm 2=.I (.bool stop)/\tm 9=.ref 194021 0 5 0 N/\tm 10=.ref 194050 ki 1 0 (D free)/\tm 11=.I (.int .i64 r)/\tm 12=.I (.int .i64 c)/\tm 13=.I (.int .i64 s)/\m 194021=some (0,aS cM rows)/\m 194050=some (ki,aS tf free)) (by refine⟨?_,?_,?_,?_,?_,?_,?_,?_,?_⟩<;>first|rfl|assumption|simp only[go_sem,go_sem_proc,jU,hL,jV,iR,G,J,eA,dj,gy,eG,iZ]) ?_
   clear G J eA dj gy eG iZ p6 p7 tm m;rintro tm m ⟨G,J,eA,dj,gy,eG,iZ,p6,p7⟩;have ajd:=Ja vF;have aje:=I9 (l:=gA) (k:=r) (by omega);have zg:(D sq)=N:=yz.1;have o7:=awF (sq,((bb,b3),(c7,eV))) c ⟨yz.2,by dsimp only;omega,by dsimp only;omega⟩
   have hq:=aag yz c;dsimp only at o7;rw[zg] at o7;rcases jN:iQ (sq,((bb,b3),(c7,eV))) c with ⟨⟨DF,⟨ay,aA⟩,⟨bQ,bL⟩⟩,ok⟩;rw[jN] at o7 hq gQ;simp only[cM,aw] at o7;simp only[go_sem,go_sem_proc,jU,hL,jV,iR,G,J,eA,dj,gy,eG,iZ,p6,p7,xa,pn,gB,ajb,BA,De,s1,ajc,s2,ajd,aje,o7,l7];refine RN (λtm m=>tm 1=.I (.int .i64 N)/\tm 2=.I (.bool stop)/\tm 9=.ref 194021 0 5 0 N/\tm 10=.ref 194050 ki 1 0 (D free)/\tm 11=.I (.int .i64 r)/\tm 12=.I (.int .i64 c)/\tm 16=.I (.bool ok)/\m 194021=some (0,aS cM gA)/\m 194050=some (ki,aS tf free)/\∃q,tm 15=.ptr 194015 q 0/\m 194015=some (q,[.I (.Y (DF.map aw)),.I (.int .i64 ay),.I (.Y (aA.map ae)),.I (.int .i64 bQ),.I (.Y (bL.map ae))])) (by refine⟨?_,?_,?_,?_,?_,?_,?_,?_,?_,gd (m 194015),?_,?_⟩<;>first|rfl|assumption|simp only[go_sem,go_sem_proc,jU,hL,jV,iR,G,J,eA,dj,gy,eG,p7]) ?_
   clear G J eA dj gy eG iZ p6 p7 tm m gB ajb BA De s1 ajc s2 ajd o7;rintro tm m ⟨G,J,eA,dj,gy,eG,rb,p6,p7,q,uf,awY⟩
   have tc:∀(rows:List b9),D rows=N->∀n (m:Mem),m 194021=some (0,aS cM rows)->dx (n+1) m (.ref 194021 0 5 0 N)=some (.Y (rows.map cM)):=λrows az n m hm=>by
    have:=kt (n:=n) rj hm;rwa [az] at this
   have sm:∀n (m:Mem),m 194050=some (ki,aS tf free)->dx (n+1) m (.ref 194050 ki 1 0 (D free))=some (.Y (free.map tf)):=λn m hm=>kt (n:=n) RO hm
   cases ok
   ·rw[ag (by simp)] at gQ;rw[gQ];simp only[go_sem,go_sem_proc,jU,hL,jV,iR,G,J,eA,dj,gy,eG,rb,p6,p7,BS,cp];rw[tc gA xO 4 _ p6,sm 4 _ p7]
    rfl
   ·rw[ad rfl] at gQ;have bY:=RM (l:=gA) (k:=r) (by omega) DF ay aA bQ bL;have Nh:=aja.set (i:=r) hq;have awZ:(gA.set r (DF,((ay,aA),(bQ,bL))))[r]?=some (DF,((ay,aA),(bQ,bL))):=by rw[mo,ad rfl,ad (by omega)]
    simp only[go_sem,go_sem_proc,jU,hL,jV,iR,G,J,eA,dj,gy,eG,rb,uf,awY,p6,p7,pn,aje,bY,bT];refine awR T hL iR N 0 r c (gA.set r (DF,((ay,aA),(bQ,bL)))) (DF,((ay,aA),(bQ,bL))) stop (.ref 194050 ki 1 0 (D free)) (some (ki,aS tf free)) Nh awZ av fM _ _ ?_ ?_ ?_ ?_ ?_ ?_ ?_ ?_ ?_ ?_ ?_
    ·simp only[go_sem,go_sem_proc,jU,hL,jV,iR,G]
    ·simp only[go_sem,go_sem_proc,jU,hL,jV,iR,J]
    ·simp only[go_sem,go_sem_proc,jU,hL,jV,iR,eA]
    ·simp only[go_sem,go_sem_proc,jU,hL,jV,iR,dj]
    ·simp only[go_sem,go_sem_proc,jU,hL,jV,iR,gy]
    ·simp only[go_sem,go_sem_proc,jU,hL,jV,iR,eG]
    ·rfl
    ·simp only[go_sem,go_sem_proc,jU,hL,jV,iR]
    ·simp only[go_sem,go_sem_proc,jU,hL,jV,iR,p7]
    ·intro mm tm' m' cL dN gS iK la ky oh Jd;rw[mm,ad rfl] at gQ;have nD:=Nf (p:=(DF,((ay,aA),(bQ,bL)))) (r:=r) (c:=c) hq.1 0 _ Nh.2;simp only[go_sem,go_sem_proc,jU,hL,jV,iR,cL,dN,gS,iK,la,ky,oh,Jd,bl,jr];exact⟨(c+1,r+1,ki,_,free),by dsimp only;omega,by dsimp only;omega,by dsimp only;omega,⟨nD.1.trans Nh.1,nD.2⟩,by dsimp only;rw[gQ,show N-(c+1)=k by omega],rfl,rfl,rfl,rfl,rfl⟩
    ·intro mm tm' m' eD hv gR oh Jd;rw[mm,ag (by simp)] at gQ;have nD:=Nf (p:=(DF,((ay,aA),(bQ,bL)))) (r:=r) (c:=c) hq.1 0 _ Nh.2;rw[gQ];simp only[go_sem,go_sem_proc,jU,hL,jV,iR,eD,hv,gR,oh,Jd,BS];rw[tc _ (nD.1.trans Nh.1) 4 _ oh,sm 4 _ Jd]
     rfl
 ·obtain rfl:c=N:=by omega
  have d1:decide ((c:Int)<(c:Int))=false:=cu
  have tc:∀n (m:Mem),m 194021=some (0,aS cM rows)->dx (n+1) m (.ref 194021 0 5 0 c)=some (.Y (rows.map cM)):=λn m hm=>by
   have:=kt (n:=n) rj hm;rwa [az] at this
  have sm:∀n (m:Mem),m 194050=some (ki,aS tf free)->dx (n+1) m (.ref 194050 ki 1 0 (D free))=some (.Y (free.map tf)):=λn m hm=>kt (n:=n) RO hm;rw[j6] at gQ;simp only[nC] at gQ;rw[gQ];simp only[go_sem,go_sem_proc,jU,hL,jV,iR,G,J,eA,dj,gy,eG,d1,BS];rw[tc 4 _ p6,sm 4 _ p7]
  rfl
theorem ajf {rs:List b9}{n:Int}(bS:lf rs)(h:iM rs n=true):n=(D rs:Nat)/\D rs<=40/\p5 (D rs) rs:=by
 obtain⟨G,J,af⟩:=RC bS h;exact⟨G.symm,J,rfl,af⟩
theorem RQ {N:Nat}(stop:Bool):∀(k c:Nat) (rows:List b9) (r:Nat) (free:List Nat),c+k=N->r<=c->p5 N rows->p5 N (nC stop k c rows r free).1
 |0,c,rows,r,free,_,_,h=>h
 |k+1,c,rows,r,free,H,jf,h=>by
  have az:=h.1;unfold nC
  split
  ·split
   ·exact h
   ·exact RQ stop k (c+1) rows r _ (by omega) (by omega) h
  ·rename_i b5
   have ia:∀i,i<(D rows)->te rows i∈rows:=λi U=>by
    have M:rows[i]?=some rows[i]:=bB U;rw[DE M];exact nM U
   have X:r<D rows:=by omega
   have hle:=aaj rows r c (by omega);have Q:gL rows r c<D rows:=by omega
   have rv:p5 N (nb rows r (gL rows r c)):=by
    unfold nb;exact (h.set (h.2 _ (ia _ Q))).set (h.2 _ (ia _ X))
   have xO:(nb rows r (gL rows r c)).length=D rows:=by unfold nb;rw[kd,kd]
   have m7:te (nb rows r (gL rows r c)) r∈nb rows r (gL rows r c):=by
    have M:(nb rows r (gL rows r c))[r]?=some _:=bB (by omega);rw[DE M];exact nM _
   have ab:=aag (rv.2 _ m7) c
   split
   ·have o7:=rv.set (i:=r) ab;have nD:=Nf (p:=(iQ (te (nb rows r (gL rows r c)) r) c).1) (r:=r) (c:=c) ab.1 0 _ o7.2
    split
    ·exact RQ stop k (c+1) _ (r+1) free (by omega) (by omega) ⟨nD.1.trans o7.1,nD.2⟩
    ·exact⟨nD.1.trans o7.1,nD.2⟩
   ·exact rv
def uC (stop:Bool)(rs:List b9):List b9×List Nat×Bool:=nC stop (D rs) 0 rs 0 []
def BT (rs:List b9)(n:Int):List bG×Int:=if iM rs n=true then (if (uC true rs).2.2=true then (if (uC true rs).2.1.length>0 then ([],17) else ((uC true rs).1.map (·.2),0)) else ([],6)) else ([],1)
def aal:=cy IC λ(rs,n)=>cT (lf rs) (.same (.cB [.Y ((BT rs n).1.map aw),.int .i64 (BT rs n).2]))
@[go_sem] theorem aw0 (rs:List b9)(n:Int)(H:lf rs):aal [.Y (rs.map cM),.int .i64 n]=some (.same (.cB [.Y ((BT rs n).1.map aw),.int .i64 (BT rs n).2])):=(cF QX (rs,n)).trans (cY H _)
theorem aw1 (T:bm)(DG:T VM=aO Z1)(DH:T VN=aO RP)(rs:List b9)(n:Int)(H:lf rs):WP T Zc (.same (.cB [.Y ((BT rs n).1.map aw),.int .i64 (BT rs n).2])) [.I (.Y (rs.map cM)),.I (.int .i64 n)]:=by
 refine cH ?_;simp only[Zc];unfold BT;rcases X:iM rs n
 ·simp only[go_sem,go_sem_proc,DG,DH,H,X,cp,b6]
 ·obtain⟨rfl,fM,cR⟩:=ajf H X;have dw:=awU rs true ⟨cR,fM⟩;have nD:=RQ true (D rs) 0 rs 0 [] (by omega) (by omega) cR
  change RP [.Y (rs.map cM),.int .i64 (D rs:Nat),.bool true]=some (.same (BS (uC true rs))) at dw
  change p5 (D rs) (uC true rs).1 at nD
  rcases fs:uC true rs with ⟨rows,free,ok⟩;rw[fs] at nD dw;dsimp only at nD;simp only[BS] at dw;have cg:=nD.1
  cases ok
  ·simp only[go_sem,go_sem_proc,DG,DH,H,X,dw,ah,bT,cp,b6]
  ·cases free with
   |cons f eb =>
    have g1:decide ((((f::eb).length:Nat):Int)>0)=true:=jw (by simp only[kB];omega);simp only[kB] at g1;simp only[go_sem,go_sem_proc,DG,DH,H,X,dw,g1,ah,bT,cp,b6];rw[ad (by simp)]
    all_goals rfl
   |nil =>
    simp only[go_sem,go_sem_proc,DG,DH,H,X,dw,ah,show decide (((0:Nat):Int)>0)=false from rfl,b6,List.length_nil,bT,cp];rw[ag (by simp)];refine c9 [1,6] [] (λ((i,g):Nat×Nat) tm m=>i<=D rs/\tm 10=.I (.int .i64 i)/\tm 9=.ref 189039 g 4 0 i/\m 189039=some (g,aS aw ((rows.take i).map (·.2)))) (λ(i,_)=>D rs-i) (0,0) (by refine⟨fA _,rfl,rfl,rfl⟩) ?_;intro vs ms aK aF;simp only[go_sem,go_sem_proc,DG,DH] at aK aF;subst aK aF;rintro⟨i,g⟩ tm m L-⟨MV,dj,eA,aam⟩;simp only[go_sem,go_sem_proc,DG,DH,bf] at L;obtain⟨G,bK⟩:=L;rcases dk (i<D rs) with av|b4
    ·obtain⟨⟨A,⟨cE,cS⟩,⟨dU,eN⟩⟩,M⟩:∃x,rows[i]?=some x:=⟨_,bB (by omega)⟩;have kQ:((rows.take i).map (·.2)).length=i:=by rw[ah,fU];omega
     have cW:=ka jS yo 189039 g 64 ((rows.take i).map (·.2)) ((cE,cS),(dU,eN)) (cs:=[.I (.int .i64 cE),.I (.Y (cS.map ae)),.I (.int .i64 dU),.I (.Y (eN.map ae))]) rfl (by omega) (by omega);rw[kQ] at cW
     have M8:(rows.take i).map (·.2)++[((cE,cS),(dU,eN))]=(rows.take (i+1)).map (·.2):=by
      rw[g2,M,kg];rfl
     rw[M8] at cW;have d1:decide ((i:Int)<(D rs:Int))=true:=c5;have bl:=eu (i:=i) (by omega);simp only[go_sem,go_sem_proc,DG,DH,G,bK,eA,dj,aam,M,cW,d1,bl,cM,aw,ah,aW];exact⟨(i+1,g+1),by dsimp only;omega,by dsimp only;omega,rfl,rfl,rfl⟩
    ·obtain rfl:i=D rs:=by omega
     have d1:decide ((D rs:Int)<(D rs:Int))=false:=cu;have dO:rows.take (D rs)=rows:=dH (by omega);rw[dO] at aam
     have fC:∀n,dx (n+1) m (.ref 189039 g 4 0 (D rs))=some (.Y ((rows.map (·.2)).map aw)):=λn=>by
      have:=kt (n:=n) jS aam;rw[show (rows.map (·.2)).length=(D rs) by rw[ah];omega] at this
      exact this
     have aw2:=fC 4;simp only[go_sem,go_sem_proc,DG,DH,G,bK,eA,dj,d1];rw[aw2]
     rfl

def mM (r:b9):List bG:=r.1++[r.2]
def nd (cr:List dE)(bV:List b9):Prop:=cr.map (·.2.2)=bV.map mM
theorem nd.len {cr:List dE}{bV:List b9}(h:nd cr bV):(D cr)=D bV:=by
 have:=congrArg D h
 simpa using this
theorem nd.at_ {cr:List dE}{bV:List b9}(h:nd cr bV){i:Nat}{x:dE}{r:b9}(M:cr[i]?=some x)(X:bV[i]?=some r):x.2.2=mM r:=by
 have:=congrArg (λl:List (List bG)=>l[i]?) h;simp only[aW,M,X,l9,cO] at this;exact this
theorem aan {N c:Nat}{x:dE}{r:b9}(h:x.2.2=mM r)(az:r.1.length=N)(H:c<N):cellOf x c=ju r c:=by
 unfold cellOf ju;rw[h,ez,ez];unfold mM;rw[oZ (by omega)]
theorem aao {α:Type}{op:α->bG×Int}{e:α->bG}:∀l:List α,(nB op e l).2=l.all λa=>(op a).2==0
 | []=>rfl
 |a::r=>by
  unfold nB;rw[xW];rcases h:((op a).2==0)
  ·rfl
  ·simp only[if_true,fP];exact aao r
theorem ajg {α:Type}{op:α->bG×Int}{e:α->bG}{l:List α}(h:(l.all λa=>(op a).2==0)=true):(nB op e l).1=l.map λa=>(op a).1:=by
 rw[RH λa a4=>by have:=List.all_eq_true.1 h a a4;simpa using this]
theorem aw3 {α:Type}(f:α->Int)(l:List α):(l.any λa=>f a != 0) = !(l.all λa=>f a==0):=by
 rw[List.not_all_eq_any_not]
 rfl
theorem aw4 (r:b9)(c:Nat):(hx (ju r c) (mM r)).2 = !(iQ r c).2/\((iQ r c).2=true->(hx (ju r c) (mM r)).1=mM (iQ r c).1):=by
 have H:r.1.getD c c1=ju r c:=rfl;unfold hx iQ mM;rw[H,aw3,Re,aao];rcases h:(r.1.all λa=>(fG a (ju r c)).2==0)
 ·simp
 ·rw[ajg h];simp
theorem ajh (a f b:bG):((jt a f b).2==0)=((h2 f b).2==0&&(kf a (h2 f b).1).2==0):=by
 unfold jt;rcases h:((h2 f b).2==0)
 ·simp only[kE,if_false,fr,h]
 ·simp only[if_true,fP]
theorem aw5 {a f b:bG}(h:((jt a f b).2==0)=true):(jt a f b).1=(kf a (h2 f b).1).1:=by
 rw[ajh,gb] at h;unfold jt;rw[ad h.1]
theorem aji (f:bG):∀(l p:List bG),D l=(D p)->(iz f l p false).2 = !((l.zip p).all λa=>(jt a.1 f a.2).2==0)/\(((l.zip p).all λa=>(jt a.1 f a.2).2==0)=true->(iz f l p false).1=(l.zip p).map λa=>(jt a.1 f a.2).1)
 | [],[],_=>by simp[iz]
 |a::l,[],h=>by simp at h
 | [],b::p,h=>by simp at h
 |a::l,b::p,h=>by
  obtain⟨i1,i2⟩:=aji f l p (by simpa using h)
  have jg:((h2 f b).2 != 0||(kf a (h2 f b).1).2 != 0) = !((jt a f b).2==0):=by
   rw[ajh];simp only[bne,Bool.not_and]
  simp only[iz,List.zip_cons_cons,xW,eI];rw[jg];rcases L:((jt a f b).2==0)
  ·rw[cp,MM];simp
  ·rw[bT];refine⟨by rw[i1];simp,λaX=>?_⟩
   rw[fP] at aX;rw[i2 aX,aw5 L]
theorem aw6 {x p:b9}(h:x.1.length=p.1.length)(c:Nat):(iz (ju x c) (mM x) (mM p) false).2 = !(oF x p c).2/\((oF x p c).2=true->(iz (ju x c) (mM x) (mM p) false).1=mM (oF x p c).1):=by
 have H:x.1.getD c c1=ju x c:=rfl;obtain⟨dh,dC⟩:=aji (ju x c) (mM x) (mM p) (by simp[mM,h])
 have a2:(mM x).zip (mM p)=x.1.zip p.1++[(x.2,p.2)]:=by
  unfold mM;rw[List.zip_append h]
  rfl
 rw[a2,Re] at dh dC;unfold oF;rw[H,aao];rcases L:((x.1.zip p.1).all λa:bG×bG=>(jt a.1 (ju x c) a.2).2==0)
 ·rw[L] at dh;simp only[fr,cp] at dh;rw[dh];simp
 ·rw[L] at dh dC;simp only[xW,List.all_nil,Bool.and_true,fP] at dh dC;rw[dh,ajg L];simp only[if_true];refine⟨trivial,λaX=>?_⟩;rw[dC aX,kg]
  rfl
theorem RR (fX:List bG)(r c:Nat):∀(i:Nat) (l:List dE),(iN fX r c i l true).2=true
 |_,[]=>rfl
 |i,x::xs=>by
  unfold iN
  split
  ·exact RR fX r c (i+1) xs
  ·rw[MM];exact RR fX r c (i+1) xs
theorem ajj {N r c:Nat}{p:b9}(aC:p.1.length=N)(H:c<N):∀(i:Nat) (cr:List dE) (bV:List b9),nd cr bV->(∀y∈bV,y.1.length=N) ->
  (iN (mM p) r c i cr false).2 = !(hT p r c i bV).2/\((hT p r c i bV).2=true->nd (iN (mM p) r c i cr false).1 (hT p r c i bV).1)
 |i,[],[],_,_=>by simp[iN,hT,nd]
 |i,x::cr,[],h,_=>by simp[nd] at h
 |i,[],y::bV,h,_=>by simp[nd] at h
 |i,x::cr,y::bV,h,az=>by
  unfold nd at h;rw[eI,eI,bf] at h;obtain⟨hf,aw7⟩:=h;have RL:=az y g0;obtain⟨i1,i2⟩:=ajj (r:=r) aC H (i+1) cr bV aw7 λz a2=>az z (h3 _ a2);have nr:=aan hf RL H;unfold iN;rw[nr,hf]
  by_cases Q:(i==r||g7 (ju y c))=true
  ·rw[ad Q,ai4 Q];refine⟨i1,λaX=>?_⟩;have:=i2 aX;unfold nd at this ⊢;rw[eI,eI,this,hf]
  ·rw[ag Q];obtain⟨dh,dC⟩:=aw6 (x:=y) (p:=p) (by omega) c;rcases L:(oF y p c).2
   ·rw[ai6 Q L];rw[L] at dh;dsimp only;rw[dh,cp,RR];simp
   ·rw[ai5 Q L];rw[L] at dh;dsimp only;rw[dh,bT];refine⟨i1,λaX=>?_⟩;have:=i2 aX;unfold nd at this ⊢;rw[eI,eI,this,dC L]
theorem aw8 {N r c:Nat}{cr:List dE}{bV:List b9}(h:nd cr bV)(az:∀y∈bV,y.1.length=N)(H:c<N):findAt cr r c=gL bV r c:=by
 have a2:(cr.drop r).map (λx => !g7 (cellOf x c))=(bV.drop r).map λx => !g7 (ju x c):=by
  apply pJ;intro i;rw[aW,aW,rU,rU];have hlen:=h.len;rcases hn (r+i) (D bV) with U|U
  ·have M:cr[r+i]?=some cr[r+i]:=bB (by omega);have X:bV[r+i]?=some bV[r+i]:=bB U;rw[M,X,l9,l9,aan (h.at_ M X) (az _ (nM U)) H]
  ·rw[iD (by omega),iD U]
   rfl
 have G:∀(l:List dE),(l.findIdx λx => !g7 (cellOf x c))=(l.map λx => !g7 (cellOf x c)).findIdx id:=λl=>by rw[ajk];rfl
 have J:∀(l:List b9),(l.findIdx λx => !g7 (ju x c))=(l.map λx => !g7 (ju x c)).findIdx id:=λl=>by rw[ajk];rfl
 unfold findAt gL;rw[G,J,a2]
theorem nd.set {cr:List dE}{bV:List b9}(h:nd cr bV){i:Nat}{x:dE}{r:b9}(m7:x.2.2=mM r):nd (cr.set i x) (bV.set i r):=by
 unfold nd at h ⊢;rw[w7,w7,h,m7]
theorem aap (stop:Bool){N:Nat}:∀(k c:Nat) (cr:List dE) (bV:List b9) (r:Nat) (free:List Nat),c+k=N->r+D free=c->nd cr bV->p5 N bV ->
  (lk stop k c cr free false).2.2 = !(nC stop k c bV r free).2.2/\((nC stop k c bV r free).2.2=true->nd (lk stop k c cr free false).1 (nC stop k c bV r free).1/\(lk stop k c cr free false).2.1=(nC stop k c bV r free).2.1)
 |0,c,cr,bV,r,free,_,_,h,_=>⟨rfl,λ_=>⟨h,rfl⟩⟩
 |k+1,c,cr,bV,r,free,H,X,h,cR=>by
  have uA:c<N:=by omega
  have aw9:∀y∈bV,y.1.length=N:=λy ao=>(cR.2 y ao).1;have hlen:=h.len;have MC:=cR.1;have ajl:=aw8 (r:=r) h aw9 uA;have oA:c-D free=r:=by omega
  unfold lk;rw[oA]
  by_cases aD:gL bV r c=D bV
  ·have aC:iA cr r c=(true,cr,false):=by unfold iA;rw[ajl,ad (by rw[hlen];exact aD)]
   rw[ai7 aD,aC];rw[ad rfl]
   cases stop
   ·rw[ag (by simp),ag (by simp)];exact aap false k (c+1) cr bV r (free++[c]) (by omega) (by simp;omega) h cR
   ·rw[ad rfl,ad rfl];exact⟨rfl,λ_=>⟨h,rfl⟩⟩
  ·have aC:iA cr r c=(false,iN (hx (cellOf (rowAt (nA cr r (gL bV r c)) r) c) (rowAt (nA cr r (gL bV r c)) r).2.2).1 r c 0 (BK (nA cr r (gL bV r c)) r c) (hx (cellOf (rowAt (nA cr r (gL bV r c)) r) c) (rowAt (nA cr r (gL bV r c)) r).2.2).2):=by unfold iA;rw[ajl,ag (by rw[hlen];exact aD)]
   rw[aC];rw[ag (by simp)];have hle:=aaj bV r c (by omega);generalize Q:gL bV r c=s at *;have xa:s<N:=by omega
   have pn:r<N:=by omega
   obtain⟨xs,q5⟩:∃x,cr[s]?=some x:=⟨_,bB (by omega)⟩;obtain⟨ys,EI⟩:∃x,bV[s]?=some x:=⟨_,bB (by omega)⟩;obtain⟨sj,m7⟩:∃x,cr[r]?=some x:=⟨_,bB (by omega)⟩;obtain⟨Je,qK⟩:∃x,bV[r]?=some x:=⟨_,bB (by omega)⟩;have rv:nA cr r s=(cr.set r xs).set s sj:=by unfold nA;rw[uw q5,uw m7]
   have axa:nb bV r s=(bV.set r ys).set s Je:=by unfold nb;rw[DE EI,DE qK]
   have axb:nd ((cr.set r xs).set s sj) ((bV.set r ys).set s Je):=(h.set (h.at_ q5 EI)).set (h.at_ m7 qK);have axc:((cr.set r xs).set s sj)[r]?=some xs:=MN q5 m7;have axd:((bV.set r ys).set s Je)[r]?=some ys:=MN EI qK;have hf:=h.at_ q5 EI;have aaq:=cR.2 _ (dS EI);have axe:p5 N ((bV.set r ys).set s Je):=(cR.set aaq).set (cR.2 _ (dS qK));rw[ai8 (by rw[Q];exact aD) (by rw[Q];exact axa) (DE axd)];unfold BK;rw[rv,uw axc,hf,aan hf aaq.1 uA];obtain⟨d1,d2⟩:=aw4 ys c;rcases ab:(iQ ys c).2
   ·rw[ab] at d1;rw[d1,cp,ag (by simp)];have ai:=λl=>RR (hx (ju ys c) (mM ys)).1 r c 0 l;rw[ai,Rz];exact⟨rfl,λaX=>absurd aX (by simp)⟩
   ·rw[ab] at d1;rw[d1,bT,ad rfl,d2 ab];have hq:=aag aaq c;have axf:nd (((cr.set r xs).set s sj).set r (xs.1,xs.2.1,mM (iQ ys c).1)) (((bV.set r ys).set s Je).set r (iQ ys c).1):=axb.set rfl;have qJ:=axe.set (i:=r) hq;obtain⟨eS,eO⟩:=ajj (r:=r) hq.1 uA 0 _ _ axf λy ao=>(qJ.2 y ao).1;have nD:=Nf (p:=(iQ ys c).1) (r:=r) (c:=c) hq.1 0 _ qJ.2;rcases mm:(hT (iQ ys c).1 r c 0 (((bV.set r ys).set s Je).set r (iQ ys c).1)).2
    ·rw[mm] at eS;rw[eS,cp,Rz,ag (by simp)];exact⟨rfl,λaX=>absurd aX (by simp)⟩
    ·rw[mm] at eS;rw[eS,bT,ad rfl];exact aap stop k (c+1) _ _ (r+1) free (by omega) (by omega) (eO mm) ⟨nD.1.trans qJ.1,nD.2⟩
theorem axg (rs:List b9):nd (hJ rs) rs:=by
 unfold nd hJ;rw[pQ];apply pJ;intro i;rw[aW,aW,Rw]
 cases rs[i]?<;>rfl
theorem axh (stop:Bool){rs:List b9}(cR:p5 (D rs) rs):(pq stop rs).2.2 = !(uC stop rs).2.2/\((uC stop rs).2.2=true->nd (pq stop rs).1 (uC stop rs).1/\(pq stop rs).2.1=(uC stop rs).2.1) :=
 aap stop (D rs) 0 (hJ rs) rs 0 [] (by omega) rfl (axg rs) cR
theorem axi {rs:List b9}(bS:lf rs)(n:Int):p3 rs n=BT rs n:=by
 unfold p3 BT;rcases X:iM rs n
 ·rfl
 obtain⟨rfl,fM,cR⟩:=ajf bS X;obtain⟨G,J⟩:=axh true cR;have nD:=RQ true (D rs) 0 rs 0 [] (by omega) (by omega) cR
 change p5 (D rs) (uC true rs).1 at nD
 rcases dy:(uC true rs).2.2
 ·rw[G,dy];rfl
 ·obtain⟨af,aP⟩:=J dy;rw[G,dy,aP];simp only[if_true,bT,kE,if_false]
  split
  ·rfl
  ·rw[fJ];refine⟨?_,rfl⟩;apply pJ;intro i;rw[aW,aW];have hlen:=af.len;rcases hn i (uC true rs).1.length with U|U
   ·have M:(pq true rs).1[i]?=some _:=bB (by omega);have ao:(uC true rs).1[i]?=some _:=bB U;rw[M,ao,l9,l9];have he:=af.at_ M ao;have az:=(nD.2 _ (dS ao)).1;unfold vI;rw[he];unfold mM;rw[ez,nK (by omega),az,j6]
    rfl
   ·rw[iD (by omega),iD U];rfl
def cN:Nat->(Nat->Rat)->Rat
 |0,_=>0
 |n+1,f=>cN n f+f n
theorem oG {n:Nat}{f g:Nat->Rat}(h:∀k,k<n->f k=g k):cN n f=cN n g:=by
 induction n with
 |zero=>rfl
 |succ n aH=>rw[cN,cN,aH λk L=>h k (by omega),h n (by omega)]
theorem Ga (n:Nat)(f g:Nat->Rat):cN n (λk=>f k+g k)=cN n f+cN n g:=by
 induction n with
 |zero=>simp[cN,pr]
 |succ n aH=>rw[cN,cN,cN,aH];grind
theorem Jf (n:Nat)(c:Rat)(f:Nat->Rat):cN n (λk=>c*f k)=c*cN n f:=by
 induction n with
 |zero=>simp[cN,Rat.mul_zero]
 |succ n aH=>rw[cN,cN,aH];grind
theorem BU {n:Nat}{f:Nat->Rat}(h:∀k,k<n->f k=0):cN n f=0:=by
 induction n with
 |zero=>rfl
 |succ n aH=>rw[cN,aH λk L=>h k (by omega),h n (by omega)];exact pr 0
theorem BV {n:Nat}{f:Nat->Rat}{j:Nat}(ax:j<n)(h:∀k,k<n->k≠j->f k=0):cN n f=f j:=by
 induction n with
 |zero=>omega
 |succ n aH =>
  rw[cN]
  by_cases aM:j=n
  ·subst aM;rw[BU λk L=>h k (by omega) (by omega)];grind
  ·rw[aH (by omega) λk L=>h k (by omega),h n (by omega) (by omega)];grind
abbrev ff:=Nat->Nat->Rat
def nE (N:Nat)(a y:Nat->Rat):Rat:=cN (N+1) λk=>a k*y k
def iS (N:Nat)(A:ff)(y:Nat->Rat):Prop:=∀i,i<N->nE N (A i) y=0
def h5 (A:ff)(r s:Nat):ff:=λi=>if i=s then A r else if i=r then A s else A i
def p8 (A:ff)(r c s:Nat):ff:=λi k=>if i=r then h5 A r s r k/h5 A r s r c else h5 A r s i k-h5 A r s i c*(h5 A r s r k/h5 A r s r c)
theorem RS (A:ff)(r s:Nat):h5 A r s r=A s:=by
 unfold h5
 by_cases h:r=s
 ·simp[h]
 ·simp[h]
theorem axj {N r s:Nat}{A:ff}{y:Nat->Rat}(X:r<N)(Q:s<N):iS N (h5 A r s) y↔iS N A y:=by
 unfold iS h5
 constructor
 ·intro h i U
  by_cases G:i=r
  ·have:=h s Q;simp at this;rw[G];exact this
  ·by_cases J:i=s
   ·have:=h r X;rw[J]
    by_cases af:r=s
    ·omega
    ·simp[af] at this;exact this
   ·have:=h i U;simp[G,J] at this;exact this
 ·intro h i U
  by_cases J:i=s
  ·simp[J];exact h r X
  ·by_cases G:i=r
   ·have:=h s Q;rw[ag J,ad G];exact this
   ·simp[G,J];exact h i U
theorem axk (N:Nat)(a b y:Nat->Rat)(x:Rat):nE N (λk=>a k-x*b k) y=nE N a y-x*nE N b y:=by
 unfold nE;have:(λk=>(a k-x*b k)*y k)=λk=>a k*y k+(-x)*(b k*y k):=by funext k;grind
 rw[this,Ga,Jf];grind
theorem ajm (N:Nat)(a y:Nat->Rat)(x:Rat):nE N (λk=>a k/x) y=nE N a y/x:=by
 unfold nE;have:(λk=>(a k/x)*y k)=λk=>(1/x)*(a k*y k):=by funext k;grind
 rw[this,Jf];grind
theorem aar {N r s c:Nat}{A:ff}{y:Nat->Rat}(X:r<N)(Q:s<N)(b5:A s c≠0):iS N (p8 A r c s) y↔iS N A y:=by
 rw[<-axj (A:=A) X Q];have aKm:h5 A r s r c≠0:=by rw[RS];exact b5
 generalize dn:h5 A r s=S at *
 have d1:∀i,i≠r->nE N (p8 A r c s i) y=nE N (S i) y-S i c*(nE N (S r) y/S r c):=by
  intro i U;have:p8 A r c s i=λk=>S i k-S i c*(S r k/S r c):=by funext k;unfold p8;rw[dn,ag U]
  rw[this,axk N (S i) (λk=>S r k/S r c) y (S i c),ajm]
 have d2:nE N (p8 A r c s r) y=nE N (S r) y/S r c:=by
  have:p8 A r c s r=λk=>S r k/S r c:=by funext k;unfold p8;rw[dn,ad rfl]
  rw[this,ajm]
 unfold iS
 constructor
 ·intro h
  have aj:nE N (S r) y=0:=by
   have:=h r X;rw[d2] at this;generalize nE N (S r) y=d at *;grind
  intro i U
  by_cases po:i=r
  ·rw[po];exact aj
  ·have:=h i U;rw[d1 i po,aj] at this;generalize nE N (S i) y=d at *;grind
 ·intro h i U;have aj:=h r X
  by_cases po:i=r
  ·rw[po,d2,aj];grind
  ·rw[d1 i po,aj,h i U];grind
structure sr (N:Nat) (aU:ff) (p c:Nat) (ew:Nat->Nat):Prop where
 mY:p<=c
 lt:∀j,j<p->ew j<c
 unit:∀j,j<p->∀i,i<N->aU i (ew j)=if i=j then 1 else 0
 zero:∀i,p<=i->i<N->∀k,k<c->aU i k=0
theorem sr.free {N p c:Nat}{aU:ff}{ew:Nat->Nat}(h:sr N aU p c ew)(a2:∀i,p<=i->i<N->aU i c=0):sr N aU p (c+1) ew :=
 ⟨by have:=h.mY;omega,λj ax=>by have:=h.lt j ax;omega,h.unit,λi U fM k L=>by
  by_cases Dk:k=c
  ·rw[Dk];exact a2 i U fM
  ·exact h.zero i U fM k (by omega)⟩
theorem sr.FX {N p c s:Nat}{aU:ff}{ew:Nat->Nat}(h:sr N aU p c ew)(aC:p<N)(Q:p<=s)(xa:s<N)(b5:aU s c≠0):sr N (p8 aU p c s) (p+1) (c+1) (λj=>if j=p then c else ew j):=by
 have dn:∀i,i<N->∃bn,bn<N/\h5 aU p s i=aU bn/\(i<p->bn=i)/\(p<=i->p<=bn):=by
  intro i U;unfold h5
  by_cases G:i=s
  ·exact⟨p,aC,by rw[ad G],by omega,by omega⟩
  ·by_cases J:i=p
   ·exact⟨s,xa,by rw[ag G,ad J],by omega,by omega⟩
   ·exact⟨i,U,by rw[ag G,ag J],by omega,by omega⟩
 have aKn:h5 aU p s p c≠0:=by rw[RS];exact b5
 have a2:∀i,p<=i->i<N->∀k,k<c->h5 aU p s i k=0:=by
  intro i U fM k L;obtain⟨bn,G,J,-,aP⟩:=dn i fM;rw[J];exact h.zero bn (aP U) G k L
 refine⟨by have:=h.mY;omega,λj ax=>?_,λj ax i U=>?_,λi U fM k L=>?_⟩
 ·show (if j=p then c else ew j)<c+1
  split
  ·omega
  ·have:=h.lt j (by omega);omega
 ·unfold p8
  by_cases Jg:j=p
  ·simp only[Jg,if_true]
   by_cases qO:i=p
   ·rw[ad qO,ad qO];grind
   ·rw[ag qO,ag qO];grind
  ·simp only[Jg,if_false];have wq:j<p:=by omega
   have ay:h5 aU p s p (ew j)=0:=a2 p (cI _) aC _ (h.lt j wq);rw[ay]
   by_cases qO:i=p
   ·rw[ad qO,ag (by omega)];grind
   ·rw[ag qO];obtain⟨bn,G,J,af,aP⟩:=dn i U;rw[J,h.unit j wq bn G];rcases hn i p with av|b4
    ·rw[af av];grind
    ·rw[ag (by have:=aP b4;omega),ag (by omega)];grind
 ·unfold p8;rw[ag (by omega)]
  by_cases Dk:k=c
  ·subst Dk;grind
  ·rw[a2 i (by omega) fM k (by omega),a2 p (cI _) aC k (by omega)];grind
theorem RT (N:Nat)(aU:ff)(ew:Nat->Nat):sr N aU 0 0 ew:=⟨cI _,λj ax=>by omega,λj ax=>by omega,λi U fM k L=>by omega⟩
end Go.Mini
namespace Go.Mini
open Classical
structure dZ where
 aE:Nat
 to:Int
 bM:Nat
 am:Rat
theorem Gb {a b:Rat}(h:a=b):a<=b:=by rw[h];exact g8
def ck:List dZ->(dZ->Rat)->Rat
 | [],_=>0
 |c::l,aR=>aR c+ck l aR
theorem uD {l:List dZ}{aR bD:dZ->Rat}(h:∀c∈l,aR c=bD c):ck l aR=ck l bD:=by
 induction l with
 |nil=>rfl
 |cons c l aH=>rw[ck,ck,h c g0,aH λx M=>h x (h3 _ M)]
theorem RU (l:List dZ)(aR bD:dZ->Rat):ck l (λc=>aR c+bD c)=ck l aR+ck l bD:=by
 induction l with
 |nil=>simp only[ck];grind
 |cons c l aH=>rw[ck,ck,ck,aH];grind
theorem Ni (l:List dZ)(aR bD:dZ->Rat):ck l (λc=>aR c-bD c)=ck l aR-ck l bD:=by
 induction l with
 |nil=>simp only[ck];grind
 |cons c l aH=>rw[ck,ck,ck,aH];grind
theorem RV (l:List dZ)(a:Rat)(aR:dZ->Rat):ck l (λc=>a*aR c)=a*ck l aR:=by
 induction l with
 |nil=>simp only[ck];grind
 |cons c l aH=>rw[ck,ck,aH];grind
theorem Jh {l:List dZ}{aR:dZ->Rat}(h:∀c∈l,aR c=0):ck l aR=0:=by
 induction l with
 |nil=>rfl
 |cons c l aH=>rw[ck,h c g0,aH λx M=>h x (h3 _ M)];grind
theorem Gc {l:List dZ}{aR bD:dZ->Rat}(h:∀c∈l,aR c<=bD c):ck l aR<=ck l bD:=by
 induction l with
 |nil=>exact g8
 |cons c l aH =>
  have G:=h c g0;have J:=aH λx M=>h x (h3 _ M);rw[ck,ck];grind
theorem z5 {l:List dZ}{aR:dZ->Rat}(h:∀c∈l,0<=aR c):0<=ck l aR:=by
 have:=Gc (l:=l) (aR:=λ_=>0) (bD:=aR) h;rwa [Jh λ_ _=>rfl] at this
theorem aas {l:List dZ}{aR:dZ->Rat}(h:∀c∈l,0<=aR c)(Q:ck l aR<=0):∀c∈l,aR c=0:=by
 induction l with
 |nil=>intro c H;cases H
 |cons c l aH =>
  rw[ck] at Q;have G:=h c g0;have J:=z5 λx M=>h x (h3 c M);intro x M;rcases m1.1 M with rfl|M
  ·grind
  ·exact aH (λy ao=>h y (h3 _ ao)) (by grind) x M
theorem axl {l:List dZ}{aR bD:dZ->Rat}(h:∀c∈l,aR c<=bD c){mN:dZ}(H:mN∈l)(av:aR mN<bD mN):ck l aR<ck l bD:=by
 by_cases Q:ck l aR<ck l bD
 ·exact Q
 ·have:=aas (l:=l) (aR:=λc=>bD c-aR c) (λc H=>by have:=h c H;grind) (by rw[Ni];grind) mN H;grind
theorem aat {l:List dZ}{aR:dZ->Rat}(h:0<ck l aR):∃c∈l,0<aR c:=by
 apply nY;intro aM
 have:=Gc (l:=l) (aR:=aR) (bD:=λ_=>0) λc H=>by
  apply nY;intro J;exact aM ⟨c,H,by grind⟩
 rw[Jh (aR:=λ_=>(0:Rat)) λ_ _=>rfl] at this;grind
theorem Nj {n:Nat}{f g:Nat->Rat}(h:∀k,k<n->f k<=g k):cN n f<=cN n g:=by
 induction n with
 |zero=>exact g8
 |succ n aH =>
  have G:=h n (by omega);have J:=aH λk L=>h k (by omega);rw[cN,cN];grind
theorem ajn {n:Nat}{f:Nat->Rat}(h:∀k,k<n->0<=f k):0<=cN n f:=by
 have:=Nj (n:=n) (f:=λ_=>0) (g:=f) h;rwa [BU λ_ _=>rfl] at this
theorem Nk (n:Nat)(f g:Nat->Rat):cN n (λk=>f k-g k)=cN n f-cN n g:=by
 induction n with
 |zero=>simp only[cN];grind
 |succ n aH=>rw[cN,cN,cN,aH];grind
theorem axm {n:Nat}{f:Nat->Rat}(h:∀k,k<n->0<=f k)(Q:cN n f<=0):∀k,k<n->f k=0:=by
 induction n with
 |zero=>intro k L;omega
 |succ n aH =>
  rw[cN] at Q;have G:=h n (by omega);have J:=ajn (n:=n) (f:=f) λk L=>h k (by omega);intro k L
  by_cases mq:k=n
  ·subst mq;grind
  ·exact aH (λk L=>h k (by omega)) (by grind) k (by omega)
def ss (C:Nat->Prop)(c:dZ):Prop:=∃i:Nat,c.to=i/\C i
theorem aau {n:Nat}(C:Nat->Prop)(ll:∀i,C i->i<n)(l:List dZ)(a:dZ->Rat):cN n (λi=>if C i then ck l (λc=>if c.to=(i:Int) then a c else 0) else 0)=ck l (λc=>if ss C c then a c else 0):=by
 induction l with
 |nil=>exact BU λk _=>by split<;>rfl
 |cons c l aH =>
  rw[ck,<-aH]
  have e:(λi:Nat=>if C i then ck (c::l) (λc=>if c.to=(i:Int) then a c else 0) else 0)=λi=>(if C i then (if c.to=(i:Int) then a c else 0) else 0)+(if C i then ck l (λc=>if c.to=(i:Int) then a c else 0) else 0):=by
   funext i
   split
   ·rw[ck]
   ·grind
  rw[e,Ga]
  congr 1
  by_cases h:ss C c
  ·obtain⟨i,U,aav⟩:=h
   rw[BV (ll i aav) λk L tR=>by
    split
    ·rw[ag (by omega)]
    ·rfl]
   rw[ad aav,ad U,ad ⟨i,U,aav⟩]
  ·rw[ag h];refine BU λk L=>?_
   split
   ·rw[ag λjJ=>h ⟨k,jJ,by assumption⟩]
   ·rfl
theorem aaw {n:Nat}{l:List dZ}(az:∀c∈l,c.aE<n)(b:Nat->dZ->Rat):cN n (λk=>ck l (λc=>if c.aE=k then b k c else 0))=ck l (λc=>b c.aE c):=by
 induction l with
 |nil=>exact BU λk _=>rfl
 |cons c l aH =>
  rw[ck,<-aH λx M=>az x (h3 _ M)];have e:(λk:Nat=>ck (c::l) (λc=>if c.aE=k then b k c else 0))=λk=>(if c.aE=k then b k c else 0)+ck l (λc=>if c.aE=k then b k c else 0):=rfl;rw[e,Ga]
  congr 1
  rw[BV (az c g0) λk _ L=>ag (Ne.symm L),ad rfl]
structure Day where
 n:Nat
 E:Nat->Rat
 dt:List dZ
structure Day.dF (d:Day):Prop where
 aE:∀c∈d.dt,c.aE<d.n
 to:∀c∈d.dt,c.to<d.n
 bM:∀c∈d.dt,c.bM<10
 am:∀c∈d.dt,0<=c.am
 E:∀i,i<d.n->0<=d.E i
def Day.bZ (d:Day)(k r:Nat):Rat:=ck d.dt λc=>if c.aE=k/\c.bM<r then c.am else 0
def Day.S (d:Day)(k r:Nat):Rat:=ck d.dt λc=>if c.aE=k/\c.bM=r then c.am else 0
theorem Day.RW (d:Day)(k:Nat):d.bZ k 0=0:=Jh λc _=>ag (by omega)
theorem Day.z6 (d:Day)(k r:Nat):d.bZ k (r+1)=d.bZ k r+d.S k r:=by
 unfold Day.bZ Day.S;rw[<-RU];refine uD λc _=>?_
 by_cases G:c.aE=k/\c.bM<r
 ·rw[ad ⟨G.1,by omega⟩,ad G,ag (by omega)];grind
 ·rw[ag G]
  by_cases J:c.aE=k/\c.bM=r
  ·rw[ad ⟨J.1,by omega⟩,ad J];grind
  ·rw[ag (by omega),ag J];grind
theorem Day.dF.RX {d:Day}(ab:d.dF)(k r:Nat):0<=d.S k r:=z5 λc H=>by
 split
 ·exact ab.am c H
 ·exact g8
theorem Day.dF.yE {d:Day}(ab:d.dF)(k:Nat){r s:Nat}(h:r<=s):d.bZ k r<=d.bZ k s:=by
 induction s with
 |zero =>
      obtain rfl:r=0:=by omega
      exact g8
 |succ s aH =>
  by_cases X:r=s+1
  ·rw[X];exact g8
  ·have G:=aH (by omega);have J:=ab.RX k s;rw[d.z6];grind
theorem Day.dF.axn {d:Day}(ab:d.dF)(k r:Nat):0<=d.bZ k r:=by
 have:=ab.yE k (fA r);rwa [d.RW] at this
theorem Day.dF.aax {d:Day}(ab:d.dF){c:dZ}(H:c∈d.dt):c.am<=d.S c.aE c.bM:=by
 have:∀l:List dZ,(∀x∈l,0<=x.am)->c∈l->c.am<=ck l λx=>if x.aE=c.aE/\x.bM=c.bM then x.am else 0:=by
  intro l
  induction l with
  |nil=>intro _ h;cases h
  |cons x l aH =>
   intro G J;rw[ck]
   have af:0<=ck l λx=>if x.aE=c.aE/\x.bM=c.bM then x.am else 0:=z5 λy ao=>by
    split
    ·exact G y (h3 _ ao)
    ·exact g8
   rcases m1.1 J with rfl|J
   ·rw[ad ⟨rfl,rfl⟩];grind
   ·have aP:=aH (λy ao=>G y (h3 _ ao)) J;have bh:=G x g0
    split<;>grind
 exact this d.dt ab.am H
def Day.w (d:Day)(c:dZ):Rat:=c.am/d.S c.aE c.bM
theorem Day.dF.su {d:Day}(ab:d.dF){c:dZ}(H:c∈d.dt):0<=d.w c:=by
 unfold Day.w;have G:=ab.am c H;have J:=ab.RX c.aE c.bM;rw[aay]
 exact Rat.mul_nonneg G (by
  rcases Rat.le_iff_lt_or_eq.1 J with h|h
  ·exact Rat.le_of_lt (ajo.2 h)
  ·rw[<-h];exact Gb Rat.inv_zero.symm)
theorem Day.dF.aaz {d:Day}(ab:d.dF){c:dZ}(H:c∈d.dt)(h:0<c.am):0<d.w c:=by
 unfold Day.w;have J:=ab.aax H;rw[aay];exact Rat.mul_pos h (ajo.2 (by grind))
theorem Day.FN {d:Day}{c:dZ}(h:c.am=0):d.w c=0:=by
 unfold Day.w;rw[h,aay,Rat.zero_mul]
theorem Day.Ji {d:Day}{c:dZ}(h:0<d.S c.aE c.bM):d.w c*d.S c.aE c.bM=c.am:=by
 unfold Day.w;grind
theorem Day.dF.Nl {d:Day}(ab:d.dF)(C:Nat->Prop)(f:Nat->Nat)(dn:∀k,C k->0<d.S k (f k))(x:Nat->Rat):ck d.dt (λc=>if C c.aE/\c.bM=f c.aE then d.w c*x c.aE else 0)=cN d.n (λk=>if C k then x k else 0):=by
 rw[<-aaw ab.aE λk c=>if C k/\c.bM=f k then d.w c*x k else 0];refine oG λk L=>?_
 by_cases ll:C k
 ·rw[ad ll];have iX:=dn k ll
  have e:ck d.dt (λc=>if c.aE=k then (if C k/\c.bM=f k then d.w c*x k else 0) else 0)=ck d.dt λc=>(x k/d.S k (f k))*(if c.aE=k/\c.bM=f k then c.am else 0):=by
   refine uD λc _=>?_
   by_cases G:c.aE=k
   ·by_cases J:c.bM=f k
    ·rw[ad G,ad ⟨ll,J⟩,ad ⟨G,J⟩];unfold Day.w;rw[G,J];grind
    ·rw[ad G,ag (λh=>J h.2),ag (λh=>J h.2)];grind
   ·rw[ag G,ag (λh=>G h.1)];grind
  rw[e,RV];show x k/d.S k (f k)*d.S k (f k)=x k;grind
 ·rw[ag ll]
  exact Jh λc _=>by
   split
   ·rw[ag λh=>ll h.1]
   ·rfl
end Go.Mini
