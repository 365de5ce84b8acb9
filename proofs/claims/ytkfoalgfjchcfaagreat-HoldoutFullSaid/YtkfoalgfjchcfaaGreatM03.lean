/- A part of the proof. -/
import Derived.Test.YtkfoalgfjchcfaaGreatM02
set_option linter.unusedSimpArgs false
set_option linter.unusedVariables false
set_option maxRecDepth 100000
set_option maxHeartbeats 4000000
noncomputable section
open Bool renaming and_eq_true->e3,and_false->hy,eq_iff_iff->kB,false_and->fC,false_eq_true->kh,not_eq_false'->acK,not_eq_true'->pZ,not_false->cv,not_true->ca,true_and->hP
open Classical renaming choose_spec->oX
open Decidable renaming em->dQ
open Int renaming add_comm->wM,add_zero->tV,cast_ofNat_Int->lg,fdiv_eq_ediv_of_nonneg->ab2,le_of_lt->MO,lt_or_gt_of_ne->ab3,lt_trichotomy->wO,mul_add->h2,mul_assoc->h3,mul_comm->mN,mul_fdiv_add_fmod->MZ,mul_ne_zero->Av,mul_nonneg->qG,mul_one->tO,mul_zero->sH,natAbs_natCast->ml,natAbs_neg->I4,natCast_pos->Aq,natCast_zero->kR,one_mul->nt,pow_pos->ER,pow_succ->mM,reducePow->ab1,sign_eq_neg_one_of_neg->pQ,sign_eq_one_of_pos->jd,sign_mul->pR,sign_neg->Ce,sign_sign->yL,sign_zero->w9,sub_zero->II,tdiv_eq_ediv_of_nonneg->yD,tdiv_nonneg->acO,tmod_eq_emod_of_nonneg->Aa,tmod_nonneg->acN,toNat_natCast->gX,zero_mul->wX,zero_sub->ach
open List renaming all_cons->Ee,append_assoc->gN,append_nil->h1,drop_eq_getElem_cons->hW,drop_set_of_lt->sj,drop_zero->nk,ext_getElem?->ri,findIdx?_eq_none_iff->ack,findIdx?_eq_some_iff_getElem->acj,flatten_nil->acu,getD_eq_getElem?_getD->dY,getElem?_eq_getElem->bs,getElem?_eq_none->lL,getElem?_eq_some_iff->dK,getElem?_inj->acS,getElem?_map->a5,getElem?_set->mo,getElem_drop->Ft,getElem_mem->mD,length->D,length_append->hr,length_cons->kf,length_drop->pL,length_map->aj,length_nil->mJ,length_pos_iff->Ap,length_set->ja,length_singleton->yX,length_take->hh,map_cons->e5,map_nil->cl,map_set->xi,map_take->acv,mem_iff_getElem?->tF,mem_of_getElem?->eL,mem_or_eq_of_mem_set->Fp,mem_replicate->EG,mem_singleton->yG,replicate->eu,take_add_one->ks,take_length->oA,take_of_length_le->dD
open List.cons renaming injEq->bh
open Nat renaming div_div_eq_div_mul->acz,eq_zero_or_pos->jm,gcd->iO,gcd_comm->I3,le_of_lt->S6,le_refl->bP,lt_of_div_lt_div->acA,lt_of_le_of_lt->sD,lt_of_lt_of_le->Bl,lt_or_ge->hV,max_eq_right->Ud,min_eq_left->nQ,mod_lt->nV,mul_comm->sr,mul_le_mul_right->rh,mul_lt_mul_of_pos_left->acG,mul_one->cM,pos_of_ne_zero->Eo,pow_succ->u3,reduceEqDiff->dA,reduceMul->ab0,zero_div->acy,zero_le->fr
open Option renaming bind_none->pY,map_eq_some_iff->ei
open Option.some renaming inj->ni,injEq->cb
open Prod renaming ext->eS,fst->E6
open Prod.mk renaming injEq->fu
open Rat renaming divInt->lp,divInt_mul_divInt->ab5,neg_divInt_neg->Tn,num_divInt_den->Cm,sub_eq_add_neg->ab8
namespace Go.Mini
open Go
def dv (n:Int):Prop:=-9223372036854775808<=n/\n<=9223372036854775807
theorem an0 {n:Nat}(h:n<=9223372036854775808):n<dI:=by
 unfold dI;refine Bl (m:=1048576^4) ?_ (Nat.pow_le_pow_right (by omega) (by omega));omega
theorem wZ {n:Int}(h:dv n):n.natAbs<dI:=an0 (by unfold dv at h;omega)
theorem S3 (n:Int)(E:-18446744073709551616<=n)(H:n<0):IntKind.u64.wrap n=n+18446744073709551616:=by
 unfold IntKind.wrap;simp[IntKind.bits,IntKind.signed];omega
def S4:=cy z5 λ(n:Int)=>cT (dv n) (.same (.agg (cJ (bE n))))
@[go_sem] theorem aCw (n:Int)(G:dv n):S4 [.int .i64 n]=some (.same (.agg (cJ (bE n)))):=(cI Ez n).trans (cY G _)
theorem an1 (T:bk)(fe:T ow=aW z7)(n:Int)(G:dv n):WP T RI (.same (.agg (cJ (bE n)))) [.I (.int .i64 n)]:=by
 refine cC ?_;simp only[RI];have nR:=G;unfold dv at nR;obtain⟨pF,wh⟩:=nR;have Q:∀s:Int,(n≠0->s=n.sign)->jL s (aF n.natAbs)=bE n:=λs h=>o5 rfl λbN=>h (by omega);have hlen:(aF n.natAbs).length<=60:=gF.2 (wZ G);rcases dQ (n<0) with j3|hO
 ·have hw:=S3 n (by omega) j3
  have e8:IntKind.u64.wrap (0-(n+18446744073709551616))=(n.natAbs:Int):=by
   rw[S3 _ (by omega) (by omega)];omega
  simp only[go_sem,go_sem_proc,fe,j3,hw,e8,decide_true];refine dE [2,3] [150002] (λ((u,g,l):Nat×Nat×List Int) tm mem=>u<=9223372036854775808/\aF n.natAbs=l++aF u/\tm 4=.I (.int .u64 u)/\tm 5=.ref 150021 g 1 0 (D l)/\mem 150021=some (g,aY ad l)) (λ(u,_)=>u) (n.natAbs,0,[]) (by refine⟨by omega,rfl,?_,rfl,rfl⟩;rfl) ?_;intro vs ms aV aR;simp only[go_sem,go_sem_proc,fe] at aV aR;subst aV aR;rintro⟨u,g,l⟩ tm mem J hm ⟨hu,X,aM,bl,yM⟩;simp only[go_sem,go_sem_proc,fe,bh] at J hm;obtain⟨H,ab⟩:=J;rcases jm u with ak|wS
  ·subst ak;rw[rr,h1] at X;rw[X] at Q hlen;have ua:(D l)<=1000000:=by omega
   have iz:=Q (-1) (λ_=>by exact (pQ j3).symm);simp only[go_sem,go_sem_proc,fe,H,ab,aM,bl,hm,yM,iz,ua,cJ,kR,lg,aj,show ¬ ((0:Int)>0) by omega,decide_false,mb hQ,oA]
   repeat' (first|refine av ?_ ?_|fail)<;>intro h<;>simp only[h,go_sem,go_sem_proc,fe,H,ab,aM,bl,hm,yM,iz,ua,cJ,kR,lg,aj,show ¬ ((0:Int)>0) by omega,decide_false,mb hQ,oA]
  ·have yH:(D l)<=60:=by
    have:=congrArg D X;rw[hr] at this;omega
   have iB:decide ((u:Int)>0)=true:=dg;have di:∀a:Int,l5 150021 g 1 (D l) 8 1 [.I (.int .i64 a)] (some (g,aY ad l))=_:=λa=>mK hQ wF 150021 g 8 l a rfl (by omega) (by omega);have hand:=aaM u ⟨by omega,by omega⟩
   have I6:IntKind.i64.wrap ((u:Int)%1048576)=(u:Int)%1048576:=wrap64 _ (by omega) (by omega);simp only[go_sem,go_sem_proc,fe,H,ab,aM,bl,hm,yM,iB,di,hand,I6,nW,show ((20:Int)<0)=False from by simp,if_false,aj,bh]
   repeat' (first|refine av ?_ ?_|fail)<;>intro h<;>simp only[h,go_sem,go_sem_proc,fe,H,ab,aM,bl,hm,yM,iB,di,hand,I6,nW,show ((20:Int)<0)=False from by simp,if_false,aj,bh]
   refine⟨(u/1048576,g+1,l++[(u:Int)%1048576]),by dsimp only;omega,by dsimp only;omega,by dsimp only;rw[gN,X,tG wS];rfl,by first|rfl|(dsimp only;rw[yq _ ⟨by omega,by omega⟩];rfl),by simp,by simp[go_sem]⟩
 ·have hw:IntKind.u64.wrap n=(n.natAbs:Int):=by rw[yq _ ⟨by omega,by omega⟩];omega
  simp only[go_sem,go_sem_proc,fe,hO,hw,decide_false];refine dE [2,3] [150002] (λ((u,g,l):Nat×Nat×List Int) tm mem=>u<=9223372036854775808/\aF n.natAbs=l++aF u/\tm 4=.I (.int .u64 u)/\tm 5=.ref 150021 g 1 0 (D l)/\mem 150021=some (g,aY ad l)) (λ(u,_)=>u) (n.natAbs,0,[]) (by refine⟨by omega,rfl,?_,rfl,rfl⟩;rfl) ?_;intro vs ms aV aR;simp only[go_sem,go_sem_proc,fe] at aV aR;subst aV aR;rintro⟨u,g,l⟩ tm mem J hm ⟨hu,X,aM,bl,yM⟩;simp only[go_sem,go_sem_proc,fe,bh] at J hm;obtain⟨H,ab⟩:=J;rcases jm u with ak|wS
  ·subst ak;rw[rr,h1] at X;rw[X] at Q hlen;have ua:(D l)<=1000000:=by omega
   have iz:=Q 1 (λ_=>by exact (jd (by omega)).symm);simp only[go_sem,go_sem_proc,fe,H,ab,aM,bl,hm,yM,iz,ua,cJ,kR,lg,aj,show ¬ ((0:Int)>0) by omega,decide_false,mb hQ,oA]
   repeat' (first|refine av ?_ ?_|fail)<;>intro h<;>simp only[h,go_sem,go_sem_proc,fe,H,ab,aM,bl,hm,yM,iz,ua,cJ,kR,lg,aj,show ¬ ((0:Int)>0) by omega,decide_false,mb hQ,oA]
  ·have yH:(D l)<=60:=by
    have:=congrArg D X;rw[hr] at this;omega
   have iB:decide ((u:Int)>0)=true:=dg;have di:∀a:Int,l5 150021 g 1 (D l) 8 1 [.I (.int .i64 a)] (some (g,aY ad l))=_:=λa=>mK hQ wF 150021 g 8 l a rfl (by omega) (by omega);have hand:=aaM u ⟨by omega,by omega⟩
   have I6:IntKind.i64.wrap ((u:Int)%1048576)=(u:Int)%1048576:=wrap64 _ (by omega) (by omega);simp only[go_sem,go_sem_proc,fe,H,ab,aM,bl,hm,yM,iB,di,hand,I6,nW,show ((20:Int)<0)=False from by simp,if_false,aj,bh]
   repeat' (first|refine av ?_ ?_|fail)<;>intro h<;>simp only[h,go_sem,go_sem_proc,fe,H,ab,aM,bl,hm,yM,iB,di,hand,I6,nW,show ((20:Int)<0)=False from by simp,if_false,aj,bh]
   refine⟨(u/1048576,g+1,l++[(u:Int)%1048576]),by dsimp only;omega,by dsimp only;omega,by dsimp only;rw[gN,X,tG wS];rfl,by first|rfl|(dsimp only;rw[yq _ ⟨by omega,by omega⟩];rfl),by simp,by simp[go_sem]⟩
theorem an2 (k:IntKind)(a b:Int):bits .or k a b=bits .or k b a:=by
 simp only[bits,BitVec.or_comm]
theorem an3 (u d:Int)(i:Nat)(L:(2:Int)^i<=1152921504606846976)(hu:0<=u/\u<2^i)(X:0<=d)(h:d*2^i<18446744073709551616):bits .or .u64 u (d*2^i)=u+d*2^i:=by
 rw[an2,wM];have ak:0<=d*2^i:=qG X (by exact MO (ER (by omega)));refine bits_join .u64 64 (by decide) (λn E H=>yq n ⟨E,by omega⟩) i _ _ ak (Int.mul_emod_left _ _) (by omega) hu.1 hu.2 (by omega)
instance (n:Int):Decidable (dv n):=by unfold dv;exact inferInstance
def rF (a:Raw):Int×Bool:=if de a=true/\dv (h6 a) then (h6 a,true) else (0,false)
def S5:=cy z6 λ(s,l)=>cT (D l<=1000000) (.same (.cw [.int .i64 (rF (s,l)).1,.bool (rF (s,l)).2]))
@[go_sem] theorem aCx (s:Int)(l:List Int)(G:(D l)<=1000000):S5 [.agg [.int .i64 s,.af (l.map ad)]]=some (.same (.cw [.int .i64 (rF (s,l)).1,.bool (rF (s,l)).2])):=(cI EA (s,l)).trans (cY G _)
theorem an4 (T:bk)(dm:T kt=aW u6)(s:Int)(l:List Int)(G:(D l)<=1000000):WP T RP (.same (.cw [.int .i64 (rF (s,l)).1,.bool (rF (s,l)).2])) [.I (.agg [.int .i64 s,.af (l.map ad)])]:=by
 refine cC ?_;simp only[RP]
 by_cases Y:de (s,l)=true
 ·obtain⟨z,aQ,e⟩:=(ju _).1 Y
  cases e
  have L:rF (z.sign,aF z.natAbs)=if dv z then (z,true) else (0,false):=by
   unfold rF;rw[Y,show h6 (z.sign,aF z.natAbs)=z from fs z];simp
  rw[L];clear L;have Q:=lX z
  by_cases aM:(aF z.natAbs).length<=4
  ·have MP:decide (((aF z.natAbs).length:Int)>4)=false:=c1;have l8:=lf z.natAbs;have j2:=mc z.natAbs;generalize aF z.natAbs=l at *;simp only[go_sem,go_sem_proc,dm,Y,G,MP,aj,ad];refine dE [1,17,18] [159001] (λ((i,u):Nat×Int) tm mem=>i<=D l/\u=a0 (l.take i)/\u<18446744073709551616/\tm 4=.I (.int .u64 u)/\tm 19=.I (.int .i64 i)) (λ(i,_)=>D l-i) (0,0) (by refine⟨by omega,rfl,by omega,rfl,rfl⟩) ?_;intro vs ms aV aR;simp only[go_sem,go_sem_proc,dm] at aV aR;subst aV aR;rintro⟨i,u⟩ tm mem J hm ⟨L,hu,aCy,pS,pT⟩;simp only[go_sem,go_sem_proc,dm,bh] at J hm;obtain⟨E,kU,jt⟩:=J;have abY:er (l.take i):=λd X=>j2 d (List.mem_of_mem_take X);have Cj:0<=u:=by rw[hu];exact ov abY
   rcases dQ (i<D l) with aq|ck
   ·have O:=bs aq;have X:=j2 l[i] (mD aq);have sg:=kS l i aq;have Ck:=yo abY;rw[hh,nQ (S6 aq),<-hu] at Ck;rw[<-hu] at sg;generalize l[i]=d at *;have o6:decide ((i:Int)<(D l:Int))=true:=dg;have sG:IntKind.u64.wrap d=d:=yq d ⟨X.1,by omega⟩
    have wU:IntKind.i64.wrap (20*(i:Int))=((20*i:Nat):Int):=by rw[eA _];omega
    have D5:min (20*i) 64=20*i:=by omega
    have mH:(((20*i:Nat):Int)<0)=False:=eq_false (by omega);have E4:(1048576:Int)^i=2^(20*i):=by rw[Int.pow_mul];rfl
    rw[E4] at Ck sg
    have nP:(2:Int)^(20*i)<=1152921504606846976:=by
     obtain rfl|rfl|rfl|rfl:i=0\/i=1\/i=2\/i=3:=by omega
     all_goals decide
    by_cases S7:i=3/\d>8
    ·obtain⟨rfl,MQ⟩:=S7;have abZ:decide (d>8)=true:=iH MQ;have I7:(((3:Nat):Int)==3)=true:=rfl
     have yN:¬ dv z:=by
      have tS:=Ig l 4;rw[l8] at tS;have:0<=a0 (l.drop 4):=ov λd X=>j2 d (List.mem_of_mem_drop X);have bl:=qG (show (0:Int)<=1048576^(min 4 (D l)) from MO (ER (by omega))) this;unfold dv;simp only[ab0,Nat.reduceAdd,ab1] at sg;rw[sg] at tS;omega
     rw[aa yN];simp only[go_sem,go_sem_proc,dm,E,kU,jt,pS,pT,hm,O,X.1,X.2,o6,sG,abZ,I7,aj,a5,bh,ad];repeat' (first|refine av ?_ ?_|fail)<;>intro h<;>simp only[h,go_sem,go_sem_proc,dm,E,kU,jt,pS,pT,hm,O,X.1,X.2,o6,sG,abZ,I7,aj,a5,bh,ad]
    ·have va:d*2^(20*i)<18446744073709551616:=by
      obtain rfl|rfl|rfl|rfl:i=0\/i=1\/i=2\/i=3:=by omega
      all_goals simp
      all_goals omega
     have vd:=an3 u d (20*i) nP ⟨Cj,Ck⟩ X.1 va;have I8:0<=d*2^(20*i):=qG X.1 (MO (ER (by omega)));have I9:IntKind.u64.wrap (d*2^(20*i))=d*2^(20*i):=yq _ ⟨I8,va⟩
     have yI:u+d*2^(20*i)<18446744073709551616:=by
      clear vd I9 I8 wU mH E4 nP sg;obtain rfl|rfl|rfl|rfl:i=0\/i=1\/i=2\/i=3:=by omega
      all_goals simp only[ab0,ab1] at Ck va ⊢
      all_goals omega
     by_cases ab:((i:Int)==3)=true
     ·have MQ:decide (d>8)=false:=ob λh=>S7 ⟨by simp at ab;omega,h⟩
      simp only[go_sem,go_sem_proc,dm,E,kU,jt,pS,pT,hm,O,X.1,X.2,o6,sG,ab,MQ,wU,mH,if_false,gX,D5,I9,vd,aj,a5,bh,ad];repeat' (first|refine av ?_ ?_|fail)<;>intro h<;>simp only[h,go_sem,go_sem_proc,dm,E,kU,jt,pS,pT,hm,O,X.1,X.2,o6,sG,ab,MQ,wU,mH,if_false,gX,D5,I9,vd,aj,a5,bh,ad]
      exact⟨(i+1,u+d*2^(20*i)),by dsimp only;omega,by dsimp only;omega,by dsimp only;rw[sg,mN],yI,rfl,by rw[eA _];rfl⟩
     ·have ab:((i:Int)==3)=false:=by simpa using ab
      simp only[go_sem,go_sem_proc,dm,E,kU,jt,pS,pT,hm,O,X.1,X.2,o6,sG,ab,wU,mH,if_false,gX,D5,I9,vd,aj,a5,bh,ad];repeat' (first|refine av ?_ ?_|fail)<;>intro h<;>simp only[h,go_sem,go_sem_proc,dm,E,kU,jt,pS,pT,hm,O,X.1,X.2,o6,sG,ab,wU,mH,if_false,gX,D5,I9,vd,aj,a5,bh,ad]
      exact⟨(i+1,u+d*2^(20*i)),by dsimp only;omega,by dsimp only;omega,by dsimp only;rw[sg,mN],yI,rfl,by rw[eA _];rfl⟩
   ·have o6:decide ((i:Int)<(D l:Int))=false:=c1;have jN:i=D l:=by omega
    rw[jN,oA,l8] at hu;rcases Q with ⟨Q,tz⟩|⟨Q,tz⟩|⟨Q,tz⟩
    ·by_cases hr64:u<9223372036854775808
     ·rw[Z (by unfold dv;omega)];have hw:IntKind.i64.wrap u=z:=by rw[wrap64 u (by omega) (by omega)];omega
      simp only[go_sem,go_sem_proc,dm,E,kU,jt,pS,pT,hm,o6,Q,hr64,show decide ((1:Int)<0)=false from rfl,show decide ((1:Int)>=0)=true from rfl,show decide ((-1:Int)<0)=true from rfl,show decide ((-1:Int)>=0)=false from rfl,hw,decide_true,decide_false,aj];repeat' (first|refine av ?_ ?_|fail)<;>intro h<;>simp only[h,go_sem,go_sem_proc,dm,E,kU,jt,pS,pT,hm,o6,Q,hr64,show decide ((1:Int)<0)=false from rfl,show decide ((1:Int)>=0)=true from rfl,show decide ((-1:Int)<0)=true from rfl,show decide ((-1:Int)>=0)=false from rfl,hw,decide_true,decide_false,aj]
     ·rw[aa (by unfold dv;omega)];simp only[go_sem,go_sem_proc,dm,E,kU,jt,pS,pT,hm,o6,Q,hr64,show decide ((1:Int)<0)=false from rfl,show decide ((1:Int)>=0)=true from rfl,show decide ((-1:Int)<0)=true from rfl,show decide ((-1:Int)>=0)=false from rfl,decide_true,decide_false,aj];repeat' (first|refine av ?_ ?_|fail)<;>intro h<;>simp only[h,go_sem,go_sem_proc,dm,E,kU,jt,pS,pT,hm,o6,Q,hr64,show decide ((1:Int)<0)=false from rfl,show decide ((1:Int)>=0)=true from rfl,show decide ((-1:Int)<0)=true from rfl,show decide ((-1:Int)>=0)=false from rfl,decide_true,decide_false,aj]
    ·rw[Z (by unfold dv;omega)];have an5:u=0:=by omega
     subst tz;subst an5;simp only[go_sem,go_sem_proc,dm,E,kU,jt,pS,pT,hm,o6,Q,show decide ((0:Int)<0)=false from rfl,show decide ((0:Int)>=0)=true from rfl,show decide ((0:Int)<9223372036854775808)=true from rfl,show IntKind.i64.wrap 0=0 from rfl,show (0:Int).sign=0 from rfl,decide_true,decide_false,aj];repeat' (first|refine av ?_ ?_|fail)<;>intro h<;>simp only[h,go_sem,go_sem_proc,dm,E,kU,jt,pS,pT,hm,o6,Q,show decide ((0:Int)<0)=false from rfl,show decide ((0:Int)>=0)=true from rfl,show decide ((0:Int)<9223372036854775808)=true from rfl,show IntKind.i64.wrap 0=0 from rfl,show (0:Int).sign=0 from rfl,decide_true,decide_false,aj]
    ·by_cases hr64:u<=9223372036854775808
     ·rw[Z (by unfold dv;omega)];have hw:=S3 (0-u) (by omega) (by omega)
      have e8:IntKind.i64.wrap (0-u+18446744073709551616)=z:=by
       simp[IntKind.wrap,IntKind.bits,IntKind.signed];omega
      simp only[go_sem,go_sem_proc,dm,E,kU,jt,pS,pT,hm,o6,Q,hr64,show decide ((1:Int)<0)=false from rfl,show decide ((1:Int)>=0)=true from rfl,show decide ((-1:Int)<0)=true from rfl,show decide ((-1:Int)>=0)=false from rfl,hw,e8,decide_true,decide_false,aj];repeat' (first|refine av ?_ ?_|fail)<;>intro h<;>simp only[h,go_sem,go_sem_proc,dm,E,kU,jt,pS,pT,hm,o6,Q,hr64,show decide ((1:Int)<0)=false from rfl,show decide ((1:Int)>=0)=true from rfl,show decide ((-1:Int)<0)=true from rfl,show decide ((-1:Int)>=0)=false from rfl,hw,e8,decide_true,decide_false,aj]
     ·rw[aa (by unfold dv;omega)];simp only[go_sem,go_sem_proc,dm,E,kU,jt,pS,pT,hm,o6,Q,hr64,show decide ((1:Int)<0)=false from rfl,show decide ((1:Int)>=0)=true from rfl,show decide ((-1:Int)<0)=true from rfl,show decide ((-1:Int)>=0)=false from rfl,decide_true,decide_false,aj];repeat' (first|refine av ?_ ?_|fail)<;>intro h<;>simp only[h,go_sem,go_sem_proc,dm,E,kU,jt,pS,pT,hm,o6,Q,hr64,show decide ((1:Int)<0)=false from rfl,show decide ((1:Int)>=0)=true from rfl,show decide ((-1:Int)<0)=true from rfl,show decide ((-1:Int)>=0)=false from rfl,decide_true,decide_false,aj]
  ·have MP:decide (((aF z.natAbs).length:Int)>4)=true:=dg
   have aG:¬ dv z:=by
    intro h;unfold dv at h;refine aM (gF.2 ?_);omega
   rw[aa aG];simp only[go_sem,go_sem_proc,dm,Y,G,MP,aj];repeat' (first|refine av ?_ ?_|fail)<;>intro h<;>simp only[h,go_sem,go_sem_proc,dm,Y,G,MP,aj]
 ·have Y:de (s,l)=false:=by simpa using Y
  have L:rF (s,l)=(0,false):=by unfold rF;rw[aa];rw[Y];simp
  rw[L];simp only[go_sem,go_sem_proc,dm,Y,G];repeat' (first|refine av ?_ ?_|fail)<;>intro h<;>simp only[h,go_sem,go_sem_proc,dm,Y,G]
def S8:b1:=cu 35 1 [.t 2] (R [dM 1 116001 0,c5 2 false] (.seq (R [aT 5 0 1,bm 6 2 5,(dN 7 kt 6),gi 8 7,F 9 8,⟨some 10,some (9,false),.et 2 (.t 1)⟩,⟨some 11,some (9,false),.load 2 true (.t 10)⟩,⟨some 12,some (9,false),.call kt [(.t 11)]⟩,⟨some 13,some (9,false),.un .not (.t 12)⟩,dn 14 9 13,F 15 14,⟨some 16,some (15,false),.et 2 (.t 1)⟩,⟨some 17,some (15,false),.et 0 (.t 16)⟩,⟨some 18,some (15,false),.load 1 false (.t 17)⟩,⟨some 19,some (15,false),.bin .neq (.t 18) (.c (ag 1))⟩,dn 20 15 19] (a4 20 (R [c5 2 false] .ret) .skip)) (R [aT 22 0 1,bm 23 2 22,aT 24 2 1,bm 25 2 24,(cd 26 Ih 23 25),F 21 26,br 27 0 21,br 28 1 21,(ax 3 (.alloc 116003 [(ag 0),.nil])),bb 2 3 27,F 4 28] (R [F 29 4,bc 30 .eql 29 0,F 31 30,⟨some 32,some (31,true),.load 2 true (.t 3)⟩,⟨some 33,some (31,true),.call Q8 [(.t 32)]⟩,gG 34 31 33,F 2 34] .ret))))
def S9:b1:=cu 46 2 [.cell 4 4 true,.t 5] (R [dM 2 119002 0,dM 3 119003 1,(ax 4 (.alloc 119004 [(ag 0),.nil,(ag 0),.nil])),bt 5 0] (.seq (R [bm 10 4 2,(dN 11 nm 10),gi 12 11,F 13 12,⟨some 14,some (13,false),.load 4 true (.t 3)⟩,⟨some 15,some (13,false),.call nm [(.t 14)]⟩,⟨some 16,some (13,false),.un .not (.t 15)⟩,dn 17 13 16] (a4 17 (R [(ax 18 (.build [(ag 0),.nil,(ag 0),.nil] [])),bb 4 4 18,bt 5 1] .ret) .skip)) (R [aT 20 0 2,bm 21 2 20,aT 22 2 3,bm 23 2 22,aT 24 0 3,bm 25 2 24,aT 26 2 2,bm 27 2 26,(Iy 28 Q9 21 23 25 27),F 19 28,br 29 0 19,br 30 1 19,(ax 6 (.alloc 119006 [(ag 0),.nil])),bb 2 6 29,F 7 30] (R [aT 32 2 2,bm 33 2 32,aT 34 2 3,bm 35 2 34,(cd 36 tI 33 35),F 31 36,br 37 0 31,br 38 1 31,(ax 8 (.alloc 119008 [(ag 0),.nil])),bb 2 8 37,F 9 38] (R [bm 39 2 6,F 40 7,bm 41 2 8,F 42 9,(Iy 43 BQ 39 40 41 42),br 44 0 43,br 45 1 43,bb 4 4 44,F 5 45] .ret)))))
def Ta:b1:=cu 13 2 [.cell 4 4 true,.t 5] (R [(ax 4 (.alloc 130004 [(ag 0),.nil,(ag 0),.nil])),bt 5 0] (R [F 6 0,(dN 7 LZ 6),F 8 1,(dN 9 LZ 8),(cd 10 Ii 7 9),br 11 0 10,br 12 1 10,bb 4 4 11,F 5 12] .ret))
def Tb:b1:=cu 25 2 [.cell 4 4 true,.t 5] (R [dM 2 132002 0,dM 3 132003 1,(ax 4 (.alloc 132004 [(ag 0),.nil,(ag 0),.nil])),bt 5 0] (.seq (R [bm 6 4 2,(dN 7 nm 6),gi 8 7,F 9 8,⟨some 10,some (9,false),.load 4 true (.t 3)⟩,⟨some 11,some (9,false),.call nm [(.t 10)]⟩,⟨some 12,some (9,false),.un .not (.t 11)⟩,dn 13 9 12] (a4 13 (R [(ax 14 (.build [(ag 0),.nil,(ag 0),.nil] [])),bb 4 4 14,bt 5 1] .ret) .skip)) (fc [bm 15 4 2,aT 16 0 3,bm 17 2 16,(dN 18 Er 17),aT 19 2 3,bm 20 2 19,(ax 21 (.build [(ag 0),.nil,(ag 0),.nil] [(0,2,(.t 18)),(2,2,(.t 20))])),(cd 22 z0 15 21),br 23 0 22,br 24 1 22,bb 4 4 23,F 5 24] aaS .ret)))
def Tc:b1:=cu 42 2 [.cell 4 4 true,.t 5] (R [dM 2 134002 0,dM 3 134003 1,(ax 4 (.alloc 134004 [(ag 0),.nil,(ag 0),.nil])),bt 5 0] (.seq (R [bm 10 4 2,(dN 11 nm 10),gi 12 11,F 13 12,⟨some 14,some (13,false),.load 4 true (.t 3)⟩,⟨some 15,some (13,false),.call nm [(.t 14)]⟩,⟨some 16,some (13,false),.un .not (.t 15)⟩,dn 17 13 16] (a4 17 (R [(ax 18 (.build [(ag 0),.nil,(ag 0),.nil] [])),bb 4 4 18,bt 5 1] .ret) .skip)) (R [aT 20 0 2,bm 21 2 20,aT 22 0 3,bm 23 2 22,(cd 24 tI 21 23),F 19 24,br 25 0 19,br 26 1 19,(ax 6 (.alloc 134006 [(ag 0),.nil])),bb 2 6 25,F 7 26] (R [aT 28 2 2,bm 29 2 28,aT 30 2 3,bm 31 2 30,(cd 32 tI 29 31),F 27 32,br 33 0 27,br 34 1 27,(ax 8 (.alloc 134008 [(ag 0),.nil])),bb 2 8 33,F 9 34] (R [bm 35 2 6,F 36 7,bm 37 2 8,F 38 9,(Iy 39 BQ 35 36 37 38),br 40 0 39,br 41 1 39,bb 4 4 40,F 5 41] .ret)))))
def Td:b1:=cu 78 2 [.t 4] (R [dM 2 135002 0,dM 3 135003 1,bt 4 0] (.seq (R [bm 17 4 2,(dN 18 nm 17),gi 19 18,F 20 19,⟨some 21,some (20,false),.load 4 true (.t 3)⟩,⟨some 22,some (20,false),.call nm [(.t 21)]⟩,⟨some 23,some (20,false),.un .not (.t 22)⟩,dn 24 20 23] (a4 24 (R [bt 4 0] .ret) .skip)) (fc [aT 25 0 2,bm 26 2 25,aT 27 2 2,bm 28 2 27,aT 29 0 3,bm 30 2 29,aT 31 2 3,bm 32 2 31,(ax 5 (.alloc 135005 [(ag 0),.nil])),(ax 6 (.alloc 135006 [(ag 0),.nil])),(ax 7 (.alloc 135007 [(ag 0),.nil])),(ax 8 (.alloc 135008 [(ag 0),.nil])),bb 2 5 26,bb 2 6 28,bb 2 7 30,bb 2 8 32] [[],[],[],[],[],[],[],[],[1,3,5,7],[1,3,5,7,8],[1,3,5,7,8,9],[1,3,5,7,8,9,10],[3,5,7],[5,7],[7],[]] (R [bt 9 1] (.block 0 (.loop  (.seq (.block 1 (R [bm 36 2 5,bm 37 2 6,(cd 38 BR 36 37),F 35 38,br 39 0 35,br 40 1 35,br 41 2 35,(ax 10 (.alloc 135010 [(ag 0),.nil])),(ax 11 (.alloc 135011 [(ag 0),.nil])),bb 2 10 39,bb 2 11 40,F 12 41] (R [bm 43 2 7,bm 44 2 8,(cd 45 BR 43 44),F 42 45,br 46 0 42,br 47 1 42,br 48 2 42,(ax 13 (.alloc 135013 [(ag 0),.nil])),(ax 14 (.alloc 135014 [(ag 0),.nil])),bb 2 13 46,bb 2 14 47,F 15 48] (.seq (R [bm 49 2 10,bm 50 2 13,(cd 51 Rf 49 50),F 16 51] (.block 2 (R [F 53 16,bc 54 .neq 53 0,F 52 54] (a4 52 (R [F 55 9,F 56 16,bB 57 .mul 55 56,F 4 57] .ret) (R [aT 59 0 11,aK 60 1 59,bc 61 .eql 60 0,F 62 61,⟨some 63,some (62,false),.et 0 (.t 14)⟩,⟨some 64,some (62,false),.load 1 false (.t 63)⟩,⟨some 65,some (62,false),.bin .eql (.t 64) (.c (ag 0))⟩,dn 66 62 65,F 58 66] (a4 58 (R [F 67 9,aT 68 0 11,aK 69 1 68,aT 70 0 14,aK 71 1 70,bB 72 .sub 69 71,bB 73 .mul 67 72,F 4 73] .ret) .skip)))))) (.mz [bm 74 2 6,bm 75 2 11,bm 76 2 8,bm 77 2 14,bb 2 5 74,bb 2 6 75,bb 2 7 76,bb 2 8 77] [[],[],[],[],[1,2,3],[2,3],[3],[]]))))) (.ops [F 33 9,(ax 34 (.un .neg (.t 33))),F 9 34]))))))))
def Te:b1:=cu 15 1 [.t 2] (R [dM 1 138001 0,c5 2 false] (R [bm 6 2 1,(dN 7 Rg 6),F 5 7,br 8 0 5,br 9 1 5,F 3 8,F 4 9] (R [F 10 4,F 11 10,⟨some 12,some (11,true),.b3 (.t 3)⟩,⟨some 13,some (11,true),.bin .eql (.t 12) (.c (ag 1))⟩,gG 14 11 13,F 2 14] .ret)))
def Tf:b1:=cu 38 4 [.cell 8 2 true,.t 9] (R [dM 4 139004 0,dM 5 139005 1,dM 6 139006 2,dM 7 139007 3,(ax 8 (.alloc 139008 [(ag 0),.nil])),bt 9 0] (R [bm 14 2 4,bm 15 2 5,(cd 16 tI 14 15),F 13 16,br 17 0 13,br 18 1 13,(ax 10 (.alloc 139010 [(ag 0),.nil])),bb 2 10 17,F 11 18] (.seq (R [F 19 11,bc 20 .neq 19 0] (a4 20 (R [(ax 21 (.build [(ag 0),.nil] [])),F 22 11,bb 2 8 21,F 9 22] .ret) .skip)) (R [bm 24 2 6,bm 25 2 7,(cd 26 tI 24 25),F 23 26,br 27 0 23,br 28 1 23,(ax 12 (.alloc 139012 [(ag 0),.nil])),bb 2 12 27,F 11 28] (.seq (R [F 29 11,bc 30 .neq 29 0] (a4 30 (R [(ax 31 (.build [(ag 0),.nil] [])),F 32 11,bb 2 8 31,F 9 32] .ret) .skip)) (R [bm 33 2 10,bm 34 2 12,(cd 35 Rh 33 34),br 36 0 35,br 37 1 35,bb 2 8 36,F 9 37] .ret))))))
def Tg:b1:=cu 22 4 [.cell 8 4 true,.t 9] (R [dM 4 141004 0,dM 6 141006 2,(ax 8 (.alloc 141008 [(ag 0),.nil,(ag 0),.nil])),bt 9 0] (.seq (R [F 10 1,bc 11 .neq 10 0,F 12 11,⟨some 13,some (12,false),.b3 (.t 3)⟩,⟨some 14,some (12,false),.bin .neq (.t 13) (.c (ag 0))⟩,dn 15 12 14] (a4 15 (R [(ax 16 (.build [(ag 0),.nil,(ag 0),.nil] [])),bb 4 8 16,bt 9 6] .ret) .skip)) (R [bm 17 2 4,bm 18 2 6,(cd 19 Ii 17 18),br 20 0 19,br 21 1 19,bb 4 8 20,F 9 21] .ret)))
def Th:b1:=cu 60 2 [.cell 4 4 true,.t 5] (R [dM 2 149002 0,dM 3 149003 1,(ax 4 (.alloc 149004 [(ag 0),.nil,(ag 0),.nil])),bt 5 0] (.seq (.block 0 (R [bm 15 2 2,(dN 16 kt 15),gi 17 16,F 18 17,⟨some 19,some (18,false),.load 2 true (.t 3)⟩,⟨some 20,some (18,false),.call kt [(.t 19)]⟩,⟨some 21,some (18,false),.un .not (.t 20)⟩,dn 22 18 21,F 14 22] (a4 14 (R [(ax 23 (.build [(ag 0),.nil,(ag 0),.nil] [])),bb 4 4 23,bt 5 1] .ret) (R [aT 25 0 3,aK 26 1 25,bc 27 .eql 26 0,F 24 27] (a4 24 (R [(ax 28 (.build [(ag 0),.nil,(ag 0),.nil] [])),bb 4 4 28,bt 5 15] .ret) (R [aT 30 0 3,aK 31 1 30,bc 32 .lss 31 0,F 29 32] (a4 29 (.mz [bm 33 2 2,(dN 34 Er 33),bm 35 2 3,(dN 36 Er 35),bb 2 2 34,bb 2 3 36] aaQ) .skip))))))) (R [bm 38 2 2,bm 39 2 3,(cd 40 Ih 38 39),F 37 40,br 41 0 37,br 42 1 37,(ax 6 (.alloc 149006 [(ag 0),.nil])),bb 2 6 41,F 7 42] (R [bm 44 2 2,bm 45 2 6,(cd 46 BR 44 45),F 43 46,br 47 0 43,br 48 1 43,br 49 2 43,(ax 8 (.alloc 149008 [(ag 0),.nil])),(ax 9 (.alloc 149009 [(ag 0),.nil])),bb 2 8 47,bb 2 9 48,F 10 49] (R [bm 51 2 3,bm 52 2 6,(cd 53 BR 51 52),F 50 53,br 54 0 50,br 55 1 50,br 56 2 50,(ax 11 (.alloc 149011 [(ag 0),.nil])),(ax 12 (.alloc 149012 [(ag 0),.nil])),bb 2 11 54,bb 2 12 55,F 13 56] (R [bm 57 2 8,bm 58 2 11,(ax 59 (.build [(ag 0),.nil,(ag 0),.nil] [(0,2,(.t 57)),(2,2,(.t 58))])),bb 4 4 59,bt 5 0] .ret))))))
def Ti:b1:=cu 49 2 [.cell 4 4 true,.t 5] (R [dM 2 169002 0,dM 3 169003 1,(ax 4 (.alloc 169004 [(ag 0),.nil,(ag 0),.nil])),bt 5 0] (.seq (.block 0 (R [bm 11 4 2,(dN 12 nm 11),gi 13 12,F 14 13,⟨some 15,some (14,false),.load 4 true (.t 3)⟩,⟨some 16,some (14,false),.call nm [(.t 15)]⟩,⟨some 17,some (14,false),.un .not (.t 16)⟩,dn 18 14 17,F 10 18] (a4 10 (R [(ax 19 (.build [(ag 0),.nil,(ag 0),.nil] [])),bb 4 4 19,bt 5 1] .ret) (R [aT 21 0 3,aT 22 0 21,aK 23 1 22,bc 24 .eql 23 0,F 20 24] (a4 20 (R [(ax 25 (.build [(ag 0),.nil,(ag 0),.nil] [])),bb 4 4 25,bt 5 15] .ret) .skip))))) (R [aT 27 0 2,bm 28 2 27,aT 29 2 3,bm 30 2 29,(cd 31 tI 28 30),F 26 31,br 32 0 26,br 33 1 26,(ax 6 (.alloc 169006 [(ag 0),.nil])),bb 2 6 32,F 7 33] (R [aT 35 2 2,bm 36 2 35,aT 37 0 3,bm 38 2 37,(cd 39 tI 36 38),F 34 39,br 40 0 34,br 41 1 34,(ax 8 (.alloc 169008 [(ag 0),.nil])),bb 2 8 40,F 9 41] (R [bm 42 2 6,F 43 7,bm 44 2 8,F 45 9,(Iy 46 BQ 42 43 44 45),br 47 0 46,br 48 1 46,bb 4 4 47,F 5 48] .ret)))))
abbrev bU:=Raw×Raw
def aL (f:bU):List Data:=[.int .i64 f.1.1,.af (f.1.2.map ad),.int .i64 f.2.1,.af (f.2.2.map ad)]
def eh (x:bU×Int):Data:=.cw [.agg (aL x.1),.int .i64 x.2]
def aE (x:Rat):bU:=(bE x.num,bE x.den)
def dz (x:Rat):Prop:=x.num.natAbs<dI/\x.den<dI
def dW:bU:=((0,[]),(0,[]))
def eX (f:bU):Bool:=de f.1&&(de f.2&&(f.2.1==1&&(iO (h6 f.1).natAbs (h6 f.2).natAbs==1)))
def Ar (f:bU):Rat:=lp (h6 f.1) (h6 f.2)
theorem Cl (x:Rat):Ar (aE x)=x:=by
 unfold Ar aE;rw[fs,fs,Cm]
theorem MR {x y:Rat}(h:aE x=aE y):x=y:=by rw[<-Cl x,h,Cl]
theorem den_pos (x:Rat):0<(x.den:Int):=Aq.2 x.den_pos
theorem an6 {n:Int}(h:0<n):(bE n).1=1:=jd h
theorem Ja (f:bU):eX f=true↔∃x,dz x/\f=aE x:=by
 unfold eX;simp only[e3,beq_iff_eq]
 constructor
 ·rintro⟨E,H,ab,aM⟩;obtain⟨p,aB,aw⟩:=(ju _).1 E;obtain⟨q,bd,aC⟩:=(ju _).1 H;obtain⟨f1,f2⟩:=f;simp only at aw aC ab aM;subst aw aC;rw[fs,fs] at aM
  have SR:0<q:=by
   rcases lX q with ⟨_,h⟩|⟨e,_⟩|⟨e,_⟩
   ·exact h
   ·have:q.sign=1:=ab;omega
   ·have:q.sign=1:=ab;omega
  refine⟨⟨p,q.natAbs,by omega,aM⟩,⟨aB,bd⟩,?_⟩
  unfold aE;rw[show ((q.natAbs:Nat):Int)=q by omega]
 ·rintro⟨x,⟨E,H⟩,rfl⟩;have X:(x.den:Int).natAbs<dI:=by rw[ml];exact H
  refine⟨kA E,kA X,an6 (den_pos x),?_⟩;unfold aE;rw[fs,fs,ml];exact x.reduced
theorem w0 {x:Rat}(h:dz x):eX (aE x)=true:=(Ja _).2 ⟨x,h,rfl⟩
theorem vj {x:Rat}(h:dz x):(x.den:Int).natAbs<dI:=by rw[ml];exact h.2
theorem mT {z:Int}(h:z.natAbs<dI):(aF z.natAbs).length<=1000000:=by have:=qJ h;omega
def Cn (a:Raw):Bool:=(rF a).2&&((rF a).1==1)
theorem an7 {z:Int}(h:z.natAbs<dI):Cn (bE z)=decide (z=1):=by
 unfold Cn rF;rw[kA h,fs]
 by_cases L:dv z
 ·rw[Z ⟨rfl,L⟩];simp only[hP]
  rfl
 ·rw[aa λh=>L h.2];have:z≠1:=by rintro rfl;exact L (by unfold dv;omega)
  simp[this]
def Tj:=cy z6 λ(s,l)=>cT (D l<=1000000) (.same (.bool (Cn (s,l))))
@[go_sem] theorem aCz (s:Int)(l:List Int)(G:(D l)<=1000000):Tj [.agg [.int .i64 s,.af (l.map ad)]]=some (.same (.bool (Cn (s,l)))):=(cI EA (s,l)).trans (cY G _)
theorem an8 (T:bk)(MS:T Rg=aW S5)(s:Int)(l:List Int)(G:(D l)<=1000000):WP T Te (.same (.bool (Cn (s,l)))) [.I (.agg [.int .i64 s,.af (l.map ad)])]:=by
 refine cC ?_;simp only[Te];unfold Cn;rcases h:(rF (s,l)).2
 ·simp only[go_sem,go_sem_proc,MS,G,h];repeat' (first|refine av ?_ ?_|fail)<;>intro h<;>simp only[h,go_sem,go_sem_proc,MS,G,h]
 ·simp only[go_sem,go_sem_proc,MS,G,h];repeat' (first|refine av ?_ ?_|fail)<;>intro h<;>simp only[h,go_sem,go_sem_proc,MS,G,h]
abbrev Jb:Int×(List Int)×Int×(List Int)->List Data:=λ(s,l,s2,al)=>[.agg [.int .i64 s,.af (l.map ad),.int .i64 s2,.af (al.map ad)]]
def yO:=cy Jb λ(s,l,s2,al)=>cT (D l<=1000000/\D al<=1000000) (.same (.bool (eX ((s,l),(s2,al)))))
theorem Tk:∀a b,Jb a=Jb b->a=b:=by
  rintro⟨s1,eB,EZ,E0⟩ ⟨s2,al,E1,E2⟩ h;simp only[bh,Data.agg.injEq,Data.int.injEq,Data.af.injEq] at h;exact eS h.1.1.2 (eS (map_inj g7 _ _ h.1.2.1) (eS h.1.2.2.1.2 (map_inj g7 _ _ h.1.2.2.2.1)))
@[go_sem] theorem aCA (s:Int)(l:List Int)(s2:Int)(al:List Int)(G:(D l)<=1000000/\D al<=1000000):yO [.agg [.int .i64 s,.af (l.map ad),.int .i64 s2,.af (al.map ad)]]=some (.same (.bool (eX ((s,l),(s2,al))))):=(cI Tk (s,l,s2,al)).trans (cY G _)
theorem an9 (T:bk)(dm:T kt=aW u6)(w2:T Ih=aW MK)(MT:T Q8=aW Tj)(s:Int)(l:List Int)(s2:Int)(al:List Int)(G:(D l)<=1000000/\D al<=1000000):WP T S8 (.same (.bool (eX ((s,l),(s2,al))))) [.I (.agg [.int .i64 s,.af (l.map ad),.int .i64 s2,.af (al.map ad)])]:=by
 refine cC ?_;simp only[S8];obtain⟨bK,b0⟩:=G
 by_cases Y:de (s,l)=true
 ·by_cases bw:de (s2,al)=true
  ·by_cases Q:s2=1
   ·obtain⟨x,O,e⟩:=(ju _).1 Y;obtain⟨y,ao,aC⟩:=(ju _).1 bw
    have aX:lo (s,l) (s2,al)=(bE ((iO x.natAbs y.natAbs:Nat):Int),0):=by
     unfold lo;rw[Y,bw,e,aC,fs,fs];rfl
    have n2:=I2 O ao
    have bx:Cn (bE ((iO x.natAbs y.natAbs:Nat):Int))=(iO x.natAbs y.natAbs==1):=by
     rw[an7 (by rw[ml];exact n2)];rw[kB];simp;omega
    have wi:h6 (s,l)=x:=by rw[e,fs]
    have wj:h6 (s2,al)=y:=by rw[aC,fs]
    have j0:eX ((s,l),(s2,al))=(iO x.natAbs y.natAbs==1):=by
     show (de (s,l)&&(de (s2,al)&&((s2==1)&&(iO (h6 (s,l)).natAbs (h6 (s2,al)).natAbs==1))))=_;rw[Y,bw,wi,wj,show (s2==1)=true by simpa using Q]
     simp only[hP]
    have aoa:((bE ((iO x.natAbs y.natAbs:Nat):Int)).2).length<=1000000:=mT (by rw[ml];exact n2);rw[j0,<-bx];generalize bE ((iO x.natAbs y.natAbs:Nat):Int)=bA at *;obtain⟨cF,cQ⟩:=bA;have iz:(s2==1)=true:=by simpa using Q
    refine a9 ?_;repeat' (intro h<;>simp only[h,go_sem,go_sem_proc,dm,w2,MT,Y,bw,bK,b0,iz,aX,aoa,ft,cJ,show ((0:Int)==0)=true from rfl]<;>try refine av ?_ ?_)
   ·have j0:eX ((s,l),(s2,al))=false:=by unfold eX;simp[Q]
    have iz:(s2==1)=false:=by simpa using Q
    rw[j0];refine a9 ?_;repeat' (intro h<;>simp only[h,go_sem,go_sem_proc,dm,w2,MT,Y,bw,bK,b0,iz]<;>try refine av ?_ ?_)
  ·have bw:de (s2,al)=false:=by simpa using bw
   have j0:eX ((s,l),(s2,al))=false:=by unfold eX;simp[bw]
   rw[j0];refine a9 ?_;repeat' (intro h<;>simp only[h,go_sem,go_sem_proc,dm,w2,MT,Y,bw,bK,b0]<;>try refine av ?_ ?_)
 ·have Y:de (s,l)=false:=by simpa using Y
  have j0:eX ((s,l),(s2,al))=false:=by unfold eX;simp[Y]
  rw[j0];refine a9 ?_;repeat' (intro h<;>simp only[h,go_sem,go_sem_proc,dm,w2,MT,Y,bK,b0]<;>try refine av ?_ ?_)
def g8 (p q:Raw):bU×Int :=
 if (de p&&de q)=true then (if h6 q=0 then (dW,15) else (aE (lp (h6 p) (h6 q)),0)) else (dW,1)
theorem yP {p q:Int}(aB:p.natAbs<dI)(bd:q.natAbs<dI)(ak:q≠0):g8 (bE p) (bE q)=(aE (lp p q),0):=by
 unfold g8;rw[kA aB,kA bd,fs,fs,Z (by rfl),aa ak]
theorem Tl {p q:Int}(bd:0<q):(lp p q).num=p.fdiv ((iO p.natAbs q.natAbs:Nat):Int)/\((lp p q).den:Int)=q.fdiv ((iO p.natAbs q.natAbs:Nat):Int):=by
 rw[Rat.num_divInt,Rat.den_divInt,aa (by omega),jd bd,nt];have aX:q.gcd p=iO p.natAbs q.natAbs:=by rw[Int.gcd_comm];rfl
 rw[aX];have ak:(0:Int)<=((iO p.natAbs q.natAbs:Nat):Int):=Int.natCast_nonneg _;rw[ab2 _ ak,ab2 _ ak];refine⟨rfl,?_⟩;rw[Int.natCast_ediv]
 congr 1
 omega
theorem Tm {p q:Int}(bd:q≠0):0<iO p.natAbs q.natAbs:=Nat.gcd_pos_of_pos_right _ (by omega)
theorem MU {p q:Int}(aB:p.natAbs<dI)(bd:q.natAbs<dI):dz (lp p q):=by
 have main:∀{p q:Int},p.natAbs<dI->q.natAbs<dI->0<q->dz (lp p q):=by
  intro p q aB bd ak;obtain⟨E,H⟩:=Tl (p:=p) ak;have aX:=Tm (p:=p) (q:=q) (by omega);refine⟨?_,?_⟩
  ·rw[E];exact E3 aB (by omega)
  ·have:=E3 (y:=((iO p.natAbs q.natAbs:Nat):Int)) bd (by omega);rw[<-H,ml] at this;exact this
 rcases wO q 0 with h|h|h
 ·rw[<-Tn];exact main (by omega) (by omega) (by omega)
 ·subst h;rw[Rat.divInt_zero];unfold dz dI;exact⟨Nat.pow_pos (by omega),Nat.one_lt_pow (by omega) (by omega)⟩
 ·exact main aB bd h
def MV:=cy tZ λ(s,l,s2,al)=>cT (D l<=1000000/\D al<=1000000) (.same (eh (g8 (s,l) (s2,al))))
@[go_sem] theorem aCB (s:Int)(l:List Int)(s2:Int)(al:List Int)(G:(D l)<=1000000/\D al<=1000000):MV [.agg [.int .i64 s,.af (l.map ad)],.agg [.int .i64 s2,.af (al.map ad)]]=some (.same (eh (g8 (s,l) (s2,al)))):=(cI wV (s,l,s2,al)).trans (cY G _)
theorem aob (T:bk)(dm:T kt=aW u6)(yQ:T Er=aW MH)(w2:T Ih=aW MK)(pU:T BR=aW MN)(s:Int)(l:List Int)(s2:Int)(al:List Int)(G:(D l)<=1000000/\D al<=1000000):WP T Th (.same (eh (g8 (s,l) (s2,al)))) [.I (.agg [.int .i64 s,.af (l.map ad)]),.I (.agg [.int .i64 s2,.af (al.map ad)])]:=by
 refine cC ?_;simp only[Th];obtain⟨bK,b0⟩:=G
 by_cases Y:de (s,l)=true
 ·by_cases bw:de (s2,al)=true
  ·obtain⟨x,O,e⟩:=(ju _).1 Y;obtain⟨y,ao,aC⟩:=(ju _).1 bw
   by_cases ak:y=0
   ·have hm:g8 (s,l) (s2,al)=(dW,15):=by
     unfold g8;rw[Y,bw,aC,fs,Z (by rfl),Z ak]
    rw[hm]
    cases e
    cases aC;have Q:(y.sign==0)=true:=by rw[ak];rfl
    refine a9 ?_;repeat' (intro h<;>simp only[h,go_sem,go_sem_proc,dm,yQ,w2,pU,Y,bw,bK,b0,Q,eh,aL,dW,cl]<;>try refine av ?_ ?_)
   ·have main:∀p q:Int,p.natAbs<dI->q.natAbs<dI->0<q->∃g:Raw,lo (bE p) (bE q)=(g,0)/\g.2.length<=1000000/\j4 (bE p) g=(bE (lp p q).num,bE (p.fmod ((iO p.natAbs q.natAbs:Nat):Int)),0)/\j4 (bE q) g=(bE (lp p q).den,bE (q.fmod ((iO p.natAbs q.natAbs:Nat):Int)),0):=by
     intro p q aB bd lR;have n2:=I2 aB bd;have Co:((iO p.natAbs q.natAbs:Nat):Int).natAbs<dI:=by rw[ml];exact n2
     have Mr:=Tm (p:=p) (q:=q) (by omega);obtain⟨E,H⟩:=Tl (p:=p) lR;refine⟨bE ((iO p.natAbs q.natAbs:Nat):Int),?_,mT Co,?_,?_⟩
     ·unfold lo;rw[kA aB,kA bd,fs,fs];rfl
     ·rw[Cf aB Co (by omega),E]
     ·rw[Cf bd Co (by omega),H]
    have pV:(y.sign==0)=false:=by simpa using ak
    rcases ab3 ak with j3|hO
    ·have hF:decide (y.sign<0)=true:=by rw[pQ j3];rfl
     obtain⟨⟨cF,cQ⟩,aX,n2,jM,mh⟩:=main (-x) (-y) (by omega) (by omega) (by omega)
     have hm:g8 (s,l) (s2,al)=(aE (lp (-x) (-y)),0):=by
      rw[e,aC,yP O ao ak,Tn]
     rw[hm];have pF:jv (s,l)=bE (-x):=by unfold jv;rw[Z Y,e,fs]
     have wh:jv (s2,al)=bE (-y):=by unfold jv;rw[Z bw,aC,fs]
     have Cp:s2=y.sign:=congrArg E6 aC;have ho:(bE (-x)).2.length<=1000000:=mT (by omega);have iP:(bE (-y)).2.length<=1000000:=mT (by omega);clear e aC;unfold aE;generalize bE (-x)=cA at *;generalize bE (-y)=fK at *;obtain⟨bf,b5⟩:=cA;obtain⟨sx,sy⟩:=fK;rw[<-Cp] at pV hF;refine a9 ?_;repeat' (intro h<;>simp only[h,go_sem,go_sem_proc,dm,yQ,w2,pU,Y,bw,bK,b0,pV,hF,pF,wh,ho,iP,aX,n2,jM,mh,eh,aL,ft,gY,cJ]<;>try refine av ?_ ?_)
    ·have hF:decide (y.sign<0)=false:=by rw[jd hO];rfl
     obtain⟨⟨cF,cQ⟩,aX,n2,jM,mh⟩:=main x y O ao hO
     have hm:g8 (s,l) (s2,al)=(aE (lp x y),0):=by
      rw[e,aC,yP O ao ak]
     rw[hm];have Cp:s2=y.sign:=congrArg E6 aC;rw[<-e] at aX jM;rw[<-aC] at aX mh;rw[<-Cp] at pV hF;unfold aE;refine a9 ?_;repeat' (intro h<;>simp only[h,go_sem,go_sem_proc,dm,yQ,w2,pU,Y,bw,bK,b0,pV,hF,aX,n2,jM,mh,eh,aL,ft,gY,cJ]<;>try refine av ?_ ?_)
  ·have bw:de (s2,al)=false:=by simpa using bw
   have hm:g8 (s,l) (s2,al)=(dW,1):=by unfold g8;rw[bw,hy];rfl
   rw[hm];refine a9 ?_;repeat' (intro h<;>simp only[h,go_sem,go_sem_proc,dm,yQ,w2,pU,Y,bw,bK,b0,eh,aL,dW,cl]<;>try refine av ?_ ?_)
 ·have Y:de (s,l)=false:=by simpa using Y
  have hm:g8 (s,l) (s2,al)=(dW,1):=by unfold g8;rw[Y,fC];rfl
  rw[hm];refine a9 ?_;repeat' (intro h<;>simp only[h,go_sem,go_sem_proc,dm,yQ,w2,pU,Y,bK,b0,eh,aL,dW,cl]<;>try refine av ?_ ?_)
def Jc:=cy ID λ(p,q)=>cT (dv p/\dv q) (.same (eh (g8 (bE p) (bE q))))
@[go_sem] theorem aoc (p:Int)(q:Int)(G:dv p/\dv q):Jc [.int .i64 p,.int .i64 q]=some (.same (eh (g8 (bE p) (bE q)))):=(cI Sd (p,q)).trans (cY G _)
theorem aod (T:bk)(aoe:T LZ=aW S4)(Jd:T Ii=aW MV)(p:Int)(q:Int)(G:dv p/\dv q):WP T Ta (.same (eh (g8 (bE p) (bE q)))) [.I (.int .i64 p),.I (.int .i64 q)]:=by
 refine cC ?_;simp only[Ta];obtain⟨E,H⟩:=G;have eB:(bE p).2.length<=1000000:=mT (wZ E);have al:(bE q).2.length<=1000000:=mT (wZ H);generalize fP:bE p=P at *;generalize fj:bE q=aH at *;obtain⟨bf,b5⟩:=P;obtain⟨sx,sy⟩:=aH;refine a9 ?_;repeat' (intro h<;>simp only[h,go_sem,go_sem_proc,aoe,Jd,E,H,fP,fj,eB,al,cJ,eh,aL]<;>try refine av ?_ ?_)
def vk (a b c d:Raw):Raw×Int :=
 if ((mulR a b).2==0)=true then (if ((mulR c d).2==0)=true then rE (mulR a b).1 (mulR c d).1 else ((0,[]),(mulR c d).2)) else ((0,[]),(mulR a b).2)
theorem ab4 (z:Int):(rD z).1.2.length<=1000000:=by
 unfold rD
 split
 ·exact mT (by assumption)
 ·simp
theorem Cq (a b:Raw):(mulR a b).1.2.length<=1000000:=by
 unfold mulR
 split
 ·exact ab4 _
 ·simp
theorem aof (a b:Raw):(rE a b).1.2.length<=1000000:=by
 unfold rE
 split
 ·exact ab4 _
 ·simp
theorem aog (a b c d:Raw):(vk a b c d).1.2.length<=1000000:=by
 unfold vk
 split
 ·split
  ·exact aof _ _
  ·simp
 ·simp
abbrev To:Int×(List Int)×Int×(List Int)×Int×(List Int)×Int×(List Int)->List Data:=λ(s,l,s2,al,cP,bO,cS,b7)=>[.agg [.int .i64 s,.af (l.map ad)],.agg [.int .i64 s2,.af (al.map ad)],.agg [.int .i64 cP,.af (bO.map ad)],.agg [.int .i64 cS,.af (b7.map ad)]]
def Tp:=cy To λ(s,l,s2,al,cP,bO,cS,b7)=>cT (D l<=1000000/\D al<=1000000/\D bO<=1000000/\D b7<=1000000) (.same (ft (vk (s,l) (s2,al) (cP,bO) (cS,b7))))
theorem aoh:∀a b,To a=To b->a=b:=by
  rintro⟨s1,eB,EZ,E0,aoi,aoj,aok,aol⟩ ⟨s2,al,E1,E2,aom,aon,aoo,aop⟩ h;simp only[bh,Data.agg.injEq,Data.int.injEq,Data.af.injEq] at h;exact eS h.1.1.2 (eS (map_inj g7 _ _ h.1.2.1) (eS h.2.1.1.2 (eS (map_inj g7 _ _ h.2.1.2.1) (eS h.2.2.1.1.2 (eS (map_inj g7 _ _ h.2.2.1.2.1) (eS h.2.2.2.1.1.2 (map_inj g7 _ _ h.2.2.2.1.2.1)))))))
@[go_sem] theorem aCC (s:Int)(l:List Int)(s2:Int)(al:List Int)(cP:Int)(bO:List Int)(cS:Int)(b7:List Int)(G:(D l)<=1000000/\D al<=1000000/\D bO<=1000000/\D b7<=1000000):Tp [.agg [.int .i64 s,.af (l.map ad)],.agg [.int .i64 s2,.af (al.map ad)],.agg [.int .i64 cP,.af (bO.map ad)],.agg [.int .i64 cS,.af (b7.map ad)]]=some (.same (ft (vk (s,l) (s2,al) (cP,bO) (cS,b7)))):=(cI aoh (s,l,s2,al,cP,bO,cS,b7)).trans (cY G _)
theorem aoq (T:bk)(pW:T tI=aW EY)(Tq:T Rh=aW SW)(s:Int)(l:List Int)(s2:Int)(al:List Int)(cP:Int)(bO:List Int)(cS:Int)(b7:List Int)(G:(D l)<=1000000/\D al<=1000000/\D bO<=1000000/\D b7<=1000000):WP T Tf (.same (ft (vk (s,l) (s2,al) (cP,bO) (cS,b7)))) [.I (.agg [.int .i64 s,.af (l.map ad)]),.I (.agg [.int .i64 s2,.af (al.map ad)]),.I (.agg [.int .i64 cP,.af (bO.map ad)]),.I (.agg [.int .i64 cS,.af (b7.map ad)])]:=by
 refine cC ?_;simp only[Tf];obtain⟨bK,b0,ho,iP⟩:=G;have dG:=Cq (s,l) (s2,al);have cn:=Cq (cP,bO) (cS,b7);unfold vk;generalize sI:mulR (s,l) (s2,al)=M1 at *;generalize gI:mulR (cP,bO) (cS,b7)=M2 at *;obtain⟨⟨db,dH⟩,aw⟩:=M1;obtain⟨⟨dP,gV⟩,aC⟩:=M2;rcases E:(aw==0)
 ·refine a9 ?_;repeat' (intro h<;>simp only[h,go_sem,go_sem_proc,pW,Tq,bK,b0,ho,iP,sI,E,dG,cn,ft,cJ,cl]<;>try refine av ?_ ?_)
 ·have gj:aw=0:=by simpa using E
  subst gj;rcases H:(aC==0)
  ·refine a9 ?_;repeat' (intro h<;>simp only[h,go_sem,go_sem_proc,pW,Tq,bK,b0,ho,iP,sI,gI,E,H,dG,cn,ft,cJ,cl]<;>try refine av ?_ ?_)
  ·have h7:aC=0:=by simpa using H
   subst h7;refine a9 ?_;repeat' (intro h<;>simp only[h,go_sem,go_sem_proc,pW,Tq,bK,b0,ho,iP,sI,gI,E,dG,cn,ft,cJ,cl]<;>try refine av ?_ ?_)
def ub (p:Raw×Int)(q:Raw×Int):bU×Int:=if (p.2==0)=true then (if (q.2==0)=true then g8 p.1 q.1 else (dW,6)) else (dW,6)
abbrev Tr:Int×(List Int)×Int×Int×(List Int)×Int->List Data:=λ(s,l,e,s2,al,aC)=>[.agg [.int .i64 s,.af (l.map ad)],.int .i64 e,.agg [.int .i64 s2,.af (al.map ad)],.int .i64 aC]
def Je:=cy Tr λ(s,l,e,s2,al,aC)=>cT (D l<=1000000/\D al<=1000000) (.same (eh (ub ((s,l),e) ((s2,al),aC))))
theorem aor:∀a b,Tr a=Tr b->a=b:=by
  rintro⟨s1,eB,aw,EZ,E0,sM⟩ ⟨s2,al,aC,E1,E2,qL⟩ h;simp only[bh,Data.agg.injEq,Data.int.injEq,Data.af.injEq] at h;exact eS h.1.1.2 (eS (map_inj g7 _ _ h.1.2.1) (eS h.2.1.2 (eS h.2.2.1.1.2 (eS (map_inj g7 _ _ h.2.2.1.2.1) h.2.2.2.1.2))))
@[go_sem] theorem aCD (s:Int)(l:List Int)(e:Int)(s2:Int)(al:List Int)(aC:Int)(G:(D l)<=1000000/\D al<=1000000):Je [.agg [.int .i64 s,.af (l.map ad)],.int .i64 e,.agg [.int .i64 s2,.af (al.map ad)],.int .i64 aC]=some (.same (eh (ub ((s,l),e) ((s2,al),aC)))):=(cI aor (s,l,e,s2,al,aC)).trans (cY G _)
theorem aos (T:bk)(Jd:T Ii=aW MV)(s:Int)(l:List Int)(e:Int)(s2:Int)(al:List Int)(aC:Int)(G:(D l)<=1000000/\D al<=1000000):WP T Tg (.same (eh (ub ((s,l),e) ((s2,al),aC)))) [.I (.agg [.int .i64 s,.af (l.map ad)]),.I (.int .i64 e),.I (.agg [.int .i64 s2,.af (al.map ad)]),.I (.int .i64 aC)]:=by
 refine cC ?_;simp only[Tg];obtain⟨bK,b0⟩:=G;unfold ub;rcases E:(e==0)
 ·refine a9 ?_;repeat' (intro h<;>simp only[h,go_sem,go_sem_proc,Jd,bK,b0,E,eh,aL,dW,cl]<;>try refine av ?_ ?_)
 ·have gj:e=0:=by simpa using E
  subst gj;rcases H:(aC==0)
  ·refine a9 ?_;repeat' (intro h<;>simp only[h,go_sem,go_sem_proc,Jd,bK,b0,E,H,eh,aL,dW,cl]<;>try refine av ?_ ?_)
  ·have h7:aC=0:=by simpa using H
   subst h7;refine a9 ?_;repeat' (intro h<;>simp only[h,go_sem,go_sem_proc,Jd,bK,b0,E,eh,aL,dW,cl]<;>try refine av ?_ ?_)
def vl (a b:bU):bU×Int:=if eX a=true then (if eX b=true then ub (vk a.1 b.2 b.1 a.2) (mulR a.2 b.2) else (dW,1)) else (dW,1)
def oB (a b:bU):bU×Int:=if eX a=true then (if eX b=true then vl a (jv b.1,b.2) else (dW,1)) else (dW,1)
def nx (a b:bU):bU×Int:=if eX a=true then (if eX b=true then ub (mulR a.1 b.1) (mulR a.2 b.2) else (dW,1)) else (dW,1)
def jw (a b:bU):bU×Int:=if eX a=true then (if eX b=true then (if (b.1.1==0)=true then (dW,15) else ub (mulR a.1 b.2) (mulR a.2 b.1)) else (dW,1)) else (dW,1)
theorem aot (a:Raw)(h:a.2.length<=1000000):(jv a).2.length<=1000000:=by
 unfold jv
 split
 ·rename_i Y;obtain⟨z,aQ,e⟩:=(ju _).1 Y;rw[e,fs];exact mT (by omega)
 ·simp
abbrev As:Int×(List Int)×Int×(List Int)×Int×(List Int)×Int×(List Int)->List Data:=λ(s,l,s2,al,cP,bO,cS,b7)=>[.agg [.int .i64 s,.af (l.map ad),.int .i64 s2,.af (al.map ad)],.agg [.int .i64 cP,.af (bO.map ad),.int .i64 cS,.af (b7.map ad)]]
def Cr:=cy As λ(s,l,s2,al,cP,bO,cS,b7)=>cT (D l<=1000000/\D al<=1000000/\D bO<=1000000/\D b7<=1000000) (.same (eh (vl ((s,l),(s2,al)) ((cP,bO),(cS,b7)))))
theorem E7:∀a b,As a=As b->a=b:=by
  rintro⟨s1,eB,EZ,E0,aoi,aoj,aok,aol⟩ ⟨s2,al,E1,E2,aom,aon,aoo,aop⟩ h;simp only[bh,Data.agg.injEq,Data.int.injEq,Data.af.injEq] at h;exact eS h.1.1.2 (eS (map_inj g7 _ _ h.1.2.1) (eS h.1.2.2.1.2 (eS (map_inj g7 _ _ h.1.2.2.2.1) (eS h.2.1.1.2 (eS (map_inj g7 _ _ h.2.1.2.1) (eS h.2.1.2.2.1.2 (map_inj g7 _ _ h.2.1.2.2.2.1)))))))
@[go_sem] theorem aou (s:Int)(l:List Int)(s2:Int)(al:List Int)(cP:Int)(bO:List Int)(cS:Int)(b7:List Int)(G:(D l)<=1000000/\D al<=1000000/\D bO<=1000000/\D b7<=1000000):Cr [.agg [.int .i64 s,.af (l.map ad),.int .i64 s2,.af (al.map ad)],.agg [.int .i64 cP,.af (bO.map ad),.int .i64 cS,.af (b7.map ad)]]=some (.same (eh (vl ((s,l),(s2,al)) ((cP,bO),(cS,b7))))):=(cI E7 (s,l,s2,al,cP,bO,cS,b7)).trans (cY G _)
theorem aov (T:bk)(gJ:T nm=aW yO)(Ts:T Q9=aW Tp)(pW:T tI=aW EY)(uc:T BQ=aW Je)(s:Int)(l:List Int)(s2:Int)(al:List Int)(cP:Int)(bO:List Int)(cS:Int)(b7:List Int)(G:(D l)<=1000000/\D al<=1000000/\D bO<=1000000/\D b7<=1000000):WP T S9 (.same (eh (vl ((s,l),(s2,al)) ((cP,bO),(cS,b7))))) [.I (.agg [.int .i64 s,.af (l.map ad),.int .i64 s2,.af (al.map ad)]),.I (.agg [.int .i64 cP,.af (bO.map ad),.int .i64 cS,.af (b7.map ad)])]:=by
 refine cC ?_;simp only[S9];obtain⟨bK,b0,ho,iP⟩:=G;unfold vl
 by_cases Y:eX ((s,l),(s2,al))=true
 ·by_cases bw:eX ((cP,bO),(cS,b7))=true
  ·have dG:=aog (s,l) (cS,b7) (cP,bO) (s2,al);have cn:=Cq (s2,al) (cS,b7);rw[Z Y,Z bw];dsimp only;generalize sI:vk (s,l) (cS,b7) (cP,bO) (s2,al)=M1 at *;generalize gI:mulR (s2,al) (cS,b7)=M2 at *;obtain⟨⟨db,dH⟩,aw⟩:=M1;obtain⟨⟨dP,gV⟩,aC⟩:=M2;refine a9 ?_;repeat' (intro h<;>simp only[h,go_sem,go_sem_proc,gJ,Ts,pW,uc,bK,b0,ho,iP,Y,bw,sI,gI,dG,cn,ft,cJ,eh,aL]<;>try refine av ?_ ?_)
  ·have bw:eX ((cP,bO),(cS,b7))=false:=by simpa using bw
   rw[Z Y,aa (by simp[bw])];refine a9 ?_;repeat' (intro h<;>simp only[h,go_sem,go_sem_proc,gJ,Ts,pW,uc,bK,b0,ho,iP,Y,bw,eh,aL,dW,cl]<;>try refine av ?_ ?_)
 ·have Y:eX ((s,l),(s2,al))=false:=by simpa using Y
  rw[aa (by simp[Y])];refine a9 ?_;repeat' (intro h<;>simp only[h,go_sem,go_sem_proc,gJ,Ts,pW,uc,bK,b0,ho,iP,Y,eh,aL,dW,cl]<;>try refine av ?_ ?_)
def w3:=cy As λ(s,l,s2,al,cP,bO,cS,b7)=>cT (D l<=1000000/\D al<=1000000/\D bO<=1000000/\D b7<=1000000) (.same (eh (oB ((s,l),(s2,al)) ((cP,bO),(cS,b7)))))
@[go_sem] theorem aow (s:Int)(l:List Int)(s2:Int)(al:List Int)(cP:Int)(bO:List Int)(cS:Int)(b7:List Int)(G:(D l)<=1000000/\D al<=1000000/\D bO<=1000000/\D b7<=1000000):w3 [.agg [.int .i64 s,.af (l.map ad),.int .i64 s2,.af (al.map ad)],.agg [.int .i64 cP,.af (bO.map ad),.int .i64 cS,.af (b7.map ad)]]=some (.same (eh (oB ((s,l),(s2,al)) ((cP,bO),(cS,b7))))):=(cI E7 (s,l,s2,al,cP,bO,cS,b7)).trans (cY G _)
theorem aox (T:bk)(gJ:T nm=aW yO)(yQ:T Er=aW MH)(w4:T z0=aW Cr)(s:Int)(l:List Int)(s2:Int)(al:List Int)(cP:Int)(bO:List Int)(cS:Int)(b7:List Int)(G:(D l)<=1000000/\D al<=1000000/\D bO<=1000000/\D b7<=1000000):WP T Tb (.same (eh (oB ((s,l),(s2,al)) ((cP,bO),(cS,b7))))) [.I (.agg [.int .i64 s,.af (l.map ad),.int .i64 s2,.af (al.map ad)]),.I (.agg [.int .i64 cP,.af (bO.map ad),.int .i64 cS,.af (b7.map ad)])]:=by
 refine cC ?_;simp only[Tb];obtain⟨bK,b0,ho,iP⟩:=G;unfold oB
 by_cases Y:eX ((s,l),(s2,al))=true
 ·by_cases bw:eX ((cP,bO),(cS,b7))=true
  ·have dG:=aot (cP,bO) ho;rw[Z Y,Z bw];dsimp only;generalize sI:jv (cP,bO)=M1 at *;obtain⟨db,dH⟩:=M1;refine a9 ?_;repeat' (intro h<;>simp only[h,go_sem,go_sem_proc,gJ,yQ,w4,bK,b0,ho,iP,Y,bw,sI,dG,ft,cJ,eh,aL]<;>try refine av ?_ ?_)
  ·have bw:eX ((cP,bO),(cS,b7))=false:=by simpa using bw
   rw[Z Y,aa (by simp[bw])];refine a9 ?_;repeat' (intro h<;>simp only[h,go_sem,go_sem_proc,gJ,yQ,w4,bK,b0,ho,iP,Y,bw,eh,aL,dW,cl]<;>try refine av ?_ ?_)
 ·have Y:eX ((s,l),(s2,al))=false:=by simpa using Y
  rw[aa (by simp[Y])];refine a9 ?_;repeat' (intro h<;>simp only[h,go_sem,go_sem_proc,gJ,yQ,w4,bK,b0,ho,iP,Y,eh,aL,dW,cl]<;>try refine av ?_ ?_)
def w5:=cy As λ(s,l,s2,al,cP,bO,cS,b7)=>cT (D l<=1000000/\D al<=1000000/\D bO<=1000000/\D b7<=1000000) (.same (eh (nx ((s,l),(s2,al)) ((cP,bO),(cS,b7)))))
@[go_sem] theorem aoy (s:Int)(l:List Int)(s2:Int)(al:List Int)(cP:Int)(bO:List Int)(cS:Int)(b7:List Int)(G:(D l)<=1000000/\D al<=1000000/\D bO<=1000000/\D b7<=1000000):w5 [.agg [.int .i64 s,.af (l.map ad),.int .i64 s2,.af (al.map ad)],.agg [.int .i64 cP,.af (bO.map ad),.int .i64 cS,.af (b7.map ad)]]=some (.same (eh (nx ((s,l),(s2,al)) ((cP,bO),(cS,b7))))):=(cI E7 (s,l,s2,al,cP,bO,cS,b7)).trans (cY G _)
theorem aoz (T:bk)(gJ:T nm=aW yO)(pW:T tI=aW EY)(uc:T BQ=aW Je)(s:Int)(l:List Int)(s2:Int)(al:List Int)(cP:Int)(bO:List Int)(cS:Int)(b7:List Int)(G:(D l)<=1000000/\D al<=1000000/\D bO<=1000000/\D b7<=1000000):WP T Tc (.same (eh (nx ((s,l),(s2,al)) ((cP,bO),(cS,b7))))) [.I (.agg [.int .i64 s,.af (l.map ad),.int .i64 s2,.af (al.map ad)]),.I (.agg [.int .i64 cP,.af (bO.map ad),.int .i64 cS,.af (b7.map ad)])]:=by
 refine cC ?_;simp only[Tc];obtain⟨bK,b0,ho,iP⟩:=G;unfold nx
 by_cases Y:eX ((s,l),(s2,al))=true
 ·by_cases bw:eX ((cP,bO),(cS,b7))=true
  ·have dG:=Cq (s,l) (cP,bO);have cn:=Cq (s2,al) (cS,b7);rw[Z Y,Z bw];dsimp only;generalize sI:mulR (s,l) (cP,bO)=M1 at *;generalize gI:mulR (s2,al) (cS,b7)=M2 at *;obtain⟨⟨db,dH⟩,aw⟩:=M1;obtain⟨⟨dP,gV⟩,aC⟩:=M2;refine a9 ?_;repeat' (intro h<;>simp only[h,go_sem,go_sem_proc,gJ,pW,uc,bK,b0,ho,iP,Y,bw,sI,gI,dG,cn,ft,cJ,eh,aL]<;>try refine av ?_ ?_)
  ·have bw:eX ((cP,bO),(cS,b7))=false:=by simpa using bw
   rw[Z Y,aa (by simp[bw])];refine a9 ?_;repeat' (intro h<;>simp only[h,go_sem,go_sem_proc,gJ,pW,uc,bK,b0,ho,iP,Y,bw,eh,aL,dW,cl]<;>try refine av ?_ ?_)
 ·have Y:eX ((s,l),(s2,al))=false:=by simpa using Y
  rw[aa (by simp[Y])];refine a9 ?_;repeat' (intro h<;>simp only[h,go_sem,go_sem_proc,gJ,pW,uc,bK,b0,ho,iP,Y,eh,aL,dW,cl]<;>try refine av ?_ ?_)
def Cs:=cy As λ(s,l,s2,al,cP,bO,cS,b7)=>cT (D l<=1000000/\D al<=1000000/\D bO<=1000000/\D b7<=1000000) (.same (eh (jw ((s,l),(s2,al)) ((cP,bO),(cS,b7)))))
@[go_sem] theorem aoA (s:Int)(l:List Int)(s2:Int)(al:List Int)(cP:Int)(bO:List Int)(cS:Int)(b7:List Int)(G:(D l)<=1000000/\D al<=1000000/\D bO<=1000000/\D b7<=1000000):Cs [.agg [.int .i64 s,.af (l.map ad),.int .i64 s2,.af (al.map ad)],.agg [.int .i64 cP,.af (bO.map ad),.int .i64 cS,.af (b7.map ad)]]=some (.same (eh (jw ((s,l),(s2,al)) ((cP,bO),(cS,b7))))):=(cI E7 (s,l,s2,al,cP,bO,cS,b7)).trans (cY G _)
theorem aoB (T:bk)(gJ:T nm=aW yO)(pW:T tI=aW EY)(uc:T BQ=aW Je)(s:Int)(l:List Int)(s2:Int)(al:List Int)(cP:Int)(bO:List Int)(cS:Int)(b7:List Int)(G:(D l)<=1000000/\D al<=1000000/\D bO<=1000000/\D b7<=1000000):WP T Ti (.same (eh (jw ((s,l),(s2,al)) ((cP,bO),(cS,b7))))) [.I (.agg [.int .i64 s,.af (l.map ad),.int .i64 s2,.af (al.map ad)]),.I (.agg [.int .i64 cP,.af (bO.map ad),.int .i64 cS,.af (b7.map ad)])]:=by
 refine cC ?_;simp only[Ti];obtain⟨bK,b0,ho,iP⟩:=G;unfold jw
 by_cases Y:eX ((s,l),(s2,al))=true
 ·by_cases bw:eX ((cP,bO),(cS,b7))=true
  ·rw[Z Y,Z bw];dsimp only;rcases ak:(cP==0)
   ·have dG:=Cq (s,l) (cS,b7);have cn:=Cq (s2,al) (cP,bO);rw[aa (by simp)];generalize sI:mulR (s,l) (cS,b7)=M1 at *;generalize gI:mulR (s2,al) (cP,bO)=M2 at *;obtain⟨⟨db,dH⟩,aw⟩:=M1;obtain⟨⟨dP,gV⟩,aC⟩:=M2;refine a9 ?_;repeat' (intro h<;>simp only[h,go_sem,go_sem_proc,gJ,pW,uc,bK,b0,ho,iP,Y,bw,ak,sI,gI,dG,cn,ft,cJ,eh,aL]<;>try refine av ?_ ?_)
   ·rw[Z rfl];refine a9 ?_;repeat' (intro h<;>simp only[h,go_sem,go_sem_proc,gJ,pW,uc,bK,b0,ho,iP,Y,bw,ak,eh,aL,dW,cl]<;>try refine av ?_ ?_)
  ·have bw:eX ((cP,bO),(cS,b7))=false:=by simpa using bw
   rw[Z Y,aa (by simp[bw])];refine a9 ?_;repeat' (intro h<;>simp only[h,go_sem,go_sem_proc,gJ,pW,uc,bK,b0,ho,iP,Y,bw,eh,aL,dW,cl]<;>try refine av ?_ ?_)
 ·have Y:eX ((s,l),(s2,al))=false:=by simpa using Y
  rw[aa (by simp[Y])];refine a9 ?_;repeat' (intro h<;>simp only[h,go_sem,go_sem_proc,gJ,pW,uc,bK,b0,ho,iP,Y,eh,aL,dW,cl]<;>try refine av ?_ ?_)
def Jf (c:Bool)(v:Rat):bU×Int:=if c=true then (aE v,0) else (dW,6)
def il (z:Int):Bool:=decide (z.natAbs<dI)
def o7 (x y:Rat):Bool:=il (x.num*y.den)&&(il (y.num*x.den)&&(il (x.num*y.den+y.num*x.den)&&il ((x.den:Int)*y.den)))
def yR (x y:Rat):Bool:=il (x.num*y.num)&&il ((x.den:Int)*y.den)
def vm (x y:Rat):Bool:=il (x.num*y.den)&&il ((x.den:Int)*y.num)
theorem At {z:Int}(h:il z=true):rD z=(bE z,0):=Z (by simpa [il] using h)
theorem Au {z:Int}(h:il z=false):rD z=((0,[]),6):=aa (by simpa [il] using h)
theorem pX {z:Int}(h:il z=true):z.natAbs<dI:=by simpa [il] using h
theorem aoC {a b c d:Int}(a1:a.natAbs<dI)(ae:b.natAbs<dI)(G:c.natAbs<dI)(X:d.natAbs<dI):
  vk (bE a) (bE b) (bE c) (bE d)=if (il (a*b)&&(il (c*d)&&il (a*b+c*d)))=true then (bE (a*b+c*d),0) else ((0,[]),6):=by
 unfold vk;rw[Am a1 ae,Am G X];rcases E:il (a*b)
 ·rw[Au E];rfl
 ·rw[At E];rcases H:il (c*d)
  ·rw[Au H];rfl
  ·rw[At H];show rE (bE (a*b)) (bE (c*d))=_;rw[abQ (pX E) (pX H)];rcases ab:il (a*b+c*d)
   ·rw[Au ab];rfl
   ·rw[At ab];rfl
theorem Tt (x y:Rat):lp (x.num*y.den+y.num*x.den) ((x.den:Int)*y.den)=x+y:=by
 rw[<-Rat.divInt_add_divInt _ _ (by have:=den_pos x;omega) (by have:=den_pos y;omega),Cm,Cm]
theorem Tu (x y:Rat):lp (x.num*y.num) ((x.den:Int)*y.den)=x*y:=by
 rw[<-ab5,Cm,Cm]
theorem ab6 (x y:Rat):lp (x.num*y.den) ((x.den:Int)*y.num)=x/y:=by
 rw[<-ab5,Cm,<-Rat.inv_divInt,Cm]
 rfl
theorem w6 (x:Rat):(x.den:Int)≠0:=by have:=den_pos x;omega
theorem ab7 {x y:Rat}(O:dz x)(ao:dz y):vl (aE x) (aE y)=Jf (o7 x y) (x+y):=by
 unfold vl;rw[Z (w0 O),Z (w0 ao)];show ub (vk (bE x.num) (bE y.den) (bE y.num) (bE x.den)) (mulR (bE x.den) (bE y.den))=_;rw[aoC O.1 (vj ao) ao.1 (vj O),Am (vj O) (vj ao)];unfold o7;rcases E:il (x.num*y.den)
 ·rfl
 ·rcases H:il (y.num*x.den)
  ·rfl
  ·rcases ab:il (x.num*y.den+y.num*x.den)
   ·rfl
   ·rcases aM:il ((x.den:Int)*y.den)
    ·rw[Au aM];rfl
    ·rw[At aM];show g8 (bE (x.num*y.den+y.num*x.den)) (bE ((x.den:Int)*y.den))=(aE (x+y),0)
     rw[yP (pX ab) (pX aM) (Av (w6 x) (w6 y)),Tt]
theorem aoD {x:Rat}(h:dz x):dz (-x):=⟨by rw[Rat.neg_num];have:=h.1;omega,by rw[Rat.neg_den];exact h.2⟩
theorem MW {x y:Rat}(O:dz x)(ao:dz y):oB (aE x) (aE y)=Jf (o7 x (-y)) (x-y):=by
 unfold oB;rw[Z (w0 O),Z (w0 ao)]
 have:(jv (aE y).1,(aE y).2)=aE (-y):=by
  unfold aE;have:jv (bE y.num)=bE (-y.num):=by unfold jv;rw[Z (kA ao.1),fs]
  dsimp only;rw[this];rfl
 rw[this,ab7 O (aoD ao),ab8]
theorem Tv {x y:Rat}(O:dz x)(ao:dz y):nx (aE x) (aE y)=Jf (yR x y) (x*y):=by
 unfold nx;rw[Z (w0 O),Z (w0 ao)];show ub (mulR (bE x.num) (bE y.num)) (mulR (bE x.den) (bE y.den))=_;rw[Am O.1 ao.1,Am (vj O) (vj ao)];unfold yR;rcases E:il (x.num*y.num)
 ·rw[Au E];rfl
 ·rw[At E];rcases aM:il ((x.den:Int)*y.den)
  ·rw[Au aM];rfl
  ·rw[At aM];show g8 (bE (x.num*y.num)) (bE ((x.den:Int)*y.den))=(aE (x*y),0)
   rw[yP (pX E) (pX aM) (Av (w6 x) (w6 y)),Tu]
theorem MX {x y:Rat}(O:dz x)(ao:dz y)(ak:y≠0):jw (aE x) (aE y)=Jf (vm x y) (x/y):=by
 unfold jw;rw[Z (w0 O),Z (w0 ao)];have aG:y.num≠0:=λh=>ak (Rat.num_eq_zero.1 h)
 have:((aE y).1.1==0)=false:=by
  show (y.num.sign==0)=false
  simpa using aG
 rw[this,aa (by simp)];show ub (mulR (bE x.num) (bE y.den)) (mulR (bE x.den) (bE y.num))=_;rw[Am O.1 (vj ao),Am (vj O) ao.1];unfold vm;rcases E:il (x.num*y.den)
 ·rw[Au E];rfl
 ·rw[At E];rcases aM:il ((x.den:Int)*y.num)
  ·rw[Au aM];rfl
  ·rw[At aM];show g8 (bE (x.num*y.den)) (bE ((x.den:Int)*y.num))=(aE (x/y),0)
   rw[yP (pX E) (pX aM) (Av (w6 x) aG),ab6]
theorem aoE {x y:Rat}(h:o7 x y=true):dz (x+y):=by
 unfold o7 at h;simp only[e3] at h;rw[<-Tt];exact MU (pX h.2.2.1) (pX h.2.2.2)
theorem ab9 {x y:Rat}(h:o7 x (-y)=true):dz (x-y):=by rw[ab8];exact aoE h
theorem aca {x y:Rat}(h:yR x y=true):dz (x*y):=by
 unfold yR at h;simp only[e3] at h;rw[<-Tu];exact MU (pX h.1) (pX h.2)
theorem aoF {x y:Rat}(h:vm x y=true):dz (x/y):=by
 unfold vm at h;simp only[e3] at h;rw[<-ab6];exact MU (pX h.1) (pX h.2)
def kC (x y:Rat):Int:=(x.num*y.den-y.num*x.den).sign
def qM (a b:bU):Int:=if eX a=true then (if eX b=true then (h6 a.1*h6 b.2-h6 b.1*h6 a.2).sign else 0) else 0
theorem Tw {x y:Rat}(O:dz x)(ao:dz y):qM (aE x) (aE y)=kC x y:=by
 unfold qM;rw[Z (w0 O),Z (w0 ao)];unfold aE kC;rw[fs,fs,fs,fs]
theorem MY {p q:Int}(bd:0<q):0<=p.fmod q/\p.fmod q<q:=⟨Int.fmod_nonneg_of_pos _ bd,Int.fmod_lt_of_pos _ bd⟩
theorem acb {p q r s:Int}(bd:0<q)(Q:0<s)(h:p.fdiv q<r.fdiv s):p*s-r*q<0:=by
 have aw:=MZ p q;have aC:=MZ r s;have dP:=MY (p:=p) bd;have gV:=MY (p:=r) Q;generalize p.fdiv q=x at *;generalize r.fdiv s=y at *;generalize p.fmod q=u at *;generalize r.fmod s=v at *;subst aw aC;have E:q*s*(x+1)<=q*s*y:=Int.mul_le_mul_of_nonneg_left (by omega) (MO (Int.mul_pos bd Q));have H:u*s<q*s:=Int.mul_lt_mul_of_pos_right dP.2 Q;have ab:0<=v*q:=qG gV.1 (by omega);have cx:(q*x+u)*s-(s*y+v)*q=q*s*(x+1)-q*s*y+(u*s-q*s)-v*q:=by grind
 omega
theorem aoG {p q r s:Int}(h:p.fdiv q=r.fdiv s):p*s-r*q=p.fmod q*s-r.fmod s*q:=by
 have aw:=MZ p q;have aC:=MZ r s;rw[h] at aw;generalize r.fdiv s=y at *;generalize p.fmod q=u at *;generalize r.fmod s=v at *;subst aw aC;grind
theorem acd (a b:Int):(a-b).sign = -(b-a).sign:=by rw[<-Ce];congr 1;omega
theorem ace {p q:Int}(aB:p.natAbs<dI)(bd:q.natAbs<dI)(ak:0<q):
  j4 (p.sign,aF p.natAbs) (q.sign,aF q.natAbs)=(((p.fdiv q).sign,aF (p.fdiv q).natAbs),((p.fmod q).sign,aF (p.fmod q).natAbs),0):=Cf aB bd (by omega)
def ud:=cy As λ(s,l,s2,al,cP,bO,cS,b7)=>cT (D l<=1000000/\D al<=1000000/\D bO<=1000000/\D b7<=1000000) (.same (.int .i64 (qM ((s,l),(s2,al)) ((cP,bO),(cS,b7)))))
@[go_sem] theorem acf (s:Int)(l:List Int)(s2:Int)(al:List Int)(cP:Int)(bO:List Int)(cS:Int)(b7:List Int)(G:(D l)<=1000000/\D al<=1000000/\D bO<=1000000/\D b7<=1000000):ud [.agg [.int .i64 s,.af (l.map ad),.int .i64 s2,.af (al.map ad)],.agg [.int .i64 cP,.af (bO.map ad),.int .i64 cS,.af (b7.map ad)]]=some (.same (.int .i64 (qM ((s,l),(s2,al)) ((cP,bO),(cS,b7))))):=(cI E7 (s,l,s2,al,cP,bO,cS,b7)).trans (cY G _)
theorem aoH (T:bk)(gJ:T nm=aW yO)(pU:T BR=aW MN)(w7:T Rf=aW SX)(s:Int)(l:List Int)(s2:Int)(al:List Int)(cP:Int)(bO:List Int)(cS:Int)(b7:List Int)(G:(D l)<=1000000/\D al<=1000000/\D bO<=1000000/\D b7<=1000000):WP T Td (.same (.int .i64 (qM ((s,l),(s2,al)) ((cP,bO),(cS,b7))))) [.I (.agg [.int .i64 s,.af (l.map ad),.int .i64 s2,.af (al.map ad)]),.I (.agg [.int .i64 cP,.af (bO.map ad),.int .i64 cS,.af (b7.map ad)])]:=by
 refine cC ?_;simp only[Td];obtain⟨bK,b0,ho,iP⟩:=G
 by_cases Y:eX ((s,l),(s2,al))=true
 ·by_cases bw:eX ((cP,bO),(cS,b7))=true
  ·obtain⟨x,O,e⟩:=(Ja _).1 Y;obtain⟨y,ao,aC⟩:=(Ja _).1 bw;have hm:qM ((s,l),(s2,al)) ((cP,bO),(cS,b7))=kC x y:=by rw[e,aC,Tw O ao]
   rw[hm];clear hm;have aoI:(s,l)=bE x.num:=congrArg E6 e;have Tx:(s2,al)=bE x.den:=congrArg Prod.snd e;have aoJ:(cP,bO)=bE y.num:=congrArg E6 aC;have aoK:(cS,b7)=bE y.den:=congrArg Prod.snd aC;clear e aC;have jf:=vj O;have vn:=vj ao;have fE:=den_pos x;have iC:=den_pos y;have aoL:=O.1;have Qn:=ao.1;unfold kC;generalize x.num=P at *;generalize (x.den:Int)=aH at *;generalize y.num=bZ at *;generalize (y.den:Int)=S at *
   cases aoI
   cases Tx
   cases aoJ
   cases aoK;simp only[go_sem,go_sem_proc,gJ,pU,w7,bK,b0,ho,iP,Y,bw];refine dE [5,6,7,8] [135002,135003] (λ((qN,p,q,r,t):Int×Int×Int×Int×Int) tm mem=>(qN=1\/qN = -1)/\0<q/\0<t/\p.natAbs<dI/\q.natAbs<dI/\r.natAbs<dI/\t.natAbs<dI/\(P*S-bZ*aH).sign=qN*(p*t-r*q).sign/\tm 9=.I (.int .i64 qN)/\mem 135005=some (0,[.I (.int .i64 p.sign),.I (.af ((aF p.natAbs).map ad))])/\mem 135006=some (0,[.I (.int .i64 q.sign),.I (.af ((aF q.natAbs).map ad))])/\mem 135007=some (0,[.I (.int .i64 r.sign),.I (.af ((aF r.natAbs).map ad))])/\mem 135008=some (0,[.I (.int .i64 t.sign),.I (.af ((aF t.natAbs).map ad))])) (λ(_,_,q,_,_)=>q.natAbs) (1,P,aH,bZ,S) (by refine⟨.inl rfl,fE,iC,aoL,jf,Qn,vn,by rw[nt],rfl,?_,?_,?_,?_⟩<;>rfl) ?_;intro vs ms aV aR;simp only[go_sem,go_sem_proc,gJ,pU,w7] at aV aR;subst aV aR;rintro⟨qN,p,q,r,t⟩ tm mem J hm ⟨Ct,lR,Jg,aB,bd,w8,bJ,hz,iL,Jh,Ji,kD,Cu⟩;simp only[go_sem,go_sem_proc,gJ,pU,w7,bh] at J hm;obtain⟨bl,bI,bC,bW⟩:=J;have Jj:=mT aB;have Jk:=mT bd;have Aw:=mT w8;have lt:=mT bJ;have jM:=ace aB bd lR;have mh:=ace w8 bJ Jg;have acg:=E3 (y:=q) aB (by omega);have Jl:=E3 (y:=t) w8 (by omega);have E8:=mT acg;have Jm:=mT Jl;have gA:vg ((p.fdiv q).sign,aF (p.fdiv q).natAbs) ((r.fdiv t).sign,aF (r.fdiv t).natAbs)=hl (p.fdiv q) (r.fdiv t):=abR acg Jl;have aCE:=MY (p:=p) lR;have bv:=MY (p:=r) Jg;have aoM:IntKind.i64.wrap (0-qN) = -qN:=by rcases Ct with rfl|rfl<;>rfl
   rcases wO (p.fdiv q) (r.fdiv t) with aq|heq|iB
   ·have aI:=acb lR Jg aq;rw[IZ aq] at gA;rw[hz,pQ aI];have hw:IntKind.i64.wrap (qN * -1)=qN * -1:=by rcases Ct with rfl|rfl<;>rfl
    refine a9 ?_;repeat' (intro h<;>simp only[h,go_sem,go_sem_proc,gJ,pU,w7,bl,bI,bC,bW,iL,hm,Jh,Ji,kD,Cu,Jj,Jk,Aw,lt,E8,Jm,jM,mh,gA,hw,gY,cJ,show ((-1:Int)==0)=false from rfl]<;>try refine av ?_ ?_)
   ·have aI:=aoG heq;rw[heq,MJ] at gA
    have e8:∀a:Int,-1<=a->a<=1->IntKind.i64.wrap (qN*a)=qN*a:=by
     intro a E H;rcases Ct with rfl|rfl<;>exact wrap64 _ (by omega) (by omega)
    rw[heq] at jM E8;have aCF:(p.fmod q).natAbs<dI:=by omega
    have aCG:(r.fmod t).natAbs<dI:=by omega
    rw[aI] at hz;generalize p.fmod q=u at *;generalize r.fmod t=v at *
    by_cases hu:u=0
    ·subst hu
     have Q:(0*t-v*q).sign=(0:Int).sign-v.sign:=by
      rw[wX,ach,Ce,pR,jd lR,tO,w9,ach]
     rw[Q] at hz;rw[hz];have ab:=qK v;have Aj:IntKind.i64.wrap ((0:Int).sign-v.sign)=(0:Int).sign-v.sign:=wrap64 _ (by rw[w9];omega) (by rw[w9];omega);have hw:=e8 ((0:Int).sign-v.sign) (by rw[w9];omega) (by rw[w9];omega);refine a9 ?_;repeat' (intro h<;>simp only[h,go_sem,go_sem_proc,gJ,pU,w7,bl,bI,bC,bW,iL,hm,Jh,Ji,kD,Cu,Jj,Jk,Aw,lt,E8,Jm,jM,mh,gA,hw,Aj,gY,cJ,show ((0:Int)==0)=true from rfl,show ((0:Int).sign==0)=true from rfl]<;>try refine av ?_ ?_)
    ·have Cj:0<u:=by omega
     have Ty:(u.sign==0)=false:=by simpa using hu
     by_cases D3:v=0
     ·subst D3
      have Q:(u*t-0*q).sign=u.sign-(0:Int).sign:=by
       rw[wX,II,pR,jd Jg,tO,w9,II]
      rw[Q] at hz;rw[hz];have ab:=qK u;have Aj:IntKind.i64.wrap (u.sign-(0:Int).sign)=u.sign-(0:Int).sign:=wrap64 _ (by rw[w9];omega) (by rw[w9];omega);have hw:=e8 (u.sign-(0:Int).sign) (by rw[w9];omega) (by rw[w9];omega);refine a9 ?_;repeat' (intro h<;>simp only[h,go_sem,go_sem_proc,gJ,pU,w7,bl,bI,bC,bW,iL,hm,Jh,Ji,kD,Cu,Jj,Jk,Aw,lt,E8,Jm,jM,mh,gA,hw,Aj,Ty,gY,cJ,show ((0:Int)==0)=true from rfl,show ((0:Int).sign==0)=true from rfl]<;>try refine av ?_ ?_)
     ·have wi:(v.sign==0)=false:=by simpa using D3
      refine a9 ?_;repeat' (intro h<;>simp only[h,go_sem,go_sem_proc,gJ,pU,w7,bl,bI,bC,bW,iL,hm,Jh,Ji,kD,Cu,Jj,Jk,Aw,lt,E8,Jm,jM,mh,gA,Ty,wi,aoM,gY,cJ,show ((0:Int)==0)=true from rfl]<;>try refine av ?_ ?_)
      refine⟨(-qN,q,u,t,v),by dsimp only;omega,by dsimp only;omega,by dsimp only;omega,by dsimp only;omega,by dsimp only;omega,by dsimp only;omega,by dsimp only;omega,by dsimp only;omega,?_,by simp[go_sem],by simp[go_sem],by simp[go_sem],by simp[go_sem],by simp[go_sem]⟩
      dsimp only;rw[hz,acd (q*v) (t*u),Int.neg_mul_neg,mN t u,mN q v]
   ·have aI:=acb Jg lR iB;rw[I0 iB] at gA;rw[hz,acd,pQ aI];have hw:IntKind.i64.wrap (qN*1)=qN * -(-1):=by rcases Ct with rfl|rfl<;>rfl
    refine a9 ?_;repeat' (intro h<;>simp only[h,go_sem,go_sem_proc,gJ,pU,w7,bl,bI,bC,bW,iL,hm,Jh,Ji,kD,Cu,Jj,Jk,Aw,lt,E8,Jm,jM,mh,gA,hw,gY,cJ,show ((1:Int)==0)=false from rfl]<;>try refine av ?_ ?_)
  ·have bw:eX ((cP,bO),(cS,b7))=false:=by simpa using bw
   have hm:qM ((s,l),(s2,al)) ((cP,bO),(cS,b7))=0:=by unfold qM;rw[Z Y,aa (by simp[bw])]
   rw[hm];refine a9 ?_;repeat' (intro h<;>simp only[h,go_sem,go_sem_proc,gJ,pU,w7,bK,b0,ho,iP,Y,bw]<;>try refine av ?_ ?_)
 ·have Y:eX ((s,l),(s2,al))=false:=by simpa using Y
  have hm:qM ((s,l),(s2,al)) ((cP,bO),(cS,b7))=0:=by unfold qM;rw[aa (by simp[Y])]
  rw[hm];refine a9 ?_;repeat' (intro h<;>simp only[h,go_sem,go_sem_proc,gJ,pU,w7,bK,b0,ho,iP,Y]<;>try refine av ?_ ?_)
def Tz:b1:=cu 22 2 [.t 4] (R [dM 3 108003 1,c5 4 false] (.seq (R [aK 6 1 3,bc 7 .lss 6 0,F 8 7,⟨some 9,some (8,false),.load 1 false (.t 3)⟩,⟨some 10,some (8,false),.bin .gtr (.t 9) (.c (ag 40))⟩,dn 11 8 10,F 12 11,⟨some 13,some (12,false),.b3 (.t 0)⟩,⟨some 14,some (12,false),.len (.t 13)⟩,⟨some 15,some (12,false),.load 1 false (.t 3)⟩,⟨some 16,some (12,false),.bin .neq (.t 14) (.t 15)⟩,dn 17 12 16] (a4 17 (R [c5 4 false] .ret) .skip)) (R [(ax 5 (.alloc 108005 [(.I .tl)])),⟨none,none,.store 1 (.t 5) (.c (.fS mO []))⟩] (R [F 18 0,(ax 19 (.tn z1 [(.t 3),(.t 5)])),(cd 20 Q4 18 19),gi 21 20,F 4 21] .ret))))
def TA:b1:=cu 48 2 [.t 4,.t 5] (R [eH 4,bt 5 0] (.seq (R [F 11 0,F 12 1,(cd 13 Q1 11 12),gi 14 13] (a4 14 (R [eH 4,bt 5 1] .ret) .skip)) (R [F 16 0,F 17 1,(ax 18 (.call Q6 [(.t 16),(.t 17),(.c (.I (.bool true)))])),F 15 18,br 19 0 15,br 20 1 15,F 6 19,F 7 20] (.seq (.block 0 (R [F 22 6,gO 23 22,aT 24 2 23,aK 25 1 24,F 21 25] (a4 21 (R [eH 4,bt 5 6] .ret) (R [F 27 7,cp 28 27,bc 29 .gtr 28 0,F 26 29] (a4 26 (R [eH 4,bt 5 17] .ret) .skip))))) (R [eH 8] (.seq (R [F 30 6,gO 31 30,aT 32 0 31,aK 33 1 32,cp 34 33,bt 35 0] (.block 1 (.ghost (.pz 8 109045 4) (.loop  (R [bB 36 .lss 35 34] (.seq (a4 36 .skip (.exit 1)) (.seq (.block 2 (R [bM 37 1 33 35,aK 38 1 37,F 10 38] (.ops [F 39 8,F 40 10,F 41 1,bM 42 4 40 41,bm 43 4 42,(ax 44 (.e1 109044 false [(ag 0),.nil,(ag 0),.nil] 4 1 [(0,4,(.t 43))])),(ax 45 (.app 109045 [(ag 0),.nil,(ag 0),.nil] 64 (.t 39) (.t 44))),F 8 45]))) (.ops [bc 46 .add 35 1,F 35 46])))))))) (R [F 47 8,F 4 47,bt 5 0] .ret)))))))
def TB:b1:=cu 6 1 [.t 2] (R [dM 1 125001 0,c5 2 false] (R [bm 3 4 1,(dN 4 nm 3),gi 5 4,F 2 5] .ret))
def TC:b1:=cu 22 3 [.t 4] (R [dM 3 127003 0,c5 4 false] (R [aT 5 0 3,aK 6 1 5,cp 7 6,aK 8 1 1,bB 9 .neq 7 8,F 10 9,⟨some 11,some (10,false),.load 1 false (.t 2)⟩,⟨some 12,some (10,false),.et 1 (.t 3)⟩,⟨some 13,some (10,false),.load 4 true (.t 12)⟩,⟨some 14,some (10,false),.lG (.t 11) [(.t 13)]⟩,dn 15 10 14,F 16 15,⟨some 17,some (16,false),.et 0 (.t 3)⟩,⟨some 18,some (16,false),.load 1 false (.t 17)⟩,⟨some 19,some (16,false),.load 1 false (.t 2)⟩,⟨some 20,some (16,false),.call Q5 [(.t 18),(.t 19)]⟩,dn 21 16 20,F 4 21] .ret))
def Jn:b1:=cu 65 3 [.t 6,.t 7] (R [(ax 6 (.b3 (.c (.I .tk)))),eH 7] (R [F 13 1,(ax 14 (.build [.nil,(ag 0),(.I (.bool false))] [(1,1,(.t 13))])),dM 15 129015 14,F 8 15] (.seq (R [F 16 0,cp 17 16,bt 18 0] (.block 0 (.loop  (R [bB 19 .lss 18 17] (.seq (a4 19 .skip (.exit 0)) (.seq (.block 1 (R [bM 20 5 16 18,bm 21 5 20,(ax 10 (.alloc 129010 [.nil,(ag 0),.nil,(ag 0),.nil])),bb 5 10 21] (.mz [F 22 8,F 23 8,gO 24 23,aT 25 0 24,aK 26 1 25,aT 27 0 10,aK 28 1 27,(ax 29 (.nf 129029 4 LY [(.t 28)])),aT 30 1 10,bm 31 4 30,(ax 32 (.e1 129032 false [(ag 0),.nil,(ag 0),.nil] 4 1 [(0,4,(.t 31))])),(ax 33 (.app 129033 [(ag 0),.nil,(ag 0),.nil] 64 (.t 29) (.t 32))),(ax 34 (.e1 129034 true [.nil] 1 1 [(0,1,(.t 33))])),(ax 35 (.app 129035 [.nil] 24 (.t 26) (.t 34))),gO 36 22,aT 37 0 36,bb 1 37 35] [[],[],[],[],[],[],[],[4],[],[7],[],[4],[4],[],[],[],[]]))) (.ghost (.move) (.ops [bc 38 .add 18 1,F 18 38])))))))) (R [eH 11] (.seq (R [bt 12 0] (.block 2 (.ghost (.pz 11 129061 1) (.loop  (.seq (R [F 39 12,F 40 1,bB 41 .lss 39 40,F 42 41,⟨some 43,some (42,true),.b3 (.t 8)⟩,⟨some 44,some (42,true),.q5 (.t 43)⟩,⟨some 45,some (42,true),.et 2 (.t 44)⟩,⟨some 46,some (42,true),.load 1 false (.t 45)⟩,⟨some 47,some (42,true),.un .not (.t 46)⟩,gG 48 42 47] (a4 48 .skip (.exit 2))) (.seq (.block 3 (R [F 51 8,F 52 12,F 53 11,cp 54 53,bB 55 .sub 52 54,F 56 12,(aaP 57 Rd 51 55 56)] (a4 57 (R [F 58 11,F 59 12,(ax 60 (.e1 129060 false [(ag 0)] 1 1 [(0,1,(.t 59))])),(ax 61 (.app 129061 [(ag 0)] 8 (.t 58) (.t 60))),F 11 61] (R [F 62 2] (a4 62 (.exit 2) .skip))) .skip))) (.ops [F 49 12,bc 50 .add 49 1,F 12 50]))))))) (R [F 63 8,F 64 11,F 6 63,F 7 64] .ret))))))
def xa:b1:=cu 172 3 [.t 6] (R [c5 6 false] (R [F 15 1,F 7 15] (.seq (.block 0 (.loop  (.seq (R [F 16 7,F 17 0,gO 18 17,aT 19 1 18,aK 20 1 19,bB 21 .lss 16 20,F 22 21,⟨some 23,some (22,true),.b3 (.t 0)⟩,⟨some 24,some (22,true),.q5 (.t 23)⟩,⟨some 25,some (22,true),.et 0 (.t 24)⟩,⟨some 26,some (22,true),.load 1 false (.t 25)⟩,⟨some 27,some (22,true),.b3 (.t 7)⟩,⟨some 28,some (22,true),.jj 1 (.t 26) (.t 27)⟩,⟨some 29,some (22,true),.load 1 false (.t 28)⟩,⟨some 30,some (22,true),.b3 (.t 2)⟩,⟨some 31,some (22,true),.jj 4 (.t 29) (.t 30)⟩,⟨some 32,some (22,true),.load 4 true (.t 31)⟩,⟨some 33,some (22,true),.call Ik [(.t 32)]⟩,gG 34 22 33] (a4 34 .skip (.exit 0))) (.block 1 (.ops [F 35 7,bc 36 .add 35 1,F 7 36]))))) (.seq (R [F 37 7,F 38 0,gO 39 38,aT 40 1 39,aK 41 1 40,bB 42 .eql 37 41] (a4 42 (R [c5 6 true] .ret) .skip)) (fc [F 43 0,gO 44 43,aT 45 0 44,aK 46 1 45,F 47 1,F 48 0,gO 49 48,aT 50 0 49,aK 51 1 50,F 52 7,F 53 0,gO 54 53,aT 55 0 54,aK 56 1 55,F 57 7,bM 58 1 56 57,aK 59 1 58,F 60 0,gO 61 60,aT 62 0 61,aK 63 1 62,F 64 1,bM 65 1 63 64,aK 66 1 65,bM 67 1 46 47,bb 1 67 59,bM 68 1 51 52,bb 1 68 66] amx (R [F 69 0,gO 70 69,aT 71 0 70,aK 72 1 71,F 73 1,bM 74 1 72 73,aK 75 1 74,F 76 2,bM 77 4 75 76,bm 78 4 77,(ax 8 (.alloc 148008 [(ag 0),.nil,(ag 0),.nil])),bb 4 8 78] (.seq (R [F 79 0,gO 80 79,aT 81 0 80,aK 82 1 81,F 83 1,bM 84 1 82 83,aK 85 1 84,cp 86 85,bt 87 0] (.block 2 (.loop  (R [bB 88 .lss 87 86] (.seq (a4 88 .skip (.exit 2)) (.seq (.block 3 (R [F 89 87,bM 90 4 85 87,bm 91 4 90,(ax 10 (.alloc 148010 [(ag 0),.nil,(ag 0),.nil])),F 9 89,bb 4 10 91] (.mz [F 92 0,gO 93 92,aT 94 0 93,aK 95 1 94,F 96 1,bM 97 1 95 96,aK 98 1 97,F 99 9,F 100 0,bm 101 4 10,bm 102 4 8,(cd 103 BS 101 102),br 104 0 103,br 105 1 103,(ax 106 (.lH 2 z2 [(.t 100),(.t 104),(.t 105)])),bM 107 4 98 99,bb 4 107 106] [[],[],[],[],[],[],[],[],[],[],[],[],[],[],[3,6],[],[]]))) (.ops [bc 108 .add 87 1,F 87 108]))))))) (.seq (R [F 109 0,gO 110 109,aT 111 0 110,aK 112 1 111,cp 113 112,bt 114 0] (.block 4 (.loop  (R [bB 115 .lss 114 113] (.seq (a4 115 .skip (.exit 4)) (.seq (.block 5 (R [F 116 114,bM 117 1 112 114,aK 118 1 117,F 11 116,F 12 118] (R [F 119 12,F 120 2,bM 121 4 119 120,bm 122 4 121,(ax 13 (.alloc 148013 [(ag 0),.nil,(ag 0),.nil])),bb 4 13 122] (.seq (R [F 123 11,F 124 1,bB 125 .eql 123 124,F 126 125,⟨some 127,some (126,false),.load 4 true (.t 13)⟩,⟨some 128,some (126,false),.call Ik [(.t 127)]⟩,dn 129 126 128] (a4 129 (.exit 5) .skip)) (R [bt 14 0] (.block 6 (.loop  (.seq (R [F 130 14,F 131 12,cp 132 131,bB 133 .lss 130 132,F 134 133,⟨some 135,some (134,true),.b3 (.t 0)⟩,⟨some 136,some (134,true),.q5 (.t 135)⟩,⟨some 137,some (134,true),.et 2 (.t 136)⟩,⟨some 138,some (134,true),.load 1 false (.t 137)⟩,⟨some 139,some (134,true),.un .not (.t 138)⟩,gG 140 134 139] (a4 140 .skip (.exit 6))) (.seq (.block 7 (.mz [F 143 12,F 144 14,F 145 0,F 146 12,F 147 14,bM 148 4 146 147,bm 149 4 148,F 150 0,bm 151 4 13,F 152 0,gO 153 152,aT 154 0 153,aK 155 1 154,F 156 1,bM 157 1 155 156,aK 158 1 157,F 159 14,bM 160 4 158 159,bm 161 4 160,(cd 162 u4 151 161),br 163 0 162,br 164 1 162,(ax 165 (.lH 2 z2 [(.t 150),(.t 163),(.t 164)])),(cd 166 tH 149 165),br 167 0 166,br 168 1 166,(ax 169 (.lH 2 z2 [(.t 145),(.t 167),(.t 168)])),bM 170 4 143 144,bb 4 170 169] [[],[],[],[],[],[],[],[],[],[],[],[],[],[],[],[],[],[],[],[],[],[],[6],[],[],[],[],[],[]])) (.ops [F 141 14,bc 142 .add 141 1,F 14 142])))))))))) (.ops [bc 171 .add 114 1,F 114 171]))))))) (R [c5 6 false] .ret)))))))))
def TD:b1:=cu 7 1 [.t 2] (R [dM 1 167001 0,c5 2 false] (R [aT 3 0 1,aT 4 0 3,aK 5 1 4,bc 6 .eql 5 0,F 2 6] .ret))
def M0:b1:=cu 19 3 [.cell 6 4 true] (R [dM 4 168004 1,(ax 6 (.alloc 168006 [(ag 0),.nil,(ag 0),.nil]))] (R [F 7 0,F 8 0,gO 9 8,aT 10 2 9,aK 11 1 10,F 12 11,⟨some 13,some (12,false),.b3 (.t 2)⟩,⟨some 14,some (12,false),.bin .neq (.t 13) (.c (ag 0))⟩,dn 15 12 14,gO 16 7,aT 17 2 16,bb 1 17 15] (R [bm 18 4 4,bb 4 6 18] .ret)))
def Cv:b1:=cu 92 2 [.cell 4 3 true,.t 5] (R [(ax 4 (.alloc 217004 [.nil,.nil,.nil])),bt 5 0] (.seq (R [F 15 0,F 16 1,(cd 17 Rn 15 16),gi 18 17] (a4 18 (R [(ax 19 (.build [.nil,.nil,.nil] [])),bb 3 4 19,bt 5 1] .ret) .skip)) (R [F 20 0,F 21 1,(cd 22 Ro 20 21),F 6 22] (R [(ax 7 (.alloc 217007 [.nil,.nil,.nil]))] (.seq (.block 0 (.loop  (.block 1 (R [F 24 6,(dN 25 L5 24),F 23 25,br 26 0 23,br 27 1 23,(ax 8 (.alloc 217008 [.nil])),bb 1 8 26,F 9 27] (.seq (R [F 28 9,gi 29 28] (a4 29 (R [(ax 30 (.build [.nil,.nil,.nil] [])),bb 3 4 30,bt 5 6] .ret) .skip)) (R [eH 10] (.seq (R [F 31 6,cp 32 31,bt 33 0] (.block 2 (.ghost (.pz 10 217057 1) (.loop  (R [bB 34 .lss 33 32] (.seq (a4 34 .skip (.exit 2)) (.seq (.block 3 (R [F 35 33,bM 36 1 31 33,aK 37 1 36,(ax 11 (.alloc 217011 [(ag 0)])),bb 1 11 35,F 12 37] (.seq (fc [aK 38 1 8,aK 39 1 11,bM 40 4 38 39,bm 41 4 40,F 42 12,F 43 12,gO 44 43,aT 45 22 44,aK 46 1 45,gO 47 42,aT 48 11 47,(ax 49 (.oe 11 1 (.t 48) (.t 46))),aK 50 1 49,(dN 51 ox 50),(cd 52 nn 41 51),bc 53 .geq 52 0] Ew (a4 53 (.exit 3) .skip)) (R [F 54 10,aK 55 1 11,(ax 56 (.e1 217056 false [(ag 0)] 1 1 [(0,1,(.t 55))])),(ax 57 (.app 217057 [(ag 0)] 8 (.t 54) (.t 56))),F 10 57] (.ops [F 58 12,F 59 12,gO 60 59,aT 61 11 60,(ax 62 (.r5 11 1 (.t 61) (some (.c (ag 1))) none none)),(ax 63 (.tn Iq [(.t 8),(.t 11)])),(cd 64 BV 62 63),gO 65 58,aT 66 22 65,bb 1 66 64]))))) (.ops [bc 67 .add 33 1,F 33 67])))))))) (.seq (R [F 68 10,cp 69 68,bc 70 .eql 69 0] (a4 70 (R [aK 71 1 8,aT 72 0 7,bb 1 72 71] (.exit 0)) .skip)) (.ghost (.freeze 10) (.ops [aT 73 2 7,aK 74 1 73,F 75 10,(ax 76 (.e1 217076 false [.nil] 1 1 [(0,1,(.t 75))])),(ax 77 (.app 217077 [.nil] 24 (.t 74) (.t 76))),aT 78 2 7,bb 1 78 77])))))))))) (.seq (.ghost (.many) (.ops [F 80 1,aT 81 0 7,aK 82 1 81,(cd 83 Rp 80 82),F 79 83,br 84 0 79,br 85 1 79,F 13 84,F 14 85])) (.seq (R [F 86 14,gi 87 86] (a4 87 (R [(ax 88 (.build [.nil,.nil,.nil] [])),bb 3 4 88,bt 5 6] .ret) .skip)) (R [F 89 13,aT 90 1 7,bb 1 90 89] (R [bm 91 3 7,bb 3 4 91,bt 5 0] .ret)))))))))
def TE:b1:=cu 32 2 [.t 4] (R [c5 4 false] (R [F 9 0,cp 10 9,(ax 5 (.alloc 227005 [(ag 0)])),bb 1 5 10] (R [(ax 6 (.alloc 227006 [(.I .tl)])),⟨none,none,.store 1 (.t 6) (.c (.fS tM []))⟩] (R [(ax 11 (.tn Ir [(.t 6)])),F 7 11] (R [(ax 12 (.tn Is [(.t 6),(.t 5)])),F 8 12] (R [aK 13 1 5,bc 14 .leq 13 60,F 15 14,⟨some 16,some (15,true),.b3 (.t 1)⟩,⟨some 17,some (15,true),.len (.t 16)⟩,⟨some 18,some (15,true),.bin .leq (.t 17) (.c (ag 2000))⟩,gG 19 15 18,F 20 19,⟨some 21,some (20,true),.b3 (.t 0)⟩,⟨some 22,some (20,true),.b3 (.t 7)⟩,⟨some 23,some (20,true),.call It [(.t 21),(.t 22)]⟩,⟨some 24,some (20,true),.un .not (.t 23)⟩,gG 25 20 24,F 26 25,⟨some 27,some (26,true),.b3 (.t 1)⟩,⟨some 28,some (26,true),.b3 (.t 8)⟩,⟨some 29,some (26,true),.call Iu [(.t 27),(.t 28)]⟩,⟨some 30,some (26,true),.un .not (.t 29)⟩,gG 31 26 30,F 4 31] .ret))))))
def Ax:b1:=cu 73 2 [.t 4] (R [eH 4] (R [eH 5] (.seq (R [F 12 0,cp 13 12,bt 14 0] (.block 0 (.ghost (.pz 5 228023 1) (.loop  (R [bB 15 .lss 14 13] (.seq (a4 15 .skip (.exit 0)) (.seq (.block 1 (R [bM 16 1 12 14,aK 17 1 16,F 7 17] (.ops [F 18 5,F 19 7,(ax 20 (.build [(ag 0),.nil,.nil,.nil,.nil,.nil,.nil,.nil,.nil,.nil,.nil,(ag 0),(ag 0),(ag 0),(ag 0),(ag 0),(ag 0),(ag 0),(ag 0),(ag 0),(ag 0),(ag 0),(ag 0),(.I (.bool false))] [(0,1,(.t 19)),(22,1,(.c (ag 10)))])),dM 21 228021 20,(ax 22 (.e1 228022 true [(.I .tk)] 1 1 [(0,1,(.t 21))])),(ax 23 (.app 228023 [(.I .tk)] 8 (.t 18) (.t 22))),F 5 23]))) (.ghost (.many) (.ops [bc 24 .add 14 1,F 14 24]))))))))) (.seq (R [F 25 1,cp 26 25,bt 27 0] (.block 2 (.loop  (R [bB 28 .lss 27 26] (.seq (a4 28 .skip (.exit 2)) (.seq (.block 3 (R [bM 29 4 25 27,bm 30 4 29,(ax 9 (.alloc 228009 [(ag 0),(ag 0),(ag 0),(ag 0)])),bb 4 9 30] (R [F 31 5,aT 32 0 9,aK 33 1 32,bM 34 1 31 33,aK 35 1 34,F 10 35] (fc [F 36 10,aT 37 2 9,aK 38 1 37,F 39 10,aT 40 2 9,aK 41 1 40,gO 42 39,aT 43 1 42,(ax 44 (.oe 10 1 (.t 43) (.t 41))),aK 45 1 44,bm 46 4 9,(ax 47 (.e1 228047 false [(ag 0),(ag 0),(ag 0),(ag 0)] 4 1 [(0,4,(.t 46))])),(ax 48 (.app 228048 [(ag 0),(ag 0),(ag 0),(ag 0)] 32 (.t 45) (.t 47))),gO 49 36,aT 50 1 49,(ax 51 (.oe 10 1 (.t 50) (.t 38))),bb 1 51 48] [[],[],[],[],[],[],[],[],[],[],[],[],[2],[],[],[],[]] (.seq (.ghost (.many) (.ops [aT 52 2 9,aK 53 1 52,bc 54 .add 53 1,F 11 54])) (.block 4 (.loop  (.seq (R [F 55 11,bc 56 .leq 55 10] (a4 56 .skip (.exit 4))) (.seq (.block 5 (.mz [F 59 10,F 60 11,gO 61 59,aT 62 11 61,(ax 63 (.oe 11 1 (.t 62) (.t 60))),aK 64 1 63,aT 65 3 9,aK 66 1 65,bB 67 .add 64 66,gO 68 59,aT 69 11 68,(ax 70 (.oe 11 1 (.t 69) (.t 60))),bb 1 70 67] L8)) (.ops [F 57 11,bc 58 .add 57 1,F 11 58])))))))))) (.ops [bc 71 .add 27 1,F 27 71]))))))) (.seq (.ghost (.many) (.ops [F 72 5,F 4 72])) .ret)))))
def E9:b1:=cu 72 1 [.t 2,.t 3] (R [eH 2,c5 3 false] (.seq (R [F 11 0,cp 12 11,bt 13 0] (.block 0 (.loop  (R [bB 14 .lss 13 12] (.seq (a4 14 .skip (.exit 0)) (.seq (.block 1 (R [bM 15 1 11 13,aK 16 1 15,F 5 16] (.ops [F 17 5,gO 18 17,aT 19 23 18,⟨none,none,.store 1 (.t 19) (.c (.I (.bool false)))⟩]))) (.ops [bc 20 .add 13 1,F 13 20]))))))) (.block 2 (.loop  (.block 3 (R [F 22 0,(dN 23 Rr 22),F 21 23,br 24 0 21,br 25 1 21,F 6 24,F 7 25] (.seq (R [F 26 7,gi 27 26] (a4 27 (R [eH 2,c5 3 false] .ret) .skip)) (R [c5 8 false] (.seq (R [F 28 0,cp 29 28,bt 30 0] (.block 4 (.loop  (R [bB 31 .lss 30 29] (.seq (a4 31 .skip (.exit 4)) (.seq (.block 5 (R [F 32 30,bM 33 1 28 30,aK 34 1 33,F 9 32,F 10 34] (fc [F 35 10,gO 36 35,aT 37 22 36,aK 38 1 37,bc 39 .lss 38 10,F 40 39,⟨some 41,some (40,true),.b3 (.t 10)⟩,⟨some 42,some (40,true),.q5 (.t 41)⟩,⟨some 43,some (40,true),.et 23 (.t 42)⟩,⟨some 44,some (40,true),.load 1 false (.t 43)⟩,⟨some 45,some (40,true),.un .not (.t 44)⟩,gG 46 40 45,F 47 46,⟨some 48,some (47,true),.b3 (.t 6)⟩,⟨some 49,some (47,true),.b3 (.t 9)⟩,⟨some 50,some (47,true),.jj 4 (.t 48) (.t 49)⟩,⟨some 51,some (47,true),.load 4 true (.t 50)⟩,⟨some 52,some (47,true),.b3 (.t 10)⟩,⟨some 53,some (47,true),.b3 (.t 10)⟩,⟨some 54,some (47,true),.q5 (.t 53)⟩,⟨some 55,some (47,true),.et 22 (.t 54)⟩,⟨some 56,some (47,true),.load 1 false (.t 55)⟩,⟨some 57,some (47,true),.q5 (.t 52)⟩,⟨some 58,some (47,true),.et 11 (.t 57)⟩,⟨some 59,some (47,true),.oe 11 1 (.t 58) (.t 56)⟩,⟨some 60,some (47,true),.load 1 false (.t 59)⟩,⟨some 61,some (47,true),.call ox [(.t 60)]⟩,⟨some 62,some (47,true),.call nn [(.t 51),(.t 61)]⟩,⟨some 63,some (47,true),.bin .gtr (.t 62) (.c (ag 0))⟩,gG 64 47 63] amy (a4 64 (.ops [F 65 10,gO 66 65,aT 67 23 66,⟨none,none,.store 1 (.t 67) (.c (.I (.bool true)))⟩,c5 8 true]) .skip)))) (.ops [bc 68 .add 30 1,F 30 68]))))))) (R [F 69 8,gi 70 69] (a4 70 (R [F 71 6,F 2 71,c5 3 true] .ret) .skip)))))))))))
def TF:b1:=cu 11 1 [.cell 2 4 true] (R [(ax 2 (.alloc 230002 [(ag 0),.nil,(ag 0),.nil]))] (R [F 6 0,(ax 7 (.call BP [(.t 6),(.c (ag 1))])),F 5 7,br 8 0 5,br 9 1 5,(ax 3 (.alloc 230003 [(ag 0),.nil,(ag 0),.nil])),bb 4 3 8,F 4 9] (R [bm 10 4 3,bb 4 2 10] .ret)))
def TG:b1:=cu 13 3 [.t 4] (R [c5 4 false] (fc [aK 5 1 1,aK 6 1 2,bM 7 4 5 6,bm 8 4 7,F 9 0,(dN 10 ox 9),(cd 11 nn 8 10),bc 12 .lss 11 0,F 4 12] RE .ret))
def Cw:b1:=cu 96 2 [.t 4,.t 5] (R [eH 4,c5 5 false] (R [F 17 1,cp 18 17,(ax 19 (.lF 233019 [.nil] 24 (.t 18) (.t 18))),F 6 19] (R [F 20 1,cp 21 20,(ax 22 (.lF 233022 [.nil] 24 (.t 21) (.t 21))),F 7 22] (.seq (R [F 23 0,cp 24 23,bt 25 0] (.block 0 (.loop  (R [bB 26 .lss 25 24] (.seq (a4 26 .skip (.exit 0)) (.seq (.block 1 (R [F 27 25,bM 28 4 23 25,bm 29 4 28,(ax 9 (.alloc 233009 [(ag 0),(ag 0),(ag 0),(ag 0)])),F 8 27,bb 4 9 29] (.mz [F 30 6,aT 31 0 9,aK 32 1 31,F 33 7,aT 34 0 9,aK 35 1 34,F 36 6,aT 37 0 9,aK 38 1 37,bM 39 1 36 38,aK 40 1 39,bm 41 4 9,(ax 42 (.e1 233042 false [(ag 0),(ag 0),(ag 0),(ag 0)] 4 1 [(0,4,(.t 41))])),(ax 43 (.app 233043 [(ag 0),(ag 0),(ag 0),(ag 0)] 32 (.t 40) (.t 42))),F 44 7,aT 45 0 9,aK 46 1 45,bM 47 1 44 46,aK 48 1 47,F 49 8,(ax 50 (.e1 233050 false [(ag 0)] 1 1 [(0,1,(.t 49))])),(ax 51 (.app 233051 [(ag 0)] 8 (.t 48) (.t 50))),bM 52 1 30 32,bb 1 52 43,bM 53 1 33 35,bb 1 53 51] [[],[],[],[],[],[],[],[],[],[],[],[],[],[2,5],[],[],[13],[],[13],[],[],[2,5],[],[5],[],[]]))) (.ghost (.many) (.ops [bc 54 .add 25 1,F 25 54])))))))) (.seq (.ghost (.many) (.ops [F 55 0,cp 56 55,(ax 57 (.lF 233057 [(ag 0),.nil,(ag 0),.nil] 64 (.t 56) (.t 56))),F 10 57])) (.seq (R [F 58 6,cp 59 58,bt 60 0] (.block 2 (.loop  (R [bB 61 .lss 60 59] (.seq (a4 61 .skip (.exit 2)) (.seq (.block 3 (R [F 62 60,bM 63 1 58 60,aK 64 1 63,F 11 62,F 12 64] (R [F 66 1,F 67 11,bM 68 4 66 67,bm 69 4 68,F 70 12,(cd 71 Rs 69 70),F 65 71,br 72 0 65,br 73 1 65,F 13 72,F 14 73] (.seq (R [F 74 14,bc 75 .neq 74 0] (a4 75 (R [eH 4,c5 5 false] .ret) .skip)) (R [F 76 7,F 77 11,bM 78 1 76 77,aK 79 1 78,cp 80 79,bt 81 0] (.block 4 (.loop  (R [bB 82 .lss 81 80] (.seq (a4 82 .skip (.exit 4)) (.seq (.block 5 (R [F 83 81,bM 84 1 79 81,aK 85 1 84,F 15 83,F 16 85] (.ops [F 86 10,F 87 16,F 88 13,F 89 15,bM 90 4 88 89,bm 91 4 90,bM 92 4 86 87,bb 4 92 91]))) (.ops [bc 93 .add 81 1,F 81 93]))))))))))) (.ops [bc 94 .add 60 1,F 60 94]))))))) (.seq (.ghost (.freeze 10) (.ops [F 95 10,F 4 95,c5 5 true])) .ret)))))))
def TH:b1:=cu 15 3 [.t 6] (R [c5 6 false] (R [F 7 0,F 8 1,bB 9 .geq 7 8,F 10 9,⟨some 11,some (10,true),.b3 (.t 0)⟩,⟨some 12,some (10,true),.b3 (.t 2)⟩,⟨some 13,some (10,true),.bin .leq (.t 11) (.t 12)⟩,gG 14 10 13,F 6 14] .ret))
def TI:b1:=cu 8 2 [.t 3] (R [c5 3 false] (R [aK 4 1 1,F 5 0,(ax 6 (.lG (.t 4) [(.t 5),(.c (ag 0)),(.c (ag 1000000000000000))])),gi 7 6,F 3 7] .ret))
def TJ:b1:=cu 35 3 [.t 4] (R [dM 3 245003 0,c5 4 false] (R [aK 5 1 1,aT 6 0 3,aK 7 1 6,aK 8 1 2,bc 9 .sub 8 1,(ax 10 (.lG (.t 5) [(.t 7),(.c (ag 0)),(.t 9)])),gi 11 10,F 12 11,⟨some 13,some (12,false),.load 1 false (.t 1)⟩,⟨some 14,some (12,false),.et 1 (.t 3)⟩,⟨some 15,some (12,false),.load 1 false (.t 14)⟩,⟨some 16,some (12,false),.load 1 false (.t 2)⟩,⟨some 17,some (12,false),.bin .sub (.t 16) (.c (ag 1))⟩,⟨some 18,some (12,false),.lG (.t 13) [(.t 15),(.c (.I (.int .i64 (-1)))),(.t 17)]⟩,⟨some 19,some (12,false),.un .not (.t 18)⟩,dn 20 12 19,F 21 20,⟨some 22,some (21,false),.load 1 false (.t 1)⟩,⟨some 23,some (21,false),.et 2 (.t 3)⟩,⟨some 24,some (21,false),.load 1 false (.t 23)⟩,⟨some 25,some (21,false),.lG (.t 22) [(.t 24),(.c (ag 0)),(.c (ag 9))]⟩,⟨some 26,some (21,false),.un .not (.t 25)⟩,dn 27 21 26,F 28 27,⟨some 29,some (28,false),.load 1 false (.t 1)⟩,⟨some 30,some (28,false),.et 3 (.t 3)⟩,⟨some 31,some (28,false),.load 1 false (.t 30)⟩,⟨some 32,some (28,false),.lG (.t 29) [(.t 31),(.c (ag 0)),(.c (ag 1000000000000000))]⟩,⟨some 33,some (28,false),.un .not (.t 32)⟩,dn 34 28 33,F 4 34] .ret))
def ue:b1:=cu 159 1 [.t 2,.t 3] (R [eH 2,c5 3 false] (R [F 26 0,cp 27 26,F 4 27] (R [F 28 4,(ax 29 (.lF 248029 [(ag 0)] 8 (.t 28) (.t 28))),F 5 29] (R [eH 6] (R [eH 7] (.seq (R [F 30 0,cp 31 30,bt 32 0] (.block 0 (.ghost (.pz 6 248094 1) (.ghost (.pz 7 248098 1) (.loop  (R [bB 33 .lss 32 31] (.seq (a4 33 .skip (.exit 0)) (.seq (.block 1 (R [F 34 32,bM 35 1 30 32,aK 36 1 35,F 8 34,F 9 36] (fc [F 37 5,F 38 8,bM 39 1 37 38,aK 40 1 39,F 41 9,gO 42 41,aT 43 0 42,aK 44 1 43,bB 45 .add 40 44,bM 46 1 37 38,bb 1 46 45] z4 (.seq (R [F 47 9,gO 48 47,aT 49 22 48,aK 50 1 49,bt 51 0] (.block 2 (.loop  (R [bB 52 .lss 51 50] (.seq (a4 52 .skip (.exit 2)) (.seq (.block 3 (R [F 53 51,F 10 53] (R [F 54 9,F 55 10,gO 56 54,aT 57 1 56,(ax 58 (.oe 10 1 (.t 57) (.t 55))),aK 59 1 58,cp 60 59,bt 61 0] (.block 4 (.loop  (R [bB 62 .lss 61 60] (.seq (a4 62 .skip (.exit 4)) (.seq (.block 5 (R [bM 63 4 59 61,bm 64 4 63,(ax 12 (.alloc 248012 [(ag 0),(ag 0),(ag 0),(ag 0)])),bb 4 12 64] (R [aT 65 1 12,aK 66 1 65,bc 67 .geq 66 0] (a4 67 (.mz [F 68 5,aT 69 1 12,aK 70 1 69,bM 71 1 68 70,aK 72 1 71,aT 73 3 12,aK 74 1 73,bB 75 .add 72 74,bM 76 1 68 70,bb 1 76 75] L7) .skip)))) (.ops [bc 77 .add 61 1,F 61 77]))))))))) (.ops [bc 78 .add 51 1,F 51 78]))))))) (R [F 79 9,gO 80 79,aT 81 23 80,aK 82 1 81] (a4 82 (R [F 84 9,F 85 4,(cd 86 L6 84 85),F 83 86,br 87 0 83,br 88 1 83,F 13 87,F 14 88] (.seq (R [F 89 14,gi 90 89] (a4 90 (R [eH 2,c5 3 false] .ret) .skip)) (.ops [F 91 6,F 92 8,(ax 93 (.e1 248093 false [(ag 0)] 1 1 [(0,1,(.t 92))])),(ax 94 (.app 248094 [(ag 0)] 8 (.t 91) (.t 93))),F 95 7,F 96 13,(ax 97 (.e1 248097 false [.nil] 1 1 [(0,1,(.t 96))])),(ax 98 (.app 248098 [.nil] 24 (.t 95) (.t 97))),F 6 94,F 7 98]))) .skip)))))) (.ops [bc 99 .add 32 1,F 32 99]))))))))) (.seq (.ghost (.freeze 5) (.ghost (.freeze 6) (.ghost (.freeze 7) (.ops [F 101 0,F 102 5,F 103 6,F 104 7,(Iy 105 Ru 101 102 103 104),F 100 105,br 106 0 100,br 107 1 100,F 15 106,F 16 107])))) (.seq (R [F 108 16,gi 109 108] (a4 109 (R [eH 2,c5 3 false] .ret) .skip)) (R [eH 17] (.seq (R [F 110 5,cp 111 110,bt 112 0] (.block 6 (.ghost (.pz 17 248156 4) (.loop  (R [bB 113 .lss 112 111] (.seq (a4 113 .skip (.exit 6)) (.seq (.block 7 (R [F 114 112,bM 115 1 110 112,aK 116 1 115,F 18 114,F 19 116] (R [F 117 19,(dN 118 ox 117),(ax 20 (.alloc 248020 [(ag 0),.nil,(ag 0),.nil])),bb 4 20 118] (.seq (R [F 119 6,cp 120 119,bt 121 0] (.block 8 (.loop  (R [bB 122 .lss 121 120] (.seq (a4 122 .skip (.exit 8)) (.seq (.block 9 (R [F 123 121,F 21 123] (fc [F 125 7,F 126 21,bM 127 1 125 126,aK 128 1 127,F 129 18,bM 130 4 128 129,bm 131 4 130,F 132 15,F 133 21,bM 134 4 132 133,bm 135 4 134,(cd 136 u4 131 135),F 124 136,br 137 0 124,br 138 1 124,(ax 22 (.alloc 248022 [(ag 0),.nil,(ag 0),.nil])),bb 4 22 137,F 23 138] [[],[],[],[],[],[],[],[],[],[],[],[],[],[],[],[3,6,10],[],[]] (R [bm 140 4 20,bm 141 4 22,(cd 142 z0 140 141),F 139 142,br 143 0 139,br 144 1 139,(ax 24 (.alloc 248024 [(ag 0),.nil,(ag 0),.nil])),bb 4 24 143,F 25 144] (.seq (R [F 145 23,bc 146 .neq 145 0,F 147 146,⟨some 148,some (147,false),.b3 (.t 25)⟩,⟨some 149,some (147,false),.bin .neq (.t 148) (.c (ag 0))⟩,dn 150 147 149] (a4 150 (R [eH 2,c5 3 false] .ret) .skip)) (.ops [bm 151 4 24,bb 4 20 151])))))) (.ops [bc 152 .add 121 1,F 121 152]))))))) (.ops [F 153 17,bm 154 4 20,(ax 155 (.e1 248155 false [(ag 0),.nil,(ag 0),.nil] 4 1 [(0,4,(.t 154))])),(ax 156 (.app 248156 [(ag 0),.nil,(ag 0),.nil] 64 (.t 153) (.t 155))),F 17 156]))))) (.ops [bc 157 .add 112 1,F 112 157])))))))) (.seq (.ghost (.freeze 17) (.ops [F 158 17,F 2 158,c5 3 true])) .ret)))))))))))
def M3:b1:=cu 88 2 [.t 4,.t 5] (R [eH 4,c5 5 false] (R [(ax 14 (.call ox [(.c (ag 0))])),(ax 15 (.e1 255015 false [(ag 0),.nil,(ag 0),.nil] 4 1 [(0,4,(.t 14))])),F 16 1,(ax 17 (.nf 255017 4 Q7 [(.t 15),(.t 16)])),F 6 17] (R [c5 7 true] (.seq (fc [F 18 0,F 19 0,gO 20 19,aT 21 22 20,aK 22 1 21,gO 23 18,aT 24 1 23,(ax 25 (.oe 10 1 (.t 24) (.t 22))),aK 26 1 25,cp 27 26,bt 28 0] z4 (.block 0 (.loop  (R [bB 29 .lss 28 27] (.seq (a4 29 .skip (.exit 0)) (.seq (.block 1 (R [bM 30 4 26 28,bm 31 4 30,(ax 9 (.alloc 255009 [(ag 0),(ag 0),(ag 0),(ag 0)])),bb 4 9 31] (.seq (R [aT 32 1 9,aK 33 1 32,bc 34 .lss 33 0] (a4 34 (.exit 1) .skip)) (fc [aT 36 3 9,aK 37 1 36,F 38 0,F 39 0,gO 40 39,aT 41 22 40,aK 42 1 41,bc 43 .add 42 1,gO 44 38,aT 45 11 44,(ax 46 (.oe 11 1 (.t 45) (.t 43))),aK 47 1 46,F 48 0,F 49 0,gO 50 49,aT 51 22 50,aK 52 1 51,gO 53 48,aT 54 11 53,(ax 55 (.oe 11 1 (.t 54) (.t 52))),aK 56 1 55,bB 57 .sub 47 56,(cd 58 BP 37 57),F 35 58,br 59 0 35,br 60 1 35,(ax 10 (.alloc 255010 [(ag 0),.nil,(ag 0),.nil])),bb 4 10 59,F 11 60] [[],[],[],[],[],[],[],[],[],[],[],[],[],[],[],[],[],[],[],[],[],[],[],[],[],[],[1,6,11,16,20],[],[]] (fc [F 62 6,aT 63 1 9,aK 64 1 63,bM 65 4 62 64,bm 66 4 65,bm 67 4 10,(cd 68 z0 66 67),F 61 68,br 69 0 61,br 70 1 61,(ax 12 (.alloc 255012 [(ag 0),.nil,(ag 0),.nil])),bb 4 12 69,F 13 70] [[],[],[],[],[],[],[],[],[],[],[2,4,5],[],[]] (R [F 71 7,F 72 71,⟨some 73,some (72,true),.b3 (.t 11)⟩,⟨some 74,some (72,true),.bin .eql (.t 73) (.c (ag 0))⟩,gG 75 72 74,F 76 75,⟨some 77,some (76,true),.b3 (.t 13)⟩,⟨some 78,some (76,true),.bin .eql (.t 77) (.c (ag 0))⟩,gG 79 76 78,F 7 79] (.ops [F 80 6,aT 81 1 9,aK 82 1 81,bm 83 4 12,bM 84 4 80 82,bb 4 84 83]))))))) (.ops [bc 85 .add 28 1,F 28 85]))))))) (.seq (.ghost (.freeze 6) (.ops [F 86 6,F 87 7,F 4 86,F 5 87])) .ret)))))
def Fa:b1:=cu 94 4 [.t 8,.t 9] (R [eH 8,c5 9 false] (R [eH 10] (.seq (R [F 20 2,cp 21 20,bt 22 0] (.block 0 (.ghost (.pz 10 256082 5) (.loop  (R [bB 23 .lss 22 21] (.seq (a4 23 .skip (.exit 0)) (.seq (.block 1 (R [F 24 22,bM 25 1 20 22,aK 26 1 25,F 11 24,F 12 26] (fc [F 27 1,F 28 12,bM 29 1 27 28,aK 30 1 29,F 31 0,F 32 12,bM 33 1 31 32,aK 34 1 33,F 35 0,F 36 12,bM 37 1 35 36,aK 38 1 37,gO 39 38,aT 40 22 39,aK 41 1 40,gO 42 34,aT 43 11 42,(ax 44 (.oe 11 1 (.t 43) (.t 41))),aK 45 1 44,bB 46 .sub 30 45,(dN 47 ox 46),(ax 48 (.build [.nil,(ag 0),.nil,(ag 0),.nil] [(1,4,(.t 47))])),(ax 13 (.alloc 256013 [.nil,(ag 0),.nil,(ag 0),.nil])),bb 5 13 48] [[],[],[],[],[],[],[],[],[],[],[],[],[],[],[],[],[],[],[],[],[],[],[3,7,11,14,18],[]] (.seq (.seq (.ghost (.K4 (.t 13) 0 256076 4) (.ops [F 49 2,cp 50 49,bt 51 0])) (.block 2 (.loop  (R [bB 52 .lss 51 50] (.seq (a4 52 .skip (.exit 2)) (.seq (.block 3 (R [F 53 51,F 14 53] (R [bt 15 0] (.seq (R [F 54 14,F 55 11,bB 56 .eql 54 55] (a4 56 (.ops [bt 15 1]) .skip)) (fc [F 58 15,(dN 59 ox 58),F 60 3,F 61 14,bM 62 1 60 61,aK 63 1 62,F 64 12,bM 65 4 63 64,bm 66 4 65,(cd 67 tH 59 66),F 57 67,br 68 0 57,br 69 1 57,(ax 16 (.alloc 256016 [(ag 0),.nil,(ag 0),.nil])),bb 4 16 68,F 17 69] [[],[],[],[],[],[],[],[],[],[],[],[],[],[5,8],[],[]] (.seq (R [F 70 17,bc 71 .neq 70 0] (a4 71 (R [eH 8,c5 9 false] .ret) .skip)) (.ops [aT 72 0 13,aK 73 1 72,bm 74 4 16,(ax 75 (.e1 256075 false [(ag 0),.nil,(ag 0),.nil] 4 1 [(0,4,(.t 74))])),(ax 76 (.app 256076 [(ag 0),.nil,(ag 0),.nil] 64 (.t 73) (.t 75))),aT 77 0 13,bb 1 77 76]))))))) (.ops [bc 78 .add 51 1,F 51 78]))))))) (.ghost (.K5 (.t 13) 0) (.ops [F 79 10,bm 80 5 13,(ax 81 (.e1 256081 false [.nil,(ag 0),.nil,(ag 0),.nil] 5 1 [(0,5,(.t 80))])),(ax 82 (.app 256082 [.nil,(ag 0),.nil,(ag 0),.nil] 88 (.t 79) (.t 81))),F 10 82])))))) (.ops [bc 83 .add 22 1,F 22 83])))))))) (.seq (.ghost (.freeze 10) (.ops [F 85 10,F 86 2,cp 87 86,(cd 88 Q2 85 87),F 84 88,br 89 0 84,br 90 1 84,F 18 89,F 19 90])) (R [F 91 18,F 92 19,bc 93 .eql 92 0,F 8 91,F 9 93] .ret)))))
abbrev eC:=List bU×bU
def jx (r:eC):List Data:=.af (r.1.map aL)::aL r.2
theorem mU (f:bU):(aL f).length=4:=rfl
theorem aci (r:eC):(jx r).length=5:=rfl
theorem Fb (f:bU):((aL f).map M.I).all M.one=true:=rfl
theorem vo:∀a b:bU,aL a=aL b->a=b:=by
 rintro⟨⟨s,l⟩,⟨s2,al⟩⟩ ⟨⟨t,m⟩,⟨t2,cn⟩⟩ h;simp only[aL,bh,Data.int.injEq,Data.af.injEq,true_and,and_true] at h;obtain⟨rfl,E,rfl,H⟩:=h;rw[map_inj g7 _ _ E,map_inj g7 _ _ H]
theorem TK:∀a b:eC,jx a=jx b->a=b:=by
 rintro⟨a,b⟩ ⟨c,d⟩ h;simp only[jx,bh,Data.af.injEq] at h;rw[map_inj vo _ _ h.1,vo _ _ h.2]
def okF (f:bU):Prop:=f.1.2.length<=1000000/\f.2.2.length<=1000000
def o8 (l:List bU):Prop:=D l<=1000000/\∀f∈l,okF f
def xb (r:eC):Prop:=o8 r.1/\okF r.2
def qO (rs:List eC):Prop:=D rs<=1000000/\∀r∈rs,xb r
def M4:=cy Jb λ(s,l,s2,al)=>cT (D l<=1000000/\D al<=1000000) (.same (.bool (!eX ((s,l),(s2,al)))))
@[go_sem] theorem aCH (s:Int)(l:List Int)(s2:Int)(al:List Int)(G:(D l)<=1000000/\D al<=1000000):M4 [.agg [.int .i64 s,.af (l.map ad),.int .i64 s2,.af (al.map ad)]]=some (.same (.bool (!eX ((s,l),(s2,al))))):=(cI Tk (s,l,s2,al)).trans (cY G _)
theorem aoN (T:bk)(gJ:T nm=aW yO)(s:Int)(l:List Int)(s2:Int)(al:List Int)(G:(D l)<=1000000/\D al<=1000000):WP T TB (.same (.bool (!eX ((s,l),(s2,al))))) [.I (.agg [.int .i64 s,.af (l.map ad),.int .i64 s2,.af (al.map ad)])]:=by
 refine cC ?_;simp only[TB];obtain⟨bK,b0⟩:=G;refine a9 ?_;repeat' (intro h<;>simp only[h,go_sem,go_sem_proc,gJ,bK,b0]<;>try refine av ?_ ?_)
def mm {α:Type}(p:α->Bool)(l:List α):Int:=match l.findIdx? p with
 |some i=>i
 |none => -1
theorem Jo {α:Type}{p:α->Bool}{l:List α}{i:Nat}(h:∀x∈l.take i,p x=false){x:α}(O:l[i]?=some x)(aB:p x=true):mm p l=i:=by
 unfold mm
 have:l.findIdx? p=some i:=by
  rw[acj];obtain⟨aq,rfl⟩:=dK.1 O;refine⟨aq,aB,λj ai=>?_⟩;have:=h l[j] (tF.2 ⟨j,by rw[List.getElem?_take_of_lt ai];exact bs _⟩);rw[this];decide
 rw[this]
theorem M5 {α:Type}{p:α->Bool}{l:List α}(h:∀x∈l,p x=false):mm p l = -1:=by
 unfold mm;rw[ack.2 h]
theorem M6 {α:Type}(p:α->Bool)(l:List α):decide (mm p l>=0)=l.any p:=by
 unfold mm
 cases h:l.findIdx? p with
 |none =>
  have:=ack.1 h;have H:l.any p=false:=by rw[List.any_eq_false];intro x O;simp[this x O]
  rw[H];rfl
 |some i =>
  rw[acj] at h;obtain⟨E,H,-⟩:=h;have ab:l.any p=true:=List.any_eq_true.2 ⟨_,mD E,H⟩;rw[ab];exact iH (by simp)
def Cx (f:bU):Bool:=!eX f
def o9 (f:FuncId):bU->Bool:=if f=u5 then λx => !eX x||decide (x.1.1<0) else Cx
@[go_sem] theorem acm:o9 mO=Cx:=by
 unfold o9;rw[aa (by decide)]
@[go_sem] theorem TL:o9 u5=λx => !eX x||decide (x.1.1<0):=by
 unfold o9;rw[Z rfl]
theorem M7 {α:Type}{p:α->Bool}{l:List α}{i:Nat}(h:∀x∈l.take i,p x=false){x:α}(O:l[i]?=some x)(aB:p x=false):∀y∈l.take (i+1),p y=false:=by
 intro y ao;rw[ks,O] at ao;simp only[Option.toList_some,List.mem_append,yG] at ao;rcases ao with ao|rfl
 ·exact h y ao
 ·exact aB
abbrev M8:(List bU)×FuncId->List Data:=λ(l,f)=>[.af (l.map aL),.fn f []]
def TM:=cy M8 λ(l,f)=>cT (o8 l/\(f=mO\/f=u5/\False)) (.same (.int .i64 (mm (o9 f) l)))
theorem acn:∀a b,M8 a=M8 b->a=b:=by
  rintro⟨eB,f1⟩ ⟨al,f2⟩ h;simp only[bh,Data.af.injEq,Data.fn.injEq] at h;exact eS (map_inj vo _ _ h.1) h.2.1.1
@[go_sem] theorem aCI (l:List bU)(f:FuncId)(G:o8 l/\(f=mO\/f=u5/\False)):TM [.af (l.map aL),.fn f []]=some (.same (.int .i64 (mm (o9 f) l))):=(cI acn (l,f)).trans (cY G _)
theorem aoO (T:bk)(sN:T mO=aW M4)(l:List bU)(f:FuncId)(G:o8 l/\(f=mO\/f=u5/\False)):WP T R3 (.same (.int .i64 (mm (o9 f) l))) [.I (.af (l.map aL)),.I (.fn f [])]:=by
 refine cC ?_;simp only[R3];obtain⟨⟨au,cX⟩,aJ⟩:=G;simp only[go_sem,go_sem_proc,sN,aj];refine dE [0,1,7] [] (λ(i:Nat) tm mem=>i<=D l/\(∀x∈l.take i,o9 f x=false)/\tm 8=.I (.int .i64 i)) (λi=>D l-i) 0 (by refine⟨fr _,?_,rfl⟩;simp) ?_;intro vs ms aV aR;simp only[go_sem,go_sem_proc,sN,aj] at aV aR;subst aV aR;rintro i tm mem J hm ⟨L,ef,bW⟩;simp only[go_sem,go_sem_proc,sN,bh] at J hm;obtain⟨ak,E,bC⟩:=J;rcases dQ (i<D l) with aq|ck
 ·have O:=bs aq;obtain⟨lQ,o3⟩:=cX _ (mD aq);have bF:=λh=>Jo (p:=o9 f) ef O h;have gz:=λh=>M7 (p:=o9 f) ef O h;generalize l[i]=x at *;have gZ:decide ((i:Int)<(D l:Int))=true:=dg;have hw:=fW (i:=i) (by omega);obtain⟨⟨bf,b5⟩,⟨cU,dr⟩⟩:=x;dsimp only at lQ o3;rcases ae:o9 f ((bf,b5),(cU,dr))
  ·rcases aJ with rfl|⟨rfl,e4⟩
   all_goals have Y:=ae
   all_goals simp only[acm,TL,Cx] at Y
   ·simp only[go_sem,go_sem_proc,sN,ak,E,bC,bW,O,gZ,hw,lQ,o3,Y,aj,a5,aL];repeat' (first|refine av ?_ ?_|fail)<;>intro h<;>simp only[h,go_sem,go_sem_proc,sN,ak,E,bC,bW,O,gZ,hw,lQ,o3,Y,aj,a5,aL]
    exact⟨i+1,by omega,by omega,gz ae,rfl⟩
   ·exact e4.elim
  ·rw[bF ae];rcases aJ with rfl|⟨rfl,e4⟩
   all_goals have Y:=ae
   all_goals simp only[acm,TL,Cx] at Y
   ·simp only[go_sem,go_sem_proc,sN,ak,E,bC,bW,O,gZ,hw,lQ,o3,Y,aj,a5,aL];repeat' (first|refine av ?_ ?_|fail)<;>intro h<;>simp only[h,go_sem,go_sem_proc,sN,ak,E,bC,bW,O,gZ,hw,lQ,o3,Y,aj,a5,aL]
   ·exact e4.elim
 ·have gZ:decide ((i:Int)<(D l:Int))=false:=c1;have jN:i=D l:=by omega
  subst jN;rw[oA] at ef;rw[M5 ef];simp only[go_sem,go_sem_proc,sN,ak,E,bC,bW,gZ,aj];repeat' (first|refine av ?_ ?_|fail)<;>intro h<;>simp only[h,go_sem,go_sem_proc,sN,ak,E,bC,bW,gZ,aj]
def TN:=cy M8 λ(l,f)=>cT (o8 l/\(f=mO\/f=u5/\False)) (.same (.bool (l.any (o9 f))))
@[go_sem] theorem aCJ (l:List bU)(f:FuncId)(G:o8 l/\(f=mO\/f=u5/\False)):TN [.af (l.map aL),.fn f []]=some (.same (.bool (l.any (o9 f)))):=(cI acn (l,f)).trans (cY G _)
theorem aoP (T:bk)(aoQ:T Rc=aW TM)(l:List bU)(f:FuncId)(G:o8 l/\(f=mO\/f=u5/\False)):WP T R0 (.same (.bool (l.any (o9 f)))) [.I (.af (l.map aL)),.I (.fn f [])]:=by
 refine cC ?_;simp only[R0];rw[<-M6];refine a9 ?_;repeat' (intro h<;>simp only[h,go_sem,go_sem_proc,aoQ,G]<;>try refine av ?_ ?_)
def n3 (n:Int)(r:eC):Bool:=!(((r.1.length:Int)==n)&&(eX r.2 && !(r.1.any Cx)))
abbrev TO:(List bU)×Int×(List Int)×Int×(List Int)×Int->List Data:=λ(a,s,l,s2,al,n)=>[.agg [.af (a.map aL),.int .i64 s,.af (l.map ad),.int .i64 s2,.af (al.map ad)],.ptr [.int .i64 n],.ptr [.fn mO []]]
def TP:=cy TO λ(a,s,l,s2,al,n)=>cT (o8 a/\D l<=1000000/\D al<=1000000) (.same (.bool (n3 n (a,((s,l),(s2,al))))))
theorem aoR:∀a b,TO a=TO b->a=b:=by
  rintro⟨db,s1,eB,EZ,E0,ht⟩ ⟨dH,s2,al,E1,E2,jI⟩ h;simp only[bh,Data.agg.injEq,Data.int.injEq,Data.af.injEq,Data.ptr.injEq] at h;exact eS (map_inj vo _ _ h.1.1) (eS h.1.2.1.2 (eS (map_inj g7 _ _ h.1.2.2.1) (eS h.1.2.2.2.1.2 (eS (map_inj g7 _ _ h.1.2.2.2.2.1) h.2.1.1.2))))
@[go_sem] theorem aCK (a:List bU)(s:Int)(l:List Int)(s2:Int)(al:List Int)(n:Int)(G:o8 a/\D l<=1000000/\D al<=1000000):TP [.agg [.af (a.map aL),.int .i64 s,.af (l.map ad),.int .i64 s2,.af (al.map ad)],.ptr [.int .i64 n],.ptr [.fn mO []]]=some (.same (.bool (n3 n (a,((s,l),(s2,al)))))):=(cI aoR (a,s,l,s2,al,n)).trans (cY G _)
theorem aoS (T:bk)(sN:T mO=aW M4)(TQ:T Q5=aW TN)(a:List bU)(s:Int)(l:List Int)(s2:Int)(al:List Int)(n:Int)(G:o8 a/\D l<=1000000/\D al<=1000000):WP T TC (.same (.bool (n3 n (a,((s,l),(s2,al)))))) [.I (.agg [.af (a.map aL),.int .i64 s,.af (l.map ad),.int .i64 s2,.af (al.map ad)]),.I (.ptr [.int .i64 n]),.I (.ptr [.fn mO []])]:=by
 refine cC ?_;simp only[TC];obtain⟨a1,bK,b0⟩:=G;unfold n3;rcases E:((D a:Int)==n)
 ·refine a9 ?_;repeat' (intro h<;>simp only[h,go_sem,go_sem_proc,sN,TQ,a1,bK,b0,E,aj]<;>try refine av ?_ ?_)
 ·rcases H:eX ((s,l),(s2,al))
  ·refine a9 ?_;repeat' (intro h<;>simp only[h,go_sem,go_sem_proc,sN,TQ,a1,bK,b0,E,H,aj]<;>try refine av ?_ ?_)
  ·refine a9 ?_;repeat' (intro h<;>simp only[h,go_sem,go_sem_proc,sN,TQ,a1,bK,b0,E,H,aj,show (mO=mO)=True from by simp,true_or,Bool.not_not]<;>try refine av ?_ ?_)
abbrev M9:(List eC)×Int->List Data:=λ(rs,n)=>[.af (rs.map jx),.fn z1 [.ptr [.int .i64 n],.ptr [.fn mO []]]]
def TR:=cy M9 λ(rs,n)=>cT (qO rs) (.same (.int .i64 (mm (n3 n) rs)))
theorem aco:∀a b,M9 a=M9 b->a=b:=by
  rintro⟨acp,ht⟩ ⟨acq,jI⟩ h;simp only[bh,Data.af.injEq,Data.fn.injEq,Data.ptr.injEq,Data.int.injEq] at h;exact eS (map_inj TK _ _ h.1) h.2.1.2.1.1.2
@[go_sem] theorem aCL (rs:List eC)(n:Int)(G:qO rs):TR [.af (rs.map jx),.fn z1 [.ptr [.int .i64 n],.ptr [.fn mO []]]]=some (.same (.int .i64 (mm (n3 n) rs))):=(cI aco (rs,n)).trans (cY G _)
theorem aoT (T:bk)(yS:T z1=aW TP)(rs:List eC)(n:Int)(G:qO rs):WP T R2 (.same (.int .i64 (mm (n3 n) rs))) [.I (.af (rs.map jx)),.I (.fn z1 [.ptr [.int .i64 n],.ptr [.fn mO []]])]:=by
 refine cC ?_;simp only[R2];obtain⟨au,cX⟩:=G;simp only[go_sem,go_sem_proc,yS,aj];refine dE [0,1,7] [] (λ(i:Nat) tm mem=>i<=D rs/\(∀x∈rs.take i,n3 n x=false)/\tm 8=.I (.int .i64 i)) (λi=>D rs-i) 0 (by refine⟨fr _,?_,rfl⟩;simp) ?_;intro vs ms aV aR;simp only[go_sem,go_sem_proc,yS,aj] at aV aR;subst aV aR;rintro i tm mem J hm ⟨L,ef,bW⟩;simp only[go_sem,go_sem_proc,yS,bh] at J hm;obtain⟨ak,E,bC⟩:=J;rcases dQ (i<D rs) with aq|ck
 ·have O:=bs aq;obtain⟨fE,lQ,o3⟩:=cX _ (mD aq);have bF:=λh=>Jo (p:=n3 n) ef O h;have gz:=λh=>M7 (p:=n3 n) ef O h;generalize rs[i]=x at *;have gZ:decide ((i:Int)<(D rs:Int))=true:=dg;have hw:=fW (i:=i) (by omega);obtain⟨a,⟨bf,b5⟩,⟨cU,dr⟩⟩:=x;dsimp only at fE lQ o3;rcases ae:n3 n (a,((bf,b5),(cU,dr)))
  ·simp only[go_sem,go_sem_proc,yS,ak,E,bC,bW,O,gZ,hw,fE,lQ,o3,ae,aj,a5,jx,aL];repeat' (first|refine av ?_ ?_|fail)<;>intro h<;>simp only[h,go_sem,go_sem_proc,yS,ak,E,bC,bW,O,gZ,hw,fE,lQ,o3,ae,aj,a5,jx,aL]
   exact⟨i+1,by omega,by omega,gz ae,rfl⟩
  ·rw[bF ae];simp only[go_sem,go_sem_proc,yS,ak,E,bC,bW,O,gZ,hw,fE,lQ,o3,ae,aj,a5,jx,aL];repeat' (first|refine av ?_ ?_|fail)<;>intro h<;>simp only[h,go_sem,go_sem_proc,yS,ak,E,bC,bW,O,gZ,hw,fE,lQ,o3,ae,aj,a5,jx,aL]
 ·have gZ:decide ((i:Int)<(D rs:Int))=false:=c1;have jN:i=D rs:=by omega
  subst jN;rw[oA] at ef;rw[M5 ef];simp only[go_sem,go_sem_proc,yS,ak,E,bC,bW,gZ,aj];repeat' (first|refine av ?_ ?_|fail)<;>intro h<;>simp only[h,go_sem,go_sem_proc,yS,ak,E,bC,bW,gZ,aj]
def TS:=cy M9 λ(rs,n)=>cT (qO rs) (.same (.bool (rs.any (n3 n))))
@[go_sem] theorem aCM (rs:List eC)(n:Int)(G:qO rs):TS [.af (rs.map jx),.fn z1 [.ptr [.int .i64 n],.ptr [.fn mO []]]]=some (.same (.bool (rs.any (n3 n)))):=(cI aco (rs,n)).trans (cY G _)
theorem aoU (T:bk)(aoV:T Rb=aW TR)(rs:List eC)(n:Int)(G:qO rs):WP T RZ (.same (.bool (rs.any (n3 n)))) [.I (.af (rs.map jx)),.I (.fn z1 [.ptr [.int .i64 n],.ptr [.fn mO []]])]:=by
 refine cC ?_;simp only[RZ];rw[<-M6];refine a9 ?_;repeat' (intro h<;>simp only[h,go_sem,go_sem_proc,aoV,G]<;>try refine av ?_ ?_)
def ny (rs:List eC)(n:Int):Bool:=!(decide (n<0))&&(!(decide (n>40))&&(((D rs:Int)==n) && !(rs.any (n3 n))))
abbrev Na:(List eC)×Int->List Data:=λ(rs,n)=>[.af (rs.map jx),.int .i64 n]
def TT:=cy Na λ(rs,n)=>cT (qO rs) (.same (.bool (ny rs n)))
theorem acr:∀a b,Na a=Na b->a=b:=by
  rintro⟨acp,ht⟩ ⟨acq,jI⟩ h;simp only[bh,Data.af.injEq,Data.int.injEq] at h;exact eS (map_inj TK _ _ h.1) h.2.1.2
@[go_sem] theorem aCN (rs:List eC)(n:Int)(G:qO rs):TT [.af (rs.map jx),.int .i64 n]=some (.same (.bool (ny rs n))):=(cI acr (rs,n)).trans (cY G _)
theorem aoW (T:bk)(Nb:T Q4=aW TS)(rs:List eC)(n:Int)(G:qO rs):WP T Tz (.same (.bool (ny rs n))) [.I (.af (rs.map jx)),.I (.int .i64 n)]:=by
 refine cC ?_;simp only[Tz];unfold ny;rcases E:decide (n<0)
 ·rcases H:decide (n>40)
  ·rcases ab:((D rs:Int)==n)
   ·refine a9 ?_;repeat' (intro h<;>simp only[h,go_sem,go_sem_proc,Nb,G,E,H,ab,aj]<;>try refine av ?_ ?_)
   ·refine a9 ?_;repeat' (intro h<;>simp only[h,go_sem,go_sem_proc,Nb,G,E,H,ab,aj,c8,v5,pY,scalar]<;>try refine av ?_ ?_)
  ·refine a9 ?_;repeat' (intro h<;>simp only[h,go_sem,go_sem_proc,Nb,G,E,H,aj]<;>try refine av ?_ ?_)
 ·refine a9 ?_;repeat' (intro h<;>simp only[h,go_sem,go_sem_proc,Nb,G,E,aj]<;>try refine av ?_ ?_)
theorem acs {es:List (List Data)}(h:∀x∈es,Fit (.int .i64) x):∃l:List Int,es=l.map ad:=by
 obtain⟨l,e,-⟩:=QX (e:=ad) (good:=λ_=>True) λx O=>by
  have:=h x O;simp only[Fit] at this;obtain⟨n,rfl,-⟩:=this;exact⟨n,rfl,trivial⟩
 exact⟨l,e⟩
theorem aoX {n:Int}(h:(Lit.int .u8 n).wf=true):∃m:Nat,n=m/\m<256:=by
 have:0<=n/\n<=255:=by simpa [Lit.wf,IntKind.min,IntKind.max,IntKind.signed,IntKind.bits] using h
 exact⟨n.toNat,by omega,by omega⟩
def TU:b1:=cu 28 1 [.cell 2 2 true] (R [(ax 2 (.alloc 144002 [(ag 0),.nil]))] (.seq (R [F 6 0,bc 7 .eql 6 0] (a4 7 (R [(ax 8 (.build [(ag 0),.nil] [])),bb 2 2 8] .ret) .skip)) (R [bt 3 1] (.seq (R [F 9 0,bc 10 .lss 9 0] (a4 10 (.ops [(ax 3 (.b3 (.c (.I (.int .i64 (-1))))))]) .skip)) (R [eH 4] (.seq (.block 0 (.ghost (.pz 4 144022 1) (.loop  (.seq (R [F 11 0,bc 12 .neq 11 0] (a4 12 .skip (.exit 0))) (.block 1 (R [F 13 0,bc 14 .rem 13 1048576,F 5 14] (.seq (R [F 15 5,bc 16 .lss 15 0] (a4 16 (.ops [F 17 5,(ax 18 (.un .neg (.t 17))),F 5 18]) .skip)) (R [F 19 4,F 20 5,(ax 21 (.e1 144021 false [(ag 0)] 1 1 [(0,1,(.t 20))])),(ax 22 (.app 144022 [(ag 0)] 8 (.t 19) (.t 21))),F 4 22] (.ops [F 23 0,bc 24 .quo 23 1048576,F 0 24]))))))))) (.seq (.ghost (.freeze 4) (.ops [F 25 3,F 26 4,(cd 27 tL 25 26),bb 2 2 27])) .ret)))))))
def TV:b1:=cu 60 1 [.t 2] (R [dM 1 162001 0,c5 2 false] (.seq (R [bt 3 0] (.block 0 (.loop  (.seq (R [F 5 3,aT 6 1 1,aK 7 1 6,cp 8 7,bB 9 .lss 5 8] (a4 9 .skip (.exit 0))) (.seq (.block 1 (R [aT 12 1 1,aK 13 1 12,F 14 3,bM 15 1 13 14,aK 16 1 15,bc 17 .lss 16 0,F 18 17,⟨some 19,some (18,false),.et 1 (.t 1)⟩,⟨some 20,some (18,false),.load 1 false (.t 19)⟩,⟨some 21,some (18,false),.b3 (.t 3)⟩,⟨some 22,some (18,false),.jj 1 (.t 20) (.t 21)⟩,⟨some 23,some (18,false),.load 1 false (.t 22)⟩,⟨some 24,some (18,false),.bin .geq (.t 23) (.c (ag 1048576))⟩,dn 25 18 24] (a4 25 (R [c5 2 false] .ret) .skip))) (.ops [F 10 3,bc 11 .add 10 1,F 3 11])))))) (R [aT 26 1 1,aK 27 1 26,cp 28 27,F 4 28] (.seq (R [aT 29 0 1,aK 30 1 29,(ax 31 (.bin .lss (.t 30) (.c (.I (.int .i64 (-1)))))),F 32 31,⟨some 33,some (32,false),.et 0 (.t 1)⟩,⟨some 34,some (32,false),.load 1 false (.t 33)⟩,⟨some 35,some (32,false),.bin .gtr (.t 34) (.c (ag 1))⟩,dn 36 32 35,F 37 36,⟨some 38,some (37,false),.b3 (.t 4)⟩,⟨some 39,some (37,false),.bin .gtr (.t 38) (.c (ag 60))⟩,dn 40 37 39,F 41 40,⟨some 42,some (41,false),.b3 (.t 4)⟩,⟨some 43,some (41,false),.bin .eql (.t 42) (.c (ag 0))⟩,⟨some 44,some (41,false),.et 0 (.t 1)⟩,⟨some 45,some (41,false),.load 1 false (.t 44)⟩,⟨some 46,some (41,false),.bin .eql (.t 45) (.c (ag 0))⟩,⟨some 47,some (41,false),.beq true (.t 43) (.t 46)⟩,dn 48 41 47] (a4 48 (R [c5 2 false] .ret) .skip)) (R [F 49 4,bc 50 .eql 49 0,F 51 50,⟨some 52,some (51,false),.et 1 (.t 1)⟩,⟨some 53,some (51,false),.load 1 false (.t 52)⟩,⟨some 54,some (51,false),.b3 (.t 4)⟩,⟨some 55,some (51,false),.bin .sub (.t 54) (.c (ag 1))⟩,⟨some 56,some (51,false),.jj 1 (.t 53) (.t 55)⟩,⟨some 57,some (51,false),.load 1 false (.t 56)⟩,⟨some 58,some (51,false),.bin .neq (.t 57) (.c (ag 0))⟩,dn 59 51 58,F 2 59] .ret)))))
def TW:b1:=cu 13 1 [.cell 2 2 true] (R [dM 1 163001 0,(ax 2 (.alloc 163002 [(ag 0),.nil]))] (.seq (R [bm 3 2 1,(dN 4 tK 3),gi 5 4] (a4 5 (R [(ax 6 (.build [(ag 0),.nil] [])),bb 2 2 6] .ret) .skip)) (R [aT 7 0 1,aK 8 1 7,(ax 9 (.un .neg (.t 8))),aT 10 1 1,aK 11 1 10,(cd 12 tL 9 11),bb 2 2 12] .ret)))
def TX:b1:=cu 36 2 [.cell 4 2 true,.t 5] (R [dM 2 164002 0,dM 3 164003 1,(ax 4 (.alloc 164004 [(ag 0),.nil])),bt 5 0] (.seq (R [bm 10 2 2,(dN 11 tK 10),gi 12 11,F 13 12,⟨some 14,some (13,false),.load 2 true (.t 3)⟩,⟨some 15,some (13,false),.call tK [(.t 14)]⟩,⟨some 16,some (13,false),.un .not (.t 15)⟩,dn 17 13 16] (a4 17 (R [(ax 18 (.build [(ag 0),.nil] [])),bb 2 4 18,bt 5 1] .ret) .skip)) (R [aT 19 1 2,aK 20 1 19,F 6 20] (R [aT 21 1 3,aK 22 1 21,F 7 22] (.seq (.block 0 (.loop  (.seq (R [F 23 7,cp 24 23,bc 25 .gtr 24 0] (a4 25 .skip (.exit 0))) (.block 1 (R [F 27 6,F 28 7,(cd 29 Im 27 28),F 26 29,br 30 0 26,br 31 1 26,F 8 30,F 9 31] (R [F 32 7,F 6 32] (.ops [F 33 9,F 7 33]))))))) (R [F 34 6,(ax 35 (.call tL [(.c (ag 1)),(.t 34)])),bb 2 4 35,bt 5 0] .ret))))))
def TY:b1:=cu 65 2 [.cell 4 2 true,.cell 5 2 true,.t 6] (R [dM 2 165002 0,dM 3 165003 1,(ax 4 (.alloc 165004 [(ag 0),.nil])),(ax 5 (.alloc 165005 [(ag 0),.nil])),bt 6 0] (.seq (R [bm 9 2 2,(dN 10 tK 9),gi 11 10,F 12 11,⟨some 13,some (12,false),.load 2 true (.t 3)⟩,⟨some 14,some (12,false),.call tK [(.t 13)]⟩,⟨some 15,some (12,false),.un .not (.t 14)⟩,dn 16 12 15] (a4 16 (R [(ax 17 (.build [(ag 0),.nil] [])),(ax 18 (.build [(ag 0),.nil] [])),bb 2 4 17,bb 2 5 18,bt 6 1] .ret) .skip)) (.seq (R [aT 19 0 3,aK 20 1 19,bc 21 .eql 20 0] (a4 21 (R [(ax 22 (.build [(ag 0),.nil] [])),(ax 23 (.build [(ag 0),.nil] [])),bb 2 4 22,bb 2 5 23,bt 6 15] .ret) .skip)) (R [aT 25 1 2,aK 26 1 25,aT 27 1 3,aK 28 1 27,(cd 29 Im 26 28),F 24 29,br 30 0 24,br 31 1 24,F 7 30,F 8 31] (.seq (R [aT 32 0 2,aK 33 1 32,aT 34 0 3,aK 35 1 34,bB 36 .mul 33 35,bc 37 .geq 36 0,F 38 37,⟨some 39,some (38,false),.b3 (.t 8)⟩,⟨some 40,some (38,false),.len (.t 39)⟩,⟨some 41,some (38,false),.bin .eql (.t 40) (.c (ag 0))⟩,dn 42 38 41] (a4 42 (fc [aT 43 0 2,aK 44 1 43,aT 45 0 3,aK 46 1 45,bB 47 .mul 44 46,F 48 7,(cd 49 tL 47 48),aT 50 0 2,aK 51 1 50,F 52 8,(cd 53 tL 51 52),bb 2 4 49,bb 2 5 53,bt 6 0] Iz .ret) .skip)) (fc [F 54 7,(ax 55 (.e1 165055 false [(ag 0)] 1 1 [(0,1,(.c (ag 1)))])),(cd 56 Rm 54 55),(ax 57 (.call tL [(.c (.I (.int .i64 (-1)))),(.t 56)])),aT 58 0 3,aK 59 1 58,aT 60 1 3,aK 61 1 60,F 62 8,(cd 63 Io 61 62),(cd 64 tL 59 63),bb 2 4 57,bb 2 5 64,bt 6 0] Iz .ret))))))
def TZ:b1:=cu 15 2 [.cell 4 2 true] (R [(ax 4 (.alloc 166004 [(ag 0),.nil]))] (R [F 6 1,(dN 7 su 6),F 5 7] (.seq (R [F 8 5,cp 9 8,bc 10 .eql 9 0] (a4 10 (R [(ax 11 (.build [(ag 0),.nil] [])),bb 2 4 11] .ret) .skip)) (R [F 12 0,F 13 5,(ax 14 (.build [(ag 0),.nil] [(0,1,(.t 12)),(1,1,(.t 13))])),bb 2 4 14] .ret))))
def Jp:b1:=cu 60 2 [.t 4,.t 5] (R [eH 4,eH 5] (R [F 12 0,cp 13 12,(ax 14 (.lF 180014 [(ag 0)] 8 (.t 13) (.t 13))),F 6 14] (R [eH 7] (.seq (R [F 15 0,cp 16 15,bc 17 .sub 16 1,F 8 17] (.block 0 (.loop  (.seq (R [F 18 8,bc 19 .geq 18 0] (a4 19 .skip (.exit 0))) (.seq (.block 1 (R [F 22 0,F 23 8,bM 24 1 22 23,aK 25 1 24,(ax 26 (.e1 180026 true [(ag 0)] 1 1 [(0,1,(.t 25))])),F 27 7,(ax 28 (.app 180028 [(ag 0)] 8 (.t 26) (.t 27))),(dN 29 su 28),F 7 29] (R [bt 9 0] (R [bt 10 1048576] (.seq (.block 2 (.loop  (.seq (R [F 30 10,F 31 9,bB 32 .sub 30 31,bc 33 .gtr 32 1] (a4 33 .skip (.exit 2))) (.block 3 (R [F 34 9,F 35 10,bB 36 .add 34 35,bc 37 .quo 36 2,F 11 37] (R [F 38 7,F 39 1,F 40 11,(ax 41 (.e1 180041 false [(ag 0)] 1 1 [(0,1,(.t 40))])),(cd 42 Ip 39 41),(cd 43 L4 38 42)] (a4 43 (.ops [F 44 11,F 10 44]) (.ops [F 45 11,F 9 45])))))))) (R [F 46 6,F 47 8,F 48 9,bM 49 1 46 47,bb 1 49 48] (.ops [F 50 7,F 51 1,F 52 9,(ax 53 (.e1 180053 false [(ag 0)] 1 1 [(0,1,(.t 52))])),(dN 54 su 53),(cd 55 Ip 51 54),(cd 56 Io 50 55),F 7 56]))))))) (.ops [F 20 8,bc 21 .sub 20 1,F 8 21])))))) (R [F 57 6,(dN 58 su 57),F 59 7,F 4 58,F 5 59] .ret)))))
def T0:b1:=cu 43 2 [.t 4] (R [eH 4] (R [eH 5] (R [bt 6 0] (.seq (R [bt 7 0] (.block 0 (.ghost (.pz 5 181038 1) (.loop  (.seq (R [F 9 7,F 10 0,cp 11 10,bB 12 .lss 9 11,F 13 12,⟨some 14,some (13,false),.b3 (.t 7)⟩,⟨some 15,some (13,false),.b3 (.t 1)⟩,⟨some 16,some (13,false),.len (.t 15)⟩,⟨some 17,some (13,false),.bin .lss (.t 14) (.t 16)⟩,dn 18 13 17,F 19 18,⟨some 20,some (19,false),.b3 (.t 6)⟩,⟨some 21,some (19,false),.bin .gtr (.t 20) (.c (ag 0))⟩,dn 22 19 21] (a4 22 .skip (.exit 0))) (.seq (.block 1 (R [F 25 0,F 26 7,(cd 27 sv 25 26),F 28 1,F 29 7,(cd 30 sv 28 29),bB 31 .add 27 30,F 32 6,bB 33 .add 31 32,F 8 33] (R [F 34 5,F 35 8,bc 36 .rem 35 1048576,(ax 37 (.e1 181037 false [(ag 0)] 1 1 [(0,1,(.t 36))])),(ax 38 (.app 181038 [(ag 0)] 8 (.t 34) (.t 37))),F 5 38] (.ops [F 39 8,bc 40 .quo 39 1048576,F 6 40])))) (.ops [F 23 7,bc 24 .add 23 1,F 7 24]))))))) (R [F 41 5,(dN 42 su 41),F 4 42] .ret)))))
def T1:b1:=cu 35 2 [.t 4] (R [eH 4] (R [eH 5] (R [bt 6 0] (.seq (R [bt 7 0] (.block 0 (.ghost (.pz 5 182032 1) (.loop  (.seq (R [F 9 7,F 10 0,cp 11 10,bB 12 .lss 9 11] (a4 12 .skip (.exit 0))) (.seq (.block 1 (fc [F 15 0,F 16 7,bM 17 1 15 16,aK 18 1 17,F 19 1,F 20 7,(cd 21 sv 19 20),bB 22 .sub 18 21,F 23 6,bB 24 .sub 22 23,F 8 24] z4 (R [bt 6 0] (.seq (R [F 25 8,bc 26 .lss 25 0] (a4 26 (R [F 27 8,bc 28 .add 27 1048576,F 8 28] (.ops [bt 6 1])) .skip)) (.ops [F 29 5,F 30 8,(ax 31 (.e1 182031 false [(ag 0)] 1 1 [(0,1,(.t 30))])),(ax 32 (.app 182032 [(ag 0)] 8 (.t 29) (.t 31))),F 5 32]))))) (.ops [F 13 7,bc 14 .add 13 1,F 7 14]))))))) (R [F 33 5,(dN 34 su 33),F 4 34] .ret)))))
def T2:b1:=cu 23 1 [.t 2] (R [eH 2] (R [F 4 0,cp 5 4,F 3 5] (.seq (.block 0 (.loop  (.seq (R [F 6 3,bc 7 .gtr 6 0,F 8 7,⟨some 9,some (8,true),.b3 (.t 0)⟩,⟨some 10,some (8,true),.b3 (.t 3)⟩,⟨some 11,some (8,true),.bin .sub (.t 10) (.c (ag 1))⟩,⟨some 12,some (8,true),.jj 1 (.t 9) (.t 11)⟩,⟨some 13,some (8,true),.load 1 false (.t 12)⟩,⟨some 14,some (8,true),.bin .eql (.t 13) (.c (ag 0))⟩,gG 15 8 14] (a4 15 .skip (.exit 0))) (.block 1 (.ops [F 16 3,bc 17 .sub 16 1,F 3 17]))))) (R [(ax 18 (.e1 183018 true [] 1 0 [])),F 19 0,F 20 3,(ax 21 (.q6 1 (.t 19) none (some (.t 20)) none)),(ax 22 (.app 183022 [(ag 0)] 8 (.t 18) (.t 21))),F 2 22] .ret))))
def T3:b1:=cu 30 2 [.t 4] (R [c5 4 false] (.seq (R [F 6 0,cp 7 6,F 8 1,cp 9 8,(ax 10 (.iw true (.t 7) (.t 9))),bc 11 .sub 10 1,F 5 11] (.block 0 (.loop  (.seq (R [F 12 5,bc 13 .geq 12 0] (a4 13 .skip (.exit 0))) (.seq (.block 1 (R [F 16 0,F 17 5,(cd 18 sv 16 17),F 19 1,F 20 5,(cd 21 sv 19 20),bB 22 .neq 18 21] (a4 22 (R [F 23 0,F 24 5,(cd 25 sv 23 24),F 26 1,F 27 5,(cd 28 sv 26 27),bB 29 .lss 25 28,F 4 29] .ret) .skip))) (.ops [F 14 5,bc 15 .sub 14 1,F 5 15])))))) (R [c5 4 false] .ret)))
def T4:b1:=cu 60 2 [.t 4] (R [eH 4] (R [F 10 0,cp 11 10,F 12 1,cp 13 12,bB 14 .add 11 13,(ax 15 (.lF 186015 [(ag 0)] 8 (.t 14) (.t 14))),F 5 15] (.seq (R [bt 6 0] (.block 0 (.loop  (.seq (R [F 16 6,F 17 0,cp 18 17,bB 19 .lss 16 18] (a4 19 .skip (.exit 0))) (.seq (.block 1 (R [bt 7 0] (R [bt 8 0] (.block 2 (.loop  (.seq (R [F 22 8,F 23 1,cp 24 23,bB 25 .lss 22 24,F 26 25,⟨some 27,some (26,false),.b3 (.t 7)⟩,⟨some 28,some (26,false),.bin .gtr (.t 27) (.c (ag 0))⟩,dn 29 26 28] (a4 29 .skip (.exit 2))) (.seq (.block 3 (fc [F 32 5,F 33 6,F 34 8,bB 35 .add 33 34,bM 36 1 32 35,aK 37 1 36,F 38 0,F 39 6,bM 40 1 38 39,aK 41 1 40,F 42 1,F 43 8,(cd 44 sv 42 43),bB 45 .mul 41 44,bB 46 .add 37 45,F 47 7,bB 48 .add 46 47,F 9 48] aaT (R [F 49 5,F 50 6,F 51 8,bB 52 .add 50 51,F 53 9,bc 54 .rem 53 1048576,bM 55 1 49 52,bb 1 55 54] (.ops [F 56 9,bc 57 .quo 56 1048576,F 7 57])))) (.ops [F 30 8,bc 31 .add 30 1,F 8 31])))))))) (.ops [F 20 6,bc 21 .add 20 1,F 6 21])))))) (R [F 58 5,(dN 59 su 58),F 4 59] .ret))))
def T5:b1:=cu 13 2 [.t 4] (R [bt 4 0] (.seq (R [F 5 1,F 6 0,cp 7 6,bB 8 .lss 5 7] (a4 8 (R [F 9 0,F 10 1,bM 11 1 9 10,aK 12 1 11,F 4 12] .ret) .skip)) (R [bt 4 0] .ret)))
theorem Fc (l:List Int):Ea (.own 1 (l.map ad))=some (.own 1 (l.map ad)):=by
 refine Z ?_;rw[List.all_eq_true];intro e he;obtain⟨d,-,rfl⟩:=List.mem_map.1 he;simp[ad,scalar]
theorem vp (n k g sz off len:Nat):c8 n emp (.ref k g sz off len)=none:=by cases n<;>rfl
def Ay:=cy Ex λ(l:List Int)=>cT (D l<=1000000) (.own 1 ((fm l).map ad))
@[go_sem] theorem Cy (l:List Int)(G:(D l)<=1000000):Ay [.af (l.map ad)]=some (.own 1 ((fm l).map ad)):=(cI Ma l).trans (cY G _)
theorem aoY (T:bk)  (l:List Int) (G:(D l)<=1000000):WP T T2 (.own 1 ((fm l).map ad)) [.I (.af (l.map ad))]:=by
 refine cC ?_;simp only[T2];have se:((l.map ad).all λe=>D e==1)=true:=by simp[ad]
 refine a9 ?_;repeat' (intro h<;>simp only[h,go_sem,go_sem_proc,aj]<;>try refine av ?_ ?_)
 refine dE [0] [] (λ(n:Nat) tm mem=>n<=D l/\fm l=fm (l.take n)/\tm 3=.I (.int .i64 n)/\mem 183018=none) (λn=>n) (D l) (by refine⟨bP _,by simp,by simp[go_sem],rfl⟩) ?_;intro vs ms aV aR;simp only[go_sem,go_sem_proc,aj] at aV aR;subst aV aR;rintro n tm mem J-⟨aG,bJ,ab,T6⟩;simp only[go_sem,go_sem_proc,bh] at J;have ak:=J
 have di:∀o:List Int,D o<=(D l)->l5 183018 0 1 0 8 (D o) ((o.map ad).flatten.map .I) (some (0,[]))=some (.ref 183018 1 1 0 (D o),some (183018,1,aY ad o)):=by
  intro o bx;have:=Eh hQ wF 183018 0 8 [] o (by simp;omega) (by simp;omega)
  simpa [aY] using this
 have uW:∀(o:List Int) (m:Mem),m 183018=some (1,aY ad o)->oW 1 m (.ref 183018 1 1 0 (D o))=some (o.map ad):=by
  intro o m hm;have:=aa0 hm (bP _);rwa [dD (bP _)] at this
 have aoZ:∀o:List Int,((o.map ad).all λe=>D e==1)=true:=λo=>by simp[ad]
 rcases n with _|n
 ·have E:=di [] (by simp);have bx:=uW [];simp only[cl,acu,mJ] at E bx;refine a9 ?_;repeat' (intro h<;>simp only[h,go_sem,go_sem_proc,ak,ab,T6,se,E,kR,lg,show ¬ ((0:Int)>0) by omega,decide_false,aj,show (0:Int).toNat=0 from rfl,show (0:Int)<=0 by omega,fr,List.take_zero,cl,mJ]<;>try refine av ?_ ?_)
  rw[bx _ (by simp[a3]),bJ];simp[fm]
 ·have hw:IntKind.i64.wrap (((n+1:Nat):Int)-1)=(n:Int):=by rw[eA _];omega
  have O:l[n]?=some l[n]:=bs (by omega);have hO:((n+1:Nat):Int)>0:=by omega
  have hle:n+1<=D l:=aG
  by_cases aQ:l[n]=0
  ·refine a9 ?_;repeat' (intro h<;>simp only[h,go_sem,go_sem_proc,ak,ab,hw,O,aQ,hO,aj,a5,decide_true,ad,beq_self_eq_true,bh]<;>try refine av ?_ ?_)
   exact⟨n,by omega,by omega,by rw[bJ,R8 l n (by omega) aQ],rfl,T6⟩
  ·have sw:(l[n]==0)=false:=by simpa using aQ
   have E:=di (l.take (n+1)) (by rw[hh];omega);rw[hh,nQ hle,acv] at E;have b0:(List.take (n+1) (l.map ad)).length=n+1:=by rw[hh,aj];omega
   have acw:=aoZ (l.take (n+1));rw[acv] at acw;refine a9 ?_;repeat' (intro h<;>simp only[h,go_sem,go_sem_proc,ak,ab,T6,hw,O,sw,hO,se,acw,hle,E,b0,ad,aj,a5,decide_true,bh,show (0:Int)<=((n+1:Nat):Int) by omega,gX,fr]<;>try refine av ?_ ?_)
   have bx:=uW (l.take (n+1)) _ (show a3 (a3 mem 183018 0 []) 183018 1 (aY ad (List.take (n+1) l)) 183018=_ by simp[a3])
   rw[hh,nQ hle] at bx;rw[bx,bJ,R9 l n (by omega) aQ]
abbrev T7:(List Int)×Nat->List Data:=λ(l,i)=>[.af (l.map ad),.int .i64 i]
def Fe:=cy T7 λ(l,i)=>cT (D l<=1000000) (.same (.int .i64 (l.getD i 0)))
theorem ao0:∀a b,T7 a=T7 b->a=b:=by
  rintro⟨eB,i1⟩ ⟨al,i2⟩ h;simp only[bh,Data.af.injEq,Data.int.injEq] at h;exact eS (map_inj g7 _ _ h.1) (by have:=h.2.1.2;dsimp only;omega)
@[go_sem] theorem acx (l:List Int)(i:Nat)(G:(D l)<=1000000):Fe [.af (l.map ad),.int .i64 i]=some (.same (.int .i64 (l.getD i 0))):=(cI ao0 (l,i)).trans (cY G _)
theorem ao1 (T:bk)  (l:List Int) (i:Nat) (G:(D l)<=1000000):WP T T5 (.same (.int .i64 (l.getD i 0))) [.I (.af (l.map ad)),.I (.int .i64 i)]:=by
 refine cC ?_;simp only[T5];rcases hV i (D l) with aq|ck
 ·have O:=bs aq;have X:decide ((i:Int)<(D l:Int))=true:=dg;have aX:l.getD i 0=l[i]:=by rw[dY,O];rfl
  rw[aX];refine a9 ?_;repeat' (intro h<;>simp only[h,go_sem,go_sem_proc,O,X,ad,aj,a5]<;>try refine av ?_ ?_)
 ·have X:decide ((i:Int)<(D l:Int))=false:=c1;have aX:l.getD i 0=0:=by rw[dY,lL ck];rfl
  rw[aX];refine a9 ?_;repeat' (intro h<;>simp only[h,go_sem,go_sem_proc,X,aj]<;>try refine av ?_ ?_)
theorem Ff (n i:Nat):(aF n).getD i 0=((n/1048576^i%1048576:Nat):Int):=by
 induction i generalizing n with
 |zero =>
  rcases jm n with h|h
  ·subst h;rfl
  ·rw[tG h,Nat.pow_zero,Nat.div_one];rfl
 |succ i ay =>
  rcases jm n with h|h
  ·subst h;rw[acy];rfl
  ·rw[tG h];show (aF (n/1048576)).getD i 0=_;rw[ay,acz,<-Nat.pow_succ']
theorem Fg (n i:Nat):n/1048576^i=n/1048576^i%1048576+1048576*(n/1048576^(i+1)):=by
 rw[u3,<-acz];omega
theorem Az {n k:Nat}(h:(aF n).length<=k):n/1048576^k=0:=Nat.div_eq_of_lt (gF.1 h)
def Nc:=cy tP λ(x,y)=>cT ((aF x).length<=100000/\(aF y).length<=100000) (.same (.bool (decide (x<y))))
@[go_sem] theorem ao2 (x:Nat)(y:Nat)(G:(aF x).length<=100000/\(aF y).length<=100000):Nc [bL x,bL y]=some (.same (.bool (decide (x<y)))):=(cI wK (x,y)).trans (cY G _)
theorem ao3 (T:bk)(fR:T sv=aW Fe)(x:Nat)(y:Nat)(G:(aF x).length<=100000/\(aF y).length<=100000):WP T T3 (.same (.bool (decide (x<y)))) [.I (bL x),.I (bL y)]:=by
 refine cC ?_;simp only[T3];obtain⟨O,ao⟩:=G;have mg:∃a8:Nat,a8=max (aF x).length (aF y).length:=⟨_,rfl⟩;obtain⟨a8,mg⟩:=mg;have hN:(if ((aF y).length:Int)>((aF x).length:Int) then ((aF y).length:Int) else ((aF x).length:Int))=(a8:Int):=by split<;>omega
 have Aj:IntKind.i64.wrap ((a8:Int)-1)=(a8:Int)-1:=wrap64 _ (by omega) (by omega);have nv:(aF x).length<=1000000:=by omega
 have kx:(aF y).length<=1000000:=by omega
 simp only[go_sem,go_sem_proc,fR,bL,aj,hN,Aj];refine dE [0,1] [] (λ(i:Nat) tm mem=>i<=a8/\x/1048576^i=y/1048576^i/\tm 5=.I (.int .i64 ((i:Int)-1))) (λi=>i) a8 (by refine⟨bP _,?_,rfl⟩;rw[Az (by omega),Az (by omega)]) ?_;intro vs ms aV aR;simp only[go_sem,go_sem_proc,fR,bL] at aV aR;subst aV aR;rintro i tm mem J-⟨L,he,bl⟩;simp only[go_sem,go_sem_proc,fR,bh] at J;obtain⟨ak,E⟩:=J;rcases i with _|i
 ·have mP:x=y:=by simpa using he
  have aq:decide (x<y)=false:=c1;rw[aq];simp only[go_sem,go_sem_proc,fR,ak,E,bl,kR,lg,show ¬ ((0:Int)-1>=0) by omega,decide_false]
  repeat' (first|refine av ?_ ?_|fail)<;>intro h<;>simp only[h,go_sem,go_sem_proc,fR,ak,E,bl,kR,lg,show ¬ ((0:Int)-1>=0) by omega,decide_false]
 ·have hw:((i+1:Nat):Int)-1=(i:Int):=by omega
  have ck:decide ((i:Int)>=0)=true:=dg;have aw:=Fg x i;have aC:=Fg y i;rw[he] at aw;have e8:IntKind.i64.wrap ((i:Int)-1)=(i:Int)-1:=wrap64 _ (by omega) (by omega);have cF:=Ff x i;have cQ:=Ff y i;have dP:=nV (x/1048576^i) (show 0<1048576 by omega);have gV:=nV (y/1048576^i) (show 0<1048576 by omega);have bK:x/1048576^i<y/1048576^i->x<y:=λh=>acA h;have b0:y/1048576^i<x/1048576^i->y<x:=λh=>acA h;generalize lS:x/1048576^i=cA at *;generalize yK:y/1048576^i=fK at *;generalize y/1048576^(i+1)=xc at *;generalize cA%1048576=a at *;generalize fK%1048576=b at *;rcases Nat.lt_trichotomy a b with h|h|h
  ·have bN:((a:Int)==(b:Int))=false:=by simp;omega
   have yT:decide ((a:Int)<(b:Int))=decide (x<y):=by rw[iH (show (a:Int)<(b:Int) by omega),iH (bK (by omega))]
   simp only[go_sem,go_sem_proc,fR,ak,E,bl,hw,ck,cF,cQ,nv,kx,bN,yT];repeat' (first|refine av ?_ ?_|fail)<;>intro h<;>simp only[h,go_sem,go_sem_proc,fR,ak,E,bl,hw,ck,cF,cQ,nv,kx,bN,yT]
  ·subst h;simp only[go_sem,go_sem_proc,fR,ak,E,bl,hw,ck,cF,cQ,nv,kx,e8,beq_self_eq_true];repeat' (first|refine av ?_ ?_|fail)<;>intro h<;>simp only[h,go_sem,go_sem_proc,fR,ak,E,bl,hw,ck,cF,cQ,nv,kx,e8,beq_self_eq_true]
   exact⟨i,by omega,by omega,by rw[lS,yK];omega,rfl⟩
  ·have bN:((a:Int)==(b:Int))=false:=by simp;omega
   have yT:decide ((a:Int)<(b:Int))=decide (x<y):=by rw[ob (show ¬ (a:Int)<(b:Int) by omega),ob (by have:=b0 (by omega);omega)]
   simp only[go_sem,go_sem_proc,fR,ak,E,bl,hw,ck,cF,cQ,nv,kx,bN,yT];repeat' (first|refine av ?_ ?_|fail)<;>intro h<;>simp only[h,go_sem,go_sem_proc,fR,ak,E,bl,hw,ck,cF,cQ,nv,kx,bN,yT]
theorem T8 {o:List Int}{d:Int}(h:er o)(ak:0<=d)(E:d<1048576):er (o++[d]):=BL.2 ⟨h,BK.2 ⟨⟨ak,E⟩,by intro d X;cases X⟩⟩
theorem T9 (o:List Int)(d:Int):a0 (o++[d])=a0 o+1048576^(D o)*d:=by rw[BM];simp[a0]
theorem Fh {o:List Int}{n:Nat}(h:er o)(aI:a0 o=n):fm o=aF n:=by rw[yp h,aI];rfl
def Ua:=cy tP λ(x,y)=>cT ((aF x).length<=10000/\(aF y).length<=10000) (.same (bL (x+y)))
@[go_sem] theorem ao4 (x:Nat)(y:Nat)(G:(aF x).length<=10000/\(aF y).length<=10000):Ua [bL x,bL y]=some (.same (bL (x+y))):=(cI wK (x,y)).trans (cY G _)
theorem ao5 (T:bk)(fR:T sv=aW Fe)(fx:T su=aW Ay)(x:Nat)(y:Nat)(G:(aF x).length<=10000/\(aF y).length<=10000):WP T T0 (.same (bL (x+y))) [.I (bL x),.I (bL y)]:=by
 refine cC ?_;simp only[T0];obtain⟨O,ao⟩:=G;have mg:∃a8:Nat,a8=max (aF x).length (aF y).length:=⟨_,rfl⟩;obtain⟨a8,mg⟩:=mg;have nv:(aF x).length<=1000000:=by omega
 have kx:(aF y).length<=1000000:=by omega
 simp only[go_sem,go_sem_proc,fR,fx,bL,aj];refine dE [0,1] [] (λ((i,c,g,o):Nat×Nat×Nat×List Int) tm mem=>i<=a8+1/\c<=1/\(i=a8+1->c=0)/\D o=i/\er o/\a0 o+1048576^i*((x/1048576^i+y/1048576^i+c:Nat):Int)=((x+y:Nat):Int)/\tm 6=.I (.int .i64 c)/\tm 7=.I (.int .i64 i)/\tm 5=.ref 181038 g 1 0 i/\mem 181038=some (g,aY ad o)) (λ(i,_)=>a8+1-i) (0,0,0,[]) (by refine⟨by omega,by omega,by simp,rfl,by simp[er],by simp[a0],rfl,rfl,rfl,rfl⟩) ?_;intro vs ms aV aR;simp only[go_sem,go_sem_proc,fR,fx,bL] at aV aR;subst aV aR;rintro⟨i,c,g,o⟩ tm mem J-⟨L,gy,hn,bx,ih,aI,bI,bC,bl,hm⟩;simp only[go_sem,go_sem_proc,fR,fx,bh] at J;obtain⟨ak,E⟩:=J;have aB:a0 o+1048576^i*((x/1048576^i+y/1048576^i+c:Nat):Int)=((x+y:Nat):Int):=aI
 by_cases Jq:i<(aF x).length\/i<(aF y).length\/0<c
 ·have aw:=Fg x i;have aC:=Fg y i;have cF:=Ff x i;have cQ:=Ff y i;have dP:=nV (x/1048576^i) (show 0<1048576 by omega);have gV:=nV (y/1048576^i) (show 0<1048576 by omega);have SU:a8<=i->x/1048576^i=0/\y/1048576^i=0:=λh=>⟨Az (by omega),Az (by omega)⟩;have fZ:(1048576:Int)^(i+1)=1048576^i*1048576:=mM _ _;generalize lS:x/1048576^i=cA at *;generalize yK:y/1048576^i=fK at *;generalize yU:x/1048576^(i+1)=X' at *;generalize Fi:y/1048576^(i+1)=Y' at *;generalize a1:cA%1048576=a at *;generalize ae:fK%1048576=b at *;have w1:IntKind.i64.wrap ((a:Int)+(b:Int))=((a+b:Nat):Int):=by rw[eA _];omega
  have nd:IntKind.i64.wrap (((a+b:Nat):Int)+(c:Int))=((a+b+c:Nat):Int):=by rw[eA _];omega
  have fF:((a+b+c:Nat):Int).tmod 1048576=(((a+b+c)%1048576:Nat):Int):=by rw[Aa (by omega)];omega
  have eY:IntKind.i64.wrap (((a+b+c:Nat):Int).tdiv 1048576)=(((a+b+c)/1048576:Nat):Int):=by rw[yD (by omega),wrap64 _ (by omega) (by omega)];omega
  have cf:=fW (i:=i) (by omega);have di:=mK hQ wF 181038 g 8 o (((a+b+c)%1048576:Nat):Int) (cs:=[.I (.int .i64 (((a+b+c)%1048576:Nat):Int))]) rfl (by omega) (by omega);rw[bx] at di
  have aCO:i<=a8:=by
   rcases hV a8 i with h|h
   ·have:=hn (by omega);omega
   ·exact h
  have ig:∃a6:Nat×Nat×Nat×List Int,a8+1-a6.1<a8+1-i/\a6.1<=a8+1/\a6.2.1<=1/\(a6.1=a8+1->a6.2.1=0)/\a6.2.2.2.length=a6.1/\er a6.2.2.2/\a0 a6.2.2.2+1048576^a6.1*((x/1048576^a6.1+y/1048576^a6.1+a6.2.1:Nat):Int)=((x+y:Nat):Int)/\M.I (Data.int .i64 (((a+b+c)/1048576:Nat):Int))=M.I (Data.int .i64 (a6.2.1:Int))/\M.I (Data.int .i64 ((i+1:Nat):Int))=M.I (Data.int .i64 (a6.1:Int))/\M.ref 181038 (g+1) 1 0 (i+1)=M.ref 181038 a6.2.2.1 1 0 a6.1/\some (g+1,aY ad (o++[(((a+b+c)%1048576:Nat):Int)]))=some (a6.2.2.1,aY ad a6.2.2.2):=by
   refine⟨(i+1,(a+b+c)/1048576,g+1,o++[(((a+b+c)%1048576:Nat):Int)]),by dsimp only;omega,by dsimp only;omega,by dsimp only;omega,?_,by simp[bx],T8 ih (by omega) (by omega),?_,rfl,rfl,rfl,rfl⟩
   ·intro h;dsimp only at h ⊢;have:=SU (by omega);omega
   ·dsimp only;rw[yU,Fi,T9,bx,fZ,<-aB];have cx:((cA+fK+c:Nat):Int)=1048576*((X'+Y'+(a+b+c)/1048576:Nat):Int)+(((a+b+c)%1048576:Nat):Int):=by omega
    rw[cx,h2,h3];omega
  by_cases ye:i<(aF x).length
  ·have d1:decide ((i:Int)<((aF x).length:Int))=true:=dg;simp only[go_sem,go_sem_proc,fR,fx,ak,E,bl,bI,bC,hm,cF,cQ,nv,kx,d1,w1,nd,fF,eY,cf,di,aj];repeat' (first|refine av ?_ ?_|fail)<;>intro h<;>simp only[h,go_sem,go_sem_proc,fR,fx,ak,E,bl,bI,bC,hm,cF,cQ,nv,kx,d1,w1,nd,fF,eY,cf,di,aj]
   exact ig
  ·have d1:decide ((i:Int)<((aF x).length:Int))=false:=c1
   by_cases uV:i<(aF y).length
   ·have d2:decide ((i:Int)<((aF y).length:Int))=true:=dg;simp only[go_sem,go_sem_proc,fR,fx,ak,E,bl,bI,bC,hm,cF,cQ,nv,kx,d1,d2,w1,nd,fF,eY,cf,di,aj];repeat' (first|refine av ?_ ?_|fail)<;>intro h<;>simp only[h,go_sem,go_sem_proc,fR,fx,ak,E,bl,bI,bC,hm,cF,cQ,nv,kx,d1,d2,w1,nd,fF,eY,cf,di,aj]
    exact ig
   ·have d2:decide ((i:Int)<((aF y).length:Int))=false:=c1;have d3:decide ((c:Int)>0)=true:=dg;simp only[go_sem,go_sem_proc,fR,fx,ak,E,bl,bI,bC,hm,cF,cQ,nv,kx,d1,d2,d3,w1,nd,fF,eY,cf,di,aj];repeat' (first|refine av ?_ ?_|fail)<;>intro h<;>simp only[h,go_sem,go_sem_proc,fR,fx,ak,E,bl,bI,bC,hm,cF,cQ,nv,kx,d1,d2,d3,w1,nd,fF,eY,cf,di,aj]
    exact ig
 ·have d1:decide ((i:Int)<((aF x).length:Int))=false:=c1;have d2:decide ((i:Int)<((aF y).length:Int))=false:=c1;have d3:decide ((c:Int)>0)=false:=c1;rw[Az (n:=x) (by omega),Az (n:=y) (by omega),show c=0 by omega] at aB
  have cE:=Cy o (by omega);rw[Fh (n:=x+y) ih (by simpa using aB)] at cE;have fQ:=Fc (aF (x+y));have j2:=pM (n:=5) hQ hm;rw[bx] at j2;simp only[go_sem,go_sem_proc,fR,fx,ak,E,bl,bI,bC,hm,d1,d2,d3,cE,fQ,j2,vp,pY,aj];repeat' (first|refine av ?_ ?_|fail)<;>intro h<;>simp only[h,go_sem,go_sem_proc,fR,fx,ak,E,bl,bI,bC,hm,d1,d2,d3,cE,fQ,j2,vp,pY,aj]
def Nd:=cy tP λ(x,y)=>cT ((aF x).length<=10000/\(aF y).length<=10000/\y<=x) (.same (bL (x-y)))
@[go_sem] theorem acB (x:Nat)(y:Nat)(G:(aF x).length<=10000/\(aF y).length<=10000/\y<=x):Nd [bL x,bL y]=some (.same (bL (x-y))):=(cI wK (x,y)).trans (cY G _)
theorem ao6 (T:bk)(fR:T sv=aW Fe)(fx:T su=aW Ay)(x:Nat)(y:Nat)(G:(aF x).length<=10000/\(aF y).length<=10000/\y<=x):WP T T1 (.same (bL (x-y))) [.I (bL x),.I (bL y)]:=by
 refine cC ?_;simp only[T1];obtain⟨O,ao,mP⟩:=G;have nv:(aF x).length<=1000000:=by omega
 have kx:(aF y).length<=1000000:=by omega
 have aa6:(aF y).length<=(aF x).length:=by rw[gF];exact sD mP (gF.1 (bP _))
 simp only[go_sem,go_sem_proc,fR,fx,bL,aj];refine dE [0,1] [] (λ((i,c,g,o):Nat×Nat×Nat×List Int) tm mem=>i<=(aF x).length/\c<=1/\y/1048576^i+c<=x/1048576^i/\D o=i/\er o/\a0 o+1048576^i*((x/1048576^i-(y/1048576^i+c):Nat):Int)=((x-y:Nat):Int)/\tm 6=.I (.int .i64 c)/\tm 7=.I (.int .i64 i)/\tm 5=.ref 182032 g 1 0 i/\mem 182032=some (g,aY ad o)) (λ(i,_)=>(aF x).length-i) (0,0,0,[]) (by refine⟨by omega,by omega,by simpa using mP,rfl,by simp[er],by simp[a0],rfl,rfl,rfl,rfl⟩) ?_;intro vs ms aV aR;simp only[go_sem,go_sem_proc,fR,fx,bL] at aV aR;subst aV aR;rintro⟨i,c,g,o⟩ tm mem J-⟨L,gy,hle,bx,ih,aI,bI,bC,bl,hm⟩;simp only[go_sem,go_sem_proc,fR,fx,bh] at J;obtain⟨ak,E⟩:=J;have aB:a0 o+1048576^i*((x/1048576^i-(y/1048576^i+c):Nat):Int)=((x-y:Nat):Int):=aI;have Qg:y/1048576^i+c<=x/1048576^i:=hle
 by_cases Jq:i<(aF x).length
 ·have d1:decide ((i:Int)<((aF x).length:Int))=true:=dg;have aw:=Fg x i;have aC:=Fg y i;have cF:=Ff x i;rw[dY,bs Jq] at cF;have gE:(aF x)[i]?=some ((x/1048576^i%1048576:Nat):Int):=by rw[bs Jq];exact congrArg some cF
  have cQ:=Ff y i;have dP:=nV (x/1048576^i) (show 0<1048576 by omega);have gV:=nV (y/1048576^i) (show 0<1048576 by omega);have fZ:(1048576:Int)^(i+1)=1048576^i*1048576:=mM _ _;clear cF hle aI;generalize lS:x/1048576^i=cA at *;generalize yK:y/1048576^i=fK at *;generalize yU:x/1048576^(i+1)=X' at *;generalize Fi:y/1048576^(i+1)=Y' at *;generalize a1:cA%1048576=a at *;generalize ae:fK%1048576=b at *;have w1:IntKind.i64.wrap ((a:Int)-(b:Int))=(a:Int)-(b:Int):=wrap64 _ (by omega) (by omega);have nd:IntKind.i64.wrap ((a:Int)-(b:Int)-(c:Int))=(a:Int)-(b:Int)-(c:Int):=wrap64 _ (by omega) (by omega);have cf:=fW (i:=i) (by omega);have mn:IntKind.i64.wrap ((a:Int)-(b:Int)-(c:Int)+1048576)=(a:Int)-(b:Int)-(c:Int)+1048576:=wrap64 _ (by omega) (by omega);have di:=λd:Int=>mK hQ wF 182032 g 8 o d (cs:=[.I (.int .i64 d)]) rfl (by omega) (by omega);rw[bx] at di;rcases j3:decide ((a:Int)-(b:Int)-(c:Int)<0)
  ·have aG:=of_decide_eq_false j3;refine a9 ?_;repeat' (intro h<;>simp only[h,go_sem,go_sem_proc,fR,fx,ak,E,bl,bI,bC,hm,gE,cQ,kx,d1,w1,nd,cf,di,j3,ad,aj,a5]<;>try refine av ?_ ?_)
   refine⟨(i+1,0,g+1,o++[(a:Int)-(b:Int)-(c:Int)]),by dsimp only;omega,by dsimp only;omega,by dsimp only;omega,by dsimp only;rw[yU,Fi];omega,by simp[bx],T8 ih (by omega) (by omega),?_,rfl,rfl,rfl,rfl⟩
   dsimp only;rw[yU,Fi,T9,bx,fZ,<-aB];have cx:((cA-(fK+c):Nat):Int)=1048576*((X'-(Y'+0):Nat):Int)+((a:Int)-b-c):=by omega
   rw[cx,h2,h3];omega
  ·have aG:=of_decide_eq_true j3;refine a9 ?_;repeat' (intro h<;>simp only[h,go_sem,go_sem_proc,fR,fx,ak,E,bl,bI,bC,hm,gE,cQ,kx,d1,w1,nd,cf,mn,di,j3,ad,aj,a5]<;>try refine av ?_ ?_)
   refine⟨(i+1,1,g+1,o++[(a:Int)-(b:Int)-(c:Int)+1048576]),by dsimp only;omega,by dsimp only;omega,by dsimp only;omega,by dsimp only;rw[yU,Fi];omega,by simp[bx],T8 ih (by omega) (by omega),?_,rfl,rfl,rfl,rfl⟩
   dsimp only;rw[yU,Fi,T9,bx,fZ,<-aB];have cx:((cA-(fK+c):Nat):Int)=1048576*((X'-(Y'+1):Nat):Int)+((a:Int)-b-c+1048576):=by omega
   have dk:∀p bS eJ:Int,a0 o+p*bS+p*1048576*eJ=a0 o+p*(1048576*eJ+bS):=λp bS eJ=>by rw[h2 p (1048576*eJ) bS,<-h3];omega
   rw[cx];exact dk _ _ _
 ·have d1:decide ((i:Int)<((aF x).length:Int))=false:=c1;rw[Az (n:=x) (by omega),Az (n:=y) (by omega),Nat.zero_sub,kR,sH,tV] at aB;have cE:=Cy o (by omega);rw[Fh (n:=x-y) ih aB] at cE;have fQ:=Fc (aF (x-y));have j2:=pM (n:=5) hQ hm;rw[bx] at j2;refine a9 ?_;repeat' (intro h<;>simp only[h,go_sem,go_sem_proc,fR,fx,ak,E,bl,bI,bC,hm,d1,cE,fQ,j2,vp,pY,aj]<;>try refine av ?_ ?_)
theorem acC {b:List Int}{k:Nat}(h:k<D b):b.getD k 0=b[k]:=by rw[dY,bs h];rfl
theorem Ub {b:List Int}{k:Nat}(h:(D b)<=k):b.getD k 0=0:=by rw[dY,lL h];rfl
def Nf:=cy tP λ(x,y)=>cT ((aF x).length<=10000/\(aF y).length<=10000) (.same (bL (x*y)))
@[go_sem] theorem acD (x:Nat)(y:Nat)(G:(aF x).length<=10000/\(aF y).length<=10000):Nf [bL x,bL y]=some (.same (bL (x*y))):=(cI wK (x,y)).trans (cY G _)
theorem ao7 (T:bk)(fR:T sv=aW Fe)(fx:T su=aW Ay)(x:Nat)(y:Nat)(G:(aF x).length<=10000/\(aF y).length<=10000):WP T T4 (.same (bL (x*y))) [.I (bL x),.I (bL y)]:=by
 refine cC ?_;simp only[T4];obtain⟨O,ao⟩:=G;have sA:=mc x;have qE:=mc y;have u7:=lf x;have B4:=lf y;generalize a1:aF x=a at *;generalize ae:aF y=b at *;have nX:IntKind.i64.wrap ((D a:Int)+(D b:Int))=((D a+D b:Nat):Int):=by rw[eA _];rfl
 have kq:8*(D a+D b)<=140737488355328:=by omega
 have en:(D a)+D b<=maxLen:=EC _ (by omega);have HM:(D b)<=1000000:=by omega
 simp only[go_sem,go_sem_proc,fR,fx,bL,a1,ae,nX,kq,en,EB,aj]
 refine dE [0,1,5] [] (λ((i,o):Nat×List Int) tm mem=>i<=D a/\D o=D a+D b/\er o/\o.drop (i+D b)=eu (D o-(i+D b)) 0/\a0 o=a0 (a.take i)*y/\tm 6=.I (.int .i64 (i:Nat))/\mem 186015=some (0,aY ad o))
  (λ(i,_)=>D a-i) (0,eu (D a+D b) 0) (by
   have aQ:∀n,a0 (eu n 0)=0:=by
    intro n
    induction n with
    |zero=>rfl
    |succ n ay=>rw[List.replicate_succ,ss,ay];rfl
   refine⟨fr _,by simp,λd X=>by rw[EG] at X;omega,by simp,by rw[aQ];simp[a0],?_,?_⟩<;>rfl) ?_
 intro vs ms aV aR;simp only[go_sem,go_sem_proc,fR,fx,bL,a1,ae,nX,aj] at aV aR;subst aV aR;rintro⟨i,o⟩ tm mem J-⟨L,bx,ih,rA,jn,bI,hm⟩;simp only[go_sem,go_sem_proc,fR,fx,bh] at J;obtain⟨ak,E,bl⟩:=J;rcases dQ (i<D a) with aq|ck
 ·have md:a[i]?=some a[i]:=bs aq;have zW:=kT sA i aq;have sl:=kS a i aq;generalize a[i]=hD at *;have h5:decide ((i:Int)<(D a:Int))=true:=dg;have Ae:IntKind.i64.wrap ((i:Int)+1)=((i+1:Nat):Int):=by rw[eA _];rfl
  simp only[go_sem,go_sem_proc,fR,fx,ak,E,bl,bI,md,h5,ad,aj,a5,bh]
  refine dE [0,1,5,6] [] (λ((k,c,o):Nat×Int×List Int) tm mem=>k<=D b+1/\(k=D b+1->c=0)/\D o=D a+D b/\er o/\o.drop (i+max k (D b))=eu (D o-(i+max k (D b))) 0/\0<=c/\c<1048576/\a0 o+1048576^(i+k)*c=a0 (a.take i)*y+1048576^i*(hD*a0 (b.take k)) /\
    tm 8=.I (.int .i64 (k:Nat))/\tm 7=.I (.int .i64 c)/\mem 186015=some (0,aY ad o))
   (λ(k,_)=>D b+1-k) (0,0,o) (by refine⟨fr _,by simp,bx,ih,by rw[Nat.zero_max];exact rA,by omega,by omega,by simp[a0,jn],?_,?_,hm⟩<;>rfl) ?_
  intro vs ms aV aR;simp only[go_sem,go_sem_proc,fR,fx,ak,E,bl,bI,ad,aj] at aV aR;subst aV aR;rintro⟨k,c,o⟩ tm mem J-⟨sk,AA,bx,ih,rA,ku,gy,jn,bW,bC,hm⟩;simp only[go_sem,go_sem_proc,fR,fx,bh] at J;obtain⟨ak,E,bl,bI⟩:=J;have e8:IntKind.i64.wrap ((k:Int)+1)=((k+1:Nat):Int):=by rw[eA _];rfl
  have iY:IntKind.i64.wrap ((i:Int)+(k:Int))=((i+k:Nat):Int):=by rw[eA _];rfl
  by_cases Jq:k<(D b)\/c>0
  ·have IH:k<=D b:=by
    rcases hV (D b) k with h|h
    ·have:=AA (by omega);omega
    ·exact h
   have o1:i+k<D o:=by omega
   have Sp:=kT ih (i+k) o1
   have EH:0<=b.getD k 0/\b.getD k 0<1048576:=by
    rcases hV k (D b) with h|h
    ·rw[acC h];exact kT qE k h
    ·rw[Ub h];omega
   have Uc:a0 (b.take (k+1))=a0 (b.take k)+1048576^k*b.getD k 0:=by
    rcases hV k (D b) with h|h
    ·rw[acC h];exact kS b k h
    ·rw[Ub h,dD (by omega),dD (by omega)];simp
   have uT:k<(D b)\/(k=D b/\o[i+k]=0):=by
    rcases hV k (D b) with h|h
    ·exact .inl h
    ·refine .inr ⟨by omega,aa9 rA (by omega) o1⟩
   have Jr:=acx b k HM;generalize b.getD k 0=pa at *;obtain⟨dG,cn,ns,nY⟩:=aa8 Sp zW EH ⟨ku,gy⟩;have kv:IntKind.i64.wrap (hD*pa)=hD*pa:=wrap64 _ (by omega) (by omega);have yC:IntKind.i64.wrap (o[i+k]+hD*pa)=o[i+k]+hD*pa:=wrap64 _ (by omega) (by omega);have tR:IntKind.i64.wrap (o[i+k]+hD*pa+c)=o[i+k]+hD*pa+c:=wrap64 _ (by omega) (by omega);have rB:(o[i+k]+hD*pa+c).tmod 1048576=(o[i+k]+hD*pa+c)%1048576:=Aa (by omega);have ES:IntKind.i64.wrap ((o[i+k]+hD*pa+c).tdiv 1048576)=(o[i+k]+hD*pa+c)/1048576:=by rw[yD (by omega)];exact wrap64 _ (by omega) (by omega)
   have hC:i+k+1<=(aY ad o).length:=by rw[pP];omega
   have jb:=IF o (i+k) o1;have gg:=λd=>wJ o (i+k) d o1;have ki:i+k<D a+D b:=by omega
   have ig:∃a6:Nat×Int×List Int,D b+1-a6.1<D b+1-k/\a6.1<=D b+1/\(a6.1=D b+1->a6.2.1=0)/\a6.2.2.length=D a+D b/\er a6.2.2/\a6.2.2.drop (i+max a6.1 (D b))=eu (a6.2.2.length-(i+max a6.1 (D b))) 0/\0<=a6.2.1/\a6.2.1<1048576/\a0 a6.2.2+1048576^(i+a6.1)*a6.2.1=a0 (a.take i)*y+1048576^i*(hD*a0 (b.take a6.1)) /\
     M.I (Data.int .i64 ((k+1:Nat):Int))=M.I (Data.int .i64 (a6.1:Nat))/\M.I (Data.int .i64 ((o[i+k]+hD*pa+c)/1048576))=M.I (Data.int .i64 a6.2.1)/\some (0,aY ad (o.set (i+k) ((o[i+k]+hD*pa+c)%1048576)))=some (0,aY ad a6.2.2):=by
    refine⟨(k+1,(o[i+k]+hD*pa+c)/1048576,o.set (i+k) ((o[i+k]+hD*pa+c)%1048576)),by dsimp only;omega,by dsimp only;omega,?_,by simp[bx],yA ih _ (by omega),?_,ns,nY,?_,rfl,rfl,rfl⟩
    ·intro h;dsimp only at h ⊢;rcases uT with H|⟨H,ab⟩
     ·omega
     ·have ao8:pa=0:=by
       have e:=Jr;rw[acx b k HM,Ub (by omega)] at e
       simpa using e.symm
      rw[ab,ao8,sH];omega
    ·dsimp only;rcases uT with H|⟨H,ab⟩
     ·rw[Ud (by omega)] at rA;rw[Ud (by omega),sj (by omega),ja,rA]
     ·rw[Ud (by omega),<-H] at rA;rw[Nat.max_eq_left (by omega)];exact aba rA o1
    ·dsimp only;rw[Sm _ _ _ o1,Uc,<-Nat.add_assoc,mM,aa7 _ _ _ _ _ _ _ jn];rw[h2 (hD),h2 (1048576^i),Int.pow_add]
     have:(1048576:Int)^i*(hD*(1048576^k*pa))=1048576^i*1048576^k*(hD*pa):=by
      rw[<-h3 (hD),mN (hD) (1048576^k),h3 (1048576^k),<-h3]
     omega
   by_cases aCP:k<D b
   ·have d1:decide ((k:Int)<(D b:Int))=true:=dg;simp only[go_sem,go_sem_proc,fR,fx,ak,E,bl,bI,bC,bW,hm,md,Jr,d1,e8,iY,kv,yC,tR,rB,ES,ki,hC,jb,gg,ad,cM,aj,a5,bh];repeat' (first|refine av ?_ ?_|fail)<;>intro h<;>simp only[h,go_sem,go_sem_proc,fR,fx,ak,E,bl,bI,bC,bW,hm,md,Jr,d1,e8,iY,kv,yC,tR,rB,ES,ki,hC,jb,gg,ad,cM,aj,a5,bh]
    exact ig
   ·have d1:decide ((k:Int)<(D b:Int))=false:=c1;have d2:decide (c>0)=true:=dg;simp only[go_sem,go_sem_proc,fR,fx,ak,E,bl,bI,bC,bW,hm,md,Jr,d1,d2,e8,iY,kv,yC,tR,rB,ES,ki,hC,jb,gg,ad,cM,aj,a5,bh];repeat' (first|refine av ?_ ?_|fail)<;>intro h<;>simp only[h,go_sem,go_sem_proc,fR,fx,ak,E,bl,bI,bC,bW,hm,md,Jr,d1,d2,e8,iY,kv,yC,tR,rB,ES,ki,hC,jb,gg,ad,cM,aj,a5,bh]
    exact ig
  ·have d1:decide ((k:Int)<(D b:Int))=false:=c1;have d2:decide (c>0)=false:=c1;have ao9:c=0:=by omega
   rw[ao9,sH,tV,show b.take k=b from dD (by omega),B4] at jn;simp only[go_sem,go_sem_proc,fR,fx,ak,E,bl,bI,bC,bW,hm,d1,d2,Ae,aj];repeat' (first|refine av ?_ ?_|fail)<;>intro h<;>simp only[h,go_sem,go_sem_proc,fR,fx,ak,E,bl,bI,bC,bW,hm,d1,d2,Ae,aj]
   refine⟨(i+1,o),by dsimp only;omega,by dsimp only;omega,bx,ih,?_,?_,rfl,rfl⟩
   ·dsimp only;have ab:=congrArg (List.drop (i+1+D b-(i+max k (D b)))) rA;rw[List.drop_drop,List.drop_replicate] at ab;rw[show i+max k (D b)+(i+1+D b-(i+max k (D b)))=i+1+(D b) by omega] at ab
    rw[ab]
    congr 1
    omega
   ·dsimp only;rw[jn,sl,Int.add_mul,h3]
 ·obtain rfl:i=D a:=by omega
  have h5:decide ((D a:Int)<(D a:Int))=false:=c1;rw[dD (bP _),u7] at jn;have cE:=Cy o (by omega);rw[Fh (n:=x*y) ih (by rw[jn];rfl)] at cE;have fQ:=Fc (aF (x*y));have j2:=pM (n:=5) hQ hm;rw[bx] at j2;simp only[go_sem,go_sem_proc,fR,fx,ak,E,bl,bI,hm,h5,cE,fQ,j2,vp,pY,bL,aj];repeat' (first|refine av ?_ ?_|fail)<;>intro h<;>simp only[h,go_sem,go_sem_proc,fR,fx,ak,E,bl,bI,hm,h5,cE,fQ,j2,vp,pY,bL,aj]
def dZ.yV:dZ->List Nat->dZ
 |.seq a _,0::p=>a.yV p
 |.seq _ b,_::p=>b.yV p
 |.cond _ a _,0::p=>a.yV p
 |.cond _ _ b,_::p=>b.yV p
 |.block _ c,_::p=>c.yV p
 |.ghost _ c,_::p=>c.yV p
 |.loop c,_::p=>c.yV p
 |c,_=>c
theorem acE {n:Nat}(h:0<n)(E:n<1048576):[(n:Int)]=aF n:=(BN h E).symm
theorem apa {n:Nat}(E:n<1048576):fm [(n:Int)]=aF n:=Fh (by intro d X;have:=yG.1 X;omega) (by simp[a0])
theorem apb {d:Int}{r:Nat}(ak:0<=d)(E:d<1048576):fm (d::aF r)=aF (d.toNat+1048576*r):=Fh (BK.2 ⟨⟨ak,E⟩,mc r⟩) (by rw[ss,lf];omega)
theorem Ue {n m k:Nat}(h:n<m*1048576)(hm:(aF m).length<=k):(aF n).length<=k+1:=by
 rw[gF] at *;rw[u3];exact Bl h (rh _ (S6 hm))
theorem acF (T:bk)(oC:T Ip=aW Nf)(oD:T L4=aW Nc){K:ev->a2->Prop}{kk:List fV}(y bZ:Nat)(ao:(aF y).length<=1000)(j0:(aF bZ).length<=1001)(iC:0<y)(apc:bZ<y*1048576)(v0 v6 yW:M)(tm:Nat->M)(m:Mem)
  (b6:tm 0=v0) (aw:tm 1=.I (.af ((aF y).map ad))) (bQ:tm 6=v6) (cg:tm 7=.I (.af ((aF bZ).map ad))) (dR:tm 8=yW) (fY:tm 9=.I (.int .i64 0)) (fL:tm 10=.I (.int .i64 1048576))
  (du:∀tm',tm' 0=v0->tm' 1=.I (.af ((aF y).map ad))->tm' 6=v6->tm' 7=.I (.af ((aF bZ).map ad))->tm' 8=yW->tm' 9=.I (.int .i64 ((bZ/y:Nat):Int))->b8 T K kk (.exit 2) ⟨tm',m⟩) :
  wp T (Jp.body.yV [1,1,1,0,1,0,0,1,0,0,1,1,1,0,0]) (b8 T K kk) ⟨tm,m⟩:=by
 simp only[Jp,dZ.yV];refine dE [0,1,6,7,8] [] (λ((bG,L):Nat×Nat) tm' m'=>bG<L/\L<=1048576/\bG*y<=bZ/\bZ<L*y/\tm' 9=.I (.int .i64 bG)/\tm' 10=.I (.int .i64 L)/\m'=m) (λ(bG,L)=>L-bG) (0,1048576) (by refine⟨by omega,by omega,by omega,by rw[sr];exact apc,fY,fL,rfl⟩) ?_;intro vs ms aV aR;simp only[go_sem,go_sem_proc,b6,aw,bQ,cg,dR] at aV aR;subst aV aR;clear b6 aw bQ cg dR fY fL;rintro⟨bG,L⟩ tm m' J hm ⟨aCQ,aS,fa,iJ,iL,fI,rfl⟩;simp only[go_sem,go_sem_proc,bh] at J hm;obtain⟨ak,E,bI,bC,bW⟩:=J;have w1:IntKind.i64.wrap ((L:Int)-(bG:Int))=(L:Int)-(bG:Int):=wrap64 _ (by omega) (by omega)
 by_cases Jq:L-bG>1
 ·have d1:decide ((L:Int)-(bG:Int)>1)=true:=dg;have nd:IntKind.i64.wrap ((bG:Int)+(L:Int))=((bG+L:Nat):Int):=by rw[eA _];omega
  have cf:IntKind.i64.wrap (((bG+L:Nat):Int).tdiv 2)=(((bG+L)/2:Nat):Int):=by rw[yD (by omega),wrap64 _ (by omega) (by omega)];omega
  obtain⟨vq,apd⟩:∃vq:Nat,vq=(bG+L)/2:=⟨_,rfl⟩;rw[<-apd] at cf;have cE:=acD y vq ⟨by omega,by rw[<-acE (n:=vq) (by omega) (by omega)];simp⟩
  simp only[bL] at cE;rw[<-acE (n:=vq) (by omega) (by omega)] at cE;simp only[e5,cl,ad] at cE;have hs:(aF (y*vq)).length<=1001:=Ue (acG (show vq<1048576 by omega) iC) ao;have fQ:=ao2 bZ (y*vq) ⟨by omega,by omega⟩
  simp only[bL] at fQ;rcases X:decide (bZ<y*vq)
  ·have aG:=of_decide_eq_false X;rw[X] at fQ;refine a9 ?_;repeat' (intro h<;>simp only[h,go_sem,go_sem_proc,oC,oD,ak,E,bI,bC,bW,iL,fI,w1,nd,cf,d1,cE,fQ]<;>try refine av ?_ ?_)
   exact⟨(vq,L),by dsimp only;omega,by dsimp only;omega,aS,by dsimp only;rw[sr];omega,iJ,rfl,rfl⟩
  ·have aG:=of_decide_eq_true X;rw[X] at fQ;refine a9 ?_;repeat' (intro h<;>simp only[h,go_sem,go_sem_proc,oC,oD,ak,E,bI,bC,bW,iL,fI,w1,nd,cf,d1,cE,fQ]<;>try refine av ?_ ?_)
   exact⟨(bG,vq),by dsimp only;omega,by dsimp only;omega,by dsimp only;omega,fa,by dsimp only;rw[sr];omega,rfl,rfl⟩
 ·have d1:decide ((L:Int)-(bG:Int)>1)=false:=c1
  have bd:bZ/y=bG:=by
   have E:L=bG+1:=by omega
   subst E;exact Nat.div_eq_of_lt_le fa iJ
  refine a9 ?_;repeat' (intro h<;>simp only[h,go_sem,go_sem_proc,ak,E,bI,bC,bW,iL,fI,w1,d1]<;>try refine av ?_ ?_)
  refine du _ ?_ ?_ ?_ ?_ ?_ ?_<;>simp only[eQ,dA,if_false,ak,E,bI,bC,bW,iL,bd]
def Ng:=cy tP λ(x,y)=>cT ((aF x).length<=1000/\(aF y).length<=1000/\0<y) (.same (.cw [bL (x/y),bL (x%y)]))
@[go_sem] theorem acH (x:Nat)(y:Nat)(G:(aF x).length<=1000/\(aF y).length<=1000/\0<y):Ng [bL x,bL y]=some (.same (.cw [bL (x/y),bL (x%y)])):=(cI wK (x,y)).trans (cY G _)
theorem ape (T:bk)(fx:T su=aW Ay)(oC:T Ip=aW Nf)(oD:T L4=aW Nc)(kE:T Io=aW Nd)(x:Nat)(y:Nat)(G:(aF x).length<=1000/\(aF y).length<=1000/\0<y):WP T Jp (.same (.cw [bL (x/y),bL (x%y)])) [.I (bL x),.I (bL y)]:=by
 refine cC ?_;simp only[Jp];obtain⟨O,ao,iC⟩:=G;have sA:=mc x;have u7:=lf x;generalize a1:aF x=a at *;have kq:8*D a<=140737488355328:=by omega
 have en:(D a)<=maxLen:=EC _ (by omega);have Aj:IntKind.i64.wrap ((D a:Int)-1)=(D a:Int)-1:=wrap64 _ (by omega) (by omega);simp only[go_sem,go_sem_proc,fx,oC,oD,kE,bL,a1,kq,en,EB,Aj,aj]
 refine dE [0,1,6] [] (λ((n,r,Cz,o):Nat×Nat×M×List Int) tm mem=>n<=D a/\D o=D a/\er o/\r<y/\a0 (a.drop n)=y*a0 (o.drop n)+r/\(Cz=.nil/\r=0\/Cz=.I (bL r))/\tm 8=.I (.int .i64 ((n:Nat)-1))/\tm 7=Cz/\mem 180014=some (0,aY ad o))
  (λ(n,_)=>n) (D a,0,.nil,eu (D a) 0) (by
   refine⟨bP _,by simp,λd X=>by rw[EG] at X;omega,iC,by simp[a0],.inl ⟨rfl,rfl⟩,rfl,rfl,rfl⟩) ?_
 intro vs ms aV aR;simp only[go_sem,go_sem_proc,fx,oC,oD,kE,bL,a1,aj] at aV aR;subst aV aR;rintro⟨n,r,Cz,o⟩ tm mem J-⟨aG,bx,ih,EI,aI,Js,bW,bC,hm⟩;simp only[go_sem,go_sem_proc,fx,oC,oD,kE,bh] at J;obtain⟨ak,E,bI⟩:=J;rcases n with _|n
 ·have bd:a0 o=((x/y:Nat):Int)/\r=x%y:=by
   rw[nk,nk,u7] at aI;have aw:(x:Int)/(y:Int)=a0 o:=by rw[aI,wM,Int.add_mul_ediv_left _ _ (by omega),Int.ediv_eq_zero_of_lt (by omega) (by omega)];omega
   have aC:(x:Int)%(y:Int)=r:=by rw[aI,wM,Int.add_mul_emod_self_left,Int.emod_eq_of_lt (by omega) (by omega)]
   refine⟨by rw[<-aw];rfl,by omega⟩
  have cE:=Cy o (by omega);rw[Fh (n:=x/y) ih bd.1] at cE;have fQ:=Fc (aF (x/y));have j2:=pM (n:=5) hQ hm;rw[bx] at j2;rcases Js with ⟨rfl,o2⟩|rfl
  ·have aQ:aF (x%y)=[]:=by rw[<-bd.2,o2];rfl
   simp only[go_sem,go_sem_proc,fx,oC,oD,kE,ak,E,bI,bC,bW,hm,cE,fQ,j2,aQ,vp,pY,bL,kR,lg,show ¬ ((0:Int)-1>=0) by omega,decide_false,aj,cl]
   repeat' (first|refine av ?_ ?_|fail)<;>intro h<;>simp only[h,go_sem,go_sem_proc,fx,oC,oD,kE,ak,E,bI,bC,bW,hm,cE,fQ,j2,aQ,vp,pY,bL,kR,lg,show ¬ ((0:Int)-1>=0) by omega,decide_false,aj,cl]
  ·simp only[go_sem,go_sem_proc,fx,oC,oD,kE,ak,E,bI,bC,bW,hm,cE,fQ,j2,vp,pY,bL,kR,lg,show ¬ ((0:Int)-1>=0) by omega,decide_false,aj,cl,bd.2]
   repeat' (first|refine av ?_ ?_|fail)<;>intro h<;>simp only[h,go_sem,go_sem_proc,fx,oC,oD,kE,ak,E,bI,bC,bW,hm,cE,fQ,j2,vp,pY,bL,kR,lg,show ¬ ((0:Int)-1>=0) by omega,decide_false,aj,cl,bd.2]
 ·have md:a[n]?=some a[n]:=bs (by omega);have Mj:=kT sA n (by omega);have Si:a.drop n=a[n]::a.drop (n+1):=hW (by omega);have ie:n<D o:=by omega
  have Sk:∀e:Int,(o.set n e).drop n=e::o.drop (n+1):=λe=>by
   rw[hW (by simpa using ie),List.getElem_set_self,sj (by omega)]
  generalize a[n]=d at *;have hw:((n+1:Nat):Int)-1=(n:Int):=by omega
  have ck:decide ((n:Int)>=0)=true:=dg;have kv:IntKind.i64.wrap ((n:Int)-1)=(n:Int)-1:=wrap64 _ (by omega) (by omega);have bX:(aF r).length<=1000:=by rw[gF] at *;omega
  obtain⟨bZ,j0⟩:∃bZ:Nat,bZ=d.toNat+1048576*r:=⟨_,rfl⟩
  have Nh:bZ<y*1048576:=by
   have:(r+1)*1048576<=y*1048576:=rh _ EI;omega
  have Uf:=Ue Nh ao;have acI:=apb (d:=d) (r:=r) Mj.1 Mj.2;rw[<-j0] at acI;have cE:=Cy (d::aF r) (by rw[kf];omega);rw[acI] at cE;simp only[e5,ad] at cE;have fQ:=Fc (aF bZ)
  have x2:∀bA:Nat,l5 180026 bA 1 1 8 (aF r).length (((aF r).map ad).flatten.map .I) (some (bA,[.I (.int .i64 d)]))=some (.ref 180026 (bA+1) 1 0 (1+(aF r).length),some (180026,bA+1,aY ad (d::aF r))):=λbA=>by
   have:=Eh hQ wF 180026 bA 8 [d] (aF r) (by rw[yX];omega) (by rw[yX];omega);exact this
  have apf:∀(bA:Nat) (m:Mem),m 180026=some (bA,aY ad (d::aF r))->c8 6 m (.ref 180026 bA 1 0 (1+(aF r).length))=some (.af ((d::aF r).map ad)):=λbA m hm=>by
   have:=pM (n:=5) hQ hm;rw[kf,Nat.add_comm (aF r).length 1] at this;exact this
  have se:(((aF r).map ad).all λe=>D e==1)=true:=Sf _;have Ug:=apf (gh (mem 180026)+1) (a3 (a3 mem 180026 (gh (mem 180026)) [M.I (.int .i64 d)]) 180026 (gh (mem 180026)+1) (aY ad (d::aF r))) (by simp[a3]);have g6:n<D a:=by omega
  obtain⟨bG,fa⟩:∃bG:Nat,bG=bZ/y:=⟨_,rfl⟩;have Uh:bG<1048576:=by rw[fa];exact Nat.div_lt_of_lt_mul Nh
  have I8:=Nat.div_add_mod bZ y;have hs:=nV bZ iC;rw[<-fa] at I8;have Qa:bZ-y*bG=bZ%y:=by omega
  have aCR:(aF (y*bG)).length<=1001:=Ue (acG Uh iC) ao
  have Ni:Ay [.af [[.int .i64 ((bZ/y:Nat):Int)]]]=some (.own 1 ((aF bG).map ad)):=by
   have h:=Cy [((bZ/y:Nat):Int)] (by simp);rw[<-fa,apa Uh] at h;rw[<-fa];exact h
  have Jt:=acD y bG ⟨by omega,by have:(aF bG).length<=1:=gF.2 (by rw[Nat.pow_one];exact Uh);omega⟩
  simp only[bL] at Jt;have Fj:=acB bZ (y*bG) ⟨by omega,by omega,by omega⟩
  rw[Qa] at Fj;simp only[bL] at Fj;have hC:n+1<=(aY ad o).length:=by rw[pP];omega
  have gg:=wJ o n ((bZ/y:Nat):Int) ie
  have ig:∃a6:Nat×Nat×M×List Int,a6.1<n+1/\a6.1<=D a/\a6.2.2.2.length=D a/\er a6.2.2.2/\a6.2.1<y/\a0 (a.drop a6.1)=y*a0 (a6.2.2.2.drop a6.1)+a6.2.1/\(a6.2.2.1=.nil/\a6.2.1=0\/a6.2.2.1=.I (.af ((aF a6.2.1).map ad)))/\M.I (Data.int .i64 ((n:Int)-1))=M.I (Data.int .i64 ((a6.1:Int)-1))/\M.I (Data.af ((aF (bZ%y)).map ad))=a6.2.2.1/\some (0,aY ad (o.set n ((bZ/y:Nat):Int)))=some (0,aY ad a6.2.2.2):=by
   refine⟨(n,bZ%y,.I (bL (bZ%y)),o.set n ((bZ/y:Nat):Int)),by dsimp only;omega,by dsimp only;omega,by simp[bx],yA ih n (by omega),hs,?_,.inr rfl,rfl,rfl,rfl⟩
   dsimp only;rw[Si,ss,aI,Sk,ss,<-fa];have aw:(bZ:Int)=d+1048576*r:=by omega
   have aC:(y:Int)*bG+(bZ%y:Nat)=bZ:=by exact_mod_cast I8
   have cx:∀v:Int,(y:Int)*(bG+1048576*v)=y*bG+1048576*(y*v):=λv=>by rw[h2,Int.mul_left_comm]
   rw[cx];omega
  have main:Cz=.nil/\r=0\/Cz=.I (bL r):=Js;rcases main with ⟨rfl,o2⟩|rfl
  ·subst o2;have acJ:=x2;simp only[rr,cl,acu,mJ] at acJ;simp only[rr,mJ] at Ug;simp only[rr,cl] at cE;simp only[go_sem,go_sem_proc,fx,oC,oD,kE,ak,E,bI,bC,bW,hm,md,hw,ck,acJ,cE,fQ,Ug,vp,pY,ad,rr,aj,a5,cl];refine acF T oC oD y bZ ao Uf iC Nh (.I (.af (a.map ad))) (.ref 180014 0 1 0 (D a)) (.I (.int .i64 n)) _ _ ?_ ?_ ?_ ?_ ?_ ?_ ?_ ?_
   ·exact ak
   ·exact E
   ·exact bI
   ·rfl
   ·simp only[eQ,dA,if_false,bW,hw]
   ·rfl
   ·rfl
   intro tm' ff cH h8 hG hE mi;simp only[go_sem,go_sem_proc,fx,oC,oD,kE,ff,cH,h8,hG,hE,mi,hm,g6,hC,gg,Ni,Jt,Fj,kv,cM];repeat' (first|refine av ?_ ?_|fail)<;>intro h<;>simp only[h,go_sem,go_sem_proc,fx,oC,oD,kE,ff,cH,h8,hG,hE,mi,hm,g6,hC,gg,Ni,Jt,Fj,kv,cM]
   exact ig
  ·simp only[go_sem,go_sem_proc,fx,oC,oD,kE,ak,E,bI,bC,bW,hm,md,hw,ck,x2,se,cE,fQ,Ug,vp,pY,bL,ad,aj,a5];refine acF T oC oD y bZ ao Uf iC Nh (.I (.af (a.map ad))) (.ref 180014 0 1 0 (D a)) (.I (.int .i64 n)) _ _ ?_ ?_ ?_ ?_ ?_ ?_ ?_ ?_
   ·exact ak
   ·exact E
   ·exact bI
   ·rfl
   ·simp only[eQ,dA,if_false,bW,hw]
   ·rfl
   ·rfl
   intro tm' ff cH h8 hG hE mi;simp only[go_sem,go_sem_proc,fx,oC,oD,kE,ff,cH,h8,hG,hE,mi,hm,g6,hC,gg,Ni,Jt,Fj,kv,cM];repeat' (first|refine av ?_ ?_|fail)<;>intro h<;>simp only[h,go_sem,go_sem_proc,fx,oC,oD,kE,ff,cH,h8,hG,hE,mi,hm,g6,hC,gg,Ni,Jt,Fj,kv,cM]
   exact ig
def Fk:=cy Me λ(s,l)=>cT (D l<=1000000) (.same (.agg (cJ (jL s l))))
@[go_sem] theorem aCS (s:Int)(l:List Int)(G:(D l)<=1000000):Fk [.int .i64 s,.af (l.map ad)]=some (.same (.agg (cJ (jL s l)))):=(cI aaX (s,l)).trans (cY G _)
theorem apg (T:bk)(fx:T su=aW Ay)(s:Int)(l:List Int)(G:(D l)<=1000000):WP T TZ (.same (.agg (cJ (jL s l)))) [.I (.int .i64 s),.I (.af (l.map ad))]:=by
 refine cC ?_;simp only[TZ];have cE:=Cy l G;have fQ:=Fc (fm l);refine a9 ?_;repeat' (intro h<;>simp only[h,go_sem,go_sem_proc,fx,cE,fQ,aj]<;>try refine av ?_ ?_)
 all_goals simp only[jL,cJ,cl, *,reduceIte,ca,cv,Bool.or_true,Bool.true_or,Bool.or_false,Bool.false_or,Bool.and_true,hP,hy,fC,kh,beq_self_eq_true,bne]
def Fl:=cy z6 λ(s,l)=>cT (D l<=1000000) (.same (.bool (de (s,l))))
@[go_sem] theorem aCT (s:Int)(l:List Int)(G:(D l)<=1000000):Fl [.agg [.int .i64 s,.af (l.map ad)]]=some (.same (.bool (de (s,l)))):=(cI EA (s,l)).trans (cY G _)
theorem aph (T:bk)  (s:Int) (l:List Int) (G:(D l)<=1000000):WP T TV (.same (.bool (de (s,l)))) [.I (.agg [.int .i64 s,.af (l.map ad)])]:=by
 refine cC ?_;simp only[TV];simp only[go_sem,go_sem_proc,aj];refine dE [1] [162001] (λ(i:Nat) tm mem=>i<=D l/\l.all np=(l.drop i).all np/\tm 3=.I (.int .i64 i)) (λi=>D l-i) 0 (by refine⟨by omega,by simp,rfl⟩) ?_;intro vs ms aV aR;simp only[go_sem,go_sem_proc,aj] at aV aR;subst aV aR;rintro i tm mem J hm ⟨L,aJ,ab⟩;simp only[go_sem,go_sem_proc,bh] at J hm;have E:=J;rcases dQ (i<D l) with aq|ck
 ·have X:l.drop i=l[i]::l.drop (i+1):=hW aq;have O:l[i]?=some l[i]:=bs aq;generalize l[i]=x at *;have d1:decide ((i:Int)<(D l:Int))=true:=dg
  have ig:∀b,np x=true->b=(l.drop (i+1)).all np->l.all np=b:=by
   intro b E H;rw[aJ,X,Ee,E,H,hP]
  have IE:¬ np x=true->de (s,l)=false:=by
   intro E;rw[Bool.not_eq_true] at E;unfold de;rw[aJ,X,Ee,E]
   rfl
  have cf:=fW (i:=i) (by omega);simp only[go_sem,go_sem_proc,E,ab,hm,O,d1,cf,ad,aj,a5,bh];repeat' (first|refine av ?_ ?_|fail)<;>intro h<;>simp only[h,go_sem,go_sem_proc,E,ab,hm,O,d1,cf,ad,aj,a5,bh]
  ·rw[IE λh=>by have:=(IW x).1 h;(simp only[cb,Data.bool.injEq,Data.int.injEq,true_and,decide_eq_true_eq,decide_eq_false_iff_not,kh,beq_iff_eq,beq_eq_false_iff_ne,ne_eq] at*<;> omega)]
  ·exact⟨i+1,by omega,by omega,ig _ ((IW x).2 (by (simp only[cb,Data.bool.injEq,Data.int.injEq,true_and,decide_eq_true_eq,decide_eq_false_iff_not,kh,beq_iff_eq,beq_eq_false_iff_ne,ne_eq] at*<;> omega))) rfl,rfl⟩
  ·rw[IE λh=>by have:=(IW x).1 h;(simp only[cb,Data.bool.injEq,Data.int.injEq,true_and,decide_eq_true_eq,decide_eq_false_iff_not,kh,beq_iff_eq,beq_eq_false_iff_ne,ne_eq] at*<;> omega)]
 ·have he:l.drop i=[]:=List.drop_eq_nil_of_le (by omega);rw[he] at aJ;have ef:l.all np=true:=by rw[aJ];rfl
  have d1:decide ((i:Int)<(D l:Int))=false:=c1;rcases List.eq_nil_or_concat l with rfl|⟨r,x,rfl⟩
  ·have d2:decide ((i:Int)<0)=false:=d1;simp only[go_sem,go_sem_proc,E,ab,hm,d2,mJ,kR,lg,beq_self_eq_true,cl,bne];repeat' (first|refine av ?_ ?_|fail)<;>intro h<;>simp only[h,go_sem,go_sem_proc,E,ab,hm,d2,mJ,kR,lg,beq_self_eq_true,cl,bne]
   all_goals (refine congrArg (λb=>some (Data.bool b)) ?_;unfold de;simp;try simp only[decide_eq_true_eq,decide_eq_false_iff_not,beq_iff_eq,beq_eq_false_iff_ne,pZ,acK,beq_eq_false_iff_ne,ne_eq] at *;omega)
  ·rw[List.concat_eq_append] at *;have bN:(((r++[x]).length:Int)==0)=false:=by simp;omega
   have hw:IntKind.i64.wrap (((r++[x]).length:Int)-1)=(D r:Int):=by
    have b0:(r++[x]).length=D r+1:=by simp
    rw[eA _];omega
   have aX:((r++[x]).map ad)[D r]?=some [.int .i64 x]:=by simp[ad]
   have Y:de (s,r++[x])=((s==1||s == -1)&&decide (((r++[x]).length:Int)<=60)&&(x != 0)):=by
    unfold de;rw[ef];simp only[List.getLast?_append,List.getLast?_singleton];simp;have aw:decide (D r<=59)=decide ((D r:Int)+1<=60):=decide_eq_decide.2 (by omega);have aC:(some x != some (0:Int))=(x != 0):=by simp[bne]
    rw[aw,aC]
   rw[Y];simp only[go_sem,go_sem_proc,E,ab,hm,d1,bN,hw,aX,aj];repeat' (first|refine av ?_ ?_|fail)<;>intro h<;>simp only[h,go_sem,go_sem_proc,E,ab,hm,d1,bN,hw,aX,aj]
   all_goals (refine congrArg (λb=>some (Data.bool b)) ?_;clear aJ ef Y aX hw J hm E ab d1;rw[kB];simp only[e3,Bool.or_eq_true,decide_eq_true_eq,decide_eq_false_iff_not,beq_iff_eq,beq_eq_false_iff_ne,pZ,acK,ne_eq,kh,false_iff,true_iff] at *;omega)
def Ui:=cy z6 λ(s,l)=>cT (D l<=1000000) (.same (.agg (cJ (jv (s,l)))))
@[go_sem] theorem aCU (s:Int)(l:List Int)(G:(D l)<=1000000):Ui [.agg [.int .i64 s,.af (l.map ad)]]=some (.same (.agg (cJ (jv (s,l))))):=(cI EA (s,l)).trans (cY G _)
theorem api (T:bk)(jy:T tK=aW Fl)(gB:T tL=aW Fk)(s:Int)(l:List Int)(G:(D l)<=1000000):WP T TW (.same (.agg (cJ (jv (s,l))))) [.I (.agg [.int .i64 s,.af (l.map ad)])]:=by
 refine cC ?_;simp only[TW]
 by_cases Y:de (s,l)=true
 ·obtain⟨z,aQ,e⟩:=(ju _).1 Y;have aw:jv (s,l)=bE (-z):=by unfold jv;rw[Z Y,e,fs]
  cases e
  have hw:IntKind.i64.wrap (0-z.sign) = -z.sign:=by
   have:=Int.sign_trichotomy z;rw[eA _];omega
  rw[aw];refine a9 ?_;repeat' (intro h<;>simp only[h,go_sem,go_sem_proc,jy,gB,Y,G,hw,abO,cJ]<;>try refine av ?_ ?_)
 ·have Y:de (s,l)=false:=by simpa using Y
  have aw:jv (s,l)=(0,[]):=by unfold jv;rw[Y];rfl
  rw[aw];refine a9 ?_;repeat' (intro h<;>simp only[h,go_sem,go_sem_proc,jy,gB,Y,G,cJ,cl]<;>try refine av ?_ ?_)
theorem acL (n:Int):(n.tmod 1048576).natAbs=n.natAbs%1048576:=by rw[Int.natAbs_tmod];rfl
theorem acM (n:Int):(n.tdiv 1048576).natAbs=n.natAbs/1048576:=by rw[Int.natAbs_tdiv];rfl
def Uj:=cy z5 λ(n:Int)=>cT (dv n) (.same (.agg (cJ (bE n))))
@[go_sem] theorem aCV (n:Int)(G:dv n):Uj [.int .i64 n]=some (.same (.agg (cJ (bE n)))):=(cI Ez n).trans (cY G _)
theorem apj (T:bk)(gB:T tL=aW Fk)(n:Int)(G:dv n):WP T TU (.same (.agg (cJ (bE n)))) [.I (.int .i64 n)]:=by
 refine cC ?_;simp only[TU];have nR:=G;unfold dv at nR;obtain⟨pF,wh⟩:=nR;have hlen:(aF n.natAbs).length<=60:=gF.2 (wZ G);rcases dQ (n=0) with rfl|mH
 ·simp only[go_sem,go_sem_proc,gB,cJ,beq_self_eq_true];repeat' (first|refine av ?_ ?_|fail)<;>intro h<;>simp only[h,go_sem,go_sem_proc,gB,cJ,beq_self_eq_true]
  rfl
 have bN:(n==0)=false:=by simpa using mH
 have Q:∀s:Int,s=n.sign->jL s (aF n.natAbs)=bE n:=λs h=>o5 rfl λ_=>h;have ua:(aF n.natAbs).length<=1000000:=by omega
 rcases dQ (n<0) with j3|hO
 ·have xd:=Q (-1) (pQ j3).symm;simp only[go_sem,go_sem_proc,gB,bN,j3,decide_true];refine dE [2,3] [144002] (λ((u,g,l):Int×Nat×List Int) tm mem=>u<=0/\n<=u/\aF n.natAbs=l++aF u.natAbs/\tm 0=.I (.int .i64 u)/\tm 4=.ref 144022 g 1 0 (D l)/\mem 144022=some (g,aY ad l)) (λ(u,_)=>u.natAbs) (n,0,[]) (by refine⟨by omega,by omega,rfl,rfl,rfl,rfl⟩) ?_;intro vs ms aV aR;simp only[go_sem,go_sem_proc,gB,j3,decide_true] at aV aR;subst aV aR;rintro⟨u,g,l⟩ tm mem J hm ⟨hu,apk,X,ak,aM,vr⟩;simp only[go_sem,go_sem_proc,gB,bh] at J hm;obtain⟨H,ab⟩:=J;rcases dQ (u=0) with rfl|Cj
  ·rw[show (0:Int).natAbs=0 from rfl,rr,h1] at X;rw[X] at xd ua;simp only[go_sem,go_sem_proc,gB,ak,H,ab,aM,hm,vr,xd,ua,mb hQ,oA,cJ,aj,beq_self_eq_true];repeat' (first|refine av ?_ ?_|fail)<;>intro h<;>simp only[h,go_sem,go_sem_proc,gB,ak,H,ab,aM,hm,vr,xd,ua,mb hQ,oA,cJ,aj,beq_self_eq_true]
  ·have yH:(D l)<=60:=by
    have:=congrArg D X;rw[hr] at this;omega
   have wR:(u==0)=false:=by simpa using Cj
   have di:=λd:Int=>mK hQ wF 144022 g 8 l d (cs:=[.I (.int .i64 d)]) rfl (by omega) (by omega);have aw:=acL u;have aC:=acM u;have cx:u.tmod 1048576<=0:=by have:=acN (a:=-u) 1048576 (by omega);rw[Int.neg_tmod] at this;omega
   have dk:u.tdiv 1048576<=0/\u<=u.tdiv 1048576:=by
    have:=acO (a:=-u) (b:=1048576) (by omega) (by omega);rw[Int.neg_tdiv] at this;omega
   have nX:IntKind.i64.wrap (u.tdiv 1048576)=u.tdiv 1048576:=wrap64 _ (by omega) (by omega);have e8:IntKind.i64.wrap (0-u.tmod 1048576) = -(u.tmod 1048576):=by rw[eA _];omega
   have tT:=tG (n:=u.natAbs) (by omega)
   have ig:∀d:Int,d=((u.natAbs%1048576:Nat):Int)->∃a6:Int×Nat×List Int,a6.1.natAbs<u.natAbs/\a6.1<=0/\n<=a6.1/\aF n.natAbs=a6.2.2++aF a6.1.natAbs/\M.I (.int .i64 (u.tdiv 1048576))=M.I (.int .i64 a6.1)/\M.ref 144022 (g+1) 1 0 (D l+1)=M.ref 144022 a6.2.1 1 0 a6.2.2.length/\some (g+1,aY ad (l++[d]))=some (a6.2.1,aY ad a6.2.2):=by
    intro d zF;refine⟨(u.tdiv 1048576,g+1,l++[d]),by dsimp only;omega,by dsimp only;omega,by dsimp only;omega,?_,rfl,by simp,rfl⟩
    dsimp only;rw[X,tT,zF,aC,gN]
    rfl
   by_cases aQ:u.tmod 1048576<0
   ·simp only[go_sem,go_sem_proc,gB,ak,H,ab,aM,hm,vr,wR,di,nX,e8,aQ,decide_true,aj,bh];repeat' (first|refine av ?_ ?_|fail)<;>intro h<;>simp only[h,go_sem,go_sem_proc,gB,ak,H,ab,aM,hm,vr,wR,di,nX,e8,aQ,decide_true,aj,bh]
    exact ig _ (by omega)
   ·simp only[go_sem,go_sem_proc,gB,ak,H,ab,aM,hm,vr,wR,di,nX,e8,aQ,decide_false,aj,bh];repeat' (first|refine av ?_ ?_|fail)<;>intro h<;>simp only[h,go_sem,go_sem_proc,gB,ak,H,ab,aM,hm,vr,wR,di,nX,e8,aQ,decide_false,aj,bh]
    exact ig _ (by omega)
 ·have xd:=Q 1 (jd (by omega)).symm;simp only[go_sem,go_sem_proc,gB,bN,hO,decide_false];refine dE [2,3] [144002] (λ((u,g,l):Int×Nat×List Int) tm mem=>0<=u/\u<=n/\aF n.natAbs=l++aF u.natAbs/\tm 0=.I (.int .i64 u)/\tm 4=.ref 144022 g 1 0 (D l)/\mem 144022=some (g,aY ad l)) (λ(u,_)=>u.natAbs) (n,0,[]) (by refine⟨by omega,by omega,rfl,rfl,rfl,rfl⟩) ?_;intro vs ms aV aR;simp only[go_sem,go_sem_proc,gB,hO,decide_false] at aV aR;subst aV aR;rintro⟨u,g,l⟩ tm mem J hm ⟨hu,apk,X,ak,aM,vr⟩;simp only[go_sem,go_sem_proc,gB,bh] at J hm;obtain⟨H,ab⟩:=J;rcases dQ (u=0) with rfl|Cj
  ·rw[show (0:Int).natAbs=0 from rfl,rr,h1] at X;rw[X] at xd ua;simp only[go_sem,go_sem_proc,gB,ak,H,ab,aM,hm,vr,xd,ua,mb hQ,oA,cJ,aj,beq_self_eq_true];repeat' (first|refine av ?_ ?_|fail)<;>intro h<;>simp only[h,go_sem,go_sem_proc,gB,ak,H,ab,aM,hm,vr,xd,ua,mb hQ,oA,cJ,aj,beq_self_eq_true]
  ·have yH:(D l)<=60:=by
    have:=congrArg D X;rw[hr] at this;omega
   have wR:(u==0)=false:=by simpa using Cj
   have di:=λd:Int=>mK hQ wF 144022 g 8 l d (cs:=[.I (.int .i64 d)]) rfl (by omega) (by omega);have aw:=acL u;have aC:=acM u;have cx:=acN (a:=u) 1048576 (by omega);have dk:=acO (a:=u) (b:=1048576) (by omega) (by omega);have nX:IntKind.i64.wrap (u.tdiv 1048576)=u.tdiv 1048576:=wrap64 _ (by omega) (by omega);have tT:=tG (n:=u.natAbs) (by omega);have aQ:decide (u.tmod 1048576<0)=false:=c1;simp only[go_sem,go_sem_proc,gB,ak,H,ab,aM,hm,vr,wR,di,nX,aQ,aj,bh];repeat' (first|refine av ?_ ?_|fail)<;>intro h<;>simp only[h,go_sem,go_sem_proc,gB,ak,H,ab,aM,hm,vr,wR,di,nX,aQ,aj,bh]
   refine⟨(u.tdiv 1048576,g+1,l++[u.tmod 1048576]),by dsimp only;omega,by dsimp only;omega,by dsimp only;omega,?_,rfl,by simp,by first|rfl|simp[go_sem]⟩
   dsimp only;rw[X,tT,aC,gN,show u.tmod 1048576=((u.natAbs%1048576:Nat):Int) by omega]
   rfl
def vt (a b:Raw):Bool:=decide (a=b)
def Uk:=cy tZ λ(s,l,s2,al)=>cT (D l<=1000000/\D al<=1000000) (.same (ft (lo (s,l) (s2,al))))
@[go_sem] theorem aCW (s:Int)(l:List Int)(s2:Int)(al:List Int)(G:(D l)<=1000000/\D al<=1000000):Uk [.agg [.int .i64 s,.af (l.map ad)],.agg [.int .i64 s2,.af (al.map ad)]]=some (.same (ft (lo (s,l) (s2,al)))):=(cI wV (s,l,s2,al)).trans (cY G _)
theorem apl (T:bk)(jy:T tK=aW Fl)(nz:T Im=aW Ng)(gB:T tL=aW Fk)(s:Int)(l:List Int)(s2:Int)(al:List Int)(G:(D l)<=1000000/\D al<=1000000):WP T TX (.same (ft (lo (s,l) (s2,al)))) [.I (.agg [.int .i64 s,.af (l.map ad)]),.I (.agg [.int .i64 s2,.af (al.map ad)])]:=by
 refine cC ?_;simp only[TX];obtain⟨bK,b0⟩:=G
 by_cases Y:de (s,l)=true
 ·by_cases bw:de (s2,al)=true
  ·obtain⟨x,O,e⟩:=(ju _).1 Y;obtain⟨y,ao,aC⟩:=(ju _).1 bw
   have hm:lo (s,l) (s2,al)=(bE (iO x.natAbs y.natAbs:Nat),0):=by
    rw[e,aC];unfold lo
    rw[kA O,kA ao,fs,fs]
    rfl
   rw[hm];clear hm
   cases e
   cases aC;have nv:=qJ O;have kx:=qJ ao;have aX:=I2 O ao;generalize lS:x.natAbs=cA at *;generalize yK:y.natAbs=fK at *;have SY:(aF cA).length<=1000000:=by omega
   simp only[go_sem,go_sem_proc,jy,nz,gB,Y,bw,lS,yK,bK,b0,SY,ad,aj];refine dE [4] [164004] (λ((a,b):Nat×Nat) tm mem=>a<dI/\b<dI/\iO cA fK=iO a b/\tm 6=.I (.af ((aF a).map ad))/\tm 7=.I (.af ((aF b).map ad))) (λ(_,b)=>b) (cA,fK) (by refine⟨O,ao,rfl,rfl,rfl⟩) ?_;intro vs ms aV aR;simp only[go_sem,go_sem_proc,jy,nz,gB,lS,yK] at aV aR;subst aV aR;rintro⟨a,b⟩ tm mem J hm ⟨a1,ae,vh,bI,bC⟩;simp only[go_sem,go_sem_proc,jy,nz,gB,bh] at J hm;have aM:=J;have kr:(aF a).length<=60:=gF.2 a1;have mR:(aF b).length<=60:=gF.2 ae;rcases jm b with ak|hO
   ·subst ak;have aQ:aF 0=[]:=rfl;have SZ:(aF a).length<=1000000:=by omega
    rw[Nat.gcd_zero_right] at vh;have Q:jL 1 (aF a)=bE ((a:Nat):Int):=o5 (by simp) λaG=>(jd (by omega)).symm;rw[vh];refine a9 ?_;repeat' (intro h<;>simp only[h,go_sem,go_sem_proc,jy,nz,gB,aM,bI,bC,hm,aQ,SZ,Q,cJ,ft,mS,cl,mJ,kR,lg,show ¬ ((0:Int)>0) by omega,decide_false]<;>try refine av ?_ ?_)
   ·have bN:decide (((aF b).length:Int)>0)=true:=by
     have:aF b≠[]:=by rw[Ne,yn];omega
     have:=Ap.2 this;exact dg
    have hdiv:=acH a b ⟨by omega,by omega,hO⟩
    simp only[bL] at hdiv;refine a9 ?_;repeat' (intro h<;>simp only[h,go_sem,go_sem_proc,jy,nz,gB,aM,bI,bC,hm,bN,hdiv,aj]<;>try refine av ?_ ?_)
    exact⟨(b,a%b),nV _ hO,ae,sD (Nat.mod_le _ _) a1,by dsimp only;rw[vh,I3 a b,Nat.gcd_rec b a,I3],rfl,rfl⟩
  ·have bw:de (s2,al)=false:=by simpa using bw
   have hm:lo (s,l) (s2,al)=((0,[]),1):=by unfold lo;rw[bw,hy];rfl
   rw[hm];refine a9 ?_;repeat' (intro h<;>simp only[h,go_sem,go_sem_proc,jy,nz,gB,Y,bw,bK,b0,cJ,ft,cl]<;>try refine av ?_ ?_)
 ·have Y:de (s,l)=false:=by simpa using Y
  have hm:lo (s,l) (s2,al)=((0,[]),1):=by unfold lo;rw[Y,fC];rfl
  rw[hm];refine a9 ?_;repeat' (intro h<;>simp only[h,go_sem,go_sem_proc,jy,nz,gB,Y,bK,b0,cJ,ft,cl]<;>try refine av ?_ ?_)

def Ul:=cy tZ λ(s,l,s2,al)=>cT (D l<=1000000/\D al<=1000000) (.same (gY (j4 (s,l) (s2,al))))
@[go_sem] theorem aCX (s:Int)(l:List Int)(s2:Int)(al:List Int)(G:(D l)<=1000000/\D al<=1000000):Ul [.agg [.int .i64 s,.af (l.map ad)],.agg [.int .i64 s2,.af (al.map ad)]]=some (.same (gY (j4 (s,l) (s2,al)))):=(cI wV (s,l,s2,al)).trans (cY G _)
theorem apm (T:bk)(jy:T tK=aW Fl)(nz:T Im=aW Ng)(uf:T Rm=aW Ua)(kE:T Io=aW Nd)(gB:T tL=aW Fk)(s:Int)(l:List Int)(s2:Int)(al:List Int)(G:(D l)<=1000000/\D al<=1000000):WP T TY (.same (gY (j4 (s,l) (s2,al)))) [.I (.agg [.int .i64 s,.af (l.map ad)]),.I (.agg [.int .i64 s2,.af (al.map ad)])]:=by
 refine cC ?_;simp only[TY];obtain⟨bK,b0⟩:=G
 by_cases Y:de (s,l)=true
 ·by_cases bw:de (s2,al)=true
  ·obtain⟨x,O,e⟩:=(ju _).1 Y;obtain⟨y,ao,aC⟩:=(ju _).1 bw
   by_cases iC:y=0
   ·have hm:j4 (s,l) (s2,al)=((0,[]),(0,[]),15):=by
     rw[e,aC];unfold j4
     rw[kA O,kA ao,fs,fs,Z (by rfl),Z iC]
    rw[hm]
    cases e
    cases aC;have ak:((y.sign:Int)==0)=true:=by rw[iC];rfl
    simp only[go_sem,go_sem_proc,jy,nz,uf,kE,gB,Y,bw,bK,b0,ak,cJ,gY,cl];repeat' (first|refine av ?_ ?_|fail)<;>intro h<;>simp only[h,go_sem,go_sem_proc,jy,nz,uf,kE,gB,Y,bw,bK,b0,ak,cJ,gY,cl]
   ·have hm:j4 (s,l) (s2,al)=(bE (x.fdiv y),bE (x.fmod y),0):=by
     rw[e,aC];exact Cf O ao iC
    rw[hm];clear hm
    cases e
    cases aC;have nv:=qJ O;have kx:=qJ ao;have sJ:(y.sign==0)=false:=by rw[beq_eq_false_iff_ne,Ne,Int.sign_eq_zero_iff_zero];exact iC
    have Cg:0<y.natAbs:=by omega
    have E:=qK x;have H:=qK y;have aB:x.sign*y.sign=(x*y).sign:=(pR x y).symm;have ab:=qK (x*y);have hw:IntKind.i64.wrap (x.sign*y.sign)=x.sign*y.sign:=by rw[aB];exact wrap64 _ (by omega) (by omega)
    have hdiv:=acH x.natAbs y.natAbs ⟨by omega,by omega,Cg⟩
    simp only[bL] at hdiv;have bd:=E3 (y:=y) O iC;have wY:=abX (x:=x) ao iC;have S0:x.natAbs/y.natAbs<dI:=sD (Nat.div_le_self _ _) O;have anX:(aF (x.natAbs/y.natAbs)).length<=60:=gF.2 S0;have Ch:x.natAbs%y.natAbs<dI:=Nat.lt_trans (nV _ Cg) ao;have anY:(aF (x.natAbs%y.natAbs)).length<=60:=gF.2 Ch
    by_cases sK:x.sign*y.sign<0/\x.natAbs%y.natAbs≠0
    ·obtain⟨eq,sL⟩:=ML sK.1 sK.2
     have bN:(((aF (x.natAbs%y.natAbs)).length:Int)==0)=false:=by
      have:aF (x.natAbs%y.natAbs)≠[]:=by rw[Ne,yn];exact sK.2
      have:=Ap.2 this;rw[beq_eq_false_iff_ne];omega
     have j3:decide (x.sign*y.sign>=0)=false:=ob (by have:=sK.1;omega);have jM:aF 1=[1]:=by simp[aF,wE]
     have anZ:(aF 1).length=1:=by rw[jM];rfl
     have n1:=ao4 (x.natAbs/y.natAbs) 1 ⟨by omega,by omega⟩
     simp only[bL,jM,e5,cl,ad] at n1;have ln:=acB y.natAbs (x.natAbs%y.natAbs) ⟨by omega,by omega,S6 (nV _ Cg)⟩
     simp only[bL] at ln
     have kr:(aF (x.natAbs/y.natAbs+1)).length<=1000000:=by
      have:(x.natAbs/y.natAbs+1)<dI:=by rw[eq] at bd;rw[I4,ml] at bd;exact bd
      have:=(gF (k:=60)).2 this;omega
     have mR:(aF (y.natAbs-x.natAbs%y.natAbs)).length<=1000000:=by have:=MI y.natAbs (x.natAbs%y.natAbs);omega
     have hF:jL (-1) (aF (x.natAbs/y.natAbs+1))=bE (x.fdiv y):=o5 (by rw[eq,I4,ml]) λ_=>by rw[eq,Ce,jd (show (0:Int)<((x.natAbs/y.natAbs+1:Nat):Int) by exact Aq.2 (Nat.succ_pos _))]
     have ik:jL y.sign (aF (y.natAbs-x.natAbs%y.natAbs))=bE (x.fmod y):=by
      refine o5 ?_ λaG=>?_
      ·rw[sL];rcases lX y with ⟨e',ab⟩|⟨e',ab⟩|⟨e',ab⟩<;>rw[e']<;>omega
      ·rw[sL,pR,yL,jd (show (0:Int)<((y.natAbs-x.natAbs%y.natAbs:Nat):Int) by omega),tO]
     simp only[go_sem,go_sem_proc,jy,nz,uf,kE,gB,Y,bw,bK,b0,sJ,hw,hdiv,bN,j3,n1,ln,kr,mR,hF,ik,ad,aj,cJ,gY,mS];repeat' (first|refine av ?_ ?_|fail)<;>intro h<;>simp only[h,go_sem,go_sem_proc,jy,nz,uf,kE,gB,Y,bw,bK,b0,sJ,hw,hdiv,bN,j3,n1,ln,kr,mR,hF,ik,ad,aj,cJ,gY,mS]
    ·obtain⟨eq,sL⟩:=MM iC sK
     have S2:(decide (x.sign*y.sign>=0)=false/\(((aF (x.natAbs%y.natAbs)).length:Int)==0)=true)\/decide (x.sign*y.sign>=0)=true:=by
      by_cases aG:x.sign*y.sign<0
      ·left
       have:x.natAbs%y.natAbs=0:=Decidable.not_not.1 λh=>sK ⟨aG,h⟩;rw[this];exact⟨c1,rfl⟩
      ·right;exact dg
     have kr:(aF (x.natAbs/y.natAbs)).length<=1000000:=by omega
     have mR:(aF (x.natAbs%y.natAbs)).length<=1000000:=by omega
     have hF:jL (x.sign*y.sign) (aF (x.natAbs/y.natAbs))=bE (x.fdiv y):=by
      refine o5 ?_ λaG=>?_
      ·rw[eq]
       have Ci:∀aH:Nat,(x=0->aH=0)->(x.sign*y.sign*(aH:Int)).natAbs=aH:=by
        intro aH ak;rcases lX x with ⟨e,E⟩|⟨e,E⟩|⟨e,E⟩<;>rcases lX y with ⟨e',ab⟩|⟨e',ab⟩|⟨e',ab⟩<;>rw[e,e']<;>first|omega|(rw[ak E];rfl)
       exact Ci _ λak=>by rw[ak];exact acy _
      ·rw[eq,aB,pR,pR,pR,yL,yL,jd (show (0:Int)<((x.natAbs/y.natAbs:Nat):Int) from Aq.2 (Eo aG)),tO]
     have ik:jL x.sign (aF (x.natAbs%y.natAbs))=bE (x.fmod y):=by
      refine o5 ?_ λaG=>?_
      ·rw[sL]
       have Ci:∀aH:Nat,(x=0->aH=0)->(x.sign*(aH:Int)).natAbs=aH:=by
        intro aH ak;rcases lX x with ⟨e,E⟩|⟨e,E⟩|⟨e,E⟩<;>rw[e]<;>first|omega|(rw[ak E];rfl)
       exact Ci _ λak=>by rw[ak];exact Nat.zero_mod _
      ·rw[sL,pR,yL,jd (show (0:Int)<((x.natAbs%y.natAbs:Nat):Int) from Aq.2 (Eo aG)),tO]
     rcases S2 with ⟨vi,I5⟩|vi
     ·simp only[go_sem,go_sem_proc,jy,nz,uf,kE,gB,Y,bw,bK,b0,sJ,hw,hdiv,vi,I5,kr,mR,hF,ik,ad,aj,cJ,gY,mS];repeat' (first|refine av ?_ ?_|fail)<;>intro h<;>simp only[h,go_sem,go_sem_proc,jy,nz,uf,kE,gB,Y,bw,bK,b0,sJ,hw,hdiv,vi,I5,kr,mR,hF,ik,ad,aj,cJ,gY,mS]
     ·simp only[go_sem,go_sem_proc,jy,nz,uf,kE,gB,Y,bw,bK,b0,sJ,hw,hdiv,vi,kr,mR,hF,ik,ad,aj,cJ,gY,mS];repeat' (first|refine av ?_ ?_|fail)<;>intro h<;>simp only[h,go_sem,go_sem_proc,jy,nz,uf,kE,gB,Y,bw,bK,b0,sJ,hw,hdiv,vi,kr,mR,hF,ik,ad,aj,cJ,gY,mS]
  ·have bw:de (s2,al)=false:=by simpa using bw
   have hm:j4 (s,l) (s2,al)=((0,[]),(0,[]),1):=by unfold j4;rw[bw,hy];rfl
   rw[hm];simp only[go_sem,go_sem_proc,jy,nz,uf,kE,gB,Y,bw,bK,b0,cJ,gY,cl];repeat' (first|refine av ?_ ?_|fail)<;>intro h<;>simp only[h,go_sem,go_sem_proc,jy,nz,uf,kE,gB,Y,bw,bK,b0,cJ,gY,cl]
 ·have Y:de (s,l)=false:=by simpa using Y
  have hm:j4 (s,l) (s2,al)=((0,[]),(0,[]),1):=by unfold j4;rw[Y,fC];rfl
  rw[hm];simp only[go_sem,go_sem_proc,jy,nz,uf,kE,gB,Y,bK,b0,cJ,gY,cl];repeat' (first|refine av ?_ ?_|fail)<;>intro h<;>simp only[h,go_sem,go_sem_proc,jy,nz,uf,kE,gB,Y,bK,b0,cJ,gY,cl]
def Um:b1:=cu 17 2 [.t 4] (R [dM 2 120002 0,dM 3 120003 1,c5 4 false] (R [aT 5 0 2,bm 6 2 5,aT 7 0 3,bm 8 2 7,(cd 9 LW 6 8),F 10 9,⟨some 11,some (10,true),.et 2 (.t 2)⟩,⟨some 12,some (10,true),.load 2 true (.t 11)⟩,⟨some 13,some (10,true),.et 2 (.t 3)⟩,⟨some 14,some (10,true),.load 2 true (.t 13)⟩,⟨some 15,some (10,true),.call LW [(.t 12),(.t 14)]⟩,gG 16 10 15,F 4 16] .ret))
def Un:b1:=cu 13 2 [.cell 4 4 true,.t 5] (R [(ax 4 (.alloc 124004 [(ag 0),.nil,(ag 0),.nil])),bt 5 0] (R [F 6 0,(dN 7 LX 6),F 8 1,(dN 9 LX 8),(cd 10 Ra 7 9),br 11 0 10,br 12 1 10,bb 4 4 11,F 5 12] .ret))
def Uo:b1:=cu 38 2 [.t 4] (R [dM 2 142002 0,dM 3 142003 1,c5 4 false] (.seq (R [aT 6 0 2,aK 7 1 6,aT 8 0 3,aK 9 1 8,bB 10 .neq 7 9,F 11 10,⟨some 12,some (11,false),.et 1 (.t 2)⟩,⟨some 13,some (11,false),.load 1 false (.t 12)⟩,⟨some 14,some (11,false),.len (.t 13)⟩,⟨some 15,some (11,false),.et 1 (.t 3)⟩,⟨some 16,some (11,false),.load 1 false (.t 15)⟩,⟨some 17,some (11,false),.len (.t 16)⟩,⟨some 18,some (11,false),.bin .neq (.t 14) (.t 17)⟩,dn 19 11 18] (a4 19 (R [c5 4 false] .ret) .skip)) (.seq (R [bt 5 0] (.block 0 (.loop  (.seq (R [F 20 5,aT 21 1 2,aK 22 1 21,cp 23 22,bB 24 .lss 20 23] (a4 24 .skip (.exit 0))) (.seq (.block 1 (fc [aT 27 1 2,aK 28 1 27,F 29 5,bM 30 1 28 29,aK 31 1 30,aT 32 1 3,aK 33 1 32,F 34 5,bM 35 1 33 34,aK 36 1 35,bB 37 .neq 31 36] z4 (a4 37 (R [c5 4 false] .ret) .skip))) (.ops [F 25 5,bc 26 .add 25 1,F 5 26])))))) (R [c5 4 true] .ret))))
def Up:b1:=cu 57 2 [.cell 4 4 true,.t 5] (R [dM 2 143002 0,dM 3 143003 1,(ax 4 (.alloc 143004 [(ag 0),.nil,(ag 0),.nil])),bt 5 0] (.seq (R [bm 14 2 2,(dN 15 tK 14),gi 16 15,F 17 16,⟨some 18,some (17,false),.load 2 true (.t 3)⟩,⟨some 19,some (17,false),.call tK [(.t 18)]⟩,⟨some 20,some (17,false),.un .not (.t 19)⟩,dn 21 17 20] (a4 21 (R [(ax 22 (.build [(ag 0),.nil,(ag 0),.nil] [])),bb 4 4 22,bt 5 1] .ret) .skip)) (.seq (R [aT 23 0 3,aK 24 1 23,bc 25 .eql 24 0] (a4 25 (R [(ax 26 (.build [(ag 0),.nil,(ag 0),.nil] [])),bb 4 4 26,bt 5 15] .ret) .skip)) (.seq (R [aT 27 0 3,aK 28 1 27,bc 29 .lss 28 0] (a4 29 (R [bm 30 2 2,(dN 31 L0 30),bb 2 2 31] (.ops [bm 32 2 3,(dN 33 L0 32),bb 2 3 33])) .skip)) (R [bm 35 2 2,bm 36 2 3,(cd 37 Ri 35 36),F 34 37,br 38 0 34,br 39 1 34,(ax 6 (.alloc 143006 [(ag 0),.nil])),bb 2 6 38,F 7 39] (R [bm 41 2 2,bm 42 2 6,(cd 43 L1 41 42),F 40 43,br 44 0 40,br 45 1 40,br 46 2 40,(ax 8 (.alloc 143008 [(ag 0),.nil])),(ax 9 (.alloc 143009 [(ag 0),.nil])),bb 2 8 44,bb 2 9 45,F 10 46] (R [bm 48 2 3,bm 49 2 6,(cd 50 L1 48 49),F 47 50,br 51 0 47,br 52 1 47,br 53 2 47,(ax 11 (.alloc 143011 [(ag 0),.nil])),(ax 12 (.alloc 143012 [(ag 0),.nil])),bb 2 11 51,bb 2 12 52,F 13 53] (R [bm 54 2 8,bm 55 2 11,(ax 56 (.build [(ag 0),.nil,(ag 0),.nil] [(0,2,(.t 54)),(2,2,(.t 55))])),bb 4 4 56,bt 5 0] .ret))))))))
def Uq:=cy tZ λ(s,l,s2,al)=>cT (D l<=1000000/\D al<=1000000) (.same (eh (g8 (s,l) (s2,al))))
@[go_sem] theorem aCY (s:Int)(l:List Int)(s2:Int)(al:List Int)(G:(D l)<=1000000/\D al<=1000000):Uq [.agg [.int .i64 s,.af (l.map ad)],.agg [.int .i64 s2,.af (al.map ad)]]=some (.same (eh (g8 (s,l) (s2,al)))):=(cI wV (s,l,s2,al)).trans (cY G _)
theorem apn (T:bk)(jy:T tK=aW Fl)(Ju:T L0=aW Ui)(Jv:T Ri=aW Uk)(Jw:T L1=aW Ul)(s:Int)(l:List Int)(s2:Int)(al:List Int)(G:(D l)<=1000000/\D al<=1000000):WP T Up (.same (eh (g8 (s,l) (s2,al)))) [.I (.agg [.int .i64 s,.af (l.map ad)]),.I (.agg [.int .i64 s2,.af (al.map ad)])]:=by
 refine cC ?_;simp only[Up];obtain⟨bK,b0⟩:=G
 by_cases Y:de (s,l)=true
 ·by_cases bw:de (s2,al)=true
  ·obtain⟨x,O,e⟩:=(ju _).1 Y;obtain⟨y,ao,aC⟩:=(ju _).1 bw
   by_cases ak:y=0
   ·have hm:g8 (s,l) (s2,al)=(dW,15):=by
     unfold g8;rw[Y,bw,aC,fs,Z (by rfl),Z ak]
    rw[hm]
    cases e
    cases aC;have Q:(y.sign==0)=true:=by rw[ak];rfl
    refine a9 ?_;repeat' (intro h<;>simp only[h,go_sem,go_sem_proc,jy,Ju,Jv,Jw,Y,bw,bK,b0,Q,eh,aL,dW,cl]<;>try refine av ?_ ?_)
   ·have main:∀p q:Int,p.natAbs<dI->q.natAbs<dI->0<q->∃g:Raw,lo (bE p) (bE q)=(g,0)/\g.2.length<=1000000/\j4 (bE p) g=(bE (lp p q).num,bE (p.fmod ((iO p.natAbs q.natAbs:Nat):Int)),0)/\j4 (bE q) g=(bE (lp p q).den,bE (q.fmod ((iO p.natAbs q.natAbs:Nat):Int)),0):=by
     intro p q aB bd lR;have n2:=I2 aB bd;have Co:((iO p.natAbs q.natAbs:Nat):Int).natAbs<dI:=by rw[ml];exact n2
     have Mr:=Tm (p:=p) (q:=q) (by omega);obtain⟨E,H⟩:=Tl (p:=p) lR;refine⟨bE ((iO p.natAbs q.natAbs:Nat):Int),?_,mT Co,?_,?_⟩
     ·unfold lo;rw[kA aB,kA bd,fs,fs];rfl
     ·rw[Cf aB Co (by omega),E]
     ·rw[Cf bd Co (by omega),H]
    have pV:(y.sign==0)=false:=by simpa using ak
    rcases ab3 ak with j3|hO
    ·have hF:decide (y.sign<0)=true:=by rw[pQ j3];rfl
     obtain⟨⟨cF,cQ⟩,aX,n2,jM,mh⟩:=main (-x) (-y) (by omega) (by omega) (by omega)
     have hm:g8 (s,l) (s2,al)=(aE (lp (-x) (-y)),0):=by
      rw[e,aC,yP O ao ak,Tn]
     rw[hm];have pF:jv (s,l)=bE (-x):=by unfold jv;rw[Z Y,e,fs]
     have wh:jv (s2,al)=bE (-y):=by unfold jv;rw[Z bw,aC,fs]
     have Cp:s2=y.sign:=congrArg E6 aC;have ho:(bE (-x)).2.length<=1000000:=mT (by omega);have iP:(bE (-y)).2.length<=1000000:=mT (by omega);clear e aC;unfold aE;generalize bE (-x)=cA at *;generalize bE (-y)=fK at *;obtain⟨bf,b5⟩:=cA;obtain⟨sx,sy⟩:=fK;rw[<-Cp] at pV hF;refine a9 ?_;repeat' (intro h<;>simp only[h,go_sem,go_sem_proc,jy,Ju,Jv,Jw,Y,bw,bK,b0,pV,hF,pF,wh,ho,iP,aX,n2,jM,mh,eh,aL,ft,gY,cJ]<;>try refine av ?_ ?_)
    ·have hF:decide (y.sign<0)=false:=by rw[jd hO];rfl
     obtain⟨⟨cF,cQ⟩,aX,n2,jM,mh⟩:=main x y O ao hO
     have hm:g8 (s,l) (s2,al)=(aE (lp x y),0):=by
      rw[e,aC,yP O ao ak]
     rw[hm];have Cp:s2=y.sign:=congrArg E6 aC;rw[<-e] at aX jM;rw[<-aC] at aX mh;rw[<-Cp] at pV hF;unfold aE;refine a9 ?_;repeat' (intro h<;>simp only[h,go_sem,go_sem_proc,jy,Ju,Jv,Jw,Y,bw,bK,b0,pV,hF,aX,n2,jM,mh,eh,aL,ft,gY,cJ]<;>try refine av ?_ ?_)
  ·have bw:de (s2,al)=false:=by simpa using bw
   have hm:g8 (s,l) (s2,al)=(dW,1):=by unfold g8;rw[bw,hy];rfl
   rw[hm];refine a9 ?_;repeat' (intro h<;>simp only[h,go_sem,go_sem_proc,jy,Ju,Jv,Jw,Y,bw,bK,b0,eh,aL,dW,cl]<;>try refine av ?_ ?_)
 ·have Y:de (s,l)=false:=by simpa using Y
  have hm:g8 (s,l) (s2,al)=(dW,1):=by unfold g8;rw[Y,fC];rfl
  rw[hm];refine a9 ?_;repeat' (intro h<;>simp only[h,go_sem,go_sem_proc,jy,Ju,Jv,Jw,Y,bK,b0,eh,aL,dW,cl]<;>try refine av ?_ ?_)
def Jx:=cy ID λ(p,q)=>cT (dv p/\dv q) (.same (eh (g8 (bE p) (bE q))))
@[go_sem] theorem apo (p:Int)(q:Int)(G:dv p/\dv q):Jx [.int .i64 p,.int .i64 q]=some (.same (eh (g8 (bE p) (bE q)))):=(cI Sd (p,q)).trans (cY G _)
theorem apq (T:bk)(apr:T LX=aW Uj)(aps:T Ra=aW Uq)(p:Int)(q:Int)(G:dv p/\dv q):WP T Un (.same (eh (g8 (bE p) (bE q)))) [.I (.int .i64 p),.I (.int .i64 q)]:=by
 refine cC ?_;simp only[Un];obtain⟨E,H⟩:=G;have eB:(bE p).2.length<=1000000:=mT (wZ E);have al:(bE q).2.length<=1000000:=mT (wZ H);generalize fP:bE p=P at *;generalize fj:bE q=aH at *;obtain⟨bf,b5⟩:=P;obtain⟨sx,sy⟩:=aH;refine a9 ?_;repeat' (intro h<;>simp only[h,go_sem,go_sem_proc,apr,aps,E,H,fP,fj,eB,al,cJ,eh,aL]<;>try refine av ?_ ?_)
def Ur:=cy tZ λ(s,l,s2,al)=>cT (D l<=1000000/\D al<=1000000) (.same (.bool (vt (s,l) (s2,al))))
@[go_sem] theorem aCZ (s:Int)(l:List Int)(s2:Int)(al:List Int)(G:(D l)<=1000000/\D al<=1000000):Ur [.agg [.int .i64 s,.af (l.map ad)],.agg [.int .i64 s2,.af (al.map ad)]]=some (.same (.bool (vt (s,l) (s2,al)))):=(cI wV (s,l,s2,al)).trans (cY G _)
theorem apt (T:bk)  (s:Int) (l:List Int) (s2:Int) (al:List Int) (G:(D l)<=1000000/\D al<=1000000):WP T Uo (.same (.bool (vt (s,l) (s2,al)))) [.I (.agg [.int .i64 s,.af (l.map ad)]),.I (.agg [.int .i64 s2,.af (al.map ad)])]:=by
 refine cC ?_;simp only[Uo];obtain⟨bK,b0⟩:=G
 by_cases Q:s=s2
 ·subst Q
  by_cases au:(D l)=D al
  ·have aw:(((D l:Nat):Int)==((D al:Nat):Int))=true:=by simp;omega
   simp only[go_sem,go_sem_proc,beq_self_eq_true,aj,aw,ca,bne];refine dE [2,3] [142002,142003] (λ(i:Nat) tm mem=>i<=D l/\l.take i=al.take i/\tm 5=.I (.int .i64 i)) (λi=>D l-i) 0 (by refine⟨by omega,by simp,rfl⟩) ?_;intro vs ms aV aR;simp only[go_sem,go_sem_proc,aj] at aV aR;subst aV aR;rintro i tm mem J hm ⟨L,aJ,bl⟩;simp only[go_sem,go_sem_proc,bh] at J hm;obtain⟨H,ab⟩:=J;obtain⟨cn,ns⟩:=hm;rcases dQ (i<D l) with aq|ck
   ·have O:l[i]?=some l[i]:=bs aq;have ao:al[i]?=some al[i]:=bs (by omega);have pF:l.take (i+1)=l.take i++[l[i]]:=by rw[ks,O];rfl
    have wh:al.take (i+1)=al.take i++[al[i]]:=by rw[ks,ao];rfl
    generalize l[i]=x at *;generalize al[i]=y at *;have d1:decide ((i:Int)<(D l:Int))=true:=dg;have cf:=fW (i:=i) (by omega)
    by_cases mP:x=y
    ·subst mP;simp only[go_sem,go_sem_proc,H,ab,bl,cn,ns,O,ao,d1,cf,ad,aj,a5,bh,beq_self_eq_true,ca];repeat' (first|refine av ?_ ?_|fail)<;>intro h<;>simp only[h,go_sem,go_sem_proc,H,ab,bl,cn,ns,O,ao,d1,cf,ad,aj,a5,bh,beq_self_eq_true,ca]
     exact⟨i+1,by omega,by omega,by rw[pF,wh,aJ],rfl⟩
    ·have bN:(x==y)=false:=by simpa using mP
     have Y:vt (s,l) (s,al)=false:=by
      refine ob λh=>mP ?_;rw[fu] at h;rw[h.2,ao] at O;exact (ni O).symm
     rw[Y];simp only[go_sem,go_sem_proc,H,ab,bl,cn,ns,O,ao,d1,cf,bN,ad,aj,a5,bh,cv];repeat' (first|refine av ?_ ?_|fail)<;>intro h<;>simp only[h,go_sem,go_sem_proc,H,ab,bl,cn,ns,O,ao,d1,cf,bN,ad,aj,a5,bh,cv]
   ·have d1:decide ((i:Int)<(D l:Int))=false:=c1
    have Y:vt (s,l) (s,al)=true:=by
     refine iH ?_;rw[dD (by omega),dD (by omega)] at aJ;rw[aJ]
    rw[Y];simp only[go_sem,go_sem_proc,H,ab,bl,cn,ns,d1,aj];repeat' (first|refine av ?_ ?_|fail)<;>intro h<;>simp only[h,go_sem,go_sem_proc,H,ab,bl,cn,ns,d1,aj]
  ·have aw:(((D l:Nat):Int)==((D al:Nat):Int))=false:=by simp;omega
   have Y:vt (s,l) (s,al)=false:=by
    refine ob λh=>au ?_;rw[fu] at h;rw[h.2]
   rw[Y];simp only[go_sem,go_sem_proc,beq_self_eq_true,aj,aw,ca,cv,bne];repeat' (first|refine av ?_ ?_|fail)<;>intro h<;>simp only[h,go_sem,go_sem_proc,beq_self_eq_true,aj,aw,ca,cv,bne]
 ·have bN:(s==s2)=false:=by simpa using Q
  have Y:vt (s,l) (s2,al)=false:=by
   refine ob λh=>Q ?_;rw[fu] at h;exact h.1
  rw[Y];simp only[go_sem,go_sem_proc,bN,aj,ca,cv,bne];repeat' (first|refine av ?_ ?_|fail)<;>intro h<;>simp only[h,go_sem,go_sem_proc,bN,aj,ca,cv,bne]
def Fm (a b:bU):Bool:=decide (a=b)
def Nj:=cy As λ(s,l,s2,al,cP,bO,cS,b7)=>cT (D l<=1000000/\D al<=1000000/\D bO<=1000000/\D b7<=1000000) (.same (.bool (Fm ((s,l),(s2,al)) ((cP,bO),(cS,b7)))))
@[go_sem] theorem apu (s:Int)(l:List Int)(s2:Int)(al:List Int)(cP:Int)(bO:List Int)(cS:Int)(b7:List Int)(G:(D l)<=1000000/\D al<=1000000/\D bO<=1000000/\D b7<=1000000):Nj [.agg [.int .i64 s,.af (l.map ad),.int .i64 s2,.af (al.map ad)],.agg [.int .i64 cP,.af (bO.map ad),.int .i64 cS,.af (b7.map ad)]]=some (.same (.bool (Fm ((s,l),(s2,al)) ((cP,bO),(cS,b7))))):=(cI E7 (s,l,s2,al,cP,bO,cS,b7)).trans (cY G _)
theorem apv (T:bk)(acP:T LW=aW Ur)(s:Int)(l:List Int)(s2:Int)(al:List Int)(cP:Int)(bO:List Int)(cS:Int)(b7:List Int)(G:(D l)<=1000000/\D al<=1000000/\D bO<=1000000/\D b7<=1000000):WP T Um (.same (.bool (Fm ((s,l),(s2,al)) ((cP,bO),(cS,b7))))) [.I (.agg [.int .i64 s,.af (l.map ad),.int .i64 s2,.af (al.map ad)]),.I (.agg [.int .i64 cP,.af (bO.map ad),.int .i64 cS,.af (b7.map ad)])]:=by
 refine cC ?_;simp only[Um];obtain⟨bK,b0,ho,iP⟩:=G
 have e:Fm ((s,l),(s2,al)) ((cP,bO),(cS,b7))=(vt (s,l) (cP,bO)&&vt (s2,al) (cS,b7)):=by
  unfold Fm vt;rw[kB,e3,decide_eq_true_eq,decide_eq_true_eq,decide_eq_true_eq,fu]
 rw[e];rcases E:vt (s,l) (cP,bO)
 ·refine a9 ?_;repeat' (intro h<;>simp only[h,go_sem,go_sem_proc,acP,bK,b0,ho,iP,E,fC]<;>try refine av ?_ ?_)
 ·refine a9 ?_;repeat' (intro h<;>simp only[h,go_sem,go_sem_proc,acP,bK,b0,ho,iP,E,hP]<;>try refine av ?_ ?_)



end Go.Mini
namespace Go.Mini
open Go
variable {P:Program} {A:Nat->Prop} {w aN:World} {B bq:eK} {mem mem':Mem}
structure mV (P:Program) (f:FuncId) (eJ:List M->Mem->Option gT):Prop where
 real:Real P f
 run:∀args mem oR,eJ args mem=some oR->∀A w B vs,fl A w B mem->c9 w (cj A B) B args vs->Qk P f vs A w B mem oR
def rG (res:List nL)(bZ:M->Mem->Prop):ev->a2->Prop
 |.exit _,_=>False
 |.normal,st=>∃m,oN st res=some m/\bZ m st.mem
 |.ret,st=>∃m,oN st res=some m/\bZ m st.mem
@[go_sem] theorem aC0 {res:List nL}{st:a2}(bZ:M->Mem->Prop)(id:Nat):rG res bZ (.exit id) st=False:=bn
@[go_sem] theorem aC1 {res:List nL}{st:a2}(bZ:M->Mem->Prop):rG res bZ .normal st=∃m,oN st res=some m/\bZ m st.mem:=bn
@[go_sem] theorem aC2 {res:List nL}{st:a2}(bZ:M->Mem->Prop):rG res bZ .ret st=∃m,oN st res=some m/\bZ m st.mem:=bn
theorem Us {mf:b1}{bZ:M->Mem->Prop}{e:ev}{st:a2}(h:rG mf.res bZ e st):QB mf bZ e st:=by
 cases e with
 |exit id=>exact h
 |normal=>exact h
 |ret=>exact h
theorem Ut {kb : Nat}{own : List Nat}{f : FuncId}{fn : Func}{mf : b1}(aJ : P.funcs[f]? = some fn)(u1 : (fn.name == "runtime.NumGoroutine") = false)(aU : r9 P kb own fn = some mf): Real P f := by
 cases ae:fn.body with
 |none=>simp[r9,ae] at aU
 |some c=>exact⟨fn,c,aJ,ae,u1⟩
def xe (aH:List M->Mem->Option (M->Mem->Prop))(args:List M)(mem:Mem):Option gT:=(aH args mem).map .rel
@[go_sem] theorem aC3 (aH:List M->Mem->Option (M->Mem->Prop))(args:List M)(mem:Mem):xe aH args mem=(aH args mem).map .rel:=bn
theorem Uu {T : bk}{kb : Nat}{own : List Nat}(cE : qy P T)(hm : P.follows .mixedOrders = true){f : FuncId}{fn : Func}{mf : b1}(aJ : P.funcs[f]? = some fn)(u1 : (fn.name == "runtime.NumGoroutine") = false)(aU : r9 P kb own fn = some { mf with body := erase mf.body })
  {aH:List M->Mem->Option (M->Mem->Prop)} (h:∀args mem bZ,aH args mem=some bZ->(D args)<=mf.n/\wp T mf.body (rG mf.res bZ) ⟨mA args,mem⟩):mV P f (xe aH):=by
 refine⟨Ut aJ u1 aU,λargs mem oR iA A w B vs bT aI=>?_⟩;unfold xe at iA;rw[ei] at iA;obtain⟨bZ,j0,rfl⟩:=iA;obtain⟨hlen,yh⟩:=h args mem bZ j0;refine Calls.mono (H3 (Post:=bZ) cE hm aJ aU hlen (λe st J=>Us J) yh bT aI) λe aN he=>?_;obtain⟨v,m,mem',bq,rfl,Q,ra,aB⟩:=he;exact⟨v,m,mem',bq,rfl,Q,ra,aB⟩
inductive rH (cR:Key->Prop):M->Prop
 |I {d:Data}:rH cR (.I d)
 |nil:rH cR .nil
 |ref {k g sz off len:Nat} (h:¬ cR k):rH cR (.ref k g sz off len)
 |ptr {k g off:Nat} (h:¬ cR k):rH cR (.ptr k g off)
 |fS {f:FuncId} {eZ:List M} (h:∀(i:Nat) (m:M),eZ[i]?=some m->rH cR m):rH cR (.fS f eZ)
 |agg {cs:List M} (h:∀(i:Nat) (m:M),cs[i]?=some m->rH cR m):rH cR (.agg cs)
 |cw {cs:List M} (h:∀(i:Nat) (m:M),cs[i]?=some m->rH cR m):rH cR (.cw cs)
 |no:rH cR .no
 |undef:rH cR .undef
theorem clean_of {cR:Key->Prop}{aO:Nat->Prop}(xf:∀k,cR k->B k=none){m:M}{v:Value}(h:bo w aO B m v):rH cR m:=by
 induction h with
 |I h=>exact .I
 |nil=>exact .nil
 |ref he aX aI=>exact .ref λai=>by rw[xf _ ai] at he;cases he
 |ptr he aX aI=>exact .ptr λai=>by rw[xf _ ai] at he;cases he
 |fS au X ay=>exact .fS λi m L=>ay i m _ L (bs (by have aq:=(dK.1 L).1;omega))
 |agg au X ay=>exact .agg λi m L=>ay i m _ L (bs (by have aq:=(dK.1 L).1;omega))
 |cw au X ay=>exact .cw λi m L=>ay i m _ L (bs (by have aq:=(dK.1 L).1;omega))
 |no=>exact .no
 |undef=>exact .undef
open Classical in
def sO (cR:Key->Prop)(B:eK):eK:=λk=>if cR k then none else B k
theorem Fo {cR:Key->Prop}{b:Nat}(h:q4 (sO cR B) b):q4 B b:=by
 obtain⟨k,e,he,ae⟩:=h;unfold sO at he
 split at he
 ·cases he
 ·exact⟨k,e,he,ae⟩
theorem apw {cR:Key->Prop}{m:M}{v:Value}(h:bo w (cj A B) B m v)(G:rH cR m):bo w (cj A (sO cR B)) (sO cR B) m v:=by
 have at_:∀{k:Key} {e:lE},¬ cR k->B k=some e->sO cR B k=some e:=λJ he=>by unfold sO;rw[aa J];exact he
 induction h with
 |I h=>exact .I (h.less λb ae=>ae.imp Fo id)
 |nil=>exact .nil
 |ref he aX aI=>cases G with|ref J=>exact .ref (at_ J he) aX aI
 |ptr he aX aI=>cases G with|ptr J=>exact .ptr (at_ J he) aX aI
 |fS au X ay=>cases G with|fS G=>exact .fS au λi d v L aI=>ay i d v L aI (G i d L)
 |agg au X ay=>cases G with|agg G=>exact .agg au λi d v L aI=>ay i d v L aI (G i d L)
 |cw au X ay=>cases G with|cw G=>exact .cw au λi d v L aI=>ay i d v L aI (G i d L)
 |no=>exact .no
 |undef=>exact .undef
theorem eG.drop {cR:Key->Prop}{Nk:Mem}(ak:fl A w B mem)(xf:∀k,cR k->mem k=none)(h:eG A w B aN bq mem')(E:∀k,cR k->Nk k=none)(H:∀k,¬ cR k->Nk k=mem' k)
  (G:∀k g cs,Nk k=some (g,cs)->∀m∈cs,(∃d,m=.I d)\/∃ff BF si,mem ff=some (BF,si)/\m∈si):eG A w B aN (sO cR bq) Nk:=by
 have fi:∀k,cR k->B k=none:=λk J=>ak.zt k (xf k J);have at_:∀{k:Key},¬ cR k->sO cR bq k=bq k:=λJ=>by unfold sO;rw[aa J]
 have Uv:∀{k:Key},cR k->sO cR bq k=none:=λJ=>by unfold sO;rw[Z J]
 refine⟨⟨λk J=>?_,λk k' e e' b he fT ae lK=>?_,λb a1 bx=>h.ee.sep b a1 (Fo bx),h.ee.lt,λk g cs J=>?_⟩,⟨h.mB.size,λb ae bx=>?_,λk e he=>?_⟩,h.az,λb ae=>h.fresh b (Fo ae)⟩
 ·by_cases ai:cR k
  ·exact Uv ai
  ·rw[at_ ai];exact h.ee.zt k (by rw[<-H k ai];exact J)
 ·by_cases ai:cR k
  ·rw[Uv ai] at he;cases he
  ·by_cases tu:cR k'
   ·rw[Uv tu] at fT;cases fT
   ·rw[at_ ai] at he;rw[at_ tu] at fT;exact h.ee.inj k k' e e' b he fT ae lK
 ·by_cases ai:cR k
  ·rw[E k ai] at J;cases J
  ·obtain⟨e,he,aX,aG,ae⟩:=h.ee.dp k g cs (by rw[<-H k ai];exact J);refine⟨e,by rw[at_ ai];exact he,aX,aG,λb iV=>?_⟩
   obtain⟨vs,T,aS,aQ,hle,Y⟩:=ae b iV;refine⟨vs,T,aS,aQ,hle,λi m L=>?_⟩;obtain⟨v,aI,Bu⟩:=Y i m L;refine⟨v,aI,apw Bu ?_⟩;rcases G k g cs J m (eL L) with ⟨d,rfl⟩|⟨ff,BF,si,l9,fH⟩
   ·exact .I
   ·obtain⟨b6,HZ,Mr,mH,rz⟩:=ak.dp ff BF si l9
    cases EH:b6.dp with
    |none=>rw[mH EH] at fH;cases fH
    |some rn =>
     obtain⟨aC4,aC5,_,_,_,o2⟩:=rz rn EH;obtain⟨i0,rv⟩:=tF.1 fH;obtain⟨v0,_,apx⟩:=o2 i0 m rv;exact clean_of fi apx
 ·obtain⟨ab,aM⟩:=h.mB.Hd b ae bx;exact⟨ab,λO=>aM (Fo O)⟩
 ·have ai:¬ cR k:=λai=>by rw[fi k ai] at he;cases he
  rw[at_ ai];exact h.mB.key k e he
def AB (U:List M->Mem->Option (Data×Key×Nat×Nat×Data))(args:List M)(mem:Mem):Option gT:=(U args mem).map λx => .eP x.1 x.2.1 x.2.2.1 x.2.2.2.1 (.I x.2.2.2.2)
@[go_sem] theorem aC6 (U:List M->Mem->Option (Data×Key×Nat×Nat×Data))(args:List M)(mem:Mem):AB U args mem=(U args mem).map λx => .eP x.1 x.2.1 x.2.2.1 x.2.2.2.1 (.I x.2.2.2.2):=bn
theorem apy {T : bk}{kb : Nat}{own : List Nat}(cE : qy P T)(hm : P.follows .mixedOrders = true){f : FuncId}{fn : Func}{mf : b1}(aJ : P.funcs[f]? = some fn)(u1 : (fn.name == "runtime.NumGoroutine") = false)(aU : r9 P kb own fn = some { mf with body := erase mf.body })
  (cR:Key->Prop) {U:List M->Mem->Option (Data×Key×Nat×Nat×Data)}
  (h:∀args mem r k g i d,U args mem=some (r,k,g,i,d)->(D args)<=mf.n/\(∀j,cR j->mem j=none)/\¬ cR k/\(∃cs,mem k=some (g,cs)) /\
   wp T mf.body (rG mf.res λm mem'=>c8 6 emp m=some r/\∀j,¬ cR j->mem' j=a3 mem k g ((qp mem k).set i (.I d)) j) ⟨mA args,mem⟩):mV P f (AB U):=by
 refine⟨Ut aJ u1 aU,λargs mem oR iA A w B vs bT aI=>?_⟩;unfold AB at iA;rw[ei] at iA;obtain⟨⟨r,k,g,i,d⟩,mW,rfl⟩:=iA;obtain⟨hlen,xf,J,⟨cs,kj⟩,yh⟩:=h args mem r k g i d mW;refine Calls.mono (H3 (Post:=λm mem'=>c8 6 emp m=some r/\∀j,¬ cR j->mem' j=a3 mem k g ((qp mem k).set i (.I d)) j) cE hm aJ aU hlen (λe st J=>Us J) yh bT aI) λe aN he=>?_;obtain⟨v,m,mem',bq,rfl,Q,ra,X,fH⟩:=he;refine⟨v,sO cR bq,rfl,Q.drop bT xf (λj ai=>?_) (λj ai=>(fH j ai).symm) ?_,.I ((QD 6 m v r X ra).less λb ae=>ae.imp Fo id)⟩
 ·have:j≠k:=λe=>J (e ▸ ai);simp only[a3,this,if_false];exact xf j ai
 ·intro dc cQ wx H m nZ
  by_cases hi:dc=k
  ·subst hi;simp only[a3,if_true,cb,fu] at H;obtain⟨-,rfl⟩:=H;rcases Fp nZ with O|rfl
   ·refine .inr ⟨dc,g,cs,kj,?_⟩
    simpa [qp,kj] using O
   ·exact .inl ⟨d,rfl⟩
  ·simp only[a3,hi,if_false] at H;exact .inr ⟨dc,cQ,wx,H,nZ⟩
def Uw:Option gT->Option gT->Option gT
 |some x,_=>some x
 |none,e=>e
@[go_sem] theorem aC7 (x:gT)(e:Option gT):Uw (some x) e=some x:=bn
@[go_sem] theorem aC8 (e:Option gT):Uw none e=e:=bn
def vu (lb:FuncId->Option (List Data->Option ez))(rI:FuncId->Option (List M->Mem->Option gT)):bk:=λf args mem=>match rI f with
 |some eJ=>Uw (eJ args mem) (zV lb f args mem)
 |none=>zV lb f args mem
theorem xg {lb:FuncId->Option (List Data->Option ez)}{rI:FuncId->Option (List M->Mem->Option gT)}(h:∀f aP,lb f=some aP->sq P f aP)(Y:∀f eJ,rI f=some eJ->mV P f eJ):qy P (vu lb rI):=by
 intro f args mem oR cE;unfold vu at cE
 split at cE
 ·rename_i eJ iA;have Q:=Y f eJ iA
  cases O:eJ args mem with
  |none =>
   rw[O] at cE;exact aam h f args mem oR cE
  |some y =>
   rw[O] at cE
   cases cE;exact⟨Q.real,λA w B vs bT aI=>Q.run args mem oR O A w B vs bT aI⟩
 ·exact aam h f args mem oR cE
theorem Ic.acQ {f:FuncId}{bA:List M->Mem->Option (M×Mem)}(h:Ic P f bA):mV P f (zZ bA):=by
 refine⟨h.real,λargs mem oR iA A w B vs bT aI=>?_⟩;unfold zZ at iA;rw[ei] at iA;obtain⟨x,O,rfl⟩:=iA;exact h.run args mem x O A w B vs bT aI
section
variable {lb:FuncId->Option (List Data->Option ez)} {rI:FuncId->Option (List M->Mem->Option gT)} {f:FuncId}
theorem pb {aP:List Data->Option ez}(h:rI f=none)(b2:lb f=some aP):vu lb rI f=aW aP:=by
 funext args mem
 unfold vu;rw[h];exact congrFun (congrFun (aap b2) args) mem
theorem AD {eJ:List M->Mem->Option gT}(h:rI f=some eJ)(b2:lb f=none):vu lb rI f=eJ:=by
 funext args mem
 unfold vu zV;rw[h,b2];dsimp only
 cases eJ args mem<;>rfl
theorem Fq {aP:List Data->Option ez}{bA:List M->Mem->Option (M×Mem)}(h:rI f=some (zZ bA))(b2:lb f=some aP):vu lb rI f=ym aP bA:=by
 funext args mem
 unfold vu;rw[h];unfold ym zZ;rw[show zV lb f args mem=aW aP args mem from congrFun (congrFun (aap b2) args) mem];dsimp only
 cases bA args mem<;>rfl
end
def Nl (l:List (FuncId×(List M->Mem->Option gT))):FuncId->Option (List M->Mem->Option gT):=λf=>(l.find? λp=>p.1==f).map (·.2)
theorem xh {l:List (FuncId×(List M->Mem->Option gT))}(h:∀p∈l,mV P p.1 p.2):∀f bA,Nl l f=some bA->mV P f bA:=by
 intro f aP aJ;unfold Nl at aJ;rw[ei] at aJ;obtain⟨p,aB,rfl⟩:=aJ;have E:=List.mem_of_find?_eq_some aB;have H:=List.find?_some aB;have ab:p.1=f:=by simpa using H
 exact ab ▸ h p E
theorem oE:∀p∈([]:List (FuncId×(List M->Mem->Option gT))),mV P p.1 p.2:=by simp
theorem rJ {f:FuncId}{aP:List M->Mem->Option gT}{l:List (FuncId×(List M->Mem->Option gT))}(h:mV P f aP)(au:∀p∈l,mV P p.1 p.2):∀p∈(f,aP)::l,mV P p.1 p.2:=by
 intro p aB;rcases List.mem_cons.1 aB with rfl|aB
 ·exact h
 ·exact au p aB
open Classical in
def yY {α:Type}(a8:α->List M->Mem->Prop)(bZ:α->Mem->M->Mem->Prop):List M->Mem->Option (M->Mem->Prop):=λargs mem=>if h:∃a,a8 a args mem then some (bZ (Classical.choose h) mem) else none
theorem apz {α:Type}{a8:α->List M->Mem->Prop}{bZ:α->Mem->M->Mem->Prop}(uniq:∀a b args mem,a8 a args mem->a8 b args mem->a=b){a:α}{args:List M}{mem:Mem}(h:a8 a args mem):yY a8 bZ args mem=some (bZ a mem):=by
 have O:∃b,a8 b args mem:=⟨a,h⟩;unfold yY;rw[dif_pos O,uniq _ _ _ _ (oX O) h]
theorem Ux {α:Type}{a8:α->List M->Mem->Prop}{bZ:α->Mem->M->Mem->Prop}{args:List M}{mem:Mem}{x:M->Mem->Prop}(h:yY a8 bZ args mem=some x):∃a,a8 a args mem/\x=bZ a mem:=by
 unfold yY at h
 split at h
 ·rename_i O;exact⟨_,oX O,(ni h).symm⟩
 ·cases h
end Go.Mini
namespace Go.Mini
open Go
def Nm:=cy Jb λ(s,l,s2,al)=>some (.same (.bool (s==0)))
@[go_sem] theorem aC9 (s:Int)(l:List Int)(s2:Int)(al:List Int):Nm [.agg [.int .i64 s,.af (l.map ad),.int .i64 s2,.af (al.map ad)]]=some (.same (.bool (s==0))):=cI Tk (s,l,s2,al)
theorem Jy (T:bk)  (s:Int) (l:List Int) (s2:Int) (al:List Int):WP T TD (.same (.bool (s==0))) [.I (.agg [.int .i64 s,.af (l.map ad),.int .i64 s2,.af (al.map ad)])]:=by
 refine cC ?_;simp only[TD];refine a9 ?_;repeat' (intro h<;>simp only[h,go_sem,go_sem_proc]<;>try refine av ?_ ?_)
def yZ (args:List M)(mem:Mem):Option (Data×Key×Nat×Nat×Data) :=
 match args with
 | [.ptr k g 0,.I (.agg [.int .i64 s,.af l,.int .i64 s2,.af al]),.I (.int .i64 e)]=>match mem k,mem 168004,mem 168006 with
  |some (dh,[_,_,.I (.bool c)]),none,none=>if dh=g/\k≠168004/\k≠168006 then some (.agg [.int .i64 s,.af l,.int .i64 s2,.af al],k,g,2,.bool (c||e != 0)) else none
  |_,_,_=>none
 |_=>none
def Nn (j:Key):Prop:=j=168004\/j=168006
theorem apA (T:bk)(args:List M)(mem:Mem)(r:Data)(k g i:Nat)(d:Data)(h:yZ args mem=some (r,k,g,i,d)):
  (D args)<=19/\(∀j,Nn j->mem j=none)/\¬ Nn k/\(∃cs,mem k=some (g,cs)) /\
   wp T M0.body (rG M0.res λm mem'=>c8 6 emp m=some r/\∀j,¬ Nn j->mem' j=a3 mem k g ((qp mem k).set i (.I d)) j) ⟨mA args,mem⟩:=by
 unfold yZ at h
 split at h
 ·rename_i ff BF s l s2 al e
  split at h
  ·rename_i cF a b c hm aM bI
   split at h
   ·rename_i aX;obtain⟨rfl,vv,Jz⟩:=aX;simp only[cb,fu] at h;obtain⟨rfl,rfl,rfl,rfl,rfl⟩:=h;refine⟨by simp,?_,?_,⟨_,hm⟩,?_⟩
    ·rintro j (rfl|rfl)
     ·exact aM
     ·exact bI
    ·rintro (h|h)
     ·exact vv h
     ·exact Jz h
    ·have ig:∀x:Bool,qp mem ff=[a,b,.I (.bool c)]:=λ_=>by simp only[qp,hm]
     have Np:(ff=168004)=False:=eq_false vv;have Nq:(ff=168006)=False:=eq_false Jz;have Nr:(168004=ff)=False:=eq_false (Ne.symm vv);have Ns:(168006=ff)=False:=eq_false (Ne.symm Jz);refine wq ?_;simp only[M0]
     cases c
     ·simp only[go_sem,go_sem_proc,hm,aM,bI,Np,Nq,Nr,Ns];repeat' (first|refine av ?_ ?_|fail)<;>intro h<;>simp only[h,go_sem,go_sem_proc,hm,aM,bI,Np,Nq,Nr,Ns]
      refine⟨_,rfl,by first|rfl|simp[go_sem,c8],λj ai=>?_⟩
      have Nt:j≠168004:=λh=>ai (.inl h);have AE:j≠168006:=λh=>ai (.inr h)
      by_cases eW:j=ff<;>simp[a3,qp,hm,Nt,AE,eW,vv,Jz,bne]
     ·simp only[go_sem,go_sem_proc,hm,aM,bI,Np,Nq,Nr,Ns];repeat' (first|refine av ?_ ?_|fail)<;>intro h<;>simp only[h,go_sem,go_sem_proc,hm,aM,bI,Np,Nq,Nr,Ns]
      refine⟨_,rfl,by first|rfl|simp[go_sem,c8],λj ai=>?_⟩
      have Nt:j≠168004:=λh=>ai (.inl h);have AE:j≠168006:=λh=>ai (.inr h)
      by_cases eW:j=ff<;>simp[a3,qp,hm,Nt,AE,eW,vv,Jz,bne]
   ·cases h
  ·cases h
 ·cases h
abbrev c6:=Nat×Nat×List bU
def refsOf (N:Nat)(rows:List c6):List M:=rows.map λx => .ref (x.1+900000) x.2.1 4 0 (N+1)
structure y0 (go N:Nat) (rows:List c6) (bad:Bool) (mem:Mem):Prop where
 m:mem 129015=some (0,[.ref 129035 go 1 0 N,.I (.int .i64 N),.I (.bool bad)])
 o:mem 129035=some (go,refsOf N rows)
 r:∀x∈rows,mem (x.1+900000)=some (x.2.1,aY aL x.2.2)
structure jz (N:Nat) (rows:List c6):Prop where
 len:(D rows)=N
 Nu:(rows.map (·.1)).Nodup
 row:∀x∈rows,x.2.2.length=N+1/\∀f∈x.2.2,okF f
def Fs (k:Nat):Prop:=k<900000/\k≠129015/\k≠129035/\k≠148008/\k≠148010/\k≠148013
def jO (ec:Mem)(go N:Nat)(rows:List c6)(bad:Bool)(mem:Mem):Prop:=y0 go N rows bad mem/\∀k,Fs k->mem k=ec k
section
variable {ec mem:Mem} {go N:Nat} {rows:List c6} {lq:Bool}
theorem jO.flag (b:Bool)(h:jO ec go N rows lq mem):jO ec go N rows b (a3 mem 129015 0 [.ref 129035 go 1 0 N,.I (.int .i64 N),.I (.bool b)]):=by
 refine⟨⟨by simp[a3],by simp[a3,h.1.o],λx O=>?_⟩,λk J=>?_⟩
 ·rw[<-h.1.r x O];exact aa (show ¬ ((x.1+900000:Nat)=129015) by omega)
 ·rw[<-h.2 k J];exact aa J.2.1
theorem jO.own {k g:Nat}{cs:List M}(J:k=148008\/k=148010\/k=148013)(h:jO ec go N rows lq mem):jO ec go N rows lq (a3 mem k g cs):=by
 have bN:∀j:Nat,j≠k->a3 mem k g cs j=mem j:=λj ai=>aa ai;refine⟨⟨by rw[bN _ (by omega)];exact h.1.m,by rw[bN _ (by omega)];exact h.1.o,λx O=>by rw[bN _ (by omega)];exact h.1.r x O⟩,λj ai=>?_⟩
 have:=ai.2;rw[bN _ (by omega)];exact h.2 j ai
theorem jO.set {i:Nat}{x:c6}(cX:jz N rows)(L:rows[i]?=some x)(l:List bU)(h:jO ec go N rows lq mem):jO ec go N (rows.set i (x.1,x.2.1,l)) lq (a3 mem (x.1+900000) x.2.1 (aY aL l)):=by
 have bN:∀j:Nat,j≠x.1+900000->a3 mem (x.1+900000) x.2.1 (aY aL l) j=mem j:=λj ai=>aa ai;obtain⟨aq,acR⟩:=dK.1 L;refine⟨⟨by rw[bN _ (by omega)];exact h.1.m,?_,λy ao=>?_⟩,λj ai=>?_⟩
 ·rw[bN _ (by omega),h.1.o]
  congr 2
  unfold refsOf;apply ri;intro j;rw[a5,a5,mo]
  by_cases lO:i=j
  ·subst lO;rw[Z rfl,Z aq,L]
   rfl
  ·rw[aa lO]
 ·obtain⟨j,ai⟩:=tF.1 ao;rw[mo] at ai
  by_cases lO:i=j
  ·subst lO;rw[Z rfl,Z aq] at ai
   cases ai;simp[a3]
  ·rw[aa lO] at ai
   have aDa:y.1≠x.1:=by
    intro he;have E:(rows.map (·.1))[j]?=some y.1:=by rw[a5,ai];rfl
    have H:(rows.map (·.1))[i]?=some y.1:=by rw[a5,L,he];rfl
    have au:i<(rows.map (·.1)).length:=by rw[aj];exact aq
    exact lO ((acS au cX.Nu).1 (H.trans E.symm))
   rw[bN (y.1+900000) (by omega)];exact h.1.r y (eL ai)
 ·have:=ai.1;rw[bN j (by omega)];exact h.2 j ai
theorem jO.swap {i j:Nat}{a b:c6}(L:rows[i]?=some a)(ai:rows[j]?=some b)(h:jO ec go N rows lq mem):jO ec go N ((rows.set i b).set j a) lq (a3 (a3 mem 129035 go (refsOf N (rows.set i b))) 129035 go (refsOf N ((rows.set i b).set j a))):=by
 have bN:∀k:Nat,k≠129035->a3 (a3 mem 129035 go (refsOf N (rows.set i b))) 129035 go (refsOf N ((rows.set i b).set j a)) k=mem k:=λk J=>by simp[a3,J]
 refine⟨⟨by rw[bN _ (by omega)];exact h.1.m,by simp[a3],λx O=>?_⟩,λk J=>?_⟩
 ·rw[bN _ (by omega)];apply h.1.r;rcases Fp O with O|rfl
  ·rcases Fp O with O|rfl
   ·exact O
   ·exact eL ai
  ·exact eL L
 ·rw[bN _ J.2.2.1];exact h.2 k J
theorem jz.set {i:Nat}{x:c6}(cX:jz N rows)(L:rows[i]?=some x){l:List bU}(au:(D l)=N+1)(aJ:∀f∈l,okF f):jz N (rows.set i (x.1,x.2.1,l)):=by
 obtain⟨aq,acR⟩:=dK.1 L;refine⟨by rw[ja];exact cX.len,?_,λy ao=>?_⟩
 ·have:(rows.set i (x.1,x.2.1,l)).map (·.1)=rows.map (·.1):=by
   rw[xi];apply ri;intro j;rw[mo]
   by_cases lO:i=j
   ·subst lO;rw[Z rfl,aj,Z aq,a5,L];rfl
   ·rw[aa lO]
  rw[this];exact cX.Nu
 ·rcases Fp ao with ao|rfl
  ·exact cX.row y ao
  ·exact⟨au,aJ⟩
theorem apB {α:Type}{l:List α}{i j:Nat}{a b:α}(L:l[i]?=some a)(ai:l[j]?=some b)(h:l.Nodup):((l.set i b).set j a).Nodup:=by
 obtain⟨jN,rK⟩:=dK.1 L;obtain⟨ki,Lk⟩:=dK.1 ai
 have main:∀p q,p<q->q<(D l)->((l.set i b).set j a)[p]?≠((l.set i b).set j a)[q]?:=by
  intro p q Nv bd;rw[mo,mo,mo,mo];have inj:∀p q,p<(D l)->l[p]?=l[q]?->p=q:=λp q aB he=>(acS aB h).1 he;simp only[ja]
  by_cases E:j=p
  ·subst E;have H:¬ j=q:=by omega
   rw[Z rfl,Z ki,aa H]
   by_cases ab:i=q
   ·subst ab;rw[Z rfl,Z jN];intro he;rw[<-L,<-ai] at he;have:=inj _ _ jN he;omega
   ·rw[aa ab,<-L];intro he;exact ab (inj _ _ jN he)
  ·rw[aa E]
   by_cases ab:i=p
   ·subst ab;rw[Z rfl,Z jN]
    by_cases H:j=q
    ·subst H;rw[Z rfl,Z ki,<-L,<-ai];intro he;have:=inj _ _ ki he;omega
    ·rw[aa H,aa (by omega),<-ai];intro he;exact H (inj _ _ ki he)
   ·rw[aa ab]
    by_cases H:j=q
    ·subst H;rw[Z rfl,Z ki,<-L];intro he;exact ab (inj _ _ jN he.symm)
    ·rw[aa H]
     by_cases aM:i=q
     ·subst aM;rw[Z rfl,Z jN,<-ai];intro he;exact E (inj _ _ ki he.symm)
     ·rw[aa aM];intro he;have:=inj _ _ (by omega) he;omega
 refine List.pairwise_iff_getElem.2 λp q aB bd Nv he=>?_;simp only[ja] at aB bd;refine main p q Nv bd ?_;rw[bs (by simpa using aB),bs (by simpa using bd),he]
theorem jz.swap {i j:Nat}{a b:c6}(cX:jz N rows)(L:rows[i]?=some a)(ai:rows[j]?=some b):jz N ((rows.set i b).set j a):=by
 refine⟨by rw[ja,ja];exact cX.len,?_,λx O=>?_⟩
 ·rw[xi,xi];exact apB (by rw[a5,L];rfl) (by rw[a5,ai];rfl) cX.Nu
 ·rcases Fp O with O|rfl
  ·rcases Fp O with O|rfl
   ·exact cX.row x O
   ·exact cX.row _ (eL ai)
  ·exact cX.row _ (eL L)
end
theorem apC {l:List bU}{i:Nat}{a b c d}(h:l[i]?=some ((a,b),(c,d))):cut (aY aL l) (i*4) 4=some [.I (.int .i64 a),.I (.af (b.map ad)),.I (.int .i64 c),.I (.af (d.map ad))]:=by
 have:=LQ mU h (f:=0) (n:=4) (by omega);rw[Nat.add_zero] at this;rw[this]
 rfl
theorem apD {N:Nat}{rows:List c6}{i:Nat}{x:c6}(h:rows[i]?=some x):cut (refsOf N rows) i 1=some [.ref (x.1+900000) x.2.1 4 0 (N+1)]:=by
 obtain⟨aq,rfl⟩:=dK.1 h;unfold cut refsOf;rw[Z (by rw[aj];omega),<-List.map_drop,hW aq]
 rfl
theorem apE {l m:List bU}(h:aY aL l=aY aL m):l=m:=Sa mU vo _ _ h (by omega)
def mX (f:bU):Bool:=f.1.1==0
def cellOf (x:c6)(c:Nat):bU:=x.2.2.getD c dW
def findAt (rows:List c6)(r c:Nat):Nat:=r+(rows.drop r).findIdx λx => !mX (cellOf x c)
def iQ (fg:bU):List bU->List bU->Bool->List bU×Bool
 |f::dq,p::cW,false=>((oB f (nx fg p).1).1::(iQ fg dq cW ((nx fg p).2 != 0||(oB f (nx fg p).1).2 != 0)).1,(iQ fg dq cW ((nx fg p).2 != 0||(oB f (nx fg p).1).2 != 0)).2)
 |dq,_,b=>(dq,b)
def jA (fy:List bU)(r c:Nat):Nat->List c6->Bool->List c6×Bool
 |_,[],bad=>([],bad)
 |i,x::xs,bad=>if (i==r||mX (cellOf x c))=true then (x::(jA fy r c (i+1) xs bad).1,(jA fy r c (i+1) xs bad).2) else
  ((x.1,x.2.1,(iQ (cellOf x c) x.2.2 fy bad).1)::(jA fy r c (i+1) xs (iQ (cellOf x c) x.2.2 fy bad).2).1,(jA fy r c (i+1) xs (iQ (cellOf x c) x.2.2 fy bad).2).2)
def hH (Jl:bU)(l:List bU):List bU×Bool:=(l.map λf=>(jw f Jl).1,l.any λf=>(jw f Jl).2 != 0)
def rowAt (rows:List c6)(i:Nat):c6:=rows.getD i (0,0,[])
def p0 (rows:List c6)(i j:Nat):List c6:=(rows.set i (rowAt rows j)).set j (rowAt rows i)
def CA (rows:List c6)(r c:Nat):List c6:=rows.set r ((rowAt rows r).1,(rowAt rows r).2.1,(hH (cellOf (rowAt rows r) c) (rowAt rows r).2.2).1)
def im (rows:List c6)(r c:Nat):Bool×List c6×Bool :=
 if findAt rows r c=(D rows) then (true,rows,false) else
  (false,jA (hH (cellOf (rowAt (p0 rows r (findAt rows r c)) r) c) (rowAt (p0 rows r (findAt rows r c)) r).2.2).1 r c 0 (CA (p0 rows r (findAt rows r c)) r c)
   (hH (cellOf (rowAt (p0 rows r (findAt rows r c)) r) c) (rowAt (p0 rows r (findAt rows r c)) r).2.2).2)
theorem apF {rows:List c6}{r c i:Nat}{x:c6}(O:rows[i]?=some x)(Y:r<=i)(aQ:∀j y,r<=j->j<i->rows[j]?=some y->mX (cellOf y c)=true)(h:mX (cellOf x c)=false):findAt rows r c=i:=by
 unfold findAt;obtain⟨aq,acR⟩:=dK.1 O
 have:(rows.drop r).findIdx (λx => !mX (cellOf x c))=i-r:=by
  rw[List.findIdx_eq (by rw[pL];omega)];refine⟨?_,λj ai=>?_⟩
  ·rw[Ft];have:rows[r+(i-r)]?=some x:=by rw[show r+(i-r)=i by omega];exact O
   rw[(dK.1 this).2,h];rfl
  ·rw[Ft];have:=aQ (r+j) _ (by omega) (by omega) (bs (by omega));rw[this];rfl
 omega
theorem apG {rows:List c6}{r c:Nat}(Y:r<=D rows)(aQ:∀j y,r<=j->rows[j]?=some y->mX (cellOf y c)=true):findAt rows r c=D rows:=by
 unfold findAt
 have:(rows.drop r).findIdx (λx => !mX (cellOf x c))=(rows.drop r).length:=by
  rw[List.findIdx_eq_length];intro y ao;obtain⟨j,ai⟩:=tF.1 ao;rw[List.getElem?_drop] at ai;rw[aQ (r+j) y (by omega) ai];rfl
 rw[this,pL];omega
end Go.Mini
