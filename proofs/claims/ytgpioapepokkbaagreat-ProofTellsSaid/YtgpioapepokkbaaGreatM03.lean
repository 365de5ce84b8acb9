/- A part of the proof. -/
import Derived.Test.YtgpioapepokkbaaGreatM02
set_option linter.unusedSimpArgs false
set_option linter.unusedVariables false
set_option maxRecDepth 100000
set_option maxHeartbeats 4000000
noncomputable section
open Bool renaming and_eq_true->eX,and_false->gQ,and_true->r2,eq_iff_iff->q8,false_and->dm,false_eq_true->kc,false_or->lr,not_eq_false'->aaT,not_eq_true'->yz,not_false->cv,not_true->bX,or_false->lY,or_true->r1,true_and->eF,true_or->nr
open Decidable renaming em->dG,not_not->Z3
open Int renaming add_comm->uW,add_zero->tw,cast_ofNat_Int->ki,fdiv_eq_ediv_of_nonneg->aaa,le_of_lt->KH,lt_trichotomy->q3,mul_add->hh,mul_assoc->hi,mul_comm->lx,mul_fdiv_add_fmod->KT,mul_ne_zero->wR,mul_neg->GO,mul_nonneg->q1,mul_one->o8,mul_zero->uZ,natAbs_mul->nz,natAbs_natCast->k3,natAbs_neg->tB,natCast_add->ZY,natCast_pos->AJ,natCast_zero->jT,neg_mul->C1,ofNat_sub->ZX,one_mul->nw,pow_pos->CP,pow_succ->lv,reducePow->Z9,sign_eq_neg_one_of_neg->jY,sign_eq_one_of_pos->fS,sign_eq_zero_iff_zero->Qr,sign_mul->mX,sign_mul_natAbs->CU,sign_neg->Ax,sign_sign->yn,sign_zero->vc,sub_zero->wB,tdiv_eq_ediv_of_nonneg->CI,tdiv_nonneg->aaX,tmod_eq_emod_of_nonneg->Gz,tmod_nonneg->aaW,toNat_natCast->nt,zero_mul->AF,zero_sub->aar
open List renaming all_cons->Cd,append_assoc->gZ,append_nil->gk,drop_eq_getElem_cons->iI,drop_set_of_lt->qO,drop_zero->o1,findIdx?_eq_none_iff->aax,findIdx?_eq_some_iff_getElem->aaw,flatten_nil->aaE,getD_eq_getElem?_getD->fP,getElem?_eq_getElem->bL,getElem?_eq_none->nh,getElem?_map->bb,getElem_mem->s7,length->o,length_append->fE,length_cons->jN,length_map->af,length_nil->mj,length_pos_iff->KA,length_singleton->AV,length_take->gO,map_cons->e8,map_nil->cM,map_take->yu,mem_replicate->CF,mem_singleton->tx,replicate->eL,take_add_one->fQ,take_length->k4,take_of_length_le->du
open List.cons renaming injEq->bn
open Nat renaming div_add_mod->KD,div_div_eq_div_mul->aaH,div_le_self->Qq,eq_zero_or_pos->jo,gcd->gb,gcd_comm->KB,gcd_rec->ZV,gcd_zero_right->ZU,le_of_lt->AH,le_refl->cA,le_trans->eG,lt_of_div_lt_div->aaI,lt_of_le_of_lt->q0,lt_of_lt_of_le->ze,lt_or_ge->h1,lt_trans->Z1,max_eq_right->R3,min_eq_left->mi,mod_lt->oj,mul_comm->pY,mul_le_mul_right->rS,mul_lt_mul_of_pos_left->aaO,mul_one->dU,pos_of_ne_zero->KG,pow_succ->r6,reduceEqDiff->tI,reduceMul->Z8,succ_pos->Z2,zero_div->Qv,zero_le->fY,zero_mod->Qp
open Option renaming bind_none->iy,bind_some->hE
open Option.some renaming inj->ln,injEq->cz
open Prod renaming ext->dV,fst->wP
open Prod.mk renaming injEq->eU
open Rat renaming divInt->kl,divInt_mul_divInt->aaf,neg_divInt_neg->aab,num_divInt_den->AM
namespace Go.Mini
open Go
theorem jh (x:Int):(x.sign=1/\0<x)\/(x.sign=0/\x=0)\/(x.sign = -1/\x<0):=by
 rcases q3 x 0 with h|h|h
 ·exact .inr (.inr ⟨jY h,h⟩)
 ·exact .inr (.inl ⟨by rw[h];rfl,h⟩)
 ·exact .inl ⟨fS h,h⟩
def l1 (a b:Raw):Int:=if (cV a&&cV b)=true then fh (ga a) (ga b) else 0
theorem GN {x y:Int}(I:x.natAbs<c9)(ak:y.natAbs<c9):l1 (bc x) (bc y)=fh x y:=by
 unfold l1;rw[iO I,iO ak,eo,eo]
 rfl
theorem wI {x y:Int}(h:x<y):fh x y = -1:=by unfold fh;rw[aj (by simpa using h)]
theorem AD {x y:Int}(h:y<x):fh x y=1:=by unfold fh;rw[aq (by simp;omega),aj (by simpa using h)]
theorem CY (x:Int):fh x x=0:=by unfold fh;simp
def Qn:=bU nA λ(s,l,s2,ab)=>cq (o l<=1000000/\o ab<=1000000) (.same (.int .i64 (l1 (s,l) (s2,ab))))
@[go_sem] theorem ay3 (s:Int)(l:List Int)(s2:Int)(ab:List Int)(E:(o l)<=1000000/\o ab<=1000000):Qn [.agg [.int .i64 s,.X (l.map Y)],.agg [.int .i64 s2,.X (ab.map Y)]]=some (.same (.int .i64 (l1 (s,l) (s2,ab)))):=(b3 ph (s,l,s2,ab)).trans (cw E _)
theorem aky (T:br)(dr:T jv=aK ts)(l0:T Cp=aK J6)(fD:T z1=aK Gv)(s:Int)(l:List Int)(s2:Int)(ab:List Int)(E:(o l)<=1000000/\o ab<=1000000):WP T Pa (.same (.int .i64 (l1 (s,l) (s2,ab)))) [.J (.agg [.int .i64 s,.X (l.map Y)]),.J (.agg [.int .i64 s2,.X (ab.map Y)])]:=by
 refine b4 ?_;simp only[Pa];obtain⟨bk,bp⟩:=E
 by_cases U:cV (s,l)=true
 ·by_cases aZ:cV (s2,ab)=true
  ·obtain⟨x,I,e⟩:=(gR _).1 U;obtain⟨y,ak,aB⟩:=(gR _).1 aZ;have hm:l1 (s,l) (s2,ab)=fh x y:=by rw[e,aB];exact GN I ak
   rw[hm];clear hm
   cases e
   cases aB;have k2:=lD I;have iM:=lD ak;have fu:=PF x.natAbs y.natAbs ⟨by omega,by omega⟩
   simp only[bW] at fu
   by_cases aa:x.sign=y.sign
   ·have lF:(x.sign==y.sign)=true:=by simpa using aa
    have hD:IntKind.i64.wrap (y.sign*fh x.natAbs y.natAbs)=fh x y:=by
     rcases jh x with ⟨e,D⟩|⟨e,D⟩|⟨e,D⟩<;>rcases jh y with ⟨e',G⟩|⟨e',G⟩|⟨e',G⟩<;>rw[e,e'] at aa<;>first|omega|skip
     ·rw[e',nw,show (x.natAbs:Int)=x by omega,show (y.natAbs:Int)=y by omega]
      rcases q3 x y with h|h|h
      ·rw[wI h];rfl
      ·rw[h,CY];rfl
      ·rw[AD h];rfl
     ·rw[e',D,G];rfl
     ·rw[e'];rcases q3 x y with h|h|h
      ·rw[wI h,AD (by omega)];rfl
      ·rw[h,CY,CY];rfl
      ·rw[AD h,wI (by omega)];rfl
    rw[<-aa] at hD;simp only[go_sem,go_sem_proc,dr,l0,fD,U,aZ,bk,bp,lF,fu,hD];repeat' (first|refine al ?_ ?_|fail)<;>intro h<;>simp only[h,go_sem,go_sem_proc,dr,l0,fD,U,aZ,bk,bp,lF,fu,hD]
   ·have lF:(x.sign==y.sign)=false:=by simpa using aa
    have hD:fh x.sign y.sign=fh x y:=by
     rcases jh x with ⟨e,D⟩|⟨e,D⟩|⟨e,D⟩<;>rcases jh y with ⟨e',G⟩|⟨e',G⟩|⟨e',G⟩<;>rw[e,e'] at aa ⊢<;>first|omega|(rw[wI (show x<y by omega)];rfl)|(rw[AD (show y<x by omega)];rfl)
    simp only[go_sem,go_sem_proc,dr,l0,fD,U,aZ,bk,bp,lF,hD];repeat' (first|refine al ?_ ?_|fail)<;>intro h<;>simp only[h,go_sem,go_sem_proc,dr,l0,fD,U,aZ,bk,bp,lF,hD]
  ·have aZ:cV (s2,ab)=false:=by simpa using aZ
   have hm:l1 (s,l) (s2,ab)=0:=by unfold l1;rw[aZ,gQ];rfl
   rw[hm];simp only[go_sem,go_sem_proc,dr,l0,fD,U,aZ,bk,bp];repeat' (first|refine al ?_ ?_|fail)<;>intro h<;>simp only[h,go_sem,go_sem_proc,dr,l0,fD,U,aZ,bk,bp]
 ·have U:cV (s,l)=false:=by simpa using U
  have hm:l1 (s,l) (s2,ab)=0:=by unfold l1;rw[U,dm];rfl
  rw[hm];simp only[go_sem,go_sem_proc,dr,l0,fD,U,bk,bp];repeat' (first|refine al ?_ ?_|fail)<;>intro h<;>simp only[h,go_sem,go_sem_proc,dr,l0,fD,U,bk,bp]
def jC (a b:Raw):Raw×Int:=if (cV a&&cV b)=true then (bc (gb (ga a).natAbs (ga b).natAbs:Nat),0) else ((0,[]),1)
theorem CZ {x y:Int}(I:x.natAbs<c9)(ak:y.natAbs<c9):gb x.natAbs y.natAbs<c9:=by
 rcases jo x.natAbs with h|h
 ·rw[h,Nat.gcd_zero_left];exact ak
 ·exact q0 (Nat.gcd_le_left _ h) I
def Kz:=bU nA λ(s,l,s2,ab)=>cq (o l<=1000000/\o ab<=1000000) (.same (c0 (jC (s,l) (s2,ab))))
@[go_sem] theorem ay4 (s:Int)(l:List Int)(s2:Int)(ab:List Int)(E:(o l)<=1000000/\o ab<=1000000):Kz [.agg [.int .i64 s,.X (l.map Y)],.agg [.int .i64 s2,.X (ab.map Y)]]=some (.same (c0 (jC (s,l) (s2,ab)))):=(b3 ph (s,l,s2,ab)).trans (cw E _)
theorem akz (T:br)(dr:T jv=aK ts)(fb:T sa=aK x0)(l2:T F0=aK Kg)(eZ:T mT=aK x1)(k1:T r9=aK GK)(s:Int)(l:List Int)(s2:Int)(ab:List Int)(E:(o l)<=1000000/\o ab<=1000000):WP T O5 (.same (c0 (jC (s,l) (s2,ab)))) [.J (.agg [.int .i64 s,.X (l.map Y)]),.J (.agg [.int .i64 s2,.X (ab.map Y)])]:=by
 refine b4 ?_;simp only[O5];obtain⟨bk,bp⟩:=E
 by_cases U:cV (s,l)=true
 ·by_cases aZ:cV (s2,ab)=true
  ·obtain⟨x,I,e⟩:=(gR _).1 U;obtain⟨y,ak,aB⟩:=(gR _).1 aZ
   have hm:jC (s,l) (s2,ab)=(bc (gb x.natAbs y.natAbs:Nat),0):=by
    rw[e,aB];unfold jC
    rw[iO I,iO ak,eo,eo]
    rfl
   rw[hm];clear hm
   cases e
   cases aB;have k2:=lD I;have iM:=lD ak;have bw:=CZ I ak;generalize p4:x.natAbs=dR at *;generalize wJ:y.natAbs=fs at *;have C0:(aD dR).length<=1000000:=by omega
   simp only[go_sem,go_sem_proc,dr,fb,l2,eZ,k1,U,aZ,p4,wJ,bk,bp,C0,Y,af];refine dw [4] [137004] (λ((a,b):Nat×Nat) tm mem=>a<c9/\b<c9/\gb dR fs=gb a b/\tm 6=.J (.X ((aD a).map Y))/\tm 7=.J (.X ((aD b).map Y))) (λ(_,b)=>b) (dR,fs) (by refine⟨I,ak,rfl,rfl,rfl⟩) ?_;intro vs ms a7 aY;simp only[go_sem,go_sem_proc,dr,fb,l2,eZ,k1,p4,wJ] at a7 aY;subst a7 aY;rintro⟨a,b⟩ tm mem R hm ⟨aM,ah,AE,b1,cd⟩;simp only[go_sem,go_sem_proc,dr,fb,l2,eZ,k1,bn] at R hm;have aR:=R;have hG:(aD a).length<=60:=fC.2 aM;have je:(aD b).length<=60:=fC.2 ah;rcases jo b with au|hT
   ·subst au;have a8:aD 0=[]:=rfl;have Qo:(aD a).length<=1000000:=by omega
    rw[ZU] at AE;have aa:hH 1 (aD a)=bc ((a:Nat):Int):=lC (by simp) λaL=>(fS (by omega)).symm;have R:mq ((a:Nat):Int)=(bc ((a:Nat):Int),0):=by unfold mq;rw[aj (by simpa using aM)]
    rw[AE];refine aQ ?_;repeat' (intro h<;>simp only[h,go_sem,go_sem_proc,dr,fb,l2,eZ,k1,aR,b1,cd,hm,a8,Qo,aa,R,mr,bF,c0,hJ,cM,mj,jT,ki,show ¬ ((0:Int)>0) by omega,decide_false]<;>try refine al ?_ ?_)
   ·have bZ:decide (((aD b).length:Int)>0)=true:=by
     have:aD b≠[]:=by rw[Ne,we];omega
     have:=KA.2 this;exact dn
    have hdiv:=ZE a b ⟨by omega,by omega,hT⟩
    simp only[bW] at hdiv;refine aQ ?_;repeat' (intro h<;>simp only[h,go_sem,go_sem_proc,dr,fb,l2,eZ,k1,aR,b1,cd,hm,bZ,hdiv,af]<;>try refine al ?_ ?_)
    exact⟨(b,a%b),oj _ hT,ah,q0 (Nat.mod_le _ _) aM,by dsimp only;rw[AE,KB a b,ZV b a,KB],rfl,rfl⟩
  ·have aZ:cV (s2,ab)=false:=by simpa using aZ
   have hm:jC (s,l) (s2,ab)=((0,[]),1):=by unfold jC;rw[aZ,gQ];rfl
   rw[hm];have mu:=CV false 0 [];simp only[cM] at mu;refine aQ ?_;repeat' (intro h<;>simp only[h,go_sem,go_sem_proc,dr,fb,l2,eZ,k1,U,aZ,bk,bp,mu,bF,c0,cM]<;>try refine al ?_ ?_)
 ·have U:cV (s,l)=false:=by simpa using U
  have hm:jC (s,l) (s2,ab)=((0,[]),1):=by unfold jC;rw[U,dm];rfl
  rw[hm];have mu:=CV false 0 [];simp only[cM] at mu;refine aQ ?_;repeat' (intro h<;>simp only[h,go_sem,go_sem_proc,dr,fb,l2,eZ,k1,U,bk,bp,mu,bF,c0,cM]<;>try refine al ?_ ?_)
def ji (a b:Raw):Raw×Raw×Int :=
 if (cV a&&cV b)=true then
  if ga b=0 then ((0,[]),(0,[]),15) else (bc ((ga a).fdiv (ga b)),bc ((ga a).fmod (ga b)),0)
 else ((0,[]),(0,[]),1)
def fw (x:Raw×Raw×Int):Data:=.cQ [.agg (bF x.1),.agg (bF x.2.1),.int .i64 x.2.2]
theorem ZW {x y q r:Int}(h:r+y*q=x)(U:(0<=r/\r<y)\/(y<r/\r<=0)):x.fdiv y=q/\x.fmod y=r:=by
 rcases U with ⟨D,G⟩|⟨D,G⟩
 ·exact (Int.fdiv_fmod_unique (by omega)).2 ⟨h,D,G⟩
 ·exact (Int.fdiv_fmod_unique' (by omega)).2 ⟨h,D,G⟩
theorem KC {x y:Int}(h:x.sign*y.sign<0)(hm:x.natAbs%y.natAbs≠0):
  x.fdiv y = -((x.natAbs/y.natAbs+1:Nat):Int)/\x.fmod y=y.sign*((y.natAbs-x.natAbs%y.natAbs:Nat):Int):=by
 have G:=KD x.natAbs y.natAbs;generalize fr:x.natAbs/y.natAbs=aT at *;generalize dk:x.natAbs%y.natAbs=cD at *
 have ak:0<y.natAbs:=by
  rcases jo y.natAbs with au|au
  ·rw[Int.natAbs_eq_zero.1 au] at h;simp at h
  ·exact au
 have az:cD<y.natAbs:=by rw[<-dk];exact oj _ ak
 have ta:(y.natAbs:Int)*aT+cD=x.natAbs:=by exact_mod_cast G
 refine ZW ?_ ?_
 ·rcases jh x with ⟨e,D⟩|⟨e,D⟩|⟨e,D⟩<;>rcases jh y with ⟨e',ag⟩|⟨e',ag⟩|⟨e',ag⟩<;>rw[e,e'] at h<;>first|omega|rw[e']
  ·rw[ZX (by omega),ZY,GO,hh];have:(y.natAbs:Int) = -y:=by omega
   rw[this] at ta ⊢;rw[C1] at ta;omega
  ·rw[ZX (by omega),ZY,GO,hh];have:(y.natAbs:Int)=y:=by omega
   rw[this] at ta ⊢;omega
 ·rcases jh y with ⟨e',ag⟩|⟨e',ag⟩|⟨e',ag⟩<;>rw[e']<;>omega
theorem KE {x y:Int}(ak:y≠0)(h:¬ (x.sign*y.sign<0/\x.natAbs%y.natAbs≠0)):
  x.fdiv y=x.sign*y.sign*((x.natAbs/y.natAbs:Nat):Int)/\x.fmod y=x.sign*((x.natAbs%y.natAbs:Nat):Int):=by
 have G:=KD x.natAbs y.natAbs;have az:x.natAbs%y.natAbs<y.natAbs:=oj _ (by omega);generalize fr:x.natAbs/y.natAbs=aT at *;generalize dk:x.natAbs%y.natAbs=cD at *;have ta:(y.natAbs:Int)*aT+cD=x.natAbs:=by exact_mod_cast G
 refine ZW ?_ ?_
 ·rcases jh x with ⟨e,D⟩|⟨e,D⟩|⟨e,D⟩<;>rcases jh y with ⟨e',ag⟩|⟨e',ag⟩|⟨e',ag⟩<;>first|omega|(rw[e,e'])
  ·rw[show (y.natAbs:Int)=y by omega] at ta;simp only[nw];omega
  ·rw[show (y.natAbs:Int) = -y by omega,C1] at ta;simp only[nw,C1,GO];omega
  ·simp only[AF,uZ];omega
  ·simp only[AF,uZ];omega
  ·rw[show (y.natAbs:Int)=y by omega] at ta;simp only[nw,C1,GO,o8];omega
  ·rw[show (y.natAbs:Int) = -y by omega,C1] at ta;simp only[nw,C1,GO,Int.neg_neg];omega
 ·have aj8:x.natAbs=0->cD=0:=by
   intro au;rw[<-dk,au,Qp]
  rcases jh x with ⟨e,D⟩|⟨e,D⟩|⟨e,D⟩<;>rcases jh y with ⟨e',ag⟩|⟨e',ag⟩|⟨e',ag⟩<;>rw[e,e'] at h<;>rw[e]<;>omega
theorem C2 {x y:Int}(I:x.natAbs<c9)(hI:y≠0):(x.fdiv y).natAbs<c9:=by
 by_cases h:x.sign*y.sign<0/\x.natAbs%y.natAbs≠0
 ·have aN:=(KC h.1 h.2).1;have G:=KD x.natAbs y.natAbs
  have:x.natAbs/y.natAbs+1<=x.natAbs:=by
   have ZZ:2<=y.natAbs:=by
    rcases h1 y.natAbs 2 with au|au
    ·have:y.natAbs=1:=by omega
     rw[this,Nat.mod_one] at h;exact absurd rfl h.2
    ·exact au
   have ag:2*(x.natAbs/y.natAbs)<=y.natAbs*(x.natAbs/y.natAbs):=rS _ ZZ;omega
  generalize x.natAbs/y.natAbs=aT at *;omega
 ·have aN:=(KE hI h).1;have ag:x.natAbs/y.natAbs<=x.natAbs:=Qq _ _
  have aR:(x.fdiv y).natAbs<=x.natAbs/y.natAbs:=by
   rw[aN,nz,nz,k3];have D:x.sign.natAbs<=1:=by have:=lE x;omega
   have G:y.sign.natAbs<=1:=by have:=lE y;omega
   have:=Nat.mul_le_mul D G;have:=rS (x.natAbs/y.natAbs) this;omega
  omega
theorem Z0 {x y:Int}(ak:y.natAbs<c9)(hI:y≠0):(x.fmod y).natAbs<c9:=by
 by_cases h:x.sign*y.sign<0/\x.natAbs%y.natAbs≠0
 ·have aN:=(KC h.1 h.2).2;rcases jh y with ⟨e',ag⟩|⟨e',ag⟩|⟨e',ag⟩<;>rw[e'] at aN<;>omega
 ·have aN:=(KE hI h).2;have az:x.natAbs%y.natAbs<y.natAbs:=oj _ (by omega);rcases jh x with ⟨e',ag⟩|⟨e',ag⟩|⟨e',ag⟩<;>rw[e'] at aN<;>omega
theorem wK {x y:Int}(I:x.natAbs<c9)(ak:y.natAbs<c9)(au:y≠0):ji (bc x) (bc y)=(bc (x.fdiv y),bc (x.fmod y),0):=by
 unfold ji;rw[iO I,iO ak,eo,eo,aj (by rfl),aq au]
def KF:=bU nA λ(s,l,s2,ab)=>cq (o l<=1000000/\o ab<=1000000) (.same (fw (ji (s,l) (s2,ab))))
@[go_sem] theorem ay5 (s:Int)(l:List Int)(s2:Int)(ab:List Int)(E:(o l)<=1000000/\o ab<=1000000):KF [.agg [.int .i64 s,.X (l.map Y)],.agg [.int .i64 s2,.X (ab.map Y)]]=some (.same (fw (ji (s,l) (s2,ab)))):=(b3 ph (s,l,s2,ab)).trans (cw E _)
theorem akA (T:br)(dr:T jv=aK ts)(l2:T F0=aK Kg)(kE:T F2=aK J9)(kF:T Co=aK Ka)(eZ:T mT=aK x1)(s:Int)(l:List Int)(s2:Int)(ab:List Int)(E:(o l)<=1000000/\o ab<=1000000):WP T O9 (.same (fw (ji (s,l) (s2,ab)))) [.J (.agg [.int .i64 s,.X (l.map Y)]),.J (.agg [.int .i64 s2,.X (ab.map Y)])]:=by
 refine b4 ?_;simp only[O9];obtain⟨bk,bp⟩:=E
 by_cases U:cV (s,l)=true
 ·by_cases aZ:cV (s2,ab)=true
  ·obtain⟨x,I,e⟩:=(gR _).1 U;obtain⟨y,ak,aB⟩:=(gR _).1 aZ
   by_cases hI:y=0
   ·have hm:ji (s,l) (s2,ab)=((0,[]),(0,[]),15):=by
     rw[e,aB];unfold ji
     rw[iO I,iO ak,eo,eo,aj (by rfl),aj hI]
    rw[hm]
    cases e
    cases aB;have au:((y.sign:Int)==0)=true:=by rw[hI];rfl
    simp only[go_sem,go_sem_proc,dr,l2,kE,kF,eZ,U,aZ,bk,bp,au,bF,fw,cM];repeat' (first|refine al ?_ ?_|fail)<;>intro h<;>simp only[h,go_sem,go_sem_proc,dr,l2,kE,kF,eZ,U,aZ,bk,bp,au,bF,fw,cM]
   ·have hm:ji (s,l) (s2,ab)=(bc (x.fdiv y),bc (x.fmod y),0):=by
     rw[e,aB];exact wK I ak hI
    rw[hm];clear hm
    cases e
    cases aB;have k2:=lD I;have iM:=lD ak;have q6:(y.sign==0)=false:=by rw[beq_eq_false_iff_ne,Ne,Qr];exact hI
    have AG:0<y.natAbs:=by omega
    have D:=lE x;have G:=lE y;have aG:x.sign*y.sign=(x*y).sign:=(mX x y).symm;have ag:=lE (x*y);have hw:IntKind.i64.wrap (x.sign*y.sign)=x.sign*y.sign:=by rw[aG];exact wrap64 _ (by omega) (by omega)
    have hdiv:=ZE x.natAbs y.natAbs ⟨by omega,by omega,AG⟩
    simp only[bW] at hdiv;have aF:=C2 (y:=y) I hI;have akB:=Z0 (x:=x) ak hI;have Qs:x.natAbs/y.natAbs<c9:=q0 (Qq _ _) I;have akC:(aD (x.natAbs/y.natAbs)).length<=60:=fC.2 Qs;have Qt:x.natAbs%y.natAbs<c9:=Z1 (oj _ AG) ak;have akD:(aD (x.natAbs%y.natAbs)).length<=60:=fC.2 Qt
    by_cases q7:x.sign*y.sign<0/\x.natAbs%y.natAbs≠0
    ·obtain⟨eq,tA⟩:=KC q7.1 q7.2
     have bZ:decide (((aD (x.natAbs%y.natAbs)).length:Int)>0)=true:=by
      have:aD (x.natAbs%y.natAbs)≠[]:=by rw[Ne,we];exact q7.2
      have:=KA.2 this;exact dn
     have jf:decide (x.sign*y.sign<0)=true:=hc q7.1;have jy:aD 1=[1]:=by simp[aD,uP]
     have akE:(aD 1).length=1:=by rw[jy];rfl
     have eT:=Y8 (x.natAbs/y.natAbs) 1 ⟨by omega,by omega⟩
     simp only[bW,jy,e8,cM,Y] at eT;have hn:=PL y.natAbs (x.natAbs%y.natAbs) ⟨by omega,AH (oj _ AG)⟩
     simp only[bW] at hn
     have hG:(aD (x.natAbs/y.natAbs+1)).length<=1000000:=by
      have:(x.natAbs/y.natAbs+1)<c9:=by rw[eq] at aF;rw[tB,k3] at aF;exact aF
      have:=(fC (k:=60)).2 this;omega
     have je:(aD (y.natAbs-x.natAbs%y.natAbs)).length<=1000000:=by have:=CX y.natAbs (x.natAbs%y.natAbs);omega
     have g3:hH (-1) (aD (x.natAbs/y.natAbs+1))=bc (x.fdiv y):=lC (by rw[eq,tB,k3]) λ_=>by rw[eq,Ax,fS (show (0:Int)<((x.natAbs/y.natAbs+1:Nat):Int) by exact AJ.2 (Z2 _))]
     have l3:hH y.sign (aD (y.natAbs-x.natAbs%y.natAbs))=bc (x.fmod y):=by
      refine lC ?_ λaL=>?_
      ·rw[tA];rcases jh y with ⟨e',ag⟩|⟨e',ag⟩|⟨e',ag⟩<;>rw[e']<;>omega
      ·rw[tA,mX,yn,fS (show (0:Int)<((y.natAbs-x.natAbs%y.natAbs:Nat):Int) by omega),o8]
     simp only[go_sem,go_sem_proc,dr,l2,kE,kF,eZ,U,aZ,bk,bp,q6,hw,hdiv,bZ,jf,eT,hn,hG,je,g3,l3,Y,af,bF,fw,hJ];repeat' (first|refine al ?_ ?_|fail)<;>intro h<;>simp only[h,go_sem,go_sem_proc,dr,l2,kE,kF,eZ,U,aZ,bk,bp,q6,hw,hdiv,bZ,jf,eT,hn,hG,je,g3,l3,Y,af,bF,fw,hJ]
    ·obtain⟨eq,tA⟩:=KE hI q7
     have Qu:(decide (x.sign*y.sign<0)=true/\decide (((aD (x.natAbs%y.natAbs)).length:Int)>0)=false)\/decide (x.sign*y.sign<0)=false:=by
      by_cases aL:x.sign*y.sign<0
      ·left
       have:x.natAbs%y.natAbs=0:=Z3.1 λh=>q7 ⟨aL,h⟩;rw[this];exact⟨hc aL,rfl⟩
      ·right;exact gr aL
     have hG:(aD (x.natAbs/y.natAbs)).length<=1000000:=by omega
     have je:(aD (x.natAbs%y.natAbs)).length<=1000000:=by omega
     have g3:hH (x.sign*y.sign) (aD (x.natAbs/y.natAbs))=bc (x.fdiv y):=by
      refine lC ?_ λaL=>?_
      ·rw[eq]
       have AK:∀aT:Nat,(x=0->aT=0)->(x.sign*y.sign*(aT:Int)).natAbs=aT:=by
        intro aT au;rcases jh x with ⟨e,D⟩|⟨e,D⟩|⟨e,D⟩<;>rcases jh y with ⟨e',ag⟩|⟨e',ag⟩|⟨e',ag⟩<;>rw[e,e']<;>first|omega|(rw[au D];rfl)
       exact AK _ λau=>by rw[au];exact Qv _
      ·rw[eq,aG,mX,mX,mX,yn,yn,fS (show (0:Int)<((x.natAbs/y.natAbs:Nat):Int) from AJ.2 (KG aL)),o8]
     have l3:hH x.sign (aD (x.natAbs%y.natAbs))=bc (x.fmod y):=by
      refine lC ?_ λaL=>?_
      ·rw[tA]
       have AK:∀aT:Nat,(x=0->aT=0)->(x.sign*(aT:Int)).natAbs=aT:=by
        intro aT au;rcases jh x with ⟨e,D⟩|⟨e,D⟩|⟨e,D⟩<;>rw[e]<;>first|omega|(rw[au D];rfl)
       exact AK _ λau=>by rw[au];exact Qp _
      ·rw[tA,mX,yn,fS (show (0:Int)<((x.natAbs%y.natAbs:Nat):Int) from AJ.2 (KG aL)),o8]
     rcases Qu with ⟨tC,GP⟩|tC
     ·simp only[go_sem,go_sem_proc,dr,l2,kE,kF,eZ,U,aZ,bk,bp,q6,hw,hdiv,tC,GP,hG,je,g3,l3,Y,af,bF,fw,hJ];repeat' (first|refine al ?_ ?_|fail)<;>intro h<;>simp only[h,go_sem,go_sem_proc,dr,l2,kE,kF,eZ,U,aZ,bk,bp,q6,hw,hdiv,tC,GP,hG,je,g3,l3,Y,af,bF,fw,hJ]
     ·simp only[go_sem,go_sem_proc,dr,l2,kE,kF,eZ,U,aZ,bk,bp,q6,hw,hdiv,tC,hG,je,g3,l3,Y,af,bF,fw,hJ];repeat' (first|refine al ?_ ?_|fail)<;>intro h<;>simp only[h,go_sem,go_sem_proc,dr,l2,kE,kF,eZ,U,aZ,bk,bp,q6,hw,hdiv,tC,hG,je,g3,l3,Y,af,bF,fw,hJ]
  ·have aZ:cV (s2,ab)=false:=by simpa using aZ
   have hm:ji (s,l) (s2,ab)=((0,[]),(0,[]),1):=by unfold ji;rw[aZ,gQ];rfl
   rw[hm];simp only[go_sem,go_sem_proc,dr,l2,kE,kF,eZ,U,aZ,bk,bp,bF,fw,cM];repeat' (first|refine al ?_ ?_|fail)<;>intro h<;>simp only[h,go_sem,go_sem_proc,dr,l2,kE,kF,eZ,U,aZ,bk,bp,bF,fw,cM]
 ·have U:cV (s,l)=false:=by simpa using U
  have hm:ji (s,l) (s2,ab)=((0,[]),(0,[]),1):=by unfold ji;rw[U,dm];rfl
  rw[hm];simp only[go_sem,go_sem_proc,dr,l2,kE,kF,eZ,U,bk,bp,bF,fw,cM];repeat' (first|refine al ?_ ?_|fail)<;>intro h<;>simp only[h,go_sem,go_sem_proc,dr,l2,kE,kF,eZ,U,bk,bp,bF,fw,cM]
def c8 (n:Int):Prop:=-9223372036854775808<=n/\n<=9223372036854775807
theorem akF {n:Nat}(h:n<=9223372036854775808):n<c9:=by
 unfold c9;refine ze (m:=1048576^4) ?_ (Nat.pow_le_pow_right (by omega) (by omega));omega
theorem u9 {n:Int}(h:c8 n):n.natAbs<c9:=akF (by unfold c8 at h;omega)
theorem Qw (n:Int)(D:-18446744073709551616<=n)(G:n<0):IntKind.u64.wrap n=n+18446744073709551616:=by
 unfold IntKind.wrap;simp[IntKind.bits,IntKind.signed];omega
def Qx:=bU tq λ(n:Int)=>cq (c8 n) (.same (.agg (bF (bc n))))
@[go_sem] theorem ay6 (n:Int)(E:c8 n):Qx [.int .i64 n]=some (.same (.agg (bF (bc n)))):=(b3 wo n).trans (cw E _)
theorem akG (T:br)(eZ:T mT=aK x1)(n:Int)(E:c8 n):WP T O7 (.same (.agg (bF (bc n)))) [.J (.int .i64 n)]:=by
 refine b4 ?_;simp only[O7];have jr:=E;unfold c8 at jr;obtain⟨oO,pS⟩:=jr;have aa:∀s:Int,(n≠0->s=n.sign)->hH s (aD n.natAbs)=bc n:=λs h=>lC rfl λbZ=>h (by omega);have hlen:(aD n.natAbs).length<=60:=fC.2 (u9 E);rcases dG (n<0) with jf|hT
 ·have hw:=Qw n (by omega) jf
  have fL:IntKind.u64.wrap (0-(n+18446744073709551616))=(n.natAbs:Int):=by
   rw[Qw _ (by omega) (by omega)];omega
  simp only[go_sem,go_sem_proc,eZ,jf,hw,fL,decide_true];refine dw [2,3] [150002] (λ((u,g,l):Nat×Nat×List Int) tm mem=>u<=9223372036854775808/\aD n.natAbs=l++aD u/\tm 4=.J (.int .u64 u)/\tm 5=.ref 150021 g 1 0 (o l)/\mem 150021=some (g,bK Y l)) (λ(u,_)=>u) (n.natAbs,0,[]) (by refine⟨by omega,rfl,?_,rfl,rfl⟩;rfl) ?_;intro vs ms a7 aY;simp only[go_sem,go_sem_proc,eZ] at a7 aY;subst a7 aY;rintro⟨u,g,l⟩ tm mem R hm ⟨hu,ae,aR,bs,wL⟩;simp only[go_sem,go_sem_proc,eZ,bn] at R hm;obtain⟨G,ag⟩:=R;rcases jo u with au|u3
  ·subst au;rw[qU,gk] at ae;rw[ae] at aa hlen;have sm:(o l)<=1000000:=by omega
   have h3:=aa (-1) (λ_=>by exact (jY jf).symm);simp only[go_sem,go_sem_proc,eZ,G,ag,aR,bs,hm,wL,h3,sm,bF,jT,ki,af,show ¬ ((0:Int)>0) by omega,decide_false,ml fR,k4]
   repeat' (first|refine al ?_ ?_|fail)<;>intro h<;>simp only[h,go_sem,go_sem_proc,eZ,G,ag,aR,bs,hm,wL,h3,sm,bF,jT,ki,af,show ¬ ((0:Int)>0) by omega,decide_false,ml fR,k4]
  ·have wF:(o l)<=60:=by
    have:=congrArg o ae;rw[fE] at this;omega
   have js:decide ((u:Int)>0)=true:=dn;have ev:∀a:Int,pO 150021 g 1 (o l) 8 1 [.J (.int .i64 a)] (some (g,bK Y l))=_:=λa=>o4 fR o5 150021 g 8 l a rfl (by omega) (by omega);have hand:=YP u ⟨by omega,by omega⟩
   have GQ:IntKind.i64.wrap ((u:Int)%1048576)=(u:Int)%1048576:=wrap64 _ (by omega) (by omega);simp only[go_sem,go_sem_proc,eZ,G,ag,aR,bs,hm,wL,js,ev,hand,GQ,mm,show ((20:Int)<0)=False from by simp,if_false,af,bn]
   repeat' (first|refine al ?_ ?_|fail)<;>intro h<;>simp only[h,go_sem,go_sem_proc,eZ,G,ag,aR,bs,hm,wL,js,ev,hand,GQ,mm,show ((20:Int)<0)=False from by simp,if_false,af,bn]
   refine⟨(u/1048576,g+1,l++[(u:Int)%1048576]),by dsimp only;omega,by dsimp only;omega,by dsimp only;rw[gZ,ae,r5 u3];rfl,by first|rfl|(dsimp only;rw[zT _ ⟨by omega,by omega⟩];rfl),by simp,by simp[go_sem]⟩
 ·have hw:IntKind.u64.wrap n=(n.natAbs:Int):=by rw[zT _ ⟨by omega,by omega⟩];omega
  simp only[go_sem,go_sem_proc,eZ,hT,hw,decide_false];refine dw [2,3] [150002] (λ((u,g,l):Nat×Nat×List Int) tm mem=>u<=9223372036854775808/\aD n.natAbs=l++aD u/\tm 4=.J (.int .u64 u)/\tm 5=.ref 150021 g 1 0 (o l)/\mem 150021=some (g,bK Y l)) (λ(u,_)=>u) (n.natAbs,0,[]) (by refine⟨by omega,rfl,?_,rfl,rfl⟩;rfl) ?_;intro vs ms a7 aY;simp only[go_sem,go_sem_proc,eZ] at a7 aY;subst a7 aY;rintro⟨u,g,l⟩ tm mem R hm ⟨hu,ae,aR,bs,wL⟩;simp only[go_sem,go_sem_proc,eZ,bn] at R hm;obtain⟨G,ag⟩:=R;rcases jo u with au|u3
  ·subst au;rw[qU,gk] at ae;rw[ae] at aa hlen;have sm:(o l)<=1000000:=by omega
   have h3:=aa 1 (λ_=>by exact (fS (by omega)).symm);simp only[go_sem,go_sem_proc,eZ,G,ag,aR,bs,hm,wL,h3,sm,bF,jT,ki,af,show ¬ ((0:Int)>0) by omega,decide_false,ml fR,k4]
   repeat' (first|refine al ?_ ?_|fail)<;>intro h<;>simp only[h,go_sem,go_sem_proc,eZ,G,ag,aR,bs,hm,wL,h3,sm,bF,jT,ki,af,show ¬ ((0:Int)>0) by omega,decide_false,ml fR,k4]
  ·have wF:(o l)<=60:=by
    have:=congrArg o ae;rw[fE] at this;omega
   have js:decide ((u:Int)>0)=true:=dn;have ev:∀a:Int,pO 150021 g 1 (o l) 8 1 [.J (.int .i64 a)] (some (g,bK Y l))=_:=λa=>o4 fR o5 150021 g 8 l a rfl (by omega) (by omega);have hand:=YP u ⟨by omega,by omega⟩
   have GQ:IntKind.i64.wrap ((u:Int)%1048576)=(u:Int)%1048576:=wrap64 _ (by omega) (by omega);simp only[go_sem,go_sem_proc,eZ,G,ag,aR,bs,hm,wL,js,ev,hand,GQ,mm,show ((20:Int)<0)=False from by simp,if_false,af,bn]
   repeat' (first|refine al ?_ ?_|fail)<;>intro h<;>simp only[h,go_sem,go_sem_proc,eZ,G,ag,aR,bs,hm,wL,js,ev,hand,GQ,mm,show ((20:Int)<0)=False from by simp,if_false,af,bn]
   refine⟨(u/1048576,g+1,l++[(u:Int)%1048576]),by dsimp only;omega,by dsimp only;omega,by dsimp only;rw[gZ,ae,r5 u3];rfl,by first|rfl|(dsimp only;rw[zT _ ⟨by omega,by omega⟩];rfl),by simp,by simp[go_sem]⟩
theorem akH (k:IntKind)(a b:Int):bits .or k a b=bits .or k b a:=by
 simp only[bits,BitVec.or_comm]
theorem akI (u d:Int)(i:Nat)(Q:(2:Int)^i<=1152921504606846976)(hu:0<=u/\u<2^i)(ae:0<=d)(h:d*2^i<18446744073709551616):bits .or .u64 u (d*2^i)=u+d*2^i:=by
 rw[akH,uW];have au:0<=d*2^i:=q1 ae (by exact KH (CP (by omega)));refine bits_join .u64 64 (by decide) (λn D G=>zT n ⟨D,by omega⟩) i _ _ au (Int.mul_emod_left _ _) (by omega) hu.1 hu.2 (by omega)
instance (n:Int):Decidable (c8 n):=by unfold c8;exact inferInstance
def p5 (a:Raw):Int×Bool:=if cV a=true/\c8 (ga a) then (ga a,true) else (0,false)
def Qy:=bU wq λ(s,l)=>cq (o l<=1000000) (.same (.cQ [.int .i64 (p5 (s,l)).1,.bool (p5 (s,l)).2]))
@[go_sem] theorem ay7 (s:Int)(l:List Int)(E:(o l)<=1000000):Qy [.agg [.int .i64 s,.X (l.map Y)]]=some (.same (.cQ [.int .i64 (p5 (s,l)).1,.bool (p5 (s,l)).2])):=(b3 Ai (s,l)).trans (cw E _)
theorem akJ (T:br)(dr:T jv=aK ts)(s:Int)(l:List Int)(E:(o l)<=1000000):WP T Pg (.same (.cQ [.int .i64 (p5 (s,l)).1,.bool (p5 (s,l)).2])) [.J (.agg [.int .i64 s,.X (l.map Y)])]:=by
 refine b4 ?_;simp only[Pg]
 by_cases U:cV (s,l)=true
 ·obtain⟨z,a8,e⟩:=(gR _).1 U
  cases e
  have Q:p5 (z.sign,aD z.natAbs)=if c8 z then (z,true) else (0,false):=by
   unfold p5;rw[U,show ga (z.sign,aD z.natAbs)=z from eo z];simp
  rw[Q];clear Q;have aa:=jh z
  by_cases aR:(aD z.natAbs).length<=4
  ·have KI:decide (((aD z.natAbs).length:Int)>4)=false:=cY;have ni:=kg z.natAbs;have ix:=kY z.natAbs;generalize aD z.natAbs=l at *;simp only[go_sem,go_sem_proc,dr,U,E,KI,af,Y];refine dw [1,17,18] [159001] (λ((i,u):Nat×Int) tm mem=>i<=o l/\u=bl (l.take i)/\u<18446744073709551616/\tm 4=.J (.int .u64 u)/\tm 19=.J (.int .i64 i)) (λ(i,_)=>o l-i) (0,0) (by refine⟨by omega,rfl,by omega,rfl,rfl⟩) ?_;intro vs ms a7 aY;simp only[go_sem,go_sem_proc,dr] at a7 aY;subst a7 aY;rintro⟨i,u⟩ tm mem R hm ⟨Q,hu,ay8,om,oo⟩;simp only[go_sem,go_sem_proc,dr,bn] at R hm;obtain⟨D,oq,kC⟩:=R;have Z4:ey (l.take i):=λd ae=>ix d (List.mem_of_mem_take ae);have C3:0<=u:=by rw[hu];exact mS Z4
   rcases dG (i<o l) with az|cb
   ·have I:=bL az;have ae:=ix l[i] (s7 az);have qK:=jU l i az;have KJ:=wg Z4;rw[gO,mi (AH az),<-hu] at KJ;rw[<-hu] at qK;generalize l[i]=d at *;have nB:decide ((i:Int)<(o l:Int))=true:=dn;have x9:IntKind.u64.wrap d=d:=zT d ⟨ae.1,by omega⟩
    have u5:IntKind.i64.wrap (20*(i:Int))=((20*i:Nat):Int):=by rw[eQ _];omega
    have uE:min (20*i) 64=20*i:=by omega
    have mN:(((20*i:Nat):Int)<0)=False:=eq_false (by omega);have C4:(1048576:Int)^i=2^(20*i):=by rw[Int.pow_mul];rfl
    rw[C4] at KJ qK
    have rU:(2:Int)^(20*i)<=1152921504606846976:=by
     obtain rfl|rfl|rfl|rfl:i=0\/i=1\/i=2\/i=3:=by omega
     all_goals decide
    by_cases Z5:i=3/\d>8
    ·obtain⟨rfl,KK⟩:=Z5;have Z6:decide (d>8)=true:=hc KK;have Z7:(((3:Nat):Int)==3)=true:=rfl
     have akK:¬ c8 z:=by
      have uX:=FU l 4;rw[ni] at uX;have:0<=bl (l.drop 4):=mS λd ae=>ix d (List.mem_of_mem_drop ae);have bs:=q1 (show (0:Int)<=1048576^(min 4 (o l)) from KH (CP (by omega))) this;unfold c8;simp only[Z8,Nat.reduceAdd,Z9] at qK;rw[qK] at uX;omega
     rw[aq akK];simp only[go_sem,go_sem_proc,dr,D,oq,kC,om,oo,hm,I,ae.1,ae.2,nB,x9,Z6,Z7,af,bb,bn,Y];repeat' (first|refine al ?_ ?_|fail)<;>intro h<;>simp only[h,go_sem,go_sem_proc,dr,D,oq,kC,om,oo,hm,I,ae.1,ae.2,nB,x9,Z6,Z7,af,bb,bn,Y]
    ·have Al:d*2^(20*i)<18446744073709551616:=by
      obtain rfl|rfl|rfl|rfl:i=0\/i=1\/i=2\/i=3:=by omega
      all_goals simp
      all_goals omega
     have mV:=akI u d (20*i) rU ⟨C3,KJ⟩ ae.1 Al;have wM:0<=d*2^(20*i):=q1 ae.1 (KH (CP (by omega)));have GR:IntKind.u64.wrap (d*2^(20*i))=d*2^(20*i):=zT _ ⟨wM,Al⟩
     have jX:u+d*2^(20*i)<18446744073709551616:=by
      clear mV GR wM u5 mN C4 rU qK;obtain rfl|rfl|rfl|rfl:i=0\/i=1\/i=2\/i=3:=by omega
      all_goals simp only[Z8,Z9] at KJ Al ⊢
      all_goals omega
     by_cases ag:((i:Int)==3)=true
     ·have KK:decide (d>8)=false:=gr λh=>Z5 ⟨by simp at ag;omega,h⟩
      simp only[go_sem,go_sem_proc,dr,D,oq,kC,om,oo,hm,I,ae.1,ae.2,nB,x9,ag,KK,u5,mN,if_false,nt,uE,GR,mV,af,bb,bn,Y];repeat' (first|refine al ?_ ?_|fail)<;>intro h<;>simp only[h,go_sem,go_sem_proc,dr,D,oq,kC,om,oo,hm,I,ae.1,ae.2,nB,x9,ag,KK,u5,mN,if_false,nt,uE,GR,mV,af,bb,bn,Y]
      exact⟨(i+1,u+d*2^(20*i)),by dsimp only;omega,by dsimp only;omega,by dsimp only;rw[qK,lx],jX,rfl,by rw[eQ _];rfl⟩
     ·have ag:((i:Int)==3)=false:=by simpa using ag
      simp only[go_sem,go_sem_proc,dr,D,oq,kC,om,oo,hm,I,ae.1,ae.2,nB,x9,ag,u5,mN,if_false,nt,uE,GR,mV,af,bb,bn,Y];repeat' (first|refine al ?_ ?_|fail)<;>intro h<;>simp only[h,go_sem,go_sem_proc,dr,D,oq,kC,om,oo,hm,I,ae.1,ae.2,nB,x9,ag,u5,mN,if_false,nt,uE,GR,mV,af,bb,bn,Y]
      exact⟨(i+1,u+d*2^(20*i)),by dsimp only;omega,by dsimp only;omega,by dsimp only;rw[qK,lx],jX,rfl,by rw[eQ _];rfl⟩
   ·have nB:decide ((i:Int)<(o l:Int))=false:=cY;have hy:i=o l:=by omega
    rw[hy,k4,ni] at hu;rcases aa with ⟨aa,oR⟩|⟨aa,oR⟩|⟨aa,oR⟩
    ·by_cases hr64:u<9223372036854775808
     ·rw[aj (by unfold c8;omega)];have hw:IntKind.i64.wrap u=z:=by rw[wrap64 u (by omega) (by omega)];omega
      simp only[go_sem,go_sem_proc,dr,D,oq,kC,om,oo,hm,nB,aa,hr64,show decide ((1:Int)<0)=false from rfl,show decide ((1:Int)>=0)=true from rfl,show decide ((-1:Int)<0)=true from rfl,show decide ((-1:Int)>=0)=false from rfl,hw,decide_true,decide_false,af];repeat' (first|refine al ?_ ?_|fail)<;>intro h<;>simp only[h,go_sem,go_sem_proc,dr,D,oq,kC,om,oo,hm,nB,aa,hr64,show decide ((1:Int)<0)=false from rfl,show decide ((1:Int)>=0)=true from rfl,show decide ((-1:Int)<0)=true from rfl,show decide ((-1:Int)>=0)=false from rfl,hw,decide_true,decide_false,af]
     ·rw[aq (by unfold c8;omega)];simp only[go_sem,go_sem_proc,dr,D,oq,kC,om,oo,hm,nB,aa,hr64,show decide ((1:Int)<0)=false from rfl,show decide ((1:Int)>=0)=true from rfl,show decide ((-1:Int)<0)=true from rfl,show decide ((-1:Int)>=0)=false from rfl,decide_true,decide_false,af];repeat' (first|refine al ?_ ?_|fail)<;>intro h<;>simp only[h,go_sem,go_sem_proc,dr,D,oq,kC,om,oo,hm,nB,aa,hr64,show decide ((1:Int)<0)=false from rfl,show decide ((1:Int)>=0)=true from rfl,show decide ((-1:Int)<0)=true from rfl,show decide ((-1:Int)>=0)=false from rfl,decide_true,decide_false,af]
    ·rw[aj (by unfold c8;omega)];have akL:u=0:=by omega
     subst oR;subst akL;simp only[go_sem,go_sem_proc,dr,D,oq,kC,om,oo,hm,nB,aa,show decide ((0:Int)<0)=false from rfl,show decide ((0:Int)>=0)=true from rfl,show decide ((0:Int)<9223372036854775808)=true from rfl,show IntKind.i64.wrap 0=0 from rfl,show (0:Int).sign=0 from rfl,decide_true,decide_false,af];repeat' (first|refine al ?_ ?_|fail)<;>intro h<;>simp only[h,go_sem,go_sem_proc,dr,D,oq,kC,om,oo,hm,nB,aa,show decide ((0:Int)<0)=false from rfl,show decide ((0:Int)>=0)=true from rfl,show decide ((0:Int)<9223372036854775808)=true from rfl,show IntKind.i64.wrap 0=0 from rfl,show (0:Int).sign=0 from rfl,decide_true,decide_false,af]
    ·by_cases hr64:u<=9223372036854775808
     ·rw[aj (by unfold c8;omega)];have hw:=Qw (0-u) (by omega) (by omega)
      have fL:IntKind.i64.wrap (0-u+18446744073709551616)=z:=by
       simp[IntKind.wrap,IntKind.bits,IntKind.signed];omega
      simp only[go_sem,go_sem_proc,dr,D,oq,kC,om,oo,hm,nB,aa,hr64,show decide ((1:Int)<0)=false from rfl,show decide ((1:Int)>=0)=true from rfl,show decide ((-1:Int)<0)=true from rfl,show decide ((-1:Int)>=0)=false from rfl,hw,fL,decide_true,decide_false,af];repeat' (first|refine al ?_ ?_|fail)<;>intro h<;>simp only[h,go_sem,go_sem_proc,dr,D,oq,kC,om,oo,hm,nB,aa,hr64,show decide ((1:Int)<0)=false from rfl,show decide ((1:Int)>=0)=true from rfl,show decide ((-1:Int)<0)=true from rfl,show decide ((-1:Int)>=0)=false from rfl,hw,fL,decide_true,decide_false,af]
     ·rw[aq (by unfold c8;omega)];simp only[go_sem,go_sem_proc,dr,D,oq,kC,om,oo,hm,nB,aa,hr64,show decide ((1:Int)<0)=false from rfl,show decide ((1:Int)>=0)=true from rfl,show decide ((-1:Int)<0)=true from rfl,show decide ((-1:Int)>=0)=false from rfl,decide_true,decide_false,af];repeat' (first|refine al ?_ ?_|fail)<;>intro h<;>simp only[h,go_sem,go_sem_proc,dr,D,oq,kC,om,oo,hm,nB,aa,hr64,show decide ((1:Int)<0)=false from rfl,show decide ((1:Int)>=0)=true from rfl,show decide ((-1:Int)<0)=true from rfl,show decide ((-1:Int)>=0)=false from rfl,decide_true,decide_false,af]
  ·have KI:decide (((aD z.natAbs).length:Int)>4)=true:=dn
   have aL:¬ c8 z:=by
    intro h;unfold c8 at h;refine aR (fC.2 ?_);omega
   rw[aq aL];simp only[go_sem,go_sem_proc,dr,U,E,KI,af];repeat' (first|refine al ?_ ?_|fail)<;>intro h<;>simp only[h,go_sem,go_sem_proc,dr,U,E,KI,af]
 ·have U:cV (s,l)=false:=by simpa using U
  have Q:p5 (s,l)=(0,false):=by unfold p5;rw[aq];rw[U];simp
  rw[Q];simp only[go_sem,go_sem_proc,dr,U,E];repeat' (first|refine al ?_ ?_|fail)<;>intro h<;>simp only[h,go_sem,go_sem_proc,dr,U,E]
def Qz:bP:=b5 35 1 [.t 2] (M [cN 1 116001 0,cj 2 false] (.seq (M [bg 5 0 1,ba 6 2 5,(dg 7 jv 6),dY 8 7,F 9 8,⟨some 10,some (9,false),.c3 2 (.t 1)⟩,⟨some 11,some (9,false),.load 2 true (.t 10)⟩,⟨some 12,some (9,false),.call jv [(.t 11)]⟩,⟨some 13,some (9,false),.un .not (.t 12)⟩,cX 14 9 13,F 15 14,⟨some 16,some (15,false),.c3 2 (.t 1)⟩,⟨some 17,some (15,false),.c3 0 (.t 16)⟩,⟨some 18,some (15,false),.load 1 false (.t 17)⟩,⟨some 19,some (15,false),.bin .neq (.t 18) (.c (ao 1))⟩,cX 20 15 19] (aX 20 (M [cj 2 false] .ret) .skip)) (M [bg 22 0 1,ba 23 2 22,bg 24 2 1,ba 25 2 24,(b0 26 FX 23 25),F 21 26,bx 27 0 21,bx 28 1 21,(aE 3 (.alloc 116003 [(ao 0),.nil])),bu 2 3 27,F 4 28] (M [F 29 4,bo 30 .eql 29 0,F 31 30,⟨some 32,some (31,true),.load 2 true (.t 3)⟩,⟨some 33,some (31,true),.call Oh [(.t 32)]⟩,gI 34 31 33,F 2 34] .ret))))
def QA:bP:=b5 46 2 [.cell 4 4 true,.t 5] (M [cN 2 119002 0,cN 3 119003 1,(aE 4 (.alloc 119004 [(ao 0),.nil,(ao 0),.nil])),bq 5 0] (.seq (M [ba 10 4 2,(dg 11 kh 10),dY 12 11,F 13 12,⟨some 14,some (13,false),.load 4 true (.t 3)⟩,⟨some 15,some (13,false),.call kh [(.t 14)]⟩,⟨some 16,some (13,false),.un .not (.t 15)⟩,cX 17 13 16] (aX 17 (M [(aE 18 (.build [(ao 0),.nil,(ao 0),.nil] [])),bu 4 4 18,bq 5 1] .ret) .skip)) (M [bg 20 0 2,ba 21 2 20,bg 22 2 3,ba 23 2 22,bg 24 0 3,ba 25 2 24,bg 26 2 2,ba 27 2 26,(Cx 28 Oi 21 23 25 27),F 19 28,bx 29 0 19,bx 30 1 19,(aE 6 (.alloc 119006 [(ao 0),.nil])),bu 2 6 29,F 7 30] (M [bg 32 2 2,ba 33 2 32,bg 34 2 3,ba 35 2 34,(b0 36 r8 33 35),F 31 36,bx 37 0 31,bx 38 1 31,(aE 8 (.alloc 119008 [(ao 0),.nil])),bu 2 8 37,F 9 38] (M [ba 39 2 6,F 40 7,ba 41 2 8,F 42 9,(Cx 43 zX 39 40 41 42),bx 44 0 43,bx 45 1 43,bu 4 4 44,F 5 45] .ret)))))
def QB:bP:=b5 13 2 [.cell 4 4 true,.t 5] (M [(aE 4 (.alloc 130004 [(ao 0),.nil,(ao 0),.nil])),bq 5 0] (M [F 6 0,(dg 7 JQ 6),F 8 1,(dg 9 JQ 8),(b0 10 FZ 7 9),bx 11 0 10,bx 12 1 10,bu 4 4 11,F 5 12] .ret))
def QC:bP:=b5 25 2 [.cell 4 4 true,.t 5] (M [cN 2 132002 0,cN 3 132003 1,(aE 4 (.alloc 132004 [(ao 0),.nil,(ao 0),.nil])),bq 5 0] (.seq (M [ba 6 4 2,(dg 7 kh 6),dY 8 7,F 9 8,⟨some 10,some (9,false),.load 4 true (.t 3)⟩,⟨some 11,some (9,false),.call kh [(.t 10)]⟩,⟨some 12,some (9,false),.un .not (.t 11)⟩,cX 13 9 12] (aX 13 (M [(aE 14 (.build [(ao 0),.nil,(ao 0),.nil] [])),bu 4 4 14,bq 5 1] .ret) .skip)) (eS [ba 15 4 2,bg 16 0 3,ba 17 2 16,(dg 18 Cl 17),bg 19 2 3,ba 20 2 19,(aE 21 (.build [(ao 0),.nil,(ao 0),.nil] [(0,2,(.t 18)),(2,2,(.t 20))])),(b0 22 FV 15 21),bx 23 0 22,bx 24 1 22,bu 4 4 23,F 5 24] YU .ret)))
def QD:bP:=b5 42 2 [.cell 4 4 true,.t 5] (M [cN 2 134002 0,cN 3 134003 1,(aE 4 (.alloc 134004 [(ao 0),.nil,(ao 0),.nil])),bq 5 0] (.seq (M [ba 10 4 2,(dg 11 kh 10),dY 12 11,F 13 12,⟨some 14,some (13,false),.load 4 true (.t 3)⟩,⟨some 15,some (13,false),.call kh [(.t 14)]⟩,⟨some 16,some (13,false),.un .not (.t 15)⟩,cX 17 13 16] (aX 17 (M [(aE 18 (.build [(ao 0),.nil,(ao 0),.nil] [])),bu 4 4 18,bq 5 1] .ret) .skip)) (M [bg 20 0 2,ba 21 2 20,bg 22 0 3,ba 23 2 22,(b0 24 r8 21 23),F 19 24,bx 25 0 19,bx 26 1 19,(aE 6 (.alloc 134006 [(ao 0),.nil])),bu 2 6 25,F 7 26] (M [bg 28 2 2,ba 29 2 28,bg 30 2 3,ba 31 2 30,(b0 32 r8 29 31),F 27 32,bx 33 0 27,bx 34 1 27,(aE 8 (.alloc 134008 [(ao 0),.nil])),bu 2 8 33,F 9 34] (M [ba 35 2 6,F 36 7,ba 37 2 8,F 38 9,(Cx 39 zX 35 36 37 38),bx 40 0 39,bx 41 1 39,bu 4 4 40,F 5 41] .ret)))))
def QF:bP:=b5 78 2 [.t 4] (M [cN 2 135002 0,cN 3 135003 1,bq 4 0] (.seq (M [ba 17 4 2,(dg 18 kh 17),dY 19 18,F 20 19,⟨some 21,some (20,false),.load 4 true (.t 3)⟩,⟨some 22,some (20,false),.call kh [(.t 21)]⟩,⟨some 23,some (20,false),.un .not (.t 22)⟩,cX 24 20 23] (aX 24 (M [bq 4 0] .ret) .skip)) (eS [bg 25 0 2,ba 26 2 25,bg 27 2 2,ba 28 2 27,bg 29 0 3,ba 30 2 29,bg 31 2 3,ba 32 2 31,(aE 5 (.alloc 135005 [(ao 0),.nil])),(aE 6 (.alloc 135006 [(ao 0),.nil])),(aE 7 (.alloc 135007 [(ao 0),.nil])),(aE 8 (.alloc 135008 [(ao 0),.nil])),bu 2 5 26,bu 2 6 28,bu 2 7 30,bu 2 8 32] [[],[],[],[],[],[],[],[],[1,3,5,7],[1,3,5,7,8],[1,3,5,7,8,9],[1,3,5,7,8,9,10],[3,5,7],[5,7],[7],[]] (M [bq 9 1] (.block 0 (.loop  (.seq (.block 1 (M [ba 36 2 5,ba 37 2 6,(b0 38 zY 36 37),F 35 38,bx 39 0 35,bx 40 1 35,bx 41 2 35,(aE 10 (.alloc 135010 [(ao 0),.nil])),(aE 11 (.alloc 135011 [(ao 0),.nil])),bu 2 10 39,bu 2 11 40,F 12 41] (M [ba 43 2 7,ba 44 2 8,(b0 45 zY 43 44),F 42 45,bx 46 0 42,bx 47 1 42,bx 48 2 42,(aE 13 (.alloc 135013 [(ao 0),.nil])),(aE 14 (.alloc 135014 [(ao 0),.nil])),bu 2 13 46,bu 2 14 47,F 15 48] (.seq (M [ba 49 2 10,ba 50 2 13,(b0 51 Ol 49 50),F 16 51] (.block 2 (M [F 53 16,bo 54 .neq 53 0,F 52 54] (aX 52 (M [F 55 9,F 56 16,bJ 57 .mul 55 56,F 4 57] .ret) (M [bg 59 0 11,a2 60 1 59,bo 61 .eql 60 0,F 62 61,⟨some 63,some (62,false),.c3 0 (.t 14)⟩,⟨some 64,some (62,false),.load 1 false (.t 63)⟩,⟨some 65,some (62,false),.bin .eql (.t 64) (.c (ao 0))⟩,cX 66 62 65,F 58 66] (aX 58 (M [F 67 9,bg 68 0 11,a2 69 1 68,bg 70 0 14,a2 71 1 70,bJ 72 .sub 69 71,bJ 73 .mul 67 72,F 4 73] .ret) .skip)))))) (.pN [ba 74 2 6,ba 75 2 11,ba 76 2 8,ba 77 2 14,bu 2 5 74,bu 2 6 75,bu 2 7 76,bu 2 8 77] [[],[],[],[],[1,2,3],[2,3],[3],[]]))))) (.ops [F 33 9,(aE 34 (.un .neg (.t 33))),F 9 34]))))))))
def QG:bP:=b5 15 1 [.t 2] (M [cN 1 138001 0,cj 2 false] (M [ba 6 2 1,(dg 7 Om 6),F 5 7,bx 8 0 5,bx 9 1 5,F 3 8,F 4 9] (M [F 10 4,F 11 10,⟨some 12,some (11,true),.ck (.t 3)⟩,⟨some 13,some (11,true),.bin .eql (.t 12) (.c (ao 1))⟩,gI 14 11 13,F 2 14] .ret)))
def QH:bP:=b5 38 4 [.cell 8 2 true,.t 9] (M [cN 4 139004 0,cN 5 139005 1,cN 6 139006 2,cN 7 139007 3,(aE 8 (.alloc 139008 [(ao 0),.nil])),bq 9 0] (M [ba 14 2 4,ba 15 2 5,(b0 16 r8 14 15),F 13 16,bx 17 0 13,bx 18 1 13,(aE 10 (.alloc 139010 [(ao 0),.nil])),bu 2 10 17,F 11 18] (.seq (M [F 19 11,bo 20 .neq 19 0] (aX 20 (M [(aE 21 (.build [(ao 0),.nil] [])),F 22 11,bu 2 8 21,F 9 22] .ret) .skip)) (M [ba 24 2 6,ba 25 2 7,(b0 26 r8 24 25),F 23 26,bx 27 0 23,bx 28 1 23,(aE 12 (.alloc 139012 [(ao 0),.nil])),bu 2 12 27,F 11 28] (.seq (M [F 29 11,bo 30 .neq 29 0] (aX 30 (M [(aE 31 (.build [(ao 0),.nil] [])),F 32 11,bu 2 8 31,F 9 32] .ret) .skip)) (M [ba 33 2 10,ba 34 2 12,(b0 35 On 33 34),bx 36 0 35,bx 37 1 35,bu 2 8 36,F 9 37] .ret))))))
def QI:bP:=b5 22 4 [.cell 8 4 true,.t 9] (M [cN 4 141004 0,cN 6 141006 2,(aE 8 (.alloc 141008 [(ao 0),.nil,(ao 0),.nil])),bq 9 0] (.seq (M [F 10 1,bo 11 .neq 10 0,F 12 11,⟨some 13,some (12,false),.ck (.t 3)⟩,⟨some 14,some (12,false),.bin .neq (.t 13) (.c (ao 0))⟩,cX 15 12 14] (aX 15 (M [(aE 16 (.build [(ao 0),.nil,(ao 0),.nil] [])),bu 4 8 16,bq 9 6] .ret) .skip)) (M [ba 17 2 4,ba 18 2 6,(b0 19 FZ 17 18),bx 20 0 19,bx 21 1 19,bu 4 8 20,F 9 21] .ret)))
def QJ:bP:=b5 60 2 [.cell 4 4 true,.t 5] (M [cN 2 149002 0,cN 3 149003 1,(aE 4 (.alloc 149004 [(ao 0),.nil,(ao 0),.nil])),bq 5 0] (.seq (.block 0 (M [ba 15 2 2,(dg 16 jv 15),dY 17 16,F 18 17,⟨some 19,some (18,false),.load 2 true (.t 3)⟩,⟨some 20,some (18,false),.call jv [(.t 19)]⟩,⟨some 21,some (18,false),.un .not (.t 20)⟩,cX 22 18 21,F 14 22] (aX 14 (M [(aE 23 (.build [(ao 0),.nil,(ao 0),.nil] [])),bu 4 4 23,bq 5 1] .ret) (M [bg 25 0 3,a2 26 1 25,bo 27 .eql 26 0,F 24 27] (aX 24 (M [(aE 28 (.build [(ao 0),.nil,(ao 0),.nil] [])),bu 4 4 28,bq 5 15] .ret) (M [bg 30 0 3,a2 31 1 30,bo 32 .lss 31 0,F 29 32] (aX 29 (.pN [ba 33 2 2,(dg 34 Cl 33),ba 35 2 3,(dg 36 Cl 35),bu 2 2 34,bu 2 3 36] YR) .skip))))))) (M [ba 38 2 2,ba 39 2 3,(b0 40 FX 38 39),F 37 40,bx 41 0 37,bx 42 1 37,(aE 6 (.alloc 149006 [(ao 0),.nil])),bu 2 6 41,F 7 42] (M [ba 44 2 2,ba 45 2 6,(b0 46 zY 44 45),F 43 46,bx 47 0 43,bx 48 1 43,bx 49 2 43,(aE 8 (.alloc 149008 [(ao 0),.nil])),(aE 9 (.alloc 149009 [(ao 0),.nil])),bu 2 8 47,bu 2 9 48,F 10 49] (M [ba 51 2 3,ba 52 2 6,(b0 53 zY 51 52),F 50 53,bx 54 0 50,bx 55 1 50,bx 56 2 50,(aE 11 (.alloc 149011 [(ao 0),.nil])),(aE 12 (.alloc 149012 [(ao 0),.nil])),bu 2 11 54,bu 2 12 55,F 13 56] (M [ba 57 2 8,ba 58 2 11,(aE 59 (.build [(ao 0),.nil,(ao 0),.nil] [(0,2,(.t 57)),(2,2,(.t 58))])),bu 4 4 59,bq 5 0] .ret))))))
def QK:bP:=b5 49 2 [.cell 4 4 true,.t 5] (M [cN 2 169002 0,cN 3 169003 1,(aE 4 (.alloc 169004 [(ao 0),.nil,(ao 0),.nil])),bq 5 0] (.seq (.block 0 (M [ba 11 4 2,(dg 12 kh 11),dY 13 12,F 14 13,⟨some 15,some (14,false),.load 4 true (.t 3)⟩,⟨some 16,some (14,false),.call kh [(.t 15)]⟩,⟨some 17,some (14,false),.un .not (.t 16)⟩,cX 18 14 17,F 10 18] (aX 10 (M [(aE 19 (.build [(ao 0),.nil,(ao 0),.nil] [])),bu 4 4 19,bq 5 1] .ret) (M [bg 21 0 3,bg 22 0 21,a2 23 1 22,bo 24 .eql 23 0,F 20 24] (aX 20 (M [(aE 25 (.build [(ao 0),.nil,(ao 0),.nil] [])),bu 4 4 25,bq 5 15] .ret) .skip))))) (M [bg 27 0 2,ba 28 2 27,bg 29 2 3,ba 30 2 29,(b0 31 r8 28 30),F 26 31,bx 32 0 26,bx 33 1 26,(aE 6 (.alloc 169006 [(ao 0),.nil])),bu 2 6 32,F 7 33] (M [bg 35 2 2,ba 36 2 35,bg 37 0 3,ba 38 2 37,(b0 39 r8 36 38),F 34 39,bx 40 0 34,bx 41 1 34,(aE 8 (.alloc 169008 [(ao 0),.nil])),bu 2 8 40,F 9 41] (M [ba 42 2 6,F 43 7,ba 44 2 8,F 45 9,(Cx 46 zX 42 43 44 45),bx 47 0 46,bx 48 1 46,bu 4 4 47,F 5 48] .ret)))))
abbrev bd:=Raw×Raw
def aH (f:bd):List Data:=[.int .i64 f.1.1,.X (f.1.2.map Y),.int .i64 f.2.1,.X (f.2.2.map Y)]
def cO (x:bd×Int):Data:=.cQ [.agg (aH x.1),.int .i64 x.2]
def ai (x:Rat):bd:=(bc x.num,bc x.den)
def dD (x:Rat):Prop:=x.num.natAbs<c9/\x.den<c9
def ei:bd:=((0,[]),(0,[]))
def cU (f:bd):Bool:=cV f.1&&(cV f.2&&(f.2.1==1&&(gb (ga f.1).natAbs (ga f.2).natAbs==1)))
def ot (f:bd):Rat:=kl (ga f.1) (ga f.2)
theorem AL (x:Rat):ot (ai x)=x:=by
 unfold ot ai;rw[eo,eo,AM]
theorem p6 {x y:Rat}(h:ai x=ai y):x=y:=by rw[<-AL x,h,AL]
theorem KL {x y:Int}(h:bc x=bc y):x=y:=by rw[<-eo x,h,eo]
theorem den_pos (x:Rat):0<(x.den:Int):=AJ.2 x.den_pos
theorem akM {n:Int}(h:0<n):(bc n).1=1:=fS h
theorem wN (f:bd):cU f=true↔∃x,dD x/\f=ai x:=by
 unfold cU;simp only[eX,beq_iff_eq]
 constructor
 ·rintro⟨D,G,ag,aR⟩;obtain⟨p,aG,aw⟩:=(gR _).1 D;obtain⟨q,aF,aB⟩:=(gR _).1 G;obtain⟨f1,f2⟩:=f;simp only at aw aB ag aR;subst aw aB;rw[eo,eo] at aR
  have Qj:0<q:=by
   rcases jh q with ⟨_,h⟩|⟨e,_⟩|⟨e,_⟩
   ·exact h
   ·have:q.sign=1:=ag;omega
   ·have:q.sign=1:=ag;omega
  refine⟨⟨p,q.natAbs,by omega,aR⟩,⟨aG,aF⟩,?_⟩
  unfold ai;rw[show ((q.natAbs:Nat):Int)=q by omega]
 ·rintro⟨x,⟨D,G⟩,rfl⟩;have ae:(x.den:Int).natAbs<c9:=by rw[k3];exact G
  refine⟨iO D,iO ae,akM (den_pos x),?_⟩;unfold ai;rw[eo,eo,k3];exact x.reduced
theorem tD {x:Rat}(h:dD x):cU (ai x)=true:=(wN _).2 ⟨x,h,rfl⟩
theorem mY {x:Rat}(h:dD x):(x.den:Int).natAbs<c9:=by rw[k3];exact h.2
theorem hX {z:Int}(h:z.natAbs<c9):(aD z.natAbs).length<=1000000:=by have:=lD h;omega
def AO (a:Raw):Bool:=(p5 a).2&&((p5 a).1==1)
theorem akN {z:Int}(h:z.natAbs<c9):AO (bc z)=decide (z=1):=by
 unfold AO p5;rw[iO h,eo]
 by_cases Q:c8 z
 ·rw[aj ⟨rfl,Q⟩];simp only[eF]
  rfl
 ·rw[aq λh=>Q h.2];have:z≠1:=by rintro rfl;exact Q (by unfold c8;omega)
  simp[this]
def QL:=bU wq λ(s,l)=>cq (o l<=1000000) (.same (.bool (AO (s,l))))
@[go_sem] theorem ay9 (s:Int)(l:List Int)(E:(o l)<=1000000):QL [.agg [.int .i64 s,.X (l.map Y)]]=some (.same (.bool (AO (s,l)))):=(b3 Ai (s,l)).trans (cw E _)
theorem akO (T:br)(KM:T Om=aK Qy)(s:Int)(l:List Int)(E:(o l)<=1000000):WP T QG (.same (.bool (AO (s,l)))) [.J (.agg [.int .i64 s,.X (l.map Y)])]:=by
 refine b4 ?_;simp only[QG];unfold AO;rcases h:(p5 (s,l)).2
 ·simp only[go_sem,go_sem_proc,KM,E,h];repeat' (first|refine al ?_ ?_|fail)<;>intro h<;>simp only[h,go_sem,go_sem_proc,KM,E,h]
 ·simp only[go_sem,go_sem_proc,KM,E,h];repeat' (first|refine al ?_ ?_|fail)<;>intro h<;>simp only[h,go_sem,go_sem_proc,KM,E,h]
abbrev AP:Int×(List Int)×Int×(List Int)->List Data:=λ(s,l,s2,ab)=>[.agg [.int .i64 s,.X (l.map Y),.int .i64 s2,.X (ab.map Y)]]
def sn:=bU AP λ(s,l,s2,ab)=>cq (o l<=1000000/\o ab<=1000000) (.same (.bool (cU ((s,l),(s2,ab)))))
theorem GS:∀a b,AP a=AP b->a=b:=by
  rintro⟨s1,fK,Ay,Az⟩ ⟨s2,ab,AA,AB⟩ h;simp only[bn,Data.agg.injEq,Data.int.injEq,Data.X.injEq] at h;exact dV h.1.1.2 (dV (map_inj eR _ _ h.1.2.1) (dV h.1.2.2.1.2 (map_inj eR _ _ h.1.2.2.2.1)))
@[go_sem] theorem akP (s:Int)(l:List Int)(s2:Int)(ab:List Int)(E:(o l)<=1000000/\o ab<=1000000):sn [.agg [.int .i64 s,.X (l.map Y),.int .i64 s2,.X (ab.map Y)]]=some (.same (.bool (cU ((s,l),(s2,ab))))):=(b3 GS (s,l,s2,ab)).trans (cw E _)
theorem akQ (T:br)(dr:T jv=aK ts)(va:T FX=aK Kz)(KN:T Oh=aK QL)(s:Int)(l:List Int)(s2:Int)(ab:List Int)(E:(o l)<=1000000/\o ab<=1000000):WP T Qz (.same (.bool (cU ((s,l),(s2,ab))))) [.J (.agg [.int .i64 s,.X (l.map Y),.int .i64 s2,.X (ab.map Y)])]:=by
 refine b4 ?_;simp only[Qz];obtain⟨bk,bp⟩:=E
 by_cases U:cV (s,l)=true
 ·by_cases aZ:cV (s2,ab)=true
  ·by_cases aa:s2=1
   ·obtain⟨x,I,e⟩:=(gR _).1 U;obtain⟨y,ak,aB⟩:=(gR _).1 aZ
    have bw:jC (s,l) (s2,ab)=(bc ((gb x.natAbs y.natAbs:Nat):Int),0):=by
     unfold jC;rw[U,aZ,e,aB,eo,eo];rfl
    have nC:=CZ I ak
    have bM:AO (bc ((gb x.natAbs y.natAbs:Nat):Int))=(gb x.natAbs y.natAbs==1):=by
     rw[akN (by rw[k3];exact nC)];rw[q8];simp;omega
    have kS:ga (s,l)=x:=by rw[e,eo]
    have lV:ga (s2,ab)=y:=by rw[aB,eo]
    have dk:cU ((s,l),(s2,ab))=(gb x.natAbs y.natAbs==1):=by
     show (cV (s,l)&&(cV (s2,ab)&&((s2==1)&&(gb (ga (s,l)).natAbs (ga (s2,ab)).natAbs==1))))=_;rw[U,aZ,kS,lV,show (s2==1)=true by simpa using aa]
     simp only[eF]
    have KO:((bc ((gb x.natAbs y.natAbs:Nat):Int)).2).length<=1000000:=hX (by rw[k3];exact nC);rw[dk,<-bM];generalize bc ((gb x.natAbs y.natAbs:Nat):Int)=cW at *;obtain⟨dh,cR⟩:=cW;have h3:(s2==1)=true:=by simpa using aa
    refine aQ ?_;repeat' (intro h<;>simp only[h,go_sem,go_sem_proc,dr,va,KN,U,aZ,bk,bp,h3,bw,KO,c0,bF,show ((0:Int)==0)=true from rfl]<;>try refine al ?_ ?_)
   ·have dk:cU ((s,l),(s2,ab))=false:=by unfold cU;simp[aa]
    have h3:(s2==1)=false:=by simpa using aa
    rw[dk];refine aQ ?_;repeat' (intro h<;>simp only[h,go_sem,go_sem_proc,dr,va,KN,U,aZ,bk,bp,h3]<;>try refine al ?_ ?_)
  ·have aZ:cV (s2,ab)=false:=by simpa using aZ
   have dk:cU ((s,l),(s2,ab))=false:=by unfold cU;simp[aZ]
   rw[dk];refine aQ ?_;repeat' (intro h<;>simp only[h,go_sem,go_sem_proc,dr,va,KN,U,aZ,bk,bp]<;>try refine al ?_ ?_)
 ·have U:cV (s,l)=false:=by simpa using U
  have dk:cU ((s,l),(s2,ab))=false:=by unfold cU;simp[U]
  rw[dk];refine aQ ?_;repeat' (intro h<;>simp only[h,go_sem,go_sem_proc,dr,va,KN,U,bk,bp]<;>try refine al ?_ ?_)
def fM (p q:Raw):bd×Int :=
 if (cV p&&cV q)=true then (if ga q=0 then (ei,15) else (ai (kl (ga p) (ga q)),0)) else (ei,1)
theorem yo {p q:Int}(aG:p.natAbs<c9)(aF:q.natAbs<c9)(au:q≠0):fM (bc p) (bc q)=(ai (kl p q),0):=by
 unfold fM;rw[iO aG,iO aF,eo,eo,aj (by rfl),aq au]
theorem QM {p q:Int}(aF:0<q):(kl p q).num=p.fdiv ((gb p.natAbs q.natAbs:Nat):Int)/\((kl p q).den:Int)=q.fdiv ((gb p.natAbs q.natAbs:Nat):Int):=by
 rw[Rat.num_divInt,Rat.den_divInt,aq (by omega),fS aF,nw];have bw:q.gcd p=gb p.natAbs q.natAbs:=by rw[Int.gcd_comm];rfl
 rw[bw];have au:(0:Int)<=((gb p.natAbs q.natAbs:Nat):Int):=Int.natCast_nonneg _;rw[aaa _ au,aaa _ au];refine⟨rfl,?_⟩;rw[Int.natCast_ediv]
 congr 1
 omega
theorem QN {p q:Int}(aF:q≠0):0<gb p.natAbs q.natAbs:=Nat.gcd_pos_of_pos_right _ (by omega)
theorem akR {p q:Int}(aG:p.natAbs<c9)(aF:q.natAbs<c9):dD (kl p q):=by
 have main:∀{p q:Int},p.natAbs<c9->q.natAbs<c9->0<q->dD (kl p q):=by
  intro p q aG aF au;obtain⟨D,G⟩:=QM (p:=p) au;have bw:=QN (p:=p) (q:=q) (by omega);refine⟨?_,?_⟩
  ·rw[D];exact C2 aG (by omega)
  ·have:=C2 (y:=((gb p.natAbs q.natAbs:Nat):Int)) aF (by omega);rw[<-G,k3] at this;exact this
 rcases q3 q 0 with h|h|h
 ·rw[<-aab];exact main (by omega) (by omega) (by omega)
 ·subst h;rw[Rat.divInt_zero];unfold dD c9;exact⟨Nat.pow_pos (by omega),Nat.one_lt_pow (by omega) (by omega)⟩
 ·exact main aG aF h
def KP:=bU nA λ(s,l,s2,ab)=>cq (o l<=1000000/\o ab<=1000000) (.same (cO (fM (s,l) (s2,ab))))
@[go_sem] theorem aza (s:Int)(l:List Int)(s2:Int)(ab:List Int)(E:(o l)<=1000000/\o ab<=1000000):KP [.agg [.int .i64 s,.X (l.map Y)],.agg [.int .i64 s2,.X (ab.map Y)]]=some (.same (cO (fM (s,l) (s2,ab)))):=(b3 ph (s,l,s2,ab)).trans (cw E _)
theorem akS (T:br)(dr:T jv=aK ts)(wO:T Cl=aK Ky)(va:T FX=aK Kz)(ou:T zY=aK KF)(s:Int)(l:List Int)(s2:Int)(ab:List Int)(E:(o l)<=1000000/\o ab<=1000000):WP T QJ (.same (cO (fM (s,l) (s2,ab)))) [.J (.agg [.int .i64 s,.X (l.map Y)]),.J (.agg [.int .i64 s2,.X (ab.map Y)])]:=by
 refine b4 ?_;simp only[QJ];obtain⟨bk,bp⟩:=E
 by_cases U:cV (s,l)=true
 ·by_cases aZ:cV (s2,ab)=true
  ·obtain⟨x,I,e⟩:=(gR _).1 U;obtain⟨y,ak,aB⟩:=(gR _).1 aZ
   by_cases au:y=0
   ·have hm:fM (s,l) (s2,ab)=(ei,15):=by
     unfold fM;rw[U,aZ,aB,eo,aj (by rfl),aj au]
    rw[hm]
    cases e
    cases aB;have aa:(y.sign==0)=true:=by rw[au];rfl
    refine aQ ?_;repeat' (intro h<;>simp only[h,go_sem,go_sem_proc,dr,wO,va,ou,U,aZ,bk,bp,aa,cO,aH,ei,cM]<;>try refine al ?_ ?_)
   ·have main:∀p q:Int,p.natAbs<c9->q.natAbs<c9->0<q->∃g:Raw,jC (bc p) (bc q)=(g,0)/\g.2.length<=1000000/\ji (bc p) g=(bc (kl p q).num,bc (p.fmod ((gb p.natAbs q.natAbs:Nat):Int)),0)/\ji (bc q) g=(bc (kl p q).den,bc (q.fmod ((gb p.natAbs q.natAbs:Nat):Int)),0):=by
     intro p q aG aF kD;have nC:=CZ aG aF;have AQ:((gb p.natAbs q.natAbs:Nat):Int).natAbs<c9:=by rw[k3];exact nC
     have Kj:=QN (p:=p) (q:=q) (by omega);obtain⟨D,G⟩:=QM (p:=p) kD;refine⟨bc ((gb p.natAbs q.natAbs:Nat):Int),?_,hX AQ,?_,?_⟩
     ·unfold jC;rw[iO aG,iO aF,eo,eo];rfl
     ·rw[wK aG AQ (by omega),D]
     ·rw[wK aF AQ (by omega),G]
    have p7:(y.sign==0)=false:=by simpa using au
    rcases Int.lt_or_gt_of_ne au with jf|hT
    ·have g3:decide (y.sign<0)=true:=by rw[jY jf];rfl
     obtain⟨⟨dh,cR⟩,bw,nC,jy,lB⟩:=main (-x) (-y) (by omega) (by omega) (by omega)
     have hm:fM (s,l) (s2,ab)=(ai (kl (-x) (-y)),0):=by
      rw[e,aB,yo I ak au,aab]
     rw[hm];have oO:gn (s,l)=bc (-x):=by unfold gn;rw[aj U,e,eo]
     have pS:gn (s2,ab)=bc (-y):=by unfold gn;rw[aj aZ,aB,eo]
     have yp:s2=y.sign:=congrArg wP aB;have dW:(bc (-x)).2.length<=1000000:=hX (by omega);have ez:(bc (-y)).2.length<=1000000:=hX (by omega);clear e aB;unfold ai;generalize bc (-x)=dR at *;generalize bc (-y)=fs at *;obtain⟨aV,bG⟩:=dR;obtain⟨x2,Gw⟩:=fs;rw[<-yp] at p7 g3;refine aQ ?_;repeat' (intro h<;>simp only[h,go_sem,go_sem_proc,dr,wO,va,ou,U,aZ,bk,bp,p7,g3,oO,pS,dW,ez,bw,nC,jy,lB,cO,aH,c0,fw,bF]<;>try refine al ?_ ?_)
    ·have g3:decide (y.sign<0)=false:=by rw[fS hT];rfl
     obtain⟨⟨dh,cR⟩,bw,nC,jy,lB⟩:=main x y I ak hT
     have hm:fM (s,l) (s2,ab)=(ai (kl x y),0):=by
      rw[e,aB,yo I ak au]
     rw[hm];have yp:s2=y.sign:=congrArg wP aB;rw[<-e] at bw jy;rw[<-aB] at bw lB;rw[<-yp] at p7 g3;unfold ai;refine aQ ?_;repeat' (intro h<;>simp only[h,go_sem,go_sem_proc,dr,wO,va,ou,U,aZ,bk,bp,p7,g3,bw,nC,jy,lB,cO,aH,c0,fw,bF]<;>try refine al ?_ ?_)
  ·have aZ:cV (s2,ab)=false:=by simpa using aZ
   have hm:fM (s,l) (s2,ab)=(ei,1):=by unfold fM;rw[aZ,gQ];rfl
   rw[hm];refine aQ ?_;repeat' (intro h<;>simp only[h,go_sem,go_sem_proc,dr,wO,va,ou,U,aZ,bk,bp,cO,aH,ei,cM]<;>try refine al ?_ ?_)
 ·have U:cV (s,l)=false:=by simpa using U
  have hm:fM (s,l) (s2,ab)=(ei,1):=by unfold fM;rw[U,dm];rfl
  rw[hm];refine aQ ?_;repeat' (intro h<;>simp only[h,go_sem,go_sem_proc,dr,wO,va,ou,U,bk,bp,cO,aH,ei,cM]<;>try refine al ?_ ?_)
def C5:=bU Ah λ(p,q)=>cq (c8 p/\c8 q) (.same (cO (fM (bc p) (bc q))))
@[go_sem] theorem akT (p:Int)(q:Int)(E:c8 p/\c8 q):C5 [.int .i64 p,.int .i64 q]=some (.same (cO (fM (bc p) (bc q)))):=(b3 Gr (p,q)).trans (cw E _)
theorem akU (T:br)(akV:T JQ=aK Qx)(GU:T FZ=aK KP)(p:Int)(q:Int)(E:c8 p/\c8 q):WP T QB (.same (cO (fM (bc p) (bc q)))) [.J (.int .i64 p),.J (.int .i64 q)]:=by
 refine b4 ?_;simp only[QB];obtain⟨D,G⟩:=E;have fK:(bc p).2.length<=1000000:=hX (u9 D);have ab:(bc q).2.length<=1000000:=hX (u9 G);generalize hk:bc p=P at *;generalize fr:bc q=aT at *;obtain⟨aV,bG⟩:=P;obtain⟨x2,Gw⟩:=aT;refine aQ ?_;repeat' (intro h<;>simp only[h,go_sem,go_sem_proc,akV,GU,D,G,hk,fr,fK,ab,bF,cO,aH]<;>try refine al ?_ ?_)
def sq (a b c d:Raw):Raw×Int :=
 if ((mulR a b).2==0)=true then (if ((mulR c d).2==0)=true then iP (mulR a b).1 (mulR c d).1 else ((0,[]),(mulR c d).2)) else ((0,[]),(mulR a b).2)
theorem aac (z:Int):(mq z).1.2.length<=1000000:=by
 unfold mq
 split
 ·exact hX (by assumption)
 ·simp
theorem nD (a b:Raw):(mulR a b).1.2.length<=1000000:=by
 unfold mulR
 split
 ·exact aac _
 ·simp
theorem QO (a b:Raw):(iP a b).1.2.length<=1000000:=by
 unfold iP
 split
 ·exact aac _
 ·simp
theorem akW (a b c d:Raw):(sq a b c d).1.2.length<=1000000:=by
 unfold sq
 split
 ·split
  ·exact QO _ _
  ·simp
 ·simp
abbrev QP:Int×(List Int)×Int×(List Int)×Int×(List Int)×Int×(List Int)->List Data:=λ(s,l,s2,ab,bD,bj,bE,bh)=>[.agg [.int .i64 s,.X (l.map Y)],.agg [.int .i64 s2,.X (ab.map Y)],.agg [.int .i64 bD,.X (bj.map Y)],.agg [.int .i64 bE,.X (bh.map Y)]]
def QQ:=bU QP λ(s,l,s2,ab,bD,bj,bE,bh)=>cq (o l<=1000000/\o ab<=1000000/\o bj<=1000000/\o bh<=1000000) (.same (c0 (sq (s,l) (s2,ab) (bD,bj) (bE,bh))))
theorem akX:∀a b,QP a=QP b->a=b:=by
  rintro⟨s1,fK,Ay,Az,akY,akZ,ak0,ak1⟩ ⟨s2,ab,AA,AB,ak2,ak3,ak4,ak5⟩ h;simp only[bn,Data.agg.injEq,Data.int.injEq,Data.X.injEq] at h;exact dV h.1.1.2 (dV (map_inj eR _ _ h.1.2.1) (dV h.2.1.1.2 (dV (map_inj eR _ _ h.2.1.2.1) (dV h.2.2.1.1.2 (dV (map_inj eR _ _ h.2.2.1.2.1) (dV h.2.2.2.1.1.2 (map_inj eR _ _ h.2.2.2.1.2.1)))))))
@[go_sem] theorem azb (s:Int)(l:List Int)(s2:Int)(ab:List Int)(bD:Int)(bj:List Int)(bE:Int)(bh:List Int)(E:(o l)<=1000000/\o ab<=1000000/\o bj<=1000000/\o bh<=1000000):QQ [.agg [.int .i64 s,.X (l.map Y)],.agg [.int .i64 s2,.X (ab.map Y)],.agg [.int .i64 bD,.X (bj.map Y)],.agg [.int .i64 bE,.X (bh.map Y)]]=some (.same (c0 (sq (s,l) (s2,ab) (bD,bj) (bE,bh)))):=(b3 akX (s,l,s2,ab,bD,bj,bE,bh)).trans (cw E _)
theorem ak6 (T:br)(ov:T r8=aK CW)(QR:T On=aK Qm)(s:Int)(l:List Int)(s2:Int)(ab:List Int)(bD:Int)(bj:List Int)(bE:Int)(bh:List Int)(E:(o l)<=1000000/\o ab<=1000000/\o bj<=1000000/\o bh<=1000000):WP T QH (.same (c0 (sq (s,l) (s2,ab) (bD,bj) (bE,bh)))) [.J (.agg [.int .i64 s,.X (l.map Y)]),.J (.agg [.int .i64 s2,.X (ab.map Y)]),.J (.agg [.int .i64 bD,.X (bj.map Y)]),.J (.agg [.int .i64 bE,.X (bh.map Y)])]:=by
 refine b4 ?_;simp only[QH];obtain⟨bk,bp,dW,ez⟩:=E;have cJ:=nD (s,l) (s2,ab);have cE:=nD (bD,bj) (bE,bh);unfold sq;generalize hx:mulR (s,l) (s2,ab)=M1 at *;generalize iQ:mulR (bD,bj) (bE,bh)=M2 at *;obtain⟨⟨c6,dv⟩,aw⟩:=M1;obtain⟨⟨c5,eg⟩,aB⟩:=M2;rcases D:(aw==0)
 ·refine aQ ?_;repeat' (intro h<;>simp only[h,go_sem,go_sem_proc,ov,QR,bk,bp,dW,ez,hx,D,cJ,cE,c0,bF,cM]<;>try refine al ?_ ?_)
 ·have mZ:aw=0:=by simpa using D
  subst mZ;rcases G:(aB==0)
  ·refine aQ ?_;repeat' (intro h<;>simp only[h,go_sem,go_sem_proc,ov,QR,bk,bp,dW,ez,hx,iQ,D,G,cJ,cE,c0,bF,cM]<;>try refine al ?_ ?_)
  ·have pj:aB=0:=by simpa using G
   subst pj;refine aQ ?_;repeat' (intro h<;>simp only[h,go_sem,go_sem_proc,ov,QR,bk,bp,dW,ez,hx,iQ,D,cJ,cE,c0,bF,cM]<;>try refine al ?_ ?_)
def pk (p:Raw×Int)(q:Raw×Int):bd×Int:=if (p.2==0)=true then (if (q.2==0)=true then fM p.1 q.1 else (ei,6)) else (ei,6)
abbrev QS:Int×(List Int)×Int×Int×(List Int)×Int->List Data:=λ(s,l,e,s2,ab,aB)=>[.agg [.int .i64 s,.X (l.map Y)],.int .i64 e,.agg [.int .i64 s2,.X (ab.map Y)],.int .i64 aB]
def GV:=bU QS λ(s,l,e,s2,ab,aB)=>cq (o l<=1000000/\o ab<=1000000) (.same (cO (pk ((s,l),e) ((s2,ab),aB))))
theorem ak7:∀a b,QS a=QS b->a=b:=by
  rintro⟨s1,fK,aw,Ay,Az,GW⟩ ⟨s2,ab,aB,AA,AB,azc⟩ h;simp only[bn,Data.agg.injEq,Data.int.injEq,Data.X.injEq] at h;exact dV h.1.1.2 (dV (map_inj eR _ _ h.1.2.1) (dV h.2.1.2 (dV h.2.2.1.1.2 (dV (map_inj eR _ _ h.2.2.1.2.1) h.2.2.2.1.2))))
@[go_sem] theorem azd (s:Int)(l:List Int)(e:Int)(s2:Int)(ab:List Int)(aB:Int)(E:(o l)<=1000000/\o ab<=1000000):GV [.agg [.int .i64 s,.X (l.map Y)],.int .i64 e,.agg [.int .i64 s2,.X (ab.map Y)],.int .i64 aB]=some (.same (cO (pk ((s,l),e) ((s2,ab),aB)))):=(b3 ak7 (s,l,e,s2,ab,aB)).trans (cw E _)
theorem ak8 (T:br)(GU:T FZ=aK KP)(s:Int)(l:List Int)(e:Int)(s2:Int)(ab:List Int)(aB:Int)(E:(o l)<=1000000/\o ab<=1000000):WP T QI (.same (cO (pk ((s,l),e) ((s2,ab),aB)))) [.J (.agg [.int .i64 s,.X (l.map Y)]),.J (.int .i64 e),.J (.agg [.int .i64 s2,.X (ab.map Y)]),.J (.int .i64 aB)]:=by
 refine b4 ?_;simp only[QI];obtain⟨bk,bp⟩:=E;unfold pk;rcases D:(e==0)
 ·refine aQ ?_;repeat' (intro h<;>simp only[h,go_sem,go_sem_proc,GU,bk,bp,D,cO,aH,ei,cM]<;>try refine al ?_ ?_)
 ·have mZ:e=0:=by simpa using D
  subst mZ;rcases G:(aB==0)
  ·refine aQ ?_;repeat' (intro h<;>simp only[h,go_sem,go_sem_proc,GU,bk,bp,D,G,cO,aH,ei,cM]<;>try refine al ?_ ?_)
  ·have pj:aB=0:=by simpa using G
   subst pj;refine aQ ?_;repeat' (intro h<;>simp only[h,go_sem,go_sem_proc,GU,bk,bp,D,cO,aH,ei,cM]<;>try refine al ?_ ?_)
def m0 (a b:bd):bd×Int:=if cU a=true then (if cU b=true then pk (sq a.1 b.2 b.1 a.2) (mulR a.2 b.2) else (ei,1)) else (ei,1)
def k5 (a b:bd):bd×Int:=if cU a=true then (if cU b=true then m0 a (gn b.1,b.2) else (ei,1)) else (ei,1)
def k6 (a b:bd):bd×Int:=if cU a=true then (if cU b=true then pk (mulR a.1 b.1) (mulR a.2 b.2) else (ei,1)) else (ei,1)
def lG (a b:bd):bd×Int:=if cU a=true then (if cU b=true then (if (b.1.1==0)=true then (ei,15) else pk (mulR a.1 b.2) (mulR a.2 b.1)) else (ei,1)) else (ei,1)
theorem ak9 (a:Raw)(h:a.2.length<=1000000):(gn a).2.length<=1000000:=by
 unfold gn
 split
 ·rename_i U;obtain⟨z,a8,e⟩:=(gR _).1 U;rw[e,eo];exact hX (by omega)
 ·simp
abbrev pn:Int×(List Int)×Int×(List Int)×Int×(List Int)×Int×(List Int)->List Data:=λ(s,l,s2,ab,bD,bj,bE,bh)=>[.agg [.int .i64 s,.X (l.map Y),.int .i64 s2,.X (ab.map Y)],.agg [.int .i64 bD,.X (bj.map Y),.int .i64 bE,.X (bh.map Y)]]
def GX:=bU pn λ(s,l,s2,ab,bD,bj,bE,bh)=>cq (o l<=1000000/\o ab<=1000000/\o bj<=1000000/\o bh<=1000000) (.same (cO (m0 ((s,l),(s2,ab)) ((bD,bj),(bE,bh)))))
theorem q9:∀a b,pn a=pn b->a=b:=by
  rintro⟨s1,fK,Ay,Az,akY,akZ,ak0,ak1⟩ ⟨s2,ab,AA,AB,ak2,ak3,ak4,ak5⟩ h;simp only[bn,Data.agg.injEq,Data.int.injEq,Data.X.injEq] at h;exact dV h.1.1.2 (dV (map_inj eR _ _ h.1.2.1) (dV h.1.2.2.1.2 (dV (map_inj eR _ _ h.1.2.2.2.1) (dV h.2.1.1.2 (dV (map_inj eR _ _ h.2.1.2.1) (dV h.2.1.2.2.1.2 (map_inj eR _ _ h.2.1.2.2.2.1)))))))
@[go_sem] theorem ala (s:Int)(l:List Int)(s2:Int)(ab:List Int)(bD:Int)(bj:List Int)(bE:Int)(bh:List Int)(E:(o l)<=1000000/\o ab<=1000000/\o bj<=1000000/\o bh<=1000000):GX [.agg [.int .i64 s,.X (l.map Y),.int .i64 s2,.X (ab.map Y)],.agg [.int .i64 bD,.X (bj.map Y),.int .i64 bE,.X (bh.map Y)]]=some (.same (cO (m0 ((s,l),(s2,ab)) ((bD,bj),(bE,bh))))):=(b3 q9 (s,l,s2,ab,bD,bj,bE,bh)).trans (cw E _)
theorem alb (T:br)(e4:T kh=aK sn)(QT:T Oi=aK QQ)(ov:T r8=aK CW)(sr:T zX=aK GV)(s:Int)(l:List Int)(s2:Int)(ab:List Int)(bD:Int)(bj:List Int)(bE:Int)(bh:List Int)(E:(o l)<=1000000/\o ab<=1000000/\o bj<=1000000/\o bh<=1000000):WP T QA (.same (cO (m0 ((s,l),(s2,ab)) ((bD,bj),(bE,bh))))) [.J (.agg [.int .i64 s,.X (l.map Y),.int .i64 s2,.X (ab.map Y)]),.J (.agg [.int .i64 bD,.X (bj.map Y),.int .i64 bE,.X (bh.map Y)])]:=by
 refine b4 ?_;simp only[QA];obtain⟨bk,bp,dW,ez⟩:=E;unfold m0
 by_cases U:cU ((s,l),(s2,ab))=true
 ·by_cases aZ:cU ((bD,bj),(bE,bh))=true
  ·have cJ:=akW (s,l) (bE,bh) (bD,bj) (s2,ab);have cE:=nD (s2,ab) (bE,bh);rw[aj U,aj aZ];dsimp only;generalize hx:sq (s,l) (bE,bh) (bD,bj) (s2,ab)=M1 at *;generalize iQ:mulR (s2,ab) (bE,bh)=M2 at *;obtain⟨⟨c6,dv⟩,aw⟩:=M1;obtain⟨⟨c5,eg⟩,aB⟩:=M2;refine aQ ?_;repeat' (intro h<;>simp only[h,go_sem,go_sem_proc,e4,QT,ov,sr,bk,bp,dW,ez,U,aZ,hx,iQ,cJ,cE,c0,bF,cO,aH]<;>try refine al ?_ ?_)
  ·have aZ:cU ((bD,bj),(bE,bh))=false:=by simpa using aZ
   rw[aj U,aq (by simp[aZ])];refine aQ ?_;repeat' (intro h<;>simp only[h,go_sem,go_sem_proc,e4,QT,ov,sr,bk,bp,dW,ez,U,aZ,cO,aH,ei,cM]<;>try refine al ?_ ?_)
 ·have U:cU ((s,l),(s2,ab))=false:=by simpa using U
  rw[aq (by simp[U])];refine aQ ?_;repeat' (intro h<;>simp only[h,go_sem,go_sem_proc,e4,QT,ov,sr,bk,bp,dW,ez,U,cO,aH,ei,cM]<;>try refine al ?_ ?_)
def KQ:=bU pn λ(s,l,s2,ab,bD,bj,bE,bh)=>cq (o l<=1000000/\o ab<=1000000/\o bj<=1000000/\o bh<=1000000) (.same (cO (k5 ((s,l),(s2,ab)) ((bD,bj),(bE,bh)))))
@[go_sem] theorem alc (s:Int)(l:List Int)(s2:Int)(ab:List Int)(bD:Int)(bj:List Int)(bE:Int)(bh:List Int)(E:(o l)<=1000000/\o ab<=1000000/\o bj<=1000000/\o bh<=1000000):KQ [.agg [.int .i64 s,.X (l.map Y),.int .i64 s2,.X (ab.map Y)],.agg [.int .i64 bD,.X (bj.map Y),.int .i64 bE,.X (bh.map Y)]]=some (.same (cO (k5 ((s,l),(s2,ab)) ((bD,bj),(bE,bh))))):=(b3 q9 (s,l,s2,ab,bD,bj,bE,bh)).trans (cw E _)
theorem ald (T:br)(e4:T kh=aK sn)(wO:T Cl=aK Ky)(mw:T FV=aK GX)(s:Int)(l:List Int)(s2:Int)(ab:List Int)(bD:Int)(bj:List Int)(bE:Int)(bh:List Int)(E:(o l)<=1000000/\o ab<=1000000/\o bj<=1000000/\o bh<=1000000):WP T QC (.same (cO (k5 ((s,l),(s2,ab)) ((bD,bj),(bE,bh))))) [.J (.agg [.int .i64 s,.X (l.map Y),.int .i64 s2,.X (ab.map Y)]),.J (.agg [.int .i64 bD,.X (bj.map Y),.int .i64 bE,.X (bh.map Y)])]:=by
 refine b4 ?_;simp only[QC];obtain⟨bk,bp,dW,ez⟩:=E;unfold k5
 by_cases U:cU ((s,l),(s2,ab))=true
 ·by_cases aZ:cU ((bD,bj),(bE,bh))=true
  ·have cJ:=ak9 (bD,bj) dW;rw[aj U,aj aZ];dsimp only;generalize hx:gn (bD,bj)=M1 at *;obtain⟨c6,dv⟩:=M1;refine aQ ?_;repeat' (intro h<;>simp only[h,go_sem,go_sem_proc,e4,wO,mw,bk,bp,dW,ez,U,aZ,hx,cJ,c0,bF,cO,aH]<;>try refine al ?_ ?_)
  ·have aZ:cU ((bD,bj),(bE,bh))=false:=by simpa using aZ
   rw[aj U,aq (by simp[aZ])];refine aQ ?_;repeat' (intro h<;>simp only[h,go_sem,go_sem_proc,e4,wO,mw,bk,bp,dW,ez,U,aZ,cO,aH,ei,cM]<;>try refine al ?_ ?_)
 ·have U:cU ((s,l),(s2,ab))=false:=by simpa using U
  rw[aq (by simp[U])];refine aQ ?_;repeat' (intro h<;>simp only[h,go_sem,go_sem_proc,e4,wO,mw,bk,bp,dW,ez,U,cO,aH,ei,cM]<;>try refine al ?_ ?_)
def GY:=bU pn λ(s,l,s2,ab,bD,bj,bE,bh)=>cq (o l<=1000000/\o ab<=1000000/\o bj<=1000000/\o bh<=1000000) (.same (cO (k6 ((s,l),(s2,ab)) ((bD,bj),(bE,bh)))))
@[go_sem] theorem ale (s:Int)(l:List Int)(s2:Int)(ab:List Int)(bD:Int)(bj:List Int)(bE:Int)(bh:List Int)(E:(o l)<=1000000/\o ab<=1000000/\o bj<=1000000/\o bh<=1000000):GY [.agg [.int .i64 s,.X (l.map Y),.int .i64 s2,.X (ab.map Y)],.agg [.int .i64 bD,.X (bj.map Y),.int .i64 bE,.X (bh.map Y)]]=some (.same (cO (k6 ((s,l),(s2,ab)) ((bD,bj),(bE,bh))))):=(b3 q9 (s,l,s2,ab,bD,bj,bE,bh)).trans (cw E _)
theorem alf (T:br)(e4:T kh=aK sn)(ov:T r8=aK CW)(sr:T zX=aK GV)(s:Int)(l:List Int)(s2:Int)(ab:List Int)(bD:Int)(bj:List Int)(bE:Int)(bh:List Int)(E:(o l)<=1000000/\o ab<=1000000/\o bj<=1000000/\o bh<=1000000):WP T QD (.same (cO (k6 ((s,l),(s2,ab)) ((bD,bj),(bE,bh))))) [.J (.agg [.int .i64 s,.X (l.map Y),.int .i64 s2,.X (ab.map Y)]),.J (.agg [.int .i64 bD,.X (bj.map Y),.int .i64 bE,.X (bh.map Y)])]:=by
 refine b4 ?_;simp only[QD];obtain⟨bk,bp,dW,ez⟩:=E;unfold k6
 by_cases U:cU ((s,l),(s2,ab))=true
 ·by_cases aZ:cU ((bD,bj),(bE,bh))=true
  ·have cJ:=nD (s,l) (bD,bj);have cE:=nD (s2,ab) (bE,bh);rw[aj U,aj aZ];dsimp only;generalize hx:mulR (s,l) (bD,bj)=M1 at *;generalize iQ:mulR (s2,ab) (bE,bh)=M2 at *;obtain⟨⟨c6,dv⟩,aw⟩:=M1;obtain⟨⟨c5,eg⟩,aB⟩:=M2;refine aQ ?_;repeat' (intro h<;>simp only[h,go_sem,go_sem_proc,e4,ov,sr,bk,bp,dW,ez,U,aZ,hx,iQ,cJ,cE,c0,bF,cO,aH]<;>try refine al ?_ ?_)
  ·have aZ:cU ((bD,bj),(bE,bh))=false:=by simpa using aZ
   rw[aj U,aq (by simp[aZ])];refine aQ ?_;repeat' (intro h<;>simp only[h,go_sem,go_sem_proc,e4,ov,sr,bk,bp,dW,ez,U,aZ,cO,aH,ei,cM]<;>try refine al ?_ ?_)
 ·have U:cU ((s,l),(s2,ab))=false:=by simpa using U
  rw[aq (by simp[U])];refine aQ ?_;repeat' (intro h<;>simp only[h,go_sem,go_sem_proc,e4,ov,sr,bk,bp,dW,ez,U,cO,aH,ei,cM]<;>try refine al ?_ ?_)
def GZ:=bU pn λ(s,l,s2,ab,bD,bj,bE,bh)=>cq (o l<=1000000/\o ab<=1000000/\o bj<=1000000/\o bh<=1000000) (.same (cO (lG ((s,l),(s2,ab)) ((bD,bj),(bE,bh)))))
@[go_sem] theorem alg (s:Int)(l:List Int)(s2:Int)(ab:List Int)(bD:Int)(bj:List Int)(bE:Int)(bh:List Int)(E:(o l)<=1000000/\o ab<=1000000/\o bj<=1000000/\o bh<=1000000):GZ [.agg [.int .i64 s,.X (l.map Y),.int .i64 s2,.X (ab.map Y)],.agg [.int .i64 bD,.X (bj.map Y),.int .i64 bE,.X (bh.map Y)]]=some (.same (cO (lG ((s,l),(s2,ab)) ((bD,bj),(bE,bh))))):=(b3 q9 (s,l,s2,ab,bD,bj,bE,bh)).trans (cw E _)
theorem alh (T:br)(e4:T kh=aK sn)(ov:T r8=aK CW)(sr:T zX=aK GV)(s:Int)(l:List Int)(s2:Int)(ab:List Int)(bD:Int)(bj:List Int)(bE:Int)(bh:List Int)(E:(o l)<=1000000/\o ab<=1000000/\o bj<=1000000/\o bh<=1000000):WP T QK (.same (cO (lG ((s,l),(s2,ab)) ((bD,bj),(bE,bh))))) [.J (.agg [.int .i64 s,.X (l.map Y),.int .i64 s2,.X (ab.map Y)]),.J (.agg [.int .i64 bD,.X (bj.map Y),.int .i64 bE,.X (bh.map Y)])]:=by
 refine b4 ?_;simp only[QK];obtain⟨bk,bp,dW,ez⟩:=E;unfold lG
 by_cases U:cU ((s,l),(s2,ab))=true
 ·by_cases aZ:cU ((bD,bj),(bE,bh))=true
  ·rw[aj U,aj aZ];dsimp only;rcases au:(bD==0)
   ·have cJ:=nD (s,l) (bE,bh);have cE:=nD (s2,ab) (bD,bj);rw[aq (by simp)];generalize hx:mulR (s,l) (bE,bh)=M1 at *;generalize iQ:mulR (s2,ab) (bD,bj)=M2 at *;obtain⟨⟨c6,dv⟩,aw⟩:=M1;obtain⟨⟨c5,eg⟩,aB⟩:=M2;refine aQ ?_;repeat' (intro h<;>simp only[h,go_sem,go_sem_proc,e4,ov,sr,bk,bp,dW,ez,U,aZ,au,hx,iQ,cJ,cE,c0,bF,cO,aH]<;>try refine al ?_ ?_)
   ·rw[aj rfl];refine aQ ?_;repeat' (intro h<;>simp only[h,go_sem,go_sem_proc,e4,ov,sr,bk,bp,dW,ez,U,aZ,au,cO,aH,ei,cM]<;>try refine al ?_ ?_)
  ·have aZ:cU ((bD,bj),(bE,bh))=false:=by simpa using aZ
   rw[aj U,aq (by simp[aZ])];refine aQ ?_;repeat' (intro h<;>simp only[h,go_sem,go_sem_proc,e4,ov,sr,bk,bp,dW,ez,U,aZ,cO,aH,ei,cM]<;>try refine al ?_ ?_)
 ·have U:cU ((s,l),(s2,ab))=false:=by simpa using U
  rw[aq (by simp[U])];refine aQ ?_;repeat' (intro h<;>simp only[h,go_sem,go_sem_proc,e4,ov,sr,bk,bp,dW,ez,U,cO,aH,ei,cM]<;>try refine al ?_ ?_)
def ss (c:Bool)(v:Rat):bd×Int:=if c=true then (ai v,0) else (ei,6)
def gV (z:Int):Bool:=decide (z.natAbs<c9)
def mx (x y:Rat):Bool:=gV (x.num*y.den)&&(gV (y.num*x.den)&&(gV (x.num*y.den+y.num*x.den)&&gV ((x.den:Int)*y.den)))
def C6 (x y:Rat):Bool:=gV (x.num*y.num)&&gV ((x.den:Int)*y.den)
def C7 (x y:Rat):Bool:=gV (x.num*y.den)&&gV ((x.den:Int)*y.num)
theorem su {z:Int}(h:gV z=true):mq z=(bc z,0):=aj (by simpa [gV] using h)
theorem wQ {z:Int}(h:gV z=false):mq z=((0,[]),6):=aq (by simpa [gV] using h)
theorem p8 {z:Int}(h:gV z=true):z.natAbs<c9:=by simpa [gV] using h
theorem ali {a b c d:Int}(aM:a.natAbs<c9)(ah:b.natAbs<c9)(E:c.natAbs<c9)(ae:d.natAbs<c9):
  sq (bc a) (bc b) (bc c) (bc d)=if (gV (a*b)&&(gV (c*d)&&gV (a*b+c*d)))=true then (bc (a*b+c*d),0) else ((0,[]),6):=by
 unfold sq;rw[q4 aM ah,q4 E ae];rcases D:gV (a*b)
 ·rw[wQ D];rfl
 ·rw[su D];rcases G:gV (c*d)
  ·rw[wQ G];rfl
  ·rw[su G];show iP (bc (a*b)) (bc (c*d))=_;rw[GM (p8 D) (p8 G)];rcases ag:gV (a*b+c*d)
   ·rw[wQ ag];rfl
   ·rw[su ag];rfl
theorem aad (x y:Rat):kl (x.num*y.den+y.num*x.den) ((x.den:Int)*y.den)=x+y:=by
 rw[<-Rat.divInt_add_divInt _ _ (by have:=den_pos x;omega) (by have:=den_pos y;omega),AM,AM]
theorem aae (x y:Rat):kl (x.num*y.num) ((x.den:Int)*y.den)=x*y:=by
 rw[<-aaf,AM,AM]
theorem aag (x y:Rat):kl (x.num*y.den) ((x.den:Int)*y.num)=x/y:=by
 rw[<-aaf,AM,<-Rat.inv_divInt,AM]
 rfl
theorem tE (x:Rat):(x.den:Int)≠0:=by have:=den_pos x;omega
theorem QU {x y:Rat}(I:dD x)(ak:dD y):m0 (ai x) (ai y)=ss (mx x y) (x+y):=by
 unfold m0;rw[aj (tD I),aj (tD ak)];show pk (sq (bc x.num) (bc y.den) (bc y.num) (bc x.den)) (mulR (bc x.den) (bc y.den))=_;rw[ali I.1 (mY ak) ak.1 (mY I),q4 (mY I) (mY ak)];unfold mx;rcases D:gV (x.num*y.den)
 ·rfl
 ·rcases G:gV (y.num*x.den)
  ·rfl
  ·rcases ag:gV (x.num*y.den+y.num*x.den)
   ·rfl
   ·rcases aR:gV ((x.den:Int)*y.den)
    ·rw[wQ aR];rfl
    ·rw[su aR];show fM (bc (x.num*y.den+y.num*x.den)) (bc ((x.den:Int)*y.den))=(ai (x+y),0)
     rw[yo (p8 ag) (p8 aR) (wR (tE x) (tE y)),aad]
theorem aah {x:Rat}(h:dD x):dD (-x):=⟨by rw[Rat.neg_num];have:=h.1;omega,by rw[Rat.neg_den];exact h.2⟩
theorem aai {x y:Rat}(I:dD x)(ak:dD y):k5 (ai x) (ai y)=ss (mx x (-y)) (x-y):=by
 unfold k5;rw[aj (tD I),aj (tD ak)]
 have:(gn (ai y).1,(ai y).2)=ai (-y):=by
  unfold ai;have:gn (bc y.num)=bc (-y.num):=by unfold gn;rw[aj (iO ak.1),eo]
  dsimp only;rw[this];rfl
 rw[this,QU I (aah ak),Rat.sub_eq_add_neg]
theorem aaj {x y:Rat}(I:dD x)(ak:dD y):k6 (ai x) (ai y)=ss (C6 x y) (x*y):=by
 unfold k6;rw[aj (tD I),aj (tD ak)];show pk (mulR (bc x.num) (bc y.num)) (mulR (bc x.den) (bc y.den))=_;rw[q4 I.1 ak.1,q4 (mY I) (mY ak)];unfold C6;rcases D:gV (x.num*y.num)
 ·rw[wQ D];rfl
 ·rw[su D];rcases aR:gV ((x.den:Int)*y.den)
  ·rw[wQ aR];rfl
  ·rw[su aR];show fM (bc (x.num*y.num)) (bc ((x.den:Int)*y.den))=(ai (x*y),0)
   rw[yo (p8 D) (p8 aR) (wR (tE x) (tE y)),aae]
theorem aak {x y:Rat}(I:dD x)(ak:dD y)(au:y≠0):lG (ai x) (ai y)=ss (C7 x y) (x/y):=by
 unfold lG;rw[aj (tD I),aj (tD ak)];have aL:y.num≠0:=λh=>au (Rat.num_eq_zero.1 h)
 have:((ai y).1.1==0)=false:=by
  show (y.num.sign==0)=false
  simpa using aL
 rw[this,aq (by simp)];show pk (mulR (bc x.num) (bc y.den)) (mulR (bc x.den) (bc y.num))=_;rw[q4 I.1 (mY ak),q4 (mY I) ak.1];unfold C7;rcases D:gV (x.num*y.den)
 ·rw[wQ D];rfl
 ·rw[su D];rcases aR:gV ((x.den:Int)*y.num)
  ·rw[wQ aR];rfl
  ·rw[su aR];show fM (bc (x.num*y.den)) (bc ((x.den:Int)*y.num))=(ai (x/y),0)
   rw[yo (p8 D) (p8 aR) (wR (tE x) aL),aag]
def km (x y:Rat):Int:=(x.num*y.den-y.num*x.den).sign
def h7 (a b:bd):Int:=if cU a=true then (if cU b=true then (ga a.1*ga b.2-ga b.1*ga a.2).sign else 0) else 0
theorem KR {x y:Rat}(I:dD x)(ak:dD y):h7 (ai x) (ai y)=km x y:=by
 unfold h7;rw[aj (tD I),aj (tD ak)];unfold ai km;rw[eo,eo,eo,eo]
theorem aal {x y:Rat}:km x y=0↔x=y:=by
 unfold km;rw[Qr,Rat.eq_iff_mul_eq_mul];omega
theorem KS {p q:Int}(aF:0<q):0<=p.fmod q/\p.fmod q<q:=⟨Int.fmod_nonneg_of_pos _ aF,Int.fmod_lt_of_pos _ aF⟩
theorem aam {p q r s:Int}(aF:0<q)(aa:0<s)(h:p.fdiv q<r.fdiv s):p*s-r*q<0:=by
 have aw:=KT p q;have aB:=KT r s;have c5:=KS (p:=p) aF;have eg:=KS (p:=r) aa;generalize p.fdiv q=x at *;generalize r.fdiv s=y at *;generalize p.fmod q=u at *;generalize r.fmod s=v at *;subst aw aB;have D:q*s*(x+1)<=q*s*y:=Int.mul_le_mul_of_nonneg_left (by omega) (KH (Int.mul_pos aF aa));have G:u*s<q*s:=Int.mul_lt_mul_of_pos_right c5.2 aa;have ag:0<=v*q:=q1 eg.1 (by omega);have cI:(q*x+u)*s-(s*y+v)*q=q*s*(x+1)-q*s*y+(u*s-q*s)-v*q:=by grind
 omega
theorem alj {p q r s:Int}(h:p.fdiv q=r.fdiv s):p*s-r*q=p.fmod q*s-r.fmod s*q:=by
 have aw:=KT p q;have aB:=KT r s;rw[h] at aw;generalize r.fdiv s=y at *;generalize p.fmod q=u at *;generalize r.fmod s=v at *;subst aw aB;grind
theorem aan (a b:Int):(a-b).sign = -(b-a).sign:=by rw[<-Ax];congr 1;omega
theorem aao {p q:Int}(aG:p.natAbs<c9)(aF:q.natAbs<c9)(au:0<q):
  ji (p.sign,aD p.natAbs) (q.sign,aD q.natAbs)=(((p.fdiv q).sign,aD (p.fdiv q).natAbs),((p.fmod q).sign,aD (p.fmod q).natAbs),0):=wK aG aF (by omega)
def yq:=bU pn λ(s,l,s2,ab,bD,bj,bE,bh)=>cq (o l<=1000000/\o ab<=1000000/\o bj<=1000000/\o bh<=1000000) (.same (.int .i64 (h7 ((s,l),(s2,ab)) ((bD,bj),(bE,bh)))))
@[go_sem] theorem aap (s:Int)(l:List Int)(s2:Int)(ab:List Int)(bD:Int)(bj:List Int)(bE:Int)(bh:List Int)(E:(o l)<=1000000/\o ab<=1000000/\o bj<=1000000/\o bh<=1000000):yq [.agg [.int .i64 s,.X (l.map Y),.int .i64 s2,.X (ab.map Y)],.agg [.int .i64 bD,.X (bj.map Y),.int .i64 bE,.X (bh.map Y)]]=some (.same (.int .i64 (h7 ((s,l),(s2,ab)) ((bD,bj),(bE,bh))))):=(b3 q9 (s,l,s2,ab,bD,bj,bE,bh)).trans (cw E _)
theorem alk (T:br)(e4:T kh=aK sn)(ou:T zY=aK KF)(vb:T Ol=aK Qn)(s:Int)(l:List Int)(s2:Int)(ab:List Int)(bD:Int)(bj:List Int)(bE:Int)(bh:List Int)(E:(o l)<=1000000/\o ab<=1000000/\o bj<=1000000/\o bh<=1000000):WP T QF (.same (.int .i64 (h7 ((s,l),(s2,ab)) ((bD,bj),(bE,bh))))) [.J (.agg [.int .i64 s,.X (l.map Y),.int .i64 s2,.X (ab.map Y)]),.J (.agg [.int .i64 bD,.X (bj.map Y),.int .i64 bE,.X (bh.map Y)])]:=by
 refine b4 ?_;simp only[QF];obtain⟨bk,bp,dW,ez⟩:=E
 by_cases U:cU ((s,l),(s2,ab))=true
 ·by_cases aZ:cU ((bD,bj),(bE,bh))=true
  ·obtain⟨x,I,e⟩:=(wN _).1 U;obtain⟨y,ak,aB⟩:=(wN _).1 aZ;have hm:h7 ((s,l),(s2,ab)) ((bD,bj),(bE,bh))=km x y:=by rw[e,aB,KR I ak]
   rw[hm];clear hm;have alm:(s,l)=bc x.num:=congrArg wP e;have QV:(s2,ab)=bc x.den:=congrArg Prod.snd e;have QW:(bD,bj)=bc y.num:=congrArg wP aB;have aln:(bE,bh)=bc y.den:=congrArg Prod.snd aB;clear e aB;have QX:=mY I;have alo:=mY ak;have AR:=den_pos x;have hI:=den_pos y;have alp:=I.1;have NB:=ak.1;unfold km;generalize x.num=P at *;generalize (x.den:Int)=aT at *;generalize y.num=cD at *;generalize (y.den:Int)=S at *
   cases alm
   cases QV
   cases QW
   cases aln;simp only[go_sem,go_sem_proc,e4,ou,vb,bk,bp,dW,ez,U,aZ];refine dw [5,6,7,8] [135002,135003] (λ((p9,p,q,r,t):Int×Int×Int×Int×Int) tm mem=>(p9=1\/p9 = -1)/\0<q/\0<t/\p.natAbs<c9/\q.natAbs<c9/\r.natAbs<c9/\t.natAbs<c9/\(P*S-cD*aT).sign=p9*(p*t-r*q).sign/\tm 9=.J (.int .i64 p9)/\mem 135005=some (0,[.J (.int .i64 p.sign),.J (.X ((aD p.natAbs).map Y))])/\mem 135006=some (0,[.J (.int .i64 q.sign),.J (.X ((aD q.natAbs).map Y))])/\mem 135007=some (0,[.J (.int .i64 r.sign),.J (.X ((aD r.natAbs).map Y))])/\mem 135008=some (0,[.J (.int .i64 t.sign),.J (.X ((aD t.natAbs).map Y))])) (λ(_,_,q,_,_)=>q.natAbs) (1,P,aT,cD,S) (by refine⟨.inl rfl,AR,hI,alp,QX,NB,alo,by rw[nw],rfl,?_,?_,?_,?_⟩<;>rfl) ?_;intro vs ms a7 aY;simp only[go_sem,go_sem_proc,e4,ou,vb] at a7 aY;subst a7 aY;rintro⟨p9,p,q,r,t⟩ tm mem R hm ⟨po,kD,G0,aG,aF,QY,bV,g0,jt,yr,G6,kG,G7⟩;simp only[go_sem,go_sem_proc,e4,ou,vb,bn] at R hm;obtain⟨bs,b1,cd,de⟩:=R;have G8:=hX aG;have G9:=hX aF;have tF:=hX QY;have lt:=hX bV;have jy:=aao aG aF kD;have lB:=aao QY bV G0;have aaq:=C2 (y:=q) aG (by omega);have Ha:=C2 (y:=t) QY (by omega);have C8:=hX aaq;have Hb:=hX Ha;have fu:l1 ((p.fdiv q).sign,aD (p.fdiv q).natAbs) ((r.fdiv t).sign,aD (r.fdiv t).natAbs)=fh (p.fdiv q) (r.fdiv t):=GN aaq Ha;have aze:=KS (p:=p) kD;have bv:=KS (p:=r) G0;have alq:IntKind.i64.wrap (0-p9) = -p9:=by rcases po with rfl|rfl<;>rfl
   rcases q3 (p.fdiv q) (r.fdiv t) with az|heq|js
   ·have ad:=aam kD G0 az;rw[wI az] at fu;rw[g0,jY ad];have hw:IntKind.i64.wrap (p9 * -1)=p9 * -1:=by rcases po with rfl|rfl<;>rfl
    refine aQ ?_;repeat' (intro h<;>simp only[h,go_sem,go_sem_proc,e4,ou,vb,bs,b1,cd,de,jt,hm,yr,G6,kG,G7,G8,G9,tF,lt,C8,Hb,jy,lB,fu,hw,fw,bF,show ((-1:Int)==0)=false from rfl]<;>try refine al ?_ ?_)
   ·have ad:=alj heq;rw[heq,CY] at fu
    have fL:∀a:Int,-1<=a->a<=1->IntKind.i64.wrap (p9*a)=p9*a:=by
     intro a D G;rcases po with rfl|rfl<;>exact wrap64 _ (by omega) (by omega)
    rw[heq] at jy C8;have azf:(p.fmod q).natAbs<c9:=by omega
    have azg:(r.fmod t).natAbs<c9:=by omega
    rw[ad] at g0;generalize p.fmod q=u at *;generalize r.fmod t=v at *
    by_cases hu:u=0
    ·subst hu
     have aa:(0*t-v*q).sign=(0:Int).sign-v.sign:=by
      rw[AF,aar,Ax,mX,fS kD,o8,vc,aar]
     rw[aa] at g0;rw[g0];have ag:=lE v;have yf:IntKind.i64.wrap ((0:Int).sign-v.sign)=(0:Int).sign-v.sign:=wrap64 _ (by rw[vc];omega) (by rw[vc];omega);have hw:=fL ((0:Int).sign-v.sign) (by rw[vc];omega) (by rw[vc];omega);refine aQ ?_;repeat' (intro h<;>simp only[h,go_sem,go_sem_proc,e4,ou,vb,bs,b1,cd,de,jt,hm,yr,G6,kG,G7,G8,G9,tF,lt,C8,Hb,jy,lB,fu,hw,yf,fw,bF,show ((0:Int)==0)=true from rfl,show ((0:Int).sign==0)=true from rfl]<;>try refine al ?_ ?_)
    ·have C3:0<u:=by omega
     have aas:(u.sign==0)=false:=by simpa using hu
     by_cases B4:v=0
     ·subst B4
      have aa:(u*t-0*q).sign=u.sign-(0:Int).sign:=by
       rw[AF,wB,mX,fS G0,o8,vc,wB]
      rw[aa] at g0;rw[g0];have ag:=lE u;have yf:IntKind.i64.wrap (u.sign-(0:Int).sign)=u.sign-(0:Int).sign:=wrap64 _ (by rw[vc];omega) (by rw[vc];omega);have hw:=fL (u.sign-(0:Int).sign) (by rw[vc];omega) (by rw[vc];omega);refine aQ ?_;repeat' (intro h<;>simp only[h,go_sem,go_sem_proc,e4,ou,vb,bs,b1,cd,de,jt,hm,yr,G6,kG,G7,G8,G9,tF,lt,C8,Hb,jy,lB,fu,hw,yf,aas,fw,bF,show ((0:Int)==0)=true from rfl,show ((0:Int).sign==0)=true from rfl]<;>try refine al ?_ ?_)
     ·have kS:(v.sign==0)=false:=by simpa using B4
      refine aQ ?_;repeat' (intro h<;>simp only[h,go_sem,go_sem_proc,e4,ou,vb,bs,b1,cd,de,jt,hm,yr,G6,kG,G7,G8,G9,tF,lt,C8,Hb,jy,lB,fu,aas,kS,alq,fw,bF,show ((0:Int)==0)=true from rfl]<;>try refine al ?_ ?_)
      refine⟨(-p9,q,u,t,v),by dsimp only;omega,by dsimp only;omega,by dsimp only;omega,by dsimp only;omega,by dsimp only;omega,by dsimp only;omega,by dsimp only;omega,by dsimp only;omega,?_,by simp[go_sem],by simp[go_sem],by simp[go_sem],by simp[go_sem],by simp[go_sem]⟩
      dsimp only;rw[g0,aan (q*v) (t*u),Int.neg_mul_neg,lx t u,lx q v]
   ·have ad:=aam G0 kD js;rw[AD js] at fu;rw[g0,aan,jY ad];have hw:IntKind.i64.wrap (p9*1)=p9 * -(-1):=by rcases po with rfl|rfl<;>rfl
    refine aQ ?_;repeat' (intro h<;>simp only[h,go_sem,go_sem_proc,e4,ou,vb,bs,b1,cd,de,jt,hm,yr,G6,kG,G7,G8,G9,tF,lt,C8,Hb,jy,lB,fu,hw,fw,bF,show ((1:Int)==0)=false from rfl]<;>try refine al ?_ ?_)
  ·have aZ:cU ((bD,bj),(bE,bh))=false:=by simpa using aZ
   have hm:h7 ((s,l),(s2,ab)) ((bD,bj),(bE,bh))=0:=by unfold h7;rw[aj U,aq (by simp[aZ])]
   rw[hm];refine aQ ?_;repeat' (intro h<;>simp only[h,go_sem,go_sem_proc,e4,ou,vb,bk,bp,dW,ez,U,aZ]<;>try refine al ?_ ?_)
 ·have U:cU ((s,l),(s2,ab))=false:=by simpa using U
  have hm:h7 ((s,l),(s2,ab)) ((bD,bj),(bE,bh))=0:=by unfold h7;rw[aq (by simp[U])]
  rw[hm];refine aQ ?_;repeat' (intro h<;>simp only[h,go_sem,go_sem_proc,e4,ou,vb,bk,bp,dW,ez,U]<;>try refine al ?_ ?_)
def QZ:bP:=b5 6 1 [.t 2] (M [cN 1 125001 0,cj 2 false] (M [ba 3 4 1,(dg 4 kh 3),dY 5 4,F 2 5] .ret))
def Q0:bP:=b5 11 1 [.cell 2 4 true] (M [(aE 2 (.alloc 230002 [(ao 0),.nil,(ao 0),.nil]))] (M [F 6 0,(aE 7 (.call zW [(.t 6),(.c (ao 1))])),F 5 7,bx 8 0 5,bx 9 1 5,(aE 3 (.alloc 230003 [(ao 0),.nil,(ao 0),.nil])),bu 4 3 8,F 4 9] (M [ba 10 4 3,bu 4 2 10] .ret)))
def Q1:bP:=b5 13 3 [.t 4] (M [cj 4 false] (eS [a2 5 1 1,a2 6 1 2,cC 7 4 5 6,ba 8 4 7,F 9 0,(dg 10 OA 9),(b0 11 r7 8 10),bo 12 .lss 11 0,F 4 12] wk .ret))
def Q2:bP:=b5 15 3 [.t 6] (M [cj 6 false] (M [F 7 0,F 8 1,bJ 9 .geq 7 8,F 10 9,⟨some 11,some (10,true),.ck (.t 0)⟩,⟨some 12,some (10,true),.ck (.t 2)⟩,⟨some 13,some (10,true),.bin .leq (.t 11) (.t 12)⟩,gI 14 10 13,F 6 14] .ret))
def Q3:bP:=b5 8 2 [.t 3] (M [cj 3 false] (M [a2 4 1 1,F 5 0,(aE 6 (.iY (.t 4) [(.t 5),(.c (ao 0)),(.c (ao 1000000000000000))])),dY 7 6,F 3 7] .ret))
def Q4:bP:=b5 35 3 [.t 4] (M [cN 3 245003 0,cj 4 false] (M [a2 5 1 1,bg 6 0 3,a2 7 1 6,a2 8 1 2,bo 9 .sub 8 1,(aE 10 (.iY (.t 5) [(.t 7),(.c (ao 0)),(.t 9)])),dY 11 10,F 12 11,⟨some 13,some (12,false),.load 1 false (.t 1)⟩,⟨some 14,some (12,false),.c3 1 (.t 3)⟩,⟨some 15,some (12,false),.load 1 false (.t 14)⟩,⟨some 16,some (12,false),.load 1 false (.t 2)⟩,⟨some 17,some (12,false),.bin .sub (.t 16) (.c (ao 1))⟩,⟨some 18,some (12,false),.iY (.t 13) [(.t 15),(.c (.J (.int .i64 (-1)))),(.t 17)]⟩,⟨some 19,some (12,false),.un .not (.t 18)⟩,cX 20 12 19,F 21 20,⟨some 22,some (21,false),.load 1 false (.t 1)⟩,⟨some 23,some (21,false),.c3 2 (.t 3)⟩,⟨some 24,some (21,false),.load 1 false (.t 23)⟩,⟨some 25,some (21,false),.iY (.t 22) [(.t 24),(.c (ao 0)),(.c (ao 9))]⟩,⟨some 26,some (21,false),.un .not (.t 25)⟩,cX 27 21 26,F 28 27,⟨some 29,some (28,false),.load 1 false (.t 1)⟩,⟨some 30,some (28,false),.c3 3 (.t 3)⟩,⟨some 31,some (28,false),.load 1 false (.t 30)⟩,⟨some 32,some (28,false),.iY (.t 29) [(.t 31),(.c (ao 0)),(.c (ao 1000000000000000))]⟩,⟨some 33,some (28,false),.un .not (.t 32)⟩,cX 34 28 33,F 4 34] .ret))
def Q5:bP:=b5 36 3 [.t 6] (M [cN 5 286005 2,bq 6 0] (M [F 10 0,F 11 1,ba 12 3 5,(aE 13 (.build [.nil,.nil,.nil,.nil,.nil] [(0,1,(.t 10)),(1,1,(.t 11)),(2,3,(.t 12))])),(aE 7 (.alloc 286007 [.nil,.nil,.nil,.nil,.nil])),bu 5 7 13] (.seq (M [ba 14 5 7,(dg 15 Gc 14),dY 16 15] (aX 16 (M [bq 6 1] .ret) .skip)) (.seq (M [F 17 0,cx 18 17,bq 19 0] (.block 0 (.loop  (M [bJ 20 .lss 19 18] (.seq (aX 20 .skip (.exit 0)) (.seq (.block 1 (M [F 21 19,F 8 21] (M [ba 22 5 7,F 23 8,(b0 24 OI 22 23),F 9 24] (M [F 25 9,bo 26 .neq 25 0] (aX 26 (M [F 27 9,F 6 27] .ret) .skip))))) (.ops [bo 28 .add 19 1,F 19 28]))))))) (.seq (M [ba 29 5 7,(dg 30 OJ 29),dY 31 30,F 32 31,⟨some 33,some (32,false),.load 5 true (.t 7)⟩,⟨some 34,some (32,false),.call OK [(.t 33)]⟩,cX 35 32 34] (aX 35 (M [bq 6 24] .ret) .skip)) (M [bq 6 0] .ret))))))
def Q6:bP:=b5 61 1 [.t 2] (M [cN 1 287001 0,cj 2 false] (M [bg 7 0 1,a2 8 1 7,cx 9 8,(aE 3 (.alloc 287003 [(ao 0)])),bu 1 3 9] (M [(aE 4 (.alloc 287004 [(.J .um)])),⟨none,none,.store 1 (.t 4) (.c (.e5 ly []))⟩] (M [(aE 10 (.qz uR [(.t 3),(.t 4)])),F 5 10] (M [(aE 6 (.ck (.c (.e5 tk []))))] (.seq (M [a2 11 1 3,bo 12 .gtr 11 60,F 13 12,⟨some 14,some (13,false),.c3 1 (.t 1)⟩,⟨some 15,some (13,false),.load 1 false (.t 14)⟩,⟨some 16,some (13,false),.len (.t 15)⟩,⟨some 17,some (13,false),.bin .gtr (.t 16) (.c (ao 2000))⟩,cX 18 13 17,F 19 18,⟨some 20,some (19,false),.c3 2 (.t 1)⟩,⟨some 21,some (19,false),.c3 0 (.t 20)⟩,⟨some 22,some (19,false),.load 1 false (.t 21)⟩,⟨some 23,some (19,false),.len (.t 22)⟩,⟨some 24,some (19,false),.load 1 false (.t 3)⟩,⟨some 25,some (19,false),.bin .neq (.t 23) (.t 24)⟩,cX 26 19 25,F 27 26,⟨some 28,some (27,false),.c3 2 (.t 1)⟩,⟨some 29,some (27,false),.c3 1 (.t 28)⟩,⟨some 30,some (27,false),.load 1 false (.t 29)⟩,⟨some 31,some (27,false),.len (.t 30)⟩,⟨some 32,some (27,false),.c3 1 (.t 1)⟩,⟨some 33,some (27,false),.load 1 false (.t 32)⟩,⟨some 34,some (27,false),.len (.t 33)⟩,⟨some 35,some (27,false),.bin .neq (.t 31) (.t 34)⟩,cX 36 27 35] (aX 36 (M [cj 2 false] .ret) .skip)) (M [bg 37 0 1,a2 38 1 37,a2 39 1 4,(b0 40 OL 38 39),F 41 40,⟨some 42,some (41,true),.c3 1 (.t 1)⟩,⟨some 43,some (41,true),.load 1 false (.t 42)⟩,⟨some 44,some (41,true),.ck (.t 5)⟩,⟨some 45,some (41,true),.call OM [(.t 43),(.t 44)]⟩,gI 46 41 45,F 47 46,⟨some 48,some (47,true),.c3 2 (.t 1)⟩,⟨some 49,some (47,true),.c3 0 (.t 48)⟩,⟨some 50,some (47,true),.load 1 false (.t 49)⟩,⟨some 51,some (47,true),.ck (.t 6)⟩,⟨some 52,some (47,true),.call JW [(.t 50),(.t 51)]⟩,gI 53 47 52,F 54 53,⟨some 55,some (54,true),.c3 2 (.t 1)⟩,⟨some 56,some (54,true),.c3 1 (.t 55)⟩,⟨some 57,some (54,true),.load 1 false (.t 56)⟩,⟨some 58,some (54,true),.ck (.t 6)⟩,⟨some 59,some (54,true),.call JW [(.t 57),(.t 58)]⟩,gI 60 54 59,F 2 60] .ret)))))))
def Q7:bP:=b5 80 2 [.t 4] (M [cN 2 288002 0,bq 4 0] (M [bg 16 0 2,a2 17 1 16,F 18 1,cC 19 1 17 18,a2 20 1 19,(aE 21 (.call zW [(.t 20),(.c (ao 1))])),F 15 21,bx 22 0 15,bx 23 1 15,(aE 5 (.alloc 288005 [(ao 0),.nil,(ao 0),.nil])),bu 4 5 22,F 6 23] (.seq (M [bg 24 1 2,a2 25 1 24,cx 26 25,bq 27 0] (.block 0 (.loop  (M [bJ 28 .lss 27 26] (.seq (aX 28 .skip (.exit 0)) (.seq (.block 1 (M [F 29 27,cC 30 4 25 27,ba 31 4 30,(aE 8 (.alloc 288008 [(ao 0),(ao 0),(ao 0),(ao 0)])),F 7 29,bu 4 8 31] (.seq (M [bg 32 1 8,a2 33 1 32,F 34 1,bJ 35 .neq 33 34] (aX 35 (.exit 1) .skip)) (eS [ba 37 4 5,bg 38 2 2,bg 39 1 38,a2 40 1 39,F 41 7,cC 42 4 40 41,ba 43 4 42,(b0 44 FV 37 43),F 36 44,bx 45 0 36,bx 46 1 36,(aE 9 (.alloc 288009 [(ao 0),.nil,(ao 0),.nil])),bu 4 9 45,F 10 46] [[],[],[],[],[],[],[],[],[],[],[],[0,3,6],[],[]] (.seq (M [F 47 10,bo 48 .neq 47 0] (aX 48 (M [F 49 10,F 4 49] .ret) .skip)) (.ops [ba 50 4 9,bu 4 5 50])))))) (.ops [bo 51 .add 27 1,F 27 51]))))))) (.seq (eS [ba 52 4 5,bg 53 2 2,bg 54 0 53,a2 55 1 54,F 56 1,cC 57 4 55 56,ba 58 4 57,(b0 59 r7 52 58),bo 60 .neq 59 0] wk (aX 60 (M [bq 4 24] .ret) .skip)) (M [ba 62 5 2,F 63 1,(b0 64 Gd 62 63),F 61 64,bx 65 0 61,bx 66 1 61,F 11 65,F 12 66] (M [ba 68 4 5,F 69 11,(b0 70 OD 68 69),F 67 70,bx 71 0 67,bx 72 1 67,F 13 71,F 14 72] (.seq (M [F 73 14,bo 74 .neq 73 0] (aX 74 (M [F 75 14,F 4 75] .ret) .skip)) (.seq (M [F 76 12,F 77 13,(b0 78 ON 76 77),dY 79 78] (aX 79 (M [bq 4 24] .ret) .skip)) (M [bq 4 0] .ret)))))))))
def Q8:bP:=b5 49 1 [.t 2] (M [cN 1 289001 0,cj 2 false] (M [fa 3] (.seq (M [bg 8 2 1,bg 9 2 8,a2 10 1 9,cx 11 10,bq 12 0] (.block 0 (.ghost (.nT 3 289040 1) (.loop  (M [bJ 13 .lss 12 11] (.seq (aX 13 .skip (.exit 0)) (.seq (.block 1 (M [cC 14 1 10 12,a2 15 1 14,F 5 15] (.seq (M [F 16 5,cx 17 16,bq 18 0] (.block 2 (.loop  (M [bJ 19 .lss 18 17] (.seq (aX 19 .skip (.exit 2)) (.seq (.block 3 (M [F 20 18,cC 21 1 16 18,a2 22 1 21,F 6 20,F 7 22] (M [F 23 6,bo 24 .gtr 23 0,F 25 24,⟨some 26,some (25,true),.ck (.t 7)⟩,⟨some 27,some (25,true),.ck (.t 5)⟩,⟨some 28,some (25,true),.ck (.t 6)⟩,⟨some 29,some (25,true),.bin .sub (.t 28) (.c (ao 1))⟩,⟨some 30,some (25,true),.jO 1 (.t 27) (.t 29)⟩,⟨some 31,some (25,true),.load 1 false (.t 30)⟩,⟨some 32,some (25,true),.bin .leq (.t 26) (.t 31)⟩,gI 33 25 32] (aX 33 (M [cj 2 false] .ret) .skip)))) (.ops [bo 34 .add 18 1,F 18 34]))))))) (.seq (M [F 35 5,cx 36 35,bo 37 .eql 36 0] (aX 37 (M [cj 2 false] .ret) .skip)) (.ops [F 38 3,F 39 5,(aE 40 (.app 289040 [(ao 0)] 8 (.t 38) (.t 39))),F 3 40]))))) (.ops [bo 41 .add 12 1,F 12 41])))))))) (M [F 42 3,(dg 43 OO 42)] (eS [F 44 3,(aE 45 (.pL 0 OQ [(.t 44)])),ba 46 5 1,(dg 47 Aa 46),(b0 48 OP 45 47),F 2 48] [[],[],[1],[],[],[]] .ret)))))
def Q9:bP:=b5 21 1 [.t 2] (M [cN 1 290001 0,cj 2 false] (M [ba 5 5 1,(aE 6 (.na 290006 1 Aa [(.t 5)])),F 3 6] (.seq (M [bg 7 0 1,a2 8 1 7,cx 9 8,bq 10 0] (.block 0 (.loop  (M [bJ 11 .lss 10 9] (.seq (aX 11 .skip (.exit 0)) (.seq (.block 1 (M [F 12 3,(dg 13 sa 12),(aE 4 (.alloc 290004 [.nil])),bu 1 4 13] (.ops [F 14 3,(aE 15 (.qz qX [(.t 1),(.t 4)])),(b0 16 OR 14 15),F 3 16]))) (.ops [bo 17 .add 10 1,F 10 17]))))))) (M [F 18 3,cx 19 18,bo 20 .gtr 19 0,F 2 20] .ret))))
def Ra:bP:=b5 5 1 [.t 2] (M [cj 2 false] (M [F 3 0,(aE 4 (.call z8 [(.t 3),(.c (ao 0)),(.c (ao 1000000000000000))])),F 2 4] .ret))
def Rb:bP:=b5 15 3 [.t 6] (M [cj 6 false] (M [F 7 1,F 8 0,bJ 9 .leq 7 8,F 10 9,⟨some 11,some (10,true),.ck (.t 0)⟩,⟨some 12,some (10,true),.ck (.t 2)⟩,⟨some 13,some (10,true),.bin .leq (.t 11) (.t 12)⟩,gI 14 10 13,F 6 14] .ret))
def Rc:bP:=b5 28 3 [.t 4] (M [cN 3 293003 0,cj 4 false] (M [bg 5 0 3,a2 6 1 5,a2 7 1 1,bo 8 .sub 7 1,(aE 9 (.call z8 [(.t 6),(.c (ao 0)),(.t 8)])),F 10 9,⟨some 11,some (10,true),.c3 1 (.t 3)⟩,⟨some 12,some (10,true),.load 1 false (.t 11)⟩,⟨some 13,some (10,true),.load 1 false (.t 1)⟩,⟨some 14,some (10,true),.bin .sub (.t 13) (.c (ao 1))⟩,⟨some 15,some (10,true),.call z8 [(.t 12),(.c (.J (.int .i64 (-1)))),(.t 14)]⟩,gI 16 10 15,F 17 16,⟨some 18,some (17,true),.c3 2 (.t 3)⟩,⟨some 19,some (17,true),.load 1 false (.t 18)⟩,⟨some 20,some (17,true),.call z8 [(.t 19),(.c (ao 0)),(.c (ao 9))]⟩,gI 21 17 20,F 22 21,⟨some 23,some (22,true),.load 1 false (.t 2)⟩,⟨some 24,some (22,true),.c3 3 (.t 3)⟩,⟨some 25,some (22,true),.load 1 false (.t 24)⟩,⟨some 26,some (22,true),.iY (.t 23) [(.t 25)]⟩,gI 27 22 26,F 4 27] .ret))
def Re:bP:=b5 11 1 [.t 2] (M [cN 1 294001 0,cj 2 false] (M [ba 3 4 1,(dg 4 kh 3),F 5 4,⟨some 6,some (5,true),.c3 0 (.t 1)⟩,⟨some 7,some (5,true),.c3 0 (.t 6)⟩,⟨some 8,some (5,true),.load 1 false (.t 7)⟩,⟨some 9,some (5,true),.bin .geq (.t 8) (.c (ao 0))⟩,gI 10 5 9,F 2 10] .ret))
def Rf:bP:=b5 9 2 [.t 4] (M [cN 3 295003 1,cj 4 false] (M [F 5 0,(aE 6 (.qz xY [(.t 3)])),(b0 7 OC 5 6),dY 8 7,F 4 8] .ret))
def Rg:bP:=b5 9 2 [.t 4] (M [cN 3 296003 1,cj 4 false] (M [F 5 0,(aE 6 (.qz Ab [(.t 3)])),(b0 7 F8 5 6),dY 8 7,F 4 8] .ret))
def Rh:bP:=b5 9 2 [.t 4] (M [cN 3 297003 1,cj 4 false] (M [F 5 0,(aE 6 (.qz sc [(.t 3)])),(b0 7 Of 5 6),dY 8 7,F 4 8] .ret))
def Ri:bP:=b5 38 2 [.t 4,.t 5] (M [cN 2 298002 0,fa 4,fa 5] (M [fa 6] (M [fa 7] (.seq (M [bg 10 1 2,a2 11 1 10,cx 12 11,bq 13 0] (.block 0 (.ghost (.nT 6 298025 4) (.ghost (.nT 7 298034 4) (.loop  (M [bJ 14 .lss 13 12] (.seq (aX 14 .skip (.exit 0)) (.seq (.block 1 (M [F 15 13,cC 16 4 11 13,ba 17 4 16,(aE 9 (.alloc 298009 [(ao 0),(ao 0),(ao 0),(ao 0)])),F 8 15,bu 4 9 17] (M [bg 18 0 9,a2 19 1 18,F 20 1,bJ 21 .eql 19 20] (aX 21 (.pN [F 22 6,ba 23 4 9,(aE 24 (.fz 298024 false [(ao 0),(ao 0),(ao 0),(ao 0)] 4 1 [(0,4,(.t 23))])),(aE 25 (.app 298025 [(ao 0),(ao 0),(ao 0),(ao 0)] 32 (.t 22) (.t 24))),F 26 7,bg 27 2 2,bg 28 1 27,a2 29 1 28,F 30 8,cC 31 4 29 30,ba 32 4 31,(aE 33 (.fz 298033 false [(ao 0),.nil,(ao 0),.nil] 4 1 [(0,4,(.t 32))])),(aE 34 (.app 298034 [(ao 0),.nil,(ao 0),.nil] 64 (.t 26) (.t 33))),F 6 25,F 7 34] [[],[],[],[],[],[],[],[3],[],[],[3],[],[],[],[]]) .skip)))) (.ops [bo 35 .add 13 1,F 13 35]))))))))) (.seq (.ghost (.freeze 6) (.ghost (.freeze 7) (.ops [F 36 6,F 37 7,F 4 36,F 5 37]))) .ret)))))
def Rj:bP:=b5 8 2 [.t 4] (M [cj 4 false] (M [F 5 0,F 6 1,(aE 7 (.call OB [(.t 5),(.t 6),(.c (.e5 tl []))])),F 4 7] .ret))
def Rk:bP:=b5 26 1 [.t 2] (M [cN 1 303001 0,fa 2] (M [fa 3] (.seq (M [bg 7 0 1,a2 8 1 7,cx 9 8,bq 10 0] (.block 0 (.ghost (.nT 3 303023 1) (.loop  (M [bJ 11 .lss 10 9] (.seq (aX 11 .skip (.exit 0)) (.seq (.block 1 (M [F 12 10,F 4 12] (M [ba 14 5 1,F 15 4,(b0 16 Ge 14 15),F 13 16,bx 17 0 13,bx 18 1 13,F 5 17,F 6 18] (M [F 19 6] (aX 19 (.ops [F 20 3,F 21 4,(aE 22 (.fz 303022 false [(ao 0)] 1 1 [(0,1,(.t 21))])),(aE 23 (.app 303023 [(ao 0)] 8 (.t 20) (.t 22))),F 3 23]) .skip))))) (.ops [bo 24 .add 10 1,F 10 24])))))))) (M [F 25 3,F 2 25] .ret))))
def Rl:bP:=b5 9 3 [.t 4] (M [cj 4 false] (M [ba 5 5 1,F 6 0,a2 7 1 2,(ns 8 OS 5 6 7),F 4 8] .ret))
def Rm:bP:=b5 19 3 [.t 6] (M [cN 3 306003 0,cN 4 306004 1,cN 5 306005 2,cj 6 false] (M [ba 10 5 3,a2 11 1 4,(b0 12 Ge 10 11),F 9 12,bx 13 0 9,bx 14 1 9,(aE 7 (.alloc 306007 [(ao 0)])),bu 1 7 13,F 8 14] (M [bg 15 1 3,a2 16 1 15,(aE 17 (.qz Ac [(.t 4),(.t 7),(.t 5)])),(b0 18 F8 16 17),F 6 18] .ret)))
def Rn:bP:=b5 8 2 [.t 3] (M [cj 3 false] (M [a2 4 1 1,F 5 0,(aE 6 (.iY (.t 4) [(.t 5)])),dY 7 6,F 3 7] .ret))
def Ro:bP:=b5 8 2 [.t 3] (M [cN 2 308002 0,cj 3 false] (M [a2 4 1 1,ba 5 4 2,(aE 6 (.iY (.t 4) [(.t 5)])),dY 7 6,F 3 7] .ret))
def Rp:bP:=b5 8 2 [.t 3] (M [cN 2 309002 0,cj 3 false] (M [a2 4 1 1,ba 5 4 2,(aE 6 (.iY (.t 4) [(.t 5)])),dY 7 6,F 3 7] .ret))
def Rq:bP:=b5 9 2 [.t 4] (M [cN 2 310002 0,cN 3 310003 1,cj 4 false] (M [ba 5 4 2,ba 6 4 3,(b0 7 r7 5 6),bo 8 .eql 7 0,F 4 8] .ret))
def Rr:bP:=b5 14 2 [.t 4,.t 5] (M [cN 2 313002 0,bq 4 0,cj 5 false] (M [ba 6 5 2,F 7 1,(b0 8 Gd 6 7),bx 9 0 8,bx 10 1 8,(b0 11 Oz 9 10),bx 12 0 11,bx 13 1 11,F 4 12,F 5 13] .ret))
def Rs:bP:=b5 28 4 [.t 5] (M [cN 4 314004 0,cj 5 false] (M [bg 6 0 4,a2 7 1 6,a2 8 1 1,bJ 9 .eql 7 8,F 10 9,⟨some 11,some (10,true),.c3 2 (.t 4)⟩,⟨some 12,some (10,true),.load 1 false (.t 11)⟩,⟨some 13,some (10,true),.load 1 false (.t 2)⟩,⟨some 14,some (10,true),.bin .eql (.t 12) (.t 13)⟩,gI 15 10 14,F 16 15,⟨some 17,some (16,true),.c3 3 (.t 4)⟩,⟨some 18,some (16,true),.load 1 false (.t 17)⟩,⟨some 19,some (16,true),.bin .gtr (.t 18) (.c (ao 0))⟩,gI 20 16 19,F 21 20,⟨some 22,some (21,true),.load 1 false (.t 3)⟩,⟨some 23,some (21,true),.c3 1 (.t 4)⟩,⟨some 24,some (21,true),.load 1 false (.t 23)⟩,⟨some 25,some (21,true),.call OT [(.t 22),(.t 24)]⟩,⟨some 26,some (21,true),.un .not (.t 25)⟩,gI 27 21 26,F 5 27] .ret))
def Rt:bP:=b5 17 3 [.t 6] (M [cN 5 372005 2,fa 6] (M [F 8 0,F 9 1,ba 10 3 5,(aE 11 (.build [.nil,.nil,.nil,.nil,.nil] [(0,1,(.t 8)),(1,1,(.t 9)),(2,3,(.t 10))])),(aE 7 (.alloc 372007 [.nil,.nil,.nil,.nil,.nil])),bu 5 7 11] (.seq (M [ba 12 5 7,(dg 13 Gc 12),dY 14 13] (aX 14 (M [fa 6] .ret) .skip)) (M [ba 15 5 7,(dg 16 Aa 15),F 6 16] .ret))))
abbrev qa:=List bd×bd
def KU (r:qa):List Data:=.X (r.1.map aH)::aH r.2
theorem C9 (f:bd):(aH f).length=4:=rfl
theorem alr (r:qa):(KU r).length=5:=rfl
theorem aat (f:bd):((aH f).map O.J).all O.one=true:=rfl
theorem l4:∀a b:bd,aH a=aH b->a=b:=by
 rintro⟨⟨s,l⟩,⟨s2,ab⟩⟩ ⟨⟨t,m⟩,⟨t2,cE⟩⟩ h;simp only[aH,bn,Data.int.injEq,Data.X.injEq,true_and,and_true] at h;obtain⟨rfl,D,rfl,G⟩:=h;rw[map_inj eR _ _ D,map_inj eR _ _ G]
def okF (f:bd):Prop:=f.1.2.length<=1000000/\f.2.2.length<=1000000
def ej (l:List bd):Prop:=o l<=1000000/\∀f∈l,okF f
def aau (r:qa):Prop:=ej r.1/\okF r.2
def Ru:=bU AP λ(s,l,s2,ab)=>cq (o l<=1000000/\o ab<=1000000) (.same (.bool (!cU ((s,l),(s2,ab)))))
@[go_sem] theorem als (s:Int)(l:List Int)(s2:Int)(ab:List Int)(E:(o l)<=1000000/\o ab<=1000000):Ru [.agg [.int .i64 s,.X (l.map Y),.int .i64 s2,.X (ab.map Y)]]=some (.same (.bool (!cU ((s,l),(s2,ab))))):=(b3 GS (s,l,s2,ab)).trans (cw E _)
theorem alu (T:br)(e4:T kh=aK sn)(s:Int)(l:List Int)(s2:Int)(ab:List Int)(E:(o l)<=1000000/\o ab<=1000000):WP T QZ (.same (.bool (!cU ((s,l),(s2,ab))))) [.J (.agg [.int .i64 s,.X (l.map Y),.int .i64 s2,.X (ab.map Y)])]:=by
 refine b4 ?_;simp only[QZ];obtain⟨bk,bp⟩:=E;refine aQ ?_;repeat' (intro h<;>simp only[h,go_sem,go_sem_proc,e4,bk,bp]<;>try refine al ?_ ?_)
def aav:=bU AP λ(s,l,s2,ab)=>cq (o l<=1000000/\o ab<=1000000) (.same (.bool (!cU ((s,l),(s2,ab))||decide (s<0))))
@[go_sem] theorem alv (s:Int)(l:List Int)(s2:Int)(ab:List Int)(E:(o l)<=1000000/\o ab<=1000000):aav [.agg [.int .i64 s,.X (l.map Y),.int .i64 s2,.X (ab.map Y)]]=some (.same (.bool (!cU ((s,l),(s2,ab))||decide (s<0)))):=(b3 GS (s,l,s2,ab)).trans (cw E _)
def Rv:=bU AP λ(s,l,s2,ab)=>cq (o l<=1000000/\o ab<=1000000) (.same (.bool (cU ((s,l),(s2,ab))&&decide (s>=0))))
@[go_sem] theorem azh (s:Int)(l:List Int)(s2:Int)(ab:List Int)(E:(o l)<=1000000/\o ab<=1000000):Rv [.agg [.int .i64 s,.X (l.map Y),.int .i64 s2,.X (ab.map Y)]]=some (.same (.bool (cU ((s,l),(s2,ab))&&decide (s>=0)))):=(b3 GS (s,l,s2,ab)).trans (cw E _)
theorem alw (T:br)(e4:T kh=aK sn)(s:Int)(l:List Int)(s2:Int)(ab:List Int)(E:(o l)<=1000000/\o ab<=1000000):WP T Re (.same (.bool (cU ((s,l),(s2,ab))&&decide (s>=0)))) [.J (.agg [.int .i64 s,.X (l.map Y),.int .i64 s2,.X (ab.map Y)])]:=by
 refine b4 ?_;simp only[Re];obtain⟨bk,bp⟩:=E;rcases U:cU ((s,l),(s2,ab))
 ·refine aQ ?_;repeat' (intro h<;>simp only[h,go_sem,go_sem_proc,e4,bk,bp,U]<;>try refine al ?_ ?_)
 ·refine aQ ?_;repeat' (intro h<;>simp only[h,go_sem,go_sem_proc,e4,bk,bp,U]<;>try refine al ?_ ?_)
abbrev Rw:Int×(List Int)×Int×(List Int)->List Data:=λ(s,l,s2,ab)=>[.agg [.int .i64 s,.X (l.map Y),.int .i64 s2,.X (ab.map Y)],.ptr [.fn tk []]]
def Rx:=bU Rw λ(s,l,s2,ab)=>cq (o l<=1000000/\o ab<=1000000) (.same (.bool (!(cU ((s,l),(s2,ab))&&decide (s>=0)))))
theorem alx:∀a b,Rw a=Rw b->a=b:=by
  rintro⟨s1,fK,Ay,Az⟩ ⟨s2,ab,AA,AB⟩ h;simp only[bn,Data.agg.injEq,Data.int.injEq,Data.X.injEq] at h;exact dV h.1.1.2 (dV (map_inj eR _ _ h.1.2.1) (dV h.1.2.2.1.2 (map_inj eR _ _ h.1.2.2.2.1)))
@[go_sem] theorem aly (s:Int)(l:List Int)(s2:Int)(ab:List Int)(E:(o l)<=1000000/\o ab<=1000000):Rx [.agg [.int .i64 s,.X (l.map Y),.int .i64 s2,.X (ab.map Y)],.ptr [.fn tk []]]=some (.same (.bool (!(cU ((s,l),(s2,ab))&&decide (s>=0))))):=(b3 alx (s,l,s2,ab)).trans (cw E _)
theorem alz (T:br)(alA:T tk=aK Rv)(s:Int)(l:List Int)(s2:Int)(ab:List Int)(E:(o l)<=1000000/\o ab<=1000000):WP T Rp (.same (.bool (!(cU ((s,l),(s2,ab))&&decide (s>=0))))) [.J (.agg [.int .i64 s,.X (l.map Y),.int .i64 s2,.X (ab.map Y)]),.J (.ptr [.fn tk []])]:=by
 refine b4 ?_;simp only[Rp];obtain⟨bk,bp⟩:=E;refine aQ ?_;repeat' (intro h<;>simp only[h,go_sem,go_sem_proc,alA,bk,bp]<;>try refine al ?_ ?_)
def k7 {α:Type}(p:α->Bool)(l:List α):Int:=match l.findIdx? p with
 |some i=>i
 |none => -1
theorem Ry {α:Type}{p:α->Bool}{l:List α}{i:Nat}(h:∀x∈l.take i,p x=false){x:α}(I:l[i]?=some x)(aG:p x=true):k7 p l=i:=by
 unfold k7
 have:l.findIdx? p=some i:=by
  rw[aaw];obtain⟨az,rfl⟩:=List.getElem?_eq_some_iff.1 I;refine⟨az,aG,λj ay=>?_⟩;have:=h l[j] (List.mem_iff_getElem?.2 ⟨j,by rw[List.getElem?_take_of_lt ay];exact bL _⟩);rw[this];decide
 rw[this]
theorem Rz {α:Type}{p:α->Bool}{l:List α}(h:∀x∈l,p x=false):k7 p l = -1:=by
 unfold k7;rw[aax.2 h]
theorem KV {α:Type}(p:α->Bool)(l:List α):decide (k7 p l>=0)=l.any p:=by
 unfold k7
 cases h:l.findIdx? p with
 |none =>
  have:=aax.1 h;have G:l.any p=false:=by rw[List.any_eq_false];intro x I;simp[this x I]
  rw[G];rfl
 |some i =>
  rw[aaw] at h;obtain⟨D,G,-⟩:=h;have ag:l.any p=true:=List.any_eq_true.2 ⟨_,s7 D,G⟩;rw[ag];exact hc (by simp)
def RA (f:bd):Bool:=!cU f
def nE (f:FuncId):bd->Bool:=if f=wj then λx => !cU x||decide (x.1.1<0) else if f=sc then λx => !(cU x&&decide (x.1.1>=0)) else RA
def Da (f:FuncId):List Data:=if f=sc then [.ptr [.fn tk []]] else []
@[go_sem] theorem alB:nE zV=RA:=by
 unfold nE;rw[aq (by decide),aq (by decide)]
@[go_sem] theorem aay:nE wj=λx => !cU x||decide (x.1.1<0):=by
 unfold nE;rw[aj rfl]
theorem aaz:nE sc=λx => !(cU x&&decide (x.1.1>=0)):=by
 unfold nE;rw[aq (by decide),aj rfl]
theorem RB {α:Type}{p:α->Bool}{l:List α}{i:Nat}(h:∀x∈l.take i,p x=false){x:α}(I:l[i]?=some x)(aG:p x=false):∀y∈l.take (i+1),p y=false:=by
 intro y ak;rw[fQ,I] at ak;simp only[Option.toList_some,List.mem_append,tx] at ak;rcases ak with ak|rfl
 ·exact h y ak
 ·exact aG
theorem ow {T:br}{c:e6}{K:fA->bz->Prop}{st:bz}(h:wp T c K st):wp T c (dd T K []) st:=by
 have:dd T K []=K:=by funext e st;cases e<;>rfl
 rwa [this]
theorem RC (T:br)(id:FuncId)(en:List Data)(a1:List Data->Option dF)(cG:T id=aK a1)(p:bd->Bool)(l:List bd)(ax:ej l)(e3:∀a b c d,o b<=1000000->(o d)<=1000000->a1 (.agg [.int .i64 a,.X (b.map Y),.int .i64 c,.X (d.map Y)]::en)=some (.same (.bool (p ((a,b),(c,d)))))):
  wp T Cy.body (uM Cy.res (.same (.int .i64 (k7 p l)))) ⟨nd [.J (.X (l.map aH)),.J (.fn id en)],emp⟩:=by
 obtain⟨ax,ff⟩:=ax;refine B5 ?_;simp only[Cy];simp only[go_sem,go_sem_proc,af];refine dw [0,1,7] [] (λ(i:Nat) tm mem=>i<=o l/\(∀x∈l.take i,p x=false)/\tm 8=.J (.int .i64 i)) (λi=>o l-i) 0 (by refine⟨fY _,by simp,rfl⟩) ?_;intro vs ms a7 aY;simp only[go_sem,go_sem_proc,af] at a7 aY;subst a7 aY;rintro i tm mem R hm ⟨Q,eE,de⟩;simp only[go_sem,go_sem_proc,bn] at R hm;obtain⟨au,D,cd⟩:=R;have fi:∀m:Mem,(en.map O.J).mapM (da 6 m)=some en:=λm=>ti (da 6 m) (λd=>rfl) en;rcases dG (i<o l) with az|cb
 ·have I:=bL az;obtain⟨r3,wG⟩:=ff _ (s7 az);have g7:=λh=>Ry (p:=p) eE I h;have ky:=λh=>RB (p:=p) eE I h;generalize l[i]=x at *;obtain⟨⟨aV,bG⟩,⟨cm,dj⟩⟩:=x;have kH:=e3 aV bG cm dj r3 wG;have kI:decide ((i:Int)<(o l:Int))=true:=dn;have hw:=eY (i:=i) (by omega);rcases ah:p ((aV,bG),(cm,dj))
  ·rw[ah] at kH;simp only[go_sem,go_sem_proc,cG,au,D,cd,de,I,kI,hw,kH,fi,aH,af,bb,hE];repeat' (first|refine al ?_ ?_|fail)<;>intro h<;>simp only[h,go_sem,go_sem_proc,cG,au,D,cd,de,I,kI,hw,kH,fi,aH,af,bb,hE]
   exact⟨i+1,by omega,by omega,ky ah,rfl⟩
  ·rw[ah] at kH;rw[g7 ah];simp only[go_sem,go_sem_proc,cG,au,D,cd,de,I,kI,hw,kH,fi,aH,af,bb,hE];repeat' (first|refine al ?_ ?_|fail)<;>intro h<;>simp only[h,go_sem,go_sem_proc,cG,au,D,cd,de,I,kI,hw,kH,fi,aH,af,bb,hE]
 ·have kI:decide ((i:Int)<(o l:Int))=false:=cY;obtain rfl:i=o l:=by omega
  rw[k4] at eE;rw[Rz eE];simp only[go_sem,go_sem_proc,au,D,cd,de,kI,af];repeat' (first|refine al ?_ ?_|fail)<;>intro h<;>simp only[h,go_sem,go_sem_proc,au,D,cd,de,kI,af]
def Db (f:FuncId):Prop:=f=zV\/(f=wj/\wj<900000)\/(f=sc/\sc<900000)
abbrev KW:(List bd)×FuncId->List Data:=λ(l,f)=>[.X (l.map aH),.fn f (Da f)]
def RD:=bU KW λ(l,f)=>cq (ej l/\Db f) (.same (.int .i64 (k7 (nE f) l)))
theorem aaA:∀a b,KW a=KW b->a=b:=by
  rintro⟨fK,f1⟩ ⟨ab,f2⟩ h;simp only[bn,Data.X.injEq,Data.fn.injEq] at h;exact dV (map_inj l4 _ _ h.1) h.2.1.1
@[go_sem] theorem azi (l:List bd)(f:FuncId)(E:ej l/\Db f):RD [.X (l.map aH),.fn f (Da f)]=some (.same (.int .i64 (k7 (nE f) l))):=(b3 aaA (l,f)).trans (cw E _)
theorem alC (T:br)(alD:T zV=aK Ru)(alE:wj<900000->T wj=aK aav)(alF:sc<900000->T sc=aK Rx)(l:List bd)(f:FuncId)(E:ej l/\Db f):WP T Cy (.same (.int .i64 (k7 (nE f) l))) [.J (.X (l.map aH)),.J (.fn f (Da f))]:=by
 refine b4 ?_;simp only[Cy];obtain⟨ax,aN⟩:=E;rcases aN with rfl|⟨rfl,Q⟩|⟨rfl,Q⟩
 ·rw[alB];exact ow (RC T _ _ _ alD RA l ax λa b c d D G=>als a b c d ⟨D,G⟩)
 ·rw[aay];exact ow (RC T _ _ _ (alE Q) (λx => !cU x||decide (x.1.1<0)) l ax λa b c d D G=>alv a b c d ⟨D,G⟩)
 ·rw[aaz];exact ow (RC T _ _ _ (alF Q) (λx => !(cU x&&decide (x.1.1>=0))) l ax λa b c d D G=>aly a b c d ⟨D,G⟩)
def KX:=bU KW λ(l,f)=>cq (ej l/\Db f) (.same (.bool (l.any (nE f))))
@[go_sem] theorem aaB (l:List bd)(f:FuncId)(E:ej l/\Db f):KX [.X (l.map aH),.fn f (Da f)]=some (.same (.bool (l.any (nE f)))):=(b3 aaA (l,f)).trans (cw E _)
theorem alG (T:br)(alH:T Oj=aK RD)(l:List bd)(f:FuncId)(E:ej l/\Db f):WP T Pr (.same (.bool (l.any (nE f)))) [.J (.X (l.map aH)),.J (.fn f (Da f))]:=by
 refine b4 ?_;simp only[Pr];rw[<-KV];refine aQ ?_;repeat' (intro h<;>simp only[h,go_sem,go_sem_proc,alH,E]<;>try refine al ?_ ?_)
@[go_sem] theorem azj (l:List bd)(h:ej l):KX [.X (l.map aH),.fn zV []]=some (.same (.bool (l.any (nE zV)))):=aaB l zV ⟨h,.inl rfl⟩
theorem KY {es:List (List Data)}(h:∀x∈es,Fit (.int .i64) x):∃l:List Int,es=l.map Y:=by
 obtain⟨l,e,-⟩:=FP (e:=Y) (good:=λ_=>True) λx I=>by
  have:=h x I;simp only[Fit] at this;obtain⟨n,rfl,-⟩:=this;exact⟨n,rfl,trivial⟩
 exact⟨l,e⟩
theorem alI {x:List Data}(h:Fits [.st [.int .i64,.X (.int .i64)],.st [.int .i64,.X (.int .i64)]] x):∃f:bd,x=aH f:=by
 simp only[Fit,Fits] at h;obtain⟨_,_,rfl,⟨_,_,rfl,⟨s,rfl,-⟩,_,_,rfl,⟨es,rfl,-,D⟩,rfl⟩,_,_,rfl,⟨_,_,rfl,⟨s2,rfl,-⟩,_,_,rfl,⟨aaC,rfl,-,G⟩,rfl⟩,rfl⟩:=h;obtain⟨l,rfl⟩:=KY λx I=>by simp only[Fit];exact D x I
 obtain⟨ab,rfl⟩:=KY λx I=>by simp only[Fit];exact G x I
 exact⟨((s,l),(s2,ab)),rfl⟩
theorem aaD {es:List (List Data)}(h:∀x∈es,Fit (.st [.st [.int .i64,.X (.int .i64)],.st [.int .i64,.X (.int .i64)]]) x):∃l:List bd,es=l.map aH:=by
 obtain⟨l,e,-⟩:=FP (e:=aH) (good:=λ_=>True) λx I=>by
  have:=h x I;unfold Fit at this;obtain⟨f,rfl⟩:=alI this;exact⟨f,rfl,trivial⟩
 exact⟨l,e⟩
def RE:bP:=b5 28 1 [.cell 2 2 true] (M [(aE 2 (.alloc 144002 [(ao 0),.nil]))] (.seq (M [F 6 0,bo 7 .eql 6 0] (aX 7 (M [(aE 8 (.build [(ao 0),.nil] [])),bu 2 2 8] .ret) .skip)) (M [bq 3 1] (.seq (M [F 9 0,bo 10 .lss 9 0] (aX 10 (.ops [(aE 3 (.ck (.c (.J (.int .i64 (-1))))))]) .skip)) (M [fa 4] (.seq (.block 0 (.ghost (.nT 4 144022 1) (.loop  (.seq (M [F 11 0,bo 12 .neq 11 0] (aX 12 .skip (.exit 0))) (.block 1 (M [F 13 0,bo 14 .rem 13 1048576,F 5 14] (.seq (M [F 15 5,bo 16 .lss 15 0] (aX 16 (.ops [F 17 5,(aE 18 (.un .neg (.t 17))),F 5 18]) .skip)) (M [F 19 4,F 20 5,(aE 21 (.fz 144021 false [(ao 0)] 1 1 [(0,1,(.t 20))])),(aE 22 (.app 144022 [(ao 0)] 8 (.t 19) (.t 21))),F 4 22] (.ops [F 23 0,bo 24 .quo 23 1048576,F 0 24]))))))))) (.seq (.ghost (.freeze 4) (.ops [F 25 3,F 26 4,(b0 27 mU 25 26),bu 2 2 27])) .ret)))))))
def RF:bP:=b5 60 1 [.t 2] (M [cN 1 162001 0,cj 2 false] (.seq (M [bq 3 0] (.block 0 (.loop  (.seq (M [F 5 3,bg 6 1 1,a2 7 1 6,cx 8 7,bJ 9 .lss 5 8] (aX 9 .skip (.exit 0))) (.seq (.block 1 (M [bg 12 1 1,a2 13 1 12,F 14 3,cC 15 1 13 14,a2 16 1 15,bo 17 .lss 16 0,F 18 17,⟨some 19,some (18,false),.c3 1 (.t 1)⟩,⟨some 20,some (18,false),.load 1 false (.t 19)⟩,⟨some 21,some (18,false),.ck (.t 3)⟩,⟨some 22,some (18,false),.jO 1 (.t 20) (.t 21)⟩,⟨some 23,some (18,false),.load 1 false (.t 22)⟩,⟨some 24,some (18,false),.bin .geq (.t 23) (.c (ao 1048576))⟩,cX 25 18 24] (aX 25 (M [cj 2 false] .ret) .skip))) (.ops [F 10 3,bo 11 .add 10 1,F 3 11])))))) (M [bg 26 1 1,a2 27 1 26,cx 28 27,F 4 28] (.seq (M [bg 29 0 1,a2 30 1 29,(aE 31 (.bin .lss (.t 30) (.c (.J (.int .i64 (-1)))))),F 32 31,⟨some 33,some (32,false),.c3 0 (.t 1)⟩,⟨some 34,some (32,false),.load 1 false (.t 33)⟩,⟨some 35,some (32,false),.bin .gtr (.t 34) (.c (ao 1))⟩,cX 36 32 35,F 37 36,⟨some 38,some (37,false),.ck (.t 4)⟩,⟨some 39,some (37,false),.bin .gtr (.t 38) (.c (ao 60))⟩,cX 40 37 39,F 41 40,⟨some 42,some (41,false),.ck (.t 4)⟩,⟨some 43,some (41,false),.bin .eql (.t 42) (.c (ao 0))⟩,⟨some 44,some (41,false),.c3 0 (.t 1)⟩,⟨some 45,some (41,false),.load 1 false (.t 44)⟩,⟨some 46,some (41,false),.bin .eql (.t 45) (.c (ao 0))⟩,⟨some 47,some (41,false),.beq true (.t 43) (.t 46)⟩,cX 48 41 47] (aX 48 (M [cj 2 false] .ret) .skip)) (M [F 49 4,bo 50 .eql 49 0,F 51 50,⟨some 52,some (51,false),.c3 1 (.t 1)⟩,⟨some 53,some (51,false),.load 1 false (.t 52)⟩,⟨some 54,some (51,false),.ck (.t 4)⟩,⟨some 55,some (51,false),.bin .sub (.t 54) (.c (ao 1))⟩,⟨some 56,some (51,false),.jO 1 (.t 53) (.t 55)⟩,⟨some 57,some (51,false),.load 1 false (.t 56)⟩,⟨some 58,some (51,false),.bin .neq (.t 57) (.c (ao 0))⟩,cX 59 51 58,F 2 59] .ret)))))
def RG:bP:=b5 13 1 [.cell 2 2 true] (M [cN 1 163001 0,(aE 2 (.alloc 163002 [(ao 0),.nil]))] (.seq (M [ba 3 2 1,(dg 4 jw 3),dY 5 4] (aX 5 (M [(aE 6 (.build [(ao 0),.nil] [])),bu 2 2 6] .ret) .skip)) (M [bg 7 0 1,a2 8 1 7,(aE 9 (.un .neg (.t 8))),bg 10 1 1,a2 11 1 10,(b0 12 mU 9 11),bu 2 2 12] .ret)))
def RH:bP:=b5 36 2 [.cell 4 2 true,.t 5] (M [cN 2 164002 0,cN 3 164003 1,(aE 4 (.alloc 164004 [(ao 0),.nil])),bq 5 0] (.seq (M [ba 10 2 2,(dg 11 jw 10),dY 12 11,F 13 12,⟨some 14,some (13,false),.load 2 true (.t 3)⟩,⟨some 15,some (13,false),.call jw [(.t 14)]⟩,⟨some 16,some (13,false),.un .not (.t 15)⟩,cX 17 13 16] (aX 17 (M [(aE 18 (.build [(ao 0),.nil] [])),bu 2 4 18,bq 5 1] .ret) .skip)) (M [bg 19 1 2,a2 20 1 19,F 6 20] (M [bg 21 1 3,a2 22 1 21,F 7 22] (.seq (.block 0 (.loop  (.seq (M [F 23 7,cx 24 23,bo 25 .gtr 24 0] (aX 25 .skip (.exit 0))) (.block 1 (M [F 27 6,F 28 7,(b0 29 F3 27 28),F 26 29,bx 30 0 26,bx 31 1 26,F 8 30,F 9 31] (M [F 32 7,F 6 32] (.ops [F 33 9,F 7 33]))))))) (M [F 34 6,(aE 35 (.call mU [(.c (ao 1)),(.t 34)])),bu 2 4 35,bq 5 0] .ret))))))
def RI:bP:=b5 65 2 [.cell 4 2 true,.cell 5 2 true,.t 6] (M [cN 2 165002 0,cN 3 165003 1,(aE 4 (.alloc 165004 [(ao 0),.nil])),(aE 5 (.alloc 165005 [(ao 0),.nil])),bq 6 0] (.seq (M [ba 9 2 2,(dg 10 jw 9),dY 11 10,F 12 11,⟨some 13,some (12,false),.load 2 true (.t 3)⟩,⟨some 14,some (12,false),.call jw [(.t 13)]⟩,⟨some 15,some (12,false),.un .not (.t 14)⟩,cX 16 12 15] (aX 16 (M [(aE 17 (.build [(ao 0),.nil] [])),(aE 18 (.build [(ao 0),.nil] [])),bu 2 4 17,bu 2 5 18,bq 6 1] .ret) .skip)) (.seq (M [bg 19 0 3,a2 20 1 19,bo 21 .eql 20 0] (aX 21 (M [(aE 22 (.build [(ao 0),.nil] [])),(aE 23 (.build [(ao 0),.nil] [])),bu 2 4 22,bu 2 5 23,bq 6 15] .ret) .skip)) (M [bg 25 1 2,a2 26 1 25,bg 27 1 3,a2 28 1 27,(b0 29 F3 26 28),F 24 29,bx 30 0 24,bx 31 1 24,F 7 30,F 8 31] (.seq (M [bg 32 0 2,a2 33 1 32,bg 34 0 3,a2 35 1 34,bJ 36 .mul 33 35,bo 37 .geq 36 0,F 38 37,⟨some 39,some (38,false),.ck (.t 8)⟩,⟨some 40,some (38,false),.len (.t 39)⟩,⟨some 41,some (38,false),.bin .eql (.t 40) (.c (ao 0))⟩,cX 42 38 41] (aX 42 (eS [bg 43 0 2,a2 44 1 43,bg 45 0 3,a2 46 1 45,bJ 47 .mul 44 46,F 48 7,(b0 49 mU 47 48),bg 50 0 2,a2 51 1 50,F 52 8,(b0 53 mU 51 52),bu 2 4 49,bu 2 5 53,bq 6 0] Gk .ret) .skip)) (eS [F 54 7,(aE 55 (.fz 165055 false [(ao 0)] 1 1 [(0,1,(.c (ao 1)))])),(b0 56 F4 54 55),(aE 57 (.call mU [(.c (.J (.int .i64 (-1)))),(.t 56)])),bg 58 0 3,a2 59 1 58,bg 60 1 3,a2 61 1 60,F 62 8,(b0 63 xU 61 62),(b0 64 mU 59 63),bu 2 4 57,bu 2 5 64,bq 6 0] Gk .ret))))))
def RJ:bP:=b5 15 2 [.cell 4 2 true] (M [(aE 4 (.alloc 166004 [(ao 0),.nil]))] (M [F 6 1,(dg 7 qV 6),F 5 7] (.seq (M [F 8 5,cx 9 8,bo 10 .eql 9 0] (aX 10 (M [(aE 11 (.build [(ao 0),.nil] [])),bu 2 4 11] .ret) .skip)) (M [F 12 0,F 13 5,(aE 14 (.build [(ao 0),.nil] [(0,1,(.t 12)),(1,1,(.t 13))])),bu 2 4 14] .ret))))
def Hc:bP:=b5 60 2 [.t 4,.t 5] (M [fa 4,fa 5] (M [F 12 0,cx 13 12,(aE 14 (.mb 180014 [(ao 0)] 8 (.t 13) (.t 13))),F 6 14] (M [fa 7] (.seq (M [F 15 0,cx 16 15,bo 17 .sub 16 1,F 8 17] (.block 0 (.loop  (.seq (M [F 18 8,bo 19 .geq 18 0] (aX 19 .skip (.exit 0))) (.seq (.block 1 (M [F 22 0,F 23 8,cC 24 1 22 23,a2 25 1 24,(aE 26 (.fz 180026 true [(ao 0)] 1 1 [(0,1,(.t 25))])),F 27 7,(aE 28 (.app 180028 [(ao 0)] 8 (.t 26) (.t 27))),(dg 29 qV 28),F 7 29] (M [bq 9 0] (M [bq 10 1048576] (.seq (.block 2 (.loop  (.seq (M [F 30 10,F 31 9,bJ 32 .sub 30 31,bo 33 .gtr 32 1] (aX 33 .skip (.exit 2))) (.block 3 (M [F 34 9,F 35 10,bJ 36 .add 34 35,bo 37 .quo 36 2,F 11 37] (M [F 38 7,F 39 1,F 40 11,(aE 41 (.fz 180041 false [(ao 0)] 1 1 [(0,1,(.t 40))])),(b0 42 z2 39 41),(b0 43 xV 38 42)] (aX 43 (.ops [F 44 11,F 10 44]) (.ops [F 45 11,F 9 45])))))))) (M [F 46 6,F 47 8,F 48 9,cC 49 1 46 47,bu 1 49 48] (.ops [F 50 7,F 51 1,F 52 9,(aE 53 (.fz 180053 false [(ao 0)] 1 1 [(0,1,(.t 52))])),(dg 54 qV 53),(b0 55 z2 51 54),(b0 56 xU 50 55),F 7 56]))))))) (.ops [F 20 8,bo 21 .sub 20 1,F 8 21])))))) (M [F 57 6,(dg 58 qV 57),F 59 7,F 4 58,F 5 59] .ret)))))
def RK:bP:=b5 43 2 [.t 4] (M [fa 4] (M [fa 5] (M [bq 6 0] (.seq (M [bq 7 0] (.block 0 (.ghost (.nT 5 181038 1) (.loop  (.seq (M [F 9 7,F 10 0,cx 11 10,bJ 12 .lss 9 11,F 13 12,⟨some 14,some (13,false),.ck (.t 7)⟩,⟨some 15,some (13,false),.ck (.t 1)⟩,⟨some 16,some (13,false),.len (.t 15)⟩,⟨some 17,some (13,false),.bin .lss (.t 14) (.t 16)⟩,cX 18 13 17,F 19 18,⟨some 20,some (19,false),.ck (.t 6)⟩,⟨some 21,some (19,false),.bin .gtr (.t 20) (.c (ao 0))⟩,cX 22 19 21] (aX 22 .skip (.exit 0))) (.seq (.block 1 (M [F 25 0,F 26 7,(b0 27 qW 25 26),F 28 1,F 29 7,(b0 30 qW 28 29),bJ 31 .add 27 30,F 32 6,bJ 33 .add 31 32,F 8 33] (M [F 34 5,F 35 8,bo 36 .rem 35 1048576,(aE 37 (.fz 181037 false [(ao 0)] 1 1 [(0,1,(.t 36))])),(aE 38 (.app 181038 [(ao 0)] 8 (.t 34) (.t 37))),F 5 38] (.ops [F 39 8,bo 40 .quo 39 1048576,F 6 40])))) (.ops [F 23 7,bo 24 .add 23 1,F 7 24]))))))) (M [F 41 5,(dg 42 qV 41),F 4 42] .ret)))))
def RL:bP:=b5 35 2 [.t 4] (M [fa 4] (M [fa 5] (M [bq 6 0] (.seq (M [bq 7 0] (.block 0 (.ghost (.nT 5 182032 1) (.loop  (.seq (M [F 9 7,F 10 0,cx 11 10,bJ 12 .lss 9 11] (aX 12 .skip (.exit 0))) (.seq (.block 1 (eS [F 15 0,F 16 7,cC 17 1 15 16,a2 18 1 17,F 19 1,F 20 7,(b0 21 qW 19 20),bJ 22 .sub 18 21,F 23 6,bJ 24 .sub 22 23,F 8 24] O3 (M [bq 6 0] (.seq (M [F 25 8,bo 26 .lss 25 0] (aX 26 (M [F 27 8,bo 28 .add 27 1048576,F 8 28] (.ops [bq 6 1])) .skip)) (.ops [F 29 5,F 30 8,(aE 31 (.fz 182031 false [(ao 0)] 1 1 [(0,1,(.t 30))])),(aE 32 (.app 182032 [(ao 0)] 8 (.t 29) (.t 31))),F 5 32]))))) (.ops [F 13 7,bo 14 .add 13 1,F 7 14]))))))) (M [F 33 5,(dg 34 qV 33),F 4 34] .ret)))))
def RM:bP:=b5 23 1 [.t 2] (M [fa 2] (M [F 4 0,cx 5 4,F 3 5] (.seq (.block 0 (.loop  (.seq (M [F 6 3,bo 7 .gtr 6 0,F 8 7,⟨some 9,some (8,true),.ck (.t 0)⟩,⟨some 10,some (8,true),.ck (.t 3)⟩,⟨some 11,some (8,true),.bin .sub (.t 10) (.c (ao 1))⟩,⟨some 12,some (8,true),.jO 1 (.t 9) (.t 11)⟩,⟨some 13,some (8,true),.load 1 false (.t 12)⟩,⟨some 14,some (8,true),.bin .eql (.t 13) (.c (ao 0))⟩,gI 15 8 14] (aX 15 .skip (.exit 0))) (.block 1 (.ops [F 16 3,bo 17 .sub 16 1,F 3 17]))))) (M [(aE 18 (.fz 183018 true [] 1 0 [])),F 19 0,F 20 3,(aE 21 (.m9 1 (.t 19) none (some (.t 20)) none)),(aE 22 (.app 183022 [(ao 0)] 8 (.t 18) (.t 21))),F 2 22] .ret))))
def RN:bP:=b5 30 2 [.t 4] (M [cj 4 false] (.seq (M [F 6 0,cx 7 6,F 8 1,cx 9 8,(aE 10 (.jP true (.t 7) (.t 9))),bo 11 .sub 10 1,F 5 11] (.block 0 (.loop  (.seq (M [F 12 5,bo 13 .geq 12 0] (aX 13 .skip (.exit 0))) (.seq (.block 1 (M [F 16 0,F 17 5,(b0 18 qW 16 17),F 19 1,F 20 5,(b0 21 qW 19 20),bJ 22 .neq 18 21] (aX 22 (M [F 23 0,F 24 5,(b0 25 qW 23 24),F 26 1,F 27 5,(b0 28 qW 26 27),bJ 29 .lss 25 28,F 4 29] .ret) .skip))) (.ops [F 14 5,bo 15 .sub 14 1,F 5 15])))))) (M [cj 4 false] .ret)))
def RO:bP:=b5 60 2 [.t 4] (M [fa 4] (M [F 10 0,cx 11 10,F 12 1,cx 13 12,bJ 14 .add 11 13,(aE 15 (.mb 186015 [(ao 0)] 8 (.t 14) (.t 14))),F 5 15] (.seq (M [bq 6 0] (.block 0 (.loop  (.seq (M [F 16 6,F 17 0,cx 18 17,bJ 19 .lss 16 18] (aX 19 .skip (.exit 0))) (.seq (.block 1 (M [bq 7 0] (M [bq 8 0] (.block 2 (.loop  (.seq (M [F 22 8,F 23 1,cx 24 23,bJ 25 .lss 22 24,F 26 25,⟨some 27,some (26,false),.ck (.t 7)⟩,⟨some 28,some (26,false),.bin .gtr (.t 27) (.c (ao 0))⟩,cX 29 26 28] (aX 29 .skip (.exit 2))) (.seq (.block 3 (eS [F 32 5,F 33 6,F 34 8,bJ 35 .add 33 34,cC 36 1 32 35,a2 37 1 36,F 38 0,F 39 6,cC 40 1 38 39,a2 41 1 40,F 42 1,F 43 8,(b0 44 qW 42 43),bJ 45 .mul 41 44,bJ 46 .add 37 45,F 47 7,bJ 48 .add 46 47,F 9 48] ajb (M [F 49 5,F 50 6,F 51 8,bJ 52 .add 50 51,F 53 9,bo 54 .rem 53 1048576,cC 55 1 49 52,bu 1 55 54] (.ops [F 56 9,bo 57 .quo 56 1048576,F 7 57])))) (.ops [F 30 8,bo 31 .add 30 1,F 8 31])))))))) (.ops [F 20 6,bo 21 .add 20 1,F 6 21])))))) (M [F 58 5,(dg 59 qV 58),F 4 59] .ret))))
def RP:bP:=b5 13 2 [.t 4] (M [bq 4 0] (.seq (M [F 5 1,F 6 0,cx 7 6,bJ 8 .lss 5 7] (aX 8 (M [F 9 0,F 10 1,cC 11 1 9 10,a2 12 1 11,F 4 12] .ret) .skip)) (M [bq 4 0] .ret)))
def RQ:bP:=b5 29 2 [.cell 4 2 true,.t 5] (M [cN 2 202002 0,cN 3 202003 1,(aE 4 (.alloc 202004 [(ao 0),.nil])),bq 5 0] (.seq (M [ba 6 2 2,(dg 7 jw 6),dY 8 7,F 9 8,⟨some 10,some (9,false),.load 2 true (.t 3)⟩,⟨some 11,some (9,false),.call jw [(.t 10)]⟩,⟨some 12,some (9,false),.un .not (.t 11)⟩,cX 13 9 12] (aX 13 (M [(aE 14 (.build [(ao 0),.nil] [])),bu 2 4 14,bq 5 1] .ret) .skip)) (eS [bg 15 0 2,a2 16 1 15,bg 17 0 3,a2 18 1 17,bJ 19 .mul 16 18,bg 20 1 2,a2 21 1 20,bg 22 1 3,a2 23 1 22,(b0 24 z2 21 23),(b0 25 mU 19 24),(dg 26 z6 25),bx 27 0 26,bx 28 1 26,bu 2 4 27,F 5 28] Gl .ret)))
def RR:bP:=b5 21 2 [.cell 4 2 true,.t 5] (M [cN 2 203002 0,cN 3 203003 1,(aE 4 (.alloc 203004 [(ao 0),.nil])),bq 5 0] (.seq (M [ba 8 2 3,(dg 9 jw 8),dY 10 9] (aX 10 (M [(aE 11 (.build [(ao 0),.nil] [])),bu 2 4 11,bq 5 1] .ret) .skip)) (eS [ba 13 2 2,ba 14 2 3,(dg 15 Cn 14),(b0 16 F6 13 15),F 12 16,bx 17 0 12,bx 18 1 12,(aE 6 (.alloc 203006 [(ao 0),.nil])),bu 2 6 17,F 7 18] [[],[],[],[],[],[],[],[0,1],[],[]] (M [ba 19 2 6,F 20 7,bu 2 4 19,F 5 20] .ret))))
def RS:bP:=b5 37 2 [.t 4] (M [cN 2 205002 0,cN 3 205003 1,bq 4 0] (.seq (M [ba 5 2 2,(dg 6 jw 5),dY 7 6,F 8 7,⟨some 9,some (8,false),.load 2 true (.t 3)⟩,⟨some 10,some (8,false),.call jw [(.t 9)]⟩,⟨some 11,some (8,false),.un .not (.t 10)⟩,cX 12 8 11,F 13 12,⟨some 14,some (13,false),.load 2 true (.t 2)⟩,⟨some 15,some (13,false),.load 2 true (.t 3)⟩,⟨some 16,some (13,false),.call Oy [(.t 14),(.t 15)]⟩,cX 17 13 16] (aX 17 (M [bq 4 0] .ret) .skip)) (.seq (M [bg 18 0 2,a2 19 1 18,bg 20 0 3,a2 21 1 20,bJ 22 .neq 19 21] (aX 22 (.seq (M [bg 23 0 2,a2 24 1 23,bg 25 0 3,a2 26 1 25,bJ 27 .lss 24 26] (aX 27 (M [(aE 4 (.ck (.c (.J (.int .i64 (-1))))))] .ret) .skip)) (M [bq 4 1] .ret)) .skip)) (.seq (eS [bg 28 1 2,a2 29 1 28,bg 30 1 3,a2 31 1 30,(b0 32 xV 29 31),bg 33 0 2,a2 34 1 33,bo 35 .gtr 34 0,(aE 36 (.beq false (.t 32) (.t 35)))] wk (aX 36 (M [(aE 4 (.ck (.c (.J (.int .i64 (-1))))))] .ret) .skip)) (M [bq 4 1] .ret)))))
def RT:bP:=b5 71 2 [.cell 4 2 true,.t 5] (M [cN 2 206002 0,cN 3 206003 1,(aE 4 (.alloc 206004 [(ao 0),.nil])),bq 5 0] (.seq (M [ba 6 2 2,(dg 7 jw 6),dY 8 7,F 9 8,⟨some 10,some (9,false),.load 2 true (.t 3)⟩,⟨some 11,some (9,false),.call jw [(.t 10)]⟩,⟨some 12,some (9,false),.un .not (.t 11)⟩,cX 13 9 12] (aX 13 (M [(aE 14 (.build [(ao 0),.nil] [])),bu 2 4 14,bq 5 1] .ret) .skip)) (.seq (M [bg 15 0 2,a2 16 1 15,bo 17 .eql 16 0,F 18 17,⟨some 19,some (18,false),.c3 0 (.t 3)⟩,⟨some 20,some (18,false),.load 1 false (.t 19)⟩,⟨some 21,some (18,false),.bin .eql (.t 20) (.c (ao 0))⟩,cX 22 18 21,F 23 22,⟨some 24,some (23,false),.c3 0 (.t 2)⟩,⟨some 25,some (23,false),.load 1 false (.t 24)⟩,⟨some 26,some (23,false),.c3 0 (.t 3)⟩,⟨some 27,some (23,false),.load 1 false (.t 26)⟩,⟨some 28,some (23,false),.bin .eql (.t 25) (.t 27)⟩,cX 29 23 28] (aX 29 (eS [bg 30 0 2,a2 31 1 30,bg 32 0 3,a2 33 1 32,bJ 34 .or 31 33,bg 35 1 2,a2 36 1 35,bg 37 1 3,a2 38 1 37,(b0 39 F4 36 38),(b0 40 mU 34 39),(dg 41 z6 40),bx 42 0 41,bx 43 1 41,bu 2 4 42,F 5 43] Gl .ret) .skip)) (.seq (M [bg 44 1 2,a2 45 1 44,bg 46 1 3,a2 47 1 46,(b0 48 xV 45 47)] (aX 48 (eS [bg 49 0 3,a2 50 1 49,bg 51 1 3,a2 52 1 51,bg 53 1 2,a2 54 1 53,(b0 55 xU 52 54),(b0 56 mU 50 55),(dg 57 z6 56),bx 58 0 57,bx 59 1 57,bu 2 4 58,F 5 59] JZ .ret) .skip)) (eS [bg 60 0 2,a2 61 1 60,bg 62 1 2,a2 63 1 62,bg 64 1 3,a2 65 1 64,(b0 66 xU 63 65),(b0 67 mU 61 66),(dg 68 z6 67),bx 69 0 68,bx 70 1 68,bu 2 4 69,F 5 70] JZ .ret)))))
def RU:bP:=b5 10 1 [.cell 2 2 true,.t 3] (M [cN 1 209001 0,(aE 2 (.alloc 209002 [(ao 0),.nil])),bq 3 0] (.seq (M [bg 4 1 1,a2 5 1 4,cx 6 5,bo 7 .gtr 6 60] (aX 7 (M [(aE 8 (.build [(ao 0),.nil] [])),bu 2 2 8,bq 3 6] .ret) .skip)) (M [ba 9 2 1,bu 2 2 9,bq 3 0] .ret)))
def RV:bP:=b5 38 2 [.t 4] (M [cN 2 210002 0,cN 3 210003 1,cj 4 false] (.seq (M [bg 6 0 2,a2 7 1 6,bg 8 0 3,a2 9 1 8,bJ 10 .neq 7 9,F 11 10,⟨some 12,some (11,false),.c3 1 (.t 2)⟩,⟨some 13,some (11,false),.load 1 false (.t 12)⟩,⟨some 14,some (11,false),.len (.t 13)⟩,⟨some 15,some (11,false),.c3 1 (.t 3)⟩,⟨some 16,some (11,false),.load 1 false (.t 15)⟩,⟨some 17,some (11,false),.len (.t 16)⟩,⟨some 18,some (11,false),.bin .neq (.t 14) (.t 17)⟩,cX 19 11 18] (aX 19 (M [cj 4 false] .ret) .skip)) (.seq (M [bq 5 0] (.block 0 (.loop  (.seq (M [F 20 5,bg 21 1 2,a2 22 1 21,cx 23 22,bJ 24 .lss 20 23] (aX 24 .skip (.exit 0))) (.seq (.block 1 (eS [bg 27 1 2,a2 28 1 27,F 29 5,cC 30 1 28 29,a2 31 1 30,bg 32 1 3,a2 33 1 32,F 34 5,cC 35 1 33 34,a2 36 1 35,bJ 37 .neq 31 36] O3 (aX 37 (M [cj 4 false] .ret) .skip))) (.ops [F 25 5,bo 26 .add 25 1,F 5 26])))))) (M [cj 4 true] .ret))))
theorem Dc (l:List Int):o0 (.own 1 (l.map Y))=some (.own 1 (l.map Y)):=by
 refine aj ?_;rw[List.all_eq_true];intro e he;obtain⟨d,-,rfl⟩:=List.mem_map.1 he;simp[Y,scalar]
theorem tG (n k g sz off len:Nat):da n emp (.ref k g sz off len)=none:=by cases n<;>rfl
def yt:=bU Cz λ(l:List Int)=>cq (o l<=1000000) (.own 1 ((e9 l).map Y))
@[go_sem] theorem AS (l:List Int)(E:(o l)<=1000000):yt [.X (l.map Y)]=some (.own 1 ((e9 l).map Y)):=(b3 J3 l).trans (cw E _)
theorem alJ (T:br)  (l:List Int) (E:(o l)<=1000000):WP T RM (.own 1 ((e9 l).map Y)) [.J (.X (l.map Y))]:=by
 refine b4 ?_;simp only[RM];have qI:((l.map Y).all λe=>o e==1)=true:=by simp[Y]
 refine aQ ?_;repeat' (intro h<;>simp only[h,go_sem,go_sem_proc,af]<;>try refine al ?_ ?_)
 refine dw [0] [] (λ(n:Nat) tm mem=>n<=o l/\e9 l=e9 (l.take n)/\tm 3=.J (.int .i64 n)/\mem 183018=none) (λn=>n) (o l) (by refine⟨cA _,by simp,by simp[go_sem],rfl⟩) ?_;intro vs ms a7 aY;simp only[go_sem,go_sem_proc,af] at a7 aY;subst a7 aY;rintro n tm mem R-⟨aL,bV,ag,RW⟩;simp only[go_sem,go_sem_proc,bn] at R;have au:=R
 have ev:∀ar:List Int,o ar<=(o l)->pO 183018 0 1 0 8 (o ar) ((ar.map Y).flatten.map .J) (some (0,[]))=some (.ref 183018 1 1 0 (o ar),some (183018,1,bK Y ar)):=by
  intro ar bM;have:=FJ fR o5 183018 0 8 [] ar (by simp;omega) (by simp;omega)
  simpa [bK] using this
 have jq:∀(ar:List Int) (m:Mem),m 183018=some (1,bK Y ar)->te 1 m (.ref 183018 1 1 0 (o ar))=some (ar.map Y):=by
  intro ar m hm;have:=Y4 hm (cA _);rwa [du (cA _)] at this
 have alK:∀ar:List Int,((ar.map Y).all λe=>o e==1)=true:=λar=>by simp[Y]
 rcases n with _|n
 ·have D:=ev [] (by simp);have bM:=jq [];simp only[cM,aaE,mj] at D bM;refine aQ ?_;repeat' (intro h<;>simp only[h,go_sem,go_sem_proc,au,ag,RW,qI,D,jT,ki,show ¬ ((0:Int)>0) by omega,decide_false,af,show (0:Int).toNat=0 from rfl,show (0:Int)<=0 by omega,fY,List.take_zero,cM,mj]<;>try refine al ?_ ?_)
  rw[bM _ (by simp[bI]),bV];simp[e9]
 ·have hw:IntKind.i64.wrap (((n+1:Nat):Int)-1)=(n:Int):=by rw[eQ _];omega
  have I:l[n]?=some l[n]:=bL (by omega);have hT:((n+1:Nat):Int)>0:=by omega
  have hle:n+1<=o l:=aL
  by_cases a8:l[n]=0
  ·refine aQ ?_;repeat' (intro h<;>simp only[h,go_sem,go_sem_proc,au,ag,hw,I,a8,hT,af,bb,decide_true,Y,beq_self_eq_true,bn]<;>try refine al ?_ ?_)
   exact⟨n,by omega,by omega,by rw[bV,Py l n (by omega) a8],rfl,RW⟩
  ·have tp:(l[n]==0)=false:=by simpa using a8
   have D:=ev (l.take (n+1)) (by rw[gO];omega);rw[gO,mi hle,yu] at D;have bp:(List.take (n+1) (l.map Y)).length=n+1:=by rw[gO,af];omega
   have aaF:=alK (l.take (n+1));rw[yu] at aaF;refine aQ ?_;repeat' (intro h<;>simp only[h,go_sem,go_sem_proc,au,ag,RW,hw,I,tp,hT,qI,aaF,hle,D,bp,Y,af,bb,decide_true,bn,show (0:Int)<=((n+1:Nat):Int) by omega,nt,fY]<;>try refine al ?_ ?_)
   have bM:=jq (l.take (n+1)) _ (show bI (bI mem 183018 0 []) 183018 1 (bK Y (List.take (n+1) l)) 183018=_ by simp[bI])
   rw[gO,mi hle] at bM;rw[bM,bV,Pz l n (by omega) a8]
abbrev RX:(List Int)×Nat->List Data:=λ(l,i)=>[.X (l.map Y),.int .i64 i]
def Dd:=bU RX λ(l,i)=>cq (o l<=1000000) (.same (.int .i64 (l.getD i 0)))
theorem alL:∀a b,RX a=RX b->a=b:=by
  rintro⟨fK,i1⟩ ⟨ab,i2⟩ h;simp only[bn,Data.X.injEq,Data.int.injEq] at h;exact dV (map_inj eR _ _ h.1) (by have:=h.2.1.2;dsimp only;omega)
@[go_sem] theorem aaG (l:List Int)(i:Nat)(E:(o l)<=1000000):Dd [.X (l.map Y),.int .i64 i]=some (.same (.int .i64 (l.getD i 0))):=(b3 alL (l,i)).trans (cw E _)
theorem alM (T:br)  (l:List Int) (i:Nat) (E:(o l)<=1000000):WP T RP (.same (.int .i64 (l.getD i 0))) [.J (.X (l.map Y)),.J (.int .i64 i)]:=by
 refine b4 ?_;simp only[RP];rcases h1 i (o l) with az|cb
 ·have I:=bL az;have ae:decide ((i:Int)<(o l:Int))=true:=dn;have bw:l.getD i 0=l[i]:=by rw[fP,I];rfl
  rw[bw];refine aQ ?_;repeat' (intro h<;>simp only[h,go_sem,go_sem_proc,I,ae,Y,af,bb]<;>try refine al ?_ ?_)
 ·have ae:decide ((i:Int)<(o l:Int))=false:=cY;have bw:l.getD i 0=0:=by rw[fP,nh cb];rfl
  rw[bw];refine aQ ?_;repeat' (intro h<;>simp only[h,go_sem,go_sem_proc,ae,af]<;>try refine al ?_ ?_)
theorem De (n i:Nat):(aD n).getD i 0=((n/1048576^i%1048576:Nat):Int):=by
 induction i generalizing n with
 |zero =>
  rcases jo n with h|h
  ·subst h;rfl
  ·rw[r5 h,Nat.pow_zero,Nat.div_one];rfl
 |succ i aA =>
  rcases jo n with h|h
  ·subst h;rw[Qv];rfl
  ·rw[r5 h];show (aD (n/1048576)).getD i 0=_;rw[aA,aaH,<-Nat.pow_succ']
theorem Df (n i:Nat):n/1048576^i=n/1048576^i%1048576+1048576*(n/1048576^(i+1)):=by
 rw[r6,<-aaH];omega
theorem yv {n k:Nat}(h:(aD n).length<=k):n/1048576^k=0:=Nat.div_eq_of_lt (fC.1 h)
def Dg:=bU sf λ(x,y)=>cq ((aD x).length<=100000/\(aD y).length<=100000) (.same (.bool (decide (x<y))))
@[go_sem] theorem RY (x:Nat)(y:Nat)(E:(aD x).length<=100000/\(aD y).length<=100000):Dg [bW x,bW y]=some (.same (.bool (decide (x<y)))):=(b3 uU (x,y)).trans (cw E _)
theorem alN (T:br)(fH:T qW=aK Dd)(x:Nat)(y:Nat)(E:(aD x).length<=100000/\(aD y).length<=100000):WP T RN (.same (.bool (decide (x<y)))) [.J (bW x),.J (bW y)]:=by
 refine b4 ?_;simp only[RN];obtain⟨I,ak⟩:=E;have wE:∃bS:Nat,bS=max (aD x).length (aD y).length:=⟨_,rfl⟩;obtain⟨bS,wE⟩:=wE;have hq:(if ((aD y).length:Int)>((aD x).length:Int) then ((aD y).length:Int) else ((aD x).length:Int))=(bS:Int):=by split<;>omega
 have yf:IntKind.i64.wrap ((bS:Int)-1)=(bS:Int)-1:=wrap64 _ (by omega) (by omega);have k2:(aD x).length<=1000000:=by omega
 have iM:(aD y).length<=1000000:=by omega
 simp only[go_sem,go_sem_proc,fH,bW,af,hq,yf];refine dw [0,1] [] (λ(i:Nat) tm mem=>i<=bS/\x/1048576^i=y/1048576^i/\tm 5=.J (.int .i64 ((i:Int)-1))) (λi=>i) bS (by refine⟨cA _,?_,rfl⟩;rw[yv (by omega),yv (by omega)]) ?_;intro vs ms a7 aY;simp only[go_sem,go_sem_proc,fH,bW] at a7 aY;subst a7 aY;rintro i tm mem R-⟨Q,he,bs⟩;simp only[go_sem,go_sem_proc,fH,bn] at R;obtain⟨au,D⟩:=R;rcases i with _|i
 ·have gw:x=y:=by simpa using he
  have az:decide (x<y)=false:=cY;rw[az];simp only[go_sem,go_sem_proc,fH,au,D,bs,jT,ki,show ¬ ((0:Int)-1>=0) by omega,decide_false]
  repeat' (first|refine al ?_ ?_|fail)<;>intro h<;>simp only[h,go_sem,go_sem_proc,fH,au,D,bs,jT,ki,show ¬ ((0:Int)-1>=0) by omega,decide_false]
 ·have hw:((i+1:Nat):Int)-1=(i:Int):=by omega
  have cb:decide ((i:Int)>=0)=true:=dn;have aw:=Df x i;have aB:=Df y i;rw[he] at aw;have fL:IntKind.i64.wrap ((i:Int)-1)=(i:Int)-1:=wrap64 _ (by omega) (by omega);have dh:=De x i;have cR:=De y i;have c5:=oj (x/1048576^i) (show 0<1048576 by omega);have eg:=oj (y/1048576^i) (show 0<1048576 by omega);have bk:x/1048576^i<y/1048576^i->x<y:=λh=>aaI h;have bp:y/1048576^i<x/1048576^i->y<x:=λh=>aaI h;generalize p4:x/1048576^i=dR at *;generalize wJ:y/1048576^i=fs at *;generalize y/1048576^(i+1)=Z at *;generalize dR%1048576=a at *;generalize fs%1048576=b at *;rcases Nat.lt_trichotomy a b with h|h|h
  ·have bZ:((a:Int)==(b:Int))=false:=by simp;omega
   have wS:decide ((a:Int)<(b:Int))=decide (x<y):=by rw[hc (show (a:Int)<(b:Int) by omega),hc (bk (by omega))]
   simp only[go_sem,go_sem_proc,fH,au,D,bs,hw,cb,dh,cR,k2,iM,bZ,wS];repeat' (first|refine al ?_ ?_|fail)<;>intro h<;>simp only[h,go_sem,go_sem_proc,fH,au,D,bs,hw,cb,dh,cR,k2,iM,bZ,wS]
  ·subst h;simp only[go_sem,go_sem_proc,fH,au,D,bs,hw,cb,dh,cR,k2,iM,fL,beq_self_eq_true];repeat' (first|refine al ?_ ?_|fail)<;>intro h<;>simp only[h,go_sem,go_sem_proc,fH,au,D,bs,hw,cb,dh,cR,k2,iM,fL,beq_self_eq_true]
   exact⟨i,by omega,by omega,by rw[p4,wJ];omega,rfl⟩
  ·have bZ:((a:Int)==(b:Int))=false:=by simp;omega
   have wS:decide ((a:Int)<(b:Int))=decide (x<y):=by rw[gr (show ¬ (a:Int)<(b:Int) by omega),gr (by have:=bp (by omega);omega)]
   simp only[go_sem,go_sem_proc,fH,au,D,bs,hw,cb,dh,cR,k2,iM,bZ,wS];repeat' (first|refine al ?_ ?_|fail)<;>intro h<;>simp only[h,go_sem,go_sem_proc,fH,au,D,bs,hw,cb,dh,cR,k2,iM,bZ,wS]
theorem RZ {ar:List Int}{d:Int}(h:ey ar)(au:0<=d)(D:d<1048576):ey (ar++[d]):=zP.2 ⟨h,zO.2 ⟨⟨au,D⟩,by intro d ae;cases ae⟩⟩
theorem R0 (ar:List Int)(d:Int):bl (ar++[d])=bl ar+1048576^(o ar)*d:=by rw[zQ];simp[bl]
theorem Dh {ar:List Int}{n:Nat}(h:ey ar)(ad:bl ar=n):e9 ar=aD n:=by rw[wh h,ad];rfl
def KZ:=bU sf λ(x,y)=>cq ((aD x).length<=10000/\(aD y).length<=10000) (.same (bW (x+y)))
@[go_sem] theorem aaJ (x:Nat)(y:Nat)(E:(aD x).length<=10000/\(aD y).length<=10000):KZ [bW x,bW y]=some (.same (bW (x+y))):=(b3 uU (x,y)).trans (cw E _)
theorem alO (T:br)(fH:T qW=aK Dd)(fj:T qV=aK yt)(x:Nat)(y:Nat)(E:(aD x).length<=10000/\(aD y).length<=10000):WP T RK (.same (bW (x+y))) [.J (bW x),.J (bW y)]:=by
 refine b4 ?_;simp only[RK];obtain⟨I,ak⟩:=E;have wE:∃bS:Nat,bS=max (aD x).length (aD y).length:=⟨_,rfl⟩;obtain⟨bS,wE⟩:=wE;have k2:(aD x).length<=1000000:=by omega
 have iM:(aD y).length<=1000000:=by omega
 simp only[go_sem,go_sem_proc,fH,fj,bW,af];refine dw [0,1] [] (λ((i,c,g,ar):Nat×Nat×Nat×List Int) tm mem=>i<=bS+1/\c<=1/\(i=bS+1->c=0)/\o ar=i/\ey ar/\bl ar+1048576^i*((x/1048576^i+y/1048576^i+c:Nat):Int)=((x+y:Nat):Int)/\tm 6=.J (.int .i64 c)/\tm 7=.J (.int .i64 i)/\tm 5=.ref 181038 g 1 0 i/\mem 181038=some (g,bK Y ar)) (λ(i,_)=>bS+1-i) (0,0,0,[]) (by refine⟨by omega,by omega,by simp,rfl,by simp[ey],by simp[bl],rfl,rfl,rfl,rfl⟩) ?_;intro vs ms a7 aY;simp only[go_sem,go_sem_proc,fH,fj,bW] at a7 aY;subst a7 aY;rintro⟨i,c,g,ar⟩ tm mem R-⟨Q,kt,sl,bM,ht,ad,b1,cd,bs,hm⟩;simp only[go_sem,go_sem_proc,fH,fj,bn] at R;obtain⟨au,D⟩:=R;have aG:bl ar+1048576^i*((x/1048576^i+y/1048576^i+c:Nat):Int)=((x+y:Nat):Int):=ad
 by_cases Hd:i<(aD x).length\/i<(aD y).length\/0<c
 ·have aw:=Df x i;have aB:=Df y i;have dh:=De x i;have cR:=De y i;have c5:=oj (x/1048576^i) (show 0<1048576 by omega);have eg:=oj (y/1048576^i) (show 0<1048576 by omega);have Qk:bS<=i->x/1048576^i=0/\y/1048576^i=0:=λh=>⟨yv (by omega),yv (by omega)⟩;have Di:(1048576:Int)^(i+1)=1048576^i*1048576:=lv _ _;generalize p4:x/1048576^i=dR at *;generalize wJ:y/1048576^i=fs at *;generalize Dj:x/1048576^(i+1)=X' at *;generalize Dk:y/1048576^(i+1)=Y' at *;generalize aM:dR%1048576=a at *;generalize ah:fs%1048576=b at *;have w1:IntKind.i64.wrap ((a:Int)+(b:Int))=((a+b:Nat):Int):=by rw[eQ _];omega
  have lg:IntKind.i64.wrap (((a+b:Nat):Int)+(c:Int))=((a+b+c:Nat):Int):=by rw[eQ _];omega
  have c7:((a+b+c:Nat):Int).tmod 1048576=(((a+b+c)%1048576:Nat):Int):=by rw[Gz (by omega)];omega
  have c2:IntKind.i64.wrap (((a+b+c:Nat):Int).tdiv 1048576)=(((a+b+c)/1048576:Nat):Int):=by rw[CI (by omega),wrap64 _ (by omega) (by omega)];omega
  have cn:=eY (i:=i) (by omega);have ev:=o4 fR o5 181038 g 8 ar (((a+b+c)%1048576:Nat):Int) (cs:=[.J (.int .i64 (((a+b+c)%1048576:Nat):Int))]) rfl (by omega) (by omega);rw[bM] at ev
  have azk:i<=bS:=by
   rcases h1 bS i with h|h
   ·have:=sl (by omega);omega
   ·exact h
  have kj:∃bt:Nat×Nat×Nat×List Int,bS+1-bt.1<bS+1-i/\bt.1<=bS+1/\bt.2.1<=1/\(bt.1=bS+1->bt.2.1=0)/\bt.2.2.2.length=bt.1/\ey bt.2.2.2/\bl bt.2.2.2+1048576^bt.1*((x/1048576^bt.1+y/1048576^bt.1+bt.2.1:Nat):Int)=((x+y:Nat):Int)/\O.J (Data.int .i64 (((a+b+c)/1048576:Nat):Int))=O.J (Data.int .i64 (bt.2.1:Int))/\O.J (Data.int .i64 ((i+1:Nat):Int))=O.J (Data.int .i64 (bt.1:Int))/\O.ref 181038 (g+1) 1 0 (i+1)=O.ref 181038 bt.2.2.1 1 0 bt.1/\some (g+1,bK Y (ar++[(((a+b+c)%1048576:Nat):Int)]))=some (bt.2.2.1,bK Y bt.2.2.2):=by
   refine⟨(i+1,(a+b+c)/1048576,g+1,ar++[(((a+b+c)%1048576:Nat):Int)]),by dsimp only;omega,by dsimp only;omega,by dsimp only;omega,?_,by simp[bM],RZ ht (by omega) (by omega),?_,rfl,rfl,rfl,rfl⟩
   ·intro h;dsimp only at h ⊢;have:=Qk (by omega);omega
   ·dsimp only;rw[Dj,Dk,R0,bM,Di,<-aG];have cI:((dR+fs+c:Nat):Int)=1048576*((X'+Y'+(a+b+c)/1048576:Nat):Int)+(((a+b+c)%1048576:Nat):Int):=by omega
    rw[cI,hh,hi];omega
  by_cases vY:i<(aD x).length
  ·have d1:decide ((i:Int)<((aD x).length:Int))=true:=dn;simp only[go_sem,go_sem_proc,fH,fj,au,D,bs,b1,cd,hm,dh,cR,k2,iM,d1,w1,lg,c7,c2,cn,ev,af];repeat' (first|refine al ?_ ?_|fail)<;>intro h<;>simp only[h,go_sem,go_sem_proc,fH,fj,au,D,bs,b1,cd,hm,dh,cR,k2,iM,d1,w1,lg,c7,c2,cn,ev,af]
   exact kj
  ·have d1:decide ((i:Int)<((aD x).length:Int))=false:=cY
   by_cases ta:i<(aD y).length
   ·have d2:decide ((i:Int)<((aD y).length:Int))=true:=dn;simp only[go_sem,go_sem_proc,fH,fj,au,D,bs,b1,cd,hm,dh,cR,k2,iM,d1,d2,w1,lg,c7,c2,cn,ev,af];repeat' (first|refine al ?_ ?_|fail)<;>intro h<;>simp only[h,go_sem,go_sem_proc,fH,fj,au,D,bs,b1,cd,hm,dh,cR,k2,iM,d1,d2,w1,lg,c7,c2,cn,ev,af]
    exact kj
   ·have d2:decide ((i:Int)<((aD y).length:Int))=false:=cY;have d3:decide ((c:Int)>0)=true:=dn;simp only[go_sem,go_sem_proc,fH,fj,au,D,bs,b1,cd,hm,dh,cR,k2,iM,d1,d2,d3,w1,lg,c7,c2,cn,ev,af];repeat' (first|refine al ?_ ?_|fail)<;>intro h<;>simp only[h,go_sem,go_sem_proc,fH,fj,au,D,bs,b1,cd,hm,dh,cR,k2,iM,d1,d2,d3,w1,lg,c7,c2,cn,ev,af]
    exact kj
 ·have d1:decide ((i:Int)<((aD x).length:Int))=false:=cY;have d2:decide ((i:Int)<((aD y).length:Int))=false:=cY;have d3:decide ((c:Int)>0)=false:=cY;rw[yv (n:=x) (by omega),yv (n:=y) (by omega),show c=0 by omega] at aG
  have cG:=AS ar (by omega);rw[Dh (n:=x+y) ht (by simpa using aG)] at cG;have gl:=Dc (aD (x+y));have ix:=xO (n:=5) fR hm;rw[bM] at ix;simp only[go_sem,go_sem_proc,fH,fj,au,D,bs,b1,cd,hm,d1,d2,d3,cG,gl,ix,tG,iy,af];repeat' (first|refine al ?_ ?_|fail)<;>intro h<;>simp only[h,go_sem,go_sem_proc,fH,fj,au,D,bs,b1,cd,hm,d1,d2,d3,cG,gl,ix,tG,iy,af]
def He:=bU sf λ(x,y)=>cq ((aD x).length<=10000/\(aD y).length<=10000/\y<=x) (.same (bW (x-y)))
@[go_sem] theorem K0 (x:Nat)(y:Nat)(E:(aD x).length<=10000/\(aD y).length<=10000/\y<=x):He [bW x,bW y]=some (.same (bW (x-y))):=(b3 uU (x,y)).trans (cw E _)
theorem alP (T:br)(fH:T qW=aK Dd)(fj:T qV=aK yt)(x:Nat)(y:Nat)(E:(aD x).length<=10000/\(aD y).length<=10000/\y<=x):WP T RL (.same (bW (x-y))) [.J (bW x),.J (bW y)]:=by
 refine b4 ?_;simp only[RL];obtain⟨I,ak,gw⟩:=E;have k2:(aD x).length<=1000000:=by omega
 have iM:(aD y).length<=1000000:=by omega
 have Za:(aD y).length<=(aD x).length:=by rw[fC];exact q0 gw (fC.1 (cA _))
 simp only[go_sem,go_sem_proc,fH,fj,bW,af];refine dw [0,1] [] (λ((i,c,g,ar):Nat×Nat×Nat×List Int) tm mem=>i<=(aD x).length/\c<=1/\y/1048576^i+c<=x/1048576^i/\o ar=i/\ey ar/\bl ar+1048576^i*((x/1048576^i-(y/1048576^i+c):Nat):Int)=((x-y:Nat):Int)/\tm 6=.J (.int .i64 c)/\tm 7=.J (.int .i64 i)/\tm 5=.ref 182032 g 1 0 i/\mem 182032=some (g,bK Y ar)) (λ(i,_)=>(aD x).length-i) (0,0,0,[]) (by refine⟨by omega,by omega,by simpa using gw,rfl,by simp[ey],by simp[bl],rfl,rfl,rfl,rfl⟩) ?_;intro vs ms a7 aY;simp only[go_sem,go_sem_proc,fH,fj,bW] at a7 aY;subst a7 aY;rintro⟨i,c,g,ar⟩ tm mem R-⟨Q,kt,hle,bM,ht,ad,b1,cd,bs,hm⟩;simp only[go_sem,go_sem_proc,fH,fj,bn] at R;obtain⟨au,D⟩:=R;have aG:bl ar+1048576^i*((x/1048576^i-(y/1048576^i+c):Nat):Int)=((x-y:Nat):Int):=ad;have Fs:y/1048576^i+c<=x/1048576^i:=hle
 by_cases Hd:i<(aD x).length
 ·have d1:decide ((i:Int)<((aD x).length:Int))=true:=dn;have aw:=Df x i;have aB:=Df y i;have dh:=De x i;rw[fP,bL Hd] at dh;have hQ:(aD x)[i]?=some ((x/1048576^i%1048576:Nat):Int):=by rw[bL Hd];exact congrArg some dh
  have cR:=De y i;have c5:=oj (x/1048576^i) (show 0<1048576 by omega);have eg:=oj (y/1048576^i) (show 0<1048576 by omega);have Di:(1048576:Int)^(i+1)=1048576^i*1048576:=lv _ _;clear dh hle ad;generalize p4:x/1048576^i=dR at *;generalize wJ:y/1048576^i=fs at *;generalize Dj:x/1048576^(i+1)=X' at *;generalize Dk:y/1048576^(i+1)=Y' at *;generalize aM:dR%1048576=a at *;generalize ah:fs%1048576=b at *;have w1:IntKind.i64.wrap ((a:Int)-(b:Int))=(a:Int)-(b:Int):=wrap64 _ (by omega) (by omega);have lg:IntKind.i64.wrap ((a:Int)-(b:Int)-(c:Int))=(a:Int)-(b:Int)-(c:Int):=wrap64 _ (by omega) (by omega);have cn:=eY (i:=i) (by omega);have fc:IntKind.i64.wrap ((a:Int)-(b:Int)-(c:Int)+1048576)=(a:Int)-(b:Int)-(c:Int)+1048576:=wrap64 _ (by omega) (by omega);have ev:=λd:Int=>o4 fR o5 182032 g 8 ar d (cs:=[.J (.int .i64 d)]) rfl (by omega) (by omega);rw[bM] at ev;rcases jf:decide ((a:Int)-(b:Int)-(c:Int)<0)
  ·have aL:=of_decide_eq_false jf;refine aQ ?_;repeat' (intro h<;>simp only[h,go_sem,go_sem_proc,fH,fj,au,D,bs,b1,cd,hm,hQ,cR,iM,d1,w1,lg,cn,ev,jf,Y,af,bb]<;>try refine al ?_ ?_)
   refine⟨(i+1,0,g+1,ar++[(a:Int)-(b:Int)-(c:Int)]),by dsimp only;omega,by dsimp only;omega,by dsimp only;omega,by dsimp only;rw[Dj,Dk];omega,by simp[bM],RZ ht (by omega) (by omega),?_,rfl,rfl,rfl,rfl⟩
   dsimp only;rw[Dj,Dk,R0,bM,Di,<-aG];have cI:((dR-(fs+c):Nat):Int)=1048576*((X'-(Y'+0):Nat):Int)+((a:Int)-b-c):=by omega
   rw[cI,hh,hi];omega
  ·have aL:=of_decide_eq_true jf;refine aQ ?_;repeat' (intro h<;>simp only[h,go_sem,go_sem_proc,fH,fj,au,D,bs,b1,cd,hm,hQ,cR,iM,d1,w1,lg,cn,fc,ev,jf,Y,af,bb]<;>try refine al ?_ ?_)
   refine⟨(i+1,1,g+1,ar++[(a:Int)-(b:Int)-(c:Int)+1048576]),by dsimp only;omega,by dsimp only;omega,by dsimp only;omega,by dsimp only;rw[Dj,Dk];omega,by simp[bM],RZ ht (by omega) (by omega),?_,rfl,rfl,rfl,rfl⟩
   dsimp only;rw[Dj,Dk,R0,bM,Di,<-aG];have cI:((dR-(fs+c):Nat):Int)=1048576*((X'-(Y'+1):Nat):Int)+((a:Int)-b-c+1048576):=by omega
   have gJ:∀p cB gd:Int,bl ar+p*cB+p*1048576*gd=bl ar+p*(1048576*gd+cB):=λp cB gd=>by rw[hh p (1048576*gd) cB,<-hi];omega
   rw[cI];exact gJ _ _ _
 ·have d1:decide ((i:Int)<((aD x).length:Int))=false:=cY;rw[yv (n:=x) (by omega),yv (n:=y) (by omega),Nat.zero_sub,jT,uZ,tw] at aG;have cG:=AS ar (by omega);rw[Dh (n:=x-y) ht aG] at cG;have gl:=Dc (aD (x-y));have ix:=xO (n:=5) fR hm;rw[bM] at ix;refine aQ ?_;repeat' (intro h<;>simp only[h,go_sem,go_sem_proc,fH,fj,au,D,bs,b1,cd,hm,d1,cG,gl,ix,tG,iy,af]<;>try refine al ?_ ?_)
theorem aaK {b:List Int}{k:Nat}(h:k<o b):b.getD k 0=b[k]:=by rw[fP,bL h];rfl
theorem R1 {b:List Int}{k:Nat}(h:(o b)<=k):b.getD k 0=0:=by rw[fP,nh h];rfl
def Hf:=bU sf λ(x,y)=>cq ((aD x).length<=10000/\(aD y).length<=10000) (.same (bW (x*y)))
@[go_sem] theorem R2 (x:Nat)(y:Nat)(E:(aD x).length<=10000/\(aD y).length<=10000):Hf [bW x,bW y]=some (.same (bW (x*y))):=(b3 uU (x,y)).trans (cw E _)
theorem alQ (T:br)(fH:T qW=aK Dd)(fj:T qV=aK yt)(x:Nat)(y:Nat)(E:(aD x).length<=10000/\(aD y).length<=10000):WP T RO (.same (bW (x*y))) [.J (bW x),.J (bW y)]:=by
 refine b4 ?_;simp only[RO];obtain⟨I,ak⟩:=E;have qY:=kY x;have o9:=kY y;have tt:=kg x;have Ak:=kg y;generalize aM:aD x=a at *;generalize ah:aD y=b at *;have pa:IntKind.i64.wrap ((o a:Int)+(o b:Int))=((o a+o b:Nat):Int):=by rw[eQ _];rfl
 have kB:8*(o a+o b)<=140737488355328:=by omega
 have e2:(o a)+o b<=maxLen:=CB _ (by omega);have zB:(o b)<=1000000:=by omega
 simp only[go_sem,go_sem_proc,fH,fj,bW,aM,ah,pa,kB,e2,CA,af]
 refine dw [0,1,5] [] (λ((i,ar):Nat×List Int) tm mem=>i<=o a/\o ar=o a+o b/\ey ar/\ar.drop (i+o b)=eL (o ar-(i+o b)) 0/\bl ar=bl (a.take i)*y/\tm 6=.J (.int .i64 (i:Nat))/\mem 186015=some (0,bK Y ar))
  (λ(i,_)=>o a-i) (0,eL (o a+o b) 0) (by
   have a8:∀n,bl (eL n 0)=0:=by
    intro n
    induction n with
    |zero=>rfl
    |succ n aA=>rw[List.replicate_succ,qT,aA];rfl
   refine⟨fY _,by simp,λd ae=>by rw[CF] at ae;omega,by simp,by rw[a8];simp[bl],?_,?_⟩<;>rfl) ?_
 intro vs ms a7 aY;simp only[go_sem,go_sem_proc,fH,fj,bW,aM,ah,pa,af] at a7 aY;subst a7 aY;rintro⟨i,ar⟩ tm mem R-⟨Q,bM,ht,p3,iq,b1,hm⟩;simp only[go_sem,go_sem_proc,fH,fj,bn] at R;obtain⟨au,D,bs⟩:=R;rcases dG (i<o a) with az|cb
 ·have k0:a[i]?=some a[i]:=bL az;have xL:=jV qY i az;have qQ:=jU a i az;generalize a[i]=g2 at *;have hj:decide ((i:Int)<(o a:Int))=true:=dn;have yb:IntKind.i64.wrap ((i:Int)+1)=((i+1:Nat):Int):=by rw[eQ _];rfl
  simp only[go_sem,go_sem_proc,fH,fj,au,D,bs,b1,k0,hj,Y,af,bb,bn]
  refine dw [0,1,5,6] [] (λ((k,c,ar):Nat×Int×List Int) tm mem=>k<=o b+1/\(k=o b+1->c=0)/\o ar=o a+o b/\ey ar/\ar.drop (i+max k (o b))=eL (o ar-(i+max k (o b))) 0/\0<=c/\c<1048576/\bl ar+1048576^(i+k)*c=bl (a.take i)*y+1048576^i*(g2*bl (b.take k)) /\
    tm 8=.J (.int .i64 (k:Nat))/\tm 7=.J (.int .i64 c)/\mem 186015=some (0,bK Y ar))
   (λ(k,_)=>o b+1-k) (0,0,ar) (by refine⟨fY _,by simp,bM,ht,by rw[Nat.zero_max];exact p3,by omega,by omega,by simp[bl,iq],?_,?_,hm⟩<;>rfl) ?_
  intro vs ms a7 aY;simp only[go_sem,go_sem_proc,fH,fj,au,D,bs,b1,Y,af] at a7 aY;subst a7 aY;rintro⟨k,c,ar⟩ tm mem R-⟨oY,Dl,bM,ht,p3,jW,kt,iq,de,cd,hm⟩;simp only[go_sem,go_sem_proc,fH,fj,bn] at R;obtain⟨au,D,bs,b1⟩:=R;have fL:IntKind.i64.wrap ((k:Int)+1)=((k+1:Nat):Int):=by rw[eQ _];rfl
  have iL:IntKind.i64.wrap ((i:Int)+(k:Int))=((i+k:Nat):Int):=by rw[eQ _];rfl
  by_cases Hd:k<(o b)\/c>0
  ·have Gx:k<=o b:=by
    rcases h1 (o b) k with h|h
    ·have:=Dl (by omega);omega
    ·exact h
   have nv:i+k<o ar:=by omega
   have PO:=jV ht (i+k) nv
   have CH:0<=b.getD k 0/\b.getD k 0<1048576:=by
    rcases h1 k (o b) with h|h
    ·rw[aaK h];exact jV o9 k h
    ·rw[R1 h];omega
   have alR:bl (b.take (k+1))=bl (b.take k)+1048576^k*b.getD k 0:=by
    rcases h1 k (o b) with h|h
    ·rw[aaK h];exact jU b k h
    ·rw[R1 h,du (by omega),du (by omega)];simp
   have s8:k<(o b)\/(k=o b/\ar[i+k]=0):=by
    rcases h1 k (o b) with h|h
    ·exact .inl h
    ·refine .inr ⟨by omega,Zd p3 (by omega) nv⟩
   have Hg:=aaG b k zB;generalize b.getD k 0=nF at *;obtain⟨cJ,cE,hv,mo⟩:=Zc PO xL CH ⟨jW,kt⟩;have jx:IntKind.i64.wrap (g2*nF)=g2*nF:=wrap64 _ (by omega) (by omega);have wA:IntKind.i64.wrap (ar[i+k]+g2*nF)=ar[i+k]+g2*nF:=wrap64 _ (by omega) (by omega);have si:IntKind.i64.wrap (ar[i+k]+g2*nF+c)=ar[i+k]+g2*nF+c:=wrap64 _ (by omega) (by omega);have pe:(ar[i+k]+g2*nF+c).tmod 1048576=(ar[i+k]+g2*nF+c)%1048576:=Gz (by omega);have Av:IntKind.i64.wrap ((ar[i+k]+g2*nF+c).tdiv 1048576)=(ar[i+k]+g2*nF+c)/1048576:=by rw[CI (by omega)];exact wrap64 _ (by omega) (by omega)
   have g1:i+k+1<=(bK Y ar).length:=by rw[og];omega
   have iN:=Gu ar (i+k) nv;have gG:=λd=>uT ar (i+k) d nv;have ik:i+k<o a+o b:=by omega
   have kj:∃bt:Nat×Int×List Int,o b+1-bt.1<o b+1-k/\bt.1<=o b+1/\(bt.1=o b+1->bt.2.1=0)/\bt.2.2.length=o a+o b/\ey bt.2.2/\bt.2.2.drop (i+max bt.1 (o b))=eL (bt.2.2.length-(i+max bt.1 (o b))) 0/\0<=bt.2.1/\bt.2.1<1048576/\bl bt.2.2+1048576^(i+bt.1)*bt.2.1=bl (a.take i)*y+1048576^i*(g2*bl (b.take bt.1)) /\
     O.J (Data.int .i64 ((k+1:Nat):Int))=O.J (Data.int .i64 (bt.1:Nat))/\O.J (Data.int .i64 ((ar[i+k]+g2*nF+c)/1048576))=O.J (Data.int .i64 bt.2.1)/\some (0,bK Y (ar.set (i+k) ((ar[i+k]+g2*nF+c)%1048576)))=some (0,bK Y bt.2.2):=by
    refine⟨(k+1,(ar[i+k]+g2*nF+c)/1048576,ar.set (i+k) ((ar[i+k]+g2*nF+c)%1048576)),by dsimp only;omega,by dsimp only;omega,?_,by simp[bM],wy ht _ (by omega),?_,hv,mo,?_,rfl,rfl,rfl⟩
    ·intro h;dsimp only at h ⊢;rcases s8 with G|⟨G,ag⟩
     ·omega
     ·have alS:nF=0:=by
       have e:=Hg;rw[aaG b k zB,R1 (by omega)] at e
       simpa using e.symm
      rw[ag,alS,uZ];omega
    ·dsimp only;rcases s8 with G|⟨G,ag⟩
     ·rw[R3 (by omega)] at p3;rw[R3 (by omega),qO (by omega),List.length_set,p3]
     ·rw[R3 (by omega),<-G] at p3;rw[Nat.max_eq_left (by omega)];exact Ze p3 nv
    ·dsimp only;rw[PK _ _ _ nv,alR,<-Nat.add_assoc,lv,Zb _ _ _ _ _ _ _ iq];rw[hh (g2),hh (1048576^i),Int.pow_add]
     have:(1048576:Int)^i*(g2*(1048576^k*nF))=1048576^i*1048576^k*(g2*nF):=by
      rw[<-hi (g2),lx (g2) (1048576^k),hi (1048576^k),<-hi]
     omega
   by_cases azl:k<o b
   ·have d1:decide ((k:Int)<(o b:Int))=true:=dn;simp only[go_sem,go_sem_proc,fH,fj,au,D,bs,b1,cd,de,hm,k0,Hg,d1,fL,iL,jx,wA,si,pe,Av,ik,g1,iN,gG,Y,dU,af,bb,bn];repeat' (first|refine al ?_ ?_|fail)<;>intro h<;>simp only[h,go_sem,go_sem_proc,fH,fj,au,D,bs,b1,cd,de,hm,k0,Hg,d1,fL,iL,jx,wA,si,pe,Av,ik,g1,iN,gG,Y,dU,af,bb,bn]
    exact kj
   ·have d1:decide ((k:Int)<(o b:Int))=false:=cY;have d2:decide (c>0)=true:=dn;simp only[go_sem,go_sem_proc,fH,fj,au,D,bs,b1,cd,de,hm,k0,Hg,d1,d2,fL,iL,jx,wA,si,pe,Av,ik,g1,iN,gG,Y,dU,af,bb,bn];repeat' (first|refine al ?_ ?_|fail)<;>intro h<;>simp only[h,go_sem,go_sem_proc,fH,fj,au,D,bs,b1,cd,de,hm,k0,Hg,d1,d2,fL,iL,jx,wA,si,pe,Av,ik,g1,iN,gG,Y,dU,af,bb,bn]
    exact kj
  ·have d1:decide ((k:Int)<(o b:Int))=false:=cY;have d2:decide (c>0)=false:=cY;have alT:c=0:=by omega
   rw[alT,uZ,tw,show b.take k=b from du (by omega),Ak] at iq;simp only[go_sem,go_sem_proc,fH,fj,au,D,bs,b1,cd,de,hm,d1,d2,yb,af];repeat' (first|refine al ?_ ?_|fail)<;>intro h<;>simp only[h,go_sem,go_sem_proc,fH,fj,au,D,bs,b1,cd,de,hm,d1,d2,yb,af]
   refine⟨(i+1,ar),by dsimp only;omega,by dsimp only;omega,bM,ht,?_,?_,rfl,rfl⟩
   ·dsimp only;have ag:=congrArg (List.drop (i+1+o b-(i+max k (o b)))) p3;rw[List.drop_drop,List.drop_replicate] at ag;rw[show i+max k (o b)+(i+1+o b-(i+max k (o b)))=i+1+(o b) by omega] at ag
    rw[ag]
    congr 1
    omega
   ·dsimp only;rw[iq,qQ,Int.add_mul,hi]
 ·obtain rfl:i=o a:=by omega
  have hj:decide ((o a:Int)<(o a:Int))=false:=cY;rw[du (cA _),tt] at iq;have cG:=AS ar (by omega);rw[Dh (n:=x*y) ht (by rw[iq];rfl)] at cG;have gl:=Dc (aD (x*y));have ix:=xO (n:=5) fR hm;rw[bM] at ix;simp only[go_sem,go_sem_proc,fH,fj,au,D,bs,b1,hm,hj,cG,gl,ix,tG,iy,bW,af];repeat' (first|refine al ?_ ?_|fail)<;>intro h<;>simp only[h,go_sem,go_sem_proc,fH,fj,au,D,bs,b1,hm,hj,cG,gl,ix,tG,iy,bW,af]
def e6.wT:e6->List Nat->e6
 |.seq a _,0::p=>a.wT p
 |.seq _ b,_::p=>b.wT p
 |.cond _ a _,0::p=>a.wT p
 |.cond _ _ b,_::p=>b.wT p
 |.block _ c,_::p=>c.wT p
 |.ghost _ c,_::p=>c.wT p
 |.loop c,_::p=>c.wT p
 |c,_=>c
theorem aaL {n:Nat}(h:0<n)(D:n<1048576):[(n:Int)]=aD n:=(FT h D).symm
theorem alU {n:Nat}(D:n<1048576):e9 [(n:Int)]=aD n:=Dh (by intro d ae;have:=tx.1 ae;omega) (by simp[bl])
theorem alV {d:Int}{r:Nat}(au:0<=d)(D:d<1048576):e9 (d::aD r)=aD (d.toNat+1048576*r):=Dh (zO.2 ⟨⟨au,D⟩,kY r⟩) (by rw[qT,kg];omega)
theorem R4 {n m k:Nat}(h:n<m*1048576)(hm:(aD m).length<=k):(aD n).length<=k+1:=by
 rw[fC] at *;rw[r6];exact ze h (rS _ (AH hm))
theorem aaM (T:br)(k8:T z2=aK Hf)(ft:T xV=aK Dg){K:fA->bz->Prop}{kk:List iJ}(y cD:Nat)(ak:(aD y).length<=1000)(dk:(aD cD).length<=1001)(hI:0<y)(alW:cD<y*1048576)(v0 v6 aaN:O)(tm:Nat->O)(m:Mem)
  (b8:tm 0=v0) (aw:tm 1=.J (.X ((aD y).map Y))) (dB:tm 6=v6) (bQ:tm 7=.J (.X ((aD cD).map Y))) (cS:tm 8=aaN) (eh:tm 9=.J (.int .i64 0)) (eA:tm 10=.J (.int .i64 1048576))
  (hV:∀tm',tm' 0=v0->tm' 1=.J (.X ((aD y).map Y))->tm' 6=v6->tm' 7=.J (.X ((aD cD).map Y))->tm' 8=aaN->tm' 9=.J (.int .i64 ((cD/y:Nat):Int))->dd T K kk (.exit 2) ⟨tm',m⟩) :
  wp T (Hc.body.wT [1,1,1,0,1,0,0,1,0,0,1,1,1,0,0]) (dd T K kk) ⟨tm,m⟩:=by
 simp only[Hc,e6.wT];refine dw [0,1,6,7,8] [] (λ((ct,Q):Nat×Nat) tm' m'=>ct<Q/\Q<=1048576/\ct*y<=cD/\cD<Q*y/\tm' 9=.J (.int .i64 ct)/\tm' 10=.J (.int .i64 Q)/\m'=m) (λ(ct,Q)=>Q-ct) (0,1048576) (by refine⟨by omega,by omega,by omega,by rw[pY];exact alW,eh,eA,rfl⟩) ?_;intro vs ms a7 aY;simp only[go_sem,go_sem_proc,b8,aw,dB,bQ,cS] at a7 aY;subst a7 aY;clear b8 aw dB bQ cS eh eA;rintro⟨ct,Q⟩ tm m' R hm ⟨azm,a6,fp,hS,jt,hs,rfl⟩;simp only[go_sem,go_sem_proc,bn] at R hm;obtain⟨au,D,b1,cd,de⟩:=R;have w1:IntKind.i64.wrap ((Q:Int)-(ct:Int))=(Q:Int)-(ct:Int):=wrap64 _ (by omega) (by omega)
 by_cases Hd:Q-ct>1
 ·have d1:decide ((Q:Int)-(ct:Int)>1)=true:=dn;have lg:IntKind.i64.wrap ((ct:Int)+(Q:Int))=((ct+Q:Nat):Int):=by rw[eQ _];omega
  have cn:IntKind.i64.wrap (((ct+Q:Nat):Int).tdiv 2)=(((ct+Q)/2:Nat):Int):=by rw[CI (by omega),wrap64 _ (by omega) (by omega)];omega
  obtain⟨tH,alX⟩:∃tH:Nat,tH=(ct+Q)/2:=⟨_,rfl⟩;rw[<-alX] at cn;have cG:=R2 y tH ⟨by omega,by rw[<-aaL (n:=tH) (by omega) (by omega)];simp⟩
  simp only[bW] at cG;rw[<-aaL (n:=tH) (by omega) (by omega)] at cG;simp only[e8,cM,Y] at cG;have oQ:(aD (y*tH)).length<=1001:=R4 (aaO (show tH<1048576 by omega) hI) ak;have gl:=RY cD (y*tH) ⟨by omega,by omega⟩
  simp only[bW] at gl;rcases ae:decide (cD<y*tH)
  ·have aL:=of_decide_eq_false ae;rw[ae] at gl;refine aQ ?_;repeat' (intro h<;>simp only[h,go_sem,go_sem_proc,k8,ft,au,D,b1,cd,de,jt,hs,w1,lg,cn,d1,cG,gl]<;>try refine al ?_ ?_)
   exact⟨(tH,Q),by dsimp only;omega,by dsimp only;omega,a6,by dsimp only;rw[pY];omega,hS,rfl,rfl⟩
  ·have aL:=of_decide_eq_true ae;rw[ae] at gl;refine aQ ?_;repeat' (intro h<;>simp only[h,go_sem,go_sem_proc,k8,ft,au,D,b1,cd,de,jt,hs,w1,lg,cn,d1,cG,gl]<;>try refine al ?_ ?_)
   exact⟨(ct,tH),by dsimp only;omega,by dsimp only;omega,by dsimp only;omega,fp,by dsimp only;rw[pY];omega,rfl,rfl⟩
 ·have d1:decide ((Q:Int)-(ct:Int)>1)=false:=cY
  have aF:cD/y=ct:=by
   have D:Q=ct+1:=by omega
   subst D;exact Nat.div_eq_of_lt_le fp hS
  refine aQ ?_;repeat' (intro h<;>simp only[h,go_sem,go_sem_proc,au,D,b1,cd,de,jt,hs,w1,d1]<;>try refine al ?_ ?_)
  refine hV _ ?_ ?_ ?_ ?_ ?_ ?_<;>simp only[qA,tI,if_false,au,D,b1,cd,de,jt,aF]
def K1:=bU sf λ(x,y)=>cq ((aD x).length<=1000/\(aD y).length<=1000/\0<y) (.same (.cQ [bW (x/y),bW (x%y)]))
@[go_sem] theorem aaP (x:Nat)(y:Nat)(E:(aD x).length<=1000/\(aD y).length<=1000/\0<y):K1 [bW x,bW y]=some (.same (.cQ [bW (x/y),bW (x%y)])):=(b3 uU (x,y)).trans (cw E _)
theorem alY (T:br)(fj:T qV=aK yt)(k8:T z2=aK Hf)(ft:T xV=aK Dg)(gp:T xU=aK He)(x:Nat)(y:Nat)(E:(aD x).length<=1000/\(aD y).length<=1000/\0<y):WP T Hc (.same (.cQ [bW (x/y),bW (x%y)])) [.J (bW x),.J (bW y)]:=by
 refine b4 ?_;simp only[Hc];obtain⟨I,ak,hI⟩:=E;have qY:=kY x;have tt:=kg x;generalize aM:aD x=a at *;have kB:8*o a<=140737488355328:=by omega
 have e2:(o a)<=maxLen:=CB _ (by omega);have yf:IntKind.i64.wrap ((o a:Int)-1)=(o a:Int)-1:=wrap64 _ (by omega) (by omega);simp only[go_sem,go_sem_proc,fj,k8,ft,gp,bW,aM,kB,e2,CA,yf,af]
 refine dw [0,1,6] [] (λ((n,r,AU,ar):Nat×Nat×O×List Int) tm mem=>n<=o a/\o ar=o a/\ey ar/\r<y/\bl (a.drop n)=y*bl (ar.drop n)+r/\(AU=.nil/\r=0\/AU=.J (bW r))/\tm 8=.J (.int .i64 ((n:Nat)-1))/\tm 7=AU/\mem 180014=some (0,bK Y ar))
  (λ(n,_)=>n) (o a,0,.nil,eL (o a) 0) (by
   refine⟨cA _,by simp,λd ae=>by rw[CF] at ae;omega,hI,by simp[bl],.inl ⟨rfl,rfl⟩,rfl,rfl,rfl⟩) ?_
 intro vs ms a7 aY;simp only[go_sem,go_sem_proc,fj,k8,ft,gp,bW,aM,af] at a7 aY;subst a7 aY;rintro⟨n,r,AU,ar⟩ tm mem R-⟨aL,bM,ht,Gy,ad,K2,de,cd,hm⟩;simp only[go_sem,go_sem_proc,fj,k8,ft,gp,bn] at R;obtain⟨au,D,b1⟩:=R;rcases n with _|n
 ·have aF:bl ar=((x/y:Nat):Int)/\r=x%y:=by
   rw[o1,o1,tt] at ad;have aw:(x:Int)/(y:Int)=bl ar:=by rw[ad,uW,Int.add_mul_ediv_left _ _ (by omega),Int.ediv_eq_zero_of_lt (by omega) (by omega)];omega
   have aB:(x:Int)%(y:Int)=r:=by rw[ad,uW,Int.add_mul_emod_self_left,Int.emod_eq_of_lt (by omega) (by omega)]
   refine⟨by rw[<-aw];rfl,by omega⟩
  have cG:=AS ar (by omega);rw[Dh (n:=x/y) ht aF.1] at cG;have gl:=Dc (aD (x/y));have ix:=xO (n:=5) fR hm;rw[bM] at ix;rcases K2 with ⟨rfl,pd⟩|rfl
  ·have a8:aD (x%y)=[]:=by rw[<-aF.2,pd];rfl
   simp only[go_sem,go_sem_proc,fj,k8,ft,gp,au,D,b1,cd,de,hm,cG,gl,ix,a8,tG,iy,bW,jT,ki,show ¬ ((0:Int)-1>=0) by omega,decide_false,af,cM]
   repeat' (first|refine al ?_ ?_|fail)<;>intro h<;>simp only[h,go_sem,go_sem_proc,fj,k8,ft,gp,au,D,b1,cd,de,hm,cG,gl,ix,a8,tG,iy,bW,jT,ki,show ¬ ((0:Int)-1>=0) by omega,decide_false,af,cM]
  ·simp only[go_sem,go_sem_proc,fj,k8,ft,gp,au,D,b1,cd,de,hm,cG,gl,ix,tG,iy,bW,jT,ki,show ¬ ((0:Int)-1>=0) by omega,decide_false,af,cM,aF.2]
   repeat' (first|refine al ?_ ?_|fail)<;>intro h<;>simp only[h,go_sem,go_sem_proc,fj,k8,ft,gp,au,D,b1,cd,de,hm,cG,gl,ix,tG,iy,bW,jT,ki,show ¬ ((0:Int)-1>=0) by omega,decide_false,af,cM,aF.2]
 ·have k0:a[n]?=some a[n]:=bL (by omega);have Kc:=jV qY n (by omega);have PG:a.drop n=a[n]::a.drop (n+1):=iI (by omega);have fB:n<o ar:=by omega
  have PI:∀e:Int,(ar.set n e).drop n=e::ar.drop (n+1):=λe=>by
   rw[iI (by simpa using fB),List.getElem_set_self,qO (by omega)]
  generalize a[n]=d at *;have hw:((n+1:Nat):Int)-1=(n:Int):=by omega
  have cb:decide ((n:Int)>=0)=true:=dn;have jx:IntKind.i64.wrap ((n:Int)-1)=(n:Int)-1:=wrap64 _ (by omega) (by omega);have cK:(aD r).length<=1000:=by rw[fC] at *;omega
  obtain⟨cD,dk⟩:∃cD:Nat,cD=d.toNat+1048576*r:=⟨_,rfl⟩
  have K3:cD<y*1048576:=by
   have:(r+1)*1048576<=y*1048576:=rS _ Gy;omega
  have aaQ:=R4 K3 ak;have aaR:=alV (d:=d) (r:=r) Kc.1 Kc.2;rw[<-dk] at aaR;have cG:=AS (d::aD r) (by rw[jN];omega);rw[aaR] at cG;simp only[e8,Y] at cG;have gl:=Dc (aD cD)
  have Ja:∀cW:Nat,pO 180026 cW 1 1 8 (aD r).length (((aD r).map Y).flatten.map .J) (some (cW,[.J (.int .i64 d)]))=some (.ref 180026 (cW+1) 1 0 (1+(aD r).length),some (180026,cW+1,bK Y (d::aD r))):=λcW=>by
   have:=FJ fR o5 180026 cW 8 [d] (aD r) (by rw[AV];omega) (by rw[AV];omega);exact this
  have alZ:∀(cW:Nat) (m:Mem),m 180026=some (cW,bK Y (d::aD r))->da 6 m (.ref 180026 cW 1 0 (1+(aD r).length))=some (.X ((d::aD r).map Y)):=λcW m hm=>by
   have:=xO (n:=5) fR hm;rw[jN,Nat.add_comm (aD r).length 1] at this;exact this
  have qI:(((aD r).map Y).all λe=>o e==1)=true:=Gs _;have R5:=alZ (uH (mem 180026)+1) (bI (bI mem 180026 (uH (mem 180026)) [O.J (.int .i64 d)]) 180026 (uH (mem 180026)+1) (bK Y (d::aD r))) (by simp[bI]);have nm:n<o a:=by omega
  obtain⟨ct,fp⟩:∃ct:Nat,ct=cD/y:=⟨_,rfl⟩;have R6:ct<1048576:=by rw[fp];exact Nat.div_lt_of_lt_mul K3
  have wM:=KD cD y;have oQ:=oj cD hI;rw[<-fp] at wM;have Nm:cD-y*ct=cD%y:=by omega
  have azn:(aD (y*ct)).length<=1001:=R4 (aaO R6 hI) ak
  have K4:yt [.X [[.int .i64 ((cD/y:Nat):Int)]]]=some (.own 1 ((aD ct).map Y)):=by
   have h:=AS [((cD/y:Nat):Int)] (by simp);rw[<-fp,alU R6] at h;rw[<-fp];exact h
  have Hh:=R2 y ct ⟨by omega,by have:(aD ct).length<=1:=fC.2 (by rw[Nat.pow_one];exact R6);omega⟩
  simp only[bW] at Hh;have Dm:=K0 cD (y*ct) ⟨by omega,by omega,by omega⟩
  rw[Nm] at Dm;simp only[bW] at Dm;have g1:n+1<=(bK Y ar).length:=by rw[og];omega
  have gG:=uT ar n ((cD/y:Nat):Int) fB
  have kj:∃bt:Nat×Nat×O×List Int,bt.1<n+1/\bt.1<=o a/\bt.2.2.2.length=o a/\ey bt.2.2.2/\bt.2.1<y/\bl (a.drop bt.1)=y*bl (bt.2.2.2.drop bt.1)+bt.2.1/\(bt.2.2.1=.nil/\bt.2.1=0\/bt.2.2.1=.J (.X ((aD bt.2.1).map Y)))/\O.J (Data.int .i64 ((n:Int)-1))=O.J (Data.int .i64 ((bt.1:Int)-1))/\O.J (Data.X ((aD (cD%y)).map Y))=bt.2.2.1/\some (0,bK Y (ar.set n ((cD/y:Nat):Int)))=some (0,bK Y bt.2.2.2):=by
   refine⟨(n,cD%y,.J (bW (cD%y)),ar.set n ((cD/y:Nat):Int)),by dsimp only;omega,by dsimp only;omega,by simp[bM],wy ht n (by omega),oQ,?_,.inr rfl,rfl,rfl,rfl⟩
   dsimp only;rw[PG,qT,ad,PI,qT,<-fp];have aw:(cD:Int)=d+1048576*r:=by omega
   have aB:(y:Int)*ct+(cD%y:Nat)=cD:=by exact_mod_cast wM
   have cI:∀v:Int,(y:Int)*(ct+1048576*v)=y*ct+1048576*(y*v):=λv=>by rw[hh,Int.mul_left_comm]
   rw[cI];omega
  have main:AU=.nil/\r=0\/AU=.J (bW r):=K2;rcases main with ⟨rfl,pd⟩|rfl
  ·subst pd;have aaS:=Ja;simp only[qU,cM,aaE,mj] at aaS;simp only[qU,mj] at R5;simp only[qU,cM] at cG;simp only[go_sem,go_sem_proc,fj,k8,ft,gp,au,D,b1,cd,de,hm,k0,hw,cb,aaS,cG,gl,R5,tG,iy,Y,qU,af,bb,cM];refine aaM T k8 ft y cD ak aaQ hI K3 (.J (.X (a.map Y))) (.ref 180014 0 1 0 (o a)) (.J (.int .i64 n)) _ _ ?_ ?_ ?_ ?_ ?_ ?_ ?_ ?_
   ·exact au
   ·exact D
   ·exact b1
   ·rfl
   ·simp only[qA,tI,if_false,de,hw]
   ·rfl
   ·rfl
   intro tm' my dp yw yx nx ny;simp only[go_sem,go_sem_proc,fj,k8,ft,gp,my,dp,yw,yx,nx,ny,hm,nm,g1,gG,K4,Hh,Dm,jx,dU];repeat' (first|refine al ?_ ?_|fail)<;>intro h<;>simp only[h,go_sem,go_sem_proc,fj,k8,ft,gp,my,dp,yw,yx,nx,ny,hm,nm,g1,gG,K4,Hh,Dm,jx,dU]
   exact kj
  ·simp only[go_sem,go_sem_proc,fj,k8,ft,gp,au,D,b1,cd,de,hm,k0,hw,cb,Ja,qI,cG,gl,R5,tG,iy,bW,Y,af,bb];refine aaM T k8 ft y cD ak aaQ hI K3 (.J (.X (a.map Y))) (.ref 180014 0 1 0 (o a)) (.J (.int .i64 n)) _ _ ?_ ?_ ?_ ?_ ?_ ?_ ?_ ?_
   ·exact au
   ·exact D
   ·exact b1
   ·rfl
   ·simp only[qA,tI,if_false,de,hw]
   ·rfl
   ·rfl
   intro tm' my dp yw yx nx ny;simp only[go_sem,go_sem_proc,fj,k8,ft,gp,my,dp,yw,yx,nx,ny,hm,nm,g1,gG,K4,Hh,Dm,jx,dU];repeat' (first|refine al ?_ ?_|fail)<;>intro h<;>simp only[h,go_sem,go_sem_proc,fj,k8,ft,gp,my,dp,yw,yx,nx,ny,hm,nm,g1,gG,K4,Hh,Dm,jx,dU]
   exact kj
def yy:=bU J7 λ(s,l)=>cq (o l<=1000000) (.same (.agg (bF (hH s l))))
@[go_sem] theorem azo (s:Int)(l:List Int)(E:(o l)<=1000000):yy [.int .i64 s,.X (l.map Y)]=some (.same (.agg (bF (hH s l)))):=(b3 Y1 (s,l)).trans (cw E _)
theorem al0 (T:br)(fj:T qV=aK yt)(s:Int)(l:List Int)(E:(o l)<=1000000):WP T RJ (.same (.agg (bF (hH s l)))) [.J (.int .i64 s),.J (.X (l.map Y))]:=by
 refine b4 ?_;simp only[RJ];have cG:=AS l E;have gl:=Dc (e9 l);refine aQ ?_;repeat' (intro h<;>simp only[h,go_sem,go_sem_proc,fj,cG,gl,af]<;>try refine al ?_ ?_)
 all_goals simp only[hH,bF,cM, *,reduceIte,bX,cv,r1,nr,lY,lr,r2,eF,gQ,dm,kc,beq_self_eq_true,bne]
def tJ:=bU wq λ(s,l)=>cq (o l<=1000000) (.same (.bool (cV (s,l))))
@[go_sem] theorem azp (s:Int)(l:List Int)(E:(o l)<=1000000):tJ [.agg [.int .i64 s,.X (l.map Y)]]=some (.same (.bool (cV (s,l)))):=(b3 Ai (s,l)).trans (cw E _)
theorem al1 (T:br)  (s:Int) (l:List Int) (E:(o l)<=1000000):WP T RF (.same (.bool (cV (s,l)))) [.J (.agg [.int .i64 s,.X (l.map Y)])]:=by
 refine b4 ?_;simp only[RF];simp only[go_sem,go_sem_proc,af];refine dw [1] [162001] (λ(i:Nat) tm mem=>i<=o l/\l.all lZ=(l.drop i).all lZ/\tm 3=.J (.int .i64 i)) (λi=>o l-i) 0 (by refine⟨by omega,by simp,rfl⟩) ?_;intro vs ms a7 aY;simp only[go_sem,go_sem_proc,af] at a7 aY;subst a7 aY;rintro i tm mem R hm ⟨Q,aN,ag⟩;simp only[go_sem,go_sem_proc,bn] at R hm;have D:=R;rcases dG (i<o l) with az|cb
 ·have ae:l.drop i=l[i]::l.drop (i+1):=iI az;have I:l[i]?=some l[i]:=bL az;generalize l[i]=x at *;have d1:decide ((i:Int)<(o l:Int))=true:=dn
  have kj:∀b,lZ x=true->b=(l.drop (i+1)).all lZ->l.all lZ=b:=by
   intro b D G;rw[aN,ae,Cd,D,G,eF]
  have Gt:¬ lZ x=true->cV (s,l)=false:=by
   intro D;rw[Bool.not_eq_true] at D;unfold cV;rw[aN,ae,Cd,D]
   rfl
  have cn:=eY (i:=i) (by omega);simp only[go_sem,go_sem_proc,D,ag,hm,I,d1,cn,Y,af,bb,bn];repeat' (first|refine al ?_ ?_|fail)<;>intro h<;>simp only[h,go_sem,go_sem_proc,D,ag,hm,I,d1,cn,Y,af,bb,bn]
  ·rw[Gt λh=>by have:=(GJ x).1 h;(simp only[cz,Data.bool.injEq,Data.int.injEq,true_and,decide_eq_true_eq,decide_eq_false_iff_not,kc,beq_iff_eq,beq_eq_false_iff_ne,ne_eq] at*<;> omega)]
  ·exact⟨i+1,by omega,by omega,kj _ ((GJ x).2 (by (simp only[cz,Data.bool.injEq,Data.int.injEq,true_and,decide_eq_true_eq,decide_eq_false_iff_not,kc,beq_iff_eq,beq_eq_false_iff_ne,ne_eq] at*<;> omega))) rfl,rfl⟩
  ·rw[Gt λh=>by have:=(GJ x).1 h;(simp only[cz,Data.bool.injEq,Data.int.injEq,true_and,decide_eq_true_eq,decide_eq_false_iff_not,kc,beq_iff_eq,beq_eq_false_iff_ne,ne_eq] at*<;> omega)]
 ·have he:l.drop i=[]:=List.drop_eq_nil_of_le (by omega);rw[he] at aN;have eE:l.all lZ=true:=by rw[aN];rfl
  have d1:decide ((i:Int)<(o l:Int))=false:=cY;rcases List.eq_nil_or_concat l with rfl|⟨r,x,rfl⟩
  ·have d2:decide ((i:Int)<0)=false:=d1;simp only[go_sem,go_sem_proc,D,ag,hm,d2,mj,jT,ki,beq_self_eq_true,cM,bne];repeat' (first|refine al ?_ ?_|fail)<;>intro h<;>simp only[h,go_sem,go_sem_proc,D,ag,hm,d2,mj,jT,ki,beq_self_eq_true,cM,bne]
   all_goals (refine congrArg (λb=>some (Data.bool b)) ?_;unfold cV;simp;try simp only[decide_eq_true_eq,decide_eq_false_iff_not,beq_iff_eq,beq_eq_false_iff_ne,yz,aaT,beq_eq_false_iff_ne,ne_eq] at *;omega)
  ·rw[List.concat_eq_append] at *;have bZ:(((r++[x]).length:Int)==0)=false:=by simp;omega
   have hw:IntKind.i64.wrap (((r++[x]).length:Int)-1)=(o r:Int):=by
    have bp:(r++[x]).length=o r+1:=by simp
    rw[eQ _];omega
   have bw:((r++[x]).map Y)[o r]?=some [.int .i64 x]:=by simp[Y]
   have U:cV (s,r++[x])=((s==1||s == -1)&&decide (((r++[x]).length:Int)<=60)&&(x != 0)):=by
    unfold cV;rw[eE];simp only[List.getLast?_append,List.getLast?_singleton];simp;have aw:decide (o r<=59)=decide ((o r:Int)+1<=60):=decide_eq_decide.2 (by omega);have aB:(some x != some (0:Int))=(x != 0):=by simp[bne]
    rw[aw,aB]
   rw[U];simp only[go_sem,go_sem_proc,D,ag,hm,d1,bZ,hw,bw,af];repeat' (first|refine al ?_ ?_|fail)<;>intro h<;>simp only[h,go_sem,go_sem_proc,D,ag,hm,d1,bZ,hw,bw,af]
   all_goals (refine congrArg (λb=>some (Data.bool b)) ?_;clear aN eE U bw hw R hm D ag d1;rw[q8];simp only[eX,Bool.or_eq_true,decide_eq_true_eq,decide_eq_false_iff_not,beq_iff_eq,beq_eq_false_iff_ne,yz,aaT,ne_eq,kc,false_iff,true_iff] at *;omega)
def K5:=bU wq λ(s,l)=>cq (o l<=1000000) (.same (.agg (bF (gn (s,l)))))
@[go_sem] theorem azq (s:Int)(l:List Int)(E:(o l)<=1000000):K5 [.agg [.int .i64 s,.X (l.map Y)]]=some (.same (.agg (bF (gn (s,l))))):=(b3 Ai (s,l)).trans (cw E _)
theorem al2 (T:br)(dH:T jw=aK tJ)(eD:T mU=aK yy)(s:Int)(l:List Int)(E:(o l)<=1000000):WP T RG (.same (.agg (bF (gn (s,l))))) [.J (.agg [.int .i64 s,.X (l.map Y)])]:=by
 refine b4 ?_;simp only[RG]
 by_cases U:cV (s,l)=true
 ·obtain⟨z,a8,e⟩:=(gR _).1 U;have aw:gn (s,l)=bc (-z):=by unfold gn;rw[aj U,e,eo]
  cases e
  have hw:IntKind.i64.wrap (0-z.sign) = -z.sign:=by
   have:=Int.sign_trichotomy z;rw[eQ _];omega
  rw[aw];refine aQ ?_;repeat' (intro h<;>simp only[h,go_sem,go_sem_proc,dH,eD,U,E,hw,ZT,bF]<;>try refine al ?_ ?_)
 ·have U:cV (s,l)=false:=by simpa using U
  have aw:gn (s,l)=(0,[]):=by unfold gn;rw[U];rfl
  rw[aw];refine aQ ?_;repeat' (intro h<;>simp only[h,go_sem,go_sem_proc,dH,eD,U,E,bF,cM]<;>try refine al ?_ ?_)
theorem aaU (n:Int):(n.tmod 1048576).natAbs=n.natAbs%1048576:=by rw[Int.natAbs_tmod];rfl
theorem aaV (n:Int):(n.tdiv 1048576).natAbs=n.natAbs/1048576:=by rw[Int.natAbs_tdiv];rfl
def K6:=bU tq λ(n:Int)=>cq (c8 n) (.same (.agg (bF (bc n))))
@[go_sem] theorem azr (n:Int)(E:c8 n):K6 [.int .i64 n]=some (.same (.agg (bF (bc n)))):=(b3 wo n).trans (cw E _)
theorem al3 (T:br)(eD:T mU=aK yy)(n:Int)(E:c8 n):WP T RE (.same (.agg (bF (bc n)))) [.J (.int .i64 n)]:=by
 refine b4 ?_;simp only[RE];have jr:=E;unfold c8 at jr;obtain⟨oO,pS⟩:=jr;have hlen:(aD n.natAbs).length<=60:=fC.2 (u9 E);rcases dG (n=0) with rfl|mN
 ·simp only[go_sem,go_sem_proc,eD,bF,beq_self_eq_true];repeat' (first|refine al ?_ ?_|fail)<;>intro h<;>simp only[h,go_sem,go_sem_proc,eD,bF,beq_self_eq_true]
  rfl
 have bZ:(n==0)=false:=by simpa using mN
 have aa:∀s:Int,s=n.sign->hH s (aD n.natAbs)=bc n:=λs h=>lC rfl λ_=>h;have sm:(aD n.natAbs).length<=1000000:=by omega
 rcases dG (n<0) with jf|hT
 ·have sv:=aa (-1) (jY jf).symm;simp only[go_sem,go_sem_proc,eD,bZ,jf,decide_true];refine dw [2,3] [144002] (λ((u,g,l):Int×Nat×List Int) tm mem=>u<=0/\n<=u/\aD n.natAbs=l++aD u.natAbs/\tm 0=.J (.int .i64 u)/\tm 4=.ref 144022 g 1 0 (o l)/\mem 144022=some (g,bK Y l)) (λ(u,_)=>u.natAbs) (n,0,[]) (by refine⟨by omega,by omega,rfl,rfl,rfl,rfl⟩) ?_;intro vs ms a7 aY;simp only[go_sem,go_sem_proc,eD,jf,decide_true] at a7 aY;subst a7 aY;rintro⟨u,g,l⟩ tm mem R hm ⟨hu,al4,ae,au,aR,tK⟩;simp only[go_sem,go_sem_proc,eD,bn] at R hm;obtain⟨G,ag⟩:=R;rcases dG (u=0) with rfl|C3
  ·rw[show (0:Int).natAbs=0 from rfl,qU,gk] at ae;rw[ae] at sv sm;simp only[go_sem,go_sem_proc,eD,au,G,ag,aR,hm,tK,sv,sm,ml fR,k4,bF,af,beq_self_eq_true];repeat' (first|refine al ?_ ?_|fail)<;>intro h<;>simp only[h,go_sem,go_sem_proc,eD,au,G,ag,aR,hm,tK,sv,sm,ml fR,k4,bF,af,beq_self_eq_true]
  ·have wF:(o l)<=60:=by
    have:=congrArg o ae;rw[fE] at this;omega
   have u2:(u==0)=false:=by simpa using C3
   have ev:=λd:Int=>o4 fR o5 144022 g 8 l d (cs:=[.J (.int .i64 d)]) rfl (by omega) (by omega);have aw:=aaU u;have aB:=aaV u;have cI:u.tmod 1048576<=0:=by have:=aaW (a:=-u) 1048576 (by omega);rw[Int.neg_tmod] at this;omega
   have gJ:u.tdiv 1048576<=0/\u<=u.tdiv 1048576:=by
    have:=aaX (a:=-u) (b:=1048576) (by omega) (by omega);rw[Int.neg_tdiv] at this;omega
   have pa:IntKind.i64.wrap (u.tdiv 1048576)=u.tdiv 1048576:=wrap64 _ (by omega) (by omega);have fL:IntKind.i64.wrap (0-u.tmod 1048576) = -(u.tmod 1048576):=by rw[eQ _];omega
   have sj:=r5 (n:=u.natAbs) (by omega)
   have kj:∀d:Int,d=((u.natAbs%1048576:Nat):Int)->∃bt:Int×Nat×List Int,bt.1.natAbs<u.natAbs/\bt.1<=0/\n<=bt.1/\aD n.natAbs=bt.2.2++aD bt.1.natAbs/\O.J (.int .i64 (u.tdiv 1048576))=O.J (.int .i64 bt.1)/\O.ref 144022 (g+1) 1 0 (o l+1)=O.ref 144022 bt.2.1 1 0 bt.2.2.length/\some (g+1,bK Y (l++[d]))=some (bt.2.1,bK Y bt.2.2):=by
    intro d xz;refine⟨(u.tdiv 1048576,g+1,l++[d]),by dsimp only;omega,by dsimp only;omega,by dsimp only;omega,?_,rfl,by simp,rfl⟩
    dsimp only;rw[ae,sj,xz,aB,gZ]
    rfl
   by_cases a8:u.tmod 1048576<0
   ·simp only[go_sem,go_sem_proc,eD,au,G,ag,aR,hm,tK,u2,ev,pa,fL,a8,decide_true,af,bn];repeat' (first|refine al ?_ ?_|fail)<;>intro h<;>simp only[h,go_sem,go_sem_proc,eD,au,G,ag,aR,hm,tK,u2,ev,pa,fL,a8,decide_true,af,bn]
    exact kj _ (by omega)
   ·simp only[go_sem,go_sem_proc,eD,au,G,ag,aR,hm,tK,u2,ev,pa,fL,a8,decide_false,af,bn];repeat' (first|refine al ?_ ?_|fail)<;>intro h<;>simp only[h,go_sem,go_sem_proc,eD,au,G,ag,aR,hm,tK,u2,ev,pa,fL,a8,decide_false,af,bn]
    exact kj _ (by omega)
 ·have sv:=aa 1 (fS (by omega)).symm;simp only[go_sem,go_sem_proc,eD,bZ,hT,decide_false];refine dw [2,3] [144002] (λ((u,g,l):Int×Nat×List Int) tm mem=>0<=u/\u<=n/\aD n.natAbs=l++aD u.natAbs/\tm 0=.J (.int .i64 u)/\tm 4=.ref 144022 g 1 0 (o l)/\mem 144022=some (g,bK Y l)) (λ(u,_)=>u.natAbs) (n,0,[]) (by refine⟨by omega,by omega,rfl,rfl,rfl,rfl⟩) ?_;intro vs ms a7 aY;simp only[go_sem,go_sem_proc,eD,hT,decide_false] at a7 aY;subst a7 aY;rintro⟨u,g,l⟩ tm mem R hm ⟨hu,al4,ae,au,aR,tK⟩;simp only[go_sem,go_sem_proc,eD,bn] at R hm;obtain⟨G,ag⟩:=R;rcases dG (u=0) with rfl|C3
  ·rw[show (0:Int).natAbs=0 from rfl,qU,gk] at ae;rw[ae] at sv sm;simp only[go_sem,go_sem_proc,eD,au,G,ag,aR,hm,tK,sv,sm,ml fR,k4,bF,af,beq_self_eq_true];repeat' (first|refine al ?_ ?_|fail)<;>intro h<;>simp only[h,go_sem,go_sem_proc,eD,au,G,ag,aR,hm,tK,sv,sm,ml fR,k4,bF,af,beq_self_eq_true]
  ·have wF:(o l)<=60:=by
    have:=congrArg o ae;rw[fE] at this;omega
   have u2:(u==0)=false:=by simpa using C3
   have ev:=λd:Int=>o4 fR o5 144022 g 8 l d (cs:=[.J (.int .i64 d)]) rfl (by omega) (by omega);have aw:=aaU u;have aB:=aaV u;have cI:=aaW (a:=u) 1048576 (by omega);have gJ:=aaX (a:=u) (b:=1048576) (by omega) (by omega);have pa:IntKind.i64.wrap (u.tdiv 1048576)=u.tdiv 1048576:=wrap64 _ (by omega) (by omega);have sj:=r5 (n:=u.natAbs) (by omega);have a8:decide (u.tmod 1048576<0)=false:=cY;simp only[go_sem,go_sem_proc,eD,au,G,ag,aR,hm,tK,u2,ev,pa,a8,af,bn];repeat' (first|refine al ?_ ?_|fail)<;>intro h<;>simp only[h,go_sem,go_sem_proc,eD,au,G,ag,aR,hm,tK,u2,ev,pa,a8,af,bn]
   refine⟨(u.tdiv 1048576,g+1,l++[u.tmod 1048576]),by dsimp only;omega,by dsimp only;omega,by dsimp only;omega,?_,rfl,by simp,by first|rfl|simp[go_sem]⟩
   dsimp only;rw[ae,sj,aB,gZ,show u.tmod 1048576=((u.natAbs%1048576:Nat):Int) by omega]
   rfl
def mz (a b:Raw):Bool:=decide (a=b)
def R7:=bU nA λ(s,l,s2,ab)=>cq (o l<=1000000/\o ab<=1000000) (.same (.bool (mz (s,l) (s2,ab))))
@[go_sem] theorem azs (s:Int)(l:List Int)(s2:Int)(ab:List Int)(E:(o l)<=1000000/\o ab<=1000000):R7 [.agg [.int .i64 s,.X (l.map Y)],.agg [.int .i64 s2,.X (ab.map Y)]]=some (.same (.bool (mz (s,l) (s2,ab)))):=(b3 ph (s,l,s2,ab)).trans (cw E _)
theorem al5 (T:br)  (s:Int) (l:List Int) (s2:Int) (ab:List Int) (E:(o l)<=1000000/\o ab<=1000000):WP T RV (.same (.bool (mz (s,l) (s2,ab)))) [.J (.agg [.int .i64 s,.X (l.map Y)]),.J (.agg [.int .i64 s2,.X (ab.map Y)])]:=by
 refine b4 ?_;simp only[RV];obtain⟨bk,bp⟩:=E
 by_cases aa:s=s2
 ·subst aa
  by_cases ax:(o l)=o ab
  ·have aw:(((o l:Nat):Int)==((o ab:Nat):Int))=true:=by simp;omega
   simp only[go_sem,go_sem_proc,beq_self_eq_true,af,aw,bX,bne];refine dw [2,3] [210002,210003] (λ(i:Nat) tm mem=>i<=o l/\l.take i=ab.take i/\tm 5=.J (.int .i64 i)) (λi=>o l-i) 0 (by refine⟨by omega,by simp,rfl⟩) ?_;intro vs ms a7 aY;simp only[go_sem,go_sem_proc,af] at a7 aY;subst a7 aY;rintro i tm mem R hm ⟨Q,aN,bs⟩;simp only[go_sem,go_sem_proc,bn] at R hm;obtain⟨G,ag⟩:=R;obtain⟨cE,hv⟩:=hm;rcases dG (i<o l) with az|cb
   ·have I:l[i]?=some l[i]:=bL az;have ak:ab[i]?=some ab[i]:=bL (by omega);have oO:l.take (i+1)=l.take i++[l[i]]:=by rw[fQ,I];rfl
    have pS:ab.take (i+1)=ab.take i++[ab[i]]:=by rw[fQ,ak];rfl
    generalize l[i]=x at *;generalize ab[i]=y at *;have d1:decide ((i:Int)<(o l:Int))=true:=dn;have cn:=eY (i:=i) (by omega)
    by_cases gw:x=y
    ·subst gw;simp only[go_sem,go_sem_proc,G,ag,bs,cE,hv,I,ak,d1,cn,Y,af,bb,bn,beq_self_eq_true,bX];repeat' (first|refine al ?_ ?_|fail)<;>intro h<;>simp only[h,go_sem,go_sem_proc,G,ag,bs,cE,hv,I,ak,d1,cn,Y,af,bb,bn,beq_self_eq_true,bX]
     exact⟨i+1,by omega,by omega,by rw[oO,pS,aN],rfl⟩
    ·have bZ:(x==y)=false:=by simpa using gw
     have U:mz (s,l) (s,ab)=false:=by
      refine gr λh=>gw ?_;rw[eU] at h;rw[h.2,ak] at I;exact (ln I).symm
     rw[U];simp only[go_sem,go_sem_proc,G,ag,bs,cE,hv,I,ak,d1,cn,bZ,Y,af,bb,bn,cv];repeat' (first|refine al ?_ ?_|fail)<;>intro h<;>simp only[h,go_sem,go_sem_proc,G,ag,bs,cE,hv,I,ak,d1,cn,bZ,Y,af,bb,bn,cv]
   ·have d1:decide ((i:Int)<(o l:Int))=false:=cY
    have U:mz (s,l) (s,ab)=true:=by
     refine hc ?_;rw[du (by omega),du (by omega)] at aN;rw[aN]
    rw[U];simp only[go_sem,go_sem_proc,G,ag,bs,cE,hv,d1,af];repeat' (first|refine al ?_ ?_|fail)<;>intro h<;>simp only[h,go_sem,go_sem_proc,G,ag,bs,cE,hv,d1,af]
  ·have aw:(((o l:Nat):Int)==((o ab:Nat):Int))=false:=by simp;omega
   have U:mz (s,l) (s,ab)=false:=by
    refine gr λh=>ax ?_;rw[eU] at h;rw[h.2]
   rw[U];simp only[go_sem,go_sem_proc,beq_self_eq_true,af,aw,bX,cv,bne];repeat' (first|refine al ?_ ?_|fail)<;>intro h<;>simp only[h,go_sem,go_sem_proc,beq_self_eq_true,af,aw,bX,cv,bne]
 ·have bZ:(s==s2)=false:=by simpa using aa
  have U:mz (s,l) (s2,ab)=false:=by
   refine gr λh=>aa ?_;rw[eU] at h;exact h.1
  rw[U];simp only[go_sem,go_sem_proc,bZ,af,bX,cv,bne];repeat' (first|refine al ?_ ?_|fail)<;>intro h<;>simp only[h,go_sem,go_sem_proc,bZ,af,bX,cv,bne]
def K7:=bU wq λ(s,l)=>some (.same (c0 (u6 (s,l))))
@[go_sem] theorem azt (s:Int)(l:List Int):K7 [.agg [.int .i64 s,.X (l.map Y)]]=some (.same (c0 (u6 (s,l)))):=b3 Ai (s,l)
theorem al6 (T:br)  (s:Int) (l:List Int):WP T RU (.same (c0 (u6 (s,l)))) [.J (.agg [.int .i64 s,.X (l.map Y)])]:=by
 refine b4 ?_;simp only[RU];refine aQ ?_;repeat' (intro h<;>simp only[h,go_sem,go_sem_proc,af]<;>try refine al ?_ ?_)
 all_goals (simp only[c0,bF,u6];simp only[cM, *,reduceIte,bX,cv,r1,nr,lY,lr,r2,eF,gQ,dm,kc,beq_self_eq_true,bne])
theorem al7 {x y:Int}(h:bc x=bc y):x=y:=by rw[<-eo x,h,eo]
def K8:=bU nA λ(s,l,s2,ab)=>cq (o l<=1000000/\o ab<=1000000) (.same (.int .i64 (l1 (s,l) (s2,ab))))
@[go_sem] theorem azu (s:Int)(l:List Int)(s2:Int)(ab:List Int)(E:(o l)<=1000000/\o ab<=1000000):K8 [.agg [.int .i64 s,.X (l.map Y)],.agg [.int .i64 s2,.X (ab.map Y)]]=some (.same (.int .i64 (l1 (s,l) (s2,ab)))):=(b3 ph (s,l,s2,ab)).trans (cw E _)
theorem al8 (T:br)(dH:T jw=aK tJ)(qb:T Oy=aK R7)(ft:T xV=aK Dg)(s:Int)(l:List Int)(s2:Int)(ab:List Int)(E:(o l)<=1000000/\o ab<=1000000):WP T RS (.same (.int .i64 (l1 (s,l) (s2,ab)))) [.J (.agg [.int .i64 s,.X (l.map Y)]),.J (.agg [.int .i64 s2,.X (ab.map Y)])]:=by
 refine b4 ?_;simp only[RS];obtain⟨bk,bp⟩:=E
 by_cases U:cV (s,l)=true
 ·by_cases aZ:cV (s2,ab)=true
  ·obtain⟨x,I,e⟩:=(gR _).1 U;obtain⟨y,ak,aB⟩:=(gR _).1 aZ;have hm:l1 (s,l) (s2,ab)=fh x y:=by rw[e,aB];exact GN I ak
   rw[hm];clear hm
   have jZ:mz (s,l) (s2,ab)=decide (x=y):=by
    rw[e,aB];exact decide_eq_decide.2 ⟨al7,λh=>by rw[h]⟩
   cases e
   cases aB;have k2:=lD I;have iM:=lD ak
   by_cases gw:x=y
   ·subst gw;rw[hc rfl] at jZ;rw[CY];simp only[go_sem,go_sem_proc,dH,qb,ft,U,aZ,bk,bp,jZ];repeat' (first|refine al ?_ ?_|fail)<;>intro h<;>simp only[h,go_sem,go_sem_proc,dH,qb,ft,U,aZ,bk,bp,jZ]
   ·rw[gr gw] at jZ;have gl:=RY x.natAbs y.natAbs ⟨by omega,by omega⟩
    simp only[bW] at gl
    have K9:fh x y=if x<y then -1 else 1:=by
     rcases q3 x y with h|h|h
     ·rw[wI h,aj h]
     ·exact absurd h gw
     ·rw[AD h,aq (by omega)]
    rw[K9]
    by_cases aa:x.sign=y.sign
    ·have lF:(x.sign==y.sign)=true:=by simpa using aa
     have hD:(decide (x.natAbs<y.natAbs)==decide (x.sign>0))=decide (x<y):=by
      rw[Bool.beq_eq_decide_eq,decide_eq_decide];simp only[decide_eq_decide];rcases jh x with ⟨e,D⟩|⟨e,D⟩|⟨e,D⟩<;>rcases jh y with ⟨e',G⟩|⟨e',G⟩|⟨e',G⟩<;>rw[e,e'] at aa<;>first|omega|skip
     by_cases az:x<y
     ·rw[hc az] at hD;rw[aj az];simp only[go_sem,go_sem_proc,dH,qb,ft,U,aZ,bk,bp,jZ,lF,gl,hD,bX,bne];repeat' (first|refine al ?_ ?_|fail)<;>intro h<;>simp only[h,go_sem,go_sem_proc,dH,qb,ft,U,aZ,bk,bp,jZ,lF,gl,hD,bX,bne]
     ·rw[gr az] at hD;rw[aq az];simp only[go_sem,go_sem_proc,dH,qb,ft,U,aZ,bk,bp,jZ,lF,gl,hD,bX,bne];repeat' (first|refine al ?_ ?_|fail)<;>intro h<;>simp only[h,go_sem,go_sem_proc,dH,qb,ft,U,aZ,bk,bp,jZ,lF,gl,hD,bX,bne]
    ·have lF:(x.sign==y.sign)=false:=by simpa using aa
     have hD:decide (x.sign<y.sign)=decide (x<y):=by
      rw[decide_eq_decide];rcases jh x with ⟨e,D⟩|⟨e,D⟩|⟨e,D⟩<;>rcases jh y with ⟨e',G⟩|⟨e',G⟩|⟨e',G⟩<;>rw[e,e'] at aa ⊢<;>omega
     by_cases az:x<y
     ·rw[hc az] at hD;rw[aj az];simp only[go_sem,go_sem_proc,dH,qb,ft,U,aZ,bk,bp,jZ,lF,hD,cv,bne];repeat' (first|refine al ?_ ?_|fail)<;>intro h<;>simp only[h,go_sem,go_sem_proc,dH,qb,ft,U,aZ,bk,bp,jZ,lF,hD,cv,bne]
     ·rw[gr az] at hD;rw[aq az];simp only[go_sem,go_sem_proc,dH,qb,ft,U,aZ,bk,bp,jZ,lF,hD,cv,bne];repeat' (first|refine al ?_ ?_|fail)<;>intro h<;>simp only[h,go_sem,go_sem_proc,dH,qb,ft,U,aZ,bk,bp,jZ,lF,hD,cv,bne]
  ·have aZ:cV (s2,ab)=false:=by simpa using aZ
   have hm:l1 (s,l) (s2,ab)=0:=by unfold l1;rw[aZ,gQ];rfl
   rw[hm];simp only[go_sem,go_sem_proc,dH,qb,ft,U,aZ,bk,bp];repeat' (first|refine al ?_ ?_|fail)<;>intro h<;>simp only[h,go_sem,go_sem_proc,dH,qb,ft,U,aZ,bk,bp]
 ·have U:cV (s,l)=false:=by simpa using U
  have hm:l1 (s,l) (s2,ab)=0:=by unfold l1;rw[U,dm];rfl
  rw[hm];simp only[go_sem,go_sem_proc,dH,qb,ft,U,bk,bp];repeat' (first|refine al ?_ ?_|fail)<;>intro h<;>simp only[h,go_sem,go_sem_proc,dH,qb,ft,U,bk,bp]
def La:=bU nA λ(s,l,s2,ab)=>cq (o l<=1000000/\o ab<=1000000) (.same (c0 (jC (s,l) (s2,ab))))
@[go_sem] theorem azv (s:Int)(l:List Int)(s2:Int)(ab:List Int)(E:(o l)<=1000000/\o ab<=1000000):La [.agg [.int .i64 s,.X (l.map Y)],.agg [.int .i64 s2,.X (ab.map Y)]]=some (.same (c0 (jC (s,l) (s2,ab)))):=(b3 ph (s,l,s2,ab)).trans (cw E _)
theorem al9 (T:br)(dH:T jw=aK tJ)(l5:T F3=aK K1)(eD:T mU=aK yy)(s:Int)(l:List Int)(s2:Int)(ab:List Int)(E:(o l)<=1000000/\o ab<=1000000):WP T RH (.same (c0 (jC (s,l) (s2,ab)))) [.J (.agg [.int .i64 s,.X (l.map Y)]),.J (.agg [.int .i64 s2,.X (ab.map Y)])]:=by
 refine b4 ?_;simp only[RH];obtain⟨bk,bp⟩:=E
 by_cases U:cV (s,l)=true
 ·by_cases aZ:cV (s2,ab)=true
  ·obtain⟨x,I,e⟩:=(gR _).1 U;obtain⟨y,ak,aB⟩:=(gR _).1 aZ
   have hm:jC (s,l) (s2,ab)=(bc (gb x.natAbs y.natAbs:Nat),0):=by
    rw[e,aB];unfold jC
    rw[iO I,iO ak,eo,eo]
    rfl
   rw[hm];clear hm
   cases e
   cases aB;have k2:=lD I;have iM:=lD ak;have bw:=CZ I ak;generalize p4:x.natAbs=dR at *;generalize wJ:y.natAbs=fs at *;have C0:(aD dR).length<=1000000:=by omega
   simp only[go_sem,go_sem_proc,dH,l5,eD,U,aZ,p4,wJ,bk,bp,C0,Y,af];refine dw [4] [164004] (λ((a,b):Nat×Nat) tm mem=>a<c9/\b<c9/\gb dR fs=gb a b/\tm 6=.J (.X ((aD a).map Y))/\tm 7=.J (.X ((aD b).map Y))) (λ(_,b)=>b) (dR,fs) (by refine⟨I,ak,rfl,rfl,rfl⟩) ?_;intro vs ms a7 aY;simp only[go_sem,go_sem_proc,dH,l5,eD,p4,wJ] at a7 aY;subst a7 aY;rintro⟨a,b⟩ tm mem R hm ⟨aM,ah,AE,b1,cd⟩;simp only[go_sem,go_sem_proc,dH,l5,eD,bn] at R hm;have aR:=R;have hG:(aD a).length<=60:=fC.2 aM;have je:(aD b).length<=60:=fC.2 ah;rcases jo b with au|hT
   ·subst au;have a8:aD 0=[]:=rfl;have Qo:(aD a).length<=1000000:=by omega
    rw[ZU] at AE;have aa:hH 1 (aD a)=bc ((a:Nat):Int):=lC (by simp) λaL=>(fS (by omega)).symm;rw[AE];refine aQ ?_;repeat' (intro h<;>simp only[h,go_sem,go_sem_proc,dH,l5,eD,aR,b1,cd,hm,a8,Qo,aa,bF,c0,hJ,cM,mj,jT,ki,show ¬ ((0:Int)>0) by omega,decide_false]<;>try refine al ?_ ?_)
   ·have bZ:decide (((aD b).length:Int)>0)=true:=by
     have:aD b≠[]:=by rw[Ne,we];omega
     have:=KA.2 this;exact dn
    have hdiv:=aaP a b ⟨by omega,by omega,hT⟩
    simp only[bW] at hdiv;refine aQ ?_;repeat' (intro h<;>simp only[h,go_sem,go_sem_proc,dH,l5,eD,aR,b1,cd,hm,bZ,hdiv,af]<;>try refine al ?_ ?_)
    exact⟨(b,a%b),oj _ hT,ah,q0 (Nat.mod_le _ _) aM,by dsimp only;rw[AE,KB a b,ZV b a,KB],rfl,rfl⟩
  ·have aZ:cV (s2,ab)=false:=by simpa using aZ
   have hm:jC (s,l) (s2,ab)=((0,[]),1):=by unfold jC;rw[aZ,gQ];rfl
   rw[hm];refine aQ ?_;repeat' (intro h<;>simp only[h,go_sem,go_sem_proc,dH,l5,eD,U,aZ,bk,bp,bF,c0,cM]<;>try refine al ?_ ?_)
 ·have U:cV (s,l)=false:=by simpa using U
  have hm:jC (s,l) (s2,ab)=((0,[]),1):=by unfold jC;rw[U,dm];rfl
  rw[hm];refine aQ ?_;repeat' (intro h<;>simp only[h,go_sem,go_sem_proc,dH,l5,eD,U,bk,bp,bF,c0,cM]<;>try refine al ?_ ?_)
def Dn:=bU nA λ(s,l,s2,ab)=>cq (o l<=1000000/\o ab<=1000000) (.same (c0 (mulR (s,l) (s2,ab))))
@[go_sem] theorem azw (s:Int)(l:List Int)(s2:Int)(ab:List Int)(E:(o l)<=1000000/\o ab<=1000000):Dn [.agg [.int .i64 s,.X (l.map Y)],.agg [.int .i64 s2,.X (ab.map Y)]]=some (.same (c0 (mulR (s,l) (s2,ab)))):=(b3 ph (s,l,s2,ab)).trans (cw E _)
theorem ama (T:br)(dH:T jw=aK tJ)(k8:T z2=aK Hf)(eD:T mU=aK yy)(m1:T z6=aK K7)(s:Int)(l:List Int)(s2:Int)(ab:List Int)(E:(o l)<=1000000/\o ab<=1000000):WP T RQ (.same (c0 (mulR (s,l) (s2,ab)))) [.J (.agg [.int .i64 s,.X (l.map Y)]),.J (.agg [.int .i64 s2,.X (ab.map Y)])]:=by
 refine b4 ?_;simp only[RQ];obtain⟨bk,bp⟩:=E
 by_cases U:cV (s,l)=true
 ·by_cases aZ:cV (s2,ab)=true
  ·obtain⟨x,I,e⟩:=(gR _).1 U;obtain⟨y,ak,aB⟩:=(gR _).1 aZ;have hm:mulR (s,l) (s2,ab)=mq (x*y):=by rw[e,aB];exact q4 I ak
   rw[hm];clear hm
   cases e
   cases aB;have D:=lE x;have G:=lE y;have aG:x.sign*y.sign=(x*y).sign:=(mX x y).symm;have ag:=lE (x*y);have hw:IntKind.i64.wrap (x.sign*y.sign)=(x*y).sign:=by rw[aG];exact wrap64 _ (by omega) (by omega)
   have hmul:=R2 x.natAbs y.natAbs ⟨eG (lD I) (by omega),eG (lD ak) (by omega)⟩;simp only[bW] at hmul
   have hlen:(aD (x.natAbs*y.natAbs)).length<=1000000:=by
    refine eG ((fC (k:=120)).2 ?_) (by omega);have:(1048576^120:Nat)=c9*c9:=by unfold c9;rw[<-Nat.pow_add]
    rw[this];exact Nat.mul_lt_mul'' I ak
   have aa:hH (x*y).sign (aD (x.natAbs*y.natAbs))=bc (x*y):=lC (nz x y) λ_=>rfl;refine aQ ?_;repeat' (intro h<;>simp only[h,go_sem,go_sem_proc,dH,k8,eD,m1,U,aZ,bk,bp,hw,hmul,hlen,aa,mr,bF,c0,hJ]<;>try refine al ?_ ?_)
  ·have aZ:cV (s2,ab)=false:=by simpa using aZ
   have hm:mulR (s,l) (s2,ab)=((0,[]),1):=by unfold mulR;rw[aZ,gQ];rfl
   rw[hm];refine aQ ?_;repeat' (intro h<;>simp only[h,go_sem,go_sem_proc,dH,k8,eD,m1,U,aZ,bk,bp,bF,c0,cM]<;>try refine al ?_ ?_)
 ·have U:cV (s,l)=false:=by simpa using U
  have hm:mulR (s,l) (s2,ab)=((0,[]),1):=by unfold mulR;rw[U,dm];rfl
  rw[hm];refine aQ ?_;repeat' (intro h<;>simp only[h,go_sem,go_sem_proc,dH,k8,eD,m1,U,bk,bp,bF,c0,cM]<;>try refine al ?_ ?_)
def Lb:=bU nA λ(s,l,s2,ab)=>cq (o l<=1000000/\o ab<=1000000) (.same (c0 (iP (s,l) (s2,ab))))
@[go_sem] theorem azx (s:Int)(l:List Int)(s2:Int)(ab:List Int)(E:(o l)<=1000000/\o ab<=1000000):Lb [.agg [.int .i64 s,.X (l.map Y)],.agg [.int .i64 s2,.X (ab.map Y)]]=some (.same (c0 (iP (s,l) (s2,ab)))):=(b3 ph (s,l,s2,ab)).trans (cw E _)
theorem amb (T:br)(dH:T jw=aK tJ)(jj:T F4=aK KZ)(ft:T xV=aK Dg)(gp:T xU=aK He)(eD:T mU=aK yy)(m1:T z6=aK K7)(s:Int)(l:List Int)(s2:Int)(ab:List Int)(E:(o l)<=1000000/\o ab<=1000000):WP T RT (.same (c0 (iP (s,l) (s2,ab)))) [.J (.agg [.int .i64 s,.X (l.map Y)]),.J (.agg [.int .i64 s2,.X (ab.map Y)])]:=by
 refine b4 ?_;simp only[RT];obtain⟨bk,bp⟩:=E
 by_cases U:cV (s,l)=true
 ·by_cases aZ:cV (s2,ab)=true
  ·obtain⟨x,I,e⟩:=(gR _).1 U;obtain⟨y,ak,aB⟩:=(gR _).1 aZ;have hm:iP (s,l) (s2,ab)=mq (x+y):=by rw[e,aB];exact GM I ak
   rw[hm];clear hm
   cases e
   cases aB;have D:=lE x;have G:=lE y;have k2:=lD I;have iM:=lD ak;have akw:=CU x;have akx:=CU y
   have mv:(x.sign=1/\0<x)\/(x.sign=0/\x=0)\/(x.sign = -1/\x<0):=by
    rcases q3 x 0 with h|h|h
    ·exact .inr (.inr ⟨jY h,h⟩)
    ·exact .inr (.inl ⟨by rw[h];rfl,h⟩)
    ·exact .inl ⟨fS h,h⟩
   have ty:(y.sign=1/\0<y)\/(y.sign=0/\y=0)\/(y.sign = -1/\y<0):=by
    rcases q3 y 0 with h|h|h
    ·exact .inr (.inr ⟨jY h,h⟩)
    ·exact .inr (.inl ⟨by rw[h];rfl,h⟩)
    ·exact .inl ⟨fS h,h⟩
   have eT:=aaJ x.natAbs y.natAbs ⟨by omega,by omega⟩
   simp only[bW] at eT
   have hlen:(aD (x.natAbs+y.natAbs)).length<=1000000:=by
    refine eG ((fC (k:=61)).2 ?_) (by omega);have:(1048576^61:Nat)=c9*1048576:=by unfold c9;rw[<-r6]
    omega
   have fu:=RY x.natAbs y.natAbs ⟨by omega,by omega⟩
   simp only[bW] at fu
   by_cases aG:x.sign*y.sign>=0
   ·have mV:bits .or .i64 x.sign y.sign=tr [x.sign,y.sign]:=by
     rcases mv with ⟨e,_⟩|⟨e,_⟩|⟨e,_⟩<;>rcases ty with ⟨e',_⟩|⟨e',_⟩|⟨e',_⟩<;>rw[e,e'] at aG ⊢<;>first|rfl|exact absurd aG (by decide)
    have aa:hH (tr [x.sign,y.sign]) (aD (x.natAbs+y.natAbs))=bc (x+y):=by
     refine lC ?_ ?_
     ·rcases mv with ⟨e,_⟩|⟨e,_⟩|⟨e,_⟩<;>rcases ty with ⟨e',_⟩|⟨e',_⟩|⟨e',_⟩<;>rw[e,e'] at aG<;>omega
     ·intro aL;rcases mv with ⟨e,_⟩|⟨e,_⟩|⟨e,_⟩<;>rcases ty with ⟨e',_⟩|⟨e',_⟩|⟨e',_⟩<;>rw[e,e'] at aG ⊢
      ·exact (fS (by omega)).symm
      ·exact (fS (by omega)).symm
      ·omega
      ·exact (fS (by omega)).symm
      ·omega
      ·exact (jY (by omega)).symm
      ·omega
      ·exact (jY (by omega)).symm
      ·exact (jY (by omega)).symm
    rcases bm:(x.sign==0)
    ·rcases bN:(y.sign==0)
     ·have bO:(x.sign==y.sign)=true:=by
       rw[beq_eq_false_iff_ne] at bm bN;rw[beq_iff_eq];rcases mv with ⟨e,_⟩|⟨e,_⟩|⟨e,_⟩<;>rcases ty with ⟨e',_⟩|⟨e',_⟩|⟨e',_⟩<;>rw[e,e'] at aG ⊢<;>omega
      simp only[go_sem,go_sem_proc,dH,jj,ft,gp,eD,m1,U,aZ,bk,bp,bm,bN,bO,mV,eT,hlen,aa,mr,bF,c0,hJ];repeat' (first|refine al ?_ ?_|fail)<;>intro h<;>simp only[h,go_sem,go_sem_proc,dH,jj,ft,gp,eD,m1,U,aZ,bk,bp,bm,bN,bO,mV,eT,hlen,aa,mr,bF,c0,hJ]
     ·simp only[go_sem,go_sem_proc,dH,jj,ft,gp,eD,m1,U,aZ,bk,bp,bm,bN,mV,eT,hlen,aa,mr,bF,c0,hJ];repeat' (first|refine al ?_ ?_|fail)<;>intro h<;>simp only[h,go_sem,go_sem_proc,dH,jj,ft,gp,eD,m1,U,aZ,bk,bp,bm,bN,mV,eT,hlen,aa,mr,bF,c0,hJ]
    ·simp only[go_sem,go_sem_proc,dH,jj,ft,gp,eD,m1,U,aZ,bk,bp,bm,mV,eT,hlen,aa,mr,bF,c0,hJ];repeat' (first|refine al ?_ ?_|fail)<;>intro h<;>simp only[h,go_sem,go_sem_proc,dH,jj,ft,gp,eD,m1,U,aZ,bk,bp,bm,mV,eT,hlen,aa,mr,bF,c0,hJ]
   ·have bm:(x.sign==0)=false:=by
     rw[beq_eq_false_iff_ne];rcases mv with ⟨e,_⟩|⟨e,_⟩|⟨e,_⟩<;>rw[e] at aG ⊢<;>omega
    have bN:(y.sign==0)=false:=by
     rw[beq_eq_false_iff_ne];rcases ty with ⟨e,_⟩|⟨e,_⟩|⟨e,_⟩<;>rw[e] at aG ⊢<;>omega
    have bO:(x.sign==y.sign)=false:=by
     rw[beq_eq_false_iff_ne];rcases mv with ⟨e,_⟩|⟨e,_⟩|⟨e,_⟩<;>rcases ty with ⟨e',_⟩|⟨e',_⟩|⟨e',_⟩<;>rw[e,e'] at aG ⊢<;>omega
    by_cases az:x.natAbs<y.natAbs
    ·have q5:decide (x.natAbs<y.natAbs)=true:=hc az;have hn:=K0 y.natAbs x.natAbs ⟨by omega,by omega⟩
     simp only[bW] at hn;have tz:(aD (y.natAbs-x.natAbs)).length<=1000000:=eG (CX _ _) (by omega)
     have aa:hH y.sign (aD (y.natAbs-x.natAbs))=bc (x+y):=by
      refine lC ?_ ?_
      ·rcases mv with ⟨e,_⟩|⟨e,_⟩|⟨e,_⟩<;>rcases ty with ⟨e',_⟩|⟨e',_⟩|⟨e',_⟩<;>rw[e,e'] at aG<;>omega
      ·intro aL;rcases mv with ⟨e,_⟩|⟨e,_⟩|⟨e,_⟩<;>rcases ty with ⟨e',_⟩|⟨e',_⟩|⟨e',_⟩<;>rw[e,e'] at aG<;>rw[e']<;>first|omega|exact (fS (by omega)).symm|exact (jY (by omega)).symm
     simp only[go_sem,go_sem_proc,dH,jj,ft,gp,eD,m1,U,aZ,bk,bp,bm,bN,bO,fu,q5,hn,tz,aa,mr,bF,c0,hJ];repeat' (first|refine al ?_ ?_|fail)<;>intro h<;>simp only[h,go_sem,go_sem_proc,dH,jj,ft,gp,eD,m1,U,aZ,bk,bp,bm,bN,bO,fu,q5,hn,tz,aa,mr,bF,c0,hJ]
    ·have q5:decide (x.natAbs<y.natAbs)=false:=gr az;have hn:=K0 x.natAbs y.natAbs ⟨by omega,by omega⟩
     simp only[bW] at hn;have tz:(aD (x.natAbs-y.natAbs)).length<=1000000:=eG (CX _ _) (by omega)
     have aa:hH x.sign (aD (x.natAbs-y.natAbs))=bc (x+y):=by
      refine lC ?_ ?_
      ·rcases mv with ⟨e,_⟩|⟨e,_⟩|⟨e,_⟩<;>rcases ty with ⟨e',_⟩|⟨e',_⟩|⟨e',_⟩<;>rw[e,e'] at aG<;>omega
      ·intro aL;rcases mv with ⟨e,_⟩|⟨e,_⟩|⟨e,_⟩<;>rcases ty with ⟨e',_⟩|⟨e',_⟩|⟨e',_⟩<;>rw[e,e'] at aG<;>rw[e]<;>first|omega|exact (fS (by omega)).symm|exact (jY (by omega)).symm
     simp only[go_sem,go_sem_proc,dH,jj,ft,gp,eD,m1,U,aZ,bk,bp,bm,bN,bO,fu,q5,hn,tz,aa,mr,bF,c0,hJ];repeat' (first|refine al ?_ ?_|fail)<;>intro h<;>simp only[h,go_sem,go_sem_proc,dH,jj,ft,gp,eD,m1,U,aZ,bk,bp,bm,bN,bO,fu,q5,hn,tz,aa,mr,bF,c0,hJ]
  ·have aZ:cV (s2,ab)=false:=by simpa using aZ
   have hm:iP (s,l) (s2,ab)=((0,[]),1):=by unfold iP;rw[aZ,gQ];rfl
   rw[hm];simp only[go_sem,go_sem_proc,dH,jj,ft,gp,eD,m1,U,aZ,bk,bp,bF,c0,cM];repeat' (first|refine al ?_ ?_|fail)<;>intro h<;>simp only[h,go_sem,go_sem_proc,dH,jj,ft,gp,eD,m1,U,aZ,bk,bp,bF,c0,cM]
 ·have U:cV (s,l)=false:=by simpa using U
  have hm:iP (s,l) (s2,ab)=((0,[]),1):=by unfold iP;rw[U,dm];rfl
  rw[hm];simp only[go_sem,go_sem_proc,dH,jj,ft,gp,eD,m1,U,bk,bp,bF,c0,cM];repeat' (first|refine al ?_ ?_|fail)<;>intro h<;>simp only[h,go_sem,go_sem_proc,dH,jj,ft,gp,eD,m1,U,bk,bp,bF,c0,cM]
theorem amc (b:Raw):(gn b).2.length<=60:=by
 unfold gn
 split
 ·rename_i h;obtain⟨z,a8,e⟩:=(gR _).1 h;rw[e,eo];exact fC.2 (by rw[tB];exact a8)
 ·exact fY _
def sw (a b:Raw):Raw×Int:=if cV b=true then iP a (gn b) else ((0,[]),1)
theorem R8 {z:Int}(h:z.natAbs<c9):gn (bc z)=bc (-z):=by unfold gn;rw[aj (iO h),eo]
theorem amd {x y:Int}(I:x.natAbs<c9)(ak:y.natAbs<c9):sw (bc x) (bc y)=mq (x-y):=by
 unfold sw;rw[aj (iO ak),R8 ak,GM I (by rw[tB];exact ak)]
 rfl
def R9:=bU nA λ(s,l,s2,ab)=>cq (o l<=1000000/\o ab<=1000000) (.same (c0 (sw (s,l) (s2,ab))))
@[go_sem] theorem azy (s:Int)(l:List Int)(s2:Int)(ab:List Int)(E:(o l)<=1000000/\o ab<=1000000):R9 [.agg [.int .i64 s,.X (l.map Y)],.agg [.int .i64 s2,.X (ab.map Y)]]=some (.same (c0 (sw (s,l) (s2,ab)))):=(b3 ph (s,l,s2,ab)).trans (cw E _)
theorem ame (T:br)(dH:T jw=aK tJ)(yA:T Cn=aK K5)(vd:T F6=aK Lb)(s:Int)(l:List Int)(s2:Int)(ab:List Int)(E:(o l)<=1000000/\o ab<=1000000):WP T RR (.same (c0 (sw (s,l) (s2,ab)))) [.J (.agg [.int .i64 s,.X (l.map Y)]),.J (.agg [.int .i64 s2,.X (ab.map Y)])]:=by
 refine b4 ?_;simp only[RR];obtain⟨bk,bp⟩:=E;unfold sw
 by_cases aZ:cV (s2,ab)=true
 ·rw[aj aZ];have nm:=amc (s2,ab);rcases aL:gn (s2,ab) with ⟨bD,bj⟩;rw[aL] at nm;dsimp only at nm;have amf:(o bj)<=1000000:=by omega
  refine aQ ?_;repeat' (intro h<;>simp only[h,go_sem,go_sem_proc,dH,yA,vd,aZ,bk,bp,aL,amf,bF,c0]<;>try refine al ?_ ?_)
 ·have aZ:cV (s2,ab)=false:=by simpa using aZ
  refine aQ ?_;repeat' (intro h<;>simp only[h,go_sem,go_sem_proc,dH,yA,vd,aZ,bp,bF,c0,cM]<;>try refine al ?_ ?_)
def Lc:=bU nA λ(s,l,s2,ab)=>cq (o l<=1000000/\o ab<=1000000) (.same (fw (ji (s,l) (s2,ab))))
@[go_sem] theorem azz (s:Int)(l:List Int)(s2:Int)(ab:List Int)(E:(o l)<=1000000/\o ab<=1000000):Lc [.agg [.int .i64 s,.X (l.map Y)],.agg [.int .i64 s2,.X (ab.map Y)]]=some (.same (fw (ji (s,l) (s2,ab)))):=(b3 ph (s,l,s2,ab)).trans (cw E _)
theorem amg (T:br)(dH:T jw=aK tJ)(l5:T F3=aK K1)(jj:T F4=aK KZ)(gp:T xU=aK He)(eD:T mU=aK yy)(s:Int)(l:List Int)(s2:Int)(ab:List Int)(E:(o l)<=1000000/\o ab<=1000000):WP T RI (.same (fw (ji (s,l) (s2,ab)))) [.J (.agg [.int .i64 s,.X (l.map Y)]),.J (.agg [.int .i64 s2,.X (ab.map Y)])]:=by
 refine b4 ?_;simp only[RI];obtain⟨bk,bp⟩:=E
 by_cases U:cV (s,l)=true
 ·by_cases aZ:cV (s2,ab)=true
  ·obtain⟨x,I,e⟩:=(gR _).1 U;obtain⟨y,ak,aB⟩:=(gR _).1 aZ
   by_cases hI:y=0
   ·have hm:ji (s,l) (s2,ab)=((0,[]),(0,[]),15):=by
     rw[e,aB];unfold ji
     rw[iO I,iO ak,eo,eo,aj (by rfl),aj hI]
    rw[hm]
    cases e
    cases aB;have au:((y.sign:Int)==0)=true:=by rw[hI];rfl
    simp only[go_sem,go_sem_proc,dH,l5,jj,gp,eD,U,aZ,bk,bp,au,bF,fw,cM];repeat' (first|refine al ?_ ?_|fail)<;>intro h<;>simp only[h,go_sem,go_sem_proc,dH,l5,jj,gp,eD,U,aZ,bk,bp,au,bF,fw,cM]
   ·have hm:ji (s,l) (s2,ab)=(bc (x.fdiv y),bc (x.fmod y),0):=by
     rw[e,aB];exact wK I ak hI
    rw[hm];clear hm
    cases e
    cases aB;have k2:=lD I;have iM:=lD ak;have q6:(y.sign==0)=false:=by rw[beq_eq_false_iff_ne,Ne,Qr];exact hI
    have AG:0<y.natAbs:=by omega
    have D:=lE x;have G:=lE y;have aG:x.sign*y.sign=(x*y).sign:=(mX x y).symm;have ag:=lE (x*y);have hw:IntKind.i64.wrap (x.sign*y.sign)=x.sign*y.sign:=by rw[aG];exact wrap64 _ (by omega) (by omega)
    have hdiv:=aaP x.natAbs y.natAbs ⟨by omega,by omega,AG⟩
    simp only[bW] at hdiv;have aF:=C2 (y:=y) I hI;have akB:=Z0 (x:=x) ak hI;have Qs:x.natAbs/y.natAbs<c9:=q0 (Qq _ _) I;have akC:(aD (x.natAbs/y.natAbs)).length<=60:=fC.2 Qs;have Qt:x.natAbs%y.natAbs<c9:=Z1 (oj _ AG) ak;have akD:(aD (x.natAbs%y.natAbs)).length<=60:=fC.2 Qt
    by_cases q7:x.sign*y.sign<0/\x.natAbs%y.natAbs≠0
    ·obtain⟨eq,tA⟩:=KC q7.1 q7.2
     have bZ:(((aD (x.natAbs%y.natAbs)).length:Int)==0)=false:=by
      have:aD (x.natAbs%y.natAbs)≠[]:=by rw[Ne,we];exact q7.2
      have:=KA.2 this;rw[beq_eq_false_iff_ne];omega
     have jf:decide (x.sign*y.sign>=0)=false:=gr (by have:=q7.1;omega);have jy:aD 1=[1]:=by simp[aD,uP]
     have akE:(aD 1).length=1:=by rw[jy];rfl
     have eT:=aaJ (x.natAbs/y.natAbs) 1 ⟨by omega,by omega⟩
     simp only[bW,jy,e8,cM,Y] at eT;have hn:=K0 y.natAbs (x.natAbs%y.natAbs) ⟨by omega,by omega,AH (oj _ AG)⟩
     simp only[bW] at hn
     have hG:(aD (x.natAbs/y.natAbs+1)).length<=1000000:=by
      have:(x.natAbs/y.natAbs+1)<c9:=by rw[eq] at aF;rw[tB,k3] at aF;exact aF
      have:=(fC (k:=60)).2 this;omega
     have je:(aD (y.natAbs-x.natAbs%y.natAbs)).length<=1000000:=by have:=CX y.natAbs (x.natAbs%y.natAbs);omega
     have g3:hH (-1) (aD (x.natAbs/y.natAbs+1))=bc (x.fdiv y):=lC (by rw[eq,tB,k3]) λ_=>by rw[eq,Ax,fS (show (0:Int)<((x.natAbs/y.natAbs+1:Nat):Int) by exact AJ.2 (Z2 _))]
     have l3:hH y.sign (aD (y.natAbs-x.natAbs%y.natAbs))=bc (x.fmod y):=by
      refine lC ?_ λaL=>?_
      ·rw[tA];rcases jh y with ⟨e',ag⟩|⟨e',ag⟩|⟨e',ag⟩<;>rw[e']<;>omega
      ·rw[tA,mX,yn,fS (show (0:Int)<((y.natAbs-x.natAbs%y.natAbs:Nat):Int) by omega),o8]
     simp only[go_sem,go_sem_proc,dH,l5,jj,gp,eD,U,aZ,bk,bp,q6,hw,hdiv,bZ,jf,eT,hn,hG,je,g3,l3,Y,af,bF,fw,hJ];repeat' (first|refine al ?_ ?_|fail)<;>intro h<;>simp only[h,go_sem,go_sem_proc,dH,l5,jj,gp,eD,U,aZ,bk,bp,q6,hw,hdiv,bZ,jf,eT,hn,hG,je,g3,l3,Y,af,bF,fw,hJ]
    ·obtain⟨eq,tA⟩:=KE hI q7
     have Qu:(decide (x.sign*y.sign>=0)=false/\(((aD (x.natAbs%y.natAbs)).length:Int)==0)=true)\/decide (x.sign*y.sign>=0)=true:=by
      by_cases aL:x.sign*y.sign<0
      ·left
       have:x.natAbs%y.natAbs=0:=Z3.1 λh=>q7 ⟨aL,h⟩;rw[this];exact⟨cY,rfl⟩
      ·right;exact dn
     have hG:(aD (x.natAbs/y.natAbs)).length<=1000000:=by omega
     have je:(aD (x.natAbs%y.natAbs)).length<=1000000:=by omega
     have g3:hH (x.sign*y.sign) (aD (x.natAbs/y.natAbs))=bc (x.fdiv y):=by
      refine lC ?_ λaL=>?_
      ·rw[eq]
       have AK:∀aT:Nat,(x=0->aT=0)->(x.sign*y.sign*(aT:Int)).natAbs=aT:=by
        intro aT au;rcases jh x with ⟨e,D⟩|⟨e,D⟩|⟨e,D⟩<;>rcases jh y with ⟨e',ag⟩|⟨e',ag⟩|⟨e',ag⟩<;>rw[e,e']<;>first|omega|(rw[au D];rfl)
       exact AK _ λau=>by rw[au];exact Qv _
      ·rw[eq,aG,mX,mX,mX,yn,yn,fS (show (0:Int)<((x.natAbs/y.natAbs:Nat):Int) from AJ.2 (KG aL)),o8]
     have l3:hH x.sign (aD (x.natAbs%y.natAbs))=bc (x.fmod y):=by
      refine lC ?_ λaL=>?_
      ·rw[tA]
       have AK:∀aT:Nat,(x=0->aT=0)->(x.sign*(aT:Int)).natAbs=aT:=by
        intro aT au;rcases jh x with ⟨e,D⟩|⟨e,D⟩|⟨e,D⟩<;>rw[e]<;>first|omega|(rw[au D];rfl)
       exact AK _ λau=>by rw[au];exact Qp _
      ·rw[tA,mX,yn,fS (show (0:Int)<((x.natAbs%y.natAbs:Nat):Int) from AJ.2 (KG aL)),o8]
     rcases Qu with ⟨tC,GP⟩|tC
     ·simp only[go_sem,go_sem_proc,dH,l5,jj,gp,eD,U,aZ,bk,bp,q6,hw,hdiv,tC,GP,hG,je,g3,l3,Y,af,bF,fw,hJ];repeat' (first|refine al ?_ ?_|fail)<;>intro h<;>simp only[h,go_sem,go_sem_proc,dH,l5,jj,gp,eD,U,aZ,bk,bp,q6,hw,hdiv,tC,GP,hG,je,g3,l3,Y,af,bF,fw,hJ]
     ·simp only[go_sem,go_sem_proc,dH,l5,jj,gp,eD,U,aZ,bk,bp,q6,hw,hdiv,tC,hG,je,g3,l3,Y,af,bF,fw,hJ];repeat' (first|refine al ?_ ?_|fail)<;>intro h<;>simp only[h,go_sem,go_sem_proc,dH,l5,jj,gp,eD,U,aZ,bk,bp,q6,hw,hdiv,tC,hG,je,g3,l3,Y,af,bF,fw,hJ]
  ·have aZ:cV (s2,ab)=false:=by simpa using aZ
   have hm:ji (s,l) (s2,ab)=((0,[]),(0,[]),1):=by unfold ji;rw[aZ,gQ];rfl
   rw[hm];simp only[go_sem,go_sem_proc,dH,l5,jj,gp,eD,U,aZ,bk,bp,bF,fw,cM];repeat' (first|refine al ?_ ?_|fail)<;>intro h<;>simp only[h,go_sem,go_sem_proc,dH,l5,jj,gp,eD,U,aZ,bk,bp,bF,fw,cM]
 ·have U:cV (s,l)=false:=by simpa using U
  have hm:ji (s,l) (s2,ab)=((0,[]),(0,[]),1):=by unfold ji;rw[U,dm];rfl
  rw[hm];simp only[go_sem,go_sem_proc,dH,l5,jj,gp,eD,U,bk,bp,bF,fw,cM];repeat' (first|refine al ?_ ?_|fail)<;>intro h<;>simp only[h,go_sem,go_sem_proc,dH,l5,jj,gp,eD,U,bk,bp,bF,fw,cM]
end Go.Mini
