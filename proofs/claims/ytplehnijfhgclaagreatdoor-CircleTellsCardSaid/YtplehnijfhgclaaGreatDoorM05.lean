/- A part of the proof. -/
import Derived.Test.YtplehnijfhgclaaGreatDoorM04
set_option linter.unusedSimpArgs false
set_option linter.unusedVariables false
set_option linter.defProp false
set_option maxRecDepth 100000
set_option maxHeartbeats 4000000
noncomputable section
open Bool renaming and_eq_true->fe,and_false->iZ,and_self->KC,and_true->pF,eq_iff_iff->af5,false_and->eN,false_eq_true->cC,not_false->db,not_true->cZ,true_and->eZ
open Decidable renaming em->dt
open Int renaming eq_ofNat_of_zero_le->vI,fmod_add_mul_fdiv->Ls,fmod_lt_of_pos->Lu,fmod_nonneg_of_pos->Lt,lt_or_gt_of_ne->WN,lt_trichotomy->oX,mul_le_mul_of_nonneg_left->tO,mul_le_mul_of_nonneg_right->kI,mul_nonneg->sA,mul_one->qB,natAbs_natCast->nr,natAbs_neg->rr,natCast_pos->Cq,sign_eq_neg_one_of_neg->kJ,sign_eq_one_of_pos->gp,sign_mul->nS,sign_neg->yG,sign_sign->yN,sign_trichotomy->Jo,sub_zero->Ae,toNat_natCast->lX,zero_mul->yK
open List renaming all_append->Dh,all_cons->u2,any_eq_false->sN,any_eq_true->DF,append_assoc->ki,append_nil->mX,drop->nL,drop_eq_getElem_cons->gw,drop_eq_nil_of_le->lj,ext_getElem?->qm,findIdx_map->ahg,getD_eq_getElem?_getD->dG,getElem?_append_left->uP,getElem?_append_right->r4,getElem?_drop->oI,getElem?_eq_getElem->bc,getElem?_eq_none->lk,getElem?_eq_some_iff->dK,getElem?_map->bd,getElem?_set->lF,getElem_drop->JM,getElem_mem->ha,length->D,length_append->ks,length_cons->lQ,length_drop->pG,length_map->ah,length_nil->mV,length_replicate->hr,length_set->fj,length_take->gj,length_zip->agS,map_append->pT,map_cons->gZ,map_nil->bN,map_set->CE,mem_append->h5,mem_cons->kt,mem_cons_of_mem->uq,mem_cons_self->lU,mem_map->h7,mem_of_getElem?->cJ,mem_or_eq_of_mem_set->nW,mem_singleton->sE,replicate->cf,replicate_succ'->agD,set_append_right->Ay,set_cons_succ->FU,set_cons_zero->qM,take->mZ,take_add_one->hn,take_length->mB,take_of_length_le->dE,take_succ_cons->Ez
open List.cons renaming injEq->bj
open Nat renaming add_zero->lo,gcd->gq,le_refl->c8,lt_or_ge->gX,lt_succ_self->KL,mul_one->dL,pos_of_ne_zero->EJ,reduceEqDiff->sW,sub_self->hF,zero_le->dF
open Option renaming bind_none->o1,map_some->kU
open Option.some renaming inj->mm,injEq->bM
open Prod renaming ext->cx,fst->nt
open Prod.mk renaming injEq->eL
open Rat renaming divInt->lA
namespace Go.Mini
open Go
def Lc:=bG iO λ(s,l,s2,X)=>b8 (D l<=1000000/\D X<=1000000) (.same (km (l1 (s,l) (s2,X))))
@[go_sem] def aBu (s l s2 X):=cj Lc rfl qI (s,l,s2,X) rfl
def asx (T:bg)(fw:T kG=aE uC)(rN:T IK=aE K5)(rO:T IL=aE K3)(lK:T z7=aE GM)(gS:T od=aE zj):WF T afk Lc:=by
 refine b5 λ(s,l,s2,X)=>cn λU=>⟨rfl,b4 ?_⟩;simp only[afk,iO,bV];obtain⟨bq,bp⟩:=U
 by_cases L:cI (s,l)=true
 ·by_cases aU:cI (s2,X)=true
  ·obtain⟨x,J,e⟩:=(ho _).1 L;obtain⟨y,ai,ax⟩:=(ho _).1 aU
   by_cases hL:y=0
   ·have hm:l1 (s,l) (s2,X)=((0,[]),(0,[]),15):=by
     rw[e,ax];unfold l1
     rw[jZ J,jZ ai,eJ,eJ,aJ (by rfl),aJ hL]
    rw[hm]
    cases e
    cases ax;have aq:((y.sign:Int)==0)=true:=by rw[hL];rfl
    refine af ?_;repeat' (intro (ag:_=_)<;>simp only[ag,go_sem,go_sem_proc,fw,rN,rO,lK,gS,L,aU,bq,bp,aq,b3,km,bN]<;>try refine ab ?_ ?_)
   ·have hm:l1 (s,l) (s2,X)=(a9 (x.fdiv y),a9 (x.fmod y),0):=by
     rw[e,ax];exact yL J ai hL
    rw[hm];clear hm
    cases e
    cases ax;have mz:=m4 J;have k2:=m4 ai;have Co:(y.sign==0)=false:=by rw[beq_eq_false_iff_ne,Ne,Int.sign_eq_zero_iff_zero];exact hL
    have Cp:0<y.natAbs:=by omega
    have F:=m5 x;have G:=m5 y;have aP:x.sign*y.sign=(x*y).sign:=(nS x y).symm;have aa:=m5 (x*y);have hw:IntKind.i64.wrap (x.sign*y.sign)=x.sign*y.sign:=by rw[aP];exact wrap64 _ (by omega) (by omega)
    have hdiv:=afL x.natAbs y.natAbs ⟨by omega,by omega,Cp⟩
    simp only[du] at hdiv;have aS:=Fw (y:=y) J hL;have Fx:=abE (x:=x) ai hL;have T3:x.natAbs/y.natAbs<cW:=Nat.lt_of_le_of_lt (Nat.div_le_self _ _) J;have am8:(aF (x.natAbs/y.natAbs)).length<=60:=fX.2 T3;have yM:x.natAbs%y.natAbs<cW:=Nat.lt_trans (Nat.mod_lt _ Cp) ai;have am9:(aF (x.natAbs%y.natAbs)).length<=60:=fX.2 yM
    by_cases sJ:x.sign*y.sign<0/\x.natAbs%y.natAbs≠0
    ·obtain⟨eq,sK⟩:=NZ sJ.1 sJ.2
     have bo:(((aF (x.natAbs%y.natAbs)).length:Int)==0)=false:=by
      have:aF (x.natAbs%y.natAbs)≠[]:=by rw[Ne,yh];exact sJ.2
      have:=List.length_pos_iff.2 this;rw[beq_eq_false_iff_ne];omega
     have l0:decide (x.sign*y.sign>=0)=false:=me (by have:=sJ.1;omega);have jY:aF 1=[1]:=by simp[aF,wE]
     have ana:(aF 1).length=1:=by rw[jY];rfl
     have sI:=afE (x.natAbs/y.natAbs) 1 ⟨by omega,by omega⟩
     simp only[du,jY,gZ,bN,aG] at sI;have g1:=PU y.natAbs (x.natAbs%y.natAbs) ⟨by omega,by omega,Nat.le_of_lt (Nat.mod_lt _ Cp)⟩
     simp only[du] at g1
     have nj:(aF (x.natAbs/y.natAbs+1)).length<=1000000:=by
      have:(x.natAbs/y.natAbs+1)<cW:=by rw[eq] at aS;rw[rr,nr] at aS;exact aS
      have:=(fX (k:=60)).2 this;omega
     have qE:(aF (y.natAbs-x.natAbs%y.natAbs)).length<=1000000:=by have:=Ft y.natAbs (x.natAbs%y.natAbs);omega
     have ft:jX (-1) (aF (x.natAbs/y.natAbs+1))=a9 (x.fdiv y):=m3 (by rw[eq,rr,nr]) λ_=>by rw[eq,yG,gp (show (0:Int)<((x.natAbs/y.natAbs+1:Nat):Int) by exact Cq.2 (Nat.succ_pos _))]
     have hN:jX y.sign (aF (y.natAbs-x.natAbs%y.natAbs))=a9 (x.fmod y):=by
      refine m3 ?_ λaA=>?_
      ·rw[sK];rcases kl y with ⟨e',aa⟩|⟨e',aa⟩|⟨e',aa⟩<;>rw[e']<;>omega
      ·rw[sK,nS,yN,gp (show (0:Int)<((y.natAbs-x.natAbs%y.natAbs:Nat):Int) by omega),qB]
     refine af ?_;repeat' (intro (ag:_=_)<;>simp only[ag,go_sem,go_sem_proc,fw,rN,rO,lK,gS,L,aU,bq,bp,Co,hw,hdiv,bo,l0,sI,g1,nj,qE,ft,hN,aG,ah,b3,km,ot]<;>try refine ab ?_ ?_)
    ·obtain⟨eq,sK⟩:=N0 hL sJ
     have T4:(decide (x.sign*y.sign>=0)=false/\(((aF (x.natAbs%y.natAbs)).length:Int)==0)=true)\/decide (x.sign*y.sign>=0)=true:=by
      by_cases aA:x.sign*y.sign<0
      ·left
       have:x.natAbs%y.natAbs=0:=Decidable.not_not.1 λh=>sJ ⟨aA,h⟩;rw[this];exact⟨de,rfl⟩
      ·right;exact c5
     have nj:(aF (x.natAbs/y.natAbs)).length<=1000000:=by omega
     have qE:(aF (x.natAbs%y.natAbs)).length<=1000000:=by omega
     have ft:jX (x.sign*y.sign) (aF (x.natAbs/y.natAbs))=a9 (x.fdiv y):=by
      refine m3 ?_ λaA=>?_
      ·rw[eq]
       have ub:∀a3:Nat,(x=0->a3=0)->(x.sign*y.sign*(a3:Int)).natAbs=a3:=by
        intro a3 aq;rcases kl x with ⟨e,F⟩|⟨e,F⟩|⟨e,F⟩<;>rcases kl y with ⟨e',aa⟩|⟨e',aa⟩|⟨e',aa⟩<;>rw[e,e']<;>first|omega|(rw[aq F];rfl)
       exact ub _ λaq=>by rw[aq];exact Nat.zero_div _
      ·rw[eq,aP,nS,nS,nS,yN,yN,gp (show (0:Int)<((x.natAbs/y.natAbs:Nat):Int) from Cq.2 (EJ aA)),qB]
     have hN:jX x.sign (aF (x.natAbs%y.natAbs))=a9 (x.fmod y):=by
      refine m3 ?_ λaA=>?_
      ·rw[sK]
       have ub:∀a3:Nat,(x=0->a3=0)->(x.sign*(a3:Int)).natAbs=a3:=by
        intro a3 aq;rcases kl x with ⟨e,F⟩|⟨e,F⟩|⟨e,F⟩<;>rw[e]<;>first|omega|(rw[aq F];rfl)
       exact ub _ λaq=>by rw[aq];exact Nat.zero_mod _
      ·rw[sK,nS,yN,gp (show (0:Int)<((x.natAbs%y.natAbs:Nat):Int) from Cq.2 (EJ aA)),qB]
     rcases T4 with ⟨Cr,T5⟩|Cr
     ·refine af ?_;repeat' (intro (ag:_=_)<;>simp only[ag,go_sem,go_sem_proc,fw,rN,rO,lK,gS,L,aU,bq,bp,Co,hw,hdiv,Cr,T5,nj,qE,ft,hN,aG,ah,b3,km,ot]<;>try refine ab ?_ ?_)
     ·refine af ?_;repeat' (intro (ag:_=_)<;>simp only[ag,go_sem,go_sem_proc,fw,rN,rO,lK,gS,L,aU,bq,bp,Co,hw,hdiv,Cr,nj,qE,ft,hN,aG,ah,b3,km,ot]<;>try refine ab ?_ ?_)
  ·have aU:cI (s2,X)=false:=by simpa using aU
   have hm:l1 (s,l) (s2,X)=((0,[]),(0,[]),1):=by unfold l1;rw[aU,iZ];rfl
   rw[hm];refine af ?_;repeat' (intro (ag:_=_)<;>simp only[ag,go_sem,go_sem_proc,fw,rN,rO,lK,gS,L,aU,bq,bp,b3,km,bN]<;>try refine ab ?_ ?_)
 ·have L:cI (s,l)=false:=by simpa using L
  have hm:l1 (s,l) (s2,X)=((0,[]),(0,[]),1):=by unfold l1;rw[L,eN];rfl
  rw[hm];refine af ?_;repeat' (intro (ag:_=_)<;>simp only[ag,go_sem,go_sem_proc,fw,rN,rO,lK,gS,L,bq,bp,b3,km,bN]<;>try refine ab ?_ ?_)
def afS:bE:=bT 19 2 [.t 4] (M [ck 2 115002 0,bW 4 false] (M [aC 5 0 2,aC 6 1 5,aH 7 1 6,cd 8 7,E 9 1,br 10 .leq 8 9,E 11 10,hH 12 11 2 2,hH 13 11 1 12,iz 14 11 1 13,Tb 15 11 14,eu 16 11 1,E2 17 11 .leq 15 16,fE 18 11 17,E 4 18] .ret))
def afT:bE:=bT 17 2 [.t 4] (M [ck 2 120002 0,ck 3 120003 1,bW 4 false] (M [aC 5 0 2,aB 6 2 5,aC 7 0 3,aB 8 2 7,bI 9 Nm 6 8,E 10 9,hH 11 10 2 2,B9 12 10 2 11,hH 13 10 2 3,B9 14 10 2 13,fA 15 10 (.call Nm [.t 12,.t 14]),fE 16 10 15,E 4 16] .ret))
def afU:bE:=bT 13 2 [.cell 4 4 true,.t 5] (M [bP 4 124004 cK,a8 5 0] (M [E 6 0,c6 7 EN 6,E 8 1,c6 9 EN 8,bI 10 IE 7 9,aN 11 0 10,aN 12 1 10,aZ 4 4 11,E 5 12] .ret))
def afV:bE:=bT 38 2 [.t 4] (M [ck 2 142002 0,ck 3 142003 1,bW 4 false] (.seq (M [aC 6 0 2,aH 7 1 6,aC 8 0 3,aH 9 1 8,br 10 .neq 7 9,E 11 10,fq 12 11 1 2,fz 13 11 1 12,nJ 14 11 13,fq 15 11 1 3,fz 16 11 1 15,nJ 17 11 16,nK 18 11 .neq 14 17,cD 19 11 18] (bO 19 [bW 4 false])) (.seq (M [a8 5 0] (dT 0 (.seq (M [E 20 5,aC 21 1 2,aH 22 1 21,cd 23 22,br 24 .lss 20 23] (dd 24 0)) (.seq (.block 1 (e2 [aC 27 1 2,aH 28 1 27,E 29 5,bC 30 1 28 29,aH 31 1 30,aC 32 1 3,aH 33 1 32,E 34 5,bC 35 1 33 34,aH 36 1 35,br 37 .neq 31 36] IW (bO 37 [bW 4 false]))) (.ops [E 25 5,bb 26 .add 25 1,E 5 26]))))) (M [bW 4 true] .ret))))
def afW:bE:=bT 57 2 [.cell 4 4 true,.t 5] (M [ck 2 143002 0,ck 3 143003 1,bP 4 143004 cK,a8 5 0] (.seq (M [aB 14 2 2,c6 15 kG 14,dS 16 15,E 17 16,hv 18 17 2 3,fr 19 17 (.call kG [.t 18]),ib 20 17 19,cD 21 17 20] (bO 21 [az 22 (.build cK []),aZ 4 4 22,a8 5 1])) (.seq (M [aC 23 0 3,aH 24 1 23,bb 25 .eql 24 0] (bO 25 [az 26 (.build cK []),aZ 4 4 26,a8 5 15])) (.seq (M [aC 27 0 3,aH 28 1 27,bb 29 .lss 28 0] (fi 29 (M [aB 30 2 2,c6 31 ES 30,aZ 2 2 31] (.ops [aB 32 2 3,c6 33 ES 32,aZ 2 3 33])) .skip)) (M [aB 35 2 2,aB 36 2 3,bI 37 IH 35 36,E 34 37,aN 38 0 34,aN 39 1 34,bP 6 143006 c4,aZ 2 6 38,E 7 39] (M [aB 41 2 2,aB 42 2 6,bI 43 BW 41 42,E 40 43,aN 44 0 40,aN 45 1 40,aN 46 2 40,bP 8 143008 c4,bP 9 143009 c4,aZ 2 8 44,aZ 2 9 45,E 10 46] (M [aB 48 2 3,aB 49 2 6,bI 50 BW 48 49,E 47 50,aN 51 0 47,aN 52 1 47,aN 53 2 47,bP 11 143011 c4,bP 12 143012 c4,aZ 2 11 51,aZ 2 12 52,E 13 53] (M [aB 54 2 8,aB 55 2 11,az 56 (.build cK [(0,2,.t 54),(2,2,.t 55)]),aZ 4 4 56,a8 5 0] .ret))))))))
def afX:bE:=bT 72 2 [.cell 4 4 true,.t 5] (M [ck 2 195002 0,ck 3 195003 1,bP 4 195004 cK,a8 5 0] (.seq (M [aB 14 4 2,c6 15 kY 14,dS 16 15,E 17 16,hv 18 17 4 3,fr 19 17 (.call kY [.t 18]),ib 20 17 19,cD 21 17 20] (bO 21 [az 22 (.build cK []),aZ 4 4 22,a8 5 1])) (M [aC 24 0 2,aB 25 2 24,aC 26 2 3,aB 27 2 26,bI 28 qA 25 27,E 23 28,aN 29 0 23,aN 30 1 23,bP 6 195006 c4,aZ 2 6 29,E 7 30] (M [aC 32 0 3,aB 33 2 32,aC 34 2 2,aB 35 2 34,bI 36 qA 33 35,E 31 36,aN 37 0 31,aN 38 1 31,bP 8 195008 c4,aZ 2 8 37,E 9 38] (M [aC 40 2 2,aB 41 2 40,aC 42 2 3,aB 43 2 42,bI 44 qA 41 43,E 39 44,aN 45 0 39,aN 46 1 39,bP 10 195010 c4,aZ 2 10 45,E 11 46] (M [aB 48 2 6,aB 49 2 8,bI 50 SR 48 49,E 47 50,aN 51 0 47,aN 52 1 47,bP 12 195012 c4,aZ 2 12 51,E 13 52] (M [aB 53 2 12,aB 54 2 10,E 55 7,bb 56 .neq 55 0,E 57 56,dJ 58 57 9,gM 59 57 .neq 58 0,cD 60 57 59,E 61 60,dJ 62 61 11,gM 63 61 .neq 62 0,cD 64 61 63,E 65 64,dJ 66 65 13,gM 67 65 .neq 66 0,cD 68 65 67,yq 69 yn 53 54 68,aN 70 0 69,aN 71 1 69,aZ 4 4 70,E 5 71] .ret)))))))
def afY:bE:=bT 33 1 [.t 2] (M [ck 1 196001 0,bW 2 false] (.seq (M [aC 5 0 1,aB 6 2 5,c6 7 kG 6,dS 8 7,E 9 8,fq 10 9 2 1,hv 11 9 2 10,fr 12 9 (.call kG [.t 11]),ib 13 9 12,cD 14 9 13,E 15 14,fq 16 15 2 1,fq 17 15 0 16,fz 18 15 1 17,gM 19 15 .lss 18 1,cD 20 15 19] (bO 20 [bW 2 false])) (M [aC 22 0 1,aB 23 2 22,aC 24 2 1,aB 25 2 24,bI 26 IH 23 25,E 21 26,aN 27 0 21,aN 28 1 21,bP 3 196003 c4,aZ 2 3 27,E 4 28] (e2 [aB 29 2 3,az 30 (.call EN [.c (bl 1)]),bI 31 IQ 29 30,bb 32 .eql 31 0,E 2 32] alD .ret))))
def afZ:bE:=bT 46 2 [.cell 4 4 true,.t 5] (M [ck 2 197002 0,ck 3 197003 1,bP 4 197004 cK,a8 5 0] (.seq (M [aB 10 4 2,c6 11 kY 10,dS 12 11,E 13 12,hv 14 13 4 3,fr 15 13 (.call kY [.t 14]),ib 16 13 15,cD 17 13 16] (bO 17 [az 18 (.build cK []),aZ 4 4 18,a8 5 1])) (M [aC 20 0 2,aB 21 2 20,aC 22 0 3,aB 23 2 22,bI 24 qA 21 23,E 19 24,aN 25 0 19,aN 26 1 19,bP 6 197006 c4,aZ 2 6 25,E 7 26] (M [aC 28 2 2,aB 29 2 28,aC 30 2 3,aB 31 2 30,bI 32 qA 29 31,E 27 32,aN 33 0 27,aN 34 1 27,bP 8 197008 c4,aZ 2 8 33,E 9 34] (M [aB 35 2 6,aB 36 2 8,E 37 7,bb 38 .neq 37 0,E 39 38,dJ 40 39 9,gM 41 39 .neq 40 0,cD 42 39 41,yq 43 yn 35 36 42,aN 44 0 43,aN 45 1 43,aZ 4 4 44,E 5 45] .ret)))))
def af0:bE:=bT 72 2 [.cell 4 4 true,.t 5] (M [ck 2 198002 0,ck 3 198003 1,bP 4 198004 cK,a8 5 0] (.seq (M [aB 14 4 2,c6 15 kY 14,dS 16 15,E 17 16,hv 18 17 4 3,fr 19 17 (.call kY [.t 18]),ib 20 17 19,cD 21 17 20] (bO 21 [az 22 (.build cK []),aZ 4 4 22,a8 5 1])) (M [aC 24 0 2,aB 25 2 24,aC 26 2 3,aB 27 2 26,bI 28 qA 25 27,E 23 28,aN 29 0 23,aN 30 1 23,bP 6 198006 c4,aZ 2 6 29,E 7 30] (M [aC 32 0 3,aB 33 2 32,aC 34 2 2,aB 35 2 34,bI 36 qA 33 35,E 31 36,aN 37 0 31,aN 38 1 31,bP 8 198008 c4,aZ 2 8 37,E 9 38] (M [aC 40 2 2,aB 41 2 40,aC 42 2 3,aB 43 2 42,bI 44 qA 41 43,E 39 44,aN 45 0 39,aN 46 1 39,bP 10 198010 c4,aZ 2 10 45,E 11 46] (M [aB 48 2 6,aB 49 2 8,bI 50 IS 48 49,E 47 50,aN 51 0 47,aN 52 1 47,bP 12 198012 c4,aZ 2 12 51,E 13 52] (M [aB 53 2 12,aB 54 2 10,E 55 7,bb 56 .neq 55 0,E 57 56,dJ 58 57 9,gM 59 57 .neq 58 0,cD 60 57 59,E 61 60,dJ 62 61 11,gM 63 61 .neq 62 0,cD 64 61 63,E 65 64,dJ 66 65 13,gM 67 65 .neq 66 0,cD 68 65 67,yq 69 yn 53 54 68,aN 70 0 69,aN 71 1 69,aZ 4 4 70,E 5 71] .ret)))))))
def af1:bE:=bT 15 3 [.cell 6 4 true,.t 7] (M [ck 3 204003 0,ck 4 204004 1,bP 6 204006 cK,a8 7 0] (.seq (M [E 8 2] (bO 8 [az 9 (.build cK []),aZ 4 6 9,a8 7 6])) (M [aB 10 2 3,aB 11 2 4,bI 12 IE 10 11,aN 13 0 12,aN 14 1 12,aZ 4 6 13,E 7 14] .ret)))
def af2:bE:=bT 51 2 [.cell 4 4 true,.t 5] (M [ck 2 207002 0,ck 3 207003 1,bP 4 207004 cK,a8 5 0] (.seq (M [aB 10 4 2,c6 11 kY 10,dS 12 11,E 13 12,hv 14 13 4 3,fr 15 13 (.call kY [.t 14]),ib 16 13 15,cD 17 13 16] (bO 17 [az 18 (.build cK []),aZ 4 4 18,a8 5 1])) (.seq (M [aC 19 0 3,aC 20 0 19,aH 21 1 20,bb 22 .eql 21 0] (bO 22 [az 23 (.build cK []),aZ 4 4 23,a8 5 15])) (M [aC 25 0 2,aB 26 2 25,aC 27 2 3,aB 28 2 27,bI 29 qA 26 28,E 24 29,aN 30 0 24,aN 31 1 24,bP 6 207006 c4,aZ 2 6 30,E 7 31] (M [aC 33 2 2,aB 34 2 33,aC 35 0 3,aB 36 2 35,bI 37 qA 34 36,E 32 37,aN 38 0 32,aN 39 1 32,bP 8 207008 c4,aZ 2 8 38,E 9 39] (M [aB 40 2 6,aB 41 2 8,E 42 7,bb 43 .neq 42 0,E 44 43,dJ 45 44 9,gM 46 44 .neq 45 0,cD 47 44 46,yq 48 yn 40 41 47,aN 49 0 48,aN 50 1 48,aZ 4 4 49,E 5 50] .ret))))))
def af3:bE:=bT 22 2 [.t 4] (M [ck 2 270002 0,ck 3 270003 1,a8 4 0] (.seq (M [aB 5 4 2,c6 6 kY 5,dS 7 6,E 8 7,hv 9 8 4 3,fr 10 8 (.call kY [.t 9]),ib 11 8 10,cD 12 8 11] (bO 12 [a8 4 0])) (M [aC 13 0 2,aB 14 2 13,aC 15 2 2,aB 16 2 15,aC 17 0 3,aB 18 2 17,aC 19 2 3,aB 20 2 19,oU 21 EX 14 16 18 20,E 4 21] .ret)))
def PZ:bE:=bT 54 4 [.t 8] (M [ck 4 278004 0,ck 5 278005 1,ck 6 278006 2,ck 7 278007 3,a8 8 0] (M [aB 17 2 4,aB 18 2 5,bI 19 BW 17 18,E 16 19,aN 20 0 16,aN 21 1 16,aN 22 2 16,bP 9 278009 c4,bP 10 278010 c4,aZ 2 9 20,aZ 2 10 21,E 11 22] (M [aB 24 2 6,aB 25 2 7,bI 26 BW 24 25,E 23 26,aN 27 0 23,aN 28 1 23,aN 29 2 23,bP 12 278012 c4,bP 13 278013 c4,aZ 2 12 27,aZ 2 13 28,E 14 29] (M [aB 30 2 9,aB 31 2 12,bI 32 IQ 30 31,E 15 32] (.seq (M [E 33 15,bb 34 .neq 33 0] (bO 34 [E 35 15,E 8 35])) (.seq (M [aC 36 0 10,aH 37 1 36,bb 38 .eql 37 0,E 39 38,fq 40 39 0 13,fz 41 39 1 40,gM 42 39 .eql 41 0,cD 43 39 42] (bO 43 [aC 44 0 10,aH 45 1 44,aC 46 0 13,aH 47 1 46,br 48 .sub 45 47,E 8 48])) (M [aB 49 2 7,aB 50 2 13,aB 51 2 5,aB 52 2 10,oU 53 EX 49 50 51 52,E 8 53] .ret)))))))
def Ld:=bG iO λ(s,l,s2,X)=>b8 (D l<=1000000/\D X<=1000000) (.same (cP (ie (s,l) (s2,X))))
@[go_sem] def aBv (s l s2 X):=cj Ld rfl qI (s,l,s2,X) rfl
def asy (T:bg)(fw:T kG=aE uC)(A0:T ES=aE K6)(xy:T IH=aE La)(xz:T BW=aE Lc):WF T afW Ld:=by
 refine b5 λ(s,l,s2,X)=>cn λU=>⟨rfl,b4 ?_⟩;simp only[afW,iO,bV];obtain⟨bq,bp⟩:=U
 by_cases L:cI (s,l)=true
 ·by_cases aU:cI (s2,X)=true
  ·obtain⟨x,J,e⟩:=(ho _).1 L;obtain⟨y,ai,ax⟩:=(ho _).1 aU
   by_cases aq:y=0
   ·have hm:ie (s,l) (s2,X)=(bA,15):=by
     unfold ie;rw[L,aU,ax,eJ,aJ (by rfl),aJ aq]
    rw[hm]
    cases e
    cases ax;have O:(y.sign==0)=true:=by rw[aq];rfl
    refine af ?_;repeat' (intro h<;>simp only[h,go_sem,go_sem_proc,fw,A0,xy,xz,L,aU,bq,bp,O,cP,ar,bA,bN]<;>try refine ab ?_ ?_)
   ·have main:∀p q:Int,p.natAbs<cW->q.natAbs<cW->0<q->∃g:Raw,mA (a9 p) (a9 q)=(g,0)/\g.2.length<=1000000/\l1 (a9 p) g=(a9 (lA p q).num,a9 (p.fmod ((gq p.natAbs q.natAbs:Nat):Int)),0)/\l1 (a9 q) g=(a9 (lA p q).den,a9 (q.fmod ((gq p.natAbs q.natAbs:Nat):Int)),0):=by
     intro p q aP aS lZ;have jT:=Fv aP aS;have Ct:((gq p.natAbs q.natAbs:Nat):Int).natAbs<cW:=by rw[nr];exact jT
     have rp:=Ud (p:=p) (q:=q) (by omega);obtain⟨F,G⟩:=Ub (p:=p) lZ;refine⟨a9 ((gq p.natAbs q.natAbs:Nat):Int),?_,jc Ct,?_,?_⟩
     ·unfold mA;rw[jZ aP,jZ aS,eJ,eJ];rfl
     ·rw[yL aP Ct (by omega),F]
     ·rw[yL aS Ct (by omega),G]
    have rv:(y.sign==0)=false:=by simpa using aq
    rcases WN aq with l0|h3
    ·have ft:decide (y.sign<0)=true:=by rw[kJ l0];rfl
     obtain⟨⟨cH,cO⟩,aL,jT,jY,nQ⟩:=main (-x) (-y) (by omega) (by omega) (by omega)
     have hm:ie (s,l) (s2,X)=(ed (lA (-x) (-y)),0):=by
      rw[e,ax,Fz J ai aq,Rat.neg_divInt_neg]
     rw[hm];have uM:hx (s,l)=a9 (-x):=by unfold hx;rw[aJ L,e,eJ]
     have qi:hx (s2,X)=a9 (-y):=by unfold hx;rw[aJ aU,ax,eJ]
     have sL:s2=y.sign:=congrArg nt ax;have ek:(a9 (-x)).2.length<=1000000:=jc (by omega);have eP:(a9 (-y)).2.length<=1000000:=jc (by omega);clear e ax;unfold ed;generalize a9 (-x)=c7 at *;generalize a9 (-y)=nq at *;obtain⟨dz,dI⟩:=c7;obtain⟨og,qC⟩:=nq;rw[<-sL] at rv ft;refine af ?_;repeat' (intro h<;>simp only[h,go_sem,go_sem_proc,fw,A0,xy,xz,L,aU,bq,bp,rv,ft,uM,qi,ek,eP,aL,jT,jY,nQ,cP,ar,en,km,b3]<;>try refine ab ?_ ?_)
    ·have ft:decide (y.sign<0)=false:=by rw[gp h3];rfl
     obtain⟨⟨cH,cO⟩,aL,jT,jY,nQ⟩:=main x y J ai h3
     have hm:ie (s,l) (s2,X)=(ed (lA x y),0):=by
      rw[e,ax,Fz J ai aq]
     rw[hm];have sL:s2=y.sign:=congrArg nt ax;rw[<-e] at aL jY;rw[<-ax] at aL nQ;rw[<-sL] at rv ft;unfold ed;refine af ?_;repeat' (intro h<;>simp only[h,go_sem,go_sem_proc,fw,A0,xy,xz,L,aU,bq,bp,rv,ft,aL,jT,jY,nQ,cP,ar,en,km,b3]<;>try refine ab ?_ ?_)
  ·have aU:cI (s2,X)=false:=by simpa using aU
   have hm:ie (s,l) (s2,X)=(bA,1):=by unfold ie;rw[aU,iZ];rfl
   rw[hm];refine af ?_;repeat' (intro h<;>simp only[h,go_sem,go_sem_proc,fw,A0,xy,xz,L,aU,bq,bp,cP,ar,bA,bN]<;>try refine ab ?_ ?_)
 ·have L:cI (s,l)=false:=by simpa using L
  have hm:ie (s,l) (s2,X)=(bA,1):=by unfold ie;rw[L,eN];rfl
  rw[hm];refine af ?_;repeat' (intro h<;>simp only[h,go_sem,go_sem_proc,fw,A0,xy,xz,L,bq,bp,cP,ar,bA,bN]<;>try refine ab ?_ ?_)
def Le:=bG wK λ(p,q)=>b8 (dX p/\dX q) (.same (cP (ie (a9 p) (a9 q))))
@[go_sem] def aBw (p q):=cj Le rfl NF (p,q) rfl
def asz (T:bg)(GP:T EN=aE K7)(P0:T IE=aE Ld):WF T afU Le:=by
 refine b5 λ(p,q)=>cn λU=>⟨rfl,b4 ?_⟩;simp only[afU,wK,bV];obtain⟨F,G⟩:=U;have hZ:(a9 p).2.length<=1000000:=jc (yO F);have X:(a9 q).2.length<=1000000:=jc (yO G);generalize dU:a9 p=P at *;generalize e5:a9 q=a3 at *;obtain⟨dz,dI⟩:=P;obtain⟨og,qC⟩:=a3;refine af ?_;repeat' (intro h<;>simp only[h,go_sem,go_sem_proc,GP,P0,F,G,dU,e5,hZ,X,b3,cP,ar]<;>try refine ab ?_ ?_)
def P6:=bG iO λ(s,l,s2,X)=>b8 (D l<=1000000/\D X<=1000000) (.same (.bool (qT (s,l) (s2,X))))
@[go_sem] def aBx (s l s2 X):=cj P6 rfl qI (s,l,s2,X) rfl
def asA (T:bg):WF T afV P6:=by
 refine b5 λ(s,l,s2,X)=>cn λU=>⟨rfl,b4 ?_⟩;simp only[afV,iO,bV];obtain⟨bq,bp⟩:=U
 by_cases O:s=s2
 ·subst O
  by_cases ae:(D l)=D X
  ·have aO:(((D l:Nat):Int)==((D X:Nat):Int))=true:=by simp;omega
   simp only[go_sem,go_sem_proc,beq_self_eq_true,ah,aO,cZ,bne];refine cV [2,3] [142002,142003] (λ(i:Nat) tm mem=>i<=D l/\l.take i=X.take i/\tm 5=.I (.int .i64 i)) (λi=>D l-i) 0 (by refine⟨by omega,by simp,rfl⟩) ?_;intro vs ms aI aD;simp only[go_sem,go_sem_proc,ah] at aI aD;subst aI aD;rintro i tm mem Q hm ⟨Z,aj,bt⟩;simp only[go_sem,go_sem_proc,bj] at Q hm;obtain⟨G,aa⟩:=Q;obtain⟨bY,fI⟩:=hm;rcases dt (i<D l) with an|bB
   ·have J:l[i]?=some l[i]:=bc an;have ai:X[i]?=some X[i]:=bc (by omega);have uM:l.take (i+1)=l.take i++[l[i]]:=by rw[hn,J];rfl
    have qi:X.take (i+1)=X.take i++[X[i]]:=by rw[hn,ai];rfl
    generalize l[i]=x at *;generalize X[i]=y at *;have d1:decide ((i:Int)<(D l:Int))=true:=c5;have bJ:=e1 (i:=i) (by omega)
    by_cases hk:x=y
    ·subst hk;refine af ?_;repeat' (intro (ag:_=_)<;>simp only[ag,go_sem,go_sem_proc,G,aa,bt,bY,fI,J,ai,d1,bJ,aG,ah,bd,bj,beq_self_eq_true,cZ]<;>try refine ab ?_ ?_)
     exact⟨i+1,by omega,by omega,by rw[uM,qi,aj],rfl⟩
    ·have bo:(x==y)=false:=by simpa using hk
     have L:qT (s,l) (s,X)=false:=by
      refine me λh=>hk ?_;rw[eL] at h;rw[h.2,ai] at J;exact (mm J).symm
     rw[L];refine af ?_;repeat' (intro (ag:_=_)<;>simp only[ag,go_sem,go_sem_proc,G,aa,bt,bY,fI,J,ai,d1,bJ,bo,aG,ah,bd,bj,db]<;>try refine ab ?_ ?_)
   ·have d1:decide ((i:Int)<(D l:Int))=false:=de
    have L:qT (s,l) (s,X)=true:=by
     refine mL ?_;rw[dE (by omega),dE (by omega)] at aj;rw[aj]
    rw[L];refine af ?_;repeat' (intro (ag:_=_)<;>simp only[ag,go_sem,go_sem_proc,G,aa,bt,bY,fI,d1,ah]<;>try refine ab ?_ ?_)
  ·have aO:(((D l:Nat):Int)==((D X:Nat):Int))=false:=by simp;omega
   have L:qT (s,l) (s,X)=false:=by
    refine me λh=>ae ?_;rw[eL] at h;rw[h.2]
   rw[L];refine af ?_;repeat' (intro (ag:_=_)<;>simp only[ag,go_sem,go_sem_proc,beq_self_eq_true,ah,aO,cZ,db,bne]<;>try refine ab ?_ ?_)
 ·have bo:(s==s2)=false:=by simpa using O
  have L:qT (s,l) (s2,X)=false:=by
   refine me λh=>O ?_;rw[eL] at h;exact h.1
  rw[L];refine af ?_;repeat' (intro (ag:_=_)<;>simp only[ag,go_sem,go_sem_proc,bo,ah,cZ,db,bne]<;>try refine ab ?_ ?_)
def P7 (a b:av):Bool:=decide (a=b)
def P8:=bG lB λ(s,l,s2,X,bS,bZ,bU,bX)=>b8 (D l<=1000000/\D X<=1000000/\D bZ<=1000000/\D bX<=1000000) (.same (.bool (P7 ((s,l),(s2,X)) ((bS,bZ),(bU,bX)))))
@[go_sem] def aBy (s l s2 X bS bZ bU bX):=cj P8 rfl vj (s,l,s2,X,bS,bZ,bU,bX) rfl
def asB (T:bg)(af4:T Nm=aE P6):WF T afT P8:=by
 refine b5 λ(s,l,s2,X,bS,bZ,bU,bX)=>cn λU=>⟨rfl,b4 ?_⟩;simp only[afT,lB,bV];obtain⟨bq,bp,ek,eP⟩:=U
 have e:P7 ((s,l),(s2,X)) ((bS,bZ),(bU,bX))=(qT (s,l) (bS,bZ)&&qT (s2,X) (bU,bX)):=by
  unfold P7 qT;rw[af5,fe,decide_eq_true_eq,decide_eq_true_eq,decide_eq_true_eq,eL]
 rw[e];rcases F:qT (s,l) (bS,bZ)
 ·refine af ?_;repeat' (intro h<;>simp only[h,go_sem,go_sem_proc,af4,bq,bp,ek,eP,F,eN]<;>try refine ab ?_ ?_)
 ·refine af ?_;repeat' (intro h<;>simp only[h,go_sem,go_sem_proc,af4,bq,bp,ek,eP,F,eZ]<;>try refine ab ?_ ?_)
def pq (f:av)(n:Int):Bool:=decide ((f.1.2.length:Int)<=n)&&decide ((f.2.2.length:Int)<=n)
abbrev P9:Int×(List Int)×Int×(List Int)×Int->List Data:=λ(s,l,s2,X,n)=>[.agg [.int .i64 s,.ao (l.map aG),.int .i64 s2,.ao (X.map aG)],.int .i64 n]
def Lf:=bG P9 λ(s,l,s2,X,n)=>some (.same (.bool (pq ((s,l),(s2,X)) n)))
def asC:∀a b,P9 a=P9 b->a=b:=by
  rintro⟨s1,hZ,tX,sG,rb⟩ ⟨s2,X,tY,sH,re⟩ h;simp only[bj,Data.agg.injEq,Data.int.injEq,Data.ao.injEq] at h;exact cx h.1.1.2 (cx (map_inj fW _ _ h.1.2.1) (cx h.1.2.2.1.2 (cx (map_inj fW _ _ h.1.2.2.2.1) h.2.1.2)))
@[go_sem] def aBz (s l s2 X n):=sm Lf rfl asC (s,l,s2,X,n) rfl
def asD (T:bg):WF T afS Lf:=by
 refine b5 λ(s,l,s2,X,n)=>⟨rfl,b4 ?_⟩;simp only[afS,P9,bV];unfold pq;rcases F:decide ((D l:Int)<=n)
 ·refine af ?_;repeat' (intro h<;>simp only[h,go_sem,go_sem_proc,F,ah,eN]<;>try refine ab ?_ ?_)
 ·refine af ?_;repeat' (intro h<;>simp only[h,go_sem,go_sem_proc,F,ah,eZ]<;>try refine ab ?_ ?_)
def uD:=bG k4 λ(s,l,s2,X)=>b8 (D l<=1000000/\D X<=1000000) (.same (.bool (cy ((s,l),(s2,X)))))
@[go_sem] def aBA (s l s2 X):=cj uD rfl uc (s,l,s2,X) rfl
def asE (T:bg)(fw:T kG=aE uC)(xy:T IH=aE La)(GP:T EN=aE K7)(zl:T IQ=aE K9):WF T afY uD:=by
 refine b5 λ(s,l,s2,X)=>cn λU=>⟨rfl,b4 ?_⟩;simp only[afY,k4,bV];obtain⟨bq,bp⟩:=U
 by_cases L:cI (s,l)=true
 ·by_cases aU:cI (s2,X)=true
  ·obtain⟨x,J,e⟩:=(ho _).1 L;obtain⟨y,ai,ax⟩:=(ho _).1 aU
   have aL:mA (s,l) (s2,X)=(a9 ((gq x.natAbs y.natAbs:Nat):Int),0):=by
    unfold mA;rw[L,aU,e,ax,eJ,eJ];rfl
   have jT:=Fv J ai;have tw:gO (s,l)=x:=by rw[e,eJ]
   have nE:gO (s2,X)=y:=by rw[ax,eJ]
   have ec:cy ((s,l),(s2,X))=((s2==1)&&(gq x.natAbs y.natAbs==1)):=by
    show (cI (s,l)&&(cI (s2,X)&&((s2==1)&&(gq (gO (s,l)).natAbs (gO (s2,X)).natAbs==1))))=_;rw[L,aU,tw,nE];simp only[eZ]
   have sL:s2=y.sign:=congrArg nt ax;have Cn:=m5 y;rw[ec];have iw:pP (a9 ((gq x.natAbs y.natAbs:Nat):Int)) (a9 1)=gb ((gq x.natAbs y.natAbs:Nat):Int) 1:=Jr (by rw[nr];exact jT) (yO (by unfold dX;omega))
   have a4:(gb ((gq x.natAbs y.natAbs:Nat):Int) 1==0)=(gq x.natAbs y.natAbs==1):=by
    generalize gq x.natAbs y.natAbs=bf;rw[af5,beq_iff_eq,beq_iff_eq];rcases oX (bf:Int) 1 with h|h|h
    ·rw[yI h];omega
    ·rw[h,Fu];omega
    ·rw[Cm h];omega
   have Ua:((a9 ((gq x.natAbs y.natAbs:Nat):Int)).2).length<=1000000:=jc (by rw[nr];exact jT);have zJ:dX 1:=by unfold dX;omega
   have Jt:(a9 1).2.length<=1000000:=jc (yO zJ);rcases O:decide (s2<1)
   ·have ft:(s2==1)=true:=by have:=of_decide_eq_false O;rw[beq_iff_eq];omega
    rw[ft,eZ,<-a4];generalize gb ((gq x.natAbs y.natAbs:Nat):Int) 1=C at *;generalize a9 ((gq x.natAbs y.natAbs:Nat):Int)=bf at *;generalize e8:a9 1=au at *;obtain⟨cH,cO⟩:=bf;obtain⟨kq,jK⟩:=au;refine af ?_;repeat' (intro (ag:_=_)<;>simp only[ag,go_sem,go_sem_proc,fw,xy,GP,zl,L,aU,bq,bp,O,aL,Ua,zJ,Jt,iw,e8,en,b3]<;>try refine ab ?_ ?_)
   ·have ft:(s2==1)=false:=by have:=of_decide_eq_true O;rw[beq_eq_false_iff_ne];omega
    rw[ft,eN];refine af ?_;repeat' (intro (ag:_=_)<;>simp only[ag,go_sem,go_sem_proc,fw,xy,GP,zl,L,aU,bq,bp,O]<;>try refine ab ?_ ?_)
  ·have aU:cI (s2,X)=false:=by simpa using aU
   have ec:cy ((s,l),(s2,X))=false:=by unfold cy;simp[aU]
   rw[ec];refine af ?_;repeat' (intro (ag:_=_)<;>simp only[ag,go_sem,go_sem_proc,fw,xy,GP,zl,L,aU,bq,bp]<;>try refine ab ?_ ?_)
 ·have L:cI (s,l)=false:=by simpa using L
  have ec:cy ((s,l),(s2,X))=false:=by unfold cy;simp[L]
  rw[ec];refine af ?_;repeat' (intro (ag:_=_)<;>simp only[ag,go_sem,go_sem_proc,fw,xy,GP,zl,L,bq,bp]<;>try refine ab ?_ ?_)
def zm (b:Bool)(p q:Raw):av×Int:=if b=true then (bA,6) else ie p q
abbrev Qa:Int×(List Int)×Int×(List Int)×Bool->List Data:=λ(s,l,s2,X,b)=>[.agg [.int .i64 s,.ao (l.map aG)],.agg [.int .i64 s2,.ao (X.map aG)],.bool b]
def DC:=bG Qa λ(s,l,s2,X,b)=>b8 (D l<=1000000/\D X<=1000000) (.same (cP (zm b (s,l) (s2,X))))
def asF:∀a b,Qa a=Qa b->a=b:=by
  rintro⟨s1,hZ,tX,sG,bR⟩ ⟨s2,X,tY,sH,cz⟩ h;simp only[bj,Data.agg.injEq,Data.int.injEq,Data.ao.injEq,Data.bool.injEq] at h;exact cx h.1.1.2 (cx (map_inj fW _ _ h.1.2.1) (cx h.2.1.1.2 (cx (map_inj fW _ _ h.2.1.2.1) h.2.2.1)))
@[go_sem] def aBB (s l s2 X b):=cj DC rfl asF (s,l,s2,X,b) rfl
def asG (T:bg)(P0:T IE=aE Ld):WF T af1 DC:=by
 refine b5 λ(s,l,s2,X,b)=>cn λU=>⟨rfl,b4 ?_⟩;simp only[af1,Qa,bV];obtain⟨bq,bp⟩:=U
 cases b
 ·refine af ?_;repeat' (intro h<;>simp only[h,go_sem,go_sem_proc,P0,bq,bp,zm,cP,ar]<;>try refine ab ?_ ?_)
 ·refine af ?_;repeat' (intro h<;>simp only[h,go_sem,go_sem_proc,P0,bq,bp,zm,cP,ar,bA,bN]<;>try refine ab ?_ ?_)
def GQ (c7 nq a3 hX:Raw×Int):av×Int:=zm (!((c7.2==0)&&((nq.2==0)&&((a3.2==0)&&(hX.2==0))))) hX.1 a3.1
def GR (P a3:Raw×Int):av×Int:=zm (!((P.2==0)&&(a3.2==0))) P.1 a3.1
def asH {a b:av}(ba:cy a=true)(R:cy b=true):iC a b=GR (mulR a.1 b.1) (mulR a.2 b.2):=by
 unfold iC vi GR zm;rw[aJ ba,aJ R]
 cases F:((mulR a.1 b.1).2==0)<;>cases G:((mulR a.2 b.2).2==0)<;>rfl
def asI {a b:av}(ba:cy a=true)(R:cy b=true):fK a b=if (b.1.1==0)=true then (bA,15) else GR (mulR a.1 b.2) (mulR a.2 b.1):=by
 unfold fK vi GR zm;rw[aJ ba,aJ R]
 cases F:((mulR a.1 b.2).2==0)<;>cases G:((mulR a.2 b.1).2==0)<;>rfl
def af6 {a b:av}(ba:cy a=true)(R:cy b=true):ou a b=GQ (mulR a.1 b.2) (mulR b.1 a.2) (mulR a.2 b.2) (lz (mulR a.1 b.2).1 (mulR b.1 a.2).1):=by
 unfold ou vi w0 GQ zm;rw[aJ ba,aJ R];rcases F:((mulR a.1 b.2).2==0)<;>rcases G:((mulR b.1 a.2).2==0)<;>rcases aa:((mulR a.2 b.2).2==0)<;>rcases aX:((lz (mulR a.1 b.2).1 (mulR b.1 a.2).1).2==0)<;>simp_all
def Qb {z:Int}:((nR z).2==0)=iD z:=by
 rcases h:iD z
 ·rw[JB h];rfl
 ·rw[At h];rfl
def asJ {a b:Int}(ba:a.natAbs<cW)(R:b.natAbs<cW):(mulR (hx (a9 a)) (a9 b))=nR (-(a*b)):=by
 rw[WM ba,yH (by rw[rr];exact ba) R,Int.neg_mul]
def af7 (z:Int):iD (-z)=iD z:=by unfold iD;rw[rr]
def asK {a b:av}(ba:cy a=true)(R:cy b=true):kn a b=GQ (mulR a.1 b.2) (mulR b.1 a.2) (mulR a.2 b.2) (xw (mulR a.1 b.2).1 (mulR b.1 a.2).1):=by
 obtain⟨x,J,rfl⟩:=(As _).1 ba;obtain⟨y,ai,rfl⟩:=(As _).1 R
 have asL:cy (hx (ed y).1,(ed y).2)=true:=by
  have:(hx (ed y).1,(ed y).2)=ed (-y):=by
   unfold ed;dsimp only;rw[WM ai.1]
   rfl
  rw[this];exact Cs (abZ ai)
 unfold kn;rw[aJ ba,aJ R,af6 ba asL];unfold GQ zm;show (if (!(((mulR (a9 x.num) (a9 y.den)).2==0)&&(((mulR (hx (a9 y.num)) (a9 x.den)).2==0)&&(((mulR (a9 x.den) (a9 y.den)).2==0)&&((lz (mulR (a9 x.num) (a9 y.den)).1 (mulR (hx (a9 y.num)) (a9 x.den)).1).2==0)))))=true then (bA,6) else ie (lz (mulR (a9 x.num) (a9 y.den)).1 (mulR (hx (a9 y.num)) (a9 x.den)).1).1 (mulR (a9 x.den) (a9 y.den)).1)=(if (!(((mulR (a9 x.num) (a9 y.den)).2==0)&&(((mulR (a9 y.num) (a9 x.den)).2==0)&&(((mulR (a9 x.den) (a9 y.den)).2==0)&&((xw (mulR (a9 x.num) (a9 y.den)).1 (mulR (a9 y.num) (a9 x.den)).1).2==0)))))=true then (bA,6) else ie (xw (mulR (a9 x.num) (a9 y.den)).1 (mulR (a9 y.num) (a9 x.den)).1).1 (mulR (a9 x.den) (a9 y.den)).1);rw[yH J.1 (ru ai),asJ ai.1 (ru J),yH ai.1 (ru J),yH (ru J) (ru ai),Qb,Qb,Qb,Qb,af7];rcases F:iD (x.num*y.den)
 ·rfl
 ·rcases G:iD (y.num*x.den)
  ·rfl
  ·rw[At F,At G,At (by rw[af7];exact G)];dsimp only;rw[Jp (Au F) (by rw[rr];exact Au G),asu (Au F) (Au G)]
   rfl
def asM (a b:Raw):(xw a b).1.2.length<=1000000:=by
 unfold xw
 split
 ·exact Ue _ _
 ·simp
def Qc:=bG lB λ(s,l,s2,X,bS,bZ,bU,bX)=>b8 (D l<=1000000/\D X<=1000000/\D bZ<=1000000/\D bX<=1000000) (.same (cP (ou ((s,l),(s2,X)) ((bS,bZ),(bU,bX)))))
@[go_sem] def aBC (s l s2 X bS bZ bU bX):=cj Qc rfl vj (s,l,s2,X,bS,bZ,bU,bX) rfl
def asN (T:bg)(dv:T kY=aE uD)(j7:T qA=aE DB)(xx:T IS=aE Lb)(j8:T yn=aE DC):WF T af0 Qc:=by
 refine b5 λ(s,l,s2,X,bS,bZ,bU,bX)=>cn λU=>⟨rfl,b4 ?_⟩;simp only[af0,lB,bV];obtain⟨bq,bp,ek,eP⟩:=U
 by_cases L:cy ((s,l),(s2,X))=true
 ·by_cases aU:cy ((bS,bZ),(bU,bX))=true
  ·rw[af6 L aU];dsimp only;have aW:=o0 (s,l) (bU,bX);have bY:=o0 (bS,bZ) (s2,X);have fI:=o0 (s2,X) (bU,bX);generalize iB:mulR (s,l) (bU,bX)=jd at *;generalize j0:mulR (bS,bZ) (s2,X)=M2 at *;generalize vS:mulR (s2,X) (bU,bX)=M3 at *;obtain⟨⟨dw,dV⟩,aO⟩:=jd;obtain⟨⟨bR,cz⟩,ax⟩:=M2;obtain⟨⟨ch,dB⟩,eS⟩:=M3;dsimp only at *;have fs:=Ue (dw,dV) (bR,cz);generalize vT:lz (dw,dV) (bR,cz)=M4 at *;obtain⟨⟨d1,d2⟩,iA⟩:=M4;unfold GQ;dsimp only at *;rcases F:(aO==0)
   ·refine af ?_;repeat' (intro h<;>simp only[h,go_sem,go_sem_proc,dv,j7,xx,j8,bq,bp,ek,eP,L,aU,iB,j0,vS,vT,aW,bY,fI,fs,F,en,b3,cP,ar,db,cZ,bne,eN]<;>try refine ab ?_ ?_)
   ·rcases G:(ax==0)
    ·refine af ?_;repeat' (intro h<;>simp only[h,go_sem,go_sem_proc,dv,j7,xx,j8,bq,bp,ek,eP,L,aU,iB,j0,vS,vT,aW,bY,fI,fs,F,G,en,b3,cP,ar,db,cZ,bne,eN,eZ]<;>try refine ab ?_ ?_)
    ·rcases aa:(eS==0)
     ·refine af ?_;repeat' (intro h<;>simp only[h,go_sem,go_sem_proc,dv,j7,xx,j8,bq,bp,ek,eP,L,aU,iB,j0,vS,vT,aW,bY,fI,fs,F,G,aa,en,b3,cP,ar,db,cZ,bne,eN,eZ]<;>try refine ab ?_ ?_)
     ·rcases aX:(iA==0)
      ·refine af ?_;repeat' (intro h<;>simp only[h,go_sem,go_sem_proc,dv,j7,xx,j8,bq,bp,ek,eP,L,aU,iB,j0,vS,vT,aW,bY,fI,fs,F,G,aa,aX,en,b3,cP,ar,db,cZ,bne,eN,eZ]<;>try refine ab ?_ ?_)
      ·refine af ?_;repeat' (intro h<;>simp only[h,go_sem,go_sem_proc,dv,j7,xx,j8,bq,bp,ek,eP,L,aU,iB,j0,vS,vT,aW,bY,fI,fs,F,G,aa,aX,en,b3,cP,ar,db,cZ,bne,eN,eZ]<;>try refine ab ?_ ?_)
  ·have aU:cy ((bS,bZ),(bU,bX))=false:=by simpa using aU
   unfold ou;rw[aJ L,aR (by simp[aU])];refine af ?_;repeat' (intro h<;>simp only[h,go_sem,go_sem_proc,dv,j7,xx,j8,bq,bp,ek,eP,L,aU,cP,ar,bA,bN]<;>try refine ab ?_ ?_)
 ·have L:cy ((s,l),(s2,X))=false:=by simpa using L
  unfold ou;rw[aR (by simp[L])];refine af ?_;repeat' (intro h<;>simp only[h,go_sem,go_sem_proc,dv,j7,xx,j8,bq,bp,ek,eP,L,cP,ar,bA,bN]<;>try refine ab ?_ ?_)
def Lg:=bG lB λ(s,l,s2,X,bS,bZ,bU,bX)=>b8 (D l<=1000000/\D X<=1000000/\D bZ<=1000000/\D bX<=1000000) (.same (cP (kn ((s,l),(s2,X)) ((bS,bZ),(bU,bX)))))
@[go_sem] def aBD (s l s2 X bS bZ bU bX):=cj Lg rfl vj (s,l,s2,X,bS,bZ,bU,bX) rfl
def asO (T:bg)(dv:T kY=aE uD)(j7:T qA=aE DB)(DD:T SR=aE PY)(j8:T yn=aE DC):WF T afX Lg:=by
 refine b5 λ(s,l,s2,X,bS,bZ,bU,bX)=>cn λU=>⟨rfl,b4 ?_⟩;simp only[afX,lB,bV];obtain⟨bq,bp,ek,eP⟩:=U
 by_cases L:cy ((s,l),(s2,X))=true
 ·by_cases aU:cy ((bS,bZ),(bU,bX))=true
  ·rw[asK L aU];dsimp only;have aW:=o0 (s,l) (bU,bX);have bY:=o0 (bS,bZ) (s2,X);have fI:=o0 (s2,X) (bU,bX);generalize iB:mulR (s,l) (bU,bX)=jd at *;generalize j0:mulR (bS,bZ) (s2,X)=M2 at *;generalize vS:mulR (s2,X) (bU,bX)=M3 at *;obtain⟨⟨dw,dV⟩,aO⟩:=jd;obtain⟨⟨bR,cz⟩,ax⟩:=M2;obtain⟨⟨ch,dB⟩,eS⟩:=M3;dsimp only at *;have fs:=asM (dw,dV) (bR,cz);generalize vT:xw (dw,dV) (bR,cz)=M4 at *;obtain⟨⟨d1,d2⟩,iA⟩:=M4;unfold GQ;dsimp only at *;rcases F:(aO==0)
   ·refine af ?_;repeat' (intro h<;>simp only[h,go_sem,go_sem_proc,dv,j7,DD,j8,bq,bp,ek,eP,L,aU,iB,j0,vS,vT,aW,bY,fI,fs,F,en,b3,cP,ar,db,cZ,bne,eN]<;>try refine ab ?_ ?_)
   ·rcases G:(ax==0)
    ·refine af ?_;repeat' (intro h<;>simp only[h,go_sem,go_sem_proc,dv,j7,DD,j8,bq,bp,ek,eP,L,aU,iB,j0,vS,vT,aW,bY,fI,fs,F,G,en,b3,cP,ar,db,cZ,bne,eN,eZ]<;>try refine ab ?_ ?_)
    ·rcases aa:(eS==0)
     ·refine af ?_;repeat' (intro h<;>simp only[h,go_sem,go_sem_proc,dv,j7,DD,j8,bq,bp,ek,eP,L,aU,iB,j0,vS,vT,aW,bY,fI,fs,F,G,aa,en,b3,cP,ar,db,cZ,bne,eN,eZ]<;>try refine ab ?_ ?_)
     ·rcases aX:(iA==0)
      ·refine af ?_;repeat' (intro h<;>simp only[h,go_sem,go_sem_proc,dv,j7,DD,j8,bq,bp,ek,eP,L,aU,iB,j0,vS,vT,aW,bY,fI,fs,F,G,aa,aX,en,b3,cP,ar,db,cZ,bne,eN,eZ]<;>try refine ab ?_ ?_)
      ·refine af ?_;repeat' (intro h<;>simp only[h,go_sem,go_sem_proc,dv,j7,DD,j8,bq,bp,ek,eP,L,aU,iB,j0,vS,vT,aW,bY,fI,fs,F,G,aa,aX,en,b3,cP,ar,db,cZ,bne,eN,eZ]<;>try refine ab ?_ ?_)
  ·have aU:cy ((bS,bZ),(bU,bX))=false:=by simpa using aU
   unfold kn;rw[aJ L,aR (by simp[aU])];refine af ?_;repeat' (intro h<;>simp only[h,go_sem,go_sem_proc,dv,j7,DD,j8,bq,bp,ek,eP,L,aU,cP,ar,bA,bN]<;>try refine ab ?_ ?_)
 ·have L:cy ((s,l),(s2,X))=false:=by simpa using L
  unfold kn;rw[aR (by simp[L])];refine af ?_;repeat' (intro h<;>simp only[h,go_sem,go_sem_proc,dv,j7,DD,j8,bq,bp,ek,eP,L,cP,ar,bA,bN]<;>try refine ab ?_ ?_)
def Lh:=bG lB λ(s,l,s2,X,bS,bZ,bU,bX)=>b8 (D l<=1000000/\D X<=1000000/\D bZ<=1000000/\D bX<=1000000) (.same (cP (iC ((s,l),(s2,X)) ((bS,bZ),(bU,bX)))))
@[go_sem] def aBE (s l s2 X bS bZ bU bX):=cj Lh rfl vj (s,l,s2,X,bS,bZ,bU,bX) rfl
def asP (T:bg)(dv:T kY=aE uD)(j7:T qA=aE DB)(j8:T yn=aE DC):WF T afZ Lh:=by
 refine b5 λ(s,l,s2,X,bS,bZ,bU,bX)=>cn λU=>⟨rfl,b4 ?_⟩;simp only[afZ,lB,bV];obtain⟨bq,bp,ek,eP⟩:=U
 by_cases L:cy ((s,l),(s2,X))=true
 ·by_cases aU:cy ((bS,bZ),(bU,bX))=true
  ·rw[asH L aU];dsimp only;have aW:=o0 (s,l) (bS,bZ);have bY:=o0 (s2,X) (bU,bX);generalize iB:mulR (s,l) (bS,bZ)=jd at *;generalize j0:mulR (s2,X) (bU,bX)=M2 at *;obtain⟨⟨dw,dV⟩,aO⟩:=jd;obtain⟨⟨bR,cz⟩,ax⟩:=M2;unfold GR;dsimp only at *;rcases F:(aO==0)
   ·refine af ?_;repeat' (intro h<;>simp only[h,go_sem,go_sem_proc,dv,j7,j8,bq,bp,ek,eP,L,aU,iB,j0,aW,bY,F,en,b3,cP,ar,db,cZ,bne,eN]<;>try refine ab ?_ ?_)
   ·rcases G:(ax==0)
    ·refine af ?_;repeat' (intro h<;>simp only[h,go_sem,go_sem_proc,dv,j7,j8,bq,bp,ek,eP,L,aU,iB,j0,aW,bY,F,G,en,b3,cP,ar,db,cZ,bne,eN,eZ]<;>try refine ab ?_ ?_)
    ·refine af ?_;repeat' (intro h<;>simp only[h,go_sem,go_sem_proc,dv,j7,j8,bq,bp,ek,eP,L,aU,iB,j0,aW,bY,F,G,en,b3,cP,ar,db,cZ,bne,eN,eZ]<;>try refine ab ?_ ?_)
  ·have aU:cy ((bS,bZ),(bU,bX))=false:=by simpa using aU
   unfold iC;rw[aJ L,aR (by simp[aU])];refine af ?_;repeat' (intro h<;>simp only[h,go_sem,go_sem_proc,dv,j7,j8,bq,bp,ek,eP,L,aU,cP,ar,bA,bN]<;>try refine ab ?_ ?_)
 ·have L:cy ((s,l),(s2,X))=false:=by simpa using L
  unfold iC;rw[aR (by simp[L])];refine af ?_;repeat' (intro h<;>simp only[h,go_sem,go_sem_proc,dv,j7,j8,bq,bp,ek,eP,L,cP,ar,bA,bN]<;>try refine ab ?_ ?_)
def Qd:=bG lB λ(s,l,s2,X,bS,bZ,bU,bX)=>b8 (D l<=1000000/\D X<=1000000/\D bZ<=1000000/\D bX<=1000000) (.same (cP (fK ((s,l),(s2,X)) ((bS,bZ),(bU,bX)))))
@[go_sem] def aBF (s l s2 X bS bZ bU bX):=cj Qd rfl vj (s,l,s2,X,bS,bZ,bU,bX) rfl
def asQ (T:bg)(dv:T kY=aE uD)(j7:T qA=aE DB)(j8:T yn=aE DC):WF T af2 Qd:=by
 refine b5 λ(s,l,s2,X,bS,bZ,bU,bX)=>cn λU=>⟨rfl,b4 ?_⟩;simp only[af2,lB,bV];obtain⟨bq,bp,ek,eP⟩:=U
 by_cases L:cy ((s,l),(s2,X))=true
 ·by_cases aU:cy ((bS,bZ),(bU,bX))=true
  ·rw[asI L aU];dsimp only;rcases aq:(bS==0)
   ·rw[aR (by simp)];have aW:=o0 (s,l) (bU,bX);have bY:=o0 (s2,X) (bS,bZ);generalize iB:mulR (s,l) (bU,bX)=jd at *;generalize j0:mulR (s2,X) (bS,bZ)=M2 at *;obtain⟨⟨dw,dV⟩,aO⟩:=jd;obtain⟨⟨bR,cz⟩,ax⟩:=M2;unfold GR;dsimp only at *;rcases F:(aO==0)
    ·refine af ?_;repeat' (intro h<;>simp only[h,go_sem,go_sem_proc,dv,j7,j8,bq,bp,ek,eP,L,aU,aq,iB,j0,aW,bY,F,en,b3,cP,ar,db,cZ,bne,eN]<;>try refine ab ?_ ?_)
    ·rcases G:(ax==0)
     ·refine af ?_;repeat' (intro h<;>simp only[h,go_sem,go_sem_proc,dv,j7,j8,bq,bp,ek,eP,L,aU,aq,iB,j0,aW,bY,F,G,en,b3,cP,ar,db,cZ,bne,eN,eZ]<;>try refine ab ?_ ?_)
     ·refine af ?_;repeat' (intro h<;>simp only[h,go_sem,go_sem_proc,dv,j7,j8,bq,bp,ek,eP,L,aU,aq,iB,j0,aW,bY,F,G,en,b3,cP,ar,db,cZ,bne,eN,eZ]<;>try refine ab ?_ ?_)
   ·rw[aJ rfl];refine af ?_;repeat' (intro h<;>simp only[h,go_sem,go_sem_proc,dv,j7,j8,bq,bp,ek,eP,L,aU,aq,cP,ar,bA,bN]<;>try refine ab ?_ ?_)
  ·have aU:cy ((bS,bZ),(bU,bX))=false:=by simpa using aU
   unfold fK;rw[aJ L,aR (by simp[aU])];refine af ?_;repeat' (intro h<;>simp only[h,go_sem,go_sem_proc,dv,j7,j8,bq,bp,ek,eP,L,aU,cP,ar,bA,bN]<;>try refine ab ?_ ?_)
 ·have L:cy ((s,l),(s2,X))=false:=by simpa using L
  unfold fK;rw[aR (by simp[L])];refine af ?_;repeat' (intro h<;>simp only[h,go_sem,go_sem_proc,dv,j7,j8,bq,bp,ek,eP,L,cP,ar,bA,bN]<;>try refine ab ?_ ?_)
def af8:bE:=bT 30 3 [.t 6] (M [bW 6 false] (.seq (M [a8 7 0] (dT 0 (.seq (M [E 8 7,E 9 0,cd 10 9,br 11 .lss 8 10,E 12 11,eu 13 12 7,eu 14 12 1,E2 15 12 .leq 13 14,fE 16 12 15] (dd 16 0)) (.seq (.block 1 (M [E 19 0,E 20 7,bC 21 4 19 20,aB 22 4 21,E 23 2,bI 24 IA 22 23,dS 25 24] (bO 25 [bW 6 false]))) (.ops [E 17 7,bb 18 .add 17 1,E 7 18]))))) (M [E 26 0,cd 27 26,E 28 1,br 29 .leq 27 28,E 6 29] .ret)))
def af9:bE:=bT 27 2 [.t 4] (M [bW 4 false] (.seq (M [E 6 0,cd 7 6,E 8 1,cd 9 8,br 10 .neq 7 9] (bO 10 [bW 4 false])) (.seq (M [a8 5 0] (dT 0 (.seq (M [E 11 5,E 12 0,cd 13 12,br 14 .lss 11 13] (dd 14 0)) (.seq (.block 1 (e2 [E 17 0,E 18 5,bC 19 4 17 18,aB 20 4 19,E 21 1,E 22 5,bC 23 4 21 22,aB 24 4 23,bI 25 Sx 20 24,dS 26 25] IV (bO 26 [bW 4 false]))) (.ops [E 15 5,bb 16 .add 15 1,E 5 16]))))) (M [bW 4 true] .ret))))
def aga:bE:=bT 7 1 [.t 2] (M [ck 1 113001 0,bW 2 false] (M [aC 3 0 1,aC 4 0 3,aH 5 1 4,bb 6 .eql 5 0,E 2 6] .ret))
def agb:bE:=bT 41 2 [.t 4,.t 5] (M [cF 4,a8 5 0] (.seq (M [E 11 0,E 12 1,bI 13 SM 11 12,dS 14 13] (bO 14 [cF 4,a8 5 1])) (M [E 16 0,E 17 1,az 18 (.call SN [.t 16,.t 17,.c (.I (.bool true))]),E 15 18,aN 19 0 15,aN 20 1 15,aN 21 2 15,E 6 19,E 7 20,E 8 21] (.seq (M [E 22 8,dS 23 22] (bO 23 [cF 4,a8 5 6])) (.seq (M [E 24 7,cd 25 24,bb 26 .gtr 25 0] (bO 26 [cF 4,a8 5 17])) (M [cF 9] (.seq (M [a8 10 0] (.block 0 (.ghost (.mM 9 189039 4) (.loop  (.seq (M [E 27 10,E 28 1,br 29 .lss 27 28] (dd 29 0)) (.seq (.block 1 (.ops [E 32 9,E 33 6,E 34 10,bC 35 5 33 34,aC 36 1 35,aB 37 4 36,az 38 (.dM 189038 false cK 4 1 [(0,4,.t 37)]),az 39 (.app 189039 cK 64 (.t 32) (.t 38)),E 9 39])) (.ops [E 30 10,bb 31 .add 30 1,E 10 31]))))))) (M [E 40 9,E 4 40,a8 5 0] .ret))))))))
def agc:bE:=bT 56 2 [.t 4] (M [bW 4 false] (.seq (M [E 7 1,bb 8 .lss 7 0,E 9 8,dJ 10 9 1,gM 11 9 .gtr 10 40,cD 12 9 11,E 13 12,dJ 14 13 0,nJ 15 13 14,dJ 16 13 1,nK 17 13 .neq 15 16,cD 18 13 17] (bO 18 [bW 4 false])) (.seq (M [a8 5 0] (dT 0 (.seq (M [E 19 5,E 20 1,br 21 .lss 19 20] (dd 21 0)) (.seq (.block 1 (.seq (M [E 24 0,E 25 5,bC 26 5 24 25,aC 27 0 26,aH 28 1 27,cd 29 28,E 30 1,br 31 .neq 29 30,E 32 31,dJ 33 32 0,dJ 34 32 5,sw 35 32 5 33 34,fq 36 32 1 35,hv 37 32 4 36,fr 38 32 (.call kY [.t 37]),ib 39 32 38,cD 40 32 39] (bO 40 [bW 4 false])) (M [a8 6 0] (dT 2 (.seq (M [E 41 6,E 42 1,br 43 .lss 41 42] (dd 43 2)) (.seq (.block 3 (M [E 46 0,E 47 5,bC 48 5 46 47,aC 49 0 48,aH 50 1 49,E 51 6,bC 52 4 50 51,aB 53 4 52,c6 54 kY 53,dS 55 54] (bO 55 [bW 4 false]))) (.ops [E 44 6,bb 45 .add 44 1,E 6 45]))))))) (.ops [E 22 5,bb 23 .add 22 1,E 5 23]))))) (M [bW 4 true] .ret))))
def GS:bE:=bT 132 3 [.t 6,.t 7,.t 8] (M [cF 6,cF 7,bW 8 false] (M [E 20 0,az 21 (.lb 194021 5 SP [.t 20]),E 9 21] (M [cF 10] (M [a8 11 0] (.seq (M [a8 12 0] (.block 0 (.ghost (.mM 10 194050 1) (.loop  (.seq (M [E 22 12,E 23 1,br 24 .lss 22 23] (dd 24 0)) (.seq (.block 1 (.seq (.ghost (.move) (.ops [E 27 11,E 13 27])) (.seq (dT 2 (.seq (M [E 28 13,E 29 1,br 30 .lss 28 29,E 31 30,eu 32 31 9,eu 33 31 13,rn 34 31 5 32 33,hH 35 31 0 34,iz 36 31 1 35,eu 37 31 12,rn 38 31 4 36 37,B9 39 31 4 38,fA 40 31 (.call EL [.t 39]),fE 41 31 40] (dd 41 2)) (.block 3 (.ops [E 42 13,bb 43 .add 42 1,E 13 43])))) (.seq (.seq (.ghost (.move) (.ops [E 44 13,E 45 1,br 46 .eql 44 45])) (fi 46 (M [E 47 10,E 48 12,az 49 (.dM 194049 false [bl 0] 1 1 [(0,1,.t 48)]),az 50 (.app 194050 [bl 0] 8 (.t 47) (.t 49)),E 10 50] (.seq (M [E 51 2] (bO 51 [E 52 9,E 53 10,E 6 52,E 7 53,bW 8 true])) (.exit 1))) .skip)) (.seq (.ghost (.move) (.ops [E 54 9,E 55 11,bC 56 5 54 55,aB 57 5 56,bP 14 194014 hI,aZ 5 14 57])) (M [E 58 9,E 59 11,E 60 9,E 61 13,bC 62 5 60 61,aB 63 5 62,bC 64 5 58 59,aZ 5 64 63] (M [E 65 9,E 66 13,aB 67 5 14,bC 68 5 65 66,aZ 5 68 67] (M [E 70 9,E 71 11,bC 72 5 70 71,aB 73 5 72,E 74 1,E 75 12,yq 76 SQ 73 74 75,E 69 76,aN 77 0 69,aN 78 1 69,bP 15 194015 hI,aZ 5 15 77,E 16 78] (.seq (.seq (.ghost (.move) (.ops [E 79 16,dS 80 79])) (bO 80 [E 81 9,E 82 10,E 6 81,E 7 82,bW 8 false])) (M [E 83 9,E 84 11,aB 85 5 15,bC 86 5 83 84,aZ 5 86 85] (.seq (M [a8 17 0] (dT 4 (.seq (M [E 87 17,E 88 1,br 89 .lss 87 88] (dd 89 4)) (.seq (.block 5 (.seq (M [E 92 17,E 93 11,br 94 .eql 92 93,E 95 94,dJ 96 95 9,dJ 97 95 17,sw 98 95 5 96 97,fq 99 95 0 98,fz 100 95 1 99,dJ 101 95 12,sw 102 95 4 100 101,hv 103 95 4 102,fr 104 95 (.call EL [.t 103]),cD 105 95 104] (fi 105 (.exit 5) .skip)) (e2 [E 107 9,E 108 17,bC 109 5 107 108,aB 110 5 109,E 111 9,E 112 11,bC 113 5 111 112,aB 114 5 113,E 115 1,E 116 12,oU 117 Nq 110 114 115 116,E 106 117,aN 118 0 106,aN 119 1 106,bP 18 194018 hI,aZ 5 18 118,E 19 119] [[],[],[],[],[],[],[],[],[],[],[],[],[],[],[3,7],[],[]] (.seq (M [E 120 19,dS 121 120] (bO 121 [E 122 9,E 123 10,E 6 122,E 7 123,bW 8 false])) (.ops [E 124 9,E 125 17,aB 126 5 18,bC 127 5 124 125,aZ 5 127 126]))))) (.ops [E 90 17,bb 91 .add 90 1,E 17 91]))))) (.ops [E 128 11,bb 129 .add 128 1,E 11 129])))))))))))) (.ops [E 25 12,bb 26 .add 25 1,E 12 26]))))))) (M [E 130 9,E 131 10,E 6 130,E 7 131,bW 8 true] .ret))))))
def agd:bE:=bT 28 1 [.t 2] (M [cF 2] (M [cF 3] (.seq (M [a8 4 0] (.block 0 (.ghost (.mM 3 199026 5) (.loop  (.seq (M [E 5 4,E 6 0,cd 7 6,br 8 .lss 5 7] (dd 8 0)) (.seq (.block 1 (.mN [E 11 3,az 12 (.dM 199012 true [] 4 0 []),E 13 0,E 14 4,bC 15 5 13 14,aC 16 0 15,aH 17 1 16,az 18 (.app 199018 cK 64 (.t 12) (.t 17)),E 19 0,E 20 4,bC 21 5 19 20,aC 22 1 21,aB 23 4 22,az 24 (.build hI [(0,1,.t 18),(1,4,.t 23)]),az 25 (.dM 199025 true hI 5 1 [(0,5,.t 24)]),az 26 (.app 199026 hI 88 (.t 11) (.t 25)),E 3 26] [[],[],[],[],[],[],[1],[],[],[],[],[],[1,7],[],[],[],[]])) (.ghost (.move) (.ops [E 9 4,bb 10 .add 9 1,E 4 10])))))))) (M [E 27 3,E 2 27] .ret))))
def age:bE:=bT 60 3 [.cell 6 5 true,.t 7] (M [ck 3 200003 0,bP 6 200006 hI,bW 7 false] (M [aC 15 0 3,aH 16 1 15,E 17 2,bC 18 4 16 17,aB 19 4 18,bP 8 200008 cK,aZ 4 8 19] (M [az 20 (.dM 200020 true [] 4 0 []),aC 21 0 3,aH 22 1 21,az 23 (.app 200023 cK 64 (.t 20) (.t 22)),az 24 (.build hI [(0,1,.t 23)]),bP 9 200009 hI,aZ 5 9 24] (.seq (M [a8 10 0] (dT 0 (.seq (M [E 25 10,E 26 1,br 27 .lss 25 26] (dd 27 0)) (.seq (.block 1 (e2 [aC 31 0 3,aH 32 1 31,E 33 10,bC 34 4 32 33,aB 35 4 34,aB 36 4 8,bI 37 Nr 35 36,E 30 37,aN 38 0 30,aN 39 1 30,bP 11 200011 cK,aZ 4 11 38,E 12 39] [[],[],[],[],[],[],[],[],[],[],[1,4,5],[],[]] (.seq (M [E 40 12,bb 41 .neq 40 0] (bO 41 [aB 42 5 9,aZ 5 6 42,bW 7 false])) (.ops [aC 43 0 9,aH 44 1 43,E 45 10,aB 46 4 11,bC 47 4 44 45,aZ 4 47 46])))) (.ops [E 28 10,bb 29 .add 28 1,E 10 29]))))) (M [aC 49 1 3,aB 50 4 49,aB 51 4 8,bI 52 Nr 50 51,E 48 52,aN 53 0 48,aN 54 1 48,bP 13 200013 cK,aZ 4 13 53,E 14 54] (M [aB 55 4 13,aC 56 1 9,aZ 4 56 55] (M [aB 57 5 9,E 58 14,bb 59 .eql 58 0,aZ 5 6 57,E 7 59] .ret)))))))
def agf:bE:=bT 69 4 [.cell 8 5 true,.t 9] (M [ck 4 201004 0,ck 5 201005 1,bP 8 201008 hI,bW 9 false] (M [aC 17 0 4,aH 18 1 17,E 19 3,bC 20 4 18 19,aB 21 4 20,bP 10 201010 cK,aZ 4 10 21] (M [az 22 (.dM 201022 true [] 4 0 []),aC 23 0 4,aH 24 1 23,az 25 (.app 201025 cK 64 (.t 22) (.t 24)),az 26 (.build hI [(0,1,.t 25)]),bP 11 201011 hI,aZ 5 11 26] (.seq (M [a8 12 0] (dT 0 (.seq (M [E 27 12,E 28 2,br 29 .lss 27 28] (dd 29 0)) (.seq (.block 1 (e2 [aC 33 0 4,aH 34 1 33,E 35 12,bC 36 4 34 35,aB 37 4 36,aB 38 4 10,aC 39 0 5,aH 40 1 39,E 41 12,bC 42 4 40 41,aB 43 4 42,yq 44 Ns 37 38 43,E 32 44,aN 45 0 32,aN 46 1 32,bP 13 201013 cK,aZ 4 13 45,E 14 46] [[],[],[],[],[],[],[],[],[],[],[],[],[],[],[],[1,4,5,7,10],[],[]] (.seq (M [E 47 14,bb 48 .neq 47 0] (bO 48 [aB 49 5 11,aZ 5 8 49,bW 9 false])) (.ops [aC 50 0 11,aH 51 1 50,E 52 12,aB 53 4 13,bC 54 4 51 52,aZ 4 54 53])))) (.ops [E 30 12,bb 31 .add 30 1,E 12 31]))))) (M [aC 56 1 4,aB 57 4 56,aB 58 4 10,aC 59 1 5,aB 60 4 59,yq 61 Ns 57 58 60,E 55 61,aN 62 0 55,aN 63 1 55,bP 15 201015 cK,aZ 4 15 62,E 16 63] (M [aB 64 4 15,aC 65 1 11,aZ 4 65 64] (M [aB 66 5 11,E 67 16,bb 68 .eql 67 0,aZ 5 8 66,E 9 68] .ret)))))))
def agh:bE:=bT 30 3 [.cell 6 4 true,.t 7] (M [ck 3 208003 0,ck 4 208004 1,ck 5 208005 2,bP 6 208006 cK,a8 7 0] (M [aB 13 4 4,aB 14 4 5,bI 15 IP 13 14,E 12 15,aN 16 0 12,aN 17 1 12,bP 8 208008 cK,aZ 4 8 16,E 9 17] (.seq (M [E 18 9,bb 19 .neq 18 0] (bO 19 [az 20 (.build cK []),E 21 9,aZ 4 6 20,E 7 21])) (M [aB 23 4 3,aB 24 4 8,bI 25 IN 23 24,E 22 25,aN 26 0 22,aN 27 1 22,bP 10 208010 cK,aZ 4 10 26,E 11 27] (M [aB 28 4 10,E 29 11,aZ 4 6 28,E 7 29] .ret)))))
def GU:=bG k4 λ(s,l,s2,X)=>some (.same (.bool (s==0)))
@[go_sem] def aBG (s l s2 X):=sm GU rfl uc (s,l,s2,X) rfl
def asR (T:bg):WF T aga GU:=by
 refine b5 λ(s,l,s2,X)=>⟨rfl,b4 ?_⟩;simp only[aga,k4,bV];refine af ?_;repeat' (intro h<;>simp only[h,go_sem,go_sem_proc,ah]<;>try refine ab ?_ ?_)
def qU (l:List av)(n d:Int):Bool:=decide ((D l:Int)<=n)&&l.all λf=>pq f d
def agi {α:Type}{p:α->Bool}{l:List α}{i:Nat}{x:α}(J:l[i]?=some x):(l.take (i+1)).all p=((l.take i).all p&&p x):=by
 rw[hn,J,Dh];simp
def agj {α:Type}{p:α->Bool}{l:List α}{i:Nat}{x:α}(J:l[i]?=some x)(h:p x=false):l.all p=false:=by
 rw[List.all_eq_false];exact⟨x,cJ J,by simp[h]⟩
abbrev Qe:(List av)×Int×Int->List Data:=λ(l,n,d)=>[.ao (l.map ar),.int .i64 n,.int .i64 d]
def Li:=bG Qe λ(l,n,d)=>b8 (n<=1000000) (.same (.bool (qU l n d)))
def asS:∀a b,Qe a=Qe b->a=b:=by
  rintro⟨hZ,rb,d1⟩ ⟨X,re,d2⟩ h;simp only[bj,Data.int.injEq,Data.ao.injEq] at h;exact cx (map_inj j1 _ _ h.1) (cx h.2.1.2 h.2.2.1.2)
@[go_sem] def asT (l n d):=cj Li rfl asS (l,n,d) rfl
def asU (T:bg)(qV:T IA=aE Lf):WF T af8 Li:=by
 refine b5 λ(l,n,d)=>cn λU=>⟨rfl,b4 ?_⟩;simp only[af8,Qe,bV];simp only[go_sem,go_sem_proc,qV,ah];refine cV [0,1,2] [] (λ(i:Nat) tm mem=>i<=D l/\(l.take i).all (λf=>pq f d)=true/\tm 7=.I (.int .i64 i)) (λi=>D l-i) 0 (by refine⟨by omega,by simp,rfl⟩) ?_;intro vs ms aI aD;simp only[go_sem,go_sem_proc,qV,ah] at aI aD;subst aI aD;rintro i tm mem Q hm ⟨Z,aj,bK⟩;simp only[go_sem,go_sem_proc,qV,bj] at Q;obtain⟨aq,F,G⟩:=Q
 by_cases a5:i<D l/\(i:Int)<=n
 ·obtain⟨an,eY⟩:=a5;obtain⟨⟨⟨a,b⟩,⟨c,e⟩⟩,J⟩:∃f,l[i]?=some f:=⟨_,bc an⟩;have d1:decide ((i:Int)<(D l:Int))=true:=c5;have d2:decide ((i:Int)<=n)=true:=mL eY;have bJ:=e1 (i:=i) (by omega);rcases vU:pq ((a,b),(c,e)) d
  ·have L:qU l n d=false:=by unfold qU;rw[agj J vU,iZ]
   rw[L];refine af ?_;repeat' (intro h<;>simp only[h,go_sem,go_sem_proc,qV,aq,F,G,bK,J,d1,d2,bJ,vU,ar,ah,bd]<;>try refine ab ?_ ?_)
  ·refine af ?_;repeat' (intro h<;>simp only[h,go_sem,go_sem_proc,qV,aq,F,G,bK,J,d1,d2,bJ,vU,ar,ah,bd]<;>try refine ab ?_ ?_)
   exact⟨i+1,by omega,by omega,by rw[agi J,aj,vU];rfl,rfl⟩
 ·have L:qU l n d=decide ((D l:Int)<=n):=by
   unfold qU
   by_cases A1:(D l:Int)<=n
   ·have:i=D l:=by omega
    rw[this,mB] at aj;rw[aj,pF]
   ·rw[me A1,eN]
  rw[L];rcases d1:decide ((i:Int)<(D l:Int))
  ·refine af ?_;repeat' (intro h<;>simp only[h,go_sem,go_sem_proc,qV,aq,F,G,bK,d1,ah]<;>try refine ab ?_ ?_)
  ·have d2:decide ((i:Int)<=n)=false:=me (by have:=of_decide_eq_true d1;omega);refine af ?_;repeat' (intro h<;>simp only[h,go_sem,go_sem_proc,qV,aq,F,G,bK,d1,d2,ah]<;>try refine ab ?_ ?_)
def Lj (a b:List av):Bool:=decide (a=b)
abbrev Qf:(List av)×(List av)->List Data:=λ(l,X)=>[.ao (l.map ar),.ao (X.map ar)]
def GV:=bG Qf λ(l,X)=>b8 (ih l/\ih X) (.same (.bool (Lj l X)))
def asV:∀a b,Qf a=Qf b->a=b:=by
  rintro⟨hZ,sG⟩ ⟨X,sH⟩ h;simp only[bj,Data.int.injEq,Data.ao.injEq] at h;exact cx (map_inj j1 _ _ h.1) (map_inj j1 _ _ h.2.1)
@[go_sem] def asW (l X):=cj GV rfl asV (l,X) rfl
def asX (T:bg)(DE:T Sx=aE P8):WF T af9 GV:=by
 refine b5 λ(l,X)=>cn λU=>⟨rfl,b4 ?_⟩;simp only[af9,Qf,bV];obtain⟨⟨bq,MF⟩,bp,RB⟩:=U
 by_cases ae:(D l)=D X
 ·have aO:(((D l:Nat):Int)==((D X:Nat):Int))=true:=by simp;omega
  simp only[go_sem,go_sem_proc,DE,ah,aO,cZ,bne];refine cV [0,1] [] (λ(i:Nat) tm mem=>i<=D l/\l.take i=X.take i/\tm 5=.I (.int .i64 i)) (λi=>D l-i) 0 (by refine⟨by omega,by simp,rfl⟩) ?_;intro vs ms aI aD;simp only[go_sem,go_sem_proc,DE,ah] at aI aD;subst aI aD;rintro i tm mem Q hm ⟨Z,aj,bt⟩;simp only[go_sem,go_sem_proc,DE,bj] at Q;obtain⟨aq,F⟩:=Q;rcases dt (i<D l) with an|bB
  ·obtain⟨⟨⟨a,b⟩,⟨c,e⟩⟩,J⟩:∃f,l[i]?=some f:=⟨_,bc an⟩;obtain⟨⟨⟨cB,eF⟩,⟨kB,e'⟩⟩,ai⟩:∃f,X[i]?=some f:=⟨_,bc (by omega)⟩;obtain⟨kq,jK⟩:=MF _ (cJ J);obtain⟨pd,pe⟩:=RB _ (cJ ai);dsimp only at kq jK pd pe;have d1:decide ((i:Int)<(D l:Int))=true:=c5;have bJ:=e1 (i:=i) (by omega);rcases O:P7 ((a,b),(c,e)) ((cB,eF),(kB,e'))
   ·have L:Lj l X=false:=by
     refine me λh=>of_decide_eq_false O ?_;rw[h,ai] at J;exact (mm J).symm
    rw[L];refine af ?_;repeat' (intro (ag:_=_)<;>simp only[ag,go_sem,go_sem_proc,DE,aq,F,bt,J,ai,d1,bJ,kq,jK,pd,pe,O,ar,ah,bd]<;>try refine ab ?_ ?_)
   ·refine af ?_;repeat' (intro (ag:_=_)<;>simp only[ag,go_sem,go_sem_proc,DE,aq,F,bt,J,ai,d1,bJ,kq,jK,pd,pe,O,ar,ah,bd]<;>try refine ab ?_ ?_)
    exact⟨i+1,by omega,by omega,by rw[hn,hn,J,ai,aj,of_decide_eq_true O],rfl⟩
  ·have d1:decide ((i:Int)<(D l:Int))=false:=de
   have L:Lj l X=true:=by
    refine mL ?_;rw[dE (by omega),dE (by omega)] at aj;exact aj
   rw[L];refine af ?_;repeat' (intro (ag:_=_)<;>simp only[ag,go_sem,go_sem_proc,DE,aq,F,bt,d1,ah]<;>try refine ab ?_ ?_)
 ·have aO:(((D l:Nat):Int)==((D X:Nat):Int))=false:=by simp;omega
  have L:Lj l X=false:=me λh=>ae (by rw[h]);rw[L];refine af ?_;repeat' (intro (ag:_=_)<;>simp only[ag,go_sem,go_sem_proc,DE,ah,aO,db,bne]<;>try refine ab ?_ ?_)
def agk:bE:=bT 67 2 [.t 4,.t 5,.t 6] (M [cF 4,cF 5,a8 6 0] (.seq (M [E 15 0,E 16 1,bI 17 B7 15 16,dS 18 17] (bO 18 [cF 4,cF 5,a8 6 1])) (M [E 20 0,E 21 1,bI 22 S8 20 21,c6 23 B8 22,E 19 23,aN 24 0 19,aN 25 1 19,aN 26 2 19,E 7 24,E 8 25,E 9 26] (.seq (M [E 27 9,bb 28 .neq 27 0] (bO 28 [E 29 9,cF 4,cF 5,E 6 29])) (M [cF 10] (.seq (M [a8 11 0] (.block 0 (.ghost (.mM 10 415056 5) (.loop  (.seq (M [E 30 11,E 31 1,br 32 .lss 30 31] (dd 32 0)) (.seq (.block 1 (.seq (M [E 35 7,E 36 11,bC 37 4 35 36,aC 38 0 37,aC 39 0 38,aH 40 1 39,bb 41 .neq 40 0] (bO 41 [E 42 7,cF 4,E 5 42,a8 6 16])) (M [az 44 (.call sv [.c (bl 1)]),E 45 0,E 46 1,E 47 11,oU 48 E1 44 45 46 47,E 43 48,aN 49 0 43,aN 50 1 43,bP 12 415012 hI,aZ 5 12 49,E 13 50] (.seq (M [E 51 13,dS 52 51] (bO 52 [cF 4,cF 5,a8 6 6])) (.ops [E 53 10,aB 54 5 12,az 55 (.dM 415055 false hI 5 1 [(0,5,.t 54)]),az 56 (.app 415056 hI 88 (.t 53) (.t 55)),E 10 56]))))) (.ops [E 33 11,bb 34 .add 33 1,E 11 34]))))))) (.seq (.ghost (.freeze 10) (.ops [E 58 10,E 59 1,bI 60 IM 58 59,E 57 60,aN 61 0 57,aN 62 1 57,E 14 61,E 9 62])) (.seq (M [E 63 9,bb 64 .neq 63 0] (bO 64 [E 65 9,cF 4,cF 5,E 6 65])) (M [E 66 14,E 4 66,cF 5,a8 6 0] .ret)))))))))
def agl:bE:=bT 65 3 [.t 6] (M [bW 6 false] (.seq (M [E 11 0,E 12 1,bI 13 B7 11 12,dS 14 13,E 15 14,dJ 16 15 2,nJ 17 15 16,dJ 18 15 1,nK 19 15 .neq 17 18,cD 20 15 19] (bO 20 [bW 6 false])) (.seq (M [a8 7 0] (dT 0 (.seq (M [E 21 7,E 22 1,br 23 .lss 21 22] (dd 23 0)) (.seq (.block 1 (M [E 26 2,E 27 7,bC 28 4 26 27,aB 29 4 28,c6 30 kY 29,dS 31 30,E 32 31,dJ 33 32 2,dJ 34 32 7,sw 35 32 4 33 34,fq 36 32 0 35,fq 37 32 0 36,fz 38 32 1 37,gM 39 32 .leq 38 0,cD 40 32 39] (bO 40 [bW 6 false]))) (.ops [E 24 7,bb 25 .add 24 1,E 7 25]))))) (.seq (M [a8 8 0] (dT 2 (.seq (M [E 41 8,E 42 1,br 43 .lss 41 42] (dd 43 2)) (.seq (.block 3 (M [az 47 (.call sv [.c (bl 0)]),E 48 0,E 49 2,E 50 8,oU 51 B5 47 48 49 50,E 46 51,aN 52 0 46,aN 53 1 46,bP 9 416009 cK,aZ 4 9 52,E 10 53] (e2 [E 54 10,dS 55 54,E 56 55,dJ 57 56 2,dJ 58 56 8,sw 59 56 4 57 58,hv 60 56 4 59,hv 61 56 4 9,fr 62 56 (.call z9 [.t 60,.t 61]),gM 63 56 .leq 62 0,cD 64 56 63] IW (bO 64 [bW 6 false])))) (.ops [E 44 8,bb 45 .add 44 1,E 8 45]))))) (M [bW 6 true] .ret)))))
def agm:bE:=bT 16 1 [.t 2] (M [ck 1 417001 0,bW 2 false] (M [aC 3 0 1,aH 4 1 3,az 5 (.call EK [.t 4,.c (bl 4),.c (bl 1)]),E 6 5,hH 7 6 1 1,iz 8 6 1 7,fA 9 6 (.call EK [.t 8,.c (bl 4),.c (bl 1)]),fE 10 6 9,E 11 10,hH 12 11 2 1,iz 13 11 1 12,fA 14 11 (.call S4 [.t 13]),fE 15 11 14,E 2 15] .ret))
def agn:bE:=bT 24 1 [.t 2] (M [bW 2 false] (.seq (M [a8 3 0] (dT 0 (.seq (M [E 4 3,E 5 0,cd 6 5,br 7 .lss 4 6,E 8 7,eu 9 8 3,kj 10 8 .leq 9 10,fE 11 8 10] (dd 11 0)) (.seq (.block 1 (M [E 14 0,E 15 3,bC 16 6 14 15,aC 17 2 16,aB 18 4 17,az 19 (.call IA [.t 18,.c (bl 1)]),dS 20 19] (bO 20 [bW 2 false]))) (.ops [E 12 3,bb 13 .add 12 1,E 3 13]))))) (M [E 21 0,cd 22 21,bb 23 .leq 22 10,E 2 23] .ret)))
def ago:bE:=bT 62 4 [.cell 8 4 true,.t 9] (M [ck 4 419004 0,bP 8 419008 cK,bW 9 false] (M [aB 16 4 4,bP 10 419010 cK,aZ 4 10 16] (.seq (M [a8 11 0] (dT 0 (.seq (M [E 17 11,E 18 1,cd 19 18,br 20 .lss 17 19] (dd 20 0)) (.seq (.block 1 (.seq (M [E 23 1,E 24 11,bC 25 6 23 24,aC 26 1 25,aH 27 1 26,E 28 3,br 29 .neq 27 28] (fi 29 (.exit 1) .skip)) (e2 [E 31 1,E 32 11,bC 33 6 31 32,aC 34 2 33,aB 35 4 34,E 36 2,E 37 1,E 38 11,bC 39 6 37 38,aC 40 0 39,aH 41 1 40,bC 42 4 36 41,aB 43 4 42,bI 44 IP 35 43,E 30 44,aN 45 0 30,aN 46 1 30,bP 12 419012 cK,aZ 4 12 45,E 13 46] [[],[],[],[],[],[],[],[],[],[],[],[],[],[],[],[],[],[4,10,12],[],[]] (M [aB 48 4 10,aB 49 4 12,bI 50 SO 48 49,E 47 50,aN 51 0 47,aN 52 1 47,bP 14 419014 cK,aZ 4 14 51,E 15 52] (.seq (M [E 53 13,bb 54 .neq 53 0,E 55 54,dJ 56 55 15,gM 57 55 .neq 56 0,cD 58 55 57] (bO 58 [az 59 (.build cK []),aZ 4 8 59,bW 9 false])) (.ops [aB 60 4 14,aZ 4 10 60])))))) (.ops [E 21 11,bb 22 .add 21 1,E 11 22]))))) (M [aB 61 4 10,aZ 4 8 61,bW 9 true] .ret))))
def agp:bE:=bT 73 2 [.t 4] (M [ck 2 420002 0,bW 4 false] (.seq (M [aB 9 3 2,c6 10 B6 9,dS 11 10,E 12 11,dJ 13 12 1,nJ 14 12 13,fq 15 12 0 2,fz 16 12 1 15,nJ 17 12 16,nK 18 12 .neq 14 17,cD 19 12 18] (bO 19 [bW 4 false])) (.seq (M [a8 5 0] (dT 0 (.seq (M [E 20 5,E 21 1,cd 22 21,br 23 .lss 20 22] (dd 23 0)) (.seq (.block 1 (M [E 26 1,E 27 5,bC 28 4 26 27,aB 29 4 28,c6 30 kY 29,dS 31 30] (bO 31 [bW 4 false]))) (.ops [E 24 5,bb 25 .add 24 1,E 5 25]))))) (.seq (M [a8 6 0] (dT 2 (.seq (M [E 32 6,E 33 1,cd 34 33,br 35 .lss 32 34] (dd 35 2)) (.seq (.block 3 (e2 [aC 39 1 2,aH 40 1 39,E 41 6,bC 42 4 40 41,aB 43 4 42,aC 44 2 2,aH 45 1 44,E 46 1,E 47 6,oU 48 B5 43 45 46 47,E 38 48,aN 49 0 38,aN 50 1 38,bP 7 420007 cK,aZ 4 7 49,E 8 50] [[],[],[],[],[],[],[],[],[],[],[],[],[],[1,4,6],[],[]] (.seq (M [E 51 8,dS 52 51] (bO 52 [bW 4 false])) (.seq (e2 [aB 53 4 7,aC 54 0 2,aH 55 1 54,E 56 6,bC 57 4 55 56,aB 58 4 57,bI 59 z9 53 58,bb 60 .gtr 59 0] Tc (fi 60 (.ops [aC 61 0 2,aH 62 1 61,E 63 6,bC 64 4 62 63,aB 65 4 64,aZ 4 7 65]) .skip)) (e2 [aB 66 4 7,E 67 1,E 68 6,bC 69 4 67 68,aB 70 4 69,bI 71 z9 66 70,bb 72 .neq 71 0] E3 (bO 72 [bW 4 false])))))) (.ops [E 36 6,bb 37 .add 36 1,E 6 37]))))) (M [bW 4 true] .ret)))))
def agq:bE:=bT 130 1 [.t 2,.t 3,.t 4] (M [ck 1 421001 0,cF 2,cF 3,a8 4 0] (.seq (M [aB 13 3 1,c6 14 B6 13,dS 15 14] (bO 15 [cF 2,cF 3,a8 4 1])) (M [aC 16 0 1,aH 17 1 16,cd 18 17,E 5 18] (M [E 19 5,az 20 (.la 421020 [.I (.bool false)] 1 (.t 19) (.t 19)),E 6 20] (.seq (M [a8 7 0] (dT 0 (.seq (M [E 21 7,E 22 5,br 23 .lss 21 22] (dd 23 0)) (.seq (.block 1 (M [a8 8 0] (dT 2 (.seq (M [E 26 8,E 27 5,br 28 .lss 26 27] (dd 28 2)) (.seq (.block 3 (M [aC 31 1 1,aH 32 1 31,E 33 8,bC 34 4 32 33,aC 35 0 34,aC 36 0 35,aH 37 1 36,bb 38 .gtr 37 0,E 9 38] (.seq (M [a8 10 0] (dT 4 (.seq (M [E 39 10,aC 40 2 1,aH 41 1 40,cd 42 41,br 43 .lss 39 42] (dd 43 4)) (.seq (.block 5 (.ops [E 46 9,E 47 46,fq 48 47 2 1,fz 49 47 1 48,dJ 50 47 10,sw 51 47 6 49 50,fq 52 47 1 51,fz 53 47 1 52,dJ 54 47 8,nK 55 47 .eql 53 54,dJ 56 47 55,hH 57 56 2 1,iz 58 56 1 57,eu 59 56 10,rn 60 56 6 58 59,hH 61 56 2 60,hH 62 56 0 61,hH 63 56 0 62,iz 64 56 1 63,kj 65 56 .gtr 64 0,fr 66 47 (.pick (.t 56) (.t 65) (.c (.I (.bool false)))),dJ 67 47 66,eu 68 67 6,hH 69 67 2 1,iz 70 67 1 69,eu 71 67 10,rn 72 67 6 70 71,hH 73 67 0 72,iz 74 67 1 73,rn 75 67 1 68 74,iz 76 67 1 75,fr 77 47 (.pick (.t 67) (.t 76) (.c (.I (.bool false)))),cD 78 47 77,E 9 78])) (.ops [E 44 10,bb 45 .add 44 1,E 10 45]))))) (.ops [E 79 6,E 80 8,E 81 6,E 82 8,bC 83 1 81 82,aH 84 1 83,E 85 84,dJ 86 85 9,dJ 87 85 86,hH 88 87 0 1,iz 89 87 1 88,eu 90 87 8,rn 91 87 4 89 90,hH 92 87 0 91,hH 93 87 0 92,iz 94 87 1 93,kj 95 87 .gtr 94 0,fr 96 85 (.pick (.t 87) (.t 95) (.c (.I (.bool false)))),cD 97 85 96,bC 98 1 79 80,aZ 1 98 97])))) (.ops [E 29 8,bb 30 .add 29 1,E 8 30])))))) (.ops [E 24 7,bb 25 .add 24 1,E 7 25]))))) (M [cF 11] (.seq (M [a8 12 0] (.block 6 (.ghost (.mM 11 421115 4) (.loop  (.seq (M [E 99 12,E 100 5,br 101 .lss 99 100] (dd 101 6)) (.seq (.block 7 (M [E 104 6,E 105 12,bC 106 1 104 105,aH 107 1 106] (fi 107 (.ops [E 108 11,aC 109 0 1,aH 110 1 109,E 111 12,bC 112 4 110 111,aB 113 4 112,az 114 (.dM 421114 false cK 4 1 [(0,4,.t 113)]),az 115 (.app 421115 cK 64 (.t 108) (.t 114)),E 11 115]) (.ops [E 116 11,az 117 (.call sv [.c (bl 0)]),az 118 (.dM 421118 false cK 4 1 [(0,4,.t 117)]),az 119 (.app 421119 cK 64 (.t 116) (.t 118)),E 11 119])))) (.ops [E 102 12,bb 103 .add 102 1,E 12 103]))))))) (.seq (.ghost (.freeze 11) (.ops [E 120 11,aC 121 1 1,aH 122 1 121,aC 123 2 1,aH 124 1 123,az 125 (.build yp [(0,1,.t 120),(1,1,.t 122),(2,1,.t 124)]),c6 126 B8 125,aN 127 0 126,aN 128 1 126,aN 129 2 126,E 2 127,E 3 128,E 4 129])) .ret))))))))
def agr:bE:=bT 11 1 [.t 2] (M [ck 1 422001 0,bW 2 false] (M [aB 3 4 1,c6 4 kY 3,E 5 4,hH 6 5 0 1,hH 7 5 0 6,iz 8 5 1 7,kj 9 5 .geq 8 0,fE 10 5 9,E 2 10] .ret))
def ags:bE:=bT 41 1 [.t 2] (M [ck 1 423001 0,bW 2 false] (M [aC 5 0 1,aH 6 1 5,cd 7 6,E 3 7] (.seq (M [aC 8 1 1,aH 9 1 8,cd 10 9,E 11 3,br 12 .neq 10 11,E 13 12,fq 14 13 2 1,fz 15 13 1 14,dJ 16 13 3,fr 17 13 (.call B7 [.t 15,.t 16]),ib 18 13 17,cD 19 13 18] (bO 19 [bW 2 false])) (.seq (M [a8 4 0] (dT 0 (.seq (M [E 20 4,E 21 3,br 22 .lss 20 21] (dd 22 0)) (.seq (.block 1 (M [aC 25 0 1,aH 26 1 25,E 27 4,bC 28 4 26 27,aB 29 4 28,c6 30 EZ 29,dS 31 30,E 32 31,fq 33 32 1 1,fz 34 32 1 33,dJ 35 32 4,sw 36 32 4 34 35,hv 37 32 4 36,fr 38 32 (.call EZ [.t 37]),ib 39 32 38,cD 40 32 39] (bO 40 [bW 2 false]))) (.ops [E 23 4,bb 24 .add 23 1,E 4 24]))))) (M [bW 2 true] .ret)))))
def agt:bE:=bT 64 2 [.t 4] (M [bW 4 false] (.seq (M [E 6 1,bb 7 .lss 6 0,E 8 7,dJ 9 8 1,gM 10 8 .gtr 9 40,cD 11 8 10,E 12 11,dJ 13 12 0,nJ 14 12 13,gM 15 12 .gtr 14 400,cD 16 12 15] (bO 16 [bW 4 false])) (.seq (M [a8 5 0] (dT 0 (.seq (M [E 17 5,E 18 0,cd 19 18,br 20 .lss 17 19] (dd 20 0)) (.seq (.block 1 (M [E 23 0,E 24 5,bC 25 6 23 24,aC 26 0 25,aH 27 1 26,bb 28 .lss 27 0,E 29 28,dJ 30 29 0,dJ 31 29 5,sw 32 29 6 30 31,fq 33 29 0 32,fz 34 29 1 33,dJ 35 29 1,nK 36 29 .geq 34 35,cD 37 29 36,E 38 37,dJ 39 38 0,dJ 40 38 5,sw 41 38 6 39 40,fq 42 38 1 41,fz 43 38 1 42,gM 44 38 .lss 43 0,cD 45 38 44,E 46 45,dJ 47 46 0,dJ 48 46 5,sw 49 46 6 47 48,fq 50 46 1 49,fz 51 46 1 50,dJ 52 46 1,nK 53 46 .geq 51 52,cD 54 46 53,E 55 54,dJ 56 55 0,dJ 57 55 5,sw 58 55 6 56 57,fq 59 55 2 58,hv 60 55 4 59,fr 61 55 (.call EZ [.t 60]),ib 62 55 61,cD 63 55 62] (bO 63 [bW 4 false]))) (.ops [E 21 5,bb 22 .add 21 1,E 5 22]))))) (M [bW 4 true] .ret))))
def agu:bE:=bT 27 2 [.t 4] (M [bW 4 false] (.seq (M [E 6 0,cd 7 6,E 8 1,cd 9 8,br 10 .neq 7 9] (bO 10 [bW 4 false])) (.seq (M [a8 5 0] (dT 0 (.seq (M [E 11 5,E 12 0,cd 13 12,br 14 .lss 11 13] (dd 14 0)) (.seq (.block 1 (e2 [E 17 0,E 18 5,bC 19 5 17 18,aB 20 5 19,E 21 1,E 22 5,bC 23 5 21 22,aB 24 5 23,bI 25 Nu 20 24,dS 26 25] IV (bO 26 [bW 4 false]))) (.ops [E 15 5,bb 16 .add 15 1,E 5 16]))))) (M [bW 4 true] .ret))))
def agv:bE:=bT 53 2 [.t 4] (M [bW 4 false] (.seq (M [E 7 0,cd 8 7,E 9 1,cd 10 9,br 11 .neq 8 10] (bO 11 [bW 4 false])) (.seq (M [a8 5 0] (dT 0 (.seq (M [E 12 5,E 13 0,cd 14 13,br 15 .lss 12 14] (dd 15 0)) (.seq (.block 1 (.seq (e2 [E 18 0,E 19 5,bC 20 1 18 19,aH 21 1 20,cd 22 21,E 23 1,E 24 5,bC 25 1 23 24,aH 26 1 25,cd 27 26,br 28 .neq 22 27] IW (bO 28 [bW 4 false])) (M [a8 6 0] (dT 2 (.seq (M [E 29 6,E 30 0,E 31 5,bC 32 1 30 31,aH 33 1 32,cd 34 33,br 35 .lss 29 34] (dd 35 2)) (.seq (.block 3 (e2 [E 38 0,E 39 5,bC 40 1 38 39,aH 41 1 40,E 42 6,bC 43 1 41 42,aH 44 1 43,E 45 1,E 46 5,bC 47 1 45 46,aH 48 1 47,E 49 6,bC 50 1 48 49,aH 51 1 50,br 52 .neq 44 51] alE (bO 52 [bW 4 false]))) (.ops [E 36 6,bb 37 .add 36 1,E 6 37]))))))) (.ops [E 16 5,bb 17 .add 16 1,E 5 17]))))) (M [bW 4 true] .ret))))
def agw:bE:=bT 137 1 [.t 2,.t 3,.t 4] (M [ck 1 427001 0,cF 2,cF 3,a8 4 0] (.seq (M [aB 21 3 1,c6 22 B6 21,dS 23 22] (bO 23 [cF 2,cF 3,a8 4 1])) (M [aC 24 0 1,aH 25 1 24,cd 26 25,E 5 26] (M [E 27 5,az 28 (.la 427028 [.I (.bool false)] 1 (.t 27) (.t 27)),E 6 28] (M [cF 7] (.block 0 (.ghost (.mM 7 427136 1) (.loop  (.block 1 (M [cF 8] (.seq (M [a8 9 0] (.block 2 (.ghost (.mM 8 427056 5) (.loop  (.seq (M [E 29 9,E 30 5,br 31 .lss 29 30] (dd 31 2)) (.seq (.block 3 (M [E 34 6,E 35 9,bC 36 1 34 35,aH 37 1 36] (fi 37 (e2 [aC 39 1 1,aH 40 1 39,E 41 9,bC 42 4 40 41,aB 43 4 42,aC 44 2 1,aH 45 1 44,E 46 5,E 47 9,oU 48 E1 43 45 46 47,E 38 48,aN 49 0 38,aN 50 1 38,bP 10 427010 hI,aZ 5 10 49,E 11 50] [[],[],[],[],[],[],[],[],[],[],[],[],[],[1,4,6],[],[]] (.seq (M [E 51 11,dS 52 51] (bO 52 [cF 2,cF 3,a8 4 6])) (.ops [E 53 8,aB 54 5 10,az 55 (.dM 427055 false hI 5 1 [(0,5,.t 54)]),az 56 (.app 427056 hI 88 (.t 53) (.t 55)),E 8 56]))) (M [aC 58 0 1,aH 59 1 58,E 60 9,bC 61 4 59 60,aB 62 4 61,E 63 5,E 64 9,az 65 (.call E1 [.t 62,.c .nil,.t 63,.t 64]),E 57 65,aN 66 0 57,aN 67 1 57,bP 12 427012 hI,aZ 5 12 66,E 13 67] (.ops [E 68 8,aB 69 5 12,az 70 (.dM 427070 false hI 5 1 [(0,5,.t 69)]),az 71 (.app 427071 hI 88 (.t 68) (.t 70)),E 8 71]))))) (.ops [E 32 9,bb 33 .add 32 1,E 9 33]))))))) (.seq (.ghost (.freeze 8) (.ops [E 73 8,E 74 5,bI 75 IM 73 74,E 72 75,aN 76 0 72,aN 77 1 72,E 14 76,E 15 77])) (.seq (M [E 78 15,bb 79 .neq 78 0] (bO 79 [cF 2,cF 3,a8 4 6])) (M [cF 16] (.seq (M [a8 17 0] (.block 4 (.ghost (.mM 16 427115 1) (.loop  (.seq (M [E 80 17,E 81 5,br 82 .lss 80 81] (dd 82 4)) (.seq (.block 5 (.seq (M [E 85 6,E 86 17,bC 87 1 85 86,aH 88 1 87] (fi 88 (.exit 5) .skip)) (e2 [aC 90 1 1,aH 91 1 90,E 92 17,bC 93 4 91 92,aB 94 4 93,aC 95 2 1,aH 96 1 95,E 97 14,E 98 17,oU 99 B5 94 96 97 98,E 89 99,aN 100 0 89,aN 101 1 89,bP 18 427018 cK,aZ 4 18 100,E 19 101] [[],[],[],[],[],[],[],[],[],[],[],[],[],[1,4,6],[],[]] (.seq (M [E 102 19,dS 103 102] (bO 103 [cF 2,cF 3,a8 4 6])) (e2 [aB 104 4 18,aC 105 0 1,aH 106 1 105,E 107 17,bC 108 4 106 107,aB 109 4 108,bI 110 z9 104 109,bb 111 .lss 110 0] Tc (fi 111 (.ops [E 112 16,E 113 17,az 114 (.dM 427114 false [bl 0] 1 1 [(0,1,.t 113)]),az 115 (.app 427115 [bl 0] 8 (.t 112) (.t 114)),E 16 115]) .skip)))))) (.ops [E 83 17,bb 84 .add 83 1,E 17 84]))))))) (.seq (M [E 116 16,cd 117 116,bb 118 .eql 117 0] (bO 118 [E 119 14,E 120 7,E 2 119,E 3 120,a8 4 0])) (.seq (M [a8 20 0] (dT 6 (.seq (M [E 121 20,E 122 16,cd 123 122,br 124 .lss 121 123] (dd 124 6)) (.seq (.block 7 (.ops [E 127 6,E 128 16,E 129 20,bC 130 1 128 129,aH 131 1 130,bC 132 1 127 131,⟨none,none,.store 1 (.t 132) (.c (.I (.bool true)))⟩])) (.ops [E 125 20,bb 126 .add 125 1,E 20 126]))))) (.ghost (.freeze 16) (.ops [E 133 7,E 134 16,az 135 (.dM 427135 false [.nil] 1 1 [(0,1,.t 134)]),az 136 (.app 427136 [.nil] 24 (.t 133) (.t 135)),E 7 136])))))))))))))))))))
def agx:bE:=bT 27 2 [.cell 4 3 true] (M [bP 4 428004 yp] (M [E 7 0,az 8 (.build yp [(2,1,.t 7)]),bP 5 428005 yp,aZ 3 5 8] (.seq (.seq (.ghost (.DY (.t 5) 0 428018 4) (.ghost (.DY (.t 5) 1 428024 4) (.ops [a8 6 0]))) (dT 0 (.seq (M [E 9 6,E 10 1,br 11 .lss 9 10] (dd 11 0)) (.seq (.block 1 (e2 [aC 14 0 5,aH 15 1 14,az 16 (.call sv [.c (bl 1)]),az 17 (.dM 428017 false cK 4 1 [(0,4,.t 16)]),az 18 (.app 428018 cK 64 (.t 15) (.t 17)),aC 19 0 5,aZ 1 19 18] E3 (.mN [aC 20 1 5,aH 21 1 20,az 22 (.call sv [.c (bl 0)]),az 23 (.dM 428023 false cK 4 1 [(0,4,.t 22)]),az 24 (.app 428024 cK 64 (.t 21) (.t 23)),aC 25 1 5,aZ 1 25 24] E3))) (.ops [E 12 6,bb 13 .add 12 1,E 6 13]))))) (M [aB 26 3 5,aZ 3 4 26] .ret))))
def agy:bE:=bT 77 4 [.cell 8 5 true,.t 9] (M [ck 4 429004 0,bP 8 429008 hI,bW 9 false] (M [aB 15 4 4,az 16 (.build hI [(1,4,.t 15)]),bP 10 429010 hI,aZ 5 10 16] (.seq (.seq (.ghost (.DY (.t 10) 0 429026 4) (.ops [a8 11 0])) (dT 0 (.seq (M [E 17 11,E 18 2,br 19 .lss 17 18] (dd 19 0)) (.seq (.block 1 (.mN [aC 22 0 10,aH 23 1 22,az 24 (.call sv [.c (bl 0)]),az 25 (.dM 429025 false cK 4 1 [(0,4,.t 24)]),az 26 (.app 429026 cK 64 (.t 23) (.t 25)),aC 27 0 10,aZ 1 27 26] E3)) (.ops [E 20 11,bb 21 .add 20 1,E 11 21]))))) (e2 [aC 28 0 10,aH 29 1 28,E 30 3,az 31 (.call sv [.c (bl 1)]),bC 32 4 29 30,aZ 4 32 31] Nw (.seq (M [a8 12 0] (dT 2 (.seq (M [E 33 12,E 34 1,cd 35 34,br 36 .lss 33 35] (dd 36 2)) (.seq (.block 3 (.seq (M [E 39 1,E 40 12,bC 41 6 39 40,aC 42 1 41,aH 43 1 42,E 44 3,br 45 .neq 43 44] (fi 45 (.exit 3) .skip)) (e2 [aC 47 0 10,aH 48 1 47,E 49 1,E 50 12,bC 51 6 49 50,aC 52 0 51,aH 53 1 52,bC 54 4 48 53,aB 55 4 54,E 56 1,E 57 12,bC 58 6 56 57,aC 59 2 58,aB 60 4 59,bI 61 IN 55 60,E 46 61,aN 62 0 46,aN 63 1 46,bP 13 429013 cK,aZ 4 13 62,E 14 63] [[],[],[],[],[],[],[],[],[],[],[],[],[],[],[],[],[],[],[1,6,8,13],[],[]] (.seq (M [E 64 14,bb 65 .neq 64 0] (bO 65 [az 66 (.build hI []),aZ 5 8 66,bW 9 false])) (.mN [aC 67 0 10,aH 68 1 67,E 69 1,E 70 12,bC 71 6 69 70,aC 72 0 71,aH 73 1 72,aB 74 4 13,bC 75 4 68 73,aZ 4 75 74] IV))))) (.ops [E 37 12,bb 38 .add 37 1,E 12 38]))))) (M [aB 76 5 10,aZ 5 8 76,bW 9 true] .ret))))))
def agz:bE:=bT 11 1 [.cell 2 4 true] (M [bP 2 430002 cK] (M [E 6 0,az 7 (.call IB [.t 6,.c (bl 1)]),E 5 7,aN 8 0 5,aN 9 1 5,bP 3 430003 cK,aZ 4 3 8,E 4 9] (M [aB 10 4 3,aZ 4 2 10] .ret)))
def Lk:=bG k4 λ(s,l,s2,X)=>b8 (D l<=1000000/\D X<=1000000) (.same (.bool (g3 ((s,l),(s2,X)))))
@[go_sem] def aBH (s l s2 X):=cj Lk rfl uc (s,l,s2,X) rfl
def asY (T:bg)(dv:T kY=aE uD):WF T agr Lk:=by
 refine b5 λ(s,l,s2,X)=>cn λU=>⟨rfl,b4 ?_⟩;simp only[agr,k4,bV];obtain⟨bq,bp⟩:=U;unfold g3;rcases L:cy ((s,l),(s2,X))
 ·refine af ?_;repeat' (intro h<;>simp only[h,go_sem,go_sem_proc,dv,bq,bp,L]<;>try refine ab ?_ ?_)
 ·refine af ?_;repeat' (intro h<;>simp only[h,go_sem,go_sem_proc,dv,bq,bp,L]<;>try refine ab ?_ ?_)
def vV (ls:List cl):Bool:=decide ((D ls:Int)<=10)&&ls.all λl=>pq l.2.2 1
abbrev Qg:List cl->List Data:=λ(ls:List cl)=>[.ao (ls.map fg)]
def Qh:=bG Qg λ(ls:List cl)=>some (.same (.bool (vV ls)))
def asZ:∀a b,Qg a=Qg b->a=b:=by
  intro y4 y5 h;simp only[bj,Data.ao.injEq] at h;exact map_inj ux _ _ h.1
@[go_sem] def aBI (ls):=sm Qh rfl asZ ls rfl
def as0 (T:bg)(qV:T IA=aE Lf):WF T agn Qh:=by
 refine b5 λls=>⟨rfl,b4 ?_⟩;simp only[agn,Qg,bV];simp only[go_sem,go_sem_proc,qV,ah];refine cV [0] [] (λ(i:Nat) tm mem=>i<=D ls/\(ls.take i).all (λl=>pq l.2.2 1)=true/\tm 3=.I (.int .i64 i)) (λi=>D ls-i) 0 (by refine⟨dF _,by simp,rfl⟩) ?_;intro vs ms aI aD;simp only[go_sem,go_sem_proc,qV,ah] at aI aD;subst aI aD;rintro i tm mem Q hm ⟨Z,aj,aa⟩;simp only[go_sem,go_sem_proc,qV,bj] at Q;have aq:=Q
 by_cases a5:i<D ls/\(i:Int)<=10
 ·obtain⟨an,eY⟩:=a5;obtain⟨⟨f,t,⟨a,b⟩,⟨c,e⟩⟩,J⟩:∃f,ls[i]?=some f:=⟨_,bc an⟩;have d1:decide ((i:Int)<(D ls:Int))=true:=c5;have d2:decide ((i:Int)<=10)=true:=mL eY;have bJ:=e1 (i:=i) (by omega);rcases vU:pq ((a,b),(c,e)) 1
  ·have L:vV ls=false:=by unfold vV;rw[agj J vU,iZ]
   rw[L];refine af ?_;repeat' (intro h<;>simp only[h,go_sem,go_sem_proc,qV,aq,aa,J,d1,d2,bJ,vU,fg,ar,ah,bd]<;>try refine ab ?_ ?_)
  ·refine af ?_;repeat' (intro h<;>simp only[h,go_sem,go_sem_proc,qV,aq,aa,J,d1,d2,bJ,vU,fg,ar,ah,bd]<;>try refine ab ?_ ?_)
   exact⟨i+1,by omega,by omega,by rw[agi J,aj,vU];rfl,rfl⟩
 ·have L:vV ls=decide ((D ls:Int)<=10):=by
   unfold vV
   by_cases A1:(D ls:Int)<=10
   ·have:i=D ls:=by omega
    rw[this,mB] at aj;rw[aj,pF]
   ·rw[me A1,eN]
  rw[L];rcases d1:decide ((i:Int)<(D ls:Int))
  ·refine af ?_;repeat' (intro h<;>simp only[h,go_sem,go_sem_proc,qV,aq,aa,d1,ah]<;>try refine ab ?_ ?_)
  ·have d2:decide ((i:Int)<=10)=false:=me (by have:=of_decide_eq_true d1;omega);refine af ?_;repeat' (intro h<;>simp only[h,go_sem,go_sem_proc,qV,aq,aa,d1,d2,ah]<;>try refine ab ?_ ?_)
def GW (cap base:List av)(ls:List cl):Bool:=qU cap 4 1&&(qU base 4 1&&vV ls)
def Qi:=bG pW λ(cap,base,ls)=>some (.same (.bool (GW cap base ls)))
@[go_sem] def as1 (cap base ls):=sm Qi rfl CP (cap,base,ls) rfl
def as2 (T:bg)(zn:T EK=aE Li)(WO:T S4=aE Qh):WF T agm Qi:=by
 refine b5 λ(cap,base,ls)=>⟨rfl,b4 ?_⟩;simp only[agm,pW,bV];have aX:(4:Int)<=1000000:=by decide
 unfold GW;rcases aO:qU cap 4 1
 ·refine af ?_;repeat' (intro h<;>simp only[h,go_sem,go_sem_proc,zn,WO,aX,aO]<;>try refine ab ?_ ?_)
 ·rcases ax:qU base 4 1
  ·refine af ?_;repeat' (intro h<;>simp only[h,go_sem,go_sem_proc,zn,WO,aX,aO,ax]<;>try refine ab ?_ ?_)
  ·refine af ?_;repeat' (intro h<;>simp only[h,go_sem,go_sem_proc,zn,WO,aX,aO,ax]<;>try refine ab ?_ ?_)
def GX:=bG xd λ(ls,n)=>b8 (qQ ls) (.same (.bool (ow ls n)))
@[go_sem] def aBJ (ls n):=cj GX rfl O1 (ls,n) rfl
def as3 (T:bg)(l9:T EZ=aE Lk):WF T agt GX:=by
 refine b5 λ(ls,n)=>cn λU=>⟨rfl,b4 ?_⟩;simp only[agt,xd,bV];obtain⟨vK,ga⟩:=U;unfold ow;rcases F:decide (n<0)
 ·rcases G:decide (n>40)
  ·rcases aa:decide ((D ls:Int)>400)
   ·simp only[db,eZ];simp only[go_sem,go_sem_proc,l9,F,G,aa,ah];refine cV [0,1] [] (λ(i:Nat) tm mem=>i<=D ls/\(∀x∈ls.take i,pV n x=false)/\tm 5=.I (.int .i64 i)) (λi=>D ls-i) 0 (by refine⟨dF _,?_,rfl⟩;simp) ?_;intro vs ms aI aD;simp only[go_sem,go_sem_proc,l9,ah] at aI aD;subst aI aD;rintro i tm mem Q hm ⟨Z,cX,mD⟩;simp only[go_sem,go_sem_proc,l9,bj] at Q;obtain⟨fH,aO⟩:=Q;rcases dt (i<D ls) with an|bB
    ·have J:=bc an;obtain⟨ey,eR⟩:=ga _ (ha an);have jo:=λh=>vm (p:=pV n) cX J h;have jW:=λ(h:pV n ls[i]=true)=>DF.2 ⟨ls[i],ha an,h⟩;generalize ls[i]=x at *;have d1:decide ((i:Int)<(D ls:Int))=true:=c5;have bJ:=e1 (i:=i) (by omega);obtain⟨a,b,⟨dz,dI⟩,⟨eo,eA⟩⟩:=x;dsimp only at ey eR;have mq:pV n (a,b,((dz,dI),(eo,eA)))=(decide (a<0)||(decide (a>=n)||(decide (b<0)||(decide (b>=n) || !g3 ((dz,dI),(eo,eA)))))):=rfl;rcases gd:decide (a<0)
     ·rcases ik:decide (a>=n)
      ·rcases A2:decide (b<0)
       ·rcases sU:decide (b>=n)
        ·rcases Qj:g3 ((dz,dI),(eo,eA))
         ·rw[jW (by rw[mq,gd,ik,A2,sU,Qj];rfl)];refine af ?_;repeat' (intro (ag:_=_)<;>simp only[ag,go_sem,go_sem_proc,l9,fH,aO,mD,J,d1,bJ,ey,eR,gd,ik,A2,sU,Qj,ah,bd,fg,ar]<;>try refine ab ?_ ?_)
         ·refine af ?_;repeat' (intro (ag:_=_)<;>simp only[ag,go_sem,go_sem_proc,l9,fH,aO,mD,J,d1,bJ,ey,eR,gd,ik,A2,sU,Qj,ah,bd,fg,ar]<;>try refine ab ?_ ?_)
          exact⟨i+1,by omega,by omega,jo (by rw[mq,gd,ik,A2,sU,Qj];rfl),rfl⟩
        ·rw[jW (by rw[mq,gd,ik,A2,sU];rfl)];refine af ?_;repeat' (intro (ag:_=_)<;>simp only[ag,go_sem,go_sem_proc,l9,fH,aO,mD,J,d1,bJ,ey,eR,gd,ik,A2,sU,ah,bd,fg,ar]<;>try refine ab ?_ ?_)
       ·rw[jW (by rw[mq,gd,ik,A2];rfl)];refine af ?_;repeat' (intro (ag:_=_)<;>simp only[ag,go_sem,go_sem_proc,l9,fH,aO,mD,J,d1,bJ,ey,eR,gd,ik,A2,ah,bd,fg,ar]<;>try refine ab ?_ ?_)
      ·rw[jW (by rw[mq,gd,ik];rfl)];refine af ?_;repeat' (intro (ag:_=_)<;>simp only[ag,go_sem,go_sem_proc,l9,fH,aO,mD,J,d1,bJ,ey,eR,gd,ik,ah,bd,fg,ar]<;>try refine ab ?_ ?_)
     ·rw[jW (by rw[mq,gd];rfl)];refine af ?_;repeat' (intro (ag:_=_)<;>simp only[ag,go_sem,go_sem_proc,l9,fH,aO,mD,J,d1,bJ,ey,eR,gd,ah,bd,fg,ar]<;>try refine ab ?_ ?_)
    ·have d1:decide ((i:Int)<(D ls:Int))=false:=de;have js:i=D ls:=by omega
     subst js;rw[mB] at cX;have h6:ls.any (pV n)=false:=by rw[sN];intro x J;rw[cX x J];decide
     rw[h6];refine af ?_;repeat' (intro (ag:_=_)<;>simp only[ag,go_sem,go_sem_proc,l9,fH,aO,mD,d1,ah]<;>try refine ab ?_ ?_)
   ·refine af ?_;repeat' (intro (ag:_=_)<;>simp only[ag,go_sem,go_sem_proc,l9,F,G,aa,ah]<;>try refine ab ?_ ?_)
  ·refine af ?_;repeat' (intro (ag:_=_)<;>simp only[ag,go_sem,go_sem_proc,l9,F,G,ah]<;>try refine ab ?_ ?_)
 ·refine af ?_;repeat' (intro (ag:_=_)<;>simp only[ag,go_sem,go_sem_proc,l9,F,ah]<;>try refine ab ?_ ?_)
def GY:=bG pW λ(cap,base,ls)=>b8 (ox cap base ls) (.same (.bool (o6 cap base ls)))
@[go_sem] def aBK (cap base ls):=cj GY rfl CP (cap,base,ls) rfl
def as4 (T:bg)(h1:T B7=aE GX)(l9:T EZ=aE Lk):WF T ags GY:=by
 refine b5 λ(cap,base,ls)=>cn λU=>⟨rfl,b4 ?_⟩;simp only[ags,pW,bV];obtain⟨⟨ea,ny⟩,⟨mq,nz⟩,nA⟩:=U;have Ll:((D base:Int)==(D cap:Int))=((D cap:Int)==(D base:Int)):=by rw[Bool.beq_comm]
 unfold o6;rcases aO:((D cap:Int)==(D base:Int))
 ·rw[aO] at Ll;refine af ?_;repeat' (intro (ag:_=_)<;>simp only[ag,go_sem,go_sem_proc,h1,l9,nA,Ll,ah,bne,db]<;>try refine ab ?_ ?_)
 ·rw[aO] at Ll;rcases ax:ow ls (D cap)
  ·refine af ?_;repeat' (intro (ag:_=_)<;>simp only[ag,go_sem,go_sem_proc,h1,l9,nA,Ll,ax,ah,bne,cZ]<;>try refine ab ?_ ?_)
  ·have as5:(D cap)=D base:=by
                        have:(D cap:Int)=D base:=by simpa using aO
                        omega
   simp only[eZ];simp only[go_sem,go_sem_proc,h1,l9,nA,Ll,ax,ah,bne,cZ];refine cV [1,3] [423001] (λ(i:Nat) tm mem=>i<=D cap/\(∀x∈cap.take i,(!g3 x)=false)/\(∀x∈base.take i,(!g3 x)=false)/\tm 4=.I (.int .i64 i)) (λi=>D cap-i) 0 (by refine⟨dF _,?_,?_,rfl⟩<;>simp) ?_;intro vs ms aI aD;simp only[go_sem,go_sem_proc,h1,l9,ah] at aI aD;subst aI aD;rintro i tm mem Q hm ⟨Z,WQ,WR,aX⟩;simp only[go_sem,go_sem_proc,h1,l9,bj] at Q hm;obtain⟨F,aa⟩:=Q;rcases dt (i<D cap) with an|bB
   ·have J:=bc an;obtain⟨ey,eR⟩:=ny _ (ha an);have WS:i<D base:=by omega
    have ai:=bc WS;obtain⟨sL,Cn⟩:=nz _ (ha WS);have jo:=λh=>vm (p:=λx => !g3 x) WQ J h;have aa4:=λh=>vm (p:=λx => !g3 x) WR ai h;have as6:=λ(h:(!g3 cap[i])=true)=>(DF (p:=λx => !g3 x)).2 ⟨cap[i],ha an,h⟩;have as7:=λ(h:(!g3 base[i])=true)=>(DF (p:=λx => !g3 x)).2 ⟨base[i],ha WS,h⟩;generalize cap[i]=x at *;generalize base[i]=y at *;have d1:decide ((i:Int)<(D cap:Int))=true:=c5;have bJ:=e1 (i:=i) (by omega);obtain⟨⟨dz,dI⟩,⟨eo,eA⟩⟩:=x;obtain⟨⟨og,qC⟩,⟨DG,DH⟩⟩:=y;dsimp only at ey eR sL Cn;rcases gd:g3 ((dz,dI),(eo,eA))
    ·rw[as6 (by rw[gd];rfl)];simp only[cZ,eN];refine af ?_;repeat' (intro (ag:_=_)<;>simp only[ag,go_sem,go_sem_proc,h1,l9,F,aa,aX,hm,J,ai,d1,bJ,ey,eR,sL,Cn,gd,ar,ah,bd]<;>try refine ab ?_ ?_)
    ·rcases ik:g3 ((og,qC),(DG,DH))
     ·rw[as7 (by rw[ik];rfl)];simp only[cZ,iZ];refine af ?_;repeat' (intro (ag:_=_)<;>simp only[ag,go_sem,go_sem_proc,h1,l9,F,aa,aX,hm,J,ai,d1,bJ,ey,eR,sL,Cn,gd,ik,ar,ah,bd]<;>try refine ab ?_ ?_)
     ·refine af ?_;repeat' (intro (ag:_=_)<;>simp only[ag,go_sem,go_sem_proc,h1,l9,F,aa,aX,hm,J,ai,d1,bJ,ey,eR,sL,Cn,gd,ik,ar,ah,bd]<;>try refine ab ?_ ?_)
      exact⟨i+1,by omega,by omega,jo (by rw[gd];rfl),aa4 (by rw[ik];rfl),rfl⟩
   ·have d1:decide ((i:Int)<(D cap:Int))=false:=de;have js:i=D cap:=by omega
    subst js;rw[mB] at WQ;rw[as5,mB] at WR;have h6:(cap.any λf => !g3 f)=false:=by rw[sN];intro x J;rw[WQ x J];decide
    have as8:(base.any λf => !g3 f)=false:=by rw[sN];intro x J;rw[WR x J];decide
    rw[h6,as8];refine af ?_;repeat' (intro (ag:_=_)<;>simp only[ag,go_sem,go_sem_proc,h1,l9,F,aa,aX,hm,d1,ah]<;>try refine ab ?_ ?_)
def A3:=bG tM λ(n:Int)=>b8 (dX n) (.same (.agg (ar (ed (n:Rat)))))
@[go_sem] def DI (n):=cj A3 rfl I0 n rfl
def as9 (T:bg)(WT:T IB=aE Le):WF T agz A3:=by
 refine b5 λn=>cn λU=>⟨rfl,b4 ?_⟩;simp only[agz,tM,bV];have F:dX 1:=by unfold dX;omega
 have h:=adB U;generalize ed (n:Rat)=cm at *;obtain⟨⟨a,b⟩,⟨c,d⟩⟩:=cm;refine af ?_;repeat' (intro (ag:_=_)<;>simp only[ag,go_sem,go_sem_proc,WT,U,F,h,cP,ar]<;>try refine ab ?_ ?_)
def zo (x:List av)(to:Int):List cl->av->av×Bool
 | [],f=>(f,true)
 |l::r,f=>if (l.2.1==to)=true then (if (xj x l (f,true)).2=true then zo x to r (xj x l (f,true)).1 else (bA,false)) else zo x to r f
def GZ (base:av)(ls:List cl)(x:List av)(to:Int):av×Bool:=zo x to ls base
def agA (x:List av)(to:Int):∀(ls:List cl) (f:av),s8 x to ls (f,false)=(f,false)
 | [],_=>rfl
 |l::r,f=>by
  unfold s8;simp only[iZ,cC,if_false];exact agA x to r f
def WU (x:List av)(to:Int):∀(ls:List cl) (f:av),zo x to ls f=if (s8 x to ls (f,true)).2=true then s8 x to ls (f,true) else (bA,false)
 | [],f=>rfl
 |l::r,f=>by
  unfold zo s8;rcases h:(l.2.1==to)
  ·simp only[eN,cC,if_false];exact WU x to r f
  ·simp only[KC,if_true];rcases O:xj x l (f,true) with ⟨g,b⟩;rcases b
   ·simp only[cC,if_false,agA]
   ·simp only[if_true];exact WU x to r g
def agB (base:av)(ls:List cl)(x:List av)(to:Int):GZ base ls x to=if (lI base ls x to).2=true then lI base ls x to else (bA,false):=WU x to ls base
def G0:=bG Gs λ(s,l,s2,X,ls,x,to)=>b8 (aeO ((s,l),(s2,X)) ls x to) (.same (.dp [.agg (ar (GZ ((s,l),(s2,X)) ls x to).1),.bool (GZ ((s,l),(s2,X)) ls x to).2]))
@[go_sem] def WV (s l s2 X ls x to):=cj G0 rfl aeQ (s,l,s2,X,ls,x,to) rfl
def ata (T:bg)(vW:T IP=aE Lh)(A4:T SO=aE Qc):WF T ago G0:=by
 refine b5 λ(s,l,s2,X,ls,x,to)=>cn λU=>⟨rfl,b4 ?_⟩;simp only[ago,Gs,bV];obtain⟨a4,⟨vK,ga⟩,J,eY⟩:=U;unfold GZ;simp only[go_sem,go_sem_proc,vW,A4,ah]
 refine cV [1,2,3,8,10] [419004,419008] (λ((i,f):Nat×av) tm m=>i<=D ls/\okF f/\zo x to ls ((s,l),(s2,X))=zo x to (ls.drop i) f/\tm 11=.I (.int .i64 i)/\m 419010=some (0,ju f)) (λ(i,_)=>D ls-i) (0,((s,l),(s2,X))) (by
  refine⟨dF _,a4,rfl,rfl,?_⟩
  ·simp[aT,ju]) ?_
 intro vs ms aI aD;simp only[go_sem,go_sem_proc,vW,A4,ah] at aI aD;subst aI aD;rintro⟨i,f⟩ tm m Q hm ⟨Z,aj,a5,dW,ij⟩;simp only[go_sem,go_sem_proc,vW,A4,bj] at Q hm;obtain⟨bm,c3,ei,fQ,hM⟩:=Q;obtain⟨fs,g2⟩:=hm;rcases dt (i<D ls) with an|bB
 ·obtain⟨⟨a,c,⟨w1,gE⟩,⟨bJ,hs⟩⟩,dr⟩:∃l,ls[i]?=some l:=⟨_,bc an⟩;have pa:=ga _ (cJ dr);have uh:=eY _ (cJ dr);dsimp only at pa uh
  have k3:ls.drop i=(a,c,((w1,gE),(bJ,hs)))::ls.drop (i+1):=by
   obtain⟨ae,e⟩:=dK.1 dr;rw[gw ae,e]
  rw[k3] at a5;replace a5:=a5.trans (zo.eq_2 ..);dsimp only at a5;have d1:decide ((i:Int)<(D ls:Int))=true:=c5;have pb:=e1 (i:=i) (by omega);rcases jg:(c==to)
  ·rw[jg] at a5;simp only[cC,if_false] at a5;refine af ?_;repeat' (intro h<;>simp only[h,go_sem,go_sem_proc,vW,A4,bm,c3,ei,fQ,hM,dW,fs,g2,ij,dr,d1,pb,jg,fg,ar,ah,bd,bne,db]<;>try refine ab ?_ ?_)
   exact⟨(i+1,f),by dsimp only;omega,by dsimp only;omega,aj,a5,rfl,rfl⟩
  ·rw[jg] at a5;simp only[if_true] at a5;have C9:c=to:=by simpa using jg
   obtain⟨s9,gD⟩:=uh C9;obtain⟨j,rfl⟩:=vI s9;have Y:j<D x:=by omega
   obtain⟨⟨⟨dz,dI⟩,⟨eo,eA⟩⟩,ta⟩:∃f,x[j]?=some f:=⟨_,bc Y⟩;have hq:=J.2 _ (cJ ta);have qk:x.getD j bA=((dz,dI),(eo,eA)):=by rw[dG,ta];rfl
   unfold xj at a5;dsimp only at a5;rw[lX,qk] at a5;obtain⟨⟨f1,f2⟩,⟨f3,f4⟩⟩:=f;obtain⟨F0,Qk⟩:=aj;obtain⟨m0,gn⟩:=pa;obtain⟨ey,eR⟩:=hq;have uk:=OH ((w1,gE),(bJ,hs)) ((dz,dI),(eo,eA));generalize ic:iC ((w1,gE),(bJ,hs)) ((dz,dI),(eo,eA))=dk at *;obtain⟨⟨⟨jn,gH⟩,⟨sV,um⟩⟩,aO⟩:=dk;dsimp only at uk a5 F0 Qk m0 gn ey eR;have rC:=UC ((f1,f2),(f3,f4)) ((jn,gH),(sV,um));generalize cU:ou ((f1,f2),(f3,f4)) ((jn,gH),(sV,um))=S at *;obtain⟨⟨⟨v1,v2⟩,⟨ff,v4⟩⟩,ax⟩:=S;dsimp only at a5 rC;obtain⟨pN,wS⟩:=uk;dsimp only at pN wS;simp only[ju] at ij;simp only[eZ] at a5;rcases uE:(aO==0)
   ·rw[uE] at a5;simp only[eN,cC,if_false] at a5;rw[a5];refine af ?_;repeat' (intro h<;>simp only[h,go_sem,go_sem_proc,vW,A4,bm,c3,ei,fQ,hM,dW,fs,g2,ij,dr,ta,d1,pb,jg,ic,cU,F0,Qk,m0,gn,ey,eR,pN,wS,uE,fg,cP,ar,bA,bN,ah,bd,bne,cZ,db]<;>try refine ab ?_ ?_)
   ·rw[uE] at a5;rcases ef:(ax==0)
    ·rw[ef] at a5;simp only[iZ,cC,if_false] at a5;rw[a5];refine af ?_;repeat' (intro h<;>simp only[h,go_sem,go_sem_proc,vW,A4,bm,c3,ei,fQ,hM,dW,fs,g2,ij,dr,ta,d1,pb,jg,ic,cU,F0,Qk,m0,gn,ey,eR,pN,wS,uE,ef,fg,cP,ar,bA,bN,ah,bd,bne,cZ,db]<;>try refine ab ?_ ?_)
    ·rw[ef] at a5;simp only[KC,if_true] at a5;refine af ?_;repeat' (intro h<;>simp only[h,go_sem,go_sem_proc,vW,A4,bm,c3,ei,fQ,hM,dW,fs,g2,ij,dr,ta,d1,pb,jg,ic,cU,F0,Qk,m0,gn,ey,eR,pN,wS,uE,ef,fg,cP,ar,ah,bd,bne,cZ,db]<;>try refine ab ?_ ?_)
     exact⟨(i+1,((v1,v2),(ff,v4))),by dsimp only;omega,by dsimp only;omega,rC,a5,rfl,rfl⟩
 ·have d1:decide ((i:Int)<(D ls:Int))=false:=de;have kH:ls.drop i=[]:=lj (by omega);rw[kH] at a5;replace a5:=a5.trans (zo.eq_1 ..);rw[a5];obtain⟨⟨f1,f2⟩,⟨f3,f4⟩⟩:=f;simp only[ju] at ij;refine af ?_;repeat' (intro h<;>simp only[h,go_sem,go_sem_proc,vW,A4,bm,c3,ei,fQ,hM,dW,fs,g2,ij,d1,ar,ah]<;>try refine ab ?_ ?_)
def G1 (a:List (List Nat)):Prop:=D a<=1000000/\∀x∈a,D x<=1000000
def agC:∀a b:List Nat,p7 a=p7 b->a=b:=λa b h=>by
 simp only[p7,bj,Data.ao.injEq,and_true] at h;exact map_inj (λx y h=>by simp only[nx,bj,Data.int.injEq,true_and,and_true] at h;omega) _ _ h
abbrev Ql:(List (List Nat))×(List (List Nat))->List Data:=λ(a,b)=>[.ao (a.map p7),.ao (b.map p7)]
def Lm:=bG Ql λ(a,b)=>b8 (G1 a/\G1 b) (.same (.bool (a==b)))
def atb:∀a b,Ql a=Ql b->a=b:=by
  rintro⟨dw,bR⟩ ⟨dV,cz⟩ h;simp only[bj,Data.ao.injEq,and_true] at h;exact cx (map_inj agC _ _ h.1) (map_inj agC _ _ h.2)
@[go_sem] def WW (a b):=cj Lm rfl atb (a,b) rfl
def atc (T:bg):WF T agv Lm:=by
 refine b5 λ(a,b)=>cn λU=>⟨rfl,b4 ?_⟩;simp only[agv,Ql,bV];obtain⟨⟨aBL,WX⟩,⟨aBM,aBN⟩⟩:=U;rcases ae:((D a:Int)==(D b:Int))
 ·have mK:(a==b)=false:=by rw[beq_eq_false_iff_ne];rintro rfl;simp at ae
  rw[mK];refine af ?_;repeat' (intro h<;>simp only[h,go_sem,go_sem_proc,ae,ah,bne,db]<;>try refine ab ?_ ?_)
 ·have hle:(D a)=D b:=by have:=eq_of_beq ae;omega
  simp only[go_sem,go_sem_proc,ae,ah,bne,cZ];refine cV [0,1] [] (λ(i:Nat) tm mem=>i<=D a/\a.take i=b.take i/\tm 5=.I (.int .i64 i)) (λi=>D a-i) 0 (by refine⟨dF _,by simp,rfl⟩) ?_;intro vs ms aI aD;simp only[go_sem,go_sem_proc,ah] at aI aD;subst aI aD;rintro i tm mem Q hm ⟨Z,cX,mD⟩;simp only[go_sem,go_sem_proc,bj] at Q hm;obtain⟨fH,aO⟩:=Q;rcases dt (i<D a) with an|bB
  ·have d1:decide ((i:Int)<(D a:Int))=true:=c5;have bJ:=e1 (i:=i) (by omega);obtain⟨x,J⟩:∃x,a[i]?=some x:=⟨_,bc an⟩;obtain⟨y,ai⟩:∃x,b[i]?=some x:=⟨_,bc (by omega)⟩;have aBO:=WX x (cJ J);rcases q:((D x:Int)==(D y:Int))
   ·have mK:(a==b)=false:=by rw[beq_eq_false_iff_ne];rintro rfl;rw[J] at ai;cases ai;simp at q
    rw[mK];refine af ?_;repeat' (intro h<;>simp only[h,go_sem,go_sem_proc,fH,aO,mD,J,ai,d1,q,p7,ah,bd,bne,db]<;>try refine ab ?_ ?_)
   ·have hk:(D x)=D y:=by have:=eq_of_beq q;omega
    simp only[go_sem,go_sem_proc,fH,aO,mD,J,ai,d1,q,p7,ah,bd,bne,cZ];refine cV [0,1,5] [] (λ(k:Nat) tm mem=>k<=D x/\x.take k=y.take k/\tm 6=.I (.int .i64 k)) (λk=>D x-k) 0 (by refine⟨dF _,by simp,rfl⟩) ?_;intro vs ms aI aD;simp only[go_sem,go_sem_proc,fH,aO,mD] at aI aD;subst aI aD;clear fH aO mD hm tm mem;rintro k tm mem Q hm ⟨BE,WY,vP⟩;simp only[go_sem,go_sem_proc,bj] at Q hm;obtain⟨fH,aO,mD⟩:=Q;rcases dt (k<D x) with nA|aBP
    ·have d2:decide ((k:Int)<(D x:Int))=true:=c5;have hs:=e1 (i:=k) (by omega);obtain⟨u,hu⟩:∃u,x[k]?=some u:=⟨_,bc nA⟩;obtain⟨v,al⟩:∃u,y[k]?=some u:=⟨_,bc (by omega)⟩;rcases ik:((u:Int)==(v:Int))
     ·have mK:(a==b)=false:=by
       rw[beq_eq_false_iff_ne];rintro rfl;rw[J] at ai
       cases ai;rw[hu] at al
       cases al;simp at ik
      rw[mK];refine af ?_;repeat' (intro h<;>simp only[h,go_sem,go_sem_proc,fH,aO,mD,vP,J,ai,hu,al,d2,ik,p7,nx,ah,bd,bne,db]<;>try refine ab ?_ ?_)
     ·have atd:u=v:=by have:=eq_of_beq ik;omega
      refine af ?_;repeat' (intro h<;>simp only[h,go_sem,go_sem_proc,fH,aO,mD,vP,J,ai,hu,al,d2,hs,ik,p7,nx,ah,bd,bne,cZ]<;>try refine ab ?_ ?_)
      exact⟨k+1,by omega,by omega,by rw[hn,hn,WY,hu,al,atd],rfl⟩
    ·have d2:decide ((k:Int)<(D x:Int))=false:=de;rw[dE (by omega),dE (by omega)] at WY;refine af ?_;repeat' (intro h<;>simp only[h,go_sem,go_sem_proc,fH,aO,mD,vP,J,d2,bJ,p7,ah,bd]<;>try refine ab ?_ ?_)
     exact⟨i+1,by omega,by omega,by rw[hn,hn,cX,J,ai,WY],rfl⟩
  ·have d1:decide ((i:Int)<(D a:Int))=false:=de;rw[dE (by omega),dE (by omega)] at cX;have mK:(a==b)=true:=by rw[cX];exact beq_self_eq_true _
   rw[mK];refine af ?_;repeat' (intro h<;>simp only[h,go_sem,go_sem_proc,fH,aO,mD,d1,ah]<;>try refine ab ?_ ?_)
abbrev Qm:(List cl)×Nat->List Data:=λ(ls,n)=>[.ao (ls.map fg),.int .i64 n]
def Qn:=bG Qm λ(ls,n)=>b8 (n<=40) (.same (.agg [.ao ((cf n kp).map ar),.ao ((cf n hh).map ar),.ao (ls.map fg)]))
def ate:∀a b,Qm a=Qm b->a=b:=by
  rintro⟨y4,rb⟩ ⟨y5,re⟩ h;simp only[bj,Data.ao.injEq,Data.int.injEq] at h;exact cx (map_inj ux _ _ h.1) (by have:=h.2.1.2;dsimp only;omega)
@[go_sem] def atf (ls n):=cj Qn rfl ate (ls,n) rfl
def atg (T:bg)(dQ:T sv=aE A3):WF T agx Qn:=by
 refine b5 λ(ls,n)=>cn λU=>⟨rfl,b4 ?_⟩;simp only[agx,Qm,bV];have a0:=DI 0 (by unfold dX;omega);have F:=DI 1 (by unfold dX;omega);rw[show ed ((0:Int):Rat)=hh from rfl] at a0;rw[show ed ((1:Int):Rat)=kp from rfl] at F;generalize hh=nb at *;generalize kp=au at *;simp only[go_sem,go_sem_proc,dQ,];refine V0 (kc:=428005) (g:=0) (off:=0) (cs:=[.nil,.nil,.I (.ao (ls.map fg))]) (by simp only[go_sem,go_sem_proc,dQ]) (by simp[aT]) rfl (by decide) ?_;simp only[go_sem,go_sem_proc,dQ,qM,FU];refine V0 (kc:=428005) (g:=0) (off:=0) (cs:=[.ref 428018 0 4 0 0,.nil,.I (.ao (ls.map fg))]) (by simp only[go_sem,go_sem_proc,dQ]) (by simp[aT,bz,gL]) rfl (by decide) ?_;simp only[go_sem,go_sem_proc,dQ,qM,FU]
 refine cV [1,4,5] [428004] (λ((i,g,cO):Nat×Nat×Nat) tm m=>i<=n/\tm 6=.I (.int .i64 i)/\m 428005=some (0,[.ref 428018 g 4 0 i,.ref 428024 cO 4 0 i,.I (.ao (ls.map fg))])/\m 428018=some (g,aQ ar (cf i au))/\m 428024=some (cO,aQ ar (cf i nb))) (λ(i,_,_)=>n-i) (0,0,0) (by
  refine⟨dF _,rfl,?_,?_,?_⟩
  ·simp[aT,bz,gL]
  ·simp[aT,aQ,bz,gL]
  ·simp[aT,aQ,bz,gL]) ?_
 intro vs ms aI aD;simp only[go_sem,go_sem_proc,dQ,] at aI aD;subst aI aD;rintro⟨i,g,cO⟩ tm m Q hm ⟨Z,bx,hd,za,WZ⟩;simp only[go_sem,go_sem_proc,dQ,bj] at Q hm;obtain⟨bm,s7,c1⟩:=Q;rcases dt (i<n) with an|bB
 ·have d1:decide ((i:Int)<(n:Int))=true:=c5;have bJ:=e1 (i:=i) (by omega);have DJ:=lq jt vl 428018 g 64 (cf i au) au (cs:=_) rfl (by rw[hr];omega) (by rw[hr];omega);have Ln:=lq jt vl 428024 cO 64 (cf i nb) nb (cs:=_) rfl (by rw[hr];omega) (by rw[hr];omega);rw[hr,<-agD] at DJ Ln;obtain⟨⟨iP,je⟩,⟨kL,kM⟩⟩:=nb;obtain⟨⟨kq,jK⟩,⟨pd,pe⟩⟩:=au;simp only[ar,gZ,bN] at DJ Ln a0 F;refine af ?_;repeat' (intro (ag:_=_)<;>simp only[ag,go_sem,go_sem_proc,dQ,bm,s7,c1,bx,hd,za,WZ,hm,d1,bJ,a0,F,DJ,Ln,qM,FU]<;>try refine ab ?_ ?_)
  exact⟨(i+1,g+1,cO+1),by dsimp only;omega,by dsimp only;omega,rfl,rfl,rfl,rfl⟩
 ·have d1:decide ((i:Int)<(n:Int))=false:=de;have hy:i=n:=by omega
  subst hy;have ur:=λ(mem:Mem) (h:mem 428018=some (g,aQ ar (cf i au)))=>jV (n:=4) jt h;have uu:=λ(mem:Mem) (h:mem 428024=some (cO,aQ ar (cf i nb)))=>jV (n:=4) jt h;rw[hr] at ur uu;simp only[go_sem,go_sem_proc,dQ,bm,s7,c1,bx,hd,za,WZ,hm,d1];rw[ur _ (by simp[aT,za]),uu _ (by simp[aT,WZ])]
  rfl
def Lo:=bG Gw λ(s,l,s2,X,ls,n,to)=>b8 (aeU ((s,l),(s2,X)) ls n to) (.same (.dp [.agg (cE (mG ((s,l),(s2,X)) ls n to).1),.bool (mG ((s,l),(s2,X)) ls n to).2]))
@[go_sem] def W0 (s l s2 X ls n to):=cj Lo rfl aeV (s,l,s2,X,ls,n,to) rfl
def ath (T:bg)(dQ:T sv=aE A3)(p8:T IN=aE Lg):WF T agy Lo:=by
 refine b5 λ(s,l,s2,X,ls,n,to)=>cn λU=>⟨rfl,b4 ?_⟩;simp only[agy,Gw,bV];obtain⟨a4,⟨vK,ga⟩,aA,Db,eY⟩:=U;have a0:=DI 0 (by unfold dX;omega);have F:=DI 1 (by unfold dX;omega);rw[show ed ((0:Int):Rat)=hh from rfl] at a0;rw[show ed ((1:Int):Rat)=kp from rfl] at F;have Dc:=xl;have vL:=Da;have Dd:oA n to=(cf n hh).set to kp:=rfl;generalize hh=nb at *;generalize kp=au at *;obtain⟨⟨iP,je⟩,⟨kL,kM⟩⟩:=nb;obtain⟨⟨kq,jK⟩,⟨pd,pe⟩⟩:=au;simp only[ar] at a0 F;have jG:(oA n to).length=n:=by rw[Dd,fj,hr]
 have mE:∀f∈oA n to,okF f:=λf aj=>by
  rw[Dd] at aj;rcases nW aj with aj|rfl
  ·rw[List.mem_replicate] at aj;rw[aj.2];exact Dc
  ·exact vL
 unfold mG;generalize oA n to=KE at *;simp only[go_sem,go_sem_proc,dQ,p8,];refine V0 (kc:=429010) (g:=0) (off:=0) (cs:=.nil::ju ((s,l),(s2,X))) (by simp only[go_sem,go_sem_proc,dQ,p8]) (by simp[aT,ju]) rfl (by decide) ?_;simp only[go_sem,go_sem_proc,dQ,p8,qM,ju]
 refine cV [1,2,3,8,10] [429004,429008,429013] (λ((i,g):Nat×Nat) tm m=>i<=n/\tm 11=.I (.int .i64 i)/\m 429010=some (0,.ref 429026 g 4 0 i::ju ((s,l),(s2,X)))/\m 429026=some (g,aQ ar (cf i ((iP,je),(kL,kM))))) (λ(i,_)=>n-i) (0,0) (by
  refine⟨dF _,rfl,?_,?_⟩
  ·simp[aT,bz,gL,ju]
  ·simp[aT,aQ,bz,gL]) ?_
 intro vs ms aI aD;simp only[go_sem,go_sem_proc,dQ,p8,] at aI aD;subst aI aD;rintro⟨i,g⟩ tm m Q hm ⟨Z,dW,ij,zp⟩;simp only[go_sem,go_sem_proc,dQ,p8,bj] at Q hm;obtain⟨bm,c3,ei,fQ,hM⟩:=Q;obtain⟨fs,g2,W1⟩:=hm;simp only[ju] at ij;rcases dt (i<n) with an|bB
 ·have d1:decide ((i:Int)<(n:Int))=true:=c5;have bJ:=e1 (i:=i) (by omega);have DJ:=lq jt vl 429026 g 64 (cf i ((iP,je),(kL,kM))) ((iP,je),(kL,kM)) (cs:=_) rfl (by rw[hr];omega) (by rw[hr];omega);rw[hr,<-agD] at DJ;simp only[ar,gZ,bN] at DJ;refine af ?_;repeat' (intro h<;>simp only[h,go_sem,go_sem_proc,dQ,p8,bm,c3,ei,fQ,hM,dW,ij,zp,fs,g2,W1,d1,bJ,a0,DJ,qM]<;>try refine ab ?_ ?_)
  exact⟨(i+1,g+1),by dsimp only;omega,by dsimp only;omega,rfl,rfl,rfl⟩
 ·have d1:decide ((i:Int)<(n:Int))=false:=de;have hy:i=n:=by omega
  subst hy;have t1:=ui (l:=cf i ((iP,je),(kL,kM))) (k:=to) (by rw[hr];exact Db);have t2:=yY (l:=cf i ((iP,je),(kL,kM))) (k:=to) (by rw[hr];exact Db) kq jK pd pe;rw[<-Dd] at t2;simp only[go_sem,go_sem_proc,dQ,p8,bm,c3,ei,fQ,hM,dW,ij,zp,fs,g2,W1,d1,F,t1,t2,Db]
  refine cV [1,3,8,10] [429004,429008,429010] (λ((j,A):Nat×List av) tm m=>j<=D ls/\D A=i/\(∀f∈A,okF f)/\n0 to ls KE=n0 to (ls.drop j) A/\tm 12=.I (.int .i64 j)/\m 429026=some (g,aQ ar A)) (λ(j,_)=>D ls-j) (0,KE) (by
   refine⟨dF _,jG,mE,rfl,rfl,?_⟩
   ·simp[aT]) ?_
  intro vs ms aI aD;simp only[go_sem,go_sem_proc,dQ,p8,bm,ei,fQ,hM,fs,g2,ij] at aI aD;subst aI aD;clear bm c3 ei fQ hM dW ij zp fs g2 W1 tm m;rintro⟨j,A⟩ tm m Q hm ⟨Y,De,p4,a5,eH,zp⟩;simp only[go_sem,go_sem_proc,dQ,p8,bj] at Q hm;obtain⟨bm,ei,fQ,hM⟩:=Q;obtain⟨fs,g2,ij⟩:=hm;rcases dt (j<D ls) with an|bB
  ·obtain⟨⟨a,c,⟨w1,gE⟩,⟨bJ,hs⟩⟩,dr⟩:∃l,ls[j]?=some l:=⟨_,bc an⟩;have pa:=ga _ (cJ dr);have uh:=eY _ (cJ dr);dsimp only at pa uh
   have k3:ls.drop j=(a,c,((w1,gE),(bJ,hs)))::ls.drop (j+1):=by
    obtain⟨ae,e⟩:=dK.1 dr;rw[gw ae,e]
   rw[k3] at a5;simp only[n0] at a5;have d1:decide ((j:Int)<(D ls:Int))=true:=c5;have pb:=e1 (i:=j) (by omega);rcases jg:(c==(to:Int))
   ·rw[jg] at a5;simp only[cC,if_false] at a5;refine af ?_;repeat' (intro h<;>simp only[h,go_sem,go_sem_proc,dQ,p8,bm,ei,fQ,hM,eH,fs,g2,ij,zp,dr,d1,pb,jg,fg,ar,ah,bd,bne,db]<;>try refine ab ?_ ?_)
    exact⟨(j+1,A),by dsimp only;omega,by dsimp only;omega,De,p4,a5,rfl,rfl⟩
   ·rw[jg] at a5;simp only[if_true] at a5;have C9:c=to:=by simpa using jg
    obtain⟨s9,gD⟩:=uh C9;obtain⟨q,rfl⟩:=vI s9;have aS:q<i:=by omega
    obtain⟨⟨⟨dz,dI⟩,⟨eo,eA⟩⟩,ta⟩:∃f,A[q]?=some f:=⟨_,bc (by omega)⟩;have hq:=p4 _ (cJ ta);have qk:A.getD q bA=((dz,dI),(eo,eA)):=by rw[dG,ta];rfl
    rw[lX,qk] at a5;have rC:=FP ((dz,dI),(eo,eA)) ((w1,gE),(bJ,hs));have ch:=CG ta;have dB:=ui (l:=A) (k:=q) (by omega);generalize cU:kn ((dz,dI),(eo,eA)) ((w1,gE),(bJ,hs))=S at *;obtain⟨⟨⟨v1,v2⟩,⟨ff,v4⟩⟩,e⟩:=S;dsimp only at a5 rC;have gu:=yY (l:=A) (k:=q) (by omega) v1 v2 ff v4;rcases he:(e==0)
    ·rw[he] at a5;simp only[cC,if_false] at a5;rw[a5];simp only[cC,if_false];refine af ?_;repeat' (intro h<;>simp only[h,go_sem,go_sem_proc,dQ,p8,bm,ei,fQ,hM,eH,fs,g2,ij,zp,dr,d1,pb,jg,aS,cU,ch,dB,hq.1,hq.2,pa.1,pa.2,he,fg,cE,bA,cP,ar,bN,ah,bd,bne,cZ,db]<;>try refine ab ?_ ?_)
    ·rw[he] at a5;simp only[if_true] at a5;refine af ?_;repeat' (intro h<;>simp only[h,go_sem,go_sem_proc,dQ,p8,bm,ei,fQ,hM,eH,fs,g2,ij,zp,dr,d1,pb,jg,aS,cU,ch,dB,gu,hq.1,hq.2,pa.1,pa.2,he,fg,cP,ar,ah,bd,bne,cZ,db]<;>try refine ab ?_ ?_)
     refine⟨(j+1,A.set q ((v1,v2),(ff,v4))),by dsimp only;omega,by dsimp only;omega,by rw[fj];exact De,λf aj=>?_,a5,rfl,rfl⟩
     rcases nW aj with aj|rfl
     ·exact p4 f aj
     ·exact rC
  ·have d1:decide ((j:Int)<(D ls:Int))=false:=de;have kH:ls.drop j=[]:=lj (by omega);rw[kH] at a5;rw[a5];simp only[n0,if_true];have ez:=jV (n:=3) (k:=429026) jt (mem:=aT m 429008 0 (.ref 429026 g 4 0 i::ju ((s,l),(s2,X)))) (l:=A) (g:=g) (by rw[ko (by decide)];exact zp);rw[De] at ez;simp only[ju] at ez;refine af ?_;repeat' (intro h<;>simp only[h,go_sem,go_sem_proc,dQ,p8,bm,ei,fQ,hM,eH,fs,g2,ij,zp,d1,cE,ar,ah]<;>try refine ab ?_ ?_)
   rw[ez]
   rfl
def G3 (p q r s:Int):Prop:=p.natAbs<cW/\q.natAbs<cW/\r.natAbs<cW/\s.natAbs<cW/\0<q/\0<s
def Lp (a:Int×Int×Int×Int):List Data:=[.agg (b3 (a9 a.1)),.agg (b3 (a9 a.2.1)),.agg (b3 (a9 a.2.2.1)),.agg (b3 (a9 a.2.2.2))]
def Qo {a b:Raw}(h:b3 a=b3 b):a=b:=by
 obtain⟨s,l⟩:=a;obtain⟨t,m⟩:=b;simp only[b3,bj,Data.int.injEq,Data.ao.injEq,true_and,and_true] at h;exact cx h.1 (map_inj fW _ _ h.2)
def agE:∀a b:Int×Int×Int×Int,Lp a=Lp b->a=b:=by
 rintro⟨dw,dV,hQ,jf⟩ ⟨bR,cz,er,eC⟩ h;simp only[Lp,bj,Data.agg.injEq,and_true] at h;obtain⟨F,G,aa,aX⟩:=h;rw[N6 (Qo F),N6 (Qo G),N6 (Qo aa),N6 (Qo aX)]
def agF (a:Int×Int×Int×Int):di:=.same (.int .i64 (a.1*a.2.2.2-a.2.2.1*a.2.1).sign)
def Lq:List Data->Option di:=bG Lp λa=>b8 (G3 a.1 a.2.1 a.2.2.1 a.2.2.2) (agF a)
def Lr (n:Nat):List Data->Option di:=bG Lp λa=>b8 (G3 a.1 a.2.1 a.2.2.1 a.2.2.2/\a.2.1.toNat+a.2.2.2.toNat<n) (agF a)
def agG {n:Nat}{p q r s:Int}(h:G3 p q r s/\q.toNat+s.toNat<n):Lr n [.agg (b3 (a9 p)),.agg (b3 (a9 q)),.agg (b3 (a9 r)),.agg (b3 (a9 s))]=some (.same (.int .i64 (p*s-r*q).sign)) :=
 (M9 agE (p,q,r,s)).trans (Nb h _)
def ati {p q r s:Int}(h:G3 p q r s):Lq [.agg (b3 (a9 p)),.agg (b3 (a9 q)),.agg (b3 (a9 r)),.agg (b3 (a9 s))]=some (.same (.int .i64 (p*s-r*q).sign)) :=
 (M9 agE (p,q,r,s)).trans (Nb h _)
def atj {ds:List Data}{x:di}(h:Lq ds=some x):∃n,Lr n ds=some x:=by
 obtain⟨⟨p,q,r,s⟩,rfl,G⟩:=Na h;obtain⟨U,rfl⟩:=Sd G;exact⟨_,agG ⟨U,KL _⟩⟩
def atk {p q r s:Int}(aS:0<q)(O:0<s)(h:p.fdiv q≠r.fdiv s):(p*s-r*q).sign=gb (p.fdiv q) (r.fdiv s):=by
 have aO:p.fmod q+q*p.fdiv q=p:=Ls p q;have ax:r.fmod s+s*r.fdiv s=r:=Ls r s;have kk:=Lt p aS;have jn:=Lu p aS;have v0:=Lt r O;have v1:=Lu r O;generalize p.fdiv q=x at *;generalize r.fdiv s=y at *;generalize p.fmod q=u at *;generalize r.fmod s=v at *;have xT:0<q*s:=Int.mul_pos aS O;have bm:0<=u*s:=sA kk (by omega);have c3:0<=v*q:=sA v0 (by omega)
 have ei:u*s<=q*s-s:=by
  have:=kI (show u<=q-1 by omega) (show 0<=s by omega);grind
 have s7:v*q<=q*s-q:=by
  have:=kI (show v<=s-1 by omega) (show 0<=q by omega);grind
 have e:p*s-r*q=q*s*(x-y)+(u*s-v*q):=by rw[<-aO,<-ax];grind
 rw[e];rcases WN h with an|kE
 ·have c1:q*s*(x-y)<=q*s*(-1):=tO (by omega) (by omega);rw[yI an];exact kJ (by omega)
 ·have c1:q*s*1<=q*s*(x-y):=tO (by omega) (by omega)
  have:gb x y=1:=by
   unfold gb;rw[aR (by simp;omega),aJ (by simp;omega)]
  rw[this];exact gp (by omega)
def atl {p q r s:Int}(h:p.fdiv q=r.fdiv s):p*s-r*q=p.fmod q*s-r.fmod s*q:=by
 have aO:p.fmod q+q*p.fdiv q=p:=Ls p q;have ax:r.fmod s+s*r.fdiv s=r:=Ls r s;rw[h] at aO;generalize r.fdiv s=y at *;generalize p.fmod q=u at *;generalize r.fmod s=v at *;rw[<-aO,<-ax];grind
def atm (T:bg)(xz:T BW=aE Lc)(zl:T IQ=aE K9)(n:Nat)(Lv:T EX=aE (Lr n))(p q r s:Int)(U:G3 p q r s/\q.toNat+s.toNat<n+1):WP T PZ (.same (.int .i64 (p*s-r*q).sign)) [.I (.agg (b3 (a9 p))),.I (.agg (b3 (a9 q))),.I (.agg (b3 (a9 r))),.I (.agg (b3 (a9 s)))]:=by
 refine b4 ?_;simp only[PZ];obtain⟨⟨kX,gd,gI,s1,aS,O⟩,aA⟩:=U;have hZ:=jc kX;have X:=jc gd;have bZ:=jc gI;have bX:=jc s1;have kk:=Lt p aS;have jn:=Lu p aS;have v0:=Lt r O;have v1:=Lu r O;have agH:(p.fmod q).natAbs<cW:=by omega
 have Qp:(r.fmod s).natAbs<cW:=by omega
 have si:∀{a b:Int},a.natAbs<cW->0<b->(a.fdiv b).natAbs<cW:=by
  intro a b ba R;have aO:a.fmod b+b*a.fdiv b=a:=Ls a b;have ax:=Lt a R;have eS:=Lu a R
  have:(a.fdiv b).natAbs<=a.natAbs:=by
   rcases Int.lt_or_le (a.fdiv b) 0 with h|h
   ·have k:b*(a.fdiv b+1)<=1*(a.fdiv b+1):=Int.mul_le_mul_of_nonpos_right (by omega) (by omega);have:b*(a.fdiv b+1)=b*a.fdiv b+b:=by grind
    omega
   ·have k:1*a.fdiv b<=b*a.fdiv b:=kI (by omega) h;omega
  omega
 have dz:=si kX aS;have og:=si gI O;have aW:=jc dz;have bY:=jc og;have fI:=jc agH;have fs:=jc Qp;have d1:=yL kX gd (by omega);have d2:=yL gI s1 (by omega);have d3:=Jr dz og;have bo:=atk (p:=p) (r:=r) aS O;have heq:=atl (p:=p) (q:=q) (r:=r) (s:=s);have jR:G3 s (r.fmod s) q (p.fmod q)->Lr n [.agg (b3 (a9 s)),.agg (b3 (a9 (r.fmod s))),.agg (b3 (a9 q)),.agg (b3 (a9 (p.fmod q)))]=some (.same (.int .i64 (s*p.fmod q-q*r.fmod s).sign)):=λh=>agG ⟨h,by omega⟩
 have Ch:p.fdiv q=r.fdiv s->gb (p.fdiv q) (r.fdiv s)=0:=λh=>by unfold gb;rw[aR (by simp;omega),aR (by simp;omega)]
 have atn:p.fdiv q≠r.fdiv s->(gb (p.fdiv q) (r.fdiv s)==0)=false:=λh=>by
  rcases WN h with h|h
  ·rw[yI h];rfl
  ·unfold gb;rw[aR (by simp;omega),aJ (by simp;omega)];rfl
 have es:∀z:Int,a9 z=(z.sign,aF z.natAbs):=λz=>rfl;rw[es,es] at d1 d2 d3
 by_cases hk:p.fdiv q=r.fdiv s
 ·have nM:=Ch hk
  by_cases hu:p.fmod q=0
  ·have yT:(p.fmod q).sign=0:=by rw[hu];rfl
   have jS:(p*s-r*q).sign=0-(r.fmod s).sign:=by
    rw[heq hk,hu,yK,Int.zero_sub,yG,nS,gp aS,qB];omega
   rw[jS]
   have w:IntKind.i64.wrap (0-(r.fmod s).sign)=0-(r.fmod s).sign:=by
    have:=Jo (r.fmod s);rw[fJ _]
   refine af ?_;repeat' (intro (ag:_=_)<;>simp only[ag,go_sem,go_sem_proc,xz,zl,b3,km,hZ,X,bZ,bX,aW,bY,d1,d2,d3,nM,yT,w,es,ah,beq_self_eq_true,bne,cZ]<;>try refine ab ?_ ?_)
  ·have yT:((p.fmod q).sign==0)=false:=by
    rw[gp (by omega)];rfl
   by_cases al:r.fmod s=0
   ·have W2:(r.fmod s).sign=0:=by rw[al];rfl
    have jS:(p*s-r*q).sign=(p.fmod q).sign-0:=by
     rw[heq hk,al,yK,Ae,nS,gp O,qB,Ae]
    rw[jS]
    have w:IntKind.i64.wrap ((p.fmod q).sign-0)=(p.fmod q).sign-0:=by
     have:=Jo (p.fmod q);rw[fJ _]
    refine af ?_;repeat' (intro (ag:_=_)<;>simp only[ag,go_sem,go_sem_proc,xz,zl,b3,km,hZ,X,bZ,bX,aW,bY,d1,d2,d3,nM,yT,W2,w,es,ah,beq_self_eq_true,bne,cZ]<;>try refine ab ?_ ?_)
   ·have W2:((r.fmod s).sign==0)=false:=by
     rw[gp (by omega)];rfl
    have L:=jR ⟨s1,Qp,gd,agH,by omega,by omega⟩
    have jS:s*p.fmod q-q*r.fmod s=p*s-r*q:=by rw[heq hk];grind
    rw[jS] at L;simp only[b3,es] at L;refine af ?_;repeat' (intro (ag:_=_)<;>simp only[ag,go_sem,go_sem_proc,xz,zl,Lv,b3,km,hZ,X,bZ,bX,aW,bY,d1,d2,d3,nM,yT,W2,L,es,ah,beq_self_eq_true,bne,cZ]<;>try refine ab ?_ ?_)
 ·have nM:=atn hk;rw[bo hk];refine af ?_;repeat' (intro (ag:_=_)<;>simp only[ag,go_sem,go_sem_proc,xz,zl,b3,km,hZ,X,bZ,bX,aW,bY,d1,d2,d3,nM,es,ah,bne,db]<;>try refine ab ?_ ?_)
def G4:=bG lB λ(s,l,s2,X,bS,bZ,bU,bX)=>b8 (D l<=1000000/\D X<=1000000/\D bZ<=1000000/\D bX<=1000000) (.same (.int .i64 (lC ((s,l),(s2,X)) ((bS,bZ),(bU,bX)))))
@[go_sem] def aBQ (s l s2 X bS bZ bU bX):=cj G4 rfl vj (s,l,s2,X,bS,bZ,bU,bX) rfl
def ato (T:bg)(dv:T kY=aE uD)(Lv:T EX=aE Lq):WF T af3 G4:=by
 refine b5 λ(s,l,s2,X,bS,bZ,bU,bX)=>cn λU=>⟨rfl,b4 ?_⟩;simp only[af3,lB,bV];obtain⟨bq,bp,ek,eP⟩:=U;unfold lC;rcases L:cy ((s,l),(s2,X))
 ·refine af ?_;repeat' (intro h<;>simp only[h,go_sem,go_sem_proc,dv,Lv,bq,bp,L]<;>try refine ab ?_ ?_)
 ·rcases aU:cy ((bS,bZ),(bU,bX))
  ·refine af ?_;repeat' (intro h<;>simp only[h,go_sem,go_sem_proc,dv,Lv,bq,bp,ek,eP,L,aU]<;>try refine ab ?_ ?_)
  ·obtain⟨x,J,ex⟩:=(As _).1 L;obtain⟨y,ai,xN⟩:=(As _).1 aU;have R:Lq [.agg (b3 (a9 x.num)),.agg (b3 (a9 x.den)),.agg (b3 (a9 y.num)),.agg (b3 (a9 y.den))]=some (.same (.int .i64 (x.num*y.den-y.num*x.den).sign)):=ati ⟨J.1,ru J,ai.1,ru ai,den_pos x,den_pos y⟩;unfold ed at ex xN;simp only[eL] at ex xN;obtain⟨aO,ax⟩:=ex;obtain⟨eS,iA⟩:=xN;rw[<-aO,<-ax,<-eS,<-iA] at R
   have al:(gO (s,l)*gO (bU,bX)-gO (bS,bZ)*gO (s2,X))=x.num*y.den-y.num*x.den:=by
    rw[aO,ax,eS,iA,eJ,eJ,eJ,eJ]
   simp only[b3] at R;rw[aJ rfl,aJ rfl,al];refine af ?_;repeat' (intro h<;>simp only[h,go_sem,go_sem_proc,dv,Lv,bq,bp,ek,eP,L,aU,R]<;>try refine ab ?_ ?_)
def W3 {base:av}{ls:List cl}{x:List av}{to:Int}(h:(lI base ls x to).2=false):GZ base ls x to=(bA,false):=by
 rw[agB,h]
 rfl
def W4 {base:av}{ls:List cl}{x:List av}{to:Int}(h:(lI base ls x to).2=true):GZ base ls x to=lI base ls x to:=by
 rw[agB,h]
 rfl
def atp {x:List av}:(x.any λf => !g3 f||(f.1.1==0))=x.any λf => !cy f||decide (f.1.1<=0):=by
 congr 1
 funext f
 unfold g3;rcases cy f
 ·rfl
 ·rcases oX f.1.1 0 with h|h|h
  ·have F:decide (f.1.1>=0)=false:=de;have G:decide (f.1.1<=0)=true:=c5;rw[F,G];rfl
  ·rw[h];rfl
  ·have F:decide (f.1.1>=0)=true:=c5;have G:decide (f.1.1<=0)=false:=de;have aa:(f.1.1==0)=false:=by rw[beq_eq_false_iff_ne];omega
   rw[F,G,aa];rfl
def Qq:=bG GD λ(ls,n,x)=>b8 (qQ ls/\ih x) (.same (.bool (GC ls n x)))
@[go_sem] def atq (ls n x):=cj Qq rfl afc (ls,n,x) rfl
def atr (T:bg)(h1:T B7=aE GX)(dv:T kY=aE uD)(dQ:T sv=aE A3)(fb:T B5=aE G0)(fc:T z9=aE G4):WF T agl Qq:=by
 refine b5 λ(ls,n,x)=>cn λU=>⟨rfl,b4 ?_⟩;simp only[agl,GD,bV];obtain⟨xt,J⟩:=U;unfold GC;rcases aO:ow ls n
 ·refine af ?_;repeat' (intro (ag:_=_)<;>simp only[ag,go_sem,go_sem_proc,h1,dv,dQ,fb,fc,xt,aO,ah,cL,rW,o1,scalar]<;>try refine ab ?_ ?_)
 ·rcases ax:((D x:Int)==n)
  ·refine af ?_;repeat' (intro (ag:_=_)<;>simp only[ag,go_sem,go_sem_proc,h1,dv,dQ,fb,fc,xt,aO,ax,ah,bne,db]<;>try refine ab ?_ ?_)
  ·obtain⟨aq,KH,Dr,eY⟩:=GB aO;have vk:(D x:Int)=n:=by simpa using ax
   have q5:=J.1;subst vk;simp only[eZ];rw[atp];simp only[go_sem,go_sem_proc,h1,dv,dQ,fb,fc,xt,J,aO,ax,ah,bne,cZ];refine cV [0,1,2] [416009] (λ(i:Nat) tm m=>i<=D x/\(∀f∈x.take i,(!cy f||decide (f.1.1<=0))=false)/\tm 7=.I (.int .i64 i)) (λi=>D x-i) 0 (by refine⟨dF _,by simp,rfl⟩) ?_;intro vs ms aI aD;simp only[go_sem,go_sem_proc,h1,dv,dQ,fb,fc,ah] at aI aD;subst aI aD;rintro i tm m Q hm ⟨Z,cX,bK⟩;simp only[go_sem,go_sem_proc,h1,dv,dQ,fb,fc,bj] at Q hm;obtain⟨ep,bm,c3⟩:=Q;rcases dt (i<D x) with an|bB
   ·have d1:decide ((i:Int)<(D x:Int))=true:=c5;have bJ:=e1 (i:=i) (by omega);have fF:=bc an;obtain⟨ey,eR⟩:=J.2 _ (ha an);have jo:=λh=>vm (p:=λf:av => !cy f||decide (f.1.1<=0)) cX fF h;have jW:=λ(h:(!cy x[i]||decide (x[i].1.1<=0))=true)=>(DF (p:=λf:av => !cy f||decide (f.1.1<=0))).2 ⟨x[i],ha an,h⟩;generalize x[i]=y at *;obtain⟨⟨dz,dI⟩,⟨eo,eA⟩⟩:=y;dsimp only at ey eR jo jW;rcases gd:cy ((dz,dI),(eo,eA))
    ·rw[jW (by rw[gd];rfl)];simp only[cZ,eN];refine af ?_;repeat' (intro (ag:_=_)<;>simp only[ag,go_sem,go_sem_proc,h1,dv,dQ,fb,fc,ep,bm,c3,bK,hm,d1,bJ,fF,ey,eR,gd,ar,ah,bd]<;>try refine ab ?_ ?_)
    ·rcases ik:decide (dz<=0)
     ·refine af ?_;repeat' (intro (ag:_=_)<;>simp only[ag,go_sem,go_sem_proc,h1,dv,dQ,fb,fc,ep,bm,c3,bK,hm,d1,bJ,fF,ey,eR,gd,ik,ar,ah,bd]<;>try refine ab ?_ ?_)
      exact⟨i+1,by omega,by omega,jo (by rw[gd,ik];rfl),rfl⟩
     ·rw[jW (by rw[gd,ik];rfl)];simp only[cZ,eN];refine af ?_;repeat' (intro (ag:_=_)<;>simp only[ag,go_sem,go_sem_proc,h1,dv,dQ,fb,fc,ep,bm,c3,bK,hm,d1,bJ,fF,ey,eR,gd,ik,ar,ah,bd]<;>try refine ab ?_ ?_)
   ·have d1:decide ((i:Int)<(D x:Int))=false:=de;have hy:i=D x:=by omega
    subst hy;rw[mB] at cX;have h6:(x.any λf => !cy f||decide (f.1.1<=0))=false:=by rw[sN];intro y ai;rw[cX y ai];decide
    rw[h6];simp only[db,eZ];generalize Dt:xr ls x (D x) 0=GO;have a0:=DI 0 (by unfold dX;omega);rw[show ed ((0:Int):Rat)=hh from rfl] at a0;simp only[go_sem,go_sem_proc,h1,dv,dQ,fb,fc,ep,bm,c3,bK,hm,d1];refine cV [0,1,2] [] (λ(i:Nat) tm m=>i<=D x/\GO=xr ls x (D x-i) i/\tm 8=.I (.int .i64 i)) (λi=>D x-i) 0 (by refine⟨dF _,Dt.symm,rfl⟩) ?_;intro vs ms aI aD;simp only[go_sem,go_sem_proc,h1,dv,dQ,fb,fc,ep,bm,c3] at aI aD;subst aI aD;clear ep bm c3 bK hm tm m;rintro i tm m Q hm ⟨Z,a5,ca⟩;simp only[go_sem,go_sem_proc,h1,dv,dQ,fb,fc,bj] at Q;obtain⟨ep,bm,c3⟩:=Q;rcases dt (i<D x) with an|bB
    ·have d1:decide ((i:Int)<(D x:Int))=true:=c5;have bJ:=e1 (i:=i) (by omega);obtain⟨⟨⟨dz,dI⟩,⟨eo,eA⟩⟩,fF⟩:∃f,x[i]?=some f:=⟨_,bc an⟩;have fx:x.getD i bA=((dz,dI),(eo,eA)):=by rw[dG,fF];rfl
     have hq:=J.2 _ (cJ fF);have g1:(D x)-i=(D x-(i+1))+1:=by omega
     rw[g1] at a5;replace a5:=a5.trans (xr.eq_2 ..);rw[fx] at a5;have KX:=xl;have rE:=PO (ls:=ls) (x:=x) (to:=i) KX;generalize hh=nb at *;obtain⟨⟨iP,je⟩,⟨kL,kM⟩⟩:=nb;have bB:=WV iP je kL kM ls x i ⟨KX,xt,J,λl ae _=>by have:=eY l ae;omega⟩
     have wT:=W3 (base:=((iP,je),(kL,kM))) (ls:=ls) (x:=x) (to:=i);have u0:=W4 (base:=((iP,je),(kL,kM))) (ls:=ls) (x:=x) (to:=i);generalize lI ((iP,je),(kL,kM)) ls x i=S at *;obtain⟨⟨⟨s1,s2⟩,⟨bS,bU⟩⟩,b⟩:=S;dsimp only at a5 bB rE wT u0;obtain⟨ft,hN⟩:=rE;obtain⟨ey,eR⟩:=hq;dsimp only at ft hN ey eR;rcases b
     ·simp only[eN,cC,if_false] at a5;rw[wT rfl] at bB;simp only[ar] at a0 bB;rw[a5];refine af ?_;repeat' (intro (ag:_=_)<;>simp only[ag,go_sem,go_sem_proc,h1,dv,dQ,fb,fc,ep,bm,c3,ca,d1,bJ,fF,a0,bB,ar,bA,bN,ah,bd]<;>try refine ab ?_ ?_)
     ·rw[u0 rfl] at bB;simp only[ar] at a0 bB;rcases eX:decide (lC ((dz,dI),(eo,eA)) ((s1,s2),(bS,bU))<=0)
      ·rw[eX] at a5;simp only[eZ,db,if_true] at a5;refine af ?_;repeat' (intro (ag:_=_)<;>simp only[ag,go_sem,go_sem_proc,h1,dv,dQ,fb,fc,ep,bm,c3,ca,d1,bJ,fF,a0,bB,eX,ft,hN,ey,eR,ar,ah,bd]<;>try refine ab ?_ ?_)
       exact⟨i+1,by omega,by omega,a5,rfl⟩
      ·rw[eX] at a5;simp only[eZ,cZ,cC,if_false] at a5;rw[a5];refine af ?_;repeat' (intro (ag:_=_)<;>simp only[ag,go_sem,go_sem_proc,h1,dv,dQ,fb,fc,ep,bm,c3,ca,d1,bJ,fF,a0,bB,eX,ft,hN,ey,eR,ar,ah,bd]<;>try refine ab ?_ ?_)
    ·have d1:decide ((i:Int)<(D x:Int))=false:=de;have hy:i=D x:=by omega
     subst hy;rw[hF] at a5;replace a5:=a5.trans (xr.eq_1 ..);rw[a5];refine af ?_;repeat' (intro (ag:_=_)<;>simp only[ag,go_sem,go_sem_proc,h1,dv,dQ,fb,fc,ep,bm,c3,ca,d1,ah]<;>try refine ab ?_ ?_)
def Qr:=bG GF λ(cap,base,ls,x)=>b8 (ox cap base ls/\ih x) (.same (.bool (KY cap base ls x)))
@[go_sem] def ats (cap base ls x):=cj Qr rfl afe (cap,base,ls,x) rfl
def att (T:bg)(ev:T B6=aE GY)(dv:T kY=aE uD)(fb:T B5=aE G0)(fc:T z9=aE G4):WF T agp Qr:=by
 refine b5 λ(cap,base,ls,x)=>cn λU=>⟨rfl,b4 ?_⟩;simp only[agp,GF,bV];obtain⟨j6,J⟩:=U;unfold KY;rcases aO:o6 cap base ls
 ·refine af ?_;repeat' (intro (ag:_=_)<;>simp only[ag,go_sem,go_sem_proc,ev,dv,fb,fc,j6,aO,ah,cL,rW,o1,scalar]<;>try refine ab ?_ ?_)
 ·rcases ax:((D x:Int)==(D cap:Int))
  ·refine af ?_;repeat' (intro (ag:_=_)<;>simp only[ag,go_sem,go_sem_proc,ev,dv,fb,fc,j6,aO,ax,ah,bne,db]<;>try refine ab ?_ ?_)
  ·obtain⟨R,aA,Dr,eY,-,-⟩:=xp aO;have Wv:=j6;obtain⟨⟨ea,ny⟩,⟨mq,nz⟩,nA⟩:=Wv
   have vk:(D x)=D cap:=by
                       have:(D x:Int)=D cap:=by simpa using ax
                       omega
   have q5:=J.1;simp only[eZ];simp only[go_sem,go_sem_proc,ev,dv,fb,fc,j6,J,aO,ax,ah,bne,cZ];refine cV [1,2] [420002,420007] (λ(i:Nat) tm m=>i<=D x/\(∀f∈x.take i,pS f=false)/\tm 5=.I (.int .i64 i)) (λi=>D x-i) 0 (by refine⟨dF _,by simp,rfl⟩) ?_;intro vs ms aI aD;simp only[go_sem,go_sem_proc,ev,dv,fb,fc,ah] at aI aD;subst aI aD;rintro i tm m Q hm ⟨Z,cX,bt⟩;simp only[go_sem,go_sem_proc,ev,dv,fb,fc,bj] at Q hm;obtain⟨bm,c3⟩:=Q;obtain⟨bY,w3⟩:=hm;rcases dt (i<D x) with an|bB
   ·have d1:decide ((i:Int)<(D x:Int))=true:=c5;have bJ:=e1 (i:=i) (by omega);have fF:=bc an;obtain⟨ey,eR⟩:=J.2 _ (ha an);have jo:=λh=>vm (p:=pS) cX fF h;have jW:=λ(h:pS x[i]=true)=>DF.2 ⟨x[i],ha an,h⟩;generalize x[i]=y at *;obtain⟨⟨dz,dI⟩,⟨eo,eA⟩⟩:=y;dsimp only at ey eR;have agI:pS ((dz,dI),(eo,eA)) = !cy ((dz,dI),(eo,eA)):=rfl;rcases gd:cy ((dz,dI),(eo,eA))
    ·rw[jW (by rw[agI,gd];rfl)];simp only[cZ,eN];refine af ?_;repeat' (intro (ag:_=_)<;>simp only[ag,go_sem,go_sem_proc,ev,dv,fb,fc,bm,c3,bt,bY,w3,d1,bJ,fF,ey,eR,gd,ar,ah,bd]<;>try refine ab ?_ ?_)
    ·refine af ?_;repeat' (intro (ag:_=_)<;>simp only[ag,go_sem,go_sem_proc,ev,dv,fb,fc,bm,c3,bt,bY,w3,d1,bJ,fF,ey,eR,gd,ar,ah,bd]<;>try refine ab ?_ ?_)
     exact⟨i+1,by omega,by omega,jo (by rw[agI,gd];rfl),rfl⟩
   ·have d1:decide ((i:Int)<(D x:Int))=false:=de;have hy:i=D x:=by omega
    subst hy;rw[mB] at cX;have h6:x.any pS=false:=by rw[sN];intro y ai;rw[cX y ai];decide
    rw[h6];simp only[db,eZ];rw[<-vk];generalize Dt:xu cap base ls x (D x) 0=GO;simp only[go_sem,go_sem_proc,ev,dv,fb,fc,bm,c3,bt,bY,w3,d1,ah];refine cV [1,2] [420002] (λ(i:Nat) tm m=>i<=D x/\GO=xu cap base ls x (D x-i) i/\tm 6=.I (.int .i64 i)) (λi=>D x-i) 0 (by refine⟨dF _,Dt.symm,rfl⟩) ?_;intro vs ms aI aD;simp only[go_sem,go_sem_proc,ev,dv,fb,fc,bm,c3,bY,ah] at aI aD;subst aI aD;clear bm c3 bt bY w3 tm m;rintro i tm m Q hm ⟨Z,a5,bx⟩;simp only[go_sem,go_sem_proc,ev,dv,fb,fc,bj] at Q hm;obtain⟨bm,c3⟩:=Q;rcases dt (i<D x) with an|bB
    ·have d1:decide ((i:Int)<(D x:Int))=true:=c5;have bJ:=e1 (i:=i) (by omega);obtain⟨⟨⟨dz,dI⟩,⟨eo,eA⟩⟩,fF⟩:∃f,x[i]?=some f:=⟨_,bc an⟩;obtain⟨⟨⟨ch,dB⟩,⟨gu,iF⟩⟩,dg⟩:∃f,cap[i]?=some f:=⟨_,bc (by omega)⟩;obtain⟨⟨⟨bR,cz⟩,⟨er,eC⟩⟩,eI⟩:∃f,base[i]?=some f:=⟨_,bc (by omega)⟩;have fx:x.getD i bA=((dz,dI),(eo,eA)):=by rw[dG,fF];rfl
     have gc:cap.getD i bA=((ch,dB),(gu,iF)):=by rw[dG,dg];rfl
     have qR:base.getD i bA=((bR,cz),(er,eC)):=by rw[dG,eI];rfl
     have hq:=J.2 _ (cJ fF);have Ww:=ny _ (cJ dg);have KZ:=nz _ (cJ eI);have g1:(D x)-i=(D x-(i+1))+1:=by omega
     rw[g1] at a5;replace a5:=a5.trans (xu.eq_2 ..);rw[fx,gc,qR] at a5;have rE:=PO (ls:=ls) (x:=x) (to:=i) KZ;have bB:=WV bR cz er eC ls x i ⟨KZ,nA,J,λl ae _=>by have:=eY l ae;omega⟩
     have wT:=W3 (base:=((bR,cz),(er,eC))) (ls:=ls) (x:=x) (to:=i);have u0:=W4 (base:=((bR,cz),(er,eC))) (ls:=ls) (x:=x) (to:=i);generalize lI ((bR,cz),(er,eC)) ls x i=S at *;obtain⟨⟨⟨s1,s2⟩,⟨bS,bU⟩⟩,b⟩:=S;dsimp only at a5 bB rE wT u0;obtain⟨ft,hN⟩:=rE;obtain⟨ey,eR⟩:=hq;obtain⟨iw,mO⟩:=Ww;dsimp only at ft hN ey eR iw mO;rcases b
     ·simp only[eN,cC,if_false] at a5;rw[wT rfl] at bB;simp only[ar] at bB;rw[a5];refine af ?_;repeat' (intro (ag:_=_)<;>simp only[ag,go_sem,go_sem_proc,ev,dv,fb,fc,bm,c3,bx,hm,d1,bJ,fF,dg,eI,bB,ar,bA,bN,ah,bd]<;>try refine ab ?_ ?_)
     ·rw[u0 rfl] at bB;simp only[ar] at bB;rcases eX:decide (lC ((s1,s2),(bS,bU)) ((ch,dB),(gu,iF))>0)
      ·rw[eX] at a5;simp only[eZ,cC,if_false] at a5;rcases aS:(lC ((s1,s2),(bS,bU)) ((dz,dI),(eo,eA))==0)
       ·rw[aS] at a5;simp only[cC,if_false] at a5;rw[a5];refine af ?_;repeat' (intro (ag:_=_)<;>simp only[ag,go_sem,go_sem_proc,ev,dv,fb,fc,bm,c3,bx,hm,d1,bJ,fF,dg,eI,bB,eX,aS,ft,hN,ey,eR,iw,mO,ar,ah,bd,bne,db]<;>try refine ab ?_ ?_)
       ·rw[aS] at a5;simp only[if_true] at a5;refine af ?_;repeat' (intro (ag:_=_)<;>simp only[ag,go_sem,go_sem_proc,ev,dv,fb,fc,bm,c3,bx,hm,d1,bJ,fF,dg,eI,bB,eX,aS,ft,hN,ey,eR,iw,mO,ar,ah,bd,bne,cZ]<;>try refine ab ?_ ?_)
        exact⟨i+1,by omega,by omega,a5,rfl⟩
      ·rw[eX] at a5;simp only[eZ,if_true] at a5;rcases aS:(lC ((ch,dB),(gu,iF)) ((dz,dI),(eo,eA))==0)
       ·rw[aS] at a5;simp only[cC,if_false] at a5;rw[a5];refine af ?_;repeat' (intro (ag:_=_)<;>simp only[ag,go_sem,go_sem_proc,ev,dv,fb,fc,bm,c3,bx,hm,d1,bJ,fF,dg,eI,bB,eX,aS,ft,hN,ey,eR,iw,mO,ar,ah,bd,bne,db]<;>try refine ab ?_ ?_)
       ·rw[aS] at a5;simp only[if_true] at a5;refine af ?_;repeat' (intro (ag:_=_)<;>simp only[ag,go_sem,go_sem_proc,ev,dv,fb,fc,bm,c3,bx,hm,d1,bJ,fF,dg,eI,bB,eX,aS,ft,hN,ey,eR,iw,mO,ar,ah,bd,bne,cZ]<;>try refine ab ?_ ?_)
        exact⟨i+1,by omega,by omega,a5,rfl⟩
    ·have d1:decide ((i:Int)<(D x:Int))=false:=de;have hy:i=D x:=by omega
     subst hy;rw[hF] at a5;replace a5:=a5.trans (xu.eq_1 ..);rw[a5];refine af ?_;repeat' (intro (ag:_=_)<;>simp only[ag,go_sem,go_sem_proc,ev,dv,fb,fc,bm,c3,bx,hm,d1,ah]<;>try refine ab ?_ ?_)
def Qs:=bG w8 λ(rs,n)=>b8 (qK rs) (.same (.bool (nV rs n)))
@[go_sem] def aBR (rs n):=cj Qs rfl OC (rs,n) rfl
def atu (T:bg)(dv:T kY=aE uD):WF T agc Qs:=by
 refine b5 λ(rs,n)=>cn λU=>⟨rfl,b4 ?_⟩;simp only[agc,w8,bV];rcases F:decide (n<0)
 case true =>
  have L:nV rs n=false:=by unfold nV;rw[F];rfl
  rw[L];refine af ?_;repeat' (intro (ag:_=_)<;>simp only[ag,go_sem,go_sem_proc,dv,F,ah]<;>try refine ab ?_ ?_)
 rcases G:decide (n>40)
 case true =>
  have L:nV rs n=false:=by unfold nV;rw[F,G];rfl
  rw[L];refine af ?_;repeat' (intro (ag:_=_)<;>simp only[ag,go_sem,go_sem_proc,dv,F,G,ah]<;>try refine ab ?_ ?_)
 rcases aa:((D rs:Int)==n)
 case false =>
  have L:nV rs n=false:=by unfold nV;rw[F,G,aa];rfl
  rw[L];refine af ?_;repeat' (intro (ag:_=_)<;>simp only[ag,go_sem,go_sem_proc,dv,F,G,aa,ah,db,bne]<;>try refine ab ?_ ?_)
 have aA:n=D rs:=(beq_iff_eq.1 aa).symm;have ec:nV rs n = !(rs.any (nU n)):=by unfold nV;rw[F,G,aa];rfl
 have hc:(D rs)<=40:=by have:=of_decide_eq_false G;omega
 rw[ec];simp only[go_sem,go_sem_proc,dv,F,G,aa,ah,cZ,bne];refine cV [0,1] [] (λ(i:Nat) tm mem=>i<=D rs/\(∀r∈rs.take i,nU n r=false)/\tm 5=.I (.int .i64 i)) (λi=>D rs-i) 0 (by refine⟨dF _,by simp,rfl⟩) ?_;intro vs ms aI aD;simp only[go_sem,go_sem_proc,dv,ah] at aI aD;subst aI aD;rintro i tm mem Q-⟨Z,cX,bt⟩;simp only[go_sem,go_sem_proc,dv,bj] at Q;obtain⟨aq,tA⟩:=Q;rcases dt (i<D rs) with an|bB
 ·obtain⟨⟨A,⟨a,b⟩,⟨c,e⟩⟩,J⟩:∃f,rs[i]?=some f:=⟨_,bc an⟩;obtain⟨⟨jG,mE⟩,sY,nP⟩:=U.2 _ (cJ J);dsimp only at jG mE sY nP;have d1:decide ((i:Int)<n)=true:=c5;have bJ:=e1 (i:=i) (by omega)
  have jW:nU n (A,((a,b),(c,e)))=true->(!(rs.any (nU n)))=false:=λh=>by
   rw[DF.2 ⟨_,cJ J,h⟩];rfl
  rcases ae:((D A:Int)==n)
  ·rw[jW (by unfold nU;rw[ae];rfl)];refine af ?_;repeat' (intro (ag:_=_)<;>simp only[ag,go_sem,go_sem_proc,dv,aq,tA,bt,d1,J,ae,cE,ar,ah,bd,db,bne]<;>try refine ab ?_ ?_)
  rcases al:cy ((a,b),(c,e))
  ·rw[jW (by unfold nU;rw[ae,al];rfl)];refine af ?_;repeat' (intro (ag:_=_)<;>simp only[ag,go_sem,go_sem_proc,dv,aq,tA,bt,d1,J,ae,al,sY,nP,cE,ar,ah,bd,db,cZ,bne]<;>try refine ab ?_ ?_)
  have A1:(D A:Int)=n:=beq_iff_eq.1 ae;simp only[go_sem,go_sem_proc,dv,aq,tA,bt,d1,J,ae,al,sY,nP,cE,ar,ah,bd,db,cZ,bne];refine cV [0,1,5] [] (λ(k:Nat) tm mem=>k<=D A/\(∀f∈A.take k,pS f=false)/\tm 6=.I (.int .i64 k)) (λk=>D A-k) 0 (by refine⟨dF _,by simp,rfl⟩) ?_;intro vs ms aI aD;simp only[go_sem,go_sem_proc,dv,aq,tA,bt] at aI aD;subst aI aD;rintro k tm' mem' Q-⟨BE,W5,bx⟩;simp only[go_sem,go_sem_proc,dv,bj] at Q;obtain⟨ep,bm,c1⟩:=Q;rcases dt (k<D A) with UO|ao4
  ·obtain⟨⟨⟨u,v⟩,⟨x,y⟩⟩,ai⟩:∃f,A[k]?=some f:=⟨_,bc UO⟩;obtain⟨kq,jK⟩:=mE _ (cJ ai);dsimp only at kq jK;have d2:decide ((k:Int)<n)=true:=c5;have hs:=e1 (i:=k) (by omega);rcases aj:cy ((u,v),(x,y))
   ·rw[jW (by unfold nU;rw[ae,al,DF.2 ⟨_,cJ ai,by unfold pS;rw[aj];rfl⟩];rfl)];refine af ?_;repeat' (intro (ag:_=_)<;>simp only[ag,go_sem,go_sem_proc,dv,ep,bm,c1,bx,d2,J,ai,aj,kq,jK,cE,ar,ah,bd,db]<;>try refine ab ?_ ?_)
   ·simp only[go_sem,go_sem_proc,dv,ep,bm,c1,bx,d2,J,ai,aj,kq,jK,hs,cE,ar,ah,bd,cZ];exact⟨k+1,by omega,by omega,vm W5 ai (by unfold pS;rw[aj];rfl),rfl⟩
  ·have d2:decide ((k:Int)<n)=false:=de;rw[dE (by omega)] at W5;simp only[go_sem,go_sem_proc,dv,ep,bm,c1,bx,d2,bJ];exact⟨i+1,by omega,by omega,vm cX J (by unfold nU;rw[ae,al,sN.2 λf aj=>by rw[W5 f aj];simp];rfl),rfl⟩
 ·obtain rfl:i=D rs:=by omega
  have d1:decide ((D rs:Int)<n)=false:=de;rw[dE (by omega)] at cX;have:rs.any (nU n)=false:=sN.2 λr L=>by rw[cX r L];simp
  rw[this];simp only[go_sem,go_sem_proc,dv,aq,tA,bt,d1,db]
def iR (a lG b:av):av×Int:=if ((iC lG b).2==0)=true then kn a (iC lG b).1 else (bA,(iC lG b).2)
abbrev Qt:av×av×av->List Data:=λ(a,f,b)=>[.agg (ar a),.agg (ar f),.agg (ar b)]
def Qu:=bG Qt λ(a,f,b)=>b8 (okF a/\okF f/\okF b) (.same (cP (iR a f b)))
def atv:∀a b,Qt a=Qt b->a=b:=by
  rintro⟨dw,f1,bR⟩ ⟨dV,f2,cz⟩ h;simp only[bj,Data.agg.injEq] at h;exact cx (j1 _ _ h.1) (cx (j1 _ _ h.2.1) (j1 _ _ h.2.2.1))
@[go_sem] def agJ (a f b):=cj Qu rfl atv (a,f,b) rfl
def atw (T:bg)(vW:T IP=aE Lh)(p8:T IN=aE Lg):WF T agh Qu:=by
 refine b5 λ(a,f,b)=>cn λU=>⟨rfl,b4 ?_⟩;simp only[agh,Qt,bV];obtain⟨⟨dw,dV⟩,⟨f1,f2⟩,⟨bR,cz⟩⟩:=U;obtain⟨⟨s,l⟩,⟨s2,X⟩⟩:=a;obtain⟨⟨t,m⟩,⟨t2,bY⟩⟩:=f;obtain⟨⟨u,k⟩,⟨gH,c3⟩⟩:=b;dsimp only at dw dV f1 f2 bR cz;have a4:=OH ((t,m),(t2,bY)) ((u,k),(gH,c3));unfold iR;rcases ic:iC ((t,m),(t2,bY)) ((u,k),(gH,c3)) with ⟨⟨⟨kX,ni⟩,⟨rB,vw⟩⟩,zq⟩;rw[ic] at a4;obtain⟨kq,jK⟩:=a4;dsimp only at kq jK;rcases aP:(zq==0)
 ·simp only[go_sem,go_sem_proc,vW,p8,ic,dw,dV,f1,f2,bR,cz,aP,ar,cP,bA,bN,db,bne]
 ·simp only[go_sem,go_sem_proc,vW,p8,ic,dw,dV,f1,f2,bR,cz,kq,jK,aP,ar,cP,cZ,bne]
def atx {k bf i:Nat}{l:List b9}{a b c d e:H}(h:(D l)=i)(Z:i<=1000)(a4:[a,b,c,d,e].all H.one=true):lf k bf 5 i 88 1 [a,b,c,d,e] (some (bf,aQ cE l))=some (.ref k (bf+1) 5 0 (i+1),some (k,bf+1,aQ cE l++[a,b,c,d,e])):=by
 unfold lf;dsimp only;rw[aJ ⟨rfl,by rw[jU m6];omega,by omega,by unfold maxLen;omega,a4⟩,dE (by rw[jU m6];omega)]
def aty {l:List b9}{i:Nat}(h:(D l)=i)(x:H)(A:List av)(a:Int)(b:List Int)(c:Int)(d:List Int):
  (aQ cE l++[x,.I (.int .i64 a),.I (.ao (b.map aG)),.I (.int .i64 c),.I (.ao (d.map aG))]).set (i*5) (.I (.ao (A.map ar)))=aQ cE (l++[(A,((a,b),(c,d)))]):=by
 have ae:(aQ cE l).length=i*5:=by rw[jU m6,h]
 rw[Ay _ _ (by omega),ae,hF,qM];unfold aQ;rw[pT,List.flatten_append,pT]
 rfl
abbrev Qv:List b9->List Data:=λ(rs:List b9)=>[.ao (rs.map cE)]
def Qw:=bG Qv λ(rs:List b9)=>b8 (D rs<=1000/\qK rs) (.own 5 (rs.map cE))
def atz:∀a b,Qv a=Qv b->a=b:=by
  intro Oy Oz h;exact map_inj Aw _ _ (by simpa using h)
@[go_sem] def atA (rs):=cj Qw rfl atz rs rfl
def atB (T:bg):WF T agd Qw:=by
 refine b5 λrs=>cn λU=>⟨rfl,b4 ?_⟩;simp only[agd,Qv,bV];obtain⟨hc,U⟩:=U;simp only[go_sem,go_sem_proc,ah];refine cV [0] [] (λ((i,g):Nat×Nat) tm mem=>i<=D rs/\tm 4=.I (.int .i64 i)/\tm 3=.ref 199026 g 5 0 i/\mem 199026=some (g,aQ cE (rs.take i))) (λ(i,_)=>D rs-i) (0,0) (by refine⟨dF _,rfl,rfl,rfl⟩) ?_;intro vs ms aI aD;simp only[go_sem,go_sem_proc,ah] at aI aD;subst aI aD;rintro⟨i,g⟩ tm mem Q-⟨Z,aX,aa,Lw⟩;simp only[go_sem,go_sem_proc,bj] at Q;have aq:=Q;rcases dt (i<D rs) with an|bB
 ·obtain⟨⟨A,⟨a,b⟩,⟨c,e⟩⟩,J⟩:∃f,rs[i]?=some f:=⟨_,bc an⟩;obtain⟨⟨jG,mE⟩,sY,nP⟩:=U.2 _ (cJ J);dsimp only at jG mE sY nP;have d1:decide ((i:Int)<(D rs:Int))=true:=c5;have bJ:=e1 (i:=i) (by omega);have k5:(rs.take i).length=i:=by rw[gj];omega
  have cY:∀bf,lf 199012 bf 4 0 64 (D A) ((A.map ar).flatten.map .I) (some (bf,[]))=some (.ref 199012 (bf+1) 4 0 (D A),some (199012,bf+1,aQ ar A)):=λbf=>by
   have:=z0 jt vl 199012 bf 64 [] A (by simp;omega) (by simp;omega)
   simpa [aQ] using this
  have kT:=JY A;have Ln:=λ(x:H) (J:H.one x=true)=>atx (k:=199026) (bf:=g) (a:=x) (b:=.I (.int .i64 a)) (c:=.I (.ao (b.map aG))) (d:=.I (.int .i64 c)) (e:=.I (.ao (e.map aG))) k5 (by omega) (by simp only[u2,J];rfl);have atC:=λ(bf n:Nat)=>Ln (.ref 199012 bf 4 0 n) rfl;simp only[go_sem,go_sem_proc,aq,aa,aX,Lw,J,d1,cY,kT,atC,cE,ar,ah,bd];have atD:(aQ cE (rs.take i)).length=i*5:=by rw[jU m6,k5]
  refine ak4 199026 (i*5) 199012 (g:=gL (mem 199012)+1) (sz:=4) (off:=0) (len:=D A) (cs:=aQ ar A) (d:=.ao (A.map ar)) (by simp only[aT];rfl) (by rw[r4 (by omega),atD,hF];rfl) (by simp[aT]) (Sh _ _) (by decide) ?_ ?_
  ·exact jV (n:=0) jt (by simp[aT])
  ·have zL:=aty k5 (.ref 199012 (gL (mem 199012)+1) 4 0 (D A)) A a b c e;have J9:rs.take i++[(A,((a,b),(c,e)))]=rs.take (i+1):=by rw[hn,J];rfl
   rw[zL,J9];simp only[go_sem,go_sem_proc,aq,aa,aX,Lw,bJ];exact⟨(i+1,g+1),by dsimp only;omega,by dsimp only;omega,rfl,rfl,rfl⟩
 ·obtain rfl:i=D rs:=by omega
  have d1:decide ((D rs:Int)<(D rs:Int))=false:=de;rw[mB] at Lw;have hlen:(aQ cE rs).length=D rs*5:=jU m6 rs;simp only[go_sem,go_sem_proc,aq,aa,aX,Lw,d1,ah];unfold qy;dsimp only;rw[Lw];simp only[and_self,if_true];rw[aJ ⟨trivial,by omega⟩,dE (by omega)]
  unfold aQ;rw[z1 _ λd=>rfl];have:=z2 (sz:=5) (rs.map cE) (by intro x J;obtain⟨f,-,rfl⟩:=h7.1 J;rfl);rw[ah] at this;simp[this]
def ma {α:Type}(op:α->av×Int)(e:α->av):List α->List av×Bool
 | []=>([],true)
 |a::r=>if ((op a).2==0)=true then ((op a).1::(ma op e r).1,(ma op e r).2) else ((a::r).map e,false)
section
variable {α:Type} {op:α->av×Int} {e:α->av}
def Qx:∀{l:List α},(∀a∈l,(op a).2=0)->ma op e l=(l.map λa=>(op a).1,true)
 | [],_=>rfl
 |a::r,h=>by
  unfold ma;rw[aJ (by rw[h a lU];rfl),Qx λb R=>h b (uq _ R)]
  rfl
def W6:∀{l:List α} {k:Nat} {a:α},(∀a∈l.take k,(op a).2=0)->l[k]?=some a->((op a).2==0)=false->ma op e l=((l.take k).map (λa=>(op a).1)++(l.drop k).map e,false)
 | [],k,a,_,h,_=>by simp at h
 |b::r,0,a,_,h,aj=>by
  simp only[List.getElem?_cons_zero,bM] at h;subst h;unfold ma;rw[aj];simp
 |b::r,k+1,a,h,J,aj=>by
  have:=W6 (l:=r) (k:=k) (λc U=>h c (by rw[Ez];exact uq _ U)) (by simpa using J) aj;unfold ma;rw[aJ (by rw[h b (by rw[Ez];exact lU)];rfl),this];simp
def agK {l:List α}{k:Nat}{a:α}(h:l[k]?=some a):((l.take k).map (λa=>(op a).1)++(l.drop k).map e).set k (op a).1=(l.take (k+1)).map (λa=>(op a).1)++(l.drop (k+1)).map e:=by
 obtain⟨an,J⟩:=dK.1 h;have ae:((l.take k).map λa=>(op a).1).length=k:=by rw[ah,gj];omega
 rw[Ay _ _ (by omega),ae,hF,gw an,gZ,qM,hn,h,pT,ki]
 rfl
def agL {l:List α}{k:Nat}:((l.take k).map (λa=>(op a).1)++(l.drop k).map e).length=D l:=by
 rw[ks,ah,ah,gj,pG];omega
end
def iS (x:b9)(c:Nat):b9×Bool :=
 if (ma (λa=>fK a (x.1.getD c bA)) id x.1).2=true then (((ma (λa=>fK a (x.1.getD c bA)) id x.1).1,(fK x.2 (x.1.getD c bA)).1),(fK x.2 (x.1.getD c bA)).2==0)
 else (((ma (λa=>fK a (x.1.getD c bA)) id x.1).1,bA),false)
abbrev Qy:b9×Nat->List Data:=λ(x,c)=>[.agg (cE x),.int .i64 (x.1.length:Nat),.int .i64 c]
def Qz:=bG Qy λ(x,c)=>b8 (lD x/\x.1.length<=1000/\c<x.1.length) (.same (.dp [.agg (cE (iS x c).1),.bool (iS x c).2]))
def atE:∀a b,Qy a=Qy b->a=b:=by
  rintro⟨dz,ch⟩ ⟨dI,dB⟩ h;simp only[bj,Data.agg.injEq,Data.int.injEq] at h;exact cx (Aw _ _ h.1) (by have:=h.2.2.1.2;dsimp only;omega)
@[go_sem] def atF (x c):=cj Qz rfl atE (x,c) rfl
def atG (T:bg)(G5:T Nr=aE Qd):WF T age Qz:=by
 refine b5 λ(x,c)=>cn λU=>⟨rfl,b4 ?_⟩;simp only[age,Qy,bV];obtain⟨⟨⟨-,mE⟩,sY,nP⟩,hc,o4⟩:=U;obtain⟨A,⟨v1,v2⟩,⟨ff,v4⟩⟩:=x;dsimp only at mE sY nP hc o4 ⊢;obtain⟨⟨⟨bR,cz⟩,⟨er,eC⟩⟩,R⟩:∃f,A[c]?=some f:=⟨_,bc o4⟩;obtain⟨QA,QB⟩:=mE _ (cJ R);dsimp only at QA QB;have W7:A.getD c bA=((bR,cz),(er,eC)):=by rw[dG,R];rfl
 unfold iS;dsimp only;rw[W7]
 have cY:lf 200020 0 4 0 64 (D A) ((A.map ar).flatten.map .I) (some (0,[]))=some (.ref 200020 1 4 0 (D A),some (200020,1,aQ ar A)):=by
  have:=z0 jt vl 200020 0 64 [] A (by simp;omega) (by simp;omega)
  simpa [aQ] using this
 have kT:=JY A
 have ez:∀(eV:List av),D eV=(D A)->∀n (m:Mem),m 200020=some (1,aQ ar eV)->cL (n+1) m (.ref 200020 1 4 0 (D A))=some (.ao (eV.map ar)):=λeV gz n m hm=>by
  have:=jV (n:=n) jt hm;rw[gz] at this;exact this
 simp only[go_sem,go_sem_proc,G5,R,o4,cY,kT,cE,ar,aG,ah,bd];refine cV [1,3,6,8,9] [200003,200006,200008,200009] (λ(k:Nat) tm mem=>k<=D A/\(∀a∈A.take k,(fK a ((bR,cz),(er,eC))).2=0)/\tm 10=.I (.int .i64 k)/\mem 200020=some (1,aQ ar ((A.take k).map (λa=>(fK a ((bR,cz),(er,eC))).1)++(A.drop k).map id))) (λk=>D A-k) 0 (by refine⟨dF _,by simp,rfl,?_⟩;simp[aT]) ?_;intro vs ms aI aD;simp only[go_sem,go_sem_proc,G5,cE,ar] at aI aD;subst aI aD;rintro k tm mem Q hm ⟨atH,cX,dy,DK⟩;simp only[go_sem,go_sem_proc,G5,bj] at Q hm;obtain⟨F,aa,bx,ca,dh⟩:=Q;obtain⟨fI,gA,g2,W8⟩:=hm;rcases dt (k<D A) with an|bB
 ·obtain⟨⟨⟨dw,dV⟩,⟨hQ,jf⟩⟩,J⟩:∃f,A[k]?=some f:=⟨_,bc an⟩;obtain⟨kq,jK⟩:=mE _ (cJ J);dsimp only at kq jK;have d1:decide ((k:Int)<(D A:Int))=true:=c5;have bJ:=e1 (i:=k) (by omega);rcases ic:fK ((dw,dV),(hQ,jf)) ((bR,cz),(er,eC)) with ⟨⟨⟨kX,ni⟩,⟨rB,vw⟩⟩,zq⟩;have gz:=agL (op:=λa=>fK a ((bR,cz),(er,eC))) (e:=id) (l:=A) (k:=k);rcases aP:(zq==0)
  ·have hu:=W6 (op:=λa=>fK a ((bR,cz),(er,eC))) (e:=id) cX J (by rw[ic];exact aP);rw[hu];simp only[go_sem,go_sem_proc,G5,F,aa,bx,ca,dh,dy,fI,gA,g2,W8,DK,d1,J,kq,jK,QA,QB,ic,aP,cE,ar,cP,bA,bN,ah,bd,db,bne];rw[ez _ gz 3 _ (by simp[aT,DK])]
   rfl
  ·have wR:zq=0:=beq_iff_eq.1 aP;subst wR;have tx:=agK (op:=λa=>fK a ((bR,cz),(er,eC))) (e:=id) J;rw[ic] at tx;have kK:k<((A.take k).map (λa=>(fK a ((bR,cz),(er,eC))).1)++(A.drop k).map id).length:=by rw[gz];exact an
   have df:=yY kK kX ni rB vw;rw[tx] at df;have A1:=ui kK;simp only[go_sem,go_sem_proc,G5,F,aa,bx,ca,dh,dy,fI,gA,g2,W8,DK,d1,bJ,an,J,kq,jK,QA,QB,ic,df,A1,cE,ar,cP,ah,bd,beq_self_eq_true,cZ,bne]
   exact⟨k+1,by omega,by omega,λa ba=>by
    rw[hn,J,h5] at ba;rcases ba with ba|ba
    ·exact cX a ba
    ·simp at ba;rw[ba,ic],rfl,rfl⟩
 ·obtain rfl:k=D A:=by omega
  have d1:decide ((D A:Int)<(D A:Int))=false:=de;rw[mB] at cX DK;have hu:=Qx (op:=λa=>fK a ((bR,cz),(er,eC))) (e:=id) cX;rw[hu];rw[List.drop_length,bN,mX] at DK;rcases ic:fK ((v1,v2),(ff,v4)) ((bR,cz),(er,eC)) with ⟨⟨⟨kX,ni⟩,⟨rB,vw⟩⟩,zq⟩;simp only[go_sem,go_sem_proc,G5,F,aa,bx,ca,dh,dy,fI,gA,g2,W8,DK,d1,sY,nP,QA,QB,ic,cE,ar,cP,ah];rw[ez (A.map λa=>(fK a ((bR,cz),(er,eC))).1) (by simp) 3 _ (by simp[aT,DK])]
  rfl
def pr (x y:b9)(c:Nat):b9×Bool :=
 if (ma (λa:av×av=>iR a.1 (x.1.getD c bA) a.2) nt (x.1.zip y.1)).2=true then (((ma (λa:av×av=>iR a.1 (x.1.getD c bA) a.2) nt (x.1.zip y.1)).1,(iR x.2 (x.1.getD c bA) y.2).1),(iR x.2 (x.1.getD c bA) y.2).2==0)
 else (((ma (λa:av×av=>iR a.1 (x.1.getD c bA) a.2) nt (x.1.zip y.1)).1,bA),false)
def agM (a f b:av):okF (iR a f b).1:=by
 unfold iR
 split
 ·exact FP _ _
 ·exact o2
def zip_fst {l m:List av}(h:(D l)=D m):(l.zip m).map nt=l:=by
 rw[List.map_fst_zip (by omega)]
abbrev QC:b9×b9×Nat->List Data:=λ(x,y,c)=>[.agg (cE x),.agg (cE y),.int .i64 (x.1.length:Nat),.int .i64 c]
def Lx:=bG QC λ(x,y,c)=>b8 (lD x/\lD y/\x.1.length<=1000/\y.1.length=x.1.length/\c<x.1.length) (.same (.dp [.agg (cE (pr x y c).1),.bool (pr x y c).2]))
def atI:∀a b,QC a=QC b->a=b:=by
  rintro⟨dz,og,ch⟩ ⟨dI,qC,dB⟩ h;simp only[bj,Data.agg.injEq,Data.int.injEq] at h;exact cx (Aw _ _ h.1) (cx (Aw _ _ h.2.1) (by have:=h.2.2.2.1.2;dsimp only;omega))
@[go_sem] def atJ (x y c):=cj Lx rfl atI (x,y,c) rfl
def atK (T:bg)(G6:T Ns=aE Qu):WF T agf Lx:=by
 refine b5 λ(x,y,c)=>cn λU=>⟨rfl,b4 ?_⟩;simp only[agf,QC,bV];obtain⟨⟨⟨-,mE⟩,sY,nP⟩,⟨⟨-,agN⟩,agO,agP⟩,hc,QD,o4⟩:=U;obtain⟨A,⟨v1,v2⟩,⟨ff,v4⟩⟩:=x;obtain⟨B,⟨jn,gH⟩,⟨sV,um⟩⟩:=y;dsimp only at mE sY nP agN agO agP hc QD o4 ⊢;obtain⟨⟨⟨bR,cz⟩,⟨er,eC⟩⟩,R⟩:∃f,A[c]?=some f:=⟨_,bc o4⟩;have agQ:=mE _ (cJ R);have W7:A.getD c bA=((bR,cz),(er,eC)):=by rw[dG,R];rfl
 unfold pr;dsimp only;rw[W7];have agR:(A.zip B).length=D A:=by rw[agS];omega
 have cY:lf 201022 0 4 0 64 (D A) ((A.map ar).flatten.map .I) (some (0,[]))=some (.ref 201022 1 4 0 (D A),some (201022,1,aQ ar A)):=by
  have:=z0 jt vl 201022 0 64 [] A (by simp;omega) (by simp;omega)
  simpa [aQ] using this
 have kT:=JY A
 have ez:∀(eV:List av),D eV=(D A)->∀n (m:Mem),m 201022=some (1,aQ ar eV)->cL (n+1) m (.ref 201022 1 4 0 (D A))=some (.ao (eV.map ar)):=λeV gz n m hm=>by
  have:=jV (n:=n) jt hm;rw[gz] at this;exact this
 simp only[go_sem,go_sem_proc,G6,R,o4,cY,kT,cE,ar,aG,ah,bd];refine cV [2,4,5,8,10,11] [201004,201005,201008,201010,201011] (λ(k:Nat) tm mem=>k<=D A/\(∀a∈(A.zip B).take k,(iR a.1 ((bR,cz),(er,eC)) a.2).2=0)/\tm 12=.I (.int .i64 k)/\mem 201022=some (1,aQ ar (((A.zip B).take k).map (λa=>(iR a.1 ((bR,cz),(er,eC)) a.2).1)++((A.zip B).drop k).map nt))) (λk=>D A-k) 0 (by refine⟨dF _,by simp,rfl,?_⟩;simp only[List.take_zero,List.drop_zero,bN,List.nil_append,zip_fst QD.symm];simp[aT]) ?_;intro vs ms aI aD;simp only[go_sem,go_sem_proc,G6,cE,ar] at aI aD;subst aI aD;rintro k tm mem Q hm ⟨atH,cX,eH,te⟩;simp only[go_sem,go_sem_proc,G6,bj] at Q hm;obtain⟨G,aX,bt,ca,dy,dW⟩:=Q;obtain⟨fs,hd,g2,ij,W9⟩:=hm;rcases dt (k<D A) with an|bB
 ·obtain⟨⟨⟨dw,dV⟩,⟨hQ,jf⟩⟩,J⟩:∃f,A[k]?=some f:=⟨_,bc an⟩;obtain⟨⟨⟨ch,dB⟩,⟨gu,iF⟩⟩,ai⟩:∃f,B[k]?=some f:=⟨_,bc (by omega)⟩;have WX:=mE _ (cJ J);have atL:=agN _ (cJ ai);have a0:(A.zip B)[k]?=some (((dw,dV),(hQ,jf)),((ch,dB),(gu,iF))):=by rw[List.getElem?_zip_eq_some];exact⟨J,ai⟩
  have d1:decide ((k:Int)<(D A:Int))=true:=c5;have bJ:=e1 (i:=k) (by omega);have vy:=agJ ((dw,dV),(hQ,jf)) ((bR,cz),(er,eC)) ((ch,dB),(gu,iF)) ⟨WX,agQ,atL⟩;rcases ic:iR ((dw,dV),(hQ,jf)) ((bR,cz),(er,eC)) ((ch,dB),(gu,iF)) with ⟨⟨⟨kX,ni⟩,⟨rB,vw⟩⟩,zq⟩;rw[ic] at vy;simp only[ar,cP] at vy;have gz:=agL (op:=λa:av×av=>iR a.1 ((bR,cz),(er,eC)) a.2) (e:=nt) (l:=A.zip B) (k:=k);rw[agR] at gz;rcases aP:(zq==0)
  ·have hu:=W6 (op:=λa:av×av=>iR a.1 ((bR,cz),(er,eC)) a.2) (e:=nt) cX a0 (by dsimp only;rw[ic];exact aP);rw[hu];simp only[go_sem,go_sem_proc,G6,G,aX,bt,ca,dy,dW,eH,fs,hd,g2,ij,W9,te,d1,J,ai,vy,aP,cE,ar,cP,bA,bN,ah,bd,db,bne];rw[ez _ gz 3 _ (by simp[aT,te])]
   rfl
  ·have wR:zq=0:=beq_iff_eq.1 aP;subst wR;have tx:=agK (op:=λa:av×av=>iR a.1 ((bR,cz),(er,eC)) a.2) (e:=nt) a0;dsimp only at tx;rw[ic] at tx;have kK:k<(((A.zip B).take k).map (λa=>(iR a.1 ((bR,cz),(er,eC)) a.2).1)++((A.zip B).drop k).map nt).length:=by rw[gz];exact an
   have df:=yY kK kX ni rB vw;rw[tx] at df;have A1:=ui kK;simp only[go_sem,go_sem_proc,G6,G,aX,bt,ca,dy,dW,eH,fs,hd,g2,ij,W9,te,d1,bJ,an,J,ai,vy,df,A1,cE,ar,cP,ah,bd,beq_self_eq_true,cZ,bne]
   exact⟨k+1,by omega,by omega,λa ba=>by
    rw[hn,a0,h5] at ba;rcases ba with ba|ba
    ·exact cX a ba
    ·simp at ba;rw[ba,ic],rfl,rfl⟩
 ·obtain rfl:k=D A:=by omega
  have d1:decide ((D A:Int)<(D A:Int))=false:=de;have oq:(A.zip B).take (D A)=A.zip B:=dE (by omega);have tR:(A.zip B).drop (D A)=[]:=lj (by omega);rw[oq] at cX;rw[oq,tR,bN,mX] at te;have hu:=Qx (op:=λa:av×av=>iR a.1 ((bR,cz),(er,eC)) a.2) (e:=nt) cX;rw[hu];have vy:=agJ ((v1,v2),(ff,v4)) ((bR,cz),(er,eC)) ((jn,gH),(sV,um)) ⟨⟨sY,nP⟩,agQ,⟨agO,agP⟩⟩;rcases ic:iR ((v1,v2),(ff,v4)) ((bR,cz),(er,eC)) ((jn,gH),(sV,um)) with ⟨⟨⟨kX,ni⟩,⟨rB,vw⟩⟩,zq⟩;rw[ic] at vy;simp only[ar,cP] at vy;simp only[go_sem,go_sem_proc,G6,G,aX,bt,ca,dy,dW,eH,fs,hd,g2,ij,W9,te,d1,vy,cE,ar,cP,ah];rw[ez ((A.zip B).map λa=>(iR a.1 ((bR,cz),(er,eC)) a.2).1) (by rw[ah];exact agR) 3 _ (by simp[aT,te])]
  rfl
def il (x:b9)(c:Nat):av:=x.1.getD c bA
def fS (rows:List b9)(r c:Nat):Nat:=r+(rows.drop r).findIdx λx => !hO (il x c)
def qW (rows:List b9)(i:Nat):b9:=rows.getD i ([],bA)
def g5 (p:b9)(r c:Nat):Nat->List b9->List b9×Bool
 |_,[]=>([],true)
 |i,x::xs=>if (i==r||hO (il x c))=true then (x::(g5 p r c (i+1) xs).1,(g5 p r c (i+1) xs).2)
  else if (pr x p c).2=true then ((pr x p c).1::(g5 p r c (i+1) xs).1,(g5 p r c (i+1) xs).2) else (x::xs,false)
def lL (rows:List b9)(i j:Nat):List b9:=(rows.set i (qW rows j)).set j (qW rows i)
def nd (stop:Bool):Nat->Nat->List b9->Nat->List Nat->List b9×List Nat×Bool
 |0,_,rows,_,free=>(rows,free,true)
 |k+1,c,rows,r,free =>
  if fS rows r c=(D rows) then (if stop=true then (rows,free++[c],true) else nd stop k (c+1) rows r (free++[c]))
  else if (iS (qW (lL rows r (fS rows r c)) r) c).2=true then
   (if (g5 (iS (qW (lL rows r (fS rows r c)) r) c).1 r c 0 ((lL rows r (fS rows r c)).set r (iS (qW (lL rows r (fS rows r c)) r) c).1)).2=true then
    nd stop k (c+1) (g5 (iS (qW (lL rows r (fS rows r c)) r) c).1 r c 0 ((lL rows r (fS rows r c)).set r (iS (qW (lL rows r (fS rows r c)) r) c).1)).1 (r+1) free
   else ((g5 (iS (qW (lL rows r (fS rows r c)) r) c).1 r c 0 ((lL rows r (fS rows r c)).set r (iS (qW (lL rows r (fS rows r c)) r) c).1)).1,free,false))
  else (lL rows r (fS rows r c),free,false)
def ps (N:Nat)(rows:List b9):Prop:=D rows=N/\∀x∈rows,x.1.length=N/\lD x
def atM {rows:List b9}{r c i:Nat}{x:b9}(J:rows[i]?=some x)(L:r<=i)(a0:∀j y,r<=j->j<i->rows[j]?=some y->hO (il y c)=true)(h:hO (il x c)=false):fS rows r c=i:=by
 unfold fS;obtain⟨an,fF⟩:=dK.1 J
 have:(rows.drop r).findIdx (λx => !hO (il x c))=i-r:=by
  rw[List.findIdx_eq (by rw[pG];omega)];refine⟨?_,λj Y=>?_⟩
  ·rw[JM];have:rows[r+(i-r)]?=some x:=by rw[show r+(i-r)=i by omega];exact J
   rw[(dK.1 this).2,h];rfl
  ·rw[JM];have:=a0 (r+j) _ (by omega) (by omega) (bc (by omega));rw[this];rfl
 omega
def atN {rows:List b9}{r c:Nat}(L:r<=D rows)(a0:∀j y,r<=j->rows[j]?=some y->hO (il y c)=true):fS rows r c=D rows:=by
 unfold fS
 have:(rows.drop r).findIdx (λx => !hO (il x c))=(rows.drop r).length:=by
  rw[List.findIdx_eq_length];intro y ai;obtain⟨j,Y⟩:=List.mem_iff_getElem?.1 ai;rw[oI] at Y;rw[a0 (r+j) y (by omega) Y];rfl
 rw[this,pG];omega
def A5 {rows:List b9}{i:Nat}{x:b9}(h:rows[i]?=some x):qW rows i=x:=by
 unfold qW;rw[dG,h];rfl
def agT {x:b9}{c:Nat}{f:av}(h:x.1[c]?=some f):il x c=f:=by
 unfold il;rw[dG,h];rfl
def G7 {l:List b9}{k:Nat}(h:k<D l):(k*5+5<=(aQ cE l).length)=True:=eq_true (by rw[jU m6];omega)
def agU {l:List b9}{k:Nat}(h:k<D l):(k*5+1<=(aQ cE l).length)=True:=eq_true (by rw[jU m6];omega)
def QE {l:List b9}{k:Nat}(h:k<D l)(A:List av)(a:Int)(b:List Int)(c:Int)(d:List Int):
  mZ (k*5) (aQ cE l)++[H.I (.ao (A.map ar)),H.I (.int .i64 a),.I (.ao (b.map aG)),.I (.int .i64 c),.I (.ao (d.map aG))]++nL (k*5+5) (aQ cE l)=aQ cE (l.set k (A,((a,b),(c,d)))):=by
 rw[<-Nc m6 h]
 rfl
def G8 {l:List b9}{k:Nat}{A a b c d}(h:l[k]?=some (A,((a,b),(c,d)))):mZ 5 (nL (k*5) (aQ cE l))=[H.I (.ao (A.map ar)),H.I (.int .i64 a),.I (.ao (b.map aG)),.I (.int .i64 c),.I (.ao (d.map aG))]:=by
 have ra:=EE m6 h (f:=0) (n:=5) (by omega);unfold cut at ra;rw[aJ (by rw[jU m6];have:=(dK.1 h).1;omega)] at ra;exact mm ra
def agV {l:List b9}{k:Nat}{A a b c d}(h:l[k]?=some (A,((a,b),(c,d)))):mZ 1 (nL (k*5) (aQ cE l))=[H.I (.ao (A.map ar))]:=by
 have:=congrArg (mZ 1) (G8 h);rw[List.take_take] at this;exact this
def QF {K:a6->Prop}{tm:Nat->H}{m:Mem}(P:(Nat->H)->Mem->Prop)(aq:P tm m)(h:∀tm m,P tm m->K ⟨tm,m⟩):lh K ⟨tm,m⟩ .move:=ak2 (h tm m aq)
def Xa {α:Type}{op:α->av×Int}{e:α->av}:∀l:List α,(ma op e l).1.length=D l
 | []=>rfl
 |a::r=>by
  unfold ma
  split
  ·simp[Xa r]
  ·simp
def Xb {α:Type}{op:α->av×Int}{e:α->av}(F:∀a,okF (op a).1):∀l:List α,(∀a∈l,okF (e a))->∀f∈(ma op e l).1,okF f
 | [],_,f,aj=>by simp[ma] at aj
 |a::r,h,f,aj=>by
  unfold ma at aj
  split at aj
  ·rcases kt.1 aj with rfl|aj
   ·exact F a
   ·exact Xb F r (λb R=>h b (uq _ R)) f aj
  ·obtain⟨b,R,rfl⟩:=h7.1 aj;exact h b R
def Xc {N:Nat}{x:b9}(h:x.1.length=N/\lD x)(c:Nat):(iS x c).1.1.length=N/\lD (iS x c).1:=by
 obtain⟨ae,⟨CO,Xd⟩,oR⟩:=h;have F:∀f∈(ma (λa=>fK a (x.1.getD c bA)) id x.1).1,okF f:=Xb (λa=>OI _ _) x.1 Xd;have G:=Xa (op:=λa=>fK a (x.1.getD c bA)) (e:=id) x.1;unfold iS
 split
 ·exact⟨by dsimp only;omega,⟨⟨by dsimp only;omega,F⟩,OI _ _⟩⟩
 ·exact⟨by dsimp only;omega,⟨⟨by dsimp only;omega,F⟩,o2⟩⟩
def agW {N:Nat}{x y:b9}(h:x.1.length=N/\lD x)(ai:y.1.length=N)(c:Nat):(pr x y c).1.1.length=N/\lD (pr x y c).1:=by
 obtain⟨ae,⟨CO,Xd⟩,oR⟩:=h;have a0:(x.1.zip y.1).length=N:=by rw[agS];omega
 have F:∀f∈(ma (λa:av×av=>iR a.1 (x.1.getD c bA) a.2) nt (x.1.zip y.1)).1,okF f:=Xb (λa=>agM _ _ _) _ λa ba=>Xd _ (List.of_mem_zip ba).1;have G:=Xa (op:=λa:av×av=>iR a.1 (x.1.getD c bA) a.2) (e:=nt) (x.1.zip y.1);unfold pr
 split
 ·exact⟨by dsimp only;omega,⟨⟨by dsimp only;omega,F⟩,agM _ _ _⟩⟩
 ·exact⟨by dsimp only;omega,⟨⟨by dsimp only;omega,F⟩,o2⟩⟩
def Ly {N:Nat}{p:b9}{r c:Nat}(aP:p.1.length=N):∀(i:Nat) (l:List b9),(∀x∈l,x.1.length=N/\lD x)->(g5 p r c i l).1.length=D l/\∀x∈(g5 p r c i l).1,x.1.length=N/\lD x
 |_,[],h=>⟨rfl,h⟩
 |i,x::xs,h=>by
  obtain⟨i1,i2⟩:=Ly (r:=r) (c:=c) aP (i+1) xs λy ai=>h y (uq _ ai);unfold g5
  split
  ·refine⟨by simp[i1],λy ai=>?_⟩
   rcases kt.1 ai with rfl|ai
   ·exact h _ lU
   ·exact i2 y ai
  ·split
   ·refine⟨by simp[i1],λy ai=>?_⟩
    rcases kt.1 ai with rfl|ai
    ·exact agW (h _ lU) aP c
    ·exact i2 y ai
   ·exact⟨rfl,h⟩
def ps.set {N:Nat}{rows:List b9}(h:ps N rows){i:Nat}{x:b9}(J:x.1.length=N/\lD x):ps N (rows.set i x):=by
 refine⟨by rw[fj];exact h.1,λy ai=>?_⟩
 rcases nW ai with ai|rfl
 ·exact h.2 y ai
 ·exact J
def agX {p x:b9}{r c i:Nat}{xs:List b9}(h:(i==r||hO (il x c))=true):g5 p r c i (x::xs)=(x::(g5 p r c (i+1) xs).1,(g5 p r c (i+1) xs).2):=by rw[g5,aJ h]
def agY {p x:b9}{r c i:Nat}{xs:List b9}(h:¬ ((i==r||hO (il x c))=true))(G:(pr x p c).2=true):g5 p r c i (x::xs)=((pr x p c).1::(g5 p r c (i+1) xs).1,(g5 p r c (i+1) xs).2):=by rw[g5,aR h,aJ G]
def agZ {p x:b9}{r c i:Nat}{xs:List b9}(h:¬ ((i==r||hO (il x c))=true))(G:(pr x p c).2=false):g5 p r c i (x::xs)=(x::xs,false):=by rw[g5,aR h,aR (by rw[G];simp)]
def atO (T:bg)(gV:T EL=aE GU){K:fC->a6->Prop}{kg:List iY}(N g r c:Nat)(rows:List b9)(stop:Bool)(v10:H)(dx:ps N rows)(L:r<=N)(U:c<N)(hc:N<=40)(tm:Nat->H)(m:Mem)
  (aO:tm 1=.I (.int .i64 N)) (ax:tm 2=.I (.bool stop)) (wU:tm 9=.ref 194021 g 5 0 N) (AZ:tm 10=v10) (Lz:tm 11=.I (.int .i64 r)) (wV:tm 12=.I (.int .i64 c)) (JO:tm 13=.I (.int .i64 r)) (em:m 194021=some (g,aQ cE rows))
  (eh:∀tm',tm' 1=.I (.int .i64 N)->tm' 2=.I (.bool stop)->tm' 9=.ref 194021 g 5 0 N->tm' 10=v10->tm' 11=.I (.int .i64 r)->tm' 12=.I (.int .i64 c)->tm' 13=.I (.int .i64 (fS rows r c:Nat))->cM T K kg (.exit 2) ⟨tm',m⟩) :
  wp T (GS.body.td [1,1,1,1,0,1,0,0,0,1,0,0,1,0,0]) (cM T K kg) ⟨tm,m⟩:=by
 simp only[GS,e0.td];refine cV [1,2,9,10,11,12] [] (λ(i:Nat) tm' m'=>r<=i/\i<=N/\(∀j y,r<=j->j<i->rows[j]?=some y->hO (il y c)=true)/\tm' 13=.I (.int .i64 i)/\m'=m) (λi=>N-i) r (by refine⟨c8 _,L,λj y F G=>by omega,JO,rfl⟩) ?_;intro vs ms aI aD;simp only[go_sem,go_sem_proc,aO,ax,wU,AZ,Lz,wV] at aI aD;subst aI aD;clear aO ax wU AZ Lz wV JO tm;rintro i tm m' Q-⟨wv,JU,a0,jb,rfl⟩;simp only[go_sem,go_sem_proc,bj] at Q;obtain⟨F,G,dh,dy,dW,eH⟩:=Q;have ae:=dx.1;rcases dt (i<N) with an|bB
 ·obtain⟨⟨A,⟨v1,v2⟩,⟨ff,v4⟩⟩,J⟩:∃x,rows[i]?=some x:=⟨_,bc (by omega)⟩;obtain⟨jG,-⟩:=dx.2 _ (cJ J);dsimp only at jG;obtain⟨⟨⟨f1,f2⟩,⟨f3,f4⟩⟩,aj⟩:∃f,A[c]?=some f:=⟨_,bc (by omega)⟩;have n5:il (A,((v1,v2),(ff,v4))) c=((f1,f2),(f3,f4)):=agT aj;have rp:=agV J;have r8:=agU (l:=rows) (k:=i) (by omega);have d1:decide ((i:Int)<(N:Int))=true:=c5;have DL:c<D A:=by omega
  have bJ:=e1 (i:=i) (by omega);rcases lW:(f1==0)
  ·have JW:fS rows r c=i:=atM J wv a0 (by rw[n5];exact lW);rw[JW] at eh;simp only[go_sem,go_sem_proc,gV,F,G,dh,dy,dW,eH,jb,em,d1,an,rp,r8,aj,DL,lW,ar,ah,bd,lo];refine eh _ ?_ ?_ ?_ ?_ ?_ ?_ ?_<;>simp only[q3,sW,if_false,F,G,dh,dy,dW,eH,jb]
  ·simp only[go_sem,go_sem_proc,gV,F,G,dh,dy,dW,eH,jb,em,d1,bJ,an,rp,r8,aj,DL,lW,ar,ah,bd,lo];refine⟨i+1,by omega,by omega,by omega,λj y F G ai=>?_,rfl⟩
   rcases gX j i with h|h
   ·exact a0 j y F h ai
   ·obtain rfl:j=i:=by omega
    rw[J] at ai
    cases ai;rw[n5];exact lW
 ·obtain rfl:i=N:=by omega
  have d1:decide ((i:Int)<(i:Int))=false:=de;have JW:fS rows r c=i:=by rw[atN (by omega) λj y F ai=>a0 j y F (by have:=(dK.1 ai).1;omega) ai,ae]
  rw[JW] at eh;simp only[go_sem,go_sem_proc,F,G,dh,dy,dW,eH,jb,em,d1];refine eh _ ?_ ?_ ?_ ?_ ?_ ?_ ?_<;>simp only[q3,sW,if_false,F,G,dh,dy,dW,eH,jb]
def atP (T:bg)(gV:T EL=aE GU)(hU:T Nq=aE Lx){K:fC->a6->Prop}{kg:List iY}(N g r c:Nat)(eB:List b9)(p:b9)(stop:Bool)(v10:H)(Xe:Option (Nat×List H))(dx:ps N eB)(aP:eB[r]?=some p)(U:c<N)(hc:N<=40)(tm:Nat->H)(m:Mem)
  (aO:tm 1=.I (.int .i64 N)) (ax:tm 2=.I (.bool stop)) (wU:tm 9=.ref 194021 g 5 0 N) (AZ:tm 10=v10) (Lz:tm 11=.I (.int .i64 r)) (wV:tm 12=.I (.int .i64 c)) (J1:tm 17=.I (.int .i64 0)) (em:m 194021=some (g,aQ cE eB)) (ag0:m 194050=Xe)
  (eh:(g5 p r c 0 eB).2=true->∀tm' m',tm' 1=.I (.int .i64 N)->tm' 2=.I (.bool stop)->tm' 9=.ref 194021 g 5 0 N->tm' 10=v10->tm' 11=.I (.int .i64 r)->tm' 12=.I (.int .i64 c)->m' 194021=some (g,aQ cE (g5 p r c 0 eB).1)->m' 194050=Xe->cM T K kg (.exit 4) ⟨tm',m'⟩)
  (ej:(g5 p r c 0 eB).2=false->∀tm' m',tm' 6=.ref 194021 g 5 0 N->tm' 7=v10->tm' 8=.I (.bool false)->m' 194021=some (g,aQ cE (g5 p r c 0 eB).1)->m' 194050=Xe->cM T K kg .ret ⟨tm',m'⟩) :
  wp T (GS.body.td [1,1,1,1,0,1,0,0,0,1,0,0,1,1,1,1,1,1,1,1,1,0,1,0]) (cM T K kg) ⟨tm,m⟩:=by
 simp only[GS,e0.td];refine cV [1,2,9,10,11,12] [194050] (λ((i,pre):Nat×List b9) tm' m'=>i<=N/\D pre=i/\(∀x∈pre,x.1.length=N/\lD x)/\(r<i->pre[r]?=some p)/\g5 p r c 0 eB=(pre++(g5 p r c i (eB.drop i)).1,(g5 p r c i (eB.drop i)).2)/\tm' 17=.I (.int .i64 i)/\m' 194021=some (g,aQ cE (pre++eB.drop i))) (λ(i,_)=>N-i) (0,[]) (by refine⟨dF _,rfl,by simp,λh=>by omega,by simp,J1,by simpa using em⟩) ?_;intro vs ms aI aD;simp only[go_sem,go_sem_proc,aO,ax,wU,AZ,Lz,wV,ag0] at aI aD;subst aI aD;clear aO ax wU AZ Lz wV J1 em ag0 tm m;rintro⟨i,pre⟩ tm m Q hm ⟨JU,ix,yD,zr,G9,h0,qJ⟩;simp only[go_sem,go_sem_proc,bj] at Q hm;obtain⟨F,G,dh,dy,dW,eH⟩:=Q;have ae:=dx.1;rcases dt (i<N) with an|bB
 ·obtain⟨⟨A,⟨v1,v2⟩,⟨ff,v4⟩⟩,J⟩:∃x,eB[i]?=some x:=⟨_,bc (by omega)⟩;obtain⟨jG,mE⟩:=dx.2 _ (cJ J);dsimp only at jG
  have k3:eB.drop i=(A,((v1,v2),(ff,v4)))::eB.drop (i+1):=by
   obtain⟨nD,e⟩:=dK.1 J;rw[gw nD,e]
  have zk:(pre++eB.drop i)[i]?=some (A,((v1,v2),(ff,v4))):=by rw[r4 (by omega),ix,hF,k3];rfl
  have ea:(pre++eB.drop i).length=N:=by rw[ks,pG];omega
  have d1:decide ((i:Int)<(N:Int))=true:=c5;have bJ:=e1 (i:=i) (by omega)
  have AG:(i==r||hO (il (A,((v1,v2),(ff,v4))) c))=true->∃a1:Nat×List b9,N-a1.1<N-i/\a1.1<=N/\a1.2.length=a1.1/\(∀x∈a1.2,x.1.length=N/\lD x)/\(r<a1.1->a1.2[r]?=some p)/\g5 p r c 0 eB=(a1.2++(g5 p r c a1.1 (eB.drop a1.1)).1,(g5 p r c a1.1 (eB.drop a1.1)).2)/\H.I (.int .i64 ((i+1:Nat):Int))=H.I (.int .i64 (a1.1:Nat))/\some (g,aQ cE (pre++eB.drop i))=some (g,aQ cE (a1.2++eB.drop a1.1)):=by
   intro O;refine⟨(i+1,pre++[(A,((v1,v2),(ff,v4)))]),by dsimp only;omega,by dsimp only;omega,by simp[ix],λx oO=>?_,λh=>?_,?_,rfl,?_⟩
   ·rcases h5.1 oO with h|h
    ·exact yD x h
    ·rw[sE] at h;rw[h];exact⟨jG,mE⟩
   ·dsimp only at h ⊢;rcases gX r i with cG|cG
    ·rw[uP (by omega)];exact zr cG
    ·obtain rfl:r=i:=by omega
     rw[r4 (by omega),ix,hF];rw[aP] at J;rw[mm J];rfl
   ·dsimp only;rw[G9,k3,agX O,ki]
    rfl
   ·dsimp only;rw[k3,ki];rfl
  by_cases yZ:i=r
  ·have R:((i:Int)==(r:Int))=true:=by rw[beq_iff_eq];omega
   simp only[go_sem,go_sem_proc,F,G,dh,dy,dW,eH,h0,hm,qJ,d1,bJ,R];exact AG (by rw[show (i==r)=true by simpa using yZ];rfl)
  have R:((i:Int)==(r:Int))=false:=by rw[beq_eq_false_iff_ne];omega
  obtain⟨⟨⟨f1,f2⟩,⟨f3,f4⟩⟩,aj⟩:∃f,A[c]?=some f:=⟨_,bc (by omega)⟩;have n5:il (A,((v1,v2),(ff,v4))) c=((f1,f2),(f3,f4)):=agT aj;have rp:=agV zk;have r8:=agU (l:=pre++eB.drop i) (k:=i) (by omega);have DL:c<D A:=by omega
  rcases lW:(f1==0)
  case true =>
   simp only[go_sem,go_sem_proc,gV,F,G,dh,dy,dW,eH,h0,hm,qJ,d1,bJ,R,an,rp,r8,aj,DL,lW,ar,ah,bd,lo];exact AG (by rw[n5,show hO ((f1,f2),(f3,f4))=true from lW,Bool.or_true])
  have nw:r<N:=by have:=(dK.1 aP).1;omega
  have oZ:(pre++eB.drop i)[r]?=some p:=by
   rcases gX r i with cG|cG
   ·rw[uP (by omega)];exact zr cG
   ·rw[r4 (by omega),oI,ix,show i+(r-i)=r by omega];exact aP
  obtain⟨atQ,AD⟩:=dx.2 _ (cJ aP);have yc:=atJ (A,((v1,v2),(ff,v4))) p c ⟨mE,AD,by dsimp only;omega,by dsimp only;omega,DL⟩
  have mb:=agW (N:=N) (x:=(A,((v1,v2),(ff,v4)))) (y:=p) ⟨jG,mE⟩ atQ c;dsimp only at yc;rw[jG] at yc;obtain⟨P,⟨jn,gH⟩,⟨sV,um⟩⟩:=p;rcases oh:pr (A,((v1,v2),(ff,v4))) (P,((jn,gH),(sV,um))) c with ⟨⟨p9,⟨dz,dI⟩,⟨eo,eA⟩⟩,ok⟩;rw[oh] at yc mb;simp only[cE,ar] at yc;have Ih:=G8 zk;have ag1:=G8 oZ;have mz:=G7 (l:=pre++eB.drop i) (k:=i) (by omega);have yM:=G7 (l:=pre++eB.drop i) (k:=r) (by omega)
  have BG:¬ ((i==r||hO (il (A,((v1,v2),(ff,v4))) c))=true):=by
   rw[n5,show hO ((f1,f2),(f3,f4))=false from lW,Bool.or_false]
   simpa using yZ
  cases ok
  ·have sM:g5 (P,((jn,gH),(sV,um))) r c 0 eB=(pre++eB.drop i,false):=by
    rw[G9,k3,agZ BG (by rw[oh])]
   rw[sM] at ej;simp only[go_sem,go_sem_proc,gV,hU,F,G,dh,dy,dW,eH,h0,hm,qJ,d1,bJ,R,an,nw,rp,r8,aj,DL,lW,Ih,ag1,mz,yM,yc,cE,ar,ah,bd,lo,db];refine ej rfl _ _ ?_ ?_ ?_ ?_ ?_<;>first|rfl|(simp[dh,dy];done)|(simp[aT,qJ,hm];done)
  ·have NX:=QE (l:=pre++eB.drop i) (k:=i) (by omega) p9 dz dI eo eA
   have vf:(pre++eB.drop i).set i (p9,((dz,dI),(eo,eA)))=(pre++[(p9,((dz,dI),(eo,eA)))])++eB.drop (i+1):=by
    rw[Ay _ _ (by omega),ix,hF,k3,qM,ki]
    rfl
   rw[vf] at NX;simp only[go_sem,go_sem_proc,gV,hU,F,G,dh,dy,dW,eH,h0,hm,qJ,d1,bJ,R,an,nw,rp,r8,aj,DL,lW,Ih,ag1,mz,yM,yc,NX,cE,ar,ah,bd,lo,bj,cZ];refine⟨(i+1,pre++[(p9,((dz,dI),(eo,eA)))]),by dsimp only;omega,by dsimp only;omega,by simp[ix],λx oO=>?_,λh=>?_,?_,rfl,rfl⟩
   ·rcases h5.1 oO with h|h
    ·exact yD x h
    ·rw[sE] at h;rw[h];exact mb
   ·dsimp only at h ⊢;rw[uP (by omega)];exact zr (by omega)
   ·dsimp only;rw[G9,k3,agY BG (by rw[oh]),oh,ki]
    rfl
 ·obtain rfl:i=N:=by omega
  have d1:decide ((i:Int)<(i:Int))=false:=de;have kH:eB.drop i=[]:=lj (by omega);rw[kH] at qJ G9;simp only[g5,mX] at G9 qJ;rw[G9] at eh;simp only[go_sem,go_sem_proc,F,G,dh,dy,dW,eH,h0,hm,qJ,d1];refine eh rfl _ _ ?_ ?_ ?_ ?_ ?_ ?_ qJ hm<;>simp only[q3,sW,if_false,F,G,dh,dy,dW,eH,h0]
def qX (n:Nat):List Data:=[.int .i64 n]
def QG (n:Nat):(qX n).length=1:=rfl
def atS (n:Nat):((qX n).map H.I).all H.one=true:=rfl
def ag2 {stop:Bool}{k c r:Nat}{rows:List b9}{free:List Nat}(h:fS rows r c=D rows):nd stop (k+1) c rows r free=if stop=true then (rows,free++[c],true) else nd stop k (c+1) rows r (free++[c]):=by rw[nd,aJ h]
def ag3 {stop:Bool}{k c r:Nat}{rows:List b9}{free:List Nat}{gC:List b9}{x:b9}(h:fS rows r c≠(D rows))(O:lL rows r (fS rows r c)=gC)(J:qW gC r=x):nd stop (k+1) c rows r free =
  if (iS x c).2=true then (if (g5 (iS x c).1 r c 0 (gC.set r (iS x c).1)).2=true then nd stop k (c+1) (g5 (iS x c).1 r c 0 (gC.set r (iS x c).1)).1 (r+1) free else ((g5 (iS x c).1 r c 0 (gC.set r (iS x c).1)).1,free,false)) else (gC,free,false):=by rw[nd,aR h,O,J]
def DM (c7:List b9×List Nat×Bool):Data:=.dp [.ao (c7.1.map cE),.ao (c7.2.1.map qX),.bool c7.2.2]
def Xf (rows:List b9)(r c:Nat)(L:r<=D rows):r<=fS rows r c/\fS rows r c<=D rows:=by
 unfold fS;have:=List.findIdx_le_length (p:=λx => !hO (il x c)) (xs:=rows.drop r);rw[pG] at this;omega
abbrev QH:(List b9)×Bool->List Data:=λ(rs,stop)=>[.ao (rs.map cE),.int .i64 (D rs:Nat),.bool stop]
def LA:=bG QH λ(rs,stop)=>b8 (ps (D rs) rs/\D rs<=40) (.same (DM (nd stop (D rs) 0 rs 0 [])))
def atT:∀a b,QH a=QH b->a=b:=by
  rintro⟨Oy,apC⟩ ⟨Oz,apD⟩ h;simp only[bj,Data.ao.injEq,Data.bool.injEq] at h;exact cx (map_inj Aw _ _ h.1) h.2.2.1
@[go_sem] def atU (rs stop):=cj LA rfl atT (rs,stop) rfl
def atV (T:bg)(iT:T SP=aE Qw)(gV:T EL=aE GU)(iU:T SQ=aE Qz)(hU:T Nq=aE Lx):WF T GS LA:=by
 refine b5 λ(rs,stop)=>cn λU=>⟨rfl,b4 ?_⟩;simp only[GS,QH,bV];obtain⟨dx,hc⟩:=U;have atW:qK rs:=⟨by omega,λr L=>(dx.2 r L).2⟩
 have Fg:=atA rs ⟨by omega,atW⟩
 have nG:((rs.map cE).flatten.map H.I)=aQ cE rs:=rfl;have TZ:nd stop (D rs) 0 rs 0 []=nd stop (D rs) 0 rs 0 []:=rfl;generalize ag4:(D rs)=N at *;generalize atX:nd stop N 0 rs 0 []=da at TZ ⊢;simp only[go_sem,go_sem_proc,iT,gV,iU,hU,Fg,nG,ah,ag4];refine cV [1,2,9] [] (λ((c,r,mc,rows,free):Nat×Nat×Nat×List b9×List Nat) tm m=>c<=N/\r+D free=c/\ps N rows/\da=nd stop (N-c) c rows r free/\tm 12=.I (.int .i64 c)/\tm 11=.I (.int .i64 r)/\tm 10=.ref 194050 mc 1 0 (D free)/\m 194021=some (0,aQ cE rows)/\m 194050=some (mc,aQ qX free)) (λ(c,_)=>N-c) (0,0,0,rs,[]) (by refine⟨dF _,rfl,dx,?_,rfl,rfl,rfl,?_,?_⟩<;>first|exact atX.symm|rfl) ?_
 intro vs ms aI aD;simp only[go_sem,go_sem_proc,iT,gV,iU,hU,Fg,nG,ah,ag4] at aI aD;subst aI aD;rintro⟨c,r,mc,rows,free⟩ tm m Q-⟨o4,wi,Ha,dN,eH,dW,dy,fv,n1⟩;simp only[go_sem,go_sem_proc,iT,gV,iU,hU,bj] at Q;obtain⟨F,G,dh⟩:=Q;have ae:=Ha.1;rcases dt (c<N) with an|bB
 ·have d1:decide ((c:Int)<(N:Int))=true:=c5;have bJ:=e1 (i:=c) (by omega);have hs:=e1 (i:=r) (by omega);obtain⟨k,Q⟩:∃k,N-c=k+1:=⟨N-c-1,by omega⟩
  rw[Q] at dN;simp only[go_sem,go_sem_proc,iT,gV,iU,hU,F,G,dh,dy,dW,eH,d1];refine QF (λtm m=>tm 1=.I (.int .i64 N)/\tm 2=.I (.bool stop)/\tm 9=.ref 194021 0 5 0 N/\tm 10=.ref 194050 mc 1 0 (D free)/\tm 11=.I (.int .i64 r)/\tm 12=.I (.int .i64 c)/\m 194021=some (0,aQ cE rows)/\m 194050=some (mc,aQ qX free)) (by refine⟨?_,?_,?_,?_,?_,?_,?_,?_⟩<;>first|rfl|assumption|simp only[go_sem,go_sem_proc,iT,gV,iU,hU,F,G,dh,dy,dW,eH]) ?_
  clear F G dh dy dW eH fv n1 tm m;rintro tm m ⟨F,G,dh,dy,dW,eH,fv,n1⟩;simp only[go_sem,go_sem_proc,iT,gV,iU,hU,dW];refine atO T gV N 0 r c rows stop (.ref 194050 mc 1 0 (D free)) Ha (by omega) an hc _ _ ?_ ?_ ?_ ?_ ?_ ?_ ?_ ?_ ?_
  ·simp only[go_sem,go_sem_proc,iT,gV,iU,hU,F]
  ·simp only[go_sem,go_sem_proc,iT,gV,iU,hU,G]
  ·simp only[go_sem,go_sem_proc,iT,gV,iU,hU,dh]
  ·simp only[go_sem,go_sem_proc,iT,gV,iU,hU,dy]
  ·simp only[go_sem,go_sem_proc,iT,gV,iU,hU,dW]
  ·simp only[go_sem,go_sem_proc,iT,gV,iU,hU,eH]
  ·rfl
  ·exact fv
  intro tm' bm c3 pO hM lu lx Cj;have g9:=Xf rows r c (by omega);rw[ae] at g9;simp only[go_sem,go_sem_proc,iT,gV,iU,hU];refine QF (λtm m=>tm 1=.I (.int .i64 N)/\tm 2=.I (.bool stop)/\tm 9=.ref 194021 0 5 0 N/\tm 10=.ref 194050 mc 1 0 (D free)/\tm 11=.I (.int .i64 r)/\tm 12=.I (.int .i64 c)/\tm 13=.I (.int .i64 (fS rows r c:Nat))/\m 194021=some (0,aQ cE rows)/\m 194050=some (mc,aQ qX free)) ⟨bm,c3,pO,hM,lu,lx,Cj,fv,n1⟩ ?_;clear F G dh dy dW eH bm c3 pO hM lu lx Cj fv n1 tm tm' m;rintro tm m ⟨F,G,dh,dy,dW,eH,jb,fv,n1⟩
  by_cases aj:fS rows r c=N
  ·have d2:((((fS rows r c:Nat):Int))==(N:Int))=true:=by rw[beq_iff_eq];omega
   have cY:=lq QG atS 194050 mc 8 free c (cs:=[.I (.int .i64 c)]) rfl (by omega) (by omega);rw[ag2 (by rw[ae];exact aj)] at dN
   cases stop
   ·rw[aR (by simp)] at dN;simp only[go_sem,go_sem_proc,iT,gV,iU,hU,F,G,dh,dy,dW,eH,jb,fv,n1,d2,cY,bJ];exact⟨(c+1,r,mc+1,rows,free++[c]),by dsimp only;omega,by dsimp only;omega,by simp;omega,Ha,by dsimp only;rw[dN,show N-(c+1)=k by omega],rfl,rfl,by simp,rfl,rfl⟩
   ·rw[aJ rfl] at dN
    have ur:∀n (m:Mem),m 194021=some (0,aQ cE rows)->cL (n+1) m (.ref 194021 0 5 0 N)=some (.ao (rows.map cE)):=λn m hm=>by
     have:=jV (n:=n) m6 hm;rwa [ae] at this
    have uu:∀n (m:Mem),m 194050=some (mc+1,aQ qX (free++[c]))->cL (n+1) m (.ref 194050 (mc+1) 1 0 (D free+1))=some (.ao ((free++[c]).map qX)):=λn m hm=>by
     have:=jV (n:=n) QG hm;rwa [ks,List.length_singleton] at this
    rw[dN];simp only[go_sem,go_sem_proc,iT,gV,iU,hU,F,G,dh,dy,dW,eH,jb,fv,n1,d2,cY,DM];rw[ur 4 _ (by simp[aT,fv]),uu 4 _ (by simp[aT])]
    rfl
  ·have d2:((((fS rows r c:Nat):Int))==(N:Int))=false:=by rw[beq_eq_false_iff_ne];omega
   generalize O:fS rows r c=s at *;have A6:s<N:=by omega
   have nw:r<N:=by omega
   obtain⟨⟨p9,⟨dz,dI⟩,⟨eo,eA⟩⟩,J⟩:∃x,rows[s]?=some x:=⟨_,bc (by omega)⟩;obtain⟨⟨LB,⟨og,qC⟩,⟨DG,DH⟩⟩,ai⟩:∃x,rows[r]?=some x:=⟨_,bc (by omega)⟩
   have vz:lL rows r (fS rows r c)=(rows.set r (p9,((dz,dI),(eo,eA)))).set s (LB,((og,qC),(DG,DH))):=by
    unfold lL;rw[O,A5 J,A5 ai]
   have sX:((rows.set r (p9,((dz,dI),(eo,eA)))).set s (LB,((og,qC),(DG,DH))))[r]?=some (p9,((dz,dI),(eo,eA))):=by
    rw[lF,lF,fj]
    by_cases h:s=r
    ·subst h;rw[J] at ai;rw[aJ rfl,aJ (by omega)];exact ai.symm
    ·rw[aR h,aJ rfl,aJ (by omega)]
   have hq:=Ha.2 _ (cJ J);have ag5:ps N ((rows.set r (p9,((dz,dI),(eo,eA)))).set s (LB,((og,qC),(DG,DH)))):=(Ha.set hq).set (Ha.2 _ (cJ ai));rw[ag3 (by rw[O,ae];exact aj) vz (A5 sX)] at dN;have fx:=G8 J;have ag6:=G8 ai;have yU:=G7 (l:=rows) (k:=s) (by omega);have Av:=G7 (l:=rows) (k:=r) (by omega);have s1:=QE (l:=rows) (k:=r) (by omega) p9 dz dI eo eA;have ag7:=G7 (l:=rows.set r (p9,((dz,dI),(eo,eA)))) (k:=s) (by rw[fj];omega);have s2:=QE (l:=rows.set r (p9,((dz,dI),(eo,eA)))) (k:=s) (by rw[fj];omega) LB og qC DG DH;generalize aBS:(rows.set r (p9,((dz,dI),(eo,eA)))).set s (LB,((og,qC),(DG,DH)))=gC at *;have zL:=ag5.1;simp only[go_sem,go_sem_proc,iT,gV,iU,hU,F,G,dh,dy,dW,eH,jb,fv,n1,d2];refine QF (λtm m=>tm 1=.I (.int .i64 N)/\tm 2=.I (.bool stop)/\tm 9=.ref 194021 0 5 0 N/\tm 10=.ref 194050 mc 1 0 (D free)/\tm 11=.I (.int .i64 r)/\tm 12=.I (.int .i64 c)/\tm 13=.I (.int .i64 s)/\m 194021=some (0,aQ cE rows)/\m 194050=some (mc,aQ qX free)) (by refine⟨?_,?_,?_,?_,?_,?_,?_,?_,?_⟩<;>first|rfl|assumption|simp only[go_sem,go_sem_proc,iT,gV,iU,hU,F,G,dh,dy,dW,eH,jb]) ?_
   clear F G dh dy dW eH jb fv n1 tm m;rintro tm m ⟨F,G,dh,dy,dW,eH,jb,fv,n1⟩;have ag8:=G8 sX;have ag9:=G7 (l:=gC) (k:=r) (by omega);have q5:(D p9)=N:=hq.1;have oi:=atF (p9,((dz,dI),(eo,eA))) c ⟨hq.2,by dsimp only;omega,by dsimp only;omega⟩
   have gN:=Xc hq c;dsimp only at oi;rw[q5] at oi;rcases oh:iS (p9,((dz,dI),(eo,eA))) c with ⟨⟨A7,⟨aO,ax⟩,⟨eS,iA⟩⟩,ok⟩;rw[oh] at oi gN dN;simp only[cE,ar] at oi;simp only[go_sem,go_sem_proc,iT,gV,iU,hU,F,G,dh,dy,dW,eH,jb,fv,n1,A6,nw,fx,ag6,yU,Av,s1,ag7,s2,ag8,ag9,oi,lo];refine QF (λtm m=>tm 1=.I (.int .i64 N)/\tm 2=.I (.bool stop)/\tm 9=.ref 194021 0 5 0 N/\tm 10=.ref 194050 mc 1 0 (D free)/\tm 11=.I (.int .i64 r)/\tm 12=.I (.int .i64 c)/\tm 16=.I (.bool ok)/\m 194021=some (0,aQ cE gC)/\m 194050=some (mc,aQ qX free)/\∃q,tm 15=.ptr 194015 q 0/\m 194015=some (q,[.I (.ao (A7.map ar)),.I (.int .i64 aO),.I (.ao (ax.map aG)),.I (.int .i64 eS),.I (.ao (iA.map aG))])) (by refine⟨?_,?_,?_,?_,?_,?_,?_,?_,?_,gL (m 194015),?_,?_⟩<;>first|rfl|assumption|simp only[go_sem,go_sem_proc,iT,gV,iU,hU,F,G,dh,dy,dW,eH,n1]) ?_
   clear F G dh dy dW eH jb fv n1 tm m fx ag6 yU Av s1 ag7 s2 ag8 oi;rintro tm m ⟨F,G,dh,dy,dW,eH,my,fv,n1,q,wW,atY⟩
   have ur:∀(rows:List b9),D rows=N->∀n (m:Mem),m 194021=some (0,aQ cE rows)->cL (n+1) m (.ref 194021 0 5 0 N)=some (.ao (rows.map cE)):=λrows ae n m hm=>by
    have:=jV (n:=n) m6 hm;rwa [ae] at this
   have uu:∀n (m:Mem),m 194050=some (mc,aQ qX free)->cL (n+1) m (.ref 194050 mc 1 0 (D free))=some (.ao (free.map qX)):=λn m hm=>jV (n:=n) QG hm
   cases ok
   ·rw[aR (by simp)] at dN;rw[dN];simp only[go_sem,go_sem_proc,iT,gV,iU,hU,F,G,dh,dy,dW,eH,my,fv,n1,DM,db];rw[ur gC zL 4 _ fv,uu 4 _ n1]
    rfl
   ·rw[aJ rfl] at dN;have bS:=QE (l:=gC) (k:=r) (by omega) A7 aO ax eS iA;have LC:=ag5.set (i:=r) gN;have atZ:(gC.set r (A7,((aO,ax),(eS,iA))))[r]?=some (A7,((aO,ax),(eS,iA))):=by rw[lF,aJ rfl,aJ (by omega)]
    simp only[go_sem,go_sem_proc,iT,gV,iU,hU,F,G,dh,dy,dW,eH,my,wW,atY,fv,n1,nw,ag9,bS,cZ];refine atP T gV hU N 0 r c (gC.set r (A7,((aO,ax),(eS,iA)))) (A7,((aO,ax),(eS,iA))) stop (.ref 194050 mc 1 0 (D free)) (some (mc,aQ qX free)) LC atZ an hc _ _ ?_ ?_ ?_ ?_ ?_ ?_ ?_ ?_ ?_ ?_ ?_
    ·simp only[go_sem,go_sem_proc,iT,gV,iU,hU,F]
    ·simp only[go_sem,go_sem_proc,iT,gV,iU,hU,G]
    ·simp only[go_sem,go_sem_proc,iT,gV,iU,hU,dh]
    ·simp only[go_sem,go_sem_proc,iT,gV,iU,hU,dy]
    ·simp only[go_sem,go_sem_proc,iT,gV,iU,hU,dW]
    ·simp only[go_sem,go_sem_proc,iT,gV,iU,hU,eH]
    ·rfl
    ·simp only[go_sem,go_sem_proc,iT,gV,iU,hU]
    ·simp only[go_sem,go_sem_proc,iT,gV,iU,hU,n1]
    ·intro sM tm' m' bm c3 pO hM lu lx mW QI;rw[sM,aJ rfl] at dN;have mb:=Ly (p:=(A7,((aO,ax),(eS,iA)))) (r:=r) (c:=c) gN.1 0 _ LC.2;simp only[go_sem,go_sem_proc,iT,gV,iU,hU,bm,c3,pO,hM,lu,lx,mW,QI,bJ,hs];exact⟨(c+1,r+1,mc,_,free),by dsimp only;omega,by dsimp only;omega,by dsimp only;omega,⟨mb.1.trans LC.1,mb.2⟩,by dsimp only;rw[dN,show N-(c+1)=k by omega],rfl,rfl,rfl,rfl,rfl⟩
    ·intro sM tm' m' dn eD fQ mW QI;rw[sM,aR (by simp)] at dN;have mb:=Ly (p:=(A7,((aO,ax),(eS,iA)))) (r:=r) (c:=c) gN.1 0 _ LC.2;rw[dN];simp only[go_sem,go_sem_proc,iT,gV,iU,hU,dn,eD,fQ,mW,QI,DM];rw[ur _ (mb.1.trans LC.1) 4 _ mW,uu 4 _ QI]
     rfl
 ·obtain rfl:c=N:=by omega
  have d1:decide ((c:Int)<(c:Int))=false:=de
  have ur:∀n (m:Mem),m 194021=some (0,aQ cE rows)->cL (n+1) m (.ref 194021 0 5 0 c)=some (.ao (rows.map cE)):=λn m hm=>by
   have:=jV (n:=n) m6 hm;rwa [ae] at this
  have uu:∀n (m:Mem),m 194050=some (mc,aQ qX free)->cL (n+1) m (.ref 194050 mc 1 0 (D free))=some (.ao (free.map qX)):=λn m hm=>jV (n:=n) QG hm;rw[hF] at dN;simp only[nd] at dN;rw[dN];simp only[go_sem,go_sem_proc,iT,gV,iU,hU,F,G,dh,dy,dW,eH,d1,DM];rw[ur 4 _ fv,uu 4 _ n1]
  rfl
def aha {rs:List b9}{n:Int}(a4:qK rs)(h:nV rs n=true):n=(D rs:Nat)/\D rs<=40/\ps (D rs) rs:=by
 obtain⟨F,G,aa⟩:=J7 a4 h;exact⟨F.symm,G,rfl,aa⟩
def QJ {N:Nat}(stop:Bool):∀(k c:Nat) (rows:List b9) (r:Nat) (free:List Nat),c+k=N->r<=c->ps N rows->ps N (nd stop k c rows r free).1
 |0,c,rows,r,free,_,_,h=>h
 |k+1,c,rows,r,free,U,wi,h=>by
  have ae:=h.1;unfold nd
  split
  ·split
   ·exact h
   ·exact QJ stop k (c+1) rows r _ (by omega) (by omega) h
  ·rename_i bo
   have gJ:∀i,i<(D rows)->qW rows i∈rows:=λi Z=>by
    have J:rows[i]?=some rows[i]:=bc Z;rw[A5 J];exact ha Z
   have L:r<D rows:=by omega
   have hle:=Xf rows r c (by omega);have O:fS rows r c<D rows:=by omega
   have vz:ps N (lL rows r (fS rows r c)):=by
    unfold lL;exact (h.set (h.2 _ (gJ _ O))).set (h.2 _ (gJ _ L))
   have zL:(lL rows r (fS rows r c)).length=D rows:=by unfold lL;rw[fj,fj]
   have lH:qW (lL rows r (fS rows r c)) r∈lL rows r (fS rows r c):=by
    have J:(lL rows r (fS rows r c))[r]?=some _:=bc (by omega);rw[A5 J];exact ha _
   have ad:=Xc (vz.2 _ lH) c
   split
   ·have oi:=vz.set (i:=r) ad;have mb:=Ly (p:=(iS (qW (lL rows r (fS rows r c)) r) c).1) (r:=r) (c:=c) ad.1 0 _ oi.2
    split
    ·exact QJ stop k (c+1) _ (r+1) free (by omega) (by omega) ⟨mb.1.trans oi.1,mb.2⟩
    ·exact⟨mb.1.trans oi.1,mb.2⟩
   ·exact vz
def rP (stop:Bool)(rs:List b9):List b9×List Nat×Bool:=nd stop (D rs) 0 rs 0 []
def LD (rs:List b9)(n:Int):List av×Int:=if nV rs n=true then (if (rP true rs).2.2=true then (if (rP true rs).2.1.length>0 then ([],17) else ((rP true rs).1.map (·.2),0)) else ([],6)) else ([],1)
def LF:=bG w8 λ(rs,n)=>b8 (qK rs) (.same (.dp [.ao ((LD rs n).1.map ar),.int .i64 (LD rs n).2]))
@[go_sem] def ahb (rs n):=cj LF rfl OC (rs,n) rfl
def at0 (T:bg)(A8:T SM=aE Qs)(A9:T SN=aE LA):WF T agb LF:=by
 refine b5 λ(rs,n)=>cn λU=>⟨rfl,b4 ?_⟩;simp only[agb,w8,bV];unfold LD;rcases L:nV rs n
 ·simp only[go_sem,go_sem_proc,A8,A9,U,L,db,bN]
 ·obtain⟨rfl,hc,dx⟩:=aha U L;have ej:=atU rs true ⟨dx,hc⟩;have mb:=QJ true (D rs) 0 rs 0 [] (by omega) (by omega) dx
  change LA [.ao (rs.map cE),.int .i64 (D rs:Nat),.bool true]=some (.same (DM (rP true rs))) at ej
  change ps (D rs) (rP true rs).1 at mb
  rcases dU:rP true rs with ⟨rows,free,ok⟩;rw[dU] at mb ej;dsimp only at mb;simp only[DM] at ej;have b7:=mb.1
  cases ok
  ·simp only[go_sem,go_sem_proc,A8,A9,U,L,ej,ah,cZ,db,bN]
  ·cases free with
   |cons f dA =>
    have kE:decide ((((f::dA).length:Nat):Int)>0)=true:=mL (by simp only[lQ];omega);simp only[lQ] at kE;simp only[go_sem,go_sem_proc,A8,A9,U,L,ej,kE,ah,cZ,db,bN];rw[aJ (by simp)]
    all_goals rfl
   |nil =>
    simp only[go_sem,go_sem_proc,A8,A9,U,L,ej,ah,show decide (((0:Nat):Int)>0)=false from rfl,bN,mV,cZ,db];rw[aR (by simp)];refine cV [1,6] [] (λ((i,g):Nat×Nat) tm m=>i<=D rs/\tm 10=.I (.int .i64 i)/\tm 9=.ref 189039 g 4 0 i/\m 189039=some (g,aQ ar ((rows.take i).map (·.2)))) (λ(i,_)=>D rs-i) (0,0) (by refine⟨dF _,rfl,rfl,rfl⟩) ?_;intro vs ms aI aD;simp only[go_sem,go_sem_proc,A8,A9] at aI aD;subst aI aD;rintro⟨i,g⟩ tm m Q-⟨JU,dy,dh,Xg⟩;simp only[go_sem,go_sem_proc,A8,A9,bj] at Q;obtain⟨F,bx⟩:=Q;rcases dt (i<D rs) with an|bB
    ·obtain⟨⟨A,⟨dw,dV⟩,⟨hQ,jf⟩⟩,J⟩:∃x,rows[i]?=some x:=⟨_,bc (by omega)⟩;have k5:((rows.take i).map (·.2)).length=i:=by rw[ah,gj];omega
     have cY:=lq jt vl 189039 g 64 ((rows.take i).map (·.2)) ((dw,dV),(hQ,jf)) (cs:=[.I (.int .i64 dw),.I (.ao (dV.map aG)),.I (.int .i64 hQ),.I (.ao (jf.map aG))]) rfl (by omega) (by omega);rw[k5] at cY
     have J9:(rows.take i).map (·.2)++[((dw,dV),(hQ,jf))]=(rows.take (i+1)).map (·.2):=by
      rw[hn,J,pT];rfl
     rw[J9] at cY;have d1:decide ((i:Int)<(D rs:Int))=true:=c5;have bJ:=e1 (i:=i) (by omega);simp only[go_sem,go_sem_proc,A8,A9,F,bx,dh,dy,Xg,J,cY,d1,bJ,cE,ar,ah,bd];exact⟨(i+1,g+1),by dsimp only;omega,by dsimp only;omega,rfl,rfl,rfl⟩
    ·obtain rfl:i=D rs:=by omega
     have d1:decide ((D rs:Int)<(D rs:Int))=false:=de;have cX:rows.take (D rs)=rows:=dE (by omega);rw[cX] at Xg
     have ez:∀n,cL (n+1) m (.ref 189039 g 4 0 (D rs))=some (.ao ((rows.map (·.2)).map ar)):=λn=>by
      have:=jV (n:=n) jt Xg;rw[show (rows.map (·.2)).length=(D rs) by rw[ah];omega] at this
      exact this
     have at1:=ez 4;simp only[go_sem,go_sem_proc,A8,A9,F,bx,dh,dy,d1];rw[at1]
     rfl

def k9 (r:b9):List av:=r.1++[r.2]
def lM (c7:List dm)(bF:List b9):Prop:=c7.map (·.2.2)=bF.map k9
def lM.len {c7:List dm}{bF:List b9}(h:lM c7 bF):(D c7)=D bF:=by
 have:=congrArg D h
 simpa using this
def lM.at_ {c7:List dm}{bF:List b9}(h:lM c7 bF){i:Nat}{x:dm}{r:b9}(J:c7[i]?=some x)(L:bF[i]?=some r):x.2.2=k9 r:=by
 have:=congrArg (λl:List (List av)=>l[i]?) h;simp only[bd,J,L,kU,bM] at this;exact this
def Xh {N c:Nat}{x:dm}{r:b9}(h:x.2.2=k9 r)(ae:r.1.length=N)(U:c<N):cellOf x c=il r c:=by
 unfold cellOf il;rw[h,dG,dG];unfold k9;rw[uP (by omega)]
def Xi {α:Type}{op:α->av×Int}{e:α->av}:∀l:List α,(ma op e l).2=l.all λa=>(op a).2==0
 | []=>rfl
 |a::r=>by
  unfold ma;rw[u2];rcases h:((op a).2==0)
  ·rfl
  ·simp only[if_true,eZ];exact Xi r
def ahc {α:Type}{op:α->av×Int}{e:α->av}{l:List α}(h:(l.all λa=>(op a).2==0)=true):(ma op e l).1=l.map λa=>(op a).1:=by
 rw[Qx λa ba=>by have:=List.all_eq_true.1 h a ba;simpa using this]
def at2 {α:Type}(f:α->Int)(l:List α):(l.any λa=>f a != 0) = !(l.all λa=>f a==0):=by
 rw[List.not_all_eq_any_not]
 rfl
def at3 (r:b9)(c:Nat):(j3 (il r c) (k9 r)).2 = !(iS r c).2/\((iS r c).2=true->(j3 (il r c) (k9 r)).1=k9 (iS r c).1):=by
 have U:r.1.getD c bA=il r c:=rfl;unfold j3 iS k9;rw[U,at2,Dh,Xi];rcases h:(r.1.all λa=>(fK a (il r c)).2==0)
 ·simp
 ·rw[ahc h];simp
def ahd (a f b:av):((iR a f b).2==0)=((iC f b).2==0&&(kn a (iC f b).1).2==0):=by
 unfold iR;rcases h:((iC f b).2==0)
 ·simp only[cC,if_false,eN,h]
 ·simp only[if_true,eZ]
def at4 {a f b:av}(h:((iR a f b).2==0)=true):(iR a f b).1=(kn a (iC f b).1).1:=by
 rw[ahd,fe] at h;unfold iR;rw[aJ h.1]
def ahe (f:av):∀(l p:List av),D l=(D p)->(jE f l p false).2 = !((l.zip p).all λa=>(iR a.1 f a.2).2==0)/\(((l.zip p).all λa=>(iR a.1 f a.2).2==0)=true->(jE f l p false).1=(l.zip p).map λa=>(iR a.1 f a.2).1)
 | [],[],_=>by simp[jE]
 |a::l,[],h=>by simp at h
 | [],b::p,h=>by simp at h
 |a::l,b::p,h=>by
  obtain⟨i1,i2⟩:=ahe f l p (by simpa using h)
  have jQ:((iC f b).2 != 0||(kn a (iC f b).1).2 != 0) = !((iR a f b).2==0):=by
   rw[ahd];simp only[bne,Bool.not_and]
  simp only[jE,List.zip_cons_cons,u2,gZ];rw[jQ];rcases Q:((iR a f b).2==0)
  ·rw[db,UE];simp
  ·rw[cZ];refine⟨by rw[i1];simp,λbk=>?_⟩
   rw[eZ] at bk;rw[i2 bk,at4 Q]
def at5 {x p:b9}(h:x.1.length=p.1.length)(c:Nat):(jE (il x c) (k9 x) (k9 p) false).2 = !(pr x p c).2/\((pr x p c).2=true->(jE (il x c) (k9 x) (k9 p) false).1=k9 (pr x p c).1):=by
 have U:x.1.getD c bA=il x c:=rfl;obtain⟨cH,cO⟩:=ahe (il x c) (k9 x) (k9 p) (by simp[k9,h])
 have a0:(k9 x).zip (k9 p)=x.1.zip p.1++[(x.2,p.2)]:=by
  unfold k9;rw[List.zip_append h]
  rfl
 rw[a0,Dh] at cH cO;unfold pr;rw[U,Xi];rcases Q:((x.1.zip p.1).all λa:av×av=>(iR a.1 (il x c) a.2).2==0)
 ·rw[Q] at cH;simp only[eN,db] at cH;rw[cH];simp
 ·rw[Q] at cH cO;simp only[u2,List.all_nil,pF,eZ] at cH cO;rw[cH,ahc Q];simp only[if_true];refine⟨trivial,λbk=>?_⟩;rw[cO bk,pT]
  rfl
def QK (gB:List av)(r c:Nat):∀(i:Nat) (l:List dm),(jF gB r c i l true).2=true
 |_,[]=>rfl
 |i,x::xs=>by
  unfold jF
  split
  ·exact QK gB r c (i+1) xs
  ·rw[UE];exact QK gB r c (i+1) xs
def ahf {N r c:Nat}{p:b9}(aP:p.1.length=N)(U:c<N):∀(i:Nat) (c7:List dm) (bF:List b9),lM c7 bF->(∀y∈bF,y.1.length=N) ->
  (jF (k9 p) r c i c7 false).2 = !(g5 p r c i bF).2/\((g5 p r c i bF).2=true->lM (jF (k9 p) r c i c7 false).1 (g5 p r c i bF).1)
 |i,[],[],_,_=>by simp[jF,g5,lM]
 |i,x::c7,[],h,_=>by simp[lM] at h
 |i,[],y::bF,h,_=>by simp[lM] at h
 |i,x::c7,y::bF,h,ae=>by
  unfold lM at h;rw[gZ,gZ,bj] at h;obtain⟨hk,at6⟩:=h;have QD:=ae y lU;obtain⟨i1,i2⟩:=ahf (r:=r) aP U (i+1) c7 bF at6 λz a0=>ae z (uq _ a0);have n5:=Xh hk QD U;unfold jF;rw[n5,hk]
  by_cases O:(i==r||hO (il y c))=true
  ·rw[aJ O,agX O];refine⟨i1,λbk=>?_⟩;have:=i2 bk;unfold lM at this ⊢;rw[gZ,gZ,this,hk]
  ·rw[aR O];obtain⟨cH,cO⟩:=at5 (x:=y) (p:=p) (by omega) c;rcases Q:(pr y p c).2
   ·rw[agZ O Q];rw[Q] at cH;dsimp only;rw[cH,db,QK];simp
   ·rw[agY O Q];rw[Q] at cH;dsimp only;rw[cH,cZ];refine⟨i1,λbk=>?_⟩;have:=i2 bk;unfold lM at this ⊢;rw[gZ,gZ,this,cO Q]
def at7 {N r c:Nat}{c7:List dm}{bF:List b9}(h:lM c7 bF)(ae:∀y∈bF,y.1.length=N)(U:c<N):findAt c7 r c=fS bF r c:=by
 have a0:(c7.drop r).map (λx => !hO (cellOf x c))=(bF.drop r).map λx => !hO (il x c):=by
  apply qm;intro i;rw[bd,bd,oI,oI];have hlen:=h.len;rcases gX (r+i) (D bF) with Z|Z
  ·have J:c7[r+i]?=some c7[r+i]:=bc (by omega);have L:bF[r+i]?=some bF[r+i]:=bc Z;rw[J,L,kU,kU,Xh (h.at_ J L) (ae _ (ha Z)) U]
  ·rw[lk (by omega),lk Z]
   rfl
 have F:∀(l:List dm),(l.findIdx λx => !hO (cellOf x c))=(l.map λx => !hO (cellOf x c)).findIdx id:=λl=>by rw[ahg];rfl
 have G:∀(l:List b9),(l.findIdx λx => !hO (il x c))=(l.map λx => !hO (il x c)).findIdx id:=λl=>by rw[ahg];rfl
 unfold findAt fS;rw[F,G,a0]
def lM.set {c7:List dm}{bF:List b9}(h:lM c7 bF){i:Nat}{x:dm}{r:b9}(lH:x.2.2=k9 r):lM (c7.set i x) (bF.set i r):=by
 unfold lM at h ⊢;rw[CE,CE,h,lH]
def Xj (stop:Bool){N:Nat}:∀(k c:Nat) (c7:List dm) (bF:List b9) (r:Nat) (free:List Nat),c+k=N->r+D free=c->lM c7 bF->ps N bF ->
  (m9 stop k c c7 free false).2.2 = !(nd stop k c bF r free).2.2/\((nd stop k c bF r free).2.2=true->lM (m9 stop k c c7 free false).1 (nd stop k c bF r free).1/\(m9 stop k c c7 free false).2.1=(nd stop k c bF r free).2.1)
 |0,c,c7,bF,r,free,_,_,h,_=>⟨rfl,λ_=>⟨h,rfl⟩⟩
 |k+1,c,c7,bF,r,free,U,L,h,dx=>by
  have o4:c<N:=by omega
  have KM:∀y∈bF,y.1.length=N:=λy ai=>(dx.2 y ai).1;have hlen:=h.len;have WI:=dx.1;have ahh:=at7 (r:=r) h KM o4;have oZ:c-D free=r:=by omega
  unfold m9;rw[oZ]
  by_cases aj:fS bF r c=D bF
  ·have aP:j4 c7 r c=(true,c7,false):=by unfold j4;rw[ahh,aJ (by rw[hlen];exact aj)]
   rw[ag2 aj,aP];rw[aJ rfl]
   cases stop
   ·rw[aR (by simp),aR (by simp)];exact Xj false k (c+1) c7 bF r (free++[c]) (by omega) (by simp;omega) h dx
   ·rw[aJ rfl,aJ rfl];exact⟨rfl,λ_=>⟨h,rfl⟩⟩
  ·have aP:j4 c7 r c=(false,jF (j3 (cellOf (rowAt (mC c7 r (fS bF r c)) r) c) (rowAt (mC c7 r (fS bF r c)) r).2.2).1 r c 0 (CF (mC c7 r (fS bF r c)) r c) (j3 (cellOf (rowAt (mC c7 r (fS bF r c)) r) c) (rowAt (mC c7 r (fS bF r c)) r).2.2).2):=by unfold j4;rw[ahh,aR (by rw[hlen];exact aj)]
   rw[aP];rw[aR (by simp)];have hle:=Xf bF r c (by omega);generalize O:fS bF r c=s at *;have A6:s<N:=by omega
   have nw:r<N:=by omega
   obtain⟨xs,sh⟩:∃x,c7[s]?=some x:=⟨_,bc (by omega)⟩;obtain⟨ys,BK⟩:∃x,bF[s]?=some x:=⟨_,bc (by omega)⟩;obtain⟨pU,lH⟩:∃x,c7[r]?=some x:=⟨_,bc (by omega)⟩;obtain⟨Hb,qN⟩:∃x,bF[r]?=some x:=⟨_,bc (by omega)⟩;have vz:mC c7 r s=(c7.set r xs).set s pU:=by unfold mC;rw[rA sh,rA lH]
   have aua:lL bF r s=(bF.set r ys).set s Hb:=by unfold lL;rw[A5 BK,A5 qN]
   have aub:lM ((c7.set r xs).set s pU) ((bF.set r ys).set s Hb):=(h.set (h.at_ sh BK)).set (h.at_ lH qN);have auc:((c7.set r xs).set s pU)[r]?=some xs:=JN sh lH;have aud:((bF.set r ys).set s Hb)[r]?=some ys:=JN BK qN;have hk:=h.at_ sh BK;have Xk:=dx.2 _ (cJ BK);have aue:ps N ((bF.set r ys).set s Hb):=(dx.set Xk).set (dx.2 _ (cJ qN));rw[ag3 (by rw[O];exact aj) (by rw[O];exact aua) (A5 aud)];unfold CF;rw[vz,rA auc,hk,Xh hk Xk.1 o4];obtain⟨d1,d2⟩:=at3 ys c;rcases ad:(iS ys c).2
   ·rw[ad] at d1;rw[d1,db,aR (by simp)];have R:=λl=>QK (j3 (il ys c) (k9 ys)).1 r c 0 l;rw[R,UW];exact⟨rfl,λbk=>absurd bk (by simp)⟩
   ·rw[ad] at d1;rw[d1,cZ,aJ rfl,d2 ad];have gN:=Xc Xk c;have auf:lM (((c7.set r xs).set s pU).set r (xs.1,xs.2.1,k9 (iS ys c).1)) (((bF.set r ys).set s Hb).set r (iS ys c).1):=aub.set rfl;have ov:=aue.set (i:=r) gN;obtain⟨gI,lp⟩:=ahf (r:=r) gN.1 o4 0 _ _ auf λy ai=>(ov.2 y ai).1;have mb:=Ly (p:=(iS ys c).1) (r:=r) (c:=c) gN.1 0 _ ov.2;rcases sM:(g5 (iS ys c).1 r c 0 (((bF.set r ys).set s Hb).set r (iS ys c).1)).2
    ·rw[sM] at gI;rw[gI,db,UW,aR (by simp)];exact⟨rfl,λbk=>absurd bk (by simp)⟩
    ·rw[sM] at gI;rw[gI,cZ,aJ rfl];exact Xj stop k (c+1) _ _ (r+1) free (by omega) (by omega) (lp sM) ⟨mb.1.trans ov.1,mb.2⟩
def aug (rs:List b9):lM (hR rs) rs:=by
 unfold lM hR;rw[List.map_map];apply qm;intro i;rw[bd,bd,List.getElem?_zipIdx]
 cases rs[i]?<;>rfl
def auh (stop:Bool){rs:List b9}(dx:ps (D rs) rs):(uw stop rs).2.2 = !(rP stop rs).2.2/\((rP stop rs).2.2=true->lM (uw stop rs).1 (rP stop rs).1/\(uw stop rs).2.1=(rP stop rs).2.1) :=
 Xj stop (D rs) 0 (hR rs) rs 0 [] (by omega) rfl (aug rs) dx
def ahi {rs:List b9}(a4:qK rs)(n:Int):mF rs n=LD rs n:=by
 unfold mF LD;rcases L:nV rs n
 ·rfl
 obtain⟨rfl,hc,dx⟩:=aha a4 L;obtain⟨F,G⟩:=auh true dx;have mb:=QJ true (D rs) 0 rs 0 [] (by omega) (by omega) dx
 change ps (D rs) (rP true rs).1 at mb
 rcases cu:(rP true rs).2.2
 ·rw[F,cu];rfl
 ·obtain⟨aa,aX⟩:=G cu;rw[F,cu,aX];simp only[if_true,cZ,cC,if_false]
  split
  ·rfl
  ·rw[eL];refine⟨?_,rfl⟩;apply qm;intro i;rw[bd,bd];have hlen:=aa.len;rcases gX i (rP true rs).1.length with Z|Z
   ·have J:(uw true rs).1[i]?=some _:=bc (by omega);have ai:(rP true rs).1[i]?=some _:=bc Z;rw[J,ai,kU,kU];have he:=aa.at_ J ai;have ae:=(mb.2 _ (cJ ai)).1;unfold vB;rw[he];unfold k9;rw[dG,r4 (by omega),ae,hF]
    rfl
   ·rw[lk (by omega),lk Z];rfl
def aui (v:av)(n to:Nat):(mG v [] n to).2=true:=rfl
def Hc:=bG pW λ(cap,base,ls)=>b8 (ox cap base ls) (.same (l8 (l7 cap base ls)))
@[go_sem] def Xl (cap base ls):=cj Hc rfl CP (cap,base,ls) rfl
def auj (T:bg)(ev:T B6=aE GY)(im:T E1=aE Lo)(iq:T IM=aE LF)(fb:T B5=aE G0)(fc:T z9=aE G4):WF T agw Hc:=by
 refine b5 λ(cap,base,ls)=>cn λU=>⟨rfl,b4 ?_⟩;simp only[agw,pW,bV];unfold l7;rcases L:o6 cap base ls
 ·simp only[cC,if_false];refine af ?_;repeat' (intro (ag:_=_)<;>simp only[ag,go_sem,go_sem_proc,ev,im,iq,fb,fc,U,L,l8,bN]<;>try refine ab ?_ ?_)
 ·simp only[if_true];obtain⟨R,aA,-,eY,-,-⟩:=xp L;have j6:=U;obtain⟨⟨ea,ny⟩,⟨mq,nz⟩,nA⟩:=U;have y2:(D cap*1<=140737488355328)=True:=eq_true (by omega);have Dj:(1*D cap<=140737488355328)=True:=eq_true (by omega);have y3:(D cap<=maxLen)=True:=eq_true (by unfold maxLen;omega);have Dk:(D cap<=140737488355328)=True:=eq_true (by omega);have a0:=PC (D cap);generalize KK:pf cap base ls (D cap+1) (cf (D cap) false) []=SS;simp only[go_sem,go_sem_proc,ev,im,iq,fb,fc,j6,L,y2,Dj,y3,Dk,a0,ah]
  refine cV [1,5,6] [427001] (λ((k,left,rounds,g):Nat×List Bool×List (List Nat)×Nat) tm m=>D left=D cap/\left.count false<k/\D rounds+k<=D cap+1/\SS=pf cap base ls k left rounds/\tm 7=.ref 427136 g 1 0 (D rounds)/\m 427028=some (0,aQ kN left)/\m 427136=some (g,aQ p7 rounds)/\dO 427 emp m) (λ(k,_,_,_)=>k) (D cap+1,cf (D cap) false,[],0) (by
   refine⟨hr,by rw[List.count_replicate_self];exact KL _,by simp,KK.symm,rfl,?_,?_,?_⟩
   ·simp[aT]
   ·simp[aT,aQ]
   ·repeat first|exact dO.refl _ _|refine dO.dZ ?_ (by decide)) ?_
  intro vs ms aI aD;simp only[go_sem,go_sem_proc,ev,im,iq,fb,fc,ah] at aI aD;subst aI aD;rintro⟨k,left,rounds,g⟩ tm m Q hm ⟨vK,PG,arM,a5,bK,lN,lO,dq⟩;simp only[go_sem,go_sem_proc,ev,im,iq,fb,fc,bj] at Q hm;obtain⟨bm,c1,dn⟩:=Q;obtain⟨k,rfl⟩:∃k',k=k'+1:=⟨k-1,by omega⟩
  obtain⟨Gy,Dl⟩:=Py (ls:=ls) (left:=left) ny nz R aA;have a5:=a5.trans (pf.eq_2 ..);have vX:tb cap base ls left=if (allEq cap base ls left).all (·.2)=true then ((mF ((allEq cap base ls left).map (·.1)) (D cap)).1,(mF ((allEq cap base ls left).map (·.1)) (D cap)).2==0) else ([],false):=rfl;generalize tb cap base ls left=c7 at *;have jG:(allEq cap base ls left).length=D cap:=by unfold allEq;rw[ah,List.length_range]
  have uB:∀i,i<(D cap)->(allEq cap base ls left)[i]?=some (mI cap base ls left i):=λi Z=>by
   unfold allEq;rw[bd,List.getElem?_range Z]
   rfl
  have p4:∀x∈allEq cap base ls left,lD x.1:=λx J=>by
   unfold allEq at J;rw[h7] at J;obtain⟨i,Z,rfl⟩:=J;rw[List.mem_range] at Z;have aO:okF (cap.getD i bA):=by rw[dG,bc Z];exact ny _ (ha Z)
   have ax:okF (base.getD i bA):=by rw[dG,bc (by omega)];exact nz _ (ha (by omega))
   unfold mI
   split
   ·exact zb ax aA
   ·exact zb aO aA
  generalize allEq cap base ls left=A at *;simp only[go_sem,go_sem_proc,ev,im,iq,fb,fc,bm,c1,dn,bK,hm,lN,lO,ah]
  refine cV [1,5,6,7] [427001,427028,427136] (λ((i,DN):Nat×Nat) tm m=>i<=D cap/\(A.take i).all (·.2)=true/\tm 9=.I (.int .i64 i)/\tm 8=.ref 427056 DN 5 0 i/\m 427056=some (DN,aQ cE ((A.take i).map (·.1)))/\dO 427 emp m) (λ(i,_)=>D cap-i) (0,gL (m 427056)) (by
   refine⟨dF _,by simp,rfl,rfl,?_,?_⟩
   ·simp[aT,aQ]
   ·repeat first|exact dq|refine dO.dZ ?_ (by decide)) ?_
  intro vs ms aI aD;simp only[go_sem,go_sem_proc,ev,im,iq,fb,fc,bm,c1,dn,bK,hm,lN,lO,ah] at aI aD;subst aI aD;clear bm c1 dn bK hm lN lO dq tm m;rintro⟨i,DN⟩ tm m Q hm ⟨Z,cX,dh,ca,tf,dq⟩;simp only[go_sem,go_sem_proc,ev,im,iq,fb,fc,bj] at Q hm;obtain⟨bm,c1,dn,eD⟩:=Q;obtain⟨aW,lN,lO⟩:=hm;rcases dt (i<D cap) with an|bB
  ·have d1:decide ((i:Int)<(D cap:Int))=true:=c5;have bJ:=e1 (i:=i) (by omega);obtain⟨⟨⟨ch,dB⟩,⟨gu,iF⟩⟩,dg⟩:∃f,cap[i]?=some f:=⟨_,bc an⟩;obtain⟨⟨⟨bR,cz⟩,⟨er,eC⟩⟩,eI⟩:∃f,base[i]?=some f:=⟨_,bc (by omega)⟩;obtain⟨j5,dr⟩:∃f,left[i]?=some f:=⟨_,bc (by omega)⟩;have xn:=ny _ (cJ dg);have zc:=nz _ (cJ eI);have gc:cap.getD i bA=((ch,dB),(gu,iF)):=by rw[dG,dg];rfl
   have qR:base.getD i bA=((bR,cz),(er,eC)):=by rw[dG,eI];rfl
   have gl:left.getD i false=j5:=by rw[dG,dr];rfl
   have hT:=xm dr;have g4:=uA (l:=left) (k:=i) (by omega);have vM:=uB i an;have xo:=W0 ch dB gu iF [] (D cap) i ⟨xn,⟨by simp,λx J=>by cases J⟩,aA,an,λl ae=>by cases ae⟩
   have zd:=W0 bR cz er eC ls (D cap) i ⟨zc,nA,aA,an,λl ae _=>by have:=eY l ae;omega⟩
   have zV:=aui ((ch,dB),(gu,iF)) (D cap) i
   have ze:mI cap base ls left i=if j5=true then mG ((bR,cz),(er,eC)) ls (D cap) i else mG ((ch,dB),(gu,iF)) [] (D cap) i:=by
    unfold mI;rw[gc,qR,gl]
   rw[bN] at xo;have oq:A.take (i+1)=A.take i++[mI cap base ls left i]:=by rw[hn,vM];rfl
   have Dg:(A.take (i+1)).all (·.2)=(mI cap base ls left i).2:=by rw[oq,Dh,cX];simp
   have zf:(A.take (i+1)).map (·.1)=(A.take i).map (·.1)++[(mI cap base ls left i).1]:=by rw[oq,pT];rfl
   have b7:((A.take i).map (·.1)).length=i:=by rw[ah,gj];omega
   have cY:=λ(bF:b9) cs iJ=>lq m6 (λ_=>rfl) 427056 DN 88 ((A.take i).map (·.1)) bF (cs:=cs) iJ (by omega) (by omega);simp only[b7] at cY;have jW:(mI cap base ls left i).2=false->A.all (·.2)=false:=λh=>Wb vM h;clear uB KK;rcases j5
   ·simp only[cC,if_false] at ze;rw[<-ze] at xo zV;generalize mI cap base ls left i=da at *;obtain⟨⟨vN,⟨v1,v2⟩,⟨ff,v4⟩⟩,ok⟩:=da;dsimp only at zV;subst zV;simp only[cE,ar] at xo;have jh:=cY (vN,((v1,v2),(ff,v4))) _ rfl;simp only[cE,ar,gZ,bN] at jh;rw[<-zf] at jh;refine af ?_;repeat' (intro (ag:_=_)<;>simp only[ag,go_sem,go_sem_proc,ev,im,iq,fb,fc,bm,c1,dn,eD,dh,ca,aW,lN,lO,tf,d1,bJ,dg,eI,dr,hT,g4,an,dL,xo,jh,ar,ah,bd]<;>try refine ab ?_ ?_)
    exact⟨(i+1,DN+1),by dsimp only;omega,by dsimp only;omega,Dg,rfl,rfl,rfl,by repeat first|exact dq|refine dO.dZ ?_ (by decide)⟩
   ·simp only[if_true] at ze;rw[<-ze] at zd;generalize mI cap base ls left i=da at *;obtain⟨⟨vN,⟨v1,v2⟩,⟨ff,v4⟩⟩,ok⟩:=da;simp only[cE,ar] at zd;rcases ok
    ·rw[jW rfl] at vX;simp only[cC,if_false] at vX;rw[vX] at a5;simp only[cC,if_false] at a5;rw[a5];refine af ?_;repeat' (intro (ag:_=_)<;>simp only[ag,go_sem,go_sem_proc,ev,im,iq,fb,fc,bm,c1,dn,eD,dh,ca,aW,lN,lO,tf,d1,bJ,dg,eI,dr,hT,g4,an,dL,zd,l8,ar,bN,ah,bd]<;>try refine ab ?_ ?_)
    ·have jh:=cY (vN,((v1,v2),(ff,v4))) _ rfl;simp only[cE,ar,gZ,bN] at jh;rw[<-zf] at jh;refine af ?_;repeat' (intro (ag:_=_)<;>simp only[ag,go_sem,go_sem_proc,ev,im,iq,fb,fc,bm,c1,dn,eD,dh,ca,aW,lN,lO,tf,d1,bJ,dg,eI,dr,hT,g4,an,dL,zd,jh,ar,ah,bd]<;>try refine ab ?_ ?_)
     exact⟨(i+1,DN+1),by dsimp only;omega,by dsimp only;omega,Dg,rfl,rfl,rfl,by repeat first|exact dq|refine dO.dZ ?_ (by decide)⟩
  ·have d1:decide ((i:Int)<(D cap:Int))=false:=de;have hy:i=D cap:=by omega
   subst hy;have k5:A.take (D cap)=A:=dE (by omega);rw[k5] at cX tf;rw[cX] at vX;simp only[if_true] at vX
   have LG:qK (A.map (·.1)):=⟨by rw[ah];omega,λr L=>by
    obtain⟨x,J,rfl⟩:=h7.1 L;exact p4 x J⟩
   have ej:=ahb (A.map (·.1)) (D cap) LG;rw[<-ahi LG] at ej;have nc:=λ(K:a6->Prop) (st:a6)=>sl (K:=K) (st:=st) m6 8 427056 DN (A.map (·.1));rw[ah,jG] at nc;generalize mF (A.map (·.1)) (D cap)=S at *;obtain⟨l6,e⟩:=S;dsimp only at ej vX;rcases he:(e==0)
   ·rw[he] at vX;rw[vX] at a5;simp only[cC,if_false] at a5;rw[a5];refine af ?_;repeat' (intro (ag:_=_)<;>simp only[ag,go_sem,go_sem_proc,ev,im,iq,fb,fc,bm,c1,dn,eD,dh,ca,aW,lN,lO,tf,d1,nc,ej,he,l8,bN,ah,bne,db]<;>try refine ab ?_ ?_)
   ·rw[he] at vX;rw[vX] at a5 Gy Dl;dsimp only at Gy Dl;simp only[if_true] at a5;have Wi:=Dl rfl;clear vX Dl uB p4 KK;simp only[go_sem,go_sem_proc,ev,im,iq,fb,fc,bm,c1,dn,eD,dh,ca,aW,lN,lO,tf,d1,nc,ej,he,ah,bne,cZ]
    refine cV [1,5,6,7,14] [427001,427028,427136] (λ((i,acc,ph):Nat×List Nat×Nat) tm m=>i<=D cap/\D acc<=i/\oB cap base ls left l6 (D cap) 0 []=oB cap base ls left l6 (D cap-i) i acc/\tm 17=.I (.int .i64 i)/\tm 16=.ref 427115 ph 1 0 (D acc)/\m 427115=some (ph,aQ nx acc)/\dO 427 emp m) (λ(i,_,_)=>D cap-i) (0,[],gL (m 427115)) (by
     refine⟨dF _,c8 _,rfl,rfl,rfl,?_,?_⟩
     ·simp[aT,aQ]
     ·repeat first|exact dq|refine dO.dZ ?_ (by decide)|refine dO.kill ?_ (by decide)) ?_
    intro vs ms aI aD;simp only[go_sem,go_sem_proc,ev,im,iq,fb,fc,bm,c1,dn,eD,aW,lN,lO,ah] at aI aD;subst aI aD;clear dh ca tf aW lN lO dq bm c1 dn eD tm m;rintro⟨i,acc,ph⟩ tm m Q hm ⟨Z,arN,eU,h0,my,h2,dq⟩;simp only[go_sem,go_sem_proc,ev,im,iq,fb,fc,bj] at Q hm;obtain⟨bm,c1,dn,eD,DO⟩:=Q;obtain⟨aW,lN,lO⟩:=hm;rcases dt (i<D cap) with an|bB
    ·have d1:decide ((i:Int)<(D cap:Int))=true:=c5;have bJ:=e1 (i:=i) (by omega);obtain⟨⟨⟨ch,dB⟩,⟨gu,iF⟩⟩,dg⟩:∃f,cap[i]?=some f:=⟨_,bc an⟩;obtain⟨⟨⟨bR,cz⟩,⟨er,eC⟩⟩,eI⟩:∃f,base[i]?=some f:=⟨_,bc (by omega)⟩;obtain⟨j5,dr⟩:∃f,left[i]?=some f:=⟨_,bc (by omega)⟩;have xn:=ny _ (cJ dg);have zc:=nz _ (cJ eI);have gc:cap.getD i bA=((ch,dB),(gu,iF)):=by rw[dG,dg];rfl
     have qR:base.getD i bA=((bR,cz),(er,eC)):=by rw[dG,eI];rfl
     have gl:left.getD i false=j5:=by rw[dG,dr];rfl
     have hT:=xm dr;have g4:=uA (l:=left) (k:=i) (by omega);have g1:(D cap)-i=(D cap-(i+1))+1:=by omega
     rw[g1] at eU;replace eU:=eU.trans (oB.eq_2 ..);rw[gl,gc,qR] at eU;rcases j5
     ·simp only[cC,if_false] at eU;have fm:=WV bR cz er eC ls l6 i ⟨zc,nA,Gy,λl ae _=>⟨(eY l ae).1,by rw[Wi];exact (eY l ae).2.1⟩⟩
      have wT:=W3 (base:=((bR,cz),(er,eC))) (ls:=ls) (x:=l6) (to:=i);have u0:=W4 (base:=((bR,cz),(er,eC))) (ls:=ls) (x:=l6) (to:=i);have AV:okF (lI ((bR,cz),(er,eC)) ls l6 i).1:=KI l6 i ls _ zc;generalize lI ((bR,cz),(er,eC)) ls l6 i=Gt at *;obtain⟨⟨⟨f1,f2⟩,⟨f3,f4⟩⟩,KA⟩:=Gt;dsimp only at eU AV wT u0;obtain⟨Xm,Xn⟩:=AV;obtain⟨iw,mO⟩:=xn;dsimp only at Xm Xn iw mO;rcases KA
      ·simp only[cC,if_false] at eU;rw[eU] at a5;rw[a5];rw[wT rfl] at fm;simp only[ar] at fm;refine af ?_;repeat' (intro (ag:_=_)<;>simp only[ag,go_sem,go_sem_proc,ev,im,iq,fb,fc,bm,c1,dn,eD,DO,h0,my,aW,lN,lO,h2,d1,bJ,dg,eI,dr,hT,g4,an,fm,l8,ar,bA,bN,dL,ah,bd]<;>try refine ab ?_ ?_)
      ·simp only[if_true] at eU;rw[u0 rfl] at fm;simp only[ar] at fm;rcases eX:decide (lC ((f1,f2),(f3,f4)) ((ch,dB),(gu,iF))<0)
       ·rw[eX] at eU;simp only[cC,if_false] at eU;refine af ?_;repeat' (intro (ag:_=_)<;>simp only[ag,go_sem,go_sem_proc,ev,im,iq,fb,fc,bm,c1,dn,eD,DO,h0,my,aW,lN,lO,h2,d1,bJ,dg,eI,dr,hT,g4,an,fm,eX,iw,mO,Xm,Xn,ar,dL,ah,bd]<;>try refine ab ?_ ?_)
        exact⟨(i+1,acc,ph),by dsimp only;omega,by dsimp only;omega,by dsimp only;omega,eU,rfl,rfl,rfl,by repeat first|exact dq|refine dO.dZ ?_ (by decide)⟩
       ·rw[eX] at eU;simp only[if_true] at eU;have cY:=lq xa UX 427115 ph 8 acc i (cs:=[.I (.int .i64 i)]) rfl (by omega) (by omega);have gD:(acc++[i]).length=D acc+1:=by simp
        refine af ?_;repeat' (intro (ag:_=_)<;>simp only[ag,go_sem,go_sem_proc,ev,im,iq,fb,fc,bm,c1,dn,eD,DO,h0,my,aW,lN,lO,h2,d1,bJ,dg,eI,dr,hT,g4,an,fm,eX,cY,iw,mO,Xm,Xn,ar,dL,ah,bd]<;>try refine ab ?_ ?_)
        exact⟨(i+1,acc++[i],ph+1),by dsimp only;omega,by dsimp only;omega,by dsimp only;omega,eU,rfl,by rw[gD],rfl,by repeat first|exact dq|refine dO.dZ ?_ (by decide)⟩
     ·simp only[if_true] at eU;refine af ?_;repeat' (intro (ag:_=_)<;>simp only[ag,go_sem,go_sem_proc,ev,im,iq,fb,fc,bm,c1,dn,eD,DO,h0,my,aW,lN,lO,h2,d1,bJ,dg,eI,dr,hT,g4,an,ar,dL,ah,bd]<;>try refine ab ?_ ?_)
      exact⟨(i+1,acc,ph),by dsimp only;omega,by dsimp only;omega,by dsimp only;omega,eU,rfl,rfl,rfl,by repeat first|exact dq|refine dO.dZ ?_ (by decide)⟩
    ·have d1:decide ((i:Int)<(D cap:Int))=false:=de;have hy:i=D cap:=by omega
     subst hy;rw[hF] at eU;replace eU:=eU.trans (oB.eq_1 ..);have gJ:=KJ _ _ _ _ eU;rw[eU] at a5
     cases acc with
     |nil =>
      dsimp only at a5;rw[a5];have ez:=jV (n:=4) PB lO;refine af ?_;repeat' (intro (ag:_=_)<;>simp only[ag,go_sem,go_sem_proc,ev,im,iq,fb,fc,bm,c1,dn,eD,DO,h0,my,aW,lN,lO,h2,d1,ez,l8,mV,ah,show (((0:Nat):Int)==0)=true from rfl]<;>try refine ab ?_ ?_)
     |cons i0 lv =>
      dsimp only at a5;have bo:((((i0::lv).length:Nat):Int)==0)=false:=by simp;omega
      have wL:i0<D cap/\left.getD i0 false=false:=by
       rcases gJ i0 (by simp) with h|⟨-,F,G⟩
       ·cases h
       ·exact⟨by omega,G⟩
      have Wj:∀j∈i0::lv,j<D cap:=λj Y=>by
       rcases gJ j Y with h|⟨-,F,G⟩
       ·cases h
       ·omega
      have jB:=Wg (left:=left) (i:=i0) (lv:=lv) (by omega) wL.2;generalize Bq:i0::lv=eV at *;simp only[go_sem,go_sem_proc,ev,im,iq,fb,fc,bm,c1,dn,eD,DO,h0,my,aW,lN,lO,h2,d1,bo,ah];refine cV [1,5,6,7,16] [427001,427115,427136] (λ(j:Nat) tm m=>j<=D eV/\tm 20=.I (.int .i64 j)/\m 427028=some (0,aQ kN (lJ left (eV.take j)))/\dO 427 emp m) (λj=>D eV-j) 0 (by refine⟨dF _,rfl,lN,dq⟩) ?_;intro vs ms aI aD;simp only[go_sem,go_sem_proc,ev,im,iq,fb,fc,bm,c1,dn,eD,my,aW,lO,h2] at aI aD;subst aI aD;clear bm c1 dn eD DO h0 my aW lN lO h2 dq tm m;rintro j tm m Q hm ⟨Y,qF,lN,dq⟩;simp only[go_sem,go_sem_proc,ev,im,iq,fb,fc,bj] at Q hm;obtain⟨bm,c1,dn,eD,AT⟩:=Q;obtain⟨aW,h2,lO⟩:=hm;rcases dt (j<D eV) with hj|CW
      ·have d2:decide ((j:Int)<(D eV:Int))=true:=c5;have hs:=e1 (i:=j) (by omega);obtain⟨x,J⟩:∃f,eV[j]?=some f:=⟨_,bc hj⟩;have vk:=Wj x (cJ J);have Wk:=ae5 J;have KM:=ae6 (l:=eV) (k:=j) hj;have zL:(lJ left (eV.take j)).length=D cap:=by rw[Pz];exact vK
       have g4:=uA (l:=lJ left (eV.take j)) (k:=x) (by omega);have tW:=PD (l:=lJ left (eV.take j)) (k:=x) (by omega) true
       have p2:(lJ left (eV.take j)).set x true=lJ left (eV.take (j+1)):=by
        rw[hn,J,ae1];rfl
       rw[p2] at tW;refine af ?_;repeat' (intro (ag:_=_)<;>simp only[ag,go_sem,go_sem_proc,ev,im,iq,fb,fc,bm,c1,dn,eD,AT,qF,aW,lN,h2,lO,d2,hs,Wk,KM,vk,g4,tW,hj,dL]<;>try refine ab ?_ ?_)
       exact⟨j+1,by omega,by omega,rfl,rfl,by repeat first|exact dq|refine dO.dZ ?_ (by decide)⟩
      ·have d2:decide ((j:Int)<(D eV:Int))=false:=de;have Wl:j=D eV:=by omega
       subst Wl;rw[mB] at lN;have nc:=λ(K:a6->Prop) (st:a6)=>sl (K:=K) (st:=st) xa 16 427115 ph eV;have cY:=lq PB ae3 427136 g 24 rounds eV (cs:=[.I (.ao (eV.map nx))]) rfl (by omega) (by omega);have b7:(rounds++[eV]).length=D rounds+1:=by simp
       refine af ?_;repeat' (intro (ag:_=_)<;>simp only[ag,go_sem,go_sem_proc,ev,im,iq,fb,fc,bm,c1,dn,eD,AT,qF,aW,lN,h2,lO,d2,nc,cY,ah]<;>try refine ab ?_ ?_)
       exact⟨(k,lJ left eV,rounds++[eV],g+1),by dsimp only;omega,by rw[Pz];exact vK,by dsimp only;omega,by dsimp only;omega,a5,by rw[b7],rfl,rfl,by repeat first|exact dq|refine dO.dZ ?_ (by decide)|refine dO.kill ?_ (by decide)⟩
end Go.Mini
