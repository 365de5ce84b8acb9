/- A part of the proof. -/
import Derived.Test.YtplehnijfhgclaaGreatDoorM04
set_option linter.unusedSimpArgs false
set_option linter.unusedVariables false
set_option linter.defProp false
set_option maxRecDepth 100000
set_option maxHeartbeats 4000000
noncomputable section
open Bool renaming and_eq_true->ff,and_false->iZ,and_self->KD,and_true->pF,eq_iff_iff->af6,false_and->eO,false_eq_true->cE,not_false->dc,not_true->c2,true_and->e0
open Decidable renaming em->du
open Int renaming eq_ofNat_of_zero_le->vJ,fmod_add_mul_fdiv->Lt,fmod_lt_of_pos->Lv,fmod_nonneg_of_pos->Lu,lt_or_gt_of_ne->WO,lt_trichotomy->oX,mul_le_mul_of_nonneg_left->tP,mul_le_mul_of_nonneg_right->kI,mul_nonneg->sA,mul_one->qB,natAbs_natCast->nr,natAbs_neg->rr,natCast_pos->Cr,sign_eq_neg_one_of_neg->kJ,sign_eq_one_of_pos->gq,sign_mul->nS,sign_neg->yH,sign_sign->yO,sign_trichotomy->Jp,sub_zero->Af,toNat_natCast->lX,zero_mul->yL
open List renaming all_append->Di,all_cons->u3,any_eq_false->sN,any_eq_true->DG,append_assoc->ki,append_nil->mX,drop->nL,drop_eq_getElem_cons->gx,drop_eq_nil_of_le->lj,ext_getElem?->qm,findIdx_map->ahh,getD_eq_getElem?_getD->dH,getElem?_append_left->uQ,getElem?_append_right->r4,getElem?_drop->oI,getElem?_eq_getElem->bf,getElem?_eq_none->lk,getElem?_eq_some_iff->dL,getElem?_map->bg,getElem?_set->lF,getElem_drop->JN,getElem_mem->hb,length->D,length_append->ks,length_cons->lQ,length_drop->pG,length_map->aj,length_nil->mV,length_replicate->hs,length_set->fk,length_take->gk,length_zip->agT,map_append->pT,map_cons->g0,map_nil->bP,map_set->CF,mem_append->h5,mem_cons->kt,mem_cons_of_mem->ur,mem_cons_self->lU,mem_map->h7,mem_of_getElem?->cL,mem_or_eq_of_mem_set->nW,mem_singleton->sE,replicate->ch,replicate_succ'->agE,set_append_right->Az,set_cons_succ->FV,set_cons_zero->qM,take->mZ,take_add_one->ho,take_length->mB,take_of_length_le->dF,take_succ_cons->EA
open List.cons renaming injEq->bl
open Nat renaming add_zero->lo,gcd->gr,le_refl->c9,lt_or_ge->gY,lt_succ_self->KM,mul_one->dM,pos_of_ne_zero->EK,reduceEqDiff->sW,sub_self->hG,zero_le->dG
open Option renaming bind_none->o1,map_some->kU
open Option.some renaming inj->mm,injEq->bO
open Prod renaming ext->cz,fst->nt
open Prod.mk renaming injEq->eM
open Rat renaming divInt->lA
namespace Go.Mini
open Go
def Ld:=bI iO λ(s,l,s2,Z)=>ca (D l<=1000000/\D Z<=1000000) (.same (km (l1 (s,l) (s2,Z))))
@[go_sem] def aBv (s l s2 Z):=cl Ld rfl qI (s,l,s2,Z) rfl
def asy (T:bj)(fx:T kG=aG uD)(rN:T IL=aG K6)(rO:T IM=aG K4)(lK:T z8=aG GN)(gT:T od=aG zk):WF T afl Ld:=by
 refine b7 λ(s,l,s2,Z)=>cq λY=>⟨rfl,b6 ?_⟩;simp only[afl,iO,bX];obtain⟨bs,br⟩:=Y
 by_cases M:cK (s,l)=true
 ·by_cases aW:cK (s2,Z)=true
  ·obtain⟨x,L,e⟩:=(hp _).1 M;obtain⟨y,ak,az⟩:=(hp _).1 aW
   by_cases hM:y=0
   ·have hm:l1 (s,l) (s2,Z)=((0,[]),(0,[]),15):=by
     rw[e,az];unfold l1
     rw[jZ L,jZ ak,eK,eK,aL (by rfl),aL hM]
    rw[hm]
    cases e
    cases az;have au:((y.sign:Int)==0)=true:=by rw[hM];rfl
    refine ah ?_;repeat' (intro (ai:_=_)<;>simp only[ai,go_sem,go_sem_proc,fx,rN,rO,lK,gT,M,aW,bs,br,au,b5,km,bP]<;>try refine ae ?_ ?_)
   ·have hm:l1 (s,l) (s2,Z)=(bb (x.fdiv y),bb (x.fmod y),0):=by
     rw[e,az];exact yM L ak hM
    rw[hm];clear hm
    cases e
    cases az;have mz:=m4 L;have k2:=m4 ak;have Cp:(y.sign==0)=false:=by rw[beq_eq_false_iff_ne,Ne,Int.sign_eq_zero_iff_zero];exact hM
    have Cq:0<y.natAbs:=by omega
    have F:=m5 x;have G:=m5 y;have aR:x.sign*y.sign=(x*y).sign:=(nS x y).symm;have ad:=m5 (x*y);have hw:IntKind.i64.wrap (x.sign*y.sign)=x.sign*y.sign:=by rw[aR];exact wrap64 _ (by omega) (by omega)
    have hdiv:=afM x.natAbs y.natAbs ⟨by omega,by omega,Cq⟩
    simp only[dv] at hdiv;have aU:=Fx (y:=y) L hM;have Fy:=abF (x:=x) ak hM;have T4:x.natAbs/y.natAbs<cY:=Nat.lt_of_le_of_lt (Nat.div_le_self _ _) L;have am9:(aH (x.natAbs/y.natAbs)).length<=60:=fY.2 T4;have yN:x.natAbs%y.natAbs<cY:=Nat.lt_trans (Nat.mod_lt _ Cq) ak;have ana:(aH (x.natAbs%y.natAbs)).length<=60:=fY.2 yN
    by_cases sJ:x.sign*y.sign<0/\x.natAbs%y.natAbs≠0
    ·obtain⟨eq,sK⟩:=N0 sJ.1 sJ.2
     have bq:(((aH (x.natAbs%y.natAbs)).length:Int)==0)=false:=by
      have:aH (x.natAbs%y.natAbs)≠[]:=by rw[Ne,yi];exact sJ.2
      have:=List.length_pos_iff.2 this;rw[beq_eq_false_iff_ne];omega
     have l0:decide (x.sign*y.sign>=0)=false:=me (by have:=sJ.1;omega);have jY:aH 1=[1]:=by simp[aH,wF]
     have anb:(aH 1).length=1:=by rw[jY];rfl
     have sI:=afF (x.natAbs/y.natAbs) 1 ⟨by omega,by omega⟩
     simp only[dv,jY,g0,bP,aI] at sI;have g2:=PV y.natAbs (x.natAbs%y.natAbs) ⟨by omega,by omega,Nat.le_of_lt (Nat.mod_lt _ Cq)⟩
     simp only[dv] at g2
     have nj:(aH (x.natAbs/y.natAbs+1)).length<=1000000:=by
      have:(x.natAbs/y.natAbs+1)<cY:=by rw[eq] at aU;rw[rr,nr] at aU;exact aU
      have:=(fY (k:=60)).2 this;omega
     have qE:(aH (y.natAbs-x.natAbs%y.natAbs)).length<=1000000:=by have:=Fu y.natAbs (x.natAbs%y.natAbs);omega
     have fv:jX (-1) (aH (x.natAbs/y.natAbs+1))=bb (x.fdiv y):=m3 (by rw[eq,rr,nr]) λ_=>by rw[eq,yH,gq (show (0:Int)<((x.natAbs/y.natAbs+1:Nat):Int) by exact Cr.2 (Nat.succ_pos _))]
     have hO:jX y.sign (aH (y.natAbs-x.natAbs%y.natAbs))=bb (x.fmod y):=by
      refine m3 ?_ λaC=>?_
      ·rw[sK];rcases kl y with ⟨e',ad⟩|⟨e',ad⟩|⟨e',ad⟩<;>rw[e']<;>omega
      ·rw[sK,nS,yO,gq (show (0:Int)<((y.natAbs-x.natAbs%y.natAbs:Nat):Int) by omega),qB]
     refine ah ?_;repeat' (intro (ai:_=_)<;>simp only[ai,go_sem,go_sem_proc,fx,rN,rO,lK,gT,M,aW,bs,br,Cp,hw,hdiv,bq,l0,sI,g2,nj,qE,fv,hO,aI,aj,b5,km,ot]<;>try refine ae ?_ ?_)
    ·obtain⟨eq,sK⟩:=N1 hM sJ
     have T5:(decide (x.sign*y.sign>=0)=false/\(((aH (x.natAbs%y.natAbs)).length:Int)==0)=true)\/decide (x.sign*y.sign>=0)=true:=by
      by_cases aC:x.sign*y.sign<0
      ·left
       have:x.natAbs%y.natAbs=0:=Decidable.not_not.1 λh=>sJ ⟨aC,h⟩;rw[this];exact⟨df,rfl⟩
      ·right;exact c7
     have nj:(aH (x.natAbs/y.natAbs)).length<=1000000:=by omega
     have qE:(aH (x.natAbs%y.natAbs)).length<=1000000:=by omega
     have fv:jX (x.sign*y.sign) (aH (x.natAbs/y.natAbs))=bb (x.fdiv y):=by
      refine m3 ?_ λaC=>?_
      ·rw[eq]
       have uc:∀a5:Nat,(x=0->a5=0)->(x.sign*y.sign*(a5:Int)).natAbs=a5:=by
        intro a5 au;rcases kl x with ⟨e,F⟩|⟨e,F⟩|⟨e,F⟩<;>rcases kl y with ⟨e',ad⟩|⟨e',ad⟩|⟨e',ad⟩<;>rw[e,e']<;>first|omega|(rw[au F];rfl)
       exact uc _ λau=>by rw[au];exact Nat.zero_div _
      ·rw[eq,aR,nS,nS,nS,yO,yO,gq (show (0:Int)<((x.natAbs/y.natAbs:Nat):Int) from Cr.2 (EK aC)),qB]
     have hO:jX x.sign (aH (x.natAbs%y.natAbs))=bb (x.fmod y):=by
      refine m3 ?_ λaC=>?_
      ·rw[sK]
       have uc:∀a5:Nat,(x=0->a5=0)->(x.sign*(a5:Int)).natAbs=a5:=by
        intro a5 au;rcases kl x with ⟨e,F⟩|⟨e,F⟩|⟨e,F⟩<;>rw[e]<;>first|omega|(rw[au F];rfl)
       exact uc _ λau=>by rw[au];exact Nat.zero_mod _
      ·rw[sK,nS,yO,gq (show (0:Int)<((x.natAbs%y.natAbs:Nat):Int) from Cr.2 (EK aC)),qB]
     rcases T5 with ⟨Cs,T6⟩|Cs
     ·refine ah ?_;repeat' (intro (ai:_=_)<;>simp only[ai,go_sem,go_sem_proc,fx,rN,rO,lK,gT,M,aW,bs,br,Cp,hw,hdiv,Cs,T6,nj,qE,fv,hO,aI,aj,b5,km,ot]<;>try refine ae ?_ ?_)
     ·refine ah ?_;repeat' (intro (ai:_=_)<;>simp only[ai,go_sem,go_sem_proc,fx,rN,rO,lK,gT,M,aW,bs,br,Cp,hw,hdiv,Cs,nj,qE,fv,hO,aI,aj,b5,km,ot]<;>try refine ae ?_ ?_)
  ·have aW:cK (s2,Z)=false:=by simpa using aW
   have hm:l1 (s,l) (s2,Z)=((0,[]),(0,[]),1):=by unfold l1;rw[aW,iZ];rfl
   rw[hm];refine ah ?_;repeat' (intro (ai:_=_)<;>simp only[ai,go_sem,go_sem_proc,fx,rN,rO,lK,gT,M,aW,bs,br,b5,km,bP]<;>try refine ae ?_ ?_)
 ·have M:cK (s,l)=false:=by simpa using M
  have hm:l1 (s,l) (s2,Z)=((0,[]),(0,[]),1):=by unfold l1;rw[M,eO];rfl
  rw[hm];refine ah ?_;repeat' (intro (ai:_=_)<;>simp only[ai,go_sem,go_sem_proc,fx,rN,rO,lK,gT,M,bs,br,b5,km,bP]<;>try refine ae ?_ ?_)
def afT:bG:=bV 19 2 [.t 4] (O [cm 2 115002 0,bY 4 false] (O [aE 5 0 2,aE 6 1 5,aJ 7 1 6,cg 8 7,E 9 1,bt 10 .leq 8 9,E 11 10,hI 12 11 2 2,hI 13 11 1 12,iz 14 11 1 13,Tc 15 11 14,ev 16 11 1,E3 17 11 .leq 15 16,fF 18 11 17,E 4 18] .ret))
def afU:bG:=bV 17 2 [.t 4] (O [cm 2 120002 0,cm 3 120003 1,bY 4 false] (O [aE 5 0 2,aD 6 2 5,aE 7 0 3,aD 8 2 7,bK 9 Nn 6 8,E 10 9,hI 11 10 2 2,Ca 12 10 2 11,hI 13 10 2 3,Ca 14 10 2 13,fB 15 10 (.call Nn [.t 12,.t 14]),fF 16 10 15,E 4 16] .ret))
def afV:bG:=bV 13 2 [.cell 4 4 true,.t 5] (O [bR 4 124004 cM,ba 5 0] (O [E 6 0,c8 7 EO 6,E 8 1,c8 9 EO 8,bK 10 IF 7 9,aP 11 0 10,aP 12 1 10,a1 4 4 11,E 5 12] .ret))
def afW:bG:=bV 38 2 [.t 4] (O [cm 2 142002 0,cm 3 142003 1,bY 4 false] (.seq (O [aE 6 0 2,aJ 7 1 6,aE 8 0 3,aJ 9 1 8,bt 10 .neq 7 9,E 11 10,fr 12 11 1 2,fA 13 11 1 12,nJ 14 11 13,fr 15 11 1 3,fA 16 11 1 15,nJ 17 11 16,nK 18 11 .neq 14 17,cF 19 11 18] (bQ 19 [bY 4 false])) (.seq (O [ba 5 0] (dU 0 (.seq (O [E 20 5,aE 21 1 2,aJ 22 1 21,cg 23 22,bt 24 .lss 20 23] (de 24 0)) (.seq (.block 1 (e3 [aE 27 1 2,aJ 28 1 27,E 29 5,bE 30 1 28 29,aJ 31 1 30,aE 32 1 3,aJ 33 1 32,E 34 5,bE 35 1 33 34,aJ 36 1 35,bt 37 .neq 31 36] IX (bQ 37 [bY 4 false]))) (.ops [E 25 5,bd 26 .add 25 1,E 5 26]))))) (O [bY 4 true] .ret))))
def afX:bG:=bV 57 2 [.cell 4 4 true,.t 5] (O [cm 2 143002 0,cm 3 143003 1,bR 4 143004 cM,ba 5 0] (.seq (O [aD 14 2 2,c8 15 kG 14,dT 16 15,E 17 16,hx 18 17 2 3,fs 19 17 (.call kG [.t 18]),ib 20 17 19,cF 21 17 20] (bQ 21 [aB 22 (.build cM []),a1 4 4 22,ba 5 1])) (.seq (O [aE 23 0 3,aJ 24 1 23,bd 25 .eql 24 0] (bQ 25 [aB 26 (.build cM []),a1 4 4 26,ba 5 15])) (.seq (O [aE 27 0 3,aJ 28 1 27,bd 29 .lss 28 0] (fj 29 (O [aD 30 2 2,c8 31 ET 30,a1 2 2 31] (.ops [aD 32 2 3,c8 33 ET 32,a1 2 3 33])) .skip)) (O [aD 35 2 2,aD 36 2 3,bK 37 II 35 36,E 34 37,aP 38 0 34,aP 39 1 34,bR 6 143006 c6,a1 2 6 38,E 7 39] (O [aD 41 2 2,aD 42 2 6,bK 43 BX 41 42,E 40 43,aP 44 0 40,aP 45 1 40,aP 46 2 40,bR 8 143008 c6,bR 9 143009 c6,a1 2 8 44,a1 2 9 45,E 10 46] (O [aD 48 2 3,aD 49 2 6,bK 50 BX 48 49,E 47 50,aP 51 0 47,aP 52 1 47,aP 53 2 47,bR 11 143011 c6,bR 12 143012 c6,a1 2 11 51,a1 2 12 52,E 13 53] (O [aD 54 2 8,aD 55 2 11,aB 56 (.build cM [(0,2,.t 54),(2,2,.t 55)]),a1 4 4 56,ba 5 0] .ret))))))))
def afY:bG:=bV 72 2 [.cell 4 4 true,.t 5] (O [cm 2 195002 0,cm 3 195003 1,bR 4 195004 cM,ba 5 0] (.seq (O [aD 14 4 2,c8 15 kY 14,dT 16 15,E 17 16,hx 18 17 4 3,fs 19 17 (.call kY [.t 18]),ib 20 17 19,cF 21 17 20] (bQ 21 [aB 22 (.build cM []),a1 4 4 22,ba 5 1])) (O [aE 24 0 2,aD 25 2 24,aE 26 2 3,aD 27 2 26,bK 28 qA 25 27,E 23 28,aP 29 0 23,aP 30 1 23,bR 6 195006 c6,a1 2 6 29,E 7 30] (O [aE 32 0 3,aD 33 2 32,aE 34 2 2,aD 35 2 34,bK 36 qA 33 35,E 31 36,aP 37 0 31,aP 38 1 31,bR 8 195008 c6,a1 2 8 37,E 9 38] (O [aE 40 2 2,aD 41 2 40,aE 42 2 3,aD 43 2 42,bK 44 qA 41 43,E 39 44,aP 45 0 39,aP 46 1 39,bR 10 195010 c6,a1 2 10 45,E 11 46] (O [aD 48 2 6,aD 49 2 8,bK 50 SU 48 49,E 47 50,aP 51 0 47,aP 52 1 47,bR 12 195012 c6,a1 2 12 51,E 13 52] (O [aD 53 2 12,aD 54 2 10,E 55 7,bd 56 .neq 55 0,E 57 56,dK 58 57 9,gN 59 57 .neq 58 0,cF 60 57 59,E 61 60,dK 62 61 11,gN 63 61 .neq 62 0,cF 64 61 63,E 65 64,dK 66 65 13,gN 67 65 .neq 66 0,cF 68 65 67,yr 69 yo 53 54 68,aP 70 0 69,aP 71 1 69,a1 4 4 70,E 5 71] .ret)))))))
def afZ:bG:=bV 33 1 [.t 2] (O [cm 1 196001 0,bY 2 false] (.seq (O [aE 5 0 1,aD 6 2 5,c8 7 kG 6,dT 8 7,E 9 8,fr 10 9 2 1,hx 11 9 2 10,fs 12 9 (.call kG [.t 11]),ib 13 9 12,cF 14 9 13,E 15 14,fr 16 15 2 1,fr 17 15 0 16,fA 18 15 1 17,gN 19 15 .lss 18 1,cF 20 15 19] (bQ 20 [bY 2 false])) (O [aE 22 0 1,aD 23 2 22,aE 24 2 1,aD 25 2 24,bK 26 II 23 25,E 21 26,aP 27 0 21,aP 28 1 21,bR 3 196003 c6,a1 2 3 27,E 4 28] (e3 [aD 29 2 3,aB 30 (.call EO [.c (bn 1)]),bK 31 IS 29 30,bd 32 .eql 31 0,E 2 32] alE .ret))))
def af0:bG:=bV 46 2 [.cell 4 4 true,.t 5] (O [cm 2 197002 0,cm 3 197003 1,bR 4 197004 cM,ba 5 0] (.seq (O [aD 10 4 2,c8 11 kY 10,dT 12 11,E 13 12,hx 14 13 4 3,fs 15 13 (.call kY [.t 14]),ib 16 13 15,cF 17 13 16] (bQ 17 [aB 18 (.build cM []),a1 4 4 18,ba 5 1])) (O [aE 20 0 2,aD 21 2 20,aE 22 0 3,aD 23 2 22,bK 24 qA 21 23,E 19 24,aP 25 0 19,aP 26 1 19,bR 6 197006 c6,a1 2 6 25,E 7 26] (O [aE 28 2 2,aD 29 2 28,aE 30 2 3,aD 31 2 30,bK 32 qA 29 31,E 27 32,aP 33 0 27,aP 34 1 27,bR 8 197008 c6,a1 2 8 33,E 9 34] (O [aD 35 2 6,aD 36 2 8,E 37 7,bd 38 .neq 37 0,E 39 38,dK 40 39 9,gN 41 39 .neq 40 0,cF 42 39 41,yr 43 yo 35 36 42,aP 44 0 43,aP 45 1 43,a1 4 4 44,E 5 45] .ret)))))
def af1:bG:=bV 72 2 [.cell 4 4 true,.t 5] (O [cm 2 198002 0,cm 3 198003 1,bR 4 198004 cM,ba 5 0] (.seq (O [aD 14 4 2,c8 15 kY 14,dT 16 15,E 17 16,hx 18 17 4 3,fs 19 17 (.call kY [.t 18]),ib 20 17 19,cF 21 17 20] (bQ 21 [aB 22 (.build cM []),a1 4 4 22,ba 5 1])) (O [aE 24 0 2,aD 25 2 24,aE 26 2 3,aD 27 2 26,bK 28 qA 25 27,E 23 28,aP 29 0 23,aP 30 1 23,bR 6 198006 c6,a1 2 6 29,E 7 30] (O [aE 32 0 3,aD 33 2 32,aE 34 2 2,aD 35 2 34,bK 36 qA 33 35,E 31 36,aP 37 0 31,aP 38 1 31,bR 8 198008 c6,a1 2 8 37,E 9 38] (O [aE 40 2 2,aD 41 2 40,aE 42 2 3,aD 43 2 42,bK 44 qA 41 43,E 39 44,aP 45 0 39,aP 46 1 39,bR 10 198010 c6,a1 2 10 45,E 11 46] (O [aD 48 2 6,aD 49 2 8,bK 50 IT 48 49,E 47 50,aP 51 0 47,aP 52 1 47,bR 12 198012 c6,a1 2 12 51,E 13 52] (O [aD 53 2 12,aD 54 2 10,E 55 7,bd 56 .neq 55 0,E 57 56,dK 58 57 9,gN 59 57 .neq 58 0,cF 60 57 59,E 61 60,dK 62 61 11,gN 63 61 .neq 62 0,cF 64 61 63,E 65 64,dK 66 65 13,gN 67 65 .neq 66 0,cF 68 65 67,yr 69 yo 53 54 68,aP 70 0 69,aP 71 1 69,a1 4 4 70,E 5 71] .ret)))))))
def af2:bG:=bV 15 3 [.cell 6 4 true,.t 7] (O [cm 3 204003 0,cm 4 204004 1,bR 6 204006 cM,ba 7 0] (.seq (O [E 8 2] (bQ 8 [aB 9 (.build cM []),a1 4 6 9,ba 7 6])) (O [aD 10 2 3,aD 11 2 4,bK 12 IF 10 11,aP 13 0 12,aP 14 1 12,a1 4 6 13,E 7 14] .ret)))
def af3:bG:=bV 51 2 [.cell 4 4 true,.t 5] (O [cm 2 207002 0,cm 3 207003 1,bR 4 207004 cM,ba 5 0] (.seq (O [aD 10 4 2,c8 11 kY 10,dT 12 11,E 13 12,hx 14 13 4 3,fs 15 13 (.call kY [.t 14]),ib 16 13 15,cF 17 13 16] (bQ 17 [aB 18 (.build cM []),a1 4 4 18,ba 5 1])) (.seq (O [aE 19 0 3,aE 20 0 19,aJ 21 1 20,bd 22 .eql 21 0] (bQ 22 [aB 23 (.build cM []),a1 4 4 23,ba 5 15])) (O [aE 25 0 2,aD 26 2 25,aE 27 2 3,aD 28 2 27,bK 29 qA 26 28,E 24 29,aP 30 0 24,aP 31 1 24,bR 6 207006 c6,a1 2 6 30,E 7 31] (O [aE 33 2 2,aD 34 2 33,aE 35 0 3,aD 36 2 35,bK 37 qA 34 36,E 32 37,aP 38 0 32,aP 39 1 32,bR 8 207008 c6,a1 2 8 38,E 9 39] (O [aD 40 2 6,aD 41 2 8,E 42 7,bd 43 .neq 42 0,E 44 43,dK 45 44 9,gN 46 44 .neq 45 0,cF 47 44 46,yr 48 yo 40 41 47,aP 49 0 48,aP 50 1 48,a1 4 4 49,E 5 50] .ret))))))
def af4:bG:=bV 22 2 [.t 4] (O [cm 2 270002 0,cm 3 270003 1,ba 4 0] (.seq (O [aD 5 4 2,c8 6 kY 5,dT 7 6,E 8 7,hx 9 8 4 3,fs 10 8 (.call kY [.t 9]),ib 11 8 10,cF 12 8 11] (bQ 12 [ba 4 0])) (O [aE 13 0 2,aD 14 2 13,aE 15 2 2,aD 16 2 15,aE 17 0 3,aD 18 2 17,aE 19 2 3,aD 20 2 19,oU 21 EY 14 16 18 20,E 4 21] .ret)))
def P0:bG:=bV 54 4 [.t 8] (O [cm 4 278004 0,cm 5 278005 1,cm 6 278006 2,cm 7 278007 3,ba 8 0] (O [aD 17 2 4,aD 18 2 5,bK 19 BX 17 18,E 16 19,aP 20 0 16,aP 21 1 16,aP 22 2 16,bR 9 278009 c6,bR 10 278010 c6,a1 2 9 20,a1 2 10 21,E 11 22] (O [aD 24 2 6,aD 25 2 7,bK 26 BX 24 25,E 23 26,aP 27 0 23,aP 28 1 23,aP 29 2 23,bR 12 278012 c6,bR 13 278013 c6,a1 2 12 27,a1 2 13 28,E 14 29] (O [aD 30 2 9,aD 31 2 12,bK 32 IS 30 31,E 15 32] (.seq (O [E 33 15,bd 34 .neq 33 0] (bQ 34 [E 35 15,E 8 35])) (.seq (O [aE 36 0 10,aJ 37 1 36,bd 38 .eql 37 0,E 39 38,fr 40 39 0 13,fA 41 39 1 40,gN 42 39 .eql 41 0,cF 43 39 42] (bQ 43 [aE 44 0 10,aJ 45 1 44,aE 46 0 13,aJ 47 1 46,bt 48 .sub 45 47,E 8 48])) (O [aD 49 2 7,aD 50 2 13,aD 51 2 5,aD 52 2 10,oU 53 EY 49 50 51 52,E 8 53] .ret)))))))
def Le:=bI iO λ(s,l,s2,Z)=>ca (D l<=1000000/\D Z<=1000000) (.same (cR (ie (s,l) (s2,Z))))
@[go_sem] def aBw (s l s2 Z):=cl Le rfl qI (s,l,s2,Z) rfl
def asz (T:bj)(fx:T kG=aG uD)(A1:T ET=aG K7)(xz:T II=aG Lb)(xA:T BX=aG Ld):WF T afX Le:=by
 refine b7 λ(s,l,s2,Z)=>cq λY=>⟨rfl,b6 ?_⟩;simp only[afX,iO,bX];obtain⟨bs,br⟩:=Y
 by_cases M:cK (s,l)=true
 ·by_cases aW:cK (s2,Z)=true
  ·obtain⟨x,L,e⟩:=(hp _).1 M;obtain⟨y,ak,az⟩:=(hp _).1 aW
   by_cases au:y=0
   ·have hm:ie (s,l) (s2,Z)=(bC,15):=by
     unfold ie;rw[M,aW,az,eK,aL (by rfl),aL au]
    rw[hm]
    cases e
    cases az;have Q:(y.sign==0)=true:=by rw[au];rfl
    refine ah ?_;repeat' (intro h<;>simp only[h,go_sem,go_sem_proc,fx,A1,xz,xA,M,aW,bs,br,Q,cR,av,bC,bP]<;>try refine ae ?_ ?_)
   ·have main:∀p q:Int,p.natAbs<cY->q.natAbs<cY->0<q->∃g:Raw,mA (bb p) (bb q)=(g,0)/\g.2.length<=1000000/\l1 (bb p) g=(bb (lA p q).num,bb (p.fmod ((gr p.natAbs q.natAbs:Nat):Int)),0)/\l1 (bb q) g=(bb (lA p q).den,bb (q.fmod ((gr p.natAbs q.natAbs:Nat):Int)),0):=by
     intro p q aR aU lZ;have jT:=Fw aR aU;have Cu:((gr p.natAbs q.natAbs:Nat):Int).natAbs<cY:=by rw[nr];exact jT
     have rp:=Ue (p:=p) (q:=q) (by omega);obtain⟨F,G⟩:=Uc (p:=p) lZ;refine⟨bb ((gr p.natAbs q.natAbs:Nat):Int),?_,jc Cu,?_,?_⟩
     ·unfold mA;rw[jZ aR,jZ aU,eK,eK];rfl
     ·rw[yM aR Cu (by omega),F]
     ·rw[yM aU Cu (by omega),G]
    have rv:(y.sign==0)=false:=by simpa using au
    rcases WO au with l0|h3
    ·have fv:decide (y.sign<0)=true:=by rw[kJ l0];rfl
     obtain⟨⟨cJ,cQ⟩,aN,jT,jY,nQ⟩:=main (-x) (-y) (by omega) (by omega) (by omega)
     have hm:ie (s,l) (s2,Z)=(ee (lA (-x) (-y)),0):=by
      rw[e,az,FA L ak au,Rat.neg_divInt_neg]
     rw[hm];have uN:hy (s,l)=bb (-x):=by unfold hy;rw[aL M,e,eK]
     have qi:hy (s2,Z)=bb (-y):=by unfold hy;rw[aL aW,az,eK]
     have sL:s2=y.sign:=congrArg nt az;have en:(bb (-x)).2.length<=1000000:=jc (by omega);have eQ:(bb (-y)).2.length<=1000000:=jc (by omega);clear e az;unfold ee;generalize bb (-x)=X at *;generalize bb (-y)=nq at *;obtain⟨dA,dJ⟩:=X;obtain⟨og,qC⟩:=nq;rw[<-sL] at rv fv;refine ah ?_;repeat' (intro h<;>simp only[h,go_sem,go_sem_proc,fx,A1,xz,xA,M,aW,bs,br,rv,fv,uN,qi,en,eQ,aN,jT,jY,nQ,cR,av,eo,km,b5]<;>try refine ae ?_ ?_)
    ·have fv:decide (y.sign<0)=false:=by rw[gq h3];rfl
     obtain⟨⟨cJ,cQ⟩,aN,jT,jY,nQ⟩:=main x y L ak h3
     have hm:ie (s,l) (s2,Z)=(ee (lA x y),0):=by
      rw[e,az,FA L ak au]
     rw[hm];have sL:s2=y.sign:=congrArg nt az;rw[<-e] at aN jY;rw[<-az] at aN nQ;rw[<-sL] at rv fv;unfold ee;refine ah ?_;repeat' (intro h<;>simp only[h,go_sem,go_sem_proc,fx,A1,xz,xA,M,aW,bs,br,rv,fv,aN,jT,jY,nQ,cR,av,eo,km,b5]<;>try refine ae ?_ ?_)
  ·have aW:cK (s2,Z)=false:=by simpa using aW
   have hm:ie (s,l) (s2,Z)=(bC,1):=by unfold ie;rw[aW,iZ];rfl
   rw[hm];refine ah ?_;repeat' (intro h<;>simp only[h,go_sem,go_sem_proc,fx,A1,xz,xA,M,aW,bs,br,cR,av,bC,bP]<;>try refine ae ?_ ?_)
 ·have M:cK (s,l)=false:=by simpa using M
  have hm:ie (s,l) (s2,Z)=(bC,1):=by unfold ie;rw[M,eO];rfl
  rw[hm];refine ah ?_;repeat' (intro h<;>simp only[h,go_sem,go_sem_proc,fx,A1,xz,xA,M,bs,br,cR,av,bC,bP]<;>try refine ae ?_ ?_)
def Lf:=bI wL λ(p,q)=>ca (dY p/\dY q) (.same (cR (ie (bb p) (bb q))))
@[go_sem] def aBx (p q):=cl Lf rfl NG (p,q) rfl
def asA (T:bj)(GQ:T EO=aG K8)(P6:T IF=aG Le):WF T afV Lf:=by
 refine b7 λ(p,q)=>cq λY=>⟨rfl,b6 ?_⟩;simp only[afV,wL,bX];obtain⟨F,G⟩:=Y;have hZ:(bb p).2.length<=1000000:=jc (yP F);have Z:(bb q).2.length<=1000000:=jc (yP G);generalize dV:bb p=P at *;generalize e6:bb q=a5 at *;obtain⟨dA,dJ⟩:=P;obtain⟨og,qC⟩:=a5;refine ah ?_;repeat' (intro h<;>simp only[h,go_sem,go_sem_proc,GQ,P6,F,G,dV,e6,hZ,Z,b5,cR,av]<;>try refine ae ?_ ?_)
def P7:=bI iO λ(s,l,s2,Z)=>ca (D l<=1000000/\D Z<=1000000) (.same (.bool (qT (s,l) (s2,Z))))
@[go_sem] def aBy (s l s2 Z):=cl P7 rfl qI (s,l,s2,Z) rfl
def asB (T:bj):WF T afW P7:=by
 refine b7 λ(s,l,s2,Z)=>cq λY=>⟨rfl,b6 ?_⟩;simp only[afW,iO,bX];obtain⟨bs,br⟩:=Y
 by_cases Q:s=s2
 ·subst Q
  by_cases ag:(D l)=D Z
  ·have aQ:(((D l:Nat):Int)==((D Z:Nat):Int))=true:=by simp;omega
   simp only[go_sem,go_sem_proc,beq_self_eq_true,aj,aQ,c2,bne];refine cX [2,3] [142002,142003] (λ(i:Nat) tm mem=>i<=D l/\l.take i=Z.take i/\tm 5=.J (.int .i64 i)) (λi=>D l-i) 0 (by refine⟨by omega,by simp,rfl⟩) ?_;intro vs ms aK aF;simp only[go_sem,go_sem_proc,aj] at aK aF;subst aK aF;rintro i tm mem R hm ⟨ab,al,bw⟩;simp only[go_sem,go_sem_proc,bl] at R hm;obtain⟨G,ad⟩:=R;obtain⟨b0,fJ⟩:=hm;rcases du (i<D l) with aq|bD
   ·have L:l[i]?=some l[i]:=bf aq;have ak:Z[i]?=some Z[i]:=bf (by omega);have uN:l.take (i+1)=l.take i++[l[i]]:=by rw[ho,L];rfl
    have qi:Z.take (i+1)=Z.take i++[Z[i]]:=by rw[ho,ak];rfl
    generalize l[i]=x at *;generalize Z[i]=y at *;have d1:decide ((i:Int)<(D l:Int))=true:=c7;have bL:=e2 (i:=i) (by omega)
    by_cases hl:x=y
    ·subst hl;refine ah ?_;repeat' (intro (ai:_=_)<;>simp only[ai,go_sem,go_sem_proc,G,ad,bw,b0,fJ,L,ak,d1,bL,aI,aj,bg,bl,beq_self_eq_true,c2]<;>try refine ae ?_ ?_)
     exact⟨i+1,by omega,by omega,by rw[uN,qi,al],rfl⟩
    ·have bq:(x==y)=false:=by simpa using hl
     have M:qT (s,l) (s,Z)=false:=by
      refine me λh=>hl ?_;rw[eM] at h;rw[h.2,ak] at L;exact (mm L).symm
     rw[M];refine ah ?_;repeat' (intro (ai:_=_)<;>simp only[ai,go_sem,go_sem_proc,G,ad,bw,b0,fJ,L,ak,d1,bL,bq,aI,aj,bg,bl,dc]<;>try refine ae ?_ ?_)
   ·have d1:decide ((i:Int)<(D l:Int))=false:=df
    have M:qT (s,l) (s,Z)=true:=by
     refine mL ?_;rw[dF (by omega),dF (by omega)] at al;rw[al]
    rw[M];refine ah ?_;repeat' (intro (ai:_=_)<;>simp only[ai,go_sem,go_sem_proc,G,ad,bw,b0,fJ,d1,aj]<;>try refine ae ?_ ?_)
  ·have aQ:(((D l:Nat):Int)==((D Z:Nat):Int))=false:=by simp;omega
   have M:qT (s,l) (s,Z)=false:=by
    refine me λh=>ag ?_;rw[eM] at h;rw[h.2]
   rw[M];refine ah ?_;repeat' (intro (ai:_=_)<;>simp only[ai,go_sem,go_sem_proc,beq_self_eq_true,aj,aQ,c2,dc,bne]<;>try refine ae ?_ ?_)
 ·have bq:(s==s2)=false:=by simpa using Q
  have M:qT (s,l) (s2,Z)=false:=by
   refine me λh=>Q ?_;rw[eM] at h;exact h.1
  rw[M];refine ah ?_;repeat' (intro (ai:_=_)<;>simp only[ai,go_sem,go_sem_proc,bq,aj,c2,dc,bne]<;>try refine ae ?_ ?_)
def P8 (a b:ax):Bool:=decide (a=b)
def P9:=bI lB λ(s,l,s2,Z,bU,b1,bW,bZ)=>ca (D l<=1000000/\D Z<=1000000/\D b1<=1000000/\D bZ<=1000000) (.same (.bool (P8 ((s,l),(s2,Z)) ((bU,b1),(bW,bZ)))))
@[go_sem] def aBz (s l s2 Z bU b1 bW bZ):=cl P9 rfl vk (s,l,s2,Z,bU,b1,bW,bZ) rfl
def asC (T:bj)(af5:T Nn=aG P7):WF T afU P9:=by
 refine b7 λ(s,l,s2,Z,bU,b1,bW,bZ)=>cq λY=>⟨rfl,b6 ?_⟩;simp only[afU,lB,bX];obtain⟨bs,br,en,eQ⟩:=Y
 have e:P8 ((s,l),(s2,Z)) ((bU,b1),(bW,bZ))=(qT (s,l) (bU,b1)&&qT (s2,Z) (bW,bZ)):=by
  unfold P8 qT;rw[af6,ff,decide_eq_true_eq,decide_eq_true_eq,decide_eq_true_eq,eM]
 rw[e];rcases F:qT (s,l) (bU,b1)
 ·refine ah ?_;repeat' (intro h<;>simp only[h,go_sem,go_sem_proc,af5,bs,br,en,eQ,F,eO]<;>try refine ae ?_ ?_)
 ·refine ah ?_;repeat' (intro h<;>simp only[h,go_sem,go_sem_proc,af5,bs,br,en,eQ,F,e0]<;>try refine ae ?_ ?_)
def pq (f:ax)(n:Int):Bool:=decide ((f.1.2.length:Int)<=n)&&decide ((f.2.2.length:Int)<=n)
abbrev Qa:Int×(List Int)×Int×(List Int)×Int->List Data:=λ(s,l,s2,Z,n)=>[.agg [.int .i64 s,.ar (l.map aI),.int .i64 s2,.ar (Z.map aI)],.int .i64 n]
def Lg:=bI Qa λ(s,l,s2,Z,n)=>some (.same (.bool (pq ((s,l),(s2,Z)) n)))
def asD:∀a b,Qa a=Qa b->a=b:=by
  rintro⟨s1,hZ,tY,sG,rb⟩ ⟨s2,Z,tZ,sH,re⟩ h;simp only[bl,Data.agg.injEq,Data.int.injEq,Data.ar.injEq] at h;exact cz h.1.1.2 (cz (map_inj fX _ _ h.1.2.1) (cz h.1.2.2.1.2 (cz (map_inj fX _ _ h.1.2.2.2.1) h.2.1.2)))
@[go_sem] def aBA (s l s2 Z n):=sm Lg rfl asD (s,l,s2,Z,n) rfl
def asE (T:bj):WF T afT Lg:=by
 refine b7 λ(s,l,s2,Z,n)=>⟨rfl,b6 ?_⟩;simp only[afT,Qa,bX];unfold pq;rcases F:decide ((D l:Int)<=n)
 ·refine ah ?_;repeat' (intro h<;>simp only[h,go_sem,go_sem_proc,F,aj,eO]<;>try refine ae ?_ ?_)
 ·refine ah ?_;repeat' (intro h<;>simp only[h,go_sem,go_sem_proc,F,aj,e0]<;>try refine ae ?_ ?_)
def uE:=bI k4 λ(s,l,s2,Z)=>ca (D l<=1000000/\D Z<=1000000) (.same (.bool (cA ((s,l),(s2,Z)))))
@[go_sem] def aBB (s l s2 Z):=cl uE rfl ud (s,l,s2,Z) rfl
def asF (T:bj)(fx:T kG=aG uD)(xz:T II=aG Lb)(GQ:T EO=aG K8)(zm:T IS=aG La):WF T afZ uE:=by
 refine b7 λ(s,l,s2,Z)=>cq λY=>⟨rfl,b6 ?_⟩;simp only[afZ,k4,bX];obtain⟨bs,br⟩:=Y
 by_cases M:cK (s,l)=true
 ·by_cases aW:cK (s2,Z)=true
  ·obtain⟨x,L,e⟩:=(hp _).1 M;obtain⟨y,ak,az⟩:=(hp _).1 aW
   have aN:mA (s,l) (s2,Z)=(bb ((gr x.natAbs y.natAbs:Nat):Int),0):=by
    unfold mA;rw[M,aW,e,az,eK,eK];rfl
   have jT:=Fw L ak;have tx:gP (s,l)=x:=by rw[e,eK]
   have nE:gP (s2,Z)=y:=by rw[az,eK]
   have ed:cA ((s,l),(s2,Z))=((s2==1)&&(gr x.natAbs y.natAbs==1)):=by
    show (cK (s,l)&&(cK (s2,Z)&&((s2==1)&&(gr (gP (s,l)).natAbs (gP (s2,Z)).natAbs==1))))=_;rw[M,aW,tx,nE];simp only[e0]
   have sL:s2=y.sign:=congrArg nt az;have Co:=m5 y;rw[ed];have iw:pP (bb ((gr x.natAbs y.natAbs:Nat):Int)) (bb 1)=gd ((gr x.natAbs y.natAbs:Nat):Int) 1:=Js (by rw[nr];exact jT) (yP (by unfold dY;omega))
   have a6:(gd ((gr x.natAbs y.natAbs:Nat):Int) 1==0)=(gr x.natAbs y.natAbs==1):=by
    generalize gr x.natAbs y.natAbs=bh;rw[af6,beq_iff_eq,beq_iff_eq];rcases oX (bh:Int) 1 with h|h|h
    ·rw[yJ h];omega
    ·rw[h,Fv];omega
    ·rw[Cn h];omega
   have Ub:((bb ((gr x.natAbs y.natAbs:Nat):Int)).2).length<=1000000:=jc (by rw[nr];exact jT);have zK:dY 1:=by unfold dY;omega
   have Ju:(bb 1).2.length<=1000000:=jc (yP zK);rcases Q:decide (s2<1)
   ·have fv:(s2==1)=true:=by have:=of_decide_eq_false Q;rw[beq_iff_eq];omega
    rw[fv,e0,<-a6];generalize gd ((gr x.natAbs y.natAbs:Nat):Int) 1=C at *;generalize bb ((gr x.natAbs y.natAbs:Nat):Int)=bh at *;generalize e9:bb 1=aw at *;obtain⟨cJ,cQ⟩:=bh;obtain⟨kq,jK⟩:=aw;refine ah ?_;repeat' (intro (ai:_=_)<;>simp only[ai,go_sem,go_sem_proc,fx,xz,GQ,zm,M,aW,bs,br,Q,aN,Ub,zK,Ju,iw,e9,eo,b5]<;>try refine ae ?_ ?_)
   ·have fv:(s2==1)=false:=by have:=of_decide_eq_true Q;rw[beq_eq_false_iff_ne];omega
    rw[fv,eO];refine ah ?_;repeat' (intro (ai:_=_)<;>simp only[ai,go_sem,go_sem_proc,fx,xz,GQ,zm,M,aW,bs,br,Q]<;>try refine ae ?_ ?_)
  ·have aW:cK (s2,Z)=false:=by simpa using aW
   have ed:cA ((s,l),(s2,Z))=false:=by unfold cA;simp[aW]
   rw[ed];refine ah ?_;repeat' (intro (ai:_=_)<;>simp only[ai,go_sem,go_sem_proc,fx,xz,GQ,zm,M,aW,bs,br]<;>try refine ae ?_ ?_)
 ·have M:cK (s,l)=false:=by simpa using M
  have ed:cA ((s,l),(s2,Z))=false:=by unfold cA;simp[M]
  rw[ed];refine ah ?_;repeat' (intro (ai:_=_)<;>simp only[ai,go_sem,go_sem_proc,fx,xz,GQ,zm,M,bs,br]<;>try refine ae ?_ ?_)
def zn (b:Bool)(p q:Raw):ax×Int:=if b=true then (bC,6) else ie p q
abbrev Qb:Int×(List Int)×Int×(List Int)×Bool->List Data:=λ(s,l,s2,Z,b)=>[.agg [.int .i64 s,.ar (l.map aI)],.agg [.int .i64 s2,.ar (Z.map aI)],.bool b]
def DD:=bI Qb λ(s,l,s2,Z,b)=>ca (D l<=1000000/\D Z<=1000000) (.same (cR (zn b (s,l) (s2,Z))))
def asG:∀a b,Qb a=Qb b->a=b:=by
  rintro⟨s1,hZ,tY,sG,bT⟩ ⟨s2,Z,tZ,sH,cB⟩ h;simp only[bl,Data.agg.injEq,Data.int.injEq,Data.ar.injEq,Data.bool.injEq] at h;exact cz h.1.1.2 (cz (map_inj fX _ _ h.1.2.1) (cz h.2.1.1.2 (cz (map_inj fX _ _ h.2.1.2.1) h.2.2.1)))
@[go_sem] def aBC (s l s2 Z b):=cl DD rfl asG (s,l,s2,Z,b) rfl
def asH (T:bj)(P6:T IF=aG Le):WF T af2 DD:=by
 refine b7 λ(s,l,s2,Z,b)=>cq λY=>⟨rfl,b6 ?_⟩;simp only[af2,Qb,bX];obtain⟨bs,br⟩:=Y
 cases b
 ·refine ah ?_;repeat' (intro h<;>simp only[h,go_sem,go_sem_proc,P6,bs,br,zn,cR,av]<;>try refine ae ?_ ?_)
 ·refine ah ?_;repeat' (intro h<;>simp only[h,go_sem,go_sem_proc,P6,bs,br,zn,cR,av,bC,bP]<;>try refine ae ?_ ?_)
def GR (X nq a5 H:Raw×Int):ax×Int:=zn (!((X.2==0)&&((nq.2==0)&&((a5.2==0)&&(H.2==0))))) H.1 a5.1
def GS (P a5:Raw×Int):ax×Int:=zn (!((P.2==0)&&(a5.2==0))) P.1 a5.1
def asI {a b:ax}(bc:cA a=true)(U:cA b=true):iC a b=GS (mulR a.1 b.1) (mulR a.2 b.2):=by
 unfold iC vj GS zn;rw[aL bc,aL U]
 cases F:((mulR a.1 b.1).2==0)<;>cases G:((mulR a.2 b.2).2==0)<;>rfl
def asJ {a b:ax}(bc:cA a=true)(U:cA b=true):fL a b=if (b.1.1==0)=true then (bC,15) else GS (mulR a.1 b.2) (mulR a.2 b.1):=by
 unfold fL vj GS zn;rw[aL bc,aL U]
 cases F:((mulR a.1 b.2).2==0)<;>cases G:((mulR a.2 b.1).2==0)<;>rfl
def af7 {a b:ax}(bc:cA a=true)(U:cA b=true):ou a b=GR (mulR a.1 b.2) (mulR b.1 a.2) (mulR a.2 b.2) (lz (mulR a.1 b.2).1 (mulR b.1 a.2).1):=by
 unfold ou vj w2 GR zn;rw[aL bc,aL U];rcases F:((mulR a.1 b.2).2==0)<;>rcases G:((mulR b.1 a.2).2==0)<;>rcases ad:((mulR a.2 b.2).2==0)<;>rcases aZ:((lz (mulR a.1 b.2).1 (mulR b.1 a.2).1).2==0)<;>simp_all
def Qc {z:Int}:((nR z).2==0)=iD z:=by
 rcases h:iD z
 ·rw[JC h];rfl
 ·rw[Au h];rfl
def asK {a b:Int}(bc:a.natAbs<cY)(U:b.natAbs<cY):(mulR (hy (bb a)) (bb b))=nR (-(a*b)):=by
 rw[WN bc,yI (by rw[rr];exact bc) U,Int.neg_mul]
def af8 (z:Int):iD (-z)=iD z:=by unfold iD;rw[rr]
def asL {a b:ax}(bc:cA a=true)(U:cA b=true):kn a b=GR (mulR a.1 b.2) (mulR b.1 a.2) (mulR a.2 b.2) (xx (mulR a.1 b.2).1 (mulR b.1 a.2).1):=by
 obtain⟨x,L,rfl⟩:=(At _).1 bc;obtain⟨y,ak,rfl⟩:=(At _).1 U
 have asM:cA (hy (ee y).1,(ee y).2)=true:=by
  have:(hy (ee y).1,(ee y).2)=ee (-y):=by
   unfold ee;dsimp only;rw[WN ak.1]
   rfl
  rw[this];exact Ct (ab0 ak)
 unfold kn;rw[aL bc,aL U,af7 bc asM];unfold GR zn;show (if (!(((mulR (bb x.num) (bb y.den)).2==0)&&(((mulR (hy (bb y.num)) (bb x.den)).2==0)&&(((mulR (bb x.den) (bb y.den)).2==0)&&((lz (mulR (bb x.num) (bb y.den)).1 (mulR (hy (bb y.num)) (bb x.den)).1).2==0)))))=true then (bC,6) else ie (lz (mulR (bb x.num) (bb y.den)).1 (mulR (hy (bb y.num)) (bb x.den)).1).1 (mulR (bb x.den) (bb y.den)).1)=(if (!(((mulR (bb x.num) (bb y.den)).2==0)&&(((mulR (bb y.num) (bb x.den)).2==0)&&(((mulR (bb x.den) (bb y.den)).2==0)&&((xx (mulR (bb x.num) (bb y.den)).1 (mulR (bb y.num) (bb x.den)).1).2==0)))))=true then (bC,6) else ie (xx (mulR (bb x.num) (bb y.den)).1 (mulR (bb y.num) (bb x.den)).1).1 (mulR (bb x.den) (bb y.den)).1);rw[yI L.1 (ru ak),asK ak.1 (ru L),yI ak.1 (ru L),yI (ru L) (ru ak),Qc,Qc,Qc,Qc,af8];rcases F:iD (x.num*y.den)
 ·rfl
 ·rcases G:iD (y.num*x.den)
  ·rfl
  ·rw[Au F,Au G,Au (by rw[af8];exact G)];dsimp only;rw[Jq (Av F) (by rw[rr];exact Av G),asv (Av F) (Av G)]
   rfl
def asN (a b:Raw):(xx a b).1.2.length<=1000000:=by
 unfold xx
 split
 ·exact Uf _ _
 ·simp
def Qd:=bI lB λ(s,l,s2,Z,bU,b1,bW,bZ)=>ca (D l<=1000000/\D Z<=1000000/\D b1<=1000000/\D bZ<=1000000) (.same (cR (ou ((s,l),(s2,Z)) ((bU,b1),(bW,bZ)))))
@[go_sem] def aBD (s l s2 Z bU b1 bW bZ):=cl Qd rfl vk (s,l,s2,Z,bU,b1,bW,bZ) rfl
def asO (T:bj)(dw:T kY=aG uE)(j7:T qA=aG DC)(xy:T IT=aG Lc)(j8:T yo=aG DD):WF T af1 Qd:=by
 refine b7 λ(s,l,s2,Z,bU,b1,bW,bZ)=>cq λY=>⟨rfl,b6 ?_⟩;simp only[af1,lB,bX];obtain⟨bs,br,en,eQ⟩:=Y
 by_cases M:cA ((s,l),(s2,Z))=true
 ·by_cases aW:cA ((bU,b1),(bW,bZ))=true
  ·rw[af7 M aW];dsimp only;have aY:=o0 (s,l) (bW,bZ);have b0:=o0 (bU,b1) (s2,Z);have fJ:=o0 (s2,Z) (bW,bZ);generalize iB:mulR (s,l) (bW,bZ)=jd at *;generalize j0:mulR (bU,b1) (s2,Z)=M2 at *;generalize vT:mulR (s2,Z) (bW,bZ)=M3 at *;obtain⟨⟨dx,dW⟩,aQ⟩:=jd;obtain⟨⟨bT,cB⟩,az⟩:=M2;obtain⟨⟨ck,dC⟩,eT⟩:=M3;dsimp only at *;have ft:=Uf (dx,dW) (bT,cB);generalize vU:lz (dx,dW) (bT,cB)=M4 at *;obtain⟨⟨d1,d2⟩,iA⟩:=M4;unfold GR;dsimp only at *;rcases F:(aQ==0)
   ·refine ah ?_;repeat' (intro h<;>simp only[h,go_sem,go_sem_proc,dw,j7,xy,j8,bs,br,en,eQ,M,aW,iB,j0,vT,vU,aY,b0,fJ,ft,F,eo,b5,cR,av,dc,c2,bne,eO]<;>try refine ae ?_ ?_)
   ·rcases G:(az==0)
    ·refine ah ?_;repeat' (intro h<;>simp only[h,go_sem,go_sem_proc,dw,j7,xy,j8,bs,br,en,eQ,M,aW,iB,j0,vT,vU,aY,b0,fJ,ft,F,G,eo,b5,cR,av,dc,c2,bne,eO,e0]<;>try refine ae ?_ ?_)
    ·rcases ad:(eT==0)
     ·refine ah ?_;repeat' (intro h<;>simp only[h,go_sem,go_sem_proc,dw,j7,xy,j8,bs,br,en,eQ,M,aW,iB,j0,vT,vU,aY,b0,fJ,ft,F,G,ad,eo,b5,cR,av,dc,c2,bne,eO,e0]<;>try refine ae ?_ ?_)
     ·rcases aZ:(iA==0)
      ·refine ah ?_;repeat' (intro h<;>simp only[h,go_sem,go_sem_proc,dw,j7,xy,j8,bs,br,en,eQ,M,aW,iB,j0,vT,vU,aY,b0,fJ,ft,F,G,ad,aZ,eo,b5,cR,av,dc,c2,bne,eO,e0]<;>try refine ae ?_ ?_)
      ·refine ah ?_;repeat' (intro h<;>simp only[h,go_sem,go_sem_proc,dw,j7,xy,j8,bs,br,en,eQ,M,aW,iB,j0,vT,vU,aY,b0,fJ,ft,F,G,ad,aZ,eo,b5,cR,av,dc,c2,bne,eO,e0]<;>try refine ae ?_ ?_)
  ·have aW:cA ((bU,b1),(bW,bZ))=false:=by simpa using aW
   unfold ou;rw[aL M,aT (by simp[aW])];refine ah ?_;repeat' (intro h<;>simp only[h,go_sem,go_sem_proc,dw,j7,xy,j8,bs,br,en,eQ,M,aW,cR,av,bC,bP]<;>try refine ae ?_ ?_)
 ·have M:cA ((s,l),(s2,Z))=false:=by simpa using M
  unfold ou;rw[aT (by simp[M])];refine ah ?_;repeat' (intro h<;>simp only[h,go_sem,go_sem_proc,dw,j7,xy,j8,bs,br,en,eQ,M,cR,av,bC,bP]<;>try refine ae ?_ ?_)
def Lh:=bI lB λ(s,l,s2,Z,bU,b1,bW,bZ)=>ca (D l<=1000000/\D Z<=1000000/\D b1<=1000000/\D bZ<=1000000) (.same (cR (kn ((s,l),(s2,Z)) ((bU,b1),(bW,bZ)))))
@[go_sem] def aBE (s l s2 Z bU b1 bW bZ):=cl Lh rfl vk (s,l,s2,Z,bU,b1,bW,bZ) rfl
def asP (T:bj)(dw:T kY=aG uE)(j7:T qA=aG DC)(DE:T SU=aG PZ)(j8:T yo=aG DD):WF T afY Lh:=by
 refine b7 λ(s,l,s2,Z,bU,b1,bW,bZ)=>cq λY=>⟨rfl,b6 ?_⟩;simp only[afY,lB,bX];obtain⟨bs,br,en,eQ⟩:=Y
 by_cases M:cA ((s,l),(s2,Z))=true
 ·by_cases aW:cA ((bU,b1),(bW,bZ))=true
  ·rw[asL M aW];dsimp only;have aY:=o0 (s,l) (bW,bZ);have b0:=o0 (bU,b1) (s2,Z);have fJ:=o0 (s2,Z) (bW,bZ);generalize iB:mulR (s,l) (bW,bZ)=jd at *;generalize j0:mulR (bU,b1) (s2,Z)=M2 at *;generalize vT:mulR (s2,Z) (bW,bZ)=M3 at *;obtain⟨⟨dx,dW⟩,aQ⟩:=jd;obtain⟨⟨bT,cB⟩,az⟩:=M2;obtain⟨⟨ck,dC⟩,eT⟩:=M3;dsimp only at *;have ft:=asN (dx,dW) (bT,cB);generalize vU:xx (dx,dW) (bT,cB)=M4 at *;obtain⟨⟨d1,d2⟩,iA⟩:=M4;unfold GR;dsimp only at *;rcases F:(aQ==0)
   ·refine ah ?_;repeat' (intro h<;>simp only[h,go_sem,go_sem_proc,dw,j7,DE,j8,bs,br,en,eQ,M,aW,iB,j0,vT,vU,aY,b0,fJ,ft,F,eo,b5,cR,av,dc,c2,bne,eO]<;>try refine ae ?_ ?_)
   ·rcases G:(az==0)
    ·refine ah ?_;repeat' (intro h<;>simp only[h,go_sem,go_sem_proc,dw,j7,DE,j8,bs,br,en,eQ,M,aW,iB,j0,vT,vU,aY,b0,fJ,ft,F,G,eo,b5,cR,av,dc,c2,bne,eO,e0]<;>try refine ae ?_ ?_)
    ·rcases ad:(eT==0)
     ·refine ah ?_;repeat' (intro h<;>simp only[h,go_sem,go_sem_proc,dw,j7,DE,j8,bs,br,en,eQ,M,aW,iB,j0,vT,vU,aY,b0,fJ,ft,F,G,ad,eo,b5,cR,av,dc,c2,bne,eO,e0]<;>try refine ae ?_ ?_)
     ·rcases aZ:(iA==0)
      ·refine ah ?_;repeat' (intro h<;>simp only[h,go_sem,go_sem_proc,dw,j7,DE,j8,bs,br,en,eQ,M,aW,iB,j0,vT,vU,aY,b0,fJ,ft,F,G,ad,aZ,eo,b5,cR,av,dc,c2,bne,eO,e0]<;>try refine ae ?_ ?_)
      ·refine ah ?_;repeat' (intro h<;>simp only[h,go_sem,go_sem_proc,dw,j7,DE,j8,bs,br,en,eQ,M,aW,iB,j0,vT,vU,aY,b0,fJ,ft,F,G,ad,aZ,eo,b5,cR,av,dc,c2,bne,eO,e0]<;>try refine ae ?_ ?_)
  ·have aW:cA ((bU,b1),(bW,bZ))=false:=by simpa using aW
   unfold kn;rw[aL M,aT (by simp[aW])];refine ah ?_;repeat' (intro h<;>simp only[h,go_sem,go_sem_proc,dw,j7,DE,j8,bs,br,en,eQ,M,aW,cR,av,bC,bP]<;>try refine ae ?_ ?_)
 ·have M:cA ((s,l),(s2,Z))=false:=by simpa using M
  unfold kn;rw[aT (by simp[M])];refine ah ?_;repeat' (intro h<;>simp only[h,go_sem,go_sem_proc,dw,j7,DE,j8,bs,br,en,eQ,M,cR,av,bC,bP]<;>try refine ae ?_ ?_)
def Li:=bI lB λ(s,l,s2,Z,bU,b1,bW,bZ)=>ca (D l<=1000000/\D Z<=1000000/\D b1<=1000000/\D bZ<=1000000) (.same (cR (iC ((s,l),(s2,Z)) ((bU,b1),(bW,bZ)))))
@[go_sem] def aBF (s l s2 Z bU b1 bW bZ):=cl Li rfl vk (s,l,s2,Z,bU,b1,bW,bZ) rfl
def asQ (T:bj)(dw:T kY=aG uE)(j7:T qA=aG DC)(j8:T yo=aG DD):WF T af0 Li:=by
 refine b7 λ(s,l,s2,Z,bU,b1,bW,bZ)=>cq λY=>⟨rfl,b6 ?_⟩;simp only[af0,lB,bX];obtain⟨bs,br,en,eQ⟩:=Y
 by_cases M:cA ((s,l),(s2,Z))=true
 ·by_cases aW:cA ((bU,b1),(bW,bZ))=true
  ·rw[asI M aW];dsimp only;have aY:=o0 (s,l) (bU,b1);have b0:=o0 (s2,Z) (bW,bZ);generalize iB:mulR (s,l) (bU,b1)=jd at *;generalize j0:mulR (s2,Z) (bW,bZ)=M2 at *;obtain⟨⟨dx,dW⟩,aQ⟩:=jd;obtain⟨⟨bT,cB⟩,az⟩:=M2;unfold GS;dsimp only at *;rcases F:(aQ==0)
   ·refine ah ?_;repeat' (intro h<;>simp only[h,go_sem,go_sem_proc,dw,j7,j8,bs,br,en,eQ,M,aW,iB,j0,aY,b0,F,eo,b5,cR,av,dc,c2,bne,eO]<;>try refine ae ?_ ?_)
   ·rcases G:(az==0)
    ·refine ah ?_;repeat' (intro h<;>simp only[h,go_sem,go_sem_proc,dw,j7,j8,bs,br,en,eQ,M,aW,iB,j0,aY,b0,F,G,eo,b5,cR,av,dc,c2,bne,eO,e0]<;>try refine ae ?_ ?_)
    ·refine ah ?_;repeat' (intro h<;>simp only[h,go_sem,go_sem_proc,dw,j7,j8,bs,br,en,eQ,M,aW,iB,j0,aY,b0,F,G,eo,b5,cR,av,dc,c2,bne,eO,e0]<;>try refine ae ?_ ?_)
  ·have aW:cA ((bU,b1),(bW,bZ))=false:=by simpa using aW
   unfold iC;rw[aL M,aT (by simp[aW])];refine ah ?_;repeat' (intro h<;>simp only[h,go_sem,go_sem_proc,dw,j7,j8,bs,br,en,eQ,M,aW,cR,av,bC,bP]<;>try refine ae ?_ ?_)
 ·have M:cA ((s,l),(s2,Z))=false:=by simpa using M
  unfold iC;rw[aT (by simp[M])];refine ah ?_;repeat' (intro h<;>simp only[h,go_sem,go_sem_proc,dw,j7,j8,bs,br,en,eQ,M,cR,av,bC,bP]<;>try refine ae ?_ ?_)
def Qe:=bI lB λ(s,l,s2,Z,bU,b1,bW,bZ)=>ca (D l<=1000000/\D Z<=1000000/\D b1<=1000000/\D bZ<=1000000) (.same (cR (fL ((s,l),(s2,Z)) ((bU,b1),(bW,bZ)))))
@[go_sem] def aBG (s l s2 Z bU b1 bW bZ):=cl Qe rfl vk (s,l,s2,Z,bU,b1,bW,bZ) rfl
def asR (T:bj)(dw:T kY=aG uE)(j7:T qA=aG DC)(j8:T yo=aG DD):WF T af3 Qe:=by
 refine b7 λ(s,l,s2,Z,bU,b1,bW,bZ)=>cq λY=>⟨rfl,b6 ?_⟩;simp only[af3,lB,bX];obtain⟨bs,br,en,eQ⟩:=Y
 by_cases M:cA ((s,l),(s2,Z))=true
 ·by_cases aW:cA ((bU,b1),(bW,bZ))=true
  ·rw[asJ M aW];dsimp only;rcases au:(bU==0)
   ·rw[aT (by simp)];have aY:=o0 (s,l) (bW,bZ);have b0:=o0 (s2,Z) (bU,b1);generalize iB:mulR (s,l) (bW,bZ)=jd at *;generalize j0:mulR (s2,Z) (bU,b1)=M2 at *;obtain⟨⟨dx,dW⟩,aQ⟩:=jd;obtain⟨⟨bT,cB⟩,az⟩:=M2;unfold GS;dsimp only at *;rcases F:(aQ==0)
    ·refine ah ?_;repeat' (intro h<;>simp only[h,go_sem,go_sem_proc,dw,j7,j8,bs,br,en,eQ,M,aW,au,iB,j0,aY,b0,F,eo,b5,cR,av,dc,c2,bne,eO]<;>try refine ae ?_ ?_)
    ·rcases G:(az==0)
     ·refine ah ?_;repeat' (intro h<;>simp only[h,go_sem,go_sem_proc,dw,j7,j8,bs,br,en,eQ,M,aW,au,iB,j0,aY,b0,F,G,eo,b5,cR,av,dc,c2,bne,eO,e0]<;>try refine ae ?_ ?_)
     ·refine ah ?_;repeat' (intro h<;>simp only[h,go_sem,go_sem_proc,dw,j7,j8,bs,br,en,eQ,M,aW,au,iB,j0,aY,b0,F,G,eo,b5,cR,av,dc,c2,bne,eO,e0]<;>try refine ae ?_ ?_)
   ·rw[aL rfl];refine ah ?_;repeat' (intro h<;>simp only[h,go_sem,go_sem_proc,dw,j7,j8,bs,br,en,eQ,M,aW,au,cR,av,bC,bP]<;>try refine ae ?_ ?_)
  ·have aW:cA ((bU,b1),(bW,bZ))=false:=by simpa using aW
   unfold fL;rw[aL M,aT (by simp[aW])];refine ah ?_;repeat' (intro h<;>simp only[h,go_sem,go_sem_proc,dw,j7,j8,bs,br,en,eQ,M,aW,cR,av,bC,bP]<;>try refine ae ?_ ?_)
 ·have M:cA ((s,l),(s2,Z))=false:=by simpa using M
  unfold fL;rw[aT (by simp[M])];refine ah ?_;repeat' (intro h<;>simp only[h,go_sem,go_sem_proc,dw,j7,j8,bs,br,en,eQ,M,cR,av,bC,bP]<;>try refine ae ?_ ?_)
def af9:bG:=bV 30 3 [.t 6] (O [bY 6 false] (.seq (O [ba 7 0] (dU 0 (.seq (O [E 8 7,E 9 0,cg 10 9,bt 11 .lss 8 10,E 12 11,ev 13 12 7,ev 14 12 1,E3 15 12 .leq 13 14,fF 16 12 15] (de 16 0)) (.seq (.block 1 (O [E 19 0,E 20 7,bE 21 4 19 20,aD 22 4 21,E 23 2,bK 24 IB 22 23,dT 25 24] (bQ 25 [bY 6 false]))) (.ops [E 17 7,bd 18 .add 17 1,E 7 18]))))) (O [E 26 0,cg 27 26,E 28 1,bt 29 .leq 27 28,E 6 29] .ret)))
def aga:bG:=bV 27 2 [.t 4] (O [bY 4 false] (.seq (O [E 6 0,cg 7 6,E 8 1,cg 9 8,bt 10 .neq 7 9] (bQ 10 [bY 4 false])) (.seq (O [ba 5 0] (dU 0 (.seq (O [E 11 5,E 12 0,cg 13 12,bt 14 .lss 11 13] (de 14 0)) (.seq (.block 1 (e3 [E 17 0,E 18 5,bE 19 4 17 18,aD 20 4 19,E 21 1,E 22 5,bE 23 4 21 22,aD 24 4 23,bK 25 Sy 20 24,dT 26 25] IW (bQ 26 [bY 4 false]))) (.ops [E 15 5,bd 16 .add 15 1,E 5 16]))))) (O [bY 4 true] .ret))))
def agb:bG:=bV 7 1 [.t 2] (O [cm 1 113001 0,bY 2 false] (O [aE 3 0 1,aE 4 0 3,aJ 5 1 4,bd 6 .eql 5 0,E 2 6] .ret))
def agc:bG:=bV 41 2 [.t 4,.t 5] (O [cH 4,ba 5 0] (.seq (O [E 11 0,E 12 1,bK 13 SN 11 12,dT 14 13] (bQ 14 [cH 4,ba 5 1])) (O [E 16 0,E 17 1,aB 18 (.call SO [.t 16,.t 17,.c (.J (.bool true))]),E 15 18,aP 19 0 15,aP 20 1 15,aP 21 2 15,E 6 19,E 7 20,E 8 21] (.seq (O [E 22 8,dT 23 22] (bQ 23 [cH 4,ba 5 6])) (.seq (O [E 24 7,cg 25 24,bd 26 .gtr 25 0] (bQ 26 [cH 4,ba 5 17])) (O [cH 9] (.seq (O [ba 10 0] (.block 0 (.ghost (.mM 9 189039 4) (.loop  (.seq (O [E 27 10,E 28 1,bt 29 .lss 27 28] (de 29 0)) (.seq (.block 1 (.ops [E 32 9,E 33 6,E 34 10,bE 35 5 33 34,aE 36 1 35,aD 37 4 36,aB 38 (.dN 189038 false cM 4 1 [(0,4,.t 37)]),aB 39 (.app 189039 cM 64 (.t 32) (.t 38)),E 9 39])) (.ops [E 30 10,bd 31 .add 30 1,E 10 31]))))))) (O [E 40 9,E 4 40,ba 5 0] .ret))))))))
def agd:bG:=bV 56 2 [.t 4] (O [bY 4 false] (.seq (O [E 7 1,bd 8 .lss 7 0,E 9 8,dK 10 9 1,gN 11 9 .gtr 10 40,cF 12 9 11,E 13 12,dK 14 13 0,nJ 15 13 14,dK 16 13 1,nK 17 13 .neq 15 16,cF 18 13 17] (bQ 18 [bY 4 false])) (.seq (O [ba 5 0] (dU 0 (.seq (O [E 19 5,E 20 1,bt 21 .lss 19 20] (de 21 0)) (.seq (.block 1 (.seq (O [E 24 0,E 25 5,bE 26 5 24 25,aE 27 0 26,aJ 28 1 27,cg 29 28,E 30 1,bt 31 .neq 29 30,E 32 31,dK 33 32 0,dK 34 32 5,sw 35 32 5 33 34,fr 36 32 1 35,hx 37 32 4 36,fs 38 32 (.call kY [.t 37]),ib 39 32 38,cF 40 32 39] (bQ 40 [bY 4 false])) (O [ba 6 0] (dU 2 (.seq (O [E 41 6,E 42 1,bt 43 .lss 41 42] (de 43 2)) (.seq (.block 3 (O [E 46 0,E 47 5,bE 48 5 46 47,aE 49 0 48,aJ 50 1 49,E 51 6,bE 52 4 50 51,aD 53 4 52,c8 54 kY 53,dT 55 54] (bQ 55 [bY 4 false]))) (.ops [E 44 6,bd 45 .add 44 1,E 6 45]))))))) (.ops [E 22 5,bd 23 .add 22 1,E 5 23]))))) (O [bY 4 true] .ret))))
def GU:bG:=bV 132 3 [.t 6,.t 7,.t 8] (O [cH 6,cH 7,bY 8 false] (O [E 20 0,aB 21 (.lb 194021 5 SQ [.t 20]),E 9 21] (O [cH 10] (O [ba 11 0] (.seq (O [ba 12 0] (.block 0 (.ghost (.mM 10 194050 1) (.loop  (.seq (O [E 22 12,E 23 1,bt 24 .lss 22 23] (de 24 0)) (.seq (.block 1 (.seq (.ghost (.move) (.ops [E 27 11,E 13 27])) (.seq (dU 2 (.seq (O [E 28 13,E 29 1,bt 30 .lss 28 29,E 31 30,ev 32 31 9,ev 33 31 13,rn 34 31 5 32 33,hI 35 31 0 34,iz 36 31 1 35,ev 37 31 12,rn 38 31 4 36 37,Ca 39 31 4 38,fB 40 31 (.call EM [.t 39]),fF 41 31 40] (de 41 2)) (.block 3 (.ops [E 42 13,bd 43 .add 42 1,E 13 43])))) (.seq (.seq (.ghost (.move) (.ops [E 44 13,E 45 1,bt 46 .eql 44 45])) (fj 46 (O [E 47 10,E 48 12,aB 49 (.dN 194049 false [bn 0] 1 1 [(0,1,.t 48)]),aB 50 (.app 194050 [bn 0] 8 (.t 47) (.t 49)),E 10 50] (.seq (O [E 51 2] (bQ 51 [E 52 9,E 53 10,E 6 52,E 7 53,bY 8 true])) (.exit 1))) .skip)) (.seq (.ghost (.move) (.ops [E 54 9,E 55 11,bE 56 5 54 55,aD 57 5 56,bR 14 194014 hJ,a1 5 14 57])) (O [E 58 9,E 59 11,E 60 9,E 61 13,bE 62 5 60 61,aD 63 5 62,bE 64 5 58 59,a1 5 64 63] (O [E 65 9,E 66 13,aD 67 5 14,bE 68 5 65 66,a1 5 68 67] (O [E 70 9,E 71 11,bE 72 5 70 71,aD 73 5 72,E 74 1,E 75 12,yr 76 SR 73 74 75,E 69 76,aP 77 0 69,aP 78 1 69,bR 15 194015 hJ,a1 5 15 77,E 16 78] (.seq (.seq (.ghost (.move) (.ops [E 79 16,dT 80 79])) (bQ 80 [E 81 9,E 82 10,E 6 81,E 7 82,bY 8 false])) (O [E 83 9,E 84 11,aD 85 5 15,bE 86 5 83 84,a1 5 86 85] (.seq (O [ba 17 0] (dU 4 (.seq (O [E 87 17,E 88 1,bt 89 .lss 87 88] (de 89 4)) (.seq (.block 5 (.seq (O [E 92 17,E 93 11,bt 94 .eql 92 93,E 95 94,dK 96 95 9,dK 97 95 17,sw 98 95 5 96 97,fr 99 95 0 98,fA 100 95 1 99,dK 101 95 12,sw 102 95 4 100 101,hx 103 95 4 102,fs 104 95 (.call EM [.t 103]),cF 105 95 104] (fj 105 (.exit 5) .skip)) (e3 [E 107 9,E 108 17,bE 109 5 107 108,aD 110 5 109,E 111 9,E 112 11,bE 113 5 111 112,aD 114 5 113,E 115 1,E 116 12,oU 117 Nr 110 114 115 116,E 106 117,aP 118 0 106,aP 119 1 106,bR 18 194018 hJ,a1 5 18 118,E 19 119] [[],[],[],[],[],[],[],[],[],[],[],[],[],[],[3,7],[],[]] (.seq (O [E 120 19,dT 121 120] (bQ 121 [E 122 9,E 123 10,E 6 122,E 7 123,bY 8 false])) (.ops [E 124 9,E 125 17,aD 126 5 18,bE 127 5 124 125,a1 5 127 126]))))) (.ops [E 90 17,bd 91 .add 90 1,E 17 91]))))) (.ops [E 128 11,bd 129 .add 128 1,E 11 129])))))))))))) (.ops [E 25 12,bd 26 .add 25 1,E 12 26]))))))) (O [E 130 9,E 131 10,E 6 130,E 7 131,bY 8 true] .ret))))))
def age:bG:=bV 28 1 [.t 2] (O [cH 2] (O [cH 3] (.seq (O [ba 4 0] (.block 0 (.ghost (.mM 3 199026 5) (.loop  (.seq (O [E 5 4,E 6 0,cg 7 6,bt 8 .lss 5 7] (de 8 0)) (.seq (.block 1 (.mN [E 11 3,aB 12 (.dN 199012 true [] 4 0 []),E 13 0,E 14 4,bE 15 5 13 14,aE 16 0 15,aJ 17 1 16,aB 18 (.app 199018 cM 64 (.t 12) (.t 17)),E 19 0,E 20 4,bE 21 5 19 20,aE 22 1 21,aD 23 4 22,aB 24 (.build hJ [(0,1,.t 18),(1,4,.t 23)]),aB 25 (.dN 199025 true hJ 5 1 [(0,5,.t 24)]),aB 26 (.app 199026 hJ 88 (.t 11) (.t 25)),E 3 26] [[],[],[],[],[],[],[1],[],[],[],[],[],[1,7],[],[],[],[]])) (.ghost (.move) (.ops [E 9 4,bd 10 .add 9 1,E 4 10])))))))) (O [E 27 3,E 2 27] .ret))))
def agf:bG:=bV 60 3 [.cell 6 5 true,.t 7] (O [cm 3 200003 0,bR 6 200006 hJ,bY 7 false] (O [aE 15 0 3,aJ 16 1 15,E 17 2,bE 18 4 16 17,aD 19 4 18,bR 8 200008 cM,a1 4 8 19] (O [aB 20 (.dN 200020 true [] 4 0 []),aE 21 0 3,aJ 22 1 21,aB 23 (.app 200023 cM 64 (.t 20) (.t 22)),aB 24 (.build hJ [(0,1,.t 23)]),bR 9 200009 hJ,a1 5 9 24] (.seq (O [ba 10 0] (dU 0 (.seq (O [E 25 10,E 26 1,bt 27 .lss 25 26] (de 27 0)) (.seq (.block 1 (e3 [aE 31 0 3,aJ 32 1 31,E 33 10,bE 34 4 32 33,aD 35 4 34,aD 36 4 8,bK 37 Ns 35 36,E 30 37,aP 38 0 30,aP 39 1 30,bR 11 200011 cM,a1 4 11 38,E 12 39] [[],[],[],[],[],[],[],[],[],[],[1,4,5],[],[]] (.seq (O [E 40 12,bd 41 .neq 40 0] (bQ 41 [aD 42 5 9,a1 5 6 42,bY 7 false])) (.ops [aE 43 0 9,aJ 44 1 43,E 45 10,aD 46 4 11,bE 47 4 44 45,a1 4 47 46])))) (.ops [E 28 10,bd 29 .add 28 1,E 10 29]))))) (O [aE 49 1 3,aD 50 4 49,aD 51 4 8,bK 52 Ns 50 51,E 48 52,aP 53 0 48,aP 54 1 48,bR 13 200013 cM,a1 4 13 53,E 14 54] (O [aD 55 4 13,aE 56 1 9,a1 4 56 55] (O [aD 57 5 9,E 58 14,bd 59 .eql 58 0,a1 5 6 57,E 7 59] .ret)))))))
def agh:bG:=bV 69 4 [.cell 8 5 true,.t 9] (O [cm 4 201004 0,cm 5 201005 1,bR 8 201008 hJ,bY 9 false] (O [aE 17 0 4,aJ 18 1 17,E 19 3,bE 20 4 18 19,aD 21 4 20,bR 10 201010 cM,a1 4 10 21] (O [aB 22 (.dN 201022 true [] 4 0 []),aE 23 0 4,aJ 24 1 23,aB 25 (.app 201025 cM 64 (.t 22) (.t 24)),aB 26 (.build hJ [(0,1,.t 25)]),bR 11 201011 hJ,a1 5 11 26] (.seq (O [ba 12 0] (dU 0 (.seq (O [E 27 12,E 28 2,bt 29 .lss 27 28] (de 29 0)) (.seq (.block 1 (e3 [aE 33 0 4,aJ 34 1 33,E 35 12,bE 36 4 34 35,aD 37 4 36,aD 38 4 10,aE 39 0 5,aJ 40 1 39,E 41 12,bE 42 4 40 41,aD 43 4 42,yr 44 Nt 37 38 43,E 32 44,aP 45 0 32,aP 46 1 32,bR 13 201013 cM,a1 4 13 45,E 14 46] [[],[],[],[],[],[],[],[],[],[],[],[],[],[],[],[1,4,5,7,10],[],[]] (.seq (O [E 47 14,bd 48 .neq 47 0] (bQ 48 [aD 49 5 11,a1 5 8 49,bY 9 false])) (.ops [aE 50 0 11,aJ 51 1 50,E 52 12,aD 53 4 13,bE 54 4 51 52,a1 4 54 53])))) (.ops [E 30 12,bd 31 .add 30 1,E 12 31]))))) (O [aE 56 1 4,aD 57 4 56,aD 58 4 10,aE 59 1 5,aD 60 4 59,yr 61 Nt 57 58 60,E 55 61,aP 62 0 55,aP 63 1 55,bR 15 201015 cM,a1 4 15 62,E 16 63] (O [aD 64 4 15,aE 65 1 11,a1 4 65 64] (O [aD 66 5 11,E 67 16,bd 68 .eql 67 0,a1 5 8 66,E 9 68] .ret)))))))
def agi:bG:=bV 30 3 [.cell 6 4 true,.t 7] (O [cm 3 208003 0,cm 4 208004 1,cm 5 208005 2,bR 6 208006 cM,ba 7 0] (O [aD 13 4 4,aD 14 4 5,bK 15 IQ 13 14,E 12 15,aP 16 0 12,aP 17 1 12,bR 8 208008 cM,a1 4 8 16,E 9 17] (.seq (O [E 18 9,bd 19 .neq 18 0] (bQ 19 [aB 20 (.build cM []),E 21 9,a1 4 6 20,E 7 21])) (O [aD 23 4 3,aD 24 4 8,bK 25 IP 23 24,E 22 25,aP 26 0 22,aP 27 1 22,bR 10 208010 cM,a1 4 10 26,E 11 27] (O [aD 28 4 10,E 29 11,a1 4 6 28,E 7 29] .ret)))))
def GV:=bI k4 λ(s,l,s2,Z)=>some (.same (.bool (s==0)))
@[go_sem] def aBH (s l s2 Z):=sm GV rfl ud (s,l,s2,Z) rfl
def asS (T:bj):WF T agb GV:=by
 refine b7 λ(s,l,s2,Z)=>⟨rfl,b6 ?_⟩;simp only[agb,k4,bX];refine ah ?_;repeat' (intro h<;>simp only[h,go_sem,go_sem_proc,aj]<;>try refine ae ?_ ?_)
def qU (l:List ax)(n d:Int):Bool:=decide ((D l:Int)<=n)&&l.all λf=>pq f d
def agj {α:Type}{p:α->Bool}{l:List α}{i:Nat}{x:α}(L:l[i]?=some x):(l.take (i+1)).all p=((l.take i).all p&&p x):=by
 rw[ho,L,Di];simp
def agk {α:Type}{p:α->Bool}{l:List α}{i:Nat}{x:α}(L:l[i]?=some x)(h:p x=false):l.all p=false:=by
 rw[List.all_eq_false];exact⟨x,cL L,by simp[h]⟩
abbrev Qf:(List ax)×Int×Int->List Data:=λ(l,n,d)=>[.ar (l.map av),.int .i64 n,.int .i64 d]
def Lj:=bI Qf λ(l,n,d)=>ca (n<=1000000) (.same (.bool (qU l n d)))
def asT:∀a b,Qf a=Qf b->a=b:=by
  rintro⟨hZ,rb,d1⟩ ⟨Z,re,d2⟩ h;simp only[bl,Data.int.injEq,Data.ar.injEq] at h;exact cz (map_inj j1 _ _ h.1) (cz h.2.1.2 h.2.2.1.2)
@[go_sem] def asU (l n d):=cl Lj rfl asT (l,n,d) rfl
def asV (T:bj)(qV:T IB=aG Lg):WF T af9 Lj:=by
 refine b7 λ(l,n,d)=>cq λY=>⟨rfl,b6 ?_⟩;simp only[af9,Qf,bX];simp only[go_sem,go_sem_proc,qV,aj];refine cX [0,1,2] [] (λ(i:Nat) tm mem=>i<=D l/\(l.take i).all (λf=>pq f d)=true/\tm 7=.J (.int .i64 i)) (λi=>D l-i) 0 (by refine⟨by omega,by simp,rfl⟩) ?_;intro vs ms aK aF;simp only[go_sem,go_sem_proc,qV,aj] at aK aF;subst aK aF;rintro i tm mem R hm ⟨ab,al,bM⟩;simp only[go_sem,go_sem_proc,qV,bl] at R;obtain⟨au,F,G⟩:=R
 by_cases a7:i<D l/\(i:Int)<=n
 ·obtain⟨aq,eZ⟩:=a7;obtain⟨⟨⟨a,b⟩,⟨c,e⟩⟩,L⟩:∃f,l[i]?=some f:=⟨_,bf aq⟩;have d1:decide ((i:Int)<(D l:Int))=true:=c7;have d2:decide ((i:Int)<=n)=true:=mL eZ;have bL:=e2 (i:=i) (by omega);rcases vV:pq ((a,b),(c,e)) d
  ·have M:qU l n d=false:=by unfold qU;rw[agk L vV,iZ]
   rw[M];refine ah ?_;repeat' (intro h<;>simp only[h,go_sem,go_sem_proc,qV,au,F,G,bM,L,d1,d2,bL,vV,av,aj,bg]<;>try refine ae ?_ ?_)
  ·refine ah ?_;repeat' (intro h<;>simp only[h,go_sem,go_sem_proc,qV,au,F,G,bM,L,d1,d2,bL,vV,av,aj,bg]<;>try refine ae ?_ ?_)
   exact⟨i+1,by omega,by omega,by rw[agj L,al,vV];rfl,rfl⟩
 ·have M:qU l n d=decide ((D l:Int)<=n):=by
   unfold qU
   by_cases A2:(D l:Int)<=n
   ·have:i=D l:=by omega
    rw[this,mB] at al;rw[al,pF]
   ·rw[me A2,eO]
  rw[M];rcases d1:decide ((i:Int)<(D l:Int))
  ·refine ah ?_;repeat' (intro h<;>simp only[h,go_sem,go_sem_proc,qV,au,F,G,bM,d1,aj]<;>try refine ae ?_ ?_)
  ·have d2:decide ((i:Int)<=n)=false:=me (by have:=of_decide_eq_true d1;omega);refine ah ?_;repeat' (intro h<;>simp only[h,go_sem,go_sem_proc,qV,au,F,G,bM,d1,d2,aj]<;>try refine ae ?_ ?_)
def Lk (a b:List ax):Bool:=decide (a=b)
abbrev Qg:(List ax)×(List ax)->List Data:=λ(l,Z)=>[.ar (l.map av),.ar (Z.map av)]
def GW:=bI Qg λ(l,Z)=>ca (ih l/\ih Z) (.same (.bool (Lk l Z)))
def asW:∀a b,Qg a=Qg b->a=b:=by
  rintro⟨hZ,sG⟩ ⟨Z,sH⟩ h;simp only[bl,Data.int.injEq,Data.ar.injEq] at h;exact cz (map_inj j1 _ _ h.1) (map_inj j1 _ _ h.2.1)
@[go_sem] def asX (l Z):=cl GW rfl asW (l,Z) rfl
def asY (T:bj)(DF:T Sy=aG P9):WF T aga GW:=by
 refine b7 λ(l,Z)=>cq λY=>⟨rfl,b6 ?_⟩;simp only[aga,Qg,bX];obtain⟨⟨bs,MG⟩,br,RC⟩:=Y
 by_cases ag:(D l)=D Z
 ·have aQ:(((D l:Nat):Int)==((D Z:Nat):Int))=true:=by simp;omega
  simp only[go_sem,go_sem_proc,DF,aj,aQ,c2,bne];refine cX [0,1] [] (λ(i:Nat) tm mem=>i<=D l/\l.take i=Z.take i/\tm 5=.J (.int .i64 i)) (λi=>D l-i) 0 (by refine⟨by omega,by simp,rfl⟩) ?_;intro vs ms aK aF;simp only[go_sem,go_sem_proc,DF,aj] at aK aF;subst aK aF;rintro i tm mem R hm ⟨ab,al,bw⟩;simp only[go_sem,go_sem_proc,DF,bl] at R;obtain⟨au,F⟩:=R;rcases du (i<D l) with aq|bD
  ·obtain⟨⟨⟨a,b⟩,⟨c,e⟩⟩,L⟩:∃f,l[i]?=some f:=⟨_,bf aq⟩;obtain⟨⟨⟨cD,eG⟩,⟨kB,e'⟩⟩,ak⟩:∃f,Z[i]?=some f:=⟨_,bf (by omega)⟩;obtain⟨kq,jK⟩:=MG _ (cL L);obtain⟨pd,pe⟩:=RC _ (cL ak);dsimp only at kq jK pd pe;have d1:decide ((i:Int)<(D l:Int))=true:=c7;have bL:=e2 (i:=i) (by omega);rcases Q:P8 ((a,b),(c,e)) ((cD,eG),(kB,e'))
   ·have M:Lk l Z=false:=by
     refine me λh=>of_decide_eq_false Q ?_;rw[h,ak] at L;exact (mm L).symm
    rw[M];refine ah ?_;repeat' (intro (ai:_=_)<;>simp only[ai,go_sem,go_sem_proc,DF,au,F,bw,L,ak,d1,bL,kq,jK,pd,pe,Q,av,aj,bg]<;>try refine ae ?_ ?_)
   ·refine ah ?_;repeat' (intro (ai:_=_)<;>simp only[ai,go_sem,go_sem_proc,DF,au,F,bw,L,ak,d1,bL,kq,jK,pd,pe,Q,av,aj,bg]<;>try refine ae ?_ ?_)
    exact⟨i+1,by omega,by omega,by rw[ho,ho,L,ak,al,of_decide_eq_true Q],rfl⟩
  ·have d1:decide ((i:Int)<(D l:Int))=false:=df
   have M:Lk l Z=true:=by
    refine mL ?_;rw[dF (by omega),dF (by omega)] at al;exact al
   rw[M];refine ah ?_;repeat' (intro (ai:_=_)<;>simp only[ai,go_sem,go_sem_proc,DF,au,F,bw,d1,aj]<;>try refine ae ?_ ?_)
 ·have aQ:(((D l:Nat):Int)==((D Z:Nat):Int))=false:=by simp;omega
  have M:Lk l Z=false:=me λh=>ag (by rw[h]);rw[M];refine ah ?_;repeat' (intro (ai:_=_)<;>simp only[ai,go_sem,go_sem_proc,DF,aj,aQ,dc,bne]<;>try refine ae ?_ ?_)
def agl:bG:=bV 67 2 [.t 4,.t 5,.t 6] (O [cH 4,cH 5,ba 6 0] (.seq (O [E 15 0,E 16 1,bK 17 B8 15 16,dT 18 17] (bQ 18 [cH 4,cH 5,ba 6 1])) (O [E 20 0,E 21 1,bK 22 S9 20 21,c8 23 B9 22,E 19 23,aP 24 0 19,aP 25 1 19,aP 26 2 19,E 7 24,E 8 25,E 9 26] (.seq (O [E 27 9,bd 28 .neq 27 0] (bQ 28 [E 29 9,cH 4,cH 5,E 6 29])) (O [cH 10] (.seq (O [ba 11 0] (.block 0 (.ghost (.mM 10 415056 5) (.loop  (.seq (O [E 30 11,E 31 1,bt 32 .lss 30 31] (de 32 0)) (.seq (.block 1 (.seq (O [E 35 7,E 36 11,bE 37 4 35 36,aE 38 0 37,aE 39 0 38,aJ 40 1 39,bd 41 .neq 40 0] (bQ 41 [E 42 7,cH 4,E 5 42,ba 6 16])) (O [aB 44 (.call sv [.c (bn 1)]),E 45 0,E 46 1,E 47 11,oU 48 E2 44 45 46 47,E 43 48,aP 49 0 43,aP 50 1 43,bR 12 415012 hJ,a1 5 12 49,E 13 50] (.seq (O [E 51 13,dT 52 51] (bQ 52 [cH 4,cH 5,ba 6 6])) (.ops [E 53 10,aD 54 5 12,aB 55 (.dN 415055 false hJ 5 1 [(0,5,.t 54)]),aB 56 (.app 415056 hJ 88 (.t 53) (.t 55)),E 10 56]))))) (.ops [E 33 11,bd 34 .add 33 1,E 11 34]))))))) (.seq (.ghost (.freeze 10) (.ops [E 58 10,E 59 1,bK 60 IN 58 59,E 57 60,aP 61 0 57,aP 62 1 57,E 14 61,E 9 62])) (.seq (O [E 63 9,bd 64 .neq 63 0] (bQ 64 [E 65 9,cH 4,cH 5,E 6 65])) (O [E 66 14,E 4 66,cH 5,ba 6 0] .ret)))))))))
def agm:bG:=bV 65 3 [.t 6] (O [bY 6 false] (.seq (O [E 11 0,E 12 1,bK 13 B8 11 12,dT 14 13,E 15 14,dK 16 15 2,nJ 17 15 16,dK 18 15 1,nK 19 15 .neq 17 18,cF 20 15 19] (bQ 20 [bY 6 false])) (.seq (O [ba 7 0] (dU 0 (.seq (O [E 21 7,E 22 1,bt 23 .lss 21 22] (de 23 0)) (.seq (.block 1 (O [E 26 2,E 27 7,bE 28 4 26 27,aD 29 4 28,c8 30 kY 29,dT 31 30,E 32 31,dK 33 32 2,dK 34 32 7,sw 35 32 4 33 34,fr 36 32 0 35,fr 37 32 0 36,fA 38 32 1 37,gN 39 32 .leq 38 0,cF 40 32 39] (bQ 40 [bY 6 false]))) (.ops [E 24 7,bd 25 .add 24 1,E 7 25]))))) (.seq (O [ba 8 0] (dU 2 (.seq (O [E 41 8,E 42 1,bt 43 .lss 41 42] (de 43 2)) (.seq (.block 3 (O [aB 47 (.call sv [.c (bn 0)]),E 48 0,E 49 2,E 50 8,oU 51 B6 47 48 49 50,E 46 51,aP 52 0 46,aP 53 1 46,bR 9 416009 cM,a1 4 9 52,E 10 53] (e3 [E 54 10,dT 55 54,E 56 55,dK 57 56 2,dK 58 56 8,sw 59 56 4 57 58,hx 60 56 4 59,hx 61 56 4 9,fs 62 56 (.call Aa [.t 60,.t 61]),gN 63 56 .leq 62 0,cF 64 56 63] IX (bQ 64 [bY 6 false])))) (.ops [E 44 8,bd 45 .add 44 1,E 8 45]))))) (O [bY 6 true] .ret)))))
def agn:bG:=bV 16 1 [.t 2] (O [cm 1 417001 0,bY 2 false] (O [aE 3 0 1,aJ 4 1 3,aB 5 (.call EL [.t 4,.c (bn 4),.c (bn 1)]),E 6 5,hI 7 6 1 1,iz 8 6 1 7,fB 9 6 (.call EL [.t 8,.c (bn 4),.c (bn 1)]),fF 10 6 9,E 11 10,hI 12 11 2 1,iz 13 11 1 12,fB 14 11 (.call S5 [.t 13]),fF 15 11 14,E 2 15] .ret))
def ago:bG:=bV 24 1 [.t 2] (O [bY 2 false] (.seq (O [ba 3 0] (dU 0 (.seq (O [E 4 3,E 5 0,cg 6 5,bt 7 .lss 4 6,E 8 7,ev 9 8 3,kj 10 8 .leq 9 10,fF 11 8 10] (de 11 0)) (.seq (.block 1 (O [E 14 0,E 15 3,bE 16 6 14 15,aE 17 2 16,aD 18 4 17,aB 19 (.call IB [.t 18,.c (bn 1)]),dT 20 19] (bQ 20 [bY 2 false]))) (.ops [E 12 3,bd 13 .add 12 1,E 3 13]))))) (O [E 21 0,cg 22 21,bd 23 .leq 22 10,E 2 23] .ret)))
def agp:bG:=bV 62 4 [.cell 8 4 true,.t 9] (O [cm 4 419004 0,bR 8 419008 cM,bY 9 false] (O [aD 16 4 4,bR 10 419010 cM,a1 4 10 16] (.seq (O [ba 11 0] (dU 0 (.seq (O [E 17 11,E 18 1,cg 19 18,bt 20 .lss 17 19] (de 20 0)) (.seq (.block 1 (.seq (O [E 23 1,E 24 11,bE 25 6 23 24,aE 26 1 25,aJ 27 1 26,E 28 3,bt 29 .neq 27 28] (fj 29 (.exit 1) .skip)) (e3 [E 31 1,E 32 11,bE 33 6 31 32,aE 34 2 33,aD 35 4 34,E 36 2,E 37 1,E 38 11,bE 39 6 37 38,aE 40 0 39,aJ 41 1 40,bE 42 4 36 41,aD 43 4 42,bK 44 IQ 35 43,E 30 44,aP 45 0 30,aP 46 1 30,bR 12 419012 cM,a1 4 12 45,E 13 46] [[],[],[],[],[],[],[],[],[],[],[],[],[],[],[],[],[],[4,10,12],[],[]] (O [aD 48 4 10,aD 49 4 12,bK 50 SP 48 49,E 47 50,aP 51 0 47,aP 52 1 47,bR 14 419014 cM,a1 4 14 51,E 15 52] (.seq (O [E 53 13,bd 54 .neq 53 0,E 55 54,dK 56 55 15,gN 57 55 .neq 56 0,cF 58 55 57] (bQ 58 [aB 59 (.build cM []),a1 4 8 59,bY 9 false])) (.ops [aD 60 4 14,a1 4 10 60])))))) (.ops [E 21 11,bd 22 .add 21 1,E 11 22]))))) (O [aD 61 4 10,a1 4 8 61,bY 9 true] .ret))))
def agq:bG:=bV 73 2 [.t 4] (O [cm 2 420002 0,bY 4 false] (.seq (O [aD 9 3 2,c8 10 B7 9,dT 11 10,E 12 11,dK 13 12 1,nJ 14 12 13,fr 15 12 0 2,fA 16 12 1 15,nJ 17 12 16,nK 18 12 .neq 14 17,cF 19 12 18] (bQ 19 [bY 4 false])) (.seq (O [ba 5 0] (dU 0 (.seq (O [E 20 5,E 21 1,cg 22 21,bt 23 .lss 20 22] (de 23 0)) (.seq (.block 1 (O [E 26 1,E 27 5,bE 28 4 26 27,aD 29 4 28,c8 30 kY 29,dT 31 30] (bQ 31 [bY 4 false]))) (.ops [E 24 5,bd 25 .add 24 1,E 5 25]))))) (.seq (O [ba 6 0] (dU 2 (.seq (O [E 32 6,E 33 1,cg 34 33,bt 35 .lss 32 34] (de 35 2)) (.seq (.block 3 (e3 [aE 39 1 2,aJ 40 1 39,E 41 6,bE 42 4 40 41,aD 43 4 42,aE 44 2 2,aJ 45 1 44,E 46 1,E 47 6,oU 48 B6 43 45 46 47,E 38 48,aP 49 0 38,aP 50 1 38,bR 7 420007 cM,a1 4 7 49,E 8 50] [[],[],[],[],[],[],[],[],[],[],[],[],[],[1,4,6],[],[]] (.seq (O [E 51 8,dT 52 51] (bQ 52 [bY 4 false])) (.seq (e3 [aD 53 4 7,aE 54 0 2,aJ 55 1 54,E 56 6,bE 57 4 55 56,aD 58 4 57,bK 59 Aa 53 58,bd 60 .gtr 59 0] Td (fj 60 (.ops [aE 61 0 2,aJ 62 1 61,E 63 6,bE 64 4 62 63,aD 65 4 64,a1 4 7 65]) .skip)) (e3 [aD 66 4 7,E 67 1,E 68 6,bE 69 4 67 68,aD 70 4 69,bK 71 Aa 66 70,bd 72 .neq 71 0] E4 (bQ 72 [bY 4 false])))))) (.ops [E 36 6,bd 37 .add 36 1,E 6 37]))))) (O [bY 4 true] .ret)))))
def agr:bG:=bV 130 1 [.t 2,.t 3,.t 4] (O [cm 1 421001 0,cH 2,cH 3,ba 4 0] (.seq (O [aD 13 3 1,c8 14 B7 13,dT 15 14] (bQ 15 [cH 2,cH 3,ba 4 1])) (O [aE 16 0 1,aJ 17 1 16,cg 18 17,E 5 18] (O [E 19 5,aB 20 (.la 421020 [.J (.bool false)] 1 (.t 19) (.t 19)),E 6 20] (.seq (O [ba 7 0] (dU 0 (.seq (O [E 21 7,E 22 5,bt 23 .lss 21 22] (de 23 0)) (.seq (.block 1 (O [ba 8 0] (dU 2 (.seq (O [E 26 8,E 27 5,bt 28 .lss 26 27] (de 28 2)) (.seq (.block 3 (O [aE 31 1 1,aJ 32 1 31,E 33 8,bE 34 4 32 33,aE 35 0 34,aE 36 0 35,aJ 37 1 36,bd 38 .gtr 37 0,E 9 38] (.seq (O [ba 10 0] (dU 4 (.seq (O [E 39 10,aE 40 2 1,aJ 41 1 40,cg 42 41,bt 43 .lss 39 42] (de 43 4)) (.seq (.block 5 (.ops [E 46 9,E 47 46,fr 48 47 2 1,fA 49 47 1 48,dK 50 47 10,sw 51 47 6 49 50,fr 52 47 1 51,fA 53 47 1 52,dK 54 47 8,nK 55 47 .eql 53 54,dK 56 47 55,hI 57 56 2 1,iz 58 56 1 57,ev 59 56 10,rn 60 56 6 58 59,hI 61 56 2 60,hI 62 56 0 61,hI 63 56 0 62,iz 64 56 1 63,kj 65 56 .gtr 64 0,fs 66 47 (.pick (.t 56) (.t 65) (.c (.J (.bool false)))),dK 67 47 66,ev 68 67 6,hI 69 67 2 1,iz 70 67 1 69,ev 71 67 10,rn 72 67 6 70 71,hI 73 67 0 72,iz 74 67 1 73,rn 75 67 1 68 74,iz 76 67 1 75,fs 77 47 (.pick (.t 67) (.t 76) (.c (.J (.bool false)))),cF 78 47 77,E 9 78])) (.ops [E 44 10,bd 45 .add 44 1,E 10 45]))))) (.ops [E 79 6,E 80 8,E 81 6,E 82 8,bE 83 1 81 82,aJ 84 1 83,E 85 84,dK 86 85 9,dK 87 85 86,hI 88 87 0 1,iz 89 87 1 88,ev 90 87 8,rn 91 87 4 89 90,hI 92 87 0 91,hI 93 87 0 92,iz 94 87 1 93,kj 95 87 .gtr 94 0,fs 96 85 (.pick (.t 87) (.t 95) (.c (.J (.bool false)))),cF 97 85 96,bE 98 1 79 80,a1 1 98 97])))) (.ops [E 29 8,bd 30 .add 29 1,E 8 30])))))) (.ops [E 24 7,bd 25 .add 24 1,E 7 25]))))) (O [cH 11] (.seq (O [ba 12 0] (.block 6 (.ghost (.mM 11 421115 4) (.loop  (.seq (O [E 99 12,E 100 5,bt 101 .lss 99 100] (de 101 6)) (.seq (.block 7 (O [E 104 6,E 105 12,bE 106 1 104 105,aJ 107 1 106] (fj 107 (.ops [E 108 11,aE 109 0 1,aJ 110 1 109,E 111 12,bE 112 4 110 111,aD 113 4 112,aB 114 (.dN 421114 false cM 4 1 [(0,4,.t 113)]),aB 115 (.app 421115 cM 64 (.t 108) (.t 114)),E 11 115]) (.ops [E 116 11,aB 117 (.call sv [.c (bn 0)]),aB 118 (.dN 421118 false cM 4 1 [(0,4,.t 117)]),aB 119 (.app 421119 cM 64 (.t 116) (.t 118)),E 11 119])))) (.ops [E 102 12,bd 103 .add 102 1,E 12 103]))))))) (.seq (.ghost (.freeze 11) (.ops [E 120 11,aE 121 1 1,aJ 122 1 121,aE 123 2 1,aJ 124 1 123,aB 125 (.build yq [(0,1,.t 120),(1,1,.t 122),(2,1,.t 124)]),c8 126 B9 125,aP 127 0 126,aP 128 1 126,aP 129 2 126,E 2 127,E 3 128,E 4 129])) .ret))))))))
def ags:bG:=bV 11 1 [.t 2] (O [cm 1 422001 0,bY 2 false] (O [aD 3 4 1,c8 4 kY 3,E 5 4,hI 6 5 0 1,hI 7 5 0 6,iz 8 5 1 7,kj 9 5 .geq 8 0,fF 10 5 9,E 2 10] .ret))
def agt:bG:=bV 41 1 [.t 2] (O [cm 1 423001 0,bY 2 false] (O [aE 5 0 1,aJ 6 1 5,cg 7 6,E 3 7] (.seq (O [aE 8 1 1,aJ 9 1 8,cg 10 9,E 11 3,bt 12 .neq 10 11,E 13 12,fr 14 13 2 1,fA 15 13 1 14,dK 16 13 3,fs 17 13 (.call B8 [.t 15,.t 16]),ib 18 13 17,cF 19 13 18] (bQ 19 [bY 2 false])) (.seq (O [ba 4 0] (dU 0 (.seq (O [E 20 4,E 21 3,bt 22 .lss 20 21] (de 22 0)) (.seq (.block 1 (O [aE 25 0 1,aJ 26 1 25,E 27 4,bE 28 4 26 27,aD 29 4 28,c8 30 E0 29,dT 31 30,E 32 31,fr 33 32 1 1,fA 34 32 1 33,dK 35 32 4,sw 36 32 4 34 35,hx 37 32 4 36,fs 38 32 (.call E0 [.t 37]),ib 39 32 38,cF 40 32 39] (bQ 40 [bY 2 false]))) (.ops [E 23 4,bd 24 .add 23 1,E 4 24]))))) (O [bY 2 true] .ret)))))
def agu:bG:=bV 64 2 [.t 4] (O [bY 4 false] (.seq (O [E 6 1,bd 7 .lss 6 0,E 8 7,dK 9 8 1,gN 10 8 .gtr 9 40,cF 11 8 10,E 12 11,dK 13 12 0,nJ 14 12 13,gN 15 12 .gtr 14 400,cF 16 12 15] (bQ 16 [bY 4 false])) (.seq (O [ba 5 0] (dU 0 (.seq (O [E 17 5,E 18 0,cg 19 18,bt 20 .lss 17 19] (de 20 0)) (.seq (.block 1 (O [E 23 0,E 24 5,bE 25 6 23 24,aE 26 0 25,aJ 27 1 26,bd 28 .lss 27 0,E 29 28,dK 30 29 0,dK 31 29 5,sw 32 29 6 30 31,fr 33 29 0 32,fA 34 29 1 33,dK 35 29 1,nK 36 29 .geq 34 35,cF 37 29 36,E 38 37,dK 39 38 0,dK 40 38 5,sw 41 38 6 39 40,fr 42 38 1 41,fA 43 38 1 42,gN 44 38 .lss 43 0,cF 45 38 44,E 46 45,dK 47 46 0,dK 48 46 5,sw 49 46 6 47 48,fr 50 46 1 49,fA 51 46 1 50,dK 52 46 1,nK 53 46 .geq 51 52,cF 54 46 53,E 55 54,dK 56 55 0,dK 57 55 5,sw 58 55 6 56 57,fr 59 55 2 58,hx 60 55 4 59,fs 61 55 (.call E0 [.t 60]),ib 62 55 61,cF 63 55 62] (bQ 63 [bY 4 false]))) (.ops [E 21 5,bd 22 .add 21 1,E 5 22]))))) (O [bY 4 true] .ret))))
def agv:bG:=bV 27 2 [.t 4] (O [bY 4 false] (.seq (O [E 6 0,cg 7 6,E 8 1,cg 9 8,bt 10 .neq 7 9] (bQ 10 [bY 4 false])) (.seq (O [ba 5 0] (dU 0 (.seq (O [E 11 5,E 12 0,cg 13 12,bt 14 .lss 11 13] (de 14 0)) (.seq (.block 1 (e3 [E 17 0,E 18 5,bE 19 5 17 18,aD 20 5 19,E 21 1,E 22 5,bE 23 5 21 22,aD 24 5 23,bK 25 Nv 20 24,dT 26 25] IW (bQ 26 [bY 4 false]))) (.ops [E 15 5,bd 16 .add 15 1,E 5 16]))))) (O [bY 4 true] .ret))))
def agw:bG:=bV 53 2 [.t 4] (O [bY 4 false] (.seq (O [E 7 0,cg 8 7,E 9 1,cg 10 9,bt 11 .neq 8 10] (bQ 11 [bY 4 false])) (.seq (O [ba 5 0] (dU 0 (.seq (O [E 12 5,E 13 0,cg 14 13,bt 15 .lss 12 14] (de 15 0)) (.seq (.block 1 (.seq (e3 [E 18 0,E 19 5,bE 20 1 18 19,aJ 21 1 20,cg 22 21,E 23 1,E 24 5,bE 25 1 23 24,aJ 26 1 25,cg 27 26,bt 28 .neq 22 27] IX (bQ 28 [bY 4 false])) (O [ba 6 0] (dU 2 (.seq (O [E 29 6,E 30 0,E 31 5,bE 32 1 30 31,aJ 33 1 32,cg 34 33,bt 35 .lss 29 34] (de 35 2)) (.seq (.block 3 (e3 [E 38 0,E 39 5,bE 40 1 38 39,aJ 41 1 40,E 42 6,bE 43 1 41 42,aJ 44 1 43,E 45 1,E 46 5,bE 47 1 45 46,aJ 48 1 47,E 49 6,bE 50 1 48 49,aJ 51 1 50,bt 52 .neq 44 51] alF (bQ 52 [bY 4 false]))) (.ops [E 36 6,bd 37 .add 36 1,E 6 37]))))))) (.ops [E 16 5,bd 17 .add 16 1,E 5 17]))))) (O [bY 4 true] .ret))))
def agx:bG:=bV 137 1 [.t 2,.t 3,.t 4] (O [cm 1 427001 0,cH 2,cH 3,ba 4 0] (.seq (O [aD 21 3 1,c8 22 B7 21,dT 23 22] (bQ 23 [cH 2,cH 3,ba 4 1])) (O [aE 24 0 1,aJ 25 1 24,cg 26 25,E 5 26] (O [E 27 5,aB 28 (.la 427028 [.J (.bool false)] 1 (.t 27) (.t 27)),E 6 28] (O [cH 7] (.block 0 (.ghost (.mM 7 427136 1) (.loop  (.block 1 (O [cH 8] (.seq (O [ba 9 0] (.block 2 (.ghost (.mM 8 427056 5) (.loop  (.seq (O [E 29 9,E 30 5,bt 31 .lss 29 30] (de 31 2)) (.seq (.block 3 (O [E 34 6,E 35 9,bE 36 1 34 35,aJ 37 1 36] (fj 37 (e3 [aE 39 1 1,aJ 40 1 39,E 41 9,bE 42 4 40 41,aD 43 4 42,aE 44 2 1,aJ 45 1 44,E 46 5,E 47 9,oU 48 E2 43 45 46 47,E 38 48,aP 49 0 38,aP 50 1 38,bR 10 427010 hJ,a1 5 10 49,E 11 50] [[],[],[],[],[],[],[],[],[],[],[],[],[],[1,4,6],[],[]] (.seq (O [E 51 11,dT 52 51] (bQ 52 [cH 2,cH 3,ba 4 6])) (.ops [E 53 8,aD 54 5 10,aB 55 (.dN 427055 false hJ 5 1 [(0,5,.t 54)]),aB 56 (.app 427056 hJ 88 (.t 53) (.t 55)),E 8 56]))) (O [aE 58 0 1,aJ 59 1 58,E 60 9,bE 61 4 59 60,aD 62 4 61,E 63 5,E 64 9,aB 65 (.call E2 [.t 62,.c .nil,.t 63,.t 64]),E 57 65,aP 66 0 57,aP 67 1 57,bR 12 427012 hJ,a1 5 12 66,E 13 67] (.ops [E 68 8,aD 69 5 12,aB 70 (.dN 427070 false hJ 5 1 [(0,5,.t 69)]),aB 71 (.app 427071 hJ 88 (.t 68) (.t 70)),E 8 71]))))) (.ops [E 32 9,bd 33 .add 32 1,E 9 33]))))))) (.seq (.ghost (.freeze 8) (.ops [E 73 8,E 74 5,bK 75 IN 73 74,E 72 75,aP 76 0 72,aP 77 1 72,E 14 76,E 15 77])) (.seq (O [E 78 15,bd 79 .neq 78 0] (bQ 79 [cH 2,cH 3,ba 4 6])) (O [cH 16] (.seq (O [ba 17 0] (.block 4 (.ghost (.mM 16 427115 1) (.loop  (.seq (O [E 80 17,E 81 5,bt 82 .lss 80 81] (de 82 4)) (.seq (.block 5 (.seq (O [E 85 6,E 86 17,bE 87 1 85 86,aJ 88 1 87] (fj 88 (.exit 5) .skip)) (e3 [aE 90 1 1,aJ 91 1 90,E 92 17,bE 93 4 91 92,aD 94 4 93,aE 95 2 1,aJ 96 1 95,E 97 14,E 98 17,oU 99 B6 94 96 97 98,E 89 99,aP 100 0 89,aP 101 1 89,bR 18 427018 cM,a1 4 18 100,E 19 101] [[],[],[],[],[],[],[],[],[],[],[],[],[],[1,4,6],[],[]] (.seq (O [E 102 19,dT 103 102] (bQ 103 [cH 2,cH 3,ba 4 6])) (e3 [aD 104 4 18,aE 105 0 1,aJ 106 1 105,E 107 17,bE 108 4 106 107,aD 109 4 108,bK 110 Aa 104 109,bd 111 .lss 110 0] Td (fj 111 (.ops [E 112 16,E 113 17,aB 114 (.dN 427114 false [bn 0] 1 1 [(0,1,.t 113)]),aB 115 (.app 427115 [bn 0] 8 (.t 112) (.t 114)),E 16 115]) .skip)))))) (.ops [E 83 17,bd 84 .add 83 1,E 17 84]))))))) (.seq (O [E 116 16,cg 117 116,bd 118 .eql 117 0] (bQ 118 [E 119 14,E 120 7,E 2 119,E 3 120,ba 4 0])) (.seq (O [ba 20 0] (dU 6 (.seq (O [E 121 20,E 122 16,cg 123 122,bt 124 .lss 121 123] (de 124 6)) (.seq (.block 7 (.ops [E 127 6,E 128 16,E 129 20,bE 130 1 128 129,aJ 131 1 130,bE 132 1 127 131,⟨none,none,.store 1 (.t 132) (.c (.J (.bool true)))⟩])) (.ops [E 125 20,bd 126 .add 125 1,E 20 126]))))) (.ghost (.freeze 16) (.ops [E 133 7,E 134 16,aB 135 (.dN 427135 false [.nil] 1 1 [(0,1,.t 134)]),aB 136 (.app 427136 [.nil] 24 (.t 133) (.t 135)),E 7 136])))))))))))))))))))
def agy:bG:=bV 27 2 [.cell 4 3 true] (O [bR 4 428004 yq] (O [E 7 0,aB 8 (.build yq [(2,1,.t 7)]),bR 5 428005 yq,a1 3 5 8] (.seq (.seq (.ghost (.DZ (.t 5) 0 428018 4) (.ghost (.DZ (.t 5) 1 428024 4) (.ops [ba 6 0]))) (dU 0 (.seq (O [E 9 6,E 10 1,bt 11 .lss 9 10] (de 11 0)) (.seq (.block 1 (e3 [aE 14 0 5,aJ 15 1 14,aB 16 (.call sv [.c (bn 1)]),aB 17 (.dN 428017 false cM 4 1 [(0,4,.t 16)]),aB 18 (.app 428018 cM 64 (.t 15) (.t 17)),aE 19 0 5,a1 1 19 18] E4 (.mN [aE 20 1 5,aJ 21 1 20,aB 22 (.call sv [.c (bn 0)]),aB 23 (.dN 428023 false cM 4 1 [(0,4,.t 22)]),aB 24 (.app 428024 cM 64 (.t 21) (.t 23)),aE 25 1 5,a1 1 25 24] E4))) (.ops [E 12 6,bd 13 .add 12 1,E 6 13]))))) (O [aD 26 3 5,a1 3 4 26] .ret))))
def agz:bG:=bV 77 4 [.cell 8 5 true,.t 9] (O [cm 4 429004 0,bR 8 429008 hJ,bY 9 false] (O [aD 15 4 4,aB 16 (.build hJ [(1,4,.t 15)]),bR 10 429010 hJ,a1 5 10 16] (.seq (.seq (.ghost (.DZ (.t 10) 0 429026 4) (.ops [ba 11 0])) (dU 0 (.seq (O [E 17 11,E 18 2,bt 19 .lss 17 18] (de 19 0)) (.seq (.block 1 (.mN [aE 22 0 10,aJ 23 1 22,aB 24 (.call sv [.c (bn 0)]),aB 25 (.dN 429025 false cM 4 1 [(0,4,.t 24)]),aB 26 (.app 429026 cM 64 (.t 23) (.t 25)),aE 27 0 10,a1 1 27 26] E4)) (.ops [E 20 11,bd 21 .add 20 1,E 11 21]))))) (e3 [aE 28 0 10,aJ 29 1 28,E 30 3,aB 31 (.call sv [.c (bn 1)]),bE 32 4 29 30,a1 4 32 31] Nx (.seq (O [ba 12 0] (dU 2 (.seq (O [E 33 12,E 34 1,cg 35 34,bt 36 .lss 33 35] (de 36 2)) (.seq (.block 3 (.seq (O [E 39 1,E 40 12,bE 41 6 39 40,aE 42 1 41,aJ 43 1 42,E 44 3,bt 45 .neq 43 44] (fj 45 (.exit 3) .skip)) (e3 [aE 47 0 10,aJ 48 1 47,E 49 1,E 50 12,bE 51 6 49 50,aE 52 0 51,aJ 53 1 52,bE 54 4 48 53,aD 55 4 54,E 56 1,E 57 12,bE 58 6 56 57,aE 59 2 58,aD 60 4 59,bK 61 IP 55 60,E 46 61,aP 62 0 46,aP 63 1 46,bR 13 429013 cM,a1 4 13 62,E 14 63] [[],[],[],[],[],[],[],[],[],[],[],[],[],[],[],[],[],[],[1,6,8,13],[],[]] (.seq (O [E 64 14,bd 65 .neq 64 0] (bQ 65 [aB 66 (.build hJ []),a1 5 8 66,bY 9 false])) (.mN [aE 67 0 10,aJ 68 1 67,E 69 1,E 70 12,bE 71 6 69 70,aE 72 0 71,aJ 73 1 72,aD 74 4 13,bE 75 4 68 73,a1 4 75 74] IW))))) (.ops [E 37 12,bd 38 .add 37 1,E 12 38]))))) (O [aD 76 5 10,a1 5 8 76,bY 9 true] .ret))))))
def agA:bG:=bV 11 1 [.cell 2 4 true] (O [bR 2 430002 cM] (O [E 6 0,aB 7 (.call IC [.t 6,.c (bn 1)]),E 5 7,aP 8 0 5,aP 9 1 5,bR 3 430003 cM,a1 4 3 8,E 4 9] (O [aD 10 4 3,a1 4 2 10] .ret)))
def Ll:=bI k4 λ(s,l,s2,Z)=>ca (D l<=1000000/\D Z<=1000000) (.same (.bool (g4 ((s,l),(s2,Z)))))
@[go_sem] def aBI (s l s2 Z):=cl Ll rfl ud (s,l,s2,Z) rfl
def asZ (T:bj)(dw:T kY=aG uE):WF T ags Ll:=by
 refine b7 λ(s,l,s2,Z)=>cq λY=>⟨rfl,b6 ?_⟩;simp only[ags,k4,bX];obtain⟨bs,br⟩:=Y;unfold g4;rcases M:cA ((s,l),(s2,Z))
 ·refine ah ?_;repeat' (intro h<;>simp only[h,go_sem,go_sem_proc,dw,bs,br,M]<;>try refine ae ?_ ?_)
 ·refine ah ?_;repeat' (intro h<;>simp only[h,go_sem,go_sem_proc,dw,bs,br,M]<;>try refine ae ?_ ?_)
def vW (ls:List cn):Bool:=decide ((D ls:Int)<=10)&&ls.all λl=>pq l.2.2 1
abbrev Qh:List cn->List Data:=λ(ls:List cn)=>[.ar (ls.map fh)]
def Qi:=bI Qh λ(ls:List cn)=>some (.same (.bool (vW ls)))
def as0:∀a b,Qh a=Qh b->a=b:=by
  intro y5 y6 h;simp only[bl,Data.ar.injEq] at h;exact map_inj uy _ _ h.1
@[go_sem] def aBJ (ls):=sm Qi rfl as0 ls rfl
def as1 (T:bj)(qV:T IB=aG Lg):WF T ago Qi:=by
 refine b7 λls=>⟨rfl,b6 ?_⟩;simp only[ago,Qh,bX];simp only[go_sem,go_sem_proc,qV,aj];refine cX [0] [] (λ(i:Nat) tm mem=>i<=D ls/\(ls.take i).all (λl=>pq l.2.2 1)=true/\tm 3=.J (.int .i64 i)) (λi=>D ls-i) 0 (by refine⟨dG _,by simp,rfl⟩) ?_;intro vs ms aK aF;simp only[go_sem,go_sem_proc,qV,aj] at aK aF;subst aK aF;rintro i tm mem R hm ⟨ab,al,ad⟩;simp only[go_sem,go_sem_proc,qV,bl] at R;have au:=R
 by_cases a7:i<D ls/\(i:Int)<=10
 ·obtain⟨aq,eZ⟩:=a7;obtain⟨⟨f,t,⟨a,b⟩,⟨c,e⟩⟩,L⟩:∃f,ls[i]?=some f:=⟨_,bf aq⟩;have d1:decide ((i:Int)<(D ls:Int))=true:=c7;have d2:decide ((i:Int)<=10)=true:=mL eZ;have bL:=e2 (i:=i) (by omega);rcases vV:pq ((a,b),(c,e)) 1
  ·have M:vW ls=false:=by unfold vW;rw[agk L vV,iZ]
   rw[M];refine ah ?_;repeat' (intro h<;>simp only[h,go_sem,go_sem_proc,qV,au,ad,L,d1,d2,bL,vV,fh,av,aj,bg]<;>try refine ae ?_ ?_)
  ·refine ah ?_;repeat' (intro h<;>simp only[h,go_sem,go_sem_proc,qV,au,ad,L,d1,d2,bL,vV,fh,av,aj,bg]<;>try refine ae ?_ ?_)
   exact⟨i+1,by omega,by omega,by rw[agj L,al,vV];rfl,rfl⟩
 ·have M:vW ls=decide ((D ls:Int)<=10):=by
   unfold vW
   by_cases A2:(D ls:Int)<=10
   ·have:i=D ls:=by omega
    rw[this,mB] at al;rw[al,pF]
   ·rw[me A2,eO]
  rw[M];rcases d1:decide ((i:Int)<(D ls:Int))
  ·refine ah ?_;repeat' (intro h<;>simp only[h,go_sem,go_sem_proc,qV,au,ad,d1,aj]<;>try refine ae ?_ ?_)
  ·have d2:decide ((i:Int)<=10)=false:=me (by have:=of_decide_eq_true d1;omega);refine ah ?_;repeat' (intro h<;>simp only[h,go_sem,go_sem_proc,qV,au,ad,d1,d2,aj]<;>try refine ae ?_ ?_)
def GX (cap base:List ax)(ls:List cn):Bool:=qU cap 4 1&&(qU base 4 1&&vW ls)
def Qj:=bI pW λ(cap,base,ls)=>some (.same (.bool (GX cap base ls)))
@[go_sem] def as2 (cap base ls):=sm Qj rfl CQ (cap,base,ls) rfl
def as3 (T:bj)(zo:T EL=aG Lj)(WQ:T S5=aG Qi):WF T agn Qj:=by
 refine b7 λ(cap,base,ls)=>⟨rfl,b6 ?_⟩;simp only[agn,pW,bX];have aZ:(4:Int)<=1000000:=by decide
 unfold GX;rcases aQ:qU cap 4 1
 ·refine ah ?_;repeat' (intro h<;>simp only[h,go_sem,go_sem_proc,zo,WQ,aZ,aQ]<;>try refine ae ?_ ?_)
 ·rcases az:qU base 4 1
  ·refine ah ?_;repeat' (intro h<;>simp only[h,go_sem,go_sem_proc,zo,WQ,aZ,aQ,az]<;>try refine ae ?_ ?_)
  ·refine ah ?_;repeat' (intro h<;>simp only[h,go_sem,go_sem_proc,zo,WQ,aZ,aQ,az]<;>try refine ae ?_ ?_)
def GY:=bI xe λ(ls,n)=>ca (qQ ls) (.same (.bool (ow ls n)))
@[go_sem] def aBK (ls n):=cl GY rfl O2 (ls,n) rfl
def as4 (T:bj)(l9:T E0=aG Ll):WF T agu GY:=by
 refine b7 λ(ls,n)=>cq λY=>⟨rfl,b6 ?_⟩;simp only[agu,xe,bX];obtain⟨vL,gb⟩:=Y;unfold ow;rcases F:decide (n<0)
 ·rcases G:decide (n>40)
  ·rcases ad:decide ((D ls:Int)>400)
   ·simp only[dc,e0];simp only[go_sem,go_sem_proc,l9,F,G,ad,aj];refine cX [0,1] [] (λ(i:Nat) tm mem=>i<=D ls/\(∀x∈ls.take i,pV n x=false)/\tm 5=.J (.int .i64 i)) (λi=>D ls-i) 0 (by refine⟨dG _,?_,rfl⟩;simp) ?_;intro vs ms aK aF;simp only[go_sem,go_sem_proc,l9,aj] at aK aF;subst aK aF;rintro i tm mem R hm ⟨ab,cZ,mD⟩;simp only[go_sem,go_sem_proc,l9,bl] at R;obtain⟨fI,aQ⟩:=R;rcases du (i<D ls) with aq|bD
    ·have L:=bf aq;obtain⟨ez,eS⟩:=gb _ (hb aq);have jo:=λh=>vn (p:=pV n) cZ L h;have jW:=λ(h:pV n ls[i]=true)=>DG.2 ⟨ls[i],hb aq,h⟩;generalize ls[i]=x at *;have d1:decide ((i:Int)<(D ls:Int))=true:=c7;have bL:=e2 (i:=i) (by omega);obtain⟨a,b,⟨dA,dJ⟩,⟨ep,eB⟩⟩:=x;dsimp only at ez eS;have mq:pV n (a,b,((dA,dJ),(ep,eB)))=(decide (a<0)||(decide (a>=n)||(decide (b<0)||(decide (b>=n) || !g4 ((dA,dJ),(ep,eB)))))):=rfl;rcases gf:decide (a<0)
     ·rcases ik:decide (a>=n)
      ·rcases A3:decide (b<0)
       ·rcases sU:decide (b>=n)
        ·rcases Qk:g4 ((dA,dJ),(ep,eB))
         ·rw[jW (by rw[mq,gf,ik,A3,sU,Qk];rfl)];refine ah ?_;repeat' (intro (ai:_=_)<;>simp only[ai,go_sem,go_sem_proc,l9,fI,aQ,mD,L,d1,bL,ez,eS,gf,ik,A3,sU,Qk,aj,bg,fh,av]<;>try refine ae ?_ ?_)
         ·refine ah ?_;repeat' (intro (ai:_=_)<;>simp only[ai,go_sem,go_sem_proc,l9,fI,aQ,mD,L,d1,bL,ez,eS,gf,ik,A3,sU,Qk,aj,bg,fh,av]<;>try refine ae ?_ ?_)
          exact⟨i+1,by omega,by omega,jo (by rw[mq,gf,ik,A3,sU,Qk];rfl),rfl⟩
        ·rw[jW (by rw[mq,gf,ik,A3,sU];rfl)];refine ah ?_;repeat' (intro (ai:_=_)<;>simp only[ai,go_sem,go_sem_proc,l9,fI,aQ,mD,L,d1,bL,ez,eS,gf,ik,A3,sU,aj,bg,fh,av]<;>try refine ae ?_ ?_)
       ·rw[jW (by rw[mq,gf,ik,A3];rfl)];refine ah ?_;repeat' (intro (ai:_=_)<;>simp only[ai,go_sem,go_sem_proc,l9,fI,aQ,mD,L,d1,bL,ez,eS,gf,ik,A3,aj,bg,fh,av]<;>try refine ae ?_ ?_)
      ·rw[jW (by rw[mq,gf,ik];rfl)];refine ah ?_;repeat' (intro (ai:_=_)<;>simp only[ai,go_sem,go_sem_proc,l9,fI,aQ,mD,L,d1,bL,ez,eS,gf,ik,aj,bg,fh,av]<;>try refine ae ?_ ?_)
     ·rw[jW (by rw[mq,gf];rfl)];refine ah ?_;repeat' (intro (ai:_=_)<;>simp only[ai,go_sem,go_sem_proc,l9,fI,aQ,mD,L,d1,bL,ez,eS,gf,aj,bg,fh,av]<;>try refine ae ?_ ?_)
    ·have d1:decide ((i:Int)<(D ls:Int))=false:=df;have js:i=D ls:=by omega
     subst js;rw[mB] at cZ;have h6:ls.any (pV n)=false:=by rw[sN];intro x L;rw[cZ x L];decide
     rw[h6];refine ah ?_;repeat' (intro (ai:_=_)<;>simp only[ai,go_sem,go_sem_proc,l9,fI,aQ,mD,d1,aj]<;>try refine ae ?_ ?_)
   ·refine ah ?_;repeat' (intro (ai:_=_)<;>simp only[ai,go_sem,go_sem_proc,l9,F,G,ad,aj]<;>try refine ae ?_ ?_)
  ·refine ah ?_;repeat' (intro (ai:_=_)<;>simp only[ai,go_sem,go_sem_proc,l9,F,G,aj]<;>try refine ae ?_ ?_)
 ·refine ah ?_;repeat' (intro (ai:_=_)<;>simp only[ai,go_sem,go_sem_proc,l9,F,aj]<;>try refine ae ?_ ?_)
def GZ:=bI pW λ(cap,base,ls)=>ca (ox cap base ls) (.same (.bool (o6 cap base ls)))
@[go_sem] def aBL (cap base ls):=cl GZ rfl CQ (cap,base,ls) rfl
def as5 (T:bj)(h1:T B8=aG GY)(l9:T E0=aG Ll):WF T agt GZ:=by
 refine b7 λ(cap,base,ls)=>cq λY=>⟨rfl,b6 ?_⟩;simp only[agt,pW,bX];obtain⟨⟨eb,ny⟩,⟨mq,nz⟩,nA⟩:=Y;have Lm:((D base:Int)==(D cap:Int))=((D cap:Int)==(D base:Int)):=by rw[Bool.beq_comm]
 unfold o6;rcases aQ:((D cap:Int)==(D base:Int))
 ·rw[aQ] at Lm;refine ah ?_;repeat' (intro (ai:_=_)<;>simp only[ai,go_sem,go_sem_proc,h1,l9,nA,Lm,aj,bne,dc]<;>try refine ae ?_ ?_)
 ·rw[aQ] at Lm;rcases az:ow ls (D cap)
  ·refine ah ?_;repeat' (intro (ai:_=_)<;>simp only[ai,go_sem,go_sem_proc,h1,l9,nA,Lm,az,aj,bne,c2]<;>try refine ae ?_ ?_)
  ·have as6:(D cap)=D base:=by
                        have:(D cap:Int)=D base:=by simpa using aQ
                        omega
   simp only[e0];simp only[go_sem,go_sem_proc,h1,l9,nA,Lm,az,aj,bne,c2];refine cX [1,3] [423001] (λ(i:Nat) tm mem=>i<=D cap/\(∀x∈cap.take i,(!g4 x)=false)/\(∀x∈base.take i,(!g4 x)=false)/\tm 4=.J (.int .i64 i)) (λi=>D cap-i) 0 (by refine⟨dG _,?_,?_,rfl⟩<;>simp) ?_;intro vs ms aK aF;simp only[go_sem,go_sem_proc,h1,l9,aj] at aK aF;subst aK aF;rintro i tm mem R hm ⟨ab,WR,WS,aZ⟩;simp only[go_sem,go_sem_proc,h1,l9,bl] at R hm;obtain⟨F,ad⟩:=R;rcases du (i<D cap) with aq|bD
   ·have L:=bf aq;obtain⟨ez,eS⟩:=ny _ (hb aq);have WT:i<D base:=by omega
    have ak:=bf WT;obtain⟨sL,Co⟩:=nz _ (hb WT);have jo:=λh=>vn (p:=λx => !g4 x) WR L h;have aa5:=λh=>vn (p:=λx => !g4 x) WS ak h;have as7:=λ(h:(!g4 cap[i])=true)=>(DG (p:=λx => !g4 x)).2 ⟨cap[i],hb aq,h⟩;have as8:=λ(h:(!g4 base[i])=true)=>(DG (p:=λx => !g4 x)).2 ⟨base[i],hb WT,h⟩;generalize cap[i]=x at *;generalize base[i]=y at *;have d1:decide ((i:Int)<(D cap:Int))=true:=c7;have bL:=e2 (i:=i) (by omega);obtain⟨⟨dA,dJ⟩,⟨ep,eB⟩⟩:=x;obtain⟨⟨og,qC⟩,⟨DH,DI⟩⟩:=y;dsimp only at ez eS sL Co;rcases gf:g4 ((dA,dJ),(ep,eB))
    ·rw[as7 (by rw[gf];rfl)];simp only[c2,eO];refine ah ?_;repeat' (intro (ai:_=_)<;>simp only[ai,go_sem,go_sem_proc,h1,l9,F,ad,aZ,hm,L,ak,d1,bL,ez,eS,sL,Co,gf,av,aj,bg]<;>try refine ae ?_ ?_)
    ·rcases ik:g4 ((og,qC),(DH,DI))
     ·rw[as8 (by rw[ik];rfl)];simp only[c2,iZ];refine ah ?_;repeat' (intro (ai:_=_)<;>simp only[ai,go_sem,go_sem_proc,h1,l9,F,ad,aZ,hm,L,ak,d1,bL,ez,eS,sL,Co,gf,ik,av,aj,bg]<;>try refine ae ?_ ?_)
     ·refine ah ?_;repeat' (intro (ai:_=_)<;>simp only[ai,go_sem,go_sem_proc,h1,l9,F,ad,aZ,hm,L,ak,d1,bL,ez,eS,sL,Co,gf,ik,av,aj,bg]<;>try refine ae ?_ ?_)
      exact⟨i+1,by omega,by omega,jo (by rw[gf];rfl),aa5 (by rw[ik];rfl),rfl⟩
   ·have d1:decide ((i:Int)<(D cap:Int))=false:=df;have js:i=D cap:=by omega
    subst js;rw[mB] at WR;rw[as6,mB] at WS;have h6:(cap.any λf => !g4 f)=false:=by rw[sN];intro x L;rw[WR x L];decide
    have as9:(base.any λf => !g4 f)=false:=by rw[sN];intro x L;rw[WS x L];decide
    rw[h6,as9];refine ah ?_;repeat' (intro (ai:_=_)<;>simp only[ai,go_sem,go_sem_proc,h1,l9,F,ad,aZ,hm,d1,aj]<;>try refine ae ?_ ?_)
def A4:=bI tN λ(n:Int)=>ca (dY n) (.same (.agg (av (ee (n:Rat)))))
@[go_sem] def DJ (n):=cl A4 rfl I1 n rfl
def ata (T:bj)(WU:T IC=aG Lf):WF T agA A4:=by
 refine b7 λn=>cq λY=>⟨rfl,b6 ?_⟩;simp only[agA,tN,bX];have F:dY 1:=by unfold dY;omega
 have h:=adC Y;generalize ee (n:Rat)=cp at *;obtain⟨⟨a,b⟩,⟨c,d⟩⟩:=cp;refine ah ?_;repeat' (intro (ai:_=_)<;>simp only[ai,go_sem,go_sem_proc,WU,Y,F,h,cR,av]<;>try refine ae ?_ ?_)
def zp (x:List ax)(to:Int):List cn->ax->ax×Bool
 | [],f=>(f,true)
 |l::r,f=>if (l.2.1==to)=true then (if (xk x l (f,true)).2=true then zp x to r (xk x l (f,true)).1 else (bC,false)) else zp x to r f
def G0 (base:ax)(ls:List cn)(x:List ax)(to:Int):ax×Bool:=zp x to ls base
def agB (x:List ax)(to:Int):∀(ls:List cn) (f:ax),s9 x to ls (f,false)=(f,false)
 | [],_=>rfl
 |l::r,f=>by
  unfold s9;simp only[iZ,cE,if_false];exact agB x to r f
def WV (x:List ax)(to:Int):∀(ls:List cn) (f:ax),zp x to ls f=if (s9 x to ls (f,true)).2=true then s9 x to ls (f,true) else (bC,false)
 | [],f=>rfl
 |l::r,f=>by
  unfold zp s9;rcases h:(l.2.1==to)
  ·simp only[eO,cE,if_false];exact WV x to r f
  ·simp only[KD,if_true];rcases Q:xk x l (f,true) with ⟨g,b⟩;rcases b
   ·simp only[cE,if_false,agB]
   ·simp only[if_true];exact WV x to r g
def agC (base:ax)(ls:List cn)(x:List ax)(to:Int):G0 base ls x to=if (lI base ls x to).2=true then lI base ls x to else (bC,false):=WV x to ls base
def G1:=bI Gu λ(s,l,s2,Z,ls,x,to)=>ca (aeP ((s,l),(s2,Z)) ls x to) (.same (.dq [.agg (av (G0 ((s,l),(s2,Z)) ls x to).1),.bool (G0 ((s,l),(s2,Z)) ls x to).2]))
@[go_sem] def WW (s l s2 Z ls x to):=cl G1 rfl aeR (s,l,s2,Z,ls,x,to) rfl
def atb (T:bj)(vX:T IQ=aG Li)(A5:T SP=aG Qd):WF T agp G1:=by
 refine b7 λ(s,l,s2,Z,ls,x,to)=>cq λY=>⟨rfl,b6 ?_⟩;simp only[agp,Gu,bX];obtain⟨a6,⟨vL,gb⟩,L,eZ⟩:=Y;unfold G0;simp only[go_sem,go_sem_proc,vX,A5,aj]
 refine cX [1,2,3,8,10] [419004,419008] (λ((i,f):Nat×ax) tm m=>i<=D ls/\okF f/\zp x to ls ((s,l),(s2,Z))=zp x to (ls.drop i) f/\tm 11=.J (.int .i64 i)/\m 419010=some (0,ju f)) (λ(i,_)=>D ls-i) (0,((s,l),(s2,Z))) (by
  refine⟨dG _,a6,rfl,rfl,?_⟩
  ·simp[aV,ju]) ?_
 intro vs ms aK aF;simp only[go_sem,go_sem_proc,vX,A5,aj] at aK aF;subst aK aF;rintro⟨i,f⟩ tm m R hm ⟨ab,al,a7,dX,ij⟩;simp only[go_sem,go_sem_proc,vX,A5,bl] at R hm;obtain⟨bo,c5,ej,fR,hN⟩:=R;obtain⟨ft,g3⟩:=hm;rcases du (i<D ls) with aq|bD
 ·obtain⟨⟨a,c,⟨w1,gF⟩,⟨bL,ht⟩⟩,dt⟩:∃l,ls[i]?=some l:=⟨_,bf aq⟩;have pa:=gb _ (cL dt);have ui:=eZ _ (cL dt);dsimp only at pa ui
  have k3:ls.drop i=(a,c,((w1,gF),(bL,ht)))::ls.drop (i+1):=by
   obtain⟨ag,e⟩:=dL.1 dt;rw[gx ag,e]
  rw[k3] at a7;replace a7:=a7.trans (zp.eq_2 ..);dsimp only at a7;have d1:decide ((i:Int)<(D ls:Int))=true:=c7;have pb:=e2 (i:=i) (by omega);rcases jg:(c==to)
  ·rw[jg] at a7;simp only[cE,if_false] at a7;refine ah ?_;repeat' (intro h<;>simp only[h,go_sem,go_sem_proc,vX,A5,bo,c5,ej,fR,hN,dX,ft,g3,ij,dt,d1,pb,jg,fh,av,aj,bg,bne,dc]<;>try refine ae ?_ ?_)
   exact⟨(i+1,f),by dsimp only;omega,by dsimp only;omega,al,a7,rfl,rfl⟩
  ·rw[jg] at a7;simp only[if_true] at a7;have Da:c=to:=by simpa using jg
   obtain⟨ta,gE⟩:=ui Da;obtain⟨j,rfl⟩:=vJ ta;have aa:j<D x:=by omega
   obtain⟨⟨⟨dA,dJ⟩,⟨ep,eB⟩⟩,tb⟩:∃f,x[j]?=some f:=⟨_,bf aa⟩;have hr:=L.2 _ (cL tb);have qk:x.getD j bC=((dA,dJ),(ep,eB)):=by rw[dH,tb];rfl
   unfold xk at a7;dsimp only at a7;rw[lX,qk] at a7;obtain⟨⟨f1,f2⟩,⟨f3,f4⟩⟩:=f;obtain⟨F1,Ql⟩:=al;obtain⟨m0,gp⟩:=pa;obtain⟨ez,eS⟩:=hr;have um:=OI ((w1,gF),(bL,ht)) ((dA,dJ),(ep,eB));generalize ic:iC ((w1,gF),(bL,ht)) ((dA,dJ),(ep,eB))=dm at *;obtain⟨⟨⟨jn,gI⟩,⟨sV,uo⟩⟩,aQ⟩:=dm;dsimp only at um a7 F1 Ql m0 gp ez eS;have rC:=UD ((f1,f2),(f3,f4)) ((jn,gI),(sV,uo));generalize cW:ou ((f1,f2),(f3,f4)) ((jn,gI),(sV,uo))=S at *;obtain⟨⟨⟨v1,v2⟩,⟨fg,v4⟩⟩,az⟩:=S;dsimp only at a7 rC;obtain⟨pN,wT⟩:=um;dsimp only at pN wT;simp only[ju] at ij;simp only[e0] at a7;rcases uF:(aQ==0)
   ·rw[uF] at a7;simp only[eO,cE,if_false] at a7;rw[a7];refine ah ?_;repeat' (intro h<;>simp only[h,go_sem,go_sem_proc,vX,A5,bo,c5,ej,fR,hN,dX,ft,g3,ij,dt,tb,d1,pb,jg,ic,cW,F1,Ql,m0,gp,ez,eS,pN,wT,uF,fh,cR,av,bC,bP,aj,bg,bne,c2,dc]<;>try refine ae ?_ ?_)
   ·rw[uF] at a7;rcases eg:(az==0)
    ·rw[eg] at a7;simp only[iZ,cE,if_false] at a7;rw[a7];refine ah ?_;repeat' (intro h<;>simp only[h,go_sem,go_sem_proc,vX,A5,bo,c5,ej,fR,hN,dX,ft,g3,ij,dt,tb,d1,pb,jg,ic,cW,F1,Ql,m0,gp,ez,eS,pN,wT,uF,eg,fh,cR,av,bC,bP,aj,bg,bne,c2,dc]<;>try refine ae ?_ ?_)
    ·rw[eg] at a7;simp only[KD,if_true] at a7;refine ah ?_;repeat' (intro h<;>simp only[h,go_sem,go_sem_proc,vX,A5,bo,c5,ej,fR,hN,dX,ft,g3,ij,dt,tb,d1,pb,jg,ic,cW,F1,Ql,m0,gp,ez,eS,pN,wT,uF,eg,fh,cR,av,aj,bg,bne,c2,dc]<;>try refine ae ?_ ?_)
     exact⟨(i+1,((v1,v2),(fg,v4))),by dsimp only;omega,by dsimp only;omega,rC,a7,rfl,rfl⟩
 ·have d1:decide ((i:Int)<(D ls:Int))=false:=df;have kH:ls.drop i=[]:=lj (by omega);rw[kH] at a7;replace a7:=a7.trans (zp.eq_1 ..);rw[a7];obtain⟨⟨f1,f2⟩,⟨f3,f4⟩⟩:=f;simp only[ju] at ij;refine ah ?_;repeat' (intro h<;>simp only[h,go_sem,go_sem_proc,vX,A5,bo,c5,ej,fR,hN,dX,ft,g3,ij,d1,av,aj]<;>try refine ae ?_ ?_)
def G3 (a:List (List Nat)):Prop:=D a<=1000000/\∀x∈a,D x<=1000000
def agD:∀a b:List Nat,p7 a=p7 b->a=b:=λa b h=>by
 simp only[p7,bl,Data.ar.injEq,and_true] at h;exact map_inj (λx y h=>by simp only[nx,bl,Data.int.injEq,true_and,and_true] at h;omega) _ _ h
abbrev Qm:(List (List Nat))×(List (List Nat))->List Data:=λ(a,b)=>[.ar (a.map p7),.ar (b.map p7)]
def Ln:=bI Qm λ(a,b)=>ca (G3 a/\G3 b) (.same (.bool (a==b)))
def atc:∀a b,Qm a=Qm b->a=b:=by
  rintro⟨dx,bT⟩ ⟨dW,cB⟩ h;simp only[bl,Data.ar.injEq,and_true] at h;exact cz (map_inj agD _ _ h.1) (map_inj agD _ _ h.2)
@[go_sem] def WX (a b):=cl Ln rfl atc (a,b) rfl
def atd (T:bj):WF T agw Ln:=by
 refine b7 λ(a,b)=>cq λY=>⟨rfl,b6 ?_⟩;simp only[agw,Qm,bX];obtain⟨⟨aBM,WY⟩,⟨aBN,aBO⟩⟩:=Y;rcases ag:((D a:Int)==(D b:Int))
 ·have mK:(a==b)=false:=by rw[beq_eq_false_iff_ne];rintro rfl;simp at ag
  rw[mK];refine ah ?_;repeat' (intro h<;>simp only[h,go_sem,go_sem_proc,ag,aj,bne,dc]<;>try refine ae ?_ ?_)
 ·have hle:(D a)=D b:=by have:=eq_of_beq ag;omega
  simp only[go_sem,go_sem_proc,ag,aj,bne,c2];refine cX [0,1] [] (λ(i:Nat) tm mem=>i<=D a/\a.take i=b.take i/\tm 5=.J (.int .i64 i)) (λi=>D a-i) 0 (by refine⟨dG _,by simp,rfl⟩) ?_;intro vs ms aK aF;simp only[go_sem,go_sem_proc,aj] at aK aF;subst aK aF;rintro i tm mem R hm ⟨ab,cZ,mD⟩;simp only[go_sem,go_sem_proc,bl] at R hm;obtain⟨fI,aQ⟩:=R;rcases du (i<D a) with aq|bD
  ·have d1:decide ((i:Int)<(D a:Int))=true:=c7;have bL:=e2 (i:=i) (by omega);obtain⟨x,L⟩:∃x,a[i]?=some x:=⟨_,bf aq⟩;obtain⟨y,ak⟩:∃x,b[i]?=some x:=⟨_,bf (by omega)⟩;have aBP:=WY x (cL L);rcases q:((D x:Int)==(D y:Int))
   ·have mK:(a==b)=false:=by rw[beq_eq_false_iff_ne];rintro rfl;rw[L] at ak;cases ak;simp at q
    rw[mK];refine ah ?_;repeat' (intro h<;>simp only[h,go_sem,go_sem_proc,fI,aQ,mD,L,ak,d1,q,p7,aj,bg,bne,dc]<;>try refine ae ?_ ?_)
   ·have hl:(D x)=D y:=by have:=eq_of_beq q;omega
    simp only[go_sem,go_sem_proc,fI,aQ,mD,L,ak,d1,q,p7,aj,bg,bne,c2];refine cX [0,1,5] [] (λ(k:Nat) tm mem=>k<=D x/\x.take k=y.take k/\tm 6=.J (.int .i64 k)) (λk=>D x-k) 0 (by refine⟨dG _,by simp,rfl⟩) ?_;intro vs ms aK aF;simp only[go_sem,go_sem_proc,fI,aQ,mD] at aK aF;subst aK aF;clear fI aQ mD hm tm mem;rintro k tm mem R hm ⟨BF,WZ,vQ⟩;simp only[go_sem,go_sem_proc,bl] at R hm;obtain⟨fI,aQ,mD⟩:=R;rcases du (k<D x) with nA|aBQ
    ·have d2:decide ((k:Int)<(D x:Int))=true:=c7;have ht:=e2 (i:=k) (by omega);obtain⟨u,hu⟩:∃u,x[k]?=some u:=⟨_,bf nA⟩;obtain⟨v,ao⟩:∃u,y[k]?=some u:=⟨_,bf (by omega)⟩;rcases ik:((u:Int)==(v:Int))
     ·have mK:(a==b)=false:=by
       rw[beq_eq_false_iff_ne];rintro rfl;rw[L] at ak
       cases ak;rw[hu] at ao
       cases ao;simp at ik
      rw[mK];refine ah ?_;repeat' (intro h<;>simp only[h,go_sem,go_sem_proc,fI,aQ,mD,vQ,L,ak,hu,ao,d2,ik,p7,nx,aj,bg,bne,dc]<;>try refine ae ?_ ?_)
     ·have ate:u=v:=by have:=eq_of_beq ik;omega
      refine ah ?_;repeat' (intro h<;>simp only[h,go_sem,go_sem_proc,fI,aQ,mD,vQ,L,ak,hu,ao,d2,ht,ik,p7,nx,aj,bg,bne,c2]<;>try refine ae ?_ ?_)
      exact⟨k+1,by omega,by omega,by rw[ho,ho,WZ,hu,ao,ate],rfl⟩
    ·have d2:decide ((k:Int)<(D x:Int))=false:=df;rw[dF (by omega),dF (by omega)] at WZ;refine ah ?_;repeat' (intro h<;>simp only[h,go_sem,go_sem_proc,fI,aQ,mD,vQ,L,d2,bL,p7,aj,bg]<;>try refine ae ?_ ?_)
     exact⟨i+1,by omega,by omega,by rw[ho,ho,cZ,L,ak,WZ],rfl⟩
  ·have d1:decide ((i:Int)<(D a:Int))=false:=df;rw[dF (by omega),dF (by omega)] at cZ;have mK:(a==b)=true:=by rw[cZ];exact beq_self_eq_true _
   rw[mK];refine ah ?_;repeat' (intro h<;>simp only[h,go_sem,go_sem_proc,fI,aQ,mD,d1,aj]<;>try refine ae ?_ ?_)
abbrev Qn:(List cn)×Nat->List Data:=λ(ls,n)=>[.ar (ls.map fh),.int .i64 n]
def Qo:=bI Qn λ(ls,n)=>ca (n<=40) (.same (.agg [.ar ((ch n kp).map av),.ar ((ch n hi).map av),.ar (ls.map fh)]))
def atf:∀a b,Qn a=Qn b->a=b:=by
  rintro⟨y5,rb⟩ ⟨y6,re⟩ h;simp only[bl,Data.ar.injEq,Data.int.injEq] at h;exact cz (map_inj uy _ _ h.1) (by have:=h.2.1.2;dsimp only;omega)
@[go_sem] def atg (ls n):=cl Qo rfl atf (ls,n) rfl
def ath (T:bj)(dR:T sv=aG A4):WF T agy Qo:=by
 refine b7 λ(ls,n)=>cq λY=>⟨rfl,b6 ?_⟩;simp only[agy,Qn,bX];have a2:=DJ 0 (by unfold dY;omega);have F:=DJ 1 (by unfold dY;omega);rw[show ee ((0:Int):Rat)=hi from rfl] at a2;rw[show ee ((1:Int):Rat)=kp from rfl] at F;generalize hi=nb at *;generalize kp=aw at *;simp only[go_sem,go_sem_proc,dR,];refine V1 (kc:=428005) (g:=0) (off:=0) (cs:=[.nil,.nil,.J (.ar (ls.map fh))]) (by simp only[go_sem,go_sem_proc,dR]) (by simp[aV]) rfl (by decide) ?_;simp only[go_sem,go_sem_proc,dR,qM,FV];refine V1 (kc:=428005) (g:=0) (off:=0) (cs:=[.ref 428018 0 4 0 0,.nil,.J (.ar (ls.map fh))]) (by simp only[go_sem,go_sem_proc,dR]) (by simp[aV,bB,gM]) rfl (by decide) ?_;simp only[go_sem,go_sem_proc,dR,qM,FV]
 refine cX [1,4,5] [428004] (λ((i,g,cQ):Nat×Nat×Nat) tm m=>i<=n/\tm 6=.J (.int .i64 i)/\m 428005=some (0,[.ref 428018 g 4 0 i,.ref 428024 cQ 4 0 i,.J (.ar (ls.map fh))])/\m 428018=some (g,aS av (ch i aw))/\m 428024=some (cQ,aS av (ch i nb))) (λ(i,_,_)=>n-i) (0,0,0) (by
  refine⟨dG _,rfl,?_,?_,?_⟩
  ·simp[aV,bB,gM]
  ·simp[aV,aS,bB,gM]
  ·simp[aV,aS,bB,gM]) ?_
 intro vs ms aK aF;simp only[go_sem,go_sem_proc,dR,] at aK aF;subst aK aF;rintro⟨i,g,cQ⟩ tm m R hm ⟨ab,bA,hf,zb,W0⟩;simp only[go_sem,go_sem_proc,dR,bl] at R hm;obtain⟨bo,s8,c3⟩:=R;rcases du (i<n) with aq|bD
 ·have d1:decide ((i:Int)<(n:Int))=true:=c7;have bL:=e2 (i:=i) (by omega);have DK:=lq jt vm 428018 g 64 (ch i aw) aw (cs:=_) rfl (by rw[hs];omega) (by rw[hs];omega);have Lo:=lq jt vm 428024 cQ 64 (ch i nb) nb (cs:=_) rfl (by rw[hs];omega) (by rw[hs];omega);rw[hs,<-agE] at DK Lo;obtain⟨⟨iP,je⟩,⟨kL,kM⟩⟩:=nb;obtain⟨⟨kq,jK⟩,⟨pd,pe⟩⟩:=aw;simp only[av,g0,bP] at DK Lo a2 F;refine ah ?_;repeat' (intro (ai:_=_)<;>simp only[ai,go_sem,go_sem_proc,dR,bo,s8,c3,bA,hf,zb,W0,hm,d1,bL,a2,F,DK,Lo,qM,FV]<;>try refine ae ?_ ?_)
  exact⟨(i+1,g+1,cQ+1),by dsimp only;omega,by dsimp only;omega,rfl,rfl,rfl,rfl⟩
 ·have d1:decide ((i:Int)<(n:Int))=false:=df;have hz:i=n:=by omega
  subst hz;have uu:=λ(mem:Mem) (h:mem 428018=some (g,aS av (ch i aw)))=>jV (n:=4) jt h;have uv:=λ(mem:Mem) (h:mem 428024=some (cQ,aS av (ch i nb)))=>jV (n:=4) jt h;rw[hs] at uu uv;simp only[go_sem,go_sem_proc,dR,bo,s8,c3,bA,hf,zb,W0,hm,d1];rw[uu _ (by simp[aV,zb]),uv _ (by simp[aV,W0])]
  rfl
def Lp:=bI Gx λ(s,l,s2,Z,ls,n,to)=>ca (aeV ((s,l),(s2,Z)) ls n to) (.same (.dq [.agg (cG (mG ((s,l),(s2,Z)) ls n to).1),.bool (mG ((s,l),(s2,Z)) ls n to).2]))
@[go_sem] def W1 (s l s2 Z ls n to):=cl Lp rfl aeW (s,l,s2,Z,ls,n,to) rfl
def ati (T:bj)(dR:T sv=aG A4)(p8:T IP=aG Lh):WF T agz Lp:=by
 refine b7 λ(s,l,s2,Z,ls,n,to)=>cq λY=>⟨rfl,b6 ?_⟩;simp only[agz,Gx,bX];obtain⟨a6,⟨vL,gb⟩,aC,Dc,eZ⟩:=Y;have a2:=DJ 0 (by unfold dY;omega);have F:=DJ 1 (by unfold dY;omega);rw[show ee ((0:Int):Rat)=hi from rfl] at a2;rw[show ee ((1:Int):Rat)=kp from rfl] at F;have Dd:=xm;have vM:=Db;have De:oA n to=(ch n hi).set to kp:=rfl;generalize hi=nb at *;generalize kp=aw at *;obtain⟨⟨iP,je⟩,⟨kL,kM⟩⟩:=nb;obtain⟨⟨kq,jK⟩,⟨pd,pe⟩⟩:=aw;simp only[av] at a2 F;have jG:(oA n to).length=n:=by rw[De,fk,hs]
 have mE:∀f∈oA n to,okF f:=λf al=>by
  rw[De] at al;rcases nW al with al|rfl
  ·rw[List.mem_replicate] at al;rw[al.2];exact Dd
  ·exact vM
 unfold mG;generalize oA n to=KF at *;simp only[go_sem,go_sem_proc,dR,p8,];refine V1 (kc:=429010) (g:=0) (off:=0) (cs:=.nil::ju ((s,l),(s2,Z))) (by simp only[go_sem,go_sem_proc,dR,p8]) (by simp[aV,ju]) rfl (by decide) ?_;simp only[go_sem,go_sem_proc,dR,p8,qM,ju]
 refine cX [1,2,3,8,10] [429004,429008,429013] (λ((i,g):Nat×Nat) tm m=>i<=n/\tm 11=.J (.int .i64 i)/\m 429010=some (0,.ref 429026 g 4 0 i::ju ((s,l),(s2,Z)))/\m 429026=some (g,aS av (ch i ((iP,je),(kL,kM))))) (λ(i,_)=>n-i) (0,0) (by
  refine⟨dG _,rfl,?_,?_⟩
  ·simp[aV,bB,gM,ju]
  ·simp[aV,aS,bB,gM]) ?_
 intro vs ms aK aF;simp only[go_sem,go_sem_proc,dR,p8,] at aK aF;subst aK aF;rintro⟨i,g⟩ tm m R hm ⟨ab,dX,ij,zq⟩;simp only[go_sem,go_sem_proc,dR,p8,bl] at R hm;obtain⟨bo,c5,ej,fR,hN⟩:=R;obtain⟨ft,g3,W2⟩:=hm;simp only[ju] at ij;rcases du (i<n) with aq|bD
 ·have d1:decide ((i:Int)<(n:Int))=true:=c7;have bL:=e2 (i:=i) (by omega);have DK:=lq jt vm 429026 g 64 (ch i ((iP,je),(kL,kM))) ((iP,je),(kL,kM)) (cs:=_) rfl (by rw[hs];omega) (by rw[hs];omega);rw[hs,<-agE] at DK;simp only[av,g0,bP] at DK;refine ah ?_;repeat' (intro h<;>simp only[h,go_sem,go_sem_proc,dR,p8,bo,c5,ej,fR,hN,dX,ij,zq,ft,g3,W2,d1,bL,a2,DK,qM]<;>try refine ae ?_ ?_)
  exact⟨(i+1,g+1),by dsimp only;omega,by dsimp only;omega,rfl,rfl,rfl⟩
 ·have d1:decide ((i:Int)<(n:Int))=false:=df;have hz:i=n:=by omega
  subst hz;have t1:=uj (l:=ch i ((iP,je),(kL,kM))) (k:=to) (by rw[hs];exact Dc);have t2:=yZ (l:=ch i ((iP,je),(kL,kM))) (k:=to) (by rw[hs];exact Dc) kq jK pd pe;rw[<-De] at t2;simp only[go_sem,go_sem_proc,dR,p8,bo,c5,ej,fR,hN,dX,ij,zq,ft,g3,W2,d1,F,t1,t2,Dc]
  refine cX [1,3,8,10] [429004,429008,429010] (λ((j,A):Nat×List ax) tm m=>j<=D ls/\D A=i/\(∀f∈A,okF f)/\n0 to ls KF=n0 to (ls.drop j) A/\tm 12=.J (.int .i64 j)/\m 429026=some (g,aS av A)) (λ(j,_)=>D ls-j) (0,KF) (by
   refine⟨dG _,jG,mE,rfl,rfl,?_⟩
   ·simp[aV]) ?_
  intro vs ms aK aF;simp only[go_sem,go_sem_proc,dR,p8,bo,ej,fR,hN,ft,g3,ij] at aK aF;subst aK aF;clear bo c5 ej fR hN dX ij zq ft g3 W2 tm m;rintro⟨j,A⟩ tm m R hm ⟨aa,Df,p4,a7,eI,zq⟩;simp only[go_sem,go_sem_proc,dR,p8,bl] at R hm;obtain⟨bo,ej,fR,hN⟩:=R;obtain⟨ft,g3,ij⟩:=hm;rcases du (j<D ls) with aq|bD
  ·obtain⟨⟨a,c,⟨w1,gF⟩,⟨bL,ht⟩⟩,dt⟩:∃l,ls[j]?=some l:=⟨_,bf aq⟩;have pa:=gb _ (cL dt);have ui:=eZ _ (cL dt);dsimp only at pa ui
   have k3:ls.drop j=(a,c,((w1,gF),(bL,ht)))::ls.drop (j+1):=by
    obtain⟨ag,e⟩:=dL.1 dt;rw[gx ag,e]
   rw[k3] at a7;simp only[n0] at a7;have d1:decide ((j:Int)<(D ls:Int))=true:=c7;have pb:=e2 (i:=j) (by omega);rcases jg:(c==(to:Int))
   ·rw[jg] at a7;simp only[cE,if_false] at a7;refine ah ?_;repeat' (intro h<;>simp only[h,go_sem,go_sem_proc,dR,p8,bo,ej,fR,hN,eI,ft,g3,ij,zq,dt,d1,pb,jg,fh,av,aj,bg,bne,dc]<;>try refine ae ?_ ?_)
    exact⟨(j+1,A),by dsimp only;omega,by dsimp only;omega,Df,p4,a7,rfl,rfl⟩
   ·rw[jg] at a7;simp only[if_true] at a7;have Da:c=to:=by simpa using jg
    obtain⟨ta,gE⟩:=ui Da;obtain⟨q,rfl⟩:=vJ ta;have aU:q<i:=by omega
    obtain⟨⟨⟨dA,dJ⟩,⟨ep,eB⟩⟩,tb⟩:∃f,A[q]?=some f:=⟨_,bf (by omega)⟩;have hr:=p4 _ (cL tb);have qk:A.getD q bC=((dA,dJ),(ep,eB)):=by rw[dH,tb];rfl
    rw[lX,qk] at a7;have rC:=FQ ((dA,dJ),(ep,eB)) ((w1,gF),(bL,ht));have ck:=CH tb;have dC:=uj (l:=A) (k:=q) (by omega);generalize cW:kn ((dA,dJ),(ep,eB)) ((w1,gF),(bL,ht))=S at *;obtain⟨⟨⟨v1,v2⟩,⟨fg,v4⟩⟩,e⟩:=S;dsimp only at a7 rC;have gv:=yZ (l:=A) (k:=q) (by omega) v1 v2 fg v4;rcases he:(e==0)
    ·rw[he] at a7;simp only[cE,if_false] at a7;rw[a7];simp only[cE,if_false];refine ah ?_;repeat' (intro h<;>simp only[h,go_sem,go_sem_proc,dR,p8,bo,ej,fR,hN,eI,ft,g3,ij,zq,dt,d1,pb,jg,aU,cW,ck,dC,hr.1,hr.2,pa.1,pa.2,he,fh,cG,bC,cR,av,bP,aj,bg,bne,c2,dc]<;>try refine ae ?_ ?_)
    ·rw[he] at a7;simp only[if_true] at a7;refine ah ?_;repeat' (intro h<;>simp only[h,go_sem,go_sem_proc,dR,p8,bo,ej,fR,hN,eI,ft,g3,ij,zq,dt,d1,pb,jg,aU,cW,ck,dC,gv,hr.1,hr.2,pa.1,pa.2,he,fh,cR,av,aj,bg,bne,c2,dc]<;>try refine ae ?_ ?_)
     refine⟨(j+1,A.set q ((v1,v2),(fg,v4))),by dsimp only;omega,by dsimp only;omega,by rw[fk];exact Df,λf al=>?_,a7,rfl,rfl⟩
     rcases nW al with al|rfl
     ·exact p4 f al
     ·exact rC
  ·have d1:decide ((j:Int)<(D ls:Int))=false:=df;have kH:ls.drop j=[]:=lj (by omega);rw[kH] at a7;rw[a7];simp only[n0,if_true];have eA:=jV (n:=3) (k:=429026) jt (mem:=aV m 429008 0 (.ref 429026 g 4 0 i::ju ((s,l),(s2,Z)))) (l:=A) (g:=g) (by rw[ko (by decide)];exact zq);rw[Df] at eA;simp only[ju] at eA;refine ah ?_;repeat' (intro h<;>simp only[h,go_sem,go_sem_proc,dR,p8,bo,ej,fR,hN,eI,ft,g3,ij,zq,d1,cG,av,aj]<;>try refine ae ?_ ?_)
   rw[eA]
   rfl
def G4 (p q r s:Int):Prop:=p.natAbs<cY/\q.natAbs<cY/\r.natAbs<cY/\s.natAbs<cY/\0<q/\0<s
def Lq (a:Int×Int×Int×Int):List Data:=[.agg (b5 (bb a.1)),.agg (b5 (bb a.2.1)),.agg (b5 (bb a.2.2.1)),.agg (b5 (bb a.2.2.2))]
def Qp {a b:Raw}(h:b5 a=b5 b):a=b:=by
 obtain⟨s,l⟩:=a;obtain⟨t,m⟩:=b;simp only[b5,bl,Data.int.injEq,Data.ar.injEq,true_and,and_true] at h;exact cz h.1 (map_inj fX _ _ h.2)
def agF:∀a b:Int×Int×Int×Int,Lq a=Lq b->a=b:=by
 rintro⟨dx,dW,hR,jf⟩ ⟨bT,cB,et,eD⟩ h;simp only[Lq,bl,Data.agg.injEq,and_true] at h;obtain⟨F,G,ad,aZ⟩:=h;rw[N7 (Qp F),N7 (Qp G),N7 (Qp ad),N7 (Qp aZ)]
def agG (a:Int×Int×Int×Int):dj:=.same (.int .i64 (a.1*a.2.2.2-a.2.2.1*a.2.1).sign)
def Lr:List Data->Option dj:=bI Lq λa=>ca (G4 a.1 a.2.1 a.2.2.1 a.2.2.2) (agG a)
def Ls (n:Nat):List Data->Option dj:=bI Lq λa=>ca (G4 a.1 a.2.1 a.2.2.1 a.2.2.2/\a.2.1.toNat+a.2.2.2.toNat<n) (agG a)
def agH {n:Nat}{p q r s:Int}(h:G4 p q r s/\q.toNat+s.toNat<n):Ls n [.agg (b5 (bb p)),.agg (b5 (bb q)),.agg (b5 (bb r)),.agg (b5 (bb s))]=some (.same (.int .i64 (p*s-r*q).sign)) :=
 (Na agF (p,q,r,s)).trans (Nc h _)
def atj {p q r s:Int}(h:G4 p q r s):Lr [.agg (b5 (bb p)),.agg (b5 (bb q)),.agg (b5 (bb r)),.agg (b5 (bb s))]=some (.same (.int .i64 (p*s-r*q).sign)) :=
 (Na agF (p,q,r,s)).trans (Nc h _)
def atk {ds:List Data}{x:dj}(h:Lr ds=some x):∃n,Ls n ds=some x:=by
 obtain⟨⟨p,q,r,s⟩,rfl,G⟩:=Nb h;obtain⟨Y,rfl⟩:=Se G;exact⟨_,agH ⟨Y,KM _⟩⟩
def atl {p q r s:Int}(aU:0<q)(Q:0<s)(h:p.fdiv q≠r.fdiv s):(p*s-r*q).sign=gd (p.fdiv q) (r.fdiv s):=by
 have aQ:p.fmod q+q*p.fdiv q=p:=Lt p q;have az:r.fmod s+s*r.fdiv s=r:=Lt r s;have kk:=Lu p aU;have jn:=Lv p aU;have v0:=Lu r Q;have v1:=Lv r Q;generalize p.fdiv q=x at *;generalize r.fdiv s=y at *;generalize p.fmod q=u at *;generalize r.fmod s=v at *;have xU:0<q*s:=Int.mul_pos aU Q;have bo:0<=u*s:=sA kk (by omega);have c5:0<=v*q:=sA v0 (by omega)
 have ej:u*s<=q*s-s:=by
  have:=kI (show u<=q-1 by omega) (show 0<=s by omega);grind
 have s8:v*q<=q*s-q:=by
  have:=kI (show v<=s-1 by omega) (show 0<=q by omega);grind
 have e:p*s-r*q=q*s*(x-y)+(u*s-v*q):=by rw[<-aQ,<-az];grind
 rw[e];rcases WO h with aq|kE
 ·have c3:q*s*(x-y)<=q*s*(-1):=tP (by omega) (by omega);rw[yJ aq];exact kJ (by omega)
 ·have c3:q*s*1<=q*s*(x-y):=tP (by omega) (by omega)
  have:gd x y=1:=by
   unfold gd;rw[aT (by simp;omega),aL (by simp;omega)]
  rw[this];exact gq (by omega)
def atm {p q r s:Int}(h:p.fdiv q=r.fdiv s):p*s-r*q=p.fmod q*s-r.fmod s*q:=by
 have aQ:p.fmod q+q*p.fdiv q=p:=Lt p q;have az:r.fmod s+s*r.fdiv s=r:=Lt r s;rw[h] at aQ;generalize r.fdiv s=y at *;generalize p.fmod q=u at *;generalize r.fmod s=v at *;rw[<-aQ,<-az];grind
def atn (T:bj)(xA:T BX=aG Ld)(zm:T IS=aG La)(n:Nat)(Lw:T EY=aG (Ls n))(p q r s:Int)(Y:G4 p q r s/\q.toNat+s.toNat<n+1):WP T P0 (.same (.int .i64 (p*s-r*q).sign)) [.J (.agg (b5 (bb p))),.J (.agg (b5 (bb q))),.J (.agg (b5 (bb r))),.J (.agg (b5 (bb s)))]:=by
 refine b6 ?_;simp only[P0];obtain⟨⟨kX,gf,gJ,s1,aU,Q⟩,aC⟩:=Y;have hZ:=jc kX;have Z:=jc gf;have b1:=jc gJ;have bZ:=jc s1;have kk:=Lu p aU;have jn:=Lv p aU;have v0:=Lu r Q;have v1:=Lv r Q;have agI:(p.fmod q).natAbs<cY:=by omega
 have Qq:(r.fmod s).natAbs<cY:=by omega
 have si:∀{a b:Int},a.natAbs<cY->0<b->(a.fdiv b).natAbs<cY:=by
  intro a b bc U;have aQ:a.fmod b+b*a.fdiv b=a:=Lt a b;have az:=Lu a U;have eT:=Lv a U
  have:(a.fdiv b).natAbs<=a.natAbs:=by
   rcases Int.lt_or_le (a.fdiv b) 0 with h|h
   ·have k:b*(a.fdiv b+1)<=1*(a.fdiv b+1):=Int.mul_le_mul_of_nonpos_right (by omega) (by omega);have:b*(a.fdiv b+1)=b*a.fdiv b+b:=by grind
    omega
   ·have k:1*a.fdiv b<=b*a.fdiv b:=kI (by omega) h;omega
  omega
 have dA:=si kX aU;have og:=si gJ Q;have aY:=jc dA;have b0:=jc og;have fJ:=jc agI;have ft:=jc Qq;have d1:=yM kX gf (by omega);have d2:=yM gJ s1 (by omega);have d3:=Js dA og;have bq:=atl (p:=p) (r:=r) aU Q;have heq:=atm (p:=p) (q:=q) (r:=r) (s:=s);have jR:G4 s (r.fmod s) q (p.fmod q)->Ls n [.agg (b5 (bb s)),.agg (b5 (bb (r.fmod s))),.agg (b5 (bb q)),.agg (b5 (bb (p.fmod q)))]=some (.same (.int .i64 (s*p.fmod q-q*r.fmod s).sign)):=λh=>agH ⟨h,by omega⟩
 have Ci:p.fdiv q=r.fdiv s->gd (p.fdiv q) (r.fdiv s)=0:=λh=>by unfold gd;rw[aT (by simp;omega),aT (by simp;omega)]
 have ato:p.fdiv q≠r.fdiv s->(gd (p.fdiv q) (r.fdiv s)==0)=false:=λh=>by
  rcases WO h with h|h
  ·rw[yJ h];rfl
  ·unfold gd;rw[aT (by simp;omega),aL (by simp;omega)];rfl
 have es:∀z:Int,bb z=(z.sign,aH z.natAbs):=λz=>rfl;rw[es,es] at d1 d2 d3
 by_cases hl:p.fdiv q=r.fdiv s
 ·have nM:=Ci hl
  by_cases hu:p.fmod q=0
  ·have yU:(p.fmod q).sign=0:=by rw[hu];rfl
   have jS:(p*s-r*q).sign=0-(r.fmod s).sign:=by
    rw[heq hl,hu,yL,Int.zero_sub,yH,nS,gq aU,qB];omega
   rw[jS]
   have w:IntKind.i64.wrap (0-(r.fmod s).sign)=0-(r.fmod s).sign:=by
    have:=Jp (r.fmod s);rw[fK _]
   refine ah ?_;repeat' (intro (ai:_=_)<;>simp only[ai,go_sem,go_sem_proc,xA,zm,b5,km,hZ,Z,b1,bZ,aY,b0,d1,d2,d3,nM,yU,w,es,aj,beq_self_eq_true,bne,c2]<;>try refine ae ?_ ?_)
  ·have yU:((p.fmod q).sign==0)=false:=by
    rw[gq (by omega)];rfl
   by_cases ao:r.fmod s=0
   ·have W3:(r.fmod s).sign=0:=by rw[ao];rfl
    have jS:(p*s-r*q).sign=(p.fmod q).sign-0:=by
     rw[heq hl,ao,yL,Af,nS,gq Q,qB,Af]
    rw[jS]
    have w:IntKind.i64.wrap ((p.fmod q).sign-0)=(p.fmod q).sign-0:=by
     have:=Jp (p.fmod q);rw[fK _]
    refine ah ?_;repeat' (intro (ai:_=_)<;>simp only[ai,go_sem,go_sem_proc,xA,zm,b5,km,hZ,Z,b1,bZ,aY,b0,d1,d2,d3,nM,yU,W3,w,es,aj,beq_self_eq_true,bne,c2]<;>try refine ae ?_ ?_)
   ·have W3:((r.fmod s).sign==0)=false:=by
     rw[gq (by omega)];rfl
    have M:=jR ⟨s1,Qq,gf,agI,by omega,by omega⟩
    have jS:s*p.fmod q-q*r.fmod s=p*s-r*q:=by rw[heq hl];grind
    rw[jS] at M;simp only[b5,es] at M;refine ah ?_;repeat' (intro (ai:_=_)<;>simp only[ai,go_sem,go_sem_proc,xA,zm,Lw,b5,km,hZ,Z,b1,bZ,aY,b0,d1,d2,d3,nM,yU,W3,M,es,aj,beq_self_eq_true,bne,c2]<;>try refine ae ?_ ?_)
 ·have nM:=ato hl;rw[bq hl];refine ah ?_;repeat' (intro (ai:_=_)<;>simp only[ai,go_sem,go_sem_proc,xA,zm,b5,km,hZ,Z,b1,bZ,aY,b0,d1,d2,d3,nM,es,aj,bne,dc]<;>try refine ae ?_ ?_)
def G5:=bI lB λ(s,l,s2,Z,bU,b1,bW,bZ)=>ca (D l<=1000000/\D Z<=1000000/\D b1<=1000000/\D bZ<=1000000) (.same (.int .i64 (lC ((s,l),(s2,Z)) ((bU,b1),(bW,bZ)))))
@[go_sem] def aBR (s l s2 Z bU b1 bW bZ):=cl G5 rfl vk (s,l,s2,Z,bU,b1,bW,bZ) rfl
def atp (T:bj)(dw:T kY=aG uE)(Lw:T EY=aG Lr):WF T af4 G5:=by
 refine b7 λ(s,l,s2,Z,bU,b1,bW,bZ)=>cq λY=>⟨rfl,b6 ?_⟩;simp only[af4,lB,bX];obtain⟨bs,br,en,eQ⟩:=Y;unfold lC;rcases M:cA ((s,l),(s2,Z))
 ·refine ah ?_;repeat' (intro h<;>simp only[h,go_sem,go_sem_proc,dw,Lw,bs,br,M]<;>try refine ae ?_ ?_)
 ·rcases aW:cA ((bU,b1),(bW,bZ))
  ·refine ah ?_;repeat' (intro h<;>simp only[h,go_sem,go_sem_proc,dw,Lw,bs,br,en,eQ,M,aW]<;>try refine ae ?_ ?_)
  ·obtain⟨x,L,ex⟩:=(At _).1 M;obtain⟨y,ak,xO⟩:=(At _).1 aW;have U:Lr [.agg (b5 (bb x.num)),.agg (b5 (bb x.den)),.agg (b5 (bb y.num)),.agg (b5 (bb y.den))]=some (.same (.int .i64 (x.num*y.den-y.num*x.den).sign)):=atj ⟨L.1,ru L,ak.1,ru ak,den_pos x,den_pos y⟩;unfold ee at ex xO;simp only[eM] at ex xO;obtain⟨aQ,az⟩:=ex;obtain⟨eT,iA⟩:=xO;rw[<-aQ,<-az,<-eT,<-iA] at U
   have ao:(gP (s,l)*gP (bW,bZ)-gP (bU,b1)*gP (s2,Z))=x.num*y.den-y.num*x.den:=by
    rw[aQ,az,eT,iA,eK,eK,eK,eK]
   simp only[b5] at U;rw[aL rfl,aL rfl,ao];refine ah ?_;repeat' (intro h<;>simp only[h,go_sem,go_sem_proc,dw,Lw,bs,br,en,eQ,M,aW,U]<;>try refine ae ?_ ?_)
def W4 {base:ax}{ls:List cn}{x:List ax}{to:Int}(h:(lI base ls x to).2=false):G0 base ls x to=(bC,false):=by
 rw[agC,h]
 rfl
def W5 {base:ax}{ls:List cn}{x:List ax}{to:Int}(h:(lI base ls x to).2=true):G0 base ls x to=lI base ls x to:=by
 rw[agC,h]
 rfl
def atq {x:List ax}:(x.any λf => !g4 f||(f.1.1==0))=x.any λf => !cA f||decide (f.1.1<=0):=by
 congr 1
 funext f
 unfold g4;rcases cA f
 ·rfl
 ·rcases oX f.1.1 0 with h|h|h
  ·have F:decide (f.1.1>=0)=false:=df;have G:decide (f.1.1<=0)=true:=c7;rw[F,G];rfl
  ·rw[h];rfl
  ·have F:decide (f.1.1>=0)=true:=c7;have G:decide (f.1.1<=0)=false:=df;have ad:(f.1.1==0)=false:=by rw[beq_eq_false_iff_ne];omega
   rw[F,G,ad];rfl
def Qr:=bI GF λ(ls,n,x)=>ca (qQ ls/\ih x) (.same (.bool (GD ls n x)))
@[go_sem] def atr (ls n x):=cl Qr rfl afd (ls,n,x) rfl
def ats (T:bj)(h1:T B8=aG GY)(dw:T kY=aG uE)(dR:T sv=aG A4)(fc:T B6=aG G1)(fe:T Aa=aG G5):WF T agm Qr:=by
 refine b7 λ(ls,n,x)=>cq λY=>⟨rfl,b6 ?_⟩;simp only[agm,GF,bX];obtain⟨xu,L⟩:=Y;unfold GD;rcases aQ:ow ls n
 ·refine ah ?_;repeat' (intro (ai:_=_)<;>simp only[ai,go_sem,go_sem_proc,h1,dw,dR,fc,fe,xu,aQ,aj,cN,rW,o1,scalar]<;>try refine ae ?_ ?_)
 ·rcases az:((D x:Int)==n)
  ·refine ah ?_;repeat' (intro (ai:_=_)<;>simp only[ai,go_sem,go_sem_proc,h1,dw,dR,fc,fe,xu,aQ,az,aj,bne,dc]<;>try refine ae ?_ ?_)
  ·obtain⟨au,KI,Ds,eZ⟩:=GC aQ;have vl:(D x:Int)=n:=by simpa using az
   have q5:=L.1;subst vl;simp only[e0];rw[atq];simp only[go_sem,go_sem_proc,h1,dw,dR,fc,fe,xu,L,aQ,az,aj,bne,c2];refine cX [0,1,2] [416009] (λ(i:Nat) tm m=>i<=D x/\(∀f∈x.take i,(!cA f||decide (f.1.1<=0))=false)/\tm 7=.J (.int .i64 i)) (λi=>D x-i) 0 (by refine⟨dG _,by simp,rfl⟩) ?_;intro vs ms aK aF;simp only[go_sem,go_sem_proc,h1,dw,dR,fc,fe,aj] at aK aF;subst aK aF;rintro i tm m R hm ⟨ab,cZ,bM⟩;simp only[go_sem,go_sem_proc,h1,dw,dR,fc,fe,bl] at R hm;obtain⟨er,bo,c5⟩:=R;rcases du (i<D x) with aq|bD
   ·have d1:decide ((i:Int)<(D x:Int))=true:=c7;have bL:=e2 (i:=i) (by omega);have fG:=bf aq;obtain⟨ez,eS⟩:=L.2 _ (hb aq);have jo:=λh=>vn (p:=λf:ax => !cA f||decide (f.1.1<=0)) cZ fG h;have jW:=λ(h:(!cA x[i]||decide (x[i].1.1<=0))=true)=>(DG (p:=λf:ax => !cA f||decide (f.1.1<=0))).2 ⟨x[i],hb aq,h⟩;generalize x[i]=y at *;obtain⟨⟨dA,dJ⟩,⟨ep,eB⟩⟩:=y;dsimp only at ez eS jo jW;rcases gf:cA ((dA,dJ),(ep,eB))
    ·rw[jW (by rw[gf];rfl)];simp only[c2,eO];refine ah ?_;repeat' (intro (ai:_=_)<;>simp only[ai,go_sem,go_sem_proc,h1,dw,dR,fc,fe,er,bo,c5,bM,hm,d1,bL,fG,ez,eS,gf,av,aj,bg]<;>try refine ae ?_ ?_)
    ·rcases ik:decide (dA<=0)
     ·refine ah ?_;repeat' (intro (ai:_=_)<;>simp only[ai,go_sem,go_sem_proc,h1,dw,dR,fc,fe,er,bo,c5,bM,hm,d1,bL,fG,ez,eS,gf,ik,av,aj,bg]<;>try refine ae ?_ ?_)
      exact⟨i+1,by omega,by omega,jo (by rw[gf,ik];rfl),rfl⟩
     ·rw[jW (by rw[gf,ik];rfl)];simp only[c2,eO];refine ah ?_;repeat' (intro (ai:_=_)<;>simp only[ai,go_sem,go_sem_proc,h1,dw,dR,fc,fe,er,bo,c5,bM,hm,d1,bL,fG,ez,eS,gf,ik,av,aj,bg]<;>try refine ae ?_ ?_)
   ·have d1:decide ((i:Int)<(D x:Int))=false:=df;have hz:i=D x:=by omega
    subst hz;rw[mB] at cZ;have h6:(x.any λf => !cA f||decide (f.1.1<=0))=false:=by rw[sN];intro y ak;rw[cZ y ak];decide
    rw[h6];simp only[dc,e0];generalize Du:xt ls x (D x) 0=GO;have a2:=DJ 0 (by unfold dY;omega);rw[show ee ((0:Int):Rat)=hi from rfl] at a2;simp only[go_sem,go_sem_proc,h1,dw,dR,fc,fe,er,bo,c5,bM,hm,d1];refine cX [0,1,2] [] (λ(i:Nat) tm m=>i<=D x/\GO=xt ls x (D x-i) i/\tm 8=.J (.int .i64 i)) (λi=>D x-i) 0 (by refine⟨dG _,Du.symm,rfl⟩) ?_;intro vs ms aK aF;simp only[go_sem,go_sem_proc,h1,dw,dR,fc,fe,er,bo,c5] at aK aF;subst aK aF;clear er bo c5 bM hm tm m;rintro i tm m R hm ⟨ab,a7,cd⟩;simp only[go_sem,go_sem_proc,h1,dw,dR,fc,fe,bl] at R;obtain⟨er,bo,c5⟩:=R;rcases du (i<D x) with aq|bD
    ·have d1:decide ((i:Int)<(D x:Int))=true:=c7;have bL:=e2 (i:=i) (by omega);obtain⟨⟨⟨dA,dJ⟩,⟨ep,eB⟩⟩,fG⟩:∃f,x[i]?=some f:=⟨_,bf aq⟩;have fy:x.getD i bC=((dA,dJ),(ep,eB)):=by rw[dH,fG];rfl
     have hr:=L.2 _ (cL fG);have g2:(D x)-i=(D x-(i+1))+1:=by omega
     rw[g2] at a7;replace a7:=a7.trans (xt.eq_2 ..);rw[fy] at a7;have KY:=xm;have rE:=PQ (ls:=ls) (x:=x) (to:=i) KY;generalize hi=nb at *;obtain⟨⟨iP,je⟩,⟨kL,kM⟩⟩:=nb;have bD:=WW iP je kL kM ls x i ⟨KY,xu,L,λl ag _=>by have:=eZ l ag;omega⟩
     have wU:=W4 (base:=((iP,je),(kL,kM))) (ls:=ls) (x:=x) (to:=i);have u1:=W5 (base:=((iP,je),(kL,kM))) (ls:=ls) (x:=x) (to:=i);generalize lI ((iP,je),(kL,kM)) ls x i=S at *;obtain⟨⟨⟨s1,s2⟩,⟨bU,bW⟩⟩,b⟩:=S;dsimp only at a7 bD rE wU u1;obtain⟨fv,hO⟩:=rE;obtain⟨ez,eS⟩:=hr;dsimp only at fv hO ez eS;rcases b
     ·simp only[eO,cE,if_false] at a7;rw[wU rfl] at bD;simp only[av] at a2 bD;rw[a7];refine ah ?_;repeat' (intro (ai:_=_)<;>simp only[ai,go_sem,go_sem_proc,h1,dw,dR,fc,fe,er,bo,c5,cd,d1,bL,fG,a2,bD,av,bC,bP,aj,bg]<;>try refine ae ?_ ?_)
     ·rw[u1 rfl] at bD;simp only[av] at a2 bD;rcases eY:decide (lC ((dA,dJ),(ep,eB)) ((s1,s2),(bU,bW))<=0)
      ·rw[eY] at a7;simp only[e0,dc,if_true] at a7;refine ah ?_;repeat' (intro (ai:_=_)<;>simp only[ai,go_sem,go_sem_proc,h1,dw,dR,fc,fe,er,bo,c5,cd,d1,bL,fG,a2,bD,eY,fv,hO,ez,eS,av,aj,bg]<;>try refine ae ?_ ?_)
       exact⟨i+1,by omega,by omega,a7,rfl⟩
      ·rw[eY] at a7;simp only[e0,c2,cE,if_false] at a7;rw[a7];refine ah ?_;repeat' (intro (ai:_=_)<;>simp only[ai,go_sem,go_sem_proc,h1,dw,dR,fc,fe,er,bo,c5,cd,d1,bL,fG,a2,bD,eY,fv,hO,ez,eS,av,aj,bg]<;>try refine ae ?_ ?_)
    ·have d1:decide ((i:Int)<(D x:Int))=false:=df;have hz:i=D x:=by omega
     subst hz;rw[hG] at a7;replace a7:=a7.trans (xt.eq_1 ..);rw[a7];refine ah ?_;repeat' (intro (ai:_=_)<;>simp only[ai,go_sem,go_sem_proc,h1,dw,dR,fc,fe,er,bo,c5,cd,d1,aj]<;>try refine ae ?_ ?_)
def Qs:=bI GG λ(cap,base,ls,x)=>ca (ox cap base ls/\ih x) (.same (.bool (KZ cap base ls x)))
@[go_sem] def att (cap base ls x):=cl Qs rfl aff (cap,base,ls,x) rfl
def atu (T:bj)(ew:T B7=aG GZ)(dw:T kY=aG uE)(fc:T B6=aG G1)(fe:T Aa=aG G5):WF T agq Qs:=by
 refine b7 λ(cap,base,ls,x)=>cq λY=>⟨rfl,b6 ?_⟩;simp only[agq,GG,bX];obtain⟨j6,L⟩:=Y;unfold KZ;rcases aQ:o6 cap base ls
 ·refine ah ?_;repeat' (intro (ai:_=_)<;>simp only[ai,go_sem,go_sem_proc,ew,dw,fc,fe,j6,aQ,aj,cN,rW,o1,scalar]<;>try refine ae ?_ ?_)
 ·rcases az:((D x:Int)==(D cap:Int))
  ·refine ah ?_;repeat' (intro (ai:_=_)<;>simp only[ai,go_sem,go_sem_proc,ew,dw,fc,fe,j6,aQ,az,aj,bne,dc]<;>try refine ae ?_ ?_)
  ·obtain⟨U,aC,Ds,eZ,-,-⟩:=xq aQ;have Ww:=j6;obtain⟨⟨eb,ny⟩,⟨mq,nz⟩,nA⟩:=Ww
   have vl:(D x)=D cap:=by
                       have:(D x:Int)=D cap:=by simpa using az
                       omega
   have q5:=L.1;simp only[e0];simp only[go_sem,go_sem_proc,ew,dw,fc,fe,j6,L,aQ,az,aj,bne,c2];refine cX [1,2] [420002,420007] (λ(i:Nat) tm m=>i<=D x/\(∀f∈x.take i,pS f=false)/\tm 5=.J (.int .i64 i)) (λi=>D x-i) 0 (by refine⟨dG _,by simp,rfl⟩) ?_;intro vs ms aK aF;simp only[go_sem,go_sem_proc,ew,dw,fc,fe,aj] at aK aF;subst aK aF;rintro i tm m R hm ⟨ab,cZ,bw⟩;simp only[go_sem,go_sem_proc,ew,dw,fc,fe,bl] at R hm;obtain⟨bo,c5⟩:=R;obtain⟨b0,w4⟩:=hm;rcases du (i<D x) with aq|bD
   ·have d1:decide ((i:Int)<(D x:Int))=true:=c7;have bL:=e2 (i:=i) (by omega);have fG:=bf aq;obtain⟨ez,eS⟩:=L.2 _ (hb aq);have jo:=λh=>vn (p:=pS) cZ fG h;have jW:=λ(h:pS x[i]=true)=>DG.2 ⟨x[i],hb aq,h⟩;generalize x[i]=y at *;obtain⟨⟨dA,dJ⟩,⟨ep,eB⟩⟩:=y;dsimp only at ez eS;have agJ:pS ((dA,dJ),(ep,eB)) = !cA ((dA,dJ),(ep,eB)):=rfl;rcases gf:cA ((dA,dJ),(ep,eB))
    ·rw[jW (by rw[agJ,gf];rfl)];simp only[c2,eO];refine ah ?_;repeat' (intro (ai:_=_)<;>simp only[ai,go_sem,go_sem_proc,ew,dw,fc,fe,bo,c5,bw,b0,w4,d1,bL,fG,ez,eS,gf,av,aj,bg]<;>try refine ae ?_ ?_)
    ·refine ah ?_;repeat' (intro (ai:_=_)<;>simp only[ai,go_sem,go_sem_proc,ew,dw,fc,fe,bo,c5,bw,b0,w4,d1,bL,fG,ez,eS,gf,av,aj,bg]<;>try refine ae ?_ ?_)
     exact⟨i+1,by omega,by omega,jo (by rw[agJ,gf];rfl),rfl⟩
   ·have d1:decide ((i:Int)<(D x:Int))=false:=df;have hz:i=D x:=by omega
    subst hz;rw[mB] at cZ;have h6:x.any pS=false:=by rw[sN];intro y ak;rw[cZ y ak];decide
    rw[h6];simp only[dc,e0];rw[<-vl];generalize Du:xv cap base ls x (D x) 0=GO;simp only[go_sem,go_sem_proc,ew,dw,fc,fe,bo,c5,bw,b0,w4,d1,aj];refine cX [1,2] [420002] (λ(i:Nat) tm m=>i<=D x/\GO=xv cap base ls x (D x-i) i/\tm 6=.J (.int .i64 i)) (λi=>D x-i) 0 (by refine⟨dG _,Du.symm,rfl⟩) ?_;intro vs ms aK aF;simp only[go_sem,go_sem_proc,ew,dw,fc,fe,bo,c5,b0,aj] at aK aF;subst aK aF;clear bo c5 bw b0 w4 tm m;rintro i tm m R hm ⟨ab,a7,bA⟩;simp only[go_sem,go_sem_proc,ew,dw,fc,fe,bl] at R hm;obtain⟨bo,c5⟩:=R;rcases du (i<D x) with aq|bD
    ·have d1:decide ((i:Int)<(D x:Int))=true:=c7;have bL:=e2 (i:=i) (by omega);obtain⟨⟨⟨dA,dJ⟩,⟨ep,eB⟩⟩,fG⟩:∃f,x[i]?=some f:=⟨_,bf aq⟩;obtain⟨⟨⟨ck,dC⟩,⟨gv,iF⟩⟩,dh⟩:∃f,cap[i]?=some f:=⟨_,bf (by omega)⟩;obtain⟨⟨⟨bT,cB⟩,⟨et,eD⟩⟩,eJ⟩:∃f,base[i]?=some f:=⟨_,bf (by omega)⟩;have fy:x.getD i bC=((dA,dJ),(ep,eB)):=by rw[dH,fG];rfl
     have gc:cap.getD i bC=((ck,dC),(gv,iF)):=by rw[dH,dh];rfl
     have qR:base.getD i bC=((bT,cB),(et,eD)):=by rw[dH,eJ];rfl
     have hr:=L.2 _ (cL fG);have Wx:=ny _ (cL dh);have K0:=nz _ (cL eJ);have g2:(D x)-i=(D x-(i+1))+1:=by omega
     rw[g2] at a7;replace a7:=a7.trans (xv.eq_2 ..);rw[fy,gc,qR] at a7;have rE:=PQ (ls:=ls) (x:=x) (to:=i) K0;have bD:=WW bT cB et eD ls x i ⟨K0,nA,L,λl ag _=>by have:=eZ l ag;omega⟩
     have wU:=W4 (base:=((bT,cB),(et,eD))) (ls:=ls) (x:=x) (to:=i);have u1:=W5 (base:=((bT,cB),(et,eD))) (ls:=ls) (x:=x) (to:=i);generalize lI ((bT,cB),(et,eD)) ls x i=S at *;obtain⟨⟨⟨s1,s2⟩,⟨bU,bW⟩⟩,b⟩:=S;dsimp only at a7 bD rE wU u1;obtain⟨fv,hO⟩:=rE;obtain⟨ez,eS⟩:=hr;obtain⟨iw,mO⟩:=Wx;dsimp only at fv hO ez eS iw mO;rcases b
     ·simp only[eO,cE,if_false] at a7;rw[wU rfl] at bD;simp only[av] at bD;rw[a7];refine ah ?_;repeat' (intro (ai:_=_)<;>simp only[ai,go_sem,go_sem_proc,ew,dw,fc,fe,bo,c5,bA,hm,d1,bL,fG,dh,eJ,bD,av,bC,bP,aj,bg]<;>try refine ae ?_ ?_)
     ·rw[u1 rfl] at bD;simp only[av] at bD;rcases eY:decide (lC ((s1,s2),(bU,bW)) ((ck,dC),(gv,iF))>0)
      ·rw[eY] at a7;simp only[e0,cE,if_false] at a7;rcases aU:(lC ((s1,s2),(bU,bW)) ((dA,dJ),(ep,eB))==0)
       ·rw[aU] at a7;simp only[cE,if_false] at a7;rw[a7];refine ah ?_;repeat' (intro (ai:_=_)<;>simp only[ai,go_sem,go_sem_proc,ew,dw,fc,fe,bo,c5,bA,hm,d1,bL,fG,dh,eJ,bD,eY,aU,fv,hO,ez,eS,iw,mO,av,aj,bg,bne,dc]<;>try refine ae ?_ ?_)
       ·rw[aU] at a7;simp only[if_true] at a7;refine ah ?_;repeat' (intro (ai:_=_)<;>simp only[ai,go_sem,go_sem_proc,ew,dw,fc,fe,bo,c5,bA,hm,d1,bL,fG,dh,eJ,bD,eY,aU,fv,hO,ez,eS,iw,mO,av,aj,bg,bne,c2]<;>try refine ae ?_ ?_)
        exact⟨i+1,by omega,by omega,a7,rfl⟩
      ·rw[eY] at a7;simp only[e0,if_true] at a7;rcases aU:(lC ((ck,dC),(gv,iF)) ((dA,dJ),(ep,eB))==0)
       ·rw[aU] at a7;simp only[cE,if_false] at a7;rw[a7];refine ah ?_;repeat' (intro (ai:_=_)<;>simp only[ai,go_sem,go_sem_proc,ew,dw,fc,fe,bo,c5,bA,hm,d1,bL,fG,dh,eJ,bD,eY,aU,fv,hO,ez,eS,iw,mO,av,aj,bg,bne,dc]<;>try refine ae ?_ ?_)
       ·rw[aU] at a7;simp only[if_true] at a7;refine ah ?_;repeat' (intro (ai:_=_)<;>simp only[ai,go_sem,go_sem_proc,ew,dw,fc,fe,bo,c5,bA,hm,d1,bL,fG,dh,eJ,bD,eY,aU,fv,hO,ez,eS,iw,mO,av,aj,bg,bne,c2]<;>try refine ae ?_ ?_)
        exact⟨i+1,by omega,by omega,a7,rfl⟩
    ·have d1:decide ((i:Int)<(D x:Int))=false:=df;have hz:i=D x:=by omega
     subst hz;rw[hG] at a7;replace a7:=a7.trans (xv.eq_1 ..);rw[a7];refine ah ?_;repeat' (intro (ai:_=_)<;>simp only[ai,go_sem,go_sem_proc,ew,dw,fc,fe,bo,c5,bA,hm,d1,aj]<;>try refine ae ?_ ?_)
def Qt:=bI w9 λ(rs,n)=>ca (qK rs) (.same (.bool (nV rs n)))
@[go_sem] def aBS (rs n):=cl Qt rfl OD (rs,n) rfl
def atv (T:bj)(dw:T kY=aG uE):WF T agd Qt:=by
 refine b7 λ(rs,n)=>cq λY=>⟨rfl,b6 ?_⟩;simp only[agd,w9,bX];rcases F:decide (n<0)
 case true =>
  have M:nV rs n=false:=by unfold nV;rw[F];rfl
  rw[M];refine ah ?_;repeat' (intro (ai:_=_)<;>simp only[ai,go_sem,go_sem_proc,dw,F,aj]<;>try refine ae ?_ ?_)
 rcases G:decide (n>40)
 case true =>
  have M:nV rs n=false:=by unfold nV;rw[F,G];rfl
  rw[M];refine ah ?_;repeat' (intro (ai:_=_)<;>simp only[ai,go_sem,go_sem_proc,dw,F,G,aj]<;>try refine ae ?_ ?_)
 rcases ad:((D rs:Int)==n)
 case false =>
  have M:nV rs n=false:=by unfold nV;rw[F,G,ad];rfl
  rw[M];refine ah ?_;repeat' (intro (ai:_=_)<;>simp only[ai,go_sem,go_sem_proc,dw,F,G,ad,aj,dc,bne]<;>try refine ae ?_ ?_)
 have aC:n=D rs:=(beq_iff_eq.1 ad).symm;have ed:nV rs n = !(rs.any (nU n)):=by unfold nV;rw[F,G,ad];rfl
 have hd:(D rs)<=40:=by have:=of_decide_eq_false G;omega
 rw[ed];simp only[go_sem,go_sem_proc,dw,F,G,ad,aj,c2,bne];refine cX [0,1] [] (λ(i:Nat) tm mem=>i<=D rs/\(∀r∈rs.take i,nU n r=false)/\tm 5=.J (.int .i64 i)) (λi=>D rs-i) 0 (by refine⟨dG _,by simp,rfl⟩) ?_;intro vs ms aK aF;simp only[go_sem,go_sem_proc,dw,aj] at aK aF;subst aK aF;rintro i tm mem R-⟨ab,cZ,bw⟩;simp only[go_sem,go_sem_proc,dw,bl] at R;obtain⟨au,tB⟩:=R;rcases du (i<D rs) with aq|bD
 ·obtain⟨⟨A,⟨a,b⟩,⟨c,e⟩⟩,L⟩:∃f,rs[i]?=some f:=⟨_,bf aq⟩;obtain⟨⟨jG,mE⟩,sY,nP⟩:=Y.2 _ (cL L);dsimp only at jG mE sY nP;have d1:decide ((i:Int)<n)=true:=c7;have bL:=e2 (i:=i) (by omega)
  have jW:nU n (A,((a,b),(c,e)))=true->(!(rs.any (nU n)))=false:=λh=>by
   rw[DG.2 ⟨_,cL L,h⟩];rfl
  rcases ag:((D A:Int)==n)
  ·rw[jW (by unfold nU;rw[ag];rfl)];refine ah ?_;repeat' (intro (ai:_=_)<;>simp only[ai,go_sem,go_sem_proc,dw,au,tB,bw,d1,L,ag,cG,av,aj,bg,dc,bne]<;>try refine ae ?_ ?_)
  rcases ao:cA ((a,b),(c,e))
  ·rw[jW (by unfold nU;rw[ag,ao];rfl)];refine ah ?_;repeat' (intro (ai:_=_)<;>simp only[ai,go_sem,go_sem_proc,dw,au,tB,bw,d1,L,ag,ao,sY,nP,cG,av,aj,bg,dc,c2,bne]<;>try refine ae ?_ ?_)
  have A2:(D A:Int)=n:=beq_iff_eq.1 ag;simp only[go_sem,go_sem_proc,dw,au,tB,bw,d1,L,ag,ao,sY,nP,cG,av,aj,bg,dc,c2,bne];refine cX [0,1,5] [] (λ(k:Nat) tm mem=>k<=D A/\(∀f∈A.take k,pS f=false)/\tm 6=.J (.int .i64 k)) (λk=>D A-k) 0 (by refine⟨dG _,by simp,rfl⟩) ?_;intro vs ms aK aF;simp only[go_sem,go_sem_proc,dw,au,tB,bw] at aK aF;subst aK aF;rintro k tm' mem' R-⟨BF,W6,bA⟩;simp only[go_sem,go_sem_proc,dw,bl] at R;obtain⟨er,bo,c3⟩:=R;rcases du (k<D A) with UP|ao5
  ·obtain⟨⟨⟨u,v⟩,⟨x,y⟩⟩,ak⟩:∃f,A[k]?=some f:=⟨_,bf UP⟩;obtain⟨kq,jK⟩:=mE _ (cL ak);dsimp only at kq jK;have d2:decide ((k:Int)<n)=true:=c7;have ht:=e2 (i:=k) (by omega);rcases al:cA ((u,v),(x,y))
   ·rw[jW (by unfold nU;rw[ag,ao,DG.2 ⟨_,cL ak,by unfold pS;rw[al];rfl⟩];rfl)];refine ah ?_;repeat' (intro (ai:_=_)<;>simp only[ai,go_sem,go_sem_proc,dw,er,bo,c3,bA,d2,L,ak,al,kq,jK,cG,av,aj,bg,dc]<;>try refine ae ?_ ?_)
   ·simp only[go_sem,go_sem_proc,dw,er,bo,c3,bA,d2,L,ak,al,kq,jK,ht,cG,av,aj,bg,c2];exact⟨k+1,by omega,by omega,vn W6 ak (by unfold pS;rw[al];rfl),rfl⟩
  ·have d2:decide ((k:Int)<n)=false:=df;rw[dF (by omega)] at W6;simp only[go_sem,go_sem_proc,dw,er,bo,c3,bA,d2,bL];exact⟨i+1,by omega,by omega,vn cZ L (by unfold nU;rw[ag,ao,sN.2 λf al=>by rw[W6 f al];simp];rfl),rfl⟩
 ·obtain rfl:i=D rs:=by omega
  have d1:decide ((D rs:Int)<n)=false:=df;rw[dF (by omega)] at cZ;have:rs.any (nU n)=false:=sN.2 λr M=>by rw[cZ r M];simp
  rw[this];simp only[go_sem,go_sem_proc,dw,au,tB,bw,d1,dc]
def iR (a lG b:ax):ax×Int:=if ((iC lG b).2==0)=true then kn a (iC lG b).1 else (bC,(iC lG b).2)
abbrev Qu:ax×ax×ax->List Data:=λ(a,f,b)=>[.agg (av a),.agg (av f),.agg (av b)]
def Qv:=bI Qu λ(a,f,b)=>ca (okF a/\okF f/\okF b) (.same (cR (iR a f b)))
def atw:∀a b,Qu a=Qu b->a=b:=by
  rintro⟨dx,f1,bT⟩ ⟨dW,f2,cB⟩ h;simp only[bl,Data.agg.injEq] at h;exact cz (j1 _ _ h.1) (cz (j1 _ _ h.2.1) (j1 _ _ h.2.2.1))
@[go_sem] def agK (a f b):=cl Qv rfl atw (a,f,b) rfl
def atx (T:bj)(vX:T IQ=aG Li)(p8:T IP=aG Lh):WF T agi Qv:=by
 refine b7 λ(a,f,b)=>cq λY=>⟨rfl,b6 ?_⟩;simp only[agi,Qu,bX];obtain⟨⟨dx,dW⟩,⟨f1,f2⟩,⟨bT,cB⟩⟩:=Y;obtain⟨⟨s,l⟩,⟨s2,Z⟩⟩:=a;obtain⟨⟨t,m⟩,⟨t2,b0⟩⟩:=f;obtain⟨⟨u,k⟩,⟨gI,c5⟩⟩:=b;dsimp only at dx dW f1 f2 bT cB;have a6:=OI ((t,m),(t2,b0)) ((u,k),(gI,c5));unfold iR;rcases ic:iC ((t,m),(t2,b0)) ((u,k),(gI,c5)) with ⟨⟨⟨kX,ni⟩,⟨rB,vx⟩⟩,zr⟩;rw[ic] at a6;obtain⟨kq,jK⟩:=a6;dsimp only at kq jK;rcases aR:(zr==0)
 ·simp only[go_sem,go_sem_proc,vX,p8,ic,dx,dW,f1,f2,bT,cB,aR,av,cR,bC,bP,dc,bne]
 ·simp only[go_sem,go_sem_proc,vX,p8,ic,dx,dW,f1,f2,bT,cB,kq,jK,aR,av,cR,c2,bne]
def aty {k bh i:Nat}{l:List cb}{a b c d e:I}(h:(D l)=i)(ab:i<=1000)(a6:[a,b,c,d,e].all I.one=true):lf k bh 5 i 88 1 [a,b,c,d,e] (some (bh,aS cG l))=some (.ref k (bh+1) 5 0 (i+1),some (k,bh+1,aS cG l++[a,b,c,d,e])):=by
 unfold lf;dsimp only;rw[aL ⟨rfl,by rw[jU m6];omega,by omega,by unfold maxLen;omega,a6⟩,dF (by rw[jU m6];omega)]
def atz {l:List cb}{i:Nat}(h:(D l)=i)(x:I)(A:List ax)(a:Int)(b:List Int)(c:Int)(d:List Int):
  (aS cG l++[x,.J (.int .i64 a),.J (.ar (b.map aI)),.J (.int .i64 c),.J (.ar (d.map aI))]).set (i*5) (.J (.ar (A.map av)))=aS cG (l++[(A,((a,b),(c,d)))]):=by
 have ag:(aS cG l).length=i*5:=by rw[jU m6,h]
 rw[Az _ _ (by omega),ag,hG,qM];unfold aS;rw[pT,List.flatten_append,pT]
 rfl
abbrev Qw:List cb->List Data:=λ(rs:List cb)=>[.ar (rs.map cG)]
def Qx:=bI Qw λ(rs:List cb)=>ca (D rs<=1000/\qK rs) (.own 5 (rs.map cG))
def atA:∀a b,Qw a=Qw b->a=b:=by
  intro Oz OA h;exact map_inj Ax _ _ (by simpa using h)
@[go_sem] def atB (rs):=cl Qx rfl atA rs rfl
def atC (T:bj):WF T age Qx:=by
 refine b7 λrs=>cq λY=>⟨rfl,b6 ?_⟩;simp only[age,Qw,bX];obtain⟨hd,Y⟩:=Y;simp only[go_sem,go_sem_proc,aj];refine cX [0] [] (λ((i,g):Nat×Nat) tm mem=>i<=D rs/\tm 4=.J (.int .i64 i)/\tm 3=.ref 199026 g 5 0 i/\mem 199026=some (g,aS cG (rs.take i))) (λ(i,_)=>D rs-i) (0,0) (by refine⟨dG _,rfl,rfl,rfl⟩) ?_;intro vs ms aK aF;simp only[go_sem,go_sem_proc,aj] at aK aF;subst aK aF;rintro⟨i,g⟩ tm mem R-⟨ab,aZ,ad,Lx⟩;simp only[go_sem,go_sem_proc,bl] at R;have au:=R;rcases du (i<D rs) with aq|bD
 ·obtain⟨⟨A,⟨a,b⟩,⟨c,e⟩⟩,L⟩:∃f,rs[i]?=some f:=⟨_,bf aq⟩;obtain⟨⟨jG,mE⟩,sY,nP⟩:=Y.2 _ (cL L);dsimp only at jG mE sY nP;have d1:decide ((i:Int)<(D rs:Int))=true:=c7;have bL:=e2 (i:=i) (by omega);have k5:(rs.take i).length=i:=by rw[gk];omega
  have c1:∀bh,lf 199012 bh 4 0 64 (D A) ((A.map av).flatten.map .J) (some (bh,[]))=some (.ref 199012 (bh+1) 4 0 (D A),some (199012,bh+1,aS av A)):=λbh=>by
   have:=z1 jt vm 199012 bh 64 [] A (by simp;omega) (by simp;omega)
   simpa [aS] using this
  have kT:=JZ A;have Lo:=λ(x:I) (L:I.one x=true)=>aty (k:=199026) (bh:=g) (a:=x) (b:=.J (.int .i64 a)) (c:=.J (.ar (b.map aI))) (d:=.J (.int .i64 c)) (e:=.J (.ar (e.map aI))) k5 (by omega) (by simp only[u3,L];rfl);have atD:=λ(bh n:Nat)=>Lo (.ref 199012 bh 4 0 n) rfl;simp only[go_sem,go_sem_proc,au,ad,aZ,Lx,L,d1,c1,kT,atD,cG,av,aj,bg];have atE:(aS cG (rs.take i)).length=i*5:=by rw[jU m6,k5]
  refine ak5 199026 (i*5) 199012 (g:=gM (mem 199012)+1) (sz:=4) (off:=0) (len:=D A) (cs:=aS av A) (d:=.ar (A.map av)) (by simp only[aV];rfl) (by rw[r4 (by omega),atE,hG];rfl) (by simp[aV]) (Si _ _) (by decide) ?_ ?_
  ·exact jV (n:=0) jt (by simp[aV])
  ·have zM:=atz k5 (.ref 199012 (gM (mem 199012)+1) 4 0 (D A)) A a b c e;have Ka:rs.take i++[(A,((a,b),(c,e)))]=rs.take (i+1):=by rw[ho,L];rfl
   rw[zM,Ka];simp only[go_sem,go_sem_proc,au,ad,aZ,Lx,bL];exact⟨(i+1,g+1),by dsimp only;omega,by dsimp only;omega,rfl,rfl,rfl⟩
 ·obtain rfl:i=D rs:=by omega
  have d1:decide ((D rs:Int)<(D rs:Int))=false:=df;rw[mB] at Lx;have hlen:(aS cG rs).length=D rs*5:=jU m6 rs;simp only[go_sem,go_sem_proc,au,ad,aZ,Lx,d1,aj];unfold qy;dsimp only;rw[Lx];simp only[and_self,if_true];rw[aL ⟨trivial,by omega⟩,dF (by omega)]
  unfold aS;rw[z2 _ λd=>rfl];have:=z3 (sz:=5) (rs.map cG) (by intro x L;obtain⟨f,-,rfl⟩:=h7.1 L;rfl);rw[aj] at this;simp[this]
def ma {α:Type}(op:α->ax×Int)(e:α->ax):List α->List ax×Bool
 | []=>([],true)
 |a::r=>if ((op a).2==0)=true then ((op a).1::(ma op e r).1,(ma op e r).2) else ((a::r).map e,false)
section
variable {α:Type} {op:α->ax×Int} {e:α->ax}
def Qy:∀{l:List α},(∀a∈l,(op a).2=0)->ma op e l=(l.map λa=>(op a).1,true)
 | [],_=>rfl
 |a::r,h=>by
  unfold ma;rw[aL (by rw[h a lU];rfl),Qy λb U=>h b (ur _ U)]
  rfl
def W7:∀{l:List α} {k:Nat} {a:α},(∀a∈l.take k,(op a).2=0)->l[k]?=some a->((op a).2==0)=false->ma op e l=((l.take k).map (λa=>(op a).1)++(l.drop k).map e,false)
 | [],k,a,_,h,_=>by simp at h
 |b::r,0,a,_,h,al=>by
  simp only[List.getElem?_cons_zero,bO] at h;subst h;unfold ma;rw[al];simp
 |b::r,k+1,a,h,L,al=>by
  have:=W7 (l:=r) (k:=k) (λc Y=>h c (by rw[EA];exact ur _ Y)) (by simpa using L) al;unfold ma;rw[aL (by rw[h b (by rw[EA];exact lU)];rfl),this];simp
def agL {l:List α}{k:Nat}{a:α}(h:l[k]?=some a):((l.take k).map (λa=>(op a).1)++(l.drop k).map e).set k (op a).1=(l.take (k+1)).map (λa=>(op a).1)++(l.drop (k+1)).map e:=by
 obtain⟨aq,L⟩:=dL.1 h;have ag:((l.take k).map λa=>(op a).1).length=k:=by rw[aj,gk];omega
 rw[Az _ _ (by omega),ag,hG,gx aq,g0,qM,ho,h,pT,ki]
 rfl
def agM {l:List α}{k:Nat}:((l.take k).map (λa=>(op a).1)++(l.drop k).map e).length=D l:=by
 rw[ks,aj,aj,gk,pG];omega
end
def iS (x:cb)(c:Nat):cb×Bool :=
 if (ma (λa=>fL a (x.1.getD c bC)) id x.1).2=true then (((ma (λa=>fL a (x.1.getD c bC)) id x.1).1,(fL x.2 (x.1.getD c bC)).1),(fL x.2 (x.1.getD c bC)).2==0)
 else (((ma (λa=>fL a (x.1.getD c bC)) id x.1).1,bC),false)
abbrev Qz:cb×Nat->List Data:=λ(x,c)=>[.agg (cG x),.int .i64 (x.1.length:Nat),.int .i64 c]
def QA:=bI Qz λ(x,c)=>ca (lD x/\x.1.length<=1000/\c<x.1.length) (.same (.dq [.agg (cG (iS x c).1),.bool (iS x c).2]))
def atF:∀a b,Qz a=Qz b->a=b:=by
  rintro⟨dA,ck⟩ ⟨dJ,dC⟩ h;simp only[bl,Data.agg.injEq,Data.int.injEq] at h;exact cz (Ax _ _ h.1) (by have:=h.2.2.1.2;dsimp only;omega)
@[go_sem] def atG (x c):=cl QA rfl atF (x,c) rfl
def atH (T:bj)(G6:T Ns=aG Qe):WF T agf QA:=by
 refine b7 λ(x,c)=>cq λY=>⟨rfl,b6 ?_⟩;simp only[agf,Qz,bX];obtain⟨⟨⟨-,mE⟩,sY,nP⟩,hd,o4⟩:=Y;obtain⟨A,⟨v1,v2⟩,⟨fg,v4⟩⟩:=x;dsimp only at mE sY nP hd o4 ⊢;obtain⟨⟨⟨bT,cB⟩,⟨et,eD⟩⟩,U⟩:∃f,A[c]?=some f:=⟨_,bf o4⟩;obtain⟨QB,QC⟩:=mE _ (cL U);dsimp only at QB QC;have W8:A.getD c bC=((bT,cB),(et,eD)):=by rw[dH,U];rfl
 unfold iS;dsimp only;rw[W8]
 have c1:lf 200020 0 4 0 64 (D A) ((A.map av).flatten.map .J) (some (0,[]))=some (.ref 200020 1 4 0 (D A),some (200020,1,aS av A)):=by
  have:=z1 jt vm 200020 0 64 [] A (by simp;omega) (by simp;omega)
  simpa [aS] using this
 have kT:=JZ A
 have eA:∀(eW:List ax),D eW=(D A)->∀n (m:Mem),m 200020=some (1,aS av eW)->cN (n+1) m (.ref 200020 1 4 0 (D A))=some (.ar (eW.map av)):=λeW gA n m hm=>by
  have:=jV (n:=n) jt hm;rw[gA] at this;exact this
 simp only[go_sem,go_sem_proc,G6,U,o4,c1,kT,cG,av,aI,aj,bg];refine cX [1,3,6,8,9] [200003,200006,200008,200009] (λ(k:Nat) tm mem=>k<=D A/\(∀a∈A.take k,(fL a ((bT,cB),(et,eD))).2=0)/\tm 10=.J (.int .i64 k)/\mem 200020=some (1,aS av ((A.take k).map (λa=>(fL a ((bT,cB),(et,eD))).1)++(A.drop k).map id))) (λk=>D A-k) 0 (by refine⟨dG _,by simp,rfl,?_⟩;simp[aV]) ?_;intro vs ms aK aF;simp only[go_sem,go_sem_proc,G6,cG,av] at aK aF;subst aK aF;rintro k tm mem R hm ⟨atI,cZ,dz,DL⟩;simp only[go_sem,go_sem_proc,G6,bl] at R hm;obtain⟨F,ad,bA,cd,di⟩:=R;obtain⟨fJ,gB,g3,W9⟩:=hm;rcases du (k<D A) with aq|bD
 ·obtain⟨⟨⟨dx,dW⟩,⟨hR,jf⟩⟩,L⟩:∃f,A[k]?=some f:=⟨_,bf aq⟩;obtain⟨kq,jK⟩:=mE _ (cL L);dsimp only at kq jK;have d1:decide ((k:Int)<(D A:Int))=true:=c7;have bL:=e2 (i:=k) (by omega);rcases ic:fL ((dx,dW),(hR,jf)) ((bT,cB),(et,eD)) with ⟨⟨⟨kX,ni⟩,⟨rB,vx⟩⟩,zr⟩;have gA:=agM (op:=λa=>fL a ((bT,cB),(et,eD))) (e:=id) (l:=A) (k:=k);rcases aR:(zr==0)
  ·have hu:=W7 (op:=λa=>fL a ((bT,cB),(et,eD))) (e:=id) cZ L (by rw[ic];exact aR);rw[hu];simp only[go_sem,go_sem_proc,G6,F,ad,bA,cd,di,dz,fJ,gB,g3,W9,DL,d1,L,kq,jK,QB,QC,ic,aR,cG,av,cR,bC,bP,aj,bg,dc,bne];rw[eA _ gA 3 _ (by simp[aV,DL])]
   rfl
  ·have wS:zr=0:=beq_iff_eq.1 aR;subst wS;have tz:=agL (op:=λa=>fL a ((bT,cB),(et,eD))) (e:=id) L;rw[ic] at tz;have kK:k<((A.take k).map (λa=>(fL a ((bT,cB),(et,eD))).1)++(A.drop k).map id).length:=by rw[gA];exact aq
   have dg:=yZ kK kX ni rB vx;rw[tz] at dg;have A2:=uj kK;simp only[go_sem,go_sem_proc,G6,F,ad,bA,cd,di,dz,fJ,gB,g3,W9,DL,d1,bL,aq,L,kq,jK,QB,QC,ic,dg,A2,cG,av,cR,aj,bg,beq_self_eq_true,c2,bne]
   exact⟨k+1,by omega,by omega,λa bc=>by
    rw[ho,L,h5] at bc;rcases bc with bc|bc
    ·exact cZ a bc
    ·simp at bc;rw[bc,ic],rfl,rfl⟩
 ·obtain rfl:k=D A:=by omega
  have d1:decide ((D A:Int)<(D A:Int))=false:=df;rw[mB] at cZ DL;have hu:=Qy (op:=λa=>fL a ((bT,cB),(et,eD))) (e:=id) cZ;rw[hu];rw[List.drop_length,bP,mX] at DL;rcases ic:fL ((v1,v2),(fg,v4)) ((bT,cB),(et,eD)) with ⟨⟨⟨kX,ni⟩,⟨rB,vx⟩⟩,zr⟩;simp only[go_sem,go_sem_proc,G6,F,ad,bA,cd,di,dz,fJ,gB,g3,W9,DL,d1,sY,nP,QB,QC,ic,cG,av,cR,aj];rw[eA (A.map λa=>(fL a ((bT,cB),(et,eD))).1) (by simp) 3 _ (by simp[aV,DL])]
  rfl
def pr (x y:cb)(c:Nat):cb×Bool :=
 if (ma (λa:ax×ax=>iR a.1 (x.1.getD c bC) a.2) nt (x.1.zip y.1)).2=true then (((ma (λa:ax×ax=>iR a.1 (x.1.getD c bC) a.2) nt (x.1.zip y.1)).1,(iR x.2 (x.1.getD c bC) y.2).1),(iR x.2 (x.1.getD c bC) y.2).2==0)
 else (((ma (λa:ax×ax=>iR a.1 (x.1.getD c bC) a.2) nt (x.1.zip y.1)).1,bC),false)
def agN (a f b:ax):okF (iR a f b).1:=by
 unfold iR
 split
 ·exact FQ _ _
 ·exact o2
def zip_fst {l m:List ax}(h:(D l)=D m):(l.zip m).map nt=l:=by
 rw[List.map_fst_zip (by omega)]
abbrev QD:cb×cb×Nat->List Data:=λ(x,y,c)=>[.agg (cG x),.agg (cG y),.int .i64 (x.1.length:Nat),.int .i64 c]
def Ly:=bI QD λ(x,y,c)=>ca (lD x/\lD y/\x.1.length<=1000/\y.1.length=x.1.length/\c<x.1.length) (.same (.dq [.agg (cG (pr x y c).1),.bool (pr x y c).2]))
def atJ:∀a b,QD a=QD b->a=b:=by
  rintro⟨dA,og,ck⟩ ⟨dJ,qC,dC⟩ h;simp only[bl,Data.agg.injEq,Data.int.injEq] at h;exact cz (Ax _ _ h.1) (cz (Ax _ _ h.2.1) (by have:=h.2.2.2.1.2;dsimp only;omega))
@[go_sem] def atK (x y c):=cl Ly rfl atJ (x,y,c) rfl
def atL (T:bj)(G7:T Nt=aG Qv):WF T agh Ly:=by
 refine b7 λ(x,y,c)=>cq λY=>⟨rfl,b6 ?_⟩;simp only[agh,QD,bX];obtain⟨⟨⟨-,mE⟩,sY,nP⟩,⟨⟨-,agO⟩,agP,agQ⟩,hd,QE,o4⟩:=Y;obtain⟨A,⟨v1,v2⟩,⟨fg,v4⟩⟩:=x;obtain⟨B,⟨jn,gI⟩,⟨sV,uo⟩⟩:=y;dsimp only at mE sY nP agO agP agQ hd QE o4 ⊢;obtain⟨⟨⟨bT,cB⟩,⟨et,eD⟩⟩,U⟩:∃f,A[c]?=some f:=⟨_,bf o4⟩;have agR:=mE _ (cL U);have W8:A.getD c bC=((bT,cB),(et,eD)):=by rw[dH,U];rfl
 unfold pr;dsimp only;rw[W8];have agS:(A.zip B).length=D A:=by rw[agT];omega
 have c1:lf 201022 0 4 0 64 (D A) ((A.map av).flatten.map .J) (some (0,[]))=some (.ref 201022 1 4 0 (D A),some (201022,1,aS av A)):=by
  have:=z1 jt vm 201022 0 64 [] A (by simp;omega) (by simp;omega)
  simpa [aS] using this
 have kT:=JZ A
 have eA:∀(eW:List ax),D eW=(D A)->∀n (m:Mem),m 201022=some (1,aS av eW)->cN (n+1) m (.ref 201022 1 4 0 (D A))=some (.ar (eW.map av)):=λeW gA n m hm=>by
  have:=jV (n:=n) jt hm;rw[gA] at this;exact this
 simp only[go_sem,go_sem_proc,G7,U,o4,c1,kT,cG,av,aI,aj,bg];refine cX [2,4,5,8,10,11] [201004,201005,201008,201010,201011] (λ(k:Nat) tm mem=>k<=D A/\(∀a∈(A.zip B).take k,(iR a.1 ((bT,cB),(et,eD)) a.2).2=0)/\tm 12=.J (.int .i64 k)/\mem 201022=some (1,aS av (((A.zip B).take k).map (λa=>(iR a.1 ((bT,cB),(et,eD)) a.2).1)++((A.zip B).drop k).map nt))) (λk=>D A-k) 0 (by refine⟨dG _,by simp,rfl,?_⟩;simp only[List.take_zero,List.drop_zero,bP,List.nil_append,zip_fst QE.symm];simp[aV]) ?_;intro vs ms aK aF;simp only[go_sem,go_sem_proc,G7,cG,av] at aK aF;subst aK aF;rintro k tm mem R hm ⟨atI,cZ,eI,tf⟩;simp only[go_sem,go_sem_proc,G7,bl] at R hm;obtain⟨G,aZ,bw,cd,dz,dX⟩:=R;obtain⟨ft,hf,g3,ij,Xa⟩:=hm;rcases du (k<D A) with aq|bD
 ·obtain⟨⟨⟨dx,dW⟩,⟨hR,jf⟩⟩,L⟩:∃f,A[k]?=some f:=⟨_,bf aq⟩;obtain⟨⟨⟨ck,dC⟩,⟨gv,iF⟩⟩,ak⟩:∃f,B[k]?=some f:=⟨_,bf (by omega)⟩;have WY:=mE _ (cL L);have atM:=agO _ (cL ak);have a2:(A.zip B)[k]?=some (((dx,dW),(hR,jf)),((ck,dC),(gv,iF))):=by rw[List.getElem?_zip_eq_some];exact⟨L,ak⟩
  have d1:decide ((k:Int)<(D A:Int))=true:=c7;have bL:=e2 (i:=k) (by omega);have vz:=agK ((dx,dW),(hR,jf)) ((bT,cB),(et,eD)) ((ck,dC),(gv,iF)) ⟨WY,agR,atM⟩;rcases ic:iR ((dx,dW),(hR,jf)) ((bT,cB),(et,eD)) ((ck,dC),(gv,iF)) with ⟨⟨⟨kX,ni⟩,⟨rB,vx⟩⟩,zr⟩;rw[ic] at vz;simp only[av,cR] at vz;have gA:=agM (op:=λa:ax×ax=>iR a.1 ((bT,cB),(et,eD)) a.2) (e:=nt) (l:=A.zip B) (k:=k);rw[agS] at gA;rcases aR:(zr==0)
  ·have hu:=W7 (op:=λa:ax×ax=>iR a.1 ((bT,cB),(et,eD)) a.2) (e:=nt) cZ a2 (by dsimp only;rw[ic];exact aR);rw[hu];simp only[go_sem,go_sem_proc,G7,G,aZ,bw,cd,dz,dX,eI,ft,hf,g3,ij,Xa,tf,d1,L,ak,vz,aR,cG,av,cR,bC,bP,aj,bg,dc,bne];rw[eA _ gA 3 _ (by simp[aV,tf])]
   rfl
  ·have wS:zr=0:=beq_iff_eq.1 aR;subst wS;have tz:=agL (op:=λa:ax×ax=>iR a.1 ((bT,cB),(et,eD)) a.2) (e:=nt) a2;dsimp only at tz;rw[ic] at tz;have kK:k<(((A.zip B).take k).map (λa=>(iR a.1 ((bT,cB),(et,eD)) a.2).1)++((A.zip B).drop k).map nt).length:=by rw[gA];exact aq
   have dg:=yZ kK kX ni rB vx;rw[tz] at dg;have A2:=uj kK;simp only[go_sem,go_sem_proc,G7,G,aZ,bw,cd,dz,dX,eI,ft,hf,g3,ij,Xa,tf,d1,bL,aq,L,ak,vz,dg,A2,cG,av,cR,aj,bg,beq_self_eq_true,c2,bne]
   exact⟨k+1,by omega,by omega,λa bc=>by
    rw[ho,a2,h5] at bc;rcases bc with bc|bc
    ·exact cZ a bc
    ·simp at bc;rw[bc,ic],rfl,rfl⟩
 ·obtain rfl:k=D A:=by omega
  have d1:decide ((D A:Int)<(D A:Int))=false:=df;have oq:(A.zip B).take (D A)=A.zip B:=dF (by omega);have tS:(A.zip B).drop (D A)=[]:=lj (by omega);rw[oq] at cZ;rw[oq,tS,bP,mX] at tf;have hu:=Qy (op:=λa:ax×ax=>iR a.1 ((bT,cB),(et,eD)) a.2) (e:=nt) cZ;rw[hu];have vz:=agK ((v1,v2),(fg,v4)) ((bT,cB),(et,eD)) ((jn,gI),(sV,uo)) ⟨⟨sY,nP⟩,agR,⟨agP,agQ⟩⟩;rcases ic:iR ((v1,v2),(fg,v4)) ((bT,cB),(et,eD)) ((jn,gI),(sV,uo)) with ⟨⟨⟨kX,ni⟩,⟨rB,vx⟩⟩,zr⟩;rw[ic] at vz;simp only[av,cR] at vz;simp only[go_sem,go_sem_proc,G7,G,aZ,bw,cd,dz,dX,eI,ft,hf,g3,ij,Xa,tf,d1,vz,cG,av,cR,aj];rw[eA ((A.zip B).map λa=>(iR a.1 ((bT,cB),(et,eD)) a.2).1) (by rw[aj];exact agS) 3 _ (by simp[aV,tf])]
  rfl
def il (x:cb)(c:Nat):ax:=x.1.getD c bC
def fT (rows:List cb)(r c:Nat):Nat:=r+(rows.drop r).findIdx λx => !hP (il x c)
def qW (rows:List cb)(i:Nat):cb:=rows.getD i ([],bC)
def g6 (p:cb)(r c:Nat):Nat->List cb->List cb×Bool
 |_,[]=>([],true)
 |i,x::xs=>if (i==r||hP (il x c))=true then (x::(g6 p r c (i+1) xs).1,(g6 p r c (i+1) xs).2)
  else if (pr x p c).2=true then ((pr x p c).1::(g6 p r c (i+1) xs).1,(g6 p r c (i+1) xs).2) else (x::xs,false)
def lL (rows:List cb)(i j:Nat):List cb:=(rows.set i (qW rows j)).set j (qW rows i)
def nd (stop:Bool):Nat->Nat->List cb->Nat->List Nat->List cb×List Nat×Bool
 |0,_,rows,_,free=>(rows,free,true)
 |k+1,c,rows,r,free =>
  if fT rows r c=(D rows) then (if stop=true then (rows,free++[c],true) else nd stop k (c+1) rows r (free++[c]))
  else if (iS (qW (lL rows r (fT rows r c)) r) c).2=true then
   (if (g6 (iS (qW (lL rows r (fT rows r c)) r) c).1 r c 0 ((lL rows r (fT rows r c)).set r (iS (qW (lL rows r (fT rows r c)) r) c).1)).2=true then
    nd stop k (c+1) (g6 (iS (qW (lL rows r (fT rows r c)) r) c).1 r c 0 ((lL rows r (fT rows r c)).set r (iS (qW (lL rows r (fT rows r c)) r) c).1)).1 (r+1) free
   else ((g6 (iS (qW (lL rows r (fT rows r c)) r) c).1 r c 0 ((lL rows r (fT rows r c)).set r (iS (qW (lL rows r (fT rows r c)) r) c).1)).1,free,false))
  else (lL rows r (fT rows r c),free,false)
def ps (N:Nat)(rows:List cb):Prop:=D rows=N/\∀x∈rows,x.1.length=N/\lD x
def atN {rows:List cb}{r c i:Nat}{x:cb}(L:rows[i]?=some x)(M:r<=i)(a2:∀j y,r<=j->j<i->rows[j]?=some y->hP (il y c)=true)(h:hP (il x c)=false):fT rows r c=i:=by
 unfold fT;obtain⟨aq,fG⟩:=dL.1 L
 have:(rows.drop r).findIdx (λx => !hP (il x c))=i-r:=by
  rw[List.findIdx_eq (by rw[pG];omega)];refine⟨?_,λj aa=>?_⟩
  ·rw[JN];have:rows[r+(i-r)]?=some x:=by rw[show r+(i-r)=i by omega];exact L
   rw[(dL.1 this).2,h];rfl
  ·rw[JN];have:=a2 (r+j) _ (by omega) (by omega) (bf (by omega));rw[this];rfl
 omega
def atO {rows:List cb}{r c:Nat}(M:r<=D rows)(a2:∀j y,r<=j->rows[j]?=some y->hP (il y c)=true):fT rows r c=D rows:=by
 unfold fT
 have:(rows.drop r).findIdx (λx => !hP (il x c))=(rows.drop r).length:=by
  rw[List.findIdx_eq_length];intro y ak;obtain⟨j,aa⟩:=List.mem_iff_getElem?.1 ak;rw[oI] at aa;rw[a2 (r+j) y (by omega) aa];rfl
 rw[this,pG];omega
def A6 {rows:List cb}{i:Nat}{x:cb}(h:rows[i]?=some x):qW rows i=x:=by
 unfold qW;rw[dH,h];rfl
def agU {x:cb}{c:Nat}{f:ax}(h:x.1[c]?=some f):il x c=f:=by
 unfold il;rw[dH,h];rfl
def G8 {l:List cb}{k:Nat}(h:k<D l):(k*5+5<=(aS cG l).length)=True:=eq_true (by rw[jU m6];omega)
def agV {l:List cb}{k:Nat}(h:k<D l):(k*5+1<=(aS cG l).length)=True:=eq_true (by rw[jU m6];omega)
def QF {l:List cb}{k:Nat}(h:k<D l)(A:List ax)(a:Int)(b:List Int)(c:Int)(d:List Int):
  mZ (k*5) (aS cG l)++[I.J (.ar (A.map av)),I.J (.int .i64 a),.J (.ar (b.map aI)),.J (.int .i64 c),.J (.ar (d.map aI))]++nL (k*5+5) (aS cG l)=aS cG (l.set k (A,((a,b),(c,d)))):=by
 rw[<-Nd m6 h]
 rfl
def G9 {l:List cb}{k:Nat}{A a b c d}(h:l[k]?=some (A,((a,b),(c,d)))):mZ 5 (nL (k*5) (aS cG l))=[I.J (.ar (A.map av)),I.J (.int .i64 a),.J (.ar (b.map aI)),.J (.int .i64 c),.J (.ar (d.map aI))]:=by
 have ra:=EF m6 h (f:=0) (n:=5) (by omega);unfold cut at ra;rw[aL (by rw[jU m6];have:=(dL.1 h).1;omega)] at ra;exact mm ra
def agW {l:List cb}{k:Nat}{A a b c d}(h:l[k]?=some (A,((a,b),(c,d)))):mZ 1 (nL (k*5) (aS cG l))=[I.J (.ar (A.map av))]:=by
 have:=congrArg (mZ 1) (G9 h);rw[List.take_take] at this;exact this
def QG {K:a8->Prop}{tm:Nat->I}{m:Mem}(P:(Nat->I)->Mem->Prop)(au:P tm m)(h:∀tm m,P tm m->K ⟨tm,m⟩):lh K ⟨tm,m⟩ .move:=ak3 (h tm m au)
def Xb {α:Type}{op:α->ax×Int}{e:α->ax}:∀l:List α,(ma op e l).1.length=D l
 | []=>rfl
 |a::r=>by
  unfold ma
  split
  ·simp[Xb r]
  ·simp
def Xc {α:Type}{op:α->ax×Int}{e:α->ax}(F:∀a,okF (op a).1):∀l:List α,(∀a∈l,okF (e a))->∀f∈(ma op e l).1,okF f
 | [],_,f,al=>by simp[ma] at al
 |a::r,h,f,al=>by
  unfold ma at al
  split at al
  ·rcases kt.1 al with rfl|al
   ·exact F a
   ·exact Xc F r (λb U=>h b (ur _ U)) f al
  ·obtain⟨b,U,rfl⟩:=h7.1 al;exact h b U
def Xd {N:Nat}{x:cb}(h:x.1.length=N/\lD x)(c:Nat):(iS x c).1.1.length=N/\lD (iS x c).1:=by
 obtain⟨ag,⟨CP,Xe⟩,oR⟩:=h;have F:∀f∈(ma (λa=>fL a (x.1.getD c bC)) id x.1).1,okF f:=Xc (λa=>OJ _ _) x.1 Xe;have G:=Xb (op:=λa=>fL a (x.1.getD c bC)) (e:=id) x.1;unfold iS
 split
 ·exact⟨by dsimp only;omega,⟨⟨by dsimp only;omega,F⟩,OJ _ _⟩⟩
 ·exact⟨by dsimp only;omega,⟨⟨by dsimp only;omega,F⟩,o2⟩⟩
def agX {N:Nat}{x y:cb}(h:x.1.length=N/\lD x)(ak:y.1.length=N)(c:Nat):(pr x y c).1.1.length=N/\lD (pr x y c).1:=by
 obtain⟨ag,⟨CP,Xe⟩,oR⟩:=h;have a2:(x.1.zip y.1).length=N:=by rw[agT];omega
 have F:∀f∈(ma (λa:ax×ax=>iR a.1 (x.1.getD c bC) a.2) nt (x.1.zip y.1)).1,okF f:=Xc (λa=>agN _ _ _) _ λa bc=>Xe _ (List.of_mem_zip bc).1;have G:=Xb (op:=λa:ax×ax=>iR a.1 (x.1.getD c bC) a.2) (e:=nt) (x.1.zip y.1);unfold pr
 split
 ·exact⟨by dsimp only;omega,⟨⟨by dsimp only;omega,F⟩,agN _ _ _⟩⟩
 ·exact⟨by dsimp only;omega,⟨⟨by dsimp only;omega,F⟩,o2⟩⟩
def Lz {N:Nat}{p:cb}{r c:Nat}(aR:p.1.length=N):∀(i:Nat) (l:List cb),(∀x∈l,x.1.length=N/\lD x)->(g6 p r c i l).1.length=D l/\∀x∈(g6 p r c i l).1,x.1.length=N/\lD x
 |_,[],h=>⟨rfl,h⟩
 |i,x::xs,h=>by
  obtain⟨i1,i2⟩:=Lz (r:=r) (c:=c) aR (i+1) xs λy ak=>h y (ur _ ak);unfold g6
  split
  ·refine⟨by simp[i1],λy ak=>?_⟩
   rcases kt.1 ak with rfl|ak
   ·exact h _ lU
   ·exact i2 y ak
  ·split
   ·refine⟨by simp[i1],λy ak=>?_⟩
    rcases kt.1 ak with rfl|ak
    ·exact agX (h _ lU) aR c
    ·exact i2 y ak
   ·exact⟨rfl,h⟩
def ps.set {N:Nat}{rows:List cb}(h:ps N rows){i:Nat}{x:cb}(L:x.1.length=N/\lD x):ps N (rows.set i x):=by
 refine⟨by rw[fk];exact h.1,λy ak=>?_⟩
 rcases nW ak with ak|rfl
 ·exact h.2 y ak
 ·exact L
def agY {p x:cb}{r c i:Nat}{xs:List cb}(h:(i==r||hP (il x c))=true):g6 p r c i (x::xs)=(x::(g6 p r c (i+1) xs).1,(g6 p r c (i+1) xs).2):=by rw[g6,aL h]
def agZ {p x:cb}{r c i:Nat}{xs:List cb}(h:¬ ((i==r||hP (il x c))=true))(G:(pr x p c).2=true):g6 p r c i (x::xs)=((pr x p c).1::(g6 p r c (i+1) xs).1,(g6 p r c (i+1) xs).2):=by rw[g6,aT h,aL G]
def ag0 {p x:cb}{r c i:Nat}{xs:List cb}(h:¬ ((i==r||hP (il x c))=true))(G:(pr x p c).2=false):g6 p r c i (x::xs)=(x::xs,false):=by rw[g6,aT h,aT (by rw[G];simp)]
def atP (T:bj)(gW:T EM=aG GV){K:fD->a8->Prop}{kg:List iY}(N g r c:Nat)(rows:List cb)(stop:Bool)(v10:I)(dy:ps N rows)(M:r<=N)(Y:c<N)(hd:N<=40)(tm:Nat->I)(m:Mem)
  (aQ:tm 1=.J (.int .i64 N)) (az:tm 2=.J (.bool stop)) (wV:tm 9=.ref 194021 g 5 0 N) (A0:tm 10=v10) (LA:tm 11=.J (.int .i64 r)) (wW:tm 12=.J (.int .i64 c)) (JP:tm 13=.J (.int .i64 r)) (em:m 194021=some (g,aS cG rows))
  (ei:∀tm',tm' 1=.J (.int .i64 N)->tm' 2=.J (.bool stop)->tm' 9=.ref 194021 g 5 0 N->tm' 10=v10->tm' 11=.J (.int .i64 r)->tm' 12=.J (.int .i64 c)->tm' 13=.J (.int .i64 (fT rows r c:Nat))->cO T K kg (.exit 2) ⟨tm',m⟩) :
  wp T (GU.body.te [1,1,1,1,0,1,0,0,0,1,0,0,1,0,0]) (cO T K kg) ⟨tm,m⟩:=by
 simp only[GU,e1.te];refine cX [1,2,9,10,11,12] [] (λ(i:Nat) tm' m'=>r<=i/\i<=N/\(∀j y,r<=j->j<i->rows[j]?=some y->hP (il y c)=true)/\tm' 13=.J (.int .i64 i)/\m'=m) (λi=>N-i) r (by refine⟨c9 _,M,λj y F G=>by omega,JP,rfl⟩) ?_;intro vs ms aK aF;simp only[go_sem,go_sem_proc,aQ,az,wV,A0,LA,wW] at aK aF;subst aK aF;clear aQ az wV A0 LA wW JP tm;rintro i tm m' R-⟨wx,JV,a2,jb,rfl⟩;simp only[go_sem,go_sem_proc,bl] at R;obtain⟨F,G,di,dz,dX,eI⟩:=R;have ag:=dy.1;rcases du (i<N) with aq|bD
 ·obtain⟨⟨A,⟨v1,v2⟩,⟨fg,v4⟩⟩,L⟩:∃x,rows[i]?=some x:=⟨_,bf (by omega)⟩;obtain⟨jG,-⟩:=dy.2 _ (cL L);dsimp only at jG;obtain⟨⟨⟨f1,f2⟩,⟨f3,f4⟩⟩,al⟩:∃f,A[c]?=some f:=⟨_,bf (by omega)⟩;have n5:il (A,((v1,v2),(fg,v4))) c=((f1,f2),(f3,f4)):=agU al;have rp:=agW L;have r8:=agV (l:=rows) (k:=i) (by omega);have d1:decide ((i:Int)<(N:Int))=true:=c7;have DM:c<D A:=by omega
  have bL:=e2 (i:=i) (by omega);rcases lW:(f1==0)
  ·have JX:fT rows r c=i:=atN L wx a2 (by rw[n5];exact lW);rw[JX] at ei;simp only[go_sem,go_sem_proc,gW,F,G,di,dz,dX,eI,jb,em,d1,aq,rp,r8,al,DM,lW,av,aj,bg,lo];refine ei _ ?_ ?_ ?_ ?_ ?_ ?_ ?_<;>simp only[q3,sW,if_false,F,G,di,dz,dX,eI,jb]
  ·simp only[go_sem,go_sem_proc,gW,F,G,di,dz,dX,eI,jb,em,d1,bL,aq,rp,r8,al,DM,lW,av,aj,bg,lo];refine⟨i+1,by omega,by omega,by omega,λj y F G ak=>?_,rfl⟩
   rcases gY j i with h|h
   ·exact a2 j y F h ak
   ·obtain rfl:j=i:=by omega
    rw[L] at ak
    cases ak;rw[n5];exact lW
 ·obtain rfl:i=N:=by omega
  have d1:decide ((i:Int)<(i:Int))=false:=df;have JX:fT rows r c=i:=by rw[atO (by omega) λj y F ak=>a2 j y F (by have:=(dL.1 ak).1;omega) ak,ag]
  rw[JX] at ei;simp only[go_sem,go_sem_proc,F,G,di,dz,dX,eI,jb,em,d1];refine ei _ ?_ ?_ ?_ ?_ ?_ ?_ ?_<;>simp only[q3,sW,if_false,F,G,di,dz,dX,eI,jb]
def atQ (T:bj)(gW:T EM=aG GV)(hV:T Nr=aG Ly){K:fD->a8->Prop}{kg:List iY}(N g r c:Nat)(eC:List cb)(p:cb)(stop:Bool)(v10:I)(Xf:Option (Nat×List I))(dy:ps N eC)(aR:eC[r]?=some p)(Y:c<N)(hd:N<=40)(tm:Nat->I)(m:Mem)
  (aQ:tm 1=.J (.int .i64 N)) (az:tm 2=.J (.bool stop)) (wV:tm 9=.ref 194021 g 5 0 N) (A0:tm 10=v10) (LA:tm 11=.J (.int .i64 r)) (wW:tm 12=.J (.int .i64 c)) (J2:tm 17=.J (.int .i64 0)) (em:m 194021=some (g,aS cG eC)) (ag1:m 194050=Xf)
  (ei:(g6 p r c 0 eC).2=true->∀tm' m',tm' 1=.J (.int .i64 N)->tm' 2=.J (.bool stop)->tm' 9=.ref 194021 g 5 0 N->tm' 10=v10->tm' 11=.J (.int .i64 r)->tm' 12=.J (.int .i64 c)->m' 194021=some (g,aS cG (g6 p r c 0 eC).1)->m' 194050=Xf->cO T K kg (.exit 4) ⟨tm',m'⟩)
  (ek:(g6 p r c 0 eC).2=false->∀tm' m',tm' 6=.ref 194021 g 5 0 N->tm' 7=v10->tm' 8=.J (.bool false)->m' 194021=some (g,aS cG (g6 p r c 0 eC).1)->m' 194050=Xf->cO T K kg .ret ⟨tm',m'⟩) :
  wp T (GU.body.te [1,1,1,1,0,1,0,0,0,1,0,0,1,1,1,1,1,1,1,1,1,0,1,0]) (cO T K kg) ⟨tm,m⟩:=by
 simp only[GU,e1.te];refine cX [1,2,9,10,11,12] [194050] (λ((i,pre):Nat×List cb) tm' m'=>i<=N/\D pre=i/\(∀x∈pre,x.1.length=N/\lD x)/\(r<i->pre[r]?=some p)/\g6 p r c 0 eC=(pre++(g6 p r c i (eC.drop i)).1,(g6 p r c i (eC.drop i)).2)/\tm' 17=.J (.int .i64 i)/\m' 194021=some (g,aS cG (pre++eC.drop i))) (λ(i,_)=>N-i) (0,[]) (by refine⟨dG _,rfl,by simp,λh=>by omega,by simp,J2,by simpa using em⟩) ?_;intro vs ms aK aF;simp only[go_sem,go_sem_proc,aQ,az,wV,A0,LA,wW,ag1] at aK aF;subst aK aF;clear aQ az wV A0 LA wW J2 em ag1 tm m;rintro⟨i,pre⟩ tm m R hm ⟨JV,ix,yE,zs,Ha,h0,qJ⟩;simp only[go_sem,go_sem_proc,bl] at R hm;obtain⟨F,G,di,dz,dX,eI⟩:=R;have ag:=dy.1;rcases du (i<N) with aq|bD
 ·obtain⟨⟨A,⟨v1,v2⟩,⟨fg,v4⟩⟩,L⟩:∃x,eC[i]?=some x:=⟨_,bf (by omega)⟩;obtain⟨jG,mE⟩:=dy.2 _ (cL L);dsimp only at jG
  have k3:eC.drop i=(A,((v1,v2),(fg,v4)))::eC.drop (i+1):=by
   obtain⟨nD,e⟩:=dL.1 L;rw[gx nD,e]
  have zl:(pre++eC.drop i)[i]?=some (A,((v1,v2),(fg,v4))):=by rw[r4 (by omega),ix,hG,k3];rfl
  have eb:(pre++eC.drop i).length=N:=by rw[ks,pG];omega
  have d1:decide ((i:Int)<(N:Int))=true:=c7;have bL:=e2 (i:=i) (by omega)
  have AH:(i==r||hP (il (A,((v1,v2),(fg,v4))) c))=true->∃a3:Nat×List cb,N-a3.1<N-i/\a3.1<=N/\a3.2.length=a3.1/\(∀x∈a3.2,x.1.length=N/\lD x)/\(r<a3.1->a3.2[r]?=some p)/\g6 p r c 0 eC=(a3.2++(g6 p r c a3.1 (eC.drop a3.1)).1,(g6 p r c a3.1 (eC.drop a3.1)).2)/\I.J (.int .i64 ((i+1:Nat):Int))=I.J (.int .i64 (a3.1:Nat))/\some (g,aS cG (pre++eC.drop i))=some (g,aS cG (a3.2++eC.drop a3.1)):=by
   intro Q;refine⟨(i+1,pre++[(A,((v1,v2),(fg,v4)))]),by dsimp only;omega,by dsimp only;omega,by simp[ix],λx oO=>?_,λh=>?_,?_,rfl,?_⟩
   ·rcases h5.1 oO with h|h
    ·exact yE x h
    ·rw[sE] at h;rw[h];exact⟨jG,mE⟩
   ·dsimp only at h ⊢;rcases gY r i with cI|cI
    ·rw[uQ (by omega)];exact zs cI
    ·obtain rfl:r=i:=by omega
     rw[r4 (by omega),ix,hG];rw[aR] at L;rw[mm L];rfl
   ·dsimp only;rw[Ha,k3,agY Q,ki]
    rfl
   ·dsimp only;rw[k3,ki];rfl
  by_cases y0:i=r
  ·have U:((i:Int)==(r:Int))=true:=by rw[beq_iff_eq];omega
   simp only[go_sem,go_sem_proc,F,G,di,dz,dX,eI,h0,hm,qJ,d1,bL,U];exact AH (by rw[show (i==r)=true by simpa using y0];rfl)
  have U:((i:Int)==(r:Int))=false:=by rw[beq_eq_false_iff_ne];omega
  obtain⟨⟨⟨f1,f2⟩,⟨f3,f4⟩⟩,al⟩:∃f,A[c]?=some f:=⟨_,bf (by omega)⟩;have n5:il (A,((v1,v2),(fg,v4))) c=((f1,f2),(f3,f4)):=agU al;have rp:=agW zl;have r8:=agV (l:=pre++eC.drop i) (k:=i) (by omega);have DM:c<D A:=by omega
  rcases lW:(f1==0)
  case true =>
   simp only[go_sem,go_sem_proc,gW,F,G,di,dz,dX,eI,h0,hm,qJ,d1,bL,U,aq,rp,r8,al,DM,lW,av,aj,bg,lo];exact AH (by rw[n5,show hP ((f1,f2),(f3,f4))=true from lW,Bool.or_true])
  have nw:r<N:=by have:=(dL.1 aR).1;omega
  have oZ:(pre++eC.drop i)[r]?=some p:=by
   rcases gY r i with cI|cI
   ·rw[uQ (by omega)];exact zs cI
   ·rw[r4 (by omega),oI,ix,show i+(r-i)=r by omega];exact aR
  obtain⟨atS,AE⟩:=dy.2 _ (cL aR);have yd:=atK (A,((v1,v2),(fg,v4))) p c ⟨mE,AE,by dsimp only;omega,by dsimp only;omega,DM⟩
  have mb:=agX (N:=N) (x:=(A,((v1,v2),(fg,v4)))) (y:=p) ⟨jG,mE⟩ atS c;dsimp only at yd;rw[jG] at yd;obtain⟨P,⟨jn,gI⟩,⟨sV,uo⟩⟩:=p;rcases oh:pr (A,((v1,v2),(fg,v4))) (P,((jn,gI),(sV,uo))) c with ⟨⟨p9,⟨dA,dJ⟩,⟨ep,eB⟩⟩,ok⟩;rw[oh] at yd mb;simp only[cG,av] at yd;have Ii:=G9 zl;have ag2:=G9 oZ;have mz:=G8 (l:=pre++eC.drop i) (k:=i) (by omega);have yN:=G8 (l:=pre++eC.drop i) (k:=r) (by omega)
  have BH:¬ ((i==r||hP (il (A,((v1,v2),(fg,v4))) c))=true):=by
   rw[n5,show hP ((f1,f2),(f3,f4))=false from lW,Bool.or_false]
   simpa using y0
  cases ok
  ·have sM:g6 (P,((jn,gI),(sV,uo))) r c 0 eC=(pre++eC.drop i,false):=by
    rw[Ha,k3,ag0 BH (by rw[oh])]
   rw[sM] at ek;simp only[go_sem,go_sem_proc,gW,hV,F,G,di,dz,dX,eI,h0,hm,qJ,d1,bL,U,aq,nw,rp,r8,al,DM,lW,Ii,ag2,mz,yN,yd,cG,av,aj,bg,lo,dc];refine ek rfl _ _ ?_ ?_ ?_ ?_ ?_<;>first|rfl|(simp[di,dz];done)|(simp[aV,qJ,hm];done)
  ·have NY:=QF (l:=pre++eC.drop i) (k:=i) (by omega) p9 dA dJ ep eB
   have vg:(pre++eC.drop i).set i (p9,((dA,dJ),(ep,eB)))=(pre++[(p9,((dA,dJ),(ep,eB)))])++eC.drop (i+1):=by
    rw[Az _ _ (by omega),ix,hG,k3,qM,ki]
    rfl
   rw[vg] at NY;simp only[go_sem,go_sem_proc,gW,hV,F,G,di,dz,dX,eI,h0,hm,qJ,d1,bL,U,aq,nw,rp,r8,al,DM,lW,Ii,ag2,mz,yN,yd,NY,cG,av,aj,bg,lo,bl,c2];refine⟨(i+1,pre++[(p9,((dA,dJ),(ep,eB)))]),by dsimp only;omega,by dsimp only;omega,by simp[ix],λx oO=>?_,λh=>?_,?_,rfl,rfl⟩
   ·rcases h5.1 oO with h|h
    ·exact yE x h
    ·rw[sE] at h;rw[h];exact mb
   ·dsimp only at h ⊢;rw[uQ (by omega)];exact zs (by omega)
   ·dsimp only;rw[Ha,k3,agZ BH (by rw[oh]),oh,ki]
    rfl
 ·obtain rfl:i=N:=by omega
  have d1:decide ((i:Int)<(i:Int))=false:=df;have kH:eC.drop i=[]:=lj (by omega);rw[kH] at qJ Ha;simp only[g6,mX] at Ha qJ;rw[Ha] at ei;simp only[go_sem,go_sem_proc,F,G,di,dz,dX,eI,h0,hm,qJ,d1];refine ei rfl _ _ ?_ ?_ ?_ ?_ ?_ ?_ qJ hm<;>simp only[q3,sW,if_false,F,G,di,dz,dX,eI,h0]
def qX (n:Nat):List Data:=[.int .i64 n]
def QH (n:Nat):(qX n).length=1:=rfl
def atT (n:Nat):((qX n).map I.J).all I.one=true:=rfl
def ag3 {stop:Bool}{k c r:Nat}{rows:List cb}{free:List Nat}(h:fT rows r c=D rows):nd stop (k+1) c rows r free=if stop=true then (rows,free++[c],true) else nd stop k (c+1) rows r (free++[c]):=by rw[nd,aL h]
def ag4 {stop:Bool}{k c r:Nat}{rows:List cb}{free:List Nat}{gD:List cb}{x:cb}(h:fT rows r c≠(D rows))(Q:lL rows r (fT rows r c)=gD)(L:qW gD r=x):nd stop (k+1) c rows r free =
  if (iS x c).2=true then (if (g6 (iS x c).1 r c 0 (gD.set r (iS x c).1)).2=true then nd stop k (c+1) (g6 (iS x c).1 r c 0 (gD.set r (iS x c).1)).1 (r+1) free else ((g6 (iS x c).1 r c 0 (gD.set r (iS x c).1)).1,free,false)) else (gD,free,false):=by rw[nd,aT h,Q,L]
def DN (X:List cb×List Nat×Bool):Data:=.dq [.ar (X.1.map cG),.ar (X.2.1.map qX),.bool X.2.2]
def Xg (rows:List cb)(r c:Nat)(M:r<=D rows):r<=fT rows r c/\fT rows r c<=D rows:=by
 unfold fT;have:=List.findIdx_le_length (p:=λx => !hP (il x c)) (xs:=rows.drop r);rw[pG] at this;omega
abbrev QI:(List cb)×Bool->List Data:=λ(rs,stop)=>[.ar (rs.map cG),.int .i64 (D rs:Nat),.bool stop]
def LB:=bI QI λ(rs,stop)=>ca (ps (D rs) rs/\D rs<=40) (.same (DN (nd stop (D rs) 0 rs 0 [])))
def atU:∀a b,QI a=QI b->a=b:=by
  rintro⟨Oz,apD⟩ ⟨OA,apE⟩ h;simp only[bl,Data.ar.injEq,Data.bool.injEq] at h;exact cz (map_inj Ax _ _ h.1) h.2.2.1
@[go_sem] def atV (rs stop):=cl LB rfl atU (rs,stop) rfl
def atW (T:bj)(iT:T SQ=aG Qx)(gW:T EM=aG GV)(iU:T SR=aG QA)(hV:T Nr=aG Ly):WF T GU LB:=by
 refine b7 λ(rs,stop)=>cq λY=>⟨rfl,b6 ?_⟩;simp only[GU,QI,bX];obtain⟨dy,hd⟩:=Y;have atX:qK rs:=⟨by omega,λr M=>(dy.2 r M).2⟩
 have Fh:=atB rs ⟨by omega,atX⟩
 have nG:((rs.map cG).flatten.map I.J)=aS cG rs:=rfl;have T0:nd stop (D rs) 0 rs 0 []=nd stop (D rs) 0 rs 0 []:=rfl;generalize ag5:(D rs)=N at *;generalize atY:nd stop N 0 rs 0 []=db at T0 ⊢;simp only[go_sem,go_sem_proc,iT,gW,iU,hV,Fh,nG,aj,ag5];refine cX [1,2,9] [] (λ((c,r,mc,rows,free):Nat×Nat×Nat×List cb×List Nat) tm m=>c<=N/\r+D free=c/\ps N rows/\db=nd stop (N-c) c rows r free/\tm 12=.J (.int .i64 c)/\tm 11=.J (.int .i64 r)/\tm 10=.ref 194050 mc 1 0 (D free)/\m 194021=some (0,aS cG rows)/\m 194050=some (mc,aS qX free)) (λ(c,_)=>N-c) (0,0,0,rs,[]) (by refine⟨dG _,rfl,dy,?_,rfl,rfl,rfl,?_,?_⟩<;>first|exact atY.symm|rfl) ?_
 intro vs ms aK aF;simp only[go_sem,go_sem_proc,iT,gW,iU,hV,Fh,nG,aj,ag5] at aK aF;subst aK aF;rintro⟨c,r,mc,rows,free⟩ tm m R-⟨o4,wj,Hb,dO,eI,dX,dz,fw,n1⟩;simp only[go_sem,go_sem_proc,iT,gW,iU,hV,bl] at R;obtain⟨F,G,di⟩:=R;have ag:=Hb.1;rcases du (c<N) with aq|bD
 ·have d1:decide ((c:Int)<(N:Int))=true:=c7;have bL:=e2 (i:=c) (by omega);have ht:=e2 (i:=r) (by omega);obtain⟨k,R⟩:∃k,N-c=k+1:=⟨N-c-1,by omega⟩
  rw[R] at dO;simp only[go_sem,go_sem_proc,iT,gW,iU,hV,F,G,di,dz,dX,eI,d1];refine QG (λtm m=>tm 1=.J (.int .i64 N)/\tm 2=.J (.bool stop)/\tm 9=.ref 194021 0 5 0 N/\tm 10=.ref 194050 mc 1 0 (D free)/\tm 11=.J (.int .i64 r)/\tm 12=.J (.int .i64 c)/\m 194021=some (0,aS cG rows)/\m 194050=some (mc,aS qX free)) (by refine⟨?_,?_,?_,?_,?_,?_,?_,?_⟩<;>first|rfl|assumption|simp only[go_sem,go_sem_proc,iT,gW,iU,hV,F,G,di,dz,dX,eI]) ?_
  clear F G di dz dX eI fw n1 tm m;rintro tm m ⟨F,G,di,dz,dX,eI,fw,n1⟩;simp only[go_sem,go_sem_proc,iT,gW,iU,hV,dX];refine atP T gW N 0 r c rows stop (.ref 194050 mc 1 0 (D free)) Hb (by omega) aq hd _ _ ?_ ?_ ?_ ?_ ?_ ?_ ?_ ?_ ?_
  ·simp only[go_sem,go_sem_proc,iT,gW,iU,hV,F]
  ·simp only[go_sem,go_sem_proc,iT,gW,iU,hV,G]
  ·simp only[go_sem,go_sem_proc,iT,gW,iU,hV,di]
  ·simp only[go_sem,go_sem_proc,iT,gW,iU,hV,dz]
  ·simp only[go_sem,go_sem_proc,iT,gW,iU,hV,dX]
  ·simp only[go_sem,go_sem_proc,iT,gW,iU,hV,eI]
  ·rfl
  ·exact fw
  intro tm' bo c5 pO hN lu lx Ck;have ha:=Xg rows r c (by omega);rw[ag] at ha;simp only[go_sem,go_sem_proc,iT,gW,iU,hV];refine QG (λtm m=>tm 1=.J (.int .i64 N)/\tm 2=.J (.bool stop)/\tm 9=.ref 194021 0 5 0 N/\tm 10=.ref 194050 mc 1 0 (D free)/\tm 11=.J (.int .i64 r)/\tm 12=.J (.int .i64 c)/\tm 13=.J (.int .i64 (fT rows r c:Nat))/\m 194021=some (0,aS cG rows)/\m 194050=some (mc,aS qX free)) ⟨bo,c5,pO,hN,lu,lx,Ck,fw,n1⟩ ?_;clear F G di dz dX eI bo c5 pO hN lu lx Ck fw n1 tm tm' m;rintro tm m ⟨F,G,di,dz,dX,eI,jb,fw,n1⟩
  by_cases al:fT rows r c=N
  ·have d2:((((fT rows r c:Nat):Int))==(N:Int))=true:=by rw[beq_iff_eq];omega
   have c1:=lq QH atT 194050 mc 8 free c (cs:=[.J (.int .i64 c)]) rfl (by omega) (by omega);rw[ag3 (by rw[ag];exact al)] at dO
   cases stop
   ·rw[aT (by simp)] at dO;simp only[go_sem,go_sem_proc,iT,gW,iU,hV,F,G,di,dz,dX,eI,jb,fw,n1,d2,c1,bL];exact⟨(c+1,r,mc+1,rows,free++[c]),by dsimp only;omega,by dsimp only;omega,by simp;omega,Hb,by dsimp only;rw[dO,show N-(c+1)=k by omega],rfl,rfl,by simp,rfl,rfl⟩
   ·rw[aL rfl] at dO
    have uu:∀n (m:Mem),m 194021=some (0,aS cG rows)->cN (n+1) m (.ref 194021 0 5 0 N)=some (.ar (rows.map cG)):=λn m hm=>by
     have:=jV (n:=n) m6 hm;rwa [ag] at this
    have uv:∀n (m:Mem),m 194050=some (mc+1,aS qX (free++[c]))->cN (n+1) m (.ref 194050 (mc+1) 1 0 (D free+1))=some (.ar ((free++[c]).map qX)):=λn m hm=>by
     have:=jV (n:=n) QH hm;rwa [ks,List.length_singleton] at this
    rw[dO];simp only[go_sem,go_sem_proc,iT,gW,iU,hV,F,G,di,dz,dX,eI,jb,fw,n1,d2,c1,DN];rw[uu 4 _ (by simp[aV,fw]),uv 4 _ (by simp[aV])]
    rfl
  ·have d2:((((fT rows r c:Nat):Int))==(N:Int))=false:=by rw[beq_eq_false_iff_ne];omega
   generalize Q:fT rows r c=s at *;have A7:s<N:=by omega
   have nw:r<N:=by omega
   obtain⟨⟨p9,⟨dA,dJ⟩,⟨ep,eB⟩⟩,L⟩:∃x,rows[s]?=some x:=⟨_,bf (by omega)⟩;obtain⟨⟨LC,⟨og,qC⟩,⟨DH,DI⟩⟩,ak⟩:∃x,rows[r]?=some x:=⟨_,bf (by omega)⟩
   have vA:lL rows r (fT rows r c)=(rows.set r (p9,((dA,dJ),(ep,eB)))).set s (LC,((og,qC),(DH,DI))):=by
    unfold lL;rw[Q,A6 L,A6 ak]
   have sX:((rows.set r (p9,((dA,dJ),(ep,eB)))).set s (LC,((og,qC),(DH,DI))))[r]?=some (p9,((dA,dJ),(ep,eB))):=by
    rw[lF,lF,fk]
    by_cases h:s=r
    ·subst h;rw[L] at ak;rw[aL rfl,aL (by omega)];exact ak.symm
    ·rw[aT h,aL rfl,aL (by omega)]
   have hr:=Hb.2 _ (cL L);have ag6:ps N ((rows.set r (p9,((dA,dJ),(ep,eB)))).set s (LC,((og,qC),(DH,DI)))):=(Hb.set hr).set (Hb.2 _ (cL ak));rw[ag4 (by rw[Q,ag];exact al) vA (A6 sX)] at dO;have fy:=G9 L;have ag7:=G9 ak;have yV:=G8 (l:=rows) (k:=s) (by omega);have Aw:=G8 (l:=rows) (k:=r) (by omega);have s1:=QF (l:=rows) (k:=r) (by omega) p9 dA dJ ep eB;have ag8:=G8 (l:=rows.set r (p9,((dA,dJ),(ep,eB)))) (k:=s) (by rw[fk];omega);have s2:=QF (l:=rows.set r (p9,((dA,dJ),(ep,eB)))) (k:=s) (by rw[fk];omega) LC og qC DH DI;generalize aBT:(rows.set r (p9,((dA,dJ),(ep,eB)))).set s (LC,((og,qC),(DH,DI)))=gD at *;have zM:=ag6.1;simp only[go_sem,go_sem_proc,iT,gW,iU,hV,F,G,di,dz,dX,eI,jb,fw,n1,d2];refine QG (λtm m=>tm 1=.J (.int .i64 N)/\tm 2=.J (.bool stop)/\tm 9=.ref 194021 0 5 0 N/\tm 10=.ref 194050 mc 1 0 (D free)/\tm 11=.J (.int .i64 r)/\tm 12=.J (.int .i64 c)/\tm 13=.J (.int .i64 s)/\m 194021=some (0,aS cG rows)/\m 194050=some (mc,aS qX free)) (by refine⟨?_,?_,?_,?_,?_,?_,?_,?_,?_⟩<;>first|rfl|assumption|simp only[go_sem,go_sem_proc,iT,gW,iU,hV,F,G,di,dz,dX,eI,jb]) ?_
   clear F G di dz dX eI jb fw n1 tm m;rintro tm m ⟨F,G,di,dz,dX,eI,jb,fw,n1⟩;have ag9:=G9 sX;have aha:=G8 (l:=gD) (k:=r) (by omega);have q5:(D p9)=N:=hr.1;have oi:=atG (p9,((dA,dJ),(ep,eB))) c ⟨hr.2,by dsimp only;omega,by dsimp only;omega⟩
   have gO:=Xd hr c;dsimp only at oi;rw[q5] at oi;rcases oh:iS (p9,((dA,dJ),(ep,eB))) c with ⟨⟨A8,⟨aQ,az⟩,⟨eT,iA⟩⟩,ok⟩;rw[oh] at oi gO dO;simp only[cG,av] at oi;simp only[go_sem,go_sem_proc,iT,gW,iU,hV,F,G,di,dz,dX,eI,jb,fw,n1,A7,nw,fy,ag7,yV,Aw,s1,ag8,s2,ag9,aha,oi,lo];refine QG (λtm m=>tm 1=.J (.int .i64 N)/\tm 2=.J (.bool stop)/\tm 9=.ref 194021 0 5 0 N/\tm 10=.ref 194050 mc 1 0 (D free)/\tm 11=.J (.int .i64 r)/\tm 12=.J (.int .i64 c)/\tm 16=.J (.bool ok)/\m 194021=some (0,aS cG gD)/\m 194050=some (mc,aS qX free)/\∃q,tm 15=.ptr 194015 q 0/\m 194015=some (q,[.J (.ar (A8.map av)),.J (.int .i64 aQ),.J (.ar (az.map aI)),.J (.int .i64 eT),.J (.ar (iA.map aI))])) (by refine⟨?_,?_,?_,?_,?_,?_,?_,?_,?_,gM (m 194015),?_,?_⟩<;>first|rfl|assumption|simp only[go_sem,go_sem_proc,iT,gW,iU,hV,F,G,di,dz,dX,eI,n1]) ?_
   clear F G di dz dX eI jb fw n1 tm m fy ag7 yV Aw s1 ag8 s2 ag9 oi;rintro tm m ⟨F,G,di,dz,dX,eI,my,fw,n1,q,wX,atZ⟩
   have uu:∀(rows:List cb),D rows=N->∀n (m:Mem),m 194021=some (0,aS cG rows)->cN (n+1) m (.ref 194021 0 5 0 N)=some (.ar (rows.map cG)):=λrows ag n m hm=>by
    have:=jV (n:=n) m6 hm;rwa [ag] at this
   have uv:∀n (m:Mem),m 194050=some (mc,aS qX free)->cN (n+1) m (.ref 194050 mc 1 0 (D free))=some (.ar (free.map qX)):=λn m hm=>jV (n:=n) QH hm
   cases ok
   ·rw[aT (by simp)] at dO;rw[dO];simp only[go_sem,go_sem_proc,iT,gW,iU,hV,F,G,di,dz,dX,eI,my,fw,n1,DN,dc];rw[uu gD zM 4 _ fw,uv 4 _ n1]
    rfl
   ·rw[aL rfl] at dO;have bU:=QF (l:=gD) (k:=r) (by omega) A8 aQ az eT iA;have LD:=ag6.set (i:=r) gO;have at0:(gD.set r (A8,((aQ,az),(eT,iA))))[r]?=some (A8,((aQ,az),(eT,iA))):=by rw[lF,aL rfl,aL (by omega)]
    simp only[go_sem,go_sem_proc,iT,gW,iU,hV,F,G,di,dz,dX,eI,my,wX,atZ,fw,n1,nw,aha,bU,c2];refine atQ T gW hV N 0 r c (gD.set r (A8,((aQ,az),(eT,iA)))) (A8,((aQ,az),(eT,iA))) stop (.ref 194050 mc 1 0 (D free)) (some (mc,aS qX free)) LD at0 aq hd _ _ ?_ ?_ ?_ ?_ ?_ ?_ ?_ ?_ ?_ ?_ ?_
    ·simp only[go_sem,go_sem_proc,iT,gW,iU,hV,F]
    ·simp only[go_sem,go_sem_proc,iT,gW,iU,hV,G]
    ·simp only[go_sem,go_sem_proc,iT,gW,iU,hV,di]
    ·simp only[go_sem,go_sem_proc,iT,gW,iU,hV,dz]
    ·simp only[go_sem,go_sem_proc,iT,gW,iU,hV,dX]
    ·simp only[go_sem,go_sem_proc,iT,gW,iU,hV,eI]
    ·rfl
    ·simp only[go_sem,go_sem_proc,iT,gW,iU,hV]
    ·simp only[go_sem,go_sem_proc,iT,gW,iU,hV,n1]
    ·intro sM tm' m' bo c5 pO hN lu lx mW QJ;rw[sM,aL rfl] at dO;have mb:=Lz (p:=(A8,((aQ,az),(eT,iA)))) (r:=r) (c:=c) gO.1 0 _ LD.2;simp only[go_sem,go_sem_proc,iT,gW,iU,hV,bo,c5,pO,hN,lu,lx,mW,QJ,bL,ht];exact⟨(c+1,r+1,mc,_,free),by dsimp only;omega,by dsimp only;omega,by dsimp only;omega,⟨mb.1.trans LD.1,mb.2⟩,by dsimp only;rw[dO,show N-(c+1)=k by omega],rfl,rfl,rfl,rfl,rfl⟩
    ·intro sM tm' m' dp eE fR mW QJ;rw[sM,aT (by simp)] at dO;have mb:=Lz (p:=(A8,((aQ,az),(eT,iA)))) (r:=r) (c:=c) gO.1 0 _ LD.2;rw[dO];simp only[go_sem,go_sem_proc,iT,gW,iU,hV,dp,eE,fR,mW,QJ,DN];rw[uu _ (mb.1.trans LD.1) 4 _ mW,uv 4 _ QJ]
     rfl
 ·obtain rfl:c=N:=by omega
  have d1:decide ((c:Int)<(c:Int))=false:=df
  have uu:∀n (m:Mem),m 194021=some (0,aS cG rows)->cN (n+1) m (.ref 194021 0 5 0 c)=some (.ar (rows.map cG)):=λn m hm=>by
   have:=jV (n:=n) m6 hm;rwa [ag] at this
  have uv:∀n (m:Mem),m 194050=some (mc,aS qX free)->cN (n+1) m (.ref 194050 mc 1 0 (D free))=some (.ar (free.map qX)):=λn m hm=>jV (n:=n) QH hm;rw[hG] at dO;simp only[nd] at dO;rw[dO];simp only[go_sem,go_sem_proc,iT,gW,iU,hV,F,G,di,dz,dX,eI,d1,DN];rw[uu 4 _ fw,uv 4 _ n1]
  rfl
def ahb {rs:List cb}{n:Int}(a6:qK rs)(h:nV rs n=true):n=(D rs:Nat)/\D rs<=40/\ps (D rs) rs:=by
 obtain⟨F,G,ad⟩:=J8 a6 h;exact⟨F.symm,G,rfl,ad⟩
def QK {N:Nat}(stop:Bool):∀(k c:Nat) (rows:List cb) (r:Nat) (free:List Nat),c+k=N->r<=c->ps N rows->ps N (nd stop k c rows r free).1
 |0,c,rows,r,free,_,_,h=>h
 |k+1,c,rows,r,free,Y,wj,h=>by
  have ag:=h.1;unfold nd
  split
  ·split
   ·exact h
   ·exact QK stop k (c+1) rows r _ (by omega) (by omega) h
  ·rename_i bq
   have gK:∀i,i<(D rows)->qW rows i∈rows:=λi ab=>by
    have L:rows[i]?=some rows[i]:=bf ab;rw[A6 L];exact hb ab
   have M:r<D rows:=by omega
   have hle:=Xg rows r c (by omega);have Q:fT rows r c<D rows:=by omega
   have vA:ps N (lL rows r (fT rows r c)):=by
    unfold lL;exact (h.set (h.2 _ (gK _ Q))).set (h.2 _ (gK _ M))
   have zM:(lL rows r (fT rows r c)).length=D rows:=by unfold lL;rw[fk,fk]
   have lH:qW (lL rows r (fT rows r c)) r∈lL rows r (fT rows r c):=by
    have L:(lL rows r (fT rows r c))[r]?=some _:=bf (by omega);rw[A6 L];exact hb _
   have af:=Xd (vA.2 _ lH) c
   split
   ·have oi:=vA.set (i:=r) af;have mb:=Lz (p:=(iS (qW (lL rows r (fT rows r c)) r) c).1) (r:=r) (c:=c) af.1 0 _ oi.2
    split
    ·exact QK stop k (c+1) _ (r+1) free (by omega) (by omega) ⟨mb.1.trans oi.1,mb.2⟩
    ·exact⟨mb.1.trans oi.1,mb.2⟩
   ·exact vA
def rP (stop:Bool)(rs:List cb):List cb×List Nat×Bool:=nd stop (D rs) 0 rs 0 []
def LF (rs:List cb)(n:Int):List ax×Int:=if nV rs n=true then (if (rP true rs).2.2=true then (if (rP true rs).2.1.length>0 then ([],17) else ((rP true rs).1.map (·.2),0)) else ([],6)) else ([],1)
def LG:=bI w9 λ(rs,n)=>ca (qK rs) (.same (.dq [.ar ((LF rs n).1.map av),.int .i64 (LF rs n).2]))
@[go_sem] def ahc (rs n):=cl LG rfl OD (rs,n) rfl
def at1 (T:bj)(A9:T SN=aG Qt)(Ba:T SO=aG LB):WF T agc LG:=by
 refine b7 λ(rs,n)=>cq λY=>⟨rfl,b6 ?_⟩;simp only[agc,w9,bX];unfold LF;rcases M:nV rs n
 ·simp only[go_sem,go_sem_proc,A9,Ba,Y,M,dc,bP]
 ·obtain⟨rfl,hd,dy⟩:=ahb Y M;have ek:=atV rs true ⟨dy,hd⟩;have mb:=QK true (D rs) 0 rs 0 [] (by omega) (by omega) dy
  change LB [.ar (rs.map cG),.int .i64 (D rs:Nat),.bool true]=some (.same (DN (rP true rs))) at ek
  change ps (D rs) (rP true rs).1 at mb
  rcases dV:rP true rs with ⟨rows,free,ok⟩;rw[dV] at mb ek;dsimp only at mb;simp only[DN] at ek;have b9:=mb.1
  cases ok
  ·simp only[go_sem,go_sem_proc,A9,Ba,Y,M,ek,aj,c2,dc,bP]
  ·cases free with
   |cons f dB =>
    have kE:decide ((((f::dB).length:Nat):Int)>0)=true:=mL (by simp only[lQ];omega);simp only[lQ] at kE;simp only[go_sem,go_sem_proc,A9,Ba,Y,M,ek,kE,aj,c2,dc,bP];rw[aL (by simp)]
    all_goals rfl
   |nil =>
    simp only[go_sem,go_sem_proc,A9,Ba,Y,M,ek,aj,show decide (((0:Nat):Int)>0)=false from rfl,bP,mV,c2,dc];rw[aT (by simp)];refine cX [1,6] [] (λ((i,g):Nat×Nat) tm m=>i<=D rs/\tm 10=.J (.int .i64 i)/\tm 9=.ref 189039 g 4 0 i/\m 189039=some (g,aS av ((rows.take i).map (·.2)))) (λ(i,_)=>D rs-i) (0,0) (by refine⟨dG _,rfl,rfl,rfl⟩) ?_;intro vs ms aK aF;simp only[go_sem,go_sem_proc,A9,Ba] at aK aF;subst aK aF;rintro⟨i,g⟩ tm m R-⟨JV,dz,di,Xh⟩;simp only[go_sem,go_sem_proc,A9,Ba,bl] at R;obtain⟨F,bA⟩:=R;rcases du (i<D rs) with aq|bD
    ·obtain⟨⟨A,⟨dx,dW⟩,⟨hR,jf⟩⟩,L⟩:∃x,rows[i]?=some x:=⟨_,bf (by omega)⟩;have k5:((rows.take i).map (·.2)).length=i:=by rw[aj,gk];omega
     have c1:=lq jt vm 189039 g 64 ((rows.take i).map (·.2)) ((dx,dW),(hR,jf)) (cs:=[.J (.int .i64 dx),.J (.ar (dW.map aI)),.J (.int .i64 hR),.J (.ar (jf.map aI))]) rfl (by omega) (by omega);rw[k5] at c1
     have Ka:(rows.take i).map (·.2)++[((dx,dW),(hR,jf))]=(rows.take (i+1)).map (·.2):=by
      rw[ho,L,pT];rfl
     rw[Ka] at c1;have d1:decide ((i:Int)<(D rs:Int))=true:=c7;have bL:=e2 (i:=i) (by omega);simp only[go_sem,go_sem_proc,A9,Ba,F,bA,di,dz,Xh,L,c1,d1,bL,cG,av,aj,bg];exact⟨(i+1,g+1),by dsimp only;omega,by dsimp only;omega,rfl,rfl,rfl⟩
    ·obtain rfl:i=D rs:=by omega
     have d1:decide ((D rs:Int)<(D rs:Int))=false:=df;have cZ:rows.take (D rs)=rows:=dF (by omega);rw[cZ] at Xh
     have eA:∀n,cN (n+1) m (.ref 189039 g 4 0 (D rs))=some (.ar ((rows.map (·.2)).map av)):=λn=>by
      have:=jV (n:=n) jt Xh;rw[show (rows.map (·.2)).length=(D rs) by rw[aj];omega] at this
      exact this
     have at2:=eA 4;simp only[go_sem,go_sem_proc,A9,Ba,F,bA,di,dz,d1];rw[at2]
     rfl

def k9 (r:cb):List ax:=r.1++[r.2]
def lM (X:List dn)(bH:List cb):Prop:=X.map (·.2.2)=bH.map k9
def lM.len {X:List dn}{bH:List cb}(h:lM X bH):(D X)=D bH:=by
 have:=congrArg D h
 simpa using this
def lM.at_ {X:List dn}{bH:List cb}(h:lM X bH){i:Nat}{x:dn}{r:cb}(L:X[i]?=some x)(M:bH[i]?=some r):x.2.2=k9 r:=by
 have:=congrArg (λl:List (List ax)=>l[i]?) h;simp only[bg,L,M,kU,bO] at this;exact this
def Xi {N c:Nat}{x:dn}{r:cb}(h:x.2.2=k9 r)(ag:r.1.length=N)(Y:c<N):cellOf x c=il r c:=by
 unfold cellOf il;rw[h,dH,dH];unfold k9;rw[uQ (by omega)]
def Xj {α:Type}{op:α->ax×Int}{e:α->ax}:∀l:List α,(ma op e l).2=l.all λa=>(op a).2==0
 | []=>rfl
 |a::r=>by
  unfold ma;rw[u3];rcases h:((op a).2==0)
  ·rfl
  ·simp only[if_true,e0];exact Xj r
def ahd {α:Type}{op:α->ax×Int}{e:α->ax}{l:List α}(h:(l.all λa=>(op a).2==0)=true):(ma op e l).1=l.map λa=>(op a).1:=by
 rw[Qy λa bc=>by have:=List.all_eq_true.1 h a bc;simpa using this]
def at3 {α:Type}(f:α->Int)(l:List α):(l.any λa=>f a != 0) = !(l.all λa=>f a==0):=by
 rw[List.not_all_eq_any_not]
 rfl
def at4 (r:cb)(c:Nat):(j3 (il r c) (k9 r)).2 = !(iS r c).2/\((iS r c).2=true->(j3 (il r c) (k9 r)).1=k9 (iS r c).1):=by
 have Y:r.1.getD c bC=il r c:=rfl;unfold j3 iS k9;rw[Y,at3,Di,Xj];rcases h:(r.1.all λa=>(fL a (il r c)).2==0)
 ·simp
 ·rw[ahd h];simp
def ahe (a f b:ax):((iR a f b).2==0)=((iC f b).2==0&&(kn a (iC f b).1).2==0):=by
 unfold iR;rcases h:((iC f b).2==0)
 ·simp only[cE,if_false,eO,h]
 ·simp only[if_true,e0]
def at5 {a f b:ax}(h:((iR a f b).2==0)=true):(iR a f b).1=(kn a (iC f b).1).1:=by
 rw[ahe,ff] at h;unfold iR;rw[aL h.1]
def ahf (f:ax):∀(l p:List ax),D l=(D p)->(jE f l p false).2 = !((l.zip p).all λa=>(iR a.1 f a.2).2==0)/\(((l.zip p).all λa=>(iR a.1 f a.2).2==0)=true->(jE f l p false).1=(l.zip p).map λa=>(iR a.1 f a.2).1)
 | [],[],_=>by simp[jE]
 |a::l,[],h=>by simp at h
 | [],b::p,h=>by simp at h
 |a::l,b::p,h=>by
  obtain⟨i1,i2⟩:=ahf f l p (by simpa using h)
  have jQ:((iC f b).2 != 0||(kn a (iC f b).1).2 != 0) = !((iR a f b).2==0):=by
   rw[ahe];simp only[bne,Bool.not_and]
  simp only[jE,List.zip_cons_cons,u3,g0];rw[jQ];rcases R:((iR a f b).2==0)
  ·rw[dc,UF];simp
  ·rw[c2];refine⟨by rw[i1];simp,λbm=>?_⟩
   rw[e0] at bm;rw[i2 bm,at5 R]
def at6 {x p:cb}(h:x.1.length=p.1.length)(c:Nat):(jE (il x c) (k9 x) (k9 p) false).2 = !(pr x p c).2/\((pr x p c).2=true->(jE (il x c) (k9 x) (k9 p) false).1=k9 (pr x p c).1):=by
 have Y:x.1.getD c bC=il x c:=rfl;obtain⟨cJ,cQ⟩:=ahf (il x c) (k9 x) (k9 p) (by simp[k9,h])
 have a2:(k9 x).zip (k9 p)=x.1.zip p.1++[(x.2,p.2)]:=by
  unfold k9;rw[List.zip_append h]
  rfl
 rw[a2,Di] at cJ cQ;unfold pr;rw[Y,Xj];rcases R:((x.1.zip p.1).all λa:ax×ax=>(iR a.1 (il x c) a.2).2==0)
 ·rw[R] at cJ;simp only[eO,dc] at cJ;rw[cJ];simp
 ·rw[R] at cJ cQ;simp only[u3,List.all_nil,pF,e0] at cJ cQ;rw[cJ,ahd R];simp only[if_true];refine⟨trivial,λbm=>?_⟩;rw[cQ bm,pT]
  rfl
def QL (gC:List ax)(r c:Nat):∀(i:Nat) (l:List dn),(jF gC r c i l true).2=true
 |_,[]=>rfl
 |i,x::xs=>by
  unfold jF
  split
  ·exact QL gC r c (i+1) xs
  ·rw[UF];exact QL gC r c (i+1) xs
def ahg {N r c:Nat}{p:cb}(aR:p.1.length=N)(Y:c<N):∀(i:Nat) (X:List dn) (bH:List cb),lM X bH->(∀y∈bH,y.1.length=N) ->
  (jF (k9 p) r c i X false).2 = !(g6 p r c i bH).2/\((g6 p r c i bH).2=true->lM (jF (k9 p) r c i X false).1 (g6 p r c i bH).1)
 |i,[],[],_,_=>by simp[jF,g6,lM]
 |i,x::X,[],h,_=>by simp[lM] at h
 |i,[],y::bH,h,_=>by simp[lM] at h
 |i,x::X,y::bH,h,ag=>by
  unfold lM at h;rw[g0,g0,bl] at h;obtain⟨hl,at7⟩:=h;have QE:=ag y lU;obtain⟨i1,i2⟩:=ahg (r:=r) aR Y (i+1) X bH at7 λz a2=>ag z (ur _ a2);have n5:=Xi hl QE Y;unfold jF;rw[n5,hl]
  by_cases Q:(i==r||hP (il y c))=true
  ·rw[aL Q,agY Q];refine⟨i1,λbm=>?_⟩;have:=i2 bm;unfold lM at this ⊢;rw[g0,g0,this,hl]
  ·rw[aT Q];obtain⟨cJ,cQ⟩:=at6 (x:=y) (p:=p) (by omega) c;rcases R:(pr y p c).2
   ·rw[ag0 Q R];rw[R] at cJ;dsimp only;rw[cJ,dc,QL];simp
   ·rw[agZ Q R];rw[R] at cJ;dsimp only;rw[cJ,c2];refine⟨i1,λbm=>?_⟩;have:=i2 bm;unfold lM at this ⊢;rw[g0,g0,this,cQ R]
def aua {N r c:Nat}{X:List dn}{bH:List cb}(h:lM X bH)(ag:∀y∈bH,y.1.length=N)(Y:c<N):findAt X r c=fT bH r c:=by
 have a2:(X.drop r).map (λx => !hP (cellOf x c))=(bH.drop r).map λx => !hP (il x c):=by
  apply qm;intro i;rw[bg,bg,oI,oI];have hlen:=h.len;rcases gY (r+i) (D bH) with ab|ab
  ·have L:X[r+i]?=some X[r+i]:=bf (by omega);have M:bH[r+i]?=some bH[r+i]:=bf ab;rw[L,M,kU,kU,Xi (h.at_ L M) (ag _ (hb ab)) Y]
  ·rw[lk (by omega),lk ab]
   rfl
 have F:∀(l:List dn),(l.findIdx λx => !hP (cellOf x c))=(l.map λx => !hP (cellOf x c)).findIdx id:=λl=>by rw[ahh];rfl
 have G:∀(l:List cb),(l.findIdx λx => !hP (il x c))=(l.map λx => !hP (il x c)).findIdx id:=λl=>by rw[ahh];rfl
 unfold findAt fT;rw[F,G,a2]
def lM.set {X:List dn}{bH:List cb}(h:lM X bH){i:Nat}{x:dn}{r:cb}(lH:x.2.2=k9 r):lM (X.set i x) (bH.set i r):=by
 unfold lM at h ⊢;rw[CF,CF,h,lH]
def Xk (stop:Bool){N:Nat}:∀(k c:Nat) (X:List dn) (bH:List cb) (r:Nat) (free:List Nat),c+k=N->r+D free=c->lM X bH->ps N bH ->
  (m9 stop k c X free false).2.2 = !(nd stop k c bH r free).2.2/\((nd stop k c bH r free).2.2=true->lM (m9 stop k c X free false).1 (nd stop k c bH r free).1/\(m9 stop k c X free false).2.1=(nd stop k c bH r free).2.1)
 |0,c,X,bH,r,free,_,_,h,_=>⟨rfl,λ_=>⟨h,rfl⟩⟩
 |k+1,c,X,bH,r,free,Y,M,h,dy=>by
  have o4:c<N:=by omega
  have KN:∀y∈bH,y.1.length=N:=λy ak=>(dy.2 y ak).1;have hlen:=h.len;have WJ:=dy.1;have ahi:=aua (r:=r) h KN o4;have oZ:c-D free=r:=by omega
  unfold m9;rw[oZ]
  by_cases al:fT bH r c=D bH
  ·have aR:j4 X r c=(true,X,false):=by unfold j4;rw[ahi,aL (by rw[hlen];exact al)]
   rw[ag3 al,aR];rw[aL rfl]
   cases stop
   ·rw[aT (by simp),aT (by simp)];exact Xk false k (c+1) X bH r (free++[c]) (by omega) (by simp;omega) h dy
   ·rw[aL rfl,aL rfl];exact⟨rfl,λ_=>⟨h,rfl⟩⟩
  ·have aR:j4 X r c=(false,jF (j3 (cellOf (rowAt (mC X r (fT bH r c)) r) c) (rowAt (mC X r (fT bH r c)) r).2.2).1 r c 0 (CG (mC X r (fT bH r c)) r c) (j3 (cellOf (rowAt (mC X r (fT bH r c)) r) c) (rowAt (mC X r (fT bH r c)) r).2.2).2):=by unfold j4;rw[ahi,aT (by rw[hlen];exact al)]
   rw[aR];rw[aT (by simp)];have hle:=Xg bH r c (by omega);generalize Q:fT bH r c=s at *;have A7:s<N:=by omega
   have nw:r<N:=by omega
   obtain⟨xs,sh⟩:∃x,X[s]?=some x:=⟨_,bf (by omega)⟩;obtain⟨ys,BL⟩:∃x,bH[s]?=some x:=⟨_,bf (by omega)⟩;obtain⟨pU,lH⟩:∃x,X[r]?=some x:=⟨_,bf (by omega)⟩;obtain⟨Hc,qN⟩:∃x,bH[r]?=some x:=⟨_,bf (by omega)⟩;have vA:mC X r s=(X.set r xs).set s pU:=by unfold mC;rw[rA sh,rA lH]
   have aub:lL bH r s=(bH.set r ys).set s Hc:=by unfold lL;rw[A6 BL,A6 qN]
   have auc:lM ((X.set r xs).set s pU) ((bH.set r ys).set s Hc):=(h.set (h.at_ sh BL)).set (h.at_ lH qN);have aud:((X.set r xs).set s pU)[r]?=some xs:=JO sh lH;have aue:((bH.set r ys).set s Hc)[r]?=some ys:=JO BL qN;have hl:=h.at_ sh BL;have Xl:=dy.2 _ (cL BL);have auf:ps N ((bH.set r ys).set s Hc):=(dy.set Xl).set (dy.2 _ (cL qN));rw[ag4 (by rw[Q];exact al) (by rw[Q];exact aub) (A6 aue)];unfold CG;rw[vA,rA aud,hl,Xi hl Xl.1 o4];obtain⟨d1,d2⟩:=at4 ys c;rcases af:(iS ys c).2
   ·rw[af] at d1;rw[d1,dc,aT (by simp)];have U:=λl=>QL (j3 (il ys c) (k9 ys)).1 r c 0 l;rw[U,UX];exact⟨rfl,λbm=>absurd bm (by simp)⟩
   ·rw[af] at d1;rw[d1,c2,aL rfl,d2 af];have gO:=Xd Xl c;have aug:lM (((X.set r xs).set s pU).set r (xs.1,xs.2.1,k9 (iS ys c).1)) (((bH.set r ys).set s Hc).set r (iS ys c).1):=auc.set rfl;have ov:=auf.set (i:=r) gO;obtain⟨gJ,lp⟩:=ahg (r:=r) gO.1 o4 0 _ _ aug λy ak=>(ov.2 y ak).1;have mb:=Lz (p:=(iS ys c).1) (r:=r) (c:=c) gO.1 0 _ ov.2;rcases sM:(g6 (iS ys c).1 r c 0 (((bH.set r ys).set s Hc).set r (iS ys c).1)).2
    ·rw[sM] at gJ;rw[gJ,dc,UX,aT (by simp)];exact⟨rfl,λbm=>absurd bm (by simp)⟩
    ·rw[sM] at gJ;rw[gJ,c2,aL rfl];exact Xk stop k (c+1) _ _ (r+1) free (by omega) (by omega) (lp sM) ⟨mb.1.trans ov.1,mb.2⟩
def auh (rs:List cb):lM (hS rs) rs:=by
 unfold lM hS;rw[List.map_map];apply qm;intro i;rw[bg,bg,List.getElem?_zipIdx]
 cases rs[i]?<;>rfl
def aui (stop:Bool){rs:List cb}(dy:ps (D rs) rs):(ux stop rs).2.2 = !(rP stop rs).2.2/\((rP stop rs).2.2=true->lM (ux stop rs).1 (rP stop rs).1/\(ux stop rs).2.1=(rP stop rs).2.1) :=
 Xk stop (D rs) 0 (hS rs) rs 0 [] (by omega) rfl (auh rs) dy
def ahj {rs:List cb}(a6:qK rs)(n:Int):mF rs n=LF rs n:=by
 unfold mF LF;rcases M:nV rs n
 ·rfl
 obtain⟨rfl,hd,dy⟩:=ahb a6 M;obtain⟨F,G⟩:=aui true dy;have mb:=QK true (D rs) 0 rs 0 [] (by omega) (by omega) dy
 change ps (D rs) (rP true rs).1 at mb
 rcases cw:(rP true rs).2.2
 ·rw[F,cw];rfl
 ·obtain⟨ad,aZ⟩:=G cw;rw[F,cw,aZ];simp only[if_true,c2,cE,if_false]
  split
  ·rfl
  ·rw[eM];refine⟨?_,rfl⟩;apply qm;intro i;rw[bg,bg];have hlen:=ad.len;rcases gY i (rP true rs).1.length with ab|ab
   ·have L:(ux true rs).1[i]?=some _:=bf (by omega);have ak:(rP true rs).1[i]?=some _:=bf ab;rw[L,ak,kU,kU];have he:=ad.at_ L ak;have ag:=(mb.2 _ (cL ak)).1;unfold vC;rw[he];unfold k9;rw[dH,r4 (by omega),ag,hG]
    rfl
   ·rw[lk (by omega),lk ab];rfl
def auj (v:ax)(n to:Nat):(mG v [] n to).2=true:=rfl
def Hd:=bI pW λ(cap,base,ls)=>ca (ox cap base ls) (.same (l8 (l7 cap base ls)))
@[go_sem] def Xm (cap base ls):=cl Hd rfl CQ (cap,base,ls) rfl
def auk (T:bj)(ew:T B7=aG GZ)(im:T E2=aG Lp)(iq:T IN=aG LG)(fc:T B6=aG G1)(fe:T Aa=aG G5):WF T agx Hd:=by
 refine b7 λ(cap,base,ls)=>cq λY=>⟨rfl,b6 ?_⟩;simp only[agx,pW,bX];unfold l7;rcases M:o6 cap base ls
 ·simp only[cE,if_false];refine ah ?_;repeat' (intro (ai:_=_)<;>simp only[ai,go_sem,go_sem_proc,ew,im,iq,fc,fe,Y,M,l8,bP]<;>try refine ae ?_ ?_)
 ·simp only[if_true];obtain⟨U,aC,-,eZ,-,-⟩:=xq M;have j6:=Y;obtain⟨⟨eb,ny⟩,⟨mq,nz⟩,nA⟩:=Y;have y3:(D cap*1<=140737488355328)=True:=eq_true (by omega);have Dk:(1*D cap<=140737488355328)=True:=eq_true (by omega);have y4:(D cap<=maxLen)=True:=eq_true (by unfold maxLen;omega);have Dl:(D cap<=140737488355328)=True:=eq_true (by omega);have a2:=PD (D cap);generalize KL:pf cap base ls (D cap+1) (ch (D cap) false) []=SS;simp only[go_sem,go_sem_proc,ew,im,iq,fc,fe,j6,M,y3,Dk,y4,Dl,a2,aj]
  refine cX [1,5,6] [427001] (λ((k,left,rounds,g):Nat×List Bool×List (List Nat)×Nat) tm m=>D left=D cap/\left.count false<k/\D rounds+k<=D cap+1/\SS=pf cap base ls k left rounds/\tm 7=.ref 427136 g 1 0 (D rounds)/\m 427028=some (0,aS kN left)/\m 427136=some (g,aS p7 rounds)/\dP 427 emp m) (λ(k,_,_,_)=>k) (D cap+1,ch (D cap) false,[],0) (by
   refine⟨hs,by rw[List.count_replicate_self];exact KM _,by simp,KL.symm,rfl,?_,?_,?_⟩
   ·simp[aV]
   ·simp[aV,aS]
   ·repeat first|exact dP.refl _ _|refine dP.ea ?_ (by decide)) ?_
  intro vs ms aK aF;simp only[go_sem,go_sem_proc,ew,im,iq,fc,fe,aj] at aK aF;subst aK aF;rintro⟨k,left,rounds,g⟩ tm m R hm ⟨vL,PH,arN,a7,bM,lN,lO,dr⟩;simp only[go_sem,go_sem_proc,ew,im,iq,fc,fe,bl] at R hm;obtain⟨bo,c3,dp⟩:=R;obtain⟨k,rfl⟩:∃k',k=k'+1:=⟨k-1,by omega⟩
  obtain⟨Gz,Dm⟩:=Pz (ls:=ls) (left:=left) ny nz U aC;have a7:=a7.trans (pf.eq_2 ..);have vY:tc cap base ls left=if (allEq cap base ls left).all (·.2)=true then ((mF ((allEq cap base ls left).map (·.1)) (D cap)).1,(mF ((allEq cap base ls left).map (·.1)) (D cap)).2==0) else ([],false):=rfl;generalize tc cap base ls left=X at *;have jG:(allEq cap base ls left).length=D cap:=by unfold allEq;rw[aj,List.length_range]
  have uC:∀i,i<(D cap)->(allEq cap base ls left)[i]?=some (mI cap base ls left i):=λi ab=>by
   unfold allEq;rw[bg,List.getElem?_range ab]
   rfl
  have p4:∀x∈allEq cap base ls left,lD x.1:=λx L=>by
   unfold allEq at L;rw[h7] at L;obtain⟨i,ab,rfl⟩:=L;rw[List.mem_range] at ab;have aQ:okF (cap.getD i bC):=by rw[dH,bf ab];exact ny _ (hb ab)
   have az:okF (base.getD i bC):=by rw[dH,bf (by omega)];exact nz _ (hb (by omega))
   unfold mI
   split
   ·exact zc az aC
   ·exact zc aQ aC
  generalize allEq cap base ls left=A at *;simp only[go_sem,go_sem_proc,ew,im,iq,fc,fe,bo,c3,dp,bM,hm,lN,lO,aj]
  refine cX [1,5,6,7] [427001,427028,427136] (λ((i,DO):Nat×Nat) tm m=>i<=D cap/\(A.take i).all (·.2)=true/\tm 9=.J (.int .i64 i)/\tm 8=.ref 427056 DO 5 0 i/\m 427056=some (DO,aS cG ((A.take i).map (·.1)))/\dP 427 emp m) (λ(i,_)=>D cap-i) (0,gM (m 427056)) (by
   refine⟨dG _,by simp,rfl,rfl,?_,?_⟩
   ·simp[aV,aS]
   ·repeat first|exact dr|refine dP.ea ?_ (by decide)) ?_
  intro vs ms aK aF;simp only[go_sem,go_sem_proc,ew,im,iq,fc,fe,bo,c3,dp,bM,hm,lN,lO,aj] at aK aF;subst aK aF;clear bo c3 dp bM hm lN lO dr tm m;rintro⟨i,DO⟩ tm m R hm ⟨ab,cZ,di,cd,tg,dr⟩;simp only[go_sem,go_sem_proc,ew,im,iq,fc,fe,bl] at R hm;obtain⟨bo,c3,dp,eE⟩:=R;obtain⟨aY,lN,lO⟩:=hm;rcases du (i<D cap) with aq|bD
  ·have d1:decide ((i:Int)<(D cap:Int))=true:=c7;have bL:=e2 (i:=i) (by omega);obtain⟨⟨⟨ck,dC⟩,⟨gv,iF⟩⟩,dh⟩:∃f,cap[i]?=some f:=⟨_,bf aq⟩;obtain⟨⟨⟨bT,cB⟩,⟨et,eD⟩⟩,eJ⟩:∃f,base[i]?=some f:=⟨_,bf (by omega)⟩;obtain⟨j5,dt⟩:∃f,left[i]?=some f:=⟨_,bf (by omega)⟩;have xo:=ny _ (cL dh);have zd:=nz _ (cL eJ);have gc:cap.getD i bC=((ck,dC),(gv,iF)):=by rw[dH,dh];rfl
   have qR:base.getD i bC=((bT,cB),(et,eD)):=by rw[dH,eJ];rfl
   have gl:left.getD i false=j5:=by rw[dH,dt];rfl
   have hU:=xn dt;have g5:=uB (l:=left) (k:=i) (by omega);have vN:=uC i aq;have xp:=W1 ck dC gv iF [] (D cap) i ⟨xo,⟨by simp,λx L=>by cases L⟩,aC,aq,λl ag=>by cases ag⟩
   have ze:=W1 bT cB et eD ls (D cap) i ⟨zd,nA,aC,aq,λl ag _=>by have:=eZ l ag;omega⟩
   have zW:=auj ((ck,dC),(gv,iF)) (D cap) i
   have zf:mI cap base ls left i=if j5=true then mG ((bT,cB),(et,eD)) ls (D cap) i else mG ((ck,dC),(gv,iF)) [] (D cap) i:=by
    unfold mI;rw[gc,qR,gl]
   rw[bP] at xp;have oq:A.take (i+1)=A.take i++[mI cap base ls left i]:=by rw[ho,vN];rfl
   have Dh:(A.take (i+1)).all (·.2)=(mI cap base ls left i).2:=by rw[oq,Di,cZ];simp
   have zg:(A.take (i+1)).map (·.1)=(A.take i).map (·.1)++[(mI cap base ls left i).1]:=by rw[oq,pT];rfl
   have b9:((A.take i).map (·.1)).length=i:=by rw[aj,gk];omega
   have c1:=λ(bH:cb) cs iJ=>lq m6 (λ_=>rfl) 427056 DO 88 ((A.take i).map (·.1)) bH (cs:=cs) iJ (by omega) (by omega);simp only[b9] at c1;have jW:(mI cap base ls left i).2=false->A.all (·.2)=false:=λh=>Wc vN h;clear uC KL;rcases j5
   ·simp only[cE,if_false] at zf;rw[<-zf] at xp zW;generalize mI cap base ls left i=db at *;obtain⟨⟨vO,⟨v1,v2⟩,⟨fg,v4⟩⟩,ok⟩:=db;dsimp only at zW;subst zW;simp only[cG,av] at xp;have jh:=c1 (vO,((v1,v2),(fg,v4))) _ rfl;simp only[cG,av,g0,bP] at jh;rw[<-zg] at jh;refine ah ?_;repeat' (intro (ai:_=_)<;>simp only[ai,go_sem,go_sem_proc,ew,im,iq,fc,fe,bo,c3,dp,eE,di,cd,aY,lN,lO,tg,d1,bL,dh,eJ,dt,hU,g5,aq,dM,xp,jh,av,aj,bg]<;>try refine ae ?_ ?_)
    exact⟨(i+1,DO+1),by dsimp only;omega,by dsimp only;omega,Dh,rfl,rfl,rfl,by repeat first|exact dr|refine dP.ea ?_ (by decide)⟩
   ·simp only[if_true] at zf;rw[<-zf] at ze;generalize mI cap base ls left i=db at *;obtain⟨⟨vO,⟨v1,v2⟩,⟨fg,v4⟩⟩,ok⟩:=db;simp only[cG,av] at ze;rcases ok
    ·rw[jW rfl] at vY;simp only[cE,if_false] at vY;rw[vY] at a7;simp only[cE,if_false] at a7;rw[a7];refine ah ?_;repeat' (intro (ai:_=_)<;>simp only[ai,go_sem,go_sem_proc,ew,im,iq,fc,fe,bo,c3,dp,eE,di,cd,aY,lN,lO,tg,d1,bL,dh,eJ,dt,hU,g5,aq,dM,ze,l8,av,bP,aj,bg]<;>try refine ae ?_ ?_)
    ·have jh:=c1 (vO,((v1,v2),(fg,v4))) _ rfl;simp only[cG,av,g0,bP] at jh;rw[<-zg] at jh;refine ah ?_;repeat' (intro (ai:_=_)<;>simp only[ai,go_sem,go_sem_proc,ew,im,iq,fc,fe,bo,c3,dp,eE,di,cd,aY,lN,lO,tg,d1,bL,dh,eJ,dt,hU,g5,aq,dM,ze,jh,av,aj,bg]<;>try refine ae ?_ ?_)
     exact⟨(i+1,DO+1),by dsimp only;omega,by dsimp only;omega,Dh,rfl,rfl,rfl,by repeat first|exact dr|refine dP.ea ?_ (by decide)⟩
  ·have d1:decide ((i:Int)<(D cap:Int))=false:=df;have hz:i=D cap:=by omega
   subst hz;have k5:A.take (D cap)=A:=dF (by omega);rw[k5] at cZ tg;rw[cZ] at vY;simp only[if_true] at vY
   have LH:qK (A.map (·.1)):=⟨by rw[aj];omega,λr M=>by
    obtain⟨x,L,rfl⟩:=h7.1 M;exact p4 x L⟩
   have ek:=ahc (A.map (·.1)) (D cap) LH;rw[<-ahj LH] at ek;have nc:=λ(K:a8->Prop) (st:a8)=>sl (K:=K) (st:=st) m6 8 427056 DO (A.map (·.1));rw[aj,jG] at nc;generalize mF (A.map (·.1)) (D cap)=S at *;obtain⟨l6,e⟩:=S;dsimp only at ek vY;rcases he:(e==0)
   ·rw[he] at vY;rw[vY] at a7;simp only[cE,if_false] at a7;rw[a7];refine ah ?_;repeat' (intro (ai:_=_)<;>simp only[ai,go_sem,go_sem_proc,ew,im,iq,fc,fe,bo,c3,dp,eE,di,cd,aY,lN,lO,tg,d1,nc,ek,he,l8,bP,aj,bne,dc]<;>try refine ae ?_ ?_)
   ·rw[he] at vY;rw[vY] at a7 Gz Dm;dsimp only at Gz Dm;simp only[if_true] at a7;have Wj:=Dm rfl;clear vY Dm uC p4 KL;simp only[go_sem,go_sem_proc,ew,im,iq,fc,fe,bo,c3,dp,eE,di,cd,aY,lN,lO,tg,d1,nc,ek,he,aj,bne,c2]
    refine cX [1,5,6,7,14] [427001,427028,427136] (λ((i,acc,ph):Nat×List Nat×Nat) tm m=>i<=D cap/\D acc<=i/\oB cap base ls left l6 (D cap) 0 []=oB cap base ls left l6 (D cap-i) i acc/\tm 17=.J (.int .i64 i)/\tm 16=.ref 427115 ph 1 0 (D acc)/\m 427115=some (ph,aS nx acc)/\dP 427 emp m) (λ(i,_,_)=>D cap-i) (0,[],gM (m 427115)) (by
     refine⟨dG _,c9 _,rfl,rfl,rfl,?_,?_⟩
     ·simp[aV,aS]
     ·repeat first|exact dr|refine dP.ea ?_ (by decide)|refine dP.kill ?_ (by decide)) ?_
    intro vs ms aK aF;simp only[go_sem,go_sem_proc,ew,im,iq,fc,fe,bo,c3,dp,eE,aY,lN,lO,aj] at aK aF;subst aK aF;clear di cd tg aY lN lO dr bo c3 dp eE tm m;rintro⟨i,acc,ph⟩ tm m R hm ⟨ab,arO,eV,h0,my,h2,dr⟩;simp only[go_sem,go_sem_proc,ew,im,iq,fc,fe,bl] at R hm;obtain⟨bo,c3,dp,eE,DP⟩:=R;obtain⟨aY,lN,lO⟩:=hm;rcases du (i<D cap) with aq|bD
    ·have d1:decide ((i:Int)<(D cap:Int))=true:=c7;have bL:=e2 (i:=i) (by omega);obtain⟨⟨⟨ck,dC⟩,⟨gv,iF⟩⟩,dh⟩:∃f,cap[i]?=some f:=⟨_,bf aq⟩;obtain⟨⟨⟨bT,cB⟩,⟨et,eD⟩⟩,eJ⟩:∃f,base[i]?=some f:=⟨_,bf (by omega)⟩;obtain⟨j5,dt⟩:∃f,left[i]?=some f:=⟨_,bf (by omega)⟩;have xo:=ny _ (cL dh);have zd:=nz _ (cL eJ);have gc:cap.getD i bC=((ck,dC),(gv,iF)):=by rw[dH,dh];rfl
     have qR:base.getD i bC=((bT,cB),(et,eD)):=by rw[dH,eJ];rfl
     have gl:left.getD i false=j5:=by rw[dH,dt];rfl
     have hU:=xn dt;have g5:=uB (l:=left) (k:=i) (by omega);have g2:(D cap)-i=(D cap-(i+1))+1:=by omega
     rw[g2] at eV;replace eV:=eV.trans (oB.eq_2 ..);rw[gl,gc,qR] at eV;rcases j5
     ·simp only[cE,if_false] at eV;have fo:=WW bT cB et eD ls l6 i ⟨zd,nA,Gz,λl ag _=>⟨(eZ l ag).1,by rw[Wj];exact (eZ l ag).2.1⟩⟩
      have wU:=W4 (base:=((bT,cB),(et,eD))) (ls:=ls) (x:=l6) (to:=i);have u1:=W5 (base:=((bT,cB),(et,eD))) (ls:=ls) (x:=l6) (to:=i);have AW:okF (lI ((bT,cB),(et,eD)) ls l6 i).1:=KJ l6 i ls _ zd;generalize lI ((bT,cB),(et,eD)) ls l6 i=Gt at *;obtain⟨⟨⟨f1,f2⟩,⟨f3,f4⟩⟩,KB⟩:=Gt;dsimp only at eV AW wU u1;obtain⟨Xn,Xo⟩:=AW;obtain⟨iw,mO⟩:=xo;dsimp only at Xn Xo iw mO;rcases KB
      ·simp only[cE,if_false] at eV;rw[eV] at a7;rw[a7];rw[wU rfl] at fo;simp only[av] at fo;refine ah ?_;repeat' (intro (ai:_=_)<;>simp only[ai,go_sem,go_sem_proc,ew,im,iq,fc,fe,bo,c3,dp,eE,DP,h0,my,aY,lN,lO,h2,d1,bL,dh,eJ,dt,hU,g5,aq,fo,l8,av,bC,bP,dM,aj,bg]<;>try refine ae ?_ ?_)
      ·simp only[if_true] at eV;rw[u1 rfl] at fo;simp only[av] at fo;rcases eY:decide (lC ((f1,f2),(f3,f4)) ((ck,dC),(gv,iF))<0)
       ·rw[eY] at eV;simp only[cE,if_false] at eV;refine ah ?_;repeat' (intro (ai:_=_)<;>simp only[ai,go_sem,go_sem_proc,ew,im,iq,fc,fe,bo,c3,dp,eE,DP,h0,my,aY,lN,lO,h2,d1,bL,dh,eJ,dt,hU,g5,aq,fo,eY,iw,mO,Xn,Xo,av,dM,aj,bg]<;>try refine ae ?_ ?_)
        exact⟨(i+1,acc,ph),by dsimp only;omega,by dsimp only;omega,by dsimp only;omega,eV,rfl,rfl,rfl,by repeat first|exact dr|refine dP.ea ?_ (by decide)⟩
       ·rw[eY] at eV;simp only[if_true] at eV;have c1:=lq xb UY 427115 ph 8 acc i (cs:=[.J (.int .i64 i)]) rfl (by omega) (by omega);have gE:(acc++[i]).length=D acc+1:=by simp
        refine ah ?_;repeat' (intro (ai:_=_)<;>simp only[ai,go_sem,go_sem_proc,ew,im,iq,fc,fe,bo,c3,dp,eE,DP,h0,my,aY,lN,lO,h2,d1,bL,dh,eJ,dt,hU,g5,aq,fo,eY,c1,iw,mO,Xn,Xo,av,dM,aj,bg]<;>try refine ae ?_ ?_)
        exact⟨(i+1,acc++[i],ph+1),by dsimp only;omega,by dsimp only;omega,by dsimp only;omega,eV,rfl,by rw[gE],rfl,by repeat first|exact dr|refine dP.ea ?_ (by decide)⟩
     ·simp only[if_true] at eV;refine ah ?_;repeat' (intro (ai:_=_)<;>simp only[ai,go_sem,go_sem_proc,ew,im,iq,fc,fe,bo,c3,dp,eE,DP,h0,my,aY,lN,lO,h2,d1,bL,dh,eJ,dt,hU,g5,aq,av,dM,aj,bg]<;>try refine ae ?_ ?_)
      exact⟨(i+1,acc,ph),by dsimp only;omega,by dsimp only;omega,by dsimp only;omega,eV,rfl,rfl,rfl,by repeat first|exact dr|refine dP.ea ?_ (by decide)⟩
    ·have d1:decide ((i:Int)<(D cap:Int))=false:=df;have hz:i=D cap:=by omega
     subst hz;rw[hG] at eV;replace eV:=eV.trans (oB.eq_1 ..);have gK:=KK _ _ _ _ eV;rw[eV] at a7
     cases acc with
     |nil =>
      dsimp only at a7;rw[a7];have eA:=jV (n:=4) PC lO;refine ah ?_;repeat' (intro (ai:_=_)<;>simp only[ai,go_sem,go_sem_proc,ew,im,iq,fc,fe,bo,c3,dp,eE,DP,h0,my,aY,lN,lO,h2,d1,eA,l8,mV,aj,show (((0:Nat):Int)==0)=true from rfl]<;>try refine ae ?_ ?_)
     |cons i0 lv =>
      dsimp only at a7;have bq:((((i0::lv).length:Nat):Int)==0)=false:=by simp;omega
      have wM:i0<D cap/\left.getD i0 false=false:=by
       rcases gK i0 (by simp) with h|⟨-,F,G⟩
       ·cases h
       ·exact⟨by omega,G⟩
      have Wk:∀j∈i0::lv,j<D cap:=λj aa=>by
       rcases gK j aa with h|⟨-,F,G⟩
       ·cases h
       ·omega
      have jB:=Wh (left:=left) (i:=i0) (lv:=lv) (by omega) wM.2;generalize Br:i0::lv=eW at *;simp only[go_sem,go_sem_proc,ew,im,iq,fc,fe,bo,c3,dp,eE,DP,h0,my,aY,lN,lO,h2,d1,bq,aj];refine cX [1,5,6,7,16] [427001,427115,427136] (λ(j:Nat) tm m=>j<=D eW/\tm 20=.J (.int .i64 j)/\m 427028=some (0,aS kN (lJ left (eW.take j)))/\dP 427 emp m) (λj=>D eW-j) 0 (by refine⟨dG _,rfl,lN,dr⟩) ?_;intro vs ms aK aF;simp only[go_sem,go_sem_proc,ew,im,iq,fc,fe,bo,c3,dp,eE,my,aY,lO,h2] at aK aF;subst aK aF;clear bo c3 dp eE DP h0 my aY lN lO h2 dr tm m;rintro j tm m R hm ⟨aa,qF,lN,dr⟩;simp only[go_sem,go_sem_proc,ew,im,iq,fc,fe,bl] at R hm;obtain⟨bo,c3,dp,eE,AU⟩:=R;obtain⟨aY,h2,lO⟩:=hm;rcases du (j<D eW) with hk|CX
      ·have d2:decide ((j:Int)<(D eW:Int))=true:=c7;have ht:=e2 (i:=j) (by omega);obtain⟨x,L⟩:∃f,eW[j]?=some f:=⟨_,bf hk⟩;have vl:=Wk x (cL L);have Wl:=ae6 L;have KN:=ae7 (l:=eW) (k:=j) hk;have zM:(lJ left (eW.take j)).length=D cap:=by rw[PA];exact vL
       have g5:=uB (l:=lJ left (eW.take j)) (k:=x) (by omega);have tX:=PF (l:=lJ left (eW.take j)) (k:=x) (by omega) true
       have p2:(lJ left (eW.take j)).set x true=lJ left (eW.take (j+1)):=by
        rw[ho,L,ae2];rfl
       rw[p2] at tX;refine ah ?_;repeat' (intro (ai:_=_)<;>simp only[ai,go_sem,go_sem_proc,ew,im,iq,fc,fe,bo,c3,dp,eE,AU,qF,aY,lN,h2,lO,d2,ht,Wl,KN,vl,g5,tX,hk,dM]<;>try refine ae ?_ ?_)
       exact⟨j+1,by omega,by omega,rfl,rfl,by repeat first|exact dr|refine dP.ea ?_ (by decide)⟩
      ·have d2:decide ((j:Int)<(D eW:Int))=false:=df;have Wm:j=D eW:=by omega
       subst Wm;rw[mB] at lN;have nc:=λ(K:a8->Prop) (st:a8)=>sl (K:=K) (st:=st) xb 16 427115 ph eW;have c1:=lq PC ae4 427136 g 24 rounds eW (cs:=[.J (.ar (eW.map nx))]) rfl (by omega) (by omega);have b9:(rounds++[eW]).length=D rounds+1:=by simp
       refine ah ?_;repeat' (intro (ai:_=_)<;>simp only[ai,go_sem,go_sem_proc,ew,im,iq,fc,fe,bo,c3,dp,eE,AU,qF,aY,lN,h2,lO,d2,nc,c1,aj]<;>try refine ae ?_ ?_)
       exact⟨(k,lJ left eW,rounds++[eW],g+1),by dsimp only;omega,by rw[PA];exact vL,by dsimp only;omega,by dsimp only;omega,a7,by rw[b9],rfl,rfl,by repeat first|exact dr|refine dP.ea ?_ (by decide)|refine dP.kill ?_ (by decide)⟩
end Go.Mini
