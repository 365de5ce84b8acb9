/- A part of the proof. -/
import Derived.Recover
import Derived.Test.YtplehnijfhgclaaGreatDoorM02
set_option linter.unusedSimpArgs false
set_option linter.unusedVariables false
set_option linter.defProp false
set_option maxRecDepth 100000
set_option maxHeartbeats 4000000
noncomputable section
open Bool renaming and_eq_false_iff->adk,and_eq_true->dp,false_eq_true->dm,not_eq_false'->Jo,not_eq_true'->lF,rec->fL,true_and->iD
open Classical renaming choose_spec->rD
open Decidable renaming em->eo
open Int renaming fdiv_eq_ediv_of_nonneg->SL,lt_trichotomy->rT,mul_comm->mj,mul_fdiv_add_fmod->MV,mul_ne_zero->wE,mul_one->rM,natAbs_natCast->ik,one_mul->nw,sign_eq_neg_one_of_neg->n6,sign_eq_one_of_pos->ij,sign_mul->oa,sign_neg->Ef,sign_zero->wG,sub_zero->HY,zero_mul->ya,zero_sub->abc
open List renaming any_eq_false->m4,append_assoc->hj,append_nil->nZ,drop->pS,drop_append->DA,drop_drop->xy,drop_eq_getElem_cons->gK,drop_eq_nil_of_le->mH,drop_zero->oO,ext_getElem?->ub,findIdx?_eq_none_iff->abD,findIdx?_eq_some_iff_getElem->abC,flatten_append->TN,flatten_cons->k9,getD_eq_getElem?_getD->eH,getElem?_append_right->AH,getElem?_drop->sL,getElem?_eq_getElem->bw,getElem?_eq_none->mI,getElem?_eq_some_iff->dh,getElem?_inj->abV,getElem?_map->bD,getElem?_set->lC,getElem?_zipIdx->Ty,getElem_drop->EJ,getElem_mem->iJ,length->D,length_append->la,length_cons->jt,length_drop->rF,length_map->au,length_replicate->gv,length_set->gg,length_take->hg,map->Nq,mapM_cons->ma,map_append->pZ,map_cons->hi,map_map->rz,map_nil->cE,map_replicate->BY,map_set->BR,mem_append->hv,mem_cons->hq,mem_cons_of_mem->tv,mem_cons_self->kP,mem_iff_getElem?->rH,mem_map->hx,mem_of_getElem?->dM,mem_of_mem_drop->D9,mem_or_eq_of_mem_set->tp,mem_singleton->wq,nil_append->jU,range->jf,range'->Jh,range'_succ->ac6,replicate->bT,replicate_append_replicate->TM,replicate_succ->pF,set_append_right->Nl,set_cons_succ->EP,set_cons_zero->wL,set_set->ab7,take->oU,take_add_one->jl,take_append_of_le_length->TO,take_length->oc,take_of_length_le->dx,zipIdx_map->ade
open List.cons renaming injEq->bo
open Nat renaming add_sub_cancel_left->DB,add_zero->ko,beq->gG,beq_eq->T3,blt->z4,eq_of_beq_eq_true->B6,eq_zero_or_pos->jh,exists_eq_add_of_le->acK,gcd->fS,le_refl->bI,lt_or_ge->fF,mul_one->dU,ne_of_beq_eq_false->mq,reduceEqDiff->yr,reduceLeDiff->ab6,sub_self->lS,zero_le->ej
open Option renaming bind_none->kz,bind_some->zh,isNone_iff_eq_none->NN,map->acV,map_bind->NL,map_eq_some_iff->cJ,map_map->acU,map_some->jQ,rec->kj
open Option.some renaming inj->mN,injEq->bF
open Prod renaming ext->cO,fst->wA
open Prod.mk renaming injEq->ec
open Rat renaming divInt->j1,divInt_mul_divInt->aa3,neg_divInt_neg->aa1,num_divInt_den->uL,sub_eq_add_neg->IA
namespace Go.Mini
open Go
def aaQ:bN:=b9 35 1 [.t 2] (Y [c9 1 116001 0,cw 2 false] (.seq (Y [a9 5 0 1,bm 6 2 5,dA 7 jW 6,fc 8 7,F 9 8,gp 10 9 2 1,jz 11 9 2 10,hB 12 9 (.call jW [.t 11]),kR 13 9 12,dv 14 9 13,F 15 14,gp 16 15 2 1,gp 17 15 0 16,gh 18 15 1 17,jA 19 15 .neq 18 1,dv 20 15 19] (cF 20 [cw 2 false])) (Y [a9 22 0 1,bm 23 2 22,a9 24 2 1,bm 25 2 24,ch 26 HC 23 25,F 21 26,bn 27 0 21,bn 28 1 21,cX 3 116003 dF,bq 2 3 27,F 4 28] (Y [F 29 4,bs 30 .eql 29 0,F 31 30,DT 32 31 2 3,fs 33 31 (.call Rf [.t 32]),eP 34 31 33,F 2 34] .ret))))
def aaR:bN:=b9 46 2 [.cell 4 4 true,.t 5] (Y [c9 2 119002 0,c9 3 119003 1,cX 4 119004 ez,bA 5 0] (.seq (Y [bm 10 4 2,dA 11 lq 10,fc 12 11,F 13 12,jz 14 13 4 3,hB 15 13 (.call lq [.t 14]),kR 16 13 15,dv 17 13 16] (cF 17 [aO 18 (.build ez []),bq 4 4 18,bA 5 1])) (Y [a9 20 0 2,bm 21 2 20,a9 22 2 3,bm 23 2 22,a9 24 0 3,bm 25 2 24,a9 26 2 2,bm 27 2 26,xW 28 Rg 21 23 25 27,F 19 28,bn 29 0 19,bn 30 1 19,cX 6 119006 dF,bq 2 6 29,F 7 30] (Y [a9 32 2 2,bm 33 2 32,a9 34 2 3,bm 35 2 34,ch 36 sT 33 35,F 31 36,bn 37 0 31,bn 38 1 31,cX 8 119008 dF,bq 2 8 37,F 9 38] (Y [bm 39 2 6,F 40 7,bm 41 2 8,F 42 9,xW 43 Bb 39 40 41 42,bn 44 0 43,bn 45 1 43,bq 4 4 44,F 5 45] .ret)))))
def aaS:bN:=b9 13 2 [.cell 4 4 true,.t 5] (Y [cX 4 130004 ez,bA 5 0] (Y [F 6 0,dA 7 LX 6,F 8 1,dA 9 LX 8,ch 10 HD 7 9,bn 11 0 10,bn 12 1 10,bq 4 4 11,F 5 12] .ret))
def aaT:bN:=b9 25 2 [.cell 4 4 true,.t 5] (Y [c9 2 132002 0,c9 3 132003 1,cX 4 132004 ez,bA 5 0] (.seq (Y [bm 6 4 2,dA 7 lq 6,fc 8 7,F 9 8,jz 10 9 4 3,hB 11 9 (.call lq [.t 10]),kR 12 9 11,dv 13 9 12] (cF 13 [aO 14 (.build ez []),bq 4 4 14,bA 5 1])) (gq [bm 15 4 2,a9 16 0 3,bm 17 2 16,dA 18 DJ 17,a9 19 2 3,bm 20 2 19,aO 21 (.build ez [(0,2,.t 18),(2,2,.t 20)]),ch 22 A9 15 21,bn 23 0 22,bn 24 1 22,bq 4 4 23,F 5 24] Y3 .ret)))
def aaU:bN:=b9 42 2 [.cell 4 4 true,.t 5] (Y [c9 2 134002 0,c9 3 134003 1,cX 4 134004 ez,bA 5 0] (.seq (Y [bm 10 4 2,dA 11 lq 10,fc 12 11,F 13 12,jz 14 13 4 3,hB 15 13 (.call lq [.t 14]),kR 16 13 15,dv 17 13 16] (cF 17 [aO 18 (.build ez []),bq 4 4 18,bA 5 1])) (Y [a9 20 0 2,bm 21 2 20,a9 22 0 3,bm 23 2 22,ch 24 sT 21 23,F 19 24,bn 25 0 19,bn 26 1 19,cX 6 134006 dF,bq 2 6 25,F 7 26] (Y [a9 28 2 2,bm 29 2 28,a9 30 2 3,bm 31 2 30,ch 32 sT 29 31,F 27 32,bn 33 0 27,bn 34 1 27,cX 8 134008 dF,bq 2 8 33,F 9 34] (Y [bm 35 2 6,F 36 7,bm 37 2 8,F 38 9,xW 39 Bb 35 36 37 38,bn 40 0 39,bn 41 1 39,bq 4 4 40,F 5 41] .ret)))))
def aaV:bN:=b9 78 2 [.t 4] (Y [c9 2 135002 0,c9 3 135003 1,bA 4 0] (.seq (Y [bm 17 4 2,dA 18 lq 17,fc 19 18,F 20 19,jz 21 20 4 3,hB 22 20 (.call lq [.t 21]),kR 23 20 22,dv 24 20 23] (cF 24 [bA 4 0])) (gq [a9 25 0 2,bm 26 2 25,a9 27 2 2,bm 28 2 27,a9 29 0 3,bm 30 2 29,a9 31 2 3,bm 32 2 31,cX 5 135005 dF,cX 6 135006 dF,cX 7 135007 dF,cX 8 135008 dF,bq 2 5 26,bq 2 6 28,bq 2 7 30,bq 2 8 32] [[],[],[],[],[],[],[],[],[1,3,5,7],[1,3,5,7,8],[1,3,5,7,8,9],[1,3,5,7,8,9,10],[3,5,7],[5,7],[7],[]] (Y [bA 9 1] (eK 0 (.seq (.block 1 (Y [bm 36 2 5,bm 37 2 6,ch 38 Bc 36 37,F 35 38,bn 39 0 35,bn 40 1 35,bn 41 2 35,cX 10 135010 dF,cX 11 135011 dF,bq 2 10 39,bq 2 11 40,F 12 41] (Y [bm 43 2 7,bm 44 2 8,ch 45 Bc 43 44,F 42 45,bn 46 0 42,bn 47 1 42,bn 48 2 42,cX 13 135013 dF,cX 14 135014 dF,bq 2 13 46,bq 2 14 47,F 15 48] (.seq (Y [bm 49 2 10,bm 50 2 13,ch 51 Rm 49 50,F 16 51] (.block 2 (Y [F 53 16,bs 54 .neq 53 0,F 52 54] (fA 52 (Y [F 55 9,F 56 16,bB 57 .mul 55 56,F 4 57] .ret) (Y [a9 59 0 11,aS 60 1 59,bs 61 .eql 60 0,F 62 61,gp 63 62 0 14,gh 64 62 1 63,jA 65 62 .eql 64 0,dv 66 62 65,F 58 66] (cF 58 [F 67 9,a9 68 0 11,aS 69 1 68,a9 70 0 14,aS 71 1 70,bB 72 .sub 69 71,bB 73 .mul 67 72,F 4 73])))))) (.nk [bm 74 2 6,bm 75 2 11,bm 76 2 8,bm 77 2 14,bq 2 5 74,bq 2 6 75,bq 2 7 76,bq 2 8 77] [[],[],[],[],[1,2,3],[2,3],[3],[]]))))) (.ops [F 33 9,aO 34 (.un .neg (.t 33)),F 9 34])))))))
def aaW:bN:=b9 15 1 [.t 2] (Y [c9 1 138001 0,cw 2 false] (Y [bm 6 2 1,dA 7 Rn 6,F 5 7,bn 8 0 5,bn 9 1 5,F 3 8,F 4 9] (Y [F 10 4,F 11 10,en 12 11 3,iE 13 11 .eql 12 1,eP 14 11 13,F 2 14] .ret)))
def aaX:bN:=b9 38 4 [.cell 8 2 true,.t 9] (Y [c9 4 139004 0,c9 5 139005 1,c9 6 139006 2,c9 7 139007 3,cX 8 139008 dF,bA 9 0] (Y [bm 14 2 4,bm 15 2 5,ch 16 sT 14 15,F 13 16,bn 17 0 13,bn 18 1 13,cX 10 139010 dF,bq 2 10 17,F 11 18] (.seq (Y [F 19 11,bs 20 .neq 19 0] (cF 20 [aO 21 (.build dF []),F 22 11,bq 2 8 21,F 9 22])) (Y [bm 24 2 6,bm 25 2 7,ch 26 sT 24 25,F 23 26,bn 27 0 23,bn 28 1 23,cX 12 139012 dF,bq 2 12 27,F 11 28] (.seq (Y [F 29 11,bs 30 .neq 29 0] (cF 30 [aO 31 (.build dF []),F 32 11,bq 2 8 31,F 9 32])) (Y [bm 33 2 10,bm 34 2 12,ch 35 Ro 33 34,bn 36 0 35,bn 37 1 35,bq 2 8 36,F 9 37] .ret))))))
def aaY:bN:=b9 22 4 [.cell 8 4 true,.t 9] (Y [c9 4 141004 0,c9 6 141006 2,cX 8 141008 ez,bA 9 0] (.seq (Y [F 10 1,bs 11 .neq 10 0,F 12 11,gX 13 12 3,jA 14 12 .neq 13 0,dv 15 12 14] (cF 15 [aO 16 (.build ez []),bq 4 8 16,bA 9 6])) (Y [bm 17 2 4,bm 18 2 6,ch 19 HD 17 18,bn 20 0 19,bn 21 1 19,bq 4 8 20,F 9 21] .ret)))
def aaZ:bN:=b9 60 2 [.cell 4 4 true,.t 5] (Y [c9 2 149002 0,c9 3 149003 1,cX 4 149004 ez,bA 5 0] (.seq (.block 0 (Y [bm 15 2 2,dA 16 jW 15,fc 17 16,F 18 17,jz 19 18 2 3,hB 20 18 (.call jW [.t 19]),kR 21 18 20,dv 22 18 21,F 14 22] (fA 14 (Y [aO 23 (.build ez []),bq 4 4 23,bA 5 1] .ret) (Y [a9 25 0 3,aS 26 1 25,bs 27 .eql 26 0,F 24 27] (fA 24 (Y [aO 28 (.build ez []),bq 4 4 28,bA 5 15] .ret) (Y [a9 30 0 3,aS 31 1 30,bs 32 .lss 31 0,F 29 32] (fA 29 (.nk [bm 33 2 2,dA 34 DJ 33,bm 35 2 3,dA 36 DJ 35,bq 2 2 34,bq 2 3 36] RK) .skip))))))) (Y [bm 38 2 2,bm 39 2 3,ch 40 HC 38 39,F 37 40,bn 41 0 37,bn 42 1 37,cX 6 149006 dF,bq 2 6 41,F 7 42] (Y [bm 44 2 2,bm 45 2 6,ch 46 Bc 44 45,F 43 46,bn 47 0 43,bn 48 1 43,bn 49 2 43,cX 8 149008 dF,cX 9 149009 dF,bq 2 8 47,bq 2 9 48,F 10 49] (Y [bm 51 2 3,bm 52 2 6,ch 53 Bc 51 52,F 50 53,bn 54 0 50,bn 55 1 50,bn 56 2 50,cX 11 149011 dF,cX 12 149012 dF,bq 2 11 54,bq 2 12 55,F 13 56] (Y [bm 57 2 8,bm 58 2 11,aO 59 (.build ez [(0,2,.t 57),(2,2,.t 58)]),bq 4 4 59,bA 5 0] .ret))))))
def aa0:bN:=b9 49 2 [.cell 4 4 true,.t 5] (Y [c9 2 169002 0,c9 3 169003 1,cX 4 169004 ez,bA 5 0] (.seq (.block 0 (Y [bm 11 4 2,dA 12 lq 11,fc 13 12,F 14 13,jz 15 14 4 3,hB 16 14 (.call lq [.t 15]),kR 17 14 16,dv 18 14 17,F 10 18] (fA 10 (Y [aO 19 (.build ez []),bq 4 4 19,bA 5 1] .ret) (Y [a9 21 0 3,a9 22 0 21,aS 23 1 22,bs 24 .eql 23 0,F 20 24] (cF 20 [aO 25 (.build ez []),bq 4 4 25,bA 5 15]))))) (Y [a9 27 0 2,bm 28 2 27,a9 29 2 3,bm 30 2 29,ch 31 sT 28 30,F 26 31,bn 32 0 26,bn 33 1 26,cX 6 169006 dF,bq 2 6 32,F 7 33] (Y [a9 35 2 2,bm 36 2 35,a9 37 0 3,bm 38 2 37,ch 39 sT 36 38,F 34 39,bn 40 0 34,bn 41 1 34,cX 8 169008 dF,bq 2 8 40,F 9 41] (Y [bm 42 2 6,F 43 7,bm 44 2 8,F 45 9,xW 46 Bb 42 43 44 45,bn 47 0 46,bn 48 1 46,bq 4 4 47,F 5 48] .ret)))))
abbrev aG:=Raw×Raw
def aV (f:aG):List Data:=[.int .i64 f.1.1,.ay (f.1.2.map aJ),.int .i64 f.2.1,.ay (f.2.2.map aJ)]
def e5 (x:aG×Int):Data:=.dc [.agg (aV x.1),.int .i64 x.2]
def bU (x:Rat):aG:=(bt x.num,bt x.den)
def dL (x:Rat):Prop:=x.num.natAbs<de/\x.den<de
def bY:aG:=((0,[]),(0,[]))
def df (f:aG):Bool:=cP f.1&&(cP f.2&&(f.2.1==1&&(fS (gP f.1).natAbs (gP f.2).natAbs==1)))
def eA (f:aG):Rat:=j1 (gP f.1) (gP f.2)
def MJ (x:Rat):eA (bU x)=x:=by
 unfold eA bU;rw[eL,eL,uL]
def den_pos (x:Rat):0<(x.den:Int):=Int.natCast_pos.2 x.den_pos
def amz {n:Int}(h:0<n):(bt n).1=1:=ij h
def MK (f:aG):df f=true↔∃x,dL x/\f=bU x:=by
 unfold df;simp only[dp,beq_iff_eq]
 constructor
 ·rintro⟨E,G,ab,aM⟩;obtain⟨p,aF,aK⟩:=(hQ _).1 E;obtain⟨q,aL,az⟩:=(hQ _).1 G;obtain⟨f1,f2⟩:=f;simp only at aK az ab aM;subst aK az;rw[eL,eL] at aM
  have Sy:0<q:=by
   rcases jD q with ⟨_,h⟩|⟨e,_⟩|⟨e,_⟩
   ·exact h
   ·have:q.sign=1:=ab;omega
   ·have:q.sign=1:=ab;omega
  refine⟨⟨p,q.natAbs,by omega,aM⟩,⟨aF,aL⟩,?_⟩
  unfold bU;rw[show ((q.natAbs:Nat):Int)=q by omega]
 ·rintro⟨x,⟨E,G⟩,rfl⟩;have ae:(x.den:Int).natAbs<de:=by rw[ik];exact G
  refine⟨jZ E,jZ ae,amz (den_pos x),?_⟩;unfold bU;rw[eL,eL,ik];exact x.reduced
def qJ {x:Rat}(h:dL x):df (bU x)=true:=(MK _).2 ⟨x,h,rfl⟩
def uM {x:Rat}(h:dL x):(x.den:Int).natAbs<de:=by rw[ik];exact h.2
def k0 {z:Int}(h:z.natAbs<de):(aH z.natAbs).length<=1000000:=by have:=n8 h;omega
def Ix (a:Raw):Bool:=(wy a).2&&((wy a).1==1)
def amA {z:Int}(h:z.natAbs<de):Ix (bt z)=decide (z=1):=by
 unfold Ix wy;rw[jZ h,eL]
 by_cases L:dQ z
 ·rw[aq ⟨rfl,L⟩];simp only[iD]
  rfl
 ·rw[ar λh=>L h.2];have:z≠1:=by rintro rfl;exact L (by unfold dQ;omega)
  simp[this]
def ML:=bW qD λ(s,l)=>cv (D l<=1000000) (.same (.bool (Ix (s,l))))
@[go_sem] def azs (s l):=cK ML rfl DW (s,l) rfl
def amB (T:bj)(MM:T Rn=aW MG):WF T aaW ML:=by
 refine cp λ(s,l)=>cN λZ=>⟨rfl,cq ?_⟩;simp only[aaW,qD,cg];unfold Ix;rcases h:(wy (s,l)).2
 ·simp only[go_sem,go_sem_proc,MM,Z,h];repeat' (first|refine an ?_ ?_|fail)<;>intro h<;>simp only[h,go_sem,go_sem_proc,MM,Z,h]
 ·simp only[go_sem,go_sem_proc,MM,Z,h];repeat' (first|refine an ?_ ?_|fail)<;>intro h<;>simp only[h,go_sem,go_sem_proc,MM,Z,h]
abbrev k1:Int×(List Int)×Int×(List Int)->List Data:=λ(s,l,s2,ah)=>[.agg [.int .i64 s,.ay (l.map aJ),.int .i64 s2,.ay (ah.map aJ)]]
def uN:=bW k1 λ(s,l,s2,ah)=>cv (D l<=1000000/\D ah<=1000000) (.same (.bool (df ((s,l),(s2,ah)))))
def uO:∀a b,k1 a=k1 b->a=b:=by
  rintro⟨s1,iP,uI,tc⟩ ⟨s2,ah,uJ,td⟩ h;simp only[bo,Data.agg.injEq,Data.int.injEq,Data.ay.injEq] at h;exact cO h.1.1.2 (cO (map_inj fQ _ _ h.1.2.1) (cO h.1.2.2.1.2 (map_inj fQ _ _ h.1.2.2.2.1)))
@[go_sem] def azt (s l s2 ah):=cK uN rfl uO (s,l,s2,ah) rfl
def amC (T:bj)(eI:T jW=aW s0)(wz:T HC=aW Iq)(MN:T Rf=aW ML):WF T aaQ uN:=by
 refine cp λ(s,l,s2,ah)=>cN λZ=>⟨rfl,cq ?_⟩;simp only[aaQ,k1,cg];obtain⟨bH,bG⟩:=Z
 by_cases Q:cP (s,l)=true
 ·by_cases a5:cP (s2,ah)=true
  ·by_cases R:s2=1
   ·obtain⟨x,J,e⟩:=(hQ _).1 Q;obtain⟨y,af,az⟩:=(hQ _).1 a5
    have aC:lz (s,l) (s2,ah)=(bt ((fS x.natAbs y.natAbs:Nat):Int),0):=by
     unfold lz;rw[Q,a5,e,az,eL,eL];rfl
    have jk:=Ej J af
    have a0:Ix (bt ((fS x.natAbs y.natAbs:Nat):Int))=(fS x.natAbs y.natAbs==1):=by
     rw[amA (by rw[ik];exact jk)];rw[Bool.eq_iff_iff];simp;omega
    have sM:gP (s,l)=x:=by rw[e,eL]
    have mK:gP (s2,ah)=y:=by rw[az,eL]
    have dK:df ((s,l),(s2,ah))=(fS x.natAbs y.natAbs==1):=by
     show (cP (s,l)&&(cP (s2,ah)&&((s2==1)&&(fS (gP (s,l)).natAbs (gP (s2,ah)).natAbs==1))))=_;rw[Q,a5,sM,mK,show (s2==1)=true by simpa using R]
     simp only[iD]
    have SJ:((bt ((fS x.natAbs y.natAbs:Nat):Int)).2).length<=1000000:=k0 (by rw[ik];exact jk);rw[dK,<-a0];generalize bt ((fS x.natAbs y.natAbs:Nat):Int)=bc at *;obtain⟨bZ,bX⟩:=bc;have dE:(s2==1)=true:=by simpa using R
    refine ao ?_;repeat' (intro h<;>simp only[h,go_sem,go_sem_proc,eI,wz,MN,Q,a5,bH,bG,dE,aC,SJ,hC,dG,show ((0:Int)==0)=true from rfl]<;>try refine an ?_ ?_)
   ·have dK:df ((s,l),(s2,ah))=false:=by unfold df;simp[R]
    have dE:(s2==1)=false:=by simpa using R
    rw[dK];refine ao ?_;repeat' (intro h<;>simp only[h,go_sem,go_sem_proc,eI,wz,MN,Q,a5,bH,bG,dE]<;>try refine an ?_ ?_)
  ·have a5:cP (s2,ah)=false:=by simpa using a5
   have dK:df ((s,l),(s2,ah))=false:=by unfold df;simp[a5]
   rw[dK];refine ao ?_;repeat' (intro h<;>simp only[h,go_sem,go_sem_proc,eI,wz,MN,Q,a5,bH,bG]<;>try refine an ?_ ?_)
 ·have Q:cP (s,l)=false:=by simpa using Q
  have dK:df ((s,l),(s2,ah))=false:=by unfold df;simp[Q]
  rw[dK];refine ao ?_;repeat' (intro h<;>simp only[h,go_sem,go_sem_proc,eI,wz,MN,Q,bH,bG]<;>try refine an ?_ ?_)
def hR (p q:Raw):aG×Int :=
 if (cP p&&cP q)=true then (if gP q=0 then (bY,15) else (bU (j1 (gP p) (gP q)),0)) else (bY,1)
def zH {p q:Int}(aF:p.natAbs<de)(aL:q.natAbs<de)(ak:q≠0):hR (bt p) (bt q)=(bU (j1 p q),0):=by
 unfold hR;rw[jZ aF,jZ aL,eL,eL,aq (by rfl),ar ak]
def SK {p q:Int}(aL:0<q):(j1 p q).num=p.fdiv ((fS p.natAbs q.natAbs:Nat):Int)/\((j1 p q).den:Int)=q.fdiv ((fS p.natAbs q.natAbs:Nat):Int):=by
 rw[Rat.num_divInt,Rat.den_divInt,ar (by omega),ij aL,nw];have aC:q.gcd p=fS p.natAbs q.natAbs:=by rw[Int.gcd_comm];rfl
 rw[aC];have ak:(0:Int)<=((fS p.natAbs q.natAbs:Nat):Int):=Int.natCast_nonneg _;rw[SL _ ak,SL _ ak];refine⟨rfl,?_⟩;rw[Int.natCast_ediv]
 congr 1
 omega
def SM {p q:Int}(aL:q≠0):0<fS p.natAbs q.natAbs:=Nat.gcd_pos_of_pos_right _ (by omega)
def MO {p q:Int}(aF:p.natAbs<de)(aL:q.natAbs<de):dL (j1 p q):=by
 have main:∀{p q:Int},p.natAbs<de->q.natAbs<de->0<q->dL (j1 p q):=by
  intro p q aF aL ak;obtain⟨E,G⟩:=SK (p:=p) ak;have aC:=SM (p:=p) (q:=q) (by omega);refine⟨?_,?_⟩
  ·rw[E];exact Ek aF (by omega)
  ·have:=Ek (y:=((fS p.natAbs q.natAbs:Nat):Int)) aL (by omega);rw[<-G,ik] at this;exact this
 rcases rT q 0 with h|h|h
 ·rw[<-aa1];exact main (by omega) (by omega) (by omega)
 ·subst h;rw[Rat.divInt_zero];unfold dL de;exact⟨Nat.pow_pos (by omega),Nat.one_lt_pow (by omega) (by omega)⟩
 ·exact main aF aL h
def Iy:=bW j0 λ(s,l,s2,ah)=>cv (D l<=1000000/\D ah<=1000000) (.same (e5 (hR (s,l) (s2,ah))))
@[go_sem] def azu (s l s2 ah):=cK Iy rfl tb (s,l,s2,ah) rfl
def amD (T:bj)(eI:T jW=aW s0)(yf:T DJ=aW Io)(wz:T HC=aW Iq)(o4:T Bc=aW Iu):WF T aaZ Iy:=by
 refine cp λ(s,l,s2,ah)=>cN λZ=>⟨rfl,cq ?_⟩;simp only[aaZ,j0,cg];obtain⟨bH,bG⟩:=Z
 by_cases Q:cP (s,l)=true
 ·by_cases a5:cP (s2,ah)=true
  ·obtain⟨x,J,e⟩:=(hQ _).1 Q;obtain⟨y,af,az⟩:=(hQ _).1 a5
   by_cases ak:y=0
   ·have hm:hR (s,l) (s2,ah)=(bY,15):=by
     unfold hR;rw[Q,a5,az,eL,aq (by rfl),aq ak]
    rw[hm]
    cases e
    cases az;have R:(y.sign==0)=true:=by rw[ak];rfl
    refine ao ?_;repeat' (intro h<;>simp only[h,go_sem,go_sem_proc,eI,yf,wz,o4,Q,a5,bH,bG,R,e5,aV,bY,cE]<;>try refine an ?_ ?_)
   ·have main:∀p q:Int,p.natAbs<de->q.natAbs<de->0<q->∃g:Raw,lz (bt p) (bt q)=(g,0)/\g.2.length<=1000000/\kY (bt p) g=(bt (j1 p q).num,bt (p.fmod ((fS p.natAbs q.natAbs:Nat):Int)),0)/\kY (bt q) g=(bt (j1 p q).den,bt (q.fmod ((fS p.natAbs q.natAbs:Nat):Int)),0):=by
     intro p q aF aL kT;have jk:=Ej aF aL;have BF:((fS p.natAbs q.natAbs:Nat):Int).natAbs<de:=by rw[ik];exact jk
     have x5:=SM (p:=p) (q:=q) (by omega);obtain⟨E,G⟩:=SK (p:=p) kT;refine⟨bt ((fS p.natAbs q.natAbs:Nat):Int),?_,k0 BF,?_,?_⟩
     ·unfold lz;rw[jZ aF,jZ aL,eL,eL];rfl
     ·rw[BA aF BF (by omega),E]
     ·rw[BA aL BF (by omega),G]
    have nA:(y.sign==0)=false:=by simpa using ak
    rcases Int.lt_or_gt_of_ne ak with kV|hr
    ·have e1:decide (y.sign<0)=true:=by rw[n6 kV];rfl
     obtain⟨⟨bZ,bX⟩,aC,jk,jn,kg⟩:=main (-x) (-y) (by omega) (by omega) (by omega)
     have hm:hR (s,l) (s2,ah)=(bU (j1 (-x) (-y)),0):=by
      rw[e,az,zH J af ak,aa1]
     rw[hm];have tU:kh (s,l)=bt (-x):=by unfold kh;rw[aq Q,e,eL]
     have pD:kh (s2,ah)=bt (-y):=by unfold kh;rw[aq a5,az,eL]
     have rY:s2=y.sign:=congrArg wA az;have hk:(bt (-x)).2.length<=1000000:=k0 (by omega);have il:(bt (-y)).2.length<=1000000:=k0 (by omega);clear e az;unfold bU;generalize bt (-x)=X at *;generalize bt (-y)=cV at *;obtain⟨fe,fJ⟩:=X;obtain⟨uD,wc⟩:=cV;rw[<-rY] at nA e1;refine ao ?_;repeat' (intro h<;>simp only[h,go_sem,go_sem_proc,eI,yf,wz,o4,Q,a5,bH,bG,nA,e1,tU,pD,hk,il,aC,jk,jn,kg,e5,aV,hC,kZ,dG]<;>try refine an ?_ ?_)
    ·have e1:decide (y.sign<0)=false:=by rw[ij hr];rfl
     obtain⟨⟨bZ,bX⟩,aC,jk,jn,kg⟩:=main x y J af hr
     have hm:hR (s,l) (s2,ah)=(bU (j1 x y),0):=by
      rw[e,az,zH J af ak]
     rw[hm];have rY:s2=y.sign:=congrArg wA az;rw[<-e] at aC jn;rw[<-az] at aC kg;rw[<-rY] at nA e1;unfold bU;refine ao ?_;repeat' (intro h<;>simp only[h,go_sem,go_sem_proc,eI,yf,wz,o4,Q,a5,bH,bG,nA,e1,aC,jk,jn,kg,e5,aV,hC,kZ,dG]<;>try refine an ?_ ?_)
  ·have a5:cP (s2,ah)=false:=by simpa using a5
   have hm:hR (s,l) (s2,ah)=(bY,1):=by unfold hR;rw[a5,Bool.and_false];rfl
   rw[hm];refine ao ?_;repeat' (intro h<;>simp only[h,go_sem,go_sem_proc,eI,yf,wz,o4,Q,a5,bH,bG,e5,aV,bY,cE]<;>try refine an ?_ ?_)
 ·have Q:cP (s,l)=false:=by simpa using Q
  have hm:hR (s,l) (s2,ah)=(bY,1):=by unfold hR;rw[Q,Bool.false_and];rfl
  rw[hm];refine ao ?_;repeat' (intro h<;>simp only[h,go_sem,go_sem_proc,eI,yf,wz,o4,Q,bH,bG,e5,aV,bY,cE]<;>try refine an ?_ ?_)
def Ep:=bW v9 λ(p,q)=>cv (dQ p/\dQ q) (.same (e5 (hR (bt p) (bt q))))
@[go_sem] def amE (p q):=cK Ep rfl Mf (p,q) rfl
def amF (T:bj)(amG:T LX=aW MF)(Iz:T HD=aW Iy):WF T aaS Ep:=by
 refine cp λ(p,q)=>cN λZ=>⟨rfl,cq ?_⟩;simp only[aaS,v9,cg];obtain⟨E,G⟩:=Z;have iP:(bt p).2.length<=1000000:=k0 (yd E);have ah:(bt q).2.length<=1000000:=k0 (yd G);generalize db:bt p=P at *;generalize ey:bt q=al at *;obtain⟨fe,fJ⟩:=P;obtain⟨uD,wc⟩:=al;refine ao ?_;repeat' (intro h<;>simp only[h,go_sem,go_sem_proc,amG,Iz,E,G,db,ey,iP,ah,dG,e5,aV]<;>try refine an ?_ ?_)
def yg (a b c d:Raw):Raw×Int :=
 if ((mulR a b).2==0)=true then (if ((mulR c d).2==0)=true then te (mulR a b).1 (mulR c d).1 else ((0,[]),(mulR c d).2)) else ((0,[]),(mulR a b).2)
def aa2 (z:Int):(qH z).1.2.length<=1000000:=by
 unfold qH
 split
 ·exact k0 (by assumption)
 ·simp
def BG (a b:Raw):(mulR a b).1.2.length<=1000000:=by
 unfold mulR
 split
 ·exact aa2 _
 ·simp
def amH (a b:Raw):(te a b).1.2.length<=1000000:=by
 unfold te
 split
 ·exact aa2 _
 ·simp
def amI (a b c d:Raw):(yg a b c d).1.2.length<=1000000:=by
 unfold yg
 split
 ·split
  ·exact amH _ _
  ·simp
 ·simp
abbrev MP:Int×(List Int)×Int×(List Int)×Int×(List Int)×Int×(List Int)->List Data:=λ(s,l,s2,ah,c1,di,dg,dk)=>[.agg [.int .i64 s,.ay (l.map aJ)],.agg [.int .i64 s2,.ay (ah.map aJ)],.agg [.int .i64 c1,.ay (di.map aJ)],.agg [.int .i64 dg,.ay (dk.map aJ)]]
def MQ:=bW MP λ(s,l,s2,ah,c1,di,dg,dk)=>cv (D l<=1000000/\D ah<=1000000/\D di<=1000000/\D dk<=1000000) (.same (hC (yg (s,l) (s2,ah) (c1,di) (dg,dk))))
def amJ:∀a b,MP a=MP b->a=b:=by
  rintro⟨s1,iP,uI,tc,amK,amL,amM,amN⟩ ⟨s2,ah,uJ,td,amO,amP,amQ,amR⟩ h;simp only[bo,Data.agg.injEq,Data.int.injEq,Data.ay.injEq] at h;exact cO h.1.1.2 (cO (map_inj fQ _ _ h.1.2.1) (cO h.2.1.1.2 (cO (map_inj fQ _ _ h.2.1.2.1) (cO h.2.2.1.1.2 (cO (map_inj fQ _ _ h.2.2.1.2.1) (cO h.2.2.2.1.1.2 (map_inj fQ _ _ h.2.2.2.1.2.1)))))))
@[go_sem] def azv (s l s2 ah c1 di dg dk):=cK MQ rfl amJ (s,l,s2,ah,c1,di,dg,dk) rfl
def amS (T:bj)(o5:T sT=aW Bv)(SN:T Ro=aW MA):WF T aaX MQ:=by
 refine cp λ(s,l,s2,ah,c1,di,dg,dk)=>cN λZ=>⟨rfl,cq ?_⟩;simp only[aaX,MP,cg];obtain⟨bH,bG,hk,il⟩:=Z;have aU:=BG (s,l) (s2,ah);have bO:=BG (c1,di) (dg,dk);unfold yg;generalize rV:mulR (s,l) (s2,ah)=k2 at *;generalize zI:mulR (c1,di) (dg,dk)=M2 at *;obtain⟨⟨cx,c3⟩,aK⟩:=k2;obtain⟨⟨cz,ef⟩,az⟩:=M2;rcases E:(aK==0)
 ·refine ao ?_;repeat' (intro h<;>simp only[h,go_sem,go_sem_proc,o5,SN,bH,bG,hk,il,rV,E,aU,bO,hC,dG,cE]<;>try refine an ?_ ?_)
 ·have gE:aK=0:=by simpa using E
  subst gE;rcases G:(az==0)
  ·refine ao ?_;repeat' (intro h<;>simp only[h,go_sem,go_sem_proc,o5,SN,bH,bG,hk,il,rV,zI,E,G,aU,bO,hC,dG,cE]<;>try refine an ?_ ?_)
  ·have hl:az=0:=by simpa using G
   subst hl;refine ao ?_;repeat' (intro h<;>simp only[h,go_sem,go_sem_proc,o5,SN,bH,bG,hk,il,rV,zI,E,aU,bO,hC,dG,cE]<;>try refine an ?_ ?_)
def wB (p:Raw×Int)(q:Raw×Int):aG×Int:=if (p.2==0)=true then (if (q.2==0)=true then hR p.1 q.1 else (bY,6)) else (bY,6)
abbrev MR:Int×(List Int)×Int×Int×(List Int)×Int->List Data:=λ(s,l,e,s2,ah,az)=>[.agg [.int .i64 s,.ay (l.map aJ)],.int .i64 e,.agg [.int .i64 s2,.ay (ah.map aJ)],.int .i64 az]
def Er:=bW MR λ(s,l,e,s2,ah,az)=>cv (D l<=1000000/\D ah<=1000000) (.same (e5 (wB ((s,l),e) ((s2,ah),az))))
def amT:∀a b,MR a=MR b->a=b:=by
  rintro⟨s1,iP,aK,uI,tc,MS⟩ ⟨s2,ah,az,uJ,td,azw⟩ h;simp only[bo,Data.agg.injEq,Data.int.injEq,Data.ay.injEq] at h;exact cO h.1.1.2 (cO (map_inj fQ _ _ h.1.2.1) (cO h.2.1.2 (cO h.2.2.1.1.2 (cO (map_inj fQ _ _ h.2.2.1.2.1) h.2.2.2.1.2))))
@[go_sem] def azx (s l e s2 ah az):=cK Er rfl amT (s,l,e,s2,ah,az) rfl
def amU (T:bj)(Iz:T HD=aW Iy):WF T aaY Er:=by
 refine cp λ(s,l,e,s2,ah,az)=>cN λZ=>⟨rfl,cq ?_⟩;simp only[aaY,MR,cg];obtain⟨bH,bG⟩:=Z;unfold wB;rcases E:(e==0)
 ·refine ao ?_;repeat' (intro h<;>simp only[h,go_sem,go_sem_proc,Iz,bH,bG,E,e5,aV,bY,cE]<;>try refine an ?_ ?_)
 ·have gE:e=0:=by simpa using E
  subst gE;rcases G:(az==0)
  ·refine ao ?_;repeat' (intro h<;>simp only[h,go_sem,go_sem_proc,Iz,bH,bG,E,G,e5,aV,bY,cE]<;>try refine an ?_ ?_)
  ·have hl:az=0:=by simpa using G
   subst hl;refine ao ?_;repeat' (intro h<;>simp only[h,go_sem,go_sem_proc,Iz,bH,bG,E,e5,aV,bY,cE]<;>try refine an ?_ ?_)
def ti (a b:aG):aG×Int:=if df a=true then (if df b=true then wB (yg a.1 b.2 b.1 a.2) (mulR a.2 b.2) else (bY,1)) else (bY,1)
def nB (a b:aG):aG×Int:=if df a=true then (if df b=true then ti a (kh b.1,b.2) else (bY,1)) else (bY,1)
def lA (a b:aG):aG×Int:=if df a=true then (if df b=true then wB (mulR a.1 b.1) (mulR a.2 b.2) else (bY,1)) else (bY,1)
def jE (a b:aG):aG×Int:=if df a=true then (if df b=true then (if (b.1.1==0)=true then (bY,15) else wB (mulR a.1 b.2) (mulR a.2 b.1)) else (bY,1)) else (bY,1)
def amV (a:Raw)(h:a.2.length<=1000000):(kh a).2.length<=1000000:=by
 unfold kh
 split
 ·rename_i Q;obtain⟨z,aP,e⟩:=(hQ _).1 Q;rw[e,eL];exact k0 (by omega)
 ·simp
abbrev qK:Int×(List Int)×Int×(List Int)×Int×(List Int)×Int×(List Int)->List Data:=λ(s,l,s2,ah,c1,di,dg,dk)=>[.agg [.int .i64 s,.ay (l.map aJ),.int .i64 s2,.ay (ah.map aJ)],.agg [.int .i64 c1,.ay (di.map aJ),.int .i64 dg,.ay (dk.map aJ)]]
def BH:=bW qK λ(s,l,s2,ah,c1,di,dg,dk)=>cv (D l<=1000000/\D ah<=1000000/\D di<=1000000/\D dk<=1000000) (.same (e5 (ti ((s,l),(s2,ah)) ((c1,di),(dg,dk)))))
def Es:∀a b,qK a=qK b->a=b:=by
  rintro⟨s1,iP,uI,tc,amK,amL,amM,amN⟩ ⟨s2,ah,uJ,td,amO,amP,amQ,amR⟩ h;simp only[bo,Data.agg.injEq,Data.int.injEq,Data.ay.injEq] at h;exact cO h.1.1.2 (cO (map_inj fQ _ _ h.1.2.1) (cO h.1.2.2.1.2 (cO (map_inj fQ _ _ h.1.2.2.2.1) (cO h.2.1.1.2 (cO (map_inj fQ _ _ h.2.1.2.1) (cO h.2.1.2.2.1.2 (map_inj fQ _ _ h.2.1.2.2.2.1)))))))
@[go_sem] def amW (s l s2 ah c1 di dg dk):=cK BH rfl Es (s,l,s2,ah,c1,di,dg,dk) rfl
def amX (T:bj)(hD:T lq=aW uN)(SO:T Rg=aW MQ)(o5:T sT=aW Bv)(tj:T Bb=aW Er):WF T aaR BH:=by
 refine cp λ(s,l,s2,ah,c1,di,dg,dk)=>cN λZ=>⟨rfl,cq ?_⟩;simp only[aaR,qK,cg];obtain⟨bH,bG,hk,il⟩:=Z;unfold ti
 by_cases Q:df ((s,l),(s2,ah))=true
 ·by_cases a5:df ((c1,di),(dg,dk))=true
  ·have aU:=amI (s,l) (dg,dk) (c1,di) (s2,ah);have bO:=BG (s2,ah) (dg,dk);rw[aq Q,aq a5];dsimp only;generalize rV:yg (s,l) (dg,dk) (c1,di) (s2,ah)=k2 at *;generalize zI:mulR (s2,ah) (dg,dk)=M2 at *;obtain⟨⟨cx,c3⟩,aK⟩:=k2;obtain⟨⟨cz,ef⟩,az⟩:=M2;refine ao ?_;repeat' (intro h<;>simp only[h,go_sem,go_sem_proc,hD,SO,o5,tj,bH,bG,hk,il,Q,a5,rV,zI,aU,bO,hC,dG,e5,aV]<;>try refine an ?_ ?_)
  ·have a5:df ((c1,di),(dg,dk))=false:=by simpa using a5
   rw[aq Q,ar (by simp[a5])];refine ao ?_;repeat' (intro h<;>simp only[h,go_sem,go_sem_proc,hD,SO,o5,tj,bH,bG,hk,il,Q,a5,e5,aV,bY,cE]<;>try refine an ?_ ?_)
 ·have Q:df ((s,l),(s2,ah))=false:=by simpa using Q
  rw[ar (by simp[Q])];refine ao ?_;repeat' (intro h<;>simp only[h,go_sem,go_sem_proc,hD,SO,o5,tj,bH,bG,hk,il,Q,e5,aV,bY,cE]<;>try refine an ?_ ?_)
def BI:=bW qK λ(s,l,s2,ah,c1,di,dg,dk)=>cv (D l<=1000000/\D ah<=1000000/\D di<=1000000/\D dk<=1000000) (.same (e5 (nB ((s,l),(s2,ah)) ((c1,di),(dg,dk)))))
@[go_sem] def azy (s l s2 ah c1 di dg dk):=cK BI rfl Es (s,l,s2,ah,c1,di,dg,dk) rfl
def amY (T:bj)(hD:T lq=aW uN)(yf:T DJ=aW Io)(Et:T A9=aW BH):WF T aaT BI:=by
 refine cp λ(s,l,s2,ah,c1,di,dg,dk)=>cN λZ=>⟨rfl,cq ?_⟩;simp only[aaT,qK,cg];obtain⟨bH,bG,hk,il⟩:=Z;unfold nB
 by_cases Q:df ((s,l),(s2,ah))=true
 ·by_cases a5:df ((c1,di),(dg,dk))=true
  ·have aU:=amV (c1,di) hk;rw[aq Q,aq a5];dsimp only;generalize rV:kh (c1,di)=k2 at *;obtain⟨cx,c3⟩:=k2;refine ao ?_;repeat' (intro h<;>simp only[h,go_sem,go_sem_proc,hD,yf,Et,bH,bG,hk,il,Q,a5,rV,aU,hC,dG,e5,aV]<;>try refine an ?_ ?_)
  ·have a5:df ((c1,di),(dg,dk))=false:=by simpa using a5
   rw[aq Q,ar (by simp[a5])];refine ao ?_;repeat' (intro h<;>simp only[h,go_sem,go_sem_proc,hD,yf,Et,bH,bG,hk,il,Q,a5,e5,aV,bY,cE]<;>try refine an ?_ ?_)
 ·have Q:df ((s,l),(s2,ah))=false:=by simpa using Q
  rw[ar (by simp[Q])];refine ao ?_;repeat' (intro h<;>simp only[h,go_sem,go_sem_proc,hD,yf,Et,bH,bG,hk,il,Q,e5,aV,bY,cE]<;>try refine an ?_ ?_)
def yh:=bW qK λ(s,l,s2,ah,c1,di,dg,dk)=>cv (D l<=1000000/\D ah<=1000000/\D di<=1000000/\D dk<=1000000) (.same (e5 (lA ((s,l),(s2,ah)) ((c1,di),(dg,dk)))))
@[go_sem] def amZ (s l s2 ah c1 di dg dk):=cK yh rfl Es (s,l,s2,ah,c1,di,dg,dk) rfl
def am0 (T:bj)(hD:T lq=aW uN)(o5:T sT=aW Bv)(tj:T Bb=aW Er):WF T aaU yh:=by
 refine cp λ(s,l,s2,ah,c1,di,dg,dk)=>cN λZ=>⟨rfl,cq ?_⟩;simp only[aaU,qK,cg];obtain⟨bH,bG,hk,il⟩:=Z;unfold lA
 by_cases Q:df ((s,l),(s2,ah))=true
 ·by_cases a5:df ((c1,di),(dg,dk))=true
  ·have aU:=BG (s,l) (c1,di);have bO:=BG (s2,ah) (dg,dk);rw[aq Q,aq a5];dsimp only;generalize rV:mulR (s,l) (c1,di)=k2 at *;generalize zI:mulR (s2,ah) (dg,dk)=M2 at *;obtain⟨⟨cx,c3⟩,aK⟩:=k2;obtain⟨⟨cz,ef⟩,az⟩:=M2;refine ao ?_;repeat' (intro h<;>simp only[h,go_sem,go_sem_proc,hD,o5,tj,bH,bG,hk,il,Q,a5,rV,zI,aU,bO,hC,dG,e5,aV]<;>try refine an ?_ ?_)
  ·have a5:df ((c1,di),(dg,dk))=false:=by simpa using a5
   rw[aq Q,ar (by simp[a5])];refine ao ?_;repeat' (intro h<;>simp only[h,go_sem,go_sem_proc,hD,o5,tj,bH,bG,hk,il,Q,a5,e5,aV,bY,cE]<;>try refine an ?_ ?_)
 ·have Q:df ((s,l),(s2,ah))=false:=by simpa using Q
  rw[ar (by simp[Q])];refine ao ?_;repeat' (intro h<;>simp only[h,go_sem,go_sem_proc,hD,o5,tj,bH,bG,hk,il,Q,e5,aV,bY,cE]<;>try refine an ?_ ?_)
def BJ:=bW qK λ(s,l,s2,ah,c1,di,dg,dk)=>cv (D l<=1000000/\D ah<=1000000/\D di<=1000000/\D dk<=1000000) (.same (e5 (jE ((s,l),(s2,ah)) ((c1,di),(dg,dk)))))
@[go_sem] def am1 (s l s2 ah c1 di dg dk):=cK BJ rfl Es (s,l,s2,ah,c1,di,dg,dk) rfl
def am2 (T:bj)(hD:T lq=aW uN)(o5:T sT=aW Bv)(tj:T Bb=aW Er):WF T aa0 BJ:=by
 refine cp λ(s,l,s2,ah,c1,di,dg,dk)=>cN λZ=>⟨rfl,cq ?_⟩;simp only[aa0,qK,cg];obtain⟨bH,bG,hk,il⟩:=Z;unfold jE
 by_cases Q:df ((s,l),(s2,ah))=true
 ·by_cases a5:df ((c1,di),(dg,dk))=true
  ·rw[aq Q,aq a5];dsimp only;rcases ak:(c1==0)
   ·have aU:=BG (s,l) (dg,dk);have bO:=BG (s2,ah) (c1,di);rw[ar (by simp)];generalize rV:mulR (s,l) (dg,dk)=k2 at *;generalize zI:mulR (s2,ah) (c1,di)=M2 at *;obtain⟨⟨cx,c3⟩,aK⟩:=k2;obtain⟨⟨cz,ef⟩,az⟩:=M2;refine ao ?_;repeat' (intro h<;>simp only[h,go_sem,go_sem_proc,hD,o5,tj,bH,bG,hk,il,Q,a5,ak,rV,zI,aU,bO,hC,dG,e5,aV]<;>try refine an ?_ ?_)
   ·rw[aq rfl];refine ao ?_;repeat' (intro h<;>simp only[h,go_sem,go_sem_proc,hD,o5,tj,bH,bG,hk,il,Q,a5,ak,e5,aV,bY,cE]<;>try refine an ?_ ?_)
  ·have a5:df ((c1,di),(dg,dk))=false:=by simpa using a5
   rw[aq Q,ar (by simp[a5])];refine ao ?_;repeat' (intro h<;>simp only[h,go_sem,go_sem_proc,hD,o5,tj,bH,bG,hk,il,Q,a5,e5,aV,bY,cE]<;>try refine an ?_ ?_)
 ·have Q:df ((s,l),(s2,ah))=false:=by simpa using Q
  rw[ar (by simp[Q])];refine ao ?_;repeat' (intro h<;>simp only[h,go_sem,go_sem_proc,hD,o5,tj,bH,bG,hk,il,Q,e5,aV,bY,cE]<;>try refine an ?_ ?_)
def zJ (c:Bool)(v:Rat):aG×Int:=if c=true then (bU v,0) else (bY,6)
def hS (z:Int):Bool:=decide (z.natAbs<de)
def tk (x y:Rat):Bool:=hS (x.num*y.den)&&(hS (y.num*x.den)&&(hS (x.num*y.den+y.num*x.den)&&hS ((x.den:Int)*y.den)))
def yi (x y:Rat):Bool:=hS (x.num*y.num)&&hS ((x.den:Int)*y.den)
def wC (x y:Rat):Bool:=hS (x.num*y.den)&&hS ((x.den:Int)*y.num)
def zK {z:Int}(h:hS z=true):qH z=(bt z,0):=aq (by simpa [hS] using h)
def zL {z:Int}(h:hS z=false):qH z=((0,[]),6):=ar (by simpa [hS] using h)
def qL {z:Int}(h:hS z=true):z.natAbs<de:=by simpa [hS] using h
def am3 {a b c d:Int}(a2:a.natAbs<de)(U:b.natAbs<de)(Z:c.natAbs<de)(ae:d.natAbs<de):
  yg (bt a) (bt b) (bt c) (bt d)=if (hS (a*b)&&(hS (c*d)&&hS (a*b+c*d)))=true then (bt (a*b+c*d),0) else ((0,[]),6):=by
 unfold yg;rw[zB a2 U,zB Z ae];rcases E:hS (a*b)
 ·rw[zL E];rfl
 ·rw[zK E];rcases G:hS (c*d)
  ·rw[zL G];rfl
  ·rw[zK G];show te (bt (a*b)) (bt (c*d))=_;rw[aaG (qL E) (qL G)];rcases ab:hS (a*b+c*d)
   ·rw[zL ab];rfl
   ·rw[zK ab];rfl
def SP (x y:Rat):j1 (x.num*y.den+y.num*x.den) ((x.den:Int)*y.den)=x+y:=by
 rw[<-Rat.divInt_add_divInt _ _ (by have:=den_pos x;omega) (by have:=den_pos y;omega),uL,uL]
def SQ (x y:Rat):j1 (x.num*y.num) ((x.den:Int)*y.den)=x*y:=by
 rw[<-aa3,uL,uL]
def aa4 (x y:Rat):j1 (x.num*y.den) ((x.den:Int)*y.num)=x/y:=by
 rw[<-aa3,uL,<-Rat.inv_divInt,uL]
 rfl
def wD (x:Rat):(x.den:Int)≠0:=by have:=den_pos x;omega
def aa5 {x y:Rat}(J:dL x)(af:dL y):ti (bU x) (bU y)=zJ (tk x y) (x+y):=by
 unfold ti;rw[aq (qJ J),aq (qJ af)];show wB (yg (bt x.num) (bt y.den) (bt y.num) (bt x.den)) (mulR (bt x.den) (bt y.den))=_;rw[am3 J.1 (uM af) af.1 (uM J),zB (uM J) (uM af)];unfold tk;rcases E:hS (x.num*y.den)
 ·rfl
 ·rcases G:hS (y.num*x.den)
  ·rfl
  ·rcases ab:hS (x.num*y.den+y.num*x.den)
   ·rfl
   ·rcases aM:hS ((x.den:Int)*y.den)
    ·rw[zL aM];rfl
    ·rw[zK aM];show hR (bt (x.num*y.den+y.num*x.den)) (bt ((x.den:Int)*y.den))=(bU (x+y),0)
     rw[zH (qL ab) (qL aM) (wE (wD x) (wD y)),SP]
def am4 {x:Rat}(h:dL x):dL (-x):=⟨by rw[Rat.neg_num];have:=h.1;omega,by rw[Rat.neg_den];exact h.2⟩
def MT {x y:Rat}(J:dL x)(af:dL y):nB (bU x) (bU y)=zJ (tk x (-y)) (x-y):=by
 unfold nB;rw[aq (qJ J),aq (qJ af)]
 have:(kh (bU y).1,(bU y).2)=bU (-y):=by
  unfold bU;have:kh (bt y.num)=bt (-y.num):=by unfold kh;rw[aq (jZ af.1),eL]
  dsimp only;rw[this];rfl
 rw[this,aa5 J (am4 af),IA]
def SR {x y:Rat}(J:dL x)(af:dL y):lA (bU x) (bU y)=zJ (yi x y) (x*y):=by
 unfold lA;rw[aq (qJ J),aq (qJ af)];show wB (mulR (bt x.num) (bt y.num)) (mulR (bt x.den) (bt y.den))=_;rw[zB J.1 af.1,zB (uM J) (uM af)];unfold yi;rcases E:hS (x.num*y.num)
 ·rw[zL E];rfl
 ·rw[zK E];rcases aM:hS ((x.den:Int)*y.den)
  ·rw[zL aM];rfl
  ·rw[zK aM];show hR (bt (x.num*y.num)) (bt ((x.den:Int)*y.den))=(bU (x*y),0)
   rw[zH (qL E) (qL aM) (wE (wD x) (wD y)),SQ]
def SU {x y:Rat}(J:dL x)(af:dL y)(ak:y≠0):jE (bU x) (bU y)=zJ (wC x y) (x/y):=by
 unfold jE;rw[aq (qJ J),aq (qJ af)];have aE:y.num≠0:=λh=>ak (Rat.num_eq_zero.1 h)
 have:((bU y).1.1==0)=false:=by
  show (y.num.sign==0)=false
  simpa using aE
 rw[this,ar (by simp)];show wB (mulR (bt x.num) (bt y.den)) (mulR (bt x.den) (bt y.num))=_;rw[zB J.1 (uM af),zB (uM J) af.1];unfold wC;rcases E:hS (x.num*y.den)
 ·rw[zL E];rfl
 ·rw[zK E];rcases aM:hS ((x.den:Int)*y.num)
  ·rw[zL aM];rfl
  ·rw[zK aM];show hR (bt (x.num*y.den)) (bt ((x.den:Int)*y.num))=(bU (x/y),0)
   rw[zH (qL E) (qL aM) (wE (wD x) aE),aa4]
def am5 {x y:Rat}(h:tk x y=true):dL (x+y):=by
 unfold tk at h;simp only[dp] at h;rw[<-SP];exact MO (qL h.2.2.1) (qL h.2.2.2)
def aa6 {x y:Rat}(h:tk x (-y)=true):dL (x-y):=by rw[IA];exact am5 h
def aa7 {x y:Rat}(h:yi x y=true):dL (x*y):=by
 unfold yi at h;simp only[dp] at h;rw[<-SQ];exact MO (qL h.1) (qL h.2)
def am6 {x y:Rat}(h:wC x y=true):dL (x/y):=by
 unfold wC at h;simp only[dp] at h;rw[<-aa4];exact MO (qL h.1) (qL h.2)
def pX (x y:Rat):Int:=(x.num*y.den-y.num*x.den).sign
def od (a b:aG):Int:=if df a=true then (if df b=true then (gP a.1*gP b.2-gP b.1*gP a.2).sign else 0) else 0
def Eu {x y:Rat}(J:dL x)(af:dL y):od (bU x) (bU y)=pX x y:=by
 unfold od;rw[aq (qJ J),aq (qJ af)];unfold bU pX;rw[eL,eL,eL,eL]
def am7 {x y:Rat}:pX x y=0↔x=y:=by
 unfold pX;rw[Int.sign_eq_zero_iff_zero,Rat.eq_iff_mul_eq_mul];omega
def MU {p q:Int}(aL:0<q):0<=p.fmod q/\p.fmod q<q:=⟨Int.fmod_nonneg_of_pos _ aL,Int.fmod_lt_of_pos _ aL⟩
def aa8 {p q r s:Int}(aL:0<q)(R:0<s)(h:p.fdiv q<r.fdiv s):p*s-r*q<0:=by
 have aK:=MV p q;have az:=MV r s;have cz:=MU (p:=p) aL;have ef:=MU (p:=r) R;generalize p.fdiv q=x at *;generalize r.fdiv s=y at *;generalize p.fmod q=u at *;generalize r.fmod s=v at *;subst aK az;have E:q*s*(x+1)<=q*s*y:=Int.mul_le_mul_of_nonneg_left (by omega) (Int.le_of_lt (Int.mul_pos aL R));have G:u*s<q*s:=Int.mul_lt_mul_of_pos_right cz.2 R;have ab:0<=v*q:=Int.mul_nonneg ef.1 (by omega);have ee:(q*x+u)*s-(s*y+v)*q=q*s*(x+1)-q*s*y+(u*s-q*s)-v*q:=by grind
 omega
def am8 {p q r s:Int}(h:p.fdiv q=r.fdiv s):p*s-r*q=p.fmod q*s-r.fmod s*q:=by
 have aK:=MV p q;have az:=MV r s;rw[h] at aK;generalize r.fdiv s=y at *;generalize p.fmod q=u at *;generalize r.fmod s=v at *;subst aK az;grind
def aa9 (a b:Int):(a-b).sign = -(b-a).sign:=by rw[<-Ef];congr 1;omega
def aba {p q:Int}(aF:p.natAbs<de)(aL:q.natAbs<de)(ak:0<q):
  kY (p.sign,aH p.natAbs) (q.sign,aH q.natAbs)=(((p.fdiv q).sign,aH (p.fdiv q).natAbs),((p.fmod q).sign,aH (p.fmod q).natAbs),0):=BA aF aL (by omega)
def Ev:=bW qK λ(s,l,s2,ah,c1,di,dg,dk)=>cv (D l<=1000000/\D ah<=1000000/\D di<=1000000/\D dk<=1000000) (.same (.int .i64 (od ((s,l),(s2,ah)) ((c1,di),(dg,dk)))))
@[go_sem] def azz (s l s2 ah c1 di dg dk):=cK Ev rfl Es (s,l,s2,ah,c1,di,dg,dk) rfl
def am9 (T:bj)(hD:T lq=aW uN)(o4:T Bc=aW Iu)(wF:T Rm=aW MC):WF T aaV Ev:=by
 refine cp λ(s,l,s2,ah,c1,di,dg,dk)=>cN λZ=>⟨rfl,cq ?_⟩;simp only[aaV,qK,cg];obtain⟨bH,bG,hk,il⟩:=Z
 by_cases Q:df ((s,l),(s2,ah))=true
 ·by_cases a5:df ((c1,di),(dg,dk))=true
  ·obtain⟨x,J,e⟩:=(MK _).1 Q;obtain⟨y,af,az⟩:=(MK _).1 a5;have hm:od ((s,l),(s2,ah)) ((c1,di),(dg,dk))=pX x y:=by rw[e,az,Eu J af]
   rw[hm];clear hm;have ana:(s,l)=bt x.num:=congrArg wA e;have SV:(s2,ah)=bt x.den:=congrArg Prod.snd e;have anb:(c1,di)=bt y.num:=congrArg wA az;have anc:(dg,dk)=bt y.den:=congrArg Prod.snd az;clear e az;have ane:=uM J;have anf:=uM af;have zM:=den_pos x;have g8:=den_pos y;have IB:=J.1;have G1:=af.1;unfold pX;generalize x.num=P at *;generalize (x.den:Int)=al at *;generalize y.num=bR at *;generalize (y.den:Int)=S at *
   cases ana
   cases SV
   cases anb
   cases anc;simp only[go_sem,go_sem_proc,hD,o4,wF,bH,bG,hk,il,Q,a5];refine du [5,6,7,8] [135002,135003] (λ((qM,p,q,r,t):Int×Int×Int×Int×Int) tm mem=>(qM=1\/qM = -1)/\0<q/\0<t/\p.natAbs<de/\q.natAbs<de/\r.natAbs<de/\t.natAbs<de/\(P*S-bR*al).sign=qM*(p*t-r*q).sign/\tm 9=.M (.int .i64 qM)/\mem 135005=some (0,[.M (.int .i64 p.sign),.M (.ay ((aH p.natAbs).map aJ))])/\mem 135006=some (0,[.M (.int .i64 q.sign),.M (.ay ((aH q.natAbs).map aJ))])/\mem 135007=some (0,[.M (.int .i64 r.sign),.M (.ay ((aH r.natAbs).map aJ))])/\mem 135008=some (0,[.M (.int .i64 t.sign),.M (.ay ((aH t.natAbs).map aJ))])) (λ(_,_,q,_,_)=>q.natAbs) (1,P,al,bR,S) (by refine⟨.inl rfl,zM,g8,IB,ane,G1,anf,by rw[nw],rfl,?_,?_,?_,?_⟩<;>rfl) ?_;intro vs ms aY aT;simp only[go_sem,go_sem_proc,hD,o4,wF] at aY aT;subst aY aT;rintro⟨qM,p,q,r,t⟩ tm mem O hm ⟨qN,kT,BK,aF,aL,SW,bx,g5,jj,hn,gF,IC,o6⟩;simp only[go_sem,go_sem_proc,hD,o4,wF,bo] at O hm;obtain⟨bl,bz,bP,ct⟩:=O;have Ew:=k0 aF;have hT:=k0 aL;have ID:=k0 SW;have lt:=k0 bx;have jn:=aba aF aL kT;have kg:=aba SW bx BK;have abb:=Ek (y:=q) aF (by omega);have IE:=Ek (y:=t) SW (by omega);have Ex:=k0 abb;have IF:=k0 IE;have gC:o3 ((p.fdiv q).sign,aH (p.fdiv q).natAbs) ((r.fdiv t).sign,aH (r.fdiv t).natAbs)=gN (p.fdiv q) (r.fdiv t):=MB abb IE;have azA:=MU (p:=p) kT;have bv:=MU (p:=r) BK;have ang:IntKind.i64.wrap (0-qM) = -qM:=by rcases qN with rfl|rfl<;>rfl
   rcases rT (p.fdiv q) (r.fdiv t) with av|heq|lj
   ·have ai:=aa8 kT BK av;rw[Bx av] at gC;rw[g5,n6 ai];have hw:IntKind.i64.wrap (qM * -1)=qM * -1:=by rcases qN with rfl|rfl<;>rfl
    refine ao ?_;repeat' (intro h<;>simp only[h,go_sem,go_sem_proc,hD,o4,wF,bl,bz,bP,ct,jj,hm,hn,gF,IC,o6,Ew,hT,ID,lt,Ex,IF,jn,kg,gC,hw,kZ,dG,show ((-1:Int)==0)=false from rfl]<;>try refine an ?_ ?_)
   ·have ai:=am8 heq;rw[heq,Ei] at gC
    have gD:∀a:Int,-1<=a->a<=1->IntKind.i64.wrap (qM*a)=qM*a:=by
     intro a E G;rcases qN with rfl|rfl<;>exact wrap64 _ (by omega) (by omega)
    rw[heq] at jn Ex;have azB:(p.fmod q).natAbs<de:=by omega
    have azC:(r.fmod t).natAbs<de:=by omega
    rw[ai] at g5;generalize p.fmod q=u at *;generalize r.fmod t=v at *
    by_cases hu:u=0
    ·subst hu
     have R:(0*t-v*q).sign=(0:Int).sign-v.sign:=by
      rw[ya,abc,Ef,oa,ij kT,rM,wG,abc]
     rw[R] at g5;rw[g5];have ab:=o2 v;have zy:IntKind.i64.wrap ((0:Int).sign-v.sign)=(0:Int).sign-v.sign:=wrap64 _ (by rw[wG];omega) (by rw[wG];omega);have hw:=gD ((0:Int).sign-v.sign) (by rw[wG];omega) (by rw[wG];omega);refine ao ?_;repeat' (intro h<;>simp only[h,go_sem,go_sem_proc,hD,o4,wF,bl,bz,bP,ct,jj,hm,hn,gF,IC,o6,Ew,hT,ID,lt,Ex,IF,jn,kg,gC,hw,zy,kZ,dG,show ((0:Int)==0)=true from rfl,show ((0:Int).sign==0)=true from rfl]<;>try refine an ?_ ?_)
    ·have En:0<u:=by omega
     have abd:(u.sign==0)=false:=by simpa using hu
     by_cases xp:v=0
     ·subst xp
      have R:(u*t-0*q).sign=u.sign-(0:Int).sign:=by
       rw[ya,HY,oa,ij BK,rM,wG,HY]
      rw[R] at g5;rw[g5];have ab:=o2 u;have zy:IntKind.i64.wrap (u.sign-(0:Int).sign)=u.sign-(0:Int).sign:=wrap64 _ (by rw[wG];omega) (by rw[wG];omega);have hw:=gD (u.sign-(0:Int).sign) (by rw[wG];omega) (by rw[wG];omega);refine ao ?_;repeat' (intro h<;>simp only[h,go_sem,go_sem_proc,hD,o4,wF,bl,bz,bP,ct,jj,hm,hn,gF,IC,o6,Ew,hT,ID,lt,Ex,IF,jn,kg,gC,hw,zy,abd,kZ,dG,show ((0:Int)==0)=true from rfl,show ((0:Int).sign==0)=true from rfl]<;>try refine an ?_ ?_)
     ·have sM:(v.sign==0)=false:=by simpa using xp
      refine ao ?_;repeat' (intro h<;>simp only[h,go_sem,go_sem_proc,hD,o4,wF,bl,bz,bP,ct,jj,hm,hn,gF,IC,o6,Ew,hT,ID,lt,Ex,IF,jn,kg,gC,abd,sM,ang,kZ,dG,show ((0:Int)==0)=true from rfl]<;>try refine an ?_ ?_)
      refine⟨(-qM,q,u,t,v),by dsimp only;omega,by dsimp only;omega,by dsimp only;omega,by dsimp only;omega,by dsimp only;omega,by dsimp only;omega,by dsimp only;omega,by dsimp only;omega,?_,by simp[go_sem],by simp[go_sem],by simp[go_sem],by simp[go_sem],by simp[go_sem]⟩
      dsimp only;rw[g5,aa9 (q*v) (t*u),Int.neg_mul_neg,mj t u,mj q v]
   ·have ai:=aa8 BK kT lj;rw[By lj] at gC;rw[g5,aa9,n6 ai];have hw:IntKind.i64.wrap (qM*1)=qM * -(-1):=by rcases qN with rfl|rfl<;>rfl
    refine ao ?_;repeat' (intro h<;>simp only[h,go_sem,go_sem_proc,hD,o4,wF,bl,bz,bP,ct,jj,hm,hn,gF,IC,o6,Ew,hT,ID,lt,Ex,IF,jn,kg,gC,hw,kZ,dG,show ((1:Int)==0)=false from rfl]<;>try refine an ?_ ?_)
  ·have a5:df ((c1,di),(dg,dk))=false:=by simpa using a5
   have hm:od ((s,l),(s2,ah)) ((c1,di),(dg,dk))=0:=by unfold od;rw[aq Q,ar (by simp[a5])]
   rw[hm];refine ao ?_;repeat' (intro h<;>simp only[h,go_sem,go_sem_proc,hD,o4,wF,bH,bG,hk,il,Q,a5]<;>try refine an ?_ ?_)
 ·have Q:df ((s,l),(s2,ah))=false:=by simpa using Q
  have hm:od ((s,l),(s2,ah)) ((c1,di),(dg,dk))=0:=by unfold od;rw[ar (by simp[Q])]
  rw[hm];refine ao ?_;repeat' (intro h<;>simp only[h,go_sem,go_sem_proc,hD,o4,wF,bH,bG,hk,il,Q]<;>try refine an ?_ ?_)
def abe:bN:=b9 22 2 [.t 4] (Y [c9 3 108003 1,cw 4 false] (.seq (Y [aS 6 1 3,bs 7 .lss 6 0,F 8 7,gh 9 8 1 3,jA 10 8 .gtr 9 40,dv 11 8 10,F 12 11,gX 13 12 0,pR 14 12 13,gh 15 12 1 3,qC 16 12 .neq 14 15,dv 17 12 16] (cF 17 [cw 4 false])) (Y [aO 5 (.alloc 108005 [.M .q8]),⟨none,none,.store 1 (.t 5) (.c (.dB rJ []))⟩] (Y [F 18 0,aO 19 (.tO LV [.t 3,.t 5]),ch 20 Rd 18 19,fc 21 20,F 4 21] .ret))))
def abf:bN:=b9 48 2 [.t 4,.t 5] (Y [ek 4,bA 5 0] (.seq (Y [F 11 0,F 12 1,ch 13 Rb 11 12,fc 14 13] (cF 14 [ek 4,bA 5 1])) (Y [F 16 0,F 17 1,aO 18 (.call Re [.t 16,.t 17,.c (.M (.bool true))]),F 15 18,bn 19 0 15,bn 20 1 15,F 6 19,F 7 20] (.seq (.block 0 (Y [F 22 6,n1 23 22,a9 24 2 23,aS 25 1 24,F 21 25] (fA 21 (Y [ek 4,bA 5 6] .ret) (Y [F 27 7,b8 28 27,bs 29 .gtr 28 0,F 26 29] (cF 26 [ek 4,bA 5 17]))))) (Y [ek 8] (.seq (Y [F 30 6,n1 31 30,a9 32 0 31,aS 33 1 32,b8 34 33,bA 35 0] (.block 1 (.ghost (.rb 8 109045 4) (.loop  (Y [bB 36 .lss 35 34] (.seq (dT 36 1) (.seq (.block 2 (Y [b2 37 1 33 35,aS 38 1 37,F 10 38] (.ops [F 39 8,F 40 10,F 41 1,b2 42 4 40 41,bm 43 4 42,aO 44 (.ed 109044 false ez 4 1 [(0,4,.t 43)]),aO 45 (.app 109045 ez 64 (.t 39) (.t 44)),F 8 45]))) (.ops [bs 46 .add 35 1,F 35 46])))))))) (Y [F 47 8,F 4 47,bA 5 0] .ret)))))))
def abg:bN:=b9 6 1 [.t 2] (Y [c9 1 125001 0,cw 2 false] (Y [bm 3 4 1,dA 4 lq 3,fc 5 4,F 2 5] .ret))
def abh:bN:=b9 22 3 [.t 4] (Y [c9 3 127003 0,cw 4 false] (Y [a9 5 0 3,aS 6 1 5,b8 7 6,aS 8 1 1,bB 9 .neq 7 8,F 10 9,gh 11 10 1 2,gp 12 10 1 3,jz 13 10 4 12,hB 14 10 (.jc (.t 11) [.t 13]),dv 15 10 14,F 16 15,gp 17 16 0 3,gh 18 16 1 17,gh 19 16 1 2,hB 20 16 (.call sS [.t 18,.t 19]),dv 21 16 20,F 4 21] .ret))
def MW:bN:=b9 65 3 [.t 6,.t 7] (Y [aO 6 (.hI (.c (.M .ql))),ek 7] (Y [F 13 1,aO 14 (.build [.nil,ba 0,.M (.bool false)] [(1,1,.t 13)]),c9 15 129015 14,F 8 15] (.seq (Y [F 16 0,b8 17 16,bA 18 0] (eK 0 (Y [bB 19 .lss 18 17] (.seq (dT 19 0) (.seq (.block 1 (Y [b2 20 5 16 18,bm 21 5 20,cX 10 129010 uC,bq 5 10 21] (.nk [F 22 8,F 23 8,n1 24 23,a9 25 0 24,aS 26 1 25,a9 27 0 10,aS 28 1 27,aO 29 (.kJ 129029 4 DI [.t 28]),a9 30 1 10,bm 31 4 30,aO 32 (.ed 129032 false ez 4 1 [(0,4,.t 31)]),aO 33 (.app 129033 ez 64 (.t 29) (.t 32)),aO 34 (.ed 129034 true [.nil] 1 1 [(0,1,.t 33)]),aO 35 (.app 129035 [.nil] 24 (.t 26) (.t 34)),n1 36 22,a9 37 0 36,bq 1 37 35] [[],[],[],[],[],[],[],[4],[],[7],[],[4],[4],[],[],[],[]]))) (.ghost (.move) (.ops [bs 38 .add 18 1,F 18 38]))))))) (Y [ek 11] (.seq (Y [bA 12 0] (.block 2 (.ghost (.rb 11 129061 1) (.loop  (.seq (Y [F 39 12,F 40 1,bB 41 .lss 39 40,F 42 41,en 43 42 8,fs 44 42 (.tM (.t 43)),jB 45 42 2 44,jX 46 42 1 45,HM 47 42 46,eP 48 42 47] (dT 48 2)) (.seq (.block 3 (Y [F 51 8,F 52 12,F 53 11,b8 54 53,bB 55 .sub 52 54,F 56 12,Y2 57 Rk 51 55 56] (fA 57 (Y [F 58 11,F 59 12,aO 60 (.ed 129060 false [ba 0] 1 1 [(0,1,.t 59)]),aO 61 (.app 129061 [ba 0] 8 (.t 58) (.t 60)),F 11 61] (Y [F 62 2] (fA 62 (.exit 2) .skip))) .skip))) (.ops [F 49 12,bs 50 .add 49 1,F 12 50]))))))) (Y [F 63 8,F 64 11,F 6 63,F 7 64] .ret))))))
def wH:bN:=b9 172 3 [.t 6] (Y [cw 6 false] (Y [F 15 1,F 7 15] (.seq (eK 0 (.seq (Y [F 16 7,F 17 0,n1 18 17,a9 19 1 18,aS 20 1 19,bB 21 .lss 16 20,F 22 21,en 23 22 0,fs 24 22 (.tM (.t 23)),jB 25 22 0 24,jX 26 22 1 25,en 27 22 7,zl 28 22 1 26 27,jX 29 22 1 28,en 30 22 2,zl 31 22 4 29 30,DT 32 22 4 31,fs 33 22 (.call HG [.t 32]),eP 34 22 33] (dT 34 0)) (.block 1 (.ops [F 35 7,bs 36 .add 35 1,F 7 36])))) (.seq (Y [F 37 7,F 38 0,n1 39 38,a9 40 1 39,aS 41 1 40,bB 42 .eql 37 41] (cF 42 [cw 6 true])) (gq [F 43 0,n1 44 43,a9 45 0 44,aS 46 1 45,F 47 1,F 48 0,n1 49 48,a9 50 0 49,aS 51 1 50,F 52 7,F 53 0,n1 54 53,a9 55 0 54,aS 56 1 55,F 57 7,b2 58 1 56 57,aS 59 1 58,F 60 0,n1 61 60,a9 62 0 61,aS 63 1 62,F 64 1,b2 65 1 63 64,aS 66 1 65,b2 67 1 46 47,bq 1 67 59,b2 68 1 51 52,bq 1 68 66] akW (Y [F 69 0,n1 70 69,a9 71 0 70,aS 72 1 71,F 73 1,b2 74 1 72 73,aS 75 1 74,F 76 2,b2 77 4 75 76,bm 78 4 77,cX 8 148008 ez,bq 4 8 78] (.seq (Y [F 79 0,n1 80 79,a9 81 0 80,aS 82 1 81,F 83 1,b2 84 1 82 83,aS 85 1 84,b8 86 85,bA 87 0] (eK 2 (Y [bB 88 .lss 87 86] (.seq (dT 88 2) (.seq (.block 3 (Y [F 89 87,b2 90 4 85 87,bm 91 4 90,cX 10 148010 ez,F 9 89,bq 4 10 91] (.nk [F 92 0,n1 93 92,a9 94 0 93,aS 95 1 94,F 96 1,b2 97 1 95 96,aS 98 1 97,F 99 9,F 100 0,bm 101 4 10,bm 102 4 8,ch 103 DL 101 102,bn 104 0 103,bn 105 1 103,aO 106 (.j7 2 zk [.t 100,.t 104,.t 105]),b2 107 4 98 99,bq 4 107 106] [[],[],[],[],[],[],[],[],[],[],[],[],[],[],[3,6],[],[]]))) (.ops [bs 108 .add 87 1,F 87 108])))))) (.seq (Y [F 109 0,n1 110 109,a9 111 0 110,aS 112 1 111,b8 113 112,bA 114 0] (eK 4 (Y [bB 115 .lss 114 113] (.seq (dT 115 4) (.seq (.block 5 (Y [F 116 114,b2 117 1 112 114,aS 118 1 117,F 11 116,F 12 118] (Y [F 119 12,F 120 2,b2 121 4 119 120,bm 122 4 121,cX 13 148013 ez,bq 4 13 122] (.seq (Y [F 123 11,F 124 1,bB 125 .eql 123 124,F 126 125,jz 127 126 4 13,hB 128 126 (.call HG [.t 127]),dv 129 126 128] (fA 129 (.exit 5) .skip)) (Y [bA 14 0] (eK 6 (.seq (Y [F 130 14,F 131 12,b8 132 131,bB 133 .lss 130 132,F 134 133,en 135 134 0,fs 136 134 (.tM (.t 135)),jB 137 134 2 136,jX 138 134 1 137,HM 139 134 138,eP 140 134 139] (dT 140 6)) (.seq (.block 7 (.nk [F 143 12,F 144 14,F 145 0,F 146 12,F 147 14,b2 148 4 146 147,bm 149 4 148,F 150 0,bm 151 4 13,F 152 0,n1 153 152,a9 154 0 153,aS 155 1 154,F 156 1,b2 157 1 155 156,aS 158 1 157,F 159 14,b2 160 4 158 159,bm 161 4 160,ch 162 xT 151 161,bn 163 0 162,bn 164 1 162,aO 165 (.j7 2 zk [.t 150,.t 163,.t 164]),ch 166 Ba 149 165,bn 167 0 166,bn 168 1 166,aO 169 (.j7 2 zk [.t 145,.t 167,.t 168]),b2 170 4 143 144,bq 4 170 169] [[],[],[],[],[],[],[],[],[],[],[],[],[],[],[],[],[],[],[],[],[],[],[6],[],[],[],[],[],[]])) (.ops [F 141 14,bs 142 .add 141 1,F 14 142]))))))))) (.ops [bs 171 .add 114 1,F 114 171])))))) (Y [cw 6 false] .ret)))))))))
def abi:bN:=b9 7 1 [.t 2] (Y [c9 1 167001 0,cw 2 false] (Y [a9 3 0 1,a9 4 0 3,aS 5 1 4,bs 6 .eql 5 0,F 2 6] .ret))
def MX:bN:=b9 19 3 [.cell 6 4 true] (Y [c9 4 168004 1,cX 6 168006 ez] (Y [F 7 0,F 8 0,n1 9 8,a9 10 2 9,aS 11 1 10,F 12 11,gX 13 12 2,jA 14 12 .neq 13 0,dv 15 12 14,n1 16 7,a9 17 2 16,bq 1 17 15] (Y [bm 18 4 4,bq 4 6 18] .ret)))


def abj:bN:=b9 69 2 [.t 4,.t 5,.t 6] (Y [ek 4,ek 5,bA 6 0] (.seq (Y [F 16 0,F 17 1,ch 18 Bi 16 17,fc 19 18] (cF 19 [ek 4,ek 5,bA 6 1])) (Y [aO 20 (.call sW [.c (ba 1)]),aO 21 (.ed 386021 false ez 4 1 [(0,4,.t 20)]),F 22 1,ch 23 DG 21 22,aO 24 (.call sW [.c (ba 0)]),aO 25 (.ed 386025 false ez 4 1 [(0,4,.t 24)]),F 26 1,ch 27 DG 25 26,F 28 0,aO 29 (.build xV [(0,1,.t 23),(1,1,.t 27),(2,1,.t 28)]),cX 7 386007 xV,bq 3 7 29] (Y [bm 31 3 7,dA 32 xU 31,F 30 32,bn 33 0 30,bn 34 1 30,bn 35 2 30,F 8 33,F 9 34,F 10 35] (.seq (Y [F 36 10,bs 37 .neq 36 0] (cF 37 [F 38 10,ek 4,ek 5,F 6 38])) (.seq (Y [F 39 8,aO 40 (.call sS [.t 39,.c (.dB uz [])])] (cF 40 [F 41 8,ek 4,F 5 41,bA 6 16])) (Y [ek 11] (.seq (Y [F 42 1,bA 43 0] (.block 0 (.ghost (.rb 11 386059 5) (.loop  (Y [bB 44 .lss 43 42] (.seq (dT 44 0) (.seq (.block 1 (Y [F 45 43,F 12 45] (Y [aO 47 (.call sW [.c (ba 1)]),F 48 0,F 49 1,F 50 12,xW 51 HL 47 48 49 50,F 46 51,bn 52 0 46,bn 53 1 46,cX 13 386013 uC,bq 5 13 52,F 14 53] (.seq (Y [F 54 14,fc 55 54] (cF 55 [ek 4,ek 5,bA 6 6])) (.ops [F 56 11,bm 57 5 13,aO 58 (.ed 386058 false uC 5 1 [(0,5,.t 57)]),aO 59 (.app 386059 uC 88 (.t 56) (.t 58)),F 11 59]))))) (.ops [bs 60 .add 43 1,F 43 60])))))))) (.seq (.ghost (.freeze 11) (.ops [F 62 11,F 63 1,ch 64 Hy 62 63,F 61 64,bn 65 0 61,bn 66 1 61,F 15 65,F 10 66])) (Y [F 67 15,F 68 10,F 4 67,ek 5,F 6 68] .ret))))))))))
def abk:bN:=b9 7 1 [.t 2] (Y [c9 1 387001 0,cw 2 false] (Y [a9 3 0 1,a9 4 0 3,aS 5 1 4,bs 6 .neq 5 0,F 2 6] .ret))
def abl:bN:=b9 49 3 [.t 6] (Y [cw 6 false] (.seq (Y [F 11 0,F 12 1,ch 13 Bi 11 12,fc 14 13,F 15 14,gX 16 15 2,pR 17 15 16,gX 18 15 1,qC 19 15 .neq 17 18,dv 20 15 19,F 21 20,gX 22 21 2,hB 23 21 (.call sS [.t 22,.c (.dB uA [])]),dv 24 21 23] (cF 24 [cw 6 false])) (.seq (Y [F 25 2,b8 26 25,bA 27 0] (eK 0 (Y [bB 28 .lss 27 26] (.seq (dT 28 0) (.seq (.block 1 (Y [F 29 27,b2 30 4 25 27,bm 31 4 30,cX 8 388008 ez,F 7 29,bq 4 8 31] (Y [aO 33 (.call sW [.c (ba 0)]),F 34 0,F 35 2,F 36 7,xW 37 Bf 33 34 35 36,F 32 37,bn 38 0 32,bn 39 1 32,cX 9 388009 ez,bq 4 9 38,F 10 39] (Y [F 40 10,fc 41 40,F 42 41,jz 43 42 4 8,jz 44 42 4 9,hB 45 42 (.call zj [.t 43,.t 44]),jA 46 42 .leq 45 0,dv 47 42 46] (cF 47 [cw 6 false]))))) (.ops [bs 48 .add 27 1,F 27 48])))))) (Y [cw 6 true] .ret))))
def abm:bN:=b9 12 1 [.t 2] (Y [c9 1 389001 0,cw 2 false] (Y [bm 3 4 1,dA 4 Bg 3,fc 5 4,F 6 5,gp 7 6 0 1,gp 8 6 0 7,gh 9 6 1 8,jA 10 6 .eql 9 0,dv 11 6 10,F 2 11] .ret))
def abn:bN:=b9 60 2 [.t 4] (Y [c9 2 390002 0,cw 4 false] (.seq (Y [bm 9 3 2,dA 10 Bh 9,fc 11 10,F 12 11,gX 13 12 1,pR 14 12 13,gp 15 12 0 2,gh 16 12 1 15,pR 17 12 16,qC 18 12 .neq 14 17,dv 19 12 18,F 20 19,gX 21 20 1,hB 22 20 (.call sS [.t 21,.c (.dB v5 [])]),dv 23 20 22] (cF 23 [cw 4 false])) (.seq (Y [a9 24 0 2,aS 25 1 24,b8 26 25,bA 27 0] (eK 0 (Y [bB 28 .lss 27 26] (.seq (dT 28 0) (.seq (.block 1 (Y [F 29 27,b2 30 4 25 27,bm 31 4 30,cX 6 390006 ez,F 5 29,bq 4 6 31] (gq [a9 33 1 2,aS 34 1 33,F 35 5,b2 36 4 34 35,bm 37 4 36,a9 38 2 2,aS 39 1 38,F 40 1,F 41 5,xW 42 Bf 37 39 40 41,F 32 42,bn 43 0 32,bn 44 1 32,cX 7 390007 ez,bq 4 7 43,F 8 44] [[],[],[],[],[],[],[],[],[],[],[],[],[],[1,4,6],[],[]] (.seq (Y [F 45 8,fc 46 45] (cF 46 [cw 4 false])) (.seq (Y [bm 47 4 7,bm 48 4 6,ch 49 zj 47 48,bs 50 .gtr 49 0] (fA 50 (.ops [bm 51 4 6,bq 4 7 51]) .skip)) (gq [bm 52 4 7,F 53 1,F 54 5,b2 55 4 53 54,bm 56 4 55,ch 57 zj 52 56,bs 58 .neq 57 0] L6 (cF 58 [cw 4 false]))))))) (.ops [bs 59 .add 27 1,F 27 59])))))) (Y [cw 4 true] .ret))))
def abo:bN:=b9 6 1 [.t 2] (Y [c9 1 391001 0,cw 2 false] (Y [bm 3 4 1,dA 4 lq 3,fc 5 4,F 2 5] .ret))
def abp:bN:=b9 93 1 [.t 2,.t 3,.t 4] (Y [c9 1 392001 0,ek 2,ek 3,bA 4 0] (.seq (Y [bm 15 3 1,dA 16 Bh 15,fc 17 16] (cF 17 [ek 2,ek 3,bA 4 1])) (Y [a9 18 0 1,aS 19 1 18,b8 20 19,aO 21 (.lb 392021 [.M (.bool false)] 1 (.t 20) (.t 20)),aO 5 (.alloc 392005 [.nil]),bq 1 5 21] (.seq (Y [aO 6 (.alloc 392006 [.M (.bool false)]),⟨none,none,.store 1 (.t 6) (.c (.M (.bool true)))⟩] (eK 0 (.seq (Y [aS 22 1 6] (dT 22 0)) (.seq (.block 1 (Y [⟨none,none,.store 1 (.t 6) (.c (.M (.bool false)))⟩] (Y [aO 23 (.tO Rx [.t 5,.t 1,.t 6]),F 7 23] (.seq (Y [a9 24 1 1,aS 25 1 24,b8 26 25,bA 27 0] (eK 2 (Y [bB 28 .lss 27 26] (.seq (dT 28 2) (.seq (.block 3 (Y [F 29 27,b2 30 4 25 27,bm 31 4 30,cX 9 392009 ez,F 8 29,bq 4 9 31] (Y [a9 32 0 9,a9 33 0 32,aS 34 1 33,bs 35 .gtr 34 0] (fA 35 (.ops [F 36 7,F 37 8,aO 38 (.jc (.t 36) [.t 37])]) .skip)))) (.ops [bs 39 .add 27 1,F 27 39])))))) (Y [a9 40 2 1,aS 41 1 40,b8 42 41,bA 43 0] (eK 4 (Y [bB 44 .lss 43 42] (.seq (dT 44 4) (.seq (.block 5 (Y [b2 45 6 41 43,bm 46 6 45,aO 11 (.alloc 392011 [ba 0,ba 0,ba 0,.nil,ba 0,.nil]),bq 6 11 46] (Y [aS 47 1 5,a9 48 0 11,aS 49 1 48,b2 50 1 47 49,aS 51 1 50,F 52 51,jB 53 52 2 11,jB 54 52 0 53,jB 55 52 0 54,jX 56 52 1 55,iE 57 52 .gtr 56 0,eP 58 52 57] (fA 58 (.ops [F 59 7,a9 60 1 11,aS 61 1 60,aO 62 (.jc (.t 59) [.t 61])]) .skip)))) (.ops [bs 63 .add 43 1,F 43 63])))))))))) (Y [aS 64 1 6] (.ops [aO 6 (.alloc 392006 [.M (.bool false)]),bq 1 6 64])))))) (gq [a9 65 0 1,aS 66 1 65,aO 67 (.kJ 392067 4 DI [.t 66]),a9 68 1 1,aS 69 1 68,a9 70 2 1,aS 71 1 70,aO 72 (.build xV [(0,1,.t 67),(1,1,.t 69),(2,1,.t 71)]),cX 12 392012 xV,bq 3 12 72] [[],[],[],[],[2],[],[2],[],[1,2,4,6],[]] (.seq (Y [aS 73 1 5,b8 74 73,bA 75 0] (eK 6 (Y [bB 76 .lss 75 74] (.seq (dT 76 6) (.seq (.block 7 (Y [F 77 75,b2 78 1 73 75,aS 79 1 78,F 13 77,F 14 79] (Y [F 80 14,fc 81 80] (fA 81 (.nk [a9 82 0 12,aS 83 1 82,F 84 13,aO 85 (.call sW [.c (ba 0)]),b2 86 4 83 84,bq 4 86 85] RK) .skip)))) (.ops [bs 87 .add 75 1,F 75 87])))))) (.seq (.ghost (.KU (.t 12) 0) (.ops [bm 88 3 12,dA 89 xU 88,bn 90 0 89,bn 91 1 89,bn 92 2 89,F 2 90,F 3 91,F 4 92])) .ret)))))))
def MY:bN:=b9 23 4 [] (Y [aS 5 1 1,F 6 0,b2 7 1 5 6,aS 8 1 7,fc 9 8,F 10 9,jB 11 10 0 2,jX 12 10 1 11,en 13 10 0,zl 14 10 4 12 13,jB 15 10 0 14,jB 16 10 0 15,jX 17 10 1 16,iE 18 10 .gtr 17 0,eP 19 10 18] (fA 19 (.ops [aS 20 1 1,F 21 0,b2 22 1 20 21,⟨none,none,.store 1 (.t 22) (.c (.M (.bool true)))⟩,⟨none,none,.store 1 (.t 3) (.c (.M (.bool true)))⟩]) .skip))
def abq:bN:=b9 86 1 [.t 2,.t 3,.t 4] (Y [c9 1 394001 0,ek 2,ek 3,bA 4 0] (.seq (Y [bm 16 3 1,dA 17 Bh 16,fc 18 17] (cF 18 [ek 2,ek 3,bA 4 1])) (Y [a9 19 0 1,aS 20 1 19,b8 21 20,aO 22 (.lb 394022 [.M (.bool false)] 1 (.t 21) (.t 21)),F 5 22] (Y [ek 6] (.block 0 (.ghost (.rb 6 394085 1) (.loop  (.block 1 (Y [bm 24 3 1,F 25 5,ch 26 Rz 24 25,F 23 26,bn 27 0 23,bn 28 1 23,F 7 27,F 8 28] (.seq (Y [F 29 8,fc 30 29] (cF 30 [ek 2,ek 3,bA 4 6])) (Y [ek 9] (.seq (Y [a9 31 0 1,aS 32 1 31,b8 33 32,bA 34 0] (.block 2 (.ghost (.rb 9 394065 1) (.loop  (Y [bB 35 .lss 34 33] (.seq (dT 35 2) (.seq (.block 3 (Y [F 36 34,b2 37 4 32 34,bm 38 4 37,cX 11 394011 ez,F 10 36,bq 4 11 38] (.seq (Y [F 39 5,F 40 10,b2 41 1 39 40,aS 42 1 41] (fA 42 (.exit 3) .skip)) (gq [a9 44 1 1,aS 45 1 44,F 46 10,b2 47 4 45 46,bm 48 4 47,a9 49 2 1,aS 50 1 49,F 51 7,F 52 10,xW 53 Bf 48 50 51 52,F 43 53,bn 54 0 43,bn 55 1 43,cX 12 394012 ez,bq 4 12 54,F 13 55] [[],[],[],[],[],[],[],[],[],[],[],[],[],[1,4,6],[],[]] (.seq (Y [F 56 13,fc 57 56] (cF 57 [ek 2,ek 3,bA 4 6])) (Y [bm 58 4 12,bm 59 4 11,ch 60 zj 58 59,bs 61 .lss 60 0] (fA 61 (.ops [F 62 9,F 63 10,aO 64 (.ed 394064 false [ba 0] 1 1 [(0,1,.t 63)]),aO 65 (.app 394065 [ba 0] 8 (.t 62) (.t 64)),F 9 65]) .skip))))))) (.ops [bs 66 .add 34 1,F 34 66])))))))) (.seq (Y [F 67 9,b8 68 67,bs 69 .eql 68 0] (cF 69 [F 70 7,F 71 6,F 2 70,F 3 71,bA 4 0])) (.seq (Y [F 72 9,b8 73 72,bA 74 0] (eK 4 (Y [bB 75 .lss 74 73] (.seq (dT 75 4) (.seq (.block 5 (Y [b2 76 1 72 74,aS 77 1 76,F 15 77] (.ops [F 78 5,F 79 15,b2 80 1 78 79,⟨none,none,.store 1 (.t 80) (.c (.M (.bool true)))⟩]))) (.ops [bs 81 .add 74 1,F 74 81])))))) (.ghost (.freeze 9) (.ops [F 82 6,F 83 9,aO 84 (.ed 394084 false [.nil] 1 1 [(0,1,.t 83)]),aO 85 (.app 394085 [.nil] 24 (.t 82) (.t 84)),F 6 85]))))))))))))))))
def abr:bN:=b9 59 4 [.cell 8 5 true,.t 9] (Y [c9 4 395004 0,cX 8 395008 uC,cw 9 false] (gq [aO 15 (.call sW [.c (ba 0)]),aO 16 (.ed 395016 false ez 4 1 [(0,4,.t 15)]),F 17 2,aO 18 (.kJ 395018 4 DG [.t 16,.t 17]),bm 19 4 4,aO 20 (.build uC [(0,1,.t 18),(1,4,.t 19)]),cX 10 395010 uC,bq 5 10 20] [[],[],[],[],[3],[],[3,4],[]] (gq [a9 21 0 10,aS 22 1 21,F 23 3,aO 24 (.call sW [.c (ba 1)]),b2 25 4 22 23,bq 4 25 24] RK (.seq (Y [F 26 1,b8 27 26,bA 28 0] (eK 0 (Y [bB 29 .lss 28 27] (.seq (dT 29 0) (.seq (.block 1 (Y [b2 30 6 26 28,bm 31 6 30,aO 12 (.alloc 395012 [ba 0,ba 0,ba 0,.nil,ba 0,.nil]),bq 6 12 31] (.seq (Y [a9 32 1 12,aS 33 1 32,F 34 3,bB 35 .neq 33 34] (fA 35 (.exit 1) .skip)) (gq [a9 37 0 10,aS 38 1 37,a9 39 0 12,aS 40 1 39,b2 41 4 38 40,bm 42 4 41,a9 43 2 12,bm 44 4 43,ch 45 Ba 42 44,F 36 45,bn 46 0 36,bn 47 1 36,cX 13 395013 ez,bq 4 13 46,F 14 47] [[],[],[],[],[],[],[],[],[],[],[],[],[1,3,5,7],[],[]] (.seq (Y [F 48 14,bs 49 .neq 48 0] (cF 49 [aO 50 (.build uC []),bq 5 8 50,cw 9 false])) (.ops [a9 51 0 10,aS 52 1 51,a9 53 0 12,aS 54 1 53,bm 55 4 13,b2 56 4 52 54,bq 4 56 55])))))) (.ops [bs 57 .add 28 1,F 28 57])))))) (Y [bm 58 5 10,bq 5 8 58,cw 9 true] .ret)))))
def abt:bN:=b9 34 4 [.cell 8 4 true,.t 9] (Y [c9 4 396004 0,c9 6 396006 2,cX 8 396008 ez,cw 9 false] (Y [aO 10 (.alloc 396010 [.M (.bool false)]),⟨none,none,.store 1 (.t 10) (.c (.M (.bool true)))⟩] (Y [aO 14 (.tO Ry [.t 6,.t 4,.t 10]),F 11 14] (.seq (Y [F 15 1,b8 16 15,bA 17 0] (eK 0 (Y [bB 18 .lss 17 16] (.seq (dT 18 0) (.seq (.block 1 (Y [b2 19 6 15 17,bm 20 6 19,aO 13 (.alloc 396013 [ba 0,ba 0,ba 0,.nil,ba 0,.nil]),bq 6 13 20] (Y [a9 21 1 13,aS 22 1 21,F 23 3,bB 24 .eql 22 23,F 25 24,jX 26 25 1 10,eP 27 25 26] (fA 27 (.ops [F 28 11,bm 29 6 13,aO 30 (.jc (.t 28) [.t 29])]) .skip)))) (.ops [bs 31 .add 17 1,F 17 31])))))) (gq [bm 32 4 4,aS 33 1 10,bq 4 8 32,F 9 33] [[],[],[1],[]] .ret)))))
def MZ:bN:=b9 36 4 [] (Y [c9 4 397004 0] (gq [a9 10 2 4,bm 11 4 10,aS 12 1 1,a9 13 0 4,aS 14 1 13,b2 15 4 12 14,bm 16 4 15,ch 17 xT 11 16,F 9 17,bn 18 0 9,bn 19 1 9,cX 5 397005 ez,bq 4 5 18,F 6 19] [[],[],[],[],[],[],[],[],[],[],[],[1,2,4,6],[],[]] (Y [bm 21 4 2,bm 22 4 5,ch 23 A9 21 22,F 20 23,bn 24 0 20,bn 25 1 20,cX 7 397007 ez,bq 4 7 24,F 8 25] (Y [aS 26 1 3,F 27 26,en 28 27 6,iE 29 27 .eql 28 0,eP 30 27 29,F 31 30,en 32 31 8,iE 33 31 .eql 32 0,eP 34 31 33,bq 1 3 34] (.ops [bm 35 4 7,bq 4 2 35])))))
def abu:bN:=b9 11 1 [.t 2] (Y [c9 1 398001 0,cw 2 false] (Y [bm 3 4 1,dA 4 lq 3,F 5 4,jB 6 5 0 1,jB 7 5 0 6,jX 8 5 1 7,iE 9 5 .geq 8 0,eP 10 5 9,F 2 10] .ret))
def abv:bN:=b9 33 1 [.t 2] (Y [c9 1 399001 0,cw 2 false] (Y [aO 3 (.hI (.c (.dB uB [])))] (Y [a9 4 0 1,aS 5 1 4,b8 6 5,a9 7 1 1,aS 8 1 7,b8 9 8,bB 10 .eql 6 9,F 11 10,jB 12 11 2 1,jX 13 11 1 12,jB 14 11 0 1,jX 15 11 1 14,HN 16 11 15,fs 17 11 (.call Bi [.t 13,.t 16]),eP 18 11 17,F 19 18,jB 20 19 0 1,jX 21 19 1 20,en 22 19 3,fs 23 19 (.call sS [.t 21,.t 22]),HM 24 19 23,eP 25 19 24,F 26 25,jB 27 26 1 1,jX 28 26 1 27,en 29 26 3,fs 30 26 (.call sS [.t 28,.t 29]),HM 31 26 30,eP 32 26 31,F 2 32] .ret)))
def abw:bN:=b9 6 1 [.t 2] (Y [c9 1 400001 0,cw 2 false] (Y [bm 3 4 1,dA 4 Bg 3,fc 5 4,F 2 5] .ret))
def abx:bN:=b9 20 2 [.t 4] (Y [c9 3 401003 1,cw 4 false] (.seq (Y [aS 5 1 3,bs 6 .lss 5 0,F 7 6,gh 8 7 1 3,jA 9 7 .gtr 8 40,dv 10 7 9,F 11 10,gX 12 11 0,pR 13 11 12,jA 14 11 .gtr 13 400,dv 15 11 14] (cF 15 [cw 4 false])) (Y [F 16 0,aO 17 (.tO L3 [.t 3]),ch 18 RI 16 17,fc 19 18,F 4 19] .ret)))
def aby:bN:=b9 30 2 [.t 3] (Y [c9 2 402002 0,cw 3 false] (Y [a9 4 0 2,aS 5 1 4,bs 6 .lss 5 0,F 7 6,gp 8 7 0 2,gh 9 7 1 8,gh 10 7 1 1,qC 11 7 .geq 9 10,dv 12 7 11,F 13 12,gp 14 13 1 2,gh 15 13 1 14,jA 16 13 .lss 15 0,dv 17 13 16,F 18 17,gp 19 18 1 2,gh 20 18 1 19,gh 21 18 1 1,qC 22 18 .geq 20 21,dv 23 18 22,F 24 23,gp 25 24 2 2,jz 26 24 4 25,hB 27 24 (.call Bg [.t 26]),kR 28 24 27,dv 29 24 28,F 3 29] .ret))
def M0:bN:=b9 62 2 [.t 4,.t 5] (Y [c9 2 403002 0,ek 4,cw 5 false] (Y [a9 15 0 2,aS 16 1 15,b8 17 16,F 6 17] (Y [ek 7] (.seq (Y [F 18 6,bA 19 0] (.block 0 (.ghost (.rb 7 403051 5) (.loop  (Y [bB 20 .lss 19 18] (.seq (dT 20 0) (.seq (.block 1 (Y [F 21 19,F 8 21] (Y [a9 22 0 2,aS 23 1 22,F 24 8,b2 25 4 23 24,bm 26 4 25,cX 9 403009 ez,bq 4 9 26,ek 10] (.seq (Y [F 27 1,F 28 8,b2 29 1 27 28,aS 30 1 29] (fA 30 (.nk [a9 31 1 2,aS 32 1 31,F 33 8,b2 34 4 32 33,bm 35 4 34,a9 36 2 2,aS 37 1 36,bq 4 9 35,F 10 37] [[],[],[],[],[],[],[],[6],[]]) .skip)) (Y [bm 39 4 9,F 40 10,F 41 6,F 42 8,xW 43 HL 39 40 41 42,F 38 43,bn 44 0 38,bn 45 1 38,cX 11 403011 uC,bq 5 11 44,F 12 45] (.seq (Y [F 46 12,fc 47 46] (cF 47 [ek 4,cw 5 false])) (.ops [F 48 7,bm 49 5 11,aO 50 (.ed 403050 false uC 5 1 [(0,5,.t 49)]),aO 51 (.app 403051 uC 88 (.t 48) (.t 50)),F 7 51]))))))) (.ops [bs 52 .add 19 1,F 19 52])))))))) (.seq (.ghost (.freeze 7) (.ops [F 54 7,F 55 6,ch 56 Hy 54 55,F 53 56,bn 57 0 53,bn 58 1 53,F 13 57,F 14 58])) (Y [F 59 13,F 60 14,bs 61 .eql 60 0,F 4 59,F 5 61] .ret))))))
def abz:bN:=b9 11 1 [.cell 2 4 true] (Y [cX 2 404002 ez] (Y [F 6 0,aO 7 (.call HB [.t 6,.c (ba 1)]),F 5 7,bn 8 0 5,bn 9 1 5,cX 3 404003 ez,bq 4 3 8,F 4 9] (Y [bm 10 4 3,bq 4 2 10] .ret)))
abbrev eg:=List aG×aG
def ky (r:eg):List Data:=.ay (r.1.map aV)::aV r.2
def nC (f:aG):(aV f).length=4:=rfl
def M1 (r:eg):(ky r).length=5:=rfl
def IG (f:aG):((aV f).map I.M).all I.one=true:=rfl
def lB:∀a b:aG,aV a=aV b->a=b:=by
 rintro⟨⟨s,l⟩,⟨s2,ah⟩⟩ ⟨⟨t,m⟩,⟨t2,bO⟩⟩ h;simp only[aV,bo,Data.int.injEq,Data.ay.injEq,true_and,and_true] at h;obtain⟨rfl,E,rfl,G⟩:=h;rw[map_inj fQ _ _ E,map_inj fQ _ _ G]
def SX:∀a b:eg,ky a=ky b->a=b:=by
 rintro⟨a,b⟩ ⟨c,d⟩ h;simp only[ky,bo,Data.ay.injEq] at h;rw[map_inj lB _ _ h.1,lB _ _ h.2]
def okF (f:aG):Prop:=f.1.2.length<=1000000/\f.2.2.length<=1000000
def ia (l:List aG):Prop:=D l<=1000000/\∀f∈l,okF f
def uP (r:eg):Prop:=ia r.1/\okF r.2
def BL (rs:List eg):Prop:=D rs<=1000000/\∀r∈rs,uP r
def IH:=bW k1 λ(s,l,s2,ah)=>cv (D l<=1000000/\D ah<=1000000) (.same (.bool (!df ((s,l),(s2,ah)))))
@[go_sem] def anh (s l s2 ah):=cK IH rfl uO (s,l,s2,ah) rfl
def ani (T:bj)(hD:T lq=aW uN):WF T abg IH:=by
 refine cp λ(s,l,s2,ah)=>cN λZ=>⟨rfl,cq ?_⟩;simp only[abg,k1,cg];obtain⟨bH,bG⟩:=Z;refine ao ?_;repeat' (intro h<;>simp only[h,go_sem,go_sem_proc,hD,bH,bG]<;>try refine an ?_ ?_)
def abA:=bW k1 λ(s,l,s2,ah)=>cv (D l<=1000000/\D ah<=1000000) (.same (.bool (!df ((s,l),(s2,ah))||decide (s<0))))
@[go_sem] def anj (s l s2 ah):=cK abA rfl uO (s,l,s2,ah) rfl
abbrev SY:Int×(List Int)×Int×(List Int)->List Data:=λ(s,l,s2,ah)=>[.agg [.int .i64 s,.ay (l.map aJ),.int .i64 s2,.ay (ah.map aJ)],.ptr [.fn Y1 []]]
def abB:=bW SY λ(s,l,s2,ah)=>cv (D l<=1000000/\D ah<=1000000) (.same (.bool (!(df ((s,l),(s2,ah))&&decide (s>=0)))))
def ank:∀a b,SY a=SY b->a=b:=by
  rintro⟨s1,iP,uI,tc⟩ ⟨s2,ah,uJ,td⟩ h;simp only[bo,Data.agg.injEq,Data.int.injEq,Data.ay.injEq] at h;exact cO h.1.1.2 (cO (map_inj fQ _ _ h.1.2.1) (cO h.1.2.2.1.2 (map_inj fQ _ _ h.1.2.2.2.1)))
@[go_sem] def anl (s l s2 ah):=cK abB rfl ank (s,l,s2,ah) rfl
def eV (f:aG):Bool:=df f&&decide (f.1.1>=0)
def Ey:=bW k1 λ(s,l,s2,ah)=>cv (D l<=1000000/\D ah<=1000000) (.same (.bool (eV ((s,l),(s2,ah)))))
@[go_sem] def azD (s l s2 ah):=cK Ey rfl uO (s,l,s2,ah) rfl
def anm (T:bj)(hD:T lq=aW uN):WF T abu Ey:=by
 refine cp λ(s,l,s2,ah)=>cN λZ=>⟨rfl,cq ?_⟩;simp only[abu,k1,cg];obtain⟨bH,bG⟩:=Z;unfold eV;rcases Q:df ((s,l),(s2,ah))
 ·refine ao ?_;repeat' (intro h<;>simp only[h,go_sem,go_sem_proc,hD,bH,bG,Q]<;>try refine an ?_ ?_)
 ·refine ao ?_;repeat' (intro h<;>simp only[h,go_sem,go_sem_proc,hD,bH,bG,Q]<;>try refine an ?_ ?_)
def M3:=bW k1 λ(s,l,s2,ah)=>cv (D l<=1000000/\D ah<=1000000) (.same (.bool (!eV ((s,l),(s2,ah)))))
@[go_sem] def ann (s l s2 ah):=cK M3 rfl uO (s,l,s2,ah) rfl
def ano (T:bj)(wI:T Bg=aW Ey):WF T abw M3:=by
 refine cp λ(s,l,s2,ah)=>cN λZ=>⟨rfl,cq ?_⟩;simp only[abw,k1,cg];obtain⟨bH,bG⟩:=Z;refine ao ?_;repeat' (intro h<;>simp only[h,go_sem,go_sem_proc,wI,bH,bG]<;>try refine an ?_ ?_)
def M4:=bW k1 λ(s,l,s2,ah)=>cv (D l<=1000000/\D ah<=1000000) (.same (.bool (!df ((s,l),(s2,ah)))))
@[go_sem] def anp (s l s2 ah):=cK M4 rfl uO (s,l,s2,ah) rfl
def anq (T:bj)(hD:T lq=aW uN):WF T abo M4:=by
 refine cp λ(s,l,s2,ah)=>cN λZ=>⟨rfl,cq ?_⟩;simp only[abo,k1,cg];obtain⟨bH,bG⟩:=Z;refine ao ?_;repeat' (intro h<;>simp only[h,go_sem,go_sem_proc,hD,bH,bG]<;>try refine an ?_ ?_)
def M5:=bW k1 λ(s,l,s2,ah)=>cv (D l<=1000000/\D ah<=1000000) (.same (.bool (!(s==0))))
@[go_sem] def anr (s l s2 ah):=cK M5 rfl uO (s,l,s2,ah) rfl
def ans (T:bj):WF T abk M5:=by
 refine cp λ(s,l,s2,ah)=>cN λZ=>⟨rfl,cq ?_⟩;simp only[abk,k1,cg];obtain⟨bH,bG⟩:=Z;refine ao ?_;repeat' (intro h<;>simp only[h,go_sem,go_sem_proc,bH,bG]<;>try refine an ?_ ?_)
def M6:=bW k1 λ(s,l,s2,ah)=>cv (D l<=1000000/\D ah<=1000000) (.same (.bool (!eV ((s,l),(s2,ah))||(s==0))))
@[go_sem] def ant (s l s2 ah):=cK M6 rfl uO (s,l,s2,ah) rfl
def anu (T:bj)(wI:T Bg=aW Ey):WF T abm M6:=by
 refine cp λ(s,l,s2,ah)=>cN λZ=>⟨rfl,cq ?_⟩;simp only[abm,k1,cg];obtain⟨bH,bG⟩:=Z;rcases Q:eV ((s,l),(s2,ah))
 ·refine ao ?_;repeat' (intro h<;>simp only[h,go_sem,go_sem_proc,wI,bH,bG,Q]<;>try refine an ?_ ?_)
 ·refine ao ?_;repeat' (intro h<;>simp only[h,go_sem,go_sem_proc,wI,bH,bG,Q]<;>try refine an ?_ ?_)
def wJ {α:Type}(p:α->Bool)(l:List α):Int:=match l.findIdx? p with
 |some i=>i
 |none => -1
def SZ {α:Type}{p:α->Bool}{l:List α}{i:Nat}(h:∀x∈l.take i,p x=false){x:α}(J:l[i]?=some x)(aF:p x=true):wJ p l=i:=by
 unfold wJ
 have:l.findIdx? p=some i:=by
  rw[abC];obtain⟨av,rfl⟩:=dh.1 J;refine⟨av,aF,λj aa=>?_⟩;have:=h l[j] (rH.2 ⟨j,by rw[List.getElem?_take_of_lt aa];exact bw _⟩);rw[this];decide
 rw[this]
def S0 {α:Type}{p:α->Bool}{l:List α}(h:∀x∈l,p x=false):wJ p l = -1:=by
 unfold wJ;rw[abD.2 h]
def S1 {α:Type}(p:α->Bool)(l:List α):decide (wJ p l>=0)=l.any p:=by
 unfold wJ
 cases h:l.findIdx? p with
 |none =>
  have:=abD.1 h;have G:l.any p=false:=by rw[m4];intro x J;simp[this x J]
  rw[G];rfl
 |some i =>
  rw[abC] at h;obtain⟨E,G,-⟩:=h;have ab:l.any p=true:=List.any_eq_true.2 ⟨_,iJ E,G⟩;rw[ab];exact kG (by simp)
def rZ (f:aG):Bool:=!df f
def l2 (f:FuncId):aG->Bool:=if f=uB then λx => !eV x else if f=uz then λx => !(x.1.1==0) else if f=uA then λx => !eV x||(x.1.1==0) else if f=DP then λx => !df x||decide (x.1.1<0) else if f=Be then λx => !(df x&&decide (x.1.1>=0)) else rZ
def anv (f:FuncId):List Data:=if f=Be then [.ptr [.fn Y1 []]] else []
@[go_sem] def anw:l2 rJ=rZ:=by
 unfold l2;rw[ar (mq rfl),ar (mq rfl),ar (mq rfl),ar (mq rfl),ar (mq rfl)]
@[go_sem] def anx:l2 DP=λx => !df x||decide (x.1.1<0):=by
 unfold l2;rw[ar (mq rfl),ar (mq rfl),ar (mq rfl),aq rfl]
def anz:l2 Be=λx => !(df x&&decide (x.1.1>=0)):=by
 unfold l2;rw[ar (mq rfl),ar (mq rfl),ar (mq rfl),ar (mq rfl),aq rfl]
@[go_sem] def anA:l2 uB=λx => !eV x:=by
 unfold l2;rw[aq rfl]
@[go_sem] def S2:l2 v5=rZ:=by
 unfold l2;rw[ar (mq rfl),ar (mq rfl),ar (mq rfl),ar (mq rfl),ar (mq rfl)]
@[go_sem] def S3:l2 uz=λx => !(x.1.1==0):=by
 unfold l2;rw[ar (mq rfl),aq rfl]
@[go_sem] def S4:l2 uA=λx => !eV x||(x.1.1==0):=by
 unfold l2;rw[ar (mq rfl),ar (mq rfl),aq rfl]
def Ez {α:Type}{p:α->Bool}{l:List α}{i:Nat}(h:∀x∈l.take i,p x=false){x:α}(J:l[i]?=some x)(aF:p x=false):∀y∈l.take (i+1),p y=false:=by
 intro y af;rw[jl,J] at af;simp only[Option.toList_some,hv,wq] at af;rcases af with af|rfl
 ·exact h y af
 ·exact aF
def BM {T:bj}{c:eF}{K:fi->a3->Prop}{st:a3}(h:wp T c K st):wp T c (cI T K []) st:=by
 have:cI T K []=K:=by funext e st;cases e<;>rfl
 rwa [this]
def BN (T:bj)(id:FuncId)(cU:List Data)(bK:List Data->Option c8)(cn:T id=aW bK)(p:aG->Bool)(l:List aG)(ad:ia l)(e0:∀a b c d,D b<=1000000->(D d)<=1000000->bK (.agg [.int .i64 a,.ay (b.map aJ),.int .i64 c,.ay (d.map aJ)]::cU)=some (.same (.bool (p ((a,b),(c,d)))))):
  wp T HO.body (uq HO.res (.same (.int .i64 (wJ p l)))) ⟨jK [.M (.ay (l.map aV)),.M (.fn id cU)],emp⟩:=by
 obtain⟨ad,dD⟩:=ad;refine xr ?_;simp only[HO];simp only[go_sem,go_sem_proc,au];refine du [0,1,7] [] (λ(i:Nat) tm mem=>i<=D l/\(∀x∈l.take i,p x=false)/\tm 8=.M (.int .i64 i)) (λi=>D l-i) 0 (by refine⟨ej _,by simp,rfl⟩) ?_;intro vs ms aY aT;simp only[go_sem,go_sem_proc,au] at aY aT;subst aY aT;rintro i tm mem O hm ⟨L,dn,ct⟩;simp only[go_sem,go_sem_proc,bo] at O hm;obtain⟨ak,E,bP⟩:=O;have H5:∀m:Mem,(cU.map I.M).mapM (cC 6 m)=some cU:=λm=>AZ (cC 6 m) (λd=>rfl) cU;rcases eo (i<D l) with av|bM
 ·have J:=bw av;obtain⟨fY,gO⟩:=dD _ (iJ av);have fX:=λh=>SZ (p:=p) dn J h;have lh:=λh=>Ez (p:=p) dn J h;generalize l[i]=x at *;obtain⟨⟨fe,fJ⟩,⟨gS,iT⟩⟩:=x;have M7:=e0 fe fJ gS iT fY gO;have mr:decide ((i:Int)<(D l:Int))=true:=dI;have hw:=hy (i:=i) (by omega);rcases U:p ((fe,fJ),(gS,iT))
  ·rw[U] at M7;refine ao ?_;repeat' (intro (aw:_=_)<;>simp only[aw,go_sem,go_sem_proc,cn,ak,E,bP,ct,J,mr,hw,M7,H5,aV,au,bD,zh]<;>try refine an ?_ ?_)
   exact⟨i+1,by omega,by omega,lh U,rfl⟩
  ·rw[U] at M7;rw[fX U];refine ao ?_;repeat' (intro (aw:_=_)<;>simp only[aw,go_sem,go_sem_proc,cn,ak,E,bP,ct,J,mr,hw,M7,H5,aV,au,bD,zh]<;>try refine an ?_ ?_)
 ·have mr:decide ((i:Int)<(D l:Int))=false:=dV;obtain rfl:i=D l:=by omega
  rw[oc] at dn;rw[S0 dn];refine ao ?_;repeat' (intro (aw:_=_)<;>simp only[aw,go_sem,go_sem_proc,ak,E,bP,ct,mr,au]<;>try refine an ?_ ?_)
def abE (f:FuncId):Prop:=f=rJ\/(f=DP/\DP<900000)\/(f=Be/\Be<900000)\/(f=uB/\uB<900000)\/(f=v5/\v5<900000)\/(f=uz/\uz<900000)\/(f=uA/\uA<900000)
abbrev EA:(List aG)×FuncId->List Data:=λ(l,f)=>[.ay (l.map aV),.fn f (anv f)]
def M8:=bW EA λ(l,f)=>cv (ia l/\abE f) (.same (.int .i64 (wJ (l2 f) l)))
def abF:∀a b,EA a=EA b->a=b:=by
  rintro⟨iP,f1⟩ ⟨ah,f2⟩ h;simp only[bo,Data.ay.injEq,Data.fn.injEq] at h;exact cO (map_inj lB _ _ h.1) h.2.1.1
@[go_sem] def azE (l f):=cK M8 rfl abF (l,f) rfl
def anB (T:bj)(II:T rJ=aW IH)(anC:DP<900000->T DP=aW abA)(anD:Be<900000->T Be=aW abB)(anE:uB<900000->T uB=aW M3)(anF:v5<900000->T v5=aW M4)(anG:uz<900000->T uz=aW M5)(anH:uA<900000->T uA=aW M6):WF T HO M8:=by
 refine cp λ(l,f)=>cN λZ=>⟨rfl,cq ?_⟩;simp only[HO,EA,cg];obtain⟨ad,ag⟩:=Z;rcases ag with rfl|⟨rfl,L⟩|⟨rfl,L⟩|⟨rfl,L⟩|⟨rfl,L⟩|⟨rfl,L⟩|⟨rfl,L⟩
 ·rw[anw];exact BM (BN T _ _ _ II rZ l ad λa b c d E G=>anh a b c d ⟨E,G⟩)
 ·rw[anx];exact BM (BN T _ _ _ (anC L) (λx => !df x||decide (x.1.1<0)) l ad λa b c d E G=>anj a b c d ⟨E,G⟩)
 ·rw[anz];exact BM (BN T _ _ _ (anD L) (λx => !(df x&&decide (x.1.1>=0))) l ad λa b c d E G=>anl a b c d ⟨E,G⟩)
 ·rw[anA];exact BM (BN T _ _ _ (anE L) (λx => !eV x) l ad λa b c d E G=>ann a b c d ⟨E,G⟩)
 ·rw[S2];exact BM (BN T _ _ _ (anF L) rZ l ad λa b c d E G=>anp a b c d ⟨E,G⟩)
 ·rw[S3];exact BM (BN T _ _ _ (anG L) (λx => !(x.1.1==0)) l ad λa b c d E G=>anr a b c d ⟨E,G⟩)
 ·rw[S4];exact BM (BN T _ _ _ (anH L) (λx => !eV x||(x.1.1==0)) l ad λa b c d E G=>ant a b c d ⟨E,G⟩)
def r0:=bW EA λ(l,f)=>cv (ia l/\abE f) (.same (.bool (l.any (l2 f))))
@[go_sem] def IJ (l f):=cK r0 rfl abF (l,f) rfl
def anI (T:bj)(anJ:T Rj=aW M8):WF T Zq r0:=by
 refine cp λ(l,f)=>cN λZ=>⟨rfl,cq ?_⟩;simp only[Zq,EA,cg];rw[<-S1];refine ao ?_;repeat' (intro h<;>simp only[h,go_sem,go_sem_proc,anJ,Z]<;>try refine an ?_ ?_)
@[go_sem] def azF (l:List aG)(h:ia l):r0 [.ay (l.map aV),.fn rJ []]=some (.same (.bool (l.any (l2 rJ)))):=IJ l rJ ⟨h,.inl rfl⟩
@[go_sem] def azG (l:List aG)(h:ia l):r0 [.ay (l.map aV),.fn uB []]=some (.same (.bool (l.any (l2 uB)))):=IJ l uB ⟨h,.inr (.inr (.inr (.inl ⟨rfl,by decide⟩)))⟩
@[go_sem] def abG (l:List aG)(h:ia l):r0 [.ay (l.map aV),.fn v5 []]=some (.same (.bool (l.any (l2 v5)))):=IJ l v5 ⟨h,.inr (.inr (.inr (.inr (.inl ⟨rfl,by decide⟩))))⟩
@[go_sem] def abH (l:List aG)(h:ia l):r0 [.ay (l.map aV),.fn uz []]=some (.same (.bool (l.any (l2 uz)))):=IJ l uz ⟨h,.inr (.inr (.inr (.inr (.inr (.inl ⟨rfl,by decide⟩)))))⟩
@[go_sem] def abI (l:List aG)(h:ia l):r0 [.ay (l.map aV),.fn uA []]=some (.same (.bool (l.any (l2 uA)))):=IJ l uA ⟨h,.inr (.inr (.inr (.inr (.inr (.inr ⟨rfl,by decide⟩)))))⟩
def tl (n:Int)(r:eg):Bool:=!(((r.1.length:Int)==n)&&(df r.2 && !(r.1.any rZ)))
abbrev M9:(List aG)×Int×(List Int)×Int×(List Int)×Int->List Data:=λ(a,s,l,s2,ah,n)=>[.agg [.ay (a.map aV),.int .i64 s,.ay (l.map aJ),.int .i64 s2,.ay (ah.map aJ)],.ptr [.int .i64 n],.ptr [.fn rJ []]]
def Na:=bW M9 λ(a,s,l,s2,ah,n)=>cv (ia a/\D l<=1000000/\D ah<=1000000) (.same (.bool (tl n (a,((s,l),(s2,ah))))))
def anK:∀a b,M9 a=M9 b->a=b:=by
  rintro⟨cx,s1,iP,uI,tc,rq⟩ ⟨c3,s2,ah,uJ,td,rr⟩ h;simp only[bo,Data.agg.injEq,Data.int.injEq,Data.ay.injEq,Data.ptr.injEq] at h;exact cO (map_inj lB _ _ h.1.1) (cO h.1.2.1.2 (cO (map_inj fQ _ _ h.1.2.2.1) (cO h.1.2.2.2.1.2 (cO (map_inj fQ _ _ h.1.2.2.2.2.1) h.2.1.1.2))))
@[go_sem] def azH (a s l s2 ah n):=cK Na rfl anK (a,s,l,s2,ah,n) rfl
def anL (T:bj)(II:T rJ=aW IH)(fZ:T sS=aW r0):WF T abh Na:=by
 refine cp λ(a,s,l,s2,ah,n)=>cN λZ=>⟨rfl,cq ?_⟩;simp only[abh,M9,cg];obtain⟨a2,bH,bG⟩:=Z;unfold tl;rcases E:((D a:Int)==n)
 ·refine ao ?_;repeat' (intro h<;>simp only[h,go_sem,go_sem_proc,II,fZ,a2,bH,bG,E,au]<;>try refine an ?_ ?_)
 ·rcases G:df ((s,l),(s2,ah))
  ·refine ao ?_;repeat' (intro h<;>simp only[h,go_sem,go_sem_proc,II,fZ,a2,bH,bG,E,G,au]<;>try refine an ?_ ?_)
  ·refine ao ?_;repeat' (intro h<;>simp only[h,go_sem,go_sem_proc,II,fZ,a2,bH,bG,E,G,au,show (rJ=rJ)=True from by simp,true_or,Bool.not_not]<;>try refine an ?_ ?_)
abbrev EB:(List eg)×Int->List Data:=λ(rs,n)=>[.ay (rs.map ky),.fn LV [.ptr [.int .i64 n],.ptr [.fn rJ []]]]
def Nb:=bW EB λ(rs,n)=>cv (BL rs) (.same (.int .i64 (wJ (tl n) rs)))
def abJ:∀a b,EB a=EB b->a=b:=by
  rintro⟨abK,rq⟩ ⟨abL,rr⟩ h;simp only[bo,Data.ay.injEq,Data.fn.injEq,Data.ptr.injEq,Data.int.injEq] at h;exact cO (map_inj SX _ _ h.1) h.2.1.2.1.1.2
@[go_sem] def azI (rs n):=cK Nb rfl abJ (rs,n) rfl
def anM (T:bj)(EC:T LV=aW Na):WF T Zs Nb:=by
 refine cp λ(rs,n)=>cN λZ=>⟨rfl,cq ?_⟩;simp only[Zs,EB,cg];obtain⟨ad,dD⟩:=Z;simp only[go_sem,go_sem_proc,EC,au];refine du [0,1,7] [] (λ(i:Nat) tm mem=>i<=D rs/\(∀x∈rs.take i,tl n x=false)/\tm 8=.M (.int .i64 i)) (λi=>D rs-i) 0 (by refine⟨ej _,?_,rfl⟩;simp) ?_;intro vs ms aY aT;simp only[go_sem,go_sem_proc,EC,au] at aY aT;subst aY aT;rintro i tm mem O hm ⟨L,dn,ct⟩;simp only[go_sem,go_sem_proc,EC,bo] at O hm;obtain⟨ak,E,bP⟩:=O;rcases eo (i<D rs) with av|bM
 ·have J:=bw av;obtain⟨zM,fY,gO⟩:=dD _ (iJ av);have fX:=λh=>SZ (p:=tl n) dn J h;have lh:=λh=>Ez (p:=tl n) dn J h;generalize rs[i]=x at *;have mr:decide ((i:Int)<(D rs:Int))=true:=dI;have hw:=hy (i:=i) (by omega);obtain⟨a,⟨fe,fJ⟩,⟨gS,iT⟩⟩:=x;dsimp only at zM fY gO;rcases U:tl n (a,((fe,fJ),(gS,iT)))
  ·refine ao ?_;repeat' (intro (aw:_=_)<;>simp only[aw,go_sem,go_sem_proc,EC,ak,E,bP,ct,J,mr,hw,zM,fY,gO,U,au,bD,ky,aV]<;>try refine an ?_ ?_)
   exact⟨i+1,by omega,by omega,lh U,rfl⟩
  ·rw[fX U];refine ao ?_;repeat' (intro (aw:_=_)<;>simp only[aw,go_sem,go_sem_proc,EC,ak,E,bP,ct,J,mr,hw,zM,fY,gO,U,au,bD,ky,aV]<;>try refine an ?_ ?_)
 ·have mr:decide ((i:Int)<(D rs:Int))=false:=dV;have iF:i=D rs:=by omega
  subst iF;rw[oc] at dn;rw[S0 dn];refine ao ?_;repeat' (intro (aw:_=_)<;>simp only[aw,go_sem,go_sem_proc,EC,ak,E,bP,ct,mr,au]<;>try refine an ?_ ?_)
def Nc:=bW EB λ(rs,n)=>cv (BL rs) (.same (.bool (rs.any (tl n))))
@[go_sem] def azJ (rs n):=cK Nc rfl abJ (rs,n) rfl
def anN (T:bj)(anO:T Ri=aW Nb):WF T Zp Nc:=by
 refine cp λ(rs,n)=>cN λZ=>⟨rfl,cq ?_⟩;simp only[Zp,EB,cg];rw[<-S1];refine ao ?_;repeat' (intro h<;>simp only[h,go_sem,go_sem_proc,anO,Z]<;>try refine an ?_ ?_)
def oe (rs:List eg)(n:Int):Bool:=!(decide (n<0))&&(!(decide (n>40))&&(((D rs:Int)==n) && !(rs.any (tl n))))
abbrev ED:(List eg)×Int->List Data:=λ(rs,n)=>[.ay (rs.map ky),.int .i64 n]
def Nd:=bW ED λ(rs,n)=>cv (BL rs) (.same (.bool (oe rs n)))
def abM:∀a b,ED a=ED b->a=b:=by
  rintro⟨abK,rq⟩ ⟨abL,rr⟩ h;simp only[bo,Data.ay.injEq,Data.int.injEq] at h;exact cO (map_inj SX _ _ h.1) h.2.1.2
@[go_sem] def azK (rs n):=cK Nd rfl abM (rs,n) rfl
def anP (T:bj)(Nf:T Rd=aW Nc):WF T abe Nd:=by
 refine cp λ(rs,n)=>cN λZ=>⟨rfl,cq ?_⟩;simp only[abe,ED,cg];unfold oe;rcases E:decide (n<0)
 ·rcases G:decide (n>40)
  ·rcases ab:((D rs:Int)==n)
   ·refine ao ?_;repeat' (intro h<;>simp only[h,go_sem,go_sem_proc,Nf,Z,E,G,ab,au]<;>try refine an ?_ ?_)
   ·refine ao ?_;repeat' (intro h<;>simp only[h,go_sem,go_sem_proc,Nf,Z,E,G,ab,au,cC,l9,kz,scalar]<;>try refine an ?_ ?_)
  ·refine ao ?_;repeat' (intro h<;>simp only[h,go_sem,go_sem_proc,Nf,Z,E,G,au]<;>try refine an ?_ ?_)
 ·refine ao ?_;repeat' (intro h<;>simp only[h,go_sem,go_sem_proc,Nf,Z,E,au]<;>try refine an ?_ ?_)
def abN {es:List (List Data)}(h:∀x∈es,Fit (.int .i64) x):∃l:List Int,es=l.map aJ:=by
 obtain⟨l,e,-⟩:=LS (e:=aJ) (good:=λ_=>True) λx J=>by
  have:=h x J;simp only[Fit] at this;obtain⟨n,rfl,-⟩:=this;exact⟨n,rfl,trivial⟩
 exact⟨l,e⟩
def abO {x:List Data}(h:Fits [.st [.int .i64,.ay (.int .i64)],.st [.int .i64,.ay (.int .i64)]] x):∃f:aG,x=aV f:=by
 simp only[Fit,Fits] at h;obtain⟨_,_,rfl,⟨_,_,rfl,⟨s,rfl,-⟩,_,_,rfl,⟨es,rfl,-,E⟩,rfl⟩,_,_,rfl,⟨_,_,rfl,⟨s2,rfl,-⟩,_,_,rfl,⟨abP,rfl,-,G⟩,rfl⟩,rfl⟩:=h;obtain⟨l,rfl⟩:=abN λx J=>by simp only[Fit];exact E x J
 obtain⟨ah,rfl⟩:=abN λx J=>by simp only[Fit];exact G x J
 exact⟨((s,l),(s2,ah)),rfl⟩
def S5 {es:List (List Data)}(h:∀x∈es,Fit (.st [.st [.int .i64,.ay (.int .i64)],.st [.int .i64,.ay (.int .i64)]]) x):∃l:List aG,es=l.map aV:=by
 obtain⟨l,e,-⟩:=LS (e:=aV) (good:=λ_=>True) λx J=>by
  have:=h x J;unfold Fit at this;obtain⟨f,rfl⟩:=abO this;exact⟨f,rfl,trivial⟩
 exact⟨l,e⟩
end Go.Mini
namespace Go.Mini
open Go
variable {P:Program} {A:Nat->Prop} {w aj:World} {B aB:cB} {mem mem':Mem}
structure mu (P:Program) (f:FuncId) (b6:List I->Mem->Option fV):Prop where
 real:Real P f
 run:∀args mem np,b6 args mem=some np->∀A w B vs,dj A w B mem->ck w (bb A B) B args vs->Qo P f vs A w B mem np
def tn (res:List jI)(bR:I->Mem->Prop):fi->a3->Prop
 |.exit _,_=>False
 |.normal,st=>∃m,jd st res=some m/\bR m st.mem
 |.ret,st=>∃m,jd st res=some m/\bR m st.mem
@[go_sem] def azL {res:List jI}{st:a3}(bR:I->Mem->Prop)(id:Nat):tn res bR (.exit id) st=False:=bf
@[go_sem] def azM {res:List jI}{st:a3}(bR:I->Mem->Prop):tn res bR .normal st=∃m,jd st res=some m/\bR m st.mem:=bf
@[go_sem] def azN {res:List jI}{st:a3}(bR:I->Mem->Prop):tn res bR .ret st=∃m,jd st res=some m/\bR m st.mem:=bf
def S6 {mf:bN}{bR:I->Mem->Prop}{e:fi}{st:a3}(h:tn mf.res bR e st):QK mf bR e st:=by
 cases e with
 |exit id=>exact h
 |normal=>exact h
 |ret=>exact h
def S7 {kb : Nat}{own : List Nat}{f : FuncId}{fn : Func}{mf : bN}(ag : P.funcs[f]? = some fn)(ur : (fn.name == "runtime.NumGoroutine") = false)(aA : pC P kb own fn = some mf): Real P f := by
 cases U:fn.body with
 |none=>simp[pC,U] at aA
 |some c=>exact⟨fn,c,ag,U,ur⟩
def yj (al:List I->Mem->Option (I->Mem->Prop))(args:List I)(mem:Mem):Option fV:=(al args mem).map .rel
@[go_sem] def azO (al:List I->Mem->Option (I->Mem->Prop))(args:List I)(mem:Mem):yj al args mem=(al args mem).map .rel:=bf
def S8 {T : bj}{kb : Nat}{own : List Nat}(cn : mS P T)(hm : P.follows .mixedOrders = true){f : FuncId}{fn : Func}{mf : bN}(ag : P.funcs[f]? = some fn)(ur : (fn.name == "runtime.NumGoroutine") = false)(aA : pC P kb own fn = some { mf with body := erase mf.body })
  {al:List I->Mem->Option (I->Mem->Prop)} (h:∀args mem bR,al args mem=some bR->(D args)<=mf.n/\wp T mf.body (tn mf.res bR) ⟨jK args,mem⟩):mu P f (yj al):=by
 refine⟨S7 ag ur aA,λargs mem np eG A w B vs a4 ai=>?_⟩;unfold yj at eG;rw[cJ] at eG;obtain⟨bR,dK,rfl⟩:=eG;obtain⟨hlen,xG⟩:=h args mem bR dK;refine Calls.mono (Hi (Post:=bR) cn hm ag aA hlen (λe st O=>S6 O) xG a4 ai) λe aj he=>?_;obtain⟨v,m,mem',aB,rfl,R,j8,aF⟩:=he;exact⟨v,m,mem',aB,rfl,R,j8,aF⟩
inductive pY (cy:Key->Prop):I->Prop
 |M {d:Data}:pY cy (.M d)
 |nil:pY cy .nil
 |ref {k g sz off len:Nat} (h:¬ cy k):pY cy (.ref k g sz off len)
 |ptr {k g off:Nat} (h:¬ cy k):pY cy (.ptr k g off)
 |dB {f:FuncId} {cU:List I} (h:∀(i:Nat) (m:I),cU[i]?=some m->pY cy m):pY cy (.dB f cU)
 |agg {cs:List I} (h:∀(i:Nat) (m:I),cs[i]?=some m->pY cy m):pY cy (.agg cs)
 |dc {cs:List I} (h:∀(i:Nat) (m:I),cs[i]?=some m->pY cy m):pY cy (.dc cs)
 |g1 {k g:Nat} (h:¬ cy k):pY cy (.g1 k g)
 |no:pY cy .no
 |undef:pY cy .undef
def clean_of {cy:Key->Prop}{ax:Nat->Prop}(uQ:∀k,cy k->B k=none){m:I}{v:Value}(h:aN w ax B m v):pY cy m:=by
 induction h with
 |M h=>exact .M
 |nil=>exact .nil
 |ref he aC ai=>exact .ref λaa=>by rw[uQ _ aa] at he;cases he
 |ptr he aC ai=>exact .ptr λaa=>by rw[uQ _ aa] at he;cases he
 |g1 he aC ai=>exact .g1 λaa=>by rw[uQ _ aa] at he;cases he
 |dB ad ae aD=>exact .dB λi m L=>aD i m _ L (bw (by have av:=(dh.1 L).1;omega))
 |agg ad ae aD=>exact .agg λi m L=>aD i m _ L (bw (by have av:=(dh.1 L).1;omega))
 |dc ad ae aD=>exact .dc λi m L=>aD i m _ L (bw (by have av:=(dh.1 L).1;omega))
 |no=>exact .no
 |undef=>exact .undef
open Classical in
def r1 (cy:Key->Prop)(B:cB):cB:=λk=>if cy k then none else B k
def BO {cy:Key->Prop}{b:Nat}(h:ni (r1 cy B) b):ni B b:=by
 obtain⟨k,e,he,U⟩:=h;unfold r1 at he
 split at he
 ·cases he
 ·exact⟨k,e,he,U⟩
def anQ {cy:Key->Prop}{m:I}{v:Value}(h:aN w (bb A B) B m v)(Z:pY cy m):aN w (bb A (r1 cy B)) (r1 cy B) m v:=by
 have at_:∀{k:Key} {e:gU},¬ cy k->B k=some e->r1 cy B k=some e:=λO he=>by unfold r1;rw[ar O];exact he
 induction h with
 |M h=>exact .M (h.less λb U=>U.imp BO id)
 |nil=>exact .nil
 |ref he aC ai=>cases Z with|ref O=>exact .ref (at_ O he) aC ai
 |ptr he aC ai=>cases Z with|ptr O=>exact .ptr (at_ O he) aC ai
 |g1 he aC ai=>cases Z with|g1 O=>exact .g1 (at_ O he) aC ai
 |dB ad ae aD=>cases Z with|dB Z=>exact .dB ad λi d v L ai=>aD i d v L ai (Z i d L)
 |agg ad ae aD=>cases Z with|agg Z=>exact .agg ad λi d v L ai=>aD i d v L ai (Z i d L)
 |dc ad ae aD=>cases Z with|dc Z=>exact .dc ad λi d v L ai=>aD i d v L ai (Z i d L)
 |no=>exact .no
 |undef=>exact .undef
def cT.drop {cy:Key->Prop}{Ng:Mem}(ak:dj A w B mem)(uQ:∀k,cy k->mem k=none)(h:cT A w B aj aB mem')(E:∀k,cy k->Ng k=none)(G:∀k,¬ cy k->Ng k=mem' k)
  (Z:∀k g cs,Ng k=some (g,cs)->∀m∈cs,(∃d,m=.M d)\/∃ft G5 rv,mem ft=some (G5,rv)/\m∈rv):cT A w B aj (r1 cy aB) Ng:=by
 have ht:∀k,cy k->B k=none:=λk O=>ak.q9 k (uQ k O);have at_:∀{k:Key},¬ cy k->r1 cy aB k=aB k:=λO=>by unfold r1;rw[ar O]
 have S9:∀{k:Key},cy k->r1 cy aB k=none:=λO=>by unfold r1;rw[aq O]
 refine⟨⟨λk O=>?_,λk k' e e' b he dW U g3=>?_,λb a2 a0=>h.b4.sep b a2 (BO a0),h.b4.lt,h.b4.gl,λb o U a0=>h.b4.vu b o U (BO a0),λk g cs O=>?_⟩,⟨h.h0.size,λb U a0=>?_,λk e he=>?_⟩,h.fx,λb U=>h.fresh b (BO U)⟩
 ·by_cases aa:cy k
  ·exact S9 aa
  ·rw[at_ aa];exact h.b4.q9 k (by rw[<-G k aa];exact O)
 ·by_cases aa:cy k
  ·rw[S9 aa] at he;cases he
  ·by_cases jx:cy k'
   ·rw[S9 jx] at dW;cases dW
   ·rw[at_ aa] at he;rw[at_ jx] at dW;exact h.b4.inj k k' e e' b he dW U g3
 ·by_cases aa:cy k
  ·rw[E k aa] at O;cases O
  ·obtain⟨e,he,aC,aE,U⟩:=h.b4.cW k g cs (by rw[<-G k aa];exact O);refine⟨e,by rw[at_ aa];exact he,aC,aE,λb fq=>?_⟩
   refine (U b fq).imp rfl rfl λm L v iz=>anQ iz ?_;rcases Z k g cs O m L with ⟨d,rfl⟩|⟨ft,G5,rv,mP,gA⟩
   ·exact .M
   ·obtain⟨eO,ug,x5,pH,we⟩:=ak.cW ft G5 rv mP
    cases D3:eO.cW with
    |none=>rw[pH D3] at gA;cases gA
    |some qy =>
     obtain⟨v0,anR⟩:=(we qy D3).has m gA;exact clean_of ht anR
 ·obtain⟨ab,aM⟩:=h.h0.CR b U a0;exact⟨ab,λJ=>aM (BO J)⟩
 ·have aa:¬ cy k:=λaa=>by rw[ht k aa] at he;cases he
  rw[at_ aa];exact h.h0.key k e he
def zN (BP:List I->Mem->Option (Data×Key×Nat×Nat×Data))(args:List I)(mem:Mem):Option fV:=(BP args mem).map λx => .er x.1 x.2.1 x.2.2.1 x.2.2.2.1 (.M x.2.2.2.2)
@[go_sem] def azP (BP:List I->Mem->Option (Data×Key×Nat×Nat×Data))(args:List I)(mem:Mem):zN BP args mem=(BP args mem).map λx => .er x.1 x.2.1 x.2.2.1 x.2.2.2.1 (.M x.2.2.2.2):=bf
def anS {T : bj}{kb : Nat}{own : List Nat}(cn : mS P T)(hm : P.follows .mixedOrders = true){f : FuncId}{fn : Func}{mf : bN}(ag : P.funcs[f]? = some fn)(ur : (fn.name == "runtime.NumGoroutine") = false)(aA : pC P kb own fn = some { mf with body := erase mf.body })
  (cy:Key->Prop) {BP:List I->Mem->Option (Data×Key×Nat×Nat×Data)}
  (h:∀args mem r k g i d,BP args mem=some (r,k,g,i,d)->(D args)<=mf.n/\(∀j,cy j->mem j=none)/\¬ cy k/\(∃cs,mem k=some (g,cs)) /\
   wp T mf.body (tn mf.res λm mem'=>cC 6 emp m=some r/\∀j,¬ cy j->mem' j=aR mem k g ((py mem k).set i (.M d)) j) ⟨jK args,mem⟩):mu P f (zN BP):=by
 refine⟨S7 ag ur aA,λargs mem np eG A w B vs a4 ai=>?_⟩;unfold zN at eG;rw[cJ] at eG;obtain⟨⟨r,k,g,i,d⟩,wK,rfl⟩:=eG;obtain⟨hlen,uQ,O,⟨cs,jL⟩,xG⟩:=h args mem r k g i d wK;refine Calls.mono (Hi (Post:=λm mem'=>cC 6 emp m=some r/\∀j,¬ cy j->mem' j=aR mem k g ((py mem k).set i (.M d)) j) cn hm ag aA hlen (λe st O=>S6 O) xG a4 ai) λe aj he=>?_;obtain⟨v,m,mem',aB,rfl,R,j8,ae,gA⟩:=he;refine⟨v,r1 cy aB,rfl,R.drop a4 uQ (λj aa=>?_) (λj aa=>(gA j aa).symm) ?_,.M ((QL 6 m v r ae j8).less λb U=>U.imp BO id)⟩
 ·have:j≠k:=λe=>O (e ▸ aa);simp only[aR,this,if_false];exact uQ j aa
 ·intro dX bX GQ G m Ic
  by_cases gn:dX=k
  ·subst gn;simp only[aR,if_true,bF,ec] at G;obtain⟨-,rfl⟩:=G;rcases tp Ic with J|rfl
   ·refine .inr ⟨dX,g,cs,jL,?_⟩
    simpa [py,jL] using J
   ·exact .inl ⟨d,rfl⟩
  ·simp only[aR,gn,if_false] at G;exact .inr ⟨dX,bX,GQ,G,Ic⟩
def Ta:Option fV->Option fV->Option fV
 |some x,_=>some x
 |none,e=>e
@[go_sem] def azQ (x:fV)(e:Option fV):Ta (some x) e=some x:=bf
@[go_sem] def azR (e:Option fV):Ta none e=e:=bf
def r2 (fI:FuncId->Option (List Data->Option c8))(qO:FuncId->Option (List I->Mem->Option fV)):bj:=λf args mem=>match qO f with
 |some b6=>Ta (b6 args mem) (uu fI f args mem)
 |none=>uu fI f args mem
def yk {fI:FuncId->Option (List Data->Option c8)}{qO:FuncId->Option (List I->Mem->Option fV)}(h:∀f bK,fI f=some bK->h7 P f bK)(Q:∀f b6,qO f=some b6->mu P f b6):mS P (r2 fI qO):=by
 intro f args mem np cn;unfold r2 at cn
 split at cn
 ·rename_i b6 eG;have R:=Q f b6 eG
  cases J:b6 args mem with
  |none =>
   rw[J] at cn;exact QM h f args mem np cn
  |some y =>
   rw[J] at cn
   cases cn;exact⟨R.real,λA w B vs a4 ai=>R.run args mem np J A w B vs a4 ai⟩
 ·exact QM h f args mem np cn
def Hv.abQ {f:FuncId}{bc:List I->Mem->Option (I×Mem)}(h:Hv P f bc):mu P f (zi bc):=by
 refine⟨h.real,λargs mem np eG A w B vs a4 ai=>?_⟩;unfold zi at eG;rw[cJ] at eG;obtain⟨x,J,rfl⟩:=eG;exact h.run args mem x J A w B vs a4 ai
section
variable {fI:FuncId->Option (List Data->Option c8)} {qO:FuncId->Option (List I->Mem->Option fV)} {f:FuncId}
def yl {bK:List Data->Option c8}(h:qO f=none)(bS:fI f=some bK):r2 fI qO f=aW bK:=by
 funext args mem
 unfold r2;rw[h];exact congrFun (congrFun (YC bS) args) mem
def EE {b6:List I->Mem->Option fV}(h:qO f=some b6)(bS:fI f=none):r2 fI qO f=b6:=by
 funext args mem
 unfold r2 uu;rw[h,bS];dsimp only
 cases b6 args mem<;>rfl
def EF {bK:List Data->Option c8}{bc:List I->Mem->Option (I×Mem)}(h:qO f=some (zi bc))(bS:fI f=some bK):r2 fI qO f=xM bK bc:=by
 funext args mem
 unfold r2;rw[h];unfold xM zi;rw[show uu fI f args mem=aW bK args mem from congrFun (congrFun (YC bS) args) mem];dsimp only
 cases bc args mem<;>rfl
end
def EG (l:List (FuncId×(List I->Mem->Option fV))):FuncId->Option (List I->Mem->Option fV):=λf=>(l.find? λp=>p.1==f).map (·.2)
def ym {l:List (FuncId×(List I->Mem->Option fV))}(h:∀p∈l,mu P p.1 p.2):∀f bc,EG l f=some bc->mu P f bc:=by
 intro f bK ag;unfold EG at ag;rw[cJ] at ag;obtain⟨p,aF,rfl⟩:=ag;have E:=List.mem_of_find?_eq_some aF;have G:=List.find?_some aF;have ab:p.1=f:=by simpa using G
 exact ab ▸ h p E
def m5:∀p∈([]:List (FuncId×(List I->Mem->Option fV))),mu P p.1 p.2:=by simp
def tq {f:FuncId}{bK:List I->Mem->Option fV}{l:List (FuncId×(List I->Mem->Option fV))}(h:mu P f bK)(ad:∀p∈l,mu P p.1 p.2):∀p∈(f,bK)::l,mu P p.1 p.2:=by
 intro p aF;rcases hq.1 aF with rfl|aF
 ·exact h
 ·exact ad p aF
open Classical in
def BQ {α:Type}(bk:α->List I->Mem->Prop)(bR:α->Mem->I->Mem->Prop):List I->Mem->Option (I->Mem->Prop):=λargs mem=>if h:∃a,bk a args mem then some (bR (Classical.choose h) mem) else none
def Tb {α:Type}{bk:α->List I->Mem->Prop}{bR:α->Mem->I->Mem->Prop}(uniq:∀a b args mem,bk a args mem->bk b args mem->a=b){a:α}{args:List I}{mem:Mem}(h:bk a args mem):BQ bk bR args mem=some (bR a mem):=by
 have J:∃b,bk b args mem:=⟨a,h⟩;unfold BQ;rw[dif_pos J,uniq _ _ _ _ (rD J) h]
def Tc {α:Type}{bk:α->List I->Mem->Prop}{bR:α->Mem->I->Mem->Prop}{args:List I}{mem:Mem}{x:I->Mem->Prop}(h:BQ bk bR args mem=some x):∃a,bk a args mem/\x=bR a mem:=by
 unfold BQ at h
 split at h
 ·rename_i J;exact⟨_,rD J,(mN h).symm⟩
 ·cases h
end Go.Mini
namespace Go.Mini
open Go
def IK:=bW k1 λ(s,l,s2,ah)=>some (.same (.bool (s==0)))
@[go_sem] def azS (s l s2 ah):=ux IK rfl uO (s,l,s2,ah) rfl
def anT (T:bj):WF T abi IK:=by
 refine cp λ(s,l,s2,ah)=>⟨rfl,cq ?_⟩;simp only[abi,k1,cg];refine ao ?_;repeat' (intro h<;>simp only[h,go_sem,go_sem_proc]<;>try refine an ?_ ?_)
def yn (args:List I)(mem:Mem):Option (Data×Key×Nat×Nat×Data) :=
 match args with
 | [.ptr k g 0,.M (.agg [.int .i64 s,.ay l,.int .i64 s2,.ay ah]),.M (.int .i64 e)]=>match mem k,mem 168004,mem 168006 with
  |some (cd,[_,_,.M (.bool c)]),none,none=>if cd=g/\k≠168004/\k≠168006 then some (.agg [.int .i64 s,.ay l,.int .i64 s2,.ay ah],k,g,2,.bool (c||e != 0)) else none
  |_,_,_=>none
 |_=>none
def Nh (j:Key):Prop:=j=168004\/j=168006
def anU (T:bj)(args:List I)(mem:Mem)(r:Data)(k g i:Nat)(d:Data)(h:yn args mem=some (r,k,g,i,d)):
  (D args)<=19/\(∀j,Nh j->mem j=none)/\¬ Nh k/\(∃cs,mem k=some (g,cs)) /\
   wp T MX.body (tn MX.res λm mem'=>cC 6 emp m=some r/\∀j,¬ Nh j->mem' j=aR mem k g ((py mem k).set i (.M d)) j) ⟨jK args,mem⟩:=by
 unfold yn at h
 split at h
 ·rename_i ft G5 s l s2 ah e
  split at h
  ·rename_i bZ a b c hm aM bz
   split at h
   ·rename_i aC;obtain⟨rfl,tr,IL⟩:=aC;simp only[bF,ec] at h;obtain⟨rfl,rfl,rfl,rfl,rfl⟩:=h;refine⟨by simp,?_,?_,⟨_,hm⟩,?_⟩
    ·rintro j (rfl|rfl)
     ·exact aM
     ·exact bz
    ·rintro (h|h)
     ·exact tr h
     ·exact IL h
    ·have kS:∀x:Bool,py mem ft=[a,b,.M (.bool c)]:=λ_=>by simp only[py,hm]
     have abR:(ft=168004)=False:=eq_false tr;have abS:(ft=168006)=False:=eq_false IL;have abT:(168004=ft)=False:=eq_false (Ne.symm tr);have abU:(168006=ft)=False:=eq_false (Ne.symm IL);refine xr ?_;simp only[MX]
     cases c
     ·refine ao ?_;repeat' (intro (aw:_=_)<;>simp only[aw,go_sem,go_sem_proc,hm,aM,bz,abR,abS,abT,abU]<;>try refine an ?_ ?_)
      refine⟨_,rfl,by first|rfl|simp[go_sem,cC],λj aa=>?_⟩
      have Td:j≠168004:=λh=>aa (.inl h);have Te:j≠168006:=λh=>aa (.inr h)
      by_cases bL:j=ft<;>simp[aR,py,hm,Td,Te,bL,tr,IL,bne]
     ·refine ao ?_;repeat' (intro (aw:_=_)<;>simp only[aw,go_sem,go_sem_proc,hm,aM,bz,abR,abS,abT,abU]<;>try refine an ?_ ?_)
      refine⟨_,rfl,by first|rfl|simp[go_sem,cC],λj aa=>?_⟩
      have Td:j≠168004:=λh=>aa (.inl h);have Te:j≠168006:=λh=>aa (.inr h)
      by_cases bL:j=ft<;>simp[aR,py,hm,Td,Te,bL,tr,IL,bne]
   ·cases h
  ·cases h
 ·cases h
abbrev cQ:=Nat×Nat×List aG
def refsOf (N:Nat)(rows:List cQ):List I:=rows.map λx => .ref (x.1+900000) x.2.1 4 0 (N+1)
structure yo (go N:Nat) (rows:List cQ) (bad:Bool) (mem:Mem):Prop where
 m:mem 129015=some (0,[.ref 129035 go 1 0 N,.M (.int .i64 N),.M (.bool bad)])
 o:mem 129035=some (go,refsOf N rows)
 r:∀x∈rows,mem (x.1+900000)=some (x.2.1,a7 aV x.2.2)
structure iU (N:Nat) (rows:List cQ):Prop where
 len:(D rows)=N
 Ni:(rows.map (·.1)).Nodup
 row:∀x∈rows,x.2.2.length=N+1/\∀f∈x.2.2,okF f
def EH (k:Nat):Prop:=k<900000/\k≠129015/\k≠129035/\k≠148008/\k≠148010/\k≠148013
def jq (gM:Mem)(go N:Nat)(rows:List cQ)(bad:Bool)(mem:Mem):Prop:=yo go N rows bad mem/\∀k,EH k->mem k=gM k
section
variable {gM mem:Mem} {go N:Nat} {rows:List cQ} {kA:Bool}
def jq.flag (b:Bool)(h:jq gM go N rows kA mem):jq gM go N rows b (aR mem 129015 0 [.ref 129035 go 1 0 N,.M (.int .i64 N),.M (.bool b)]):=by
 refine⟨⟨by simp[aR],by simp[aR,h.1.o],λx J=>?_⟩,λk O=>?_⟩
 ·rw[<-h.1.r x J];exact ar (show ¬ ((x.1+900000:Nat)=129015) by omega)
 ·rw[<-h.2 k O];exact ar O.2.1
def jq.own {k g:Nat}{cs:List I}(O:k=148008\/k=148010\/k=148013)(h:jq gM go N rows kA mem):jq gM go N rows kA (aR mem k g cs):=by
 have a6:∀j:Nat,j≠k->aR mem k g cs j=mem j:=λj aa=>ar aa;refine⟨⟨by rw[a6 _ (by omega)];exact h.1.m,by rw[a6 _ (by omega)];exact h.1.o,λx J=>by rw[a6 _ (by omega)];exact h.1.r x J⟩,λj aa=>?_⟩
 have:=aa.2;rw[a6 _ (by omega)];exact h.2 j aa
def jq.set {i:Nat}{x:cQ}(dD:iU N rows)(L:rows[i]?=some x)(l:List aG)(h:jq gM go N rows kA mem):jq gM go N (rows.set i (x.1,x.2.1,l)) kA (aR mem (x.1+900000) x.2.1 (a7 aV l)):=by
 have a6:∀j:Nat,j≠x.1+900000->aR mem (x.1+900000) x.2.1 (a7 aV l) j=mem j:=λj aa=>ar aa;obtain⟨av,kB⟩:=dh.1 L;refine⟨⟨by rw[a6 _ (by omega)];exact h.1.m,?_,λy af=>?_⟩,λj aa=>?_⟩
 ·rw[a6 _ (by omega),h.1.o]
  congr 2
  unfold refsOf;apply ub;intro j;rw[bD,bD,lC]
  by_cases hM:i=j
  ·subst hM;rw[aq rfl,aq av,L]
   rfl
  ·rw[ar hM]
 ·obtain⟨j,aa⟩:=rH.1 af;rw[lC] at aa
  by_cases hM:i=j
  ·subst hM;rw[aq rfl,aq av] at aa
   cases aa;simp[aR]
  ·rw[ar hM] at aa
   have azT:y.1≠x.1:=by
    intro he;have E:(rows.map (·.1))[j]?=some y.1:=by rw[bD,aa];rfl
    have G:(rows.map (·.1))[i]?=some y.1:=by rw[bD,L,he];rfl
    have ad:i<(rows.map (·.1)).length:=by rw[au];exact av
    exact hM ((abV ad dD.Ni).1 (G.trans E.symm))
   rw[a6 (y.1+900000) (by omega)];exact h.1.r y (dM aa)
 ·have:=aa.1;rw[a6 j (by omega)];exact h.2 j aa
def jq.swap {i j:Nat}{a b:cQ}(L:rows[i]?=some a)(aa:rows[j]?=some b)(h:jq gM go N rows kA mem):jq gM go N ((rows.set i b).set j a) kA (aR (aR mem 129035 go (refsOf N (rows.set i b))) 129035 go (refsOf N ((rows.set i b).set j a))):=by
 have a6:∀k:Nat,k≠129035->aR (aR mem 129035 go (refsOf N (rows.set i b))) 129035 go (refsOf N ((rows.set i b).set j a)) k=mem k:=λk O=>by simp[aR,O]
 refine⟨⟨by rw[a6 _ (by omega)];exact h.1.m,by simp[aR],λx J=>?_⟩,λk O=>?_⟩
 ·rw[a6 _ (by omega)];apply h.1.r;rcases tp J with J|rfl
  ·rcases tp J with J|rfl
   ·exact J
   ·exact dM aa
  ·exact dM L
 ·rw[a6 _ O.2.2.1];exact h.2 k O
def iU.set {i:Nat}{x:cQ}(dD:iU N rows)(L:rows[i]?=some x){l:List aG}(ad:(D l)=N+1)(ag:∀f∈l,okF f):iU N (rows.set i (x.1,x.2.1,l)):=by
 obtain⟨av,kB⟩:=dh.1 L;refine⟨by rw[gg];exact dD.len,?_,λy af=>?_⟩
 ·have:(rows.set i (x.1,x.2.1,l)).map (·.1)=rows.map (·.1):=by
   rw[BR];apply ub;intro j;rw[lC]
   by_cases hM:i=j
   ·subst hM;rw[aq rfl,au,aq av,bD,L];rfl
   ·rw[ar hM]
  rw[this];exact dD.Ni
 ·rcases tp af with af|rfl
  ·exact dD.row y af
  ·exact⟨ad,ag⟩
def anV {α:Type}{l:List α}{i j:Nat}{a b:α}(L:l[i]?=some a)(aa:l[j]?=some b)(h:l.Nodup):((l.set i b).set j a).Nodup:=by
 obtain⟨iF,EI⟩:=dh.1 L;obtain⟨h2,Dg⟩:=dh.1 aa
 have main:∀p q,p<q->q<(D l)->((l.set i b).set j a)[p]?≠((l.set i b).set j a)[q]?:=by
  intro p q Nj aL;rw[lC,lC,lC,lC];have inj:∀p q,p<(D l)->l[p]?=l[q]?->p=q:=λp q aF he=>(abV aF h).1 he;simp only[gg]
  by_cases E:j=p
  ·subst E;have G:¬ j=q:=by omega
   rw[aq rfl,aq h2,ar G]
   by_cases ab:i=q
   ·subst ab;rw[aq rfl,aq iF];intro he;rw[<-L,<-aa] at he;have:=inj _ _ iF he;omega
   ·rw[ar ab,<-L];intro he;exact ab (inj _ _ iF he)
  ·rw[ar E]
   by_cases ab:i=p
   ·subst ab;rw[aq rfl,aq iF]
    by_cases G:j=q
    ·subst G;rw[aq rfl,aq h2,<-L,<-aa];intro he;have:=inj _ _ h2 he;omega
    ·rw[ar G,ar (by omega),<-aa];intro he;exact G (inj _ _ h2 he)
   ·rw[ar ab]
    by_cases G:j=q
    ·subst G;rw[aq rfl,aq h2,<-L];intro he;exact ab (inj _ _ iF he.symm)
    ·rw[ar G]
     by_cases aM:i=q
     ·subst aM;rw[aq rfl,aq iF,<-aa];intro he;exact E (inj _ _ h2 he.symm)
     ·rw[ar aM];intro he;have:=inj _ _ (by omega) he;omega
 refine List.pairwise_iff_getElem.2 λp q aF aL Nj he=>?_;simp only[gg] at aF aL;refine main p q Nj aL ?_;rw[bw (by simpa using aF),bw (by simpa using aL),he]
def iU.swap {i j:Nat}{a b:cQ}(dD:iU N rows)(L:rows[i]?=some a)(aa:rows[j]?=some b):iU N ((rows.set i b).set j a):=by
 refine⟨by rw[gg,gg];exact dD.len,?_,λx J=>?_⟩
 ·rw[BR,BR];exact anV (by rw[bD,L];rfl) (by rw[bD,aa];rfl) dD.Ni
 ·rcases tp J with J|rfl
  ·rcases tp J with J|rfl
   ·exact dD.row x J
   ·exact dD.row _ (dM aa)
  ·exact dD.row _ (dM L)
end
def anW {l:List aG}{i:Nat}{a b c d}(h:l[i]?=some ((a,b),(c,d))):cut (a7 aV l) (i*4) 4=some [.M (.int .i64 a),.M (.ay (b.map aJ)),.M (.int .i64 c),.M (.ay (d.map aJ))]:=by
 have:=Hm nC h (f:=0) (n:=4) (by omega);rw[ko] at this;rw[this]
 rfl
def anX {N:Nat}{rows:List cQ}{i:Nat}{x:cQ}(h:rows[i]?=some x):cut (refsOf N rows) i 1=some [.ref (x.1+900000) x.2.1 4 0 (N+1)]:=by
 obtain⟨av,rfl⟩:=dh.1 h;unfold cut refsOf;rw[aq (by rw[au];omega),<-List.map_drop,gK av]
 rfl
def anY {l m:List aG}(h:a7 aV l=a7 aV m):l=m:=RP nC lB _ _ h (by omega)
def l3 (f:aG):Bool:=f.1.1==0
def cellOf (x:cQ)(c:Nat):aG:=x.2.2.getD c bY
def findAt (rows:List cQ)(r c:Nat):Nat:=r+(rows.drop r).findIdx λx => !l3 (cellOf x c)
def im (eT:aG):List aG->List aG->Bool->List aG×Bool
 |f::c5,p::cD,false=>((nB f (lA eT p).1).1::(im eT c5 cD ((lA eT p).2 != 0||(nB f (lA eT p).1).2 != 0)).1,(im eT c5 cD ((lA eT p).2 != 0||(nB f (lA eT p).1).2 != 0)).2)
 |c5,_,b=>(c5,b)
def iV (e6:List aG)(r c:Nat):Nat->List cQ->Bool->List cQ×Bool
 |_,[],bad=>([],bad)
 |i,x::xs,bad=>if (i==r||l3 (cellOf x c))=true then (x::(iV e6 r c (i+1) xs bad).1,(iV e6 r c (i+1) xs bad).2) else
  ((x.1,x.2.1,(im (cellOf x c) x.2.2 e6 bad).1)::(iV e6 r c (i+1) xs (im (cellOf x c) x.2.2 e6 bad).2).1,(iV e6 r c (i+1) xs (im (cellOf x c) x.2.2 e6 bad).2).2)
def g9 (IE:aG)(l:List aG):List aG×Bool:=(l.map λf=>(jE f IE).1,l.any λf=>(jE f IE).2 != 0)
def rowAt (rows:List cQ)(i:Nat):cQ:=rows.getD i (0,0,[])
def o7 (rows:List cQ)(i j:Nat):List cQ:=(rows.set i (rowAt rows j)).set j (rowAt rows i)
def BS (rows:List cQ)(r c:Nat):List cQ:=rows.set r ((rowAt rows r).1,(rowAt rows r).2.1,(g9 (cellOf (rowAt rows r) c) (rowAt rows r).2.2).1)
def hU (rows:List cQ)(r c:Nat):Bool×List cQ×Bool :=
 if findAt rows r c=(D rows) then (true,rows,false) else
  (false,iV (g9 (cellOf (rowAt (o7 rows r (findAt rows r c)) r) c) (rowAt (o7 rows r (findAt rows r c)) r).2.2).1 r c 0 (BS (o7 rows r (findAt rows r c)) r c)
   (g9 (cellOf (rowAt (o7 rows r (findAt rows r c)) r) c) (rowAt (o7 rows r (findAt rows r c)) r).2.2).2)
def anZ {rows:List cQ}{r c i:Nat}{x:cQ}(J:rows[i]?=some x)(Q:r<=i)(aP:∀j y,r<=j->j<i->rows[j]?=some y->l3 (cellOf y c)=true)(h:l3 (cellOf x c)=false):findAt rows r c=i:=by
 unfold findAt;obtain⟨av,kB⟩:=dh.1 J
 have:(rows.drop r).findIdx (λx => !l3 (cellOf x c))=i-r:=by
  rw[List.findIdx_eq (by rw[rF];omega)];refine⟨?_,λj aa=>?_⟩
  ·rw[EJ];have:rows[r+(i-r)]?=some x:=by rw[show r+(i-r)=i by omega];exact J
   rw[(dh.1 this).2,h];rfl
  ·rw[EJ];have:=aP (r+j) _ (by omega) (by omega) (bw (by omega));rw[this];rfl
 omega
def an0 {rows:List cQ}{r c:Nat}(Q:r<=D rows)(aP:∀j y,r<=j->rows[j]?=some y->l3 (cellOf y c)=true):findAt rows r c=D rows:=by
 unfold findAt
 have:(rows.drop r).findIdx (λx => !l3 (cellOf x c))=(rows.drop r).length:=by
  rw[List.findIdx_eq_length];intro y af;obtain⟨j,aa⟩:=rH.1 af;rw[sL] at aa;rw[aP (r+j) y (by omega) aa];rfl
 rw[this,rF];omega
def Tf {x:Rat}(h:dL x):okF (bU x):=⟨k0 h.1,k0 (uM h)⟩
def qP:okF bY:=⟨by simp[bY],by simp[bY]⟩
def an1 (p q:Raw):okF (hR p q).1:=by
 unfold hR
 split
 ·rename_i h;rw[dp] at h;obtain⟨x,J,aK⟩:=(hQ _).1 h.1;obtain⟨y,af,az⟩:=(hQ _).1 h.2
  split
  ·exact qP
  ·rw[aK,az,eL,eL];exact Tf (MO J af)
 ·exact qP
def Tg (p q:Raw×Int):okF (wB p q).1:=by
 unfold wB
 split
 ·split
  ·exact an1 _ _
  ·exact qP
 ·exact qP
def abW (a b:aG):okF (ti a b).1:=by
 unfold ti
 split
 ·split
  ·exact Tg _ _
  ·exact qP
 ·exact qP
def Nk (a b:aG):okF (nB a b).1:=by
 unfold nB
 split
 ·split
  ·exact abW _ _
  ·exact qP
 ·exact qP
def abX (a b:aG):okF (lA a b).1:=by
 unfold lA
 split
 ·split
  ·exact Tg _ _
  ·exact qP
 ·exact qP
def abY (a b:aG):okF (jE a b).1:=by
 unfold jE
 split
 ·split
  ·split
   ·exact qP
   ·exact Tg _ _
  ·exact qP
 ·exact qP
def Th {x:cQ}{c:Nat}{f:aG}(h:x.2.2[c]?=some f):cellOf x c=f:=by
 unfold cellOf;rw[eH,h]
 rfl
def uR {rows:List cQ}{i:Nat}{x:cQ}(h:rows[i]?=some x):rowAt rows i=x:=by
 unfold rowAt;rw[eH,h]
 rfl
def zO {l:List aG}{k:Nat}(h:k<D l):(k*4+4<=(a7 aV l).length)=True:=eq_true (by rw[mh nC];omega)
def EK {l:List aG}{k:Nat}{a b c d}(h:l[k]?=some ((a,b),(c,d))):oU 4 (pS (k*4) (a7 aV l))=[.M (.int .i64 a),.M (.ay (b.map aJ)),.M (.int .i64 c),.M (.ay (d.map aJ))]:=by
 have:=anW h;unfold cut at this;rw[aq (by rw[mh nC];have:=(dh.1 h).1;omega)] at this;exact mN this
def IM {l:List aG}{k:Nat}(h:k<D l)(a:Int)(b:List Int)(c:Int)(d:List Int):
  oU (k*4) (a7 aV l)++[I.M (.int .i64 a),.M (.ay (b.map aJ)),.M (.int .i64 c),.M (.ay (d.map aJ))]++pS (k*4+4) (a7 aV l)=a7 aV (l.set k ((a,b),(c,d))):=by
 rw[<-QV nC h]
 rfl
def BT {N:Nat}{rows:List cQ}{i:Nat}(h:i<D rows):(i+1<=(refsOf N rows).length)=True:=eq_true (by unfold refsOf;rw[au];omega)
def EL {N:Nat}{rows:List cQ}{i:Nat}{x:cQ}(h:rows[i]?=some x):oU 1 (pS i (refsOf N rows))=[.ref (x.1+900000) x.2.1 4 0 (N+1)]:=by
 have:=anX (N:=N) h;unfold cut at this;rw[aq (by unfold refsOf;rw[au];have:=(dh.1 h).1;omega)] at this;exact mN this
def abZ {N:Nat}{rows:List cQ}{i:Nat}(h:i<D rows)(b:cQ):oU i (refsOf N rows)++[I.ref (b.1+900000) b.2.1 4 0 (N+1)]++pS (i+1) (refsOf N rows)=refsOf N (rows.set i b):=by
 unfold refsOf;rw[BR,List.set_eq_take_append_cons_drop,aq (by rw[au];exact h),hj]
 rfl
def ab0 (eT:aG):∀(l p:List aG) (b:Bool),(im eT l p b).1.length=D l
 | [],_,_=>by simp[im]
 |f::c5,[],b=>by cases b<;>simp[im]
 |f::c5,p::cD,true=>by simp[im]
 |f::c5,p::cD,false=>by simp[im,ab0 eT c5 cD]
def Ti (eT:aG)(l p:List aG):im eT l p true=(l,true):=by
 cases l<;>cases p<;>simp[im]
def ab1 (eT:aG)(p:List aG)(b:Bool):im eT [] p b=([],b):=by
 cases b<;>simp[im]
def an2 {α:Type}(f:α->α){l:List α}{k:Nat}{x:α}(h:l[k]?=some x):((l.take k).map f++l.drop k).set k (f x)=(l.take (k+1)).map f++l.drop (k+1):=by
 obtain⟨av,J⟩:=dh.1 h;have ad:((l.take k).map f).length=k:=by rw[au,hg];omega
 rw[Nl _ _ (by omega),ad,lS,gK av,wL,jl,h,pZ,hj]
 rfl
def an3 {α:Type}(f:α->α){l:List α}{k:Nat}:((l.take k).map f++l.drop k)[k]?=l[k]?:=by
 rcases fF k (D l) with h|h
 ·have ad:((l.take k).map f).length=k:=by rw[au,hg];omega
  rw[AH (by omega),ad,lS,sL,ko]
 ·rw[mI h,mI (by rw[la,au,hg,rF];omega)]
def Tj {α:Type}{rows:List α}{r i:Nat}{x uS:α}(J:rows[i]?=some x)(nD:rows[r]?=some uS):((rows.set r x).set i uS)[r]?=some x:=by
 have E:=(dh.1 J).1;have G:=(dh.1 nD).1;rw[lC,lC,gg]
 by_cases h:i=r
 ·subst h;rw[J] at nD
  cases nD;rw[aq rfl,aq E]
 ·rw[ar h,aq rfl,aq G]
def Tk {α:Type}{l:List α}{i:Nat}{x:α}(h:l[i]?=some x):l.set i x=l:=by
 obtain⟨av,J⟩:=dh.1 h;apply ub;intro j;rw[lC]
 by_cases hM:i=j
 ·subst hM;rw[aq rfl,aq av,h]
 ·rw[ar hM]
def an4 (a b:Nat):(!(a+900000==129015)||decide (2<b*4))=true:=by
 have:(a+900000==129015)=false:=by simp
 rw[this];rfl
def Tl:EH 168004:=by unfold EH;omega
def Tm:EH 168006:=by unfold EH;omega
def eF.sub:eF->List Nat->eF
 |.seq a _,0::p=>a.sub p
 |.seq _ b,_::p=>b.sub p
 |.cond _ a _,0::p=>a.sub p
 |.cond _ _ b,_::p=>b.sub p
 |.block _ c,_::p=>c.sub p
 |.ghost _ c,_::p=>c.sub p
 |.loop c,_::p=>c.sub p
 |c,_=>c
def nE (f:aG):List I:=[.M (.int .i64 f.1.1),.M (.ay (f.1.2.map aJ)),.M (.int .i64 f.2.1),.M (.ay (f.2.2.map aJ))]
def an5 (T:bj)(uT:T zk=zN yn)(r3:T Ba=aW BI)(zP:T xT=aW yh){K:fi->a3->Prop}{md:List iM}
  (go N r c i2:Nat) (mem:Mem) (zQ:mem 168004=none) (zR:mem 168006=none) (hP:N<=40) (r4:List cQ) (qQ:iU N r4) (x y:cQ) (e6:List aG) (wM:r4[i2]?=some y) (a5:r4[r]?=some (x.1,x.2.1,e6)) (BU:i2≠r) (r5:r<N) (kA:Bool)
  (bZ:Int) (bX:List Int) (e4:Int) (ha:List Int) (jk:okF ((bZ,bX),(e4,ha))) (tm:Nat->I) (m:Mem) (bc:Nat)
  (eO:tm 0=.ptr 129015 0 0) (aK:tm 1=.M (.int .i64 r)) (az:tm 2=.M (.int .i64 c)) (Mt:tm 12=.ref (y.1+900000) y.2.1 4 0 (N+1)) (ab2:tm 13=.ptr 148013 bc 0) (IN:tm 112=.ref 129035 go 1 0 N) (IP:tm 113=.M (.int .i64 N)) (IQ:tm 114=.M (.int .i64 i2)) (ab3:tm 14=.M (.int .i64 0))
  (em:m 148013=some (bc,[.M (.int .i64 bZ),.M (.ay (bX.map aJ)),.M (.int .i64 e4),.M (.ay (ha.map aJ))])) (ib:jq mem go N r4 kA m)
  (et:∀tm' m' l b,tm' 0=.ptr 129015 0 0->tm' 1=.M (.int .i64 r)->tm' 2=.M (.int .i64 c)->tm' 112=.ref 129035 go 1 0 N->tm' 113=.M (.int .i64 N)->tm' 114=.M (.int .i64 i2)->(l,b)=im ((bZ,bX),(e4,ha)) y.2.2 e6 kA->iU N (r4.set i2 (y.1,y.2.1,l))->jq mem go N (r4.set i2 (y.1,y.2.1,l)) b m'->cI T K md (.exit 6) ⟨tm',m'⟩) :
  wp T (wH.body.sub [1,1,1,1,1,1,1,0,1,0,0,1,1,0,0,1,1,1,1,0]) (cI T K md) ⟨tm,m⟩:=by
 simp only[wH,eF.sub];have an6:i2<N:=by rw[<-qQ.len];exact (dh.1 wM).1
 obtain⟨PV,Nm⟩:=qQ.row y (dM wM);have an7:r4.set i2 (y.1,y.2.1,[]++y.2.2.drop 0)=r4:=Tk wM
 refine du [0,1,2,12,13,112,113,114] [148013] (λ((k,pre,b):Nat×List aG×Bool) tm m=>k<=N+1/\D pre=k/\(∀f∈pre,okF f)/\im ((bZ,bX),(e4,ha)) y.2.2 e6 kA=(pre++(im ((bZ,bX),(e4,ha)) (y.2.2.drop k) (e6.drop k) b).1,(im ((bZ,bX),(e4,ha)) (y.2.2.drop k) (e6.drop k) b).2)/\tm 14=.M (.int .i64 k)/\jq mem go N (r4.set i2 (y.1,y.2.1,pre++y.2.2.drop k)) b m) (λ(k,_,_)=>N+1-k) (0,[],kA) (by
  refine⟨ej _,rfl,(by simp),rfl,ab3,?_⟩;rw[an7];exact ib) ?_
 intro vs ms aY aT;simp only[go_sem,go_sem_proc,eO,aK,az,Mt,ab2,IN,IP,IQ,em] at aY aT;subst aY aT;clear eO aK az Mt ab2 IN IP IQ em ab3 ib tm m;rintro⟨eY,pre,b⟩ tm hK O hm ⟨azU,Ec,EM,IS,zv,r6⟩;simp only[go_sem,go_sem_proc,bo] at O hm;obtain⟨ak,E,G,oV,o1,uU,uV,uW⟩:=O;have an8:(pre++y.2.2.drop eY).length=N+1:=by rw[la,rF];omega
 have EN:iU N (r4.set i2 (y.1,y.2.1,pre++y.2.2.drop eY)):=qQ.set wM an8 λf ag=>by
  rw[hv] at ag;rcases ag with ag|ag
  ·exact EM f ag
  ·exact Nm f (D9 ag)
 have ab4:(r4.set i2 (y.1,y.2.1,pre++y.2.2.drop eY))[i2]?=some (y.1,y.2.1,pre++y.2.2.drop eY):=by
  rw[lC,aq rfl,aq (by rw[qQ.len];exact an6)]
 have El:(r4.set i2 (y.1,y.2.1,pre++y.2.2.drop eY))[r]?=some (x.1,x.2.1,e6):=by
  rw[lC,ar BU];exact a5
 have ts:=r6.1.m;have wN:=r6.1.o;rcases eo (eY<N+1) with an9|azV
 ·have zS:decide ((eY:Int)<((N+1:Nat):Int))=true:=dI
  cases b
  ·obtain⟨⟨⟨cx,c3⟩,⟨hE,iq⟩⟩,qR⟩:∃f,y.2.2[eY]?=some f:=⟨_,bw (by omega)⟩;have azW:(D e6)=N+1:=(qQ.row _ (dM a5)).1;obtain⟨⟨⟨nX,nY⟩,⟨yp,Nn⟩⟩,Tn⟩:∃f,e6[eY]?=some f:=⟨_,bw (by omega)⟩;have xj:=Nm _ (dM qR);have ab5:=(qQ.row _ (dM a5)).2 _ (dM Tn)
   have To:(pre++y.2.2.drop eY)[eY]?=some ((cx,c3),(hE,iq)):=by
    rw[AH (by omega),Ec,lS,sL,ko,qR]
   have jn:y.2.2.drop eY=((cx,c3),(hE,iq))::y.2.2.drop (eY+1):=by
    obtain⟨ad,e⟩:=dh.1 qR;rw[gK ad,e]
   have kg:e6.drop eY=((nX,nY),(yp,Nn))::e6.drop (eY+1):=by
    obtain⟨ad,e⟩:=dh.1 Tn;rw[gK ad,e]
   have xl:∀s:aG,(pre++y.2.2.drop eY).set eY s=(pre++[s])++y.2.2.drop (eY+1):=λs=>by
    rw[Nl _ _ (by omega),Ec,lS,jn,wL,hj];rfl
   have aoa:=r6.1.r _ (dM ab4);have aob:=r6.1.r _ (dM El);have r7:hK 168004=none:=(r6.2 _ Tl).trans zQ;have EO:hK 168006=none:=(r6.2 _ Tm).trans zR;have t1:=EL (N:=N) El;have t2:=BT (N:=N) (rows:=r4.set i2 (y.1,y.2.1,pre++y.2.2.drop eY)) (i:=r) (by rw[EN.len];exact r5);have t3:=EK To;have t4:=zO (l:=pre++y.2.2.drop eY) (k:=eY) (by omega);have t5:=EK Tn;have t6:=zO (l:=e6) (k:=eY) (by omega);have lu:=hy (i:=eY) (by omega);have yq:=abX ((bZ,bX),(e4,ha)) ((nX,nY),(yp,Nn));have zT:=Nk ((cx,c3),(hE,iq)) (lA ((bZ,bX),(e4,ha)) ((nX,nY),(yp,Nn))).1;have IT:=IS;rw[jn,kg] at IT;simp only[im] at IT;generalize l1:lA ((bZ,bX),(e4,ha)) ((nX,nY),(yp,Nn))=bk at *;obtain⟨⟨⟨mc,iA⟩,⟨IU,Tp⟩⟩,aK⟩:=bk;dsimp only at zT IT yq;generalize cr:nB ((cx,c3),(hE,iq)) ((mc,iA),(IU,Tp))=S at *;obtain⟨⟨⟨v1,v2⟩,⟨iL,v4⟩⟩,az⟩:=S;dsimp only at zT IT;have t7:=IM (l:=pre++y.2.2.drop eY) (k:=eY) (by omega) v1 v2 iL v4;refine ao ?_;repeat' (intro h<;>simp only[h,go_sem,go_sem_proc,uT,zP,r3,ak,E,G,oV,o1,zv,uU,uV,uW,hm,ts,wN,aoa,aob,r7,EO,t1,t2,t3,t4,t5,t6,t7,zS,an9,r5,lu,l1,cr,xj.1,xj.2,ab5.1,ab5.2,jk.1,jk.2,yq.1,yq.2,nE,e5,aV,dU,yn,EP,wL,decide_true,decide_false,ab6,ne_eq,not_false_eq_true,and_self]<;>try refine an ?_ ?_)
   have kC:=jq.set EN ab4 ((pre++y.2.2.drop eY).set eY ((v1,v2),(iL,v4))) ((r6.flag (aK != 0)).flag (aK != 0||az != 0));rw[ab7,xl] at kC;refine⟨an4 _ _,(eY+1,pre++[((v1,v2),(iL,v4))],(aK != 0||az != 0)),by dsimp only;omega,by dsimp only;omega,by simp[Ec],?_,?_,rfl,?_⟩
   ·intro f ag;rw[hv,wq] at ag;rcases ag with ag|rfl
    ·exact EM f ag
    ·exact zT
   ·rw[IT];dsimp only;rw[hj]
    rfl
   ·dsimp only;rw[xl];exact kC
  ·rw[Ti] at IS;refine ao ?_;repeat' (intro h<;>simp only[h,go_sem,go_sem_proc,ak,E,G,oV,o1,zv,uU,uV,uW,ts,wN,zS]<;>try refine an ?_ ?_)
   refine et _ _ (pre++y.2.2.drop eY) true ?_ ?_ ?_ ?_ ?_ ?_ IS.symm EN r6<;>simp only[tP,yr,if_false,ak,E,G,uU,uV,uW]
 ·have zS:decide ((eY:Int)<((N+1:Nat):Int))=false:=dV;have mQ:y.2.2.drop eY=[]:=mH (by omega);rw[mQ,ab1,<-mQ] at IS;refine ao ?_;repeat' (intro h<;>simp only[h,go_sem,go_sem_proc,ak,E,G,oV,o1,zv,uU,uV,uW,ts,wN,zS]<;>try refine an ?_ ?_)
  refine et _ _ (pre++y.2.2.drop eY) b ?_ ?_ ?_ ?_ ?_ ?_ IS.symm EN r6<;>simp only[tP,yr,if_false,ak,E,G,uU,uV,uW]
def aoc (T:bj)(zU:T HG=aW IK)(uT:T zk=zN yn)(r3:T Ba=aW BI)(zP:T xT=aW yh){K:fi->a3->Prop}{md:List iM}
  (go N r c:Nat) (mem:Mem) (zQ:mem 168004=none) (zR:mem 168006=none) (hP:N<=40) (r5:r<N) (BV:c<N+1) (hV:List cQ) (BW:iU N hV) (x:cQ) (e6:List aG) (x8:hV[r]?=some (x.1,x.2.1,e6)) (ER:Bool) (tm:Nat->I) (m:Mem)
  (eO:tm 0=.ptr 129015 0 0) (aK:tm 1=.M (.int .i64 r)) (az:tm 2=.M (.int .i64 c)) (IN:tm 112=.ref 129035 go 1 0 N) (IP:tm 113=.M (.int .i64 N)) (IQ:tm 114=.M (.int .i64 0)) (ib:jq mem go N hV ER m)
  (et:∀tm' m',jq mem go N (iV e6 r c 0 hV ER).1 (iV e6 r c 0 hV ER).2 m'->cI T K md (.exit 4) ⟨tm',m'⟩) :
  wp T (wH.body.sub [1,1,1,1,1,1,1,0,1,0]) (cI T K md) ⟨tm,m⟩:=by
 simp only[wH,eF.sub]
 refine du [0,1,2,112,113] [] (λ((i2,og,kA):Nat×List cQ×Bool) tm m=>i2<=N/\D og=i2/\iV e6 r c 0 hV ER=(og++(iV e6 r c i2 (hV.drop i2) kA).1,(iV e6 r c i2 (hV.drop i2) kA).2)/\iU N (og++hV.drop i2)/\(og++hV.drop i2)[r]?=some (x.1,x.2.1,e6)/\tm 114=.M (.int .i64 i2)/\jq mem go N (og++hV.drop i2) kA m) (λ(i2,_,_)=>N-i2) (0,[],ER) (by
  exact⟨ej _,rfl,rfl,BW,x8,IQ,ib⟩) ?_
 intro vs ms aY aT;simp only[go_sem,go_sem_proc,eO,aK,az,IN,IP] at aY aT;subst aY aT;clear eO aK az IN IP IQ ib tm m;rintro⟨i2,og,kA⟩ tm bO O hm ⟨dS,jY,jM,qQ,a5,uW,tt⟩;simp only[go_sem,go_sem_proc,bo] at O hm;obtain⟨ak,E,G,uU,uV⟩:=O;have ts:=tt.1.m;have wN:=tt.1.o;have azX:(D hV)=N:=BW.len;rcases eo (i2<N) with No|azY
 ·obtain⟨y,af⟩:∃y,hV[i2]?=some y:=⟨_,bw (by omega)⟩
  have qG:hV.drop i2=y::hV.drop (i2+1):=by
   obtain⟨ad,rfl⟩:=dh.1 af;exact gK ad
  have wM:(og++hV.drop i2)[i2]?=some y:=by
   rw[AH (by omega),jY,lS,sL,ko,af]
  obtain⟨PV,Nm⟩:=qQ.row y (dM wM);have Tq:=tt.1.r y (dM wM);obtain⟨⟨⟨bZ,bX⟩,⟨e4,ha⟩⟩,aC⟩:∃f,y.2.2[c]?=some f:=⟨_,bw (by omega)⟩;have uK:=Th aC;have t1:=EL (N:=N) wM;have t2:=BT (N:=N) (rows:=og++hV.drop i2) (i:=i2) (by rw[qQ.len];exact No);have t3:=EK aC;have t4:=zO (l:=y.2.2) (k:=c) (by omega);have iF:decide ((i2:Int)<(N:Int))=true:=dI;have hw:=hy (i:=i2) (by omega)
  have xg:∀z:cQ,(og++[z])++hV.drop (i2+1)=(og++hV.drop i2).set i2 z:=λz=>by
   rw[Nl _ _ (by omega),jY,lS,qG,wL,hj];rfl
  have ES:(og++[y])++hV.drop (i2+1)=og++hV.drop i2:=by rw[xg];exact Tk wM
  have IV:∀b:Bool,(b=true->i2=r\/(bZ==0)=true)->b=true->iV e6 r c 0 hV ER=((og++[y])++(iV e6 r c (i2+1) (hV.drop (i2+1)) kA).1,(iV e6 r c (i2+1) (hV.drop (i2+1)) kA).2):=by
   intro b U Tr
   have Ts:(i2==r||l3 (cellOf y c))=true:=by
    rcases U Tr with h|h
    ·rw[h,beq_self_eq_true];rfl
    ·rw[uK];have:l3 ((bZ,bX),(e4,ha))=true:=h;rw[this,Bool.or_true]
   rw[jM,qG];simp only[iV];rw[aq Ts,hj]
   rfl
  rcases p0:((i2:Int)==(r:Int))
  ·have BU:i2≠r:=by intro h;rw[h] at p0;simp at p0
   rcases Np:(bZ==0)
   ·have jk:okF ((bZ,bX),(e4,ha)):=Nm _ (dM aC);simp only[go_sem,go_sem_proc,zU,ak,E,G,uU,uV,uW,ts,wN,Tq,t1,t2,t3,t4,No,iF,BV,p0,Np,dU];refine an5 T uT r3 zP go N r c i2 mem zQ zR hP (og++hV.drop i2) qQ x y e6 wM a5 BU r5 kA bZ bX e4 ha jk _ _ (hL (bO 148013)) ?_ ?_ ?_ ?_ ?_ ?_ ?_ ?_ ?_ ?_ ((tt.own (.inr (.inr rfl))).own (.inr (.inr rfl))) ?_
    ·exact ak
    ·exact E
    ·exact G
    ·rfl
    ·rfl
    ·exact uU
    ·exact uV
    ·exact uW
    ·rfl
    ·simp[aR]
    ·intro tm' m' l b ft cm dX aod aoe aof pU EN r6;refine ao ?_;repeat' (intro (aw:_=_)<;>simp only[aw,go_sem,go_sem_proc,ak,E,G,ft,cm,dX,aod,aoe,aof,hw]<;>try refine an ?_ ?_)
     refine⟨(i2+1,og++[(y.1,y.2.1,l)],b),by dsimp only;omega,by dsimp only;omega,by simp[jY],?_,by dsimp only;rw[xg];exact EN,by dsimp only;rw[xg,lC,ar BU];exact a5,rfl,?_⟩
     ·have Ts:¬ (i2==r||l3 (cellOf y c))=true:=by
       rw[uK];have E:l3 ((bZ,bX),(e4,ha))=false:=Np;have G:(i2==r)=false:=by simpa using BU
       rw[E,G];simp
      rw[jM,qG];simp only[iV];rw[ar Ts,uK,<-pU,hj]
      rfl
     ·dsimp only;rw[xg];exact r6
   ·refine ao ?_;repeat' (intro (aw:_=_)<;>simp only[aw,go_sem,go_sem_proc,zU,ak,E,G,uU,uV,uW,ts,wN,Tq,t1,t2,t3,t4,No,iF,BV,hw,p0,Np,dU]<;>try refine an ?_ ?_)
    refine⟨(i2+1,og++[y],kA),by dsimp only;omega,by dsimp only;omega,by simp[jY],IV true (λ_ => .inr Np) rfl,by dsimp only;rw[ES];exact qQ,by dsimp only;rw[ES];exact a5,rfl,?_⟩
    dsimp only;rw[ES];exact (tt.own (.inr (.inr rfl))).own (.inr (.inr rfl))
  ·have BU:i2=r:=by have h:=beq_iff_eq.1 p0;omega
   refine ao ?_;repeat' (intro (aw:_=_)<;>simp only[aw,go_sem,go_sem_proc,zU,ak,E,G,uU,uV,uW,ts,wN,Tq,t1,t2,t3,t4,No,iF,BV,hw,p0,dU]<;>try refine an ?_ ?_)
   refine⟨(i2+1,og++[y],kA),by dsimp only;omega,by dsimp only;omega,by simp[jY],IV true (λ_ => .inl BU) rfl,by dsimp only;rw[ES];exact qQ,by dsimp only;rw[ES];exact a5,rfl,?_⟩
   dsimp only;rw[ES];exact (tt.own (.inr (.inr rfl))).own (.inr (.inr rfl))
 ·have fa:i2=N:=by omega
  have iF:decide ((i2:Int)<(N:Int))=false:=dV;have LG:hV.drop i2=[]:=mH (by omega);rw[LG] at jM tt;simp only[iV,nZ] at jM tt;rw[jM] at et;refine ao ?_;repeat' (intro (aw:_=_)<;>simp only[aw,go_sem,go_sem_proc,ak,E,G,uU,uV,uW,ts,wN,iF]<;>try refine an ?_ ?_)
  exact et _ _ tt
def aog (T:bj)(uT:T zk=zN yn)(Tt:T DL=aW BJ){K:fi->a3->Prop}{md:List iM}
  (go N r c:Nat) (mem:Mem) (zQ:mem 168004=none) (zR:mem 168006=none) (hP:N<=40) (r5:r<N) (ho:List cQ) (ET:iU N ho) (x:cQ) (wO:ho[r]?=some x) (f1:Int) (f2:List Int) (f3:Int) (f4:List Int) (kO:okF ((f1,f2),(f3,f4))) (tm:Nat->I) (m:Mem) (bc:Nat)
  (eO:tm 0=.ptr 129015 0 0) (aK:tm 1=.M (.int .i64 r)) (az:tm 2=.M (.int .i64 c)) (tu:tm 8=.ptr 148008 bc 0) (ab8:tm 85=.ref (x.1+900000) x.2.1 4 0 (N+1)) (ab9:tm 86=.M (.int .i64 ((N+1:Nat):Int))) (aca:tm 87=.M (.int .i64 0))
  (em:m 148008=some (bc,[.M (.int .i64 f1),.M (.ay (f2.map aJ)),.M (.int .i64 f3),.M (.ay (f4.map aJ))])) (ib:jq mem go N ho false m)
  (et:∀tm' m',tm' 0=.ptr 129015 0 0->tm' 1=.M (.int .i64 r)->tm' 2=.M (.int .i64 c)->iU N (ho.set r (x.1,x.2.1,(g9 ((f1,f2),(f3,f4)) x.2.2).1))->jq mem go N (ho.set r (x.1,x.2.1,(g9 ((f1,f2),(f3,f4)) x.2.2).1)) (g9 ((f1,f2),(f3,f4)) x.2.2).2 m'->cI T K md (.exit 2) ⟨tm',m'⟩) :
  wp T (wH.body.sub [1,1,1,1,1,1,0,1,0]) (cI T K md) ⟨tm,m⟩:=by
 simp only[wH,eF.sub];obtain⟨vD,lD⟩:=ET.row x (dM wO)
 have aoh:∀l:List aG,(ho.set r (x.1,x.2.1,l))[r]?=some (x.1,x.2.1,l):=λl=>by
  rw[lC,aq rfl,aq (by rw[ET.len];exact r5)]
 refine du [0,1,2,8,85,86] [148008] (λ(k:Nat) tm m=>k<=N+1/\tm 87=.M (.int .i64 k)/\jq mem go N (ho.set r (x.1,x.2.1,(x.2.2.take k).map (λf=>(jE f ((f1,f2),(f3,f4))).1)++x.2.2.drop k)) ((x.2.2.take k).any λf=>(jE f ((f1,f2),(f3,f4))).2 != 0) m) (λk=>N+1-k) 0 (by
  refine⟨ej _,aca,?_⟩;have e:ho.set r (x.1,x.2.1,(x.2.2.take 0).map (λf=>(jE f ((f1,f2),(f3,f4))).1)++x.2.2.drop 0)=ho:=Tk wO;rw[e];exact ib) ?_
 intro vs ms aY aT;simp only[go_sem,go_sem_proc,eO,aK,az,tu,ab8,ab9,em] at aY aT;subst aY aT;clear eO aK az tu ab8 ab9 aca em ib tm m;rintro k tm m O hm ⟨jr,acb,ib⟩;simp only[go_sem,go_sem_proc,bo] at O hm;obtain⟨ak,E,G,ct,acd,ace⟩:=O
 have dN:((x.2.2.take k).map (λf=>(jE f ((f1,f2),(f3,f4))).1)++x.2.2.drop k).length=N+1:=by
  rw[la,au,hg,rF];omega
 have BW:iU N (ho.set r (x.1,x.2.1,(x.2.2.take k).map (λf=>(jE f ((f1,f2),(f3,f4))).1)++x.2.2.drop k)):=by
  refine ET.set wO dN λf ag=>?_;rw[hv] at ag;rcases ag with ag|ag
  ·obtain⟨zV,-,rfl⟩:=hx.1 ag;exact abY _ _
  ·exact lD f (D9 ag)
 have x8:=aoh ((x.2.2.take k).map (λf=>(jE f ((f1,f2),(f3,f4))).1)++x.2.2.drop k);rcases eo (k<N+1) with aoi|azZ
 ·obtain⟨⟨⟨cx,c3⟩,⟨hE,iq⟩⟩,qR⟩:∃f,x.2.2[k]?=some f:=⟨_,bw (by omega)⟩;have To:=(an3 (λf=>(jE f ((f1,f2),(f3,f4))).1) (l:=x.2.2) (k:=k)).trans qR;have xl:=an2 (λf=>(jE f ((f1,f2),(f3,f4))).1) qR
  have me:(x.2.2.take (k+1)).any (λf=>(jE f ((f1,f2),(f3,f4))).2 != 0)=((x.2.2.take k).any (λf=>(jE f ((f1,f2),(f3,f4))).2 != 0)||(jE ((cx,c3),(hE,iq)) ((f1,f2),(f3,f4))).2 != 0):=by
   rw[jl,qR,List.any_append];simp
  obtain⟨aoj,aok⟩:=lD _ (dM qR);generalize (x.2.2.take k).map (λf=>(jE f ((f1,f2),(f3,f4))).1)++x.2.2.drop k=cur at *;generalize ((x.2.2.take k).any λf=>(jE f ((f1,f2),(f3,f4))).2 != 0)=kA at *;have ts:=ib.1.m;have wN:=ib.1.o;have aol:=ib.1.r _ (dM x8);have r7:m 168004=none:=(ib.2 _ Tl).trans zQ;have EO:m 168006=none:=(ib.2 _ Tm).trans zR;have t1:=EL (N:=N) x8;have t2:=BT (N:=N) (rows:=ho.set r (x.1,x.2.1,cur)) (i:=r) (by rw[BW.len];exact r5);have t3:=EK To;have t4:=zO (l:=cur) (k:=k) (by omega);have zS:decide ((k:Int)<((N+1:Nat):Int))=true:=dI;have hw:=hy (i:=k) (by omega);generalize pQ:jE ((cx,c3),(hE,iq)) ((f1,f2),(f3,f4))=V at *;obtain⟨⟨⟨v1,v2⟩,⟨iL,v4⟩⟩,rX⟩:=V;dsimp only at xl me;have t5:=IM (l:=cur) (k:=k) (by omega) v1 v2 iL v4;refine ao ?_;repeat' (intro h<;>simp only[h,go_sem,go_sem_proc,uT,Tt,ak,E,G,ct,acd,ace,acb,hm,ts,wN,aol,r7,EO,t1,t2,t3,t4,t5,zS,aoi,r5,hw,pQ,aoj,aok,kO.1,kO.2,e5,aV,dU,yn,EP,wL,decide_true,decide_false,ab6,ne_eq,not_false_eq_true,and_self]<;>try refine an ?_ ?_)
  have aK:=jq.set BW x8 (cur.set k ((v1,v2),(iL,v4))) (((ib.own (k:=148010) (g:=hL (m 148010)) (cs:=[I.M (Data.int IntKind.i64 0),I.nil,I.M (Data.int IntKind.i64 0),I.nil]) (.inr (.inl rfl))).own (k:=148010) (g:=hL (m 148010)) (cs:=[I.M (Data.int IntKind.i64 cx),I.M (Data.ay (Nq aJ c3)),I.M (Data.int IntKind.i64 hE),I.M (Data.ay (Nq aJ iq))]) (.inr (.inl rfl))).flag (kA||rX != 0));rw[ab7,xl] at aK;refine⟨k+1,by omega,by omega,rfl,?_⟩
  show jq mem go N _ ((x.2.2.take (k+1)).any λf=>(jE f ((f1,f2),(f3,f4))).2 != 0) _;rw[me,xl];exact aK
 ·have az0:k=N+1:=by omega
  have aom:(x.2.2.take k).map (λf=>(jE f ((f1,f2),(f3,f4))).1)++x.2.2.drop k=(g9 ((f1,f2),(f3,f4)) x.2.2).1:=by
   unfold g9;rw[dx (by omega),mH (by omega),nZ]
  have aon:((x.2.2.take k).any λf=>(jE f ((f1,f2),(f3,f4))).2 != 0)=(g9 ((f1,f2),(f3,f4)) x.2.2).2:=by
   unfold g9;rw[dx (by omega)]
  rw[aom] at BW ib;rw[aon] at ib;have zS:decide ((k:Int)<((N+1:Nat):Int))=false:=dV;refine ao ?_;repeat' (intro h<;>simp only[h,go_sem,go_sem_proc,ak,E,G,ct,acd,ace,acb,hm,zS]<;>try refine an ?_ ?_)
  refine et _ _ ?_ ?_ ?_ BW ib<;>simp only[tP,yr,if_false,ak,E,G]
def aoo (T:bj)(zU:T HG=aW IK)(uT:T zk=zN yn)(Tt:T DL=aW BJ)(r3:T Ba=aW BI)(zP:T xT=aW yh)
  (go N:Nat) (rows:List cQ) (r c:Nat) (gM:Mem) (dD:iU N rows) (fX:yo go N rows false gM) (zQ:gM 168004=none) (zR:gM 168006=none) (hP:N<=40) (y2:r<=c) (Nr:c<N) :
  wp T wH.body (tn wH.res λm mem'=>m=.M (.bool (hU rows r c).1)/\jq gM go N (hU rows r c).2.1 (hU rows r c).2.2 mem') ⟨jK [.ptr 129015 0 0,.M (.int .i64 r),.M (.int .i64 c)],gM⟩:=by
 refine xr ?_;simp only[wH];simp only[go_sem,go_sem_proc];refine du [0,1,2] [] (λ(i:Nat) tm mem=>r<=i/\i<=N/\(∀j y,r<=j->j<i->rows[j]?=some y->l3 (cellOf y c)=true)/\tm 7=.M (.int .i64 i)/\mem=gM) (λi=>N-i) r (by refine⟨bI _,by omega,λj y E G=>by omega,rfl,rfl⟩) ?_;intro vs ms aY aT;simp only[go_sem,go_sem_proc] at aY aT;subst aY aT;rintro i tm mem O hm ⟨y9,acf,aP,bP,rfl⟩;simp only[go_sem,go_sem_proc,bo] at O hm;obtain⟨ak,E,G⟩:=O;have uX:=fX.m;have IW:=fX.o;have hlen:=dD.len;rcases eo (i<N) with av|bM
 ·have J:∃x,rows[i]?=some x:=⟨_,bw (by omega)⟩;obtain⟨x,J⟩:=J;obtain⟨vD,lD⟩:=dD.row x (dM J);have acg:=fX.r x (dM J);have ag:∃f,x.2.2[c]?=some f:=⟨_,bw (by omega)⟩;obtain⟨⟨⟨f1,f2⟩,⟨f3,f4⟩⟩,ag⟩:=ag;have ach:=EL (N:=N) J;have aci:=BT (N:=N) (rows:=rows) (i:=i) (by omega);have acj:=EK ag;have ack:=zO (l:=x.2.2) (k:=c) (by omega);have sK:=Th ag;have mr:decide ((i:Int)<(N:Int))=true:=dI;have BV:c<N+1:=by omega
  rcases sX:(f1==0)
  ·have aop:findAt rows r c=i:=anZ J y9 aP (by rw[sK];exact sX);obtain⟨uS,nD⟩:∃x,rows[r]?=some x:=⟨_,bw (by omega)⟩
   have iW:hU rows r c=(false,iV (g9 ((f1,f2),(f3,f4)) x.2.2).1 r c 0 (((rows.set r x).set i uS).set r (x.1,x.2.1,(g9 ((f1,f2),(f3,f4)) x.2.2).1)) (g9 ((f1,f2),(f3,f4)) x.2.2).2):=by
    unfold hU BS;rw[ar (by omega),aop];have:rowAt (o7 rows r i) r=x:=uR (by unfold o7;rw[uR J,uR nD];exact Tj J nD);rw[this,sK];unfold o7;rw[uR J,uR nD]
   rw[iW];clear iW;have ET:iU N ((rows.set r x).set i uS):=dD.swap nD J;have aoq:jq mem go N ((rows.set r x).set i uS) false _:=jq.swap nD J ⟨fX,λ_ _=>rfl⟩;have wO:((rows.set r x).set i uS)[r]?=some x:=Tj J nD;have r5:r<N:=by omega
   have s1:=EL (N:=N) nD;have s2:=BT (N:=N) (rows:=rows) (i:=r) (by omega);have c1:=abZ (N:=N) (rows:=rows) (i:=r) (by omega) x;have dg:=BT (N:=N) (rows:=rows.set r x) (i:=i) (by rw[gg];omega);have Ns:=abZ (N:=N) (rows:=rows.set r x) (i:=i) (by rw[gg];omega) uS;have aor:=EL (N:=N) wO;have aos:=BT (N:=N) (rows:=(rows.set r x).set i uS) (i:=r) (by rw[gg,gg];omega);generalize yt:(rows.set r x).set i uS=ho at *;have kO:=lD _ (dM ag);have az1:decide ((i:Int)<(N:Int))=true:=mr;have aot:((i:Int)==(N:Int))=false:=by simp;omega
   simp only[go_sem,go_sem_proc,zU,uT,ak,E,G,bP,uX,IW,acg,ach,aci,acj,ack,av,mr,BV,sX,dU,r5,s1,s2,c1,dg,Ns,aor,aos,aot];refine aog T uT Tt go N r c mem zQ zR hP r5 ho ET x wO f1 f2 f3 f4 kO _ _ (hL (mem 148008)) ?_ ?_ ?_ ?_ ?_ ?_ ?_ ?_ ((aoq.own (.inl rfl)).own (.inl rfl)) ?_
   ·exact ak
   ·exact E
   ·exact G
   ·rfl
   ·rfl
   ·rfl
   ·rfl
   ·simp[aR]
   intro tm' m' ft cm dX qQ tt;have ts:=tt.1.m
   have a5:(ho.set r (x.1,x.2.1,(g9 ((f1,f2),(f3,f4)) x.2.2).1))[r]?=some (x.1,x.2.1,(g9 ((f1,f2),(f3,f4)) x.2.2).1):=by
    rw[lC,aq rfl,aq (by rw[ET.len];exact r5)]
   simp only[go_sem,go_sem_proc,ft,cm,dX,ts];refine aoc T zU uT r3 zP go N r c mem zQ zR hP r5 BV _ qQ x _ a5 _ _ _ ?_ ?_ ?_ ?_ ?_ ?_ tt ?_
   ·exact ft
   ·exact cm
   ·exact dX
   ·rfl
   ·rfl
   ·rfl
   intro az2 hK r6;refine ao ?_;repeat' (intro h<;>simp only[h,go_sem,go_sem_proc]<;>try refine an ?_ ?_)
   exact⟨_,rfl,rfl,r6⟩
  ·have hw:=hy (i:=i) (by omega);refine ao ?_;repeat' (intro h<;>simp only[h,go_sem,go_sem_proc,zU,uT,ak,E,G,bP,uX,IW,acg,ach,aci,acj,ack,av,mr,BV,sX,hw,dU]<;>try refine an ?_ ?_)
   refine⟨i+1,by omega,by omega,by omega,?_,rfl⟩
   intro j y m6 vJ af
   by_cases ig:j=i
   ·subst ig;rw[J] at af
    cases af;rw[sK];exact sX
   ·exact aP j y m6 (by omega) af
 ·have aou:i=N:=by omega
  subst aou;have mr:decide ((i:Int)<(i:Int))=false:=dV;have aov:=an0 (rows:=rows) (r:=r) (c:=c) (by omega) (λj y aa af=>aP j y aa (by have:=(dh.1 af).1;omega) af);have aF:hU rows r c=(true,rows,false):=by unfold hU;rw[aq aov]
  rw[aF];refine ao ?_;repeat' (intro h<;>simp only[h,go_sem,go_sem_proc,zU,uT,ak,E,G,bP,uX,IW,mr,beq_self_eq_true]<;>try refine an ?_ ?_)
  exact⟨_,rfl,rfl,fX,λ_ _=>rfl⟩
structure Nt where
 go:Nat
 N:Nat
 rows:List cQ
 r:Nat
 c:Nat
def Tu (a:Nt)(mem:Mem):Prop:=iU a.N a.rows/\yo a.go a.N a.rows false mem/\mem 168004=none/\mem 168006=none/\a.N<=40/\a.r<=a.c/\a.c<a.N
def Tv (a:Nt)(mem:Mem):I->Mem->Prop:=λm mem'=>m=.M (.bool (hU a.rows a.r a.c).1)/\jq mem a.go a.N (hU a.rows a.r a.c).2.1 (hU a.rows a.r a.c).2.2 mem'
def IX:List I->Mem->Option (I->Mem->Prop):=BQ (λ(a:Nt) args mem=>args=[.ptr 129015 0 0,.M (.int .i64 a.r),.M (.int .i64 a.c)]/\Tu a mem) Tv
def aow {N:Nat}{a b:List cQ}(h:refsOf N a=refsOf N b):a.map (λx=>(x.1,x.2.1))=b.map λx=>(x.1,x.2.1):=by
 induction a generalizing b with
 |nil=>cases b with
  |nil=>rfl
  |cons y r=>simp[refsOf] at h
 |cons x a aD=>cases b with
  |nil=>simp[refsOf] at h
  |cons y b =>
   simp only[refsOf,hi,bo,I.ref.injEq] at h;have E:x.1=y.1:=by have:=h.1.1;simp only[Key] at this;omega
   simp only[hi,bo,ec];exact⟨⟨E,h.1.2.1⟩,aD h.2⟩
def aox (a:Nt)(mem:Mem)(h:Tu a mem):IX [.ptr 129015 0 0,.M (.int .i64 a.r),.M (.int .i64 a.c)] mem=some (Tv a mem):=by
 unfold IX;refine Tb (a:=a) ?_ ⟨rfl,h⟩;rintro a b args mem ⟨E,G,ab,_⟩ ⟨aM,bl,bz,_⟩;rw[E] at aM;simp only[bo,I.M.injEq,Data.int.injEq,true_and,and_true] at aM;have hm:=ab.m;rw[bz.m] at hm;simp only[bF,ec,bo,I.ref.injEq,true_and,and_true] at hm;obtain⟨⟨aC,aE⟩,-⟩:=hm;have a0:=ab.o;rw[bz.o] at a0;simp only[bF,ec] at a0;obtain⟨bC,az3,Tw,cx,c3⟩:=a;obtain⟨az4,az5,Tx,cz,ef⟩:=b;dsimp only at *;subst aC aE
 have Q:Tx=Tw:=by
  have bP:=aow a0.2;have ad:(D Tx)=D Tw:=by have:=congrArg D bP;simpa using this
  apply List.ext_getElem ad;intro i qp dS;have ct:(Tx.map λx=>(x.1,x.2.1))[i]?=(Tw.map λx=>(x.1,x.2.1))[i]?:=by rw[bP]
  rw[bD,bD,bw qp,bw dS] at ct;simp only[jQ,bF,ec] at ct;have gf:=bz.r _ (iJ qp);have gV:=ab.r _ (iJ dS);rw[ct.1,gV] at gf;simp only[bF,ec] at gf;have:=anY gf.2;exact cO ct.1 (cO ct.2 this.symm)
 subst Q;have aK:cx=cz:=by omega
 have az:c3=ef:=by omega
 subst aK az
 rfl
def aoy {args:List I}{mem:Mem}{bR:I->Mem->Prop}(h:IX args mem=some bR):∃a,args=[.ptr 129015 0 0,.M (.int .i64 a.r),.M (.int .i64 a.c)]/\Tu a mem/\bR=Tv a mem:=by
 obtain⟨a,⟨E,G⟩,ab⟩:=Tc h;exact⟨a,E,G,ab⟩
def acm (l:List aG):((l.map aV).all λe=>D e==4)=true:=by simp[aV]
abbrev Nu:List aG->List Data:=λ(l:List aG)=>[.ay (l.map aV)]
def EU:=bW Nu λ(l:List aG)=>cv (D l<=1000000) (.own 4 (l.map aV))
def aoz:∀a b,Nu a=Nu b->a=b:=by
  intro iP ah h;exact map_inj lB _ _ (by simpa using h)
@[go_sem] def aoA (l):=cK EU rfl aoz l rfl
def aoB (T:bj):WF T Zt EU:=by
 refine cp λl=>cN λZ=>⟨rfl,cq ?_⟩;simp only[Zt,Nu,cg]
 have dP:mF 147005 0 4 0 64 (D l) ((l.map aV).flatten.map .M) (some (0,[]))=some (.ref 147005 1 4 0 (D l),some (147005,1,a7 aV l)):=by
  have:=Hn nC IG 147005 0 64 [] l (by simp;omega) (by simp;omega)
  simpa [a7] using this
 have hlen:(a7 aV l).length=D l*4:=mh nC l;refine ao ?_;repeat' (intro h<;>simp only[h,go_sem,go_sem_proc,acm,dP,au]<;>try refine an ?_ ?_)
 rintro b U
 cases b
 ·refine ao ?_;repeat' (intro h<;>simp only[h,go_sem,go_sem_proc,acm,dP,au,qw,hlen]<;>try refine an ?_ ?_)
  rw[aq (by omega),dx (by omega)];unfold a7;rw[AZ _ λd=>rfl];have:=A0 (sz:=4) (l.map aV) (by intro e he;obtain⟨f,-,rfl⟩:=hx.1 he;rfl);rw[au] at this;simp[this]
 ·cases l with
  |nil =>
       refine ao ?_;repeat' (intro h<;>simp only[h,go_sem,go_sem_proc,qw,cE]<;>try refine an ?_ ?_)
  |cons x r=>simp at U
def hb (rs:List eg):List cQ:=rs.zipIdx.map λp=>(p.2,0,p.1.1++[p.1.2])
def BX (rs:List eg):(hb rs).length=D rs:=by simp[hb]
def acn {rs:List eg}{i:Nat}{r:eg}(h:rs[i]?=some r):(hb rs)[i]?=some (i,0,r.1++[r.2]):=by
 unfold hb;rw[bD,Ty,h];simp
def Tz {rs:List eg}{i:Nat}{r:eg}(h:rs[i]?=some r):(hb rs).take (i+1)=(hb rs).take i++[(i,0,r.1++[r.2])]:=by
 rw[jl,acn h]
 rfl
def aoC {rs:List eg}{i:Nat}{x:cQ}(h:x∈(hb rs).take i):x.1<i/\x.2.1=0:=by
 obtain⟨j,aa⟩:=rH.1 h;rw[List.getElem?_take] at aa
 split at aa
 ·rename_i ig;unfold hb at aa;rw[bD,Ty] at aa
  cases Q:rs[j]? with
  |none=>rw[Q] at aa;cases aa
  |some r =>
   rw[Q] at aa;simp only[jQ,bF] at aa;subst aa;exact⟨by simpa using ig,rfl⟩
 ·cases aa
def aoD (N:Nat)(a b:List cQ):refsOf N (a++b)=refsOf N a++refsOf N b:=by simp[refsOf]
def EV (N:Nat)(a:List cQ):(refsOf N a).length=D a:=by simp[refsOf]
structure yu (N:Nat) (rs:List eg) (i go:Nat) (mem:Mem):Prop where
 z:i=0->mem 129015=some (0,[.nil,.M (.int .i64 N),.M (.bool false)])
 p:0<i->mem 129015=some (0,[.ref 129035 go 1 0 i,.M (.int .i64 N),.M (.bool false)])/\mem 129035=some (go,refsOf N ((hb rs).take i))
 r:∀x∈(hb rs).take i,mem (x.1+900000)=some (x.2.1,a7 aV x.2.2)
 n:∀j:Nat,i<=j->mem (j+900000)=none
 a:mem 168004=none
 b:mem 168006=none
def aco (l:List aG):(l.map aV).flatten.map I.M=a7 aV l:=rfl
def aoE (bc:Nat)(l:List aG)(v1:Int)(v2:List Int)(iL:Int)(v4:List Int)(h:(D l)<=1000000):mF 129029 bc 4 (D l) 64 1 [.M (.int .i64 v1),.M (.ay (v2.map aJ)),.M (.int .i64 iL),.M (.ay (v4.map aJ))] (some (bc,a7 aV l))=some (.ref 129029 (bc+1) 4 0 (D l+1),some (129029,bc+1,a7 aV (l++[((v1,v2),(iL,v4))]))) :=
 oQ nC IG 129029 bc 64 l ((v1,v2),(iL,v4)) rfl (by omega) (by omega)
def aoF (N bc i g:Nat)(a:List cQ)(L:(D a)=i)(h:i<=1000)(m:I)(hm:m=.ref 129029 g 4 0 (N+1)):mF 129035 bc 1 i 24 1 [m] (some (bc,refsOf N a))=some (.ref 129035 (bc+1) 1 0 (i+1),some (129035,bc+1,refsOf N a++[m])):=by
 subst hm;unfold mF;dsimp only;rw[aq ⟨rfl,by rw[EV];omega,by omega,by unfold maxLen;omega,rfl⟩,dx (by rw[EV];omega)]
def aoG {N i go go' bc:Nat}{rs:List eg}{r:eg}{m m':Mem}(U:yu N rs i go m)(Q:rs[i]?=some r)(zA:m' 129015=some (0,[.ref 129035 go' 1 0 (i+1),.M (.int .i64 N),.M (.bool false)]))(ag:∀k:Nat,900000<=k\/k=168004\/k=168006->m' k=m k):
  yu N rs (i+1) go' (aR (aR (aR m' 129029 (bp m' 129029) []) (i+900000) (bp m' (i+900000)) (a7 aV (r.1++[r.2]))) 129035 go' ((refsOf N ((hb rs).take i)++[I.ref 129029 bc 4 0 (N+1)]).set i (I.ref (i+900000) (bp m' (i+900000)) 4 0 (N+1)))):=by
 have av:=(dh.1 Q).1
 have aC:bp m' (i+900000)=0:=by
  unfold bp;rw[ag _ (.inl (by omega)),U.n i (bI _)]
 have r8:(refsOf N ((hb rs).take i)).length=i:=by rw[EV,hg,BX];omega
 rw[aC]
 have GS:(refsOf N ((hb rs).take i)++[I.ref 129029 bc 4 0 (N+1)]).set i (.ref (i+900000) 0 4 0 (N+1))=refsOf N ((hb rs).take (i+1)):=by
  rw[Nl _ _ (by omega),r8,lS,wL,Tz Q,aoD]
  rfl
 rw[GS];have IY:∀(k:Nat),k≠129029->k≠129035->k≠i+900000->aR (aR (aR m' 129029 (bp m' 129029) []) (i+900000) 0 (a7 aV (r.1++[r.2]))) 129035 go' (refsOf N ((hb rs).take (i+1))) k=m' k:=λk E G ab=>by simp[aR,E,G,ab]
 refine⟨λh=>by omega,λ_=>⟨by rw[IY _ (by omega) (by omega) (by omega)];exact zA,by simp[aR]⟩,λx J=>?_,λj aa=>?_,?_,?_⟩
 ·rw[Tz Q,hv,wq] at J;rcases J with J|rfl
  ·obtain⟨fY,gO⟩:=aoC J;rw[IY _ (by omega) (by omega) (by omega),ag _ (.inl (by omega))];exact U.r x J
  ·have G:(i+900000:Nat)≠129035:=by omega
   simp[aR]
 ·rw[IY _ (by omega) (by omega) (by omega),ag _ (.inl (by omega))];exact U.n j (by omega)
 ·rw[IY _ (by omega) (by omega) (by omega),ag _ (.inr (.inl rfl))];exact U.a
 ·rw[IY _ (by omega) (by omega) (by omega),ag _ (.inr (.inr rfl))];exact U.b
def acp {K:a3->Prop}{tm:Nat->I}{N i go:Nat}(go' bc:Nat){rs:List eg}{r:eg}{m m':Mem}(U:yu N rs i go m)(Q:rs[i]?=some r)(zA:m' 129015=some (0,[.ref 129035 go' 1 0 (i+1),.M (.int .i64 N),.M (.bool false)]))
  (Nv:m' 129035=some (go',refsOf N ((hb rs).take i)++[.ref 129029 bc 4 0 (N+1)])) (aoH:m' 129029=some (bc,a7 aV (r.1++[r.2]))) (ag:∀k:Nat,900000<=k\/k=168004\/k=168006->m' k=m k) (h:∀bk,yu N rs (i+1) go' bk->K ⟨tm,bk⟩):lQ K ⟨tm,m'⟩ .move:=by
 have av:=(dh.1 Q).1;have r8:(refsOf N ((hb rs).take i)).length=i:=by rw[EV,hg,BX];omega
 exact aki 129035 i 129029 (i+900000) Nv (by rw[AH (by omega),r8,lS];rfl) aoH (by omega) (show (i+900000:Nat)≠129029 by omega) (show (i+900000:Nat)≠129035 by omega) (h _ (aoG U Q zA ag))
def j2 {m:Mem}{k g:Nat}{cs:List I}{j:Nat}(h:j≠k):aR m k g cs j=m j:=ar h
def aoI (T:bj)(ff:T DI=aW EU){K:fi->a3->Prop}{md:List iM}(N:Nat)(rs:List eg)(stop:Bool)(hP:N<=40)(hlen:(D rs)=N)(lX:∀r∈rs,r.1.length=N/\uP r)(tm:Nat->I)(m:Mem)
  (aK:tm 1=.M (.int .i64 N)) (az:tm 2=.M (.bool stop)) (tu:tm 8=.ptr 129015 0 0) (acq:tm 16=.M (.ay (rs.map ky))) (acr:tm 17=.M (.int .i64 N)) (acs:tm 18=.M (.int .i64 0)) (U:yu N rs 0 0 m)
  (et:∀tm' m' go,tm' 1=.M (.int .i64 N)->tm' 2=.M (.bool stop)->tm' 8=.ptr 129015 0 0->yu N rs N go m'->cI T K md (.exit 0) ⟨tm',m'⟩) :
  wp T (MW.body.sub [1,1,0,1,0]) (cI T K md) ⟨tm,m⟩:=by
 simp only[MW,eF.sub];refine du [1,2,8,16,17] [] (λ((i,go):Nat×Nat) tm m=>i<=N/\tm 18=.M (.int .i64 i)/\yu N rs i go m) (λ(i,_)=>N-i) (0,0) (by exact⟨ej _,acs,U⟩) ?_;intro vs ms aY aT;simp only[go_sem,go_sem_proc,aK,az,tu,acq,acr] at aY aT;subst aY aT;clear aK az tu acq acr acs U tm m;rintro⟨i,go⟩ tm m O hm ⟨acf,iQ,U⟩;simp only[go_sem,go_sem_proc,bo] at O hm;obtain⟨E,G,ct,wu,jo⟩:=O;rcases eo (i<N) with av|bM
 ·obtain⟨⟨A,⟨v1,v2⟩,⟨iL,v4⟩⟩,Q⟩:∃r,rs[i]?=some r:=⟨_,bw (by omega)⟩;obtain⟨wP,⟨acu,TA⟩,aoJ,Bs⟩:=lX _ (dM Q);dsimp only at wP acu TA aoJ Bs;have iF:decide ((i:Int)<(N:Int))=true:=dI;have hw:=hy (i:=i) (by omega);have dP:∀bc,mF 129029 bc 4 N 64 1 _ _=_:=λbc=>wP ▸ aoE bc A v1 v2 iL v4 acu;have acv:N<=1000000:=by omega
  have gm:(1<=maxLen)=True:=eq_true (by unfold maxLen;omega);have az6:=Tz Q;have r8:((hb rs).take i).length=i:=by rw[hg,BX];omega
  rcases jh i with ak|hr
  ·have uX:=U.z ak;refine ao ?_;repeat' (intro h<;>simp only[h,go_sem,go_sem_proc,ff,E,G,ct,wu,jo,iQ,uX,iF,Q,hw,acv,wP,dP,gm,aco,au,bD,ky,aV,decide_true,decide_false,ne_eq,not_false_eq_true,and_self]<;>try refine an ?_ ?_)
   refine acp (hL (m 129035)) (hL (m 129029)+1) U Q (by simp[aR,ak]) (by simp[aR,ak,refsOf]) (by simp[aR]) (λk O=>?_) λbk ht=>?_
   ·rw[j2 (by omega),j2 (by omega),j2 (by omega),j2 (by omega),j2 (by omega),j2 (by omega),j2 (by omega)]
   ·refine ao ?_;repeat' (intro h<;>simp only[h,go_sem,go_sem_proc,E,G,ct,wu,jo,iQ,hw]<;>try refine an ?_ ?_)
    exact⟨(i+1,hL (m 129035)),by dsimp only;omega,by dsimp only;omega,rfl,ht⟩
  ·obtain⟨uX,IW⟩:=U.p hr;have aoK:=aoF N go i (hL (m 129029)+1) ((hb rs).take i) r8 (by omega) _ rfl;refine ao ?_;repeat' (intro h<;>simp only[h,go_sem,go_sem_proc,ff,E,G,ct,wu,jo,iQ,uX,IW,iF,Q,hw,acv,wP,dP,aoK,aco,au,bD,ky,aV,decide_true,decide_false,ne_eq,not_false_eq_true,and_self]<;>try refine an ?_ ?_)
   refine acp (go+1) (hL (m 129029)+1) U Q (by simp[aR]) (by simp[aR]) (by simp[aR]) (λk O=>?_) λbk ht=>?_
   ·rw[j2 (by omega),j2 (by omega),j2 (by omega),j2 (by omega),j2 (by omega),j2 (by omega),j2 (by omega)]
   ·refine ao ?_;repeat' (intro h<;>simp only[h,go_sem,go_sem_proc,E,G,ct,wu,jo,iQ,hw]<;>try refine an ?_ ?_)
    exact⟨(i+1,go+1),by dsimp only;omega,by dsimp only;omega,rfl,ht⟩
 ·have iF:decide ((i:Int)<(N:Int))=false:=dV;obtain rfl:i=N:=by omega
  refine ao ?_;repeat' (intro h<;>simp only[h,go_sem,go_sem_proc,E,G,ct,wu,jo,iQ,iF]<;>try refine an ?_ ?_)
  refine et _ _ go ?_ ?_ ?_ U<;>simp only[tP,yr,if_false,E,G,ct]
def lE (stop:Bool):Nat->Nat->List cQ->List Nat->Bool->List cQ×List Nat×Bool
 |0,_,rows,free,bad=>(rows,free,bad)
 |_+1,_,rows,free,true=>(rows,free,true)
 |k+1,c,rows,free,false =>
  if (hU rows (c-D free) c).1=true then
   (if stop=true then ((hU rows (c-D free) c).2.1,free++[c],(hU rows (c-D free) c).2.2) else lE stop k (c+1) (hU rows (c-D free) c).2.1 (free++[c]) (hU rows (c-D free) c).2.2)
  else lE stop k (c+1) (hU rows (c-D free) c).2.1 free (hU rows (c-D free) c).2.2
def acw (stop:Bool)(k c:Nat)(rows:List cQ)(free:List Nat):lE stop k c rows free true=(rows,free,true):=by
 cases k<;>rfl
def nF (n:Nat):List Data:=[.int .i64 n]
def zW (n:Nat):(nF n).length=1:=rfl
def acx (n:Nat):((nF n).map I.M).all I.one=true:=rfl
def TB (N:Nat)(rows:List cQ)(bad:Bool):Data:=.ptr [.ay (rows.map λx=>[.ay (x.2.2.map aV)]),.int .i64 N,.bool bad]
def Nw (N:Nat)(p:List cQ×List Nat×Bool):Data:=.dc [TB N p.1 p.2.2,.ay (p.2.1.map nF)]
def Nx (e6:List aG)(r c:Nat):∀(i:Nat) (l:List cQ) (b:Bool),(iV e6 r c i l b).1.map (λx=>(x.1,x.2.1,x.2.2.length))=l.map λx=>(x.1,x.2.1,x.2.2.length)
 |_,[],_=>rfl
 |i,x::xs,b=>by
  unfold iV
  split
  ·simp only[hi,Nx e6 r c (i+1) xs b]
  ·simp only[hi,Nx e6 r c (i+1) xs,ab0]
def acy (eT:aG):∀(l p:List aG) (b:Bool),(∀f∈l,okF f)->∀f∈(im eT l p b).1,okF f
 | [],p,b,h=>by rw[ab1];exact h
 |f::c5,[],b,h=>by cases b<;>(simp only[im];exact h)
 |f::c5,p::cD,true,h=>by simp only[im];exact h
 |f::c5,p::cD,false,h=>by
  simp only[im];intro g aC;rcases hq.1 aC with rfl|aC
  ·exact Nk _ _
  ·exact acy eT c5 cD _ (λx J=>h x (tv _ J)) g aC
def TC (e6:List aG)(r c:Nat):∀(i:Nat) (l:List cQ) (b:Bool),(∀x∈l,∀f∈x.2.2,okF f)->∀x∈(iV e6 r c i l b).1,∀f∈x.2.2,okF f
 |_,[],_,h=>h
 |i,x::xs,b,h=>by
  unfold iV
  split
  ·intro y af;rcases hq.1 af with rfl|af
   ·exact h _ kP
   ·exact TC e6 r c (i+1) xs b (λz aP=>h z (tv _ aP)) y af
  ·intro y af;rcases hq.1 af with rfl|af
   ·exact acy _ _ _ _ (h _ kP)
   ·exact TC e6 r c (i+1) xs _ (λz aP=>h z (tv _ aP)) y af
def acz (rows:List cQ)(r c:Nat)(Q:r<=D rows):r<=findAt rows r c/\findAt rows r c<=D rows:=by
 unfold findAt;have:=List.findIdx_le_length (p:=λx => !l3 (cellOf x c)) (xs:=rows.drop r);rw[rF] at this;omega
def iU.zX {N:Nat}{rows:List cQ}(h:iU N rows){r c:Nat}(Q:r<N):iU N (hU rows r c).2.1:=by
 unfold hU
 split
 ·exact h
 ·rename_i a6;have kO:=acz rows r c (by rw[h.len];omega);have ad:=h.len;obtain⟨x,J⟩:∃x,rows[findAt rows r c]?=some x:=⟨_,bw (by omega)⟩;obtain⟨uS,nD⟩:∃x,rows[r]?=some x:=⟨_,bw (by omega)⟩
  have yt:iU N (o7 rows r (findAt rows r c)):=by
   unfold o7;rw[uR J,uR nD];exact h.swap nD J
  have wO:(o7 rows r (findAt rows r c))[r]?=some x:=by
   unfold o7;rw[uR J,uR nD];exact Tj J nD
  generalize o7 rows r (findAt rows r c)=ho at *;obtain⟨vD,lD⟩:=yt.row x (dM wO)
  have x4:iU N (BS ho r c):=by
   unfold BS;rw[uR wO];refine yt.set wO (by simp[g9,vD]) λf ag=>?_;obtain⟨g,-,rfl⟩:=hx.1 ag;exact abY _ _
  generalize BS ho r c=hV at *;have lY:=Nx (g9 (cellOf (rowAt ho r) c) (rowAt ho r).2.2).1 r c 0 hV (g9 (cellOf (rowAt ho r) c) (rowAt ho r).2.2).2;have dD:=TC (g9 (cellOf (rowAt ho r) c) (rowAt ho r).2.2).1 r c 0 hV (g9 (cellOf (rowAt ho r) c) (rowAt ho r).2.2).2 λx J=>(x4.row x J).2;dsimp only;generalize (iV (g9 (cellOf (rowAt ho r) c) (rowAt ho r).2.2).1 r c 0 hV (g9 (cellOf (rowAt ho r) c) (rowAt ho r).2.2).2).1=el at *;refine⟨?_,?_,λy af=>⟨?_,dD y af⟩⟩
  ·have:=congrArg D lY;rw[au,au] at this;rw[this,x4.len]
  ·have E:el.map (·.1)=hV.map (·.1):=by
    have:=congrArg (Nq λp:Nat×Nat×Nat=>p.1) lY
    simpa [rz,Function.comp_def] using this
   rw[E];exact x4.Ni
  ·have E:el.map (λx=>x.2.2.length)=hV.map λx=>x.2.2.length:=by
    have:=congrArg (Nq λp:Nat×Nat×Nat=>p.2.2) lY
    simpa [rz,Function.comp_def] using this
   have G:y.2.2.length∈hV.map λx=>x.2.2.length:=by rw[<-E];exact hx.2 ⟨y,af,rfl⟩
   obtain⟨z,aP,e⟩:=hx.1 G;rw[<-e];exact (x4.row z aP).1
def aoL {n k g N:Nat}{mem:Mem}{l:List aG}(ad:(D l)=N+1)(hm:mem k=some (g,a7 aV l)):cC (n+1) mem (.ref k g 4 0 (N+1))=some (.ay (l.map aV)):=by
 rw[<-ad];exact oR nC hm
def aoM {n N:Nat}{mem:Mem}{rows:List cQ}(h:∀x∈rows,mem (x.1+900000)=some (x.2.1,a7 aV x.2.2))(ad:∀x∈rows,x.2.2.length=N+1):(refsOf N rows).mapM (cC (n+1) mem)=some (rows.map λx => .ay (x.2.2.map aV)):=by
 unfold refsOf
 induction rows with
 |nil=>rfl
 |cons x xs aD =>
  have E:=aoL (n:=n) (ad x kP) (h x kP);have G:=aD (λy af=>h y (tv _ af)) λy af=>ad y (tv _ af);simp only[hi,ma,E,G]
  rfl
def TD {n N go:Nat}{mem:Mem}{rows:List cQ}{bad:Bool}(dD:iU N rows)(h:yo go N rows bad mem):cC (n+3) mem (.ptr 129015 0 0)=some (TB N rows bad):=by
 have E:=aoM (n:=n) h.r λx J=>(dD.row x J).1
 have G:cC (n+2) mem (.ref 129035 go 1 0 N)=some (.ay (rows.map λx=>[.ay (x.2.2.map aV)])):=by
  unfold cC;rw[h.o];simp only[if_true];unfold cut;rw[aq (by rw[EV,dD.len];omega),oO,dx (by rw[EV,dD.len];omega)];dsimp only;rw[E];have:=A0 (sz:=1) (rows.map λx=>[Data.ay (x.2.2.map aV)]) (by intro e he;obtain⟨x,-,rfl⟩:=hx.1 he;rfl);rw[au,dD.len] at this;simp only[jQ,bF,Data.ay.injEq]
  have kO:∀l:List cQ,(l.map λx=>Data.ay (x.2.2.map aV))=(l.map λx=>[Data.ay (x.2.2.map aV)]).flatten:=by
   intro l
   induction l with
   |nil=>rfl
   |cons x xs aD=>simp only[hi,k9,aD];rfl
  rw[kO,this]
 unfold cC;rw[h.m];simp only[if_true,oO,ma,List.mapM_nil,G,true_and,ej];simp only[aka]
 rfl
def yu.aoN {N go:Nat}{rs:List eg}{m:Mem}(ad:(D rs)=N)(hP:0<N)(h:yu N rs N go m):yo go N (hb rs) false m:=by
 have bx:(hb rs).take N=hb rs:=dx (by rw[BX];omega);have aF:=h.p hP;rw[bx] at aF;exact⟨aF.1,aF.2,by have:=h.r;rw[bx] at this;exact this⟩
def yo.other {go N:Nat}{rows:List cQ}{bad:Bool}{mem:Mem}{k g:Nat}{cs:List I}(h:yo go N rows bad mem)(E:k≠129015)(G:k≠129035)(ab:k<900000):yo go N rows bad (aR mem k g cs) :=
 ⟨(j2 (Ne.symm E)).trans h.m,(j2 (Ne.symm G)).trans h.o,λx J=>(j2 (show (x.1+900000:Nat)≠k by omega)).trans (h.r x J)⟩
def acA {N:Nat}{rs:List eg}(ad:(D rs)=N)(h:∀r∈rs,r.1.length=N/\uP r):iU N (hb rs):=by
 refine⟨by rw[BX,ad],?_,λx J=>?_⟩
 ·have:(hb rs).map (·.1)=jf (D rs):=by
   unfold hb;rw[rz];apply ub;intro i;rw[bD,Ty];rcases fF i (D rs) with h|h
   ·rw[bw h];simp[h]
   ·rw[mI h];simp[h]
  rw[this];exact List.nodup_range
 ·unfold hb at J;obtain⟨⟨r,i⟩,aF,rfl⟩:=hx.1 J;have Q:=List.fst_mem_of_mem_zipIdx aF;obtain⟨E,G,ab⟩:=h r Q;refine⟨by simp[E],λf ag=>?_⟩
  rw[hv,wq] at ag;rcases ag with ag|rfl
  ·exact G.2 f ag
  ·exact ab
abbrev Ny:(List eg)×Int×Bool->List Data:=λ(rs,n,stop)=>[.ay (rs.map ky),.int .i64 n,.bool stop]
def IZ:=bW Ny λ(rs,n,stop)=>cv ((D rs:Int)=n/\D rs<=40/\∀r∈rs,r.1.length=D rs/\uP r) (.same (Nw (D rs) (lE stop (D rs) 0 (hb rs) [] false)))
def aoO:∀a b,Ny a=Ny b->a=b:=by
  rintro⟨abK,rq,az7⟩ ⟨abL,rr,az8⟩ h;simp only[bo,Data.ay.injEq,Data.int.injEq,Data.bool.injEq] at h;exact cO (map_inj SX _ _ h.1) (cO h.2.1.2 h.2.2.1)
@[go_sem] def aoP (rs n stop):=cK IZ rfl aoO (rs,n,stop) rfl
def aoQ (T:bj)(ff:T DI=aW EU)(p1:T Rk=yj IX):WF T MW IZ:=by
 refine cp λ(rs,n,stop)=>cN λZ=>⟨rfl,cq ?_⟩;simp only[MW,Ny,cg];obtain⟨aE,hP,lX⟩:=Z;subst aE;simp only[go_sem,go_sem_proc,ff,p1,au];generalize TE:(D rs)=N at *;refine aoI T ff N rs stop hP TE lX _ _ rfl rfl rfl rfl rfl rfl ⟨λ_=>by simp[aR],λh=>by omega,λx J=>by simp at J,λj _=>j2 (show (j+900000:Nat)≠129015 by omega),j2 (by omega),j2 (by omega)⟩ ?_
 intro tm m go E G ct U;rcases jh N with ak|hr
 ·have rS:rs=[]:=List.eq_nil_of_length_eq_zero (by omega);have aP:=U.z ak;subst ak;subst rS;simp only[go_sem,go_sem_proc,ff,p1,E,G,ct];refine du [1,2,8] [129015] (λ(_:Unit) tm' m'=>tm' 11=.ref 129061 (hL (m 129061)) 1 0 0/\m' 129061=some (hL (m 129061),[])/\tm' 12=.M (.int .i64 0)) (λ_=>0) () (by refine⟨rfl,?_,rfl⟩;simp[aR]) ?_;intro vs ms aY aT;simp only[go_sem,go_sem_proc,ff,p1,E,G,ct,aP] at aY aT;subst aY aT;rintro _ tm' m' O hm ⟨m2,I0,m3⟩;simp only[go_sem,go_sem_proc,ff,p1,bo] at O hm;obtain⟨cm,dX,iS⟩:=O;refine ao ?_;repeat' (intro (aw:_=_)<;>simp only[aw,go_sem,go_sem_proc,ff,p1,cm,dX,iS,hm,m2,I0,m3,show decide ((0:Int)<((0:Nat):Int))=false from rfl,cC,rf,oO]<;>try refine an ?_ ?_)
  rfl
 ·have r9:=U.aoN TE hr;have dD:=acA TE lX;have I1:=U.a;have I2:=U.b;clear U;simp only[go_sem,go_sem_proc,ff,p1,E,G,ct]
  refine du [1,2,8] [] (λ((c,rows,free,bad,g):Nat×List cQ×List Nat×Bool×Nat) tm m=>c<=N/\D free<=c/\lE stop N 0 (hb rs) [] false=lE stop (N-c) c rows free bad/\iU N rows/\yo go N rows bad m/\m 168004=none/\m 168006=none/\tm 11=.ref 129061 g 1 0 (D free)/\m 129061=some (g,a7 nF free)/\tm 12=.M (.int .i64 c)) (λ(c,_,_,_,_)=>N-c) (0,hb rs,[],false,hL (m 129061)) (by
   refine⟨ej _,bI _,rfl,dD,⟨?_,?_,λx J=>?_⟩,?_,?_,rfl,?_,rfl⟩
   ·rw[j2 (by omega)];exact r9.m
   ·rw[j2 (by omega)];exact r9.o
   ·rw[j2 (show (x.1+900000:Nat)≠129061 by omega)];exact r9.r x J
   ·rw[j2 (by omega)];exact I1
   ·rw[j2 (by omega)];exact I2
   ·simp[aR,a7]) ?_
  intro vs ms aY aT;simp only[go_sem,go_sem_proc,ff,p1,E,G,ct] at aY aT;subst aY aT;clear E G ct r9 I1 I2;rintro⟨c,rows,free,bad,g⟩ tm m O hm ⟨Nr,az9,jM,dD,r9,I1,I2,m2,I0,m3⟩;simp only[go_sem,go_sem_proc,ff,p1,bo] at O hm;obtain⟨E,G,ct⟩:=O;have uX:=r9.m
  have Sx:lE stop N 0 (hb rs) [] false=(rows,free,bad)->((cC 5 m (.ptr 129015 0 0)).bind λd=>(cC 5 m (.ref 129061 g 1 0 (D free))).bind λe=>some (Data.dc [d,e]))=some (Nw N (lE stop N 0 (hb rs) [] false)):=by
   intro h;rw[h,TD (n:=2) dD r9,oR zW I0]
   rfl
  have I3:=TD (n:=2) dD r9;have I4:=oR (n:=4) zW I0;rcases eo (c<N) with av|bM
  ·have dN:decide ((c:Int)<(N:Int))=true:=dI
   cases bad
   ·have o0:IntKind.i64.wrap ((c:Int)-(D free:Int))=((c-D free:Nat):Int):=by rw[fr _];omega
    have gD:=hy (i:=c) (by omega);have ey:=aox ⟨go,N,rows,c-D free,c⟩ m ⟨dD,r9,I1,I2,hP,Nat.sub_le _ _,av⟩;dsimp only at ey;have TF:N-c=(N-(c+1))+1:=by omega
    rw[TF] at jM;simp only[lE] at jM;have EM:=dD.zX (r:=c-D free) (c:=c) (by omega);simp only[go_sem,go_sem_proc,ff,p1,p1,E,G,ct,m2,m3,uX,dN,o0,ey];intro wQ m' dK;obtain⟨I5,ib⟩:=dK;dsimp only at I5 ib;subst I5;have r7:m' 168004=none:=(ib.2 _ Tl).trans I1;have EO:m' 168006=none:=(ib.2 _ Tm).trans I2;have TG:m' 129061=some (g,a7 nF free):=(ib.2 129061 (by unfold EH;omega)).trans I0;have dP:mF 129061 g 1 (D free) 8 1 [.M (.int .i64 c)] (some (g,a7 nF free))=_:=oQ zW acx 129061 g 8 free c rfl (by omega) (by omega);generalize aAa:hU rows (c-D free) c=dH at *;obtain⟨aoR,acB,acC⟩:=dH;dsimp only at *
    cases aoR
    ·simp only[dm,if_false] at jM;refine ao ?_;repeat' (intro (aw:_=_)<;>simp only[aw,go_sem,go_sem_proc,ff,p1,E,G,ct,m2,m3,gD]<;>try refine an ?_ ?_)
     exact⟨(c+1,acB,free,acC,g),by dsimp only;omega,by dsimp only;omega,by dsimp only;omega,jM,EM,ib.1,r7,EO,rfl,TG,rfl⟩
    ·simp only[if_true] at jM;have acD:=ib.1.other (k:=129061) (g:=g+1) (cs:=a7 nF (free++[c])) (by omega) (by omega) (by omega)
     cases stop
     ·simp only[dm,if_false] at jM;refine ao ?_;repeat' (intro (aw:_=_)<;>simp only[aw,go_sem,go_sem_proc,ff,p1,E,G,ct,m2,m3,gD,TG,dP]<;>try refine an ?_ ?_)
      exact⟨(c+1,acB,free++[c],acC,g+1),by dsimp only;omega,by dsimp only;omega,by simp;omega,jM,EM,acD,r7,EO,by simp,rfl,rfl⟩
     ·simp only[if_true] at jM;refine ao ?_;repeat' (intro (aw:_=_)<;>simp only[aw,go_sem,go_sem_proc,ff,p1,E,G,ct,m2,m3,gD,TG,dP]<;>try refine an ?_ ?_)
      have aoS:(D free)+1=(free++[c]).length:=by simp
      rw[TD (n:=2) EM acD,aoS,oR (n:=4) zW (g:=g+1) (l:=free++[c]) (by simp[aR]),jM]
      rfl
   ·rw[acw] at jM;refine ao ?_;repeat' (intro (aw:_=_)<;>simp only[aw,go_sem,go_sem_proc,ff,p1,E,G,ct,m2,m3,uX,dN,I3,I4]<;>try refine an ?_ ?_)
    rw[jM]
    rfl
  ·have dN:decide ((c:Int)<(N:Int))=false:=dV;have TF:N-c=0:=by omega
   rw[TF] at jM;simp only[lE] at jM;refine ao ?_;repeat' (intro (aw:_=_)<;>simp only[aw,go_sem,go_sem_proc,ff,p1,E,G,ct,m2,m3,uX,dN,I3,I4]<;>try refine an ?_ ?_)
   rw[jM]
   rfl
def Nz {rs:List eg}{n:Int}(a0:BL rs)(h:oe rs n=true):(D rs:Int)=n/\D rs<=40/\∀r∈rs,r.1.length=D rs/\uP r:=by
 unfold oe at h;simp only[dp,lF,decide_eq_false_iff_not,beq_iff_eq] at h;obtain⟨E,G,ab,aM⟩:=h;refine⟨ab,by omega,λr Q=>⟨?_,a0.2 r Q⟩⟩
 rw[m4] at aM;have:=aM r Q;unfold tl at this;simp at this;omega
def TH {stop:Bool}{N:Nat}:∀(k c:Nat) (rows:List cQ) (free:List Nat) (bad:Bool),c+k=N->iU N rows->iU N (lE stop k c rows free bad).1
 |0,_,rows,_,_,_,h=>h
 |k+1,c,rows,free,true,Z,h=>h
 |k+1,c,rows,free,false,Z,h=>by
  have aF:=h.zX (r:=c-D free) (c:=c) (by omega);unfold lE
  split
  ·split
   ·exact aF
   ·exact TH k (c+1) _ _ _ (by omega) aF
  ·exact TH k (c+1) _ _ _ (by omega) aF
def o8 (stop:Bool)(rs:List eg):List cQ×List Nat×Bool:=lE stop (D rs) 0 (hb rs) [] false
def TI (stop:Bool):∀(k c:Nat) (rows:List cQ) (free:List Nat) (bad:Bool),(lE stop k c rows free bad).2.1.length<=D free+k
 |0,_,_,_,_=>by simp[lE]
 |k+1,c,rows,free,true=>by simp[lE]
 |k+1,c,rows,free,false=>by
  unfold lE
  split
  ·split
   ·simp
   ·have:=TI stop k (c+1) (hU rows (c-D free) c).2.1 (free++[c]) (hU rows (c-D free) c).2.2;simp at this;omega
  ·have:=TI stop k (c+1) (hU rows (c-D free) c).2.1 free (hU rows (c-D free) c).2.2;omega
def aoT (stop:Bool)(rs:List eg):(o8 stop rs).2.1.length<=D rs:=by
 have:=TI stop (D rs) 0 (hb rs) [] false;unfold o8
 simpa using this
def acE {rs:List eg}{stop:Bool}(h:∀r∈rs,r.1.length=D rs/\uP r):iU (D rs) (o8 stop rs).1:=TH _ _ _ _ _ (by omega) (acA rfl h)
def tw (N:Nat)(x:cQ):aG:=x.2.2.getD N bY
def l4 (rs:List eg)(n:Int):List aG×Int :=
 if oe rs n=true then (if (o8 true rs).2.2=true then ([],6) else if (o8 true rs).2.1.length>0 then ([],17) else ((o8 true rs).1.map (tw (D rs)),0)) else ([],1)
def acF {N:Nat}{x:cQ}{f:aG}(h:x.2.2[N]?=some f):tw N x=f:=by
 unfold tw;rw[eH,h]
 rfl
def I6:=bW ED λ(rs,n)=>cv (BL rs) (.same (.dc [.ay ((l4 rs n).1.map aV),.int .i64 (l4 rs n).2]))
@[go_sem] def acG (rs n):=cK I6 rfl abM (rs,n) rfl
def aoU (T:bj)(zY:T Rb=aW Nd)(zZ:T Re=aW IZ):WF T abf I6:=by
 refine cp λ(rs,n)=>cN λZ=>⟨rfl,cq ?_⟩;simp only[abf,ED,cg];unfold l4;rcases Q:oe rs n
 ·refine ao ?_;repeat' (intro h<;>simp only[h,go_sem,go_sem_proc,zY,zZ,Z,Q,cE]<;>try refine an ?_ ?_)
 ·have dD:=acE (stop:=true) (Nz Z Q).2.2;have e0:IZ [.ay (rs.map ky),.int .i64 n,.bool true]=some (.same (Nw (D rs) (o8 true rs))):=aoP rs n true (Nz Z Q);have kO:=aoT true rs;obtain⟨aE,hP,-⟩:=Nz Z Q;rcases db:o8 true rs with ⟨rows,free,bad⟩;rw[db] at kO dD e0;dsimp only at kO dD;simp only[Nw,TB] at e0
  cases bad
  ·cases free with
   |nil =>
    simp only[go_sem,go_sem_proc,zY,zZ,Z,Q,e0,au,show decide (((0:Nat):Int)>0)=false from rfl,cE];rw[ar (by simp)];refine du [1,33,34] [] (λ((i,g):Nat×Nat) tm m=>i<=D rs/\tm 35=.M (.int .i64 i)/\tm 8=.ref 109045 g 4 0 i/\m 109045=some (g,a7 aV ((rows.take i).map (tw (D rs))))) (λ(i,_)=>D rs-i) (0,0) (by refine⟨ej _,rfl,rfl,?_⟩;simp[aR,a7,bp,emp]) ?_;intro vs ms aY aT;simp only[go_sem,go_sem_proc,zY,zZ] at aY aT;subst aY aT;rintro⟨i,g⟩ tm m O hm ⟨acf,Nv,ct,TJ⟩;simp only[go_sem,go_sem_proc,zY,zZ,bo] at O hm;obtain⟨E,MI,wR⟩:=O;have b0:=dD.len;rcases eo (i<D rs) with av|bM
    ·obtain⟨x,J⟩:∃x,rows[i]?=some x:=⟨_,bw (by omega)⟩;obtain⟨vD,lD⟩:=dD.row x (dM J);obtain⟨⟨⟨cx,c3⟩,⟨hE,iq⟩⟩,qR⟩:∃f,x.2.2[D rs]?=some f:=⟨_,bw (by omega)⟩;have mi:=acF qR;have r8:((rows.take i).map (tw (D rs))).length=i:=by rw[au,hg];omega
     have dP:=oQ nC IG 109045 g 64 ((rows.take i).map (tw (D rs))) ((cx,c3),(hE,iq)) (cs:=[.M (.int .i64 cx),.M (.ay (c3.map aJ)),.M (.int .i64 hE),.M (.ay (iq.map aJ))]) rfl (by omega) (by omega);rw[r8] at dP
     have aoV:(rows.take (i+1)).map (tw (D rs))=(rows.take i).map (tw (D rs))++[((cx,c3),(hE,iq))]:=by
      rw[jl,J,pZ];simp[mi]
     have iF:decide ((i:Int)<(D rs:Int))=true:=dI;have TK:decide ((i:Int)<(D rows:Int))=true:=dI;have hw:=hy (i:=i) (by omega);have pH:decide (0<=n)=true:=dI;have aoW:n=((D rs:Nat):Int):=aE.symm;refine ao ?_;repeat' (intro h<;>simp only[h,go_sem,go_sem_proc,zY,zZ,E,MI,wR,Nv,ct,TJ,J,qR,dP,iF,TK,hw,aoW,au,bD,aV]<;>try refine an ?_ ?_)
     exact⟨(i+1,g+1),by dsimp only;omega,by dsimp only;omega,rfl,rfl,by dsimp only;rw[aoV]⟩
    ·have fa:i=D rs:=by omega
     have TK:decide ((i:Int)<(D rows:Int))=false:=dV;have dn:rows.take i=rows:=dx (by omega);rw[dn] at TJ
     have fb:∀n,cC (n+1) m (.ref 109045 g 4 0 i)=some (.ay ((rows.map (tw (D rs))).map aV)):=λn=>by
      have:=oR (n:=n) nC TJ;rw[show (rows.map (tw (D rs))).length=i by rw[au];omega] at this
      exact this
     have aoX:=fb 4;refine ao ?_;repeat' (intro h<;>simp only[h,go_sem,go_sem_proc,zY,zZ,E,MI,wR,Nv,ct,TK,aoX]<;>try refine an ?_ ?_)
   |cons f c5 =>
    have lj:decide ((((f::c5).length:Nat):Int)>0)=true:=kG (by simp only[jt];omega);simp only[jt] at lj;refine ao ?_;repeat' (intro h<;>simp only[h,go_sem,go_sem_proc,zY,zZ,Z,Q,e0,au,lj,cE]<;>try refine an ?_ ?_)
    rw[aq (by omega)]
    rfl
  ·refine ao ?_;repeat' (intro h<;>simp only[h,go_sem,go_sem_proc,zY,zZ,Z,Q,e0,au,cE]<;>try refine an ?_ ?_)
def acH:bN:=b9 30 2 [.t 4,.t 5] (Y [aO 4 (.hI (.c (.M (.int .u64 0)))),aO 5 (.hI (.c (.M (.int .u64 0))))] (.seq (.cond (.c (.M (.bool false))) (Y [F 11 0,aO 12 (.conv .u32 (.t 11)),F 13 1,aO 14 (.conv .u32 (.t 13)),ch 15 akO 12 14,F 10 15,bn 16 0 10,bn 17 1 10,F 6 16,F 7 17] (Y [F 18 6,aO 19 (.conv .u64 (.t 18)),F 20 7,aO 21 (.conv .u64 (.t 20)),F 4 19,F 5 21] .ret)) .skip) (Y [F 23 0,F 24 1,ch 25 Rp 23 24,F 22 25,bn 26 0 22,bn 27 1 22,F 8 26,F 9 27] (Y [F 28 8,F 29 9,F 4 28,F 5 29] .ret))))
def acI:bN:=b9 51 2 [.t 4,.t 5] (Y [aO 4 (.hI (.c (.M (.int .u64 0)))),aO 5 (.hI (.c (.M (.int .u64 0))))] (Y [F 14 0,aO 15 (.bin .and (.t 14) (.c (.M (.int .u64 4294967295)))),F 6 15] (Y [F 16 0,aO 17 (.bin .shr (.t 16) (.c (.M (.int .u64 32)))),F 7 17] (Y [F 18 1,aO 19 (.bin .and (.t 18) (.c (.M (.int .u64 4294967295)))),F 8 19] (Y [F 20 1,aO 21 (.bin .shr (.t 20) (.c (.M (.int .u64 32)))),F 9 21] (Y [F 22 6,F 23 8,bB 24 .mul 22 23,F 10 24] (Y [F 25 7,F 26 8,bB 27 .mul 25 26,F 28 10,aO 29 (.bin .shr (.t 28) (.c (.M (.int .u64 32)))),bB 30 .add 27 29,F 11 30] (Y [F 31 11,aO 32 (.bin .and (.t 31) (.c (.M (.int .u64 4294967295)))),F 12 32] (Y [F 33 11,aO 34 (.bin .shr (.t 33) (.c (.M (.int .u64 32)))),F 13 34] (Y [F 35 12,F 36 6,F 37 9,bB 38 .mul 36 37,bB 39 .add 35 38,F 12 39] (Y [F 40 7,F 41 9,bB 42 .mul 40 41,F 43 13,bB 44 .add 42 43,F 45 12,aO 46 (.bin .shr (.t 45) (.c (.M (.int .u64 32)))),bB 47 .add 44 46,F 4 47] (Y [F 48 0,F 49 1,bB 50 .mul 48 49,F 5 50] .ret))))))))))))
def TL:∀y:Nat,y<41->bits .and .u64 (y:Int) 4294967295=y:=by decide
def aoY (y:Nat)(h:y<41):(y:Int).fdiv 4294967296=0:=by
 rw[SL _ (by omega)];omega
abbrev EW:Nat->List Data:=λ(y:Nat)=>[.int .u64 1,.int .u64 y]
def NA:=bW EW λ(y:Nat)=>cv (y<41) (.same (.dc [.int .u64 0,.int .u64 y]))
def acJ:∀a b,EW a=EW b->a=b:=by
  intro uD wc h;simp only[bo,Data.int.injEq] at h;omega
@[go_sem] def aAb (y):=cK NA rfl acJ y rfl
def aoZ (T:bj):WF T acI NA:=by
 refine cp λy=>cN λZ=>⟨rfl,cq ?_⟩;simp only[acI,EW,cg];have E:=TL y Z;have G:=aoY y Z;have ab:=TL 1 (by omega);have aM:=TL 0 (by omega);have bl:((1:Int)).fdiv 4294967296=0:=by decide
 have bz:((0:Int)).fdiv 4294967296=0:=by decide
 have hw:∀x:Int,0<=x/\x<18446744073709551616->IntKind.u64.wrap x=x:=λx h=>xQ x h;have b5:=hw 0 (by omega);have w1:=hw y (by omega);simp only[Int.natCast_zero,Int.cast_ofNat_Int,Int.natCast_one] at ab aM;refine ao ?_;repeat' (intro (aw:_=_)<;>simp only[aw,go_sem,go_sem_proc,E,G,ab,aM,bl,bz,b5,w1,show ((32:Int)<0)=False from by simp,if_false,show (2:Int)^min (Int.toNat 32) 64=4294967296 from rfl,nw,ya,Int.mul_zero,Int.add_zero,Int.zero_add]<;>try refine an ?_ ?_)
def NB:=bW EW λ(y:Nat)=>cv (y<41) (.same (.dc [.int .u64 0,.int .u64 y]))
@[go_sem] def aAc (y):=cK NB rfl acJ y rfl
def ao0 (T:bj)(ao1:T Rp=aW NA):WF T acH NB:=by
 refine cp λy=>cN λZ=>⟨rfl,cq ?_⟩;simp only[acH,EW,cg];refine ao ?_;repeat' (intro h<;>simp only[h,go_sem,go_sem_proc,ao1,Z]<;>try refine an ?_ ?_)
def p2 {α:Type}{A:List α}{k:Nat}(cY:(D A)=k)(n:Nat):(bT n A).flatten.length=n*k:=by
 rw[List.length_flatten,BY,cY,List.sum_replicate_nat]
def ao2 {α:Type}{A:List α}{k:Nat}(cY:(D A)=k){q j:Nat}(h:q<=j):(bT j A).flatten.take (q*k)=(bT q A).flatten:=by
 obtain⟨d,rfl⟩:=acK h;rw[<-TM,TN,TO (by rw[p2 cY];omega),dx (by rw[p2 cY];omega)]
def ao3 {α:Type}{A:List α}{k:Nat}(cY:(D A)=k){q j:Nat}(h:q<=j):(bT j A).flatten.drop (q*k)=(bT (j-q) A).flatten:=by
 obtain⟨d,rfl⟩:=acK h;rw[<-TM,TN,DA,mH (by rw[p2 cY];omega),p2 cY,lS,oO,jU,DB]
def BZ:List I:=[.M (.int .i64 0),.nil,.M (.int .i64 0),.nil]
def oh (A:List I)(N j:Nat):List I:=(bT j A).flatten++(bT (N-j) BZ).flatten
def acL {A:List I}(cY:(D A)=4){N j:Nat}(h:j<=N):(oh A N j).length=N*4:=by
 unfold oh;rw[la,p2 cY,p2 (show (D BZ)=4 from rfl)];omega
def acM {A:List I}(cY:(D A)=4){N j q:Nat}(h:j+q<=N):(oh A N j).take (j*4)++(bT q A).flatten++(oh A N j).drop (j*4+q*4)=oh A N (j+q):=by
 unfold oh;rw[TO (by rw[p2 cY];omega),dx (by rw[p2 cY];omega),DA,mH (by rw[p2 cY];omega),p2 cY,DB,ao3 (show (D BZ)=4 from rfl) (by omega),jU,<-TM (n:=j),TN,Nat.sub_sub]
def ao4 {A:List I}(cY:(D A)=4){N j:Nat}:(oh A N j).take (j*4)=(bT j A).flatten:=by
 unfold oh;rw[TO (by rw[p2 cY];omega),dx (by rw[p2 cY];omega)]
def acN {A:List I}(h:A.all I.one=true)(q:Nat):(bT q A).flatten.all I.one=true:=by
 induction q with
 |zero=>rfl
 |succ n aD=>rw[pF,k9,List.all_append,h,aD];rfl
def ao5 (f:aG)(N:Nat):oh ((aV f).map .M) N N=a7 aV (bT N f):=by
 unfold oh a7;rw[lS,BY];simp only[List.replicate_zero,List.flatten_nil,nZ]
 induction N with
 |zero=>rfl
 |succ n aD=>rw[pF,k9,pF,k9,pZ,aD]
def ao6 {A:List I}(cY:(D A)=4)(E:A.all I.one=true)(N:Nat):yU 131030 0 4 0 N 1 A (some (0,(bT N BZ).flatten))=some (.M (.int .i64 ((min 1 N:Nat):Int)),some (131030,0,oh A N (min 1 N))):=by
 unfold yU;dsimp only;rw[aq ⟨rfl,by rw[p2 (show (D BZ)=4 from rfl)];omega,E⟩]
 have ak:(bT N BZ).flatten=oh A N 0:=by simp[oh]
 have bx:A.take (min 1 N*4)=(bT (min 1 N) A).flatten:=by
  rcases jh N with h|h
  ·subst h;simp
  ·rw[show min 1 N=1 by omega];simp[dx (Nat.le_of_eq cY)]
 have:=acM cY (N:=N) (j:=0) (q:=min 1 N) (by omega);rw[ak,bx];unfold jJ;rw[p2 cY];simp only[Nat.zero_mul,Nat.zero_add] at this ⊢;rw[this]
def ao7 {A:List I}(cY:(D A)=4)(E:A.all I.one=true){N j:Nat}(h:j<N):yU 131030 0 4 (j*4) (N-j) j (bT j A).flatten (some (0,oh A N j))=some (.M (.int .i64 ((min j (N-j):Nat):Int)),some (131030,0,oh A N (j+min j (N-j)))):=by
 unfold yU;dsimp only;rw[aq ⟨rfl,by rw[acL cY (by omega)];omega,acN E j⟩]
 rw[ao2 cY (show min j (N-j)<=j by omega)];have:=acM cY (N:=N) (j:=j) (q:=min j (N-j)) (by omega);unfold jJ;rw[p2 cY,this]
abbrev NC:Int×(List Int)×Int×(List Int)×Nat->List Data:=λ(s,l,s2,ah,N)=>[.ay [[.int .i64 s,.ay (l.map aJ),.int .i64 s2,.ay (ah.map aJ)]],.int .i64 N]
def I7:=bW NC λ(s,l,s2,ah,N)=>cv (N<41) (.own 4 (bT N (aV ((s,l),(s2,ah)))))
def ao8:∀a b,NC a=NC b->a=b:=by
  rintro⟨s1,iP,uI,tc,aAd⟩ ⟨s2,ah,uJ,td,aAe⟩ h;simp only[bo,Data.int.injEq,Data.ay.injEq] at h;exact cO h.1.1.1.2 (cO (map_inj fQ _ _ h.1.1.2.1) (cO h.1.1.2.2.1.2 (cO (map_inj fQ _ _ h.1.1.2.2.2.1) (by have:=h.2.1.2;dsimp only;omega))))
@[go_sem] def acO (s l s2 ah N):=cK I7 rfl ao8 (s,l,s2,ah,N) rfl
def ao9 (T:bj)(B0:T Rl=aW NB):WF T Zr I7:=by
 refine cp λ(s,l,s2,ah,N)=>cN λZ=>⟨rfl,cq ?_⟩;simp only[Zr,NC,cg];have ak:decide ((N:Int)<0)=false:=dV;have hw:IntKind.u64.wrap (N:Int)=N:=xQ _ ⟨by omega,by omega⟩
 have XY:IntKind.i64.wrap (N:Int)=N:=wrap64 _ (by omega) (by omega);have o0:IntKind.u64.wrap ((1:Nat):Int)=1:=by decide
 have aC:decide ((N:Int)>9223372036854775807)=false:=dV;have I8:(64*N<=140737488355328)=True:=eq_true (by omega);have I9:(N<=maxLen)=True:=eq_true (by unfold maxLen;omega);have cY:((aV ((s,l),(s2,ah))).map I.M).length=4:=rfl;have Ja:((aV ((s,l),(s2,ah))).map I.M).all I.one=true:=rfl;have y3:=ao6 cY Ja N;have Di:=λj (h:j<N)=>ao7 cY Ja h;have Jb:(aV ((s,l),(s2,ah))).map I.M=[.M (.int .i64 s),.M (.ay (l.map aJ)),.M (.int .i64 s2),.M (.ay (ah.map aJ))]:=rfl;simp only[BZ] at y3;rw[Jb] at y3;simp only[go_sem,go_sem_proc,B0] at y3;simp only[go_sem,go_sem_proc,B0,ak,hw,XY,o0,Z,aC,I8,I9,show decide ((0:Int)>0)=false from rfl,y3];rw[Jb] at cY Ja;have kS:=ao5 ((s,l),(s2,ah)) N;rw[Jb] at kS;simp only[Jb] at Di;clear Jb y3;generalize [I.M (.int .i64 s),.M (.ay (l.map aJ)),.M (.int .i64 s2),.M (.ay (ah.map aJ))]=A at *;refine du [7] [] (λ(j:Nat) tm m=>j<=N/\(0<N->0<j)/\tm 8=.M (.int .i64 j)/\m 131030=some (0,oh A N j)) (λj=>N-j) (min 1 N) (by refine⟨by omega,by omega,rfl,?_⟩;simp[aR]) ?_;intro vs ms aY aT;simp only[go_sem,go_sem_proc,B0] at aY aT;subst aY aT;rintro j tm m O hm ⟨acP,apa,ct,TP⟩;simp only[go_sem,go_sem_proc,B0,bo] at O hm;have bP:=O;rcases eo (j<N) with av|bM
 ·have h2:decide ((j:Int)<(N:Int))=true:=dI;have aE:=Di j av;have oK:=ao4 cY (N:=N) (j:=j);have hlen:(j*4<=(oh A N j).length)=True:=eq_true (by rw[acL cY acP];omega);have apb:(j<=N)=True:=eq_true acP;have dn:=acN Ja j;simp only[go_sem,go_sem_proc,B0,dn,Ja,oK] at aE;have gD:IntKind.i64.wrap ((j:Int)+((min j (N-j):Nat):Int))=((j+min j (N-j):Nat):Int):=by rw[fr _];omega
  refine ao ?_;repeat' (intro (aw:_=_)<;>simp only[aw,go_sem,go_sem_proc,B0,bP,ct,TP,h2,oK,hlen,apb,dn,aE,gD,bI,Nat.sub_zero,ej]<;>try refine an ?_ ?_)
  exact⟨j+min j (N-j),by have:=apa (by omega);omega,by omega,by omega,rfl,rfl⟩
 ·have h2:decide ((j:Int)<(N:Int))=false:=dV;obtain rfl:j=N:=by omega
  rw[kS] at TP;have Em:=mh nC (bT j ((s,l),(s2,ah)));rw[gv] at Em;refine ao ?_;repeat' (intro (aw:_=_)<;>simp only[aw,go_sem,go_sem_proc,B0,bP,ct,TP,h2,qw,Em]<;>try refine an ?_ ?_)
  rw[aq (bI _),dx (by omega)];unfold a7;rw[AZ _ λd=>rfl];have:=A0 (sz:=4) ((bT j ((s,l),(s2,ah))).map aV) (by intro e he;obtain⟨f,-,rfl⟩:=hx.1 he;rfl);rw[au,gv] at this;rw[jQ,this,BY]
def ND:aG:=((0,[]),(1,[1]))
def TQ:aG:=((1,[1]),(1,[1]))
def acQ:bU 0=ND:=by
 unfold bU bt ND;simp[A7,qB]
def apc:bU 1=TQ:=by
 unfold bU bt TQ;simp[A7]
def Jc (rows:List cQ)(f N i:Nat):List aG:=(jf N).map λk=>if k<i then (nB ND (cellOf (rowAt rows k) f)).1 else if k=f then TQ else ND
def apd (rows:List cQ)(f N i:Nat):(Jc rows f N i).length=N:=by simp[Jc]
def TR (rs:List eg)(n:Int):List aG×Bool :=
 if oe rs n=true then (if ((o8 true rs).2.2||(o8 true rs).2.1.length==0)=true then ([],false) else (Jc (o8 true rs).1 ((o8 true rs).2.1.headD 0) (D rs) ((o8 true rs).2.1.headD 0),true)) else ([],false)

abbrev bJ:=Int×Int×aG
def fK (l:bJ):List Data:=.int .i64 l.1 :: .int .i64 l.2.1::aV l.2.2
def uY:∀a b:bJ,fK a=fK b->a=b:=by
 rintro⟨a,b,w⟩ ⟨c,d,v⟩ h;simp only[fK,bo,Data.int.injEq,true_and] at h;obtain⟨rfl,rfl,h⟩:=h;rw[lB _ _ h]
def sa (l:List bJ):Prop:=D l<=1000000/\∀x∈l,okF x.2.2
def o9 (n:Int)(l:bJ):Bool:=decide (l.1<0)||(decide (l.1>=n)||(decide (l.2.1<0)||(decide (l.2.1>=n) || !eV l.2.2)))
abbrev NF:Int×Int×Int×(List Int)×Int×(List Int)×Int->List Data:=λ(a,b,s,l,s2,ah,n)=>[.agg [.int .i64 a,.int .i64 b,.int .i64 s,.ay (l.map aJ),.int .i64 s2,.ay (ah.map aJ)],.ptr [.int .i64 n]]
def NG:=bW NF λ(a,b,s,l,s2,ah,n)=>cv (D l<=1000000/\D ah<=1000000) (.same (.bool (o9 n (a,b,((s,l),(s2,ah))))))
def ape:∀a b,NF a=NF b->a=b:=by
  rintro⟨cx,cz,s1,iP,uI,tc,rq⟩ ⟨c3,ef,s2,ah,uJ,td,rr⟩ h;simp only[bo,Data.agg.injEq,Data.int.injEq,Data.ay.injEq,Data.ptr.injEq] at h;exact cO h.1.1.2 (cO h.1.2.1.2 (cO h.1.2.2.1.2 (cO (map_inj fQ _ _ h.1.2.2.2.1) (cO h.1.2.2.2.2.1.2 (cO (map_inj fQ _ _ h.1.2.2.2.2.2.1) h.2.1.1.2)))))
@[go_sem] def aAf (a b s l s2 ah n):=cK NG rfl ape (a,b,s,l,s2,ah,n) rfl
def apf (T:bj)(wI:T Bg=aW Ey):WF T aby NG:=by
 refine cp λ(a,b,s,l,s2,ah,n)=>cN λZ=>⟨rfl,cq ?_⟩;simp only[aby,NF,cg];obtain⟨bH,bG⟩:=Z;unfold o9;rcases E:decide (a<0)
 ·rcases G:decide (a>=n)
  ·rcases ab:decide (b<0)
   ·rcases aM:decide (b>=n)
    ·refine ao ?_;repeat' (intro h<;>simp only[h,go_sem,go_sem_proc,wI,bH,bG,E,G,ab,aM]<;>try refine an ?_ ?_)
    ·refine ao ?_;repeat' (intro h<;>simp only[h,go_sem,go_sem_proc,wI,bH,bG,E,G,ab,aM]<;>try refine an ?_ ?_)
   ·refine ao ?_;repeat' (intro h<;>simp only[h,go_sem,go_sem_proc,wI,bH,bG,E,G,ab]<;>try refine an ?_ ?_)
  ·refine ao ?_;repeat' (intro h<;>simp only[h,go_sem,go_sem_proc,wI,bH,bG,E,G]<;>try refine an ?_ ?_)
 ·refine ao ?_;repeat' (intro h<;>simp only[h,go_sem,go_sem_proc,wI,bH,bG,E]<;>try refine an ?_ ?_)
abbrev EX:(List bJ)×Int->List Data:=λ(ls,n)=>[.ay (ls.map fK),.fn L3 [.ptr [.int .i64 n]]]
def NH:=bW EX λ(ls,n)=>cv (sa ls) (.same (.int .i64 (wJ (o9 n) ls)))
def acR:∀a b,EX a=EX b->a=b:=by
  rintro⟨z0,rq⟩ ⟨z1,rr⟩ h;simp only[bo,Data.ay.injEq,Data.fn.injEq,Data.ptr.injEq,Data.int.injEq] at h;exact cO (map_inj uY _ _ h.1) h.2.1.2.1.1.2
@[go_sem] def aAg (ls n):=cK NH rfl acR (ls,n) rfl
def apg (T:bj)(EY:T L3=aW NG):WF T Zw NH:=by
 refine cp λ(ls,n)=>cN λZ=>⟨rfl,cq ?_⟩;simp only[Zw,EX,cg];obtain⟨ad,dD⟩:=Z;simp only[go_sem,go_sem_proc,EY,au];refine du [0,1,7] [] (λ(i:Nat) tm mem=>i<=D ls/\(∀x∈ls.take i,o9 n x=false)/\tm 8=.M (.int .i64 i)) (λi=>D ls-i) 0 (by refine⟨ej _,?_,rfl⟩;simp) ?_;intro vs ms aY aT;simp only[go_sem,go_sem_proc,EY,au] at aY aT;subst aY aT;rintro i tm mem O hm ⟨L,dn,ct⟩;simp only[go_sem,go_sem_proc,EY,bo] at O hm;obtain⟨ak,E,bP⟩:=O;rcases eo (i<D ls) with av|bM
 ·have J:=bw av;obtain⟨fY,gO⟩:=dD _ (iJ av);have fX:=λh=>SZ (p:=o9 n) dn J h;have lh:=λh=>Ez (p:=o9 n) dn J h;generalize ls[i]=x at *;have mr:decide ((i:Int)<(D ls:Int))=true:=dI;have hw:=hy (i:=i) (by omega);obtain⟨a,b,⟨fe,fJ⟩,⟨gS,iT⟩⟩:=x;dsimp only at fY gO;rcases U:o9 n (a,b,((fe,fJ),(gS,iT)))
  ·refine ao ?_;repeat' (intro (aw:_=_)<;>simp only[aw,go_sem,go_sem_proc,EY,ak,E,bP,ct,J,mr,hw,fY,gO,U,au,bD,fK,aV]<;>try refine an ?_ ?_)
   exact⟨i+1,by omega,by omega,lh U,rfl⟩
  ·rw[fX U];refine ao ?_;repeat' (intro (aw:_=_)<;>simp only[aw,go_sem,go_sem_proc,EY,ak,E,bP,ct,J,mr,hw,fY,gO,U,au,bD,fK,aV]<;>try refine an ?_ ?_)
 ·have mr:decide ((i:Int)<(D ls:Int))=false:=dV;have iF:i=D ls:=by omega
  subst iF;rw[oc] at dn;rw[S0 dn];refine ao ?_;repeat' (intro (aw:_=_)<;>simp only[aw,go_sem,go_sem_proc,EY,ak,E,bP,ct,mr,au]<;>try refine an ?_ ?_)
def NI:=bW EX λ(ls,n)=>cv (sa ls) (.same (.bool (ls.any (o9 n))))
@[go_sem] def aAh (ls n):=cK NI rfl acR (ls,n) rfl
def aph (T:bj)(api:T RJ=aW NH):WF T Zv NI:=by
 refine cp λ(ls,n)=>cN λZ=>⟨rfl,cq ?_⟩;simp only[Zv,EX,cg];rw[<-S1];refine ao ?_;repeat' (intro h<;>simp only[h,go_sem,go_sem_proc,api,Z]<;>try refine an ?_ ?_)
def p3 (ls:List bJ)(n:Int):Bool:=!(decide (n<0))&&(!(decide (n>40))&&(!(decide ((D ls:Int)>400)) && !(ls.any (o9 n))))
abbrev z2:(List bJ)×Int->List Data:=λ(ls,n)=>[.ay (ls.map fK),.int .i64 n]
def EZ:=bW z2 λ(ls,n)=>cv (sa ls) (.same (.bool (p3 ls n)))
def TS:∀a b,z2 a=z2 b->a=b:=by
  rintro⟨z0,rq⟩ ⟨z1,rr⟩ h;simp only[bo,Data.ay.injEq,Data.int.injEq] at h;exact cO (map_inj uY _ _ h.1) h.2.1.2
@[go_sem] def aAi (ls n):=cK EZ rfl TS (ls,n) rfl
def apj (T:bj)(NJ:T RI=aW NI):WF T abx EZ:=by
 refine cp λ(ls,n)=>cN λZ=>⟨rfl,cq ?_⟩;simp only[abx,z2,cg];unfold p3;rcases E:decide (n<0)
 ·rcases G:decide (n>40)
  ·rcases ab:decide ((D ls:Int)>400)
   ·refine ao ?_;repeat' (intro h<;>simp only[h,go_sem,go_sem_proc,NJ,Z,E,G,ab,au,cC,l9,kz,scalar]<;>try refine an ?_ ?_)
   ·refine ao ?_;repeat' (intro h<;>simp only[h,go_sem,go_sem_proc,NJ,Z,E,G,ab,au]<;>try refine an ?_ ?_)
  ·refine ao ?_;repeat' (intro h<;>simp only[h,go_sem,go_sem_proc,NJ,Z,E,G,au]<;>try refine an ?_ ?_)
 ·refine ao ?_;repeat' (intro h<;>simp only[h,go_sem,go_sem_proc,NJ,Z,E,au]<;>try refine an ?_ ?_)
def mv (cap base:List aG)(ls:List bJ):Bool:=((D cap:Int)==(D base:Int))&&(p3 ls (D cap)&&(!(cap.any λf => !eV f) && !(base.any λf => !eV f)))
def qS (cap base:List aG)(ls:List bJ):Prop:=ia cap/\ia base/\sa ls
abbrev tx:(List aG)×(List aG)×(List bJ)->List Data:=λ(cap,base,ls)=>[.agg [.ay (cap.map aV),.ay (base.map aV),.ay (ls.map fK)]]
def E0:=bW tx λ(cap,base,ls)=>cv (qS cap base ls) (.same (.bool (mv cap base ls)))
def Jd:∀a b,tx a=tx b->a=b:=by
  rintro⟨apk,apl,z0⟩ ⟨apm,apn,z1⟩ h;simp only[bo,Data.agg.injEq,Data.ay.injEq] at h;exact cO (map_inj lB _ _ h.1.1) (cO (map_inj lB _ _ h.1.2.1) (map_inj uY _ _ h.1.2.2.1))
@[go_sem] def aAj (cap base ls):=cK E0 rfl Jd (cap,base,ls) rfl
def apo (T:bj)(ki:T Bi=aW EZ)(fZ:T sS=aW r0):WF T abv E0:=by
 refine cp λ(cap,base,ls)=>cN λZ=>⟨rfl,cq ?_⟩;simp only[abv,tx,cg];obtain⟨E,G,ab⟩:=Z;unfold mv;rcases aK:((D cap:Int)==(D base:Int))
 ·refine ao ?_;repeat' (intro h<;>simp only[h,go_sem,go_sem_proc,ki,fZ,E,G,ab,aK,au]<;>try refine an ?_ ?_)
 ·rcases az:p3 ls (D cap)
  ·refine ao ?_;repeat' (intro h<;>simp only[h,go_sem,go_sem_proc,ki,fZ,E,G,ab,aK,az,au]<;>try refine an ?_ ?_)
  ·rcases ee:cap.any λf => !eV f
   ·refine ao ?_;repeat' (intro h<;>simp only[h,go_sem,go_sem_proc,ki,fZ,E,G,ab,aK,az,ee,au]<;>try refine an ?_ ?_)
   ·refine ao ?_;repeat' (intro h<;>simp only[h,go_sem,go_sem_proc,ki,fZ,E,G,ab,aK,az,ee,au]<;>try refine an ?_ ?_)
def acS {n:Int}(h:dQ n):hR (bt n) (bt 1)=(bU (n:Rat),0):=by
 rw[zH (yd h) (by decide +kernel) (by decide),Rat.divInt_eq_div,show ((1:Int):Rat)=1 from rfl,show (n:Rat)/1=n by grind]
def B1:=bW sZ λ(n:Int)=>cv (dQ n) (.same (.agg (aV (bU (n:Rat)))))
@[go_sem] def E1 (n):=cK B1 rfl HQ n rfl
def apq (T:bj)(apr:T HB=aW Ep):WF T abz B1:=by
 refine cp λn=>cN λZ=>⟨rfl,cq ?_⟩;simp only[abz,sZ,cg];have E:dQ 1:=by unfold dQ;omega
 have h:=acS Z;generalize bU (n:Rat)=bK at *;obtain⟨⟨a,b⟩,⟨c,d⟩⟩:=bK;refine ao ?_;repeat' (intro (aw:_=_)<;>simp only[aw,go_sem,go_sem_proc,apr,Z,E,h,e5,aV]<;>try refine an ?_ ?_)
def aps {x:List Data}(h:Fits [.int .i64,.int .i64,.st [.st [.int .i64,.ay (.int .i64)],.st [.int .i64,.ay (.int .i64)]]] x):∃r:bJ,x=fK r:=by
 unfold Fits at h;obtain⟨a,b,rfl,E,G⟩:=h;unfold Fit at E;obtain⟨f,rfl,-⟩:=E;unfold Fits at G;obtain⟨a,b,rfl,ab,aM⟩:=G;unfold Fit at ab;obtain⟨t,rfl,-⟩:=ab;unfold Fits at aM;obtain⟨c,d,rfl,bl,bz⟩:=aM;unfold Fit at bl;obtain⟨w,rfl⟩:=abO bl;unfold Fits at bz;subst bz;exact⟨(f,t,w),by simp[fK]⟩
def apt {es:List (List Data)}(h:∀x∈es,Fit (.st [.int .i64,.int .i64,.st [.st [.int .i64,.ay (.int .i64)],.st [.int .i64,.ay (.int .i64)]]]) x):∃l:List bJ,es=l.map fK:=by
 obtain⟨l,e,-⟩:=LS (e:=fK) (good:=λ_=>True) λx J=>by
  have:=h x J;unfold Fit at this;obtain⟨r,rfl⟩:=aps this;exact⟨r,rfl,trivial⟩
 exact⟨l,e⟩
def apu {x:List Data}(h:Fits [.ay (.st [.st [.int .i64,.ay (.int .i64)],.st [.int .i64,.ay (.int .i64)]]),.ay (.st [.st [.int .i64,.ay (.int .i64)],.st [.int .i64,.ay (.int .i64)]]),.ay (.st [.int .i64,.int .i64,.st [.st [.int .i64,.ay (.int .i64)],.st [.int .i64,.ay (.int .i64)]]])] x):∃(cap base:List aG) (ls:List bJ),x=[.ay (cap.map aV),.ay (base.map aV),.ay (ls.map fK)]:=by
 unfold Fits at h;obtain⟨a,b,rfl,E,G⟩:=h;unfold Fit at E;obtain⟨es,rfl,-,E⟩:=E;obtain⟨cap,rfl⟩:=S5 E;unfold Fits at G;obtain⟨a,b,rfl,ab,aM⟩:=G;unfold Fit at ab;obtain⟨es,rfl,-,ab⟩:=ab;obtain⟨base,rfl⟩:=S5 ab;unfold Fits at aM;obtain⟨c,d,rfl,bl,bz⟩:=aM;unfold Fit at bl;obtain⟨es,rfl,-,bl⟩:=bl;obtain⟨ls,rfl⟩:=apt bl;unfold Fits at bz;subst bz;exact⟨cap,base,ls,rfl⟩
end Go.Mini
namespace Go.Mini
open Go
inductive dw (α:Type) where
 |e
 |n (l:dw α) (v:Option α) (r:dw α)
variable {α:Type}
def dw.get (t:dw α):Nat->Option α :=
 dw.rec (motive:=λ_=>Nat->Option α) (λ_=>none) (λ_ v _ uZ TT k=>fL (fL (TT ((k-2)/2)) (uZ ((k-1)/2)) (gG (k%2) 1)) v (gG k 0)) t
def dw.set (v:Option α)(fuel:Nat):Nat->dw α->dw α :=
 Nat.rec (motive:=λ_=>Nat->dw α->dw α) (λ_ t=>t) (λ_ aD k t=>dw.rec (motive:=λ_=>dw α)
  (fL (fL (.n .e none (aD ((k-2)/2) .e)) (.n (aD ((k-1)/2) .e) none .e) (gG (k%2) 1)) (.n .e v .e) (gG k 0))
  (λl w r _ _=>fL (fL (.n l w (aD ((k-2)/2) r)) (.n (aD ((k-1)/2) l) w r) (gG (k%2) 1)) (.n l v r) (gG k 0)) t) fuel
def dw.apv (k:Nat):(dw.e:dw α).get k=none:=rfl
def dw.wS (l:dw α)(v:Option α)(r:dw α)(k:Nat):(dw.n l v r).get k=if k=0 then v else if k%2=1 then l.get ((k-1)/2) else r.get ((k-2)/2):=by
 show (fL (fL (r.get ((k-2)/2)) (l.get ((k-1)/2)) (gG (k%2) 1)) v (gG k 0):Option α)=_
 by_cases h:k=0
 ·subst h;rfl
 ·have E:gG k 0=false:=by cases k with|zero=>exact absurd rfl h|succ k=>rfl
  rw[E,ar h]
  by_cases G:k%2=1
  ·rw[G,aq rfl];rfl
  ·have ab:k%2=0:=by omega
   rw[ab,ar (by omega)];rfl
def dw.apw (v:Option α)(n k:Nat)(t:dw α):dw.set v (n+1) k t=(match t with
  |.e=>if k=0 then .n .e v .e else if k%2=1 then .n (dw.set v n ((k-1)/2) .e) none .e else .n .e none (dw.set v n ((k-2)/2) .e)
  |.n l w r=>if k=0 then .n l v r else if k%2=1 then .n (dw.set v n ((k-1)/2) l) w r else .n l w (dw.set v n ((k-2)/2) r)):=by
 have U:∀{β:Type} (a b c:β),(fL (fL a b (gG (k%2) 1)) c (gG k 0):β)=if k=0 then c else if k%2=1 then b else a:=by
  intro β a b c
  by_cases h:k=0
  ·subst h;rfl
  ·have E:gG k 0=false:=by cases k with|zero=>exact absurd rfl h|succ k=>rfl
   rw[E,ar h]
   by_cases G:k%2=1
   ·rw[G,aq rfl];rfl
   ·have ab:k%2=0:=by omega
    rw[ab,ar (by omega)];rfl
 cases t with
 |e=>exact U _ _ _
 |n l w r=>exact U _ _ _
def dw.E2 (v:Option α):∀(fuel k:Nat) (t:dw α) (j:Nat),k+1<2^fuel->(dw.set v fuel k t).get j=if j=k then v else t.get j
 |0,k,t,j,h=>by simp at h
 |m+1,k,t,j,h=>by
  have aF:2^(m+1)=2*2^m:=by rw[Nat.pow_succ];omega
  rw[dw.apw]
  cases t with
  |e =>
   simp only
   split
   ·rename_i O;subst O;rw[dw.wS]
    split
    ·rfl
    ·split<;>simp[dw.apv]
   ·rename_i O
    split
    ·rename_i E;rw[dw.wS,dw.E2 v m _ _ _ (by omega)]
     by_cases aa:j=0
     ·rw[aq aa,ar (by omega)];rfl
     ·rw[ar aa]
      by_cases m6:j%2=1
      ·rw[aq m6]
       by_cases bL:j=k
       ·rw[aq (by omega),aq bL]
       ·rw[ar (by omega),ar bL];rfl
      ·rw[ar m6,ar (by omega)];rfl
    ·rename_i E;rw[dw.wS,dw.E2 v m _ _ _ (by omega)]
     by_cases aa:j=0
     ·rw[aq aa,ar (by omega)];rfl
     ·rw[ar aa]
      by_cases m6:j%2=1
      ·rw[aq m6,ar (by omega)];rfl
      ·rw[ar m6]
       by_cases bL:j=k
       ·rw[aq (by omega),aq bL]
       ·rw[ar (by omega),ar bL];rfl
  |n l w r =>
   simp only
   split
   ·rename_i O;subst O;rw[dw.wS,dw.wS]
    split<;>simp_all
   ·rename_i O
    split
    ·rename_i E;rw[dw.wS,dw.wS,dw.E2 v m _ _ _ (by omega)]
     by_cases aa:j=0
     ·rw[aq aa,ar (by omega),aq aa]
     ·rw[ar aa,ar aa]
      by_cases m6:j%2=1
      ·rw[aq m6,aq m6]
       by_cases bL:j=k
       ·rw[aq (by omega),aq bL]
       ·rw[ar (by omega),ar bL]
      ·rw[ar m6,ar (by omega),ar m6]
    ·rename_i E;rw[dw.wS,dw.wS,dw.E2 v m _ _ _ (by omega)]
     by_cases aa:j=0
     ·rw[aq aa,ar (by omega),aq aa]
     ·rw[ar aa,ar aa]
      by_cases m6:j%2=1
      ·rw[aq m6,ar (by omega),aq m6]
      ·rw[ar m6,ar m6]
       by_cases bL:j=k
       ·rw[aq (by omega),aq bL]
       ·rw[ar (by omega),ar bL]
abbrev eW:=dw I
abbrev eB:=dw (Nat×List I)
def cA (t:eW):Nat->I:=λk=>kj I.no (λv=>v) (t.get k)
def b3 (m:eB):Mem:=λk=>m.get k
def wT (k:Nat)(v:I)(t:eW):eW:=dw.set (some v) 20 k t
def NK (k:Nat)(g:Nat)(cs:List I)(m:eB):eB:=dw.set (some (g,cs)) 40 k m
def TU {k:Nat}(h:k<1000000)(v:I)(t:eW):cA (wT k v t)=er (cA t) k v:=by
 funext j
 unfold cA wT;rw[dw.E2 _ _ _ _ _ (by omega)];simp only[er]
 split<;>rfl
def acT {k:Nat}(h:k<1000000000000)(g:Nat)(cs:List I)(m:eB):b3 (NK k g cs m)=aR (b3 m) k g cs:=by
 funext j
 unfold b3 NK;rw[dw.E2 _ _ _ _ _ (by omega)]
 rfl
end Go.Mini
namespace Go.Mini
open Go
def e2 (kb:Nat):fh->fh
 |.alloc k z => .alloc (kb+k) z
 |.box k x => .box (kb+k) x
 |.ed k o z sz len cD => .ed (kb+k) o z sz len cD
 |.lb k z b x y => .lb (kb+k) z b x y
 |.app k z b s x => .app (kb+k) z b s x
 |.kJ k sz f l => .kJ (kb+k) sz f l
 |.vv k => .vv (kb+k)
 |op=>op
variable {P:Program} {own:List Nat} {dst:Option Nat} {ty:TypeId}
def apx (kb:Nat){GV:BinOp}{t:TypeId}{x y:Operand}{m:fh}(h:sH P GV t x y=some m):e2 kb m=m:=by
 unfold sH sG at h
 (repeat' split at h)<;>simp_all [cJ]
 all_goals first
  |(obtain⟨_,_,rfl⟩:=h;rfl)
  |(subst h;rfl)
def apy (kb:Nat){c:Call}:rj P kb own dst ty c=(rj P 0 own dst ty c).map (e2 kb):=by
 unfold rj
 (repeat' split)<;>simp[NL,Function.comp_def,acU,e2,apply_ite (acV (e2 kb))]
def apz (kb:Nat){op:Op}:gk P kb own dst ty op=(gk P 0 own dst ty op).map (e2 kb):=by
 cases op
 case binOp GV t x y z =>
  simp only[gk]
  cases h:sH P GV t x y with
  |none=>rfl
  |some m=>simp[apx kb h]
 case call c=>exact apy kb
 case makeFunc fn a b =>
  cases fn<;>simp only[gk]<;>try rfl
  split<;>simp[NL,Function.comp_def,e2]
 case makeMap t r =>
  cases r<;>simp only[gk]<;>try rfl
  (repeat' split)<;>simp[NL,Function.comp_def,e2]
 all_goals
  simp only[gk]
  try rfl
  try ((repeat' split)<;>simp[NL,Function.comp_def,acU,e2,apply_ite (acV (e2 kb))])
end Go.Mini
namespace Go.Mini
open Go
inductive X where
 |k3
 |oi (i:Nat)
 |ret
 |gH (v:I)
inductive ca where
 |no
 |ok (x:X) (t:eW) (m:eB) (c:Nat) (d:Option I)
inductive W (α:Type) where
 |mk (f:α)
def W.ap {α:Type}(w:W α):α:=W.rec (motive:=λ_=>α) (λf=>f) w
def nG {α:Type}(f:α):W.ap (.mk f)=f:=rfl
inductive iG where
 |no
 |ok (v:I) (m:eB) (c:Nat)
 |gH (v:I) (m:eB) (c:Nat)
abbrev iX:=FuncId->List I->eB->Nat->iG
abbrev yv:=eW->eB->Nat->Option I->ca
abbrev E3:=iX->Nat->eW->eB->Nat->Option I->yv->ca
def iY:bg->W (eW->I)
 |.t k => .mk λt=>kj I.no (λv=>v) (t.get k)
 |.c m => .mk λ_=>m
def nH (x:bg)(t:eW):W.ap (iY x) t=aI (cA t) x:=by cases x<;>rfl
def apA (l:List bg)(t:eW):(l.map λx=>W.ap (iY x) t)=l.map (aI (cA t)):=List.map_congr_left λx _=>nH x t
def hW (d:Option Nat)(t:eW)(v:I):eW:=kj t (λk=>wT k v t) d
def z3 {d:Option Nat}{n:Nat}(aE:n<=1000000)(h:d.all (λd=>decide (d<n))=true)(t:eW)(v:I):cA (hW d t v)=put (cA t) d v:=by
 cases d with
 |none=>rfl
 |some k =>
  simp only[Option.all_some,decide_eq_true_eq] at h;exact TU (by omega) v t
def B2 (d:Option Nat)(m:Option I)(t:eW)(K:eW->ca):ca:=kj ca.no (λv=>K (hW d t v)) m
def B3 (dst:Option Nat)(run:iX)(f:FuncId)(l:List I)(t:eW)(m:eB)(c:Nat)(d:Option I)(K:yv):ca :=
 iG.rec ca.no (λv m c=>K (hW dst t v) m c d) (λv m c=>ca.ok (.gH v) t m c d) (run f l m c)
def Je (dst:Option Nat)(op:fh)(kb:Nat)(t:eW)(m:eB)(K:eW->eB->ca):ca :=
 match br (b3 m) (cA t) (e2 kb op) with
 |some (v,none)=>K (hW dst t v) m
 |some (v,some x)=>fL ca.no (K (hW dst t v) (NK x.1 x.2.1 x.2.2 m)) (z4 x.1 1000000000000)
 |none=>ca.no
def qT (dst:Option Nat)(op:fh):W E3 :=
 match op with
 |.hI x => .mk λ_ _ t m c d K=>K (hW dst t (W.ap (iY x) t)) m c d
 |.bin op x y => .mk λ_ _ t m c d K=>B2 dst (CV op (W.ap (iY x) t) (W.ap (iY y) t)) t λt=>K t m c d
 |.beq n x y => .mk λ_ _ t m c d K=>B2 dst (CW n (W.ap (iY x) t) (W.ap (iY y) t)) t λt=>K t m c d
 |.load n bC x => .mk λ_ _ t m c d K=>B2 dst (ic (b3 m) n bC (W.ap (iY x) t)) t λt=>K t m c d
 |.w8 o n bC x => .mk λ_ _ t m c d K=>B2 dst (CZ o n bC (W.ap (iY x) t)) t λt=>K t m c d
 |.sx o x => .mk λ_ _ t m c d K=>B2 dst (CY o (W.ap (iY x) t)) t λt=>K t m c d
 |.call f l => .mk λrun _ t m c d K=>B3 dst run f (l.map λx=>W.ap (iY x) t) t m c d K
 |.jc f l => .mk λrun _ t m c d K=>match W.ap (iY f) t with
  |.dB g cU=>B3 dst run g ((l.map λx=>W.ap (iY x) t)++cU) t m c d K
  |.M (.fn g ds)=>B3 dst run g ((l.map λx=>W.ap (iY x) t)++ds.map .M) t m c d K
  |_=>ca.no
 |.kH neg x => .mk λ_ _ t m c d K=>match xc (W.ap (iY x) t) with
  |some true=>K (hW dst t (.M (.bool neg))) m c d
  |_=>ca.no
 |op => .mk λ_ kb t m c d K=>Je dst op kb t m λt m=>K t m c d
def TV (dst:Option Nat)(op:fh)(kb:Nat)(t:eW)(m:eB)(r:ca)(K:eW->eB->ca):Prop :=
 r=ca.no\/∃v e m',br (b3 m) (cA t) (e2 kb op)=some (v,e)/\b3 m'=fB (b3 m) e/\r=K (hW dst t v) m'
def Jf {dst:Option Nat}{op:fh}{kb:Nat}{t:eW}{m:eB}{K:eW->eB->ca}{x:Option I}(h:br (b3 m) (cA t) (e2 kb op)=hJ x):TV dst op kb t m (B2 dst x t λt=>K t m) K:=by
 cases x with
 |none=>exact .inl rfl
 |some v=>exact .inr ⟨v,none,m,h,rfl,rfl⟩
def acW {dst:Option Nat}{op:fh}{kb:Nat}{t:eW}{m:eB}{K:eW->eB->ca}:TV dst op kb t m (Je dst op kb t m K) K:=by
 unfold Je
 split
 ·rename_i v h;exact .inr ⟨v,none,m,h,rfl,rfl⟩
 ·rename_i v x h
  cases U:z4 x.1 1000000000000 with
  |false=>exact .inl rfl
  |true =>
   obtain⟨k,g,cs⟩:=x;refine .inr ⟨v,_,_,h,acT ?_ g cs m,rfl⟩;exact of_decide_eq_true (by simpa [Nat.blt_eq] using U)
 ·exact .inl rfl
inductive apB (dst:Option Nat) (op:fh) (run:iX) (kb:Nat) (t:eW) (m:eB) (c:Nat) (d:Option I) (r:ca) (K:yv):Prop
 |no (h:r=ca.no)
 |br (h:TV dst op kb t m r λt m=>K t m c d)
 |call (f:FuncId) (l:List bg) (a0:op=.call f l) (h:r=B3 dst run f (l.map (aI (cA t))) t m c d K)
 |jc (f:bg) (l:List bg) (g:FuncId) (cU:List I) (a0:op=.jc f l) (ag:aI (cA t) f=.dB g cU\/∃ds,aI (cA t) f=.M (.fn g ds)/\cU=ds.map .M) (h:r=B3 dst run g (l.map (aI (cA t))++cU) t m c d K)
 |kH (neg:Bool) (x:bg) (a0:op=.kH neg x) (ag:xc (aI (cA t) x)=some true) (h:r=K (hW dst t (.M (.bool neg))) m c d)
def apC {dst:Option Nat}{op:fh}{run:iX}{kb:Nat}{t:eW}{m:eB}{c:Nat}{d:Option I}{K:yv}:apB dst op run kb t m c d (W.ap (qT dst op) run kb t m c d K) K:=by
 cases op
 case hI x=>exact .br (.inr ⟨_,none,m,rfl,rfl,by simp only[qT,nG,nH]⟩)
 case bin o x y=>exact .br (by simp only[qT,nG,nH];exact Jf (K:=λt m=>K t m c d) rfl)
 case beq o x y=>exact .br (by simp only[qT,nG,nH];exact Jf (K:=λt m=>K t m c d) rfl)
 case load n bC x=>exact .br (by simp only[qT,nG,nH];exact Jf (K:=λt m=>K t m c d) rfl)
 case w8 o n bC x=>exact .br (by simp only[qT,nG,nH];exact Jf (K:=λt m=>K t m c d) rfl)
 case sx o x=>exact .br (by simp only[qT,nG,nH];exact Jf (K:=λt m=>K t m c d) rfl)
 case call f l=>exact .call f l rfl (by simp only[qT,nG,nH])
 case jc f l =>
  simp only[qT,nG,nH]
  split
  ·rename_i g cU ag;exact .jc f l g cU rfl (.inl ag) rfl
  ·rename_i g ds ag;exact .jc f l g _ rfl (.inr ⟨ds,ag,rfl⟩) rfl
  ·exact .no rfl
 case kH neg x =>
  simp only[qT,nG,nH]
  split
  ·rename_i ag;exact .kH neg x rfl ag rfl
  ·exact .no rfl
 all_goals exact .br (acW (K:=λt m=>K t m c d))
end Go.Mini
namespace Go.Mini
open Go
def sb (P:Program)(run:iX):Prop:=∀f args m c,match run f args m c with
 |.no=>True
 |.ok v m' _=>Real P f/\∀A w B vs,dj A w B (b3 m)->ck w (bb A B) B args vs->Calls P f vs.toArray w λe aj=>∃u aB,e=.returned u/\cT A w B aj aB (b3 m')/\aN aj (bb A aB) aB v u
 |.gH v m' _=>Real P f/\∀A w B vs,dj A w B (b3 m)->ck w (bb A B) B args vs->Calls P f vs.toArray w λe aj=>∃u aB,e=.panicked [{ v:=u,recovered:=false }]/\cT A w B aj aB (b3 m')/\aN aj (bb A aB) aB v u
def apD (o:Oper):List Nat:=match o.op with
 |.buildSlice ..=>o.dst.toList
 |_=>[]
def TW (y:bg)(t:eW)(m:eB)(c:Nat)(d:Option I):ca:=match W.ap (iY y) t with
 |.M (.nh ty v)=>ca.ok (.gH (.M (.nh ty v))) t m c d
 |_=>ca.no
def TX (y:bg)(t:eW)(m:eB)(c:Nat)(d:Option I)(K:yv):ca:=match d,W.ap (iY y) t with
 |none,.dB f cU=>K t m c (some (.dB f cU))
 |_,_=>ca.no
def acX:W E3:=.mk λ_ _ _ _ _ _ _=>ca.no
def acY (i:bh):W E3:=match i.g with
 |none=>qT i.dst i.op
 |some (s,b) => .mk λrun kb t m c d K=>match cA t s with
  |.M (.bool q)=>fL (K (hW i.dst t .no) m c d) (W.ap (qT i.dst i.op) run kb t m c d K) (q==b)
  |.no=>K (hW i.dst t .no) m c d
  |_=>ca.no
def acZ (o:Oper):Option bg:=match o.op with
 |.defer { callee:=.value f,args:=⟨[]⟩,.. }=>if o.dst.isNone=true/\o.guard.isNone=true then cu f else none
 |_=>none
def ac0 (o:Oper):Option bg:=match o.op with
 |.panic x=>if o.guard.isNone=true then cu x else none
 |_=>none
def ac1 (P:Program)(o:Oper):Option I:=match o.op with
 |.load ty (.global g)=>match KN g,e9 P ty,sE P ty with
  |some l,some n,some true=>if (D l)=n/\o.guard.isNone=true then some (.agg (l.map λs => .M (.str s))) else none
  |_,_,_=>none
 |_=>none
def NM (P:Program)(n:Nat)(ops:Array Oper)(o:Oper):W E3 :=
 match mG P n 0 (apD o) ops o with
 |none=>acX
 |some i=>match i.op with
  |.bad=>match ac0 o with
   |some y => .mk λ_ _ t m c d _=>TW y t m c d
   |none=>match acZ o with
    |some y => .mk λ_ _ t m c d K=>TX y t m c d K
    |none=>match ac1 P o with
     |some v => .mk λ_ _ t m c d K=>K (hW o.dst t v) m c d
     |none=>acX
  |_=>acY i
variable {P:Program} {A:Nat->Prop} {b5 w:World} {c4 B:cB} {n kb:Nat} {ops:Array Oper} {o:Oper} {run:iX} {t:eW} {m:eB} {c:Nat} {d:Option I}
def TY (P:Program)(ops:Array Oper)(o:Oper)(next:Act->World->Prop)(al:Exit->Act->World->Prop)(a:Act)(w:World):Prop :=
 (Region.wanted o (yielded ops a.tmps)=true/\o.wp P a w next al)\/(Region.wanted o (yielded ops a.tmps)=false/\next (a.put o.dst undef) w)
def toQ (A:Nat->Prop)(al:Exit->Act->World->Prop):X->Act->World->cB->Prop
 |.k3,a,w,_=>al .normal a w
 |.oi i,a,w,_=>al (.exit i) a w
 |.ret,a,w,_=>al .ret a w
 |.gH v,a,w,B=>∀u,aN w (bb A B) B v u->al (.panic [{ v:=u,recovered:=false }]) a w
def gi (kb:Nat)(i:bh):bh:=⟨i.dst,i.g,e2 kb i.op⟩
def ac2 {own:List Nat}{i:bh}(h:mG P n 0 own ops o=some i):mG P n kb own ops o=some (gi kb i):=by
 unfold mG at *
 split at h
 ·rename_i g aC
  split at h
  ·rename_i av;simp only[bF] at h;subst h;simp only[aq av,gi,bF,bh.mk.injEq,true_and];rw[apz kb]
   cases gk P 0 own o.dst o.type o.op<;>rfl
  ·cases h
 ·cases h
def ac3 {a:Act}{f:FuncId}{l:List I}{vs:List Value}{K:yv}{r:ca}{next:Act->World->Prop}{al:Exit->Act->World->Prop}(dY:sb P run)(aE:n<=1000000)(Q:r=B3 o.dst run f l t m c d K)(a6:r ≠ .no)
  (R:dq d n A b5 c4 a ⟨cA t,b3 m⟩ w B) (av:o.dst.all (λd=>decide (d<n))=true) (ai:ck w (bb A B) B l vs) (ac4:Real P f->(execOp a.eval o).run P w=.ok (.enter f vs.toArray) w)
  (et:∀t1 aU cH d1 cl aj aB,r=K t1 aU cH d1->dq d1 n A b5 c4 cl ⟨cA t1,b3 aU⟩ aj aB->next cl aj)
  (db:∀x t1 aU cH d1 cl aj aB,r=ca.ok (.gH x) t1 aU cH d1->dq d1 n A b5 c4 cl ⟨cA t1,b3 aU⟩ aj aB->toQ A al (.gH x) cl aj aB):o.wp P a w next al:=by
 have h:=dY f l m c;unfold B3 at Q;unfold Oper.wp
 cases dK:run f l m c with
 |no=>rw[dK] at Q;exact absurd Q a6
 |ok v m' c' =>
  rw[dK] at h Q;obtain⟨fO,Z⟩:=h;rw[ac4 fO];refine Calls.mono (Z A w B vs R.ok.b4 ai) λe aj he=>?_;obtain⟨u,aB,rfl,c6,iz⟩:=he;refine et (hW o.dst t v) m' c' d _ aj aB Q ?_;rw[z3 aE av];exact R.put c6 iz av
 |gH v m' c' =>
  rw[dK] at h Q;obtain⟨fO,Z⟩:=h;rw[ac4 fO];refine Calls.mono (Z A w B vs R.ok.b4 ai) λe aj he=>?_;obtain⟨u,aB,rfl,c6,iz⟩:=he;exact db v t m' c' d a aj aB Q (R.put (dst:=none) c6 iz rfl) u iz
def ac5 {own:List Nat}{a:Act}{i:bh}{K:yv}{r:ca}{next:Act->World->Prop}{al:Exit->Act->World->Prop}(dY:sb P run)(aE:n<=1000000)(L:Dn P n kb own ops o (gi kb i))(Q:r=W.ap (qT i.dst i.op) run kb t m c d K)(a6:r ≠ .no)
  (R:dq d n A b5 c4 a ⟨cA t,b3 m⟩ w B)
  (et:∀t1 aU cH d1 cl aj aB,r=K t1 aU cH d1->dq d1 n A b5 c4 cl ⟨cA t1,b3 aU⟩ aj aB->next cl aj)
  (db:∀x t1 aU cH d1 cl aj aB,r=ca.ok (.gH x) t1 aU cH d1->dq d1 n A b5 c4 cl ⟨cA t1,b3 aU⟩ aj aB->toQ A al (.gH x) cl aj aB):o.wp P a w next al:=by
 have ev:=L.op;have tz:i.dst=o.dst:=L.dst;have av:=L.lt;simp only[gi] at ev;have cY:=apC (dst:=i.dst) (op:=i.op) (run:=run) (kb:=kb) (t:=t) (m:=m) (c:=c) (d:=d) (K:=K);rw[<-Q] at cY
 cases cY with
 |no h=>exact absurd h a6
 |br h =>
  rcases h with h|⟨v,e,m',He,uo,apE⟩
  ·exact absurd h a6
  ·have aA:gk P kb own o.dst o.type o.op=some (e2 kb i.op):=getD_some ev (by
    intro U;rw[U] at He
    cases He)
   obtain⟨y7,u,aj,aB,hex,lh,c6,ai⟩:=Ql R.ok.b4 R.jy (λ_=>rfl) aA He;unfold Oper.wp;rw[hex];have xu:=R.put c6 ai av;have:=et _ _ _ _ (a.put o.dst u) aj aB apE (by rw[tz,z3 aE av,uo];exact xu);rcases lh with rfl|⟨rfl,rfl⟩
   ·exact this
   ·exact this
 |call f l a0 h =>
  rw[a0] at ev;have aA:=getD_some ev (by simp[e2]);obtain⟨Jg,Z,hh,iB⟩:=GY aA;refine ac3 dY aE (by rw[<-tz];exact h) a6 R av (pJ R.jy iB) (λfO=>vR Z hh fO) et db
 |jc f l g cU a0 ag h =>
  rw[a0] at ev;have aA:=getD_some ev (by simp[e2]);obtain⟨Jg,x,Z,hh,J,iB⟩:=Qq aA;obtain⟨cs,hu,b0⟩:=G0 (R.jy _ _ J) ag;refine ac3 dY aE (by rw[<-tz];exact h) a6 R av ((pJ R.jy iB).append b0) (λfO=>?_) et db;obtain⟨dst,op,type,pos,after,guard⟩:=o;simp only at Z;subst Z;obtain⟨callee,ru,y8⟩:=Jg;simp only at hh;subst hh;simp only[execOp,resolve,hu,Deferred.ofValue,invoke,Sem.run_bind,Sem.run_pure,Result.andThen_ok,AQ fO];rw[vK ru];simp
 |kH neg x a0 ag h =>
  rw[a0] at ev;have aA:=getD_some ev (by simp[e2]);obtain⟨ty,e,y,y',z,Z,mQ,bx,af⟩:=XK aA
  have G1:a.eval y' = .slice none 0 0:=by
   unfold K8 at mQ
   split at mQ
   ·rfl
   ·cases mQ
  obtain⟨b,U,hex⟩:=XL (y:=y) (y':=y') neg bx (R.jy _ _ af) ag G1;have g3:=U rfl;subst g3
  have xu:dq d n A b5 c4 (a.put o.dst (.bool (neg != false))) ⟨cA (hW i.dst t (.M (.bool neg))),b3 m⟩ w B:=by
   rw[tz,z3 aE av];have:(neg != false)=neg:=by cases neg<;>rfl
   rw[this];exact R.put (.refl R.ok.b4) (.M .bool) av
  have:=et _ _ _ _ _ w B h xu;obtain⟨dst,op,type,pos,after,guard⟩:=o;simp only at Z;subst Z;unfold Oper.wp
  have J:(execOp a.eval ⟨dst,.binOp (if neg then .neq else .eql) ty y y' z,type,pos,after,guard⟩).run P w=.ok (.value (.bool (neg != false))) w:=by
   simp only[execOp];rw[Sem.run_bind,hex]
   rfl
  rw[J];exact this
def apF {a:Act}{K:yv}{r:ca}{next:Act->World->Prop}{al:Exit->Act->World->Prop}(dY:sb P run)(aE:n<=1000000)(Q:r=W.ap (NM P n ops o) run kb t m c d K)(a6:r ≠ .no)
  (R:dq d n A b5 c4 a ⟨cA t,b3 m⟩ w B)
  (et:∀t1 aU cH d1 cl aj aB,r=K t1 aU cH d1->dq d1 n A b5 c4 cl ⟨cA t1,b3 aU⟩ aj aB->next cl aj)
  (db:∀x t1 aU cH d1 cl aj aB,r=ca.ok (.gH x) t1 aU cH d1->dq d1 n A b5 c4 cl ⟨cA t1,b3 aU⟩ aj aB->toQ A al (.gH x) cl aj aB):TY P ops o next al a w:=by
 unfold NM at Q
 split at Q
 ·exact absurd Q a6
 ·rename_i i aA;have L:=GZ (ac2 (kb:=kb) aA)
  split at Q
  ·split at Q
   ·rename_i y af;unfold ac0 at af
    split at af
    ·rename_i x J
     split at af
     ·rename_i aC
      have hw:Region.wanted o (yielded ops a.tmps)=true:=by
       unfold Region.wanted;rw[NN.1 aC]
      refine .inl ⟨hw,?_⟩;have c2:r=TW y t m c d:=Q;unfold TW at c2;rw[nH] at c2
      split at c2
      ·rename_i ty v mO;have ai:=R.jy x y af;rw[mO] at ai;have j8:=ai;generalize a.eval x=u at ai j8;unfold Oper.wp
       have qv:(execOp a.eval o).run P w=.halt (.panic (a.eval x)) w:=by
        have mK:=R.jy x y af;rw[mO] at mK
        have lY:∃u,a.eval x=.iface ty u:=by
         generalize a.eval x=u at mK
         cases mK with
         |M mK=>cases mK with
          |nh h=>exact⟨_,rfl⟩
        obtain⟨u,hu⟩:=lY;simp only[execOp,J,hu,Sem.run_bind]
        rfl
       rw[qv];refine db _ t m c d a w B c2 R (a.eval x) ?_;have mK:=R.jy x y af;rw[mO] at mK;exact mK
      ·exact absurd c2 a6
     ·cases af
    ·cases af
   ·split at Q
    ·rename_i y af;unfold acZ at af
     split at af
     ·rename_i f y8 J
      split at af
      ·rename_i aC
       have hw:Region.wanted o (yielded ops a.tmps)=true:=by
        unfold Region.wanted;rw[NN.1 aC.2]
       refine .inl ⟨hw,?_⟩;have c2:r=TX y t m c d K:=Q;unfold TX at c2;rw[nH] at c2
       split at c2
       ·rename_i g cU mO;have ai:=R.jy f y af;rw[mO] at ai;obtain⟨cs,hu,b0⟩:=G0 ai (.inl rfl);rw[hu] at ai;unfold Oper.wp
        have qv:(execOp a.eval o).run P w=.ok (.defer { target:=.fn (.func g) cs.toArray,args:=#[] }) w:=by
         simp only[execOp,J,resolve,hu,Deferred.ofValue,Sem.run_bind,Sem.run_pure,Result.andThen_ok];simp
        rw[qv];have jY:o.dst=none:=NN.1 aC.1;refine et t m c (some (.dB g cU)) _ w B c2 ?_;rw[jY];refine⟨R.ok,R.tm,R.sz,⟨g,cU,cs.toArray,rfl,?_,ai⟩⟩;have:=R.vM;simp only[GX] at this;show _::a.defers=_;rw[this]
       ·exact absurd c2 a6
      ·cases af
     ·cases af
    ·split at Q
     ·rename_i v ai;have c2:r=K (hW o.dst t v) m c d:=Q;unfold ac1 at ai
      split at ai
      ·rename_i ty g J
       split at ai
       ·rename_i l jF jk dz tX
        split at ai
        ·rename_i Z;obtain⟨ad,aC⟩:=Z;simp only[bF] at ai
         have hw:Region.wanted o (yielded ops a.tmps)=true:=by
          unfold Region.wanted;rw[NN.1 aC]
         refine .inl ⟨hw,?_⟩;obtain⟨T,cn⟩:=R.ok.b4.gl g l jk
         have b0:ck w (bb A B) B (l.map λs => .M (.str s)) (yQ l):=⟨by simp[yQ],λi x u E G=>by
          unfold yQ at G;rw[bD,cJ] at E G;obtain⟨s,ab,rfl⟩:=E;obtain⟨xq,aM,rfl⟩:=G;rw[ab] at aM
          cases aM;exact .M .str⟩
         have fX:=lR.row cn;simp only at fX;obtain⟨u,E,G⟩:=PY (P:=P) (r:=v) dz tX (by simp[ad]) b0 fX (by rw[<-ai];rfl);unfold Oper.wp
         have qv:(execOp a.eval o).run P w=.ok (.value u) w:=by
          have ab:(Instr.loadAt ty (a.eval (.global g))).run P w=.ok u w:=by
           simpa [Instr.loadAt,Instr.sureAddr,Act.eval] using E
          simp only[execOp,J,Sem.run_bind,ab]
          rfl
         rw[qv];refine et _ _ _ _ _ w B c2 ?_;rw[z3 aE L.lt];exact R.put (.refl R.ok.b4) G L.lt
        ·cases ai
       ·cases ai
      ·cases ai
     ·exact absurd Q a6
  ·unfold acY at Q
   split at Q
   ·rename_i aC;have hw:Region.wanted o (yielded ops a.tmps)=true:=y6 R L.guard (by simp only[gi,aC];rfl);exact .inl ⟨hw,ac5 dY aE L Q a6 R et db⟩
   ·rename_i s b aC
    have c2:r=(match cA t s with
     |.M (.bool q)=>fL (K (hW i.dst t .no) m c d) (W.ap (qT i.dst i.op) run kb t m c d K) (q==b)
     |.no=>K (hW i.dst t .no) m c d
     |_=>ca.no):=Q
    have IV:r=K (hW i.dst t .no) m c d->gy (cA t) i.g=some false->TY P ops o next al a w:=λE G=>by
     refine .inr ⟨y6 R L.guard G,et _ _ _ _ _ w B E ?_⟩;have tz:i.dst=o.dst:=L.dst;rw[tz,z3 aE L.lt];exact R.put (.refl R.ok.b4) .no L.lt
    split at c2
    ·rename_i q aL
     cases wv:(q==b) with
     |false =>
      rw[wv] at c2;exact IV c2 (by rw[aC];simp only[gy,aL,wv])
     |true =>
      rw[wv] at c2;have hw:Region.wanted o (yielded ops a.tmps)=true:=y6 R L.guard (by simp only[gi,aC,gy,aL,wv]);exact .inl ⟨hw,ac5 dY aE L c2 a6 R et db⟩
    ·rename_i aL;exact IV c2 (by rw[aC];simp only[gy,aL])
    ·exact absurd c2 a6
def E4 (P:Program)(n:Nat)(ops:Array Oper)(l:List Oper):W E3 :=
 List.rec (motive:=λ_=>W E3) (.mk λ_ _ t m c d K=>K t m c d) (λo _ uZ => .mk λrun kb t m c d K=>W.ap (NM P n ops o) run kb t m c d λt m c d=>W.ap uZ run kb t m c d K) l
def NO (P:Program)(ops:Array Oper)(al:Exit->Act->World->Prop):List Oper->Act->World->Prop
 | [],a,w=>al .normal a w
 |o::l,a,w=>TY P ops o (NO P ops al l) al a w
def TZ {al:Exit->Act->World->Prop}(dY:sb P run)(aE:n<=1000000){K:yv}{r:ca}(a6:r ≠ .no)(et:∀t1 aU cH d1 cl aj aB,r=K t1 aU cH d1->dq d1 n A b5 c4 cl ⟨cA t1,b3 aU⟩ aj aB->al .normal cl aj)
  (db:∀x t1 aU cH d1 cl aj aB,r=ca.ok (.gH x) t1 aU cH d1->dq d1 n A b5 c4 cl ⟨cA t1,b3 aU⟩ aj aB->toQ A al (.gH x) cl aj aB):∀(l:List Oper) (t:eW) (m:eB) (c:Nat) (d:Option I) (a:Act) (w:World) (B:cB),r=W.ap (E4 P n ops l) run kb t m c d K ->
  dq d n A b5 c4 a ⟨cA t,b3 m⟩ w B->NO P ops al l a w
 | [],t,m,c,d,a,w,B,Q,R=>et t m c d a w B Q R
 |o::l,t,m,c,d,a,w,B,Q,R=>by
  have c2:r=W.ap (NM P n ops o) run kb t m c d λt m c d=>W.ap (E4 P n ops l) run kb t m c d K:=Q;exact apF dY aE c2 a6 R (λt1 aU cH d1 cl aj aB E G=>TZ dY aE a6 et db l t1 aU cH d1 cl aj aB E G) db
def T0 {al:Exit->Act->World->Prop}:∀(l:List Oper) (j:Nat) (a:Act) (w:World),ops.toList.drop j=l->NO P ops al l a w->wpOps P ops al (Jh j (D l)) a w
 | [],j,a,w,_,h=>h
 |o::l,j,a,w,ad,h=>by
  have a0:ops[j]?=some o:=by
   have:(ops.toList.drop j)[0]?=some o:=by rw[ad];rfl
   simpa using this
  have sI:ops.toList.drop (j+1)=l:=by rw[<-xy,ad];rfl
  simp only[jt,ac6,wpOps,a0];rcases h with ⟨E,G⟩|⟨E,G⟩
  ·rw[aq E];exact .inl (Oper.wp_mono (λa w h=>T0 l (j+1) a w sI h) G)
  ·rw[ar (by simp[E])];exact T0 l (j+1) _ w sI G
def T1 {al:Exit->Act->List Frame->World->Prop}{cs:List Frame}:∀(l:List Oper) (j:Nat) (a:Act) (w:World),ops.toList.drop j=l->NO P ops (λe a w=>al e a cs w) l a w->wpOpsS P ops al (Jh j (D l)) a cs w
 | [],j,a,w,_,h=>h
 |o::l,j,a,w,ad,h=>by
  have a0:ops[j]?=some o:=by
   have:(ops.toList.drop j)[0]?=some o:=by rw[ad];rfl
   simpa using this
  have sI:ops.toList.drop (j+1)=l:=by rw[<-xy,ad];rfl
  simp only[jt,ac6,wpOpsS,a0];rcases h with ⟨E,G⟩|⟨E,G⟩
  ·rw[aq E];have ab:=Oper.wp_mono (λa w h=>T1 l (j+1) a w sI h) G;unfold Oper.wp at ab
   split
   ·rename_i aj J;rw[J] at ab;exact ab.elim
   ·exact ab
  ·rw[ar (by simp[E])];exact T1 l (j+1) _ w sI G
end Go.Mini
namespace Go.Mini
open Go
mutual
def pa:Data->Data->Bool
 |.int k n,.int k' Ji=>decide (k=k')&&decide (n=Ji)
 |.bool b,.bool dt=>b==dt
 |.str s,.str xq=>decide (s=xq)
 |.ay es,.ay es'=>Jj es es'
 |.ptr cs,.ptr gx=>yw cs gx
 |.ql,.ql=>true
 |.fn f cs,.fn zV gx=>gG f zV&&yw cs gx
 |.q8,.q8=>true
 |.agg cs,.agg gx=>yw cs gx
 |.dc cs,.dc gx=>yw cs gx
 |.nh t d,.nh kl pK=>gG t kl&&pa d pK
 |.mE,.mE=>true
 |_,_=>false
termination_by structural x=>x
def yw:List Data->List Data->Bool
 | [],[]=>true
 |a::l,b::m=>pa a b&&yw l m
 |_,_=>false
termination_by structural x=>x
def Jj:List (List Data)->List (List Data)->Bool
 | [],[]=>true
 |a::l,b::m=>yw a b&&Jj l m
 |_,_=>false
termination_by structural x=>x
end
mutual
def T2:∀(a b:Data),pa a b=true->a=b
 |.int k n,b,h=>by cases b<;>simp_all [pa]
 |.bool x,b,h=>by cases b<;>simp_all [pa]
 |.str s,b,h=>by cases b<;>simp_all [pa]
 |.ay es,b,h=>by
  cases b<;>simp only[pa,dm] at h;rw[ac7 _ _ h]
 |.ptr cs,b,h=>by
  cases b<;>simp only[pa,dm] at h;rw[E5 _ _ h]
 |.ql,b,h=>by cases b<;>simp_all [pa]
 |.fn f cs,b,h=>by
  cases b<;>simp only[pa,dm,dp,T3] at h;rw[h.1,E5 _ _ h.2]
 |.q8,b,h=>by cases b<;>simp_all [pa]
 |.agg cs,b,h=>by
  cases b<;>simp only[pa,dm] at h;rw[E5 _ _ h]
 |.dc cs,b,h=>by
  cases b<;>simp only[pa,dm] at h;rw[E5 _ _ h]
 |.nh t d,b,h=>by
  cases b<;>simp only[pa,dm,dp,T3] at h;rw[h.1,T2 _ _ h.2]
 |.mE,b,h=>by cases b<;>simp_all [pa]
termination_by structural x=>x
def E5:∀(a b:List Data),yw a b=true->a=b
 | [],b,h=>by cases b<;>simp_all [yw]
 |x::l,b,h=>by
  cases b<;>simp only[yw,dm,dp] at h
  rw[T2 _ _ h.1,E5 _ _ h.2]
termination_by structural x=>x
def ac7:∀(a b:List (List Data)),Jj a b=true->a=b
 | [],b,h=>by cases b<;>simp_all [Jj]
 |x::l,b,h=>by
  cases b<;>simp only[Jj,dm,dp] at h;rw[E5 _ _ h.1,ac7 _ _ h.2]
termination_by structural x=>x
end
mutual
def sc:I->I->Bool
 |.M d,.M pK=>pa d pK
 |.nil,.nil=>true
 |.ref k g s o l,.ref k' cd xq xw lV=>gG k k'&&gG g cd&&gG s xq&&gG o xw&&gG l lV
 |.ptr k g o,.ptr k' cd xw=>gG k k'&&gG g cd&&gG o xw
 |.dB f cs,.dB zV gx=>gG f zV&&E6 cs gx
 |.agg cs,.agg gx=>E6 cs gx
 |.g1 k g,.g1 k' cd=>gG k k'&&gG g cd
 |_,_=>false
termination_by structural x=>x
def E6:List I->List I->Bool
 | [],[]=>true
 |a::l,b::m=>sc a b&&E6 l m
 |_,_=>false
termination_by structural x=>x
end
mutual
def ac8:∀(a b:I),sc a b=true->a=b
 |.M d,b,h=>by
  cases b<;>simp only[sc,dm] at h;rw[T2 _ _ h]
 |.nil,b,h=>by cases b<;>simp_all [sc]
 |.ref k g s o l,b,h=>by cases b<;>simp_all [sc]
 |.ptr k g o,b,h=>by cases b<;>simp_all [sc]
 |.dB f cs,b,h=>by
  cases b<;>simp only[sc,dm,dp,T3] at h;rw[h.1,T4 _ _ h.2]
 |.agg cs,b,h=>by
  cases b<;>simp only[sc,dm] at h;rw[T4 _ _ h]
 |.g1 k g,b,h=>by cases b<;>simp_all [sc]
 |.dc _,_,h=>by simp[sc] at h
 |.no,_,h=>by simp[sc] at h
 |.undef,_,h=>by simp[sc] at h
termination_by structural x=>x
def T4:∀(a b:List I),E6 a b=true->a=b
 | [],b,h=>by cases b<;>simp_all [E6]
 |x::l,b,h=>by
  cases b<;>simp only[E6,dm,dp] at h;rw[ac8 _ _ h.1,T4 _ _ h.2]
termination_by structural x=>x
end
mutual
def E7 (k:Key):I->Bool
 |.ref j _ _ _ _ => !(gG j k)
 |.ptr j _ _ => !(gG j k)
 |.g1 j _ => !(gG j k)
 |.dB _ cs=>oj k cs
 |.agg cs=>oj k cs
 |.dc cs=>oj k cs
 |_=>true
termination_by structural x=>x
def oj (k:Key):List I->Bool
 | []=>true
 |a::l=>E7 k a&&oj k l
termination_by structural x=>x
end
def NP {a b:Nat}(h:gG a b=false):a≠b:=λe=>by
 subst e;rw[Nat.beq_refl] at h
 cases h
def B4 {k:Key}:∀{cs:List I},oj k cs=true->∀m∈cs,E7 k m=true
 | [],_,m,hm=>by cases hm
 |a::l,h,m,hm=>by
  simp only[oj,dp] at h;simp only[hq] at hm;rcases hm with rfl|hm
  ·exact h.1
  ·exact B4 h.2 m hm
variable {P:Program} {A:Nat->Prop} {w aj:World} {B:cB} {mem C3:Mem} {k:Key} {g:Nat} {cs:List I}
def l5 (B:cB)(k:Key):cB:=λj=>if j=k then none else B j
def B5 (A:Nat->Prop)(e:gU)(b:Nat):Prop:=A b\/e.cW=some b
def T5 {e:gU}(O:B k=some e)(b:Nat):bb (B5 A e) (l5 B k) b↔bb A B b:=by
 constructor
 ·rintro (⟨j,e',aa,J⟩|a2|J)
  ·unfold l5 at aa
   split at aa
   ·cases aa
   ·exact .inl ⟨j,e',aa,J⟩
  ·exact .inr a2
  ·exact .inl ⟨k,e,O,J⟩
 ·rintro (⟨j,e',aa,J⟩|a2)
  ·by_cases bL:j=k
   ·subst bL;rw[O] at aa
    cases aa;exact .inr (.inr J)
   ·exact .inl ⟨j,e',by simp only[l5,ar bL];exact aa,J⟩
  ·exact .inr (.inl a2)
def aN.cut {ax gI:Nat->Prop}(eE:∀b,gI b->ax b){m:I}{v:Value}(h:aN w ax B m v)(ag:E7 k m=true):aN w gI (l5 B k) m v:=by
 induction h with
 |M h=>exact .M (h.less eE)
 |nil=>exact .nil
 |ref he aC ai =>
  simp only[E7,lF] at ag;have ag:=NP ag;exact .ref (by simp only[l5,ar ag];exact he) aC ai
 |ptr he aC ai =>
  simp only[E7,lF] at ag;have ag:=NP ag;exact .ptr (by simp only[l5,ar ag];exact he) aC ai
 |g1 he aC ai =>
  simp only[E7,lF] at ag;have ag:=NP ag;exact .g1 (by simp only[l5,ar ag];exact he) aC ai
 |dB ad ae aD=>exact .dB ad λi d v E G=>aD i d v E G (B4 ag d (dM E))
 |agg ad ae aD=>exact .agg ad λi d v E G=>aD i d v E G (B4 ag d (dM E))
 |dc ad ae aD=>exact .dc ad λi d v E G=>aD i d v E G (B4 ag d (dM E))
 |no=>exact .no
 |undef=>exact .undef
def aN.more {ax gI:Nat->Prop}{aB:cB}(eE:∀b,gI b->ax b)(ht:∀j e,B j=some e->aB j=some e){m:I}{v:Value}(h:aN w ax B m v):aN w gI aB m v:=by
 induction h with
 |M h=>exact .M (h.less eE)
 |nil=>exact .nil
 |ref he aC ai=>exact .ref (ht _ _ he) aC ai
 |ptr he aC ai=>exact .ptr (ht _ _ he) aC ai
 |g1 he aC ai=>exact .g1 (ht _ _ he) aC ai
 |dB ad ae aD=>exact .dB ad aD
 |agg ad ae aD=>exact .agg ad aD
 |dc ad ae aD=>exact .dc ad aD
 |no=>exact .no
 |undef=>exact .undef
def freeM (k:Key)(mem:Mem):Prop:=∀j g cs,mem j=some (g,cs)->oj k cs=true
def apG {e:gU}(h:dj A w B (aR mem k g cs))(O:B k=some e)(hm:mem k=none)(ag:freeM k mem):dj (B5 A e) w (l5 B k) mem:=by
 have eE:=T5 (A:=A) O;refine⟨λj aa=>?_,λj h1 aK az b E G ab aM=>?_,λb U ⟨j,e',aa,J⟩=>?_,λb U=>?_,h.gl,λb o U ⟨j,e',aa,J⟩=>?_,λj cd gx aa=>?_⟩
 ·unfold l5
  split
  ·rfl
  ·rename_i bL;exact h.q9 j (by simp only[aR,ar bL];exact aa)
 ·unfold l5 at E G
  split at E
  ·cases E
  ·split at G
   ·cases G
   ·exact h.inj j h1 aK az b E G ab aM
 ·unfold l5 at aa
  split at aa
  ·cases aa
  ·rename_i bL;rcases U with U|U
   ·exact h.sep b U ⟨j,e',aa,J⟩
   ·exact bL (h.inj j k e' e b aa O J U)
 ·rcases U with U|U
  ·exact h.lt b U
  ·exact h.ra ⟨k,e,O,U⟩
 ·unfold l5 at aa
  split at aa
  ·cases aa
  ·exact h.vu b o U ⟨j,e',aa,J⟩
 ·have bL:j≠k:=λbL=>by rw[bL,hm] at aa;cases aa
  obtain⟨e',dW,aC,aE,U⟩:=h.cW j cd gx (by simp only[aR,ar bL];exact aa);refine⟨e',by simp only[l5,ar bL];exact dW,aC,aE,λb fq=>?_⟩
  exact (U b fq).imp rfl rfl λm Db v ai=>ai.cut (λb U=>(eE b).1 U) (B4 (ag j cd gx aa) m Db)
def jv.apH {ax gI:Nat->Prop}{aB:cB}{es:List MapEntry}{ms:List I}(h:jv w ax B es ms)(L:∀m∈ms,∀v,aN w ax B m v->aN aj gI aB m v):jv aj gI aB es ms:=by
 induction h with
 |nil=>exact .nil
 |cons O ai _ aD=>exact .cons O (L _ (by simp) _ ai) (aD λm hm=>L m (by simp[hm]))
def apI {e:gU}{hG:cB}(h:dj A w B (aR mem k g cs))(O:B k=some e)(Z:oj k cs=true)(R:cT (B5 A e) w (l5 B k) aj hG C3)(uH:C3 k=none):
  cT A w B aj (eu hG k e) (aR C3 k g cs)/\∀m v,aN aj (bb (B5 A e) hG) hG m v->aN aj (bb A (eu hG k e)) (eu hG k e) m v:=by
 have eE:=T5 (A:=A) O;have apJ:hG k=none:=R.b4.q9 k uH
 have apK:∀b,bb A (eu hG k e) b->bb (B5 A e) hG b:=λb U=>by
  rcases U with ⟨j,e',aa,J⟩|a2
  ·by_cases bL:j=k
   ·subst bL;rw[eX] at aa
    cases aa;exact .inr (.inr J)
   ·rw[eR _ _ bL] at aa;exact .inl ⟨j,e',aa,J⟩
  ·exact .inr (.inl a2)
 have ac9:∀j e',hG j=some e'->eu hG k e j=some e':=λj e' aa=>by
  by_cases bL:j=k
  ·subst bL;rw[apJ] at aa
   cases aa
  ·rw[eR _ _ bL];exact aa
 have pQ:∀m v,aN aj (bb (B5 A e) hG) hG m v->aN aj (bb A (eu hG k e)) (eu hG k e) m v:=λm v ai=>ai.more apK ac9;obtain⟨e',dW,aC,aE,U⟩:=h.cW k g cs (by simp[aR]);rw[O] at dW
 cases dW;refine⟨⟨⟨λj aa=>?_,λj h1 aK az b E G ab aM=>?_,λb a2 ⟨j,e',aa,J⟩=>?_,λb a2=>R.b4.lt b (.inl a2),R.b4.gl,λb o U ⟨j,e',aa,J⟩=>?_,λj cd gx aa=>?_⟩,⟨R.h0.size,λb U a0=>?_,λj e' aa=>?_⟩,⟨R.fx.os,R.fx.tape,R.fx.output,R.fx.size,λb U a0=>?_⟩,λb U=>?_⟩,pQ⟩
 ·by_cases bL:j=k
  ·subst bL;simp[aR] at aa
  ·simp only[aR,ar bL] at aa;rw[eR _ _ bL];exact R.b4.q9 j aa
 ·by_cases aa:j=k<;>by_cases jx:h1=k
  ·rw[aa,jx]
  ·exfalso
   subst aa;rw[eX] at E
   cases E;rw[eR _ _ jx] at G;exact R.b4.sep b (.inr ab) ⟨h1,az,G,aM⟩
  ·exfalso
   subst jx;rw[eX] at G
   cases G;rw[eR _ _ aa] at E;exact R.b4.sep b (.inr aM) ⟨j,aK,E,ab⟩
  ·rw[eR _ _ aa] at E;rw[eR _ _ jx] at G;exact R.b4.inj j h1 aK az b E G ab aM
 ·by_cases bL:j=k
  ·subst bL;rw[eX] at aa
   cases aa;exact h.sep b a2 ⟨_,_,O,J⟩
  ·rw[eR _ _ bL] at aa;exact R.b4.sep b (.inl a2) ⟨j,e',aa,J⟩
 ·by_cases bL:j=k
  ·subst bL;rw[eX] at aa
   cases aa;exact h.vu b o U ⟨_,_,O,J⟩
  ·rw[eR _ _ bL] at aa;exact R.b4.vu b o U ⟨j,e',aa,J⟩
 ·by_cases bL:j=k
  ·subst bL;simp only[aR,if_true,bF,ec] at aa;obtain⟨rfl,rfl⟩:=aa;refine⟨e,eX _ _ _,aC,aE,λb fq=>?_⟩
   have QF:¬ ni (l5 B j) b:=fun⟨h1,az,jx,oL⟩=>by
    unfold l5 at jx
    split at jx
    ·cases jx
    ·rename_i a6;exact a6 (h.inj h1 j az e b jx O oL fq)
   have av:=h.ra ⟨j,e,O,fq⟩;have Jk:=R.fx.block b av QF
   have ai:∀m∈cs,∀v,aN w (bb A B) B m v->aN aj (bb A (eu hG j e)) (eu hG j e) m v:=λm Db v ai =>
    pQ m v ((ai.cut (k:=j) (λb U=>(eE b).1 U) (B4 Z m Db)).ju R.h0)
   rcases U b fq with ⟨ak,vs,T,E,G,ab,aM⟩|⟨ak,hH,iw,G,ab⟩
   ·exact .inl ⟨ak,vs,T,Jk.trans E,G,ab,λi m hm=>let ⟨v,j8,Q⟩:=aM i m hm;⟨v,j8,ai m (dM hm) v Q⟩⟩
   ·exact .inr ⟨ak,hH,iw,Jk.trans G,ab.apH ai⟩
  ·simp only[aR,ar bL] at aa;obtain⟨e',dW,xf,GD,g3⟩:=R.b4.cW j cd gx aa;exact⟨e',ac9 j e' dW,xf,GD,λb fq=>(g3 b fq).imp rfl rfl λm _ v ai=>pQ m v ai⟩
 ·have E:=R.h0.CR b U λJ=>a0 ((eE b).1 J);refine⟨E.1,fun⟨j,e',aa,J⟩=>?_⟩
  by_cases bL:j=k
  ·subst bL;rw[eX] at aa
   cases aa;exact a0 (.inl ⟨_,_,O,J⟩)
  ·rw[eR _ _ bL] at aa;exact E.2 ⟨j,e',aa,J⟩
 ·by_cases bL:j=k
  ·subst bL;rw[O] at aa
   cases aa;exact⟨e,eX _ _ _,.inl rfl⟩
  ·obtain⟨az,E,G⟩:=R.h0.key j e' (by simp only[l5,ar bL];exact aa);exact⟨az,by rw[eR _ _ bL];exact E,G⟩
 ·refine R.fx.block b U fun⟨j,e',aa,J⟩=>?_;unfold l5 at aa
  split at aa
  ·cases aa
  ·exact a0 ⟨j,e',aa,J⟩
 ·obtain⟨j,e',aa,J⟩:=U
  by_cases bL:j=k
  ·subst bL;rw[eX] at aa
   cases aa;exact .inl ⟨_,_,O,J⟩
  ·rw[eR _ _ bL] at aa;refine (R.fresh b ⟨j,e',aa,J⟩).imp (fun⟨vT,az,vJ,gO⟩=>?_) id;unfold l5 at vJ
   split at vJ
   ·cases vJ
   ·exact⟨vT,az,vJ,gO⟩
def E8 (mem:Mem):I->Option (Nat×List (List Data))
 |.ref k g sz off len=>(qw sz mem (.ref k g sz off len)).map λes=>(sz,es)
 |_=>none
open Classical in
def m7 (ol:List FuncId)(run:iX):bj:=λf args mem=>if mem=emp then (match run f args dw.e 0 with
 |.ok v m _=>if ol.contains f=true then (E8 (b3 m) v).map λp => .own p.1 p.2 else (cC 6 (b3 m) v).map .same
 |_=>none) else none
def T6 {ol:List FuncId}{run:iX}(dY:sb P run):mS P (m7 ol run):=by
 intro f args mem np h;unfold m7 at h
 split at h
 ·rename_i gA;subst gA;have Q:=dY f args dw.e 0
  split at h
  ·rename_i v m c ai;rw[ai] at Q;have ji:∀B w A,dj A w B (b3 dw.e)->∀b,¬ ni B b:=λB w A a4 b ⟨k,e,O,_⟩=>by rw[a4.q9 k rfl] at O;cases O
   split at h
   ·simp only[cJ] at h;obtain⟨p,aF,rfl⟩:=h;refine⟨Q.1,λA w B vs a4 ai=>?_⟩;have ji:=ji B w A a4;refine Calls.mono (Q.2 A w B vs a4 ai) λe aj he=>?_;obtain⟨u,aB,rfl,c6,iz⟩:=he;refine⟨u,rfl,⟨c6.fx.os,c6.fx.tape,c6.fx.output,c6.fx.size,λb U _=>c6.fx.block b U (ji b)⟩,?_⟩;unfold E8 at aF
    split at aF
    ·rename_i k g sz off len;simp only[cJ] at aF;obtain⟨es,rG,rfl⟩:=aF;simp only[qw] at rG
     split at rG
     ·rename_i Z;obtain⟨_,rfl⟩:=Z
      split at rG
      ·rename_i cd cs O
       split at rG
       ·rename_i aC;obtain⟨rfl,hle⟩:=aC;simp only[cJ] at rG;obtain⟨ds,e3,rfl⟩:=rG;exact (Yq ji c6 iz O hle e3).less λb U=>U.elim (λh=>(ji b h).elim) id
       ·cases rG
      ·cases rG
     ·cases rG
    ·cases aF
   ·simp only[cJ] at h;obtain⟨d,ae,rfl⟩:=h;refine⟨Q.1,λA w B vs a4 ai=>?_⟩;have ji:=ji B w A a4;refine Calls.mono (Q.2 A w B vs a4 ai) λe aj he=>?_;obtain⟨u,aB,rfl,c6,iz⟩:=he;refine⟨u,rfl,⟨c6.fx.os,c6.fx.tape,c6.fx.output,c6.fx.size,λb U _=>c6.fx.block b U (ji b)⟩,?_⟩;exact (snap c6.b4 (λb U=>U) 6 v u d ae iz).less λb U=>U.elim (λh=>(ji b h).elim) id
  ·cases h
 ·cases h
def apL {ol:List FuncId}{run:iX}{f:FuncId}{args:List I}{v:I}{m:eB}{c:Nat}{d:Data}(ag:ol.contains f=false)(h:run f args dw.e 0=.ok v m c)(ae:cC 6 (b3 m) v=some d):m7 ol run f args emp=some (.same d):=by
 unfold m7;rw[aq rfl,h];simp only[ag,dm,if_false,ae,jQ]
def apM {ol:List FuncId}{run:iX}{f:FuncId}{args:List I}{v:I}{m:eB}{c:Nat}{p:Nat×List (List Data)}(ag:ol.contains f=true)(h:run f args dw.e 0=.ok v m c)(ae:E8 (b3 m) v=some p):m7 ol run f args emp=some (.own p.1 p.2):=by
 unfold m7;rw[aq rfl,h];simp only[ag,if_true,ae,jQ]
end Go.Mini
namespace Go.Mini
open Go
abbrev yx:=List (Nat×Bool×I)
abbrev NQ:=eW->eB->Rec->yx->ca
abbrev Jl:=iX->Nat->eW->eB->Rec->yx->NQ->ca
def E9:W Jl:=.mk λ_ _ _ _ _ _ _=>ca.no
def wU (k4:List Nat)(rec:Rec)(p:Bool×List km)(r:ca):ca:=match k4 with
 | []=>r
 |_::_=>fL ca.no r (rh rec p k4)
def Fa (run:iX)(f:FuncId)(l:List I)(K:Data->ca):ca :=
 iG.rec ca.no (λv m _=>kj ca.no (λd=>K d) (cC 6 (b3 m) v)) (λ_ _ _=>ca.no) (run f l dw.e 0)
def NR (run:iX)(f:FuncId)(l:List I)(K:Nat×List (List Data)->ca):ca :=
 iG.rec ca.no (λv m _=>kj ca.no (λp=>K p) (E8 (b3 m) v)) (λ_ _ _=>ca.no) (run f l dw.e 0)
def u0 (ol:List FuncId)(dst:Option Nat)(op:fh)(idx:Nat)(k4:List Nat)(un:Bool):W Jl :=
 match op with
 |.call f l=>fL (.mk λrun _ t m rec ea K=>wU k4 rec (false,[]) (Fa run f (l.map λx=>shut (W.ap (iY x) t)) λd=>K (hW dst t (.M d)) m (iy rec idx (false,[])) ea)) E9 (ol.contains f)
 |.jc f l => .mk λrun _ t m rec ea K=>match shut (W.ap (iY f) t) with
  |.dB g []=>fL (wU k4 rec (false,[]) (Fa run g (l.map λx=>shut (W.ap (iY x) t)) λd=>K (hW dst t (.M d)) m (iy rec idx (false,[])) ea)) ca.no (ol.contains g)
  |_=>ca.no
 |.load n bC x => .mk λ_ _ t m rec ea K=>wU k4 rec (false,yW n (W.ap (iY x) t)) (B2 dst (ic (b3 m) n bC (W.ap (iY x) t)) t λkl=>K kl m (iy rec idx (false,yW n (W.ap (iY x) t))) (fL ea ((n,bC,W.ap (iY x) t)::ea) un))
 |.kJ k sz f l=>fL E9 (.mk λrun kb t m rec ea K=>wU k4 rec (true,[.fo (kb+k)]) (NR run f (l.map λx=>shut (W.ap (iY x) t)) λp =>
   fL ca.no (fL ca.no (K (hW dst t (.ref (kb+k) (bp (b3 m) (kb+k)) sz 0 p.2.length)) (NK (kb+k) (bp (b3 m) (kb+k)) (p.2.flatten.map .M) m) (iy rec idx (true,[.fo (kb+k)])) ea) (z4 (kb+k) 1000000000000)) (gG p.1 sz))) (ol.contains f)
 |.kH ..=>E9
 |.j7 ..=>E9
 |.pv ..=>E9
 |.pw ..=>E9
 |op => .mk λ_ kb t m rec ea K=>wU k4 rec (fD (e2 kb op),cf (cA t) (e2 kb op)) (Je dst op kb t m λkl m'=>K kl m' (iy rec idx (fD (e2 kb op),cf (cA t) (e2 kb op))) ea)
def T7 (ol:List FuncId)(i:bh)(idx:Nat)(k4:List Nat)(un:Bool):W Jl:=match i.g with
 |none=>u0 ol i.dst i.op idx k4 un
 |some (s,b) => .mk λrun kb t m rec ea K=>match cA t s with
  |.M (.bool q)=>fL (K (hW i.dst t .no) m rec ea) (W.ap (u0 ol i.dst i.op idx k4 un) run kb t m rec ea K) (q==b)
  |.no=>K (hW i.dst t .no) m rec ea
  |_=>ca.no
def u1 (ol:List FuncId)(un:Nat->Bool)(l:List bh):Nat->List (List Nat)->W Jl :=
 List.rec (motive:=λ_=>Nat->List (List Nat)->W Jl) (λ_ _ => .mk λ_ _ t m rec ea K=>K t m rec ea)
  (λi _ uZ idx cs => .mk λrun kb t m rec ea K=>W.ap (T7 ol i idx (cs.headD []) (un idx)) run kb t m rec ea λt m rec ea=>W.ap (uZ (idx+1) cs.tail) run kb t m rec ea K) l
variable {P:Program} {aQ:Option I} {A:Nat->Prop} {b5 w:World} {c4 B:cB} {n kb:Nat} {own:List Nat} {ops:Array Oper} {o:Oper} {run:iX} {t:eW} {m:eB} {c:Nat} {d:Option I} {ol:List FuncId}
def NS {k4:List Nat}{rec:Rec}{p:Bool×List km}{r:ca}(h:wU k4 rec p r ≠ .no):wU k4 rec p r=r/\rh rec p k4=true:=by
 cases k4 with
 |nil=>exact⟨rfl,rfl⟩
 |cons a l =>
  unfold wU at *;simp only at *
  cases Z:rh rec p (a::l) with
  |false=>rw[Z] at h;exact absurd rfl h
  |true=>exact⟨rfl,rfl⟩
def apN {f:FuncId}{l:List I}{K:Data->ca}(ag:ol.contains f=false)(h:Fa run f l K ≠ .no):∃d,m7 ol run f l emp=some (.same d)/\Fa run f l K=K d:=by
 unfold Fa at *
 cases Q:run f l dw.e 0 with
 |no=>rw[Q] at h;exact absurd rfl h
 |gH v m c=>rw[Q] at h;exact absurd rfl h
 |ok v m c =>
  rw[Q] at h
  cases ae:cC 6 (b3 m) v with
  |none=>simp only[ae] at h;exact absurd rfl h
  |some d =>
   refine⟨d,apL ag Q ae,?_⟩;show (kj ca.no (λd=>K d) (cC 6 (b3 m) v):ca)=K d;rw[ae]
def ada (op:fh):ld (e2 kb op)=ld op:=by cases op<;>first|rfl|(rename_i b _ _ _ _;cases b<;>rfl)
def apO (op:fh):nS (e2 kb op)=nS op:=by cases op<;>rfl
def apP {op:fh}{k:Nat}{bC:Bool}{y:bg}(h:e2 kb op=.load k bC y):op=.load k bC y:=by cases op<;>first|exact h|(simp[e2] at h)
def apQ {f:FuncId}{l:List I}{K:Nat×List (List Data)->ca}(ag:ol.contains f=true)(h:NR run f l K ≠ .no):∃p,m7 ol run f l emp=some (.own p.1 p.2)/\NR run f l K=K p:=by
 unfold NR at *
 cases Q:run f l dw.e 0 with
 |no=>rw[Q] at h;exact absurd rfl h
 |gH v m c=>rw[Q] at h;exact absurd rfl h
 |ok v m c =>
  rw[Q] at h
  cases ae:E8 (b3 m) v with
  |none=>simp only[ae] at h;exact absurd rfl h
  |some d =>
   refine⟨d,apM ag Q ae,?_⟩;show (kj ca.no (λd=>K d) (E8 (b3 m) v):ca)=K d;rw[ae]
def apR {dst:Option Nat}{op:fh}{idx:Nat}{k4:List Nat}{un:Bool}{rec:Rec}{ea:yx}{K:NQ}{r:ca}(Q:r=W.ap (u0 ol dst op idx k4 un) run kb t m rec ea K)(h:r ≠ .no):
  ∃v e m' z5,ei (m7 ol run) (b3 m) (cA t) (e2 kb op)=some (v,e)/\b3 m'=fB (b3 m) e/\rh rec (fD (e2 kb op),cf (cA t) (e2 kb op)) k4=true /\
   r=K (hW dst t v) m' (iy rec idx (fD (e2 kb op),cf (cA t) (e2 kb op))) z5/\(∀x∈ea,x∈z5)/\(un=true->∀n bC y,op=.load n bC y->(n,bC,aI (cA t) y)∈z5):=by
 have call:∀(f:FuncId) (l:List bg),ol.contains f=false->r=wU k4 rec (false,[]) (Fa run f (l.map λx=>shut (W.ap (iY x) t)) λd=>K (hW dst t (.M d)) m (iy rec idx (false,[])) ea) ->
   ∃d,m7 ol run f (l.map λx=>shut (aI (cA t) x)) emp=some (.same d)/\rh rec (false,[]) k4=true/\r=K (hW dst t (.M d)) m (iy rec idx (false,[])) ea:=λf l ag Q=>by
  simp only[nH] at Q;obtain⟨E,G⟩:=NS (by rw[<-Q];exact h);rw[E] at Q;obtain⟨d,ab,aM⟩:=apN ag (by rw[<-Q];exact h);exact⟨d,ab,G,by rw[Q,aM]⟩
 have plain:∀(hu:∀n bC y,op ≠ .load n bC y) (R:∀mem tm,ei (m7 ol run) mem tm (e2 kb op)=br mem tm (e2 kb op)),r=wU k4 rec (fD (e2 kb op),cf (cA t) (e2 kb op)) (Je dst op kb t m λkl m'=>K kl m' (iy rec idx (fD (e2 kb op),cf (cA t) (e2 kb op))) ea) ->
   ∃v e m' z5,ei (m7 ol run) (b3 m) (cA t) (e2 kb op)=some (v,e)/\b3 m'=fB (b3 m) e/\rh rec (fD (e2 kb op),cf (cA t) (e2 kb op)) k4=true /\
   r=K (hW dst t v) m' (iy rec idx (fD (e2 kb op),cf (cA t) (e2 kb op))) z5/\(∀x∈ea,x∈z5)/\(un=true->∀n bC y,op=.load n bC y->(n,bC,aI (cA t) y)∈z5):=λhu R Q=>by
  obtain⟨E,G⟩:=NS (by rw[<-Q];exact h);rw[E] at Q;rcases acW (dst:=dst) (op:=op) (kb:=kb) (t:=t) (m:=m) (K:=λkl m'=>K kl m' (iy rec idx (fD (e2 kb op),cf (cA t) (e2 kb op))) ea) with ab|⟨v,e,m',ab,aM,bl⟩
  ·exact absurd (Q.trans ab) h
  ·exact⟨v,e,m',ea,by rw[R];exact ab,aM,G,Q.trans bl,λ_ h=>h,λ_ n bC y he=>absurd he (hu n bC y)⟩
 cases op
 case call f l =>
  cases ag:ol.contains f with
  |true=>simp only[u0,ag] at Q;exact absurd Q h
  |false =>
  simp only[u0,ag] at Q;obtain⟨d,E,G,ab⟩:=call f l ag Q;exact⟨_,none,m,ea,by simp only[e2,ei,E],rfl,G,ab,λ_ h=>h,λ_ n bC y he=>by cases he⟩
 case jc f l =>
  simp only[u0,nG,nH] at Q
  split at Q
  ·rename_i g aC;simp only[<-nH] at Q
   cases ag:ol.contains g with
   |true=>rw[ag] at Q;exact absurd Q h
   |false =>
   rw[ag] at Q;obtain⟨d,E,G,ab⟩:=call g l ag Q;exact⟨_,none,m,ea,by simp only[e2,ei,aC,E],rfl,G,ab,λ_ h=>h,λ_ n bC y he=>by cases he⟩
  ·exact absurd Q h
 case load jF bC x =>
  simp only[u0,nG,nH] at Q;obtain⟨E,G⟩:=NS (by rw[<-Q];exact h);rw[E] at Q
  cases ad:ic (b3 m) jF bC (aI (cA t) x) with
  |none=>rw[ad] at Q;exact absurd Q h
  |some v =>
   rw[ad] at Q;refine⟨v,none,m,_,by simp only[e2,ei,br,ad];rfl,rfl,G,Q,λy af=>?_,λhu Ji aAk y' he=>?_⟩
   ·cases un with
    |false=>exact af
    |true=>exact tv _ af
   ·cases he;subst hu;exact kP
 case kJ k sz f l =>
  cases ag:ol.contains f with
  |false=>simp only[u0,ag] at Q;exact absurd Q h
  |true =>
  simp only[u0,ag,nG,nH] at Q;obtain⟨E,G⟩:=NS (by rw[<-Q];exact h);rw[E] at Q;obtain⟨p,ab,aM⟩:=apQ ag (by rw[<-Q];exact h);rw[aM] at Q
  cases dz:gG p.1 sz with
  |false=>rw[dz] at Q;exact absurd Q h
  |true =>
  rw[dz] at Q
  cases U:z4 (kb+k) 1000000000000 with
  |false=>rw[U] at Q;exact absurd Q h
  |true =>
  rw[U] at Q;have g3:kb+k<1000000000000:=by simpa [Nat.blt_eq] using U
  exact⟨_,some (kb+k,bp (b3 m) (kb+k),p.2.flatten.map .M),_,ea,by simp only[e2,ei,ab,aq (B6 dz)],acT g3 _ _ m,G,Q,λ_ h=>h,λ_ n bC y he=>by cases he⟩
 case kH=>exact absurd Q h
 case j7=>exact absurd Q h
 case pv=>exact absurd Q h
 case pw=>exact absurd Q h
 all_goals exact plain (λ_ _ _ he=>by cases he) (λ_ _=>rfl) Q
def apS (a b:bh):nT (gi kb a) (gi kb b)=nT a b:=by
 unfold nT looks gi;simp only[apO]
def adb:∀(cs pre:List bh) (sd:List Nat),xd (pre.map (gi kb)) (cs.map (gi kb)) sd=xd pre cs sd
 | [],_,_=>rfl
 |c::cs,pre,[]=>rfl
 |c::cs,pre,a::sd=>by
  simp only[hi,xd];have:=adb cs (pre++[c]) sd;rw[pZ,hi,cE] at this;rw[this]
  congr 1
  rw[ade,List.all_map]
  congr 1
  funext ⟨x,i⟩
  simp[apS]
def T8:∀(cs pre:List bh) (sd:List Nat),lf (pre.map (gi kb)) (cs.map (gi kb)) sd=lf pre cs sd
 | [],_,_=>rfl
 |c::cs,pre,sd=>by
  simp only[hi,lf];have:=T8 cs (pre++[c]) sd.tail;rw[pZ,hi,cE] at this;rw[this]
  congr 1
  rw[ade,List.filter_map,rz]
  have E:((λx:bh×Nat => !((sd.headD 0).testBit x.2||tT (ld x.1.op) (ld (gi kb c).op))) ∘ Prod.map (gi kb) id)=λx:bh×Nat => !((sd.headD 0).testBit x.2||tT (ld x.1.op) (ld c.op)):=by
   funext ⟨x,i⟩
   simp[gi,ada]
  simp only[E]
  rfl
def adf {l:List Oper}{is:List bh}(h:l.mapM (mG P n 0 own ops)=some is):l.mapM (mG P n kb own ops)=some (is.map (gi kb)):=by
 induction l generalizing is with
 |nil=>simp at h;subst h;rfl
 |cons o l aD =>
  simp only[ma,Option.pure_def,Option.bind_eq_bind,Option.bind_eq_some_iff,bF] at h ⊢;obtain⟨x,J,xs,zf,rfl⟩:=h;exact⟨_,ac2 J,_,aD zf,rfl⟩
def NT (ol:List FuncId)(run:iX)(kb:Nat)(un:Nat->Bool)(hN:List (List Nat))(K:NQ)(r:ca)(l:List bh)(idx:Nat)(t:eW)(m:eB)(rec:Rec)(ea:yx):Prop :=
 ∃t1 aU rec1 pb,r=K t1 aU rec1 pb/\(∀k,idx+D l<=k->rec1 k=none)/\(∀o∈ea,o∈pb)/\∀(b6:um) (Jm:a3->Prop) (tail:List bh),
  (∀j x rec st h6 bV,idx<=j->j<idx+(D l)->iC (m7 ol run) (lW hN) j x rec st h6 bV->(un j=true->∀n bC y,x.op=.load n bC y->gy st.tm x.g=some true->(n,bC,aI st.tm y)∈pb)->b6 j x rec st h6 bV) ->
  xx b6 Jm (idx+D l) tail rec1 ⟨cA t1,b3 aU⟩->xx b6 Jm idx (l.map (gi kb)++tail) rec ⟨cA t,b3 m⟩
def NU (aE:n<=1000000){un:Nat->Bool}{hN:List (List Nat)}{K:NQ}{r:ca}(a6:r ≠ .no):∀(l:List bh) (idx:Nat) (t:eW) (m:eB) (rec:Rec) (ea:yx),(∀x∈l,x.dst.all (λd=>decide (d<n))=true) ->
  (∀k,idx<=k->rec k=none)->r=W.ap (u1 ol un l idx (hN.drop idx)) run kb t m rec ea K->NT ol run kb un hN K r l idx t m rec ea
 | [],idx,t,m,rec,ea,_,jT,Q=>⟨t,m,rec,ea,Q,λk O=>jT k (by simpa using O),λ_ h=>h,λb6 Jm tail _ h=>h⟩
 |i::l,idx,t,m,rec,ea,ae,jT,Q=>by
  have c2:r=W.ap (T7 ol i idx ((hN.drop idx).headD []) (un idx)) run kb t m rec ea λt m rec ea=>W.ap (u1 ol un l (idx+1) (hN.drop idx).tail) run kb t m rec ea K:=Q;rw[List.tail_drop] at c2;have adg:=ae i (by simp);have vX:∀x∈l,x.dst.all (λd=>decide (d<n))=true:=λx J=>ae x (by simp[J])
  have rest:∀t2 bO jR Jn,r=W.ap (u1 ol un l (idx+1) (hN.drop (idx+1))) run kb t2 bO jR Jn K->(∀k,idx+1<=k->jR k=none)->(∀o∈ea,o∈Jn) ->
    (∀pb:yx,(∀o∈Jn,o∈pb)->iC (m7 ol run) (lW hN) idx (gi kb i) rec ⟨cA t,b3 m⟩ jR ⟨cA t2,b3 bO⟩/\(un idx=true->∀n bC y,(gi kb i).op=.load n bC y->gy (cA t) (gi kb i).g=some true->(n,bC,aI (cA t) y)∈pb)) ->
    NT ol run kb un hN K r (i::l) idx t m rec ea:=λt2 bO jR Jn E G ab aM=>by
   obtain⟨t1,aU,rec1,pb,bZ,bX,e4,ha⟩:=NU aE a6 l (idx+1) t2 bO jR Jn vX G E;refine⟨t1,aU,rec1,pb,bZ,λk O=>bX k (by simp at O;omega),λo a0=>e4 o (ab o a0),λb6 Jm tail eG Z=>?_⟩;obtain⟨bl,bz⟩:=aM pb e4;refine .cons (eG idx _ _ _ _ _ (bI _) (by simp) bl bz) (ha b6 Jm tail (λaZ x rec st h6 bV a b=>eG aZ x rec st h6 bV (by omega) (by simp;omega)) ?_);have:idx+(i::l).length=idx+1+D l:=by simp;omega
   rw[this] at Z;exact Z
  unfold T7 at c2
  have skip:r=W.ap (u1 ol un l (idx+1) (hN.drop (idx+1))) run kb (hW i.dst t .no) m rec ea K->gy (cA t) i.g=some false->NT ol run kb un hN K r (i::l) idx t m rec ea:=λE G =>
   rest _ _ _ _ E (λk O=>jT k (by omega)) (λ_ h=>h) λpb _=>⟨.inl ⟨G,rfl,by rw[z3 aE adg];rfl⟩,λ_ n bC y _ aC=>by
    have xf:gy (cA t) i.g=some true:=aC;rw[G] at xf;cases xf⟩
  have act:r=W.ap (u0 ol i.dst i.op idx ((hN.drop idx).headD []) (un idx)) run kb t m rec ea (λt m rec ea=>W.ap (u1 ol un l (idx+1) (hN.drop (idx+1))) run kb t m rec ea K)->gy (cA t) i.g=some true->NT ol run kb un hN K r (i::l) idx t m rec ea:=λE G=>by
   obtain⟨v,e,m',z5,cx,c3,hE,iq,om,lG⟩:=apR E a6;refine rest _ _ _ _ iq (λk O=>by simp only[iy,ar (show ¬ k=idx by omega)];exact jT k (by omega)) om λpb a0=>⟨.inr ⟨G,v,e,cx,λp q lk aL=>?_,rfl,by rw[z3 aE adg,c3];rfl⟩,λhu n bC y ev _=>?_⟩
   ·have j9:p<idx:=by
     rcases fF p idx with bS|bS
     ·exact bS
     ·rw[jT p bS] at aL;cases aL
    unfold rh at hE;rw[List.all_eq_true] at hE
    have gA:p∈(hN.drop idx).headD []:=by
     unfold lW at lk;rw[aq j9] at lk
     have:(hN.drop idx).headD []=hN.getD idx []:=by
      rw[List.headD_eq_head?_getD,List.head?_drop,eH]
     rw[this];exact List.contains_iff_mem.1 lk
    have:=hE p gA;rw[aL] at this;exact this
   ·exact a0 _ (lG hu n bC y (apP ev))
  split at c2
  ·rename_i aC;exact act c2 (by rw[aC];rfl)
  ·rename_i s b aC
   have a5:r=(match cA t s with
    |.M (.bool q)=>fL (W.ap (u1 ol un l (idx+1) (hN.drop (idx+1))) run kb (hW i.dst t .no) m rec ea K) (W.ap (u0 ol i.dst i.op idx ((hN.drop idx).headD []) (un idx)) run kb t m rec ea (λt m rec ea=>W.ap (u1 ol un l (idx+1) (hN.drop (idx+1))) run kb t m rec ea K)) (q==b)
    |.no=>W.ap (u1 ol un l (idx+1) (hN.drop (idx+1))) run kb (hW i.dst t .no) m rec ea K
    |_=>ca.no):=c2
   split at a5
   ·rename_i q aL
    cases wv:(q==b) with
    |false=>rw[wv] at a5;exact skip a5 (by rw[aC];simp only[gy,aL,wv])
    |true=>rw[wv] at a5;exact act a5 (by rw[aC];simp only[gy,aL,wv])
   ·rename_i aL;exact skip a5 (by rw[aC];simp only[gy,aL])
   ·exact absurd a5 a6
end Go.Mini
namespace Go.Mini
open Go
variable {P:Program} {aQ:Option I} {A:Nat->Prop} {b5 w:World} {c4 B:cB} {n kb:Nat} {own:List Nat} {ops:Array Oper} {o:Oper} {run:iX} {t:eW} {m:eB} {c:Nat} {d:Option I} {T:bj} {fH:Nat->Nat->Bool} {l:List bh}
def pc (T:bj)(fH:Nat->Nat->Bool)(pd:Nat)(se:bh->Rec->a3->a3->Prop)(S:Nat->bh->(Nat->I)->Prop):um:=λi x rec st h6 bV =>
 if i=pd then h6=rec/\se x rec st bV else iC T fH i x rec st h6 bV/\S i x st.tm
def adh {pd:Nat}{se:bh->Rec->a3->a3->Prop}{S:Nat->bh->(Nat->I)->Prop}:Ha (pc T fH pd se S):=by
 intro i x rec st h6 bV h k O;unfold pc at h
 split at h
 ·rw[h.1]
 ·exact Qz h.1 O
def NV {i j:Nat}(U:((fp ops.toList []).getD j 0).testBit i=true)(listed:Array Bool)(dN:vO ops listed)(L:i∈Region.ready .any ops listed)(aa:j∈Region.ready .any ops listed):False:=by
 obtain⟨_,o,a0,dn⟩:=mem_ready.1 aa;have E:=X4 dN j o a0 dn i U;have ak:=(mem_ready.1 L).1;rcases fF i listed.size with bS|bS
 ·simp[bS] at ak E;rw[ak] at E;cases E
 ·simp[Array.getElem?_eq_none bS] at E
def k5 (pe:List Nat)(g j:Nat):Bool:=!(gG j g) && !((pe.getD g 0).testBit j) && !((pe.getD j 0).testBit g)
def adi {i:Nat}{x:bh}{rec h6:Rec}{st bV:a3}(h:iC T fH i x rec st h6 bV):∃v,bV.tm=put st.tm x.dst v:=by
 rcases h with ⟨_,_,rfl⟩|⟨_,m,e,_,_,_,rfl⟩
 ·exact⟨_,rfl⟩
 ·exact⟨_,rfl⟩
def adj {pd:Nat}{se:bh->Rec->a3->a3->Prop}{S:Nat->bh->(Nat->I)->Prop}(ae:pB ops l=true)(apT:fH=lW (lf [] l (fp ops.toList [])))
  (cr:∀i x tm tm',(∀s∈looks x,tm s=tm' s)->S i x tm->S i x tm')
  (E:∀(j:Nat) (x y:bh) rec st rec1 st1 jS,k5 (fp ops.toList []) pd j=true->l[pd]?=some x->l[j]?=some y->nT y x=true->rec j=none->iC T fH j y rec st rec1 st1->S j y st.tm->se x rec1 st1 jS->∃iN,se x rec st iN/\iC T fH j y rec iN rec1 jS)
  (G:∀(j:Nat) (x y:bh) rec st jR st1 jS,k5 (fp ops.toList []) pd j=true->l[pd]?=some x->l[j]?=some y->nT x y=true->rec j=none->se x rec st st1->iC T fH j y rec st1 jR jS->S j y st1.tm->∃iN,iC T fH j y rec st jR iN/\S j y st.tm/\se x jR iN jS)
  (ab:∀(x:bh) rec st bV,se x rec st bV->l[pd]?=some x->(∃v,bV.tm=put st.tm x.dst v)\/(∀j y,l[j]?=some y->k5 (fp ops.toList []) pd j=false)):G9 (pc T fH pd se S) ops l:=by
 intro i j x y hM L aa;rcases QB ae i j x y hM L aa with h|⟨dP,ib⟩
 ·exact .inl h
 ·by_cases wV:i=pd
  ·subst wV;have ig:j≠i:=λh=>hM h.symm
   cases hu:k5 (fp ops.toList []) i j with
   |false =>
    unfold k5 at hu;simp only[adk,Jo] at hu;rcases hu with (hu|hu)|hu
    ·exact absurd (B6 hu) ig
    ·exact .inl λlisted dN E G=>NV hu listed dN G E
    ·exact .inl λlisted dN E G=>NV hu listed dN E G
   |true =>
    refine .inr λrec st rec1 st1 jR jS y9 u2 aK az=>?_;unfold pc at aK az ⊢;rw[aq rfl] at aK;rw[ar ig] at az;obtain⟨rfl,aK⟩:=aK;obtain⟨iN,cx,c3,hE⟩:=G j x y _ _ _ _ _ hu L aa dP u2 aK az.1 az.2;exact⟨jR,iN,by rw[ar ig];exact⟨cx,c3⟩,by rw[aq rfl];exact⟨rfl,hE⟩⟩
  ·by_cases Jp:j=pd
   ·subst Jp
    cases hu:k5 (fp ops.toList []) j i with
    |false =>
     unfold k5 at hu;simp only[adk,Jo] at hu;rcases hu with (hu|hu)|hu
     ·exact absurd (B6 hu) hM
     ·exact .inl λlisted dN E G=>NV hu listed dN E G
     ·exact .inl λlisted dN E G=>NV hu listed dN G E
    |true =>
     refine .inr λrec st rec1 st1 jR jS y9 u2 aK az=>?_;unfold pc at aK az ⊢;rw[ar hM] at aK;rw[aq rfl] at az;obtain⟨rfl,az⟩:=az;obtain⟨iN,cx,c3⟩:=E i y x _ _ _ _ _ hu aa L dP y9 aK.1 aK.2 az
     have R:S i x iN.tm:=by
      rcases ab y rec st iN cx aa with ⟨v,ai⟩|ji
      ·rw[ai];exact cr i x _ _ (λs R=>(kQ λae=>(AT dP).2.2 s ae R).symm) aK.2
      ·rw[ji i x L] at hu;cases hu
     exact⟨rec,iN,by rw[aq rfl];exact⟨rfl,cx⟩,by rw[ar hM];exact⟨c3,R⟩⟩
   ·refine .inr λrec st rec1 st1 jR jS y9 u2 aK az=>?_;unfold pc at aK az ⊢;rw[ar wV] at aK;rw[ar Jp] at az;subst apT;obtain⟨vN,iN,cx,c3⟩:=iC.comm hM dP ib (Lz _) y9 aK.1 az.1;obtain⟨v,ai⟩:=adi aK.1;obtain⟨oI,j8⟩:=adi cx
    have e1:S j y st.tm:=by
     have h:=az.2;rw[ai] at h;exact cr j y _ _ (λs R=>kQ λae=>(AT dP).1 s ae R) h
    have gR:S i x iN.tm:=by
     rw[j8];exact cr i x _ _ (λs R=>(kQ λae=>(AT dP).2.2 s ae R).symm) aK.2
    exact⟨vN,iN,by rw[ar Jp];exact⟨cx,e1⟩,by rw[ar wV];exact⟨c3,gR⟩⟩
structure k6 where
 f:FuncId
 B7:List I
 tA:Mem
 k2:Mem
 r:I
 hc:Option (Nat×Key×List I)
structure Fb (bc:k6):Prop where
 oo:∀eQ k z,bc.hc=some (eQ,k,z)->bc.tA k=none
 cx:∀eQ k z,bc.hc=some (eQ,k,z)->bc.k2 k=none
 apU:∀eQ k z,bc.hc=some (eQ,k,z)->freeM k bc.tA
 apV:∀eQ k z,bc.hc=some (eQ,k,z)->oj k bc.B7=true
 apW:∀eQ k z,bc.hc=some (eQ,k,z)->oj k z=true
def k6.made (bc:k6)(rec:Rec):Option (Key×List I):=match bc.hc with
 |none=>none
 |some (eQ,k,z)=>match rec eQ with
  |none=>none
  |some _=>some (k,z)
def oq (mem:Mem):Option (Key×List I)->Mem
 |none=>mem
 |some (k,z)=>aR mem k 0 z
def B8 (bc:k6)(x:bh)(rec:Rec)(st bV:a3):Prop :=
 ∃args,x.op=.call bc.f args/\x.g=none/\args.map (aI st.tm)=bc.B7/\st.mem=oq bc.tA (bc.made rec)/\bV=⟨put st.tm x.dst bc.r,oq bc.k2 (bc.made rec)⟩
def wW (bc:k6)(un:Nat->Bool)(i:Nat)(x:bh)(tm:Nat->I):Prop:=un i=true->∀n bC y,x.op=.load n bC y->gy tm x.g=some true->∃v,ic bc.tA n bC (aI tm y)=some v/\ic bc.k2 n bC (aI tm y)=some v
def adl {bc:k6}{un:Nat->Bool}(i:Nat)(x:bh)(tm tm':Nat->I)(h:∀s∈looks x,tm s=tm' s)(R:wW bc un i x tm):wW bc un i x tm':=by
 intro hu n bC y ev aC;have E:gy tm x.g=gy tm' x.g:=G6 λs b R=>h s (G7 R);have G:aI tm y=aI tm' y:=dO λs R=>h s (uj (by rw[ev];exact R));rw[<-G];exact R hu n bC y ev (E.trans aC)
inductive Jq (bc:k6) (j:Nat) (y:bh):Prop
 |quiet (h:ld y.op=0) (aa:∀eQ k z,bc.hc=some (eQ,k,z)->j≠eQ)
 |load (n:Nat) (bC:Bool) (x:bg) (h:y.op=.load n bC x) (aa:∀eQ k z,bc.hc=some (eQ,k,z)->j≠eQ)
 |alloc (k:Key) (z:List I) (h:bc.hc=some (j,k,z)) (ev:y.op=.alloc k z)
def apX {bc:k6}(fz:Fb bc){n:Nat}{bC:Bool}{a v:I}(ak:ic bc.tA n bC a=some v)(E:ic bc.k2 n bC a=some v)(rec:Rec):ic (oq bc.tA (bc.made rec)) n bC a=some v/\ic (oq bc.k2 (bc.made rec)) n bC a=some v:=by
 unfold k6.made
 cases gY:bc.hc with
 |none=>exact⟨ak,E⟩
 |some p =>
  obtain⟨eQ,k,z⟩:=p;simp only
  cases rec eQ with
  |none=>exact⟨ak,E⟩
  |some _ =>
   have a6:∀j∈keyOf a,j≠k:=by
    rintro j aa rfl;have hm:=fz.oo _ _ _ gY
    cases a<;>simp[keyOf] at aa
    ·subst aa;simp[ic] at ak
    ·subst aa;simp[ic,hm] at ak
   simp only[oq];rw[Qs (mem':=bc.tA) (λj aa=>by simp[aR,a6 j aa]),Qs (mem:=aR bc.k2 k 0 z) (mem':=bc.k2) (λj aa=>by simp[aR,a6 j aa])];exact⟨ak,E⟩
def adm {bc:k6}(fz:Fb bc){un:Nat->Bool}{j:Nat}{y:bh}{tm:Nat->I}(hu:un j=true)(U:Jq bc j y)(u3:∀k z,y.op ≠ .alloc k z)(R:wW bc un j y tm)(aC:gy tm y.g=some true)(rec:Rec):
  ei T (oq bc.k2 (bc.made rec)) tm y.op=ei T (oq bc.tA (bc.made rec)) tm y.op/\fD y.op=false:=by
 cases U with
 |quiet h _ =>
  obtain⟨E,G⟩:=Qv (tm:=tm) h;refine⟨Qt (λbQ f l Z=>?_) (λx J=>by rw[E] at J;cases J),G⟩;rw[Z] at G
  cases G
 |load n bC x h _ =>
  obtain⟨v,ak,E⟩:=R hu n bC x h aC;obtain⟨G,ab⟩:=apX fz ak E rec;rw[h];exact⟨by simp only[ei,br,G,ab],rfl⟩
 |alloc k z _ h=>exact absurd h (u3 k z)
def adn {mem:Mem}{tm:Nat->I}{op:fh}{m:I}{e:Option (Key×Nat×List I)}(h:ei T mem tm op=some (m,e))(hw:fD op=false):e=none:=by
 rcases Lv h with h|⟨h,_⟩
 ·exact h
 ·rw[hw] at h;cases h
def ado {bc:k6}{rec:Rec}{j:Nat}{p:Bool×List km}(aa:∀eQ k z,bc.hc=some (eQ,k,z)->j≠eQ):bc.made (iy rec j p)=bc.made rec:=by
 unfold k6.made
 cases gY:bc.hc with
 |none=>rfl
 |some q =>
  obtain⟨eQ,k,z⟩:=q;simp only[iy,ar (λh=>aa eQ k z gY h.symm:¬ eQ=j)]
def adp {bc:k6}{j:Nat}{y:bh}(U:Jq bc j y)(u3:∀k z,y.op ≠ .alloc k z):∀eQ k z,bc.hc=some (eQ,k,z)->j≠eQ:=by
 cases U with
 |quiet _ aa=>exact aa
 |load _ _ _ _ aa=>exact aa
 |alloc k z _ h=>exact absurd h (u3 k z)
def apY {bc:k6}(fz:Fb bc){un:Nat->Bool}{j:Nat}{x y:bh}{rec rec1:Rec}{st st1 jS:a3}(hu:un j=true)(U:Jq bc j y)(dP:nT y x=true)(u2:rec j=none)
  (he:iC T fH j y rec st rec1 st1) (cr:wW bc un j y st.tm) (eG:B8 bc x rec1 st1 jS):∃iN,B8 bc x rec st iN/\iC T fH j y rec iN rec1 jS:=by
 obtain⟨a2,g3,Z⟩:=AT dP;obtain⟨args,bZ,bX,e4,ha,rfl⟩:=eG;have B9:∀m,args.map (aI (put st.tm y.dst m))=args.map (aI st.tm):=λm=>map_congr λs R=>kQ λae=>a2 s ae (uj (by rw[bZ];exact R));have AU:∀m,gy (put st.tm x.dst m) y.g=gy st.tm y.g:=λm=>G6 λs b R=>kQ λae=>Z s ae (G7 R);have G8:∀mem m,ei T mem (put st.tm x.dst m) y.op=ei T mem st.tm y.op:=λmem m=>Ls λs R=>kQ λae=>Z s ae (uj R);have za:∀m,cf (put st.tm x.dst m) y.op=cf st.tm y.op:=λm=>Lt λs R=>kQ λae=>Z s ae (uj R);have pN:∀m m',put (put st.tm y.dst m) x.dst m'=put (put st.tm x.dst m') y.dst m:=λm m'=>put_comm g3;rcases he with ⟨aC,rfl,rfl⟩|⟨aC,m,e,R,O,rfl,rfl⟩
 ·exact⟨_,⟨args,bZ,bX,by rw[<-e4,B9],ha,rfl⟩,.inl ⟨by simp only[AU];exact aC,rfl,by simp only[pN]⟩⟩
 ·by_cases u3:∃k z,y.op=.alloc k z
  ·obtain⟨k,z,ev⟩:=u3
   cases U with
   |quiet h _=>rw[ev] at h;cases h
   |load _ _ _ h _=>rw[ev] at h;cases h
   |alloc k' Hh gY h =>
    rw[ev] at h
    cases h;have uH:bc.made (iy rec j (fD y.op,cf st.tm y.op))=some (k,z):=by simp only[k6.made,gY,iy,if_true]
    have mP:bc.made rec=none:=by simp only[k6.made,gY,u2]
    rw[ev] at R;simp only[ei,br,bF,ec] at R;obtain⟨rfl,rfl⟩:=R;rw[uH] at ha ⊢;simp only[fB,oq] at ha;have y4:=fz.oo _ _ _ gY
    have lh:bp st.mem k=0:=by
     have:=congrFun ha k;simp[aR] at this;exact this
    have Ca:st.mem k=none:=by
     unfold bp at lh
     split at lh
     ·assumption
     ·omega
    have gA:st.mem=bc.tA:=by
     funext q
     by_cases aL:q=k
     ·subst aL;rw[Ca,y4]
     ·have:=congrFun ha q;simp[aR,aL] at this;exact this
    refine⟨⟨put st.tm x.dst bc.r,bc.k2⟩,⟨args,bZ,bX,by rw[<-e4,B9],by rw[mP];exact gA,by rw[mP];rfl⟩,.inr ⟨by simp only[AU];exact aC,.ptr k 0 0,some (k,0,z),?_,?_,?_,?_⟩⟩
    ·have hd:bp bc.k2 k=0:=by simp only[bp,fz.cx _ _ _ gY]
     rw[ev];simp only[ei,br,hd]
    ·simp only[za];exact O
    ·simp only[za]
    ·simp only[lh,oq,fB,pN]
  ·have Jr:∀k z,y.op ≠ .alloc k z:=λk z h=>u3 ⟨k,z,h⟩;have aa:=adp U Jr;have vF:=ado (rec:=rec) (p:=(fD y.op,cf st.tm y.op)) aa;rw[vF] at ha ⊢;obtain⟨T9,hw⟩:=adm (T:=T) fz hu U Jr cr aC rec;have ug:=adn R hw;subst ug;simp only[fB] at ha;rw[ha] at R;refine⟨⟨put st.tm x.dst bc.r,oq bc.k2 (bc.made rec)⟩,⟨args,bZ,bX,by rw[<-e4,B9],ha,rfl⟩,.inr ⟨by simp only[AU];exact aC,m,none,?_,?_,?_,?_⟩⟩
   ·simp only[G8];exact T9.trans R
   ·simp only[za];exact O
   ·simp only[za]
   ·simp only[fB,pN]
def apZ {bc:k6}(fz:Fb bc){un:Nat->Bool}{j:Nat}{x y:bh}{rec jR:Rec}{st st1 jS:a3}(hu:un j=true)(U:Jq bc j y)(dP:nT x y=true)(u2:rec j=none)
  (eG:B8 bc x rec st st1) (he:iC T fH j y rec st1 jR jS) (cr:wW bc un j y st1.tm):∃iN,iC T fH j y rec st jR iN/\wW bc un j y st.tm/\B8 bc x jR iN jS:=by
 obtain⟨a2,g3,Z⟩:=AT dP;obtain⟨args,bZ,bX,e4,ha,rfl⟩:=eG;have B9:∀m,args.map (aI (put st.tm y.dst m))=args.map (aI st.tm):=λm=>map_congr λs R=>kQ λae=>Z s ae (uj (by rw[bZ];exact R));have AU:∀m,gy (put st.tm x.dst m) y.g=gy st.tm y.g:=λm=>G6 λs b R=>kQ λae=>a2 s ae (G7 R);have G8:∀mem m,ei T mem (put st.tm x.dst m) y.op=ei T mem st.tm y.op:=λmem m=>Ls λs R=>kQ λae=>a2 s ae (uj R);have za:∀m,cf (put st.tm x.dst m) y.op=cf st.tm y.op:=λm=>Lt λs R=>kQ λae=>a2 s ae (uj R);have pN:∀m m',put (put st.tm x.dst m) y.dst m'=put (put st.tm y.dst m') x.dst m:=λm m'=>put_comm g3;have NW:wW bc un j y st.tm:=adl j y _ _ (λs R=>kQ λae=>a2 s ae R) cr;rcases he with ⟨aC,rfl,rfl⟩|⟨aC,m,e,R,O,rfl,rfl⟩<;>simp only[AU,G8,za] at *
 ·exact⟨_,.inl ⟨aC,rfl,rfl⟩,NW,⟨args,bZ,bX,by rw[B9];exact e4,ha,by simp only[pN]⟩⟩
 ·by_cases u3:∃k z,y.op=.alloc k z
  ·obtain⟨k,z,ev⟩:=u3
   cases U with
   |quiet h _=>rw[ev] at h;cases h
   |load _ _ _ h _=>rw[ev] at h;cases h
   |alloc k' Hh gY h =>
    rw[ev] at h
    cases h;have uH:bc.made (iy rec j (fD y.op,cf st.tm y.op))=some (k,z):=by simp only[k6.made,gY,iy,if_true]
    have mP:bc.made rec=none:=by simp only[k6.made,gY,u2]
    rw[ev] at R;rw[mP] at ha R;simp only[oq] at ha R;have y4:bp bc.tA k=0:=by simp only[bp,fz.oo _ _ _ gY]
    have hd:bp bc.k2 k=0:=by simp only[bp,fz.cx _ _ _ gY]
    simp only[ei,br,hd,bF,ec] at R;obtain⟨rfl,rfl⟩:=R;refine⟨⟨put st.tm y.dst (.ptr k 0 0),aR bc.tA k 0 z⟩,.inr ⟨aC,.ptr k 0 0,some (k,0,z),?_,O,rfl,?_⟩,NW,⟨args,bZ,bX,by rw[B9];exact e4,by rw[uH];rfl,?_⟩⟩
    ·rw[ev,ha];simp only[ei,br,y4]
    ·rw[ha]
     rfl
    ·rw[mP,uH];simp only[pN,oq,fB]
  ·have Jr:∀k z,y.op ≠ .alloc k z:=λk z h=>u3 ⟨k,z,h⟩;have aa:=adp U Jr;have vF:=ado (rec:=rec) (p:=(fD y.op,cf st.tm y.op)) aa;obtain⟨T9,hw⟩:=adm (T:=T) fz hu U Jr NW aC rec;have ug:=adn R hw;subst ug;rw[T9] at R;refine⟨⟨put st.tm y.dst m,st.mem⟩,.inr ⟨aC,m,none,by rw[ha];exact R,O,rfl,rfl⟩,NW,⟨args,bZ,bX,by rw[B9];exact e4,by rw[vF];exact ha,?_⟩⟩
   rw[vF];simp only[fB,pN]
def ap0 {own:List Nat}{al:Exit->Act->World->Prop}{bc:k6}(fz:Fb bc)(dY:sb P run){x:bh}{rec:Rec}{st bV:a3}{a:Act}{aU bO:eB}{cH dR:Nat}(dK:run bc.f bc.B7 aU cH=.ok bc.r bO dR)(ak:bc.tA=b3 aU)(E:bc.k2=b3 bO)
  (L:Dn P n kb own ops o x) (eG:B8 bc x rec st bV) (R:dq aQ n A b5 c4 a st w B):o.wp P a w (λcl aj=>∃aB,dq aQ n A b5 c4 cl bV aj aB) al:=by
 obtain⟨args,bZ,bX,e4,ha,rfl⟩:=eG;have aA:gk P kb own o.dst o.type o.op=some x.op:=getD_some L.op (by rw[bZ];simp);rw[bZ] at aA;obtain⟨Jg,Z,hh,iB⟩:=GY aA;have b0:=pJ R.jy iB;rw[e4] at b0;have h:=dY bc.f bc.B7 aU cH;rw[dK] at h;obtain⟨fO,adq⟩:=h;unfold Oper.wp;rw[vR Z hh fO,L.dst];have a4:=R.ok.b4;rw[ha] at a4
 cases z6:bc.made rec with
 |none =>
  rw[z6] at a4;simp only[oq] at a4;rw[ak] at a4;refine Calls.mono (adq A w B _ a4 b0) λe aj he=>?_;obtain⟨u,aB,rfl,c6,iz⟩:=he;refine⟨aB,R.put ?_ iz L.lt⟩;simp only[oq,E];exact c6
 |some p =>
  obtain⟨k,z⟩:=p
  have gY:∃eQ,bc.hc=some (eQ,k,z):=by
   unfold k6.made at z6
   split at z6
   ·cases z6
   ·rename_i eQ k' Hh gY
    split at z6
    ·cases z6
    ·cases z6;exact⟨eQ,gY⟩
  obtain⟨eQ,gY⟩:=gY;rw[z6] at a4;simp only[oq] at a4;obtain⟨e,O,_⟩:=a4.cW k 0 z (by simp[aR]);have gC:=apG a4 O (fz.oo _ _ _ gY) (fz.apU _ _ _ gY);have ue:ck w (bb (B5 A e) (l5 B k)) (l5 B k) bc.B7 (Jg.args.toList.map a.eval):=⟨b0.1,λi m v hm ai=>(b0.2 i m v hm ai).cut (λb U=>(T5 O b).1 U) (B4 (fz.apV _ _ _ gY) m (dM hm))⟩;rw[ak] at gC;refine Calls.mono (adq _ w _ _ gC ue) λe' aj he=>?_;obtain⟨u,hG,rfl,c6,iz⟩:=he;have uH:b3 bO k=none:=by rw[<-E];exact fz.cx _ _ _ gY
  obtain⟨ka,dr⟩:=apI a4 O (fz.apW _ _ _ gY) c6 uH;refine⟨_,R.put ?_ (dr _ _ iz) L.lt⟩;simp only[oq,E];exact ka
end Go.Mini
