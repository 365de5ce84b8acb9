/- A part of the proof. -/
import Derived.KernelRfl
import Derived.Test.YtplehnijfhgclaaGreatDoorRows
import Derived.Test.YtplehnijfhgclaaGreatDoorM04
set_option linter.unusedSimpArgs false
set_option linter.unusedVariables false
set_option linter.defProp false
set_option maxRecDepth 100000
set_option maxHeartbeats 4000000
noncomputable section
open Bool renaming and_eq_true->dp,and_false->jV,and_self->JE,and_true->sP,eq_iff_iff->FG,false_and->h9,false_eq_true->dm,not_eq_false->JP,not_eq_true'->lF,not_false->h8,not_true->fP,or_eq_true->sN,or_false->rE,true_and->iD
open Classical renaming byContradiction->CH,propDecidable->O9
open Decidable renaming em->eo
open Int renaming le_refl->WT,mul_ne_zero->wE,natAbs_eq->agY,natAbs_mul->kX,natAbs_natCast->ik,natAbs_neg->yb,sign_eq_zero_iff_zero->VU,sign_pos_iff->ag5,toNat_natCast->mY,zero_mul->ya
open List renaming all_eq_true->jP,any_eq_false->m4,any_eq_true->Ki,append_assoc->hj,append_of_mem->agD,cons_append->lo,count_replicate_self->JQ,ext_getElem?->ub,findIdx_getElem->afU,getD_eq_getElem?_getD->eH,getElem?_cons_zero->Hb,getElem?_eq_getElem->bw,getElem?_eq_none->mI,getElem?_eq_some_iff->dh,getElem?_map->bD,getElem?_range->qq,getElem?_replicate->PF,getElem?_set->lC,getElem_drop->EJ,getElem_mem->iJ,length->D,length_cons->jt,length_drop->rF,length_map->au,length_nil->ln,length_replicate->gv,length_set->gg,map_append->pZ,map_congr_left->G3,map_cons->hi,map_map->rz,map_nil->cE,map_set->BR,mem_append->hv,mem_cons->hq,mem_cons_of_mem->tv,mem_cons_self->kP,mem_iff_getElem?->rH,mem_map->hx,mem_map_of_mem->Wp,mem_of_getElem?->dM,mem_range->pP,mem_replicate->n4,nil_append->jU,not_mem_nil->Ks,range->jf,replicate->bT,set_cons_succ->EP,set_cons_zero->wL,take_add_one->jl,take_length->oc,take_of_length_le->dx,zipWith->VW,zipWith_cons_cons->afQ,zip_cons_cons->afP
open List.cons renaming injEq->bo
open Nat renaming add_comm->Ax,add_zero->ko,eq_zero_or_pos->jh,le_mul_of_pos_right->vG,le_of_ble_eq_true->p4,le_of_eq->w5,le_of_lt->zD,le_refl->bI,le_trans->cS,lt_irrefl->Wv,lt_of_lt_of_le->vt,lt_or_ge->fF,lt_succ_self->JR,mul_add->Py,mul_assoc->F1,mul_comm->pO,mul_le_mul->gw,mul_le_mul_left->Ii,mul_le_mul_right->mJ,mul_left_comm->afZ,mul_one->dU,mul_pos->F0,one_le_two_pow->F8,one_mul->tL,one_pos->Px,pow_add->jH,pow_le_pow_right->jC,pow_lt_pow_right->af0,pow_succ->sR,succ_mul->tZ,zero_add->kM,zero_le->ej
open Option renaming bind_none->kz,map_some->jQ
open Option.some renaming inj->mN,injEq->bF
open Prod renaming ext->cO,ext_iff->HR
open Prod.mk renaming injEq->ec
open Rat renaming add_zero->Pc,den_pos->aha,divInt->j1,divInt_eq_div->Pg,div_mul_cancel->Wf,intCast_add->Wn,intCast_eq_zero_iff->Kx,intCast_le_intCast->ahq,intCast_mul->j5,intCast_natCast->nf,intCast_sub->V3,le_of_lt->FY,le_refl->yO,le_trans->Pv,lt_iff->Ww,mul_add->agU,mul_comm->F4,mul_eq_zero->Kz,mul_le_mul_of_nonneg_left->agz,mul_le_mul_of_nonneg_right->Pu,mul_lt_mul_of_pos_left->agA,mul_nonneg->vo,mul_zero->FO,natCast_eq_zero_iff->agT,natCast_mul->F7,neg_num->af2,num_divInt_den->uL,num_eq_zero->VV,one_mul->Kw,sub_eq_add_neg->IA,zero_add->KI,zero_den->agw,zero_mul->VS,zero_num->agx
namespace Go.Mini
open Go
def oC (l:List aG)(n d:Int):Bool:=decide ((D l:Int)<=n)&&l.all λf=>pn f d
def afl {α:Type}{p:α->Bool}{l:List α}{i:Nat}{x:α}(J:l[i]?=some x):(l.take (i+1)).all p=((l.take i).all p&&p x):=by
 rw[jl,J,List.all_append];simp
def afm {α:Type}{p:α->Bool}{l:List α}{i:Nat}{x:α}(J:l[i]?=some x)(h:p x=false):l.all p=false:=by
 rw[List.all_eq_false];exact⟨x,dM J,by simp[h]⟩
abbrev OQ:(List aG)×Int×Int->List Data:=λ(l,n,d)=>[.ay (l.map aV),.int .i64 n,.int .i64 d]
def Kg:=bW OQ λ(l,n,d)=>cv (n<=1000000) (.same (.bool (oC l n d)))
def ar5:∀a b,OQ a=OQ b->a=b:=by
  rintro⟨iP,rq,d1⟩ ⟨ah,rr,d2⟩ h;simp only[bo,Data.int.injEq,Data.ay.injEq] at h;exact cO (map_inj lB _ _ h.1) (cO h.2.1.2 h.2.2.1.2)
@[go_sem] def ar6 (l n d):=cK Kg rfl ar5 (l,n,d) rfl
def ar7 (T:bj)(qg:T Hz=aW Kf):WF T afj Kg:=by
 refine cp λ(l,n,d)=>cN λZ=>⟨rfl,cq ?_⟩;simp only[afj,OQ,cg];simp only[go_sem,go_sem_proc,qg,au];refine du [0,1,2] [] (λ(i:Nat) tm mem=>i<=D l/\(l.take i).all (λf=>pn f d)=true/\tm 7=.M (.int .i64 i)) (λi=>D l-i) 0 (by refine⟨by omega,by simp,rfl⟩) ?_;intro vs ms aY aT;simp only[go_sem,go_sem_proc,qg,au] at aY aT;subst aY aT;rintro i tm mem O hm ⟨L,ag,bP⟩;simp only[go_sem,go_sem_proc,qg,bo] at O;obtain⟨ak,E,G⟩:=O
 by_cases cb:i<D l/\(i:Int)<=n
 ·obtain⟨av,fa⟩:=cb;obtain⟨⟨⟨a,b⟩,⟨c,e⟩⟩,J⟩:∃f,l[i]?=some f:=⟨_,bw av⟩;have d1:decide ((i:Int)<(D l:Int))=true:=dI;have d2:decide ((i:Int)<=n)=true:=kG fa;have cR:=hy (i:=i) (by omega);rcases vh:pn ((a,b),(c,e)) d
  ·have Q:oC l n d=false:=by unfold oC;rw[afm J vh,jV]
   rw[Q];refine ao ?_;repeat' (intro h<;>simp only[h,go_sem,go_sem_proc,qg,ak,E,G,bP,J,d1,d2,cR,vh,aV,au,bD]<;>try refine an ?_ ?_)
  ·refine ao ?_;repeat' (intro h<;>simp only[h,go_sem,go_sem_proc,qg,ak,E,G,bP,J,d1,d2,cR,vh,aV,au,bD]<;>try refine an ?_ ?_)
   exact⟨i+1,by omega,by omega,by rw[afl J,ag,vh];rfl,rfl⟩
 ·have Q:oC l n d=decide ((D l:Int)<=n):=by
   unfold oC
   by_cases Vu:(D l:Int)<=n
   ·have:i=D l:=by omega
    rw[this,oc] at ag;rw[ag,sP]
   ·rw[lP Vu,h9]
  rw[Q];rcases d1:decide ((i:Int)<(D l:Int))
  ·refine ao ?_;repeat' (intro h<;>simp only[h,go_sem,go_sem_proc,qg,ak,E,G,bP,d1,au]<;>try refine an ?_ ?_)
  ·have d2:decide ((i:Int)<=n)=false:=lP (by have:=of_decide_eq_true d1;omega);refine ao ?_;repeat' (intro h<;>simp only[h,go_sem,go_sem_proc,qg,ak,E,G,bP,d1,d2,au]<;>try refine an ?_ ?_)
def Ao (a b:List aG):Bool:=decide (a=b)
abbrev OR:(List aG)×(List aG)->List Data:=λ(l,ah)=>[.ay (l.map aV),.ay (ah.map aV)]
def FL:=bW OR λ(l,ah)=>cv (ia l/\ia ah) (.same (.bool (Ao l ah)))
def ar8:∀a b,OR a=OR b->a=b:=by
  rintro⟨iP,tc⟩ ⟨ah,td⟩ h;simp only[bo,Data.int.injEq,Data.ay.injEq] at h;exact cO (map_inj lB _ _ h.1) (map_inj lB _ _ h.2.1)
@[go_sem] def afn (l ah):=cK FL rfl ar8 (l,ah) rfl
def ar9 (T:bj)(CB:T Rc=aW OM):WF T afk FL:=by
 refine cp λ(l,ah)=>cN λZ=>⟨rfl,cq ?_⟩;simp only[afk,OR,cg];obtain⟨⟨bH,Ll⟩,bG,Qg⟩:=Z
 by_cases ad:(D l)=D ah
 ·have aK:(((D l:Nat):Int)==((D ah:Nat):Int))=true:=by simp;omega
  simp only[go_sem,go_sem_proc,CB,au,aK,fP,bne];refine du [0,1] [] (λ(i:Nat) tm mem=>i<=D l/\l.take i=ah.take i/\tm 5=.M (.int .i64 i)) (λi=>D l-i) 0 (by refine⟨by omega,by simp,rfl⟩) ?_;intro vs ms aY aT;simp only[go_sem,go_sem_proc,CB,au] at aY aT;subst aY aT;rintro i tm mem O hm ⟨L,ag,bl⟩;simp only[go_sem,go_sem_proc,CB,bo] at O;obtain⟨ak,E⟩:=O;rcases eo (i<D l) with av|bM
  ·obtain⟨⟨⟨a,b⟩,⟨c,e⟩⟩,J⟩:∃f,l[i]?=some f:=⟨_,bw av⟩;obtain⟨⟨⟨cl,dt⟩,⟨c',e'⟩⟩,af⟩:∃f,ah[i]?=some f:=⟨_,bw (by omega)⟩;obtain⟨wZ,tD⟩:=Ll _ (dM J);obtain⟨u9,va⟩:=Qg _ (dM af);dsimp only at wZ tD u9 va;have d1:decide ((i:Int)<(D l:Int))=true:=dI;have cR:=hy (i:=i) (by omega);rcases R:OL ((a,b),(c,e)) ((cl,dt),(c',e'))
   ·have Q:Ao l ah=false:=by
     refine lP λh=>of_decide_eq_false R ?_;rw[h,af] at J;exact (mN J).symm
    rw[Q];refine ao ?_;repeat' (intro (aw:_=_)<;>simp only[aw,go_sem,go_sem_proc,CB,ak,E,bl,J,af,d1,cR,wZ,tD,u9,va,R,aV,au,bD]<;>try refine an ?_ ?_)
   ·refine ao ?_;repeat' (intro (aw:_=_)<;>simp only[aw,go_sem,go_sem_proc,CB,ak,E,bl,J,af,d1,cR,wZ,tD,u9,va,R,aV,au,bD]<;>try refine an ?_ ?_)
    exact⟨i+1,by omega,by omega,by rw[jl,jl,J,af,ag,of_decide_eq_true R],rfl⟩
  ·have d1:decide ((i:Int)<(D l:Int))=false:=dV
   have Q:Ao l ah=true:=by
    refine kG ?_;rw[dx (by omega),dx (by omega)] at ag;exact ag
   rw[Q];refine ao ?_;repeat' (intro (aw:_=_)<;>simp only[aw,go_sem,go_sem_proc,CB,ak,E,bl,d1,au]<;>try refine an ?_ ?_)
 ·have aK:(((D l:Nat):Int)==((D ah:Nat):Int))=false:=by simp;omega
  have Q:Ao l ah=false:=lP λh=>ad (by rw[h]);rw[Q];refine ao ?_;repeat' (intro (aw:_=_)<;>simp only[aw,go_sem,go_sem_proc,CB,au,aK,h8,bne]<;>try refine an ?_ ?_)
def afo:bN:=b9 16 1 [.t 2] (Y [c9 1 417001 0,cw 2 false] (Y [a9 3 0 1,aS 4 1 3,aO 5 (.call DF [.t 4,.c (ba 4),.c (ba 1)]),F 6 5,jB 7 6 1 1,jX 8 6 1 7,fs 9 6 (.call DF [.t 8,.c (ba 4),.c (ba 1)]),eP 10 6 9,F 11 10,jB 12 11 2 1,jX 13 11 1 12,fs 14 11 (.call RC [.t 13]),eP 15 11 14,F 2 15] .ret))
def afp:bN:=b9 24 1 [.t 2] (Y [cw 2 false] (.seq (Y [bA 3 0] (eK 0 (.seq (Y [F 4 3,F 5 0,b8 6 5,bB 7 .lss 4 6,F 8 7,en 9 8 3,iE 10 8 .leq 9 10,eP 11 8 10] (dT 11 0)) (.seq (.block 1 (Y [F 14 0,F 15 3,b2 16 6 14 15,a9 17 2 16,bm 18 4 17,aO 19 (.call Hz [.t 18,.c (ba 1)]),fc 20 19] (cF 20 [cw 2 false]))) (.ops [F 12 3,bs 13 .add 12 1,F 3 13]))))) (Y [F 21 0,b8 22 21,bs 23 .leq 22 10,F 2 23] .ret)))
def afq:bN:=b9 11 1 [.t 2] (Y [c9 1 422001 0,cw 2 false] (Y [bm 3 4 1,dA 4 Rt 3,F 5 4,jB 6 5 0 1,jB 7 5 0 6,jX 8 5 1 7,iE 9 5 .geq 8 0,eP 10 5 9,F 2 10] .ret))
def afr:bN:=b9 41 1 [.t 2] (Y [c9 1 423001 0,cw 2 false] (Y [a9 5 0 1,aS 6 1 5,b8 7 6,F 3 7] (.seq (Y [a9 8 1 1,aS 9 1 8,b8 10 9,F 11 3,bB 12 .neq 10 11,F 13 12,gp 14 13 2 1,gh 15 13 1 14,gX 16 13 3,hB 17 13 (.call RE [.t 15,.t 16]),kR 18 13 17,dv 19 13 18] (cF 19 [cw 2 false])) (.seq (Y [bA 4 0] (eK 0 (.seq (Y [F 20 4,F 21 3,bB 22 .lss 20 21] (dT 22 0)) (.seq (.block 1 (Y [a9 25 0 1,aS 26 1 25,F 27 4,b2 28 4 26 27,bm 29 4 28,dA 30 DS 29,fc 31 30,F 32 31,gp 33 32 1 1,gh 34 32 1 33,gX 35 32 4,Bj 36 32 4 34 35,jz 37 32 4 36,hB 38 32 (.call DS [.t 37]),kR 39 32 38,dv 40 32 39] (cF 40 [cw 2 false]))) (.ops [F 23 4,bs 24 .add 23 1,F 4 24]))))) (Y [cw 2 true] .ret)))))
def afs:bN:=b9 64 2 [.t 4] (Y [cw 4 false] (.seq (Y [F 6 1,bs 7 .lss 6 0,F 8 7,gX 9 8 1,jA 10 8 .gtr 9 40,dv 11 8 10,F 12 11,gX 13 12 0,pR 14 12 13,jA 15 12 .gtr 14 400,dv 16 12 15] (cF 16 [cw 4 false])) (.seq (Y [bA 5 0] (eK 0 (.seq (Y [F 17 5,F 18 0,b8 19 18,bB 20 .lss 17 19] (dT 20 0)) (.seq (.block 1 (Y [F 23 0,F 24 5,b2 25 6 23 24,a9 26 0 25,aS 27 1 26,bs 28 .lss 27 0,F 29 28,gX 30 29 0,gX 31 29 5,Bj 32 29 6 30 31,gp 33 29 0 32,gh 34 29 1 33,gX 35 29 1,qC 36 29 .geq 34 35,dv 37 29 36,F 38 37,gX 39 38 0,gX 40 38 5,Bj 41 38 6 39 40,gp 42 38 1 41,gh 43 38 1 42,jA 44 38 .lss 43 0,dv 45 38 44,F 46 45,gX 47 46 0,gX 48 46 5,Bj 49 46 6 47 48,gp 50 46 1 49,gh 51 46 1 50,gX 52 46 1,qC 53 46 .geq 51 52,dv 54 46 53,F 55 54,gX 56 55 0,gX 57 55 5,Bj 58 55 6 56 57,gp 59 55 2 58,jz 60 55 4 59,hB 61 55 (.call DS [.t 60]),kR 62 55 61,dv 63 55 62] (cF 63 [cw 4 false]))) (.ops [F 21 5,bs 22 .add 21 1,F 5 22]))))) (Y [cw 4 true] .ret))))
def aft:bN:=b9 27 2 [.t 4] (Y [cw 4 false] (.seq (Y [F 6 0,b8 7 6,F 8 1,b8 9 8,bB 10 .neq 7 9] (cF 10 [cw 4 false])) (.seq (Y [bA 5 0] (eK 0 (.seq (Y [F 11 5,F 12 0,b8 13 12,bB 14 .lss 11 13] (dT 14 0)) (.seq (.block 1 (gq [F 17 0,F 18 5,b2 19 5 17 18,bm 20 5 19,F 21 1,F 22 5,b2 23 5 21 22,bm 24 5 23,ch 25 L4 20 24,fc 26 25] L7 (cF 26 [cw 4 false]))) (.ops [F 15 5,bs 16 .add 15 1,F 5 16]))))) (Y [cw 4 true] .ret))))
def afu:bN:=b9 53 2 [.t 4] (Y [cw 4 false] (.seq (Y [F 7 0,b8 8 7,F 9 1,b8 10 9,bB 11 .neq 8 10] (cF 11 [cw 4 false])) (.seq (Y [bA 5 0] (eK 0 (.seq (Y [F 12 5,F 13 0,b8 14 13,bB 15 .lss 12 14] (dT 15 0)) (.seq (.block 1 (.seq (gq [F 18 0,F 19 5,b2 20 1 18 19,aS 21 1 20,b8 22 21,F 23 1,F 24 5,b2 25 1 23 24,aS 26 1 25,b8 27 26,bB 28 .neq 22 27] L8 (cF 28 [cw 4 false])) (Y [bA 6 0] (eK 2 (.seq (Y [F 29 6,F 30 0,F 31 5,b2 32 1 30 31,aS 33 1 32,b8 34 33,bB 35 .lss 29 34] (dT 35 2)) (.seq (.block 3 (gq [F 38 0,F 39 5,b2 40 1 38 39,aS 41 1 40,F 42 6,b2 43 1 41 42,aS 44 1 43,F 45 1,F 46 5,b2 47 1 45 46,aS 48 1 47,F 49 6,b2 50 1 48 49,aS 51 1 50,bB 52 .neq 44 51] akS (cF 52 [cw 4 false]))) (.ops [F 36 6,bs 37 .add 36 1,F 6 37]))))))) (.ops [F 16 5,bs 17 .add 16 1,F 5 17]))))) (Y [cw 4 true] .ret))))
def afv:bN:=b9 27 2 [.cell 4 3 true] (Y [cX 4 428004 xV] (Y [F 7 0,aO 8 (.build xV [(2,1,.t 7)]),cX 5 428005 xV,bq 3 5 8] (.seq (.seq (.ghost (.Gb (.t 5) 0 428018 4) (.ghost (.Gb (.t 5) 1 428024 4) (.ops [bA 6 0]))) (eK 0 (.seq (Y [F 9 6,F 10 1,bB 11 .lss 9 10] (dT 11 0)) (.seq (.block 1 (gq [a9 14 0 5,aS 15 1 14,aO 16 (.call L5 [.c (ba 1)]),aO 17 (.ed 428017 false ez 4 1 [(0,4,.t 16)]),aO 18 (.app 428018 ez 64 (.t 15) (.t 17)),a9 19 0 5,bq 1 19 18] L6 (.nk [a9 20 1 5,aS 21 1 20,aO 22 (.call L5 [.c (ba 0)]),aO 23 (.ed 428023 false ez 4 1 [(0,4,.t 22)]),aO 24 (.app 428024 ez 64 (.t 21) (.t 23)),a9 25 1 5,bq 1 25 24] L6))) (.ops [F 12 6,bs 13 .add 12 1,F 6 13]))))) (Y [bm 26 3 5,bq 3 4 26] .ret))))
def afw:bN:=b9 11 1 [.cell 2 4 true] (Y [cX 2 430002 ez] (Y [F 6 0,aO 7 (.call HA [.t 6,.c (ba 1)]),F 5 7,bn 8 0 5,bn 9 1 5,cX 3 430003 ez,bq 4 3 8,F 4 9] (Y [bm 10 4 3,bq 4 2 10] .ret)))
def Kh:=bW k1 λ(s,l,s2,ah)=>cv (D l<=1000000/\D ah<=1000000) (.same (.bool (eV ((s,l),(s2,ah)))))
@[go_sem] def aAW (s l s2 ah):=cK Kh rfl uO (s,l,s2,ah) rfl
def asa (T:bj)(afx:T Rt=aW OO):WF T afq Kh:=by
 refine cp λ(s,l,s2,ah)=>cN λZ=>⟨rfl,cq ?_⟩;simp only[afq,k1,cg];obtain⟨bH,bG⟩:=Z;unfold eV;rcases Q:df ((s,l),(s2,ah))
 ·refine ao ?_;repeat' (intro h<;>simp only[h,go_sem,go_sem_proc,afx,bH,bG,Q]<;>try refine an ?_ ?_)
 ·refine ao ?_;repeat' (intro h<;>simp only[h,go_sem,go_sem_proc,afx,bH,bG,Q]<;>try refine an ?_ ?_)
def vi (ls:List bJ):Bool:=decide ((D ls:Int)<=10)&&ls.all λl=>pn l.2.2 1
abbrev OS:List bJ->List Data:=λ(ls:List bJ)=>[.ay (ls.map fK)]
def OT:=bW OS λ(ls:List bJ)=>some (.same (.bool (vi ls)))
def asb:∀a b,OS a=OS b->a=b:=by
  intro z0 z1 h;simp only[bo,Data.ay.injEq] at h;exact map_inj uY _ _ h.1
@[go_sem] def aAX (ls):=ux OT rfl asb ls rfl
def asc (T:bj)(qg:T Hz=aW Kf):WF T afp OT:=by
 refine cp λls=>⟨rfl,cq ?_⟩;simp only[afp,OS,cg];simp only[go_sem,go_sem_proc,qg,au];refine du [0] [] (λ(i:Nat) tm mem=>i<=D ls/\(ls.take i).all (λl=>pn l.2.2 1)=true/\tm 3=.M (.int .i64 i)) (λi=>D ls-i) 0 (by refine⟨ej _,by simp,rfl⟩) ?_;intro vs ms aY aT;simp only[go_sem,go_sem_proc,qg,au] at aY aT;subst aY aT;rintro i tm mem O hm ⟨L,ag,ab⟩;simp only[go_sem,go_sem_proc,qg,bo] at O;have ak:=O
 by_cases cb:i<D ls/\(i:Int)<=10
 ·obtain⟨av,fa⟩:=cb;obtain⟨⟨f,t,⟨a,b⟩,⟨c,e⟩⟩,J⟩:∃f,ls[i]?=some f:=⟨_,bw av⟩;have d1:decide ((i:Int)<(D ls:Int))=true:=dI;have d2:decide ((i:Int)<=10)=true:=kG fa;have cR:=hy (i:=i) (by omega);rcases vh:pn ((a,b),(c,e)) 1
  ·have Q:vi ls=false:=by unfold vi;rw[afm J vh,jV]
   rw[Q];refine ao ?_;repeat' (intro h<;>simp only[h,go_sem,go_sem_proc,qg,ak,ab,J,d1,d2,cR,vh,fK,aV,au,bD]<;>try refine an ?_ ?_)
  ·refine ao ?_;repeat' (intro h<;>simp only[h,go_sem,go_sem_proc,qg,ak,ab,J,d1,d2,cR,vh,fK,aV,au,bD]<;>try refine an ?_ ?_)
   exact⟨i+1,by omega,by omega,by rw[afl J,ag,vh];rfl,rfl⟩
 ·have Q:vi ls=decide ((D ls:Int)<=10):=by
   unfold vi
   by_cases Vu:(D ls:Int)<=10
   ·have:i=D ls:=by omega
    rw[this,oc] at ag;rw[ag,sP]
   ·rw[lP Vu,h9]
  rw[Q];rcases d1:decide ((i:Int)<(D ls:Int))
  ·refine ao ?_;repeat' (intro h<;>simp only[h,go_sem,go_sem_proc,qg,ak,ab,d1,au]<;>try refine an ?_ ?_)
  ·have d2:decide ((i:Int)<=10)=false:=lP (by have:=of_decide_eq_true d1;omega);refine ao ?_;repeat' (intro h<;>simp only[h,go_sem,go_sem_proc,qg,ak,ab,d1,d2,au]<;>try refine an ?_ ?_)
def Ap (cap base:List aG)(ls:List bJ):Bool:=oC cap 4 1&&(oC base 4 1&&vi ls)
def OU:=bW tx λ(cap,base,ls)=>some (.same (.bool (Ap cap base ls)))
@[go_sem] def asd (cap base ls):=ux OU rfl Jd (cap,base,ls) rfl
def ase (T:bj)(lM:T DF=aW Kg)(Vv:T RC=aW OT):WF T afo OU:=by
 refine cp λ(cap,base,ls)=>⟨rfl,cq ?_⟩;simp only[afo,tx,cg];have aM:(4:Int)<=1000000:=by decide
 unfold Ap;rcases aK:oC cap 4 1
 ·refine ao ?_;repeat' (intro h<;>simp only[h,go_sem,go_sem_proc,lM,Vv,aM,aK]<;>try refine an ?_ ?_)
 ·rcases az:oC base 4 1
  ·refine ao ?_;repeat' (intro h<;>simp only[h,go_sem,go_sem_proc,lM,Vv,aM,aK,az]<;>try refine an ?_ ?_)
  ·refine ao ?_;repeat' (intro h<;>simp only[h,go_sem,go_sem_proc,lM,Vv,aM,aK,az]<;>try refine an ?_ ?_)
def OV:=bW z2 λ(ls,n)=>cv (sa ls) (.same (.bool (p3 ls n)))
@[go_sem] def aAY (ls n):=cK OV rfl TS (ls,n) rfl
def asf (T:bj)(k7:T DS=aW Kh):WF T afs OV:=by
 refine cp λ(ls,n)=>cN λZ=>⟨rfl,cq ?_⟩;simp only[afs,z2,cg];obtain⟨Ad,fG⟩:=Z;unfold p3;rcases E:decide (n<0)
 ·rcases G:decide (n>40)
  ·rcases ab:decide ((D ls:Int)>400)
   ·simp only[h8,iD];simp only[go_sem,go_sem_proc,k7,E,G,ab,au];refine du [0,1] [] (λ(i:Nat) tm mem=>i<=D ls/\(∀x∈ls.take i,o9 n x=false)/\tm 5=.M (.int .i64 i)) (λi=>D ls-i) 0 (by refine⟨ej _,?_,rfl⟩;simp) ?_;intro vs ms aY aT;simp only[go_sem,go_sem_proc,k7,au] at aY aT;subst aY aT;rintro i tm mem O hm ⟨L,dn,kC⟩;simp only[go_sem,go_sem_proc,k7,bo] at O;obtain⟨eO,aK⟩:=O;rcases eo (i<D ls) with av|bM
    ·have J:=bw av;obtain⟨fY,gO⟩:=fG _ (iJ av);have lh:=λh=>Ez (p:=o9 n) dn J h;have oW:=λ(h:o9 n ls[i]=true)=>Ki.2 ⟨ls[i],iJ av,h⟩;generalize ls[i]=x at *;have d1:decide ((i:Int)<(D ls:Int))=true:=dI;have cR:=hy (i:=i) (by omega);obtain⟨a,b,⟨fe,fJ⟩,⟨gS,iT⟩⟩:=x;dsimp only at fY gO;have nq:o9 n (a,b,((fe,fJ),(gS,iT)))=(decide (a<0)||(decide (a>=n)||(decide (b<0)||(decide (b>=n) || !eV ((fe,fJ),(gS,iT)))))):=rfl;rcases gj:decide (a<0)
     ·rcases gd:decide (a>=n)
      ·rcases mx:decide (b<0)
       ·rcases r7:decide (b>=n)
        ·rcases OW:eV ((fe,fJ),(gS,iT))
         ·rw[oW (by rw[nq,gj,gd,mx,r7,OW];rfl)];refine ao ?_;repeat' (intro (aw:_=_)<;>simp only[aw,go_sem,go_sem_proc,k7,eO,aK,kC,J,d1,cR,fY,gO,gj,gd,mx,r7,OW,au,bD,fK,aV]<;>try refine an ?_ ?_)
         ·refine ao ?_;repeat' (intro (aw:_=_)<;>simp only[aw,go_sem,go_sem_proc,k7,eO,aK,kC,J,d1,cR,fY,gO,gj,gd,mx,r7,OW,au,bD,fK,aV]<;>try refine an ?_ ?_)
          exact⟨i+1,by omega,by omega,lh (by rw[nq,gj,gd,mx,r7,OW];rfl),rfl⟩
        ·rw[oW (by rw[nq,gj,gd,mx,r7];rfl)];refine ao ?_;repeat' (intro (aw:_=_)<;>simp only[aw,go_sem,go_sem_proc,k7,eO,aK,kC,J,d1,cR,fY,gO,gj,gd,mx,r7,au,bD,fK,aV]<;>try refine an ?_ ?_)
       ·rw[oW (by rw[nq,gj,gd,mx];rfl)];refine ao ?_;repeat' (intro (aw:_=_)<;>simp only[aw,go_sem,go_sem_proc,k7,eO,aK,kC,J,d1,cR,fY,gO,gj,gd,mx,au,bD,fK,aV]<;>try refine an ?_ ?_)
      ·rw[oW (by rw[nq,gj,gd];rfl)];refine ao ?_;repeat' (intro (aw:_=_)<;>simp only[aw,go_sem,go_sem_proc,k7,eO,aK,kC,J,d1,cR,fY,gO,gj,gd,au,bD,fK,aV]<;>try refine an ?_ ?_)
     ·rw[oW (by rw[nq,gj];rfl)];refine ao ?_;repeat' (intro (aw:_=_)<;>simp only[aw,go_sem,go_sem_proc,k7,eO,aK,kC,J,d1,cR,fY,gO,gj,au,bD,fK,aV]<;>try refine an ?_ ?_)
    ·have d1:decide ((i:Int)<(D ls:Int))=false:=dV;have iF:i=D ls:=by omega
     subst iF;rw[oc] at dn;have ji:ls.any (o9 n)=false:=by rw[m4];intro x J;rw[dn x J];decide
     rw[ji];refine ao ?_;repeat' (intro (aw:_=_)<;>simp only[aw,go_sem,go_sem_proc,k7,eO,aK,kC,d1,au]<;>try refine an ?_ ?_)
   ·refine ao ?_;repeat' (intro (aw:_=_)<;>simp only[aw,go_sem,go_sem_proc,k7,E,G,ab,au]<;>try refine an ?_ ?_)
  ·refine ao ?_;repeat' (intro (aw:_=_)<;>simp only[aw,go_sem,go_sem_proc,k7,E,G,au]<;>try refine an ?_ ?_)
 ·refine ao ?_;repeat' (intro (aw:_=_)<;>simp only[aw,go_sem,go_sem_proc,k7,E,au]<;>try refine an ?_ ?_)
def OX:=bW tx λ(cap,base,ls)=>cv (qS cap base ls) (.same (.bool (mv cap base ls)))
@[go_sem] def asg (cap base ls):=cK OX rfl Jd (cap,base,ls) rfl
def ash (T:bj)(yG:T RE=aW OV)(k7:T DS=aW Kh):WF T afr OX:=by
 refine cp λ(cap,base,ls)=>cN λZ=>⟨rfl,cq ?_⟩;simp only[afr,tx,cg];obtain⟨⟨dN,p8⟩,⟨nq,vb⟩,ov⟩:=Z;have Kj:((D base:Int)==(D cap:Int))=((D cap:Int)==(D base:Int)):=by rw[Bool.beq_comm]
 unfold mv;rcases aK:((D cap:Int)==(D base:Int))
 ·rw[aK] at Kj;refine ao ?_;repeat' (intro (aw:_=_)<;>simp only[aw,go_sem,go_sem_proc,yG,k7,ov,Kj,au,bne,h8]<;>try refine an ?_ ?_)
 ·rw[aK] at Kj;rcases az:p3 ls (D cap)
  ·refine ao ?_;repeat' (intro (aw:_=_)<;>simp only[aw,go_sem,go_sem_proc,yG,k7,ov,Kj,az,au,bne,fP]<;>try refine an ?_ ?_)
  ·have asi:(D cap)=D base:=by
                        have:(D cap:Int)=D base:=by simpa using aK
                        omega
   simp only[iD];simp only[go_sem,go_sem_proc,yG,k7,ov,Kj,az,au,bne,fP];refine du [1,3] [423001] (λ(i:Nat) tm mem=>i<=D cap/\(∀x∈cap.take i,(!eV x)=false)/\(∀x∈base.take i,(!eV x)=false)/\tm 4=.M (.int .i64 i)) (λi=>D cap-i) 0 (by refine⟨ej _,?_,?_,rfl⟩<;>simp) ?_;intro vs ms aY aT;simp only[go_sem,go_sem_proc,yG,k7,au] at aY aT;subst aY aT;rintro i tm mem O hm ⟨L,Vw,Vx,aM⟩;simp only[go_sem,go_sem_proc,yG,k7,bo] at O hm;obtain⟨E,ab⟩:=O;rcases eo (i<D cap) with av|bM
   ·have J:=bw av;obtain⟨fY,gO⟩:=p8 _ (iJ av);have Vy:i<D base:=by omega
    have af:=bw Vy;obtain⟨rY,Bz⟩:=vb _ (iJ Vy);have lh:=λh=>Ez (p:=λx => !eV x) Vw J h;have aad:=λh=>Ez (p:=λx => !eV x) Vx af h;have asj:=λ(h:(!eV cap[i])=true)=>(Ki (p:=λx => !eV x)).2 ⟨cap[i],iJ av,h⟩;have asl:=λ(h:(!eV base[i])=true)=>(Ki (p:=λx => !eV x)).2 ⟨base[i],iJ Vy,h⟩;generalize cap[i]=x at *;generalize base[i]=y at *;have d1:decide ((i:Int)<(D cap:Int))=true:=dI;have cR:=hy (i:=i) (by omega);obtain⟨⟨fe,fJ⟩,⟨gS,iT⟩⟩:=x;obtain⟨⟨uD,wc⟩,⟨asm,asn⟩⟩:=y;dsimp only at fY gO rY Bz;rcases gj:eV ((fe,fJ),(gS,iT))
    ·rw[asj (by rw[gj];rfl)];simp only[fP,h9];refine ao ?_;repeat' (intro (aw:_=_)<;>simp only[aw,go_sem,go_sem_proc,yG,k7,E,ab,aM,hm,J,af,d1,cR,fY,gO,rY,Bz,gj,aV,au,bD]<;>try refine an ?_ ?_)
    ·rcases gd:eV ((uD,wc),(asm,asn))
     ·rw[asl (by rw[gd];rfl)];simp only[fP,jV];refine ao ?_;repeat' (intro (aw:_=_)<;>simp only[aw,go_sem,go_sem_proc,yG,k7,E,ab,aM,hm,J,af,d1,cR,fY,gO,rY,Bz,gj,gd,aV,au,bD]<;>try refine an ?_ ?_)
     ·refine ao ?_;repeat' (intro (aw:_=_)<;>simp only[aw,go_sem,go_sem_proc,yG,k7,E,ab,aM,hm,J,af,d1,cR,fY,gO,rY,Bz,gj,gd,aV,au,bD]<;>try refine an ?_ ?_)
      exact⟨i+1,by omega,by omega,lh (by rw[gj];rfl),aad (by rw[gd];rfl),rfl⟩
   ·have d1:decide ((i:Int)<(D cap:Int))=false:=dV;have iF:i=D cap:=by omega
    subst iF;rw[oc] at Vw;rw[asi,oc] at Vx;have ji:(cap.any λf => !eV f)=false:=by rw[m4];intro x J;rw[Vw x J];decide
    have aso:(base.any λf => !eV f)=false:=by rw[m4];intro x J;rw[Vx x J];decide
    rw[ji,aso];refine ao ?_;repeat' (intro (aw:_=_)<;>simp only[aw,go_sem,go_sem_proc,yG,k7,E,ab,aM,hm,d1,au]<;>try refine an ?_ ?_)
def OY:=bW sZ λ(n:Int)=>cv (dQ n) (.same (.agg (aV (bU (n:Rat)))))
@[go_sem] def afy (n):=cK OY rfl HQ n rfl
def asp (T:bj)(Vz:T HA=aW Ke):WF T afw OY:=by
 refine cp λn=>cN λZ=>⟨rfl,cq ?_⟩;simp only[afw,sZ,cg];have E:dQ 1:=by unfold dQ;omega
 have h:=acS Z;generalize bU (n:Rat)=bK at *;obtain⟨⟨a,b⟩,⟨c,d⟩⟩:=bK;refine ao ?_;repeat' (intro (aw:_=_)<;>simp only[aw,go_sem,go_sem_proc,Vz,Z,E,h,e5,aV]<;>try refine an ?_ ?_)
def FM (a:List (List Nat)):Prop:=D a<=1000000/\∀x∈a,D x<=1000000
def afz:∀a b:List Nat,qb a=qb b->a=b:=λa b h=>by
 simp only[qb,bo,Data.ay.injEq,and_true] at h;exact map_inj (λx y h=>by simp only[nF,bo,Data.int.injEq,true_and,and_true] at h;omega) _ _ h
abbrev OZ:(List (List Nat))×(List (List Nat))->List Data:=λ(a,b)=>[.ay (a.map qb),.ay (b.map qb)]
def O0:=bW OZ λ(a,b)=>cv (FM a/\FM b) (.same (.bool (a==b)))
def asq:∀a b,OZ a=OZ b->a=b:=by
  rintro⟨cx,cz⟩ ⟨c3,ef⟩ h;simp only[bo,Data.ay.injEq,and_true] at h;exact cO (map_inj afz _ _ h.1) (map_inj afz _ _ h.2)
@[go_sem] def asr (a b):=cK O0 rfl asq (a,b) rfl
def ass (T:bj):WF T afu O0:=by
 refine cp λ(a,b)=>cN λZ=>⟨rfl,cq ?_⟩;simp only[afu,OZ,cg];obtain⟨⟨aAZ,ast⟩,⟨aA0,aA1⟩⟩:=Z;rcases ad:((D a:Int)==(D b:Int))
 ·have nc:(a==b)=false:=by rw[beq_eq_false_iff_ne];rintro rfl;simp at ad
  rw[nc];refine ao ?_;repeat' (intro h<;>simp only[h,go_sem,go_sem_proc,ad,au,bne,h8]<;>try refine an ?_ ?_)
 ·have hle:(D a)=D b:=by have:=eq_of_beq ad;omega
  simp only[go_sem,go_sem_proc,ad,au,bne,fP];refine du [0,1] [] (λ(i:Nat) tm mem=>i<=D a/\a.take i=b.take i/\tm 5=.M (.int .i64 i)) (λi=>D a-i) 0 (by refine⟨ej _,by simp,rfl⟩) ?_;intro vs ms aY aT;simp only[go_sem,go_sem_proc,au] at aY aT;subst aY aT;rintro i tm mem O hm ⟨L,dn,kC⟩;simp only[go_sem,go_sem_proc,bo] at O hm;obtain⟨eO,aK⟩:=O;rcases eo (i<D a) with av|bM
  ·have d1:decide ((i:Int)<(D a:Int))=true:=dI;have cR:=hy (i:=i) (by omega);obtain⟨x,J⟩:∃x,a[i]?=some x:=⟨_,bw av⟩;obtain⟨y,af⟩:∃x,b[i]?=some x:=⟨_,bw (by omega)⟩;have aA2:=ast x (dM J);rcases q:((D x:Int)==(D y:Int))
   ·have nc:(a==b)=false:=by rw[beq_eq_false_iff_ne];rintro rfl;rw[J] at af;cases af;simp at q
    rw[nc];refine ao ?_;repeat' (intro h<;>simp only[h,go_sem,go_sem_proc,eO,aK,kC,J,af,d1,q,qb,au,bD,bne,h8]<;>try refine an ?_ ?_)
   ·have kp:(D x)=D y:=by have:=eq_of_beq q;omega
    simp only[go_sem,go_sem_proc,eO,aK,kC,J,af,d1,q,qb,au,bD,bne,fP];refine du [0,1,5] [] (λ(k:Nat) tm mem=>k<=D x/\x.take k=y.take k/\tm 6=.M (.int .i64 k)) (λk=>D x-k) 0 (by refine⟨ej _,by simp,rfl⟩) ?_;intro vs ms aY aT;simp only[go_sem,go_sem_proc,eO,aK,kC] at aY aT;subst aY aT;clear eO aK kC hm tm mem;rintro k tm mem O hm ⟨vP,VA,sn⟩;simp only[go_sem,go_sem_proc,bo] at O hm;obtain⟨eO,aK,kC⟩:=O;rcases eo (k<D x) with ov|aA3
    ·have d2:decide ((k:Int)<(D x:Int))=true:=dI;have kD:=hy (i:=k) (by omega);obtain⟨u,hu⟩:∃u,x[k]?=some u:=⟨_,bw ov⟩;obtain⟨v,ai⟩:∃u,y[k]?=some u:=⟨_,bw (by omega)⟩;rcases gd:((u:Int)==(v:Int))
     ·have nc:(a==b)=false:=by
       rw[beq_eq_false_iff_ne];rintro rfl;rw[J] at af
       cases af;rw[hu] at ai
       cases ai;simp at gd
      rw[nc];refine ao ?_;repeat' (intro h<;>simp only[h,go_sem,go_sem_proc,eO,aK,kC,sn,J,af,hu,ai,d2,gd,qb,nF,au,bD,bne,h8]<;>try refine an ?_ ?_)
     ·have asu:u=v:=by have:=eq_of_beq gd;omega
      refine ao ?_;repeat' (intro h<;>simp only[h,go_sem,go_sem_proc,eO,aK,kC,sn,J,af,hu,ai,d2,kD,gd,qb,nF,au,bD,bne,fP]<;>try refine an ?_ ?_)
      exact⟨k+1,by omega,by omega,by rw[jl,jl,VA,hu,ai,asu],rfl⟩
    ·have d2:decide ((k:Int)<(D x:Int))=false:=dV;rw[dx (by omega),dx (by omega)] at VA;refine ao ?_;repeat' (intro h<;>simp only[h,go_sem,go_sem_proc,eO,aK,kC,sn,J,d2,cR,qb,au,bD]<;>try refine an ?_ ?_)
     exact⟨i+1,by omega,by omega,by rw[jl,jl,dn,J,af,VA],rfl⟩
  ·have d1:decide ((i:Int)<(D a:Int))=false:=dV;rw[dx (by omega),dx (by omega)] at dn;have nc:(a==b)=true:=by rw[dn];exact beq_self_eq_true _
   rw[nc];refine ao ?_;repeat' (intro h<;>simp only[h,go_sem,go_sem_proc,eO,aK,kC,d1,au]<;>try refine an ?_ ?_)
abbrev O1:(List bJ)×Nat->List Data:=λ(ls,n)=>[.ay (ls.map fK),.int .i64 n]
def O2:=bW O1 λ(ls,n)=>cv (n<=40) (.same (.agg [.ay ((bT n hX).map aV),.ay ((bT n fM).map aV),.ay (ls.map fK)]))
def asv:∀a b,O1 a=O1 b->a=b:=by
  rintro⟨z0,rq⟩ ⟨z1,rr⟩ h;simp only[bo,Data.ay.injEq,Data.int.injEq] at h;exact cO (map_inj uY _ _ h.1) (by have:=h.2.1.2;dsimp only;omega)
@[go_sem] def asw (ls n):=cK O2 rfl asv (ls,n) rfl
def asx (T:bj)(yH:T L5=aW OY):WF T afv O2:=by
 refine cp λ(ls,n)=>cN λZ=>⟨rfl,cq ?_⟩;simp only[afv,O1,cg];have aP:=afy 0 (by unfold dQ;omega);have E:=afy 1 (by unfold dQ;omega);rw[show bU ((0:Int):Rat)=fM from rfl] at aP;rw[show bU ((1:Int):Rat)=hX from rfl] at E;generalize fM=qZ at *;generalize hX=ax at *;simp only[go_sem,go_sem_proc,yH,];refine adS (kc:=428005) (g:=0) (off:=0) (cs:=[.nil,.nil,.M (.ay (ls.map fK))]) (by simp only[go_sem,go_sem_proc,yH]) (by simp[aR]) rfl (by decide) ?_;simp only[go_sem,go_sem_proc,yH,wL,EP];refine adS (kc:=428005) (g:=0) (off:=0) (cs:=[.ref 428018 0 4 0 0,.nil,.M (.ay (ls.map fK))]) (by simp only[go_sem,go_sem_proc,yH]) (by simp[aR,bp,hL]) rfl (by decide) ?_;simp only[go_sem,go_sem_proc,yH,wL,EP]
 refine du [1,4,5] [428004] (λ((i,g,bX):Nat×Nat×Nat) tm m=>i<=n/\tm 6=.M (.int .i64 i)/\m 428005=some (0,[.ref 428018 g 4 0 i,.ref 428024 bX 4 0 i,.M (.ay (ls.map fK))])/\m 428018=some (g,a7 aV (bT i ax))/\m 428024=some (bX,a7 aV (bT i qZ))) (λ(i,_,_)=>n-i) (0,0,0) (by
  refine⟨ej _,rfl,?_,?_,?_⟩
  ·simp[aR,bp,hL]
  ·simp[aR,a7,bp,hL]
  ·simp[aR,a7,bp,hL]) ?_
 intro vs ms aY aT;simp only[go_sem,go_sem_proc,yH,] at aY aT;subst aY aT;rintro⟨i,g,bX⟩ tm m O hm ⟨L,bz,hn,yz,VB⟩;simp only[go_sem,go_sem_proc,yH,bo] at O hm;obtain⟨cm,tB,fl⟩:=O;rcases eo (i<n) with av|bM
 ·have d1:decide ((i:Int)<(n:Int))=true:=dI;have cR:=hy (i:=i) (by omega);have VC:=oQ nC IG 428018 g 64 (bT i ax) ax (cs:=_) rfl (by rw[gv];omega) (by rw[gv];omega);have VD:=oQ nC IG 428024 bX 64 (bT i qZ) qZ (cs:=_) rfl (by rw[gv];omega) (by rw[gv];omega);rw[gv,<-List.replicate_succ'] at VC VD;obtain⟨⟨gE,hl⟩,⟨p7,sj⟩⟩:=qZ;obtain⟨⟨wZ,tD⟩,⟨u9,va⟩⟩:=ax;simp only[aV,hi,cE] at VC VD aP E;refine ao ?_;repeat' (intro (aw:_=_)<;>simp only[aw,go_sem,go_sem_proc,yH,cm,tB,fl,bz,hn,yz,VB,hm,d1,cR,aP,E,VC,VD,wL,EP]<;>try refine an ?_ ?_)
  exact⟨(i+1,g+1,bX+1),by dsimp only;omega,by dsimp only;omega,rfl,rfl,rfl,rfl⟩
 ·have d1:decide ((i:Int)<(n:Int))=false:=dV;have qa:i=n:=by omega
  subst qa;have I3:=λ(mem:Mem) (h:mem 428018=some (g,a7 aV (bT i ax)))=>oR (n:=4) nC h;have I4:=λ(mem:Mem) (h:mem 428024=some (bX,a7 aV (bT i qZ)))=>oR (n:=4) nC h;rw[gv] at I3 I4;simp only[go_sem,go_sem_proc,yH,cm,tB,fl,bz,hn,yz,VB,hm,d1];rw[I3 _ (by simp[aR,yz]),I4 _ (by simp[aR,VB])]
  rfl




section
variable {α:Type} {op:α->aG×Int} {e:α->aG}
end
def VE (N:Nat)(rows:List eg):Prop:=D rows=N/\∀x∈rows,x.1.length=N/\uP x
def VE.set {N:Nat}{rows:List eg}(h:VE N rows){i:Nat}{x:eg}(J:x.1.length=N/\uP x):VE N (rows.set i x):=by
 refine⟨by rw[gg];exact h.1,λy af=>?_⟩
 rcases List.mem_or_eq_of_mem_set af with af|rfl
 ·exact h.2 y af
 ·exact J




def VF (r:eg):List aG:=r.1++[r.2]
def Aq (X:List cQ)(bR:List eg):Prop:=X.map (·.2.2)=bR.map VF
def Aq.len {X:List cQ}{bR:List eg}(h:Aq X bR):(D X)=D bR:=by
 have:=congrArg D h
 simpa using this
def Aq.at_ {X:List cQ}{bR:List eg}(h:Aq X bR){i:Nat}{x:cQ}{r:eg}(J:X[i]?=some x)(Q:bR[i]?=some r):x.2.2=VF r:=by
 have:=congrArg (λl:List (List aG)=>l[i]?) h;simp only[bD,J,Q,jQ,bF] at this;exact this
def Aq.set {X:List cQ}{bR:List eg}(h:Aq X bR){i:Nat}{x:cQ}{r:eg}(nD:x.2.2=VF r):Aq (X.set i x) (bR.set i r):=by
 unfold Aq at h ⊢;rw[BR,BR,h,nD]


def VG {l:List Bool}{i j:Nat}(h:i<D l)(b:Bool):(l.set i b).getD j false=if i=j then b else l.getD j false:=by
 rw[eH,eH,lC]
 split
 ·rename_i e;subst e
  first|rfl|(rw[aq h];rfl)
 ·rfl
def oD (a b:List Bool):Prop:=∀i,a.getD i false=true->b.getD i false=true
def oD.refl (a:List Bool):oD a a:=λ_ h=>h
def oD.trans {a b c:List Bool}(h:oD a b)(G:oD b c):oD a c:=λi L=>G i (h i L)
section
variable (cap base:List aG) (ls:List bJ)
def FN (fed:List Bool)(i:Nat):Prop:=(cap.getD i bY).1.1>0/\((base.getD i bY).1.1>0\/∃l∈ls,l.2.1=(i:Int)/\l.2.2.1.1>0/\fed.getD l.1.toNat false=true)
def Ar (fed:List Bool):Prop:=∀i,i<(D cap)->FN cap base ls fed i->fed.getD i false=true
end
def FN.mono {cap base:List aG}{ls:List bJ}{a b:List Bool}{i:Nat}(h:FN cap base ls a i)(hle:oD a b):FN cap base ls b i:=⟨h.1,h.2.imp id fun⟨l,E,G,ab,aM⟩=>⟨l,E,G,ab,hle _ aM⟩⟩
def afA {cap:List aG}{i:Nat}{s:List Bool×Bool}(h:(oy cap i s).2=false):oy cap i s=s/\s.2=false/\((cap.getD i bY).1.1>0->s.1.getD i false=true):=by
 unfold oy at h ⊢
 split at h
 ·cases h
 ·rename_i Z;rw[ar Z];refine⟨rfl,h,λaF=>?_⟩;rw[dp,decide_eq_true_eq] at Z;rcases ag:s.1.getD i false
  ·exact absurd ⟨by rw[ag];rfl,aF⟩ Z
  ·rfl
def afB {cap base:List aG}{ls:List bJ}{aQ:List Bool}{i:Nat}{s:List Bool×Bool}(fb:Ar cap base ls aQ)(ad:s.1.length=D cap)(L:i<D cap)(h:oD s.1 aQ)(Q:(cap.getD i bY).1.1>0->FN cap base ls aQ i):oD (oy cap i s).1 aQ/\(oy cap i s).1.length=D cap:=by
 unfold oy
 split
 ·rename_i Z;rw[dp,decide_eq_true_eq] at Z;refine⟨λj aa=>?_,by rw[gg];exact ad⟩
  dsimp only at aa;rw[VG (by omega)] at aa
  split at aa
  ·rename_i e;subst e;exact fb i L (Q Z.2)
  ·exact h _ aa
 ·exact⟨h,ad⟩
def afC {cap base:List aG}:∀(k i:Nat) (s:List Bool×Bool),(qd cap base k i s).2=false->qd cap base k i s=s/\s.2=false/\∀j,i<=j->j<i+k->(base.getD j bY).1.1>0->(cap.getD j bY).1.1>0->s.1.getD j false=true
 |0,i,s,h=>⟨rfl,h,λj E G=>absurd G (by omega)⟩
 |k+1,i,s,h=>by
  unfold qd at h ⊢;obtain⟨E,G,ab⟩:=afC k (i+1) _ h
  by_cases U:decide ((base.getD i bY).1.1>0)=true
  ·rw[aq U] at E G ab ⊢;obtain⟨bZ,bX,e4⟩:=afA G;rw[bZ] at E ab ⊢;refine⟨E,bX,λj m6 vJ O3 O4=>?_⟩
   by_cases e:i=j
   ·subst e;exact e4 O4
   ·exact ab j (by omega) (by omega) O3 O4
  ·rw[ar U] at E G ab ⊢;refine⟨E,G,λj m6 vJ O3 O4=>?_⟩
   by_cases e:i=j
   ·subst e;exact absurd (kG O3) U
   ·exact ab j (by omega) (by omega) O3 O4
def VH {cap base:List aG}{ls:List bJ}{aQ:List Bool}(fb:Ar cap base ls aQ):∀(k i:Nat) (s:List Bool×Bool),s.1.length=(D cap)->i+k<=(D cap)->oD s.1 aQ->oD (qd cap base k i s).1 aQ/\(qd cap base k i s).1.length=D cap
 |0,_,_,ad,_,h=>⟨h,ad⟩
 |k+1,i,s,ad,O,h=>by
  unfold qd
  by_cases U:decide ((base.getD i bY).1.1>0)=true
  ·rw[aq U];obtain⟨bZ,bX⟩:=afB fb ad (by omega) h λZ=>⟨Z,.inl (of_decide_eq_true U)⟩;exact VH fb k (i+1) _ bX (by omega) bZ
  ·rw[ar U];exact VH fb k (i+1) _ ad (by omega) h
def afD {cap:List aG}:∀(ls:List bJ) (s:List Bool×Bool),(q1 cap ls s).2=false->q1 cap ls s=s/\s.2=false/\∀l∈ls,s.1.getD l.1.toNat false=true->l.2.2.1.1>0->(cap.getD l.2.1.toNat bY).1.1>0->s.1.getD l.2.1.toNat false=true
 | [],s,h=>⟨rfl,h,λl ad=>by cases ad⟩
 |l::r,s,h=>by
  unfold q1 at h ⊢;obtain⟨E,G,ab⟩:=afD r _ h
  by_cases U:(s.1.getD l.1.toNat false&&decide (l.2.2.1.1>0))=true
  ·rw[aq U] at E G ab ⊢;obtain⟨bZ,bX,e4⟩:=afA G;rw[bZ] at E ab ⊢;refine⟨E,bX,λx J ag hw FI=>?_⟩;rcases hq.1 J with rfl|J
   ·exact e4 FI
   ·exact ab x J ag hw FI
  ·rw[ar U] at E G ab ⊢;refine⟨E,G,λx J ag hw FI=>?_⟩;rcases hq.1 J with rfl|J
   ·exact absurd (by rw[ag,kG hw];rfl) U
   ·exact ab x J ag hw FI
def VI {cap base:List aG}{afE:List bJ}{aQ:List Bool}(fb:Ar cap base afE aQ):∀(ls:List bJ) (s:List Bool×Bool),(∀l∈ls,l∈afE/\0<=l.2.1/\l.2.1<D cap)->s.1.length=(D cap)->oD s.1 aQ->oD (q1 cap ls s).1 aQ/\(q1 cap ls s).1.length=D cap
 | [],_,_,ad,h=>⟨h,ad⟩
 |l::r,s,fa,ad,h=>by
  unfold q1;obtain⟨i0,i1,i2⟩:=fa l (by simp)
  by_cases U:(s.1.getD l.1.toNat false&&decide (l.2.2.1.1>0))=true
  ·rw[aq U];rw[dp,decide_eq_true_eq] at U;obtain⟨bZ,bX⟩:=afB (i:=l.2.1.toNat) fb ad (by omega) h λZ=>⟨Z,.inr ⟨l,i0,by omega,U.2,h _ U.1⟩⟩
   exact VI fb r _ (λx J=>fa x (by simp[J])) bX bZ
  ·rw[ar U];exact VI fb r _ (λx J=>fa x (by simp[J])) ad h
def afF {cap base:List aG}{ls:List bJ}(fa:∀l∈ls,0<=l.2.1/\l.2.1<D cap):∀(k:Nat) (fed:List Bool),D fed=(D cap)->fed.count false<k->Ar cap base ls (yA cap base ls k fed)/\(yA cap base ls k fed).length=D cap/\∀aQ,Ar cap base ls aQ->oD fed aQ->oD (yA cap base ls k fed) aQ
 |0,_,_,h=>absurd h (by omega)
 |k+1,fed,ad,Z=>by
  have mg:Ai (D cap) (fed.count false) (so cap base ls fed):=U9 ls _ (U8 (D cap) 0 (fed,false) ⟨ad,bI _,λh=>by cases h⟩ (by omega)) fa
  have hle:∀aQ,Ar cap base ls aQ->oD fed aQ->oD (so cap base ls fed).1 aQ:=λaQ fb h=>by
   obtain⟨a,b⟩:=VH fb (D cap) 0 (fed,false) ad (by omega) h;exact (VI fb ls _ (λl ad=>⟨ad,fa l ad⟩) b a).1
  have kO:(so cap base ls fed).2=false->(so cap base ls fed).1=fed/\Ar cap base ls fed:=λh=>by
   unfold so at h ⊢;obtain⟨E,G,ab⟩:=afD ls _ h;obtain⟨bZ,bX,e4⟩:=afC (D cap) 0 (fed,false) G;rw[E,bZ];rw[bZ] at ab;refine⟨rfl,λi L Q=>?_⟩;obtain⟨ew,gr|⟨l,ad,eZ,hw,ag⟩⟩:=Q
   ·exact e4 i (by omega) (by omega) gr ew
   ·have rn:l.2.1.toNat=i:=by omega
    have:=ab l ad ag hw (by rw[rn];exact ew);rw[rn] at this;exact this
  unfold yA;rcases aL:(so cap base ls fed).2
  ·simp only[dm,if_false];obtain⟨e,dN⟩:=kO aL;rw[e];exact⟨dN,ad,λaQ _ h=>h⟩
  ·simp only[if_true];obtain⟨i1,i2,i3⟩:=mg;have:=i3 aL;obtain⟨bZ,bX,e4⟩:=afF fa k (so cap base ls fed).1 i1 (by omega);exact⟨bZ,bX,λaQ fb h=>e4 aQ fb (hle aQ fb h)⟩
def VJ {fed:List Bool}{j:Nat}:∀(k i:Nat) (c:List aG),j<(D c)->(ve fed k i c)[j]?=if i<=j/\j<i+k/\fed.getD j false=false then some fM else c[j]?
 |0,i,c,aa=>by rw[ar (by omega)];rfl
 |k+1,i,c,aa=>by
  unfold ve
  by_cases ag:fed.getD i false=true
  ·rw[aq ag,VJ k (i+1) c aa]
   by_cases e:i=j
   ·subst e;rw[ar (by omega),ar (by rw[ag];simp)]
   ·congr 1
    exact propext ⟨fun⟨a,b,c⟩=>⟨by omega,by omega,c⟩,fun⟨a,b,c⟩=>⟨by omega,by omega,c⟩⟩
  ·rw[ar ag,VJ k (i+1) (c.set i fM) (by rw[gg];exact aa),lC];have Qb:fed.getD i false=false:=by simpa using ag
   by_cases e:i=j
   ·subst e;rw[ar (by omega),aq rfl,aq aa,aq ⟨bI _,by omega,Qb⟩]
   ·rw[ar e]
    congr 1
    exact propext ⟨fun⟨a,b,c⟩=>⟨by omega,by omega,c⟩,fun⟨a,b,c⟩=>⟨by omega,by omega,c⟩⟩

def afG:bN:=b9 136 2 [.t 4] (Y [c9 2 407002 0,cw 4 false] (Y [aO 19 (.call RA []),F 5 19] (Y [a9 20 0 2,aS 21 1 20,b8 22 21,F 6 22] (.seq (Y [bm 23 3 2,dA 24 RB 23,fc 25 24,F 26 25,gX 27 26 1,hB 28 26 (.call DF [.t 27,.c (ba 4),.c (ba 1)]),kR 29 26 28,dv 30 26 29,F 31 30,jz 32 31 3 2,hB 33 31 (.call RD [.t 32]),kR 34 31 33,dv 35 31 34] (cF 35 [F 36 5,F 4 36])) (Y [a9 38 2 2,aS 39 1 38,F 40 6,ch 41 DQ 39 40,F 37 41,bn 42 0 37,bn 43 1 37,bn 44 2 37,F 7 42,F 8 43,F 9 44] (Y [a9 45 2 2,aS 46 1 45,F 47 6,ch 48 RH 46 47,cX 10 407010 xV,bq 3 10 48] (.seq (Y [F 49 9,bs 50 .eql 49 0] (fA 50 (Y [bm 52 3 2,dA 53 xU 52,F 51 53,bn 54 0 51,bn 55 1 51,bn 56 2 51,F 11 54,F 12 55,F 13 56] (Y [bm 58 3 2,dA 59 Rw 58,F 57 59,bn 60 0 57,bn 61 1 57,bn 62 2 57,F 14 60,F 15 61,F 16 62] (Y [F 63 5,F 64 63,jB 65 64 2 2,jX 66 64 1 65,en 67 64 6,en 68 64 7,fs 69 64 (.call DR [.t 66,.t 67,.t 68]),eP 70 64 69,F 71 70,en 72 71 8,HN 73 71 72,iE 74 71 .eql 73 0,eP 75 71 74,F 76 75,en 77 76 13,iE 78 76 .eql 77 0,eP 79 76 78,F 80 79,en 81 80 16,iE 82 80 .eql 81 0,eP 83 80 82,F 84 83,en 85 84 11,en 86 84 14,fs 87 84 (.call xS [.t 85,.t 86]),eP 88 84 87,F 4 88] .ret))) .skip)) (Y [bA 17 0] (.seq (Y [bA 18 0] (eK 0 (.seq (Y [F 89 18,F 90 8,b8 91 90,bB 92 .lss 89 91] (dT 92 0)) (.seq (.block 1 (.ops [F 95 17,F 96 8,F 97 18,b2 98 4 96 97,a9 99 0 98,a9 100 0 99,aS 101 1 100,bB 102 .add 95 101,F 17 102])) (.ops [F 93 18,bs 94 .add 93 1,F 18 94]))))) (Y [F 103 5,F 104 103,en 105 104 9,iE 106 104 .eql 105 16,eP 107 104 106,F 108 107,en 109 108 7,HN 110 108 109,iE 111 108 .eql 110 0,eP 112 108 111,F 113 112,en 114 113 17,iE 115 113 .gtr 114 0,eP 116 113 115,F 117 116,DT 118 117 3 10,en 119 117 8,fs 120 117 (.call L2 [.t 118,.t 119]),eP 121 117 120,F 122 121,DT 123 122 3 10,jB 124 122 1 10,jX 125 122 1 124,fs 126 122 (.call L2 [.t 123,.t 125]),eP 127 122 126,F 128 127,jB 129 128 2 2,jX 130 128 1 129,en 131 128 6,en 132 128 1,fs 133 128 (.call DR [.t 130,.t 131,.t 132]),HM 134 128 133,eP 135 128 134,F 4 135] .ret))))))))))
def afH:bN:=b9 14 2 [.cell 4 4 true] (Y [cX 4 412004 ez] (Y [F 8 0,F 9 1,ch 10 HA 8 9,F 7 10,bn 11 0 7,bn 12 1 7,cX 5 412005 ez,bq 4 5 11,F 6 12] (Y [bm 13 4 5,bq 4 4 13] .ret)))
def afI:bN:=b9 169 0 [.t 0] (Y [cw 0 false] (Y [aO 31 (.call n0 [.c (.M (.str [98,97,115,101,32,43,32,114,97,116,101,32,99,32,47,32,50,32,43,32,114,97,116,101,32,100,32,42,32,51]))]),F 30 31,bn 32 0 30,bn 33 1 30,bn 34 2 30,bn 35 3 30,F 1 32,F 2 33,F 3 34,F 4 35] (Y [aO 37 (.call n0 [.c (.M (.str [49,32,45,32,114,97,116,101,32,99]))]),F 36 37,bn 38 0 36,bn 39 1 36,bn 40 2 36,bn 41 3 36,F 5 38,F 6 39,F 7 40,F 8 41] (Y [aO 43 (.call n0 [.c (.M (.str [114,97,116,101,32,99,32,42,32,114,97,116,101,32,99]))]),F 42 43,bn 44 0 42,bn 45 1 42,bn 46 2 42,bn 47 3 42,F 9 44,F 10 45,F 11 46,F 12 47] (Y [aO 49 (.call n0 [.c (.M (.str [102,97,99,116,32,97,32,45,32,102,97,99,116,32,98,32,43,32,114,97,116,101,32,99]))]),F 48 49,bn 50 0 48,bn 51 1 48,bn 52 2 48,bn 53 3 48,F 13 50,F 14 51,F 15 52,F 16 53] (Y [aO 54 (.call mX [.c (ba 1),.c (ba 2)]),aO 55 (.build [ba 0,ba 0,ba 0,.nil,ba 0,.nil] [(0,1,.c (ba 0)),(1,1,.c (ba 1)),(2,4,.t 54)]),aO 56 (.call mX [.c (ba 1),.c (ba 1)]),aO 57 (.build [ba 0,ba 0,ba 0,.nil,ba 0,.nil] [(0,1,.c (ba 1)),(1,1,.c (ba 0)),(2,4,.t 56)]),aO 58 (.ed 413058 false [ba 0,ba 0,ba 0,.nil,ba 0,.nil,ba 0,ba 0,ba 0,.nil,ba 0,.nil] 6 2 [(0,6,.t 55),(6,6,.t 57)]),F 17 58] (Y [aO 59 (.call mX [.c (ba 1),.c (ba 1)]),aO 60 (.build [ba 0,ba 0,ba 0,.nil,ba 0,.nil] [(0,1,.c (ba 0)),(1,1,.c (ba 1)),(2,4,.t 59)]),aO 61 (.call mX [.c (ba 1),.c (ba 1)]),aO 62 (.build [ba 0,ba 0,ba 0,.nil,ba 0,.nil] [(0,1,.c (ba 1)),(1,1,.c (ba 0)),(2,4,.t 61)]),aO 63 (.ed 413063 false [ba 0,ba 0,ba 0,.nil,ba 0,.nil,ba 0,ba 0,ba 0,.nil,ba 0,.nil] 6 2 [(0,6,.t 60),(6,6,.t 62)]),F 18 63] (Y [F 65 17,aO 66 (.call DQ [.t 65,.c (ba 2)]),F 64 66,bn 67 0 64,bn 68 1 64,bn 69 2 64,F 19 67,F 20 68,F 21 69] (Y [F 71 18,aO 72 (.call DQ [.t 71,.c (ba 2)]),F 70 72,bn 73 0 70,bn 74 1 70,bn 75 2 70,F 22 73,F 23 74,F 24 75] (Y [aO 77 (.call mX [.c (ba 10),.c (ba 1)]),aO 78 (.call mX [.c (ba 10),.c (ba 1)]),aO 79 (.ed 413079 false [ba 0,.nil,ba 0,.nil,ba 0,.nil,ba 0,.nil] 4 2 [(0,4,.t 77),(4,4,.t 78)]),aO 80 (.call mX [.c (ba 1),.c (ba 1)]),aO 81 (.call mX [.c (ba 2),.c (ba 1)]),aO 82 (.ed 413082 false [ba 0,.nil,ba 0,.nil,ba 0,.nil,ba 0,.nil] 4 2 [(0,4,.t 80),(4,4,.t 81)]),F 83 17,aO 84 (.build xV [(0,1,.t 79),(1,1,.t 82),(2,1,.t 83)]),dA 85 xU 84,F 76 85,bn 86 0 76,bn 87 1 76,bn 88 2 76,F 25 86,F 26 87,F 27 88] (Y [F 89 4,bs 90 .eql 89 0,F 91 90,en 92 91 1,fs 93 91 (.call mX [.c (ba 1),.c (ba 2)]),fs 94 91 (.call mX [.c (ba 3),.c (ba 1)]),fs 95 91 (.ed 413095 false [ba 0,.nil,ba 0,.nil,ba 0,.nil,ba 0,.nil] 4 2 [(0,4,.t 93),(4,4,.t 94)]),fs 96 91 (.call xS [.t 92,.t 95]),eP 97 91 96,F 98 97,en 99 98 2,fs 100 98 (.call mX [.c (ba 1),.c (ba 1)]),fs 101 98 (.ed 413101 false ez 4 1 [(0,4,.t 100)]),fs 102 98 (.call xS [.t 99,.t 101]),eP 103 98 102,F 104 103,en 105 104 3,fs 106 104 (.build [ba 0,ba 0,ba 0,.M (.str []),.nil] [(0,1,.c (ba 1)),(3,1,.c (.M (.str [98,97,115,101])))]),fs 107 104 (.ed 413107 false [ba 0,ba 0,ba 0,.M (.str []),.nil] 5 1 [(0,5,.t 106)]),fs 108 104 (.call RF [.t 105,.t 107]),eP 109 104 108,F 110 109,en 111 110 8,iE 112 110 .eql 111 16,eP 113 110 112,F 114 113,en 115 114 12,iE 116 114 .eql 115 16,eP 117 114 116,F 118 117,en 119 118 16,iE 120 118 .eql 119 16,eP 121 118 120,F 28 121] (Y [F 122 21,bs 123 .eql 122 0,F 124 123,en 125 124 19,fs 126 124 (.call mX [.c (ba 4),.c (ba 1)]),fs 127 124 (.call mX [.c (ba 3),.c (ba 1)]),fs 128 124 (.ed 413128 false [ba 0,.nil,ba 0,.nil,ba 0,.nil,ba 0,.nil] 4 2 [(0,4,.t 126),(4,4,.t 127)]),fs 129 124 (.call xS [.t 125,.t 128]),eP 130 124 129,F 131 130,en 132 131 17,en 133 131 19,fs 134 131 (.call DR [.t 132,.c (ba 2),.t 133]),eP 135 131 134,F 136 135,en 137 136 24,iE 138 136 .eql 137 16,eP 139 136 138,F 140 139,en 141 140 23,fs 142 140 (.call mX [.c (ba 1),.c (ba 1)]),fs 143 140 (.call mX [.c (ba 1),.c (ba 1)]),fs 144 140 (.ed 413144 false [ba 0,.nil,ba 0,.nil,ba 0,.nil,ba 0,.nil] 4 2 [(0,4,.t 142),(4,4,.t 143)]),fs 145 140 (.call xS [.t 141,.t 144]),eP 146 140 145,F 29 146] (Y [F 147 28,F 148 147,en 149 148 29,eP 150 148 149,F 151 150,en 152 151 27,iE 153 151 .eql 152 0,eP 154 151 153,F 155 154,en 156 155 25,fs 157 155 (.call mX [.c (ba 6),.c (ba 1)]),fs 158 155 (.call mX [.c (ba 5),.c (ba 1)]),fs 159 155 (.ed 413159 false [ba 0,.nil,ba 0,.nil,ba 0,.nil,ba 0,.nil] 4 2 [(0,4,.t 157),(4,4,.t 158)]),fs 160 155 (.call xS [.t 156,.t 159]),eP 161 155 160,F 162 161,en 163 162 26,fs 164 162 (.ed 413164 false [ba 0] 1 1 [(0,1,.c (ba 1))]),fs 165 162 (.ed 413165 false [ba 0] 1 1 [(0,1,.c (ba 0))]),fs 166 162 (.ed 413166 false [.nil,.nil] 1 2 [(0,1,.t 164),(1,1,.t 165)]),fs 167 162 (.call RG [.t 163,.t 166]),eP 168 162 167,F 0 168] .ret)))))))))))))
def afJ:bN:=b9 60 2 [.t 4] (Y [c9 2 414002 0,c9 3 414003 1,cw 4 false] (.seq (Y [a9 6 0 2,aS 7 1 6,a9 8 0 3,aS 9 1 8,bB 10 .neq 7 9,F 11 10,gp 12 11 1 2,gh 13 11 1 12,gp 14 11 1 3,gh 15 11 1 14,qC 16 11 .neq 13 15,dv 17 11 16,F 18 17,gp 19 18 2 2,gh 20 18 1 19,gp 21 18 2 3,gh 22 18 1 21,qC 23 18 .neq 20 22,dv 24 18 23,F 25 24,gp 26 25 3 2,gh 27 25 1 26,gp 28 25 3 3,gh 29 25 1 28,qC 30 25 .neq 27 29,dv 31 25 30,F 32 31,gp 33 32 4 2,gh 34 32 1 33,pR 35 32 34,gp 36 32 4 3,gh 37 32 1 36,pR 38 32 37,qC 39 32 .neq 35 38,dv 40 32 39] (cF 40 [cw 4 false])) (.seq (Y [bA 5 0] (eK 0 (.seq (Y [F 41 5,a9 42 4 2,aS 43 1 42,b8 44 43,bB 45 .lss 41 44] (dT 45 0)) (.seq (.block 1 (gq [a9 48 4 2,aS 49 1 48,F 50 5,b2 51 5 49 50,bm 52 5 51,a9 53 4 3,aS 54 1 53,F 55 5,b2 56 5 54 55,bm 57 5 56,ch 58 L4 52 57,fc 59 58] Y3 (cF 59 [cw 4 false]))) (.ops [F 46 5,bs 47 .add 46 1,F 5 47]))))) (Y [cw 4 true] .ret))))
def Kk:List UInt8:=[98,97,115,101,32,43,32,114,97,116,101,32,99,32,47,32,50,32,43,32,114,97,116,101,32,100,32,42,32,51]
def Kl:List UInt8:=[49,32,45,32,114,97,116,101,32,99]
def Km:List UInt8:=[114,97,116,101,32,99,32,42,32,114,97,116,101,32,99]
def Kn:List UInt8:=[102,97,99,116,32,97,32,45,32,102,97,99,116,32,98,32,43,32,114,97,116,101,32,99]
def Ko:Data:=.dc [.ay [[.int .i64 1,.ay [[.int .i64 1]],.int .i64 1,.ay [[.int .i64 2]]],[.int .i64 1,.ay [[.int .i64 3]],.int .i64 1,.ay [[.int .i64 1]]]],.ay [[.int .i64 1,.ay [[.int .i64 1]],.int .i64 1,.ay [[.int .i64 1]]]],.ay [[.int .i64 1,.int .i64 0,.int .i64 0,.str [98,97,115,101],.ay []]],.int .i64 0]
def vj:Data:=.dc [.ay [],.ay [],.ay [],.int .i64 16]
open Classical in
def vk:List Data->Option c8:=λds=>if ds=[.str Kk] then some (.same Ko) else if ds=[.str Kl]\/ds=[.str Km]\/ds=[.str Kn] then some (.same vj) else none
def asy:vk [.str Kk]=some (.same Ko):=by unfold vk;rw[aq rfl]
def asz:vk [.str Kl]=some (.same vj):=by
 unfold vk;rw[ar (λh=>by simp only[bo,Data.str.injEq] at h;exact absurd h.1 (by decide)),aq (.inl rfl)]
def asA:vk [.str Km]=some (.same vj):=by
 unfold vk;rw[ar (λh=>by simp only[bo,Data.str.injEq] at h;exact absurd h.1 (by decide)),aq (.inr (.inl rfl))]
def asB:vk [.str Kn]=some (.same vj):=by
 unfold vk;rw[ar (λh=>by simp only[bo,Data.str.injEq] at h;exact absurd h.1 (by decide)),aq (.inr (.inr rfl))]
def Kp:=bW v9 λ(p,q)=>cv (dQ p/\dQ q) (.same (.agg (aV (hR (bt p) (bt q)).1)))
@[go_sem] def asC (p q):=cK Kp rfl Mf (p,q) rfl
def asD (T:bj)(Vz:T HA=aW Ke):WF T afH Kp:=by
 refine cp λ(p,q)=>cN λZ=>⟨rfl,cq ?_⟩;simp only[afH,v9,cg];generalize hP:hR (bt p) (bt q)=N at *;obtain⟨⟨⟨a,b⟩,⟨c,d⟩⟩,e⟩:=N;refine ao ?_;repeat' (intro h<;>simp only[h,go_sem,go_sem_proc,Vz,Z,hP,e5,aV]<;>try refine an ?_ ?_)
abbrev O5:Int×Int×Int×(List UInt8)->List Data:=λ(a,b,c,s)=>[.agg [.int .i64 a,.int .i64 b,.int .i64 c,.str s,.ay []],.agg [.int .i64 a,.int .i64 b,.int .i64 c,.str s,.ay []]]
def O6:=bW O5 λ(a,b,c,s)=>some (.same (.bool true))
def asE:∀a b,O5 a=O5 b->a=b:=by
  rintro⟨cx,cz,cH,s1⟩ ⟨c3,ef,dR,s2⟩ h;simp only[bo,Data.int.injEq,Data.agg.injEq,Data.ay.injEq,Data.bool.injEq,Data.str.injEq,Data.ptr.injEq,Data.dc.injEq,ec,true_and,and_true] at h ⊢
  first|exact h|simpa [HR,and_assoc] using h|grind
@[go_sem] def asF (a b c s):=ux O6 rfl asE (a,b,c,s) rfl
def asG (T:bj):WF T afJ O6:=by
 refine cp λ(a,b,c,s)=>⟨rfl,cq ?_⟩;simp only[afJ,O5,cg];simp only[go_sem,go_sem_proc,beq_self_eq_true,bne,fP,ln];refine du [2,3] [414002,414003] (λ(i:Nat) tm mem=>tm 5=.M (.int .i64 0)) (λi=>i) 0 rfl ?_;intro vs ms aY aT;simp only[go_sem,go_sem_proc] at aY aT;subst aY aT;rintro i tm mem O hm bl;simp only[go_sem,go_sem_proc,bo] at O hm;obtain⟨dX,eY⟩:=O;obtain⟨bO,hK⟩:=hm;refine ao ?_;repeat' (intro h<;>simp only[h,go_sem,go_sem_proc,dX,eY,bl,bO,hK,ln,show decide ((0:Int)<((0:Nat):Int))=false from rfl]<;>try refine an ?_ ?_)
abbrev O7:Int×Int×Int×(List UInt8)->List Data:=λ(a,b,c,s)=>[.ay [[.int .i64 a,.int .i64 b,.int .i64 c,.str s,.ay []]],.ay [[.int .i64 a,.int .i64 b,.int .i64 c,.str s,.ay []]]]
def O8:=bW O7 λ(a,b,c,s)=>some (.same (.bool true))
def asH:∀a b,O7 a=O7 b->a=b:=by
  rintro⟨cx,cz,cH,s1⟩ ⟨c3,ef,dR,s2⟩ h;simp only[bo,Data.int.injEq,Data.agg.injEq,Data.ay.injEq,Data.bool.injEq,Data.str.injEq,Data.ptr.injEq,Data.dc.injEq,ec,true_and,and_true] at h ⊢
  first|exact h|simpa [HR,and_assoc] using h|grind
@[go_sem] def asI (a b c s):=ux O8 rfl asH (a,b,c,s) rfl
def asJ (T:bj)(Kq:T L4=aW O6):WF T aft O8:=by
 refine cp λ(a,b,c,s)=>⟨rfl,cq ?_⟩;simp only[aft,O7,cg];have e0:=asF a b c s;simp only[go_sem,go_sem_proc,Kq,beq_self_eq_true,bne,fP];refine du [0,1] [] (λ(i:Nat) tm mem=>i<=1/\tm 5=.M (.int .i64 i)) (λi=>1-i) 0 ⟨by omega,rfl⟩ ?_
 intro vs ms aY aT;simp only[go_sem,go_sem_proc,Kq,] at aY aT;subst aY aT;rintro i tm mem O hm ⟨L,bl⟩;simp only[go_sem,go_sem_proc,Kq,bo] at O;obtain⟨ft,cm⟩:=O;rcases eo (i<1) with av|bM
 ·have ak:i=0:=by omega
  subst ak;refine ao ?_;repeat' (intro h<;>simp only[h,go_sem,go_sem_proc,Kq,ft,cm,bl,e0,show decide (((0:Nat):Int)<((1:Nat):Int))=true from rfl]<;>try refine an ?_ ?_)
  exact⟨1,by omega,by omega,rfl⟩
 ·have ak:i=1:=by omega
  subst ak;refine ao ?_;repeat' (intro h<;>simp only[h,go_sem,go_sem_proc,Kq,ft,cm,bl,show decide (((1:Nat):Int)<((1:Nat):Int))=false from rfl]<;>try refine an ?_ ?_)
end Go.Mini
namespace Go.Mini
open Go Go.Proofs
set_option maxRecDepth 100000 in
def asK:Cj Tryz.prog [45] [169,239,48,50] z9 1000 n0 [.M (.str Kk)]=some Ko:=by kernel_rfl
def asL:h7 Tryz.prog n0 (λds=>@ite _ (ds=[.str Kk]) (O9 _) (some (.same Ko)) none):=Ob _ _ asK
end Go.Mini
namespace Go.Mini
open Go Go.Proofs
set_option maxRecDepth 100000 in
def asM:Cj Tryz.prog [45] [169,239,48,50] z9 1000 n0 [.M (.str Kl)]=some vj:=by kernel_rfl
def asN:h7 Tryz.prog n0 (λds=>@ite _ (ds=[.str Kl]) (O9 _) (some (.same vj)) none):=Ob _ _ asM
end Go.Mini
namespace Go.Mini
open Go Go.Proofs
set_option maxRecDepth 100000 in
def asO:Cj Tryz.prog [45] [169,239,48,50] z9 1000 n0 [.M (.str Km)]=some vj:=by kernel_rfl
def asP:h7 Tryz.prog n0 (λds=>@ite _ (ds=[.str Km]) (O9 _) (some (.same vj)) none):=Ob _ _ asO
end Go.Mini
namespace Go.Mini
open Go Go.Proofs
set_option maxRecDepth 100000 in
def asQ:Cj Tryz.prog [45] [169,239,48,50] z9 1000 n0 [.M (.str Kn)]=some vj:=by kernel_rfl
def asR:h7 Tryz.prog n0 (λds=>@ite _ (ds=[.str Kn]) (O9 _) (some (.same vj)) none):=Ob _ _ asQ
end Go.Mini
namespace Go.Mini
open Go Go.Proofs
def asS:h7 Tryz.prog n0 vk:=⟨ad5,λds r e0=>by
 unfold vk at e0
 split at e0
 ·rename_i e
  cases e0;exact asL.run ds _ (aq e)
 ·split at e0
  ·rename_i e
   cases e0;rcases e with e|e|e
   ·exact asN.run ds _ (aq e)
   ·exact asP.run ds _ (aq e)
   ·exact asR.run ds _ (aq e)
  ·cases e0⟩
end Go.Mini
namespace Go.Mini
open Go
abbrev iu (p q:Int):aG:=((1,[p]),(1,[q]))
def As {p q a b:Int}(E:dQ p)(G:dQ q)(h:hR (bt p) (bt q)=(iu a b,0)):Kp [.int .i64 p,.int .i64 q]=some (.same (.agg [.int .i64 1,.ay [[.int .i64 a]],.int .i64 1,.ay [[.int .i64 b]]])):=by
 rw[asC p q ⟨E,G⟩,h]
 rfl
def yI:List bJ:=[(0,1,iu 1 2),(1,0,iu 1 1)]
def Kr:List bJ:=[(0,1,iu 1 1),(1,0,iu 1 1)]
def VK:sa yI:=⟨by decide,λx J=>by
 simp only[yI,hq,Ks,or_false] at J;rcases J with rfl|rfl<;>exact⟨by decide,by decide⟩⟩
def asT:sa Kr:=⟨by decide,λx J=>by
 simp only[Kr,hq,Ks,or_false] at J;rcases J with rfl|rfl<;>exact⟨by decide,by decide⟩⟩
def CC (a b c d:Int):ia [iu a b,iu c d]:=⟨by simp,λx J=>by
 simp only[hq,Ks,or_false] at J;rcases J with rfl|rfl<;>exact⟨by simp[iu],by simp[iu]⟩⟩
def asU (a b:Int):ia [iu a b]:=⟨by simp,λx J=>by
 simp only[hq,Ks,or_false] at J;subst J;exact⟨by simp[iu],by simp[iu]⟩⟩
def Kt {l:List aG}(h:ia l):FL [.ay (l.map aV),.ay (l.map aV)]=some (.same (.bool true)):=by
 rw[afn l l ⟨h,h⟩,show Ao l l=true from kG rfl]
abbrev Pa:Unit->List Data:=λ(_:Unit)=>[]
def Pb:=bW Pa λ(_:Unit)=>some (.same (.bool true))
def asV:∀a b,Pa a=Pa b->a=b:=by
  intro _ _ _;rfl
@[go_sem] def asW:=ux Pb rfl asV () rfl
def asX (T:bj)(asY:T n0=aW vk)(asZ:T mX=aW Kp)(my:T xS=aW FL)(as0:T RF=aW O8)(mz:T DQ=aW J4)(mA:T DR=aW J2)(ep:T xU=aW Cp)(as1:T RG=aW O0):WF T afI Pb:=by
 refine cp λ_=>⟨rfl,cq ?_⟩;simp only[afI,Pa,cg];have iP:=asy;have ah:=asz;have di:=asA;have dk:=asB;have as2:=As (p:=1) (q:=2) (a:=1) (b:=2) (by unfold dQ;omega) (by unfold dQ;omega) (by decide +kernel);have as3:=As (p:=1) (q:=1) (a:=1) (b:=1) (by unfold dQ;omega) (by unfold dQ;omega) (by decide +kernel);have as4:=As (p:=10) (q:=1) (a:=10) (b:=1) (by unfold dQ;omega) (by unfold dQ;omega) (by decide +kernel);have tD:=As (p:=2) (q:=1) (a:=2) (b:=1) (by unfold dQ;omega) (by unfold dQ;omega) (by decide +kernel);have u9:=As (p:=3) (q:=1) (a:=3) (b:=1) (by unfold dQ;omega) (by unfold dQ;omega) (by decide +kernel);have va:=As (p:=4) (q:=1) (a:=4) (b:=1) (by unfold dQ;omega) (by unfold dQ;omega) (by decide +kernel);have as5:=As (p:=5) (q:=1) (a:=5) (b:=1) (by unfold dQ;omega) (by unfold dQ;omega) (by decide +kernel);have as6:=As (p:=6) (q:=1) (a:=6) (b:=1) (by unfold dQ;omega) (by unfold dQ;omega) (by decide +kernel);have VL:=Vi yI 2 VK;rw[show nb yI 2=([iu 4 1,iu 3 1],[],0) by decide +kernel] at VL
 have VM:=Vi Kr 2 asT;rw[show nb Kr 2=([],[iu 1 1,iu 1 1],16) by decide +kernel] at VM
 have VN:=Vg yI 2 [iu 4 1,iu 3 1] ⟨VK,CC _ _ _ _⟩;rw[show sq yI 2 [iu 4 1,iu 3 1]=true by decide +kernel] at VN
 have v:=Oo [iu 10 1,iu 10 1] [iu 1 1,iu 2 1] yI ⟨CC _ _ _ _,CC _ _ _ _,VK⟩;rw[show na [iu 10 1,iu 10 1] [iu 1 1,iu 2 1] yI=([iu 6 1,iu 5 1],[[1],[0]],0) by decide +kernel] at v
 have s1:=Kt (CC 1 2 3 1);have s2:=Kt (asU 1 1);have c1:=Kt (CC 4 1 3 1);have dg:=Kt (CC 1 1 1 1);have Ns:=Kt (CC 6 1 5 1);have ex:=asI 1 0 0 [98,97,115,101]
 have dK:FM [[1],[0]]:=⟨by decide,λx J=>by
  simp only[hq,Ks,or_false] at J;rcases J with rfl|rfl<;>decide⟩
 have qY:=asr [[1],[0]] [[1],[0]] ⟨dK,dK⟩;rw[beq_self_eq_true] at qY;simp only[Kk,Kl,Km,Kn,Ko,vj] at iP ah di dk;simp only[iu,yI,Kr,Am,tF,qb,nF,aV,aJ,fK,hi,cE,show ((1:Nat):Int)=1 from rfl,show ((0:Nat):Int)=0 from rfl] at VL VM VN v s1 s2 c1 dg Ns qY;refine ao ?_;repeat' (intro h<;>simp only[h,go_sem,go_sem_proc,asY,asZ,my,as0,mz,mA,ep,as1,iP,ah,di,dk,as2,as3,as4,tD,u9,va,as5,as6,VL,VM,VN,v,s1,s2,c1,dg,Ns,ex,qY,beq_self_eq_true]<;>try refine an ?_ ?_)
def bE:Nat->(Nat->Rat)->Rat
 |0,_=>0
 |n+1,f=>bE n f+f n
def nd {n:Nat}{f g:Nat->Rat}(h:∀k,k<n->f k=g k):bE n f=bE n g:=by
 induction n with
 |zero=>rfl
 |succ n aD=>rw[bE,bE,aD λk O=>h k (by omega),h n (by omega)]
def yJ (n:Nat)(f g:Nat->Rat):bE n (λk=>f k+g k)=bE n f+bE n g:=by
 induction n with
 |zero=>simp[bE,Pc]
 |succ n aD=>rw[bE,bE,bE,aD];grind
def q5 (n:Nat)(c:Rat)(f:Nat->Rat):bE n (λk=>c*f k)=c*bE n f:=by
 induction n with
 |zero=>simp[bE,FO]
 |succ n aD=>rw[bE,bE,aD];grind
def sr {n:Nat}{f:Nat->Rat}(h:∀k,k<n->f k=0):bE n f=0:=by
 induction n with
 |zero=>rfl
 |succ n aD=>rw[bE,aD λk O=>h k (by omega),h n (by omega)];exact Pc 0
def Ku {n:Nat}{f:Nat->Rat}{j:Nat}(aa:j<n)(h:∀k,k<n->k≠j->f k=0):bE n f=f j:=by
 induction n with
 |zero=>omega
 |succ n aD =>
  rw[bE]
  by_cases aE:j=n
  ·subst aE;rw[sr λk O=>h k (by omega) (by omega)];grind
  ·rw[aD (by omega) λk O=>h k (by omega),h n (by omega) (by omega)];grind
def as7 (n m:Nat)(f:Nat->Nat->Rat):bE n (λi=>bE m (λj=>f i j))=bE m (λj=>bE n (λi=>f i j)):=by
 induction n with
 |zero=>rw[bE,sr];intro k O;rfl
 |succ n aD =>
  rw[bE,aD,<-yJ]
  rfl
abbrev cL:=Nat->Nat->Rat
def mB (N:Nat)(a y:Nat->Rat):Rat:=bE (N+1) λk=>a k*y k
def j3 (N:Nat)(A:cL)(y:Nat->Rat):Prop:=∀i,i<N->mB N (A i) y=0
def fg (A:cL)(r s:Nat):cL:=λi=>if i=s then A r else if i=r then A s else A i
def kE (A:cL)(r c s:Nat):cL:=λi k=>if i=r then fg A r s r k/fg A r s r c else fg A r s i k-fg A r s i c*(fg A r s r k/fg A r s r c)
def Kv (A:cL)(r s:Nat):fg A r s r=A s:=by
 unfold fg
 by_cases h:r=s
 ·simp[h]
 ·simp[h]
def as8 {N r s:Nat}{A:cL}{y:Nat->Rat}(Q:r<N)(R:s<N):j3 N (fg A r s) y↔j3 N A y:=by
 unfold j3 fg
 constructor
 ·intro h i L
  by_cases E:i=r
  ·have:=h s R;simp at this;rw[E];exact this
  ·by_cases G:i=s
   ·have:=h r Q;rw[G]
    by_cases ab:r=s
    ·omega
    ·simp[ab] at this;exact this
   ·have:=h i L;simp[E,G] at this;exact this
 ·intro h i L
  by_cases G:i=s
  ·simp[G];exact h r Q
  ·by_cases E:i=r
   ·have:=h s R;rw[ar G,aq E];exact this
   ·simp[E,G];exact h i L
def as9 (N:Nat)(a b y:Nat->Rat)(x:Rat):mB N (λk=>a k-x*b k) y=mB N a y-x*mB N b y:=by
 unfold mB;have:(λk=>(a k-x*b k)*y k)=λk=>a k*y k+(-x)*(b k*y k):=by funext k;grind
 rw[this,yJ,q5];grind
def afK (N:Nat)(a y:Nat->Rat)(x:Rat):mB N (λk=>a k/x) y=mB N a y/x:=by
 unfold mB;have:(λk=>(a k/x)*y k)=λk=>(1/x)*(a k*y k):=by funext k;grind
 rw[this,q5];grind
def VO {N r s c:Nat}{A:cL}{y:Nat->Rat}(Q:r<N)(R:s<N)(a6:A s c≠0):j3 N (kE A r c s) y↔j3 N A y:=by
 rw[<-as8 (A:=A) Q R];have aA4:fg A r s r c≠0:=by rw[Kv];exact a6
 generalize cr:fg A r s=S at *
 have d1:∀i,i≠r->mB N (kE A r c s i) y=mB N (S i) y-S i c*(mB N (S r) y/S r c):=by
  intro i L;have:kE A r c s i=λk=>S i k-S i c*(S r k/S r c):=by funext k;unfold kE;rw[cr,ar L]
  rw[this,as9 N (S i) (λk=>S r k/S r c) y (S i c),afK]
 have d2:mB N (kE A r c s r) y=mB N (S r) y/S r c:=by
  have:kE A r c s r=λk=>S r k/S r c:=by funext k;unfold kE;rw[cr,aq rfl]
  rw[this,afK]
 unfold j3
 constructor
 ·intro h
  have ak:mB N (S r) y=0:=by
   have:=h r Q;rw[d2] at this;generalize mB N (S r) y=d at *;grind
  intro i L
  by_cases p0:i=r
  ·rw[p0];exact ak
  ·have:=h i L;rw[d1 i p0,ak] at this;generalize mB N (S i) y=d at *;grind
 ·intro h i L;have ak:=h r Q
  by_cases p0:i=r
  ·rw[p0,d2,ak];grind
  ·rw[d1 i p0,ak,h i L];grind
structure po (N:Nat) (al:cL) (p c:Nat) (dH:Nat->Nat):Prop where
 pN:p<=c
 lt:∀j,j<p->dH j<c
 unit:∀j,j<p->∀i,i<N->al i (dH j)=if i=j then 1 else 0
 zero:∀i,p<=i->i<N->∀k,k<c->al i k=0
def po.free {N p c:Nat}{al:cL}{dH:Nat->Nat}(h:po N al p c dH)(aP:∀i,p<=i->i<N->al i c=0):po N al p (c+1) dH :=
 ⟨by have:=h.pN;omega,λj aa=>by have:=h.lt j aa;omega,h.unit,λi L hP k O=>by
  by_cases J7:k=c
  ·rw[J7];exact aP i L hP
  ·exact h.zero i L hP k (by omega)⟩
def po.zX {N p c s:Nat}{al:cL}{dH:Nat->Nat}(h:po N al p c dH)(aF:p<N)(R:p<=s)(qh:s<N)(a6:al s c≠0):po N (kE al p c s) (p+1) (c+1) (λj=>if j=p then c else dH j):=by
 have cr:∀i,i<N->∃aZ,aZ<N/\fg al p s i=al aZ/\(i<p->aZ=i)/\(p<=i->p<=aZ):=by
  intro i L;unfold fg
  by_cases E:i=s
  ·exact⟨p,aF,by rw[aq E],by omega,by omega⟩
  ·by_cases G:i=p
   ·exact⟨s,qh,by rw[ar E,aq G],by omega,by omega⟩
   ·exact⟨i,L,by rw[ar E,ar G],by omega,by omega⟩
 have afL:fg al p s p c≠0:=by rw[Kv];exact a6
 have aP:∀i,p<=i->i<N->∀k,k<c->fg al p s i k=0:=by
  intro i L hP k O;obtain⟨aZ,E,G,-,aM⟩:=cr i hP;rw[G];exact h.zero aZ (aM L) E k O
 refine⟨by have:=h.pN;omega,λj aa=>?_,λj aa i L=>?_,λi L hP k O=>?_⟩
 ·show (if j=p then c else dH j)<c+1
  split
  ·omega
  ·have:=h.lt j (by omega);omega
 ·unfold kE
  by_cases FP:j=p
  ·simp only[FP,if_true]
   by_cases hF:i=p
   ·rw[aq hF,aq hF];grind
   ·rw[ar hF,ar hF];grind
  ·simp only[FP,if_false];have jx:j<p:=by omega
   have aK:fg al p s p (dH j)=0:=aP p (bI _) aF _ (h.lt j jx);rw[aK]
   by_cases hF:i=p
   ·rw[aq hF,ar (by omega)];grind
   ·rw[ar hF];obtain⟨aZ,E,G,ab,aM⟩:=cr i L;rw[G,h.unit j jx aZ E];rcases fF i p with av|bM
    ·rw[ab av];grind
    ·rw[ar (by have:=aM bM;omega),ar (by omega)];grind
 ·unfold kE;rw[ar (by omega)]
  by_cases J7:k=c
  ·subst J7;grind
  ·rw[aP i (by omega) hP k (by omega),aP p (bI _) aF k (by omega)];grind
def VP (N:Nat)(al:cL)(dH:Nat->Nat):po N al 0 0 dH:=⟨bI _,λj aa=>by omega,λj aa=>by omega,λi L hP k O=>by omega⟩
def ext (N:Nat)(y:Nat->Rat)(z:Rat):Nat->Rat:=λk=>if k<N then y k else z
def VQ (N:Nat)(a y:Nat->Rat)(z:Rat):mB N a (ext N y z)=bE N (λk=>a k*y k)+a N*z:=by
 unfold mB ext;rw[bE]
 congr 1
 ·exact nd λk O=>by rw[aq O]
 ·rw[ar (by omega)]
def VR {N:Nat}{al:cL}{dH:Nat->Nat}(h:po N al N N dH)(iW:∀j,j<N->dH j=j){i:Nat}(L:i<N)(y:Nat->Rat)(z:Rat):mB N (al i) (ext N y z)=y i+al i N*z:=by
 rw[VQ]
 congr 1
 have:∀k,k<N->al i k=if i=k then 1 else 0:=λk O=>by
  have:=h.unit k O i L;rwa [iW k O] at this
 rw[Ku L λk O vP=>by rw[this k O,ar (Ne.symm vP),VS],this i L,aq rfl,Kw]
def afM {N:Nat}{al:cL}{dH:Nat->Nat}(h:po N al N N dH)(iW:∀j,j<N->dH j=j)(y:Nat->Rat):j3 N al (ext N y (-1))↔∀i,i<N->y i=al i N:=by
 unfold j3
 constructor
 ·intro cY i L;have:=cY i L;rw[VR h iW L] at this;grind
 ·intro cY i L;rw[VR h iW L,cY i L];grind
def ata {N:Nat}{al:cL}{dH:Nat->Nat}(h:po N al N N dH)(iW:∀j,j<N->dH j=j)(y:Nat->Rat)(cY:j3 N al (ext N y 0)):∀i,i<N->y i=0:=by
 intro i L;have:=cY i L;rw[VR h iW L] at this;grind
def q6 (al:cL)(c:Nat):Nat->Rat:=λk=>if k<c then 0-al k c else if k=c then 1 else 0
def afN {N c:Nat}{al:cL}{dH:Nat->Nat}(h:po N al c c dH)(iW:∀j,j<c->dH j=j)(Z:c<N)(aP:∀i,c<=i->i<N->al i c=0):j3 N al (ext N (q6 al c) 0):=by
 intro i L;rw[VQ]
 have main:∀n,c<n->n<=N->bE n (λk=>al i k*q6 al c k)=bE (c+1) (λk=>al i k*q6 al c k):=by
  intro n
  induction n with
  |zero=>intro h;omega
  |succ n aD =>
   intro E G
   by_cases xo:c=n
   ·rw[xo]
   ·rw[bE,aD (by omega) (by omega)];unfold q6;rw[ar (show ¬ n<c by omega),ar (show ¬ n=c by omega)];grind
 rw[main N Z (bI _),bE];have O:q6 al c c=1:=by unfold q6;rw[ar (by omega),aq rfl]
 rw[O]
 have hu:∀k,k<c->al i k=if i=k then 1 else 0:=λk O=>by
  have:=h.unit k O i L;rwa [iW k O] at this
 rcases fF i c with av|bM
 ·rw[Ku av λk O vP=>by rw[hu k O,ar (Ne.symm vP),VS],hu i av,aq rfl]
  unfold q6;rw[aq av];grind
 ·rw[sr λk O=>by rw[hu k O,ar (by omega),VS],aP i bM L]
  grind
def j4 (N:Nat)(l:List aG)(q:Nat->Rat):Prop:=l=((jf (N+1)).map q).map bU/\∀k,k<=N->dL (q k)
def vl (N:Nat)(rows:List cQ)(al:cL):Prop:=D rows=N/\∀(i:Nat) x,rows[i]?=some x->j4 N x.2.2 (al i)
def j4.get {N:Nat}{l:List aG}{q:Nat->Rat}(h:j4 N l q){k:Nat}(O:k<=N):l[k]?=some (bU (q k)):=by
 rw[h.1,bD,bD,qq (by omega)]
 rfl
def j4.len {N:Nat}{l:List aG}{q:Nat->Rat}(h:j4 N l q):(D l)=N+1:=by rw[h.1];simp
def j4.VT {N:Nat}{l:List aG}{q:Nat->Rat}(ad:(D l)=N+1)(h:∀k,k<=N->l[k]?=some (bU (q k))/\dL (q k)):j4 N l q:=by
 refine⟨?_,λk O=>(h k O).2⟩;apply ub;intro k;rcases fF k (N+1) with O|O
 ·rw[(h k (by omega)).1,bD,bD,qq O];rfl
 ·rw[mI (by omega),mI (by simp;omega)]
def j4.congr {N:Nat}{l:List aG}{q Sf:Nat->Rat}(h:j4 N l q)(aL:∀k,k<=N->q k=Sf k):j4 N l Sf :=
 j4.VT h.len λk O=>by rw[<-aL k O];exact⟨h.get O,h.2 k O⟩
def j4.cell {N:Nat}{x:cQ}{q:Nat->Rat}(h:j4 N x.2.2 q){k:Nat}(O:k<=N):cellOf x k=bU (q k):=Th (h.get O)
def Pd (q:Rat):l3 (bU q)=decide (q=0):=by
 unfold l3 bU bt;rw[FG,beq_iff_eq,decide_eq_true_eq,VU,VV]
def pq (eT a b:Rat):Bool:=yi eT b&&tk a (-(eT*b))
def afO {eT a b:Rat}(ag:dL eT)(a2:dL a)(U:dL b)(h:pq eT a b=true):
  lA (bU eT) (bU b)=(bU (eT*b),0)/\nB (bU a) (bU (eT*b))=(bU (a-eT*b),0)/\dL (a-eT*b):=by
 unfold pq at h;rw[dp] at h;refine⟨?_,?_,aa6 h.2⟩
 ·rw[SR ag U,h.1];rfl
 ·rw[MT a2 (aa7 h.1),h.2];rfl
def atb {eT a b:Rat}(ag:dL eT)(a2:dL a)(U:dL b)(h:pq eT a b=false):
  ((lA (bU eT) (bU b)).2 != 0||(nB (bU a) (lA (bU eT) (bU b)).1).2 != 0)=true:=by
 unfold pq at h;rw[SR ag U];rcases E:yi eT b
 ·rfl
 ·rw[E,iD] at h;show ((nB (bU a) (bU (eT*b))).2 != 0)=true;rw[MT a2 (aa7 E),h]
  rfl
def atc {eT:Rat}(ag:dL eT):∀(vm pl:List Rat),D vm=(D pl)->(∀x∈vm,dL x)->(∀x∈pl,dL x) ->
  ((∀q∈vm.zip pl,pq eT q.1 q.2=true)->im (bU eT) (vm.map bU) (pl.map bU) false=((VW (λa b=>a-eT*b) vm pl).map bU,false)/\∀x∈VW (λa b=>a-eT*b) vm pl,dL x) /\
  ((im (bU eT) (vm.map bU) (pl.map bU) false).2=false->∀q∈vm.zip pl,pq eT q.1 q.2=true):=by
 intro vm
 induction vm with
 |nil=>intro pl ad _ _;cases pl with
  |nil=>exact⟨λ_=>⟨rfl,by simp⟩,λ_=>by simp⟩
  |cons=>cases ad
 |cons a vm aD =>
  intro pl ad E G
  cases pl with
  |nil=>cases ad
  |cons b pl =>
   have a2:=E a kP;have U:=G b kP;obtain⟨i1,i2⟩:=aD pl (by simpa using ad) (λx J=>E x (tv _ J)) (λx J=>G x (tv _ J))
   constructor
   ·intro dn;obtain⟨aK,az,ee⟩:=afO ag a2 U (dn (a,b) (by simp));obtain⟨i3,i4⟩:=i1 λq aL=>dn q (by simp only[afP,hq];exact .inr aL);refine⟨?_,λx J=>?_⟩
    ·simp only[hi,im,aK,az,afQ,bne_self_eq_false,rE,i3]
    ·rw[afQ,hq] at J;rcases J with rfl|J
     ·exact ee
     ·exact i4 x J
   ·intro dr;simp only[hi,im] at dr;rcases R:pq eT a b
    ·rw[atb ag a2 U R,Ti] at dr
     cases dr
    ·obtain⟨aK,az,ee⟩:=afO ag a2 U R;simp only[aK,az,bne_self_eq_false,rE] at dr;intro q aL;rw[afP,hq] at aL;rcases aL with rfl|aL
     ·exact R
     ·exact i2 dr q aL
def atd (n:Nat)(q p:Nat->Rat):((jf n).map q).zip ((jf n).map p)=(jf n).map λk=>(q k,p k):=by
 rw[List.zip_map',]
def ate (n:Nat)(f:Rat->Rat->Rat)(q p:Nat->Rat):VW f ((jf n).map q) ((jf n).map p)=(jf n).map λk=>f (q k) (p k):=by
 rw[List.zipWith_map,List.zipWith_self]
def atf {N:Nat}{eT:Rat}{l ah:List aG}{q p:Nat->Rat}(ag:dL eT)(E:j4 N l q)(G:j4 N ah p):
  ((∀k,k<=N->pq eT (q k) (p k)=true)->(im (bU eT) l ah false).2=false)/\((im (bU eT) l ah false).2=false->j4 N (im (bU eT) l ah false).1 (λk=>q k-eT*p k)):=by
 obtain⟨aK,az⟩:=atc ag ((jf (N+1)).map q) ((jf (N+1)).map p) (by simp) (by
  intro x J;obtain⟨k,O,rfl⟩:=hx.1 J;exact E.2 k (by have:=pP.1 O;omega)) (by
  intro x J;obtain⟨k,O,rfl⟩:=hx.1 J;exact G.2 k (by have:=pP.1 O;omega))
 rw[<-E.1,<-G.1] at aK az
 have aP:(∀k,k<=N->pq eT (q k) (p k)=true)↔∀x∈((jf (N+1)).map q).zip ((jf (N+1)).map p),pq eT x.1 x.2=true:=by
  rw[atd];simp only[hx,pP]
  constructor
  ·rintro h x ⟨k,O,rfl⟩;exact h k (by omega)
  ·intro h k O;exact h (q k,p k) ⟨k,by omega,rfl⟩
 refine⟨λh=>by rw[(aK (aP.1 h)).1],λh=>?_⟩
 obtain⟨ee,kU⟩:=aK (az h);rw[ee,ate] at *;exact⟨rfl,λk O=>kU _ (hx.2 ⟨k,pP.2 (by omega),rfl⟩)⟩
def Pe (e6:List aG)(r c:Nat):∀(i:Nat) (l:List cQ),(iV e6 r c i l true).2=true
 |_,[]=>rfl
 |i,x::xs=>by
  unfold iV
  split
  ·exact Pe e6 r c (i+1) xs
  ·rw[Ti];exact Pe e6 r c (i+1) xs
def afR {N r c:Nat}{e6:List aG}{p:Nat->Rat}(aF:j4 N e6 p)(Z:c<=N):∀(i:Nat) (l:List cQ) (aQ:cL),(∀(j:Nat) x,l[j]?=some x->j4 N x.2.2 (aQ (i+j))) ->
  ((∀j,j<(D l)->i+j≠r->aQ (i+j) c≠0->∀k,k<=N->pq (aQ (i+j) c) (aQ (i+j) k) (p k)=true)->(iV e6 r c i l false).2=false) /\
  ((iV e6 r c i l false).2=false->∀(j:Nat) x,(iV e6 r c i l false).1[j]?=some x->j4 N x.2.2 (λk=>if i+j=r then aQ (i+j) k else aQ (i+j) k-aQ (i+j) c*p k))
 |i,[],aQ,h=>⟨λ_=>rfl,λ_ j x J=>by simp[iV] at J⟩
 |i,x::xs,aQ,h=>by
  have ak:=h 0 x rfl;rw[ko] at ak
  obtain⟨CD,CE⟩:=afR aF Z (i+1) xs aQ λj y af=>by
   have:=h (j+1) y af;rwa [show i+(j+1)=i+1+j by omega] at this
  have sK:=ak.cell Z
  have afS:(∀j,j<(x::xs).length->i+j≠r->aQ (i+j) c≠0->∀k,k<=N->pq (aQ (i+j) c) (aQ (i+j) k) (p k)=true)->∀j,j<(D xs)->i+1+j≠r->aQ (i+1+j) c≠0->∀k,k<=N->pq (aQ (i+1+j) c) (aQ (i+1+j) k) (p k)=true:=by
   intro a1 j aa;have:=a1 (j+1) (by simpa using aa);rwa [show i+(j+1)=i+1+j by omega] at this
  unfold iV;rw[sK,Pd]
  by_cases aP:(i==r||decide (aQ i c=0))=true
  ·rw[aq aP];refine⟨λa1=>CD (afS a1),λU j y af=>?_⟩
   cases j with
   |zero =>
    simp only[Hb,bF] at af;subst af;rw[ko];refine ak.congr λk O=>?_;simp only[sN,beq_iff_eq,decide_eq_true_eq] at aP
    split
    ·rfl
    ·rcases aP with aP|aP
     ·contradiction
     ·rw[aP];grind
   |succ j =>
    have:=CE U j y (by simpa using af);rwa [show i+(j+1)=i+1+j by omega]
  ·rw[ar aP];simp only[sN,beq_iff_eq,decide_eq_true_eq,not_or] at aP;obtain⟨bZ,bX⟩:=atf (ak.2 c Z) ak aF
   constructor
   ·intro a1;have ab:=bZ (a1 0 (by simp) (by simpa using aP.1) (by simpa using aP.2));dsimp only;rw[ab];exact CD (afS a1)
   ·intro U j y af;dsimp only at U af;rcases oZ:(im (bU (aQ i c)) x.2.2 e6 false).2
    ·rw[oZ] at U af
     cases j with
     |zero =>
      simp only[Hb,bF] at af;subst af;rw[ko];exact (bX oZ).congr λk O=>by rw[ar aP.1]
     |succ j =>
      have:=CE U j y (by simpa using af);rwa [show i+(j+1)=i+1+j by omega]
    ·rw[oZ,Pe] at U
     cases U
def atg {N:Nat}{l:List aG}{q:Nat->Rat}{b:Rat}(h:j4 N l q)(U:dL b)(ak:b≠0):
  ((g9 (bU b) l).2=false↔∀k,k<=N->wC (q k) b=true)/\((g9 (bU b) l).2=false->j4 N (g9 (bU b) l).1 (λk=>q k/b)):=by
 have aK:(g9 (bU b) l).2=false↔∀k,k<=N->wC (q k) b=true:=by
  unfold g9;rw[h.1];simp only[m4,hx,pP]
  constructor
  ·intro a1 k O;have:=a1 (bU (q k)) ⟨q k,⟨k,by omega,rfl⟩,rfl⟩
   rw[SU (h.2 k O) U ak] at this;rcases ae:wC (q k) b
   ·rw[ae] at this;exact absurd rfl this
   ·rfl
  ·rintro a1 _ ⟨_,⟨k,O,rfl⟩,rfl⟩;rw[SU (h.2 k (by omega)) U ak,a1 k (by omega)];simp[zJ]
 refine⟨aK,λa1=>?_⟩;have dD:=aK.1 a1;refine j4.VT (by unfold g9;rw[au,h.len]) λk O=>⟨?_,am6 (dD k O)⟩;unfold g9;rw[bD,h.get O,jQ,SU (h.2 k O) U ak,dD k O]
 rfl
def vl.row {N:Nat}{rows:List cQ}{al:cL}(h:vl N rows al){i:Nat}(L:i<N):∃x,rows[i]?=some x/\rowAt rows i=x/\j4 N x.2.2 (al i):=by
 obtain⟨x,J⟩:∃x,rows[i]?=some x:=⟨_,bw (by have:=h.1;omega)⟩;exact⟨x,J,uR J,h.2 i x J⟩
def vl.swap {N:Nat}{rows:List cQ}{al:cL}(h:vl N rows al){r s:Nat}(Q:r<N)(R:s<N):vl N (o7 rows r s) (fg al r s):=by
 obtain⟨x,J,ex,mC⟩:=h.row Q;obtain⟨y,af,PW,ath⟩:=h.row R;unfold o7;rw[ex,PW];refine⟨by rw[gg,gg];exact h.1,λi z aP=>?_⟩
 rw[lC,lC,gg] at aP;unfold fg
 by_cases E:s=i
 ·rw[aq E,aq (by have:=h.1;omega)] at aP
  cases aP;rw[aq E.symm];exact mC
 ·rw[ar E] at aP;rw[ar (Ne.symm E)]
  by_cases G:r=i
  ·rw[aq G,aq (by have:=h.1;omega)] at aP
   cases aP;rw[aq G.symm];exact ath
  ·rw[ar G] at aP;rw[ar (Ne.symm G)];exact h.2 i z aP
def VX (N:Nat)(S:cL)(r c:Nat):Prop:=(∀k,k<=N->wC (S r k) (S r c)=true)/\∀i,i<N->i≠r->S i c≠0->∀k,k<=N->pq (S i c) (S i k) (S r k/S r c)=true
def afT {N:Nat}{rows:List cQ}{al:cL}(h:vl N rows al){r c:Nat}(Q:r<N)(Z:c<N):
  ((hU rows r c).1=true/\(hU rows r c).2.1=rows/\(hU rows r c).2.2=false/\∀i,r<=i->i<N->al i c=0) \/
  ((hU rows r c).1=false/\∃s,r<=s/\s<N/\al s c≠0/\((hU rows r c).2.2=false->vl N (hU rows r c).2.1 (kE al r c s))/\(VX N (fg al r s) r c->(hU rows r c).2.2=false)):=by
 have ad:=h.1;have kO:=acz rows r c (by omega)
 have w0:∀i x,r<=i->i<findAt rows r c->rows[i]?=some x->l3 (cellOf x c)=true:=by
  intro i x qp dS J;unfold findAt at dS;have av:i-r<(rows.drop r).findIdx λx => !l3 (cellOf x c):=by omega
  have:=List.not_of_lt_findIdx av
  have aC:(rows.drop r)[i-r]'(vt av List.findIdx_le_length)=x:=by
   rw[EJ];have:=(dh.1 J)
   obtain⟨E,G⟩:=this;simp only[show r+(i-r)=i by omega]
   exact G
  rw[aC] at this
  simpa using this
 unfold hU
 by_cases ag:findAt rows r c=D rows
 ·left
  rw[aq ag];refine⟨rfl,rfl,rfl,λi qp dS=>?_⟩;obtain⟨x,J,-,mC⟩:=h.row dS;have:=w0 i x qp (by omega) J;rw[mC.cell (by omega),Pd] at this
  simpa using this
 ·right
  rw[ar ag];refine⟨rfl,findAt rows r c,kO.1,by omega,?_,?_⟩
  ·obtain⟨x,J,-,mC⟩:=h.row (i:=findAt rows r c) (by omega);have av:findAt rows r c-r<(rows.drop r).length:=by rw[rF];omega
   have G:(rows.drop r).findIdx (λx => !l3 (cellOf x c))<(rows.drop r).length:=by
    unfold findAt at av;omega
   have ab:=afU (w:=G)
   have aC:(rows.drop r)[(rows.drop r).findIdx λx => !l3 (cellOf x c)]=x:=by
    rw[EJ];exact (dh.1 J).2
   rw[aC,mC.cell (by omega),Pd] at ab
   simpa using ab
  ·have R:findAt rows r c<N:=by omega
   have yt:=h.swap Q R
   have a6:fg al r (findAt rows r c) r c≠0:=by
    rw[Kv];obtain⟨x,J,-,mC⟩:=h.row R
    have G:(rows.drop r).findIdx (λx => !l3 (cellOf x c))<(rows.drop r).length:=by
     rw[rF];unfold findAt at R;omega
    have ab:=afU (w:=G)
    have aC:(rows.drop r)[(rows.drop r).findIdx λx => !l3 (cellOf x c)]=x:=by
     rw[EJ];exact (dh.1 J).2
    rw[aC,mC.cell (by omega),Pd] at ab
    simpa using ab
   have Nj:kE al r c (findAt rows r c)=λi k=>if i=r then fg al r (findAt rows r c) r k/fg al r (findAt rows r c) r c else fg al r (findAt rows r c) i k-fg al r (findAt rows r c) i c*(fg al r (findAt rows r c) r k/fg al r (findAt rows r c) r c):=rfl;rw[Nj];generalize o7 rows r (findAt rows r c)=ho at *;generalize fg al r (findAt rows r c)=S at *;obtain⟨x,J,ex,mC⟩:=yt.row Q;rw[ex,mC.cell (by omega)];obtain⟨d1,d2⟩:=atg mC (mC.2 c (by omega)) a6
   have x4:BS ho r c=ho.set r (x.1,x.2.1,(g9 (bU (S r c)) x.2.2).1):=by
    unfold BS;rw[ex,mC.cell (by omega)]
   rw[x4]
   have VY:j4 N (g9 (bU (S r c)) x.2.2).1 (λk=>S r k/S r c)->∀(j:Nat) y,(ho.set r (x.1,x.2.1,(g9 (bU (S r c)) x.2.2).1))[j]?=some y->j4 N y.2.2 ((λi=>if i=r then λk=>S r k/S r c else S i) (0+j)):=by
    intro ae j y af;rw[kM];rw[lC] at af
    by_cases aa:r=j
    ·rw[aq aa,aq (by have:=yt.1;omega)] at af
     cases af;dsimp only;rw[aq aa.symm];exact ae
    ·rw[ar aa] at af;dsimp only;rw[ar (Ne.symm aa)];exact yt.2 j y af
   dsimp only;rcases n3:(g9 (bU (S r c)) x.2.2).2
   ·have ae:=d2 n3;obtain⟨gf,gV⟩:=afR (r:=r) (c:=c) ae (by omega) 0 (ho.set r (x.1,x.2.1,(g9 (bU (S r c)) x.2.2).1)) (λi=>if i=r then λk=>S r k/S r c else S i) (VY ae)
    constructor
    ·intro U;refine⟨?_,λi z aP=>?_⟩
     ·have:=congrArg D (Nx (g9 (bU (S r c)) x.2.2).1 r c 0 (ho.set r (x.1,x.2.1,(g9 (bU (S r c)) x.2.2).1)) false);rw[au,au,gg] at this;rw[this];exact yt.1
     ·have:=gV U i z aP;rw[kM] at this;refine this.congr λk O=>?_
      by_cases p0:i=r
      ·simp only[aq p0]
      ·simp only[ar p0]
    ·intro dD;refine gf λj aa afV a6 k O=>?_;rw[kM] at *;simp only[ar afV] at a6 ⊢;rw[gg,yt.1] at aa;exact dD.2 j aa afV a6 k O
   ·constructor
    ·intro U;rw[Pe] at U
     cases U
    ·intro dD;rw[d1.2 dD.1] at n3
     cases n3
structure FQ (N:Nat) (al tI:cL) (rows:List cQ) (p c:Nat) (dH:Nat->Nat):Prop where
 enc:vl N rows tI
 red:po N tI p c dH
 FR:∀y,j3 N tI y↔j3 N al y
def ati (stop:Bool)(N:Nat)(afW:cL):∀k c rows free al p dH,c+k=N->FQ N afW al rows p c dH->p+D free=c->(stop=true->free=[]/\∀j,j<p->dH j=j) ->
  ∀vn qi,lE stop k c rows free false=(vn,qi,false) ->
  ∃tI uk c' CF,FQ N afW tI vn uk c' CF/\(stop=false->c'=N/\uk+D qi=N) /\
   (stop=true->(qi=[]/\c'=N/\uk=N/\∀j,j<N->CF j=j)\/(∃f,qi=[f]/\f<N/\uk=f/\c'=f/\(∀j,j<f->CF j=j)/\∀i,f<=i->i<N->tI i f=0)):=by
 intro k
 induction k with
 |zero =>
  intro c rows free al p dH Z he aF R vn qi J;simp only[lE,ec,and_true] at J;obtain⟨rfl,rfl⟩:=J;refine⟨al,p,c,dH,he,λ_=>⟨by omega,by omega⟩,λh=>?_⟩
  obtain⟨E,G⟩:=R h;subst E;simp only[ln,ko] at aF;exact .inl ⟨rfl,by omega,by omega,λj aa=>G j (by omega)⟩
 |succ k aD =>
  intro c rows free al p dH Z he aF R vn qi J;have H5:c-D free=p:=by omega
  unfold lE at J;rw[H5] at J;rcases afT he.enc (r:=p) (c:=c) (by omega) (by omega) with ⟨E,G,ab,aM⟩|⟨E,s,e1,gR,qe,aM,bl⟩
  ·rw[E,G,ab,aq rfl] at J
   cases stop with
   |true =>
    rw[aq rfl] at J;simp only[ec,and_true] at J;obtain⟨rfl,rfl⟩:=J;obtain⟨bZ,bX⟩:=R rfl;subst bZ;simp only[ln,ko] at aF;subst aF;exact⟨al,p,p,dH,he,by simp,λ_ => .inr ⟨p,rfl,by omega,rfl,rfl,bX,aM⟩⟩
   |false =>
    rw[ar (by simp)] at J;exact aD (c+1) rows (free++[c]) al p dH (by omega) ⟨he.enc,he.red.free aM,he.FR⟩ (by simp;omega) (by simp) vn qi J
  ·rw[E,ar (by simp)] at J;rcases U:(hU rows p c).2.2
   ·rw[U] at J;have xB:=aM U;refine aD (c+1) _ free (kE al p c s) (p+1) (λj=>if j=p then c else dH j) (by omega) ⟨xB,he.red.zX (by omega) e1 gR qe,λy=>(VO (by omega) gR qe).trans (he.FR y)⟩ (by omega) (λh=>?_) vn qi J;obtain⟨bZ,bX⟩:=R h;refine⟨bZ,λj aa=>?_⟩;subst bZ;simp only[ln,ko] at aF;show (if j=p then c else dH j)=j
    split
    ·omega
    ·exact bX j (by omega)
   ·rw[U,acw] at J
    cases J
def qj (rs:List eg):cL:=λi k=>if k<(D rs) then eA ((rs.getD i ([],bY)).1.getD k bY) else eA (rs.getD i ([],bY)).2
def Pf {f:aG}(h:df f=true):f=bU (eA f)/\dL (eA f):=by
 obtain⟨x,J,rfl⟩:=(MK _).1 h;rw[MJ];exact⟨rfl,J⟩
def atj {rs:List eg}{n:Int}(h:oe rs n=true):(D rs:Int)=n/\D rs<=40/\∀r∈rs,r.1.length=D rs/\df r.2=true/\∀f∈r.1,df f=true:=by
 unfold oe at h;simp only[dp,lF,decide_eq_false_iff_not,beq_iff_eq] at h;obtain⟨E,G,ab,aM⟩:=h;refine⟨ab,by omega,λr Q=>?_⟩
 rw[m4] at aM;have:=aM r Q;unfold tl rZ at this;simp only[lF,Bool.not_eq_true,Bool.not_eq_false',dp,beq_iff_eq,m4,JP] at this;obtain⟨gj,gd,mx⟩:=this;exact⟨by omega,gd,λf ag=>by simpa using mx f ag⟩
def afX {rs:List eg}{i:Nat}{r:eg}(h:rs[i]?=some r):rs.getD i ([],bY)=r:=by
 rw[eH,h];rfl
def afY {rs:List eg}{n:Int}(h:oe rs n=true):vl (D rs) (hb rs) (qj rs):=by
 obtain⟨aE,Fx,VY⟩:=atj h;refine⟨BX rs,λi x J=>?_⟩
 have L:i<D rs:=by
  have:=(dh.1 J).1;rwa [BX] at this
 obtain⟨r,Q⟩:∃r,rs[i]?=some r:=⟨_,bw L⟩;rw[acn Q] at J
 cases J;obtain⟨aK,az,ee⟩:=VY r (dM Q);refine j4.VT (by simp[aK]) λk O=>?_;unfold qj;rw[afX Q]
 by_cases gn:k<D rs
 ·rw[aq gn];obtain⟨f,ag⟩:∃f,r.1[k]?=some f:=⟨_,bw (by omega)⟩;obtain⟨gj,gd⟩:=Pf (ee f (dM ag));rw[List.getElem?_append_left (by omega),ag,eH,ag];exact⟨congrArg some gj,gd⟩
 ·rw[ar gn];obtain⟨gj,gd⟩:=Pf az;rw[List.getElem?_append_right (by omega),aK,show k-D rs=0 by omega]
  exact⟨congrArg some gj,gd⟩
def atk (stop:Bool){rs:List eg}{n:Int}(h:oe rs n=true){vn:List cQ}{qi:List Nat}(J:o8 stop rs=(vn,qi,false)):
  ∃tI uk c' CF,FQ (D rs) (qj rs) tI vn uk c' CF/\(stop=false->c'=D rs/\uk+D qi=D rs) /\
   (stop=true->(qi=[]/\c'=D rs/\uk=D rs/\∀j,j<(D rs)->CF j=j)\/(∃f,qi=[f]/\f<D rs/\uk=f/\c'=f/\(∀j,j<f->CF j=j)/\∀i,f<=i->i<(D rs)->tI i f=0)) :=
 ati stop (D rs) (qj rs) (D rs) 0 (hb rs) [] (qj rs) 0 (λj=>j) (by omega) ⟨afY h,VP _ _ _,λ_=>Iff.rfl⟩ rfl (λ_=>⟨rfl,λj aa=>by omega⟩) vn qi J
def ss (N:Nat)(q:Nat->Rat)(b:Nat):Prop:=∃(v:Nat->Int) (d:Int),d≠0/\d.natAbs<=2^b/\∀k,k<=N->q k*(d:Rat)=(v k:Rat)/\(v k).natAbs<=2^b
def ss.mono {N a b:Nat}{q:Nat->Rat}(h:ss N q a)(nc:a<=b):ss N q b:=by
 obtain⟨v,d,E,G,ab⟩:=h;have aF:2^a<=2^b:=jC (by omega) nc;exact⟨v,d,E,cS G aF,λk O=>⟨(ab k O).1,cS (ab k O).2 aF⟩⟩
def atl {q:Rat}{v d:Int}(ae:d≠0)(h:q*(d:Rat)=(v:Rat)):q.num*d=v*q.den:=by
 have kL:(d:Rat)≠0:=by rw[Ne,Kx];exact ae
 have e:q=j1 v d:=by rw[Pg];grind
 have az:j1 q.num q.den=j1 v d:=by rw[uL];exact e
 exact (Rat.divInt_eq_divInt_iff (wD q) ae).1 az
def FT {q:Rat}{v d:Int}(ae:d≠0)(h:q*(d:Rat)=(v:Rat)):q.num.natAbs<=v.natAbs/\q.den<=d.natAbs:=by
 have Z:=atl ae h
 have uh:q.num.natAbs*d.natAbs=v.natAbs*q.den:=by
  have:=congrArg Int.natAbs Z;rwa [kX,kX,ik] at this
 have y0:q.den∣d.natAbs:=(Nat.Coprime.symm q.reduced).dvd_of_dvd_mul_left ⟨v.natAbs,by rw[uh,pO]⟩
 have Sv:0<d.natAbs:=by omega
 have G:=Nat.le_of_dvd Sv y0;refine⟨?_,G⟩;obtain⟨m,hm⟩:=y0;rw[hm] at uh;have Sy:=q.den_pos
 have ab:q.num.natAbs*m=v.natAbs:=by
  have:q.den*(q.num.natAbs*m)=q.den*v.natAbs:=by rw[pO q.den v.natAbs,<-uh];rw[afZ]
  exact Nat.eq_of_mul_eq_mul_left Sy this
 have mP:0<m:=by
  rcases jh m with ak|ak
  ·rw[ak,Nat.mul_zero] at hm;omega
  ·exact ak
 rw[<-ab];exact vG _ mP
def eN (b:Nat)(q:Rat):Prop:=q.num.natAbs<=2^b/\q.den<=2^b
def ss.sz {N b:Nat}{q:Nat->Rat}(h:ss N q b){k:Nat}(O:k<=N):eN b (q k):=by
 obtain⟨v,d,E,G,ab⟩:=h;obtain⟨aK,az⟩:=ab k O;obtain⟨f1,f2⟩:=FT E aK;exact⟨cS f1 az,cS f2 G⟩
def atm (a b c:Nat)(h:a=2^b):a^c=2^(b*c):=by rw[h,<-Nat.pow_mul]
def atn:∃B:Nat,B=1200/\de=2^B:=⟨20*60,rfl,atm 1048576 20 60 (by decide)⟩
def At {z:Int}{b:Nat}(h:z.natAbs<=2^b)(U:b<1200):hS z=true:=by
 obtain⟨B,ht,b1⟩:=atn;unfold hS;rw[b1,decide_eq_true_eq];exact Nat.lt_of_le_of_lt h (af0 (by omega) (by omega))
def nJ {x y:Int}{a b:Nat}(J:x.natAbs<=2^a)(af:y.natAbs<=2^b):(x*y).natAbs<=2^(a+b):=by
 rw[kX,jH];exact gw J af
def VZ {x y:Int}{a:Nat}(J:x.natAbs<=2^a)(af:y.natAbs<=2^a):(x+y).natAbs<=2^(a+1):=by
 have:=Int.natAbs_add_le x y;rw[sR];omega
def eN.mono {a b:Nat}{q:Rat}(h:eN a q)(nc:a<=b):eN b q:=by
 have aF:2^a<=2^b:=jC (by omega) nc;exact⟨cS h.1 aF,cS h.2 aF⟩
def V0 {x y:Rat}{a b:Nat}(J:eN a x)(af:eN b y)(h:a+b<1200):yi x y=true:=by
 unfold yi;rw[dp];exact⟨At (nJ J.1 af.1) h,At (nJ (x:=(x.den:Int)) (y:=(y.den:Int)) (by simpa using J.2) (by simpa using af.2)) h⟩
def af1 {x y:Rat}{a b:Nat}(J:eN a x)(af:eN b y)(h:a+b<1200):wC x y=true:=by
 unfold wC;rw[dp];exact⟨At (nJ (y:=(y.den:Int)) J.1 (by simpa using af.2)) h,At (nJ (x:=(x.den:Int)) (by simpa using J.2) af.1) h⟩
def Ph {x y:Rat}{a b:Nat}(J:eN a x)(af:eN b y)(h:a+b+1<1200):tk x y=true:=by
 unfold tk;have E:=nJ (y:=(y.den:Int)) J.1 (by simpa using af.2);have G:=nJ (y:=(x.den:Int)) af.1 (by simpa using J.2);rw[Ax b a] at G;simp only[dp];exact⟨At E (by omega),At G (by omega),At (VZ E G) h,At (nJ (x:=(x.den:Int)) (y:=(y.den:Int)) (by simpa using J.2) (by simpa using af.2)) (by omega)⟩
def Ky {b:Nat}{q:Rat}(h:eN b q):eN b (-q):=⟨by rw[af2,yb];exact h.1,h.2⟩
def af3 {p q:Int}{b:Nat}(E:p.natAbs<=2^b)(G:q.natAbs<=2^b)(aL:q≠0):eN b (j1 p q):=by
 have aA5:(q:Rat)≠0:=by rw[Ne,Kx];exact aL
 have:=FT (q:=j1 p q) (v:=p) aL (by rw[Pg];grind);exact⟨cS this.1 E,cS this.2 G⟩
def V1 {x y:Rat}{a b:Nat}(J:eN a x)(af:eN b y):eN (a+b) (x*y):=by
 rw[<-SQ];exact af3 (nJ J.1 af.1) (nJ (x:=(x.den:Int)) (y:=(y.den:Int)) (by simpa using J.2) (by simpa using af.2)) (wE (wD x) (wD y))
def V2 {x y:Rat}{a b:Nat}(J:eN a x)(af:eN b y):eN (a+b+1) (x+y):=by
 rw[<-SP];have E:=nJ (y:=(y.den:Int)) J.1 (by simpa using af.2);have G:=nJ (y:=(x.den:Int)) af.1 (by simpa using J.2);rw[Ax b a] at G;have ab:=nJ (x:=(x.den:Int)) (y:=(y.den:Int)) (a:=a) (b:=b) (by simpa using J.2) (by simpa using af.2);exact af3 (VZ E G) (cS ab (jC (by omega) (by omega))) (wE (wD x) (wD y))




def ato {f:aG}(h:pn f 1=true):f.1.2.length<=1/\f.2.2.length<=1:=by
 unfold pn at h;simp only[dp,decide_eq_true_eq] at h;omega
def yK:Nat->Nat
 |0=>80
 |p+1=>2*yK p+1
def Pj:Nat->Nat
 |0=>0
 |p+1=>Pj p+yK p+1
def Au (N:Nat)(al:cL)(p:Nat):Prop:=∀i,i<N->ss N (al i) (if i<p then Pj p else yK p)
def ss.div {N b r c:Nat}{S:cL}(h:ss N (S r) b)(Z:c<=N)(a6:S r c≠0):ss N (λk=>S r k/S r c) b:=by
 obtain⟨v,d,E,G,ab⟩:=h;obtain⟨aK,az⟩:=ab c Z;have kL:(d:Rat)≠0:=by rw[Ne,Kx];exact E
 have ai:v c≠0:=by
  intro ak;rw[ak,Rat.intCast_zero] at aK;rcases Kz.1 aK with h|h
  ·exact a6 h
  ·exact kL h
 refine⟨v,v c,ai,az,λk O=>⟨?_,(ab k O).2⟩⟩;rw[<-(ab k O).1,<-aK];grind
def ss.elim {N a b c:Nat}{q p:Nat->Rat}(h:ss N q a)(aF:ss N p b)(Z:c<=N):ss N (λk=>q k-q c*p k) (a+b+1):=by
 obtain⟨v,d,E,G,ab⟩:=h;obtain⟨w,e,bZ,bX,e4⟩:=aF;have hle:2^(a+b)<=2^(a+b+1):=jC (by omega) (by omega);refine⟨λk=>v k*e-v c*w k,d*e,wE E bZ,cS (nJ G bX) hle,λk O=>⟨?_,?_⟩⟩
 ·rw[V3,j5,j5,j5,<-(ab k O).1,<-(ab c Z).1,<-(e4 k O).1];grind
 ·have aU:=nJ (ab k O).2 bX;have bO:=nJ (ab c Z).2 (e4 k O).2;have hK:(-(v c*w k)).natAbs<=2^(a+b):=by rw[yb];exact bO
  have:=VZ aU hK;rwa [<-Int.sub_eq_add_neg] at this
def Au.swap {N p s:Nat}{al:cL}(h:Au N al p)(aF:p<N)(R:p<=s)(qh:s<N):Au N (fg al p s) p:=by
 intro i L;unfold fg
 by_cases E:i=s
 ·rw[aq E];have:=h p aF;rw[ar (by omega)] at this ⊢;exact this
 ·rw[ar E]
  by_cases G:i=p
  ·rw[aq G];have:=h s qh;rw[ar (by omega)] at this ⊢;exact this
  ·rw[ar G];exact h i L
def Au.zX {N p c s:Nat}{al:cL}(h:Au N al p)(aF:p<N)(R:p<=s)(qh:s<N)(Z:c<=N)(a6:al s c≠0):Au N (kE al p c s) (p+1):=by
 have cr:=h.swap aF R qh;have afL:fg al p s p c≠0:=by rw[Kv];exact a6
 have yL:=cr p aF;rw[ar (by omega)] at yL;have db:=yL.div Z afL;intro i L
 by_cases hF:i=p
 ·rw[aq (by omega)];have:kE al p c s i=λk=>fg al p s p k/fg al p s p c:=by funext k;unfold kE;rw[aq hF]
  rw[this];exact db.mono (by show yK p<=Pj p+yK p+1;omega)
 ·have:kE al p c s i=λk=>fg al p s i k-fg al p s i c*(fg al p s p k/fg al p s p c):=by funext k;unfold kE;rw[ar hF]
  rw[this];have:=(cr i L).elim db Z
  by_cases av:i<p
  ·rw[aq av] at this;rw[aq (by omega)];exact this
  ·rw[ar av] at this;rw[ar (by omega)];exact this.mono (by show yK p+yK p+1<=2*yK p+1;omega)
def Au.ok {N p c:Nat}{S:cL}(h:Au N S p)(aF:p<N)(aas:p<3)(Z:c<=N)(a6:S p c≠0):VX N S p c:=by
 have U:∀i,i<N->∀k,k<=N->eN 323 (S i k):=by
  intro i L k O;refine ((h i L).sz O).mono ?_
  have:yK p<=323/\Pj p<=243:=by
   rcases p with _|_|_|p
   ·decide
   ·decide
   ·decide
   ·omega
  split<;>omega
 have db:∀k,k<=N->eN 323 (S p k/S p c):=by
  intro k O;have yL:=h p aF;rw[ar (by omega)] at yL;refine ((yL.div Z a6).sz O).mono ?_;rcases p with _|_|_|p
  ·decide
  ·decide
  ·decide
  ·omega
 refine⟨λk O=>af1 (U p aF k O) (U p aF c Z) (by omega),λi L _ _ k O=>?_⟩;unfold pq;rw[dp];exact⟨V0 (U i L c Z) (db k O) (by omega),Ph (U i L k O) (Ky (V1 (U i L c Z) (db k O))) (by omega)⟩
def V4 {f:aG}(Q:df f=true)(ag:pn f 1=true):eN 20 (eA f):=by
 obtain⟨e,E,G⟩:=Pf Q;obtain⟨bZ,bX⟩:=ato ag;rw[e] at bZ bX;have cm:=fR.1 (show (aH (eA f).num.natAbs).length<=1 from bZ);have dX:=fR.1 (show (aH ((eA f).den:Int).natAbs).length<=1 from bX);rw[ik] at dX;have s5:(1048576:Nat)^1=2^20:=by decide
 rw[s5] at cm dX;exact⟨zD cm,zD dX⟩
def af4 (q:Nat->Rat)(b:Nat)(h:∀k,eN b (q k)):∀n:Nat,∃d:Int,0<d/\d.natAbs<=2^(n*b)/\∃v:Nat->Int,∀k,k<n->q k*(d:Rat)=(v k:Rat)/\(v k).natAbs<=2^(n*b):=by
 intro n
 induction n with
 |zero=>exact⟨1,by decide,by simp,λ_=>0,λk O=>by omega⟩
 |succ n aD =>
  obtain⟨d,ae,n3,v,ai⟩:=aD;have jY:=den_pos (q n)
  have J:(q n)*(((q n).den:Int):Rat)=((q n).num:Rat):=by
   have E:q n=j1 (q n).num (q n).den:=(uL _).symm;have G:(((q n).den:Int):Rat)≠0:=by rw[Ne,Kx];omega
   rw[Pg] at E;generalize (((q n).den:Int):Rat)=aQ at *;generalize ((q n).num:Rat)=bk at *;rw[E];grind
  rw[tZ];refine⟨d*(q n).den,Int.mul_pos ae jY,nJ n3 (by simpa using (h n).2),λk=>if k=n then (q n).num*d else v k*(q n).den,λk O=>?_⟩
  by_cases KA:k=n
  ·subst KA;simp only[if_true];refine⟨?_,?_⟩
   ·rw[j5,j5,<-J];grind
   ·have:=nJ (h k).1 n3;rwa [Ax] at this
  ·simp only[ar KA];obtain⟨aK,az⟩:=ai k (by omega);refine⟨?_,nJ az (by simpa using (h n).2)⟩;rw[j5,j5,<-aK];grind
def af5 {f:aG}(h:pn f 1=true):okF f:=by
 unfold pn at h;simp only[dp,decide_eq_true_eq] at h;exact⟨by omega,by omega⟩
def Pk {l:List aG}{n:Int}(h:oC l n 1=true):(D l:Int)<=n/\∀f∈l,pn f 1=true:=by
 unfold oC at h;simp only[dp,decide_eq_true_eq,jP] at h;exact h
def V5 {l:List aG}(h:oC l 4 1=true):ia l:=by
 obtain⟨E,G⟩:=Pk h;exact⟨by omega,λf ag=>af5 (G f ag)⟩
def af6 {ls:List bJ}(h:vi ls=true):(D ls)<=10/\∀l∈ls,pn l.2.2 1=true:=by
 unfold vi at h;simp only[dp,decide_eq_true_eq,jP] at h;exact⟨by omega,h.2⟩
def atp {ls:List bJ}(h:vi ls=true):sa ls:=by
 obtain⟨E,G⟩:=af6 h;exact⟨by omega,λl ad=>af5 (G l ad)⟩
def af7 {cap base:List aG}{ls:List bJ}(h:Ap cap base ls=true):oC cap 4 1=true/\oC base 4 1=true/\vi ls=true:=by
 unfold Ap at h;simp only[dp] at h;exact h
def af8 {cap base:List aG}{ls:List bJ}(h:Ap cap base ls=true):qS cap base ls:=by
 obtain⟨E,G,ab⟩:=af7 h;exact⟨V5 E,V5 G,atp ab⟩
def V6 {b:Nat}{q:Rat}(h:eN b q)(U:b<1200):dL q:=by
 have:=af0 (a:=2) (by omega) U;have b1:de=2^1200:=by decide +kernel
 refine⟨?_,?_⟩
 ·have:=h.1;rw[b1];omega
 ·have:=h.2;rw[b1];omega
def af9 {cap base:List aG}{ls:List bJ}(aE:(D cap)<=40):∀(k:Nat) (left:List Bool) (rounds:List (List Nat)),(∀x∈rounds,D x<=1000000)->(D rounds)+k<=1000000->FM (sl cap base ls k left rounds).2.1
 |0,_,_,_,_=>⟨by simp[sl],λx J=>by cases J⟩
 |k+1,left,rounds,h,O=>by
  unfold sl
  split
  ·split
   ·exact⟨by simp,λx J=>by cases J⟩
   ·exact⟨by dsimp only;omega,h⟩
   ·rename_i i lv xm;refine af9 aE k _ _ (λx J=>?_) (by rw[List.length_append,List.length_singleton];omega);rcases hv.1 J with J|J
    ·exact h x J
    ·rw[List.mem_singleton] at J;subst J;have:=On _ _ _ _ xm;rw[ln] at this;omega
  ·exact⟨by simp,λx J=>by cases J⟩
def atq (cap base:List aG)(ls:List bJ):FM (na cap base ls).2.1:=by
 unfold na
 split
 ·rename_i Q;obtain⟨-,aE,-⟩:=sm Q;exact af9 aE _ _ _ (λx J=>by cases J) (by rw[ln];omega)
 ·exact⟨by simp,λx J=>by cases J⟩
def atr {cap base:List aG}{ls:List bJ}(h:qS cap base ls):qS (tH cap base ls) base ls:=by
 obtain⟨⟨E,G⟩,ab,aM⟩:=h;obtain⟨a,b⟩:=JW (fed:=tG cap base ls) (D cap) 0 cap G;exact⟨⟨by unfold tH;omega,b⟩,ab,aM⟩
def ats {cap base:List aG}{ls:List bJ}(h:qS cap base ls):ia (w2 cap base ls).1/\FM (w2 cap base ls).2.1:=by
 unfold w2
 split
 ·exact⟨Oy (atr h),atq _ _ _⟩
 ·exact⟨⟨by simp,λf ag=>by cases ag⟩,⟨by simp,λx J=>by cases J⟩⟩
def att {ls:List bJ}(n:Int)(h:sa ls):ia (nb ls n).1/\ia (nb ls n).2.1:=by
 have ak:ia ([]:List aG):=⟨by simp,λf ag=>by cases ag⟩
 unfold nb
 split
 ·rename_i Q;obtain⟨oo,aA6,-⟩:=Vf Q;have qc:qS (bT n.toNat hX) (bT n.toNat fM) ls:=⟨⟨by rw[gv];omega,λf ag=>by rw[n4] at ag;rw[ag.2];exact Fq⟩,⟨by rw[gv];omega,λf ag=>by rw[n4] at ag;rw[ag.2];exact Ck⟩,h⟩
  split
  ·split
   ·exact⟨ak,Oy qc⟩
   ·split
    ·refine⟨(aeg ?_).1,ak⟩;refine⟨?_,λr Q=>?_⟩
     ·unfold oA;rw[au,au,List.length_range];omega
     ·obtain⟨x,J,rfl⟩:=hx.1 Q;unfold oA at J;obtain⟨i,-,rfl⟩:=hx.1 J;exact Fs Fq (by omega)
    ·exact⟨ak,ak⟩
  ·exact⟨ak,ak⟩
 ·exact⟨ak,ak⟩


def yM:List aG->Int->Int
 | [],a=>a
 |f::r,a=>yM r (IntKind.i64.wrap (a+f.1.1))
def Pl (cap base:List aG)(ls:List bJ)(z:List aG):Bool :=
 if (Ap cap base ls&&(oC z 4 1&&mv cap base ls))=true then
  (if ((nb ls (D cap)).2.2==0)=true then
   sq ls (D cap) (nb ls (D cap)).1&&((((nb ls (D cap)).2.1.length:Int)==0)&&(((na cap base ls).2.2==0)&&(((w2 cap base ls).2.2==0)&&Ao (na cap base ls).1 (w2 cap base ls).1)))
  else ((nb ls (D cap)).2.2==16)&&((((nb ls (D cap)).1.length:Int)==0)&&(decide (yM (nb ls (D cap)).2.1 0>0)&&(Al (bT (D cap) hX) (bT (D cap) fM) ls (nb ls (D cap)).2.1&&(Al (bT (D cap) hX) (bT (D cap) fM) ls (bT (D cap) fM) && !sq ls (D cap) z)))))
 else true
def Pm:=bW Fy λ(cap,base,ls,z)=>some (.same (.bool (Pl cap base ls z)))
@[go_sem] def atu (cap base ls z):=ux Pm rfl aew (cap,base,ls,z) rfl
def atv (T:bj)(nK:T RA=aW Pb)(nL:T RB=aW OU)(lM:T DF=aW Kg)(nM:T RD=aW OX)(mz:T DQ=aW J4)(nN:T RH=aW O2)(ep:T xU=aW Cp)(nO:T Rw=aW Ot)(mA:T DR=aW J2)(my:T xS=aW FL)(nP:T L2=aW Ox):WF T afG Pm:=by
 refine cp λ(cap,base,ls,z)=>⟨rfl,cq ?_⟩;simp only[afG,Fy,cg];unfold Pl;have yN:=asW;have bZ:=asd cap base ls;have bX:=ar6 z 4 1 (by omega);rcases ag:Ap cap base ls
 ·rw[ag] at bZ;refine ao ?_;repeat' (intro h<;>simp only[h,go_sem,go_sem_proc,nK,nL,lM,nM,mz,nN,ep,nO,mA,my,nP,yN,bZ,au,h8]<;>try refine an ?_ ?_)
 rw[ag] at bZ;rcases aP:oC z 4 1
 ·rw[aP] at bX;refine ao ?_;repeat' (intro h<;>simp only[h,go_sem,go_sem_proc,nK,nL,lM,nM,mz,nN,ep,nO,mA,my,nP,yN,bZ,bX,au,h8,fP]<;>try refine an ?_ ?_)
 rw[aP] at bX;have FU:=af8 ag;have atw:=V5 aP;have KB:=FU.2.2;have e4:=asg cap base ls FU;rcases Q:mv cap base ls
 ·rw[Q] at e4;refine ao ?_;repeat' (intro h<;>simp only[h,go_sem,go_sem_proc,nK,nL,lM,nM,mz,nN,ep,nO,mA,my,nP,yN,bZ,bX,e4,au,h8,fP]<;>try refine an ?_ ?_)
 rw[Q] at e4;simp only[JE,if_true];obtain⟨U,Fx,-⟩:=sm Q;have wK:=asw ls (D cap) Fx;have V7:qS (bT (D cap) hX) (bT (D cap) fM) ls:=⟨⟨by rw[gv];omega,λf ag=>by rw[n4] at ag;rw[ag.2];exact Fq⟩,⟨by rw[gv];omega,λf ag=>by rw[n4] at ag;rw[ag.2];exact Ck⟩,KB⟩
 have oo:=Vi ls (D cap) KB;have cx:=Oo cap base ls FU;have c3:=are cap base ls FU;obtain⟨aga,Pn⟩:=att (ls:=ls) (D cap) KB;have cz:=Vg ls (D cap) _ ⟨KB,aga⟩;have ef:=afn _ _ ⟨Oy FU,(ats FU).1⟩;have js:=aex _ _ ls _ ⟨V7,Pn⟩;have jG:=aex _ _ ls _ ⟨V7,V7.2.1⟩;have Ce:=Vg ls (D cap) z ⟨KB,atw⟩;generalize na cap base ls=P1 at *;generalize w2 cap base ls=P2 at *;generalize nb ls (D cap)=P3 at *;obtain⟨mc,iA,IU⟩:=P1;obtain⟨v1,v2,iL⟩:=P2;obtain⟨w1,fw,cR⟩:=P3;dsimp only[tF,Am] at oo cx c3 aga Pn cz ef js jG Ce;dsimp only;generalize Ao mc v1=Cq at *;generalize sq ls (D cap) w1=atx at *;generalize sq ls (D cap) z=X3 at *;generalize bT (D cap) fM=bq at *;generalize bT (D cap) hX=Os at *;generalize Al Os bq ls fw=aty at *;generalize Al Os bq ls bq=atz at *;rcases FV:(cR==0)
 ·simp only[dm,if_false];generalize atA:yM fw 0=agb;simp only[go_sem,go_sem_proc,nK,nL,lM,nM,mz,nN,ep,nO,mA,my,nP,yN,bZ,bX,e4,oo,wK,FV,au,fP];refine du [1,2,5,6,7,8,9,10] [407002,407010] (λ((i,a):Nat×Int) tm m=>i<=D fw/\agb=yM (fw.drop i) a/\tm 17=.M (.int .i64 a)/\tm 18=.M (.int .i64 i)) (λ(i,_)=>D fw-i) (0,0) (by refine⟨ej _,atA.symm,rfl,rfl⟩) ?_;intro vs ms aY aT;simp only[go_sem,go_sem_proc,nK,nL,lM,nM,mz,nN,ep,nO,mA,my,nP,au] at aY aT;subst aY aT;rintro⟨i,a⟩ tm m O hm ⟨L,qN,jo,iQ⟩;simp only[go_sem,go_sem_proc,nK,nL,lM,nM,mz,nN,ep,nO,mA,my,nP,bo] at O hm;obtain⟨cm,dX,fl,fT,hY,iS,m1,kW⟩:=O;obtain⟨bO,m9⟩:=hm;rcases eo (i<D fw) with av|bM
  ·have d1:decide ((i:Int)<(D fw:Int))=true:=dI;have ww:IntKind.i64.wrap ((i:Int)+1)=((i+1:Nat):Int):=by rw[wrap64 _ (by have:=Pn.1;omega) (by have:=Pn.1;omega)];omega
   obtain⟨⟨⟨fe,fJ⟩,⟨gS,iT⟩⟩,kB⟩:∃f,fw[i]?=some f:=⟨_,bw av⟩
   have qG:fw.drop i=((fe,fJ),(gS,iT))::fw.drop (i+1):=by
    obtain⟨ad,e⟩:=dh.1 kB;rw[List.drop_eq_getElem_cons ad,e]
   rw[qG] at qN;replace qN:=qN.trans (yM.eq_2 ..);dsimp only at qN;refine ao ?_;repeat' (intro h<;>simp only[h,go_sem,go_sem_proc,nK,nL,lM,nM,mz,nN,ep,nO,mA,my,nP,cm,dX,fl,fT,hY,iS,m1,kW,jo,iQ,bO,m9,d1,ww,kB,aV,au,bD]<;>try refine an ?_ ?_)
   exact⟨(i+1,IntKind.i64.wrap (a+fe)),by dsimp only;omega,by dsimp only;omega,qN,rfl,rfl⟩
  ·have d1:decide ((i:Int)<(D fw:Int))=false:=dV;have jY:fw.drop i=[]:=List.drop_eq_nil_of_le (by omega);rw[jY] at qN;replace qN:=qN.trans (yM.eq_1 ..);subst qN;rcases gj:(cR==16)
   ·refine ao ?_;repeat' (intro h<;>simp only[h,go_sem,go_sem_proc,nK,nL,lM,nM,mz,nN,ep,nO,mA,my,nP,cm,dX,fl,fT,hY,iS,m1,kW,jo,iQ,bO,m9,d1,gj,au,cC,l9,kz,scalar]<;>try refine an ?_ ?_)
   ·rcases gd:((D w1:Int)==0)
    ·refine ao ?_;repeat' (intro h<;>simp only[h,go_sem,go_sem_proc,nK,nL,lM,nM,mz,nN,ep,nO,mA,my,nP,cm,dX,fl,fT,hY,iS,m1,kW,jo,iQ,bO,m9,d1,gj,gd,au,cC,l9,kz,scalar]<;>try refine an ?_ ?_)
    ·rcases mx:decide (agb>0)
     ·refine ao ?_;repeat' (intro h<;>simp only[h,go_sem,go_sem_proc,nK,nL,lM,nM,mz,nN,ep,nO,mA,my,nP,cm,dX,fl,fT,hY,iS,m1,kW,jo,iQ,bO,m9,d1,gj,gd,mx,au,cC,l9,kz,scalar]<;>try refine an ?_ ?_)
     ·rcases aty
      ·refine ao ?_;repeat' (intro h<;>simp only[h,go_sem,go_sem_proc,nK,nL,lM,nM,mz,nN,ep,nO,mA,my,nP,cm,dX,fl,fT,hY,iS,m1,kW,jo,iQ,bO,m9,d1,gj,gd,mx,js,au,cC,l9,kz,scalar]<;>try refine an ?_ ?_)
      ·rcases atz
       ·refine ao ?_;repeat' (intro h<;>simp only[h,go_sem,go_sem_proc,nK,nL,lM,nM,mz,nN,ep,nO,mA,my,nP,cm,dX,fl,fT,hY,iS,m1,kW,jo,iQ,bO,m9,d1,gj,gd,mx,js,jG,au,cC,l9,kz,scalar]<;>try refine an ?_ ?_)
       ·refine ao ?_;repeat' (intro h<;>simp only[h,go_sem,go_sem_proc,nK,nL,lM,nM,mz,nN,ep,nO,mA,my,nP,cm,dX,fl,fT,hY,iS,m1,kW,jo,iQ,bO,m9,d1,gj,gd,mx,js,jG,Ce,au]<;>try refine an ?_ ?_)
 ·simp only[if_true];rcases atx
  ·refine ao ?_;repeat' (intro h<;>simp only[h,go_sem,go_sem_proc,nK,nL,lM,nM,mz,nN,ep,nO,mA,my,nP,yN,bZ,bX,e4,oo,cx,c3,wK,FV,cz,au,fP,cC,l9,kz,scalar]<;>try refine an ?_ ?_)
  ·rcases gj:((D fw:Int)==0)
   ·refine ao ?_;repeat' (intro h<;>simp only[h,go_sem,go_sem_proc,nK,nL,lM,nM,mz,nN,ep,nO,mA,my,nP,yN,bZ,bX,e4,oo,cx,c3,wK,FV,gj,cz,au,fP,cC,l9,kz,scalar]<;>try refine an ?_ ?_)
   ·rcases gd:(IU==0)
    ·refine ao ?_;repeat' (intro h<;>simp only[h,go_sem,go_sem_proc,nK,nL,lM,nM,mz,nN,ep,nO,mA,my,nP,yN,bZ,bX,e4,oo,cx,c3,wK,FV,gj,gd,cz,au,fP,cC,l9,kz,scalar]<;>try refine an ?_ ?_)
    ·rcases mx:(iL==0)
     ·refine ao ?_;repeat' (intro h<;>simp only[h,go_sem,go_sem_proc,nK,nL,lM,nM,mz,nN,ep,nO,mA,my,nP,yN,bZ,bX,e4,oo,cx,c3,wK,FV,gj,gd,mx,cz,au,fP,cC,l9,kz,scalar]<;>try refine an ?_ ?_)
     ·refine ao ?_;repeat' (intro h<;>simp only[h,go_sem,go_sem_proc,nK,nL,lM,nM,mz,nN,ep,nO,mA,my,nP,yN,bZ,bX,e4,oo,cx,c3,wK,FV,gj,gd,mx,cz,ef,au,fP]<;>try refine an ?_ ?_)
end Go.Mini
namespace Go.Mini
open Go Go.Proofs
def agc:cj rJ IH:=cM 125000 [] (a8 Aa b7) Tryz.func213 (ani _ bd)
def V8:cj Bg Ey:=cM 398000 [] (a8 Aa b7) Tryz.func87 (anm _ bd)
def atB:cj uB M3:=cM 400000 [] (a8 V8 b7) Tryz.func129 (ano _ bd)
def atC:cj v5 M4:=cM 391000 [] (a8 Aa b7) Tryz.func88 (anq _ bd)
def atD:cj uz M5:=cM 387000 [] b7 Tryz.func82 (ans _)
def atE:cj uA M6:=cM 389000 [] (a8 V8 b7) Tryz.func86 (anu _ bd)
def atF:cj Rj M8:=cM 146000 [] (a8 agc (a8 atB (a8 atC (a8 atD (a8 atE b7))))) Tryz.func156 (anB _ bd (λh=>absurd h (by decide)) (λh=>absurd h (by decide)) (λ_=>bd) (λ_=>bd) (λ_=>bd) (λ_=>bd))
def KC:cj sS r0:=cM 128000 [] (a8 atF b7) Tryz.func81 (anI _ bd)
def atG:cj LV Na:=cM 127000 [] (a8 agc (a8 KC b7)) Tryz.func215 (anL _ bd bd)
def atH:cj Ri Nb:=cM 145000 [] (a8 atG b7) Tryz.func228 (anM _ bd)
def atI:cj Rd Nc:=cM 126000 [] (a8 atH b7) Tryz.func214 (anN _ bd)
def atJ:cj Rb Nd:=cM 108000 [] (a8 atI b7) Tryz.func158 (anP _ bd)
def atK:mu Tryz.prog zk (zN yn):=anS (mf:=MX) (kb:=168000) (own:=[]) (yk (xJ b7) (ym m5)) mixed Tryz.func230 (by kernel_rfl) (by kernel_rfl) Nh λargs mem r k g i d h=>by
 obtain⟨E,G,ab,aM,bl⟩:=anU _ args mem r k g i d h;exact⟨E,G,ab,aM,bl⟩
def atL:cj HG IK:=cM 167000 [] b7 Tryz.func229 (anT _)
def atM:mu Tryz.prog Rk (yj IX):=S8 (mf:=wH) (kb:=148000) (own:=[3000106,3000165,3000169]) (yk (xJ (a8 atL (a8 ad4 (a8 ad3 (a8 UI b7))))) (ym (tq atK m5))) mixed Tryz.func216 (by kernel_rfl) (by kernel_rfl) λargs mem bR h=>by
 obtain⟨a,rfl,⟨E,G,ab,aM,bl,bz,bP⟩,rfl⟩:=aoy h;exact⟨p4 rfl,aoo _ (yl rfl rfl) (EE rfl rfl) (yl rfl rfl) (yl rfl rfl) (yl rfl rfl) a.go a.N a.rows a.r a.c mem E G ab aM bl bz bP⟩
def agd:cj DI EU:=cM 147000 [5] b7 Tryz.func78 (aoB _)
def atN:cj Re IZ:=u4 129000 [29,34] (a8 agd b7) (tq atM m5) Tryz.func159 (aoQ _ bd (EE rfl rfl))
def age:cj Hy I6:=cM 109000 [] (a8 atJ (a8 atN b7)) Tryz.func84 (aoU _ bd bd)
def atO:cj Rp NA:=cM 171000 [] b7 Tryz.func184 (aoZ _)
def atP:cj Rl NB:=cM 151000 [] (a8 atO b7) Tryz.func108 (ao0 _ bd)
def agf:cj DG I7:=cM 131000 [] (a8 atP b7) Tryz.func45 (ao9 _ bd)
def KD:cj rK yD:=cM 183000 [18] b7 Tryz.func225 (arw _)
def Po:cj rL Cx:=cM 187000 [] b7 Tryz.func226 (arz _)
def agh:cj DO FC:=cM 185000 [] (a8 Po b7) Tryz.func196 (arA _ bd)
def atQ:cj Rs OC:=cM 181000 [] (a8 Po (a8 KD b7)) Tryz.func195 (arC _ bd bd)
def agi:cj HJ J5:=cM 182000 [] (a8 Po (a8 KD b7)) Tryz.func197 (arD _ bd bd)
def atS:cj HK J6:=cM 186000 [] (a8 Po (a8 KD b7)) Tryz.func194 (arE _ bd bd)
def agj:cj HI J9:=cM 180000 [26] (a8 KD (a8 atS (a8 agh (a8 agi b7)))) Tryz.func203 (arL _ bd bd bd bd)
def Pp:cj sV Cy:=cM 166000 [] (a8 KD b7) Tryz.func192 (arN _ bd)
def FW:cj nt yF:=cM 162000 [] b7 Tryz.func143 (arO _)
def atT:cj LY OF:=cM 163000 [] (a8 FW (a8 Pp b7)) Tryz.func190 (arP _ bd bd)
def agk:cj DH Ka:=cM 144000 [] (a8 Pp b7) Tryz.func125 (arQ _ bd)
def atU:cj Rv OG:=cM 210000 [] b7 Tryz.func204 (arS _)
def atV:cj Ru OH:=cM 205000 [] (a8 FW (a8 atU (a8 agh b7))) Tryz.func145 (arU _ bd bd bd)
def agl:cj HF Kb:=cM 164000 [] (a8 FW (a8 agj (a8 Pp b7))) Tryz.func144 (arV _ bd bd bd)
def atW:cj LZ OI:=cM 165000 [] (a8 FW (a8 agj (a8 atQ (a8 agi (a8 Pp b7))))) Tryz.func191 (arW _ bd bd bd bd bd)
def atX:cj Rh OJ:=cM 143000 [] (a8 FW (a8 atT (a8 agl (a8 atW b7)))) Tryz.func124 (arX _ bd bd bd bd)
def agm:cj HA Ke:=cM 124000 [] (a8 agk (a8 atX b7)) Tryz.func57 (arY _ bd bd)
def atY:cj LW OK:=cM 142000 [] b7 Tryz.func128 (ar0 _)
def atZ:cj Rc OM:=cM 120000 [] (a8 atY b7) Tryz.func59 (ar1 _ bd)
def agn:cj Hz Kf:=cM 115000 [] b7 Tryz.func17 (ar3 _)
def at0:cj Rt OO:=cM 196000 [] (a8 FW (a8 agl (a8 agk (a8 atV b7)))) Tryz.func70 (ar4 _ bd bd bd bd)
def ago:cj DF Kg:=cM 107000 [] (a8 agn b7) Tryz.func23 (ar7 _ bd)
def agp:cj xS FL:=cM 112000 [] (a8 atZ b7) Tryz.func14 (ar9 _ bd)
def at1:cj L3 NG:=cM 402000 [] (a8 V8 b7) Tryz.func155 (apf _ bd)
def at2:cj RJ NH:=cM 432000 [] (a8 at1 b7) Tryz.func212 (apg _ bd)
def at3:cj RI NI:=cM 431000 [] (a8 at2 b7) Tryz.func154 (aph _ bd)
def V9:cj Bi EZ:=cM 401000 [] (a8 at3 b7) Tryz.func80 (apj _ bd)
def Wa:cj Bh E0:=cM 399000 [] (a8 V9 (a8 KC b7)) Tryz.func62 (apo _ bd bd)
def Pq:cj sW B1:=cM 404000 [] (a8 ad2 b7) Tryz.func46 (apq _ bd)
def at4:mu Tryz.prog Ry (yj JA):=S8 (mf:=MZ) (kb:=397000) (own:=[]) (yk (xJ (a8 UI (a8 UH b7))) (ym m5)) mixed Tryz.func130 (by kernel_rfl) (by kernel_rfl) λargs mem bR h=>by
 obtain⟨a,⟨rfl,a2⟩,rfl⟩:=Tc h;exact⟨p4 rfl,aqM _ (yl rfl rfl) (yl rfl rfl) a mem a2⟩
def Wb:cj Bf Fo:=u4 396000 [] b7 (tq at4 m5) Tryz.func64 (aqR _ (EE rfl rfl))
def agq:cj HL JG:=cM 395000 [18] (a8 Pq (a8 agf (a8 ad3 b7))) Tryz.func83 (aqV _ bd bd bd)
def at5:mu Tryz.prog Rz (Jx UZ):=aqr (mf:=M0) (kb:=403000) (own:=[]) (yk (xJ (a8 agq (a8 age b7))) (ym m5)) mixed Tryz.func63 (by kernel_rfl) (by kernel_rfl) (λj:Nat=>j/1000=403) λargs mem d h=>by
 obtain⟨a,⟨rfl,a2⟩,rfl⟩:=aqu h;exact⟨p4 rfl,a2.no,aqZ _ (yl rfl rfl) (yl rfl rfl) a mem a2⟩
def Pr:cj xU Cp:=u4 394000 [] (a8 Wa (a8 Wb (a8 UJ b7))) (tq at5 m5) Tryz.func18 (aq5 _ bd (EE rfl rfl) bd bd)
def at6:mu Tryz.prog Rx (yj JV):=S8 (mf:=MY) (kb:=393000) (own:=[]) (yk (xJ b7) (ym m5)) mixed Tryz.func77 (by kernel_rfl) (by kernel_rfl) λargs mem bR h=>by
 obtain⟨a,⟨rfl,a2⟩,rfl⟩:=Tc h;exact⟨p4 rfl,ard _  a mem a2⟩
def at7:cj Rw Ot:=u4 392000 [67] (a8 Wa (a8 agd (a8 Pq (a8 Pr b7)))) (tq at6 m5) Tryz.func26 (arf _ bd (EE rfl rfl) bd bd bd)
def agr:cj DR J2:=cM 388000 [] (a8 V9 (a8 KC (a8 Pq (a8 Wb (a8 UJ b7))))) Tryz.func30 (arq _ bd bd bd bd bd)
def aua:cj L2 Ox:=cM 390000 [] (a8 Wa (a8 KC (a8 Wb (a8 UJ b7)))) Tryz.func32 (ars _ bd bd bd bd)
def ags:cj DQ J4:=cM 386000 [] (a8 V9 (a8 Pq (a8 agf (a8 Pr (a8 KC (a8 agq (a8 age b7))))))) Tryz.func28 (arv _ bd bd bd bd bd bd bd)
def agt:cj DS Kh:=cM 422000 [] (a8 at0 b7) Tryz.func21 (asa _ bd)
def aub:cj RC OT:=cM 418000 [] (a8 agn b7) Tryz.func61 (asc _ bd)
def auc:cj RB OU:=cM 417000 [] (a8 ago (a8 aub b7)) Tryz.func16 (ase _ bd bd)
def aud:cj RE OV:=cM 424000 [] (a8 agt b7) Tryz.func85 (asf _ bd)
def aue:cj RD OX:=cM 423000 [] (a8 aud (a8 agt b7)) Tryz.func34 (ash _ bd bd)
def auf:cj L5 OY:=cM 430000 [] (a8 agm b7) Tryz.func79 (asp _ bd)
def aug:cj RG O0:=cM 426000 [] b7 Tryz.func25 (ass _)
def auh:cj RH O2:=cM 428000 [] (a8 auf b7) Tryz.func35 (asx _ bd)
def aui:cj mX Kp:=cM 412000 [] (a8 agm b7) Tryz.func37 (asD _ bd)
def auj:cj L4 O6:=cM 414000 [] b7 Tryz.func60 (asG _)
def auk:cj RF O8:=cM 425000 [] (a8 auj b7) Tryz.func15 (asJ _ bd)
def aul:cj RA Pb:=cM 413000 [] (a8 asS (a8 aui (a8 agp (a8 auk (a8 ags (a8 agr (a8 Pr (a8 aug b7)))))))) Tryz.func9 (asX _ bd bd bd bd bd bd bd bd)
def aum:cj akP Pm:=cM 407000 [] (a8 aul (a8 auc (a8 ago (a8 aue (a8 ags (a8 auh (a8 Pr (a8 at7 (a8 agr (a8 agp (a8 aua b7))))))))))) Tryz.func7 (atv _ bd bd bd bd bd bd bd bd bd bd bd)
end Go.Mini
namespace Go.Mini
open Go
def e7 (N:Nat)(x:Nat->Rat):List aG:=((jf N).map x).map bU
def pr (N:Nat)(x:Nat->Rat):(e7 N x).length=N:=by simp[e7]
def KE {N k:Nat}(x:Nat->Rat)(h:k<N):(e7 N x)[k]?=some (bU (x k)):=by
 unfold e7;rw[bD,bD,qq h];rfl
def CG {N:Nat}{l:List aG}{x:Nat->Rat}(ad:(D l)=N)(h:∀k,k<N->l[k]?=some (bU (x k))):l=e7 N x:=by
 apply ub;intro k;rcases fF k N with O|O
 ·rw[h k O,KE x O]
 ·rw[mI (by omega),mI (by rw[pr];omega)]
def KF {N:Nat}{x y:Nat->Rat}(h:∀k,k<N->x k=y k):e7 N x=e7 N y :=
 CG (pr N x) λk O=>by rw[KE x O,h k O]
def agu (N:Nat)(bk:cL)(x:Nat->Rat):Prop:=(∀y,j3 N bk (ext N y (-1))↔∀k,k<N->y k=x k)/\∀y,j3 N bk (ext N y 0)->∀k,k<N->y k=0
def Ps (N:Nat)(bk:cL):Prop:=∃y,j3 N bk (ext N y 0)/\∃k,k<N/\y k≠0
def aun {N:Nat}{rows:List cQ}{al:cL}(h:vl N rows al):rows.map (tw N)=e7 N (λi=>al i N) :=
 CG (by rw[au];exact h.1) λk O=>by
  obtain⟨x,J,-,mC⟩:=h.row O;rw[bD,J,jQ];unfold tw;rw[eH,mC.get (bI _)]
  rfl
def FQ.Pt {N:Nat}{al tI:cL}{rows:List cQ}{p c:Nat}{dH:Nat->Nat}(h:FQ N al tI rows p c dH){i k:Nat}(L:i<N)(O:k<=N):dL (tI i k):=by
 obtain⟨x,-,-,mC⟩:=h.enc.row L;exact mC.2 k O
def agv {q:Rat}(h:dL q):tk 0 (-q)=true:=by
 unfold tk;simp only[dp]
 have E:hS ((-q).num*((0:Rat).den:Int))=true:=by
  rw[af2,agw];unfold hS;rw[decide_eq_true_eq];have:=h.1;omega
 refine⟨?_,E,?_,?_⟩
 ·rw[agx,ya];decide +kernel
 ·rw[agx,ya,Int.zero_add];exact E
 ·rw[agw,Rat.neg_den];unfold hS;rw[decide_eq_true_eq];have:=h.2;omega
def Wc:dL 0:=⟨by decide +kernel,by decide +kernel⟩
def auo {N f:Nat}{rows:List cQ}{al:cL}(h:vl N rows al)(ag:f<N):Jc rows f N f=e7 N (q6 al f) :=
 CG (apd _ _ _ _) λk O=>by
  unfold Jc;rw[bD,qq O,jQ];unfold q6
  by_cases E:k<f
  ·rw[aq E,aq E];obtain⟨x,-,ex,mC⟩:=h.row (i:=k) (by omega);rw[ex,mC.cell (by omega),<-acQ,MT Wc (mC.2 f (by omega)),agv (mC.2 f (by omega))]
   rfl
  ·rw[ar E,ar E]
   by_cases G:k=f
   ·rw[aq G,aq G,apc]
   ·rw[ar G,ar G,acQ]
def Wd {N:Nat}{bk al:cL}(h:∀y,j3 N al y↔j3 N bk y):∀y z,j3 N al (ext N y z)↔j3 N bk (ext N y z):=λ_ _=>h _
def aup {rs:List eg}{n:Int}(h:oe rs n=true):
  (l4 rs n=([],6)) \/
  (∃x,l4 rs n=(e7 (D rs) x,0)/\TR rs n=([],false)/\(∀k,k<(D rs)->dL (x k))/\agu (D rs) (qj rs) x) \/
  (∃y,l4 rs n=([],17)/\TR rs n=(e7 (D rs) y,true)/\(∀k,k<(D rs)->dL (y k))/\j3 (D rs) (qj rs) (ext (D rs) y 0)/\∃k,k<D rs/\y k=1):=by
 unfold l4 TR;rw[aq h];rcases J:o8 true rs with ⟨vn,qi,bad⟩
 cases bad
 ·right
  obtain⟨al,p,c,dH,he,-,R⟩:=atk true h J;rw[aq h];rcases R rfl with ⟨rfl,rfl,rfl,iW⟩|⟨f,rfl,ag,rfl,rfl,iW,aP⟩
  ·left
   refine⟨λi=>al i (D rs),?_,rfl,λk O=>he.Pt O (bI _),λy=>?_,λy af=>?_⟩
   ·rw[ar (by simp),ar (by simp),aun he.enc]
   ·rw[<-Wd he.FR];exact afM he.red iW y
   ·exact ata he.red iW y ((Wd he.FR y 0).2 af)
  ·right
   refine⟨q6 al c,?_,?_,λk O=>?_,?_,⟨c,ag,by unfold q6;simp⟩⟩
   ·rw[ar (by simp),aq (by simp)]
   ·rw[ar (by simp)];exact congrArg (λl=>(l,true)) (auo he.enc ag)
   ·unfold q6
    split
    ·exact aa6 (agv (he.Pt O (by omega)))
    ·split
     ·exact⟨by decide +kernel,by decide +kernel⟩
     ·exact Wc
   ·exact (Wd he.FR _ _).1 (afN he.red iW ag aP)
 ·left
  rw[aq rfl]
def FX {n:Nat}{f g:Nat->Rat}(h:∀k,k<n->f k<=g k):bE n f<=bE n g:=by
 induction n with
 |zero=>exact yO
 |succ n aD =>
  have E:=aD λk O=>h k (by omega);have G:=h n (by omega);simp only[bE];grind
def We {n:Nat}{f:Nat->Rat}(h:∀k,k<n->0<=f k):0<=bE n f:=by
 have:=FX (f:=λ_=>0) h;rwa [sr λ_ _=>rfl] at this
def agy (n:Nat)(f g:Nat->Rat):bE n (λk=>f k-g k)=bE n f-bE n g:=by
 induction n with
 |zero=>simp only[bE];grind
 |succ n aD=>simp only[bE];rw[aD];grind
def auq {n:Nat}{bu:Nat->Bool}(f:Nat->Rat):(∀i,i<n->bu i=false)\/∃j,j<n/\bu j=true/\∀i,i<n->bu i=true->f j<=f i:=by
 induction n with
 |zero=>exact .inl λi h=>by omega
 |succ n aD =>
  rcases b1:bu n
  ·rcases aD with h|⟨j,E,G,ab⟩
   ·refine .inl λi L=>?_;rcases fF i n with bS|bS
    ·exact h i bS
    ·obtain rfl:i=n:=by omega
     exact b1
   ·refine .inr ⟨j,by omega,G,λi L dS=>?_⟩
    rcases fF i n with bS|bS
    ·exact ab i bS dS
    ·obtain rfl:i=n:=by omega
     rw[b1] at dS;cases dS
  ·rcases aD with h|⟨j,E,G,ab⟩
   ·refine .inr ⟨n,by omega,b1,λi L dS=>?_⟩
    rcases fF i n with bS|bS
    ·rw[h i bS] at dS;cases dS
    ·obtain rfl:i=n:=by omega
     exact yO
   ·by_cases Z:f j<=f n
    ·refine .inr ⟨j,by omega,G,λi L dS=>?_⟩
     rcases fF i n with bS|bS
     ·exact ab i bS dS
     ·obtain rfl:i=n:=by omega
      exact Z
    ·refine .inr ⟨n,by omega,b1,λi L dS=>?_⟩
     rcases fF i n with bS|bS
     ·have:=ab i bS dS;grind
     ·obtain rfl:i=n:=by omega
      exact yO
def aur {n:Nat}{P:Nat->Bool}(a d:Nat->Rat)(a2:∀i,i<n->0<=a i)(ae:∀i,i<n->P i=true->0<d i):∃e:Rat,0<e/\∀i,i<n->P i=true->e*a i<d i:=by
 induction n with
 |zero=>exact⟨1,by decide,λi h=>by omega⟩
 |succ n aD =>
  obtain⟨e,E,G⟩:=aD (λi L=>a2 i (by omega)) λi L=>ae i (by omega);rcases db:P n
  ·refine⟨e,E,λi L dS=>?_⟩;rcases fF i n with bS|bS
   ·exact G i bS dS
   ·obtain rfl:i=n:=by omega
    rw[db] at dS;cases dS
  ·have D5:=a2 n (by omega);have jY:=ae n (by omega) db;generalize bx:d n/(a n+1)=t;have aK:t*(a n+1)=d n:=by rw[<-bx];exact Wf (by grind)
   have t0:0<t:=by
    apply CH;intro Z;have:=vo (show 0 <= -t by grind) (show 0<=a n+1 by grind);grind
   by_cases Z:e<=t
   ·refine⟨e,E,λi L dS=>?_⟩;rcases fF i n with bS|bS
    ·exact G i bS dS
    ·obtain rfl:i=n:=by omega
     have:=Pu Z D5;grind
   ·refine⟨t,t0,λi L dS=>?_⟩;rcases fF i n with bS|bS
    ·have:=Pu (show t<=e by grind) (a2 i (by omega));have:=G i bS dS;grind
    ·obtain rfl:i=n:=by omega
     grind
def fm (n:Nat)(W:cL)(b x:Nat->Rat)(i:Nat):Rat:=b i+bE n λk=>W i k*x k
def mD (n:Nat)(W:cL)(bu:Nat->Bool):Prop:=∃v:Nat->Rat,∀i,i<n->bu i=true->0<v i/\bE n (λk=>if bu k=true then W i k*v k else 0)<v i
def aus {n:Nat}{W:cL}{bu:Nat->Bool}(gW:∀i k,0<=W i k)(h:mD n W bu){z:Nat->Rat}(aP:∀i,i<n->bu i=true->bE n (λk=>if bu k=true then W i k*z k else 0)<=z i):∀i,i<n->bu i=true->0<=z i:=by
 obtain⟨v,ai⟩:=h;rcases auq (n:=n) (bu:=bu) (λi=>z i/v i) with h|⟨j,E,G,ab⟩
 ·intro i L dS;rw[h i L] at dS;cases dS
 ·obtain⟨nX,nY⟩:=ai j E G;have e:z j/v j*v j=z j:=Wf (by grind);generalize z j/v j=m at *
  have bM:∀i,i<n->bu i=true->m*v i<=z i:=λi L dS=>by
   have gj:=ab i L dS;have gd:=(ai i L dS).1;have mx:=Pu gj (FY gd);rwa [Wf (by grind)] at mx
  have s9:m*bE n (λk=>if bu k=true then W j k*v k else 0)<=bE n (λk=>if bu k=true then W j k*z k else 0):=by
   rw[<-q5];refine FX λk O=>?_
   split
   ·rename_i gn;have:=agz (bM k O gn) (gW j k);grind
   ·grind
  have aA7:=aP j E G
  have mP:0<=m:=by
   apply CH;intro Z;generalize bE n (λk=>if bu k=true then W j k*v k else 0)=S at *;have:=agA nY (show 0 < -m by grind);grind
  intro i L dS;have:=bM i L dS;have:=vo mP (FY (ai i L dS).1);grind
def agB {n:Nat}{W:cL}{bu bk:Nat->Bool}(gW:∀i k,0<=W i k)(h:mD n W bu)(l1:∀i,i<n->bk i=true->bu i=true):mD n W bk:=by
 obtain⟨v,ai⟩:=h;refine⟨v,λi L dS=>⟨(ai i L (l1 i L dS)).1,?_⟩⟩;have E:=(ai i L (l1 i L dS)).2
 have G:bE n (λk=>if bk k=true then W i k*v k else 0)<=bE n (λk=>if bu k=true then W i k*v k else 0):=FX λk O=>by
  rcases aut:bk k
  ·rcases auu:bu k
   ·simp
   ·have:=vo (gW i k) (FY (ai k O auu).1)
    simpa using this
  ·rw[l1 k O aut];simp
 grind
def auv (n:Nat)(W:cL):mD n W λ_=>false:=⟨λ_=>0,λi _ h=>by cases h⟩
def auw {n:Nat}{W:cL}{bu S:Nat->Bool}(gW:∀i k,0<=W i k)(h:mD n W bu){x:Nat->Rat}(J:∀k,k<n->0<=x k)(b1:∀i,i<n->bu i=true->bE n (λk=>W i k*x k)<=x i)(cr:∀i,i<n->S i=true->0<x i/\bE n (λk=>W i k*x k)<x i):mD n W λi=>bu i||S i:=by
 obtain⟨v,ai⟩:=h
 have xp:∀k,k<n->0<=if bu k=true then v k else 0:=λk O=>by
  split
  ·exact FY (ai k O ‹_›).1
  ·exact yO
 obtain⟨e,eO,he⟩:=aur (n:=n) (P:=S) (λi=>bE n λk=>W i k*if bu k=true then v k else 0) (λi=>x i-bE n λk=>W i k*x k) (λi L=>We λk O=>vo (gW i k) (xp k O)) λi L dS=>by
  have:=(cr i L dS).2;grind
 refine⟨λi=>x i+e*if bu i=true then v i else 0,λi L dS=>?_⟩
 have hle:bE n (λk=>if (bu k||S k)=true then W i k*(x k+e*if bu k=true then v k else 0) else 0)<=bE n (λk=>W i k*x k)+e*bE n λk=>W i k*if bu k=true then v k else 0:=by
  rw[<-q5,<-yJ];refine FX λk O=>?_;have cx:=vo (gW i k) (J k O);have c3:=vo (FY eO) (vo (gW i k) (xp k O));generalize (if bu k=true then v k else 0)=u at *
  split<;>grind
 have fY:=J i L;dsimp only at dS ⊢;rcases FZ:bu i
 ·rw[FZ] at dS;obtain⟨cz,ef⟩:=cr i L dS;have js:=he i L dS;rw[ar (by simp)]
  constructor<;>grind
 ·obtain⟨cz,ef⟩:=ai i L FZ;have js:=b1 i L FZ;rw[aq rfl];have jG:bE n (λk=>W i k*if bu k=true then v k else 0)=bE n (λk=>if bu k=true then W i k*v k else 0):=nd λk _=>by split<;>grind
  rw[jG] at hle;have Ce:=agA ef eO;have adE:=Rat.mul_pos eO cz
  constructor<;>grind
def auy {n:Nat}{W:cL}{bu:Nat->Bool}{z:Nat->Rat}(gW:∀i k,0<=W i k)(aP:∀k,k<n->bu k=false->0<=z k)(i:Nat):bE n (λk=>if bu k=true then W i k*z k else 0)<=bE n λk=>W i k*z k:=FX λk O=>by
 rcases b1:bu k
 ·have:=vo (gW i k) (aP k O b1)
  simpa using this
 ·simp
def CI {n:Nat}{W:cL}{bu:Nat->Bool}(gW:∀i k,0<=W i k)(h:mD n W bu){z:Nat->Rat}(E:∀k,k<n->bu k=false->0<=z k)(G:∀i,i<n->bu i=true->bE n (λk=>W i k*z k)<=z i):∀i,i<n->0<=z i:=λi L=>by
 rcases b1:bu i
 ·exact E i L b1
 ·exact aus gW h (λi L dS=>Pv (auy gW E i) (G i L dS)) i L b1
def Wg {n:Nat}{W:cL}{b x y:Nat->Rat}(i:Nat):bE n (λk=>W i k*(x k-y k))=fm n W b x i-fm n W b y i:=by
 have:(λk=>W i k*(x k-y k))=λk=>W i k*x k-W i k*y k:=by funext k;grind
 rw[this,agy];unfold fm;grind
def w4 (n:Nat)(W:cL)(b c x:Nat->Rat)(bu:Nat->Bool):Prop:=∀i,i<n->x i=if bu i=true then fm n W b x i else c i
def w4.jF {n:Nat}{W:cL}{b c x:Nat->Rat}{bu:Nat->Bool}(gW:∀i k,0<=W i k)(U:∀i,i<n->0<=b i)(Z:∀i,i<n->0<=c i)(L:mD n W bu)(h:w4 n W b c x bu):∀i,i<n->0<=x i :=
 CI gW L (λk O b1=>by have:=h k O;rw[b1] at this;rw[this];simpa using Z k O) λi L b1=>by
  have:=h i L;rw[b1,aq rfl] at this;have U:=U i L;unfold fm at this;grind
def w4.next {n:Nat}{W:cL}{b c x eJ:Nat->Rat}{bu S:Nat->Bool}(gW:∀i k,0<=W i k)(L:mD n W λi=>bu i||S i)(h:w4 n W b c x bu)(bS:w4 n W b c eJ λi=>bu i||S i)(cr:∀i,i<n->S i=true->bu i=false/\fm n W b x i<c i):∀i,i<n->eJ i<=x i:=by
 have:=CI (z:=λi=>x i-eJ i) gW L (λk O b1=>by
  simp only[Bool.or_eq_false_iff] at b1;have cx:=h k O;have c3:eJ k=if (bu k||S k)=true then fm n W b eJ k else c k:=bS k O;rw[b1.1] at cx;rw[b1.1,b1.2] at c3;simp at cx c3;grind) λi L b1=>by
  have c3:eJ i=if (bu i||S i)=true then fm n W b eJ i else c i:=bS i L;rw[b1,aq rfl] at c3;rw[Wg (b:=b)];rcases Wh:S i
  ·rw[Wh,rE] at b1;have cx:=h i L;rw[b1,aq rfl] at cx;grind
  ·have cx:=h i L;rw[(cr i L Wh).1] at cx;have hE:=(cr i L Wh).2;simp at cx;grind
 intro i L;have:=this i L;grind
structure tJ (n:Nat) (W:cL) (b c x:Nat->Rat) (bu:Nat->Bool):Prop where
 inv:mD n W bu
 jF:∀i,i<n->0<=x i
 bQ:∀i,i<n->bu i=true->x i=fm n W b x i/\x i<c i
 L:∀i,i<n->bu i=false->x i=c i/\c i<=fm n W b x i
def tJ.le {n:Nat}{W:cL}{b c x:Nat->Rat}{bu:Nat->Bool}(h:tJ n W b c x bu){i:Nat}(L:i<n):x i<=c i/\x i<=fm n W b x i/\(x i=c i\/x i=fm n W b x i):=by
 rcases b1:bu i
 ·obtain⟨E,G⟩:=h.L i L b1;refine⟨?_,?_,.inl E⟩<;>grind
 ·obtain⟨E,G⟩:=h.bQ i L b1;refine⟨?_,?_,.inr E⟩<;>grind
def tJ.top {n:Nat}{W:cL}{b c x y:Nat->Rat}{bu:Nat->Bool}(gW:∀i k,0<=W i k)(h:tJ n W b c x bu)(af:∀i,i<n->y i<=c i/\y i<=fm n W b y i):∀i,i<n->y i<=x i:=by
 have:=CI (z:=λi=>x i-y i) gW h.inv (λk O b1=>by
  have cx:=(h.L k O b1).1;have c3:=(af k O).1;grind) λi L b1=>by
  have cx:=(h.bQ i L b1).1;have c3:=(af i L).2;rw[Wg (b:=b)];grind
 intro i L;have:=this i L;grind
def auz {n:Nat}{W:cL}{b dt x:Nat->Rat}(U:∀i,i<n->b i<=dt i){i:Nat}(L:i<n):fm n W b x i<=fm n W dt x i:=by
 have:=U i L;unfold fm;grind
def tJ.more {n:Nat}{W:cL}{b c x dt c' eJ:Nat->Rat}{bu auA:Nat->Bool}(gW:∀i k,0<=W i k)(h:tJ n W b c x bu)(bS:tJ n W dt c' eJ auA)(U:∀i,i<n->b i<=dt i)(Z:∀i,i<n->c i<=c' i):∀i,i<n->x i<=eJ i :=
 bS.top gW λi L=>⟨Pv (h.le L).1 (Z i L),Pv (h.le L).2.1 (auz U L)⟩
def tJ.one {n:Nat}{W:cL}{b c x y:Nat->Rat}{bu:Nat->Bool}(gW:∀i k,0<=W i k)(a2:mD n W λ_=>true)(h:tJ n W b c x bu)(af:∀i,i<n->y i<=c i/\y i<=fm n W b y i/\(y i=c i\/y i=fm n W b y i)):∀i,i<n->y i=x i:=by
 have E:=h.top gW λi L=>⟨(af i L).1,(af i L).2.1⟩
 have G:=CI (z:=λi=>y i-x i) (bu:=λi=>decide (y i≠c i)) gW (agB gW a2 λ_ _ _=>rfl) (λk O b1=>by
  have cx:y k=c k:=by simpa using b1
  have c3:=(h.le O).1;grind) λi L b1=>by
  have cx:y i≠c i:=by simpa using b1
  have c3:y i=fm n W b y i:=(af i L).2.2.resolve_left cx;have hE:=(h.le L).2.1;rw[Wg (b:=b)];grind
 intro i L;have:=E i L;have:=G i L;grind
def auB {n:Nat}{W:cL}{z:Nat->Rat}(h:∀i,i<n->0<z i/\bE n (λk=>W i k*z k)<z i):mD n W λ_=>true:=⟨z,λi L _=>by
 simpa using h i L⟩
def inv_zero {n:Nat}{W:cL}(gW:∀i k,0<=W i k)(h:mD n W λ_=>true){g:Nat->Rat}(aC:∀i,i<n->g i<=bE n λk=>W i k*g k):∀i,i<n->g i<=0:=by
 have:=CI (z:=λi => -g i) gW h (λk _ b1=>by cases b1) λi L _=>by
  have e:(λk=>W i k * -g k)=λk=>(-1)*(W i k*g k):=by funext k;grind
  rw[e,q5];have:=aC i L;grind
 intro i L;have:=this i L;grind
abbrev e8:=Nat->Rat
def iv (n:Nat)(f:List e8->Rat):List e8->List e8->Rat
 |_,[]=>0
 |pre,c::cs=>c n*f (pre++cs)-iv n f (pre++[c]) cs
def fv:Nat->List e8->Rat
 |0,[]=>1
 |0,_::_=>0
 |n+1,cs=>iv n (fv n) [] cs
def Av (x y:e8)(a:Rat):e8:=λi=>x i+a*y i
def Wi (f:List e8->Rat):Prop:=∀A B x y a,f (A++Av x y a::B)=f (A++x::B)+a*f (A++y::B)
def Wj (f:List e8->Rat):Prop:=∀A B z,f (A++z::z::B)=0
def auC {n:Nat}{f:List e8->Rat}(h:Wi f)(x y:e8)(a:Rat)(A:List e8):∀cs l6,iv n f (A++Av x y a::l6) cs=iv n f (A++x::l6) cs+a*iv n f (A++y::l6) cs:=by
 intro cs
 induction cs with
 |nil=>intro l6;simp only[iv];grind
 |cons c cs aD =>
  intro l6;have e:=aD (l6++[c]);simp only[iv,hj,lo] at e ⊢;rw[h A (l6++cs) x y a,e];grind
def auD {n:Nat}{f:List e8->Rat}(h:Wi f)(x y:e8)(a:Rat)(B:List e8):∀A pre,iv n f pre (A++Av x y a::B)=iv n f pre (A++x::B)+a*iv n f pre (A++y::B):=by
 intro A
 induction A with
 |nil =>
  intro pre;have e:=auC (n:=n) h x y a pre B [];simp only[jU,iv];rw[e];simp only[Av];grind
 |cons c A aD =>
  intro pre;have e:=aD (pre++[c]);have az:=h (pre++A) B x y a;simp only[hj] at az;simp only[lo,iv];rw[e,az];grind
def CJ:∀n,Wi (fv n)
 |0=>by
  intro A B x y a
  cases A<;>simp only[jU,lo,fv]<;>grind
 |n+1=>λA B x y a=>auD (CJ n) x y a B A []
def auE {n:Nat}{f:List e8->Rat}(h:Wj f)(z:e8)(A:List e8):∀cs l6,iv n f (A++z::z::l6) cs=0:=by
 intro cs
 induction cs with
 |nil=>intro l6;rfl
 |cons c cs aD =>
  intro l6;have e:=aD (l6++[c]);have az:=h A (l6++cs) z;simp only[iv,hj,lo] at e az ⊢;rw[e,az];grind
def auF {n:Nat}{f:List e8->Rat}(h:Wj f)(z:e8)(B:List e8):∀A pre,iv n f pre (A++z::z::B)=0:=by
 intro A
 induction A with
 |nil =>
  intro pre;have e:=auE (n:=n) h z pre B [];simp only[jU,iv,hj,lo] at e ⊢;rw[e];grind
 |cons c A aD =>
  intro pre;have e:=aD (pre++[c]);have az:=h (pre++A) B z;simp only[hj] at az;simp only[lo,iv];rw[e,az];grind
def KG:∀n,Wj (fv n)
 |0=>by
  intro A B z
  cases A<;>rfl
 |n+1=>λA B z=>auF (KG n) z B A []
def auG (n:Nat)(A B:List e8)(x y:e8):fv n (A++x::y::B) = -fv n (A++y::x::B):=by
 have ak:=KG n A B (Av x y 1);have E:=CJ n A (Av x y 1::B) x y 1;rw[ak] at E;have G:=CJ n (A++[x]) B x y 1;have ab:=CJ n (A++[y]) B x y 1;simp only[hj,lo,jU] at G ab;rw[G,ab,KG n A B x,KG n A B y] at E;grind
def agC (n:Nat)(C:List e8)(z:e8):∀B A,fv n (A++z::(B++z::C))=0:=by
 intro B
 induction B with
 |nil=>intro A;exact KG n A C z
 |cons b B aD =>
  intro A;have:=aD (A++[b]);simp only[hj,lo,jU] at this ⊢;rw[auG,this];grind
def Wk {n:Nat}{A B:List e8}{z:e8}(h:z∈A++B):fv n (A++z::B)=0:=by
 rcases hv.1 h with h|h
 ·obtain⟨auH,CK,rfl⟩:=agD h;have:=agC n B z CK auH
  simpa only [hj,lo] using this
 ·obtain⟨hG,Ay,rfl⟩:=agD h;exact agC n Ay z hG A
def auI {n:Nat}{f:List e8->Rat}{z:e8}(aP:z n=0)(h:∀A B,f (A++z::B)=0):(∀cs A l6,iv n f (A++z::l6) cs=0)/\∀A B pre,iv n f pre (A++z::B)=0:=by
 have E:∀cs A l6,iv n f (A++z::l6) cs=0:=by
  intro cs
  induction cs with
  |nil=>intro A l6;rfl
  |cons c cs aD =>
   intro A l6;have e:=aD A (l6++[c]);have az:=h A (l6++cs);simp only[iv,hj,lo] at e az ⊢;rw[e,az];grind
 refine⟨E,λA=>?_⟩
 induction A with
 |nil =>
  intro B pre;have e:=E B pre [];simp only[jU,iv];rw[e,aP];grind
 |cons c A aD =>
  intro B pre;have e:=aD B (pre++[c]);have az:=h (pre++A) B;simp only[hj] at az;simp only[lo,iv];rw[e,az];grind
def Wl:∀n (z:e8),(∀i,i<n->z i=0)->∀A B,fv n (A++z::B)=0
 |0,z,_=>λA B=>by cases A<;>rfl
 |n+1,z,h=>λA B=>(auI (h n (by omega)) (Wl n z λi L=>h i (by omega))).2 A B []
def agE {n:Nat}{e:e8}(h:∀i,i<n->e i=0)(cs:List e8):fv (n+1) (e::cs)=e n*fv n cs:=by
 show e n*fv n ([]++cs)-iv n (fv n) ([]++[e]) cs=_
 have:∀cs pre,iv n (fv n) (e::pre) cs=0:=by
  intro cs
  induction cs with
  |nil=>intro pre;rfl
  |cons c cs aD =>
   intro pre;have aK:=aD (pre++[c]);have az:=Wl n e h [] (pre++cs);simp only[iv,lo,jU] at aK az ⊢;rw[aK,az];grind
 simp only[jU];rw[this cs []];grind
def auJ {n:Nat}{f:List e8->Rat}{T:e8->e8}(cn:∀c,T c n=c n)(h:∀l,f (l.map T)=f l):∀cs pre,iv n f (pre.map T) (cs.map T)=iv n f pre cs:=by
 intro cs
 induction cs with
 |nil=>intro pre;rfl
 |cons c cs aD =>
  intro pre;have e:=aD (pre++[c]);have az:=h (pre++cs);simp only[pZ,hi,cE] at e az;simp only[hi,iv];rw[e,az,cn]
def Wm:∀n (T:e8->e8),(∀c i,i<n->T c i=c i)->∀l,fv n (l.map T)=fv n l
 |0,T,_=>λl=>by cases l<;>rfl
 |n+1,T,h=>λl=>auJ (λc=>h c n (by omega)) (Wm n T λc i L=>h c i (by omega)) l []
def agF {n:Nat}{α:Type}(l:List α)(f g:α->e8)(h:∀a∈l,∀i,i<n->f a i=g a i):fv n (l.map f)=fv n (l.map g):=by
 rw[<-Wm n (λc i=>if i<n then c i else 0) (λc i L=>aq L),<-Wm n (λc i=>if i<n then c i else 0) (λc i L=>aq L) (l.map g)];rw[rz,rz]
 congr 1
 apply G3;intro a a2
 funext i
 simp only[Function.comp]
 split
 ·exact h a a2 i (by assumption)
 ·rfl
def KH (n:Nat)(A B:List e8)(x:Nat->Rat)(C:Nat->e8):∀m,fv n (A++(λi=>bE m λl=>x l*C l i)::B)=bE m λl=>x l*fv n (A++C l::B)
 |0=>Wl n _ (λi _=>rfl) A B
 |m+1=>by
  have e:=CJ n A B (λi=>bE m λl=>x l*C l i) (C m) (x m);rw[KH n A B x C m] at e;exact e
def dy (B:Nat)(x:Rat):Prop:=∃z:Int,x=(z:Rat)/\z.natAbs<=B
def dy.mono {A B:Nat}{x:Rat}(h:dy A x)(ad:A<=B):dy B x:=by obtain⟨z,E,G⟩:=h;exact⟨z,E,by omega⟩
def dy.mul {A B:Nat}{x y:Rat}(J:dy A x)(af:dy B y):dy (A*B) (x*y):=by
 obtain⟨z,rfl,G⟩:=J;obtain⟨w,rfl,bX⟩:=af;exact⟨z*w,by rw[j5],by rw[kX];exact gw G bX⟩
def dy.sub {A B:Nat}{x y:Rat}(J:dy A x)(af:dy B y):dy (A+B) (x-y):=by
 obtain⟨z,rfl,G⟩:=J;obtain⟨w,rfl,bX⟩:=af;exact⟨z-w,by rw[V3],by omega⟩
def dy.add {A B:Nat}{x y:Rat}(J:dy A x)(af:dy B y):dy (A+B) (x+y):=by
 obtain⟨z,rfl,G⟩:=J;obtain⟨w,rfl,bX⟩:=af;exact⟨z+w,by rw[Wn],by omega⟩
def dy.zero {B:Nat}:dy B 0:=⟨0,by rfl,by simp⟩
def dy.int (z:Int):dy z.natAbs (z:Rat):=⟨z,rfl,bI _⟩
def dy.sum {B:Nat}{f:Nat->Rat}:∀n,(∀k,k<n->dy B (f k))->dy (n*B) (bE n f)
 |0,_=>dy.zero
 |n+1,h=>by
  have:=(dy.sum n λk O=>h k (by omega)).add (h n (by omega));exact this.mono (by rw[tZ];exact bI _)
def dy.of {z:Int}{B:Nat}(h:z.natAbs<=B):dy B (z:Rat):=⟨z,rfl,h⟩
def dy.nat {z:Nat}{B:Nat}(h:z<=B):dy B (z:Rat):=⟨z,(nf _).symm,by omega⟩
def eU:Nat->(Nat->Nat)->Nat
 |0,_=>0
 |n+1,a=>eU n a+a n
def Pw {n:Nat}{a b:Nat->Nat}(h:∀i,i<n->a i=b i):eU n a=eU n b:=by
 induction n with
 |zero=>rfl
 |succ n aD=>rw[eU,eU,aD λi L=>h i (by omega),h n (by omega)]
def auK {N t:Nat}(b:Nat->Nat)(bx:t<N):eU N b=eU N (λi=>if i=t then 0 else b i)+b t:=by
 induction N with
 |zero=>omega
 |succ N aD =>
  by_cases h:t=N
  ·subst h;rw[eU,eU,aq rfl];have:eU t b=eU t λi=>if i=t then 0 else b i:=Pw λi L=>by rw[ar (by omega)]
   omega
  ·have:=aD (by omega);rw[eU,eU,ar (by omega)];omega
def agG {N:Nat}{τ:Nat->Nat}:∀{n:Nat} (b:Nat->Nat),(∀i,i<n->τ i<N)->(∀i j,i<n->j<n->τ i=τ j->i=j)->eU n (λi=>b (τ i))<=eU N b
 |0,_,_,_=>ej _
 |n+1,b,E,G=>by
  have aD:=agG (n:=n) (λi=>if i=τ n then 0 else b i) (λi L=>E i (by omega)) λi j L aa=>G i j (by omega) (by omega);rw[auK b (E n (by omega)),eU]
  have:eU n (λi=>b (τ i))=eU n λi=>if τ i=τ n then 0 else b (τ i):=Pw λi L=>by
   rw[ar λh=>by have:=G i n (by omega) (by omega) h;omega]
  omega
def hZ:Nat->(Nat->Nat)->Nat
 |0,_=>1
 |n+1,aQ=>hZ n aQ*aQ n
def Wo {p:Nat}{aQ:Nat->Nat}(fb:∀k,0<aQ k):∀{N:Nat},p<=N->∃bR,0<bR/\hZ N aQ=hZ p aQ*bR/\∀k,p<=k->k<N->∃m,bR=aQ k*m
 |0,h=>⟨1,Px,by rw[show p=0 by omega];rfl,λk _ h=>by omega⟩
 |N+1,h=>by
  by_cases aF:p=N+1
  ·exact⟨1,Px,by rw[aF,dU],λk E G=>by omega⟩
  ·obtain⟨bR,ak,E,G⟩:=Wo (p:=p) fb (N:=N) (by omega);refine⟨bR*aQ N,F0 ak (fb N),by rw[hZ,E,F1],λk cm dX=>?_⟩
   by_cases O:k=N
   ·exact⟨bR,by rw[O,pO]⟩
   ·obtain⟨m,hm⟩:=G k cm (by omega);exact⟨m*aQ N,by rw[hm,F1]⟩
abbrev F2:=e8×(Nat->Nat)
def lN (n:Nat):List F2->Nat
 | []=>1
 |p::l=>eU n p.2*lN n l
def auL (n:Nat)(a b:List F2):lN n (a++b)=lN n a*lN n b:=by
 induction a with
 |nil=>simp[lN]
 |cons p l aD=>simp only[lo,lN,aD,F1]
def agH (n:Nat):∀l:List F2,lN n l<=lN (n+1) l
 | []=>bI _
 |p::l=>gw (Nat.le_add_right _ _) (agH n l)
def agI {n:Nat}{f:List e8->Rat}(h:∀l:List F2,(∀p∈l,∀i,i<n->dy (p.2 i) (p.1 i))->dy (lN n l) (f (l.map (·.1)))):
  ∀cs pre:List F2,(∀p∈pre++cs,∀i,i<n+1->dy (p.2 i) (p.1 i))->∃z:Int,iv n f (pre.map (·.1)) (cs.map (·.1))=(z:Rat)/\z.natAbs+lN n pre*lN n cs<=lN n pre*lN (n+1) cs
 | [],pre,_=>⟨0,rfl,by simp[lN]⟩
 |c::cs,pre,aF=>by
  obtain⟨z,E,G⟩:=agI h cs (pre++[c]) (by simpa using aF);obtain⟨y,bZ,bX⟩:=h (pre++cs) λp hm i L=>aF p (by simp only[hv,hq] at hm ⊢;rcases hm with hm|hm<;>simp[hm]) i (by omega)
  obtain⟨x,cm,dX⟩:=aF c (by simp) n (by omega);simp only[pZ,hi,cE] at E bZ;refine⟨x*y-z,?_,?_⟩
  ·simp only[hi,iv];rw[cm,bZ,E,V3,j5]
  ·rw[auL] at G bX;simp only[lN,eU,dU] at G ⊢;have cx:(x*y-z).natAbs<=x.natAbs*y.natAbs+z.natAbs:=by rw[<-kX];omega
   have c3:=gw dX (cS bX (gw (bI _) (agH n cs)));generalize lN n pre=P at *;generalize lN n cs=s at *;generalize lN (n+1) cs=S at *;generalize eU n c.2=bu at *;generalize c.2 n=a at *;have aK:P*((bu+a)*S)=P*bu*S+a*(P*S):=by rw[Nat.add_mul,Py,F1,afZ a]
   have az:P*(bu*s)=P*bu*s:=(F1 _ _ _).symm;rw[aK,az];omega
def agJ:∀n (l:List F2),(∀p∈l,∀i,i<n->dy (p.2 i) (p.1 i))->dy (lN n l) (fv n (l.map (·.1)))
 |0,[],_=>⟨1,by rfl,by simp[lN]⟩
 |0,p::l,_=>dy.zero
 |n+1,l,h=>by
  obtain⟨z,E,G⟩:=agI (f:=fv n) (agJ n) l [] (by simpa using h);refine⟨z,E,?_⟩;simp only[lN,tL] at G;omega
def qk (A:cL)(σ:Nat->Nat)(k:Nat):e8:=λi=>A (σ i) k
def kF:Nat->List Nat
 |0=>[]
 |p+1=>p::kF p
def vp {k:Nat}:∀{p:Nat},k∈kF p↔k<p
 |0=>by simp[kF]
 |p+1=>by
  simp only[kF,hq,vp (p:=p)];omega
def agK {l:Nat}:∀{p:Nat},l<p->∃X cV,kF p=X++l::cV/\∀m,m∈X++cV↔m<p/\m≠l
 |0,h=>by omega
 |p+1,h=>by
  by_cases ad:l=p
  ·subst ad;refine⟨[],kF l,rfl,λm=>?_⟩;rw[jU,vp];omega
  ·obtain⟨X,cV,E,G⟩:=agK (l:=l) (p:=p) (by omega);refine⟨p::X,cV,by simp[kF,E],λm=>?_⟩
   rw[lo,hq,G];omega
def oE (A:cL)(σ:Nat->Nat)(p:Nat):List e8:=(kF p).map (qk A σ)
def Pz {n:Nat}{c c':e8}(X cV:List e8)(h:∀i,i<n->c i=c' i):fv n (X++c::cV)=fv n (X++c'::cV):=by
 have:=agF (n:=n) (X.map (λx=>(x,x))++(c,c')::cV.map (λx=>(x,x))) Prod.fst Prod.snd (λa a2 i L=>by
  simp only[hv,hq,hx] at a2;rcases a2 with ⟨x,_,rfl⟩|rfl|⟨x,_,rfl⟩
  ·rfl
  ·exact h i L
  ·rfl)
 simpa [Function.comp_def] using this
def agL {A:cL}{σ τ:Nat->Nat}{p:Nat}(h:∀i,i<p->σ i=τ i):fv p (oE A σ p)=fv p (oE A τ p) :=
 agF _ _ _ λa _ i L=>by unfold qk;rw[h i L]
def F3 (N:Nat)(A al:cL)(σ:Nat->Nat)(p:Nat):Prop:=∀i,i<N->∀k,p<=k->k<=N->A (σ i) k=(if i<p then 0 else al i k)+bE p λl=>A (σ i) l*al l k
def k8 (N:Nat)(A al:cL)(p:Nat):Prop:=∃σ:Nat->Nat,(∀i,i<N->σ i<N)/\(∀i j,i<N->j<N->σ i=σ j->i=j)/\F3 N A al σ p/\fv p (oE A σ p)≠0
def k8.start (N:Nat)(A:cL):k8 N A A 0:=by
 refine⟨λi=>i,λi h=>h,λi j _ _ h=>h,λi L k _ O=>?_,?_⟩
 ·rw[ar (by omega)];show A i k=A i k+0;grind
 ·show (1:Rat)≠0;decide
def auM {p:Nat}(a x y:Nat->Rat)(t:Rat):bE p (λl=>a l*(x l-y l*t))=bE p (λl=>a l*x l)-t*bE p λl=>a l*y l:=by
 have:(λl=>a l*(x l-y l*t))=λl=>a l*x l+(-t)*(a l*y l):=by funext l;grind
 rw[this,yJ,q5];grind
def k8.step {N p s:Nat}{A al:cL}(h:k8 N A al p)(aF:p<N)(R:p<=s)(qh:s<N)(a6:al s p≠0):k8 N A (kE al p p s) (p+1):=by
 obtain⟨σ,hσ,vq,Q,ae⟩:=h
 let π:Nat->Nat:=λi=>if i=s then p else if i=p then s else i
 have hπ:∀i,fg al p s i=al (π i):=by
  intro i;show (if i=s then al p else if i=p then al s else al i)=al (if i=s then p else if i=p then s else i)
  split
  ·rfl
  ·split<;>rfl
 have hπN:∀i,i<N->π i<N:=λi L=>by show (if i=s then p else if i=p then s else i)<N;split<;>(try split)<;>omega
 have hπp:∀i,i<p->π i=i:=λi L=>by show (if i=s then p else if i=p then s else i)=i;rw[ar (by omega),ar (by omega)]
 have hπq:∀i,p<=i->p<=π i:=λi L=>by show p<=(if i=s then p else if i=p then s else i);split<;>(try split)<;>omega
 have hπj:∀i j,π i=π j->i=j:=λi j=>by
  show (if i=s then p else if i=p then s else i)=(if j=s then p else if j=p then s else j)->i=j
  (repeat' split)<;>omega
 have agM:∀i j,i<N->j<N->σ (π i)=σ (π j)->i=j:=λi j L aa h=>hπj i j (vq _ _ (hπN i L) (hπN j aa) h)
 have cr:F3 N A (fg al p s) (λi=>σ (π i)) p:=by
  intro i L k hd gn;have:=Q (π i) (hπN i L) k hd gn;rw[this]
  congr 1
  ·by_cases hF:i<p
   ·rw[aq hF,aq (by rw[hπp i hF];exact hF)]
   ·rw[ar hF,ar (by have:=hπq i (by omega);omega),hπ]
  ·refine nd λl ad=>?_;rw[hπ l,hπp l ad]
 have auN:fg al p s p p≠0:=by rw[Kv];exact a6
 generalize auO:fg al p s=S at *
 have aL:kE al p p s=λi k=>if i=p then S p k/S p p else S i k-S i p*(S p k/S p p):=by
  funext i k;unfold kE;rw[auO]
 rw[aL]
 have kL:fv p (oE A (λi=>σ (π i)) p)≠0:=by
  rw[agL (τ:=σ) λi L=>by show σ (π i)=σ i;rw[hπp i L]]
  exact ae
 have hσ2:∀i,i<N->σ (π i)<N:=λi L=>hσ _ (hπN i L)
 change ∀i,i<N->(λi=>σ (π i)) i<N at hσ2
 change ∀i j,i<N->j<N->(λi=>σ (π i)) i=(λi=>σ (π i)) j->i=j at agM
 generalize hτ:(λi=>σ (π i))=τ at *;refine⟨τ,hσ2,agM,λi L k hd gn=>?_,?_⟩
 ·have aK:=cr i L k (by omega) gn;have az:=cr i L p (by omega) (by omega);simp only[bE,if_true];rw[nd (g:=λl=>A (τ i) l*(S l k-S l p*(S p k/S p p))) λl ad=>by rw[ar (by omega)],auM]
  generalize bE p (λl=>A (τ i) l*S l k)=X at *;generalize bE p (λl=>A (τ i) l*S l p)=cV at *
  by_cases E:i<p
  ·rw[aq E] at aK az;rw[aq (by omega)];grind
  ·rw[ar E] at aK az
   by_cases G:i=p
   ·subst G;rw[aq (by omega)];grind
   ·rw[ar (by omega),ar G];grind
 ·have Z:fv (p+1) (oE A τ (p+1))=S p p*fv p (oE A τ p):=by
   show fv (p+1) ([]++qk A τ p::oE A τ p)=_
   rw[Pz (c':=Av (λi=>if i<p then 0 else S i p) (λi=>bE p λl=>S l p*qk A τ l i) 1) [] _ λi L=>by
    have:=cr i (by omega) p (by omega) (by omega);show A (τ i) p=(if i<p then 0 else S i p)+1*bE p λl=>S l p*A (τ i) l;rw[this,Kw]
    congr 1
    exact nd λl _=>F4 _ _]
   rw[CJ,KH,sr λl ad=>by
    rw[Wk (by rw[jU];exact Wp (vp.2 ad))];exact FO _]
   rw[jU,agE λi L=>aq L,ar (by omega)];grind
  rw[Z];intro ak;rcases Kz.1 ak with ak|ak
  ·exact auN ak
  ·exact kL ak
def agN {N p l k:Nat}{A al:cL}{σ:Nat->Nat}(Q:F3 N A al σ p)(aF:p<=N)(ad:l<p)(hd:p<=k)(gn:k<=N):∃X cV:List Nat,kF p=X++l::cV/\(∀m∈X++cV,m<p)/\al l k*fv p (oE A σ p)=fv p ((X++k::cV).map (qk A σ)):=by
 obtain⟨X,cV,qE,hm⟩:=agK ad;refine⟨X,cV,qE,λm Db=>((hm m).1 Db).1,?_⟩
 ·rw[pZ,hi]
  rw[Pz (c':=λi=>bE p λm=>al m k*qk A σ m i) _ _ λi L=>by
   have:=Q i (by omega) k hd gn;rw[aq L] at this;show A (σ i) k=bE p λm=>al m k*A (σ i) m;rw[this,KI];exact nd λl _=>F4 _ _]
  rw[KH,Ku ad λm gL ua=>by
   rw[Wk (by rw[<-pZ];exact Wp ((hm m).2 ⟨gL,ua⟩))];exact FO _]
  unfold oE;rw[qE,pZ,hi]
def agO {N p i k:Nat}{A al:cL}{σ:Nat->Nat}(Q:F3 N A al σ p)(qp:p<=i)(dS:i<N)(hd:p<=k)(gn:k<=N):al i k*fv p (oE A σ p)=fv (p+1) ((k::kF p).map (qk A λj=>if j=p then σ i else σ j)):=by
 have hτ:∀j,j<p->(λj=>if j=p then σ i else σ j) j=σ j:=λj aa=>ar (by omega);have hτp:(λj=>if j=p then σ i else σ j) p=σ i:=aq rfl;generalize (λj=>if j=p then σ i else σ j)=τ at *;show _=fv (p+1) ([]++qk A τ k::oE A τ p)
 rw[Pz (c':=Av (λj=>if j<p then 0 else al i k) (λj=>bE p λl=>al l k*qk A τ l j) 1) [] _ λj aa=>by
  show A (τ j) k=(if j<p then 0 else al i k)+1*bE p λl=>al l k*A (τ j) l;rw[Kw]
  by_cases FP:j<p
  ·have:=Q j (by omega) k hd gn;rw[aq FP] at this ⊢;rw[hτ j FP,this]
   congr 1
   exact nd λl _=>F4 _ _
  ·obtain rfl:j=p:=by omega
   have:=Q i dS k hd gn;rw[ar (by omega)] at this;rw[ar FP,hτp,this]
   congr 1
   exact nd λl _=>F4 _ _]
 rw[CJ,KH,sr λl ad=>by
  rw[Wk (by rw[jU];exact Wp (vp.2 ad))];exact FO _]
 rw[jU,agE λi L=>aq L,ar (by omega),agL λj aa=>(hτ j aa).symm];grind
def auP (n:Nat)(X cV:List e8)(x:e8)(a:Rat):fv n (X++(λi=>a*x i)::cV)=a*fv n (X++x::cV):=by
 have:=KH n X cV (λ_=>a) (λ_=>x) 1;simp only[bE] at this;rw[KI] at this;rw[<-this];exact Pz X cV λi _=>(KI _).symm
def Wq (n:Nat)(aQ:Nat->Rat)(C:Nat->e8):∀(bu:List Nat) (X:List e8),∃a:Rat,((∀k∈bu,aQ k≠0)->a≠0)/\fv n (X++bu.map λk=>λi=>aQ k*C k i)=a*fv n (X++bu.map C)
 | [],X=>⟨1,λ_=>by decide,by rw[Kw];rfl⟩
 |k::bu,X=>by
  obtain⟨a,E,G⟩:=Wq n aQ C bu (X++[C k]);refine⟨aQ k*a,λh=>?_,?_⟩
  ·intro ak;rcases Kz.1 ak with ak|ak
   ·exact h k kP ak
   ·exact E (λm hm=>h m (tv _ hm)) ak
  ·simp only[hi,hj,lo,jU] at G ⊢;rw[auP,G,Rat.mul_assoc]
structure PA (N:Nat) (A:cL) (δ v:Nat):Prop where
 ex:∃(aQ:Nat->Nat) (u w:Nat->Int),hZ N aQ<=2^δ/\(∀k,0<aQ k)/\(∀k,k<N->∃b:Nat->Nat,eU N b<=2*aQ k/\∀i,i<N->dy (b i) (aQ k*A i k))/\(∀k,k<N->(u k).natAbs<=2^v)/\∀i,i<N->(w i).natAbs<=2^v/\A i N=bE N (λk=>A i k*(u k:Rat))+(w i:Rat)
def gT (e:Nat->Nat):List Nat->Nat
 | []=>1
 |m::l=>e m*gT e l
def PB (e:Nat->Nat)(a b:List Nat):gT e (a++b)=gT e a*gT e b:=by
 induction a with
 |nil=>simp[gT]
 |cons p l aD=>simp only[lo,gT,aD,F1]
def agP {e f:Nat->Nat}{l:List Nat}(h:∀m∈l,e m=f m):gT e l=gT f l:=by
 induction l with
 |nil=>rfl
 |cons m l aD=>rw[gT,gT,aD λx J=>h x (tv _ J),h m kP]
def agQ (aQ:Nat->Nat):∀p,gT (λm=>2*aQ m) (kF p)=2^p*hZ p aQ
 |0=>rfl
 |p+1=>by
  rw[kF,gT,agQ aQ p,hZ,sR];grind
def F5 {N n:Nat}{A:cL}{e:Nat->Nat}(cY:∀k,k<=N->∃b:Nat->Nat,eU N b<=e k/\∀i,i<N->dy (b i) (A i k)){τ:Nat->Nat}(E:∀i,i<n->τ i<N)(G:∀i j,i<n->j<n->τ i=τ j->i=j)(bu:List Nat)(b1:∀m∈bu,m<=N):dy (gT e bu) (fv n (bu.map (qk A τ))):=by
 have⟨B,ht⟩:∃B:Nat->Nat->Nat,∀k,k<=N->eU N (B k)<=e k/\∀i,i<N->dy (B k i) (A i k):=by
  refine⟨λk=>if h:k<=N then (cY k h).choose else λ_=>0,λk O=>?_⟩;dsimp only;rw[dif_pos O];exact (cY k O).choose_spec
 have h:=agJ n (bu.map λk=>(qk A τ k,λi=>B k (τ i))) λp aF i L=>by
  obtain⟨m,hm,rfl⟩:=hx.1 aF;exact (ht m (b1 m hm)).2 _ (E i L)
 rw[rz] at h;refine dy.mono h ?_;clear h
 induction bu with
 |nil=>exact bI _
 |cons m bu aD =>
  rw[hi,lN,gT];exact gw (cS (agG (B m) E G) (ht m (b1 m kP)).1) (aD λx J=>b1 x (tv _ J))
structure auQ (N:Nat) (al:cL) (δ v p:Nat) (aQ:Nat->Nat) (u:Nat->Int) (d:Int):Prop where
 d0:d≠0
 pos:∀k,0<aQ k
 vr:hZ N aQ<=2^δ
 wX:∀k,k<N->(u k).natAbs<=2^v
 A3:d.natAbs<=2^p*hZ p aQ
 agR:∀i,i<N->∀k,p<=k->k<N->dy (2^(p+1)*(hZ p aQ*aQ k)) (al i k*(aQ k*d))
 val:∀i,i<N->dy (2^p*hZ p aQ*(N*2^v)) ((al i N-(if i<p then (u i:Rat) else 0)-bE N λk=>if p<=k then al i k*(u k:Rat) else 0)*d)
def k8.agS {N p δ v:Nat}{A al:cL}(cY:PA N A δ v)(h:k8 N A al p)(aF:p<=N):∃aQ u d,auQ N al δ v p aQ u d:=by
 obtain⟨σ,hσ,vq,Q,ae⟩:=h;obtain⟨aQ,u,w,cx,c3,hE,iq,om⟩:=cY
 have KJ:∀m,((aQ m:Nat):Rat)≠0:=λm=>by
  have:=c3 m;rw[Ne,agT];omega
 -- xv scaled matrix, with xv whole numbers of xv values
 have a5:F3 N (λi k=>if k<N then aQ k*A i k else (w i:Rat)) (λl k=>if k<N then (if l<p then aQ k*al l k/aQ l else aQ k*al l k) else (if l<p then (1:Rat)/aQ l else 1)*(al l N-(if l<p then (u l:Rat) else 0)-bE N λk=>if p<=k then al l k*(u k:Rat) else 0)) σ p:=by
  intro i L k hd gn
  by_cases jr:k<N
  ·have:=Q i L k hd gn;dsimp only;rw[aq jr,aq jr,this,agU,<-q5]
   congr 1
   ·split<;>grind
   ·refine nd λl ad=>?_;rw[aq jr,aq (by omega),aq ad];have:=KJ l;grind
  ·obtain rfl:k=N:=by omega
   dsimp only;rw[ar jr,ar jr];have aK:=Q i L k hd gn;have az:=(om (σ i) (hσ i L)).2
   have ee:(λm=>A (σ i) m*(u m:Rat))=λm=>(if m<p then A (σ i) m*(u m:Rat) else 0)+if p<=m then A (σ i) m*(u m:Rat) else 0:=by
    funext m
    by_cases hm:m<p
    ·rw[aq hm,ar (by omega),Pc]
    ·rw[ar hm,aq (by omega),KI]
   have kU:bE k (λm=>if p<=m then A (σ i) m*(u m:Rat) else 0)=bE k λm=>(if p<=m then (if i<p then 0 else al i m*(u m:Rat)) else 0)+bE p λl=>A (σ i) l*(if p<=m then al l m*(u m:Rat) else 0):=nd λm hm=>by
    by_cases lk:p<=m
    ·rw[aq lk,aq lk,Q i L m lk (by omega),Rat.add_mul]
     congr 1
     ·split<;>grind
     ·rw[F4,<-q5];refine nd λl _=>?_;rw[aq lk];grind
    ·rw[ar lk,ar lk,KI];exact (sr λl _=>by rw[ar lk,FO]).symm
   rw[ee,yJ,kU,yJ,as7] at az
   have kC:bE k (λm=>if m<p then A (σ i) m*(u m:Rat) else 0)=bE p λl=>A (σ i) l*(u l:Rat):=by
    have:∀n,p<=n->bE n (λm=>if m<p then A (σ i) m*(u m:Rat) else 0)=bE p λl=>A (σ i) l*(u l:Rat):=by
     intro n
     induction n with
     |zero =>
          intro h;obtain rfl:p=0:=by omega
          rfl
     |succ n aD =>
      intro h
      by_cases auR:p=n+1
      ·rw[auR];exact nd λm hm=>aq hm
      ·rw[bE,aD (by omega),ar (by omega),Pc]
    exact this k aF
   rw[kC] at az
   have sn:(bE p λl=>(λi su=>if su<k then (aQ su:Rat)*A i su else (w i:Rat)) (σ i) l*((if l<p then (1:Rat)/aQ l else 1)*(al l k-(if l<p then (u l:Rat) else 0)-bE k λm=>if p<=m then al l m*(u m:Rat) else 0)))=bE p (λl=>A (σ i) l*al l k)-bE p (λl=>A (σ i) l*(u l:Rat))-bE p λl=>bE k λm=>A (σ i) l*(if p<=m then al l m*(u m:Rat) else 0):=by
    have:∀f g h:Nat->Rat,bE p (λl=>f l-g l-h l)=bE p f-bE p g-bE p h:=λf g h=>by
     have e:(λl=>f l-g l-h l)=λl=>f l+((-1)*g l+(-1)*h l):=by funext l;grind
     rw[e,yJ,yJ,q5,q5];grind
    rw[<-this];refine nd λl ad=>?_;dsimp only;rw[aq (by omega),aq ad,aq ad,q5];have:=KJ l;grind
   have J8:(bE p λl=>(λi su=>if su<k then (aQ su:Rat)*A i su else (w i:Rat)) (σ i) l*(λl su=>if su<k then (if l<p then (aQ su:Rat)*al l su/aQ l else aQ su*al l su) else (if l<p then (1:Rat)/aQ l else 1)*(al l k-(if l<p then (u l:Rat) else 0)-bE k λm=>if p<=m then al l m*(u m:Rat) else 0)) l k)=bE p (λl=>A (σ i) l*al l k)-bE p (λl=>A (σ i) l*(u l:Rat))-bE p λl=>bE k λm=>A (σ i) l*(if p<=m then al l m*(u m:Rat) else 0):=by
    rw[<-sn];refine nd λl ad=>?_;dsimp only;rw[ar (by omega:¬ k<k)]
   dsimp only at J8;rw[J8]
   by_cases hF:i<p
   ·rw[aq hF] at aK ⊢;have tu:bE k (λm=>if p<=m then (if i<p then 0 else al i m*(u m:Rat)) else 0)=0:=sr λm _=>by rw[aq hF];split<;>rfl
    rw[tu] at az;grind
   ·rw[ar hF] at aK ⊢;have tu:bE k (λm=>if p<=m then (if i<p then 0 else al i m*(u m:Rat)) else 0)=bE k λm=>if p<=m then al i m*(u m:Rat) else 0:=nd λm _=>by rw[ar hF]
    rw[tu] at az;rw[ar hF,ar hF];grind
 have kg:fv p (oE (λi k=>if k<N then aQ k*A i k else (w i:Rat)) σ p)≠0:=by
  obtain⟨a,E,G⟩:=Wq p (λk=>(aQ k:Rat)) (qk A σ) (kF p) []
  have KK:oE (λi k=>if k<N then aQ k*A i k else (w i:Rat)) σ p=(kF p).map λk=>λi=>(aQ k:Rat)*qk A σ k i:=by
   unfold oE;refine G3 λm hm=>?_;have:=vp.1 hm
   funext i
   show (if m<N then (aQ m:Rat)*A (σ i) m else (w (σ i):Rat))=_;rw[aq (by omega)];rfl
  rw[jU,jU] at G;rw[KK,G];intro ak;rcases Kz.1 ak with ak|ak
  ·exact E (λm hm=>KJ m) ak
  ·exact ae ak
 have CL:∀k,k<=N->∃b:Nat->Nat,eU N b<=(if k<N then 2*aQ k else N*2^v)/\∀i,i<N->dy (b i) ((λi k=>if k<N then (aQ k:Rat)*A i k else (w i:Rat)) i k):=by
  intro k O
  by_cases jr:k<N
  ·obtain⟨b,cz,ef⟩:=hE k jr;refine⟨b,by rw[aq jr];exact cz,λi L=>?_⟩
   dsimp only;rw[aq jr];exact ef i L
  ·refine⟨λ_=>2^v,?_,λi L=>?_⟩
   ·rw[ar jr]
    have:∀n,eU n (λ_=>2^v)=n*2^v:=λn=>by
     induction n with
     |zero=>simp[eU]
     |succ n aD=>rw[eU,aD,tZ]
    rw[this];exact bI _
   ·dsimp only;rw[ar jr];exact dy.mono (dy.int _) (om i L).1
 generalize auS:(λ(i k:Nat)=>if k<N then (aQ k:Rat)*A i k else (w i:Rat))=CK at *;generalize Fe:(λk=>if k<N then 2*aQ k else N*2^v)=e at *
 have Wr:∀k,k<=N->∃b:Nat->Nat,eU N b<=e k/\∀i,i<N->dy (b i) (CK i k):=by
  intro k O;rw[<-Fe];exact CL k O
 have Ws:∀m,m<N->e m=2*aQ m:=λm hm=>by rw[<-Fe];exact aq hm
 have auT:e N=N*2^v:=by rw[<-Fe];exact ar (by omega)
 have CM:gT e (kF p)=2^p*hZ p aQ:=by
  rw[<-agQ];exact agP λm hm=>Ws m (by have:=vp.1 hm;omega)
 have hσp:∀i,i<p->σ i<N:=λi L=>hσ i (by omega);have hF:∀i j,i<p->j<p->σ i=σ j->i=j:=λi j L aa=>vq i j (by omega) (by omega);have mT:=F5 Wr hσp hF (kF p) λm hm=>by have:=vp.1 hm;omega
 rw[CM] at mT;obtain⟨d,qF,n3⟩:=mT
 change fv p (oE CK σ p)=(d:Rat) at qF
 have wi:d≠0:=by
  intro ak;rw[qF,ak] at kg;exact kg (by rfl)
 -- both kinds of rows
 have fG:∀l,l<p->∀k,p<=k->k<=N->∃m:Int,(λl k=>if k<N then (if l<p then (aQ k:Rat)*al l k/aQ l else aQ k*al l k) else (if l<p then (1:Rat)/aQ l else 1)*(al l N-(if l<p then (u l:Rat) else 0)-bE N λk=>if p<=k then al l k*(u k:Rat) else 0)) l k*(d:Rat)=(m:Rat)/\aQ l*m.natAbs<=2^p*hZ p aQ*e k:=by
  intro l ad k hd gn;obtain⟨X,cV,fe,fJ,gS⟩:=agN a5 aF ad hd gn
  have U:=F5 Wr hσp hF (X++k::cV) λm hm=>by
   have:m=k\/m∈X++cV:=by
    simp only[hv,hq] at hm ⊢;rcases hm with h|h|h<;>simp[h]
   rcases this with h|h
   ·omega
   ·have:=fJ m h;omega
  obtain⟨m,aU,bO⟩:=U;rw[qF,aU] at gS;refine⟨m,gS,?_⟩;have aK:gT e (X++k::cV)=gT e X*(e k*gT e cV):=by rw[PB,gT]
  have az:gT e X*(2*aQ l*gT e cV)=2^p*hZ p aQ:=by
   rw[<-CM,fe,PB,gT,Ws l (by omega)]
  rw[aK] at bO;rw[<-az];generalize gT e X=x at *;generalize gT e cV=y at *;have cm:=gw (bI (aQ l)) bO;have dX:x*(2*aQ l*y)*e k=aQ l*(x*(e k*y))+aQ l*(x*(e k*y)):=by grind
  rw[dX];omega
 have jg:∀i,p<=i->i<N->∀k,p<=k->k<=N->∃m:Int,(λl k=>if k<N then (if l<p then (aQ k:Rat)*al l k/aQ l else aQ k*al l k) else (if l<p then (1:Rat)/aQ l else 1)*(al l N-(if l<p then (u l:Rat) else 0)-bE N λk=>if p<=k then al l k*(u k:Rat) else 0)) i k*(d:Rat)=(m:Rat)/\m.natAbs<=2^p*hZ p aQ*e k:=by
  intro i qp dS k hd gn;have F6:=agO a5 qp dS hd gn
  have hτ:∀j,j<p+1->(λj=>if j=p then σ i else σ j) j<N:=λj aa=>by
   show (if j=p then σ i else σ j)<N
   split
   ·exact hσ i dS
   ·exact hσ j (by omega)
  have hτj:∀j k,j<p+1->k<p+1->(λj=>if j=p then σ i else σ j) j=(λj=>if j=p then σ i else σ j) k->j=k:=λj k aa O=>by
   show (if j=p then σ i else σ j)=(if k=p then σ i else σ k)->j=k;intro h
   by_cases cH:j=p
   ·by_cases dR:k=p
    ·omega
    ·rw[aq cH,ar dR] at h;have:=vq _ _ dS (by omega) h;omega
   ·by_cases dR:k=p
    ·rw[ar cH,aq dR] at h;have:=vq _ _ (by omega) dS h;omega
    ·rw[ar cH,ar dR] at h;exact vq _ _ (by omega) (by omega) h
  obtain⟨m,aU,bO⟩:=F5 Wr hτ hτj (k::kF p) λm hm=>by
   rcases hq.1 hm with h|h
   ·omega
   ·have:=vp.1 h;omega
  rw[qF,aU] at F6;refine⟨m,F6,cS bO ?_⟩;rw[gT,CM,pO];exact bI _
 refine⟨aQ,u,d,wi,c3,cx,iq,n3,λi L k hd gn=>?_,λi L=>?_⟩
 ·have SV:2^(p+1)*(hZ p aQ*aQ k)=2^p*hZ p aQ*e k:=by rw[Ws k gn,sR];grind
  rw[SV]
  by_cases av:i<p
  ·obtain⟨m,aU,bO⟩:=fG i av k hd (by omega);dsimp only at aU;rw[aq gn,aq av] at aU;refine⟨aQ i*m,?_,by rw[kX,ik];exact bO⟩
   rw[j5,<-aU,nf];have:=KJ i;grind
  ·obtain⟨m,aU,bO⟩:=jg i (by omega) L k hd (by omega);dsimp only at aU;rw[aq gn,ar av] at aU;refine⟨m,?_,bO⟩;rw[<-aU];grind
 ·rw[<-auT]
  by_cases av:i<p
  ·obtain⟨m,aU,bO⟩:=fG i av N aF (bI _);dsimp only at aU;rw[ar (by omega:¬ N<N),aq av,aq av] at aU;refine⟨aQ i*m,?_,by rw[kX,ik];exact bO⟩
   rw[j5,<-aU,nf,aq av];have:=KJ i;grind
  ·obtain⟨m,aU,bO⟩:=jg i (by omega) L N aF (bI _);dsimp only at aU;rw[ar (by omega:¬ N<N),ar av,ar av] at aU;refine⟨m,?_,bO⟩;rw[<-aU,ar av];grind
def CN (N:Nat)(A:cL)(b6 bK:Nat):Prop:=∀al p,p<=N->k8 N A al p->∀i k,i<N->p<=k->k<=N->eN b6 (al i k)/\(k<N->eN bK (al i k))
def PA.agV {N δ v:Nat}{A:cL}(cY:PA N A δ v)(hP:N<=7):CN N A (N+δ+v+4) (N+δ):=by
 intro al p aF h i k L hd gn;obtain⟨aQ,u,d,aE⟩:=h.agS cY aF;obtain⟨bR,agW,gf,gV⟩:=Wo aE.pos aF;have yL:=aE.vr;rw[gf] at yL
 have auU:∀k,p<=k->k<N->hZ p aQ*aQ k<=hZ p aQ*bR:=λk E G=>by
  obtain⟨m,hm⟩:=gV k E G;refine gw (bI _) ?_
  have:0<m:=by
   rcases jh m with h|h
   ·rw[h] at hm;omega
   ·exact h
  rw[hm];exact vG _ this
 have Eo:∀q,q<=N->∀x,x<=2^δ->2^q*x<=2^(N+δ):=λq aL x J=>by
  rw[jH];exact gw (jC (by omega) aL) J
 have e0:∀k,p<=k->k<N->eN (N+δ) (al i k):=λk hd gn=>by
  obtain⟨z,gE,hl⟩:=aE.agR i L k hd gn;have aA8:=aE.pos k;obtain⟨f1,f2⟩:=FT (q:=al i k) (v:=z) (d:=(aQ k:Int)*d) (wE (by omega) aE.d0) (by rw[<-gE,j5,nf]);have hle:=cS (auU k hd gn) yL;refine⟨cS f1 (cS hl (Eo _ (by omega) _ hle)),cS f2 ?_⟩;rw[kX,ik];refine cS (gw (bI _) aE.A3) (cS ?_ (Eo p aF _ hle));exact w5 (by grind)
 by_cases jr:k<N
 ·exact⟨(e0 k hd jr).mono (by omega),λ_=>e0 k hd jr⟩
 refine⟨?_,λh=>absurd h jr⟩;obtain rfl:k=N:=by omega
 have g5:=aE.val i L;have ht:∀q,q<=k->2^q*(hZ p aQ*bR)<=2^(k+δ):=λq aL=>Eo q aL _ yL
 -- xv three parts, times d and bR
 have nX:dy (k*2^(k+δ+v)) ((al i k-(if i<p then (u i:Rat) else 0)-bE k λm=>if p<=m then al i m*(u m:Rat) else 0)*d*(bR:Rat)):=by
  refine (g5.mul (dy.nat (bI bR))).mono ?_;have:=gw (ht p aF) (bI (k*2^v));refine cS (w5 ?_) (cS this (w5 ?_))
  ·grind
  ·rw[jH 2 (k+δ) v];grind
 have nY:dy (2^(k+δ+v)) ((if i<p then (u i:Rat) else 0)*d*(bR:Rat)):=by
  have hu:dy (2^v) (if i<p then (u i:Rat) else 0):=by
   split
   ·exact dy.mono (dy.int _) (aE.wX i L)
   ·exact dy.zero
  refine ((hu.mul (dy.mono (dy.int d) aE.A3)).mul (dy.nat (bI bR))).mono ?_;have:=gw (ht p aF) (bI (2^v));refine cS (w5 ?_) (cS this (w5 ?_))
  ·grind
  ·rw[jH 2 (k+δ) v]
 have yp:dy (k*2^(k+δ+v)) ((bE k λm=>if p<=m then al i m*(u m:Rat) else 0)*d*(bR:Rat)):=by
  have e:(bE k λm=>if p<=m then al i m*(u m:Rat) else 0)*(d:Rat)*(bR:Rat)=bE k λm=>((d:Rat)*(bR:Rat))*(if p<=m then al i m*(u m:Rat) else 0):=by
   rw[q5];grind
  rw[e];refine dy.sum k λm hm=>?_
  by_cases lk:p<=m
  ·rw[aq lk];obtain⟨y,af⟩:=gV m lk hm
   have az:(d:Rat)*(bR:Rat)*(al i m*(u m:Rat))=(al i m*((aQ m:Rat)*d))*(y:Rat)*(u m:Rat):=by
    rw[af,F7];grind
   rw[az];refine (((aE.agR i L m lk hm).mul (dy.nat (bI y))).mul (dy.mono (dy.int (u m)) (aE.wX m hm))).mono ?_;have:=gw (ht (p+1) (by omega)) (bI (2^v));refine cS (w5 ?_) (cS this (w5 ?_))
   ·rw[af];grind
   ·rw[jH 2 (k+δ) v]
  ·rw[ar lk,FO];exact dy.zero
 obtain⟨z,gE,hl⟩:=(nX.add nY).add yp
 have e:al i k*((d*(bR:Int):Int):Rat)=(z:Rat):=by
  rw[<-gE,j5,nf];grind
 obtain⟨f1,f2⟩:=FT (wE aE.d0 (by omega)) e;refine⟨cS f1 (cS hl ?_),cS f2 ?_⟩
 ·rw[jH 2 (k+δ+v) 4];generalize 2^(k+δ+v)=X at *;have:k*X<=7*X:=mJ _ hP;omega
 ·rw[kX,ik];refine cS (gw aE.A3 (bI bR)) (cS (w5 ?_) (cS (ht p aF) (jC (by omega) (by omega))));grind
def k8.agX {N δ v:Nat}{A al:cL}(cY:PA N A δ v)(h:k8 N A al N):∃bk:Nat,0<bk/\bk<=2^(N+δ)/\∀i,i<N->∃z:Int,al i N*(bk:Rat)=(z:Rat):=by
 obtain⟨aQ,u,d,aE⟩:=h.agS cY (bI N)
 have⟨s,R⟩:∃s:Int,(d.natAbs:Int)=s*d:=by
  rcases agY d with e|e
  ·exact⟨1,by omega⟩
  ·exact⟨-1,by omega⟩
 have ae:=aE.d0;refine⟨d.natAbs,by omega,cS aE.A3 ?_,λi L=>?_⟩
 ·rw[jH];exact gw (bI _) aE.vr
 ·obtain⟨z,gE,-⟩:=aE.val i L;rw[aq L,sr λk O=>ar (by omega)] at gE;refine⟨s*(z+u i*d),?_⟩;have e:((d.natAbs:Nat):Rat)=((d.natAbs:Int):Rat):=(nf _).symm;rw[e,R,j5,j5,Wn,j5,<-gE];grind
def agZ (al:cL){N p s:Nat}(aF:p<N)(R:p<=s)(qh:s<N){i:Nat}(L:i<N):∃aZ,aZ<N/\fg al p s i=al aZ:=by
 unfold fg
 by_cases E:i=s
 ·exact⟨p,aF,by rw[aq E]⟩
 ·by_cases G:i=p
  ·exact⟨s,qh,by rw[ar E,aq G]⟩
  ·exact⟨i,L,by rw[ar E,ar G]⟩
def Wt (b:Nat)(p:Prop)[Decidable p]:eN b (if p then 1 else 0):=by
 have U:1<=2^b:=F8
 split
 ·exact⟨U,U⟩
 ·exact⟨ej _,U⟩
def k8.all {N p b6 bK:Nat}{A al:cL}{dH:Nat->Nat}(ht:CN N A b6 bK)(h:k8 N A al p)(Q:po N al p p dH)(iW:∀j,j<p->dH j=j)(aF:p<=N){i k:Nat}(L:i<N)(O:k<=N):eN b6 (al i k):=by
 by_cases ag0:k<p
 ·have:=Q.unit k ag0 i L;rw[iW k ag0] at this;rw[this];exact Wt _ _
 ·exact (ht al p aF h i k L (by omega) O).1
def auV {N p s b6 bK:Nat}{A al:cL}{dH:Nat->Nat}(ht:CN N A b6 bK)(h:k8 N A al p)(Q:po N al p p dH)(iW:∀j,j<p->dH j=j)(aF:p<N)(R:p<=s)(qh:s<N)(a6:al s p≠0)(q7:2*b6+bK+1<1200):VX N (fg al p s) p p:=by
 have G:=h.step aF R qh a6;have a5:=Q.zX aF R qh a6
 have auW:∀j,j<p+1->(if j=p then p else dH j)=j:=λj aa=>by
  split
  ·omega
  ·exact iW j (by omega)
 have dn:∀i,i<N->∀k,k<=N->eN b6 (fg al p s i k):=by
  intro i L k O;obtain⟨aZ,E,e⟩:=agZ al aF R qh L;rw[e];exact h.all ht Q iW (by omega) E O
 have KK:∀i,i<N->eN bK (fg al p s i p):=by
  intro i L;obtain⟨aZ,E,e⟩:=agZ al aF R qh L;rw[e];exact (ht al p (by omega) h aZ p E (bI p) (by omega)).2 aF
 have ag1:∀k,k<=N->eN b6 (fg al p s p k/fg al p s p p):=by
  intro k O;have:=G.all ht a5 auW (by omega) (i:=p) aF O;unfold kE at this;rwa [aq rfl] at this
 refine⟨λk O=>af1 (dn p aF k O) (KK p aF) (by omega),λi L _ _ k O=>?_⟩;unfold pq;rw[dp];exact⟨V0 (KK i L) (ag1 k O) (by omega),Ph (dn i L k O) (Ky (V1 (KK i L) (ag1 k O))) (by omega)⟩
def auX {N b6 bK:Nat}{A:cL}(ht:CN N A b6 bK)(q7:2*b6+bK+1<1200):
  ∀k p rows al dH,p+k=N->FQ N A al rows p p dH->k8 N A al p->(∀j,j<p->dH j=j)->(lE true k p rows [] false).2.2=false:=by
 intro k
 induction k with
 |zero=>intro p rows al dH _ _ _ _;rfl
 |succ k aD =>
  intro p rows al dH aF he ae iW;unfold lE;rw[ln,Nat.sub_zero];rcases afT he.enc (r:=p) (c:=p) (by omega) (by omega) with ⟨E,G,ab,aM⟩|⟨E,s,e1,gR,qe,aM,bl⟩
  ·rw[E,G,ab,aq rfl,aq rfl]
  ·have dD:=auV ht ae he.red iW (by omega) e1 gR qe q7;have U:=bl dD;rw[E,ar (by simp),U];refine aD (p+1) _ (kE al p p s) (λj=>if j=p then p else dH j) (by omega) ⟨aM U,he.red.zX (by omega) e1 gR qe,λy=>(VO (by omega) gR qe).trans (he.FR y)⟩ (ae.step (by omega) e1 gR qe) λj aa=>?_;show (if j=p then p else dH j)=j
   split
   ·omega
   ·exact iW j (by omega)
def auY {rs:List eg}{n:Int}{b6 bK:Nat}(h:oe rs n=true)(ht:CN (D rs) (qj rs) b6 bK)(q7:2*b6+bK+1<1200):l4 rs n≠([],6):=by
 have J:(o8 true rs).2.2=false :=
  auX ht q7 (D rs) 0 (hb rs) (qj rs) (λj=>j) (by omega) ⟨afY h,VP _ _ _,λ_=>Iff.rfl⟩ (k8.start _ _) λj aa=>by omega
 unfold l4;rw[aq h,ar (by rw[J];simp)]
 split
 ·simp
 ·simp
def auZ {rs:List eg}{n:Int}{b6 bK:Nat}(h:oe rs n=true)(ht:CN (D rs) (qj rs) b6 bK)(q7:2*b6+bK+1<1200)(R:¬ Ps (D rs) (qj rs)):
  ∃x,l4 rs n=(e7 (D rs) x,0)/\(∀k,k<(D rs)->dL (x k))/\agu (D rs) (qj rs) x:=by
 rcases aup h with e|⟨x,e,-,E,G⟩|⟨y,-,-,-,E,k,O,af⟩
 ·exact absurd e (auY h ht q7)
 ·exact⟨x,e,E,G⟩
 ·exact absurd ⟨y,E,k,O,by rw[af];decide⟩ R
def k8.full {N:Nat}{A:cL}(R:¬ Ps N A):∀k p al dH,p+k=N->po N al p p dH->(∀y,j3 N al y↔j3 N A y)->k8 N A al p->(∀j,j<p->dH j=j)->∃al dH,k8 N A al N/\po N al N N dH/\(∀j,j<N->dH j=j)/\∀y,j3 N al y↔j3 N A y
 |0,p,al,dH,aF,Q,a2,ae,iW=>by
  obtain rfl:p=N:=by omega
  exact⟨al,dH,ae,Q,iW,a2⟩
 |k+1,p,al,dH,aF,Q,a2,ae,iW=>by
  by_cases aP:∀i,p<=i->i<N->al i p=0
  ·exfalso
   refine R ⟨q6 al p,(a2 _).1 (afN Q iW (by omega) aP),p,by omega,?_⟩
   unfold q6;rw[ar (by omega),aq rfl]
   decide
  ·have⟨s,e1,gR,qe⟩:∃s,p<=s/\s<N/\al s p≠0:=by
    apply CH;intro h;exact aP λi E G=>CH λab=>h ⟨i,E,G,ab⟩
   refine k8.full R k (p+1) (kE al p p s) (λj=>if j=p then p else dH j) (by omega) (Q.zX (by omega) e1 gR qe) (λy=>(VO (by omega) gR qe).trans (a2 y)) (ae.step (by omega) e1 gR qe) λj aa=>?_;show (if j=p then p else dH j)=j
   split
   ·omega
   ·exact iW j (by omega)
def KL (N:Nat)(A:cL)(δ v b:Nat):Prop:=∃(aQ e:Nat->Nat) (V:Nat) (w:Nat->Int),(∀k,0<aQ k/\aQ k<=e k)/\hZ N e<=2^δ/\0<V/\V<=2^b/\(∀k,k<N->∃c:Nat->Nat,eU N c<=e k/\∀i,i<N->dy (c i) ((aQ k:Rat)*A i k))/\∀i,i<N->(w i).natAbs<=2^v/\(V:Rat)*A i N=(w i:Rat)
def ag2 (e:Nat->Nat):∀p,gT e (kF p)=hZ p e
 |0=>rfl
 |p+1=>by rw[kF,gT,ag2 e p,hZ,pO]
def Wu (n v:Nat):eU n (λ_=>v)=n*v:=by
 induction n with
 |zero=>simp[eU]
 |succ n aD=>rw[eU,aD,tZ]
def k8.ag3 {N p δ v b:Nat}{A al:cL}(cY:KL N A δ v b)(h:k8 N A al p)(aF:p<=N):∃(aQ e:Nat->Nat) (V:Nat) (d:Int),d≠0/\(∀k,0<aQ k/\aQ k<=e k)/\hZ N e<=2^δ/\0<V/\V<=2^b/\d.natAbs<=hZ p e/\∀i,i<N->∀k,p<=k->k<=N->∃z:Int,al i k*((((if k<N then aQ k else V:Nat):Int)*d:Int):Rat)=(z:Rat)/\z.natAbs<=hZ p e*(if k<N then e k else N*2^v):=by
 obtain⟨σ,hσ,vq,Q,ae⟩:=h;obtain⟨aQ,e,V,w,cx,c3,hE,iq,om,lG⟩:=cY;generalize qh:(λk=>if k<N then aQ k else V:Nat->Nat)=tK;have Ca:∀k,tK k=if k<N then aQ k else V:=λk=>by rw[<-qh]
 have mV:∀k,0<tK k:=λk=>by rw[Ca];split;exact (cx k).1;exact hE
 have nA:∀m,((tK m:Nat):Rat)≠0:=λm=>by
  have:=mV m;rw[Ne,agT];omega
 have a5:F3 N (λi k=>(tK k:Rat)*A i k) (λl k=>(tK k:Rat)*al l k/(if l<p then (tK l:Rat) else 1)) σ p:=by
  intro i L k hd gn;have:=Q i L k hd gn;dsimp only;rw[this,agU,<-q5]
  congr 1
  ·by_cases hF:i<p
   ·rw[aq hF,aq hF];grind
   ·rw[ar hF,ar hF,ar hF];grind
  ·refine nd λl ad=>?_;rw[aq ad];have:=nA l;grind
 have kg:fv p (oE (λi k=>(tK k:Rat)*A i k) σ p)≠0:=by
  obtain⟨a,E,G⟩:=Wq p (λk=>(tK k:Rat)) (qk A σ) (kF p) [];rw[jU,jU] at G;show fv p ((kF p).map λk=>λi=>(tK k:Rat)*qk A σ k i)≠0;rw[G];intro ak;rcases Kz.1 ak with ak|ak
  ·exact E (λm hm=>nA m) ak
  ·exact ae ak
 have CL:∀k,k<=N->∃c:Nat->Nat,eU N c<=(if k<N then e k else N*2^v)/\∀i,i<N->dy (c i) ((λi k=>(tK k:Rat)*A i k) i k):=by
  intro k O
  by_cases jr:k<N
  ·obtain⟨c,cz,ef⟩:=om k jr;refine⟨c,by rw[aq jr];exact cz,λi L=>?_⟩
   dsimp only;rw[Ca,aq jr];exact ef i L
  ·obtain rfl:k=N:=by omega
   refine⟨λ_=>2^v,by rw[ar jr,Wu];exact bI _,λi L=>?_⟩
   dsimp only;rw[Ca,ar jr,(lG i L).2];exact dy.of (lG i L).1
 generalize auS:(λ(i k:Nat)=>(tK k:Rat)*A i k)=CK at *;have xB:∀m,m<N->(λk=>if k<N then e k else N*2^v) m=e m:=λm hm=>aq hm;have⟨e',lT⟩:∃e':Nat->Nat,e'=λk=>if k<N then e k else N*2^v:=⟨_,rfl⟩;have CL:∀k,k<=N->∃c:Nat->Nat,eU N c<=e' k/\∀i,i<N->dy (c i) (CK i k):=by rw[lT];exact CL
 rw[<-lT] at xB;have PC:∀k,(if k<N then e k else N*2^v)=e' k:=λk=>by rw[lT]
 have CM:gT e' (kF p)=hZ p e:=by
  rw[<-ag2];exact agP λm hm=>xB m (by have:=vp.1 hm;omega)
 have hσp:∀i,i<p->σ i<N:=λi L=>hσ i (by omega);have hF:∀i j,i<p->j<p->σ i=σ j->i=j:=λi j L aa=>vq i j (by omega) (by omega);have mT:=F5 CL hσp hF (kF p) λm hm=>by have:=vp.1 hm;omega
 rw[CM] at mT;obtain⟨d,qF,n3⟩:=mT
 change fv p (oE CK σ p)=(d:Rat) at qF
 have wi:d≠0:=by
  intro ak;rw[qF,ak] at kg;exact kg (by rfl)
 refine⟨aQ,e,V,d,wi,cx,c3,hE,iq,n3,λi L k hd gn=>?_⟩;rw[<-Ca k,PC k,j5,nf]
 by_cases ad:i<p
 ·obtain⟨X,cV,fe,fJ,gS⟩:=agN a5 aF ad hd gn
  obtain⟨m,aU,bO⟩:=F5 CL hσp hF (X++k::cV) λm hm=>by
   have:m=k\/m∈X++cV:=by
    simp only[hv,hq] at hm ⊢;rcases hm with h|h|h<;>simp[h]
   rcases this with h|h
   ·omega
   ·have:=fJ m h;omega
  rw[qF,aU] at gS;rw[aq ad] at gS;refine⟨aQ i*m,?_,?_⟩
  ·rw[j5,<-gS,nf];have E:=nA i;have G:(tK i:Rat)=(aQ i:Rat):=by rw[Ca,aq L]
   rw[G] at E ⊢;grind
  ·have aK:gT e' (X++k::cV)=gT e' X*(e' k*gT e' cV):=by rw[PB,gT]
   have az:gT e' X*(e i*gT e' cV)=hZ p e:=by
    rw[<-CM,fe,PB,gT,xB i (by omega)]
   rw[aK] at bO;rw[<-az,kX,ik];generalize gT e' X=x at *;generalize gT e' cV=y at *;refine cS (gw (cx i).2 bO) (w5 ?_);grind
 ·have F6:=agO a5 (by omega:p<=i) L hd gn
  have hτ:∀j,j<p+1->(λj=>if j=p then σ i else σ j) j<N:=λj aa=>by
   show (if j=p then σ i else σ j)<N
   split
   ·exact hσ i L
   ·exact hσ j (by omega)
  have hτj:∀j k,j<p+1->k<p+1->(λj=>if j=p then σ i else σ j) j=(λj=>if j=p then σ i else σ j) k->j=k:=λj k aa O=>by
   show (if j=p then σ i else σ j)=(if k=p then σ i else σ k)->j=k;intro h
   by_cases cH:j=p
   ·by_cases dR:k=p
    ·omega
    ·rw[aq cH,ar dR] at h;have:=vq _ _ L (by omega) h;omega
   ·by_cases dR:k=p
    ·rw[ar cH,aq dR] at h;have:=vq _ _ (by omega) L h;omega
    ·rw[ar cH,ar dR] at h;exact vq _ _ (by omega) (by omega) h
  obtain⟨m,aU,bO⟩:=F5 CL hτ hτj (k::kF p) λm hm=>by
   rcases hq.1 hm with h|h
   ·omega
   ·have:=vp.1 h;omega
  rw[qF,aU] at F6;rw[ar ad] at F6;refine⟨m,by rw[<-F6];grind,cS bO ?_⟩
  rw[gT,CM,pO];exact bI _
def KL.agV {N δ v b:Nat}{A:cL}(cY:KL N A δ v b)(hP:N<=4)(aA9:b<=v+2):CN N A (δ+v+2) δ:=by
 intro al p aF h i k L hd gn;obtain⟨aQ,e,V,d,d0,cx,c3,hE,iq,om,lG⟩:=h.ag3 cY aF;obtain⟨bR,agW,gf,gV⟩:=Wo (aQ:=e) (λk=>vt (cx k).1 (cx k).2) aF;rw[gf] at c3
 have PC:∀k,p<=k->k<N->hZ p e*e k<=hZ p e*bR:=λk E G=>by
  obtain⟨m,hm⟩:=gV k E G;refine gw (bI _) ?_
  have:0<m:=by
   rcases jh m with h|h
   ·rw[h] at hm;omega
   ·exact h
  rw[hm];exact vG _ this
 have N4:hZ p e<=2^δ:=cS (vG _ agW) c3;obtain⟨z,gE,hl⟩:=lG i L k hd gn;have a6:((if k<N then aQ k else V:Nat):Int)*d≠0:=wE (by split;have:=(cx k).1;omega;omega) d0;obtain⟨f1,f2⟩:=FT a6 gE;rw[kX,ik] at f2
 by_cases jr:k<N
 ·rw[aq jr] at hl f2;have e0:eN δ (al i k):=⟨cS f1 (cS hl (cS (PC k hd jr) c3)),cS f2 (cS (gw (cx k).2 om) (cS (w5 (pO _ _)) (cS (PC k hd jr) c3)))⟩;exact⟨e0.mono (by omega),λ_=>e0⟩
 ·rw[ar jr] at hl f2;refine⟨⟨?_,?_⟩,λh=>absurd h jr⟩
  ·refine cS f1 (cS hl (cS (gw N4 (gw hP (bI _))) ?_));rw[show (4:Nat)=2^2 from rfl,<-jH,<-jH];exact jC (by omega) (by omega)
  ·refine cS f2 (cS (gw iq (cS om N4)) ?_);rw[<-jH];exact jC (by omega) (by omega)
def au0 {N δ v b:Nat}{A:cL}(R:¬ Ps N A)(cY:KL N A δ v b){x:Nat->Rat}(J:j3 N A (ext N x (-1))):∃bk:Nat,0<bk/\bk<=2^(δ+b)/\∀i,i<N->∃z:Int,x i*(bk:Rat)=(z:Rat)/\z.natAbs<=2^δ*(N*2^v):=by
 obtain⟨al,dH,ak,E,G,ab⟩:=k8.full R N 0 A (λj=>j) (by omega) (VP _ _ _) (λ_=>Iff.rfl) (k8.start _ _) (λj aa=>by omega);have au1:=(afM E G x).1 ((ab _).2 J);obtain⟨aQ,e,V,d,d0,cx,c3,hE,iq,om,lG⟩:=ak.ag3 cY (bI N)
 have⟨s,R⟩:∃s:Int,(d.natAbs:Int)=s*d/\s.natAbs=1:=by
  rcases agY d with e|e
  ·exact⟨1,by omega,rfl⟩
  ·exact⟨-1,by omega,rfl⟩
 refine⟨V*d.natAbs,F0 hE (by omega),?_,λi L=>?_⟩
 ·rw[Ax,jH];exact gw iq (cS om c3)
 ·obtain⟨z,gE,hl⟩:=lG i L N (bI _) (bI _);rw[ar (Wv _)] at gE hl;refine⟨s*z,?_,?_⟩
  ·have e:((V*d.natAbs:Nat):Rat)=(V:Rat)*((d.natAbs:Int):Rat):=by rw[F7,nf]
   rw[au1 i L,e,R.1,j5,j5,<-gE,j5,nf];grind
  ·rw[kX,R.2,tL];exact cS hl (gw c3 (bI _))
def au2 {x y:Rat}:decide (pX x y<0)=decide (x<y):=by
 have E:pX x y<0↔x<y:=by
  unfold pX;rw[Int.sign_neg_iff,Ww];omega
 rw[decide_eq_decide];exact E
def ag4 {x y:Rat}:decide (pX x y>0)=decide (y<x):=by
 have E:pX x y>0↔y<x:=by
  unfold pX;rw[gt_iff_lt,ag5,Ww];omega
 rw[decide_eq_decide];exact E
def ag6 {x y:Rat}:(pX x y==0)=decide (x=y):=by
 rw[FG,beq_iff_eq,decide_eq_true_iff];exact am7
def Wx {x:Rat}:(bU x).1.1>=0↔0<=x:=by
 show x.num.sign>=0↔_;rw[ge_iff_le,Int.sign_nonneg_iff,<-Rat.num_nonneg]
def PD {x:Rat}:(bU x).1.1>0↔0<x:=by
 show x.num.sign>0↔_;rw[gt_iff_lt,ag5,Ww];simp
def Wy {f:aG}(h:eV f=true):f=bU (eA f)/\dL (eA f)/\0<=eA f:=by
 unfold eV at h;rw[dp,decide_eq_true_eq] at h;obtain⟨e,ad⟩:=Pf h.1;refine⟨e,ad,Wx.1 ?_⟩;rw[<-e];exact h.2
def Wz {x:Rat}(ad:dL x)(h:0<=x):eV (bU x)=true:=by
 unfold eV;rw[dp,decide_eq_true_eq];exact⟨qJ ad,Wx.2 h⟩
def cG:List bJ->cL
 | [],_,_=>0
 |l::r,i,k=>(if l.2.1.toNat=i/\l.1.toNat=k then eA l.2.2 else 0)+cG r i k
structure nQ (ls:List bJ) (n:Nat):Prop where
 len:(D ls)<=10
 at_:∀l∈ls,0<=l.1/\l.1<n/\0<=l.2.1/\l.2.1<n/\l.2.2=bU (eA l.2.2)/\0<=eA l.2.2/\eN 20 (eA l.2.2)
def nQ.tail {l:bJ}{r:List bJ}{n:Nat}(h:nQ (l::r) n):nQ r n:=⟨by have:=h.len;simp at this;omega,λx J=>h.at_ x (by simp[J])⟩
def au3 {ls:List bJ}{n:Nat}(ag:vi ls=true)(Q:∀l∈ls,0<=l.1/\l.1<n/\0<=l.2.1/\l.2.1<n/\eV l.2.2=true):nQ ls n:=by
 obtain⟨kq,vh⟩:=af6 ag;refine⟨kq,λl ad=>?_⟩;obtain⟨a,b,c,d,e⟩:=Q l ad;obtain⟨aK,az,ee⟩:=Wy e;unfold eV at e;rw[dp] at e;exact⟨a,b,c,d,aK,ee,V4 e.1 (vh l ad)⟩
def au4 {ls:List bJ}(h:∀l∈ls,0<=eA l.2.2):∀i k,0<=cG ls i k:=by
 induction ls with
 |nil=>intro i k;exact yO
 |cons l r aD =>
  intro i k;have E:=aD (λx J=>h x (by simp[J])) i k;have G:=h l (by simp);unfold cG
  split<;>grind
def nQ.jF {ls:List bJ}{n:Nat}(h:nQ ls n):∀i k,0<=cG ls i k:=au4 λl ad=>(h.at_ l ad).2.2.2.2.2.1
def w6 {n k:Nat}{x:Nat->Rat}(h:k<n):(e7 n x).getD k bY=bU (x k):=by rw[eH,KE x h];rfl
def ag7 {n j:Nat}{x:Nat->Rat}{v:Rat}(aa:j<n):(e7 n x).set j (bU v)=e7 n λk=>if k=j then v else x k:=by
 refine CG (by rw[gg,pr]) λk O=>?_;rw[lC]
 by_cases h:j=k
 ·subst h;rw[aq rfl,aq (by rw[pr];exact aa),aq rfl]
 ·rw[ar h,ar (λe=>h e.symm),KE x O]
def F9 {b:Nat}{q:Rat}(h:eN b q)(U:b<1200):dL q:=V6 h U
def WA {n to:Nat}:∀(ls:List bJ) (q:Nat->Rat) (m:Nat),nQ ls n->(∀k,k<n->eN m (q k))->m+21*D ls<1200->p5 to ls (e7 n q)=(e7 n (λk=>q k-cG ls to k),true)
 | [],q,_,_,_,_=>by
  unfold p5;rw[KF (y:=λk=>q k-cG [] to k) λk _=>by show q k=q k-0;grind]
 |l::r,q,m,ad,aL,hm=>by
  rw[jt] at hm;obtain⟨oo,cx,c3,hE,iq,om,lG⟩:=ad.at_ l (by simp);have c7:l.1.toNat<n:=by omega
  unfold p5
  by_cases bx:l.2.1.toNat=to
  ·have U:(l.2.1==(to:Int))=true:=by rw[beq_iff_eq];omega
   rw[aq U,w6 c7,iq,MT (F9 (aL _ c7) (by omega)) (F9 lG (by omega)),Ph (aL _ c7) (Ky lG) (by omega)];simp only[zJ,if_true,beq_self_eq_true];rw[ag7 c7,WA r _ (m+21) ad.tail (λk O=>?_) (by omega)]
   ·rw[KF λk _=>?_];simp only[cG,bx,true_and]
    by_cases O:l.1.toNat=k
    ·rw[aq O.symm,aq O,<-O];grind
    ·rw[ar (λh=>O h.symm),ar O];grind
   ·split
    ·rename_i h;rw[IA];exact (V2 (aL _ c7) (Ky lG)).mono (by omega)
    ·exact (aL k O).mono (by omega)
  ·have U:(l.2.1==(to:Int))=false:=by rw[beq_eq_false_iff_ne];omega
   rw[ar (by rw[U];decide),WA r q m ad.tail aL (by omega)];rw[KF λk _=>?_];simp only[cG,bx,false_and,if_false];grind
def au5:fM=bU 0:=rfl
def au6:hX=bU 1:=rfl
def au7 {n to:Nat}(h:to<n):si n to=e7 n λk=>if to=k then 1 else 0:=by
 unfold si;have:bT n fM=e7 n λ_=>0:=CG gv λk O=>by rw[PF,aq O];rfl
 rw[this,au6,ag7 h]
 exact KF λk _=>by
  by_cases h:k=to
  ·rw[aq h,aq h.symm]
  ·rw[ar h,ar (λe=>h e.symm)]
def WB {n to:Nat}{ls:List bJ}(v:aG)(ad:nQ ls n)(bx:to<n):p6 v ls n to=((e7 n (λk=>(if to=k then 1 else 0)-cG ls to k),v),true):=by
 have aC:=WA (to:=to) ls (λk=>if to=k then 1 else 0) 1 ad (λk _=>Wt 1 _) (by have:=ad.len;omega);unfold p6;rw[au7 bx,aC]
 rfl
def w7 (n:Nat)(W:cL)(b c:Nat->Rat)(bu:Nat->Bool):cL:=λi k=>if k<n then (if i=k then 1 else 0)-(if bu i=true then W i k else 0) else if bu i=true then b i else c i
def cZ (l:List aG):Nat->Rat:=λi=>eA (l.getD i bY)
def hT (l:List Bool):Nat->Bool:=λi=>l.getD i false
def ag8 {cap base:List aG}{ls:List bJ}{left:List Bool}{i:Nat}(ad:nQ ls (D cap))(L:i<D cap):q0 cap base ls left i=((e7 (D cap) (λk=>(if i=k then 1 else 0)-if hT left i=true then cG ls i k else 0),if hT left i=true then base.getD i bY else cap.getD i bY),true):=by
 unfold q0 hT
 split
 ·rw[WB _ ad L]
 ·rw[WB _ (n:=D cap) (ls:=[]) ⟨by simp,λl ad=>by cases ad⟩ L]
  rfl
def au8 {n:Nat}{rs:List eg}(ad:(D rs)=n)(Fx:n<=40)(h:∀r∈rs,r.1.length=n/\df r.2=true/\∀f∈r.1,df f=true):oe rs (n:Int)=true:=by
 unfold oe;simp only[dp,lF,decide_eq_false_iff_not,beq_iff_eq,m4];refine⟨by omega,by omega,by omega,λr Q=>?_⟩
 obtain⟨E,G,ab⟩:=h r Q;unfold tl
 have aM:(r.1.any rZ)=false:=by
  rw[m4];intro f ag;unfold rZ;rw[ab f ag];simp
 rw[E,G,aM];simp
def au9 {n:Nat}{A:List eg}{a:Nat->Nat->Rat}{v:Nat->aG}(ad:(D A)=n)(h:∀i,i<n->A[i]?=some (e7 n (a i),v i)){i k:Nat}(L:i<n):qj A i k=if k<n then a i k else eA (v i):=by
 have aC:A.getD i ([],bY)=(e7 n (a i),v i):=afX (h i L);unfold qj;rw[ad,aC]
 by_cases O:k<n
 ·rw[aq O,aq O,w6 O,MJ]
 ·rw[ar O,ar O]
def ava {n:Nat}{A:List eg}{a:Nat->Nat->Rat}{v:Nat->aG}(ad:(D A)=n)(h:∀i,i<n->A[i]?=some (e7 n (a i),v i))(ai:∀i,i<n->df (v i)=true)(a2:∀i,i<n->∀k,k<n->dL (a i k)):∀r∈A,r.1.length=n/\df r.2=true/\∀f∈r.1,df f=true:=λr Q=>by
 obtain⟨i,L⟩:=rH.1 Q;have fa:i<n:=by have:=(dh.1 L).1;omega
 rw[h i fa] at L
 cases L;refine⟨pr _ _,ai i fa,λf ag=>?_⟩;obtain⟨k,O⟩:=rH.1 ag;have KA:k<n:=by have:=(dh.1 O).1;rwa [pr] at this
 rw[KE _ KA] at O
 cases O;exact qJ (a2 i fa k KA)
def l7 (k:Nat):List bJ->Nat
 | []=>0
 |l::r=>(if l.1.toNat=k then 1 else 0)+l7 k r
def l8 (k:Nat):List bJ->Nat
 | []=>1
 |l::r=>(if l.1.toNat=k then (eA l.2.2).den else 1)*l8 k r
def ag9 (k:Nat):∀ls:List bJ,0<l8 k ls
 | []=>Px
 |l::r=>F0 (by split;exact aha _;exact Px) (ag9 k r)
def WC {n:Nat}(k:Nat):∀ls:List bJ,nQ ls n->l8 k ls<=2^(20*l7 k ls)
 | [],_=>bI _
 |l::r,h=>by
  have aD:=WC k r h.tail;have R:=(h.at_ l (by simp)).2.2.2.2.2.2.2;unfold l8 l7
  split
  ·rw[show 20*(1+l7 k r)=20+20*l7 k r by omega,jH]
   exact gw R aD
  ·rw[tL,kM];exact aD
def ahb (n:Nat)(a b:Nat->Nat):eU n (λi=>a i+b i)=eU n a+eU n b:=by
 induction n with
 |zero=>rfl
 |succ n aD=>simp only[eU];rw[aD];omega
def avb (n c:Nat)(a:Nat->Nat):eU n (λi=>c*a i)=c*eU n a:=by
 induction n with
 |zero=>rfl
 |succ n aD=>simp only[eU];rw[aD,Py]
def WD {n j c:Nat}:eU n (λi=>if i=j then c else 0)<=c:=by
 induction n with
 |zero=>exact ej _
 |succ n aD =>
  simp only[eU]
  by_cases h:n=j
  ·subst h;rw[aq rfl]
   have:eU n (λi=>if i=n then c else 0)=0:=by
    rw[Pw (b:=λ_=>0) λi L=>ar (by omega),Wu];simp
   omega
  ·rw[ar h];omega
def ahc {n:Nat}:∀ls:List bJ,eU n (λk=>l7 k ls)<=D ls
 | []=>by simp only[l7];rw[Wu];simp
 |l::r=>by
  have aD:=ahc (n:=n) r;simp only[l7];rw[ahb]
  have E:eU n (λk=>if l.1.toNat=k then 1 else 0)=eU n λk=>if k=l.1.toNat then 1 else 0:=Pw λk _=>by
   by_cases h:l.1.toNat=k
   ·rw[aq h,aq h.symm]
   ·rw[ar h,ar (λe=>h e.symm)]
  have G:eU n (λk=>if k=l.1.toNat then 1 else 0)<=1:=WD;rw[jt];omega
def ahd (c:Nat->Nat)(a:Nat):∀n,hZ n (λk=>2^(a*c k))=2^(a*eU n c)
 |0=>rfl
 |n+1=>by rw[hZ,ahd c a n,<-jH,eU,Py]
def WE (x:Rat):x*(x.den:Rat)=(x.num:Rat):=by
 have E:=uL x;rw[Pg] at E;have G:((x.den:Int):Rat)≠0:=by rw[Ne,Kx];have:=x.den_pos;omega
 rw[nf] at E G;generalize (x.den:Rat)=aQ at *;generalize (x.num:Rat)=N at *;grind
def ahe {n k:Nat}(bu:Nat->Bool):∀ls:List bJ,nQ ls n->∃c:Nat->Nat,eU n c<=2^(21*l7 k ls)/\∀i,i<n->dy (c i) ((l8 k ls:Rat)*((if i=k then 1 else 0)-if bu i=true then cG ls i k else 0))
 | [],_=>by
  refine⟨λi=>if i=k then 1 else 0,WD,λi _=>?_⟩
  have e:((l8 k []:Nat):Rat)*((if i=k then 1 else 0)-if bu i=true then cG [] i k else 0)=if i=k then 1 else 0:=by
   simp only[l8,cG]
   split<;>split<;>grind
  rw[e];dsimp only
  split
  ·exact⟨1,rfl,bI _⟩
  ·exact dy.zero
 |l::r,h=>by
  obtain⟨c,E,G⟩:=ahe (k:=k) bu r h.tail;obtain⟨oo,cx,c3,hE,iq,om,lG⟩:=h.at_ l (by simp)
  by_cases O:l.1.toNat=k
  ·refine⟨λi=>(eA l.2.2).den*c i+if i=l.2.1.toNat then l8 k r*(eA l.2.2).num.natAbs else 0,?_,λi L=>?_⟩
   ·rw[ahb,avb];have aK:l7 k (l::r)=1+l7 k r:=by rw[l7,aq O]
    rw[aK,show 21*(1+l7 k r)=20+(21*l7 k r+1) by omega,jH]
    have cz:=gw lG.2 E
    have ef:eU n (λi=>if i=l.2.1.toNat then l8 k r*(eA l.2.2).num.natAbs else 0)<=2^20*2^(21*l7 k r):=cS WD (by
     rw[pO];exact gw lG.1 (cS (WC k r h.tail) (jC (by omega) (by omega))))
    rw[sR 2 (21*l7 k r)];have js:2^20*2^(21*l7 k r)+2^20*2^(21*l7 k r)=2^20*(2^(21*l7 k r)*2):=by rw[<-Py];congr 1;omega
    rw[<-js];exact Nat.add_le_add cz ef
   ·have az:((l8 k (l::r):Nat):Rat)=(eA l.2.2).den*(l8 k r:Rat):=by
     rw[l8,aq O,F7]
    have ee:cG (l::r) i k=(if l.2.1.toNat=i then eA l.2.2 else 0)+cG r i k:=by simp only[cG,O,and_true]
    have kU:(l8 k (l::r):Rat)*((if i=k then 1 else 0)-if bu i=true then cG (l::r) i k else 0)=((eA l.2.2).den:Rat)*((l8 k r:Rat)*((if i=k then 1 else 0)-if bu i=true then cG r i k else 0))+if (i=l.2.1.toNat/\bu i=true) then -((l8 k r:Rat)*(eA l.2.2).num) else 0:=by
     rw[az,ee,<-WE];generalize ((eA l.2.2).den:Rat)=aQ at *;generalize (l8 k r:Rat)=b6 at *;generalize (if i=k then (1:Rat) else 0)=δ at *
     by_cases bZ:bu i=true
     ·by_cases bX:i=l.2.1.toNat
      ·rw[aq bZ,aq bZ,aq bX.symm,aq ⟨bX,bZ⟩];grind
      ·rw[aq bZ,aq bZ,ar (λe=>bX e.symm),ar (λe=>bX e.1)];grind
     ·rw[ar bZ,ar bZ,ar (λe=>bZ e.2)];grind
    rw[kU];refine ((dy.nat (bI _)).mul (G i L)).add ?_
    by_cases g:i=l.2.1.toNat/\bu i=true
    ·rw[aq g,aq g.1];refine⟨-((l8 k r:Int)*(eA l.2.2).num),?_,?_⟩
     ·rw[Rat.intCast_neg,j5,nf]
     ·rw[yb,kX,ik];exact bI _
    ·rw[ar g];exact dy.zero
  ·refine⟨c,?_,λi L=>?_⟩
   ·rw[l7,ar O,kM];exact E
   ·have az:l8 k (l::r)=l8 k r:=by rw[l8,ar O,tL]
    have ee:cG (l::r) i k=cG r i k:=by
     simp only[cG,O,and_false,if_false];grind
    rw[az,ee];exact G i L
def avc {n s:Nat}{ls:List bJ}{b c:Nat->Rat}{bu:Nat->Bool}{A:cL}(ad:nQ ls n)(aM:n<=4)(U:∀i,i<n->eN s (b i))(Z:∀i,i<n->eN s (c i))(cY:∀i,i<n->∀k,k<=n->A i k=w7 n (cG ls) b c bu i k):KL n A 210 (4*s) (4*s):=by
 obtain⟨d,d0,d1,v,ai⟩:=af4 (λi=>if i<n then A i n else 0) s (λi=>by
  split
  ·rename_i L;rw[cY i L n (bI _)];unfold w7;rw[ar (Wv _)]
   split
   ·exact U i L
   ·exact Z i L
  ·exact⟨by simp,F8⟩) n
 have vV:2^(n*s)<=2^(4*s):=jC (by omega) (mJ _ aM);refine⟨λk=>l8 k ls,λk=>2^(21*l7 k ls),d.natAbs,v,λk=>⟨ag9 k ls,cS (WC k ls ad) (jC (by omega) (by omega))⟩,?_,by omega,cS d1 vV,λk O=>?_,λi L=>?_⟩
 ·rw[ahd];refine jC (by omega) ?_;have:=ahc (n:=n) ls;have:=ad.len;omega
 ·obtain⟨c',cH,dR⟩:=ahe (k:=k) bu ls ad;refine⟨c',cH,λi L=>?_⟩;rw[cY i L k (by omega)];unfold w7;rw[aq O];exact dR i L
 ·obtain⟨v1,v2⟩:=ai i L;refine⟨cS v2 vV,?_⟩;rw[aq L] at v1;rw[<-v1,<-nf,show ((d.natAbs:Nat):Int)=d by omega]
  exact F4 _ _
def ahf {n:Nat}{W:cL}{b c:Nat->Rat}{bu:Nat->Bool}{A:cL}(cY:∀i,i<n->∀k,k<=n->A i k=w7 n W b c bu i k){i:Nat}(L:i<n)(y:Nat->Rat)(z:Rat):mB n (A i) (ext n y z)=y i-(if bu i=true then bE n λk=>W i k*y k else 0)+(if bu i=true then b i else c i)*z:=by
 rw[VQ,cY i L n (bI _)];have aK:w7 n W b c bu i n=if bu i=true then b i else c i:=by unfold w7;rw[ar (Wv _)]
 rw[aK]
 congr 1
 rw[nd (g:=λk=>(if i=k then 1 else 0)*y k-(if bu i=true then W i k else 0)*y k) λk O=>by
  rw[cY i L k (by omega)];unfold w7;rw[aq O];grind]
 rw[agy,Ku L λk _ O=>by rw[ar (λe=>O e.symm)];grind]
 rw[aq rfl,Kw]
 congr 1
 split
 ·rfl
 ·exact sr λk _=>by grind
def avd {n:Nat}{W:cL}{b c x:Nat->Rat}{bu:Nat->Bool}{A:cL}(cY:∀i,i<n->∀k,k<=n->A i k=w7 n W b c bu i k)(h:j3 n A (ext n x (-1))):w4 n W b c x bu:=λi L=>by
 have:=h i L;rw[ahf cY L] at this;unfold fm
 split
 ·rename_i b1;rw[aq b1,aq b1] at this;grind
 ·rename_i b1;rw[ar b1,ar b1] at this;grind
def ave {n:Nat}{W:cL}{b c:Nat->Rat}{bu:Nat->Bool}{A:cL}(gW:∀i k,0<=W i k)(mg:mD n W bu)(cY:∀i,i<n->∀k,k<=n->A i k=w7 n W b c bu i k):¬ Ps n A:=by
 rintro⟨y,af,k,O,a6⟩
 have E:∀i,i<n->y i=if bu i=true then bE n (λk=>W i k*y k) else 0:=λi L=>by
  have:=af i L;rw[ahf cY L] at this
  split<;>grind
 have cx:=CI (z:=y) gW mg (λk O b1=>by rw[E k O,b1];simp) (λi L b1=>by
  have:=E i L;rw[aq b1] at this;rw[<-this];exact yO) k O
 have c3:=CI (z:=λi => -y i) gW mg (λk O b1=>by rw[E k O,b1];simp) (λi L b1=>by
  have e:(λk=>W i k * -y k)=λk=>(-1)*(W i k*y k):=by funext k;grind
  have:=E i L;rw[aq b1] at this;rw[e,q5,<-this];grind) k O
 exact a6 (by grind)
def WG {a b:Nat}{x:Rat}{z:Int}{d:Nat}(ae:0<d)(h:x*(d:Rat)=(z:Rat))(aP:z.natAbs<=2^a)(n3:d<=2^b):x.num.natAbs<=2^a/\x.den<=2^b:=by
 obtain⟨f1,f2⟩:=FT (q:=x) (v:=z) (d:=(d:Int)) (by omega) (by rw[nf];exact h);rw[ik] at f2;exact⟨by omega,by omega⟩
structure ps (n:Nat) (y:Nat->Rat) (bk m cV:Nat):Prop where
 pos:0<bk
 le:bk<=2^m
 at_:∀k,k<n->∃z:Int,y k*(bk:Rat)=(z:Rat)/\z.natAbs<=2^cV*bk
def ps.sz {n bk m cV k:Nat}{y:Nat->Rat}(h:ps n y bk m cV)(O:k<n):eN (cV+m) (y k):=by
 obtain⟨z,gE,hl⟩:=h.at_ k O
 have E:z.natAbs<=2^(cV+m):=by
  rw[jH];exact cS hl (gw (bI _) h.le)
 obtain⟨f1,f2⟩:=WG h.pos gE E h.le;exact⟨f1,cS f2 (jC (by omega) (by omega))⟩
def WH {n bk m cV to:Nat}{y:Nat->Rat}(af:ps n y bk m cV)(q7:2*cV+2*m<=913)(ob:41<=cV){b6:Nat}(eG:cV+m+265<=b6)(Co:b6+cV+m+21<1200):∀(ls:List bJ) (v:Rat) (j P:Nat) (z:Int),nQ ls n->j+D ls<=10->0<P->P<=2^(41+20*j)->v*((bk*P:Nat):Rat)=(z:Rat)->z.natAbs<=(j+1)*2^(cV+20)*(bk*P)->u6 (e7 n y) to ls (bU v,true)=(bU (v+bE n λk=>cG ls to k*y k),true)/\dL (v+bE n λk=>cG ls to k*y k)
 | [],v,j,P,z,_,aa,db,hP2,aP,hzb=>by
  have e:(v+bE n λk=>cG [] to k*y k)=v:=by
   rw[sr λk _=>by show (0:Rat)*y k=0;grind];grind
  refine⟨by rw[e];rfl,?_⟩
  rw[e]
  have cz:z.natAbs<=2^b6:=by
   refine cS hzb (cS (gw (gw (show j+1<=2^4 by omega) (bI _)) (gw af.le (cS hP2 (jC (by omega) (show 41+20*j<=241 by omega))))) ?_);rw[<-jH,<-jH,<-jH];exact jC (by omega) (by omega)
  have ef:bk*P<=2^b6:=by
   refine cS (gw af.le (cS hP2 (jC (by omega) (show 41+20*j<=241 by omega)))) ?_;rw[<-jH];exact jC (by omega) (by omega)
  obtain⟨f1,f2⟩:=WG (F0 af.pos db) aP cz ef;exact V6 (b:=b6) ⟨f1,f2⟩ (by omega)
 |l::r,v,j,P,z,ad,aa,db,hP2,aP,hzb=>by
  rw[jt] at aa;obtain⟨oo,cx,c3,hE,iq,om,lG⟩:=ad.at_ l (by simp);have c7:l.1.toNat<n:=by omega
  by_cases bx:l.2.1.toNat=to
  ·have U:(l.2.1==(to:Int))=true:=by rw[beq_iff_eq];omega
   have cz:z.natAbs<=2^b6:=by
    refine cS hzb (cS (gw (gw (show j+1<=2^4 by omega) (bI _)) (gw af.le (cS hP2 (jC (by omega) (show 41+20*j<=241 by omega))))) ?_);rw[<-jH,<-jH,<-jH];exact jC (by omega) (by omega)
   have ef:bk*P<=2^b6:=by
    refine cS (gw af.le (cS hP2 (jC (by omega) (show 41+20*j<=241 by omega)))) ?_;rw[<-jH];exact jC (by omega) (by omega)
   obtain⟨f1,f2⟩:=WG (F0 af.pos db) aP cz ef;have ai:eN b6 v:=⟨f1,f2⟩;have WI:=af.sz c7;have hmul:yi (eA l.2.2) (y l.1.toNat)=true:=V0 lG WI (by omega);have ahg:eN (cV+m+20) (eA l.2.2*y l.1.toNat):=(V1 lG WI).mono (by omega);have wx:tk v (eA l.2.2*y l.1.toNat)=true:=Ph ai ahg (by omega);obtain⟨ahh,uD,wc⟩:=af.at_ _ c7
   have pI:Ab (e7 n y) l (bU v,true)=(bU (v+eA l.2.2*y l.1.toNat),true):=by
    unfold Ab;dsimp only;rw[w6 c7,iq,SR (F9 lG (by omega)) (F9 WI (by omega)),hmul];simp only[zJ,if_true];rw[aa5 (F9 ai (by omega)) (F9 ahg (by omega)),wx,<-iq];simp[zJ]
   unfold u6;rw[U];simp only[JE,if_true];rw[pI];have jY:=aha (eA l.2.2)
   obtain⟨CD,CE⟩:=WH af q7 ob eG Co r (v+eA l.2.2*y l.1.toNat) (j+1) (P*(eA l.2.2).den) (z*(eA l.2.2).den+(eA l.2.2).num*ahh*P) ad.tail (by omega) (F0 db jY) (by
    rw[show 41+20*(j+1)=(41+20*j)+20 by omega,jH]
    exact gw hP2 lG.2) (by
    rw[Wn,j5,j5,j5,nf,nf,<-aP,<-uD,<-WE];simp only[F7];grind) (by
    have cH:(z*((eA l.2.2).den:Int)).natAbs<=(j+1)*2^(cV+20)*(bk*P)*(eA l.2.2).den:=by
     rw[kX,ik];exact mJ _ hzb
    have dR:((eA l.2.2).num*ahh*(P:Int)).natAbs<=2^20*(2^cV*bk)*P*(eA l.2.2).den:=by
     rw[kX,kX,ik];exact cS (mJ _ (gw lG.1 wc)) (vG _ jY)
    have aK:(j+1+1)*2^(cV+20)*(bk*(P*(eA l.2.2).den))=(j+1)*2^(cV+20)*(bk*P)*(eA l.2.2).den+2^20*(2^cV*bk)*P*(eA l.2.2).den:=by
     rw[jH 2 cV 20];generalize 2^cV=uD;generalize 2^20=fe;generalize (eA l.2.2).den=ai8;grind
    rw[aK];omega)
   have az:v+eA l.2.2*y l.1.toNat+bE n (λk=>cG r to k*y k)=v+bE n λk=>cG (l::r) to k*y k:=by
    have:bE n (λk=>cG (l::r) to k*y k)=bE n (λk=>(if l.1.toNat=k then eA l.2.2 else 0)*y k)+bE n λk=>cG r to k*y k:=by
     rw[<-yJ];refine nd λk _=>?_;simp only[cG,bx,true_and];grind
    rw[this,Ku (f:=λk=>(if l.1.toNat=k then eA l.2.2 else 0)*y k) c7 λk _ O=>by rw[ar (λe=>O e.symm)];grind]
    rw[aq rfl];grind
   rw[az] at CD CE;exact⟨CD,CE⟩
  ·have U:(l.2.1==(to:Int))=false:=by rw[beq_eq_false_iff_ne];omega
   obtain⟨CD,CE⟩:=WH (to:=to) af q7 ob eG Co r v j P z ad.tail (by omega) db hP2 aP hzb
   have az:bE n (λk=>cG (l::r) to k*y k)=bE n λk=>cG r to k*y k:=nd λk _=>by
    simp only[cG,bx,false_and,if_false];grind
   rw[az];unfold u6;rw[U];simp only[h9,dm,if_false];exact⟨CD,CE⟩
def ahi {n bk m cV:Nat}{y:Nat->Rat}{ls:List bJ}(af:ps n y bk m cV)(q7:2*cV+2*m<=913)(ob:41<=cV)(ad:nQ ls n){v:Rat}(ai:eN 41 v)(to:Nat):ot (bU v) ls (e7 n y) to=(bU (v+bE n λk=>cG ls to k*y k),true)/\dL (v+bE n λk=>cG ls to k*y k):=by
 obtain⟨b6,eG⟩:∃b6,b6=cV+m+265:=⟨_,rfl⟩;refine WH af q7 ob (b6:=b6) (by omega) (by omega) ls v 0 v.den (v.num*bk) ad (by have:=ad.len;omega) v.den_pos (by have:=ai.2;omega) ?_ ?_
 ·rw[F7,j5,nf,<-WE];grind
 ·rw[kX,ik];have E:v.num.natAbs<=2^(cV+20):=cS ai.1 (jC (by omega) (by omega));have G:bk*1<=bk*v.den:=Ii _ v.den_pos;have ab:=gw E G;rw[dU] at ab;rw[kM,tL];exact ab
def ahj:Option Nat->Nat->Bool
 |some q,x=>decide ((q:Int)>=(x:Int))
 |none,_=>false
def PG (n:Nat)(p:Option Nat)(x:Nat)(m:List Bool):Bool:=decide ((x:Int)>=(n:Int))||(ahj p x||m.getD x false)
def yP (n:Nat):Option Nat->List Nat->List Bool->Option (List Bool)
 |_,[],m=>some m
 |p,x::t,m=>if PG n p x m=true then none else yP n (some x) t (m.set x true)
def pt (n:Nat):List (List Nat)->List Bool->Option (List Bool)
 | [],m=>some m
 |r::t,m=>if ((D r:Int)==0)=true then none else match yP n none r m with
  |none=>none
  |some m'=>pt n t m'
def ahk {n:Nat}{r:List Nat}{t:List (List Nat)}{m:List Bool}(ak:((D r:Int)==0)=false)(h:yP n none r m=none):pt n (r::t) m=none:=by
 unfold pt;rw[ak,h]
 rfl
def WJ {n:Nat}{r:List Nat}{t:List (List Nat)}{m m':List Bool}(ak:((D r:Int)==0)=false)(h:yP n none r m=some m'):pt n (r::t) m=pt n t m':=by
 have:pt n (r::t) m=if ((D r:Int)==0)=true then none else match yP n none r m with
  |none=>none
  |some m'=>pt n t m':=rfl
 rw[this,ak,h]
 rfl
def ahl {n:Nat}{r:List Nat}{t:List (List Nat)}{m:List Bool}(ak:((D r:Int)==0)=true):pt n (r::t) m=none:=by
 unfold pt;rw[ak]
 rfl
structure ng (cap base:List aG) (ls:List bJ):Prop where
 right:mv cap base ls=true
 tr:(D cap)<=4
 lO:nQ ls (D cap)
 cs:∀f∈cap,eN 41 (eA f)
 U7:∀f∈base,eN 41 (eA f)
def ahm {l:List aG}{n i:Nat}(ad:(D l)=n)(aF:∀f∈l,eV f=true)(R:∀f∈l,eN 41 (eA f))(L:i<n):l.getD i bY=bU (cZ l i)/\dL (cZ l i)/\0<=cZ l i/\eN 41 (cZ l i)/\df (l.getD i bY)=true:=by
 have aC:l.getD i bY∈l:=by
  rw[eH,bw (by omega)];exact iJ _
 obtain⟨E,G,ab⟩:=Wy (aF _ aC);have aM:=aF _ aC;unfold eV at aM;rw[dp] at aM;exact⟨E,G,ab,R _ aC,aM.1⟩
def ng.Aw {cap base:List aG}{ls:List bJ}(h:ng cap base ls){i:Nat}(L:i<D cap):cap.getD i bY=bU (cZ cap i)/\dL (cZ cap i)/\0<=cZ cap i/\eN 41 (cZ cap i)/\df (cap.getD i bY)=true:=ahm rfl (sm h.right).2.2.2.2.1 h.cs L
def ng.CO {cap base:List aG}{ls:List bJ}(h:ng cap base ls){i:Nat}(L:i<D cap):base.getD i bY=bU (cZ base i)/\dL (cZ base i)/\0<=cZ base i/\eN 41 (cZ base i)/\df (base.getD i bY)=true:=ahm (sm h.right).1 (sm h.right).2.2.2.2.2 h.U7 L
def ahn {n i k:Nat}:∀ls:List bJ,nQ ls n->eN (21*D ls) (cG ls i k)
 | [],_=>⟨by simp[cG],by simp[cG]⟩
 |l::r,h=>by
  have aD:=ahn (i:=i) (k:=k) r h.tail;have R:=(h.at_ l (by simp)).2.2.2.2.2.2;rw[jt,show 21*(D r+1)=20+21*D r+1 by omega]
  unfold cG;refine V2 ?_ aD
  split
  ·exact R
  ·exact⟨by simp,F8⟩
def aho {n s:Nat}{ls:List bJ}{b c:Nat->Rat}{bu:Nat->Bool}{A:List eg}{v:Nat->aG}(ad:nQ ls n)(aM:n<=4)(R:s<=41)(U:∀i,i<n->eN s (b i))(Z:∀i,i<n->eN s (c i))(mg:mD n (cG ls) bu)(cY:(D A)=n)
  (aC:∀i,i<n->A[i]?=some (e7 n (λk=>(if i=k then 1 else 0)-if bu i=true then cG ls i k else 0),v i)) (ai:∀i,i<n->df (v i)=true/\eA (v i)=if bu i=true then b i else c i) :
  ∃(x:Nat->Rat) (bk:Nat),l4 A n=(e7 n x,0)/\w4 n (cG ls) b c x bu/\(∀k,k<n->dL (x k))/\0<bk/\bk<=2^(210+4*s)/\∀i,i<n->∃z:Int,x i*(bk:Rat)=(z:Rat)/\z.natAbs<=2^(212+4*s):=by
 have r9:∀i,i<n->∀k,k<=n->qj A i k=w7 n (cG ls) b c bu i k:=λi L k O=>by
  rw[au9 cY aC L,(ai i L).2]
  rfl
 have Q:oe A (n:Int)=true:=au8 cY (by omega) (ava cY aC (λi L=>(ai i L).1) λi L k O=>by
  refine V6 (b:=220) ?_ (by omega)
  have E:eN (21*D ls) (if bu i=true then cG ls i k else 0):=by
   split
   ·exact ahn ls ad
   ·exact⟨by simp,F8⟩
  rw[IA];exact (V2 (Wt 1 _) (Ky E)).mono (by have:=ad.len;omega))
 have hP:=avc ad aM U Z r9;have dE:=ave ad.jF mg r9;have ht:=hP.agV aM (by omega);subst cY;obtain⟨x,E,G,ab⟩:=auZ Q ht (by omega) dE;have ahp:=(ab.1 x).2 λ_ _=>rfl;obtain⟨bk,aU,bO,hK⟩:=au0 dE hP ahp;refine⟨x,bk,E,avd r9 ahp,G,aU,bO,λi L=>?_⟩;obtain⟨z,gE,hl⟩:=hK i L;refine⟨z,gE,cS hl ?_⟩;rw[show 212+4*s=210+(2+4*s) by omega,jH 2 210,jH 2 2]
 exact gw (bI _) (gw aM (bI _))
def avf {x:Rat}{s:Nat}(h:eN s x):x<=((2^s:Nat):Rat):=by
 rw[Rat.le_iff,Rat.num_natCast,Rat.den_natCast];have E:=h.1;have G:=x.den_pos;have ab:(2^s:Nat)*1<=2^s*x.den:=Ii _ G;have aM:((2^s:Nat):Int)*(x.den:Int)=((2^s*x.den:Nat):Int):=by rw[Int.natCast_mul]
 rw[aM];generalize 2^s=X at *;omega
def avg {n s:Nat}{x:Nat->Rat}{bk:Nat}(ak:0<bk)(E:bk<=2^(210+4*s))(J:∀i,i<n->0<=x i/\x i<=((2^41:Nat):Rat))(aP:∀i,i<n->∃z:Int,x i*(bk:Rat)=(z:Rat)/\z.natAbs<=2^(212+4*s)):ps n x bk (210+4*s) 41:=by
 refine⟨ak,E,λk O=>?_⟩;obtain⟨z,gE,-⟩:=aP k O;obtain⟨avh,fe⟩:=J k O;refine⟨z,gE,?_⟩;have l1:(0:Rat)<=(bk:Rat):=Rat.natCast_nonneg;have cx:=vo avh l1;have c3:=Pu fe l1;rw[gE] at cx c3;rw[<-F7,<-nf,ahq] at c3
 have hE:0<=z:=by
  rw[show (0:Rat)=((0:Int):Rat) from rfl,ahq] at cx;exact cx
 omega
def avi {cap base:List aG}{ls:List bJ}(h:ng cap base ls){left:List Bool}(mg:mD (D cap) (cG ls) (hT left))(hle:∀x,w4 (D cap) (cG ls) (cZ base) (cZ cap) x (hT left)->∀i,i<(D cap)->x i<=cZ cap i):
  ∃(x:Nat->Rat) (bk:Nat),sk cap base ls left=(e7 (D cap) x,true)/\w4 (D cap) (cG ls) (cZ base) (cZ cap) x (hT left)/\(∀k,k<(D cap)->dL (x k))/\ps (D cap) x bk 374 41:=by
 have dn:(allEq cap base ls left).all (·.2)=true:=by
  rw[jP];intro e he;unfold allEq at he;obtain⟨i,L,rfl⟩:=hx.1 he;rw[pP] at L;rw[ag8 h.lO L]
 have cY:((allEq cap base ls left).map (·.1)).length=D cap:=by unfold allEq;simp
 have aC:∀i,i<(D cap)->((allEq cap base ls left).map (·.1))[i]?=some (e7 (D cap) (λk=>(if i=k then 1 else 0)-if hT left i=true then cG ls i k else 0),if hT left i=true then base.getD i bY else cap.getD i bY):=λi L=>by
  unfold allEq;rw[bD,bD,qq L,jQ,jQ,ag8 h.lO L]
 obtain⟨x,bk,E,G,ab,mU,aU,bO⟩:=aho (s:=41) (b:=cZ base) (c:=cZ cap) h.lO h.tr (by omega) (λi L=>(h.CO L).2.2.2.1) (λi L=>(h.Aw L).2.2.2.1) mg cY aC (λi L=>by
  split
  ·exact⟨(h.CO L).2.2.2.2,rfl⟩
  ·exact⟨(h.Aw L).2.2.2.2,rfl⟩)
 refine⟨x,bk,?_,G,ab,?_⟩
 ·unfold sk;rw[aq dn,E]
  rfl
 ·have vE:=G.jF h.lO.jF (λi L=>(h.CO L).2.2.1) (λi L=>(h.Aw L).2.2.1) mg;exact avg (s:=41) mU aU (λi L=>⟨vE i L,Pv (hle x G i L) (avf (h.Aw L).2.2.2.1)⟩) bO
def ng.ahr {cap base:List aG}{ls:List bJ}(h:ng cap base ls){x:Nat->Rat}{bk:Nat}(J:ps (D cap) x bk 374 41){i:Nat}(L:i<D cap):ot (base.getD i bY) ls (e7 (D cap) x) i=(bU (fm (D cap) (cG ls) (cZ base) x i),true)/\dL (fm (D cap) (cG ls) (cZ base) x i):=by
 obtain⟨cz,-,-,jG,-⟩:=h.CO L;rw[cz];exact ahi J (by omega) (by omega) h.lO jG i
def sv (p:Nat->Bool):Nat->Nat->List Nat
 |0,_=>[]
 |k+1,i=>if p i=true then i::sv p k (i+1) else sv p k (i+1)
def WK {p:Nat->Bool}{j:Nat}:∀{k i:Nat},j∈sv p k i↔i<=j/\j<i+k/\p j=true
 |0,i=>by simp[sv];omega
 |k+1,i=>by
  unfold sv
  split
  ·rename_i aF;rw[hq,WK (k:=k) (i:=i+1)]
   constructor
   ·rintro (rfl|⟨E,G,ab⟩)
    ·exact⟨bI _,by omega,aF⟩
    ·exact⟨by omega,by omega,ab⟩
   ·rintro⟨E,G,ab⟩
    by_cases h:j=i
    ·exact .inl h
    ·exact .inr ⟨by omega,by omega,ab⟩
  ·rename_i aF;rw[WK (k:=k) (i:=i+1)]
   constructor
   ·rintro⟨E,G,ab⟩;exact⟨by omega,by omega,ab⟩
   ·rintro⟨E,G,ab⟩;refine⟨?_,by omega,ab⟩
    rcases fF i j with h|h
    ·omega
    ·obtain rfl:j=i:=by omega
     exact absurd ab aF
def ahs {cap base:List aG}{ls:List bJ}(h:ng cap base ls){left:List Bool}{x:Nat->Rat}{bk:Nat}(J:ps (D cap) x bk 374 41):∀(k i:Nat) (acc:List Nat),i+k<=(D cap)->ow cap base ls left (e7 (D cap) x) k i acc=some (acc++sv (λi => !hT left i&&decide (fm (D cap) (cG ls) (cZ base) x i<cZ cap i)) k i)
 |0,i,acc,_=>by unfold ow sv;rw[List.append_nil]
 |k+1,i,acc,O=>by
  have L:i<D cap:=by omega
  obtain⟨bZ,bX⟩:=h.ahr J L;obtain⟨cH,dR,-,-,-⟩:=h.Aw L;have aD:=λacc=>ahs h (left:=left) J k (i+1) acc (by omega);unfold ow sv;rcases b1:left.getD i false
  ·have aL:hT left i=false:=b1;rw[ar (by simp),bZ];dsimp only;rw[aq rfl,cH,Eu bX dR,au2,aL];rcases ae:decide (fm (D cap) (cG ls) (cZ base) x i<cZ cap i)
   ·rw[ar (by simp),ar (by simp)];exact aD acc
   ·rw[aq rfl,aq (by simp),aD,hj]
    rfl
  ·have aL:hT left i=true:=b1;rw[aq rfl,aL,ar (by simp)];exact aD acc
def aht:∀(lv:List Nat) (left:List Bool) (i:Nat),(∀j∈lv,j<D left)->(lK left lv).getD i false=(left.getD i false||decide (i∈lv))
 | [],left,i,_=>by show left.getD i false=_;simp
 |j::lv,left,i,h=>by
  show (lK (left.set j true) lv).getD i false=_;rw[aht lv _ i (λk O=>by rw[gg];exact h k (by simp[O])),VG (h j (by simp))]
  by_cases ig:j=i
  ·subst ig;simp
  ·rw[ar ig];have:(i=j)=False:=eq_false (λe=>ig e.symm);simp[this]
def WL {n:Nat}{p:Nat->Bool}:∀(k i:Nat) (vr:Option Nat) (bk:List Bool),i+k<=n->(D bk)=n->(∀q,vr=some q->q<i)->(∀j,i<=j->p j=true->bk.getD j false=false)->yP n vr (sv p k i) bk=some (lK bk (sv p k i))
 |0,i,vr,bk,_,_,_,_=>rfl
 |k+1,i,vr,bk,O,l1,aF,hu=>by
  unfold sv
  split
  ·rename_i Ly;show (if PG n vr i bk=true then none else yP n (some i) (sv p k (i+1)) (bk.set i true))=_
   have U:PG n vr i bk=false:=by
    unfold PG;rw[hu i (bI _) Ly,dV]
    cases vr with
    |none=>rfl
    |some q =>
     have:=aF q rfl;simp only[ahj];rw[dV]
     rfl
   rw[U,ar (by simp)]
   exact WL k (i+1) (some i) (bk.set i true) (by omega) (by rw[gg];exact l1) (λq aL=>by cases aL;omega) λj aa zc=>by
    rw[VG (by omega),ar (by omega)];exact hu j (by omega) zc
  ·exact WL k (i+1) vr bk (by omega) l1 (λq aL=>by have:=aF q aL;omega) λj aa zc=>hu j (by omega) zc
def ahu {n:Nat}{lv:List Nat}:∀(rs:List (List Nat)) (m:List Bool),pt n (rs++[lv]) m=match pt n rs m with
  |none=>none
  |some m'=>pt n [lv] m'
 | [],m=>rfl
 |r::t,m=>by
  rw[lo];rcases ak:((D r:Int)==0)
  ·rcases Q:yP n none r m with _|m'
   ·rw[ahk ak Q,ahk ak Q]
   ·rw[WJ ak Q,WJ ak Q];exact ahu t m'
  ·rw[ahl ak,ahl ak]
def avj {n:Nat}{lv:List Nat}{m m':List Bool}(ak:lv≠[])(h:yP n none lv m=some m'):pt n [lv] m=some m':=by
 rw[WJ (by
  cases lv with
  |nil=>exact absurd rfl ak
  |cons a l=>rw[beq_eq_false_iff_ne,jt];omega) h]
 rfl
structure avk (cap base:List aG) (ls:List bJ) (x:Nat->Rat) (left:List Bool) (rounds:List (List Nat)):Prop where
 eq:na cap base ls=(e7 (D cap) x,rounds,0)
 fin:tJ (D cap) (cG ls) (cZ base) (cZ cap) x (hT left)
 len:(D left)=D cap
 marks:pt (D cap) rounds (bT (D cap) false)=some left
 Pt:∀k,k<(D cap)->dL (x k)
 agX:∃bk,ps (D cap) x bk 374 41
def ahv {cap base:List aG}{ls:List bJ}(h:ng cap base ls):∀(k:Nat) (left:List Bool) (rounds:List (List Nat)),D left=(D cap)->left.count false<k->mD (D cap) (cG ls) (hT left)->(∀x,w4 (D cap) (cG ls) (cZ base) (cZ cap) x (hT left)->∀i,i<(D cap)->hT left i=true->fm (D cap) (cG ls) (cZ base) x i<cZ cap i)->pt (D cap) rounds (bT (D cap) false)=some left ->
  ∃x WM ahw,sl cap base ls k left rounds=(e7 (D cap) x,ahw,0)/\tJ (D cap) (cG ls) (cZ base) (cZ cap) x (hT WM)/\D WM=D cap/\pt (D cap) ahw (bT (D cap) false)=some WM/\(∀k,k<(D cap)->dL (x k))/\∃bk,ps (D cap) x bk 374 41
 |0,_,_,_,Z,_,_,_=>by omega
 |k+1,left,rounds,ad,Z,mg,av,hm=>by
  obtain⟨x,bk,gf,gV,AN,u7⟩:=avi h mg λx J i L=>by
   have E:=J i L;rcases b1:hT left i
   ·rw[b1] at E;simp at E;rw[E];exact yO
   ·have G:=av x J i L b1;rw[aq b1] at E;rw[E];exact FY G
  have vE:=gV.jF h.lO.jF (λi L=>(h.CO L).2.2.1) (λi L=>(h.Aw L).2.2.1) mg;have xm:=ahs h (left:=left) u7 (D cap) 0 [] (by omega);rw[jU] at xm;unfold sl;rw[gf];dsimp only;rw[aq rfl,xm];have gA:=λj=>WK (p:=λi => !hT left i&&decide (fm (D cap) (cG ls) (cZ base) x i<cZ cap i)) (j:=j) (k:=D cap) (i:=0)
  have vW:=WL (n:=D cap) (p:=λi => !hT left i&&decide (fm (D cap) (cG ls) (cZ base) x i<cZ cap i)) (D cap) 0 none left (by omega) ad (λq aL=>by cases aL) λj _ aa=>by
   simp only[dp,lF] at aa;exact aa.1
  generalize sv (λi => !hT left i&&decide (fm (D cap) (cG ls) (cZ base) x i<cZ cap i)) (D cap) 0=lv at *
  cases lv with
  |nil =>
   refine⟨x,left,rounds,rfl,⟨mg,vE,λi L b1=>?_,λi L b1=>?_⟩,ad,hm,AN,bk,u7⟩
   ·have E:=gV i L;have G:=av x gV i L b1;rw[aq b1] at E;exact⟨E,by rw[E];exact G⟩
   ·have E:=gV i L;rw[b1] at E;simp at E;refine⟨E,?_⟩;apply CH;intro aC
    have:=(gA i).2 ⟨ej _,by omega,by
     rw[b1,kG (show fm (D cap) (cG ls) (cZ base) x i<cZ cap i by grind)];rfl⟩
    cases this
  |cons i0 lv =>
   dsimp only
   have fa:∀j∈i0::lv,j<D cap/\hT left j=false/\fm (D cap) (cG ls) (cZ base) x j<cZ cap j:=λj aa=>by
    obtain⟨E,G,ab⟩:=(gA j).1 aa;simp only[dp,lF,decide_eq_true_eq] at ab;exact⟨by omega,ab⟩
   have cr:hT (lK left (i0::lv))=λi=>hT left i||decide (i∈i0::lv):=by
    funext i
    exact aht _ _ _ λj aa=>by rw[ad];exact (fa j aa).1
   have Hg:∀i,i<(D cap)->bE (D cap) (λk=>cG ls i k*x k)<=fm (D cap) (cG ls) (cZ base) x i:=λi L=>by
    have:=(h.CO L).2.2.1;unfold fm;grind
   have ahx:mD (D cap) (cG ls) λi=>hT left i||decide (i∈i0::lv):=auw h.lO.jF mg vE (λi L b1=>by
    have E:=gV i L;rw[aq b1] at E;rw[E];exact Hg i L) λi L dS=>by
    have ab:=fa i (by simpa using dS);have E:=gV i L;rw[ab.2.1] at E;simp at E;have aM:=Hg i L;have bl:0<=bE (D cap) (λk=>cG ls i k*x k):=We λk O=>vo (h.lO.jF i k) (vE k O);have bz:=ab.2.2;rw[E]
    constructor<;>grind
   refine ahv h k (lK left (i0::lv)) (rounds++[i0::lv]) (by rw[U0];exact ad) ?_ (by rw[cr];exact ahx) ?_ ?_
   ·have:=U1 (lv:=lv) (by rw[ad];exact (fa i0 (by simp)).1) (fa i0 (by simp)).2.1;omega
   ·intro eJ oL i L b1;rw[cr] at oL b1;dsimp only at b1;have hle:=gV.next h.lO.jF ahx oL λi L dS=>(fa i (by simpa using dS)).2
    have aBa:fm (D cap) (cG ls) (cZ base) eJ i<=fm (D cap) (cG ls) (cZ base) x i:=by
     have:bE (D cap) (λk=>cG ls i k*eJ k)<=bE (D cap) (λk=>cG ls i k*x k):=FX λk O=>agz (hle k O) (h.lO.jF i k);unfold fm;grind
    have G:fm (D cap) (cG ls) (cZ base) x i<cZ cap i:=by
     rcases aL:hT left i
     ·exact (fa i (by rw[aL] at b1;simpa using b1)).2.2
     ·exact av x gV i L aL
    grind
   ·rw[ahu,hm];exact avj (by simp) vW
def WN {cap base:List aG}{ls:List bJ}(h:ng cap base ls):∃x left rounds,avk cap base ls x left rounds:=by
 have aL:hT (bT (D cap) false)=λ_=>false:=by
  funext i
  show (bT (D cap) false).getD i false=false;rw[eH,PF]
  split<;>rfl
 obtain⟨x,left,rounds,E,G,ab,aM,bl,bz⟩:=ahv h (D cap+1) (bT (D cap) false) [] gv (by rw[JQ];exact JR _) (by rw[aL];exact auv _ _) (λx _ i _ b1=>by rw[aL] at b1;cases b1) rfl;refine⟨x,left,rounds,?_,G,ab,aM,bl,bz⟩;unfold na;rw[aq h.right];exact E
def avl {cap base:List aG}{ls:List bJ}(ag:Ap cap base ls=true)(Q:mv cap base ls=true):ng cap base ls:=by
 obtain⟨f1,f2,f3⟩:=af7 ag;obtain⟨bZ,bX⟩:=Pk f1;obtain⟨cm,dX⟩:=Pk f2;obtain⟨gf,gV,AN,u7,vf,tC⟩:=sm Q
 have aF:∀f:aG,eV f=true->pn f 1=true->eN 41 (eA f):=λf E G=>by
  unfold eV at E;rw[dp] at E;exact (V4 E.1 G).mono (by omega)
 exact⟨Q,by omega,au3 f3 u7,λf h=>aF f (vf f h) (bX f h),λf h=>aF f (tC f h) (dX f h)⟩
def ahy {cap base AJ Ft:List aG}{ls:List bJ}(Q:mv cap base ls=true)(E:(D AJ)=D cap)(G:(D Ft)=D cap)(ab:∀f∈AJ,eV f=true)(aM:∀f∈Ft,eV f=true):mv AJ Ft ls=true:=by
 unfold mv at Q ⊢;simp only[dp,lF,beq_iff_eq,m4] at Q ⊢;rw[E,G];exact⟨rfl,Q.2.1,λf ag=>by rw[ab f ag];simp,λf ag=>by rw[aM f ag];simp⟩
def ahz:eV fM=true:=Wz (JF (by decide)) yO
def avm:eV hX=true:=Wz (JF (by decide)) (by decide)
def PH:eA fM=0:=MJ 0
def WO:eA hX=1:=MJ 1
def ahA {n i:Nat}{f:aG}(h:i<n):cZ (bT n f) i=eA f:=by
 unfold cZ;rw[eH,PF,aq h];rfl
def avn {cap base:List aG}{ls:List bJ}(h:ng cap base ls):ng (bT (D cap) hX) (bT (D cap) fM) ls:=by
 have E:∀f∈bT (D cap) hX,f=hX:=λf ag=>(n4.1 ag).2;have G:∀f∈bT (D cap) fM,f=fM:=λf ag=>(n4.1 ag).2;refine⟨ahy h.right gv gv (λf ag=>by rw[E f ag];exact avm) (λf ag=>by rw[G f ag];exact ahz),by rw[gv];exact h.tr,by rw[gv];exact h.lO,λf ag=>?_,λf ag=>?_⟩
 ·rw[E f ag,WO];exact⟨by decide,by decide⟩
 ·rw[G f ag,PH];exact⟨by decide,by decide⟩
def WQ {cap base:List aG}{ls:List bJ}{j:Nat}(h:j<D cap):(tH cap base ls).getD j bY=if (tG cap base ls).getD j false=true then cap.getD j bY else fM:=by
 rw[eH];unfold tH;rw[VJ _ _ _ h];rcases ag:(tG cap base ls).getD j false
 ·rw[aq ⟨ej _,by omega,rfl⟩,ar (by simp)];rfl
 ·rw[ar (by simp),aq rfl,eH]
def ahB {cap base:List aG}{ls:List bJ}(Z:∀f∈cap,okF f):(tH cap base ls).length=D cap:=(JW (fed:=tG cap base ls) (D cap) 0 cap Z).1
def KM {l:List aG}{n:Nat}(ad:(D l)=n){f:aG}(h:f∈l):∃j,j<n/\l.getD j bY=f:=by
 obtain⟨j,aa⟩:=rH.1 h;exact⟨j,by have:=(dh.1 aa).1;omega,by rw[eH,aa];rfl⟩
def WR {l:List aG}{j:Nat}(h:j<D l):l.getD j bY∈l:=by
 rw[eH,bw h];exact iJ _
def avo {cap base:List aG}{ls:List bJ}(h:ng cap base ls)(Z:∀f∈cap,okF f):ng (tH cap base ls) base ls:=by
 have ad:=ahB (base:=base) (ls:=ls) Z;obtain⟨gf,gV,AN,u7,vf,tC⟩:=sm h.right
 have hm:∀f∈tH cap base ls,f=fM\/f∈cap:=λf ag=>by
  obtain⟨j,aa,rfl⟩:=KM ad ag;rw[WQ aa]
  split
  ·exact .inr (WR aa)
  ·exact .inl rfl
 refine⟨ahy h.right ad gf (λf ag=>?_) tC,by rw[ad];exact h.tr,by rw[ad];exact h.lO,λf ag=>?_,h.U7⟩
 ·rcases hm f ag with rfl|ag
  ·exact ahz
  ·exact vf f ag
 ·rcases hm f ag with rfl|ag
  ·rw[PH];exact⟨by decide,by decide⟩
  ·exact h.cs f ag
def ahC {i k:Nat}:∀ls:List bJ,(∀l∈ls,l.2.1.toNat=i->l.1.toNat=k->eA l.2.2=0)->cG ls i k=0
 | [],_=>rfl
 |l::r,h=>by
  unfold cG;rw[ahC r λx J=>h x (by simp[J])]
  split
  ·rename_i a1;rw[h l (by simp) a1.1 a1.2];grind
  ·grind
def avp {cap base:List aG}{ls:List bJ}(h:ng cap base ls)(Z:∀f∈cap,okF f){y:Nat->Rat}{bu:Nat->Bool}(af:tJ (D cap) (cG ls) (cZ base) (cZ (tH cap base ls)) y bu):∀i,i<(D cap)->y i<=cZ cap i/\y i<=fm (D cap) (cG ls) (cZ base) y i/\(y i=cZ cap i\/y i=fm (D cap) (cG ls) (cZ base) y i):=λi L=>by
 obtain⟨gf,gV,AN,u7,vf,tC⟩:=sm h.right;obtain⟨cz,ef,-⟩:=afF (base:=base) (ls:=ls) (cap:=cap) (λl ad=>⟨(u7 l ad).2.2.1,(u7 l ad).2.2.2.1⟩) (D cap+1) (bT (D cap) false) gv (by rw[JQ];exact JR _)
 change Ar cap base ls (tG cap base ls) at cz
 have aP:∀j,j<(D cap)->(tG cap base ls).getD j false=false->y j=0:=λj aa ag=>by
  have E:=(af.le aa).1;have G:=af.jF j aa;have ab:cZ (tH cap base ls) j=0:=by unfold cZ;rw[WQ aa,ag,ar (by simp),PH]
  grind
 have hle:=af.le L;rcases ag:(tG cap base ls).getD i false
 ·have ahD:=aP i L ag
  have Q:¬ FN cap base ls (tG cap base ls) i:=λQ=>by
   have:=cz i L Q;rw[ag] at this;cases this
  have ew:=(h.Aw L)
  refine⟨by rw[ahD];exact ew.2.2.1,hle.2.1,?_⟩
  by_cases aF:(cap.getD i bY).1.1>0
  ·right
   have a5:¬ ((base.getD i bY).1.1>0\/∃l∈ls,l.2.1=(i:Int)/\l.2.2.1.1>0/\(tG cap base ls).getD l.1.toNat false=true):=λh=>Q ⟨aF,h⟩;rw[not_or] at a5;have U:=h.CO L
   have we:cZ base i=0:=by
    have E:=a5.1;rw[U.1,PD] at E;have:=U.2.2.1;grind
   have R:bE (D cap) (λk=>cG ls i k*y k)=0:=sr λk O=>by
    rcases qR:(tG cap base ls).getD k false
    ·rw[aP k O qR];grind
    ·rw[ahC ls λl ad bx c7=>?_]
     ·grind
     ·obtain⟨oo,cx,c3,hE,iq,om,lG⟩:=h.lO.at_ l ad;have ab:¬ l.2.2.1.1>0:=λhw=>a5.2 ⟨l,ad,by omega,hw,by rw[c7];exact qR⟩
      rw[iq,PD] at ab;grind
   unfold fm;rw[R,we,ahD];grind
  ·left
   rw[ew.1,PD] at aF;have:=ew.2.2.1;grind
 ·have ab:cZ (tH cap base ls) i=cZ cap i:=by unfold cZ;rw[WQ L,ag,aq rfl]
  rw[ab] at hle;exact hle
def WS {cap base:List aG}{ls:List bJ}(h:ng cap base ls){y:Nat->Rat}{bk:Nat}(af:ps (D cap) y bk 374 41)(ad:∀k,k<(D cap)->dL (y k))(R:∀i,i<(D cap)->y i<=cZ cap i/\y i<=fm (D cap) (cG ls) (cZ base) y i/\(y i=cZ cap i\/y i=fm (D cap) (cG ls) (cZ base) y i)):∀k i,i+k=(D cap)->Ak cap base ls (e7 (D cap) y) k i=true
 |0,_,_=>rfl
 |k+1,i,O=>by
  have L:i<D cap:=by omega
  obtain⟨bZ,bX⟩:=h.ahr af L;obtain⟨cH,dR,-,-,-⟩:=h.Aw L;obtain⟨s1,s2,c1⟩:=R i L;unfold Ak;rw[bZ];dsimp only;rw[cH,w6 L,Eu bX dR,ag4];rcases ae:decide (cZ cap i<fm (D cap) (cG ls) (cZ base) y i)
  ·rw[ar (by simp:¬ (false=true)),Eu bX (ad i L),ag6];have ae:=of_decide_eq_false ae;rw[kG (by grind),aq (by rfl)];exact WS h af ad R k (i+1) (by omega)
  ·rw[aq rfl,Eu dR (ad i L),ag6];have ae:=of_decide_eq_true ae;rw[kG (by grind),aq (by rfl)];exact WS h af ad R k (i+1) (by omega)
def avq {n:Nat}{y:Nat->Rat}(ad:∀k,k<n->dL (y k)):(e7 n y).any rZ=false:=by
 rw[m4];intro f ag;obtain⟨j,aa,rfl⟩:=KM (pr n y) ag;rw[w6 aa];unfold rZ;rw[qJ (ad j aa)];simp
def ahE {cap base:List aG}{ls:List bJ}(h:ng cap base ls){y:Nat->Rat}{bk:Nat}(af:ps (D cap) y bk 374 41)(ad:∀k,k<(D cap)->dL (y k))(R:∀i,i<(D cap)->y i<=cZ cap i/\y i<=fm (D cap) (cG ls) (cZ base) y i/\(y i=cZ cap i\/y i=fm (D cap) (cG ls) (cZ base) y i)):Al cap base ls (e7 (D cap) y)=true:=by
 unfold Al;rw[h.right,pr,avq ad,WS h af ad R _ _ (kM _)];simp
def avr (x:Rat):(bU x).1.1<=1:=by
 show x.num.sign<=1;rcases Int.lt_trichotomy x.num 0 with h|h|h
 ·rw[Int.sign_eq_neg_one_of_neg h];decide
 ·rw[h];decide
 ·rw[Int.sign_eq_one_of_pos h];exact WT _
def ahF:∀(l:List aG) (a:Int),(∀f∈l,0<=f.1.1/\f.1.1<=1)->0<=a->a+D l<=1000->a<=yM l a/\((∃f∈l,f.1.1≠0)->a<yM l a)
 | [],a,_,_,_=>⟨WT _,fun⟨f,ag,_⟩=>by cases ag⟩
 |f::r,a,h,ak,U=>by
  rw[jt] at U;obtain⟨f0,f1⟩:=h f (by simp);have hw:IntKind.i64.wrap (a+f.1.1)=a+f.1.1:=wrap64 _ (by omega) (by omega);obtain⟨i1,i2⟩:=ahF r (a+f.1.1) (λg aC=>h g (by simp[aC])) (by omega) (by omega);unfold yM;rw[hw];refine⟨by omega,fun⟨g,aC,a6⟩=>?_⟩
  rcases hq.1 aC with rfl|aC
  ·omega
  ·have:=i2 ⟨g,aC,a6⟩;omega
def avs {x y:Rat}:decide (pX x y<=0)=decide (x<=y):=by
 have E:pX x y<=0↔x<=y:=by
  have:=ag4 (x:=x) (y:=y);rw[decide_eq_decide] at this
  constructor
  ·intro h;apply CH;intro Z;have:=this.2 (by grind);omega
  ·intro h;apply CH;intro Z;have:=this.1 (by omega);grind
 rw[decide_eq_decide];exact E
def WU {n:Nat}{ls:List bJ}(ad:nQ ls n){y:Nat->Rat}{bk m cV:Nat}(af:ps n y bk m cV)(q7:2*cV+2*m<=913)(ob:41<=cV)(ahG:∀k,k<n->dL (y k)):∀k i,i+k=n->(Aj ls (e7 n y) k i=true↔∀j,i<=j->j<n->bE n (λk=>cG ls j k*y k)<y j)
 |0,i,O=>⟨λ_ j E G=>by omega,λ_=>rfl⟩
 |k+1,i,O=>by
  have L:i<n:=by omega
  obtain⟨bZ,bX⟩:=ahi af q7 ob ad (v:=0) ⟨by decide,by decide⟩ i
  have aD:=WU ad af q7 ob ahG k (i+1) (by omega);have eO:(0:Rat)+bE n (λk=>cG ls i k*y k)=bE n λk=>cG ls i k*y k:=by grind
  rw[eO] at bZ bX;unfold Aj;rw[au5,bZ];dsimp only;rw[w6 L,Eu (ahG i L) bX,avs];rcases ae:decide (y i<=bE n λk=>cG ls i k*y k)
  ·have ae:=of_decide_eq_false ae;rw[aq (by rfl),aD];refine⟨λh j E G=>?_,λh j E G=>h j (by omega) G⟩
   by_cases ig:j=i
   ·subst ig;grind
   ·exact h j (by omega) G
  ·have ae:=of_decide_eq_true ae;rw[ar (by simp)];refine⟨(λh=>by cases h),λh=>?_⟩;have:=h i (bI _) L;grind
def avt {cap base:List aG}{ls:List bJ}(h:ng cap base ls){z:List aG}(aP:oC z 4 1=true)(Z:sq ls (D cap) z=true):mD (D cap) (cG ls) λ_=>true:=by
 unfold sq at Z;simp only[dp,lF,beq_iff_eq,m4] at Z;obtain⟨-,ad,aF,aC⟩:=Z;have ad:(D z)=D cap:=by omega
 have fX:∀i,i<(D cap)->z.getD i bY=bU (cZ z i)/\dL (cZ z i)/\0<cZ z i/\eN 20 (cZ z i):=λi L=>by
  have hm:z.getD i bY∈z:=WR (by omega);have E:=aF _ hm;simp only[sN,lF,not_or,JP,beq_iff_eq] at E;obtain⟨aK,az,ee⟩:=Wy E.1;have G:=E.1;unfold eV at G;rw[dp] at G;refine⟨aK,az,?_,V4 G.1 ((Pk aP).2 _ hm)⟩;have ab:=E.2;rw[aK] at ab
  change ¬ (cZ z i).num.sign=0 at ab
  rw[VU,VV] at ab;have aM:0<=cZ z i:=ee;grind
 have ai:z=e7 (D cap) (cZ z):=CG ad λk O=>by
  have:=(fX k O).1;rw[eH,bw (by omega)] at this;rw[bw (by omega)];exact congrArg some this
 obtain⟨d,d0,d1,v,Ml⟩:=af4 (λi=>if i<(D cap) then cZ z i else 0) 20 (λi=>by
  split
  ·exact (fX i (by assumption)).2.2.2
  ·exact⟨by simp,F8⟩) (D cap)
 have vV:2^(D cap*20)<=2^80:=jC (by omega) (by have:=h.tr;omega)
 have Uz:ps (D cap) (cZ z) d.natAbs 80 80:=by
  refine⟨by omega,cS d1 vV,λk O=>?_⟩
  obtain⟨v1,v2⟩:=Ml k O;rw[aq O] at v1;refine⟨v k,?_,cS (cS v2 vV) (vG _ (by omega))⟩;rw[<-v1,<-nf,show ((d.natAbs:Nat):Int)=d by omega]
 rw[ai,pr] at aC;have:=(WU h.lO Uz (by omega) (by omega) (λk O=>(fX k O).2.1) (D cap) 0 (kM _)).1 aC;exact auB λi L=>⟨(fX i L).2.2.1,this i (ej _) L⟩
def avu {n m cV:Nat}:ps n (λ_=>0) 1 m cV:=⟨by decide,F8,λk _=>⟨0,by grind,by simp⟩⟩
def avv (cap base:List aG)(ls:List bJ)(z:List aG):Pl cap base ls z=true:=by
 unfold Pl
 split
 ·rename_i ag;simp only[dp] at ag;obtain⟨ag,aP,Q⟩:=ag;have h:=avl ag Q;have p8:∀f∈cap,okF f:=(af8 ag).1.2;have hu:=avn h;obtain⟨gf,gV,AN,u7,vf,tC⟩:=sm Q
  have ov:p3 ls (D cap)=true:=by
   unfold mv at Q;simp only[dp] at Q;exact Q.2.1
  obtain⟨g,avw,aBb,aC⟩:=WN hu;have WV:=aC.eq;have CP:=aC.fin;have ahH:=aC.Pt;obtain⟨aBc,ahI⟩:=aC.agX;simp only[gv] at WV CP ahH ahI;have ahJ:∀i,i<(D cap)->cZ (bT (D cap) hX) i=1:=λi L=>by rw[ahA L,WO]
  have ahK:∀i,i<(D cap)->cZ (bT (D cap) fM) i=0:=λi L=>by rw[ahA L,PH]
  have Lg:∀i,i<(D cap)->g i<=bE (D cap) λk=>cG ls i k*g k:=λi L=>by
   have:=(CP.le L).2.1;unfold fm at this;rw[ahK i L] at this;grind
  rcases me:(e7 (D cap) g).any λx => !(x.1.1==0)
  ·-- a certificate
   have x5:∀i,i<(D cap)->g i=0:=λi L=>by
    rw[m4] at me;have:=me _ (WR (l:=e7 (D cap) g) (j:=i) (by rw[pr];exact L));rw[w6 L] at this;simp only[lF,beq_eq_false_iff_ne,ne_eq,Decidable.not_not] at this
    change (g i).num.sign=0 at this
    rwa [VU,VV] at this
   have dn:mD (D cap) (cG ls) λ_=>true:=agB h.lO.jF CP.inv λi L _=>by
    rcases b1:hT avw i
    ·have:=(CP.L i L b1).1;rw[x5 i L,ahJ i L] at this;exact absurd this (by decide)
    ·rfl
   have uG:∀i,i<(D cap)->p6 hX ls (D cap) i=((e7 (D cap) (λk=>(if i=k then 1 else 0)-if (λ_:Nat=>true) i=true then cG ls i k else 0),hX),true):=λi L=>by
    rw[WB _ h.lO L];rfl
   obtain⟨x,bk,s1,s2,c1,mU,aU,bO⟩:=aho (s:=0) (b:=λ_=>1) (c:=λ_=>1) (A:=(oA ls (D cap)).map (·.1)) (v:=λ_=>hX) h.lO h.tr (by omega) (λ_ _=>⟨by decide,by decide⟩) (λ_ _=>⟨by decide,by decide⟩) dn (by unfold oA;simp) (λi L=>by
    unfold oA;rw[bD,bD,qq L,jQ,jQ,uG i L]) (λi L=>⟨qJ (JF (by decide)),by rw[WO];rfl⟩)
   have avx:(oA ls (D cap)).all (·.2)=true:=by
    rw[jP];intro e he;unfold oA at he;obtain⟨i,L,rfl⟩:=hx.1 he;rw[pP] at L;rw[uG i L]
   have WW:nb ls (D cap:Int)=(e7 (D cap) x,[],0):=by
    unfold nb;rw[aq ov];simp only[mY];rw[WV];dsimp only;rw[aq (beq_self_eq_true _),me,ar (by simp),aq avx,s1]
   have J:∀i,i<(D cap)->x i=1+bE (D cap) λk=>cG ls i k*x k:=λi L=>by
    have:=s2 i L;rw[aq rfl] at this;exact this
   have zM:=s2.jF h.lO.jF (λ_ _=>by decide) (λ_ _=>by decide) dn
   have ahL:∀i,i<(D cap)->0<x i/\bE (D cap) (λk=>cG ls i k*x k)<x i:=λi L=>by
    have E:=J i L;have G:0<=bE (D cap) (λk=>cG ls i k*x k):=We λk O=>vo (h.lO.jF i k) (zM k O)
    constructor<;>grind
   have avy:ps (D cap) x bk 210 212:=⟨mU,aU,λk O=>by
    obtain⟨gE,hl,p7⟩:=bO k O;exact⟨gE,hl,cS p7 (vG _ mU)⟩⟩
   have avz:sq ls (D cap:Int) (e7 (D cap) x)=true:=by
    unfold sq;simp only[dp,lF,beq_iff_eq,m4];refine⟨ov,by rw[pr],λf ag=>?_,?_⟩
    ·obtain⟨j,aa,rfl⟩:=KM (pr _ x) ag;rw[w6 aa,Wz (c1 j aa) (zM j aa)];have:=PD.2 (ahL j aa).1;simp only[fP,Bool.false_or,beq_iff_eq];omega
    ·rw[pr];exact (WU h.lO avy (by omega) (by omega) c1 (D cap) 0 (kM _)).2 λj _ aa=>(ahL j aa).2
   obtain⟨a,aBd,aBe,a2⟩:=WN h;obtain⟨b,aBf,avA,U⟩:=WN (avo h p8);have Ad:=ahB (base:=base) (ls:=ls) p8;have D1:=U.eq;have ahM:=U.fin;rw[Ad] at D1 ahM;have nc:=a2.fin.one h.lO.jF dn (avp h p8 ahM)
   have hle:w2 cap base ls=(e7 (D cap) b,avA,0):=by
    unfold w2;rw[aq Q,D1]
   rw[WW,a2.eq,hle];dsimp only;rw[aq (beq_self_eq_true _),avz,KF nc];unfold Ao;simp
  ·have WW:nb ls (D cap:Int)=([],e7 (D cap) g,16):=by
    unfold nb;rw[aq ov];simp only[mY];rw[WV];dsimp only;rw[aq (beq_self_eq_true _),me,aq rfl]
   have a1:=ahE hu (by rw[gv];exact ahI) (by rw[gv];exact ahH) (λi L=>by
    rw[gv] at L ⊢;exact CP.le L)
   have pG:=ahE (y:=λ_=>0) (bk:=1) hu avu (λ_ _=>Wc) (λi L=>by
    rw[gv] at L ⊢
    have e:fm (D cap) (cG ls) (cZ (bT (D cap) fM)) (λ_=>0) i=0:=by
     unfold fm;rw[ahK i L,sr λk _=>by grind];grind
    rw[e,ahJ i L];exact⟨by decide,yO,.inr rfl⟩)
   rw[gv] at a1 pG;have oJ:e7 (D cap) (λ_=>0)=bT (D cap) fM:=(CG gv λk O=>by rw[PF,aq O];rfl).symm;rw[oJ] at pG
   have Qu:sq ls (D cap:Int) z=false:=by
    rcases Z:sq ls (D cap:Int) z
    ·rfl
    ·have hle:=inv_zero h.lO.jF (avt h aP Z) Lg;rw[Ki] at me;obtain⟨f,ag,a6⟩:=me;obtain⟨j,aa,rfl⟩:=KM (pr _ g) ag;rw[w6 aa] at a6;have E:=hle j aa;have G:=CP.jF j aa;have ab:g j=0:=by grind
     rw[ab] at a6;exact absurd a6 (by decide)
   have s9:=(ahF (e7 (D cap) g) 0 (λf ag=>by
    obtain⟨j,aa,rfl⟩:=KM (pr _ g) ag;rw[w6 aa];exact⟨Wx.2 (CP.jF j aa),avr _⟩) (WT _) (by rw[pr];have:=h.tr;omega)).2 (by
    rw[Ki] at me;obtain⟨f,ag,a6⟩:=me;exact⟨f,ag,by simpa using a6⟩)
   rw[WW];dsimp only;rw[ar (by decide),a1,pG,Qu,kG s9]
   rfl
 ·rfl
end Go.Mini
namespace Go.Mini
open Go Go.Proofs
def avB {P:Program}{w:World}{e:TypeId}{fuel:Nat}{cs:List Value}{s:List UInt8}{p:List MemPlace}(he:P.underlying e=some .string)(h:DataW.trod (λ_=>()) P w 0 (λ_=>true) false fuel e cs=some (.lit (.string s),p)):cs=[.string ⟨s.toArray⟩]:=by
 cases fuel with
 |zero=>cases h
 |succ f =>
  unfold DataW.trod at h;rw[he] at h
  split at h<;>first|(rename_i E G;cases E;done)|skip
  all_goals first|(cases h;done)|skip
  all_goals simp_all
  all_goals try (obtain⟨-,h,-⟩:=h;subst h;rfl)
def avC {P:Program}{w:World}{t e:TypeId}{fuel n:Nat}{cs:List Value}{bu:List (List UInt8)}{p:List MemPlace}(bx:P.underlying t=some (.array n e))(he:P.underlying e=some .string)(aE:P.cellsOf t=n)(E:P.cellsOf e=1)(b1:(D bu)=n)(h:DataW.trod (λ_=>()) P w 0 (λ_=>true) false fuel t cs=some (.agg (bu.map λs => .lit (.string s)),p)):cs=yQ bu:=by
 cases fuel with
 |zero=>cases h
 |succ f =>
  unfold DataW.trod at h;rw[bx] at h;simp only[aE,E] at h
  split at h
  ·rename_i ad;rw[Option.map_eq_some_iff] at h;obtain⟨xs,J,zf⟩:=h;simp only[ec,DataW.agg.injEq] at zf;obtain⟨hm,-⟩:=zf;refine ub λi=>?_;rcases fF i n with L|L
   ·obtain⟨y,af,ag⟩:=LC J (i:=i) (x:=i) (by rw[qq L]);have FZ:bu[i]?=some bu[i]:=bw (by omega);have PI:(xs.map (·.1))[i]?=some (.lit (.string bu[i])):=by rw[hm,bD,FZ];rfl
    rw[bD,af] at PI;simp only[jQ,bF] at PI;obtain⟨uD,wc⟩:=y;dsimp only at PI;subst PI;have Z:=avB he ag;rw[dU] at Z
    have:cs[i]?=some (.string ⟨bu[i].toArray⟩):=by
     have ab:((cs.drop i).take 1)[0]?=some (.string ⟨bu[i].toArray⟩):=by rw[Z];rfl
     rw[List.getElem?_take_of_lt (by omega),List.getElem?_drop] at ab;exact ab
    rw[this];unfold yQ;rw[bD,FZ]
    rfl
   ·rw[mI (by omega),mI (by unfold yQ;rw[au];omega)]
  ·cases h
def avD {W : World}(h : laidMetH Tryz.prog [("consol/lex.signs", YtplehnijfhgclaaGreatDoor.Rows.laid_consol_lex_signs)] W): CS W := by
 have bS : laidMet Tryz.prog [("consol/lex.signs", YtplehnijfhgclaaGreatDoor.Rows.laid_consol_lex_signs)] W := h;obtain⟨cD,⟨g,t,cs,fuel,p,q,aC,bx,ai,aA,aL,rfl⟩,-,Z⟩:=bS;have x5 : Tryz.prog.globalNamed "consol/lex.signs" = some 0 := by kernel_rfl
 obtain rfl:=mN (x5.symm.trans aC);have BK:(Tryz.prog.globals[0]?).map (·.type)=some 262:=by kernel_rfl
 obtain rfl:=mN (BK.symm.trans bx);have hu:Tryz.prog.underlying 262=some (.array 11 9):=by kernel_rfl
 have he:Tryz.prog.underlying 9=some .string:=by kernel_rfl
 have jL:=avC (bu:=[[61,61],[59],[44],[61],[60],[43],[45],[42],[47],[40],[41]]) hu he (by kernel_rfl) (by kernel_rfl) rfl aA;have dz:cs.size=11:=by rw[<-Array.length_toList,jL];rfl
 obtain⟨⟨c,t,Jk⟩,-⟩:=Z 0 0 (by
  rw[hj];refine hv.2 (.inl ?_);unfold MemPlace.row;rw[dz];exact hx.2 ⟨0,by simp,rfl⟩)
 unfold World.var? at ai;rw[x5] at ai;simp only[Option.bind_some,Jk,bF] at ai;subst ai;intro b l U;unfold KN at U
 split at U
 ·rename_i we;subst we
  cases U;exact⟨t,by rw[Jk,<-jL]⟩
 ·cases U
end Go.Mini
