/- A part of the proof. -/
import Derived.Recover
import Derived.Test.YtplehnijfhgclaaGreatDoorM02
set_option linter.unusedSimpArgs false
set_option linter.unusedVariables false
set_option linter.defProp false
set_option maxRecDepth 100000
set_option maxHeartbeats 4000000
noncomputable section
open Bool renaming and_eq_true->fe,false_eq_true->cC,not_eq_true'->vA,rec->gr,true_and->eZ
open Classical renaming choose_spec->sk
open Decidable renaming em->dt
open Int renaming fdiv_eq_ediv_of_nonneg->Uc,le_of_lt->N2,lt_trichotomy->oX,mul_comm->nk,mul_fdiv_add_fmod->Og,mul_nonneg->sA,mul_one->qB,natAbs_natCast->nr,one_mul->oj,pow_pos->Fj,reducePow->abJ,sign_eq_neg_one_of_neg->kJ,sign_eq_one_of_pos->gp,sign_mul->nS,sign_neg->yG,sign_zero->w4,sub_zero->Ae,toNat_natCast->lX,zero_mul->yK,zero_sub->ab4
open List renaming any_eq_false->sN,append_assoc->ki,append_nil->mX,drop->nL,drop_append->EF,drop_drop->x2,drop_eq_getElem_cons->gw,drop_eq_nil_of_le->lj,drop_zero->pD,ext_getElem?->qm,findIdx?_eq_none_iff->acx,findIdx?_eq_some_iff_getElem->acw,flatten_append->Vb,flatten_cons->mg,getD_eq_getElem?_getD->dG,getElem?_append_right->r4,getElem?_drop->oI,getElem?_eq_getElem->bc,getElem?_eq_none->lk,getElem?_eq_some_iff->dK,getElem?_inj->acM,getElem?_map->bd,getElem?_set->lF,getElem?_zipIdx->UT,getElem_drop->JM,getElem_mem->ha,length->D,length_append->ks,length_cons->lQ,length_drop->pG,length_map->ah,length_replicate->hr,length_set->fj,length_take->gj,map->OM,mapM_cons->nf,map_append->pT,map_cons->gZ,map_map->x6,map_nil->bN,map_replicate->CL,map_set->CE,mem_append->h5,mem_cons->kt,mem_cons_of_mem->uq,mem_cons_self->lU,mem_iff_getElem?->yd,mem_map->h7,mem_of_getElem?->cJ,mem_of_mem_drop->Fi,mem_or_eq_of_mem_set->nW,mem_singleton->sE,nil_append->EA,range'->Kf,range'_succ->adP,replicate->cf,replicate_append_replicate->Va,replicate_succ->qn,set_append_right->Ay,set_cons_succ->FU,set_cons_zero->qM,set_set->acV,take->mZ,take_add_one->hn,take_append_of_le_length->Vc,take_length->mB,take_of_length_le->dE,zipIdx_map->adV
open List.cons renaming injEq->bj
open Nat renaming add_sub_cancel_left->EG,add_zero->lo,beq->hf,beq_eq->Vo,blt->AM,eq_zero_or_pos->ln,exists_eq_add_of_le->adq,gcd->gq,le_refl->c8,lt_or_ge->gX,mul_one->dL,ne_of_beq_eq_false->nu,reduceEqDiff->sW,reduceLeDiff->acU,reduceMul->abI,sub_self->hF,zero_le->dF
open Option renaming bind_none->o1,bind_some->zZ,isNone_iff_eq_none->O6,map->adE,map_bind->O4,map_eq_some_iff->c2,map_map->adD,map_some->kU,rec->k7
open Option.some renaming inj->mm,injEq->bM
open Prod renaming ext->cx,fst->nt
open Prod.mk renaming injEq->eL
open Rat renaming divInt->lA,neg_divInt_neg->abV,num_divInt_den->Jx
namespace Go.Mini
open Go
def ane (k:IntKind)(a b:Int):bits .or k a b=bits .or k b a:=by
 simp only[bits,BitVec.or_comm]
def anf (u d:Int)(i:Nat)(Z:(2:Int)^i<=1152921504606846976)(hu:0<=u/\u<2^i)(ad:0<=d)(h:d*2^i<18446744073709551616):bits .or .u64 u (d*2^i)=u+d*2^i:=by
 rw[ane,Int.add_comm];have aq:0<=d*2^i:=sA ad (by exact N2 (Fj (by omega)));refine bits_join .u64 64 (by decide) (λn F G=>yk n ⟨F,by omega⟩) i _ _ aq (Int.mul_emod_left _ _) (by omega) hu.1 hu.2 (by omega)
instance (n:Int):Decidable (dX n):=by unfold dX;exact inferInstance
def wY (a:Raw):Int×Bool:=if cI a=true/\dX (gO a) then (gO a,true) else (0,false)
def N3:=bG pJ λ(s,l)=>b8 (D l<=1000000) (.same (.dp [.int .i64 (wY (s,l)).1,.bool (wY (s,l)).2]))
@[go_sem] def az4 (s l):=cj N3 rfl Ca (s,l) rfl
def ang (T:bg)(fa:T kF=aE tN):WF T Z5 N3:=by
 refine b5 λ(s,l)=>cn λU=>⟨rfl,b4 ?_⟩;simp only[Z5,pJ,bV]
 by_cases L:cI (s,l)=true
 ·obtain⟨z,a0,e⟩:=(ho _).1 L
  cases e
  have Z:wY (z.sign,aF z.natAbs)=if dX z then (z,true) else (0,false):=by
   unfold wY;rw[L,show gO (z.sign,aF z.natAbs)=z from eJ z];simp
  rw[Z];clear Z;have O:=kl z
  by_cases aX:(aF z.natAbs).length<=4
  ·have T7:decide (((aF z.natAbs).length:Int)>4)=false:=de;have oJ:=lr z.natAbs;have ez:=mr z.natAbs;generalize aF z.natAbs=l at *;simp only[go_sem,go_sem_proc,fa,L,U,T7,ah,aG];refine cV [1,17,18] [159001] (λ((i,u):Nat×Int) tm mem=>i<=D l/\u=a7 (l.take i)/\u<18446744073709551616/\tm 4=.I (.int .u64 u)/\tm 19=.I (.int .i64 i)) (λ(i,_)=>D l-i) (0,0) (by refine⟨by omega,rfl,by omega,rfl,rfl⟩) ?_;intro vs ms aI aD;simp only[go_sem,go_sem_proc,fa] at aI aD;subst aI aD;rintro⟨i,u⟩ tm mem Q hm ⟨Z,hu,az5,Aq,Ar⟩;simp only[go_sem,go_sem_proc,fa,bj] at Q hm;obtain⟨F,h0,m2⟩:=Q;have abF:eO (l.take i):=λd ad=>ez d (List.mem_of_mem_take ad);have Fy:0<=u:=by rw[hu];exact ob abF
   rcases dt (i<D l) with an|bB
   ·have J:=bc an;have ad:=ez l[i] (ha an);have r9:=kZ l i an;have N4:=yi abF;rw[gj,Nat.min_eq_left (Nat.le_of_lt an),<-hu] at N4;rw[<-hu] at r9;generalize l[i]=d at *;have yP:decide ((i:Int)<(D l:Int))=true:=c5;have Jd:IntKind.u64.wrap d=d:=yk d ⟨ad.1,by omega⟩
    have Fm:IntKind.i64.wrap (20*(i:Int))=((20*i:Nat):Int):=by rw[fJ _];omega
    have MH:min (20*i) 64=20*i:=by omega
    have qp:(((20*i:Nat):Int)<0)=False:=eq_false (by omega);have abG:(1048576:Int)^i=2^(20*i):=by rw[Int.pow_mul];rfl
    rw[abG] at N4 r9
    have ix:(2:Int)^(20*i)<=1152921504606846976:=by
     obtain rfl|rfl|rfl|rfl:i=0\/i=1\/i=2\/i=3:=by omega
     all_goals decide
    by_cases abH:i=3/\d>8
    ·obtain⟨rfl,T8⟩:=abH;have anh:decide (d>8)=true:=mL T8;have N5:(((3:Nat):Int)==3)=true:=rfl
     have ani:¬ dX z:=by
      have Af:=Iy l 4;rw[oJ] at Af;have:0<=a7 (l.drop 4):=ob λd ad=>ez d (Fi ad);have bt:=sA (show (0:Int)<=1048576^(min 4 (D l)) from N2 (Fj (by omega))) this;unfold dX;simp only[abI,Nat.reduceAdd,abJ] at r9;rw[r9] at Af;omega
     rw[aR ani];refine af ?_;repeat' (intro (ag:_=_)<;>simp only[ag,go_sem,go_sem_proc,fa,F,h0,m2,Aq,Ar,hm,J,ad.1,ad.2,yP,Jd,anh,N5,ah,bd,bj,aG]<;>try refine ab ?_ ?_)
    ·have I5:d*2^(20*i)<18446744073709551616:=by
      obtain rfl|rfl|rfl|rfl:i=0\/i=1\/i=2\/i=3:=by omega
      all_goals simp
      all_goals omega
     have tS:=anf u d (20*i) ix ⟨Fy,N4⟩ ad.1 I5;have Jw:0<=d*2^(20*i):=sA ad.1 (N2 (Fj (by omega)));have T9:IntKind.u64.wrap (d*2^(20*i))=d*2^(20*i):=yk _ ⟨Jw,I5⟩
     have yC:u+d*2^(20*i)<18446744073709551616:=by
      clear tS T9 Jw Fm qp abG ix r9;obtain rfl|rfl|rfl|rfl:i=0\/i=1\/i=2\/i=3:=by omega
      all_goals simp only[abI,abJ] at N4 I5 ⊢
      all_goals omega
     by_cases aa:((i:Int)==3)=true
     ·have T8:decide (d>8)=false:=me λh=>abH ⟨by simp at aa;omega,h⟩
      refine af ?_;repeat' (intro (ag:_=_)<;>simp only[ag,go_sem,go_sem_proc,fa,F,h0,m2,Aq,Ar,hm,J,ad.1,ad.2,yP,Jd,aa,T8,Fm,qp,if_false,lX,MH,T9,tS,ah,bd,bj,aG]<;>try refine ab ?_ ?_)
      exact⟨(i+1,u+d*2^(20*i)),by dsimp only;omega,by dsimp only;omega,by dsimp only;rw[r9,nk],yC,rfl,by rw[fJ _];rfl⟩
     ·have aa:((i:Int)==3)=false:=by simpa using aa
      refine af ?_;repeat' (intro (ag:_=_)<;>simp only[ag,go_sem,go_sem_proc,fa,F,h0,m2,Aq,Ar,hm,J,ad.1,ad.2,yP,Jd,aa,Fm,qp,if_false,lX,MH,T9,tS,ah,bd,bj,aG]<;>try refine ab ?_ ?_)
      exact⟨(i+1,u+d*2^(20*i)),by dsimp only;omega,by dsimp only;omega,by dsimp only;rw[r9,nk],yC,rfl,by rw[fJ _];rfl⟩
   ·have yP:decide ((i:Int)<(D l:Int))=false:=de;have js:i=D l:=by omega
    rw[js,mB,oJ] at hu;rcases O with ⟨O,qo⟩|⟨O,qo⟩|⟨O,qo⟩
    ·by_cases hr64:u<9223372036854775808
     ·rw[aJ (by unfold dX;omega)];have hw:IntKind.i64.wrap u=z:=by rw[wrap64 u (by omega) (by omega)];omega
      refine af ?_;repeat' (intro (ag:_=_)<;>simp only[ag,go_sem,go_sem_proc,fa,F,h0,m2,Aq,Ar,hm,yP,O,hr64,show decide ((1:Int)<0)=false from rfl,show decide ((1:Int)>=0)=true from rfl,show decide ((-1:Int)<0)=true from rfl,show decide ((-1:Int)>=0)=false from rfl,hw,decide_true,decide_false,ah]<;>try refine ab ?_ ?_)
     ·rw[aR (by unfold dX;omega)];refine af ?_;repeat' (intro (ag:_=_)<;>simp only[ag,go_sem,go_sem_proc,fa,F,h0,m2,Aq,Ar,hm,yP,O,hr64,show decide ((1:Int)<0)=false from rfl,show decide ((1:Int)>=0)=true from rfl,show decide ((-1:Int)<0)=true from rfl,show decide ((-1:Int)>=0)=false from rfl,decide_true,decide_false,ah]<;>try refine ab ?_ ?_)
    ·rw[aJ (by unfold dX;omega)];have anj:u=0:=by omega
     subst qo;subst anj;refine af ?_;repeat' (intro (ag:_=_)<;>simp only[ag,go_sem,go_sem_proc,fa,F,h0,m2,Aq,Ar,hm,yP,O,show decide ((0:Int)<0)=false from rfl,show decide ((0:Int)>=0)=true from rfl,show decide ((0:Int)<9223372036854775808)=true from rfl,show IntKind.i64.wrap 0=0 from rfl,show (0:Int).sign=0 from rfl,decide_true,decide_false,ah]<;>try refine ab ?_ ?_)
    ·by_cases hr64:u<=9223372036854775808
     ·rw[aJ (by unfold dX;omega)];have hw:=T6 (0-u) (by omega) (by omega)
      have gn:IntKind.i64.wrap (0-u+18446744073709551616)=z:=by
       simp[IntKind.wrap,IntKind.bits,IntKind.signed];omega
      refine af ?_;repeat' (intro (ag:_=_)<;>simp only[ag,go_sem,go_sem_proc,fa,F,h0,m2,Aq,Ar,hm,yP,O,hr64,show decide ((1:Int)<0)=false from rfl,show decide ((1:Int)>=0)=true from rfl,show decide ((-1:Int)<0)=true from rfl,show decide ((-1:Int)>=0)=false from rfl,hw,gn,decide_true,decide_false,ah]<;>try refine ab ?_ ?_)
     ·rw[aR (by unfold dX;omega)];refine af ?_;repeat' (intro (ag:_=_)<;>simp only[ag,go_sem,go_sem_proc,fa,F,h0,m2,Aq,Ar,hm,yP,O,hr64,show decide ((1:Int)<0)=false from rfl,show decide ((1:Int)>=0)=true from rfl,show decide ((-1:Int)<0)=true from rfl,show decide ((-1:Int)>=0)=false from rfl,decide_true,decide_false,ah]<;>try refine ab ?_ ?_)
  ·have T7:decide (((aF z.natAbs).length:Int)>4)=true:=c5
   have aA:¬ dX z:=by
    intro h;unfold dX at h;refine aX (fX.2 ?_);omega
   rw[aR aA];refine af ?_;repeat' (intro (ag:_=_)<;>simp only[ag,go_sem,go_sem_proc,fa,L,U,T7,ah]<;>try refine ab ?_ ?_)
 ·have L:cI (s,l)=false:=by simpa using L
  have Z:wY (s,l)=(0,false):=by unfold wY;rw[aR];rw[L];simp
  rw[Z];refine af ?_;repeat' (intro (ag:_=_)<;>simp only[ag,go_sem,go_sem_proc,fa,L,U]<;>try refine ab ?_ ?_)
def abK:bE:=bT 35 1 [.t 2] (M [ck 1 116001 0,bW 2 false] (.seq (M [aC 5 0 1,aB 6 2 5,c6 7 kF 6,dS 8 7,E 9 8,fq 10 9 2 1,hv 11 9 2 10,fr 12 9 (.call kF [.t 11]),ib 13 9 12,cD 14 9 13,E 15 14,fq 16 15 2 1,fq 17 15 0 16,fz 18 15 1 17,gM 19 15 .neq 18 1,cD 20 15 19] (bO 20 [bW 2 false])) (M [aC 22 0 1,aB 23 2 22,aC 24 2 1,aB 25 2 24,bI 26 ID 23 25,E 21 26,aN 27 0 21,aN 28 1 21,bP 3 116003 c4,aZ 2 3 27,E 4 28] (M [E 29 4,bb 30 .eql 29 0,E 31 30,B9 32 31 2 3,fA 33 31 (.call SA [.t 32]),fE 34 31 33,E 2 34] .ret))))
def abL:bE:=bT 46 2 [.cell 4 4 true,.t 5] (M [ck 2 119002 0,ck 3 119003 1,bP 4 119004 cK,a8 5 0] (.seq (M [aB 10 4 2,c6 11 mu 10,dS 12 11,E 13 12,hv 14 13 4 3,fr 15 13 (.call mu [.t 14]),ib 16 13 15,cD 17 13 16] (bO 17 [az 18 (.build cK []),aZ 4 4 18,a8 5 1])) (M [aC 20 0 2,aB 21 2 20,aC 22 2 3,aB 23 2 22,aC 24 0 3,aB 25 2 24,aC 26 2 2,aB 27 2 26,oU 28 SB 21 23 25 27,E 19 28,aN 29 0 19,aN 30 1 19,bP 6 119006 c4,aZ 2 6 29,E 7 30] (M [aC 32 2 2,aB 33 2 32,aC 34 2 3,aB 35 2 34,bI 36 tI 33 35,E 31 36,aN 37 0 31,aN 38 1 31,bP 8 119008 c4,aZ 2 8 37,E 9 38] (M [aB 39 2 6,E 40 7,aB 41 2 8,E 42 9,oU 43 BU 39 40 41 42,aN 44 0 43,aN 45 1 43,aZ 4 4 44,E 5 45] .ret)))))
def abM:bE:=bT 13 2 [.cell 4 4 true,.t 5] (M [bP 4 130004 cK,a8 5 0] (M [E 6 0,c6 7 Nn 6,E 8 1,c6 9 Nn 8,bI 10 IF 7 9,aN 11 0 10,aN 12 1 10,aZ 4 4 11,E 5 12] .ret))
def abN:bE:=bT 25 2 [.cell 4 4 true,.t 5] (M [ck 2 132002 0,ck 3 132003 1,bP 4 132004 cK,a8 5 0] (.seq (M [aB 6 4 2,c6 7 mu 6,dS 8 7,E 9 8,hv 10 9 4 3,fr 11 9 (.call mu [.t 10]),ib 12 9 11,cD 13 9 12] (bO 13 [az 14 (.build cK []),aZ 4 4 14,a8 5 1])) (e2 [aB 15 4 2,aC 16 0 3,aB 17 2 16,c6 18 EP 17,aC 19 2 3,aB 20 2 19,az 21 (.build cK [(0,2,.t 18),(2,2,.t 20)]),bI 22 BS 15 21,aN 23 0 22,aN 24 1 22,aZ 4 4 23,E 5 24] ZU .ret)))
def abO:bE:=bT 42 2 [.cell 4 4 true,.t 5] (M [ck 2 134002 0,ck 3 134003 1,bP 4 134004 cK,a8 5 0] (.seq (M [aB 10 4 2,c6 11 mu 10,dS 12 11,E 13 12,hv 14 13 4 3,fr 15 13 (.call mu [.t 14]),ib 16 13 15,cD 17 13 16] (bO 17 [az 18 (.build cK []),aZ 4 4 18,a8 5 1])) (M [aC 20 0 2,aB 21 2 20,aC 22 0 3,aB 23 2 22,bI 24 tI 21 23,E 19 24,aN 25 0 19,aN 26 1 19,bP 6 134006 c4,aZ 2 6 25,E 7 26] (M [aC 28 2 2,aB 29 2 28,aC 30 2 3,aB 31 2 30,bI 32 tI 29 31,E 27 32,aN 33 0 27,aN 34 1 27,bP 8 134008 c4,aZ 2 8 33,E 9 34] (M [aB 35 2 6,E 36 7,aB 37 2 8,E 38 9,oU 39 BU 35 36 37 38,aN 40 0 39,aN 41 1 39,aZ 4 4 40,E 5 41] .ret)))))
def abP:bE:=bT 78 2 [.t 4] (M [ck 2 135002 0,ck 3 135003 1,a8 4 0] (.seq (M [aB 17 4 2,c6 18 mu 17,dS 19 18,E 20 19,hv 21 20 4 3,fr 22 20 (.call mu [.t 21]),ib 23 20 22,cD 24 20 23] (bO 24 [a8 4 0])) (e2 [aC 25 0 2,aB 26 2 25,aC 27 2 2,aB 28 2 27,aC 29 0 3,aB 30 2 29,aC 31 2 3,aB 32 2 31,bP 5 135005 c4,bP 6 135006 c4,bP 7 135007 c4,bP 8 135008 c4,aZ 2 5 26,aZ 2 6 28,aZ 2 7 30,aZ 2 8 32] [[],[],[],[],[],[],[],[],[1,3,5,7],[1,3,5,7,8],[1,3,5,7,8,9],[1,3,5,7,8,9,10],[3,5,7],[5,7],[7],[]] (M [a8 9 1] (dT 0 (.seq (.block 1 (M [aB 36 2 5,aB 37 2 6,bI 38 BV 36 37,E 35 38,aN 39 0 35,aN 40 1 35,aN 41 2 35,bP 10 135010 c4,bP 11 135011 c4,aZ 2 10 39,aZ 2 11 40,E 12 41] (M [aB 43 2 7,aB 44 2 8,bI 45 BV 43 44,E 42 45,aN 46 0 42,aN 47 1 42,aN 48 2 42,bP 13 135013 c4,bP 14 135014 c4,aZ 2 13 46,aZ 2 14 47,E 15 48] (.seq (M [aB 49 2 10,aB 50 2 13,bI 51 SG 49 50,E 16 51] (.block 2 (M [E 53 16,bb 54 .neq 53 0,E 52 54] (fi 52 (M [E 55 9,E 56 16,br 57 .mul 55 56,E 4 57] .ret) (M [aC 59 0 11,aH 60 1 59,bb 61 .eql 60 0,E 62 61,fq 63 62 0 14,fz 64 62 1 63,gM 65 62 .eql 64 0,cD 66 62 65,E 58 66] (bO 58 [E 67 9,aC 68 0 11,aH 69 1 68,aC 70 0 14,aH 71 1 70,br 72 .sub 69 71,br 73 .mul 67 72,E 4 73])))))) (.mN [aB 74 2 6,aB 75 2 11,aB 76 2 8,aB 77 2 14,aZ 2 5 74,aZ 2 6 75,aZ 2 7 76,aZ 2 8 77] [[],[],[],[],[1,2,3],[2,3],[3],[]]))))) (.ops [E 33 9,az 34 (.un .neg (.t 33)),E 9 34])))))))
def abQ:bE:=bT 15 1 [.t 2] (M [ck 1 138001 0,bW 2 false] (M [aB 6 2 1,c6 7 SH 6,E 5 7,aN 8 0 5,aN 9 1 5,E 3 8,E 4 9] (M [E 10 4,E 11 10,eu 12 11 3,kj 13 11 .eql 12 1,fE 14 11 13,E 2 14] .ret)))
def abR:bE:=bT 38 4 [.cell 8 2 true,.t 9] (M [ck 4 139004 0,ck 5 139005 1,ck 6 139006 2,ck 7 139007 3,bP 8 139008 c4,a8 9 0] (M [aB 14 2 4,aB 15 2 5,bI 16 tI 14 15,E 13 16,aN 17 0 13,aN 18 1 13,bP 10 139010 c4,aZ 2 10 17,E 11 18] (.seq (M [E 19 11,bb 20 .neq 19 0] (bO 20 [az 21 (.build c4 []),E 22 11,aZ 2 8 21,E 9 22])) (M [aB 24 2 6,aB 25 2 7,bI 26 tI 24 25,E 23 26,aN 27 0 23,aN 28 1 23,bP 12 139012 c4,aZ 2 12 27,E 11 28] (.seq (M [E 29 11,bb 30 .neq 29 0] (bO 30 [az 31 (.build c4 []),E 32 11,aZ 2 8 31,E 9 32])) (M [aB 33 2 10,aB 34 2 12,bI 35 SI 33 34,aN 36 0 35,aN 37 1 35,aZ 2 8 36,E 9 37] .ret))))))
def abS:bE:=bT 22 4 [.cell 8 4 true,.t 9] (M [ck 4 141004 0,ck 6 141006 2,bP 8 141008 cK,a8 9 0] (.seq (M [E 10 1,bb 11 .neq 10 0,E 12 11,dJ 13 12 3,gM 14 12 .neq 13 0,cD 15 12 14] (bO 15 [az 16 (.build cK []),aZ 4 8 16,a8 9 6])) (M [aB 17 2 4,aB 18 2 6,bI 19 IF 17 18,aN 20 0 19,aN 21 1 19,aZ 4 8 20,E 9 21] .ret)))
def abT:bE:=bT 60 2 [.cell 4 4 true,.t 5] (M [ck 2 149002 0,ck 3 149003 1,bP 4 149004 cK,a8 5 0] (.seq (.block 0 (M [aB 15 2 2,c6 16 kF 15,dS 17 16,E 18 17,hv 19 18 2 3,fr 20 18 (.call kF [.t 19]),ib 21 18 20,cD 22 18 21,E 14 22] (fi 14 (M [az 23 (.build cK []),aZ 4 4 23,a8 5 1] .ret) (M [aC 25 0 3,aH 26 1 25,bb 27 .eql 26 0,E 24 27] (fi 24 (M [az 28 (.build cK []),aZ 4 4 28,a8 5 15] .ret) (M [aC 30 0 3,aH 31 1 30,bb 32 .lss 31 0,E 29 32] (fi 29 (.mN [aB 33 2 2,c6 34 EP 33,aB 35 2 3,c6 36 EP 35,aZ 2 2 34,aZ 2 3 36] Nw) .skip))))))) (M [aB 38 2 2,aB 39 2 3,bI 40 ID 38 39,E 37 40,aN 41 0 37,aN 42 1 37,bP 6 149006 c4,aZ 2 6 41,E 7 42] (M [aB 44 2 2,aB 45 2 6,bI 46 BV 44 45,E 43 46,aN 47 0 43,aN 48 1 43,aN 49 2 43,bP 8 149008 c4,bP 9 149009 c4,aZ 2 8 47,aZ 2 9 48,E 10 49] (M [aB 51 2 3,aB 52 2 6,bI 53 BV 51 52,E 50 53,aN 54 0 50,aN 55 1 50,aN 56 2 50,bP 11 149011 c4,bP 12 149012 c4,aZ 2 11 54,aZ 2 12 55,E 13 56] (M [aB 57 2 8,aB 58 2 11,az 59 (.build cK [(0,2,.t 57),(2,2,.t 58)]),aZ 4 4 59,a8 5 0] .ret))))))
def abU:bE:=bT 49 2 [.cell 4 4 true,.t 5] (M [ck 2 169002 0,ck 3 169003 1,bP 4 169004 cK,a8 5 0] (.seq (.block 0 (M [aB 11 4 2,c6 12 mu 11,dS 13 12,E 14 13,hv 15 14 4 3,fr 16 14 (.call mu [.t 15]),ib 17 14 16,cD 18 14 17,E 10 18] (fi 10 (M [az 19 (.build cK []),aZ 4 4 19,a8 5 1] .ret) (M [aC 21 0 3,aC 22 0 21,aH 23 1 22,bb 24 .eql 23 0,E 20 24] (bO 20 [az 25 (.build cK []),aZ 4 4 25,a8 5 15]))))) (M [aC 27 0 2,aB 28 2 27,aC 29 2 3,aB 30 2 29,bI 31 tI 28 30,E 26 31,aN 32 0 26,aN 33 1 26,bP 6 169006 c4,aZ 2 6 32,E 7 33] (M [aC 35 2 2,aB 36 2 35,aC 37 0 3,aB 38 2 37,bI 39 tI 36 38,E 34 39,aN 40 0 34,aN 41 1 34,bP 8 169008 c4,aZ 2 8 40,E 9 41] (M [aB 42 2 6,E 43 7,aB 44 2 8,E 45 9,oU 46 BU 42 43 44 45,aN 47 0 46,aN 48 1 46,aZ 4 4 47,E 5 48] .ret)))))
abbrev av:=Raw×Raw
def ar (f:av):List Data:=[.int .i64 f.1.1,.ao (f.1.2.map aG),.int .i64 f.2.1,.ao (f.2.2.map aG)]
def cP (x:av×Int):Data:=.dp [.agg (ar x.1),.int .i64 x.2]
def ed (x:Rat):av:=(a9 x.num,a9 x.den)
def ns (x:Rat):Prop:=x.num.natAbs<cW/\x.den<cW
def bA:av:=((0,[]),(0,[]))
def cy (f:av):Bool:=cI f.1&&(cI f.2&&(f.2.1==1&&(gq (gO f.1).natAbs (gO f.2).natAbs==1)))
def yQ (f:av):Rat:=lA (gO f.1) (gO f.2)
def ank (x:Rat):yQ (ed x)=x:=by
 unfold yQ ed;rw[eJ,eJ,Jx]
def N6 {x y:Int}(h:a9 x=a9 y):x=y:=by rw[<-eJ x,h,eJ]
def den_pos (x:Rat):0<(x.den:Int):=Int.natCast_pos.2 x.den_pos
def anl {n:Int}(h:0<n):(a9 n).1=1:=gp h
def As (f:av):cy f=true↔∃x,ns x/\f=ed x:=by
 unfold cy;simp only[fe,beq_iff_eq]
 constructor
 ·rintro⟨F,G,aa,aX⟩;obtain⟨p,aP,aO⟩:=(ho _).1 F;obtain⟨q,aS,ax⟩:=(ho _).1 G;obtain⟨f1,f2⟩:=f;simp only at aO ax aa aX;subst aO ax;rw[eJ,eJ] at aX
  have T1:0<q:=by
   rcases kl q with ⟨_,h⟩|⟨e,_⟩|⟨e,_⟩
   ·exact h
   ·have:q.sign=1:=aa;omega
   ·have:q.sign=1:=aa;omega
  refine⟨⟨p,q.natAbs,by omega,aX⟩,⟨aP,aS⟩,?_⟩
  unfold ed;rw[show ((q.natAbs:Nat):Int)=q by omega]
 ·rintro⟨x,⟨F,G⟩,rfl⟩;have ad:(x.den:Int).natAbs<cW:=by rw[nr];exact G
  refine⟨jZ F,jZ ad,anl (den_pos x),?_⟩;unfold ed;rw[eJ,eJ,nr];exact x.reduced
def Cs {x:Rat}(h:ns x):cy (ed x)=true:=(As _).2 ⟨x,h,rfl⟩
def ru {x:Rat}(h:ns x):(x.den:Int).natAbs<cW:=by rw[nr];exact h.2
def jc {z:Int}(h:z.natAbs<cW):(aF z.natAbs).length<=1000000:=by have:=m4 h;omega
def Jy (a:Raw):Bool:=(wY a).2&&((wY a).1==1)
def anm {z:Int}(h:z.natAbs<cW):Jy (a9 z)=decide (z=1):=by
 unfold Jy wY;rw[jZ h,eJ]
 by_cases Z:dX z
 ·rw[aJ ⟨rfl,Z⟩];simp only[eZ]
  rfl
 ·rw[aR λh=>Z h.2];have:z≠1:=by rintro rfl;exact Z (by unfold dX;omega)
  simp[this]
def N7:=bG pJ λ(s,l)=>b8 (D l<=1000000) (.same (.bool (Jy (s,l))))
@[go_sem] def az6 (s l):=cj N7 rfl Ca (s,l) rfl
def ann (T:bg)(N8:T SH=aE N3):WF T abQ N7:=by
 refine b5 λ(s,l)=>cn λU=>⟨rfl,b4 ?_⟩;simp only[abQ,pJ,bV];unfold Jy;rcases h:(wY (s,l)).2
 ·simp only[go_sem,go_sem_proc,N8,U,h];repeat' (first|refine ab ?_ ?_|fail)<;>intro h<;>simp only[h,go_sem,go_sem_proc,N8,U,h]
 ·simp only[go_sem,go_sem_proc,N8,U,h];repeat' (first|refine ab ?_ ?_|fail)<;>intro h<;>simp only[h,go_sem,go_sem_proc,N8,U,h]
abbrev k4:Int×(List Int)×Int×(List Int)->List Data:=λ(s,l,s2,X)=>[.agg [.int .i64 s,.ao (l.map aG),.int .i64 s2,.ao (X.map aG)]]
def vh:=bG k4 λ(s,l,s2,X)=>b8 (D l<=1000000/\D X<=1000000) (.same (.bool (cy ((s,l),(s2,X)))))
def uc:∀a b,k4 a=k4 b->a=b:=by
  rintro⟨s1,hZ,tX,sG⟩ ⟨s2,X,tY,sH⟩ h;simp only[bj,Data.agg.injEq,Data.int.injEq,Data.ao.injEq] at h;exact cx h.1.1.2 (cx (map_inj fW _ _ h.1.2.1) (cx h.1.2.2.1.2 (map_inj fW _ _ h.1.2.2.2.1)))
@[go_sem] def az7 (s l s2 X):=cj vh rfl uc (s,l,s2,X) rfl
def ano (T:bg)(fa:T kF=aE tN)(wZ:T ID=aE Js)(N9:T SA=aE N7):WF T abK vh:=by
 refine b5 λ(s,l,s2,X)=>cn λU=>⟨rfl,b4 ?_⟩;simp only[abK,k4,bV];obtain⟨bq,bp⟩:=U
 by_cases L:cI (s,l)=true
 ·by_cases aU:cI (s2,X)=true
  ·by_cases O:s2=1
   ·obtain⟨x,J,e⟩:=(ho _).1 L;obtain⟨y,ai,ax⟩:=(ho _).1 aU
    have aL:mA (s,l) (s2,X)=(a9 ((gq x.natAbs y.natAbs:Nat):Int),0):=by
     unfold mA;rw[L,aU,e,ax,eJ,eJ];rfl
    have jT:=Fv J ai
    have a4:Jy (a9 ((gq x.natAbs y.natAbs:Nat):Int))=(gq x.natAbs y.natAbs==1):=by
     rw[anm (by rw[nr];exact jT)];rw[Bool.eq_iff_iff];simp;omega
    have tw:gO (s,l)=x:=by rw[e,eJ]
    have nE:gO (s2,X)=y:=by rw[ax,eJ]
    have ec:cy ((s,l),(s2,X))=(gq x.natAbs y.natAbs==1):=by
     show (cI (s,l)&&(cI (s2,X)&&((s2==1)&&(gq (gO (s,l)).natAbs (gO (s2,X)).natAbs==1))))=_;rw[L,aU,tw,nE,show (s2==1)=true by simpa using O]
     simp only[eZ]
    have Ua:((a9 ((gq x.natAbs y.natAbs:Nat):Int)).2).length<=1000000:=jc (by rw[nr];exact jT);rw[ec,<-a4];generalize a9 ((gq x.natAbs y.natAbs:Nat):Int)=bf at *;obtain⟨cH,cO⟩:=bf;have eG:(s2==1)=true:=by simpa using O
    refine af ?_;repeat' (intro h<;>simp only[h,go_sem,go_sem_proc,fa,wZ,N9,L,aU,bq,bp,eG,aL,Ua,en,b3,show ((0:Int)==0)=true from rfl]<;>try refine ab ?_ ?_)
   ·have ec:cy ((s,l),(s2,X))=false:=by unfold cy;simp[O]
    have eG:(s2==1)=false:=by simpa using O
    rw[ec];refine af ?_;repeat' (intro h<;>simp only[h,go_sem,go_sem_proc,fa,wZ,N9,L,aU,bq,bp,eG]<;>try refine ab ?_ ?_)
  ·have aU:cI (s2,X)=false:=by simpa using aU
   have ec:cy ((s,l),(s2,X))=false:=by unfold cy;simp[aU]
   rw[ec];refine af ?_;repeat' (intro h<;>simp only[h,go_sem,go_sem_proc,fa,wZ,N9,L,aU,bq,bp]<;>try refine ab ?_ ?_)
 ·have L:cI (s,l)=false:=by simpa using L
  have ec:cy ((s,l),(s2,X))=false:=by unfold cy;simp[L]
  rw[ec];refine af ?_;repeat' (intro h<;>simp only[h,go_sem,go_sem_proc,fa,wZ,N9,L,bq,bp]<;>try refine ab ?_ ?_)
def ie (p q:Raw):av×Int :=
 if (cI p&&cI q)=true then (if gO q=0 then (bA,15) else (ed (lA (gO p) (gO q)),0)) else (bA,1)
def Fz {p q:Int}(aP:p.natAbs<cW)(aS:q.natAbs<cW)(aq:q≠0):ie (a9 p) (a9 q)=(ed (lA p q),0):=by
 unfold ie;rw[jZ aP,jZ aS,eJ,eJ,aJ (by rfl),aR aq]
def Ub {p q:Int}(aS:0<q):(lA p q).num=p.fdiv ((gq p.natAbs q.natAbs:Nat):Int)/\((lA p q).den:Int)=q.fdiv ((gq p.natAbs q.natAbs:Nat):Int):=by
 rw[Rat.num_divInt,Rat.den_divInt,aR (by omega),gp aS,oj];have aL:q.gcd p=gq p.natAbs q.natAbs:=by rw[Int.gcd_comm];rfl
 rw[aL];have aq:(0:Int)<=((gq p.natAbs q.natAbs:Nat):Int):=Int.natCast_nonneg _;rw[Uc _ aq,Uc _ aq];refine⟨rfl,?_⟩;rw[Int.natCast_ediv]
 congr 1
 omega
def Ud {p q:Int}(aS:q≠0):0<gq p.natAbs q.natAbs:=Nat.gcd_pos_of_pos_right _ (by omega)
def anp {p q:Int}(aP:p.natAbs<cW)(aS:q.natAbs<cW):ns (lA p q):=by
 have main:∀{p q:Int},p.natAbs<cW->q.natAbs<cW->0<q->ns (lA p q):=by
  intro p q aP aS aq;obtain⟨F,G⟩:=Ub (p:=p) aq;have aL:=Ud (p:=p) (q:=q) (by omega);refine⟨?_,?_⟩
  ·rw[F];exact Fw aP (by omega)
  ·have:=Fw (y:=((gq p.natAbs q.natAbs:Nat):Int)) aS (by omega);rw[<-G,nr] at this;exact this
 rcases oX q 0 with h|h|h
 ·rw[<-abV];exact main (by omega) (by omega) (by omega)
 ·subst h;rw[Rat.divInt_zero];unfold ns cW;exact⟨Nat.pow_pos (by omega),Nat.one_lt_pow (by omega) (by omega)⟩
 ·exact main aP aS h
def Jz:=bG iO λ(s,l,s2,X)=>b8 (D l<=1000000/\D X<=1000000) (.same (cP (ie (s,l) (s2,X))))
@[go_sem] def az8 (s l s2 X):=cj Jz rfl qI (s,l,s2,X) rfl
def anq (T:bg)(fa:T kF=aE tN)(yR:T EP=aE Jn)(wZ:T ID=aE Js)(pQ:T BV=aE Jv):WF T abT Jz:=by
 refine b5 λ(s,l,s2,X)=>cn λU=>⟨rfl,b4 ?_⟩;simp only[abT,iO,bV];obtain⟨bq,bp⟩:=U
 by_cases L:cI (s,l)=true
 ·by_cases aU:cI (s2,X)=true
  ·obtain⟨x,J,e⟩:=(ho _).1 L;obtain⟨y,ai,ax⟩:=(ho _).1 aU
   by_cases aq:y=0
   ·have hm:ie (s,l) (s2,X)=(bA,15):=by
     unfold ie;rw[L,aU,ax,eJ,aJ (by rfl),aJ aq]
    rw[hm]
    cases e
    cases ax;have O:(y.sign==0)=true:=by rw[aq];rfl
    refine af ?_;repeat' (intro h<;>simp only[h,go_sem,go_sem_proc,fa,yR,wZ,pQ,L,aU,bq,bp,O,cP,ar,bA,bN]<;>try refine ab ?_ ?_)
   ·have main:∀p q:Int,p.natAbs<cW->q.natAbs<cW->0<q->∃g:Raw,mA (a9 p) (a9 q)=(g,0)/\g.2.length<=1000000/\l1 (a9 p) g=(a9 (lA p q).num,a9 (p.fmod ((gq p.natAbs q.natAbs:Nat):Int)),0)/\l1 (a9 q) g=(a9 (lA p q).den,a9 (q.fmod ((gq p.natAbs q.natAbs:Nat):Int)),0):=by
     intro p q aP aS lZ;have jT:=Fv aP aS;have Ct:((gq p.natAbs q.natAbs:Nat):Int).natAbs<cW:=by rw[nr];exact jT
     have rp:=Ud (p:=p) (q:=q) (by omega);obtain⟨F,G⟩:=Ub (p:=p) lZ;refine⟨a9 ((gq p.natAbs q.natAbs:Nat):Int),?_,jc Ct,?_,?_⟩
     ·unfold mA;rw[jZ aP,jZ aS,eJ,eJ];rfl
     ·rw[yL aP Ct (by omega),F]
     ·rw[yL aS Ct (by omega),G]
    have rv:(y.sign==0)=false:=by simpa using aq
    rcases Int.lt_or_gt_of_ne aq with l0|h3
    ·have ft:decide (y.sign<0)=true:=by rw[kJ l0];rfl
     obtain⟨⟨cH,cO⟩,aL,jT,jY,nQ⟩:=main (-x) (-y) (by omega) (by omega) (by omega)
     have hm:ie (s,l) (s2,X)=(ed (lA (-x) (-y)),0):=by
      rw[e,ax,Fz J ai aq,abV]
     rw[hm];have uM:hx (s,l)=a9 (-x):=by unfold hx;rw[aJ L,e,eJ]
     have qi:hx (s2,X)=a9 (-y):=by unfold hx;rw[aJ aU,ax,eJ]
     have sL:s2=y.sign:=congrArg nt ax;have ek:(a9 (-x)).2.length<=1000000:=jc (by omega);have eP:(a9 (-y)).2.length<=1000000:=jc (by omega);clear e ax;unfold ed;generalize a9 (-x)=c7 at *;generalize a9 (-y)=nq at *;obtain⟨dz,dI⟩:=c7;obtain⟨og,qC⟩:=nq;rw[<-sL] at rv ft;refine af ?_;repeat' (intro h<;>simp only[h,go_sem,go_sem_proc,fa,yR,wZ,pQ,L,aU,bq,bp,rv,ft,uM,qi,ek,eP,aL,jT,jY,nQ,cP,ar,en,km,b3]<;>try refine ab ?_ ?_)
    ·have ft:decide (y.sign<0)=false:=by rw[gp h3];rfl
     obtain⟨⟨cH,cO⟩,aL,jT,jY,nQ⟩:=main x y J ai h3
     have hm:ie (s,l) (s2,X)=(ed (lA x y),0):=by
      rw[e,ax,Fz J ai aq]
     rw[hm];have sL:s2=y.sign:=congrArg nt ax;rw[<-e] at aL jY;rw[<-ax] at aL nQ;rw[<-sL] at rv ft;unfold ed;refine af ?_;repeat' (intro h<;>simp only[h,go_sem,go_sem_proc,fa,yR,wZ,pQ,L,aU,bq,bp,rv,ft,aL,jT,jY,nQ,cP,ar,en,km,b3]<;>try refine ab ?_ ?_)
  ·have aU:cI (s2,X)=false:=by simpa using aU
   have hm:ie (s,l) (s2,X)=(bA,1):=by unfold ie;rw[aU,Bool.and_false];rfl
   rw[hm];refine af ?_;repeat' (intro h<;>simp only[h,go_sem,go_sem_proc,fa,yR,wZ,pQ,L,aU,bq,bp,cP,ar,bA,bN]<;>try refine ab ?_ ?_)
 ·have L:cI (s,l)=false:=by simpa using L
  have hm:ie (s,l) (s2,X)=(bA,1):=by unfold ie;rw[L,Bool.false_and];rfl
  rw[hm];refine af ?_;repeat' (intro h<;>simp only[h,go_sem,go_sem_proc,fa,yR,wZ,pQ,L,bq,bp,cP,ar,bA,bN]<;>try refine ab ?_ ?_)
def FA:=bG wK λ(p,q)=>b8 (dX p/\dX q) (.same (cP (ie (a9 p) (a9 q))))
@[go_sem] def anr (p q):=cj FA rfl NF (p,q) rfl
def ans (T:bg)(ant:T Nn=aE N1)(JA:T IF=aE Jz):WF T abM FA:=by
 refine b5 λ(p,q)=>cn λU=>⟨rfl,b4 ?_⟩;simp only[abM,wK,bV];obtain⟨F,G⟩:=U;have hZ:(a9 p).2.length<=1000000:=jc (yO F);have X:(a9 q).2.length<=1000000:=jc (yO G);generalize dU:a9 p=P at *;generalize e5:a9 q=a3 at *;obtain⟨dz,dI⟩:=P;obtain⟨og,qC⟩:=a3;refine af ?_;repeat' (intro h<;>simp only[h,go_sem,go_sem_proc,ant,JA,F,G,dU,e5,hZ,X,b3,cP,ar]<;>try refine ab ?_ ?_)
def w0 (a b c d:Raw):Raw×Int :=
 if ((mulR a b).2==0)=true then (if ((mulR c d).2==0)=true then lz (mulR a b).1 (mulR c d).1 else ((0,[]),(mulR c d).2)) else ((0,[]),(mulR a b).2)
def abW (z:Int):(nR z).1.2.length<=1000000:=by
 unfold nR
 split
 ·exact jc (by assumption)
 ·simp
def o0 (a b:Raw):(mulR a b).1.2.length<=1000000:=by
 unfold mulR
 split
 ·exact abW _
 ·simp
def Ue (a b:Raw):(lz a b).1.2.length<=1000000:=by
 unfold lz
 split
 ·exact abW _
 ·simp
def anu (a b c d:Raw):(w0 a b c d).1.2.length<=1000000:=by
 unfold w0
 split
 ·split
  ·exact Ue _ _
  ·simp
 ·simp
abbrev Oa:Int×(List Int)×Int×(List Int)×Int×(List Int)×Int×(List Int)->List Data:=λ(s,l,s2,X,bS,bZ,bU,bX)=>[.agg [.int .i64 s,.ao (l.map aG)],.agg [.int .i64 s2,.ao (X.map aG)],.agg [.int .i64 bS,.ao (bZ.map aG)],.agg [.int .i64 bU,.ao (bX.map aG)]]
def Ob:=bG Oa λ(s,l,s2,X,bS,bZ,bU,bX)=>b8 (D l<=1000000/\D X<=1000000/\D bZ<=1000000/\D bX<=1000000) (.same (en (w0 (s,l) (s2,X) (bS,bZ) (bU,bX))))
def anv:∀a b,Oa a=Oa b->a=b:=by
  rintro⟨s1,hZ,tX,sG,anw,anx,anz,anA⟩ ⟨s2,X,tY,sH,anB,anC,anD,anE⟩ h;simp only[bj,Data.agg.injEq,Data.int.injEq,Data.ao.injEq] at h;exact cx h.1.1.2 (cx (map_inj fW _ _ h.1.2.1) (cx h.2.1.1.2 (cx (map_inj fW _ _ h.2.1.2.1) (cx h.2.2.1.1.2 (cx (map_inj fW _ _ h.2.2.1.2.1) (cx h.2.2.2.1.1.2 (map_inj fW _ _ h.2.2.2.1.2.1)))))))
@[go_sem] def az9 (s l s2 X bS bZ bU bX):=cj Ob rfl anv (s,l,s2,X,bS,bZ,bU,bX) rfl
def anF (T:bg)(pR:T tI=aE Cl)(Uf:T SI=aE NW):WF T abR Ob:=by
 refine b5 λ(s,l,s2,X,bS,bZ,bU,bX)=>cn λU=>⟨rfl,b4 ?_⟩;simp only[abR,Oa,bV];obtain⟨bq,bp,ek,eP⟩:=U;have aW:=o0 (s,l) (s2,X);have bY:=o0 (bS,bZ) (bU,bX);unfold w0;generalize iB:mulR (s,l) (s2,X)=jd at *;generalize j0:mulR (bS,bZ) (bU,bX)=M2 at *;obtain⟨⟨dw,dV⟩,aO⟩:=jd;obtain⟨⟨bR,cz⟩,ax⟩:=M2;rcases F:(aO==0)
 ·refine af ?_;repeat' (intro h<;>simp only[h,go_sem,go_sem_proc,pR,Uf,bq,bp,ek,eP,iB,F,aW,bY,en,b3,bN]<;>try refine ab ?_ ?_)
 ·have iP:aO=0:=by simpa using F
  subst iP;rcases G:(ax==0)
  ·refine af ?_;repeat' (intro h<;>simp only[h,go_sem,go_sem_proc,pR,Uf,bq,bp,ek,eP,iB,j0,F,G,aW,bY,en,b3,bN]<;>try refine ab ?_ ?_)
  ·have je:ax=0:=by simpa using G
   subst je;refine af ?_;repeat' (intro h<;>simp only[h,go_sem,go_sem_proc,pR,Uf,bq,bp,ek,eP,iB,j0,F,aW,bY,en,b3,bN]<;>try refine ab ?_ ?_)
def vi (p:Raw×Int)(q:Raw×Int):av×Int:=if (p.2==0)=true then (if (q.2==0)=true then ie p.1 q.1 else (bA,6)) else (bA,6)
abbrev Oc:Int×(List Int)×Int×Int×(List Int)×Int->List Data:=λ(s,l,e,s2,X,ax)=>[.agg [.int .i64 s,.ao (l.map aG)],.int .i64 e,.agg [.int .i64 s2,.ao (X.map aG)],.int .i64 ax]
def FB:=bG Oc λ(s,l,e,s2,X,ax)=>b8 (D l<=1000000/\D X<=1000000) (.same (cP (vi ((s,l),e) ((s2,X),ax))))
def anG:∀a b,Oc a=Oc b->a=b:=by
  rintro⟨s1,hZ,aO,tX,sG,Od⟩ ⟨s2,X,ax,tY,sH,aAa⟩ h;simp only[bj,Data.agg.injEq,Data.int.injEq,Data.ao.injEq] at h;exact cx h.1.1.2 (cx (map_inj fW _ _ h.1.2.1) (cx h.2.1.2 (cx h.2.2.1.1.2 (cx (map_inj fW _ _ h.2.2.1.2.1) h.2.2.2.1.2))))
@[go_sem] def aAb (s l e s2 X ax):=cj FB rfl anG (s,l,e,s2,X,ax) rfl
def anH (T:bg)(JA:T IF=aE Jz):WF T abS FB:=by
 refine b5 λ(s,l,e,s2,X,ax)=>cn λU=>⟨rfl,b4 ?_⟩;simp only[abS,Oc,bV];obtain⟨bq,bp⟩:=U;unfold vi;rcases F:(e==0)
 ·refine af ?_;repeat' (intro h<;>simp only[h,go_sem,go_sem_proc,JA,bq,bp,F,cP,ar,bA,bN]<;>try refine ab ?_ ?_)
 ·have iP:e=0:=by simpa using F
  subst iP;rcases G:(ax==0)
  ·refine af ?_;repeat' (intro h<;>simp only[h,go_sem,go_sem_proc,JA,bq,bp,F,G,cP,ar,bA,bN]<;>try refine ab ?_ ?_)
  ·have je:ax=0:=by simpa using G
   subst je;refine af ?_;repeat' (intro h<;>simp only[h,go_sem,go_sem_proc,JA,bq,bp,F,cP,ar,bA,bN]<;>try refine ab ?_ ?_)
def ou (a b:av):av×Int:=if cy a=true then (if cy b=true then vi (w0 a.1 b.2 b.1 a.2) (mulR a.2 b.2) else (bA,1)) else (bA,1)
def kn (a b:av):av×Int:=if cy a=true then (if cy b=true then ou a (hx b.1,b.2) else (bA,1)) else (bA,1)
def iC (a b:av):av×Int:=if cy a=true then (if cy b=true then vi (mulR a.1 b.1) (mulR a.2 b.2) else (bA,1)) else (bA,1)
def fK (a b:av):av×Int:=if cy a=true then (if cy b=true then (if (b.1.1==0)=true then (bA,15) else vi (mulR a.1 b.2) (mulR a.2 b.1)) else (bA,1)) else (bA,1)
def anI (a:Raw)(h:a.2.length<=1000000):(hx a).2.length<=1000000:=by
 unfold hx
 split
 ·rename_i L;obtain⟨z,a0,e⟩:=(ho _).1 L;rw[e,eJ];exact jc (by omega)
 ·simp
abbrev lB:Int×(List Int)×Int×(List Int)×Int×(List Int)×Int×(List Int)->List Data:=λ(s,l,s2,X,bS,bZ,bU,bX)=>[.agg [.int .i64 s,.ao (l.map aG),.int .i64 s2,.ao (X.map aG)],.agg [.int .i64 bS,.ao (bZ.map aG),.int .i64 bU,.ao (bX.map aG)]]
def Cu:=bG lB λ(s,l,s2,X,bS,bZ,bU,bX)=>b8 (D l<=1000000/\D X<=1000000/\D bZ<=1000000/\D bX<=1000000) (.same (cP (ou ((s,l),(s2,X)) ((bS,bZ),(bU,bX)))))
def vj:∀a b,lB a=lB b->a=b:=by
  rintro⟨s1,hZ,tX,sG,anw,anx,anz,anA⟩ ⟨s2,X,tY,sH,anB,anC,anD,anE⟩ h;simp only[bj,Data.agg.injEq,Data.int.injEq,Data.ao.injEq] at h;exact cx h.1.1.2 (cx (map_inj fW _ _ h.1.2.1) (cx h.1.2.2.1.2 (cx (map_inj fW _ _ h.1.2.2.2.1) (cx h.2.1.1.2 (cx (map_inj fW _ _ h.2.1.2.1) (cx h.2.1.2.2.1.2 (map_inj fW _ _ h.2.1.2.2.2.1)))))))
@[go_sem] def anJ (s l s2 X bS bZ bU bX):=cj Cu rfl vj (s,l,s2,X,bS,bZ,bU,bX) rfl
def anK (T:bg)(ig:T mu=aE vh)(Ug:T SB=aE Ob)(pR:T tI=aE Cl)(ud:T BU=aE FB):WF T abL Cu:=by
 refine b5 λ(s,l,s2,X,bS,bZ,bU,bX)=>cn λU=>⟨rfl,b4 ?_⟩;simp only[abL,lB,bV];obtain⟨bq,bp,ek,eP⟩:=U;unfold ou
 by_cases L:cy ((s,l),(s2,X))=true
 ·by_cases aU:cy ((bS,bZ),(bU,bX))=true
  ·have aW:=anu (s,l) (bU,bX) (bS,bZ) (s2,X);have bY:=o0 (s2,X) (bU,bX);rw[aJ L,aJ aU];dsimp only;generalize iB:w0 (s,l) (bU,bX) (bS,bZ) (s2,X)=jd at *;generalize j0:mulR (s2,X) (bU,bX)=M2 at *;obtain⟨⟨dw,dV⟩,aO⟩:=jd;obtain⟨⟨bR,cz⟩,ax⟩:=M2;refine af ?_;repeat' (intro h<;>simp only[h,go_sem,go_sem_proc,ig,Ug,pR,ud,bq,bp,ek,eP,L,aU,iB,j0,aW,bY,en,b3,cP,ar]<;>try refine ab ?_ ?_)
  ·have aU:cy ((bS,bZ),(bU,bX))=false:=by simpa using aU
   rw[aJ L,aR (by simp[aU])];refine af ?_;repeat' (intro h<;>simp only[h,go_sem,go_sem_proc,ig,Ug,pR,ud,bq,bp,ek,eP,L,aU,cP,ar,bA,bN]<;>try refine ab ?_ ?_)
 ·have L:cy ((s,l),(s2,X))=false:=by simpa using L
  rw[aR (by simp[L])];refine af ?_;repeat' (intro h<;>simp only[h,go_sem,go_sem_proc,ig,Ug,pR,ud,bq,bp,ek,eP,L,cP,ar,bA,bN]<;>try refine ab ?_ ?_)
def Cv:=bG lB λ(s,l,s2,X,bS,bZ,bU,bX)=>b8 (D l<=1000000/\D X<=1000000/\D bZ<=1000000/\D bX<=1000000) (.same (cP (kn ((s,l),(s2,X)) ((bS,bZ),(bU,bX)))))
@[go_sem] def aAc (s l s2 X bS bZ bU bX):=cj Cv rfl vj (s,l,s2,X,bS,bZ,bU,bX) rfl
def anL (T:bg)(ig:T mu=aE vh)(yR:T EP=aE Jn)(FC:T BS=aE Cu):WF T abN Cv:=by
 refine b5 λ(s,l,s2,X,bS,bZ,bU,bX)=>cn λU=>⟨rfl,b4 ?_⟩;simp only[abN,lB,bV];obtain⟨bq,bp,ek,eP⟩:=U;unfold kn
 by_cases L:cy ((s,l),(s2,X))=true
 ·by_cases aU:cy ((bS,bZ),(bU,bX))=true
  ·have aW:=anI (bS,bZ) ek;rw[aJ L,aJ aU];dsimp only;generalize iB:hx (bS,bZ)=jd at *;obtain⟨dw,dV⟩:=jd;refine af ?_;repeat' (intro h<;>simp only[h,go_sem,go_sem_proc,ig,yR,FC,bq,bp,ek,eP,L,aU,iB,aW,en,b3,cP,ar]<;>try refine ab ?_ ?_)
  ·have aU:cy ((bS,bZ),(bU,bX))=false:=by simpa using aU
   rw[aJ L,aR (by simp[aU])];refine af ?_;repeat' (intro h<;>simp only[h,go_sem,go_sem_proc,ig,yR,FC,bq,bp,ek,eP,L,aU,cP,ar,bA,bN]<;>try refine ab ?_ ?_)
 ·have L:cy ((s,l),(s2,X))=false:=by simpa using L
  rw[aR (by simp[L])];refine af ?_;repeat' (intro h<;>simp only[h,go_sem,go_sem_proc,ig,yR,FC,bq,bp,ek,eP,L,cP,ar,bA,bN]<;>try refine ab ?_ ?_)
def yS:=bG lB λ(s,l,s2,X,bS,bZ,bU,bX)=>b8 (D l<=1000000/\D X<=1000000/\D bZ<=1000000/\D bX<=1000000) (.same (cP (iC ((s,l),(s2,X)) ((bS,bZ),(bU,bX)))))
@[go_sem] def anM (s l s2 X bS bZ bU bX):=cj yS rfl vj (s,l,s2,X,bS,bZ,bU,bX) rfl
def anN (T:bg)(ig:T mu=aE vh)(pR:T tI=aE Cl)(ud:T BU=aE FB):WF T abO yS:=by
 refine b5 λ(s,l,s2,X,bS,bZ,bU,bX)=>cn λU=>⟨rfl,b4 ?_⟩;simp only[abO,lB,bV];obtain⟨bq,bp,ek,eP⟩:=U;unfold iC
 by_cases L:cy ((s,l),(s2,X))=true
 ·by_cases aU:cy ((bS,bZ),(bU,bX))=true
  ·have aW:=o0 (s,l) (bS,bZ);have bY:=o0 (s2,X) (bU,bX);rw[aJ L,aJ aU];dsimp only;generalize iB:mulR (s,l) (bS,bZ)=jd at *;generalize j0:mulR (s2,X) (bU,bX)=M2 at *;obtain⟨⟨dw,dV⟩,aO⟩:=jd;obtain⟨⟨bR,cz⟩,ax⟩:=M2;refine af ?_;repeat' (intro h<;>simp only[h,go_sem,go_sem_proc,ig,pR,ud,bq,bp,ek,eP,L,aU,iB,j0,aW,bY,en,b3,cP,ar]<;>try refine ab ?_ ?_)
  ·have aU:cy ((bS,bZ),(bU,bX))=false:=by simpa using aU
   rw[aJ L,aR (by simp[aU])];refine af ?_;repeat' (intro h<;>simp only[h,go_sem,go_sem_proc,ig,pR,ud,bq,bp,ek,eP,L,aU,cP,ar,bA,bN]<;>try refine ab ?_ ?_)
 ·have L:cy ((s,l),(s2,X))=false:=by simpa using L
  rw[aR (by simp[L])];refine af ?_;repeat' (intro h<;>simp only[h,go_sem,go_sem_proc,ig,pR,ud,bq,bp,ek,eP,L,cP,ar,bA,bN]<;>try refine ab ?_ ?_)
def Cw:=bG lB λ(s,l,s2,X,bS,bZ,bU,bX)=>b8 (D l<=1000000/\D X<=1000000/\D bZ<=1000000/\D bX<=1000000) (.same (cP (fK ((s,l),(s2,X)) ((bS,bZ),(bU,bX)))))
@[go_sem] def anO (s l s2 X bS bZ bU bX):=cj Cw rfl vj (s,l,s2,X,bS,bZ,bU,bX) rfl
def anP (T:bg)(ig:T mu=aE vh)(pR:T tI=aE Cl)(ud:T BU=aE FB):WF T abU Cw:=by
 refine b5 λ(s,l,s2,X,bS,bZ,bU,bX)=>cn λU=>⟨rfl,b4 ?_⟩;simp only[abU,lB,bV];obtain⟨bq,bp,ek,eP⟩:=U;unfold fK
 by_cases L:cy ((s,l),(s2,X))=true
 ·by_cases aU:cy ((bS,bZ),(bU,bX))=true
  ·rw[aJ L,aJ aU];dsimp only;rcases aq:(bS==0)
   ·have aW:=o0 (s,l) (bU,bX);have bY:=o0 (s2,X) (bS,bZ);rw[aR (by simp)];generalize iB:mulR (s,l) (bU,bX)=jd at *;generalize j0:mulR (s2,X) (bS,bZ)=M2 at *;obtain⟨⟨dw,dV⟩,aO⟩:=jd;obtain⟨⟨bR,cz⟩,ax⟩:=M2;refine af ?_;repeat' (intro h<;>simp only[h,go_sem,go_sem_proc,ig,pR,ud,bq,bp,ek,eP,L,aU,aq,iB,j0,aW,bY,en,b3,cP,ar]<;>try refine ab ?_ ?_)
   ·rw[aJ rfl];refine af ?_;repeat' (intro h<;>simp only[h,go_sem,go_sem_proc,ig,pR,ud,bq,bp,ek,eP,L,aU,aq,cP,ar,bA,bN]<;>try refine ab ?_ ?_)
  ·have aU:cy ((bS,bZ),(bU,bX))=false:=by simpa using aU
   rw[aJ L,aR (by simp[aU])];refine af ?_;repeat' (intro h<;>simp only[h,go_sem,go_sem_proc,ig,pR,ud,bq,bp,ek,eP,L,aU,cP,ar,bA,bN]<;>try refine ab ?_ ?_)
 ·have L:cy ((s,l),(s2,X))=false:=by simpa using L
  rw[aR (by simp[L])];refine af ?_;repeat' (intro h<;>simp only[h,go_sem,go_sem_proc,ig,pR,ud,bq,bp,ek,eP,L,cP,ar,bA,bN]<;>try refine ab ?_ ?_)
def abX (c:Bool)(v:Rat):av×Int:=if c=true then (ed v,0) else (bA,6)
def iD (z:Int):Bool:=decide (z.natAbs<cW)
def FD (x y:Rat):Bool:=iD (x.num*y.den)&&(iD (y.num*x.den)&&(iD (x.num*y.den+y.num*x.den)&&iD ((x.den:Int)*y.den)))
def Uh (x y:Rat):Bool:=iD (x.num*y.num)&&iD ((x.den:Int)*y.den)
def Ui (x y:Rat):Bool:=iD (x.num*y.den)&&iD ((x.den:Int)*y.num)
def At {z:Int}(h:iD z=true):nR z=(a9 z,0):=aJ (by simpa [iD] using h)
def JB {z:Int}(h:iD z=false):nR z=((0,[]),6):=aR (by simpa [iD] using h)
def Au {z:Int}(h:iD z=true):z.natAbs<cW:=by simpa [iD] using h
def anQ {a b c d:Int}(ba:a.natAbs<cW)(R:b.natAbs<cW)(U:c.natAbs<cW)(ad:d.natAbs<cW):
  w0 (a9 a) (a9 b) (a9 c) (a9 d)=if (iD (a*b)&&(iD (c*d)&&iD (a*b+c*d)))=true then (a9 (a*b+c*d),0) else ((0,[]),6):=by
 unfold w0;rw[yH ba R,yH U ad];rcases F:iD (a*b)
 ·rw[JB F];rfl
 ·rw[At F];rcases G:iD (c*d)
  ·rw[JB G];rfl
  ·rw[At G];show lz (a9 (a*b)) (a9 (c*d))=_;rw[Jp (Au F) (Au G)];rcases aa:iD (a*b+c*d)
   ·rw[JB aa];rfl
   ·rw[At aa];rfl
def abY (x y:Rat):lA (x.num*y.den+y.num*x.den) ((x.den:Int)*y.den)=x+y:=by
 rw[<-Rat.divInt_add_divInt _ _ (by have:=den_pos x;omega) (by have:=den_pos y;omega),Jx,Jx]
def anR (x y:Rat):lA (x.num*y.num) ((x.den:Int)*y.den)=x*y:=by
 rw[<-Rat.divInt_mul_divInt,Jx,Jx]
def Cx (x:Rat):(x.den:Int)≠0:=by have:=den_pos x;omega
def anS {x y:Rat}(J:ns x)(ai:ns y):ou (ed x) (ed y)=abX (FD x y) (x+y):=by
 unfold ou;rw[aJ (Cs J),aJ (Cs ai)];show vi (w0 (a9 x.num) (a9 y.den) (a9 y.num) (a9 x.den)) (mulR (a9 x.den) (a9 y.den))=_;rw[anQ J.1 (ru ai) ai.1 (ru J),yH (ru J) (ru ai)];unfold FD;rcases F:iD (x.num*y.den)
 ·rfl
 ·rcases G:iD (y.num*x.den)
  ·rfl
  ·rcases aa:iD (x.num*y.den+y.num*x.den)
   ·rfl
   ·rcases aX:iD ((x.den:Int)*y.den)
    ·rw[JB aX];rfl
    ·rw[At aX];show ie (a9 (x.num*y.den+y.num*x.den)) (a9 ((x.den:Int)*y.den))=(ed (x+y),0)
     rw[Fz (Au aa) (Au aX) (Int.mul_ne_zero (Cx x) (Cx y)),abY]
def abZ {x:Rat}(h:ns x):ns (-x):=⟨by rw[Rat.neg_num];have:=h.1;omega,by rw[Rat.neg_den];exact h.2⟩
def anT {x y:Rat}(J:ns x)(ai:ns y):kn (ed x) (ed y)=abX (FD x (-y)) (x-y):=by
 unfold kn;rw[aJ (Cs J),aJ (Cs ai)]
 have:(hx (ed y).1,(ed y).2)=ed (-y):=by
  unfold ed;have:hx (a9 y.num)=a9 (-y.num):=by unfold hx;rw[aJ (jZ ai.1),eJ]
  dsimp only;rw[this];rfl
 rw[this,anS J (abZ ai),Rat.sub_eq_add_neg]
def Oe (x y:Rat):Int:=(x.num*y.den-y.num*x.den).sign
def lC (a b:av):Int:=if cy a=true then (if cy b=true then (gO a.1*gO b.2-gO b.1*gO a.2).sign else 0) else 0
def anU {x y:Rat}(J:ns x)(ai:ns y):lC (ed x) (ed y)=Oe x y:=by
 unfold lC;rw[aJ (Cs J),aJ (Cs ai)];unfold ed Oe;rw[eJ,eJ,eJ,eJ]
def Of {p q:Int}(aS:0<q):0<=p.fmod q/\p.fmod q<q:=⟨Int.fmod_nonneg_of_pos _ aS,Int.fmod_lt_of_pos _ aS⟩
def ab0 {p q r s:Int}(aS:0<q)(O:0<s)(h:p.fdiv q<r.fdiv s):p*s-r*q<0:=by
 have aO:=Og p q;have ax:=Og r s;have bR:=Of (p:=p) aS;have cz:=Of (p:=r) O;generalize p.fdiv q=x at *;generalize r.fdiv s=y at *;generalize p.fmod q=u at *;generalize r.fmod s=v at *;subst aO ax;have F:q*s*(x+1)<=q*s*y:=Int.mul_le_mul_of_nonneg_left (by omega) (N2 (Int.mul_pos aS O));have G:u*s<q*s:=Int.mul_lt_mul_of_pos_right bR.2 O;have aa:0<=v*q:=sA cz.1 (by omega);have eS:(q*x+u)*s-(s*y+v)*q=q*s*(x+1)-q*s*y+(u*s-q*s)-v*q:=by grind
 omega
def anV {p q r s:Int}(h:p.fdiv q=r.fdiv s):p*s-r*q=p.fmod q*s-r.fmod s*q:=by
 have aO:=Og p q;have ax:=Og r s;rw[h] at aO;generalize r.fdiv s=y at *;generalize p.fmod q=u at *;generalize r.fmod s=v at *;subst aO ax;grind
def ab1 (a b:Int):(a-b).sign = -(b-a).sign:=by rw[<-yG];congr 1;omega
def ab2 {p q:Int}(aP:p.natAbs<cW)(aS:q.natAbs<cW)(aq:0<q):
  l1 (p.sign,aF p.natAbs) (q.sign,aF q.natAbs)=(((p.fdiv q).sign,aF (p.fdiv q).natAbs),((p.fmod q).sign,aF (p.fmod q).natAbs),0):=yL aP aS (by omega)
def FE:=bG lB λ(s,l,s2,X,bS,bZ,bU,bX)=>b8 (D l<=1000000/\D X<=1000000/\D bZ<=1000000/\D bX<=1000000) (.same (.int .i64 (lC ((s,l),(s2,X)) ((bS,bZ),(bU,bX)))))
@[go_sem] def aAd (s l s2 X bS bZ bU bX):=cj FE rfl vj (s,l,s2,X,bS,bZ,bU,bX) rfl
def anW (T:bg)(ig:T mu=aE vh)(pQ:T BV=aE Jv)(w2:T SG=aE NY):WF T abP FE:=by
 refine b5 λ(s,l,s2,X,bS,bZ,bU,bX)=>cn λU=>⟨rfl,b4 ?_⟩;simp only[abP,lB,bV];obtain⟨bq,bp,ek,eP⟩:=U
 by_cases L:cy ((s,l),(s2,X))=true
 ·by_cases aU:cy ((bS,bZ),(bU,bX))=true
  ·obtain⟨x,J,e⟩:=(As _).1 L;obtain⟨y,ai,ax⟩:=(As _).1 aU;have hm:lC ((s,l),(s2,X)) ((bS,bZ),(bU,bX))=Oe x y:=by rw[e,ax,anU J ai]
   rw[hm];clear hm;have anX:(s,l)=a9 x.num:=congrArg nt e;have anY:(s2,X)=a9 x.den:=congrArg Prod.snd e;have anZ:(bS,bZ)=a9 y.num:=congrArg nt ax;have an0:(bU,bX)=a9 y.den:=congrArg Prod.snd ax;clear e ax;have an1:=ru J;have an2:=ru ai;have JC:=den_pos x;have hL:=den_pos y;have vk:=J.1;have H2:=ai.1;unfold Oe;generalize x.num=P at *;generalize (x.den:Int)=a3 at *;generalize y.num=bF at *;generalize (y.den:Int)=S at *
   cases anX
   cases anY
   cases anZ
   cases an0;simp only[go_sem,go_sem_proc,ig,pQ,w2,bq,bp,ek,eP,L,aU];refine cV [5,6,7,8] [135002,135003] (λ((ry,p,q,r,t):Int×Int×Int×Int×Int) tm mem=>(ry=1\/ry = -1)/\0<q/\0<t/\p.natAbs<cW/\q.natAbs<cW/\r.natAbs<cW/\t.natAbs<cW/\(P*S-bF*a3).sign=ry*(p*t-r*q).sign/\tm 9=.I (.int .i64 ry)/\mem 135005=some (0,[.I (.int .i64 p.sign),.I (.ao ((aF p.natAbs).map aG))])/\mem 135006=some (0,[.I (.int .i64 q.sign),.I (.ao ((aF q.natAbs).map aG))])/\mem 135007=some (0,[.I (.int .i64 r.sign),.I (.ao ((aF r.natAbs).map aG))])/\mem 135008=some (0,[.I (.int .i64 t.sign),.I (.ao ((aF t.natAbs).map aG))])) (λ(_,_,q,_,_)=>q.natAbs) (1,P,a3,bF,S) (by refine⟨.inl rfl,JC,hL,vk,an1,H2,an2,by rw[oj],rfl,?_,?_,?_,?_⟩<;>rfl) ?_;intro vs ms aI aD;simp only[go_sem,go_sem_proc,ig,pQ,w2] at aI aD;subst aI aD;rintro⟨ry,p,q,r,t⟩ tm mem Q hm ⟨yT,lZ,Cy,aP,aS,sM,bL,h8,dh,hd,gA,w3,g2⟩;simp only[go_sem,go_sem_proc,ig,pQ,w2,bj] at Q hm;obtain⟨bt,bx,bK,ca⟩:=Q;have FF:=jc aP;have JD:=jc aS;have JE:=jc sM;have lt:=jc bL;have jY:=ab2 aP aS lZ;have nQ:=ab2 sM bL Cy;have ab3:=Fw (y:=q) aP (by omega);have JF:=Fw (y:=t) sM (by omega);have yU:=jc ab3;have Av:=jc JF;have eX:pP ((p.fdiv q).sign,aF (p.fdiv q).natAbs) ((r.fdiv t).sign,aF (r.fdiv t).natAbs)=gb (p.fdiv q) (r.fdiv t):=Jr ab3 JF;have aAe:=Of (p:=p) lZ;have bv:=Of (p:=r) Cy;have an3:IntKind.i64.wrap (0-ry) = -ry:=by rcases yT with rfl|rfl<;>rfl
   rcases oX (p.fdiv q) (r.fdiv t) with an|heq|kE
   ·have al:=ab0 lZ Cy an;rw[yI an] at eX;rw[h8,kJ al];have hw:IntKind.i64.wrap (ry * -1)=ry * -1:=by rcases yT with rfl|rfl<;>rfl
    refine af ?_;repeat' (intro h<;>simp only[h,go_sem,go_sem_proc,ig,pQ,w2,bt,bx,bK,ca,dh,hm,hd,gA,w3,g2,FF,JD,JE,lt,yU,Av,jY,nQ,eX,hw,km,b3,show ((-1:Int)==0)=false from rfl]<;>try refine ab ?_ ?_)
   ·have al:=anV heq;rw[heq,Fu] at eX
    have gn:∀a:Int,-1<=a->a<=1->IntKind.i64.wrap (ry*a)=ry*a:=by
     intro a F G;rcases yT with rfl|rfl<;>exact wrap64 _ (by omega) (by omega)
    rw[heq] at jY yU;have aAf:(p.fmod q).natAbs<cW:=by omega
    have aAg:(r.fmod t).natAbs<cW:=by omega
    rw[al] at h8;generalize p.fmod q=u at *;generalize r.fmod t=v at *
    by_cases hu:u=0
    ·subst hu
     have O:(0*t-v*q).sign=(0:Int).sign-v.sign:=by
      rw[yK,ab4,yG,nS,gp lZ,qB,w4,ab4]
     rw[O] at h8;rw[h8];have aa:=m5 v;have An:IntKind.i64.wrap ((0:Int).sign-v.sign)=(0:Int).sign-v.sign:=wrap64 _ (by rw[w4];omega) (by rw[w4];omega);have hw:=gn ((0:Int).sign-v.sign) (by rw[w4];omega) (by rw[w4];omega);refine af ?_;repeat' (intro h<;>simp only[h,go_sem,go_sem_proc,ig,pQ,w2,bt,bx,bK,ca,dh,hm,hd,gA,w3,g2,FF,JD,JE,lt,yU,Av,jY,nQ,eX,hw,An,km,b3,show ((0:Int)==0)=true from rfl,show ((0:Int).sign==0)=true from rfl]<;>try refine ab ?_ ?_)
    ·have Fy:0<u:=by omega
     have ab5:(u.sign==0)=false:=by simpa using hu
     by_cases Em:v=0
     ·subst Em
      have O:(u*t-0*q).sign=u.sign-(0:Int).sign:=by
       rw[yK,Ae,nS,gp Cy,qB,w4,Ae]
      rw[O] at h8;rw[h8];have aa:=m5 u;have An:IntKind.i64.wrap (u.sign-(0:Int).sign)=u.sign-(0:Int).sign:=wrap64 _ (by rw[w4];omega) (by rw[w4];omega);have hw:=gn (u.sign-(0:Int).sign) (by rw[w4];omega) (by rw[w4];omega);refine af ?_;repeat' (intro h<;>simp only[h,go_sem,go_sem_proc,ig,pQ,w2,bt,bx,bK,ca,dh,hm,hd,gA,w3,g2,FF,JD,JE,lt,yU,Av,jY,nQ,eX,hw,An,ab5,km,b3,show ((0:Int)==0)=true from rfl,show ((0:Int).sign==0)=true from rfl]<;>try refine ab ?_ ?_)
     ·have tw:(v.sign==0)=false:=by simpa using Em
      refine af ?_;repeat' (intro h<;>simp only[h,go_sem,go_sem_proc,ig,pQ,w2,bt,bx,bK,ca,dh,hm,hd,gA,w3,g2,FF,JD,JE,lt,yU,Av,jY,nQ,eX,ab5,tw,an3,km,b3,show ((0:Int)==0)=true from rfl]<;>try refine ab ?_ ?_)
      refine⟨(-ry,q,u,t,v),by dsimp only;omega,by dsimp only;omega,by dsimp only;omega,by dsimp only;omega,by dsimp only;omega,by dsimp only;omega,by dsimp only;omega,by dsimp only;omega,?_,by simp[go_sem],by simp[go_sem],by simp[go_sem],by simp[go_sem],by simp[go_sem]⟩
      dsimp only;rw[h8,ab1 (q*v) (t*u),Int.neg_mul_neg,nk t u,nk q v]
   ·have al:=ab0 Cy lZ kE;rw[Cm kE] at eX;rw[h8,ab1,kJ al];have hw:IntKind.i64.wrap (ry*1)=ry * -(-1):=by rcases yT with rfl|rfl<;>rfl
    refine af ?_;repeat' (intro h<;>simp only[h,go_sem,go_sem_proc,ig,pQ,w2,bt,bx,bK,ca,dh,hm,hd,gA,w3,g2,FF,JD,JE,lt,yU,Av,jY,nQ,eX,hw,km,b3,show ((1:Int)==0)=false from rfl]<;>try refine ab ?_ ?_)
  ·have aU:cy ((bS,bZ),(bU,bX))=false:=by simpa using aU
   have hm:lC ((s,l),(s2,X)) ((bS,bZ),(bU,bX))=0:=by unfold lC;rw[aJ L,aR (by simp[aU])]
   rw[hm];refine af ?_;repeat' (intro h<;>simp only[h,go_sem,go_sem_proc,ig,pQ,w2,bq,bp,ek,eP,L,aU]<;>try refine ab ?_ ?_)
 ·have L:cy ((s,l),(s2,X))=false:=by simpa using L
  have hm:lC ((s,l),(s2,X)) ((bS,bZ),(bU,bX))=0:=by unfold lC;rw[aR (by simp[L])]
  rw[hm];refine af ?_;repeat' (intro h<;>simp only[h,go_sem,go_sem_proc,ig,pQ,w2,bq,bp,ek,eP,L]<;>try refine ab ?_ ?_)
def ab6:bE:=bT 22 2 [.t 4] (M [ck 3 108003 1,bW 4 false] (.seq (M [aH 6 1 3,bb 7 .lss 6 0,E 8 7,fz 9 8 1 3,gM 10 8 .gtr 9 40,cD 11 8 10,E 12 11,dJ 13 12 0,nJ 14 12 13,fz 15 12 1 3,nK 16 12 .neq 14 15,cD 17 12 16] (bO 17 [bW 4 false])) (M [az 5 (.alloc 108005 [.I .rS]),⟨none,none,.store 1 (.t 5) (.c (.ee sr []))⟩] (M [E 18 0,az 19 (.uH Nl [.t 3,.t 5]),bI 20 Sy 18 19,dS 21 20,E 4 21] .ret))))
def ab7:bE:=bT 48 2 [.t 4,.t 5] (M [cF 4,a8 5 0] (.seq (M [E 11 0,E 12 1,bI 13 Sw 11 12,dS 14 13] (bO 14 [cF 4,a8 5 1])) (M [E 16 0,E 17 1,az 18 (.call Sz [.t 16,.t 17,.c (.I (.bool true))]),E 15 18,aN 19 0 15,aN 20 1 15,E 6 19,E 7 20] (.seq (.block 0 (M [E 22 6,oT 23 22,aC 24 2 23,aH 25 1 24,E 21 25] (fi 21 (M [cF 4,a8 5 6] .ret) (M [E 27 7,cd 28 27,bb 29 .gtr 28 0,E 26 29] (bO 26 [cF 4,a8 5 17]))))) (M [cF 8] (.seq (M [E 30 6,oT 31 30,aC 32 0 31,aH 33 1 32,cd 34 33,a8 35 0] (.block 1 (.ghost (.mM 8 109045 4) (.loop  (M [br 36 .lss 35 34] (.seq (dd 36 1) (.seq (.block 2 (M [bC 37 1 33 35,aH 38 1 37,E 10 38] (.ops [E 39 8,E 40 10,E 41 1,bC 42 4 40 41,aB 43 4 42,az 44 (.dM 109044 false cK 4 1 [(0,4,.t 43)]),az 45 (.app 109045 cK 64 (.t 39) (.t 44)),E 8 45]))) (.ops [bb 46 .add 35 1,E 35 46])))))))) (M [E 47 8,E 4 47,a8 5 0] .ret)))))))
def ab8:bE:=bT 6 1 [.t 2] (M [ck 1 125001 0,bW 2 false] (M [aB 3 4 1,c6 4 mu 3,dS 5 4,E 2 5] .ret))
def ab9:bE:=bT 22 3 [.t 4] (M [ck 3 127003 0,bW 4 false] (M [aC 5 0 3,aH 6 1 5,cd 7 6,aH 8 1 1,br 9 .neq 7 8,E 10 9,fz 11 10 1 2,fq 12 10 1 3,hv 13 10 4 12,fr 14 10 (.jN (.t 11) [.t 13]),cD 15 10 14,E 16 15,fq 17 16 0 3,fz 18 16 1 17,fz 19 16 1 2,fr 20 16 (.call tH [.t 18,.t 19]),cD 21 16 20,E 4 21] .ret))
def Oh:bE:=bT 65 3 [.t 6,.t 7] (M [az 6 (.iu (.c (.I .qZ))),cF 7] (M [E 13 1,az 14 (.build [.nil,bl 0,.I (.bool false)] [(1,1,.t 13)]),ck 15 129015 14,E 8 15] (.seq (M [E 16 0,cd 17 16,a8 18 0] (dT 0 (M [br 19 .lss 18 17] (.seq (dd 19 0) (.seq (.block 1 (M [bC 20 5 16 18,aB 21 5 20,bP 10 129010 hI,aZ 5 10 21] (.mN [E 22 8,E 23 8,oT 24 23,aC 25 0 24,aH 26 1 25,aC 27 0 10,aH 28 1 27,az 29 (.lb 129029 4 EO [.t 28]),aC 30 1 10,aB 31 4 30,az 32 (.dM 129032 false cK 4 1 [(0,4,.t 31)]),az 33 (.app 129033 cK 64 (.t 29) (.t 32)),az 34 (.dM 129034 true [.nil] 1 1 [(0,1,.t 33)]),az 35 (.app 129035 [.nil] 24 (.t 26) (.t 34)),oT 36 22,aC 37 0 36,aZ 1 37 35] [[],[],[],[],[],[],[],[4],[],[7],[],[4],[4],[],[],[],[]]))) (.ghost (.move) (.ops [bb 38 .add 18 1,E 18 38]))))))) (M [cF 11] (.seq (M [a8 12 0] (.block 2 (.ghost (.mM 11 129061 1) (.loop  (.seq (M [E 39 12,E 40 1,br 41 .lss 39 40,E 42 41,eu 43 42 8,fA 44 42 (.uF (.t 43)),hH 45 42 2 44,iz 46 42 1 45,Nv 47 42 46,fE 48 42 47] (dd 48 2)) (.seq (.block 3 (M [E 51 8,E 52 12,E 53 11,cd 54 53,br 55 .sub 52 54,E 56 12,yq 57 SE 51 55 56] (fi 57 (M [E 58 11,E 59 12,az 60 (.dM 129060 false [bl 0] 1 1 [(0,1,.t 59)]),az 61 (.app 129061 [bl 0] 8 (.t 58) (.t 60)),E 11 61] (M [E 62 2] (fi 62 (.exit 2) .skip))) .skip))) (.ops [E 49 12,bb 50 .add 49 1,E 12 50]))))))) (M [E 63 8,E 64 11,E 6 63,E 7 64] .ret))))))
def w5:bE:=bT 172 3 [.t 6] (M [bW 6 false] (M [E 15 1,E 7 15] (.seq (dT 0 (.seq (M [E 16 7,E 17 0,oT 18 17,aC 19 1 18,aH 20 1 19,br 21 .lss 16 20,E 22 21,eu 23 22 0,fA 24 22 (.uF (.t 23)),hH 25 22 0 24,iz 26 22 1 25,eu 27 22 7,rn 28 22 1 26 27,iz 29 22 1 28,eu 30 22 2,rn 31 22 4 29 30,B9 32 22 4 31,fA 33 22 (.call II [.t 32]),fE 34 22 33] (dd 34 0)) (.block 1 (.ops [E 35 7,bb 36 .add 35 1,E 7 36])))) (.seq (M [E 37 7,E 38 0,oT 39 38,aC 40 1 39,aH 41 1 40,br 42 .eql 37 41] (bO 42 [bW 6 true])) (e2 [E 43 0,oT 44 43,aC 45 0 44,aH 46 1 45,E 47 1,E 48 0,oT 49 48,aC 50 0 49,aH 51 1 50,E 52 7,E 53 0,oT 54 53,aC 55 0 54,aH 56 1 55,E 57 7,bC 58 1 56 57,aH 59 1 58,E 60 0,oT 61 60,aC 62 0 61,aH 63 1 62,E 64 1,bC 65 1 63 64,aH 66 1 65,bC 67 1 46 47,aZ 1 67 59,bC 68 1 51 52,aZ 1 68 66] alJ (M [E 69 0,oT 70 69,aC 71 0 70,aH 72 1 71,E 73 1,bC 74 1 72 73,aH 75 1 74,E 76 2,bC 77 4 75 76,aB 78 4 77,bP 8 148008 cK,aZ 4 8 78] (.seq (M [E 79 0,oT 80 79,aC 81 0 80,aH 82 1 81,E 83 1,bC 84 1 82 83,aH 85 1 84,cd 86 85,a8 87 0] (dT 2 (M [br 88 .lss 87 86] (.seq (dd 88 2) (.seq (.block 3 (M [E 89 87,bC 90 4 85 87,aB 91 4 90,bP 10 148010 cK,E 9 89,aZ 4 10 91] (.mN [E 92 0,oT 93 92,aC 94 0 93,aH 95 1 94,E 96 1,bC 97 1 95 96,aH 98 1 97,E 99 9,E 100 0,aB 101 4 10,aB 102 4 8,bI 103 ET 101 102,aN 104 0 103,aN 105 1 103,az 106 (.kQ 2 z6 [.t 100,.t 104,.t 105]),bC 107 4 98 99,aZ 4 107 106] [[],[],[],[],[],[],[],[],[],[],[],[],[],[],[3,6],[],[]]))) (.ops [bb 108 .add 87 1,E 87 108])))))) (.seq (M [E 109 0,oT 110 109,aC 111 0 110,aH 112 1 111,cd 113 112,a8 114 0] (dT 4 (M [br 115 .lss 114 113] (.seq (dd 115 4) (.seq (.block 5 (M [E 116 114,bC 117 1 112 114,aH 118 1 117,E 11 116,E 12 118] (M [E 119 12,E 120 2,bC 121 4 119 120,aB 122 4 121,bP 13 148013 cK,aZ 4 13 122] (.seq (M [E 123 11,E 124 1,br 125 .eql 123 124,E 126 125,hv 127 126 4 13,fr 128 126 (.call II [.t 127]),cD 129 126 128] (fi 129 (.exit 5) .skip)) (M [a8 14 0] (dT 6 (.seq (M [E 130 14,E 131 12,cd 132 131,br 133 .lss 130 132,E 134 133,eu 135 134 0,fA 136 134 (.uF (.t 135)),hH 137 134 2 136,iz 138 134 1 137,Nv 139 134 138,fE 140 134 139] (dd 140 6)) (.seq (.block 7 (.mN [E 143 12,E 144 14,E 145 0,E 146 12,E 147 14,bC 148 4 146 147,aB 149 4 148,E 150 0,aB 151 4 13,E 152 0,oT 153 152,aC 154 0 153,aH 155 1 154,E 156 1,bC 157 1 155 156,aH 158 1 157,E 159 14,bC 160 4 158 159,aB 161 4 160,bI 162 ym 151 161,aN 163 0 162,aN 164 1 162,az 165 (.kQ 2 z6 [.t 150,.t 163,.t 164]),bI 166 BT 149 165,aN 167 0 166,aN 168 1 166,az 169 (.kQ 2 z6 [.t 145,.t 167,.t 168]),bC 170 4 143 144,aZ 4 170 169] [[],[],[],[],[],[],[],[],[],[],[],[],[],[],[],[],[],[],[],[],[],[],[6],[],[],[],[],[],[]])) (.ops [E 141 14,bb 142 .add 141 1,E 14 142]))))))))) (.ops [bb 171 .add 114 1,E 114 171])))))) (M [bW 6 false] .ret)))))))))
def aca:bE:=bT 7 1 [.t 2] (M [ck 1 167001 0,bW 2 false] (M [aC 3 0 1,aC 4 0 3,aH 5 1 4,bb 6 .eql 5 0,E 2 6] .ret))
def Oi:bE:=bT 19 3 [.cell 6 4 true] (M [ck 4 168004 1,bP 6 168006 cK] (M [E 7 0,E 8 0,oT 9 8,aC 10 2 9,aH 11 1 10,E 12 11,dJ 13 12 2,gM 14 12 .neq 13 0,cD 15 12 14,oT 16 7,aC 17 2 16,aZ 1 17 15] (M [aB 18 4 4,aZ 4 6 18] .ret)))


def acb:bE:=bT 69 2 [.t 4,.t 5,.t 6] (M [cF 4,cF 5,a8 6 0] (.seq (M [E 16 0,E 17 1,bI 18 B4 16 17,dS 19 18] (bO 19 [cF 4,cF 5,a8 6 1])) (M [az 20 (.call tK [.c (bl 1)]),az 21 (.dM 386021 false cK 4 1 [(0,4,.t 20)]),E 22 1,bI 23 EM 21 22,az 24 (.call tK [.c (bl 0)]),az 25 (.dM 386025 false cK 4 1 [(0,4,.t 24)]),E 26 1,bI 27 EM 25 26,E 28 0,az 29 (.build yp [(0,1,.t 23),(1,1,.t 27),(2,1,.t 28)]),bP 7 386007 yp,aZ 3 7 29] (M [aB 31 3 7,c6 32 yo 31,E 30 32,aN 33 0 30,aN 34 1 30,aN 35 2 30,E 8 33,E 9 34,E 10 35] (.seq (M [E 36 10,bb 37 .neq 36 0] (bO 37 [E 38 10,cF 4,cF 5,E 6 38])) (.seq (M [E 39 8,az 40 (.call tH [.t 39,.c (.ee u7 [])])] (bO 40 [E 41 8,cF 4,E 5 41,a8 6 16])) (M [cF 11] (.seq (M [E 42 1,a8 43 0] (.block 0 (.ghost (.mM 11 386059 5) (.loop  (M [br 44 .lss 43 42] (.seq (dd 44 0) (.seq (.block 1 (M [E 45 43,E 12 45] (M [az 47 (.call tK [.c (bl 1)]),E 48 0,E 49 1,E 50 12,oU 51 IU 47 48 49 50,E 46 51,aN 52 0 46,aN 53 1 46,bP 13 386013 hI,aZ 5 13 52,E 14 53] (.seq (M [E 54 14,dS 55 54] (bO 55 [cF 4,cF 5,a8 6 6])) (.ops [E 56 11,aB 57 5 13,az 58 (.dM 386058 false hI 5 1 [(0,5,.t 57)]),az 59 (.app 386059 hI 88 (.t 56) (.t 58)),E 11 59]))))) (.ops [bb 60 .add 43 1,E 43 60])))))))) (.seq (.ghost (.freeze 11) (.ops [E 62 11,E 63 1,bI 64 Iz 62 63,E 61 64,aN 65 0 61,aN 66 1 61,E 15 65,E 10 66])) (M [E 67 15,E 68 10,E 4 67,cF 5,E 6 68] .ret))))))))))
def acd:bE:=bT 7 1 [.t 2] (M [ck 1 387001 0,bW 2 false] (M [aC 3 0 1,aC 4 0 3,aH 5 1 4,bb 6 .neq 5 0,E 2 6] .ret))
def ace:bE:=bT 49 3 [.t 6] (M [bW 6 false] (.seq (M [E 11 0,E 12 1,bI 13 B4 11 12,dS 14 13,E 15 14,dJ 16 15 2,nJ 17 15 16,dJ 18 15 1,nK 19 15 .neq 17 18,cD 20 15 19,E 21 20,dJ 22 21 2,fr 23 21 (.call tH [.t 22,.c (.ee u9 [])]),cD 24 21 23] (bO 24 [bW 6 false])) (.seq (M [E 25 2,cd 26 25,a8 27 0] (dT 0 (M [br 28 .lss 27 26] (.seq (dd 28 0) (.seq (.block 1 (M [E 29 27,bC 30 4 25 27,aB 31 4 30,bP 8 388008 cK,E 7 29,aZ 4 8 31] (M [az 33 (.call tK [.c (bl 0)]),E 34 0,E 35 2,E 36 7,oU 37 B1 33 34 35 36,E 32 37,aN 38 0 32,aN 39 1 32,bP 9 388009 cK,aZ 4 9 38,E 10 39] (M [E 40 10,dS 41 40,E 42 41,hv 43 42 4 8,hv 44 42 4 9,fr 45 42 (.call z5 [.t 43,.t 44]),gM 46 42 .leq 45 0,cD 47 42 46] (bO 47 [bW 6 false]))))) (.ops [bb 48 .add 27 1,E 27 48])))))) (M [bW 6 true] .ret))))
def acf:bE:=bT 12 1 [.t 2] (M [ck 1 389001 0,bW 2 false] (M [aB 3 4 1,c6 4 B2 3,dS 5 4,E 6 5,fq 7 6 0 1,fq 8 6 0 7,fz 9 6 1 8,gM 10 6 .eql 9 0,cD 11 6 10,E 2 11] .ret))
def acg:bE:=bT 60 2 [.t 4] (M [ck 2 390002 0,bW 4 false] (.seq (M [aB 9 3 2,c6 10 B3 9,dS 11 10,E 12 11,dJ 13 12 1,nJ 14 12 13,fq 15 12 0 2,fz 16 12 1 15,nJ 17 12 16,nK 18 12 .neq 14 17,cD 19 12 18,E 20 19,dJ 21 20 1,fr 22 20 (.call tH [.t 21,.c (.ee wH [])]),cD 23 20 22] (bO 23 [bW 4 false])) (.seq (M [aC 24 0 2,aH 25 1 24,cd 26 25,a8 27 0] (dT 0 (M [br 28 .lss 27 26] (.seq (dd 28 0) (.seq (.block 1 (M [E 29 27,bC 30 4 25 27,aB 31 4 30,bP 6 390006 cK,E 5 29,aZ 4 6 31] (e2 [aC 33 1 2,aH 34 1 33,E 35 5,bC 36 4 34 35,aB 37 4 36,aC 38 2 2,aH 39 1 38,E 40 1,E 41 5,oU 42 B1 37 39 40 41,E 32 42,aN 43 0 32,aN 44 1 32,bP 7 390007 cK,aZ 4 7 43,E 8 44] [[],[],[],[],[],[],[],[],[],[],[],[],[],[1,4,6],[],[]] (.seq (M [E 45 8,dS 46 45] (bO 46 [bW 4 false])) (.seq (M [aB 47 4 7,aB 48 4 6,bI 49 z5 47 48,bb 50 .gtr 49 0] (fi 50 (.ops [aB 51 4 6,aZ 4 7 51]) .skip)) (e2 [aB 52 4 7,E 53 1,E 54 5,bC 55 4 53 54,aB 56 4 55,bI 57 z5 52 56,bb 58 .neq 57 0] E3 (bO 58 [bW 4 false]))))))) (.ops [bb 59 .add 27 1,E 27 59])))))) (M [bW 4 true] .ret))))
def ach:bE:=bT 6 1 [.t 2] (M [ck 1 391001 0,bW 2 false] (M [aB 3 4 1,c6 4 mu 3,dS 5 4,E 2 5] .ret))
def aci:bE:=bT 93 1 [.t 2,.t 3,.t 4] (M [ck 1 392001 0,cF 2,cF 3,a8 4 0] (.seq (M [aB 15 3 1,c6 16 B3 15,dS 17 16] (bO 17 [cF 2,cF 3,a8 4 1])) (M [aC 18 0 1,aH 19 1 18,cd 20 19,az 21 (.la 392021 [.I (.bool false)] 1 (.t 20) (.t 20)),az 5 (.alloc 392005 [.nil]),aZ 1 5 21] (.seq (M [az 6 (.alloc 392006 [.I (.bool false)]),⟨none,none,.store 1 (.t 6) (.c (.I (.bool true)))⟩] (dT 0 (.seq (M [aH 22 1 6] (dd 22 0)) (.seq (.block 1 (M [⟨none,none,.store 1 (.t 6) (.c (.I (.bool false)))⟩] (M [az 23 (.uH SX [.t 5,.t 1,.t 6]),E 7 23] (.seq (M [aC 24 1 1,aH 25 1 24,cd 26 25,a8 27 0] (dT 2 (M [br 28 .lss 27 26] (.seq (dd 28 2) (.seq (.block 3 (M [E 29 27,bC 30 4 25 27,aB 31 4 30,bP 9 392009 cK,E 8 29,aZ 4 9 31] (M [aC 32 0 9,aC 33 0 32,aH 34 1 33,bb 35 .gtr 34 0] (fi 35 (.ops [E 36 7,E 37 8,az 38 (.jN (.t 36) [.t 37])]) .skip)))) (.ops [bb 39 .add 27 1,E 27 39])))))) (M [aC 40 2 1,aH 41 1 40,cd 42 41,a8 43 0] (dT 4 (M [br 44 .lss 43 42] (.seq (dd 44 4) (.seq (.block 5 (M [bC 45 6 41 43,aB 46 6 45,az 11 (.alloc 392011 [bl 0,bl 0,bl 0,.nil,bl 0,.nil]),aZ 6 11 46] (M [aH 47 1 5,aC 48 0 11,aH 49 1 48,bC 50 1 47 49,aH 51 1 50,E 52 51,hH 53 52 2 11,hH 54 52 0 53,hH 55 52 0 54,iz 56 52 1 55,kj 57 52 .gtr 56 0,fE 58 52 57] (fi 58 (.ops [E 59 7,aC 60 1 11,aH 61 1 60,az 62 (.jN (.t 59) [.t 61])]) .skip)))) (.ops [bb 63 .add 43 1,E 43 63])))))))))) (M [aH 64 1 6] (.ops [az 6 (.alloc 392006 [.I (.bool false)]),aZ 1 6 64])))))) (e2 [aC 65 0 1,aH 66 1 65,az 67 (.lb 392067 4 EO [.t 66]),aC 68 1 1,aH 69 1 68,aC 70 2 1,aH 71 1 70,az 72 (.build yp [(0,1,.t 67),(1,1,.t 69),(2,1,.t 71)]),bP 12 392012 yp,aZ 3 12 72] [[],[],[],[],[2],[],[2],[],[1,2,4,6],[]] (.seq (M [aH 73 1 5,cd 74 73,a8 75 0] (dT 6 (M [br 76 .lss 75 74] (.seq (dd 76 6) (.seq (.block 7 (M [E 77 75,bC 78 1 73 75,aH 79 1 78,E 13 77,E 14 79] (M [E 80 14,dS 81 80] (fi 81 (.mN [aC 82 0 12,aH 83 1 82,E 84 13,az 85 (.call tK [.c (bl 0)]),bC 86 4 83 84,aZ 4 86 85] Nw) .skip)))) (.ops [bb 87 .add 75 1,E 75 87])))))) (.seq (.ghost (.Mc (.t 12) 0) (.ops [aB 88 3 12,c6 89 yo 88,aN 90 0 89,aN 91 1 89,aN 92 2 89,E 2 90,E 3 91,E 4 92])) .ret)))))))
def Oj:bE:=bT 23 4 [] (M [aH 5 1 1,E 6 0,bC 7 1 5 6,aH 8 1 7,dS 9 8,E 10 9,hH 11 10 0 2,iz 12 10 1 11,eu 13 10 0,rn 14 10 4 12 13,hH 15 10 0 14,hH 16 10 0 15,iz 17 10 1 16,kj 18 10 .gtr 17 0,fE 19 10 18] (fi 19 (.ops [aH 20 1 1,E 21 0,bC 22 1 20 21,⟨none,none,.store 1 (.t 22) (.c (.I (.bool true)))⟩,⟨none,none,.store 1 (.t 3) (.c (.I (.bool true)))⟩]) .skip))
def acj:bE:=bT 86 1 [.t 2,.t 3,.t 4] (M [ck 1 394001 0,cF 2,cF 3,a8 4 0] (.seq (M [aB 16 3 1,c6 17 B3 16,dS 18 17] (bO 18 [cF 2,cF 3,a8 4 1])) (M [aC 19 0 1,aH 20 1 19,cd 21 20,az 22 (.la 394022 [.I (.bool false)] 1 (.t 21) (.t 21)),E 5 22] (M [cF 6] (.block 0 (.ghost (.mM 6 394085 1) (.loop  (.block 1 (M [aB 24 3 1,E 25 5,bI 26 SZ 24 25,E 23 26,aN 27 0 23,aN 28 1 23,E 7 27,E 8 28] (.seq (M [E 29 8,dS 30 29] (bO 30 [cF 2,cF 3,a8 4 6])) (M [cF 9] (.seq (M [aC 31 0 1,aH 32 1 31,cd 33 32,a8 34 0] (.block 2 (.ghost (.mM 9 394065 1) (.loop  (M [br 35 .lss 34 33] (.seq (dd 35 2) (.seq (.block 3 (M [E 36 34,bC 37 4 32 34,aB 38 4 37,bP 11 394011 cK,E 10 36,aZ 4 11 38] (.seq (M [E 39 5,E 40 10,bC 41 1 39 40,aH 42 1 41] (fi 42 (.exit 3) .skip)) (e2 [aC 44 1 1,aH 45 1 44,E 46 10,bC 47 4 45 46,aB 48 4 47,aC 49 2 1,aH 50 1 49,E 51 7,E 52 10,oU 53 B1 48 50 51 52,E 43 53,aN 54 0 43,aN 55 1 43,bP 12 394012 cK,aZ 4 12 54,E 13 55] [[],[],[],[],[],[],[],[],[],[],[],[],[],[1,4,6],[],[]] (.seq (M [E 56 13,dS 57 56] (bO 57 [cF 2,cF 3,a8 4 6])) (M [aB 58 4 12,aB 59 4 11,bI 60 z5 58 59,bb 61 .lss 60 0] (fi 61 (.ops [E 62 9,E 63 10,az 64 (.dM 394064 false [bl 0] 1 1 [(0,1,.t 63)]),az 65 (.app 394065 [bl 0] 8 (.t 62) (.t 64)),E 9 65]) .skip))))))) (.ops [bb 66 .add 34 1,E 34 66])))))))) (.seq (M [E 67 9,cd 68 67,bb 69 .eql 68 0] (bO 69 [E 70 7,E 71 6,E 2 70,E 3 71,a8 4 0])) (.seq (M [E 72 9,cd 73 72,a8 74 0] (dT 4 (M [br 75 .lss 74 73] (.seq (dd 75 4) (.seq (.block 5 (M [bC 76 1 72 74,aH 77 1 76,E 15 77] (.ops [E 78 5,E 79 15,bC 80 1 78 79,⟨none,none,.store 1 (.t 80) (.c (.I (.bool true)))⟩]))) (.ops [bb 81 .add 74 1,E 74 81])))))) (.ghost (.freeze 9) (.ops [E 82 6,E 83 9,az 84 (.dM 394084 false [.nil] 1 1 [(0,1,.t 83)]),az 85 (.app 394085 [.nil] 24 (.t 82) (.t 84)),E 6 85]))))))))))))))))
def ack:bE:=bT 59 4 [.cell 8 5 true,.t 9] (M [ck 4 395004 0,bP 8 395008 hI,bW 9 false] (e2 [az 15 (.call tK [.c (bl 0)]),az 16 (.dM 395016 false cK 4 1 [(0,4,.t 15)]),E 17 2,az 18 (.lb 395018 4 EM [.t 16,.t 17]),aB 19 4 4,az 20 (.build hI [(0,1,.t 18),(1,4,.t 19)]),bP 10 395010 hI,aZ 5 10 20] [[],[],[],[],[3],[],[3,4],[]] (e2 [aC 21 0 10,aH 22 1 21,E 23 3,az 24 (.call tK [.c (bl 1)]),bC 25 4 22 23,aZ 4 25 24] Nw (.seq (M [E 26 1,cd 27 26,a8 28 0] (dT 0 (M [br 29 .lss 28 27] (.seq (dd 29 0) (.seq (.block 1 (M [bC 30 6 26 28,aB 31 6 30,az 12 (.alloc 395012 [bl 0,bl 0,bl 0,.nil,bl 0,.nil]),aZ 6 12 31] (.seq (M [aC 32 1 12,aH 33 1 32,E 34 3,br 35 .neq 33 34] (fi 35 (.exit 1) .skip)) (e2 [aC 37 0 10,aH 38 1 37,aC 39 0 12,aH 40 1 39,bC 41 4 38 40,aB 42 4 41,aC 43 2 12,aB 44 4 43,bI 45 BT 42 44,E 36 45,aN 46 0 36,aN 47 1 36,bP 13 395013 cK,aZ 4 13 46,E 14 47] [[],[],[],[],[],[],[],[],[],[],[],[],[1,3,5,7],[],[]] (.seq (M [E 48 14,bb 49 .neq 48 0] (bO 49 [az 50 (.build hI []),aZ 5 8 50,bW 9 false])) (.ops [aC 51 0 10,aH 52 1 51,aC 53 0 12,aH 54 1 53,aB 55 4 13,bC 56 4 52 54,aZ 4 56 55])))))) (.ops [bb 57 .add 28 1,E 28 57])))))) (M [aB 58 5 10,aZ 5 8 58,bW 9 true] .ret)))))
def acm:bE:=bT 34 4 [.cell 8 4 true,.t 9] (M [ck 4 396004 0,ck 6 396006 2,bP 8 396008 cK,bW 9 false] (M [az 10 (.alloc 396010 [.I (.bool false)]),⟨none,none,.store 1 (.t 10) (.c (.I (.bool true)))⟩] (M [az 14 (.uH SY [.t 6,.t 4,.t 10]),E 11 14] (.seq (M [E 15 1,cd 16 15,a8 17 0] (dT 0 (M [br 18 .lss 17 16] (.seq (dd 18 0) (.seq (.block 1 (M [bC 19 6 15 17,aB 20 6 19,az 13 (.alloc 396013 [bl 0,bl 0,bl 0,.nil,bl 0,.nil]),aZ 6 13 20] (M [aC 21 1 13,aH 22 1 21,E 23 3,br 24 .eql 22 23,E 25 24,iz 26 25 1 10,fE 27 25 26] (fi 27 (.ops [E 28 11,aB 29 6 13,az 30 (.jN (.t 28) [.t 29])]) .skip)))) (.ops [bb 31 .add 17 1,E 17 31])))))) (e2 [aB 32 4 4,aH 33 1 10,aZ 4 8 32,E 9 33] [[],[],[1],[]] .ret)))))
def Ok:bE:=bT 36 4 [] (M [ck 4 397004 0] (e2 [aC 10 2 4,aB 11 4 10,aH 12 1 1,aC 13 0 4,aH 14 1 13,bC 15 4 12 14,aB 16 4 15,bI 17 ym 11 16,E 9 17,aN 18 0 9,aN 19 1 9,bP 5 397005 cK,aZ 4 5 18,E 6 19] [[],[],[],[],[],[],[],[],[],[],[],[1,2,4,6],[],[]] (M [aB 21 4 2,aB 22 4 5,bI 23 BS 21 22,E 20 23,aN 24 0 20,aN 25 1 20,bP 7 397007 cK,aZ 4 7 24,E 8 25] (M [aH 26 1 3,E 27 26,eu 28 27 6,kj 29 27 .eql 28 0,fE 30 27 29,E 31 30,eu 32 31 8,kj 33 31 .eql 32 0,fE 34 31 33,aZ 1 3 34] (.ops [aB 35 4 7,aZ 4 2 35])))))
def acn:bE:=bT 11 1 [.t 2] (M [ck 1 398001 0,bW 2 false] (M [aB 3 4 1,c6 4 mu 3,E 5 4,hH 6 5 0 1,hH 7 5 0 6,iz 8 5 1 7,kj 9 5 .geq 8 0,fE 10 5 9,E 2 10] .ret))
def aco:bE:=bT 33 1 [.t 2] (M [ck 1 399001 0,bW 2 false] (M [az 3 (.iu (.c (.ee va [])))] (M [aC 4 0 1,aH 5 1 4,cd 6 5,aC 7 1 1,aH 8 1 7,cd 9 8,br 10 .eql 6 9,E 11 10,hH 12 11 2 1,iz 13 11 1 12,hH 14 11 0 1,iz 15 11 1 14,Tb 16 11 15,fA 17 11 (.call B4 [.t 13,.t 16]),fE 18 11 17,E 19 18,hH 20 19 0 1,iz 21 19 1 20,eu 22 19 3,fA 23 19 (.call tH [.t 21,.t 22]),Nv 24 19 23,fE 25 19 24,E 26 25,hH 27 26 1 1,iz 28 26 1 27,eu 29 26 3,fA 30 26 (.call tH [.t 28,.t 29]),Nv 31 26 30,fE 32 26 31,E 2 32] .ret)))
def acp:bE:=bT 6 1 [.t 2] (M [ck 1 400001 0,bW 2 false] (M [aB 3 4 1,c6 4 B2 3,dS 5 4,E 2 5] .ret))
def acq:bE:=bT 20 2 [.t 4] (M [ck 3 401003 1,bW 4 false] (.seq (M [aH 5 1 3,bb 6 .lss 5 0,E 7 6,fz 8 7 1 3,gM 9 7 .gtr 8 40,cD 10 7 9,E 11 10,dJ 12 11 0,nJ 13 11 12,gM 14 11 .gtr 13 400,cD 15 11 14] (bO 15 [bW 4 false])) (M [E 16 0,az 17 (.uH Nt [.t 3]),bI 18 S9 16 17,dS 19 18,E 4 19] .ret)))
def acr:bE:=bT 30 2 [.t 3] (M [ck 2 402002 0,bW 3 false] (M [aC 4 0 2,aH 5 1 4,bb 6 .lss 5 0,E 7 6,fq 8 7 0 2,fz 9 7 1 8,fz 10 7 1 1,nK 11 7 .geq 9 10,cD 12 7 11,E 13 12,fq 14 13 1 2,fz 15 13 1 14,gM 16 13 .lss 15 0,cD 17 13 16,E 18 17,fq 19 18 1 2,fz 20 18 1 19,fz 21 18 1 1,nK 22 18 .geq 20 21,cD 23 18 22,E 24 23,fq 25 24 2 2,hv 26 24 4 25,fr 27 24 (.call B2 [.t 26]),ib 28 24 27,cD 29 24 28,E 3 29] .ret))
def Ol:bE:=bT 62 2 [.t 4,.t 5] (M [ck 2 403002 0,cF 4,bW 5 false] (M [aC 15 0 2,aH 16 1 15,cd 17 16,E 6 17] (M [cF 7] (.seq (M [E 18 6,a8 19 0] (.block 0 (.ghost (.mM 7 403051 5) (.loop  (M [br 20 .lss 19 18] (.seq (dd 20 0) (.seq (.block 1 (M [E 21 19,E 8 21] (M [aC 22 0 2,aH 23 1 22,E 24 8,bC 25 4 23 24,aB 26 4 25,bP 9 403009 cK,aZ 4 9 26,cF 10] (.seq (M [E 27 1,E 28 8,bC 29 1 27 28,aH 30 1 29] (fi 30 (.mN [aC 31 1 2,aH 32 1 31,E 33 8,bC 34 4 32 33,aB 35 4 34,aC 36 2 2,aH 37 1 36,aZ 4 9 35,E 10 37] [[],[],[],[],[],[],[],[6],[]]) .skip)) (M [aB 39 4 9,E 40 10,E 41 6,E 42 8,oU 43 IU 39 40 41 42,E 38 43,aN 44 0 38,aN 45 1 38,bP 11 403011 hI,aZ 5 11 44,E 12 45] (.seq (M [E 46 12,dS 47 46] (bO 47 [cF 4,bW 5 false])) (.ops [E 48 7,aB 49 5 11,az 50 (.dM 403050 false hI 5 1 [(0,5,.t 49)]),az 51 (.app 403051 hI 88 (.t 48) (.t 50)),E 7 51]))))))) (.ops [bb 52 .add 19 1,E 19 52])))))))) (.seq (.ghost (.freeze 7) (.ops [E 54 7,E 55 6,bI 56 Iz 54 55,E 53 56,aN 57 0 53,aN 58 1 53,E 13 57,E 14 58])) (M [E 59 13,E 60 14,bb 61 .eql 60 0,E 4 59,E 5 61] .ret))))))
def acs:bE:=bT 11 1 [.cell 2 4 true] (M [bP 2 404002 cK] (M [E 6 0,az 7 (.call IC [.t 6,.c (bl 1)]),E 5 7,aN 8 0 5,aN 9 1 5,bP 3 404003 cK,aZ 4 3 8,E 4 9] (M [aB 10 4 3,aZ 4 2 10] .ret)))
abbrev b9:=List av×av
def cE (r:b9):List Data:=.ao (r.1.map ar)::ar r.2
def jt (f:av):(ar f).length=4:=rfl
def m6 (r:b9):(cE r).length=5:=rfl
def vl (f:av):((ar f).map H.I).all H.one=true:=rfl
def j1:∀a b:av,ar a=ar b->a=b:=by
 rintro⟨⟨s,l⟩,⟨s2,X⟩⟩ ⟨⟨t,m⟩,⟨t2,bY⟩⟩ h;simp only[ar,bj,Data.int.injEq,Data.ao.injEq,true_and,and_true] at h;obtain⟨rfl,F,rfl,G⟩:=h;rw[map_inj fW _ _ F,map_inj fW _ _ G]
def Aw:∀a b:b9,cE a=cE b->a=b:=by
 rintro⟨a,b⟩ ⟨c,d⟩ h;simp only[cE,bj,Data.ao.injEq] at h;rw[map_inj j1 _ _ h.1,j1 _ _ h.2]
def okF (f:av):Prop:=f.1.2.length<=1000000/\f.2.2.length<=1000000
def ih (l:List av):Prop:=D l<=1000000/\∀f∈l,okF f
def lD (r:b9):Prop:=ih r.1/\okF r.2
def qK (rs:List b9):Prop:=D rs<=1000000/\∀r∈rs,lD r
def JG:=bG k4 λ(s,l,s2,X)=>b8 (D l<=1000000/\D X<=1000000) (.same (.bool (!cy ((s,l),(s2,X)))))
@[go_sem] def an4 (s l s2 X):=cj JG rfl uc (s,l,s2,X) rfl
def an5 (T:bg)(ig:T mu=aE vh):WF T ab8 JG:=by
 refine b5 λ(s,l,s2,X)=>cn λU=>⟨rfl,b4 ?_⟩;simp only[ab8,k4,bV];obtain⟨bq,bp⟩:=U;refine af ?_;repeat' (intro h<;>simp only[h,go_sem,go_sem_proc,ig,bq,bp]<;>try refine ab ?_ ?_)
def acu:=bG k4 λ(s,l,s2,X)=>b8 (D l<=1000000/\D X<=1000000) (.same (.bool (!cy ((s,l),(s2,X))||decide (s<0))))
@[go_sem] def an6 (s l s2 X):=cj acu rfl uc (s,l,s2,X) rfl
abbrev Uj:Int×(List Int)×Int×(List Int)->List Data:=λ(s,l,s2,X)=>[.agg [.int .i64 s,.ao (l.map aG),.int .i64 s2,.ao (X.map aG)],.ptr [.fn ZT []]]
def acv:=bG Uj λ(s,l,s2,X)=>b8 (D l<=1000000/\D X<=1000000) (.same (.bool (!(cy ((s,l),(s2,X))&&decide (s>=0)))))
def an7:∀a b,Uj a=Uj b->a=b:=by
  rintro⟨s1,hZ,tX,sG⟩ ⟨s2,X,tY,sH⟩ h;simp only[bj,Data.agg.injEq,Data.int.injEq,Data.ao.injEq] at h;exact cx h.1.1.2 (cx (map_inj fW _ _ h.1.2.1) (cx h.1.2.2.1.2 (map_inj fW _ _ h.1.2.2.2.1)))
@[go_sem] def an8 (s l s2 X):=cj acv rfl an7 (s,l,s2,X) rfl
def g3 (f:av):Bool:=cy f&&decide (f.1.1>=0)
def FG:=bG k4 λ(s,l,s2,X)=>b8 (D l<=1000000/\D X<=1000000) (.same (.bool (g3 ((s,l),(s2,X)))))
@[go_sem] def aAh (s l s2 X):=cj FG rfl uc (s,l,s2,X) rfl
def an9 (T:bg)(ig:T mu=aE vh):WF T acn FG:=by
 refine b5 λ(s,l,s2,X)=>cn λU=>⟨rfl,b4 ?_⟩;simp only[acn,k4,bV];obtain⟨bq,bp⟩:=U;unfold g3;rcases L:cy ((s,l),(s2,X))
 ·refine af ?_;repeat' (intro h<;>simp only[h,go_sem,go_sem_proc,ig,bq,bp,L]<;>try refine ab ?_ ?_)
 ·refine af ?_;repeat' (intro h<;>simp only[h,go_sem,go_sem_proc,ig,bq,bp,L]<;>try refine ab ?_ ?_)
def Om:=bG k4 λ(s,l,s2,X)=>b8 (D l<=1000000/\D X<=1000000) (.same (.bool (!g3 ((s,l),(s2,X)))))
@[go_sem] def aoa (s l s2 X):=cj Om rfl uc (s,l,s2,X) rfl
def aob (T:bg)(w6:T B2=aE FG):WF T acp Om:=by
 refine b5 λ(s,l,s2,X)=>cn λU=>⟨rfl,b4 ?_⟩;simp only[acp,k4,bV];obtain⟨bq,bp⟩:=U;refine af ?_;repeat' (intro h<;>simp only[h,go_sem,go_sem_proc,w6,bq,bp]<;>try refine ab ?_ ?_)
def On:=bG k4 λ(s,l,s2,X)=>b8 (D l<=1000000/\D X<=1000000) (.same (.bool (!cy ((s,l),(s2,X)))))
@[go_sem] def aoc (s l s2 X):=cj On rfl uc (s,l,s2,X) rfl
def aod (T:bg)(ig:T mu=aE vh):WF T ach On:=by
 refine b5 λ(s,l,s2,X)=>cn λU=>⟨rfl,b4 ?_⟩;simp only[ach,k4,bV];obtain⟨bq,bp⟩:=U;refine af ?_;repeat' (intro h<;>simp only[h,go_sem,go_sem_proc,ig,bq,bp]<;>try refine ab ?_ ?_)
def Oo:=bG k4 λ(s,l,s2,X)=>b8 (D l<=1000000/\D X<=1000000) (.same (.bool (!(s==0))))
@[go_sem] def aoe (s l s2 X):=cj Oo rfl uc (s,l,s2,X) rfl
def aof (T:bg):WF T acd Oo:=by
 refine b5 λ(s,l,s2,X)=>cn λU=>⟨rfl,b4 ?_⟩;simp only[acd,k4,bV];obtain⟨bq,bp⟩:=U;refine af ?_;repeat' (intro h<;>simp only[h,go_sem,go_sem_proc,bq,bp]<;>try refine ab ?_ ?_)
def Oq:=bG k4 λ(s,l,s2,X)=>b8 (D l<=1000000/\D X<=1000000) (.same (.bool (!g3 ((s,l),(s2,X))||(s==0))))
@[go_sem] def aog (s l s2 X):=cj Oq rfl uc (s,l,s2,X) rfl
def aoh (T:bg)(w6:T B2=aE FG):WF T acf Oq:=by
 refine b5 λ(s,l,s2,X)=>cn λU=>⟨rfl,b4 ?_⟩;simp only[acf,k4,bV];obtain⟨bq,bp⟩:=U;rcases L:g3 ((s,l),(s2,X))
 ·refine af ?_;repeat' (intro h<;>simp only[h,go_sem,go_sem_proc,w6,bq,bp,L]<;>try refine ab ?_ ?_)
 ·refine af ?_;repeat' (intro h<;>simp only[h,go_sem,go_sem_proc,w6,bq,bp,L]<;>try refine ab ?_ ?_)
def w7 {α:Type}(p:α->Bool)(l:List α):Int:=match l.findIdx? p with
 |some i=>i
 |none => -1
def Uk {α:Type}{p:α->Bool}{l:List α}{i:Nat}(h:∀x∈l.take i,p x=false){x:α}(J:l[i]?=some x)(aP:p x=true):w7 p l=i:=by
 unfold w7
 have:l.findIdx? p=some i:=by
  rw[acw];obtain⟨an,rfl⟩:=dK.1 J;refine⟨an,aP,λj Y=>?_⟩;have:=h l[j] (yd.2 ⟨j,by rw[List.getElem?_take_of_lt Y];exact bc _⟩);rw[this];decide
 rw[this]
def Ul {α:Type}{p:α->Bool}{l:List α}(h:∀x∈l,p x=false):w7 p l = -1:=by
 unfold w7;rw[acx.2 h]
def Um {α:Type}(p:α->Bool)(l:List α):decide (w7 p l>=0)=l.any p:=by
 unfold w7
 cases h:l.findIdx? p with
 |none =>
  have:=acx.1 h;have G:l.any p=false:=by rw[sN];intro x J;simp[this x J]
  rw[G];rfl
 |some i =>
  rw[acw] at h;obtain⟨F,G,-⟩:=h;have aa:l.any p=true:=List.any_eq_true.2 ⟨_,ha F,G⟩;rw[aa];exact mL (by simp)
def pS (f:av):Bool:=!cy f
def m7 (f:FuncId):av->Bool:=if f=va then λx => !g3 x else if f=u7 then λx => !(x.1.1==0) else if f=u9 then λx => !g3 x||(x.1.1==0) else if f=EW then λx => !cy x||decide (x.1.1<0) else if f=B0 then λx => !(cy x&&decide (x.1.1>=0)) else pS
def aoi (f:FuncId):List Data:=if f=B0 then [.ptr [.fn ZT []]] else []
@[go_sem] def aoj:m7 sr=pS:=by
 unfold m7;rw[aR (nu rfl),aR (nu rfl),aR (nu rfl),aR (nu rfl),aR (nu rfl)]
@[go_sem] def aok:m7 EW=λx => !cy x||decide (x.1.1<0):=by
 unfold m7;rw[aR (nu rfl),aR (nu rfl),aR (nu rfl),aJ rfl]
def aol:m7 B0=λx => !(cy x&&decide (x.1.1>=0)):=by
 unfold m7;rw[aR (nu rfl),aR (nu rfl),aR (nu rfl),aR (nu rfl),aJ rfl]
@[go_sem] def aom:m7 va=λx => !g3 x:=by
 unfold m7;rw[aJ rfl]
@[go_sem] def Un:m7 wH=pS:=by
 unfold m7;rw[aR (nu rfl),aR (nu rfl),aR (nu rfl),aR (nu rfl),aR (nu rfl)]
@[go_sem] def Uo:m7 u7=λx => !(x.1.1==0):=by
 unfold m7;rw[aR (nu rfl),aJ rfl]
@[go_sem] def Up:m7 u9=λx => !g3 x||(x.1.1==0):=by
 unfold m7;rw[aR (nu rfl),aR (nu rfl),aJ rfl]
def vm {α:Type}{p:α->Bool}{l:List α}{i:Nat}(h:∀x∈l.take i,p x=false){x:α}(J:l[i]?=some x)(aP:p x=false):∀y∈l.take (i+1),p y=false:=by
 intro y ai;rw[hn,J] at ai;simp only[Option.toList_some,h5,sE] at ai;rcases ai with ai|rfl
 ·exact h y ai
 ·exact aP
def Cz {T:bg}{c:e0}{K:fC->a6->Prop}{st:a6}(h:wp T c K st):wp T c (cM T K []) st:=by
 have:cM T K []=K:=by funext e st;cases e<;>rfl
 rwa [this]
def CA (T:bg)(id:FuncId)(dc:List Data)(cm:List Data->Option di)(cu:T id=aE cm)(p:av->Bool)(l:List av)(ae:ih l)(ej:∀a b c d,D b<=1000000->(D d)<=1000000->cm (.agg [.int .i64 a,.ao (b.map aG),.int .i64 c,.ao (d.map aG)]::dc)=some (.same (.bool (p ((a,b),(c,d)))))):
  wp T IY.body (tB IY.res (.same (.int .i64 (w7 p l)))) ⟨ke [.I (.ao (l.map ar)),.I (.fn id dc)],emp⟩:=by
 obtain⟨ae,dx⟩:=ae;refine xX ?_;simp only[IY];simp only[go_sem,go_sem_proc,ah];refine cV [0,1,7] [] (λ(i:Nat) tm mem=>i<=D l/\(∀x∈l.take i,p x=false)/\tm 8=.I (.int .i64 i)) (λi=>D l-i) 0 (by refine⟨dF _,by simp,rfl⟩) ?_;intro vs ms aI aD;simp only[go_sem,go_sem_proc,ah] at aI aD;subst aI aD;rintro i tm mem Q hm ⟨Z,cX,ca⟩;simp only[go_sem,go_sem_proc,bj] at Q hm;obtain⟨aq,F,bK⟩:=Q;have Fg:∀m:Mem,(dc.map H.I).mapM (cL 6 m)=some dc:=λm=>z1 (cL 6 m) (λd=>rfl) dc;rcases dt (i<D l) with an|bB
 ·have J:=bc an;obtain⟨ey,eR⟩:=dx _ (ha an);have g9:=λh=>Uk (p:=p) cX J h;have jo:=λh=>vm (p:=p) cX J h;generalize l[i]=x at *;obtain⟨⟨dz,dI⟩,⟨eo,eA⟩⟩:=x;have Ot:=ej dz dI eo eA ey eR;have kK:decide ((i:Int)<(D l:Int))=true:=c5;have hw:=e1 (i:=i) (by omega);rcases R:p ((dz,dI),(eo,eA))
  ·rw[R] at Ot;refine af ?_;repeat' (intro (ag:_=_)<;>simp only[ag,go_sem,go_sem_proc,cu,aq,F,bK,ca,J,kK,hw,Ot,Fg,ar,ah,bd,zZ]<;>try refine ab ?_ ?_)
   exact⟨i+1,by omega,by omega,jo R,rfl⟩
  ·rw[R] at Ot;rw[g9 R];refine af ?_;repeat' (intro (ag:_=_)<;>simp only[ag,go_sem,go_sem_proc,cu,aq,F,bK,ca,J,kK,hw,Ot,Fg,ar,ah,bd,zZ]<;>try refine ab ?_ ?_)
 ·have kK:decide ((i:Int)<(D l:Int))=false:=de;obtain rfl:i=D l:=by omega
  rw[mB] at cX;rw[Ul cX];refine af ?_;repeat' (intro (ag:_=_)<;>simp only[ag,go_sem,go_sem_proc,aq,F,bK,ca,kK,ah]<;>try refine ab ?_ ?_)
def acy (f:FuncId):Prop:=f=sr\/(f=EW/\EW<900000)\/(f=B0/\B0<900000)\/(f=va/\va<900000)\/(f=wH/\wH<900000)\/(f=u7/\u7<900000)\/(f=u9/\u9<900000)
abbrev FH:(List av)×FuncId->List Data:=λ(l,f)=>[.ao (l.map ar),.fn f (aoi f)]
def Ou:=bG FH λ(l,f)=>b8 (ih l/\acy f) (.same (.int .i64 (w7 (m7 f) l)))
def acz:∀a b,FH a=FH b->a=b:=by
  rintro⟨hZ,f1⟩ ⟨X,f2⟩ h;simp only[bj,Data.ao.injEq,Data.fn.injEq] at h;exact cx (map_inj j1 _ _ h.1) h.2.1.1
@[go_sem] def aAi (l f):=cj Ou rfl acz (l,f) rfl
def aon (T:bg)(JH:T sr=aE JG)(aoo:EW<900000->T EW=aE acu)(aop:B0<900000->T B0=aE acv)(aoq:va<900000->T va=aE Om)(aor:wH<900000->T wH=aE On)(aos:u7<900000->T u7=aE Oo)(aot:u9<900000->T u9=aE Oq):WF T IY Ou:=by
 refine b5 λ(l,f)=>cn λU=>⟨rfl,b4 ?_⟩;simp only[IY,FH,bV];obtain⟨ae,aj⟩:=U;rcases aj with rfl|⟨rfl,Z⟩|⟨rfl,Z⟩|⟨rfl,Z⟩|⟨rfl,Z⟩|⟨rfl,Z⟩|⟨rfl,Z⟩
 ·rw[aoj];exact Cz (CA T _ _ _ JH pS l ae λa b c d F G=>an4 a b c d ⟨F,G⟩)
 ·rw[aok];exact Cz (CA T _ _ _ (aoo Z) (λx => !cy x||decide (x.1.1<0)) l ae λa b c d F G=>an6 a b c d ⟨F,G⟩)
 ·rw[aol];exact Cz (CA T _ _ _ (aop Z) (λx => !(cy x&&decide (x.1.1>=0))) l ae λa b c d F G=>an8 a b c d ⟨F,G⟩)
 ·rw[aom];exact Cz (CA T _ _ _ (aoq Z) (λx => !g3 x) l ae λa b c d F G=>aoa a b c d ⟨F,G⟩)
 ·rw[Un];exact Cz (CA T _ _ _ (aor Z) pS l ae λa b c d F G=>aoc a b c d ⟨F,G⟩)
 ·rw[Uo];exact Cz (CA T _ _ _ (aos Z) (λx => !(x.1.1==0)) l ae λa b c d F G=>aoe a b c d ⟨F,G⟩)
 ·rw[Up];exact Cz (CA T _ _ _ (aot Z) (λx => !g3 x||(x.1.1==0)) l ae λa b c d F G=>aog a b c d ⟨F,G⟩)
def sO:=bG FH λ(l,f)=>b8 (ih l/\acy f) (.same (.bool (l.any (m7 f))))
@[go_sem] def JI (l f):=cj sO rfl acz (l,f) rfl
def aou (T:bg)(aov:T SD=aE Ou):WF T aag sO:=by
 refine b5 λ(l,f)=>cn λU=>⟨rfl,b4 ?_⟩;simp only[aag,FH,bV];rw[<-Um];refine af ?_;repeat' (intro h<;>simp only[h,go_sem,go_sem_proc,aov,U]<;>try refine ab ?_ ?_)
@[go_sem] def aAj (l:List av)(h:ih l):sO [.ao (l.map ar),.fn sr []]=some (.same (.bool (l.any (m7 sr)))):=JI l sr ⟨h,.inl rfl⟩
@[go_sem] def aAk (l:List av)(h:ih l):sO [.ao (l.map ar),.fn va []]=some (.same (.bool (l.any (m7 va)))):=JI l va ⟨h,.inr (.inr (.inr (.inl ⟨rfl,by decide⟩)))⟩
@[go_sem] def acA (l:List av)(h:ih l):sO [.ao (l.map ar),.fn wH []]=some (.same (.bool (l.any (m7 wH)))):=JI l wH ⟨h,.inr (.inr (.inr (.inr (.inl ⟨rfl,by decide⟩))))⟩
@[go_sem] def acB (l:List av)(h:ih l):sO [.ao (l.map ar),.fn u7 []]=some (.same (.bool (l.any (m7 u7)))):=JI l u7 ⟨h,.inr (.inr (.inr (.inr (.inr (.inl ⟨rfl,by decide⟩)))))⟩
@[go_sem] def acC (l:List av)(h:ih l):sO [.ao (l.map ar),.fn u9 []]=some (.same (.bool (l.any (m7 u9)))):=JI l u9 ⟨h,.inr (.inr (.inr (.inr (.inr (.inr ⟨rfl,by decide⟩)))))⟩
def nU (n:Int)(r:b9):Bool:=!(((r.1.length:Int)==n)&&(cy r.2 && !(r.1.any pS)))
abbrev Ov:(List av)×Int×(List Int)×Int×(List Int)×Int->List Data:=λ(a,s,l,s2,X,n)=>[.agg [.ao (a.map ar),.int .i64 s,.ao (l.map aG),.int .i64 s2,.ao (X.map aG)],.ptr [.int .i64 n],.ptr [.fn sr []]]
def Ow:=bG Ov λ(a,s,l,s2,X,n)=>b8 (ih a/\D l<=1000000/\D X<=1000000) (.same (.bool (nU n (a,((s,l),(s2,X))))))
def aow:∀a b,Ov a=Ov b->a=b:=by
  rintro⟨dw,s1,hZ,tX,sG,rb⟩ ⟨dV,s2,X,tY,sH,re⟩ h;simp only[bj,Data.agg.injEq,Data.int.injEq,Data.ao.injEq,Data.ptr.injEq] at h;exact cx (map_inj j1 _ _ h.1.1) (cx h.1.2.1.2 (cx (map_inj fW _ _ h.1.2.2.1) (cx h.1.2.2.2.1.2 (cx (map_inj fW _ _ h.1.2.2.2.2.1) h.2.1.1.2))))
@[go_sem] def aAl (a s l s2 X n):=cj Ow rfl aow (a,s,l,s2,X,n) rfl
def aox (T:bg)(JH:T sr=aE JG)(gP:T tH=aE sO):WF T ab9 Ow:=by
 refine b5 λ(a,s,l,s2,X,n)=>cn λU=>⟨rfl,b4 ?_⟩;simp only[ab9,Ov,bV];obtain⟨ba,bq,bp⟩:=U;unfold nU;rcases F:((D a:Int)==n)
 ·refine af ?_;repeat' (intro h<;>simp only[h,go_sem,go_sem_proc,JH,gP,ba,bq,bp,F,ah]<;>try refine ab ?_ ?_)
 ·rcases G:cy ((s,l),(s2,X))
  ·refine af ?_;repeat' (intro h<;>simp only[h,go_sem,go_sem_proc,JH,gP,ba,bq,bp,F,G,ah]<;>try refine ab ?_ ?_)
  ·refine af ?_;repeat' (intro h<;>simp only[h,go_sem,go_sem_proc,JH,gP,ba,bq,bp,F,G,ah,show (sr=sr)=True from by simp,true_or,Bool.not_not]<;>try refine ab ?_ ?_)
abbrev FI:(List b9)×Int->List Data:=λ(rs,n)=>[.ao (rs.map cE),.fn Nl [.ptr [.int .i64 n],.ptr [.fn sr []]]]
def Ox:=bG FI λ(rs,n)=>b8 (qK rs) (.same (.int .i64 (w7 (nU n) rs)))
def acD:∀a b,FI a=FI b->a=b:=by
  rintro⟨Oy,rb⟩ ⟨Oz,re⟩ h;simp only[bj,Data.ao.injEq,Data.fn.injEq,Data.ptr.injEq,Data.int.injEq] at h;exact cx (map_inj Aw _ _ h.1) h.2.1.2.1.1.2
@[go_sem] def aAm (rs n):=cj Ox rfl acD (rs,n) rfl
def aoy (T:bg)(FJ:T Nl=aE Ow):WF T aai Ox:=by
 refine b5 λ(rs,n)=>cn λU=>⟨rfl,b4 ?_⟩;simp only[aai,FI,bV];obtain⟨ae,dx⟩:=U;simp only[go_sem,go_sem_proc,FJ,ah];refine cV [0,1,7] [] (λ(i:Nat) tm mem=>i<=D rs/\(∀x∈rs.take i,nU n x=false)/\tm 8=.I (.int .i64 i)) (λi=>D rs-i) 0 (by refine⟨dF _,?_,rfl⟩;simp) ?_;intro vs ms aI aD;simp only[go_sem,go_sem_proc,FJ,ah] at aI aD;subst aI aD;rintro i tm mem Q hm ⟨Z,cX,ca⟩;simp only[go_sem,go_sem_proc,FJ,bj] at Q hm;obtain⟨aq,F,bK⟩:=Q;rcases dt (i<D rs) with an|bB
 ·have J:=bc an;obtain⟨JC,ey,eR⟩:=dx _ (ha an);have g9:=λh=>Uk (p:=nU n) cX J h;have jo:=λh=>vm (p:=nU n) cX J h;generalize rs[i]=x at *;have kK:decide ((i:Int)<(D rs:Int))=true:=c5;have hw:=e1 (i:=i) (by omega);obtain⟨a,⟨dz,dI⟩,⟨eo,eA⟩⟩:=x;dsimp only at JC ey eR;rcases R:nU n (a,((dz,dI),(eo,eA)))
  ·refine af ?_;repeat' (intro (ag:_=_)<;>simp only[ag,go_sem,go_sem_proc,FJ,aq,F,bK,ca,J,kK,hw,JC,ey,eR,R,ah,bd,cE,ar]<;>try refine ab ?_ ?_)
   exact⟨i+1,by omega,by omega,jo R,rfl⟩
  ·rw[g9 R];refine af ?_;repeat' (intro (ag:_=_)<;>simp only[ag,go_sem,go_sem_proc,FJ,aq,F,bK,ca,J,kK,hw,JC,ey,eR,R,ah,bd,cE,ar]<;>try refine ab ?_ ?_)
 ·have kK:decide ((i:Int)<(D rs:Int))=false:=de;have js:i=D rs:=by omega
  subst js;rw[mB] at cX;rw[Ul cX];refine af ?_;repeat' (intro (ag:_=_)<;>simp only[ag,go_sem,go_sem_proc,FJ,aq,F,bK,ca,kK,ah]<;>try refine ab ?_ ?_)
def OA:=bG FI λ(rs,n)=>b8 (qK rs) (.same (.bool (rs.any (nU n))))
@[go_sem] def aAn (rs n):=cj OA rfl acD (rs,n) rfl
def aoz (T:bg)(aoA:T SC=aE Ox):WF T aaf OA:=by
 refine b5 λ(rs,n)=>cn λU=>⟨rfl,b4 ?_⟩;simp only[aaf,FI,bV];rw[<-Um];refine af ?_;repeat' (intro h<;>simp only[h,go_sem,go_sem_proc,aoA,U]<;>try refine ab ?_ ?_)
def nV (rs:List b9)(n:Int):Bool:=!(decide (n<0))&&(!(decide (n>40))&&(((D rs:Int)==n) && !(rs.any (nU n))))
abbrev w8:(List b9)×Int->List Data:=λ(rs,n)=>[.ao (rs.map cE),.int .i64 n]
def OB:=bG w8 λ(rs,n)=>b8 (qK rs) (.same (.bool (nV rs n)))
def OC:∀a b,w8 a=w8 b->a=b:=by
  rintro⟨Oy,rb⟩ ⟨Oz,re⟩ h;simp only[bj,Data.ao.injEq,Data.int.injEq] at h;exact cx (map_inj Aw _ _ h.1) h.2.1.2
@[go_sem] def aAo (rs n):=cj OB rfl OC (rs,n) rfl
def aoB (T:bg)(OD:T Sy=aE OA):WF T ab6 OB:=by
 refine b5 λ(rs,n)=>cn λU=>⟨rfl,b4 ?_⟩;simp only[ab6,w8,bV];unfold nV;rcases F:decide (n<0)
 ·rcases G:decide (n>40)
  ·rcases aa:((D rs:Int)==n)
   ·refine af ?_;repeat' (intro h<;>simp only[h,go_sem,go_sem_proc,OD,U,F,G,aa,ah]<;>try refine ab ?_ ?_)
   ·refine af ?_;repeat' (intro h<;>simp only[h,go_sem,go_sem_proc,OD,U,F,G,aa,ah,cL,rW,o1,scalar]<;>try refine ab ?_ ?_)
  ·refine af ?_;repeat' (intro h<;>simp only[h,go_sem,go_sem_proc,OD,U,F,G,ah]<;>try refine ab ?_ ?_)
 ·refine af ?_;repeat' (intro h<;>simp only[h,go_sem,go_sem_proc,OD,U,F,ah]<;>try refine ab ?_ ?_)
def acE {es:List (List Data)}(h:∀x∈es,Fit (.int .i64) x):∃l:List Int,es=l.map aG:=by
 obtain⟨l,e,-⟩:=Nj (e:=aG) (good:=λ_=>True) λx J=>by
  have:=h x J;simp only[Fit] at this;obtain⟨n,rfl,-⟩:=this;exact⟨n,rfl,trivial⟩
 exact⟨l,e⟩
def acF {x:List Data}(h:Fits [.st [.int .i64,.ao (.int .i64)],.st [.int .i64,.ao (.int .i64)]] x):∃f:av,x=ar f:=by
 simp only[Fit,Fits] at h;obtain⟨_,_,rfl,⟨_,_,rfl,⟨s,rfl,-⟩,_,_,rfl,⟨es,rfl,-,F⟩,rfl⟩,_,_,rfl,⟨_,_,rfl,⟨s2,rfl,-⟩,_,_,rfl,⟨acG,rfl,-,G⟩,rfl⟩,rfl⟩:=h;obtain⟨l,rfl⟩:=acE λx J=>by simp only[Fit];exact F x J
 obtain⟨X,rfl⟩:=acE λx J=>by simp only[Fit];exact G x J
 exact⟨((s,l),(s2,X)),rfl⟩
def Uq {es:List (List Data)}(h:∀x∈es,Fit (.st [.st [.int .i64,.ao (.int .i64)],.st [.int .i64,.ao (.int .i64)]]) x):∃l:List av,es=l.map ar:=by
 obtain⟨l,e,-⟩:=Nj (e:=ar) (good:=λ_=>True) λx J=>by
  have:=h x J;unfold Fit at this;obtain⟨f,rfl⟩:=acF this;exact⟨f,rfl,trivial⟩
 exact⟨l,e⟩
end Go.Mini
namespace Go.Mini
open Go
variable {P:Program} {A:Nat->Prop} {w ak:World} {B ay:cS} {mem mem':Mem}
structure nv (P:Program) (f:FuncId) (da:List H->Mem->Option gG):Prop where
 real:Real P f
 run:∀args mem oa,da args mem=some oa->∀A w B vs,dP A w B mem->cA w (bn A B) B args vs->RJ P f vs A w B mem oa
def ue (res:List ku)(bF:H->Mem->Prop):fC->a6->Prop
 |.exit _,_=>False
 |.normal,st=>∃m,jO st res=some m/\bF m st.mem
 |.ret,st=>∃m,jO st res=some m/\bF m st.mem
@[go_sem] def aAp {res:List ku}{st:a6}(bF:H->Mem->Prop)(id:Nat):ue res bF (.exit id) st=False:=bs
@[go_sem] def aAq {res:List ku}{st:a6}(bF:H->Mem->Prop):ue res bF .normal st=∃m,jO st res=some m/\bF m st.mem:=bs
@[go_sem] def aAr {res:List ku}{st:a6}(bF:H->Mem->Prop):ue res bF .ret st=∃m,jO st res=some m/\bF m st.mem:=bs
def Ur {mf:bE}{bF:H->Mem->Prop}{e:fC}{st:a6}(h:ue mf.res bF e st):R4 mf bF e st:=by
 cases e with
 |exit id=>exact h
 |normal=>exact h
 |ret=>exact h
def Us {kb : Nat}{own : List Nat}{f : FuncId}{fn : Func}{mf : bE}(aj : P.funcs[f]? = some fn)(sj : (fn.name == "runtime.NumGoroutine") = false)(aw : pz P kb own fn = some mf): Real P f := by
 cases R:fn.body with
 |none=>simp[pz,R] at aw
 |some c=>exact⟨fn,c,aj,R,sj⟩
def yV (a3:List H->Mem->Option (H->Mem->Prop))(args:List H)(mem:Mem):Option gG:=(a3 args mem).map .rel
@[go_sem] def aAs (a3:List H->Mem->Option (H->Mem->Prop))(args:List H)(mem:Mem):yV a3 args mem=(a3 args mem).map .rel:=bs
def Ut {T : bg}{kb : Nat}{own : List Nat}(cu : nh P T)(hm : P.follows .mixedOrders = true){f : FuncId}{fn : Func}{mf : bE}(aj : P.funcs[f]? = some fn)(sj : (fn.name == "runtime.NumGoroutine") = false)(aw : pz P kb own fn = some { mf with body := erase mf.body })
  {a3:List H->Mem->Option (H->Mem->Prop)} (h:∀args mem bF,a3 args mem=some bF->(D args)<=mf.n/\wp T mf.body (ue mf.res bF) ⟨ke args,mem⟩):nv P f (yV a3):=by
 refine⟨Us aj sj aw,λargs mem oa dN A w B vs bh al=>?_⟩;unfold yV at dN;rw[c2] at dN;obtain⟨bF,ec,rfl⟩:=dN;obtain⟨hlen,yb⟩:=h args mem bF ec;refine Calls.mono (Ij (Post:=bF) cu hm aj aw hlen (λe st Q=>Ur Q) yb bh al) λe ak he=>?_;obtain⟨v,m,mem',ay,rfl,O,kR,aP⟩:=he;exact⟨v,m,mem',ay,rfl,O,kR,aP⟩
inductive qL (cQ:Key->Prop):H->Prop
 |I {d:Data}:qL cQ (.I d)
 |nil:qL cQ .nil
 |ref {k g sz off len:Nat} (h:¬ cQ k):qL cQ (.ref k g sz off len)
 |ptr {k g off:Nat} (h:¬ cQ k):qL cQ (.ptr k g off)
 |ee {f:FuncId} {dc:List H} (h:∀(i:Nat) (m:H),dc[i]?=some m->qL cQ m):qL cQ (.ee f dc)
 |agg {cs:List H} (h:∀(i:Nat) (m:H),cs[i]?=some m->qL cQ m):qL cQ (.agg cs)
 |dp {cs:List H} (h:∀(i:Nat) (m:H),cs[i]?=some m->qL cQ m):qL cQ (.dp cs)
 |hB {k g:Nat} (h:¬ cQ k):qL cQ (.hB k g)
 |no:qL cQ .no
 |undef:qL cQ .undef
def clean_of {cQ:Key->Prop}{au:Nat->Prop}(vn:∀k,cQ k->B k=none){m:H}{v:Value}(h:aY w au B m v):qL cQ m:=by
 induction h with
 |I h=>exact .I
 |nil=>exact .nil
 |ref he aL al=>exact .ref λY=>by rw[vn _ Y] at he;cases he
 |ptr he aL al=>exact .ptr λY=>by rw[vn _ Y] at he;cases he
 |hB he aL al=>exact .hB λY=>by rw[vn _ Y] at he;cases he
 |ee ae ad a2=>exact .ee λi m Z=>a2 i m _ Z (bc (by have an:=(dK.1 Z).1;omega))
 |agg ae ad a2=>exact .agg λi m Z=>a2 i m _ Z (bc (by have an:=(dK.1 Z).1;omega))
 |dp ae ad a2=>exact .dp λi m Z=>a2 i m _ Z (bc (by have an:=(dK.1 Z).1;omega))
 |no=>exact .no
 |undef=>exact .undef
open Classical in
def sP (cQ:Key->Prop)(B:cS):cS:=λk=>if cQ k then none else B k
def CB {cQ:Key->Prop}{b:Nat}(h:n3 (sP cQ B) b):n3 B b:=by
 obtain⟨k,e,he,R⟩:=h;unfold sP at he
 split at he
 ·cases he
 ·exact⟨k,e,he,R⟩
def aoC {cQ:Key->Prop}{m:H}{v:Value}(h:aY w (bn A B) B m v)(U:qL cQ m):aY w (bn A (sP cQ B)) (sP cQ B) m v:=by
 have at_:∀{k:Key} {e:ht},¬ cQ k->B k=some e->sP cQ B k=some e:=λQ he=>by unfold sP;rw[aR Q];exact he
 induction h with
 |I h=>exact .I (h.less λb R=>R.imp CB id)
 |nil=>exact .nil
 |ref he aL al=>cases U with|ref Q=>exact .ref (at_ Q he) aL al
 |ptr he aL al=>cases U with|ptr Q=>exact .ptr (at_ Q he) aL al
 |hB he aL al=>cases U with|hB Q=>exact .hB (at_ Q he) aL al
 |ee ae ad a2=>cases U with|ee U=>exact .ee ae λi d v Z al=>a2 i d v Z al (U i d Z)
 |agg ae ad a2=>cases U with|agg U=>exact .agg ae λi d v Z al=>a2 i d v Z al (U i d Z)
 |dp ae ad a2=>cases U with|dp U=>exact .dp ae λi d v Z al=>a2 i d v Z al (U i d Z)
 |no=>exact .no
 |undef=>exact .undef
def c9.drop {cQ:Key->Prop}{OE:Mem}(aq:dP A w B mem)(vn:∀k,cQ k->mem k=none)(h:c9 A w B ak ay mem')(F:∀k,cQ k->OE k=none)(G:∀k,¬ cQ k->OE k=mem' k)
  (U:∀k g cs,OE k=some (g,cs)->∀m∈cs,(∃d,m=.I d)\/∃ep H4 sd,mem ep=some (H4,sd)/\m∈sd):c9 A w B ak (sP cQ ay) OE:=by
 have n9:∀k,cQ k->B k=none:=λk Q=>aq.rT k (vn k Q);have at_:∀{k:Key},¬ cQ k->sP cQ ay k=ay k:=λQ=>by unfold sP;rw[aR Q]
 have Uu:∀{k:Key},cQ k->sP cQ ay k=none:=λQ=>by unfold sP;rw[aJ Q]
 refine⟨⟨λk Q=>?_,λk k' e e' b he eK R hD=>?_,λb ba a4=>h.cr.sep b ba (CB a4),h.cr.lt,h.cr.gl,λb o R a4=>h.cr.v7 b o R (CB a4),λk g cs Q=>?_⟩,⟨h.iH.size,λb R a4=>?_,λk e he=>?_⟩,h.fY,λb R=>h.fresh b (CB R)⟩
 ·by_cases Y:cQ k
  ·exact Uu Y
  ·rw[at_ Y];exact h.cr.rT k (by rw[<-G k Y];exact Q)
 ·by_cases Y:cQ k
  ·rw[Uu Y] at he;cases he
  ·by_cases kf:cQ k'
   ·rw[Uu kf] at eK;cases eK
   ·rw[at_ Y] at he;rw[at_ kf] at eK;exact h.cr.inj k k' e e' b he eK R hD
 ·by_cases Y:cQ k
  ·rw[F k Y] at Q;cases Q
  ·obtain⟨e,he,aL,aA,R⟩:=h.cr.dj k g cs (by rw[<-G k Y];exact Q);refine⟨e,by rw[at_ Y];exact he,aL,aA,λb fV=>?_⟩
   refine (R b fV).imp rfl rfl λm Z v jm=>aoC jm ?_;rcases U k g cs Q m Z with ⟨d,rfl⟩|⟨ep,H4,sd,oK,gJ⟩
   ·exact .I
   ·obtain⟨fH,sa,rp,qp,Ac⟩:=aq.dj ep H4 sd oK
    cases Fa:fH.dj with
    |none=>rw[qp Fa] at gJ;cases gJ
    |some rk =>
     obtain⟨v0,aoD⟩:=(Ac rk Fa).has m gJ;exact clean_of n9 aoD
 ·obtain⟨aa,aX⟩:=h.iH.DV b R a4;exact⟨aa,λJ=>aX (CB J)⟩
 ·have Y:¬ cQ k:=λY=>by rw[n9 k Y] at he;cases he
  rw[at_ Y];exact h.iH.key k e he
def Ax (CC:List H->Mem->Option (Data×Key×Nat×Nat×Data))(args:List H)(mem:Mem):Option gG:=(CC args mem).map λx => .dZ x.1 x.2.1 x.2.2.1 x.2.2.2.1 (.I x.2.2.2.2)
@[go_sem] def aAt (CC:List H->Mem->Option (Data×Key×Nat×Nat×Data))(args:List H)(mem:Mem):Ax CC args mem=(CC args mem).map λx => .dZ x.1 x.2.1 x.2.2.1 x.2.2.2.1 (.I x.2.2.2.2):=bs
def aoE {T : bg}{kb : Nat}{own : List Nat}(cu : nh P T)(hm : P.follows .mixedOrders = true){f : FuncId}{fn : Func}{mf : bE}(aj : P.funcs[f]? = some fn)(sj : (fn.name == "runtime.NumGoroutine") = false)(aw : pz P kb own fn = some { mf with body := erase mf.body })
  (cQ:Key->Prop) {CC:List H->Mem->Option (Data×Key×Nat×Nat×Data)}
  (h:∀args mem r k g i d,CC args mem=some (r,k,g,i,d)->(D args)<=mf.n/\(∀j,cQ j->mem j=none)/\¬ cQ k/\(∃cs,mem k=some (g,cs)) /\
   wp T mf.body (ue mf.res λm mem'=>cL 6 emp m=some r/\∀j,¬ cQ j->mem' j=aT mem k g ((qe mem k).set i (.I d)) j) ⟨ke args,mem⟩):nv P f (Ax CC):=by
 refine⟨Us aj sj aw,λargs mem oa dN A w B vs bh al=>?_⟩;unfold Ax at dN;rw[c2] at dN;obtain⟨⟨r,k,g,i,d⟩,FK,rfl⟩:=dN;obtain⟨hlen,vn,Q,⟨cs,iJ⟩,yb⟩:=h args mem r k g i d FK;refine Calls.mono (Ij (Post:=λm mem'=>cL 6 emp m=some r/\∀j,¬ cQ j->mem' j=aT mem k g ((qe mem k).set i (.I d)) j) cu hm aj aw hlen (λe st Q=>Ur Q) yb bh al) λe ak he=>?_;obtain⟨v,m,mem',ay,rfl,O,kR,ad,gJ⟩:=he;refine⟨v,sP cQ ay,rfl,O.drop bh vn (λj Y=>?_) (λj Y=>(gJ j Y).symm) ?_,.I ((R6 6 m v r ad kR).less λb R=>R.imp CB id)⟩
 ·have:j≠k:=λe=>Q (e ▸ Y);simp only[aT,this,if_false];exact vn j Y
 ·intro c3 cO HS G m wS
  by_cases MA:c3=k
  ·subst MA;simp only[aT,if_true,bM,eL] at G;obtain⟨-,rfl⟩:=G;rcases nW wS with J|rfl
   ·refine .inr ⟨c3,g,cs,iJ,?_⟩
    simpa [qe,iJ] using J
   ·exact .inl ⟨d,rfl⟩
  ·simp only[aT,MA,if_false] at G;exact .inr ⟨c3,cO,HS,G,wS⟩
def Uv:Option gG->Option gG->Option gG
 |some x,_=>some x
 |none,e=>e
@[go_sem] def aAu (x:gG)(e:Option gG):Uv (some x) e=some x:=bs
@[go_sem] def aAv (e:Option gG):Uv none e=e:=bs
def sQ (gm:FuncId->Option (List Data->Option di))(rz:FuncId->Option (List H->Mem->Option gG)):bg:=λf args mem=>match rz f with
 |some da=>Uv (da args mem) (u1 gm f args mem)
 |none=>u1 gm f args mem
def vo {gm:FuncId->Option (List Data->Option di)}{rz:FuncId->Option (List H->Mem->Option gG)}(h:∀f cm,gm f=some cm->hY P f cm)(L:∀f da,rz f=some da->nv P f da):nh P (sQ gm rz):=by
 intro f args mem oa cu;unfold sQ at cu
 split at cu
 ·rename_i da dN;have O:=L f da dN
  cases J:da args mem with
  |none =>
   rw[J] at cu;exact R7 h f args mem oa cu
  |some y =>
   rw[J] at cu
   cases cu;exact⟨O.real,λA w B vs bh al=>O.run args mem oa J A w B vs bh al⟩
 ·exact R7 h f args mem oa cu
def Iv.acH {f:FuncId}{bf:List H->Mem->Option (H×Mem)}(h:Iv P f bf):nv P f (z3 bf):=by
 refine⟨h.real,λargs mem oa dN A w B vs bh al=>?_⟩;unfold z3 at dN;rw[c2] at dN;obtain⟨x,J,rfl⟩:=dN;exact h.run args mem x J A w B vs bh al
section
variable {gm:FuncId->Option (List Data->Option di)} {rz:FuncId->Option (List H->Mem->Option gG)} {f:FuncId}
def uf {cm:List Data->Option di}(h:rz f=none)(cG:gm f=some cm):sQ gm rz f=aE cm:=by
 funext args mem
 unfold sQ;rw[h];exact congrFun (congrFun (Zw cG) args) mem
def FL {da:List H->Mem->Option gG}(h:rz f=some da)(cG:gm f=none):sQ gm rz f=da:=by
 funext args mem
 unfold sQ u1;rw[h,cG];dsimp only
 cases da args mem<;>rfl
def FM {cm:List Data->Option di}{bf:List H->Mem->Option (H×Mem)}(h:rz f=some (z3 bf))(cG:gm f=some cm):sQ gm rz f=yg cm bf:=by
 funext args mem
 unfold sQ;rw[h];unfold yg z3;rw[show u1 gm f args mem=aE cm args mem from congrFun (congrFun (Zw cG) args) mem];dsimp only
 cases bf args mem<;>rfl
end
def FN (l:List (FuncId×(List H->Mem->Option gG))):FuncId->Option (List H->Mem->Option gG):=λf=>(l.find? λp=>p.1==f).map (·.2)
def vp {l:List (FuncId×(List H->Mem->Option gG))}(h:∀p∈l,nv P p.1 p.2):∀f bf,FN l f=some bf->nv P f bf:=by
 intro f cm aj;unfold FN at aj;rw[c2] at aj;obtain⟨p,aP,rfl⟩:=aj;have F:=List.mem_of_find?_eq_some aP;have G:=List.find?_some aP;have aa:p.1=f:=by simpa using G
 exact aa ▸ h p F
def m8:∀p∈([]:List (FuncId×(List H->Mem->Option gG))),nv P p.1 p.2:=by simp
def ug {f:FuncId}{cm:List H->Mem->Option gG}{l:List (FuncId×(List H->Mem->Option gG))}(h:nv P f cm)(ae:∀p∈l,nv P p.1 p.2):∀p∈(f,cm)::l,nv P p.1 p.2:=by
 intro p aP;rcases kt.1 aP with rfl|aP
 ·exact h
 ·exact ae p aP
open Classical in
def CD {α:Type}(dk:α->List H->Mem->Prop)(bF:α->Mem->H->Mem->Prop):List H->Mem->Option (H->Mem->Prop):=λargs mem=>if h:∃a,dk a args mem then some (bF (Classical.choose h) mem) else none
def Uw {α:Type}{dk:α->List H->Mem->Prop}{bF:α->Mem->H->Mem->Prop}(uniq:∀a b args mem,dk a args mem->dk b args mem->a=b){a:α}{args:List H}{mem:Mem}(h:dk a args mem):CD dk bF args mem=some (bF a mem):=by
 have J:∃b,dk b args mem:=⟨a,h⟩;unfold CD;rw[dif_pos J,uniq _ _ _ _ (sk J) h]
def Ux {α:Type}{dk:α->List H->Mem->Prop}{bF:α->Mem->H->Mem->Prop}{args:List H}{mem:Mem}{x:H->Mem->Prop}(h:CD dk bF args mem=some x):∃a,dk a args mem/\x=bF a mem:=by
 unfold CD at h
 split at h
 ·rename_i J;exact⟨_,sk J,(mm h).symm⟩
 ·cases h
end Go.Mini
namespace Go.Mini
open Go
def JJ:=bG k4 λ(s,l,s2,X)=>some (.same (.bool (s==0)))
@[go_sem] def aAw (s l s2 X):=sm JJ rfl uc (s,l,s2,X) rfl
def aoF (T:bg):WF T aca JJ:=by
 refine b5 λ(s,l,s2,X)=>⟨rfl,b4 ?_⟩;simp only[aca,k4,bV];refine af ?_;repeat' (intro h<;>simp only[h,go_sem,go_sem_proc]<;>try refine ab ?_ ?_)
def yW (args:List H)(mem:Mem):Option (Data×Key×Nat×Nat×Data) :=
 match args with
 | [.ptr k g 0,.I (.agg [.int .i64 s,.ao l,.int .i64 s2,.ao X]),.I (.int .i64 e)]=>match mem k,mem 168004,mem 168006 with
  |some (cv,[_,_,.I (.bool c)]),none,none=>if cv=g/\k≠168004/\k≠168006 then some (.agg [.int .i64 s,.ao l,.int .i64 s2,.ao X],k,g,2,.bool (c||e != 0)) else none
  |_,_,_=>none
 |_=>none
def OF (j:Key):Prop:=j=168004\/j=168006
def aoG (T:bg)(args:List H)(mem:Mem)(r:Data)(k g i:Nat)(d:Data)(h:yW args mem=some (r,k,g,i,d)):
  (D args)<=19/\(∀j,OF j->mem j=none)/\¬ OF k/\(∃cs,mem k=some (g,cs)) /\
   wp T Oi.body (ue Oi.res λm mem'=>cL 6 emp m=some r/\∀j,¬ OF j->mem' j=aT mem k g ((qe mem k).set i (.I d)) j) ⟨ke args,mem⟩:=by
 unfold yW at h
 split at h
 ·rename_i ep H4 s l s2 X e
  split at h
  ·rename_i cH a b c hm aX bx
   split at h
   ·rename_i aL;obtain⟨rfl,JK,JL⟩:=aL;simp only[bM,eL] at h;obtain⟨rfl,rfl,rfl,rfl,rfl⟩:=h;refine⟨by simp,?_,?_,⟨_,hm⟩,?_⟩
    ·rintro j (rfl|rfl)
     ·exact aX
     ·exact bx
    ·rintro (h|h)
     ·exact JK h
     ·exact JL h
    ·have lY:∀x:Bool,qe mem ep=[a,b,.I (.bool c)]:=λ_=>by simp only[qe,hm]
     have acI:(ep=168004)=False:=eq_false JK;have acJ:(ep=168006)=False:=eq_false JL;have acK:(168004=ep)=False:=eq_false (Ne.symm JK);have acL:(168006=ep)=False:=eq_false (Ne.symm JL);refine xX ?_;simp only[Oi]
     cases c
     ·refine af ?_;repeat' (intro (ag:_=_)<;>simp only[ag,go_sem,go_sem_proc,hm,aX,bx,acI,acJ,acK,acL]<;>try refine ab ?_ ?_)
      refine⟨_,rfl,by first|rfl|simp[go_sem,cL],λj Y=>?_⟩
      have Uy:j≠168004:=λh=>Y (.inl h);have Uz:j≠168006:=λh=>Y (.inr h)
      by_cases b1:j=ep<;>simp[aT,qe,hm,Uy,Uz,b1,JK,JL,bne]
     ·refine af ?_;repeat' (intro (ag:_=_)<;>simp only[ag,go_sem,go_sem_proc,hm,aX,bx,acI,acJ,acK,acL]<;>try refine ab ?_ ?_)
      refine⟨_,rfl,by first|rfl|simp[go_sem,cL],λj Y=>?_⟩
      have Uy:j≠168004:=λh=>Y (.inl h);have Uz:j≠168006:=λh=>Y (.inr h)
      by_cases b1:j=ep<;>simp[aT,qe,hm,Uy,Uz,b1,JK,JL,bne]
   ·cases h
  ·cases h
 ·cases h
abbrev dm:=Nat×Nat×List av
def refsOf (N:Nat)(rows:List dm):List H:=rows.map λx => .ref (x.1+900000) x.2.1 4 0 (N+1)
structure yX (go N:Nat) (rows:List dm) (bad:Bool) (mem:Mem):Prop where
 m:mem 129015=some (0,[.ref 129035 go 1 0 N,.I (.int .i64 N),.I (.bool bad)])
 o:mem 129035=some (go,refsOf N rows)
 r:∀x∈rows,mem (x.1+900000)=some (x.2.1,aQ ar x.2.2)
structure jD (N:Nat) (rows:List dm):Prop where
 len:(D rows)=N
 OG:(rows.map (·.1)).Nodup
 row:∀x∈rows,x.2.2.length=N+1/\∀f∈x.2.2,okF f
def FO (k:Nat):Prop:=k<900000/\k≠129015/\k≠129035/\k≠148008/\k≠148010/\k≠148013
def j2 (hl:Mem)(go N:Nat)(rows:List dm)(bad:Bool)(mem:Mem):Prop:=yX go N rows bad mem/\∀k,FO k->mem k=hl k
section
variable {hl mem:Mem} {go N:Nat} {rows:List dm} {lE:Bool}
def j2.flag (b:Bool)(h:j2 hl go N rows lE mem):j2 hl go N rows b (aT mem 129015 0 [.ref 129035 go 1 0 N,.I (.int .i64 N),.I (.bool b)]):=by
 refine⟨⟨by simp[aT],by simp[aT,h.1.o],λx J=>?_⟩,λk Q=>?_⟩
 ·rw[<-h.1.r x J];exact aR (show ¬ ((x.1+900000:Nat)=129015) by omega)
 ·rw[<-h.2 k Q];exact aR Q.2.1
def j2.own {k g:Nat}{cs:List H}(Q:k=148008\/k=148010\/k=148013)(h:j2 hl go N rows lE mem):j2 hl go N rows lE (aT mem k g cs):=by
 have bo:∀j:Nat,j≠k->aT mem k g cs j=mem j:=λj Y=>aR Y;refine⟨⟨by rw[bo _ (by omega)];exact h.1.m,by rw[bo _ (by omega)];exact h.1.o,λx J=>by rw[bo _ (by omega)];exact h.1.r x J⟩,λj Y=>?_⟩
 have:=Y.2;rw[bo _ (by omega)];exact h.2 j Y
def j2.set {i:Nat}{x:dm}(dx:jD N rows)(Z:rows[i]?=some x)(l:List av)(h:j2 hl go N rows lE mem):j2 hl go N (rows.set i (x.1,x.2.1,l)) lE (aT mem (x.1+900000) x.2.1 (aQ ar l)):=by
 have bo:∀j:Nat,j≠x.1+900000->aT mem (x.1+900000) x.2.1 (aQ ar l) j=mem j:=λj Y=>aR Y;obtain⟨an,fF⟩:=dK.1 Z;refine⟨⟨by rw[bo _ (by omega)];exact h.1.m,?_,λy ai=>?_⟩,λj Y=>?_⟩
 ·rw[bo _ (by omega),h.1.o]
  congr 2
  unfold refsOf;apply qm;intro j;rw[bd,bd,lF]
  by_cases hW:i=j
  ·subst hW;rw[aJ rfl,aJ an,Z]
   rfl
  ·rw[aR hW]
 ·obtain⟨j,Y⟩:=yd.1 ai;rw[lF] at Y
  by_cases hW:i=j
  ·subst hW;rw[aJ rfl,aJ an] at Y
   cases Y;simp[aT]
  ·rw[aR hW] at Y
   have aAx:y.1≠x.1:=by
    intro he;have F:(rows.map (·.1))[j]?=some y.1:=by rw[bd,Y];rfl
    have G:(rows.map (·.1))[i]?=some y.1:=by rw[bd,Z,he];rfl
    have ae:i<(rows.map (·.1)).length:=by rw[ah];exact an
    exact hW ((acM ae dx.OG).1 (G.trans F.symm))
   rw[bo (y.1+900000) (by omega)];exact h.1.r y (cJ Y)
 ·have:=Y.1;rw[bo j (by omega)];exact h.2 j Y
def j2.swap {i j:Nat}{a b:dm}(Z:rows[i]?=some a)(Y:rows[j]?=some b)(h:j2 hl go N rows lE mem):j2 hl go N ((rows.set i b).set j a) lE (aT (aT mem 129035 go (refsOf N (rows.set i b))) 129035 go (refsOf N ((rows.set i b).set j a))):=by
 have bo:∀k:Nat,k≠129035->aT (aT mem 129035 go (refsOf N (rows.set i b))) 129035 go (refsOf N ((rows.set i b).set j a)) k=mem k:=λk Q=>by simp[aT,Q]
 refine⟨⟨by rw[bo _ (by omega)];exact h.1.m,by simp[aT],λx J=>?_⟩,λk Q=>?_⟩
 ·rw[bo _ (by omega)];apply h.1.r;rcases nW J with J|rfl
  ·rcases nW J with J|rfl
   ·exact J
   ·exact cJ Y
  ·exact cJ Z
 ·rw[bo _ Q.2.2.1];exact h.2 k Q
def jD.set {i:Nat}{x:dm}(dx:jD N rows)(Z:rows[i]?=some x){l:List av}(ae:(D l)=N+1)(aj:∀f∈l,okF f):jD N (rows.set i (x.1,x.2.1,l)):=by
 obtain⟨an,fF⟩:=dK.1 Z;refine⟨by rw[fj];exact dx.len,?_,λy ai=>?_⟩
 ·have:(rows.set i (x.1,x.2.1,l)).map (·.1)=rows.map (·.1):=by
   rw[CE];apply qm;intro j;rw[lF]
   by_cases hW:i=j
   ·subst hW;rw[aJ rfl,ah,aJ an,bd,Z];rfl
   ·rw[aR hW]
  rw[this];exact dx.OG
 ·rcases nW ai with ai|rfl
  ·exact dx.row y ai
  ·exact⟨ae,aj⟩
def aoH {α:Type}{l:List α}{i j:Nat}{a b:α}(Z:l[i]?=some a)(Y:l[j]?=some b)(h:l.Nodup):((l.set i b).set j a).Nodup:=by
 obtain⟨js,uh⟩:=dK.1 Z;obtain⟨hj,Ek⟩:=dK.1 Y
 have main:∀p q,p<q->q<(D l)->((l.set i b).set j a)[p]?≠((l.set i b).set j a)[q]?:=by
  intro p q acN aS;rw[lF,lF,lF,lF];have inj:∀p q,p<(D l)->l[p]?=l[q]?->p=q:=λp q aP he=>(acM aP h).1 he;simp only[fj]
  by_cases F:j=p
  ·subst F;have G:¬ j=q:=by omega
   rw[aJ rfl,aJ hj,aR G]
   by_cases aa:i=q
   ·subst aa;rw[aJ rfl,aJ js];intro he;rw[<-Z,<-Y] at he;have:=inj _ _ js he;omega
   ·rw[aR aa,<-Z];intro he;exact aa (inj _ _ js he)
  ·rw[aR F]
   by_cases aa:i=p
   ·subst aa;rw[aJ rfl,aJ js]
    by_cases G:j=q
    ·subst G;rw[aJ rfl,aJ hj,<-Z,<-Y];intro he;have:=inj _ _ hj he;omega
    ·rw[aR G,aR (by omega),<-Y];intro he;exact G (inj _ _ hj he)
   ·rw[aR aa]
    by_cases G:j=q
    ·subst G;rw[aJ rfl,aJ hj,<-Z];intro he;exact aa (inj _ _ js he.symm)
    ·rw[aR G]
     by_cases aX:i=q
     ·subst aX;rw[aJ rfl,aJ js,<-Y];intro he;exact F (inj _ _ hj he.symm)
     ·rw[aR aX];intro he;have:=inj _ _ (by omega) he;omega
 refine List.pairwise_iff_getElem.2 λp q aP aS acN he=>?_;simp only[fj] at aP aS;refine main p q acN aS ?_;rw[bc (by simpa using aP),bc (by simpa using aS),he]
def jD.swap {i j:Nat}{a b:dm}(dx:jD N rows)(Z:rows[i]?=some a)(Y:rows[j]?=some b):jD N ((rows.set i b).set j a):=by
 refine⟨by rw[fj,fj];exact dx.len,?_,λx J=>?_⟩
 ·rw[CE,CE];exact aoH (by rw[bd,Z];rfl) (by rw[bd,Y];rfl) dx.OG
 ·rcases nW J with J|rfl
  ·rcases nW J with J|rfl
   ·exact dx.row x J
   ·exact dx.row _ (cJ Y)
  ·exact dx.row _ (cJ Z)
end
def aoI {l:List av}{i:Nat}{a b c d}(h:l[i]?=some ((a,b),(c,d))):cut (aQ ar l) (i*4) 4=some [.I (.int .i64 a),.I (.ao (b.map aG)),.I (.int .i64 c),.I (.ao (d.map aG))]:=by
 have:=EE jt h (f:=0) (n:=4) (by omega);rw[lo] at this;rw[this]
 rfl
def aoJ {N:Nat}{rows:List dm}{i:Nat}{x:dm}(h:rows[i]?=some x):cut (refsOf N rows) i 1=some [.ref (x.1+900000) x.2.1 4 0 (N+1)]:=by
 obtain⟨an,rfl⟩:=dK.1 h;unfold cut refsOf;rw[aJ (by rw[ah];omega),<-List.map_drop,gw an]
 rfl
def aoK {l m:List av}(h:aQ ar l=aQ ar m):l=m:=Tg jt j1 _ _ h (by omega)
def hO (f:av):Bool:=f.1.1==0
def cellOf (x:dm)(c:Nat):av:=x.2.2.getD c bA
def findAt (rows:List dm)(r c:Nat):Nat:=r+(rows.drop r).findIdx λx => !hO (cellOf x c)
def jE (lG:av):List av->List av->Bool->List av×Bool
 |f::dA,p::cT,false=>((kn f (iC lG p).1).1::(jE lG dA cT ((iC lG p).2 != 0||(kn f (iC lG p).1).2 != 0)).1,(jE lG dA cT ((iC lG p).2 != 0||(kn f (iC lG p).1).2 != 0)).2)
 |dA,_,b=>(dA,b)
def jF (gB:List av)(r c:Nat):Nat->List dm->Bool->List dm×Bool
 |_,[],bad=>([],bad)
 |i,x::xs,bad=>if (i==r||hO (cellOf x c))=true then (x::(jF gB r c (i+1) xs bad).1,(jF gB r c (i+1) xs bad).2) else
  ((x.1,x.2.1,(jE (cellOf x c) x.2.2 gB bad).1)::(jF gB r c (i+1) xs (jE (cellOf x c) x.2.2 gB bad).2).1,(jF gB r c (i+1) xs (jE (cellOf x c) x.2.2 gB bad).2).2)
def j3 (JF:av)(l:List av):List av×Bool:=(l.map λf=>(fK f JF).1,l.any λf=>(fK f JF).2 != 0)
def rowAt (rows:List dm)(i:Nat):dm:=rows.getD i (0,0,[])
def mC (rows:List dm)(i j:Nat):List dm:=(rows.set i (rowAt rows j)).set j (rowAt rows i)
def CF (rows:List dm)(r c:Nat):List dm:=rows.set r ((rowAt rows r).1,(rowAt rows r).2.1,(j3 (cellOf (rowAt rows r) c) (rowAt rows r).2.2).1)
def j4 (rows:List dm)(r c:Nat):Bool×List dm×Bool :=
 if findAt rows r c=(D rows) then (true,rows,false) else
  (false,jF (j3 (cellOf (rowAt (mC rows r (findAt rows r c)) r) c) (rowAt (mC rows r (findAt rows r c)) r).2.2).1 r c 0 (CF (mC rows r (findAt rows r c)) r c)
   (j3 (cellOf (rowAt (mC rows r (findAt rows r c)) r) c) (rowAt (mC rows r (findAt rows r c)) r).2.2).2)
def aoL {rows:List dm}{r c i:Nat}{x:dm}(J:rows[i]?=some x)(L:r<=i)(a0:∀j y,r<=j->j<i->rows[j]?=some y->hO (cellOf y c)=true)(h:hO (cellOf x c)=false):findAt rows r c=i:=by
 unfold findAt;obtain⟨an,fF⟩:=dK.1 J
 have:(rows.drop r).findIdx (λx => !hO (cellOf x c))=i-r:=by
  rw[List.findIdx_eq (by rw[pG];omega)];refine⟨?_,λj Y=>?_⟩
  ·rw[JM];have:rows[r+(i-r)]?=some x:=by rw[show r+(i-r)=i by omega];exact J
   rw[(dK.1 this).2,h];rfl
  ·rw[JM];have:=a0 (r+j) _ (by omega) (by omega) (bc (by omega));rw[this];rfl
 omega
def aoM {rows:List dm}{r c:Nat}(L:r<=D rows)(a0:∀j y,r<=j->rows[j]?=some y->hO (cellOf y c)=true):findAt rows r c=D rows:=by
 unfold findAt
 have:(rows.drop r).findIdx (λx => !hO (cellOf x c))=(rows.drop r).length:=by
  rw[List.findIdx_eq_length];intro y ai;obtain⟨j,Y⟩:=yd.1 ai;rw[oI] at Y;rw[a0 (r+j) y (by omega) Y];rfl
 rw[this,pG];omega
def UA {x:Rat}(h:ns x):okF (ed x):=⟨jc h.1,jc (ru h)⟩
def o2:okF bA:=⟨by simp[bA],by simp[bA]⟩
def aoN (p q:Raw):okF (ie p q).1:=by
 unfold ie
 split
 ·rename_i h;rw[fe] at h;obtain⟨x,J,aO⟩:=(ho _).1 h.1;obtain⟨y,ai,ax⟩:=(ho _).1 h.2
  split
  ·exact o2
  ·rw[aO,ax,eJ,eJ];exact UA (anp J ai)
 ·exact o2
def UB (p q:Raw×Int):okF (vi p q).1:=by
 unfold vi
 split
 ·split
  ·exact aoN _ _
  ·exact o2
 ·exact o2
def UC (a b:av):okF (ou a b).1:=by
 unfold ou
 split
 ·split
  ·exact UB _ _
  ·exact o2
 ·exact o2
def FP (a b:av):okF (kn a b).1:=by
 unfold kn
 split
 ·split
  ·exact UC _ _
  ·exact o2
 ·exact o2
def OH (a b:av):okF (iC a b).1:=by
 unfold iC
 split
 ·split
  ·exact UB _ _
  ·exact o2
 ·exact o2
def OI (a b:av):okF (fK a b).1:=by
 unfold fK
 split
 ·split
  ·split
   ·exact o2
   ·exact UB _ _
  ·exact o2
 ·exact o2
def UD {x:dm}{c:Nat}{f:av}(h:x.2.2[c]?=some f):cellOf x c=f:=by
 unfold cellOf;rw[dG,h]
 rfl
def rA {rows:List dm}{i:Nat}{x:dm}(h:rows[i]?=some x):rowAt rows i=x:=by
 unfold rowAt;rw[dG,h]
 rfl
def ui {l:List av}{k:Nat}(h:k<D l):(k*4+4<=(aQ ar l).length)=True:=eq_true (by rw[jU jt];omega)
def CG {l:List av}{k:Nat}{a b c d}(h:l[k]?=some ((a,b),(c,d))):mZ 4 (nL (k*4) (aQ ar l))=[.I (.int .i64 a),.I (.ao (b.map aG)),.I (.int .i64 c),.I (.ao (d.map aG))]:=by
 have:=aoI h;unfold cut at this;rw[aJ (by rw[jU jt];have:=(dK.1 h).1;omega)] at this;exact mm this
def yY {l:List av}{k:Nat}(h:k<D l)(a:Int)(b:List Int)(c:Int)(d:List Int):
  mZ (k*4) (aQ ar l)++[H.I (.int .i64 a),.I (.ao (b.map aG)),.I (.int .i64 c),.I (.ao (d.map aG))]++nL (k*4+4) (aQ ar l)=aQ ar (l.set k ((a,b),(c,d))):=by
 rw[<-Nc jt h]
 rfl
def CH {N:Nat}{rows:List dm}{i:Nat}(h:i<D rows):(i+1<=(refsOf N rows).length)=True:=eq_true (by unfold refsOf;rw[ah];omega)
def FQ {N:Nat}{rows:List dm}{i:Nat}{x:dm}(h:rows[i]?=some x):mZ 1 (nL i (refsOf N rows))=[.ref (x.1+900000) x.2.1 4 0 (N+1)]:=by
 have:=aoJ (N:=N) h;unfold cut at this;rw[aJ (by unfold refsOf;rw[ah];have:=(dK.1 h).1;omega)] at this;exact mm this
def acO {N:Nat}{rows:List dm}{i:Nat}(h:i<D rows)(b:dm):mZ i (refsOf N rows)++[H.ref (b.1+900000) b.2.1 4 0 (N+1)]++nL (i+1) (refsOf N rows)=refsOf N (rows.set i b):=by
 unfold refsOf;rw[CE,List.set_eq_take_append_cons_drop,aJ (by rw[ah];exact h),ki]
 rfl
def acP (lG:av):∀(l p:List av) (b:Bool),(jE lG l p b).1.length=D l
 | [],_,_=>by simp[jE]
 |f::dA,[],b=>by cases b<;>simp[jE]
 |f::dA,p::cT,true=>by simp[jE]
 |f::dA,p::cT,false=>by simp[jE,acP lG dA cT]
def UE (lG:av)(l p:List av):jE lG l p true=(l,true):=by
 cases l<;>cases p<;>simp[jE]
def acQ (lG:av)(p:List av)(b:Bool):jE lG [] p b=([],b):=by
 cases b<;>simp[jE]
def aoO {α:Type}(f:α->α){l:List α}{k:Nat}{x:α}(h:l[k]?=some x):((l.take k).map f++l.drop k).set k (f x)=(l.take (k+1)).map f++l.drop (k+1):=by
 obtain⟨an,J⟩:=dK.1 h;have ae:((l.take k).map f).length=k:=by rw[ah,gj];omega
 rw[Ay _ _ (by omega),ae,hF,gw an,qM,hn,h,pT,ki]
 rfl
def aoP {α:Type}(f:α->α){l:List α}{k:Nat}:((l.take k).map f++l.drop k)[k]?=l[k]?:=by
 rcases gX k (D l) with h|h
 ·have ae:((l.take k).map f).length=k:=by rw[ah,gj];omega
  rw[r4 (by omega),ae,hF,oI,lo]
 ·rw[lk h,lk (by rw[ks,ah,gj,pG];omega)]
def JN {α:Type}{rows:List α}{r i:Nat}{x pU:α}(J:rows[i]?=some x)(lH:rows[r]?=some pU):((rows.set r x).set i pU)[r]?=some x:=by
 have F:=(dK.1 J).1;have G:=(dK.1 lH).1;rw[lF,lF,fj]
 by_cases h:i=r
 ·subst h;rw[J] at lH
  cases lH;rw[aJ rfl,aJ F]
 ·rw[aR h,aJ rfl,aJ G]
def UF {α:Type}{l:List α}{i:Nat}{x:α}(h:l[i]?=some x):l.set i x=l:=by
 obtain⟨an,J⟩:=dK.1 h;apply qm;intro j;rw[lF]
 by_cases hW:i=j
 ·subst hW;rw[aJ rfl,aJ an,h]
 ·rw[aR hW]
def aoQ (a b:Nat):(!(a+900000==129015)||decide (2<b*4))=true:=by
 have:(a+900000==129015)=false:=by simp
 rw[this];rfl
def UG:FO 168004:=by unfold FO;omega
def UH:FO 168006:=by unfold FO;omega
def e0.sub:e0->List Nat->e0
 |.seq a _,0::p=>a.sub p
 |.seq _ b,_::p=>b.sub p
 |.cond _ a _,0::p=>a.sub p
 |.cond _ _ b,_::p=>b.sub p
 |.block _ c,_::p=>c.sub p
 |.ghost _ c,_::p=>c.sub p
 |.loop c,_::p=>c.sub p
 |c,_=>c
def ju (f:av):List H:=[.I (.int .i64 f.1.1),.I (.ao (f.1.2.map aG)),.I (.int .i64 f.2.1),.I (.ao (f.2.2.map aG))]
def aoR (T:bg)(vq:T z6=Ax yW)(sR:T BT=aE Cv)(Az:T ym=aE yS){K:fC->a6->Prop}{kg:List iY}
  (go N r c i2:Nat) (mem:Mem) (AA:mem 168004=none) (AB:mem 168006=none) (hc:N<=40) (sS:List dm) (ov:jD N sS) (x y:dm) (gB:List av) (qN:sS[i2]?=some y) (aU:sS[r]?=some (x.1,x.2.1,gB)) (CI:i2≠r) (nw:r<N) (lE:Bool)
  (cH:Int) (cO:List Int) (gT:Int) (hP:List Int) (jT:okF ((cH,cO),(gT,hP))) (tm:Nat->H) (m:Mem) (bf:Nat)
  (fH:tm 0=.ptr 129015 0 0) (aO:tm 1=.I (.int .i64 r)) (ax:tm 2=.I (.int .i64 c)) (wV:tm 12=.ref (y.1+900000) y.2.1 4 0 (N+1)) (JO:tm 13=.ptr 148013 bf 0) (JP:tm 112=.ref 129035 go 1 0 N) (JQ:tm 113=.I (.int .i64 N)) (JR:tm 114=.I (.int .i64 i2)) (acR:tm 14=.I (.int .i64 0))
  (em:m 148013=some (bf,[.I (.int .i64 cH),.I (.ao (cO.map aG)),.I (.int .i64 gT),.I (.ao (hP.map aG))])) (iQ:j2 mem go N sS lE m)
  (eh:∀tm' m' l b,tm' 0=.ptr 129015 0 0->tm' 1=.I (.int .i64 r)->tm' 2=.I (.int .i64 c)->tm' 112=.ref 129035 go 1 0 N->tm' 113=.I (.int .i64 N)->tm' 114=.I (.int .i64 i2)->(l,b)=jE ((cH,cO),(gT,hP)) y.2.2 gB lE->jD N (sS.set i2 (y.1,y.2.1,l))->j2 mem go N (sS.set i2 (y.1,y.2.1,l)) b m'->cM T K kg (.exit 6) ⟨tm',m'⟩) :
  wp T (w5.body.sub [1,1,1,1,1,1,1,0,1,0,0,1,1,0,0,1,1,1,1,0]) (cM T K kg) ⟨tm,m⟩:=by
 simp only[w5,e0.sub];have aoS:i2<N:=by rw[<-ov.len];exact (dK.1 qN).1
 obtain⟨Rj,OJ⟩:=ov.row y (cJ qN);have aoT:sS.set i2 (y.1,y.2.1,[]++y.2.2.drop 0)=sS:=UF qN
 refine cV [0,1,2,12,13,112,113,114] [148013] (λ((k,pre,b):Nat×List av×Bool) tm m=>k<=N+1/\D pre=k/\(∀f∈pre,okF f)/\jE ((cH,cO),(gT,hP)) y.2.2 gB lE=(pre++(jE ((cH,cO),(gT,hP)) (y.2.2.drop k) (gB.drop k) b).1,(jE ((cH,cO),(gT,hP)) (y.2.2.drop k) (gB.drop k) b).2)/\tm 14=.I (.int .i64 k)/\j2 mem go N (sS.set i2 (y.1,y.2.1,pre++y.2.2.drop k)) b m) (λ(k,_,_)=>N+1-k) (0,[],lE) (by
  refine⟨dF _,rfl,(by simp),rfl,acR,?_⟩;rw[aoT];exact iQ) ?_
 intro vs ms aI aD;simp only[go_sem,go_sem_proc,fH,aO,ax,wV,JO,JP,JQ,JR,em] at aI aD;subst aI aD;clear fH aO ax wV JO JP JQ JR em acR iQ tm m;rintro⟨ei,pre,b⟩ tm fI Q hm ⟨aAy,yD,AD,JS,Ai,sT⟩;simp only[go_sem,go_sem_proc,bj] at Q hm;obtain⟨aq,F,G,eH,jb,vr,vt,vu⟩:=Q;have aoU:(pre++y.2.2.drop ei).length=N+1:=by rw[ks,pG];omega
 have FR:jD N (sS.set i2 (y.1,y.2.1,pre++y.2.2.drop ei)):=ov.set qN aoU λf aj=>by
  rw[h5] at aj;rcases aj with aj|aj
  ·exact AD f aj
  ·exact OJ f (Fi aj)
 have acS:(sS.set i2 (y.1,y.2.1,pre++y.2.2.drop ei))[i2]?=some (y.1,y.2.1,pre++y.2.2.drop ei):=by
  rw[lF,aJ rfl,aJ (by rw[ov.len];exact aoS)]
 have Fx:(sS.set i2 (y.1,y.2.1,pre++y.2.2.drop ei))[r]?=some (x.1,x.2.1,gB):=by
  rw[lF,aR CI];exact aU
 have uj:=sT.1.m;have w9:=sT.1.o;rcases dt (ei<N+1) with aoV|aAz
 ·have AE:decide ((ei:Int)<((N+1:Nat):Int))=true:=c5
  cases b
  ·obtain⟨⟨⟨dw,dV⟩,⟨hQ,jf⟩⟩,vv⟩:∃f,y.2.2[ei]?=some f:=⟨_,bc (by omega)⟩;have aAA:(D gB)=N+1:=(ov.row _ (cJ aU)).1;obtain⟨⟨⟨kX,ni⟩,⟨rB,vw⟩⟩,UI⟩:∃f,gB[ei]?=some f:=⟨_,bc (by omega)⟩;have xQ:=OJ _ (cJ vv);have acT:=(ov.row _ (cJ aU)).2 _ (cJ UI)
   have UJ:(pre++y.2.2.drop ei)[ei]?=some ((dw,dV),(hQ,jf)):=by
    rw[r4 (by omega),yD,hF,oI,lo,vv]
   have jY:y.2.2.drop ei=((dw,dV),(hQ,jf))::y.2.2.drop (ei+1):=by
    obtain⟨ae,e⟩:=dK.1 vv;rw[gw ae,e]
   have nQ:gB.drop ei=((kX,ni),(rB,vw))::gB.drop (ei+1):=by
    obtain⟨ae,e⟩:=dK.1 UI;rw[gw ae,e]
   have xU:∀s:av,(pre++y.2.2.drop ei).set ei s=(pre++[s])++y.2.2.drop (ei+1):=λs=>by
    rw[Ay _ _ (by omega),yD,hF,jY,qM,ki];rfl
   have aoW:=sT.1.r _ (cJ acS);have aoX:=sT.1.r _ (cJ Fx);have sU:fI 168004=none:=(sT.2 _ UG).trans AA;have FT:fI 168006=none:=(sT.2 _ UH).trans AB;have t1:=FQ (N:=N) Fx;have t2:=CH (N:=N) (rows:=sS.set i2 (y.1,y.2.1,pre++y.2.2.drop ei)) (i:=r) (by rw[FR.len];exact nw);have t3:=CG UJ;have t4:=ui (l:=pre++y.2.2.drop ei) (k:=ei) (by omega);have t5:=CG UI;have t6:=ui (l:=gB) (k:=ei) (by omega);have mw:=e1 (i:=ei) (by omega);have uk:=OH ((cH,cO),(gT,hP)) ((kX,ni),(rB,vw));have rC:=FP ((dw,dV),(hQ,jf)) (iC ((cH,cO),(gT,hP)) ((kX,ni),(rB,vw))).1;have JT:=JS;rw[jY,nQ] at JT;simp only[jE] at JT;generalize ic:iC ((cH,cO),(gT,hP)) ((kX,ni),(rB,vw))=dk at *;obtain⟨⟨⟨jn,gH⟩,⟨sV,um⟩⟩,aO⟩:=dk;dsimp only at rC JT uk;generalize cU:kn ((dw,dV),(hQ,jf)) ((jn,gH),(sV,um))=S at *;obtain⟨⟨⟨v1,v2⟩,⟨ff,v4⟩⟩,ax⟩:=S;dsimp only at rC JT;have t7:=yY (l:=pre++y.2.2.drop ei) (k:=ei) (by omega) v1 v2 ff v4;refine af ?_;repeat' (intro h<;>simp only[h,go_sem,go_sem_proc,vq,Az,sR,aq,F,G,eH,jb,Ai,vr,vt,vu,hm,uj,w9,aoW,aoX,sU,FT,t1,t2,t3,t4,t5,t6,t7,AE,aoV,nw,mw,ic,cU,xQ.1,xQ.2,acT.1,acT.2,jT.1,jT.2,uk.1,uk.2,ju,cP,ar,dL,yW,FU,qM,decide_true,decide_false,acU,ne_eq,not_false_eq_true,and_self]<;>try refine ab ?_ ?_)
   have mD:=j2.set FR acS ((pre++y.2.2.drop ei).set ei ((v1,v2),(ff,v4))) ((sT.flag (aO != 0)).flag (aO != 0||ax != 0));rw[acV,xU] at mD;refine⟨aoQ _ _,(ei+1,pre++[((v1,v2),(ff,v4))],(aO != 0||ax != 0)),by dsimp only;omega,by dsimp only;omega,by simp[yD],?_,?_,rfl,?_⟩
   ·intro f aj;rw[h5,sE] at aj;rcases aj with aj|rfl
    ·exact AD f aj
    ·exact rC
   ·rw[JT];dsimp only;rw[ki]
    rfl
   ·dsimp only;rw[xU];exact mD
  ·rw[UE] at JS;refine af ?_;repeat' (intro h<;>simp only[h,go_sem,go_sem_proc,aq,F,G,eH,jb,Ai,vr,vt,vu,uj,w9,AE]<;>try refine ab ?_ ?_)
   refine eh _ _ (pre++y.2.2.drop ei) true ?_ ?_ ?_ ?_ ?_ ?_ JS.symm FR sT<;>simp only[q3,sW,if_false,aq,F,G,vr,vt,vu]
 ·have AE:decide ((ei:Int)<((N+1:Nat):Int))=false:=de;have mn:y.2.2.drop ei=[]:=lj (by omega);rw[mn,acQ,<-mn] at JS;refine af ?_;repeat' (intro h<;>simp only[h,go_sem,go_sem_proc,aq,F,G,eH,jb,Ai,vr,vt,vu,uj,w9,AE]<;>try refine ab ?_ ?_)
  refine eh _ _ (pre++y.2.2.drop ei) b ?_ ?_ ?_ ?_ ?_ ?_ JS.symm FR sT<;>simp only[q3,sW,if_false,aq,F,G,vr,vt,vu]
def aoY (T:bg)(AF:T II=aE JJ)(vq:T z6=Ax yW)(sR:T BT=aE Cv)(Az:T ym=aE yS){K:fC->a6->Prop}{kg:List iY}
  (go N r c:Nat) (mem:Mem) (AA:mem 168004=none) (AB:mem 168006=none) (hc:N<=40) (nw:r<N) (CJ:c<N+1) (eB:List dm) (CK:jD N eB) (x:dm) (gB:List av) (oZ:eB[r]?=some (x.1,x.2.1,gB)) (FV:Bool) (tm:Nat->H) (m:Mem)
  (fH:tm 0=.ptr 129015 0 0) (aO:tm 1=.I (.int .i64 r)) (ax:tm 2=.I (.int .i64 c)) (JP:tm 112=.ref 129035 go 1 0 N) (JQ:tm 113=.I (.int .i64 N)) (JR:tm 114=.I (.int .i64 0)) (iQ:j2 mem go N eB FV m)
  (eh:∀tm' m',j2 mem go N (jF gB r c 0 eB FV).1 (jF gB r c 0 eB FV).2 m'->cM T K kg (.exit 4) ⟨tm',m'⟩) :
  wp T (w5.body.sub [1,1,1,1,1,1,1,0,1,0]) (cM T K kg) ⟨tm,m⟩:=by
 simp only[w5,e0.sub]
 refine cV [0,1,2,112,113] [] (λ((i2,o3,lE):Nat×List dm×Bool) tm m=>i2<=N/\D o3=i2/\jF gB r c 0 eB FV=(o3++(jF gB r c i2 (eB.drop i2) lE).1,(jF gB r c i2 (eB.drop i2) lE).2)/\jD N (o3++eB.drop i2)/\(o3++eB.drop i2)[r]?=some (x.1,x.2.1,gB)/\tm 114=.I (.int .i64 i2)/\j2 mem go N (o3++eB.drop i2) lE m) (λ(i2,_,_)=>N-i2) (0,[],FV) (by
  exact⟨dF _,rfl,rfl,CK,oZ,JR,iQ⟩) ?_
 intro vs ms aI aD;simp only[go_sem,go_sem_proc,fH,aO,ax,JP,JQ] at aI aD;subst aI aD;clear fH aO ax JP JQ JR iQ tm m;rintro⟨i2,o3,lE⟩ tm bY Q hm ⟨xM,kH,kx,ov,aU,vu,uo⟩;simp only[go_sem,go_sem_proc,bj] at Q hm;obtain⟨aq,F,G,vr,vt⟩:=Q;have uj:=uo.1.m;have w9:=uo.1.o;have aAB:(D eB)=N:=CK.len;rcases dt (i2<N) with OK|aAC
 ·obtain⟨y,ai⟩:∃y,eB[i2]?=some y:=⟨_,bc (by omega)⟩
  have k3:eB.drop i2=y::eB.drop (i2+1):=by
   obtain⟨ae,rfl⟩:=dK.1 ai;exact gw ae
  have qN:(o3++eB.drop i2)[i2]?=some y:=by
   rw[r4 (by omega),kH,hF,oI,lo,ai]
  obtain⟨Rj,OJ⟩:=ov.row y (cJ qN);have UK:=uo.1.r y (cJ qN);obtain⟨⟨⟨cH,cO⟩,⟨gT,hP⟩⟩,aL⟩:∃f,y.2.2[c]?=some f:=⟨_,bc (by omega)⟩;have vg:=UD aL;have t1:=FQ (N:=N) qN;have t2:=CH (N:=N) (rows:=o3++eB.drop i2) (i:=i2) (by rw[ov.len];exact OK);have t3:=CG aL;have t4:=ui (l:=y.2.2) (k:=c) (by omega);have js:decide ((i2:Int)<(N:Int))=true:=c5;have hw:=e1 (i:=i2) (by omega)
  have xL:∀z:dm,(o3++[z])++eB.drop (i2+1)=(o3++eB.drop i2).set i2 z:=λz=>by
   rw[Ay _ _ (by omega),kH,hF,k3,qM,ki];rfl
  have FW:(o3++[y])++eB.drop (i2+1)=o3++eB.drop i2:=by rw[xL];exact UF qN
  have AG:∀b:Bool,(b=true->i2=r\/(cH==0)=true)->b=true->jF gB r c 0 eB FV=((o3++[y])++(jF gB r c (i2+1) (eB.drop (i2+1)) lE).1,(jF gB r c (i2+1) (eB.drop (i2+1)) lE).2):=by
   intro b R UL
   have UM:(i2==r||hO (cellOf y c))=true:=by
    rcases R UL with h|h
    ·rw[h,beq_self_eq_true];rfl
    ·rw[vg];have:hO ((cH,cO),(gT,hP))=true:=h;rw[this,Bool.or_true]
   rw[kx,k3];simp only[jF];rw[aJ UM,ki]
   rfl
  rcases yZ:((i2:Int)==(r:Int))
  ·have CI:i2≠r:=by intro h;rw[h] at yZ;simp at yZ
   rcases OL:(cH==0)
   ·have jT:okF ((cH,cO),(gT,hP)):=OJ _ (cJ aL);simp only[go_sem,go_sem_proc,AF,aq,F,G,vr,vt,vu,uj,w9,UK,t1,t2,t3,t4,OK,js,CJ,yZ,OL,dL];refine aoR T vq sR Az go N r c i2 mem AA AB hc (o3++eB.drop i2) ov x y gB qN aU CI nw lE cH cO gT hP jT _ _ (gL (bY 148013)) ?_ ?_ ?_ ?_ ?_ ?_ ?_ ?_ ?_ ?_ ((uo.own (.inr (.inr rfl))).own (.inr (.inr rfl))) ?_
    ·exact aq
    ·exact F
    ·exact G
    ·rfl
    ·rfl
    ·exact vr
    ·exact vt
    ·exact vu
    ·rfl
    ·simp[aT]
    ·intro tm' m' l b ep bm c3 aoZ ao0 ao1 qE FR sT;refine af ?_;repeat' (intro (ag:_=_)<;>simp only[ag,go_sem,go_sem_proc,aq,F,G,ep,bm,c3,aoZ,ao0,ao1,hw]<;>try refine ab ?_ ?_)
     refine⟨(i2+1,o3++[(y.1,y.2.1,l)],b),by dsimp only;omega,by dsimp only;omega,by simp[kH],?_,by dsimp only;rw[xL];exact FR,by dsimp only;rw[xL,lF,aR CI];exact aU,rfl,?_⟩
     ·have UM:¬ (i2==r||hO (cellOf y c))=true:=by
       rw[vg];have F:hO ((cH,cO),(gT,hP))=false:=OL;have G:(i2==r)=false:=by simpa using CI
       rw[F,G];simp
      rw[kx,k3];simp only[jF];rw[aR UM,vg,<-qE,ki]
      rfl
     ·dsimp only;rw[xL];exact sT
   ·refine af ?_;repeat' (intro (ag:_=_)<;>simp only[ag,go_sem,go_sem_proc,AF,aq,F,G,vr,vt,vu,uj,w9,UK,t1,t2,t3,t4,OK,js,CJ,hw,yZ,OL,dL]<;>try refine ab ?_ ?_)
    refine⟨(i2+1,o3++[y],lE),by dsimp only;omega,by dsimp only;omega,by simp[kH],AG true (λ_ => .inr OL) rfl,by dsimp only;rw[FW];exact ov,by dsimp only;rw[FW];exact aU,rfl,?_⟩
    dsimp only;rw[FW];exact (uo.own (.inr (.inr rfl))).own (.inr (.inr rfl))
  ·have CI:i2=r:=by have h:=beq_iff_eq.1 yZ;omega
   refine af ?_;repeat' (intro (ag:_=_)<;>simp only[ag,go_sem,go_sem_proc,AF,aq,F,G,vr,vt,vu,uj,w9,UK,t1,t2,t3,t4,OK,js,CJ,hw,yZ,dL]<;>try refine ab ?_ ?_)
   refine⟨(i2+1,o3++[y],lE),by dsimp only;omega,by dsimp only;omega,by simp[kH],AG true (λ_ => .inl CI) rfl,by dsimp only;rw[FW];exact ov,by dsimp only;rw[FW];exact aU,rfl,?_⟩
   dsimp only;rw[FW];exact (uo.own (.inr (.inr rfl))).own (.inr (.inr rfl))
 ·have eY:i2=N:=by omega
  have js:decide ((i2:Int)<(N:Int))=false:=de;have zV:eB.drop i2=[]:=lj (by omega);rw[zV] at kx uo;simp only[jF,mX] at kx uo;rw[kx] at eh;refine af ?_;repeat' (intro (ag:_=_)<;>simp only[ag,go_sem,go_sem_proc,aq,F,G,vr,vt,vu,uj,w9,js]<;>try refine ab ?_ ?_)
  exact eh _ _ uo
def ao2 (T:bg)(vq:T z6=Ax yW)(UN:T ET=aE Cw){K:fC->a6->Prop}{kg:List iY}
  (go N r c:Nat) (mem:Mem) (AA:mem 168004=none) (AB:mem 168006=none) (hc:N<=40) (nw:r<N) (gC:List dm) (FX:jD N gC) (x:dm) (sX:gC[r]?=some x) (f1:Int) (f2:List Int) (f3:Int) (f4:List Int) (jQ:okF ((f1,f2),(f3,f4))) (tm:Nat->H) (m:Mem) (bf:Nat)
  (fH:tm 0=.ptr 129015 0 0) (aO:tm 1=.I (.int .i64 r)) (ax:tm 2=.I (.int .i64 c)) (AH:tm 8=.ptr 148008 bf 0) (acW:tm 85=.ref (x.1+900000) x.2.1 4 0 (N+1)) (acX:tm 86=.I (.int .i64 ((N+1:Nat):Int))) (acY:tm 87=.I (.int .i64 0))
  (em:m 148008=some (bf,[.I (.int .i64 f1),.I (.ao (f2.map aG)),.I (.int .i64 f3),.I (.ao (f4.map aG))])) (iQ:j2 mem go N gC false m)
  (eh:∀tm' m',tm' 0=.ptr 129015 0 0->tm' 1=.I (.int .i64 r)->tm' 2=.I (.int .i64 c)->jD N (gC.set r (x.1,x.2.1,(j3 ((f1,f2),(f3,f4)) x.2.2).1))->j2 mem go N (gC.set r (x.1,x.2.1,(j3 ((f1,f2),(f3,f4)) x.2.2).1)) (j3 ((f1,f2),(f3,f4)) x.2.2).2 m'->cM T K kg (.exit 2) ⟨tm',m'⟩) :
  wp T (w5.body.sub [1,1,1,1,1,1,0,1,0]) (cM T K kg) ⟨tm,m⟩:=by
 simp only[w5,e0.sub];obtain⟨q5,hq⟩:=FX.row x (cJ sX)
 have ao3:∀l:List av,(gC.set r (x.1,x.2.1,l))[r]?=some (x.1,x.2.1,l):=λl=>by
  rw[lF,aJ rfl,aJ (by rw[FX.len];exact nw)]
 refine cV [0,1,2,8,85,86] [148008] (λ(k:Nat) tm m=>k<=N+1/\tm 87=.I (.int .i64 k)/\j2 mem go N (gC.set r (x.1,x.2.1,(x.2.2.take k).map (λf=>(fK f ((f1,f2),(f3,f4))).1)++x.2.2.drop k)) ((x.2.2.take k).any λf=>(fK f ((f1,f2),(f3,f4))).2 != 0) m) (λk=>N+1-k) 0 (by
  refine⟨dF _,acY,?_⟩;have e:gC.set r (x.1,x.2.1,(x.2.2.take 0).map (λf=>(fK f ((f1,f2),(f3,f4))).1)++x.2.2.drop 0)=gC:=UF sX;rw[e];exact iQ) ?_
 intro vs ms aI aD;simp only[go_sem,go_sem_proc,fH,aO,ax,AH,acW,acX,em] at aI aD;subst aI aD;clear fH aO ax AH acW acX acY em iQ tm m;rintro k tm m Q hm ⟨aAD,acZ,iQ⟩;simp only[go_sem,go_sem_proc,bj] at Q hm;obtain⟨aq,F,G,ca,ac0,ac1⟩:=Q
 have ea:((x.2.2.take k).map (λf=>(fK f ((f1,f2),(f3,f4))).1)++x.2.2.drop k).length=N+1:=by
  rw[ks,ah,gj,pG];omega
 have CK:jD N (gC.set r (x.1,x.2.1,(x.2.2.take k).map (λf=>(fK f ((f1,f2),(f3,f4))).1)++x.2.2.drop k)):=by
  refine FX.set sX ea λf aj=>?_;rw[h5] at aj;rcases aj with aj|aj
  ·obtain⟨AI,-,rfl⟩:=h7.1 aj;exact OI _ _
  ·exact hq f (Fi aj)
 have oZ:=ao3 ((x.2.2.take k).map (λf=>(fK f ((f1,f2),(f3,f4))).1)++x.2.2.drop k);rcases dt (k<N+1) with UO|ao4
 ·obtain⟨⟨⟨dw,dV⟩,⟨hQ,jf⟩⟩,vv⟩:∃f,x.2.2[k]?=some f:=⟨_,bc (by omega)⟩;have UJ:=(aoP (λf=>(fK f ((f1,f2),(f3,f4))).1) (l:=x.2.2) (k:=k)).trans vv;have xU:=aoO (λf=>(fK f ((f1,f2),(f3,f4))).1) vv
  have uZ:(x.2.2.take (k+1)).any (λf=>(fK f ((f1,f2),(f3,f4))).2 != 0)=((x.2.2.take k).any (λf=>(fK f ((f1,f2),(f3,f4))).2 != 0)||(fK ((dw,dV),(hQ,jf)) ((f1,f2),(f3,f4))).2 != 0):=by
   rw[hn,vv,List.any_append];simp
  obtain⟨ao5,ao6⟩:=hq _ (cJ vv);generalize (x.2.2.take k).map (λf=>(fK f ((f1,f2),(f3,f4))).1)++x.2.2.drop k=cur at *;generalize ((x.2.2.take k).any λf=>(fK f ((f1,f2),(f3,f4))).2 != 0)=lE at *;have uj:=iQ.1.m;have w9:=iQ.1.o;have ao7:=iQ.1.r _ (cJ oZ);have sU:m 168004=none:=(iQ.2 _ UG).trans AA;have FT:m 168006=none:=(iQ.2 _ UH).trans AB;have t1:=FQ (N:=N) oZ;have t2:=CH (N:=N) (rows:=gC.set r (x.1,x.2.1,cur)) (i:=r) (by rw[CK.len];exact nw);have t3:=CG UJ;have t4:=ui (l:=cur) (k:=k) (by omega);have AE:decide ((k:Int)<((N+1:Nat):Int))=true:=c5;have hw:=e1 (i:=k) (by omega);generalize oR:fK ((dw,dV),(hQ,jf)) ((f1,f2),(f3,f4))=V at *;obtain⟨⟨⟨v1,v2⟩,⟨ff,v4⟩⟩,sK⟩:=V;dsimp only at xU uZ;have t5:=yY (l:=cur) (k:=k) (by omega) v1 v2 ff v4;refine af ?_;repeat' (intro h<;>simp only[h,go_sem,go_sem_proc,vq,UN,aq,F,G,ca,ac0,ac1,acZ,hm,uj,w9,ao7,sU,FT,t1,t2,t3,t4,t5,AE,UO,nw,hw,oR,ao5,ao6,jQ.1,jQ.2,cP,ar,dL,yW,FU,qM,decide_true,decide_false,acU,ne_eq,not_false_eq_true,and_self]<;>try refine ab ?_ ?_)
  have aO:=j2.set CK oZ (cur.set k ((v1,v2),(ff,v4))) (((iQ.own (k:=148010) (g:=gL (m 148010)) (cs:=[H.I (Data.int IntKind.i64 0),H.nil,H.I (Data.int IntKind.i64 0),H.nil]) (.inr (.inl rfl))).own (k:=148010) (g:=gL (m 148010)) (cs:=[H.I (Data.int IntKind.i64 dw),H.I (Data.ao (OM aG dV)),H.I (Data.int IntKind.i64 hQ),H.I (Data.ao (OM aG jf))]) (.inr (.inl rfl))).flag (lE||sK != 0));rw[acV,xU] at aO;refine⟨k+1,by omega,by omega,rfl,?_⟩
  show j2 mem go N _ ((x.2.2.take (k+1)).any λf=>(fK f ((f1,f2),(f3,f4))).2 != 0) _;rw[uZ,xU];exact aO
 ·have aAE:k=N+1:=by omega
  have ao8:(x.2.2.take k).map (λf=>(fK f ((f1,f2),(f3,f4))).1)++x.2.2.drop k=(j3 ((f1,f2),(f3,f4)) x.2.2).1:=by
   unfold j3;rw[dE (by omega),lj (by omega),mX]
  have ao9:((x.2.2.take k).any λf=>(fK f ((f1,f2),(f3,f4))).2 != 0)=(j3 ((f1,f2),(f3,f4)) x.2.2).2:=by
   unfold j3;rw[dE (by omega)]
  rw[ao8] at CK iQ;rw[ao9] at iQ;have AE:decide ((k:Int)<((N+1:Nat):Int))=false:=de;refine af ?_;repeat' (intro h<;>simp only[h,go_sem,go_sem_proc,aq,F,G,ca,ac0,ac1,acZ,hm,AE]<;>try refine ab ?_ ?_)
  refine eh _ _ ?_ ?_ ?_ CK iQ<;>simp only[q3,sW,if_false,aq,F,G]
def apa (T:bg)(AF:T II=aE JJ)(vq:T z6=Ax yW)(UN:T ET=aE Cw)(sR:T BT=aE Cv)(Az:T ym=aE yS)
  (go N:Nat) (rows:List dm) (r c:Nat) (hl:Mem) (dx:jD N rows) (g9:yX go N rows false hl) (AA:hl 168004=none) (AB:hl 168006=none) (hc:N<=40) (wi:r<=c) (o4:c<N) :
  wp T w5.body (ue w5.res λm mem'=>m=.I (.bool (j4 rows r c).1)/\j2 hl go N (j4 rows r c).2.1 (j4 rows r c).2.2 mem') ⟨ke [.ptr 129015 0 0,.I (.int .i64 r),.I (.int .i64 c)],hl⟩:=by
 refine xX ?_;simp only[w5];simp only[go_sem,go_sem_proc];refine cV [0,1,2] [] (λ(i:Nat) tm mem=>r<=i/\i<=N/\(∀j y,r<=j->j<i->rows[j]?=some y->hO (cellOf y c)=true)/\tm 7=.I (.int .i64 i)/\mem=hl) (λi=>N-i) r (by refine⟨c8 _,by omega,λj y F G=>by omega,rfl,rfl⟩) ?_;intro vs ms aI aD;simp only[go_sem,go_sem_proc] at aI aD;subst aI aD;rintro i tm mem Q hm ⟨wv,JU,a0,bK,rfl⟩;simp only[go_sem,go_sem_proc,bj] at Q hm;obtain⟨aq,F,G⟩:=Q;have vx:=g9.m;have JV:=g9.o;have hlen:=dx.len;rcases dt (i<N) with an|bB
 ·have J:∃x,rows[i]?=some x:=⟨_,bc (by omega)⟩;obtain⟨x,J⟩:=J;obtain⟨q5,hq⟩:=dx.row x (cJ J);have ac2:=g9.r x (cJ J);have aj:∃f,x.2.2[c]?=some f:=⟨_,bc (by omega)⟩;obtain⟨⟨⟨f1,f2⟩,⟨f3,f4⟩⟩,aj⟩:=aj;have ac3:=FQ (N:=N) J;have ac4:=CH (N:=N) (rows:=rows) (i:=i) (by omega);have ac5:=CG aj;have vy:=ui (l:=x.2.2) (k:=c) (by omega);have n5:=UD aj;have kK:decide ((i:Int)<(N:Int))=true:=c5;have CJ:c<N+1:=by omega
  rcases lW:(f1==0)
  ·have JW:findAt rows r c=i:=aoL J wv a0 (by rw[n5];exact lW);obtain⟨pU,lH⟩:∃x,rows[r]?=some x:=⟨_,bc (by omega)⟩
   have ac6:j4 rows r c=(false,jF (j3 ((f1,f2),(f3,f4)) x.2.2).1 r c 0 (((rows.set r x).set i pU).set r (x.1,x.2.1,(j3 ((f1,f2),(f3,f4)) x.2.2).1)) (j3 ((f1,f2),(f3,f4)) x.2.2).2):=by
    unfold j4 CF;rw[aR (by omega),JW];have:rowAt (mC rows r i) r=x:=rA (by unfold mC;rw[rA J,rA lH];exact JN J lH);rw[this,n5];unfold mC;rw[rA J,rA lH]
   rw[ac6];clear ac6;have FX:jD N ((rows.set r x).set i pU):=dx.swap lH J;have apb:j2 mem go N ((rows.set r x).set i pU) false _:=j2.swap lH J ⟨g9,λ_ _=>rfl⟩;have sX:((rows.set r x).set i pU)[r]?=some x:=JN J lH;have nw:r<N:=by omega
   have s1:=FQ (N:=N) lH;have s2:=CH (N:=N) (rows:=rows) (i:=r) (by omega);have bS:=acO (N:=N) (rows:=rows) (i:=r) (by omega) x;have bU:=CH (N:=N) (rows:=rows.set r x) (i:=i) (by rw[fj];omega);have ON:=acO (N:=N) (rows:=rows.set r x) (i:=i) (by rw[fj];omega) pU;have apc:=FQ (N:=N) sX;have apd:=CH (N:=N) (rows:=(rows.set r x).set i pU) (i:=r) (by rw[fj,fj];omega);generalize vz:(rows.set r x).set i pU=gC at *;have jQ:=hq _ (cJ aj);have aAF:decide ((i:Int)<(N:Int))=true:=kK;have ape:((i:Int)==(N:Int))=false:=by simp;omega
   simp only[go_sem,go_sem_proc,AF,vq,aq,F,G,bK,vx,JV,ac2,ac3,ac4,ac5,vy,an,kK,CJ,lW,dL,nw,s1,s2,bS,bU,ON,apc,apd,ape];refine ao2 T vq UN go N r c mem AA AB hc nw gC FX x sX f1 f2 f3 f4 jQ _ _ (gL (mem 148008)) ?_ ?_ ?_ ?_ ?_ ?_ ?_ ?_ ((apb.own (.inl rfl)).own (.inl rfl)) ?_
   ·exact aq
   ·exact F
   ·exact G
   ·rfl
   ·rfl
   ·rfl
   ·rfl
   ·simp[aT]
   intro tm' m' ep bm c3 ov uo;have uj:=uo.1.m
   have aU:(gC.set r (x.1,x.2.1,(j3 ((f1,f2),(f3,f4)) x.2.2).1))[r]?=some (x.1,x.2.1,(j3 ((f1,f2),(f3,f4)) x.2.2).1):=by
    rw[lF,aJ rfl,aJ (by rw[FX.len];exact nw)]
   simp only[go_sem,go_sem_proc,ep,bm,c3,uj];refine aoY T AF vq sR Az go N r c mem AA AB hc nw CJ _ ov x _ aU _ _ _ ?_ ?_ ?_ ?_ ?_ ?_ uo ?_
   ·exact ep
   ·exact bm
   ·exact c3
   ·rfl
   ·rfl
   ·rfl
   intro aAG fI sT;refine af ?_;repeat' (intro h<;>simp only[h,go_sem,go_sem_proc]<;>try refine ab ?_ ?_)
   exact⟨_,rfl,rfl,sT⟩
  ·have hw:=e1 (i:=i) (by omega);refine af ?_;repeat' (intro h<;>simp only[h,go_sem,go_sem_proc,AF,vq,aq,F,G,bK,vx,JV,ac2,ac3,ac4,ac5,vy,an,kK,CJ,lW,hw,dL]<;>try refine ab ?_ ?_)
   refine⟨i+1,by omega,by omega,by omega,?_,rfl⟩
   intro j y nX wm ai
   by_cases kV:j=i
   ·subst kV;rw[J] at ai
    cases ai;rw[n5];exact lW
   ·exact a0 j y nX (by omega) ai
 ·have apf:i=N:=by omega
  subst apf;have kK:decide ((i:Int)<(i:Int))=false:=de;have apg:=aoM (rows:=rows) (r:=r) (c:=c) (by omega) (λj y Y ai=>a0 j y Y (by have:=(dK.1 ai).1;omega) ai);have aP:j4 rows r c=(true,rows,false):=by unfold j4;rw[aJ apg]
  rw[aP];refine af ?_;repeat' (intro h<;>simp only[h,go_sem,go_sem_proc,AF,vq,aq,F,G,bK,vx,JV,kK,beq_self_eq_true]<;>try refine ab ?_ ?_)
  exact⟨_,rfl,rfl,g9,λ_ _=>rfl⟩
structure OO where
 go:Nat
 N:Nat
 rows:List dm
 r:Nat
 c:Nat
def UP (a:OO)(mem:Mem):Prop:=jD a.N a.rows/\yX a.go a.N a.rows false mem/\mem 168004=none/\mem 168006=none/\a.N<=40/\a.r<=a.c/\a.c<a.N
def UQ (a:OO)(mem:Mem):H->Mem->Prop:=λm mem'=>m=.I (.bool (j4 a.rows a.r a.c).1)/\j2 mem a.go a.N (j4 a.rows a.r a.c).2.1 (j4 a.rows a.r a.c).2.2 mem'
def JX:List H->Mem->Option (H->Mem->Prop):=CD (λ(a:OO) args mem=>args=[.ptr 129015 0 0,.I (.int .i64 a.r),.I (.int .i64 a.c)]/\UP a mem) UQ
def aph {N:Nat}{a b:List dm}(h:refsOf N a=refsOf N b):a.map (λx=>(x.1,x.2.1))=b.map λx=>(x.1,x.2.1):=by
 induction a generalizing b with
 |nil=>cases b with
  |nil=>rfl
  |cons y r=>simp[refsOf] at h
 |cons x a a2=>cases b with
  |nil=>simp[refsOf] at h
  |cons y b =>
   simp only[refsOf,gZ,bj,H.ref.injEq] at h;have F:x.1=y.1:=by have:=h.1.1;simp only[Key] at this;omega
   simp only[gZ,bj,eL];exact⟨⟨F,h.1.2.1⟩,a2 h.2⟩
def api (a:OO)(mem:Mem)(h:UP a mem):JX [.ptr 129015 0 0,.I (.int .i64 a.r),.I (.int .i64 a.c)] mem=some (UQ a mem):=by
 unfold JX;refine Uw (a:=a) ?_ ⟨rfl,h⟩;rintro a b args mem ⟨F,G,aa,_⟩ ⟨aX,bt,bx,_⟩;rw[F] at aX;simp only[bj,H.I.injEq,Data.int.injEq,true_and,and_true] at aX;have hm:=aa.m;rw[bx.m] at hm;simp only[bM,eL,bj,H.ref.injEq,true_and,and_true] at hm;obtain⟨⟨aL,aA⟩,-⟩:=hm;have a4:=aa.o;rw[bx.o] at a4;simp only[bM,eL] at a4;obtain⟨bH,aAH,UR,dw,dV⟩:=a;obtain⟨aAI,aAJ,US,bR,cz⟩:=b;dsimp only at *;subst aL aA
 have L:US=UR:=by
  have bK:=aph a4.2;have ae:(D US)=D UR:=by have:=congrArg D bK;simpa using this
  apply List.ext_getElem ae;intro i zJ xM;have ca:(US.map λx=>(x.1,x.2.1))[i]?=(UR.map λx=>(x.1,x.2.1))[i]?:=by rw[bK]
  rw[bd,bd,bc zJ,bc xM] at ca;simp only[kU,bM,eL] at ca;have gI:=bx.r _ (ha zJ);have lp:=aa.r _ (ha xM);rw[ca.1,lp] at gI;simp only[bM,eL] at gI;have:=aoK gI.2;exact cx ca.1 (cx ca.2 this.symm)
 subst L;have aO:dw=bR:=by omega
 have ax:dV=cz:=by omega
 subst aO ax
 rfl
def apj {args:List H}{mem:Mem}{bF:H->Mem->Prop}(h:JX args mem=some bF):∃a,args=[.ptr 129015 0 0,.I (.int .i64 a.r),.I (.int .i64 a.c)]/\UP a mem/\bF=UQ a mem:=by
 obtain⟨a,⟨F,G⟩,aa⟩:=Ux h;exact⟨a,F,G,aa⟩
def JY (l:List av):((l.map ar).all λe=>D e==4)=true:=by simp[ar]
abbrev OP:List av->List Data:=λ(l:List av)=>[.ao (l.map ar)]
def FY:=bG OP λ(l:List av)=>b8 (D l<=1000000) (.own 4 (l.map ar))
def apk:∀a b,OP a=OP b->a=b:=by
  intro hZ X h;exact map_inj j1 _ _ (by simpa using h)
@[go_sem] def apl (l):=cj FY rfl apk l rfl
def apm (T:bg):WF T aaj FY:=by
 refine b5 λl=>cn λU=>⟨rfl,b4 ?_⟩;simp only[aaj,OP,bV]
 have cY:lf 147005 0 4 0 64 (D l) ((l.map ar).flatten.map .I) (some (0,[]))=some (.ref 147005 1 4 0 (D l),some (147005,1,aQ ar l)):=by
  have:=z0 jt vl 147005 0 64 [] l (by simp;omega) (by simp;omega)
  simpa [aQ] using this
 have hlen:(aQ ar l).length=D l*4:=jU jt l;refine af ?_;repeat' (intro h<;>simp only[h,go_sem,go_sem_proc,JY,cY,ah]<;>try refine ab ?_ ?_)
 rintro b R
 cases b
 ·refine af ?_;repeat' (intro h<;>simp only[h,go_sem,go_sem_proc,JY,cY,ah,qy,hlen]<;>try refine ab ?_ ?_)
  rw[aJ (by omega),dE (by omega)];unfold aQ;rw[z1 _ λd=>rfl];have:=z2 (sz:=4) (l.map ar) (by intro e he;obtain⟨f,-,rfl⟩:=h7.1 he;rfl);rw[ah] at this;simp[this]
 ·cases l with
  |nil =>
       refine af ?_;repeat' (intro h<;>simp only[h,go_sem,go_sem_proc,qy,bN]<;>try refine ab ?_ ?_)
  |cons x r=>simp at R
def hR (rs:List b9):List dm:=rs.zipIdx.map λp=>(p.2,0,p.1.1++[p.1.2])
def JZ (rs:List b9):(hR rs).length=D rs:=by simp[hR]
def apn {rs:List b9}{i:Nat}{r:b9}(h:rs[i]?=some r):(hR rs)[i]?=some (i,0,r.1++[r.2]):=by
 unfold hR;rw[bd,UT,h];simp
def UU {rs:List b9}{i:Nat}{r:b9}(h:rs[i]?=some r):(hR rs).take (i+1)=(hR rs).take i++[(i,0,r.1++[r.2])]:=by
 rw[hn,apn h]
 rfl
def apo {rs:List b9}{i:Nat}{x:dm}(h:x∈(hR rs).take i):x.1<i/\x.2.1=0:=by
 obtain⟨j,Y⟩:=yd.1 h;rw[List.getElem?_take] at Y
 split at Y
 ·rename_i kV;unfold hR at Y;rw[bd,UT] at Y
  cases L:rs[j]? with
  |none=>rw[L] at Y;cases Y
  |some r =>
   rw[L] at Y;simp only[kU,bM] at Y;subst Y;exact⟨by simpa using kV,rfl⟩
 ·cases Y
def apq (N:Nat)(a b:List dm):refsOf N (a++b)=refsOf N a++refsOf N b:=by simp[refsOf]
def FZ (N:Nat)(a:List dm):(refsOf N a).length=D a:=by simp[refsOf]
structure y0 (N:Nat) (rs:List b9) (i go:Nat) (mem:Mem):Prop where
 z:i=0->mem 129015=some (0,[.nil,.I (.int .i64 N),.I (.bool false)])
 p:0<i->mem 129015=some (0,[.ref 129035 go 1 0 i,.I (.int .i64 N),.I (.bool false)])/\mem 129035=some (go,refsOf N ((hR rs).take i))
 r:∀x∈(hR rs).take i,mem (x.1+900000)=some (x.2.1,aQ ar x.2.2)
 n:∀j:Nat,i<=j->mem (j+900000)=none
 a:mem 168004=none
 b:mem 168006=none
def ac7 (l:List av):(l.map ar).flatten.map H.I=aQ ar l:=rfl
def apr (bf:Nat)(l:List av)(v1:Int)(v2:List Int)(ff:Int)(v4:List Int)(h:(D l)<=1000000):lf 129029 bf 4 (D l) 64 1 [.I (.int .i64 v1),.I (.ao (v2.map aG)),.I (.int .i64 ff),.I (.ao (v4.map aG))] (some (bf,aQ ar l))=some (.ref 129029 (bf+1) 4 0 (D l+1),some (129029,bf+1,aQ ar (l++[((v1,v2),(ff,v4))]))) :=
 lq jt vl 129029 bf 64 l ((v1,v2),(ff,v4)) rfl (by omega) (by omega)
def aps (N bf i g:Nat)(a:List dm)(Z:(D a)=i)(h:i<=1000)(m:H)(hm:m=.ref 129029 g 4 0 (N+1)):lf 129035 bf 1 i 24 1 [m] (some (bf,refsOf N a))=some (.ref 129035 (bf+1) 1 0 (i+1),some (129035,bf+1,refsOf N a++[m])):=by
 subst hm;unfold lf;dsimp only;rw[aJ ⟨rfl,by rw[FZ];omega,by omega,by unfold maxLen;omega,rfl⟩,dE (by rw[FZ];omega)]
def apt {N i go go' bf:Nat}{rs:List b9}{r:b9}{m m':Mem}(R:y0 N rs i go m)(L:rs[i]?=some r)(wW:m' 129015=some (0,[.ref 129035 go' 1 0 (i+1),.I (.int .i64 N),.I (.bool false)]))(aj:∀k:Nat,900000<=k\/k=168004\/k=168006->m' k=m k):
  y0 N rs (i+1) go' (aT (aT (aT m' 129029 (bz m' 129029) []) (i+900000) (bz m' (i+900000)) (aQ ar (r.1++[r.2]))) 129035 go' ((refsOf N ((hR rs).take i)++[H.ref 129029 bf 4 0 (N+1)]).set i (H.ref (i+900000) (bz m' (i+900000)) 4 0 (N+1)))):=by
 have an:=(dK.1 L).1
 have aL:bz m' (i+900000)=0:=by
  unfold bz;rw[aj _ (.inl (by omega)),R.n i (c8 _)]
 have k5:(refsOf N ((hR rs).take i)).length=i:=by rw[FZ,gj,JZ];omega
 rw[aL]
 have tx:(refsOf N ((hR rs).take i)++[H.ref 129029 bf 4 0 (N+1)]).set i (.ref (i+900000) 0 4 0 (N+1))=refsOf N ((hR rs).take (i+1)):=by
  rw[Ay _ _ (by omega),k5,hF,qM,UU L,apq]
  rfl
 rw[tx];have J0:∀(k:Nat),k≠129029->k≠129035->k≠i+900000->aT (aT (aT m' 129029 (bz m' 129029) []) (i+900000) 0 (aQ ar (r.1++[r.2]))) 129035 go' (refsOf N ((hR rs).take (i+1))) k=m' k:=λk F G aa=>by simp[aT,F,G,aa]
 refine⟨λh=>by omega,λ_=>⟨by rw[J0 _ (by omega) (by omega) (by omega)];exact wW,by simp[aT]⟩,λx J=>?_,λj Y=>?_,?_,?_⟩
 ·rw[UU L,h5,sE] at J;rcases J with J|rfl
  ·obtain⟨ey,eR⟩:=apo J;rw[J0 _ (by omega) (by omega) (by omega),aj _ (.inl (by omega))];exact R.r x J
  ·have G:(i+900000:Nat)≠129035:=by omega
   simp[aT]
 ·rw[J0 _ (by omega) (by omega) (by omega),aj _ (.inl (by omega))];exact R.n j (by omega)
 ·rw[J0 _ (by omega) (by omega) (by omega),aj _ (.inr (.inl rfl))];exact R.a
 ·rw[J0 _ (by omega) (by omega) (by omega),aj _ (.inr (.inr rfl))];exact R.b
def ac8 {K:a6->Prop}{tm:Nat->H}{N i go:Nat}(go' bf:Nat){rs:List b9}{r:b9}{m m':Mem}(R:y0 N rs i go m)(L:rs[i]?=some r)(wW:m' 129015=some (0,[.ref 129035 go' 1 0 (i+1),.I (.int .i64 N),.I (.bool false)]))
  (OQ:m' 129035=some (go',refsOf N ((hR rs).take i)++[.ref 129029 bf 4 0 (N+1)])) (apu:m' 129029=some (bf,aQ ar (r.1++[r.2]))) (aj:∀k:Nat,900000<=k\/k=168004\/k=168006->m' k=m k) (h:∀dk,y0 N rs (i+1) go' dk->K ⟨tm,dk⟩):lh K ⟨tm,m'⟩ .move:=by
 have an:=(dK.1 L).1;have k5:(refsOf N ((hR rs).take i)).length=i:=by rw[FZ,gj,JZ];omega
 exact ak3 129035 i 129029 (i+900000) OQ (by rw[r4 (by omega),k5,hF];rfl) apu (by omega) (show (i+900000:Nat)≠129029 by omega) (show (i+900000:Nat)≠129035 by omega) (h _ (apt R L wW aj))
def ko {m:Mem}{k g:Nat}{cs:List H}{j:Nat}(h:j≠k):aT m k g cs j=m j:=aR h
def apv (T:bg)(fL:T EO=aE FY){K:fC->a6->Prop}{kg:List iY}(N:Nat)(rs:List b9)(stop:Bool)(hc:N<=40)(hlen:(D rs)=N)(mT:∀r∈rs,r.1.length=N/\lD r)(tm:Nat->H)(m:Mem)
  (aO:tm 1=.I (.int .i64 N)) (ax:tm 2=.I (.bool stop)) (AH:tm 8=.ptr 129015 0 0) (ac9:tm 16=.I (.ao (rs.map cE))) (J1:tm 17=.I (.int .i64 N)) (ada:tm 18=.I (.int .i64 0)) (R:y0 N rs 0 0 m)
  (eh:∀tm' m' go,tm' 1=.I (.int .i64 N)->tm' 2=.I (.bool stop)->tm' 8=.ptr 129015 0 0->y0 N rs N go m'->cM T K kg (.exit 0) ⟨tm',m'⟩) :
  wp T (Oh.body.sub [1,1,0,1,0]) (cM T K kg) ⟨tm,m⟩:=by
 simp only[Oh,e0.sub];refine cV [1,2,8,16,17] [] (λ((i,go):Nat×Nat) tm m=>i<=N/\tm 18=.I (.int .i64 i)/\y0 N rs i go m) (λ(i,_)=>N-i) (0,0) (by exact⟨dF _,ada,R⟩) ?_;intro vs ms aI aD;simp only[go_sem,go_sem_proc,aO,ax,AH,ac9,J1] at aI aD;subst aI aD;clear aO ax AH ac9 J1 ada R tm m;rintro⟨i,go⟩ tm m Q hm ⟨JU,m2,R⟩;simp only[go_sem,go_sem_proc,bj] at Q hm;obtain⟨F,G,ca,my,h0⟩:=Q;rcases dt (i<N) with an|bB
 ·obtain⟨⟨A,⟨v1,v2⟩,⟨ff,v4⟩⟩,L⟩:∃r,rs[i]?=some r:=⟨_,bc (by omega)⟩;obtain⟨jG,⟨adb,mE⟩,sY,nP⟩:=mT _ (cJ L);dsimp only at jG adb mE sY nP;have js:decide ((i:Int)<(N:Int))=true:=c5;have hw:=e1 (i:=i) (by omega);have cY:∀bf,lf 129029 bf 4 N 64 1 _ _=_:=λbf=>jG ▸ apr bf A v1 v2 ff v4 adb;have ade:N<=1000000:=by omega
  have gY:(1<=maxLen)=True:=eq_true (by unfold maxLen;omega);have aAK:=UU L;have k5:((hR rs).take i).length=i:=by rw[gj,JZ];omega
  rcases ln i with aq|h3
  ·have vx:=R.z aq;refine af ?_;repeat' (intro h<;>simp only[h,go_sem,go_sem_proc,fL,F,G,ca,my,h0,m2,vx,js,L,hw,ade,jG,cY,gY,ac7,ah,bd,cE,ar,decide_true,decide_false,ne_eq,not_false_eq_true,and_self]<;>try refine ab ?_ ?_)
   refine ac8 (gL (m 129035)) (gL (m 129029)+1) R L (by simp[aT,aq]) (by simp[aT,aq,refsOf]) (by simp[aT]) (λk Q=>?_) λdk n9=>?_
   ·rw[ko (by omega),ko (by omega),ko (by omega),ko (by omega),ko (by omega),ko (by omega),ko (by omega)]
   ·refine af ?_;repeat' (intro h<;>simp only[h,go_sem,go_sem_proc,F,G,ca,my,h0,m2,hw]<;>try refine ab ?_ ?_)
    exact⟨(i+1,gL (m 129035)),by dsimp only;omega,by dsimp only;omega,rfl,n9⟩
  ·obtain⟨vx,JV⟩:=R.p h3;have apw:=aps N go i (gL (m 129029)+1) ((hR rs).take i) k5 (by omega) _ rfl;refine af ?_;repeat' (intro h<;>simp only[h,go_sem,go_sem_proc,fL,F,G,ca,my,h0,m2,vx,JV,js,L,hw,ade,jG,cY,apw,ac7,ah,bd,cE,ar,decide_true,decide_false,ne_eq,not_false_eq_true,and_self]<;>try refine ab ?_ ?_)
   refine ac8 (go+1) (gL (m 129029)+1) R L (by simp[aT]) (by simp[aT]) (by simp[aT]) (λk Q=>?_) λdk n9=>?_
   ·rw[ko (by omega),ko (by omega),ko (by omega),ko (by omega),ko (by omega),ko (by omega),ko (by omega)]
   ·refine af ?_;repeat' (intro h<;>simp only[h,go_sem,go_sem_proc,F,G,ca,my,h0,m2,hw]<;>try refine ab ?_ ?_)
    exact⟨(i+1,go+1),by dsimp only;omega,by dsimp only;omega,rfl,n9⟩
 ·have js:decide ((i:Int)<(N:Int))=false:=de;obtain rfl:i=N:=by omega
  refine af ?_;repeat' (intro h<;>simp only[h,go_sem,go_sem_proc,F,G,ca,my,h0,m2,js]<;>try refine ab ?_ ?_)
  refine eh _ _ go ?_ ?_ ?_ R<;>simp only[q3,sW,if_false,F,G,ca]
def m9 (stop:Bool):Nat->Nat->List dm->List Nat->Bool->List dm×List Nat×Bool
 |0,_,rows,free,bad=>(rows,free,bad)
 |_+1,_,rows,free,true=>(rows,free,true)
 |k+1,c,rows,free,false =>
  if (j4 rows (c-D free) c).1=true then
   (if stop=true then ((j4 rows (c-D free) c).2.1,free++[c],(j4 rows (c-D free) c).2.2) else m9 stop k (c+1) (j4 rows (c-D free) c).2.1 (free++[c]) (j4 rows (c-D free) c).2.2)
  else m9 stop k (c+1) (j4 rows (c-D free) c).2.1 free (j4 rows (c-D free) c).2.2
def UW (stop:Bool)(k c:Nat)(rows:List dm)(free:List Nat):m9 stop k c rows free true=(rows,free,true):=by
 cases k<;>rfl
def nx (n:Nat):List Data:=[.int .i64 n]
def xa (n:Nat):(nx n).length=1:=rfl
def UX (n:Nat):((nx n).map H.I).all H.one=true:=rfl
def UY (N:Nat)(rows:List dm)(bad:Bool):Data:=.ptr [.ao (rows.map λx=>[.ao (x.2.2.map ar)]),.int .i64 N,.bool bad]
def OR (N:Nat)(p:List dm×List Nat×Bool):Data:=.dp [UY N p.1 p.2.2,.ao (p.2.1.map nx)]
def UZ (gB:List av)(r c:Nat):∀(i:Nat) (l:List dm) (b:Bool),(jF gB r c i l b).1.map (λx=>(x.1,x.2.1,x.2.2.length))=l.map λx=>(x.1,x.2.1,x.2.2.length)
 |_,[],_=>rfl
 |i,x::xs,b=>by
  unfold jF
  split
  ·simp only[gZ,UZ gB r c (i+1) xs b]
  ·simp only[gZ,UZ gB r c (i+1) xs,acP]
def adf (lG:av):∀(l p:List av) (b:Bool),(∀f∈l,okF f)->∀f∈(jE lG l p b).1,okF f
 | [],p,b,h=>by rw[acQ];exact h
 |f::dA,[],b,h=>by cases b<;>(simp only[jE];exact h)
 |f::dA,p::cT,true,h=>by simp only[jE];exact h
 |f::dA,p::cT,false,h=>by
  simp only[jE];intro g aL;rcases kt.1 aL with rfl|aL
  ·exact FP _ _
  ·exact adf lG dA cT _ (λx J=>h x (uq _ J)) g aL
def U0 (gB:List av)(r c:Nat):∀(i:Nat) (l:List dm) (b:Bool),(∀x∈l,∀f∈x.2.2,okF f)->∀x∈(jF gB r c i l b).1,∀f∈x.2.2,okF f
 |_,[],_,h=>h
 |i,x::xs,b,h=>by
  unfold jF
  split
  ·intro y ai;rcases kt.1 ai with rfl|ai
   ·exact h _ lU
   ·exact U0 gB r c (i+1) xs b (λz a0=>h z (uq _ a0)) y ai
  ·intro y ai;rcases kt.1 ai with rfl|ai
   ·exact adf _ _ _ _ (h _ lU)
   ·exact U0 gB r c (i+1) xs _ (λz a0=>h z (uq _ a0)) y ai
def apx (rows:List dm)(r c:Nat)(L:r<=D rows):r<=findAt rows r c/\findAt rows r c<=D rows:=by
 unfold findAt;have:=List.findIdx_le_length (p:=λx => !hO (cellOf x c)) (xs:=rows.drop r);rw[pG] at this;omega
def jD.OS {N:Nat}{rows:List dm}(h:jD N rows){r c:Nat}(L:r<N):jD N (j4 rows r c).2.1:=by
 unfold j4
 split
 ·exact h
 ·rename_i bo;have jQ:=apx rows r c (by rw[h.len];omega);have ae:=h.len;obtain⟨x,J⟩:∃x,rows[findAt rows r c]?=some x:=⟨_,bc (by omega)⟩;obtain⟨pU,lH⟩:∃x,rows[r]?=some x:=⟨_,bc (by omega)⟩
  have vz:jD N (mC rows r (findAt rows r c)):=by
   unfold mC;rw[rA J,rA lH];exact h.swap lH J
  have sX:(mC rows r (findAt rows r c))[r]?=some x:=by
   unfold mC;rw[rA J,rA lH];exact JN J lH
  generalize mC rows r (findAt rows r c)=gC at *;obtain⟨q5,hq⟩:=vz.row x (cJ sX)
  have oi:jD N (CF gC r c):=by
   unfold CF;rw[rA sX];refine vz.set sX (by simp[j3,q5]) λf aj=>?_;obtain⟨g,-,rfl⟩:=h7.1 aj;exact OI _ _
  generalize CF gC r c=eB at *;have mU:=UZ (j3 (cellOf (rowAt gC r) c) (rowAt gC r).2.2).1 r c 0 eB (j3 (cellOf (rowAt gC r) c) (rowAt gC r).2.2).2;have dx:=U0 (j3 (cellOf (rowAt gC r) c) (rowAt gC r).2.2).1 r c 0 eB (j3 (cellOf (rowAt gC r) c) (rowAt gC r).2.2).2 λx J=>(oi.row x J).2;dsimp only;generalize (jF (j3 (cellOf (rowAt gC r) c) (rowAt gC r).2.2).1 r c 0 eB (j3 (cellOf (rowAt gC r) c) (rowAt gC r).2.2).2).1=el at *;refine⟨?_,?_,λy ai=>⟨?_,dx y ai⟩⟩
  ·have:=congrArg D mU;rw[ah,ah] at this;rw[this,oi.len]
  ·have F:el.map (·.1)=eB.map (·.1):=by
    have:=congrArg (OM λp:Nat×Nat×Nat=>p.1) mU
    simpa [x6,Function.comp_def] using this
   rw[F];exact oi.OG
  ·have F:el.map (λx=>x.2.2.length)=eB.map λx=>x.2.2.length:=by
    have:=congrArg (OM λp:Nat×Nat×Nat=>p.2.2) mU
    simpa [x6,Function.comp_def] using this
   have G:y.2.2.length∈eB.map λx=>x.2.2.length:=by rw[<-F];exact h7.2 ⟨y,ai,rfl⟩
   obtain⟨z,a0,e⟩:=h7.1 G;rw[<-e];exact (oi.row z a0).1
def apy {n k g N:Nat}{mem:Mem}{l:List av}(ae:(D l)=N+1)(hm:mem k=some (g,aQ ar l)):cL (n+1) mem (.ref k g 4 0 (N+1))=some (.ao (l.map ar)):=by
 rw[<-ae];exact jV jt hm
def apz {n N:Nat}{mem:Mem}{rows:List dm}(h:∀x∈rows,mem (x.1+900000)=some (x.2.1,aQ ar x.2.2))(ae:∀x∈rows,x.2.2.length=N+1):(refsOf N rows).mapM (cL (n+1) mem)=some (rows.map λx => .ao (x.2.2.map ar)):=by
 unfold refsOf
 induction rows with
 |nil=>rfl
 |cons x xs a2 =>
  have F:=apy (n:=n) (ae x lU) (h x lU);have G:=a2 (λy ai=>h y (uq _ ai)) λy ai=>ae y (uq _ ai);simp only[gZ,nf,F,G]
  rfl
def U1 {n N go:Nat}{mem:Mem}{rows:List dm}{bad:Bool}(dx:jD N rows)(h:yX go N rows bad mem):cL (n+3) mem (.ptr 129015 0 0)=some (UY N rows bad):=by
 have F:=apz (n:=n) h.r λx J=>(dx.row x J).1
 have G:cL (n+2) mem (.ref 129035 go 1 0 N)=some (.ao (rows.map λx=>[.ao (x.2.2.map ar)])):=by
  unfold cL;rw[h.o];simp only[if_true];unfold cut;rw[aJ (by rw[FZ,dx.len];omega),pD,dE (by rw[FZ,dx.len];omega)];dsimp only;rw[F];have:=z2 (sz:=1) (rows.map λx=>[Data.ao (x.2.2.map ar)]) (by intro e he;obtain⟨x,-,rfl⟩:=h7.1 he;rfl);rw[ah,dx.len] at this;simp only[kU,bM,Data.ao.injEq]
  have jQ:∀l:List dm,(l.map λx=>Data.ao (x.2.2.map ar))=(l.map λx=>[Data.ao (x.2.2.map ar)]).flatten:=by
   intro l
   induction l with
   |nil=>rfl
   |cons x xs a2=>simp only[gZ,mg,a2];rfl
  rw[jQ,this]
 unfold cL;rw[h.m];simp only[if_true,pD,nf,List.mapM_nil,G,true_and,dF];simp only[akU]
 rfl
def y0.apA {N go:Nat}{rs:List b9}{m:Mem}(ae:(D rs)=N)(hc:0<N)(h:y0 N rs N go m):yX go N (hR rs) false m:=by
 have bL:(hR rs).take N=hR rs:=dE (by rw[JZ];omega);have aP:=h.p hc;rw[bL] at aP;exact⟨aP.1,aP.2,by have:=h.r;rw[bL] at this;exact this⟩
def yX.other {go N:Nat}{rows:List dm}{bad:Bool}{mem:Mem}{k g:Nat}{cs:List H}(h:yX go N rows bad mem)(F:k≠129015)(G:k≠129035)(aa:k<900000):yX go N rows bad (aT mem k g cs) :=
 ⟨(ko (Ne.symm F)).trans h.m,(ko (Ne.symm G)).trans h.o,λx J=>(ko (show (x.1+900000:Nat)≠k by omega)).trans (h.r x J)⟩
def adg {N:Nat}{rs:List b9}(ae:(D rs)=N)(h:∀r∈rs,r.1.length=N/\lD r):jD N (hR rs):=by
 refine⟨by rw[JZ,ae],?_,λx J=>?_⟩
 ·have:(hR rs).map (·.1)=List.range (D rs):=by
   unfold hR;rw[x6];apply qm;intro i;rw[bd,UT];rcases gX i (D rs) with h|h
   ·rw[bc h];simp[h]
   ·rw[lk h];simp[h]
  rw[this];exact List.nodup_range
 ·unfold hR at J;obtain⟨⟨r,i⟩,aP,rfl⟩:=h7.1 J;have L:=List.fst_mem_of_mem_zipIdx aP;obtain⟨F,G,aa⟩:=h r L;refine⟨by simp[F],λf aj=>?_⟩
  rw[h5,sE] at aj;rcases aj with aj|rfl
  ·exact G.2 f aj
  ·exact aa
abbrev OT:(List b9)×Int×Bool->List Data:=λ(rs,n,stop)=>[.ao (rs.map cE),.int .i64 n,.bool stop]
def J2:=bG OT λ(rs,n,stop)=>b8 ((D rs:Int)=n/\D rs<=40/\∀r∈rs,r.1.length=D rs/\lD r) (.same (OR (D rs) (m9 stop (D rs) 0 (hR rs) [] false)))
def apB:∀a b,OT a=OT b->a=b:=by
  rintro⟨Oy,rb,apC⟩ ⟨Oz,re,apD⟩ h;simp only[bj,Data.ao.injEq,Data.int.injEq,Data.bool.injEq] at h;exact cx (map_inj Aw _ _ h.1) (cx h.2.1.2 h.2.2.1)
@[go_sem] def apE (rs n stop):=cj J2 rfl apB (rs,n,stop) rfl
def apF (T:bg)(fL:T EO=aE FY)(qO:T SE=yV JX):WF T Oh J2:=by
 refine b5 λ(rs,n,stop)=>cn λU=>⟨rfl,b4 ?_⟩;simp only[Oh,OT,bV];obtain⟨aA,hc,mT⟩:=U;subst aA;simp only[go_sem,go_sem_proc,fL,qO,ah];generalize U2:(D rs)=N at *;refine apv T fL N rs stop hc U2 mT _ _ rfl rfl rfl rfl rfl rfl ⟨λ_=>by simp[aT],λh=>by omega,λx J=>by simp at J,λj _=>ko (show (j+900000:Nat)≠129015 by omega),ko (by omega),ko (by omega)⟩ ?_
 intro tm m go F G ca R;rcases ln N with aq|h3
 ·have sD:rs=[]:=List.eq_nil_of_length_eq_zero (by omega);have a0:=R.z aq;subst aq;subst sD;simp only[go_sem,go_sem_proc,fL,qO,F,G,ca];refine cV [1,2,8] [129015] (λ(_:Unit) tm' m'=>tm' 11=.ref 129061 (gL (m 129061)) 1 0 0/\m' 129061=some (gL (m 129061),[])/\tm' 12=.I (.int .i64 0)) (λ_=>0) () (by refine⟨rfl,?_,rfl⟩;simp[aT]) ?_;intro vs ms aI aD;simp only[go_sem,go_sem_proc,fL,qO,F,G,ca,a0] at aI aD;subst aI aD;rintro _ tm' m' Q hm ⟨lu,J3,lx⟩;simp only[go_sem,go_sem_proc,fL,qO,bj] at Q hm;obtain⟨bm,c3,fQ⟩:=Q;refine af ?_;repeat' (intro (ag:_=_)<;>simp only[ag,go_sem,go_sem_proc,fL,qO,bm,c3,fQ,hm,lu,J3,lx,show decide ((0:Int)<((0:Nat):Int))=false from rfl,cL,q4,pD]<;>try refine ab ?_ ?_)
  rfl
 ·have y1:=R.apA U2 h3;have dx:=adg U2 mT;have J4:=R.a;have J5:=R.b;clear R;simp only[go_sem,go_sem_proc,fL,qO,F,G,ca]
  refine cV [1,2,8] [] (λ((c,rows,free,bad,g):Nat×List dm×List Nat×Bool×Nat) tm m=>c<=N/\D free<=c/\m9 stop N 0 (hR rs) [] false=m9 stop (N-c) c rows free bad/\jD N rows/\yX go N rows bad m/\m 168004=none/\m 168006=none/\tm 11=.ref 129061 g 1 0 (D free)/\m 129061=some (g,aQ nx free)/\tm 12=.I (.int .i64 c)) (λ(c,_,_,_,_)=>N-c) (0,hR rs,[],false,gL (m 129061)) (by
   refine⟨dF _,c8 _,rfl,dx,⟨?_,?_,λx J=>?_⟩,?_,?_,rfl,?_,rfl⟩
   ·rw[ko (by omega)];exact y1.m
   ·rw[ko (by omega)];exact y1.o
   ·rw[ko (show (x.1+900000:Nat)≠129061 by omega)];exact y1.r x J
   ·rw[ko (by omega)];exact J4
   ·rw[ko (by omega)];exact J5
   ·simp[aT,aQ]) ?_
  intro vs ms aI aD;simp only[go_sem,go_sem_proc,fL,qO,F,G,ca] at aI aD;subst aI aD;clear F G ca y1 J4 J5;rintro⟨c,rows,free,bad,g⟩ tm m Q hm ⟨o4,aAL,kx,dx,y1,J4,J5,lu,J3,lx⟩;simp only[go_sem,go_sem_proc,fL,qO,bj] at Q hm;obtain⟨F,G,ca⟩:=Q;have vx:=y1.m
  have T0:m9 stop N 0 (hR rs) [] false=(rows,free,bad)->((cL 5 m (.ptr 129015 0 0)).bind λd=>(cL 5 m (.ref 129061 g 1 0 (D free))).bind λe=>some (Data.dp [d,e]))=some (OR N (m9 stop N 0 (hR rs) [] false)):=by
   intro h;rw[h,U1 (n:=2) dx y1,jV xa J3]
   rfl
  have ur:=U1 (n:=2) dx y1;have uu:=jV (n:=4) xa J3;rcases dt (c<N) with an|bB
  ·have ea:decide ((c:Int)<(N:Int))=true:=c5
   cases bad
   ·have m0:IntKind.i64.wrap ((c:Int)-(D free:Int))=((c-D free:Nat):Int):=by rw[fJ _];omega
    have gn:=e1 (i:=c) (by omega);have e5:=api ⟨go,N,rows,c-D free,c⟩ m ⟨dx,y1,J4,J5,hc,Nat.sub_le _ _,an⟩;dsimp only at e5;have U3:N-c=(N-(c+1))+1:=by omega
    rw[U3] at kx;simp only[m9] at kx;have AD:=dx.OS (r:=c-D free) (c:=c) (by omega);simp only[go_sem,go_sem_proc,fL,qO,qO,F,G,ca,lu,lx,vx,ea,m0,e5];intro xb m' ec;obtain⟨J6,iQ⟩:=ec;dsimp only at J6 iQ;subst J6;have sU:m' 168004=none:=(iQ.2 _ UG).trans J4;have FT:m' 168006=none:=(iQ.2 _ UH).trans J5;have U4:m' 129061=some (g,aQ nx free):=(iQ.2 129061 (by unfold FO;omega)).trans J3;have cY:lf 129061 g 1 (D free) 8 1 [.I (.int .i64 c)] (some (g,aQ nx free))=_:=lq xa UX 129061 g 8 free c rfl (by omega) (by omega);generalize aAM:j4 rows (c-D free) c=uv at *;obtain⟨apG,adh,adi⟩:=uv;dsimp only at *
    cases apG
    ·simp only[cC,if_false] at kx;refine af ?_;repeat' (intro (ag:_=_)<;>simp only[ag,go_sem,go_sem_proc,fL,qO,F,G,ca,lu,lx,gn]<;>try refine ab ?_ ?_)
     exact⟨(c+1,adh,free,adi,g),by dsimp only;omega,by dsimp only;omega,by dsimp only;omega,kx,AD,iQ.1,sU,FT,rfl,U4,rfl⟩
    ·simp only[if_true] at kx;have adj:=iQ.1.other (k:=129061) (g:=g+1) (cs:=aQ nx (free++[c])) (by omega) (by omega) (by omega)
     cases stop
     ·simp only[cC,if_false] at kx;refine af ?_;repeat' (intro (ag:_=_)<;>simp only[ag,go_sem,go_sem_proc,fL,qO,F,G,ca,lu,lx,gn,U4,cY]<;>try refine ab ?_ ?_)
      exact⟨(c+1,adh,free++[c],adi,g+1),by dsimp only;omega,by dsimp only;omega,by simp;omega,kx,AD,adj,sU,FT,by simp,rfl,rfl⟩
     ·simp only[if_true] at kx;refine af ?_;repeat' (intro (ag:_=_)<;>simp only[ag,go_sem,go_sem_proc,fL,qO,F,G,ca,lu,lx,gn,U4,cY]<;>try refine ab ?_ ?_)
      have F0:(D free)+1=(free++[c]).length:=by simp
      rw[U1 (n:=2) AD adj,F0,jV (n:=4) xa (g:=g+1) (l:=free++[c]) (by simp[aT]),kx]
      rfl
   ·rw[UW] at kx;refine af ?_;repeat' (intro (ag:_=_)<;>simp only[ag,go_sem,go_sem_proc,fL,qO,F,G,ca,lu,lx,vx,ea,ur,uu]<;>try refine ab ?_ ?_)
    rw[kx]
    rfl
  ·have ea:decide ((c:Int)<(N:Int))=false:=de;have U3:N-c=0:=by omega
   rw[U3] at kx;simp only[m9] at kx;refine af ?_;repeat' (intro (ag:_=_)<;>simp only[ag,go_sem,go_sem_proc,fL,qO,F,G,ca,lu,lx,vx,ea,ur,uu]<;>try refine ab ?_ ?_)
   rw[kx]
   rfl
def J7 {rs:List b9}{n:Int}(a4:qK rs)(h:nV rs n=true):(D rs:Int)=n/\D rs<=40/\∀r∈rs,r.1.length=D rs/\lD r:=by
 unfold nV at h;simp only[fe,vA,decide_eq_false_iff_not,beq_iff_eq] at h;obtain⟨F,G,aa,aX⟩:=h;refine⟨aa,by omega,λr L=>⟨?_,a4.2 r L⟩⟩
 rw[sN] at aX;have:=aX r L;unfold nU at this;simp at this;omega
def U5 {stop:Bool}{N:Nat}:∀(k c:Nat) (rows:List dm) (free:List Nat) (bad:Bool),c+k=N->jD N rows->jD N (m9 stop k c rows free bad).1
 |0,_,rows,_,_,_,h=>h
 |k+1,c,rows,free,true,U,h=>h
 |k+1,c,rows,free,false,U,h=>by
  have aP:=h.OS (r:=c-D free) (c:=c) (by omega);unfold m9
  split
  ·split
   ·exact aP
   ·exact U5 k (c+1) _ _ _ (by omega) aP
  ·exact U5 k (c+1) _ _ _ (by omega) aP
def uw (stop:Bool)(rs:List b9):List dm×List Nat×Bool:=m9 stop (D rs) 0 (hR rs) [] false
def U6 (stop:Bool):∀(k c:Nat) (rows:List dm) (free:List Nat) (bad:Bool),(m9 stop k c rows free bad).2.1.length<=D free+k
 |0,_,_,_,_=>by simp[m9]
 |k+1,c,rows,free,true=>by simp[m9]
 |k+1,c,rows,free,false=>by
  unfold m9
  split
  ·split
   ·simp
   ·have:=U6 stop k (c+1) (j4 rows (c-D free) c).2.1 (free++[c]) (j4 rows (c-D free) c).2.2;simp at this;omega
  ·have:=U6 stop k (c+1) (j4 rows (c-D free) c).2.1 free (j4 rows (c-D free) c).2.2;omega
def apH (stop:Bool)(rs:List b9):(uw stop rs).2.1.length<=D rs:=by
 have:=U6 stop (D rs) 0 (hR rs) [] false;unfold uw
 simpa using this
def adk {rs:List b9}{stop:Bool}(h:∀r∈rs,r.1.length=D rs/\lD r):jD (D rs) (uw stop rs).1:=U5 _ _ _ _ _ (by omega) (adg rfl h)
def vB (N:Nat)(x:dm):av:=x.2.2.getD N bA
def mF (rs:List b9)(n:Int):List av×Int :=
 if nV rs n=true then (if (uw true rs).2.2=true then ([],6) else if (uw true rs).2.1.length>0 then ([],17) else ((uw true rs).1.map (vB (D rs)),0)) else ([],1)
def adl {N:Nat}{x:dm}{f:av}(h:x.2.2[N]?=some f):vB N x=f:=by
 unfold vB;rw[dG,h]
 rfl
def J8:=bG w8 λ(rs,n)=>b8 (qK rs) (.same (.dp [.ao ((mF rs n).1.map ar),.int .i64 (mF rs n).2]))
@[go_sem] def adm (rs n):=cj J8 rfl OC (rs,n) rfl
def apI (T:bg)(AJ:T Sw=aE OB)(AK:T Sz=aE J2):WF T ab7 J8:=by
 refine b5 λ(rs,n)=>cn λU=>⟨rfl,b4 ?_⟩;simp only[ab7,w8,bV];unfold mF;rcases L:nV rs n
 ·refine af ?_;repeat' (intro h<;>simp only[h,go_sem,go_sem_proc,AJ,AK,U,L,bN]<;>try refine ab ?_ ?_)
 ·have dx:=adk (stop:=true) (J7 U L).2.2;have ej:J2 [.ao (rs.map cE),.int .i64 n,.bool true]=some (.same (OR (D rs) (uw true rs))):=apE rs n true (J7 U L);have jQ:=apH true rs;obtain⟨aA,hc,-⟩:=J7 U L;rcases dU:uw true rs with ⟨rows,free,bad⟩;rw[dU] at jQ dx ej;dsimp only at jQ dx;simp only[OR,UY] at ej
  cases bad
  ·cases free with
   |nil =>
    simp only[go_sem,go_sem_proc,AJ,AK,U,L,ej,ah,show decide (((0:Nat):Int)>0)=false from rfl,bN];rw[aR (by simp)];refine cV [1,33,34] [] (λ((i,g):Nat×Nat) tm m=>i<=D rs/\tm 35=.I (.int .i64 i)/\tm 8=.ref 109045 g 4 0 i/\m 109045=some (g,aQ ar ((rows.take i).map (vB (D rs))))) (λ(i,_)=>D rs-i) (0,0) (by refine⟨dF _,rfl,rfl,?_⟩;simp[aT,aQ,bz,emp]) ?_;intro vs ms aI aD;simp only[go_sem,go_sem_proc,AJ,AK] at aI aD;subst aI aD;rintro⟨i,g⟩ tm m Q hm ⟨JU,OQ,ca,U7⟩;simp only[go_sem,go_sem_proc,AJ,AK,bj] at Q hm;obtain⟨F,N5,xc⟩:=Q;have b7:=dx.len;rcases dt (i<D rs) with an|bB
    ·obtain⟨x,J⟩:∃x,rows[i]?=some x:=⟨_,bc (by omega)⟩;obtain⟨q5,hq⟩:=dx.row x (cJ J);obtain⟨⟨⟨dw,dV⟩,⟨hQ,jf⟩⟩,vv⟩:∃f,x.2.2[D rs]?=some f:=⟨_,bc (by omega)⟩;have nj:=adl vv;have k5:((rows.take i).map (vB (D rs))).length=i:=by rw[ah,gj];omega
     have cY:=lq jt vl 109045 g 64 ((rows.take i).map (vB (D rs))) ((dw,dV),(hQ,jf)) (cs:=[.I (.int .i64 dw),.I (.ao (dV.map aG)),.I (.int .i64 hQ),.I (.ao (jf.map aG))]) rfl (by omega) (by omega);rw[k5] at cY
     have J9:(rows.take (i+1)).map (vB (D rs))=(rows.take i).map (vB (D rs))++[((dw,dV),(hQ,jf))]:=by
      rw[hn,J,pT];simp[nj]
     have js:decide ((i:Int)<(D rs:Int))=true:=c5;have U8:decide ((i:Int)<(D rows:Int))=true:=c5;have hw:=e1 (i:=i) (by omega);have qp:decide (0<=n)=true:=c5;have apJ:n=((D rs:Nat):Int):=aA.symm;refine af ?_;repeat' (intro h<;>simp only[h,go_sem,go_sem_proc,AJ,AK,F,N5,xc,OQ,ca,U7,J,vv,cY,js,U8,hw,apJ,ah,bd,ar]<;>try refine ab ?_ ?_)
     exact⟨(i+1,g+1),by dsimp only;omega,by dsimp only;omega,rfl,rfl,by dsimp only;rw[J9]⟩
    ·have eY:i=D rs:=by omega
     have U8:decide ((i:Int)<(D rows:Int))=false:=de;have cX:rows.take i=rows:=dE (by omega);rw[cX] at U7
     have ez:∀n,cL (n+1) m (.ref 109045 g 4 0 i)=some (.ao ((rows.map (vB (D rs))).map ar)):=λn=>by
      have:=jV (n:=n) jt U7;rw[show (rows.map (vB (D rs))).length=i by rw[ah];omega] at this
      exact this
     have apK:=ez 4;refine af ?_;repeat' (intro h<;>simp only[h,go_sem,go_sem_proc,AJ,AK,F,N5,xc,OQ,ca,U8,apK]<;>try refine ab ?_ ?_)
   |cons f dA =>
    have kE:decide ((((f::dA).length:Nat):Int)>0)=true:=mL (by simp only[lQ];omega);simp only[lQ] at kE;refine af ?_;repeat' (intro h<;>simp only[h,go_sem,go_sem_proc,AJ,AK,U,L,ej,ah,kE,bN]<;>try refine ab ?_ ?_)
    rw[aJ (by omega)]
    rfl
  ·refine af ?_;repeat' (intro h<;>simp only[h,go_sem,go_sem_proc,AJ,AK,U,L,ej,ah,bN]<;>try refine ab ?_ ?_)
def adn:bE:=bT 30 2 [.t 4,.t 5] (M [az 4 (.iu (.c (.I (.int .u64 0)))),az 5 (.iu (.c (.I (.int .u64 0))))] (.seq (.cond (.c (.I (.bool false))) (M [E 11 0,az 12 (.conv .u32 (.t 11)),E 13 1,az 14 (.conv .u32 (.t 13)),bI 15 alB 12 14,E 10 15,aN 16 0 10,aN 17 1 10,E 6 16,E 7 17] (M [E 18 6,az 19 (.conv .u64 (.t 18)),E 20 7,az 21 (.conv .u64 (.t 20)),E 4 19,E 5 21] .ret)) .skip) (M [E 23 0,E 24 1,bI 25 SJ 23 24,E 22 25,aN 26 0 22,aN 27 1 22,E 8 26,E 9 27] (M [E 28 8,E 29 9,E 4 28,E 5 29] .ret))))
def ado:bE:=bT 51 2 [.t 4,.t 5] (M [az 4 (.iu (.c (.I (.int .u64 0)))),az 5 (.iu (.c (.I (.int .u64 0))))] (M [E 14 0,az 15 (.bin .and (.t 14) (.c (.I (.int .u64 4294967295)))),E 6 15] (M [E 16 0,az 17 (.bin .shr (.t 16) (.c (.I (.int .u64 32)))),E 7 17] (M [E 18 1,az 19 (.bin .and (.t 18) (.c (.I (.int .u64 4294967295)))),E 8 19] (M [E 20 1,az 21 (.bin .shr (.t 20) (.c (.I (.int .u64 32)))),E 9 21] (M [E 22 6,E 23 8,br 24 .mul 22 23,E 10 24] (M [E 25 7,E 26 8,br 27 .mul 25 26,E 28 10,az 29 (.bin .shr (.t 28) (.c (.I (.int .u64 32)))),br 30 .add 27 29,E 11 30] (M [E 31 11,az 32 (.bin .and (.t 31) (.c (.I (.int .u64 4294967295)))),E 12 32] (M [E 33 11,az 34 (.bin .shr (.t 33) (.c (.I (.int .u64 32)))),E 13 34] (M [E 35 12,E 36 6,E 37 9,br 38 .mul 36 37,br 39 .add 35 38,E 12 39] (M [E 40 7,E 41 9,br 42 .mul 40 41,E 43 13,br 44 .add 42 43,E 45 12,az 46 (.bin .shr (.t 45) (.c (.I (.int .u64 32)))),br 47 .add 44 46,E 4 47] (M [E 48 0,E 49 1,br 50 .mul 48 49,E 5 50] .ret))))))))))))
def U9:∀y:Nat,y<41->bits .and .u64 (y:Int) 4294967295=y:=by decide
def apL (y:Nat)(h:y<41):(y:Int).fdiv 4294967296=0:=by
 rw[Uc _ (by omega)];omega
abbrev F1:Nat->List Data:=λ(y:Nat)=>[.int .u64 1,.int .u64 y]
def OU:=bG F1 λ(y:Nat)=>b8 (y<41) (.same (.dp [.int .u64 0,.int .u64 y]))
def adp:∀a b,F1 a=F1 b->a=b:=by
  intro og qC h;simp only[bj,Data.int.injEq] at h;omega
@[go_sem] def aAN (y):=cj OU rfl adp y rfl
def apM (T:bg):WF T ado OU:=by
 refine b5 λy=>cn λU=>⟨rfl,b4 ?_⟩;simp only[ado,F1,bV];have F:=U9 y U;have G:=apL y U;have aa:=U9 1 (by omega);have aX:=U9 0 (by omega);have bt:((1:Int)).fdiv 4294967296=0:=by decide
 have bx:((0:Int)).fdiv 4294967296=0:=by decide
 have hw:∀x:Int,0<=x/\x<18446744073709551616->IntKind.u64.wrap x=x:=λx h=>yk x h;have cq:=hw 0 (by omega);have w1:=hw y (by omega);simp only[Int.natCast_zero,Int.cast_ofNat_Int,Int.natCast_one] at aa aX;refine af ?_;repeat' (intro (ag:_=_)<;>simp only[ag,go_sem,go_sem_proc,F,G,aa,aX,bt,bx,cq,w1,show ((32:Int)<0)=False from by simp,if_false,show (2:Int)^min (Int.toNat 32) 64=4294967296 from rfl,oj,yK,Int.mul_zero,Int.add_zero,Int.zero_add]<;>try refine ab ?_ ?_)
def OV:=bG F1 λ(y:Nat)=>b8 (y<41) (.same (.dp [.int .u64 0,.int .u64 y]))
@[go_sem] def aAO (y):=cj OV rfl adp y rfl
def apN (T:bg)(apO:T SJ=aE OU):WF T adn OV:=by
 refine b5 λy=>cn λU=>⟨rfl,b4 ?_⟩;simp only[adn,F1,bV];refine af ?_;repeat' (intro h<;>simp only[h,go_sem,go_sem_proc,apO,U]<;>try refine ab ?_ ?_)
def qP {α:Type}{A:List α}{k:Nat}(e9:(D A)=k)(n:Nat):(cf n A).flatten.length=n*k:=by
 rw[List.length_flatten,CL,e9,List.sum_replicate_nat]
def apP {α:Type}{A:List α}{k:Nat}(e9:(D A)=k){q j:Nat}(h:q<=j):(cf j A).flatten.take (q*k)=(cf q A).flatten:=by
 obtain⟨d,rfl⟩:=adq h;rw[<-Va,Vb,Vc (by rw[qP e9];omega),dE (by rw[qP e9];omega)]
def apQ {α:Type}{A:List α}{k:Nat}(e9:(D A)=k){q j:Nat}(h:q<=j):(cf j A).flatten.drop (q*k)=(cf (j-q) A).flatten:=by
 obtain⟨d,rfl⟩:=adq h;rw[<-Va,Vb,EF,lj (by rw[qP e9];omega),qP e9,hF,pD,EA,EG]
def CM:List H:=[.I (.int .i64 0),.nil,.I (.int .i64 0),.nil]
def o5 (A:List H)(N j:Nat):List H:=(cf j A).flatten++(cf (N-j) CM).flatten
def adr {A:List H}(e9:(D A)=4){N j:Nat}(h:j<=N):(o5 A N j).length=N*4:=by
 unfold o5;rw[ks,qP e9,qP (show (D CM)=4 from rfl)];omega
def ads {A:List H}(e9:(D A)=4){N j q:Nat}(h:j+q<=N):(o5 A N j).take (j*4)++(cf q A).flatten++(o5 A N j).drop (j*4+q*4)=o5 A N (j+q):=by
 unfold o5;rw[Vc (by rw[qP e9];omega),dE (by rw[qP e9];omega),EF,lj (by rw[qP e9];omega),qP e9,EG,apQ (show (D CM)=4 from rfl) (by omega),EA,<-Va (n:=j),Vb,Nat.sub_sub]
def apR {A:List H}(e9:(D A)=4){N j:Nat}:(o5 A N j).take (j*4)=(cf j A).flatten:=by
 unfold o5;rw[Vc (by rw[qP e9];omega),dE (by rw[qP e9];omega)]
def adt {A:List H}(h:A.all H.one=true)(q:Nat):(cf q A).flatten.all H.one=true:=by
 induction q with
 |zero=>rfl
 |succ n a2=>rw[qn,mg,List.all_append,h,a2];rfl
def apS (f:av)(N:Nat):o5 ((ar f).map .I) N N=aQ ar (cf N f):=by
 unfold o5 aQ;rw[hF,CL];simp only[List.replicate_zero,List.flatten_nil,mX]
 induction N with
 |zero=>rfl
 |succ n a2=>rw[qn,mg,qn,mg,pT,a2]
def apT {A:List H}(e9:(D A)=4)(F:A.all H.one=true)(N:Nat):zD 131030 0 4 0 N 1 A (some (0,(cf N CM).flatten))=some (.I (.int .i64 ((min 1 N:Nat):Int)),some (131030,0,o5 A N (min 1 N))):=by
 unfold zD;dsimp only;rw[aJ ⟨rfl,by rw[qP (show (D CM)=4 from rfl)];omega,F⟩]
 have aq:(cf N CM).flatten=o5 A N 0:=by simp[o5]
 have bL:A.take (min 1 N*4)=(cf (min 1 N) A).flatten:=by
  rcases ln N with h|h
  ·subst h;simp
  ·rw[show min 1 N=1 by omega];simp[dE (Nat.le_of_eq e9)]
 have:=ads e9 (N:=N) (j:=0) (q:=min 1 N) (by omega);rw[aq,bL];unfold kv;rw[qP e9];simp only[Nat.zero_mul,Nat.zero_add] at this ⊢;rw[this]
def apU {A:List H}(e9:(D A)=4)(F:A.all H.one=true){N j:Nat}(h:j<N):zD 131030 0 4 (j*4) (N-j) j (cf j A).flatten (some (0,o5 A N j))=some (.I (.int .i64 ((min j (N-j):Nat):Int)),some (131030,0,o5 A N (j+min j (N-j)))):=by
 unfold zD;dsimp only;rw[aJ ⟨rfl,by rw[adr e9 (by omega)];omega,adt F j⟩]
 rw[apP e9 (show min j (N-j)<=j by omega)];have:=ads e9 (N:=N) (j:=j) (q:=min j (N-j)) (by omega);unfold kv;rw[qP e9,this]
abbrev OW:Int×(List Int)×Int×(List Int)×Nat->List Data:=λ(s,l,s2,X,N)=>[.ao [[.int .i64 s,.ao (l.map aG),.int .i64 s2,.ao (X.map aG)]],.int .i64 N]
def Ka:=bG OW λ(s,l,s2,X,N)=>b8 (N<41) (.own 4 (cf N (ar ((s,l),(s2,X)))))
def apV:∀a b,OW a=OW b->a=b:=by
  rintro⟨s1,hZ,tX,sG,aAP⟩ ⟨s2,X,tY,sH,aAQ⟩ h;simp only[bj,Data.int.injEq,Data.ao.injEq] at h;exact cx h.1.1.1.2 (cx (map_inj fW _ _ h.1.1.2.1) (cx h.1.1.2.2.1.2 (cx (map_inj fW _ _ h.1.1.2.2.2.1) (by have:=h.2.1.2;dsimp only;omega))))
@[go_sem] def adu (s l s2 X N):=cj Ka rfl apV (s,l,s2,X,N) rfl
def apW (T:bg)(CN:T SF=aE OV):WF T aah Ka:=by
 refine b5 λ(s,l,s2,X,N)=>cn λU=>⟨rfl,b4 ?_⟩;simp only[aah,OW,bV];have aq:decide ((N:Int)<0)=false:=de;have hw:IntKind.u64.wrap (N:Int)=N:=yk _ ⟨by omega,by omega⟩
 have YX:IntKind.i64.wrap (N:Int)=N:=wrap64 _ (by omega) (by omega);have m0:IntKind.u64.wrap ((1:Nat):Int)=1:=by decide
 have aL:decide ((N:Int)>9223372036854775807)=false:=de;have y2:(64*N<=140737488355328)=True:=eq_true (by omega);have y3:(N<=maxLen)=True:=eq_true (by unfold maxLen;omega);have e9:((ar ((s,l),(s2,X))).map H.I).length=4:=rfl;have CO:((ar ((s,l),(s2,X))).map H.I).all H.one=true:=rfl;have zM:=apT e9 CO N;have En:=λj (h:j<N)=>apU e9 CO h;have Kb:(ar ((s,l),(s2,X))).map H.I=[.I (.int .i64 s),.I (.ao (l.map aG)),.I (.int .i64 s2),.I (.ao (X.map aG))]:=rfl;simp only[CM] at zM;rw[Kb] at zM;simp only[go_sem,go_sem_proc,CN] at zM;simp only[go_sem,go_sem_proc,CN,aq,hw,YX,m0,U,aL,y2,y3,show decide ((0:Int)>0)=false from rfl,zM];rw[Kb] at e9 CO;have lY:=apS ((s,l),(s2,X)) N;rw[Kb] at lY;simp only[Kb] at En;clear Kb zM;generalize [H.I (.int .i64 s),.I (.ao (l.map aG)),.I (.int .i64 s2),.I (.ao (X.map aG))]=A at *;refine cV [7] [] (λ(j:Nat) tm m=>j<=N/\(0<N->0<j)/\tm 8=.I (.int .i64 j)/\m 131030=some (0,o5 A N j)) (λj=>N-j) (min 1 N) (by refine⟨by omega,by omega,rfl,?_⟩;simp[aT]) ?_;intro vs ms aI aD;simp only[go_sem,go_sem_proc,CN] at aI aD;subst aI aD;rintro j tm m Q hm ⟨adv,apX,ca,Vd⟩;simp only[go_sem,go_sem_proc,CN,bj] at Q hm;have bK:=Q;rcases dt (j<N) with an|bB
 ·have hj:decide ((j:Int)<(N:Int))=true:=c5;have aA:=En j an;have nG:=apR e9 (N:=N) (j:=j);have hlen:(j*4<=(o5 A N j).length)=True:=eq_true (by rw[adr e9 adv];omega);have apY:(j<=N)=True:=eq_true adv;have cX:=adt CO j;simp only[go_sem,go_sem_proc,CN,cX,CO,nG] at aA;have gn:IntKind.i64.wrap ((j:Int)+((min j (N-j):Nat):Int))=((j+min j (N-j):Nat):Int):=by rw[fJ _];omega
  refine af ?_;repeat' (intro (ag:_=_)<;>simp only[ag,go_sem,go_sem_proc,CN,bK,ca,Vd,hj,nG,hlen,apY,cX,aA,gn,c8,Nat.sub_zero,dF]<;>try refine ab ?_ ?_)
  exact⟨j+min j (N-j),by have:=apX (by omega);omega,by omega,by omega,rfl,rfl⟩
 ·have hj:decide ((j:Int)<(N:Int))=false:=de;obtain rfl:j=N:=by omega
  rw[lY] at Vd;have yM:=jU jt (cf j ((s,l),(s2,X)));rw[hr] at yM;refine af ?_;repeat' (intro (ag:_=_)<;>simp only[ag,go_sem,go_sem_proc,CN,bK,ca,Vd,hj,qy,yM]<;>try refine ab ?_ ?_)
  rw[aJ (c8 _),dE (by omega)];unfold aQ;rw[z1 _ λd=>rfl];have:=z2 (sz:=4) ((cf j ((s,l),(s2,X))).map ar) (by intro e he;obtain⟨f,-,rfl⟩:=h7.1 he;rfl);rw[ah,hr] at this;rw[kU,this,CL]


abbrev cl:=Int×Int×av
def fg (l:cl):List Data:=.int .i64 l.1 :: .int .i64 l.2.1::ar l.2.2
def ux:∀a b:cl,fg a=fg b->a=b:=by
 rintro⟨a,b,w⟩ ⟨c,d,v⟩ h;simp only[fg,bj,Data.int.injEq,true_and] at h;obtain⟨rfl,rfl,h⟩:=h;rw[j1 _ _ h]
def qQ (l:List cl):Prop:=D l<=1000000/\∀x∈l,okF x.2.2
def pV (n:Int)(l:cl):Bool:=decide (l.1<0)||(decide (l.1>=n)||(decide (l.2.1<0)||(decide (l.2.1>=n) || !g3 l.2.2)))
abbrev OX:Int×Int×Int×(List Int)×Int×(List Int)×Int->List Data:=λ(a,b,s,l,s2,X,n)=>[.agg [.int .i64 a,.int .i64 b,.int .i64 s,.ao (l.map aG),.int .i64 s2,.ao (X.map aG)],.ptr [.int .i64 n]]
def OY:=bG OX λ(a,b,s,l,s2,X,n)=>b8 (D l<=1000000/\D X<=1000000) (.same (.bool (pV n (a,b,((s,l),(s2,X))))))
def apZ:∀a b,OX a=OX b->a=b:=by
  rintro⟨dw,bR,s1,hZ,tX,sG,rb⟩ ⟨dV,cz,s2,X,tY,sH,re⟩ h;simp only[bj,Data.agg.injEq,Data.int.injEq,Data.ao.injEq,Data.ptr.injEq] at h;exact cx h.1.1.2 (cx h.1.2.1.2 (cx h.1.2.2.1.2 (cx (map_inj fW _ _ h.1.2.2.2.1) (cx h.1.2.2.2.2.1.2 (cx (map_inj fW _ _ h.1.2.2.2.2.2.1) h.2.1.1.2)))))
@[go_sem] def aAR (a b s l s2 X n):=cj OY rfl apZ (a,b,s,l,s2,X,n) rfl
def ap0 (T:bg)(w6:T B2=aE FG):WF T acr OY:=by
 refine b5 λ(a,b,s,l,s2,X,n)=>cn λU=>⟨rfl,b4 ?_⟩;simp only[acr,OX,bV];obtain⟨bq,bp⟩:=U;unfold pV;rcases F:decide (a<0)
 ·rcases G:decide (a>=n)
  ·rcases aa:decide (b<0)
   ·rcases aX:decide (b>=n)
    ·refine af ?_;repeat' (intro h<;>simp only[h,go_sem,go_sem_proc,w6,bq,bp,F,G,aa,aX]<;>try refine ab ?_ ?_)
    ·refine af ?_;repeat' (intro h<;>simp only[h,go_sem,go_sem_proc,w6,bq,bp,F,G,aa,aX]<;>try refine ab ?_ ?_)
   ·refine af ?_;repeat' (intro h<;>simp only[h,go_sem,go_sem_proc,w6,bq,bp,F,G,aa]<;>try refine ab ?_ ?_)
  ·refine af ?_;repeat' (intro h<;>simp only[h,go_sem,go_sem_proc,w6,bq,bp,F,G]<;>try refine ab ?_ ?_)
 ·refine af ?_;repeat' (intro h<;>simp only[h,go_sem,go_sem_proc,w6,bq,bp,F]<;>try refine ab ?_ ?_)
abbrev F2:(List cl)×Int->List Data:=λ(ls,n)=>[.ao (ls.map fg),.fn Nt [.ptr [.int .i64 n]]]
def OZ:=bG F2 λ(ls,n)=>b8 (qQ ls) (.same (.int .i64 (w7 (pV n) ls)))
def adw:∀a b,F2 a=F2 b->a=b:=by
  rintro⟨y4,rb⟩ ⟨y5,re⟩ h;simp only[bj,Data.ao.injEq,Data.fn.injEq,Data.ptr.injEq,Data.int.injEq] at h;exact cx (map_inj ux _ _ h.1) h.2.1.2.1.1.2
@[go_sem] def aAS (ls n):=cj OZ rfl adw (ls,n) rfl
def ap1 (T:bg)(F3:T Nt=aE OY):WF T aam OZ:=by
 refine b5 λ(ls,n)=>cn λU=>⟨rfl,b4 ?_⟩;simp only[aam,F2,bV];obtain⟨ae,dx⟩:=U;simp only[go_sem,go_sem_proc,F3,ah];refine cV [0,1,7] [] (λ(i:Nat) tm mem=>i<=D ls/\(∀x∈ls.take i,pV n x=false)/\tm 8=.I (.int .i64 i)) (λi=>D ls-i) 0 (by refine⟨dF _,?_,rfl⟩;simp) ?_;intro vs ms aI aD;simp only[go_sem,go_sem_proc,F3,ah] at aI aD;subst aI aD;rintro i tm mem Q hm ⟨Z,cX,ca⟩;simp only[go_sem,go_sem_proc,F3,bj] at Q hm;obtain⟨aq,F,bK⟩:=Q;rcases dt (i<D ls) with an|bB
 ·have J:=bc an;obtain⟨ey,eR⟩:=dx _ (ha an);have g9:=λh=>Uk (p:=pV n) cX J h;have jo:=λh=>vm (p:=pV n) cX J h;generalize ls[i]=x at *;have kK:decide ((i:Int)<(D ls:Int))=true:=c5;have hw:=e1 (i:=i) (by omega);obtain⟨a,b,⟨dz,dI⟩,⟨eo,eA⟩⟩:=x;dsimp only at ey eR;rcases R:pV n (a,b,((dz,dI),(eo,eA)))
  ·refine af ?_;repeat' (intro (ag:_=_)<;>simp only[ag,go_sem,go_sem_proc,F3,aq,F,bK,ca,J,kK,hw,ey,eR,R,ah,bd,fg,ar]<;>try refine ab ?_ ?_)
   exact⟨i+1,by omega,by omega,jo R,rfl⟩
  ·rw[g9 R];refine af ?_;repeat' (intro (ag:_=_)<;>simp only[ag,go_sem,go_sem_proc,F3,aq,F,bK,ca,J,kK,hw,ey,eR,R,ah,bd,fg,ar]<;>try refine ab ?_ ?_)
 ·have kK:decide ((i:Int)<(D ls:Int))=false:=de;have js:i=D ls:=by omega
  subst js;rw[mB] at cX;rw[Ul cX];refine af ?_;repeat' (intro (ag:_=_)<;>simp only[ag,go_sem,go_sem_proc,F3,aq,F,bK,ca,kK,ah]<;>try refine ab ?_ ?_)
def O0:=bG F2 λ(ls,n)=>b8 (qQ ls) (.same (.bool (ls.any (pV n))))
@[go_sem] def aAT (ls n):=cj O0 rfl adw (ls,n) rfl
def ap2 (T:bg)(ap3:T Ta=aE OZ):WF T aal O0:=by
 refine b5 λ(ls,n)=>cn λU=>⟨rfl,b4 ?_⟩;simp only[aal,F2,bV];rw[<-Um];refine af ?_;repeat' (intro h<;>simp only[h,go_sem,go_sem_proc,ap3,U]<;>try refine ab ?_ ?_)
def ow (ls:List cl)(n:Int):Bool:=!(decide (n<0))&&(!(decide (n>40))&&(!(decide ((D ls:Int)>400)) && !(ls.any (pV n))))
abbrev xd:(List cl)×Int->List Data:=λ(ls,n)=>[.ao (ls.map fg),.int .i64 n]
def F4:=bG xd λ(ls,n)=>b8 (qQ ls) (.same (.bool (ow ls n)))
def O1:∀a b,xd a=xd b->a=b:=by
  rintro⟨y4,rb⟩ ⟨y5,re⟩ h;simp only[bj,Data.ao.injEq,Data.int.injEq] at h;exact cx (map_inj ux _ _ h.1) h.2.1.2
@[go_sem] def aAU (ls n):=cj F4 rfl O1 (ls,n) rfl
def ap4 (T:bg)(O2:T S9=aE O0):WF T acq F4:=by
 refine b5 λ(ls,n)=>cn λU=>⟨rfl,b4 ?_⟩;simp only[acq,xd,bV];unfold ow;rcases F:decide (n<0)
 ·rcases G:decide (n>40)
  ·rcases aa:decide ((D ls:Int)>400)
   ·refine af ?_;repeat' (intro h<;>simp only[h,go_sem,go_sem_proc,O2,U,F,G,aa,ah,cL,rW,o1,scalar]<;>try refine ab ?_ ?_)
   ·refine af ?_;repeat' (intro h<;>simp only[h,go_sem,go_sem_proc,O2,U,F,G,aa,ah]<;>try refine ab ?_ ?_)
  ·refine af ?_;repeat' (intro h<;>simp only[h,go_sem,go_sem_proc,O2,U,F,G,ah]<;>try refine ab ?_ ?_)
 ·refine af ?_;repeat' (intro h<;>simp only[h,go_sem,go_sem_proc,O2,U,F,ah]<;>try refine ab ?_ ?_)
def o6 (cap base:List av)(ls:List cl):Bool:=((D cap:Int)==(D base:Int))&&(ow ls (D cap)&&(!(cap.any λf => !g3 f) && !(base.any λf => !g3 f)))
def ox (cap base:List av)(ls:List cl):Prop:=ih cap/\ih base/\qQ ls
abbrev pW:(List av)×(List av)×(List cl)->List Data:=λ(cap,base,ls)=>[.agg [.ao (cap.map ar),.ao (base.map ar),.ao (ls.map fg)]]
def F5:=bG pW λ(cap,base,ls)=>b8 (ox cap base ls) (.same (.bool (o6 cap base ls)))
def CP:∀a b,pW a=pW b->a=b:=by
  rintro⟨adx,ady,y4⟩ ⟨adz,adA,y5⟩ h;simp only[bj,Data.agg.injEq,Data.ao.injEq] at h;exact cx (map_inj j1 _ _ h.1.1) (cx (map_inj j1 _ _ h.1.2.1) (map_inj ux _ _ h.1.2.2.1))
@[go_sem] def aAV (cap base ls):=cj F5 rfl CP (cap,base,ls) rfl
def ap5 (T:bg)(k6:T B4=aE F4)(gP:T tH=aE sO):WF T aco F5:=by
 refine b5 λ(cap,base,ls)=>cn λU=>⟨rfl,b4 ?_⟩;simp only[aco,pW,bV];obtain⟨F,G,aa⟩:=U;unfold o6;rcases aO:((D cap:Int)==(D base:Int))
 ·refine af ?_;repeat' (intro h<;>simp only[h,go_sem,go_sem_proc,k6,gP,F,G,aa,aO,ah]<;>try refine ab ?_ ?_)
 ·rcases ax:ow ls (D cap)
  ·refine af ?_;repeat' (intro h<;>simp only[h,go_sem,go_sem_proc,k6,gP,F,G,aa,aO,ax,ah]<;>try refine ab ?_ ?_)
  ·rcases eS:cap.any λf => !g3 f
   ·refine af ?_;repeat' (intro h<;>simp only[h,go_sem,go_sem_proc,k6,gP,F,G,aa,aO,ax,eS,ah]<;>try refine ab ?_ ?_)
   ·refine af ?_;repeat' (intro h<;>simp only[h,go_sem,go_sem_proc,k6,gP,F,G,aa,aO,ax,eS,ah]<;>try refine ab ?_ ?_)
def adB {n:Int}(h:dX n):ie (a9 n) (a9 1)=(ed (n:Rat),0):=by
 rw[Fz (yO h) (by decide +kernel) (by decide),Rat.divInt_eq_div,show ((1:Int):Rat)=1 from rfl,show (n:Rat)/1=n by grind]
def CQ:=bG tM λ(n:Int)=>b8 (dX n) (.same (.agg (ar (ed (n:Rat)))))
@[go_sem] def F6 (n):=cj CQ rfl I0 n rfl
def ap6 (T:bg)(ap7:T IC=aE FA):WF T acs CQ:=by
 refine b5 λn=>cn λU=>⟨rfl,b4 ?_⟩;simp only[acs,tM,bV];have F:dX 1:=by unfold dX;omega
 have h:=adB U;generalize ed (n:Rat)=cm at *;obtain⟨⟨a,b⟩,⟨c,d⟩⟩:=cm;refine af ?_;repeat' (intro (ag:_=_)<;>simp only[ag,go_sem,go_sem_proc,ap7,U,F,h,cP,ar]<;>try refine ab ?_ ?_)
def ap8 {x:List Data}(h:Fits [.int .i64,.int .i64,.st [.st [.int .i64,.ao (.int .i64)],.st [.int .i64,.ao (.int .i64)]]] x):∃r:cl,x=fg r:=by
 unfold Fits at h;obtain⟨a,b,rfl,F,G⟩:=h;unfold Fit at F;obtain⟨f,rfl,-⟩:=F;unfold Fits at G;obtain⟨a,b,rfl,aa,aX⟩:=G;unfold Fit at aa;obtain⟨t,rfl,-⟩:=aa;unfold Fits at aX;obtain⟨c,d,rfl,bt,bx⟩:=aX;unfold Fit at bt;obtain⟨w,rfl⟩:=acF bt;unfold Fits at bx;subst bx;exact⟨(f,t,w),by simp[fg]⟩
def ap9 {es:List (List Data)}(h:∀x∈es,Fit (.st [.int .i64,.int .i64,.st [.st [.int .i64,.ao (.int .i64)],.st [.int .i64,.ao (.int .i64)]]]) x):∃l:List cl,es=l.map fg:=by
 obtain⟨l,e,-⟩:=Nj (e:=fg) (good:=λ_=>True) λx J=>by
  have:=h x J;unfold Fit at this;obtain⟨r,rfl⟩:=ap8 this;exact⟨r,rfl,trivial⟩
 exact⟨l,e⟩
def aqa {x:List Data}(h:Fits [.ao (.st [.st [.int .i64,.ao (.int .i64)],.st [.int .i64,.ao (.int .i64)]]),.ao (.st [.st [.int .i64,.ao (.int .i64)],.st [.int .i64,.ao (.int .i64)]]),.ao (.st [.int .i64,.int .i64,.st [.st [.int .i64,.ao (.int .i64)],.st [.int .i64,.ao (.int .i64)]]])] x):∃(cap base:List av) (ls:List cl),x=[.ao (cap.map ar),.ao (base.map ar),.ao (ls.map fg)]:=by
 unfold Fits at h;obtain⟨a,b,rfl,F,G⟩:=h;unfold Fit at F;obtain⟨es,rfl,-,F⟩:=F;obtain⟨cap,rfl⟩:=Uq F;unfold Fits at G;obtain⟨a,b,rfl,aa,aX⟩:=G;unfold Fit at aa;obtain⟨es,rfl,-,aa⟩:=aa;obtain⟨base,rfl⟩:=Uq aa;unfold Fits at aX;obtain⟨c,d,rfl,bt,bx⟩:=aX;unfold Fit at bt;obtain⟨es,rfl,-,bt⟩:=bt;obtain⟨ls,rfl⟩:=ap9 bt;unfold Fits at bx;subst bx;exact⟨cap,base,ls,rfl⟩
end Go.Mini
namespace Go.Mini
open Go
inductive dY (α:Type) where
 |e
 |n (l:dY α) (v:Option α) (r:dY α)
variable {α:Type}
def dY.get (t:dY α):Nat->Option α :=
 dY.rec (motive:=λ_=>Nat->Option α) (λ_=>none) (λ_ v _ vC Ve k=>gr (gr (Ve ((k-2)/2)) (vC ((k-1)/2)) (hf (k%2) 1)) v (hf k 0)) t
def dY.set (v:Option α)(fuel:Nat):Nat->dY α->dY α :=
 Nat.rec (motive:=λ_=>Nat->dY α->dY α) (λ_ t=>t) (λ_ a2 k t=>dY.rec (motive:=λ_=>dY α)
  (gr (gr (.n .e none (a2 ((k-2)/2) .e)) (.n (a2 ((k-1)/2) .e) none .e) (hf (k%2) 1)) (.n .e v .e) (hf k 0))
  (λl w r _ _=>gr (gr (.n l w (a2 ((k-2)/2) r)) (.n (a2 ((k-1)/2) l) w r) (hf (k%2) 1)) (.n l v r) (hf k 0)) t) fuel
def dY.aqb (k:Nat):(dY.e:dY α).get k=none:=rfl
def dY.xe (l:dY α)(v:Option α)(r:dY α)(k:Nat):(dY.n l v r).get k=if k=0 then v else if k%2=1 then l.get ((k-1)/2) else r.get ((k-2)/2):=by
 show (gr (gr (r.get ((k-2)/2)) (l.get ((k-1)/2)) (hf (k%2) 1)) v (hf k 0):Option α)=_
 by_cases h:k=0
 ·subst h;rfl
 ·have F:hf k 0=false:=by cases k with|zero=>exact absurd rfl h|succ k=>rfl
  rw[F,aR h]
  by_cases G:k%2=1
  ·rw[G,aJ rfl];rfl
  ·have aa:k%2=0:=by omega
   rw[aa,aR (by omega)];rfl
def dY.aqc (v:Option α)(n k:Nat)(t:dY α):dY.set v (n+1) k t=(match t with
  |.e=>if k=0 then .n .e v .e else if k%2=1 then .n (dY.set v n ((k-1)/2) .e) none .e else .n .e none (dY.set v n ((k-2)/2) .e)
  |.n l w r=>if k=0 then .n l v r else if k%2=1 then .n (dY.set v n ((k-1)/2) l) w r else .n l w (dY.set v n ((k-2)/2) r)):=by
 have R:∀{β:Type} (a b c:β),(gr (gr a b (hf (k%2) 1)) c (hf k 0):β)=if k=0 then c else if k%2=1 then b else a:=by
  intro β a b c
  by_cases h:k=0
  ·subst h;rfl
  ·have F:hf k 0=false:=by cases k with|zero=>exact absurd rfl h|succ k=>rfl
   rw[F,aR h]
   by_cases G:k%2=1
   ·rw[G,aJ rfl];rfl
   ·have aa:k%2=0:=by omega
    rw[aa,aR (by omega)];rfl
 cases t with
 |e=>exact R _ _ _
 |n l w r=>exact R _ _ _
def dY.F7 (v:Option α):∀(fuel k:Nat) (t:dY α) (j:Nat),k+1<2^fuel->(dY.set v fuel k t).get j=if j=k then v else t.get j
 |0,k,t,j,h=>by simp at h
 |m+1,k,t,j,h=>by
  have aP:2^(m+1)=2*2^m:=by rw[Nat.pow_succ];omega
  rw[dY.aqc]
  cases t with
  |e =>
   simp only
   split
   ·rename_i Q;subst Q;rw[dY.xe]
    split
    ·rfl
    ·split<;>simp[dY.aqb]
   ·rename_i Q
    split
    ·rename_i F;rw[dY.xe,dY.F7 v m _ _ _ (by omega)]
     by_cases Y:j=0
     ·rw[aJ Y,aR (by omega)];rfl
     ·rw[aR Y]
      by_cases nX:j%2=1
      ·rw[aJ nX]
       by_cases b1:j=k
       ·rw[aJ (by omega),aJ b1]
       ·rw[aR (by omega),aR b1];rfl
      ·rw[aR nX,aR (by omega)];rfl
    ·rename_i F;rw[dY.xe,dY.F7 v m _ _ _ (by omega)]
     by_cases Y:j=0
     ·rw[aJ Y,aR (by omega)];rfl
     ·rw[aR Y]
      by_cases nX:j%2=1
      ·rw[aJ nX,aR (by omega)];rfl
      ·rw[aR nX]
       by_cases b1:j=k
       ·rw[aJ (by omega),aJ b1]
       ·rw[aR (by omega),aR b1];rfl
  |n l w r =>
   simp only
   split
   ·rename_i Q;subst Q;rw[dY.xe,dY.xe]
    split<;>simp_all
   ·rename_i Q
    split
    ·rename_i F;rw[dY.xe,dY.xe,dY.F7 v m _ _ _ (by omega)]
     by_cases Y:j=0
     ·rw[aJ Y,aR (by omega),aJ Y]
     ·rw[aR Y,aR Y]
      by_cases nX:j%2=1
      ·rw[aJ nX,aJ nX]
       by_cases b1:j=k
       ·rw[aJ (by omega),aJ b1]
       ·rw[aR (by omega),aR b1]
      ·rw[aR nX,aR (by omega),aR nX]
    ·rename_i F;rw[dY.xe,dY.xe,dY.F7 v m _ _ _ (by omega)]
     by_cases Y:j=0
     ·rw[aJ Y,aR (by omega),aJ Y]
     ·rw[aR Y,aR Y]
      by_cases nX:j%2=1
      ·rw[aJ nX,aR (by omega),aJ nX]
      ·rw[aR nX,aR nX]
       by_cases b1:j=k
       ·rw[aJ (by omega),aJ b1]
       ·rw[aR (by omega),aR b1]
abbrev fp:=dY H
abbrev e6:=dY (Nat×List H)
def cR (t:fp):Nat->H:=λk=>k7 H.no (λv=>v) (t.get k)
def cp (m:e6):Mem:=λk=>m.get k
def xf (k:Nat)(v:H)(t:fp):fp:=dY.set (some v) 20 k t
def O3 (k:Nat)(g:Nat)(cs:List H)(m:e6):e6:=dY.set (some (g,cs)) 40 k m
def Vf {k:Nat}(h:k<1000000)(v:H)(t:fp):cR (xf k v t)=dZ (cR t) k v:=by
 funext j
 unfold cR xf;rw[dY.F7 _ _ _ _ _ (by omega)];simp only[dZ]
 split<;>rfl
def adC {k:Nat}(h:k<1000000000000)(g:Nat)(cs:List H)(m:e6):cp (O3 k g cs m)=aT (cp m) k g cs:=by
 funext j
 unfold cp O3;rw[dY.F7 _ _ _ _ _ (by omega)]
 rfl
end Go.Mini
namespace Go.Mini
open Go
def fB (kb:Nat):fM->fM
 |.alloc k z => .alloc (kb+k) z
 |.box k x => .box (kb+k) x
 |.dM k o z sz len cT => .dM (kb+k) o z sz len cT
 |.la k z b x y => .la (kb+k) z b x y
 |.app k z b s x => .app (kb+k) z b s x
 |.lb k sz f l => .lb (kb+k) sz f l
 |.v8 k => .v8 (kb+k)
 |op=>op
variable {P:Program} {own:List Nat} {dst:Option Nat} {ty:TypeId}
def aqd (kb:Nat){HV:BinOp}{t:TypeId}{x y:Operand}{m:fM}(h:tu P HV t x y=some m):fB kb m=m:=by
 unfold tu tt at h
 (repeat' split at h)<;>simp_all [c2]
 all_goals first
  |(obtain⟨_,_,rfl⟩:=h;rfl)
  |(subst h;rfl)
def aqe (kb:Nat){c:Call}:rZ P kb own dst ty c=(rZ P 0 own dst ty c).map (fB kb):=by
 unfold rZ
 (repeat' split)<;>simp[O4,Function.comp_def,adD,fB,apply_ite (adE (fB kb))]
def aqf (kb:Nat){op:Op}:gW P kb own dst ty op=(gW P 0 own dst ty op).map (fB kb):=by
 cases op
 case binOp HV t x y z =>
  simp only[gW]
  cases h:tu P HV t x y with
  |none=>rfl
  |some m=>simp[aqd kb h]
 case call c=>exact aqe kb
 case makeFunc fn a b =>
  cases fn<;>simp only[gW]<;>try rfl
  split<;>simp[O4,Function.comp_def,fB]
 case makeMap t r =>
  cases r<;>simp only[gW]<;>try rfl
  (repeat' split)<;>simp[O4,Function.comp_def,fB]
 all_goals
  simp only[gW]
  try rfl
  try ((repeat' split)<;>simp[O4,Function.comp_def,adD,fB,apply_ite (adE (fB kb))])
end Go.Mini
namespace Go.Mini
open Go
inductive c7 where
 |l2
 |o7 (i:Nat)
 |ret
 |hg (v:H)
inductive ct where
 |no
 |ok (x:c7) (t:fp) (m:e6) (c:Nat) (d:Option H)
inductive W (α:Type) where
 |mk (f:α)
def W.ap {α:Type}(w:W α):α:=W.rec (motive:=λ_=>α) (λf=>f) w
def oy {α:Type}(f:α):W.ap (.mk f)=f:=rfl
inductive jv where
 |no
 |ok (v:H) (m:e6) (c:Nat)
 |hg (v:H) (m:e6) (c:Nat)
abbrev jH:=FuncId->List H->e6->Nat->jv
abbrev y6:=fp->e6->Nat->Option H->ct
abbrev F8:=jH->Nat->fp->e6->Nat->Option H->y6->ct
def jI:bu->W (fp->H)
 |.t k => .mk λt=>k7 H.no (λv=>v) (t.get k)
 |.c m => .mk λ_=>m
def oz (x:bu)(t:fp):W.ap (jI x) t=aK (cR t) x:=by cases x<;>rfl
def aqg (l:List bu)(t:fp):(l.map λx=>W.ap (jI x) t)=l.map (aK (cR t)):=List.map_congr_left λx _=>oz x t
def iE (d:Option Nat)(t:fp)(v:H):fp:=k7 t (λk=>xf k v t) d
def AL {d:Option Nat}{n:Nat}(aA:n<=1000000)(h:d.all (λd=>decide (d<n))=true)(t:fp)(v:H):cR (iE d t v)=put (cR t) d v:=by
 cases d with
 |none=>rfl
 |some k =>
  simp only[Option.all_some,decide_eq_true_eq] at h;exact Vf (by omega) v t
def CR (d:Option Nat)(m:Option H)(t:fp)(K:fp->ct):ct:=k7 ct.no (λv=>K (iE d t v)) m
def CS (dst:Option Nat)(run:jH)(f:FuncId)(l:List H)(t:fp)(m:e6)(c:Nat)(d:Option H)(K:y6):ct :=
 jv.rec ct.no (λv m c=>K (iE dst t v) m c d) (λv m c=>ct.ok (.hg v) t m c d) (run f l m c)
def Kc (dst:Option Nat)(op:fM)(kb:Nat)(t:fp)(m:e6)(K:fp->e6->ct):ct :=
 match bD (cp m) (cR t) (fB kb op) with
 |some (v,none)=>K (iE dst t v) m
 |some (v,some x)=>gr ct.no (K (iE dst t v) (O3 x.1 x.2.1 x.2.2 m)) (AM x.1 1000000000000)
 |none=>ct.no
def rD (dst:Option Nat)(op:fM):W F8 :=
 match op with
 |.iu x => .mk λ_ _ t m c d K=>K (iE dst t (W.ap (jI x) t)) m c d
 |.bin op x y => .mk λ_ _ t m c d K=>CR dst (D0 op (W.ap (jI x) t) (W.ap (jI y) t)) t λt=>K t m c d
 |.beq n x y => .mk λ_ _ t m c d K=>CR dst (D1 n (W.ap (jI x) t) (W.ap (jI y) t)) t λt=>K t m c d
 |.load n bH x => .mk λ_ _ t m c d K=>CR dst (iW (cp m) n bH (W.ap (jI x) t)) t λt=>K t m c d
 |.xC o n bH x => .mk λ_ _ t m c d K=>CR dst (D4 o n bH (W.ap (jI x) t)) t λt=>K t m c d
 |.tj o x => .mk λ_ _ t m c d K=>CR dst (D3 o (W.ap (jI x) t)) t λt=>K t m c d
 |.call f l => .mk λrun _ t m c d K=>CS dst run f (l.map λx=>W.ap (jI x) t) t m c d K
 |.jN f l => .mk λrun _ t m c d K=>match W.ap (jI f) t with
  |.ee g dc=>CS dst run g ((l.map λx=>W.ap (jI x) t)++dc) t m c d K
  |.I (.fn g ds)=>CS dst run g ((l.map λx=>W.ap (jI x) t)++ds.map .I) t m c d K
  |_=>ct.no
 |.lR neg x => .mk λ_ _ t m c d K=>match xG (W.ap (jI x) t) with
  |some true=>K (iE dst t (.I (.bool neg))) m c d
  |_=>ct.no
 |op => .mk λ_ kb t m c d K=>Kc dst op kb t m λt m=>K t m c d
def Vg (dst:Option Nat)(op:fM)(kb:Nat)(t:fp)(m:e6)(r:ct)(K:fp->e6->ct):Prop :=
 r=ct.no\/∃v e m',bD (cp m) (cR t) (fB kb op)=some (v,e)/\cp m'=gf (cp m) e/\r=K (iE dst t v) m'
def Kd {dst:Option Nat}{op:fM}{kb:Nat}{t:fp}{m:e6}{K:fp->e6->ct}{x:Option H}(h:bD (cp m) (cR t) (fB kb op)=iv x):Vg dst op kb t m (CR dst x t λt=>K t m) K:=by
 cases x with
 |none=>exact .inl rfl
 |some v=>exact .inr ⟨v,none,m,h,rfl,rfl⟩
def adF {dst:Option Nat}{op:fM}{kb:Nat}{t:fp}{m:e6}{K:fp->e6->ct}:Vg dst op kb t m (Kc dst op kb t m K) K:=by
 unfold Kc
 split
 ·rename_i v h;exact .inr ⟨v,none,m,h,rfl,rfl⟩
 ·rename_i v x h
  cases R:AM x.1 1000000000000 with
  |false=>exact .inl rfl
  |true =>
   obtain⟨k,g,cs⟩:=x;refine .inr ⟨v,_,_,h,adC ?_ g cs m,rfl⟩;exact of_decide_eq_true (by simpa [Nat.blt_eq] using R)
 ·exact .inl rfl
inductive aqh (dst:Option Nat) (op:fM) (run:jH) (kb:Nat) (t:fp) (m:e6) (c:Nat) (d:Option H) (r:ct) (K:y6):Prop
 |no (h:r=ct.no)
 |bD (h:Vg dst op kb t m r λt m=>K t m c d)
 |call (f:FuncId) (l:List bu) (a4:op=.call f l) (h:r=CS dst run f (l.map (aK (cR t))) t m c d K)
 |jN (f:bu) (l:List bu) (g:FuncId) (dc:List H) (a4:op=.jN f l) (aj:aK (cR t) f=.ee g dc\/∃ds,aK (cR t) f=.I (.fn g ds)/\dc=ds.map .I) (h:r=CS dst run g (l.map (aK (cR t))++dc) t m c d K)
 |lR (neg:Bool) (x:bu) (a4:op=.lR neg x) (aj:xG (aK (cR t) x)=some true) (h:r=K (iE dst t (.I (.bool neg))) m c d)
def aqi {dst:Option Nat}{op:fM}{run:jH}{kb:Nat}{t:fp}{m:e6}{c:Nat}{d:Option H}{K:y6}:aqh dst op run kb t m c d (W.ap (rD dst op) run kb t m c d K) K:=by
 cases op
 case iu x=>exact .bD (.inr ⟨_,none,m,rfl,rfl,by simp only[rD,oy,oz]⟩)
 case bin o x y=>exact .bD (by simp only[rD,oy,oz];exact Kd (K:=λt m=>K t m c d) rfl)
 case beq o x y=>exact .bD (by simp only[rD,oy,oz];exact Kd (K:=λt m=>K t m c d) rfl)
 case load n bH x=>exact .bD (by simp only[rD,oy,oz];exact Kd (K:=λt m=>K t m c d) rfl)
 case xC o n bH x=>exact .bD (by simp only[rD,oy,oz];exact Kd (K:=λt m=>K t m c d) rfl)
 case tj o x=>exact .bD (by simp only[rD,oy,oz];exact Kd (K:=λt m=>K t m c d) rfl)
 case call f l=>exact .call f l rfl (by simp only[rD,oy,oz])
 case jN f l =>
  simp only[rD,oy,oz]
  split
  ·rename_i g dc aj;exact .jN f l g dc rfl (.inl aj) rfl
  ·rename_i g ds aj;exact .jN f l g _ rfl (.inr ⟨ds,aj,rfl⟩) rfl
  ·exact .no rfl
 case lR neg x =>
  simp only[rD,oy,oz]
  split
  ·rename_i aj;exact .lR neg x rfl aj rfl
  ·exact .no rfl
 all_goals exact .bD (adF (K:=λt m=>K t m c d))
end Go.Mini
namespace Go.Mini
open Go
def sZ (P:Program)(run:jH):Prop:=∀f args m c,match run f args m c with
 |.no=>True
 |.ok v m' _=>Real P f/\∀A w B vs,dP A w B (cp m)->cA w (bn A B) B args vs->Calls P f vs.toArray w λe ak=>∃u ay,e=.returned u/\c9 A w B ak ay (cp m')/\aY ak (bn A ay) ay v u
 |.hg v m' _=>Real P f/\∀A w B vs,dP A w B (cp m)->cA w (bn A B) B args vs->Calls P f vs.toArray w λe ak=>∃u ay,e=.panicked [{ v:=u,recovered:=false }]/\c9 A w B ak ay (cp m')/\aY ak (bn A ay) ay v u
def aqj (o:Oper):List Nat:=match o.op with
 |.buildSlice ..=>o.dst.toList
 |_=>[]
def Vh (y:bu)(t:fp)(m:e6)(c:Nat)(d:Option H):ct:=match W.ap (jI y) t with
 |.I (.n2 ty v)=>ct.ok (.hg (.I (.n2 ty v))) t m c d
 |_=>ct.no
def Vi (y:bu)(t:fp)(m:e6)(c:Nat)(d:Option H)(K:y6):ct:=match d,W.ap (jI y) t with
 |none,.ee f dc=>K t m c (some (.ee f dc))
 |_,_=>ct.no
def adG:W F8:=.mk λ_ _ _ _ _ _ _=>ct.no
def adH (i:bw):W F8:=match i.g with
 |none=>rD i.dst i.op
 |some (s,b) => .mk λrun kb t m c d K=>match cR t s with
  |.I (.bool q)=>gr (K (iE i.dst t .no) m c d) (W.ap (rD i.dst i.op) run kb t m c d K) (q==b)
  |.no=>K (iE i.dst t .no) m c d
  |_=>ct.no
def adI (o:Oper):Option bu:=match o.op with
 |.defer { callee:=.value f,args:=⟨[]⟩,.. }=>if o.dst.isNone=true/\o.guard.isNone=true then cN f else none
 |_=>none
def adJ (o:Oper):Option bu:=match o.op with
 |.panic x=>if o.guard.isNone=true then cN x else none
 |_=>none
def adK (P:Program)(o:Oper):Option H:=match o.op with
 |.load ty (.global g)=>match L5 g,fG P ty,tr P ty with
  |some l,some n,some true=>if (D l)=n/\o.guard.isNone=true then some (.agg (l.map λs => .I (.str s))) else none
  |_,_,_=>none
 |_=>none
def O5 (P:Program)(n:Nat)(ops:Array Oper)(o:Oper):W F8 :=
 match nC P n 0 (aqj o) ops o with
 |none=>adG
 |some i=>match i.op with
  |.bad=>match adJ o with
   |some y => .mk λ_ _ t m c d _=>Vh y t m c d
   |none=>match adI o with
    |some y => .mk λ_ _ t m c d K=>Vi y t m c d K
    |none=>match adK P o with
     |some v => .mk λ_ _ t m c d K=>K (iE o.dst t v) m c d
     |none=>adG
  |_=>adH i
variable {P:Program} {A:Nat->Prop} {cq w:World} {dD B:cS} {n kb:Nat} {ops:Array Oper} {o:Oper} {run:jH} {t:fp} {m:e6} {c:Nat} {d:Option H}
def Vj (P:Program)(ops:Array Oper)(o:Oper)(next:Act->World->Prop)(a3:Exit->Act->World->Prop)(a:Act)(w:World):Prop :=
 (Region.wanted o (yielded ops a.tmps)=true/\o.wp P a w next a3)\/(Region.wanted o (yielded ops a.tmps)=false/\next (a.put o.dst undef) w)
def toQ (A:Nat->Prop)(a3:Exit->Act->World->Prop):c7->Act->World->cS->Prop
 |.l2,a,w,_=>a3 .normal a w
 |.o7 i,a,w,_=>a3 (.exit i) a w
 |.ret,a,w,_=>a3 .ret a w
 |.hg v,a,w,B=>∀u,aY w (bn A B) B v u->a3 (.panic [{ v:=u,recovered:=false }]) a w
def gU (kb:Nat)(i:bw):bw:=⟨i.dst,i.g,fB kb i.op⟩
def adL {own:List Nat}{i:bw}(h:nC P n 0 own ops o=some i):nC P n kb own ops o=some (gU kb i):=by
 unfold nC at *
 split at h
 ·rename_i g aL
  split at h
  ·rename_i an;simp only[bM] at h;subst h;simp only[aJ an,gU,bM,bw.mk.injEq,true_and];rw[aqf kb]
   cases gW P 0 own o.dst o.type o.op<;>rfl
  ·cases h
 ·cases h
def adM {a:Act}{f:FuncId}{l:List H}{vs:List Value}{K:y6}{r:ct}{next:Act->World->Prop}{a3:Exit->Act->World->Prop}(eM:sZ P run)(aA:n<=1000000)(L:r=CS o.dst run f l t m c d K)(bo:r ≠ .no)
  (O:dR d n A cq dD a ⟨cR t,cp m⟩ w B) (an:o.dst.all (λd=>decide (d<n))=true) (al:cA w (bn A B) B l vs) (adN:Real P f->(execOp a.eval o).run P w=.ok (.enter f vs.toArray) w)
  (eh:∀t1 aW ch d1 cB ak ay,r=K t1 aW ch d1->dR d1 n A cq dD cB ⟨cR t1,cp aW⟩ ak ay->next cB ak)
  (dU:∀x t1 aW ch d1 cB ak ay,r=ct.ok (.hg x) t1 aW ch d1->dR d1 n A cq dD cB ⟨cR t1,cp aW⟩ ak ay->toQ A a3 (.hg x) cB ak ay):o.wp P a w next a3:=by
 have h:=eM f l m c;unfold CS at L;unfold Oper.wp
 cases ec:run f l m c with
 |no=>rw[ec] at L;exact absurd L bo
 |ok v m' kB =>
  rw[ec] at h L;obtain⟨gy,U⟩:=h;rw[adN gy];refine Calls.mono (U A w B vs O.ok.cr al) λe ak he=>?_;obtain⟨u,ay,rfl,df,jm⟩:=he;refine eh (iE o.dst t v) m' kB d _ ak ay L ?_;rw[AL aA an];exact O.put df jm an
 |hg v m' kB =>
  rw[ec] at h L;obtain⟨gy,U⟩:=h;rw[adN gy];refine Calls.mono (U A w B vs O.ok.cr al) λe ak he=>?_;obtain⟨u,ay,rfl,df,jm⟩:=he;exact dU v t m' kB d a ak ay L (O.put (dst:=none) df jm rfl) u jm
def adO {own:List Nat}{a:Act}{i:bw}{K:y6}{r:ct}{next:Act->World->Prop}{a3:Exit->Act->World->Prop}(eM:sZ P run)(aA:n<=1000000)(Z:Es P n kb own ops o (gU kb i))(L:r=W.ap (rD i.dst i.op) run kb t m c d K)(bo:r ≠ .no)
  (O:dR d n A cq dD a ⟨cR t,cp m⟩ w B)
  (eh:∀t1 aW ch d1 cB ak ay,r=K t1 aW ch d1->dR d1 n A cq dD cB ⟨cR t1,cp aW⟩ ak ay->next cB ak)
  (dU:∀x t1 aW ch d1 cB ak ay,r=ct.ok (.hg x) t1 aW ch d1->dR d1 n A cq dD cB ⟨cR t1,cp aW⟩ ak ay->toQ A a3 (.hg x) cB ak ay):o.wp P a w next a3:=by
 have e4:=Z.op;have uy:i.dst=o.dst:=Z.dst;have an:=Z.lt;simp only[gU] at e4;have e9:=aqi (dst:=i.dst) (op:=i.op) (run:=run) (kb:=kb) (t:=t) (m:=m) (c:=c) (d:=d) (K:=K);rw[<-L] at e9
 cases e9 with
 |no h=>exact absurd h bo
 |bD h =>
  rcases h with h|⟨v,e,m',Ie,uY,aqk⟩
  ·exact absurd h bo
  ·have aw:gW P kb own o.dst o.type o.op=some (fB kb i.op):=getD_some e4 (by
    intro R;rw[R] at Ie
    cases Ie)
   obtain⟨zQ,u,ak,ay,hex,jo,df,al⟩:=RG O.ok.cr O.kh (λ_=>rfl) aw Ie;unfold Oper.wp;rw[hex];have xZ:=O.put df al an;have:=eh _ _ _ _ (a.put o.dst u) ak ay aqk (by rw[uy,AL aA an,uY];exact xZ);rcases jo with rfl|⟨rfl,rfl⟩
   ·exact this
   ·exact this
 |call f l a4 h =>
  rw[a4] at e4;have aw:=getD_some e4 (by simp[fB]);obtain⟨Ke,U,hV,jq⟩:=HY aw;refine adM eM aA (by rw[<-uy];exact h) bo O an (qs O.kh jq) (λgy=>wA U hV gy) eh dU
 |jN f l g dc a4 aj h =>
  rw[a4] at e4;have aw:=getD_some e4 (by simp[fB]);obtain⟨Ke,x,U,hV,J,jq⟩:=RL aw;obtain⟨cs,hu,b7⟩:=H0 (O.kh _ _ J) aj;refine adM eM aA (by rw[<-uy];exact h) bo O an ((qs O.kh jq).append b7) (λgy=>?_) eh dU;obtain⟨dst,op,type,pos,after,guard⟩:=o;simp only at U;subst U;obtain⟨callee,sc,zR⟩:=Ke;simp only at hV;subst hV;simp only[execOp,resolve,hu,Deferred.ofValue,invoke,Sem.run_bind,Sem.run_pure,Result.andThen_ok,Bx gy];rw[wo sc];simp
 |lR neg x a4 aj h =>
  rw[a4] at e4;have aw:=getD_some e4 (by simp[fB]);obtain⟨ty,e,y,y',z,U,mn,bL,ai⟩:=YI aw
  have H2:a.eval y' = .slice none 0 0:=by
   unfold Mq at mn
   split at mn
   ·rfl
   ·cases mn
  obtain⟨b,R,hex⟩:=YJ (y:=y) (y':=y') neg bL (O.kh _ _ ai) aj H2;have hD:=R rfl;subst hD
  have xZ:dR d n A cq dD (a.put o.dst (.bool (neg != false))) ⟨cR (iE i.dst t (.I (.bool neg))),cp m⟩ w B:=by
   rw[uy,AL aA an];have:(neg != false)=neg:=by cases neg<;>rfl
   rw[this];exact O.put (.refl O.ok.cr) (.I .bool) an
  have:=eh _ _ _ _ _ w B h xZ;obtain⟨dst,op,type,pos,after,guard⟩:=o;simp only at U;subst U;unfold Oper.wp
  have J:(execOp a.eval ⟨dst,.binOp (if neg then .neq else .eql) ty y y' z,type,pos,after,guard⟩).run P w=.ok (.value (.bool (neg != false))) w:=by
   simp only[execOp];rw[Sem.run_bind,hex]
   rfl
  rw[J];exact this
def aql {a:Act}{K:y6}{r:ct}{next:Act->World->Prop}{a3:Exit->Act->World->Prop}(eM:sZ P run)(aA:n<=1000000)(L:r=W.ap (O5 P n ops o) run kb t m c d K)(bo:r ≠ .no)
  (O:dR d n A cq dD a ⟨cR t,cp m⟩ w B)
  (eh:∀t1 aW ch d1 cB ak ay,r=K t1 aW ch d1->dR d1 n A cq dD cB ⟨cR t1,cp aW⟩ ak ay->next cB ak)
  (dU:∀x t1 aW ch d1 cB ak ay,r=ct.ok (.hg x) t1 aW ch d1->dR d1 n A cq dD cB ⟨cR t1,cp aW⟩ ak ay->toQ A a3 (.hg x) cB ak ay):Vj P ops o next a3 a w:=by
 unfold O5 at L
 split at L
 ·exact absurd L bo
 ·rename_i i aw;have Z:=HZ (adL (kb:=kb) aw)
  split at L
  ·split at L
   ·rename_i y ai;unfold adJ at ai
    split at ai
    ·rename_i x J
     split at ai
     ·rename_i aL
      have hw:Region.wanted o (yielded ops a.tmps)=true:=by
       unfold Region.wanted;rw[O6.1 aL]
      refine .inl ⟨hw,?_⟩;have dC:r=Vh y t m c d:=L;unfold Vh at dC;rw[oz] at dC
      split at dC
      ·rename_i ty v kT;have al:=O.kh x y ai;rw[kT] at al;have kR:=al;generalize a.eval x=u at al kR;unfold Oper.wp
       have rh:(execOp a.eval o).run P w=.halt (.panic (a.eval x)) w:=by
        have nE:=O.kh x y ai;rw[kT] at nE
        have mU:∃u,a.eval x=.iface ty u:=by
         generalize a.eval x=u at nE
         cases nE with
         |I nE=>cases nE with
          |n2 h=>exact⟨_,rfl⟩
        obtain⟨u,hu⟩:=mU;simp only[execOp,J,hu,Sem.run_bind]
        rfl
       rw[rh];refine dU _ t m c d a w B dC O (a.eval x) ?_;have nE:=O.kh x y ai;rw[kT] at nE;exact nE
      ·exact absurd dC bo
     ·cases ai
    ·cases ai
   ·split at L
    ·rename_i y ai;unfold adI at ai
     split at ai
     ·rename_i f zR J
      split at ai
      ·rename_i aL
       have hw:Region.wanted o (yielded ops a.tmps)=true:=by
        unfold Region.wanted;rw[O6.1 aL.2]
       refine .inl ⟨hw,?_⟩;have dC:r=Vi y t m c d K:=L;unfold Vi at dC;rw[oz] at dC
       split at dC
       ·rename_i g dc kT;have al:=O.kh f y ai;rw[kT] at al;obtain⟨cs,hu,b7⟩:=H0 al (.inl rfl);rw[hu] at al;unfold Oper.wp
        have rh:(execOp a.eval o).run P w=.ok (.defer { target:=.fn (.func g) cs.toArray,args:=#[] }) w:=by
         simp only[execOp,J,resolve,hu,Deferred.ofValue,Sem.run_bind,Sem.run_pure,Result.andThen_ok];simp
        rw[rh];have kH:o.dst=none:=O6.1 aL.1;refine eh t m c (some (.ee g dc)) _ w B dC ?_;rw[kH];refine⟨O.ok,O.tm,O.sz,⟨g,dc,cs.toArray,rfl,?_,al⟩⟩;have:=O.wu;simp only[HX] at this;show _::a.defers=_;rw[this]
       ·exact absurd dC bo
      ·cases ai
     ·cases ai
    ·split at L
     ·rename_i v al;have dC:r=K (iE o.dst t v) m c d:=L;unfold adK at al
      split at al
      ·rename_i ty g J
       split at al
       ·rename_i l F9 jT eb uO
        split at al
        ·rename_i U;obtain⟨ae,aL⟩:=U;simp only[bM] at al
         have hw:Region.wanted o (yielded ops a.tmps)=true:=by
          unfold Region.wanted;rw[O6.1 aL]
         refine .inl ⟨hw,?_⟩;obtain⟨T,cu⟩:=O.ok.cr.gl g l jT
         have b7:cA w (bn A B) B (l.map λs => .I (.str s)) (zz l):=⟨by simp[zz],λi x u F G=>by
          unfold zz at G;rw[bd,c2] at F G;obtain⟨s,aa,rfl⟩:=F;obtain⟨xW,aX,rfl⟩:=G;rw[aa] at aX
          cases aX;exact .I .str⟩
         have g9:=mQ.row cu;simp only at g9;obtain⟨u,F,G⟩:=Rl (P:=P) (r:=v) eb uO (by simp[ae]) b7 g9 (by rw[<-al];rfl);unfold Oper.wp
         have rh:(execOp a.eval o).run P w=.ok (.value u) w:=by
          have aa:(Instr.loadAt ty (a.eval (.global g))).run P w=.ok u w:=by
           simpa [Instr.loadAt,Instr.sureAddr,Act.eval] using F
          simp only[execOp,J,Sem.run_bind,aa]
          rfl
         rw[rh];refine eh _ _ _ _ _ w B dC ?_;rw[AL aA Z.lt];exact O.put (.refl O.ok.cr) G Z.lt
        ·cases al
       ·cases al
      ·cases al
     ·exact absurd L bo
  ·unfold adH at L
   split at L
   ·rename_i aL;have hw:Region.wanted o (yielded ops a.tmps)=true:=zP O Z.guard (by simp only[gU,aL];rfl);exact .inl ⟨hw,adO eM aA Z L bo O eh dU⟩
   ·rename_i s b aL
    have dC:r=(match cR t s with
     |.I (.bool q)=>gr (K (iE i.dst t .no) m c d) (W.ap (rD i.dst i.op) run kb t m c d K) (q==b)
     |.no=>K (iE i.dst t .no) m c d
     |_=>ct.no):=L
    have AG:r=K (iE i.dst t .no) m c d->g8 (cR t) i.g=some false->Vj P ops o next a3 a w:=λF G=>by
     refine .inr ⟨zP O Z.guard G,eh _ _ _ _ _ w B F ?_⟩;have uy:i.dst=o.dst:=Z.dst;rw[uy,AL aA Z.lt];exact O.put (.refl O.ok.cr) .no Z.lt
    split at dC
    ·rename_i q aS
     cases wX:(q==b) with
     |false =>
      rw[wX] at dC;exact AG dC (by rw[aL];simp only[g8,aS,wX])
     |true =>
      rw[wX] at dC;have hw:Region.wanted o (yielded ops a.tmps)=true:=zP O Z.guard (by simp only[gU,aL,g8,aS,wX]);exact .inl ⟨hw,adO eM aA Z dC bo O eh dU⟩
    ·rename_i aS;exact AG dC (by rw[aL];simp only[g8,aS])
    ·exact absurd dC bo
def Ga (P:Program)(n:Nat)(ops:Array Oper)(l:List Oper):W F8 :=
 List.rec (motive:=λ_=>W F8) (.mk λ_ _ t m c d K=>K t m c d) (λo _ vC => .mk λrun kb t m c d K=>W.ap (O5 P n ops o) run kb t m c d λt m c d=>W.ap vC run kb t m c d K) l
def O7 (P:Program)(ops:Array Oper)(a3:Exit->Act->World->Prop):List Oper->Act->World->Prop
 | [],a,w=>a3 .normal a w
 |o::l,a,w=>Vj P ops o (O7 P ops a3 l) a3 a w
def Vk {a3:Exit->Act->World->Prop}(eM:sZ P run)(aA:n<=1000000){K:y6}{r:ct}(bo:r ≠ .no)(eh:∀t1 aW ch d1 cB ak ay,r=K t1 aW ch d1->dR d1 n A cq dD cB ⟨cR t1,cp aW⟩ ak ay->a3 .normal cB ak)
  (dU:∀x t1 aW ch d1 cB ak ay,r=ct.ok (.hg x) t1 aW ch d1->dR d1 n A cq dD cB ⟨cR t1,cp aW⟩ ak ay->toQ A a3 (.hg x) cB ak ay):∀(l:List Oper) (t:fp) (m:e6) (c:Nat) (d:Option H) (a:Act) (w:World) (B:cS),r=W.ap (Ga P n ops l) run kb t m c d K ->
  dR d n A cq dD a ⟨cR t,cp m⟩ w B->O7 P ops a3 l a w
 | [],t,m,c,d,a,w,B,L,O=>eh t m c d a w B L O
 |o::l,t,m,c,d,a,w,B,L,O=>by
  have dC:r=W.ap (O5 P n ops o) run kb t m c d λt m c d=>W.ap (Ga P n ops l) run kb t m c d K:=L;exact aql eM aA dC bo O (λt1 aW ch d1 cB ak ay F G=>Vk eM aA bo eh dU l t1 aW ch d1 cB ak ay F G) dU
def Vl {a3:Exit->Act->World->Prop}:∀(l:List Oper) (j:Nat) (a:Act) (w:World),ops.toList.drop j=l->O7 P ops a3 l a w->wpOps P ops a3 (Kf j (D l)) a w
 | [],j,a,w,_,h=>h
 |o::l,j,a,w,ae,h=>by
  have a4:ops[j]?=some o:=by
   have:(ops.toList.drop j)[0]?=some o:=by rw[ae];rfl
   simpa using this
  have nD:ops.toList.drop (j+1)=l:=by rw[<-x2,ae];rfl
  simp only[lQ,adP,wpOps,a4];rcases h with ⟨F,G⟩|⟨F,G⟩
  ·rw[aJ F];exact .inl (Oper.wp_mono (λa w h=>Vl l (j+1) a w nD h) G)
  ·rw[aR (by simp[F])];exact Vl l (j+1) _ w nD G
def Vm {a3:Exit->Act->List Frame->World->Prop}{cs:List Frame}:∀(l:List Oper) (j:Nat) (a:Act) (w:World),ops.toList.drop j=l->O7 P ops (λe a w=>a3 e a cs w) l a w->wpOpsS P ops a3 (Kf j (D l)) a cs w
 | [],j,a,w,_,h=>h
 |o::l,j,a,w,ae,h=>by
  have a4:ops[j]?=some o:=by
   have:(ops.toList.drop j)[0]?=some o:=by rw[ae];rfl
   simpa using this
  have nD:ops.toList.drop (j+1)=l:=by rw[<-x2,ae];rfl
  simp only[lQ,adP,wpOpsS,a4];rcases h with ⟨F,G⟩|⟨F,G⟩
  ·rw[aJ F];have aa:=Oper.wp_mono (λa w h=>Vm l (j+1) a w nD h) G;unfold Oper.wp at aa
   split
   ·rename_i ak J;rw[J] at aa;exact aa.elim
   ·exact aa
  ·rw[aR (by simp[F])];exact Vm l (j+1) _ w nD G
end Go.Mini
namespace Go.Mini
open Go
mutual
def pX:Data->Data->Bool
 |.int k n,.int k' Kg=>decide (k=k')&&decide (n=Kg)
 |.bool b,.bool eF=>b==eF
 |.str s,.str xW=>decide (s=xW)
 |.ao es,.ao es'=>Kh es es'
 |.ptr cs,.ptr g7=>y7 cs g7
 |.qZ,.qZ=>true
 |.fn f cs,.fn AI g7=>hf f AI&&y7 cs g7
 |.rS,.rS=>true
 |.agg cs,.agg g7=>y7 cs g7
 |.dp cs,.dp g7=>y7 cs g7
 |.n2 t d,.n2 ld qt=>hf t ld&&pX d qt
 |.nB,.nB=>true
 |_,_=>false
termination_by structural x=>x
def y7:List Data->List Data->Bool
 | [],[]=>true
 |a::l,b::m=>pX a b&&y7 l m
 |_,_=>false
termination_by structural x=>x
def Kh:List (List Data)->List (List Data)->Bool
 | [],[]=>true
 |a::l,b::m=>y7 a b&&Kh l m
 |_,_=>false
termination_by structural x=>x
end
mutual
def Vn:∀(a b:Data),pX a b=true->a=b
 |.int k n,b,h=>by cases b<;>simp_all [pX]
 |.bool x,b,h=>by cases b<;>simp_all [pX]
 |.str s,b,h=>by cases b<;>simp_all [pX]
 |.ao es,b,h=>by
  cases b<;>simp only[pX,cC] at h;rw[adQ _ _ h]
 |.ptr cs,b,h=>by
  cases b<;>simp only[pX,cC] at h;rw[Gb _ _ h]
 |.qZ,b,h=>by cases b<;>simp_all [pX]
 |.fn f cs,b,h=>by
  cases b<;>simp only[pX,cC,fe,Vo] at h;rw[h.1,Gb _ _ h.2]
 |.rS,b,h=>by cases b<;>simp_all [pX]
 |.agg cs,b,h=>by
  cases b<;>simp only[pX,cC] at h;rw[Gb _ _ h]
 |.dp cs,b,h=>by
  cases b<;>simp only[pX,cC] at h;rw[Gb _ _ h]
 |.n2 t d,b,h=>by
  cases b<;>simp only[pX,cC,fe,Vo] at h;rw[h.1,Vn _ _ h.2]
 |.nB,b,h=>by cases b<;>simp_all [pX]
termination_by structural x=>x
def Gb:∀(a b:List Data),y7 a b=true->a=b
 | [],b,h=>by cases b<;>simp_all [y7]
 |x::l,b,h=>by
  cases b<;>simp only[y7,cC,fe] at h;rw[Vn _ _ h.1,Gb _ _ h.2]
termination_by structural x=>x
def adQ:∀(a b:List (List Data)),Kh a b=true->a=b
 | [],b,h=>by cases b<;>simp_all [Kh]
 |x::l,b,h=>by
  cases b<;>simp only[Kh,cC,fe] at h;rw[Gb _ _ h.1,adQ _ _ h.2]
termination_by structural x=>x
end
mutual
def s0:H->H->Bool
 |.I d,.I qt=>pX d qt
 |.nil,.nil=>true
 |.ref k g s o l,.ref k' cv xW x0 mR=>hf k k'&&hf g cv&&hf s xW&&hf o x0&&hf l mR
 |.ptr k g o,.ptr k' cv x0=>hf k k'&&hf g cv&&hf o x0
 |.ee f cs,.ee AI g7=>hf f AI&&Gc cs g7
 |.agg cs,.agg g7=>Gc cs g7
 |.hB k g,.hB k' cv=>hf k k'&&hf g cv
 |_,_=>false
termination_by structural x=>x
def Gc:List H->List H->Bool
 | [],[]=>true
 |a::l,b::m=>s0 a b&&Gc l m
 |_,_=>false
termination_by structural x=>x
end
mutual
def adR:∀(a b:H),s0 a b=true->a=b
 |.I d,b,h=>by
  cases b<;>simp only[s0,cC] at h;rw[Vn _ _ h]
 |.nil,b,h=>by cases b<;>simp_all [s0]
 |.ref k g s o l,b,h=>by cases b<;>simp_all [s0]
 |.ptr k g o,b,h=>by cases b<;>simp_all [s0]
 |.ee f cs,b,h=>by
  cases b<;>simp only[s0,cC,fe,Vo] at h;rw[h.1,Vp _ _ h.2]
 |.agg cs,b,h=>by
  cases b<;>simp only[s0,cC] at h;rw[Vp _ _ h]
 |.hB k g,b,h=>by cases b<;>simp_all [s0]
 |.dp _,_,h=>by simp[s0] at h
 |.no,_,h=>by simp[s0] at h
 |.undef,_,h=>by simp[s0] at h
termination_by structural x=>x
def Vp:∀(a b:List H),Gc a b=true->a=b
 | [],b,h=>by cases b<;>simp_all [Gc]
 |x::l,b,h=>by
  cases b<;>simp only[Gc,cC,fe] at h;rw[adR _ _ h.1,Vp _ _ h.2]
termination_by structural x=>x
end
mutual
def Gd (k:Key):H->Bool
 |.ref j _ _ _ _ => !(hf j k)
 |.ptr j _ _ => !(hf j k)
 |.hB j _ => !(hf j k)
 |.ee _ cs=>o8 k cs
 |.agg cs=>o8 k cs
 |.dp cs=>o8 k cs
 |_=>true
termination_by structural x=>x
def o8 (k:Key):List H->Bool
 | []=>true
 |a::l=>Gd k a&&o8 k l
termination_by structural x=>x
end
def O8 {a b:Nat}(h:hf a b=false):a≠b:=λe=>by
 subst e;rw[Nat.beq_refl] at h
 cases h
def CT {k:Key}:∀{cs:List H},o8 k cs=true->∀m∈cs,Gd k m=true
 | [],_,m,hm=>by cases hm
 |a::l,h,m,hm=>by
  simp only[o8,fe] at h;simp only[kt] at hm;rcases hm with rfl|hm
  ·exact h.1
  ·exact CT h.2 m hm
variable {P:Program} {A:Nat->Prop} {w ak:World} {B:cS} {mem D8:Mem} {k:Key} {g:Nat} {cs:List H}
def na (B:cS)(k:Key):cS:=λj=>if j=k then none else B j
def CU (A:Nat->Prop)(e:ht)(b:Nat):Prop:=A b\/e.dj=some b
def Vq {e:ht}(Q:B k=some e)(b:Nat):bn (CU A e) (na B k) b↔bn A B b:=by
 constructor
 ·rintro (⟨j,e',Y,J⟩|ba|J)
  ·unfold na at Y
   split at Y
   ·cases Y
   ·exact .inl ⟨j,e',Y,J⟩
  ·exact .inr ba
  ·exact .inl ⟨k,e,Q,J⟩
 ·rintro (⟨j,e',Y,J⟩|ba)
  ·by_cases b1:j=k
   ·subst b1;rw[Q] at Y
    cases Y;exact .inr (.inr J)
   ·exact .inl ⟨j,e',by simp only[na,aR b1];exact Y,J⟩
  ·exact .inr (.inl ba)
def aY.cut {au hi:Nat->Prop}(e8:∀b,hi b->au b){m:H}{v:Value}(h:aY w au B m v)(aj:Gd k m=true):aY w hi (na B k) m v:=by
 induction h with
 |I h=>exact .I (h.less e8)
 |nil=>exact .nil
 |ref he aL al =>
  simp only[Gd,vA] at aj;have aj:=O8 aj;exact .ref (by simp only[na,aR aj];exact he) aL al
 |ptr he aL al =>
  simp only[Gd,vA] at aj;have aj:=O8 aj;exact .ptr (by simp only[na,aR aj];exact he) aL al
 |hB he aL al =>
  simp only[Gd,vA] at aj;have aj:=O8 aj;exact .hB (by simp only[na,aR aj];exact he) aL al
 |ee ae ad a2=>exact .ee ae λi d v F G=>a2 i d v F G (CT aj d (cJ F))
 |agg ae ad a2=>exact .agg ae λi d v F G=>a2 i d v F G (CT aj d (cJ F))
 |dp ae ad a2=>exact .dp ae λi d v F G=>a2 i d v F G (CT aj d (cJ F))
 |no=>exact .no
 |undef=>exact .undef
def aY.more {au hi:Nat->Prop}{ay:cS}(e8:∀b,hi b->au b)(n9:∀j e,B j=some e->ay j=some e){m:H}{v:Value}(h:aY w au B m v):aY w hi ay m v:=by
 induction h with
 |I h=>exact .I (h.less e8)
 |nil=>exact .nil
 |ref he aL al=>exact .ref (n9 _ _ he) aL al
 |ptr he aL al=>exact .ptr (n9 _ _ he) aL al
 |hB he aL al=>exact .hB (n9 _ _ he) aL al
 |ee ae ad a2=>exact .ee ae a2
 |agg ae ad a2=>exact .agg ae a2
 |dp ae ad a2=>exact .dp ae a2
 |no=>exact .no
 |undef=>exact .undef
def freeM (k:Key)(mem:Mem):Prop:=∀j g cs,mem j=some (g,cs)->o8 k cs=true
def aqm {e:ht}(h:dP A w B (aT mem k g cs))(Q:B k=some e)(hm:mem k=none)(aj:freeM k mem):dP (CU A e) w (na B k) mem:=by
 have e8:=Vq (A:=A) Q;refine⟨λj Y=>?_,λj iI aO ax b F G aa aX=>?_,λb R ⟨j,e',Y,J⟩=>?_,λb R=>?_,h.gl,λb o R ⟨j,e',Y,J⟩=>?_,λj cv g7 Y=>?_⟩
 ·unfold na
  split
  ·rfl
  ·rename_i b1;exact h.rT j (by simp only[aT,aR b1];exact Y)
 ·unfold na at F G
  split at F
  ·cases F
  ·split at G
   ·cases G
   ·exact h.inj j iI aO ax b F G aa aX
 ·unfold na at Y
  split at Y
  ·cases Y
  ·rename_i b1;rcases R with R|R
   ·exact h.sep b R ⟨j,e',Y,J⟩
   ·exact b1 (h.inj j k e' e b Y Q J R)
 ·rcases R with R|R
  ·exact h.lt b R
  ·exact h.rU ⟨k,e,Q,R⟩
 ·unfold na at Y
  split at Y
  ·cases Y
  ·exact h.v7 b o R ⟨j,e',Y,J⟩
 ·have b1:j≠k:=λb1=>by rw[b1,hm] at Y;cases Y
  obtain⟨e',eK,aL,aA,R⟩:=h.dj j cv g7 (by simp only[aT,aR b1];exact Y);refine⟨e',by simp only[na,aR b1];exact eK,aL,aA,λb fV=>?_⟩
  exact (R b fV).imp rfl rfl λm Mv v al=>al.cut (λb R=>(e8 b).1 R) (CT (aj j cv g7 Y) m Mv)
def ka.aqn {au hi:Nat->Prop}{ay:cS}{es:List MapEntry}{ms:List H}(h:ka w au B es ms)(Z:∀m∈ms,∀v,aY w au B m v->aY ak hi ay m v):ka ak hi ay es ms:=by
 induction h with
 |nil=>exact .nil
 |cons Q al _ a2=>exact .cons Q (Z _ (by simp) _ al) (a2 λm hm=>Z m (by simp[hm]))
def aqo {e:ht}{iV:cS}(h:dP A w B (aT mem k g cs))(Q:B k=some e)(U:o8 k cs=true)(O:c9 (CU A e) w (na B k) ak iV D8)(pN:D8 k=none):
  c9 A w B ak (e3 iV k e) (aT D8 k g cs)/\∀m v,aY ak (bn (CU A e) iV) iV m v->aY ak (bn A (e3 iV k e)) (e3 iV k e) m v:=by
 have e8:=Vq (A:=A) Q;have aqp:iV k=none:=O.cr.rT k pN
 have aqq:∀b,bn A (e3 iV k e) b->bn (CU A e) iV b:=λb R=>by
  rcases R with ⟨j,e',Y,J⟩|ba
  ·by_cases b1:j=k
   ·subst b1;rw[fy] at Y
    cases Y;exact .inr (.inr J)
   ·rw[fl _ _ b1] at Y;exact .inl ⟨j,e',Y,J⟩
  ·exact .inr (.inl ba)
 have adS:∀j e',iV j=some e'->e3 iV k e j=some e':=λj e' Y=>by
  by_cases b1:j=k
  ·subst b1;rw[aqp] at Y
   cases Y
  ·rw[fl _ _ b1];exact Y
 have oR:∀m v,aY ak (bn (CU A e) iV) iV m v->aY ak (bn A (e3 iV k e)) (e3 iV k e) m v:=λm v al=>al.more aqq adS;obtain⟨e',eK,aL,aA,R⟩:=h.dj k g cs (by simp[aT]);rw[Q] at eK
 cases eK;refine⟨⟨⟨λj Y=>?_,λj iI aO ax b F G aa aX=>?_,λb ba ⟨j,e',Y,J⟩=>?_,λb ba=>O.cr.lt b (.inl ba),O.cr.gl,λb o R ⟨j,e',Y,J⟩=>?_,λj cv g7 Y=>?_⟩,⟨O.iH.size,λb R a4=>?_,λj e' Y=>?_⟩,⟨O.fY.os,O.fY.tape,O.fY.output,O.fY.size,λb R a4=>?_⟩,λb R=>?_⟩,oR⟩
 ·by_cases b1:j=k
  ·subst b1;simp[aT] at Y
  ·simp only[aT,aR b1] at Y;rw[fl _ _ b1];exact O.cr.rT j Y
 ·by_cases Y:j=k<;>by_cases kf:iI=k
  ·rw[Y,kf]
  ·exfalso
   subst Y;rw[fy] at F
   cases F;rw[fl _ _ kf] at G;exact O.cr.sep b (.inr aa) ⟨iI,ax,G,aX⟩
  ·exfalso
   subst kf;rw[fy] at G
   cases G;rw[fl _ _ Y] at F;exact O.cr.sep b (.inr aX) ⟨j,aO,F,aa⟩
  ·rw[fl _ _ Y] at F;rw[fl _ _ kf] at G;exact O.cr.inj j iI aO ax b F G aa aX
 ·by_cases b1:j=k
  ·subst b1;rw[fy] at Y
   cases Y;exact h.sep b ba ⟨_,_,Q,J⟩
  ·rw[fl _ _ b1] at Y;exact O.cr.sep b (.inl ba) ⟨j,e',Y,J⟩
 ·by_cases b1:j=k
  ·subst b1;rw[fy] at Y
   cases Y;exact h.v7 b o R ⟨_,_,Q,J⟩
  ·rw[fl _ _ b1] at Y;exact O.cr.v7 b o R ⟨j,e',Y,J⟩
 ·by_cases b1:j=k
  ·subst b1;simp only[aT,if_true,bM,eL] at Y;obtain⟨rfl,rfl⟩:=Y;refine⟨e,fy _ _ _,aL,aA,λb fV=>?_⟩
   have RY:¬ n3 (na B j) b:=fun⟨iI,ax,kf,oO⟩=>by
    unfold na at kf
    split at kf
    ·cases kf
    ·rename_i bo;exact bo (h.inj iI j ax e b kf Q oO fV)
   have an:=h.rU ⟨j,e,Q,fV⟩;have Ki:=O.fY.block b an RY
   have al:∀m∈cs,∀v,aY w (bn A B) B m v->aY ak (bn A (e3 iV j e)) (e3 iV j e) m v:=λm Mv v al =>
    oR m v ((al.cut (k:=j) (λb R=>(e8 b).1 R) (CT U m Mv)).j9 O.iH)
   rcases R b fV with ⟨aq,vs,T,F,G,aa,aX⟩|⟨aq,ir,jj,G,aa⟩
   ·exact .inl ⟨aq,vs,T,Ki.trans F,G,aa,λi m hm=>let ⟨v,kR,L⟩:=aX i m hm;⟨v,kR,al m (cJ hm) v L⟩⟩
   ·exact .inr ⟨aq,ir,jj,Ki.trans G,aa.aqn al⟩
  ·simp only[aT,aR b1] at Y;obtain⟨e',eK,xJ,HJ,hD⟩:=O.cr.dj j cv g7 Y;exact⟨e',adS j e' eK,xJ,HJ,λb fV=>(hD b fV).imp rfl rfl λm _ v al=>oR m v al⟩
 ·have F:=O.iH.DV b R λJ=>a4 ((e8 b).1 J);refine⟨F.1,fun⟨j,e',Y,J⟩=>?_⟩
  by_cases b1:j=k
  ·subst b1;rw[fy] at Y
   cases Y;exact a4 (.inl ⟨_,_,Q,J⟩)
  ·rw[fl _ _ b1] at Y;exact F.2 ⟨j,e',Y,J⟩
 ·by_cases b1:j=k
  ·subst b1;rw[Q] at Y
   cases Y;exact⟨e,fy _ _ _,.inl rfl⟩
  ·obtain⟨ax,F,G⟩:=O.iH.key j e' (by simp only[na,aR b1];exact Y);exact⟨ax,by rw[fl _ _ b1];exact F,G⟩
 ·refine O.fY.block b R fun⟨j,e',Y,J⟩=>?_;unfold na at Y
  split at Y
  ·cases Y
  ·exact a4 ⟨j,e',Y,J⟩
 ·obtain⟨j,e',Y,J⟩:=R
  by_cases b1:j=k
  ·subst b1;rw[fy] at Y
   cases Y;exact .inl ⟨_,_,Q,J⟩
  ·rw[fl _ _ b1] at Y;refine (O.fresh b ⟨j,e',Y,J⟩).imp (fun⟨wC,ax,wm,eR⟩=>?_) id;unfold na at wm
   split at wm
   ·cases wm
   ·exact⟨wC,ax,wm,eR⟩
def Ge (mem:Mem):H->Option (Nat×List (List Data))
 |.ref k g sz off len=>(qy sz mem (.ref k g sz off len)).map λes=>(sz,es)
 |_=>none
open Classical in
def nY (ol:List FuncId)(run:jH):bg:=λf args mem=>if mem=emp then (match run f args dY.e 0 with
 |.ok v m _=>if ol.contains f=true then (Ge (cp m) v).map λp => .own p.1 p.2 else (cL 6 (cp m) v).map .same
 |_=>none) else none
def Vr {ol:List FuncId}{run:jH}(eM:sZ P run):nh P (nY ol run):=by
 intro f args mem oa h;unfold nY at h
 split at h
 ·rename_i gJ;subst gJ;have L:=eM f args dY.e 0
  split at h
  ·rename_i v m c al;rw[al] at L;have h6:∀B w A,dP A w B (cp dY.e)->∀b,¬ n3 B b:=λB w A bh b ⟨k,e,Q,_⟩=>by rw[bh.rT k rfl] at Q;cases Q
   split at h
   ·simp only[c2] at h;obtain⟨p,aP,rfl⟩:=h;refine⟨L.1,λA w B vs bh al=>?_⟩;have h6:=h6 B w A bh;refine Calls.mono (L.2 A w B vs bh al) λe ak he=>?_;obtain⟨u,ay,rfl,df,jm⟩:=he;refine⟨u,rfl,⟨df.fY.os,df.fY.tape,df.fY.output,df.fY.size,λb R _=>df.fY.block b R (h6 b)⟩,?_⟩;unfold Ge at aP
    split at aP
    ·rename_i k g sz off len;simp only[c2] at aP;obtain⟨es,sn,rfl⟩:=aP;simp only[qy] at sn
     split at sn
     ·rename_i U;obtain⟨_,rfl⟩:=U
      split at sn
      ·rename_i cv cs Q
       split at sn
       ·rename_i aL;obtain⟨rfl,hle⟩:=aL;simp only[c2] at sn;obtain⟨ds,fD,rfl⟩:=sn;exact (Zp h6 df jm Q hle fD).less λb R=>R.elim (λh=>(h6 b h).elim) id
       ·cases sn
      ·cases sn
     ·cases sn
    ·cases aP
   ·simp only[c2] at h;obtain⟨d,ad,rfl⟩:=h;refine⟨L.1,λA w B vs bh al=>?_⟩;have h6:=h6 B w A bh;refine Calls.mono (L.2 A w B vs bh al) λe ak he=>?_;obtain⟨u,ay,rfl,df,jm⟩:=he;refine⟨u,rfl,⟨df.fY.os,df.fY.tape,df.fY.output,df.fY.size,λb R _=>df.fY.block b R (h6 b)⟩,?_⟩;exact (snap df.cr (λb R=>R) 6 v u d ad jm).less λb R=>R.elim (λh=>(h6 b h).elim) id
  ·cases h
 ·cases h
def aqr {ol:List FuncId}{run:jH}{f:FuncId}{args:List H}{v:H}{m:e6}{c:Nat}{d:Data}(aj:ol.contains f=false)(h:run f args dY.e 0=.ok v m c)(ad:cL 6 (cp m) v=some d):nY ol run f args emp=some (.same d):=by
 unfold nY;rw[aJ rfl,h];simp only[aj,cC,if_false,ad,kU]
def aqs {ol:List FuncId}{run:jH}{f:FuncId}{args:List H}{v:H}{m:e6}{c:Nat}{p:Nat×List (List Data)}(aj:ol.contains f=true)(h:run f args dY.e 0=.ok v m c)(ad:Ge (cp m) v=some p):nY ol run f args emp=some (.own p.1 p.2):=by
 unfold nY;rw[aJ rfl,h];simp only[aj,if_true,ad,kU]
end Go.Mini
namespace Go.Mini
open Go
abbrev y8:=List (Nat×Bool×H)
abbrev O9:=fp->e6->Rec->y8->ct
abbrev Kj:=jH->Nat->fp->e6->Rec->y8->O9->ct
def Gf:W Kj:=.mk λ_ _ _ _ _ _ _=>ct.no
def xg (l3:List Nat)(rec:Rec)(p:Bool×List lg)(r:ct):ct:=match l3 with
 | []=>r
 |_::_=>gr ct.no r (rX rec p l3)
def Gg (run:jH)(f:FuncId)(l:List H)(K:Data->ct):ct :=
 jv.rec ct.no (λv m _=>k7 ct.no (λd=>K d) (cL 6 (cp m) v)) (λ_ _ _=>ct.no) (run f l dY.e 0)
def Pa (run:jH)(f:FuncId)(l:List H)(K:Nat×List (List Data)->ct):ct :=
 jv.rec ct.no (λv m _=>k7 ct.no (λp=>K p) (Ge (cp m) v)) (λ_ _ _=>ct.no) (run f l dY.e 0)
def vD (ol:List FuncId)(dst:Option Nat)(op:fM)(idx:Nat)(l3:List Nat)(un:Bool):W Kj :=
 match op with
 |.call f l=>gr (.mk λrun _ t m rec eQ K=>xg l3 rec (false,[]) (Gg run f (l.map λx=>shut (W.ap (jI x) t)) λd=>K (iE dst t (.I d)) m (jl rec idx (false,[])) eQ)) Gf (ol.contains f)
 |.jN f l => .mk λrun _ t m rec eQ K=>match shut (W.ap (jI f) t) with
  |.ee g []=>gr (xg l3 rec (false,[]) (Gg run g (l.map λx=>shut (W.ap (jI x) t)) λd=>K (iE dst t (.I d)) m (jl rec idx (false,[])) eQ)) ct.no (ol.contains g)
  |_=>ct.no
 |.load n bH x => .mk λ_ _ t m rec eQ K=>xg l3 rec (false,zF n (W.ap (jI x) t)) (CR dst (iW (cp m) n bH (W.ap (jI x) t)) t λld=>K ld m (jl rec idx (false,zF n (W.ap (jI x) t))) (gr eQ ((n,bH,W.ap (jI x) t)::eQ) un))
 |.lb k sz f l=>gr Gf (.mk λrun kb t m rec eQ K=>xg l3 rec (true,[.fT (kb+k)]) (Pa run f (l.map λx=>shut (W.ap (jI x) t)) λp =>
   gr ct.no (gr ct.no (K (iE dst t (.ref (kb+k) (bz (cp m) (kb+k)) sz 0 p.2.length)) (O3 (kb+k) (bz (cp m) (kb+k)) (p.2.flatten.map .I) m) (jl rec idx (true,[.fT (kb+k)])) eQ) (AM (kb+k) 1000000000000)) (hf p.1 sz))) (ol.contains f)
 |.lR ..=>Gf
 |.kQ ..=>Gf
 |.qb ..=>Gf
 |.qc ..=>Gf
 |op => .mk λ_ kb t m rec eQ K=>xg l3 rec (gh (fB kb op),cw (cR t) (fB kb op)) (Kc dst op kb t m λld m'=>K ld m' (jl rec idx (gh (fB kb op),cw (cR t) (fB kb op))) eQ)
def Vs (ol:List FuncId)(i:bw)(idx:Nat)(l3:List Nat)(un:Bool):W Kj:=match i.g with
 |none=>vD ol i.dst i.op idx l3 un
 |some (s,b) => .mk λrun kb t m rec eQ K=>match cR t s with
  |.I (.bool q)=>gr (K (iE i.dst t .no) m rec eQ) (W.ap (vD ol i.dst i.op idx l3 un) run kb t m rec eQ K) (q==b)
  |.no=>K (iE i.dst t .no) m rec eQ
  |_=>ct.no
def vE (ol:List FuncId)(un:Nat->Bool)(l:List bw):Nat->List (List Nat)->W Kj :=
 List.rec (motive:=λ_=>Nat->List (List Nat)->W Kj) (λ_ _ => .mk λ_ _ t m rec eQ K=>K t m rec eQ)
  (λi _ vC idx cs => .mk λrun kb t m rec eQ K=>W.ap (Vs ol i idx (cs.headD []) (un idx)) run kb t m rec eQ λt m rec eQ=>W.ap (vC (idx+1) cs.tail) run kb t m rec eQ K) l
variable {P:Program} {b2:Option H} {A:Nat->Prop} {cq w:World} {dD B:cS} {n kb:Nat} {own:List Nat} {ops:Array Oper} {o:Oper} {run:jH} {t:fp} {m:e6} {c:Nat} {d:Option H} {ol:List FuncId}
def Pb {l3:List Nat}{rec:Rec}{p:Bool×List lg}{r:ct}(h:xg l3 rec p r ≠ .no):xg l3 rec p r=r/\rX rec p l3=true:=by
 cases l3 with
 |nil=>exact⟨rfl,rfl⟩
 |cons a l =>
  unfold xg at *;simp only at *
  cases U:rX rec p (a::l) with
  |false=>rw[U] at h;exact absurd rfl h
  |true=>exact⟨rfl,rfl⟩
def aqt {f:FuncId}{l:List H}{K:Data->ct}(aj:ol.contains f=false)(h:Gg run f l K ≠ .no):∃d,nY ol run f l emp=some (.same d)/\Gg run f l K=K d:=by
 unfold Gg at *
 cases L:run f l dY.e 0 with
 |no=>rw[L] at h;exact absurd rfl h
 |hg v m c=>rw[L] at h;exact absurd rfl h
 |ok v m c =>
  rw[L] at h
  cases ad:cL 6 (cp m) v with
  |none=>simp only[ad] at h;exact absurd rfl h
  |some d =>
   refine⟨d,aqr aj L ad,?_⟩;show (k7 ct.no (λd=>K d) (cL 6 (cp m) v):ct)=K d;rw[ad]
def adT (op:fM):mh (fB kb op)=mh op:=by cases op<;>first|rfl|(rename_i b _ _ _ _;cases b<;>rfl)
def aqu (op:fM):oG (fB kb op)=oG op:=by cases op<;>rfl
def aqv {op:fM}{k:Nat}{bH:Bool}{y:bu}(h:fB kb op=.load k bH y):op=.load k bH y:=by cases op<;>first|exact h|(simp[fB] at h)
def aqw {f:FuncId}{l:List H}{K:Nat×List (List Data)->ct}(aj:ol.contains f=true)(h:Pa run f l K ≠ .no):∃p,nY ol run f l emp=some (.own p.1 p.2)/\Pa run f l K=K p:=by
 unfold Pa at *
 cases L:run f l dY.e 0 with
 |no=>rw[L] at h;exact absurd rfl h
 |hg v m c=>rw[L] at h;exact absurd rfl h
 |ok v m c =>
  rw[L] at h
  cases ad:Ge (cp m) v with
  |none=>simp only[ad] at h;exact absurd rfl h
  |some d =>
   refine⟨d,aqs aj L ad,?_⟩;show (k7 ct.no (λd=>K d) (Ge (cp m) v):ct)=K d;rw[ad]
def aqx {dst:Option Nat}{op:fM}{idx:Nat}{l3:List Nat}{un:Bool}{rec:Rec}{eQ:y8}{K:O9}{r:ct}(L:r=W.ap (vD ol dst op idx l3 un) run kb t m rec eQ K)(h:r ≠ .no):
  ∃v e m' AN,eW (nY ol run) (cp m) (cR t) (fB kb op)=some (v,e)/\cp m'=gf (cp m) e/\rX rec (gh (fB kb op),cw (cR t) (fB kb op)) l3=true /\
   r=K (iE dst t v) m' (jl rec idx (gh (fB kb op),cw (cR t) (fB kb op))) AN/\(∀x∈eQ,x∈AN)/\(un=true->∀n bH y,op=.load n bH y->(n,bH,aK (cR t) y)∈AN):=by
 have call:∀(f:FuncId) (l:List bu),ol.contains f=false->r=xg l3 rec (false,[]) (Gg run f (l.map λx=>shut (W.ap (jI x) t)) λd=>K (iE dst t (.I d)) m (jl rec idx (false,[])) eQ) ->
   ∃d,nY ol run f (l.map λx=>shut (aK (cR t) x)) emp=some (.same d)/\rX rec (false,[]) l3=true/\r=K (iE dst t (.I d)) m (jl rec idx (false,[])) eQ:=λf l aj L=>by
  simp only[oz] at L;obtain⟨F,G⟩:=Pb (by rw[<-L];exact h);rw[F] at L;obtain⟨d,aa,aX⟩:=aqt aj (by rw[<-L];exact h);exact⟨d,aa,G,by rw[L,aX]⟩
 have plain:∀(hu:∀n bH y,op ≠ .load n bH y) (O:∀mem tm,eW (nY ol run) mem tm (fB kb op)=bD mem tm (fB kb op)),r=xg l3 rec (gh (fB kb op),cw (cR t) (fB kb op)) (Kc dst op kb t m λld m'=>K ld m' (jl rec idx (gh (fB kb op),cw (cR t) (fB kb op))) eQ) ->
   ∃v e m' AN,eW (nY ol run) (cp m) (cR t) (fB kb op)=some (v,e)/\cp m'=gf (cp m) e/\rX rec (gh (fB kb op),cw (cR t) (fB kb op)) l3=true /\
   r=K (iE dst t v) m' (jl rec idx (gh (fB kb op),cw (cR t) (fB kb op))) AN/\(∀x∈eQ,x∈AN)/\(un=true->∀n bH y,op=.load n bH y->(n,bH,aK (cR t) y)∈AN):=λhu O L=>by
  obtain⟨F,G⟩:=Pb (by rw[<-L];exact h);rw[F] at L;rcases adF (dst:=dst) (op:=op) (kb:=kb) (t:=t) (m:=m) (K:=λld m'=>K ld m' (jl rec idx (gh (fB kb op),cw (cR t) (fB kb op))) eQ) with aa|⟨v,e,m',aa,aX,bt⟩
  ·exact absurd (L.trans aa) h
  ·exact⟨v,e,m',eQ,by rw[O];exact aa,aX,G,L.trans bt,λ_ h=>h,λ_ n bH y he=>absurd he (hu n bH y)⟩
 cases op
 case call f l =>
  cases aj:ol.contains f with
  |true=>simp only[vD,aj] at L;exact absurd L h
  |false =>
  simp only[vD,aj] at L;obtain⟨d,F,G,aa⟩:=call f l aj L;exact⟨_,none,m,eQ,by simp only[fB,eW,F],rfl,G,aa,λ_ h=>h,λ_ n bH y he=>by cases he⟩
 case jN f l =>
  simp only[vD,oy,oz] at L
  split at L
  ·rename_i g aL;simp only[<-oz] at L
   cases aj:ol.contains g with
   |true=>rw[aj] at L;exact absurd L h
   |false =>
   rw[aj] at L;obtain⟨d,F,G,aa⟩:=call g l aj L;exact⟨_,none,m,eQ,by simp only[fB,eW,aL,F],rfl,G,aa,λ_ h=>h,λ_ n bH y he=>by cases he⟩
  ·exact absurd L h
 case load F9 bH x =>
  simp only[vD,oy,oz] at L;obtain⟨F,G⟩:=Pb (by rw[<-L];exact h);rw[F] at L
  cases ae:iW (cp m) F9 bH (aK (cR t) x) with
  |none=>rw[ae] at L;exact absurd L h
  |some v =>
   rw[ae] at L;refine⟨v,none,m,_,by simp only[fB,eW,bD,ae];rfl,rfl,G,L,λy ai=>?_,λhu Kg aAW y' he=>?_⟩
   ·cases un with
    |false=>exact ai
    |true=>exact uq _ ai
   ·cases he;subst hu;exact lU
 case lb k sz f l =>
  cases aj:ol.contains f with
  |false=>simp only[vD,aj] at L;exact absurd L h
  |true =>
  simp only[vD,aj,oy,oz] at L;obtain⟨F,G⟩:=Pb (by rw[<-L];exact h);rw[F] at L;obtain⟨p,aa,aX⟩:=aqw aj (by rw[<-L];exact h);rw[aX] at L
  cases eb:hf p.1 sz with
  |false=>rw[eb] at L;exact absurd L h
  |true =>
  rw[eb] at L
  cases R:AM (kb+k) 1000000000000 with
  |false=>rw[R] at L;exact absurd L h
  |true =>
  rw[R] at L;have hD:kb+k<1000000000000:=by simpa [Nat.blt_eq] using R
  exact⟨_,some (kb+k,bz (cp m) (kb+k),p.2.flatten.map .I),_,eQ,by simp only[fB,eW,aa,aJ (Nat.eq_of_beq_eq_true eb)],adC hD _ _ m,G,L,λ_ h=>h,λ_ n bH y he=>by cases he⟩
 case lR=>exact absurd L h
 case kQ=>exact absurd L h
 case qb=>exact absurd L h
 case qc=>exact absurd L h
 all_goals exact plain (λ_ _ _ he=>by cases he) (λ_ _=>rfl) L
def aqy (a b:bw):oH (gU kb a) (gU kb b)=oH a b:=by
 unfold oH looks gU;simp only[aqu]
def adU:∀(cs pre:List bw) (as:List Nat),xH (pre.map (gU kb)) (cs.map (gU kb)) as=xH pre cs as
 | [],_,_=>rfl
 |c::cs,pre,[]=>rfl
 |c::cs,pre,a::as=>by
  simp only[gZ,xH];have:=adU cs (pre++[c]) as;rw[pT,gZ,bN] at this;rw[this]
  congr 1
  rw[adV,List.all_map]
  congr 1
  funext ⟨x,i⟩
  simp[aqy]
def Vt:∀(cs pre:List bw) (as:List Nat),mi (pre.map (gU kb)) (cs.map (gU kb)) as=mi pre cs as
 | [],_,_=>rfl
 |c::cs,pre,as=>by
  simp only[gZ,mi];have:=Vt cs (pre++[c]) as.tail;rw[pT,gZ,bN] at this;rw[this]
  congr 1
  rw[adV,List.filter_map,x6]
  have F:((λx:bw×Nat => !((as.headD 0).testBit x.2||uL (mh x.1.op) (mh (gU kb c).op))) ∘ Prod.map (gU kb) id)=λx:bw×Nat => !((as.headD 0).testBit x.2||uL (mh x.1.op) (mh c.op)):=by
   funext ⟨x,i⟩
   simp[gU,adT]
  simp only[F]
  rfl
def adW {l:List Oper}{is:List bw}(h:l.mapM (nC P n 0 own ops)=some is):l.mapM (nC P n kb own ops)=some (is.map (gU kb)):=by
 induction l generalizing is with
 |nil=>simp at h;subst h;rfl
 |cons o l a2 =>
  simp only[nf,Option.pure_def,Option.bind_eq_bind,Option.bind_eq_some_iff,bM] at h ⊢;obtain⟨x,J,xs,sh,rfl⟩:=h;exact⟨_,adL J,_,a2 sh,rfl⟩
def Pc (ol:List FuncId)(run:jH)(kb:Nat)(un:Nat->Bool)(iy:List (List Nat))(K:O9)(r:ct)(l:List bw)(idx:Nat)(t:fp)(m:e6)(rec:Rec)(eQ:y8):Prop :=
 ∃t1 aW rec1 pY,r=K t1 aW rec1 pY/\(∀k,idx+D l<=k->rec1 k=none)/\(∀o∈eQ,o∈pY)/\∀(da:uX) (Kk:a6->Prop) (tail:List bw),
  (∀j x rec st iN cb,idx<=j->j<idx+(D l)->jr (nY ol run) (mS iy) j x rec st iN cb->(un j=true->∀n bH y,x.op=.load n bH y->g8 st.tm x.g=some true->(n,bH,aK st.tm y)∈pY)->da j x rec st iN cb) ->
  x1 da Kk (idx+D l) tail rec1 ⟨cR t1,cp aW⟩->x1 da Kk idx (l.map (gU kb)++tail) rec ⟨cR t,cp m⟩
def Pd (aA:n<=1000000){un:Nat->Bool}{iy:List (List Nat)}{K:O9}{r:ct}(bo:r ≠ .no):∀(l:List bw) (idx:Nat) (t:fp) (m:e6) (rec:Rec) (eQ:y8),(∀x∈l,x.dst.all (λd=>decide (d<n))=true) ->
  (∀k,idx<=k->rec k=none)->r=W.ap (vE ol un l idx (iy.drop idx)) run kb t m rec eQ K->Pc ol run kb un iy K r l idx t m rec eQ
 | [],idx,t,m,rec,eQ,_,jR,L=>⟨t,m,rec,eQ,L,λk Q=>jR k (by simpa using Q),λ_ h=>h,λda Kk tail _ h=>h⟩
 |i::l,idx,t,m,rec,eQ,ad,jR,L=>by
  have dC:r=W.ap (Vs ol i idx ((iy.drop idx).headD []) (un idx)) run kb t m rec eQ λt m rec eQ=>W.ap (vE ol un l (idx+1) (iy.drop idx).tail) run kb t m rec eQ K:=L;rw[List.tail_drop] at dC;have adX:=ad i (by simp);have si:∀x∈l,x.dst.all (λd=>decide (d<n))=true:=λx J=>ad x (by simp[J])
  have rest:∀t2 bY kC Kl,r=W.ap (vE ol un l (idx+1) (iy.drop (idx+1))) run kb t2 bY kC Kl K->(∀k,idx+1<=k->kC k=none)->(∀o∈eQ,o∈Kl) ->
    (∀pY:y8,(∀o∈Kl,o∈pY)->jr (nY ol run) (mS iy) idx (gU kb i) rec ⟨cR t,cp m⟩ kC ⟨cR t2,cp bY⟩/\(un idx=true->∀n bH y,(gU kb i).op=.load n bH y->g8 (cR t) (gU kb i).g=some true->(n,bH,aK (cR t) y)∈pY)) ->
    Pc ol run kb un iy K r (i::l) idx t m rec eQ:=λt2 bY kC Kl F G aa aX=>by
   obtain⟨t1,aW,rec1,pY,cH,cO,gT,hP⟩:=Pd aA bo l (idx+1) t2 bY kC Kl si G F;refine⟨t1,aW,rec1,pY,cH,λk Q=>cO k (by simp at Q;omega),λo a4=>gT o (aa o a4),λda Kk tail dN U=>?_⟩;obtain⟨bt,bx⟩:=aX pY gT;refine .cons (dN idx _ _ _ _ _ (c8 _) (by simp) bt bx) (hP da Kk tail (λa1 x rec st iN cb a b=>dN a1 x rec st iN cb (by omega) (by simp;omega)) ?_);have:idx+(i::l).length=idx+1+D l:=by simp;omega
   rw[this] at U;exact U
  unfold Vs at dC
  have skip:r=W.ap (vE ol un l (idx+1) (iy.drop (idx+1))) run kb (iE i.dst t .no) m rec eQ K->g8 (cR t) i.g=some false->Pc ol run kb un iy K r (i::l) idx t m rec eQ:=λF G =>
   rest _ _ _ _ F (λk Q=>jR k (by omega)) (λ_ h=>h) λpY _=>⟨.inl ⟨G,rfl,by rw[AL aA adX];rfl⟩,λ_ n bH y _ aL=>by
    have xJ:g8 (cR t) i.g=some true:=aL;rw[G] at xJ;cases xJ⟩
  have act:r=W.ap (vD ol i.dst i.op idx ((iy.drop idx).headD []) (un idx)) run kb t m rec eQ (λt m rec eQ=>W.ap (vE ol un l (idx+1) (iy.drop (idx+1))) run kb t m rec eQ K)->g8 (cR t) i.g=some true->Pc ol run kb un iy K r (i::l) idx t m rec eQ:=λF G=>by
   obtain⟨v,e,m',AN,dw,dV,hQ,jf,CV,Km⟩:=aqx F bo;refine rest _ _ _ _ jf (λk Q=>by simp only[jl,aR (show ¬ k=idx by omega)];exact jR k (by omega)) CV λpY a4=>⟨.inr ⟨G,v,e,dw,λp q x3 aS=>?_,rfl,by rw[AL aA adX,dV];rfl⟩,λhu n bH y e4 _=>?_⟩
   ·have ix:p<idx:=by
     rcases gX p idx with cG|cG
     ·exact cG
     ·rw[jR p cG] at aS;cases aS
    unfold rX at hQ;rw[List.all_eq_true] at hQ
    have gJ:p∈(iy.drop idx).headD []:=by
     unfold mS at x3;rw[aJ ix] at x3
     have:(iy.drop idx).headD []=iy.getD idx []:=by
      rw[List.headD_eq_head?_getD,List.head?_drop,dG]
     rw[this];exact List.contains_iff_mem.1 x3
    have:=hQ p gJ;rw[aS] at this;exact this
   ·exact a4 _ (Km hu n bH y (aqv e4))
  split at dC
  ·rename_i aL;exact act dC (by rw[aL];rfl)
  ·rename_i s b aL
   have aU:r=(match cR t s with
    |.I (.bool q)=>gr (W.ap (vE ol un l (idx+1) (iy.drop (idx+1))) run kb (iE i.dst t .no) m rec eQ K) (W.ap (vD ol i.dst i.op idx ((iy.drop idx).headD []) (un idx)) run kb t m rec eQ (λt m rec eQ=>W.ap (vE ol un l (idx+1) (iy.drop (idx+1))) run kb t m rec eQ K)) (q==b)
    |.no=>W.ap (vE ol un l (idx+1) (iy.drop (idx+1))) run kb (iE i.dst t .no) m rec eQ K
    |_=>ct.no):=dC
   split at aU
   ·rename_i q aS
    cases wX:(q==b) with
    |false=>rw[wX] at aU;exact skip aU (by rw[aL];simp only[g8,aS,wX])
    |true=>rw[wX] at aU;exact act aU (by rw[aL];simp only[g8,aS,wX])
   ·rename_i aS;exact skip aU (by rw[aL];simp only[g8,aS])
   ·exact absurd aU bo
end Go.Mini
