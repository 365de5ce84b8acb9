/- A part of the proof. -/
import Derived.Recover
import Derived.Test.YtplehnijfhgclaaGreatDoorM02
set_option linter.unusedSimpArgs false
set_option linter.unusedVariables false
set_option linter.defProp false
set_option maxRecDepth 100000
set_option maxHeartbeats 4000000
noncomputable section
open Bool renaming and_eq_true->ff,false_eq_true->cE,not_eq_true'->vB,rec->gu,true_and->e0
open Classical renaming choose_spec->sk
open Decidable renaming em->du
open Int renaming fdiv_eq_ediv_of_nonneg->Ud,le_of_lt->N3,lt_trichotomy->oX,mul_comm->nk,mul_fdiv_add_fmod->Oh,mul_nonneg->sA,mul_one->qB,natAbs_natCast->nr,one_mul->oj,pow_pos->Fk,reducePow->abK,sign_eq_neg_one_of_neg->kJ,sign_eq_one_of_pos->gq,sign_mul->nS,sign_neg->yH,sign_zero->w5,sub_zero->Af,toNat_natCast->lX,zero_mul->yL,zero_sub->ab5
open List renaming any_eq_false->sN,append_assoc->ki,append_nil->mX,drop->nL,drop_append->EG,drop_drop->x3,drop_eq_getElem_cons->gx,drop_eq_nil_of_le->lj,drop_zero->pD,ext_getElem?->qm,findIdx?_eq_none_iff->acy,findIdx?_eq_some_iff_getElem->acx,flatten_append->Vc,flatten_cons->mg,getD_eq_getElem?_getD->dH,getElem?_append_right->r4,getElem?_drop->oI,getElem?_eq_getElem->bf,getElem?_eq_none->lk,getElem?_eq_some_iff->dL,getElem?_inj->acN,getElem?_map->bg,getElem?_set->lF,getElem?_zipIdx->UU,getElem_drop->JN,getElem_mem->hb,length->D,length_append->ks,length_cons->lQ,length_drop->pG,length_map->aj,length_replicate->hs,length_set->fk,length_take->gk,map->ON,mapM_cons->nf,map_append->pT,map_cons->g0,map_map->x7,map_nil->bP,map_replicate->CM,map_set->CF,mem_append->h5,mem_cons->kt,mem_cons_of_mem->ur,mem_cons_self->lU,mem_iff_getElem?->ye,mem_map->h7,mem_of_getElem?->cL,mem_of_mem_drop->Fj,mem_or_eq_of_mem_set->nW,mem_singleton->sE,nil_append->EB,range'->Kg,range'_succ->adQ,replicate->ch,replicate_append_replicate->Vb,replicate_succ->qn,set_append_right->Az,set_cons_succ->FV,set_cons_zero->qM,set_set->acW,take->mZ,take_add_one->ho,take_append_of_le_length->Vd,take_length->mB,take_of_length_le->dF,zipIdx_map->adW
open List.cons renaming injEq->bl
open Nat renaming add_sub_cancel_left->EH,add_zero->lo,beq->hg,beq_eq->Vp,blt->AN,eq_zero_or_pos->ln,exists_eq_add_of_le->adr,gcd->gr,le_refl->c9,lt_or_ge->gY,mul_one->dM,ne_of_beq_eq_false->nu,reduceEqDiff->sW,reduceLeDiff->acV,reduceMul->abJ,sub_self->hG,zero_le->dG
open Option renaming bind_none->o1,bind_some->z0,isNone_iff_eq_none->O7,map->adF,map_bind->O5,map_eq_some_iff->c4,map_map->adE,map_some->kU,rec->k7
open Option.some renaming inj->mm,injEq->bO
open Prod renaming ext->cz,fst->nt
open Prod.mk renaming injEq->eM
open Rat renaming divInt->lA,neg_divInt_neg->abW,num_divInt_den->Jy
namespace Go.Mini
open Go
def anf (k:IntKind)(a b:Int):bits .or k a b=bits .or k b a:=by
 simp only[bits,BitVec.or_comm]
def ang (u d:Int)(i:Nat)(ab:(2:Int)^i<=1152921504606846976)(hu:0<=u/\u<2^i)(af:0<=d)(h:d*2^i<18446744073709551616):bits .or .u64 u (d*2^i)=u+d*2^i:=by
 rw[anf,Int.add_comm];have au:0<=d*2^i:=sA af (by exact N3 (Fk (by omega)));refine bits_join .u64 64 (by decide) (λn F G=>yl n ⟨F,by omega⟩) i _ _ au (Int.mul_emod_left _ _) (by omega) hu.1 hu.2 (by omega)
instance (n:Int):Decidable (dY n):=by unfold dY;exact inferInstance
def wZ (a:Raw):Int×Bool:=if cK a=true/\dY (gP a) then (gP a,true) else (0,false)
def N4:=bI pJ λ(s,l)=>ca (D l<=1000000) (.same (.dq [.int .i64 (wZ (s,l)).1,.bool (wZ (s,l)).2]))
@[go_sem] def az5 (s l):=cl N4 rfl Cb (s,l) rfl
def anh (T:bj)(fb:T kF=aG tO):WF T Z6 N4:=by
 refine b7 λ(s,l)=>cq λY=>⟨rfl,b6 ?_⟩;simp only[Z6,pJ,bX]
 by_cases M:cK (s,l)=true
 ·obtain⟨z,a2,e⟩:=(hp _).1 M
  cases e
  have ab:wZ (z.sign,aH z.natAbs)=if dY z then (z,true) else (0,false):=by
   unfold wZ;rw[M,show gP (z.sign,aH z.natAbs)=z from eK z];simp
  rw[ab];clear ab;have Q:=kl z
  by_cases aZ:(aH z.natAbs).length<=4
  ·have T8:decide (((aH z.natAbs).length:Int)>4)=false:=df;have oJ:=lr z.natAbs;have eA:=mr z.natAbs;generalize aH z.natAbs=l at *;simp only[go_sem,go_sem_proc,fb,M,Y,T8,aj,aI];refine cX [1,17,18] [159001] (λ((i,u):Nat×Int) tm mem=>i<=D l/\u=a9 (l.take i)/\u<18446744073709551616/\tm 4=.J (.int .u64 u)/\tm 19=.J (.int .i64 i)) (λ(i,_)=>D l-i) (0,0) (by refine⟨by omega,rfl,by omega,rfl,rfl⟩) ?_;intro vs ms aK aF;simp only[go_sem,go_sem_proc,fb] at aK aF;subst aK aF;rintro⟨i,u⟩ tm mem R hm ⟨ab,hu,az6,Ar,As⟩;simp only[go_sem,go_sem_proc,fb,bl] at R hm;obtain⟨F,h0,m2⟩:=R;have abG:eP (l.take i):=λd af=>eA d (List.mem_of_mem_take af);have Fz:0<=u:=by rw[hu];exact ob abG
   rcases du (i<D l) with aq|bD
   ·have L:=bf aq;have af:=eA l[i] (hb aq);have r9:=kZ l i aq;have N5:=yj abG;rw[gk,Nat.min_eq_left (Nat.le_of_lt aq),<-hu] at N5;rw[<-hu] at r9;generalize l[i]=d at *;have yQ:decide ((i:Int)<(D l:Int))=true:=c7;have Je:IntKind.u64.wrap d=d:=yl d ⟨af.1,by omega⟩
    have Fo:IntKind.i64.wrap (20*(i:Int))=((20*i:Nat):Int):=by rw[fK _];omega
    have MI:min (20*i) 64=20*i:=by omega
    have qp:(((20*i:Nat):Int)<0)=False:=eq_false (by omega);have abH:(1048576:Int)^i=2^(20*i):=by rw[Int.pow_mul];rfl
    rw[abH] at N5 r9
    have ix:(2:Int)^(20*i)<=1152921504606846976:=by
     obtain rfl|rfl|rfl|rfl:i=0\/i=1\/i=2\/i=3:=by omega
     all_goals decide
    by_cases abI:i=3/\d>8
    ·obtain⟨rfl,T9⟩:=abI;have ani:decide (d>8)=true:=mL T9;have N6:(((3:Nat):Int)==3)=true:=rfl
     have anj:¬ dY z:=by
      have Ag:=Iz l 4;rw[oJ] at Ag;have:0<=a9 (l.drop 4):=ob λd af=>eA d (Fj af);have bw:=sA (show (0:Int)<=1048576^(min 4 (D l)) from N3 (Fk (by omega))) this;unfold dY;simp only[abJ,Nat.reduceAdd,abK] at r9;rw[r9] at Ag;omega
     rw[aT anj];refine ah ?_;repeat' (intro (ai:_=_)<;>simp only[ai,go_sem,go_sem_proc,fb,F,h0,m2,Ar,As,hm,L,af.1,af.2,yQ,Je,ani,N6,aj,bg,bl,aI]<;>try refine ae ?_ ?_)
    ·have I6:d*2^(20*i)<18446744073709551616:=by
      obtain rfl|rfl|rfl|rfl:i=0\/i=1\/i=2\/i=3:=by omega
      all_goals simp
      all_goals omega
     have tT:=ang u d (20*i) ix ⟨Fz,N5⟩ af.1 I6;have Jx:0<=d*2^(20*i):=sA af.1 (N3 (Fk (by omega)));have Ua:IntKind.u64.wrap (d*2^(20*i))=d*2^(20*i):=yl _ ⟨Jx,I6⟩
     have yD:u+d*2^(20*i)<18446744073709551616:=by
      clear tT Ua Jx Fo qp abH ix r9;obtain rfl|rfl|rfl|rfl:i=0\/i=1\/i=2\/i=3:=by omega
      all_goals simp only[abJ,abK] at N5 I6 ⊢
      all_goals omega
     by_cases ad:((i:Int)==3)=true
     ·have T9:decide (d>8)=false:=me λh=>abI ⟨by simp at ad;omega,h⟩
      refine ah ?_;repeat' (intro (ai:_=_)<;>simp only[ai,go_sem,go_sem_proc,fb,F,h0,m2,Ar,As,hm,L,af.1,af.2,yQ,Je,ad,T9,Fo,qp,if_false,lX,MI,Ua,tT,aj,bg,bl,aI]<;>try refine ae ?_ ?_)
      exact⟨(i+1,u+d*2^(20*i)),by dsimp only;omega,by dsimp only;omega,by dsimp only;rw[r9,nk],yD,rfl,by rw[fK _];rfl⟩
     ·have ad:((i:Int)==3)=false:=by simpa using ad
      refine ah ?_;repeat' (intro (ai:_=_)<;>simp only[ai,go_sem,go_sem_proc,fb,F,h0,m2,Ar,As,hm,L,af.1,af.2,yQ,Je,ad,Fo,qp,if_false,lX,MI,Ua,tT,aj,bg,bl,aI]<;>try refine ae ?_ ?_)
      exact⟨(i+1,u+d*2^(20*i)),by dsimp only;omega,by dsimp only;omega,by dsimp only;rw[r9,nk],yD,rfl,by rw[fK _];rfl⟩
   ·have yQ:decide ((i:Int)<(D l:Int))=false:=df;have js:i=D l:=by omega
    rw[js,mB,oJ] at hu;rcases Q with ⟨Q,qo⟩|⟨Q,qo⟩|⟨Q,qo⟩
    ·by_cases hr64:u<9223372036854775808
     ·rw[aL (by unfold dY;omega)];have hw:IntKind.i64.wrap u=z:=by rw[wrap64 u (by omega) (by omega)];omega
      refine ah ?_;repeat' (intro (ai:_=_)<;>simp only[ai,go_sem,go_sem_proc,fb,F,h0,m2,Ar,As,hm,yQ,Q,hr64,show decide ((1:Int)<0)=false from rfl,show decide ((1:Int)>=0)=true from rfl,show decide ((-1:Int)<0)=true from rfl,show decide ((-1:Int)>=0)=false from rfl,hw,decide_true,decide_false,aj]<;>try refine ae ?_ ?_)
     ·rw[aT (by unfold dY;omega)];refine ah ?_;repeat' (intro (ai:_=_)<;>simp only[ai,go_sem,go_sem_proc,fb,F,h0,m2,Ar,As,hm,yQ,Q,hr64,show decide ((1:Int)<0)=false from rfl,show decide ((1:Int)>=0)=true from rfl,show decide ((-1:Int)<0)=true from rfl,show decide ((-1:Int)>=0)=false from rfl,decide_true,decide_false,aj]<;>try refine ae ?_ ?_)
    ·rw[aL (by unfold dY;omega)];have ank:u=0:=by omega
     subst qo;subst ank;refine ah ?_;repeat' (intro (ai:_=_)<;>simp only[ai,go_sem,go_sem_proc,fb,F,h0,m2,Ar,As,hm,yQ,Q,show decide ((0:Int)<0)=false from rfl,show decide ((0:Int)>=0)=true from rfl,show decide ((0:Int)<9223372036854775808)=true from rfl,show IntKind.i64.wrap 0=0 from rfl,show (0:Int).sign=0 from rfl,decide_true,decide_false,aj]<;>try refine ae ?_ ?_)
    ·by_cases hr64:u<=9223372036854775808
     ·rw[aL (by unfold dY;omega)];have hw:=T7 (0-u) (by omega) (by omega)
      have gp:IntKind.i64.wrap (0-u+18446744073709551616)=z:=by
       simp[IntKind.wrap,IntKind.bits,IntKind.signed];omega
      refine ah ?_;repeat' (intro (ai:_=_)<;>simp only[ai,go_sem,go_sem_proc,fb,F,h0,m2,Ar,As,hm,yQ,Q,hr64,show decide ((1:Int)<0)=false from rfl,show decide ((1:Int)>=0)=true from rfl,show decide ((-1:Int)<0)=true from rfl,show decide ((-1:Int)>=0)=false from rfl,hw,gp,decide_true,decide_false,aj]<;>try refine ae ?_ ?_)
     ·rw[aT (by unfold dY;omega)];refine ah ?_;repeat' (intro (ai:_=_)<;>simp only[ai,go_sem,go_sem_proc,fb,F,h0,m2,Ar,As,hm,yQ,Q,hr64,show decide ((1:Int)<0)=false from rfl,show decide ((1:Int)>=0)=true from rfl,show decide ((-1:Int)<0)=true from rfl,show decide ((-1:Int)>=0)=false from rfl,decide_true,decide_false,aj]<;>try refine ae ?_ ?_)
  ·have T8:decide (((aH z.natAbs).length:Int)>4)=true:=c7
   have aC:¬ dY z:=by
    intro h;unfold dY at h;refine aZ (fY.2 ?_);omega
   rw[aT aC];refine ah ?_;repeat' (intro (ai:_=_)<;>simp only[ai,go_sem,go_sem_proc,fb,M,Y,T8,aj]<;>try refine ae ?_ ?_)
 ·have M:cK (s,l)=false:=by simpa using M
  have ab:wZ (s,l)=(0,false):=by unfold wZ;rw[aT];rw[M];simp
  rw[ab];refine ah ?_;repeat' (intro (ai:_=_)<;>simp only[ai,go_sem,go_sem_proc,fb,M,Y]<;>try refine ae ?_ ?_)
def abL:bG:=bV 35 1 [.t 2] (O [cm 1 116001 0,bY 2 false] (.seq (O [aE 5 0 1,aD 6 2 5,c8 7 kF 6,dT 8 7,E 9 8,fr 10 9 2 1,hx 11 9 2 10,fs 12 9 (.call kF [.t 11]),ib 13 9 12,cF 14 9 13,E 15 14,fr 16 15 2 1,fr 17 15 0 16,fA 18 15 1 17,gN 19 15 .neq 18 1,cF 20 15 19] (bQ 20 [bY 2 false])) (O [aE 22 0 1,aD 23 2 22,aE 24 2 1,aD 25 2 24,bK 26 IE 23 25,E 21 26,aP 27 0 21,aP 28 1 21,bR 3 116003 c6,a1 2 3 27,E 4 28] (O [E 29 4,bd 30 .eql 29 0,E 31 30,Ca 32 31 2 3,fB 33 31 (.call SB [.t 32]),fF 34 31 33,E 2 34] .ret))))
def abM:bG:=bV 46 2 [.cell 4 4 true,.t 5] (O [cm 2 119002 0,cm 3 119003 1,bR 4 119004 cM,ba 5 0] (.seq (O [aD 10 4 2,c8 11 mu 10,dT 12 11,E 13 12,hx 14 13 4 3,fs 15 13 (.call mu [.t 14]),ib 16 13 15,cF 17 13 16] (bQ 17 [aB 18 (.build cM []),a1 4 4 18,ba 5 1])) (O [aE 20 0 2,aD 21 2 20,aE 22 2 3,aD 23 2 22,aE 24 0 3,aD 25 2 24,aE 26 2 2,aD 27 2 26,oU 28 SC 21 23 25 27,E 19 28,aP 29 0 19,aP 30 1 19,bR 6 119006 c6,a1 2 6 29,E 7 30] (O [aE 32 2 2,aD 33 2 32,aE 34 2 3,aD 35 2 34,bK 36 tJ 33 35,E 31 36,aP 37 0 31,aP 38 1 31,bR 8 119008 c6,a1 2 8 37,E 9 38] (O [aD 39 2 6,E 40 7,aD 41 2 8,E 42 9,oU 43 BV 39 40 41 42,aP 44 0 43,aP 45 1 43,a1 4 4 44,E 5 45] .ret)))))
def abN:bG:=bV 13 2 [.cell 4 4 true,.t 5] (O [bR 4 130004 cM,ba 5 0] (O [E 6 0,c8 7 No 6,E 8 1,c8 9 No 8,bK 10 IG 7 9,aP 11 0 10,aP 12 1 10,a1 4 4 11,E 5 12] .ret))
def abO:bG:=bV 25 2 [.cell 4 4 true,.t 5] (O [cm 2 132002 0,cm 3 132003 1,bR 4 132004 cM,ba 5 0] (.seq (O [aD 6 4 2,c8 7 mu 6,dT 8 7,E 9 8,hx 10 9 4 3,fs 11 9 (.call mu [.t 10]),ib 12 9 11,cF 13 9 12] (bQ 13 [aB 14 (.build cM []),a1 4 4 14,ba 5 1])) (e3 [aD 15 4 2,aE 16 0 3,aD 17 2 16,c8 18 ER 17,aE 19 2 3,aD 20 2 19,aB 21 (.build cM [(0,2,.t 18),(2,2,.t 20)]),bK 22 BT 15 21,aP 23 0 22,aP 24 1 22,a1 4 4 23,E 5 24] ZV .ret)))
def abP:bG:=bV 42 2 [.cell 4 4 true,.t 5] (O [cm 2 134002 0,cm 3 134003 1,bR 4 134004 cM,ba 5 0] (.seq (O [aD 10 4 2,c8 11 mu 10,dT 12 11,E 13 12,hx 14 13 4 3,fs 15 13 (.call mu [.t 14]),ib 16 13 15,cF 17 13 16] (bQ 17 [aB 18 (.build cM []),a1 4 4 18,ba 5 1])) (O [aE 20 0 2,aD 21 2 20,aE 22 0 3,aD 23 2 22,bK 24 tJ 21 23,E 19 24,aP 25 0 19,aP 26 1 19,bR 6 134006 c6,a1 2 6 25,E 7 26] (O [aE 28 2 2,aD 29 2 28,aE 30 2 3,aD 31 2 30,bK 32 tJ 29 31,E 27 32,aP 33 0 27,aP 34 1 27,bR 8 134008 c6,a1 2 8 33,E 9 34] (O [aD 35 2 6,E 36 7,aD 37 2 8,E 38 9,oU 39 BV 35 36 37 38,aP 40 0 39,aP 41 1 39,a1 4 4 40,E 5 41] .ret)))))
def abQ:bG:=bV 78 2 [.t 4] (O [cm 2 135002 0,cm 3 135003 1,ba 4 0] (.seq (O [aD 17 4 2,c8 18 mu 17,dT 19 18,E 20 19,hx 21 20 4 3,fs 22 20 (.call mu [.t 21]),ib 23 20 22,cF 24 20 23] (bQ 24 [ba 4 0])) (e3 [aE 25 0 2,aD 26 2 25,aE 27 2 2,aD 28 2 27,aE 29 0 3,aD 30 2 29,aE 31 2 3,aD 32 2 31,bR 5 135005 c6,bR 6 135006 c6,bR 7 135007 c6,bR 8 135008 c6,a1 2 5 26,a1 2 6 28,a1 2 7 30,a1 2 8 32] [[],[],[],[],[],[],[],[],[1,3,5,7],[1,3,5,7,8],[1,3,5,7,8,9],[1,3,5,7,8,9,10],[3,5,7],[5,7],[7],[]] (O [ba 9 1] (dU 0 (.seq (.block 1 (O [aD 36 2 5,aD 37 2 6,bK 38 BW 36 37,E 35 38,aP 39 0 35,aP 40 1 35,aP 41 2 35,bR 10 135010 c6,bR 11 135011 c6,a1 2 10 39,a1 2 11 40,E 12 41] (O [aD 43 2 7,aD 44 2 8,bK 45 BW 43 44,E 42 45,aP 46 0 42,aP 47 1 42,aP 48 2 42,bR 13 135013 c6,bR 14 135014 c6,a1 2 13 46,a1 2 14 47,E 15 48] (.seq (O [aD 49 2 10,aD 50 2 13,bK 51 SH 49 50,E 16 51] (.block 2 (O [E 53 16,bd 54 .neq 53 0,E 52 54] (fj 52 (O [E 55 9,E 56 16,bt 57 .mul 55 56,E 4 57] .ret) (O [aE 59 0 11,aJ 60 1 59,bd 61 .eql 60 0,E 62 61,fr 63 62 0 14,fA 64 62 1 63,gN 65 62 .eql 64 0,cF 66 62 65,E 58 66] (bQ 58 [E 67 9,aE 68 0 11,aJ 69 1 68,aE 70 0 14,aJ 71 1 70,bt 72 .sub 69 71,bt 73 .mul 67 72,E 4 73])))))) (.mN [aD 74 2 6,aD 75 2 11,aD 76 2 8,aD 77 2 14,a1 2 5 74,a1 2 6 75,a1 2 7 76,a1 2 8 77] [[],[],[],[],[1,2,3],[2,3],[3],[]]))))) (.ops [E 33 9,aB 34 (.un .neg (.t 33)),E 9 34])))))))
def abR:bG:=bV 15 1 [.t 2] (O [cm 1 138001 0,bY 2 false] (O [aD 6 2 1,c8 7 SI 6,E 5 7,aP 8 0 5,aP 9 1 5,E 3 8,E 4 9] (O [E 10 4,E 11 10,ev 12 11 3,kj 13 11 .eql 12 1,fF 14 11 13,E 2 14] .ret)))
def abS:bG:=bV 38 4 [.cell 8 2 true,.t 9] (O [cm 4 139004 0,cm 5 139005 1,cm 6 139006 2,cm 7 139007 3,bR 8 139008 c6,ba 9 0] (O [aD 14 2 4,aD 15 2 5,bK 16 tJ 14 15,E 13 16,aP 17 0 13,aP 18 1 13,bR 10 139010 c6,a1 2 10 17,E 11 18] (.seq (O [E 19 11,bd 20 .neq 19 0] (bQ 20 [aB 21 (.build c6 []),E 22 11,a1 2 8 21,E 9 22])) (O [aD 24 2 6,aD 25 2 7,bK 26 tJ 24 25,E 23 26,aP 27 0 23,aP 28 1 23,bR 12 139012 c6,a1 2 12 27,E 11 28] (.seq (O [E 29 11,bd 30 .neq 29 0] (bQ 30 [aB 31 (.build c6 []),E 32 11,a1 2 8 31,E 9 32])) (O [aD 33 2 10,aD 34 2 12,bK 35 SJ 33 34,aP 36 0 35,aP 37 1 35,a1 2 8 36,E 9 37] .ret))))))
def abT:bG:=bV 22 4 [.cell 8 4 true,.t 9] (O [cm 4 141004 0,cm 6 141006 2,bR 8 141008 cM,ba 9 0] (.seq (O [E 10 1,bd 11 .neq 10 0,E 12 11,dK 13 12 3,gN 14 12 .neq 13 0,cF 15 12 14] (bQ 15 [aB 16 (.build cM []),a1 4 8 16,ba 9 6])) (O [aD 17 2 4,aD 18 2 6,bK 19 IG 17 18,aP 20 0 19,aP 21 1 19,a1 4 8 20,E 9 21] .ret)))
def abU:bG:=bV 60 2 [.cell 4 4 true,.t 5] (O [cm 2 149002 0,cm 3 149003 1,bR 4 149004 cM,ba 5 0] (.seq (.block 0 (O [aD 15 2 2,c8 16 kF 15,dT 17 16,E 18 17,hx 19 18 2 3,fs 20 18 (.call kF [.t 19]),ib 21 18 20,cF 22 18 21,E 14 22] (fj 14 (O [aB 23 (.build cM []),a1 4 4 23,ba 5 1] .ret) (O [aE 25 0 3,aJ 26 1 25,bd 27 .eql 26 0,E 24 27] (fj 24 (O [aB 28 (.build cM []),a1 4 4 28,ba 5 15] .ret) (O [aE 30 0 3,aJ 31 1 30,bd 32 .lss 31 0,E 29 32] (fj 29 (.mN [aD 33 2 2,c8 34 ER 33,aD 35 2 3,c8 36 ER 35,a1 2 2 34,a1 2 3 36] Nx) .skip))))))) (O [aD 38 2 2,aD 39 2 3,bK 40 IE 38 39,E 37 40,aP 41 0 37,aP 42 1 37,bR 6 149006 c6,a1 2 6 41,E 7 42] (O [aD 44 2 2,aD 45 2 6,bK 46 BW 44 45,E 43 46,aP 47 0 43,aP 48 1 43,aP 49 2 43,bR 8 149008 c6,bR 9 149009 c6,a1 2 8 47,a1 2 9 48,E 10 49] (O [aD 51 2 3,aD 52 2 6,bK 53 BW 51 52,E 50 53,aP 54 0 50,aP 55 1 50,aP 56 2 50,bR 11 149011 c6,bR 12 149012 c6,a1 2 11 54,a1 2 12 55,E 13 56] (O [aD 57 2 8,aD 58 2 11,aB 59 (.build cM [(0,2,.t 57),(2,2,.t 58)]),a1 4 4 59,ba 5 0] .ret))))))
def abV:bG:=bV 49 2 [.cell 4 4 true,.t 5] (O [cm 2 169002 0,cm 3 169003 1,bR 4 169004 cM,ba 5 0] (.seq (.block 0 (O [aD 11 4 2,c8 12 mu 11,dT 13 12,E 14 13,hx 15 14 4 3,fs 16 14 (.call mu [.t 15]),ib 17 14 16,cF 18 14 17,E 10 18] (fj 10 (O [aB 19 (.build cM []),a1 4 4 19,ba 5 1] .ret) (O [aE 21 0 3,aE 22 0 21,aJ 23 1 22,bd 24 .eql 23 0,E 20 24] (bQ 20 [aB 25 (.build cM []),a1 4 4 25,ba 5 15]))))) (O [aE 27 0 2,aD 28 2 27,aE 29 2 3,aD 30 2 29,bK 31 tJ 28 30,E 26 31,aP 32 0 26,aP 33 1 26,bR 6 169006 c6,a1 2 6 32,E 7 33] (O [aE 35 2 2,aD 36 2 35,aE 37 0 3,aD 38 2 37,bK 39 tJ 36 38,E 34 39,aP 40 0 34,aP 41 1 34,bR 8 169008 c6,a1 2 8 40,E 9 41] (O [aD 42 2 6,E 43 7,aD 44 2 8,E 45 9,oU 46 BV 42 43 44 45,aP 47 0 46,aP 48 1 46,a1 4 4 47,E 5 48] .ret)))))
abbrev ax:=Raw×Raw
def av (f:ax):List Data:=[.int .i64 f.1.1,.ar (f.1.2.map aI),.int .i64 f.2.1,.ar (f.2.2.map aI)]
def cR (x:ax×Int):Data:=.dq [.agg (av x.1),.int .i64 x.2]
def ee (x:Rat):ax:=(bb x.num,bb x.den)
def ns (x:Rat):Prop:=x.num.natAbs<cY/\x.den<cY
def bC:ax:=((0,[]),(0,[]))
def cA (f:ax):Bool:=cK f.1&&(cK f.2&&(f.2.1==1&&(gr (gP f.1).natAbs (gP f.2).natAbs==1)))
def yR (f:ax):Rat:=lA (gP f.1) (gP f.2)
def anl (x:Rat):yR (ee x)=x:=by
 unfold yR ee;rw[eK,eK,Jy]
def N7 {x y:Int}(h:bb x=bb y):x=y:=by rw[<-eK x,h,eK]
def den_pos (x:Rat):0<(x.den:Int):=Int.natCast_pos.2 x.den_pos
def anm {n:Int}(h:0<n):(bb n).1=1:=gq h
def At (f:ax):cA f=true↔∃x,ns x/\f=ee x:=by
 unfold cA;simp only[ff,beq_iff_eq]
 constructor
 ·rintro⟨F,G,ad,aZ⟩;obtain⟨p,aR,aQ⟩:=(hp _).1 F;obtain⟨q,aU,az⟩:=(hp _).1 G;obtain⟨f1,f2⟩:=f;simp only at aQ az ad aZ;subst aQ az;rw[eK,eK] at aZ
  have T2:0<q:=by
   rcases kl q with ⟨_,h⟩|⟨e,_⟩|⟨e,_⟩
   ·exact h
   ·have:q.sign=1:=ad;omega
   ·have:q.sign=1:=ad;omega
  refine⟨⟨p,q.natAbs,by omega,aZ⟩,⟨aR,aU⟩,?_⟩
  unfold ee;rw[show ((q.natAbs:Nat):Int)=q by omega]
 ·rintro⟨x,⟨F,G⟩,rfl⟩;have af:(x.den:Int).natAbs<cY:=by rw[nr];exact G
  refine⟨jZ F,jZ af,anm (den_pos x),?_⟩;unfold ee;rw[eK,eK,nr];exact x.reduced
def Ct {x:Rat}(h:ns x):cA (ee x)=true:=(At _).2 ⟨x,h,rfl⟩
def ru {x:Rat}(h:ns x):(x.den:Int).natAbs<cY:=by rw[nr];exact h.2
def jc {z:Int}(h:z.natAbs<cY):(aH z.natAbs).length<=1000000:=by have:=m4 h;omega
def Jz (a:Raw):Bool:=(wZ a).2&&((wZ a).1==1)
def ann {z:Int}(h:z.natAbs<cY):Jz (bb z)=decide (z=1):=by
 unfold Jz wZ;rw[jZ h,eK]
 by_cases ab:dY z
 ·rw[aL ⟨rfl,ab⟩];simp only[e0]
  rfl
 ·rw[aT λh=>ab h.2];have:z≠1:=by rintro rfl;exact ab (by unfold dY;omega)
  simp[this]
def N8:=bI pJ λ(s,l)=>ca (D l<=1000000) (.same (.bool (Jz (s,l))))
@[go_sem] def az7 (s l):=cl N8 rfl Cb (s,l) rfl
def ano (T:bj)(N9:T SI=aG N4):WF T abR N8:=by
 refine b7 λ(s,l)=>cq λY=>⟨rfl,b6 ?_⟩;simp only[abR,pJ,bX];unfold Jz;rcases h:(wZ (s,l)).2
 ·simp only[go_sem,go_sem_proc,N9,Y,h];repeat' (first|refine ae ?_ ?_|fail)<;>intro h<;>simp only[h,go_sem,go_sem_proc,N9,Y,h]
 ·simp only[go_sem,go_sem_proc,N9,Y,h];repeat' (first|refine ae ?_ ?_|fail)<;>intro h<;>simp only[h,go_sem,go_sem_proc,N9,Y,h]
abbrev k4:Int×(List Int)×Int×(List Int)->List Data:=λ(s,l,s2,Z)=>[.agg [.int .i64 s,.ar (l.map aI),.int .i64 s2,.ar (Z.map aI)]]
def vi:=bI k4 λ(s,l,s2,Z)=>ca (D l<=1000000/\D Z<=1000000) (.same (.bool (cA ((s,l),(s2,Z)))))
def ud:∀a b,k4 a=k4 b->a=b:=by
  rintro⟨s1,hZ,tY,sG⟩ ⟨s2,Z,tZ,sH⟩ h;simp only[bl,Data.agg.injEq,Data.int.injEq,Data.ar.injEq] at h;exact cz h.1.1.2 (cz (map_inj fX _ _ h.1.2.1) (cz h.1.2.2.1.2 (map_inj fX _ _ h.1.2.2.2.1)))
@[go_sem] def az8 (s l s2 Z):=cl vi rfl ud (s,l,s2,Z) rfl
def anp (T:bj)(fb:T kF=aG tO)(w0:T IE=aG Jt)(Oa:T SB=aG N8):WF T abL vi:=by
 refine b7 λ(s,l,s2,Z)=>cq λY=>⟨rfl,b6 ?_⟩;simp only[abL,k4,bX];obtain⟨bs,br⟩:=Y
 by_cases M:cK (s,l)=true
 ·by_cases aW:cK (s2,Z)=true
  ·by_cases Q:s2=1
   ·obtain⟨x,L,e⟩:=(hp _).1 M;obtain⟨y,ak,az⟩:=(hp _).1 aW
    have aN:mA (s,l) (s2,Z)=(bb ((gr x.natAbs y.natAbs:Nat):Int),0):=by
     unfold mA;rw[M,aW,e,az,eK,eK];rfl
    have jT:=Fw L ak
    have a6:Jz (bb ((gr x.natAbs y.natAbs:Nat):Int))=(gr x.natAbs y.natAbs==1):=by
     rw[ann (by rw[nr];exact jT)];rw[Bool.eq_iff_iff];simp;omega
    have tx:gP (s,l)=x:=by rw[e,eK]
    have nE:gP (s2,Z)=y:=by rw[az,eK]
    have ed:cA ((s,l),(s2,Z))=(gr x.natAbs y.natAbs==1):=by
     show (cK (s,l)&&(cK (s2,Z)&&((s2==1)&&(gr (gP (s,l)).natAbs (gP (s2,Z)).natAbs==1))))=_;rw[M,aW,tx,nE,show (s2==1)=true by simpa using Q]
     simp only[e0]
    have Ub:((bb ((gr x.natAbs y.natAbs:Nat):Int)).2).length<=1000000:=jc (by rw[nr];exact jT);rw[ed,<-a6];generalize bb ((gr x.natAbs y.natAbs:Nat):Int)=bh at *;obtain⟨cJ,cQ⟩:=bh;have eH:(s2==1)=true:=by simpa using Q
    refine ah ?_;repeat' (intro h<;>simp only[h,go_sem,go_sem_proc,fb,w0,Oa,M,aW,bs,br,eH,aN,Ub,eo,b5,show ((0:Int)==0)=true from rfl]<;>try refine ae ?_ ?_)
   ·have ed:cA ((s,l),(s2,Z))=false:=by unfold cA;simp[Q]
    have eH:(s2==1)=false:=by simpa using Q
    rw[ed];refine ah ?_;repeat' (intro h<;>simp only[h,go_sem,go_sem_proc,fb,w0,Oa,M,aW,bs,br,eH]<;>try refine ae ?_ ?_)
  ·have aW:cK (s2,Z)=false:=by simpa using aW
   have ed:cA ((s,l),(s2,Z))=false:=by unfold cA;simp[aW]
   rw[ed];refine ah ?_;repeat' (intro h<;>simp only[h,go_sem,go_sem_proc,fb,w0,Oa,M,aW,bs,br]<;>try refine ae ?_ ?_)
 ·have M:cK (s,l)=false:=by simpa using M
  have ed:cA ((s,l),(s2,Z))=false:=by unfold cA;simp[M]
  rw[ed];refine ah ?_;repeat' (intro h<;>simp only[h,go_sem,go_sem_proc,fb,w0,Oa,M,bs,br]<;>try refine ae ?_ ?_)
def ie (p q:Raw):ax×Int :=
 if (cK p&&cK q)=true then (if gP q=0 then (bC,15) else (ee (lA (gP p) (gP q)),0)) else (bC,1)
def FA {p q:Int}(aR:p.natAbs<cY)(aU:q.natAbs<cY)(au:q≠0):ie (bb p) (bb q)=(ee (lA p q),0):=by
 unfold ie;rw[jZ aR,jZ aU,eK,eK,aL (by rfl),aT au]
def Uc {p q:Int}(aU:0<q):(lA p q).num=p.fdiv ((gr p.natAbs q.natAbs:Nat):Int)/\((lA p q).den:Int)=q.fdiv ((gr p.natAbs q.natAbs:Nat):Int):=by
 rw[Rat.num_divInt,Rat.den_divInt,aT (by omega),gq aU,oj];have aN:q.gcd p=gr p.natAbs q.natAbs:=by rw[Int.gcd_comm];rfl
 rw[aN];have au:(0:Int)<=((gr p.natAbs q.natAbs:Nat):Int):=Int.natCast_nonneg _;rw[Ud _ au,Ud _ au];refine⟨rfl,?_⟩;rw[Int.natCast_ediv]
 congr 1
 omega
def Ue {p q:Int}(aU:q≠0):0<gr p.natAbs q.natAbs:=Nat.gcd_pos_of_pos_right _ (by omega)
def anq {p q:Int}(aR:p.natAbs<cY)(aU:q.natAbs<cY):ns (lA p q):=by
 have main:∀{p q:Int},p.natAbs<cY->q.natAbs<cY->0<q->ns (lA p q):=by
  intro p q aR aU au;obtain⟨F,G⟩:=Uc (p:=p) au;have aN:=Ue (p:=p) (q:=q) (by omega);refine⟨?_,?_⟩
  ·rw[F];exact Fx aR (by omega)
  ·have:=Fx (y:=((gr p.natAbs q.natAbs:Nat):Int)) aU (by omega);rw[<-G,nr] at this;exact this
 rcases oX q 0 with h|h|h
 ·rw[<-abW];exact main (by omega) (by omega) (by omega)
 ·subst h;rw[Rat.divInt_zero];unfold ns cY;exact⟨Nat.pow_pos (by omega),Nat.one_lt_pow (by omega) (by omega)⟩
 ·exact main aR aU h
def JA:=bI iO λ(s,l,s2,Z)=>ca (D l<=1000000/\D Z<=1000000) (.same (cR (ie (s,l) (s2,Z))))
@[go_sem] def az9 (s l s2 Z):=cl JA rfl qI (s,l,s2,Z) rfl
def anr (T:bj)(fb:T kF=aG tO)(yS:T ER=aG Jo)(w0:T IE=aG Jt)(pQ:T BW=aG Jw):WF T abU JA:=by
 refine b7 λ(s,l,s2,Z)=>cq λY=>⟨rfl,b6 ?_⟩;simp only[abU,iO,bX];obtain⟨bs,br⟩:=Y
 by_cases M:cK (s,l)=true
 ·by_cases aW:cK (s2,Z)=true
  ·obtain⟨x,L,e⟩:=(hp _).1 M;obtain⟨y,ak,az⟩:=(hp _).1 aW
   by_cases au:y=0
   ·have hm:ie (s,l) (s2,Z)=(bC,15):=by
     unfold ie;rw[M,aW,az,eK,aL (by rfl),aL au]
    rw[hm]
    cases e
    cases az;have Q:(y.sign==0)=true:=by rw[au];rfl
    refine ah ?_;repeat' (intro h<;>simp only[h,go_sem,go_sem_proc,fb,yS,w0,pQ,M,aW,bs,br,Q,cR,av,bC,bP]<;>try refine ae ?_ ?_)
   ·have main:∀p q:Int,p.natAbs<cY->q.natAbs<cY->0<q->∃g:Raw,mA (bb p) (bb q)=(g,0)/\g.2.length<=1000000/\l1 (bb p) g=(bb (lA p q).num,bb (p.fmod ((gr p.natAbs q.natAbs:Nat):Int)),0)/\l1 (bb q) g=(bb (lA p q).den,bb (q.fmod ((gr p.natAbs q.natAbs:Nat):Int)),0):=by
     intro p q aR aU lZ;have jT:=Fw aR aU;have Cu:((gr p.natAbs q.natAbs:Nat):Int).natAbs<cY:=by rw[nr];exact jT
     have rp:=Ue (p:=p) (q:=q) (by omega);obtain⟨F,G⟩:=Uc (p:=p) lZ;refine⟨bb ((gr p.natAbs q.natAbs:Nat):Int),?_,jc Cu,?_,?_⟩
     ·unfold mA;rw[jZ aR,jZ aU,eK,eK];rfl
     ·rw[yM aR Cu (by omega),F]
     ·rw[yM aU Cu (by omega),G]
    have rv:(y.sign==0)=false:=by simpa using au
    rcases Int.lt_or_gt_of_ne au with l0|h3
    ·have fv:decide (y.sign<0)=true:=by rw[kJ l0];rfl
     obtain⟨⟨cJ,cQ⟩,aN,jT,jY,nQ⟩:=main (-x) (-y) (by omega) (by omega) (by omega)
     have hm:ie (s,l) (s2,Z)=(ee (lA (-x) (-y)),0):=by
      rw[e,az,FA L ak au,abW]
     rw[hm];have uN:hy (s,l)=bb (-x):=by unfold hy;rw[aL M,e,eK]
     have qi:hy (s2,Z)=bb (-y):=by unfold hy;rw[aL aW,az,eK]
     have sL:s2=y.sign:=congrArg nt az;have en:(bb (-x)).2.length<=1000000:=jc (by omega);have eQ:(bb (-y)).2.length<=1000000:=jc (by omega);clear e az;unfold ee;generalize bb (-x)=X at *;generalize bb (-y)=nq at *;obtain⟨dA,dJ⟩:=X;obtain⟨og,qC⟩:=nq;rw[<-sL] at rv fv;refine ah ?_;repeat' (intro h<;>simp only[h,go_sem,go_sem_proc,fb,yS,w0,pQ,M,aW,bs,br,rv,fv,uN,qi,en,eQ,aN,jT,jY,nQ,cR,av,eo,km,b5]<;>try refine ae ?_ ?_)
    ·have fv:decide (y.sign<0)=false:=by rw[gq h3];rfl
     obtain⟨⟨cJ,cQ⟩,aN,jT,jY,nQ⟩:=main x y L ak h3
     have hm:ie (s,l) (s2,Z)=(ee (lA x y),0):=by
      rw[e,az,FA L ak au]
     rw[hm];have sL:s2=y.sign:=congrArg nt az;rw[<-e] at aN jY;rw[<-az] at aN nQ;rw[<-sL] at rv fv;unfold ee;refine ah ?_;repeat' (intro h<;>simp only[h,go_sem,go_sem_proc,fb,yS,w0,pQ,M,aW,bs,br,rv,fv,aN,jT,jY,nQ,cR,av,eo,km,b5]<;>try refine ae ?_ ?_)
  ·have aW:cK (s2,Z)=false:=by simpa using aW
   have hm:ie (s,l) (s2,Z)=(bC,1):=by unfold ie;rw[aW,Bool.and_false];rfl
   rw[hm];refine ah ?_;repeat' (intro h<;>simp only[h,go_sem,go_sem_proc,fb,yS,w0,pQ,M,aW,bs,br,cR,av,bC,bP]<;>try refine ae ?_ ?_)
 ·have M:cK (s,l)=false:=by simpa using M
  have hm:ie (s,l) (s2,Z)=(bC,1):=by unfold ie;rw[M,Bool.false_and];rfl
  rw[hm];refine ah ?_;repeat' (intro h<;>simp only[h,go_sem,go_sem_proc,fb,yS,w0,pQ,M,bs,br,cR,av,bC,bP]<;>try refine ae ?_ ?_)
def FB:=bI wL λ(p,q)=>ca (dY p/\dY q) (.same (cR (ie (bb p) (bb q))))
@[go_sem] def ans (p q):=cl FB rfl NG (p,q) rfl
def ant (T:bj)(anu:T No=aG N2)(JB:T IG=aG JA):WF T abN FB:=by
 refine b7 λ(p,q)=>cq λY=>⟨rfl,b6 ?_⟩;simp only[abN,wL,bX];obtain⟨F,G⟩:=Y;have hZ:(bb p).2.length<=1000000:=jc (yP F);have Z:(bb q).2.length<=1000000:=jc (yP G);generalize dV:bb p=P at *;generalize e6:bb q=a5 at *;obtain⟨dA,dJ⟩:=P;obtain⟨og,qC⟩:=a5;refine ah ?_;repeat' (intro h<;>simp only[h,go_sem,go_sem_proc,anu,JB,F,G,dV,e6,hZ,Z,b5,cR,av]<;>try refine ae ?_ ?_)
def w2 (a b c d:Raw):Raw×Int :=
 if ((mulR a b).2==0)=true then (if ((mulR c d).2==0)=true then lz (mulR a b).1 (mulR c d).1 else ((0,[]),(mulR c d).2)) else ((0,[]),(mulR a b).2)
def abX (z:Int):(nR z).1.2.length<=1000000:=by
 unfold nR
 split
 ·exact jc (by assumption)
 ·simp
def o0 (a b:Raw):(mulR a b).1.2.length<=1000000:=by
 unfold mulR
 split
 ·exact abX _
 ·simp
def Uf (a b:Raw):(lz a b).1.2.length<=1000000:=by
 unfold lz
 split
 ·exact abX _
 ·simp
def anv (a b c d:Raw):(w2 a b c d).1.2.length<=1000000:=by
 unfold w2
 split
 ·split
  ·exact Uf _ _
  ·simp
 ·simp
abbrev Ob:Int×(List Int)×Int×(List Int)×Int×(List Int)×Int×(List Int)->List Data:=λ(s,l,s2,Z,bU,b1,bW,bZ)=>[.agg [.int .i64 s,.ar (l.map aI)],.agg [.int .i64 s2,.ar (Z.map aI)],.agg [.int .i64 bU,.ar (b1.map aI)],.agg [.int .i64 bW,.ar (bZ.map aI)]]
def Oc:=bI Ob λ(s,l,s2,Z,bU,b1,bW,bZ)=>ca (D l<=1000000/\D Z<=1000000/\D b1<=1000000/\D bZ<=1000000) (.same (eo (w2 (s,l) (s2,Z) (bU,b1) (bW,bZ))))
def anw:∀a b,Ob a=Ob b->a=b:=by
  rintro⟨s1,hZ,tY,sG,anx,anz,anA,anB⟩ ⟨s2,Z,tZ,sH,anC,anD,anE,anF⟩ h;simp only[bl,Data.agg.injEq,Data.int.injEq,Data.ar.injEq] at h;exact cz h.1.1.2 (cz (map_inj fX _ _ h.1.2.1) (cz h.2.1.1.2 (cz (map_inj fX _ _ h.2.1.2.1) (cz h.2.2.1.1.2 (cz (map_inj fX _ _ h.2.2.1.2.1) (cz h.2.2.2.1.1.2 (map_inj fX _ _ h.2.2.2.1.2.1)))))))
@[go_sem] def aAa (s l s2 Z bU b1 bW bZ):=cl Oc rfl anw (s,l,s2,Z,bU,b1,bW,bZ) rfl
def anG (T:bj)(pR:T tJ=aG Cm)(Ug:T SJ=aG NX):WF T abS Oc:=by
 refine b7 λ(s,l,s2,Z,bU,b1,bW,bZ)=>cq λY=>⟨rfl,b6 ?_⟩;simp only[abS,Ob,bX];obtain⟨bs,br,en,eQ⟩:=Y;have aY:=o0 (s,l) (s2,Z);have b0:=o0 (bU,b1) (bW,bZ);unfold w2;generalize iB:mulR (s,l) (s2,Z)=jd at *;generalize j0:mulR (bU,b1) (bW,bZ)=M2 at *;obtain⟨⟨dx,dW⟩,aQ⟩:=jd;obtain⟨⟨bT,cB⟩,az⟩:=M2;rcases F:(aQ==0)
 ·refine ah ?_;repeat' (intro h<;>simp only[h,go_sem,go_sem_proc,pR,Ug,bs,br,en,eQ,iB,F,aY,b0,eo,b5,bP]<;>try refine ae ?_ ?_)
 ·have iP:aQ=0:=by simpa using F
  subst iP;rcases G:(az==0)
  ·refine ah ?_;repeat' (intro h<;>simp only[h,go_sem,go_sem_proc,pR,Ug,bs,br,en,eQ,iB,j0,F,G,aY,b0,eo,b5,bP]<;>try refine ae ?_ ?_)
  ·have je:az=0:=by simpa using G
   subst je;refine ah ?_;repeat' (intro h<;>simp only[h,go_sem,go_sem_proc,pR,Ug,bs,br,en,eQ,iB,j0,F,aY,b0,eo,b5,bP]<;>try refine ae ?_ ?_)
def vj (p:Raw×Int)(q:Raw×Int):ax×Int:=if (p.2==0)=true then (if (q.2==0)=true then ie p.1 q.1 else (bC,6)) else (bC,6)
abbrev Od:Int×(List Int)×Int×Int×(List Int)×Int->List Data:=λ(s,l,e,s2,Z,az)=>[.agg [.int .i64 s,.ar (l.map aI)],.int .i64 e,.agg [.int .i64 s2,.ar (Z.map aI)],.int .i64 az]
def FC:=bI Od λ(s,l,e,s2,Z,az)=>ca (D l<=1000000/\D Z<=1000000) (.same (cR (vj ((s,l),e) ((s2,Z),az))))
def anH:∀a b,Od a=Od b->a=b:=by
  rintro⟨s1,hZ,aQ,tY,sG,Oe⟩ ⟨s2,Z,az,tZ,sH,aAb⟩ h;simp only[bl,Data.agg.injEq,Data.int.injEq,Data.ar.injEq] at h;exact cz h.1.1.2 (cz (map_inj fX _ _ h.1.2.1) (cz h.2.1.2 (cz h.2.2.1.1.2 (cz (map_inj fX _ _ h.2.2.1.2.1) h.2.2.2.1.2))))
@[go_sem] def aAc (s l e s2 Z az):=cl FC rfl anH (s,l,e,s2,Z,az) rfl
def anI (T:bj)(JB:T IG=aG JA):WF T abT FC:=by
 refine b7 λ(s,l,e,s2,Z,az)=>cq λY=>⟨rfl,b6 ?_⟩;simp only[abT,Od,bX];obtain⟨bs,br⟩:=Y;unfold vj;rcases F:(e==0)
 ·refine ah ?_;repeat' (intro h<;>simp only[h,go_sem,go_sem_proc,JB,bs,br,F,cR,av,bC,bP]<;>try refine ae ?_ ?_)
 ·have iP:e=0:=by simpa using F
  subst iP;rcases G:(az==0)
  ·refine ah ?_;repeat' (intro h<;>simp only[h,go_sem,go_sem_proc,JB,bs,br,F,G,cR,av,bC,bP]<;>try refine ae ?_ ?_)
  ·have je:az=0:=by simpa using G
   subst je;refine ah ?_;repeat' (intro h<;>simp only[h,go_sem,go_sem_proc,JB,bs,br,F,cR,av,bC,bP]<;>try refine ae ?_ ?_)
def ou (a b:ax):ax×Int:=if cA a=true then (if cA b=true then vj (w2 a.1 b.2 b.1 a.2) (mulR a.2 b.2) else (bC,1)) else (bC,1)
def kn (a b:ax):ax×Int:=if cA a=true then (if cA b=true then ou a (hy b.1,b.2) else (bC,1)) else (bC,1)
def iC (a b:ax):ax×Int:=if cA a=true then (if cA b=true then vj (mulR a.1 b.1) (mulR a.2 b.2) else (bC,1)) else (bC,1)
def fL (a b:ax):ax×Int:=if cA a=true then (if cA b=true then (if (b.1.1==0)=true then (bC,15) else vj (mulR a.1 b.2) (mulR a.2 b.1)) else (bC,1)) else (bC,1)
def anJ (a:Raw)(h:a.2.length<=1000000):(hy a).2.length<=1000000:=by
 unfold hy
 split
 ·rename_i M;obtain⟨z,a2,e⟩:=(hp _).1 M;rw[e,eK];exact jc (by omega)
 ·simp
abbrev lB:Int×(List Int)×Int×(List Int)×Int×(List Int)×Int×(List Int)->List Data:=λ(s,l,s2,Z,bU,b1,bW,bZ)=>[.agg [.int .i64 s,.ar (l.map aI),.int .i64 s2,.ar (Z.map aI)],.agg [.int .i64 bU,.ar (b1.map aI),.int .i64 bW,.ar (bZ.map aI)]]
def Cv:=bI lB λ(s,l,s2,Z,bU,b1,bW,bZ)=>ca (D l<=1000000/\D Z<=1000000/\D b1<=1000000/\D bZ<=1000000) (.same (cR (ou ((s,l),(s2,Z)) ((bU,b1),(bW,bZ)))))
def vk:∀a b,lB a=lB b->a=b:=by
  rintro⟨s1,hZ,tY,sG,anx,anz,anA,anB⟩ ⟨s2,Z,tZ,sH,anC,anD,anE,anF⟩ h;simp only[bl,Data.agg.injEq,Data.int.injEq,Data.ar.injEq] at h;exact cz h.1.1.2 (cz (map_inj fX _ _ h.1.2.1) (cz h.1.2.2.1.2 (cz (map_inj fX _ _ h.1.2.2.2.1) (cz h.2.1.1.2 (cz (map_inj fX _ _ h.2.1.2.1) (cz h.2.1.2.2.1.2 (map_inj fX _ _ h.2.1.2.2.2.1)))))))
@[go_sem] def anK (s l s2 Z bU b1 bW bZ):=cl Cv rfl vk (s,l,s2,Z,bU,b1,bW,bZ) rfl
def anL (T:bj)(ig:T mu=aG vi)(Uh:T SC=aG Oc)(pR:T tJ=aG Cm)(ue:T BV=aG FC):WF T abM Cv:=by
 refine b7 λ(s,l,s2,Z,bU,b1,bW,bZ)=>cq λY=>⟨rfl,b6 ?_⟩;simp only[abM,lB,bX];obtain⟨bs,br,en,eQ⟩:=Y;unfold ou
 by_cases M:cA ((s,l),(s2,Z))=true
 ·by_cases aW:cA ((bU,b1),(bW,bZ))=true
  ·have aY:=anv (s,l) (bW,bZ) (bU,b1) (s2,Z);have b0:=o0 (s2,Z) (bW,bZ);rw[aL M,aL aW];dsimp only;generalize iB:w2 (s,l) (bW,bZ) (bU,b1) (s2,Z)=jd at *;generalize j0:mulR (s2,Z) (bW,bZ)=M2 at *;obtain⟨⟨dx,dW⟩,aQ⟩:=jd;obtain⟨⟨bT,cB⟩,az⟩:=M2;refine ah ?_;repeat' (intro h<;>simp only[h,go_sem,go_sem_proc,ig,Uh,pR,ue,bs,br,en,eQ,M,aW,iB,j0,aY,b0,eo,b5,cR,av]<;>try refine ae ?_ ?_)
  ·have aW:cA ((bU,b1),(bW,bZ))=false:=by simpa using aW
   rw[aL M,aT (by simp[aW])];refine ah ?_;repeat' (intro h<;>simp only[h,go_sem,go_sem_proc,ig,Uh,pR,ue,bs,br,en,eQ,M,aW,cR,av,bC,bP]<;>try refine ae ?_ ?_)
 ·have M:cA ((s,l),(s2,Z))=false:=by simpa using M
  rw[aT (by simp[M])];refine ah ?_;repeat' (intro h<;>simp only[h,go_sem,go_sem_proc,ig,Uh,pR,ue,bs,br,en,eQ,M,cR,av,bC,bP]<;>try refine ae ?_ ?_)
def Cw:=bI lB λ(s,l,s2,Z,bU,b1,bW,bZ)=>ca (D l<=1000000/\D Z<=1000000/\D b1<=1000000/\D bZ<=1000000) (.same (cR (kn ((s,l),(s2,Z)) ((bU,b1),(bW,bZ)))))
@[go_sem] def aAd (s l s2 Z bU b1 bW bZ):=cl Cw rfl vk (s,l,s2,Z,bU,b1,bW,bZ) rfl
def anM (T:bj)(ig:T mu=aG vi)(yS:T ER=aG Jo)(FD:T BT=aG Cv):WF T abO Cw:=by
 refine b7 λ(s,l,s2,Z,bU,b1,bW,bZ)=>cq λY=>⟨rfl,b6 ?_⟩;simp only[abO,lB,bX];obtain⟨bs,br,en,eQ⟩:=Y;unfold kn
 by_cases M:cA ((s,l),(s2,Z))=true
 ·by_cases aW:cA ((bU,b1),(bW,bZ))=true
  ·have aY:=anJ (bU,b1) en;rw[aL M,aL aW];dsimp only;generalize iB:hy (bU,b1)=jd at *;obtain⟨dx,dW⟩:=jd;refine ah ?_;repeat' (intro h<;>simp only[h,go_sem,go_sem_proc,ig,yS,FD,bs,br,en,eQ,M,aW,iB,aY,eo,b5,cR,av]<;>try refine ae ?_ ?_)
  ·have aW:cA ((bU,b1),(bW,bZ))=false:=by simpa using aW
   rw[aL M,aT (by simp[aW])];refine ah ?_;repeat' (intro h<;>simp only[h,go_sem,go_sem_proc,ig,yS,FD,bs,br,en,eQ,M,aW,cR,av,bC,bP]<;>try refine ae ?_ ?_)
 ·have M:cA ((s,l),(s2,Z))=false:=by simpa using M
  rw[aT (by simp[M])];refine ah ?_;repeat' (intro h<;>simp only[h,go_sem,go_sem_proc,ig,yS,FD,bs,br,en,eQ,M,cR,av,bC,bP]<;>try refine ae ?_ ?_)
def yT:=bI lB λ(s,l,s2,Z,bU,b1,bW,bZ)=>ca (D l<=1000000/\D Z<=1000000/\D b1<=1000000/\D bZ<=1000000) (.same (cR (iC ((s,l),(s2,Z)) ((bU,b1),(bW,bZ)))))
@[go_sem] def anN (s l s2 Z bU b1 bW bZ):=cl yT rfl vk (s,l,s2,Z,bU,b1,bW,bZ) rfl
def anO (T:bj)(ig:T mu=aG vi)(pR:T tJ=aG Cm)(ue:T BV=aG FC):WF T abP yT:=by
 refine b7 λ(s,l,s2,Z,bU,b1,bW,bZ)=>cq λY=>⟨rfl,b6 ?_⟩;simp only[abP,lB,bX];obtain⟨bs,br,en,eQ⟩:=Y;unfold iC
 by_cases M:cA ((s,l),(s2,Z))=true
 ·by_cases aW:cA ((bU,b1),(bW,bZ))=true
  ·have aY:=o0 (s,l) (bU,b1);have b0:=o0 (s2,Z) (bW,bZ);rw[aL M,aL aW];dsimp only;generalize iB:mulR (s,l) (bU,b1)=jd at *;generalize j0:mulR (s2,Z) (bW,bZ)=M2 at *;obtain⟨⟨dx,dW⟩,aQ⟩:=jd;obtain⟨⟨bT,cB⟩,az⟩:=M2;refine ah ?_;repeat' (intro h<;>simp only[h,go_sem,go_sem_proc,ig,pR,ue,bs,br,en,eQ,M,aW,iB,j0,aY,b0,eo,b5,cR,av]<;>try refine ae ?_ ?_)
  ·have aW:cA ((bU,b1),(bW,bZ))=false:=by simpa using aW
   rw[aL M,aT (by simp[aW])];refine ah ?_;repeat' (intro h<;>simp only[h,go_sem,go_sem_proc,ig,pR,ue,bs,br,en,eQ,M,aW,cR,av,bC,bP]<;>try refine ae ?_ ?_)
 ·have M:cA ((s,l),(s2,Z))=false:=by simpa using M
  rw[aT (by simp[M])];refine ah ?_;repeat' (intro h<;>simp only[h,go_sem,go_sem_proc,ig,pR,ue,bs,br,en,eQ,M,cR,av,bC,bP]<;>try refine ae ?_ ?_)
def Cx:=bI lB λ(s,l,s2,Z,bU,b1,bW,bZ)=>ca (D l<=1000000/\D Z<=1000000/\D b1<=1000000/\D bZ<=1000000) (.same (cR (fL ((s,l),(s2,Z)) ((bU,b1),(bW,bZ)))))
@[go_sem] def anP (s l s2 Z bU b1 bW bZ):=cl Cx rfl vk (s,l,s2,Z,bU,b1,bW,bZ) rfl
def anQ (T:bj)(ig:T mu=aG vi)(pR:T tJ=aG Cm)(ue:T BV=aG FC):WF T abV Cx:=by
 refine b7 λ(s,l,s2,Z,bU,b1,bW,bZ)=>cq λY=>⟨rfl,b6 ?_⟩;simp only[abV,lB,bX];obtain⟨bs,br,en,eQ⟩:=Y;unfold fL
 by_cases M:cA ((s,l),(s2,Z))=true
 ·by_cases aW:cA ((bU,b1),(bW,bZ))=true
  ·rw[aL M,aL aW];dsimp only;rcases au:(bU==0)
   ·have aY:=o0 (s,l) (bW,bZ);have b0:=o0 (s2,Z) (bU,b1);rw[aT (by simp)];generalize iB:mulR (s,l) (bW,bZ)=jd at *;generalize j0:mulR (s2,Z) (bU,b1)=M2 at *;obtain⟨⟨dx,dW⟩,aQ⟩:=jd;obtain⟨⟨bT,cB⟩,az⟩:=M2;refine ah ?_;repeat' (intro h<;>simp only[h,go_sem,go_sem_proc,ig,pR,ue,bs,br,en,eQ,M,aW,au,iB,j0,aY,b0,eo,b5,cR,av]<;>try refine ae ?_ ?_)
   ·rw[aL rfl];refine ah ?_;repeat' (intro h<;>simp only[h,go_sem,go_sem_proc,ig,pR,ue,bs,br,en,eQ,M,aW,au,cR,av,bC,bP]<;>try refine ae ?_ ?_)
  ·have aW:cA ((bU,b1),(bW,bZ))=false:=by simpa using aW
   rw[aL M,aT (by simp[aW])];refine ah ?_;repeat' (intro h<;>simp only[h,go_sem,go_sem_proc,ig,pR,ue,bs,br,en,eQ,M,aW,cR,av,bC,bP]<;>try refine ae ?_ ?_)
 ·have M:cA ((s,l),(s2,Z))=false:=by simpa using M
  rw[aT (by simp[M])];refine ah ?_;repeat' (intro h<;>simp only[h,go_sem,go_sem_proc,ig,pR,ue,bs,br,en,eQ,M,cR,av,bC,bP]<;>try refine ae ?_ ?_)
def abY (c:Bool)(v:Rat):ax×Int:=if c=true then (ee v,0) else (bC,6)
def iD (z:Int):Bool:=decide (z.natAbs<cY)
def FE (x y:Rat):Bool:=iD (x.num*y.den)&&(iD (y.num*x.den)&&(iD (x.num*y.den+y.num*x.den)&&iD ((x.den:Int)*y.den)))
def Ui (x y:Rat):Bool:=iD (x.num*y.num)&&iD ((x.den:Int)*y.den)
def Uj (x y:Rat):Bool:=iD (x.num*y.den)&&iD ((x.den:Int)*y.num)
def Au {z:Int}(h:iD z=true):nR z=(bb z,0):=aL (by simpa [iD] using h)
def JC {z:Int}(h:iD z=false):nR z=((0,[]),6):=aT (by simpa [iD] using h)
def Av {z:Int}(h:iD z=true):z.natAbs<cY:=by simpa [iD] using h
def anR {a b c d:Int}(bc:a.natAbs<cY)(U:b.natAbs<cY)(Y:c.natAbs<cY)(af:d.natAbs<cY):
  w2 (bb a) (bb b) (bb c) (bb d)=if (iD (a*b)&&(iD (c*d)&&iD (a*b+c*d)))=true then (bb (a*b+c*d),0) else ((0,[]),6):=by
 unfold w2;rw[yI bc U,yI Y af];rcases F:iD (a*b)
 ·rw[JC F];rfl
 ·rw[Au F];rcases G:iD (c*d)
  ·rw[JC G];rfl
  ·rw[Au G];show lz (bb (a*b)) (bb (c*d))=_;rw[Jq (Av F) (Av G)];rcases ad:iD (a*b+c*d)
   ·rw[JC ad];rfl
   ·rw[Au ad];rfl
def abZ (x y:Rat):lA (x.num*y.den+y.num*x.den) ((x.den:Int)*y.den)=x+y:=by
 rw[<-Rat.divInt_add_divInt _ _ (by have:=den_pos x;omega) (by have:=den_pos y;omega),Jy,Jy]
def anS (x y:Rat):lA (x.num*y.num) ((x.den:Int)*y.den)=x*y:=by
 rw[<-Rat.divInt_mul_divInt,Jy,Jy]
def Cy (x:Rat):(x.den:Int)≠0:=by have:=den_pos x;omega
def anT {x y:Rat}(L:ns x)(ak:ns y):ou (ee x) (ee y)=abY (FE x y) (x+y):=by
 unfold ou;rw[aL (Ct L),aL (Ct ak)];show vj (w2 (bb x.num) (bb y.den) (bb y.num) (bb x.den)) (mulR (bb x.den) (bb y.den))=_;rw[anR L.1 (ru ak) ak.1 (ru L),yI (ru L) (ru ak)];unfold FE;rcases F:iD (x.num*y.den)
 ·rfl
 ·rcases G:iD (y.num*x.den)
  ·rfl
  ·rcases ad:iD (x.num*y.den+y.num*x.den)
   ·rfl
   ·rcases aZ:iD ((x.den:Int)*y.den)
    ·rw[JC aZ];rfl
    ·rw[Au aZ];show ie (bb (x.num*y.den+y.num*x.den)) (bb ((x.den:Int)*y.den))=(ee (x+y),0)
     rw[FA (Av ad) (Av aZ) (Int.mul_ne_zero (Cy x) (Cy y)),abZ]
def ab0 {x:Rat}(h:ns x):ns (-x):=⟨by rw[Rat.neg_num];have:=h.1;omega,by rw[Rat.neg_den];exact h.2⟩
def anU {x y:Rat}(L:ns x)(ak:ns y):kn (ee x) (ee y)=abY (FE x (-y)) (x-y):=by
 unfold kn;rw[aL (Ct L),aL (Ct ak)]
 have:(hy (ee y).1,(ee y).2)=ee (-y):=by
  unfold ee;have:hy (bb y.num)=bb (-y.num):=by unfold hy;rw[aL (jZ ak.1),eK]
  dsimp only;rw[this];rfl
 rw[this,anT L (ab0 ak),Rat.sub_eq_add_neg]
def Of (x y:Rat):Int:=(x.num*y.den-y.num*x.den).sign
def lC (a b:ax):Int:=if cA a=true then (if cA b=true then (gP a.1*gP b.2-gP b.1*gP a.2).sign else 0) else 0
def anV {x y:Rat}(L:ns x)(ak:ns y):lC (ee x) (ee y)=Of x y:=by
 unfold lC;rw[aL (Ct L),aL (Ct ak)];unfold ee Of;rw[eK,eK,eK,eK]
def Og {p q:Int}(aU:0<q):0<=p.fmod q/\p.fmod q<q:=⟨Int.fmod_nonneg_of_pos _ aU,Int.fmod_lt_of_pos _ aU⟩
def ab1 {p q r s:Int}(aU:0<q)(Q:0<s)(h:p.fdiv q<r.fdiv s):p*s-r*q<0:=by
 have aQ:=Oh p q;have az:=Oh r s;have bT:=Og (p:=p) aU;have cB:=Og (p:=r) Q;generalize p.fdiv q=x at *;generalize r.fdiv s=y at *;generalize p.fmod q=u at *;generalize r.fmod s=v at *;subst aQ az;have F:q*s*(x+1)<=q*s*y:=Int.mul_le_mul_of_nonneg_left (by omega) (N3 (Int.mul_pos aU Q));have G:u*s<q*s:=Int.mul_lt_mul_of_pos_right bT.2 Q;have ad:0<=v*q:=sA cB.1 (by omega);have eT:(q*x+u)*s-(s*y+v)*q=q*s*(x+1)-q*s*y+(u*s-q*s)-v*q:=by grind
 omega
def anW {p q r s:Int}(h:p.fdiv q=r.fdiv s):p*s-r*q=p.fmod q*s-r.fmod s*q:=by
 have aQ:=Oh p q;have az:=Oh r s;rw[h] at aQ;generalize r.fdiv s=y at *;generalize p.fmod q=u at *;generalize r.fmod s=v at *;subst aQ az;grind
def ab2 (a b:Int):(a-b).sign = -(b-a).sign:=by rw[<-yH];congr 1;omega
def ab3 {p q:Int}(aR:p.natAbs<cY)(aU:q.natAbs<cY)(au:0<q):
  l1 (p.sign,aH p.natAbs) (q.sign,aH q.natAbs)=(((p.fdiv q).sign,aH (p.fdiv q).natAbs),((p.fmod q).sign,aH (p.fmod q).natAbs),0):=yM aR aU (by omega)
def FF:=bI lB λ(s,l,s2,Z,bU,b1,bW,bZ)=>ca (D l<=1000000/\D Z<=1000000/\D b1<=1000000/\D bZ<=1000000) (.same (.int .i64 (lC ((s,l),(s2,Z)) ((bU,b1),(bW,bZ)))))
@[go_sem] def aAe (s l s2 Z bU b1 bW bZ):=cl FF rfl vk (s,l,s2,Z,bU,b1,bW,bZ) rfl
def anX (T:bj)(ig:T mu=aG vi)(pQ:T BW=aG Jw)(w3:T SH=aG NZ):WF T abQ FF:=by
 refine b7 λ(s,l,s2,Z,bU,b1,bW,bZ)=>cq λY=>⟨rfl,b6 ?_⟩;simp only[abQ,lB,bX];obtain⟨bs,br,en,eQ⟩:=Y
 by_cases M:cA ((s,l),(s2,Z))=true
 ·by_cases aW:cA ((bU,b1),(bW,bZ))=true
  ·obtain⟨x,L,e⟩:=(At _).1 M;obtain⟨y,ak,az⟩:=(At _).1 aW;have hm:lC ((s,l),(s2,Z)) ((bU,b1),(bW,bZ))=Of x y:=by rw[e,az,anV L ak]
   rw[hm];clear hm;have anY:(s,l)=bb x.num:=congrArg nt e;have anZ:(s2,Z)=bb x.den:=congrArg Prod.snd e;have an0:(bU,b1)=bb y.num:=congrArg nt az;have an1:(bW,bZ)=bb y.den:=congrArg Prod.snd az;clear e az;have an2:=ru L;have an3:=ru ak;have JD:=den_pos x;have hM:=den_pos y;have vl:=L.1;have H3:=ak.1;unfold Of;generalize x.num=P at *;generalize (x.den:Int)=a5 at *;generalize y.num=bH at *;generalize (y.den:Int)=S at *
   cases anY
   cases anZ
   cases an0
   cases an1;simp only[go_sem,go_sem_proc,ig,pQ,w3,bs,br,en,eQ,M,aW];refine cX [5,6,7,8] [135002,135003] (λ((ry,p,q,r,t):Int×Int×Int×Int×Int) tm mem=>(ry=1\/ry = -1)/\0<q/\0<t/\p.natAbs<cY/\q.natAbs<cY/\r.natAbs<cY/\t.natAbs<cY/\(P*S-bH*a5).sign=ry*(p*t-r*q).sign/\tm 9=.J (.int .i64 ry)/\mem 135005=some (0,[.J (.int .i64 p.sign),.J (.ar ((aH p.natAbs).map aI))])/\mem 135006=some (0,[.J (.int .i64 q.sign),.J (.ar ((aH q.natAbs).map aI))])/\mem 135007=some (0,[.J (.int .i64 r.sign),.J (.ar ((aH r.natAbs).map aI))])/\mem 135008=some (0,[.J (.int .i64 t.sign),.J (.ar ((aH t.natAbs).map aI))])) (λ(_,_,q,_,_)=>q.natAbs) (1,P,a5,bH,S) (by refine⟨.inl rfl,JD,hM,vl,an2,H3,an3,by rw[oj],rfl,?_,?_,?_,?_⟩<;>rfl) ?_;intro vs ms aK aF;simp only[go_sem,go_sem_proc,ig,pQ,w3] at aK aF;subst aK aF;rintro⟨ry,p,q,r,t⟩ tm mem R hm ⟨yU,lZ,Cz,aR,aU,sM,bN,h8,di,hf,gB,w4,g3⟩;simp only[go_sem,go_sem_proc,ig,pQ,w3,bl] at R hm;obtain⟨bw,bA,bM,cd⟩:=R;have FG:=jc aR;have JE:=jc aU;have JF:=jc sM;have lt:=jc bN;have jY:=ab3 aR aU lZ;have nQ:=ab3 sM bN Cz;have ab4:=Fx (y:=q) aR (by omega);have JG:=Fx (y:=t) sM (by omega);have yV:=jc ab4;have Aw:=jc JG;have eY:pP ((p.fdiv q).sign,aH (p.fdiv q).natAbs) ((r.fdiv t).sign,aH (r.fdiv t).natAbs)=gd (p.fdiv q) (r.fdiv t):=Js ab4 JG;have aAf:=Og (p:=p) lZ;have bv:=Og (p:=r) Cz;have an4:IntKind.i64.wrap (0-ry) = -ry:=by rcases yU with rfl|rfl<;>rfl
   rcases oX (p.fdiv q) (r.fdiv t) with aq|heq|kE
   ·have ao:=ab1 lZ Cz aq;rw[yJ aq] at eY;rw[h8,kJ ao];have hw:IntKind.i64.wrap (ry * -1)=ry * -1:=by rcases yU with rfl|rfl<;>rfl
    refine ah ?_;repeat' (intro h<;>simp only[h,go_sem,go_sem_proc,ig,pQ,w3,bw,bA,bM,cd,di,hm,hf,gB,w4,g3,FG,JE,JF,lt,yV,Aw,jY,nQ,eY,hw,km,b5,show ((-1:Int)==0)=false from rfl]<;>try refine ae ?_ ?_)
   ·have ao:=anW heq;rw[heq,Fv] at eY
    have gp:∀a:Int,-1<=a->a<=1->IntKind.i64.wrap (ry*a)=ry*a:=by
     intro a F G;rcases yU with rfl|rfl<;>exact wrap64 _ (by omega) (by omega)
    rw[heq] at jY yV;have aAg:(p.fmod q).natAbs<cY:=by omega
    have aAh:(r.fmod t).natAbs<cY:=by omega
    rw[ao] at h8;generalize p.fmod q=u at *;generalize r.fmod t=v at *
    by_cases hu:u=0
    ·subst hu
     have Q:(0*t-v*q).sign=(0:Int).sign-v.sign:=by
      rw[yL,ab5,yH,nS,gq lZ,qB,w5,ab5]
     rw[Q] at h8;rw[h8];have ad:=m5 v;have Ao:IntKind.i64.wrap ((0:Int).sign-v.sign)=(0:Int).sign-v.sign:=wrap64 _ (by rw[w5];omega) (by rw[w5];omega);have hw:=gp ((0:Int).sign-v.sign) (by rw[w5];omega) (by rw[w5];omega);refine ah ?_;repeat' (intro h<;>simp only[h,go_sem,go_sem_proc,ig,pQ,w3,bw,bA,bM,cd,di,hm,hf,gB,w4,g3,FG,JE,JF,lt,yV,Aw,jY,nQ,eY,hw,Ao,km,b5,show ((0:Int)==0)=true from rfl,show ((0:Int).sign==0)=true from rfl]<;>try refine ae ?_ ?_)
    ·have Fz:0<u:=by omega
     have ab6:(u.sign==0)=false:=by simpa using hu
     by_cases En:v=0
     ·subst En
      have Q:(u*t-0*q).sign=u.sign-(0:Int).sign:=by
       rw[yL,Af,nS,gq Cz,qB,w5,Af]
      rw[Q] at h8;rw[h8];have ad:=m5 u;have Ao:IntKind.i64.wrap (u.sign-(0:Int).sign)=u.sign-(0:Int).sign:=wrap64 _ (by rw[w5];omega) (by rw[w5];omega);have hw:=gp (u.sign-(0:Int).sign) (by rw[w5];omega) (by rw[w5];omega);refine ah ?_;repeat' (intro h<;>simp only[h,go_sem,go_sem_proc,ig,pQ,w3,bw,bA,bM,cd,di,hm,hf,gB,w4,g3,FG,JE,JF,lt,yV,Aw,jY,nQ,eY,hw,Ao,ab6,km,b5,show ((0:Int)==0)=true from rfl,show ((0:Int).sign==0)=true from rfl]<;>try refine ae ?_ ?_)
     ·have tx:(v.sign==0)=false:=by simpa using En
      refine ah ?_;repeat' (intro h<;>simp only[h,go_sem,go_sem_proc,ig,pQ,w3,bw,bA,bM,cd,di,hm,hf,gB,w4,g3,FG,JE,JF,lt,yV,Aw,jY,nQ,eY,ab6,tx,an4,km,b5,show ((0:Int)==0)=true from rfl]<;>try refine ae ?_ ?_)
      refine⟨(-ry,q,u,t,v),by dsimp only;omega,by dsimp only;omega,by dsimp only;omega,by dsimp only;omega,by dsimp only;omega,by dsimp only;omega,by dsimp only;omega,by dsimp only;omega,?_,by simp[go_sem],by simp[go_sem],by simp[go_sem],by simp[go_sem],by simp[go_sem]⟩
      dsimp only;rw[h8,ab2 (q*v) (t*u),Int.neg_mul_neg,nk t u,nk q v]
   ·have ao:=ab1 Cz lZ kE;rw[Cn kE] at eY;rw[h8,ab2,kJ ao];have hw:IntKind.i64.wrap (ry*1)=ry * -(-1):=by rcases yU with rfl|rfl<;>rfl
    refine ah ?_;repeat' (intro h<;>simp only[h,go_sem,go_sem_proc,ig,pQ,w3,bw,bA,bM,cd,di,hm,hf,gB,w4,g3,FG,JE,JF,lt,yV,Aw,jY,nQ,eY,hw,km,b5,show ((1:Int)==0)=false from rfl]<;>try refine ae ?_ ?_)
  ·have aW:cA ((bU,b1),(bW,bZ))=false:=by simpa using aW
   have hm:lC ((s,l),(s2,Z)) ((bU,b1),(bW,bZ))=0:=by unfold lC;rw[aL M,aT (by simp[aW])]
   rw[hm];refine ah ?_;repeat' (intro h<;>simp only[h,go_sem,go_sem_proc,ig,pQ,w3,bs,br,en,eQ,M,aW]<;>try refine ae ?_ ?_)
 ·have M:cA ((s,l),(s2,Z))=false:=by simpa using M
  have hm:lC ((s,l),(s2,Z)) ((bU,b1),(bW,bZ))=0:=by unfold lC;rw[aT (by simp[M])]
  rw[hm];refine ah ?_;repeat' (intro h<;>simp only[h,go_sem,go_sem_proc,ig,pQ,w3,bs,br,en,eQ,M]<;>try refine ae ?_ ?_)
def ab7:bG:=bV 22 2 [.t 4] (O [cm 3 108003 1,bY 4 false] (.seq (O [aJ 6 1 3,bd 7 .lss 6 0,E 8 7,fA 9 8 1 3,gN 10 8 .gtr 9 40,cF 11 8 10,E 12 11,dK 13 12 0,nJ 14 12 13,fA 15 12 1 3,nK 16 12 .neq 14 15,cF 17 12 16] (bQ 17 [bY 4 false])) (O [aB 5 (.alloc 108005 [.J .rS]),⟨none,none,.store 1 (.t 5) (.c (.ef sr []))⟩] (O [E 18 0,aB 19 (.uI Nm [.t 3,.t 5]),bK 20 Sz 18 19,dT 21 20,E 4 21] .ret))))
def ab8:bG:=bV 48 2 [.t 4,.t 5] (O [cH 4,ba 5 0] (.seq (O [E 11 0,E 12 1,bK 13 Sx 11 12,dT 14 13] (bQ 14 [cH 4,ba 5 1])) (O [E 16 0,E 17 1,aB 18 (.call SA [.t 16,.t 17,.c (.J (.bool true))]),E 15 18,aP 19 0 15,aP 20 1 15,E 6 19,E 7 20] (.seq (.block 0 (O [E 22 6,oT 23 22,aE 24 2 23,aJ 25 1 24,E 21 25] (fj 21 (O [cH 4,ba 5 6] .ret) (O [E 27 7,cg 28 27,bd 29 .gtr 28 0,E 26 29] (bQ 26 [cH 4,ba 5 17]))))) (O [cH 8] (.seq (O [E 30 6,oT 31 30,aE 32 0 31,aJ 33 1 32,cg 34 33,ba 35 0] (.block 1 (.ghost (.mM 8 109045 4) (.loop  (O [bt 36 .lss 35 34] (.seq (de 36 1) (.seq (.block 2 (O [bE 37 1 33 35,aJ 38 1 37,E 10 38] (.ops [E 39 8,E 40 10,E 41 1,bE 42 4 40 41,aD 43 4 42,aB 44 (.dN 109044 false cM 4 1 [(0,4,.t 43)]),aB 45 (.app 109045 cM 64 (.t 39) (.t 44)),E 8 45]))) (.ops [bd 46 .add 35 1,E 35 46])))))))) (O [E 47 8,E 4 47,ba 5 0] .ret)))))))
def ab9:bG:=bV 6 1 [.t 2] (O [cm 1 125001 0,bY 2 false] (O [aD 3 4 1,c8 4 mu 3,dT 5 4,E 2 5] .ret))
def aca:bG:=bV 22 3 [.t 4] (O [cm 3 127003 0,bY 4 false] (O [aE 5 0 3,aJ 6 1 5,cg 7 6,aJ 8 1 1,bt 9 .neq 7 8,E 10 9,fA 11 10 1 2,fr 12 10 1 3,hx 13 10 4 12,fs 14 10 (.jN (.t 11) [.t 13]),cF 15 10 14,E 16 15,fr 17 16 0 3,fA 18 16 1 17,fA 19 16 1 2,fs 20 16 (.call tI [.t 18,.t 19]),cF 21 16 20,E 4 21] .ret))
def Oi:bG:=bV 65 3 [.t 6,.t 7] (O [aB 6 (.iu (.c (.J .qZ))),cH 7] (O [E 13 1,aB 14 (.build [.nil,bn 0,.J (.bool false)] [(1,1,.t 13)]),cm 15 129015 14,E 8 15] (.seq (O [E 16 0,cg 17 16,ba 18 0] (dU 0 (O [bt 19 .lss 18 17] (.seq (de 19 0) (.seq (.block 1 (O [bE 20 5 16 18,aD 21 5 20,bR 10 129010 hJ,a1 5 10 21] (.mN [E 22 8,E 23 8,oT 24 23,aE 25 0 24,aJ 26 1 25,aE 27 0 10,aJ 28 1 27,aB 29 (.lb 129029 4 EP [.t 28]),aE 30 1 10,aD 31 4 30,aB 32 (.dN 129032 false cM 4 1 [(0,4,.t 31)]),aB 33 (.app 129033 cM 64 (.t 29) (.t 32)),aB 34 (.dN 129034 true [.nil] 1 1 [(0,1,.t 33)]),aB 35 (.app 129035 [.nil] 24 (.t 26) (.t 34)),oT 36 22,aE 37 0 36,a1 1 37 35] [[],[],[],[],[],[],[],[4],[],[7],[],[4],[4],[],[],[],[]]))) (.ghost (.move) (.ops [bd 38 .add 18 1,E 18 38]))))))) (O [cH 11] (.seq (O [ba 12 0] (.block 2 (.ghost (.mM 11 129061 1) (.loop  (.seq (O [E 39 12,E 40 1,bt 41 .lss 39 40,E 42 41,ev 43 42 8,fB 44 42 (.uG (.t 43)),hI 45 42 2 44,iz 46 42 1 45,Nw 47 42 46,fF 48 42 47] (de 48 2)) (.seq (.block 3 (O [E 51 8,E 52 12,E 53 11,cg 54 53,bt 55 .sub 52 54,E 56 12,yr 57 SF 51 55 56] (fj 57 (O [E 58 11,E 59 12,aB 60 (.dN 129060 false [bn 0] 1 1 [(0,1,.t 59)]),aB 61 (.app 129061 [bn 0] 8 (.t 58) (.t 60)),E 11 61] (O [E 62 2] (fj 62 (.exit 2) .skip))) .skip))) (.ops [E 49 12,bd 50 .add 49 1,E 12 50]))))))) (O [E 63 8,E 64 11,E 6 63,E 7 64] .ret))))))
def w6:bG:=bV 172 3 [.t 6] (O [bY 6 false] (O [E 15 1,E 7 15] (.seq (dU 0 (.seq (O [E 16 7,E 17 0,oT 18 17,aE 19 1 18,aJ 20 1 19,bt 21 .lss 16 20,E 22 21,ev 23 22 0,fB 24 22 (.uG (.t 23)),hI 25 22 0 24,iz 26 22 1 25,ev 27 22 7,rn 28 22 1 26 27,iz 29 22 1 28,ev 30 22 2,rn 31 22 4 29 30,Ca 32 22 4 31,fB 33 22 (.call IJ [.t 32]),fF 34 22 33] (de 34 0)) (.block 1 (.ops [E 35 7,bd 36 .add 35 1,E 7 36])))) (.seq (O [E 37 7,E 38 0,oT 39 38,aE 40 1 39,aJ 41 1 40,bt 42 .eql 37 41] (bQ 42 [bY 6 true])) (e3 [E 43 0,oT 44 43,aE 45 0 44,aJ 46 1 45,E 47 1,E 48 0,oT 49 48,aE 50 0 49,aJ 51 1 50,E 52 7,E 53 0,oT 54 53,aE 55 0 54,aJ 56 1 55,E 57 7,bE 58 1 56 57,aJ 59 1 58,E 60 0,oT 61 60,aE 62 0 61,aJ 63 1 62,E 64 1,bE 65 1 63 64,aJ 66 1 65,bE 67 1 46 47,a1 1 67 59,bE 68 1 51 52,a1 1 68 66] alK (O [E 69 0,oT 70 69,aE 71 0 70,aJ 72 1 71,E 73 1,bE 74 1 72 73,aJ 75 1 74,E 76 2,bE 77 4 75 76,aD 78 4 77,bR 8 148008 cM,a1 4 8 78] (.seq (O [E 79 0,oT 80 79,aE 81 0 80,aJ 82 1 81,E 83 1,bE 84 1 82 83,aJ 85 1 84,cg 86 85,ba 87 0] (dU 2 (O [bt 88 .lss 87 86] (.seq (de 88 2) (.seq (.block 3 (O [E 89 87,bE 90 4 85 87,aD 91 4 90,bR 10 148010 cM,E 9 89,a1 4 10 91] (.mN [E 92 0,oT 93 92,aE 94 0 93,aJ 95 1 94,E 96 1,bE 97 1 95 96,aJ 98 1 97,E 99 9,E 100 0,aD 101 4 10,aD 102 4 8,bK 103 EU 101 102,aP 104 0 103,aP 105 1 103,aB 106 (.kQ 2 z7 [.t 100,.t 104,.t 105]),bE 107 4 98 99,a1 4 107 106] [[],[],[],[],[],[],[],[],[],[],[],[],[],[],[3,6],[],[]]))) (.ops [bd 108 .add 87 1,E 87 108])))))) (.seq (O [E 109 0,oT 110 109,aE 111 0 110,aJ 112 1 111,cg 113 112,ba 114 0] (dU 4 (O [bt 115 .lss 114 113] (.seq (de 115 4) (.seq (.block 5 (O [E 116 114,bE 117 1 112 114,aJ 118 1 117,E 11 116,E 12 118] (O [E 119 12,E 120 2,bE 121 4 119 120,aD 122 4 121,bR 13 148013 cM,a1 4 13 122] (.seq (O [E 123 11,E 124 1,bt 125 .eql 123 124,E 126 125,hx 127 126 4 13,fs 128 126 (.call IJ [.t 127]),cF 129 126 128] (fj 129 (.exit 5) .skip)) (O [ba 14 0] (dU 6 (.seq (O [E 130 14,E 131 12,cg 132 131,bt 133 .lss 130 132,E 134 133,ev 135 134 0,fB 136 134 (.uG (.t 135)),hI 137 134 2 136,iz 138 134 1 137,Nw 139 134 138,fF 140 134 139] (de 140 6)) (.seq (.block 7 (.mN [E 143 12,E 144 14,E 145 0,E 146 12,E 147 14,bE 148 4 146 147,aD 149 4 148,E 150 0,aD 151 4 13,E 152 0,oT 153 152,aE 154 0 153,aJ 155 1 154,E 156 1,bE 157 1 155 156,aJ 158 1 157,E 159 14,bE 160 4 158 159,aD 161 4 160,bK 162 yn 151 161,aP 163 0 162,aP 164 1 162,aB 165 (.kQ 2 z7 [.t 150,.t 163,.t 164]),bK 166 BU 149 165,aP 167 0 166,aP 168 1 166,aB 169 (.kQ 2 z7 [.t 145,.t 167,.t 168]),bE 170 4 143 144,a1 4 170 169] [[],[],[],[],[],[],[],[],[],[],[],[],[],[],[],[],[],[],[],[],[],[],[6],[],[],[],[],[],[]])) (.ops [E 141 14,bd 142 .add 141 1,E 14 142]))))))))) (.ops [bd 171 .add 114 1,E 114 171])))))) (O [bY 6 false] .ret)))))))))
def acb:bG:=bV 7 1 [.t 2] (O [cm 1 167001 0,bY 2 false] (O [aE 3 0 1,aE 4 0 3,aJ 5 1 4,bd 6 .eql 5 0,E 2 6] .ret))
def Oj:bG:=bV 19 3 [.cell 6 4 true] (O [cm 4 168004 1,bR 6 168006 cM] (O [E 7 0,E 8 0,oT 9 8,aE 10 2 9,aJ 11 1 10,E 12 11,dK 13 12 2,gN 14 12 .neq 13 0,cF 15 12 14,oT 16 7,aE 17 2 16,a1 1 17 15] (O [aD 18 4 4,a1 4 6 18] .ret)))


def acd:bG:=bV 69 2 [.t 4,.t 5,.t 6] (O [cH 4,cH 5,ba 6 0] (.seq (O [E 16 0,E 17 1,bK 18 B5 16 17,dT 19 18] (bQ 19 [cH 4,cH 5,ba 6 1])) (O [aB 20 (.call tL [.c (bn 1)]),aB 21 (.dN 386021 false cM 4 1 [(0,4,.t 20)]),E 22 1,bK 23 EN 21 22,aB 24 (.call tL [.c (bn 0)]),aB 25 (.dN 386025 false cM 4 1 [(0,4,.t 24)]),E 26 1,bK 27 EN 25 26,E 28 0,aB 29 (.build yq [(0,1,.t 23),(1,1,.t 27),(2,1,.t 28)]),bR 7 386007 yq,a1 3 7 29] (O [aD 31 3 7,c8 32 yp 31,E 30 32,aP 33 0 30,aP 34 1 30,aP 35 2 30,E 8 33,E 9 34,E 10 35] (.seq (O [E 36 10,bd 37 .neq 36 0] (bQ 37 [E 38 10,cH 4,cH 5,E 6 38])) (.seq (O [E 39 8,aB 40 (.call tI [.t 39,.c (.ef u9 [])])] (bQ 40 [E 41 8,cH 4,E 5 41,ba 6 16])) (O [cH 11] (.seq (O [E 42 1,ba 43 0] (.block 0 (.ghost (.mM 11 386059 5) (.loop  (O [bt 44 .lss 43 42] (.seq (de 44 0) (.seq (.block 1 (O [E 45 43,E 12 45] (O [aB 47 (.call tL [.c (bn 1)]),E 48 0,E 49 1,E 50 12,oU 51 IV 47 48 49 50,E 46 51,aP 52 0 46,aP 53 1 46,bR 13 386013 hJ,a1 5 13 52,E 14 53] (.seq (O [E 54 14,dT 55 54] (bQ 55 [cH 4,cH 5,ba 6 6])) (.ops [E 56 11,aD 57 5 13,aB 58 (.dN 386058 false hJ 5 1 [(0,5,.t 57)]),aB 59 (.app 386059 hJ 88 (.t 56) (.t 58)),E 11 59]))))) (.ops [bd 60 .add 43 1,E 43 60])))))))) (.seq (.ghost (.freeze 11) (.ops [E 62 11,E 63 1,bK 64 IA 62 63,E 61 64,aP 65 0 61,aP 66 1 61,E 15 65,E 10 66])) (O [E 67 15,E 68 10,E 4 67,cH 5,E 6 68] .ret))))))))))
def ace:bG:=bV 7 1 [.t 2] (O [cm 1 387001 0,bY 2 false] (O [aE 3 0 1,aE 4 0 3,aJ 5 1 4,bd 6 .neq 5 0,E 2 6] .ret))
def acf:bG:=bV 49 3 [.t 6] (O [bY 6 false] (.seq (O [E 11 0,E 12 1,bK 13 B5 11 12,dT 14 13,E 15 14,dK 16 15 2,nJ 17 15 16,dK 18 15 1,nK 19 15 .neq 17 18,cF 20 15 19,E 21 20,dK 22 21 2,fs 23 21 (.call tI [.t 22,.c (.ef va [])]),cF 24 21 23] (bQ 24 [bY 6 false])) (.seq (O [E 25 2,cg 26 25,ba 27 0] (dU 0 (O [bt 28 .lss 27 26] (.seq (de 28 0) (.seq (.block 1 (O [E 29 27,bE 30 4 25 27,aD 31 4 30,bR 8 388008 cM,E 7 29,a1 4 8 31] (O [aB 33 (.call tL [.c (bn 0)]),E 34 0,E 35 2,E 36 7,oU 37 B2 33 34 35 36,E 32 37,aP 38 0 32,aP 39 1 32,bR 9 388009 cM,a1 4 9 38,E 10 39] (O [E 40 10,dT 41 40,E 42 41,hx 43 42 4 8,hx 44 42 4 9,fs 45 42 (.call z6 [.t 43,.t 44]),gN 46 42 .leq 45 0,cF 47 42 46] (bQ 47 [bY 6 false]))))) (.ops [bd 48 .add 27 1,E 27 48])))))) (O [bY 6 true] .ret))))
def acg:bG:=bV 12 1 [.t 2] (O [cm 1 389001 0,bY 2 false] (O [aD 3 4 1,c8 4 B3 3,dT 5 4,E 6 5,fr 7 6 0 1,fr 8 6 0 7,fA 9 6 1 8,gN 10 6 .eql 9 0,cF 11 6 10,E 2 11] .ret))
def ach:bG:=bV 60 2 [.t 4] (O [cm 2 390002 0,bY 4 false] (.seq (O [aD 9 3 2,c8 10 B4 9,dT 11 10,E 12 11,dK 13 12 1,nJ 14 12 13,fr 15 12 0 2,fA 16 12 1 15,nJ 17 12 16,nK 18 12 .neq 14 17,cF 19 12 18,E 20 19,dK 21 20 1,fs 22 20 (.call tI [.t 21,.c (.ef wI [])]),cF 23 20 22] (bQ 23 [bY 4 false])) (.seq (O [aE 24 0 2,aJ 25 1 24,cg 26 25,ba 27 0] (dU 0 (O [bt 28 .lss 27 26] (.seq (de 28 0) (.seq (.block 1 (O [E 29 27,bE 30 4 25 27,aD 31 4 30,bR 6 390006 cM,E 5 29,a1 4 6 31] (e3 [aE 33 1 2,aJ 34 1 33,E 35 5,bE 36 4 34 35,aD 37 4 36,aE 38 2 2,aJ 39 1 38,E 40 1,E 41 5,oU 42 B2 37 39 40 41,E 32 42,aP 43 0 32,aP 44 1 32,bR 7 390007 cM,a1 4 7 43,E 8 44] [[],[],[],[],[],[],[],[],[],[],[],[],[],[1,4,6],[],[]] (.seq (O [E 45 8,dT 46 45] (bQ 46 [bY 4 false])) (.seq (O [aD 47 4 7,aD 48 4 6,bK 49 z6 47 48,bd 50 .gtr 49 0] (fj 50 (.ops [aD 51 4 6,a1 4 7 51]) .skip)) (e3 [aD 52 4 7,E 53 1,E 54 5,bE 55 4 53 54,aD 56 4 55,bK 57 z6 52 56,bd 58 .neq 57 0] E4 (bQ 58 [bY 4 false]))))))) (.ops [bd 59 .add 27 1,E 27 59])))))) (O [bY 4 true] .ret))))
def aci:bG:=bV 6 1 [.t 2] (O [cm 1 391001 0,bY 2 false] (O [aD 3 4 1,c8 4 mu 3,dT 5 4,E 2 5] .ret))
def acj:bG:=bV 93 1 [.t 2,.t 3,.t 4] (O [cm 1 392001 0,cH 2,cH 3,ba 4 0] (.seq (O [aD 15 3 1,c8 16 B4 15,dT 17 16] (bQ 17 [cH 2,cH 3,ba 4 1])) (O [aE 18 0 1,aJ 19 1 18,cg 20 19,aB 21 (.la 392021 [.J (.bool false)] 1 (.t 20) (.t 20)),aB 5 (.alloc 392005 [.nil]),a1 1 5 21] (.seq (O [aB 6 (.alloc 392006 [.J (.bool false)]),⟨none,none,.store 1 (.t 6) (.c (.J (.bool true)))⟩] (dU 0 (.seq (O [aJ 22 1 6] (de 22 0)) (.seq (.block 1 (O [⟨none,none,.store 1 (.t 6) (.c (.J (.bool false)))⟩] (O [aB 23 (.uI SY [.t 5,.t 1,.t 6]),E 7 23] (.seq (O [aE 24 1 1,aJ 25 1 24,cg 26 25,ba 27 0] (dU 2 (O [bt 28 .lss 27 26] (.seq (de 28 2) (.seq (.block 3 (O [E 29 27,bE 30 4 25 27,aD 31 4 30,bR 9 392009 cM,E 8 29,a1 4 9 31] (O [aE 32 0 9,aE 33 0 32,aJ 34 1 33,bd 35 .gtr 34 0] (fj 35 (.ops [E 36 7,E 37 8,aB 38 (.jN (.t 36) [.t 37])]) .skip)))) (.ops [bd 39 .add 27 1,E 27 39])))))) (O [aE 40 2 1,aJ 41 1 40,cg 42 41,ba 43 0] (dU 4 (O [bt 44 .lss 43 42] (.seq (de 44 4) (.seq (.block 5 (O [bE 45 6 41 43,aD 46 6 45,aB 11 (.alloc 392011 [bn 0,bn 0,bn 0,.nil,bn 0,.nil]),a1 6 11 46] (O [aJ 47 1 5,aE 48 0 11,aJ 49 1 48,bE 50 1 47 49,aJ 51 1 50,E 52 51,hI 53 52 2 11,hI 54 52 0 53,hI 55 52 0 54,iz 56 52 1 55,kj 57 52 .gtr 56 0,fF 58 52 57] (fj 58 (.ops [E 59 7,aE 60 1 11,aJ 61 1 60,aB 62 (.jN (.t 59) [.t 61])]) .skip)))) (.ops [bd 63 .add 43 1,E 43 63])))))))))) (O [aJ 64 1 6] (.ops [aB 6 (.alloc 392006 [.J (.bool false)]),a1 1 6 64])))))) (e3 [aE 65 0 1,aJ 66 1 65,aB 67 (.lb 392067 4 EP [.t 66]),aE 68 1 1,aJ 69 1 68,aE 70 2 1,aJ 71 1 70,aB 72 (.build yq [(0,1,.t 67),(1,1,.t 69),(2,1,.t 71)]),bR 12 392012 yq,a1 3 12 72] [[],[],[],[],[2],[],[2],[],[1,2,4,6],[]] (.seq (O [aJ 73 1 5,cg 74 73,ba 75 0] (dU 6 (O [bt 76 .lss 75 74] (.seq (de 76 6) (.seq (.block 7 (O [E 77 75,bE 78 1 73 75,aJ 79 1 78,E 13 77,E 14 79] (O [E 80 14,dT 81 80] (fj 81 (.mN [aE 82 0 12,aJ 83 1 82,E 84 13,aB 85 (.call tL [.c (bn 0)]),bE 86 4 83 84,a1 4 86 85] Nx) .skip)))) (.ops [bd 87 .add 75 1,E 75 87])))))) (.seq (.ghost (.Md (.t 12) 0) (.ops [aD 88 3 12,c8 89 yp 88,aP 90 0 89,aP 91 1 89,aP 92 2 89,E 2 90,E 3 91,E 4 92])) .ret)))))))
def Ok:bG:=bV 23 4 [] (O [aJ 5 1 1,E 6 0,bE 7 1 5 6,aJ 8 1 7,dT 9 8,E 10 9,hI 11 10 0 2,iz 12 10 1 11,ev 13 10 0,rn 14 10 4 12 13,hI 15 10 0 14,hI 16 10 0 15,iz 17 10 1 16,kj 18 10 .gtr 17 0,fF 19 10 18] (fj 19 (.ops [aJ 20 1 1,E 21 0,bE 22 1 20 21,⟨none,none,.store 1 (.t 22) (.c (.J (.bool true)))⟩,⟨none,none,.store 1 (.t 3) (.c (.J (.bool true)))⟩]) .skip))
def ack:bG:=bV 86 1 [.t 2,.t 3,.t 4] (O [cm 1 394001 0,cH 2,cH 3,ba 4 0] (.seq (O [aD 16 3 1,c8 17 B4 16,dT 18 17] (bQ 18 [cH 2,cH 3,ba 4 1])) (O [aE 19 0 1,aJ 20 1 19,cg 21 20,aB 22 (.la 394022 [.J (.bool false)] 1 (.t 21) (.t 21)),E 5 22] (O [cH 6] (.block 0 (.ghost (.mM 6 394085 1) (.loop  (.block 1 (O [aD 24 3 1,E 25 5,bK 26 S0 24 25,E 23 26,aP 27 0 23,aP 28 1 23,E 7 27,E 8 28] (.seq (O [E 29 8,dT 30 29] (bQ 30 [cH 2,cH 3,ba 4 6])) (O [cH 9] (.seq (O [aE 31 0 1,aJ 32 1 31,cg 33 32,ba 34 0] (.block 2 (.ghost (.mM 9 394065 1) (.loop  (O [bt 35 .lss 34 33] (.seq (de 35 2) (.seq (.block 3 (O [E 36 34,bE 37 4 32 34,aD 38 4 37,bR 11 394011 cM,E 10 36,a1 4 11 38] (.seq (O [E 39 5,E 40 10,bE 41 1 39 40,aJ 42 1 41] (fj 42 (.exit 3) .skip)) (e3 [aE 44 1 1,aJ 45 1 44,E 46 10,bE 47 4 45 46,aD 48 4 47,aE 49 2 1,aJ 50 1 49,E 51 7,E 52 10,oU 53 B2 48 50 51 52,E 43 53,aP 54 0 43,aP 55 1 43,bR 12 394012 cM,a1 4 12 54,E 13 55] [[],[],[],[],[],[],[],[],[],[],[],[],[],[1,4,6],[],[]] (.seq (O [E 56 13,dT 57 56] (bQ 57 [cH 2,cH 3,ba 4 6])) (O [aD 58 4 12,aD 59 4 11,bK 60 z6 58 59,bd 61 .lss 60 0] (fj 61 (.ops [E 62 9,E 63 10,aB 64 (.dN 394064 false [bn 0] 1 1 [(0,1,.t 63)]),aB 65 (.app 394065 [bn 0] 8 (.t 62) (.t 64)),E 9 65]) .skip))))))) (.ops [bd 66 .add 34 1,E 34 66])))))))) (.seq (O [E 67 9,cg 68 67,bd 69 .eql 68 0] (bQ 69 [E 70 7,E 71 6,E 2 70,E 3 71,ba 4 0])) (.seq (O [E 72 9,cg 73 72,ba 74 0] (dU 4 (O [bt 75 .lss 74 73] (.seq (de 75 4) (.seq (.block 5 (O [bE 76 1 72 74,aJ 77 1 76,E 15 77] (.ops [E 78 5,E 79 15,bE 80 1 78 79,⟨none,none,.store 1 (.t 80) (.c (.J (.bool true)))⟩]))) (.ops [bd 81 .add 74 1,E 74 81])))))) (.ghost (.freeze 9) (.ops [E 82 6,E 83 9,aB 84 (.dN 394084 false [.nil] 1 1 [(0,1,.t 83)]),aB 85 (.app 394085 [.nil] 24 (.t 82) (.t 84)),E 6 85]))))))))))))))))
def acm:bG:=bV 59 4 [.cell 8 5 true,.t 9] (O [cm 4 395004 0,bR 8 395008 hJ,bY 9 false] (e3 [aB 15 (.call tL [.c (bn 0)]),aB 16 (.dN 395016 false cM 4 1 [(0,4,.t 15)]),E 17 2,aB 18 (.lb 395018 4 EN [.t 16,.t 17]),aD 19 4 4,aB 20 (.build hJ [(0,1,.t 18),(1,4,.t 19)]),bR 10 395010 hJ,a1 5 10 20] [[],[],[],[],[3],[],[3,4],[]] (e3 [aE 21 0 10,aJ 22 1 21,E 23 3,aB 24 (.call tL [.c (bn 1)]),bE 25 4 22 23,a1 4 25 24] Nx (.seq (O [E 26 1,cg 27 26,ba 28 0] (dU 0 (O [bt 29 .lss 28 27] (.seq (de 29 0) (.seq (.block 1 (O [bE 30 6 26 28,aD 31 6 30,aB 12 (.alloc 395012 [bn 0,bn 0,bn 0,.nil,bn 0,.nil]),a1 6 12 31] (.seq (O [aE 32 1 12,aJ 33 1 32,E 34 3,bt 35 .neq 33 34] (fj 35 (.exit 1) .skip)) (e3 [aE 37 0 10,aJ 38 1 37,aE 39 0 12,aJ 40 1 39,bE 41 4 38 40,aD 42 4 41,aE 43 2 12,aD 44 4 43,bK 45 BU 42 44,E 36 45,aP 46 0 36,aP 47 1 36,bR 13 395013 cM,a1 4 13 46,E 14 47] [[],[],[],[],[],[],[],[],[],[],[],[],[1,3,5,7],[],[]] (.seq (O [E 48 14,bd 49 .neq 48 0] (bQ 49 [aB 50 (.build hJ []),a1 5 8 50,bY 9 false])) (.ops [aE 51 0 10,aJ 52 1 51,aE 53 0 12,aJ 54 1 53,aD 55 4 13,bE 56 4 52 54,a1 4 56 55])))))) (.ops [bd 57 .add 28 1,E 28 57])))))) (O [aD 58 5 10,a1 5 8 58,bY 9 true] .ret)))))
def acn:bG:=bV 34 4 [.cell 8 4 true,.t 9] (O [cm 4 396004 0,cm 6 396006 2,bR 8 396008 cM,bY 9 false] (O [aB 10 (.alloc 396010 [.J (.bool false)]),⟨none,none,.store 1 (.t 10) (.c (.J (.bool true)))⟩] (O [aB 14 (.uI SZ [.t 6,.t 4,.t 10]),E 11 14] (.seq (O [E 15 1,cg 16 15,ba 17 0] (dU 0 (O [bt 18 .lss 17 16] (.seq (de 18 0) (.seq (.block 1 (O [bE 19 6 15 17,aD 20 6 19,aB 13 (.alloc 396013 [bn 0,bn 0,bn 0,.nil,bn 0,.nil]),a1 6 13 20] (O [aE 21 1 13,aJ 22 1 21,E 23 3,bt 24 .eql 22 23,E 25 24,iz 26 25 1 10,fF 27 25 26] (fj 27 (.ops [E 28 11,aD 29 6 13,aB 30 (.jN (.t 28) [.t 29])]) .skip)))) (.ops [bd 31 .add 17 1,E 17 31])))))) (e3 [aD 32 4 4,aJ 33 1 10,a1 4 8 32,E 9 33] [[],[],[1],[]] .ret)))))
def Ol:bG:=bV 36 4 [] (O [cm 4 397004 0] (e3 [aE 10 2 4,aD 11 4 10,aJ 12 1 1,aE 13 0 4,aJ 14 1 13,bE 15 4 12 14,aD 16 4 15,bK 17 yn 11 16,E 9 17,aP 18 0 9,aP 19 1 9,bR 5 397005 cM,a1 4 5 18,E 6 19] [[],[],[],[],[],[],[],[],[],[],[],[1,2,4,6],[],[]] (O [aD 21 4 2,aD 22 4 5,bK 23 BT 21 22,E 20 23,aP 24 0 20,aP 25 1 20,bR 7 397007 cM,a1 4 7 24,E 8 25] (O [aJ 26 1 3,E 27 26,ev 28 27 6,kj 29 27 .eql 28 0,fF 30 27 29,E 31 30,ev 32 31 8,kj 33 31 .eql 32 0,fF 34 31 33,a1 1 3 34] (.ops [aD 35 4 7,a1 4 2 35])))))
def aco:bG:=bV 11 1 [.t 2] (O [cm 1 398001 0,bY 2 false] (O [aD 3 4 1,c8 4 mu 3,E 5 4,hI 6 5 0 1,hI 7 5 0 6,iz 8 5 1 7,kj 9 5 .geq 8 0,fF 10 5 9,E 2 10] .ret))
def acp:bG:=bV 33 1 [.t 2] (O [cm 1 399001 0,bY 2 false] (O [aB 3 (.iu (.c (.ef vb [])))] (O [aE 4 0 1,aJ 5 1 4,cg 6 5,aE 7 1 1,aJ 8 1 7,cg 9 8,bt 10 .eql 6 9,E 11 10,hI 12 11 2 1,iz 13 11 1 12,hI 14 11 0 1,iz 15 11 1 14,Tc 16 11 15,fB 17 11 (.call B5 [.t 13,.t 16]),fF 18 11 17,E 19 18,hI 20 19 0 1,iz 21 19 1 20,ev 22 19 3,fB 23 19 (.call tI [.t 21,.t 22]),Nw 24 19 23,fF 25 19 24,E 26 25,hI 27 26 1 1,iz 28 26 1 27,ev 29 26 3,fB 30 26 (.call tI [.t 28,.t 29]),Nw 31 26 30,fF 32 26 31,E 2 32] .ret)))
def acq:bG:=bV 6 1 [.t 2] (O [cm 1 400001 0,bY 2 false] (O [aD 3 4 1,c8 4 B3 3,dT 5 4,E 2 5] .ret))
def acr:bG:=bV 20 2 [.t 4] (O [cm 3 401003 1,bY 4 false] (.seq (O [aJ 5 1 3,bd 6 .lss 5 0,E 7 6,fA 8 7 1 3,gN 9 7 .gtr 8 40,cF 10 7 9,E 11 10,dK 12 11 0,nJ 13 11 12,gN 14 11 .gtr 13 400,cF 15 11 14] (bQ 15 [bY 4 false])) (O [E 16 0,aB 17 (.uI Nu [.t 3]),bK 18 Ta 16 17,dT 19 18,E 4 19] .ret)))
def acs:bG:=bV 30 2 [.t 3] (O [cm 2 402002 0,bY 3 false] (O [aE 4 0 2,aJ 5 1 4,bd 6 .lss 5 0,E 7 6,fr 8 7 0 2,fA 9 7 1 8,fA 10 7 1 1,nK 11 7 .geq 9 10,cF 12 7 11,E 13 12,fr 14 13 1 2,fA 15 13 1 14,gN 16 13 .lss 15 0,cF 17 13 16,E 18 17,fr 19 18 1 2,fA 20 18 1 19,fA 21 18 1 1,nK 22 18 .geq 20 21,cF 23 18 22,E 24 23,fr 25 24 2 2,hx 26 24 4 25,fs 27 24 (.call B3 [.t 26]),ib 28 24 27,cF 29 24 28,E 3 29] .ret))
def Om:bG:=bV 62 2 [.t 4,.t 5] (O [cm 2 403002 0,cH 4,bY 5 false] (O [aE 15 0 2,aJ 16 1 15,cg 17 16,E 6 17] (O [cH 7] (.seq (O [E 18 6,ba 19 0] (.block 0 (.ghost (.mM 7 403051 5) (.loop  (O [bt 20 .lss 19 18] (.seq (de 20 0) (.seq (.block 1 (O [E 21 19,E 8 21] (O [aE 22 0 2,aJ 23 1 22,E 24 8,bE 25 4 23 24,aD 26 4 25,bR 9 403009 cM,a1 4 9 26,cH 10] (.seq (O [E 27 1,E 28 8,bE 29 1 27 28,aJ 30 1 29] (fj 30 (.mN [aE 31 1 2,aJ 32 1 31,E 33 8,bE 34 4 32 33,aD 35 4 34,aE 36 2 2,aJ 37 1 36,a1 4 9 35,E 10 37] [[],[],[],[],[],[],[],[6],[]]) .skip)) (O [aD 39 4 9,E 40 10,E 41 6,E 42 8,oU 43 IV 39 40 41 42,E 38 43,aP 44 0 38,aP 45 1 38,bR 11 403011 hJ,a1 5 11 44,E 12 45] (.seq (O [E 46 12,dT 47 46] (bQ 47 [cH 4,bY 5 false])) (.ops [E 48 7,aD 49 5 11,aB 50 (.dN 403050 false hJ 5 1 [(0,5,.t 49)]),aB 51 (.app 403051 hJ 88 (.t 48) (.t 50)),E 7 51]))))))) (.ops [bd 52 .add 19 1,E 19 52])))))))) (.seq (.ghost (.freeze 7) (.ops [E 54 7,E 55 6,bK 56 IA 54 55,E 53 56,aP 57 0 53,aP 58 1 53,E 13 57,E 14 58])) (O [E 59 13,E 60 14,bd 61 .eql 60 0,E 4 59,E 5 61] .ret))))))
def acu:bG:=bV 11 1 [.cell 2 4 true] (O [bR 2 404002 cM] (O [E 6 0,aB 7 (.call ID [.t 6,.c (bn 1)]),E 5 7,aP 8 0 5,aP 9 1 5,bR 3 404003 cM,a1 4 3 8,E 4 9] (O [aD 10 4 3,a1 4 2 10] .ret)))
abbrev cb:=List ax×ax
def cG (r:cb):List Data:=.ar (r.1.map av)::av r.2
def jt (f:ax):(av f).length=4:=rfl
def m6 (r:cb):(cG r).length=5:=rfl
def vm (f:ax):((av f).map I.J).all I.one=true:=rfl
def j1:∀a b:ax,av a=av b->a=b:=by
 rintro⟨⟨s,l⟩,⟨s2,Z⟩⟩ ⟨⟨t,m⟩,⟨t2,b0⟩⟩ h;simp only[av,bl,Data.int.injEq,Data.ar.injEq,true_and,and_true] at h;obtain⟨rfl,F,rfl,G⟩:=h;rw[map_inj fX _ _ F,map_inj fX _ _ G]
def Ax:∀a b:cb,cG a=cG b->a=b:=by
 rintro⟨a,b⟩ ⟨c,d⟩ h;simp only[cG,bl,Data.ar.injEq] at h;rw[map_inj j1 _ _ h.1,j1 _ _ h.2]
def okF (f:ax):Prop:=f.1.2.length<=1000000/\f.2.2.length<=1000000
def ih (l:List ax):Prop:=D l<=1000000/\∀f∈l,okF f
def lD (r:cb):Prop:=ih r.1/\okF r.2
def qK (rs:List cb):Prop:=D rs<=1000000/\∀r∈rs,lD r
def JH:=bI k4 λ(s,l,s2,Z)=>ca (D l<=1000000/\D Z<=1000000) (.same (.bool (!cA ((s,l),(s2,Z)))))
@[go_sem] def an5 (s l s2 Z):=cl JH rfl ud (s,l,s2,Z) rfl
def an6 (T:bj)(ig:T mu=aG vi):WF T ab9 JH:=by
 refine b7 λ(s,l,s2,Z)=>cq λY=>⟨rfl,b6 ?_⟩;simp only[ab9,k4,bX];obtain⟨bs,br⟩:=Y;refine ah ?_;repeat' (intro h<;>simp only[h,go_sem,go_sem_proc,ig,bs,br]<;>try refine ae ?_ ?_)
def acv:=bI k4 λ(s,l,s2,Z)=>ca (D l<=1000000/\D Z<=1000000) (.same (.bool (!cA ((s,l),(s2,Z))||decide (s<0))))
@[go_sem] def an7 (s l s2 Z):=cl acv rfl ud (s,l,s2,Z) rfl
abbrev Uk:Int×(List Int)×Int×(List Int)->List Data:=λ(s,l,s2,Z)=>[.agg [.int .i64 s,.ar (l.map aI),.int .i64 s2,.ar (Z.map aI)],.ptr [.fn ZU []]]
def acw:=bI Uk λ(s,l,s2,Z)=>ca (D l<=1000000/\D Z<=1000000) (.same (.bool (!(cA ((s,l),(s2,Z))&&decide (s>=0)))))
def an8:∀a b,Uk a=Uk b->a=b:=by
  rintro⟨s1,hZ,tY,sG⟩ ⟨s2,Z,tZ,sH⟩ h;simp only[bl,Data.agg.injEq,Data.int.injEq,Data.ar.injEq] at h;exact cz h.1.1.2 (cz (map_inj fX _ _ h.1.2.1) (cz h.1.2.2.1.2 (map_inj fX _ _ h.1.2.2.2.1)))
@[go_sem] def an9 (s l s2 Z):=cl acw rfl an8 (s,l,s2,Z) rfl
def g4 (f:ax):Bool:=cA f&&decide (f.1.1>=0)
def FH:=bI k4 λ(s,l,s2,Z)=>ca (D l<=1000000/\D Z<=1000000) (.same (.bool (g4 ((s,l),(s2,Z)))))
@[go_sem] def aAi (s l s2 Z):=cl FH rfl ud (s,l,s2,Z) rfl
def aoa (T:bj)(ig:T mu=aG vi):WF T aco FH:=by
 refine b7 λ(s,l,s2,Z)=>cq λY=>⟨rfl,b6 ?_⟩;simp only[aco,k4,bX];obtain⟨bs,br⟩:=Y;unfold g4;rcases M:cA ((s,l),(s2,Z))
 ·refine ah ?_;repeat' (intro h<;>simp only[h,go_sem,go_sem_proc,ig,bs,br,M]<;>try refine ae ?_ ?_)
 ·refine ah ?_;repeat' (intro h<;>simp only[h,go_sem,go_sem_proc,ig,bs,br,M]<;>try refine ae ?_ ?_)
def On:=bI k4 λ(s,l,s2,Z)=>ca (D l<=1000000/\D Z<=1000000) (.same (.bool (!g4 ((s,l),(s2,Z)))))
@[go_sem] def aob (s l s2 Z):=cl On rfl ud (s,l,s2,Z) rfl
def aoc (T:bj)(w7:T B3=aG FH):WF T acq On:=by
 refine b7 λ(s,l,s2,Z)=>cq λY=>⟨rfl,b6 ?_⟩;simp only[acq,k4,bX];obtain⟨bs,br⟩:=Y;refine ah ?_;repeat' (intro h<;>simp only[h,go_sem,go_sem_proc,w7,bs,br]<;>try refine ae ?_ ?_)
def Oo:=bI k4 λ(s,l,s2,Z)=>ca (D l<=1000000/\D Z<=1000000) (.same (.bool (!cA ((s,l),(s2,Z)))))
@[go_sem] def aod (s l s2 Z):=cl Oo rfl ud (s,l,s2,Z) rfl
def aoe (T:bj)(ig:T mu=aG vi):WF T aci Oo:=by
 refine b7 λ(s,l,s2,Z)=>cq λY=>⟨rfl,b6 ?_⟩;simp only[aci,k4,bX];obtain⟨bs,br⟩:=Y;refine ah ?_;repeat' (intro h<;>simp only[h,go_sem,go_sem_proc,ig,bs,br]<;>try refine ae ?_ ?_)
def Oq:=bI k4 λ(s,l,s2,Z)=>ca (D l<=1000000/\D Z<=1000000) (.same (.bool (!(s==0))))
@[go_sem] def aof (s l s2 Z):=cl Oq rfl ud (s,l,s2,Z) rfl
def aog (T:bj):WF T ace Oq:=by
 refine b7 λ(s,l,s2,Z)=>cq λY=>⟨rfl,b6 ?_⟩;simp only[ace,k4,bX];obtain⟨bs,br⟩:=Y;refine ah ?_;repeat' (intro h<;>simp only[h,go_sem,go_sem_proc,bs,br]<;>try refine ae ?_ ?_)
def Ot:=bI k4 λ(s,l,s2,Z)=>ca (D l<=1000000/\D Z<=1000000) (.same (.bool (!g4 ((s,l),(s2,Z))||(s==0))))
@[go_sem] def aoh (s l s2 Z):=cl Ot rfl ud (s,l,s2,Z) rfl
def aoi (T:bj)(w7:T B3=aG FH):WF T acg Ot:=by
 refine b7 λ(s,l,s2,Z)=>cq λY=>⟨rfl,b6 ?_⟩;simp only[acg,k4,bX];obtain⟨bs,br⟩:=Y;rcases M:g4 ((s,l),(s2,Z))
 ·refine ah ?_;repeat' (intro h<;>simp only[h,go_sem,go_sem_proc,w7,bs,br,M]<;>try refine ae ?_ ?_)
 ·refine ah ?_;repeat' (intro h<;>simp only[h,go_sem,go_sem_proc,w7,bs,br,M]<;>try refine ae ?_ ?_)
def w8 {α:Type}(p:α->Bool)(l:List α):Int:=match l.findIdx? p with
 |some i=>i
 |none => -1
def Ul {α:Type}{p:α->Bool}{l:List α}{i:Nat}(h:∀x∈l.take i,p x=false){x:α}(L:l[i]?=some x)(aR:p x=true):w8 p l=i:=by
 unfold w8
 have:l.findIdx? p=some i:=by
  rw[acx];obtain⟨aq,rfl⟩:=dL.1 L;refine⟨aq,aR,λj aa=>?_⟩;have:=h l[j] (ye.2 ⟨j,by rw[List.getElem?_take_of_lt aa];exact bf _⟩);rw[this];decide
 rw[this]
def Um {α:Type}{p:α->Bool}{l:List α}(h:∀x∈l,p x=false):w8 p l = -1:=by
 unfold w8;rw[acy.2 h]
def Un {α:Type}(p:α->Bool)(l:List α):decide (w8 p l>=0)=l.any p:=by
 unfold w8
 cases h:l.findIdx? p with
 |none =>
  have:=acy.1 h;have G:l.any p=false:=by rw[sN];intro x L;simp[this x L]
  rw[G];rfl
 |some i =>
  rw[acx] at h;obtain⟨F,G,-⟩:=h;have ad:l.any p=true:=List.any_eq_true.2 ⟨_,hb F,G⟩;rw[ad];exact mL (by simp)
def pS (f:ax):Bool:=!cA f
def m7 (f:FuncId):ax->Bool:=if f=vb then λx => !g4 x else if f=u9 then λx => !(x.1.1==0) else if f=va then λx => !g4 x||(x.1.1==0) else if f=EX then λx => !cA x||decide (x.1.1<0) else if f=B1 then λx => !(cA x&&decide (x.1.1>=0)) else pS
def aoj (f:FuncId):List Data:=if f=B1 then [.ptr [.fn ZU []]] else []
@[go_sem] def aok:m7 sr=pS:=by
 unfold m7;rw[aT (nu rfl),aT (nu rfl),aT (nu rfl),aT (nu rfl),aT (nu rfl)]
@[go_sem] def aol:m7 EX=λx => !cA x||decide (x.1.1<0):=by
 unfold m7;rw[aT (nu rfl),aT (nu rfl),aT (nu rfl),aL rfl]
def aom:m7 B1=λx => !(cA x&&decide (x.1.1>=0)):=by
 unfold m7;rw[aT (nu rfl),aT (nu rfl),aT (nu rfl),aT (nu rfl),aL rfl]
@[go_sem] def aon:m7 vb=λx => !g4 x:=by
 unfold m7;rw[aL rfl]
@[go_sem] def Uo:m7 wI=pS:=by
 unfold m7;rw[aT (nu rfl),aT (nu rfl),aT (nu rfl),aT (nu rfl),aT (nu rfl)]
@[go_sem] def Up:m7 u9=λx => !(x.1.1==0):=by
 unfold m7;rw[aT (nu rfl),aL rfl]
@[go_sem] def Uq:m7 va=λx => !g4 x||(x.1.1==0):=by
 unfold m7;rw[aT (nu rfl),aT (nu rfl),aL rfl]
def vn {α:Type}{p:α->Bool}{l:List α}{i:Nat}(h:∀x∈l.take i,p x=false){x:α}(L:l[i]?=some x)(aR:p x=false):∀y∈l.take (i+1),p y=false:=by
 intro y ak;rw[ho,L] at ak;simp only[Option.toList_some,h5,sE] at ak;rcases ak with ak|rfl
 ·exact h y ak
 ·exact aR
def CA {T:bj}{c:e1}{K:fD->a8->Prop}{st:a8}(h:wp T c K st):wp T c (cO T K []) st:=by
 have:cO T K []=K:=by funext e st;cases e<;>rfl
 rwa [this]
def CB (T:bj)(id:FuncId)(dd:List Data)(cp:List Data->Option dj)(cw:T id=aG cp)(p:ax->Bool)(l:List ax)(ag:ih l)(ek:∀a b c d,D b<=1000000->(D d)<=1000000->cp (.agg [.int .i64 a,.ar (b.map aI),.int .i64 c,.ar (d.map aI)]::dd)=some (.same (.bool (p ((a,b),(c,d)))))):
  wp T IZ.body (tC IZ.res (.same (.int .i64 (w8 p l)))) ⟨ke [.J (.ar (l.map av)),.J (.fn id dd)],emp⟩:=by
 obtain⟨ag,dy⟩:=ag;refine xY ?_;simp only[IZ];simp only[go_sem,go_sem_proc,aj];refine cX [0,1,7] [] (λ(i:Nat) tm mem=>i<=D l/\(∀x∈l.take i,p x=false)/\tm 8=.J (.int .i64 i)) (λi=>D l-i) 0 (by refine⟨dG _,by simp,rfl⟩) ?_;intro vs ms aK aF;simp only[go_sem,go_sem_proc,aj] at aK aF;subst aK aF;rintro i tm mem R hm ⟨ab,cZ,cd⟩;simp only[go_sem,go_sem_proc,bl] at R hm;obtain⟨au,F,bM⟩:=R;have Fh:∀m:Mem,(dd.map I.J).mapM (cN 6 m)=some dd:=λm=>z2 (cN 6 m) (λd=>rfl) dd;rcases du (i<D l) with aq|bD
 ·have L:=bf aq;obtain⟨ez,eS⟩:=dy _ (hb aq);have ha:=λh=>Ul (p:=p) cZ L h;have jo:=λh=>vn (p:=p) cZ L h;generalize l[i]=x at *;obtain⟨⟨dA,dJ⟩,⟨ep,eB⟩⟩:=x;have Ou:=ek dA dJ ep eB ez eS;have kK:decide ((i:Int)<(D l:Int))=true:=c7;have hw:=e2 (i:=i) (by omega);rcases U:p ((dA,dJ),(ep,eB))
  ·rw[U] at Ou;refine ah ?_;repeat' (intro (ai:_=_)<;>simp only[ai,go_sem,go_sem_proc,cw,au,F,bM,cd,L,kK,hw,Ou,Fh,av,aj,bg,z0]<;>try refine ae ?_ ?_)
   exact⟨i+1,by omega,by omega,jo U,rfl⟩
  ·rw[U] at Ou;rw[ha U];refine ah ?_;repeat' (intro (ai:_=_)<;>simp only[ai,go_sem,go_sem_proc,cw,au,F,bM,cd,L,kK,hw,Ou,Fh,av,aj,bg,z0]<;>try refine ae ?_ ?_)
 ·have kK:decide ((i:Int)<(D l:Int))=false:=df;obtain rfl:i=D l:=by omega
  rw[mB] at cZ;rw[Um cZ];refine ah ?_;repeat' (intro (ai:_=_)<;>simp only[ai,go_sem,go_sem_proc,au,F,bM,cd,kK,aj]<;>try refine ae ?_ ?_)
def acz (f:FuncId):Prop:=f=sr\/(f=EX/\EX<900000)\/(f=B1/\B1<900000)\/(f=vb/\vb<900000)\/(f=wI/\wI<900000)\/(f=u9/\u9<900000)\/(f=va/\va<900000)
abbrev FI:(List ax)×FuncId->List Data:=λ(l,f)=>[.ar (l.map av),.fn f (aoj f)]
def Ov:=bI FI λ(l,f)=>ca (ih l/\acz f) (.same (.int .i64 (w8 (m7 f) l)))
def acA:∀a b,FI a=FI b->a=b:=by
  rintro⟨hZ,f1⟩ ⟨Z,f2⟩ h;simp only[bl,Data.ar.injEq,Data.fn.injEq] at h;exact cz (map_inj j1 _ _ h.1) h.2.1.1
@[go_sem] def aAj (l f):=cl Ov rfl acA (l,f) rfl
def aoo (T:bj)(JI:T sr=aG JH)(aop:EX<900000->T EX=aG acv)(aoq:B1<900000->T B1=aG acw)(aor:vb<900000->T vb=aG On)(aos:wI<900000->T wI=aG Oo)(aot:u9<900000->T u9=aG Oq)(aou:va<900000->T va=aG Ot):WF T IZ Ov:=by
 refine b7 λ(l,f)=>cq λY=>⟨rfl,b6 ?_⟩;simp only[IZ,FI,bX];obtain⟨ag,al⟩:=Y;rcases al with rfl|⟨rfl,ab⟩|⟨rfl,ab⟩|⟨rfl,ab⟩|⟨rfl,ab⟩|⟨rfl,ab⟩|⟨rfl,ab⟩
 ·rw[aok];exact CA (CB T _ _ _ JI pS l ag λa b c d F G=>an5 a b c d ⟨F,G⟩)
 ·rw[aol];exact CA (CB T _ _ _ (aop ab) (λx => !cA x||decide (x.1.1<0)) l ag λa b c d F G=>an7 a b c d ⟨F,G⟩)
 ·rw[aom];exact CA (CB T _ _ _ (aoq ab) (λx => !(cA x&&decide (x.1.1>=0))) l ag λa b c d F G=>an9 a b c d ⟨F,G⟩)
 ·rw[aon];exact CA (CB T _ _ _ (aor ab) (λx => !g4 x) l ag λa b c d F G=>aob a b c d ⟨F,G⟩)
 ·rw[Uo];exact CA (CB T _ _ _ (aos ab) pS l ag λa b c d F G=>aod a b c d ⟨F,G⟩)
 ·rw[Up];exact CA (CB T _ _ _ (aot ab) (λx => !(x.1.1==0)) l ag λa b c d F G=>aof a b c d ⟨F,G⟩)
 ·rw[Uq];exact CA (CB T _ _ _ (aou ab) (λx => !g4 x||(x.1.1==0)) l ag λa b c d F G=>aoh a b c d ⟨F,G⟩)
def sO:=bI FI λ(l,f)=>ca (ih l/\acz f) (.same (.bool (l.any (m7 f))))
@[go_sem] def JJ (l f):=cl sO rfl acA (l,f) rfl
def aov (T:bj)(aow:T SE=aG Ov):WF T aah sO:=by
 refine b7 λ(l,f)=>cq λY=>⟨rfl,b6 ?_⟩;simp only[aah,FI,bX];rw[<-Un];refine ah ?_;repeat' (intro h<;>simp only[h,go_sem,go_sem_proc,aow,Y]<;>try refine ae ?_ ?_)
@[go_sem] def aAk (l:List ax)(h:ih l):sO [.ar (l.map av),.fn sr []]=some (.same (.bool (l.any (m7 sr)))):=JJ l sr ⟨h,.inl rfl⟩
@[go_sem] def aAl (l:List ax)(h:ih l):sO [.ar (l.map av),.fn vb []]=some (.same (.bool (l.any (m7 vb)))):=JJ l vb ⟨h,.inr (.inr (.inr (.inl ⟨rfl,by decide⟩)))⟩
@[go_sem] def acB (l:List ax)(h:ih l):sO [.ar (l.map av),.fn wI []]=some (.same (.bool (l.any (m7 wI)))):=JJ l wI ⟨h,.inr (.inr (.inr (.inr (.inl ⟨rfl,by decide⟩))))⟩
@[go_sem] def acC (l:List ax)(h:ih l):sO [.ar (l.map av),.fn u9 []]=some (.same (.bool (l.any (m7 u9)))):=JJ l u9 ⟨h,.inr (.inr (.inr (.inr (.inr (.inl ⟨rfl,by decide⟩)))))⟩
@[go_sem] def acD (l:List ax)(h:ih l):sO [.ar (l.map av),.fn va []]=some (.same (.bool (l.any (m7 va)))):=JJ l va ⟨h,.inr (.inr (.inr (.inr (.inr (.inr ⟨rfl,by decide⟩)))))⟩
def nU (n:Int)(r:cb):Bool:=!(((r.1.length:Int)==n)&&(cA r.2 && !(r.1.any pS)))
abbrev Ow:(List ax)×Int×(List Int)×Int×(List Int)×Int->List Data:=λ(a,s,l,s2,Z,n)=>[.agg [.ar (a.map av),.int .i64 s,.ar (l.map aI),.int .i64 s2,.ar (Z.map aI)],.ptr [.int .i64 n],.ptr [.fn sr []]]
def Ox:=bI Ow λ(a,s,l,s2,Z,n)=>ca (ih a/\D l<=1000000/\D Z<=1000000) (.same (.bool (nU n (a,((s,l),(s2,Z))))))
def aox:∀a b,Ow a=Ow b->a=b:=by
  rintro⟨dx,s1,hZ,tY,sG,rb⟩ ⟨dW,s2,Z,tZ,sH,re⟩ h;simp only[bl,Data.agg.injEq,Data.int.injEq,Data.ar.injEq,Data.ptr.injEq] at h;exact cz (map_inj j1 _ _ h.1.1) (cz h.1.2.1.2 (cz (map_inj fX _ _ h.1.2.2.1) (cz h.1.2.2.2.1.2 (cz (map_inj fX _ _ h.1.2.2.2.2.1) h.2.1.1.2))))
@[go_sem] def aAm (a s l s2 Z n):=cl Ox rfl aox (a,s,l,s2,Z,n) rfl
def aoy (T:bj)(JI:T sr=aG JH)(gQ:T tI=aG sO):WF T aca Ox:=by
 refine b7 λ(a,s,l,s2,Z,n)=>cq λY=>⟨rfl,b6 ?_⟩;simp only[aca,Ow,bX];obtain⟨bc,bs,br⟩:=Y;unfold nU;rcases F:((D a:Int)==n)
 ·refine ah ?_;repeat' (intro h<;>simp only[h,go_sem,go_sem_proc,JI,gQ,bc,bs,br,F,aj]<;>try refine ae ?_ ?_)
 ·rcases G:cA ((s,l),(s2,Z))
  ·refine ah ?_;repeat' (intro h<;>simp only[h,go_sem,go_sem_proc,JI,gQ,bc,bs,br,F,G,aj]<;>try refine ae ?_ ?_)
  ·refine ah ?_;repeat' (intro h<;>simp only[h,go_sem,go_sem_proc,JI,gQ,bc,bs,br,F,G,aj,show (sr=sr)=True from by simp,true_or,Bool.not_not]<;>try refine ae ?_ ?_)
abbrev FJ:(List cb)×Int->List Data:=λ(rs,n)=>[.ar (rs.map cG),.fn Nm [.ptr [.int .i64 n],.ptr [.fn sr []]]]
def Oy:=bI FJ λ(rs,n)=>ca (qK rs) (.same (.int .i64 (w8 (nU n) rs)))
def acE:∀a b,FJ a=FJ b->a=b:=by
  rintro⟨Oz,rb⟩ ⟨OA,re⟩ h;simp only[bl,Data.ar.injEq,Data.fn.injEq,Data.ptr.injEq,Data.int.injEq] at h;exact cz (map_inj Ax _ _ h.1) h.2.1.2.1.1.2
@[go_sem] def aAn (rs n):=cl Oy rfl acE (rs,n) rfl
def aoz (T:bj)(FK:T Nm=aG Ox):WF T aaj Oy:=by
 refine b7 λ(rs,n)=>cq λY=>⟨rfl,b6 ?_⟩;simp only[aaj,FJ,bX];obtain⟨ag,dy⟩:=Y;simp only[go_sem,go_sem_proc,FK,aj];refine cX [0,1,7] [] (λ(i:Nat) tm mem=>i<=D rs/\(∀x∈rs.take i,nU n x=false)/\tm 8=.J (.int .i64 i)) (λi=>D rs-i) 0 (by refine⟨dG _,?_,rfl⟩;simp) ?_;intro vs ms aK aF;simp only[go_sem,go_sem_proc,FK,aj] at aK aF;subst aK aF;rintro i tm mem R hm ⟨ab,cZ,cd⟩;simp only[go_sem,go_sem_proc,FK,bl] at R hm;obtain⟨au,F,bM⟩:=R;rcases du (i<D rs) with aq|bD
 ·have L:=bf aq;obtain⟨JD,ez,eS⟩:=dy _ (hb aq);have ha:=λh=>Ul (p:=nU n) cZ L h;have jo:=λh=>vn (p:=nU n) cZ L h;generalize rs[i]=x at *;have kK:decide ((i:Int)<(D rs:Int))=true:=c7;have hw:=e2 (i:=i) (by omega);obtain⟨a,⟨dA,dJ⟩,⟨ep,eB⟩⟩:=x;dsimp only at JD ez eS;rcases U:nU n (a,((dA,dJ),(ep,eB)))
  ·refine ah ?_;repeat' (intro (ai:_=_)<;>simp only[ai,go_sem,go_sem_proc,FK,au,F,bM,cd,L,kK,hw,JD,ez,eS,U,aj,bg,cG,av]<;>try refine ae ?_ ?_)
   exact⟨i+1,by omega,by omega,jo U,rfl⟩
  ·rw[ha U];refine ah ?_;repeat' (intro (ai:_=_)<;>simp only[ai,go_sem,go_sem_proc,FK,au,F,bM,cd,L,kK,hw,JD,ez,eS,U,aj,bg,cG,av]<;>try refine ae ?_ ?_)
 ·have kK:decide ((i:Int)<(D rs:Int))=false:=df;have js:i=D rs:=by omega
  subst js;rw[mB] at cZ;rw[Um cZ];refine ah ?_;repeat' (intro (ai:_=_)<;>simp only[ai,go_sem,go_sem_proc,FK,au,F,bM,cd,kK,aj]<;>try refine ae ?_ ?_)
def OB:=bI FJ λ(rs,n)=>ca (qK rs) (.same (.bool (rs.any (nU n))))
@[go_sem] def aAo (rs n):=cl OB rfl acE (rs,n) rfl
def aoA (T:bj)(aoB:T SD=aG Oy):WF T aag OB:=by
 refine b7 λ(rs,n)=>cq λY=>⟨rfl,b6 ?_⟩;simp only[aag,FJ,bX];rw[<-Un];refine ah ?_;repeat' (intro h<;>simp only[h,go_sem,go_sem_proc,aoB,Y]<;>try refine ae ?_ ?_)
def nV (rs:List cb)(n:Int):Bool:=!(decide (n<0))&&(!(decide (n>40))&&(((D rs:Int)==n) && !(rs.any (nU n))))
abbrev w9:(List cb)×Int->List Data:=λ(rs,n)=>[.ar (rs.map cG),.int .i64 n]
def OC:=bI w9 λ(rs,n)=>ca (qK rs) (.same (.bool (nV rs n)))
def OD:∀a b,w9 a=w9 b->a=b:=by
  rintro⟨Oz,rb⟩ ⟨OA,re⟩ h;simp only[bl,Data.ar.injEq,Data.int.injEq] at h;exact cz (map_inj Ax _ _ h.1) h.2.1.2
@[go_sem] def aAp (rs n):=cl OC rfl OD (rs,n) rfl
def aoC (T:bj)(OE:T Sz=aG OB):WF T ab7 OC:=by
 refine b7 λ(rs,n)=>cq λY=>⟨rfl,b6 ?_⟩;simp only[ab7,w9,bX];unfold nV;rcases F:decide (n<0)
 ·rcases G:decide (n>40)
  ·rcases ad:((D rs:Int)==n)
   ·refine ah ?_;repeat' (intro h<;>simp only[h,go_sem,go_sem_proc,OE,Y,F,G,ad,aj]<;>try refine ae ?_ ?_)
   ·refine ah ?_;repeat' (intro h<;>simp only[h,go_sem,go_sem_proc,OE,Y,F,G,ad,aj,cN,rW,o1,scalar]<;>try refine ae ?_ ?_)
  ·refine ah ?_;repeat' (intro h<;>simp only[h,go_sem,go_sem_proc,OE,Y,F,G,aj]<;>try refine ae ?_ ?_)
 ·refine ah ?_;repeat' (intro h<;>simp only[h,go_sem,go_sem_proc,OE,Y,F,aj]<;>try refine ae ?_ ?_)
def acF {es:List (List Data)}(h:∀x∈es,Fit (.int .i64) x):∃l:List Int,es=l.map aI:=by
 obtain⟨l,e,-⟩:=Nk (e:=aI) (good:=λ_=>True) λx L=>by
  have:=h x L;simp only[Fit] at this;obtain⟨n,rfl,-⟩:=this;exact⟨n,rfl,trivial⟩
 exact⟨l,e⟩
def acG {x:List Data}(h:Fits [.st [.int .i64,.ar (.int .i64)],.st [.int .i64,.ar (.int .i64)]] x):∃f:ax,x=av f:=by
 simp only[Fit,Fits] at h;obtain⟨_,_,rfl,⟨_,_,rfl,⟨s,rfl,-⟩,_,_,rfl,⟨es,rfl,-,F⟩,rfl⟩,_,_,rfl,⟨_,_,rfl,⟨s2,rfl,-⟩,_,_,rfl,⟨acH,rfl,-,G⟩,rfl⟩,rfl⟩:=h;obtain⟨l,rfl⟩:=acF λx L=>by simp only[Fit];exact F x L
 obtain⟨Z,rfl⟩:=acF λx L=>by simp only[Fit];exact G x L
 exact⟨((s,l),(s2,Z)),rfl⟩
def Ur {es:List (List Data)}(h:∀x∈es,Fit (.st [.st [.int .i64,.ar (.int .i64)],.st [.int .i64,.ar (.int .i64)]]) x):∃l:List ax,es=l.map av:=by
 obtain⟨l,e,-⟩:=Nk (e:=av) (good:=λ_=>True) λx L=>by
  have:=h x L;unfold Fit at this;obtain⟨f,rfl⟩:=acG this;exact⟨f,rfl,trivial⟩
 exact⟨l,e⟩
end Go.Mini
namespace Go.Mini
open Go
variable {P:Program} {A:Nat->Prop} {w an:World} {B aA:cU} {mem mem':Mem}
structure nv (P:Program) (f:FuncId) (db:List I->Mem->Option gH):Prop where
 real:Real P f
 run:∀args mem oa,db args mem=some oa->∀A w B vs,dQ A w B mem->cC w (bp A B) B args vs->RK P f vs A w B mem oa
def uf (res:List ku)(bH:I->Mem->Prop):fD->a8->Prop
 |.exit _,_=>False
 |.normal,st=>∃m,jO st res=some m/\bH m st.mem
 |.ret,st=>∃m,jO st res=some m/\bH m st.mem
@[go_sem] def aAq {res:List ku}{st:a8}(bH:I->Mem->Prop)(id:Nat):uf res bH (.exit id) st=False:=bu
@[go_sem] def aAr {res:List ku}{st:a8}(bH:I->Mem->Prop):uf res bH .normal st=∃m,jO st res=some m/\bH m st.mem:=bu
@[go_sem] def aAs {res:List ku}{st:a8}(bH:I->Mem->Prop):uf res bH .ret st=∃m,jO st res=some m/\bH m st.mem:=bu
def Us {mf:bG}{bH:I->Mem->Prop}{e:fD}{st:a8}(h:uf mf.res bH e st):R5 mf bH e st:=by
 cases e with
 |exit id=>exact h
 |normal=>exact h
 |ret=>exact h
def Ut {kb : Nat}{own : List Nat}{f : FuncId}{fn : Func}{mf : bG}(al : P.funcs[f]? = some fn)(sj : (fn.name == "runtime.NumGoroutine") = false)(ay : pz P kb own fn = some mf): Real P f := by
 cases U:fn.body with
 |none=>simp[pz,U] at ay
 |some c=>exact⟨fn,c,al,U,sj⟩
def yW (a5:List I->Mem->Option (I->Mem->Prop))(args:List I)(mem:Mem):Option gH:=(a5 args mem).map .rel
@[go_sem] def aAt (a5:List I->Mem->Option (I->Mem->Prop))(args:List I)(mem:Mem):yW a5 args mem=(a5 args mem).map .rel:=bu
def Uu {T : bj}{kb : Nat}{own : List Nat}(cw : nh P T)(hm : P.follows .mixedOrders = true){f : FuncId}{fn : Func}{mf : bG}(al : P.funcs[f]? = some fn)(sj : (fn.name == "runtime.NumGoroutine") = false)(ay : pz P kb own fn = some { mf with body := erase mf.body })
  {a5:List I->Mem->Option (I->Mem->Prop)} (h:∀args mem bH,a5 args mem=some bH->(D args)<=mf.n/\wp T mf.body (uf mf.res bH) ⟨ke args,mem⟩):nv P f (yW a5):=by
 refine⟨Ut al sj ay,λargs mem oa dO A w B vs bk ao=>?_⟩;unfold yW at dO;rw[c4] at dO;obtain⟨bH,ed,rfl⟩:=dO;obtain⟨hlen,yc⟩:=h args mem bH ed;refine Calls.mono (Ik (Post:=bH) cw hm al ay hlen (λe st R=>Us R) yc bk ao) λe an he=>?_;obtain⟨v,m,mem',aA,rfl,Q,kR,aR⟩:=he;exact⟨v,m,mem',aA,rfl,Q,kR,aR⟩
inductive qL (cS:Key->Prop):I->Prop
 |J {d:Data}:qL cS (.J d)
 |nil:qL cS .nil
 |ref {k g sz off len:Nat} (h:¬ cS k):qL cS (.ref k g sz off len)
 |ptr {k g off:Nat} (h:¬ cS k):qL cS (.ptr k g off)
 |ef {f:FuncId} {dd:List I} (h:∀(i:Nat) (m:I),dd[i]?=some m->qL cS m):qL cS (.ef f dd)
 |agg {cs:List I} (h:∀(i:Nat) (m:I),cs[i]?=some m->qL cS m):qL cS (.agg cs)
 |dq {cs:List I} (h:∀(i:Nat) (m:I),cs[i]?=some m->qL cS m):qL cS (.dq cs)
 |hC {k g:Nat} (h:¬ cS k):qL cS (.hC k g)
 |no:qL cS .no
 |undef:qL cS .undef
def clean_of {cS:Key->Prop}{aw:Nat->Prop}(vo:∀k,cS k->B k=none){m:I}{v:Value}(h:a0 w aw B m v):qL cS m:=by
 induction h with
 |J h=>exact .J
 |nil=>exact .nil
 |ref he aN ao=>exact .ref λaa=>by rw[vo _ aa] at he;cases he
 |ptr he aN ao=>exact .ptr λaa=>by rw[vo _ aa] at he;cases he
 |hC he aN ao=>exact .hC λaa=>by rw[vo _ aa] at he;cases he
 |ef ag af a4=>exact .ef λi m ab=>a4 i m _ ab (bf (by have aq:=(dL.1 ab).1;omega))
 |agg ag af a4=>exact .agg λi m ab=>a4 i m _ ab (bf (by have aq:=(dL.1 ab).1;omega))
 |dq ag af a4=>exact .dq λi m ab=>a4 i m _ ab (bf (by have aq:=(dL.1 ab).1;omega))
 |no=>exact .no
 |undef=>exact .undef
open Classical in
def sP (cS:Key->Prop)(B:cU):cU:=λk=>if cS k then none else B k
def CC {cS:Key->Prop}{b:Nat}(h:n3 (sP cS B) b):n3 B b:=by
 obtain⟨k,e,he,U⟩:=h;unfold sP at he
 split at he
 ·cases he
 ·exact⟨k,e,he,U⟩
def aoD {cS:Key->Prop}{m:I}{v:Value}(h:a0 w (bp A B) B m v)(Y:qL cS m):a0 w (bp A (sP cS B)) (sP cS B) m v:=by
 have at_:∀{k:Key} {e:hv},¬ cS k->B k=some e->sP cS B k=some e:=λR he=>by unfold sP;rw[aT R];exact he
 induction h with
 |J h=>exact .J (h.less λb U=>U.imp CC id)
 |nil=>exact .nil
 |ref he aN ao=>cases Y with|ref R=>exact .ref (at_ R he) aN ao
 |ptr he aN ao=>cases Y with|ptr R=>exact .ptr (at_ R he) aN ao
 |hC he aN ao=>cases Y with|hC R=>exact .hC (at_ R he) aN ao
 |ef ag af a4=>cases Y with|ef Y=>exact .ef ag λi d v ab ao=>a4 i d v ab ao (Y i d ab)
 |agg ag af a4=>cases Y with|agg Y=>exact .agg ag λi d v ab ao=>a4 i d v ab ao (Y i d ab)
 |dq ag af a4=>cases Y with|dq Y=>exact .dq ag λi d v ab ao=>a4 i d v ab ao (Y i d ab)
 |no=>exact .no
 |undef=>exact .undef
def da.drop {cS:Key->Prop}{OF:Mem}(au:dQ A w B mem)(vo:∀k,cS k->mem k=none)(h:da A w B an aA mem')(F:∀k,cS k->OF k=none)(G:∀k,¬ cS k->OF k=mem' k)
  (Y:∀k g cs,OF k=some (g,cs)->∀m∈cs,(∃d,m=.J d)\/∃er H5 sd,mem er=some (H5,sd)/\m∈sd):da A w B an (sP cS aA) OF:=by
 have n9:∀k,cS k->B k=none:=λk R=>au.rT k (vo k R);have at_:∀{k:Key},¬ cS k->sP cS aA k=aA k:=λR=>by unfold sP;rw[aT R]
 have Uv:∀{k:Key},cS k->sP cS aA k=none:=λR=>by unfold sP;rw[aL R]
 refine⟨⟨λk R=>?_,λk k' e e' b he eL U hE=>?_,λb bc a6=>h.cu.sep b bc (CC a6),h.cu.lt,h.cu.gl,λb o U a6=>h.cu.v8 b o U (CC a6),λk g cs R=>?_⟩,⟨h.iH.size,λb U a6=>?_,λk e he=>?_⟩,h.fZ,λb U=>h.fresh b (CC U)⟩
 ·by_cases aa:cS k
  ·exact Uv aa
  ·rw[at_ aa];exact h.cu.rT k (by rw[<-G k aa];exact R)
 ·by_cases aa:cS k
  ·rw[Uv aa] at he;cases he
  ·by_cases kf:cS k'
   ·rw[Uv kf] at eL;cases eL
   ·rw[at_ aa] at he;rw[at_ kf] at eL;exact h.cu.inj k k' e e' b he eL U hE
 ·by_cases aa:cS k
  ·rw[F k aa] at R;cases R
  ·obtain⟨e,he,aN,aC,U⟩:=h.cu.dk k g cs (by rw[<-G k aa];exact R);refine⟨e,by rw[at_ aa];exact he,aN,aC,λb fW=>?_⟩
   refine (U b fW).imp rfl rfl λm ab v jm=>aoD jm ?_;rcases Y k g cs R m ab with ⟨d,rfl⟩|⟨er,H5,sd,oK,gK⟩
   ·exact .J
   ·obtain⟨fI,sa,rp,qp,Ad⟩:=au.dk er H5 sd oK
    cases Fb:fI.dk with
    |none=>rw[qp Fb] at gK;cases gK
    |some rk =>
     obtain⟨v0,aoE⟩:=(Ad rk Fb).has m gK;exact clean_of n9 aoE
 ·obtain⟨ad,aZ⟩:=h.iH.DW b U a6;exact⟨ad,λL=>aZ (CC L)⟩
 ·have aa:¬ cS k:=λaa=>by rw[n9 k aa] at he;cases he
  rw[at_ aa];exact h.iH.key k e he
def Ay (CD:List I->Mem->Option (Data×Key×Nat×Nat×Data))(args:List I)(mem:Mem):Option gH:=(CD args mem).map λx => .ea x.1 x.2.1 x.2.2.1 x.2.2.2.1 (.J x.2.2.2.2)
@[go_sem] def aAu (CD:List I->Mem->Option (Data×Key×Nat×Nat×Data))(args:List I)(mem:Mem):Ay CD args mem=(CD args mem).map λx => .ea x.1 x.2.1 x.2.2.1 x.2.2.2.1 (.J x.2.2.2.2):=bu
def aoF {T : bj}{kb : Nat}{own : List Nat}(cw : nh P T)(hm : P.follows .mixedOrders = true){f : FuncId}{fn : Func}{mf : bG}(al : P.funcs[f]? = some fn)(sj : (fn.name == "runtime.NumGoroutine") = false)(ay : pz P kb own fn = some { mf with body := erase mf.body })
  (cS:Key->Prop) {CD:List I->Mem->Option (Data×Key×Nat×Nat×Data)}
  (h:∀args mem r k g i d,CD args mem=some (r,k,g,i,d)->(D args)<=mf.n/\(∀j,cS j->mem j=none)/\¬ cS k/\(∃cs,mem k=some (g,cs)) /\
   wp T mf.body (uf mf.res λm mem'=>cN 6 emp m=some r/\∀j,¬ cS j->mem' j=aV mem k g ((qe mem k).set i (.J d)) j) ⟨ke args,mem⟩):nv P f (Ay CD):=by
 refine⟨Ut al sj ay,λargs mem oa dO A w B vs bk ao=>?_⟩;unfold Ay at dO;rw[c4] at dO;obtain⟨⟨r,k,g,i,d⟩,FL,rfl⟩:=dO;obtain⟨hlen,vo,R,⟨cs,iJ⟩,yc⟩:=h args mem r k g i d FL;refine Calls.mono (Ik (Post:=λm mem'=>cN 6 emp m=some r/\∀j,¬ cS j->mem' j=aV mem k g ((qe mem k).set i (.J d)) j) cw hm al ay hlen (λe st R=>Us R) yc bk ao) λe an he=>?_;obtain⟨v,m,mem',aA,rfl,Q,kR,af,gK⟩:=he;refine⟨v,sP cS aA,rfl,Q.drop bk vo (λj aa=>?_) (λj aa=>(gK j aa).symm) ?_,.J ((R7 6 m v r af kR).less λb U=>U.imp CC id)⟩
 ·have:j≠k:=λe=>R (e ▸ aa);simp only[aV,this,if_false];exact vo j aa
 ·intro c5 cQ HT G m wT
  by_cases MB:c5=k
  ·subst MB;simp only[aV,if_true,bO,eM] at G;obtain⟨-,rfl⟩:=G;rcases nW wT with L|rfl
   ·refine .inr ⟨c5,g,cs,iJ,?_⟩
    simpa [qe,iJ] using L
   ·exact .inl ⟨d,rfl⟩
  ·simp only[aV,MB,if_false] at G;exact .inr ⟨c5,cQ,HT,G,wT⟩
def Uw:Option gH->Option gH->Option gH
 |some x,_=>some x
 |none,e=>e
@[go_sem] def aAv (x:gH)(e:Option gH):Uw (some x) e=some x:=bu
@[go_sem] def aAw (e:Option gH):Uw none e=e:=bu
def sQ (gn:FuncId->Option (List Data->Option dj))(rz:FuncId->Option (List I->Mem->Option gH)):bj:=λf args mem=>match rz f with
 |some db=>Uw (db args mem) (u2 gn f args mem)
 |none=>u2 gn f args mem
def vp {gn:FuncId->Option (List Data->Option dj)}{rz:FuncId->Option (List I->Mem->Option gH)}(h:∀f cp,gn f=some cp->hY P f cp)(M:∀f db,rz f=some db->nv P f db):nh P (sQ gn rz):=by
 intro f args mem oa cw;unfold sQ at cw
 split at cw
 ·rename_i db dO;have Q:=M f db dO
  cases L:db args mem with
  |none =>
   rw[L] at cw;exact R8 h f args mem oa cw
  |some y =>
   rw[L] at cw
   cases cw
   exact⟨Q.real,λA w B vs bk ao=>Q.run args mem oa L A w B vs bk ao⟩
 ·exact R8 h f args mem oa cw
def Iw.acI {f:FuncId}{bh:List I->Mem->Option (I×Mem)}(h:Iw P f bh):nv P f (z4 bh):=by
 refine⟨h.real,λargs mem oa dO A w B vs bk ao=>?_⟩;unfold z4 at dO;rw[c4] at dO;obtain⟨x,L,rfl⟩:=dO;exact h.run args mem x L A w B vs bk ao
section
variable {gn:FuncId->Option (List Data->Option dj)} {rz:FuncId->Option (List I->Mem->Option gH)} {f:FuncId}
def ug {cp:List Data->Option dj}(h:rz f=none)(cI:gn f=some cp):sQ gn rz f=aG cp:=by
 funext args mem
 unfold sQ;rw[h];exact congrFun (congrFun (Zx cI) args) mem
def FM {db:List I->Mem->Option gH}(h:rz f=some db)(cI:gn f=none):sQ gn rz f=db:=by
 funext args mem
 unfold sQ u2;rw[h,cI];dsimp only
 cases db args mem<;>rfl
def FN {cp:List Data->Option dj}{bh:List I->Mem->Option (I×Mem)}(h:rz f=some (z4 bh))(cI:gn f=some cp):sQ gn rz f=yh cp bh:=by
 funext args mem
 unfold sQ;rw[h];unfold yh z4;rw[show u2 gn f args mem=aG cp args mem from congrFun (congrFun (Zx cI) args) mem];dsimp only
 cases bh args mem<;>rfl
end
def FO (l:List (FuncId×(List I->Mem->Option gH))):FuncId->Option (List I->Mem->Option gH):=λf=>(l.find? λp=>p.1==f).map (·.2)
def vq {l:List (FuncId×(List I->Mem->Option gH))}(h:∀p∈l,nv P p.1 p.2):∀f bh,FO l f=some bh->nv P f bh:=by
 intro f cp al;unfold FO at al;rw[c4] at al;obtain⟨p,aR,rfl⟩:=al;have F:=List.mem_of_find?_eq_some aR;have G:=List.find?_some aR;have ad:p.1=f:=by simpa using G
 exact ad ▸ h p F
def m8:∀p∈([]:List (FuncId×(List I->Mem->Option gH))),nv P p.1 p.2:=by simp
def uh {f:FuncId}{cp:List I->Mem->Option gH}{l:List (FuncId×(List I->Mem->Option gH))}(h:nv P f cp)(ag:∀p∈l,nv P p.1 p.2):∀p∈(f,cp)::l,nv P p.1 p.2:=by
 intro p aR;rcases kt.1 aR with rfl|aR
 ·exact h
 ·exact ag p aR
open Classical in
def CE {α:Type}(dm:α->List I->Mem->Prop)(bH:α->Mem->I->Mem->Prop):List I->Mem->Option (I->Mem->Prop):=λargs mem=>if h:∃a,dm a args mem then some (bH (Classical.choose h) mem) else none
def Ux {α:Type}{dm:α->List I->Mem->Prop}{bH:α->Mem->I->Mem->Prop}(uniq:∀a b args mem,dm a args mem->dm b args mem->a=b){a:α}{args:List I}{mem:Mem}(h:dm a args mem):CE dm bH args mem=some (bH a mem):=by
 have L:∃b,dm b args mem:=⟨a,h⟩;unfold CE;rw[dif_pos L,uniq _ _ _ _ (sk L) h]
def Uy {α:Type}{dm:α->List I->Mem->Prop}{bH:α->Mem->I->Mem->Prop}{args:List I}{mem:Mem}{x:I->Mem->Prop}(h:CE dm bH args mem=some x):∃a,dm a args mem/\x=bH a mem:=by
 unfold CE at h
 split at h
 ·rename_i L;exact⟨_,sk L,(mm h).symm⟩
 ·cases h
end Go.Mini
namespace Go.Mini
open Go
def JK:=bI k4 λ(s,l,s2,Z)=>some (.same (.bool (s==0)))
@[go_sem] def aAx (s l s2 Z):=sm JK rfl ud (s,l,s2,Z) rfl
def aoG (T:bj):WF T acb JK:=by
 refine b7 λ(s,l,s2,Z)=>⟨rfl,b6 ?_⟩;simp only[acb,k4,bX];refine ah ?_;repeat' (intro h<;>simp only[h,go_sem,go_sem_proc]<;>try refine ae ?_ ?_)
def yX (args:List I)(mem:Mem):Option (Data×Key×Nat×Nat×Data) :=
 match args with
 | [.ptr k g 0,.J (.agg [.int .i64 s,.ar l,.int .i64 s2,.ar Z]),.J (.int .i64 e)]=>match mem k,mem 168004,mem 168006 with
  |some (cx,[_,_,.J (.bool c)]),none,none=>if cx=g/\k≠168004/\k≠168006 then some (.agg [.int .i64 s,.ar l,.int .i64 s2,.ar Z],k,g,2,.bool (c||e != 0)) else none
  |_,_,_=>none
 |_=>none
def OG (j:Key):Prop:=j=168004\/j=168006
def aoH (T:bj)(args:List I)(mem:Mem)(r:Data)(k g i:Nat)(d:Data)(h:yX args mem=some (r,k,g,i,d)):
  (D args)<=19/\(∀j,OG j->mem j=none)/\¬ OG k/\(∃cs,mem k=some (g,cs)) /\
   wp T Oj.body (uf Oj.res λm mem'=>cN 6 emp m=some r/\∀j,¬ OG j->mem' j=aV mem k g ((qe mem k).set i (.J d)) j) ⟨ke args,mem⟩:=by
 unfold yX at h
 split at h
 ·rename_i er H5 s l s2 Z e
  split at h
  ·rename_i cJ a b c hm aZ bA
   split at h
   ·rename_i aN;obtain⟨rfl,JL,JM⟩:=aN;simp only[bO,eM] at h;obtain⟨rfl,rfl,rfl,rfl,rfl⟩:=h;refine⟨by simp,?_,?_,⟨_,hm⟩,?_⟩
    ·rintro j (rfl|rfl)
     ·exact aZ
     ·exact bA
    ·rintro (h|h)
     ·exact JL h
     ·exact JM h
    ·have lY:∀x:Bool,qe mem er=[a,b,.J (.bool c)]:=λ_=>by simp only[qe,hm]
     have acJ:(er=168004)=False:=eq_false JL;have acK:(er=168006)=False:=eq_false JM;have acL:(168004=er)=False:=eq_false (Ne.symm JL);have acM:(168006=er)=False:=eq_false (Ne.symm JM);refine xY ?_;simp only[Oj]
     cases c
     ·refine ah ?_;repeat' (intro (ai:_=_)<;>simp only[ai,go_sem,go_sem_proc,hm,aZ,bA,acJ,acK,acL,acM]<;>try refine ae ?_ ?_)
      refine⟨_,rfl,by first|rfl|simp[go_sem,cN],λj aa=>?_⟩
      have Uz:j≠168004:=λh=>aa (.inl h);have UA:j≠168006:=λh=>aa (.inr h)
      by_cases b3:j=er<;>simp[aV,qe,hm,Uz,UA,b3,JL,JM,bne]
     ·refine ah ?_;repeat' (intro (ai:_=_)<;>simp only[ai,go_sem,go_sem_proc,hm,aZ,bA,acJ,acK,acL,acM]<;>try refine ae ?_ ?_)
      refine⟨_,rfl,by first|rfl|simp[go_sem,cN],λj aa=>?_⟩
      have Uz:j≠168004:=λh=>aa (.inl h);have UA:j≠168006:=λh=>aa (.inr h)
      by_cases b3:j=er<;>simp[aV,qe,hm,Uz,UA,b3,JL,JM,bne]
   ·cases h
  ·cases h
 ·cases h
abbrev dn:=Nat×Nat×List ax
def refsOf (N:Nat)(rows:List dn):List I:=rows.map λx => .ref (x.1+900000) x.2.1 4 0 (N+1)
structure yY (go N:Nat) (rows:List dn) (bad:Bool) (mem:Mem):Prop where
 m:mem 129015=some (0,[.ref 129035 go 1 0 N,.J (.int .i64 N),.J (.bool bad)])
 o:mem 129035=some (go,refsOf N rows)
 r:∀x∈rows,mem (x.1+900000)=some (x.2.1,aS av x.2.2)
structure jD (N:Nat) (rows:List dn):Prop where
 len:(D rows)=N
 OH:(rows.map (·.1)).Nodup
 row:∀x∈rows,x.2.2.length=N+1/\∀f∈x.2.2,okF f
def FP (k:Nat):Prop:=k<900000/\k≠129015/\k≠129035/\k≠148008/\k≠148010/\k≠148013
def j2 (hn:Mem)(go N:Nat)(rows:List dn)(bad:Bool)(mem:Mem):Prop:=yY go N rows bad mem/\∀k,FP k->mem k=hn k
section
variable {hn mem:Mem} {go N:Nat} {rows:List dn} {lE:Bool}
def j2.flag (b:Bool)(h:j2 hn go N rows lE mem):j2 hn go N rows b (aV mem 129015 0 [.ref 129035 go 1 0 N,.J (.int .i64 N),.J (.bool b)]):=by
 refine⟨⟨by simp[aV],by simp[aV,h.1.o],λx L=>?_⟩,λk R=>?_⟩
 ·rw[<-h.1.r x L];exact aT (show ¬ ((x.1+900000:Nat)=129015) by omega)
 ·rw[<-h.2 k R];exact aT R.2.1
def j2.own {k g:Nat}{cs:List I}(R:k=148008\/k=148010\/k=148013)(h:j2 hn go N rows lE mem):j2 hn go N rows lE (aV mem k g cs):=by
 have bq:∀j:Nat,j≠k->aV mem k g cs j=mem j:=λj aa=>aT aa;refine⟨⟨by rw[bq _ (by omega)];exact h.1.m,by rw[bq _ (by omega)];exact h.1.o,λx L=>by rw[bq _ (by omega)];exact h.1.r x L⟩,λj aa=>?_⟩
 have:=aa.2;rw[bq _ (by omega)];exact h.2 j aa
def j2.set {i:Nat}{x:dn}(dy:jD N rows)(ab:rows[i]?=some x)(l:List ax)(h:j2 hn go N rows lE mem):j2 hn go N (rows.set i (x.1,x.2.1,l)) lE (aV mem (x.1+900000) x.2.1 (aS av l)):=by
 have bq:∀j:Nat,j≠x.1+900000->aV mem (x.1+900000) x.2.1 (aS av l) j=mem j:=λj aa=>aT aa;obtain⟨aq,fG⟩:=dL.1 ab;refine⟨⟨by rw[bq _ (by omega)];exact h.1.m,?_,λy ak=>?_⟩,λj aa=>?_⟩
 ·rw[bq _ (by omega),h.1.o]
  congr 2
  unfold refsOf;apply qm;intro j;rw[bg,bg,lF]
  by_cases hX:i=j
  ·subst hX;rw[aL rfl,aL aq,ab]
   rfl
  ·rw[aT hX]
 ·obtain⟨j,aa⟩:=ye.1 ak;rw[lF] at aa
  by_cases hX:i=j
  ·subst hX;rw[aL rfl,aL aq] at aa
   cases aa;simp[aV]
  ·rw[aT hX] at aa
   have aAy:y.1≠x.1:=by
    intro he;have F:(rows.map (·.1))[j]?=some y.1:=by rw[bg,aa];rfl
    have G:(rows.map (·.1))[i]?=some y.1:=by rw[bg,ab,he];rfl
    have ag:i<(rows.map (·.1)).length:=by rw[aj];exact aq
    exact hX ((acN ag dy.OH).1 (G.trans F.symm))
   rw[bq (y.1+900000) (by omega)];exact h.1.r y (cL aa)
 ·have:=aa.1;rw[bq j (by omega)];exact h.2 j aa
def j2.swap {i j:Nat}{a b:dn}(ab:rows[i]?=some a)(aa:rows[j]?=some b)(h:j2 hn go N rows lE mem):j2 hn go N ((rows.set i b).set j a) lE (aV (aV mem 129035 go (refsOf N (rows.set i b))) 129035 go (refsOf N ((rows.set i b).set j a))):=by
 have bq:∀k:Nat,k≠129035->aV (aV mem 129035 go (refsOf N (rows.set i b))) 129035 go (refsOf N ((rows.set i b).set j a)) k=mem k:=λk R=>by simp[aV,R]
 refine⟨⟨by rw[bq _ (by omega)];exact h.1.m,by simp[aV],λx L=>?_⟩,λk R=>?_⟩
 ·rw[bq _ (by omega)];apply h.1.r;rcases nW L with L|rfl
  ·rcases nW L with L|rfl
   ·exact L
   ·exact cL aa
  ·exact cL ab
 ·rw[bq _ R.2.2.1];exact h.2 k R
def jD.set {i:Nat}{x:dn}(dy:jD N rows)(ab:rows[i]?=some x){l:List ax}(ag:(D l)=N+1)(al:∀f∈l,okF f):jD N (rows.set i (x.1,x.2.1,l)):=by
 obtain⟨aq,fG⟩:=dL.1 ab;refine⟨by rw[fk];exact dy.len,?_,λy ak=>?_⟩
 ·have:(rows.set i (x.1,x.2.1,l)).map (·.1)=rows.map (·.1):=by
   rw[CF];apply qm;intro j;rw[lF]
   by_cases hX:i=j
   ·subst hX;rw[aL rfl,aj,aL aq,bg,ab];rfl
   ·rw[aT hX]
  rw[this];exact dy.OH
 ·rcases nW ak with ak|rfl
  ·exact dy.row y ak
  ·exact⟨ag,al⟩
def aoI {α:Type}{l:List α}{i j:Nat}{a b:α}(ab:l[i]?=some a)(aa:l[j]?=some b)(h:l.Nodup):((l.set i b).set j a).Nodup:=by
 obtain⟨js,ui⟩:=dL.1 ab;obtain⟨hk,El⟩:=dL.1 aa
 have main:∀p q,p<q->q<(D l)->((l.set i b).set j a)[p]?≠((l.set i b).set j a)[q]?:=by
  intro p q acO aU;rw[lF,lF,lF,lF];have inj:∀p q,p<(D l)->l[p]?=l[q]?->p=q:=λp q aR he=>(acN aR h).1 he;simp only[fk]
  by_cases F:j=p
  ·subst F;have G:¬ j=q:=by omega
   rw[aL rfl,aL hk,aT G]
   by_cases ad:i=q
   ·subst ad;rw[aL rfl,aL js];intro he;rw[<-ab,<-aa] at he;have:=inj _ _ js he;omega
   ·rw[aT ad,<-ab];intro he;exact ad (inj _ _ js he)
  ·rw[aT F]
   by_cases ad:i=p
   ·subst ad;rw[aL rfl,aL js]
    by_cases G:j=q
    ·subst G;rw[aL rfl,aL hk,<-ab,<-aa];intro he;have:=inj _ _ hk he;omega
    ·rw[aT G,aT (by omega),<-aa];intro he;exact G (inj _ _ hk he)
   ·rw[aT ad]
    by_cases G:j=q
    ·subst G;rw[aL rfl,aL hk,<-ab];intro he;exact ad (inj _ _ js he.symm)
    ·rw[aT G]
     by_cases aZ:i=q
     ·subst aZ;rw[aL rfl,aL js,<-aa];intro he;exact F (inj _ _ hk he.symm)
     ·rw[aT aZ];intro he;have:=inj _ _ (by omega) he;omega
 refine List.pairwise_iff_getElem.2 λp q aR aU acO he=>?_;simp only[fk] at aR aU;refine main p q acO aU ?_;rw[bf (by simpa using aR),bf (by simpa using aU),he]
def jD.swap {i j:Nat}{a b:dn}(dy:jD N rows)(ab:rows[i]?=some a)(aa:rows[j]?=some b):jD N ((rows.set i b).set j a):=by
 refine⟨by rw[fk,fk];exact dy.len,?_,λx L=>?_⟩
 ·rw[CF,CF];exact aoI (by rw[bg,ab];rfl) (by rw[bg,aa];rfl) dy.OH
 ·rcases nW L with L|rfl
  ·rcases nW L with L|rfl
   ·exact dy.row x L
   ·exact dy.row _ (cL aa)
  ·exact dy.row _ (cL ab)
end
def aoJ {l:List ax}{i:Nat}{a b c d}(h:l[i]?=some ((a,b),(c,d))):cut (aS av l) (i*4) 4=some [.J (.int .i64 a),.J (.ar (b.map aI)),.J (.int .i64 c),.J (.ar (d.map aI))]:=by
 have:=EF jt h (f:=0) (n:=4) (by omega);rw[lo] at this;rw[this]
 rfl
def aoK {N:Nat}{rows:List dn}{i:Nat}{x:dn}(h:rows[i]?=some x):cut (refsOf N rows) i 1=some [.ref (x.1+900000) x.2.1 4 0 (N+1)]:=by
 obtain⟨aq,rfl⟩:=dL.1 h;unfold cut refsOf;rw[aL (by rw[aj];omega),<-List.map_drop,gx aq]
 rfl
def aoL {l m:List ax}(h:aS av l=aS av m):l=m:=Th jt j1 _ _ h (by omega)
def hP (f:ax):Bool:=f.1.1==0
def cellOf (x:dn)(c:Nat):ax:=x.2.2.getD c bC
def findAt (rows:List dn)(r c:Nat):Nat:=r+(rows.drop r).findIdx λx => !hP (cellOf x c)
def jE (lG:ax):List ax->List ax->Bool->List ax×Bool
 |f::dB,p::cV,false=>((kn f (iC lG p).1).1::(jE lG dB cV ((iC lG p).2 != 0||(kn f (iC lG p).1).2 != 0)).1,(jE lG dB cV ((iC lG p).2 != 0||(kn f (iC lG p).1).2 != 0)).2)
 |dB,_,b=>(dB,b)
def jF (gC:List ax)(r c:Nat):Nat->List dn->Bool->List dn×Bool
 |_,[],bad=>([],bad)
 |i,x::xs,bad=>if (i==r||hP (cellOf x c))=true then (x::(jF gC r c (i+1) xs bad).1,(jF gC r c (i+1) xs bad).2) else
  ((x.1,x.2.1,(jE (cellOf x c) x.2.2 gC bad).1)::(jF gC r c (i+1) xs (jE (cellOf x c) x.2.2 gC bad).2).1,(jF gC r c (i+1) xs (jE (cellOf x c) x.2.2 gC bad).2).2)
def j3 (JG:ax)(l:List ax):List ax×Bool:=(l.map λf=>(fL f JG).1,l.any λf=>(fL f JG).2 != 0)
def rowAt (rows:List dn)(i:Nat):dn:=rows.getD i (0,0,[])
def mC (rows:List dn)(i j:Nat):List dn:=(rows.set i (rowAt rows j)).set j (rowAt rows i)
def CG (rows:List dn)(r c:Nat):List dn:=rows.set r ((rowAt rows r).1,(rowAt rows r).2.1,(j3 (cellOf (rowAt rows r) c) (rowAt rows r).2.2).1)
def j4 (rows:List dn)(r c:Nat):Bool×List dn×Bool :=
 if findAt rows r c=(D rows) then (true,rows,false) else
  (false,jF (j3 (cellOf (rowAt (mC rows r (findAt rows r c)) r) c) (rowAt (mC rows r (findAt rows r c)) r).2.2).1 r c 0 (CG (mC rows r (findAt rows r c)) r c)
   (j3 (cellOf (rowAt (mC rows r (findAt rows r c)) r) c) (rowAt (mC rows r (findAt rows r c)) r).2.2).2)
def aoM {rows:List dn}{r c i:Nat}{x:dn}(L:rows[i]?=some x)(M:r<=i)(a2:∀j y,r<=j->j<i->rows[j]?=some y->hP (cellOf y c)=true)(h:hP (cellOf x c)=false):findAt rows r c=i:=by
 unfold findAt;obtain⟨aq,fG⟩:=dL.1 L
 have:(rows.drop r).findIdx (λx => !hP (cellOf x c))=i-r:=by
  rw[List.findIdx_eq (by rw[pG];omega)];refine⟨?_,λj aa=>?_⟩
  ·rw[JN];have:rows[r+(i-r)]?=some x:=by rw[show r+(i-r)=i by omega];exact L
   rw[(dL.1 this).2,h];rfl
  ·rw[JN];have:=a2 (r+j) _ (by omega) (by omega) (bf (by omega));rw[this];rfl
 omega
def aoN {rows:List dn}{r c:Nat}(M:r<=D rows)(a2:∀j y,r<=j->rows[j]?=some y->hP (cellOf y c)=true):findAt rows r c=D rows:=by
 unfold findAt
 have:(rows.drop r).findIdx (λx => !hP (cellOf x c))=(rows.drop r).length:=by
  rw[List.findIdx_eq_length];intro y ak;obtain⟨j,aa⟩:=ye.1 ak;rw[oI] at aa;rw[a2 (r+j) y (by omega) aa];rfl
 rw[this,pG];omega
def UB {x:Rat}(h:ns x):okF (ee x):=⟨jc h.1,jc (ru h)⟩
def o2:okF bC:=⟨by simp[bC],by simp[bC]⟩
def aoO (p q:Raw):okF (ie p q).1:=by
 unfold ie
 split
 ·rename_i h;rw[ff] at h;obtain⟨x,L,aQ⟩:=(hp _).1 h.1;obtain⟨y,ak,az⟩:=(hp _).1 h.2
  split
  ·exact o2
  ·rw[aQ,az,eK,eK];exact UB (anq L ak)
 ·exact o2
def UC (p q:Raw×Int):okF (vj p q).1:=by
 unfold vj
 split
 ·split
  ·exact aoO _ _
  ·exact o2
 ·exact o2
def UD (a b:ax):okF (ou a b).1:=by
 unfold ou
 split
 ·split
  ·exact UC _ _
  ·exact o2
 ·exact o2
def FQ (a b:ax):okF (kn a b).1:=by
 unfold kn
 split
 ·split
  ·exact UD _ _
  ·exact o2
 ·exact o2
def OI (a b:ax):okF (iC a b).1:=by
 unfold iC
 split
 ·split
  ·exact UC _ _
  ·exact o2
 ·exact o2
def OJ (a b:ax):okF (fL a b).1:=by
 unfold fL
 split
 ·split
  ·split
   ·exact o2
   ·exact UC _ _
  ·exact o2
 ·exact o2
def UE {x:dn}{c:Nat}{f:ax}(h:x.2.2[c]?=some f):cellOf x c=f:=by
 unfold cellOf;rw[dH,h]
 rfl
def rA {rows:List dn}{i:Nat}{x:dn}(h:rows[i]?=some x):rowAt rows i=x:=by
 unfold rowAt;rw[dH,h]
 rfl
def uj {l:List ax}{k:Nat}(h:k<D l):(k*4+4<=(aS av l).length)=True:=eq_true (by rw[jU jt];omega)
def CH {l:List ax}{k:Nat}{a b c d}(h:l[k]?=some ((a,b),(c,d))):mZ 4 (nL (k*4) (aS av l))=[.J (.int .i64 a),.J (.ar (b.map aI)),.J (.int .i64 c),.J (.ar (d.map aI))]:=by
 have:=aoJ h;unfold cut at this;rw[aL (by rw[jU jt];have:=(dL.1 h).1;omega)] at this;exact mm this
def yZ {l:List ax}{k:Nat}(h:k<D l)(a:Int)(b:List Int)(c:Int)(d:List Int):
  mZ (k*4) (aS av l)++[I.J (.int .i64 a),.J (.ar (b.map aI)),.J (.int .i64 c),.J (.ar (d.map aI))]++nL (k*4+4) (aS av l)=aS av (l.set k ((a,b),(c,d))):=by
 rw[<-Nd jt h]
 rfl
def CI {N:Nat}{rows:List dn}{i:Nat}(h:i<D rows):(i+1<=(refsOf N rows).length)=True:=eq_true (by unfold refsOf;rw[aj];omega)
def FR {N:Nat}{rows:List dn}{i:Nat}{x:dn}(h:rows[i]?=some x):mZ 1 (nL i (refsOf N rows))=[.ref (x.1+900000) x.2.1 4 0 (N+1)]:=by
 have:=aoK (N:=N) h;unfold cut at this;rw[aL (by unfold refsOf;rw[aj];have:=(dL.1 h).1;omega)] at this;exact mm this
def acP {N:Nat}{rows:List dn}{i:Nat}(h:i<D rows)(b:dn):mZ i (refsOf N rows)++[I.ref (b.1+900000) b.2.1 4 0 (N+1)]++nL (i+1) (refsOf N rows)=refsOf N (rows.set i b):=by
 unfold refsOf;rw[CF,List.set_eq_take_append_cons_drop,aL (by rw[aj];exact h),ki]
 rfl
def acQ (lG:ax):∀(l p:List ax) (b:Bool),(jE lG l p b).1.length=D l
 | [],_,_=>by simp[jE]
 |f::dB,[],b=>by cases b<;>simp[jE]
 |f::dB,p::cV,true=>by simp[jE]
 |f::dB,p::cV,false=>by simp[jE,acQ lG dB cV]
def UF (lG:ax)(l p:List ax):jE lG l p true=(l,true):=by
 cases l<;>cases p<;>simp[jE]
def acR (lG:ax)(p:List ax)(b:Bool):jE lG [] p b=([],b):=by
 cases b<;>simp[jE]
def aoP {α:Type}(f:α->α){l:List α}{k:Nat}{x:α}(h:l[k]?=some x):((l.take k).map f++l.drop k).set k (f x)=(l.take (k+1)).map f++l.drop (k+1):=by
 obtain⟨aq,L⟩:=dL.1 h;have ag:((l.take k).map f).length=k:=by rw[aj,gk];omega
 rw[Az _ _ (by omega),ag,hG,gx aq,qM,ho,h,pT,ki]
 rfl
def aoQ {α:Type}(f:α->α){l:List α}{k:Nat}:((l.take k).map f++l.drop k)[k]?=l[k]?:=by
 rcases gY k (D l) with h|h
 ·have ag:((l.take k).map f).length=k:=by rw[aj,gk];omega
  rw[r4 (by omega),ag,hG,oI,lo]
 ·rw[lk h,lk (by rw[ks,aj,gk,pG];omega)]
def JO {α:Type}{rows:List α}{r i:Nat}{x pU:α}(L:rows[i]?=some x)(lH:rows[r]?=some pU):((rows.set r x).set i pU)[r]?=some x:=by
 have F:=(dL.1 L).1;have G:=(dL.1 lH).1;rw[lF,lF,fk]
 by_cases h:i=r
 ·subst h;rw[L] at lH
  cases lH;rw[aL rfl,aL F]
 ·rw[aT h,aL rfl,aL G]
def UG {α:Type}{l:List α}{i:Nat}{x:α}(h:l[i]?=some x):l.set i x=l:=by
 obtain⟨aq,L⟩:=dL.1 h;apply qm;intro j;rw[lF]
 by_cases hX:i=j
 ·subst hX;rw[aL rfl,aL aq,h]
 ·rw[aT hX]
def aoR (a b:Nat):(!(a+900000==129015)||decide (2<b*4))=true:=by
 have:(a+900000==129015)=false:=by simp
 rw[this];rfl
def UH:FP 168004:=by unfold FP;omega
def UI:FP 168006:=by unfold FP;omega
def e1.sub:e1->List Nat->e1
 |.seq a _,0::p=>a.sub p
 |.seq _ b,_::p=>b.sub p
 |.cond _ a _,0::p=>a.sub p
 |.cond _ _ b,_::p=>b.sub p
 |.block _ c,_::p=>c.sub p
 |.ghost _ c,_::p=>c.sub p
 |.loop c,_::p=>c.sub p
 |c,_=>c
def ju (f:ax):List I:=[.J (.int .i64 f.1.1),.J (.ar (f.1.2.map aI)),.J (.int .i64 f.2.1),.J (.ar (f.2.2.map aI))]
def aoS (T:bj)(vr:T z7=Ay yX)(sR:T BU=aG Cw)(AA:T yn=aG yT){K:fD->a8->Prop}{kg:List iY}
  (go N r c i2:Nat) (mem:Mem) (AB:mem 168004=none) (AD:mem 168006=none) (hd:N<=40) (sS:List dn) (ov:jD N sS) (x y:dn) (gC:List ax) (qN:sS[i2]?=some y) (aW:sS[r]?=some (x.1,x.2.1,gC)) (CJ:i2≠r) (nw:r<N) (lE:Bool)
  (cJ:Int) (cQ:List Int) (gU:Int) (hQ:List Int) (jT:okF ((cJ,cQ),(gU,hQ))) (tm:Nat->I) (m:Mem) (bh:Nat)
  (fI:tm 0=.ptr 129015 0 0) (aQ:tm 1=.J (.int .i64 r)) (az:tm 2=.J (.int .i64 c)) (wW:tm 12=.ref (y.1+900000) y.2.1 4 0 (N+1)) (JP:tm 13=.ptr 148013 bh 0) (JQ:tm 112=.ref 129035 go 1 0 N) (JR:tm 113=.J (.int .i64 N)) (JS:tm 114=.J (.int .i64 i2)) (acS:tm 14=.J (.int .i64 0))
  (em:m 148013=some (bh,[.J (.int .i64 cJ),.J (.ar (cQ.map aI)),.J (.int .i64 gU),.J (.ar (hQ.map aI))])) (iQ:j2 mem go N sS lE m)
  (ei:∀tm' m' l b,tm' 0=.ptr 129015 0 0->tm' 1=.J (.int .i64 r)->tm' 2=.J (.int .i64 c)->tm' 112=.ref 129035 go 1 0 N->tm' 113=.J (.int .i64 N)->tm' 114=.J (.int .i64 i2)->(l,b)=jE ((cJ,cQ),(gU,hQ)) y.2.2 gC lE->jD N (sS.set i2 (y.1,y.2.1,l))->j2 mem go N (sS.set i2 (y.1,y.2.1,l)) b m'->cO T K kg (.exit 6) ⟨tm',m'⟩) :
  wp T (w6.body.sub [1,1,1,1,1,1,1,0,1,0,0,1,1,0,0,1,1,1,1,0]) (cO T K kg) ⟨tm,m⟩:=by
 simp only[w6,e1.sub];have aoT:i2<N:=by rw[<-ov.len];exact (dL.1 qN).1
 obtain⟨Rk,OK⟩:=ov.row y (cL qN);have aoU:sS.set i2 (y.1,y.2.1,[]++y.2.2.drop 0)=sS:=UG qN
 refine cX [0,1,2,12,13,112,113,114] [148013] (λ((k,pre,b):Nat×List ax×Bool) tm m=>k<=N+1/\D pre=k/\(∀f∈pre,okF f)/\jE ((cJ,cQ),(gU,hQ)) y.2.2 gC lE=(pre++(jE ((cJ,cQ),(gU,hQ)) (y.2.2.drop k) (gC.drop k) b).1,(jE ((cJ,cQ),(gU,hQ)) (y.2.2.drop k) (gC.drop k) b).2)/\tm 14=.J (.int .i64 k)/\j2 mem go N (sS.set i2 (y.1,y.2.1,pre++y.2.2.drop k)) b m) (λ(k,_,_)=>N+1-k) (0,[],lE) (by
  refine⟨dG _,rfl,(by simp),rfl,acS,?_⟩;rw[aoU];exact iQ) ?_
 intro vs ms aK aF;simp only[go_sem,go_sem_proc,fI,aQ,az,wW,JP,JQ,JR,JS,em] at aK aF;subst aK aF;clear fI aQ az wW JP JQ JR JS em acS iQ tm m;rintro⟨ej,pre,b⟩ tm fJ R hm ⟨aAz,yE,AE,JT,Aj,sT⟩;simp only[go_sem,go_sem_proc,bl] at R hm;obtain⟨au,F,G,eI,jb,vt,vu,vv⟩:=R;have aoV:(pre++y.2.2.drop ej).length=N+1:=by rw[ks,pG];omega
 have FT:jD N (sS.set i2 (y.1,y.2.1,pre++y.2.2.drop ej)):=ov.set qN aoV λf al=>by
  rw[h5] at al;rcases al with al|al
  ·exact AE f al
  ·exact OK f (Fj al)
 have acT:(sS.set i2 (y.1,y.2.1,pre++y.2.2.drop ej))[i2]?=some (y.1,y.2.1,pre++y.2.2.drop ej):=by
  rw[lF,aL rfl,aL (by rw[ov.len];exact aoT)]
 have Fy:(sS.set i2 (y.1,y.2.1,pre++y.2.2.drop ej))[r]?=some (x.1,x.2.1,gC):=by
  rw[lF,aT CJ];exact aW
 have uk:=sT.1.m;have xa:=sT.1.o;rcases du (ej<N+1) with aoW|aAA
 ·have AF:decide ((ej:Int)<((N+1:Nat):Int))=true:=c7
  cases b
  ·obtain⟨⟨⟨dx,dW⟩,⟨hR,jf⟩⟩,vw⟩:∃f,y.2.2[ej]?=some f:=⟨_,bf (by omega)⟩;have aAB:(D gC)=N+1:=(ov.row _ (cL aW)).1;obtain⟨⟨⟨kX,ni⟩,⟨rB,vx⟩⟩,UJ⟩:∃f,gC[ej]?=some f:=⟨_,bf (by omega)⟩;have xR:=OK _ (cL vw);have acU:=(ov.row _ (cL aW)).2 _ (cL UJ)
   have UK:(pre++y.2.2.drop ej)[ej]?=some ((dx,dW),(hR,jf)):=by
    rw[r4 (by omega),yE,hG,oI,lo,vw]
   have jY:y.2.2.drop ej=((dx,dW),(hR,jf))::y.2.2.drop (ej+1):=by
    obtain⟨ag,e⟩:=dL.1 vw;rw[gx ag,e]
   have nQ:gC.drop ej=((kX,ni),(rB,vx))::gC.drop (ej+1):=by
    obtain⟨ag,e⟩:=dL.1 UJ;rw[gx ag,e]
   have xV:∀s:ax,(pre++y.2.2.drop ej).set ej s=(pre++[s])++y.2.2.drop (ej+1):=λs=>by
    rw[Az _ _ (by omega),yE,hG,jY,qM,ki];rfl
   have aoX:=sT.1.r _ (cL acT);have aoY:=sT.1.r _ (cL Fy);have sU:fJ 168004=none:=(sT.2 _ UH).trans AB;have FU:fJ 168006=none:=(sT.2 _ UI).trans AD;have t1:=FR (N:=N) Fy;have t2:=CI (N:=N) (rows:=sS.set i2 (y.1,y.2.1,pre++y.2.2.drop ej)) (i:=r) (by rw[FT.len];exact nw);have t3:=CH UK;have t4:=uj (l:=pre++y.2.2.drop ej) (k:=ej) (by omega);have t5:=CH UJ;have t6:=uj (l:=gC) (k:=ej) (by omega);have mw:=e2 (i:=ej) (by omega);have um:=OI ((cJ,cQ),(gU,hQ)) ((kX,ni),(rB,vx));have rC:=FQ ((dx,dW),(hR,jf)) (iC ((cJ,cQ),(gU,hQ)) ((kX,ni),(rB,vx))).1;have JU:=JT;rw[jY,nQ] at JU;simp only[jE] at JU;generalize ic:iC ((cJ,cQ),(gU,hQ)) ((kX,ni),(rB,vx))=dm at *;obtain⟨⟨⟨jn,gI⟩,⟨sV,uo⟩⟩,aQ⟩:=dm;dsimp only at rC JU um;generalize cW:kn ((dx,dW),(hR,jf)) ((jn,gI),(sV,uo))=S at *;obtain⟨⟨⟨v1,v2⟩,⟨fg,v4⟩⟩,az⟩:=S;dsimp only at rC JU;have t7:=yZ (l:=pre++y.2.2.drop ej) (k:=ej) (by omega) v1 v2 fg v4;refine ah ?_;repeat' (intro h<;>simp only[h,go_sem,go_sem_proc,vr,AA,sR,au,F,G,eI,jb,Aj,vt,vu,vv,hm,uk,xa,aoX,aoY,sU,FU,t1,t2,t3,t4,t5,t6,t7,AF,aoW,nw,mw,ic,cW,xR.1,xR.2,acU.1,acU.2,jT.1,jT.2,um.1,um.2,ju,cR,av,dM,yX,FV,qM,decide_true,decide_false,acV,ne_eq,not_false_eq_true,and_self]<;>try refine ae ?_ ?_)
   have mD:=j2.set FT acT ((pre++y.2.2.drop ej).set ej ((v1,v2),(fg,v4))) ((sT.flag (aQ != 0)).flag (aQ != 0||az != 0));rw[acW,xV] at mD;refine⟨aoR _ _,(ej+1,pre++[((v1,v2),(fg,v4))],(aQ != 0||az != 0)),by dsimp only;omega,by dsimp only;omega,by simp[yE],?_,?_,rfl,?_⟩
   ·intro f al;rw[h5,sE] at al;rcases al with al|rfl
    ·exact AE f al
    ·exact rC
   ·rw[JU];dsimp only;rw[ki]
    rfl
   ·dsimp only;rw[xV];exact mD
  ·rw[UF] at JT;refine ah ?_;repeat' (intro h<;>simp only[h,go_sem,go_sem_proc,au,F,G,eI,jb,Aj,vt,vu,vv,uk,xa,AF]<;>try refine ae ?_ ?_)
   refine ei _ _ (pre++y.2.2.drop ej) true ?_ ?_ ?_ ?_ ?_ ?_ JT.symm FT sT<;>simp only[q3,sW,if_false,au,F,G,vt,vu,vv]
 ·have AF:decide ((ej:Int)<((N+1:Nat):Int))=false:=df;have mn:y.2.2.drop ej=[]:=lj (by omega);rw[mn,acR,<-mn] at JT;refine ah ?_;repeat' (intro h<;>simp only[h,go_sem,go_sem_proc,au,F,G,eI,jb,Aj,vt,vu,vv,uk,xa,AF]<;>try refine ae ?_ ?_)
  refine ei _ _ (pre++y.2.2.drop ej) b ?_ ?_ ?_ ?_ ?_ ?_ JT.symm FT sT<;>simp only[q3,sW,if_false,au,F,G,vt,vu,vv]
def aoZ (T:bj)(AG:T IJ=aG JK)(vr:T z7=Ay yX)(sR:T BU=aG Cw)(AA:T yn=aG yT){K:fD->a8->Prop}{kg:List iY}
  (go N r c:Nat) (mem:Mem) (AB:mem 168004=none) (AD:mem 168006=none) (hd:N<=40) (nw:r<N) (CK:c<N+1) (eC:List dn) (CL:jD N eC) (x:dn) (gC:List ax) (oZ:eC[r]?=some (x.1,x.2.1,gC)) (FW:Bool) (tm:Nat->I) (m:Mem)
  (fI:tm 0=.ptr 129015 0 0) (aQ:tm 1=.J (.int .i64 r)) (az:tm 2=.J (.int .i64 c)) (JQ:tm 112=.ref 129035 go 1 0 N) (JR:tm 113=.J (.int .i64 N)) (JS:tm 114=.J (.int .i64 0)) (iQ:j2 mem go N eC FW m)
  (ei:∀tm' m',j2 mem go N (jF gC r c 0 eC FW).1 (jF gC r c 0 eC FW).2 m'->cO T K kg (.exit 4) ⟨tm',m'⟩) :
  wp T (w6.body.sub [1,1,1,1,1,1,1,0,1,0]) (cO T K kg) ⟨tm,m⟩:=by
 simp only[w6,e1.sub]
 refine cX [0,1,2,112,113] [] (λ((i2,o3,lE):Nat×List dn×Bool) tm m=>i2<=N/\D o3=i2/\jF gC r c 0 eC FW=(o3++(jF gC r c i2 (eC.drop i2) lE).1,(jF gC r c i2 (eC.drop i2) lE).2)/\jD N (o3++eC.drop i2)/\(o3++eC.drop i2)[r]?=some (x.1,x.2.1,gC)/\tm 114=.J (.int .i64 i2)/\j2 mem go N (o3++eC.drop i2) lE m) (λ(i2,_,_)=>N-i2) (0,[],FW) (by
  exact⟨dG _,rfl,rfl,CL,oZ,JS,iQ⟩) ?_
 intro vs ms aK aF;simp only[go_sem,go_sem_proc,fI,aQ,az,JQ,JR] at aK aF;subst aK aF;clear fI aQ az JQ JR JS iQ tm m;rintro⟨i2,o3,lE⟩ tm b0 R hm ⟨xN,kH,kx,ov,aW,vv,uq⟩;simp only[go_sem,go_sem_proc,bl] at R hm;obtain⟨au,F,G,vt,vu⟩:=R;have uk:=uq.1.m;have xa:=uq.1.o;have aAC:(D eC)=N:=CL.len;rcases du (i2<N) with OL|aAD
 ·obtain⟨y,ak⟩:∃y,eC[i2]?=some y:=⟨_,bf (by omega)⟩
  have k3:eC.drop i2=y::eC.drop (i2+1):=by
   obtain⟨ag,rfl⟩:=dL.1 ak;exact gx ag
  have qN:(o3++eC.drop i2)[i2]?=some y:=by
   rw[r4 (by omega),kH,hG,oI,lo,ak]
  obtain⟨Rk,OK⟩:=ov.row y (cL qN);have UL:=uq.1.r y (cL qN);obtain⟨⟨⟨cJ,cQ⟩,⟨gU,hQ⟩⟩,aN⟩:∃f,y.2.2[c]?=some f:=⟨_,bf (by omega)⟩;have vh:=UE aN;have t1:=FR (N:=N) qN;have t2:=CI (N:=N) (rows:=o3++eC.drop i2) (i:=i2) (by rw[ov.len];exact OL);have t3:=CH aN;have t4:=uj (l:=y.2.2) (k:=c) (by omega);have js:decide ((i2:Int)<(N:Int))=true:=c7;have hw:=e2 (i:=i2) (by omega)
  have xM:∀z:dn,(o3++[z])++eC.drop (i2+1)=(o3++eC.drop i2).set i2 z:=λz=>by
   rw[Az _ _ (by omega),kH,hG,k3,qM,ki];rfl
  have FX:(o3++[y])++eC.drop (i2+1)=o3++eC.drop i2:=by rw[xM];exact UG qN
  have AH:∀b:Bool,(b=true->i2=r\/(cJ==0)=true)->b=true->jF gC r c 0 eC FW=((o3++[y])++(jF gC r c (i2+1) (eC.drop (i2+1)) lE).1,(jF gC r c (i2+1) (eC.drop (i2+1)) lE).2):=by
   intro b U UM
   have UN:(i2==r||hP (cellOf y c))=true:=by
    rcases U UM with h|h
    ·rw[h,beq_self_eq_true];rfl
    ·rw[vh];have:hP ((cJ,cQ),(gU,hQ))=true:=h;rw[this,Bool.or_true]
   rw[kx,k3];simp only[jF];rw[aL UN,ki]
   rfl
  rcases y0:((i2:Int)==(r:Int))
  ·have CJ:i2≠r:=by intro h;rw[h] at y0;simp at y0
   rcases OM:(cJ==0)
   ·have jT:okF ((cJ,cQ),(gU,hQ)):=OK _ (cL aN);simp only[go_sem,go_sem_proc,AG,au,F,G,vt,vu,vv,uk,xa,UL,t1,t2,t3,t4,OL,js,CK,y0,OM,dM];refine aoS T vr sR AA go N r c i2 mem AB AD hd (o3++eC.drop i2) ov x y gC qN aW CJ nw lE cJ cQ gU hQ jT _ _ (gM (b0 148013)) ?_ ?_ ?_ ?_ ?_ ?_ ?_ ?_ ?_ ?_ ((uq.own (.inr (.inr rfl))).own (.inr (.inr rfl))) ?_
    ·exact au
    ·exact F
    ·exact G
    ·rfl
    ·rfl
    ·exact vt
    ·exact vu
    ·exact vv
    ·rfl
    ·simp[aV]
    ·intro tm' m' l b er bo c5 ao0 ao1 ao2 qE FT sT;refine ah ?_;repeat' (intro (ai:_=_)<;>simp only[ai,go_sem,go_sem_proc,au,F,G,er,bo,c5,ao0,ao1,ao2,hw]<;>try refine ae ?_ ?_)
     refine⟨(i2+1,o3++[(y.1,y.2.1,l)],b),by dsimp only;omega,by dsimp only;omega,by simp[kH],?_,by dsimp only;rw[xM];exact FT,by dsimp only;rw[xM,lF,aT CJ];exact aW,rfl,?_⟩
     ·have UN:¬ (i2==r||hP (cellOf y c))=true:=by
       rw[vh];have F:hP ((cJ,cQ),(gU,hQ))=false:=OM;have G:(i2==r)=false:=by simpa using CJ
       rw[F,G];simp
      rw[kx,k3];simp only[jF];rw[aT UN,vh,<-qE,ki]
      rfl
     ·dsimp only;rw[xM];exact sT
   ·refine ah ?_;repeat' (intro (ai:_=_)<;>simp only[ai,go_sem,go_sem_proc,AG,au,F,G,vt,vu,vv,uk,xa,UL,t1,t2,t3,t4,OL,js,CK,hw,y0,OM,dM]<;>try refine ae ?_ ?_)
    refine⟨(i2+1,o3++[y],lE),by dsimp only;omega,by dsimp only;omega,by simp[kH],AH true (λ_ => .inr OM) rfl,by dsimp only;rw[FX];exact ov,by dsimp only;rw[FX];exact aW,rfl,?_⟩
    dsimp only;rw[FX];exact (uq.own (.inr (.inr rfl))).own (.inr (.inr rfl))
  ·have CJ:i2=r:=by have h:=beq_iff_eq.1 y0;omega
   refine ah ?_;repeat' (intro (ai:_=_)<;>simp only[ai,go_sem,go_sem_proc,AG,au,F,G,vt,vu,vv,uk,xa,UL,t1,t2,t3,t4,OL,js,CK,hw,y0,dM]<;>try refine ae ?_ ?_)
   refine⟨(i2+1,o3++[y],lE),by dsimp only;omega,by dsimp only;omega,by simp[kH],AH true (λ_ => .inl CJ) rfl,by dsimp only;rw[FX];exact ov,by dsimp only;rw[FX];exact aW,rfl,?_⟩
   dsimp only;rw[FX];exact (uq.own (.inr (.inr rfl))).own (.inr (.inr rfl))
 ·have eZ:i2=N:=by omega
  have js:decide ((i2:Int)<(N:Int))=false:=df;have zW:eC.drop i2=[]:=lj (by omega);rw[zW] at kx uq;simp only[jF,mX] at kx uq;rw[kx] at ei;refine ah ?_;repeat' (intro (ai:_=_)<;>simp only[ai,go_sem,go_sem_proc,au,F,G,vt,vu,vv,uk,xa,js]<;>try refine ae ?_ ?_)
  exact ei _ _ uq
def ao3 (T:bj)(vr:T z7=Ay yX)(UO:T EU=aG Cx){K:fD->a8->Prop}{kg:List iY}
  (go N r c:Nat) (mem:Mem) (AB:mem 168004=none) (AD:mem 168006=none) (hd:N<=40) (nw:r<N) (gD:List dn) (FY:jD N gD) (x:dn) (sX:gD[r]?=some x) (f1:Int) (f2:List Int) (f3:Int) (f4:List Int) (jQ:okF ((f1,f2),(f3,f4))) (tm:Nat->I) (m:Mem) (bh:Nat)
  (fI:tm 0=.ptr 129015 0 0) (aQ:tm 1=.J (.int .i64 r)) (az:tm 2=.J (.int .i64 c)) (AI:tm 8=.ptr 148008 bh 0) (acX:tm 85=.ref (x.1+900000) x.2.1 4 0 (N+1)) (acY:tm 86=.J (.int .i64 ((N+1:Nat):Int))) (acZ:tm 87=.J (.int .i64 0))
  (em:m 148008=some (bh,[.J (.int .i64 f1),.J (.ar (f2.map aI)),.J (.int .i64 f3),.J (.ar (f4.map aI))])) (iQ:j2 mem go N gD false m)
  (ei:∀tm' m',tm' 0=.ptr 129015 0 0->tm' 1=.J (.int .i64 r)->tm' 2=.J (.int .i64 c)->jD N (gD.set r (x.1,x.2.1,(j3 ((f1,f2),(f3,f4)) x.2.2).1))->j2 mem go N (gD.set r (x.1,x.2.1,(j3 ((f1,f2),(f3,f4)) x.2.2).1)) (j3 ((f1,f2),(f3,f4)) x.2.2).2 m'->cO T K kg (.exit 2) ⟨tm',m'⟩) :
  wp T (w6.body.sub [1,1,1,1,1,1,0,1,0]) (cO T K kg) ⟨tm,m⟩:=by
 simp only[w6,e1.sub];obtain⟨q5,hr⟩:=FY.row x (cL sX)
 have ao4:∀l:List ax,(gD.set r (x.1,x.2.1,l))[r]?=some (x.1,x.2.1,l):=λl=>by
  rw[lF,aL rfl,aL (by rw[FY.len];exact nw)]
 refine cX [0,1,2,8,85,86] [148008] (λ(k:Nat) tm m=>k<=N+1/\tm 87=.J (.int .i64 k)/\j2 mem go N (gD.set r (x.1,x.2.1,(x.2.2.take k).map (λf=>(fL f ((f1,f2),(f3,f4))).1)++x.2.2.drop k)) ((x.2.2.take k).any λf=>(fL f ((f1,f2),(f3,f4))).2 != 0) m) (λk=>N+1-k) 0 (by
  refine⟨dG _,acZ,?_⟩;have e:gD.set r (x.1,x.2.1,(x.2.2.take 0).map (λf=>(fL f ((f1,f2),(f3,f4))).1)++x.2.2.drop 0)=gD:=UG sX;rw[e];exact iQ) ?_
 intro vs ms aK aF;simp only[go_sem,go_sem_proc,fI,aQ,az,AI,acX,acY,em] at aK aF;subst aK aF;clear fI aQ az AI acX acY acZ em iQ tm m;rintro k tm m R hm ⟨aAE,ac0,iQ⟩;simp only[go_sem,go_sem_proc,bl] at R hm;obtain⟨au,F,G,cd,ac1,ac2⟩:=R
 have eb:((x.2.2.take k).map (λf=>(fL f ((f1,f2),(f3,f4))).1)++x.2.2.drop k).length=N+1:=by
  rw[ks,aj,gk,pG];omega
 have CL:jD N (gD.set r (x.1,x.2.1,(x.2.2.take k).map (λf=>(fL f ((f1,f2),(f3,f4))).1)++x.2.2.drop k)):=by
  refine FY.set sX eb λf al=>?_;rw[h5] at al;rcases al with al|al
  ·obtain⟨AJ,-,rfl⟩:=h7.1 al;exact OJ _ _
  ·exact hr f (Fj al)
 have oZ:=ao4 ((x.2.2.take k).map (λf=>(fL f ((f1,f2),(f3,f4))).1)++x.2.2.drop k);rcases du (k<N+1) with UP|ao5
 ·obtain⟨⟨⟨dx,dW⟩,⟨hR,jf⟩⟩,vw⟩:∃f,x.2.2[k]?=some f:=⟨_,bf (by omega)⟩;have UK:=(aoQ (λf=>(fL f ((f1,f2),(f3,f4))).1) (l:=x.2.2) (k:=k)).trans vw;have xV:=aoP (λf=>(fL f ((f1,f2),(f3,f4))).1) vw
  have u0:(x.2.2.take (k+1)).any (λf=>(fL f ((f1,f2),(f3,f4))).2 != 0)=((x.2.2.take k).any (λf=>(fL f ((f1,f2),(f3,f4))).2 != 0)||(fL ((dx,dW),(hR,jf)) ((f1,f2),(f3,f4))).2 != 0):=by
   rw[ho,vw,List.any_append];simp
  obtain⟨ao6,ao7⟩:=hr _ (cL vw);generalize (x.2.2.take k).map (λf=>(fL f ((f1,f2),(f3,f4))).1)++x.2.2.drop k=cur at *;generalize ((x.2.2.take k).any λf=>(fL f ((f1,f2),(f3,f4))).2 != 0)=lE at *;have uk:=iQ.1.m;have xa:=iQ.1.o;have ao8:=iQ.1.r _ (cL oZ);have sU:m 168004=none:=(iQ.2 _ UH).trans AB;have FU:m 168006=none:=(iQ.2 _ UI).trans AD;have t1:=FR (N:=N) oZ;have t2:=CI (N:=N) (rows:=gD.set r (x.1,x.2.1,cur)) (i:=r) (by rw[CL.len];exact nw);have t3:=CH UK;have t4:=uj (l:=cur) (k:=k) (by omega);have AF:decide ((k:Int)<((N+1:Nat):Int))=true:=c7;have hw:=e2 (i:=k) (by omega);generalize oR:fL ((dx,dW),(hR,jf)) ((f1,f2),(f3,f4))=V at *;obtain⟨⟨⟨v1,v2⟩,⟨fg,v4⟩⟩,sK⟩:=V;dsimp only at xV u0;have t5:=yZ (l:=cur) (k:=k) (by omega) v1 v2 fg v4;refine ah ?_;repeat' (intro h<;>simp only[h,go_sem,go_sem_proc,vr,UO,au,F,G,cd,ac1,ac2,ac0,hm,uk,xa,ao8,sU,FU,t1,t2,t3,t4,t5,AF,UP,nw,hw,oR,ao6,ao7,jQ.1,jQ.2,cR,av,dM,yX,FV,qM,decide_true,decide_false,acV,ne_eq,not_false_eq_true,and_self]<;>try refine ae ?_ ?_)
  have aQ:=j2.set CL oZ (cur.set k ((v1,v2),(fg,v4))) (((iQ.own (k:=148010) (g:=gM (m 148010)) (cs:=[I.J (Data.int IntKind.i64 0),I.nil,I.J (Data.int IntKind.i64 0),I.nil]) (.inr (.inl rfl))).own (k:=148010) (g:=gM (m 148010)) (cs:=[I.J (Data.int IntKind.i64 dx),I.J (Data.ar (ON aI dW)),I.J (Data.int IntKind.i64 hR),I.J (Data.ar (ON aI jf))]) (.inr (.inl rfl))).flag (lE||sK != 0));rw[acW,xV] at aQ;refine⟨k+1,by omega,by omega,rfl,?_⟩
  show j2 mem go N _ ((x.2.2.take (k+1)).any λf=>(fL f ((f1,f2),(f3,f4))).2 != 0) _;rw[u0,xV];exact aQ
 ·have aAF:k=N+1:=by omega
  have ao9:(x.2.2.take k).map (λf=>(fL f ((f1,f2),(f3,f4))).1)++x.2.2.drop k=(j3 ((f1,f2),(f3,f4)) x.2.2).1:=by
   unfold j3;rw[dF (by omega),lj (by omega),mX]
  have apa:((x.2.2.take k).any λf=>(fL f ((f1,f2),(f3,f4))).2 != 0)=(j3 ((f1,f2),(f3,f4)) x.2.2).2:=by
   unfold j3;rw[dF (by omega)]
  rw[ao9] at CL iQ;rw[apa] at iQ;have AF:decide ((k:Int)<((N+1:Nat):Int))=false:=df;refine ah ?_;repeat' (intro h<;>simp only[h,go_sem,go_sem_proc,au,F,G,cd,ac1,ac2,ac0,hm,AF]<;>try refine ae ?_ ?_)
  refine ei _ _ ?_ ?_ ?_ CL iQ<;>simp only[q3,sW,if_false,au,F,G]
def apb (T:bj)(AG:T IJ=aG JK)(vr:T z7=Ay yX)(UO:T EU=aG Cx)(sR:T BU=aG Cw)(AA:T yn=aG yT)
  (go N:Nat) (rows:List dn) (r c:Nat) (hn:Mem) (dy:jD N rows) (ha:yY go N rows false hn) (AB:hn 168004=none) (AD:hn 168006=none) (hd:N<=40) (wj:r<=c) (o4:c<N) :
  wp T w6.body (uf w6.res λm mem'=>m=.J (.bool (j4 rows r c).1)/\j2 hn go N (j4 rows r c).2.1 (j4 rows r c).2.2 mem') ⟨ke [.ptr 129015 0 0,.J (.int .i64 r),.J (.int .i64 c)],hn⟩:=by
 refine xY ?_;simp only[w6];simp only[go_sem,go_sem_proc];refine cX [0,1,2] [] (λ(i:Nat) tm mem=>r<=i/\i<=N/\(∀j y,r<=j->j<i->rows[j]?=some y->hP (cellOf y c)=true)/\tm 7=.J (.int .i64 i)/\mem=hn) (λi=>N-i) r (by refine⟨c9 _,by omega,λj y F G=>by omega,rfl,rfl⟩) ?_;intro vs ms aK aF;simp only[go_sem,go_sem_proc] at aK aF;subst aK aF;rintro i tm mem R hm ⟨wx,JV,a2,bM,rfl⟩;simp only[go_sem,go_sem_proc,bl] at R hm;obtain⟨au,F,G⟩:=R;have vy:=ha.m;have JW:=ha.o;have hlen:=dy.len;rcases du (i<N) with aq|bD
 ·have L:∃x,rows[i]?=some x:=⟨_,bf (by omega)⟩;obtain⟨x,L⟩:=L;obtain⟨q5,hr⟩:=dy.row x (cL L);have ac3:=ha.r x (cL L);have al:∃f,x.2.2[c]?=some f:=⟨_,bf (by omega)⟩;obtain⟨⟨⟨f1,f2⟩,⟨f3,f4⟩⟩,al⟩:=al;have ac4:=FR (N:=N) L;have ac5:=CI (N:=N) (rows:=rows) (i:=i) (by omega);have ac6:=CH al;have vz:=uj (l:=x.2.2) (k:=c) (by omega);have n5:=UE al;have kK:decide ((i:Int)<(N:Int))=true:=c7;have CK:c<N+1:=by omega
  rcases lW:(f1==0)
  ·have JX:findAt rows r c=i:=aoM L wx a2 (by rw[n5];exact lW);obtain⟨pU,lH⟩:∃x,rows[r]?=some x:=⟨_,bf (by omega)⟩
   have ac7:j4 rows r c=(false,jF (j3 ((f1,f2),(f3,f4)) x.2.2).1 r c 0 (((rows.set r x).set i pU).set r (x.1,x.2.1,(j3 ((f1,f2),(f3,f4)) x.2.2).1)) (j3 ((f1,f2),(f3,f4)) x.2.2).2):=by
    unfold j4 CG;rw[aT (by omega),JX];have:rowAt (mC rows r i) r=x:=rA (by unfold mC;rw[rA L,rA lH];exact JO L lH);rw[this,n5];unfold mC;rw[rA L,rA lH]
   rw[ac7];clear ac7;have FY:jD N ((rows.set r x).set i pU):=dy.swap lH L;have apc:j2 mem go N ((rows.set r x).set i pU) false _:=j2.swap lH L ⟨ha,λ_ _=>rfl⟩;have sX:((rows.set r x).set i pU)[r]?=some x:=JO L lH;have nw:r<N:=by omega
   have s1:=FR (N:=N) lH;have s2:=CI (N:=N) (rows:=rows) (i:=r) (by omega);have bU:=acP (N:=N) (rows:=rows) (i:=r) (by omega) x;have bW:=CI (N:=N) (rows:=rows.set r x) (i:=i) (by rw[fk];omega);have OO:=acP (N:=N) (rows:=rows.set r x) (i:=i) (by rw[fk];omega) pU;have apd:=FR (N:=N) sX;have ape:=CI (N:=N) (rows:=(rows.set r x).set i pU) (i:=r) (by rw[fk,fk];omega);generalize vA:(rows.set r x).set i pU=gD at *;have jQ:=hr _ (cL al);have aAG:decide ((i:Int)<(N:Int))=true:=kK;have apf:((i:Int)==(N:Int))=false:=by simp;omega
   simp only[go_sem,go_sem_proc,AG,vr,au,F,G,bM,vy,JW,ac3,ac4,ac5,ac6,vz,aq,kK,CK,lW,dM,nw,s1,s2,bU,bW,OO,apd,ape,apf];refine ao3 T vr UO go N r c mem AB AD hd nw gD FY x sX f1 f2 f3 f4 jQ _ _ (gM (mem 148008)) ?_ ?_ ?_ ?_ ?_ ?_ ?_ ?_ ((apc.own (.inl rfl)).own (.inl rfl)) ?_
   ·exact au
   ·exact F
   ·exact G
   ·rfl
   ·rfl
   ·rfl
   ·rfl
   ·simp[aV]
   intro tm' m' er bo c5 ov uq;have uk:=uq.1.m
   have aW:(gD.set r (x.1,x.2.1,(j3 ((f1,f2),(f3,f4)) x.2.2).1))[r]?=some (x.1,x.2.1,(j3 ((f1,f2),(f3,f4)) x.2.2).1):=by
    rw[lF,aL rfl,aL (by rw[FY.len];exact nw)]
   simp only[go_sem,go_sem_proc,er,bo,c5,uk];refine aoZ T AG vr sR AA go N r c mem AB AD hd nw CK _ ov x _ aW _ _ _ ?_ ?_ ?_ ?_ ?_ ?_ uq ?_
   ·exact er
   ·exact bo
   ·exact c5
   ·rfl
   ·rfl
   ·rfl
   intro aAH fJ sT;refine ah ?_;repeat' (intro h<;>simp only[h,go_sem,go_sem_proc]<;>try refine ae ?_ ?_)
   exact⟨_,rfl,rfl,sT⟩
  ·have hw:=e2 (i:=i) (by omega);refine ah ?_;repeat' (intro h<;>simp only[h,go_sem,go_sem_proc,AG,vr,au,F,G,bM,vy,JW,ac3,ac4,ac5,ac6,vz,aq,kK,CK,lW,hw,dM]<;>try refine ae ?_ ?_)
   refine⟨i+1,by omega,by omega,by omega,?_,rfl⟩
   intro j y nX wo ak
   by_cases kV:j=i
   ·subst kV;rw[L] at ak
    cases ak;rw[n5];exact lW
   ·exact a2 j y nX (by omega) ak
 ·have apg:i=N:=by omega
  subst apg;have kK:decide ((i:Int)<(i:Int))=false:=df;have aph:=aoN (rows:=rows) (r:=r) (c:=c) (by omega) (λj y aa ak=>a2 j y aa (by have:=(dL.1 ak).1;omega) ak);have aR:j4 rows r c=(true,rows,false):=by unfold j4;rw[aL aph]
  rw[aR];refine ah ?_;repeat' (intro h<;>simp only[h,go_sem,go_sem_proc,AG,vr,au,F,G,bM,vy,JW,kK,beq_self_eq_true]<;>try refine ae ?_ ?_)
  exact⟨_,rfl,rfl,ha,λ_ _=>rfl⟩
structure OP where
 go:Nat
 N:Nat
 rows:List dn
 r:Nat
 c:Nat
def UQ (a:OP)(mem:Mem):Prop:=jD a.N a.rows/\yY a.go a.N a.rows false mem/\mem 168004=none/\mem 168006=none/\a.N<=40/\a.r<=a.c/\a.c<a.N
def UR (a:OP)(mem:Mem):I->Mem->Prop:=λm mem'=>m=.J (.bool (j4 a.rows a.r a.c).1)/\j2 mem a.go a.N (j4 a.rows a.r a.c).2.1 (j4 a.rows a.r a.c).2.2 mem'
def JY:List I->Mem->Option (I->Mem->Prop):=CE (λ(a:OP) args mem=>args=[.ptr 129015 0 0,.J (.int .i64 a.r),.J (.int .i64 a.c)]/\UQ a mem) UR
def api {N:Nat}{a b:List dn}(h:refsOf N a=refsOf N b):a.map (λx=>(x.1,x.2.1))=b.map λx=>(x.1,x.2.1):=by
 induction a generalizing b with
 |nil=>cases b with
  |nil=>rfl
  |cons y r=>simp[refsOf] at h
 |cons x a a4=>cases b with
  |nil=>simp[refsOf] at h
  |cons y b =>
   simp only[refsOf,g0,bl,I.ref.injEq] at h;have F:x.1=y.1:=by have:=h.1.1;simp only[Key] at this;omega
   simp only[g0,bl,eM];exact⟨⟨F,h.1.2.1⟩,a4 h.2⟩
def apj (a:OP)(mem:Mem)(h:UQ a mem):JY [.ptr 129015 0 0,.J (.int .i64 a.r),.J (.int .i64 a.c)] mem=some (UR a mem):=by
 unfold JY;refine Ux (a:=a) ?_ ⟨rfl,h⟩;rintro a b args mem ⟨F,G,ad,_⟩ ⟨aZ,bw,bA,_⟩;rw[F] at aZ;simp only[bl,I.J.injEq,Data.int.injEq,true_and,and_true] at aZ;have hm:=ad.m;rw[bA.m] at hm;simp only[bO,eM,bl,I.ref.injEq,true_and,and_true] at hm;obtain⟨⟨aN,aC⟩,-⟩:=hm;have a6:=ad.o;rw[bA.o] at a6;simp only[bO,eM] at a6;obtain⟨bJ,aAI,US,dx,dW⟩:=a;obtain⟨aAJ,aAK,UT,bT,cB⟩:=b;dsimp only at *;subst aN aC
 have M:UT=US:=by
  have bM:=api a6.2;have ag:(D UT)=D US:=by have:=congrArg D bM;simpa using this
  apply List.ext_getElem ag;intro i zK xN;have cd:(UT.map λx=>(x.1,x.2.1))[i]?=(US.map λx=>(x.1,x.2.1))[i]?:=by rw[bM]
  rw[bg,bg,bf zK,bf xN] at cd;simp only[kU,bO,eM] at cd;have gJ:=bA.r _ (hb zK);have lp:=ad.r _ (hb xN);rw[cd.1,lp] at gJ;simp only[bO,eM] at gJ;have:=aoL gJ.2;exact cz cd.1 (cz cd.2 this.symm)
 subst M;have aQ:dx=bT:=by omega
 have az:dW=cB:=by omega
 subst aQ az
 rfl
def apk {args:List I}{mem:Mem}{bH:I->Mem->Prop}(h:JY args mem=some bH):∃a,args=[.ptr 129015 0 0,.J (.int .i64 a.r),.J (.int .i64 a.c)]/\UQ a mem/\bH=UR a mem:=by
 obtain⟨a,⟨F,G⟩,ad⟩:=Uy h;exact⟨a,F,G,ad⟩
def JZ (l:List ax):((l.map av).all λe=>D e==4)=true:=by simp[av]
abbrev OQ:List ax->List Data:=λ(l:List ax)=>[.ar (l.map av)]
def FZ:=bI OQ λ(l:List ax)=>ca (D l<=1000000) (.own 4 (l.map av))
def apl:∀a b,OQ a=OQ b->a=b:=by
  intro hZ Z h;exact map_inj j1 _ _ (by simpa using h)
@[go_sem] def apm (l):=cl FZ rfl apl l rfl
def apn (T:bj):WF T aak FZ:=by
 refine b7 λl=>cq λY=>⟨rfl,b6 ?_⟩;simp only[aak,OQ,bX]
 have c1:lf 147005 0 4 0 64 (D l) ((l.map av).flatten.map .J) (some (0,[]))=some (.ref 147005 1 4 0 (D l),some (147005,1,aS av l)):=by
  have:=z1 jt vm 147005 0 64 [] l (by simp;omega) (by simp;omega)
  simpa [aS] using this
 have hlen:(aS av l).length=D l*4:=jU jt l;refine ah ?_;repeat' (intro h<;>simp only[h,go_sem,go_sem_proc,JZ,c1,aj]<;>try refine ae ?_ ?_)
 rintro b U
 cases b
 ·refine ah ?_;repeat' (intro h<;>simp only[h,go_sem,go_sem_proc,JZ,c1,aj,qy,hlen]<;>try refine ae ?_ ?_)
  rw[aL (by omega),dF (by omega)];unfold aS;rw[z2 _ λd=>rfl];have:=z3 (sz:=4) (l.map av) (by intro e he;obtain⟨f,-,rfl⟩:=h7.1 he;rfl);rw[aj] at this;simp[this]
 ·cases l with
  |nil =>
       refine ah ?_;repeat' (intro h<;>simp only[h,go_sem,go_sem_proc,qy,bP]<;>try refine ae ?_ ?_)
  |cons x r=>simp at U
def hS (rs:List cb):List dn:=rs.zipIdx.map λp=>(p.2,0,p.1.1++[p.1.2])
def J0 (rs:List cb):(hS rs).length=D rs:=by simp[hS]
def apo {rs:List cb}{i:Nat}{r:cb}(h:rs[i]?=some r):(hS rs)[i]?=some (i,0,r.1++[r.2]):=by
 unfold hS;rw[bg,UU,h];simp
def UW {rs:List cb}{i:Nat}{r:cb}(h:rs[i]?=some r):(hS rs).take (i+1)=(hS rs).take i++[(i,0,r.1++[r.2])]:=by
 rw[ho,apo h]
 rfl
def apq {rs:List cb}{i:Nat}{x:dn}(h:x∈(hS rs).take i):x.1<i/\x.2.1=0:=by
 obtain⟨j,aa⟩:=ye.1 h;rw[List.getElem?_take] at aa
 split at aa
 ·rename_i kV;unfold hS at aa;rw[bg,UU] at aa
  cases M:rs[j]? with
  |none=>rw[M] at aa;cases aa
  |some r =>
   rw[M] at aa;simp only[kU,bO] at aa;subst aa;exact⟨by simpa using kV,rfl⟩
 ·cases aa
def apr (N:Nat)(a b:List dn):refsOf N (a++b)=refsOf N a++refsOf N b:=by simp[refsOf]
def F0 (N:Nat)(a:List dn):(refsOf N a).length=D a:=by simp[refsOf]
structure y1 (N:Nat) (rs:List cb) (i go:Nat) (mem:Mem):Prop where
 z:i=0->mem 129015=some (0,[.nil,.J (.int .i64 N),.J (.bool false)])
 p:0<i->mem 129015=some (0,[.ref 129035 go 1 0 i,.J (.int .i64 N),.J (.bool false)])/\mem 129035=some (go,refsOf N ((hS rs).take i))
 r:∀x∈(hS rs).take i,mem (x.1+900000)=some (x.2.1,aS av x.2.2)
 n:∀j:Nat,i<=j->mem (j+900000)=none
 a:mem 168004=none
 b:mem 168006=none
def ac8 (l:List ax):(l.map av).flatten.map I.J=aS av l:=rfl
def aps (bh:Nat)(l:List ax)(v1:Int)(v2:List Int)(fg:Int)(v4:List Int)(h:(D l)<=1000000):lf 129029 bh 4 (D l) 64 1 [.J (.int .i64 v1),.J (.ar (v2.map aI)),.J (.int .i64 fg),.J (.ar (v4.map aI))] (some (bh,aS av l))=some (.ref 129029 (bh+1) 4 0 (D l+1),some (129029,bh+1,aS av (l++[((v1,v2),(fg,v4))]))) :=
 lq jt vm 129029 bh 64 l ((v1,v2),(fg,v4)) rfl (by omega) (by omega)
def apt (N bh i g:Nat)(a:List dn)(ab:(D a)=i)(h:i<=1000)(m:I)(hm:m=.ref 129029 g 4 0 (N+1)):lf 129035 bh 1 i 24 1 [m] (some (bh,refsOf N a))=some (.ref 129035 (bh+1) 1 0 (i+1),some (129035,bh+1,refsOf N a++[m])):=by
 subst hm;unfold lf;dsimp only;rw[aL ⟨rfl,by rw[F0];omega,by omega,by unfold maxLen;omega,rfl⟩,dF (by rw[F0];omega)]
def apu {N i go go' bh:Nat}{rs:List cb}{r:cb}{m m':Mem}(U:y1 N rs i go m)(M:rs[i]?=some r)(wX:m' 129015=some (0,[.ref 129035 go' 1 0 (i+1),.J (.int .i64 N),.J (.bool false)]))(al:∀k:Nat,900000<=k\/k=168004\/k=168006->m' k=m k):
  y1 N rs (i+1) go' (aV (aV (aV m' 129029 (bB m' 129029) []) (i+900000) (bB m' (i+900000)) (aS av (r.1++[r.2]))) 129035 go' ((refsOf N ((hS rs).take i)++[I.ref 129029 bh 4 0 (N+1)]).set i (I.ref (i+900000) (bB m' (i+900000)) 4 0 (N+1)))):=by
 have aq:=(dL.1 M).1
 have aN:bB m' (i+900000)=0:=by
  unfold bB;rw[al _ (.inl (by omega)),U.n i (c9 _)]
 have k5:(refsOf N ((hS rs).take i)).length=i:=by rw[F0,gk,J0];omega
 rw[aN]
 have tz:(refsOf N ((hS rs).take i)++[I.ref 129029 bh 4 0 (N+1)]).set i (.ref (i+900000) 0 4 0 (N+1))=refsOf N ((hS rs).take (i+1)):=by
  rw[Az _ _ (by omega),k5,hG,qM,UW M,apr]
  rfl
 rw[tz];have J1:∀(k:Nat),k≠129029->k≠129035->k≠i+900000->aV (aV (aV m' 129029 (bB m' 129029) []) (i+900000) 0 (aS av (r.1++[r.2]))) 129035 go' (refsOf N ((hS rs).take (i+1))) k=m' k:=λk F G ad=>by simp[aV,F,G,ad]
 refine⟨λh=>by omega,λ_=>⟨by rw[J1 _ (by omega) (by omega) (by omega)];exact wX,by simp[aV]⟩,λx L=>?_,λj aa=>?_,?_,?_⟩
 ·rw[UW M,h5,sE] at L;rcases L with L|rfl
  ·obtain⟨ez,eS⟩:=apq L;rw[J1 _ (by omega) (by omega) (by omega),al _ (.inl (by omega))];exact U.r x L
  ·have G:(i+900000:Nat)≠129035:=by omega
   simp[aV]
 ·rw[J1 _ (by omega) (by omega) (by omega),al _ (.inl (by omega))];exact U.n j (by omega)
 ·rw[J1 _ (by omega) (by omega) (by omega),al _ (.inr (.inl rfl))];exact U.a
 ·rw[J1 _ (by omega) (by omega) (by omega),al _ (.inr (.inr rfl))];exact U.b
def ac9 {K:a8->Prop}{tm:Nat->I}{N i go:Nat}(go' bh:Nat){rs:List cb}{r:cb}{m m':Mem}(U:y1 N rs i go m)(M:rs[i]?=some r)(wX:m' 129015=some (0,[.ref 129035 go' 1 0 (i+1),.J (.int .i64 N),.J (.bool false)]))
  (OR:m' 129035=some (go',refsOf N ((hS rs).take i)++[.ref 129029 bh 4 0 (N+1)])) (apv:m' 129029=some (bh,aS av (r.1++[r.2]))) (al:∀k:Nat,900000<=k\/k=168004\/k=168006->m' k=m k) (h:∀dm,y1 N rs (i+1) go' dm->K ⟨tm,dm⟩):lh K ⟨tm,m'⟩ .move:=by
 have aq:=(dL.1 M).1;have k5:(refsOf N ((hS rs).take i)).length=i:=by rw[F0,gk,J0];omega
 exact ak4 129035 i 129029 (i+900000) OR (by rw[r4 (by omega),k5,hG];rfl) apv (by omega) (show (i+900000:Nat)≠129029 by omega) (show (i+900000:Nat)≠129035 by omega) (h _ (apu U M wX al))
def ko {m:Mem}{k g:Nat}{cs:List I}{j:Nat}(h:j≠k):aV m k g cs j=m j:=aT h
def apw (T:bj)(fM:T EP=aG FZ){K:fD->a8->Prop}{kg:List iY}(N:Nat)(rs:List cb)(stop:Bool)(hd:N<=40)(hlen:(D rs)=N)(mT:∀r∈rs,r.1.length=N/\lD r)(tm:Nat->I)(m:Mem)
  (aQ:tm 1=.J (.int .i64 N)) (az:tm 2=.J (.bool stop)) (AI:tm 8=.ptr 129015 0 0) (ada:tm 16=.J (.ar (rs.map cG))) (J2:tm 17=.J (.int .i64 N)) (adb:tm 18=.J (.int .i64 0)) (U:y1 N rs 0 0 m)
  (ei:∀tm' m' go,tm' 1=.J (.int .i64 N)->tm' 2=.J (.bool stop)->tm' 8=.ptr 129015 0 0->y1 N rs N go m'->cO T K kg (.exit 0) ⟨tm',m'⟩) :
  wp T (Oi.body.sub [1,1,0,1,0]) (cO T K kg) ⟨tm,m⟩:=by
 simp only[Oi,e1.sub];refine cX [1,2,8,16,17] [] (λ((i,go):Nat×Nat) tm m=>i<=N/\tm 18=.J (.int .i64 i)/\y1 N rs i go m) (λ(i,_)=>N-i) (0,0) (by exact⟨dG _,adb,U⟩) ?_;intro vs ms aK aF;simp only[go_sem,go_sem_proc,aQ,az,AI,ada,J2] at aK aF;subst aK aF;clear aQ az AI ada J2 adb U tm m;rintro⟨i,go⟩ tm m R hm ⟨JV,m2,U⟩;simp only[go_sem,go_sem_proc,bl] at R hm;obtain⟨F,G,cd,my,h0⟩:=R;rcases du (i<N) with aq|bD
 ·obtain⟨⟨A,⟨v1,v2⟩,⟨fg,v4⟩⟩,M⟩:∃r,rs[i]?=some r:=⟨_,bf (by omega)⟩;obtain⟨jG,⟨ade,mE⟩,sY,nP⟩:=mT _ (cL M);dsimp only at jG ade mE sY nP;have js:decide ((i:Int)<(N:Int))=true:=c7;have hw:=e2 (i:=i) (by omega);have c1:∀bh,lf 129029 bh 4 N 64 1 _ _=_:=λbh=>jG ▸ aps bh A v1 v2 fg v4 ade;have adf:N<=1000000:=by omega
  have gZ:(1<=maxLen)=True:=eq_true (by unfold maxLen;omega);have aAL:=UW M;have k5:((hS rs).take i).length=i:=by rw[gk,J0];omega
  rcases ln i with au|h3
  ·have vy:=U.z au;refine ah ?_;repeat' (intro h<;>simp only[h,go_sem,go_sem_proc,fM,F,G,cd,my,h0,m2,vy,js,M,hw,adf,jG,c1,gZ,ac8,aj,bg,cG,av,decide_true,decide_false,ne_eq,not_false_eq_true,and_self]<;>try refine ae ?_ ?_)
   refine ac9 (gM (m 129035)) (gM (m 129029)+1) U M (by simp[aV,au]) (by simp[aV,au,refsOf]) (by simp[aV]) (λk R=>?_) λdm n9=>?_
   ·rw[ko (by omega),ko (by omega),ko (by omega),ko (by omega),ko (by omega),ko (by omega),ko (by omega)]
   ·refine ah ?_;repeat' (intro h<;>simp only[h,go_sem,go_sem_proc,F,G,cd,my,h0,m2,hw]<;>try refine ae ?_ ?_)
    exact⟨(i+1,gM (m 129035)),by dsimp only;omega,by dsimp only;omega,rfl,n9⟩
  ·obtain⟨vy,JW⟩:=U.p h3;have apx:=apt N go i (gM (m 129029)+1) ((hS rs).take i) k5 (by omega) _ rfl;refine ah ?_;repeat' (intro h<;>simp only[h,go_sem,go_sem_proc,fM,F,G,cd,my,h0,m2,vy,JW,js,M,hw,adf,jG,c1,apx,ac8,aj,bg,cG,av,decide_true,decide_false,ne_eq,not_false_eq_true,and_self]<;>try refine ae ?_ ?_)
   refine ac9 (go+1) (gM (m 129029)+1) U M (by simp[aV]) (by simp[aV]) (by simp[aV]) (λk R=>?_) λdm n9=>?_
   ·rw[ko (by omega),ko (by omega),ko (by omega),ko (by omega),ko (by omega),ko (by omega),ko (by omega)]
   ·refine ah ?_;repeat' (intro h<;>simp only[h,go_sem,go_sem_proc,F,G,cd,my,h0,m2,hw]<;>try refine ae ?_ ?_)
    exact⟨(i+1,go+1),by dsimp only;omega,by dsimp only;omega,rfl,n9⟩
 ·have js:decide ((i:Int)<(N:Int))=false:=df;obtain rfl:i=N:=by omega
  refine ah ?_;repeat' (intro h<;>simp only[h,go_sem,go_sem_proc,F,G,cd,my,h0,m2,js]<;>try refine ae ?_ ?_)
  refine ei _ _ go ?_ ?_ ?_ U<;>simp only[q3,sW,if_false,F,G,cd]
def m9 (stop:Bool):Nat->Nat->List dn->List Nat->Bool->List dn×List Nat×Bool
 |0,_,rows,free,bad=>(rows,free,bad)
 |_+1,_,rows,free,true=>(rows,free,true)
 |k+1,c,rows,free,false =>
  if (j4 rows (c-D free) c).1=true then
   (if stop=true then ((j4 rows (c-D free) c).2.1,free++[c],(j4 rows (c-D free) c).2.2) else m9 stop k (c+1) (j4 rows (c-D free) c).2.1 (free++[c]) (j4 rows (c-D free) c).2.2)
  else m9 stop k (c+1) (j4 rows (c-D free) c).2.1 free (j4 rows (c-D free) c).2.2
def UX (stop:Bool)(k c:Nat)(rows:List dn)(free:List Nat):m9 stop k c rows free true=(rows,free,true):=by
 cases k<;>rfl
def nx (n:Nat):List Data:=[.int .i64 n]
def xb (n:Nat):(nx n).length=1:=rfl
def UY (n:Nat):((nx n).map I.J).all I.one=true:=rfl
def UZ (N:Nat)(rows:List dn)(bad:Bool):Data:=.ptr [.ar (rows.map λx=>[.ar (x.2.2.map av)]),.int .i64 N,.bool bad]
def OS (N:Nat)(p:List dn×List Nat×Bool):Data:=.dq [UZ N p.1 p.2.2,.ar (p.2.1.map nx)]
def U0 (gC:List ax)(r c:Nat):∀(i:Nat) (l:List dn) (b:Bool),(jF gC r c i l b).1.map (λx=>(x.1,x.2.1,x.2.2.length))=l.map λx=>(x.1,x.2.1,x.2.2.length)
 |_,[],_=>rfl
 |i,x::xs,b=>by
  unfold jF
  split
  ·simp only[g0,U0 gC r c (i+1) xs b]
  ·simp only[g0,U0 gC r c (i+1) xs,acQ]
def adg (lG:ax):∀(l p:List ax) (b:Bool),(∀f∈l,okF f)->∀f∈(jE lG l p b).1,okF f
 | [],p,b,h=>by rw[acR];exact h
 |f::dB,[],b,h=>by cases b<;>(simp only[jE];exact h)
 |f::dB,p::cV,true,h=>by simp only[jE];exact h
 |f::dB,p::cV,false,h=>by
  simp only[jE];intro g aN;rcases kt.1 aN with rfl|aN
  ·exact FQ _ _
  ·exact adg lG dB cV _ (λx L=>h x (ur _ L)) g aN
def U1 (gC:List ax)(r c:Nat):∀(i:Nat) (l:List dn) (b:Bool),(∀x∈l,∀f∈x.2.2,okF f)->∀x∈(jF gC r c i l b).1,∀f∈x.2.2,okF f
 |_,[],_,h=>h
 |i,x::xs,b,h=>by
  unfold jF
  split
  ·intro y ak;rcases kt.1 ak with rfl|ak
   ·exact h _ lU
   ·exact U1 gC r c (i+1) xs b (λz a2=>h z (ur _ a2)) y ak
  ·intro y ak;rcases kt.1 ak with rfl|ak
   ·exact adg _ _ _ _ (h _ lU)
   ·exact U1 gC r c (i+1) xs _ (λz a2=>h z (ur _ a2)) y ak
def apy (rows:List dn)(r c:Nat)(M:r<=D rows):r<=findAt rows r c/\findAt rows r c<=D rows:=by
 unfold findAt;have:=List.findIdx_le_length (p:=λx => !hP (cellOf x c)) (xs:=rows.drop r);rw[pG] at this;omega
def jD.OT {N:Nat}{rows:List dn}(h:jD N rows){r c:Nat}(M:r<N):jD N (j4 rows r c).2.1:=by
 unfold j4
 split
 ·exact h
 ·rename_i bq;have jQ:=apy rows r c (by rw[h.len];omega);have ag:=h.len;obtain⟨x,L⟩:∃x,rows[findAt rows r c]?=some x:=⟨_,bf (by omega)⟩;obtain⟨pU,lH⟩:∃x,rows[r]?=some x:=⟨_,bf (by omega)⟩
  have vA:jD N (mC rows r (findAt rows r c)):=by
   unfold mC;rw[rA L,rA lH];exact h.swap lH L
  have sX:(mC rows r (findAt rows r c))[r]?=some x:=by
   unfold mC;rw[rA L,rA lH];exact JO L lH
  generalize mC rows r (findAt rows r c)=gD at *;obtain⟨q5,hr⟩:=vA.row x (cL sX)
  have oi:jD N (CG gD r c):=by
   unfold CG;rw[rA sX];refine vA.set sX (by simp[j3,q5]) λf al=>?_;obtain⟨g,-,rfl⟩:=h7.1 al;exact OJ _ _
  generalize CG gD r c=eC at *;have mU:=U0 (j3 (cellOf (rowAt gD r) c) (rowAt gD r).2.2).1 r c 0 eC (j3 (cellOf (rowAt gD r) c) (rowAt gD r).2.2).2;have dy:=U1 (j3 (cellOf (rowAt gD r) c) (rowAt gD r).2.2).1 r c 0 eC (j3 (cellOf (rowAt gD r) c) (rowAt gD r).2.2).2 λx L=>(oi.row x L).2;dsimp only;generalize (jF (j3 (cellOf (rowAt gD r) c) (rowAt gD r).2.2).1 r c 0 eC (j3 (cellOf (rowAt gD r) c) (rowAt gD r).2.2).2).1=el at *;refine⟨?_,?_,λy ak=>⟨?_,dy y ak⟩⟩
  ·have:=congrArg D mU;rw[aj,aj] at this;rw[this,oi.len]
  ·have F:el.map (·.1)=eC.map (·.1):=by
    have:=congrArg (ON λp:Nat×Nat×Nat=>p.1) mU
    simpa [x7,Function.comp_def] using this
   rw[F];exact oi.OH
  ·have F:el.map (λx=>x.2.2.length)=eC.map λx=>x.2.2.length:=by
    have:=congrArg (ON λp:Nat×Nat×Nat=>p.2.2) mU
    simpa [x7,Function.comp_def] using this
   have G:y.2.2.length∈eC.map λx=>x.2.2.length:=by rw[<-F];exact h7.2 ⟨y,ak,rfl⟩
   obtain⟨z,a2,e⟩:=h7.1 G;rw[<-e];exact (oi.row z a2).1
def apz {n k g N:Nat}{mem:Mem}{l:List ax}(ag:(D l)=N+1)(hm:mem k=some (g,aS av l)):cN (n+1) mem (.ref k g 4 0 (N+1))=some (.ar (l.map av)):=by
 rw[<-ag];exact jV jt hm
def apA {n N:Nat}{mem:Mem}{rows:List dn}(h:∀x∈rows,mem (x.1+900000)=some (x.2.1,aS av x.2.2))(ag:∀x∈rows,x.2.2.length=N+1):(refsOf N rows).mapM (cN (n+1) mem)=some (rows.map λx => .ar (x.2.2.map av)):=by
 unfold refsOf
 induction rows with
 |nil=>rfl
 |cons x xs a4 =>
  have F:=apz (n:=n) (ag x lU) (h x lU);have G:=a4 (λy ak=>h y (ur _ ak)) λy ak=>ag y (ur _ ak);simp only[g0,nf,F,G]
  rfl
def U2 {n N go:Nat}{mem:Mem}{rows:List dn}{bad:Bool}(dy:jD N rows)(h:yY go N rows bad mem):cN (n+3) mem (.ptr 129015 0 0)=some (UZ N rows bad):=by
 have F:=apA (n:=n) h.r λx L=>(dy.row x L).1
 have G:cN (n+2) mem (.ref 129035 go 1 0 N)=some (.ar (rows.map λx=>[.ar (x.2.2.map av)])):=by
  unfold cN;rw[h.o];simp only[if_true];unfold cut;rw[aL (by rw[F0,dy.len];omega),pD,dF (by rw[F0,dy.len];omega)];dsimp only;rw[F];have:=z3 (sz:=1) (rows.map λx=>[Data.ar (x.2.2.map av)]) (by intro e he;obtain⟨x,-,rfl⟩:=h7.1 he;rfl);rw[aj,dy.len] at this;simp only[kU,bO,Data.ar.injEq]
  have jQ:∀l:List dn,(l.map λx=>Data.ar (x.2.2.map av))=(l.map λx=>[Data.ar (x.2.2.map av)]).flatten:=by
   intro l
   induction l with
   |nil=>rfl
   |cons x xs a4=>simp only[g0,mg,a4];rfl
  rw[jQ,this]
 unfold cN;rw[h.m];simp only[if_true,pD,nf,List.mapM_nil,G,true_and,dG];simp only[akV]
 rfl
def y1.apB {N go:Nat}{rs:List cb}{m:Mem}(ag:(D rs)=N)(hd:0<N)(h:y1 N rs N go m):yY go N (hS rs) false m:=by
 have bN:(hS rs).take N=hS rs:=dF (by rw[J0];omega);have aR:=h.p hd;rw[bN] at aR;exact⟨aR.1,aR.2,by have:=h.r;rw[bN] at this;exact this⟩
def yY.other {go N:Nat}{rows:List dn}{bad:Bool}{mem:Mem}{k g:Nat}{cs:List I}(h:yY go N rows bad mem)(F:k≠129015)(G:k≠129035)(ad:k<900000):yY go N rows bad (aV mem k g cs) :=
 ⟨(ko (Ne.symm F)).trans h.m,(ko (Ne.symm G)).trans h.o,λx L=>(ko (show (x.1+900000:Nat)≠k by omega)).trans (h.r x L)⟩
def adh {N:Nat}{rs:List cb}(ag:(D rs)=N)(h:∀r∈rs,r.1.length=N/\lD r):jD N (hS rs):=by
 refine⟨by rw[J0,ag],?_,λx L=>?_⟩
 ·have:(hS rs).map (·.1)=List.range (D rs):=by
   unfold hS;rw[x7];apply qm;intro i;rw[bg,UU];rcases gY i (D rs) with h|h
   ·rw[bf h];simp[h]
   ·rw[lk h];simp[h]
  rw[this];exact List.nodup_range
 ·unfold hS at L;obtain⟨⟨r,i⟩,aR,rfl⟩:=h7.1 L;have M:=List.fst_mem_of_mem_zipIdx aR;obtain⟨F,G,ad⟩:=h r M;refine⟨by simp[F],λf al=>?_⟩
  rw[h5,sE] at al;rcases al with al|rfl
  ·exact G.2 f al
  ·exact ad
abbrev OU:(List cb)×Int×Bool->List Data:=λ(rs,n,stop)=>[.ar (rs.map cG),.int .i64 n,.bool stop]
def J3:=bI OU λ(rs,n,stop)=>ca ((D rs:Int)=n/\D rs<=40/\∀r∈rs,r.1.length=D rs/\lD r) (.same (OS (D rs) (m9 stop (D rs) 0 (hS rs) [] false)))
def apC:∀a b,OU a=OU b->a=b:=by
  rintro⟨Oz,rb,apD⟩ ⟨OA,re,apE⟩ h;simp only[bl,Data.ar.injEq,Data.int.injEq,Data.bool.injEq] at h;exact cz (map_inj Ax _ _ h.1) (cz h.2.1.2 h.2.2.1)
@[go_sem] def apF (rs n stop):=cl J3 rfl apC (rs,n,stop) rfl
def apG (T:bj)(fM:T EP=aG FZ)(qO:T SF=yW JY):WF T Oi J3:=by
 refine b7 λ(rs,n,stop)=>cq λY=>⟨rfl,b6 ?_⟩;simp only[Oi,OU,bX];obtain⟨aC,hd,mT⟩:=Y;subst aC;simp only[go_sem,go_sem_proc,fM,qO,aj];generalize U3:(D rs)=N at *;refine apw T fM N rs stop hd U3 mT _ _ rfl rfl rfl rfl rfl rfl ⟨λ_=>by simp[aV],λh=>by omega,λx L=>by simp at L,λj _=>ko (show (j+900000:Nat)≠129015 by omega),ko (by omega),ko (by omega)⟩ ?_
 intro tm m go F G cd U;rcases ln N with au|h3
 ·have sD:rs=[]:=List.eq_nil_of_length_eq_zero (by omega);have a2:=U.z au;subst au;subst sD;simp only[go_sem,go_sem_proc,fM,qO,F,G,cd];refine cX [1,2,8] [129015] (λ(_:Unit) tm' m'=>tm' 11=.ref 129061 (gM (m 129061)) 1 0 0/\m' 129061=some (gM (m 129061),[])/\tm' 12=.J (.int .i64 0)) (λ_=>0) () (by refine⟨rfl,?_,rfl⟩;simp[aV]) ?_;intro vs ms aK aF;simp only[go_sem,go_sem_proc,fM,qO,F,G,cd,a2] at aK aF;subst aK aF;rintro _ tm' m' R hm ⟨lu,J4,lx⟩;simp only[go_sem,go_sem_proc,fM,qO,bl] at R hm;obtain⟨bo,c5,fR⟩:=R;refine ah ?_;repeat' (intro (ai:_=_)<;>simp only[ai,go_sem,go_sem_proc,fM,qO,bo,c5,fR,hm,lu,J4,lx,show decide ((0:Int)<((0:Nat):Int))=false from rfl,cN,q4,pD]<;>try refine ae ?_ ?_)
  rfl
 ·have y2:=U.apB U3 h3;have dy:=adh U3 mT;have J5:=U.a;have J6:=U.b;clear U;simp only[go_sem,go_sem_proc,fM,qO,F,G,cd]
  refine cX [1,2,8] [] (λ((c,rows,free,bad,g):Nat×List dn×List Nat×Bool×Nat) tm m=>c<=N/\D free<=c/\m9 stop N 0 (hS rs) [] false=m9 stop (N-c) c rows free bad/\jD N rows/\yY go N rows bad m/\m 168004=none/\m 168006=none/\tm 11=.ref 129061 g 1 0 (D free)/\m 129061=some (g,aS nx free)/\tm 12=.J (.int .i64 c)) (λ(c,_,_,_,_)=>N-c) (0,hS rs,[],false,gM (m 129061)) (by
   refine⟨dG _,c9 _,rfl,dy,⟨?_,?_,λx L=>?_⟩,?_,?_,rfl,?_,rfl⟩
   ·rw[ko (by omega)];exact y2.m
   ·rw[ko (by omega)];exact y2.o
   ·rw[ko (show (x.1+900000:Nat)≠129061 by omega)];exact y2.r x L
   ·rw[ko (by omega)];exact J5
   ·rw[ko (by omega)];exact J6
   ·simp[aV,aS]) ?_
  intro vs ms aK aF;simp only[go_sem,go_sem_proc,fM,qO,F,G,cd] at aK aF;subst aK aF;clear F G cd y2 J5 J6;rintro⟨c,rows,free,bad,g⟩ tm m R hm ⟨o4,aAM,kx,dy,y2,J5,J6,lu,J4,lx⟩;simp only[go_sem,go_sem_proc,fM,qO,bl] at R hm;obtain⟨F,G,cd⟩:=R;have vy:=y2.m
  have T1:m9 stop N 0 (hS rs) [] false=(rows,free,bad)->((cN 5 m (.ptr 129015 0 0)).bind λd=>(cN 5 m (.ref 129061 g 1 0 (D free))).bind λe=>some (Data.dq [d,e]))=some (OS N (m9 stop N 0 (hS rs) [] false)):=by
   intro h;rw[h,U2 (n:=2) dy y2,jV xb J4]
   rfl
  have uu:=U2 (n:=2) dy y2;have uv:=jV (n:=4) xb J4;rcases du (c<N) with aq|bD
  ·have eb:decide ((c:Int)<(N:Int))=true:=c7
   cases bad
   ·have m0:IntKind.i64.wrap ((c:Int)-(D free:Int))=((c-D free:Nat):Int):=by rw[fK _];omega
    have gp:=e2 (i:=c) (by omega);have e6:=apj ⟨go,N,rows,c-D free,c⟩ m ⟨dy,y2,J5,J6,hd,Nat.sub_le _ _,aq⟩;dsimp only at e6;have U4:N-c=(N-(c+1))+1:=by omega
    rw[U4] at kx;simp only[m9] at kx;have AE:=dy.OT (r:=c-D free) (c:=c) (by omega);simp only[go_sem,go_sem_proc,fM,qO,qO,F,G,cd,lu,lx,vy,eb,m0,e6];intro xc m' ed;obtain⟨J7,iQ⟩:=ed;dsimp only at J7 iQ;subst J7;have sU:m' 168004=none:=(iQ.2 _ UH).trans J5;have FU:m' 168006=none:=(iQ.2 _ UI).trans J6;have U5:m' 129061=some (g,aS nx free):=(iQ.2 129061 (by unfold FP;omega)).trans J4;have c1:lf 129061 g 1 (D free) 8 1 [.J (.int .i64 c)] (some (g,aS nx free))=_:=lq xb UY 129061 g 8 free c rfl (by omega) (by omega);generalize aAN:j4 rows (c-D free) c=uw at *;obtain⟨apH,adi,adj⟩:=uw;dsimp only at *
    cases apH
    ·simp only[cE,if_false] at kx;refine ah ?_;repeat' (intro (ai:_=_)<;>simp only[ai,go_sem,go_sem_proc,fM,qO,F,G,cd,lu,lx,gp]<;>try refine ae ?_ ?_)
     exact⟨(c+1,adi,free,adj,g),by dsimp only;omega,by dsimp only;omega,by dsimp only;omega,kx,AE,iQ.1,sU,FU,rfl,U5,rfl⟩
    ·simp only[if_true] at kx;have adk:=iQ.1.other (k:=129061) (g:=g+1) (cs:=aS nx (free++[c])) (by omega) (by omega) (by omega)
     cases stop
     ·simp only[cE,if_false] at kx;refine ah ?_;repeat' (intro (ai:_=_)<;>simp only[ai,go_sem,go_sem_proc,fM,qO,F,G,cd,lu,lx,gp,U5,c1]<;>try refine ae ?_ ?_)
      exact⟨(c+1,adi,free++[c],adj,g+1),by dsimp only;omega,by dsimp only;omega,by simp;omega,kx,AE,adk,sU,FU,by simp,rfl,rfl⟩
     ·simp only[if_true] at kx;refine ah ?_;repeat' (intro (ai:_=_)<;>simp only[ai,go_sem,go_sem_proc,fM,qO,F,G,cd,lu,lx,gp,U5,c1]<;>try refine ae ?_ ?_)
      have F1:(D free)+1=(free++[c]).length:=by simp
      rw[U2 (n:=2) AE adk,F1,jV (n:=4) xb (g:=g+1) (l:=free++[c]) (by simp[aV]),kx]
      rfl
   ·rw[UX] at kx;refine ah ?_;repeat' (intro (ai:_=_)<;>simp only[ai,go_sem,go_sem_proc,fM,qO,F,G,cd,lu,lx,vy,eb,uu,uv]<;>try refine ae ?_ ?_)
    rw[kx]
    rfl
  ·have eb:decide ((c:Int)<(N:Int))=false:=df;have U4:N-c=0:=by omega
   rw[U4] at kx;simp only[m9] at kx;refine ah ?_;repeat' (intro (ai:_=_)<;>simp only[ai,go_sem,go_sem_proc,fM,qO,F,G,cd,lu,lx,vy,eb,uu,uv]<;>try refine ae ?_ ?_)
   rw[kx]
   rfl
def J8 {rs:List cb}{n:Int}(a6:qK rs)(h:nV rs n=true):(D rs:Int)=n/\D rs<=40/\∀r∈rs,r.1.length=D rs/\lD r:=by
 unfold nV at h;simp only[ff,vB,decide_eq_false_iff_not,beq_iff_eq] at h;obtain⟨F,G,ad,aZ⟩:=h;refine⟨ad,by omega,λr M=>⟨?_,a6.2 r M⟩⟩
 rw[sN] at aZ;have:=aZ r M;unfold nU at this;simp at this;omega
def U6 {stop:Bool}{N:Nat}:∀(k c:Nat) (rows:List dn) (free:List Nat) (bad:Bool),c+k=N->jD N rows->jD N (m9 stop k c rows free bad).1
 |0,_,rows,_,_,_,h=>h
 |k+1,c,rows,free,true,Y,h=>h
 |k+1,c,rows,free,false,Y,h=>by
  have aR:=h.OT (r:=c-D free) (c:=c) (by omega);unfold m9
  split
  ·split
   ·exact aR
   ·exact U6 k (c+1) _ _ _ (by omega) aR
  ·exact U6 k (c+1) _ _ _ (by omega) aR
def ux (stop:Bool)(rs:List cb):List dn×List Nat×Bool:=m9 stop (D rs) 0 (hS rs) [] false
def U7 (stop:Bool):∀(k c:Nat) (rows:List dn) (free:List Nat) (bad:Bool),(m9 stop k c rows free bad).2.1.length<=D free+k
 |0,_,_,_,_=>by simp[m9]
 |k+1,c,rows,free,true=>by simp[m9]
 |k+1,c,rows,free,false=>by
  unfold m9
  split
  ·split
   ·simp
   ·have:=U7 stop k (c+1) (j4 rows (c-D free) c).2.1 (free++[c]) (j4 rows (c-D free) c).2.2;simp at this;omega
  ·have:=U7 stop k (c+1) (j4 rows (c-D free) c).2.1 free (j4 rows (c-D free) c).2.2;omega
def apI (stop:Bool)(rs:List cb):(ux stop rs).2.1.length<=D rs:=by
 have:=U7 stop (D rs) 0 (hS rs) [] false;unfold ux
 simpa using this
def adl {rs:List cb}{stop:Bool}(h:∀r∈rs,r.1.length=D rs/\lD r):jD (D rs) (ux stop rs).1:=U6 _ _ _ _ _ (by omega) (adh rfl h)
def vC (N:Nat)(x:dn):ax:=x.2.2.getD N bC
def mF (rs:List cb)(n:Int):List ax×Int :=
 if nV rs n=true then (if (ux true rs).2.2=true then ([],6) else if (ux true rs).2.1.length>0 then ([],17) else ((ux true rs).1.map (vC (D rs)),0)) else ([],1)
def adm {N:Nat}{x:dn}{f:ax}(h:x.2.2[N]?=some f):vC N x=f:=by
 unfold vC;rw[dH,h]
 rfl
def J9:=bI w9 λ(rs,n)=>ca (qK rs) (.same (.dq [.ar ((mF rs n).1.map av),.int .i64 (mF rs n).2]))
@[go_sem] def adn (rs n):=cl J9 rfl OD (rs,n) rfl
def apJ (T:bj)(AK:T Sx=aG OC)(AL:T SA=aG J3):WF T ab8 J9:=by
 refine b7 λ(rs,n)=>cq λY=>⟨rfl,b6 ?_⟩;simp only[ab8,w9,bX];unfold mF;rcases M:nV rs n
 ·refine ah ?_;repeat' (intro h<;>simp only[h,go_sem,go_sem_proc,AK,AL,Y,M,bP]<;>try refine ae ?_ ?_)
 ·have dy:=adl (stop:=true) (J8 Y M).2.2;have ek:J3 [.ar (rs.map cG),.int .i64 n,.bool true]=some (.same (OS (D rs) (ux true rs))):=apF rs n true (J8 Y M);have jQ:=apI true rs;obtain⟨aC,hd,-⟩:=J8 Y M;rcases dV:ux true rs with ⟨rows,free,bad⟩;rw[dV] at jQ dy ek;dsimp only at jQ dy;simp only[OS,UZ] at ek
  cases bad
  ·cases free with
   |nil =>
    simp only[go_sem,go_sem_proc,AK,AL,Y,M,ek,aj,show decide (((0:Nat):Int)>0)=false from rfl,bP];rw[aT (by simp)];refine cX [1,33,34] [] (λ((i,g):Nat×Nat) tm m=>i<=D rs/\tm 35=.J (.int .i64 i)/\tm 8=.ref 109045 g 4 0 i/\m 109045=some (g,aS av ((rows.take i).map (vC (D rs))))) (λ(i,_)=>D rs-i) (0,0) (by refine⟨dG _,rfl,rfl,?_⟩;simp[aV,aS,bB,emp]) ?_;intro vs ms aK aF;simp only[go_sem,go_sem_proc,AK,AL] at aK aF;subst aK aF;rintro⟨i,g⟩ tm m R hm ⟨JV,OR,cd,U8⟩;simp only[go_sem,go_sem_proc,AK,AL,bl] at R hm;obtain⟨F,N6,xd⟩:=R;have b9:=dy.len;rcases du (i<D rs) with aq|bD
    ·obtain⟨x,L⟩:∃x,rows[i]?=some x:=⟨_,bf (by omega)⟩;obtain⟨q5,hr⟩:=dy.row x (cL L);obtain⟨⟨⟨dx,dW⟩,⟨hR,jf⟩⟩,vw⟩:∃f,x.2.2[D rs]?=some f:=⟨_,bf (by omega)⟩;have nj:=adm vw;have k5:((rows.take i).map (vC (D rs))).length=i:=by rw[aj,gk];omega
     have c1:=lq jt vm 109045 g 64 ((rows.take i).map (vC (D rs))) ((dx,dW),(hR,jf)) (cs:=[.J (.int .i64 dx),.J (.ar (dW.map aI)),.J (.int .i64 hR),.J (.ar (jf.map aI))]) rfl (by omega) (by omega);rw[k5] at c1
     have Ka:(rows.take (i+1)).map (vC (D rs))=(rows.take i).map (vC (D rs))++[((dx,dW),(hR,jf))]:=by
      rw[ho,L,pT];simp[nj]
     have js:decide ((i:Int)<(D rs:Int))=true:=c7;have U9:decide ((i:Int)<(D rows:Int))=true:=c7;have hw:=e2 (i:=i) (by omega);have qp:decide (0<=n)=true:=c7;have apK:n=((D rs:Nat):Int):=aC.symm;refine ah ?_;repeat' (intro h<;>simp only[h,go_sem,go_sem_proc,AK,AL,F,N6,xd,OR,cd,U8,L,vw,c1,js,U9,hw,apK,aj,bg,av]<;>try refine ae ?_ ?_)
     exact⟨(i+1,g+1),by dsimp only;omega,by dsimp only;omega,rfl,rfl,by dsimp only;rw[Ka]⟩
    ·have eZ:i=D rs:=by omega
     have U9:decide ((i:Int)<(D rows:Int))=false:=df;have cZ:rows.take i=rows:=dF (by omega);rw[cZ] at U8
     have eA:∀n,cN (n+1) m (.ref 109045 g 4 0 i)=some (.ar ((rows.map (vC (D rs))).map av)):=λn=>by
      have:=jV (n:=n) jt U8;rw[show (rows.map (vC (D rs))).length=i by rw[aj];omega] at this
      exact this
     have apL:=eA 4;refine ah ?_;repeat' (intro h<;>simp only[h,go_sem,go_sem_proc,AK,AL,F,N6,xd,OR,cd,U9,apL]<;>try refine ae ?_ ?_)
   |cons f dB =>
    have kE:decide ((((f::dB).length:Nat):Int)>0)=true:=mL (by simp only[lQ];omega);simp only[lQ] at kE;refine ah ?_;repeat' (intro h<;>simp only[h,go_sem,go_sem_proc,AK,AL,Y,M,ek,aj,kE,bP]<;>try refine ae ?_ ?_)
    rw[aL (by omega)]
    rfl
  ·refine ah ?_;repeat' (intro h<;>simp only[h,go_sem,go_sem_proc,AK,AL,Y,M,ek,aj,bP]<;>try refine ae ?_ ?_)
def ado:bG:=bV 30 2 [.t 4,.t 5] (O [aB 4 (.iu (.c (.J (.int .u64 0)))),aB 5 (.iu (.c (.J (.int .u64 0))))] (.seq (.cond (.c (.J (.bool false))) (O [E 11 0,aB 12 (.conv .u32 (.t 11)),E 13 1,aB 14 (.conv .u32 (.t 13)),bK 15 alC 12 14,E 10 15,aP 16 0 10,aP 17 1 10,E 6 16,E 7 17] (O [E 18 6,aB 19 (.conv .u64 (.t 18)),E 20 7,aB 21 (.conv .u64 (.t 20)),E 4 19,E 5 21] .ret)) .skip) (O [E 23 0,E 24 1,bK 25 SK 23 24,E 22 25,aP 26 0 22,aP 27 1 22,E 8 26,E 9 27] (O [E 28 8,E 29 9,E 4 28,E 5 29] .ret))))
def adp:bG:=bV 51 2 [.t 4,.t 5] (O [aB 4 (.iu (.c (.J (.int .u64 0)))),aB 5 (.iu (.c (.J (.int .u64 0))))] (O [E 14 0,aB 15 (.bin .and (.t 14) (.c (.J (.int .u64 4294967295)))),E 6 15] (O [E 16 0,aB 17 (.bin .shr (.t 16) (.c (.J (.int .u64 32)))),E 7 17] (O [E 18 1,aB 19 (.bin .and (.t 18) (.c (.J (.int .u64 4294967295)))),E 8 19] (O [E 20 1,aB 21 (.bin .shr (.t 20) (.c (.J (.int .u64 32)))),E 9 21] (O [E 22 6,E 23 8,bt 24 .mul 22 23,E 10 24] (O [E 25 7,E 26 8,bt 27 .mul 25 26,E 28 10,aB 29 (.bin .shr (.t 28) (.c (.J (.int .u64 32)))),bt 30 .add 27 29,E 11 30] (O [E 31 11,aB 32 (.bin .and (.t 31) (.c (.J (.int .u64 4294967295)))),E 12 32] (O [E 33 11,aB 34 (.bin .shr (.t 33) (.c (.J (.int .u64 32)))),E 13 34] (O [E 35 12,E 36 6,E 37 9,bt 38 .mul 36 37,bt 39 .add 35 38,E 12 39] (O [E 40 7,E 41 9,bt 42 .mul 40 41,E 43 13,bt 44 .add 42 43,E 45 12,aB 46 (.bin .shr (.t 45) (.c (.J (.int .u64 32)))),bt 47 .add 44 46,E 4 47] (O [E 48 0,E 49 1,bt 50 .mul 48 49,E 5 50] .ret))))))))))))
def Va:∀y:Nat,y<41->bits .and .u64 (y:Int) 4294967295=y:=by decide
def apM (y:Nat)(h:y<41):(y:Int).fdiv 4294967296=0:=by
 rw[Ud _ (by omega)];omega
abbrev F2:Nat->List Data:=λ(y:Nat)=>[.int .u64 1,.int .u64 y]
def OV:=bI F2 λ(y:Nat)=>ca (y<41) (.same (.dq [.int .u64 0,.int .u64 y]))
def adq:∀a b,F2 a=F2 b->a=b:=by
  intro og qC h;simp only[bl,Data.int.injEq] at h;omega
@[go_sem] def aAO (y):=cl OV rfl adq y rfl
def apN (T:bj):WF T adp OV:=by
 refine b7 λy=>cq λY=>⟨rfl,b6 ?_⟩;simp only[adp,F2,bX];have F:=Va y Y;have G:=apM y Y;have ad:=Va 1 (by omega);have aZ:=Va 0 (by omega);have bw:((1:Int)).fdiv 4294967296=0:=by decide
 have bA:((0:Int)).fdiv 4294967296=0:=by decide
 have hw:∀x:Int,0<=x/\x<18446744073709551616->IntKind.u64.wrap x=x:=λx h=>yl x h;have ct:=hw 0 (by omega);have w1:=hw y (by omega);simp only[Int.natCast_zero,Int.cast_ofNat_Int,Int.natCast_one] at ad aZ;refine ah ?_;repeat' (intro (ai:_=_)<;>simp only[ai,go_sem,go_sem_proc,F,G,ad,aZ,bw,bA,ct,w1,show ((32:Int)<0)=False from by simp,if_false,show (2:Int)^min (Int.toNat 32) 64=4294967296 from rfl,oj,yL,Int.mul_zero,Int.add_zero,Int.zero_add]<;>try refine ae ?_ ?_)
def OW:=bI F2 λ(y:Nat)=>ca (y<41) (.same (.dq [.int .u64 0,.int .u64 y]))
@[go_sem] def aAP (y):=cl OW rfl adq y rfl
def apO (T:bj)(apP:T SK=aG OV):WF T ado OW:=by
 refine b7 λy=>cq λY=>⟨rfl,b6 ?_⟩;simp only[ado,F2,bX];refine ah ?_;repeat' (intro h<;>simp only[h,go_sem,go_sem_proc,apP,Y]<;>try refine ae ?_ ?_)
def qP {α:Type}{A:List α}{k:Nat}(fa:(D A)=k)(n:Nat):(ch n A).flatten.length=n*k:=by
 rw[List.length_flatten,CM,fa,List.sum_replicate_nat]
def apQ {α:Type}{A:List α}{k:Nat}(fa:(D A)=k){q j:Nat}(h:q<=j):(ch j A).flatten.take (q*k)=(ch q A).flatten:=by
 obtain⟨d,rfl⟩:=adr h;rw[<-Vb,Vc,Vd (by rw[qP fa];omega),dF (by rw[qP fa];omega)]
def apR {α:Type}{A:List α}{k:Nat}(fa:(D A)=k){q j:Nat}(h:q<=j):(ch j A).flatten.drop (q*k)=(ch (j-q) A).flatten:=by
 obtain⟨d,rfl⟩:=adr h;rw[<-Vb,Vc,EG,lj (by rw[qP fa];omega),qP fa,hG,pD,EB,EH]
def CN:List I:=[.J (.int .i64 0),.nil,.J (.int .i64 0),.nil]
def o5 (A:List I)(N j:Nat):List I:=(ch j A).flatten++(ch (N-j) CN).flatten
def ads {A:List I}(fa:(D A)=4){N j:Nat}(h:j<=N):(o5 A N j).length=N*4:=by
 unfold o5;rw[ks,qP fa,qP (show (D CN)=4 from rfl)];omega
def adt {A:List I}(fa:(D A)=4){N j q:Nat}(h:j+q<=N):(o5 A N j).take (j*4)++(ch q A).flatten++(o5 A N j).drop (j*4+q*4)=o5 A N (j+q):=by
 unfold o5;rw[Vd (by rw[qP fa];omega),dF (by rw[qP fa];omega),EG,lj (by rw[qP fa];omega),qP fa,EH,apR (show (D CN)=4 from rfl) (by omega),EB,<-Vb (n:=j),Vc,Nat.sub_sub]
def apS {A:List I}(fa:(D A)=4){N j:Nat}:(o5 A N j).take (j*4)=(ch j A).flatten:=by
 unfold o5;rw[Vd (by rw[qP fa];omega),dF (by rw[qP fa];omega)]
def adu {A:List I}(h:A.all I.one=true)(q:Nat):(ch q A).flatten.all I.one=true:=by
 induction q with
 |zero=>rfl
 |succ n a4=>rw[qn,mg,List.all_append,h,a4];rfl
def apT (f:ax)(N:Nat):o5 ((av f).map .J) N N=aS av (ch N f):=by
 unfold o5 aS;rw[hG,CM];simp only[List.replicate_zero,List.flatten_nil,mX]
 induction N with
 |zero=>rfl
 |succ n a4=>rw[qn,mg,qn,mg,pT,a4]
def apU {A:List I}(fa:(D A)=4)(F:A.all I.one=true)(N:Nat):zE 131030 0 4 0 N 1 A (some (0,(ch N CN).flatten))=some (.J (.int .i64 ((min 1 N:Nat):Int)),some (131030,0,o5 A N (min 1 N))):=by
 unfold zE;dsimp only;rw[aL ⟨rfl,by rw[qP (show (D CN)=4 from rfl)];omega,F⟩]
 have au:(ch N CN).flatten=o5 A N 0:=by simp[o5]
 have bN:A.take (min 1 N*4)=(ch (min 1 N) A).flatten:=by
  rcases ln N with h|h
  ·subst h;simp
  ·rw[show min 1 N=1 by omega];simp[dF (Nat.le_of_eq fa)]
 have:=adt fa (N:=N) (j:=0) (q:=min 1 N) (by omega);rw[au,bN];unfold kv;rw[qP fa];simp only[Nat.zero_mul,Nat.zero_add] at this ⊢;rw[this]
def apV {A:List I}(fa:(D A)=4)(F:A.all I.one=true){N j:Nat}(h:j<N):zE 131030 0 4 (j*4) (N-j) j (ch j A).flatten (some (0,o5 A N j))=some (.J (.int .i64 ((min j (N-j):Nat):Int)),some (131030,0,o5 A N (j+min j (N-j)))):=by
 unfold zE;dsimp only;rw[aL ⟨rfl,by rw[ads fa (by omega)];omega,adu F j⟩]
 rw[apQ fa (show min j (N-j)<=j by omega)];have:=adt fa (N:=N) (j:=j) (q:=min j (N-j)) (by omega);unfold kv;rw[qP fa,this]
abbrev OX:Int×(List Int)×Int×(List Int)×Nat->List Data:=λ(s,l,s2,Z,N)=>[.ar [[.int .i64 s,.ar (l.map aI),.int .i64 s2,.ar (Z.map aI)]],.int .i64 N]
def Kb:=bI OX λ(s,l,s2,Z,N)=>ca (N<41) (.own 4 (ch N (av ((s,l),(s2,Z)))))
def apW:∀a b,OX a=OX b->a=b:=by
  rintro⟨s1,hZ,tY,sG,aAQ⟩ ⟨s2,Z,tZ,sH,aAR⟩ h;simp only[bl,Data.int.injEq,Data.ar.injEq] at h;exact cz h.1.1.1.2 (cz (map_inj fX _ _ h.1.1.2.1) (cz h.1.1.2.2.1.2 (cz (map_inj fX _ _ h.1.1.2.2.2.1) (by have:=h.2.1.2;dsimp only;omega))))
@[go_sem] def adv (s l s2 Z N):=cl Kb rfl apW (s,l,s2,Z,N) rfl
def apX (T:bj)(CO:T SG=aG OW):WF T aai Kb:=by
 refine b7 λ(s,l,s2,Z,N)=>cq λY=>⟨rfl,b6 ?_⟩;simp only[aai,OX,bX];have au:decide ((N:Int)<0)=false:=df;have hw:IntKind.u64.wrap (N:Int)=N:=yl _ ⟨by omega,by omega⟩
 have YY:IntKind.i64.wrap (N:Int)=N:=wrap64 _ (by omega) (by omega);have m0:IntKind.u64.wrap ((1:Nat):Int)=1:=by decide
 have aN:decide ((N:Int)>9223372036854775807)=false:=df;have y3:(64*N<=140737488355328)=True:=eq_true (by omega);have y4:(N<=maxLen)=True:=eq_true (by unfold maxLen;omega);have fa:((av ((s,l),(s2,Z))).map I.J).length=4:=rfl;have CP:((av ((s,l),(s2,Z))).map I.J).all I.one=true:=rfl;have zN:=apU fa CP N;have Eo:=λj (h:j<N)=>apV fa CP h;have Kc:(av ((s,l),(s2,Z))).map I.J=[.J (.int .i64 s),.J (.ar (l.map aI)),.J (.int .i64 s2),.J (.ar (Z.map aI))]:=rfl;simp only[CN] at zN;rw[Kc] at zN;simp only[go_sem,go_sem_proc,CO] at zN;simp only[go_sem,go_sem_proc,CO,au,hw,YY,m0,Y,aN,y3,y4,show decide ((0:Int)>0)=false from rfl,zN];rw[Kc] at fa CP;have lY:=apT ((s,l),(s2,Z)) N;rw[Kc] at lY;simp only[Kc] at Eo;clear Kc zN;generalize [I.J (.int .i64 s),.J (.ar (l.map aI)),.J (.int .i64 s2),.J (.ar (Z.map aI))]=A at *;refine cX [7] [] (λ(j:Nat) tm m=>j<=N/\(0<N->0<j)/\tm 8=.J (.int .i64 j)/\m 131030=some (0,o5 A N j)) (λj=>N-j) (min 1 N) (by refine⟨by omega,by omega,rfl,?_⟩;simp[aV]) ?_;intro vs ms aK aF;simp only[go_sem,go_sem_proc,CO] at aK aF;subst aK aF;rintro j tm m R hm ⟨adw,apY,cd,Ve⟩;simp only[go_sem,go_sem_proc,CO,bl] at R hm;have bM:=R;rcases du (j<N) with aq|bD
 ·have hk:decide ((j:Int)<(N:Int))=true:=c7;have aC:=Eo j aq;have nG:=apS fa (N:=N) (j:=j);have hlen:(j*4<=(o5 A N j).length)=True:=eq_true (by rw[ads fa adw];omega);have apZ:(j<=N)=True:=eq_true adw;have cZ:=adu CP j;simp only[go_sem,go_sem_proc,CO,cZ,CP,nG] at aC;have gp:IntKind.i64.wrap ((j:Int)+((min j (N-j):Nat):Int))=((j+min j (N-j):Nat):Int):=by rw[fK _];omega
  refine ah ?_;repeat' (intro (ai:_=_)<;>simp only[ai,go_sem,go_sem_proc,CO,bM,cd,Ve,hk,nG,hlen,apZ,cZ,aC,gp,c9,Nat.sub_zero,dG]<;>try refine ae ?_ ?_)
  exact⟨j+min j (N-j),by have:=apY (by omega);omega,by omega,by omega,rfl,rfl⟩
 ·have hk:decide ((j:Int)<(N:Int))=false:=df;obtain rfl:j=N:=by omega
  rw[lY] at Ve;have yN:=jU jt (ch j ((s,l),(s2,Z)));rw[hs] at yN;refine ah ?_;repeat' (intro (ai:_=_)<;>simp only[ai,go_sem,go_sem_proc,CO,bM,cd,Ve,hk,qy,yN]<;>try refine ae ?_ ?_)
  rw[aL (c9 _),dF (by omega)];unfold aS;rw[z2 _ λd=>rfl];have:=z3 (sz:=4) ((ch j ((s,l),(s2,Z))).map av) (by intro e he;obtain⟨f,-,rfl⟩:=h7.1 he;rfl);rw[aj,hs] at this;rw[kU,this,CM]


abbrev cn:=Int×Int×ax
def fh (l:cn):List Data:=.int .i64 l.1 :: .int .i64 l.2.1::av l.2.2
def uy:∀a b:cn,fh a=fh b->a=b:=by
 rintro⟨a,b,w⟩ ⟨c,d,v⟩ h;simp only[fh,bl,Data.int.injEq,true_and] at h;obtain⟨rfl,rfl,h⟩:=h;rw[j1 _ _ h]
def qQ (l:List cn):Prop:=D l<=1000000/\∀x∈l,okF x.2.2
def pV (n:Int)(l:cn):Bool:=decide (l.1<0)||(decide (l.1>=n)||(decide (l.2.1<0)||(decide (l.2.1>=n) || !g4 l.2.2)))
abbrev OY:Int×Int×Int×(List Int)×Int×(List Int)×Int->List Data:=λ(a,b,s,l,s2,Z,n)=>[.agg [.int .i64 a,.int .i64 b,.int .i64 s,.ar (l.map aI),.int .i64 s2,.ar (Z.map aI)],.ptr [.int .i64 n]]
def OZ:=bI OY λ(a,b,s,l,s2,Z,n)=>ca (D l<=1000000/\D Z<=1000000) (.same (.bool (pV n (a,b,((s,l),(s2,Z))))))
def ap0:∀a b,OY a=OY b->a=b:=by
  rintro⟨dx,bT,s1,hZ,tY,sG,rb⟩ ⟨dW,cB,s2,Z,tZ,sH,re⟩ h;simp only[bl,Data.agg.injEq,Data.int.injEq,Data.ar.injEq,Data.ptr.injEq] at h;exact cz h.1.1.2 (cz h.1.2.1.2 (cz h.1.2.2.1.2 (cz (map_inj fX _ _ h.1.2.2.2.1) (cz h.1.2.2.2.2.1.2 (cz (map_inj fX _ _ h.1.2.2.2.2.2.1) h.2.1.1.2)))))
@[go_sem] def aAS (a b s l s2 Z n):=cl OZ rfl ap0 (a,b,s,l,s2,Z,n) rfl
def ap1 (T:bj)(w7:T B3=aG FH):WF T acs OZ:=by
 refine b7 λ(a,b,s,l,s2,Z,n)=>cq λY=>⟨rfl,b6 ?_⟩;simp only[acs,OY,bX];obtain⟨bs,br⟩:=Y;unfold pV;rcases F:decide (a<0)
 ·rcases G:decide (a>=n)
  ·rcases ad:decide (b<0)
   ·rcases aZ:decide (b>=n)
    ·refine ah ?_;repeat' (intro h<;>simp only[h,go_sem,go_sem_proc,w7,bs,br,F,G,ad,aZ]<;>try refine ae ?_ ?_)
    ·refine ah ?_;repeat' (intro h<;>simp only[h,go_sem,go_sem_proc,w7,bs,br,F,G,ad,aZ]<;>try refine ae ?_ ?_)
   ·refine ah ?_;repeat' (intro h<;>simp only[h,go_sem,go_sem_proc,w7,bs,br,F,G,ad]<;>try refine ae ?_ ?_)
  ·refine ah ?_;repeat' (intro h<;>simp only[h,go_sem,go_sem_proc,w7,bs,br,F,G]<;>try refine ae ?_ ?_)
 ·refine ah ?_;repeat' (intro h<;>simp only[h,go_sem,go_sem_proc,w7,bs,br,F]<;>try refine ae ?_ ?_)
abbrev F3:(List cn)×Int->List Data:=λ(ls,n)=>[.ar (ls.map fh),.fn Nu [.ptr [.int .i64 n]]]
def O0:=bI F3 λ(ls,n)=>ca (qQ ls) (.same (.int .i64 (w8 (pV n) ls)))
def adx:∀a b,F3 a=F3 b->a=b:=by
  rintro⟨y5,rb⟩ ⟨y6,re⟩ h;simp only[bl,Data.ar.injEq,Data.fn.injEq,Data.ptr.injEq,Data.int.injEq] at h;exact cz (map_inj uy _ _ h.1) h.2.1.2.1.1.2
@[go_sem] def aAT (ls n):=cl O0 rfl adx (ls,n) rfl
def ap2 (T:bj)(F4:T Nu=aG OZ):WF T aan O0:=by
 refine b7 λ(ls,n)=>cq λY=>⟨rfl,b6 ?_⟩;simp only[aan,F3,bX];obtain⟨ag,dy⟩:=Y;simp only[go_sem,go_sem_proc,F4,aj];refine cX [0,1,7] [] (λ(i:Nat) tm mem=>i<=D ls/\(∀x∈ls.take i,pV n x=false)/\tm 8=.J (.int .i64 i)) (λi=>D ls-i) 0 (by refine⟨dG _,?_,rfl⟩;simp) ?_;intro vs ms aK aF;simp only[go_sem,go_sem_proc,F4,aj] at aK aF;subst aK aF;rintro i tm mem R hm ⟨ab,cZ,cd⟩;simp only[go_sem,go_sem_proc,F4,bl] at R hm;obtain⟨au,F,bM⟩:=R;rcases du (i<D ls) with aq|bD
 ·have L:=bf aq;obtain⟨ez,eS⟩:=dy _ (hb aq);have ha:=λh=>Ul (p:=pV n) cZ L h;have jo:=λh=>vn (p:=pV n) cZ L h;generalize ls[i]=x at *;have kK:decide ((i:Int)<(D ls:Int))=true:=c7;have hw:=e2 (i:=i) (by omega);obtain⟨a,b,⟨dA,dJ⟩,⟨ep,eB⟩⟩:=x;dsimp only at ez eS;rcases U:pV n (a,b,((dA,dJ),(ep,eB)))
  ·refine ah ?_;repeat' (intro (ai:_=_)<;>simp only[ai,go_sem,go_sem_proc,F4,au,F,bM,cd,L,kK,hw,ez,eS,U,aj,bg,fh,av]<;>try refine ae ?_ ?_)
   exact⟨i+1,by omega,by omega,jo U,rfl⟩
  ·rw[ha U];refine ah ?_;repeat' (intro (ai:_=_)<;>simp only[ai,go_sem,go_sem_proc,F4,au,F,bM,cd,L,kK,hw,ez,eS,U,aj,bg,fh,av]<;>try refine ae ?_ ?_)
 ·have kK:decide ((i:Int)<(D ls:Int))=false:=df;have js:i=D ls:=by omega
  subst js;rw[mB] at cZ;rw[Um cZ];refine ah ?_;repeat' (intro (ai:_=_)<;>simp only[ai,go_sem,go_sem_proc,F4,au,F,bM,cd,kK,aj]<;>try refine ae ?_ ?_)
def O1:=bI F3 λ(ls,n)=>ca (qQ ls) (.same (.bool (ls.any (pV n))))
@[go_sem] def aAU (ls n):=cl O1 rfl adx (ls,n) rfl
def ap3 (T:bj)(ap4:T Tb=aG O0):WF T aam O1:=by
 refine b7 λ(ls,n)=>cq λY=>⟨rfl,b6 ?_⟩;simp only[aam,F3,bX];rw[<-Un];refine ah ?_;repeat' (intro h<;>simp only[h,go_sem,go_sem_proc,ap4,Y]<;>try refine ae ?_ ?_)
def ow (ls:List cn)(n:Int):Bool:=!(decide (n<0))&&(!(decide (n>40))&&(!(decide ((D ls:Int)>400)) && !(ls.any (pV n))))
abbrev xe:(List cn)×Int->List Data:=λ(ls,n)=>[.ar (ls.map fh),.int .i64 n]
def F5:=bI xe λ(ls,n)=>ca (qQ ls) (.same (.bool (ow ls n)))
def O2:∀a b,xe a=xe b->a=b:=by
  rintro⟨y5,rb⟩ ⟨y6,re⟩ h;simp only[bl,Data.ar.injEq,Data.int.injEq] at h;exact cz (map_inj uy _ _ h.1) h.2.1.2
@[go_sem] def aAV (ls n):=cl F5 rfl O2 (ls,n) rfl
def ap5 (T:bj)(O3:T Ta=aG O1):WF T acr F5:=by
 refine b7 λ(ls,n)=>cq λY=>⟨rfl,b6 ?_⟩;simp only[acr,xe,bX];unfold ow;rcases F:decide (n<0)
 ·rcases G:decide (n>40)
  ·rcases ad:decide ((D ls:Int)>400)
   ·refine ah ?_;repeat' (intro h<;>simp only[h,go_sem,go_sem_proc,O3,Y,F,G,ad,aj,cN,rW,o1,scalar]<;>try refine ae ?_ ?_)
   ·refine ah ?_;repeat' (intro h<;>simp only[h,go_sem,go_sem_proc,O3,Y,F,G,ad,aj]<;>try refine ae ?_ ?_)
  ·refine ah ?_;repeat' (intro h<;>simp only[h,go_sem,go_sem_proc,O3,Y,F,G,aj]<;>try refine ae ?_ ?_)
 ·refine ah ?_;repeat' (intro h<;>simp only[h,go_sem,go_sem_proc,O3,Y,F,aj]<;>try refine ae ?_ ?_)
def o6 (cap base:List ax)(ls:List cn):Bool:=((D cap:Int)==(D base:Int))&&(ow ls (D cap)&&(!(cap.any λf => !g4 f) && !(base.any λf => !g4 f)))
def ox (cap base:List ax)(ls:List cn):Prop:=ih cap/\ih base/\qQ ls
abbrev pW:(List ax)×(List ax)×(List cn)->List Data:=λ(cap,base,ls)=>[.agg [.ar (cap.map av),.ar (base.map av),.ar (ls.map fh)]]
def F6:=bI pW λ(cap,base,ls)=>ca (ox cap base ls) (.same (.bool (o6 cap base ls)))
def CQ:∀a b,pW a=pW b->a=b:=by
  rintro⟨ady,adz,y5⟩ ⟨adA,adB,y6⟩ h;simp only[bl,Data.agg.injEq,Data.ar.injEq] at h;exact cz (map_inj j1 _ _ h.1.1) (cz (map_inj j1 _ _ h.1.2.1) (map_inj uy _ _ h.1.2.2.1))
@[go_sem] def aAW (cap base ls):=cl F6 rfl CQ (cap,base,ls) rfl
def ap6 (T:bj)(k6:T B5=aG F5)(gQ:T tI=aG sO):WF T acp F6:=by
 refine b7 λ(cap,base,ls)=>cq λY=>⟨rfl,b6 ?_⟩;simp only[acp,pW,bX];obtain⟨F,G,ad⟩:=Y;unfold o6;rcases aQ:((D cap:Int)==(D base:Int))
 ·refine ah ?_;repeat' (intro h<;>simp only[h,go_sem,go_sem_proc,k6,gQ,F,G,ad,aQ,aj]<;>try refine ae ?_ ?_)
 ·rcases az:ow ls (D cap)
  ·refine ah ?_;repeat' (intro h<;>simp only[h,go_sem,go_sem_proc,k6,gQ,F,G,ad,aQ,az,aj]<;>try refine ae ?_ ?_)
  ·rcases eT:cap.any λf => !g4 f
   ·refine ah ?_;repeat' (intro h<;>simp only[h,go_sem,go_sem_proc,k6,gQ,F,G,ad,aQ,az,eT,aj]<;>try refine ae ?_ ?_)
   ·refine ah ?_;repeat' (intro h<;>simp only[h,go_sem,go_sem_proc,k6,gQ,F,G,ad,aQ,az,eT,aj]<;>try refine ae ?_ ?_)
def adC {n:Int}(h:dY n):ie (bb n) (bb 1)=(ee (n:Rat),0):=by
 rw[FA (yP h) (by decide +kernel) (by decide),Rat.divInt_eq_div,show ((1:Int):Rat)=1 from rfl,show (n:Rat)/1=n by grind]
def CR:=bI tN λ(n:Int)=>ca (dY n) (.same (.agg (av (ee (n:Rat)))))
@[go_sem] def F7 (n):=cl CR rfl I1 n rfl
def ap7 (T:bj)(ap8:T ID=aG FB):WF T acu CR:=by
 refine b7 λn=>cq λY=>⟨rfl,b6 ?_⟩;simp only[acu,tN,bX];have F:dY 1:=by unfold dY;omega
 have h:=adC Y;generalize ee (n:Rat)=cp at *;obtain⟨⟨a,b⟩,⟨c,d⟩⟩:=cp;refine ah ?_;repeat' (intro (ai:_=_)<;>simp only[ai,go_sem,go_sem_proc,ap8,Y,F,h,cR,av]<;>try refine ae ?_ ?_)
def ap9 {x:List Data}(h:Fits [.int .i64,.int .i64,.st [.st [.int .i64,.ar (.int .i64)],.st [.int .i64,.ar (.int .i64)]]] x):∃r:cn,x=fh r:=by
 unfold Fits at h;obtain⟨a,b,rfl,F,G⟩:=h;unfold Fit at F;obtain⟨f,rfl,-⟩:=F;unfold Fits at G;obtain⟨a,b,rfl,ad,aZ⟩:=G;unfold Fit at ad;obtain⟨t,rfl,-⟩:=ad;unfold Fits at aZ;obtain⟨c,d,rfl,bw,bA⟩:=aZ;unfold Fit at bw;obtain⟨w,rfl⟩:=acG bw;unfold Fits at bA;subst bA;exact⟨(f,t,w),by simp[fh]⟩
def aqa {es:List (List Data)}(h:∀x∈es,Fit (.st [.int .i64,.int .i64,.st [.st [.int .i64,.ar (.int .i64)],.st [.int .i64,.ar (.int .i64)]]]) x):∃l:List cn,es=l.map fh:=by
 obtain⟨l,e,-⟩:=Nk (e:=fh) (good:=λ_=>True) λx L=>by
  have:=h x L;unfold Fit at this;obtain⟨r,rfl⟩:=ap9 this;exact⟨r,rfl,trivial⟩
 exact⟨l,e⟩
def aqb {x:List Data}(h:Fits [.ar (.st [.st [.int .i64,.ar (.int .i64)],.st [.int .i64,.ar (.int .i64)]]),.ar (.st [.st [.int .i64,.ar (.int .i64)],.st [.int .i64,.ar (.int .i64)]]),.ar (.st [.int .i64,.int .i64,.st [.st [.int .i64,.ar (.int .i64)],.st [.int .i64,.ar (.int .i64)]]])] x):∃(cap base:List ax) (ls:List cn),x=[.ar (cap.map av),.ar (base.map av),.ar (ls.map fh)]:=by
 unfold Fits at h;obtain⟨a,b,rfl,F,G⟩:=h;unfold Fit at F;obtain⟨es,rfl,-,F⟩:=F;obtain⟨cap,rfl⟩:=Ur F;unfold Fits at G;obtain⟨a,b,rfl,ad,aZ⟩:=G;unfold Fit at ad;obtain⟨es,rfl,-,ad⟩:=ad;obtain⟨base,rfl⟩:=Ur ad;unfold Fits at aZ;obtain⟨c,d,rfl,bw,bA⟩:=aZ;unfold Fit at bw;obtain⟨es,rfl,-,bw⟩:=bw;obtain⟨ls,rfl⟩:=aqa bw;unfold Fits at bA;subst bA;exact⟨cap,base,ls,rfl⟩
end Go.Mini
namespace Go.Mini
open Go
inductive dZ (α:Type) where
 |e
 |n (l:dZ α) (v:Option α) (r:dZ α)
variable {α:Type}
def dZ.get (t:dZ α):Nat->Option α :=
 dZ.rec (motive:=λ_=>Nat->Option α) (λ_=>none) (λ_ v _ vD Vf k=>gu (gu (Vf ((k-2)/2)) (vD ((k-1)/2)) (hg (k%2) 1)) v (hg k 0)) t
def dZ.set (v:Option α)(fuel:Nat):Nat->dZ α->dZ α :=
 Nat.rec (motive:=λ_=>Nat->dZ α->dZ α) (λ_ t=>t) (λ_ a4 k t=>dZ.rec (motive:=λ_=>dZ α)
  (gu (gu (.n .e none (a4 ((k-2)/2) .e)) (.n (a4 ((k-1)/2) .e) none .e) (hg (k%2) 1)) (.n .e v .e) (hg k 0))
  (λl w r _ _=>gu (gu (.n l w (a4 ((k-2)/2) r)) (.n (a4 ((k-1)/2) l) w r) (hg (k%2) 1)) (.n l v r) (hg k 0)) t) fuel
def dZ.aqc (k:Nat):(dZ.e:dZ α).get k=none:=rfl
def dZ.xf (l:dZ α)(v:Option α)(r:dZ α)(k:Nat):(dZ.n l v r).get k=if k=0 then v else if k%2=1 then l.get ((k-1)/2) else r.get ((k-2)/2):=by
 show (gu (gu (r.get ((k-2)/2)) (l.get ((k-1)/2)) (hg (k%2) 1)) v (hg k 0):Option α)=_
 by_cases h:k=0
 ·subst h;rfl
 ·have F:hg k 0=false:=by cases k with|zero=>exact absurd rfl h|succ k=>rfl
  rw[F,aT h]
  by_cases G:k%2=1
  ·rw[G,aL rfl];rfl
  ·have ad:k%2=0:=by omega
   rw[ad,aT (by omega)];rfl
def dZ.aqd (v:Option α)(n k:Nat)(t:dZ α):dZ.set v (n+1) k t=(match t with
  |.e=>if k=0 then .n .e v .e else if k%2=1 then .n (dZ.set v n ((k-1)/2) .e) none .e else .n .e none (dZ.set v n ((k-2)/2) .e)
  |.n l w r=>if k=0 then .n l v r else if k%2=1 then .n (dZ.set v n ((k-1)/2) l) w r else .n l w (dZ.set v n ((k-2)/2) r)):=by
 have U:∀{β:Type} (a b c:β),(gu (gu a b (hg (k%2) 1)) c (hg k 0):β)=if k=0 then c else if k%2=1 then b else a:=by
  intro β a b c
  by_cases h:k=0
  ·subst h;rfl
  ·have F:hg k 0=false:=by cases k with|zero=>exact absurd rfl h|succ k=>rfl
   rw[F,aT h]
   by_cases G:k%2=1
   ·rw[G,aL rfl];rfl
   ·have ad:k%2=0:=by omega
    rw[ad,aT (by omega)];rfl
 cases t with
 |e=>exact U _ _ _
 |n l w r=>exact U _ _ _
def dZ.F8 (v:Option α):∀(fuel k:Nat) (t:dZ α) (j:Nat),k+1<2^fuel->(dZ.set v fuel k t).get j=if j=k then v else t.get j
 |0,k,t,j,h=>by simp at h
 |m+1,k,t,j,h=>by
  have aR:2^(m+1)=2*2^m:=by rw[Nat.pow_succ];omega
  rw[dZ.aqd]
  cases t with
  |e =>
   simp only
   split
   ·rename_i R;subst R;rw[dZ.xf]
    split
    ·rfl
    ·split<;>simp[dZ.aqc]
   ·rename_i R
    split
    ·rename_i F;rw[dZ.xf,dZ.F8 v m _ _ _ (by omega)]
     by_cases aa:j=0
     ·rw[aL aa,aT (by omega)];rfl
     ·rw[aT aa]
      by_cases nX:j%2=1
      ·rw[aL nX]
       by_cases b3:j=k
       ·rw[aL (by omega),aL b3]
       ·rw[aT (by omega),aT b3];rfl
      ·rw[aT nX,aT (by omega)];rfl
    ·rename_i F;rw[dZ.xf,dZ.F8 v m _ _ _ (by omega)]
     by_cases aa:j=0
     ·rw[aL aa,aT (by omega)];rfl
     ·rw[aT aa]
      by_cases nX:j%2=1
      ·rw[aL nX,aT (by omega)];rfl
      ·rw[aT nX]
       by_cases b3:j=k
       ·rw[aL (by omega),aL b3]
       ·rw[aT (by omega),aT b3];rfl
  |n l w r =>
   simp only
   split
   ·rename_i R;subst R;rw[dZ.xf,dZ.xf]
    split<;>simp_all
   ·rename_i R
    split
    ·rename_i F;rw[dZ.xf,dZ.xf,dZ.F8 v m _ _ _ (by omega)]
     by_cases aa:j=0
     ·rw[aL aa,aT (by omega),aL aa]
     ·rw[aT aa,aT aa]
      by_cases nX:j%2=1
      ·rw[aL nX,aL nX]
       by_cases b3:j=k
       ·rw[aL (by omega),aL b3]
       ·rw[aT (by omega),aT b3]
      ·rw[aT nX,aT (by omega),aT nX]
    ·rename_i F;rw[dZ.xf,dZ.xf,dZ.F8 v m _ _ _ (by omega)]
     by_cases aa:j=0
     ·rw[aL aa,aT (by omega),aL aa]
     ·rw[aT aa,aT aa]
      by_cases nX:j%2=1
      ·rw[aL nX,aT (by omega),aL nX]
      ·rw[aT nX,aT nX]
       by_cases b3:j=k
       ·rw[aL (by omega),aL b3]
       ·rw[aT (by omega),aT b3]
abbrev fq:=dZ I
abbrev e7:=dZ (Nat×List I)
def cT (t:fq):Nat->I:=λk=>k7 I.no (λv=>v) (t.get k)
def cr (m:e7):Mem:=λk=>m.get k
def xg (k:Nat)(v:I)(t:fq):fq:=dZ.set (some v) 20 k t
def O4 (k:Nat)(g:Nat)(cs:List I)(m:e7):e7:=dZ.set (some (g,cs)) 40 k m
def Vg {k:Nat}(h:k<1000000)(v:I)(t:fq):cT (xg k v t)=ea (cT t) k v:=by
 funext j
 unfold cT xg;rw[dZ.F8 _ _ _ _ _ (by omega)];simp only[ea]
 split<;>rfl
def adD {k:Nat}(h:k<1000000000000)(g:Nat)(cs:List I)(m:e7):cr (O4 k g cs m)=aV (cr m) k g cs:=by
 funext j
 unfold cr O4;rw[dZ.F8 _ _ _ _ _ (by omega)]
 rfl
end Go.Mini
namespace Go.Mini
open Go
def fC (kb:Nat):fN->fN
 |.alloc k z => .alloc (kb+k) z
 |.box k x => .box (kb+k) x
 |.dN k o z sz len cV => .dN (kb+k) o z sz len cV
 |.la k z b x y => .la (kb+k) z b x y
 |.app k z b s x => .app (kb+k) z b s x
 |.lb k sz f l => .lb (kb+k) sz f l
 |.v9 k => .v9 (kb+k)
 |op=>op
variable {P:Program} {own:List Nat} {dst:Option Nat} {ty:TypeId}
def aqe (kb:Nat){HW:BinOp}{t:TypeId}{x y:Operand}{m:fN}(h:tv P HW t x y=some m):fC kb m=m:=by
 unfold tv tu at h
 (repeat' split at h)<;>simp_all [c4]
 all_goals first
  |(obtain⟨_,_,rfl⟩:=h;rfl)
  |(subst h;rfl)
def aqf (kb:Nat){c:Call}:rZ P kb own dst ty c=(rZ P 0 own dst ty c).map (fC kb):=by
 unfold rZ
 (repeat' split)<;>simp[O5,Function.comp_def,adE,fC,apply_ite (adF (fC kb))]
def aqg (kb:Nat){op:Op}:gX P kb own dst ty op=(gX P 0 own dst ty op).map (fC kb):=by
 cases op
 case binOp HW t x y z =>
  simp only[gX]
  cases h:tv P HW t x y with
  |none=>rfl
  |some m=>simp[aqe kb h]
 case call c=>exact aqf kb
 case makeFunc fn a b =>
  cases fn<;>simp only[gX]<;>try rfl
  split<;>simp[O5,Function.comp_def,fC]
 case makeMap t r =>
  cases r<;>simp only[gX]<;>try rfl
  (repeat' split)<;>simp[O5,Function.comp_def,fC]
 all_goals
  simp only[gX]
  try rfl
  try ((repeat' split)<;>simp[O5,Function.comp_def,adE,fC,apply_ite (adF (fC kb))])
end Go.Mini
namespace Go.Mini
open Go
inductive X where
 |l2
 |o7 (i:Nat)
 |ret
 |hh (v:I)
inductive cv where
 |no
 |ok (x:X) (t:fq) (m:e7) (c:Nat) (d:Option I)
inductive W (α:Type) where
 |mk (f:α)
def W.ap {α:Type}(w:W α):α:=W.rec (motive:=λ_=>α) (λf=>f) w
def oy {α:Type}(f:α):W.ap (.mk f)=f:=rfl
inductive jv where
 |no
 |ok (v:I) (m:e7) (c:Nat)
 |hh (v:I) (m:e7) (c:Nat)
abbrev jH:=FuncId->List I->e7->Nat->jv
abbrev y7:=fq->e7->Nat->Option I->cv
abbrev F9:=jH->Nat->fq->e7->Nat->Option I->y7->cv
def jI:bx->W (fq->I)
 |.t k => .mk λt=>k7 I.no (λv=>v) (t.get k)
 |.c m => .mk λ_=>m
def oz (x:bx)(t:fq):W.ap (jI x) t=aM (cT t) x:=by cases x<;>rfl
def aqh (l:List bx)(t:fq):(l.map λx=>W.ap (jI x) t)=l.map (aM (cT t)):=List.map_congr_left λx _=>oz x t
def iE (d:Option Nat)(t:fq)(v:I):fq:=k7 t (λk=>xg k v t) d
def AM {d:Option Nat}{n:Nat}(aC:n<=1000000)(h:d.all (λd=>decide (d<n))=true)(t:fq)(v:I):cT (iE d t v)=put (cT t) d v:=by
 cases d with
 |none=>rfl
 |some k =>
  simp only[Option.all_some,decide_eq_true_eq] at h;exact Vg (by omega) v t
def CS (d:Option Nat)(m:Option I)(t:fq)(K:fq->cv):cv:=k7 cv.no (λv=>K (iE d t v)) m
def CT (dst:Option Nat)(run:jH)(f:FuncId)(l:List I)(t:fq)(m:e7)(c:Nat)(d:Option I)(K:y7):cv :=
 jv.rec cv.no (λv m c=>K (iE dst t v) m c d) (λv m c=>cv.ok (.hh v) t m c d) (run f l m c)
def Kd (dst:Option Nat)(op:fN)(kb:Nat)(t:fq)(m:e7)(K:fq->e7->cv):cv :=
 match bF (cr m) (cT t) (fC kb op) with
 |some (v,none)=>K (iE dst t v) m
 |some (v,some x)=>gu cv.no (K (iE dst t v) (O4 x.1 x.2.1 x.2.2 m)) (AN x.1 1000000000000)
 |none=>cv.no
def rD (dst:Option Nat)(op:fN):W F9 :=
 match op with
 |.iu x => .mk λ_ _ t m c d K=>K (iE dst t (W.ap (jI x) t)) m c d
 |.bin op x y => .mk λ_ _ t m c d K=>CS dst (D1 op (W.ap (jI x) t) (W.ap (jI y) t)) t λt=>K t m c d
 |.beq n x y => .mk λ_ _ t m c d K=>CS dst (D2 n (W.ap (jI x) t) (W.ap (jI y) t)) t λt=>K t m c d
 |.load n bJ x => .mk λ_ _ t m c d K=>CS dst (iW (cr m) n bJ (W.ap (jI x) t)) t λt=>K t m c d
 |.xD o n bJ x => .mk λ_ _ t m c d K=>CS dst (D5 o n bJ (W.ap (jI x) t)) t λt=>K t m c d
 |.tk o x => .mk λ_ _ t m c d K=>CS dst (D4 o (W.ap (jI x) t)) t λt=>K t m c d
 |.call f l => .mk λrun _ t m c d K=>CT dst run f (l.map λx=>W.ap (jI x) t) t m c d K
 |.jN f l => .mk λrun _ t m c d K=>match W.ap (jI f) t with
  |.ef g dd=>CT dst run g ((l.map λx=>W.ap (jI x) t)++dd) t m c d K
  |.J (.fn g ds)=>CT dst run g ((l.map λx=>W.ap (jI x) t)++ds.map .J) t m c d K
  |_=>cv.no
 |.lR neg x => .mk λ_ _ t m c d K=>match xH (W.ap (jI x) t) with
  |some true=>K (iE dst t (.J (.bool neg))) m c d
  |_=>cv.no
 |op => .mk λ_ kb t m c d K=>Kd dst op kb t m λt m=>K t m c d
def Vh (dst:Option Nat)(op:fN)(kb:Nat)(t:fq)(m:e7)(r:cv)(K:fq->e7->cv):Prop :=
 r=cv.no\/∃v e m',bF (cr m) (cT t) (fC kb op)=some (v,e)/\cr m'=gg (cr m) e/\r=K (iE dst t v) m'
def Ke {dst:Option Nat}{op:fN}{kb:Nat}{t:fq}{m:e7}{K:fq->e7->cv}{x:Option I}(h:bF (cr m) (cT t) (fC kb op)=iv x):Vh dst op kb t m (CS dst x t λt=>K t m) K:=by
 cases x with
 |none=>exact .inl rfl
 |some v=>exact .inr ⟨v,none,m,h,rfl,rfl⟩
def adG {dst:Option Nat}{op:fN}{kb:Nat}{t:fq}{m:e7}{K:fq->e7->cv}:Vh dst op kb t m (Kd dst op kb t m K) K:=by
 unfold Kd
 split
 ·rename_i v h;exact .inr ⟨v,none,m,h,rfl,rfl⟩
 ·rename_i v x h
  cases U:AN x.1 1000000000000 with
  |false=>exact .inl rfl
  |true =>
   obtain⟨k,g,cs⟩:=x;refine .inr ⟨v,_,_,h,adD ?_ g cs m,rfl⟩;exact of_decide_eq_true (by simpa [Nat.blt_eq] using U)
 ·exact .inl rfl
inductive aqi (dst:Option Nat) (op:fN) (run:jH) (kb:Nat) (t:fq) (m:e7) (c:Nat) (d:Option I) (r:cv) (K:y7):Prop
 |no (h:r=cv.no)
 |bF (h:Vh dst op kb t m r λt m=>K t m c d)
 |call (f:FuncId) (l:List bx) (a6:op=.call f l) (h:r=CT dst run f (l.map (aM (cT t))) t m c d K)
 |jN (f:bx) (l:List bx) (g:FuncId) (dd:List I) (a6:op=.jN f l) (al:aM (cT t) f=.ef g dd\/∃ds,aM (cT t) f=.J (.fn g ds)/\dd=ds.map .J) (h:r=CT dst run g (l.map (aM (cT t))++dd) t m c d K)
 |lR (neg:Bool) (x:bx) (a6:op=.lR neg x) (al:xH (aM (cT t) x)=some true) (h:r=K (iE dst t (.J (.bool neg))) m c d)
def aqj {dst:Option Nat}{op:fN}{run:jH}{kb:Nat}{t:fq}{m:e7}{c:Nat}{d:Option I}{K:y7}:aqi dst op run kb t m c d (W.ap (rD dst op) run kb t m c d K) K:=by
 cases op
 case iu x=>exact .bF (.inr ⟨_,none,m,rfl,rfl,by simp only[rD,oy,oz]⟩)
 case bin o x y=>exact .bF (by simp only[rD,oy,oz];exact Ke (K:=λt m=>K t m c d) rfl)
 case beq o x y=>exact .bF (by simp only[rD,oy,oz];exact Ke (K:=λt m=>K t m c d) rfl)
 case load n bJ x=>exact .bF (by simp only[rD,oy,oz];exact Ke (K:=λt m=>K t m c d) rfl)
 case xD o n bJ x=>exact .bF (by simp only[rD,oy,oz];exact Ke (K:=λt m=>K t m c d) rfl)
 case tk o x=>exact .bF (by simp only[rD,oy,oz];exact Ke (K:=λt m=>K t m c d) rfl)
 case call f l=>exact .call f l rfl (by simp only[rD,oy,oz])
 case jN f l =>
  simp only[rD,oy,oz]
  split
  ·rename_i g dd al;exact .jN f l g dd rfl (.inl al) rfl
  ·rename_i g ds al;exact .jN f l g _ rfl (.inr ⟨ds,al,rfl⟩) rfl
  ·exact .no rfl
 case lR neg x =>
  simp only[rD,oy,oz]
  split
  ·rename_i al;exact .lR neg x rfl al rfl
  ·exact .no rfl
 all_goals exact .bF (adG (K:=λt m=>K t m c d))
end Go.Mini
namespace Go.Mini
open Go
def sZ (P:Program)(run:jH):Prop:=∀f args m c,match run f args m c with
 |.no=>True
 |.ok v m' _=>Real P f/\∀A w B vs,dQ A w B (cr m)->cC w (bp A B) B args vs->Calls P f vs.toArray w λe an=>∃u aA,e=.returned u/\da A w B an aA (cr m')/\a0 an (bp A aA) aA v u
 |.hh v m' _=>Real P f/\∀A w B vs,dQ A w B (cr m)->cC w (bp A B) B args vs->Calls P f vs.toArray w λe an=>∃u aA,e=.panicked [{ v:=u,recovered:=false }]/\da A w B an aA (cr m')/\a0 an (bp A aA) aA v u
def aqk (o:Oper):List Nat:=match o.op with
 |.buildSlice ..=>o.dst.toList
 |_=>[]
def Vi (y:bx)(t:fq)(m:e7)(c:Nat)(d:Option I):cv:=match W.ap (jI y) t with
 |.J (.n2 ty v)=>cv.ok (.hh (.J (.n2 ty v))) t m c d
 |_=>cv.no
def Vj (y:bx)(t:fq)(m:e7)(c:Nat)(d:Option I)(K:y7):cv:=match d,W.ap (jI y) t with
 |none,.ef f dd=>K t m c (some (.ef f dd))
 |_,_=>cv.no
def adH:W F9:=.mk λ_ _ _ _ _ _ _=>cv.no
def adI (i:bz):W F9:=match i.g with
 |none=>rD i.dst i.op
 |some (s,b) => .mk λrun kb t m c d K=>match cT t s with
  |.J (.bool q)=>gu (K (iE i.dst t .no) m c d) (W.ap (rD i.dst i.op) run kb t m c d K) (q==b)
  |.no=>K (iE i.dst t .no) m c d
  |_=>cv.no
def adJ (o:Oper):Option bx:=match o.op with
 |.defer { callee:=.value f,args:=⟨[]⟩,.. }=>if o.dst.isNone=true/\o.guard.isNone=true then cP f else none
 |_=>none
def adK (o:Oper):Option bx:=match o.op with
 |.panic x=>if o.guard.isNone=true then cP x else none
 |_=>none
def adL (P:Program)(o:Oper):Option I:=match o.op with
 |.load ty (.global g)=>match L6 g,fH P ty,ts P ty with
  |some l,some n,some true=>if (D l)=n/\o.guard.isNone=true then some (.agg (l.map λs => .J (.str s))) else none
  |_,_,_=>none
 |_=>none
def O6 (P:Program)(n:Nat)(ops:Array Oper)(o:Oper):W F9 :=
 match nC P n 0 (aqk o) ops o with
 |none=>adH
 |some i=>match i.op with
  |.bad=>match adK o with
   |some y => .mk λ_ _ t m c d _=>Vi y t m c d
   |none=>match adJ o with
    |some y => .mk λ_ _ t m c d K=>Vj y t m c d K
    |none=>match adL P o with
     |some v => .mk λ_ _ t m c d K=>K (iE o.dst t v) m c d
     |none=>adH
  |_=>adI i
variable {P:Program} {A:Nat->Prop} {ct w:World} {dE B:cU} {n kb:Nat} {ops:Array Oper} {o:Oper} {run:jH} {t:fq} {m:e7} {c:Nat} {d:Option I}
def Vk (P:Program)(ops:Array Oper)(o:Oper)(next:Act->World->Prop)(a5:Exit->Act->World->Prop)(a:Act)(w:World):Prop :=
 (Region.wanted o (yielded ops a.tmps)=true/\o.wp P a w next a5)\/(Region.wanted o (yielded ops a.tmps)=false/\next (a.put o.dst undef) w)
def toQ (A:Nat->Prop)(a5:Exit->Act->World->Prop):X->Act->World->cU->Prop
 |.l2,a,w,_=>a5 .normal a w
 |.o7 i,a,w,_=>a5 (.exit i) a w
 |.ret,a,w,_=>a5 .ret a w
 |.hh v,a,w,B=>∀u,a0 w (bp A B) B v u->a5 (.panic [{ v:=u,recovered:=false }]) a w
def gV (kb:Nat)(i:bz):bz:=⟨i.dst,i.g,fC kb i.op⟩
def adM {own:List Nat}{i:bz}(h:nC P n 0 own ops o=some i):nC P n kb own ops o=some (gV kb i):=by
 unfold nC at *
 split at h
 ·rename_i g aN
  split at h
  ·rename_i aq;simp only[bO] at h;subst h;simp only[aL aq,gV,bO,bz.mk.injEq,true_and];rw[aqg kb]
   cases gX P 0 own o.dst o.type o.op<;>rfl
  ·cases h
 ·cases h
def adN {a:Act}{f:FuncId}{l:List I}{vs:List Value}{K:y7}{r:cv}{next:Act->World->Prop}{a5:Exit->Act->World->Prop}(eN:sZ P run)(aC:n<=1000000)(M:r=CT o.dst run f l t m c d K)(bq:r ≠ .no)
  (Q:dS d n A ct dE a ⟨cT t,cr m⟩ w B) (aq:o.dst.all (λd=>decide (d<n))=true) (ao:cC w (bp A B) B l vs) (adO:Real P f->(execOp a.eval o).run P w=.ok (.enter f vs.toArray) w)
  (ei:∀t1 aY ck d1 cD an aA,r=K t1 aY ck d1->dS d1 n A ct dE cD ⟨cT t1,cr aY⟩ an aA->next cD an)
  (dV:∀x t1 aY ck d1 cD an aA,r=cv.ok (.hh x) t1 aY ck d1->dS d1 n A ct dE cD ⟨cT t1,cr aY⟩ an aA->toQ A a5 (.hh x) cD an aA):o.wp P a w next a5:=by
 have h:=eN f l m c;unfold CT at M;unfold Oper.wp
 cases ed:run f l m c with
 |no=>rw[ed] at M;exact absurd M bq
 |ok v m' kB =>
  rw[ed] at h M;obtain⟨gz,Y⟩:=h;rw[adO gz];refine Calls.mono (Y A w B vs Q.ok.cu ao) λe an he=>?_;obtain⟨u,aA,rfl,dg,jm⟩:=he;refine ei (iE o.dst t v) m' kB d _ an aA M ?_;rw[AM aC aq];exact Q.put dg jm aq
 |hh v m' kB =>
  rw[ed] at h M;obtain⟨gz,Y⟩:=h;rw[adO gz];refine Calls.mono (Y A w B vs Q.ok.cu ao) λe an he=>?_;obtain⟨u,aA,rfl,dg,jm⟩:=he;exact dV v t m' kB d a an aA M (Q.put (dst:=none) dg jm rfl) u jm
def adP {own:List Nat}{a:Act}{i:bz}{K:y7}{r:cv}{next:Act->World->Prop}{a5:Exit->Act->World->Prop}(eN:sZ P run)(aC:n<=1000000)(ab:Et P n kb own ops o (gV kb i))(M:r=W.ap (rD i.dst i.op) run kb t m c d K)(bq:r ≠ .no)
  (Q:dS d n A ct dE a ⟨cT t,cr m⟩ w B)
  (ei:∀t1 aY ck d1 cD an aA,r=K t1 aY ck d1->dS d1 n A ct dE cD ⟨cT t1,cr aY⟩ an aA->next cD an)
  (dV:∀x t1 aY ck d1 cD an aA,r=cv.ok (.hh x) t1 aY ck d1->dS d1 n A ct dE cD ⟨cT t1,cr aY⟩ an aA->toQ A a5 (.hh x) cD an aA):o.wp P a w next a5:=by
 have e5:=ab.op;have uz:i.dst=o.dst:=ab.dst;have aq:=ab.lt;simp only[gV] at e5;have fa:=aqj (dst:=i.dst) (op:=i.op) (run:=run) (kb:=kb) (t:=t) (m:=m) (c:=c) (d:=d) (K:=K);rw[<-M] at fa
 cases fa with
 |no h=>exact absurd h bq
 |bF h =>
  rcases h with h|⟨v,e,m',Ig,uZ,aql⟩
  ·exact absurd h bq
  ·have ay:gX P kb own o.dst o.type o.op=some (fC kb i.op):=getD_some e5 (by
    intro U;rw[U] at Ig
    cases Ig)
   obtain⟨zR,u,an,aA,hex,jo,dg,ao⟩:=RH Q.ok.cu Q.kh (λ_=>rfl) ay Ig;unfold Oper.wp;rw[hex];have x0:=Q.put dg ao aq;have:=ei _ _ _ _ (a.put o.dst u) an aA aql (by rw[uz,AM aC aq,uZ];exact x0);rcases jo with rfl|⟨rfl,rfl⟩
   ·exact this
   ·exact this
 |call f l a6 h =>
  rw[a6] at e5;have ay:=getD_some e5 (by simp[fC]);obtain⟨Kf,Y,hW,jq⟩:=HZ ay;refine adN eN aC (by rw[<-uz];exact h) bq Q aq (qs Q.kh jq) (λgz=>wB Y hW gz) ei dV
 |jN f l g dd a6 al h =>
  rw[a6] at e5;have ay:=getD_some e5 (by simp[fC]);obtain⟨Kf,x,Y,hW,L,jq⟩:=RM ay;obtain⟨cs,hu,b9⟩:=H2 (Q.kh _ _ L) al;refine adN eN aC (by rw[<-uz];exact h) bq Q aq ((qs Q.kh jq).append b9) (λgz=>?_) ei dV;obtain⟨dst,op,type,pos,after,guard⟩:=o;simp only at Y;subst Y;obtain⟨callee,sc,zS⟩:=Kf;simp only at hW;subst hW;simp only[execOp,resolve,hu,Deferred.ofValue,invoke,Sem.run_bind,Sem.run_pure,Result.andThen_ok,By gz];rw[wq sc];simp
 |lR neg x a6 al h =>
  rw[a6] at e5;have ay:=getD_some e5 (by simp[fC]);obtain⟨ty,e,y,y',z,Y,mn,bN,ak⟩:=YJ ay
  have H3:a.eval y' = .slice none 0 0:=by
   unfold Mr at mn
   split at mn
   ·rfl
   ·cases mn
  obtain⟨b,U,hex⟩:=YK (y:=y) (y':=y') neg bN (Q.kh _ _ ak) al H3;have hE:=U rfl;subst hE
  have x0:dS d n A ct dE (a.put o.dst (.bool (neg != false))) ⟨cT (iE i.dst t (.J (.bool neg))),cr m⟩ w B:=by
   rw[uz,AM aC aq];have:(neg != false)=neg:=by cases neg<;>rfl
   rw[this];exact Q.put (.refl Q.ok.cu) (.J .bool) aq
  have:=ei _ _ _ _ _ w B h x0;obtain⟨dst,op,type,pos,after,guard⟩:=o;simp only at Y;subst Y;unfold Oper.wp
  have L:(execOp a.eval ⟨dst,.binOp (if neg then .neq else .eql) ty y y' z,type,pos,after,guard⟩).run P w=.ok (.value (.bool (neg != false))) w:=by
   simp only[execOp];rw[Sem.run_bind,hex]
   rfl
  rw[L];exact this
def aqm {a:Act}{K:y7}{r:cv}{next:Act->World->Prop}{a5:Exit->Act->World->Prop}(eN:sZ P run)(aC:n<=1000000)(M:r=W.ap (O6 P n ops o) run kb t m c d K)(bq:r ≠ .no)
  (Q:dS d n A ct dE a ⟨cT t,cr m⟩ w B)
  (ei:∀t1 aY ck d1 cD an aA,r=K t1 aY ck d1->dS d1 n A ct dE cD ⟨cT t1,cr aY⟩ an aA->next cD an)
  (dV:∀x t1 aY ck d1 cD an aA,r=cv.ok (.hh x) t1 aY ck d1->dS d1 n A ct dE cD ⟨cT t1,cr aY⟩ an aA->toQ A a5 (.hh x) cD an aA):Vk P ops o next a5 a w:=by
 unfold O6 at M
 split at M
 ·exact absurd M bq
 ·rename_i i ay;have ab:=H0 (adM (kb:=kb) ay)
  split at M
  ·split at M
   ·rename_i y ak;unfold adK at ak
    split at ak
    ·rename_i x L
     split at ak
     ·rename_i aN
      have hw:Region.wanted o (yielded ops a.tmps)=true:=by
       unfold Region.wanted;rw[O7.1 aN]
      refine .inl ⟨hw,?_⟩;have dD:r=Vi y t m c d:=M;unfold Vi at dD;rw[oz] at dD
      split at dD
      ·rename_i ty v kT;have ao:=Q.kh x y ak;rw[kT] at ao;have kR:=ao;generalize a.eval x=u at ao kR;unfold Oper.wp
       have rh:(execOp a.eval o).run P w=.halt (.panic (a.eval x)) w:=by
        have nE:=Q.kh x y ak;rw[kT] at nE
        have mU:∃u,a.eval x=.iface ty u:=by
         generalize a.eval x=u at nE
         cases nE with
         |J nE=>cases nE with
          |n2 h=>exact⟨_,rfl⟩
        obtain⟨u,hu⟩:=mU;simp only[execOp,L,hu,Sem.run_bind]
        rfl
       rw[rh];refine dV _ t m c d a w B dD Q (a.eval x) ?_;have nE:=Q.kh x y ak;rw[kT] at nE;exact nE
      ·exact absurd dD bq
     ·cases ak
    ·cases ak
   ·split at M
    ·rename_i y ak;unfold adJ at ak
     split at ak
     ·rename_i f zS L
      split at ak
      ·rename_i aN
       have hw:Region.wanted o (yielded ops a.tmps)=true:=by
        unfold Region.wanted;rw[O7.1 aN.2]
       refine .inl ⟨hw,?_⟩;have dD:r=Vj y t m c d K:=M;unfold Vj at dD;rw[oz] at dD
       split at dD
       ·rename_i g dd kT;have ao:=Q.kh f y ak;rw[kT] at ao;obtain⟨cs,hu,b9⟩:=H2 ao (.inl rfl);rw[hu] at ao;unfold Oper.wp
        have rh:(execOp a.eval o).run P w=.ok (.defer { target:=.fn (.func g) cs.toArray,args:=#[] }) w:=by
         simp only[execOp,L,resolve,hu,Deferred.ofValue,Sem.run_bind,Sem.run_pure,Result.andThen_ok];simp
        rw[rh];have kH:o.dst=none:=O7.1 aN.1;refine ei t m c (some (.ef g dd)) _ w B dD ?_;rw[kH];refine⟨Q.ok,Q.tm,Q.sz,⟨g,dd,cs.toArray,rfl,?_,ao⟩⟩;have:=Q.wv;simp only[HY] at this;show _::a.defers=_;rw[this]
       ·exact absurd dD bq
      ·cases ak
     ·cases ak
    ·split at M
     ·rename_i v ao;have dD:r=K (iE o.dst t v) m c d:=M;unfold adL at ao
      split at ao
      ·rename_i ty g L
       split at ao
       ·rename_i l Ga jT ec uP
        split at ao
        ·rename_i Y;obtain⟨ag,aN⟩:=Y;simp only[bO] at ao
         have hw:Region.wanted o (yielded ops a.tmps)=true:=by
          unfold Region.wanted;rw[O7.1 aN]
         refine .inl ⟨hw,?_⟩;obtain⟨T,cw⟩:=Q.ok.cu.gl g l jT
         have b9:cC w (bp A B) B (l.map λs => .J (.str s)) (zA l):=⟨by simp[zA],λi x u F G=>by
          unfold zA at G;rw[bg,c4] at F G;obtain⟨s,ad,rfl⟩:=F;obtain⟨xX,aZ,rfl⟩:=G;rw[ad] at aZ
          cases aZ;exact .J .str⟩
         have ha:=mQ.row cw;simp only at ha;obtain⟨u,F,G⟩:=Rm (P:=P) (r:=v) ec uP (by simp[ag]) b9 ha (by rw[<-ao];rfl);unfold Oper.wp
         have rh:(execOp a.eval o).run P w=.ok (.value u) w:=by
          have ad:(Instr.loadAt ty (a.eval (.global g))).run P w=.ok u w:=by
           simpa [Instr.loadAt,Instr.sureAddr,Act.eval] using F
          simp only[execOp,L,Sem.run_bind,ad]
          rfl
         rw[rh];refine ei _ _ _ _ _ w B dD ?_;rw[AM aC ab.lt];exact Q.put (.refl Q.ok.cu) G ab.lt
        ·cases ao
       ·cases ao
      ·cases ao
     ·exact absurd M bq
  ·unfold adI at M
   split at M
   ·rename_i aN;have hw:Region.wanted o (yielded ops a.tmps)=true:=zQ Q ab.guard (by simp only[gV,aN];rfl);exact .inl ⟨hw,adP eN aC ab M bq Q ei dV⟩
   ·rename_i s b aN
    have dD:r=(match cT t s with
     |.J (.bool q)=>gu (K (iE i.dst t .no) m c d) (W.ap (rD i.dst i.op) run kb t m c d K) (q==b)
     |.no=>K (iE i.dst t .no) m c d
     |_=>cv.no):=M
    have AH:r=K (iE i.dst t .no) m c d->g9 (cT t) i.g=some false->Vk P ops o next a5 a w:=λF G=>by
     refine .inr ⟨zQ Q ab.guard G,ei _ _ _ _ _ w B F ?_⟩;have uz:i.dst=o.dst:=ab.dst;rw[uz,AM aC ab.lt];exact Q.put (.refl Q.ok.cu) .no ab.lt
    split at dD
    ·rename_i q aU
     cases wY:(q==b) with
     |false =>
      rw[wY] at dD;exact AH dD (by rw[aN];simp only[g9,aU,wY])
     |true =>
      rw[wY] at dD;have hw:Region.wanted o (yielded ops a.tmps)=true:=zQ Q ab.guard (by simp only[gV,aN,g9,aU,wY]);exact .inl ⟨hw,adP eN aC ab dD bq Q ei dV⟩
    ·rename_i aU;exact AH dD (by rw[aN];simp only[g9,aU])
    ·exact absurd dD bq
def Gb (P:Program)(n:Nat)(ops:Array Oper)(l:List Oper):W F9 :=
 List.rec (motive:=λ_=>W F9) (.mk λ_ _ t m c d K=>K t m c d) (λo _ vD => .mk λrun kb t m c d K=>W.ap (O6 P n ops o) run kb t m c d λt m c d=>W.ap vD run kb t m c d K) l
def O8 (P:Program)(ops:Array Oper)(a5:Exit->Act->World->Prop):List Oper->Act->World->Prop
 | [],a,w=>a5 .normal a w
 |o::l,a,w=>Vk P ops o (O8 P ops a5 l) a5 a w
def Vl {a5:Exit->Act->World->Prop}(eN:sZ P run)(aC:n<=1000000){K:y7}{r:cv}(bq:r ≠ .no)(ei:∀t1 aY ck d1 cD an aA,r=K t1 aY ck d1->dS d1 n A ct dE cD ⟨cT t1,cr aY⟩ an aA->a5 .normal cD an)
  (dV:∀x t1 aY ck d1 cD an aA,r=cv.ok (.hh x) t1 aY ck d1->dS d1 n A ct dE cD ⟨cT t1,cr aY⟩ an aA->toQ A a5 (.hh x) cD an aA):∀(l:List Oper) (t:fq) (m:e7) (c:Nat) (d:Option I) (a:Act) (w:World) (B:cU),r=W.ap (Gb P n ops l) run kb t m c d K ->
  dS d n A ct dE a ⟨cT t,cr m⟩ w B->O8 P ops a5 l a w
 | [],t,m,c,d,a,w,B,M,Q=>ei t m c d a w B M Q
 |o::l,t,m,c,d,a,w,B,M,Q=>by
  have dD:r=W.ap (O6 P n ops o) run kb t m c d λt m c d=>W.ap (Gb P n ops l) run kb t m c d K:=M;exact aqm eN aC dD bq Q (λt1 aY ck d1 cD an aA F G=>Vl eN aC bq ei dV l t1 aY ck d1 cD an aA F G) dV
def Vm {a5:Exit->Act->World->Prop}:∀(l:List Oper) (j:Nat) (a:Act) (w:World),ops.toList.drop j=l->O8 P ops a5 l a w->wpOps P ops a5 (Kg j (D l)) a w
 | [],j,a,w,_,h=>h
 |o::l,j,a,w,ag,h=>by
  have a6:ops[j]?=some o:=by
   have:(ops.toList.drop j)[0]?=some o:=by rw[ag];rfl
   simpa using this
  have nD:ops.toList.drop (j+1)=l:=by rw[<-x3,ag];rfl
  simp only[lQ,adQ,wpOps,a6];rcases h with ⟨F,G⟩|⟨F,G⟩
  ·rw[aL F];exact .inl (Oper.wp_mono (λa w h=>Vm l (j+1) a w nD h) G)
  ·rw[aT (by simp[F])];exact Vm l (j+1) _ w nD G
def Vn {a5:Exit->Act->List Frame->World->Prop}{cs:List Frame}:∀(l:List Oper) (j:Nat) (a:Act) (w:World),ops.toList.drop j=l->O8 P ops (λe a w=>a5 e a cs w) l a w->wpOpsS P ops a5 (Kg j (D l)) a cs w
 | [],j,a,w,_,h=>h
 |o::l,j,a,w,ag,h=>by
  have a6:ops[j]?=some o:=by
   have:(ops.toList.drop j)[0]?=some o:=by rw[ag];rfl
   simpa using this
  have nD:ops.toList.drop (j+1)=l:=by rw[<-x3,ag];rfl
  simp only[lQ,adQ,wpOpsS,a6];rcases h with ⟨F,G⟩|⟨F,G⟩
  ·rw[aL F];have ad:=Oper.wp_mono (λa w h=>Vn l (j+1) a w nD h) G;unfold Oper.wp at ad
   split
   ·rename_i an L;rw[L] at ad;exact ad.elim
   ·exact ad
  ·rw[aT (by simp[F])];exact Vn l (j+1) _ w nD G
end Go.Mini
namespace Go.Mini
open Go
mutual
def pX:Data->Data->Bool
 |.int k n,.int k' Kh=>decide (k=k')&&decide (n=Kh)
 |.bool b,.bool eG=>b==eG
 |.str s,.str xX=>decide (s=xX)
 |.ar es,.ar es'=>Ki es es'
 |.ptr cs,.ptr g8=>y8 cs g8
 |.qZ,.qZ=>true
 |.fn f cs,.fn AJ g8=>hg f AJ&&y8 cs g8
 |.rS,.rS=>true
 |.agg cs,.agg g8=>y8 cs g8
 |.dq cs,.dq g8=>y8 cs g8
 |.n2 t d,.n2 ld qt=>hg t ld&&pX d qt
 |.nB,.nB=>true
 |_,_=>false
termination_by structural x=>x
def y8:List Data->List Data->Bool
 | [],[]=>true
 |a::l,b::m=>pX a b&&y8 l m
 |_,_=>false
termination_by structural x=>x
def Ki:List (List Data)->List (List Data)->Bool
 | [],[]=>true
 |a::l,b::m=>y8 a b&&Ki l m
 |_,_=>false
termination_by structural x=>x
end
mutual
def Vo:∀(a b:Data),pX a b=true->a=b
 |.int k n,b,h=>by cases b<;>simp_all [pX]
 |.bool x,b,h=>by cases b<;>simp_all [pX]
 |.str s,b,h=>by cases b<;>simp_all [pX]
 |.ar es,b,h=>by
  cases b<;>simp only[pX,cE] at h;rw[adR _ _ h]
 |.ptr cs,b,h=>by
  cases b<;>simp only[pX,cE] at h;rw[Gc _ _ h]
 |.qZ,b,h=>by cases b<;>simp_all [pX]
 |.fn f cs,b,h=>by
  cases b<;>simp only[pX,cE,ff,Vp] at h;rw[h.1,Gc _ _ h.2]
 |.rS,b,h=>by cases b<;>simp_all [pX]
 |.agg cs,b,h=>by
  cases b<;>simp only[pX,cE] at h;rw[Gc _ _ h]
 |.dq cs,b,h=>by
  cases b<;>simp only[pX,cE] at h;rw[Gc _ _ h]
 |.n2 t d,b,h=>by
  cases b<;>simp only[pX,cE,ff,Vp] at h;rw[h.1,Vo _ _ h.2]
 |.nB,b,h=>by cases b<;>simp_all [pX]
termination_by structural x=>x
def Gc:∀(a b:List Data),y8 a b=true->a=b
 | [],b,h=>by cases b<;>simp_all [y8]
 |x::l,b,h=>by
  cases b<;>simp only[y8,cE,ff] at h;rw[Vo _ _ h.1,Gc _ _ h.2]
termination_by structural x=>x
def adR:∀(a b:List (List Data)),Ki a b=true->a=b
 | [],b,h=>by cases b<;>simp_all [Ki]
 |x::l,b,h=>by
  cases b<;>simp only[Ki,cE,ff] at h;rw[Gc _ _ h.1,adR _ _ h.2]
termination_by structural x=>x
end
mutual
def s0:I->I->Bool
 |.J d,.J qt=>pX d qt
 |.nil,.nil=>true
 |.ref k g s o l,.ref k' cx xX x1 mR=>hg k k'&&hg g cx&&hg s xX&&hg o x1&&hg l mR
 |.ptr k g o,.ptr k' cx x1=>hg k k'&&hg g cx&&hg o x1
 |.ef f cs,.ef AJ g8=>hg f AJ&&Gd cs g8
 |.agg cs,.agg g8=>Gd cs g8
 |.hC k g,.hC k' cx=>hg k k'&&hg g cx
 |_,_=>false
termination_by structural x=>x
def Gd:List I->List I->Bool
 | [],[]=>true
 |a::l,b::m=>s0 a b&&Gd l m
 |_,_=>false
termination_by structural x=>x
end
mutual
def adS:∀(a b:I),s0 a b=true->a=b
 |.J d,b,h=>by
  cases b<;>simp only[s0,cE] at h;rw[Vo _ _ h]
 |.nil,b,h=>by cases b<;>simp_all [s0]
 |.ref k g s o l,b,h=>by cases b<;>simp_all [s0]
 |.ptr k g o,b,h=>by cases b<;>simp_all [s0]
 |.ef f cs,b,h=>by
  cases b<;>simp only[s0,cE,ff,Vp] at h;rw[h.1,Vq _ _ h.2]
 |.agg cs,b,h=>by
  cases b<;>simp only[s0,cE] at h;rw[Vq _ _ h]
 |.hC k g,b,h=>by cases b<;>simp_all [s0]
 |.dq _,_,h=>by simp[s0] at h
 |.no,_,h=>by simp[s0] at h
 |.undef,_,h=>by simp[s0] at h
termination_by structural x=>x
def Vq:∀(a b:List I),Gd a b=true->a=b
 | [],b,h=>by cases b<;>simp_all [Gd]
 |x::l,b,h=>by
  cases b<;>simp only[Gd,cE,ff] at h;rw[adS _ _ h.1,Vq _ _ h.2]
termination_by structural x=>x
end
mutual
def Ge (k:Key):I->Bool
 |.ref j _ _ _ _ => !(hg j k)
 |.ptr j _ _ => !(hg j k)
 |.hC j _ => !(hg j k)
 |.ef _ cs=>o8 k cs
 |.agg cs=>o8 k cs
 |.dq cs=>o8 k cs
 |_=>true
termination_by structural x=>x
def o8 (k:Key):List I->Bool
 | []=>true
 |a::l=>Ge k a&&o8 k l
termination_by structural x=>x
end
def O9 {a b:Nat}(h:hg a b=false):a≠b:=λe=>by
 subst e;rw[Nat.beq_refl] at h
 cases h
def CU {k:Key}:∀{cs:List I},o8 k cs=true->∀m∈cs,Ge k m=true
 | [],_,m,hm=>by cases hm
 |a::l,h,m,hm=>by
  simp only[o8,ff] at h;simp only[kt] at hm;rcases hm with rfl|hm
  ·exact h.1
  ·exact CU h.2 m hm
variable {P:Program} {A:Nat->Prop} {w an:World} {B:cU} {mem D9:Mem} {k:Key} {g:Nat} {cs:List I}
def na (B:cU)(k:Key):cU:=λj=>if j=k then none else B j
def CV (A:Nat->Prop)(e:hv)(b:Nat):Prop:=A b\/e.dk=some b
def Vr {e:hv}(R:B k=some e)(b:Nat):bp (CV A e) (na B k) b↔bp A B b:=by
 constructor
 ·rintro (⟨j,e',aa,L⟩|bc|L)
  ·unfold na at aa
   split at aa
   ·cases aa
   ·exact .inl ⟨j,e',aa,L⟩
  ·exact .inr bc
  ·exact .inl ⟨k,e,R,L⟩
 ·rintro (⟨j,e',aa,L⟩|bc)
  ·by_cases b3:j=k
   ·subst b3;rw[R] at aa
    cases aa;exact .inr (.inr L)
   ·exact .inl ⟨j,e',by simp only[na,aT b3];exact aa,L⟩
  ·exact .inr (.inl bc)
def a0.cut {aw hj:Nat->Prop}(e9:∀b,hj b->aw b){m:I}{v:Value}(h:a0 w aw B m v)(al:Ge k m=true):a0 w hj (na B k) m v:=by
 induction h with
 |J h=>exact .J (h.less e9)
 |nil=>exact .nil
 |ref he aN ao =>
  simp only[Ge,vB] at al;have al:=O9 al;exact .ref (by simp only[na,aT al];exact he) aN ao
 |ptr he aN ao =>
  simp only[Ge,vB] at al;have al:=O9 al;exact .ptr (by simp only[na,aT al];exact he) aN ao
 |hC he aN ao =>
  simp only[Ge,vB] at al;have al:=O9 al;exact .hC (by simp only[na,aT al];exact he) aN ao
 |ef ag af a4=>exact .ef ag λi d v F G=>a4 i d v F G (CU al d (cL F))
 |agg ag af a4=>exact .agg ag λi d v F G=>a4 i d v F G (CU al d (cL F))
 |dq ag af a4=>exact .dq ag λi d v F G=>a4 i d v F G (CU al d (cL F))
 |no=>exact .no
 |undef=>exact .undef
def a0.more {aw hj:Nat->Prop}{aA:cU}(e9:∀b,hj b->aw b)(n9:∀j e,B j=some e->aA j=some e){m:I}{v:Value}(h:a0 w aw B m v):a0 w hj aA m v:=by
 induction h with
 |J h=>exact .J (h.less e9)
 |nil=>exact .nil
 |ref he aN ao=>exact .ref (n9 _ _ he) aN ao
 |ptr he aN ao=>exact .ptr (n9 _ _ he) aN ao
 |hC he aN ao=>exact .hC (n9 _ _ he) aN ao
 |ef ag af a4=>exact .ef ag a4
 |agg ag af a4=>exact .agg ag a4
 |dq ag af a4=>exact .dq ag a4
 |no=>exact .no
 |undef=>exact .undef
def freeM (k:Key)(mem:Mem):Prop:=∀j g cs,mem j=some (g,cs)->o8 k cs=true
def aqn {e:hv}(h:dQ A w B (aV mem k g cs))(R:B k=some e)(hm:mem k=none)(al:freeM k mem):dQ (CV A e) w (na B k) mem:=by
 have e9:=Vr (A:=A) R;refine⟨λj aa=>?_,λj iI aQ az b F G ad aZ=>?_,λb U ⟨j,e',aa,L⟩=>?_,λb U=>?_,h.gl,λb o U ⟨j,e',aa,L⟩=>?_,λj cx g8 aa=>?_⟩
 ·unfold na
  split
  ·rfl
  ·rename_i b3;exact h.rT j (by simp only[aV,aT b3];exact aa)
 ·unfold na at F G
  split at F
  ·cases F
  ·split at G
   ·cases G
   ·exact h.inj j iI aQ az b F G ad aZ
 ·unfold na at aa
  split at aa
  ·cases aa
  ·rename_i b3;rcases U with U|U
   ·exact h.sep b U ⟨j,e',aa,L⟩
   ·exact b3 (h.inj j k e' e b aa R L U)
 ·rcases U with U|U
  ·exact h.lt b U
  ·exact h.rU ⟨k,e,R,U⟩
 ·unfold na at aa
  split at aa
  ·cases aa
  ·exact h.v8 b o U ⟨j,e',aa,L⟩
 ·have b3:j≠k:=λb3=>by rw[b3,hm] at aa;cases aa
  obtain⟨e',eL,aN,aC,U⟩:=h.dk j cx g8 (by simp only[aV,aT b3];exact aa);refine⟨e',by simp only[na,aT b3];exact eL,aN,aC,λb fW=>?_⟩
  exact (U b fW).imp rfl rfl λm Mw v ao=>ao.cut (λb U=>(e9 b).1 U) (CU (al j cx g8 aa) m Mw)
def ka.aqo {aw hj:Nat->Prop}{aA:cU}{es:List MapEntry}{ms:List I}(h:ka w aw B es ms)(ab:∀m∈ms,∀v,a0 w aw B m v->a0 an hj aA m v):ka an hj aA es ms:=by
 induction h with
 |nil=>exact .nil
 |cons R ao _ a4=>exact .cons R (ab _ (by simp) _ ao) (a4 λm hm=>ab m (by simp[hm]))
def aqp {e:hv}{iV:cU}(h:dQ A w B (aV mem k g cs))(R:B k=some e)(Y:o8 k cs=true)(Q:da (CV A e) w (na B k) an iV D9)(pN:D9 k=none):
  da A w B an (e4 iV k e) (aV D9 k g cs)/\∀m v,a0 an (bp (CV A e) iV) iV m v->a0 an (bp A (e4 iV k e)) (e4 iV k e) m v:=by
 have e9:=Vr (A:=A) R;have aqq:iV k=none:=Q.cu.rT k pN
 have aqr:∀b,bp A (e4 iV k e) b->bp (CV A e) iV b:=λb U=>by
  rcases U with ⟨j,e',aa,L⟩|bc
  ·by_cases b3:j=k
   ·subst b3;rw[fz] at aa
    cases aa;exact .inr (.inr L)
   ·rw[fm _ _ b3] at aa;exact .inl ⟨j,e',aa,L⟩
  ·exact .inr (.inl bc)
 have adT:∀j e',iV j=some e'->e4 iV k e j=some e':=λj e' aa=>by
  by_cases b3:j=k
  ·subst b3;rw[aqq] at aa
   cases aa
  ·rw[fm _ _ b3];exact aa
 have oR:∀m v,a0 an (bp (CV A e) iV) iV m v->a0 an (bp A (e4 iV k e)) (e4 iV k e) m v:=λm v ao=>ao.more aqr adT;obtain⟨e',eL,aN,aC,U⟩:=h.dk k g cs (by simp[aV]);rw[R] at eL
 cases eL;refine⟨⟨⟨λj aa=>?_,λj iI aQ az b F G ad aZ=>?_,λb bc ⟨j,e',aa,L⟩=>?_,λb bc=>Q.cu.lt b (.inl bc),Q.cu.gl,λb o U ⟨j,e',aa,L⟩=>?_,λj cx g8 aa=>?_⟩,⟨Q.iH.size,λb U a6=>?_,λj e' aa=>?_⟩,⟨Q.fZ.os,Q.fZ.tape,Q.fZ.output,Q.fZ.size,λb U a6=>?_⟩,λb U=>?_⟩,oR⟩
 ·by_cases b3:j=k
  ·subst b3;simp[aV] at aa
  ·simp only[aV,aT b3] at aa;rw[fm _ _ b3];exact Q.cu.rT j aa
 ·by_cases aa:j=k<;>by_cases kf:iI=k
  ·rw[aa,kf]
  ·exfalso
   subst aa;rw[fz] at F
   cases F;rw[fm _ _ kf] at G;exact Q.cu.sep b (.inr ad) ⟨iI,az,G,aZ⟩
  ·exfalso
   subst kf;rw[fz] at G
   cases G;rw[fm _ _ aa] at F;exact Q.cu.sep b (.inr aZ) ⟨j,aQ,F,ad⟩
  ·rw[fm _ _ aa] at F;rw[fm _ _ kf] at G;exact Q.cu.inj j iI aQ az b F G ad aZ
 ·by_cases b3:j=k
  ·subst b3;rw[fz] at aa
   cases aa;exact h.sep b bc ⟨_,_,R,L⟩
  ·rw[fm _ _ b3] at aa;exact Q.cu.sep b (.inl bc) ⟨j,e',aa,L⟩
 ·by_cases b3:j=k
  ·subst b3;rw[fz] at aa
   cases aa;exact h.v8 b o U ⟨_,_,R,L⟩
  ·rw[fm _ _ b3] at aa;exact Q.cu.v8 b o U ⟨j,e',aa,L⟩
 ·by_cases b3:j=k
  ·subst b3;simp only[aV,if_true,bO,eM] at aa;obtain⟨rfl,rfl⟩:=aa;refine⟨e,fz _ _ _,aN,aC,λb fW=>?_⟩
   have RZ:¬ n3 (na B j) b:=fun⟨iI,az,kf,oO⟩=>by
    unfold na at kf
    split at kf
    ·cases kf
    ·rename_i bq;exact bq (h.inj iI j az e b kf R oO fW)
   have aq:=h.rU ⟨j,e,R,fW⟩;have Kj:=Q.fZ.block b aq RZ
   have ao:∀m∈cs,∀v,a0 w (bp A B) B m v->a0 an (bp A (e4 iV j e)) (e4 iV j e) m v:=λm Mw v ao =>
    oR m v ((ao.cut (k:=j) (λb U=>(e9 b).1 U) (CU Y m Mw)).j9 Q.iH)
   rcases U b fW with ⟨au,vs,T,F,G,ad,aZ⟩|⟨au,ir,jj,G,ad⟩
   ·exact .inl ⟨au,vs,T,Kj.trans F,G,ad,λi m hm=>let ⟨v,kR,M⟩:=aZ i m hm;⟨v,kR,ao m (cL hm) v M⟩⟩
   ·exact .inr ⟨au,ir,jj,Kj.trans G,ad.aqo ao⟩
  ·simp only[aV,aT b3] at aa;obtain⟨e',eL,xK,HK,hE⟩:=Q.cu.dk j cx g8 aa;exact⟨e',adT j e' eL,xK,HK,λb fW=>(hE b fW).imp rfl rfl λm _ v ao=>oR m v ao⟩
 ·have F:=Q.iH.DW b U λL=>a6 ((e9 b).1 L);refine⟨F.1,fun⟨j,e',aa,L⟩=>?_⟩
  by_cases b3:j=k
  ·subst b3;rw[fz] at aa
   cases aa;exact a6 (.inl ⟨_,_,R,L⟩)
  ·rw[fm _ _ b3] at aa;exact F.2 ⟨j,e',aa,L⟩
 ·by_cases b3:j=k
  ·subst b3;rw[R] at aa
   cases aa;exact⟨e,fz _ _ _,.inl rfl⟩
  ·obtain⟨az,F,G⟩:=Q.iH.key j e' (by simp only[na,aT b3];exact aa);exact⟨az,by rw[fm _ _ b3];exact F,G⟩
 ·refine Q.fZ.block b U fun⟨j,e',aa,L⟩=>?_;unfold na at aa
  split at aa
  ·cases aa
  ·exact a6 ⟨j,e',aa,L⟩
 ·obtain⟨j,e',aa,L⟩:=U
  by_cases b3:j=k
  ·subst b3;rw[fz] at aa
   cases aa;exact .inl ⟨_,_,R,L⟩
  ·rw[fm _ _ b3] at aa;refine (Q.fresh b ⟨j,e',aa,L⟩).imp (fun⟨wD,az,wo,eS⟩=>?_) id;unfold na at wo
   split at wo
   ·cases wo
   ·exact⟨wD,az,wo,eS⟩
def Gf (mem:Mem):I->Option (Nat×List (List Data))
 |.ref k g sz off len=>(qy sz mem (.ref k g sz off len)).map λes=>(sz,es)
 |_=>none
open Classical in
def nY (ol:List FuncId)(run:jH):bj:=λf args mem=>if mem=emp then (match run f args dZ.e 0 with
 |.ok v m _=>if ol.contains f=true then (Gf (cr m) v).map λp => .own p.1 p.2 else (cN 6 (cr m) v).map .same
 |_=>none) else none
def Vs {ol:List FuncId}{run:jH}(eN:sZ P run):nh P (nY ol run):=by
 intro f args mem oa h;unfold nY at h
 split at h
 ·rename_i gK;subst gK;have M:=eN f args dZ.e 0
  split at h
  ·rename_i v m c ao;rw[ao] at M;have h6:∀B w A,dQ A w B (cr dZ.e)->∀b,¬ n3 B b:=λB w A bk b ⟨k,e,R,_⟩=>by rw[bk.rT k rfl] at R;cases R
   split at h
   ·simp only[c4] at h;obtain⟨p,aR,rfl⟩:=h;refine⟨M.1,λA w B vs bk ao=>?_⟩;have h6:=h6 B w A bk;refine Calls.mono (M.2 A w B vs bk ao) λe an he=>?_;obtain⟨u,aA,rfl,dg,jm⟩:=he;refine⟨u,rfl,⟨dg.fZ.os,dg.fZ.tape,dg.fZ.output,dg.fZ.size,λb U _=>dg.fZ.block b U (h6 b)⟩,?_⟩;unfold Gf at aR
    split at aR
    ·rename_i k g sz off len;simp only[c4] at aR;obtain⟨es,sn,rfl⟩:=aR;simp only[qy] at sn
     split at sn
     ·rename_i Y;obtain⟨_,rfl⟩:=Y
      split at sn
      ·rename_i cx cs R
       split at sn
       ·rename_i aN;obtain⟨rfl,hle⟩:=aN;simp only[c4] at sn;obtain⟨ds,fE,rfl⟩:=sn;exact (Zq h6 dg jm R hle fE).less λb U=>U.elim (λh=>(h6 b h).elim) id
       ·cases sn
      ·cases sn
     ·cases sn
    ·cases aR
   ·simp only[c4] at h;obtain⟨d,af,rfl⟩:=h;refine⟨M.1,λA w B vs bk ao=>?_⟩;have h6:=h6 B w A bk;refine Calls.mono (M.2 A w B vs bk ao) λe an he=>?_;obtain⟨u,aA,rfl,dg,jm⟩:=he;refine⟨u,rfl,⟨dg.fZ.os,dg.fZ.tape,dg.fZ.output,dg.fZ.size,λb U _=>dg.fZ.block b U (h6 b)⟩,?_⟩;exact (snap dg.cu (λb U=>U) 6 v u d af jm).less λb U=>U.elim (λh=>(h6 b h).elim) id
  ·cases h
 ·cases h
def aqs {ol:List FuncId}{run:jH}{f:FuncId}{args:List I}{v:I}{m:e7}{c:Nat}{d:Data}(al:ol.contains f=false)(h:run f args dZ.e 0=.ok v m c)(af:cN 6 (cr m) v=some d):nY ol run f args emp=some (.same d):=by
 unfold nY;rw[aL rfl,h];simp only[al,cE,if_false,af,kU]
def aqt {ol:List FuncId}{run:jH}{f:FuncId}{args:List I}{v:I}{m:e7}{c:Nat}{p:Nat×List (List Data)}(al:ol.contains f=true)(h:run f args dZ.e 0=.ok v m c)(af:Gf (cr m) v=some p):nY ol run f args emp=some (.own p.1 p.2):=by
 unfold nY;rw[aL rfl,h];simp only[al,if_true,af,kU]
end Go.Mini
namespace Go.Mini
open Go
abbrev y9:=List (Nat×Bool×I)
abbrev Pa:=fq->e7->Rec->y9->cv
abbrev Kk:=jH->Nat->fq->e7->Rec->y9->Pa->cv
def Gg:W Kk:=.mk λ_ _ _ _ _ _ _=>cv.no
def xh (l3:List Nat)(rec:Rec)(p:Bool×List lg)(r:cv):cv:=match l3 with
 | []=>r
 |_::_=>gu cv.no r (rX rec p l3)
def Gh (run:jH)(f:FuncId)(l:List I)(K:Data->cv):cv :=
 jv.rec cv.no (λv m _=>k7 cv.no (λd=>K d) (cN 6 (cr m) v)) (λ_ _ _=>cv.no) (run f l dZ.e 0)
def Pb (run:jH)(f:FuncId)(l:List I)(K:Nat×List (List Data)->cv):cv :=
 jv.rec cv.no (λv m _=>k7 cv.no (λp=>K p) (Gf (cr m) v)) (λ_ _ _=>cv.no) (run f l dZ.e 0)
def vE (ol:List FuncId)(dst:Option Nat)(op:fN)(idx:Nat)(l3:List Nat)(un:Bool):W Kk :=
 match op with
 |.call f l=>gu (.mk λrun _ t m rec eR K=>xh l3 rec (false,[]) (Gh run f (l.map λx=>shut (W.ap (jI x) t)) λd=>K (iE dst t (.J d)) m (jl rec idx (false,[])) eR)) Gg (ol.contains f)
 |.jN f l => .mk λrun _ t m rec eR K=>match shut (W.ap (jI f) t) with
  |.ef g []=>gu (xh l3 rec (false,[]) (Gh run g (l.map λx=>shut (W.ap (jI x) t)) λd=>K (iE dst t (.J d)) m (jl rec idx (false,[])) eR)) cv.no (ol.contains g)
  |_=>cv.no
 |.load n bJ x => .mk λ_ _ t m rec eR K=>xh l3 rec (false,zG n (W.ap (jI x) t)) (CS dst (iW (cr m) n bJ (W.ap (jI x) t)) t λld=>K ld m (jl rec idx (false,zG n (W.ap (jI x) t))) (gu eR ((n,bJ,W.ap (jI x) t)::eR) un))
 |.lb k sz f l=>gu Gg (.mk λrun kb t m rec eR K=>xh l3 rec (true,[.fU (kb+k)]) (Pb run f (l.map λx=>shut (W.ap (jI x) t)) λp =>
   gu cv.no (gu cv.no (K (iE dst t (.ref (kb+k) (bB (cr m) (kb+k)) sz 0 p.2.length)) (O4 (kb+k) (bB (cr m) (kb+k)) (p.2.flatten.map .J) m) (jl rec idx (true,[.fU (kb+k)])) eR) (AN (kb+k) 1000000000000)) (hg p.1 sz))) (ol.contains f)
 |.lR ..=>Gg
 |.kQ ..=>Gg
 |.qb ..=>Gg
 |.qc ..=>Gg
 |op => .mk λ_ kb t m rec eR K=>xh l3 rec (gi (fC kb op),cy (cT t) (fC kb op)) (Kd dst op kb t m λld m'=>K ld m' (jl rec idx (gi (fC kb op),cy (cT t) (fC kb op))) eR)
def Vt (ol:List FuncId)(i:bz)(idx:Nat)(l3:List Nat)(un:Bool):W Kk:=match i.g with
 |none=>vE ol i.dst i.op idx l3 un
 |some (s,b) => .mk λrun kb t m rec eR K=>match cT t s with
  |.J (.bool q)=>gu (K (iE i.dst t .no) m rec eR) (W.ap (vE ol i.dst i.op idx l3 un) run kb t m rec eR K) (q==b)
  |.no=>K (iE i.dst t .no) m rec eR
  |_=>cv.no
def vF (ol:List FuncId)(un:Nat->Bool)(l:List bz):Nat->List (List Nat)->W Kk :=
 List.rec (motive:=λ_=>Nat->List (List Nat)->W Kk) (λ_ _ => .mk λ_ _ t m rec eR K=>K t m rec eR)
  (λi _ vD idx cs => .mk λrun kb t m rec eR K=>W.ap (Vt ol i idx (cs.headD []) (un idx)) run kb t m rec eR λt m rec eR=>W.ap (vD (idx+1) cs.tail) run kb t m rec eR K) l
variable {P:Program} {b4:Option I} {A:Nat->Prop} {ct w:World} {dE B:cU} {n kb:Nat} {own:List Nat} {ops:Array Oper} {o:Oper} {run:jH} {t:fq} {m:e7} {c:Nat} {d:Option I} {ol:List FuncId}
def Pc {l3:List Nat}{rec:Rec}{p:Bool×List lg}{r:cv}(h:xh l3 rec p r ≠ .no):xh l3 rec p r=r/\rX rec p l3=true:=by
 cases l3 with
 |nil=>exact⟨rfl,rfl⟩
 |cons a l =>
  unfold xh at *;simp only at *
  cases Y:rX rec p (a::l) with
  |false=>rw[Y] at h;exact absurd rfl h
  |true=>exact⟨rfl,rfl⟩
def aqu {f:FuncId}{l:List I}{K:Data->cv}(al:ol.contains f=false)(h:Gh run f l K ≠ .no):∃d,nY ol run f l emp=some (.same d)/\Gh run f l K=K d:=by
 unfold Gh at *
 cases M:run f l dZ.e 0 with
 |no=>rw[M] at h;exact absurd rfl h
 |hh v m c=>rw[M] at h;exact absurd rfl h
 |ok v m c =>
  rw[M] at h
  cases af:cN 6 (cr m) v with
  |none=>simp only[af] at h;exact absurd rfl h
  |some d =>
   refine⟨d,aqs al M af,?_⟩;show (k7 cv.no (λd=>K d) (cN 6 (cr m) v):cv)=K d;rw[af]
def adU (op:fN):mh (fC kb op)=mh op:=by cases op<;>first|rfl|(rename_i b _ _ _ _;cases b<;>rfl)
def aqv (op:fN):oG (fC kb op)=oG op:=by cases op<;>rfl
def aqw {op:fN}{k:Nat}{bJ:Bool}{y:bx}(h:fC kb op=.load k bJ y):op=.load k bJ y:=by cases op<;>first|exact h|(simp[fC] at h)
def aqx {f:FuncId}{l:List I}{K:Nat×List (List Data)->cv}(al:ol.contains f=true)(h:Pb run f l K ≠ .no):∃p,nY ol run f l emp=some (.own p.1 p.2)/\Pb run f l K=K p:=by
 unfold Pb at *
 cases M:run f l dZ.e 0 with
 |no=>rw[M] at h;exact absurd rfl h
 |hh v m c=>rw[M] at h;exact absurd rfl h
 |ok v m c =>
  rw[M] at h
  cases af:Gf (cr m) v with
  |none=>simp only[af] at h;exact absurd rfl h
  |some d =>
   refine⟨d,aqt al M af,?_⟩;show (k7 cv.no (λd=>K d) (Gf (cr m) v):cv)=K d;rw[af]
def aqy {dst:Option Nat}{op:fN}{idx:Nat}{l3:List Nat}{un:Bool}{rec:Rec}{eR:y9}{K:Pa}{r:cv}(M:r=W.ap (vE ol dst op idx l3 un) run kb t m rec eR K)(h:r ≠ .no):
  ∃v e m' AO,eX (nY ol run) (cr m) (cT t) (fC kb op)=some (v,e)/\cr m'=gg (cr m) e/\rX rec (gi (fC kb op),cy (cT t) (fC kb op)) l3=true /\
   r=K (iE dst t v) m' (jl rec idx (gi (fC kb op),cy (cT t) (fC kb op))) AO/\(∀x∈eR,x∈AO)/\(un=true->∀n bJ y,op=.load n bJ y->(n,bJ,aM (cT t) y)∈AO):=by
 have call:∀(f:FuncId) (l:List bx),ol.contains f=false->r=xh l3 rec (false,[]) (Gh run f (l.map λx=>shut (W.ap (jI x) t)) λd=>K (iE dst t (.J d)) m (jl rec idx (false,[])) eR) ->
   ∃d,nY ol run f (l.map λx=>shut (aM (cT t) x)) emp=some (.same d)/\rX rec (false,[]) l3=true/\r=K (iE dst t (.J d)) m (jl rec idx (false,[])) eR:=λf l al M=>by
  simp only[oz] at M;obtain⟨F,G⟩:=Pc (by rw[<-M];exact h);rw[F] at M;obtain⟨d,ad,aZ⟩:=aqu al (by rw[<-M];exact h);exact⟨d,ad,G,by rw[M,aZ]⟩
 have plain:∀(hu:∀n bJ y,op ≠ .load n bJ y) (Q:∀mem tm,eX (nY ol run) mem tm (fC kb op)=bF mem tm (fC kb op)),r=xh l3 rec (gi (fC kb op),cy (cT t) (fC kb op)) (Kd dst op kb t m λld m'=>K ld m' (jl rec idx (gi (fC kb op),cy (cT t) (fC kb op))) eR) ->
   ∃v e m' AO,eX (nY ol run) (cr m) (cT t) (fC kb op)=some (v,e)/\cr m'=gg (cr m) e/\rX rec (gi (fC kb op),cy (cT t) (fC kb op)) l3=true /\
   r=K (iE dst t v) m' (jl rec idx (gi (fC kb op),cy (cT t) (fC kb op))) AO/\(∀x∈eR,x∈AO)/\(un=true->∀n bJ y,op=.load n bJ y->(n,bJ,aM (cT t) y)∈AO):=λhu Q M=>by
  obtain⟨F,G⟩:=Pc (by rw[<-M];exact h);rw[F] at M;rcases adG (dst:=dst) (op:=op) (kb:=kb) (t:=t) (m:=m) (K:=λld m'=>K ld m' (jl rec idx (gi (fC kb op),cy (cT t) (fC kb op))) eR) with ad|⟨v,e,m',ad,aZ,bw⟩
  ·exact absurd (M.trans ad) h
  ·exact⟨v,e,m',eR,by rw[Q];exact ad,aZ,G,M.trans bw,λ_ h=>h,λ_ n bJ y he=>absurd he (hu n bJ y)⟩
 cases op
 case call f l =>
  cases al:ol.contains f with
  |true=>simp only[vE,al] at M;exact absurd M h
  |false =>
  simp only[vE,al] at M;obtain⟨d,F,G,ad⟩:=call f l al M;exact⟨_,none,m,eR,by simp only[fC,eX,F],rfl,G,ad,λ_ h=>h,λ_ n bJ y he=>by cases he⟩
 case jN f l =>
  simp only[vE,oy,oz] at M
  split at M
  ·rename_i g aN;simp only[<-oz] at M
   cases al:ol.contains g with
   |true=>rw[al] at M;exact absurd M h
   |false =>
   rw[al] at M;obtain⟨d,F,G,ad⟩:=call g l al M;exact⟨_,none,m,eR,by simp only[fC,eX,aN,F],rfl,G,ad,λ_ h=>h,λ_ n bJ y he=>by cases he⟩
  ·exact absurd M h
 case load Ga bJ x =>
  simp only[vE,oy,oz] at M;obtain⟨F,G⟩:=Pc (by rw[<-M];exact h);rw[F] at M
  cases ag:iW (cr m) Ga bJ (aM (cT t) x) with
  |none=>rw[ag] at M;exact absurd M h
  |some v =>
   rw[ag] at M;refine⟨v,none,m,_,by simp only[fC,eX,bF,ag];rfl,rfl,G,M,λy ak=>?_,λhu Kh aAX y' he=>?_⟩
   ·cases un with
    |false=>exact ak
    |true=>exact ur _ ak
   ·cases he;subst hu;exact lU
 case lb k sz f l =>
  cases al:ol.contains f with
  |false=>simp only[vE,al] at M;exact absurd M h
  |true =>
  simp only[vE,al,oy,oz] at M;obtain⟨F,G⟩:=Pc (by rw[<-M];exact h);rw[F] at M;obtain⟨p,ad,aZ⟩:=aqx al (by rw[<-M];exact h);rw[aZ] at M
  cases ec:hg p.1 sz with
  |false=>rw[ec] at M;exact absurd M h
  |true =>
  rw[ec] at M
  cases U:AN (kb+k) 1000000000000 with
  |false=>rw[U] at M;exact absurd M h
  |true =>
  rw[U] at M;have hE:kb+k<1000000000000:=by simpa [Nat.blt_eq] using U
  exact⟨_,some (kb+k,bB (cr m) (kb+k),p.2.flatten.map .J),_,eR,by simp only[fC,eX,ad,aL (Nat.eq_of_beq_eq_true ec)],adD hE _ _ m,G,M,λ_ h=>h,λ_ n bJ y he=>by cases he⟩
 case lR=>exact absurd M h
 case kQ=>exact absurd M h
 case qb=>exact absurd M h
 case qc=>exact absurd M h
 all_goals exact plain (λ_ _ _ he=>by cases he) (λ_ _=>rfl) M
def aqz (a b:bz):oH (gV kb a) (gV kb b)=oH a b:=by
 unfold oH looks gV;simp only[aqv]
def adV:∀(cs pre:List bz) (s3:List Nat),xI (pre.map (gV kb)) (cs.map (gV kb)) s3=xI pre cs s3
 | [],_,_=>rfl
 |c::cs,pre,[]=>rfl
 |c::cs,pre,a::s3=>by
  simp only[g0,xI];have:=adV cs (pre++[c]) s3;rw[pT,g0,bP] at this;rw[this]
  congr 1
  rw[adW,List.all_map]
  congr 1
  funext ⟨x,i⟩
  simp[aqz]
def Vu:∀(cs pre:List bz) (s3:List Nat),mi (pre.map (gV kb)) (cs.map (gV kb)) s3=mi pre cs s3
 | [],_,_=>rfl
 |c::cs,pre,s3=>by
  simp only[g0,mi];have:=Vu cs (pre++[c]) s3.tail;rw[pT,g0,bP] at this;rw[this]
  congr 1
  rw[adW,List.filter_map,x7]
  have F:((λx:bz×Nat => !((s3.headD 0).testBit x.2||uM (mh x.1.op) (mh (gV kb c).op))) ∘ Prod.map (gV kb) id)=λx:bz×Nat => !((s3.headD 0).testBit x.2||uM (mh x.1.op) (mh c.op)):=by
   funext ⟨x,i⟩
   simp[gV,adU]
  simp only[F]
  rfl
def adX {l:List Oper}{is:List bz}(h:l.mapM (nC P n 0 own ops)=some is):l.mapM (nC P n kb own ops)=some (is.map (gV kb)):=by
 induction l generalizing is with
 |nil=>simp at h;subst h;rfl
 |cons o l a4 =>
  simp only[nf,Option.pure_def,Option.bind_eq_bind,Option.bind_eq_some_iff,bO] at h ⊢;obtain⟨x,L,xs,sh,rfl⟩:=h;exact⟨_,adM L,_,a4 sh,rfl⟩
def Pd (ol:List FuncId)(run:jH)(kb:Nat)(un:Nat->Bool)(iy:List (List Nat))(K:Pa)(r:cv)(l:List bz)(idx:Nat)(t:fq)(m:e7)(rec:Rec)(eR:y9):Prop :=
 ∃t1 aY rec1 pY,r=K t1 aY rec1 pY/\(∀k,idx+D l<=k->rec1 k=none)/\(∀o∈eR,o∈pY)/\∀(db:uY) (Kl:a8->Prop) (tail:List bz),
  (∀j x rec st iN cf,idx<=j->j<idx+(D l)->jr (nY ol run) (mS iy) j x rec st iN cf->(un j=true->∀n bJ y,x.op=.load n bJ y->g9 st.tm x.g=some true->(n,bJ,aM st.tm y)∈pY)->db j x rec st iN cf) ->
  x2 db Kl (idx+D l) tail rec1 ⟨cT t1,cr aY⟩->x2 db Kl idx (l.map (gV kb)++tail) rec ⟨cT t,cr m⟩
def Pe (aC:n<=1000000){un:Nat->Bool}{iy:List (List Nat)}{K:Pa}{r:cv}(bq:r ≠ .no):∀(l:List bz) (idx:Nat) (t:fq) (m:e7) (rec:Rec) (eR:y9),(∀x∈l,x.dst.all (λd=>decide (d<n))=true) ->
  (∀k,idx<=k->rec k=none)->r=W.ap (vF ol un l idx (iy.drop idx)) run kb t m rec eR K->Pd ol run kb un iy K r l idx t m rec eR
 | [],idx,t,m,rec,eR,_,jR,M=>⟨t,m,rec,eR,M,λk R=>jR k (by simpa using R),λ_ h=>h,λdb Kl tail _ h=>h⟩
 |i::l,idx,t,m,rec,eR,af,jR,M=>by
  have dD:r=W.ap (Vt ol i idx ((iy.drop idx).headD []) (un idx)) run kb t m rec eR λt m rec eR=>W.ap (vF ol un l (idx+1) (iy.drop idx).tail) run kb t m rec eR K:=M;rw[List.tail_drop] at dD;have adY:=af i (by simp);have si:∀x∈l,x.dst.all (λd=>decide (d<n))=true:=λx L=>af x (by simp[L])
  have rest:∀t2 b0 kC Km,r=W.ap (vF ol un l (idx+1) (iy.drop (idx+1))) run kb t2 b0 kC Km K->(∀k,idx+1<=k->kC k=none)->(∀o∈eR,o∈Km) ->
    (∀pY:y9,(∀o∈Km,o∈pY)->jr (nY ol run) (mS iy) idx (gV kb i) rec ⟨cT t,cr m⟩ kC ⟨cT t2,cr b0⟩/\(un idx=true->∀n bJ y,(gV kb i).op=.load n bJ y->g9 (cT t) (gV kb i).g=some true->(n,bJ,aM (cT t) y)∈pY)) ->
    Pd ol run kb un iy K r (i::l) idx t m rec eR:=λt2 b0 kC Km F G ad aZ=>by
   obtain⟨t1,aY,rec1,pY,cJ,cQ,gU,hQ⟩:=Pe aC bq l (idx+1) t2 b0 kC Km si G F;refine⟨t1,aY,rec1,pY,cJ,λk R=>cQ k (by simp at R;omega),λo a6=>gU o (ad o a6),λdb Kl tail dO Y=>?_⟩;obtain⟨bw,bA⟩:=aZ pY gU;refine .cons (dO idx _ _ _ _ _ (c9 _) (by simp) bw bA) (hQ db Kl tail (λa3 x rec st iN cf a b=>dO a3 x rec st iN cf (by omega) (by simp;omega)) ?_);have:idx+(i::l).length=idx+1+D l:=by simp;omega
   rw[this] at Y;exact Y
  unfold Vt at dD
  have skip:r=W.ap (vF ol un l (idx+1) (iy.drop (idx+1))) run kb (iE i.dst t .no) m rec eR K->g9 (cT t) i.g=some false->Pd ol run kb un iy K r (i::l) idx t m rec eR:=λF G =>
   rest _ _ _ _ F (λk R=>jR k (by omega)) (λ_ h=>h) λpY _=>⟨.inl ⟨G,rfl,by rw[AM aC adY];rfl⟩,λ_ n bJ y _ aN=>by
    have xK:g9 (cT t) i.g=some true:=aN;rw[G] at xK;cases xK⟩
  have act:r=W.ap (vE ol i.dst i.op idx ((iy.drop idx).headD []) (un idx)) run kb t m rec eR (λt m rec eR=>W.ap (vF ol un l (idx+1) (iy.drop (idx+1))) run kb t m rec eR K)->g9 (cT t) i.g=some true->Pd ol run kb un iy K r (i::l) idx t m rec eR:=λF G=>by
   obtain⟨v,e,m',AO,dx,dW,hR,jf,CW,Kn⟩:=aqy F bq;refine rest _ _ _ _ jf (λk R=>by simp only[jl,aT (show ¬ k=idx by omega)];exact jR k (by omega)) CW λpY a6=>⟨.inr ⟨G,v,e,dx,λp q x4 aU=>?_,rfl,by rw[AM aC adY,dW];rfl⟩,λhu n bJ y e5 _=>?_⟩
   ·have ix:p<idx:=by
     rcases gY p idx with cI|cI
     ·exact cI
     ·rw[jR p cI] at aU;cases aU
    unfold rX at hR;rw[List.all_eq_true] at hR
    have gK:p∈(iy.drop idx).headD []:=by
     unfold mS at x4;rw[aL ix] at x4
     have:(iy.drop idx).headD []=iy.getD idx []:=by
      rw[List.headD_eq_head?_getD,List.head?_drop,dH]
     rw[this];exact List.contains_iff_mem.1 x4
    have:=hR p gK;rw[aU] at this;exact this
   ·exact a6 _ (Kn hu n bJ y (aqw e5))
  split at dD
  ·rename_i aN;exact act dD (by rw[aN];rfl)
  ·rename_i s b aN
   have aW:r=(match cT t s with
    |.J (.bool q)=>gu (W.ap (vF ol un l (idx+1) (iy.drop (idx+1))) run kb (iE i.dst t .no) m rec eR K) (W.ap (vE ol i.dst i.op idx ((iy.drop idx).headD []) (un idx)) run kb t m rec eR (λt m rec eR=>W.ap (vF ol un l (idx+1) (iy.drop (idx+1))) run kb t m rec eR K)) (q==b)
    |.no=>W.ap (vF ol un l (idx+1) (iy.drop (idx+1))) run kb (iE i.dst t .no) m rec eR K
    |_=>cv.no):=dD
   split at aW
   ·rename_i q aU
    cases wY:(q==b) with
    |false=>rw[wY] at aW;exact skip aW (by rw[aN];simp only[g9,aU,wY])
    |true=>rw[wY] at aW;exact act aW (by rw[aN];simp only[g9,aU,wY])
   ·rename_i aU;exact skip aW (by rw[aN];simp only[g9,aU])
   ·exact absurd aW bq
end Go.Mini
