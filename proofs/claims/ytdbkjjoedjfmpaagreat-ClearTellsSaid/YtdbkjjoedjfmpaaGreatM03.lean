/- A part of the proof. -/
import Derived.Test.YtdbkjjoedjfmpaaGreatM02
set_option linter.unusedSimpArgs false
set_option linter.unusedVariables false
set_option maxRecDepth 100000
set_option maxHeartbeats 4000000
noncomputable section
open Bool renaming and_eq_true->fw,and_false->jB,eq_iff_iff->AO,false_and->eR,false_eq_true->j3,not_false->db,not_true->cw,true_and->fD
open Decidable renaming em->dc
open Int renaming add_comm->yV,add_zero->ra,cast_ofNat_Int->qh,fdiv_eq_ediv_of_nonneg->ahL,le_of_lt->P7,lt_trichotomy->uv,mul_add->iN,mul_assoc->iO,mul_comm->nG,mul_fdiv_add_fmod->Qh,mul_ne_zero->y5,mul_nonneg->uq,mul_one->r3,mul_zero->yX,natAbs_natCast->k4,natAbs_neg->xq,natCast_pos->CG,natCast_zero->qg,one_mul->ql,pow_pos->HI,pow_succ->nF,reducePow->ahK,sign_eq_neg_one_of_neg->nk,sign_eq_one_of_pos->g7,sign_eq_zero_iff_zero->ahU,sign_mul->oz,sign_mul_natAbs->HN,sign_neg->EN,sign_sign->AK,sign_zero->y6,sub_zero->Cv,tdiv_eq_ediv_of_nonneg->HE,tdiv_nonneg->aiq,tmod_eq_emod_of_nonneg->Li,tmod_nonneg->aip,toNat_natCast->jE,zero_mul->y1,zero_sub->ah0
open List renaming all_cons->w7,append_assoc->gT,append_nil->gS,drop_eq_getElem_cons->h9,drop_set_of_lt->tY,drop_zero->nD,findIdx?_eq_none_iff->ah2,findIdx?_eq_some_iff_getElem->ah1,flatten_nil->ah6,getD_eq_getElem?_getD->ep,getElem?_eq_getElem->bq,getElem?_eq_none->ja,getElem?_map->bj,getElem_mem->lq,length->D,length_append->fX,length_cons->jO,length_map->aE,length_nil->nC,length_pos_iff->LD,length_singleton->sg,length_take->gv,map_cons->ey,map_nil->cC,map_take->ah7,mem_replicate->HB,mem_singleton->xk,replicate->et,take_add_one->gB,take_length->nQ,take_of_length_le->dp
open List.cons renaming injEq->bk
open Nat renaming div_div_eq_div_mul->aib,eq_zero_or_pos->ko,gcd->gU,gcd_comm->LF,le_of_lt->HV,le_refl->cH,le_trans->e4,lt_of_div_lt_div->aic,lt_of_le_of_lt->uo,lt_or_ge->g2,max_eq_right->Yx,min_eq_left->oS,mod_lt->oX,mul_comm->sY,mul_le_mul_right->og,mul_lt_mul_of_pos_left->aii,mul_one->dY,pos_of_ne_zero->Hf,pow_succ->vB,reduceEqDiff->cp,reduceMul->ahJ,zero_div->aia,zero_le->fm
open Option renaming bind_none->se
open Option.some renaming inj->oh
open Prod renaming ext->dN,fst->oB
open Prod.mk renaming injEq->fS
open Rat renaming divInt->lZ,divInt_mul_divInt->ahP,neg_divInt_neg->ahM,num_divInt_den->EY,sub_eq_add_neg->CM
namespace Go.Mini
open Go
theorem atL (k:IntKind)(a b:Int):bits .or k a b=bits .or k b a:=by
 simp only[bits,BitVec.or_comm]
theorem atM (u d:Int)(i:Nat)(Q:(2:Int)^i<=1152921504606846976)(hu:0<=u/\u<2^i)(ab:0<=d)(h:d*2^i<18446744073709551616):bits .or .u64 u (d*2^i)=u+d*2^i:=by
 rw[atL,yV];have ax:0<=d*2^i:=uq ab (by exact P7 (HI (by omega)));refine bits_join .u64 64 (by decide) (λn G J=>An n ⟨G,by omega⟩) i _ _ ax (Int.mul_emod_left _ _) (by omega) hu.1 hu.2 (by omega)
instance (n:Int):Decidable (dr n):=by unfold dr;exact inferInstance
def tf (a:Raw):Int×Bool:=if dj a=true/\dr (g6 a) then (g6 a,true) else (0,false)
def Xe:=cn Au λ(s,l)=>cN (D l<=1000000) (.same (.c1 [.int .i64 (tf (s,l)).1,.bool (tf (s,l)).2]))
@[go_sem] theorem aKe (s:Int)(l:List Int)(H:(D l)<=1000000):Xe [.agg [.int .i64 s,.X (l.map ae)]]=some (.same (.c1 [.int .i64 (tf (s,l)).1,.bool (tf (s,l)).2])):=(cz EA (s,l)).trans (cX H _)
theorem atN (T:bl)(fT:T lx=aQ xd)(s:Int)(l:List Int)(H:(D l)<=1000000):WP T VP (.same (.c1 [.int .i64 (tf (s,l)).1,.bool (tf (s,l)).2])) [.I (.agg [.int .i64 s,.X (l.map ae)])]:=by
 refine cD ?_;simp only[VP]
 by_cases Y:dj (s,l)=true
 ·obtain⟨z,a3,e⟩:=(hM _).1 Y
  cases e
  have Q:tf (z.sign,aP z.natAbs)=if dr z then (z,true) else (0,false):=by
   unfold tf;rw[Y,show g6 (z.sign,aP z.natAbs)=z from e8 z];simp
  rw[Q];clear Q;have U:=k2 z
  by_cases aT:(aP z.natAbs).length<=4
  ·have Xf:decide (((aP z.natAbs).length:Int)>4)=false:=cl;have iH:=ml z.natAbs;have gi:=nh z.natAbs;generalize aP z.natAbs=l at *;simp only[go_sem,go_sem_proc,fT,Y,H,Xf,aE];refine cU [1,17,18] [159001] (λ((i,u):Nat×Int) tm mem=>i<=D l/\u=bs (l.take i)/\u<18446744073709551616/\tm 4=.I (.int .u64 u)/\tm 19=.I (.int .i64 i)) (λ(i,_)=>D l-i) (0,0) (by refine⟨by omega,rfl,by omega,rfl,rfl⟩) ?_;intro vs ms aJ aH;simp only[go_sem,go_sem_proc] at aJ aH;subst aJ aH;rintro⟨i,u⟩ tm mem L hm ⟨Q,hu,aKf,CI,CJ⟩;simp only[go_sem,go_sem_proc,bk] at L hm;obtain⟨G,nm,nJ⟩:=L;have ahH:fe (l.take i):=λd ab=>gi d (List.mem_of_mem_take ab);have EV:0<=u:=by rw[hu];exact pE ahH
   rcases dc (i<D l) with az|b2
   ·have M:=bq az;have ab:=gi l[i] (lq az);have jR:=lU l i az;have EW:=Al ahH;rw[gv,oS (HV az),<-hu] at EW;rw[<-hu] at jR;generalize l[i]=d at *;have AL:decide ((i:Int)<(D l:Int))=true:=cT;have Lm:IntKind.u64.wrap d=d:=An d ⟨ab.1,by omega⟩
    have HM:IntKind.i64.wrap (20*(i:Int))=((20*i:Nat):Int):=by rw[fh _];omega
    have OM:min (20*i) 64=20*i:=by omega
    have mR:(((20*i:Nat):Int)<0)=False:=eq_false (by omega);have ahI:(1048576:Int)^i=2^(20*i):=by rw[Int.pow_mul];rfl
    rw[ahI] at EW jR
    have ia:(2:Int)^(20*i)<=1152921504606846976:=by
     obtain rfl|rfl|rfl|rfl:i=0\/i=1\/i=2\/i=3:=by omega
     all_goals decide
    by_cases Xg:i=3/\d>8
    ·obtain⟨rfl,Xh⟩:=Xg;have atO:decide (d>8)=true:=jw Xh;have P8:(((3:Nat):Int)==3)=true:=rfl
     have atP:¬ dr z:=by
      have vN:=KP l 4;rw[iH] at vN;have:0<=bs (l.drop 4):=pE λd ab=>gi d (List.mem_of_mem_drop ab);have bx:=uq (show (0:Int)<=1048576^(min 4 (D l)) from P7 (HI (by omega))) this;unfold dr;simp only[ahJ,Nat.reduceAdd,ahK] at jR;rw[jR] at vN;omega
     rw[ag atP];refine ak ?_;repeat' (intro (ay:_=_)<;>simp only[ay,go_sem,go_sem_proc,fT,G,nm,nJ,CI,CJ,hm,M,ab.1,ab.2,AL,Lm,atO,P8,aE,bj,bk,ae]<;>try refine ai ?_ ?_)
    ·have s6:d*2^(20*i)<18446744073709551616:=by
      obtain rfl|rfl|rfl|rfl:i=0\/i=1\/i=2\/i=3:=by omega
      all_goals simp
      all_goals omega
     have vL:=atM u d (20*i) ia ⟨EV,EW⟩ ab.1 s6;have LG:0<=d*2^(20*i):=uq ab.1 (P7 (HI (by omega)));have Xi:IntKind.u64.wrap (d*2^(20*i))=d*2^(20*i):=An _ ⟨LG,s6⟩
     have ta:u+d*2^(20*i)<18446744073709551616:=by
      clear vL Xi LG HM mR ahI ia jR;obtain rfl|rfl|rfl|rfl:i=0\/i=1\/i=2\/i=3:=by omega
      all_goals simp only[ahJ,ahK] at EW s6 ⊢
      all_goals omega
     by_cases af:((i:Int)==3)=true
     ·have Xh:decide (d>8)=false:=h7 λh=>Xg ⟨by simp at af;omega,h⟩
      refine ak ?_;repeat' (intro (ay:_=_)<;>simp only[ay,go_sem,go_sem_proc,fT,G,nm,nJ,CI,CJ,hm,M,ab.1,ab.2,AL,Lm,af,Xh,HM,mR,if_false,jE,OM,Xi,vL,aE,bj,bk,ae]<;>try refine ai ?_ ?_)
      exact⟨(i+1,u+d*2^(20*i)),by dsimp only;omega,by dsimp only;omega,by dsimp only;rw[jR,nG],ta,rfl,by rw[fh _];rfl⟩
     ·have af:((i:Int)==3)=false:=by simpa using af
      refine ak ?_;repeat' (intro (ay:_=_)<;>simp only[ay,go_sem,go_sem_proc,fT,G,nm,nJ,CI,CJ,hm,M,ab.1,ab.2,AL,Lm,af,HM,mR,if_false,jE,OM,Xi,vL,aE,bj,bk,ae]<;>try refine ai ?_ ?_)
      exact⟨(i+1,u+d*2^(20*i)),by dsimp only;omega,by dsimp only;omega,by dsimp only;rw[jR,nG],ta,rfl,by rw[fh _];rfl⟩
   ·have AL:decide ((i:Int)<(D l:Int))=false:=cl;have lY:i=D l:=by omega
    rw[lY,nQ,iH] at hu;rcases U with ⟨U,sS⟩|⟨U,sS⟩|⟨U,sS⟩
    ·by_cases hr64:u<9223372036854775808
     ·rw[ad (by unfold dr;omega)];have hw:IntKind.i64.wrap u=z:=by rw[wrap64 u (by omega) (by omega)];omega
      refine ak ?_;repeat' (intro (ay:_=_)<;>simp only[ay,go_sem,go_sem_proc,fT,G,nm,nJ,CI,CJ,hm,AL,U,hr64,show decide ((1:Int)<0)=false from rfl,show decide ((1:Int)>=0)=true from rfl,show decide ((-1:Int)<0)=true from rfl,show decide ((-1:Int)>=0)=false from rfl,hw,decide_true,decide_false,aE]<;>try refine ai ?_ ?_)
     ·rw[ag (by unfold dr;omega)];refine ak ?_;repeat' (intro (ay:_=_)<;>simp only[ay,go_sem,go_sem_proc,fT,G,nm,nJ,CI,CJ,hm,AL,U,hr64,show decide ((1:Int)<0)=false from rfl,show decide ((1:Int)>=0)=true from rfl,show decide ((-1:Int)<0)=true from rfl,show decide ((-1:Int)>=0)=false from rfl,decide_true,decide_false,aE]<;>try refine ai ?_ ?_)
    ·rw[ad (by unfold dr;omega)];have atQ:u=0:=by omega
     subst sS;subst atQ;refine ak ?_;repeat' (intro (ay:_=_)<;>simp only[ay,go_sem,go_sem_proc,fT,G,nm,nJ,CI,CJ,hm,AL,U,show decide ((0:Int)<0)=false from rfl,show decide ((0:Int)>=0)=true from rfl,show decide ((0:Int)<9223372036854775808)=true from rfl,show IntKind.i64.wrap 0=0 from rfl,show (0:Int).sign=0 from rfl,decide_true,decide_false,aE]<;>try refine ai ?_ ?_)
    ·by_cases hr64:u<=9223372036854775808
     ·rw[ad (by unfold dr;omega)];have hw:=Xb (0-u) (by omega) (by omega)
      have hz:IntKind.i64.wrap (0-u+18446744073709551616)=z:=by
       simp[IntKind.wrap,IntKind.bits,IntKind.signed];omega
      refine ak ?_;repeat' (intro (ay:_=_)<;>simp only[ay,go_sem,go_sem_proc,fT,G,nm,nJ,CI,CJ,hm,AL,U,hr64,show decide ((1:Int)<0)=false from rfl,show decide ((1:Int)>=0)=true from rfl,show decide ((-1:Int)<0)=true from rfl,show decide ((-1:Int)>=0)=false from rfl,hw,hz,decide_true,decide_false,aE]<;>try refine ai ?_ ?_)
     ·rw[ag (by unfold dr;omega)];refine ak ?_;repeat' (intro (ay:_=_)<;>simp only[ay,go_sem,go_sem_proc,fT,G,nm,nJ,CI,CJ,hm,AL,U,hr64,show decide ((1:Int)<0)=false from rfl,show decide ((1:Int)>=0)=true from rfl,show decide ((-1:Int)<0)=true from rfl,show decide ((-1:Int)>=0)=false from rfl,decide_true,decide_false,aE]<;>try refine ai ?_ ?_)
  ·have Xf:decide (((aP z.natAbs).length:Int)>4)=true:=cT
   have aM:¬ dr z:=by
    intro h;unfold dr at h;refine aT (gC.2 ?_);omega
   rw[ag aM];refine ak ?_;repeat' (intro (ay:_=_)<;>simp only[ay,go_sem,go_sem_proc,fT,Y,H,Xf,aE]<;>try refine ai ?_ ?_)
 ·have Y:dj (s,l)=false:=by simpa using Y
  have Q:tf (s,l)=(0,false):=by unfold tf;rw[ag];rw[Y];simp
  rw[Q];refine ak ?_;repeat' (intro (ay:_=_)<;>simp only[ay,go_sem,go_sem_proc,fT,Y,H]<;>try refine ai ?_ ?_)
def Xj:bZ:=cj 35 1 [.t 2] (O [dq 1 116001 0,cq 2 false] (.seq (O [aO 5 0 1,aU 6 2 5,(dM 7 lx 6),ff 8 7,F 9 8,⟨some 10,some (9,false),.dt 2 (.t 1)⟩,⟨some 11,some (9,false),.load 2 true (.t 10)⟩,⟨some 12,some (9,false),.call lx [(.t 11)]⟩,⟨some 13,some (9,false),.un .not (.t 12)⟩,cR 14 9 13,F 15 14,⟨some 16,some (15,false),.dt 2 (.t 1)⟩,⟨some 17,some (15,false),.dt 0 (.t 16)⟩,⟨some 18,some (15,false),.load 1 false (.t 17)⟩,⟨some 19,some (15,false),.bin .neq (.t 18) (.c (Z 1))⟩,cR 20 15 19] (aS 20 (O [cq 2 false] .ret) .skip)) (O [aO 22 0 1,aU 23 2 22,aO 24 2 1,aU 25 2 24,(bW 26 KR 23 25),F 21 26,ba 27 0 21,ba 28 1 21,(au 3 (.alloc 116003 [(Z 0),.nil])),aX 2 3 27,F 4 28] (O [F 29 4,a6 30 .eql 29 0,F 31 30,⟨some 32,some (31,true),.load 2 true (.t 3)⟩,⟨some 33,some (31,true),.call U1 [(.t 32)]⟩,gN 34 31 33,F 2 34] .ret))))
def Xk:bZ:=cj 46 2 [.cell 4 4 true,.t 5] (O [dq 2 119002 0,dq 3 119003 1,(au 4 (.alloc 119004 [(Z 0),.nil,(Z 0),.nil])),bg 5 0] (.seq (O [aU 10 4 2,(dM 11 lT 10),ff 12 11,F 13 12,⟨some 14,some (13,false),.load 4 true (.t 3)⟩,⟨some 15,some (13,false),.call lT [(.t 14)]⟩,⟨some 16,some (13,false),.un .not (.t 15)⟩,cR 17 13 16] (aS 17 (O [(au 18 (.build [(Z 0),.nil,(Z 0),.nil] [])),aX 4 4 18,bg 5 1] .ret) .skip)) (O [aO 20 0 2,aU 21 2 20,aO 22 2 3,aU 23 2 22,aO 24 0 3,aU 25 2 24,aO 26 2 2,aU 27 2 26,(Cr 28 U2 21 23 25 27),F 19 28,ba 29 0 19,ba 30 1 19,(au 6 (.alloc 119006 [(Z 0),.nil])),aX 2 6 29,F 7 30] (O [aO 32 2 2,aU 33 2 32,aO 34 2 3,aU 35 2 34,(bW 36 vC 33 35),F 31 36,ba 37 0 31,ba 38 1 31,(au 8 (.alloc 119008 [(Z 0),.nil])),aX 2 8 37,F 9 38] (O [aU 39 2 6,F 40 7,aU 41 2 8,F 42 9,(Cr 43 Em 39 40 41 42),ba 44 0 43,ba 45 1 43,aX 4 4 44,F 5 45] .ret)))))
def Xl:bZ:=cj 13 2 [.cell 4 4 true,.t 5] (O [(au 4 (.alloc 130004 [(Z 0),.nil,(Z 0),.nil])),bg 5 0] (O [F 6 0,(dM 7 Pn 6),F 8 1,(dM 9 Pn 8),(bW 10 KT 7 9),ba 11 0 10,ba 12 1 10,aX 4 4 11,F 5 12] .ret))
def Xm:bZ:=cj 25 2 [.cell 4 4 true,.t 5] (O [dq 2 132002 0,dq 3 132003 1,(au 4 (.alloc 132004 [(Z 0),.nil,(Z 0),.nil])),bg 5 0] (.seq (O [aU 6 4 2,(dM 7 lT 6),ff 8 7,F 9 8,⟨some 10,some (9,false),.load 4 true (.t 3)⟩,⟨some 11,some (9,false),.call lT [(.t 10)]⟩,⟨some 12,some (9,false),.un .not (.t 11)⟩,cR 13 9 12] (aS 13 (O [(au 14 (.build [(Z 0),.nil,(Z 0),.nil] [])),aX 4 4 14,bg 5 1] .ret) .skip)) (eG [aU 15 4 2,aO 16 0 3,aU 17 2 16,(dM 18 Hi 17),aO 19 2 3,aU 20 2 19,(au 21 (.build [(Z 0),.nil,(Z 0),.nil] [(0,2,(.t 18)),(2,2,(.t 20))])),(bW 22 yP 15 21),ba 23 0 22,ba 24 1 22,aX 4 4 23,F 5 24] agq .ret)))
def Xn:bZ:=cj 42 2 [.cell 4 4 true,.t 5] (O [dq 2 134002 0,dq 3 134003 1,(au 4 (.alloc 134004 [(Z 0),.nil,(Z 0),.nil])),bg 5 0] (.seq (O [aU 10 4 2,(dM 11 lT 10),ff 12 11,F 13 12,⟨some 14,some (13,false),.load 4 true (.t 3)⟩,⟨some 15,some (13,false),.call lT [(.t 14)]⟩,⟨some 16,some (13,false),.un .not (.t 15)⟩,cR 17 13 16] (aS 17 (O [(au 18 (.build [(Z 0),.nil,(Z 0),.nil] [])),aX 4 4 18,bg 5 1] .ret) .skip)) (O [aO 20 0 2,aU 21 2 20,aO 22 0 3,aU 23 2 22,(bW 24 vC 21 23),F 19 24,ba 25 0 19,ba 26 1 19,(au 6 (.alloc 134006 [(Z 0),.nil])),aX 2 6 25,F 7 26] (O [aO 28 2 2,aU 29 2 28,aO 30 2 3,aU 31 2 30,(bW 32 vC 29 31),F 27 32,ba 33 0 27,ba 34 1 27,(au 8 (.alloc 134008 [(Z 0),.nil])),aX 2 8 33,F 9 34] (O [aU 35 2 6,F 36 7,aU 37 2 8,F 38 9,(Cr 39 Em 35 36 37 38),ba 40 0 39,ba 41 1 39,aX 4 4 40,F 5 41] .ret)))))
def Xo:bZ:=cj 78 2 [.t 4] (O [dq 2 135002 0,dq 3 135003 1,bg 4 0] (.seq (O [aU 17 4 2,(dM 18 lT 17),ff 19 18,F 20 19,⟨some 21,some (20,false),.load 4 true (.t 3)⟩,⟨some 22,some (20,false),.call lT [(.t 21)]⟩,⟨some 23,some (20,false),.un .not (.t 22)⟩,cR 24 20 23] (aS 24 (O [bg 4 0] .ret) .skip)) (eG [aO 25 0 2,aU 26 2 25,aO 27 2 2,aU 28 2 27,aO 29 0 3,aU 30 2 29,aO 31 2 3,aU 32 2 31,(au 5 (.alloc 135005 [(Z 0),.nil])),(au 6 (.alloc 135006 [(Z 0),.nil])),(au 7 (.alloc 135007 [(Z 0),.nil])),(au 8 (.alloc 135008 [(Z 0),.nil])),aX 2 5 26,aX 2 6 28,aX 2 7 30,aX 2 8 32] [[],[],[],[],[],[],[],[],[1,3,5,7],[1,3,5,7,8],[1,3,5,7,8,9],[1,3,5,7,8,9,10],[3,5,7],[5,7],[7],[]] (O [bg 9 1] (.block 0 (.loop  (.seq (.block 1 (O [aU 36 2 5,aU 37 2 6,(bW 38 En 36 37),F 35 38,ba 39 0 35,ba 40 1 35,ba 41 2 35,(au 10 (.alloc 135010 [(Z 0),.nil])),(au 11 (.alloc 135011 [(Z 0),.nil])),aX 2 10 39,aX 2 11 40,F 12 41] (O [aU 43 2 7,aU 44 2 8,(bW 45 En 43 44),F 42 45,ba 46 0 42,ba 47 1 42,ba 48 2 42,(au 13 (.alloc 135013 [(Z 0),.nil])),(au 14 (.alloc 135014 [(Z 0),.nil])),aX 2 13 46,aX 2 14 47,F 15 48] (.seq (O [aU 49 2 10,aU 50 2 13,(bW 51 U7 49 50),F 16 51] (.block 2 (O [F 53 16,a6 54 .neq 53 0,F 52 54] (aS 52 (O [F 55 9,F 56 16,bt 57 .mul 55 56,F 4 57] .ret) (O [aO 59 0 11,aL 60 1 59,a6 61 .eql 60 0,F 62 61,⟨some 63,some (62,false),.dt 0 (.t 14)⟩,⟨some 64,some (62,false),.load 1 false (.t 63)⟩,⟨some 65,some (62,false),.bin .eql (.t 64) (.c (Z 0))⟩,cR 66 62 65,F 58 66] (aS 58 (O [F 67 9,aO 68 0 11,aL 69 1 68,aO 70 0 14,aL 71 1 70,bt 72 .sub 69 71,bt 73 .mul 67 72,F 4 73] .ret) .skip)))))) (.mN [aU 74 2 6,aU 75 2 11,aU 76 2 8,aU 77 2 14,aX 2 5 74,aX 2 6 75,aX 2 7 76,aX 2 8 77] [[],[],[],[],[1,2,3],[2,3],[3],[]]))))) (.ops [F 33 9,(au 34 (.un .neg (.t 33))),F 9 34]))))))))
def Xp:bZ:=cj 15 1 [.t 2] (O [dq 1 138001 0,cq 2 false] (O [aU 6 2 1,(dM 7 U8 6),F 5 7,ba 8 0 5,ba 9 1 5,F 3 8,F 4 9] (O [F 10 4,F 11 10,⟨some 12,some (11,true),.bT (.t 3)⟩,⟨some 13,some (11,true),.bin .eql (.t 12) (.c (Z 1))⟩,gN 14 11 13,F 2 14] .ret)))
def Xq:bZ:=cj 38 4 [.cell 8 2 true,.t 9] (O [dq 4 139004 0,dq 5 139005 1,dq 6 139006 2,dq 7 139007 3,(au 8 (.alloc 139008 [(Z 0),.nil])),bg 9 0] (O [aU 14 2 4,aU 15 2 5,(bW 16 vC 14 15),F 13 16,ba 17 0 13,ba 18 1 13,(au 10 (.alloc 139010 [(Z 0),.nil])),aX 2 10 17,F 11 18] (.seq (O [F 19 11,a6 20 .neq 19 0] (aS 20 (O [(au 21 (.build [(Z 0),.nil] [])),F 22 11,aX 2 8 21,F 9 22] .ret) .skip)) (O [aU 24 2 6,aU 25 2 7,(bW 26 vC 24 25),F 23 26,ba 27 0 23,ba 28 1 23,(au 12 (.alloc 139012 [(Z 0),.nil])),aX 2 12 27,F 11 28] (.seq (O [F 29 11,a6 30 .neq 29 0] (aS 30 (O [(au 31 (.build [(Z 0),.nil] [])),F 32 11,aX 2 8 31,F 9 32] .ret) .skip)) (O [aU 33 2 10,aU 34 2 12,(bW 35 U9 33 34),ba 36 0 35,ba 37 1 35,aX 2 8 36,F 9 37] .ret))))))
def Xr:bZ:=cj 22 4 [.cell 8 4 true,.t 9] (O [dq 4 141004 0,dq 6 141006 2,(au 8 (.alloc 141008 [(Z 0),.nil,(Z 0),.nil])),bg 9 0] (.seq (O [F 10 1,a6 11 .neq 10 0,F 12 11,⟨some 13,some (12,false),.bT (.t 3)⟩,⟨some 14,some (12,false),.bin .neq (.t 13) (.c (Z 0))⟩,cR 15 12 14] (aS 15 (O [(au 16 (.build [(Z 0),.nil,(Z 0),.nil] [])),aX 4 8 16,bg 9 6] .ret) .skip)) (O [aU 17 2 4,aU 18 2 6,(bW 19 KT 17 18),ba 20 0 19,ba 21 1 19,aX 4 8 20,F 9 21] .ret)))
def Xs:bZ:=cj 60 2 [.cell 4 4 true,.t 5] (O [dq 2 149002 0,dq 3 149003 1,(au 4 (.alloc 149004 [(Z 0),.nil,(Z 0),.nil])),bg 5 0] (.seq (.block 0 (O [aU 15 2 2,(dM 16 lx 15),ff 17 16,F 18 17,⟨some 19,some (18,false),.load 2 true (.t 3)⟩,⟨some 20,some (18,false),.call lx [(.t 19)]⟩,⟨some 21,some (18,false),.un .not (.t 20)⟩,cR 22 18 21,F 14 22] (aS 14 (O [(au 23 (.build [(Z 0),.nil,(Z 0),.nil] [])),aX 4 4 23,bg 5 1] .ret) (O [aO 25 0 3,aL 26 1 25,a6 27 .eql 26 0,F 24 27] (aS 24 (O [(au 28 (.build [(Z 0),.nil,(Z 0),.nil] [])),aX 4 4 28,bg 5 15] .ret) (O [aO 30 0 3,aL 31 1 30,a6 32 .lss 31 0,F 29 32] (aS 29 (.mN [aU 33 2 2,(dM 34 Hi 33),aU 35 2 3,(dM 36 Hi 35),aX 2 2 34,aX 2 3 36] VD) .skip))))))) (O [aU 38 2 2,aU 39 2 3,(bW 40 KR 38 39),F 37 40,ba 41 0 37,ba 42 1 37,(au 6 (.alloc 149006 [(Z 0),.nil])),aX 2 6 41,F 7 42] (O [aU 44 2 2,aU 45 2 6,(bW 46 En 44 45),F 43 46,ba 47 0 43,ba 48 1 43,ba 49 2 43,(au 8 (.alloc 149008 [(Z 0),.nil])),(au 9 (.alloc 149009 [(Z 0),.nil])),aX 2 8 47,aX 2 9 48,F 10 49] (O [aU 51 2 3,aU 52 2 6,(bW 53 En 51 52),F 50 53,ba 54 0 50,ba 55 1 50,ba 56 2 50,(au 11 (.alloc 149011 [(Z 0),.nil])),(au 12 (.alloc 149012 [(Z 0),.nil])),aX 2 11 54,aX 2 12 55,F 13 56] (O [aU 57 2 8,aU 58 2 11,(au 59 (.build [(Z 0),.nil,(Z 0),.nil] [(0,2,(.t 57)),(2,2,(.t 58))])),aX 4 4 59,bg 5 0] .ret))))))
def Xt:bZ:=cj 49 2 [.cell 4 4 true,.t 5] (O [dq 2 169002 0,dq 3 169003 1,(au 4 (.alloc 169004 [(Z 0),.nil,(Z 0),.nil])),bg 5 0] (.seq (.block 0 (O [aU 11 4 2,(dM 12 lT 11),ff 13 12,F 14 13,⟨some 15,some (14,false),.load 4 true (.t 3)⟩,⟨some 16,some (14,false),.call lT [(.t 15)]⟩,⟨some 17,some (14,false),.un .not (.t 16)⟩,cR 18 14 17,F 10 18] (aS 10 (O [(au 19 (.build [(Z 0),.nil,(Z 0),.nil] [])),aX 4 4 19,bg 5 1] .ret) (O [aO 21 0 3,aO 22 0 21,aL 23 1 22,a6 24 .eql 23 0,F 20 24] (aS 20 (O [(au 25 (.build [(Z 0),.nil,(Z 0),.nil] [])),aX 4 4 25,bg 5 15] .ret) .skip))))) (O [aO 27 0 2,aU 28 2 27,aO 29 2 3,aU 30 2 29,(bW 31 vC 28 30),F 26 31,ba 32 0 26,ba 33 1 26,(au 6 (.alloc 169006 [(Z 0),.nil])),aX 2 6 32,F 7 33] (O [aO 35 2 2,aU 36 2 35,aO 37 0 3,aU 38 2 37,(bW 39 vC 36 38),F 34 39,ba 40 0 34,ba 41 1 34,(au 8 (.alloc 169008 [(Z 0),.nil])),aX 2 8 40,F 9 41] (O [aU 42 2 6,F 43 7,aU 44 2 8,F 45 9,(Cr 46 Em 42 43 44 45),ba 47 0 46,ba 48 1 46,aX 4 4 47,F 5 48] .ret)))))
abbrev a7:=Raw×Raw
def ar (f:a7):List Data:=[.int .i64 f.1.1,.X (f.1.2.map ae),.int .i64 f.2.1,.X (f.2.2.map ae)]
def cG (x:a7×Int):Data:=.c1 [.agg (ar x.1),.int .i64 x.2]
def al (x:Rat):a7:=(bf x.num,bf x.den)
def dx (x:Rat):Prop:=x.num.natAbs<dQ/\x.den<dQ
def dD:a7:=((0,[]),(0,[]))
def di (f:a7):Bool:=dj f.1&&(dj f.2&&(f.2.1==1&&(gU (g6 f.1).natAbs (g6 f.2).natAbs==1)))
def pK (f:a7):Rat:=lZ (g6 f.1) (g6 f.2)
theorem EX (x:Rat):pK (al x)=x:=by
 unfold pK al;rw[e8,e8,EY]
theorem Xu {x y:Rat}(h:al x=al y):x=y:=by rw[<-EX x,h,EX]
theorem P9 {x y:Int}(h:bf x=bf y):x=y:=by rw[<-e8 x,h,e8]
theorem den_pos (x:Rat):0<(x.den:Int):=CG.2 x.den_pos
theorem atS {n:Int}(h:0<n):(bf n).1=1:=g7 h
theorem AM (f:a7):di f=true↔∃x,dx x/\f=al x:=by
 unfold di;simp only[fw,beq_iff_eq]
 constructor
 ·rintro⟨G,J,af,aT⟩;obtain⟨p,aF,av⟩:=(hM _).1 G;obtain⟨q,bF,aB⟩:=(hM _).1 J;obtain⟨f1,f2⟩:=f;simp only at av aB af aT;subst av aB;rw[e8,e8] at aT
  have W1:0<q:=by
   rcases k2 q with ⟨_,h⟩|⟨e,_⟩|⟨e,_⟩
   ·exact h
   ·have:q.sign=1:=af;omega
   ·have:q.sign=1:=af;omega
  refine⟨⟨p,q.natAbs,by omega,aT⟩,⟨aF,bF⟩,?_⟩
  unfold al;rw[show ((q.natAbs:Nat):Int)=q by omega]
 ·rintro⟨x,⟨G,J⟩,rfl⟩;have ab:(x.den:Int).natAbs<dQ:=by rw[k4];exact J
  refine⟨kx G,kx ab,atS (den_pos x),?_⟩;unfold al;rw[e8,e8,k4];exact x.reduced
theorem xr {x:Rat}(h:dx x):di (al x)=true:=(AM _).2 ⟨x,h,rfl⟩
theorem pL {x:Rat}(h:dx x):(x.den:Int).natAbs<dQ:=by rw[k4];exact h.2
theorem jI {z:Int}(h:z.natAbs<dQ):(aP z.natAbs).length<=1000000:=by have:=nN h;omega
def EZ (a:Raw):Bool:=(tf a).2&&((tf a).1==1)
theorem atT {z:Int}(h:z.natAbs<dQ):EZ (bf z)=decide (z=1):=by
 unfold EZ tf;rw[kx h,e8]
 by_cases Q:dr z
 ·rw[ad ⟨rfl,Q⟩];simp only[fD]
  rfl
 ·rw[ag λh=>Q h.2];have:z≠1:=by rintro rfl;exact Q (by unfold dr;omega)
  simp[this]
def Xv:=cn Au λ(s,l)=>cN (D l<=1000000) (.same (.bool (EZ (s,l))))
@[go_sem] theorem aKg (s:Int)(l:List Int)(H:(D l)<=1000000):Xv [.agg [.int .i64 s,.X (l.map ae)]]=some (.same (.bool (EZ (s,l)))):=(cz EA (s,l)).trans (cX H _)
theorem atU (T:bl)(Qa:T U8=aQ Xe)(s:Int)(l:List Int)(H:(D l)<=1000000):WP T Xp (.same (.bool (EZ (s,l)))) [.I (.agg [.int .i64 s,.X (l.map ae)])]:=by
 refine cD ?_;simp only[Xp];unfold EZ;rcases h:(tf (s,l)).2
 ·simp only[go_sem,go_sem_proc,Qa,H,h];repeat' (first|refine ai ?_ ?_|fail)<;>intro h<;>simp only[h,go_sem,go_sem_proc,Qa,H,h]
 ·simp only[go_sem,go_sem_proc,Qa,H,h];repeat' (first|refine ai ?_ ?_|fail)<;>intro h<;>simp only[h,go_sem,go_sem_proc,Qa,H,h]
abbrev CK:Int×(List Int)×Int×(List Int)->List Data:=λ(s,l,s2,aa)=>[.agg [.int .i64 s,.X (l.map ae),.int .i64 s2,.X (aa.map ae)]]
def vS:=cn CK λ(s,l,s2,aa)=>cN (D l<=1000000/\D aa<=1000000) (.same (.bool (di ((s,l),(s2,aa)))))
theorem HW:∀a b,CK a=CK b->a=b:=by
  rintro⟨s1,ed,CE,AE⟩ ⟨s2,aa,CF,AF⟩ h;simp only[bk,Data.agg.injEq,Data.int.injEq,Data.X.injEq] at h;exact dN h.1.1.2 (dN (map_inj gx _ _ h.1.2.1) (dN h.1.2.2.1.2 (map_inj gx _ _ h.1.2.2.2.1)))
@[go_sem] theorem atV (s:Int)(l:List Int)(s2:Int)(aa:List Int)(H:(D l)<=1000000/\D aa<=1000000):vS [.agg [.int .i64 s,.X (l.map ae),.int .i64 s2,.X (aa.map ae)]]=some (.same (.bool (di ((s,l),(s2,aa))))):=(cz HW (s,l,s2,aa)).trans (cX H _)
theorem atW (T:bl)(fT:T lx=aQ xd)(y2:T KR=aQ P3)(Qb:T U1=aQ Xv)(s:Int)(l:List Int)(s2:Int)(aa:List Int)(H:(D l)<=1000000/\D aa<=1000000):WP T Xj (.same (.bool (di ((s,l),(s2,aa))))) [.I (.agg [.int .i64 s,.X (l.map ae),.int .i64 s2,.X (aa.map ae)])]:=by
 refine cD ?_;simp only[Xj];obtain⟨bJ,bO⟩:=H
 by_cases Y:dj (s,l)=true
 ·by_cases a8:dj (s2,aa)=true
  ·by_cases U:s2=1
   ·obtain⟨x,M,e⟩:=(hM _).1 Y;obtain⟨y,aj,aB⟩:=(hM _).1 a8
    have bz:lB (s,l) (s2,aa)=(bf ((gU x.natAbs y.natAbs:Nat):Int),0):=by
     unfold lB;rw[Y,a8,e,aB,e8,e8];rfl
    have nn:=HT M aj
    have bS:EZ (bf ((gU x.natAbs y.natAbs:Nat):Int))=(gU x.natAbs y.natAbs==1):=by
     rw[atT (by rw[k4];exact nn)];rw[AO];simp;omega
    have rR:g6 (s,l)=x:=by rw[e,e8]
    have rS:g6 (s2,aa)=y:=by rw[aB,e8]
    have hc:di ((s,l),(s2,aa))=(gU x.natAbs y.natAbs==1):=by
     show (dj (s,l)&&(dj (s2,aa)&&((s2==1)&&(gU (g6 (s,l)).natAbs (g6 (s2,aa)).natAbs==1))))=_;rw[Y,a8,rR,rS,show (s2==1)=true by simpa using U]
     simp only[fD]
    have Xw:((bf ((gU x.natAbs y.natAbs:Nat):Int)).2).length<=1000000:=jI (by rw[k4];exact nn);rw[hc,<-bS];generalize bf ((gU x.natAbs y.natAbs:Nat):Int)=bE at *;obtain⟨cQ,dd⟩:=bE;have jS:(s2==1)=true:=by simpa using U
    refine ak ?_;repeat' (intro h<;>simp only[h,go_sem,go_sem_proc,fT,y2,Qb,Y,a8,bJ,bO,jS,bz,Xw,dZ,ck,show ((0:Int)==0)=true from rfl]<;>try refine ai ?_ ?_)
   ·have hc:di ((s,l),(s2,aa))=false:=by unfold di;simp[U]
    have jS:(s2==1)=false:=by simpa using U
    rw[hc];refine ak ?_;repeat' (intro h<;>simp only[h,go_sem,go_sem_proc,fT,y2,Qb,Y,a8,bJ,bO,jS]<;>try refine ai ?_ ?_)
  ·have a8:dj (s2,aa)=false:=by simpa using a8
   have hc:di ((s,l),(s2,aa))=false:=by unfold di;simp[a8]
   rw[hc];refine ak ?_;repeat' (intro h<;>simp only[h,go_sem,go_sem_proc,fT,y2,Qb,Y,a8,bJ,bO]<;>try refine ai ?_ ?_)
 ·have Y:dj (s,l)=false:=by simpa using Y
  have hc:di ((s,l),(s2,aa))=false:=by unfold di;simp[Y]
  rw[hc];refine ak ?_;repeat' (intro h<;>simp only[h,go_sem,go_sem_proc,fT,y2,Qb,Y,bJ,bO]<;>try refine ai ?_ ?_)
def gH (p q:Raw):a7×Int :=
 if (dj p&&dj q)=true then (if g6 q=0 then (dD,15) else (al (lZ (g6 p) (g6 q)),0)) else (dD,1)
theorem AP {p q:Int}(aF:p.natAbs<dQ)(bF:q.natAbs<dQ)(ax:q≠0):gH (bf p) (bf q)=(al (lZ p q),0):=by
 unfold gH;rw[kx aF,kx bF,e8,e8,ad (by rfl),ag ax]
theorem Xx {p q:Int}(bF:0<q):(lZ p q).num=p.fdiv ((gU p.natAbs q.natAbs:Nat):Int)/\((lZ p q).den:Int)=q.fdiv ((gU p.natAbs q.natAbs:Nat):Int):=by
 rw[Rat.num_divInt,Rat.den_divInt,ag (by omega),g7 bF,ql];have bz:q.gcd p=gU p.natAbs q.natAbs:=by rw[Int.gcd_comm];rfl
 rw[bz];have ax:(0:Int)<=((gU p.natAbs q.natAbs:Nat):Int):=Int.natCast_nonneg _;rw[ahL _ ax,ahL _ ax];refine⟨rfl,?_⟩;rw[Int.natCast_ediv]
 congr 1
 omega
theorem Xy {p q:Int}(bF:q≠0):0<gU p.natAbs q.natAbs:=Nat.gcd_pos_of_pos_right _ (by omega)
theorem Qc {p q:Int}(aF:p.natAbs<dQ)(bF:q.natAbs<dQ):dx (lZ p q):=by
 have main:∀{p q:Int},p.natAbs<dQ->q.natAbs<dQ->0<q->dx (lZ p q):=by
  intro p q aF bF ax;obtain⟨G,J⟩:=Xx (p:=p) ax;have bz:=Xy (p:=p) (q:=q) (by omega);refine⟨?_,?_⟩
  ·rw[G];exact HU aF (by omega)
  ·have:=HU (y:=((gU p.natAbs q.natAbs:Nat):Int)) bF (by omega);rw[<-J,k4] at this;exact this
 rcases uv q 0 with h|h|h
 ·rw[<-ahM];exact main (by omega) (by omega) (by omega)
 ·subst h;rw[Rat.divInt_zero];unfold dx dQ;exact⟨Nat.pow_pos (by omega),Nat.one_lt_pow (by omega) (by omega)⟩
 ·exact main aF bF h
def Qd:=cn qm λ(s,l,s2,aa)=>cN (D l<=1000000/\D aa<=1000000) (.same (cG (gH (s,l) (s2,aa))))
@[go_sem] theorem aKh (s:Int)(l:List Int)(s2:Int)(aa:List Int)(H:(D l)<=1000000/\D aa<=1000000):Qd [.agg [.int .i64 s,.X (l.map ae)],.agg [.int .i64 s2,.X (aa.map ae)]]=some (.same (cG (gH (s,l) (s2,aa)))):=(cz sb (s,l,s2,aa)).trans (cX H _)
theorem atX (T:bl)(fT:T lx=aQ xd)(AQ:T Hi=aQ P2)(y2:T KR=aQ P3)(uD:T En=aQ P6)(s:Int)(l:List Int)(s2:Int)(aa:List Int)(H:(D l)<=1000000/\D aa<=1000000):WP T Xs (.same (cG (gH (s,l) (s2,aa)))) [.I (.agg [.int .i64 s,.X (l.map ae)]),.I (.agg [.int .i64 s2,.X (aa.map ae)])]:=by
 refine cD ?_;simp only[Xs];obtain⟨bJ,bO⟩:=H
 by_cases Y:dj (s,l)=true
 ·by_cases a8:dj (s2,aa)=true
  ·obtain⟨x,M,e⟩:=(hM _).1 Y;obtain⟨y,aj,aB⟩:=(hM _).1 a8
   by_cases ax:y=0
   ·have hm:gH (s,l) (s2,aa)=(dD,15):=by
     unfold gH;rw[Y,a8,aB,e8,ad (by rfl),ad ax]
    rw[hm]
    cases e
    cases aB;have U:(y.sign==0)=true:=by rw[ax];rfl
    refine ak ?_;repeat' (intro h<;>simp only[h,go_sem,go_sem_proc,fT,AQ,y2,uD,Y,a8,bJ,bO,U,cG,ar,dD,cC]<;>try refine ai ?_ ?_)
   ·have main:∀p q:Int,p.natAbs<dQ->q.natAbs<dQ->0<q->∃g:Raw,lB (bf p) (bf q)=(g,0)/\g.2.length<=1000000/\k3 (bf p) g=(bf (lZ p q).num,bf (p.fmod ((gU p.natAbs q.natAbs:Nat):Int)),0)/\k3 (bf q) g=(bf (lZ p q).den,bf (q.fmod ((gU p.natAbs q.natAbs:Nat):Int)),0):=by
     intro p q aF bF mX;have nn:=HT aF bF;have E0:((gU p.natAbs q.natAbs:Nat):Int).natAbs<dQ:=by rw[k4];exact nn
     have xl:=Xy (p:=p) (q:=q) (by omega);obtain⟨G,J⟩:=Xx (p:=p) mX;refine⟨bf ((gU p.natAbs q.natAbs:Nat):Int),?_,jI E0,?_,?_⟩
     ·unfold lB;rw[kx aF,kx bF,e8,e8];rfl
     ·rw[AH aF E0 (by omega),G]
     ·rw[AH bF E0 (by omega),J]
    have pM:(y.sign==0)=false:=by simpa using ax
    rcases Int.lt_or_gt_of_ne ax with mr|iF
    ·have iS:decide (y.sign<0)=true:=by rw[nk mr];rfl
     obtain⟨⟨cQ,dd⟩,bz,nn,kt,lX⟩:=main (-x) (-y) (by omega) (by omega) (by omega)
     have hm:gH (s,l) (s2,aa)=(al (lZ (-x) (-y)),0):=by
      rw[e,aB,AP M aj ax,ahM]
     rw[hm];have wT:hf (s,l)=bf (-x):=by unfold hf;rw[ad Y,e,e8]
     have vo:hf (s2,aa)=bf (-y):=by unfold hf;rw[ad a8,aB,e8]
     have CL:s2=y.sign:=congrArg oB aB;have eH:(bf (-x)).2.length<=1000000:=jI (by omega);have eV:(bf (-y)).2.length<=1000000:=jI (by omega);clear e aB;unfold al;generalize bf (-x)=bu at *;generalize bf (-y)=g8 at *;obtain⟨a5,bX⟩:=bu;obtain⟨lz,mW⟩:=g8;rw[<-CL] at pM iS;refine ak ?_;repeat' (intro h<;>simp only[h,go_sem,go_sem_proc,fT,AQ,y2,uD,Y,a8,bJ,bO,pM,iS,wT,vo,eH,eV,bz,nn,kt,lX,cG,ar,dZ,jH,ck]<;>try refine ai ?_ ?_)
    ·have iS:decide (y.sign<0)=false:=by rw[g7 iF];rfl
     obtain⟨⟨cQ,dd⟩,bz,nn,kt,lX⟩:=main x y M aj iF
     have hm:gH (s,l) (s2,aa)=(al (lZ x y),0):=by
      rw[e,aB,AP M aj ax]
     rw[hm];have CL:s2=y.sign:=congrArg oB aB;rw[<-e] at bz kt;rw[<-aB] at bz lX;rw[<-CL] at pM iS;unfold al;refine ak ?_;repeat' (intro h<;>simp only[h,go_sem,go_sem_proc,fT,AQ,y2,uD,Y,a8,bJ,bO,pM,iS,bz,nn,kt,lX,cG,ar,dZ,jH,ck]<;>try refine ai ?_ ?_)
  ·have a8:dj (s2,aa)=false:=by simpa using a8
   have hm:gH (s,l) (s2,aa)=(dD,1):=by unfold gH;rw[a8,jB];rfl
   rw[hm];refine ak ?_;repeat' (intro h<;>simp only[h,go_sem,go_sem_proc,fT,AQ,y2,uD,Y,a8,bJ,bO,cG,ar,dD,cC]<;>try refine ai ?_ ?_)
 ·have Y:dj (s,l)=false:=by simpa using Y
  have hm:gH (s,l) (s2,aa)=(dD,1):=by unfold gH;rw[Y,eR];rfl
  rw[hm];refine ak ?_;repeat' (intro h<;>simp only[h,go_sem,go_sem_proc,fT,AQ,y2,uD,Y,bJ,bO,cG,ar,dD,cC]<;>try refine ai ?_ ?_)
def LH:=cn Hx λ(p,q)=>cN (dr p/\dr q) (.same (cG (gH (bf p) (bf q))))
@[go_sem] theorem atY (p:Int)(q:Int)(H:dr p/\dr q):LH [.int .i64 p,.int .i64 q]=some (.same (cG (gH (bf p) (bf q)))):=(cz PH (p,q)).trans (cX H _)
theorem atZ (T:bl)(at0:T Pn=aQ Xc)(LI:T KT=aQ Qd)(p:Int)(q:Int)(H:dr p/\dr q):WP T Xl (.same (cG (gH (bf p) (bf q)))) [.I (.int .i64 p),.I (.int .i64 q)]:=by
 refine cD ?_;simp only[Xl];obtain⟨G,J⟩:=H;have ed:(bf p).2.length<=1000000:=jI (td G);have aa:(bf q).2.length<=1000000:=jI (td J);generalize fi:bf p=P at *;generalize fC:bf q=aZ at *;obtain⟨a5,bX⟩:=P;obtain⟨lz,mW⟩:=aZ;refine ak ?_;repeat' (intro h<;>simp only[h,go_sem,go_sem_proc,at0,LI,G,J,fi,fC,ed,aa,ck,cG,ar]<;>try refine ai ?_ ?_)
def vT (a b c d:Raw):Raw×Int :=
 if ((mulR a b).2==0)=true then (if ((mulR c d).2==0)=true then ky (mulR a b).1 (mulR c d).1 else ((0,[]),(mulR c d).2)) else ((0,[]),(mulR a b).2)
theorem ahN (z:Int):(o1 z).1.2.length<=1000000:=by
 unfold o1
 split
 ·exact jI (by assumption)
 ·simp
theorem qp (a b:Raw):(mulR a b).1.2.length<=1000000:=by
 unfold mulR
 split
 ·exact ahN _
 ·simp
theorem Xz (a b:Raw):(ky a b).1.2.length<=1000000:=by
 unfold ky
 split
 ·exact ahN _
 ·simp
theorem at1 (a b c d:Raw):(vT a b c d).1.2.length<=1000000:=by
 unfold vT
 split
 ·split
  ·exact Xz _ _
  ·simp
 ·simp
abbrev XA:Int×(List Int)×Int×(List Int)×Int×(List Int)×Int×(List Int)->List Data:=λ(s,l,s2,aa,bK,bh,bL,br)=>[.agg [.int .i64 s,.X (l.map ae)],.agg [.int .i64 s2,.X (aa.map ae)],.agg [.int .i64 bK,.X (bh.map ae)],.agg [.int .i64 bL,.X (br.map ae)]]
def XB:=cn XA λ(s,l,s2,aa,bK,bh,bL,br)=>cN (D l<=1000000/\D aa<=1000000/\D bh<=1000000/\D br<=1000000) (.same (dZ (vT (s,l) (s2,aa) (bK,bh) (bL,br))))
theorem at2:∀a b,XA a=XA b->a=b:=by
  rintro⟨s1,ed,CE,AE,at3,at4,at5,at6⟩ ⟨s2,aa,CF,AF,at7,at8,at9,aua⟩ h;simp only[bk,Data.agg.injEq,Data.int.injEq,Data.X.injEq] at h;exact dN h.1.1.2 (dN (map_inj gx _ _ h.1.2.1) (dN h.2.1.1.2 (dN (map_inj gx _ _ h.2.1.2.1) (dN h.2.2.1.1.2 (dN (map_inj gx _ _ h.2.2.1.2.1) (dN h.2.2.2.1.1.2 (map_inj gx _ _ h.2.2.2.1.2.1)))))))
@[go_sem] theorem aKi (s:Int)(l:List Int)(s2:Int)(aa:List Int)(bK:Int)(bh:List Int)(bL:Int)(br:List Int)(H:(D l)<=1000000/\D aa<=1000000/\D bh<=1000000/\D br<=1000000):XB [.agg [.int .i64 s,.X (l.map ae)],.agg [.int .i64 s2,.X (aa.map ae)],.agg [.int .i64 bK,.X (bh.map ae)],.agg [.int .i64 bL,.X (br.map ae)]]=some (.same (dZ (vT (s,l) (s2,aa) (bK,bh) (bL,br)))):=(cz at2 (s,l,s2,aa,bK,bh,bL,br)).trans (cX H _)
theorem aub (T:bl)(re:T vC=aQ HP)(XC:T U9=aQ W4)(s:Int)(l:List Int)(s2:Int)(aa:List Int)(bK:Int)(bh:List Int)(bL:Int)(br:List Int)(H:(D l)<=1000000/\D aa<=1000000/\D bh<=1000000/\D br<=1000000):WP T Xq (.same (dZ (vT (s,l) (s2,aa) (bK,bh) (bL,br)))) [.I (.agg [.int .i64 s,.X (l.map ae)]),.I (.agg [.int .i64 s2,.X (aa.map ae)]),.I (.agg [.int .i64 bK,.X (bh.map ae)]),.I (.agg [.int .i64 bL,.X (br.map ae)])]:=by
 refine cD ?_;simp only[Xq];obtain⟨bJ,bO,eH,eV⟩:=H;have ea:=qp (s,l) (s2,aa);have b7:=qp (bK,bh) (bL,br);unfold vT;generalize jd:mulR (s,l) (s2,aa)=M1 at *;generalize fp:mulR (bK,bh) (bL,br)=M2 at *;obtain⟨⟨cE,cO⟩,av⟩:=M1;obtain⟨⟨c0,ee⟩,aB⟩:=M2;rcases G:(av==0)
 ·refine ak ?_;repeat' (intro h<;>simp only[h,go_sem,go_sem_proc,re,XC,bJ,bO,eH,eV,jd,G,ea,b7,dZ,ck,cC]<;>try refine ai ?_ ?_)
 ·have k5:av=0:=by simpa using G
  subst k5;rcases J:(aB==0)
  ·refine ak ?_;repeat' (intro h<;>simp only[h,go_sem,go_sem_proc,re,XC,bJ,bO,eH,eV,jd,fp,G,J,ea,b7,dZ,ck,cC]<;>try refine ai ?_ ?_)
  ·have k6:aB=0:=by simpa using J
   subst k6;refine ak ?_;repeat' (intro h<;>simp only[h,go_sem,go_sem_proc,re,XC,bJ,bO,eH,eV,jd,fp,G,ea,b7,dZ,ck,cC]<;>try refine ai ?_ ?_)
def sc (p:Raw×Int)(q:Raw×Int):a7×Int:=if (p.2==0)=true then (if (q.2==0)=true then gH p.1 q.1 else (dD,6)) else (dD,6)
abbrev XD:Int×(List Int)×Int×Int×(List Int)×Int->List Data:=λ(s,l,e,s2,aa,aB)=>[.agg [.int .i64 s,.X (l.map ae)],.int .i64 e,.agg [.int .i64 s2,.X (aa.map ae)],.int .i64 aB]
def LJ:=cn XD λ(s,l,e,s2,aa,aB)=>cN (D l<=1000000/\D aa<=1000000) (.same (cG (sc ((s,l),e) ((s2,aa),aB))))
theorem auc:∀a b,XD a=XD b->a=b:=by
  rintro⟨s1,ed,av,CE,AE,uE⟩ ⟨s2,aa,aB,CF,AF,uF⟩ h;simp only[bk,Data.agg.injEq,Data.int.injEq,Data.X.injEq] at h;exact dN h.1.1.2 (dN (map_inj gx _ _ h.1.2.1) (dN h.2.1.2 (dN h.2.2.1.1.2 (dN (map_inj gx _ _ h.2.2.1.2.1) h.2.2.2.1.2))))
@[go_sem] theorem aKj (s:Int)(l:List Int)(e:Int)(s2:Int)(aa:List Int)(aB:Int)(H:(D l)<=1000000/\D aa<=1000000):LJ [.agg [.int .i64 s,.X (l.map ae)],.int .i64 e,.agg [.int .i64 s2,.X (aa.map ae)],.int .i64 aB]=some (.same (cG (sc ((s,l),e) ((s2,aa),aB)))):=(cz auc (s,l,e,s2,aa,aB)).trans (cX H _)
theorem aud (T:bl)(LI:T KT=aQ Qd)(s:Int)(l:List Int)(e:Int)(s2:Int)(aa:List Int)(aB:Int)(H:(D l)<=1000000/\D aa<=1000000):WP T Xr (.same (cG (sc ((s,l),e) ((s2,aa),aB)))) [.I (.agg [.int .i64 s,.X (l.map ae)]),.I (.int .i64 e),.I (.agg [.int .i64 s2,.X (aa.map ae)]),.I (.int .i64 aB)]:=by
 refine cD ?_;simp only[Xr];obtain⟨bJ,bO⟩:=H;unfold sc;rcases G:(e==0)
 ·refine ak ?_;repeat' (intro h<;>simp only[h,go_sem,go_sem_proc,LI,bJ,bO,G,cG,ar,dD,cC]<;>try refine ai ?_ ?_)
 ·have k5:e=0:=by simpa using G
  subst k5;rcases J:(aB==0)
  ·refine ak ?_;repeat' (intro h<;>simp only[h,go_sem,go_sem_proc,LI,bJ,bO,G,J,cG,ar,dD,cC]<;>try refine ai ?_ ?_)
  ·have k6:aB=0:=by simpa using J
   subst k6;refine ak ?_;repeat' (intro h<;>simp only[h,go_sem,go_sem_proc,LI,bJ,bO,G,cG,ar,dD,cC]<;>try refine ai ?_ ?_)
def oC (a b:a7):a7×Int:=if di a=true then (if di b=true then sc (vT a.1 b.2 b.1 a.2) (mulR a.2 b.2) else (dD,1)) else (dD,1)
def jJ (a b:a7):a7×Int:=if di a=true then (if di b=true then oC a (hf b.1,b.2) else (dD,1)) else (dD,1)
def hA (a b:a7):a7×Int:=if di a=true then (if di b=true then sc (mulR a.1 b.1) (mulR a.2 b.2) else (dD,1)) else (dD,1)
def fE (a b:a7):a7×Int:=if di a=true then (if di b=true then (if (b.1.1==0)=true then (dD,15) else sc (mulR a.1 b.2) (mulR a.2 b.1)) else (dD,1)) else (dD,1)
theorem aue (a:Raw)(h:a.2.length<=1000000):(hf a).2.length<=1000000:=by
 unfold hf
 split
 ·rename_i Y;obtain⟨z,a3,e⟩:=(hM _).1 Y;rw[e,e8];exact jI (by omega)
 ·simp
abbrev tg:Int×(List Int)×Int×(List Int)×Int×(List Int)×Int×(List Int)->List Data:=λ(s,l,s2,aa,bK,bh,bL,br)=>[.agg [.int .i64 s,.X (l.map ae),.int .i64 s2,.X (aa.map ae)],.agg [.int .i64 bK,.X (bh.map ae),.int .i64 bL,.X (br.map ae)]]
def AR:=cn tg λ(s,l,s2,aa,bK,bh,bL,br)=>cN (D l<=1000000/\D aa<=1000000/\D bh<=1000000/\D br<=1000000) (.same (cG (oC ((s,l),(s2,aa)) ((bK,bh),(bL,br)))))
theorem vU:∀a b,tg a=tg b->a=b:=by
  rintro⟨s1,ed,CE,AE,at3,at4,at5,at6⟩ ⟨s2,aa,CF,AF,at7,at8,at9,aua⟩ h;simp only[bk,Data.agg.injEq,Data.int.injEq,Data.X.injEq] at h;exact dN h.1.1.2 (dN (map_inj gx _ _ h.1.2.1) (dN h.1.2.2.1.2 (dN (map_inj gx _ _ h.1.2.2.2.1) (dN h.2.1.1.2 (dN (map_inj gx _ _ h.2.1.2.1) (dN h.2.1.2.2.1.2 (map_inj gx _ _ h.2.1.2.2.2.1)))))))
@[go_sem] theorem ahO (s:Int)(l:List Int)(s2:Int)(aa:List Int)(bK:Int)(bh:List Int)(bL:Int)(br:List Int)(H:(D l)<=1000000/\D aa<=1000000/\D bh<=1000000/\D br<=1000000):AR [.agg [.int .i64 s,.X (l.map ae),.int .i64 s2,.X (aa.map ae)],.agg [.int .i64 bK,.X (bh.map ae),.int .i64 bL,.X (br.map ae)]]=some (.same (cG (oC ((s,l),(s2,aa)) ((bK,bh),(bL,br))))):=(cz vU (s,l,s2,aa,bK,bh,bL,br)).trans (cX H _)
theorem auf (T:bl)(hB:T lT=aQ vS)(XF:T U2=aQ XB)(re:T vC=aQ HP)(vV:T Em=aQ LJ)(s:Int)(l:List Int)(s2:Int)(aa:List Int)(bK:Int)(bh:List Int)(bL:Int)(br:List Int)(H:(D l)<=1000000/\D aa<=1000000/\D bh<=1000000/\D br<=1000000):WP T Xk (.same (cG (oC ((s,l),(s2,aa)) ((bK,bh),(bL,br))))) [.I (.agg [.int .i64 s,.X (l.map ae),.int .i64 s2,.X (aa.map ae)]),.I (.agg [.int .i64 bK,.X (bh.map ae),.int .i64 bL,.X (br.map ae)])]:=by
 refine cD ?_;simp only[Xk];obtain⟨bJ,bO,eH,eV⟩:=H;unfold oC
 by_cases Y:di ((s,l),(s2,aa))=true
 ·by_cases a8:di ((bK,bh),(bL,br))=true
  ·have ea:=at1 (s,l) (bL,br) (bK,bh) (s2,aa);have b7:=qp (s2,aa) (bL,br);rw[ad Y,ad a8];dsimp only;generalize jd:vT (s,l) (bL,br) (bK,bh) (s2,aa)=M1 at *;generalize fp:mulR (s2,aa) (bL,br)=M2 at *;obtain⟨⟨cE,cO⟩,av⟩:=M1;obtain⟨⟨c0,ee⟩,aB⟩:=M2;refine ak ?_;repeat' (intro h<;>simp only[h,go_sem,go_sem_proc,hB,XF,re,vV,bJ,bO,eH,eV,Y,a8,jd,fp,ea,b7,dZ,ck,cG,ar]<;>try refine ai ?_ ?_)
  ·have a8:di ((bK,bh),(bL,br))=false:=by simpa using a8
   rw[ad Y,ag (by simp[a8])];refine ak ?_;repeat' (intro h<;>simp only[h,go_sem,go_sem_proc,hB,XF,re,vV,bJ,bO,eH,eV,Y,a8,cG,ar,dD,cC]<;>try refine ai ?_ ?_)
 ·have Y:di ((s,l),(s2,aa))=false:=by simpa using Y
  rw[ag (by simp[Y])];refine ak ?_;repeat' (intro h<;>simp only[h,go_sem,go_sem_proc,hB,XF,re,vV,bJ,bO,eH,eV,Y,cG,ar,dD,cC]<;>try refine ai ?_ ?_)
def AS:=cn tg λ(s,l,s2,aa,bK,bh,bL,br)=>cN (D l<=1000000/\D aa<=1000000/\D bh<=1000000/\D br<=1000000) (.same (cG (jJ ((s,l),(s2,aa)) ((bK,bh),(bL,br)))))
@[go_sem] theorem aug (s:Int)(l:List Int)(s2:Int)(aa:List Int)(bK:Int)(bh:List Int)(bL:Int)(br:List Int)(H:(D l)<=1000000/\D aa<=1000000/\D bh<=1000000/\D br<=1000000):AS [.agg [.int .i64 s,.X (l.map ae),.int .i64 s2,.X (aa.map ae)],.agg [.int .i64 bK,.X (bh.map ae),.int .i64 bL,.X (br.map ae)]]=some (.same (cG (jJ ((s,l),(s2,aa)) ((bK,bh),(bL,br))))):=(cz vU (s,l,s2,aa,bK,bh,bL,br)).trans (cX H _)
theorem auh (T:bl)(hB:T lT=aQ vS)(AQ:T Hi=aQ P2)(pN:T yP=aQ AR)(s:Int)(l:List Int)(s2:Int)(aa:List Int)(bK:Int)(bh:List Int)(bL:Int)(br:List Int)(H:(D l)<=1000000/\D aa<=1000000/\D bh<=1000000/\D br<=1000000):WP T Xm (.same (cG (jJ ((s,l),(s2,aa)) ((bK,bh),(bL,br))))) [.I (.agg [.int .i64 s,.X (l.map ae),.int .i64 s2,.X (aa.map ae)]),.I (.agg [.int .i64 bK,.X (bh.map ae),.int .i64 bL,.X (br.map ae)])]:=by
 refine cD ?_;simp only[Xm];obtain⟨bJ,bO,eH,eV⟩:=H;unfold jJ
 by_cases Y:di ((s,l),(s2,aa))=true
 ·by_cases a8:di ((bK,bh),(bL,br))=true
  ·have ea:=aue (bK,bh) eH;rw[ad Y,ad a8];dsimp only;generalize jd:hf (bK,bh)=M1 at *;obtain⟨cE,cO⟩:=M1;refine ak ?_;repeat' (intro h<;>simp only[h,go_sem,go_sem_proc,hB,AQ,pN,bJ,bO,eH,eV,Y,a8,jd,ea,dZ,ck,cG,ar]<;>try refine ai ?_ ?_)
  ·have a8:di ((bK,bh),(bL,br))=false:=by simpa using a8
   rw[ad Y,ag (by simp[a8])];refine ak ?_;repeat' (intro h<;>simp only[h,go_sem,go_sem_proc,hB,AQ,pN,bJ,bO,eH,eV,Y,a8,cG,ar,dD,cC]<;>try refine ai ?_ ?_)
 ·have Y:di ((s,l),(s2,aa))=false:=by simpa using Y
  rw[ag (by simp[Y])];refine ak ?_;repeat' (intro h<;>simp only[h,go_sem,go_sem_proc,hB,AQ,pN,bJ,bO,eH,eV,Y,cG,ar,dD,cC]<;>try refine ai ?_ ?_)
def y3:=cn tg λ(s,l,s2,aa,bK,bh,bL,br)=>cN (D l<=1000000/\D aa<=1000000/\D bh<=1000000/\D br<=1000000) (.same (cG (hA ((s,l),(s2,aa)) ((bK,bh),(bL,br)))))
@[go_sem] theorem aui (s:Int)(l:List Int)(s2:Int)(aa:List Int)(bK:Int)(bh:List Int)(bL:Int)(br:List Int)(H:(D l)<=1000000/\D aa<=1000000/\D bh<=1000000/\D br<=1000000):y3 [.agg [.int .i64 s,.X (l.map ae),.int .i64 s2,.X (aa.map ae)],.agg [.int .i64 bK,.X (bh.map ae),.int .i64 bL,.X (br.map ae)]]=some (.same (cG (hA ((s,l),(s2,aa)) ((bK,bh),(bL,br))))):=(cz vU (s,l,s2,aa,bK,bh,bL,br)).trans (cX H _)
theorem auj (T:bl)(hB:T lT=aQ vS)(re:T vC=aQ HP)(vV:T Em=aQ LJ)(s:Int)(l:List Int)(s2:Int)(aa:List Int)(bK:Int)(bh:List Int)(bL:Int)(br:List Int)(H:(D l)<=1000000/\D aa<=1000000/\D bh<=1000000/\D br<=1000000):WP T Xn (.same (cG (hA ((s,l),(s2,aa)) ((bK,bh),(bL,br))))) [.I (.agg [.int .i64 s,.X (l.map ae),.int .i64 s2,.X (aa.map ae)]),.I (.agg [.int .i64 bK,.X (bh.map ae),.int .i64 bL,.X (br.map ae)])]:=by
 refine cD ?_;simp only[Xn];obtain⟨bJ,bO,eH,eV⟩:=H;unfold hA
 by_cases Y:di ((s,l),(s2,aa))=true
 ·by_cases a8:di ((bK,bh),(bL,br))=true
  ·have ea:=qp (s,l) (bK,bh);have b7:=qp (s2,aa) (bL,br);rw[ad Y,ad a8];dsimp only;generalize jd:mulR (s,l) (bK,bh)=M1 at *;generalize fp:mulR (s2,aa) (bL,br)=M2 at *;obtain⟨⟨cE,cO⟩,av⟩:=M1;obtain⟨⟨c0,ee⟩,aB⟩:=M2;refine ak ?_;repeat' (intro h<;>simp only[h,go_sem,go_sem_proc,hB,re,vV,bJ,bO,eH,eV,Y,a8,jd,fp,ea,b7,dZ,ck,cG,ar]<;>try refine ai ?_ ?_)
  ·have a8:di ((bK,bh),(bL,br))=false:=by simpa using a8
   rw[ad Y,ag (by simp[a8])];refine ak ?_;repeat' (intro h<;>simp only[h,go_sem,go_sem_proc,hB,re,vV,bJ,bO,eH,eV,Y,a8,cG,ar,dD,cC]<;>try refine ai ?_ ?_)
 ·have Y:di ((s,l),(s2,aa))=false:=by simpa using Y
  rw[ag (by simp[Y])];refine ak ?_;repeat' (intro h<;>simp only[h,go_sem,go_sem_proc,hB,re,vV,bJ,bO,eH,eV,Y,cG,ar,dD,cC]<;>try refine ai ?_ ?_)
def E1:=cn tg λ(s,l,s2,aa,bK,bh,bL,br)=>cN (D l<=1000000/\D aa<=1000000/\D bh<=1000000/\D br<=1000000) (.same (cG (fE ((s,l),(s2,aa)) ((bK,bh),(bL,br)))))
@[go_sem] theorem auk (s:Int)(l:List Int)(s2:Int)(aa:List Int)(bK:Int)(bh:List Int)(bL:Int)(br:List Int)(H:(D l)<=1000000/\D aa<=1000000/\D bh<=1000000/\D br<=1000000):E1 [.agg [.int .i64 s,.X (l.map ae),.int .i64 s2,.X (aa.map ae)],.agg [.int .i64 bK,.X (bh.map ae),.int .i64 bL,.X (br.map ae)]]=some (.same (cG (fE ((s,l),(s2,aa)) ((bK,bh),(bL,br))))):=(cz vU (s,l,s2,aa,bK,bh,bL,br)).trans (cX H _)
theorem aul (T:bl)(hB:T lT=aQ vS)(re:T vC=aQ HP)(vV:T Em=aQ LJ)(s:Int)(l:List Int)(s2:Int)(aa:List Int)(bK:Int)(bh:List Int)(bL:Int)(br:List Int)(H:(D l)<=1000000/\D aa<=1000000/\D bh<=1000000/\D br<=1000000):WP T Xt (.same (cG (fE ((s,l),(s2,aa)) ((bK,bh),(bL,br))))) [.I (.agg [.int .i64 s,.X (l.map ae),.int .i64 s2,.X (aa.map ae)]),.I (.agg [.int .i64 bK,.X (bh.map ae),.int .i64 bL,.X (br.map ae)])]:=by
 refine cD ?_;simp only[Xt];obtain⟨bJ,bO,eH,eV⟩:=H;unfold fE
 by_cases Y:di ((s,l),(s2,aa))=true
 ·by_cases a8:di ((bK,bh),(bL,br))=true
  ·rw[ad Y,ad a8];dsimp only;rcases ax:(bK==0)
   ·have ea:=qp (s,l) (bL,br);have b7:=qp (s2,aa) (bK,bh);rw[ag (by simp)];generalize jd:mulR (s,l) (bL,br)=M1 at *;generalize fp:mulR (s2,aa) (bK,bh)=M2 at *;obtain⟨⟨cE,cO⟩,av⟩:=M1;obtain⟨⟨c0,ee⟩,aB⟩:=M2;refine ak ?_;repeat' (intro h<;>simp only[h,go_sem,go_sem_proc,hB,re,vV,bJ,bO,eH,eV,Y,a8,ax,jd,fp,ea,b7,dZ,ck,cG,ar]<;>try refine ai ?_ ?_)
   ·rw[ad rfl];refine ak ?_;repeat' (intro h<;>simp only[h,go_sem,go_sem_proc,hB,re,vV,bJ,bO,eH,eV,Y,a8,ax,cG,ar,dD,cC]<;>try refine ai ?_ ?_)
  ·have a8:di ((bK,bh),(bL,br))=false:=by simpa using a8
   rw[ad Y,ag (by simp[a8])];refine ak ?_;repeat' (intro h<;>simp only[h,go_sem,go_sem_proc,hB,re,vV,bJ,bO,eH,eV,Y,a8,cG,ar,dD,cC]<;>try refine ai ?_ ?_)
 ·have Y:di ((s,l),(s2,aa))=false:=by simpa using Y
  rw[ag (by simp[Y])];refine ak ?_;repeat' (intro h<;>simp only[h,go_sem,go_sem_proc,hB,re,vV,bJ,bO,eH,eV,Y,cG,ar,dD,cC]<;>try refine ai ?_ ?_)
def uG (c:Bool)(v:Rat):a7×Int:=if c=true then (al v,0) else (dD,6)
def hr (z:Int):Bool:=decide (z.natAbs<dQ)
def l0 (x y:Rat):Bool:=hr (x.num*y.den)&&(hr (y.num*x.den)&&(hr (x.num*y.den+y.num*x.den)&&hr ((x.den:Int)*y.den)))
def y4 (x y:Rat):Bool:=hr (x.num*y.num)&&hr ((x.den:Int)*y.den)
def vW (x y:Rat):Bool:=hr (x.num*y.den)&&hr ((x.den:Int)*y.num)
theorem vX {z:Int}(h:hr z=true):o1 z=(bf z,0):=ad (by simpa [hr] using h)
theorem AU {z:Int}(h:hr z=false):o1 z=((0,[]),6):=ag (by simpa [hr] using h)
theorem oD {z:Int}(h:hr z=true):z.natAbs<dQ:=by simpa [hr] using h
theorem aum {a b c d:Int}(aW:a.natAbs<dQ)(ah:b.natAbs<dQ)(H:c.natAbs<dQ)(ab:d.natAbs<dQ):
  vT (bf a) (bf b) (bf c) (bf d)=if (hr (a*b)&&(hr (c*d)&&hr (a*b+c*d)))=true then (bf (a*b+c*d),0) else ((0,[]),6):=by
 unfold vT;rw[uA aW ah,uA H ab];rcases G:hr (a*b)
 ·rw[AU G];rfl
 ·rw[vX G];rcases J:hr (c*d)
  ·rw[AU J];rfl
  ·rw[vX J];show ky (bf (a*b)) (bf (c*d))=_;rw[Lz (oD G) (oD J)];rcases af:hr (a*b+c*d)
   ·rw[AU af];rfl
   ·rw[vX af];rfl
theorem XG (x y:Rat):lZ (x.num*y.den+y.num*x.den) ((x.den:Int)*y.den)=x+y:=by
 rw[<-Rat.divInt_add_divInt _ _ (by have:=den_pos x;omega) (by have:=den_pos y;omega),EY,EY]
theorem XH (x y:Rat):lZ (x.num*y.num) ((x.den:Int)*y.den)=x*y:=by
 rw[<-ahP,EY,EY]
theorem XI (x y:Rat):lZ (x.num*y.den) ((x.den:Int)*y.num)=x/y:=by
 rw[<-ahP,EY,<-Rat.inv_divInt,EY]
 rfl
theorem xt (x:Rat):(x.den:Int)≠0:=by have:=den_pos x;omega
theorem Qe {x y:Rat}(M:dx x)(aj:dx y):oC (al x) (al y)=uG (l0 x y) (x+y):=by
 unfold oC;rw[ad (xr M),ad (xr aj)];show sc (vT (bf x.num) (bf y.den) (bf y.num) (bf x.den)) (mulR (bf x.den) (bf y.den))=_;rw[aum M.1 (pL aj) aj.1 (pL M),uA (pL M) (pL aj)];unfold l0;rcases G:hr (x.num*y.den)
 ·rfl
 ·rcases J:hr (y.num*x.den)
  ·rfl
  ·rcases af:hr (x.num*y.den+y.num*x.den)
   ·rfl
   ·rcases aT:hr ((x.den:Int)*y.den)
    ·rw[AU aT];rfl
    ·rw[vX aT];show gH (bf (x.num*y.den+y.num*x.den)) (bf ((x.den:Int)*y.den))=(al (x+y),0)
     rw[AP (oD af) (oD aT) (y5 (xt x) (xt y)),XG]
theorem ahQ {x:Rat}(h:dx x):dx (-x):=⟨by rw[Rat.neg_num];have:=h.1;omega,by rw[Rat.neg_den];exact h.2⟩
theorem LK {x y:Rat}(M:dx x)(aj:dx y):jJ (al x) (al y)=uG (l0 x (-y)) (x-y):=by
 unfold jJ;rw[ad (xr M),ad (xr aj)]
 have:(hf (al y).1,(al y).2)=al (-y):=by
  unfold al;have:hf (bf y.num)=bf (-y.num):=by unfold hf;rw[ad (kx aj.1),e8]
  dsimp only;rw[this];rfl
 rw[this,Qe M (ahQ aj),CM]
theorem Qf {x y:Rat}(M:dx x)(aj:dx y):hA (al x) (al y)=uG (y4 x y) (x*y):=by
 unfold hA;rw[ad (xr M),ad (xr aj)];show sc (mulR (bf x.num) (bf y.num)) (mulR (bf x.den) (bf y.den))=_;rw[uA M.1 aj.1,uA (pL M) (pL aj)];unfold y4;rcases G:hr (x.num*y.num)
 ·rw[AU G];rfl
 ·rw[vX G];rcases aT:hr ((x.den:Int)*y.den)
  ·rw[AU aT];rfl
  ·rw[vX aT];show gH (bf (x.num*y.num)) (bf ((x.den:Int)*y.den))=(al (x*y),0)
   rw[AP (oD G) (oD aT) (y5 (xt x) (xt y)),XH]
theorem LL {x y:Rat}(M:dx x)(aj:dx y)(ax:y≠0):fE (al x) (al y)=uG (vW x y) (x/y):=by
 unfold fE;rw[ad (xr M),ad (xr aj)];have aM:y.num≠0:=λh=>ax (Rat.num_eq_zero.1 h)
 have:((al y).1.1==0)=false:=by
  show (y.num.sign==0)=false
  simpa using aM
 rw[this,ag (by simp)];show sc (mulR (bf x.num) (bf y.den)) (mulR (bf x.den) (bf y.num))=_;rw[uA M.1 (pL aj),uA (pL M) aj.1];unfold vW;rcases G:hr (x.num*y.den)
 ·rw[AU G];rfl
 ·rw[vX G];rcases aT:hr ((x.den:Int)*y.num)
  ·rw[AU aT];rfl
  ·rw[vX aT];show gH (bf (x.num*y.den)) (bf ((x.den:Int)*y.num))=(al (x/y),0)
   rw[AP (oD G) (oD aT) (y5 (xt x) aM),XI]
theorem aun {x y:Rat}(h:l0 x y=true):dx (x+y):=by
 unfold l0 at h;simp only[fw] at h;rw[<-XG];exact Qc (oD h.2.2.1) (oD h.2.2.2)
theorem ahR {x y:Rat}(h:l0 x (-y)=true):dx (x-y):=by rw[CM];exact aun h
theorem ahS {x y:Rat}(h:y4 x y=true):dx (x*y):=by
 unfold y4 at h;simp only[fw] at h;rw[<-XH];exact Qc (oD h.1) (oD h.2)
theorem auo {x y:Rat}(h:vW x y=true):dx (x/y):=by
 unfold vW at h;simp only[fw] at h;rw[<-XI];exact Qc (oD h.1) (oD h.2)
def jV (x y:Rat):Int:=(x.num*y.den-y.num*x.den).sign
def k7 (a b:a7):Int:=if di a=true then (if di b=true then (g6 a.1*g6 b.2-g6 b.1*g6 a.2).sign else 0) else 0
theorem LM {x y:Rat}(M:dx x)(aj:dx y):k7 (al x) (al y)=jV x y:=by
 unfold k7;rw[ad (xr M),ad (xr aj)];unfold al jV;rw[e8,e8,e8,e8]
theorem ahT {x y:Rat}:jV x y=0↔x=y:=by
 unfold jV;rw[ahU,Rat.eq_iff_mul_eq_mul];omega
theorem Qg {p q:Int}(bF:0<q):0<=p.fmod q/\p.fmod q<q:=⟨Int.fmod_nonneg_of_pos _ bF,Int.fmod_lt_of_pos _ bF⟩
theorem ahV {p q r s:Int}(bF:0<q)(U:0<s)(h:p.fdiv q<r.fdiv s):p*s-r*q<0:=by
 have av:=Qh p q;have aB:=Qh r s;have c0:=Qg (p:=p) bF;have ee:=Qg (p:=r) U;generalize p.fdiv q=x at *;generalize r.fdiv s=y at *;generalize p.fmod q=u at *;generalize r.fmod s=v at *;subst av aB;have G:q*s*(x+1)<=q*s*y:=Int.mul_le_mul_of_nonneg_left (by omega) (P7 (Int.mul_pos bF U));have J:u*s<q*s:=Int.mul_lt_mul_of_pos_right c0.2 U;have af:0<=v*q:=uq ee.1 (by omega);have bp:(q*x+u)*s-(s*y+v)*q=q*s*(x+1)-q*s*y+(u*s-q*s)-v*q:=by grind
 omega
theorem aup {p q r s:Int}(h:p.fdiv q=r.fdiv s):p*s-r*q=p.fmod q*s-r.fmod s*q:=by
 have av:=Qh p q;have aB:=Qh r s;rw[h] at av;generalize r.fdiv s=y at *;generalize p.fmod q=u at *;generalize r.fmod s=v at *;subst av aB;grind
theorem ahW (a b:Int):(a-b).sign = -(b-a).sign:=by rw[<-EN];congr 1;omega
theorem ahX {p q:Int}(aF:p.natAbs<dQ)(bF:q.natAbs<dQ)(ax:0<q):
  k3 (p.sign,aP p.natAbs) (q.sign,aP q.natAbs)=(((p.fdiv q).sign,aP (p.fdiv q).natAbs),((p.fmod q).sign,aP (p.fmod q).natAbs),0):=AH aF bF (by omega)
def vY:=cn tg λ(s,l,s2,aa,bK,bh,bL,br)=>cN (D l<=1000000/\D aa<=1000000/\D bh<=1000000/\D br<=1000000) (.same (.int .i64 (k7 ((s,l),(s2,aa)) ((bK,bh),(bL,br)))))
@[go_sem] theorem ahY (s:Int)(l:List Int)(s2:Int)(aa:List Int)(bK:Int)(bh:List Int)(bL:Int)(br:List Int)(H:(D l)<=1000000/\D aa<=1000000/\D bh<=1000000/\D br<=1000000):vY [.agg [.int .i64 s,.X (l.map ae),.int .i64 s2,.X (aa.map ae)],.agg [.int .i64 bK,.X (bh.map ae),.int .i64 bL,.X (br.map ae)]]=some (.same (.int .i64 (k7 ((s,l),(s2,aa)) ((bK,bh),(bL,br))))):=(cz vU (s,l,s2,aa,bK,bh,bL,br)).trans (cX H _)
theorem auq (T:bl)(hB:T lT=aQ vS)(uD:T En=aQ P6)(E2:T U7=aQ W5)(s:Int)(l:List Int)(s2:Int)(aa:List Int)(bK:Int)(bh:List Int)(bL:Int)(br:List Int)(H:(D l)<=1000000/\D aa<=1000000/\D bh<=1000000/\D br<=1000000):WP T Xo (.same (.int .i64 (k7 ((s,l),(s2,aa)) ((bK,bh),(bL,br))))) [.I (.agg [.int .i64 s,.X (l.map ae),.int .i64 s2,.X (aa.map ae)]),.I (.agg [.int .i64 bK,.X (bh.map ae),.int .i64 bL,.X (br.map ae)])]:=by
 refine cD ?_;simp only[Xo];obtain⟨bJ,bO,eH,eV⟩:=H
 by_cases Y:di ((s,l),(s2,aa))=true
 ·by_cases a8:di ((bK,bh),(bL,br))=true
  ·obtain⟨x,M,e⟩:=(AM _).1 Y;obtain⟨y,aj,aB⟩:=(AM _).1 a8;have hm:k7 ((s,l),(s2,aa)) ((bK,bh),(bL,br))=jV x y:=by rw[e,aB,LM M aj]
   rw[hm];clear hm;have E3:(s,l)=bf x.num:=congrArg oB e;have aur:(s2,aa)=bf x.den:=congrArg Prod.snd e;have aus:(bK,bh)=bf y.num:=congrArg oB aB;have aut:(bL,br)=bf y.den:=congrArg Prod.snd aB;clear e aB;have HX:=pL M;have AV:=pL aj;have qq:=den_pos x;have jo:=den_pos y;have auu:=M.1;have Ue:=aj.1;unfold jV;generalize x.num=P at *;generalize (x.den:Int)=aZ at *;generalize y.num=bU at *;generalize (y.den:Int)=S at *
   cases E3
   cases aur
   cases aus
   cases aut;simp only[go_sem,go_sem_proc,hB,bJ,bO,eH,eV,Y,a8];refine cU [5,6,7,8] [135002,135003] (λ((th,p,q,r,t):Int×Int×Int×Int×Int) tm mem=>(th=1\/th = -1)/\0<q/\0<t/\p.natAbs<dQ/\q.natAbs<dQ/\r.natAbs<dQ/\t.natAbs<dQ/\(P*S-bU*aZ).sign=th*(p*t-r*q).sign/\tm 9=.I (.int .i64 th)/\mem 135005=some (0,[.I (.int .i64 p.sign),.I (.X ((aP p.natAbs).map ae))])/\mem 135006=some (0,[.I (.int .i64 q.sign),.I (.X ((aP q.natAbs).map ae))])/\mem 135007=some (0,[.I (.int .i64 r.sign),.I (.X ((aP r.natAbs).map ae))])/\mem 135008=some (0,[.I (.int .i64 t.sign),.I (.X ((aP t.natAbs).map ae))])) (λ(_,_,q,_,_)=>q.natAbs) (1,P,aZ,bU,S) (by refine⟨.inl rfl,qq,jo,auu,HX,Ue,AV,by rw[ql],rfl,?_,?_,?_,?_⟩<;>rfl) ?_;intro vs ms aJ aH;simp only[go_sem,go_sem_proc] at aJ aH;subst aJ aH;rintro⟨th,p,q,r,t⟩ tm mem L hm ⟨vZ,mX,LN,aF,bF,jr,ca,iL,eK,AW,gV,lC,sd⟩;simp only[go_sem,go_sem_proc,bk] at L hm;obtain⟨bx,b0,bV,cu⟩:=L;have LO:=jI aF;have LP:=jI bF;have xu:=jI jr;have lt:=jI ca;have kt:=ahX aF bF mX;have lX:=ahX jr ca LN;have ahZ:=HU (y:=q) aF (by omega);have LQ:=HU (y:=t) jr (by omega);have AX:=jI ahZ;have CN:=jI LQ;have fs:oA ((p.fdiv q).sign,aP (p.fdiv q).natAbs) ((r.fdiv t).sign,aP (r.fdiv t).natAbs)=gl (p.fdiv q) (r.fdiv t):=LB ahZ LQ;have aKk:=Qg (p:=p) mX;have bv:=Qg (p:=r) LN;have auv:IntKind.i64.wrap (0-th) = -th:=by rcases vZ with rfl|rfl<;>rfl
   rcases uv (p.fdiv q) (r.fdiv t) with az|heq|hL
   ·have aD:=ahV mX LN az;rw[AG az] at fs;rw[iL,nk aD];have hw:IntKind.i64.wrap (th * -1)=th * -1:=by rcases vZ with rfl|rfl<;>rfl
    refine ak ?_;repeat' (intro h<;>simp only[h,go_sem,go_sem_proc,hB,uD,E2,bx,b0,bV,cu,eK,hm,AW,gV,lC,sd,LO,LP,xu,lt,AX,CN,kt,lX,fs,hw,jH,ck,show ((-1:Int)==0)=false from rfl]<;>try refine ai ?_ ?_)
   ·have aD:=aup heq;rw[heq,HS] at fs
    have hz:∀a:Int,-1<=a->a<=1->IntKind.i64.wrap (th*a)=th*a:=by
     intro a G J;rcases vZ with rfl|rfl<;>exact wrap64 _ (by omega) (by omega)
    rw[heq] at kt AX;have aKl:(p.fmod q).natAbs<dQ:=by omega
    have aKm:(r.fmod t).natAbs<dQ:=by omega
    rw[aD] at iL;generalize p.fmod q=u at *;generalize r.fmod t=v at *
    by_cases hu:u=0
    ·subst hu
     have U:(0*t-v*q).sign=(0:Int).sign-v.sign:=by
      rw[y1,ah0,EN,oz,g7 mX,r3,y6,ah0]
     rw[U] at iL;rw[iL];have af:=nO v;have CD:IntKind.i64.wrap ((0:Int).sign-v.sign)=(0:Int).sign-v.sign:=wrap64 _ (by rw[y6];omega) (by rw[y6];omega);have hw:=hz ((0:Int).sign-v.sign) (by rw[y6];omega) (by rw[y6];omega);refine ak ?_;repeat' (intro h<;>simp only[h,go_sem,go_sem_proc,hB,uD,E2,bx,b0,bV,cu,eK,hm,AW,gV,lC,sd,LO,LP,xu,lt,AX,CN,kt,lX,fs,hw,CD,jH,ck,show ((0:Int)==0)=true from rfl,show ((0:Int).sign==0)=true from rfl]<;>try refine ai ?_ ?_)
    ·have EV:0<u:=by omega
     have XJ:(u.sign==0)=false:=by simpa using hu
     by_cases GV:v=0
     ·subst GV
      have U:(u*t-0*q).sign=u.sign-(0:Int).sign:=by
       rw[y1,Cv,oz,g7 LN,r3,y6,Cv]
      rw[U] at iL;rw[iL];have af:=nO u;have CD:IntKind.i64.wrap (u.sign-(0:Int).sign)=u.sign-(0:Int).sign:=wrap64 _ (by rw[y6];omega) (by rw[y6];omega);have hw:=hz (u.sign-(0:Int).sign) (by rw[y6];omega) (by rw[y6];omega);refine ak ?_;repeat' (intro h<;>simp only[h,go_sem,go_sem_proc,hB,uD,E2,bx,b0,bV,cu,eK,hm,AW,gV,lC,sd,LO,LP,xu,lt,AX,CN,kt,lX,fs,hw,CD,XJ,jH,ck,show ((0:Int)==0)=true from rfl,show ((0:Int).sign==0)=true from rfl]<;>try refine ai ?_ ?_)
     ·have rR:(v.sign==0)=false:=by simpa using GV
      refine ak ?_;repeat' (intro h<;>simp only[h,go_sem,go_sem_proc,hB,uD,E2,bx,b0,bV,cu,eK,hm,AW,gV,lC,sd,LO,LP,xu,lt,AX,CN,kt,lX,fs,XJ,rR,auv,jH,ck,show ((0:Int)==0)=true from rfl]<;>try refine ai ?_ ?_)
      refine⟨(-th,q,u,t,v),by dsimp only;omega,by dsimp only;omega,by dsimp only;omega,by dsimp only;omega,by dsimp only;omega,by dsimp only;omega,by dsimp only;omega,by dsimp only;omega,?_,by simp[go_sem],by simp[go_sem],by simp[go_sem],by simp[go_sem],by simp[go_sem]⟩
      dsimp only;rw[iL,ahW (q*v) (t*u),Int.neg_mul_neg,nG t u,nG q v]
   ·have aD:=ahV LN mX hL;rw[EP hL] at fs;rw[iL,ahW,nk aD];have hw:IntKind.i64.wrap (th*1)=th * -(-1):=by rcases vZ with rfl|rfl<;>rfl
    refine ak ?_;repeat' (intro h<;>simp only[h,go_sem,go_sem_proc,hB,uD,E2,bx,b0,bV,cu,eK,hm,AW,gV,lC,sd,LO,LP,xu,lt,AX,CN,kt,lX,fs,hw,jH,ck,show ((1:Int)==0)=false from rfl]<;>try refine ai ?_ ?_)
  ·have a8:di ((bK,bh),(bL,br))=false:=by simpa using a8
   have hm:k7 ((s,l),(s2,aa)) ((bK,bh),(bL,br))=0:=by unfold k7;rw[ad Y,ag (by simp[a8])]
   rw[hm];refine ak ?_;repeat' (intro h<;>simp only[h,go_sem,go_sem_proc,hB,uD,E2,bJ,bO,eH,eV,Y,a8]<;>try refine ai ?_ ?_)
 ·have Y:di ((s,l),(s2,aa))=false:=by simpa using Y
  have hm:k7 ((s,l),(s2,aa)) ((bK,bh),(bL,br))=0:=by unfold k7;rw[ag (by simp[Y])]
  rw[hm];refine ak ?_;repeat' (intro h<;>simp only[h,go_sem,go_sem_proc,hB,uD,E2,bJ,bO,eH,eV,Y]<;>try refine ai ?_ ?_)
def XK:bZ:=cj 22 2 [.t 4] (O [dq 3 108003 1,cq 4 false] (.seq (O [aL 6 1 3,a6 7 .lss 6 0,F 8 7,⟨some 9,some (8,false),.load 1 false (.t 3)⟩,⟨some 10,some (8,false),.bin .gtr (.t 9) (.c (Z 40))⟩,cR 11 8 10,F 12 11,⟨some 13,some (12,false),.bT (.t 0)⟩,⟨some 14,some (12,false),.len (.t 13)⟩,⟨some 15,some (12,false),.load 1 false (.t 3)⟩,⟨some 16,some (12,false),.bin .neq (.t 14) (.t 15)⟩,cR 17 12 16] (aS 17 (O [cq 4 false] .ret) .skip)) (O [(au 5 (.alloc 108005 [(.I .wP)])),⟨none,none,.store 1 (.t 5) (.c (.gK nH []))⟩] (O [F 18 0,(au 19 (.wQ Cl [(.t 3),(.t 5)])),(bW 20 UY 18 19),ff 21 20,F 4 21] .ret))))
def XL:bZ:=cj 48 2 [.t 4,.t 5] (O [eu 4,bg 5 0] (.seq (O [F 11 0,F 12 1,(bW 13 UT 11 12),ff 14 13] (aS 14 (O [eu 4,bg 5 1] .ret) .skip)) (O [F 16 0,F 17 1,(au 18 (.call UZ [(.t 16),(.t 17),(.c (.I (.bool true)))])),F 15 18,ba 19 0 15,ba 20 1 15,F 6 19,F 7 20] (.seq (.block 0 (O [F 22 6,eY 23 22,aO 24 2 23,aL 25 1 24,F 21 25] (aS 21 (O [eu 4,bg 5 6] .ret) (O [F 27 7,cb 28 27,a6 29 .gtr 28 0,F 26 29] (aS 26 (O [eu 4,bg 5 17] .ret) .skip))))) (O [eu 8] (.seq (O [F 30 6,eY 31 30,aO 32 0 31,aL 33 1 32,cb 34 33,bg 35 0] (.block 1 (.ghost (.mM 8 109045 4) (.loop  (O [bt 36 .lss 35 34] (.seq (aS 36 .skip (.exit 1)) (.seq (.block 2 (O [bB 37 1 33 35,aL 38 1 37,F 10 38] (.ops [F 39 8,F 40 10,F 41 1,bB 42 4 40 41,aU 43 4 42,(au 44 (.dU 109044 false [(Z 0),.nil,(Z 0),.nil] 4 1 [(0,4,(.t 43))])),(au 45 (.app 109045 [(Z 0),.nil,(Z 0),.nil] 64 (.t 39) (.t 44))),F 8 45]))) (.ops [a6 46 .add 35 1,F 35 46])))))))) (O [F 47 8,F 4 47,bg 5 0] .ret)))))))
def XM:bZ:=cj 6 1 [.t 2] (O [dq 1 125001 0,cq 2 false] (O [aU 3 4 1,(dM 4 lT 3),ff 5 4,F 2 5] .ret))
def XN:bZ:=cj 22 3 [.t 4] (O [dq 3 127003 0,cq 4 false] (O [aO 5 0 3,aL 6 1 5,cb 7 6,aL 8 1 1,bt 9 .neq 7 8,F 10 9,⟨some 11,some (10,false),.load 1 false (.t 2)⟩,⟨some 12,some (10,false),.dt 1 (.t 3)⟩,⟨some 13,some (10,false),.load 4 true (.t 12)⟩,⟨some 14,some (10,false),.mK (.t 11) [(.t 13)]⟩,cR 15 10 14,F 16 15,⟨some 17,some (16,false),.dt 0 (.t 3)⟩,⟨some 18,some (16,false),.load 1 false (.t 17)⟩,⟨some 19,some (16,false),.load 1 false (.t 2)⟩,⟨some 20,some (16,false),.call KQ [(.t 18),(.t 19)]⟩,cR 21 16 20,F 4 21] .ret))
def LR:bZ:=cj 65 3 [.t 6,.t 7] (O [(au 6 (.bT (.c (.I .vi)))),eu 7] (O [F 13 1,(au 14 (.build [.nil,(Z 0),(.I (.bool false))] [(1,1,(.t 13))])),dq 15 129015 14,F 8 15] (.seq (O [F 16 0,cb 17 16,bg 18 0] (.block 0 (.loop  (O [bt 19 .lss 18 17] (.seq (aS 19 .skip (.exit 0)) (.seq (.block 1 (O [bB 20 5 16 18,aU 21 5 20,(au 10 (.alloc 129010 [.nil,(Z 0),.nil,(Z 0),.nil])),aX 5 10 21] (.mN [F 22 8,F 23 8,eY 24 23,aO 25 0 24,aL 26 1 25,aO 27 0 10,aL 28 1 27,(au 29 (.oO 129029 4 Pm [(.t 28)])),aO 30 1 10,aU 31 4 30,(au 32 (.dU 129032 false [(Z 0),.nil,(Z 0),.nil] 4 1 [(0,4,(.t 31))])),(au 33 (.app 129033 [(Z 0),.nil,(Z 0),.nil] 64 (.t 29) (.t 32))),(au 34 (.dU 129034 true [.nil] 1 1 [(0,1,(.t 33))])),(au 35 (.app 129035 [.nil] 24 (.t 26) (.t 34))),eY 36 22,aO 37 0 36,aX 1 37 35] [[],[],[],[],[],[],[],[4],[],[7],[],[4],[4],[],[],[],[]]))) (.ghost (.move) (.ops [a6 38 .add 18 1,F 18 38])))))))) (O [eu 11] (.seq (O [bg 12 0] (.block 2 (.ghost (.mM 11 129061 1) (.loop  (.seq (O [F 39 12,F 40 1,bt 41 .lss 39 40,F 42 41,⟨some 43,some (42,true),.bT (.t 8)⟩,⟨some 44,some (42,true),.nv (.t 43)⟩,⟨some 45,some (42,true),.dt 2 (.t 44)⟩,⟨some 46,some (42,true),.load 1 false (.t 45)⟩,⟨some 47,some (42,true),.un .not (.t 46)⟩,gN 48 42 47] (aS 48 .skip (.exit 2))) (.seq (.block 3 (O [F 51 8,F 52 12,F 53 11,cb 54 53,bt 55 .sub 52 54,F 56 12,(qf 57 U5 51 55 56)] (aS 57 (O [F 58 11,F 59 12,(au 60 (.dU 129060 false [(Z 0)] 1 1 [(0,1,(.t 59))])),(au 61 (.app 129061 [(Z 0)] 8 (.t 58) (.t 60))),F 11 61] (O [F 62 2] (aS 62 (.exit 2) .skip))) .skip))) (.ops [F 49 12,a6 50 .add 49 1,F 12 50]))))))) (O [F 63 8,F 64 11,F 6 63,F 7 64] .ret))))))
def y7:bZ:=cj 172 3 [.t 6] (O [cq 6 false] (O [F 15 1,F 7 15] (.seq (.block 0 (.loop  (.seq (O [F 16 7,F 17 0,eY 18 17,aO 19 1 18,aL 20 1 19,bt 21 .lss 16 20,F 22 21,⟨some 23,some (22,true),.bT (.t 0)⟩,⟨some 24,some (22,true),.nv (.t 23)⟩,⟨some 25,some (22,true),.dt 0 (.t 24)⟩,⟨some 26,some (22,true),.load 1 false (.t 25)⟩,⟨some 27,some (22,true),.bT (.t 7)⟩,⟨some 28,some (22,true),.ht 1 (.t 26) (.t 27)⟩,⟨some 29,some (22,true),.load 1 false (.t 28)⟩,⟨some 30,some (22,true),.bT (.t 2)⟩,⟨some 31,some (22,true),.ht 4 (.t 29) (.t 30)⟩,⟨some 32,some (22,true),.load 4 true (.t 31)⟩,⟨some 33,some (22,true),.call KW [(.t 32)]⟩,gN 34 22 33] (aS 34 .skip (.exit 0))) (.block 1 (.ops [F 35 7,a6 36 .add 35 1,F 7 36]))))) (.seq (O [F 37 7,F 38 0,eY 39 38,aO 40 1 39,aL 41 1 40,bt 42 .eql 37 41] (aS 42 (O [cq 6 true] .ret) .skip)) (eG [F 43 0,eY 44 43,aO 45 0 44,aL 46 1 45,F 47 1,F 48 0,eY 49 48,aO 50 0 49,aL 51 1 50,F 52 7,F 53 0,eY 54 53,aO 55 0 54,aL 56 1 55,F 57 7,bB 58 1 56 57,aL 59 1 58,F 60 0,eY 61 60,aO 62 0 61,aL 63 1 62,F 64 1,bB 65 1 63 64,aL 66 1 65,bB 67 1 46 47,aX 1 67 59,bB 68 1 51 52,aX 1 68 66] ash (O [F 69 0,eY 70 69,aO 71 0 70,aL 72 1 71,F 73 1,bB 74 1 72 73,aL 75 1 74,F 76 2,bB 77 4 75 76,aU 78 4 77,(au 8 (.alloc 148008 [(Z 0),.nil,(Z 0),.nil])),aX 4 8 78] (.seq (O [F 79 0,eY 80 79,aO 81 0 80,aL 82 1 81,F 83 1,bB 84 1 82 83,aL 85 1 84,cb 86 85,bg 87 0] (.block 2 (.loop  (O [bt 88 .lss 87 86] (.seq (aS 88 .skip (.exit 2)) (.seq (.block 3 (O [F 89 87,bB 90 4 85 87,aU 91 4 90,(au 10 (.alloc 148010 [(Z 0),.nil,(Z 0),.nil])),F 9 89,aX 4 10 91] (.mN [F 92 0,eY 93 92,aO 94 0 93,aL 95 1 94,F 96 1,bB 97 1 95 96,aL 98 1 97,F 99 9,F 100 0,aU 101 4 10,aU 102 4 8,(bW 103 Ep 101 102),ba 104 0 103,ba 105 1 103,(au 106 (.mL 2 Cm [(.t 100),(.t 104),(.t 105)])),bB 107 4 98 99,aX 4 107 106] [[],[],[],[],[],[],[],[],[],[],[],[],[],[],[3,6],[],[]]))) (.ops [a6 108 .add 87 1,F 87 108]))))))) (.seq (O [F 109 0,eY 110 109,aO 111 0 110,aL 112 1 111,cb 113 112,bg 114 0] (.block 4 (.loop  (O [bt 115 .lss 114 113] (.seq (aS 115 .skip (.exit 4)) (.seq (.block 5 (O [F 116 114,bB 117 1 112 114,aL 118 1 117,F 11 116,F 12 118] (O [F 119 12,F 120 2,bB 121 4 119 120,aU 122 4 121,(au 13 (.alloc 148013 [(Z 0),.nil,(Z 0),.nil])),aX 4 13 122] (.seq (O [F 123 11,F 124 1,bt 125 .eql 123 124,F 126 125,⟨some 127,some (126,false),.load 4 true (.t 13)⟩,⟨some 128,some (126,false),.call KW [(.t 127)]⟩,cR 129 126 128] (aS 129 (.exit 5) .skip)) (O [bg 14 0] (.block 6 (.loop  (.seq (O [F 130 14,F 131 12,cb 132 131,bt 133 .lss 130 132,F 134 133,⟨some 135,some (134,true),.bT (.t 0)⟩,⟨some 136,some (134,true),.nv (.t 135)⟩,⟨some 137,some (134,true),.dt 2 (.t 136)⟩,⟨some 138,some (134,true),.load 1 false (.t 137)⟩,⟨some 139,some (134,true),.un .not (.t 138)⟩,gN 140 134 139] (aS 140 .skip (.exit 6))) (.seq (.block 7 (.mN [F 143 12,F 144 14,F 145 0,F 146 12,F 147 14,bB 148 4 146 147,aU 149 4 148,F 150 0,aU 151 4 13,F 152 0,eY 153 152,aO 154 0 153,aL 155 1 154,F 156 1,bB 157 1 155 156,aL 158 1 157,F 159 14,bB 160 4 158 159,aU 161 4 160,(bW 162 xa 151 161),ba 163 0 162,ba 164 1 162,(au 165 (.mL 2 Cm [(.t 150),(.t 163),(.t 164)])),(bW 166 yQ 149 165),ba 167 0 166,ba 168 1 166,(au 169 (.mL 2 Cm [(.t 145),(.t 167),(.t 168)])),bB 170 4 143 144,aX 4 170 169] [[],[],[],[],[],[],[],[],[],[],[],[],[],[],[],[],[],[],[],[],[],[],[6],[],[],[],[],[],[]])) (.ops [F 141 14,a6 142 .add 141 1,F 14 142])))))))))) (.ops [a6 171 .add 114 1,F 114 171]))))))) (O [cq 6 false] .ret)))))))))
def XO:bZ:=cj 7 1 [.t 2] (O [dq 1 167001 0,cq 2 false] (O [aO 3 0 1,aO 4 0 3,aL 5 1 4,a6 6 .eql 5 0,F 2 6] .ret))
def Qi:bZ:=cj 19 3 [.cell 6 4 true] (O [dq 4 168004 1,(au 6 (.alloc 168006 [(Z 0),.nil,(Z 0),.nil]))] (O [F 7 0,F 8 0,eY 9 8,aO 10 2 9,aL 11 1 10,F 12 11,⟨some 13,some (12,false),.bT (.t 2)⟩,⟨some 14,some (12,false),.bin .neq (.t 13) (.c (Z 0))⟩,cR 15 12 14,eY 16 7,aO 17 2 16,aX 1 17 15] (O [aU 18 4 4,aX 4 6 18] .ret)))
def E4:bZ:=cj 92 2 [.cell 4 3 true,.t 5] (O [(au 4 (.alloc 217004 [.nil,.nil,.nil])),bg 5 0] (.seq (O [F 15 0,F 16 1,(bW 17 K3 15 16),ff 18 17] (aS 18 (O [(au 19 (.build [.nil,.nil,.nil] [])),aX 3 4 19,bg 5 1] .ret) .skip)) (O [F 20 0,F 21 1,(bW 22 Vm 20 21),F 6 22] (O [(au 7 (.alloc 217007 [.nil,.nil,.nil]))] (.seq (.block 0 (.loop  (.block 1 (O [F 24 6,(dM 25 Pu 24),F 23 25,ba 26 0 23,ba 27 1 23,(au 8 (.alloc 217008 [.nil])),aX 1 8 26,F 9 27] (.seq (O [F 28 9,ff 29 28] (aS 29 (O [(au 30 (.build [.nil,.nil,.nil] [])),aX 3 4 30,bg 5 6] .ret) .skip)) (O [eu 10] (.seq (O [F 31 6,cb 32 31,bg 33 0] (.block 2 (.ghost (.mM 10 217057 1) (.loop  (O [bt 34 .lss 33 32] (.seq (aS 34 .skip (.exit 2)) (.seq (.block 3 (O [F 35 33,bB 36 1 31 33,aL 37 1 36,(au 11 (.alloc 217011 [(Z 0)])),aX 1 11 35,F 12 37] (.seq (eG [aL 38 1 8,aL 39 1 11,bB 40 4 38 39,aU 41 4 40,F 42 12,F 43 12,eY 44 43,aO 45 22 44,aL 46 1 45,eY 47 42,aO 48 11 47,(au 49 (.pt 11 1 (.t 48) (.t 46))),aL 50 1 49,(dM 51 ou 50),(bW 52 pF 41 51),a6 53 .geq 52 0] Ht (aS 53 (.exit 3) .skip)) (O [F 54 10,aL 55 1 11,(au 56 (.dU 217056 false [(Z 0)] 1 1 [(0,1,(.t 55))])),(au 57 (.app 217057 [(Z 0)] 8 (.t 54) (.t 56))),F 10 57] (.ops [F 58 12,F 59 12,eY 60 59,aO 61 11 60,(au 62 (.tQ 11 1 (.t 61) (some (.c (Z 1))) none none)),(au 63 (.wQ K4 [(.t 8),(.t 11)])),(bW 64 Ev 62 63),eY 65 58,aO 66 22 65,aX 1 66 64]))))) (.ops [a6 67 .add 33 1,F 33 67])))))))) (.seq (O [F 68 10,cb 69 68,a6 70 .eql 69 0] (aS 70 (O [aL 71 1 8,aO 72 0 7,aX 1 72 71] (.exit 0)) .skip)) (.ghost (.freeze 10) (.ops [aO 73 2 7,aL 74 1 73,F 75 10,(au 76 (.dU 217076 false [.nil] 1 1 [(0,1,(.t 75))])),(au 77 (.app 217077 [.nil] 24 (.t 74) (.t 76))),aO 78 2 7,aX 1 78 77])))))))))) (.seq (.ghost (.many) (.ops [F 80 1,aO 81 0 7,aL 82 1 81,(bW 83 K5 80 82),F 79 83,ba 84 0 79,ba 85 1 79,F 13 84,F 14 85])) (.seq (O [F 86 14,ff 87 86] (aS 87 (O [(au 88 (.build [.nil,.nil,.nil] [])),aX 3 4 88,bg 5 6] .ret) .skip)) (O [F 89 13,aO 90 1 7,aX 1 90 89] (O [aU 91 3 7,aX 3 4 91,bg 5 0] .ret)))))))))
def XP:bZ:=cj 87 3 [.t 6] (O [cq 6 false] (O [(au 7 (.bT (.c (.gK mn []))))] (.seq (O [F 17 0,F 18 1,(bW 19 K3 17 18),ff 20 19,F 21 20,⟨some 22,some (21,false),.bT (.t 2)⟩,⟨some 23,some (21,false),.len (.t 22)⟩,⟨some 24,some (21,false),.bT (.t 0)⟩,⟨some 25,some (21,false),.len (.t 24)⟩,⟨some 26,some (21,false),.bin .neq (.t 23) (.t 25)⟩,cR 27 21 26,F 28 27,⟨some 29,some (28,false),.bT (.t 2)⟩,⟨some 30,some (28,false),.bT (.t 7)⟩,⟨some 31,some (28,false),.call KQ [(.t 29),(.t 30)]⟩,cR 32 28 31] (aS 32 (O [cq 6 false] .ret) .skip)) (O [F 34 1,F 35 2,(bW 36 K5 34 35),F 33 36,ba 37 0 33,ba 38 1 33,F 8 37,F 9 38] (.seq (O [F 39 9,ff 40 39] (aS 40 (O [cq 6 false] .ret) .skip)) (O [eu 10] (.seq (O [F 41 0,cb 42 41,bg 43 0] (.block 0 (.ghost (.mM 10 218051 4) (.loop  (O [bt 44 .lss 43 42] (.seq (aS 44 .skip (.exit 0)) (.seq (.block 1 (O [bB 45 1 41 43,aL 46 1 45,F 12 46] (.ops [F 47 10,F 48 12,(dM 49 ou 48),(au 50 (.dU 218050 false [(Z 0),.nil,(Z 0),.nil] 4 1 [(0,4,(.t 49))])),(au 51 (.app 218051 [(Z 0),.nil,(Z 0),.nil] 64 (.t 47) (.t 50))),F 10 51]))) (.ops [a6 52 .add 43 1,F 43 52])))))))) (.seq (O [F 53 1,cb 54 53,bg 55 0] (.block 2 (.loop  (O [bt 56 .lss 55 54] (.seq (aS 56 .skip (.exit 2)) (.seq (.block 3 (O [F 57 55,bB 58 4 53 55,aU 59 4 58,(au 14 (.alloc 218014 [(Z 0),(Z 0),(Z 0),(Z 0)])),F 13 57,aX 4 14 59] (.seq (O [aO 60 1 14,aL 61 1 60,a6 62 .lss 61 0] (aS 62 (.exit 3) .skip)) (eG [F 64 10,aO 65 1 14,aL 66 1 65,bB 67 4 64 66,aU 68 4 67,F 69 8,F 70 13,bB 71 4 69 70,aU 72 4 71,(bW 73 yP 68 72),F 63 73,ba 74 0 63,ba 75 1 63,(au 15 (.alloc 218015 [(Z 0),.nil,(Z 0),.nil])),aX 4 15 74,F 16 75] [[],[],[],[],[],[],[],[],[],[],[],[],[],[2,4,8],[],[]] (.seq (O [F 76 16,a6 77 .neq 76 0] (aS 77 (O [cq 6 false] .ret) .skip)) (.ops [F 78 10,aO 79 1 14,aL 80 1 79,aU 81 4 15,bB 82 4 78 80,aX 4 82 81])))))) (.ops [a6 83 .add 55 1,F 55 83]))))))) (O [F 84 10,F 85 2,(au 86 (.call Vn [(.t 84),(.t 85),(.c (.gK Hp []))])),F 6 86] .ret)))))))))
def XQ:bZ:=cj 32 2 [.t 4] (O [cq 4 false] (O [F 9 0,cb 10 9,(au 5 (.alloc 227005 [(Z 0)])),aX 1 5 10] (O [(au 6 (.alloc 227006 [(.I .wP)])),⟨none,none,.store 1 (.t 6) (.c (.gK vE []))⟩] (O [(au 11 (.wQ K7 [(.t 6)])),F 7 11] (O [(au 12 (.wQ K8 [(.t 6),(.t 5)])),F 8 12] (O [aL 13 1 5,a6 14 .leq 13 60,F 15 14,⟨some 16,some (15,true),.bT (.t 1)⟩,⟨some 17,some (15,true),.len (.t 16)⟩,⟨some 18,some (15,true),.bin .leq (.t 17) (.c (Z 2000))⟩,gN 19 15 18,F 20 19,⟨some 21,some (20,true),.bT (.t 0)⟩,⟨some 22,some (20,true),.bT (.t 7)⟩,⟨some 23,some (20,true),.call Vp [(.t 21),(.t 22)]⟩,⟨some 24,some (20,true),.un .not (.t 23)⟩,gN 25 20 24,F 26 25,⟨some 27,some (26,true),.bT (.t 1)⟩,⟨some 28,some (26,true),.bT (.t 8)⟩,⟨some 29,some (26,true),.call Vq [(.t 27),(.t 28)]⟩,⟨some 30,some (26,true),.un .not (.t 29)⟩,gN 31 26 30,F 4 31] .ret))))))
def CO:bZ:=cj 73 2 [.t 4] (O [eu 4] (O [eu 5] (.seq (O [F 12 0,cb 13 12,bg 14 0] (.block 0 (.ghost (.mM 5 228023 1) (.loop  (O [bt 15 .lss 14 13] (.seq (aS 15 .skip (.exit 0)) (.seq (.block 1 (O [bB 16 1 12 14,aL 17 1 16,F 7 17] (.ops [F 18 5,F 19 7,(au 20 (.build [(Z 0),.nil,.nil,.nil,.nil,.nil,.nil,.nil,.nil,.nil,.nil,(Z 0),(Z 0),(Z 0),(Z 0),(Z 0),(Z 0),(Z 0),(Z 0),(Z 0),(Z 0),(Z 0),(Z 0),(.I (.bool false))] [(0,1,(.t 19)),(22,1,(.c (Z 10)))])),dq 21 228021 20,(au 22 (.dU 228022 true [(.I .vi)] 1 1 [(0,1,(.t 21))])),(au 23 (.app 228023 [(.I .vi)] 8 (.t 18) (.t 22))),F 5 23]))) (.ghost (.many) (.ops [a6 24 .add 14 1,F 14 24]))))))))) (.seq (O [F 25 1,cb 26 25,bg 27 0] (.block 2 (.loop  (O [bt 28 .lss 27 26] (.seq (aS 28 .skip (.exit 2)) (.seq (.block 3 (O [bB 29 4 25 27,aU 30 4 29,(au 9 (.alloc 228009 [(Z 0),(Z 0),(Z 0),(Z 0)])),aX 4 9 30] (O [F 31 5,aO 32 0 9,aL 33 1 32,bB 34 1 31 33,aL 35 1 34,F 10 35] (eG [F 36 10,aO 37 2 9,aL 38 1 37,F 39 10,aO 40 2 9,aL 41 1 40,eY 42 39,aO 43 1 42,(au 44 (.pt 10 1 (.t 43) (.t 41))),aL 45 1 44,aU 46 4 9,(au 47 (.dU 228047 false [(Z 0),(Z 0),(Z 0),(Z 0)] 4 1 [(0,4,(.t 46))])),(au 48 (.app 228048 [(Z 0),(Z 0),(Z 0),(Z 0)] 32 (.t 45) (.t 47))),eY 49 36,aO 50 1 49,(au 51 (.pt 10 1 (.t 50) (.t 38))),aX 1 51 48] [[],[],[],[],[],[],[],[],[],[],[],[],[2],[],[],[],[]] (.seq (.ghost (.many) (.ops [aO 52 2 9,aL 53 1 52,a6 54 .add 53 1,F 11 54])) (.block 4 (.loop  (.seq (O [F 55 11,a6 56 .leq 55 10] (aS 56 .skip (.exit 4))) (.seq (.block 5 (.mN [F 59 10,F 60 11,eY 61 59,aO 62 11 61,(au 63 (.pt 11 1 (.t 62) (.t 60))),aL 64 1 63,aO 65 3 9,aL 66 1 65,bt 67 .add 64 66,eY 68 59,aO 69 11 68,(au 70 (.pt 11 1 (.t 69) (.t 60))),aX 1 70 67] Hs)) (.ops [F 57 11,a6 58 .add 57 1,F 11 58])))))))))) (.ops [a6 71 .add 27 1,F 27 71]))))))) (.seq (.ghost (.many) (.ops [F 72 5,F 4 72])) .ret)))))
def HY:bZ:=cj 72 1 [.t 2,.t 3] (O [eu 2,cq 3 false] (.seq (O [F 11 0,cb 12 11,bg 13 0] (.block 0 (.loop  (O [bt 14 .lss 13 12] (.seq (aS 14 .skip (.exit 0)) (.seq (.block 1 (O [bB 15 1 11 13,aL 16 1 15,F 5 16] (.ops [F 17 5,eY 18 17,aO 19 23 18,⟨none,none,.store 1 (.t 19) (.c (.I (.bool false)))⟩]))) (.ops [a6 20 .add 13 1,F 13 20]))))))) (.block 2 (.loop  (.block 3 (O [F 22 0,(dM 23 Vr 22),F 21 23,ba 24 0 21,ba 25 1 21,F 6 24,F 7 25] (.seq (O [F 26 7,ff 27 26] (aS 27 (O [eu 2,cq 3 false] .ret) .skip)) (O [cq 8 false] (.seq (O [F 28 0,cb 29 28,bg 30 0] (.block 4 (.loop  (O [bt 31 .lss 30 29] (.seq (aS 31 .skip (.exit 4)) (.seq (.block 5 (O [F 32 30,bB 33 1 28 30,aL 34 1 33,F 9 32,F 10 34] (eG [F 35 10,eY 36 35,aO 37 22 36,aL 38 1 37,a6 39 .lss 38 10,F 40 39,⟨some 41,some (40,true),.bT (.t 10)⟩,⟨some 42,some (40,true),.nv (.t 41)⟩,⟨some 43,some (40,true),.dt 23 (.t 42)⟩,⟨some 44,some (40,true),.load 1 false (.t 43)⟩,⟨some 45,some (40,true),.un .not (.t 44)⟩,gN 46 40 45,F 47 46,⟨some 48,some (47,true),.bT (.t 6)⟩,⟨some 49,some (47,true),.bT (.t 9)⟩,⟨some 50,some (47,true),.ht 4 (.t 48) (.t 49)⟩,⟨some 51,some (47,true),.load 4 true (.t 50)⟩,⟨some 52,some (47,true),.bT (.t 10)⟩,⟨some 53,some (47,true),.bT (.t 10)⟩,⟨some 54,some (47,true),.nv (.t 53)⟩,⟨some 55,some (47,true),.dt 22 (.t 54)⟩,⟨some 56,some (47,true),.load 1 false (.t 55)⟩,⟨some 57,some (47,true),.nv (.t 52)⟩,⟨some 58,some (47,true),.dt 11 (.t 57)⟩,⟨some 59,some (47,true),.pt 11 1 (.t 58) (.t 56)⟩,⟨some 60,some (47,true),.load 1 false (.t 59)⟩,⟨some 61,some (47,true),.call ou [(.t 60)]⟩,⟨some 62,some (47,true),.call pF [(.t 51),(.t 61)]⟩,⟨some 63,some (47,true),.bin .gtr (.t 62) (.c (Z 0))⟩,gN 64 47 63] asi (aS 64 (.ops [F 65 10,eY 66 65,aO 67 23 66,⟨none,none,.store 1 (.t 67) (.c (.I (.bool true)))⟩,cq 8 true]) .skip)))) (.ops [a6 68 .add 30 1,F 30 68]))))))) (O [F 69 8,ff 70 69] (aS 70 (O [F 71 6,F 2 71,cq 3 true] .ret) .skip)))))))))))
def XR:bZ:=cj 11 1 [.cell 2 4 true] (O [(au 2 (.alloc 230002 [(Z 0),.nil,(Z 0),.nil]))] (O [F 6 0,(au 7 (.call El [(.t 6),(.c (Z 1))])),F 5 7,ba 8 0 5,ba 9 1 5,(au 3 (.alloc 230003 [(Z 0),.nil,(Z 0),.nil])),aX 4 3 8,F 4 9] (O [aU 10 4 3,aX 4 2 10] .ret)))
def XS:bZ:=cj 13 3 [.t 4] (O [cq 4 false] (eG [aL 5 1 1,aL 6 1 2,bB 7 4 5 6,aU 8 4 7,F 9 0,(dM 10 ou 9),(bW 11 pF 8 10),a6 12 .lss 11 0,F 4 12] PB .ret))
def E5:bZ:=cj 96 2 [.t 4,.t 5] (O [eu 4,cq 5 false] (O [F 17 1,cb 18 17,(au 19 (.lg 233019 [.nil] 24 (.t 18) (.t 18))),F 6 19] (O [F 20 1,cb 21 20,(au 22 (.lg 233022 [.nil] 24 (.t 21) (.t 21))),F 7 22] (.seq (O [F 23 0,cb 24 23,bg 25 0] (.block 0 (.loop  (O [bt 26 .lss 25 24] (.seq (aS 26 .skip (.exit 0)) (.seq (.block 1 (O [F 27 25,bB 28 4 23 25,aU 29 4 28,(au 9 (.alloc 233009 [(Z 0),(Z 0),(Z 0),(Z 0)])),F 8 27,aX 4 9 29] (.mN [F 30 6,aO 31 0 9,aL 32 1 31,F 33 7,aO 34 0 9,aL 35 1 34,F 36 6,aO 37 0 9,aL 38 1 37,bB 39 1 36 38,aL 40 1 39,aU 41 4 9,(au 42 (.dU 233042 false [(Z 0),(Z 0),(Z 0),(Z 0)] 4 1 [(0,4,(.t 41))])),(au 43 (.app 233043 [(Z 0),(Z 0),(Z 0),(Z 0)] 32 (.t 40) (.t 42))),F 44 7,aO 45 0 9,aL 46 1 45,bB 47 1 44 46,aL 48 1 47,F 49 8,(au 50 (.dU 233050 false [(Z 0)] 1 1 [(0,1,(.t 49))])),(au 51 (.app 233051 [(Z 0)] 8 (.t 48) (.t 50))),bB 52 1 30 32,aX 1 52 43,bB 53 1 33 35,aX 1 53 51] [[],[],[],[],[],[],[],[],[],[],[],[],[],[2,5],[],[],[13],[],[13],[],[],[2,5],[],[5],[],[]]))) (.ghost (.many) (.ops [a6 54 .add 25 1,F 25 54])))))))) (.seq (.ghost (.many) (.ops [F 55 0,cb 56 55,(au 57 (.lg 233057 [(Z 0),.nil,(Z 0),.nil] 64 (.t 56) (.t 56))),F 10 57])) (.seq (O [F 58 6,cb 59 58,bg 60 0] (.block 2 (.loop  (O [bt 61 .lss 60 59] (.seq (aS 61 .skip (.exit 2)) (.seq (.block 3 (O [F 62 60,bB 63 1 58 60,aL 64 1 63,F 11 62,F 12 64] (O [F 66 1,F 67 11,bB 68 4 66 67,aU 69 4 68,F 70 12,(bW 71 Vs 69 70),F 65 71,ba 72 0 65,ba 73 1 65,F 13 72,F 14 73] (.seq (O [F 74 14,a6 75 .neq 74 0] (aS 75 (O [eu 4,cq 5 false] .ret) .skip)) (O [F 76 7,F 77 11,bB 78 1 76 77,aL 79 1 78,cb 80 79,bg 81 0] (.block 4 (.loop  (O [bt 82 .lss 81 80] (.seq (aS 82 .skip (.exit 4)) (.seq (.block 5 (O [F 83 81,bB 84 1 79 81,aL 85 1 84,F 15 83,F 16 85] (.ops [F 86 10,F 87 16,F 88 13,F 89 15,bB 90 4 88 89,aU 91 4 90,bB 92 4 86 87,aX 4 92 91]))) (.ops [a6 93 .add 81 1,F 81 93]))))))))))) (.ops [a6 94 .add 60 1,F 60 94]))))))) (.seq (.ghost (.freeze 10) (.ops [F 95 10,F 4 95,cq 5 true])) .ret)))))))
def XT:bZ:=cj 12 1 [.t 2] (O [dq 1 234001 0,cq 2 false] (O [aU 3 4 1,(dM 4 lT 3),ff 5 4,F 6 5,⟨some 7,some (6,false),.dt 0 (.t 1)⟩,⟨some 8,some (6,false),.dt 0 (.t 7)⟩,⟨some 9,some (6,false),.load 1 false (.t 8)⟩,⟨some 10,some (6,false),.bin .lss (.t 9) (.c (Z 0))⟩,cR 11 6 10,F 2 11] .ret))
def XU:bZ:=cj 9 2 [.t 4] (O [dq 2 236002 0,dq 3 236003 1,cq 4 false] (O [aU 5 4 2,aU 6 4 3,(bW 7 pF 5 6),a6 8 .eql 7 0,F 4 8] .ret))
def XV:bZ:=cj 15 3 [.t 6] (O [cq 6 false] (O [F 7 0,F 8 1,bt 9 .geq 7 8,F 10 9,⟨some 11,some (10,true),.bT (.t 0)⟩,⟨some 12,some (10,true),.bT (.t 2)⟩,⟨some 13,some (10,true),.bin .leq (.t 11) (.t 12)⟩,gN 14 10 13,F 6 14] .ret))
def XW:bZ:=cj 8 2 [.t 3] (O [cq 3 false] (O [aL 4 1 1,F 5 0,(au 6 (.mK (.t 4) [(.t 5),(.c (Z 0)),(.c (Z 1000000000000000))])),ff 7 6,F 3 7] .ret))
def XX:bZ:=cj 35 3 [.t 4] (O [dq 3 245003 0,cq 4 false] (O [aL 5 1 1,aO 6 0 3,aL 7 1 6,aL 8 1 2,a6 9 .sub 8 1,(au 10 (.mK (.t 5) [(.t 7),(.c (Z 0)),(.t 9)])),ff 11 10,F 12 11,⟨some 13,some (12,false),.load 1 false (.t 1)⟩,⟨some 14,some (12,false),.dt 1 (.t 3)⟩,⟨some 15,some (12,false),.load 1 false (.t 14)⟩,⟨some 16,some (12,false),.load 1 false (.t 2)⟩,⟨some 17,some (12,false),.bin .sub (.t 16) (.c (Z 1))⟩,⟨some 18,some (12,false),.mK (.t 13) [(.t 15),(.c (.I (.int .i64 (-1)))),(.t 17)]⟩,⟨some 19,some (12,false),.un .not (.t 18)⟩,cR 20 12 19,F 21 20,⟨some 22,some (21,false),.load 1 false (.t 1)⟩,⟨some 23,some (21,false),.dt 2 (.t 3)⟩,⟨some 24,some (21,false),.load 1 false (.t 23)⟩,⟨some 25,some (21,false),.mK (.t 22) [(.t 24),(.c (Z 0)),(.c (Z 9))]⟩,⟨some 26,some (21,false),.un .not (.t 25)⟩,cR 27 21 26,F 28 27,⟨some 29,some (28,false),.load 1 false (.t 1)⟩,⟨some 30,some (28,false),.dt 3 (.t 3)⟩,⟨some 31,some (28,false),.load 1 false (.t 30)⟩,⟨some 32,some (28,false),.mK (.t 29) [(.t 31),(.c (Z 0)),(.c (Z 1000000000000000))]⟩,⟨some 33,some (28,false),.un .not (.t 32)⟩,cR 34 28 33,F 4 34] .ret))
def v3:bZ:=cj 159 1 [.t 2,.t 3] (O [eu 2,cq 3 false] (O [F 26 0,cb 27 26,F 4 27] (O [F 28 4,(au 29 (.lg 248029 [(Z 0)] 8 (.t 28) (.t 28))),F 5 29] (O [eu 6] (O [eu 7] (.seq (O [F 30 0,cb 31 30,bg 32 0] (.block 0 (.ghost (.mM 6 248094 1) (.ghost (.mM 7 248098 1) (.loop  (O [bt 33 .lss 32 31] (.seq (aS 33 .skip (.exit 0)) (.seq (.block 1 (O [F 34 32,bB 35 1 30 32,aL 36 1 35,F 8 34,F 9 36] (eG [F 37 5,F 38 8,bB 39 1 37 38,aL 40 1 39,F 41 9,eY 42 41,aO 43 0 42,aL 44 1 43,bt 45 .add 40 44,bB 46 1 37 38,aX 1 46 45] Ex (.seq (O [F 47 9,eY 48 47,aO 49 22 48,aL 50 1 49,bg 51 0] (.block 2 (.loop  (O [bt 52 .lss 51 50] (.seq (aS 52 .skip (.exit 2)) (.seq (.block 3 (O [F 53 51,F 10 53] (O [F 54 9,F 55 10,eY 56 54,aO 57 1 56,(au 58 (.pt 10 1 (.t 57) (.t 55))),aL 59 1 58,cb 60 59,bg 61 0] (.block 4 (.loop  (O [bt 62 .lss 61 60] (.seq (aS 62 .skip (.exit 4)) (.seq (.block 5 (O [bB 63 4 59 61,aU 64 4 63,(au 12 (.alloc 248012 [(Z 0),(Z 0),(Z 0),(Z 0)])),aX 4 12 64] (O [aO 65 1 12,aL 66 1 65,a6 67 .geq 66 0] (aS 67 (.mN [F 68 5,aO 69 1 12,aL 70 1 69,bB 71 1 68 70,aL 72 1 71,aO 73 3 12,aL 74 1 73,bt 75 .add 72 74,bB 76 1 68 70,aX 1 76 75] Lc) .skip)))) (.ops [a6 77 .add 61 1,F 61 77]))))))))) (.ops [a6 78 .add 51 1,F 51 78]))))))) (O [F 79 9,eY 80 79,aO 81 23 80,aL 82 1 81] (aS 82 (O [F 84 9,F 85 4,(bW 86 Px 84 85),F 83 86,ba 87 0 83,ba 88 1 83,F 13 87,F 14 88] (.seq (O [F 89 14,ff 90 89] (aS 90 (O [eu 2,cq 3 false] .ret) .skip)) (.ops [F 91 6,F 92 8,(au 93 (.dU 248093 false [(Z 0)] 1 1 [(0,1,(.t 92))])),(au 94 (.app 248094 [(Z 0)] 8 (.t 91) (.t 93))),F 95 7,F 96 13,(au 97 (.dU 248097 false [.nil] 1 1 [(0,1,(.t 96))])),(au 98 (.app 248098 [.nil] 24 (.t 95) (.t 97))),F 6 94,F 7 98]))) .skip)))))) (.ops [a6 99 .add 32 1,F 32 99]))))))))) (.seq (.ghost (.freeze 5) (.ghost (.freeze 6) (.ghost (.freeze 7) (.ops [F 101 0,F 102 5,F 103 6,F 104 7,(Cr 105 Vu 101 102 103 104),F 100 105,ba 106 0 100,ba 107 1 100,F 15 106,F 16 107])))) (.seq (O [F 108 16,ff 109 108] (aS 109 (O [eu 2,cq 3 false] .ret) .skip)) (O [eu 17] (.seq (O [F 110 5,cb 111 110,bg 112 0] (.block 6 (.ghost (.mM 17 248156 4) (.loop  (O [bt 113 .lss 112 111] (.seq (aS 113 .skip (.exit 6)) (.seq (.block 7 (O [F 114 112,bB 115 1 110 112,aL 116 1 115,F 18 114,F 19 116] (O [F 117 19,(dM 118 ou 117),(au 20 (.alloc 248020 [(Z 0),.nil,(Z 0),.nil])),aX 4 20 118] (.seq (O [F 119 6,cb 120 119,bg 121 0] (.block 8 (.loop  (O [bt 122 .lss 121 120] (.seq (aS 122 .skip (.exit 8)) (.seq (.block 9 (O [F 123 121,F 21 123] (eG [F 125 7,F 126 21,bB 127 1 125 126,aL 128 1 127,F 129 18,bB 130 4 128 129,aU 131 4 130,F 132 15,F 133 21,bB 134 4 132 133,aU 135 4 134,(bW 136 xa 131 135),F 124 136,ba 137 0 124,ba 138 1 124,(au 22 (.alloc 248022 [(Z 0),.nil,(Z 0),.nil])),aX 4 22 137,F 23 138] [[],[],[],[],[],[],[],[],[],[],[],[],[],[],[],[3,6,10],[],[]] (O [aU 140 4 20,aU 141 4 22,(bW 142 yP 140 141),F 139 142,ba 143 0 139,ba 144 1 139,(au 24 (.alloc 248024 [(Z 0),.nil,(Z 0),.nil])),aX 4 24 143,F 25 144] (.seq (O [F 145 23,a6 146 .neq 145 0,F 147 146,⟨some 148,some (147,false),.bT (.t 25)⟩,⟨some 149,some (147,false),.bin .neq (.t 148) (.c (Z 0))⟩,cR 150 147 149] (aS 150 (O [eu 2,cq 3 false] .ret) .skip)) (.ops [aU 151 4 24,aX 4 20 151])))))) (.ops [a6 152 .add 121 1,F 121 152]))))))) (.ops [F 153 17,aU 154 4 20,(au 155 (.dU 248155 false [(Z 0),.nil,(Z 0),.nil] 4 1 [(0,4,(.t 154))])),(au 156 (.app 248156 [(Z 0),.nil,(Z 0),.nil] 64 (.t 153) (.t 155))),F 17 156]))))) (.ops [a6 157 .add 112 1,F 112 157])))))))) (.seq (.ghost (.freeze 17) (.ops [F 158 17,F 2 158,cq 3 true])) .ret)))))))))))
def Qj:bZ:=cj 88 2 [.t 4,.t 5] (O [eu 4,cq 5 false] (O [(au 14 (.call ou [(.c (Z 0))])),(au 15 (.dU 255015 false [(Z 0),.nil,(Z 0),.nil] 4 1 [(0,4,(.t 14))])),F 16 1,(au 17 (.oO 255017 4 U0 [(.t 15),(.t 16)])),F 6 17] (O [cq 7 true] (.seq (eG [F 18 0,F 19 0,eY 20 19,aO 21 22 20,aL 22 1 21,eY 23 18,aO 24 1 23,(au 25 (.pt 10 1 (.t 24) (.t 22))),aL 26 1 25,cb 27 26,bg 28 0] Ex (.block 0 (.loop  (O [bt 29 .lss 28 27] (.seq (aS 29 .skip (.exit 0)) (.seq (.block 1 (O [bB 30 4 26 28,aU 31 4 30,(au 9 (.alloc 255009 [(Z 0),(Z 0),(Z 0),(Z 0)])),aX 4 9 31] (.seq (O [aO 32 1 9,aL 33 1 32,a6 34 .lss 33 0] (aS 34 (.exit 1) .skip)) (eG [aO 36 3 9,aL 37 1 36,F 38 0,F 39 0,eY 40 39,aO 41 22 40,aL 42 1 41,a6 43 .add 42 1,eY 44 38,aO 45 11 44,(au 46 (.pt 11 1 (.t 45) (.t 43))),aL 47 1 46,F 48 0,F 49 0,eY 50 49,aO 51 22 50,aL 52 1 51,eY 53 48,aO 54 11 53,(au 55 (.pt 11 1 (.t 54) (.t 52))),aL 56 1 55,bt 57 .sub 47 56,(bW 58 El 37 57),F 35 58,ba 59 0 35,ba 60 1 35,(au 10 (.alloc 255010 [(Z 0),.nil,(Z 0),.nil])),aX 4 10 59,F 11 60] [[],[],[],[],[],[],[],[],[],[],[],[],[],[],[],[],[],[],[],[],[],[],[],[],[],[],[1,6,11,16,20],[],[]] (eG [F 62 6,aO 63 1 9,aL 64 1 63,bB 65 4 62 64,aU 66 4 65,aU 67 4 10,(bW 68 yP 66 67),F 61 68,ba 69 0 61,ba 70 1 61,(au 12 (.alloc 255012 [(Z 0),.nil,(Z 0),.nil])),aX 4 12 69,F 13 70] [[],[],[],[],[],[],[],[],[],[],[2,4,5],[],[]] (O [F 71 7,F 72 71,⟨some 73,some (72,true),.bT (.t 11)⟩,⟨some 74,some (72,true),.bin .eql (.t 73) (.c (Z 0))⟩,gN 75 72 74,F 76 75,⟨some 77,some (76,true),.bT (.t 13)⟩,⟨some 78,some (76,true),.bin .eql (.t 77) (.c (Z 0))⟩,gN 79 76 78,F 7 79] (.ops [F 80 6,aO 81 1 9,aL 82 1 81,aU 83 4 12,bB 84 4 80 82,aX 4 84 83]))))))) (.ops [a6 85 .add 28 1,F 28 85]))))))) (.seq (.ghost (.freeze 6) (.ops [F 86 6,F 87 7,F 4 86,F 5 87])) .ret)))))
def HZ:bZ:=cj 94 4 [.t 8,.t 9] (O [eu 8,cq 9 false] (O [eu 10] (.seq (O [F 20 2,cb 21 20,bg 22 0] (.block 0 (.ghost (.mM 10 256082 5) (.loop  (O [bt 23 .lss 22 21] (.seq (aS 23 .skip (.exit 0)) (.seq (.block 1 (O [F 24 22,bB 25 1 20 22,aL 26 1 25,F 11 24,F 12 26] (eG [F 27 1,F 28 12,bB 29 1 27 28,aL 30 1 29,F 31 0,F 32 12,bB 33 1 31 32,aL 34 1 33,F 35 0,F 36 12,bB 37 1 35 36,aL 38 1 37,eY 39 38,aO 40 22 39,aL 41 1 40,eY 42 34,aO 43 11 42,(au 44 (.pt 11 1 (.t 43) (.t 41))),aL 45 1 44,bt 46 .sub 30 45,(dM 47 ou 46),(au 48 (.build [.nil,(Z 0),.nil,(Z 0),.nil] [(1,4,(.t 47))])),(au 13 (.alloc 256013 [.nil,(Z 0),.nil,(Z 0),.nil])),aX 5 13 48] [[],[],[],[],[],[],[],[],[],[],[],[],[],[],[],[],[],[],[],[],[],[],[3,7,11,14,18],[]] (.seq (.seq (.ghost (.BR (.t 13) 0 256076 4) (.ops [F 49 2,cb 50 49,bg 51 0])) (.block 2 (.loop  (O [bt 52 .lss 51 50] (.seq (aS 52 .skip (.exit 2)) (.seq (.block 3 (O [F 53 51,F 14 53] (O [bg 15 0] (.seq (O [F 54 14,F 55 11,bt 56 .eql 54 55] (aS 56 (.ops [bg 15 1]) .skip)) (eG [F 58 15,(dM 59 ou 58),F 60 3,F 61 14,bB 62 1 60 61,aL 63 1 62,F 64 12,bB 65 4 63 64,aU 66 4 65,(bW 67 yQ 59 66),F 57 67,ba 68 0 57,ba 69 1 57,(au 16 (.alloc 256016 [(Z 0),.nil,(Z 0),.nil])),aX 4 16 68,F 17 69] [[],[],[],[],[],[],[],[],[],[],[],[],[],[5,8],[],[]] (.seq (O [F 70 17,a6 71 .neq 70 0] (aS 71 (O [eu 8,cq 9 false] .ret) .skip)) (.ops [aO 72 0 13,aL 73 1 72,aU 74 4 16,(au 75 (.dU 256075 false [(Z 0),.nil,(Z 0),.nil] 4 1 [(0,4,(.t 74))])),(au 76 (.app 256076 [(Z 0),.nil,(Z 0),.nil] 64 (.t 73) (.t 75))),aO 77 0 13,aX 1 77 76]))))))) (.ops [a6 78 .add 51 1,F 51 78]))))))) (.ghost (.DP (.t 13) 0) (.ops [F 79 10,aU 80 5 13,(au 81 (.dU 256081 false [.nil,(Z 0),.nil,(Z 0),.nil] 5 1 [(0,5,(.t 80))])),(au 82 (.app 256082 [.nil,(Z 0),.nil,(Z 0),.nil] 88 (.t 79) (.t 81))),F 10 82])))))) (.ops [a6 83 .add 22 1,F 22 83])))))))) (.seq (.ghost (.freeze 10) (.ops [F 85 10,F 86 2,cb 87 86,(bW 88 UU 85 87),F 84 88,ba 89 0 84,ba 90 1 84,F 18 89,F 19 90])) (O [F 91 18,F 92 19,a6 93 .eql 92 0,F 8 91,F 9 93] .ret)))))
abbrev b9:=List a7×a7
def de (r:b9):List Data:=.X (r.1.map ar)::ar r.2
theorem iT (f:a7):(ar f).length=4:=rfl
theorem qs (r:b9):(de r).length=5:=rfl
theorem v5 (f:a7):((ar f).map R.I).all R.one=true:=rfl
theorem np:∀a b:a7,ar a=ar b->a=b:=by
 rintro⟨⟨s,l⟩,⟨s2,aa⟩⟩ ⟨⟨t,m⟩,⟨t2,b7⟩⟩ h;simp only[ar,bk,Data.int.injEq,Data.X.injEq,true_and,and_true] at h;obtain⟨rfl,G,rfl,J⟩:=h;rw[map_inj gx _ _ G,map_inj gx _ _ J]
theorem CP:∀a b:b9,de a=de b->a=b:=by
 rintro⟨a,b⟩ ⟨c,d⟩ h;simp only[de,bk,Data.X.injEq] at h;rw[map_inj np _ _ h.1,np _ _ h.2]
def okF (f:a7):Prop:=f.1.2.length<=1000000/\f.2.2.length<=1000000
def hC (l:List a7):Prop:=D l<=1000000/\∀f∈l,okF f
def k8 (r:b9):Prop:=hC r.1/\okF r.2
def kz (rs:List b9):Prop:=D rs<=1000000/\∀r∈rs,k8 r
def Qk:=cn CK λ(s,l,s2,aa)=>cN (D l<=1000000/\D aa<=1000000) (.same (.bool (!di ((s,l),(s2,aa)))))
@[go_sem] theorem aKn (s:Int)(l:List Int)(s2:Int)(aa:List Int)(H:(D l)<=1000000/\D aa<=1000000):Qk [.agg [.int .i64 s,.X (l.map ae),.int .i64 s2,.X (aa.map ae)]]=some (.same (.bool (!di ((s,l),(s2,aa))))):=(cz HW (s,l,s2,aa)).trans (cX H _)
theorem auw (T:bl)(hB:T lT=aQ vS)(s:Int)(l:List Int)(s2:Int)(aa:List Int)(H:(D l)<=1000000/\D aa<=1000000):WP T XM (.same (.bool (!di ((s,l),(s2,aa))))) [.I (.agg [.int .i64 s,.X (l.map ae),.int .i64 s2,.X (aa.map ae)])]:=by
 refine cD ?_;simp only[XM];obtain⟨bJ,bO⟩:=H;refine ak ?_;repeat' (intro h<;>simp only[h,go_sem,go_sem_proc,hB,bJ,bO]<;>try refine ai ?_ ?_)
def XY:=cn CK λ(s,l,s2,aa)=>cN (D l<=1000000/\D aa<=1000000) (.same (.bool (!di ((s,l),(s2,aa))||decide (s<0))))
@[go_sem] theorem aKo (s:Int)(l:List Int)(s2:Int)(aa:List Int)(H:(D l)<=1000000/\D aa<=1000000):XY [.agg [.int .i64 s,.X (l.map ae),.int .i64 s2,.X (aa.map ae)]]=some (.same (.bool (!di ((s,l),(s2,aa))||decide (s<0)))):=(cz HW (s,l,s2,aa)).trans (cX H _)
theorem auy (T:bl)(hB:T lT=aQ vS)(s:Int)(l:List Int)(s2:Int)(aa:List Int)(H:(D l)<=1000000/\D aa<=1000000):WP T XT (.same (.bool (!di ((s,l),(s2,aa))||decide (s<0)))) [.I (.agg [.int .i64 s,.X (l.map ae),.int .i64 s2,.X (aa.map ae)])]:=by
 refine cD ?_;simp only[XT];obtain⟨bJ,bO⟩:=H;rcases Y:di ((s,l),(s2,aa))
 ·refine ak ?_;repeat' (intro h<;>simp only[h,go_sem,go_sem_proc,hB,bJ,bO,Y]<;>try refine ai ?_ ?_)
 ·refine ak ?_;repeat' (intro h<;>simp only[h,go_sem,go_sem_proc,hB,bJ,bO,Y]<;>try refine ai ?_ ?_)
def oE {α:Type}(p:α->Bool)(l:List α):Int:=match l.findIdx? p with
 |some i=>i
 |none => -1
theorem CQ {α:Type}{p:α->Bool}{l:List α}{i:Nat}(h:∀x∈l.take i,p x=false){x:α}(M:l[i]?=some x)(aF:p x=true):oE p l=i:=by
 unfold oE
 have:l.findIdx? p=some i:=by
  rw[ah1];obtain⟨az,rfl⟩:=List.getElem?_eq_some_iff.1 M;refine⟨az,aF,λj aA=>?_⟩;have:=h l[j] (List.mem_iff_getElem?.2 ⟨j,by rw[List.getElem?_take_of_lt aA];exact bq _⟩);rw[this];decide
 rw[this]
theorem E6 {α:Type}{p:α->Bool}{l:List α}(h:∀x∈l,p x=false):oE p l = -1:=by
 unfold oE;rw[ah2.2 h]
theorem Ql {α:Type}(p:α->Bool)(l:List α):decide (oE p l>=0)=l.any p:=by
 unfold oE
 cases h:l.findIdx? p with
 |none =>
  have:=ah2.1 h;have J:l.any p=false:=by rw[List.any_eq_false];intro x M;simp[this x M]
  rw[J];rfl
 |some i =>
  rw[ah1] at h;obtain⟨G,J,-⟩:=h;have af:l.any p=true:=List.any_eq_true.2 ⟨_,lq G,J⟩;rw[af];exact jw (by simp)
def y8 (f:a7):Bool:=!di f
def lD (f:FuncId):a7->Bool:=if f=mn then λx => !di x||decide (x.1.1<0) else y8
@[go_sem] theorem ah3:lD nH=y8:=by
 unfold lD;rw[ag (by decide)]
@[go_sem] theorem H0:lD mn=λx => !di x||decide (x.1.1<0):=by
 unfold lD;rw[ad rfl]
theorem AY {α:Type}{p:α->Bool}{l:List α}{i:Nat}(h:∀x∈l.take i,p x=false){x:α}(M:l[i]?=some x)(aF:p x=false):∀y∈l.take (i+1),p y=false:=by
 intro y aj;rw[gB,M] at aj;simp only[Option.toList_some,List.mem_append,xk] at aj;rcases aj with aj|rfl
 ·exact h y aj
 ·exact aF
abbrev Qm:(List a7)×FuncId->List Data:=λ(l,f)=>[.X (l.map ar),.fn f []]
def XZ:=cn Qm λ(l,f)=>cN (hC l/\(f=nH\/f=mn)) (.same (.int .i64 (oE (lD f) l)))
theorem ah4:∀a b,Qm a=Qm b->a=b:=by
  rintro⟨ed,f1⟩ ⟨aa,f2⟩ h;simp only[bk,Data.X.injEq,Data.fn.injEq] at h;exact dN (map_inj np _ _ h.1) h.2.1.1
@[go_sem] theorem aKp (l:List a7)(f:FuncId)(H:hC l/\(f=nH\/f=mn)):XZ [.X (l.map ar),.fn f []]=some (.same (.int .i64 (oE (lD f) l))):=(cz ah4 (l,f)).trans (cX H _)
theorem auz (T:bl)(AZ:T nH=aQ Qk)(LS:T mn=aQ XY)(l:List a7)(f:FuncId)(H:hC l/\(f=nH\/f=mn)):WP T V4 (.same (.int .i64 (oE (lD f) l))) [.I (.X (l.map ar)),.I (.fn f [])]:=by
 refine cD ?_;simp only[V4];obtain⟨⟨aw,cM⟩,aC⟩:=H;simp only[go_sem,go_sem_proc,aE];refine cU [0,1,7] [] (λ(i:Nat) tm mem=>i<=D l/\(∀x∈l.take i,lD f x=false)/\tm 8=.I (.int .i64 i)) (λi=>D l-i) 0 (by refine⟨fm _,?_,rfl⟩;simp) ?_;intro vs ms aJ aH;simp only[go_sem,go_sem_proc] at aJ aH;subst aJ aH;rintro i tm mem L hm ⟨Q,dB,cu⟩;simp only[go_sem,go_sem_proc,bk] at L hm;obtain⟨ax,G,bV⟩:=L;rcases dc (i<D l) with az|b2
 ·have M:=bq az;obtain⟨pD,uy⟩:=cM _ (lq az);have bY:=λh=>CQ (p:=lD f) dB M h;have hd:=λh=>AY (p:=lD f) dB M h;generalize l[i]=x at *;have fz:decide ((i:Int)<(D l:Int))=true:=cT;have hw:=ec (i:=i) (by omega);obtain⟨⟨a5,bX⟩,⟨cS,eC⟩⟩:=x;dsimp only at pD uy;rcases ah:lD f ((a5,bX),(cS,eC))
  ·rcases aC with rfl|rfl
   all_goals have Y:=ah
   all_goals simp only[ah3,H0,y8] at Y
   ·refine ak ?_;repeat' (intro (ay:_=_)<;>simp only[ay,go_sem,go_sem_proc,AZ,LS,ax,G,bV,cu,M,fz,hw,pD,uy,Y,aE,bj,ar]<;>try refine ai ?_ ?_)
    exact⟨i+1,by omega,by omega,hd ah,rfl⟩
   ·refine ak ?_;repeat' (intro (ay:_=_)<;>simp only[ay,go_sem,go_sem_proc,AZ,LS,ax,G,bV,cu,M,fz,hw,pD,uy,Y,aE,bj,ar]<;>try refine ai ?_ ?_)
    exact⟨i+1,by omega,by omega,hd ah,rfl⟩
  ·rw[bY ah];rcases aC with rfl|rfl
   all_goals have Y:=ah
   all_goals simp only[ah3,H0,y8] at Y
   ·refine ak ?_;repeat' (intro (ay:_=_)<;>simp only[ay,go_sem,go_sem_proc,AZ,LS,ax,G,bV,cu,M,fz,hw,pD,uy,Y,aE,bj,ar]<;>try refine ai ?_ ?_)
   ·refine ak ?_;repeat' (intro (ay:_=_)<;>simp only[ay,go_sem,go_sem_proc,AZ,LS,ax,G,bV,cu,M,fz,hw,pD,uy,Y,aE,bj,ar]<;>try refine ai ?_ ?_)
 ·have fz:decide ((i:Int)<(D l:Int))=false:=cl;have lY:i=D l:=by omega
  subst lY;rw[nQ] at dB;rw[E6 dB];refine ak ?_;repeat' (intro (ay:_=_)<;>simp only[ay,go_sem,go_sem_proc,AZ,LS,ax,G,bV,cu,fz,aE]<;>try refine ai ?_ ?_)
def Qn:=cn Qm λ(l,f)=>cN (hC l/\(f=nH\/f=mn)) (.same (.bool (l.any (lD f))))
@[go_sem] theorem auA (l:List a7)(f:FuncId)(H:hC l/\(f=nH\/f=mn)):Qn [.X (l.map ar),.fn f []]=some (.same (.bool (l.any (lD f)))):=(cz ah4 (l,f)).trans (cX H _)
theorem auB (T:bl)(auC:T U4=aQ XZ)(l:List a7)(f:FuncId)(H:hC l/\(f=nH\/f=mn)):WP T V0 (.same (.bool (l.any (lD f)))) [.I (.X (l.map ar)),.I (.fn f [])]:=by
 refine cD ?_;simp only[V0];rw[<-Ql];refine ak ?_;repeat' (intro h<;>simp only[h,go_sem,go_sem_proc,auC,H]<;>try refine ai ?_ ?_)
def kA (n:Int)(r:b9):Bool:=!(((r.1.length:Int)==n)&&(di r.2 && !(r.1.any y8)))
abbrev X0:(List a7)×Int×(List Int)×Int×(List Int)×Int->List Data:=λ(a,s,l,s2,aa,n)=>[.agg [.X (a.map ar),.int .i64 s,.X (l.map ae),.int .i64 s2,.X (aa.map ae)],.ptr [.int .i64 n],.ptr [.fn nH []]]
def X1:=cn X0 λ(a,s,l,s2,aa,n)=>cN (hC a/\D l<=1000000/\D aa<=1000000) (.same (.bool (kA n (a,((s,l),(s2,aa))))))
theorem auD:∀a b,X0 a=X0 b->a=b:=by
  rintro⟨cE,s1,ed,CE,AE,hK⟩ ⟨cO,s2,aa,CF,AF,iw⟩ h;simp only[bk,Data.agg.injEq,Data.int.injEq,Data.X.injEq,Data.ptr.injEq] at h;exact dN (map_inj np _ _ h.1.1) (dN h.1.2.1.2 (dN (map_inj gx _ _ h.1.2.2.1) (dN h.1.2.2.2.1.2 (dN (map_inj gx _ _ h.1.2.2.2.2.1) h.2.1.1.2))))
@[go_sem] theorem aKq (a:List a7)(s:Int)(l:List Int)(s2:Int)(aa:List Int)(n:Int)(H:hC a/\D l<=1000000/\D aa<=1000000):X1 [.agg [.X (a.map ar),.int .i64 s,.X (l.map ae),.int .i64 s2,.X (aa.map ae)],.ptr [.int .i64 n],.ptr [.fn nH []]]=some (.same (.bool (kA n (a,((s,l),(s2,aa)))))):=(cz auD (a,s,l,s2,aa,n)).trans (cX H _)
theorem auE (T:bl)(AZ:T nH=aQ Qk)(uH:T KQ=aQ Qn)(a:List a7)(s:Int)(l:List Int)(s2:Int)(aa:List Int)(n:Int)(H:hC a/\D l<=1000000/\D aa<=1000000):WP T XN (.same (.bool (kA n (a,((s,l),(s2,aa)))))) [.I (.agg [.X (a.map ar),.int .i64 s,.X (l.map ae),.int .i64 s2,.X (aa.map ae)]),.I (.ptr [.int .i64 n]),.I (.ptr [.fn nH []])]:=by
 refine cD ?_;simp only[XN];obtain⟨aW,bJ,bO⟩:=H;unfold kA;rcases G:((D a:Int)==n)
 ·refine ak ?_;repeat' (intro h<;>simp only[h,go_sem,go_sem_proc,AZ,uH,aW,bJ,bO,G,aE]<;>try refine ai ?_ ?_)
 ·rcases J:di ((s,l),(s2,aa))
  ·refine ak ?_;repeat' (intro h<;>simp only[h,go_sem,go_sem_proc,AZ,uH,aW,bJ,bO,G,J,aE]<;>try refine ai ?_ ?_)
  ·refine ak ?_;repeat' (intro h<;>simp only[h,go_sem,go_sem_proc,AZ,uH,aW,bJ,bO,G,J,aE,show (nH=nH)=True from by simp,true_or,Bool.not_not]<;>try refine ai ?_ ?_)
abbrev Qo:(List b9)×Int->List Data:=λ(rs,n)=>[.X (rs.map de),.fn Cl [.ptr [.int .i64 n],.ptr [.fn nH []]]]
def X2:=cn Qo λ(rs,n)=>cN (kz rs) (.same (.int .i64 (oE (kA n) rs)))
theorem ah5:∀a b,Qo a=Qo b->a=b:=by
  rintro⟨Qp,hK⟩ ⟨Qq,iw⟩ h;simp only[bk,Data.X.injEq,Data.fn.injEq,Data.ptr.injEq,Data.int.injEq] at h;exact dN (map_inj CP _ _ h.1) h.2.1.2.1.1.2
@[go_sem] theorem aKr (rs:List b9)(n:Int)(H:kz rs):X2 [.X (rs.map de),.fn Cl [.ptr [.int .i64 n],.ptr [.fn nH []]]]=some (.same (.int .i64 (oE (kA n) rs))):=(cz ah5 (rs,n)).trans (cX H _)
theorem auF (T:bl)(X3:T Cl=aQ X1)(rs:List b9)(n:Int)(H:kz rs):WP T V3 (.same (.int .i64 (oE (kA n) rs))) [.I (.X (rs.map de)),.I (.fn Cl [.ptr [.int .i64 n],.ptr [.fn nH []]])]:=by
 refine cD ?_;simp only[V3];obtain⟨aw,cM⟩:=H;simp only[go_sem,go_sem_proc,aE];refine cU [0,1,7] [] (λ(i:Nat) tm mem=>i<=D rs/\(∀x∈rs.take i,kA n x=false)/\tm 8=.I (.int .i64 i)) (λi=>D rs-i) 0 (by refine⟨fm _,?_,rfl⟩;simp) ?_;intro vs ms aJ aH;simp only[go_sem,go_sem_proc] at aJ aH;subst aJ aH;rintro i tm mem L hm ⟨Q,dB,cu⟩;simp only[go_sem,go_sem_proc,bk] at L hm;obtain⟨ax,G,bV⟩:=L;rcases dc (i<D rs) with az|b2
 ·have M:=bq az;obtain⟨qq,pD,uy⟩:=cM _ (lq az);have bY:=λh=>CQ (p:=kA n) dB M h;have hd:=λh=>AY (p:=kA n) dB M h;generalize rs[i]=x at *;have fz:decide ((i:Int)<(D rs:Int))=true:=cT;have hw:=ec (i:=i) (by omega);obtain⟨a,⟨a5,bX⟩,⟨cS,eC⟩⟩:=x;dsimp only at qq pD uy;rcases ah:kA n (a,((a5,bX),(cS,eC)))
  ·refine ak ?_;repeat' (intro (ay:_=_)<;>simp only[ay,go_sem,go_sem_proc,X3,ax,G,bV,cu,M,fz,hw,qq,pD,uy,ah,aE,bj,de,ar]<;>try refine ai ?_ ?_)
   exact⟨i+1,by omega,by omega,hd ah,rfl⟩
  ·rw[bY ah];refine ak ?_;repeat' (intro (ay:_=_)<;>simp only[ay,go_sem,go_sem_proc,X3,ax,G,bV,cu,M,fz,hw,qq,pD,uy,ah,aE,bj,de,ar]<;>try refine ai ?_ ?_)
 ·have fz:decide ((i:Int)<(D rs:Int))=false:=cl;have lY:i=D rs:=by omega
  subst lY;rw[nQ] at dB;rw[E6 dB];refine ak ?_;repeat' (intro (ay:_=_)<;>simp only[ay,go_sem,go_sem_proc,X3,ax,G,bV,cu,fz,aE]<;>try refine ai ?_ ?_)
def X4:=cn Qo λ(rs,n)=>cN (kz rs) (.same (.bool (rs.any (kA n))))
@[go_sem] theorem aKs (rs:List b9)(n:Int)(H:kz rs):X4 [.X (rs.map de),.fn Cl [.ptr [.int .i64 n],.ptr [.fn nH []]]]=some (.same (.bool (rs.any (kA n)))):=(cz ah5 (rs,n)).trans (cX H _)
theorem auG (T:bl)(auH:T U3=aQ X2)(rs:List b9)(n:Int)(H:kz rs):WP T VZ (.same (.bool (rs.any (kA n)))) [.I (.X (rs.map de)),.I (.fn Cl [.ptr [.int .i64 n],.ptr [.fn nH []]])]:=by
 refine cD ?_;simp only[VZ];rw[<-Ql];refine ak ?_;repeat' (intro h<;>simp only[h,go_sem,go_sem_proc,auH,H]<;>try refine ai ?_ ?_)
def ig (rs:List b9)(n:Int):Bool:=!(decide (n<0))&&(!(decide (n>40))&&(((D rs:Int)==n) && !(rs.any (kA n))))
abbrev H2:(List b9)×Int->List Data:=λ(rs,n)=>[.X (rs.map de),.int .i64 n]
def X5:=cn H2 λ(rs,n)=>cN (kz rs) (.same (.bool (ig rs n)))
theorem Qr:∀a b,H2 a=H2 b->a=b:=by
  rintro⟨Qp,hK⟩ ⟨Qq,iw⟩ h;simp only[bk,Data.X.injEq,Data.int.injEq] at h;exact dN (map_inj CP _ _ h.1) h.2.1.2
@[go_sem] theorem aKt (rs:List b9)(n:Int)(H:kz rs):X5 [.X (rs.map de),.int .i64 n]=some (.same (.bool (ig rs n))):=(cz Qr (rs,n)).trans (cX H _)
theorem auI (T:bl)(Qs:T UY=aQ X4)(rs:List b9)(n:Int)(H:kz rs):WP T XK (.same (.bool (ig rs n))) [.I (.X (rs.map de)),.I (.int .i64 n)]:=by
 refine cD ?_;simp only[XK];unfold ig;rcases G:decide (n<0)
 ·rcases J:decide (n>40)
  ·rcases af:((D rs:Int)==n)
   ·refine ak ?_;repeat' (intro h<;>simp only[h,go_sem,go_sem_proc,Qs,H,G,J,af,aE]<;>try refine ai ?_ ?_)
   ·refine ak ?_;repeat' (intro h<;>simp only[h,go_sem,go_sem_proc,Qs,H,G,J,af,aE,dz,BT,se,scalar]<;>try refine ai ?_ ?_)
  ·refine ak ?_;repeat' (intro h<;>simp only[h,go_sem,go_sem_proc,Qs,H,G,J,aE]<;>try refine ai ?_ ?_)
 ·refine ak ?_;repeat' (intro h<;>simp only[h,go_sem,go_sem_proc,Qs,H,G,aE]<;>try refine ai ?_ ?_)
theorem X6 {es:List (List Data)}(h:∀x∈es,Fit (.int .i64) x):∃l:List Int,es=l.map ae:=by
 obtain⟨l,e,-⟩:=Ph (e:=ae) (good:=λ_=>True) λx M=>by
  have:=h x M;simp only[Fit] at this;obtain⟨n,rfl,-⟩:=this;exact⟨n,rfl,trivial⟩
 exact⟨l,e⟩
theorem auJ {x:List Data}(h:Fits [.st [.int .i64,.X (.int .i64)],.st [.int .i64,.X (.int .i64)]] x):∃f:a7,x=ar f:=by
 simp only[Fit,Fits] at h;obtain⟨_,_,rfl,⟨_,_,rfl,⟨s,rfl,-⟩,_,_,rfl,⟨es,rfl,-,G⟩,rfl⟩,_,_,rfl,⟨_,_,rfl,⟨s2,rfl,-⟩,_,_,rfl,⟨auK,rfl,-,J⟩,rfl⟩,rfl⟩:=h;obtain⟨l,rfl⟩:=X6 λx M=>by simp only[Fit];exact G x M
 obtain⟨aa,rfl⟩:=X6 λx M=>by simp only[Fit];exact J x M
 exact⟨((s,l),(s2,aa)),rfl⟩
theorem auL {es:List (List Data)}(h:∀x∈es,Fit (.st [.st [.int .i64,.X (.int .i64)],.st [.int .i64,.X (.int .i64)]]) x):∃l:List a7,es=l.map ar:=by
 obtain⟨l,e,-⟩:=Ph (e:=ar) (good:=λ_=>True) λx M=>by
  have:=h x M;unfold Fit at this;obtain⟨f,rfl⟩:=auJ this;exact⟨f,rfl,trivial⟩
 exact⟨l,e⟩
def X7:bZ:=cj 28 1 [.cell 2 2 true] (O [(au 2 (.alloc 144002 [(Z 0),.nil]))] (.seq (O [F 6 0,a6 7 .eql 6 0] (aS 7 (O [(au 8 (.build [(Z 0),.nil] [])),aX 2 2 8] .ret) .skip)) (O [bg 3 1] (.seq (O [F 9 0,a6 10 .lss 9 0] (aS 10 (.ops [(au 3 (.bT (.c (.I (.int .i64 (-1))))))]) .skip)) (O [eu 4] (.seq (.block 0 (.ghost (.mM 4 144022 1) (.loop  (.seq (O [F 11 0,a6 12 .neq 11 0] (aS 12 .skip (.exit 0))) (.block 1 (O [F 13 0,a6 14 .rem 13 1048576,F 5 14] (.seq (O [F 15 5,a6 16 .lss 15 0] (aS 16 (.ops [F 17 5,(au 18 (.un .neg (.t 17))),F 5 18]) .skip)) (O [F 19 4,F 20 5,(au 21 (.dU 144021 false [(Z 0)] 1 1 [(0,1,(.t 20))])),(au 22 (.app 144022 [(Z 0)] 8 (.t 19) (.t 21))),F 4 22] (.ops [F 23 0,a6 24 .quo 23 1048576,F 0 24]))))))))) (.seq (.ghost (.freeze 4) (.ops [F 25 3,F 26 4,(bW 27 pH 25 26),aX 2 2 27])) .ret)))))))
def X8:bZ:=cj 60 1 [.t 2] (O [dq 1 162001 0,cq 2 false] (.seq (O [bg 3 0] (.block 0 (.loop  (.seq (O [F 5 3,aO 6 1 1,aL 7 1 6,cb 8 7,bt 9 .lss 5 8] (aS 9 .skip (.exit 0))) (.seq (.block 1 (O [aO 12 1 1,aL 13 1 12,F 14 3,bB 15 1 13 14,aL 16 1 15,a6 17 .lss 16 0,F 18 17,⟨some 19,some (18,false),.dt 1 (.t 1)⟩,⟨some 20,some (18,false),.load 1 false (.t 19)⟩,⟨some 21,some (18,false),.bT (.t 3)⟩,⟨some 22,some (18,false),.ht 1 (.t 20) (.t 21)⟩,⟨some 23,some (18,false),.load 1 false (.t 22)⟩,⟨some 24,some (18,false),.bin .geq (.t 23) (.c (Z 1048576))⟩,cR 25 18 24] (aS 25 (O [cq 2 false] .ret) .skip))) (.ops [F 10 3,a6 11 .add 10 1,F 3 11])))))) (O [aO 26 1 1,aL 27 1 26,cb 28 27,F 4 28] (.seq (O [aO 29 0 1,aL 30 1 29,(au 31 (.bin .lss (.t 30) (.c (.I (.int .i64 (-1)))))),F 32 31,⟨some 33,some (32,false),.dt 0 (.t 1)⟩,⟨some 34,some (32,false),.load 1 false (.t 33)⟩,⟨some 35,some (32,false),.bin .gtr (.t 34) (.c (Z 1))⟩,cR 36 32 35,F 37 36,⟨some 38,some (37,false),.bT (.t 4)⟩,⟨some 39,some (37,false),.bin .gtr (.t 38) (.c (Z 60))⟩,cR 40 37 39,F 41 40,⟨some 42,some (41,false),.bT (.t 4)⟩,⟨some 43,some (41,false),.bin .eql (.t 42) (.c (Z 0))⟩,⟨some 44,some (41,false),.dt 0 (.t 1)⟩,⟨some 45,some (41,false),.load 1 false (.t 44)⟩,⟨some 46,some (41,false),.bin .eql (.t 45) (.c (Z 0))⟩,⟨some 47,some (41,false),.beq true (.t 43) (.t 46)⟩,cR 48 41 47] (aS 48 (O [cq 2 false] .ret) .skip)) (O [F 49 4,a6 50 .eql 49 0,F 51 50,⟨some 52,some (51,false),.dt 1 (.t 1)⟩,⟨some 53,some (51,false),.load 1 false (.t 52)⟩,⟨some 54,some (51,false),.bT (.t 4)⟩,⟨some 55,some (51,false),.bin .sub (.t 54) (.c (Z 1))⟩,⟨some 56,some (51,false),.ht 1 (.t 53) (.t 55)⟩,⟨some 57,some (51,false),.load 1 false (.t 56)⟩,⟨some 58,some (51,false),.bin .neq (.t 57) (.c (Z 0))⟩,cR 59 51 58,F 2 59] .ret)))))
def X9:bZ:=cj 13 1 [.cell 2 2 true] (O [dq 1 163001 0,(au 2 (.alloc 163002 [(Z 0),.nil]))] (.seq (O [aU 3 2 1,(dM 4 ly 3),ff 5 4] (aS 5 (O [(au 6 (.build [(Z 0),.nil] [])),aX 2 2 6] .ret) .skip)) (O [aO 7 0 1,aL 8 1 7,(au 9 (.un .neg (.t 8))),aO 10 1 1,aL 11 1 10,(bW 12 pH 9 11),aX 2 2 12] .ret)))
def Ya:bZ:=cj 36 2 [.cell 4 2 true,.t 5] (O [dq 2 164002 0,dq 3 164003 1,(au 4 (.alloc 164004 [(Z 0),.nil])),bg 5 0] (.seq (O [aU 10 2 2,(dM 11 ly 10),ff 12 11,F 13 12,⟨some 14,some (13,false),.load 2 true (.t 3)⟩,⟨some 15,some (13,false),.call ly [(.t 14)]⟩,⟨some 16,some (13,false),.un .not (.t 15)⟩,cR 17 13 16] (aS 17 (O [(au 18 (.build [(Z 0),.nil] [])),aX 2 4 18,bg 5 1] .ret) .skip)) (O [aO 19 1 2,aL 20 1 19,F 6 20] (O [aO 21 1 3,aL 22 1 21,F 7 22] (.seq (.block 0 (.loop  (.seq (O [F 23 7,cb 24 23,a6 25 .gtr 24 0] (aS 25 .skip (.exit 0))) (.block 1 (O [F 27 6,F 28 7,(bW 29 KY 27 28),F 26 29,ba 30 0 26,ba 31 1 26,F 8 30,F 9 31] (O [F 32 7,F 6 32] (.ops [F 33 9,F 7 33]))))))) (O [F 34 6,(au 35 (.call pH [(.c (Z 1)),(.t 34)])),aX 2 4 35,bg 5 0] .ret))))))
def Yb:bZ:=cj 65 2 [.cell 4 2 true,.cell 5 2 true,.t 6] (O [dq 2 165002 0,dq 3 165003 1,(au 4 (.alloc 165004 [(Z 0),.nil])),(au 5 (.alloc 165005 [(Z 0),.nil])),bg 6 0] (.seq (O [aU 9 2 2,(dM 10 ly 9),ff 11 10,F 12 11,⟨some 13,some (12,false),.load 2 true (.t 3)⟩,⟨some 14,some (12,false),.call ly [(.t 13)]⟩,⟨some 15,some (12,false),.un .not (.t 14)⟩,cR 16 12 15] (aS 16 (O [(au 17 (.build [(Z 0),.nil] [])),(au 18 (.build [(Z 0),.nil] [])),aX 2 4 17,aX 2 5 18,bg 6 1] .ret) .skip)) (.seq (O [aO 19 0 3,aL 20 1 19,a6 21 .eql 20 0] (aS 21 (O [(au 22 (.build [(Z 0),.nil] [])),(au 23 (.build [(Z 0),.nil] [])),aX 2 4 22,aX 2 5 23,bg 6 15] .ret) .skip)) (O [aO 25 1 2,aL 26 1 25,aO 27 1 3,aL 28 1 27,(bW 29 KY 26 28),F 24 29,ba 30 0 24,ba 31 1 24,F 7 30,F 8 31] (.seq (O [aO 32 0 2,aL 33 1 32,aO 34 0 3,aL 35 1 34,bt 36 .mul 33 35,a6 37 .geq 36 0,F 38 37,⟨some 39,some (38,false),.bT (.t 8)⟩,⟨some 40,some (38,false),.len (.t 39)⟩,⟨some 41,some (38,false),.bin .eql (.t 40) (.c (Z 0))⟩,cR 42 38 41] (aS 42 (eG [aO 43 0 2,aL 44 1 43,aO 45 0 3,aL 46 1 45,bt 47 .mul 44 46,F 48 7,(bW 49 pH 47 48),aO 50 0 2,aL 51 1 50,F 52 8,(bW 53 pH 51 52),aX 2 4 49,aX 2 5 53,bg 6 0] Ld .ret) .skip)) (eG [F 54 7,(au 55 (.dU 165055 false [(Z 0)] 1 1 [(0,1,(.c (Z 1)))])),(bW 56 KZ 54 55),(au 57 (.call pH [(.c (.I (.int .i64 (-1)))),(.t 56)])),aO 58 0 3,aL 59 1 58,aO 60 1 3,aL 61 1 60,F 62 8,(bW 63 Cn 61 62),(bW 64 pH 59 63),aX 2 4 57,aX 2 5 64,bg 6 0] Ld .ret))))))
def Yc:bZ:=cj 15 2 [.cell 4 2 true] (O [(au 4 (.alloc 166004 [(Z 0),.nil]))] (O [F 6 1,(dM 7 uh 6),F 5 7] (.seq (O [F 8 5,cb 9 8,a6 10 .eql 9 0] (aS 10 (O [(au 11 (.build [(Z 0),.nil] [])),aX 2 4 11] .ret) .skip)) (O [F 12 0,F 13 5,(au 14 (.build [(Z 0),.nil] [(0,1,(.t 12)),(1,1,(.t 13))])),aX 2 4 14] .ret))))
def LU:bZ:=cj 60 2 [.t 4,.t 5] (O [eu 4,eu 5] (O [F 12 0,cb 13 12,(au 14 (.lg 180014 [(Z 0)] 8 (.t 13) (.t 13))),F 6 14] (O [eu 7] (.seq (O [F 15 0,cb 16 15,a6 17 .sub 16 1,F 8 17] (.block 0 (.loop  (.seq (O [F 18 8,a6 19 .geq 18 0] (aS 19 .skip (.exit 0))) (.seq (.block 1 (O [F 22 0,F 23 8,bB 24 1 22 23,aL 25 1 24,(au 26 (.dU 180026 true [(Z 0)] 1 1 [(0,1,(.t 25))])),F 27 7,(au 28 (.app 180028 [(Z 0)] 8 (.t 26) (.t 27))),(dM 29 uh 28),F 7 29] (O [bg 9 0] (O [bg 10 1048576] (.seq (.block 2 (.loop  (.seq (O [F 30 10,F 31 9,bt 32 .sub 30 31,a6 33 .gtr 32 1] (aS 33 .skip (.exit 2))) (.block 3 (O [F 34 9,F 35 10,bt 36 .add 34 35,a6 37 .quo 36 2,F 11 37] (O [F 38 7,F 39 1,F 40 11,(au 41 (.dU 180041 false [(Z 0)] 1 1 [(0,1,(.t 40))])),(bW 42 Es 39 41),(bW 43 Co 38 42)] (aS 43 (.ops [F 44 11,F 10 44]) (.ops [F 45 11,F 9 45])))))))) (O [F 46 6,F 47 8,F 48 9,bB 49 1 46 47,aX 1 49 48] (.ops [F 50 7,F 51 1,F 52 9,(au 53 (.dU 180053 false [(Z 0)] 1 1 [(0,1,(.t 52))])),(dM 54 uh 53),(bW 55 Es 51 54),(bW 56 Cn 50 55),F 7 56]))))))) (.ops [F 20 8,a6 21 .sub 20 1,F 8 21])))))) (O [F 57 6,(dM 58 uh 57),F 59 7,F 4 58,F 5 59] .ret)))))
def Yd:bZ:=cj 43 2 [.t 4] (O [eu 4] (O [eu 5] (O [bg 6 0] (.seq (O [bg 7 0] (.block 0 (.ghost (.mM 5 181038 1) (.loop  (.seq (O [F 9 7,F 10 0,cb 11 10,bt 12 .lss 9 11,F 13 12,⟨some 14,some (13,false),.bT (.t 7)⟩,⟨some 15,some (13,false),.bT (.t 1)⟩,⟨some 16,some (13,false),.len (.t 15)⟩,⟨some 17,some (13,false),.bin .lss (.t 14) (.t 16)⟩,cR 18 13 17,F 19 18,⟨some 20,some (19,false),.bT (.t 6)⟩,⟨some 21,some (19,false),.bin .gtr (.t 20) (.c (Z 0))⟩,cR 22 19 21] (aS 22 .skip (.exit 0))) (.seq (.block 1 (O [F 25 0,F 26 7,(bW 27 ui 25 26),F 28 1,F 29 7,(bW 30 ui 28 29),bt 31 .add 27 30,F 32 6,bt 33 .add 31 32,F 8 33] (O [F 34 5,F 35 8,a6 36 .rem 35 1048576,(au 37 (.dU 181037 false [(Z 0)] 1 1 [(0,1,(.t 36))])),(au 38 (.app 181038 [(Z 0)] 8 (.t 34) (.t 37))),F 5 38] (.ops [F 39 8,a6 40 .quo 39 1048576,F 6 40])))) (.ops [F 23 7,a6 24 .add 23 1,F 7 24]))))))) (O [F 41 5,(dM 42 uh 41),F 4 42] .ret)))))
def Ye:bZ:=cj 35 2 [.t 4] (O [eu 4] (O [eu 5] (O [bg 6 0] (.seq (O [bg 7 0] (.block 0 (.ghost (.mM 5 182032 1) (.loop  (.seq (O [F 9 7,F 10 0,cb 11 10,bt 12 .lss 9 11] (aS 12 .skip (.exit 0))) (.seq (.block 1 (eG [F 15 0,F 16 7,bB 17 1 15 16,aL 18 1 17,F 19 1,F 20 7,(bW 21 ui 19 20),bt 22 .sub 18 21,F 23 6,bt 24 .sub 22 23,F 8 24] Ex (O [bg 6 0] (.seq (O [F 25 8,a6 26 .lss 25 0] (aS 26 (O [F 27 8,a6 28 .add 27 1048576,F 8 28] (.ops [bg 6 1])) .skip)) (.ops [F 29 5,F 30 8,(au 31 (.dU 182031 false [(Z 0)] 1 1 [(0,1,(.t 30))])),(au 32 (.app 182032 [(Z 0)] 8 (.t 29) (.t 31))),F 5 32]))))) (.ops [F 13 7,a6 14 .add 13 1,F 7 14]))))))) (O [F 33 5,(dM 34 uh 33),F 4 34] .ret)))))
def Yf:bZ:=cj 23 1 [.t 2] (O [eu 2] (O [F 4 0,cb 5 4,F 3 5] (.seq (.block 0 (.loop  (.seq (O [F 6 3,a6 7 .gtr 6 0,F 8 7,⟨some 9,some (8,true),.bT (.t 0)⟩,⟨some 10,some (8,true),.bT (.t 3)⟩,⟨some 11,some (8,true),.bin .sub (.t 10) (.c (Z 1))⟩,⟨some 12,some (8,true),.ht 1 (.t 9) (.t 11)⟩,⟨some 13,some (8,true),.load 1 false (.t 12)⟩,⟨some 14,some (8,true),.bin .eql (.t 13) (.c (Z 0))⟩,gN 15 8 14] (aS 15 .skip (.exit 0))) (.block 1 (.ops [F 16 3,a6 17 .sub 16 1,F 3 17]))))) (O [(au 18 (.dU 183018 true [] 1 0 [])),F 19 0,F 20 3,(au 21 (.tP 1 (.t 19) none (some (.t 20)) none)),(au 22 (.app 183022 [(Z 0)] 8 (.t 18) (.t 21))),F 2 22] .ret))))
def Yg:bZ:=cj 30 2 [.t 4] (O [cq 4 false] (.seq (O [F 6 0,cb 7 6,F 8 1,cb 9 8,(au 10 (.jx true (.t 7) (.t 9))),a6 11 .sub 10 1,F 5 11] (.block 0 (.loop  (.seq (O [F 12 5,a6 13 .geq 12 0] (aS 13 .skip (.exit 0))) (.seq (.block 1 (O [F 16 0,F 17 5,(bW 18 ui 16 17),F 19 1,F 20 5,(bW 21 ui 19 20),bt 22 .neq 18 21] (aS 22 (O [F 23 0,F 24 5,(bW 25 ui 23 24),F 26 1,F 27 5,(bW 28 ui 26 27),bt 29 .lss 25 28,F 4 29] .ret) .skip))) (.ops [F 14 5,a6 15 .sub 14 1,F 5 15])))))) (O [cq 4 false] .ret)))
def Yh:bZ:=cj 60 2 [.t 4] (O [eu 4] (O [F 10 0,cb 11 10,F 12 1,cb 13 12,bt 14 .add 11 13,(au 15 (.lg 186015 [(Z 0)] 8 (.t 14) (.t 14))),F 5 15] (.seq (O [bg 6 0] (.block 0 (.loop  (.seq (O [F 16 6,F 17 0,cb 18 17,bt 19 .lss 16 18] (aS 19 .skip (.exit 0))) (.seq (.block 1 (O [bg 7 0] (O [bg 8 0] (.block 2 (.loop  (.seq (O [F 22 8,F 23 1,cb 24 23,bt 25 .lss 22 24,F 26 25,⟨some 27,some (26,false),.bT (.t 7)⟩,⟨some 28,some (26,false),.bin .gtr (.t 27) (.c (Z 0))⟩,cR 29 26 28] (aS 29 .skip (.exit 2))) (.seq (.block 3 (eG [F 32 5,F 33 6,F 34 8,bt 35 .add 33 34,bB 36 1 32 35,aL 37 1 36,F 38 0,F 39 6,bB 40 1 38 39,aL 41 1 40,F 42 1,F 43 8,(bW 44 ui 42 43),bt 45 .mul 41 44,bt 46 .add 37 45,F 47 7,bt 48 .add 46 47,F 9 48] ags (O [F 49 5,F 50 6,F 51 8,bt 52 .add 50 51,F 53 9,a6 54 .rem 53 1048576,bB 55 1 49 52,aX 1 55 54] (.ops [F 56 9,a6 57 .quo 56 1048576,F 7 57])))) (.ops [F 30 8,a6 31 .add 30 1,F 8 31])))))))) (.ops [F 20 6,a6 21 .add 20 1,F 6 21])))))) (O [F 58 5,(dM 59 uh 58),F 4 59] .ret))))
def Yi:bZ:=cj 13 2 [.t 4] (O [bg 4 0] (.seq (O [F 5 1,F 6 0,cb 7 6,bt 8 .lss 5 7] (aS 8 (O [F 9 0,F 10 1,bB 11 1 9 10,aL 12 1 11,F 4 12] .ret) .skip)) (O [bg 4 0] .ret)))
def Yj:bZ:=cj 29 2 [.cell 4 2 true,.t 5] (O [dq 2 202002 0,dq 3 202003 1,(au 4 (.alloc 202004 [(Z 0),.nil])),bg 5 0] (.seq (O [aU 6 2 2,(dM 7 ly 6),ff 8 7,F 9 8,⟨some 10,some (9,false),.load 2 true (.t 3)⟩,⟨some 11,some (9,false),.call ly [(.t 10)]⟩,⟨some 12,some (9,false),.un .not (.t 11)⟩,cR 13 9 12] (aS 13 (O [(au 14 (.build [(Z 0),.nil] [])),aX 2 4 14,bg 5 1] .ret) .skip)) (eG [aO 15 0 2,aL 16 1 15,aO 17 0 3,aL 18 1 17,bt 19 .mul 16 18,aO 20 1 2,aL 21 1 20,aO 22 1 3,aL 23 1 22,(bW 24 Es 21 23),(bW 25 pH 19 24),(dM 26 Et 25),ba 27 0 26,ba 28 1 26,aX 2 4 27,F 5 28] Ht .ret)))
def Yk:bZ:=cj 21 2 [.cell 4 2 true,.t 5] (O [dq 2 203002 0,dq 3 203003 1,(au 4 (.alloc 203004 [(Z 0),.nil])),bg 5 0] (.seq (O [aU 8 2 3,(dM 9 ly 8),ff 10 9] (aS 10 (O [(au 11 (.build [(Z 0),.nil] [])),aX 2 4 11,bg 5 1] .ret) .skip)) (eG [aU 13 2 2,aU 14 2 3,(dM 15 Hk 14),(bW 16 K1 13 15),F 12 16,ba 17 0 12,ba 18 1 12,(au 6 (.alloc 203006 [(Z 0),.nil])),aX 2 6 17,F 7 18] [[],[],[],[],[],[],[],[0,1],[],[]] (O [aU 19 2 6,F 20 7,aX 2 4 19,F 5 20] .ret))))
def Yl:bZ:=cj 37 2 [.t 4] (O [dq 2 205002 0,dq 3 205003 1,bg 4 0] (.seq (O [aU 5 2 2,(dM 6 ly 5),ff 7 6,F 8 7,⟨some 9,some (8,false),.load 2 true (.t 3)⟩,⟨some 10,some (8,false),.call ly [(.t 9)]⟩,⟨some 11,some (8,false),.un .not (.t 10)⟩,cR 12 8 11,F 13 12,⟨some 14,some (13,false),.load 2 true (.t 2)⟩,⟨some 15,some (13,false),.load 2 true (.t 3)⟩,⟨some 16,some (13,false),.call Vj [(.t 14),(.t 15)]⟩,cR 17 13 16] (aS 17 (O [bg 4 0] .ret) .skip)) (.seq (O [aO 18 0 2,aL 19 1 18,aO 20 0 3,aL 21 1 20,bt 22 .neq 19 21] (aS 22 (.seq (O [aO 23 0 2,aL 24 1 23,aO 25 0 3,aL 26 1 25,bt 27 .lss 24 26] (aS 27 (O [(au 4 (.bT (.c (.I (.int .i64 (-1))))))] .ret) .skip)) (O [bg 4 1] .ret)) .skip)) (.seq (eG [aO 28 1 2,aL 29 1 28,aO 30 1 3,aL 31 1 30,(bW 32 Co 29 31),aO 33 0 2,aL 34 1 33,a6 35 .gtr 34 0,(au 36 (.beq false (.t 32) (.t 35)))] PB (aS 36 (O [(au 4 (.bT (.c (.I (.int .i64 (-1))))))] .ret) .skip)) (O [bg 4 1] .ret)))))
def Ym:bZ:=cj 71 2 [.cell 4 2 true,.t 5] (O [dq 2 206002 0,dq 3 206003 1,(au 4 (.alloc 206004 [(Z 0),.nil])),bg 5 0] (.seq (O [aU 6 2 2,(dM 7 ly 6),ff 8 7,F 9 8,⟨some 10,some (9,false),.load 2 true (.t 3)⟩,⟨some 11,some (9,false),.call ly [(.t 10)]⟩,⟨some 12,some (9,false),.un .not (.t 11)⟩,cR 13 9 12] (aS 13 (O [(au 14 (.build [(Z 0),.nil] [])),aX 2 4 14,bg 5 1] .ret) .skip)) (.seq (O [aO 15 0 2,aL 16 1 15,a6 17 .eql 16 0,F 18 17,⟨some 19,some (18,false),.dt 0 (.t 3)⟩,⟨some 20,some (18,false),.load 1 false (.t 19)⟩,⟨some 21,some (18,false),.bin .eql (.t 20) (.c (Z 0))⟩,cR 22 18 21,F 23 22,⟨some 24,some (23,false),.dt 0 (.t 2)⟩,⟨some 25,some (23,false),.load 1 false (.t 24)⟩,⟨some 26,some (23,false),.dt 0 (.t 3)⟩,⟨some 27,some (23,false),.load 1 false (.t 26)⟩,⟨some 28,some (23,false),.bin .eql (.t 25) (.t 27)⟩,cR 29 23 28] (aS 29 (eG [aO 30 0 2,aL 31 1 30,aO 32 0 3,aL 33 1 32,bt 34 .or 31 33,aO 35 1 2,aL 36 1 35,aO 37 1 3,aL 38 1 37,(bW 39 KZ 36 38),(bW 40 pH 34 39),(dM 41 Et 40),ba 42 0 41,ba 43 1 41,aX 2 4 42,F 5 43] Ht .ret) .skip)) (.seq (O [aO 44 1 2,aL 45 1 44,aO 46 1 3,aL 47 1 46,(bW 48 Co 45 47)] (aS 48 (eG [aO 49 0 3,aL 50 1 49,aO 51 1 3,aL 52 1 51,aO 53 1 2,aL 54 1 53,(bW 55 Cn 52 54),(bW 56 pH 50 55),(dM 57 Et 56),ba 58 0 57,ba 59 1 57,aX 2 4 58,F 5 59] Hs .ret) .skip)) (eG [aO 60 0 2,aL 61 1 60,aO 62 1 2,aL 63 1 62,aO 64 1 3,aL 65 1 64,(bW 66 Cn 63 65),(bW 67 pH 61 66),(dM 68 Et 67),ba 69 0 68,ba 70 1 68,aX 2 4 69,F 5 70] Hs .ret)))))
def Yn:bZ:=cj 10 1 [.cell 2 2 true,.t 3] (O [dq 1 209001 0,(au 2 (.alloc 209002 [(Z 0),.nil])),bg 3 0] (.seq (O [aO 4 1 1,aL 5 1 4,cb 6 5,a6 7 .gtr 6 60] (aS 7 (O [(au 8 (.build [(Z 0),.nil] [])),aX 2 2 8,bg 3 6] .ret) .skip)) (O [aU 9 2 1,aX 2 2 9,bg 3 0] .ret)))
def Yo:bZ:=cj 38 2 [.t 4] (O [dq 2 210002 0,dq 3 210003 1,cq 4 false] (.seq (O [aO 6 0 2,aL 7 1 6,aO 8 0 3,aL 9 1 8,bt 10 .neq 7 9,F 11 10,⟨some 12,some (11,false),.dt 1 (.t 2)⟩,⟨some 13,some (11,false),.load 1 false (.t 12)⟩,⟨some 14,some (11,false),.len (.t 13)⟩,⟨some 15,some (11,false),.dt 1 (.t 3)⟩,⟨some 16,some (11,false),.load 1 false (.t 15)⟩,⟨some 17,some (11,false),.len (.t 16)⟩,⟨some 18,some (11,false),.bin .neq (.t 14) (.t 17)⟩,cR 19 11 18] (aS 19 (O [cq 4 false] .ret) .skip)) (.seq (O [bg 5 0] (.block 0 (.loop  (.seq (O [F 20 5,aO 21 1 2,aL 22 1 21,cb 23 22,bt 24 .lss 20 23] (aS 24 .skip (.exit 0))) (.seq (.block 1 (eG [aO 27 1 2,aL 28 1 27,F 29 5,bB 30 1 28 29,aL 31 1 30,aO 32 1 3,aL 33 1 32,F 34 5,bB 35 1 33 34,aL 36 1 35,bt 37 .neq 31 36] Ex (aS 37 (O [cq 4 false] .ret) .skip))) (.ops [F 25 5,a6 26 .add 25 1,F 5 26])))))) (O [cq 4 true] .ret))))
theorem H3 (l:List Int):G7 (.own 1 (l.map ae))=some (.own 1 (l.map ae)):=by
 refine ad ?_;rw[List.all_eq_true];intro e he;obtain⟨d,-,rfl⟩:=List.mem_map.1 he;simp[ae,scalar]
theorem E7 (n k g sz off len:Nat):dz n emp (.ref k g sz off len)=none:=by cases n<;>rfl
def CR:=cn Hu λ(l:List Int)=>cN (D l<=1000000) (.own 1 ((gg l).map ae))
@[go_sem] theorem E8 (l:List Int)(H:(D l)<=1000000):CR [.X (l.map ae)]=some (.own 1 ((gg l).map ae)):=(cz PD l).trans (cX H _)
theorem auM (T:bl)  (l:List Int) (H:(D l)<=1000000):WP T Yf (.own 1 ((gg l).map ae)) [.I (.X (l.map ae))]:=by
 refine cD ?_;simp only[Yf];have oT:((l.map ae).all λe=>D e==1)=true:=by simp[ae]
 refine ak ?_;repeat' (intro h<;>simp only[h,go_sem,go_sem_proc,aE]<;>try refine ai ?_ ?_)
 refine cU [0] [] (λ(n:Nat) tm mem=>n<=D l/\gg l=gg (l.take n)/\tm 3=.I (.int .i64 n)/\mem 183018=none) (λn=>n) (D l) (by refine⟨cH _,by simp,by simp[go_sem],rfl⟩) ?_;intro vs ms aJ aH;simp only[go_sem,go_sem_proc] at aJ aH;subst aJ aH;rintro n tm mem L-⟨aM,ca,af,Yp⟩;simp only[go_sem,go_sem_proc,bk] at L;have ax:=L
 have dv:∀o:List Int,D o<=(D l)->kS 183018 0 1 0 8 (D o) ((o.map ae).flatten.map .I) (some (0,[]))=some (.ref 183018 1 1 0 (D o),some (183018,1,aV ae o)):=by
  intro o bS;have:=Ci jD yM 183018 0 8 [] o (by simp;omega) (by simp;omega)
  simpa [aV] using this
 have p7:∀(o:List Int) (m:Mem),m 183018=some (1,aV ae o)->uc 1 m (.ref 183018 1 1 0 (D o))=some (o.map ae):=by
  intro o m hm;have:=agz hm (cH _);rwa [dp (cH _)] at this
 have auN:∀o:List Int,((o.map ae).all λe=>D e==1)=true:=λo=>by simp[ae]
 rcases n with _|n
 ·have G:=dv [] (by simp);have bS:=p7 [];simp only[cC,ah6,nC] at G bS;refine ak ?_;repeat' (intro h<;>simp only[h,go_sem,go_sem_proc,ax,af,Yp,oT,G,qg,qh,show ¬ ((0:Int)>0) by omega,decide_false,aE,show (0:Int).toNat=0 from rfl,show (0:Int)<=0 by omega,fm,List.take_zero,cC,nC]<;>try refine ai ?_ ?_)
  rw[bS _ (by simp[a9]),ca];simp[gg]
 ·have hw:IntKind.i64.wrap (((n+1:Nat):Int)-1)=(n:Int):=by rw[fh _];omega
  have M:l[n]?=some l[n]:=bq (by omega);have iF:((n+1:Nat):Int)>0:=by omega
  have hle:n+1<=D l:=aM
  by_cases a3:l[n]=0
  ·refine ak ?_;repeat' (intro h<;>simp only[h,go_sem,go_sem_proc,ax,af,hw,M,a3,iF,aE,bj,decide_true,ae,beq_self_eq_true,bk]<;>try refine ai ?_ ?_)
   exact⟨n,by omega,by omega,by rw[ca,Wc l n (by omega) a3],rfl,Yp⟩
  ·have mV:(l[n]==0)=false:=by simpa using a3
   have G:=dv (l.take (n+1)) (by rw[gv];omega);rw[gv,oS hle,ah7] at G;have bO:(List.take (n+1) (l.map ae)).length=n+1:=by rw[gv,aE];omega
   have ah8:=auN (l.take (n+1));rw[ah7] at ah8;refine ak ?_;repeat' (intro h<;>simp only[h,go_sem,go_sem_proc,ax,af,Yp,hw,M,mV,iF,oT,ah8,hle,G,bO,ae,aE,bj,decide_true,bk,show (0:Int)<=((n+1:Nat):Int) by omega,jE,fm]<;>try refine ai ?_ ?_)
   have bS:=p7 (l.take (n+1)) _ (show a9 (a9 mem 183018 0 []) 183018 1 (aV ae (List.take (n+1) l)) 183018=_ by simp[a9])
   rw[gv,oS hle] at bS;rw[bS,ca,Wd l n (by omega) a3]
abbrev Yq:(List Int)×Nat->List Data:=λ(l,i)=>[.X (l.map ae),.int .i64 i]
def H4:=cn Yq λ(l,i)=>cN (D l<=1000000) (.same (.int .i64 (l.getD i 0)))
theorem auO:∀a b,Yq a=Yq b->a=b:=by
  rintro⟨ed,i1⟩ ⟨aa,i2⟩ h;simp only[bk,Data.X.injEq,Data.int.injEq] at h;exact dN (map_inj gx _ _ h.1) (by have:=h.2.1.2;dsimp only;omega)
@[go_sem] theorem ah9 (l:List Int)(i:Nat)(H:(D l)<=1000000):H4 [.X (l.map ae),.int .i64 i]=some (.same (.int .i64 (l.getD i 0))):=(cz auO (l,i)).trans (cX H _)
theorem auP (T:bl)  (l:List Int) (i:Nat) (H:(D l)<=1000000):WP T Yi (.same (.int .i64 (l.getD i 0))) [.I (.X (l.map ae)),.I (.int .i64 i)]:=by
 refine cD ?_;simp only[Yi];rcases g2 i (D l) with az|b2
 ·have M:=bq az;have ab:decide ((i:Int)<(D l:Int))=true:=cT;have bz:l.getD i 0=l[i]:=by rw[ep,M];rfl
  rw[bz];refine ak ?_;repeat' (intro h<;>simp only[h,go_sem,go_sem_proc,M,ab,ae,aE,bj]<;>try refine ai ?_ ?_)
 ·have ab:decide ((i:Int)<(D l:Int))=false:=cl;have bz:l.getD i 0=0:=by rw[ep,ja b2];rfl
  rw[bz];refine ak ?_;repeat' (intro h<;>simp only[h,go_sem,go_sem_proc,ab,aE]<;>try refine ai ?_ ?_)
theorem H5 (n i:Nat):(aP n).getD i 0=((n/1048576^i%1048576:Nat):Int):=by
 induction i generalizing n with
 |zero =>
  rcases ko n with h|h
  ·subst h;rfl
  ·rw[vA h,Nat.pow_zero,Nat.div_one];rfl
 |succ i aN =>
  rcases ko n with h|h
  ·subst h;rw[aia];rfl
  ·rw[vA h];show (aP (n/1048576)).getD i 0=_;rw[aN,aib,<-Nat.pow_succ']
theorem H6 (n i:Nat):n/1048576^i=n/1048576^i%1048576+1048576*(n/1048576^(i+1)):=by
 rw[vB,<-aib];omega
theorem CS {n k:Nat}(h:(aP n).length<=k):n/1048576^k=0:=Nat.div_eq_of_lt (gC.1 h)
def H7:=cn vH λ(x,y)=>cN ((aP x).length<=100000/\(aP y).length<=100000) (.same (.bool (decide (x<y))))
@[go_sem] theorem Yr (x:Nat)(y:Nat)(H:(aP x).length<=100000/\(aP y).length<=100000):H7 [cx x,cx y]=some (.same (.bool (decide (x<y)))):=(cz yU (x,y)).trans (cX H _)
theorem auQ (T:bl)(nq:T ui=aQ H4)(x:Nat)(y:Nat)(H:(aP x).length<=100000/\(aP y).length<=100000):WP T Yg (.same (.bool (decide (x<y)))) [.I (cx x),.I (cx y)]:=by
 refine cD ?_;simp only[Yg];obtain⟨M,aj⟩:=H;have e2:∃bn:Nat,bn=max (aP x).length (aP y).length:=⟨_,rfl⟩;obtain⟨bn,e2⟩:=e2;have iv:(if ((aP y).length:Int)>((aP x).length:Int) then ((aP y).length:Int) else ((aP x).length:Int))=(bn:Int):=by split<;>omega
 have CD:IntKind.i64.wrap ((bn:Int)-1)=(bn:Int)-1:=wrap64 _ (by omega) (by omega);have mv:(aP x).length<=1000000:=by omega
 have mo:(aP y).length<=1000000:=by omega
 simp only[go_sem,go_sem_proc,cx,aE,iv,CD];refine cU [0,1] [] (λ(i:Nat) tm mem=>i<=bn/\x/1048576^i=y/1048576^i/\tm 5=.I (.int .i64 ((i:Int)-1))) (λi=>i) bn (by refine⟨cH _,?_,rfl⟩;rw[CS (by omega),CS (by omega)]) ?_;intro vs ms aJ aH;simp only[go_sem,go_sem_proc] at aJ aH;subst aJ aH;rintro i tm mem L-⟨Q,he,bx⟩;simp only[go_sem,go_sem_proc,bk] at L;obtain⟨ax,G⟩:=L;rcases i with _|i
 ·have g4:x=y:=by simpa using he
  have az:decide (x<y)=false:=cl;rw[az];simp only[go_sem,go_sem_proc,nq,ax,G,bx,qg,qh,show ¬ ((0:Int)-1>=0) by omega,decide_false]
  repeat' (first|refine ai ?_ ?_|fail)<;>intro h<;>simp only[h,go_sem,go_sem_proc,nq,ax,G,bx,qg,qh,show ¬ ((0:Int)-1>=0) by omega,decide_false]
 ·have hw:((i+1:Nat):Int)-1=(i:Int):=by omega
  have b2:decide ((i:Int)>=0)=true:=cT;have av:=H6 x i;have aB:=H6 y i;rw[he] at av;have hz:IntKind.i64.wrap ((i:Int)-1)=(i:Int)-1:=wrap64 _ (by omega) (by omega);have cQ:=H5 x i;have dd:=H5 y i;have c0:=oX (x/1048576^i) (show 0<1048576 by omega);have ee:=oX (y/1048576^i) (show 0<1048576 by omega);have bJ:x/1048576^i<y/1048576^i->x<y:=λh=>aic h;have bO:y/1048576^i<x/1048576^i->y<x:=λh=>aic h;generalize ku:x/1048576^i=bu at *;generalize LC:y/1048576^i=g8 at *;generalize y/1048576^(i+1)=rf at *;generalize bu%1048576=a at *;generalize g8%1048576=b at *;rcases Nat.lt_trichotomy a b with h|h|h
  ·have b6:((a:Int)==(b:Int))=false:=by simp;omega
   have sf:decide ((a:Int)<(b:Int))=decide (x<y):=by rw[jw (show (a:Int)<(b:Int) by omega),jw (bJ (by omega))]
   simp only[go_sem,go_sem_proc,nq,ax,G,bx,hw,b2,cQ,dd,mv,mo,b6,sf];repeat' (first|refine ai ?_ ?_|fail)<;>intro h<;>simp only[h,go_sem,go_sem_proc,nq,ax,G,bx,hw,b2,cQ,dd,mv,mo,b6,sf]
  ·subst h;simp only[go_sem,go_sem_proc,nq,ax,G,bx,hw,b2,cQ,dd,mv,mo,hz,beq_self_eq_true];repeat' (first|refine ai ?_ ?_|fail)<;>intro h<;>simp only[h,go_sem,go_sem_proc,nq,ax,G,bx,hw,b2,cQ,dd,mv,mo,hz,beq_self_eq_true]
   exact⟨i,by omega,by omega,by rw[ku,LC];omega,rfl⟩
  ·have b6:((a:Int)==(b:Int))=false:=by simp;omega
   have sf:decide ((a:Int)<(b:Int))=decide (x<y):=by rw[h7 (show ¬ (a:Int)<(b:Int) by omega),h7 (by have:=bO (by omega);omega)]
   simp only[go_sem,go_sem_proc,nq,ax,G,bx,hw,b2,cQ,dd,mv,mo,b6,sf];repeat' (first|refine ai ?_ ?_|fail)<;>intro h<;>simp only[h,go_sem,go_sem_proc,nq,ax,G,bx,hw,b2,cQ,dd,mv,mo,b6,sf]
theorem Ys {o:List Int}{d:Int}(h:fe o)(ax:0<=d)(G:d<1048576):fe (o++[d]):=Eh.2 ⟨h,He.2 ⟨⟨ax,G⟩,by intro d ab;cases ab⟩⟩
theorem Yt (o:List Int)(d:Int):bs (o++[d])=bs o+1048576^(D o)*d:=by rw[Ei];simp[bs]
theorem H8 {o:List Int}{n:Nat}(h:fe o)(aD:bs o=n):gg o=aP n:=by rw[Am h,aD];rfl
def Qt:=cn vH λ(x,y)=>cN ((aP x).length<=10000/\(aP y).length<=10000) (.same (cx (x+y)))
@[go_sem] theorem aid (x:Nat)(y:Nat)(H:(aP x).length<=10000/\(aP y).length<=10000):Qt [cx x,cx y]=some (.same (cx (x+y))):=(cz yU (x,y)).trans (cX H _)
theorem auR (T:bl)(nq:T ui=aQ H4)(nr:T uh=aQ CR)(x:Nat)(y:Nat)(H:(aP x).length<=10000/\(aP y).length<=10000):WP T Yd (.same (cx (x+y))) [.I (cx x),.I (cx y)]:=by
 refine cD ?_;simp only[Yd];obtain⟨M,aj⟩:=H;have e2:∃bn:Nat,bn=max (aP x).length (aP y).length:=⟨_,rfl⟩;obtain⟨bn,e2⟩:=e2;have mv:(aP x).length<=1000000:=by omega
 have mo:(aP y).length<=1000000:=by omega
 simp only[go_sem,go_sem_proc,cx];refine cU [0,1] [] (λ((i,c,g,o):Nat×Nat×Nat×List Int) tm mem=>i<=bn+1/\c<=1/\(i=bn+1->c=0)/\D o=i/\fe o/\bs o+1048576^i*((x/1048576^i+y/1048576^i+c:Nat):Int)=((x+y:Nat):Int)/\tm 6=.I (.int .i64 c)/\tm 7=.I (.int .i64 i)/\tm 5=.ref 181038 g 1 0 i/\mem 181038=some (g,aV ae o)) (λ(i,_)=>bn+1-i) (0,0,0,[]) (by refine⟨by omega,by omega,by simp,rfl,by simp[fe],by simp[bs],rfl,rfl,rfl,rfl⟩) ?_;intro vs ms aJ aH;simp only[go_sem,go_sem_proc] at aJ aH;subst aJ aH;rintro⟨i,c,g,o⟩ tm mem L-⟨Q,gb,iR,bS,g5,aD,b0,bV,bx,hm⟩;simp only[go_sem,go_sem_proc,bk] at L;obtain⟨ax,G⟩:=L;have aF:bs o+1048576^i*((x/1048576^i+y/1048576^i+c:Nat):Int)=((x+y:Nat):Int):=aD
 by_cases E9:i<(aP x).length\/i<(aP y).length\/0<c
 ·have av:=H6 x i;have aB:=H6 y i;have cQ:=H5 x i;have dd:=H5 y i;have c0:=oX (x/1048576^i) (show 0<1048576 by omega);have ee:=oX (y/1048576^i) (show 0<1048576 by omega);have W2:bn<=i->x/1048576^i=0/\y/1048576^i=0:=λh=>⟨CS (by omega),CS (by omega)⟩;have gO:(1048576:Int)^(i+1)=1048576^i*1048576:=nF _ _;generalize ku:x/1048576^i=bu at *;generalize LC:y/1048576^i=g8 at *;generalize A0:x/1048576^(i+1)=X' at *;generalize H9:y/1048576^(i+1)=Y' at *;generalize aW:bu%1048576=a at *;generalize ah:g8%1048576=b at *;have w1:IntKind.i64.wrap ((a:Int)+(b:Int))=((a+b:Nat):Int):=by rw[fh _];omega
  have rJ:IntKind.i64.wrap (((a+b:Nat):Int)+(c:Int))=((a+b+c:Nat):Int):=by rw[fh _];omega
  have fQ:((a+b+c:Nat):Int).tmod 1048576=(((a+b+c)%1048576:Nat):Int):=by rw[Li (by omega)];omega
  have hg:IntKind.i64.wrap (((a+b+c:Nat):Int).tdiv 1048576)=(((a+b+c)/1048576:Nat):Int):=by rw[HE (by omega),wrap64 _ (by omega) (by omega)];omega
  have bG:=ec (i:=i) (by omega);have dv:=jm jD yM 181038 g 8 o (((a+b+c)%1048576:Nat):Int) (cs:=[.I (.int .i64 (((a+b+c)%1048576:Nat):Int))]) rfl (by omega) (by omega);rw[bS] at dv
  have aKu:i<=bn:=by
   rcases g2 bn i with h|h
   ·have:=iR (by omega);omega
   ·exact h
  have jc:∃bm:Nat×Nat×Nat×List Int,bn+1-bm.1<bn+1-i/\bm.1<=bn+1/\bm.2.1<=1/\(bm.1=bn+1->bm.2.1=0)/\bm.2.2.2.length=bm.1/\fe bm.2.2.2/\bs bm.2.2.2+1048576^bm.1*((x/1048576^bm.1+y/1048576^bm.1+bm.2.1:Nat):Int)=((x+y:Nat):Int)/\R.I (Data.int .i64 (((a+b+c)/1048576:Nat):Int))=R.I (Data.int .i64 (bm.2.1:Int))/\R.I (Data.int .i64 ((i+1:Nat):Int))=R.I (Data.int .i64 (bm.1:Int))/\R.ref 181038 (g+1) 1 0 (i+1)=R.ref 181038 bm.2.2.1 1 0 bm.1/\some (g+1,aV ae (o++[(((a+b+c)%1048576:Nat):Int)]))=some (bm.2.2.1,aV ae bm.2.2.2):=by
   refine⟨(i+1,(a+b+c)/1048576,g+1,o++[(((a+b+c)%1048576:Nat):Int)]),by dsimp only;omega,by dsimp only;omega,by dsimp only;omega,?_,by simp[bS],Ys g5 (by omega) (by omega),?_,rfl,rfl,rfl,rfl⟩
   ·intro h;dsimp only at h ⊢;have:=W2 (by omega);omega
   ·dsimp only;rw[A0,H9,Yt,bS,gO,<-aF];have bp:((bu+g8+c:Nat):Int)=1048576*((X'+Y'+(a+b+c)/1048576:Nat):Int)+(((a+b+c)%1048576:Nat):Int):=by omega
    rw[bp,iN,iO];omega
  by_cases w5:i<(aP x).length
  ·have d1:decide ((i:Int)<((aP x).length:Int))=true:=cT;refine ak ?_;repeat' (intro (ay:_=_)<;>simp only[ay,go_sem,go_sem_proc,nq,nr,ax,G,bx,b0,bV,hm,cQ,dd,mv,mo,d1,w1,rJ,fQ,hg,bG,dv,aE]<;>try refine ai ?_ ?_)
   exact jc
  ·have d1:decide ((i:Int)<((aP x).length:Int))=false:=cl
   by_cases wZ:i<(aP y).length
   ·have d2:decide ((i:Int)<((aP y).length:Int))=true:=cT;refine ak ?_;repeat' (intro (ay:_=_)<;>simp only[ay,go_sem,go_sem_proc,nq,nr,ax,G,bx,b0,bV,hm,cQ,dd,mv,mo,d1,d2,w1,rJ,fQ,hg,bG,dv,aE]<;>try refine ai ?_ ?_)
    exact jc
   ·have d2:decide ((i:Int)<((aP y).length:Int))=false:=cl;have d3:decide ((c:Int)>0)=true:=cT;refine ak ?_;repeat' (intro (ay:_=_)<;>simp only[ay,go_sem,go_sem_proc,nq,nr,ax,G,bx,b0,bV,hm,cQ,dd,mv,mo,d1,d2,d3,w1,rJ,fQ,hg,bG,dv,aE]<;>try refine ai ?_ ?_)
    exact jc
 ·have d1:decide ((i:Int)<((aP x).length:Int))=false:=cl;have d2:decide ((i:Int)<((aP y).length:Int))=false:=cl;have d3:decide ((c:Int)>0)=false:=cl;rw[CS (n:=x) (by omega),CS (n:=y) (by omega),show c=0 by omega] at aF
  have dK:=E8 o (by omega);rw[H8 (n:=x+y) g5 (by simpa using aF)] at dK;have fP:=H3 (aP (x+y));have gi:=jU (n:=5) jD hm;rw[bS] at gi;refine ak ?_;repeat' (intro (ay:_=_)<;>simp only[ay,go_sem,go_sem_proc,nq,nr,ax,G,bx,b0,bV,hm,d1,d2,d3,dK,fP,gi,E7,se,aE]<;>try refine ai ?_ ?_)
def LV:=cn vH λ(x,y)=>cN ((aP x).length<=10000/\(aP y).length<=10000/\y<=x) (.same (cx (x-y)))
@[go_sem] theorem Qu (x:Nat)(y:Nat)(H:(aP x).length<=10000/\(aP y).length<=10000/\y<=x):LV [cx x,cx y]=some (.same (cx (x-y))):=(cz yU (x,y)).trans (cX H _)
theorem auS (T:bl)(nq:T ui=aQ H4)(nr:T uh=aQ CR)(x:Nat)(y:Nat)(H:(aP x).length<=10000/\(aP y).length<=10000/\y<=x):WP T Ye (.same (cx (x-y))) [.I (cx x),.I (cx y)]:=by
 refine cD ?_;simp only[Ye];obtain⟨M,aj,g4⟩:=H;have mv:(aP x).length<=1000000:=by omega
 have mo:(aP y).length<=1000000:=by omega
 have agF:(aP y).length<=(aP x).length:=by rw[gC];exact uo g4 (gC.1 (cH _))
 simp only[go_sem,go_sem_proc,cx];refine cU [0,1] [] (λ((i,c,g,o):Nat×Nat×Nat×List Int) tm mem=>i<=(aP x).length/\c<=1/\y/1048576^i+c<=x/1048576^i/\D o=i/\fe o/\bs o+1048576^i*((x/1048576^i-(y/1048576^i+c):Nat):Int)=((x-y:Nat):Int)/\tm 6=.I (.int .i64 c)/\tm 7=.I (.int .i64 i)/\tm 5=.ref 182032 g 1 0 i/\mem 182032=some (g,aV ae o)) (λ(i,_)=>(aP x).length-i) (0,0,0,[]) (by refine⟨by omega,by omega,by simpa using g4,rfl,by simp[fe],by simp[bs],rfl,rfl,rfl,rfl⟩) ?_;intro vs ms aJ aH;simp only[go_sem,go_sem_proc] at aJ aH;subst aJ aH;rintro⟨i,c,g,o⟩ tm mem L-⟨Q,gb,hle,bS,g5,aD,b0,bV,bx,hm⟩;simp only[go_sem,go_sem_proc,bk] at L;obtain⟨ax,G⟩:=L;have aF:bs o+1048576^i*((x/1048576^i-(y/1048576^i+c):Nat):Int)=((x-y:Nat):Int):=aD;have T8:y/1048576^i+c<=x/1048576^i:=hle
 by_cases E9:i<(aP x).length
 ·have d1:decide ((i:Int)<((aP x).length:Int))=true:=cT;have av:=H6 x i;have aB:=H6 y i;have cQ:=H5 x i;rw[ep,bq E9] at cQ;have gq:(aP x)[i]?=some ((x/1048576^i%1048576:Nat):Int):=by rw[bq E9];exact congrArg some cQ
  have dd:=H5 y i;have c0:=oX (x/1048576^i) (show 0<1048576 by omega);have ee:=oX (y/1048576^i) (show 0<1048576 by omega);have gO:(1048576:Int)^(i+1)=1048576^i*1048576:=nF _ _;clear cQ hle aD;generalize ku:x/1048576^i=bu at *;generalize LC:y/1048576^i=g8 at *;generalize A0:x/1048576^(i+1)=X' at *;generalize H9:y/1048576^(i+1)=Y' at *;generalize aW:bu%1048576=a at *;generalize ah:g8%1048576=b at *;have w1:IntKind.i64.wrap ((a:Int)-(b:Int))=(a:Int)-(b:Int):=wrap64 _ (by omega) (by omega);have rJ:IntKind.i64.wrap ((a:Int)-(b:Int)-(c:Int))=(a:Int)-(b:Int)-(c:Int):=wrap64 _ (by omega) (by omega);have bG:=ec (i:=i) (by omega);have m0:IntKind.i64.wrap ((a:Int)-(b:Int)-(c:Int)+1048576)=(a:Int)-(b:Int)-(c:Int)+1048576:=wrap64 _ (by omega) (by omega);have dv:=λd:Int=>jm jD yM 182032 g 8 o d (cs:=[.I (.int .i64 d)]) rfl (by omega) (by omega);rw[bS] at dv;rcases mr:decide ((a:Int)-(b:Int)-(c:Int)<0)
  ·have aM:=of_decide_eq_false mr;refine ak ?_;repeat' (intro h<;>simp only[h,go_sem,go_sem_proc,nq,nr,ax,G,bx,b0,bV,hm,gq,dd,mo,d1,w1,rJ,bG,dv,mr,ae,aE,bj]<;>try refine ai ?_ ?_)
   refine⟨(i+1,0,g+1,o++[(a:Int)-(b:Int)-(c:Int)]),by dsimp only;omega,by dsimp only;omega,by dsimp only;omega,by dsimp only;rw[A0,H9];omega,by simp[bS],Ys g5 (by omega) (by omega),?_,rfl,rfl,rfl,rfl⟩
   dsimp only;rw[A0,H9,Yt,bS,gO,<-aF];have bp:((bu-(g8+c):Nat):Int)=1048576*((X'-(Y'+0):Nat):Int)+((a:Int)-b-c):=by omega
   rw[bp,iN,iO];omega
  ·have aM:=of_decide_eq_true mr;refine ak ?_;repeat' (intro h<;>simp only[h,go_sem,go_sem_proc,nq,nr,ax,G,bx,b0,bV,hm,gq,dd,mo,d1,w1,rJ,bG,m0,dv,mr,ae,aE,bj]<;>try refine ai ?_ ?_)
   refine⟨(i+1,1,g+1,o++[(a:Int)-(b:Int)-(c:Int)+1048576]),by dsimp only;omega,by dsimp only;omega,by dsimp only;omega,by dsimp only;rw[A0,H9];omega,by simp[bS],Ys g5 (by omega) (by omega),?_,rfl,rfl,rfl,rfl⟩
   dsimp only;rw[A0,H9,Yt,bS,gO,<-aF];have bp:((bu-(g8+c):Nat):Int)=1048576*((X'-(Y'+1):Nat):Int)+((a:Int)-b-c+1048576):=by omega
   have bM:∀p c9 jW:Int,bs o+p*c9+p*1048576*jW=bs o+p*(1048576*jW+c9):=λp c9 jW=>by rw[iN p (1048576*jW) c9,<-iO];omega
   rw[bp];exact bM _ _ _
 ·have d1:decide ((i:Int)<((aP x).length:Int))=false:=cl;rw[CS (n:=x) (by omega),CS (n:=y) (by omega),Nat.zero_sub,qg,yX,ra] at aF;have dK:=E8 o (by omega);rw[H8 (n:=x-y) g5 aF] at dK;have fP:=H3 (aP (x-y));have gi:=jU (n:=5) jD hm;rw[bS] at gi;refine ak ?_;repeat' (intro h<;>simp only[h,go_sem,go_sem_proc,nq,nr,ax,G,bx,b0,bV,hm,d1,dK,fP,gi,E7,se,aE]<;>try refine ai ?_ ?_)
theorem aie {b:List Int}{k:Nat}(h:k<D b):b.getD k 0=b[k]:=by rw[ep,bq h];rfl
theorem Yu {b:List Int}{k:Nat}(h:(D b)<=k):b.getD k 0=0:=by rw[ep,ja h];rfl
def LW:=cn vH λ(x,y)=>cN ((aP x).length<=10000/\(aP y).length<=10000) (.same (cx (x*y)))
@[go_sem] theorem Yv (x:Nat)(y:Nat)(H:(aP x).length<=10000/\(aP y).length<=10000):LW [cx x,cx y]=some (.same (cx (x*y))):=(cz yU (x,y)).trans (cX H _)
theorem auT (T:bl)(nq:T ui=aQ H4)(nr:T uh=aQ CR)(x:Nat)(y:Nat)(H:(aP x).length<=10000/\(aP y).length<=10000):WP T Yh (.same (cx (x*y))) [.I (cx x),.I (cx y)]:=by
 refine cD ?_;simp only[Yh];obtain⟨M,aj⟩:=H;have uk:=nh x;have r4:=nh y;have qi:=ml x;have EC:=ml y;generalize aW:aP x=a at *;generalize ah:aP y=b at *;have s7:IntKind.i64.wrap ((D a:Int)+(D b:Int))=((D a+D b:Nat):Int):=by rw[fh _];rfl
 have lv:8*(D a+D b)<=140737488355328:=by omega
 have e5:(D a)+D b<=maxLen:=Hz _ (by omega);have Kn:(D b)<=1000000:=by omega
 simp only[go_sem,go_sem_proc,cx,aW,ah,s7,lv,e5,Hy,aE]
 refine cU [0,1,5] [] (λ((i,o):Nat×List Int) tm mem=>i<=D a/\D o=D a+D b/\fe o/\o.drop (i+D b)=et (D o-(i+D b)) 0/\bs o=bs (a.take i)*y/\tm 6=.I (.int .i64 (i:Nat))/\mem 186015=some (0,aV ae o))
  (λ(i,_)=>D a-i) (0,et (D a+D b) 0) (by
   have a3:∀n,bs (et n 0)=0:=by
    intro n
    induction n with
    |zero=>rfl
    |succ n aN=>rw[List.replicate_succ,uf,aN];rfl
   refine⟨fm _,by simp,λd ab=>by rw[HB] at ab;omega,by simp,by rw[a3];simp[bs],?_,?_⟩<;>rfl) ?_
 intro vs ms aJ aH;simp only[go_sem,go_sem_proc] at aJ aH;subst aJ aH;rintro⟨i,o⟩ tm mem L-⟨Q,bS,g5,s9,j5,b0,hm⟩;simp only[go_sem,go_sem_proc,bk] at L;obtain⟨ax,G,bx⟩:=L;rcases dc (i<D a) with az|b2
 ·have r5:a[i]?=some a[i]:=bq az;have Ch:=lV uk i az;have tZ:=lU a i az;generalize a[i]=ie at *;have kZ:decide ((i:Int)<(D a:Int))=true:=cT;have Lo:IntKind.i64.wrap ((i:Int)+1)=((i+1:Nat):Int):=by rw[fh _];rfl
  simp only[go_sem,go_sem_proc,ax,b0,kZ,aE]
  refine cU [0,1,5,6] [] (λ((k,c,o):Nat×Int×List Int) tm mem=>k<=D b+1/\(k=D b+1->c=0)/\D o=D a+D b/\fe o/\o.drop (i+max k (D b))=et (D o-(i+max k (D b))) 0/\0<=c/\c<1048576/\bs o+1048576^(i+k)*c=bs (a.take i)*y+1048576^i*(ie*bs (b.take k)) /\
    tm 8=.I (.int .i64 (k:Nat))/\tm 7=.I (.int .i64 c)/\mem 186015=some (0,aV ae o))
   (λ(k,_)=>D b+1-k) (0,0,o) (by refine⟨fm _,by simp,bS,g5,by rw[Nat.zero_max];exact s9,by omega,by omega,by simp[bs,j5],?_,?_,hm⟩<;>rfl) ?_
  intro vs ms aJ aH;simp only[go_sem,go_sem_proc,ax,G,bx,b0] at aJ aH;subst aJ aH;rintro⟨k,c,o⟩ tm mem L-⟨rX,CT,bS,g5,s9,ix,gb,j5,cu,bV,hm⟩;simp only[go_sem,go_sem_proc,bk] at L;obtain⟨ax,G,bx,b0⟩:=L;have hz:IntKind.i64.wrap ((k:Int)+1)=((k+1:Nat):Int):=by rw[fh _];rfl
  have ni:IntKind.i64.wrap ((i:Int)+(k:Int))=((i+k:Nat):Int):=by rw[fh _];rfl
  by_cases E9:k<(D b)\/c>0
  ·have Lh:k<=D b:=by
    rcases g2 (D b) k with h|h
    ·have:=CT (by omega);omega
    ·exact h
   have qj:i+k<D o:=by omega
   have Wv:=lV g5 (i+k) qj
   have HC:0<=b.getD k 0/\b.getD k 0<1048576:=by
    rcases g2 k (D b) with h|h
    ·rw[aie h];exact lV r4 k h
    ·rw[Yu h];omega
   have Fa:bs (b.take (k+1))=bs (b.take k)+1048576^k*b.getD k 0:=by
    rcases g2 k (D b) with h|h
    ·rw[aie h];exact lU b k h
    ·rw[Yu h,dp (by omega),dp (by omega)];simp
   have wW:k<(D b)\/(k=D b/\o[i+k]=0):=by
    rcases g2 k (D b) with h|h
    ·exact .inl h
    ·refine .inr ⟨by omega,agI s9 (by omega) qj⟩
   have Yw:=ah9 b k Kn;generalize b.getD k 0=qt at *;obtain⟨ea,b7,gG,fx⟩:=agH Wv Ch HC ⟨ix,gb⟩;have oZ:IntKind.i64.wrap (ie*qt)=ie*qt:=wrap64 _ (by omega) (by omega);have HD:IntKind.i64.wrap (o[i+k]+ie*qt)=o[i+k]+ie*qt:=wrap64 _ (by omega) (by omega);have Cu:IntKind.i64.wrap (o[i+k]+ie*qt+c)=o[i+k]+ie*qt+c:=wrap64 _ (by omega) (by omega);have vM:(o[i+k]+ie*qt+c).tmod 1048576=(o[i+k]+ie*qt+c)%1048576:=Li (by omega);have PX:IntKind.i64.wrap ((o[i+k]+ie*qt+c).tdiv 1048576)=(o[i+k]+ie*qt+c)/1048576:=by rw[HE (by omega)];exact wrap64 _ (by omega) (by omega)
   have lW:i+k+1<=(aV ae o).length:=by rw[q8];omega
   have mq:=Lf o (i+k) qj;have jk:=λd=>yT o (i+k) d qj;have nb:i+k<D a+D b:=by omega
   have jc:∃bm:Nat×Int×List Int,D b+1-bm.1<D b+1-k/\bm.1<=D b+1/\(bm.1=D b+1->bm.2.1=0)/\bm.2.2.length=D a+D b/\fe bm.2.2/\bm.2.2.drop (i+max bm.1 (D b))=et (bm.2.2.length-(i+max bm.1 (D b))) 0/\0<=bm.2.1/\bm.2.1<1048576/\bs bm.2.2+1048576^(i+bm.1)*bm.2.1=bs (a.take i)*y+1048576^i*(ie*bs (b.take bm.1)) /\
     R.I (Data.int .i64 ((k+1:Nat):Int))=R.I (Data.int .i64 (bm.1:Nat))/\R.I (Data.int .i64 ((o[i+k]+ie*qt+c)/1048576))=R.I (Data.int .i64 bm.2.1)/\some (0,aV ae (o.set (i+k) ((o[i+k]+ie*qt+c)%1048576)))=some (0,aV ae bm.2.2):=by
    refine⟨(k+1,(o[i+k]+ie*qt+c)/1048576,o.set (i+k) ((o[i+k]+ie*qt+c)%1048576)),by dsimp only;omega,by dsimp only;omega,?_,by simp[bS],Ay g5 _ (by omega),?_,gG,fx,?_,rfl,rfl,rfl⟩
    ·intro h;dsimp only at h ⊢;rcases wW with J|⟨J,af⟩
     ·omega
     ·have auU:qt=0:=by
       have e:=Yw;rw[ah9 b k Kn,Yu (by omega)] at e
       simpa using e.symm
      rw[af,auU,yX];omega
    ·dsimp only;rcases wW with J|⟨J,af⟩
     ·rw[Yx (by omega)] at s9;rw[Yx (by omega),tY (by omega),List.length_set,s9]
     ·rw[Yx (by omega),<-J] at s9;rw[Nat.max_eq_left (by omega)];exact agJ s9 qj
    ·dsimp only;rw[Wr _ _ _ qj,Fa,<-Nat.add_assoc,nF,agG _ _ _ _ _ _ _ j5];rw[iN (ie),iN (1048576^i),Int.pow_add]
     have:(1048576:Int)^i*(ie*(1048576^k*qt))=1048576^i*1048576^k*(ie*qt):=by
      rw[<-iO (ie),nG (ie) (1048576^k),iO (1048576^k),<-iO]
     omega
   by_cases aKv:k<D b
   ·have d1:decide ((k:Int)<(D b:Int))=true:=cT;refine ak ?_;repeat' (intro (ay:_=_)<;>simp only[ay,go_sem,go_sem_proc,nq,nr,ax,G,bx,b0,bV,cu,hm,r5,Yw,d1,hz,ni,oZ,HD,Cu,vM,PX,nb,lW,mq,jk,ae,dY,aE,bj,bk]<;>try refine ai ?_ ?_)
    exact jc
   ·have d1:decide ((k:Int)<(D b:Int))=false:=cl;have d2:decide (c>0)=true:=cT;refine ak ?_;repeat' (intro (ay:_=_)<;>simp only[ay,go_sem,go_sem_proc,nq,nr,ax,G,bx,b0,bV,cu,hm,r5,Yw,d1,d2,hz,ni,oZ,HD,Cu,vM,PX,nb,lW,mq,jk,ae,dY,aE,bj,bk]<;>try refine ai ?_ ?_)
    exact jc
  ·have d1:decide ((k:Int)<(D b:Int))=false:=cl;have d2:decide (c>0)=false:=cl;have auV:c=0:=by omega
   rw[auV,yX,ra,show b.take k=b from dp (by omega),EC] at j5;refine ak ?_;repeat' (intro (ay:_=_)<;>simp only[ay,go_sem,go_sem_proc,nq,nr,ax,G,bx,b0,bV,cu,hm,d1,d2,Lo,aE]<;>try refine ai ?_ ?_)
   refine⟨(i+1,o),by dsimp only;omega,by dsimp only;omega,bS,g5,?_,?_,rfl,rfl⟩
   ·dsimp only;have af:=congrArg (List.drop (i+1+D b-(i+max k (D b)))) s9;rw[List.drop_drop,List.drop_replicate] at af;rw[show i+max k (D b)+(i+1+D b-(i+max k (D b)))=i+1+(D b) by omega] at af
    rw[af]
    congr 1
    omega
   ·dsimp only;rw[j5,tZ,Int.add_mul,iO]
 ·obtain rfl:i=D a:=by omega
  have kZ:decide ((D a:Int)<(D a:Int))=false:=cl;rw[dp (cH _),qi] at j5;have dK:=E8 o (by omega);rw[H8 (n:=x*y) g5 (by rw[j5];rfl)] at dK;have fP:=H3 (aP (x*y));have gi:=jU (n:=5) jD hm;rw[bS] at gi;refine ak ?_;repeat' (intro (ay:_=_)<;>simp only[ay,go_sem,go_sem_proc,nq,nr,ax,G,bx,b0,hm,kZ,dK,fP,gi,E7,se,cx,aE]<;>try refine ai ?_ ?_)
def er.uI:er->List Nat->er
 |.seq a _,0::p=>a.uI p
 |.seq _ b,_::p=>b.uI p
 |.cond _ a _,0::p=>a.uI p
 |.cond _ _ b,_::p=>b.uI p
 |.block _ c,_::p=>c.uI p
 |.ghost _ c,_::p=>c.uI p
 |.loop c,_::p=>c.uI p
 |c,_=>c
theorem aif {n:Nat}(h:0<n)(G:n<1048576):[(n:Int)]=aP n:=(Ej h G).symm
theorem auW {n:Nat}(G:n<1048576):gg [(n:Int)]=aP n:=H8 (by intro d ab;have:=xk.1 ab;omega) (by simp[bs])
theorem auX {d:Int}{r:Nat}(ax:0<=d)(G:d<1048576):gg (d::aP r)=aP (d.toNat+1048576*r):=H8 (He.2 ⟨⟨ax,G⟩,nh r⟩) (by rw[uf,ml];omega)
theorem Yy {n m k:Nat}(h:n<m*1048576)(hm:(aP m).length<=k):(aP n).length<=k+1:=by
 rw[gC] at *;rw[vB];exact Nat.lt_of_lt_of_le h (og _ (HV hm))
theorem aih (T:bl)(uJ:T Es=aQ LW)(l1:T Co=aQ H7){K:eI->bo->Prop}{kk:List fJ}(y bU:Nat)(aj:(aP y).length<=1000)(hc:(aP bU).length<=1001)(jo:0<y)(auY:bU<y*1048576)(v0 v6 A1:R)(tm:Nat->R)(m:Mem)
  (bw:tm 0=v0) (av:tm 1=.I (.X ((aP y).map ae))) (bH:tm 6=v6) (b5:tm 7=.I (.X ((aP bU).map ae))) (df:tm 8=A1) (eB:tm 9=.I (.int .i64 0)) (fq:tm 10=.I (.int .i64 1048576))
  (cZ:∀tm',tm' 0=v0->tm' 1=.I (.X ((aP y).map ae))->tm' 6=v6->tm' 7=.I (.X ((aP bU).map ae))->tm' 8=A1->tm' 9=.I (.int .i64 ((bU/y:Nat):Int))->cd T K kk (.exit 2) ⟨tm',m⟩) :
  wp T (LU.body.uI [1,1,1,0,1,0,0,1,0,0,1,1,1,0,0]) (cd T K kk) ⟨tm,m⟩:=by
 simp only[LU,er.uI];refine cU [0,1,6,7,8] [] (λ((cY,Q):Nat×Nat) tm' m'=>cY<Q/\Q<=1048576/\cY*y<=bU/\bU<Q*y/\tm' 9=.I (.int .i64 cY)/\tm' 10=.I (.int .i64 Q)/\m'=m) (λ(cY,Q)=>Q-cY) (0,1048576) (by refine⟨by omega,by omega,by omega,by rw[sY];exact auY,eB,fq,rfl⟩) ?_;intro vs ms aJ aH;simp only[go_sem,go_sem_proc,bw,av,bH,b5,df] at aJ aH;subst aJ aH;clear bw av bH b5 df eB fq;rintro⟨cY,Q⟩ tm m' L hm ⟨aKw,aY,iu,jQ,eK,dS,rfl⟩;simp only[go_sem,go_sem_proc,bk] at L hm;obtain⟨ax,G,b0,bV,cu⟩:=L;have w1:IntKind.i64.wrap ((Q:Int)-(cY:Int))=(Q:Int)-(cY:Int):=wrap64 _ (by omega) (by omega)
 by_cases E9:Q-cY>1
 ·have d1:decide ((Q:Int)-(cY:Int)>1)=true:=cT;have rJ:IntKind.i64.wrap ((cY:Int)+(Q:Int))=((cY+Q:Nat):Int):=by rw[fh _];omega
  have bG:IntKind.i64.wrap (((cY+Q:Nat):Int).tdiv 2)=(((cY+Q)/2:Nat):Int):=by rw[HE (by omega),wrap64 _ (by omega) (by omega)];omega
  obtain⟨xv,auZ⟩:∃xv:Nat,xv=(cY+Q)/2:=⟨_,rfl⟩;rw[<-auZ] at bG;have dK:=Yv y xv ⟨by omega,by rw[<-aif (n:=xv) (by omega) (by omega)];simp⟩
  simp only[cx] at dK;rw[<-aif (n:=xv) (by omega) (by omega)] at dK;simp only[ey,cC,ae] at dK;have p3:(aP (y*xv)).length<=1001:=Yy (aii (show xv<1048576 by omega) jo) aj;have fP:=Yr bU (y*xv) ⟨by omega,by omega⟩
  simp only[cx] at fP;rcases ab:decide (bU<y*xv)
  ·have aM:=of_decide_eq_false ab;rw[ab] at fP;refine ak ?_;repeat' (intro h<;>simp only[h,go_sem,go_sem_proc,uJ,l1,ax,G,b0,bV,cu,eK,dS,w1,rJ,bG,d1,dK,fP]<;>try refine ai ?_ ?_)
   exact⟨(xv,Q),by dsimp only;omega,by dsimp only;omega,aY,by dsimp only;rw[sY];omega,jQ,rfl,rfl⟩
  ·have aM:=of_decide_eq_true ab;rw[ab] at fP;refine ak ?_;repeat' (intro h<;>simp only[h,go_sem,go_sem_proc,uJ,l1,ax,G,b0,bV,cu,eK,dS,w1,rJ,bG,d1,dK,fP]<;>try refine ai ?_ ?_)
   exact⟨(cY,xv),by dsimp only;omega,by dsimp only;omega,by dsimp only;omega,iu,by dsimp only;rw[sY];omega,rfl,rfl⟩
 ·have d1:decide ((Q:Int)-(cY:Int)>1)=false:=cl
  have bF:bU/y=cY:=by
   have G:Q=cY+1:=by omega
   subst G;exact Nat.div_eq_of_lt_le iu jQ
  refine ak ?_;repeat' (intro h<;>simp only[h,go_sem,go_sem_proc,ax,G,b0,bV,cu,eK,dS,w1,d1]<;>try refine ai ?_ ?_)
  refine cZ _ ?_ ?_ ?_ ?_ ?_ ?_<;>simp only[dk,cp,if_false,ax,G,b0,bV,cu,eK,bF]
def Qv:=cn vH λ(x,y)=>cN ((aP x).length<=1000/\(aP y).length<=1000/\0<y) (.same (.c1 [cx (x/y),cx (x%y)]))
@[go_sem] theorem aij (x:Nat)(y:Nat)(H:(aP x).length<=1000/\(aP y).length<=1000/\0<y):Qv [cx x,cx y]=some (.same (.c1 [cx (x/y),cx (x%y)])):=(cz yU (x,y)).trans (cX H _)
theorem au0 (T:bl)(nr:T uh=aQ CR)(uJ:T Es=aQ LW)(l1:T Co=aQ H7)(o3:T Cn=aQ LV)(x:Nat)(y:Nat)(H:(aP x).length<=1000/\(aP y).length<=1000/\0<y):WP T LU (.same (.c1 [cx (x/y),cx (x%y)])) [.I (cx x),.I (cx y)]:=by
 refine cD ?_;simp only[LU];obtain⟨M,aj,jo⟩:=H;have uk:=nh x;have qi:=ml x;generalize aW:aP x=a at *;have lv:8*D a<=140737488355328:=by omega
 have e5:(D a)<=maxLen:=Hz _ (by omega);have CD:IntKind.i64.wrap ((D a:Int)-1)=(D a:Int)-1:=wrap64 _ (by omega) (by omega);simp only[go_sem,go_sem_proc,cx,aW,lv,e5,Hy,CD,aE]
 refine cU [0,1,6] [] (λ((n,r,Fb,o):Nat×Nat×R×List Int) tm mem=>n<=D a/\D o=D a/\fe o/\r<y/\bs (a.drop n)=y*bs (o.drop n)+r/\(Fb=.nil/\r=0\/Fb=.I (cx r))/\tm 8=.I (.int .i64 ((n:Nat)-1))/\tm 7=Fb/\mem 180014=some (0,aV ae o))
  (λ(n,_)=>n) (D a,0,.nil,et (D a) 0) (by
   refine⟨cH _,by simp,λd ab=>by rw[HB] at ab;omega,jo,by simp[bs],.inl ⟨rfl,rfl⟩,rfl,rfl,rfl⟩) ?_
 intro vs ms aJ aH;simp only[go_sem,go_sem_proc] at aJ aH;subst aJ aH;rintro⟨n,r,Fb,o⟩ tm mem L-⟨aM,bS,g5,EE,aD,LX,cu,bV,hm⟩;simp only[go_sem,go_sem_proc,bk] at L;obtain⟨ax,G,b0⟩:=L;rcases n with _|n
 ·have bF:bs o=((x/y:Nat):Int)/\r=x%y:=by
   rw[nD,nD,qi] at aD;have av:(x:Int)/(y:Int)=bs o:=by rw[aD,yV,Int.add_mul_ediv_left _ _ (by omega),Int.ediv_eq_zero_of_lt (by omega) (by omega)];omega
   have aB:(x:Int)%(y:Int)=r:=by rw[aD,yV,Int.add_mul_emod_self_left,Int.emod_eq_of_lt (by omega) (by omega)]
   refine⟨by rw[<-av];rfl,by omega⟩
  have dK:=E8 o (by omega);rw[H8 (n:=x/y) g5 bF.1] at dK;have fP:=H3 (aP (x/y));have gi:=jU (n:=5) jD hm;rw[bS] at gi;rcases LX with ⟨rfl,hZ⟩|rfl
  ·have a3:aP (x%y)=[]:=by rw[<-bF.2,hZ];rfl
   refine ak ?_;repeat' (intro (ay:_=_)<;>simp only[ay,go_sem,go_sem_proc,nr,uJ,l1,o3,ax,G,b0,bV,cu,hm,dK,fP,gi,a3,E7,se,cx,qg,qh,show ¬ ((0:Int)-1>=0) by omega,decide_false,aE,cC]<;>try refine ai ?_ ?_)
  ·refine ak ?_;repeat' (intro (ay:_=_)<;>simp only[ay,go_sem,go_sem_proc,nr,uJ,l1,o3,ax,G,b0,bV,cu,hm,dK,fP,gi,E7,se,cx,qg,qh,show ¬ ((0:Int)-1>=0) by omega,decide_false,aE,cC,bF.2]<;>try refine ai ?_ ?_)
 ·have r5:a[n]?=some a[n]:=bq (by omega);have PN:=lV uk n (by omega);have Wm:a.drop n=a[n]::a.drop (n+1):=h9 (by omega);have gw:n<D o:=by omega
  have Wp:∀e:Int,(o.set n e).drop n=e::o.drop (n+1):=λe=>by
   rw[h9 (by simpa using gw),List.getElem_set_self,tY (by omega)]
  generalize a[n]=d at *;have hw:((n+1:Nat):Int)-1=(n:Int):=by omega
  have b2:decide ((n:Int)>=0)=true:=cT;have oZ:IntKind.i64.wrap ((n:Int)-1)=(n:Int)-1:=wrap64 _ (by omega) (by omega);have cm:(aP r).length<=1000:=by rw[gC] at *;omega
  obtain⟨bU,hc⟩:∃bU:Nat,bU=d.toNat+1048576*r:=⟨_,rfl⟩
  have Qw:bU<y*1048576:=by
   have:(r+1)*1048576<=y*1048576:=og _ EE;omega
  have LY:=Yy Qw aj;have aik:=auX (d:=d) (r:=r) PN.1 PN.2;rw[<-hc] at aik;have dK:=E8 (d::aP r) (by rw[jO];omega);rw[aik] at dK;simp only[ey,ae] at dK;have fP:=H3 (aP bU)
  have zY:∀bE:Nat,kS 180026 bE 1 1 8 (aP r).length (((aP r).map ae).flatten.map .I) (some (bE,[.I (.int .i64 d)]))=some (.ref 180026 (bE+1) 1 0 (1+(aP r).length),some (180026,bE+1,aV ae (d::aP r))):=λbE=>by
   have:=Ci jD yM 180026 bE 8 [d] (aP r) (by rw[sg];omega) (by rw[sg];omega);exact this
  have au1:∀(bE:Nat) (m:Mem),m 180026=some (bE,aV ae (d::aP r))->dz 6 m (.ref 180026 bE 1 0 (1+(aP r).length))=some (.X ((d::aP r).map ae)):=λbE m hm=>by
   have:=jU (n:=5) jD hm;rw[jO,Nat.add_comm (aP r).length 1] at this;exact this
  have oT:(((aP r).map ae).all λe=>D e==1)=true:=Wi _;have Yz:=au1 (fN (mem 180026)+1) (a9 (a9 mem 180026 (fN (mem 180026)) [R.I (.int .i64 d)]) 180026 (fN (mem 180026)+1) (aV ae (d::aP r))) (by simp[a9]);have p6:n<D a:=by omega
  obtain⟨cY,iu⟩:∃cY:Nat,cY=bU/y:=⟨_,rfl⟩;have YA:cY<1048576:=by rw[iu];exact Nat.div_lt_of_lt_mul Qw
  have LG:=Nat.div_add_mod bU y;have p3:=oX bU jo;rw[<-iu] at LG;have T1:bU-y*cY=bU%y:=by omega
  have aKx:(aP (y*cY)).length<=1001:=Yy (aii YA jo) aj
  have ail:CR [.X [[.int .i64 ((bU/y:Nat):Int)]]]=some (.own 1 ((aP cY).map ae)):=by
   have h:=E8 [((bU/y:Nat):Int)] (by simp);rw[<-iu,auW YA] at h;rw[<-iu];exact h
  have YB:=Yv y cY ⟨by omega,by have:(aP cY).length<=1:=gC.2 (by rw[Nat.pow_one];exact YA);omega⟩
  simp only[cx] at YB;have Qx:=Qu bU (y*cY) ⟨by omega,by omega,by omega⟩
  rw[T1] at Qx;simp only[cx] at Qx;have lW:n+1<=(aV ae o).length:=by rw[q8];omega
  have jk:=yT o n ((bU/y:Nat):Int) gw
  have jc:∃bm:Nat×Nat×R×List Int,bm.1<n+1/\bm.1<=D a/\bm.2.2.2.length=D a/\fe bm.2.2.2/\bm.2.1<y/\bs (a.drop bm.1)=y*bs (bm.2.2.2.drop bm.1)+bm.2.1/\(bm.2.2.1=.nil/\bm.2.1=0\/bm.2.2.1=.I (.X ((aP bm.2.1).map ae)))/\R.I (Data.int .i64 ((n:Int)-1))=R.I (Data.int .i64 ((bm.1:Int)-1))/\R.I (Data.X ((aP (bU%y)).map ae))=bm.2.2.1/\some (0,aV ae (o.set n ((bU/y:Nat):Int)))=some (0,aV ae bm.2.2.2):=by
   refine⟨(n,bU%y,.I (cx (bU%y)),o.set n ((bU/y:Nat):Int)),by dsimp only;omega,by dsimp only;omega,by simp[bS],Ay g5 n (by omega),p3,?_,.inr rfl,rfl,rfl,rfl⟩
   dsimp only;rw[Wm,uf,aD,Wp,uf,<-iu];have av:(bU:Int)=d+1048576*r:=by omega
   have aB:(y:Int)*cY+(bU%y:Nat)=bU:=by exact_mod_cast LG
   have bp:∀v:Int,(y:Int)*(cY+1048576*v)=y*cY+1048576*(y*v):=λv=>by rw[iN,Int.mul_left_comm]
   rw[bp];omega
  have main:Fb=.nil/\r=0\/Fb=.I (cx r):=LX;rcases main with ⟨rfl,hZ⟩|rfl
  ·subst hZ;have aim:=zY;simp only[ug,cC,ah6,nC] at aim;simp only[ug,nC] at Yz;simp only[ug,cC] at dK;simp only[go_sem,go_sem_proc,nr,ax,bV,cu,r5,hw,b2,aim,dK,fP,Yz,E7,se,ae,bj,cC];refine aih T uJ l1 y bU aj LY jo Qw (.I (.X (a.map ae))) (.ref 180014 0 1 0 (D a)) (.I (.int .i64 n)) _ _ ?_ ?_ ?_ ?_ ?_ ?_ ?_ ?_
   ·exact ax
   ·exact G
   ·exact b0
   ·rfl
   ·simp only[dk,cp,if_false,cu,hw]
   ·rfl
   ·rfl
   intro tm' ev cB fj iy jq kv;refine ak ?_;repeat' (intro (ay:_=_)<;>simp only[ay,go_sem,go_sem_proc,nr,uJ,l1,o3,ev,cB,fj,iy,jq,kv,hm,p6,lW,jk,ail,YB,Qx,oZ,dY]<;>try refine ai ?_ ?_)
   exact jc
  ·simp only[go_sem,go_sem_proc,nr,ax,bV,cu,r5,hw,b2,zY,oT,dK,fP,Yz,E7,se,cx,ae,aE,bj];refine aih T uJ l1 y bU aj LY jo Qw (.I (.X (a.map ae))) (.ref 180014 0 1 0 (D a)) (.I (.int .i64 n)) _ _ ?_ ?_ ?_ ?_ ?_ ?_ ?_ ?_
   ·exact ax
   ·exact G
   ·exact b0
   ·rfl
   ·simp only[dk,cp,if_false,cu,hw]
   ·rfl
   ·rfl
   intro tm' ev cB fj iy jq kv;refine ak ?_;repeat' (intro (ay:_=_)<;>simp only[ay,go_sem,go_sem_proc,nr,uJ,l1,o3,ev,cB,fj,iy,jq,kv,hm,p6,lW,jk,ail,YB,Qx,oZ,dY]<;>try refine ai ?_ ?_)
   exact jc
def CU:=cn PI λ(s,l)=>cN (D l<=1000000) (.same (.agg (ck (jn s l))))
@[go_sem] theorem aKy (s:Int)(l:List Int)(H:(D l)<=1000000):CU [.int .i64 s,.X (l.map ae)]=some (.same (.agg (ck (jn s l)))):=(cz agw (s,l)).trans (cX H _)
theorem au2 (T:bl)(nr:T uh=aQ CR)(s:Int)(l:List Int)(H:(D l)<=1000000):WP T Yc (.same (.agg (ck (jn s l)))) [.I (.int .i64 s),.I (.X (l.map ae))]:=by
 refine cD ?_;simp only[Yc];have dK:=E8 l H;have fP:=H3 (gg l);refine ak ?_;repeat' (intro h<;>simp only[h,go_sem,go_sem_proc,nr,dK,aE]<;>try refine ai ?_ ?_)
 all_goals simp only[jn,ck,cC, *,reduceIte,j3]
def xw:=cn Au λ(s,l)=>cN (D l<=1000000) (.same (.bool (dj (s,l))))
@[go_sem] theorem aKz (s:Int)(l:List Int)(H:(D l)<=1000000):xw [.agg [.int .i64 s,.X (l.map ae)]]=some (.same (.bool (dj (s,l)))):=(cz EA (s,l)).trans (cX H _)
theorem au3 (T:bl)  (s:Int) (l:List Int) (H:(D l)<=1000000):WP T X8 (.same (.bool (dj (s,l)))) [.I (.agg [.int .i64 s,.X (l.map ae)])]:=by
 refine cD ?_;simp only[X8];simp only[go_sem,go_sem_proc];refine cU [1] [162001] (λ(i:Nat) tm mem=>i<=D l/\l.all ov=(l.drop i).all ov/\tm 3=.I (.int .i64 i)) (λi=>D l-i) 0 (by refine⟨by omega,by simp,rfl⟩) ?_;intro vs ms aJ aH;simp only[go_sem,go_sem_proc] at aJ aH;subst aJ aH;rintro i tm mem L hm ⟨Q,aC,af⟩;simp only[go_sem,go_sem_proc,bk] at L hm;have G:=L;rcases dc (i<D l) with az|b2
 ·have ab:l.drop i=l[i]::l.drop (i+1):=h9 az;have M:l[i]?=some l[i]:=bq az;generalize l[i]=x at *;have d1:decide ((i:Int)<(D l:Int))=true:=cT
  have jc:∀b,ov x=true->b=(l.drop (i+1)).all ov->l.all ov=b:=by
   intro b G J;rw[aC,ab,w7,G,J,fD]
  have uj:¬ ov x=true->dj (s,l)=false:=by
   intro G;rw[Bool.not_eq_true] at G;unfold dj;rw[aC,ab,w7,G]
   rfl
  have bG:=ec (i:=i) (by omega);refine ak ?_;repeat' (intro (ay:_=_)<;>simp only[ay,go_sem,go_sem_proc,G,af,hm,M,d1,bG,ae,aE,bj]<;>try refine ai ?_ ?_)
  ·rw[uj λh=>by have:=(Lw x).1 h;(simp only[decide_eq_true_eq,decide_eq_false_iff_not,j3] at*<;> omega)]
  ·exact⟨i+1,by omega,by omega,jc _ ((Lw x).2 (by (simp only[decide_eq_true_eq,decide_eq_false_iff_not,j3] at*<;> omega))) rfl,rfl⟩
  ·rw[uj λh=>by have:=(Lw x).1 h;(simp only[decide_eq_true_eq,j3] at*<;> omega)]
 ·have he:l.drop i=[]:=List.drop_eq_nil_of_le (by omega);rw[he] at aC;have dB:l.all ov=true:=by rw[aC];rfl
  have d1:decide ((i:Int)<(D l:Int))=false:=cl;rcases List.eq_nil_or_concat l with rfl|⟨r,x,rfl⟩
  ·have d2:decide ((i:Int)<0)=false:=d1;refine ak ?_;repeat' (intro (ay:_=_)<;>simp only[ay,go_sem,go_sem_proc,G,af,hm,d2,nC,qh,beq_self_eq_true,cC,bne]<;>try refine ai ?_ ?_)
   all_goals (refine congrArg (λb=>some (Data.bool b)) ?_;unfold dj;simp;try simp only[decide_eq_true_eq,decide_eq_false_iff_not,beq_iff_eq,beq_eq_false_iff_ne,beq_eq_false_iff_ne,ne_eq] at *;omega)
  ·rw[List.concat_eq_append] at *;have b6:(((r++[x]).length:Int)==0)=false:=by simp;omega
   have hw:IntKind.i64.wrap (((r++[x]).length:Int)-1)=(D r:Int):=by
    have bO:(r++[x]).length=D r+1:=by simp
    rw[fh _];omega
   have bz:((r++[x]).map ae)[D r]?=some [.int .i64 x]:=by simp[ae]
   have Y:dj (s,r++[x])=((s==1||s == -1)&&decide (((r++[x]).length:Int)<=60)&&(x != 0)):=by
    unfold dj;rw[dB];simp only[List.getLast?_append,List.getLast?_singleton];simp;have av:decide (D r<=59)=decide ((D r:Int)+1<=60):=decide_eq_decide.2 (by omega);have aB:(some x != some (0:Int))=(x != 0):=by simp[bne]
    rw[av,aB]
   rw[Y];refine ak ?_;repeat' (intro (ay:_=_)<;>simp only[ay,go_sem,go_sem_proc,G,af,hm,d1,b6,hw,bz,aE]<;>try refine ai ?_ ?_)
   all_goals (refine congrArg (λb=>some (Data.bool b)) ?_;clear aC dB Y bz hw L hm G af d1;rw[AO];simp only[fw,Bool.or_eq_true,decide_eq_true_eq,decide_eq_false_iff_not,beq_iff_eq,beq_eq_false_iff_ne,Bool.not_eq_true',Bool.not_eq_false',ne_eq,j3,false_iff] at *;omega)
def Qy:=cn Au λ(s,l)=>cN (D l<=1000000) (.same (.agg (ck (hf (s,l)))))
@[go_sem] theorem aKA (s:Int)(l:List Int)(H:(D l)<=1000000):Qy [.agg [.int .i64 s,.X (l.map ae)]]=some (.same (.agg (ck (hf (s,l))))):=(cz EA (s,l)).trans (cX H _)
theorem au4 (T:bl)(gn:T ly=aQ xw)(je:T pH=aQ CU)(s:Int)(l:List Int)(H:(D l)<=1000000):WP T X9 (.same (.agg (ck (hf (s,l))))) [.I (.agg [.int .i64 s,.X (l.map ae)])]:=by
 refine cD ?_;simp only[X9]
 by_cases Y:dj (s,l)=true
 ·obtain⟨z,a3,e⟩:=(hM _).1 Y;have av:hf (s,l)=bf (-z):=by unfold hf;rw[ad Y,e,e8]
  cases e
  have hw:IntKind.i64.wrap (0-z.sign) = -z.sign:=by
   have:=Int.sign_trichotomy z;rw[fh _];omega
  rw[av];refine ak ?_;repeat' (intro h<;>simp only[h,go_sem,go_sem_proc,gn,je,Y,H,hw,ahz,ck]<;>try refine ai ?_ ?_)
 ·have Y:dj (s,l)=false:=by simpa using Y
  have av:hf (s,l)=(0,[]):=by unfold hf;rw[Y];rfl
  rw[av];refine ak ?_;repeat' (intro h<;>simp only[h,go_sem,go_sem_proc,gn,je,Y,H,ck,cC]<;>try refine ai ?_ ?_)
theorem ain (n:Int):(n.tmod 1048576).natAbs=n.natAbs%1048576:=by rw[Int.natAbs_tmod];rfl
theorem aio (n:Int):(n.tdiv 1048576).natAbs=n.natAbs/1048576:=by rw[Int.natAbs_tdiv];rfl
def Qz:=cn xb λ(n:Int)=>cN (dr n) (.same (.agg (ck (bf n))))
@[go_sem] theorem aKB (n:Int)(H:dr n):Qz [.int .i64 n]=some (.same (.agg (ck (bf n)))):=(cz At n).trans (cX H _)
theorem au5 (T:bl)(je:T pH=aQ CU)(n:Int)(H:dr n):WP T X7 (.same (.agg (ck (bf n)))) [.I (.int .i64 n)]:=by
 refine cD ?_;simp only[X7];have kV:=H;unfold dr at kV;obtain⟨wT,vo⟩:=kV;have hlen:(aP n.natAbs).length<=60:=gC.2 (td H);rcases dc (n=0) with rfl|mR
 ·refine ak ?_;repeat' (intro (ay:_=_)<;>simp only[ay,go_sem,go_sem_proc,je,ck,beq_self_eq_true]<;>try refine ai ?_ ?_)
  rfl
 have b6:(n==0)=false:=by simpa using mR
 have U:∀s:Int,s=n.sign->jn s (aP n.natAbs)=bf n:=λs h=>nM rfl λ_=>h;have CH:(aP n.natAbs).length<=1000000:=by omega
 rcases dc (n<0) with mr|iF
 ·have pO:=U (-1) (nk mr).symm;simp only[go_sem,go_sem_proc,b6,mr,decide_true];refine cU [2,3] [144002] (λ((u,g,l):Int×Nat×List Int) tm mem=>u<=0/\n<=u/\aP n.natAbs=l++aP u.natAbs/\tm 0=.I (.int .i64 u)/\tm 4=.ref 144022 g 1 0 (D l)/\mem 144022=some (g,aV ae l)) (λ(u,_)=>u.natAbs) (n,0,[]) (by refine⟨by omega,by omega,rfl,rfl,rfl,rfl⟩) ?_;intro vs ms aJ aH;simp only[go_sem,go_sem_proc] at aJ aH;subst aJ aH;rintro⟨u,g,l⟩ tm mem L hm ⟨hu,au6,ab,ax,aT,xx⟩;simp only[go_sem,go_sem_proc,bk] at L hm;obtain⟨J,af⟩:=L;rcases dc (u=0) with rfl|EV
  ·rw[show (0:Int).natAbs=0 from rfl,ug,gS] at ab;rw[ab] at pO CH;refine ak ?_;repeat' (intro (ay:_=_)<;>simp only[ay,go_sem,go_sem_proc,je,ax,J,af,aT,hm,xx,pO,CH,oW jD,nQ,ck,aE,beq_self_eq_true]<;>try refine ai ?_ ?_)
  ·have AA:(D l)<=60:=by
    have:=congrArg D ab;rw[fX] at this;omega
   have EK:(u==0)=false:=by simpa using EV
   have dv:=λd:Int=>jm jD yM 144022 g 8 l d (cs:=[.I (.int .i64 d)]) rfl (by omega) (by omega);have av:=ain u;have aB:=aio u;have bp:u.tmod 1048576<=0:=by have:=aip (a:=-u) 1048576 (by omega);rw[Int.neg_tmod] at this;omega
   have bM:u.tdiv 1048576<=0/\u<=u.tdiv 1048576:=by
    have:=aiq (a:=-u) (b:=1048576) (by omega) (by omega);rw[Int.neg_tdiv] at this;omega
   have s7:IntKind.i64.wrap (u.tdiv 1048576)=u.tdiv 1048576:=wrap64 _ (by omega) (by omega);have hz:IntKind.i64.wrap (0-u.tmod 1048576) = -(u.tmod 1048576):=by rw[fh _];omega
   have vO:=vA (n:=u.natAbs) (by omega)
   have jc:∀d:Int,d=((u.natAbs%1048576:Nat):Int)->∃bm:Int×Nat×List Int,bm.1.natAbs<u.natAbs/\bm.1<=0/\n<=bm.1/\aP n.natAbs=bm.2.2++aP bm.1.natAbs/\R.I (.int .i64 (u.tdiv 1048576))=R.I (.int .i64 bm.1)/\R.ref 144022 (g+1) 1 0 (D l+1)=R.ref 144022 bm.2.1 1 0 bm.2.2.length/\some (g+1,aV ae (l++[d]))=some (bm.2.1,aV ae bm.2.2):=by
    intro d B2;refine⟨(u.tdiv 1048576,g+1,l++[d]),by dsimp only;omega,by dsimp only;omega,by dsimp only;omega,?_,rfl,by simp,rfl⟩
    dsimp only;rw[ab,vO,B2,aB,gT]
    rfl
   by_cases a3:u.tmod 1048576<0
   ·refine ak ?_;repeat' (intro (ay:_=_)<;>simp only[ay,go_sem,go_sem_proc,je,ax,J,af,aT,hm,xx,EK,dv,s7,hz,a3,decide_true,aE,bk]<;>try refine ai ?_ ?_)
    exact jc _ (by omega)
   ·refine ak ?_;repeat' (intro (ay:_=_)<;>simp only[ay,go_sem,go_sem_proc,je,ax,J,af,aT,hm,xx,EK,dv,s7,hz,a3,decide_false,aE,bk]<;>try refine ai ?_ ?_)
    exact jc _ (by omega)
 ·have pO:=U 1 (g7 (by omega)).symm;simp only[go_sem,go_sem_proc,b6,iF,decide_false];refine cU [2,3] [144002] (λ((u,g,l):Int×Nat×List Int) tm mem=>0<=u/\u<=n/\aP n.natAbs=l++aP u.natAbs/\tm 0=.I (.int .i64 u)/\tm 4=.ref 144022 g 1 0 (D l)/\mem 144022=some (g,aV ae l)) (λ(u,_)=>u.natAbs) (n,0,[]) (by refine⟨by omega,by omega,rfl,rfl,rfl,rfl⟩) ?_;intro vs ms aJ aH;simp only[go_sem,go_sem_proc] at aJ aH;subst aJ aH;rintro⟨u,g,l⟩ tm mem L hm ⟨hu,au6,ab,ax,aT,xx⟩;simp only[go_sem,go_sem_proc,bk] at L hm;obtain⟨J,af⟩:=L;rcases dc (u=0) with rfl|EV
  ·rw[show (0:Int).natAbs=0 from rfl,ug,gS] at ab;rw[ab] at pO CH;refine ak ?_;repeat' (intro (ay:_=_)<;>simp only[ay,go_sem,go_sem_proc,je,ax,J,af,aT,hm,xx,pO,CH,oW jD,nQ,ck,aE,beq_self_eq_true]<;>try refine ai ?_ ?_)
  ·have AA:(D l)<=60:=by
    have:=congrArg D ab;rw[fX] at this;omega
   have EK:(u==0)=false:=by simpa using EV
   have dv:=λd:Int=>jm jD yM 144022 g 8 l d (cs:=[.I (.int .i64 d)]) rfl (by omega) (by omega);have av:=ain u;have aB:=aio u;have bp:=aip (a:=u) 1048576 (by omega);have bM:=aiq (a:=u) (b:=1048576) (by omega) (by omega);have s7:IntKind.i64.wrap (u.tdiv 1048576)=u.tdiv 1048576:=wrap64 _ (by omega) (by omega);have vO:=vA (n:=u.natAbs) (by omega);have a3:decide (u.tmod 1048576<0)=false:=cl;refine ak ?_;repeat' (intro (ay:_=_)<;>simp only[ay,go_sem,go_sem_proc,je,ax,J,af,aT,hm,xx,EK,dv,s7,a3,aE,bk]<;>try refine ai ?_ ?_)
   refine⟨(u.tdiv 1048576,g+1,l++[u.tmod 1048576]),by dsimp only;omega,by dsimp only;omega,by dsimp only;omega,?_,rfl,by simp,by first|rfl|simp[go_sem]⟩
   dsimp only;rw[ab,vO,aB,gT,show u.tmod 1048576=((u.natAbs%1048576:Nat):Int) by omega]
   rfl
def o4 (a b:Raw):Bool:=decide (a=b)
def YC:=cn qm λ(s,l,s2,aa)=>cN (D l<=1000000/\D aa<=1000000) (.same (.bool (o4 (s,l) (s2,aa))))
@[go_sem] theorem aKC (s:Int)(l:List Int)(s2:Int)(aa:List Int)(H:(D l)<=1000000/\D aa<=1000000):YC [.agg [.int .i64 s,.X (l.map ae)],.agg [.int .i64 s2,.X (aa.map ae)]]=some (.same (.bool (o4 (s,l) (s2,aa)))):=(cz sb (s,l,s2,aa)).trans (cX H _)
theorem au7 (T:bl)  (s:Int) (l:List Int) (s2:Int) (aa:List Int) (H:(D l)<=1000000/\D aa<=1000000):WP T Yo (.same (.bool (o4 (s,l) (s2,aa)))) [.I (.agg [.int .i64 s,.X (l.map ae)]),.I (.agg [.int .i64 s2,.X (aa.map ae)])]:=by
 refine cD ?_;simp only[Yo];obtain⟨bJ,bO⟩:=H
 by_cases U:s=s2
 ·subst U
  by_cases aw:(D l)=D aa
  ·have av:(((D l:Nat):Int)==((D aa:Nat):Int))=true:=by simp;omega
   simp only[go_sem,go_sem_proc,beq_self_eq_true,aE,av,cw,bne];refine cU [2,3] [210002,210003] (λ(i:Nat) tm mem=>i<=D l/\l.take i=aa.take i/\tm 5=.I (.int .i64 i)) (λi=>D l-i) 0 (by refine⟨by omega,by simp,rfl⟩) ?_;intro vs ms aJ aH;simp only[go_sem,go_sem_proc] at aJ aH;subst aJ aH;rintro i tm mem L hm ⟨Q,aC,bx⟩;simp only[go_sem,go_sem_proc,bk] at L hm;obtain⟨J,af⟩:=L;obtain⟨b7,gG⟩:=hm;rcases dc (i<D l) with az|b2
   ·have M:l[i]?=some l[i]:=bq az;have aj:aa[i]?=some aa[i]:=bq (by omega);have wT:l.take (i+1)=l.take i++[l[i]]:=by rw[gB,M];rfl
    have vo:aa.take (i+1)=aa.take i++[aa[i]]:=by rw[gB,aj];rfl
    generalize l[i]=x at *;generalize aa[i]=y at *;have d1:decide ((i:Int)<(D l:Int))=true:=cT;have bG:=ec (i:=i) (by omega)
    by_cases g4:x=y
    ·subst g4;refine ak ?_;repeat' (intro (ay:_=_)<;>simp only[ay,go_sem,go_sem_proc,J,af,bx,b7,gG,M,aj,d1,bG,ae,aE,bj,bk,beq_self_eq_true,cw]<;>try refine ai ?_ ?_)
     exact⟨i+1,by omega,by omega,by rw[wT,vo,aC],rfl⟩
    ·have b6:(x==y)=false:=by simpa using g4
     have Y:o4 (s,l) (s,aa)=false:=by
      refine h7 λh=>g4 ?_;rw[fS] at h;rw[h.2,aj] at M;exact (oh M).symm
     rw[Y];refine ak ?_;repeat' (intro (ay:_=_)<;>simp only[ay,go_sem,go_sem_proc,J,af,bx,b7,gG,M,aj,d1,bG,b6,ae,aE,bj,bk,db]<;>try refine ai ?_ ?_)
   ·have d1:decide ((i:Int)<(D l:Int))=false:=cl
    have Y:o4 (s,l) (s,aa)=true:=by
     refine jw ?_;rw[dp (by omega),dp (by omega)] at aC;rw[aC]
    rw[Y];refine ak ?_;repeat' (intro (ay:_=_)<;>simp only[ay,go_sem,go_sem_proc,J,af,bx,b7,gG,d1,aE]<;>try refine ai ?_ ?_)
  ·have av:(((D l:Nat):Int)==((D aa:Nat):Int))=false:=by simp;omega
   have Y:o4 (s,l) (s,aa)=false:=by
    refine h7 λh=>aw ?_;rw[fS] at h;rw[h.2]
   rw[Y];refine ak ?_;repeat' (intro (ay:_=_)<;>simp only[ay,go_sem,go_sem_proc,beq_self_eq_true,aE,av,cw,db,bne]<;>try refine ai ?_ ?_)
 ·have b6:(s==s2)=false:=by simpa using U
  have Y:o4 (s,l) (s2,aa)=false:=by
   refine h7 λh=>U ?_;rw[fS] at h;exact h.1
  rw[Y];refine ak ?_;repeat' (intro (ay:_=_)<;>simp only[ay,go_sem,go_sem_proc,b6,aE,cw,db,bne]<;>try refine ai ?_ ?_)
def QA:=cn Au λ(s,l)=>some (.same (dZ (y0 (s,l))))
@[go_sem] theorem aKD (s:Int)(l:List Int):QA [.agg [.int .i64 s,.X (l.map ae)]]=some (.same (dZ (y0 (s,l)))):=cz EA (s,l)
theorem au8 (T:bl)  (s:Int) (l:List Int):WP T Yn (.same (dZ (y0 (s,l)))) [.I (.agg [.int .i64 s,.X (l.map ae)])]:=by
 refine cD ?_;simp only[Yn];refine ak ?_;repeat' (intro h<;>simp only[h,go_sem,go_sem_proc,aE]<;>try refine ai ?_ ?_)
 all_goals (simp only[dZ,ck,y0];simp only[cC, *,reduceIte,j3])
theorem au9 {x y:Int}(h:bf x=bf y):x=y:=by rw[<-e8 x,h,e8]
def QB:=cn qm λ(s,l,s2,aa)=>cN (D l<=1000000/\D aa<=1000000) (.same (.int .i64 (oA (s,l) (s2,aa))))
@[go_sem] theorem aKE (s:Int)(l:List Int)(s2:Int)(aa:List Int)(H:(D l)<=1000000/\D aa<=1000000):QB [.agg [.int .i64 s,.X (l.map ae)],.agg [.int .i64 s2,.X (aa.map ae)]]=some (.same (.int .i64 (oA (s,l) (s2,aa)))):=(cz sb (s,l,s2,aa)).trans (cX H _)
theorem ava (T:bl)(gn:T ly=aQ xw)(Fc:T Vj=aQ YC)(l1:T Co=aQ H7)(s:Int)(l:List Int)(s2:Int)(aa:List Int)(H:(D l)<=1000000/\D aa<=1000000):WP T Yl (.same (.int .i64 (oA (s,l) (s2,aa)))) [.I (.agg [.int .i64 s,.X (l.map ae)]),.I (.agg [.int .i64 s2,.X (aa.map ae)])]:=by
 refine cD ?_;simp only[Yl];obtain⟨bJ,bO⟩:=H
 by_cases Y:dj (s,l)=true
 ·by_cases a8:dj (s2,aa)=true
  ·obtain⟨x,M,e⟩:=(hM _).1 Y;obtain⟨y,aj,aB⟩:=(hM _).1 a8;have hm:oA (s,l) (s2,aa)=gl x y:=by rw[e,aB];exact LB M aj
   rw[hm];clear hm
   have pP:o4 (s,l) (s2,aa)=decide (x=y):=by
    rw[e,aB];exact decide_eq_decide.2 ⟨au9,λh=>by rw[h]⟩
   cases e
   cases aB;have mv:=nN M;have mo:=nN aj
   by_cases g4:x=y
   ·subst g4;rw[jw rfl] at pP;rw[HS];refine ak ?_;repeat' (intro (ay:_=_)<;>simp only[ay,go_sem,go_sem_proc,gn,Fc,l1,Y,a8,bJ,bO,pP]<;>try refine ai ?_ ?_)
   ·rw[h7 g4] at pP;have fP:=Yr x.natAbs y.natAbs ⟨by omega,by omega⟩
    simp only[cx] at fP
    have A2:gl x y=if x<y then -1 else 1:=by
     rcases uv x y with h|h|h
     ·rw[AG h,ad h]
     ·exact absurd h g4
     ·rw[EP h,ag (by omega)]
    rw[A2]
    by_cases U:x.sign=y.sign
    ·have xn:(x.sign==y.sign)=true:=by simpa using U
     have ks:(decide (x.natAbs<y.natAbs)==decide (x.sign>0))=decide (x<y):=by
      rw[Bool.beq_eq_decide_eq,decide_eq_decide];simp only[decide_eq_decide];rcases k2 x with ⟨e,G⟩|⟨e,G⟩|⟨e,G⟩<;>rcases k2 y with ⟨e',J⟩|⟨e',J⟩|⟨e',J⟩<;>rw[e,e'] at U<;>first|omega|skip
     by_cases az:x<y
     ·rw[jw az] at ks;rw[ad az];refine ak ?_;repeat' (intro (ay:_=_)<;>simp only[ay,go_sem,go_sem_proc,gn,Fc,l1,Y,a8,bJ,bO,pP,xn,fP,ks,cw,bne]<;>try refine ai ?_ ?_)
     ·rw[h7 az] at ks;rw[ag az];refine ak ?_;repeat' (intro (ay:_=_)<;>simp only[ay,go_sem,go_sem_proc,gn,Fc,l1,Y,a8,bJ,bO,pP,xn,fP,ks,cw,bne]<;>try refine ai ?_ ?_)
    ·have xn:(x.sign==y.sign)=false:=by simpa using U
     have ks:decide (x.sign<y.sign)=decide (x<y):=by
      rw[decide_eq_decide];rcases k2 x with ⟨e,G⟩|⟨e,G⟩|⟨e,G⟩<;>rcases k2 y with ⟨e',J⟩|⟨e',J⟩|⟨e',J⟩<;>rw[e,e'] at U ⊢<;>omega
     by_cases az:x<y
     ·rw[jw az] at ks;rw[ad az];refine ak ?_;repeat' (intro (ay:_=_)<;>simp only[ay,go_sem,go_sem_proc,gn,Fc,l1,Y,a8,bJ,bO,pP,xn,ks,db,bne]<;>try refine ai ?_ ?_)
     ·rw[h7 az] at ks;rw[ag az];refine ak ?_;repeat' (intro (ay:_=_)<;>simp only[ay,go_sem,go_sem_proc,gn,Fc,l1,Y,a8,bJ,bO,pP,xn,ks,db,bne]<;>try refine ai ?_ ?_)
  ·have a8:dj (s2,aa)=false:=by simpa using a8
   have hm:oA (s,l) (s2,aa)=0:=by unfold oA;rw[a8,jB];rfl
   rw[hm];refine ak ?_;repeat' (intro (ay:_=_)<;>simp only[ay,go_sem,go_sem_proc,gn,Fc,l1,Y,a8,bJ,bO]<;>try refine ai ?_ ?_)
 ·have Y:dj (s,l)=false:=by simpa using Y
  have hm:oA (s,l) (s2,aa)=0:=by unfold oA;rw[Y,eR];rfl
  rw[hm];refine ak ?_;repeat' (intro (ay:_=_)<;>simp only[ay,go_sem,go_sem_proc,gn,Fc,l1,Y,bJ,bO]<;>try refine ai ?_ ?_)
def QC:=cn qm λ(s,l,s2,aa)=>cN (D l<=1000000/\D aa<=1000000) (.same (dZ (lB (s,l) (s2,aa))))
@[go_sem] theorem aKF (s:Int)(l:List Int)(s2:Int)(aa:List Int)(H:(D l)<=1000000/\D aa<=1000000):QC [.agg [.int .i64 s,.X (l.map ae)],.agg [.int .i64 s2,.X (aa.map ae)]]=some (.same (dZ (lB (s,l) (s2,aa)))):=(cz sb (s,l,s2,aa)).trans (cX H _)
theorem avb (T:bl)(gn:T ly=aQ xw)(xy:T KY=aQ Qv)(je:T pH=aQ CU)(s:Int)(l:List Int)(s2:Int)(aa:List Int)(H:(D l)<=1000000/\D aa<=1000000):WP T Ya (.same (dZ (lB (s,l) (s2,aa)))) [.I (.agg [.int .i64 s,.X (l.map ae)]),.I (.agg [.int .i64 s2,.X (aa.map ae)])]:=by
 refine cD ?_;simp only[Ya];obtain⟨bJ,bO⟩:=H
 by_cases Y:dj (s,l)=true
 ·by_cases a8:dj (s2,aa)=true
  ·obtain⟨x,M,e⟩:=(hM _).1 Y;obtain⟨y,aj,aB⟩:=(hM _).1 a8
   have hm:lB (s,l) (s2,aa)=(bf (gU x.natAbs y.natAbs:Nat),0):=by
    rw[e,aB];unfold lB
    rw[kx M,kx aj,e8,e8]
    rfl
   rw[hm];clear hm
   cases e
   cases aB;have mv:=nN M;have mo:=nN aj;have bz:=HT M aj;generalize ku:x.natAbs=bu at *;generalize LC:y.natAbs=g8 at *;have W6:(aP bu).length<=1000000:=by omega
   simp only[go_sem,go_sem_proc,gn,Y,a8,bJ,bO];refine cU [4] [164004] (λ((a,b):Nat×Nat) tm mem=>a<dQ/\b<dQ/\gU bu g8=gU a b/\tm 6=.I (.X ((aP a).map ae))/\tm 7=.I (.X ((aP b).map ae))) (λ(_,b)=>b) (bu,g8) (by refine⟨M,aj,rfl,rfl,rfl⟩) ?_;intro vs ms aJ aH;simp only[go_sem,go_sem_proc] at aJ aH;subst aJ aH;rintro⟨a,b⟩ tm mem L hm ⟨aW,ah,xp,b0,bV⟩;simp only[go_sem,go_sem_proc,bk] at L hm;have aT:=L;have oq:(aP a).length<=60:=gC.2 aW;have r6:(aP b).length<=60:=gC.2 ah;rcases ko b with ax|iF
   ·subst ax;have a3:aP 0=[]:=rfl;have W7:(aP a).length<=1000000:=by omega
    rw[Nat.gcd_zero_right] at xp;have U:jn 1 (aP a)=bf ((a:Nat):Int):=nM (by simp) λaM=>(g7 (by omega)).symm;rw[xp];refine ak ?_;repeat' (intro h<;>simp only[h,go_sem,go_sem_proc,gn,xy,je,aT,b0,bV,hm,a3,W7,U,ck,dZ,pJ,cC,nC,qg,qh,show ¬ ((0:Int)>0) by omega,decide_false]<;>try refine ai ?_ ?_)
   ·have b6:decide (((aP b).length:Int)>0)=true:=by
     have:aP b≠[]:=by rw[Ne,Ak];omega
     have:=LD.2 this;exact cT
    have hdiv:=aij a b ⟨by omega,by omega,iF⟩
    simp only[cx] at hdiv;refine ak ?_;repeat' (intro h<;>simp only[h,go_sem,go_sem_proc,gn,xy,je,aT,b0,bV,hm,b6,hdiv,aE]<;>try refine ai ?_ ?_)
    exact⟨(b,a%b),oX _ iF,ah,uo (Nat.mod_le _ _) aW,by dsimp only;rw[xp,LF a b,Nat.gcd_rec b a,LF],rfl,rfl⟩
  ·have a8:dj (s2,aa)=false:=by simpa using a8
   have hm:lB (s,l) (s2,aa)=((0,[]),1):=by unfold lB;rw[a8,jB];rfl
   rw[hm];refine ak ?_;repeat' (intro h<;>simp only[h,go_sem,go_sem_proc,gn,xy,je,Y,a8,bJ,bO,ck,dZ,cC]<;>try refine ai ?_ ?_)
 ·have Y:dj (s,l)=false:=by simpa using Y
  have hm:lB (s,l) (s2,aa)=((0,[]),1):=by unfold lB;rw[Y,eR];rfl
  rw[hm];refine ak ?_;repeat' (intro h<;>simp only[h,go_sem,go_sem_proc,gn,xy,je,Y,bJ,bO,ck,dZ,cC]<;>try refine ai ?_ ?_)
def Ia:=cn qm λ(s,l,s2,aa)=>cN (D l<=1000000/\D aa<=1000000) (.same (dZ (mulR (s,l) (s2,aa))))
@[go_sem] theorem aKG (s:Int)(l:List Int)(s2:Int)(aa:List Int)(H:(D l)<=1000000/\D aa<=1000000):Ia [.agg [.int .i64 s,.X (l.map ae)],.agg [.int .i64 s2,.X (aa.map ae)]]=some (.same (dZ (mulR (s,l) (s2,aa)))):=(cz sb (s,l,s2,aa)).trans (cX H _)
theorem avc (T:bl)(gn:T ly=aQ xw)(uJ:T Es=aQ LW)(je:T pH=aQ CU)(xz:T Et=aQ QA)(s:Int)(l:List Int)(s2:Int)(aa:List Int)(H:(D l)<=1000000/\D aa<=1000000):WP T Yj (.same (dZ (mulR (s,l) (s2,aa)))) [.I (.agg [.int .i64 s,.X (l.map ae)]),.I (.agg [.int .i64 s2,.X (aa.map ae)])]:=by
 refine cD ?_;simp only[Yj];obtain⟨bJ,bO⟩:=H
 by_cases Y:dj (s,l)=true
 ·by_cases a8:dj (s2,aa)=true
  ·obtain⟨x,M,e⟩:=(hM _).1 Y;obtain⟨y,aj,aB⟩:=(hM _).1 a8;have hm:mulR (s,l) (s2,aa)=o1 (x*y):=by rw[e,aB];exact uA M aj
   rw[hm];clear hm
   cases e
   cases aB;have G:=nO x;have J:=nO y;have aF:x.sign*y.sign=(x*y).sign:=(oz x y).symm;have af:=nO (x*y);have hw:IntKind.i64.wrap (x.sign*y.sign)=(x*y).sign:=by rw[aF];exact wrap64 _ (by omega) (by omega)
   have hmul:=Yv x.natAbs y.natAbs ⟨e4 (nN M) (by omega),e4 (nN aj) (by omega)⟩;simp only[cx] at hmul
   have hlen:(aP (x.natAbs*y.natAbs)).length<=1000000:=by
    refine e4 ((gC (k:=120)).2 ?_) (by omega);have:(1048576^120:Nat)=dQ*dQ:=by unfold dQ;rw[<-Nat.pow_add]
    rw[this];exact Nat.mul_lt_mul'' M aj
   have U:jn (x*y).sign (aP (x.natAbs*y.natAbs))=bf (x*y):=nM (Int.natAbs_mul x y) λ_=>rfl;refine ak ?_;repeat' (intro h<;>simp only[h,go_sem,go_sem_proc,gn,uJ,je,xz,Y,a8,bJ,bO,hw,hmul,hlen,U,xm,ck,dZ,pJ]<;>try refine ai ?_ ?_)
  ·have a8:dj (s2,aa)=false:=by simpa using a8
   have hm:mulR (s,l) (s2,aa)=((0,[]),1):=by unfold mulR;rw[a8,jB];rfl
   rw[hm];refine ak ?_;repeat' (intro h<;>simp only[h,go_sem,go_sem_proc,gn,uJ,je,xz,Y,a8,bJ,bO,ck,dZ,cC]<;>try refine ai ?_ ?_)
 ·have Y:dj (s,l)=false:=by simpa using Y
  have hm:mulR (s,l) (s2,aa)=((0,[]),1):=by unfold mulR;rw[Y,eR];rfl
  rw[hm];refine ak ?_;repeat' (intro h<;>simp only[h,go_sem,go_sem_proc,gn,uJ,je,xz,Y,bJ,bO,ck,dZ,cC]<;>try refine ai ?_ ?_)
def QD:=cn qm λ(s,l,s2,aa)=>cN (D l<=1000000/\D aa<=1000000) (.same (dZ (ky (s,l) (s2,aa))))
@[go_sem] theorem aKH (s:Int)(l:List Int)(s2:Int)(aa:List Int)(H:(D l)<=1000000/\D aa<=1000000):QD [.agg [.int .i64 s,.X (l.map ae)],.agg [.int .i64 s2,.X (aa.map ae)]]=some (.same (dZ (ky (s,l) (s2,aa)))):=(cz sb (s,l,s2,aa)).trans (cX H _)
theorem avd (T:bl)(gn:T ly=aQ xw)(ti:T KZ=aQ Qt)(l1:T Co=aQ H7)(o3:T Cn=aQ LV)(je:T pH=aQ CU)(xz:T Et=aQ QA)(s:Int)(l:List Int)(s2:Int)(aa:List Int)(H:(D l)<=1000000/\D aa<=1000000):WP T Ym (.same (dZ (ky (s,l) (s2,aa)))) [.I (.agg [.int .i64 s,.X (l.map ae)]),.I (.agg [.int .i64 s2,.X (aa.map ae)])]:=by
 refine cD ?_;simp only[Ym];obtain⟨bJ,bO⟩:=H
 by_cases Y:dj (s,l)=true
 ·by_cases a8:dj (s2,aa)=true
  ·obtain⟨x,M,e⟩:=(hM _).1 Y;obtain⟨y,aj,aB⟩:=(hM _).1 a8;have hm:ky (s,l) (s2,aa)=o1 (x+y):=by rw[e,aB];exact Lz M aj
   rw[hm];clear hm
   cases e
   cases aB;have G:=nO x;have J:=nO y;have mv:=nN M;have mo:=nN aj;have HR:=HN x;have atC:=HN y
   have o2:(x.sign=1/\0<x)\/(x.sign=0/\x=0)\/(x.sign = -1/\x<0):=by
    rcases uv x 0 with h|h|h
    ·exact .inr (.inr ⟨nk h,h⟩)
    ·exact .inr (.inl ⟨by rw[h];rfl,h⟩)
    ·exact .inl ⟨g7 h,h⟩
   have ty:(y.sign=1/\0<y)\/(y.sign=0/\y=0)\/(y.sign = -1/\y<0):=by
    rcases uv y 0 with h|h|h
    ·exact .inr (.inr ⟨nk h,h⟩)
    ·exact .inr (.inl ⟨by rw[h];rfl,h⟩)
    ·exact .inl ⟨g7 h,h⟩
   have hN:=aid x.natAbs y.natAbs ⟨by omega,by omega⟩
   simp only[cx] at hN
   have hlen:(aP (x.natAbs+y.natAbs)).length<=1000000:=by
    refine e4 ((gC (k:=61)).2 ?_) (by omega);have:(1048576^61:Nat)=dQ*1048576:=by unfold dQ;rw[<-vB]
    omega
   have fs:=Yr x.natAbs y.natAbs ⟨by omega,by omega⟩
   simp only[cx] at fs
   by_cases aF:x.sign*y.sign>=0
   ·have vL:bits .or .i64 x.sign y.sign=xc [x.sign,y.sign]:=by
     rcases o2 with ⟨e,_⟩|⟨e,_⟩|⟨e,_⟩<;>rcases ty with ⟨e',_⟩|⟨e',_⟩|⟨e',_⟩<;>rw[e,e'] at aF ⊢<;>first|rfl|exact absurd aF (by decide)
    have U:jn (xc [x.sign,y.sign]) (aP (x.natAbs+y.natAbs))=bf (x+y):=by
     refine nM ?_ ?_
     ·rcases o2 with ⟨e,_⟩|⟨e,_⟩|⟨e,_⟩<;>rcases ty with ⟨e',_⟩|⟨e',_⟩|⟨e',_⟩<;>rw[e,e'] at aF<;>omega
     ·intro aM;rcases o2 with ⟨e,_⟩|⟨e,_⟩|⟨e,_⟩<;>rcases ty with ⟨e',_⟩|⟨e',_⟩|⟨e',_⟩<;>rw[e,e'] at aF ⊢
      ·exact (g7 (by omega)).symm
      ·exact (g7 (by omega)).symm
      ·omega
      ·exact (g7 (by omega)).symm
      ·omega
      ·exact (nk (by omega)).symm
      ·omega
      ·exact (nk (by omega)).symm
      ·exact (nk (by omega)).symm
    rcases aq:(x.sign==0)
    ·rcases c2:(y.sign==0)
     ·have c3:(x.sign==y.sign)=true:=by
       rw[beq_eq_false_iff_ne] at aq c2;rw[beq_iff_eq];rcases o2 with ⟨e,_⟩|⟨e,_⟩|⟨e,_⟩<;>rcases ty with ⟨e',_⟩|⟨e',_⟩|⟨e',_⟩<;>rw[e,e'] at aF ⊢<;>omega
      refine ak ?_;repeat' (intro (ay:_=_)<;>simp only[ay,go_sem,go_sem_proc,gn,ti,l1,o3,je,xz,Y,a8,bJ,bO,aq,c2,c3,vL,hN,hlen,U,xm,ck,dZ,pJ]<;>try refine ai ?_ ?_)
     ·refine ak ?_;repeat' (intro (ay:_=_)<;>simp only[ay,go_sem,go_sem_proc,gn,ti,l1,o3,je,xz,Y,a8,bJ,bO,aq,c2,vL,hN,hlen,U,xm,ck,dZ,pJ]<;>try refine ai ?_ ?_)
    ·refine ak ?_;repeat' (intro (ay:_=_)<;>simp only[ay,go_sem,go_sem_proc,gn,ti,l1,o3,je,xz,Y,a8,bJ,bO,aq,vL,hN,hlen,U,xm,ck,dZ,pJ]<;>try refine ai ?_ ?_)
   ·have aq:(x.sign==0)=false:=by
     rw[beq_eq_false_iff_ne];rcases o2 with ⟨e,_⟩|⟨e,_⟩|⟨e,_⟩<;>rw[e] at aF ⊢<;>omega
    have c2:(y.sign==0)=false:=by
     rw[beq_eq_false_iff_ne];rcases ty with ⟨e,_⟩|⟨e,_⟩|⟨e,_⟩<;>rw[e] at aF ⊢<;>omega
    have c3:(x.sign==y.sign)=false:=by
     rw[beq_eq_false_iff_ne];rcases o2 with ⟨e,_⟩|⟨e,_⟩|⟨e,_⟩<;>rcases ty with ⟨e',_⟩|⟨e',_⟩|⟨e',_⟩<;>rw[e,e'] at aF ⊢<;>omega
    by_cases az:x.natAbs<y.natAbs
    ·have qo:decide (x.natAbs<y.natAbs)=true:=jw az;have mY:=Qu y.natAbs x.natAbs ⟨by omega,by omega⟩
     simp only[cx] at mY;have EO:(aP (y.natAbs-x.natAbs)).length<=1000000:=e4 (HQ _ _) (by omega)
     have U:jn y.sign (aP (y.natAbs-x.natAbs))=bf (x+y):=by
      refine nM ?_ ?_
      ·rcases o2 with ⟨e,_⟩|⟨e,_⟩|⟨e,_⟩<;>rcases ty with ⟨e',_⟩|⟨e',_⟩|⟨e',_⟩<;>rw[e,e'] at aF<;>omega
      ·intro aM;rcases o2 with ⟨e,_⟩|⟨e,_⟩|⟨e,_⟩<;>rcases ty with ⟨e',_⟩|⟨e',_⟩|⟨e',_⟩<;>rw[e,e'] at aF<;>rw[e']<;>first|omega|exact (g7 (by omega)).symm|exact (nk (by omega)).symm
     refine ak ?_;repeat' (intro (ay:_=_)<;>simp only[ay,go_sem,go_sem_proc,gn,ti,l1,o3,je,xz,Y,a8,bJ,bO,aq,c2,c3,fs,qo,mY,EO,U,xm,ck,dZ,pJ]<;>try refine ai ?_ ?_)
    ·have qo:decide (x.natAbs<y.natAbs)=false:=h7 az;have mY:=Qu x.natAbs y.natAbs ⟨by omega,by omega⟩
     simp only[cx] at mY;have EO:(aP (x.natAbs-y.natAbs)).length<=1000000:=e4 (HQ _ _) (by omega)
     have U:jn x.sign (aP (x.natAbs-y.natAbs))=bf (x+y):=by
      refine nM ?_ ?_
      ·rcases o2 with ⟨e,_⟩|⟨e,_⟩|⟨e,_⟩<;>rcases ty with ⟨e',_⟩|⟨e',_⟩|⟨e',_⟩<;>rw[e,e'] at aF<;>omega
      ·intro aM;rcases o2 with ⟨e,_⟩|⟨e,_⟩|⟨e,_⟩<;>rcases ty with ⟨e',_⟩|⟨e',_⟩|⟨e',_⟩<;>rw[e,e'] at aF<;>rw[e]<;>first|omega|exact (g7 (by omega)).symm|exact (nk (by omega)).symm
     refine ak ?_;repeat' (intro (ay:_=_)<;>simp only[ay,go_sem,go_sem_proc,gn,ti,l1,o3,je,xz,Y,a8,bJ,bO,aq,c2,c3,fs,qo,mY,EO,U,xm,ck,dZ,pJ]<;>try refine ai ?_ ?_)
  ·have a8:dj (s2,aa)=false:=by simpa using a8
   have hm:ky (s,l) (s2,aa)=((0,[]),1):=by unfold ky;rw[a8,jB];rfl
   rw[hm];refine ak ?_;repeat' (intro (ay:_=_)<;>simp only[ay,go_sem,go_sem_proc,gn,ti,l1,o3,je,xz,Y,a8,bJ,bO,ck,dZ,cC]<;>try refine ai ?_ ?_)
 ·have Y:dj (s,l)=false:=by simpa using Y
  have hm:ky (s,l) (s2,aa)=((0,[]),1):=by unfold ky;rw[Y,eR];rfl
  rw[hm];refine ak ?_;repeat' (intro (ay:_=_)<;>simp only[ay,go_sem,go_sem_proc,gn,ti,l1,o3,je,xz,Y,bJ,bO,ck,dZ,cC]<;>try refine ai ?_ ?_)
theorem ave (b:Raw):(hf b).2.length<=60:=by
 unfold hf
 split
 ·rename_i h;obtain⟨z,a3,e⟩:=(hM _).1 h;rw[e,e8];exact gC.2 (by rw[xq];exact a3)
 ·exact fm _
def v7 (a b:Raw):Raw×Int:=if dj b=true then ky a (hf b) else ((0,[]),1)
theorem YD {z:Int}(h:z.natAbs<dQ):hf (bf z)=bf (-z):=by unfold hf;rw[ad (kx h),e8]
theorem avf {x y:Int}(M:x.natAbs<dQ)(aj:y.natAbs<dQ):v7 (bf x) (bf y)=o1 (x-y):=by
 unfold v7;rw[ad (kx aj),YD aj,Lz M (by rw[xq];exact aj)]
 rfl
def YE:=cn qm λ(s,l,s2,aa)=>cN (D l<=1000000/\D aa<=1000000) (.same (dZ (v7 (s,l) (s2,aa))))
@[go_sem] theorem aKI (s:Int)(l:List Int)(s2:Int)(aa:List Int)(H:(D l)<=1000000/\D aa<=1000000):YE [.agg [.int .i64 s,.X (l.map ae)],.agg [.int .i64 s2,.X (aa.map ae)]]=some (.same (dZ (v7 (s,l) (s2,aa)))):=(cz sb (s,l,s2,aa)).trans (cX H _)
theorem avg (T:bl)(gn:T ly=aQ xw)(CV:T Hk=aQ Qy)(y9:T K1=aQ QD)(s:Int)(l:List Int)(s2:Int)(aa:List Int)(H:(D l)<=1000000/\D aa<=1000000):WP T Yk (.same (dZ (v7 (s,l) (s2,aa)))) [.I (.agg [.int .i64 s,.X (l.map ae)]),.I (.agg [.int .i64 s2,.X (aa.map ae)])]:=by
 refine cD ?_;simp only[Yk];obtain⟨bJ,bO⟩:=H;unfold v7
 by_cases a8:dj (s2,aa)=true
 ·rw[ad a8];have p6:=ave (s2,aa);rcases aM:hf (s2,aa) with ⟨bK,bh⟩;rw[aM] at p6;dsimp only at p6;have avh:(D bh)<=1000000:=by omega
  refine ak ?_;repeat' (intro h<;>simp only[h,go_sem,go_sem_proc,gn,CV,y9,a8,bJ,bO,aM,avh,ck,dZ]<;>try refine ai ?_ ?_)
 ·have a8:dj (s2,aa)=false:=by simpa using a8
  refine ak ?_;repeat' (intro h<;>simp only[h,go_sem,go_sem_proc,gn,CV,y9,a8,bO,ck,dZ,cC]<;>try refine ai ?_ ?_)
def QE:=cn qm λ(s,l,s2,aa)=>cN (D l<=1000000/\D aa<=1000000) (.same (jH (k3 (s,l) (s2,aa))))
@[go_sem] theorem aKJ (s:Int)(l:List Int)(s2:Int)(aa:List Int)(H:(D l)<=1000000/\D aa<=1000000):QE [.agg [.int .i64 s,.X (l.map ae)],.agg [.int .i64 s2,.X (aa.map ae)]]=some (.same (jH (k3 (s,l) (s2,aa)))):=(cz sb (s,l,s2,aa)).trans (cX H _)
theorem avi (T:bl)(gn:T ly=aQ xw)(xy:T KY=aQ Qv)(ti:T KZ=aQ Qt)(o3:T Cn=aQ LV)(je:T pH=aQ CU)(s:Int)(l:List Int)(s2:Int)(aa:List Int)(H:(D l)<=1000000/\D aa<=1000000):WP T Yb (.same (jH (k3 (s,l) (s2,aa)))) [.I (.agg [.int .i64 s,.X (l.map ae)]),.I (.agg [.int .i64 s2,.X (aa.map ae)])]:=by
 refine cD ?_;simp only[Yb];obtain⟨bJ,bO⟩:=H
 by_cases Y:dj (s,l)=true
 ·by_cases a8:dj (s2,aa)=true
  ·obtain⟨x,M,e⟩:=(hM _).1 Y;obtain⟨y,aj,aB⟩:=(hM _).1 a8
   by_cases jo:y=0
   ·have hm:k3 (s,l) (s2,aa)=((0,[]),(0,[]),15):=by
     rw[e,aB];unfold k3
     rw[kx M,kx aj,e8,e8,ad (by rfl),ad jo]
    rw[hm]
    cases e
    cases aB;have ax:((y.sign:Int)==0)=true:=by rw[jo];rfl
    refine ak ?_;repeat' (intro (ay:_=_)<;>simp only[ay,go_sem,go_sem_proc,gn,xy,ti,o3,je,Y,a8,bJ,bO,ax,ck,jH,cC]<;>try refine ai ?_ ?_)
   ·have hm:k3 (s,l) (s2,aa)=(bf (x.fdiv y),bf (x.fmod y),0):=by
     rw[e,aB];exact AH M aj jo
    rw[hm];clear hm
    cases e
    cases aB;have mv:=nN M;have mo:=nN aj;have ER:(y.sign==0)=false:=by rw[beq_eq_false_iff_ne,Ne,ahU];exact jo
    have ES:0<y.natAbs:=by omega
    have G:=nO x;have J:=nO y;have aF:x.sign*y.sign=(x*y).sign:=(oz x y).symm;have af:=nO (x*y);have hw:IntKind.i64.wrap (x.sign*y.sign)=x.sign*y.sign:=by rw[aF];exact wrap64 _ (by omega) (by omega)
    have hdiv:=aij x.natAbs y.natAbs ⟨by omega,by omega,ES⟩
    simp only[cx] at hdiv;have bF:=HU (y:=y) M jo;have rb:=ahG (x:=x) aj jo;have W8:x.natAbs/y.natAbs<dQ:=uo (Nat.div_le_self _ _) M;have atG:(aP (x.natAbs/y.natAbs)).length<=60:=gC.2 W8;have AJ:x.natAbs%y.natAbs<dQ:=Nat.lt_trans (oX _ ES) aj;have atH:(aP (x.natAbs%y.natAbs)).length<=60:=gC.2 AJ
    by_cases uB:x.sign*y.sign<0/\x.natAbs%y.natAbs≠0
    ·obtain⟨eq,uC⟩:=P4 uB.1 uB.2
     have b6:(((aP (x.natAbs%y.natAbs)).length:Int)==0)=false:=by
      have:aP (x.natAbs%y.natAbs)≠[]:=by rw[Ne,Ak];exact uB.2
      have:=LD.2 this;rw[beq_eq_false_iff_ne];omega
     have mr:decide (x.sign*y.sign>=0)=false:=h7 (by have:=uB.1;omega);have kt:aP 1=[1]:=by simp[aP,yL]
     have atI:(aP 1).length=1:=by rw[kt];rfl
     have hN:=aid (x.natAbs/y.natAbs) 1 ⟨by omega,by omega⟩
     simp only[cx,kt,ey,cC,ae] at hN;have mY:=Qu y.natAbs (x.natAbs%y.natAbs) ⟨by omega,by omega,HV (oX _ ES)⟩
     simp only[cx] at mY
     have oq:(aP (x.natAbs/y.natAbs+1)).length<=1000000:=by
      have:(x.natAbs/y.natAbs+1)<dQ:=by rw[eq] at bF;rw[xq,k4] at bF;exact bF
      have:=(gC (k:=60)).2 this;omega
     have r6:(aP (y.natAbs-x.natAbs%y.natAbs)).length<=1000000:=by have:=HQ y.natAbs (x.natAbs%y.natAbs);omega
     have iS:jn (-1) (aP (x.natAbs/y.natAbs+1))=bf (x.fdiv y):=nM (by rw[eq,xq,k4]) λ_=>by rw[eq,EN,g7 (show (0:Int)<((x.natAbs/y.natAbs+1:Nat):Int) by exact CG.2 (Nat.succ_pos _))]
     have nP:jn y.sign (aP (y.natAbs-x.natAbs%y.natAbs))=bf (x.fmod y):=by
      refine nM ?_ λaM=>?_
      ·rw[uC];rcases k2 y with ⟨e',af⟩|⟨e',af⟩|⟨e',af⟩<;>rw[e']<;>omega
      ·rw[uC,oz,AK,g7 (show (0:Int)<((y.natAbs-x.natAbs%y.natAbs:Nat):Int) by omega),r3]
     refine ak ?_;repeat' (intro (ay:_=_)<;>simp only[ay,go_sem,go_sem_proc,gn,xy,ti,o3,je,Y,a8,bJ,bO,ER,hw,hdiv,b6,mr,hN,mY,oq,r6,iS,nP,ae,aE,ck,jH,pJ]<;>try refine ai ?_ ?_)
    ·obtain⟨eq,uC⟩:=P5 jo uB
     have W9:(decide (x.sign*y.sign>=0)=false/\(((aP (x.natAbs%y.natAbs)).length:Int)==0)=true)\/decide (x.sign*y.sign>=0)=true:=by
      by_cases aM:x.sign*y.sign<0
      ·left
       have:x.natAbs%y.natAbs=0:=Decidable.not_not.1 λh=>uB ⟨aM,h⟩;rw[this];exact⟨cl,rfl⟩
      ·right;exact cT
     have oq:(aP (x.natAbs/y.natAbs)).length<=1000000:=by omega
     have r6:(aP (x.natAbs%y.natAbs)).length<=1000000:=by omega
     have iS:jn (x.sign*y.sign) (aP (x.natAbs/y.natAbs))=bf (x.fdiv y):=by
      refine nM ?_ λaM=>?_
      ·rw[eq]
       have ET:∀aZ:Nat,(x=0->aZ=0)->(x.sign*y.sign*(aZ:Int)).natAbs=aZ:=by
        intro aZ ax;rcases k2 x with ⟨e,G⟩|⟨e,G⟩|⟨e,G⟩<;>rcases k2 y with ⟨e',af⟩|⟨e',af⟩|⟨e',af⟩<;>rw[e,e']<;>first|omega|(rw[ax G];rfl)
       exact ET _ λax=>by rw[ax];exact aia _
      ·rw[eq,aF,oz,oz,oz,AK,AK,g7 (show (0:Int)<((x.natAbs/y.natAbs:Nat):Int) from CG.2 (Hf aM)),r3]
     have nP:jn x.sign (aP (x.natAbs%y.natAbs))=bf (x.fmod y):=by
      refine nM ?_ λaM=>?_
      ·rw[uC]
       have ET:∀aZ:Nat,(x=0->aZ=0)->(x.sign*(aZ:Int)).natAbs=aZ:=by
        intro aZ ax;rcases k2 x with ⟨e,G⟩|⟨e,G⟩|⟨e,G⟩<;>rw[e]<;>first|omega|(rw[ax G];rfl)
       exact ET _ λax=>by rw[ax];exact Nat.zero_mod _
      ·rw[uC,oz,AK,g7 (show (0:Int)<((x.natAbs%y.natAbs:Nat):Int) from CG.2 (Hf aM)),r3]
     rcases W9 with ⟨EU,Xa⟩|EU
     ·refine ak ?_;repeat' (intro (ay:_=_)<;>simp only[ay,go_sem,go_sem_proc,gn,xy,ti,o3,je,Y,a8,bJ,bO,ER,hw,hdiv,EU,Xa,oq,r6,iS,nP,ae,aE,ck,jH,pJ]<;>try refine ai ?_ ?_)
     ·refine ak ?_;repeat' (intro (ay:_=_)<;>simp only[ay,go_sem,go_sem_proc,gn,xy,ti,o3,je,Y,a8,bJ,bO,ER,hw,hdiv,EU,oq,r6,iS,nP,ae,aE,ck,jH,pJ]<;>try refine ai ?_ ?_)
  ·have a8:dj (s2,aa)=false:=by simpa using a8
   have hm:k3 (s,l) (s2,aa)=((0,[]),(0,[]),1):=by unfold k3;rw[a8,jB];rfl
   rw[hm];refine ak ?_;repeat' (intro (ay:_=_)<;>simp only[ay,go_sem,go_sem_proc,gn,xy,ti,o3,je,Y,a8,bJ,bO,ck,jH,cC]<;>try refine ai ?_ ?_)
 ·have Y:dj (s,l)=false:=by simpa using Y
  have hm:k3 (s,l) (s2,aa)=((0,[]),(0,[]),1):=by unfold k3;rw[Y,eR];rfl
  rw[hm];refine ak ?_;repeat' (intro (ay:_=_)<;>simp only[ay,go_sem,go_sem_proc,gn,xy,ti,o3,je,Y,bJ,bO,ck,jH,cC]<;>try refine ai ?_ ?_)
def YF:bZ:=cj 19 2 [.t 4] (O [dq 2 115002 0,cq 4 false] (O [aO 5 0 2,aO 6 1 5,aL 7 1 6,cb 8 7,F 9 1,bt 10 .leq 8 9,F 11 10,⟨some 12,some (11,true),.dt 2 (.t 2)⟩,⟨some 13,some (11,true),.dt 1 (.t 12)⟩,⟨some 14,some (11,true),.load 1 false (.t 13)⟩,⟨some 15,some (11,true),.len (.t 14)⟩,⟨some 16,some (11,true),.bT (.t 1)⟩,⟨some 17,some (11,true),.bin .leq (.t 15) (.t 16)⟩,gN 18 11 17,F 4 18] .ret))
def YG:bZ:=cj 17 2 [.t 4] (O [dq 2 120002 0,dq 3 120003 1,cq 4 false] (O [aO 5 0 2,aU 6 2 5,aO 7 0 3,aU 8 2 7,(bW 9 Pl 6 8),F 10 9,⟨some 11,some (10,true),.dt 2 (.t 2)⟩,⟨some 12,some (10,true),.load 2 true (.t 11)⟩,⟨some 13,some (10,true),.dt 2 (.t 3)⟩,⟨some 14,some (10,true),.load 2 true (.t 13)⟩,⟨some 15,some (10,true),.call Pl [(.t 12),(.t 14)]⟩,gN 16 10 15,F 4 16] .ret))
def YH:bZ:=cj 13 2 [.cell 4 4 true,.t 5] (O [(au 4 (.alloc 124004 [(Z 0),.nil,(Z 0),.nil])),bg 5 0] (O [F 6 0,(dM 7 Hh 6),F 8 1,(dM 9 Hh 8),(bW 10 KS 7 9),ba 11 0 10,ba 12 1 10,aX 4 4 11,F 5 12] .ret))
def YI:bZ:=cj 38 2 [.t 4] (O [dq 2 142002 0,dq 3 142003 1,cq 4 false] (.seq (O [aO 6 0 2,aL 7 1 6,aO 8 0 3,aL 9 1 8,bt 10 .neq 7 9,F 11 10,⟨some 12,some (11,false),.dt 1 (.t 2)⟩,⟨some 13,some (11,false),.load 1 false (.t 12)⟩,⟨some 14,some (11,false),.len (.t 13)⟩,⟨some 15,some (11,false),.dt 1 (.t 3)⟩,⟨some 16,some (11,false),.load 1 false (.t 15)⟩,⟨some 17,some (11,false),.len (.t 16)⟩,⟨some 18,some (11,false),.bin .neq (.t 14) (.t 17)⟩,cR 19 11 18] (aS 19 (O [cq 4 false] .ret) .skip)) (.seq (O [bg 5 0] (.block 0 (.loop  (.seq (O [F 20 5,aO 21 1 2,aL 22 1 21,cb 23 22,bt 24 .lss 20 23] (aS 24 .skip (.exit 0))) (.seq (.block 1 (eG [aO 27 1 2,aL 28 1 27,F 29 5,bB 30 1 28 29,aL 31 1 30,aO 32 1 3,aL 33 1 32,F 34 5,bB 35 1 33 34,aL 36 1 35,bt 37 .neq 31 36] Ex (aS 37 (O [cq 4 false] .ret) .skip))) (.ops [F 25 5,a6 26 .add 25 1,F 5 26])))))) (O [cq 4 true] .ret))))
def YJ:bZ:=cj 57 2 [.cell 4 4 true,.t 5] (O [dq 2 143002 0,dq 3 143003 1,(au 4 (.alloc 143004 [(Z 0),.nil,(Z 0),.nil])),bg 5 0] (.seq (O [aU 14 2 2,(dM 15 ly 14),ff 16 15,F 17 16,⟨some 18,some (17,false),.load 2 true (.t 3)⟩,⟨some 19,some (17,false),.call ly [(.t 18)]⟩,⟨some 20,some (17,false),.un .not (.t 19)⟩,cR 21 17 20] (aS 21 (O [(au 22 (.build [(Z 0),.nil,(Z 0),.nil] [])),aX 4 4 22,bg 5 1] .ret) .skip)) (.seq (O [aO 23 0 3,aL 24 1 23,a6 25 .eql 24 0] (aS 25 (O [(au 26 (.build [(Z 0),.nil,(Z 0),.nil] [])),aX 4 4 26,bg 5 15] .ret) .skip)) (.seq (O [aO 27 0 3,aL 28 1 27,a6 29 .lss 28 0] (aS 29 (O [aU 30 2 2,(dM 31 Hk 30),aX 2 2 31] (.ops [aU 32 2 3,(dM 33 Hk 32),aX 2 3 33])) .skip)) (O [aU 35 2 2,aU 36 2 3,(bW 37 KV 35 36),F 34 37,ba 38 0 34,ba 39 1 34,(au 6 (.alloc 143006 [(Z 0),.nil])),aX 2 6 38,F 7 39] (O [aU 41 2 2,aU 42 2 6,(bW 43 Eo 41 42),F 40 43,ba 44 0 40,ba 45 1 40,ba 46 2 40,(au 8 (.alloc 143008 [(Z 0),.nil])),(au 9 (.alloc 143009 [(Z 0),.nil])),aX 2 8 44,aX 2 9 45,F 10 46] (O [aU 48 2 3,aU 49 2 6,(bW 50 Eo 48 49),F 47 50,ba 51 0 47,ba 52 1 47,ba 53 2 47,(au 11 (.alloc 143011 [(Z 0),.nil])),(au 12 (.alloc 143012 [(Z 0),.nil])),aX 2 11 51,aX 2 12 52,F 13 53] (O [aU 54 2 8,aU 55 2 11,(au 56 (.build [(Z 0),.nil,(Z 0),.nil] [(0,2,(.t 54)),(2,2,(.t 55))])),aX 4 4 56,bg 5 0] .ret))))))))
def YK:bZ:=cj 72 2 [.cell 4 4 true,.t 5] (O [dq 2 195002 0,dq 3 195003 1,(au 4 (.alloc 195004 [(Z 0),.nil,(Z 0),.nil])),bg 5 0] (.seq (O [aU 14 4 2,(dM 15 mm 14),ff 16 15,F 17 16,⟨some 18,some (17,false),.load 4 true (.t 3)⟩,⟨some 19,some (17,false),.call mm [(.t 18)]⟩,⟨some 20,some (17,false),.un .not (.t 19)⟩,cR 21 17 20] (aS 21 (O [(au 22 (.build [(Z 0),.nil,(Z 0),.nil] [])),aX 4 4 22,bg 5 1] .ret) .skip)) (O [aO 24 0 2,aU 25 2 24,aO 26 2 3,aU 27 2 26,(bW 28 r2 25 27),F 23 28,ba 29 0 23,ba 30 1 23,(au 6 (.alloc 195006 [(Z 0),.nil])),aX 2 6 29,F 7 30] (O [aO 32 0 3,aU 33 2 32,aO 34 2 2,aU 35 2 34,(bW 36 r2 33 35),F 31 36,ba 37 0 31,ba 38 1 31,(au 8 (.alloc 195008 [(Z 0),.nil])),aX 2 8 37,F 9 38] (O [aO 40 2 2,aU 41 2 40,aO 42 2 3,aU 43 2 42,(bW 44 r2 41 43),F 39 44,ba 45 0 39,ba 46 1 39,(au 10 (.alloc 195010 [(Z 0),.nil])),aX 2 10 45,F 11 46] (O [aU 48 2 6,aU 49 2 8,(bW 50 Vi 48 49),F 47 50,ba 51 0 47,ba 52 1 47,(au 12 (.alloc 195012 [(Z 0),.nil])),aX 2 12 51,F 13 52] (O [aU 53 2 12,aU 54 2 10,F 55 7,a6 56 .neq 55 0,F 57 56,⟨some 58,some (57,false),.bT (.t 9)⟩,⟨some 59,some (57,false),.bin .neq (.t 58) (.c (Z 0))⟩,cR 60 57 59,F 61 60,⟨some 62,some (61,false),.bT (.t 11)⟩,⟨some 63,some (61,false),.bin .neq (.t 62) (.c (Z 0))⟩,cR 64 61 63,F 65 64,⟨some 66,some (65,false),.bT (.t 13)⟩,⟨some 67,some (65,false),.bin .neq (.t 66) (.c (Z 0))⟩,cR 68 65 67,(qf 69 Ar 53 54 68),ba 70 0 69,ba 71 1 69,aX 4 4 70,F 5 71] .ret)))))))
def YL:bZ:=cj 33 1 [.t 2] (O [dq 1 196001 0,cq 2 false] (.seq (O [aO 5 0 1,aU 6 2 5,(dM 7 ly 6),ff 8 7,F 9 8,⟨some 10,some (9,false),.dt 2 (.t 1)⟩,⟨some 11,some (9,false),.load 2 true (.t 10)⟩,⟨some 12,some (9,false),.call ly [(.t 11)]⟩,⟨some 13,some (9,false),.un .not (.t 12)⟩,cR 14 9 13,F 15 14,⟨some 16,some (15,false),.dt 2 (.t 1)⟩,⟨some 17,some (15,false),.dt 0 (.t 16)⟩,⟨some 18,some (15,false),.load 1 false (.t 17)⟩,⟨some 19,some (15,false),.bin .lss (.t 18) (.c (Z 1))⟩,cR 20 15 19] (aS 20 (O [cq 2 false] .ret) .skip)) (O [aO 22 0 1,aU 23 2 22,aO 24 2 1,aU 25 2 24,(bW 26 KV 23 25),F 21 26,ba 27 0 21,ba 28 1 21,(au 3 (.alloc 196003 [(Z 0),.nil])),aX 2 3 27,F 4 28] (eG [aU 29 2 3,(au 30 (.call Hh [(.c (Z 1))])),(bW 31 K0 29 30),a6 32 .eql 31 0,F 2 32] agp .ret))))
def YM:bZ:=cj 46 2 [.cell 4 4 true,.t 5] (O [dq 2 197002 0,dq 3 197003 1,(au 4 (.alloc 197004 [(Z 0),.nil,(Z 0),.nil])),bg 5 0] (.seq (O [aU 10 4 2,(dM 11 mm 10),ff 12 11,F 13 12,⟨some 14,some (13,false),.load 4 true (.t 3)⟩,⟨some 15,some (13,false),.call mm [(.t 14)]⟩,⟨some 16,some (13,false),.un .not (.t 15)⟩,cR 17 13 16] (aS 17 (O [(au 18 (.build [(Z 0),.nil,(Z 0),.nil] [])),aX 4 4 18,bg 5 1] .ret) .skip)) (O [aO 20 0 2,aU 21 2 20,aO 22 0 3,aU 23 2 22,(bW 24 r2 21 23),F 19 24,ba 25 0 19,ba 26 1 19,(au 6 (.alloc 197006 [(Z 0),.nil])),aX 2 6 25,F 7 26] (O [aO 28 2 2,aU 29 2 28,aO 30 2 3,aU 31 2 30,(bW 32 r2 29 31),F 27 32,ba 33 0 27,ba 34 1 27,(au 8 (.alloc 197008 [(Z 0),.nil])),aX 2 8 33,F 9 34] (O [aU 35 2 6,aU 36 2 8,F 37 7,a6 38 .neq 37 0,F 39 38,⟨some 40,some (39,false),.bT (.t 9)⟩,⟨some 41,some (39,false),.bin .neq (.t 40) (.c (Z 0))⟩,cR 42 39 41,(qf 43 Ar 35 36 42),ba 44 0 43,ba 45 1 43,aX 4 4 44,F 5 45] .ret)))))
def YN:bZ:=cj 72 2 [.cell 4 4 true,.t 5] (O [dq 2 198002 0,dq 3 198003 1,(au 4 (.alloc 198004 [(Z 0),.nil,(Z 0),.nil])),bg 5 0] (.seq (O [aU 14 4 2,(dM 15 mm 14),ff 16 15,F 17 16,⟨some 18,some (17,false),.load 4 true (.t 3)⟩,⟨some 19,some (17,false),.call mm [(.t 18)]⟩,⟨some 20,some (17,false),.un .not (.t 19)⟩,cR 21 17 20] (aS 21 (O [(au 22 (.build [(Z 0),.nil,(Z 0),.nil] [])),aX 4 4 22,bg 5 1] .ret) .skip)) (O [aO 24 0 2,aU 25 2 24,aO 26 2 3,aU 27 2 26,(bW 28 r2 25 27),F 23 28,ba 29 0 23,ba 30 1 23,(au 6 (.alloc 198006 [(Z 0),.nil])),aX 2 6 29,F 7 30] (O [aO 32 0 3,aU 33 2 32,aO 34 2 2,aU 35 2 34,(bW 36 r2 33 35),F 31 36,ba 37 0 31,ba 38 1 31,(au 8 (.alloc 198008 [(Z 0),.nil])),aX 2 8 37,F 9 38] (O [aO 40 2 2,aU 41 2 40,aO 42 2 3,aU 43 2 42,(bW 44 r2 41 43),F 39 44,ba 45 0 39,ba 46 1 39,(au 10 (.alloc 198010 [(Z 0),.nil])),aX 2 10 45,F 11 46] (O [aU 48 2 6,aU 49 2 8,(bW 50 K1 48 49),F 47 50,ba 51 0 47,ba 52 1 47,(au 12 (.alloc 198012 [(Z 0),.nil])),aX 2 12 51,F 13 52] (O [aU 53 2 12,aU 54 2 10,F 55 7,a6 56 .neq 55 0,F 57 56,⟨some 58,some (57,false),.bT (.t 9)⟩,⟨some 59,some (57,false),.bin .neq (.t 58) (.c (Z 0))⟩,cR 60 57 59,F 61 60,⟨some 62,some (61,false),.bT (.t 11)⟩,⟨some 63,some (61,false),.bin .neq (.t 62) (.c (Z 0))⟩,cR 64 61 63,F 65 64,⟨some 66,some (65,false),.bT (.t 13)⟩,⟨some 67,some (65,false),.bin .neq (.t 66) (.c (Z 0))⟩,cR 68 65 67,(qf 69 Ar 53 54 68),ba 70 0 69,ba 71 1 69,aX 4 4 70,F 5 71] .ret)))))))
def YO:bZ:=cj 15 3 [.cell 6 4 true,.t 7] (O [dq 3 204003 0,dq 4 204004 1,(au 6 (.alloc 204006 [(Z 0),.nil,(Z 0),.nil])),bg 7 0] (.seq (O [F 8 2] (aS 8 (O [(au 9 (.build [(Z 0),.nil,(Z 0),.nil] [])),aX 4 6 9,bg 7 6] .ret) .skip)) (O [aU 10 2 3,aU 11 2 4,(bW 12 KS 10 11),ba 13 0 12,ba 14 1 12,aX 4 6 13,F 7 14] .ret)))
def YP:bZ:=cj 51 2 [.cell 4 4 true,.t 5] (O [dq 2 207002 0,dq 3 207003 1,(au 4 (.alloc 207004 [(Z 0),.nil,(Z 0),.nil])),bg 5 0] (.seq (O [aU 10 4 2,(dM 11 mm 10),ff 12 11,F 13 12,⟨some 14,some (13,false),.load 4 true (.t 3)⟩,⟨some 15,some (13,false),.call mm [(.t 14)]⟩,⟨some 16,some (13,false),.un .not (.t 15)⟩,cR 17 13 16] (aS 17 (O [(au 18 (.build [(Z 0),.nil,(Z 0),.nil] [])),aX 4 4 18,bg 5 1] .ret) .skip)) (.seq (O [aO 19 0 3,aO 20 0 19,aL 21 1 20,a6 22 .eql 21 0] (aS 22 (O [(au 23 (.build [(Z 0),.nil,(Z 0),.nil] [])),aX 4 4 23,bg 5 15] .ret) .skip)) (O [aO 25 0 2,aU 26 2 25,aO 27 2 3,aU 28 2 27,(bW 29 r2 26 28),F 24 29,ba 30 0 24,ba 31 1 24,(au 6 (.alloc 207006 [(Z 0),.nil])),aX 2 6 30,F 7 31] (O [aO 33 2 2,aU 34 2 33,aO 35 0 3,aU 36 2 35,(bW 37 r2 34 36),F 32 37,ba 38 0 32,ba 39 1 32,(au 8 (.alloc 207008 [(Z 0),.nil])),aX 2 8 38,F 9 39] (O [aU 40 2 6,aU 41 2 8,F 42 7,a6 43 .neq 42 0,F 44 43,⟨some 45,some (44,false),.bT (.t 9)⟩,⟨some 46,some (44,false),.bin .neq (.t 45) (.c (Z 0))⟩,cR 47 44 46,(qf 48 Ar 40 41 47),ba 49 0 48,ba 50 1 48,aX 4 4 49,F 5 50] .ret))))))
def YQ:bZ:=cj 22 2 [.t 4] (O [dq 2 270002 0,dq 3 270003 1,bg 4 0] (.seq (O [aU 5 4 2,(dM 6 mm 5),ff 7 6,F 8 7,⟨some 9,some (8,false),.load 4 true (.t 3)⟩,⟨some 10,some (8,false),.call mm [(.t 9)]⟩,⟨some 11,some (8,false),.un .not (.t 10)⟩,cR 12 8 11] (aS 12 (O [bg 4 0] .ret) .skip)) (O [aO 13 0 2,aU 14 2 13,aO 15 2 2,aU 16 2 15,aO 17 0 3,aU 18 2 17,aO 19 2 3,aU 20 2 19,(Cr 21 Hr 14 16 18 20),F 4 21] .ret)))
def QF:bZ:=cj 54 4 [.t 8] (O [dq 4 278004 0,dq 5 278005 1,dq 6 278006 2,dq 7 278007 3,bg 8 0] (O [aU 17 2 4,aU 18 2 5,(bW 19 Eo 17 18),F 16 19,ba 20 0 16,ba 21 1 16,ba 22 2 16,(au 9 (.alloc 278009 [(Z 0),.nil])),(au 10 (.alloc 278010 [(Z 0),.nil])),aX 2 9 20,aX 2 10 21,F 11 22] (O [aU 24 2 6,aU 25 2 7,(bW 26 Eo 24 25),F 23 26,ba 27 0 23,ba 28 1 23,ba 29 2 23,(au 12 (.alloc 278012 [(Z 0),.nil])),(au 13 (.alloc 278013 [(Z 0),.nil])),aX 2 12 27,aX 2 13 28,F 14 29] (O [aU 30 2 9,aU 31 2 12,(bW 32 K0 30 31),F 15 32] (.seq (O [F 33 15,a6 34 .neq 33 0] (aS 34 (O [F 35 15,F 8 35] .ret) .skip)) (.seq (O [aO 36 0 10,aL 37 1 36,a6 38 .eql 37 0,F 39 38,⟨some 40,some (39,false),.dt 0 (.t 13)⟩,⟨some 41,some (39,false),.load 1 false (.t 40)⟩,⟨some 42,some (39,false),.bin .eql (.t 41) (.c (Z 0))⟩,cR 43 39 42] (aS 43 (O [aO 44 0 10,aL 45 1 44,aO 46 0 13,aL 47 1 46,bt 48 .sub 45 47,F 8 48] .ret) .skip)) (O [aU 49 2 7,aU 50 2 13,aU 51 2 5,aU 52 2 10,(Cr 53 Hr 49 50 51 52),F 8 53] .ret)))))))
end Go.Mini
