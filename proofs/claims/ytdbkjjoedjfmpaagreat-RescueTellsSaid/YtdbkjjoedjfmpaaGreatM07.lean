/- A part of the proof. -/
import Derived.Test.YtdbkjjoedjfmpaaGreatProg
import Derived.KernelRfl
import Derived.Test.YtdbkjjoedjfmpaaGreatM06
set_option linter.unusedSimpArgs false
set_option linter.unusedVariables false
set_option maxRecDepth 100000
set_option maxHeartbeats 4000000
noncomputable section
open Bool renaming and_eq_true->gb,not_eq_true'->vy,not_false->cp,not_true->bT,true_and->fP
open Decidable renaming em->dk
open Int renaming add_zero->k9,max_def->aoe,reduceLE->anQ,reduceToNat->anR,toNat_natCast->iY
open List renaming all_eq_false->aof,all_eq_true->qs,append_nil->gD,concat_eq_append->zw,drop_succ_cons->D4,drop_zero->nP,eq_nil_or_concat->zv,filter_append->rE,filter_congr->anp,filter_cons_of_neg->pv,filter_cons_of_pos->oK,filter_nil->pt,foldl_append->anH,getD_eq_getElem?_getD->ez,getElem?_append_left->oZ,getElem?_append_right->nK,getElem?_eq_getElem->bB,getElem?_eq_none->iD,getElem?_eq_some_iff->eg,getElem?_map->aW,length->D,length_append->gj,length_cons->kB,length_eq_zero_iff->yS,length_filter_le->mO,length_map->ah,length_nil->og,length_range->sW,length_replicate->yC,length_singleton->s7,length_take->fU,mapM_cons->oa,map_append->kg,map_congr_left->pP,map_cons->eI,map_map->pQ,map_nil->b6,mem_cons_of_mem->h3,mem_cons_self->g0,mem_filter->Jn,mem_map->gE,mem_map_of_mem->BZ,mem_of_getElem?->dS,mem_of_mem_take->tM,mem_range->jC,range->eY,replicate->en,replicate_succ->tN,replicate_succ'->anA,set_cons_succ->s9,set_cons_zero->kP,take_add_one->g2,take_length->kN,take_of_length_le->dH,take_zero->ma
open List.cons renaming injEq->bf
open Nat renaming le_of_ble_eq_true->uQ,le_refl->cI,le_trans->eP,mul_one->cD,reduceEqDiff->cx,sub_self->j6,zero_le->fA
open Option renaming bind_none->m5,bind_some->CJ,getD_none->aoc,map_some->l9,toList_some->aog
open Option.some renaming injEq->cO
open Prod renaming ext->ei
open Rat renaming add_zero->pr,intCast_add->z7,intCast_mul->tg,intCast_natCast->oJ,sub_eq_add_neg->Dd,zero_add->DN
namespace Go.Mini
open Go
def sE (l:List aB)(r:Int):Int:=cl l λc=>if c.2.2.1<r then c.2.2.2 else 0
def hk (l:List aB)(r:Int):Int:=cl l λc=>if c.2.2.1=r then c.2.2.2 else 0
theorem ani (l:List aB)(r:Int):sE l (r+1)=sE l r+hk l r:=by
 unfold sE hk;rw[<-acf];refine Gg λc _=>?_
 by_cases G:c.2.2.1<r
 ·rw[ad G,ad (by omega),ag (by omega)];omega
 ·by_cases J:c.2.2.1=r
  ·rw[ad (by omega),ag G,ad J];omega
  ·rw[ag (by omega),ag G,ag J];rfl
def hM (l:List aB)(x:Rat)(k:Nat):Rat:=pos (x-((sE l k:Int):Rat))
theorem lU.ac7 {l:List aB}(h:lU l)(r:Int):0<=hk l r/\hk l r<=536870912:=h.bound λc=>c.2.2.1=r
theorem lU.aBZ {l:List aB}(h:lU l)(r:Int):0<=sE l r/\sE l r<=536870912:=h.bound λc=>c.2.2.1<r
theorem aB0 (l:List aB)(x:Rat)(k:Nat):0<=hM l x k:=Gd _
theorem aB1 {l:List aB}(h:lU l){x:Rat}(M:0<=x):hM l x 0=x:=by
 have:sE l (0:Nat)=0:=by
  unfold sE
  have:(cl l λc=>if c.2.2.1<((0:Nat):Int) then c.2.2.2 else 0)=cl l λ_=>0:=Gg λc H=>by
   have:=(h.c c H).2.2.2.2.1;rw[ag (by omega)]
  rw[this];clear h this
  induction l with
  |nil=>rfl
  |cons c l aH=>simp only[cl,aH];omega
 unfold hM;rw[this,yF]<;>grind
theorem aB2 {l:List aB}(h:lU l){x:Rat}{k:Nat}(he:((hk l k:Int):Rat)<=hM l x k):hM l x (k+1)=hM l x k-((hk l k:Int):Rat):=by
 have G:=ani l k;have aj:=(h.ac7 k).1;have aKU:(0:Rat)<=((hk l k:Int):Rat):=by exact_mod_cast aj
 unfold hM at *;rw[show ((k+1:Nat):Int)=(k:Int)+1 by omega,G,z7]
 by_cases aC:x-((sE l k:Int):Rat)<=0
 ·have ay:=vM aC;rw[ay] at he ⊢;rw[vM (by grind)];grind
 ·have ay:=yF (x:=x-((sE l k:Int):Rat)) (by grind);rw[ay] at he ⊢;rw[yF (by grind)];grind
theorem aB3 {l:List aB}{x:Rat}{k:Nat}(he:¬ ((hk l k:Int):Rat)<=hM l x k):hM l x (k+1)=0:=by
 have G:=ani l k;have J:=RY (x-((sE l k:Int):Rat));unfold hM at *;rw[show ((k+1:Nat):Int)=(k:Int)+1 by omega,G,z7,vM (by grind)]
section
variable {l:List aB} (h:lU l) {x:Rat} {k:Nat} {c:aB} (H:c∈l) (L:c.2.2.1=k)
include h H L
theorem anj:b0 l c.1 c.2.2.1=sE l k/\hj l c.1 c.2.2.1=hk l k:=by
 rw[L];exact⟨(h.less H k).symm,(h.same H k).symm⟩
theorem aB4 (he:((hk l k:Int):Rat)<=hM l x k):fY l x c=(c.2.2.2:Rat):=by
 obtain⟨ay,aA⟩:=anj h H L;have aM:∀c∈l,0<=c.2.2.2:=λc H=>(h.c c H).2.2.2.2.2.2.1
 by_cases aC:x-((sE l k:Int):Rat)<=0
 ·have aj:hM l x k=0:=vM aC;rw[aj] at he;have dn:hk l k<=0:=by exact_mod_cast he
  have a4:=alG aM H;rw[aA] at a4;have aKV:=aM c H;rw[ach aM H (by rw[ay];exact aC),show c.2.2.2=0 by omega];rfl
 ·refine alH ?_;rw[ay,aA];unfold hM at he;rwa [yF (by grind)] at he
theorem aB5 (he:¬ ((hk l k:Int):Rat)<=hM l x k):fY l x c=(c.2.2.2:Rat)*hM l x k/((hk l k:Int):Rat):=by
 obtain⟨ay,aA⟩:=anj h H L;have aM:∀c∈l,0<=c.2.2.2:=λc H=>(h.c c H).2.2.2.2.2.2.1
 by_cases aC:x-((sE l k:Int):Rat)<=0
 ·have aj:hM l x k=0:=vM aC;rw[ach aM H (by rw[ay];exact aC),aj,Rat.mul_zero,Rat.div_def,Rat.zero_mul]
 ·have aj:hM l x k=x-((sE l k:Int):Rat):=yF (by grind);rw[alI (by rw[ay];grind) (by rw[ay,aA,<-aj];grind),ay,aA,aj]
end
theorem ank {l:List aB}{x:Rat}(h:B4 l x)(k:Nat):eJ 490 (hM l x k):=by
 have fo:=h.own.aBZ k;unfold hM pos
 split
 ·exact (show eJ 1 0 from⟨by decide,by decide⟩).mono (by omega)
 ·rw[Dd];exact (NC h.sz (uH (tn (z:=sE l k) (b:=29) (by omega)))).mono (by omega)
def ac8:=cy S6 λ(x,a,b)=>some (.same (.bool (decide (a<=x)&&decide (x<=b))))
@[go_sem] theorem aKW (x:Int)(a:Int)(b:Int):ac8 [.int .i64 x,.int .i64 a,.int .i64 b]=some (.same (.bool (decide (a<=x)&&decide (x<=b)))):=cF al1 (x,a,b)
theorem aB6 (T:bm)  (x:Int) (a:Int) (b:Int):WP T abz (.same (.bool (decide (a<=x)&&decide (x<=b)))) [.I (.int .i64 x),.I (.int .i64 a),.I (.int .i64 b)]:=by
 refine cH ?_;simp only[abz];rcases au:decide (a<=x)
 ·have c2:decide (x>=a)=false:=au;refine a1 ?_;repeat' (intro h<;>simp only[h,go_sem,go_sem_proc,au,c2,Bool.false_and]<;>try refine al ?_ ?_)
 ·have c2:decide (x>=a)=true:=au;refine a1 ?_;repeat' (intro h<;>simp only[h,go_sem,go_sem_proc,au,c2,fP]<;>try refine al ?_ ?_)
def ac9:=cy SS λ(l:List aB)=>cT (lU l) (.same (.bool true))
@[go_sem] theorem aKX (l:List aB)(H:lU l):ac9 [.Y (l.map bw)]=some (.same (.bool true)):=(cF alC l).trans (cY H _)
theorem aB7 (T:bm)(Ox:T HW=aO ac8)(l:List aB)(H:lU l):WP T abx (.same (.bool true)) [.I (.Y (l.map bw))]:=by
 refine cH ?_;simp only[abx];have az:=H.len;simp only[go_sem,go_sem_proc,Ox,ah];refine c9 [0,5,6] [] (λ(i:Nat) tm mem=>i<=D l/\tm 7=.I (.int .i64 i)) (λi=>D l-i) 0 (by refine⟨by omega,rfl⟩) ?_;intro vs ms aK aF;simp only[go_sem,go_sem_proc,Ox,ah] at aK aF;subst aK aF;rintro i tm mem L hm ⟨U,bE⟩;simp only[go_sem,go_sem_proc,Ox,bf] at L hm;obtain⟨aj,bh,bK⟩:=L;rcases dk (i<D l) with av|b4
 ·have d1:decide ((i:Int)<(D l:Int))=true:=c5;have bl:=eu (i:=i) (by omega);obtain⟨⟨au,c2,c3,c4⟩,M⟩:∃c,l[i]?=some c:=⟨_,bB av⟩;obtain⟨⟨cE,cS,dU,eN⟩,pZ⟩:∃c,l[0]?=some c:=⟨_,bB (by omega)⟩;have oe:=H.c _ (dS M);have zj:=H.one _ (dS M) _ (dS pZ);dsimp only at oe zj;subst zj;have ev:(decide (0<=au)&&decide (au<=59))=true:=by simp only[gb,decide_eq_true_eq];omega
  have gg:(decide (-1<=c2)&&decide (c2<=59))=true:=by simp only[gb,decide_eq_true_eq];omega
  have tj:(decide (0<=c3)&&decide (c3<=9))=true:=by simp only[gb,decide_eq_true_eq];omega
  have ja:(decide (0<=c4)&&decide (c4<=1000000000000000))=true:=by simp only[gb,decide_eq_true_eq];omega
  refine a1 ?_;repeat' (intro h<;>simp only[h,go_sem,go_sem_proc,Ox,aj,bh,bK,bE,M,pZ,d1,bl,ev,gg,tj,ja,bw,bne,beq_self_eq_true,bT,ah,aW]<;>try refine al ?_ ?_)
  exact⟨i+1,by omega,by omega,rfl⟩
 ·have d1:decide ((i:Int)<(D l:Int))=false:=cu;have d2:decide ((D l:Int)<=2000)=true:=c5;refine a1 ?_;repeat' (intro h<;>simp only[h,go_sem,go_sem_proc,Ox,aj,bh,bK,bE,d1,d2,ah]<;>try refine al ?_ ?_)
theorem aB8 (T:bm){K:eF->bg->Prop}{kk:List fB}(l:List aB)(az:lU l)(k:Nat)(v1 v6 tx:R)(GK:R)(b3 jZ anl:Option (Nat×List R))(tm:Nat->R)(m:Mem)
  (ay:tm 1=v1) (bj:tm 6=v6) (bJ:tm 7=tx) (dg:tm 8=.I (.int .i64 k)) (dz:tm 9=.I (.int .i64 0)) (kW:tm 37=GK) (J4:tm 40=.I (.Y (l.map bw))) (J5:tm 41=.I (.int .i64 (D l))) (J6:tm 42=.I (.int .i64 0)) (bX:m 249002=b3) (mn:m 249007=jZ) (pE:m 249035=anl)
  (cX:∀tm' m',tm' 1=v1->tm' 6=v6->tm' 7=tx->tm' 8=.I (.int .i64 k)->tm' 9=.I (.int .i64 (hk l k))->tm' 37=GK->m' 249002=b3->m' 249007=jZ->m' 249035=anl->cj T K kk (.exit 2) ⟨tm',m'⟩) :
  wp T (Gn.body.sub [1,1,1,1,0,1,0,0,1,1,0,0,1,1,0,1,0]) (cj T K kk) ⟨tm,m⟩:=by
 simp only[Gn,ep.sub];have ai:=λt=>az.cs.sum (λc=>c.2.2.1=(k:Int)) t;have hlen:=az.len;refine c9 [1,6,7,8,37,40,41] [249002,249007,249035] (λ(t:Nat) tm m=>t<=D l/\tm 42=.I (.int .i64 t)/\tm 9=.I (.int .i64 (hk (l.take t) k))) (λt=>D l-t) 0 (by refine⟨by omega,J6,dz⟩) ?_;intro vs ms aK aF;simp only[go_sem,go_sem_proc,ay,bj,bJ,dg,kW,J4,J5,bX,mn,pE] at aK aF;subst aK aF;clear ay bj bJ dg dz kW J4 J5 J6 bX mn pE tm m;rintro t tm m L hm ⟨cm,J6,dz⟩;simp only[go_sem,go_sem_proc,bf] at L hm;obtain⟨ay,bj,bJ,dg,kW,J4,J5⟩:=L;obtain⟨bX,mn,pE⟩:=hm;rcases dk (t<D l) with av|b4
 ·have d1:decide ((t:Int)<(D l:Int))=true:=c5;have bl:=eu (i:=t) (by omega);obtain⟨⟨au,c2,c3,c4⟩,M⟩:∃c,l[t]?=some c:=⟨_,bB av⟩
  have dq:hk (l.take (t+1)) k=hk (l.take t) k+if c3=(k:Int) then c4 else 0:=by
   unfold hk;rw[NO M]
  have G:=ai t;have J:=ai (t+1);have agX:hk (l.take t) k=cl (l.take t) λc=>if c.2.2.1=(k:Int) then c.2.2.2 else 0:=rfl;have aB9:hk (l.take (t+1)) k=cl (l.take (t+1)) λc=>if c.2.2.1=(k:Int) then c.2.2.2 else 0:=rfl;rw[<-agX] at G;rw[<-aB9] at J;rcases q:(c3==(k:Int))
  ·rw[ag (by have:=ne_of_beq_false q;omega),k9] at dq;refine a1 ?_;repeat' (intro h<;>simp only[h,go_sem,go_sem_proc,ay,bj,bJ,dg,dz,kW,J4,J5,J6,bX,mn,pE,M,d1,bl,q,bw,ah,aW]<;>try refine al ?_ ?_)
   exact⟨t+1,by omega,by omega,rfl,by rw[dq]⟩
  ·rw[ad (by have:=eq_of_beq q;omega)] at dq;have B8:IntKind.i64.wrap (hk (l.take t) k+c4)=hk (l.take (t+1)) k:=by rw[dq,wrap64 _ (by omega) (by omega)]
   refine a1 ?_;repeat' (intro h<;>simp only[h,go_sem,go_sem_proc,ay,bj,bJ,dg,dz,kW,J4,J5,J6,bX,mn,pE,M,d1,bl,q,B8,bw,ah,aW]<;>try refine al ?_ ?_)
   exact⟨t+1,by omega,by omega,rfl,rfl⟩
 ·have d1:decide ((t:Int)<(D l:Int))=false:=cu;rw[dH (by omega)] at dz;refine a1 ?_;repeat' (intro h<;>simp only[h,go_sem,go_sem_proc,ay,bj,bJ,dg,dz,kW,J4,J5,J6,d1]<;>try refine al ?_ ?_)
  refine cX _ _ ?_ ?_ ?_ ?_ ?_ ?_ bX mn pE<;>simp only[dv,cx,if_false,ay,bj,bJ,dg,dz,kW]
def mR (l:List aB)(x:Rat)(k t j:Nat):Option bG:=if (l.getD j jY).2.2.1<(k:Int)\/((l.getD j jY).2.2.1=(k:Int)/\j<t) then some (rJ l x j) else none
theorem aCa (l:List aB)(h:lU l)(x:Rat):(bx (D l) λj=>mR l x 0 0 j)=bx (D l) λ_=>none:=h6 λj ax=>by
 have:=(h.c _ (dS (bB ax))).2.2.2.2.1;have e:l.getD j jY=l[j]:=by rw[ez,bB ax];rfl
 unfold mR;rw[e,ag (by omega)]
theorem aCb (l:List aB)(x:Rat)(k:Nat):(bx (D l) λj=>mR l x k (D l) j)=bx (D l) λj=>mR l x (k+1) 0 j:=h6 λj ax=>by
 unfold mR
 by_cases h:(l.getD j jY).2.2.1<((k+1:Nat):Int)
 ·rw[ad (by omega),ad (.inl h)]
 ·rw[ag (by omega),ag (by omega)]
theorem aCc (l:List aB)(h:lU l)(x:Rat):(bx (D l) λj=>mR l x 10 0 j)=bx (D l) λj=>some (rJ l x j):=h6 λj ax=>by
 have:=(h.c _ (dS (bB ax))).2.2.2.2.2.1;have e:l.getD j jY=l[j]:=by rw[ez,bB ax];rfl
 unfold mR;rw[e,ad (.inl (by omega))]
theorem TG {n:Int}(h:df n):NP [.int .i64 n]=some (.same (.agg (aw (aq (n:Rat))))):=ayG n h
theorem aCd (T:bm)(tB:T zy=aO NP)(m8:T xZ=aO zP)(qL:T EU=aO Fz){K:eF->bg->Prop}{kk:List fB}(l:List aB)(x:Rat)(jA:B4 l x)(k:Nat)(bD mw:Nat)(v1 GK:R)(b3:Option (Nat×List R))(tm:Nat->R)(m:Mem)
  (ay:tm 1=v1) (bj:tm 6=.ref 249035 bD 4 0 (D l)) (bJ:tm 7=.ptr 249007 mw 0) (dg:tm 8=.I (.int .i64 k)) (dz:tm 9=.I (.int .i64 (hk l k))) (gq:tm 12=.I (.bool (decide (((hk l k:Int):Rat)<=hM l x k)))) (kW:tm 37=GK) (lo:tm 60=.I (.Y (l.map bw))) (uO:tm 61=.I (.int .i64 (D l))) (GL:tm 62=.I (.int .i64 0)) (bX:m 249002=b3) (mn:m 249007=some (mw,(aw (aq (hM l x k))).map .I)) (pE:m 249035=some (bD,mQ rI (bx (D l) λj=>mR l x k 0 j)))
  (cX:∀tm' m',tm' 1=v1->tm' 6=.ref 249035 bD 4 0 (D l)->tm' 7=.ptr 249007 mw 0->tm' 9=.I (.int .i64 (hk l k))->tm' 12=.I (.bool (decide (((hk l k:Int):Rat)<=hM l x k)))->tm' 37=GK->m' 249002=b3->m' 249007=some (mw,(aw (aq (hM l x k))).map .I)->m' 249035=some (bD,mQ rI (bx (D l) λj=>mR l x (k+1) 0 j))->cj T K kk (.exit 4) ⟨tm',m'⟩) :
  wp T (Gn.body.sub [1,1,1,1,0,1,0,0,1,1,0,0,1,1,1,1,0,1,0]) (cj T K kk) ⟨tm,m⟩:=by
 simp only[Gn,ep.sub];have how:=jA.own;have hlen:=how.len;refine c9 [1,6,7,8,9,12,37,60,61] [249002,249007] (λ(t:Nat) tm m=>t<=D l/\tm 62=.I (.int .i64 t)/\m 249035=some (bD,mQ rI (bx (D l) λj=>mR l x k t j))) (λt=>D l-t) 0 (by refine⟨by omega,GL,pE⟩) ?_;intro vs ms aK aF;simp only[go_sem,go_sem_proc,ay,bj,bJ,dg,dz,gq,kW,lo,uO,bX,mn] at aK aF;subst aK aF;clear ay bj bJ dg dz gq kW lo uO GL bX mn pE tm m;rintro t tm m L hm ⟨cm,GL,pE⟩;simp only[go_sem,go_sem_proc,bf] at L hm;obtain⟨ay,bj,bJ,dg,dz,gq,kW,lo,uO⟩:=L;obtain⟨bX,mn⟩:=hm;rcases dk (t<D l) with av|b4
 ·have d1:decide ((t:Int)<(D l:Int))=true:=c5;have bl:=eu (i:=t) (by omega);obtain⟨⟨au,c2,c3,c4⟩,M⟩:∃c,l[t]?=some c:=⟨_,bB av⟩;have fc:=dS M;have ly:=how.c _ fc;dsimp only at ly;have AR:l.getD t jY=(au,c2,c3,c4):=by rw[ez,M];rfl
  have B6:=SU (q:=λj=>mR l x k t j) av;rcases q:(c3==(k:Int))
  ·have b5:c3≠(k:Int):=ne_of_beq_false q
   have hD:(bx (D l) λj=>mR l x k (t+1) j)=bx (D l) λj=>mR l x k t j:=h6 λj _=>by
    unfold mR
    by_cases ax:j=t
    ·subst ax;rw[AR];dsimp only
     by_cases G:c3<(k:Int)
     ·rw[ad (.inl G),ad (.inl G)]
     ·rw[ag (by omega),ag (by omega)]
    ·by_cases G:(l.getD j jY).2.2.1<(k:Int)\/((l.getD j jY).2.2.1=(k:Int)/\j<t)
     ·rw[ad G,ad (by omega)]
     ·rw[ag G,ag (by omega)]
   refine a1 ?_;repeat' (intro h<;>simp only[h,go_sem,go_sem_proc,ay,bj,bJ,dg,dz,gq,kW,lo,uO,GL,bX,mn,M,d1,bl,q,bw,bne,cp,ah,aW]<;>try refine al ?_ ?_)
   exact⟨t+1,by omega,by omega,rfl,by rw[hD];exact pE⟩
  ·have ada:c3=(k:Int):=eq_of_beq q;have lj:=λa b c d=>SV (q:=λj=>mR l x k t j) av a b c d
   have pO:∀aR:bG,aR=rJ l x t->(bx (D l) λj=>if j=t then some aR else mR l x k t j)=bx (D l) λj=>mR l x k (t+1) j:=by
    intro aR dw;refine h6 λj _=>?_
    by_cases ax:j=t
    ·subst ax;rw[ad rfl];unfold mR;rw[AR,ad (.inr ⟨ada,by omega⟩),dw]
    ·rw[ag ax];unfold mR
     by_cases G:(l.getD j jY).2.2.1<(k:Int)\/((l.getD j jY).2.2.1=(k:Int)/\j<t)
     ·rw[ad G,ad (by omega)]
     ·rw[ag G,ag (by omega)]
   have S0:rJ l x t=aq (fY l x (au,c2,c3,c4)):=by unfold rJ;rw[AR]
   have Oc:df c4:=lT (by omega) (by omega);have B5:=TG Oc;rcases dN:decide (((hk l k:Int):Rat)<=hM l x k)
   ·have alN:=of_decide_eq_false dN;have ack:=how.ac7 k;have xo:df (hk l k):=lT (by omega) (by omega);have xq:=TG xo;have vV:=ank jA k;have D0:eJ 29 ((c4:Int):Rat):=tn (by omega);have JK:eJ 29 ((hk l k:Int):Rat):=tn (by omega);have acm:((hk l k:Int):Rat)≠0:=by have:=aB0 l x k;grind
    have f1:=ak3 (n3 Oc) (je vV (by omega)) (NB D0 vV (by omega));have f2:=azd (je (DM D0 vV) (by omega)) (n3 xo) acm (aaY (DM D0 vV) JK (by omega));have iT:=aB5 how fc ada alN;dsimp only at iT;have aCe:=λa b c d=>SV (q:=λj=>if j=t then some ((a,b),(c,d)) else mR l x k t j) av;have aCf:=λa b c d=>SU (q:=λj=>if j=t then some ((a,b),(c,d)) else mR l x k t j) av;have aM:=pO (aq (((c4:Int):Rat)*hM l x k/((hk l k:Int):Rat))) (by rw[S0,iT])
    have aCg:∀aR anm:bG,(bx (D l) λj=>if j=t then some aR else if j=t then some anm else mR l x k t j)=bx (D l) λj=>if j=t then some aR else mR l x k t j:=λaR anm=>h6 λj _=>by
     by_cases ax:j=t
     ·rw[ad ax,ad ax]
     ·rw[ag ax,ag ax,ag ax]
    clear vV D0 JK;generalize aq (((c4:Int):Rat)*hM l x k/((hk l k:Int):Rat))=G1 at *;generalize aq (((c4:Int):Rat)*hM l x k)=G2 at *;generalize aq ((hk l k:Int):Rat)=G3 at *;generalize adb:aq (hM l x k)=G4 at *;generalize aq ((c4:Int):Rat)=G5 at *;obtain⟨⟨dh,dC⟩,⟨ji,m9⟩⟩:=G1;obtain⟨⟨G,J⟩,⟨af,aP⟩⟩:=G2;obtain⟨⟨i1,i2⟩,⟨i3,i4⟩⟩:=G3;obtain⟨⟨An,acn⟩,⟨aco,BI⟩⟩:=G4;obtain⟨⟨h0,iE⟩,⟨nh,si⟩⟩:=G5;simp only[aw,eI,b6] at B5 xq f1 f2 mn;have dq:=lj h0 iE nh si;have Sk:=aCe h0 iE nh si dh dC ji m9;have Z7:=aCf h0 iE nh si;rw[aCg,aM] at Sk;refine a1 ?_;repeat' (intro h<;>simp only[h,go_sem,go_sem_proc,tB,m8,qL,ay,bj,bJ,dg,dz,gq,kW,lo,uO,GL,bX,mn,pE,M,d1,bl,av,q,dN,B5,xq,f1,f2,B6,Z7,dq,Sk,bw,ah,aW,bne,beq_self_eq_true,bT,cp]<;>try refine al ?_ ?_)
    exact⟨t+1,by omega,rfl,by omega,rfl,rfl⟩
   ·have iT:=aB4 how fc ada (of_decide_eq_true dN);dsimp only at iT;have aM:=pO (aq ((c4:Int):Rat)) (by rw[S0,iT]);generalize aq ((c4:Int):Rat)=G5 at *;obtain⟨⟨h0,iE⟩,⟨nh,si⟩⟩:=G5;simp only[aw] at B5;have dq:=lj h0 iE nh si;rw[aM] at dq;refine a1 ?_;repeat' (intro h<;>simp only[h,go_sem,go_sem_proc,tB,ay,bj,bJ,dg,dz,gq,kW,lo,uO,GL,bX,mn,pE,M,d1,bl,av,q,dN,B5,B6,dq,bw,ah,aW,bne,beq_self_eq_true,bT,cp]<;>try refine al ?_ ?_)
    exact⟨t+1,by omega,by omega,rfl,rfl⟩
 ·have d1:decide ((t:Int)<(D l:Int))=false:=cu;obtain rfl:t=D l:=by omega
  rw[aCb] at pE;refine a1 ?_;repeat' (intro h<;>simp only[h,go_sem,go_sem_proc,ay,bj,bJ,dg,dz,gq,kW,lo,uO,GL,d1]<;>try refine al ?_ ?_)
  refine cX _ _ ?_ ?_ ?_ ?_ ?_ ?_ bX mn pE<;>simp only[dv,cx,if_false,ay,bj,bJ,dz,gq,kW]
def ade:=cy SY λ(x,l)=>cT (B4 l x) (.same (.cB [.Y ((l.map λc=>aq (fY l x c)).map aw),.int .i64 0]))
@[go_sem] theorem aCh (x:Rat)(l:List aB)(H:B4 l x):ade [.agg (aw (aq x)),.Y (l.map bw)]=some (.same (.cB [.Y ((l.map λc=>aq (fY l x c)).map aw),.int .i64 0])):=(cF alK (x,l)).trans (cY H _)
theorem aCi (T:bm)(g5:T nR=aO zK)(hW:T u9=aO zS)(tB:T zy=aO NP)(y2:T V1=aO ac9)(m8:T xZ=aO zP)(qL:T EU=aO Fz)(iO:T wH=aO zN)(x:Rat)(l:List aB)(H:B4 l x):WP T Gn (.same (.cB [.Y ((l.map λc=>aq (fY l x c)).map aw),.int .i64 0])) [.I (.agg (aw (aq x))),.I (.Y (l.map bw))]:=by
 refine cH ?_;simp only[Gn];have oe:=H;obtain⟨how,pZ,q5⟩:=H;have ic:=je q5 (by omega);have hlen:=how.len;have acj:=NM ic;have BG:=Sz ic (n3 xn);have aCj:decide (mI x ((0:Int):Rat)<0)=false:=by rw[abQ];exact kY (by have:((0:Int):Rat)=0:=rfl;grind)
 have bS:=lP ic;have jA:=alJ l x;have f0:=TG xn;have iw:=aB1 how pZ;have g6:=aCa l how x;have a2:=acd (D l);rw[<-g6] at a2;have o1:(64*D l<=140737488355328)=True:=eq_true (by omega);have w9:(D l<=maxLen)=True:=eq_true (by unfold maxLen;omega);generalize dw:aq x=aR at *;generalize NF:aq ((0:Int):Rat)=nW at *;obtain⟨⟨cE,cS⟩,⟨dU,eN⟩⟩:=aR;obtain⟨⟨jq,iL⟩,⟨n2,sC⟩⟩:=nW;simp only[aw] at f0 BG;simp only[go_sem,go_sem_proc,g5,hW,tB,y2,m8,qL,iO,aw,acj,bS.1,bS.2,f0,BG,aCj,how,o1,w9,a2,ah,bT,cp];refine c9 [1,6,7] [249002] (λ(k:Nat) tm m=>k<=10/\tm 37=.I (.int .i64 k)/\m 249007=some (0,(aw (aq (hM l x k))).map .I)/\m 249035=some (0,mQ rI (bx (D l) λj=>mR l x k 0 j))) (λk=>10-k) 0 (by refine⟨by omega,rfl,by rw[iw,dw];rfl,rfl⟩) ?_;intro vs ms aK aF;simp only[go_sem,go_sem_proc,g5,hW,tB,y2,m8,qL,iO,aw,ah] at aK aF;subst aK aF;rintro k tm m L hm ⟨azF,kW,mn,pE⟩;simp only[go_sem,go_sem_proc,g5,hW,tB,y2,m8,qL,iO,bf] at L hm;obtain⟨ay,bj,bJ⟩:=L;rcases dk (k<10) with av|b4
 ·have d1:decide ((k:Int)<10)=true:=c5;have bl:=eu (i:=k) (by omega);simp only[go_sem,go_sem_proc,g5,hW,tB,y2,m8,qL,iO,ay,bj,bJ,kW,hm,d1,ah];refine aB8 T l how k (.I (.Y (l.map bw))) (.ref 249035 0 4 0 (D l)) (.ptr 249007 0 0) (.I (.int .i64 k)) _ (some (0,(aw (aq (hM l x k))).map .I)) (some (0,mQ rI (bx (D l) λj=>mR l x k 0 j))) _ _ ?_ ?_ ?_ ?_ ?_ ?_ ?_ ?_ ?_ hm mn pE ?_
  all_goals first|(intro tm' m' cL eD hv gR gS ann gg qe ano)|(simp only[dv,cx,if_false,if_true,ay,bj,bJ,kW];done)
  have ack:=how.ac7 k;have xo:df (hk l k):=lT (by omega) (by omega);have xq:=TG xo;have vV:=ank oe k;have yn:=je vV (by omega);have JK:eJ 29 ((hk l k:Int):Rat):=tn (by omega);have yc:=Sz yn (n3 xo);have C7:decide (mI (hM l x k) ((hk l k:Int):Rat)>=0)=decide (((hk l k:Int):Rat)<=hM l x k):=SA;have jP:=Sx yn (n3 xo) (xg vV (uH JK) (by omega));have Jt:=λ(K:eF->bg->Prop) (kk:List fB) bD mw v1 GK b3 tm m=>aCd T tB m8 qL (K:=K) (kk:=kk) l x oe k bD mw v1 GK b3 tm m;have xe:((hk l k:Int):Rat)<=hM l x k->aq (hM l x (k+1))=aq (hM l x k-((hk l k:Int):Rat)):=λh=>by rw[aB2 how h]
  have hE:¬ ((hk l k:Int):Rat)<=hM l x k->aq (hM l x (k+1))=((jq,iL),(n2,sC)):=λh=>by rw[aB3 h,<-NF];rfl
  generalize aq (hM l x k-((hk l k:Int):Rat))=G1 at *;generalize aKY:aq (hM l x k)=G2 at *;generalize aq ((hk l k:Int):Rat)=G3 at *;generalize adb:aq (hM l x (k+1))=G4 at *;obtain⟨⟨dh,dC⟩,⟨ji,m9⟩⟩:=G1;obtain⟨⟨G,J⟩,⟨af,aP⟩⟩:=G2;obtain⟨⟨i1,i2⟩,⟨i3,i4⟩⟩:=G3;simp only[aw,eI,b6] at xq yc jP qe;simp only[go_sem,go_sem_proc,g5,hW,tB,y2,m8,qL,iO,cL,eD,hv,gR,gS,ann,gg,qe,ano,xq,yc,C7,ah];refine Jt _ _ 0 0 (.I (.Y (l.map bw))) (.I (.int .i64 k)) _ _ _ ?_ ?_ ?_ ?_ ?_ ?_ ?_ ?_ ?_ ?_ gg ?_ ano ?_
  all_goals first|(intro xp bX An z0 J7 J8 J9 TH eO y3 TI)|(simp only[dv,cx,if_false,if_true,cL,eD,hv,gR,gS,ann];done)|(rw[qe];rfl)
  simp only[aw,eI,b6] at y3;clear Jt;rcases q:decide (((hk l k:Int):Rat)<=hM l x k)
  ·have he:=hE (of_decide_eq_false q);rw[q] at J9;simp only[go_sem,go_sem_proc,g5,hW,tB,y2,m8,qL,iO,An,z0,J7,J8,J9,TH,eO,y3,TI,f0,bl,cp,bT];repeat' (first|refine al ?_ ?_|fail)<;>intro h<;>simp only[h,go_sem,go_sem_proc,g5,hW,tB,y2,m8,qL,iO,An,z0,J7,J8,J9,TH,eO,y3,TI,f0,bl,cp,bT]
   exact⟨k+1,by omega,by omega,rfl,by rw[adb,he];rfl,rfl⟩
  ·have he:=xe (of_decide_eq_true q);rw[q] at J9;simp only[go_sem,go_sem_proc,g5,hW,tB,y2,m8,qL,iO,An,z0,J7,J8,J9,TH,eO,y3,TI,xq,jP,bl,bne,beq_self_eq_true,cp,bT];repeat' (first|refine al ?_ ?_|fail)<;>intro h<;>simp only[h,go_sem,go_sem_proc,g5,hW,tB,y2,m8,qL,iO,An,z0,J7,J8,J9,TH,eO,y3,TI,xq,jP,bl,bne,beq_self_eq_true,cp,bT]
   exact⟨k+1,by omega,by omega,rfl,by rw[adb,he];rfl,rfl⟩
 ·have d1:decide ((k:Int)<10)=false:=cu;obtain rfl:k=10:=by omega
  rw[aCc l how x,jA,ace] at pE;have jF:=λ(K:bg->Prop) (st:bg)=>k6 (K:=K) (st:=st) jS 6 249035 0 (l.map λc=>aq (fY l x c));rw[ah] at jF;simp only[go_sem,go_sem_proc,g5,hW,tB,y2,m8,qL,iO,ay,bj,bJ,kW,hm,d1,pE,jF,ah];repeat' (first|refine al ?_ ?_|fail)<;>intro h<;>simp only[h,go_sem,go_sem_proc,g5,hW,tB,y2,m8,qL,iO,ay,bj,bJ,kW,hm,d1,pE,jF,ah]
theorem TJ {fI gB n:Nat}(key:Nat->Nat)(vj:Nat->R)(TK:∀i,i<n->key i≠fI)(KR:∀i j,i<n->j<n->key i=key j->i=j):∀r d (q:Nat->R) (m:Mem),d+r=n->m fI=some (gB,bx n q)->(∀i,i<d->q i=vj i) ->
  (∀i,d<=i->i<n->q i=vj i\/∃g sz len cs x,q i=.ref (key i) g sz 0 len/\m (key i)=some (g,cs)/\(∀bX:Mem,bX (key i)=some (g,cs)->dx 1 bX (.ref (key i) g sz 0 len)=some x)/\vj i=.I x) ->
  ∃m',uS m m'/\m' fI=some (gB,bx n vj)/\∀k:Nat,k≠fI->(∀i,i<n->k≠key i)->m' k=m k
 |0,d,q,m,ab,G,J,_=>⟨m,.refl m,by rw[G,h6 λi U=>J i (by omega)],λ_ _ _=>rfl⟩
 |r+1,d,q,m,ab,G,J,af=>by
  rcases af d (cI _) (by omega) with he|⟨g,sz,len,cs,x,ay,aA,bQ,bL⟩
  ·obtain⟨m',cL,dN,eo⟩:=TJ key vj TK KR r (d+1) q m (by omega) G (λi U=>by
    by_cases gH:i=d
    ·rw[gH];exact he
    ·exact J i (by omega)) λi U cJ=>af i (by omega) cJ
   exact⟨m',cL,dN,eo⟩
  ·have kM:d<n:=by omega
   have hr:(bx n q)[d]?=some (.ref (key d) g sz 0 len):=by rw[jX q kM,ay]
   have sO:=tG.O2 fI gB _ d (key d) g sz 0 len cs x G hr aA (TK d kM) (bQ m aA);have h9:a5 (kill m (key d)) fI gB ((bx n q).set d (.I x)) fI=some (gB,bx n λj=>if j=d then .I x else q j):=by rw[j2,Ak]
   obtain⟨m',cL,dN,eo⟩:=TJ key vj TK KR r (d+1) (λj=>if j=d then .I x else q j) _ (by omega) h9 (λi U=>by
    by_cases gH:i=d
    ·rw[ad gH,gH,bL]
    ·rw[ag gH];exact J i (by omega)) λi U cJ=>by
     rw[ag (by omega)];rcases af i (by omega) cJ with he|⟨ea,eR,aen,rS,ks,f1,f2,f3,f4⟩
     ·exact .inl he
     ·refine .inr ⟨ea,eR,aen,rS,ks,f1,?_,f3,f4⟩;rw[de (TK i cJ)];unfold kill;rw[de λaX=>by have:=KR i d cJ kM aX;omega]
      exact f2
   refine⟨m',.step sO cL,dN,λk L tR=>?_⟩;rw[eo k L tR,de L];unfold kill;rw[de (tR d kM)]
def gO (l:List aB)(i:Nat):List Nat:=(eY (D l)).filter λj=>(l.getD j jY).1==(i:Int)
theorem adf (l:List aB)(c:aB)(i:Nat):gO (l++[c]) i=if c.1=(i:Int) then gO l i++[D l] else gO l i:=by
 unfold gO;have ay:(l++[c]).getD (D l) jY=c:=by rw[ez,nK (cI _),j6];rfl
 have aA:(eY (D l)).filter (λj=>((l++[c]).getD j jY).1==(i:Int))=(eY (D l)).filter λj=>(l.getD j jY).1==(i:Int):=anp λj ax=>by
  rw[ez,oZ (jC.1 ax),<-ez]
 rw[gj,s7,List.range_succ,rE,aA]
 by_cases h:c.1=(i:Int)
 ·rw[ad h,oK (by rw[ay];simpa using h),pt]
 ·rw[ag h,pv (by rw[ay];simpa using h),pt,gD]
theorem adg {l:List aB}{i j:Nat}:j∈gO l i↔j<D l/\(l.getD j jY).1=(i:Int):=by
 unfold gO;rw[Jn,jC,beq_iff_eq]
theorem adh (l:List aB)(c:aB)(i:Nat):cf (l++[c]) i=if c.1=(i:Int) then cf l i++[c] else cf l i:=by
 unfold cf;rw[rE]
 by_cases h:c.1=(i:Int)
 ·rw[ad h,oK (by simpa using h),pt]
 ·rw[ag h,pv (by simpa using h),pt,gD]
theorem anq (l:List aB)(i:Nat):cf l i=(gO l i).map λj=>l.getD j jY:=by
 have:∀n (l:List aB),D l=n->cf l i=(gO l i).map λj=>l.getD j jY:=by
  intro n
  induction n with
  |zero =>
   intro l az;have:l=[]:=yS.1 az;subst this;rfl
  |succ n aH =>
   intro l az;rcases zv l with aj|⟨fL,c,rfl⟩
   ·subst aj;cases az
   ·rw[zw] at *;simp only[gj,s7] at az;have ay:(fL++[c]).getD (D fL) jY=c:=by rw[ez,nK (cI _),j6];rfl
    have aA:(gO fL i).map (λj=>(fL++[c]).getD j jY)=(gO fL i).map λj=>fL.getD j jY:=pP λj ax=>by
     rw[ez,oZ (adg.1 ax).1,<-ez]
    rw[adh,adf]
    by_cases h:c.1=(i:Int)
    ·rw[ad h,ad h,kg,aA,aH fL (by omega)];show _=_++[(fL++[c]).getD (D fL) jY];rw[ay]
    ·rw[ag h,ag h,aA,aH fL (by omega)]
 exact this _ l rfl
theorem TL (l:List aB)(i:Nat):(gO l i).length=(cf l i).length:=by rw[anq,ah]
theorem aCk (l:List aB)(i:Nat):(gO l i).length<=D l:=by
 unfold gO;exact eP (mO _ _) (by rw[sW];exact cI _)
def mY (l:List aB)(gc:Nat->Nat)(i:Nat):R:=if cf l i=[] then .nil else .ref (233600+i) (gc i) 4 0 (cf l i).length
def pp (l:List aB)(eW:Nat->Nat)(i:Nat):R:=if cf l i=[] then .nil else .ref (233700+i) (eW i) 1 0 (cf l i).length
structure Ka (n:Nat) (l:List aB) (gc eW:Nat->Nat) (m:Mem):Prop where
 eS:m 233019=some (0,bx n (mY l gc))
 eO:m 233022=some (0,bx n (pp l eW))
 cL:∀i,i<n->cf l i≠[]->m (233600+i)=some (gc i,aS bw (cf l i))
 dN:∀i,i<n->cf l i≠[]->m (233700+i)=some (eW i,aS hK (gO l i))
theorem Ka.next {n:Nat}{l:List aB}{gc eW:Nat->Nat}{m m':Mem}(h:Ka n l gc eW m)(aM:n<=5){au:Nat}{c2 c3 c4:Int}(dh dC:Nat)
  (G:m' 233019=some (0,bx n λi=>if i=au then .ref (233600+au) dh 4 0 ((cf l au).length+1) else mY l gc i)) (J:m' 233022=some (0,bx n λi=>if i=au then .ref (233700+au) dC 1 0 ((cf l au).length+1) else pp l eW i))
  (af:m' (233600+au)=some (dh,aS bw (cf l au++[((au:Int),c2,c3,c4)]))) (aP:m' (233700+au)=some (dC,aS hK (gO l au++[D l])))
  (bS:∀i,i<n->i≠au->m' (233600+i)=m (233600+i)/\m' (233700+i)=m (233700+i)):Ka n (l++[((au:Int),c2,c3,c4)]) (λi=>if i=au then dh else gc i) (λi=>if i=au then dC else eW i) m':=by
 have TM:∀i:Nat,i≠au->cf (l++[((au:Int),c2,c3,c4)]) i=cf l i:=λi U=>by rw[adh,ag (by show ¬ ((au:Int)=(i:Int));omega)]
 have Qc:∀i:Nat,i≠au->gO (l++[((au:Int),c2,c3,c4)]) i=gO l i:=λi U=>by rw[adf,ag (by show ¬ ((au:Int)=(i:Int));omega)]
 have so:cf (l++[((au:Int),c2,c3,c4)]) au=cf l au++[((au:Int),c2,c3,c4)]:=by rw[adh,ad rfl]
 have sp:gO (l++[((au:Int),c2,c3,c4)]) au=gO l au++[D l]:=by rw[adf,ad rfl]
 refine⟨?_,?_,λi U b5=>?_,λi U b5=>?_⟩
 ·rw[G]
  congr 2
  refine h6 λi U=>?_;unfold mY
  by_cases H:i=au
  ·subst H;rw[so,ad rfl,ag (by simp),gj];dsimp only;rw[ad rfl];rfl
  ·rw[TM i H,ag H];dsimp only;rw[ag H]
 ·rw[J]
  congr 2
  refine h6 λi U=>?_;unfold pp
  by_cases H:i=au
  ·subst H;rw[so,ad rfl,ag (by simp),gj];dsimp only;rw[ad rfl];rfl
  ·rw[TM i H,ag H];dsimp only;rw[ag H]
 ·by_cases H:i=au
  ·subst H;rw[ad rfl,so];exact af
  ·rw[TM i H] at b5 ⊢;rw[ag H,(bS i U H).1];exact h.cL i U b5
 ·by_cases H:i=au
  ·subst H;rw[ad rfl,sp];exact aP
  ·rw[TM i H] at b5;rw[Qc i H,ag H,(bS i U H).2];exact h.dN i U b5
structure D6 (cs:List aB) (h:List Rat):Prop where
 len:(D cs)<=12
 n:(D h)<=5
 c:∀c∈cs,0<=c.1/\c.1<(D h) /\ -1<=c.2.1/\c.2.1<60/\0<=c.2.2.1/\c.2.2.1<10/\0<=c.2.2.2/\c.2.2.2<=33554432
 x:∀x∈h,0<=x/\eJ 460 x
theorem aCl {K:bg->Prop}{tm:Nat->R}{mem KM mem':Mem}(h:tG mem KM)(J:tG KM mem')(cX:∀bp,bp=mem'->K ⟨tm,bp⟩):k1 K ⟨tm,mem⟩ .many:=⟨mem',.step h (.step J (.refl _)),cX _ rfl⟩
theorem aCm (T:bm){K:eF->bg->Prop}{kk:List fB}(cs:List aB)(h:List Rat)(aC:D6 cs h)(v1:R)(tm:Nat->R)(m:Mem)
  (bu:tm 0=.I (.Y (cs.map bw))) (ay:tm 1=v1) (bj:tm 6=.ref 233019 0 1 0 (D h)) (bJ:tm 7=.ref 233022 0 1 0 (D h)) (y4:tm 23=.I (.Y (cs.map bw))) (y5:tm 24=.I (.int .i64 (D cs))) (lY:tm 25=.I (.int .i64 0)) (j3:m 233057=none) (gc eW:Nat->Nat) (bW:Ka (D h) [] gc eW m)
  (cX:∀tm' m' KN SC,tm' 0=.I (.Y (cs.map bw))->tm' 1=v1->tm' 6=.ref 233019 0 1 0 (D h)->tm' 7=.ref 233022 0 1 0 (D h)->m' 233057=none->Ka (D h) cs KN SC m'->cj T K kk (.exit 0) ⟨tm',m'⟩) :
  wp T (FC.body.sub [1,1,1,0,1,0]) (cj T K kk) ⟨tm,m⟩:=by
 simp only[FC,ep.sub];have aM:=aC.n;have eG:=aC.len;refine c9 [0,1,6,7,23,24] [233057] (λ((t,gc,eW):Nat×(Nat->Nat)×(Nat->Nat)) tm m=>t<=D cs/\tm 25=.I (.int .i64 t)/\Ka (D h) (cs.take t) gc eW m) (λ(t,_)=>D cs-t) (0,gc,eW) (by refine⟨by omega,lY,by rw[ma];exact bW⟩) ?_;intro vs ms aK aF;simp only[go_sem,go_sem_proc,bu,ay,bj,bJ,y4,y5,j3] at aK aF;subst aK aF;clear bu ay bj bJ y4 y5 lY j3 bW tm m;rintro⟨t,gc,eW⟩ tm m L j3 ⟨cm,lY,bW⟩;simp only[go_sem,go_sem_proc,bf] at L j3;obtain⟨bu,ay,bj,bJ,y4,y5⟩:=L;rcases dk (t<D cs) with av|b4
 ·have d1:decide ((t:Int)<(D cs:Int))=true:=c5;have bl:=eu (i:=t) (by omega);obtain⟨⟨au,c2,c3,c4⟩,M⟩:∃c,cs[t]?=some c:=⟨_,bB av⟩;have jf:=aC.c _ (dS M);dsimp only at jf;obtain⟨au,rfl⟩:∃k:Nat,au=(k:Int):=⟨au.toNat,by omega⟩
  have fR:cs.take (t+1)=cs.take t++[((au:Int),c2,c3,c4)]:=by rw[g2,M];rfl
  have kQ:(cs.take t).length=t:=by rw[fU];omega
  generalize az:cs.take t=l at *;have gv:au<D h:=by omega
  have eS:=bW.eS;have eO:=bW.eO;have dh:=xt (jX (mY l gc) gv);have dC:=xt (jX (pp l eW) gv);have h0:(bx (D h) (mY l gc)).length=D h:=gn _ _;have iE:(bx (D h) (pp l eW)).length=D h:=gn _ _;have s1:=λv=>(TB (l:=bx (D h) (mY l gc)) (k:=au) (v:=v) (by rw[gn];exact gv)).trans (Ak (mY l gc) v);have s2:=λv=>(TB (l:=bx (D h) (pp l eW)) (k:=au) (v:=v) (by rw[gn];exact gv)).trans (Ak (pp l eW) v);have dr:au+1<=D h:=by omega
  have pH:(1<=maxLen)=True:=eq_true (by decide);have Ew:(cf l au).length<=12:=eP (mO _ _) (by omega);have j7:=TL l au;have TN:∀i,i<(D h)->233600+i≠233009/\233600+i≠233019/\233600+i≠233022/\233600+i≠233043/\233600+i≠233051/\233600+i≠233700+au/\233600+i≠233057:=λi U=>by omega
  have TO:∀i,i<(D h)->233700+i≠233009/\233700+i≠233019/\233700+i≠233022/\233700+i≠233043/\233700+i≠233051/\233700+i≠233600+au/\233700+i≠233057:=λi U=>by omega
  by_cases ix:cf l au=[]
  ·have adi:mY l gc au=.nil:=by unfold mY;rw[ad ix]
   have adj:pp l eW au=.nil:=by unfold pp;rw[ad ix]
   have GH:gO l au=[]:=yS.1 (by rw[j7,ix];rfl);rw[adi] at dh;rw[adj] at dC;simp only[go_sem,go_sem_proc,pH,bu,ay,bj,bJ,y4,y5,lY,M,eS,eO,dh,dC,h0,iE,s1,s2,d1,dr,gv,bw,cD,ah,aW];obtain⟨f11,f12,f13,f14,f15,f16,f17⟩:=TN au gv;obtain⟨f21,f22,f23,f24,f25,f26,f27⟩:=TO au gv
   refine aCl (tG.O1 233019 0 _ au 233043 (gd (m 233043)) 4 0 1 _ (233600+au) ((de (by decide)).trans j2) ((jX _ gv).trans (by rw[ad rfl])) ((de (by decide)).trans ((de (by decide)).trans ((de (by decide)).trans j2))) (by decide) f14 f12)
    (tG.O1 233022 0 _ au 233051 (gd (m 233051)) 1 0 1 _ (233700+au) ((de (by decide)).trans ((de (Ne.symm f13)).trans ((de (by decide)).trans j2))) ((jX _ gv).trans (by rw[ad rfl])) ((de (by decide)).trans ((de (Ne.symm f15)).trans ((de (by decide)).trans ((de (by decide)).trans ((de (by decide)).trans j2))))) (by decide) f25 f23) ?_
   intro M2 fN
   have oT:∀k:Nat,k≠233009->k≠233019->k≠233022->k≠233043->k≠233051->k≠233600+au->k≠233700+au->M2 k=m k:=λk eA x9 ub anr ans aCn aCo=>by
    rw[fN,de ub,de aCo,de ans,de x9,de aCn,de anr,de ub,de x9,de ans,de anr,de eA,de eA]
   obtain⟨TP,vJ,sn⟩:∃TP,M2 233019=some (0,bx (D h) λi=>if i=au then .ref (233600+au) TP 4 0 ((cf l au).length+1) else mY l gc i)/\M2 (233600+au)=some (TP,aS bw (cf l au++[((au:Int),c2,c3,c4)])):=by
    rw[ix];apply Exists.intro;apply And.intro
    rotate_left
    ·rw[fN,de f13,de f16,de f15,de f12,j2];rfl
    ·rw[fN,de (by decide),de (Ne.symm f22),de (by decide),j2,Ak]
     congr 2
     refine h6 λi _=>?_
     by_cases U:i=au
     ·rw[ad U,ad U];rfl
     ·rw[ag U,ag U,ag U]
   obtain⟨TQ,Oy,GF⟩:∃TQ,M2 233022=some (0,bx (D h) λi=>if i=au then .ref (233700+au) TQ 1 0 ((cf l au).length+1) else pp l eW i)/\M2 (233700+au)=some (TQ,aS hK (gO l au++[D l])):=by
    rw[ix,GH,kQ];apply Exists.intro;apply And.intro
    rotate_left
    ·rw[fN,de f23,j2];rfl
    ·rw[fN,j2,Ak]
     congr 2
     refine h6 λi _=>?_
     by_cases U:i=au
     ·rw[ad U,ad U];rfl
     ·rw[ag U,ag U,ag U]
   have jD:=bW.next (m':=M2) aM TP TQ vJ Oy sn GF λi U b5=>⟨by
    obtain⟨cE,cS,dU,eN,vR,uJ,-⟩:=TN i U;exact oT _ cE cS dU eN vR (by omega) uJ,by
    obtain⟨cE,cS,dU,eN,vR,uJ,-⟩:=TO i U;exact oT _ cE cS dU eN vR uJ (by omega)⟩
   have Oz:M2 233057=none:=(oT 233057 (by decide) (by decide) (by decide) (by decide) (by decide) (Ne.symm f17) (Ne.symm f27)).trans j3;clear fN oT vJ sn Oy GF;simp only[go_sem,go_sem_proc,bu,ay,bj,bJ,y4,y5,lY,bl,Oz];repeat' (first|refine al ?_ ?_|fail)<;>intro h<;>simp only[h,go_sem,go_sem_proc,bu,ay,bj,bJ,y4,y5,lY,bl,Oz]
   exact⟨(t+1,_,_),by dsimp only;omega,by dsimp only;omega,rfl,by rw[fR];exact jD⟩
  ·have adi:mY l gc au=.ref (233600+au) (gc au) 4 0 (cf l au).length:=by unfold mY;rw[ag ix]
   have adj:pp l eW au=.ref (233700+au) (eW au) 1 0 (gO l au).length:=by unfold pp;rw[ag ix,j7]
   rw[adi] at dh;rw[adj] at dC;have cL:=bW.cL au gv ix;have dN:=bW.dN au gv ix;have Vj:=ka yM NN (233600+au) (gc au) 32 (cf l au) ((au:Int),c2,c3,c4) (cs:=[.I (.int .i64 au),.I (.int .i64 c2),.I (.int .i64 c3),.I (.int .i64 c4)]) rfl (by omega) (by omega);have HI:=ka vH aiy (233700+au) (eW au) 8 (gO l au) (D l) (cs:=[.I (.int .i64 t)]) (by rw[kQ];rfl) (by omega) (by omega);obtain⟨f11,f12,f13,f14,f15,f16,f17⟩:=TN au gv;obtain⟨f21,f22,f23,f24,f25,f26,f27⟩:=TO au gv;have aKZ:(233600+au)=233600+au:=rfl;generalize dL:233600+au=A at *;generalize jK:233700+au=B at *;have OA:A≠B:=f16;have ev:(A==233009)=false:=beq_eq_false_iff_ne.2 f11;have aCp:(233009==A)=false:=beq_eq_false_iff_ne.2 (Ne.symm f11);have gg:(A==233019)=false:=beq_eq_false_iff_ne.2 f12;have aCq:(233019==A)=false:=beq_eq_false_iff_ne.2 (Ne.symm f12);have tj:(A==233022)=false:=beq_eq_false_iff_ne.2 f13;have aCr:(233022==A)=false:=beq_eq_false_iff_ne.2 (Ne.symm f13);have ja:(A==233043)=false:=beq_eq_false_iff_ne.2 f14;have aCs:(233043==A)=false:=beq_eq_false_iff_ne.2 (Ne.symm f14);have ab8:(A==233051)=false:=beq_eq_false_iff_ne.2 f15;have aCt:(233051==A)=false:=beq_eq_false_iff_ne.2 (Ne.symm f15);have js:(A==B)=false:=beq_eq_false_iff_ne.2 OA;have aCu:(B==A)=false:=beq_eq_false_iff_ne.2 (Ne.symm OA);have jz:(B==233009)=false:=beq_eq_false_iff_ne.2 f21;have aCv:(233009==B)=false:=beq_eq_false_iff_ne.2 (Ne.symm f21);have kJ:(B==233019)=false:=beq_eq_false_iff_ne.2 f22;have aCw:(233019==B)=false:=beq_eq_false_iff_ne.2 (Ne.symm f22);have sk:(B==233022)=false:=beq_eq_false_iff_ne.2 f23;have aCx:(233022==B)=false:=beq_eq_false_iff_ne.2 (Ne.symm f23);have sl:(B==233043)=false:=beq_eq_false_iff_ne.2 f24;have aCy:(233043==B)=false:=beq_eq_false_iff_ne.2 (Ne.symm f24);have aCz:(B==233051)=false:=beq_eq_false_iff_ne.2 f25;have aCA:(233051==B)=false:=beq_eq_false_iff_ne.2 (Ne.symm f25);have bb:(A=233009)=False:=eq_false f11;have b3:(B=233009)=False:=eq_false f21;have c7:(B=A)=False:=eq_false (Ne.symm OA);have eV:(233019=A)=False:=eq_false (Ne.symm f12);have kn:(233019=B)=False:=eq_false (Ne.symm f22);have j4:(233022=A)=False:=eq_false (Ne.symm f13);have jZ:(233022=B)=False:=eq_false (Ne.symm f23);have aCB:(233009=A)=False:=eq_false (Ne.symm f11);have aCC:(233009=B)=False:=eq_false (Ne.symm f21);have aCD:(A=B)=False:=eq_false OA;simp only[go_sem,go_sem_proc,pH,bu,ay,bj,bJ,y4,y5,lY,M,eS,eO,dh,dC,h0,iE,s1,s2,d1,dr,gv,cL,dN,Vj,HI,ev,aCp,gg,aCq,tj,aCr,ja,aCs,ab8,aCt,js,aCu,jz,aCv,kJ,aCw,sk,aCx,sl,aCy,aCz,aCA,bb,b3,c7,eV,kn,j4,jZ,aCB,aCC,aCD,bw,cD,ah,aW];refine ac1 ?_;intro M2 fN
   have oT:∀k:Nat,k≠233009->k≠233019->k≠233022->k≠A->k≠B->M2 k=m k:=λk eA x9 ub dL jK=>by
    rw[fN,de ub,de x9,de jK,de dL,de eA,de eA]
   have vJ:M2 233019=some (0,bx (D h) λi=>if i=au then .ref A (gc au+1) 4 0 ((cf l au).length+1) else mY l gc i):=by
    rw[fN,de (by decide),j2]
   have sn:M2 A=some (gc au+1,aS bw (cf l au++[((au:Int),c2,c3,c4)])):=by
    rw[fN,de f13,de f12,de OA,j2]
   have Oy:M2 233022=some (0,bx (D h) λi=>if i=au then .ref B (eW au+1) 1 0 ((cf l au).length+1) else pp l eW i):=by
    rw[fN,j2,j7]
   have GF:M2 B=some (eW au+1,aS hK (gO l au++[D l])):=by
    rw[fN,de f23,de f22,j2]
   have jD:=bW.next (m':=M2) aM (c2:=c2) (c3:=c3) (c4:=c4) (gc au+1) (eW au+1) (by rw[dL];exact vJ) (by rw[jK];exact Oy) (by rw[dL];exact sn) (by rw[jK];exact GF) λi U b5=>⟨by
    obtain⟨cE,cS,dU,eN,vR,uJ,-⟩:=TN i U;exact oT _ cE cS dU (by omega) uJ,by
    obtain⟨cE,cS,dU,eN,vR,uJ,-⟩:=TO i U;exact oT _ cE cS dU uJ (by omega)⟩
   have Oz:M2 233057=none:=(oT 233057 (by decide) (by decide) (by decide) (Ne.symm f17) (Ne.symm f27)).trans j3;clear fN oT vJ sn Oy GF;simp only[go_sem,go_sem_proc,bu,ay,bj,bJ,y4,y5,lY,bl,Oz];repeat' (first|refine al ?_ ?_|fail)<;>intro h<;>simp only[h,go_sem,go_sem_proc,bu,ay,bj,bJ,y4,y5,lY,bl,Oz]
   exact⟨(t+1,_,_),by dsimp only;omega,by dsimp only;omega,rfl,by rw[fR];exact jD⟩
 ·have d1:decide ((t:Int)<(D cs:Int))=false:=cu;rw[dH (by omega)] at bW;simp only[go_sem,go_sem_proc,bu,ay,bj,bJ,y4,y5,lY,d1];repeat' (first|refine al ?_ ?_|fail)<;>intro h<;>simp only[h,go_sem,go_sem_proc,bu,ay,bj,bJ,y4,y5,lY,d1]
  refine cX _ _ gc eW ?_ ?_ ?_ ?_ j3 bW<;>simp only[dv,cx,if_false,bu,ay,bj,bJ]
def At (l:List Nat):R:=if l=[] then .nil else .I (.Y (l.map hK))
theorem aCE (l:List Nat):rN (At l)=some (D l):=by
 unfold At
 split
 ·rename_i h;rw[h];rfl
 ·simp[rN]
theorem aCF {l:List Nat}{n y:Nat}(h:l[n]?=some y):AE 1 n (At l)=some (.I (.ptr (hK y))):=by
 unfold At
 split
 ·rename_i az;rw[az] at h;cases h
 ·simp only[AE,aW,h,l9]
  rfl
theorem aCG (l:List aB)(n:Nat)(m:Mem):dx n m (kU l)=some (.Y (l.map bw)):=by
 unfold kU
 split
 ·rename_i h;rw[h];exact aq5 n
 ·exact PD n _
def Kb (cs:List aB)(h:List Rat)(j:Nat):bG:=aq (fY cs (h.getD (cs.getD j jY).1.toNat 0) (cs.getD j jY))
def rK (cs:List aB)(h:List Rat)(i t j:Nat):Option bG:=if (cs.getD j jY).1<(i:Int)\/((cs.getD j jY).1=(i:Int)/\j∈(gO cs i).take t) then some (Kb cs h j) else none
theorem aCH (cs:List aB)(h:List Rat)(i:Nat):(bx (D cs) λj=>rK cs h i (gO cs i).length j)=bx (D cs) λj=>rK cs h (i+1) 0 j:=h6 λj ax=>by
 unfold rK;rw[kN,ma];have hm:=adg (l:=cs) (i:=i) (j:=j)
 by_cases G:(cs.getD j jY).1<(i:Int)
 ·rw[ad (.inl G),ad (.inl (by omega))]
 ·by_cases J:(cs.getD j jY).1=(i:Int)
  ·rw[ad (.inr ⟨J,hm.2 ⟨ax,J⟩⟩),ad (.inl (by omega))]
  ·rw[ag (λaX=>aX.elim G λx=>J x.1),ag (λaX=>aX.elim (by omega) λx=>by simpa using x.2)]
theorem aCI (cs:List aB)(h:List Rat)(aC:D6 cs h):(bx (D cs) λj=>rK cs h 0 0 j)=bx (D cs) λ_=>none:=h6 λj ax=>by
 have:=(aC.c _ (dS (bB ax))).1;have e:cs.getD j jY=cs[j]:=by rw[ez,bB ax];rfl
 unfold rK;rw[e,ma,ag (λaX=>aX.elim (by omega) λx=>by simpa using x.2)]
theorem aCJ (cs:List aB)(h:List Rat)(aC:D6 cs h):(bx (D cs) λj=>rK cs h (D h) 0 j)=(cs.map λc=>aq (fY cs (h.getD c.1.toNat 0) c)).map some:=by
 refine (Oa (by simp) λj ax=>?_).symm;have:=(aC.c _ (dS (bB ax))).2.1;have e:cs.getD j jY=cs[j]:=by rw[ez,bB ax];rfl
 unfold rK;rw[aW,aW,bB ax,e,ad (.inl this)];unfold Kb;rw[e];rfl
theorem aCK (T:bm){K:eF->bg->Prop}{kk:List fB}(cs:List aB)(h:List Rat)(aC:D6 cs h)(i:Nat)(U:i<D h)(v1 tx ant anu anv:R)(anw anx:Option (Nat×List R))(tm:Nat->R)(m:Mem)
  (ay:tm 1=v1) (bJ:tm 7=tx) (dY:tm 10=.ref 233057 0 4 0 (D cs)) (hy:tm 13=.I (.Y (((cf cs i).map λc=>aq (fY cs (h.getD i 0) c)).map aw))) (vY:tm 58=ant) (pB:tm 59=anu) (lo:tm 60=anv) (GM:tm 79=At (gO cs i)) (GN:tm 80=.I (.int .i64 (gO cs i).length)) (GO:tm 81=.I (.int .i64 0)) (Cd:m 233019=anw) (Ce:m 233022=anx) (j3:m 233057=some (0,mQ rI (bx (D cs) λj=>rK cs h i 0 j)))
  (cX:∀tm' m',tm' 1=v1->tm' 7=tx->tm' 10=.ref 233057 0 4 0 (D cs)->tm' 58=ant->tm' 59=anu->tm' 60=anv->m' 233019=anw->m' 233022=anx->m' 233057=some (0,mQ rI (bx (D cs) λj=>rK cs h (i+1) 0 j))->cj T K kk (.exit 4) ⟨tm',m'⟩) :
  wp T (FC.body.sub [1,1,1,1,1,0,1,0,0,1,1,0,0,1,1,1,1,0]) (cj T K kk) ⟨tm,m⟩:=by
 simp only[FC,ep.sub];have eG:=aC.len;have j7:=aCk cs i;refine c9 [1,7,10,13,58,59,60,79,80] [233019,233022] (λ(k:Nat) tm m=>k<=(gO cs i).length/\tm 81=.I (.int .i64 k)/\m 233057=some (0,mQ rI (bx (D cs) λj=>rK cs h i k j))) (λk=>(gO cs i).length-k) 0 (by refine⟨by omega,GO,j3⟩) ?_;intro vs ms aK aF;simp only[go_sem,go_sem_proc,ay,bJ,dY,hy,vY,pB,lo,GM,GN,Cd,Ce] at aK aF;subst aK aF;clear ay bJ dY hy vY pB lo GM GN GO Cd Ce j3 tm m;rintro k tm m L hm ⟨yx,GO,j3⟩;simp only[go_sem,go_sem_proc,bf] at L hm;obtain⟨ay,bJ,dY,hy,vY,pB,lo,GM,GN⟩:=L;obtain⟨Cd,Ce⟩:=hm;rcases dk (k<(gO cs i).length) with av|b4
 ·have d1:decide ((k:Int)<((gO cs i).length:Int))=true:=c5;have bl:=eu (i:=k) (by omega);obtain⟨y,ao⟩:∃y,(gO cs i)[k]?=some y:=⟨_,bB av⟩;obtain⟨Cw,anz⟩:=adg.1 (dS ao);have uv:=aCF ao;simp only[go_sem,go_sem_proc,cD] at uv
  have TR:((cf cs i).map λc=>aq (fY cs (h.getD i 0) c))[k]?=some (Kb cs h y):=by
   rw[anq,aW,aW,ao];unfold Kb;rw[anz,iY];rfl
  have B6:=SU (q:=λj=>rK cs h i k j) Cw;have lj:=λa b c d=>SV (q:=λj=>rK cs h i k j) Cw a b c d
  have hD:∀aR:bG,aR=Kb cs h y->(bx (D cs) λj=>if j=y then some aR else rK cs h i k j)=bx (D cs) λj=>rK cs h i (k+1) j:=λaR dw=>h6 λj _=>by
   have fR:(gO cs i).take (k+1)=(gO cs i).take k++[y]:=by rw[g2,ao];rfl
   by_cases ax:j=y
   ·subst ax;rw[ad rfl];unfold rK;rw[fR,ad (.inr ⟨anz,by simp⟩),dw]
   ·rw[ag ax];unfold rK;rw[fR]
    by_cases G:(cs.getD j jY).1<(i:Int)\/((cs.getD j jY).1=(i:Int)/\j∈(gO cs i).take k)
    ·rw[ad G,ad (G.imp id λx=>⟨x.1,by simp[x.2]⟩)]
    ·rw[ag G,ag λaX=>G (aX.imp id λx=>⟨x.1,by simpa [ax] using x.2⟩)]
  have aM:=hD _ rfl;clear cX;generalize ((cf cs i).map λc=>aq (fY cs (h.getD i 0) c))=xy at *;generalize Kb cs h y=aR at *;obtain⟨⟨cE,cS⟩,⟨dU,eN⟩⟩:=aR;have dq:=lj cE cS dU eN;rw[aM] at dq;simp only[go_sem,go_sem_proc,ay,bJ,dY,hy,vY,pB,lo,GM,GN,GO,Cd,Ce,j3,d1,bl,uv,TR,B6,dq,Cw,hK,aw,cD,ah,aW];repeat' (first|refine al ?_ ?_|fail)<;>intro h<;>simp only[h,go_sem,go_sem_proc,ay,bJ,dY,hy,vY,pB,lo,GM,GN,GO,Cd,Ce,j3,d1,bl,uv,TR,B6,dq,Cw,hK,aw,cD,ah,aW]
  exact⟨k+1,by omega,by omega,rfl,rfl⟩
 ·have d1:decide ((k:Int)<((gO cs i).length:Int))=false:=cu;obtain rfl:k=(gO cs i).length:=by omega
  rw[aCH] at j3;simp only[go_sem,go_sem_proc,ay,bJ,dY,hy,vY,pB,lo,GM,GN,GO,d1];repeat' (first|refine al ?_ ?_|fail)<;>intro h<;>simp only[h,go_sem,go_sem_proc,ay,bJ,dY,hy,vY,pB,lo,GM,GN,GO,d1]
  refine cX _ _ ?_ ?_ ?_ ?_ ?_ ?_ Cd Ce j3<;>simp only[dv,cx,if_false,ay,bJ,dY,vY,pB,lo]
theorem aCL (n:Nat):(en n [R.nil]).flatten=bx n λ_ => .nil:=by
 induction n with
 |zero=>rfl
 |succ n aH=>rw[anA,List.flatten_append,aH,ane];rfl
theorem aCM {a b:List Rat}(h:(a.map aq).map aw=(b.map aq).map aw):a=b:=map_inj (λ_ _ h=>QE h) _ _ (map_inj uk _ _ h)
abbrev adk:(List aB)×(List Rat)->List Data:=λ(cs,h)=>[.Y (cs.map bw),.Y ((h.map aq).map aw)]
def TS:=cy adk λ(cs,h)=>cT (D6 cs h) (.same (.cB [.Y ((cs.map λc=>aq (fY cs (h.getD c.1.toNat 0) c)).map aw),.bool true]))
theorem aCN:∀a b,adk a=adk b->a=b:=by
  rintro⟨DU,G⟩ ⟨u1,J⟩ h;simp only[bf,Data.Y.injEq,and_true] at h;exact ei (map_inj sA _ _ h.1) (aCM h.2)
@[go_sem] theorem aCO (cs:List aB)(h:List Rat)(H:D6 cs h):TS [.Y (cs.map bw),.Y ((h.map aq).map aw)]=some (.same (.cB [.Y ((cs.map λc=>aq (fY cs (h.getD c.1.toNat 0) c)).map aw),.bool true])):=(cF aCN (cs,h)).trans (cY H _)
theorem aCP (T:bm)(xz:T V4=aO ade)(cs:List aB)(h:List Rat)(H:D6 cs h):WP T FC (.same (.cB [.Y ((cs.map λc=>aq (fY cs (h.getD c.1.toNat 0) c)).map aw),.bool true])) [.I (.Y (cs.map bw)),.I (.Y ((h.map aq).map aw))]:=by
 refine cH ?_;simp only[FC];have aM:=H.n;have eG:=H.len;have DD:(24*D h<=140737488355328)=True:=eq_true (by omega);have w9:(D h<=maxLen)=True:=eq_true (by unfold maxLen;omega);have adl:(64*D cs<=140737488355328)=True:=eq_true (by omega);have aCQ:(D cs<=maxLen)=True:=eq_true (by unfold maxLen;omega);have a2:=aCL (D h);have Sh:=acd (D cs);rw[<-aCI cs h H] at Sh;simp only[go_sem,go_sem_proc,xz,DD,w9,a2,ah];refine aCm T cs h H (.I (.Y ((h.map aq).map aw))) _ _ ?_ ?_ ?_ ?_ ?_ ?_ ?_ ?_ (λ_=>0) (λ_=>0) ⟨?_,?_,λi U b5=>absurd rfl b5,λi U b5=>absurd rfl b5⟩ ?_
 all_goals first|(intro tm m gc eW ej cL eD hv j3 bW)|(simp only[dv,cx,if_false,if_true];done)|(simp only[dv,cx,if_false,if_true];rfl)|(simp only[a5,cx,if_false,if_true];rfl)|skip
 obtain⟨ef,G,J,af⟩:=TJ (λi=>233600+i) (λi=>kU (cf cs i)) (λi U=>by omega) (λi j _ _ he=>by omega) (D h) 0 (mY cs gc) m (by omega) bW.eS (λi U=>by omega) λi _ U=>by
  by_cases ix:cf cs i=[]
  ·refine .inl ?_;unfold mY kU;rw[ad ix,ad ix]
  ·refine .inr ⟨gc i,4,(cf cs i).length,aS bw (cf cs i),.Y ((cf cs i).map bw),?_,bW.cL i U ix,λbX o9=>kt (n:=0) yM o9,?_⟩
   ·unfold mY;rw[ag ix]
   ·unfold kU;rw[ag ix]
 have ub:ef 233022=some (0,bx (D h) (pp cs eW)):=(af 233022 (by decide) λi U=>by omega).trans bW.eO;have anB:ef 233057=none:=(af 233057 (by decide) λi U=>by omega).trans j3
 obtain⟨bX,dh,dC,ji⟩:=TJ (λi=>233700+i) (λi=>At (gO cs i)) (λi U=>by omega) (λi j _ _ he=>by omega) (D h) 0 (pp cs eW) ef (by omega) ub (λi U=>by omega) λi _ U=>by
  by_cases ix:cf cs i=[]
  ·refine .inl ?_;have GH:gO cs i=[]:=yS.1 (by rw[TL,ix];rfl);unfold pp At;rw[ad ix,ad GH]
  ·have GH:gO cs i≠[]:=λaX=>ix (yS.1 (by rw[<-TL,aX];rfl));refine .inr ⟨eW i,1,(cf cs i).length,aS hK (gO cs i),.Y ((gO cs i).map hK),?_,?_,λbX o9=>by rw[<-TL];exact kt (n:=0) vH o9,?_⟩
   ·unfold pp;rw[ag ix]
   ·exact (af (233700+i) (by omega) λj ax=>by omega).trans (bW.dN i U ix)
   ·unfold At;rw[ag GH]
 have OB:bX 233019=some (0,bx (D h) λi=>kU (cf cs i)):=(ji 233019 (by decide) λi U=>by omega).trans J;have Au:bX 233057=none:=(ji 233057 (by decide) λi U=>by omega).trans anB;simp only[go_sem,go_sem_proc,xz];refine anc (G.trans dh) ?_;clear G J af dh ji ub anB bW j3;simp only[go_sem,go_sem_proc,xz,ej,cL,eD,hv,adl,aCQ,Sh,Au,ah];refine c9 [1,7,10,58,59] [233019,233022] (λ(i:Nat) tm m=>i<=D h/\tm 60=.I (.int .i64 i)/\m 233057=some (0,mQ rI (bx (D cs) λj=>rK cs h i 0 j))) (λi=>D h-i) 0 (by refine⟨by omega,rfl,by simp[a5]⟩) ?_;intro vs ms aK aF;simp only[go_sem,go_sem_proc,xz,cL,hv,OB,dC,ah] at aK aF;subst aK aF;clear ej cL eD hv OB Au dC tm m ef bX;rintro i tm m L hm ⟨U,lo,j3⟩;simp only[go_sem,go_sem_proc,xz,bf] at L hm;obtain⟨ay,bJ,dY,vY,pB⟩:=L;obtain⟨Cd,Ce⟩:=hm;rcases dk (i<D h) with av|b4
 ·have d1:decide ((i:Int)<(D h:Int))=true:=c5;have bl:=eu (i:=i) (by omega);obtain⟨x,M⟩:∃x,h[i]?=some x:=⟨_,bB av⟩;have Iz:h.getD i 0=x:=by rw[ez,M];rfl
  have pZ:=H.x x (dS M)
  have kG:lU (cf cs i):=⟨eP (mO _ _) eG,λc fc=>by
   have G:=H.c c (tr.1 fc).1;omega,λc fc c' aCR=>by rw[(tr.1 fc).2,(tr.1 aCR).2]⟩
  have dw:=aCh x (cf cs i) ⟨kG,pZ.1,pZ.2⟩;rw[alP,<-Iz] at dw;rw[<-Iz] at M;have eS:=xt (jX (λi=>kU (cf cs i)) av);have eO:=xt (jX (λi=>At (gO cs i)) av);have h0:(bx (D h) λi=>kU (cf cs i)).length=D h:=gn _ _;have iE:(bx (D h) λi=>At (gO cs i)).length=D h:=gn _ _;have dr:i+1<=D h:=by omega
  have wT:=aCG (cf cs i) 6;have anC:=aCE (gO cs i);simp only[go_sem,go_sem_proc,xz] at anC;generalize jN:aq (h.getD i 0)=cr at *;obtain⟨⟨cE,cS⟩,⟨dU,eN⟩⟩:=cr;simp only[aw] at dw;simp only[go_sem,go_sem_proc,xz,xz,ay,bJ,dY,vY,pB,lo,Cd,Ce,j3,d1,eS,eO,h0,iE,dr,av,M,jN,wT,dw,anC,aw,cD,ah,aW,bne,beq_self_eq_true,bT];refine aCK T cs h H i av (.I (.Y ((h.map aq).map aw))) (.ref 233022 0 1 0 (D h)) (.ref 233019 0 1 0 (D h)) (.I (.int .i64 (D h))) (.I (.int .i64 i)) _ _ _ _ ?_ ?_ ?_ ?_ ?_ ?_ ?_ ?_ ?_ ?_ Cd Ce j3 ?_
  all_goals first|(intro tm' m' cL hv iK anD anE anF OB anG Au)|(simp only[dv,cx,if_false,if_true,ay,bJ,dY,vY,pB,lo];done)
  simp only[go_sem,go_sem_proc,xz,cL,hv,iK,anD,anE,anF,OB,anG,Au,bl];repeat' (first|refine al ?_ ?_|fail)<;>intro h<;>simp only[h,go_sem,go_sem_proc,xz,cL,hv,iK,anD,anE,anF,OB,anG,Au,bl]
  exact⟨i+1,by omega,by omega,rfl,rfl⟩
 ·have d1:decide ((i:Int)<(D h:Int))=false:=cu;obtain rfl:i=D h:=by omega
  rw[aCJ cs h H,ace] at j3;have jF:=λ(K:bg->Prop) (st:bg)=>k6 (K:=K) (st:=st) jS 10 233057 0 (cs.map λc=>aq (fY cs (h.getD c.1.toNat 0) c));rw[ah] at jF;simp only[go_sem,go_sem_proc,xz,ay,bJ,dY,vY,pB,lo,d1,j3,jF,ah];repeat' (first|refine al ?_ ?_|fail)<;>intro h<;>simp only[h,go_sem,go_sem_proc,xz,ay,bJ,dY,vY,pB,lo,d1,j3,jF,ah]
end Go.Mini
namespace Go.Mini
open Classical
def Kc (cs:List aB)(x:Nat->Rat)(i:Nat)(acc:Option Rat)(c:aB):Option Rat :=
 if c.2.1=(i:Int) then acc.bind λs=>if qD s (fY cs (x c.1.toNat) c)=true then some (s+fY cs (x c.1.toNat) c) else none else acc
def y6 (E:List Int)(cs:List aB)(x:Nat->Rat)(i:Nat)(l:List aB):Option Rat:=l.foldl (Kc cs x i) (some ((E.getD i 0:Int):Rat))
theorem aCS (E:List Int)(cs:List aB)(x:Nat->Rat)(i:Nat):y6 E cs x i []=some ((E.getD i 0:Int):Rat):=rfl
theorem OC (E:List Int)(cs:List aB)(x:Nat->Rat)(i:Nat)(l:List aB)(c:aB):y6 E cs x i (l++[c])=Kc cs x i (y6 E cs x i l) c:=by
 unfold y6;rw[anH];rfl
def vZ (E:List Int)(cs:List aB)(x:Nat->Rat)(i:Nat)(l:List aB):Rat:=((E.getD i 0:Int):Rat)+ck (l.map ca) λc=>if c.to=(i:Int) then (ak E cs).jE x c else 0
theorem aCT {E:List Int}{cs:List aB}(h:g9 E cs=true)(x:Nat->Rat)(i:Nat)(l:List aB){c:aB}(H:c∈cs):vZ E cs x i (l++[c])=vZ E cs x i l+if c.2.1=(i:Int) then fY cs (x c.1.toNat) c else 0:=by
 unfold vZ;rw[kg,NQ,<-alB h x H];show _+(_+((if (ca c).to=(i:Int) then (ak E cs).jE x (ca c) else 0)+0))=_;have e:(ca c).to=c.2.1:=rfl;rw[e,pr];grind
def adm (E:List Int)(cs:List aB)(x:Nat->Rat):Prop:=∀i,i<(D E)->y6 E cs x i cs=some (x i)
section
variable {E:List Int} {cs:List aB} (Q:e5 E cs)
include Q
theorem aCU:0<oL (D E) (xl E cs)/\oL (D E) (xl E cs)<=2^145:=by
 refine⟨aa9 λk L=>akT Q L,eP (abb λk _=>akU Q k) (Nat.pow_le_pow_right (by omega) ?_)⟩;have:=Q.hV;omega
theorem aCV:∃bp:Nat,0<bp/\(∃a,a<=547/\bp<=2^a)/\(∀i,i<(D E)->fv bp ((ak E cs).ct i))/\∀c∈cs,fv bp ((ak E cs).jE (ak E cs).ct (ca c)):=by
 obtain⟨bp,G,⟨a,J,af⟩,aP⟩:=akS Q;obtain⟨jz,kJ⟩:=aCU Q;refine⟨bp*oL (D E) (xl E cs),Nat.mul_pos G jz,⟨a+145,by omega,by rw[Nat.pow_add];exact Nat.mul_le_mul af kJ⟩,λi U=>(aP i U).more _,λc H=>?_⟩
 have bh:=akV Q aP H;have L:(ca c).aE<D E:=Q.ok.aE _ (BZ H);refine bh.of_dvd ?_;obtain⟨m,hm⟩:=abc (cZ:=xl E cs) L;exact⟨m,by rw[hm,Nat.mul_assoc]⟩
theorem aCW {i:Nat}(U:i<D E){l fL:List aB}(az:cs=l++fL):eJ 598 (vZ E cs (ak E cs).ct i l):=by
 obtain⟨bp,G,⟨a,J,af⟩,-,aP⟩:=aCV Q
 have Jw:∀m:List aB,(∀c∈m,c∈cs)->0<=ck (m.map ca) λc=>if c.to=(i:Int) then (ak E cs).jE (ak E cs).ct c else 0:=λm hm=>z5 λy ao=>by
  obtain⟨c,H,rfl⟩:=gE.1 ao
  try dsimp only
  split
  ·exact Q.ok.ajx _ (BZ (hm c H))
  ·exact Rat.le_refl
 have Ij:∀c∈l,c∈cs:=λc H=>by rw[az];simp[H]
 have o9:∀c∈fL,c∈cs:=λc H=>by rw[az];simp[H]
 have iv:(0:Rat)<=((E.getD i 0:Int):Rat):=by have:=(Q.E i).1;exact_mod_cast this
 have ab:fv bp (vZ E cs (ak E cs).ct i l):=by
  unfold vZ;refine (fv.int _ _).add (fv.ck λy ao=>?_);obtain⟨c,H,rfl⟩:=gE.1 ao
  split
  ·exact aP c (Ij c H)
  ·exact fv.zero _
 have aj:0<=vZ E cs (ak E cs).ct i l:=by
  have:=Jw l Ij;unfold vZ;grind
 have hle:vZ E cs (ak E cs).ct i l<=(ak E cs).ct i:=by
  rw[(Jz Q.ok).1 i U]
  have e:(ak E cs).uF (ak E cs).ct i=vZ E cs (ak E cs).ct i l+ck (fL.map ca) λc=>if c.to=(i:Int) then (ak E cs).jE (ak E cs).ct c else 0:=by
   have aA:(ak E cs).uF (ak E cs).ct i=((E.getD i 0:Int):Rat)+ck (cs.map ca) λc=>if c.to=(i:Int) then (ak E cs).jE (ak E cs).ct c else 0:=rfl;rw[aA];unfold vZ;have bQ:ck (cs.map ca) (λc=>if c.to=(i:Int) then (ak E cs).jE (ak E cs).ct c else 0)=ck ((l++fL).map ca) λc=>if c.to=(i:Int) then (ak E cs).jE (ak E cs).ct c else 0:=by rw[<-az]
   rw[bQ,kg,NQ];grind
  have:=Jw fL o9;grind
 exact (ab.sz G af aj (e:=51) (Rat.le_trans hle (ayZ Q U))).mono (by omega)
theorem aCX:adm E cs (ak E cs).ct:=λi U=>by
 have key:∀n (l fL:List aB),D l=n->cs=l++fL->y6 E cs (ak E cs).ct i l=some (vZ E cs (ak E cs).ct i l):=by
  intro n
  induction n with
  |zero =>
   intro l fL az _;have:l=[]:=yS.1 az;subst this;rw[aCS];unfold vZ;rw[b6,ck,pr]
  |succ n aH =>
   intro l fL az kq;rcases zv l with aj|⟨m,c,rfl⟩
   ·subst aj;cases az
   ·rw[zw] at *;simp only[gj,s7] at az;have H:c∈cs:=by rw[kq];simp
    have fc:cs=m++([c]++fL):=by rw[kq,List.append_assoc]
    rw[OC,aCT Q.right _ i m H,aH m _ (by omega) fc];unfold Kc
    by_cases GD:c.2.1=(i:Int)
    ·rw[ad GD,ad GD,CJ,ad];refine xg (aCW Q U fc) (b:=482) ?_ (by omega);rw[<-alB Q.right _ H];exact ay0 Q H
    ·rw[ag GD,ag GD,pr]
 have G:=key _ cs [] rfl (by simp);rw[G,(Jz Q.ok).1 i U]
 rfl
end
end Go.Mini
namespace Go.Mini
open Go
theorem anI (x:Rat):x*(x.den:Rat)=(x.num:Rat):=by
 have h:(Rat.divInt x.num x.den)=x:=Rat.num_divInt_den x;rw[Rat.divInt_eq_div] at h;have aj:((x.den:Int):Rat)≠0:=by have:=x.den_nz;exact_mod_cast this
 have J:(x.num:Rat)/((x.den:Int):Rat)*((x.den:Int):Rat)=(x.num:Rat):=Rat.div_mul_cancel aj;rw[h,oJ] at J;exact J
theorem aCY {x y:Rat}(h:qD x y=true):dX (x+y):=by
 unfold qD at h;simp only[gb] at h;obtain⟨-,-,af,aP⟩:=h
 have ab:((x.den:Int)*y.den)≠0:=by
  have G:=x.den_nz;have J:=y.den_nz;exact Int.mul_ne_zero (by omega) (by omega)
 have e:(x+y)*(((x.den:Int)*y.den:Int):Rat)=((x.num*y.den+y.num*x.den:Int):Rat):=by
  have ay:x*(x.den:Rat)=(x.num:Rat):=anI x;have aA:y*(y.den:Rat)=(y.num:Rat):=anI y;rw[z7,tg,tg,tg,oJ,oJ,<-ay,<-aA];grind
 obtain⟨f1,f2⟩:=BX ab e;have:=pe af;have:=pe aP;exact⟨by omega,by omega⟩
theorem aCZ {α:Type}(p:α->Bool)(l:List α)(k:Nat)(L:k<D l)(h:∀j (ax:j<k),p (l[j]'(by omega))=false)(J:p l[k]=true):pg p l=k :=
 Dh (λx M=>by
  obtain⟨j,ax⟩:=List.mem_iff_getElem?.1 M;rw[List.getElem?_take] at ax
  by_cases ga:j<k
  ·rw[ad ga,bB (by omega),cO] at ax;rw[<-ax];exact h j ga
  ·rw[ag ga] at ax;cases ax) (bB L) J
theorem anJ {d:Day}{h:Nat->Rat}{i:Nat}:∀k,k<=10->d.jd h i k<10->(∀j,10-k<=j->j<d.jd h i k->d.bZ i (j+1)<=h i)/\h i<d.bZ i (d.jd h i k+1)/\10-k<=d.jd h i k
 |0,_,G=>by rw[Day.jd] at G;omega
 |k+1,L,G=>by
  rw[Day.jd] at G ⊢
  by_cases H:h i<d.bZ i (10-(k+1)+1)
  ·rw[ad H] at G ⊢;exact⟨λj J af=>by omega,H,cI _⟩
  ·rw[ag H] at G ⊢;obtain⟨cL,dN,eo⟩:=anJ k (by omega) G;refine⟨λj J af=>?_,dN,by omega⟩
   by_cases ax:j=10-(k+1)
   ·rw[ax];grind
   ·exact cL j (by omega) af
theorem aC0 {E:List Int}{cs:List aB}(Q:e5 E cs)(h:Nat->Rat)(n i:Nat)(U:i<n)(ic:dX (h i))(aD:(ak E cs).jd h i 10<10):pg (kV (.solve (c8 n h) i)) (bx 10 λk=>b0 cs i (k+1:Nat))=((ak E cs).jd h i 10:Int):=by
 obtain⟨G,J,af⟩:=anJ 10 (cI _) aD;have oC:=λk:Nat=>Q.upto i k
 have aC:∀k:Nat,kV (.solve (c8 n h) i) (b0 cs i (k+1:Nat))=decide (h i<(ak E cs).bZ i (k+1)):=λk=>by
  have ab:(c8 n h).getD i c1=aq (h i):=by rw[ez,p9 h U];rfl
  have oO:df (b0 cs i (k+1:Nat)):=lT (by have:=oC (k+1);omega) (by have:=oC (k+1);omega);simp only[kV];rw[ab,QM ic (n3 oO),abQ,ps Q.right]
 refine aCZ _ _ _ (by rw[gn];exact aD) (λj ax=>?_) ?_
 ·have e:=jX (λk=>b0 cs i (k+1:Nat)) (show j<10 by omega);rw[bB (by rw[gn];omega),cO] at e;rw[e,aC];exact kY (by have:=G j (by omega) ax;grind)
 ·have e:=jX (λk=>b0 cs i (k+1:Nat)) aD;rw[bB (by rw[gn];omega),cO] at e;rw[e,aC];exact jw J
def du.wf (a:du)(f:Nat->Nat):du:={ a with aJ:=bx (D a.E) λi=>(f i:Int) }
theorem du.adn (a:du)(f:Nat->Nat){i:Nat}(U:i<D a.E):(a.wf f).ha i=(a.ha i).yU (f i):=by
 have:(bx (D a.E) λi=>(f i:Int)).getD i 10=(f i:Int):=Cc _ _ U;unfold du.ha du.wf py.yU;dsimp only;rw[this]
theorem du.fb.aC1 {a:du}{m:Mem}{f:Nat->Nat}(h:(a.wf f).fb m){i:Nat}(U:i<D a.E)(r:Nat):(a.wf λj=>if j=i then r else f j).fb (a5 m (228500+i) (a.gs.getD i 0) (fZ ((a.ha i).yU r))):=by
 refine⟨h.can,gn _ _,h.pl,h.S5,?_,λj ax=>?_⟩
 ·have:=h.row;simp only[a5];rw[ag (show ¬ ((228023:Nat)=228500+i) by omega)];exact this
 ·rw[du.adn a _ ax];simp only[a5]
  by_cases lz:j=i
  ·subst lz;rw[ad rfl,ad rfl]
   rfl
  ·rw[ag (show ¬ ((228500+j:Nat)=228500+i) by omega),ag lz];have:=h.ek j ax;rw[du.adn a _ ax] at this;exact this
theorem du.TT (a:du){p q:Nat->Nat}(h:∀i,i<(D a.E)->p i=q i):a.wf p=a.wf q:=by
 unfold du.wf;rw[h6 λi U=>by rw[h i U]]
theorem aC2 {n i:Nat}(f:Nat->Nat)(h:i<n):a9 (bx n λi=>(f i:Int)) i=f i:=by
 unfold a9;rw[Cc _ _ h,iY]
theorem aC3 {x:py}(h:x.dF){k g:Nat}{m:Mem}(hm:m k=some (g,fZ x))(n:Nat):dx (n+1) m (.ref k g 1 12 10)=some (.Y (x.us.tail.map ae)):=by
 have e:cut (fZ x) 12 10=some (x.us.tail.map db):=by
  unfold cut;rw[ad (by rw[D3 h];omega)]
  congr 1
  obtain⟨c,dt,us,f,p⟩:=x;obtain⟨G,J⟩:=h;dsimp only at G J
  cases us with
  |nil=>cases J
  |cons u us =>
   have az:(D us)=10:=by simpa using J
   unfold fZ;dsimp only;rw[D4,List.drop_append,List.drop_eq_nil_of_le (by rw[ah];omega),ah,G,List.nil_append,eI];rw[show 11-10=1 from rfl,List.cons_append,D4,nP,List.take_append_of_le_length (by rw[ah];omega),dH (by rw[ah];omega)]
   rfl
 have aA:∀l:List Int,(l.map db).mapM (dx n m)=some (l.map λz=>Data.int .i64 z):=by
  intro l
  induction l with
  |nil=>rfl
  |cons a l aH =>
   rw[eI,oa,aH];rw[show dx n m (db a)=some (.int .i64 a) from PD n _]
   rfl
 have bQ:∀l:List Int,chunk 1 (D l) (l.map λz=>Data.int .i64 z)=l.map ae:=by
  intro l
  induction l with
  |nil=>rfl
  |cons a l aH=>simp only[kB,eI,chunk,List.take_succ_cons,ma,D4,nP,aH];rfl
 have az:(D x.us.tail)=10:=by rw[List.length_tail,h.us]
 unfold dx;rw[hm];dsimp only;rw[ad rfl,cD,e];dsimp only;rw[aA];have:=bQ x.us.tail;rw[az] at this;rw[l9,this]
theorem du.fb.up {a:du}{m:Mem}(h:a.fb m)(aM:(D a.E)<=5){k g:Nat}{cs:List R}(L:k/1000≠228):a.fb (a5 m k g cs) :=
 ⟨h.can,h.aJ,h.pl,h.S5,by rw[de (by omega)];exact h.row,λi U=>by rw[de (by omega)];exact h.ek i U⟩
theorem aC4 {α:Type}(n:Nat)(q:Nat->α):(bx (n+1) q).tail=bx n λk=>q (k+1):=by
 unfold bx;rw[List.range_succ_eq_map,eI,List.tail_cons,pQ]
 rfl
theorem anK {m:Mem}{k g:Nat}{d:Data}(hm:m k=some (g,[.I d]))(n:Nat):dx (n+1) m (.ptr k g 0)=some (.ptr [d]):=by
 unfold dx;rw[hm];dsimp only;rw[ad ⟨rfl,fA _⟩,nP,oa,PD]
 rfl
theorem GP (n k g sz o l:Nat):dx (n+1) emp (.ref k g sz o l)=none:=by
 unfold dx;rfl
def xA (d:Day)(f:Nat->Nat)(h:Nat->Rat)(i j:Nat):Nat:=if j<i then d.gr f h j else f j
theorem aC5 (T:bm)(ig:T qz=aO xk)(hW:T u9=aO zS)(qS:T EZ=aO JM){K:eF->bg->Prop}{kk:List fB}(a:du)(Q:e5 a.E a.cs)(f:Nat->Nat)(aD:∀i,i<(D a.E)->f i<=10)(h:Nat->Rat)(ic:∀i,i<(D a.E)->dX (h i))(aj:∀i,i<(D a.E)->0<=h i)(kK:Mem)(v1 v4 tx:R)(OD ado:Nat)(tm:Nat->R)(m:Mem)
  (ay:tm 1=v1) (bL:tm 4=v4) (bj:tm 6=.ref 228023 a.g 1 0 (D a.E)) (bJ:tm 7=tx) (dg:tm 8=.ptr 217008 OD 0) (dY:tm 10=.ref 217057 ado 1 0 0) (j0:tm 31=.ref 228023 a.g 1 0 (D a.E)) (j1:tm 32=.I (.int .i64 (D a.E))) (Cf:tm 33=.I (.int .i64 0))
  (bW:(a.wf f).fb m) (s6:kK 217008=some (OD,[.I (.Y ((c8 (D a.E) h).map aw))])) (j3:m 217057=some (ado,[])) (bC:∀k,k/1000≠228->k≠217011->k≠217057->m k=kK k)
  (cX:∀tm' m' ea,tm' 1=v1->tm' 4=v4->tm' 6=.ref 228023 a.g 1 0 (D a.E)->tm' 7=tx->tm' 8=.ptr 217008 OD 0->tm' 10=.ref 217057 ea 1 0 (oP (ak a.E a.cs) f h (D a.E)).length->m' 217057=some (ea,aS hK (oP (ak a.E a.cs) f h (D a.E)))->(a.wf ((ak a.E a.cs).gr f h)).fb m'->(∀k,k/1000≠228->k≠217011->k≠217057->m' k=kK k)->cj T K kk (.exit 2) ⟨tm',m'⟩) :
  wp T (FB.body.sub [1,1,1,1,0,0,0,0,1,1,1,0,1,0,0]) (cj T K kk) ⟨tm,m⟩:=by
 simp only[FB,ep.sub];have aM:=Q.hV;have ab:=Q.ok
 refine c9 [1,4,6,7,8,31,32] [] (λ((i,g):Nat×Nat) tm m=>i<=D a.E/\tm 33=.I (.int .i64 i)/\tm 10=.ref 217057 g 1 0 (oP (ak a.E a.cs) f h i).length/\m 217057=some (g,aS hK (oP (ak a.E a.cs) f h i))/\(a.wf (xA (ak a.E a.cs) f h i)).fb m/\∀k,k/1000≠228->k≠217011->k≠217057->m k=kK k) (λ(i,_)=>D a.E-i) (0,ado) (by
  refine⟨by omega,Cf,dY,j3,?_,bC⟩
  rw[a.TT (q:=f) λj _=>by unfold xA;rw[ag (by omega)]]
  exact bW) ?_
 intro vs ms aK aF;simp only[go_sem,go_sem_proc,ay,bL,bj,bJ,dg,j0,j1] at aK aF;subst aK aF;clear ay bL bj bJ dg dY j0 j1 Cf bW j3 bC tm m;rintro⟨i,g⟩ tm m L-⟨U,Cf,dY,j3,bW,bC⟩;simp only[go_sem,go_sem_proc,bf] at L;obtain⟨ay,bL,bj,bJ,dg,j0,j1⟩:=L;rcases dk (i<D a.E) with av|b4
 ·have d1:decide ((i:Int)<(D a.E:Int))=true:=c5;have bl:=eu (i:=i) (by omega);have nI:=aD i av;have tv:xA (ak a.E a.cs) f h i i=f i:=by unfold xA;rw[ag (by omega)]
  have fh:m 228023=some (a.g,bx (D a.E) λi => .ptr (228500+i) (a.gs.getD i 0) 0):=bW.row;have fz:m (228500+i)=some (a.gs.getD i 0,_):=bW.ek i av;rw[du.adn a _ av,tv] at fz;have B3:=(bC 217008 (by decide) (by decide) (by decide)).trans s6;have iG:=xt (jX (λi=>R.ptr (228500+i) (a.gs.getD i 0) 0) av);have cg:(bx (D a.E) λi=>R.ptr (228500+i) (a.gs.getD i 0) 0).length=D a.E:=gn _ _;have cR:((a.ha i).yU (f i)).dF:=⟨(a.yV i).dt,(a.yV i).us⟩;have hlen:=D3 cR;have nj:List.take 1 (List.drop 22 (fZ ((a.ha i).yU (f i))))=[db (f i:Int)]:=Oe cR;have uL:=Od cR (k:=f i) (z:=b0 a.cs i (f i:Nat)) (jX _ (by omega));have eZ:_=fZ ((a.ha i).yU ((ak a.E a.cs).jd h i 10)):=aAd cR ((ak a.E a.cs).jd h i 10:Nat);have dr:i+1<=D a.E:=by omega
  have aa:f i<11:=by omega
  have bo:(11+f i+1<=24)=True:=eq_true (by omega);have oC:=Q.upto i (f i);have oO:df (b0 a.cs i (f i:Nat)):=lT (by omega) (by omega);have hw:=DT _ oO;have iy:=Sz (ic i av) (n3 oO);have z9:=ps Q.right i (f i);have C7:decide (mI (h i) ((b0 a.cs i (f i:Nat):Int):Rat)>=0)=decide (((b0 a.cs i (f i:Nat):Int):Rat)<=h i):=SA;have tt:=alQ (ak a.E a.cs) f h i;rw[<-z9] at tt;have ni:=p9 h av;have S3:=alR (ak a.E a.cs) f h i;have cW:=ka vH acq 217057 g 8 (oP (ak a.E a.cs) f h i) i (cs:=[.I (.int .i64 i)]) rfl (by omega) (by omega);have adp:=λ(bX:Mem) (o9:bX (228500+i)=some (a.gs.getD i 0,fZ ((a.ha i).yU (f i)))) n=>aC3 cR o9 n;have aC6:((a.ha i).yU (f i)).us.tail=bx 10 λk=>b0 a.cs i (k+1:Nat):=aC4 10 _;simp only[aC6] at adp
  have aC7:¬ h i<((b0 a.cs i (f i:Nat):Int):Rat)->a.wf (xA (ak a.E a.cs) f h (i+1))=a.wf (xA (ak a.E a.cs) f h i):=λaX=>a.TT λj _=>by
   unfold xA
   by_cases ax:j=i
   ·subst ax;rw[ad (by omega),ag (by omega)];unfold Day.gr;rw[ag (by rw[<-z9];exact λx=>aX x.2)]
   ·by_cases wy:j<i
    ·rw[ad wy,ad (by omega)]
    ·rw[ag wy,ag (by omega)]
  have aC8:h i<((b0 a.cs i (f i:Nat):Int):Rat)->a.wf (xA (ak a.E a.cs) f h (i+1))=a.wf (λj=>if j=i then (ak a.E a.cs).jd h i 10 else xA (ak a.E a.cs) f h i j):=λaX=>a.TT λj _=>by
   unfold xA
   by_cases ax:j=i
   ·subst ax;rw[ad (by omega),ad rfl];unfold Day.gr;rw[ad ⟨av,by rw[<-z9];exact aX⟩]
   ·rw[ag ax]
    by_cases wy:j<i
    ·rw[ad wy,ad (by omega)]
    ·rw[ag wy,ag (by omega)]
  have lj:=λ(bp:Mem) (e8:(a.wf (xA (ak a.E a.cs) f h i)).fb bp)=>e8.aC1 av ((ak a.E a.cs).jd h i 10)
  have vE:h i<((b0 a.cs i (f i:Nat):Int):Rat)->(ak a.E a.cs).jd h i 10<10:=λaX=>by
   rw[z9] at aX;have:=ab.yE i nI;rcases aaK ab (h:=h) (i:=i) 10 (cI _) (by rw[j6,Day.RW];exact aj i av) with ⟨-,e⟩|⟨-,e,-⟩
   ·grind
   ·exact e
  have aC9:=λaX=>aC0 Q h (D a.E) i av (ic i av) (vE aX)
  have I6:=aAp (bx 10 λk=>b0 a.cs i (k+1:Nat)) (.solve (c8 (D a.E) h) i) ⟨by rw[gn];omega,by rw[qQ];exact av,aa2 (by omega) ic,λx M=>by
   obtain⟨k,-,rfl⟩:=gE.1 M;have:=Q.upto i (k+1:Nat);exact lT (by omega) (by omega)⟩
  simp only[tu] at I6;generalize aK0:(bx 10 λk=>b0 a.cs i (k+1:Nat))=SL at *;generalize JV:(bx (D a.E) λi=>R.ptr (228500+i) (a.gs.getD i 0) 0)=yW at *;have aDa:(228500+i)/1000=228:=by omega
  generalize vW:228500+i=eH at *;generalize Om:fZ ((a.ha i).yU (f i))=DC at *;have TU:(eH=217011)=False:=eq_false (by omega);have anL:(eH=217057)=False:=eq_false (by omega);have anM:(217057=eH)=False:=eq_false (by omega);have aK1:aq (h i)=aq (h i):=rfl;generalize SP:aq (h i)=gI at *;generalize jN:aq ((b0 a.cs i (f i:Nat):Int):Rat)=cr at *;obtain⟨⟨c0,et⟩,⟨gN,hz⟩⟩:=cr;obtain⟨⟨cE,cS⟩,⟨dU,eN⟩⟩:=gI;simp only[aw] at hw iy;rcases ev:decide (((b0 a.cs i (f i:Nat):Int):Rat)<=h i)
  ·have aX:h i<((b0 a.cs i (f i:Nat):Int):Rat):=by have:=of_decide_eq_false ev;grind
   rw[ad aX] at tt;rw[<-tt] at cW;rw[aC9 aX] at I6;simp only[<-aC8 aX] at lj;have bt:(oP (ak a.E a.cs) f h (i+1)).length=(oP (ak a.E a.cs) f h i).length+1:=by rw[tt,gj];rfl
   have anN:∀bX:Mem,bX 217008=some (OD,[.I (.Y ((c8 (D a.E) h).map aw))])->dx 5 bX (.ptr 217008 OD 0)=some (.ptr [.Y ((c8 (D a.E) h).map aw)]):=λbX o9=>anK o9 4;have anO:∀(bX:Mem) (g:Nat),bX 217011=some (g,[.I (.int .i64 i)])->dx 5 bX (.ptr 217011 g 0)=some (.ptr [.int .i64 i]):=λbX g o9=>anK o9 4;have anP:=GP 5 eH (a.gs.getD i 0) 1 12 10;simp only[go_sem,go_sem_proc,ig,hW,qS,ay,bL,bj,bJ,dg,dY,j0,j1,Cf,fh,fz,B3,j3,iG,cg,hlen,nj,uL,eZ,dr,aa,bo,av,hw,iy,C7,ev,ni,cW,adp,I6,anN,anO,anP,TU,anL,anM,d1,bl,aw,db,cD,ah,aW,m5,scalar,y9,anQ,anR];repeat' (first|refine al ?_ ?_|fail)<;>intro h<;>simp only[h,go_sem,go_sem_proc,ig,hW,qS,ay,bL,bj,bJ,dg,dY,j0,j1,Cf,fh,fz,B3,j3,iG,cg,hlen,nj,uL,eZ,dr,aa,bo,av,hw,iy,C7,ev,ni,cW,adp,I6,anN,anO,anP,TU,anL,anM,d1,bl,aw,db,cD,ah,aW,m5,scalar,y9,anQ,anR]
   refine⟨(i+1,g+1),by dsimp only;omega,by dsimp only;omega,rfl,by rw[bt],rfl,lj _ (((bW.up aM (by decide)).up aM (by decide)).up aM (by decide)),λk G J af=>?_⟩
   rw[ag (show ¬ k=eH by intro L;rw[L] at G;exact G aDa),ag af,ag J,ag J];exact bC k G J af
  ·have aX:¬ h i<((b0 a.cs i (f i:Nat):Int):Rat):=by have:=of_decide_eq_true ev;grind
   rw[ag aX] at tt;simp only[go_sem,go_sem_proc,ig,hW,ay,bL,bj,bJ,dg,dY,j0,j1,Cf,fh,fz,B3,iG,cg,hlen,nj,uL,dr,aa,bo,av,hw,iy,C7,ev,ni,TU,d1,bl,aw,db,cD,ah,aW];repeat' (first|refine al ?_ ?_|fail)<;>intro h<;>simp only[h,go_sem,go_sem_proc,ig,hW,ay,bL,bj,bJ,dg,dY,j0,j1,Cf,fh,fz,B3,iG,cg,hlen,nj,uL,dr,aa,bo,av,hw,iy,C7,ev,ni,TU,d1,bl,aw,db,cD,ah,aW]
   refine⟨(i+1,g),by dsimp only;omega,by dsimp only;omega,rfl,by rw[tt],by rw[tt];exact j3,?_,λk G J af=>?_⟩
   ·rw[aC7 aX];exact (bW.up aM (by decide)).up aM (by decide)
   ·rw[ag J,ag J];exact bC k G J af
 ·have d1:decide ((i:Int)<(D a.E:Int))=false:=cu;obtain rfl:i=D a.E:=by omega
  rw[a.TT (q:=(ak a.E a.cs).gr f h) λj ax=>by unfold xA;rw[ad ax]] at bW
  simp only[go_sem,go_sem_proc,ay,bL,bj,bJ,dg,dY,j0,j1,Cf,d1];repeat' (first|refine al ?_ ?_|fail)<;>intro h<;>simp only[h,go_sem,go_sem_proc,ay,bL,bj,bJ,dg,dY,j0,j1,Cf,d1]
  refine cX _ _ g ?_ ?_ ?_ ?_ ?_ ?_ j3 bW bC<;>simp only[dv,cx,if_false,ay,bL,bj,bJ,dg,dY]
def adq (aN:List bG):List Rat:=aN.map Da
structure aDb (E:List Int) (cs:List aB) (aN:List bG):Prop where
 n:(D E)<=1000000
 c:(D cs)<=1000000
 o:rk aN
 vS:g9 E cs=true->e5 E cs
 sz:g9 E cs=true->(D aN)=(D E)->aN.any (rl vc)=false->∀f∈aN,eJ 460 (Da f)
open Classical in
def adr (E:List Int)(cs:List aB)(x:Nat->Rat):Bool:=decide (adm E cs x)
open Classical in
theorem aDc {E:List Int}{cs:List aB}{x:Nat->Rat}:adr E cs x=true↔adm E cs x:=by
 unfold adr;exact decide_eq_true_iff
def anS (E:List Int)(cs:List aB)(aN:List bG):Bool:=g9 E cs&&(decide (D aN=D E)&&(!aN.any (rl vc)&&adr E cs λi=>(adq aN).getD i 0))
structure Kd (E:List Int) (cs:List aB) (x:Nat->Rat) (l:List aB) (s:Nat->Rat):Prop where
 a:∀i,i<(D E)->y6 E cs x i l=some (s i)
 l:∀i,i<(D E)->dX (s i)
theorem Kd.skip {E:List Int}{cs:List aB}{x:Nat->Rat}{l:List aB}{s:Nat->Rat}(h:Kd E cs x l s){c:aB}(H:c.2.1<0):Kd E cs x (l++[c]) s:=by
 refine⟨λi U=>?_,h.l⟩;rw[OC,h.a i U];unfold Kc;rw[ag (by omega)]
theorem Kd.add {E:List Int}{cs:List aB}{x:Nat->Rat}{l:List aB}{s:Nat->Rat}(h:Kd E cs x l s){c:aB}{t:Nat}(H:c.2.1=(t:Int))(L:qD (s t) (fY cs (x c.1.toNat) c)=true):Kd E cs x (l++[c]) λi=>if i=t then s t+fY cs (x c.1.toNat) c else s i:=by
 refine⟨λi U=>?_,λi U=>?_⟩
 ·rw[OC,h.a i U];unfold Kc
  by_cases OE:i=t
  ·subst OE;rw[ad H,CJ,ad L,ad rfl]
  ·rw[ag (by omega),ag OE]
 ·by_cases OE:i=t
  ·rw[ad OE];exact aCY L
  ·rw[ag OE];exact h.l i U
theorem anT {n:Nat}{f:Nat->Nat}(h:∀i,n<=i->f i=10):a9 (bx n λi=>(f i:Int))=f:=by
 funext i
 by_cases U:i<n
 ·exact aC2 f U
 ·unfold a9;rw[ez,iD (by rw[gn];omega),h i (by omega)];rfl
theorem anU {d:Day}{f:Nat->Nat}{h:Nat->Rat}(dj:∀i,d.n<=i->f i=10):∀i,d.n<=i->d.gr f h i=10:=λi U=>by
 unfold Day.gr;rw[ag λx=>by omega,dj i U]
theorem TV (d:Day):∀k f,(d.rounds k f).1.length<=k
 |0,f=>cI _
 |k+1,f=>by
  rw[Day.rounds]
  split
  ·exact fA _
  ·have:=TV d k (d.gr f (d.top f));simp only[kB];omega
def qV (l:List Nat):List Data:=[.Y (l.map hK)]
theorem TW (l:List Nat):(qV l).length=1:=rfl
theorem anV (l:List Nat):((qV l).map R.I).all R.one=true:=rfl
def Av (done:List (List Nat))(g:Nat):R:=if done=[] then .nil else .ref 217077 g 1 0 (D done)
structure anW (E:List Int) (cs:List aB) (g:Nat) (gs:Nat->Nat) (f:Nat->Nat) (done:List (List Nat)) (gP:Nat) (m:Mem):Prop where
 at_:∃p,(((As E cs g gs).wf f).ih p).fb m
 out:∃mw,mw=0/\m 217007=some (mw,[.nil,.nil,Av done gP])
 row:done≠[]->m 217077=some (gP,aS qV done)
 no:∀k:Nat,k/1000≠217->k/1000≠228->m k=none
 f10:∀i,D E<=i->f i=10
 reach:Reach (ak E (dV (D E) cs)) f
 jv:∃r,kj (D E) f<=r/\(ak E (dV (D E) cs)).jv=done++((ak E (dV (D E) cs)).rounds r f).1/\(ak E (dV (D E) cs)).pw=((ak E (dV (D E) cs)).rounds r f).2
theorem aDd (T:bm)(v3:T PT=vA Oq)(ig:T qz=aO xk)(hW:T u9=aO zS)(qS:T EZ=aO JM){K:eF->bg->Prop}{kk:List fB}(E:List Int)(cs:List aB)(qC:e5 E cs)(g:Nat)(gs:Nat->Nat)(v1:R)(tm:Nat->R)(m:Mem)
  (ay:tm 1=v1) (bL:tm 4=.ptr 217004 0 0) (bj:tm 6=.ref 228023 g 1 0 (D E)) (bJ:tm 7=.ptr 217007 0 0) (gf:m 217004=some (0,[.nil,.nil,.nil])) (bW:anW E cs g gs (λ_=>10) [] 0 m)
  (cX:∀tm' m' gP,tm' 1=v1->tm' 4=.ptr 217004 0 0->tm' 7=.ptr 217007 0 0->m' 217004=some (0,[.nil,.nil,.nil])->m' 217007=some (0,[.I (.Y ((c8 (D E) (ak E (dV (D E) cs)).ct).map aw)),.nil,Av (ak E (dV (D E) cs)).jv gP])->((ak E (dV (D E) cs)).jv≠[]->m' 217077=some (gP,aS qV (ak E (dV (D E) cs)).jv))->cj T K kk (.exit 0) ⟨tm',m'⟩) :
  wp T (FB.body.sub [1,1,1,1,0,0]) (cj T K kk) ⟨tm,m⟩:=by
 simp only[FB,ep.sub];have Q:=abK qC;have aM:=Q.hV;have ab:=Q.ok;refine c9 [1,4,6,7] [217004] (λ((f,done,gP):(Nat->Nat)×List (List Nat)×Nat) tm m=>anW E cs g gs f done gP m) (λ(f,_)=>kj (D E) f) (λ_=>10,[],0) (by exact bW) ?_;intro vs ms aK aF;simp only[go_sem,go_sem_proc,ay,bL,bj,bJ,gf] at aK aF;subst aK aF;clear ay bL bj bJ gf bW tm m;rintro⟨f,done,gP⟩ tm m L gf bW;simp only[go_sem,go_sem_proc,bf] at L gf;obtain⟨ay,bL,bj,bJ⟩:=L;obtain⟨⟨p,bW⟩,⟨mw,rfl,OG⟩,fh,hE,nI,OH,r,E7,aZ,r9⟩:=bW;dsimp only at *;have l3:=anT nI;have jf:=OH;obtain⟨OI,hinv,-⟩:=OH
 have fF:=aBC (((As E cs g gs).wf f).ih p) m ⟨bW,λk L=>hE k (by omega) (by omega),λk L=>hE k (by omega) (by omega),λk L=>hE k (by omega) (by omega),⟨Q,λx M=>by
  obtain⟨i,-,rfl⟩:=gE.1 M;have:=hinv.le i;omega⟩,⟨OI,by show Inv (ak E (dV (D E) cs)) (a9 (bx (D E) λi=>(f i:Int))) OI;rw[l3];exact hinv⟩⟩
 have anX:Oq [.ref 228023 g 1 0 (D E)] m=some (Tz (((As E cs g gs).wf f).ih p) m):=fF;simp only[go_sem,go_sem_proc,v3,ay,bL,bj,bJ,anX];have cm:=Day.DJ (ab.hex f jf);have ic:∀i,i<(D E)->dX ((ak E (dV (D E) cs)).top f i):=λi U=>je (abO Q jf U) (by omega);have aj:∀i,i<(D E)->0<=(ak E (dV (D E) cs)).top f i:=λi U=>cm.aaL ab U;rintro ads mem' ⟨mm,q2,xQ,Cg⟩
 have aDe:ads=.cB [.I (.Y ((c8 (D E) ((ak E (dV (D E) cs)).top f)).map aw)),.I (.bool true)]:=by
  rw[mm];show R.cB [.I (.Y ((c8 (D E) ((ak E (dV (D E) cs)).top (a9 (bx (D E) λi=>(f i:Int))))).map aw)),.I (.bool true)]=_;rw[l3]
 clear mm fF anX;subst aDe;have gi:∀k:Nat,k/1000≠228->mem' k=m k:=λk L=>Cg k λi U=>by have:i<D E:=U;omega
 have ja:=(gi 217004 (by decide)).trans gf;have qe:=(gi 217007 (by decide)).trans OG;have F9:(ak E (dV (D E) cs)).hU f=oP (ak E (dV (D E) cs)) f ((ak E (dV (D E) cs)).top f) (D E):=rfl
 have OJ:(ak E (dV (D E) cs)).hU f=[]->(ak E (dV (D E) cs)).jv=done/\(ak E (dV (D E) cs)).ct=(ak E (dV (D E) cs)).top f:=λh=>by
  have:=(ak E (dV (D E) cs)).ajD h r;rw[this,gD] at aZ;rw[this] at r9;exact⟨aZ,by unfold Day.ct;rw[r9]⟩
 have pO:(ak E (dV (D E) cs)).hU f≠[]->kj (D E) ((ak E (dV (D E) cs)).gr f ((ak E (dV (D E) cs)).top f))<kj (D E) f/\Reach (ak E (dV (D E) cs)) ((ak E (dV (D E) cs)).gr f ((ak E (dV (D E) cs)).top f))/\(∀i,D E<=i->(ak E (dV (D E) cs)).gr f ((ak E (dV (D E) cs)).top f) i=10)/\∃r,kj (D E) ((ak E (dV (D E) cs)).gr f ((ak E (dV (D E) cs)).top f))<=r/\(ak E (dV (D E) cs)).jv=(done++[(ak E (dV (D E) cs)).hU f])++((ak E (dV (D E) cs)).rounds r ((ak E (dV (D E) cs)).gr f ((ak E (dV (D E) cs)).top f))).1/\(ak E (dV (D E) cs)).pw=((ak E (dV (D E) cs)).rounds r ((ak E (dV (D E) cs)).gr f ((ak E (dV (D E) cs)).top f))).2:=λb5=>by
  have av:=R4 ab ab.hex jf b5;have ee:kj (D E) ((ak E (dV (D E) cs)).gr f ((ak E (dV (D E) cs)).top f))<kj (D E) f:=av;refine⟨ee,jf.next ab ab.hex,anU (d:=ak E (dV (D E) cs)) nI,?_⟩
  cases r with
  |zero=>omega
  |succ r =>
   rw[Day.rounds,ag b5] at aZ r9;exact⟨r,by omega,by rw[aZ];simp,r9⟩
 generalize qX:ak E (dV (D E) cs)=d at *;generalize q7:(c8 (D E) (d.top f)).map aw=V at *;simp only[go_sem,go_sem_proc,ay,bL,bj,bJ,ja,qe,bT];subst qX;rw[<-q7];refine aC5 T ig hW qS ((As E cs g gs).ih q2) Q f (λi _=>hinv.le i) ((ak E (dV (D E) cs)).top f) ic aj _ v1 (.ptr 217004 0 0) (.ptr 217007 0 0) (gd (mem' 217008)) (gd (mem' 217057)) _ _ ?_ ?_ ?_ ?_ ?_ ?_ ?_ ?_ ?_ (((show ((((As E cs g gs).ih q2).wf f)).fb mem' from xQ).up aM (by decide)).up aM (by decide)|>.up aM (by decide)) ?_ ?_ (λ_ _ _ _=>rfl) ?_
 all_goals first|(intro xp bX dC cL gh eD hv gR iK Au AV km)|(simp only[dv,cx,if_false,if_true,ay,bL,bj,bJ];done)|(simp only[dv,cx,if_false,if_true];rfl)|(simp only[dv,cx,if_false,if_true,ay,bL,bj,bJ];rfl)|(simp only[a5,cx,if_false,if_true];done)|(simp only[a5,cx,if_false,if_true];rfl)|skip
 replace iK:xp 10=.ref 217057 dC 1 0 ((ak E (dV (D E) cs)).hU f).length:=iK;replace Au:bX 217057=some (dC,aS hK ((ak E (dV (D E) cs)).hU f)):=Au;replace eD:xp 6=.ref 228023 g 1 0 (D E):=eD;replace AV:(((As E cs g gs).ih q2).wf ((ak E (dV (D E) cs)).gr f ((ak E (dV (D E) cs)).top f))).fb bX:=AV;have tp:bX 217004=some (0,[.nil,.nil,.nil]):=(km 217004 (by decide) (by decide) (by decide)).trans (by simp only[a5,cx,if_false];exact ja);have y3:bX 217007=some (0,[.nil,.nil,Av done gP]):=(km 217007 (by decide) (by decide) (by decide)).trans (by simp only[a5,cx,if_false];exact qe);have adt:bX 217008=some (gd (mem' 217008),[.I (.Y V)]):=(km 217008 (by decide) (by decide) (by decide)).trans (by simp only[a5,cx,if_false,if_true];rw[q7]);have anY:done≠[]->bX 217077=some (gP,aS qV done):=λh=>(km 217077 (by decide) (by decide) (by decide)).trans (by simp only[a5,cx,if_false];exact (gi 217077 (by decide)).trans (fh h));have mS:∀(k j:Nat),k/1000≠217->j/1000=217->k≠j:=λk j G J h=>G (h ▸ J)
 have TX:∀k:Nat,k/1000≠217->k/1000≠228->bX k=none:=λk G J=>(km k J (mS k _ G (by decide)) (mS k _ G (by decide))).trans (by
  rw[de (mS k _ G (by decide)),de (mS k _ G (by decide)),de (mS k _ G (by decide))];exact (gi k J).trans (hE k G J))
 clear km gi xQ Cg ja qe OG fh hE gf ay bL bj bJ aZ r9
 by_cases b5:(ak E (dV (D E) cs)).hU f=[]
 ·obtain⟨G,J⟩:=OJ b5;rw[b5] at iK;rw[G,J] at cX;have od:(((0:Nat):Int)==0)=true:=rfl;simp only[go_sem,go_sem_proc,cL,gh,eD,hv,gR,iK,tp,y3,adt,od,og,kP];refine cX _ _ gP ?_ ?_ ?_ ?_ ?_ λh=>?_
  ·simp only[dv,cx,if_false];exact cL
  ·simp only[dv,cx,if_false];exact gh
  ·simp only[dv,cx,if_false];exact hv
  ·simp only[a5,cx,if_false];exact tp
  ·simp only[a5,cx,if_true];rw[q7]
  ·simp only[a5,cx,if_false];exact anY h
 ·obtain⟨G,J,af,aP⟩:=pO b5;have S3:((ak E (dV (D E) cs)).hU f).length<=5:=eP (mO _ _) (by rw[sW];exact aM)
  have od:((((ak E (dV (D E) cs)).hU f).length:Int)==0)=false:=by
   have:((ak E (dV (D E) cs)).hU f).length≠0:=λh=>b5 (yS.1 h);rw[beq_eq_false_iff_ne];omega
  have jF:=λ(K:bg->Prop) (st:bg)=>k6 (K:=K) (st:=st) vH 10 217057 dC ((ak E (dV (D E) cs)).hU f);have pH:(1<=maxLen)=True:=eq_true (by decide);generalize UH:(ak E (dV (D E) cs)).hU f=aJ at *;clear OJ pO cX;have anZ:∀(bp:Mem),(∀k:Nat,k/1000≠217->bp k=bX k)->∀k:Nat,k/1000≠217->k/1000≠228->bp k=none:=λbp e8 k G J=>(e8 k G).trans (TX k G J)
  by_cases kM:done=[]
  ·subst kM;have GQ:Av [] gP=.nil:=rfl;rw[GQ] at y3;simp only[go_sem,go_sem_proc,cL,gh,eD,hv,gR,iK,tp,y3,adt,Au,od,jF,pH];refine⟨(_,[aJ],gd (bX 217077)),G,⟨⟨q2,((AV.up aM (by decide)).up aM (by decide)).up aM (by decide)⟩,⟨0,rfl,?_⟩,λ_=>?_,?_,af,J,aP⟩⟩
   ·rw[j2];rfl
   ·rw[de (by decide),j2];rfl
   ·exact anZ _ λk L=>by rw[de (mS k _ L (by decide)),de (mS k _ L (by decide)),de (mS k _ L (by decide))]
  ·have GQ:Av done gP=.ref 217077 gP 1 0 (D done):=by unfold Av;rw[ag kM]
   rw[GQ] at y3;have TY:=anY kM
   have EF:(D done)+1<=50:=by
    obtain⟨AL,-,bh,-⟩:=aP;have bK:=TV (ak E (dV (D E) cs)) (10*(ak E (dV (D E) cs)).n) λ_=>10;have bE:(ak E (dV (D E) cs)).jv.length<=10*D E:=bK;rw[bh] at bE;simp only[gj,s7] at bE;omega
   have cW:=ka TW anV 217077 gP 24 done aJ (cs:=[.I (.Y (aJ.map hK))]) rfl (by omega) (by omega);simp only[go_sem,go_sem_proc,cL,gh,eD,hv,gR,iK,tp,y3,adt,Au,TY,od,jF,cW];refine⟨(_,done++[aJ],gP+1),G,⟨⟨q2,((AV.up aM (by decide)).up aM (by decide)).up aM (by decide)⟩,⟨0,rfl,?_⟩,λ_=>?_,?_,af,J,aP⟩⟩
   ·rw[j2];unfold Av;rw[ag (by simp),gj];rfl
   ·rw[de (by decide),j2]
   ·exact anZ _ λk L=>by rw[de (mS k _ L (by decide)),de (mS k _ L (by decide)),de (mS k _ L (by decide))]
structure an0 (E:List Int) (cs:List aB) (ct eW:Nat) (f:Nat->Nat) (done:List (List Nat)) (gP:Nat) (m:Mem):Prop where
 at_:∃P,D P=D E/\uI E cs (bx (D E) λi=>(f i:Int)) P 0 ct eW m
 out:∃x,m 261006=some (0,[x,.nil,.ref 261117 gP 1 0 (D done)])
 row:m 261117=some (gP,aS qV done)
 no:∀k:Nat,k/1000≠261->m k=none
 f10:∀i,D E<=i->f i=10
 reach:Reach (ak E cs) f
 jv:∃r,kj (D E) f<=r/\(ak E cs).jv=done++((ak E cs).rounds r f).1/\(ak E cs).pw=((ak E cs).rounds r f).2
theorem aDf {d:Day}{f:Nat->Nat}{n:Nat}(aM:d.n=n):xr d f (d.top f) (d.hU f) n=bx n λi=>(d.gr f (d.top f) i:Int):=h6 λi U=>by
 unfold Day.gr
 by_cases h:i∈d.hU f
 ·rw[ad h,ad (Day.Nq.1 h)]
 ·rw[ag h,ag λaX=>h (Day.Nq.2 aX)]
theorem aDg (T:bm)(qi:T PV=vA SQ)(gu:T q8=aO yN)(gG:T r6=aO yO)(gm:T wM=aO Af)(n4:T LO=aO N7){K:eF->bg->Prop}{kk:List fB}(E:List Int)(cs:List aB)(Q:e5 E cs)(ct eW:Nat)(tm:Nat->R)(m:Mem)
  (bu:tm 0=.I (.Y (E.map ae))) (ay:tm 1=.I (.Y (cs.map bw))) (bL:tm 4=.ptr 261004 0 0) (bj:tm 6=.ptr 261006 0 0) (bJ:tm 7=.ptr 261029 0 0) (gf:m 261004=some (0,[.nil,.nil,.nil])) (bW:an0 E cs ct eW (λ_=>10) [] 0 m)
  (cX:∀tm' m' gP,tm' 1=.I (.Y (cs.map bw))->tm' 4=.ptr 261004 0 0->tm' 6=.ptr 261006 0 0->m' 261004=some (0,[.nil,.nil,.nil])->m' 261006=some (0,[.I (.Y ((c8 (D E) (ak E cs).ct).map aw)),.nil,.ref 261117 gP 1 0 (ak E cs).jv.length])->m' 261117=some (gP,aS qV (ak E cs).jv)->cj T K kk (.exit 2) ⟨tm',m'⟩) :
  wp T (vQ.body.sub [1,1,1,1,1,0,0]) (cj T K kk) ⟨tm,m⟩:=by
 simp only[vQ,ep.sub];have aM:=Q.hV;have ab:=Q.ok;refine c9 [0,1,4,6,7] [261004] (λ((f,done,gP):(Nat->Nat)×List (List Nat)×Nat) tm m=>an0 E cs ct eW f done gP m) (λ(f,_)=>kj (D E) f) (λ_=>10,[],0) (by exact bW) ?_;intro vs ms aK aF;simp only[go_sem,go_sem_proc,bu,ay,bL,bj,bJ,gf] at aK aF;subst aK aF;clear bu ay bL bj bJ gf bW tm m;rintro⟨f,done,gP⟩ tm m L gf bW;simp only[go_sem,go_sem_proc,bf] at L gf;obtain⟨bu,ay,bL,bj,bJ⟩:=L;obtain⟨⟨P,aDh,bW⟩,⟨j4,OG⟩,fh,hE,nI,OH,r,E7,aZ,r9⟩:=bW;dsimp only at *;have l3:=anT nI;have jf:=OH;obtain⟨OI,hinv,-⟩:=OH
 have an1:∀x∈(bx (D E) λi=>(f i:Int)),0<=x/\x<=10:=λx M=>by
  obtain⟨i,-,rfl⟩:=gE.1 M;have:=hinv.le i;omega
 have fF:=azI ⟨E,cs,bx (D E) λi=>(f i:Int),P,0,ct,eW⟩ m ⟨⟨bW,λk L=>hE k (by omega),λk L=>hE k (by omega),λk L=>hE k (by omega),Q,gn _ _,aDh,an1⟩,⟨OI,by show Inv (ak E cs) (a9 (bx (D E) λi=>(f i:Int))) OI;rw[l3];exact hinv⟩⟩
 dsimp only at fF;have cm:=Day.DJ (ab.hex f jf);have ic:∀i,i<(D E)->dX ((ak E cs).top f i):=λi U=>je (abO Q jf U) (by omega);simp only[go_sem,go_sem_proc,qi,bu,ay,bL,bj,bJ,fF];rintro ads mem' ⟨mm,yR,an2,xQ,Cg⟩;dsimp only at mm an2 xQ Cg;rw[l3] at mm;subst mm;have ja:=(Cg 261004 (by decide)).trans gf;have js:=(Cg 261006 (by decide)).trans OG;have Ch:=(Cg 261117 (by decide)).trans fh;have xv:=xQ.r;rw[gn] at xv
 have OJ:(ak E cs).hU f=[]->(ak E cs).jv=done/\(ak E cs).ct=(ak E cs).top f:=λh=>by
  have:=(ak E cs).ajD h r;rw[this,gD] at aZ;rw[this] at r9;exact⟨aZ,by unfold Day.ct;rw[r9]⟩
 have pO:(ak E cs).hU f≠[]->kj (D E) ((ak E cs).gr f ((ak E cs).top f))<kj (D E) f/\Reach (ak E cs) ((ak E cs).gr f ((ak E cs).top f))/\(∀i,D E<=i->(ak E cs).gr f ((ak E cs).top f) i=10)/\∃r,kj (D E) ((ak E cs).gr f ((ak E cs).top f))<=r/\(ak E cs).jv=(done++[(ak E cs).hU f])++((ak E cs).rounds r ((ak E cs).gr f ((ak E cs).top f))).1/\(ak E cs).pw=((ak E cs).rounds r ((ak E cs).gr f ((ak E cs).top f))).2:=λb5=>by
  have av:=R4 ab ab.hex jf b5;have ee:kj (D E) ((ak E cs).gr f ((ak E cs).top f))<kj (D E) f:=av;refine⟨ee,jf.next ab ab.hex,anU (d:=ak E cs) nI,?_⟩
  cases r with
  |zero=>omega
  |succ r =>
   rw[Day.rounds,ag b5] at aZ r9;exact⟨r,by omega,by rw[aZ];simp,r9⟩
 simp only[go_sem,go_sem_proc,bu,ay,bL,bj,bJ,ja,js,xv,kP];have ta:a9 (bx (D E) λi=>(f i:Int))=f:=l3;refine az3 T gu gG gm E cs Q (bx (D E) λi=>(f i:Int)) (gn _ _) an1 ((ak E cs).top f) ic 0 ct (gd (mem' 261080)) (.ref 261027 eW 1 0 (D yR)) (.ref 261117 gP 1 0 (D done)) _ _ ⟨⟨.I (.bool false),?_⟩,?_,?_⟩ ?_ ?_ ?_ ?_ ?_ ?_ ?_ ?_ ?_
 all_goals first|(intro xp bX ts ej cL gh eD hv gS OK km)|(simp only[dv,cx,if_false,if_true,bu,ay,bL,bj,bJ];done)|(simp only[a5,cx,if_false,if_true];done)|(simp only[a5,cx,if_false,if_true];rw[gn];exact xv)|(simp only[a5,cx,if_false,if_true];exact xQ.f)|skip
 rw[ta] at gS OK;have F9:oP (ak E cs) f ((ak E cs).top f) (D E)=(ak E cs).hU f:=rfl;rw[F9] at gS OK;have tp:bX 261004=some (0,[.nil,.nil,.nil]):=(km 261004 (by decide)).trans (by simp only[a5,cx,if_false];exact ja);have TZ:bX 261006=some (0,[.I (.Y ((c8 (D E) ((ak E cs).top f)).map aw)),.nil,.ref 261117 gP 1 0 (D done)]):=(km 261006 (by decide)).trans (by simp only[a5,cx,if_false,if_true]);have adu:bX 261117=some (gP,aS qV done):=(km 261117 (by decide)).trans (by simp only[a5,cx,if_false];exact Ch);have adv:bX 261029=some (0,[.I (.Y (E.map ae)),.I (.Y (cs.map bw)),.ref 261042 ct 1 0 (D E),.ref 261027 eW 1 0 (D yR),.I (.bool false)]):=(km 261029 (by decide)).trans (by simp only[a5,cx,if_false];exact xv);have an3:bX 261042=some (ct,(bx (D E) λi=>(f i:Int)).map db):=(km 261042 (by decide)).trans (by simp only[a5,cx,if_false];exact xQ.f);have an4:bX 261027=some (eW,yR.map hi):=(km 261027 (by decide)).trans (by simp only[a5,cx,if_false];exact xQ.p);have mS:∀(k j:Nat),k/1000≠261->j/1000=261->k≠j:=λk j G J h=>G (h ▸ J)
 have TX:∀k:Nat,k/1000≠261->bX k=none:=λk G=>(km k (mS k _ G (by decide))).trans (by
  rw[de (mS k _ G (by decide)),de (mS k _ G (by decide)),Cg k (mS k _ G (by decide))];exact hE k G)
 clear km xQ Cg ja js Ch xv OG fh hE gf bu ay bL bj bJ aZ r9 fF
 by_cases b5:(ak E cs).hU f=[]
 ·obtain⟨G,J⟩:=OJ b5;rw[b5] at gS;rw[G,J] at cX;have od:(((0:Nat):Int)==0)=true:=rfl;simp only[go_sem,go_sem_proc,ej,cL,gh,eD,hv,gS,od,og];refine cX _ _ gP ?_ ?_ ?_ tp TZ adu<;>simp only[dv,cx,if_false,cL,gh,eD]
 ·obtain⟨G,J,af,aP⟩:=pO b5;have S3:((ak E cs).hU f).length<=D E:=eP (mO _ _) (by rw[sW];exact cI _);have GQ:∀i∈(ak E cs).hU f,i<D E:=λi U=>(Day.Nq.1 U).1
  have od:((((ak E cs).hU f).length:Int)==0)=false:=by
   have:((ak E cs).hU f).length≠0:=λh=>b5 (yS.1 h);rw[beq_eq_false_iff_ne];omega
  simp only[go_sem,go_sem_proc,ej,cL,gh,eD,hv,gS,od];refine az4 T n4 E cs Q f ((ak E cs).top f) ic ((ak E cs).hU f) GQ S3 0 ct ts (.ref 261027 eW 1 0 (D yR)) (.ref 261117 gP 1 0 (D done)) (.I (.bool false)) _ _ adv an3 TZ ?_ ?_ ?_ ?_ ?_ ?_ ?_ OK ?_
  all_goals first|(intro ais g4 aDi An BI z0 J7 J8 an5 Aj)|(simp only[dv,cx,if_false,if_true,ej,cL,gh,eD,hv,gS];done)
  have aDj:=aDf (d:=ak E cs) (f:=f) (n:=D E) rfl;rw[aDj] at an5;have b7:=(Aj 261004 (by decide)).trans tp;have Zz:=(Aj 261006 (by decide)).trans TZ;have aDk:=(Aj 261117 (by decide)).trans adu;have aDl:=(Aj 261029 (by decide)).trans adv;have aDm:=(Aj 261027 (by decide)).trans an4;have aDn:=(Aj 261080 (by decide)).trans OK;have aDo:∀k:Nat,k/1000≠261->g4 k=none:=λk G=>(Aj k (mS k _ G (by decide))).trans (TX k G);clear Aj tp TZ adu adv an4 OK TX an3 cX OJ pO
  have EF:(D done)+1<=50:=by
   obtain⟨AL,-,bh,-⟩:=aP;have bK:=TV (ak E cs) (10*(ak E cs).n) λ_=>10;have bE:(ak E cs).jv.length<=10*D E:=bK;rw[bh] at bE;simp only[gj,s7] at bE;omega
  generalize (ak E cs).hU f=aJ at *;have jF:=λ(K:bg->Prop) (st:bg)=>k6 (K:=K) (st:=st) vH 9 261080 ts aJ;have cW:=ka TW anV 261117 gP 24 done aJ (cs:=[.I (.Y (aJ.map hK))]) rfl (by omega) (by omega);simp only[go_sem,go_sem_proc,aDi,An,BI,z0,J7,J8,b7,Zz,aDk,aDn,jF,cW,kP];refine⟨((ak E cs).gr f ((ak E cs).top f),done++[aJ],gP+1),G,⟨⟨yR,an2,⟨?_,?_,?_⟩⟩,⟨.I (.Y ((c8 (D E) ((ak E cs).top f)).map aw)),?_⟩,?_,?_,af,J,aP⟩⟩
  ·rw[de (by decide),de (by decide),de (by decide),aDl,gn]
  ·rw[de (by decide),de (by decide),de (by decide)];exact an5
  ·rw[de (by decide),de (by decide),de (by decide)];exact aDm
  ·rw[j2,gj];rfl
  ·rw[de (by decide),j2]
  ·intro k L;rw[de (mS k _ L (by decide)),de (mS k _ L (by decide)),de (mS k _ L (by decide))];exact aDo k L
theorem Alike.ct {d e:Day}(h:Alike d e):d.ct=e.ct:=by unfold Day.ct Day.pw;rw[h.top,h.rounds,h.n]
theorem Alike.jv {d e:Day}(h:Alike d e):d.jv=e.jv:=by unfold Day.jv;rw[h.rounds,h.n]
structure v5 (E:List Int) (cs:List aB):Prop where
 n:(D E)<=1000000
 c:(D cs)<=1000000
 vS:g9 E cs=true->e5 E cs
def oU (E:List Int)(cs:List aB):List bG:=cs.map λc=>aq (fY cs ((ak E cs).ct c.1.toNat) c)
def mT (E:List Int)(cs:List aB):List bG:=c8 (D E) (ak E cs).ct
def y7 (E:List Int)(cs:List aB):Data:=if g9 E cs=true then .cB [.agg [.Y ((mT E cs).map aw),.Y ((oU E cs).map aw),.Y ((ak E cs).jv.map qV)],.int .i64 0] else .cB [.agg [.Y [],.Y [],.Y []],.int .i64 1]
theorem aDp {E:List Int}{cs:List aB}(Q:e5 E cs):D6 cs ((eY (D E)).map (ak E cs).ct):=by
 have X:=(hB.1 Q.right).2.2.2;have aM:=Q.hV;refine⟨Q.qR,by simp;exact aM,λc H=>?_,λx M=>?_⟩
 ·have G:=X c H;have J:=Q.am c H;rw[ah,sW];omega
 ·obtain⟨i,U,rfl⟩:=gE.1 M;have mB:=jC.1 U;exact⟨abM Q.ok mB,(DW Q mB).mono (by omega)⟩
theorem aDq {E:List Int}{cs:List aB}(Q:e5 E cs):(cs.map λc=>aq (fY cs (((eY (D E)).map (ak E cs).ct).getD c.1.toNat 0) c))=oU E cs:=pP λc H=>by
 have G:=(hB.1 Q.right).2.2.2 c H;have:((eY (D E)).map (ak E cs).ct).getD c.1.toNat 0=(ak E cs).ct c.1.toNat:=Cc (ak E cs).ct 0 (show c.1.toNat<(D E) by omega);rw[this]
def T0:=cy DV λ(E,cs)=>cT (v5 E cs) (.same (y7 E cs))
@[go_sem] theorem an6 (E:List Int)(cs:List aB)(H:v5 E cs):T0 [.Y (E.map ae),.Y (cs.map bw)]=some (.same (y7 E cs)):=(cF Jy (E,cs)).trans (cY H _)
theorem aDr (T:bm)(Aw:T VW=aO acI)(Ax:T VX=vA ac6)(v3:T PT=vA Oq)(ig:T qz=aO xk)(hW:T u9=aO zS)(qS:T EZ=aO JM)(Ay:T VY=aO TS)(E:List Int)(cs:List aB)(H:v5 E cs):WP T FB (.same (y7 E cs)) [.I (.Y (E.map ae)),.I (.Y (cs.map bw))]:=by
 refine cH ?_;simp only[FB];obtain⟨mW,iv,nz⟩:=H;unfold y7;rcases X:g9 E cs
 ·rw[ag (by decide)];simp only[go_sem,go_sem_proc,Aw,Ax,v3,ig,hW,qS,Ay,mW,iv,X,cp];repeat' (first|refine al ?_ ?_|fail)<;>intro h<;>simp only[h,go_sem,go_sem_proc,Aw,Ax,v3,ig,hW,qS,Ay,mW,iv,X,cp]
 ·rw[ad rfl];have Q:=nz X;have aM:=Q.hV;have T1:=akO X
  have hE:lS 228 (a5 emp 217004 0 [R.nil,R.nil,R.nil]):=λk L=>by
   rw[de (by rintro rfl;omega)];rfl
  have fF:=aBV E cs (a5 emp 217004 0 [R.nil,R.nil,R.nil]) ⟨Q,hE⟩;simp only[go_sem,go_sem_proc,Aw,Ax,v3,ig,hW,qS,Ay,mW,iv,X,fF,bT];rintro ads m ⟨g,gs,rfl,bW,bC⟩;dsimp only at bW;have gf:m 217004=some (0,[.nil,.nil,.nil]):=(bC 217004 (by decide)).trans j2;have mn:m 217007=none:=(bC 217007 (by decide)).trans (de (by decide));simp only[go_sem,go_sem_proc,Aw,Ax,v3,ig,hW,qS,Ay,mn];refine aDd T v3 ig hW qS E cs Q g gs (.I (.Y (cs.map bw))) _ _ ?_ ?_ ?_ ?_ ?_ ⟨⟨λ_=>false,?_⟩,⟨0,rfl,?_⟩,λh=>absurd rfl h,?_,λ_ _=>rfl,Reach.start (abK Q).ok,⟨10*D E,?_,rfl,rfl⟩⟩ ?_
  all_goals first|(intro xp bX gP cL gh hv ja qe TY)|(simp only[dv,cx,if_false,if_true];done)|(simp only[dv,cx,if_false,if_true];rfl)|(simp only[a5,cx,if_false,if_true];done)|(simp only[a5,cx,if_false,if_true];rfl)|(simp only[a5,cx,if_false,if_true];exact gf)|skip
  ·exact bW.up aM (by decide)
  ·intro k G J;rw[de (by rintro rfl;exact G (by decide)),bC k J,de (by rintro rfl;exact G (by decide))];rfl
  ·rw[abL];exact cI _
  rw[<-T1.ct,<-T1.jv] at qe;rw[<-T1.jv] at TY;have GR:=aCO cs ((eY (D E)).map (ak E cs).ct) (aDp Q);rw[aDq Q] at GR;replace GR:TS [.Y (cs.map bw),.Y ((mT E cs).map aw)]=some (.same (.cB [.Y ((oU E cs).map aw),.bool true])):=GR;replace qe:bX 217007=some (0,[.I (.Y ((mT E cs).map aw)),.nil,Av (ak E cs).jv gP]):=qe;generalize mT E cs=Ci at *;generalize oU E cs=xy at *;generalize (ak E cs).jv=v7 at *;clear T1 fF bW bC gf mn
  by_cases ta:v7=[]
  ·subst ta;replace qe:bX 217007=some (0,[.I (.Y (Ci.map aw)),.nil,.nil]):=qe;simp only[go_sem,go_sem_proc,Aw,Ax,v3,ig,hW,qS,Ay];refine ac1 ?_;rintro bp rfl;simp only[go_sem,go_sem_proc,Aw,Ax,v3,ig,hW,qS,Ay,cL,gh,hv,ja,qe,GR,bT,b6];repeat' (first|refine al ?_ ?_|fail)<;>intro h<;>simp only[h,go_sem,go_sem_proc,Aw,Ax,v3,ig,hW,qS,Ay,cL,gh,hv,ja,qe,GR,bT,b6]
  ·have B3:=TY ta;have GQ:Av v7 gP=.ref 217077 gP 1 0 (D v7):=by unfold Av;rw[ag ta]
   rw[GQ] at qe;simp only[go_sem,go_sem_proc,Aw,Ax,v3,ig,hW,qS,Ay];refine ac0 (tG.O2 217007 0 _ 2 217077 gP 1 0 (D v7) _ (.Y (v7.map qV)) qe rfl B3 (by decide) (kt (n:=0) TW B3)) ?_;intro bp e8;have an7:bp 217007=some (0,[.I (.Y (Ci.map aw)),.nil,.I (.Y (v7.map qV))]):=by rw[e8,j2];rfl
   have Dr:bp 217004=some (0,[.nil,.nil,.nil]):=by
    rw[e8,de (by decide)];unfold kill;rw[de (by decide)];exact ja
   clear e8;simp only[go_sem,go_sem_proc,Aw,Ax,v3,ig,hW,qS,Ay,cL,gh,hv,Dr,an7,GR,bT];repeat' (first|refine al ?_ ?_|fail)<;>intro h<;>simp only[h,go_sem,go_sem_proc,Aw,Ax,v3,ig,hW,qS,Ay,cL,gh,hv,Dr,an7,GR,bT]
theorem D7 (a b:List aB)(w:Int):cf (a++b) w=cf a w++cf b w:=by unfold cf;rw[rE]
theorem aDs {cs:List aB}{i:Nat}{c:aB}(h:cs[i]?=some c):(cf cs c.1)[(cf (cs.take i) c.1).length]?=some c:=by
 have e:cs=cs.take i++(c::cs.drop (i+1)):=by
  obtain⟨av,H⟩:=eg.1 h;have:=List.drop_eq_getElem_cons av;rw[H] at this;rw[<-this,List.take_append_drop]
 have aA:cf cs c.1=cf (cs.take i) c.1++cf (c::cs.drop (i+1)) c.1:=by
  rw[<-D7,<-e]
 rw[aA,nK (cI _),j6];unfold cf;rw[oK (by simp)];rfl
theorem GS (cs:List aB)(w:Int):(cf cs w).length<=D cs:=by unfold cf;exact mO _ _
theorem aDt (T:bm){K:eF->bg->Prop}{kk:List fB}(cs:List aB)(az:(D cs)<=12)(i:Nat)(c:aB)(H:cs[i]?=some c)(v4 v6 T2:R)(eV j4 GU T3:Option (Nat×List R))(tm:Nat->R)(m:Mem)
  (ay:tm 1=.I (.Y (cs.map bw))) (bL:tm 4=v4) (bj:tm 6=v6) (gq:tm 12=.I (.int .i64 i)) (hy:tm 13=T2) (qh:tm 15=.I (.int .i64 0)) (BN:tm 16=.I (.int .i64 0)) (gf:m 261004=eV) (fW:m 261006=j4) (mv:m 261117=GU) (uP:m 261172=T3)
  (cX:∀tm' m',tm' 1=.I (.Y (cs.map bw))->tm' 4=v4->tm' 6=v6->tm' 12=.I (.int .i64 i)->tm' 13=T2->tm' 15=.I (.int .i64 (cf (cs.take i) c.1).length)->m' 261004=eV->m' 261006=j4->m' 261117=GU->m' 261172=T3->cj T K kk (.exit 10) ⟨tm',m'⟩) :
  wp T (vQ.body.sub [1,1,1,1,1,1,0,1,0,0,1,0,0,1,1,1,0,1,0]) (cj T K kk) ⟨tm,m⟩:=by
 simp only[vQ,ep.sub];have U:=(eg.1 H).1;refine c9 [1,4,6,12,13] [261004,261006,261117,261172] (λ(k:Nat) tm m=>k<=i/\tm 16=.I (.int .i64 k)/\tm 15=.I (.int .i64 (cf (cs.take k) c.1).length)) (λk=>i-k) 0 (by refine⟨by omega,BN,qh⟩) ?_;intro vs ms aK aF;simp only[go_sem,go_sem_proc,ay,bL,bj,gq,hy,gf,fW,mv,uP] at aK aF;subst aK aF;clear ay bL bj gq hy qh BN gf fW mv uP tm m;rintro k tm m L hm ⟨mq,BN,qh⟩;simp only[go_sem,go_sem_proc,bf] at L hm;obtain⟨ay,bL,bj,gq,hy⟩:=L;obtain⟨gf,fW,mv,uP⟩:=hm;rcases dk (k<i) with av|b4
 ·have d1:decide ((k:Int)<(i:Int))=true:=c5;have bl:=eu (i:=k) (by omega);obtain⟨⟨cE,cS,dU,eN⟩,M⟩:∃c,cs[k]?=some c:=⟨_,bB (by omega)⟩;have fR:cs.take (k+1)=cs.take k++[(cE,cS,dU,eN)]:=by rw[g2,M];rfl
  have Ew:=GS (cs.take k) c.1;rw[fU] at Ew;have jr:IntKind.i64.wrap (((cf (cs.take k) c.1).length:Int)+1)=(((cf (cs.take k) c.1).length+1:Nat):Int):=by rw[e7 _];omega
  obtain⟨au,c2,c3,c4⟩:=c;dsimp only at *;rcases q:(cE==au)
  ·have Q:cf (cs.take (k+1)) au=cf (cs.take k) au:=by
    rw[fR,D7];have:cf [(cE,cS,dU,eN)] au=[]:=by unfold cf;rw[pv (by simpa using q)];rfl
    rw[this,gD]
   refine a1 ?_;repeat' (intro h<;>simp only[h,go_sem,go_sem_proc,ay,bL,bj,gq,hy,qh,BN,gf,fW,mv,uP,M,H,d1,bl,q,bw,ah,aW]<;>try refine al ?_ ?_)
   exact⟨k+1,by omega,by omega,rfl,by rw[Q]⟩
  ·have Q:(cf (cs.take (k+1)) au).length=(cf (cs.take k) au).length+1:=by
    rw[fR,D7];have:cf [(cE,cS,dU,eN)] au=[(cE,cS,dU,eN)]:=by unfold cf;rw[oK (by simpa using q)];rfl
    rw[this,gj];rfl
   refine a1 ?_;repeat' (intro h<;>simp only[h,go_sem,go_sem_proc,ay,bL,bj,gq,hy,qh,BN,gf,fW,mv,uP,M,H,d1,bl,jr,q,bw,ah,aW]<;>try refine al ?_ ?_)
   exact⟨k+1,by omega,by omega,rfl,by rw[Q]⟩
 ·have d1:decide ((k:Int)<(i:Int))=false:=cu;obtain rfl:k=i:=by omega
  refine a1 ?_;repeat' (intro h<;>simp only[h,go_sem,go_sem_proc,ay,bL,bj,gq,hy,qh,BN,d1]<;>try refine al ?_ ?_)
  refine cX _ _ ?_ ?_ ?_ ?_ ?_ ?_ gf fW mv uP<;>simp only[dv,cx,if_false,ay,bL,bj,gq,hy,qh]
theorem aDu (T:bm)(qj:T PW=aO S2){K:eF->bg->Prop}{kk:List fB}(E:List Int)(cs:List aB)(Q:e5 E cs)(adw:R)(r0:Nat)(eV GU:Option (Nat×List R))(tm:Nat->R)(m:Mem)
  (ay:tm 1=.I (.Y (cs.map bw))) (bL:tm 4=.ptr 261004 0 0) (bj:tm 6=.ptr 261006 0 0) (gq:tm 12=.I (.int .i64 0)) (gf:m 261004=eV) (fW:m 261006=some (0,[.I (.Y ((mT E cs).map aw)),.ref 261172 r0 4 0 0,adw])) (mv:m 261117=GU) (uP:m 261172=some (r0,[]))
  (cX:∀tm' m' g,tm' 4=.ptr 261004 0 0->tm' 6=.ptr 261006 0 0->m' 261004=eV->m' 261006=some (0,[.I (.Y ((mT E cs).map aw)),.ref 261172 g 4 0 (oU E cs).length,adw])->m' 261117=GU->m' 261172=some (g,aS aw (oU E cs))->cj T K kk (.exit 8) ⟨tm',m'⟩) :
  wp T (vQ.body.sub [1,1,1,1,1,1,0,1,0]) (cj T K kk) ⟨tm,m⟩:=by
 simp only[vQ,ep.sub];have eG:=Q.qR;have mm:=(hB.1 Q.right).2.2.2;have j7:(oU E cs).length=D cs:=by unfold oU;rw[ah]
 refine c9 [1,4,6] [261004,261117] (λ((i,g):Nat×Nat) tm m=>i<=D cs/\tm 12=.I (.int .i64 i)/\m 261006=some (0,[.I (.Y ((mT E cs).map aw)),.ref 261172 g 4 0 i,adw])/\m 261172=some (g,aS aw ((oU E cs).take i))) (λ(i,_)=>D cs-i) (0,r0) (by refine⟨by omega,gq,fW,uP⟩) ?_;intro vs ms aK aF;simp only[go_sem,go_sem_proc,ay,bL,bj,gf,mv] at aK aF;subst aK aF;clear ay bL bj gq gf fW mv uP tm m;rintro⟨i,g⟩ tm m L hm ⟨U,gq,fW,uP⟩;simp only[go_sem,go_sem_proc,bf] at L hm;obtain⟨ay,bL,bj⟩:=L;obtain⟨gf,mv⟩:=hm;rcases dk (i<D cs) with av|b4
 ·have d1:decide ((i:Int)<(D cs:Int))=true:=c5;have bl:=eu (i:=i) (by omega);obtain⟨⟨au,c2,c3,c4⟩,M⟩:∃c,cs[i]?=some c:=⟨_,bB av⟩;have jf:=mm _ (dS M);dsimp only at jf;obtain⟨au,rfl⟩:∃k:Nat,au=(k:Int):=⟨au.toNat,by omega⟩
  have gv:au<D E:=by omega
  have dw:=az0 cs au ((ak E cs).ct au) ⟨⟨Q.own au,abM Q.ok gv,(DW Q gv).mono (by omega)⟩,by omega⟩
  have ni:(mT E cs)[au]?=some (aq ((ak E cs).ct au)):=p9 _ gv;have an8:=aDs M;dsimp only at an8
  have aDv:(oU E cs)[i]?=some (aq (fY cs ((ak E cs).ct au) ((au:Int),c2,c3,c4))):=by
   unfold oU;rw[aW,M,l9,iY]
  have TR:((cf cs au).map λc=>aq (fY cs ((ak E cs).ct au) c))[(cf (cs.take i) au).length]?=some (aq (fY cs ((ak E cs).ct au) ((au:Int),c2,c3,c4))):=by
   rw[aW,an8];rfl
  have fR:(oU E cs).take (i+1)=(oU E cs).take i++[aq (fY cs ((ak E cs).ct au) ((au:Int),c2,c3,c4))]:=by rw[g2,aDv];rfl
  have kQ:((oU E cs).take i).length=i:=by rw[fU,j7];omega
  have cW:=λ(aR:bG) rS kq=>ka jS yo 261172 g 64 ((oU E cs).take i) aR (cs:=rS) kq (by omega) (by omega);rw[kQ] at cW;have an9:=λ(K:eF->bg->Prop) (kk:List fB) v4 v6 T2 eV j4 GU T3 tm m=>aDt T (K:=K) (kk:=kk) cs eG i _ M v4 v6 T2 eV j4 GU T3 tm m;dsimp only at an9;generalize ((cf cs au).map λc=>aq (fY cs ((ak E cs).ct au) c))=xy at *;generalize aq (fY cs ((ak E cs).ct au) ((au:Int),c2,c3,c4))=P at *;generalize aq ((ak E cs).ct au)=gI at *;generalize mT E cs=Ci at *;obtain⟨⟨jz,kJ⟩,⟨sk,sl⟩⟩:=P;obtain⟨⟨cE,cS⟩,⟨dU,eN⟩⟩:=gI;have mP:=cW ((jz,kJ),(sk,sl)) _ rfl;rw[<-fR] at mP;simp only[aw,eI,b6] at dw mP;simp only[go_sem,go_sem_proc,qj,ay,bL,bj,gq,gf,fW,mv,uP,M,d1,ni,dw,bw,aw,ah,aW,bne,beq_self_eq_true,bT];refine an9 _ _ (.ptr 261004 0 0) (.ptr 261006 0 0) (.I (.Y (xy.map aw))) _ _ _ _ _ _ ?_ ?_ ?_ ?_ ?_ ?_ ?_ gf fW mv uP ?_
  all_goals first|(intro xp bX cL gh eD ky r8 Tw ja js Ch T4)|(simp only[dv,cx,if_false,if_true,ay,bL,bj,gq];done)
  refine a1 ?_;repeat' (intro h<;>simp only[h,go_sem,go_sem_proc,cL,gh,eD,ky,r8,Tw,ja,js,Ch,T4,TR,mP,bl,aw,ah,aW,s9,kP]<;>try refine al ?_ ?_)
  exact⟨(i+1,g+1),by dsimp only;omega,by dsimp only;omega,rfl,rfl,rfl⟩
 ·have d1:decide ((i:Int)<(D cs:Int))=false:=cu;rw[dH (by rw[j7];omega)] at uP;have qO:i=(oU E cs).length:=by rw[j7];omega
  rw[qO] at fW;refine a1 ?_;repeat' (intro h<;>simp only[h,go_sem,go_sem_proc,ay,bL,bj,gq,d1,ah]<;>try refine al ?_ ?_)
  refine cX _ _ g ?_ ?_ gf fW mv uP<;>simp only[dv,cx,if_false,bL,bj]
theorem adx {E:List Int}{cs:List aB}:Ae E cs=true↔(D E)<=5/\D cs<=12/\(∀x∈E,1000000<x->1000000000000000<x)/\∀c∈cs,1000000<c.2.2.2->1000000000000000<c.2.2.2:=by
 have aD:∀m:Int,oM m=true↔(1000000<m->1000000000000000<m):=λm=>by
  unfold oM
  by_cases G:m>1000000<;>by_cases J:m<=1000000000000000<;>simp[G,J]<;>omega
 unfold Ae;simp only[gb,vy,decide_eq_false_iff_not,qs,aD]
 constructor
 ·rintro⟨G,J,af,aP⟩;exact⟨by omega,by omega,af,aP⟩
 ·rintro⟨G,J,af,aP⟩;exact⟨by omega,by omega,af,aP⟩
theorem aDw {E:List Int}{cs:List aB}(aD:Ae E cs=true)(X:g9 E cs=true):(∀x∈E,0<=x/\x<=1000000)/\∀c∈cs,0<=c.2.2.2/\c.2.2.2<=1000000:=by
 obtain⟨-,-,af,aP⟩:=adx.1 aD;obtain⟨-,-,bh,bK⟩:=hB.1 X;refine⟨λx M=>?_,λc H=>?_⟩
 ·have:=af x M;have:=bh x M;omega
 ·have:=aP c H;have:=bK c H;omega
theorem aoa {E:List Int}{cs:List aB}(aD:Ae E cs=true)(X:g9 E cs=true):e5 E cs:=by
 obtain⟨G,J,-,-⟩:=adx.1 aD;exact⟨X,G,J,λc H=>by have:=(aDw aD X).2 c H;omega⟩
theorem aDx {E:List Int}{cs:List aB}(aD:Ae E cs=true):v5 E cs:=by
 obtain⟨G,J,-,-⟩:=adx.1 aD;exact⟨by omega,by omega,aoa aD⟩
section
variable {E:List Int} {cs:List aB} (Q:e5 E cs)
include Q
theorem aDy:rk (mT E cs):=by
 have:=Q.hV;exact aa2 (by omega) λi U=>je (DW Q U) (by omega)
theorem aDz:(mT E cs).any (rl vc)=false/\adq (mT E cs)=(eY (D E)).map (ak E cs).ct:=by
 refine⟨?_,?_⟩
 ·rw[List.any_eq_false];intro f aD;obtain⟨y,ao,rfl⟩:=gE.1 aD;obtain⟨i,U,rfl⟩:=gE.1 ao;have mB:i<D E:=jC.1 U;have az:=je (DW Q mB) (by omega);have aM:=abM Q.ok mB;rw[Yj];show ¬ (!dJ (aq ((ak E cs).ct i))||decide ((aq ((ak E cs).ct i)).1.1<0))=true;rw[NM az];have:decide ((ak E cs).ct i<0)=false:=kY (by grind);rw[<-SX] at this;have J:decide ((aq ((ak E cs).ct i)).1.1<0)=false:=this;rw[J];decide
 ·unfold adq mT c8;rw[pQ];exact (pP λx _=>Ft x).trans (List.map_id _)
theorem aK2:aDb E cs (mT E cs)/\anS E cs (mT E cs)=true:=by
 obtain⟨G,J⟩:=aDz Q;have aM:=Q.hV;have eG:=Q.qR;refine⟨⟨by omega,by omega,aDy Q,λ_=>Q,λ_ _ _ f aD=>?_⟩,?_⟩
 ·obtain⟨y,ao,rfl⟩:=gE.1 aD;obtain⟨i,U,rfl⟩:=gE.1 ao;rw[Ft];exact (DW Q (jC.1 U)).mono (by omega)
 ·unfold anS;have az:(mT E cs).length=D E:=qQ _ _;rw[Q.right,G,jw az,fP,fP,cp,fP,aDc,J];intro i U;have M:=aCX Q i U
  have kq:y6 E cs (λi=>((eY (D E)).map (ak E cs).ct).getD i 0) i cs=y6 E cs (ak E cs).ct i cs:=by
   have X:=(hB.1 Q.right).2.2.2
   have key:∀n (l:List aB),D l=n->(∀c∈l,c∈cs)->y6 E cs (λi=>((eY (D E)).map (ak E cs).ct).getD i 0) i l=y6 E cs (ak E cs).ct i l:=by
    intro n
    induction n with
    |zero=>intro l az _;rw[yS.1 az];rfl
    |succ n aH =>
     intro l az hm;rcases zv l with aj|⟨m,c,rfl⟩
     ·subst aj;cases az
     ·rw[zw] at *;simp only[gj,s7] at az;have H:=X c (hm c (by simp));rw[OC,OC,aH m (by omega) λy ao=>hm y (by simp[ao])];unfold Kc;have:((eY (D E)).map (ak E cs).ct).getD c.1.toNat 0=(ak E cs).ct c.1.toNat:=Cc (ak E cs).ct 0 (show c.1.toNat<(D E) by omega);simp only[this]
   exact key _ cs rfl λc H=>H
  rw[kq,M];show _=some ((bx (D E) (ak E cs).ct).getD i 0);rw[Cc (ak E cs).ct 0 U]
end
def ady (l:List Int):List Data:=[.Y (l.map ae)]
def aDA (a:List (List Int)):Prop:=D a<=1000000/\∀l∈a,D l<=1000000
theorem aDB (l:List (List Nat)):l.map qV=(l.map λr=>r.map λn=>((n:Nat):Int)).map ady:=by
 rw[pQ];refine pP λr _=>?_;simp only[qV,ady,Function.comp_apply,pQ]
 rfl
structure T5 (E:List Int) (cs:List aB) (aN ew:List Int) (aJ:List (List Int)):Prop where
 s:e5 E cs
 h:mT E cs=aN.map λn:Int=>aq (n:Rat)
 p:oU E cs=ew.map λn:Int=>aq (n:Rat)
 f:((ak E cs).jv.map λr=>r.map λn=>((n:Nat):Int))=aJ
 U:∀n∈aN,df n
 pi:∀n∈ew,df n
 o:aDA aJ
theorem T5.solve {E:List Int}{cs:List aB}{aN ew:List Int}{aJ:List (List Int)}(h:T5 E cs aN ew aJ):T0 [.Y (E.map ae),.Y (cs.map bw)]=some (.same (.cB [.agg [.Y ((aN.map λn:Int=>aq (n:Rat)).map aw),.Y ((ew.map λn:Int=>aq (n:Rat)).map aw),.Y (aJ.map ady)],.int .i64 0])):=by
 have aM:=h.s.hV;have eG:=h.s.qR;have rL:=an6 E cs ⟨by omega,by omega,λ_=>h.s⟩
 unfold y7 at rL;rw[ad h.s.right,h.h,h.p,aDB,h.f] at rL;exact rL
theorem T5.small {E:List Int}{cs:List aB}{aN ew:List Int}{aJ:List (List Int)}(h:T5 E cs aN ew aJ):(D aN)<=5/\D ew<=12:=by
 have G:=congrArg D h.h;have J:=congrArg D h.p;unfold mT at G;unfold oU at J;rw[qQ,ah] at G;rw[ah,ah] at J;have aM:=h.s.hV;have eG:=h.s.qR;omega
end Go.Mini
namespace Go.Mini
open Classical
def ay:Day:=ak [5,0] [(0,1,0,10),(1,-1,0,4)]
def aA:Day:=ak [0,0] [(0,1,1,10),(1,0,1,10)]
def bL:Day:=ak [9] [(0,-1,0,6),(0,-1,1,2),(0,-1,1,4)]
def bQ:Day:=ak [0,0] [(0,1,1,10),(1,0,1,10),(0,-1,0,5)]
def da:Day:=ak [10,30] [(1,-1,0,25)]
def bj:Day:=ak [10,0] [(0,1,0,30)]
def bJ:Day:=ak [30,0] [(0,1,0,30)]
theorem aDC:da.ct 0=10:=by
 have ab:da.dF:=Nr (by decide);have eC:da.dt=[⟨1,-1,0,25⟩]:=rfl;have H:da.E 0=10:=rfl;rw[(Jz ab).1 0 (by decide)];simp[eC,H,Day.uF,Day.fq,ck,pr]
theorem aob {d:Day}(ab:d.dF)(aM:d.n=2)(eC:d.dt=[⟨0,1,0,30⟩])(G:d.E 1=0):d.ct 0=d.E 0/\d.ct 1=if 30<=d.E 0 then 30 else pos (d.E 0):=by
 have aDD:d.S 0 0=30:=by simp[eC,Day.S,ck,pr]
 have Tg:d.bZ 0 1=30:=by simp[eC,Day.bZ,ck,pr]
 have eQ:d.w ⟨0,1,0,30⟩=1:=by simp only[Day.w,aDD];decide +kernel
 have r0:d.ct 0=d.E 0:=by
  rw[(Jz ab).1 0 (by omega)];simp[eC,Day.uF,Day.fq,ck,pr]
 refine⟨r0,?_⟩;rw[(Jz ab).1 1 (by omega)];have bu:d.E 0-0=d.E 0:=by grind
 simp[eC,Day.uF,Day.fq,Day.jE,ck,G,r0,Tg,eQ,d.RW,bu,pr,DN,Rat.one_mul]
theorem aDE:bj.ct 1=10:=by
 have h:bj.dF:=Nr (by decide);rw[(aob h rfl rfl rfl).2,show bj.E 0=10 from rfl]
 decide +kernel
theorem aDF:bJ.ct 1=30:=by
 have h:bJ.dF:=Nr (by decide);rw[(aob h rfl rfl rfl).2,show bJ.E 0=30 from rfl]
 decide +kernel
end Go.Mini
namespace Go.Mini
open Go

end Go.Mini
namespace Go.Mini
open Classical
section
variable {E:List Int} {cs:List aB} (Q:e5 E cs)
include Q
theorem aDG (i:Nat)(aR:dZ->Rat):ck ((cf cs i).map ca) aR=ck (ak E cs).dt λc=>if c.aE=i then aR c else 0:=by
 have X:=(hB.1 Q.right).2.2.2
 have e:∀l:List aB,(∀c∈l,c∈cs)->ck ((cf l i).map ca) aR=ck (l.map ca) λc=>if c.aE=i then aR c else 0:=by
  intro l
  induction l with
  |nil=>intro _;rfl
  |cons c l aH =>
   intro hm;have aj:=(X c (hm c g0)).1;have aH:=aH λy ao=>hm y (h3 _ ao);unfold cf at *
   by_cases H:c.1=(i:Int)
   ·rw[oK (by simpa using H),eI,eI,ck,ck,aH,ad (by show c.1.toNat=i;omega)]
   ·rw[pv (by simpa using H),eI,ck,aH,ag (by show ¬ c.1.toNat=i;omega),DN]
 exact e cs λc H=>H
end
end Go.Mini
namespace Go.Mini
open Go
section
variable {E:List Int} {cs:List aB} (Q:e5 E cs) {i:Nat}
include Q
end



def fa (cs:List aB)(who:Nat):List aB:=cs.filter λc=>c.1 != (who:Int)
def hC (E:List Int)(cs:List aB)(who:Nat):List Int:=bx (D E) λi=>E.getD i 0+cl (cf cs who) (eX i)
def y8 (E:List Int)(cs:List aB)(who:Nat):Bool:=(hC E cs who).all λx=>decide (x<=1000000000000000)
theorem D8 (E:List Int)(cs:List aB)(who:Nat):(hC E cs who).length=D E:=gn _ _
theorem adz {E:List Int}{cs:List aB}(Q:e5 E cs)(j:Nat){l:List aB}(az:∀c∈l,c∈cs)(aM:(D l)<=12):0<=cl l (eX j)/\cl l (eX j)<=536870912:=by
 have:=Jo (cs:=l) (aR:=eX j) (B:=33554432) (by omega) λc H=>by
  have G:=Q.am c (az c H);have J:=((hB.1 Q.right).2.2.2 c (az c H)).2.2.2.2.2.2.1;unfold eX
  split<;>omega
 omega
theorem aDH {E:List Int}{cs:List aB}(Q:e5 E cs)(who i:Nat):((cl (cf cs who) (eX i):Int):Rat)=ck (ak E cs).dt λc=>if c.aE=who/\c.to=(i:Int) then c.am else 0:=by
 rw[Ns (cf cs who) (eX i) λc=>if c.to=(i:Int) then c.am else 0]
 ·rw[aDG Q];refine uD λc _=>?_
  by_cases G:c.aE=who
  ·by_cases J:c.to=(i:Int)
   ·rw[ad G,ad J,ad ⟨G,J⟩]
   ·rw[ad G,ag J,ag λh=>J h.2]
  ·rw[ag G,ag λh=>G h.1]
 ·intro c _;unfold eX;have e:(ca c).to=c.2.1:=rfl;rw[e]
  split
  ·rfl
  ·rfl
theorem Ke {E:List Int}{cs:List aB}(Q:e5 E cs)(who:Nat):ak (hC E cs who) (fa cs who)=(ak E cs).saved who:=by
 have X:=(hB.1 Q.right).2.2.2;have ay:(hC E cs who).length=D E:=D8 _ _ _
 have aA:(λi=>(((hC E cs who).getD i 0:Int):Rat))=((ak E cs).saved who).E:=by
  funext i
  show _=((E.getD i 0:Int):Rat)+ck (ak E cs).dt λc=>if c.aE=who/\c.to=(i:Int) then c.am else 0;rw[<-aDH Q,<-z7]
  congr 1
  by_cases U:i<D E
  ·exact Cc (λi=>E.getD i 0+cl (cf cs who) (eX i)) 0 U
  ·rw[ez,iD (by rw[ay];omega),aoc]
   have G:cl (cf cs who) (eX i)=0:=by
    have key:∀l:List aB,(∀c∈l,c∈cs)->cl l (eX i)=0:=by
     intro l
     induction l with
     |nil=>intro _;rfl
     |cons c l aH =>
      intro az;have J:=X c (az c g0);rw[cl,aH λc H=>az c (h3 _ H)];unfold eX;rw[ag (by omega)];rfl
    exact key _ λc H=>(tr.1 H).1
   rw[G,ez,iD (by omega),aoc];rfl
 have bQ:(fa cs who).map ca=((ak E cs).saved who).dt:=by
  rw[ayY];show _=(cs.map ca).filter _;unfold fa;rw[List.filter_map]
  congr 1
  refine anp λc H=>?_;have J:=X c H;show (c.1 != (who:Int))=decide (c.1.toNat≠who);rw[Bool.eq_iff_iff,bne_iff_ne,decide_eq_true_eq];omega
 unfold ak;rw[ay,aA,bQ]
 rfl
theorem adA {E:List Int}{cs:List aB}(Q:e5 E cs){who:Nat}(h:y8 E cs who=true):e5 (hC E cs who) (fa cs who):=by
 have X:=hB.1 Q.right;have aM:=Q.hV;have eG:=Q.qR;have az:(fa cs who).length<=D cs:=mO _ _;have hm:∀c∈fa cs who,c∈cs:=λc H=>(Jn.1 H).1;refine⟨hB.2 ⟨by rw[D8];omega,by omega,λx M=>?_,λc H=>?_⟩,by rw[D8];exact aM,by omega,λc H=>Q.am c (hm c H)⟩
 ·unfold y8 at h;rw[qs] at h;refine⟨?_,of_decide_eq_true (h x M)⟩;obtain⟨i,-,rfl⟩:=gE.1 M;have G:=Q.E i;have J:=adz Q i (l:=cf cs who) (λc H=>(tr.1 H).1) (by have:=GS cs who;omega);omega
 ·have:=X.2.2.2 c (hm c H);rw[D8];exact this
def hX (cs:List aB)(who:Nat):Int:=cl (cf cs who) λc=>c.2.2.2
theorem adB {E:List Int}{cs:List aB}(Q:e5 E cs)(who:Nat):((hX cs who:Int):Rat)=(ak E cs).bZ who 10:=by
 have h:=ps Q.right who 10;rw[<-h]
 congr 1
 unfold hX b0;have X:=(hB.1 Q.right).2.2.2
 have key:∀l:List aB,(∀c∈l,c∈cs)->cl (cf l who) (λc=>c.2.2.2)=cl l λc=>if c.1=(who:Int)/\c.2.2.1<((10:Nat):Int) then c.2.2.2 else 0:=by
  intro l
  induction l with
  |nil=>intro _;rfl
  |cons c l aH =>
   intro az;have J:=X c (az c g0);have aH:=aH λc H=>az c (h3 _ H);unfold cf at *
   by_cases H:c.1=(who:Int)
   ·rw[oK (by simpa using H),cl,cl,aH,ad ⟨H,by omega⟩]
   ·rw[pv (by simpa using H),cl,aH,ag λh=>H h.1];omega
 exact key cs λc H=>H
theorem T6 {E:List Int}{cs:List aB}(Q:e5 E cs){l:List aB}(az:∀c∈l,c∈cs)(aM:(D l)<=12):0<=cl l (λc=>c.2.2.2)/\cl l (λc=>c.2.2.2)<=536870912:=by
 have:=Jo (cs:=l) (aR:=λc=>c.2.2.2) (B:=33554432) (by omega) λc H=>by
  have G:=Q.am c (az c H);have J:=((hB.1 Q.right).2.2.2 c (az c H)).2.2.2.2.2.2.1;omega
 omega
def oV (E:List Int)(cs:List aB)(who:Nat):Rat:=(ak E cs).bZ who 10-((ak E cs).saved who).ct who
def GV (E:List Int)(cs:List aB)(who:Nat):Rat:=pos (oV E cs who)
def v8 (E:List Int)(cs:List aB)(who:Int):Data:=if g9 E cs=true/\0<=who/\who<(D E) then (if y8 E cs who.toNat=true then .cB [.agg (aw (aq (GV E cs who.toNat))),.int .i64 0] else .cB [.agg (aw c1),.int .i64 6]) else .cB [.agg (aw c1),.int .i64 1]
theorem aDI {E:List Int}{cs:List aB}(Q:e5 E cs){who:Nat}(hw:who<D E)(h:y8 E cs who=true):eJ 483 (oV E cs who)/\eJ 483 (GV E cs who)/\0<=GV E cs who:=by
 have G:=DW (adA Q h) (i:=who) (by rw[D8];exact hw);rw[Ke Q] at G;have J:=Q.upto who 10
 have af:eJ 29 ((ak E cs).bZ who 10):=by
  rw[<-ps Q.right];exact tn (by have:=Q.upto who ((10:Nat):Int);omega)
 have aP:eJ 483 (oV E cs who):=by
  unfold oV;rw[Dd];exact (NC af (uH G)).mono (by omega)
 refine⟨aP,?_,Gd _⟩;unfold GV pos
 split
 ·exact (show eJ 1 0 from⟨by decide,by decide⟩).mono (by omega)
 ·exact aP
def Kf (l:List Int):Int:=l.foldl max (l.headD 0)
theorem aod (B:Int):∀(l:List Int) (a:Int),l.foldl max a<=B↔a<=B/\∀x∈l,x<=B
 | [],a=>by simp
 |b::l,a=>by
  rw[List.foldl_cons,aod B l];simp only[List.mem_cons,forall_eq_or_imp,aoe]
  constructor
  ·rintro⟨G,J⟩;split at G<;>exact⟨by omega,by omega,J⟩
  ·rintro⟨G,J,af⟩;exact⟨by split<;>omega,af⟩
theorem aDJ {l:List Int}(h:0<D l)(B:Int):decide (Kf l>B) = !l.all λx=>decide (x<=B):=by
 obtain⟨a,r,rfl⟩:∃a r,l=a::r:=by
  cases l with
  |nil=>simp at h
  |cons a r=>exact⟨a,r,rfl⟩
 have G:=aod B (a::r) a;have e:Kf (a::r)=(a::r).foldl max a:=rfl;rw[e]
 by_cases J:(a::r).foldl max a<=B
 ·rw[cu]
  symm
  rw[Bool.not_eq_false',qs];exact λx M=>jw ((G.1 J).2 x M)
 ·rw[c5]
  symm
  rw[vy,aof];have af:¬ ∀x∈a::r,x<=B:=λaX=>J (G.2 ⟨aX a g0,aX⟩);simp only[Classical.not_forall] at af;obtain⟨x,M,aM⟩:=af;exact⟨x,M,by simpa using aM⟩
def adC:=cy E2 λ(l:List Int)=>cT (0<D l/\D l<=1000000) (.same (.int .i64 (Kf l)))
@[go_sem] theorem aDK (l:List Int)(H:0<D l/\D l<=1000000):adC [.Y (l.map ae)]=some (.same (.int .i64 (Kf l))):=(cF LR l).trans (cY H _)
theorem aDL (T:bm)  (l:List Int) (H:0<D l/\D l<=1000000):WP T WL (.same (.int .i64 (Kf l))) [.I (.Y (l.map ae))]:=by
 refine cH ?_;simp only[WL];obtain⟨aj,az⟩:=H;obtain⟨a,M⟩:∃a,l[0]?=some a:=⟨_,bB aj⟩;have d0:decide ((D l:Int)<1)=false:=cu
 have aX:l.headD 0=a:=by
  cases l with
  |nil=>simp at aj
  |cons b r=>simpa using M
 have G:(l.take 1).foldl max a=a:=by
  cases l with
  |nil=>simp at aj
  |cons b r =>
   have:b=a:=by simpa using M
   subst this;simp
 unfold Kf;rw[aX];simp only[go_sem,go_sem_proc,M,aj,d0,ae,ah,aW];refine c9 [0] [] (λ(i:Nat) tm m=>i<=D l/\tm 4=.I (.int .i64 i)/\tm 3=.I (.int .i64 ((l.take i).foldl max a))) (λi=>D l-i) 1 (by refine⟨by omega,rfl,by rw[G];rfl⟩) ?_;intro vs ms aK aF;simp only[go_sem,go_sem_proc,ah] at aK aF;subst aK aF;rintro i tm m L-⟨U,bL,bQ⟩;simp only[go_sem,go_sem_proc,bf] at L;have bu:=L;rcases dk (i<D l) with av|b4
 ·have d1:decide ((i:Int)<(D l:Int))=true:=c5;have bl:=eu (i:=i) (by omega);obtain⟨y,ao⟩:∃y,l[i]?=some y:=⟨_,bB av⟩;have fR:(l.take (i+1)).foldl max a=max ((l.take i).foldl max a) y:=by rw[g2,ao,aog,anH];rfl
  refine a1 ?_;repeat' (intro h<;>simp only[h,go_sem,go_sem_proc,bu,bQ,bL,ao,d1,bl,ae,ah,aW]<;>try refine al ?_ ?_)
  refine⟨i+1,by omega,by omega,rfl,?_⟩
  rw[fR,aoe];generalize (l.take i).foldl max a=z at *
  congr 2
  split<;>split<;>omega
 ·have d1:decide ((i:Int)<(D l:Int))=false:=cu;rw[dH (by omega)] at bQ;refine a1 ?_;repeat' (intro h<;>simp only[h,go_sem,go_sem_proc,bu,bQ,bL,d1,ah]<;>try refine al ?_ ?_)
theorem aoh {n:Int}(h:df n):Fx [.int .i64 n,.int .i64 1]=some (.same (.cB [.agg (aw (aq (n:Rat))),.int .i64 0])):=by
 have:=ahl n 1 ⟨h,JG⟩;rw[Gp h] at this;exact this
def gp (E:List Int)(cs:List aB)(who i:Nat):Nat->Int:=λj=>E.getD j 0+cl (cf (cs.take i) who) (eX j)
theorem aDM (T:bm){K:eF->bg->Prop}{kk:List fB}(E:List Int)(cs:List aB)(Q:e5 E cs)(who:Nat)(j4:Option (Nat×List R))(GW:Nat)(tm:Nat->R)(m:Mem)
  (aA:tm 2=.I (.int .i64 who)) (bj:tm 6=.ptr 221006 0 0) (dg:tm 8=.ref 221034 0 1 0 (D E)) (dz:tm 9=.I (.int .i64 0)) (dY:tm 10=.ref 221048 GW 4 0 0) (GX:tm 35=.I (.Y (cs.map bw))) (GY:tm 36=.I (.int .i64 (D cs))) (kW:tm 37=.I (.int .i64 0))
  (fW:m 221006=j4) (oW:m 221034=some (0,(bx (D E) (gp E cs who 0)).map db)) (D9:m 221048=some (GW,[]))
  (cX:∀tm' m' g,tm' 2=.I (.int .i64 who)->tm' 6=.ptr 221006 0 0->tm' 8=.ref 221034 0 1 0 (D E)->tm' 9=.I (.int .i64 (hX cs who))->tm' 10=.ref 221048 g 4 0 (fa cs who).length->m' 221006=j4->m' 221034=some (0,(hC E cs who).map db)->m' 221048=some (g,aS bw (fa cs who))->cj T K kk (.exit 0) ⟨tm',m'⟩) :
  wp T (Og.body.sub [1,1,1,1,0,1,0,0]) (cj T K kk) ⟨tm,m⟩:=by
 simp only[Og,ep.sub];have aM:=Q.hV;have eG:=Q.qR;have mm:=(hB.1 Q.right).2.2.2;refine c9 [2,6,8,35,36] [221006] (λ((i,g):Nat×Nat) tm m=>i<=D cs/\tm 37=.I (.int .i64 i)/\tm 9=.I (.int .i64 (hX (cs.take i) who))/\tm 10=.ref 221048 g 4 0 (fa (cs.take i) who).length/\m 221048=some (g,aS bw (fa (cs.take i) who))/\m 221034=some (0,(bx (D E) (gp E cs who i)).map db)) (λ(i,_)=>D cs-i) (0,GW) (by refine⟨by omega,kW,?_,?_,?_,oW⟩<;>rw[ma]<;>first|exact dz|exact dY|exact D9) ?_
 intro vs ms aK aF;simp only[go_sem,go_sem_proc,aA,bj,dg,GX,GY,fW] at aK aF;subst aK aF;clear aA bj dg dz dY GX GY kW fW oW D9 tm m;rintro⟨i,g⟩ tm m L hm ⟨U,kW,dz,dY,D9,oW⟩;simp only[go_sem,go_sem_proc,bf] at L hm;obtain⟨aA,bj,dg,GX,GY⟩:=L;have fW:=hm;rcases dk (i<D cs) with av|b4
 ·have d1:decide ((i:Int)<(D cs:Int))=true:=c5;have bl:=eu (i:=i) (by omega);obtain⟨⟨au,c2,c3,c4⟩,M⟩:∃c,cs[i]?=some c:=⟨_,bB av⟩;have fc:=dS M;have jf:=mm _ fc;have adD:=Q.am _ fc;dsimp only at jf adD;have fR:cs.take (i+1)=cs.take i++[(au,c2,c3,c4)]:=by rw[g2,M];rfl
  have Bk:∀n,∀c∈cf (cs.take n) who,c∈cs:=λn c H=>tM (tr.1 H).1
  have kQ:∀n,(cf (cs.take n) who).length<=12:=λn=>by
   have G:=GS (cs.take n) who;have J:(cs.take n).length<=D cs:=by rw[fU];omega
   omega
  have xO:(fa (cs.take i) who).length<=12:=by
   have G:(fa (cs.take i) who).length<=(cs.take i).length:=mO _ _;have J:(cs.take i).length<=D cs:=by rw[fU];omega
   omega
  have o6:=T6 Q (Bk (i+1)) (kQ (i+1));rcases ev:(au==(who:Int))
  ·have kG:cf (cs.take (i+1)) who=cf (cs.take i) who:=by
    rw[fR,D7];have:cf [(au,c2,c3,c4)] who=[]:=by unfold cf;rw[pv (by simpa using ev)];rfl
    rw[this,gD]
   have oN:fa (cs.take (i+1)) who=fa (cs.take i) who++[(au,c2,c3,c4)]:=by
    unfold fa;rw[fR,rE,oK (by simpa [bne] using ev),pt]
   have cW:=ka yM NN 221048 g 32 (fa (cs.take i) who) (au,c2,c3,c4) (cs:=[.I (.int .i64 au),.I (.int .i64 c2),.I (.int .i64 c3),.I (.int .i64 c4)]) rfl (by omega) (by omega);rw[<-oN] at cW;have bt:(fa (cs.take (i+1)) who).length=(fa (cs.take i) who).length+1:=by rw[oN,gj];rfl
   have dw:gp E cs who (i+1)=gp E cs who i:=by unfold gp;rw[kG]
   refine a1 ?_;repeat' (intro h<;>simp only[h,go_sem,go_sem_proc,aA,bj,dg,dz,dY,GX,GY,kW,fW,oW,D9,M,d1,bl,ev,cW,bw,ah,aW,bne,cp]<;>try refine al ?_ ?_)
   exact⟨(i+1,g+1),by dsimp only;omega,by dsimp only;omega,rfl,by unfold hX;rw[kG],by rw[bt],rfl,by rw[dw]⟩
  ·have kG:cf (cs.take (i+1)) who=cf (cs.take i) who++[(au,c2,c3,c4)]:=by
    rw[fR,D7];have:cf [(au,c2,c3,c4)] who=[(au,c2,c3,c4)]:=by unfold cf;rw[oK (by simpa using ev)];rfl
    rw[this]
   have oN:fa (cs.take (i+1)) who=fa (cs.take i) who:=by
    unfold fa;rw[fR,rE,pv (by simpa [bne] using ev),pt,gD]
   have Il:hX (cs.take (i+1)) who=hX (cs.take i) who+c4:=by unfold hX;rw[kG,Aq]
   have Bn:=T6 Q (Bk i) (kQ i)
   have jr:IntKind.i64.wrap (hX (cs.take i) who+c4)=hX (cs.take (i+1)) who:=by
    rw[Il];unfold hX at *;rw[e7 _]
   rcases gg:decide (c2>=0)
   ·have dw:(bx (D E) (gp E cs who (i+1)))=bx (D E) (gp E cs who i):=h6 λj _=>by
     unfold gp;have:eX j (au,c2,c3,c4)=0:=by unfold eX;rw[ag (by dsimp only;have:=of_decide_eq_false gg;omega)]
     rw[kG,Aq,this,k9]
    refine a1 ?_;repeat' (intro h<;>simp only[h,go_sem,go_sem_proc,aA,bj,dg,dz,dY,GX,GY,kW,fW,oW,D9,M,d1,bl,jr,ev,gg,bw,ah,aW,bne,bT]<;>try refine al ?_ ?_)
    exact⟨(i+1,g),by dsimp only;omega,by dsimp only;omega,rfl,rfl,by rw[oN],by rw[oN],by rw[dw]⟩
   ·obtain⟨t,rfl⟩:∃t:Nat,c2=(t:Int):=⟨c2.toNat,by have:=of_decide_eq_true gg;omega⟩
    have Ab:t<D E:=by omega
    have dw:(bx (D E) (gp E cs who (i+1)))=bx (D E) λj=>if j=t then gp E cs who i t+c4 else gp E cs who i j:=h6 λj _=>by
     unfold gp;rw[kG,Aq]
     by_cases ax:j=t
     ·subst ax;have:eX j (au,(j:Int),c3,c4)=c4:=by unfold eX;rw[ad rfl]
      rw[ad rfl,this];omega
     ·have:eX j (au,(t:Int),c3,c4)=0:=by unfold eX;rw[ag (by dsimp only;omega)]
      rw[ag ax,this,k9]
    have k5:=adz Q t (Bk i) (kQ i);have e1:=Q.E t;have B8:IntKind.i64.wrap (gp E cs who i t+c4)=gp E cs who i t+c4:=by unfold gp;rw[e7 _]
    have t1:=Tn Ab (gp E cs who i);have t2:=To (D E) (gp E cs who i);have t3:=Tm Ab (gp E cs who i) (gp E cs who i t+c4);rw[<-dw] at t3;have dr:t+1<=D E:=by omega
    generalize aN:(bx (D E) (gp E cs who i)).map db=bV at *;generalize rV:(bx (D E) (gp E cs who (i+1))).map db=rq at *;generalize gp E cs who i t=S1 at *;refine a1 ?_;repeat' (intro h<;>simp only[h,go_sem,go_sem_proc,aA,bj,dg,dz,dY,GX,GY,kW,fW,oW,D9,M,d1,bl,jr,B8,ev,gg,t1,t2,t3,Ab,dr,bw,cD,ah,aW,bne,bT]<;>try refine al ?_ ?_)
    exact⟨(i+1,g),by dsimp only;omega,by dsimp only;omega,rfl,rfl,by rw[oN],by rw[oN],by rw[rV]⟩
 ·have d1:decide ((i:Int)<(D cs:Int))=false:=cu;obtain rfl:i=D cs:=by omega
  have dw:bx (D E) (gp E cs who (D cs))=hC E cs who:=h6 λj _=>by unfold gp;rw[kN]
  rw[dw] at oW;rw[kN] at dz dY D9;refine a1 ?_;repeat' (intro h<;>simp only[h,go_sem,go_sem_proc,aA,bj,dg,dz,dY,GX,GY,kW,d1]<;>try refine al ?_ ?_)
  refine cX _ _ g ?_ ?_ ?_ ?_ ?_ fW oW D9<;>simp only[dv,cx,if_false,aA,bj,dg,dz,dY]
theorem aoi {x:Rat}(h:x<0):pos x=0:=vM (by grind)
theorem aoj {x:Rat}(h:¬ x<0):pos x=x:=yF (by grind)
theorem aok (E:List Int)(cs:List aB)(who:Nat):((E.map ae).flatten.map R.I)=(bx (D E) (gp E cs who 0)).map db:=by
 have e:bx (D E) (gp E cs who 0)=E:=(Oa rfl λi U=>by
  unfold gp;rw[ma];show E[i]?=some (E.getD i 0+0);rw[ez,bB U,k9];rfl).symm
 rw[e,GG]
 rfl
abbrev OL:(List Int)×(List aB)×Int->List Data:=λ(E,cs,who)=>[.Y (E.map ae),.Y (cs.map bw),.int .i64 who]
def Ea:=cy OL λ(E,cs,who)=>cT (v5 E cs) (.same (v8 E cs who))
theorem adE:∀a b,OL a=OL b->a=b:=by
  rintro⟨abG,DU,Sp⟩ ⟨abH,u1,Sq⟩ h;simp only[bf,Data.Y.injEq,Data.int.injEq,and_true,true_and] at h;exact ei (map_inj hp _ _ h.1) (ei (map_inj sA _ _ h.2.1) h.2.2)
@[go_sem] theorem OM (E:List Int)(cs:List aB)(who:Int)(H:v5 E cs):Ea [.Y (E.map ae),.Y (cs.map bw),.int .i64 who]=some (.same (v8 E cs who)):=(cF adE (E,cs,who)).trans (cY H _)
theorem aDN (T:bm)(v9:T VZ=aO acL)(fw:T wK=aO CW)(wa:T V0=aO adC)(wb:T VU=aO T0)(nZ:T zx=aO Fx)(iO:T wH=aO zN)(E:List Int)(cs:List aB)(who:Int)(H:v5 E cs):WP T Og (.same (v8 E cs who)) [.I (.Y (E.map ae)),.I (.Y (cs.map bw)),.I (.int .i64 who)]:=by
 refine cH ?_;simp only[Og];obtain⟨mW,iv,nz⟩:=H;have rd:=aAB E cs ⟨mW,iv⟩;unfold v8;rcases X:g9 E cs
 ·rw[ag (by simp)];rw[X] at rd;simp only[go_sem,go_sem_proc,v9,fw,wa,wb,nZ,iO,rd,aw,c1,b6,cp];repeat' (first|refine al ?_ ?_|fail)<;>intro h<;>simp only[h,go_sem,go_sem_proc,v9,fw,wa,wb,nZ,iO,rd,aw,c1,b6,cp]
 rw[X] at rd;rcases d1:decide (who<0)
 case true =>
  rw[ag (by have:=of_decide_eq_true d1;omega)];simp only[go_sem,go_sem_proc,v9,fw,wa,wb,nZ,iO,rd,d1,aw,c1,b6,bT];repeat' (first|refine al ?_ ?_|fail)<;>intro h<;>simp only[h,go_sem,go_sem_proc,v9,fw,wa,wb,nZ,iO,rd,d1,aw,c1,b6,bT]
 rcases d2:decide (who>=(D E:Int))
 case true =>
  rw[ag (by have:=of_decide_eq_true d2;omega)];simp only[go_sem,go_sem_proc,v9,fw,wa,wb,nZ,iO,rd,d1,d2,aw,c1,b6,ah,bT];repeat' (first|refine al ?_ ?_|fail)<;>intro h<;>simp only[h,go_sem,go_sem_proc,v9,fw,wa,wb,nZ,iO,rd,d1,d2,aw,c1,b6,ah,bT]
 obtain⟨w,rfl⟩:∃w:Nat,who=(w:Int):=⟨who.toNat,by have:=of_decide_eq_false d1;omega⟩
 have hw:w<D E:=by have:=of_decide_eq_false d2;omega
 have Q:=nz X;have aM:=Q.hV;have eG:=Q.qR;rw[ad ⟨rfl,by omega,by omega⟩,iY]
 have cJ:=aok E cs w;have eC:=agf E mW;simp only[go_sem,go_sem_proc,v9,fw,wa,wb,nZ,iO,rd,d1,d2,eC,cJ,ah,bT];refine aDM T E cs Q w (some (0,[.I (.int .i64 0),.nil,.I (.int .i64 0),.nil])) 0 _ _ ?_ ?_ ?_ ?_ ?_ ?_ ?_ ?_ ?_ ?_ ?_ ?_
 all_goals first|(intro xp bX g dN eD gR gS iK js xB Kg)|(simp only[dv,cx,if_false,if_true];done)|(simp only[dv,cx,if_false,if_true];rfl)|(simp only[a5,cx,if_false,if_true];done)|(simp only[a5,cx,if_false,if_true];rfl)|skip
 rw[GG] at xB;have kr:=D8 E cs w;have fC:=kt (n:=5) hO xB;have ON:=λ(K:bg->Prop) (st:bg)=>k6 (K:=K) (st:=st) hO 8 221034 0 (hC E cs w);have nI:=λ(K:bg->Prop) (st:bg)=>k6 (K:=K) (st:=st) yM 10 221048 g (fa cs w);rw[kr] at fC ON;have ho:=aDK (hC E cs w) ⟨by omega,by omega⟩
 have yB:=aDJ (l:=hC E cs w) (by omega) 1000000000000000;have xO:(fa cs w).length<=D cs:=mO _ _;rcases wW:y8 E cs w
 ·have adF:((hC E cs w).all λx=>decide (x<=1000000000000000))=false:=wW;rw[adF,cp] at yB;rw[ag (by decide)];generalize hC E cs w=xC at *;simp only[go_sem,go_sem_proc,v9,fw,wa,wb,nZ,iO,dN,eD,gR,gS,iK,js,xB,Kg,fC,ho,yB,GP,m5,scalar,aw,c1,b6];repeat' (first|refine al ?_ ?_|fail)<;>intro h<;>simp only[h,go_sem,go_sem_proc,v9,fw,wa,wb,nZ,iO,dN,eD,gR,gS,iK,js,xB,Kg,fC,ho,yB,GP,m5,scalar,aw,c1,b6]
 ·have adF:((hC E cs w).all λx=>decide (x<=1000000000000000))=true:=wW;rw[adF,bT] at yB;rw[ad rfl];have Ac:=adA Q wW;have rL:=an6 (hC E cs w) (fa cs w) ⟨by omega,by omega,λ_=>Ac⟩
  unfold y7 at rL;rw[ad Ac.right] at rL;have hr:(mT (hC E cs w) (fa cs w))[w]?=some (aq ((ak (hC E cs w) (fa cs w)).ct w)):=p9 _ (by omega);rw[Ke Q] at hr;have aDO:=T6 Q (l:=cf cs w) (λc H=>(tr.1 H).1) (by have:=GS cs w;omega);have LW:df (hX cs w):=lT (by unfold hX;omega) (by unfold hX;omega);have cE:=aoh LW;have jq:eJ 29 ((hX cs w:Int):Rat):=tn (by unfold hX;omega);have iL:=DW Ac (i:=w) (by omega);rw[Ke Q] at iL;have cS:=Sx (je jq (by omega)) (je iL (by omega)) (xg jq (uH iL) (by omega));have hle:((hX cs w:Int):Rat)-((ak E cs).saved w).ct w=oV E cs w:=by rw[adB Q];rfl
  rw[hle] at cS;have dU:=aoh xn;have oB:(aq (oV E cs w)).1.1=(oV E cs w).num.sign:=rfl;have wc:decide ((oV E cs w).num.sign<0)=decide (oV E cs w<0):=SX;have jz:=@aoi (oV E cs w);have kJ:=@aoj (oV E cs w);unfold GV;generalize mT (hC E cs w) (fa cs w)=Ci at *;generalize oU (hC E cs w) (fa cs w)=xy at *;generalize (ak (hC E cs w) (fa cs w)).jv.map qV=FD at *;generalize hC E cs w=xC at *;generalize oV E cs w=cz at *;have a2:aq 0=aq ((0:Int):Rat):=rfl;have aC:(cz<0->aq (pos cz)=aq ((0:Int):Rat))/\(¬ cz<0->aq (pos cz)=aq cz):=⟨λh=>by rw[jz h,a2],λh=>by rw[kJ h]⟩
  generalize aq (pos cz)=PL at *;generalize aq ((0:Int):Rat)=nW at *;generalize aq ((hX cs w:Int):Rat)=a0 at *;generalize aq (((ak E cs).saved w).ct w)=bD at *;generalize aDP:aq cz=EL at *;generalize cz.num.sign=se at *;obtain⟨⟨p1,p2⟩,⟨JH,JI⟩⟩:=a0;obtain⟨⟨dh,dC⟩,⟨ji,m9⟩⟩:=bD;obtain⟨⟨dr,aa⟩,⟨bo,bH⟩⟩:=EL;obtain⟨⟨jq,iL⟩,⟨n2,sC⟩⟩:=nW;dsimp only at oB;subst oB;simp only[aw] at cE cS dU;rcases q:decide (cz<0)
  ·rw[q] at wc;rw[aC.2 (of_decide_eq_false q)];simp only[go_sem,go_sem_proc,v9,fw,wa,wb,nZ,iO,dN,eD,gR,gS,iK,js,xB,Kg,fC,ho,yB,ON,nI,rL,hr,cE,cS,dU,wc,GP,m5,scalar,aw,ah,aW,bne,beq_self_eq_true,bT];repeat' (first|refine al ?_ ?_|fail)<;>intro h<;>simp only[h,go_sem,go_sem_proc,v9,fw,wa,wb,nZ,iO,dN,eD,gR,gS,iK,js,xB,Kg,fC,ho,yB,ON,nI,rL,hr,cE,cS,dU,wc,GP,m5,scalar,aw,ah,aW,bne,beq_self_eq_true,bT]
  ·rw[q] at wc;rw[aC.1 (of_decide_eq_true q)];simp only[go_sem,go_sem_proc,v9,fw,wa,wb,nZ,iO,dN,eD,gR,gS,iK,js,xB,Kg,fC,ho,yB,ON,nI,rL,hr,cE,cS,dU,wc,GP,m5,scalar,aw,ah,aW,bne,beq_self_eq_true,bT];repeat' (first|refine al ?_ ?_|fail)<;>intro h<;>simp only[h,go_sem,go_sem_proc,v9,fw,wa,wb,nZ,iO,dN,eD,gR,gS,iK,js,xB,Kg,fC,ho,yB,ON,nI,rL,hr,cE,cS,dU,wc,GP,m5,scalar,aw,ah,aW,bne,beq_self_eq_true,bT]
theorem adG {n:Int}(h:df n):Sn [.int .i64 n]=some (.same (.agg (aw (aq (n:Rat))))):=ayI n h
theorem adH {x y:Rat}(M:dX x)(ao:dX y):MF [.agg (aw (aq x)),.agg (aw (aq y))]=some (.same (.bool (decide (x=y)))):=by
 have G:=lP M;have J:=lP ao;have h:=ah0 (aq x).1.1 (aq x).1.2 (aq x).2.1 (aq x).2.2 (aq y).1.1 (aq y).1.2 (aq y).2.1 (aq y).2.2 ⟨G.1,G.2,J.1,J.2⟩
 have e:FI (((aq x).1.1,(aq x).1.2),((aq x).2.1,(aq x).2.2)) (((aq y).1.1,(aq y).1.2),((aq y).2.1,(aq y).2.2))=decide (x=y):=by
  show decide (aq x=aq y)=_
  by_cases hf:x=y
  ·rw[jw hf,hf];exact jw rfl
  ·rw[kY hf];exact kY λh=>hf (QE h)
 rw[e] at h;exact h
def ko:List aB:=[(0,1,0,30),(1,-1,0,25)]
abbrev T7:Unit->List Data:=λ(_:Unit)=>[]
def adI:=cy T7 λ(_:Unit)=>some (.same (.Y (ko.map bw)))
theorem aol:∀a b,T7 a=T7 b->a=b:=by
  intro _ _ _;rfl
@[go_sem] theorem aDQ :adI []=some (.same (.Y (ko.map bw))):=cF aol ()
theorem aDR (T:bm)  :WP T abC (.same (.Y (ko.map bw))) []:=by
 refine cH ?_;simp only[abC];refine a1 ?_;repeat' (intro h<;>simp only[h,go_sem,go_sem_proc,ko,bw,eI,b6]<;>try refine al ?_ ?_)
theorem T8 {a:Int}(aj:0<=a)(h:a<=100):e5 [a,0] ko:=by
 refine⟨hB.2 ⟨by simp,by decide,λx M=>?_,λc H=>?_⟩,by simp,by decide,by decide⟩
 ·simp at M;rcases M with rfl|rfl<;>omega
 ·simp[ko] at H;rcases H with rfl|rfl<;>simp
theorem adJ {E:List Int}{cs:List aB}(Q:e5 E cs){w:Nat}(hw:w<D E)(hm:y8 E cs w=true){g:Rat}{q:Int}(bq:(ak (hC E cs w) (fa cs w)).ct w=g)(bF:pos (((hX cs w:Int):Rat)-g)=(q:Rat)):v8 E cs w=.cB [.agg (aw (aq (q:Rat))),.int .i64 0]:=by
 unfold v8;rw[ad ⟨Q.right,by omega,by omega⟩,iY,ad hm]
 unfold GV oV;rw[<-Ke Q,bq,<-adB Q,bF]
theorem aDS:Ea [.Y (([10,0]:List Int).map ae),.Y (ko.map bw),.int .i64 0]=some (.same (.cB [.agg (aw (aq ((20:Int):Rat))),.int .i64 0])):=by
 have Q:=T8 (a:=10) (by decide) (by decide);have h:=OM [10,0] ko ((0:Nat):Int) ⟨by decide,by decide,λ_=>Q⟩
 have e:ak (hC [10,0] ko 0) (fa ko 0)=da:=by
  unfold da;rw[show hC [10,0] ko 0=[10,30] by decide,show fa ko 0=[(1,-1,0,25)] by decide]
 rw[adJ (w:=0) Q (by decide) (by decide) (g:=10) (q:=20) (by rw[e];exact aDC) (by rw[show hX ko 0=30 by decide];decide +kernel)] at h;exact h
theorem aDT:Ea [.Y (([10,0]:List Int).map ae),.Y (ko.map bw),.int .i64 1]=some (.same (.cB [.agg (aw (aq ((15:Int):Rat))),.int .i64 0])):=by
 have Q:=T8 (a:=10) (by decide) (by decide);have h:=OM [10,0] ko ((1:Nat):Int) ⟨by decide,by decide,λ_=>Q⟩
 have e:ak (hC [10,0] ko 1) (fa ko 1)=bj:=by
  unfold bj;rw[show hC [10,0] ko 1=[10,0] by decide,show fa ko 1=[(0,1,0,30)] by decide]
 rw[adJ (w:=1) Q (by decide) (by decide) (g:=10) (q:=15) (by rw[e];exact aDE) (by rw[show hX ko 1=25 by decide];decide +kernel)] at h;exact h
theorem aDU:Ea [.Y (([30,0]:List Int).map ae),.Y (ko.map bw),.int .i64 1]=some (.same (.cB [.agg (aw (aq ((0:Int):Rat))),.int .i64 0])):=by
 have Q:=T8 (a:=30) (by decide) (by decide);have h:=OM [30,0] ko ((1:Nat):Int) ⟨by decide,by decide,λ_=>Q⟩
 have e:ak (hC [30,0] ko 1) (fa ko 1)=bJ:=by
  unfold bJ;rw[show hC [30,0] ko 1=[30,0] by decide,show fa ko 1=[(0,1,0,30)] by decide]
 rw[adJ (w:=1) Q (by decide) (by decide) (g:=30) (q:=0) (by rw[e];exact aDF) (by rw[show hX ko 1=25 by decide];decide +kernel)] at h;exact h
theorem aDV:Ea [.Y (([10,0]:List Int).map ae),.Y (ko.map bw),.int .i64 2]=some (.same (.cB [.agg (aw c1),.int .i64 1])):=by
 have Q:=T8 (a:=10) (by decide) (by decide);have h:=OM [10,0] ko 2 ⟨by decide,by decide,λ_=>Q⟩
 have e:v8 [10,0] ko 2=.cB [.agg (aw c1),.int .i64 1]:=ag (by decide);rw[e] at h;exact h
def adK:=cy T7 λ(_:Unit)=>some (.same (.bool true))
@[go_sem] theorem aDW :adK []=some (.same (.bool true)):=cF aol ()
theorem aDX (T:bm)(aDY:T HV=aO adI)(Kh:T CT=aO Ea)(aDZ:T LD=aO Sn)(Ki:T EP=aO MF):WP T abA (.same (.bool true)) []:=by
 refine cH ?_;simp only[abA];have ej:=aDQ;have cL:=aDS;have dN:=aDT;have eo:=aDU;have gh:=aDV;have i20:df 20:=lT (by omega) (by omega);have i15:df 15:=lT (by omega) (by omega);have h0:=adG i20;have iE:=adG i15;have nh:=adG xn;have s1:=adH (n3 i20) (n3 i20);have s2:=adH (n3 i15) (n3 i15);have bY:=adH (n3 xn) (n3 xn);rw[jw rfl] at s1 s2 bY;generalize aq ((20:Int):Rat)=A at *;generalize aq ((15:Int):Rat)=B at *;generalize aq ((0:Int):Rat)=nW at *;generalize ko=tw at *;obtain⟨⟨cE,cS⟩,⟨dU,eN⟩⟩:=A;obtain⟨⟨c0,et⟩,⟨gN,hz⟩⟩:=B;obtain⟨⟨jq,iL⟩,⟨n2,sC⟩⟩:=nW;simp only[eI,b6,ae,aw,c1] at cL dN eo gh h0 iE nh s1 s2 bY;refine a1 ?_;repeat' (intro h<;>simp only[h,go_sem,go_sem_proc,aDY,Kh,aDZ,Ki,ej,cL,dN,eo,gh,h0,iE,nh,s1,s2,bY,beq_self_eq_true]<;>try refine al ?_ ?_)
theorem aD0 (n:Nat):(en n [R.I (.bool false)]).flatten=(en n false).map hi:=by
 induction n with
 |zero=>rfl
 |succ n aH=>rw[tN,List.flatten_cons,aH,tN];rfl
def adL:=cy DV λ(E,cs)=>cT (v5 E cs) (.same (y7 E cs))
@[go_sem] theorem aD1 (E:List Int)(cs:List aB)(H:v5 E cs):adL [.Y (E.map ae),.Y (cs.map bw)]=some (.same (y7 E cs)):=(cF Jy (E,cs)).trans (cY H _)
theorem aD2 (T:bm)(kX:T LN=aO Su)(qi:T PV=vA SQ)(gu:T q8=aO yN)(gG:T r6=aO yO)(gm:T wM=aO Af)(n4:T LO=aO N7)(qj:T PW=aO S2)(E:List Int)(cs:List aB)(H:v5 E cs):WP T vQ (.same (y7 E cs)) [.I (.Y (E.map ae)),.I (.Y (cs.map bw))]:=by
 refine cH ?_;simp only[vQ];obtain⟨mW,iv,nz⟩:=H;unfold y7;rcases X:g9 E cs
 ·rw[ag (by decide)];simp only[go_sem,go_sem_proc,kX,qi,gu,gG,gm,n4,qj,X,cp];repeat' (first|refine al ?_ ?_|fail)<;>intro h<;>simp only[h,go_sem,go_sem_proc,kX,qi,gu,gG,gm,n4,qj,X,cp]
 ·rw[ad rfl];have Q:=nz X;have aM:=Q.hV;have DD:(D E*1<=140737488355328)=True:=eq_true (by omega);have aD3:(1*D E<=140737488355328)=True:=eq_true (by omega);have w9:(D E<=maxLen)=True:=eq_true (by unfold maxLen;omega);have adl:(D E<=140737488355328)=True:=eq_true (by omega);have a2:=aD0 (D E);simp only[go_sem,go_sem_proc,kX,qi,gu,gG,gm,n4,qj,X,DD,aD3,w9,adl,a2,bT,ah,Nat.one_mul];refine N1 (kc:=261029) (g:=0) (off:=0) (cs:=[.I (.Y (E.map ae)),.I (.Y (cs.map bw)),.nil,.ref 261027 0 1 0 (D E),.I (.bool false)]) (by simp only[br,dv,if_true]) (by dsimp only;exact j2) rfl (by decide) ?_;simp only[go_sem,go_sem_proc,kX,qi,gu,gG,gm,n4,qj];refine N1 (kc:=261006) (g:=0) (off:=0) (cs:=[.nil,.nil,.nil]) (by simp only[br,dv,cx,if_false,if_true]) (by simp only[a5,cx,if_false,if_true]) rfl (by decide) ?_;simp only[go_sem,go_sem_proc,kX,qi,gu,gG,gm,n4,qj,kP,s9]
  refine c9 [0,1,4,6,7] [261004,261006,261027,261117] (λ((i,g):Nat×Nat) tm m=>i<=D E/\tm 8=.I (.int .i64 i)/\m 261029=some (0,[.I (.Y (E.map ae)),.I (.Y (cs.map bw)),.ref 261042 g 1 0 i,.ref 261027 0 1 0 (D E),.I (.bool false)])/\m 261042=some (g,aS ae (en i 10))/\∀k:Nat,k/1000≠261->m k=none) (λ(i,_)=>D E-i) (0,0) (by
   refine⟨by omega,rfl,by simp[a5],by simp[a5];rfl,λk L=>?_⟩
   have mS:∀(j:Nat),j/1000=261->k≠j:=λj J h=>L (h ▸ J)
   repeat rw[de (mS _ (by decide))]
   rfl) ?_
  intro vs ms aK aF;simp only[go_sem,go_sem_proc,kX,qi,gu,gG,gm,n4,qj,ah] at aK aF;subst aK aF;rintro⟨i,g⟩ tm m L hm ⟨U,dg,jG,T9,hE⟩;simp only[go_sem,go_sem_proc,kX,qi,gu,gG,gm,n4,qj,bf] at L hm;obtain⟨bu,ay,bL,bj,bJ⟩:=L;obtain⟨gf,fW,B2,mv⟩:=hm;rcases dk (i<D E) with av|b4
  ·have d1:decide ((i:Int)<(D E:Int))=true:=c5;have bl:=eu (i:=i) (by omega);have cg:(en i (10:Int)).length=i:=yC;have cW:=ka hO (λ_=>rfl) 261042 g 8 (en i (10:Int)) 10 (cs:=[.I (.int .i64 10)]) rfl (by omega) (by omega);rw[cg,<-anA] at cW;simp only[go_sem,go_sem_proc,kX,qi,gu,gG,gm,n4,qj,bu,ay,bL,bj,bJ,dg,gf,fW,B2,mv,jG,T9,d1,bl,cW,ah,kP,s9];repeat' (first|refine al ?_ ?_|fail)<;>intro h<;>simp only[h,go_sem,go_sem_proc,kX,qi,gu,gG,gm,n4,qj,bu,ay,bL,bj,bJ,dg,gf,fW,B2,mv,jG,T9,d1,bl,cW,ah,kP,s9]
   refine⟨(i+1,g+1),by dsimp only;omega,by dsimp only;omega,rfl,rfl,rfl,λk L=>?_⟩
   have mS:∀(j:Nat),j/1000=261->k≠j:=λj J h=>L (h ▸ J);rw[ag (mS 261029 (by decide)),ag (mS 261042 (by decide))];exact hE k L
  ·have d1:decide ((i:Int)<(D E:Int))=false:=cu;obtain rfl:i=D E:=by omega
   have Eu:(en (D E) (10:Int))=bx (D E) λ_=>((10:Nat):Int):=Oa yC λi U=>by rw[List.getElem?_replicate,ad U];rfl
   have cg:(en (D E) false).length=D E:=yC;have jg:(bx (D E) λ_=>((10:Nat):Int)).length=D E:=gn _ _;rw[Eu,<-GG] at T9;simp only[go_sem,go_sem_proc,kX,qi,gu,gG,gm,n4,qj,bu,ay,bL,bj,bJ,dg,d1,ah];refine aDg T qi gu gG gm n4 E cs Q g 0 _ _ ?_ ?_ ?_ ?_ ?_ gf ⟨⟨en (D E) false,cg,⟨?_,?_,?_⟩⟩,⟨.nil,?_⟩,?_,hE,λ_ _=>rfl,Reach.start Q.ok,⟨10*D E,?_,rfl,rfl⟩⟩ ?_
   all_goals first|(intro xp bX gP cL gh eD ja js Ch)|(simp only[dv,cx,if_false,if_true,bu,ay,bL,bj,bJ];done)|skip
   ·rw[jg,cg];exact jG
   ·exact T9
   ·exact B2
   ·exact fW
   ·exact mv
   ·rw[abL];exact cI _
   have aK3:(ak E cs).jv.length<=50:=by
    have:=TV (ak E cs) (10*(ak E cs).n) λ_=>10;have e:(ak E cs).n=D E:=rfl;unfold Day.jv;omega
   replace js:bX 261006=some (0,[.I (.Y ((mT E cs).map aw)),.nil,.ref 261117 gP 1 0 (ak E cs).jv.length]):=js;simp only[go_sem,go_sem_proc,kX,qi,gu,gG,gm,n4,qj,cL,gh,eD];refine N1 (kc:=261006) (g:=0) (off:=0) (cs:=[.I (.Y ((mT E cs).map aw)),.nil,.ref 261117 gP 1 0 (ak E cs).jv.length]) eD js rfl (by decide) ?_;simp only[go_sem,go_sem_proc,kX,qi,gu,gG,gm,n4,qj,cL,gh,eD,kP,s9];refine aDu T qj E cs Q (.ref 261117 gP 1 0 (ak E cs).jv.length) (cA bX 261172) (some (0,[.nil,.nil,.nil])) (some (gP,aS qV (ak E cs).jv)) _ _ ?_ ?_ ?_ ?_ ?_ ?_ ?_ ?_ ?_
   all_goals first|(intro ais g4 ji gh eD ja js Ch T4)|(simp only[dv,cx,if_false,if_true,cL,gh,eD];done)|skip
   ·rw[de (by decide),de (by decide)];exact ja
   ·rw[j2];rfl
   ·rw[de (by decide),de (by decide)];exact Ch
   ·rw[de (by decide),j2];rfl
   generalize mT E cs=Ci at *;generalize oU E cs=xy at *;generalize (ak E cs).jv=v7 at *;simp only[go_sem,go_sem_proc,kX,qi,gu,gG,gm,n4,qj,gh,eD];refine SB (kc:=261006) (gc:=0) (off:=0) (cc:=[.I (.Y (Ci.map aw)),.ref 261172 ji 4 0 (D xy),.ref 261117 gP 1 0 (D v7)]) (k:=261172) (g:=ji) (sz:=4) (o:=0) (len:=D xy) (cs:=aS aw xy) (d:=.Y (xy.map aw)) ?_ js rfl T4 (HH _ _) (by decide) (kt (n:=0) jS T4) ?_
   ·exact eD
   simp only[go_sem,go_sem_proc,kX,qi,gu,gG,gm,n4,qj,gh,eD,kP,s9]
   have aom:∀bD,(a5 (kill g4 261172) 261006 0 [.I (.Y (Ci.map aw)),.I (.Y (xy.map aw)),.ref 261117 gP 1 0 (D v7)]) 261117=bD↔g4 261117=bD:=λbD=>by
    rw[de (by decide)];unfold kill;rw[de (by decide)]
   refine SB (kc:=261006) (gc:=0) (off:=0) (cc:=[.I (.Y (Ci.map aw)),.I (.Y (xy.map aw)),.ref 261117 gP 1 0 (D v7)]) (k:=261117) (g:=gP) (sz:=1) (o:=0) (len:=D v7) (cs:=aS qV v7) (d:=.Y (v7.map qV)) ?_ (by dsimp only;exact j2) rfl ((aom _).2 Ch) (HH _ _) (by decide) (kt (n:=0) TW ((aom _).2 Ch)) ?_
   ·exact eD
   simp only[go_sem,go_sem_proc,kX,qi,gu,gG,gm,n4,qj,gh,eD,ja,kP,s9];repeat' (first|refine al ?_ ?_|fail)<;>intro h<;>simp only[h,go_sem,go_sem_proc,kX,qi,gu,gG,gm,n4,qj,gh,eD,ja,kP,s9]


def adM:b1:=cq 84 3 [.cell 6 4 true,.t 7] (O [(ar 6 (.alloc 264006 [(Z 0),.nil,(Z 0),.nil])),ba 7 0] (.seq (O [F 19 0,F 20 1,(b2 21 LN 19 20),fu 22 21,F 23 22,⟨some 24,some (23,false),.b8 (.t 2)⟩,⟨some 25,some (23,false),.bin .lss (.t 24) (.c (Z 0))⟩,c6 26 23 25,F 27 26,⟨some 28,some (27,false),.b8 (.t 2)⟩,⟨some 29,some (27,false),.b8 (.t 0)⟩,⟨some 30,some (27,false),.len (.t 29)⟩,⟨some 31,some (27,false),.bin .geq (.t 28) (.t 30)⟩,c6 32 27 31] (aQ 32 (O [(ar 33 (.build [(Z 0),.nil,(Z 0),.nil] [])),aT 4 6 33,ba 7 1] .ret) .skip)) (O [F 35 0,F 36 1,F 37 2,(q9 38 V9 35 36 37),F 34 38,a6 39 0 34,a6 40 1 34,a6 41 2 34,F 8 39,F 9 40,F 10 41] (.seq (O [F 42 10,fu 43 42] (aQ 43 (O [(ar 44 (.build [(Z 0),.nil,(Z 0),.nil] [])),aT 4 6 44,ba 7 6] .ret) .skip)) (O [F 46 8,F 47 9,(b2 48 V7 46 47),F 45 48,a6 49 0 45,a6 50 1 45,(ar 11 (.alloc 264011 [.nil,.nil,.nil])),aT 3 11 49,F 12 50] (.seq (O [F 51 12,a7 52 .neq 51 0] (aQ 52 (O [(ar 53 (.build [(Z 0),.nil,(Z 0),.nil] [])),aT 4 6 53,ba 7 6] .ret) .skip)) (O [F 55 1,F 56 2,(b2 57 Wa 55 56),(ar 58 (.call wG [(.t 57),(.c (Z 1))])),F 54 58,a6 59 0 54,a6 60 1 54,(ar 13 (.alloc 264013 [(Z 0),.nil,(Z 0),.nil])),aT 4 13 59,F 14 60] (eT [aY 62 4 13,aI 63 0 11,aG 64 1 63,F 65 2,bI 66 4 64 65,aY 67 4 66,(b2 68 x0 62 67),F 61 68,a6 69 0 61,a6 70 1 61,(ar 15 (.alloc 264015 [(Z 0),.nil,(Z 0),.nil])),aT 4 15 69,F 16 70] [[],[],[],[],[],[],[],[],[],[],[0,2,5],[],[]] (.seq (O [F 71 16,a7 72 .neq 71 0] (aQ 72 (O [(ar 73 (.build [(Z 0),.nil,(Z 0),.nil] [])),aT 4 6 73,ba 7 6] .ret) .skip)) (.seq (O [aI 74 0 15,aI 75 0 74,aG 76 1 75,a7 77 .lss 76 0] (aQ 77 (O [(ar 79 (.call wG [(.c (Z 0)),(.c (Z 1))])),F 78 79,a6 80 0 78,a6 81 1 78,(ar 17 (.alloc 264017 [(Z 0),.nil,(Z 0),.nil])),aT 4 17 80,F 18 81] (O [aY 82 4 17,aT 4 6 82,ba 7 0] .ret)) .skip)) (O [aY 83 4 15,aT 4 6 83,ba 7 0] .ret)))))))))))
def OO:b1:=cq 65 3 [.t 6,.t 7,.t 8] (O [ec 6,ec 7,dd 8 false] (O [(ar 14 (.eL 275014 true [] 1 0 [])),F 15 0,(ar 16 (.app 275016 [(Z 0)] 8 (.t 14) (.t 15))),F 9 16] (O [ec 10] (.seq (O [ba 11 0] (.block 0 (.ghost (.nn 10 275034 4) (.loop  (.seq (O [F 17 11,F 18 1,cC 19 18,bA 20 .lss 17 19] (aQ 20 .skip (.exit 0))) (.seq (.block 1 (O [F 23 1,F 24 11,bI 25 4 23 24,aY 26 4 25,(ar 12 (.alloc 275012 [(Z 0),(Z 0),(Z 0),(Z 0)])),aT 4 12 26] (.seq (O [aI 27 0 12,aG 28 1 27,F 29 2,bA 30 .neq 28 29] (aQ 30 (O [F 31 10,aY 32 4 12,(ar 33 (.eL 275033 false [(Z 0),(Z 0),(Z 0),(Z 0)] 4 1 [(0,4,(.t 32))])),(ar 34 (.app 275034 [(Z 0),(Z 0),(Z 0),(Z 0)] 32 (.t 31) (.t 33))),F 10 34] (.exit 1)) .skip)) (O [aI 35 1 12,aG 36 1 35,a7 37 .geq 36 0] (aQ 37 (.my [F 38 9,aI 39 1 12,aG 40 1 39,F 41 9,aI 42 1 12,aG 43 1 42,bI 44 1 41 43,aG 45 1 44,aI 46 3 12,aG 47 1 46,bA 48 .add 45 47,bI 49 1 38 40,aT 1 49 48] E0) .skip))))) (.ops [F 21 11,a7 22 .add 21 1,F 11 22]))))))) (.seq (O [ba 13 0] (.block 2 (.loop  (.seq (O [F 50 13,F 51 9,cC 52 51,bA 53 .lss 50 52] (aQ 53 .skip (.exit 2))) (.seq (.block 3 (O [F 56 9,F 57 13,bI 58 1 56 57,aG 59 1 58,a7 60 .gtr 59 1000000000000000] (aQ 60 (.seq (.ghost (.freeze 9) (.ghost (.freeze 10) (.ops [F 61 9,F 62 10,F 6 61,F 7 62,dd 8 false]))) .ret) .skip))) (.ops [F 54 13,a7 55 .add 54 1,F 13 55])))))) (.seq (.ghost (.freeze 9) (.ghost (.freeze 10) (.ops [F 63 9,F 64 10,F 6 63,F 7 64,dd 8 true]))) .ret))))))
def adN:b1:=cq 28 2 [.t 4] (O [ba 4 0] (O [ba 5 0] (.seq (O [ba 6 0] (.block 0 (.loop  (.seq (O [F 7 6,F 8 0,cC 9 8,bA 10 .lss 7 9] (aQ 10 .skip (.exit 0))) (.seq (.block 1 (O [F 13 0,F 14 6,bI 15 4 13 14,aI 16 0 15,aG 17 1 16,F 18 1,bA 19 .eql 17 18] (aQ 19 (.ops [F 20 5,F 21 0,F 22 6,bI 23 4 21 22,aI 24 3 23,aG 25 1 24,bA 26 .add 20 25,F 5 26]) .skip))) (.ops [F 11 6,a7 12 .add 11 1,F 6 12])))))) (O [F 27 5,F 4 27] .ret))))
def OP (cs:List aB):Prop:=D cs<=12/\∀c∈cs,0<=c.2.2.2/\c.2.2.2<=33554432
theorem OP.aD4 {cs:List aB}(h:OP cs)(who:Int)(i:Nat):0<=cl (cf (cs.take i) who) (λc=>c.2.2.2)/\cl (cf (cs.take i) who) (λc=>c.2.2.2)<=536870912:=by
 have az:(cf (cs.take i) who).length<=12:=by
  have G:=GS (cs.take i) who;have J:(cs.take i).length<=D cs:=by rw[fU];omega
  have:=h.1;omega
 have:=Jo (cs:=cf (cs.take i) who) (aR:=λc=>c.2.2.2) (B:=33554432) (by omega) λc H=>h.2 c (tM (tr.1 H).1);omega
abbrev adO:(List aB)×Nat->List Data:=λ(cs,who)=>[.Y (cs.map bw),.int .i64 (who:Int)]
def adP:=cy adO λ(cs,who)=>cT (OP cs) (.same (.int .i64 (hX cs who)))
theorem aD5:∀a b,adO a=adO b->a=b:=by
  rintro⟨DU,Sp⟩ ⟨u1,Sq⟩ h;simp only[bf,Data.Y.injEq,Data.int.injEq,and_true,true_and] at h;exact ei (map_inj sA _ _ h.1) (Int.ofNat.inj h.2)
@[go_sem] theorem aD6 (cs:List aB)(who:Nat)(H:OP cs):adP [.Y (cs.map bw),.int .i64 (who:Int)]=some (.same (.int .i64 (hX cs who))):=(cF aD5 (cs,who)).trans (cY H _)
theorem aD7 (T:bm)  (cs:List aB) (who:Nat) (H:OP cs):WP T adN (.same (.int .i64 (hX cs who))) [.I (.Y (cs.map bw)),.I (.int .i64 (who:Int))]:=by
 refine cH ?_;simp only[adN];have az:=H.1;simp only[go_sem,go_sem_proc,ah];refine c9 [0,1] [] (λ(i:Nat) tm mem=>i<=D cs/\tm 5=.I (.int .i64 (hX (cs.take i) who))/\tm 6=.I (.int .i64 i)) (λi=>D cs-i) 0 (by refine⟨by omega,by rw[ma];rfl,rfl⟩) ?_;intro vs ms aK aF;simp only[go_sem,go_sem_proc,ah] at aK aF;subst aK aF;rintro i tm mem L hm ⟨U,bh,bK⟩;simp only[go_sem,go_sem_proc,bf] at L;obtain⟨aj,G⟩:=L;rcases dk (i<D cs) with av|b4
 ·obtain⟨⟨au,c2,c3,c4⟩,M⟩:∃c,cs[i]?=some c:=⟨_,bB av⟩;have d1:decide ((i:Int)<(D cs:Int))=true:=c5;have bl:=eu (i:=i) (by omega);have fR:cs.take (i+1)=cs.take i++[(au,c2,c3,c4)]:=by rw[g2,M];rfl
  have c0:=H.aD4 who (i+1)
  have dq:hX (cs.take (i+1)) who=hX (cs.take i) who+if au=(who:Int) then c4 else 0:=by
   unfold hX;rw[fR,D7]
   by_cases h:au=(who:Int)
   ·have:cf [(au,c2,c3,c4)] who=[(au,c2,c3,c4)]:=by unfold cf;rw[oK (by simpa using h)];rfl
    rw[ad h,this,Aq]
   ·have:cf [(au,c2,c3,c4)] who=[]:=by unfold cf;rw[pv (by simpa using h)];rfl
    rw[ag h,this,gD,k9]
  change 0<=hX (cs.take (i+1)) who/\hX (cs.take (i+1)) who<=536870912 at c0
  rcases q:(au==(who:Int))
  ·rw[ag (by simpa using q),k9] at dq;simp only[go_sem,go_sem_proc,aj,G,bh,bK,M,d1,bl,q,bw,ah,aW];repeat' (first|refine al ?_ ?_|fail)<;>intro h<;>simp only[h,go_sem,go_sem_proc,aj,G,bh,bK,M,d1,bl,q,bw,ah,aW]
   exact⟨i+1,by omega,by omega,by rw[dq],rfl⟩
  ·rw[ad (by simpa using q)] at dq;rw[dq] at c0;have jr:IntKind.i64.wrap (hX (cs.take i) who+c4)=hX (cs.take i) who+c4:=by rw[e7 _]
   simp only[go_sem,go_sem_proc,aj,G,bh,bK,M,d1,bl,jr,q,bw,ah,aW];repeat' (first|refine al ?_ ?_|fail)<;>intro h<;>simp only[h,go_sem,go_sem_proc,aj,G,bh,bK,M,d1,bl,jr,q,bw,ah,aW]
   exact⟨i+1,by omega,by omega,by rw[dq],rfl⟩
 ·have d1:decide ((i:Int)<(D cs:Int))=false:=cu;rw[dH (by omega)] at bh;simp only[go_sem,go_sem_proc,aj,G,bh,bK,d1,ah];repeat' (first|refine al ?_ ?_|fail)<;>intro h<;>simp only[h,go_sem,go_sem_proc,aj,G,bh,bK,d1,ah]
theorem aD8 (T:bm){K:eF->bg->Prop}{kk:List fB}(E:List Int)(cs:List aB)(Q:e5 E cs)(who:Nat)(bD GW:Nat)(tm:Nat->R)(m:Mem)
  (ay:tm 1=.I (.Y (cs.map bw))) (aA:tm 2=.I (.int .i64 who)) (dz:tm 9=.ref 275014 bD 1 0 (D E)) (dY:tm 10=.ref 275034 GW 4 0 0) (h4:tm 11=.I (.int .i64 0))
  (xD:m 275014=some (bD,(bx (D E) (gp E cs who 0)).map db)) (oW:m 275034=some (GW,[]))
  (cX:∀tm' m' g,tm' 9=.ref 275014 bD 1 0 (D E)->tm' 10=.ref 275034 g 4 0 (fa cs who).length->m' 275014=some (bD,(hC E cs who).map db)->m' 275034=some (g,aS bw (fa cs who))->cj T K kk (.exit 0) ⟨tm',m'⟩) :
  wp T (OO.body.sub [1,1,1,0,1,0,0]) (cj T K kk) ⟨tm,m⟩:=by
 simp only[OO,ep.sub];have aM:=Q.hV;have eG:=Q.qR;have mm:=(hB.1 Q.right).2.2.2;refine c9 [1,2,9] [] (λ((i,g):Nat×Nat) tm m=>i<=D cs/\tm 11=.I (.int .i64 i)/\tm 10=.ref 275034 g 4 0 (fa (cs.take i) who).length/\m 275034=some (g,aS bw (fa (cs.take i) who))/\m 275014=some (bD,(bx (D E) (gp E cs who i)).map db)) (λ(i,_)=>D cs-i) (0,GW) (by refine⟨by omega,h4,?_,?_,xD⟩<;>rw[ma]<;>first|exact dY|exact oW) ?_
 intro vs ms aK aF;simp only[go_sem,go_sem_proc,ay,aA,dz] at aK aF;subst aK aF;clear ay aA dz dY h4 xD oW tm m;rintro⟨i,g⟩ tm m L-⟨U,h4,dY,oW,xD⟩;simp only[go_sem,go_sem_proc,bf] at L;obtain⟨ay,aA,dz⟩:=L;rcases dk (i<D cs) with av|b4
 ·have d1:decide ((i:Int)<(D cs:Int))=true:=c5;have bl:=eu (i:=i) (by omega);obtain⟨⟨au,c2,c3,c4⟩,M⟩:∃c,cs[i]?=some c:=⟨_,bB av⟩;have fc:=dS M;have jf:=mm _ fc;have adD:=Q.am _ fc;dsimp only at jf adD;have fR:cs.take (i+1)=cs.take i++[(au,c2,c3,c4)]:=by rw[g2,M];rfl
  have Bk:∀n,∀c∈cf (cs.take n) who,c∈cs:=λn c H=>tM (tr.1 H).1
  have kQ:∀n,(cf (cs.take n) who).length<=12:=λn=>by
   have G:=GS (cs.take n) who;have J:(cs.take n).length<=D cs:=by rw[fU];omega
   omega
  have xO:(fa (cs.take i) who).length<=12:=by
   have G:(fa (cs.take i) who).length<=(cs.take i).length:=mO _ _;have J:(cs.take i).length<=D cs:=by rw[fU];omega
   omega
  rcases ev:(au==(who:Int))
  ·have kG:cf (cs.take (i+1)) who=cf (cs.take i) who:=by
    rw[fR,D7];have:cf [(au,c2,c3,c4)] who=[]:=by unfold cf;rw[pv (by simpa using ev)];rfl
    rw[this,gD]
   have oN:fa (cs.take (i+1)) who=fa (cs.take i) who++[(au,c2,c3,c4)]:=by
    unfold fa;rw[fR,rE,oK (by simpa [bne] using ev),pt]
   have cW:=ka yM NN 275034 g 32 (fa (cs.take i) who) (au,c2,c3,c4) (cs:=[.I (.int .i64 au),.I (.int .i64 c2),.I (.int .i64 c3),.I (.int .i64 c4)]) rfl (by omega) (by omega);rw[<-oN] at cW;have bt:(fa (cs.take (i+1)) who).length=(fa (cs.take i) who).length+1:=by rw[oN,gj];rfl
   have dw:gp E cs who (i+1)=gp E cs who i:=by unfold gp;rw[kG]
   refine a1 ?_;repeat' (intro h<;>simp only[h,go_sem,go_sem_proc,ay,aA,dz,dY,h4,xD,oW,M,d1,bl,ev,cW,bw,ah,aW,bne,cp]<;>try refine al ?_ ?_)
   exact⟨(i+1,g+1),by dsimp only;omega,by dsimp only;omega,rfl,by rw[bt],rfl,by rw[dw]⟩
  ·have kG:cf (cs.take (i+1)) who=cf (cs.take i) who++[(au,c2,c3,c4)]:=by
    rw[fR,D7];have:cf [(au,c2,c3,c4)] who=[(au,c2,c3,c4)]:=by unfold cf;rw[oK (by simpa using ev)];rfl
    rw[this]
   have oN:fa (cs.take (i+1)) who=fa (cs.take i) who:=by
    unfold fa;rw[fR,rE,pv (by simpa [bne] using ev),pt,gD]
   rcases gg:decide (c2>=0)
   ·have dw:(bx (D E) (gp E cs who (i+1)))=bx (D E) (gp E cs who i):=h6 λj _=>by
     unfold gp;have:eX j (au,c2,c3,c4)=0:=by unfold eX;rw[ag (by dsimp only;have:=of_decide_eq_false gg;omega)]
     rw[kG,Aq,this,k9]
    refine a1 ?_;repeat' (intro h<;>simp only[h,go_sem,go_sem_proc,ay,aA,dz,dY,h4,xD,oW,M,d1,bl,ev,gg,bw,ah,aW,bne,bT]<;>try refine al ?_ ?_)
    exact⟨(i+1,g),by dsimp only;omega,by dsimp only;omega,rfl,by rw[oN],by rw[oN],by rw[dw]⟩
   ·obtain⟨t,rfl⟩:∃t:Nat,c2=(t:Int):=⟨c2.toNat,by have:=of_decide_eq_true gg;omega⟩
    have Ab:t<D E:=by omega
    have dw:(bx (D E) (gp E cs who (i+1)))=bx (D E) λj=>if j=t then gp E cs who i t+c4 else gp E cs who i j:=h6 λj _=>by
     unfold gp;rw[kG,Aq]
     by_cases ax:j=t
     ·subst ax;have:eX j (au,(j:Int),c3,c4)=c4:=by unfold eX;rw[ad rfl]
      rw[ad rfl,this];omega
     ·have:eX j (au,(t:Int),c3,c4)=0:=by unfold eX;rw[ag (by dsimp only;omega)]
      rw[ag ax,this,k9]
    have k5:=adz Q t (Bk i) (kQ i);have e1:=Q.E t;have B8:IntKind.i64.wrap (gp E cs who i t+c4)=gp E cs who i t+c4:=by unfold gp;rw[e7 _]
    have t1:=Tn Ab (gp E cs who i);have t2:=To (D E) (gp E cs who i);have t3:=Tm Ab (gp E cs who i) (gp E cs who i t+c4);rw[<-dw] at t3;have dr:t+1<=D E:=by omega
    generalize aN:(bx (D E) (gp E cs who i)).map db=bV at *;generalize rV:(bx (D E) (gp E cs who (i+1))).map db=rq at *;generalize gp E cs who i t=S1 at *;refine a1 ?_;repeat' (intro h<;>simp only[h,go_sem,go_sem_proc,ay,aA,dz,dY,h4,xD,oW,M,d1,bl,B8,ev,gg,t1,t2,t3,Ab,dr,bw,cD,ah,aW,bne,bT]<;>try refine al ?_ ?_)
    exact⟨(i+1,g),by dsimp only;omega,by dsimp only;omega,rfl,by rw[oN],by rw[oN],by rw[rV]⟩
 ·have d1:decide ((i:Int)<(D cs:Int))=false:=cu;obtain rfl:i=D cs:=by omega
  have dw:bx (D E) (gp E cs who (D cs))=hC E cs who:=h6 λj _=>by unfold gp;rw[kN]
  rw[dw] at xD;rw[kN] at dY oW;refine a1 ?_;repeat' (intro h<;>simp only[h,go_sem,go_sem_proc,ay,aA,dz,dY,h4,d1,ah]<;>try refine al ?_ ?_)
  refine cX _ _ g ?_ ?_ xD oW<;>simp only[dv,cx,if_false,dz,dY]
abbrev adQ:(List Int)×(List aB)×Nat->List Data:=λ(E,cs,who)=>[.Y (E.map ae),.Y (cs.map bw),.int .i64 (who:Int)]
def adR:=cy adQ λ(E,cs,who)=>cT (e5 E cs/\who<D E) (.same (.cB [.Y ((hC E cs who).map ae),.Y ((fa cs who).map bw),.bool (y8 E cs who)]))
theorem aD9:∀a b,adQ a=adQ b->a=b:=by
  rintro⟨abG,DU,Sp⟩ ⟨abH,u1,Sq⟩ h;simp only[bf,Data.Y.injEq,Data.int.injEq,and_true,true_and] at h;exact ei (map_inj hp _ _ h.1) (ei (map_inj sA _ _ h.2.1) (Int.ofNat.inj h.2.2))
@[go_sem] theorem aEa (E:List Int)(cs:List aB)(who:Nat)(H:e5 E cs/\who<D E):adR [.Y (E.map ae),.Y (cs.map bw),.int .i64 (who:Int)]=some (.same (.cB [.Y ((hC E cs who).map ae),.Y ((fa cs who).map bw),.bool (y8 E cs who)])):=(cF aD9 (E,cs,who)).trans (cY H _)
theorem aEb (T:bm)  (E:List Int) (cs:List aB) (who:Nat) (H:e5 E cs/\who<D E):WP T OO (.same (.cB [.Y ((hC E cs who).map ae),.Y ((fa cs who).map bw),.bool (y8 E cs who)])) [.I (.Y (E.map ae)),.I (.Y (cs.map bw)),.I (.int .i64 (who:Int))]:=by
 refine cH ?_;simp only[OO];obtain⟨Q,hw⟩:=H;have aM:=Q.hV;have eG:=Q.qR;have cJ:=aok E cs who
 have cW:lr 275014 0 1 0 8 (D E) (aS ae E) (some (0,[]))=some (.ref 275014 1 1 0 (D E),some (275014,1,aS ae E)):=by
  have:=A5 hO xY 275014 0 8 [] E (by simp;omega) (by simp;omega)
  simpa [aS] using this
 have fh:(E.map ae).flatten.map R.I=aS ae E:=rfl;rw[fh] at cJ;rw[cJ] at cW;simp only[go_sem,go_sem_proc,P4,fh,cJ,cW,ah];refine aD8 T E cs Q who 1 0 _ _ ?_ ?_ ?_ ?_ ?_ ?_ ?_ ?_
 all_goals first|(intro xp bX g gS iK Ua xB)|(simp only[dv,cx,if_false,if_true];done)|(simp only[dv,cx,if_false,if_true];rfl)|(simp only[a5,cx,if_false,if_true];done)|skip
 rw[GG] at Ua;have kr:=D8 E cs who;have adS:=λ(K:bg->Prop) (st:bg)=>k6 (K:=K) (st:=st) hO 9 275014 1 (hC E cs who);have nI:=λ(K:bg->Prop) (st:bg)=>k6 (K:=K) (st:=st) yM 10 275034 g (fa cs who);rw[kr] at adS;have xO:(fa cs who).length<=D cs:=mO _ _;unfold y8;generalize hC E cs who=xC at *;generalize fa cs who=SR at *;simp only[go_sem,go_sem_proc,gS,iK,Ua,xB];refine c9 [9,10] [275014,275034] (λ(i:Nat) tm m=>i<=D xC/\tm 13=.I (.int .i64 i)/\(xC.take i).all (λx=>decide (x<=1000000000000000))=true) (λi=>D xC-i) 0 (by refine⟨by omega,rfl,by simp⟩) ?_;intro vs ms aK aF;simp only[go_sem,go_sem_proc,gS,iK,Ua,xB] at aK aF;subst aK aF;clear gS iK Ua xB bX xp;rintro i tm m L hm ⟨U,hy,dO⟩;simp only[go_sem,go_sem_proc,bf] at L hm;obtain⟨dz,dY⟩:=L;obtain⟨xD,oW⟩:=hm;rcases dk (i<D xC) with av|b4
 ·have d1:decide ((i:Int)<(D E:Int))=true:=c5;have bl:=eu (i:=i) (by omega);obtain⟨x,M⟩:∃c,xC[i]?=some c:=⟨_,bB av⟩;have t1:List.take 1 (List.drop i (aS ae xC))=[.I (.int .i64 x)]:=by rw[<-GG];exact xm (f:=db) M
  have t2:(aS ae xC).length=D E:=by rw[<-GG,ah,kr]
  have dr:i+1<=D E:=by omega
  have Cb:i<D E:=by omega
  have sO:(xC.take (i+1)).all (λx=>decide (x<=1000000000000000))=decide (x<=1000000000000000):=by
   rw[g2,M,aog,List.all_append,dO];simp
  rcases q:decide (x>1000000000000000)
  ·refine a1 ?_;repeat' (intro h<;>simp only[h,go_sem,go_sem_proc,dz,dY,hy,xD,oW,d1,bl,t1,t2,dr,Cb,q,cD]<;>try refine al ?_ ?_)
   exact⟨i+1,by omega,by omega,rfl,by rw[sO];exact jw (by have:=of_decide_eq_false q;omega)⟩
  ·have x5:xC.all (λx=>decide (x<=1000000000000000))=false:=by
    rw[aof];exact⟨x,dS M,by have:=of_decide_eq_true q;simp;omega⟩
   rw[x5];refine a1 ?_;repeat' (intro h<;>simp only[h,go_sem,go_sem_proc,dz,dY,hy,xD,oW,d1,t1,t2,dr,Cb,q,adS,nI,cD]<;>try refine al ?_ ?_)
 ·have d1:decide ((i:Int)<(D E:Int))=false:=cu;rw[dH (by omega)] at dO;rw[dO];refine a1 ?_;repeat' (intro h<;>simp only[h,go_sem,go_sem_proc,dz,dY,hy,xD,oW,d1,adS,nI]<;>try refine al ?_ ?_)
theorem aon {n:Int}(h:df n):Dn [.int .i64 n,.int .i64 1]=some (.same (.cB [.agg (aw (aq (n:Rat))),.int .i64 0])):=by
 have:=auO n 1 ⟨h,JG⟩;rw[Gp h] at this;exact this
def adT:=cy OL λ(E,cs,who)=>cT (v5 E cs) (.same (v8 E cs who))
@[go_sem] theorem aEc (E:List Int)(cs:List aB)(who:Int)(H:v5 E cs):adT [.Y (E.map ae),.Y (cs.map bw),.int .i64 who]=some (.same (v8 E cs who)):=(cF adE (E,cs,who)).trans (cY H _)
theorem aEd (T:bm)(kX:T LN=aO Su)(xE:T V9=aO adR)(xF:T V7=aO adL)(xG:T Wa=aO adP)(nG:T wG=aO Dn)(kh:T x0=aO Dq)(E:List Int)(cs:List aB)(who:Int)(H:v5 E cs):WP T adM (.same (v8 E cs who)) [.I (.Y (E.map ae)),.I (.Y (cs.map bw)),.I (.int .i64 who)]:=by
 refine cH ?_;simp only[adM];obtain⟨mW,iv,nz⟩:=H;have rd:=ay1 E cs;unfold v8;rcases X:g9 E cs
 ·rw[ag (by simp)];rw[X] at rd;simp only[go_sem,go_sem_proc,kX,xE,xF,xG,nG,kh,rd,aw,c1,b6,cp];repeat' (first|refine al ?_ ?_|fail)<;>intro h<;>simp only[h,go_sem,go_sem_proc,kX,xE,xF,xG,nG,kh,rd,aw,c1,b6,cp]
 rw[X] at rd;rcases d1:decide (who<0)
 case true =>
  rw[ag (by have:=of_decide_eq_true d1;omega)];simp only[go_sem,go_sem_proc,kX,xE,xF,xG,nG,kh,rd,d1,aw,c1,b6,bT];repeat' (first|refine al ?_ ?_|fail)<;>intro h<;>simp only[h,go_sem,go_sem_proc,kX,xE,xF,xG,nG,kh,rd,d1,aw,c1,b6,bT]
 rcases d2:decide (who>=(D E:Int))
 case true =>
  rw[ag (by have:=of_decide_eq_true d2;omega)];simp only[go_sem,go_sem_proc,kX,xE,xF,xG,nG,kh,rd,d1,d2,aw,c1,b6,ah,bT];repeat' (first|refine al ?_ ?_|fail)<;>intro h<;>simp only[h,go_sem,go_sem_proc,kX,xE,xF,xG,nG,kh,rd,d1,d2,aw,c1,b6,ah,bT]
 obtain⟨w,rfl⟩:∃w:Nat,who=(w:Int):=⟨who.toNat,by have:=of_decide_eq_false d1;omega⟩
 have hw:w<D E:=by have:=of_decide_eq_false d2;omega
 have Q:=nz X;have aM:=Q.hV;have eG:=Q.qR;rw[ad ⟨rfl,by omega,by omega⟩,iY]
 have rs:=aEa E cs w ⟨Q,hw⟩;have kr:=D8 E cs w;have xO:(fa cs w).length<=D cs:=mO _ _;rcases wW:y8 E cs w
 ·rw[ag (by decide)];rw[wW] at rs;simp only[go_sem,go_sem_proc,kX,xE,xF,xG,nG,kh,rd,d1,d2,rs,aw,c1,b6,ah,bT,cp];repeat' (first|refine al ?_ ?_|fail)<;>intro h<;>simp only[h,go_sem,go_sem_proc,kX,xE,xF,xG,nG,kh,rd,d1,d2,rs,aw,c1,b6,ah,bT,cp]
 ·rw[ad rfl];rw[wW] at rs;have Ac:=adA Q wW;have rL:=aD1 (hC E cs w) (fa cs w) ⟨by omega,by omega,λ_=>Ac⟩
  unfold y7 at rL;rw[ad Ac.right] at rL;have hr:(mT (hC E cs w) (fa cs w))[w]?=some (aq ((ak (hC E cs w) (fa cs w)).ct w)):=p9 _ (by omega);rw[Ke Q] at hr;have aDO:=T6 Q (l:=cf cs w) (λc H=>(tr.1 H).1) (by have:=GS cs w;omega);have LW:df (hX cs w):=lT (by unfold hX;omega) (by unfold hX;omega);have Ub:=aD6 cs w ⟨eG,λc H=>⟨((hB.1 X).2.2.2 c H).2.2.2.2.2.2.1,Q.am c H⟩⟩;have cE:=aon LW;have jq:eJ 29 ((hX cs w:Int):Rat):=tn (by unfold hX;omega);have iL:=DW Ac (i:=w) (by omega);rw[Ke Q] at iL;have cS:=Sw (je jq (by omega)) (je iL (by omega)) (xg jq (uH iL) (by omega));have hle:((hX cs w:Int):Rat)-((ak E cs).saved w).ct w=oV E cs w:=by rw[adB Q];rfl
  rw[hle] at cS;have dU:=aon xn;have oB:(aq (oV E cs w)).1.1=(oV E cs w).num.sign:=rfl;have wc:decide ((oV E cs w).num.sign<0)=decide (oV E cs w<0):=SX;have jz:=@aoi (oV E cs w);have kJ:=@aoj (oV E cs w);unfold GV;generalize mT (hC E cs w) (fa cs w)=Ci at *;generalize oU (hC E cs w) (fa cs w)=xy at *;generalize (ak (hC E cs w) (fa cs w)).jv.map qV=FD at *;generalize hC E cs w=xC at *;generalize fa cs w=SR at *;generalize oV E cs w=cz at *;have a2:aq 0=aq ((0:Int):Rat):=rfl;have aC:(cz<0->aq (pos cz)=aq ((0:Int):Rat))/\(¬ cz<0->aq (pos cz)=aq cz):=⟨λh=>by rw[jz h,a2],λh=>by rw[kJ h]⟩
  generalize aq (pos cz)=PL at *;generalize aq ((0:Int):Rat)=nW at *;generalize aq ((hX cs w:Int):Rat)=a0 at *;generalize aq (((ak E cs).saved w).ct w)=bD at *;generalize aDP:aq cz=EL at *;generalize cz.num.sign=se at *;obtain⟨⟨p1,p2⟩,⟨JH,JI⟩⟩:=a0;obtain⟨⟨dh,dC⟩,⟨ji,m9⟩⟩:=bD;obtain⟨⟨dr,aa⟩,⟨bo,bH⟩⟩:=EL;obtain⟨⟨jq,iL⟩,⟨n2,sC⟩⟩:=nW;dsimp only at oB;subst oB;simp only[aw] at cE cS dU;rcases q:decide (cz<0)
  ·rw[q] at wc;rw[aC.2 (of_decide_eq_false q)];simp only[go_sem,go_sem_proc,kX,xE,xF,xG,nG,kh,rd,d1,d2,rs,rL,Ub,hr,cE,cS,dU,wc,aw,ah,aW,bne,beq_self_eq_true,bT];repeat' (first|refine al ?_ ?_|fail)<;>intro h<;>simp only[h,go_sem,go_sem_proc,kX,xE,xF,xG,nG,kh,rd,d1,d2,rs,rL,Ub,hr,cE,cS,dU,wc,aw,ah,aW,bne,beq_self_eq_true,bT]
  ·rw[q] at wc;rw[aC.1 (of_decide_eq_true q)];simp only[go_sem,go_sem_proc,kX,xE,xF,xG,nG,kh,rd,d1,d2,rs,rL,Ub,hr,cE,cS,dU,wc,aw,ah,aW,bne,beq_self_eq_true,bT];repeat' (first|refine al ?_ ?_|fail)<;>intro h<;>simp only[h,go_sem,go_sem_proc,kX,xE,xF,xG,nG,kh,rd,d1,d2,rs,rL,Ub,hr,cE,cS,dU,wc,aw,ah,aW,bne,beq_self_eq_true,bT]
def adU:=cy OL λ(E,cs,who)=>some (.same (.bool true))
@[go_sem] theorem aEe (E:List Int)(cs:List aB)(who:Int):adU [.Y (E.map ae),.Y (cs.map bw),.int .i64 who]=some (.same (.bool true)):=cF adE (E,cs,who)
theorem aEf (T:bm)(Uc:T VV=aO adK)(Ud:T VT=aO abF)(Kh:T CT=aO Ea)(Ue:T V8=aO adT)(Ki:T EP=aO MF)(E:List Int)(cs:List aB)(who:Int):WP T abD (.same (.bool true)) [.I (.Y (E.map ae)),.I (.Y (cs.map bw)),.I (.int .i64 who)]:=by
 refine cH ?_;simp only[abD];have vS:=aDW;have dh:=ayO E cs;rcases aD:Ae E cs
 ·rw[aD] at dh;simp only[go_sem,go_sem_proc,Uc,Ud,Kh,Ue,Ki,vS,dh,cp];repeat' (first|refine al ?_ ?_|fail)<;>intro h<;>simp only[h,go_sem,go_sem_proc,Uc,Ud,Kh,Ue,Ki,vS,dh,cp]
 rw[aD] at dh;have eC:=aDx aD;have eS:=OM E cs who eC;have eO:=aEc E cs who eC
 have ab:∃(a:bG) (e:Int),okF a/\v8 E cs who=.cB [.agg (aw a),.int .i64 e]:=by
  unfold v8
  split
  ·rename_i h
   split
   ·rename_i J;have Q:=aoa aD h.1;exact⟨_,_,lP (je (aDI Q (who:=who.toNat) (by omega) J).2.1 (by omega)),rfl⟩
   ·exact⟨_,_,qI,rfl⟩
  ·exact⟨_,_,qI,rfl⟩
 obtain⟨⟨⟨cE,cS⟩,⟨dU,eN⟩⟩,e,bS,ab⟩:=ab;rw[ab] at eS eO;have adV:=ah0 cE cS dU eN cE cS dU eN ⟨bS.1,bS.2,bS.1,bS.2⟩;have aEg:FI ((cE,cS),(dU,eN)) ((cE,cS),(dU,eN))=true:=jw rfl;rw[aEg] at adV;simp only[aw] at eS eO;simp only[go_sem,go_sem_proc,Uc,Ud,Kh,Ue,Ki,vS,dh,eS,eO,adV,beq_self_eq_true,bT];repeat' (first|refine al ?_ ?_|fail)<;>intro h<;>simp only[h,go_sem,go_sem_proc,Uc,Ud,Kh,Ue,Ki,vS,dh,eS,eO,adV,beq_self_eq_true,bT]
end Go.Mini
namespace Go.Mini
open Go Go.Proofs
theorem aoo {P : Program}{T : bm}{kb : Nat}{own : List Nat}{α : Type}{args : α -> List Data}{res : α -> Option eM}(dy : rY P T)(hm : P.follows .mixedOrders = true){f : FuncId}{fn : Func}{mf : b1}(aD : P.funcs[f]? = some fn)(u5 : (fn.name == "runtime.NumGoroutine") = false)(bc : tI P kb own fn = some { mf with body := erase mf.body })(h : ∀ a r, res a = some r -> (args a).length <= mf.n /\ wp T mf.body (A3 mf.res r) ⟨l1 ((args a).map .I), emp⟩): r1 P f (cy args res) := afC dy hm aD u5 bc fun ds r X => by
 obtain⟨a,rfl,J⟩:=U9 X;exact h a r J
theorem mixed:Tryz.prog.follows .mixedOrders=true:=by kernel_rfl
abbrev adW:Option eM->(eM->Prop)->Prop
 |some r,aU=>aU r
 |none,_=>True
theorem dc {c:Prop}{r:eM}{aU:eM->Prop}(h:c->aU r):adW (cT c r) aU:=by
 by_cases H:c
 ·rw[cY H];exact h H
 ·have:cT c r=none:=ag H;rw[this];trivial
abbrev cG:=r1 Tryz.prog
theorem Az (mf : b1)(kb : Nat)(own : List Nat){α : Type}{args : α -> List Data}{res : α -> Option eM}{l : List (FuncId × (List Data -> Option eM))}{e : List (FuncId × (List R -> Mem -> Option hY))}(az : ∀ p ∈ l, r1 Tryz.prog p.1 p.2)(he : ∀ p ∈ e, mJ Tryz.prog p.1 p.2){f : FuncId}{fn : Func}(aD : Tryz.prog.funcs[f]? = some fn)(h : ∀ a, adW (res a) fun r => Nat.ble (args a).length mf.n = true /\ wp (yu (PE l) (Ri e)) mf.body (A3 mf.res r) ⟨l1 ((args a).map .I), emp⟩)(aM : (fn.name == "runtime.NumGoroutine", tI Tryz.prog kb own fn) = (false, some { mf with body := erase mf.body }) := by kernel_rfl): cG f (cy args res) := afC (sf (r3 az) (sg he)) mixed aD (congrArg Prod.fst aM) (congrArg Prod.snd aM) fun ds r X => by
 obtain⟨a,rfl,J⟩:=U9 X;have af:=h a;rw[J] at af;exact⟨uQ af.1,af.2⟩
theorem cV (mf : b1)(kb : Nat)(own : List Nat){α : Type}{args : α -> List Data}{res : α -> Option eM}{l : List (FuncId × (List Data -> Option eM))}(az : ∀ p ∈ l, r1 Tryz.prog p.1 p.2){f : FuncId}{fn : Func}(aD : Tryz.prog.funcs[f]? = some fn)(h : ∀ a, adW (res a) fun r => Nat.ble (args a).length mf.n = true /\ wp (yu (PE l) (Ri [])) mf.body (A3 mf.res r) ⟨l1 ((args a).map .I), emp⟩)(aM : (fn.name == "runtime.NumGoroutine", tI Tryz.prog kb own fn) = (false, some { mf with body := erase mf.body }) := by kernel_rfl): cG f (cy args res) := Az mf kb own az mK aD h aM
theorem bk {mZ:FuncId->Option (List Data->Option eM)}{uu:FuncId->Option (List R->Mem->Option hY)}{f:FuncId}{aR:List Data->Option eM}(G:uu f=none:=by rfl)(J:mZ f=some aR:=by rfl):yu mZ uu f=aO aR:=kA G J
theorem Kj:cG r5 Bc:=cV E1 177000 [] cn Tryz.func158 λa8=>dc λH=>⟨rfl,arV _  a8 H⟩
theorem Kk:mJ Tryz.prog r5 (CM wN):=Lq.ah3 (afW (mf:=E1) (kb:=177000) (own:=[]) (sf (r3 cn) (sg mK)) mixed Tryz.func158 (by kernel_rfl) (by kernel_rfl) λargs mem x h=>by
 obtain⟨a,⟨rfl,hm,az⟩,rfl⟩:=Vq h;exact⟨uQ rfl,arW _ a.l a.k a.g mem hm az⟩)
theorem aEh:cG PQ WU:=cV WB 184000 [] cn Tryz.func160 λa8=>⟨rfl,arX _  a8⟩
theorem aop:cG HT P2:=cV Wz 174000 [] (a3 aEh cn) Tryz.func113 fun⟨a8,bb⟩=>⟨rfl,arY _ bk a8 bb⟩
theorem aEi:cG VK WV:=cV WA 179000 [] cn Tryz.func161 λa8=>dc λH=>⟨rfl,ar1 _  a8 H⟩
theorem OQ:cG wK CW:=cV WJ 156000 [5] cn Tryz.func60 λa8=>dc λH=>⟨rfl,ar2 _  a8 H⟩
theorem Cj:cG mc x4:=cV Wi 136000 [] cn Tryz.func91 fun⟨a8,bb⟩=>dc λH=>⟨rfl,ar3 _  a8 bb H⟩
theorem Kl:cG qw CX:=Az Wr 158000 [] (a3 Kj cn) (qH Kk mK) Tryz.func110 fun⟨a8,bb⟩=>dc λH=>⟨rfl,ar5 _ (IQ rfl rfl) a8 bb H⟩
theorem adX:cG EV LV:=cV Wx 175000 [] (a3 aop cn) Tryz.func114 fun⟨a8,bb⟩=>dc λH=>⟨rfl,ar8 _ bk a8 bb H⟩
theorem aoq:cG Lz P7:=Az Wv 172000 [] (a3 Kj cn) (qH Kk mK) Tryz.func111 fun⟨a8,bb⟩=>dc λH=>⟨rfl,ar9 _ (IQ rfl rfl) a8 bb H⟩
theorem aor:cG HS P8:=Az Ww 173000 [10] (a3 OQ (a3 Kj cn)) (qH Kk mK) Tryz.func112 fun⟨a8,bb⟩=>dc λH=>⟨rfl,asb _ bk (IQ rfl rfl) a8 bb H⟩
theorem aos:cG HQ P9:=Az Wu 161000 [] (a3 Kj cn) (qH Kk mK) Tryz.func118 fun⟨a8,bb⟩=>dc λH=>⟨rfl,asd _ (IQ rfl rfl) a8 bb H⟩
theorem aEj:cG PO W8:=Az Wy 176000 [] (a3 Kj cn) (qH Kk mK) Tryz.func157 fun⟨a8,bb⟩=>dc λH=>⟨rfl,asf _ (IQ rfl rfl) a8 bb H⟩
theorem aEk:mJ Tryz.prog VJ (CM L1):=Lq.ah3 (afW (mf:=PZ) (kb:=178000) (own:=[]) (sf (r3 cn) (sg mK)) mixed Tryz.func159 (by kernel_rfl) (by kernel_rfl) λargs mem x h=>by
 obtain⟨a,⟨rfl,H⟩,rfl⟩:=Vq h;exact⟨uQ rfl,aso _ a mem H⟩)
theorem aot:cG Lw Qf:=Az Wq 157000 [54] (a3 adX (a3 OQ (a3 aEj (a3 Kj (a3 aos cn))))) (qH Kk (qH aEk mK)) Tryz.func109 fun⟨a8,bb⟩=>dc λH=>⟨rfl,asA _ bk bk bk (IQ rfl rfl) bk (w6 rfl rfl) a8 bb H⟩
theorem adY:cG wJ Ma:=cV Wp 155000 [] cn Tryz.func117 fun⟨a8,bb,b3⟩=>⟨rfl,as7 _  a8 bb b3⟩
theorem aou:cG HP Qw:=cV Wm 152000 [] (a3 Cj (a3 OQ (a3 Kl cn))) Tryz.func74 fun⟨a8,bb⟩=>dc λH=>⟨rfl,as8 _ bk bk bk a8 bb H⟩
theorem Uf:cG wI Is:=cV Wk 140000 [] (a3 Cj (a3 aos (a3 Kl (a3 adY cn)))) Tryz.func76 fun⟨a8,bb,b3,c7⟩=>dc λH=>⟨rfl,as9 _ bk bk bk bk a8 bb b3 c7 H⟩
theorem aEl:cG VH XA:=cV Wt 160000 [] (a3 Cj (a3 aEi (a3 aoq (a3 aor (a3 adX (a3 Kl (a3 adY cn))))))) Tryz.func116 fun⟨a8,bb,b3,c7⟩=>dc λH=>⟨rfl,ata _ bk bk bk bk bk bk bk a8 bb b3 c7 H⟩
theorem aEm:cG VF XB:=cV Wo 154000 [] (a3 Cj (a3 aop (a3 adX cn))) Tryz.func69 fun⟨a8,bb,b3,c7⟩=>dc λH=>⟨rfl,atc _ bk bk bk a8 bb b3 c7 H⟩
theorem aov:cG Lt Qx:=cV Wj 137000 [] (a3 Cj (a3 OQ (a3 aot (a3 Kl (a3 adY cn))))) Tryz.func92 fun⟨a8,bb,b3,c7⟩=>dc λH=>⟨rfl,atd _ bk bk bk bk bk a8 bb b3 c7 H⟩
theorem aow:cG ES QA:=cV Wn 153000 [] (a3 Cj (a3 aot (a3 aoq (a3 aor (a3 Kl cn))))) Tryz.func68 fun⟨a8,bb,b3,c7⟩=>dc λH=>⟨rfl,ate _ bk bk bk bk bk a8 bb b3 c7 H⟩
theorem aEn:cG PN XG:=cV Wl 150000 [] (a3 Kl cn) Tryz.func106 λa8=>dc λH=>⟨rfl,atj _ bk a8 H⟩
theorem aEo:cG VG XH:=cV Ws 159000 [] (a3 Cj cn) Tryz.func147 fun⟨a8,bb⟩=>dc λH=>⟨rfl,atm _ bk a8 bb H⟩
theorem aEp:cG Vz XV:=cV XQ 138000 [] (a3 aEo cn) Tryz.func93 fun⟨a8,bb⟩=>dc λH=>⟨rfl,atr _ bk a8 bb H⟩
theorem Eb:cG nR zK:=cV XK 116000 [] (a3 Cj (a3 aov (a3 aEp cn))) Tryz.func52 fun⟨a8,bb,b3,c7⟩=>dc λH=>⟨rfl,ats _ bk bk bk a8 bb b3 c7 H⟩
theorem aox:cG Lv QK:=cV XT 149000 [] (a3 Cj (a3 aou (a3 aov (a3 aow cn)))) Tryz.func105 fun⟨a8,bb,b3,c7⟩=>dc λH=>⟨rfl,att _ bk bk bk bk a8 bb b3 c7 H⟩
theorem Ug:cG zx Fx:=cV XM 130000 [] (a3 aEn (a3 aox cn)) Tryz.func62 fun⟨a8,bb⟩=>dc λH=>⟨rfl,atu _ bk bk a8 bb H⟩
theorem aEq:cG VA XZ:=cV XR 139000 [] (a3 Uf (a3 aEl cn)) Tryz.func75 fun⟨a8,bb,b3,c7,eV,kn,j4,jZ⟩=>dc λH=>⟨rfl,atG _ bk bk a8 bb b3 c7 eV kn j4 jZ H⟩
theorem adZ:cG ER Mm:=cV XS 141000 [] (a3 aox cn) Tryz.func77 fun⟨a8,bb,b3,c7,eV,kn⟩=>dc λH=>⟨rfl,atI _ bk a8 bb b3 c7 eV kn H⟩
theorem ad0:cG CN Fy:=cV XL 119000 [] (a3 Eb (a3 aEq (a3 Uf (a3 adZ cn)))) Tryz.func30 fun⟨a8,bb,b3,c7,eV,kn,j4,jZ⟩=>dc λH=>⟨rfl,atL _ bk bk bk bk a8 bb b3 c7 eV kn j4 jZ H⟩
theorem Uh:cG wH zN:=cV XN 132000 [] (a3 Eb (a3 aou (a3 ad0 cn))) Tryz.func29 fun⟨a8,bb,b3,c7,eV,kn,j4,jZ⟩=>dc λH=>⟨rfl,atN _ bk bk bk a8 bb b3 c7 eV kn j4 jZ H⟩
theorem ad1:cG xZ zP:=cV XO 134000 [] (a3 Eb (a3 Uf (a3 adZ cn))) Tryz.func72 fun⟨a8,bb,b3,c7,eV,kn,j4,jZ⟩=>dc λH=>⟨rfl,atP _ bk bk bk a8 bb b3 c7 eV kn j4 jZ H⟩
theorem aoy:cG EU Fz:=cV XU 169000 [] (a3 Eb (a3 Uf (a3 adZ cn))) Tryz.func73 fun⟨a8,bb,b3,c7,eV,kn,j4,jZ⟩=>dc λH=>⟨rfl,atS _ bk bk bk a8 bb b3 c7 eV kn j4 jZ H⟩
theorem Ui:cG u9 zS:=cV XP 135000 [] (a3 Eb (a3 aow (a3 aEm cn))) Tryz.func22 fun⟨a8,bb,b3,c7,eV,kn,j4,jZ⟩=>dc λH=>⟨rfl,atX _ bk bk bk a8 bb b3 c7 eV kn j4 jZ H⟩
theorem aoz:cG oq QR:=cV X8 125000 [] (a3 Eb cn) Tryz.func203 fun⟨a8,bb,b3,c7⟩=>dc λH=>⟨rfl,at3 _ bk a8 bb b3 c7 H⟩
theorem aEr:cG vc Yi:=cV Ye 234000 [] (a3 Eb cn) Tryz.func51 fun⟨a8,bb,b3,c7⟩=>dc λH=>⟨rfl,at4 _ bk a8 bb b3 c7 H⟩
theorem aEs:cG VC Yk:=cV WH 146000 [] (a3 aoz (a3 aEr cn)) Tryz.func94 fun⟨a8,bb⟩=>dc λH=>⟨rfl,at5 _ bk bk a8 bb H⟩
theorem aEt:cG Vw Yl:=cV WD 128000 [] (a3 aEs cn) Tryz.func53 fun⟨a8,bb⟩=>dc λH=>⟨rfl,at6 _ bk a8 bb H⟩
theorem aEu:cG CO Yn:=cV X9 127000 [] (a3 aoz (a3 aEt cn)) Tryz.func205 fun⟨a8,bb,b3,c7,eV,kn⟩=>dc λH=>⟨rfl,at9 _ bk bk a8 bb b3 c7 eV kn H⟩
theorem aEv:cG VB Yp:=cV WG 145000 [] (a3 aEu cn) Tryz.func210 fun⟨a8,bb⟩=>dc λH=>⟨rfl,aua _ bk a8 bb H⟩
theorem aEw:cG Vv Yq:=cV WC 126000 [] (a3 aEv cn) Tryz.func204 fun⟨a8,bb⟩=>dc λH=>⟨rfl,aub _ bk a8 bb H⟩
theorem aEx:cG Vt Yr:=cV X6 108000 [] (a3 aEw cn) Tryz.func190 fun⟨a8,bb⟩=>dc λH=>⟨rfl,aud _ bk a8 bb H⟩
theorem aEy:mJ Tryz.prog CP (Ds BH):=avb (mf:=QP) (kb:=168000) (own:=[]) (sf (r3 cn) (sg mK)) mixed Tryz.func212 (by kernel_rfl) (by kernel_rfl) Rl λargs mem r k g i d h=>by
 obtain⟨G,J,af,aP,bh⟩:=avd _ args mem r k g i d h;exact⟨G,J,af,aP,bh⟩
theorem aEz:cG Ly Rk:=cV Ya 167000 [] cn Tryz.func211 fun⟨a8,bb,b3,c7⟩=>⟨rfl,FN _  a8 bb b3 c7⟩
theorem aEA:mJ Tryz.prog VD (vA MY):=Rg (mf:=zV) (kb:=148000) (own:=[3000106,3000165,3000169]) (sf (r3 (a3 aEz (a3 aoy (a3 Uh (a3 ad1 cn))))) (sg (qH aEy mK))) mixed Tryz.func207 (by kernel_rfl) (by kernel_rfl) λargs mem bV h=>by
 obtain⟨a,rfl,⟨G,J,af,aP,bh,bK,bE⟩,rfl⟩:=avP h;exact⟨uQ rfl,avG _ (kA rfl rfl) (w6 rfl rfl) (kA rfl rfl) (kA rfl rfl) (kA rfl rfl) a.go a.N a.rows a.r a.c mem G J af aP bh bK bE⟩
theorem aEB:cG PM Rv:=cV WI 147000 [5] cn Tryz.func206 λa8=>dc λH=>⟨rfl,avR _  a8 H⟩
theorem aEC:cG Vx RB:=Az Mv 129000 [29,34] (a3 aEB cn) (qH aEA mK) Tryz.func191 fun⟨a8,bb,b3⟩=>dc λH=>⟨rfl,av6 _ bk (w6 rfl rfl) a8 bb b3 H⟩
theorem aED:cG Vu ZO:=cV X7 109000 [] (a3 aEx (a3 aEC cn)) Tryz.func172 fun⟨a8,bb⟩=>dc λH=>⟨rfl,awc _ bk bk a8 bb H⟩
theorem aEE:cG VI ZU:=cV ZS 171000 [] cn Tryz.func202 λa8=>dc λH=>⟨rfl,awf _  a8 H⟩
theorem aEF:cG VE ZV:=cV ZR 151000 [] (a3 aEE cn) Tryz.func189 λa8=>dc λH=>⟨rfl,awg _ bk a8 H⟩
theorem aEG:cG Vy ZY:=cV WE 131000 [] (a3 aEF cn) Tryz.func171 fun⟨a8,bb,b3,c7,eV⟩=>dc λH=>⟨rfl,awq _ bk a8 bb b3 c7 eV H⟩
theorem OR:cG va Di:=cV YA 183000 [18] cn Tryz.func175 λa8=>dc λH=>⟨rfl,auf _  a8 H⟩
theorem Uj:cG vb IE:=cV YD 187000 [] cn Tryz.func176 fun⟨a8,bb⟩=>dc λH=>⟨rfl,aui _  a8 bb H⟩
theorem ad2:cG CR IH:=cV YB 185000 [] (a3 Uj cn) Tryz.func151 fun⟨a8,bb⟩=>dc λH=>⟨rfl,auj _ bk a8 bb H⟩
theorem aoA:cG LB QZ:=cV Yy 181000 [] (a3 Uj (a3 OR cn)) Tryz.func154 fun⟨a8,bb⟩=>dc λH=>⟨rfl,auk _ bk bk a8 bb H⟩
theorem ad3:cG CQ My:=cV Yz 182000 [] (a3 Uj (a3 OR cn)) Tryz.func155 fun⟨a8,bb⟩=>dc λH=>⟨rfl,aul _ bk bk a8 bb H⟩
theorem aoB:cG EW Mz:=cV YC 186000 [] (a3 Uj (a3 OR cn)) Tryz.func153 fun⟨a8,bb⟩=>dc λH=>⟨rfl,aum _ bk bk a8 bb H⟩
theorem aoC:cG LA Q1:=cV Mw 180000 [26] (a3 OR (a3 aoB (a3 ad2 (a3 ad3 cn)))) Tryz.func148 fun⟨a8,bb⟩=>dc λH=>⟨rfl,aut _ bk bk bk bk a8 bb H⟩
theorem Km:cG qx Dl:=cV Yx 166000 [] (a3 OR cn) Tryz.func149 fun⟨a8,bb⟩=>dc λH=>⟨rfl,auv _ bk a8 bb H⟩
theorem Ck:cG md yr:=cV Yt 162000 [] cn Tryz.func95 fun⟨a8,bb⟩=>dc λH=>⟨rfl,auw _  a8 bb H⟩
theorem aoD:cG HR Q4:=cV Yu 163000 [] (a3 Ck (a3 Km cn)) Tryz.func156 fun⟨a8,bb⟩=>dc λH=>⟨rfl,auy _ bk bk a8 bb H⟩
theorem aoE:cG HO Q5:=cV Ys 144000 [] (a3 Km cn) Tryz.func98 λa8=>dc λH=>⟨rfl,auz _ bk a8 H⟩
theorem aEH:cG VS YV:=cV YJ 210000 [] cn Tryz.func150 fun⟨a8,bb,b3,c7⟩=>dc λH=>⟨rfl,auB _  a8 bb b3 c7 H⟩
theorem aoF:cG EY Q6:=cV YI 209000 [] cn Tryz.func152 fun⟨a8,bb⟩=>⟨rfl,auC _  a8 bb⟩
theorem aoG:cG LC Q7:=cV YG 205000 [] (a3 Ck (a3 aEH (a3 ad2 cn))) Tryz.func97 fun⟨a8,bb,b3,c7⟩=>dc λH=>⟨rfl,auE _ bk bk bk a8 bb b3 c7 H⟩
theorem aoH:cG Lx Q8:=cV Yv 164000 [] (a3 Ck (a3 aoC (a3 Km cn))) Tryz.func96 fun⟨a8,bb,b3,c7⟩=>dc λH=>⟨rfl,auF _ bk bk bk a8 bb b3 c7 H⟩
theorem ad4:cG x1 ME:=cV YE 202000 [] (a3 Ck (a3 aoB (a3 Km (a3 aoF cn)))) Tryz.func99 fun⟨a8,bb,b3,c7⟩=>dc λH=>⟨rfl,auG _ bk bk bk bk a8 bb b3 c7 H⟩
theorem aEI:cG VR YW:=cV YH 206000 [] (a3 Ck (a3 aoA (a3 ad2 (a3 ad3 (a3 Km (a3 aoF cn)))))) Tryz.func100 fun⟨a8,bb,b3,c7⟩=>dc λH=>⟨rfl,auH _ bk bk bk bk bk bk a8 bb b3 c7 H⟩
theorem aEJ:cG VQ YY:=cV YF 203000 [] (a3 Ck (a3 aoD (a3 aEI cn))) Tryz.func108 fun⟨a8,bb,b3,c7⟩=>dc λH=>⟨rfl,auK _ bk bk bk a8 bb b3 c7 H⟩
theorem aoI:cG ET Q9:=cV Yw 165000 [] (a3 Ck (a3 aoC (a3 aoA (a3 ad3 (a3 Km cn))))) Tryz.func142 fun⟨a8,bb,b3,c7⟩=>dc λH=>⟨rfl,auM _ bk bk bk bk bk a8 bb b3 c7 H⟩
theorem aoJ:cG Lu Rb:=cV Y2 143000 [] (a3 Ck (a3 aoD (a3 aoH (a3 aoI cn)))) Tryz.func107 fun⟨a8,bb,b3,c7⟩=>dc λH=>⟨rfl,auN _ bk bk bk bk a8 bb b3 c7 H⟩
theorem OS:cG wG Dn:=cV Y0 124000 [] (a3 aoE (a3 aoJ cn)) Tryz.func64 fun⟨a8,bb⟩=>dc λH=>⟨rfl,auP _ bk bk a8 bb H⟩
theorem aEK:cG PK Y9:=cV Y1 142000 [] cn Tryz.func67 fun⟨a8,bb,b3,c7⟩=>dc λH=>⟨rfl,auQ _  a8 bb b3 c7 H⟩
theorem aoK:cG EP MF:=cV YZ 120000 [] (a3 aEK cn) Tryz.func19 fun⟨a8,bb,b3,c7,eV,kn,j4,jZ⟩=>dc λH=>⟨rfl,auR _ bk a8 bb b3 c7 eV kn j4 jZ H⟩
theorem Kn:cG qy Dp:=cV Y4 196000 [] (a3 Ck (a3 aoH (a3 aoE (a3 aoG cn)))) Tryz.func56 fun⟨a8,bb,b3,c7⟩=>dc λH=>⟨rfl,auS _ bk bk bk bk a8 bb b3 c7 H⟩
theorem ad5:cG EX MG:=cV Y6 204000 [] (a3 aoJ cn) Tryz.func101 fun⟨a8,bb,b3,c7,eV⟩=>dc λH=>⟨rfl,auU _ bk a8 bb b3 c7 eV H⟩
theorem Uk:cG x0 Dq:=cV Y3 195000 [] (a3 Kn (a3 ad4 (a3 aEJ (a3 ad5 cn)))) Tryz.func66 fun⟨a8,bb,b3,c7,eV,kn,j4,jZ⟩=>dc λH=>⟨rfl,au3 _ bk bk bk bk a8 bb b3 c7 eV kn j4 jZ H⟩
theorem ad6:cG CS FK:=cV Y5 197000 [] (a3 Kn (a3 ad4 (a3 ad5 cn))) Tryz.func140 fun⟨a8,bb,b3,c7,eV,kn,j4,jZ⟩=>dc λH=>⟨rfl,au5 _ bk bk bk a8 bb b3 c7 eV kn j4 jZ H⟩
theorem aoL:cG HU MJ:=cV Y7 207000 [] (a3 Kn (a3 ad4 (a3 ad5 cn))) Tryz.func146 fun⟨a8,bb,b3,c7,eV,kn,j4,jZ⟩=>dc λH=>⟨rfl,au7 _ bk bk bk a8 bb b3 c7 eV kn j4 jZ H⟩
theorem aEL:cG HN MK:=cV Zb 113000 [] cn Tryz.func193 fun⟨a8,bb,b3,c7⟩=>⟨rfl,au8 _  a8 bb b3 c7⟩
theorem aEM:cG VM Z1:=cV Zd 192000 [] (a3 Kn cn) Tryz.func173 fun⟨a8,bb⟩=>dc λH=>⟨rfl,awu _ bk a8 bb H⟩
theorem aEN:cG PS Z4:=cV Zh 208000 [] (a3 ad6 (a3 Uk cn)) Tryz.func208 fun⟨a8,bb,b3⟩=>dc λH=>⟨rfl,aww _ bk bk a8 bb b3 H⟩
theorem aEO:cG VO Z6:=cV Ze 199000 [12,25] cn Tryz.func192 λa8=>dc λH=>⟨rfl,awB _  a8 H⟩
theorem aEP:cG VP aaa:=cV Zf 200000 [20] (a3 aoL cn) Tryz.func194 fun⟨a8,bb⟩=>dc λH=>⟨rfl,awG _ bk a8 bb H⟩
theorem aEQ:cG PR RK:=cV Zg 201000 [22] (a3 aEN cn) Tryz.func195 fun⟨a8,bb,b3⟩=>dc λH=>⟨rfl,awL _ bk a8 bb b3 H⟩
theorem aER:cG VN RP:=cV FL 194000 [21] (a3 aEO (a3 aEL (a3 aEP (a3 aEQ cn)))) Tryz.func174 fun⟨a8,bb⟩=>dc λH=>⟨rfl,awV _ bk bk bk bk a8 bb H⟩
theorem aES:cG VL aal:=cV Zc 189000 [] (a3 aEM (a3 aER cn)) Tryz.func141 fun⟨a8,bb⟩=>dc λH=>⟨rfl,aw1 _ bk bk a8 bb H⟩
theorem Ul:cG q8 yN:=cV abo 271000 [] (a3 OS cn) Tryz.func46 λa8=>dc λH=>⟨rfl,ayE _ bk a8 H⟩
theorem Ko:cG qz xk:=cV Yc 230000 [] (a3 Ug cn) Tryz.func39 λa8=>dc λH=>⟨rfl,ayF _ bk a8 H⟩
theorem aET:cG zy NP:=cV aby 241000 [] (a3 Ug cn) Tryz.func70 λa8=>dc λH=>⟨rfl,ayH _ bk a8 H⟩
theorem aEU:cG LD Sn:=cV abB 223000 [] (a3 OS cn) Tryz.func33 λa8=>dc λH=>⟨rfl,ayJ _ bk a8 H⟩
theorem aEV:cG CU So:=cV abw 284000 [] (a3 OS cn) Tryz.func145 fun⟨a8,bb⟩=>dc λH=>⟨rfl,ayL _ bk a8 bb H⟩
theorem OT:cG r6 yO:=cV abp 272000 [] cn Tryz.func47 fun⟨a8,bb,b3⟩=>dc λH=>⟨rfl,ayN _  a8 bb b3 H⟩
theorem aEW:cG VT abF:=cV abm 216000 [] cn Tryz.func9 fun⟨a8,bb⟩=>⟨rfl,ayP _  a8 bb⟩
theorem aoM:cG LN Su:=cV abn 268000 [] cn Tryz.func43 fun⟨a8,bb⟩=>⟨rfl,ay2 _  a8 bb⟩
theorem ad7:∀n,r1 Tryz.prog HX (NX n)
 |0=>aoo (mf:=Ra) (kb:=278000) (own:=[]) (sf (r3 cn) (sg mK)) mixed Tryz.func89 (by kernel_rfl) (by kernel_rfl) λa r X=>by obtain⟨H,rfl⟩:=Va X;exact absurd H.2 (Nat.not_lt_zero _)
 |n+1=>aoo (mf:=Ra) (kb:=278000) (own:=[]) (sf (r3 (a3 aoI (a3 aoG (a3 (ad7 n) cn)))) (sg mK)) mixed Tryz.func89 (by kernel_rfl) (by kernel_rfl) fun⟨p,q,r,s⟩ x X=>by obtain⟨H,rfl⟩:=Va X;exact⟨uQ rfl,ay8 _ (kA rfl rfl) (kA rfl rfl) n (kA rfl rfl) p q r s H⟩
theorem aEX:r1 Tryz.prog HX NW:=⟨(ad7 0).real,λds r h A w vs av ab=>by
 obtain⟨n,aM⟩:=ay5 h;exact (ad7 n).run ds r aM A w vs av ab⟩
theorem Um:cG wM Af:=cV Y8 270000 [] (a3 Kn (a3 aEX cn)) Tryz.func45 fun⟨a8,bb,b3,c7,eV,kn,j4,jZ⟩=>dc λH=>⟨rfl,azb _ bk bk a8 bb b3 c7 eV kn j4 jZ H⟩
theorem aEY:cG LO N7:=cV abq 273000 [] (a3 OT (a3 Ul (a3 Um cn))) Tryz.func48 fun⟨a8,bb,b3⟩=>dc λH=>⟨rfl,azE _ bk bk bk a8 bb b3 H⟩
theorem aEZ:cG We ab7:=cV abu 282000 [] cn Tryz.func143 λa8=>dc λH=>⟨rfl,azL _  a8 H⟩
theorem aE0:cG Wf aca:=cV abv 283000 [] cn Tryz.func144 fun⟨a8,bb⟩=>dc λH=>⟨rfl,azO _  a8 bb H⟩
theorem aE1:cG Wc aci:=cV abt 279000 [] (a3 Kn (a3 aEZ (a3 aE0 (a3 aEV (a3 Uk (a3 Um (a3 ad6 (a3 aoL cn)))))))) Tryz.func90 fun⟨a8,bb⟩=>dc λH=>⟨rfl,azU _ bk bk bk bk bk bk bk bk a8 bb H⟩
theorem aE2:cG PW S2:=cV abr 274000 [] (a3 aE1 cn) Tryz.func49 fun⟨a8,bb,b3⟩=>dc λH=>⟨rfl,az1 _ bk a8 bb b3 H⟩
theorem aoN:cG wL S7:=cV Yf 243000 [] cn Tryz.func82 fun⟨a8,bb,b3⟩=>⟨rfl,aAe _  a8 bb b3⟩
theorem aE3:cG LG acy:=cV Yg 244000 [] (a3 aoN cn) Tryz.func83 λa8=>⟨rfl,aAg _ bk a8⟩
theorem aE4:cG LH acB:=cV Yh 245000 [] (a3 aoN cn) Tryz.func84 fun⟨a8,bb,b3,c7,eV⟩=>dc λH=>⟨rfl,aAi _ bk a8 bb b3 c7 eV H⟩
theorem aE5:cG LF acD:=cV Yd 232000 [] (a3 Ko (a3 Ui cn)) Tryz.func41 fun⟨a8,bb,b3⟩=>dc λH=>⟨rfl,aAl _ bk bk a8 bb b3 H⟩
theorem aoO:cG LL S8:=cV acv 251000 [] cn Tryz.func103 λa8=>⟨rfl,aAm _  a8⟩
theorem aE6:cG LK acE:=cV acu 250000 [] (a3 aoO cn) Tryz.func102 λa8=>⟨rfl,aAn _ bk a8⟩
theorem aoP:cG EZ JM:=cV WK 231000 [] (a3 aE3 (a3 aE6 (a3 aE5 cn))) Tryz.func40 fun⟨a8,bb⟩=>dc λH=>⟨rfl,aAq _ bk bk bk a8 bb H⟩
theorem aoQ:cG LI Ta:=cV WM 246000 [] (a3 aoP cn) Tryz.func85 fun⟨a8,bb⟩=>dc λH=>⟨rfl,aAt _ bk a8 bb H⟩
theorem aE7:cG HW ac8:=cV abz 253000 [] cn Tryz.func115 fun⟨a8,bb,b3⟩=>⟨rfl,aB6 _  a8 bb b3⟩
theorem aE8:cG V1 ac9:=cV abx 240000 [] (a3 aE7 cn) Tryz.func71 λa8=>dc λH=>⟨rfl,aB7 _ bk a8 H⟩
theorem aE9:cG V4 ade:=cV Gn 249000 [] (a3 Eb (a3 Ui (a3 aET (a3 aE8 (a3 ad1 (a3 aoy (a3 Uh cn))))))) Tryz.func26 fun⟨a8,bb⟩=>dc λH=>⟨rfl,aCi _ bk bk bk bk bk bk bk a8 bb H⟩
theorem aFa:cG LM acG:=cV acw 252000 [] (a3 aoO cn) Tryz.func104 fun⟨a8,bb,b3,c7,eV⟩=>dc λH=>⟨rfl,aAv _ bk a8 bb b3 c7 eV H⟩
theorem aFb:cG V5 acH:=cV WO 254000 [] (a3 aE4 (a3 aFa cn)) Tryz.func135 fun⟨a8,bb⟩=>dc λH=>⟨rfl,aAx _ bk bk a8 bb H⟩
theorem aoR:cG LJ Tc:=cV WN 247000 [] (a3 aFb cn) Tryz.func86 fun⟨a8,bb⟩=>dc λH=>⟨rfl,aAy _ bk a8 bb H⟩
theorem aFc:cG VW acI:=cV Yb 227000 [] (a3 aoQ (a3 aoR cn)) Tryz.func36 fun⟨a8,bb⟩=>dc λH=>⟨rfl,aAA _ bk bk a8 bb H⟩
theorem aFd:cG VZ acL:=cV acs 238000 [] (a3 aoQ (a3 aoR cn)) Tryz.func59 fun⟨a8,bb⟩=>dc λH=>⟨rfl,aAC _ bk bk a8 bb H⟩
theorem aFe:cG VY TS:=cV FC 233000 [] (a3 aE9 cn) Tryz.func42 fun⟨a8,bb⟩=>dc λH=>⟨rfl,aCP _ bk a8 bb H⟩
theorem aFf:mJ Tryz.prog PU (rF Tf):=JC (mf:=QQ) (kb:=255000) (own:=[17]) (sf (r3 (a3 Ko (a3 aEG (a3 Ug (a3 ad0 cn))))) (sg mK)) mixed Tryz.func136 (by kernel_rfl) (by kernel_rfl) (λj=>j/1000=255) λargs mem d h=>by
 obtain⟨a,⟨rfl,a4⟩,rfl⟩:=JE h;exact⟨uQ rfl,a4.no,aAF _ (kA rfl rfl) (kA rfl rfl) (kA rfl rfl) (kA rfl rfl) a.1 a.2 mem a4⟩
theorem aFg:mJ Tryz.prog V6 (rF Tk):=JC (mf:=IB) (kb:=256000) (own:=[]) (sf (r3 (a3 Ko (a3 Uh (a3 aED cn)))) (sg mK)) mixed Tryz.func137 (by kernel_rfl) (by kernel_rfl) (λj=>j/1000=256) λargs mem d h=>by
 obtain⟨a,⟨rfl,a4⟩,rfl⟩:=JE h;exact⟨uQ rfl,a4.no,aAM _ (kA rfl rfl) (kA rfl rfl) (kA rfl rfl) a mem a4⟩
theorem aFh:mJ Tryz.prog V3 (rF acT):=JC (mf:=w4) (kb:=248000) (own:=[]) (sf (r3 (a3 Ko (a3 ad1 (a3 ad0 cn)))) (sg (qH aFf (qH aFg mK)))) mixed Tryz.func87 (by kernel_rfl) (by kernel_rfl) (λj=>j/1000=248) λargs mem d h=>by
 obtain⟨a,⟨rfl,a4⟩,rfl⟩:=JE h;exact⟨uQ rfl,a4.h0,aBt _ (kA rfl rfl) (w6 rfl rfl) (w6 rfl rfl) (kA rfl rfl) (kA rfl rfl) a mem a4⟩
theorem aFi:mJ Tryz.prog PT (vA Oq):=Rg (mf:=IA) (kb:=229000) (own:=[]) (sf (r3 (a3 Ko (a3 Ui cn))) (sg (qH aFh mK))) mixed Tryz.func38 (by kernel_rfl) (by kernel_rfl) λargs mem bV h=>by
 obtain⟨a,⟨rfl,a4⟩,rfl⟩:=Rj h;exact⟨uQ rfl,aBD _ (w6 rfl rfl) (kA rfl rfl) (kA rfl rfl) a mem a4⟩
theorem aFj:mJ Tryz.prog VX (vA ac6):=Rg (mf:=Df) (kb:=228000) (own:=[22]) (sf (r3 cn) (sg mK)) mixed Tryz.func37 (by kernel_rfl) (by kernel_rfl) λargs mem bV h=>by
 obtain⟨a,⟨rfl,a4⟩,rfl⟩:=Rj h;exact⟨uQ rfl,aBW _  a.1 a.2 mem a4⟩
theorem aFk:mJ Tryz.prog Wd (rF abT):=JC (mf:=Sl) (kb:=280000) (own:=[]) (sf (r3 cn) (sg mK)) mixed Tryz.func138 (by kernel_rfl) (by kernel_rfl) (λj=>j/1000=280) λargs mem d h=>by
 obtain⟨a,⟨rfl,a4⟩,rfl⟩:=JE h;exact⟨uQ rfl,a4.2.1,azi _  a.1 a.2 mem a4.1 a4.2.1 a4.2.2.1 a4.2.2.2.1 a4.2.2.2.2⟩
theorem aFl:mJ Tryz.prog PX (rF N2):=JC (mf:=Sm) (kb:=281000) (own:=[]) (sf (r3 (a3 OT (a3 OS cn))) (sg mK)) mixed Tryz.func139 (by kernel_rfl) (by kernel_rfl) (λj=>j/1000=281) λargs mem d h=>by
 obtain⟨a,⟨rfl,a4⟩,rfl⟩:=JE h;exact⟨uQ rfl,a4.2.1,azk _ (kA rfl rfl) (kA rfl rfl) a mem a4⟩
theorem aFm:mJ Tryz.prog Wb (rF ab0):=JC (mf:=DS) (kb:=277000) (own:=[]) (sf (r3 (a3 Ul (a3 OT (a3 Uk (a3 ad6 (a3 aES cn)))))) (sg (qH aFk (qH aFl mK)))) mixed Tryz.func88 (by kernel_rfl) (by kernel_rfl) (λj=>j/1000=277) λargs mem d h=>by
 obtain⟨a,⟨rfl,a4⟩,rfl⟩:=JE h;exact⟨uQ rfl,a4.cL,azx _ (w6 rfl rfl) (kA rfl rfl) (kA rfl rfl) (w6 rfl rfl) (kA rfl rfl) (kA rfl rfl) (kA rfl rfl) a mem a4⟩
theorem aFn:mJ Tryz.prog PV (vA SQ):=Rg (mf:=Jx) (kb:=269000) (own:=[]) (sf (r3 (a3 Ul (a3 OT (a3 Um cn)))) (sg (qH aFm mK))) mixed Tryz.func44 (by kernel_rfl) (by kernel_rfl) λargs mem bV h=>by
 obtain⟨a,⟨rfl,a4⟩,rfl⟩:=Rj h;exact⟨uQ rfl,azJ _ (w6 rfl rfl) (kA rfl rfl) (kA rfl rfl) (kA rfl rfl) a mem a4⟩
theorem aFo:cG VU T0:=Az FB 217000 [] (a3 aFc (a3 Ko (a3 Ui (a3 aoP (a3 aFe cn))))) (qH aFj (qH aFi mK)) Tryz.func11 fun⟨a8,bb⟩=>dc λH=>⟨rfl,aDr _ bk (w6 rfl rfl) (w6 rfl rfl) bk bk bk bk a8 bb H⟩
theorem aFp:cG V0 adC:=cV WL 239000 [] cn Tryz.func61 λa8=>dc λH=>⟨rfl,aDL _  a8 H⟩
theorem aoS:cG CT Ea:=cV Og 221000 [34] (a3 aFd (a3 OQ (a3 aFp (a3 aFo (a3 Ug (a3 Uh cn)))))) Tryz.func17 fun⟨a8,bb,b3⟩=>dc λH=>⟨rfl,aDN _ bk bk bk bk bk bk a8 bb b3 H⟩
theorem aFq:cG HV adI:=cV abC 237000 [] cn Tryz.func58 λ_=>⟨rfl,aDR _⟩
theorem aFr:cG VV adK:=cV abA 220000 [] (a3 aFq (a3 aoS (a3 aEU (a3 aoK cn)))) Tryz.func16 λ_=>⟨rfl,aDX _ bk bk bk bk⟩
theorem aFs:cG V7 adL:=Az vQ 261000 [] (a3 aoM (a3 Ul (a3 OT (a3 Um (a3 aEY (a3 aE2 cn)))))) (qH aFn mK) Tryz.func12 fun⟨a8,bb⟩=>dc λH=>⟨rfl,aD2 _ bk (w6 rfl rfl) bk bk bk bk bk a8 bb H⟩
theorem aFt:cG Wa adP:=cV adN 276000 [] cn Tryz.func65 fun⟨a8,bb⟩=>dc λH=>⟨rfl,aD7 _  a8 bb H⟩
theorem aFu:cG V9 adR:=cV OO 275000 [14] cn Tryz.func63 fun⟨a8,bb,b3⟩=>dc λH=>⟨rfl,aEb _  a8 bb b3 H⟩
theorem aFv:cG V8 adT:=cV adM 264000 [] (a3 aoM (a3 aFu (a3 aFs (a3 aFt (a3 OS (a3 Uk cn)))))) Tryz.func18 fun⟨a8,bb,b3⟩=>dc λH=>⟨rfl,aEd _ bk bk bk bk bk bk a8 bb b3 H⟩
theorem aFw:cG arP adU:=cV abD 258000 [] (a3 aFr (a3 aEW (a3 aoS (a3 aFv (a3 aoK cn))))) Tryz.func4 fun⟨a8,bb,b3⟩=>⟨rfl,aEf _ bk bk bk bk bk a8 bb b3⟩
end Go.Mini
