/- A part of the proof. -/
import Derived.Test.YtkfoalgfjchcfaaGreatM02
set_option linter.unusedSimpArgs false
set_option linter.unusedVariables false
set_option maxRecDepth 100000
set_option maxHeartbeats 4000000
noncomputable section
open Bool renaming and_eq_true->e3,and_false->ju,eq_iff_iff->pK,false_and->ja,false_eq_true->jU,not_eq_false'->ace,not_eq_true'->Ck,not_false->dc,not_true->cR,true_and->iy
open Classical renaming choose_spec->oQ
open Decidable renaming em->dX
open Int renaming add_comm->wL,add_zero->tU,cast_ofNat_Int->kR,fdiv_eq_ediv_of_nonneg->aby,le_of_lt->Mz,lt_or_gt_of_ne->abz,lt_trichotomy->wN,mul_add->hP,mul_assoc->hQ,mul_comm->mz,mul_fdiv_add_fmod->MK,mul_ne_zero->Ai,mul_nonneg->qw,mul_one->tN,mul_zero->sB,natAbs_natCast->l5,natAbs_neg->II,natCast_pos->Ad,natCast_zero->ku,one_mul->nb,pow_pos->En,pow_succ->my,reducePow->abx,sign_eq_neg_one_of_neg->pG,sign_eq_one_of_pos->iP,sign_mul->pH,sign_neg->BZ,sign_sign->yE,sign_zero->w9,sub_zero->It,tdiv_eq_ediv_of_nonneg->yv,tdiv_nonneg->aci,tmod_eq_emod_of_nonneg->zZ,tmod_nonneg->ach,toNat_natCast->gZ,zero_mul->wW,zero_sub->abM
open List renaming all_cons->DL,append_assoc->gK,append_nil->hO,drop_eq_getElem_cons->hL,drop_set_of_lt->sa,drop_zero->mv,ext_getElem?->q6,findIdx?_eq_none_iff->abP,findIdx?_eq_some_iff_getElem->abO,flatten_nil->abX,getD_eq_getElem?_getD->ea,getElem?_eq_getElem->bx,getElem?_eq_none->lr,getElem?_eq_some_iff->dM,getElem?_inj->acn,getElem?_map->bd,getElem?_set->kz,getElem_drop->EY,getElem_mem->n7,length->D,length_append->hj,length_cons->kJ,length_drop->pA,length_map->al,length_nil->mu,length_pos_iff->Ac,length_set->iM,length_singleton->yP,length_take->g7,map_cons->eY,map_nil->cg,map_set->xi,map_take->abY,mem_iff_getElem?->pD,mem_of_getElem?->eU,mem_or_eq_of_mem_set->EV,mem_replicate->Ee,mem_singleton->yz,replicate->ep,take_add_one->lA,take_length->om,take_of_length_le->dE
open List.cons renaming injEq->bf
open Nat renaming div_div_eq_div_mul->ab2,eq_zero_or_pos->iU,gcd->iA,gcd_comm->IH,le_of_lt->SJ,le_refl->bM,lt_of_div_lt_div->ab3,lt_of_le_of_lt->sw,lt_of_lt_of_le->A8,lt_or_ge->hK,max_eq_right->TT,min_eq_left->nE,mod_lt->nN,mul_comm->si,mul_le_mul_right->q5,mul_lt_mul_of_pos_left->ab9,mul_one->cI,pos_of_ne_zero->DV,pow_succ->uZ,reduceEqDiff->dA,reduceMul->abw,zero_div->ab1,zero_le->fr
open Option renaming bind_none->pQ,map_eq_some_iff->dV
open Option.some renaming inj->m4,injEq->b8
open Prod renaming ext->eN,fst->ED
open Prod.mk renaming injEq->fv
open Rat renaming divInt->kX,divInt_mul_divInt->abB,neg_divInt_neg->S3,num_divInt_den->B8,sub_eq_add_neg->abE
namespace Go.Mini
open Go
def dz (n:Int):Prop:=-9223372036854775808<=n/\n<=9223372036854775807
theorem ans {n:Nat}(h:n<=9223372036854775808):n<dH:=by
 unfold dH;refine A8 (m:=1048576^4) ?_ (Nat.pow_le_pow_right (by omega) (by omega));omega
theorem wY {n:Int}(h:dz n):n.natAbs<dH:=ans (by unfold dz at h;omega)
theorem SG (n:Int)(E:-18446744073709551616<=n)(H:n<0):IntKind.u64.wrap n=n+18446744073709551616:=by
 unfold IntKind.wrap;simp[IntKind.bits,IntKind.signed];omega
def SH:=cy zT λ(n:Int)=>cW (dz n) (.same (.agg (cC (bD n))))
@[go_sem] theorem aB6 (n:Int)(G:dz n):SH [.int .i64 n]=some (.same (.agg (cC (bD n)))):=(cK D7 n).trans (c6 G _)
theorem ant (T:bk)(fc:T oe=aX zV)(n:Int)(G:dz n):WP T Rn (.same (.agg (cC (bD n)))) [.I (.int .i64 n)]:=by
 refine cH ?_;simp only[Rn];have nG:=G;unfold dz at nG;obtain⟨n6,wg⟩:=nG;have Q:∀s:Int,(n≠0->s=n.sign)->jv s (aD n.natAbs)=bD n:=λs h=>oX rfl λbP=>h (by omega);have hlen:(aD n.natAbs).length<=60:=gA.2 (wY G);rcases dX (n<0) with jN|hD
 ·have hw:=SG n (by omega) jN
  have e9:IntKind.u64.wrap (0-(n+18446744073709551616))=(n.natAbs:Int):=by
   rw[SG _ (by omega) (by omega)];omega
  simp only[go_sem,go_sem_proc,fc,jN,hw,e9,decide_true];refine dG [2,3] [150002] (λ((u,g,l):Nat×Nat×List Int) tm mem=>u<=9223372036854775808/\aD n.natAbs=l++aD u/\tm 4=.I (.int .u64 u)/\tm 5=.ref 150021 g 1 0 (D l)/\mem 150021=some (g,aY af l)) (λ(u,_)=>u) (n.natAbs,0,[]) (by refine⟨by omega,rfl,?_,rfl,rfl⟩;rfl) ?_;intro vs ms aV aS;simp only[go_sem,go_sem_proc,fc] at aV aS;subst aV aS;rintro⟨u,g,l⟩ tm mem J hm ⟨hu,X,aM,bj,yF⟩;simp only[go_sem,go_sem_proc,fc,bf] at J hm;obtain⟨H,ab⟩:=J;rcases iU u with ai|wR
  ·subst ai;rw[rf,hO] at X;rw[X] at Q hlen;have tZ:(D l)<=1000000:=by omega
   have hE:=Q (-1) (λ_=>by exact (pG jN).symm);simp only[go_sem,go_sem_proc,fc,H,ab,aM,bj,hm,yF,hE,tZ,cC,ku,kR,al,show ¬ ((0:Int)>0) by omega,decide_false,lV hF,om]
   repeat' (first|refine av ?_ ?_|fail)<;>intro h<;>simp only[h,go_sem,go_sem_proc,fc,H,ab,aM,bj,hm,yF,hE,tZ,cC,ku,kR,al,show ¬ ((0:Int)>0) by omega,decide_false,lV hF,om]
  ·have yA:(D l)<=60:=by
    have:=congrArg D X;rw[hj] at this;omega
   have ic:decide ((u:Int)>0)=true:=dn;have dm:∀a:Int,lQ 150021 g 1 (D l) 8 1 [.I (.int .i64 a)] (some (g,aY af l))=_:=λa=>mw hF wE 150021 g 8 l a rfl (by omega) (by omega);have hand:=aai u ⟨by omega,by omega⟩
   have IK:IntKind.i64.wrap ((u:Int)%1048576)=(u:Int)%1048576:=wrap64 _ (by omega) (by omega);simp only[go_sem,go_sem_proc,fc,H,ab,aM,bj,hm,yF,ic,dm,hand,IK,nO,show ((20:Int)<0)=False from by simp,if_false,al,bf]
   repeat' (first|refine av ?_ ?_|fail)<;>intro h<;>simp only[h,go_sem,go_sem_proc,fc,H,ab,aM,bj,hm,yF,ic,dm,hand,IK,nO,show ((20:Int)<0)=False from by simp,if_false,al,bf]
   refine⟨(u/1048576,g+1,l++[(u:Int)%1048576]),by dsimp only;omega,by dsimp only;omega,by dsimp only;rw[gK,X,tE wR];rfl,by first|rfl|(dsimp only;rw[yk _ ⟨by omega,by omega⟩];rfl),by simp,by simp[go_sem]⟩
 ·have hw:IntKind.u64.wrap n=(n.natAbs:Int):=by rw[yk _ ⟨by omega,by omega⟩];omega
  simp only[go_sem,go_sem_proc,fc,hD,hw,decide_false];refine dG [2,3] [150002] (λ((u,g,l):Nat×Nat×List Int) tm mem=>u<=9223372036854775808/\aD n.natAbs=l++aD u/\tm 4=.I (.int .u64 u)/\tm 5=.ref 150021 g 1 0 (D l)/\mem 150021=some (g,aY af l)) (λ(u,_)=>u) (n.natAbs,0,[]) (by refine⟨by omega,rfl,?_,rfl,rfl⟩;rfl) ?_;intro vs ms aV aS;simp only[go_sem,go_sem_proc,fc] at aV aS;subst aV aS;rintro⟨u,g,l⟩ tm mem J hm ⟨hu,X,aM,bj,yF⟩;simp only[go_sem,go_sem_proc,fc,bf] at J hm;obtain⟨H,ab⟩:=J;rcases iU u with ai|wR
  ·subst ai;rw[rf,hO] at X;rw[X] at Q hlen;have tZ:(D l)<=1000000:=by omega
   have hE:=Q 1 (λ_=>by exact (iP (by omega)).symm);simp only[go_sem,go_sem_proc,fc,H,ab,aM,bj,hm,yF,hE,tZ,cC,ku,kR,al,show ¬ ((0:Int)>0) by omega,decide_false,lV hF,om]
   repeat' (first|refine av ?_ ?_|fail)<;>intro h<;>simp only[h,go_sem,go_sem_proc,fc,H,ab,aM,bj,hm,yF,hE,tZ,cC,ku,kR,al,show ¬ ((0:Int)>0) by omega,decide_false,lV hF,om]
  ·have yA:(D l)<=60:=by
    have:=congrArg D X;rw[hj] at this;omega
   have ic:decide ((u:Int)>0)=true:=dn;have dm:∀a:Int,lQ 150021 g 1 (D l) 8 1 [.I (.int .i64 a)] (some (g,aY af l))=_:=λa=>mw hF wE 150021 g 8 l a rfl (by omega) (by omega);have hand:=aai u ⟨by omega,by omega⟩
   have IK:IntKind.i64.wrap ((u:Int)%1048576)=(u:Int)%1048576:=wrap64 _ (by omega) (by omega);simp only[go_sem,go_sem_proc,fc,H,ab,aM,bj,hm,yF,ic,dm,hand,IK,nO,show ((20:Int)<0)=False from by simp,if_false,al,bf]
   repeat' (first|refine av ?_ ?_|fail)<;>intro h<;>simp only[h,go_sem,go_sem_proc,fc,H,ab,aM,bj,hm,yF,ic,dm,hand,IK,nO,show ((20:Int)<0)=False from by simp,if_false,al,bf]
   refine⟨(u/1048576,g+1,l++[(u:Int)%1048576]),by dsimp only;omega,by dsimp only;omega,by dsimp only;rw[gK,X,tE wR];rfl,by first|rfl|(dsimp only;rw[yk _ ⟨by omega,by omega⟩];rfl),by simp,by simp[go_sem]⟩
theorem anu (k:IntKind)(a b:Int):bits .or k a b=bits .or k b a:=by
 simp only[bits,BitVec.or_comm]
theorem anv (u d:Int)(i:Nat)(L:(2:Int)^i<=1152921504606846976)(hu:0<=u/\u<2^i)(X:0<=d)(h:d*2^i<18446744073709551616):bits .or .u64 u (d*2^i)=u+d*2^i:=by
 rw[anu,wL];have ai:0<=d*2^i:=qw X (by exact Mz (En (by omega)));refine bits_join .u64 64 (by decide) (λn E H=>yk n ⟨E,by omega⟩) i _ _ ai (Int.mul_emod_left _ _) (by omega) hu.1 hu.2 (by omega)
instance (n:Int):Decidable (dz n):=by unfold dz;exact inferInstance
def rr (a:Raw):Int×Bool:=if dd a=true/\dz (hU a) then (hU a,true) else (0,false)
def SI:=cy zU λ(s,l)=>cW (D l<=1000000) (.same (.cq [.int .i64 (rr (s,l)).1,.bool (rr (s,l)).2]))
@[go_sem] theorem aB7 (s:Int)(l:List Int)(G:(D l)<=1000000):SI [.agg [.int .i64 s,.ae (l.map af)]]=some (.same (.cq [.int .i64 (rr (s,l)).1,.bool (rr (s,l)).2])):=(cK D8 (s,l)).trans (c6 G _)
theorem anw (T:bk)(dg:T j4=aX u2)(s:Int)(l:List Int)(G:(D l)<=1000000):WP T Ru (.same (.cq [.int .i64 (rr (s,l)).1,.bool (rr (s,l)).2])) [.I (.agg [.int .i64 s,.ae (l.map af)])]:=by
 refine cH ?_;simp only[Ru]
 by_cases Y:dd (s,l)=true
 ·obtain⟨z,aR,e⟩:=(jc _).1 Y
  cases e
  have L:rr (z.sign,aD z.natAbs)=if dz z then (z,true) else (0,false):=by
   unfold rr;rw[Y,show hU (z.sign,aD z.natAbs)=z from ft z];simp
  rw[L];clear L;have Q:=lH z
  by_cases aM:(aD z.natAbs).length<=4
  ·have MA:decide (((aD z.natAbs).length:Int)>4)=false:=dr;have lU:=kQ z.natAbs;have jM:=lW z.natAbs;generalize aD z.natAbs=l at *;simp only[go_sem,go_sem_proc,dg,Y,G,MA,al,af];refine dG [1,17,18] [159001] (λ((i,u):Nat×Int) tm mem=>i<=D l/\u=a1 (l.take i)/\u<18446744073709551616/\tm 4=.I (.int .u64 u)/\tm 19=.I (.int .i64 i)) (λ(i,_)=>D l-i) (0,0) (by refine⟨by omega,rfl,by omega,rfl,rfl⟩) ?_;intro vs ms aV aS;simp only[go_sem,go_sem_proc,dg] at aV aS;subst aV aS;rintro⟨i,u⟩ tm mem J hm ⟨L,hu,aB8,pI,pJ⟩;simp only[go_sem,go_sem_proc,dg,bf] at J hm;obtain⟨E,ky,jb⟩:=J;have abu:en (l.take i):=λd X=>jM d (List.mem_of_mem_take X);have B4:0<=u:=by rw[hu];exact od abu
   rcases dX (i<D l) with ao|cf
   ·have O:=bx ao;have X:=jM l[i] (n7 ao);have r7:=kv l i ao;have B5:=yi abu;rw[g7,nE (SJ ao),<-hu] at B5;rw[<-hu] at r7;generalize l[i]=d at *;have oY:decide ((i:Int)<(D l:Int))=true:=dn;have sA:IntKind.u64.wrap d=d:=yk d ⟨X.1,by omega⟩
    have wT:IntKind.i64.wrap (20*(i:Int))=((20*i:Nat):Int):=by rw[eC _];omega
    have DB:min (20*i) 64=20*i:=by omega
    have nF:(((20*i:Nat):Int)<0)=False:=eq_false (by omega);have EC:(1048576:Int)^i=2^(20*i):=by rw[Int.pow_mul];rfl
    rw[EC] at B5 r7
    have nD:(2:Int)^(20*i)<=1152921504606846976:=by
     obtain rfl|rfl|rfl|rfl:i=0\/i=1\/i=2\/i=3:=by omega
     all_goals decide
    by_cases SK:i=3/\d>8
    ·obtain⟨rfl,MB⟩:=SK;have abv:decide (d>8)=true:=kH MB;have IM:(((3:Nat):Int)==3)=true:=rfl
     have B6:¬ dz z:=by
      have tR:=HU l 4;rw[lU] at tR;have:0<=a1 (l.drop 4):=od λd X=>jM d (List.mem_of_mem_drop X);have bj:=qw (show (0:Int)<=1048576^(min 4 (D l)) from Mz (En (by omega))) this;unfold dz;simp only[abw,Nat.reduceAdd,abx] at r7;rw[r7] at tR;omega
     rw[aa B6];simp only[go_sem,go_sem_proc,dg,E,ky,jb,pI,pJ,hm,O,X.1,X.2,oY,sA,abv,IM,al,bd,bf,af];repeat' (first|refine av ?_ ?_|fail)<;>intro h<;>simp only[h,go_sem,go_sem_proc,dg,E,ky,jb,pI,pJ,hm,O,X.1,X.2,oY,sA,abv,IM,al,bd,bf,af]
    ·have u5:d*2^(20*i)<18446744073709551616:=by
      obtain rfl|rfl|rfl|rfl:i=0\/i=1\/i=2\/i=3:=by omega
      all_goals simp
      all_goals omega
     have u9:=anv u d (20*i) nD ⟨B4,B5⟩ X.1 u5;have IP:0<=d*2^(20*i):=qw X.1 (Mz (En (by omega)));have IQ:IntKind.u64.wrap (d*2^(20*i))=d*2^(20*i):=yk _ ⟨IP,u5⟩
     have yB:u+d*2^(20*i)<18446744073709551616:=by
      clear u9 IQ IP wT nF EC nD r7;obtain rfl|rfl|rfl|rfl:i=0\/i=1\/i=2\/i=3:=by omega
      all_goals simp only[abw,abx] at B5 u5 ⊢
      all_goals omega
     by_cases ab:((i:Int)==3)=true
     ·have MB:decide (d>8)=false:=oE λh=>SK ⟨by simp at ab;omega,h⟩
      simp only[go_sem,go_sem_proc,dg,E,ky,jb,pI,pJ,hm,O,X.1,X.2,oY,sA,ab,MB,wT,nF,if_false,gZ,DB,IQ,u9,al,bd,bf,af];repeat' (first|refine av ?_ ?_|fail)<;>intro h<;>simp only[h,go_sem,go_sem_proc,dg,E,ky,jb,pI,pJ,hm,O,X.1,X.2,oY,sA,ab,MB,wT,nF,if_false,gZ,DB,IQ,u9,al,bd,bf,af]
      exact⟨(i+1,u+d*2^(20*i)),by dsimp only;omega,by dsimp only;omega,by dsimp only;rw[r7,mz],yB,rfl,by rw[eC _];rfl⟩
     ·have ab:((i:Int)==3)=false:=by simpa using ab
      simp only[go_sem,go_sem_proc,dg,E,ky,jb,pI,pJ,hm,O,X.1,X.2,oY,sA,ab,wT,nF,if_false,gZ,DB,IQ,u9,al,bd,bf,af];repeat' (first|refine av ?_ ?_|fail)<;>intro h<;>simp only[h,go_sem,go_sem_proc,dg,E,ky,jb,pI,pJ,hm,O,X.1,X.2,oY,sA,ab,wT,nF,if_false,gZ,DB,IQ,u9,al,bd,bf,af]
      exact⟨(i+1,u+d*2^(20*i)),by dsimp only;omega,by dsimp only;omega,by dsimp only;rw[r7,mz],yB,rfl,by rw[eC _];rfl⟩
   ·have oY:decide ((i:Int)<(D l:Int))=false:=dr;have jx:i=D l:=by omega
    rw[jx,om,lU] at hu;rcases Q with ⟨Q,tw⟩|⟨Q,tw⟩|⟨Q,tw⟩
    ·by_cases hr64:u<9223372036854775808
     ·rw[Z (by unfold dz;omega)];have hw:IntKind.i64.wrap u=z:=by rw[wrap64 u (by omega) (by omega)];omega
      simp only[go_sem,go_sem_proc,dg,E,ky,jb,pI,pJ,hm,oY,Q,hr64,show decide ((1:Int)<0)=false from rfl,show decide ((1:Int)>=0)=true from rfl,show decide ((-1:Int)<0)=true from rfl,show decide ((-1:Int)>=0)=false from rfl,hw,decide_true,decide_false,al];repeat' (first|refine av ?_ ?_|fail)<;>intro h<;>simp only[h,go_sem,go_sem_proc,dg,E,ky,jb,pI,pJ,hm,oY,Q,hr64,show decide ((1:Int)<0)=false from rfl,show decide ((1:Int)>=0)=true from rfl,show decide ((-1:Int)<0)=true from rfl,show decide ((-1:Int)>=0)=false from rfl,hw,decide_true,decide_false,al]
     ·rw[aa (by unfold dz;omega)];simp only[go_sem,go_sem_proc,dg,E,ky,jb,pI,pJ,hm,oY,Q,hr64,show decide ((1:Int)<0)=false from rfl,show decide ((1:Int)>=0)=true from rfl,show decide ((-1:Int)<0)=true from rfl,show decide ((-1:Int)>=0)=false from rfl,decide_true,decide_false,al];repeat' (first|refine av ?_ ?_|fail)<;>intro h<;>simp only[h,go_sem,go_sem_proc,dg,E,ky,jb,pI,pJ,hm,oY,Q,hr64,show decide ((1:Int)<0)=false from rfl,show decide ((1:Int)>=0)=true from rfl,show decide ((-1:Int)<0)=true from rfl,show decide ((-1:Int)>=0)=false from rfl,decide_true,decide_false,al]
    ·rw[Z (by unfold dz;omega)];have anx:u=0:=by omega
     subst tw;subst anx;simp only[go_sem,go_sem_proc,dg,E,ky,jb,pI,pJ,hm,oY,Q,show decide ((0:Int)<0)=false from rfl,show decide ((0:Int)>=0)=true from rfl,show decide ((0:Int)<9223372036854775808)=true from rfl,show IntKind.i64.wrap 0=0 from rfl,show (0:Int).sign=0 from rfl,decide_true,decide_false,al];repeat' (first|refine av ?_ ?_|fail)<;>intro h<;>simp only[h,go_sem,go_sem_proc,dg,E,ky,jb,pI,pJ,hm,oY,Q,show decide ((0:Int)<0)=false from rfl,show decide ((0:Int)>=0)=true from rfl,show decide ((0:Int)<9223372036854775808)=true from rfl,show IntKind.i64.wrap 0=0 from rfl,show (0:Int).sign=0 from rfl,decide_true,decide_false,al]
    ·by_cases hr64:u<=9223372036854775808
     ·rw[Z (by unfold dz;omega)];have hw:=SG (0-u) (by omega) (by omega)
      have e9:IntKind.i64.wrap (0-u+18446744073709551616)=z:=by
       simp[IntKind.wrap,IntKind.bits,IntKind.signed];omega
      simp only[go_sem,go_sem_proc,dg,E,ky,jb,pI,pJ,hm,oY,Q,hr64,show decide ((1:Int)<0)=false from rfl,show decide ((1:Int)>=0)=true from rfl,show decide ((-1:Int)<0)=true from rfl,show decide ((-1:Int)>=0)=false from rfl,hw,e9,decide_true,decide_false,al];repeat' (first|refine av ?_ ?_|fail)<;>intro h<;>simp only[h,go_sem,go_sem_proc,dg,E,ky,jb,pI,pJ,hm,oY,Q,hr64,show decide ((1:Int)<0)=false from rfl,show decide ((1:Int)>=0)=true from rfl,show decide ((-1:Int)<0)=true from rfl,show decide ((-1:Int)>=0)=false from rfl,hw,e9,decide_true,decide_false,al]
     ·rw[aa (by unfold dz;omega)];simp only[go_sem,go_sem_proc,dg,E,ky,jb,pI,pJ,hm,oY,Q,hr64,show decide ((1:Int)<0)=false from rfl,show decide ((1:Int)>=0)=true from rfl,show decide ((-1:Int)<0)=true from rfl,show decide ((-1:Int)>=0)=false from rfl,decide_true,decide_false,al];repeat' (first|refine av ?_ ?_|fail)<;>intro h<;>simp only[h,go_sem,go_sem_proc,dg,E,ky,jb,pI,pJ,hm,oY,Q,hr64,show decide ((1:Int)<0)=false from rfl,show decide ((1:Int)>=0)=true from rfl,show decide ((-1:Int)<0)=true from rfl,show decide ((-1:Int)>=0)=false from rfl,decide_true,decide_false,al]
  ·have MA:decide (((aD z.natAbs).length:Int)>4)=true:=dn
   have aG:¬ dz z:=by
    intro h;unfold dz at h;refine aM (gA.2 ?_);omega
   rw[aa aG];simp only[go_sem,go_sem_proc,dg,Y,G,MA,al];repeat' (first|refine av ?_ ?_|fail)<;>intro h<;>simp only[h,go_sem,go_sem_proc,dg,Y,G,MA,al]
 ·have Y:dd (s,l)=false:=by simpa using Y
  have L:rr (s,l)=(0,false):=by unfold rr;rw[aa];rw[Y];simp
  rw[L];simp only[go_sem,go_sem_proc,dg,Y,G];repeat' (first|refine av ?_ ?_|fail)<;>intro h<;>simp only[h,go_sem,go_sem_proc,dg,Y,G]
def SM:b5:=cx 35 1 [.t 2] (R [dW 1 116001 0,du 2 false] (.seq (R [aW 5 0 1,bp 6 2 5,(dP 7 j4 6),gv 8 7,F 9 8,⟨some 10,some (9,false),.eX 2 (.t 1)⟩,⟨some 11,some (9,false),.load 2 true (.t 10)⟩,⟨some 12,some (9,false),.call j4 [(.t 11)]⟩,⟨some 13,some (9,false),.un .not (.t 12)⟩,eo 14 9 13,F 15 14,⟨some 16,some (15,false),.eX 2 (.t 1)⟩,⟨some 17,some (15,false),.eX 0 (.t 16)⟩,⟨some 18,some (15,false),.load 1 false (.t 17)⟩,⟨some 19,some (15,false),.bin .neq (.t 18) (.c (ah 1))⟩,eo 20 15 19] (a6 20 (R [du 2 false] .ret) .skip)) (R [aW 22 0 1,bp 23 2 22,aW 24 2 1,bp 25 2 24,(cj 26 HW 23 25),F 21 26,bt 27 0 21,bt 28 1 21,(az 3 (.alloc 116003 [(ah 0),.nil])),ba 2 3 27,F 4 28] (R [F 29 4,bg 30 .eql 29 0,F 31 30,⟨some 32,some (31,true),.load 2 true (.t 3)⟩,⟨some 33,some (31,true),.call QR [(.t 32)]⟩,gg 34 31 33,F 2 34] .ret))))
def SN:b5:=cx 46 2 [.cell 4 4 true,.t 5] (R [dW 2 119002 0,dW 3 119003 1,(az 4 (.alloc 119004 [(ah 0),.nil,(ah 0),.nil])),bs 5 0] (.seq (R [bp 10 4 2,(dP 11 m6 10),gv 12 11,F 13 12,⟨some 14,some (13,false),.load 4 true (.t 3)⟩,⟨some 15,some (13,false),.call m6 [(.t 14)]⟩,⟨some 16,some (13,false),.un .not (.t 15)⟩,eo 17 13 16] (a6 17 (R [(az 18 (.build [(ah 0),.nil,(ah 0),.nil] [])),ba 4 4 18,bs 5 1] .ret) .skip)) (R [aW 20 0 2,bp 21 2 20,aW 22 2 3,bp 23 2 22,aW 24 0 3,bp 25 2 24,aW 26 2 2,bp 27 2 26,(Ig 28 QS 21 23 25 27),F 19 28,bt 29 0 19,bt 30 1 19,(az 6 (.alloc 119006 [(ah 0),.nil])),ba 2 6 29,F 7 30] (R [aW 32 2 2,bp 33 2 32,aW 34 2 3,bp 35 2 34,(cj 36 tG 33 35),F 31 36,bt 37 0 31,bt 38 1 31,(az 8 (.alloc 119008 [(ah 0),.nil])),ba 2 8 37,F 9 38] (R [bp 39 2 6,F 40 7,bp 41 2 8,F 42 9,(Ig 43 BB 39 40 41 42),bt 44 0 43,bt 45 1 43,ba 4 4 44,F 5 45] .ret)))))
def SO:b5:=cx 13 2 [.cell 4 4 true,.t 5] (R [(az 4 (.alloc 130004 [(ah 0),.nil,(ah 0),.nil])),bs 5 0] (R [F 6 0,(dP 7 LJ 6),F 8 1,(dP 9 LJ 8),(cj 10 HX 7 9),bt 11 0 10,bt 12 1 10,ba 4 4 11,F 5 12] .ret))
def SP:b5:=cx 25 2 [.cell 4 4 true,.t 5] (R [dW 2 132002 0,dW 3 132003 1,(az 4 (.alloc 132004 [(ah 0),.nil,(ah 0),.nil])),bs 5 0] (.seq (R [bp 6 4 2,(dP 7 m6 6),gv 8 7,F 9 8,⟨some 10,some (9,false),.load 4 true (.t 3)⟩,⟨some 11,some (9,false),.call m6 [(.t 10)]⟩,⟨some 12,some (9,false),.un .not (.t 11)⟩,eo 13 9 12] (a6 13 (R [(az 14 (.build [(ah 0),.nil,(ah 0),.nil] [])),ba 4 4 14,bs 5 1] .ret) .skip)) (fs [bp 15 4 2,aW 16 0 3,bp 17 2 16,(dP 18 DW 17),aW 19 2 3,bp 20 2 19,(az 21 (.build [(ah 0),.nil,(ah 0),.nil] [(0,2,(.t 18)),(2,2,(.t 20))])),(cj 22 zQ 15 21),bt 23 0 22,bt 24 1 22,ba 4 4 23,F 5 24] aao .ret)))
def SQ:b5:=cx 42 2 [.cell 4 4 true,.t 5] (R [dW 2 134002 0,dW 3 134003 1,(az 4 (.alloc 134004 [(ah 0),.nil,(ah 0),.nil])),bs 5 0] (.seq (R [bp 10 4 2,(dP 11 m6 10),gv 12 11,F 13 12,⟨some 14,some (13,false),.load 4 true (.t 3)⟩,⟨some 15,some (13,false),.call m6 [(.t 14)]⟩,⟨some 16,some (13,false),.un .not (.t 15)⟩,eo 17 13 16] (a6 17 (R [(az 18 (.build [(ah 0),.nil,(ah 0),.nil] [])),ba 4 4 18,bs 5 1] .ret) .skip)) (R [aW 20 0 2,bp 21 2 20,aW 22 0 3,bp 23 2 22,(cj 24 tG 21 23),F 19 24,bt 25 0 19,bt 26 1 19,(az 6 (.alloc 134006 [(ah 0),.nil])),ba 2 6 25,F 7 26] (R [aW 28 2 2,bp 29 2 28,aW 30 2 3,bp 31 2 30,(cj 32 tG 29 31),F 27 32,bt 33 0 27,bt 34 1 27,(az 8 (.alloc 134008 [(ah 0),.nil])),ba 2 8 33,F 9 34] (R [bp 35 2 6,F 36 7,bp 37 2 8,F 38 9,(Ig 39 BB 35 36 37 38),bt 40 0 39,bt 41 1 39,ba 4 4 40,F 5 41] .ret)))))
def SR:b5:=cx 78 2 [.t 4] (R [dW 2 135002 0,dW 3 135003 1,bs 4 0] (.seq (R [bp 17 4 2,(dP 18 m6 17),gv 19 18,F 20 19,⟨some 21,some (20,false),.load 4 true (.t 3)⟩,⟨some 22,some (20,false),.call m6 [(.t 21)]⟩,⟨some 23,some (20,false),.un .not (.t 22)⟩,eo 24 20 23] (a6 24 (R [bs 4 0] .ret) .skip)) (fs [aW 25 0 2,bp 26 2 25,aW 27 2 2,bp 28 2 27,aW 29 0 3,bp 30 2 29,aW 31 2 3,bp 32 2 31,(az 5 (.alloc 135005 [(ah 0),.nil])),(az 6 (.alloc 135006 [(ah 0),.nil])),(az 7 (.alloc 135007 [(ah 0),.nil])),(az 8 (.alloc 135008 [(ah 0),.nil])),ba 2 5 26,ba 2 6 28,ba 2 7 30,ba 2 8 32] [[],[],[],[],[],[],[],[],[1,3,5,7],[1,3,5,7,8],[1,3,5,7,8,9],[1,3,5,7,8,9,10],[3,5,7],[5,7],[7],[]] (R [bs 9 1] (.block 0 (.loop  (.seq (.block 1 (R [bp 36 2 5,bp 37 2 6,(cj 38 BC 36 37),F 35 38,bt 39 0 35,bt 40 1 35,bt 41 2 35,(az 10 (.alloc 135010 [(ah 0),.nil])),(az 11 (.alloc 135011 [(ah 0),.nil])),ba 2 10 39,ba 2 11 40,F 12 41] (R [bp 43 2 7,bp 44 2 8,(cj 45 BC 43 44),F 42 45,bt 46 0 42,bt 47 1 42,bt 48 2 42,(az 13 (.alloc 135013 [(ah 0),.nil])),(az 14 (.alloc 135014 [(ah 0),.nil])),ba 2 13 46,ba 2 14 47,F 15 48] (.seq (R [bp 49 2 10,bp 50 2 13,(cj 51 QY 49 50),F 16 51] (.block 2 (R [F 53 16,bg 54 .neq 53 0,F 52 54] (a6 52 (R [F 55 9,F 56 16,bC 57 .mul 55 56,F 4 57] .ret) (R [aW 59 0 11,aN 60 1 59,bg 61 .eql 60 0,F 62 61,⟨some 63,some (62,false),.eX 0 (.t 14)⟩,⟨some 64,some (62,false),.load 1 false (.t 63)⟩,⟨some 65,some (62,false),.bin .eql (.t 64) (.c (ah 0))⟩,eo 66 62 65,F 58 66] (a6 58 (R [F 67 9,aW 68 0 11,aN 69 1 68,aW 70 0 14,aN 71 1 70,bC 72 .sub 69 71,bC 73 .mul 67 72,F 4 73] .ret) .skip)))))) (.m1 [bp 74 2 6,bp 75 2 11,bp 76 2 8,bp 77 2 14,ba 2 5 74,ba 2 6 75,ba 2 7 76,ba 2 8 77] [[],[],[],[],[1,2,3],[2,3],[3],[]]))))) (.ops [F 33 9,(az 34 (.un .neg (.t 33))),F 9 34]))))))))
def SS:b5:=cx 15 1 [.t 2] (R [dW 1 138001 0,du 2 false] (R [bp 6 2 1,(dP 7 QZ 6),F 5 7,bt 8 0 5,bt 9 1 5,F 3 8,F 4 9] (R [F 10 4,F 11 10,⟨some 12,some (11,true),.cn (.t 3)⟩,⟨some 13,some (11,true),.bin .eql (.t 12) (.c (ah 1))⟩,gg 14 11 13,F 2 14] .ret)))
def SU:b5:=cx 38 4 [.cell 8 2 true,.t 9] (R [dW 4 139004 0,dW 5 139005 1,dW 6 139006 2,dW 7 139007 3,(az 8 (.alloc 139008 [(ah 0),.nil])),bs 9 0] (R [bp 14 2 4,bp 15 2 5,(cj 16 tG 14 15),F 13 16,bt 17 0 13,bt 18 1 13,(az 10 (.alloc 139010 [(ah 0),.nil])),ba 2 10 17,F 11 18] (.seq (R [F 19 11,bg 20 .neq 19 0] (a6 20 (R [(az 21 (.build [(ah 0),.nil] [])),F 22 11,ba 2 8 21,F 9 22] .ret) .skip)) (R [bp 24 2 6,bp 25 2 7,(cj 26 tG 24 25),F 23 26,bt 27 0 23,bt 28 1 23,(az 12 (.alloc 139012 [(ah 0),.nil])),ba 2 12 27,F 11 28] (.seq (R [F 29 11,bg 30 .neq 29 0] (a6 30 (R [(az 31 (.build [(ah 0),.nil] [])),F 32 11,ba 2 8 31,F 9 32] .ret) .skip)) (R [bp 33 2 10,bp 34 2 12,(cj 35 Q0 33 34),bt 36 0 35,bt 37 1 35,ba 2 8 36,F 9 37] .ret))))))
def SV:b5:=cx 22 4 [.cell 8 4 true,.t 9] (R [dW 4 141004 0,dW 6 141006 2,(az 8 (.alloc 141008 [(ah 0),.nil,(ah 0),.nil])),bs 9 0] (.seq (R [F 10 1,bg 11 .neq 10 0,F 12 11,⟨some 13,some (12,false),.cn (.t 3)⟩,⟨some 14,some (12,false),.bin .neq (.t 13) (.c (ah 0))⟩,eo 15 12 14] (a6 15 (R [(az 16 (.build [(ah 0),.nil,(ah 0),.nil] [])),ba 4 8 16,bs 9 6] .ret) .skip)) (R [bp 17 2 4,bp 18 2 6,(cj 19 HX 17 18),bt 20 0 19,bt 21 1 19,ba 4 8 20,F 9 21] .ret)))
def SW:b5:=cx 60 2 [.cell 4 4 true,.t 5] (R [dW 2 149002 0,dW 3 149003 1,(az 4 (.alloc 149004 [(ah 0),.nil,(ah 0),.nil])),bs 5 0] (.seq (.block 0 (R [bp 15 2 2,(dP 16 j4 15),gv 17 16,F 18 17,⟨some 19,some (18,false),.load 2 true (.t 3)⟩,⟨some 20,some (18,false),.call j4 [(.t 19)]⟩,⟨some 21,some (18,false),.un .not (.t 20)⟩,eo 22 18 21,F 14 22] (a6 14 (R [(az 23 (.build [(ah 0),.nil,(ah 0),.nil] [])),ba 4 4 23,bs 5 1] .ret) (R [aW 25 0 3,aN 26 1 25,bg 27 .eql 26 0,F 24 27] (a6 24 (R [(az 28 (.build [(ah 0),.nil,(ah 0),.nil] [])),ba 4 4 28,bs 5 15] .ret) (R [aW 30 0 3,aN 31 1 30,bg 32 .lss 31 0,F 29 32] (a6 29 (.m1 [bp 33 2 2,(dP 34 DW 33),bp 35 2 3,(dP 36 DW 35),ba 2 2 34,ba 2 3 36] aam) .skip))))))) (R [bp 38 2 2,bp 39 2 3,(cj 40 HW 38 39),F 37 40,bt 41 0 37,bt 42 1 37,(az 6 (.alloc 149006 [(ah 0),.nil])),ba 2 6 41,F 7 42] (R [bp 44 2 2,bp 45 2 6,(cj 46 BC 44 45),F 43 46,bt 47 0 43,bt 48 1 43,bt 49 2 43,(az 8 (.alloc 149008 [(ah 0),.nil])),(az 9 (.alloc 149009 [(ah 0),.nil])),ba 2 8 47,ba 2 9 48,F 10 49] (R [bp 51 2 3,bp 52 2 6,(cj 53 BC 51 52),F 50 53,bt 54 0 50,bt 55 1 50,bt 56 2 50,(az 11 (.alloc 149011 [(ah 0),.nil])),(az 12 (.alloc 149012 [(ah 0),.nil])),ba 2 11 54,ba 2 12 55,F 13 56] (R [bp 57 2 8,bp 58 2 11,(az 59 (.build [(ah 0),.nil,(ah 0),.nil] [(0,2,(.t 57)),(2,2,(.t 58))])),ba 4 4 59,bs 5 0] .ret))))))
def SX:b5:=cx 49 2 [.cell 4 4 true,.t 5] (R [dW 2 169002 0,dW 3 169003 1,(az 4 (.alloc 169004 [(ah 0),.nil,(ah 0),.nil])),bs 5 0] (.seq (.block 0 (R [bp 11 4 2,(dP 12 m6 11),gv 13 12,F 14 13,⟨some 15,some (14,false),.load 4 true (.t 3)⟩,⟨some 16,some (14,false),.call m6 [(.t 15)]⟩,⟨some 17,some (14,false),.un .not (.t 16)⟩,eo 18 14 17,F 10 18] (a6 10 (R [(az 19 (.build [(ah 0),.nil,(ah 0),.nil] [])),ba 4 4 19,bs 5 1] .ret) (R [aW 21 0 3,aW 22 0 21,aN 23 1 22,bg 24 .eql 23 0,F 20 24] (a6 20 (R [(az 25 (.build [(ah 0),.nil,(ah 0),.nil] [])),ba 4 4 25,bs 5 15] .ret) .skip))))) (R [aW 27 0 2,bp 28 2 27,aW 29 2 3,bp 30 2 29,(cj 31 tG 28 30),F 26 31,bt 32 0 26,bt 33 1 26,(az 6 (.alloc 169006 [(ah 0),.nil])),ba 2 6 32,F 7 33] (R [aW 35 2 2,bp 36 2 35,aW 37 0 3,bp 38 2 37,(cj 39 tG 36 38),F 34 39,bt 40 0 34,bt 41 1 34,(az 8 (.alloc 169008 [(ah 0),.nil])),ba 2 8 40,F 9 41] (R [bp 42 2 6,F 43 7,bp 44 2 8,F 45 9,(Ig 46 BB 42 43 44 45),bt 47 0 46,bt 48 1 46,ba 4 4 47,F 5 48] .ret)))))
abbrev bS:=Raw×Raw
def aK (f:bS):List Data:=[.int .i64 f.1.1,.ae (f.1.2.map af),.int .i64 f.2.1,.ae (f.2.2.map af)]
def ef (x:bS×Int):Data:=.cq [.agg (aK x.1),.int .i64 x.2]
def aE (x:Rat):bS:=(bD x.num,bD x.den)
def dI (x:Rat):Prop:=x.num.natAbs<dH/\x.den<dH
def dT:bS:=((0,[]),(0,[]))
def eV (f:bS):Bool:=dd f.1&&(dd f.2&&(f.2.1==1&&(iA (hU f.1).natAbs (hU f.2).natAbs==1)))
def Ae (f:bS):Rat:=kX (hU f.1) (hU f.2)
theorem B7 (x:Rat):Ae (aE x)=x:=by
 unfold Ae aE;rw[ft,ft,B8]
theorem MC {x y:Rat}(h:aE x=aE y):x=y:=by rw[<-B7 x,h,B7]
theorem den_pos (x:Rat):0<(x.den:Int):=Ad.2 x.den_pos
theorem anz {n:Int}(h:0<n):(bD n).1=1:=iP h
theorem IU (f:bS):eV f=true↔∃x,dI x/\f=aE x:=by
 unfold eV;simp only[e3,beq_iff_eq]
 constructor
 ·rintro⟨E,H,ab,aM⟩;obtain⟨p,aC,aA⟩:=(jc _).1 E;obtain⟨q,a9,ay⟩:=(jc _).1 H;obtain⟨f1,f2⟩:=f;simp only at aA ay ab aM;subst aA ay;rw[ft,ft] at aM
  have Sw:0<q:=by
   rcases lH q with ⟨_,h⟩|⟨e,_⟩|⟨e,_⟩
   ·exact h
   ·have:q.sign=1:=ab;omega
   ·have:q.sign=1:=ab;omega
  refine⟨⟨p,q.natAbs,by omega,aM⟩,⟨aC,a9⟩,?_⟩
  unfold aE;rw[show ((q.natAbs:Nat):Int)=q by omega]
 ·rintro⟨x,⟨E,H⟩,rfl⟩;have X:(x.den:Int).natAbs<dH:=by rw[l5];exact H
  refine⟨ka E,ka X,anz (den_pos x),?_⟩;unfold aE;rw[ft,ft,l5];exact x.reduced
theorem wZ {x:Rat}(h:dI x):eV (aE x)=true:=(IU _).2 ⟨x,h,rfl⟩
theorem vf {x:Rat}(h:dI x):(x.den:Int).natAbs<dH:=by rw[l5];exact h.2
theorem mF {z:Int}(h:z.natAbs<dH):(aD z.natAbs).length<=1000000:=by have:=qz h;omega
def B9 (a:Raw):Bool:=(rr a).2&&((rr a).1==1)
theorem anA {z:Int}(h:z.natAbs<dH):B9 (bD z)=decide (z=1):=by
 unfold B9 rr;rw[ka h,ft]
 by_cases L:dz z
 ·rw[Z ⟨rfl,L⟩];simp only[iy]
  rfl
 ·rw[aa λh=>L h.2];have:z≠1:=by rintro rfl;exact L (by unfold dz;omega)
  simp[this]
def SY:=cy zU λ(s,l)=>cW (D l<=1000000) (.same (.bool (B9 (s,l))))
@[go_sem] theorem aB9 (s:Int)(l:List Int)(G:(D l)<=1000000):SY [.agg [.int .i64 s,.ae (l.map af)]]=some (.same (.bool (B9 (s,l)))):=(cK D8 (s,l)).trans (c6 G _)
theorem anB (T:bk)(MD:T QZ=aX SI)(s:Int)(l:List Int)(G:(D l)<=1000000):WP T SS (.same (.bool (B9 (s,l)))) [.I (.agg [.int .i64 s,.ae (l.map af)])]:=by
 refine cH ?_;simp only[SS];unfold B9;rcases h:(rr (s,l)).2
 ·simp only[go_sem,go_sem_proc,MD,G,h];repeat' (first|refine av ?_ ?_|fail)<;>intro h<;>simp only[h,go_sem,go_sem_proc,MD,G,h]
 ·simp only[go_sem,go_sem_proc,MD,G,h];repeat' (first|refine av ?_ ?_|fail)<;>intro h<;>simp only[h,go_sem,go_sem_proc,MD,G,h]
abbrev IV:Int×(List Int)×Int×(List Int)->List Data:=λ(s,l,s2,aj)=>[.agg [.int .i64 s,.ae (l.map af),.int .i64 s2,.ae (aj.map af)]]
def yG:=cy IV λ(s,l,s2,aj)=>cW (D l<=1000000/\D aj<=1000000) (.same (.bool (eV ((s,l),(s2,aj)))))
theorem SZ:∀a b,IV a=IV b->a=b:=by
  rintro⟨s1,eE,Ex,Ey⟩ ⟨s2,aj,Ez,EA⟩ h;simp only[bf,Data.agg.injEq,Data.int.injEq,Data.ae.injEq] at h;exact eN h.1.1.2 (eN (map_inj gY _ _ h.1.2.1) (eN h.1.2.2.1.2 (map_inj gY _ _ h.1.2.2.2.1)))
@[go_sem] theorem aCa (s:Int)(l:List Int)(s2:Int)(aj:List Int)(G:(D l)<=1000000/\D aj<=1000000):yG [.agg [.int .i64 s,.ae (l.map af),.int .i64 s2,.ae (aj.map af)]]=some (.same (.bool (eV ((s,l),(s2,aj))))):=(cK SZ (s,l,s2,aj)).trans (c6 G _)
theorem anC (T:bk)(dg:T j4=aX u2)(w0:T HW=aX Mv)(ME:T QR=aX SY)(s:Int)(l:List Int)(s2:Int)(aj:List Int)(G:(D l)<=1000000/\D aj<=1000000):WP T SM (.same (.bool (eV ((s,l),(s2,aj))))) [.I (.agg [.int .i64 s,.ae (l.map af),.int .i64 s2,.ae (aj.map af)])]:=by
 refine cH ?_;simp only[SM];obtain⟨bU,b0⟩:=G
 by_cases Y:dd (s,l)=true
 ·by_cases br:dd (s2,aj)=true
  ·by_cases Q:s2=1
   ·obtain⟨x,O,e⟩:=(jc _).1 Y;obtain⟨y,ak,ay⟩:=(jc _).1 br
    have aU:kW (s,l) (s2,aj)=(bD ((iA x.natAbs y.natAbs:Nat):Int),0):=by
     unfold kW;rw[Y,br,e,ay,ft,ft];rfl
    have nT:=IG O ak
    have bu:B9 (bD ((iA x.natAbs y.natAbs:Nat):Int))=(iA x.natAbs y.natAbs==1):=by
     rw[anA (by rw[l5];exact nT)];rw[pK];simp;omega
    have wh:hU (s,l)=x:=by rw[e,ft]
    have wi:hU (s2,aj)=y:=by rw[ay,ft]
    have jK:eV ((s,l),(s2,aj))=(iA x.natAbs y.natAbs==1):=by
     show (dd (s,l)&&(dd (s2,aj)&&((s2==1)&&(iA (hU (s,l)).natAbs (hU (s2,aj)).natAbs==1))))=_;rw[Y,br,wh,wi,show (s2==1)=true by simpa using Q]
     simp only[iy]
    have anD:((bD ((iA x.natAbs y.natAbs:Nat):Int)).2).length<=1000000:=mF (by rw[l5];exact nT);rw[jK,<-bu];generalize bD ((iA x.natAbs y.natAbs:Nat):Int)=bz at *;obtain⟨cG,cO⟩:=bz;have hE:(s2==1)=true:=by simpa using Q
    refine a7 ?_;repeat' (intro h<;>simp only[h,go_sem,go_sem_proc,dg,w0,ME,Y,br,bU,b0,hE,aU,anD,fu,cC,show ((0:Int)==0)=true from rfl]<;>try refine av ?_ ?_)
   ·have jK:eV ((s,l),(s2,aj))=false:=by unfold eV;simp[Q]
    have hE:(s2==1)=false:=by simpa using Q
    rw[jK];refine a7 ?_;repeat' (intro h<;>simp only[h,go_sem,go_sem_proc,dg,w0,ME,Y,br,bU,b0,hE]<;>try refine av ?_ ?_)
  ·have br:dd (s2,aj)=false:=by simpa using br
   have jK:eV ((s,l),(s2,aj))=false:=by unfold eV;simp[br]
   rw[jK];refine a7 ?_;repeat' (intro h<;>simp only[h,go_sem,go_sem_proc,dg,w0,ME,Y,br,bU,b0]<;>try refine av ?_ ?_)
 ·have Y:dd (s,l)=false:=by simpa using Y
  have jK:eV ((s,l),(s2,aj))=false:=by unfold eV;simp[Y]
  rw[jK];refine a7 ?_;repeat' (intro h<;>simp only[h,go_sem,go_sem_proc,dg,w0,ME,Y,bU,b0]<;>try refine av ?_ ?_)
def g0 (p q:Raw):bS×Int :=
 if (dd p&&dd q)=true then (if hU q=0 then (dT,15) else (aE (kX (hU p) (hU q)),0)) else (dT,1)
theorem yH {p q:Int}(aC:p.natAbs<dH)(a9:q.natAbs<dH)(ai:q≠0):g0 (bD p) (bD q)=(aE (kX p q),0):=by
 unfold g0;rw[ka aC,ka a9,ft,ft,Z (by rfl),aa ai]
theorem S0 {p q:Int}(a9:0<q):(kX p q).num=p.fdiv ((iA p.natAbs q.natAbs:Nat):Int)/\((kX p q).den:Int)=q.fdiv ((iA p.natAbs q.natAbs:Nat):Int):=by
 rw[Rat.num_divInt,Rat.den_divInt,aa (by omega),iP a9,nb];have aU:q.gcd p=iA p.natAbs q.natAbs:=by rw[Int.gcd_comm];rfl
 rw[aU];have ai:(0:Int)<=((iA p.natAbs q.natAbs:Nat):Int):=Int.natCast_nonneg _;rw[aby _ ai,aby _ ai];refine⟨rfl,?_⟩;rw[Int.natCast_ediv]
 congr 1
 omega
theorem S2 {p q:Int}(a9:q≠0):0<iA p.natAbs q.natAbs:=Nat.gcd_pos_of_pos_right _ (by omega)
theorem MF {p q:Int}(aC:p.natAbs<dH)(a9:q.natAbs<dH):dI (kX p q):=by
 have main:∀{p q:Int},p.natAbs<dH->q.natAbs<dH->0<q->dI (kX p q):=by
  intro p q aC a9 ai;obtain⟨E,H⟩:=S0 (p:=p) ai;have aU:=S2 (p:=p) (q:=q) (by omega);refine⟨?_,?_⟩
  ·rw[E];exact EB aC (by omega)
  ·have:=EB (y:=((iA p.natAbs q.natAbs:Nat):Int)) a9 (by omega);rw[<-H,l5] at this;exact this
 rcases wN q 0 with h|h|h
 ·rw[<-S3];exact main (by omega) (by omega) (by omega)
 ·subst h;rw[Rat.divInt_zero];unfold dI dH;exact⟨Nat.pow_pos (by omega),Nat.one_lt_pow (by omega) (by omega)⟩
 ·exact main aC a9 h
def MG:=cy tY λ(s,l,s2,aj)=>cW (D l<=1000000/\D aj<=1000000) (.same (ef (g0 (s,l) (s2,aj))))
@[go_sem] theorem aCb (s:Int)(l:List Int)(s2:Int)(aj:List Int)(G:(D l)<=1000000/\D aj<=1000000):MG [.agg [.int .i64 s,.ae (l.map af)],.agg [.int .i64 s2,.ae (aj.map af)]]=some (.same (ef (g0 (s,l) (s2,aj)))):=(cK wU (s,l,s2,aj)).trans (c6 G _)
theorem anE (T:bk)(dg:T j4=aX u2)(yI:T DW=aX Mr)(w0:T HW=aX Mv)(pL:T BC=aX My)(s:Int)(l:List Int)(s2:Int)(aj:List Int)(G:(D l)<=1000000/\D aj<=1000000):WP T SW (.same (ef (g0 (s,l) (s2,aj)))) [.I (.agg [.int .i64 s,.ae (l.map af)]),.I (.agg [.int .i64 s2,.ae (aj.map af)])]:=by
 refine cH ?_;simp only[SW];obtain⟨bU,b0⟩:=G
 by_cases Y:dd (s,l)=true
 ·by_cases br:dd (s2,aj)=true
  ·obtain⟨x,O,e⟩:=(jc _).1 Y;obtain⟨y,ak,ay⟩:=(jc _).1 br
   by_cases ai:y=0
   ·have hm:g0 (s,l) (s2,aj)=(dT,15):=by
     unfold g0;rw[Y,br,ay,ft,Z (by rfl),Z ai]
    rw[hm]
    cases e
    cases ay;have Q:(y.sign==0)=true:=by rw[ai];rfl
    refine a7 ?_;repeat' (intro h<;>simp only[h,go_sem,go_sem_proc,dg,yI,w0,pL,Y,br,bU,b0,Q,ef,aK,dT,cg]<;>try refine av ?_ ?_)
   ·have main:∀p q:Int,p.natAbs<dH->q.natAbs<dH->0<q->∃g:Raw,kW (bD p) (bD q)=(g,0)/\g.2.length<=1000000/\jO (bD p) g=(bD (kX p q).num,bD (p.fmod ((iA p.natAbs q.natAbs:Nat):Int)),0)/\jO (bD q) g=(bD (kX p q).den,bD (q.fmod ((iA p.natAbs q.natAbs:Nat):Int)),0):=by
     intro p q aC a9 lC;have nT:=IG aC a9;have Ca:((iA p.natAbs q.natAbs:Nat):Int).natAbs<dH:=by rw[l5];exact nT
     have Mb:=S2 (p:=p) (q:=q) (by omega);obtain⟨E,H⟩:=S0 (p:=p) lC;refine⟨bD ((iA p.natAbs q.natAbs:Nat):Int),?_,mF Ca,?_,?_⟩
     ·unfold kW;rw[ka aC,ka a9,ft,ft];rfl
     ·rw[B0 aC Ca (by omega),E]
     ·rw[B0 a9 Ca (by omega),H]
    have pM:(y.sign==0)=false:=by simpa using ai
    rcases abz ai with jN|hD
    ·have hs:decide (y.sign<0)=true:=by rw[pG jN];rfl
     obtain⟨⟨cG,cO⟩,aU,nT,jw,l2⟩:=main (-x) (-y) (by omega) (by omega) (by omega)
     have hm:g0 (s,l) (s2,aj)=(aE (kX (-x) (-y)),0):=by
      rw[e,ay,yH O ak ai,S3]
     rw[hm];have n6:jd (s,l)=bD (-x):=by unfold jd;rw[Z Y,e,ft]
     have wg:jd (s2,aj)=bD (-y):=by unfold jd;rw[Z br,ay,ft]
     have w2:s2=y.sign:=congrArg ED ay;have hd:(bD (-x)).2.length<=1000000:=mF (by omega);have iB:(bD (-y)).2.length<=1000000:=mF (by omega);clear e ay;unfold aE;generalize bD (-x)=cA at *;generalize bD (-y)=fK at *;obtain⟨bh,cd⟩:=cA;obtain⟨sq,sr⟩:=fK;rw[<-w2] at pM hs;refine a7 ?_;repeat' (intro h<;>simp only[h,go_sem,go_sem_proc,dg,yI,w0,pL,Y,br,bU,b0,pM,hs,n6,wg,hd,iB,aU,nT,jw,l2,ef,aK,fu,gT,cC]<;>try refine av ?_ ?_)
    ·have hs:decide (y.sign<0)=false:=by rw[iP hD];rfl
     obtain⟨⟨cG,cO⟩,aU,nT,jw,l2⟩:=main x y O ak hD
     have hm:g0 (s,l) (s2,aj)=(aE (kX x y),0):=by
      rw[e,ay,yH O ak ai]
     rw[hm];have w2:s2=y.sign:=congrArg ED ay;rw[<-e] at aU jw;rw[<-ay] at aU l2;rw[<-w2] at pM hs;unfold aE;refine a7 ?_;repeat' (intro h<;>simp only[h,go_sem,go_sem_proc,dg,yI,w0,pL,Y,br,bU,b0,pM,hs,aU,nT,jw,l2,ef,aK,fu,gT,cC]<;>try refine av ?_ ?_)
  ·have br:dd (s2,aj)=false:=by simpa using br
   have hm:g0 (s,l) (s2,aj)=(dT,1):=by unfold g0;rw[br,ju];rfl
   rw[hm];refine a7 ?_;repeat' (intro h<;>simp only[h,go_sem,go_sem_proc,dg,yI,w0,pL,Y,br,bU,b0,ef,aK,dT,cg]<;>try refine av ?_ ?_)
 ·have Y:dd (s,l)=false:=by simpa using Y
  have hm:g0 (s,l) (s2,aj)=(dT,1):=by unfold g0;rw[Y,ja];rfl
  rw[hm];refine a7 ?_;repeat' (intro h<;>simp only[h,go_sem,go_sem_proc,dg,yI,w0,pL,Y,bU,b0,ef,aK,dT,cg]<;>try refine av ?_ ?_)
def IW:=cy Io λ(p,q)=>cW (dz p/\dz q) (.same (ef (g0 (bD p) (bD q))))
@[go_sem] theorem anF (p:Int)(q:Int)(G:dz p/\dz q):IW [.int .i64 p,.int .i64 q]=some (.same (ef (g0 (bD p) (bD q)))):=(cK RS (p,q)).trans (c6 G _)
theorem anG (T:bk)(anH:T LJ=aX SH)(IX:T HX=aX MG)(p:Int)(q:Int)(G:dz p/\dz q):WP T SO (.same (ef (g0 (bD p) (bD q)))) [.I (.int .i64 p),.I (.int .i64 q)]:=by
 refine cH ?_;simp only[SO];obtain⟨E,H⟩:=G;have eE:(bD p).2.length<=1000000:=mF (wY E);have aj:(bD q).2.length<=1000000:=mF (wY H);generalize fN:bD p=P at *;generalize fi:bD q=aF at *;obtain⟨bh,cd⟩:=P;obtain⟨sq,sr⟩:=aF;refine a7 ?_;repeat' (intro h<;>simp only[h,go_sem,go_sem_proc,anH,IX,E,H,fN,fi,eE,aj,cC,ef,aK]<;>try refine av ?_ ?_)
def vg (a b c d:Raw):Raw×Int :=
 if ((mulR a b).2==0)=true then (if ((mulR c d).2==0)=true then rq (mulR a b).1 (mulR c d).1 else ((0,[]),(mulR c d).2)) else ((0,[]),(mulR a b).2)
theorem abA (z:Int):(rp z).1.2.length<=1000000:=by
 unfold rp
 split
 ·exact mF (by assumption)
 ·simp
theorem Cb (a b:Raw):(mulR a b).1.2.length<=1000000:=by
 unfold mulR
 split
 ·exact abA _
 ·simp
theorem anI (a b:Raw):(rq a b).1.2.length<=1000000:=by
 unfold rq
 split
 ·exact abA _
 ·simp
theorem anJ (a b c d:Raw):(vg a b c d).1.2.length<=1000000:=by
 unfold vg
 split
 ·split
  ·exact anI _ _
  ·simp
 ·simp
abbrev S4:Int×(List Int)×Int×(List Int)×Int×(List Int)×Int×(List Int)->List Data:=λ(s,l,s2,aj,cM,bQ,cQ,b6)=>[.agg [.int .i64 s,.ae (l.map af)],.agg [.int .i64 s2,.ae (aj.map af)],.agg [.int .i64 cM,.ae (bQ.map af)],.agg [.int .i64 cQ,.ae (b6.map af)]]
def S5:=cy S4 λ(s,l,s2,aj,cM,bQ,cQ,b6)=>cW (D l<=1000000/\D aj<=1000000/\D bQ<=1000000/\D b6<=1000000) (.same (fu (vg (s,l) (s2,aj) (cM,bQ) (cQ,b6))))
theorem anK:∀a b,S4 a=S4 b->a=b:=by
  rintro⟨s1,eE,Ex,Ey,anL,anM,anN,anO⟩ ⟨s2,aj,Ez,EA,anP,anQ,anR,anS⟩ h;simp only[bf,Data.agg.injEq,Data.int.injEq,Data.ae.injEq] at h;exact eN h.1.1.2 (eN (map_inj gY _ _ h.1.2.1) (eN h.2.1.1.2 (eN (map_inj gY _ _ h.2.1.2.1) (eN h.2.2.1.1.2 (eN (map_inj gY _ _ h.2.2.1.2.1) (eN h.2.2.2.1.1.2 (map_inj gY _ _ h.2.2.2.1.2.1)))))))
@[go_sem] theorem aCc (s:Int)(l:List Int)(s2:Int)(aj:List Int)(cM:Int)(bQ:List Int)(cQ:Int)(b6:List Int)(G:(D l)<=1000000/\D aj<=1000000/\D bQ<=1000000/\D b6<=1000000):S5 [.agg [.int .i64 s,.ae (l.map af)],.agg [.int .i64 s2,.ae (aj.map af)],.agg [.int .i64 cM,.ae (bQ.map af)],.agg [.int .i64 cQ,.ae (b6.map af)]]=some (.same (fu (vg (s,l) (s2,aj) (cM,bQ) (cQ,b6)))):=(cK anK (s,l,s2,aj,cM,bQ,cQ,b6)).trans (c6 G _)
theorem anT (T:bk)(pN:T tG=aX Ew)(S6:T Q0=aX SA)(s:Int)(l:List Int)(s2:Int)(aj:List Int)(cM:Int)(bQ:List Int)(cQ:Int)(b6:List Int)(G:(D l)<=1000000/\D aj<=1000000/\D bQ<=1000000/\D b6<=1000000):WP T SU (.same (fu (vg (s,l) (s2,aj) (cM,bQ) (cQ,b6)))) [.I (.agg [.int .i64 s,.ae (l.map af)]),.I (.agg [.int .i64 s2,.ae (aj.map af)]),.I (.agg [.int .i64 cM,.ae (bQ.map af)]),.I (.agg [.int .i64 cQ,.ae (b6.map af)])]:=by
 refine cH ?_;simp only[SU];obtain⟨bU,b0,hd,iB⟩:=G;have dD:=Cb (s,l) (s2,aj);have bY:=Cb (cM,bQ) (cQ,b6);unfold vg;generalize sC:mulR (s,l) (s2,aj)=M1 at *;generalize gC:mulR (cM,bQ) (cQ,b6)=M2 at *;obtain⟨⟨c5,dK⟩,aA⟩:=M1;obtain⟨⟨dR,gQ⟩,ay⟩:=M2;rcases E:(aA==0)
 ·refine a7 ?_;repeat' (intro h<;>simp only[h,go_sem,go_sem_proc,pN,S6,bU,b0,hd,iB,sC,E,dD,bY,fu,cC,cg]<;>try refine av ?_ ?_)
 ·have gD:aA=0:=by simpa using E
  subst gD;rcases H:(ay==0)
  ·refine a7 ?_;repeat' (intro h<;>simp only[h,go_sem,go_sem_proc,pN,S6,bU,b0,hd,iB,sC,gC,E,H,dD,bY,fu,cC,cg]<;>try refine av ?_ ?_)
  ·have iC:ay=0:=by simpa using H
   subst iC;refine a7 ?_;repeat' (intro h<;>simp only[h,go_sem,go_sem_proc,pN,S6,bU,b0,hd,iB,sC,gC,E,dD,bY,fu,cC,cg]<;>try refine av ?_ ?_)
def ua (p:Raw×Int)(q:Raw×Int):bS×Int:=if (p.2==0)=true then (if (q.2==0)=true then g0 p.1 q.1 else (dT,6)) else (dT,6)
abbrev S7:Int×(List Int)×Int×Int×(List Int)×Int->List Data:=λ(s,l,e,s2,aj,ay)=>[.agg [.int .i64 s,.ae (l.map af)],.int .i64 e,.agg [.int .i64 s2,.ae (aj.map af)],.int .i64 ay]
def IY:=cy S7 λ(s,l,e,s2,aj,ay)=>cW (D l<=1000000/\D aj<=1000000) (.same (ef (ua ((s,l),e) ((s2,aj),ay))))
theorem anU:∀a b,S7 a=S7 b->a=b:=by
  rintro⟨s1,eE,aA,Ex,Ey,sG⟩ ⟨s2,aj,ay,Ez,EA,qB⟩ h;simp only[bf,Data.agg.injEq,Data.int.injEq,Data.ae.injEq] at h;exact eN h.1.1.2 (eN (map_inj gY _ _ h.1.2.1) (eN h.2.1.2 (eN h.2.2.1.1.2 (eN (map_inj gY _ _ h.2.2.1.2.1) h.2.2.2.1.2))))
@[go_sem] theorem aCd (s:Int)(l:List Int)(e:Int)(s2:Int)(aj:List Int)(ay:Int)(G:(D l)<=1000000/\D aj<=1000000):IY [.agg [.int .i64 s,.ae (l.map af)],.int .i64 e,.agg [.int .i64 s2,.ae (aj.map af)],.int .i64 ay]=some (.same (ef (ua ((s,l),e) ((s2,aj),ay)))):=(cK anU (s,l,e,s2,aj,ay)).trans (c6 G _)
theorem anV (T:bk)(IX:T HX=aX MG)(s:Int)(l:List Int)(e:Int)(s2:Int)(aj:List Int)(ay:Int)(G:(D l)<=1000000/\D aj<=1000000):WP T SV (.same (ef (ua ((s,l),e) ((s2,aj),ay)))) [.I (.agg [.int .i64 s,.ae (l.map af)]),.I (.int .i64 e),.I (.agg [.int .i64 s2,.ae (aj.map af)]),.I (.int .i64 ay)]:=by
 refine cH ?_;simp only[SV];obtain⟨bU,b0⟩:=G;unfold ua;rcases E:(e==0)
 ·refine a7 ?_;repeat' (intro h<;>simp only[h,go_sem,go_sem_proc,IX,bU,b0,E,ef,aK,dT,cg]<;>try refine av ?_ ?_)
 ·have gD:e=0:=by simpa using E
  subst gD;rcases H:(ay==0)
  ·refine a7 ?_;repeat' (intro h<;>simp only[h,go_sem,go_sem_proc,IX,bU,b0,E,H,ef,aK,dT,cg]<;>try refine av ?_ ?_)
  ·have iC:ay=0:=by simpa using H
   subst iC;refine a7 ?_;repeat' (intro h<;>simp only[h,go_sem,go_sem_proc,IX,bU,b0,E,ef,aK,dT,cg]<;>try refine av ?_ ?_)
def vh (a b:bS):bS×Int:=if eV a=true then (if eV b=true then ua (vg a.1 b.2 b.1 a.2) (mulR a.2 b.2) else (dT,1)) else (dT,1)
def oo (a b:bS):bS×Int:=if eV a=true then (if eV b=true then vh a (jd b.1,b.2) else (dT,1)) else (dT,1)
def nh (a b:bS):bS×Int:=if eV a=true then (if eV b=true then ua (mulR a.1 b.1) (mulR a.2 b.2) else (dT,1)) else (dT,1)
def je (a b:bS):bS×Int:=if eV a=true then (if eV b=true then (if (b.1.1==0)=true then (dT,15) else ua (mulR a.1 b.2) (mulR a.2 b.1)) else (dT,1)) else (dT,1)
theorem anW (a:Raw)(h:a.2.length<=1000000):(jd a).2.length<=1000000:=by
 unfold jd
 split
 ·rename_i Y;obtain⟨z,aR,e⟩:=(jc _).1 Y;rw[e,ft];exact mF (by omega)
 ·simp
abbrev Af:Int×(List Int)×Int×(List Int)×Int×(List Int)×Int×(List Int)->List Data:=λ(s,l,s2,aj,cM,bQ,cQ,b6)=>[.agg [.int .i64 s,.ae (l.map af),.int .i64 s2,.ae (aj.map af)],.agg [.int .i64 cM,.ae (bQ.map af),.int .i64 cQ,.ae (b6.map af)]]
def Cc:=cy Af λ(s,l,s2,aj,cM,bQ,cQ,b6)=>cW (D l<=1000000/\D aj<=1000000/\D bQ<=1000000/\D b6<=1000000) (.same (ef (vh ((s,l),(s2,aj)) ((cM,bQ),(cQ,b6)))))
theorem EE:∀a b,Af a=Af b->a=b:=by
  rintro⟨s1,eE,Ex,Ey,anL,anM,anN,anO⟩ ⟨s2,aj,Ez,EA,anP,anQ,anR,anS⟩ h;simp only[bf,Data.agg.injEq,Data.int.injEq,Data.ae.injEq] at h;exact eN h.1.1.2 (eN (map_inj gY _ _ h.1.2.1) (eN h.1.2.2.1.2 (eN (map_inj gY _ _ h.1.2.2.2.1) (eN h.2.1.1.2 (eN (map_inj gY _ _ h.2.1.2.1) (eN h.2.1.2.2.1.2 (map_inj gY _ _ h.2.1.2.2.2.1)))))))
@[go_sem] theorem anX (s:Int)(l:List Int)(s2:Int)(aj:List Int)(cM:Int)(bQ:List Int)(cQ:Int)(b6:List Int)(G:(D l)<=1000000/\D aj<=1000000/\D bQ<=1000000/\D b6<=1000000):Cc [.agg [.int .i64 s,.ae (l.map af),.int .i64 s2,.ae (aj.map af)],.agg [.int .i64 cM,.ae (bQ.map af),.int .i64 cQ,.ae (b6.map af)]]=some (.same (ef (vh ((s,l),(s2,aj)) ((cM,bQ),(cQ,b6))))):=(cK EE (s,l,s2,aj,cM,bQ,cQ,b6)).trans (c6 G _)
theorem anY (T:bk)(gE:T m6=aX yG)(S8:T QS=aX S5)(pN:T tG=aX Ew)(ub:T BB=aX IY)(s:Int)(l:List Int)(s2:Int)(aj:List Int)(cM:Int)(bQ:List Int)(cQ:Int)(b6:List Int)(G:(D l)<=1000000/\D aj<=1000000/\D bQ<=1000000/\D b6<=1000000):WP T SN (.same (ef (vh ((s,l),(s2,aj)) ((cM,bQ),(cQ,b6))))) [.I (.agg [.int .i64 s,.ae (l.map af),.int .i64 s2,.ae (aj.map af)]),.I (.agg [.int .i64 cM,.ae (bQ.map af),.int .i64 cQ,.ae (b6.map af)])]:=by
 refine cH ?_;simp only[SN];obtain⟨bU,b0,hd,iB⟩:=G;unfold vh
 by_cases Y:eV ((s,l),(s2,aj))=true
 ·by_cases br:eV ((cM,bQ),(cQ,b6))=true
  ·have dD:=anJ (s,l) (cQ,b6) (cM,bQ) (s2,aj);have bY:=Cb (s2,aj) (cQ,b6);rw[Z Y,Z br];dsimp only;generalize sC:vg (s,l) (cQ,b6) (cM,bQ) (s2,aj)=M1 at *;generalize gC:mulR (s2,aj) (cQ,b6)=M2 at *;obtain⟨⟨c5,dK⟩,aA⟩:=M1;obtain⟨⟨dR,gQ⟩,ay⟩:=M2;refine a7 ?_;repeat' (intro h<;>simp only[h,go_sem,go_sem_proc,gE,S8,pN,ub,bU,b0,hd,iB,Y,br,sC,gC,dD,bY,fu,cC,ef,aK]<;>try refine av ?_ ?_)
  ·have br:eV ((cM,bQ),(cQ,b6))=false:=by simpa using br
   rw[Z Y,aa (by simp[br])];refine a7 ?_;repeat' (intro h<;>simp only[h,go_sem,go_sem_proc,gE,S8,pN,ub,bU,b0,hd,iB,Y,br,ef,aK,dT,cg]<;>try refine av ?_ ?_)
 ·have Y:eV ((s,l),(s2,aj))=false:=by simpa using Y
  rw[aa (by simp[Y])];refine a7 ?_;repeat' (intro h<;>simp only[h,go_sem,go_sem_proc,gE,S8,pN,ub,bU,b0,hd,iB,Y,ef,aK,dT,cg]<;>try refine av ?_ ?_)
def w3:=cy Af λ(s,l,s2,aj,cM,bQ,cQ,b6)=>cW (D l<=1000000/\D aj<=1000000/\D bQ<=1000000/\D b6<=1000000) (.same (ef (oo ((s,l),(s2,aj)) ((cM,bQ),(cQ,b6)))))
@[go_sem] theorem anZ (s:Int)(l:List Int)(s2:Int)(aj:List Int)(cM:Int)(bQ:List Int)(cQ:Int)(b6:List Int)(G:(D l)<=1000000/\D aj<=1000000/\D bQ<=1000000/\D b6<=1000000):w3 [.agg [.int .i64 s,.ae (l.map af),.int .i64 s2,.ae (aj.map af)],.agg [.int .i64 cM,.ae (bQ.map af),.int .i64 cQ,.ae (b6.map af)]]=some (.same (ef (oo ((s,l),(s2,aj)) ((cM,bQ),(cQ,b6))))):=(cK EE (s,l,s2,aj,cM,bQ,cQ,b6)).trans (c6 G _)
theorem an0 (T:bk)(gE:T m6=aX yG)(yI:T DW=aX Mr)(w4:T zQ=aX Cc)(s:Int)(l:List Int)(s2:Int)(aj:List Int)(cM:Int)(bQ:List Int)(cQ:Int)(b6:List Int)(G:(D l)<=1000000/\D aj<=1000000/\D bQ<=1000000/\D b6<=1000000):WP T SP (.same (ef (oo ((s,l),(s2,aj)) ((cM,bQ),(cQ,b6))))) [.I (.agg [.int .i64 s,.ae (l.map af),.int .i64 s2,.ae (aj.map af)]),.I (.agg [.int .i64 cM,.ae (bQ.map af),.int .i64 cQ,.ae (b6.map af)])]:=by
 refine cH ?_;simp only[SP];obtain⟨bU,b0,hd,iB⟩:=G;unfold oo
 by_cases Y:eV ((s,l),(s2,aj))=true
 ·by_cases br:eV ((cM,bQ),(cQ,b6))=true
  ·have dD:=anW (cM,bQ) hd;rw[Z Y,Z br];dsimp only;generalize sC:jd (cM,bQ)=M1 at *;obtain⟨c5,dK⟩:=M1;refine a7 ?_;repeat' (intro h<;>simp only[h,go_sem,go_sem_proc,gE,yI,w4,bU,b0,hd,iB,Y,br,sC,dD,fu,cC,ef,aK]<;>try refine av ?_ ?_)
  ·have br:eV ((cM,bQ),(cQ,b6))=false:=by simpa using br
   rw[Z Y,aa (by simp[br])];refine a7 ?_;repeat' (intro h<;>simp only[h,go_sem,go_sem_proc,gE,yI,w4,bU,b0,hd,iB,Y,br,ef,aK,dT,cg]<;>try refine av ?_ ?_)
 ·have Y:eV ((s,l),(s2,aj))=false:=by simpa using Y
  rw[aa (by simp[Y])];refine a7 ?_;repeat' (intro h<;>simp only[h,go_sem,go_sem_proc,gE,yI,w4,bU,b0,hd,iB,Y,ef,aK,dT,cg]<;>try refine av ?_ ?_)
def w5:=cy Af λ(s,l,s2,aj,cM,bQ,cQ,b6)=>cW (D l<=1000000/\D aj<=1000000/\D bQ<=1000000/\D b6<=1000000) (.same (ef (nh ((s,l),(s2,aj)) ((cM,bQ),(cQ,b6)))))
@[go_sem] theorem an1 (s:Int)(l:List Int)(s2:Int)(aj:List Int)(cM:Int)(bQ:List Int)(cQ:Int)(b6:List Int)(G:(D l)<=1000000/\D aj<=1000000/\D bQ<=1000000/\D b6<=1000000):w5 [.agg [.int .i64 s,.ae (l.map af),.int .i64 s2,.ae (aj.map af)],.agg [.int .i64 cM,.ae (bQ.map af),.int .i64 cQ,.ae (b6.map af)]]=some (.same (ef (nh ((s,l),(s2,aj)) ((cM,bQ),(cQ,b6))))):=(cK EE (s,l,s2,aj,cM,bQ,cQ,b6)).trans (c6 G _)
theorem an2 (T:bk)(gE:T m6=aX yG)(pN:T tG=aX Ew)(ub:T BB=aX IY)(s:Int)(l:List Int)(s2:Int)(aj:List Int)(cM:Int)(bQ:List Int)(cQ:Int)(b6:List Int)(G:(D l)<=1000000/\D aj<=1000000/\D bQ<=1000000/\D b6<=1000000):WP T SQ (.same (ef (nh ((s,l),(s2,aj)) ((cM,bQ),(cQ,b6))))) [.I (.agg [.int .i64 s,.ae (l.map af),.int .i64 s2,.ae (aj.map af)]),.I (.agg [.int .i64 cM,.ae (bQ.map af),.int .i64 cQ,.ae (b6.map af)])]:=by
 refine cH ?_;simp only[SQ];obtain⟨bU,b0,hd,iB⟩:=G;unfold nh
 by_cases Y:eV ((s,l),(s2,aj))=true
 ·by_cases br:eV ((cM,bQ),(cQ,b6))=true
  ·have dD:=Cb (s,l) (cM,bQ);have bY:=Cb (s2,aj) (cQ,b6);rw[Z Y,Z br];dsimp only;generalize sC:mulR (s,l) (cM,bQ)=M1 at *;generalize gC:mulR (s2,aj) (cQ,b6)=M2 at *;obtain⟨⟨c5,dK⟩,aA⟩:=M1;obtain⟨⟨dR,gQ⟩,ay⟩:=M2;refine a7 ?_;repeat' (intro h<;>simp only[h,go_sem,go_sem_proc,gE,pN,ub,bU,b0,hd,iB,Y,br,sC,gC,dD,bY,fu,cC,ef,aK]<;>try refine av ?_ ?_)
  ·have br:eV ((cM,bQ),(cQ,b6))=false:=by simpa using br
   rw[Z Y,aa (by simp[br])];refine a7 ?_;repeat' (intro h<;>simp only[h,go_sem,go_sem_proc,gE,pN,ub,bU,b0,hd,iB,Y,br,ef,aK,dT,cg]<;>try refine av ?_ ?_)
 ·have Y:eV ((s,l),(s2,aj))=false:=by simpa using Y
  rw[aa (by simp[Y])];refine a7 ?_;repeat' (intro h<;>simp only[h,go_sem,go_sem_proc,gE,pN,ub,bU,b0,hd,iB,Y,ef,aK,dT,cg]<;>try refine av ?_ ?_)
def Cd:=cy Af λ(s,l,s2,aj,cM,bQ,cQ,b6)=>cW (D l<=1000000/\D aj<=1000000/\D bQ<=1000000/\D b6<=1000000) (.same (ef (je ((s,l),(s2,aj)) ((cM,bQ),(cQ,b6)))))
@[go_sem] theorem an3 (s:Int)(l:List Int)(s2:Int)(aj:List Int)(cM:Int)(bQ:List Int)(cQ:Int)(b6:List Int)(G:(D l)<=1000000/\D aj<=1000000/\D bQ<=1000000/\D b6<=1000000):Cd [.agg [.int .i64 s,.ae (l.map af),.int .i64 s2,.ae (aj.map af)],.agg [.int .i64 cM,.ae (bQ.map af),.int .i64 cQ,.ae (b6.map af)]]=some (.same (ef (je ((s,l),(s2,aj)) ((cM,bQ),(cQ,b6))))):=(cK EE (s,l,s2,aj,cM,bQ,cQ,b6)).trans (c6 G _)
theorem an4 (T:bk)(gE:T m6=aX yG)(pN:T tG=aX Ew)(ub:T BB=aX IY)(s:Int)(l:List Int)(s2:Int)(aj:List Int)(cM:Int)(bQ:List Int)(cQ:Int)(b6:List Int)(G:(D l)<=1000000/\D aj<=1000000/\D bQ<=1000000/\D b6<=1000000):WP T SX (.same (ef (je ((s,l),(s2,aj)) ((cM,bQ),(cQ,b6))))) [.I (.agg [.int .i64 s,.ae (l.map af),.int .i64 s2,.ae (aj.map af)]),.I (.agg [.int .i64 cM,.ae (bQ.map af),.int .i64 cQ,.ae (b6.map af)])]:=by
 refine cH ?_;simp only[SX];obtain⟨bU,b0,hd,iB⟩:=G;unfold je
 by_cases Y:eV ((s,l),(s2,aj))=true
 ·by_cases br:eV ((cM,bQ),(cQ,b6))=true
  ·rw[Z Y,Z br];dsimp only;rcases ai:(cM==0)
   ·have dD:=Cb (s,l) (cQ,b6);have bY:=Cb (s2,aj) (cM,bQ);rw[aa (by simp)];generalize sC:mulR (s,l) (cQ,b6)=M1 at *;generalize gC:mulR (s2,aj) (cM,bQ)=M2 at *;obtain⟨⟨c5,dK⟩,aA⟩:=M1;obtain⟨⟨dR,gQ⟩,ay⟩:=M2;refine a7 ?_;repeat' (intro h<;>simp only[h,go_sem,go_sem_proc,gE,pN,ub,bU,b0,hd,iB,Y,br,ai,sC,gC,dD,bY,fu,cC,ef,aK]<;>try refine av ?_ ?_)
   ·rw[Z rfl];refine a7 ?_;repeat' (intro h<;>simp only[h,go_sem,go_sem_proc,gE,pN,ub,bU,b0,hd,iB,Y,br,ai,ef,aK,dT,cg]<;>try refine av ?_ ?_)
  ·have br:eV ((cM,bQ),(cQ,b6))=false:=by simpa using br
   rw[Z Y,aa (by simp[br])];refine a7 ?_;repeat' (intro h<;>simp only[h,go_sem,go_sem_proc,gE,pN,ub,bU,b0,hd,iB,Y,br,ef,aK,dT,cg]<;>try refine av ?_ ?_)
 ·have Y:eV ((s,l),(s2,aj))=false:=by simpa using Y
  rw[aa (by simp[Y])];refine a7 ?_;repeat' (intro h<;>simp only[h,go_sem,go_sem_proc,gE,pN,ub,bU,b0,hd,iB,Y,ef,aK,dT,cg]<;>try refine av ?_ ?_)
def IZ (c:Bool)(v:Rat):bS×Int:=if c=true then (aE v,0) else (dT,6)
def h6 (z:Int):Bool:=decide (z.natAbs<dH)
def oZ (x y:Rat):Bool:=h6 (x.num*y.den)&&(h6 (y.num*x.den)&&(h6 (x.num*y.den+y.num*x.den)&&h6 ((x.den:Int)*y.den)))
def yJ (x y:Rat):Bool:=h6 (x.num*y.num)&&h6 ((x.den:Int)*y.den)
def vi (x y:Rat):Bool:=h6 (x.num*y.den)&&h6 ((x.den:Int)*y.num)
theorem Ag {z:Int}(h:h6 z=true):rp z=(bD z,0):=Z (by simpa [h6] using h)
theorem Ah {z:Int}(h:h6 z=false):rp z=((0,[]),6):=aa (by simpa [h6] using h)
theorem pO {z:Int}(h:h6 z=true):z.natAbs<dH:=by simpa [h6] using h
theorem an5 {a b c d:Int}(aZ:a.natAbs<dH)(ad:b.natAbs<dH)(G:c.natAbs<dH)(X:d.natAbs<dH):
  vg (bD a) (bD b) (bD c) (bD d)=if (h6 (a*b)&&(h6 (c*d)&&h6 (a*b+c*d)))=true then (bD (a*b+c*d),0) else ((0,[]),6):=by
 unfold vg;rw[Aa aZ ad,Aa G X];rcases E:h6 (a*b)
 ·rw[Ah E];rfl
 ·rw[Ag E];rcases H:h6 (c*d)
  ·rw[Ah H];rfl
  ·rw[Ag H];show rq (bD (a*b)) (bD (c*d))=_;rw[abl (pO E) (pO H)];rcases ab:h6 (a*b+c*d)
   ·rw[Ah ab];rfl
   ·rw[Ag ab];rfl
theorem S9 (x y:Rat):kX (x.num*y.den+y.num*x.den) ((x.den:Int)*y.den)=x+y:=by
 rw[<-Rat.divInt_add_divInt _ _ (by have:=den_pos x;omega) (by have:=den_pos y;omega),B8,B8]
theorem Ta (x y:Rat):kX (x.num*y.num) ((x.den:Int)*y.den)=x*y:=by
 rw[<-abB,B8,B8]
theorem abC (x y:Rat):kX (x.num*y.den) ((x.den:Int)*y.num)=x/y:=by
 rw[<-abB,B8,<-Rat.inv_divInt,B8]
 rfl
theorem w6 (x:Rat):(x.den:Int)≠0:=by have:=den_pos x;omega
theorem abD {x y:Rat}(O:dI x)(ak:dI y):vh (aE x) (aE y)=IZ (oZ x y) (x+y):=by
 unfold vh;rw[Z (wZ O),Z (wZ ak)];show ua (vg (bD x.num) (bD y.den) (bD y.num) (bD x.den)) (mulR (bD x.den) (bD y.den))=_;rw[an5 O.1 (vf ak) ak.1 (vf O),Aa (vf O) (vf ak)];unfold oZ;rcases E:h6 (x.num*y.den)
 ·rfl
 ·rcases H:h6 (y.num*x.den)
  ·rfl
  ·rcases ab:h6 (x.num*y.den+y.num*x.den)
   ·rfl
   ·rcases aM:h6 ((x.den:Int)*y.den)
    ·rw[Ah aM];rfl
    ·rw[Ag aM];show g0 (bD (x.num*y.den+y.num*x.den)) (bD ((x.den:Int)*y.den))=(aE (x+y),0)
     rw[yH (pO ab) (pO aM) (Ai (w6 x) (w6 y)),S9]
theorem an6 {x:Rat}(h:dI x):dI (-x):=⟨by rw[Rat.neg_num];have:=h.1;omega,by rw[Rat.neg_den];exact h.2⟩
theorem MH {x y:Rat}(O:dI x)(ak:dI y):oo (aE x) (aE y)=IZ (oZ x (-y)) (x-y):=by
 unfold oo;rw[Z (wZ O),Z (wZ ak)]
 have:(jd (aE y).1,(aE y).2)=aE (-y):=by
  unfold aE;have:jd (bD y.num)=bD (-y.num):=by unfold jd;rw[Z (ka ak.1),ft]
  dsimp only;rw[this];rfl
 rw[this,abD O (an6 ak),abE]
theorem Tb {x y:Rat}(O:dI x)(ak:dI y):nh (aE x) (aE y)=IZ (yJ x y) (x*y):=by
 unfold nh;rw[Z (wZ O),Z (wZ ak)];show ua (mulR (bD x.num) (bD y.num)) (mulR (bD x.den) (bD y.den))=_;rw[Aa O.1 ak.1,Aa (vf O) (vf ak)];unfold yJ;rcases E:h6 (x.num*y.num)
 ·rw[Ah E];rfl
 ·rw[Ag E];rcases aM:h6 ((x.den:Int)*y.den)
  ·rw[Ah aM];rfl
  ·rw[Ag aM];show g0 (bD (x.num*y.num)) (bD ((x.den:Int)*y.den))=(aE (x*y),0)
   rw[yH (pO E) (pO aM) (Ai (w6 x) (w6 y)),Ta]
theorem MI {x y:Rat}(O:dI x)(ak:dI y)(ai:y≠0):je (aE x) (aE y)=IZ (vi x y) (x/y):=by
 unfold je;rw[Z (wZ O),Z (wZ ak)];have aG:y.num≠0:=λh=>ai (Rat.num_eq_zero.1 h)
 have:((aE y).1.1==0)=false:=by
  show (y.num.sign==0)=false
  simpa using aG
 rw[this,aa (by simp)];show ua (mulR (bD x.num) (bD y.den)) (mulR (bD x.den) (bD y.num))=_;rw[Aa O.1 (vf ak),Aa (vf O) ak.1];unfold vi;rcases E:h6 (x.num*y.den)
 ·rw[Ah E];rfl
 ·rw[Ag E];rcases aM:h6 ((x.den:Int)*y.num)
  ·rw[Ah aM];rfl
  ·rw[Ag aM];show g0 (bD (x.num*y.den)) (bD ((x.den:Int)*y.num))=(aE (x/y),0)
   rw[yH (pO E) (pO aM) (Ai (w6 x) aG),abC]
theorem an7 {x y:Rat}(h:oZ x y=true):dI (x+y):=by
 unfold oZ at h;simp only[e3] at h;rw[<-S9];exact MF (pO h.2.2.1) (pO h.2.2.2)
theorem abF {x y:Rat}(h:oZ x (-y)=true):dI (x-y):=by rw[abE];exact an7 h
theorem abG {x y:Rat}(h:yJ x y=true):dI (x*y):=by
 unfold yJ at h;simp only[e3] at h;rw[<-Ta];exact MF (pO h.1) (pO h.2)
theorem an8 {x y:Rat}(h:vi x y=true):dI (x/y):=by
 unfold vi at h;simp only[e3] at h;rw[<-abC];exact MF (pO h.1) (pO h.2)
def ni (x y:Rat):Int:=(x.num*y.den-y.num*x.den).sign
def qC (a b:bS):Int:=if eV a=true then (if eV b=true then (hU a.1*hU b.2-hU b.1*hU a.2).sign else 0) else 0
theorem Tc {x y:Rat}(O:dI x)(ak:dI y):qC (aE x) (aE y)=ni x y:=by
 unfold qC;rw[Z (wZ O),Z (wZ ak)];unfold aE ni;rw[ft,ft,ft,ft]
theorem MJ {p q:Int}(a9:0<q):0<=p.fmod q/\p.fmod q<q:=⟨Int.fmod_nonneg_of_pos _ a9,Int.fmod_lt_of_pos _ a9⟩
theorem abH {p q r s:Int}(a9:0<q)(Q:0<s)(h:p.fdiv q<r.fdiv s):p*s-r*q<0:=by
 have aA:=MK p q;have ay:=MK r s;have dR:=MJ (p:=p) a9;have gQ:=MJ (p:=r) Q;generalize p.fdiv q=x at *;generalize r.fdiv s=y at *;generalize p.fmod q=u at *;generalize r.fmod s=v at *;subst aA ay;have E:q*s*(x+1)<=q*s*y:=Int.mul_le_mul_of_nonneg_left (by omega) (Mz (Int.mul_pos a9 Q));have H:u*s<q*s:=Int.mul_lt_mul_of_pos_right dR.2 Q;have ab:0<=v*q:=qw gQ.1 (by omega);have cV:(q*x+u)*s-(s*y+v)*q=q*s*(x+1)-q*s*y+(u*s-q*s)-v*q:=by grind
 omega
theorem an9 {p q r s:Int}(h:p.fdiv q=r.fdiv s):p*s-r*q=p.fmod q*s-r.fmod s*q:=by
 have aA:=MK p q;have ay:=MK r s;rw[h] at aA;generalize r.fdiv s=y at *;generalize p.fmod q=u at *;generalize r.fmod s=v at *;subst aA ay;grind
theorem abI (a b:Int):(a-b).sign = -(b-a).sign:=by rw[<-BZ];congr 1;omega
theorem abJ {p q:Int}(aC:p.natAbs<dH)(a9:q.natAbs<dH)(ai:0<q):
  jO (p.sign,aD p.natAbs) (q.sign,aD q.natAbs)=(((p.fdiv q).sign,aD (p.fdiv q).natAbs),((p.fmod q).sign,aD (p.fmod q).natAbs),0):=B0 aC a9 (by omega)
def vj:=cy Af λ(s,l,s2,aj,cM,bQ,cQ,b6)=>cW (D l<=1000000/\D aj<=1000000/\D bQ<=1000000/\D b6<=1000000) (.same (.int .i64 (qC ((s,l),(s2,aj)) ((cM,bQ),(cQ,b6)))))
@[go_sem] theorem abK (s:Int)(l:List Int)(s2:Int)(aj:List Int)(cM:Int)(bQ:List Int)(cQ:Int)(b6:List Int)(G:(D l)<=1000000/\D aj<=1000000/\D bQ<=1000000/\D b6<=1000000):vj [.agg [.int .i64 s,.ae (l.map af),.int .i64 s2,.ae (aj.map af)],.agg [.int .i64 cM,.ae (bQ.map af),.int .i64 cQ,.ae (b6.map af)]]=some (.same (.int .i64 (qC ((s,l),(s2,aj)) ((cM,bQ),(cQ,b6))))):=(cK EE (s,l,s2,aj,cM,bQ,cQ,b6)).trans (c6 G _)
theorem aoa (T:bk)(gE:T m6=aX yG)(pL:T BC=aX My)(w7:T QY=aX SB)(s:Int)(l:List Int)(s2:Int)(aj:List Int)(cM:Int)(bQ:List Int)(cQ:Int)(b6:List Int)(G:(D l)<=1000000/\D aj<=1000000/\D bQ<=1000000/\D b6<=1000000):WP T SR (.same (.int .i64 (qC ((s,l),(s2,aj)) ((cM,bQ),(cQ,b6))))) [.I (.agg [.int .i64 s,.ae (l.map af),.int .i64 s2,.ae (aj.map af)]),.I (.agg [.int .i64 cM,.ae (bQ.map af),.int .i64 cQ,.ae (b6.map af)])]:=by
 refine cH ?_;simp only[SR];obtain⟨bU,b0,hd,iB⟩:=G
 by_cases Y:eV ((s,l),(s2,aj))=true
 ·by_cases br:eV ((cM,bQ),(cQ,b6))=true
  ·obtain⟨x,O,e⟩:=(IU _).1 Y;obtain⟨y,ak,ay⟩:=(IU _).1 br;have hm:qC ((s,l),(s2,aj)) ((cM,bQ),(cQ,b6))=ni x y:=by rw[e,ay,Tc O ak]
   rw[hm];clear hm;have aob:(s,l)=bD x.num:=congrArg ED e;have Td:(s2,aj)=bD x.den:=congrArg Prod.snd e;have aoc:(cM,bQ)=bD y.num:=congrArg ED ay;have aod:(cQ,b6)=bD y.den:=congrArg Prod.snd ay;clear e ay;have lI:=vf O;have vk:=vf ak;have hV:=den_pos x;have ie:=den_pos y;have aoe:=O.1;have P4:=ak.1;unfold ni;generalize x.num=P at *;generalize (x.den:Int)=aF at *;generalize y.num=bZ at *;generalize (y.den:Int)=S at *
   cases aob
   cases Td
   cases aoc
   cases aod;simp only[go_sem,go_sem_proc,gE,pL,w7,bU,b0,hd,iB,Y,br];refine dG [5,6,7,8] [135002,135003] (λ((pP,p,q,r,t):Int×Int×Int×Int×Int) tm mem=>(pP=1\/pP = -1)/\0<q/\0<t/\p.natAbs<dH/\q.natAbs<dH/\r.natAbs<dH/\t.natAbs<dH/\(P*S-bZ*aF).sign=pP*(p*t-r*q).sign/\tm 9=.I (.int .i64 pP)/\mem 135005=some (0,[.I (.int .i64 p.sign),.I (.ae ((aD p.natAbs).map af))])/\mem 135006=some (0,[.I (.int .i64 q.sign),.I (.ae ((aD q.natAbs).map af))])/\mem 135007=some (0,[.I (.int .i64 r.sign),.I (.ae ((aD r.natAbs).map af))])/\mem 135008=some (0,[.I (.int .i64 t.sign),.I (.ae ((aD t.natAbs).map af))])) (λ(_,_,q,_,_)=>q.natAbs) (1,P,aF,bZ,S) (by refine⟨.inl rfl,hV,ie,aoe,lI,P4,vk,by rw[nb],rfl,?_,?_,?_,?_⟩<;>rfl) ?_;intro vs ms aV aS;simp only[go_sem,go_sem_proc,gE,pL,w7] at aV aS;subst aV aS;rintro⟨pP,p,q,r,t⟩ tm mem J hm ⟨w8,lC,I0,aC,a9,Aj,bI,hl,ix,I1,l6,kd,Ce⟩;simp only[go_sem,go_sem_proc,gE,pL,w7,bf] at J hm;obtain⟨bj,bH,bA,bT⟩:=J;have I2:=mF aC;have I3:=mF a9;have Ak:=mF Aj;have lt:=mF bI;have jw:=abJ aC a9 lC;have l2:=abJ Aj bI I0;have abL:=EB (y:=q) aC (by omega);have I4:=EB (y:=t) Aj (by omega);have EF:=mF abL;have I5:=mF I4;have gr:vc ((p.fdiv q).sign,aD (p.fdiv q).natAbs) ((r.fdiv t).sign,aD (r.fdiv t).natAbs)=hb (p.fdiv q) (r.fdiv t):=abm abL I4;have aCe:=MJ (p:=p) lC;have bv:=MJ (p:=r) I0;have aof:IntKind.i64.wrap (0-pP) = -pP:=by rcases w8 with rfl|rfl<;>rfl
   rcases wN (p.fdiv q) (r.fdiv t) with ao|heq|ic
   ·have aI:=abH lC I0 ao;rw[ID ao] at gr;rw[hl,pG aI];have hw:IntKind.i64.wrap (pP * -1)=pP * -1:=by rcases w8 with rfl|rfl<;>rfl
    refine a7 ?_;repeat' (intro h<;>simp only[h,go_sem,go_sem_proc,gE,pL,w7,bj,bH,bA,bT,ix,hm,I1,l6,kd,Ce,I2,I3,Ak,lt,EF,I5,jw,l2,gr,hw,gT,cC,show ((-1:Int)==0)=false from rfl]<;>try refine av ?_ ?_)
   ·have aI:=an9 heq;rw[heq,Mu] at gr
    have e9:∀a:Int,-1<=a->a<=1->IntKind.i64.wrap (pP*a)=pP*a:=by
     intro a E H;rcases w8 with rfl|rfl<;>exact wrap64 _ (by omega) (by omega)
    rw[heq] at jw EF;have aCf:(p.fmod q).natAbs<dH:=by omega
    have aCg:(r.fmod t).natAbs<dH:=by omega
    rw[aI] at hl;generalize p.fmod q=u at *;generalize r.fmod t=v at *
    by_cases hu:u=0
    ·subst hu
     have Q:(0*t-v*q).sign=(0:Int).sign-v.sign:=by
      rw[wW,abM,BZ,pH,iP lC,tN,w9,abM]
     rw[Q] at hl;rw[hl];have ab:=qA v;have z7:IntKind.i64.wrap ((0:Int).sign-v.sign)=(0:Int).sign-v.sign:=wrap64 _ (by rw[w9];omega) (by rw[w9];omega);have hw:=e9 ((0:Int).sign-v.sign) (by rw[w9];omega) (by rw[w9];omega);refine a7 ?_;repeat' (intro h<;>simp only[h,go_sem,go_sem_proc,gE,pL,w7,bj,bH,bA,bT,ix,hm,I1,l6,kd,Ce,I2,I3,Ak,lt,EF,I5,jw,l2,gr,hw,z7,gT,cC,show ((0:Int)==0)=true from rfl,show ((0:Int).sign==0)=true from rfl]<;>try refine av ?_ ?_)
    ·have B4:0<u:=by omega
     have Te:(u.sign==0)=false:=by simpa using hu
     by_cases Dz:v=0
     ·subst Dz
      have Q:(u*t-0*q).sign=u.sign-(0:Int).sign:=by
       rw[wW,It,pH,iP I0,tN,w9,It]
      rw[Q] at hl;rw[hl];have ab:=qA u;have z7:IntKind.i64.wrap (u.sign-(0:Int).sign)=u.sign-(0:Int).sign:=wrap64 _ (by rw[w9];omega) (by rw[w9];omega);have hw:=e9 (u.sign-(0:Int).sign) (by rw[w9];omega) (by rw[w9];omega);refine a7 ?_;repeat' (intro h<;>simp only[h,go_sem,go_sem_proc,gE,pL,w7,bj,bH,bA,bT,ix,hm,I1,l6,kd,Ce,I2,I3,Ak,lt,EF,I5,jw,l2,gr,hw,z7,Te,gT,cC,show ((0:Int)==0)=true from rfl,show ((0:Int).sign==0)=true from rfl]<;>try refine av ?_ ?_)
     ·have wh:(v.sign==0)=false:=by simpa using Dz
      refine a7 ?_;repeat' (intro h<;>simp only[h,go_sem,go_sem_proc,gE,pL,w7,bj,bH,bA,bT,ix,hm,I1,l6,kd,Ce,I2,I3,Ak,lt,EF,I5,jw,l2,gr,Te,wh,aof,gT,cC,show ((0:Int)==0)=true from rfl]<;>try refine av ?_ ?_)
      refine⟨(-pP,q,u,t,v),by dsimp only;omega,by dsimp only;omega,by dsimp only;omega,by dsimp only;omega,by dsimp only;omega,by dsimp only;omega,by dsimp only;omega,by dsimp only;omega,?_,by simp[go_sem],by simp[go_sem],by simp[go_sem],by simp[go_sem],by simp[go_sem]⟩
      dsimp only;rw[hl,abI (q*v) (t*u),Int.neg_mul_neg,mz t u,mz q v]
   ·have aI:=abH I0 lC ic;rw[IE ic] at gr;rw[hl,abI,pG aI];have hw:IntKind.i64.wrap (pP*1)=pP * -(-1):=by rcases w8 with rfl|rfl<;>rfl
    refine a7 ?_;repeat' (intro h<;>simp only[h,go_sem,go_sem_proc,gE,pL,w7,bj,bH,bA,bT,ix,hm,I1,l6,kd,Ce,I2,I3,Ak,lt,EF,I5,jw,l2,gr,hw,gT,cC,show ((1:Int)==0)=false from rfl]<;>try refine av ?_ ?_)
  ·have br:eV ((cM,bQ),(cQ,b6))=false:=by simpa using br
   have hm:qC ((s,l),(s2,aj)) ((cM,bQ),(cQ,b6))=0:=by unfold qC;rw[Z Y,aa (by simp[br])]
   rw[hm];refine a7 ?_;repeat' (intro h<;>simp only[h,go_sem,go_sem_proc,gE,pL,w7,bU,b0,hd,iB,Y,br]<;>try refine av ?_ ?_)
 ·have Y:eV ((s,l),(s2,aj))=false:=by simpa using Y
  have hm:qC ((s,l),(s2,aj)) ((cM,bQ),(cQ,b6))=0:=by unfold qC;rw[aa (by simp[Y])]
  rw[hm];refine a7 ?_;repeat' (intro h<;>simp only[h,go_sem,go_sem_proc,gE,pL,w7,bU,b0,hd,iB,Y]<;>try refine av ?_ ?_)
def Tf:b5:=cx 22 2 [.t 4] (R [dW 3 108003 1,du 4 false] (.seq (R [aN 6 1 3,bg 7 .lss 6 0,F 8 7,⟨some 9,some (8,false),.load 1 false (.t 3)⟩,⟨some 10,some (8,false),.bin .gtr (.t 9) (.c (ah 40))⟩,eo 11 8 10,F 12 11,⟨some 13,some (12,false),.cn (.t 0)⟩,⟨some 14,some (12,false),.len (.t 13)⟩,⟨some 15,some (12,false),.load 1 false (.t 3)⟩,⟨some 16,some (12,false),.bin .neq (.t 14) (.t 15)⟩,eo 17 12 16] (a6 17 (R [du 4 false] .ret) .skip)) (R [(az 5 (.alloc 108005 [(.I .tj)])),⟨none,none,.store 1 (.t 5) (.c (.fR mA []))⟩] (R [F 18 0,(az 19 (.tk zR [(.t 3),(.t 5)])),(cj 20 QN 18 19),gv 21 20,F 4 21] .ret))))
def Tg:b5:=cx 48 2 [.t 4,.t 5] (R [eD 4,bs 5 0] (.seq (R [F 11 0,F 12 1,(cj 13 QJ 11 12),gv 14 13] (a6 14 (R [eD 4,bs 5 1] .ret) .skip)) (R [F 16 0,F 17 1,(az 18 (.call QP [(.t 16),(.t 17),(.c (.I (.bool true)))])),F 15 18,bt 19 0 15,bt 20 1 15,F 6 19,F 7 20] (.seq (.block 0 (R [F 22 6,gL 23 22,aW 24 2 23,aN 25 1 24,F 21 25] (a6 21 (R [eD 4,bs 5 6] .ret) (R [F 27 7,cp 28 27,bg 29 .gtr 28 0,F 26 29] (a6 26 (R [eD 4,bs 5 17] .ret) .skip))))) (R [eD 8] (.seq (R [F 30 6,gL 31 30,aW 32 0 31,aN 33 1 32,cp 34 33,bs 35 0] (.block 1 (.ghost (.po 8 109045 4) (.loop  (R [bC 36 .lss 35 34] (.seq (a6 36 .skip (.exit 1)) (.seq (.block 2 (R [bX 37 1 33 35,aN 38 1 37,F 10 38] (.ops [F 39 8,F 40 10,F 41 1,bX 42 4 40 41,bp 43 4 42,(az 44 (.e7 109044 false [(ah 0),.nil,(ah 0),.nil] 4 1 [(0,4,(.t 43))])),(az 45 (.app 109045 [(ah 0),.nil,(ah 0),.nil] 64 (.t 39) (.t 44))),F 8 45]))) (.ops [bg 46 .add 35 1,F 35 46])))))))) (R [F 47 8,F 4 47,bs 5 0] .ret)))))))
def Th:b5:=cx 6 1 [.t 2] (R [dW 1 125001 0,du 2 false] (R [bp 3 4 1,(dP 4 m6 3),gv 5 4,F 2 5] .ret))
def Ti:b5:=cx 22 3 [.t 4] (R [dW 3 127003 0,du 4 false] (R [aW 5 0 3,aN 6 1 5,cp 7 6,aN 8 1 1,bC 9 .neq 7 8,F 10 9,⟨some 11,some (10,false),.load 1 false (.t 2)⟩,⟨some 12,some (10,false),.eX 1 (.t 3)⟩,⟨some 13,some (10,false),.load 4 true (.t 12)⟩,⟨some 14,some (10,false),.lk (.t 11) [(.t 13)]⟩,eo 15 10 14,F 16 15,⟨some 17,some (16,false),.eX 0 (.t 3)⟩,⟨some 18,some (16,false),.load 1 false (.t 17)⟩,⟨some 19,some (16,false),.load 1 false (.t 2)⟩,⟨some 20,some (16,false),.call QO [(.t 18),(.t 19)]⟩,eo 21 16 20,F 4 21] .ret))
def I6:b5:=cx 65 3 [.t 6,.t 7] (R [(az 6 (.cn (.c (.I .ti)))),eD 7] (R [F 13 1,(az 14 (.build [.nil,(ah 0),(.I (.bool false))] [(1,1,(.t 13))])),dW 15 129015 14,F 8 15] (.seq (R [F 16 0,cp 17 16,bs 18 0] (.block 0 (.loop  (R [bC 19 .lss 18 17] (.seq (a6 19 .skip (.exit 0)) (.seq (.block 1 (R [bX 20 5 16 18,bp 21 5 20,(az 10 (.alloc 129010 [.nil,(ah 0),.nil,(ah 0),.nil])),ba 5 10 21] (.m1 [F 22 8,F 23 8,gL 24 23,aW 25 0 24,aN 26 1 25,aW 27 0 10,aN 28 1 27,(az 29 (.m0 129029 4 LI [(.t 28)])),aW 30 1 10,bp 31 4 30,(az 32 (.e7 129032 false [(ah 0),.nil,(ah 0),.nil] 4 1 [(0,4,(.t 31))])),(az 33 (.app 129033 [(ah 0),.nil,(ah 0),.nil] 64 (.t 29) (.t 32))),(az 34 (.e7 129034 true [.nil] 1 1 [(0,1,(.t 33))])),(az 35 (.app 129035 [.nil] 24 (.t 26) (.t 34))),gL 36 22,aW 37 0 36,ba 1 37 35] [[],[],[],[],[],[],[],[4],[],[7],[],[4],[4],[],[],[],[]]))) (.ghost (.move) (.ops [bg 38 .add 18 1,F 18 38])))))))) (R [eD 11] (.seq (R [bs 12 0] (.block 2 (.ghost (.po 11 129061 1) (.loop  (.seq (R [F 39 12,F 40 1,bC 41 .lss 39 40,F 42 41,⟨some 43,some (42,true),.cn (.t 8)⟩,⟨some 44,some (42,true),.qW (.t 43)⟩,⟨some 45,some (42,true),.eX 2 (.t 44)⟩,⟨some 46,some (42,true),.load 1 false (.t 45)⟩,⟨some 47,some (42,true),.un .not (.t 46)⟩,gg 48 42 47] (a6 48 .skip (.exit 2))) (.seq (.block 3 (R [F 51 8,F 52 12,F 53 11,cp 54 53,bC 55 .sub 52 54,F 56 12,(aal 57 QW 51 55 56)] (a6 57 (R [F 58 11,F 59 12,(az 60 (.e7 129060 false [(ah 0)] 1 1 [(0,1,(.t 59))])),(az 61 (.app 129061 [(ah 0)] 8 (.t 58) (.t 60))),F 11 61] (R [F 62 2] (a6 62 (.exit 2) .skip))) .skip))) (.ops [F 49 12,bg 50 .add 49 1,F 12 50]))))))) (R [F 63 8,F 64 11,F 6 63,F 7 64] .ret))))))
def xa:b5:=cx 172 3 [.t 6] (R [du 6 false] (R [F 15 1,F 7 15] (.seq (.block 0 (.loop  (.seq (R [F 16 7,F 17 0,gL 18 17,aW 19 1 18,aN 20 1 19,bC 21 .lss 16 20,F 22 21,⟨some 23,some (22,true),.cn (.t 0)⟩,⟨some 24,some (22,true),.qW (.t 23)⟩,⟨some 25,some (22,true),.eX 0 (.t 24)⟩,⟨some 26,some (22,true),.load 1 false (.t 25)⟩,⟨some 27,some (22,true),.cn (.t 7)⟩,⟨some 28,some (22,true),.jF 1 (.t 26) (.t 27)⟩,⟨some 29,some (22,true),.load 1 false (.t 28)⟩,⟨some 30,some (22,true),.cn (.t 2)⟩,⟨some 31,some (22,true),.jF 4 (.t 29) (.t 30)⟩,⟨some 32,some (22,true),.load 4 true (.t 31)⟩,⟨some 33,some (22,true),.call HZ [(.t 32)]⟩,gg 34 22 33] (a6 34 .skip (.exit 0))) (.block 1 (.ops [F 35 7,bg 36 .add 35 1,F 7 36]))))) (.seq (R [F 37 7,F 38 0,gL 39 38,aW 40 1 39,aN 41 1 40,bC 42 .eql 37 41] (a6 42 (R [du 6 true] .ret) .skip)) (fs [F 43 0,gL 44 43,aW 45 0 44,aN 46 1 45,F 47 1,F 48 0,gL 49 48,aW 50 0 49,aN 51 1 50,F 52 7,F 53 0,gL 54 53,aW 55 0 54,aN 56 1 55,F 57 7,bX 58 1 56 57,aN 59 1 58,F 60 0,gL 61 60,aW 62 0 61,aN 63 1 62,F 64 1,bX 65 1 63 64,aN 66 1 65,bX 67 1 46 47,ba 1 67 59,bX 68 1 51 52,ba 1 68 66] al0 (R [F 69 0,gL 70 69,aW 71 0 70,aN 72 1 71,F 73 1,bX 74 1 72 73,aN 75 1 74,F 76 2,bX 77 4 75 76,bp 78 4 77,(az 8 (.alloc 148008 [(ah 0),.nil,(ah 0),.nil])),ba 4 8 78] (.seq (R [F 79 0,gL 80 79,aW 81 0 80,aN 82 1 81,F 83 1,bX 84 1 82 83,aN 85 1 84,cp 86 85,bs 87 0] (.block 2 (.loop  (R [bC 88 .lss 87 86] (.seq (a6 88 .skip (.exit 2)) (.seq (.block 3 (R [F 89 87,bX 90 4 85 87,bp 91 4 90,(az 10 (.alloc 148010 [(ah 0),.nil,(ah 0),.nil])),F 9 89,ba 4 10 91] (.m1 [F 92 0,gL 93 92,aW 94 0 93,aN 95 1 94,F 96 1,bX 97 1 95 96,aN 98 1 97,F 99 9,F 100 0,bp 101 4 10,bp 102 4 8,(cj 103 BD 101 102),bt 104 0 103,bt 105 1 103,(az 106 (.ll 2 zS [(.t 100),(.t 104),(.t 105)])),bX 107 4 98 99,ba 4 107 106] [[],[],[],[],[],[],[],[],[],[],[],[],[],[],[3,6],[],[]]))) (.ops [bg 108 .add 87 1,F 87 108]))))))) (.seq (R [F 109 0,gL 110 109,aW 111 0 110,aN 112 1 111,cp 113 112,bs 114 0] (.block 4 (.loop  (R [bC 115 .lss 114 113] (.seq (a6 115 .skip (.exit 4)) (.seq (.block 5 (R [F 116 114,bX 117 1 112 114,aN 118 1 117,F 11 116,F 12 118] (R [F 119 12,F 120 2,bX 121 4 119 120,bp 122 4 121,(az 13 (.alloc 148013 [(ah 0),.nil,(ah 0),.nil])),ba 4 13 122] (.seq (R [F 123 11,F 124 1,bC 125 .eql 123 124,F 126 125,⟨some 127,some (126,false),.load 4 true (.t 13)⟩,⟨some 128,some (126,false),.call HZ [(.t 127)]⟩,eo 129 126 128] (a6 129 (.exit 5) .skip)) (R [bs 14 0] (.block 6 (.loop  (.seq (R [F 130 14,F 131 12,cp 132 131,bC 133 .lss 130 132,F 134 133,⟨some 135,some (134,true),.cn (.t 0)⟩,⟨some 136,some (134,true),.qW (.t 135)⟩,⟨some 137,some (134,true),.eX 2 (.t 136)⟩,⟨some 138,some (134,true),.load 1 false (.t 137)⟩,⟨some 139,some (134,true),.un .not (.t 138)⟩,gg 140 134 139] (a6 140 .skip (.exit 6))) (.seq (.block 7 (.m1 [F 143 12,F 144 14,F 145 0,F 146 12,F 147 14,bX 148 4 146 147,bp 149 4 148,F 150 0,bp 151 4 13,F 152 0,gL 153 152,aW 154 0 153,aN 155 1 154,F 156 1,bX 157 1 155 156,aN 158 1 157,F 159 14,bX 160 4 158 159,bp 161 4 160,(cj 162 u0 151 161),bt 163 0 162,bt 164 1 162,(az 165 (.ll 2 zS [(.t 150),(.t 163),(.t 164)])),(cj 166 tF 149 165),bt 167 0 166,bt 168 1 166,(az 169 (.ll 2 zS [(.t 145),(.t 167),(.t 168)])),bX 170 4 143 144,ba 4 170 169] [[],[],[],[],[],[],[],[],[],[],[],[],[],[],[],[],[],[],[],[],[],[],[6],[],[],[],[],[],[]])) (.ops [F 141 14,bg 142 .add 141 1,F 14 142])))))))))) (.ops [bg 171 .add 114 1,F 114 171]))))))) (R [du 6 false] .ret)))))))))
def Tj:b5:=cx 7 1 [.t 2] (R [dW 1 167001 0,du 2 false] (R [aW 3 0 1,aW 4 0 3,aN 5 1 4,bg 6 .eql 5 0,F 2 6] .ret))
def ML:b5:=cx 19 3 [.cell 6 4 true] (R [dW 4 168004 1,(az 6 (.alloc 168006 [(ah 0),.nil,(ah 0),.nil]))] (R [F 7 0,F 8 0,gL 9 8,aW 10 2 9,aN 11 1 10,F 12 11,⟨some 13,some (12,false),.cn (.t 2)⟩,⟨some 14,some (12,false),.bin .neq (.t 13) (.c (ah 0))⟩,eo 15 12 14,gL 16 7,aW 17 2 16,ba 1 17 15] (R [bp 18 4 4,ba 4 6 18] .ret)))
def Cf:b5:=cx 92 2 [.cell 4 3 true,.t 5] (R [(az 4 (.alloc 217004 [.nil,.nil,.nil])),bs 5 0] (.seq (R [F 15 0,F 16 1,(cj 17 Q6 15 16),gv 18 17] (a6 18 (R [(az 19 (.build [.nil,.nil,.nil] [])),ba 3 4 19,bs 5 1] .ret) .skip)) (R [F 20 0,F 21 1,(cj 22 Q7 20 21),F 6 22] (R [(az 7 (.alloc 217007 [.nil,.nil,.nil]))] (.seq (.block 0 (.loop  (.block 1 (R [F 24 6,(dP 25 LP 24),F 23 25,bt 26 0 23,bt 27 1 23,(az 8 (.alloc 217008 [.nil])),ba 1 8 26,F 9 27] (.seq (R [F 28 9,gv 29 28] (a6 29 (R [(az 30 (.build [.nil,.nil,.nil] [])),ba 3 4 30,bs 5 6] .ret) .skip)) (R [eD 10] (.seq (R [F 31 6,cp 32 31,bs 33 0] (.block 2 (.ghost (.po 10 217057 1) (.loop  (R [bC 34 .lss 33 32] (.seq (a6 34 .skip (.exit 2)) (.seq (.block 3 (R [F 35 33,bX 36 1 31 33,aN 37 1 36,(az 11 (.alloc 217011 [(ah 0)])),ba 1 11 35,F 12 37] (.seq (fs [aN 38 1 8,aN 39 1 11,bX 40 4 38 39,bp 41 4 40,F 42 12,F 43 12,gL 44 43,aW 45 22 44,aN 46 1 45,gL 47 42,aW 48 11 47,(az 49 (.n3 11 1 (.t 48) (.t 46))),aN 50 1 49,(dP 51 og 50),(cj 52 qt 41 51),bg 53 .geq 52 0] Ij (a6 53 (.exit 3) .skip)) (R [F 54 10,aN 55 1 11,(az 56 (.e7 217056 false [(ah 0)] 1 1 [(0,1,(.t 55))])),(az 57 (.app 217057 [(ah 0)] 8 (.t 54) (.t 56))),F 10 57] (.ops [F 58 12,F 59 12,gL 60 59,aW 61 11 60,(az 62 (.rV 11 1 (.t 61) (some (.c (ah 1))) none none)),(az 63 (.tk H5 [(.t 8),(.t 11)])),(cj 64 BG 62 63),gL 65 58,aW 66 22 65,ba 1 66 64]))))) (.ops [bg 67 .add 33 1,F 33 67])))))))) (.seq (R [F 68 10,cp 69 68,bg 70 .eql 69 0] (a6 70 (R [aN 71 1 8,aW 72 0 7,ba 1 72 71] (.exit 0)) .skip)) (.ghost (.freeze 10) (.ops [aW 73 2 7,aN 74 1 73,F 75 10,(az 76 (.e7 217076 false [.nil] 1 1 [(0,1,(.t 75))])),(az 77 (.app 217077 [.nil] 24 (.t 74) (.t 76))),aW 78 2 7,ba 1 78 77])))))))))) (.seq (.ghost (.many) (.ops [F 80 1,aW 81 0 7,aN 82 1 81,(cj 83 Q8 80 82),F 79 83,bt 84 0 79,bt 85 1 79,F 13 84,F 14 85])) (.seq (R [F 86 14,gv 87 86] (a6 87 (R [(az 88 (.build [.nil,.nil,.nil] [])),ba 3 4 88,bs 5 6] .ret) .skip)) (R [F 89 13,aW 90 1 7,ba 1 90 89] (R [bp 91 3 7,ba 3 4 91,bs 5 0] .ret)))))))))
def Tk:b5:=cx 32 2 [.t 4] (R [du 4 false] (R [F 9 0,cp 10 9,(az 5 (.alloc 227005 [(ah 0)])),ba 1 5 10] (R [(az 6 (.alloc 227006 [(.I .tj)])),⟨none,none,.store 1 (.t 6) (.c (.fR tK []))⟩] (R [(az 11 (.tk H6 [(.t 6)])),F 7 11] (R [(az 12 (.tk H7 [(.t 6),(.t 5)])),F 8 12] (R [aN 13 1 5,bg 14 .leq 13 60,F 15 14,⟨some 16,some (15,true),.cn (.t 1)⟩,⟨some 17,some (15,true),.len (.t 16)⟩,⟨some 18,some (15,true),.bin .leq (.t 17) (.c (ah 2000))⟩,gg 19 15 18,F 20 19,⟨some 21,some (20,true),.cn (.t 0)⟩,⟨some 22,some (20,true),.cn (.t 7)⟩,⟨some 23,some (20,true),.call H8 [(.t 21),(.t 22)]⟩,⟨some 24,some (20,true),.un .not (.t 23)⟩,gg 25 20 24,F 26 25,⟨some 27,some (26,true),.cn (.t 1)⟩,⟨some 28,some (26,true),.cn (.t 8)⟩,⟨some 29,some (26,true),.call H9 [(.t 27),(.t 28)]⟩,⟨some 30,some (26,true),.un .not (.t 29)⟩,gg 31 26 30,F 4 31] .ret))))))
def Al:b5:=cx 73 2 [.t 4] (R [eD 4] (R [eD 5] (.seq (R [F 12 0,cp 13 12,bs 14 0] (.block 0 (.ghost (.po 5 228023 1) (.loop  (R [bC 15 .lss 14 13] (.seq (a6 15 .skip (.exit 0)) (.seq (.block 1 (R [bX 16 1 12 14,aN 17 1 16,F 7 17] (.ops [F 18 5,F 19 7,(az 20 (.build [(ah 0),.nil,.nil,.nil,.nil,.nil,.nil,.nil,.nil,.nil,.nil,(ah 0),(ah 0),(ah 0),(ah 0),(ah 0),(ah 0),(ah 0),(ah 0),(ah 0),(ah 0),(ah 0),(ah 0),(.I (.bool false))] [(0,1,(.t 19)),(22,1,(.c (ah 10)))])),dW 21 228021 20,(az 22 (.e7 228022 true [(.I .ti)] 1 1 [(0,1,(.t 21))])),(az 23 (.app 228023 [(.I .ti)] 8 (.t 18) (.t 22))),F 5 23]))) (.ghost (.many) (.ops [bg 24 .add 14 1,F 14 24]))))))))) (.seq (R [F 25 1,cp 26 25,bs 27 0] (.block 2 (.loop  (R [bC 28 .lss 27 26] (.seq (a6 28 .skip (.exit 2)) (.seq (.block 3 (R [bX 29 4 25 27,bp 30 4 29,(az 9 (.alloc 228009 [(ah 0),(ah 0),(ah 0),(ah 0)])),ba 4 9 30] (R [F 31 5,aW 32 0 9,aN 33 1 32,bX 34 1 31 33,aN 35 1 34,F 10 35] (fs [F 36 10,aW 37 2 9,aN 38 1 37,F 39 10,aW 40 2 9,aN 41 1 40,gL 42 39,aW 43 1 42,(az 44 (.n3 10 1 (.t 43) (.t 41))),aN 45 1 44,bp 46 4 9,(az 47 (.e7 228047 false [(ah 0),(ah 0),(ah 0),(ah 0)] 4 1 [(0,4,(.t 46))])),(az 48 (.app 228048 [(ah 0),(ah 0),(ah 0),(ah 0)] 32 (.t 45) (.t 47))),gL 49 36,aW 50 1 49,(az 51 (.n3 10 1 (.t 50) (.t 38))),ba 1 51 48] [[],[],[],[],[],[],[],[],[],[],[],[],[2],[],[],[],[]] (.seq (.ghost (.many) (.ops [aW 52 2 9,aN 53 1 52,bg 54 .add 53 1,F 11 54])) (.block 4 (.loop  (.seq (R [F 55 11,bg 56 .leq 55 10] (a6 56 .skip (.exit 4))) (.seq (.block 5 (.m1 [F 59 10,F 60 11,gL 61 59,aW 62 11 61,(az 63 (.n3 11 1 (.t 62) (.t 60))),aN 64 1 63,aW 65 3 9,aN 66 1 65,bC 67 .add 64 66,gL 68 59,aW 69 11 68,(az 70 (.n3 11 1 (.t 69) (.t 60))),ba 1 70 67] LR)) (.ops [F 57 11,bg 58 .add 57 1,F 11 58])))))))))) (.ops [bg 71 .add 27 1,F 27 71]))))))) (.seq (.ghost (.many) (.ops [F 72 5,F 4 72])) .ret)))))
def EG:b5:=cx 72 1 [.t 2,.t 3] (R [eD 2,du 3 false] (.seq (R [F 11 0,cp 12 11,bs 13 0] (.block 0 (.loop  (R [bC 14 .lss 13 12] (.seq (a6 14 .skip (.exit 0)) (.seq (.block 1 (R [bX 15 1 11 13,aN 16 1 15,F 5 16] (.ops [F 17 5,gL 18 17,aW 19 23 18,⟨none,none,.store 1 (.t 19) (.c (.I (.bool false)))⟩]))) (.ops [bg 20 .add 13 1,F 13 20]))))))) (.block 2 (.loop  (.block 3 (R [F 22 0,(dP 23 Ra 22),F 21 23,bt 24 0 21,bt 25 1 21,F 6 24,F 7 25] (.seq (R [F 26 7,gv 27 26] (a6 27 (R [eD 2,du 3 false] .ret) .skip)) (R [du 8 false] (.seq (R [F 28 0,cp 29 28,bs 30 0] (.block 4 (.loop  (R [bC 31 .lss 30 29] (.seq (a6 31 .skip (.exit 4)) (.seq (.block 5 (R [F 32 30,bX 33 1 28 30,aN 34 1 33,F 9 32,F 10 34] (fs [F 35 10,gL 36 35,aW 37 22 36,aN 38 1 37,bg 39 .lss 38 10,F 40 39,⟨some 41,some (40,true),.cn (.t 10)⟩,⟨some 42,some (40,true),.qW (.t 41)⟩,⟨some 43,some (40,true),.eX 23 (.t 42)⟩,⟨some 44,some (40,true),.load 1 false (.t 43)⟩,⟨some 45,some (40,true),.un .not (.t 44)⟩,gg 46 40 45,F 47 46,⟨some 48,some (47,true),.cn (.t 6)⟩,⟨some 49,some (47,true),.cn (.t 9)⟩,⟨some 50,some (47,true),.jF 4 (.t 48) (.t 49)⟩,⟨some 51,some (47,true),.load 4 true (.t 50)⟩,⟨some 52,some (47,true),.cn (.t 10)⟩,⟨some 53,some (47,true),.cn (.t 10)⟩,⟨some 54,some (47,true),.qW (.t 53)⟩,⟨some 55,some (47,true),.eX 22 (.t 54)⟩,⟨some 56,some (47,true),.load 1 false (.t 55)⟩,⟨some 57,some (47,true),.qW (.t 52)⟩,⟨some 58,some (47,true),.eX 11 (.t 57)⟩,⟨some 59,some (47,true),.n3 11 1 (.t 58) (.t 56)⟩,⟨some 60,some (47,true),.load 1 false (.t 59)⟩,⟨some 61,some (47,true),.call og [(.t 60)]⟩,⟨some 62,some (47,true),.call qt [(.t 51),(.t 61)]⟩,⟨some 63,some (47,true),.bin .gtr (.t 62) (.c (ah 0))⟩,gg 64 47 63] al1 (a6 64 (.ops [F 65 10,gL 66 65,aW 67 23 66,⟨none,none,.store 1 (.t 67) (.c (.I (.bool true)))⟩,du 8 true]) .skip)))) (.ops [bg 68 .add 30 1,F 30 68]))))))) (R [F 69 8,gv 70 69] (a6 70 (R [F 71 6,F 2 71,du 3 true] .ret) .skip)))))))))))
def Tl:b5:=cx 11 1 [.cell 2 4 true] (R [(az 2 (.alloc 230002 [(ah 0),.nil,(ah 0),.nil]))] (R [F 6 0,(az 7 (.call BA [(.t 6),(.c (ah 1))])),F 5 7,bt 8 0 5,bt 9 1 5,(az 3 (.alloc 230003 [(ah 0),.nil,(ah 0),.nil])),ba 4 3 8,F 4 9] (R [bp 10 4 3,ba 4 2 10] .ret)))
def Tm:b5:=cx 13 3 [.t 4] (R [du 4 false] (fs [aN 5 1 1,aN 6 1 2,bX 7 4 5 6,bp 8 4 7,F 9 0,(dP 10 og 9),(cj 11 qt 8 10),bg 12 .lss 11 0,F 4 12] Rj .ret))
def Cg:b5:=cx 96 2 [.t 4,.t 5] (R [eD 4,du 5 false] (R [F 17 1,cp 18 17,(az 19 (.lj 233019 [.nil] 24 (.t 18) (.t 18))),F 6 19] (R [F 20 1,cp 21 20,(az 22 (.lj 233022 [.nil] 24 (.t 21) (.t 21))),F 7 22] (.seq (R [F 23 0,cp 24 23,bs 25 0] (.block 0 (.loop  (R [bC 26 .lss 25 24] (.seq (a6 26 .skip (.exit 0)) (.seq (.block 1 (R [F 27 25,bX 28 4 23 25,bp 29 4 28,(az 9 (.alloc 233009 [(ah 0),(ah 0),(ah 0),(ah 0)])),F 8 27,ba 4 9 29] (.m1 [F 30 6,aW 31 0 9,aN 32 1 31,F 33 7,aW 34 0 9,aN 35 1 34,F 36 6,aW 37 0 9,aN 38 1 37,bX 39 1 36 38,aN 40 1 39,bp 41 4 9,(az 42 (.e7 233042 false [(ah 0),(ah 0),(ah 0),(ah 0)] 4 1 [(0,4,(.t 41))])),(az 43 (.app 233043 [(ah 0),(ah 0),(ah 0),(ah 0)] 32 (.t 40) (.t 42))),F 44 7,aW 45 0 9,aN 46 1 45,bX 47 1 44 46,aN 48 1 47,F 49 8,(az 50 (.e7 233050 false [(ah 0)] 1 1 [(0,1,(.t 49))])),(az 51 (.app 233051 [(ah 0)] 8 (.t 48) (.t 50))),bX 52 1 30 32,ba 1 52 43,bX 53 1 33 35,ba 1 53 51] [[],[],[],[],[],[],[],[],[],[],[],[],[],[2,5],[],[],[13],[],[13],[],[],[2,5],[],[5],[],[]]))) (.ghost (.many) (.ops [bg 54 .add 25 1,F 25 54])))))))) (.seq (.ghost (.many) (.ops [F 55 0,cp 56 55,(az 57 (.lj 233057 [(ah 0),.nil,(ah 0),.nil] 64 (.t 56) (.t 56))),F 10 57])) (.seq (R [F 58 6,cp 59 58,bs 60 0] (.block 2 (.loop  (R [bC 61 .lss 60 59] (.seq (a6 61 .skip (.exit 2)) (.seq (.block 3 (R [F 62 60,bX 63 1 58 60,aN 64 1 63,F 11 62,F 12 64] (R [F 66 1,F 67 11,bX 68 4 66 67,bp 69 4 68,F 70 12,(cj 71 Rb 69 70),F 65 71,bt 72 0 65,bt 73 1 65,F 13 72,F 14 73] (.seq (R [F 74 14,bg 75 .neq 74 0] (a6 75 (R [eD 4,du 5 false] .ret) .skip)) (R [F 76 7,F 77 11,bX 78 1 76 77,aN 79 1 78,cp 80 79,bs 81 0] (.block 4 (.loop  (R [bC 82 .lss 81 80] (.seq (a6 82 .skip (.exit 4)) (.seq (.block 5 (R [F 83 81,bX 84 1 79 81,aN 85 1 84,F 15 83,F 16 85] (.ops [F 86 10,F 87 16,F 88 13,F 89 15,bX 90 4 88 89,bp 91 4 90,bX 92 4 86 87,ba 4 92 91]))) (.ops [bg 93 .add 81 1,F 81 93]))))))))))) (.ops [bg 94 .add 60 1,F 60 94]))))))) (.seq (.ghost (.freeze 10) (.ops [F 95 10,F 4 95,du 5 true])) .ret)))))))
def Tn:b5:=cx 15 3 [.t 6] (R [du 6 false] (R [F 7 0,F 8 1,bC 9 .geq 7 8,F 10 9,⟨some 11,some (10,true),.cn (.t 0)⟩,⟨some 12,some (10,true),.cn (.t 2)⟩,⟨some 13,some (10,true),.bin .leq (.t 11) (.t 12)⟩,gg 14 10 13,F 6 14] .ret))
def To:b5:=cx 8 2 [.t 3] (R [du 3 false] (R [aN 4 1 1,F 5 0,(az 6 (.lk (.t 4) [(.t 5),(.c (ah 0)),(.c (ah 1000000000000000))])),gv 7 6,F 3 7] .ret))
def Tp:b5:=cx 35 3 [.t 4] (R [dW 3 245003 0,du 4 false] (R [aN 5 1 1,aW 6 0 3,aN 7 1 6,aN 8 1 2,bg 9 .sub 8 1,(az 10 (.lk (.t 5) [(.t 7),(.c (ah 0)),(.t 9)])),gv 11 10,F 12 11,⟨some 13,some (12,false),.load 1 false (.t 1)⟩,⟨some 14,some (12,false),.eX 1 (.t 3)⟩,⟨some 15,some (12,false),.load 1 false (.t 14)⟩,⟨some 16,some (12,false),.load 1 false (.t 2)⟩,⟨some 17,some (12,false),.bin .sub (.t 16) (.c (ah 1))⟩,⟨some 18,some (12,false),.lk (.t 13) [(.t 15),(.c (.I (.int .i64 (-1)))),(.t 17)]⟩,⟨some 19,some (12,false),.un .not (.t 18)⟩,eo 20 12 19,F 21 20,⟨some 22,some (21,false),.load 1 false (.t 1)⟩,⟨some 23,some (21,false),.eX 2 (.t 3)⟩,⟨some 24,some (21,false),.load 1 false (.t 23)⟩,⟨some 25,some (21,false),.lk (.t 22) [(.t 24),(.c (ah 0)),(.c (ah 9))]⟩,⟨some 26,some (21,false),.un .not (.t 25)⟩,eo 27 21 26,F 28 27,⟨some 29,some (28,false),.load 1 false (.t 1)⟩,⟨some 30,some (28,false),.eX 3 (.t 3)⟩,⟨some 31,some (28,false),.load 1 false (.t 30)⟩,⟨some 32,some (28,false),.lk (.t 29) [(.t 31),(.c (ah 0)),(.c (ah 1000000000000000))]⟩,⟨some 33,some (28,false),.un .not (.t 32)⟩,eo 34 28 33,F 4 34] .ret))
def uc:b5:=cx 159 1 [.t 2,.t 3] (R [eD 2,du 3 false] (R [F 26 0,cp 27 26,F 4 27] (R [F 28 4,(az 29 (.lj 248029 [(ah 0)] 8 (.t 28) (.t 28))),F 5 29] (R [eD 6] (R [eD 7] (.seq (R [F 30 0,cp 31 30,bs 32 0] (.block 0 (.ghost (.po 6 248094 1) (.ghost (.po 7 248098 1) (.loop  (R [bC 33 .lss 32 31] (.seq (a6 33 .skip (.exit 0)) (.seq (.block 1 (R [F 34 32,bX 35 1 30 32,aN 36 1 35,F 8 34,F 9 36] (fs [F 37 5,F 38 8,bX 39 1 37 38,aN 40 1 39,F 41 9,gL 42 41,aW 43 0 42,aN 44 1 43,bC 45 .add 40 44,bX 46 1 37 38,ba 1 46 45] D4 (.seq (R [F 47 9,gL 48 47,aW 49 22 48,aN 50 1 49,bs 51 0] (.block 2 (.loop  (R [bC 52 .lss 51 50] (.seq (a6 52 .skip (.exit 2)) (.seq (.block 3 (R [F 53 51,F 10 53] (R [F 54 9,F 55 10,gL 56 54,aW 57 1 56,(az 58 (.n3 10 1 (.t 57) (.t 55))),aN 59 1 58,cp 60 59,bs 61 0] (.block 4 (.loop  (R [bC 62 .lss 61 60] (.seq (a6 62 .skip (.exit 4)) (.seq (.block 5 (R [bX 63 4 59 61,bp 64 4 63,(az 12 (.alloc 248012 [(ah 0),(ah 0),(ah 0),(ah 0)])),ba 4 12 64] (R [aW 65 1 12,aN 66 1 65,bg 67 .geq 66 0] (a6 67 (.m1 [F 68 5,aW 69 1 12,aN 70 1 69,bX 71 1 68 70,aN 72 1 71,aW 73 3 12,aN 74 1 73,bC 75 .add 72 74,bX 76 1 68 70,ba 1 76 75] Ih) .skip)))) (.ops [bg 77 .add 61 1,F 61 77]))))))))) (.ops [bg 78 .add 51 1,F 51 78]))))))) (R [F 79 9,gL 80 79,aW 81 23 80,aN 82 1 81] (a6 82 (R [F 84 9,F 85 4,(cj 86 LQ 84 85),F 83 86,bt 87 0 83,bt 88 1 83,F 13 87,F 14 88] (.seq (R [F 89 14,gv 90 89] (a6 90 (R [eD 2,du 3 false] .ret) .skip)) (.ops [F 91 6,F 92 8,(az 93 (.e7 248093 false [(ah 0)] 1 1 [(0,1,(.t 92))])),(az 94 (.app 248094 [(ah 0)] 8 (.t 91) (.t 93))),F 95 7,F 96 13,(az 97 (.e7 248097 false [.nil] 1 1 [(0,1,(.t 96))])),(az 98 (.app 248098 [.nil] 24 (.t 95) (.t 97))),F 6 94,F 7 98]))) .skip)))))) (.ops [bg 99 .add 32 1,F 32 99]))))))))) (.seq (.ghost (.freeze 5) (.ghost (.freeze 6) (.ghost (.freeze 7) (.ops [F 101 0,F 102 5,F 103 6,F 104 7,(Ig 105 Rd 101 102 103 104),F 100 105,bt 106 0 100,bt 107 1 100,F 15 106,F 16 107])))) (.seq (R [F 108 16,gv 109 108] (a6 109 (R [eD 2,du 3 false] .ret) .skip)) (R [eD 17] (.seq (R [F 110 5,cp 111 110,bs 112 0] (.block 6 (.ghost (.po 17 248156 4) (.loop  (R [bC 113 .lss 112 111] (.seq (a6 113 .skip (.exit 6)) (.seq (.block 7 (R [F 114 112,bX 115 1 110 112,aN 116 1 115,F 18 114,F 19 116] (R [F 117 19,(dP 118 og 117),(az 20 (.alloc 248020 [(ah 0),.nil,(ah 0),.nil])),ba 4 20 118] (.seq (R [F 119 6,cp 120 119,bs 121 0] (.block 8 (.loop  (R [bC 122 .lss 121 120] (.seq (a6 122 .skip (.exit 8)) (.seq (.block 9 (R [F 123 121,F 21 123] (fs [F 125 7,F 126 21,bX 127 1 125 126,aN 128 1 127,F 129 18,bX 130 4 128 129,bp 131 4 130,F 132 15,F 133 21,bX 134 4 132 133,bp 135 4 134,(cj 136 u0 131 135),F 124 136,bt 137 0 124,bt 138 1 124,(az 22 (.alloc 248022 [(ah 0),.nil,(ah 0),.nil])),ba 4 22 137,F 23 138] [[],[],[],[],[],[],[],[],[],[],[],[],[],[],[],[3,6,10],[],[]] (R [bp 140 4 20,bp 141 4 22,(cj 142 zQ 140 141),F 139 142,bt 143 0 139,bt 144 1 139,(az 24 (.alloc 248024 [(ah 0),.nil,(ah 0),.nil])),ba 4 24 143,F 25 144] (.seq (R [F 145 23,bg 146 .neq 145 0,F 147 146,⟨some 148,some (147,false),.cn (.t 25)⟩,⟨some 149,some (147,false),.bin .neq (.t 148) (.c (ah 0))⟩,eo 150 147 149] (a6 150 (R [eD 2,du 3 false] .ret) .skip)) (.ops [bp 151 4 24,ba 4 20 151])))))) (.ops [bg 152 .add 121 1,F 121 152]))))))) (.ops [F 153 17,bp 154 4 20,(az 155 (.e7 248155 false [(ah 0),.nil,(ah 0),.nil] 4 1 [(0,4,(.t 154))])),(az 156 (.app 248156 [(ah 0),.nil,(ah 0),.nil] 64 (.t 153) (.t 155))),F 17 156]))))) (.ops [bg 157 .add 112 1,F 112 157])))))))) (.seq (.ghost (.freeze 17) (.ops [F 158 17,F 2 158,du 3 true])) .ret)))))))))))
def MM:b5:=cx 88 2 [.t 4,.t 5] (R [eD 4,du 5 false] (R [(az 14 (.call og [(.c (ah 0))])),(az 15 (.e7 255015 false [(ah 0),.nil,(ah 0),.nil] 4 1 [(0,4,(.t 14))])),F 16 1,(az 17 (.m0 255017 4 QQ [(.t 15),(.t 16)])),F 6 17] (R [du 7 true] (.seq (fs [F 18 0,F 19 0,gL 20 19,aW 21 22 20,aN 22 1 21,gL 23 18,aW 24 1 23,(az 25 (.n3 10 1 (.t 24) (.t 22))),aN 26 1 25,cp 27 26,bs 28 0] D4 (.block 0 (.loop  (R [bC 29 .lss 28 27] (.seq (a6 29 .skip (.exit 0)) (.seq (.block 1 (R [bX 30 4 26 28,bp 31 4 30,(az 9 (.alloc 255009 [(ah 0),(ah 0),(ah 0),(ah 0)])),ba 4 9 31] (.seq (R [aW 32 1 9,aN 33 1 32,bg 34 .lss 33 0] (a6 34 (.exit 1) .skip)) (fs [aW 36 3 9,aN 37 1 36,F 38 0,F 39 0,gL 40 39,aW 41 22 40,aN 42 1 41,bg 43 .add 42 1,gL 44 38,aW 45 11 44,(az 46 (.n3 11 1 (.t 45) (.t 43))),aN 47 1 46,F 48 0,F 49 0,gL 50 49,aW 51 22 50,aN 52 1 51,gL 53 48,aW 54 11 53,(az 55 (.n3 11 1 (.t 54) (.t 52))),aN 56 1 55,bC 57 .sub 47 56,(cj 58 BA 37 57),F 35 58,bt 59 0 35,bt 60 1 35,(az 10 (.alloc 255010 [(ah 0),.nil,(ah 0),.nil])),ba 4 10 59,F 11 60] [[],[],[],[],[],[],[],[],[],[],[],[],[],[],[],[],[],[],[],[],[],[],[],[],[],[],[1,6,11,16,20],[],[]] (fs [F 62 6,aW 63 1 9,aN 64 1 63,bX 65 4 62 64,bp 66 4 65,bp 67 4 10,(cj 68 zQ 66 67),F 61 68,bt 69 0 61,bt 70 1 61,(az 12 (.alloc 255012 [(ah 0),.nil,(ah 0),.nil])),ba 4 12 69,F 13 70] [[],[],[],[],[],[],[],[],[],[],[2,4,5],[],[]] (R [F 71 7,F 72 71,⟨some 73,some (72,true),.cn (.t 11)⟩,⟨some 74,some (72,true),.bin .eql (.t 73) (.c (ah 0))⟩,gg 75 72 74,F 76 75,⟨some 77,some (76,true),.cn (.t 13)⟩,⟨some 78,some (76,true),.bin .eql (.t 77) (.c (ah 0))⟩,gg 79 76 78,F 7 79] (.ops [F 80 6,aW 81 1 9,aN 82 1 81,bp 83 4 12,bX 84 4 80 82,ba 4 84 83]))))))) (.ops [bg 85 .add 28 1,F 28 85]))))))) (.seq (.ghost (.freeze 6) (.ops [F 86 6,F 87 7,F 4 86,F 5 87])) .ret)))))
def EH:b5:=cx 94 4 [.t 8,.t 9] (R [eD 8,du 9 false] (R [eD 10] (.seq (R [F 20 2,cp 21 20,bs 22 0] (.block 0 (.ghost (.po 10 256082 5) (.loop  (R [bC 23 .lss 22 21] (.seq (a6 23 .skip (.exit 0)) (.seq (.block 1 (R [F 24 22,bX 25 1 20 22,aN 26 1 25,F 11 24,F 12 26] (fs [F 27 1,F 28 12,bX 29 1 27 28,aN 30 1 29,F 31 0,F 32 12,bX 33 1 31 32,aN 34 1 33,F 35 0,F 36 12,bX 37 1 35 36,aN 38 1 37,gL 39 38,aW 40 22 39,aN 41 1 40,gL 42 34,aW 43 11 42,(az 44 (.n3 11 1 (.t 43) (.t 41))),aN 45 1 44,bC 46 .sub 30 45,(dP 47 og 46),(az 48 (.build [.nil,(ah 0),.nil,(ah 0),.nil] [(1,4,(.t 47))])),(az 13 (.alloc 256013 [.nil,(ah 0),.nil,(ah 0),.nil])),ba 5 13 48] [[],[],[],[],[],[],[],[],[],[],[],[],[],[],[],[],[],[],[],[],[],[],[3,7,11,14,18],[]] (.seq (.seq (.ghost (.KN (.t 13) 0 256076 4) (.ops [F 49 2,cp 50 49,bs 51 0])) (.block 2 (.loop  (R [bC 52 .lss 51 50] (.seq (a6 52 .skip (.exit 2)) (.seq (.block 3 (R [F 53 51,F 14 53] (R [bs 15 0] (.seq (R [F 54 14,F 55 11,bC 56 .eql 54 55] (a6 56 (.ops [bs 15 1]) .skip)) (fs [F 58 15,(dP 59 og 58),F 60 3,F 61 14,bX 62 1 60 61,aN 63 1 62,F 64 12,bX 65 4 63 64,bp 66 4 65,(cj 67 tF 59 66),F 57 67,bt 68 0 57,bt 69 1 57,(az 16 (.alloc 256016 [(ah 0),.nil,(ah 0),.nil])),ba 4 16 68,F 17 69] [[],[],[],[],[],[],[],[],[],[],[],[],[],[5,8],[],[]] (.seq (R [F 70 17,bg 71 .neq 70 0] (a6 71 (R [eD 8,du 9 false] .ret) .skip)) (.ops [aW 72 0 13,aN 73 1 72,bp 74 4 16,(az 75 (.e7 256075 false [(ah 0),.nil,(ah 0),.nil] 4 1 [(0,4,(.t 74))])),(az 76 (.app 256076 [(ah 0),.nil,(ah 0),.nil] 64 (.t 73) (.t 75))),aW 77 0 13,ba 1 77 76]))))))) (.ops [bg 78 .add 51 1,F 51 78]))))))) (.ghost (.KO (.t 13) 0) (.ops [F 79 10,bp 80 5 13,(az 81 (.e7 256081 false [.nil,(ah 0),.nil,(ah 0),.nil] 5 1 [(0,5,(.t 80))])),(az 82 (.app 256082 [.nil,(ah 0),.nil,(ah 0),.nil] 88 (.t 79) (.t 81))),F 10 82])))))) (.ops [bg 83 .add 22 1,F 22 83])))))))) (.seq (.ghost (.freeze 10) (.ops [F 85 10,F 86 2,cp 87 86,(cj 88 QK 85 87),F 84 88,bt 89 0 84,bt 90 1 84,F 18 89,F 19 90])) (R [F 91 18,F 92 19,bg 93 .eql 92 0,F 8 91,F 9 93] .ret)))))
abbrev eu:=List bS×bS
def jf (r:eu):List Data:=.ae (r.1.map aK)::aK r.2
theorem mG (f:bS):(aK f).length=4:=rfl
theorem abN (r:eu):(jf r).length=5:=rfl
theorem EI (f:bS):((aK f).map M.I).all M.one=true:=rfl
theorem vl:∀a b:bS,aK a=aK b->a=b:=by
 rintro⟨⟨s,l⟩,⟨s2,aj⟩⟩ ⟨⟨t,m⟩,⟨t2,bY⟩⟩ h;simp only[aK,bf,Data.int.injEq,Data.ae.injEq,true_and,and_true] at h;obtain⟨rfl,E,rfl,H⟩:=h;rw[map_inj gY _ _ E,map_inj gY _ _ H]
theorem Tq:∀a b:eu,jf a=jf b->a=b:=by
 rintro⟨a,b⟩ ⟨c,d⟩ h;simp only[jf,bf,Data.ae.injEq] at h;rw[map_inj vl _ _ h.1,vl _ _ h.2]
def okF (f:bS):Prop:=f.1.2.length<=1000000/\f.2.2.length<=1000000
def o0 (l:List bS):Prop:=D l<=1000000/\∀f∈l,okF f
def xb (r:eu):Prop:=o0 r.1/\okF r.2
def qD (rs:List eu):Prop:=D rs<=1000000/\∀r∈rs,xb r
def MN:=cy IV λ(s,l,s2,aj)=>cW (D l<=1000000/\D aj<=1000000) (.same (.bool (!eV ((s,l),(s2,aj)))))
@[go_sem] theorem aCh (s:Int)(l:List Int)(s2:Int)(aj:List Int)(G:(D l)<=1000000/\D aj<=1000000):MN [.agg [.int .i64 s,.ae (l.map af),.int .i64 s2,.ae (aj.map af)]]=some (.same (.bool (!eV ((s,l),(s2,aj))))):=(cK SZ (s,l,s2,aj)).trans (c6 G _)
theorem aog (T:bk)(gE:T m6=aX yG)(s:Int)(l:List Int)(s2:Int)(aj:List Int)(G:(D l)<=1000000/\D aj<=1000000):WP T Th (.same (.bool (!eV ((s,l),(s2,aj))))) [.I (.agg [.int .i64 s,.ae (l.map af),.int .i64 s2,.ae (aj.map af)])]:=by
 refine cH ?_;simp only[Th];obtain⟨bU,b0⟩:=G;refine a7 ?_;repeat' (intro h<;>simp only[h,go_sem,go_sem_proc,gE,bU,b0]<;>try refine av ?_ ?_)
def l7 {α:Type}(p:α->Bool)(l:List α):Int:=match l.findIdx? p with
 |some i=>i
 |none => -1
theorem I7 {α:Type}{p:α->Bool}{l:List α}{i:Nat}(h:∀x∈l.take i,p x=false){x:α}(O:l[i]?=some x)(aC:p x=true):l7 p l=i:=by
 unfold l7
 have:l.findIdx? p=some i:=by
  rw[abO];obtain⟨ao,rfl⟩:=dM.1 O;refine⟨ao,aC,λj ag=>?_⟩;have:=h l[j] (pD.2 ⟨j,by rw[List.getElem?_take_of_lt ag];exact bx _⟩);rw[this];decide
 rw[this]
theorem MO {α:Type}{p:α->Bool}{l:List α}(h:∀x∈l,p x=false):l7 p l = -1:=by
 unfold l7;rw[abP.2 h]
theorem MP {α:Type}(p:α->Bool)(l:List α):decide (l7 p l>=0)=l.any p:=by
 unfold l7
 cases h:l.findIdx? p with
 |none =>
  have:=abP.1 h;have H:l.any p=false:=by rw[List.any_eq_false];intro x O;simp[this x O]
  rw[H];rfl
 |some i =>
  rw[abO] at h;obtain⟨E,H,-⟩:=h;have ab:l.any p=true:=List.any_eq_true.2 ⟨_,n7 E,H⟩;rw[ab];exact kH (by simp)
def Ch (f:bS):Bool:=!eV f
def o1 (f:FuncId):bS->Bool:=if f=u1 then λx => !eV x||decide (x.1.1<0) else Ch
@[go_sem] theorem abQ:o1 mA=Ch:=by
 unfold o1;rw[aa (by decide)]
@[go_sem] theorem Tr:o1 u1=λx => !eV x||decide (x.1.1<0):=by
 unfold o1;rw[Z rfl]
theorem MQ {α:Type}{p:α->Bool}{l:List α}{i:Nat}(h:∀x∈l.take i,p x=false){x:α}(O:l[i]?=some x)(aC:p x=false):∀y∈l.take (i+1),p y=false:=by
 intro y ak;rw[lA,O] at ak;simp only[Option.toList_some,List.mem_append,yz] at ak;rcases ak with ak|rfl
 ·exact h y ak
 ·exact aC
abbrev MR:(List bS)×FuncId->List Data:=λ(l,f)=>[.ae (l.map aK),.fn f []]
def Ts:=cy MR λ(l,f)=>cW (o0 l/\(f=mA\/f=u1/\False)) (.same (.int .i64 (l7 (o1 f) l)))
theorem abR:∀a b,MR a=MR b->a=b:=by
  rintro⟨eE,f1⟩ ⟨aj,f2⟩ h;simp only[bf,Data.ae.injEq,Data.fn.injEq] at h;exact eN (map_inj vl _ _ h.1) h.2.1.1
@[go_sem] theorem aCi (l:List bS)(f:FuncId)(G:o0 l/\(f=mA\/f=u1/\False)):Ts [.ae (l.map aK),.fn f []]=some (.same (.int .i64 (l7 (o1 f) l))):=(cK abR (l,f)).trans (c6 G _)
theorem aoh (T:bk)(sH:T mA=aX MN)(l:List bS)(f:FuncId)(G:o0 l/\(f=mA\/f=u1/\False)):WP T RI (.same (.int .i64 (l7 (o1 f) l))) [.I (.ae (l.map aK)),.I (.fn f [])]:=by
 refine cH ?_;simp only[RI];obtain⟨⟨aq,cU⟩,aJ⟩:=G;simp only[go_sem,go_sem_proc,sH,al];refine dG [0,1,7] [] (λ(i:Nat) tm mem=>i<=D l/\(∀x∈l.take i,o1 f x=false)/\tm 8=.I (.int .i64 i)) (λi=>D l-i) 0 (by refine⟨fr _,?_,rfl⟩;simp) ?_;intro vs ms aV aS;simp only[go_sem,go_sem_proc,sH,al] at aV aS;subst aV aS;rintro i tm mem J hm ⟨L,e1,bT⟩;simp only[go_sem,go_sem_proc,sH,bf] at J hm;obtain⟨ai,E,bA⟩:=J;rcases dX (i<D l) with ao|cf
 ·have O:=bx ao;obtain⟨lB,oV⟩:=cU _ (n7 ao);have bJ:=λh=>I7 (p:=o1 f) e1 O h;have fV:=λh=>MQ (p:=o1 f) e1 O h;generalize l[i]=x at *;have gU:decide ((i:Int)<(D l:Int))=true:=dn;have hw:=gu (i:=i) (by omega);obtain⟨⟨bh,cd⟩,⟨c7,eZ⟩⟩:=x;dsimp only at lB oV;rcases ad:o1 f ((bh,cd),(c7,eZ))
  ·rcases aJ with rfl|⟨rfl,e4⟩
   all_goals have Y:=ad
   all_goals simp only[abQ,Tr,Ch] at Y
   ·simp only[go_sem,go_sem_proc,sH,ai,E,bA,bT,O,gU,hw,lB,oV,Y,al,bd,aK];repeat' (first|refine av ?_ ?_|fail)<;>intro h<;>simp only[h,go_sem,go_sem_proc,sH,ai,E,bA,bT,O,gU,hw,lB,oV,Y,al,bd,aK]
    exact⟨i+1,by omega,by omega,fV ad,rfl⟩
   ·exact e4.elim
  ·rw[bJ ad];rcases aJ with rfl|⟨rfl,e4⟩
   all_goals have Y:=ad
   all_goals simp only[abQ,Tr,Ch] at Y
   ·simp only[go_sem,go_sem_proc,sH,ai,E,bA,bT,O,gU,hw,lB,oV,Y,al,bd,aK];repeat' (first|refine av ?_ ?_|fail)<;>intro h<;>simp only[h,go_sem,go_sem_proc,sH,ai,E,bA,bT,O,gU,hw,lB,oV,Y,al,bd,aK]
   ·exact e4.elim
 ·have gU:decide ((i:Int)<(D l:Int))=false:=dr;have jx:i=D l:=by omega
  subst jx;rw[om] at e1;rw[MO e1];simp only[go_sem,go_sem_proc,sH,ai,E,bA,bT,gU,al];repeat' (first|refine av ?_ ?_|fail)<;>intro h<;>simp only[h,go_sem,go_sem_proc,sH,ai,E,bA,bT,gU,al]
def Tt:=cy MR λ(l,f)=>cW (o0 l/\(f=mA\/f=u1/\False)) (.same (.bool (l.any (o1 f))))
@[go_sem] theorem aCj (l:List bS)(f:FuncId)(G:o0 l/\(f=mA\/f=u1/\False)):Tt [.ae (l.map aK),.fn f []]=some (.same (.bool (l.any (o1 f)))):=(cK abR (l,f)).trans (c6 G _)
theorem aoi (T:bk)(aoj:T QV=aX Ts)(l:List bS)(f:FuncId)(G:o0 l/\(f=mA\/f=u1/\False)):WP T RF (.same (.bool (l.any (o1 f)))) [.I (.ae (l.map aK)),.I (.fn f [])]:=by
 refine cH ?_;simp only[RF];rw[<-MP];refine a7 ?_;repeat' (intro h<;>simp only[h,go_sem,go_sem_proc,aoj,G]<;>try refine av ?_ ?_)
def nU (n:Int)(r:eu):Bool:=!(((r.1.length:Int)==n)&&(eV r.2 && !(r.1.any Ch)))
abbrev Tu:(List bS)×Int×(List Int)×Int×(List Int)×Int->List Data:=λ(a,s,l,s2,aj,n)=>[.agg [.ae (a.map aK),.int .i64 s,.ae (l.map af),.int .i64 s2,.ae (aj.map af)],.ptr [.int .i64 n],.ptr [.fn mA []]]
def Tv:=cy Tu λ(a,s,l,s2,aj,n)=>cW (o0 a/\D l<=1000000/\D aj<=1000000) (.same (.bool (nU n (a,((s,l),(s2,aj))))))
theorem aok:∀a b,Tu a=Tu b->a=b:=by
  rintro⟨c5,s1,eE,Ex,Ey,iv⟩ ⟨dK,s2,aj,Ez,EA,jr⟩ h;simp only[bf,Data.agg.injEq,Data.int.injEq,Data.ae.injEq,Data.ptr.injEq] at h;exact eN (map_inj vl _ _ h.1.1) (eN h.1.2.1.2 (eN (map_inj gY _ _ h.1.2.2.1) (eN h.1.2.2.2.1.2 (eN (map_inj gY _ _ h.1.2.2.2.2.1) h.2.1.1.2))))
@[go_sem] theorem aCk (a:List bS)(s:Int)(l:List Int)(s2:Int)(aj:List Int)(n:Int)(G:o0 a/\D l<=1000000/\D aj<=1000000):Tv [.agg [.ae (a.map aK),.int .i64 s,.ae (l.map af),.int .i64 s2,.ae (aj.map af)],.ptr [.int .i64 n],.ptr [.fn mA []]]=some (.same (.bool (nU n (a,((s,l),(s2,aj)))))):=(cK aok (a,s,l,s2,aj,n)).trans (c6 G _)
theorem aol (T:bk)(sH:T mA=aX MN)(Tw:T QO=aX Tt)(a:List bS)(s:Int)(l:List Int)(s2:Int)(aj:List Int)(n:Int)(G:o0 a/\D l<=1000000/\D aj<=1000000):WP T Ti (.same (.bool (nU n (a,((s,l),(s2,aj)))))) [.I (.agg [.ae (a.map aK),.int .i64 s,.ae (l.map af),.int .i64 s2,.ae (aj.map af)]),.I (.ptr [.int .i64 n]),.I (.ptr [.fn mA []])]:=by
 refine cH ?_;simp only[Ti];obtain⟨aZ,bU,b0⟩:=G;unfold nU;rcases E:((D a:Int)==n)
 ·refine a7 ?_;repeat' (intro h<;>simp only[h,go_sem,go_sem_proc,sH,Tw,aZ,bU,b0,E,al]<;>try refine av ?_ ?_)
 ·rcases H:eV ((s,l),(s2,aj))
  ·refine a7 ?_;repeat' (intro h<;>simp only[h,go_sem,go_sem_proc,sH,Tw,aZ,bU,b0,E,H,al]<;>try refine av ?_ ?_)
  ·refine a7 ?_;repeat' (intro h<;>simp only[h,go_sem,go_sem_proc,sH,Tw,aZ,bU,b0,E,H,al,show (mA=mA)=True from by simp,true_or,Bool.not_not]<;>try refine av ?_ ?_)
abbrev MS:(List eu)×Int->List Data:=λ(rs,n)=>[.ae (rs.map jf),.fn zR [.ptr [.int .i64 n],.ptr [.fn mA []]]]
def Tx:=cy MS λ(rs,n)=>cW (qD rs) (.same (.int .i64 (l7 (nU n) rs)))
theorem abS:∀a b,MS a=MS b->a=b:=by
  rintro⟨abT,iv⟩ ⟨abU,jr⟩ h;simp only[bf,Data.ae.injEq,Data.fn.injEq,Data.ptr.injEq,Data.int.injEq] at h;exact eN (map_inj Tq _ _ h.1) h.2.1.2.1.1.2
@[go_sem] theorem aCl (rs:List eu)(n:Int)(G:qD rs):Tx [.ae (rs.map jf),.fn zR [.ptr [.int .i64 n],.ptr [.fn mA []]]]=some (.same (.int .i64 (l7 (nU n) rs))):=(cK abS (rs,n)).trans (c6 G _)
theorem aom (T:bk)(yK:T zR=aX Tv)(rs:List eu)(n:Int)(G:qD rs):WP T RH (.same (.int .i64 (l7 (nU n) rs))) [.I (.ae (rs.map jf)),.I (.fn zR [.ptr [.int .i64 n],.ptr [.fn mA []]])]:=by
 refine cH ?_;simp only[RH];obtain⟨aq,cU⟩:=G;simp only[go_sem,go_sem_proc,yK,al];refine dG [0,1,7] [] (λ(i:Nat) tm mem=>i<=D rs/\(∀x∈rs.take i,nU n x=false)/\tm 8=.I (.int .i64 i)) (λi=>D rs-i) 0 (by refine⟨fr _,?_,rfl⟩;simp) ?_;intro vs ms aV aS;simp only[go_sem,go_sem_proc,yK,al] at aV aS;subst aV aS;rintro i tm mem J hm ⟨L,e1,bT⟩;simp only[go_sem,go_sem_proc,yK,bf] at J hm;obtain⟨ai,E,bA⟩:=J;rcases dX (i<D rs) with ao|cf
 ·have O:=bx ao;obtain⟨hV,lB,oV⟩:=cU _ (n7 ao);have bJ:=λh=>I7 (p:=nU n) e1 O h;have fV:=λh=>MQ (p:=nU n) e1 O h;generalize rs[i]=x at *;have gU:decide ((i:Int)<(D rs:Int))=true:=dn;have hw:=gu (i:=i) (by omega);obtain⟨a,⟨bh,cd⟩,⟨c7,eZ⟩⟩:=x;dsimp only at hV lB oV;rcases ad:nU n (a,((bh,cd),(c7,eZ)))
  ·simp only[go_sem,go_sem_proc,yK,ai,E,bA,bT,O,gU,hw,hV,lB,oV,ad,al,bd,jf,aK];repeat' (first|refine av ?_ ?_|fail)<;>intro h<;>simp only[h,go_sem,go_sem_proc,yK,ai,E,bA,bT,O,gU,hw,hV,lB,oV,ad,al,bd,jf,aK]
   exact⟨i+1,by omega,by omega,fV ad,rfl⟩
  ·rw[bJ ad];simp only[go_sem,go_sem_proc,yK,ai,E,bA,bT,O,gU,hw,hV,lB,oV,ad,al,bd,jf,aK];repeat' (first|refine av ?_ ?_|fail)<;>intro h<;>simp only[h,go_sem,go_sem_proc,yK,ai,E,bA,bT,O,gU,hw,hV,lB,oV,ad,al,bd,jf,aK]
 ·have gU:decide ((i:Int)<(D rs:Int))=false:=dr;have jx:i=D rs:=by omega
  subst jx;rw[om] at e1;rw[MO e1];simp only[go_sem,go_sem_proc,yK,ai,E,bA,bT,gU,al];repeat' (first|refine av ?_ ?_|fail)<;>intro h<;>simp only[h,go_sem,go_sem_proc,yK,ai,E,bA,bT,gU,al]
def Ty:=cy MS λ(rs,n)=>cW (qD rs) (.same (.bool (rs.any (nU n))))
@[go_sem] theorem aCm (rs:List eu)(n:Int)(G:qD rs):Ty [.ae (rs.map jf),.fn zR [.ptr [.int .i64 n],.ptr [.fn mA []]]]=some (.same (.bool (rs.any (nU n)))):=(cK abS (rs,n)).trans (c6 G _)
theorem aon (T:bk)(aoo:T QU=aX Tx)(rs:List eu)(n:Int)(G:qD rs):WP T RE (.same (.bool (rs.any (nU n)))) [.I (.ae (rs.map jf)),.I (.fn zR [.ptr [.int .i64 n],.ptr [.fn mA []]])]:=by
 refine cH ?_;simp only[RE];rw[<-MP];refine a7 ?_;repeat' (intro h<;>simp only[h,go_sem,go_sem_proc,aoo,G]<;>try refine av ?_ ?_)
def nj (rs:List eu)(n:Int):Bool:=!(decide (n<0))&&(!(decide (n>40))&&(((D rs:Int)==n) && !(rs.any (nU n))))
abbrev MT:(List eu)×Int->List Data:=λ(rs,n)=>[.ae (rs.map jf),.int .i64 n]
def Tz:=cy MT λ(rs,n)=>cW (qD rs) (.same (.bool (nj rs n)))
theorem abV:∀a b,MT a=MT b->a=b:=by
  rintro⟨abT,iv⟩ ⟨abU,jr⟩ h;simp only[bf,Data.ae.injEq,Data.int.injEq] at h;exact eN (map_inj Tq _ _ h.1) h.2.1.2
@[go_sem] theorem aCn (rs:List eu)(n:Int)(G:qD rs):Tz [.ae (rs.map jf),.int .i64 n]=some (.same (.bool (nj rs n))):=(cK abV (rs,n)).trans (c6 G _)
theorem aop (T:bk)(MU:T QN=aX Ty)(rs:List eu)(n:Int)(G:qD rs):WP T Tf (.same (.bool (nj rs n))) [.I (.ae (rs.map jf)),.I (.int .i64 n)]:=by
 refine cH ?_;simp only[Tf];unfold nj;rcases E:decide (n<0)
 ·rcases H:decide (n>40)
  ·rcases ab:((D rs:Int)==n)
   ·refine a7 ?_;repeat' (intro h<;>simp only[h,go_sem,go_sem_proc,MU,G,E,H,ab,al]<;>try refine av ?_ ?_)
   ·refine a7 ?_;repeat' (intro h<;>simp only[h,go_sem,go_sem_proc,MU,G,E,H,ab,al,cZ,v3,pQ,scalar]<;>try refine av ?_ ?_)
  ·refine a7 ?_;repeat' (intro h<;>simp only[h,go_sem,go_sem_proc,MU,G,E,H,al]<;>try refine av ?_ ?_)
 ·refine a7 ?_;repeat' (intro h<;>simp only[h,go_sem,go_sem_proc,MU,G,E,al]<;>try refine av ?_ ?_)
theorem abW {es:List (List Data)}(h:∀x∈es,Fit (.int .i64) x):∃l:List Int,es=l.map af:=by
 obtain⟨l,e,-⟩:=QF (e:=af) (good:=λ_=>True) λx O=>by
  have:=h x O;simp only[Fit] at this;obtain⟨n,rfl,-⟩:=this;exact⟨n,rfl,trivial⟩
 exact⟨l,e⟩
theorem aoq {n:Int}(h:(Lit.int .u8 n).wf=true):∃m:Nat,n=m/\m<256:=by
 have:0<=n/\n<=255:=by simpa [Lit.wf,IntKind.min,IntKind.max,IntKind.signed,IntKind.bits] using h
 exact⟨n.toNat,by omega,by omega⟩
def TA:b5:=cx 28 1 [.cell 2 2 true] (R [(az 2 (.alloc 144002 [(ah 0),.nil]))] (.seq (R [F 6 0,bg 7 .eql 6 0] (a6 7 (R [(az 8 (.build [(ah 0),.nil] [])),ba 2 2 8] .ret) .skip)) (R [bs 3 1] (.seq (R [F 9 0,bg 10 .lss 9 0] (a6 10 (.ops [(az 3 (.cn (.c (.I (.int .i64 (-1))))))]) .skip)) (R [eD 4] (.seq (.block 0 (.ghost (.po 4 144022 1) (.loop  (.seq (R [F 11 0,bg 12 .neq 11 0] (a6 12 .skip (.exit 0))) (.block 1 (R [F 13 0,bg 14 .rem 13 1048576,F 5 14] (.seq (R [F 15 5,bg 16 .lss 15 0] (a6 16 (.ops [F 17 5,(az 18 (.un .neg (.t 17))),F 5 18]) .skip)) (R [F 19 4,F 20 5,(az 21 (.e7 144021 false [(ah 0)] 1 1 [(0,1,(.t 20))])),(az 22 (.app 144022 [(ah 0)] 8 (.t 19) (.t 21))),F 4 22] (.ops [F 23 0,bg 24 .quo 23 1048576,F 0 24]))))))))) (.seq (.ghost (.freeze 4) (.ops [F 25 3,F 26 4,(cj 27 tJ 25 26),ba 2 2 27])) .ret)))))))
def TB:b5:=cx 60 1 [.t 2] (R [dW 1 162001 0,du 2 false] (.seq (R [bs 3 0] (.block 0 (.loop  (.seq (R [F 5 3,aW 6 1 1,aN 7 1 6,cp 8 7,bC 9 .lss 5 8] (a6 9 .skip (.exit 0))) (.seq (.block 1 (R [aW 12 1 1,aN 13 1 12,F 14 3,bX 15 1 13 14,aN 16 1 15,bg 17 .lss 16 0,F 18 17,⟨some 19,some (18,false),.eX 1 (.t 1)⟩,⟨some 20,some (18,false),.load 1 false (.t 19)⟩,⟨some 21,some (18,false),.cn (.t 3)⟩,⟨some 22,some (18,false),.jF 1 (.t 20) (.t 21)⟩,⟨some 23,some (18,false),.load 1 false (.t 22)⟩,⟨some 24,some (18,false),.bin .geq (.t 23) (.c (ah 1048576))⟩,eo 25 18 24] (a6 25 (R [du 2 false] .ret) .skip))) (.ops [F 10 3,bg 11 .add 10 1,F 3 11])))))) (R [aW 26 1 1,aN 27 1 26,cp 28 27,F 4 28] (.seq (R [aW 29 0 1,aN 30 1 29,(az 31 (.bin .lss (.t 30) (.c (.I (.int .i64 (-1)))))),F 32 31,⟨some 33,some (32,false),.eX 0 (.t 1)⟩,⟨some 34,some (32,false),.load 1 false (.t 33)⟩,⟨some 35,some (32,false),.bin .gtr (.t 34) (.c (ah 1))⟩,eo 36 32 35,F 37 36,⟨some 38,some (37,false),.cn (.t 4)⟩,⟨some 39,some (37,false),.bin .gtr (.t 38) (.c (ah 60))⟩,eo 40 37 39,F 41 40,⟨some 42,some (41,false),.cn (.t 4)⟩,⟨some 43,some (41,false),.bin .eql (.t 42) (.c (ah 0))⟩,⟨some 44,some (41,false),.eX 0 (.t 1)⟩,⟨some 45,some (41,false),.load 1 false (.t 44)⟩,⟨some 46,some (41,false),.bin .eql (.t 45) (.c (ah 0))⟩,⟨some 47,some (41,false),.beq true (.t 43) (.t 46)⟩,eo 48 41 47] (a6 48 (R [du 2 false] .ret) .skip)) (R [F 49 4,bg 50 .eql 49 0,F 51 50,⟨some 52,some (51,false),.eX 1 (.t 1)⟩,⟨some 53,some (51,false),.load 1 false (.t 52)⟩,⟨some 54,some (51,false),.cn (.t 4)⟩,⟨some 55,some (51,false),.bin .sub (.t 54) (.c (ah 1))⟩,⟨some 56,some (51,false),.jF 1 (.t 53) (.t 55)⟩,⟨some 57,some (51,false),.load 1 false (.t 56)⟩,⟨some 58,some (51,false),.bin .neq (.t 57) (.c (ah 0))⟩,eo 59 51 58,F 2 59] .ret)))))
def TC:b5:=cx 13 1 [.cell 2 2 true] (R [dW 1 163001 0,(az 2 (.alloc 163002 [(ah 0),.nil]))] (.seq (R [bp 3 2 1,(dP 4 tI 3),gv 5 4] (a6 5 (R [(az 6 (.build [(ah 0),.nil] [])),ba 2 2 6] .ret) .skip)) (R [aW 7 0 1,aN 8 1 7,(az 9 (.un .neg (.t 8))),aW 10 1 1,aN 11 1 10,(cj 12 tJ 9 11),ba 2 2 12] .ret)))
def TD:b5:=cx 36 2 [.cell 4 2 true,.t 5] (R [dW 2 164002 0,dW 3 164003 1,(az 4 (.alloc 164004 [(ah 0),.nil])),bs 5 0] (.seq (R [bp 10 2 2,(dP 11 tI 10),gv 12 11,F 13 12,⟨some 14,some (13,false),.load 2 true (.t 3)⟩,⟨some 15,some (13,false),.call tI [(.t 14)]⟩,⟨some 16,some (13,false),.un .not (.t 15)⟩,eo 17 13 16] (a6 17 (R [(az 18 (.build [(ah 0),.nil] [])),ba 2 4 18,bs 5 1] .ret) .skip)) (R [aW 19 1 2,aN 20 1 19,F 6 20] (R [aW 21 1 3,aN 22 1 21,F 7 22] (.seq (.block 0 (.loop  (.seq (R [F 23 7,cp 24 23,bg 25 .gtr 24 0] (a6 25 .skip (.exit 0))) (.block 1 (R [F 27 6,F 28 7,(cj 29 H2 27 28),F 26 29,bt 30 0 26,bt 31 1 26,F 8 30,F 9 31] (R [F 32 7,F 6 32] (.ops [F 33 9,F 7 33]))))))) (R [F 34 6,(az 35 (.call tJ [(.c (ah 1)),(.t 34)])),ba 2 4 35,bs 5 0] .ret))))))
def TE:b5:=cx 65 2 [.cell 4 2 true,.cell 5 2 true,.t 6] (R [dW 2 165002 0,dW 3 165003 1,(az 4 (.alloc 165004 [(ah 0),.nil])),(az 5 (.alloc 165005 [(ah 0),.nil])),bs 6 0] (.seq (R [bp 9 2 2,(dP 10 tI 9),gv 11 10,F 12 11,⟨some 13,some (12,false),.load 2 true (.t 3)⟩,⟨some 14,some (12,false),.call tI [(.t 13)]⟩,⟨some 15,some (12,false),.un .not (.t 14)⟩,eo 16 12 15] (a6 16 (R [(az 17 (.build [(ah 0),.nil] [])),(az 18 (.build [(ah 0),.nil] [])),ba 2 4 17,ba 2 5 18,bs 6 1] .ret) .skip)) (.seq (R [aW 19 0 3,aN 20 1 19,bg 21 .eql 20 0] (a6 21 (R [(az 22 (.build [(ah 0),.nil] [])),(az 23 (.build [(ah 0),.nil] [])),ba 2 4 22,ba 2 5 23,bs 6 15] .ret) .skip)) (R [aW 25 1 2,aN 26 1 25,aW 27 1 3,aN 28 1 27,(cj 29 H2 26 28),F 24 29,bt 30 0 24,bt 31 1 24,F 7 30,F 8 31] (.seq (R [aW 32 0 2,aN 33 1 32,aW 34 0 3,aN 35 1 34,bC 36 .mul 33 35,bg 37 .geq 36 0,F 38 37,⟨some 39,some (38,false),.cn (.t 8)⟩,⟨some 40,some (38,false),.len (.t 39)⟩,⟨some 41,some (38,false),.bin .eql (.t 40) (.c (ah 0))⟩,eo 42 38 41] (a6 42 (fs [aW 43 0 2,aN 44 1 43,aW 45 0 3,aN 46 1 45,bC 47 .mul 44 46,F 48 7,(cj 49 tJ 47 48),aW 50 0 2,aN 51 1 50,F 52 8,(cj 53 tJ 51 52),ba 2 4 49,ba 2 5 53,bs 6 0] Ii .ret) .skip)) (fs [F 54 7,(az 55 (.e7 165055 false [(ah 0)] 1 1 [(0,1,(.c (ah 1)))])),(cj 56 Q5 54 55),(az 57 (.call tJ [(.c (.I (.int .i64 (-1)))),(.t 56)])),aW 58 0 3,aN 59 1 58,aW 60 1 3,aN 61 1 60,F 62 8,(cj 63 H3 61 62),(cj 64 tJ 59 63),ba 2 4 57,ba 2 5 64,bs 6 0] Ii .ret))))))
def TF:b5:=cx 15 2 [.cell 4 2 true] (R [(az 4 (.alloc 166004 [(ah 0),.nil]))] (R [F 6 1,(dP 7 sk 6),F 5 7] (.seq (R [F 8 5,cp 9 8,bg 10 .eql 9 0] (a6 10 (R [(az 11 (.build [(ah 0),.nil] [])),ba 2 4 11] .ret) .skip)) (R [F 12 0,F 13 5,(az 14 (.build [(ah 0),.nil] [(0,1,(.t 12)),(1,1,(.t 13))])),ba 2 4 14] .ret))))
def I8:b5:=cx 60 2 [.t 4,.t 5] (R [eD 4,eD 5] (R [F 12 0,cp 13 12,(az 14 (.lj 180014 [(ah 0)] 8 (.t 13) (.t 13))),F 6 14] (R [eD 7] (.seq (R [F 15 0,cp 16 15,bg 17 .sub 16 1,F 8 17] (.block 0 (.loop  (.seq (R [F 18 8,bg 19 .geq 18 0] (a6 19 .skip (.exit 0))) (.seq (.block 1 (R [F 22 0,F 23 8,bX 24 1 22 23,aN 25 1 24,(az 26 (.e7 180026 true [(ah 0)] 1 1 [(0,1,(.t 25))])),F 27 7,(az 28 (.app 180028 [(ah 0)] 8 (.t 26) (.t 27))),(dP 29 sk 28),F 7 29] (R [bs 9 0] (R [bs 10 1048576] (.seq (.block 2 (.loop  (.seq (R [F 30 10,F 31 9,bC 32 .sub 30 31,bg 33 .gtr 32 1] (a6 33 .skip (.exit 2))) (.block 3 (R [F 34 9,F 35 10,bC 36 .add 34 35,bg 37 .quo 36 2,F 11 37] (R [F 38 7,F 39 1,F 40 11,(az 41 (.e7 180041 false [(ah 0)] 1 1 [(0,1,(.t 40))])),(cj 42 H4 39 41),(cj 43 LO 38 42)] (a6 43 (.ops [F 44 11,F 10 44]) (.ops [F 45 11,F 9 45])))))))) (R [F 46 6,F 47 8,F 48 9,bX 49 1 46 47,ba 1 49 48] (.ops [F 50 7,F 51 1,F 52 9,(az 53 (.e7 180053 false [(ah 0)] 1 1 [(0,1,(.t 52))])),(dP 54 sk 53),(cj 55 H4 51 54),(cj 56 H3 50 55),F 7 56]))))))) (.ops [F 20 8,bg 21 .sub 20 1,F 8 21])))))) (R [F 57 6,(dP 58 sk 57),F 59 7,F 4 58,F 5 59] .ret)))))
def TG:b5:=cx 43 2 [.t 4] (R [eD 4] (R [eD 5] (R [bs 6 0] (.seq (R [bs 7 0] (.block 0 (.ghost (.po 5 181038 1) (.loop  (.seq (R [F 9 7,F 10 0,cp 11 10,bC 12 .lss 9 11,F 13 12,⟨some 14,some (13,false),.cn (.t 7)⟩,⟨some 15,some (13,false),.cn (.t 1)⟩,⟨some 16,some (13,false),.len (.t 15)⟩,⟨some 17,some (13,false),.bin .lss (.t 14) (.t 16)⟩,eo 18 13 17,F 19 18,⟨some 20,some (19,false),.cn (.t 6)⟩,⟨some 21,some (19,false),.bin .gtr (.t 20) (.c (ah 0))⟩,eo 22 19 21] (a6 22 .skip (.exit 0))) (.seq (.block 1 (R [F 25 0,F 26 7,(cj 27 sl 25 26),F 28 1,F 29 7,(cj 30 sl 28 29),bC 31 .add 27 30,F 32 6,bC 33 .add 31 32,F 8 33] (R [F 34 5,F 35 8,bg 36 .rem 35 1048576,(az 37 (.e7 181037 false [(ah 0)] 1 1 [(0,1,(.t 36))])),(az 38 (.app 181038 [(ah 0)] 8 (.t 34) (.t 37))),F 5 38] (.ops [F 39 8,bg 40 .quo 39 1048576,F 6 40])))) (.ops [F 23 7,bg 24 .add 23 1,F 7 24]))))))) (R [F 41 5,(dP 42 sk 41),F 4 42] .ret)))))
def TH:b5:=cx 35 2 [.t 4] (R [eD 4] (R [eD 5] (R [bs 6 0] (.seq (R [bs 7 0] (.block 0 (.ghost (.po 5 182032 1) (.loop  (.seq (R [F 9 7,F 10 0,cp 11 10,bC 12 .lss 9 11] (a6 12 .skip (.exit 0))) (.seq (.block 1 (fs [F 15 0,F 16 7,bX 17 1 15 16,aN 18 1 17,F 19 1,F 20 7,(cj 21 sl 19 20),bC 22 .sub 18 21,F 23 6,bC 24 .sub 22 23,F 8 24] D4 (R [bs 6 0] (.seq (R [F 25 8,bg 26 .lss 25 0] (a6 26 (R [F 27 8,bg 28 .add 27 1048576,F 8 28] (.ops [bs 6 1])) .skip)) (.ops [F 29 5,F 30 8,(az 31 (.e7 182031 false [(ah 0)] 1 1 [(0,1,(.t 30))])),(az 32 (.app 182032 [(ah 0)] 8 (.t 29) (.t 31))),F 5 32]))))) (.ops [F 13 7,bg 14 .add 13 1,F 7 14]))))))) (R [F 33 5,(dP 34 sk 33),F 4 34] .ret)))))
def TI:b5:=cx 23 1 [.t 2] (R [eD 2] (R [F 4 0,cp 5 4,F 3 5] (.seq (.block 0 (.loop  (.seq (R [F 6 3,bg 7 .gtr 6 0,F 8 7,⟨some 9,some (8,true),.cn (.t 0)⟩,⟨some 10,some (8,true),.cn (.t 3)⟩,⟨some 11,some (8,true),.bin .sub (.t 10) (.c (ah 1))⟩,⟨some 12,some (8,true),.jF 1 (.t 9) (.t 11)⟩,⟨some 13,some (8,true),.load 1 false (.t 12)⟩,⟨some 14,some (8,true),.bin .eql (.t 13) (.c (ah 0))⟩,gg 15 8 14] (a6 15 .skip (.exit 0))) (.block 1 (.ops [F 16 3,bg 17 .sub 16 1,F 3 17]))))) (R [(az 18 (.e7 183018 true [] 1 0 [])),F 19 0,F 20 3,(az 21 (.qX 1 (.t 19) none (some (.t 20)) none)),(az 22 (.app 183022 [(ah 0)] 8 (.t 18) (.t 21))),F 2 22] .ret))))
def TJ:b5:=cx 30 2 [.t 4] (R [du 4 false] (.seq (R [F 6 0,cp 7 6,F 8 1,cp 9 8,(az 10 (.il true (.t 7) (.t 9))),bg 11 .sub 10 1,F 5 11] (.block 0 (.loop  (.seq (R [F 12 5,bg 13 .geq 12 0] (a6 13 .skip (.exit 0))) (.seq (.block 1 (R [F 16 0,F 17 5,(cj 18 sl 16 17),F 19 1,F 20 5,(cj 21 sl 19 20),bC 22 .neq 18 21] (a6 22 (R [F 23 0,F 24 5,(cj 25 sl 23 24),F 26 1,F 27 5,(cj 28 sl 26 27),bC 29 .lss 25 28,F 4 29] .ret) .skip))) (.ops [F 14 5,bg 15 .sub 14 1,F 5 15])))))) (R [du 4 false] .ret)))
def TK:b5:=cx 60 2 [.t 4] (R [eD 4] (R [F 10 0,cp 11 10,F 12 1,cp 13 12,bC 14 .add 11 13,(az 15 (.lj 186015 [(ah 0)] 8 (.t 14) (.t 14))),F 5 15] (.seq (R [bs 6 0] (.block 0 (.loop  (.seq (R [F 16 6,F 17 0,cp 18 17,bC 19 .lss 16 18] (a6 19 .skip (.exit 0))) (.seq (.block 1 (R [bs 7 0] (R [bs 8 0] (.block 2 (.loop  (.seq (R [F 22 8,F 23 1,cp 24 23,bC 25 .lss 22 24,F 26 25,⟨some 27,some (26,false),.cn (.t 7)⟩,⟨some 28,some (26,false),.bin .gtr (.t 27) (.c (ah 0))⟩,eo 29 26 28] (a6 29 .skip (.exit 2))) (.seq (.block 3 (fs [F 32 5,F 33 6,F 34 8,bC 35 .add 33 34,bX 36 1 32 35,aN 37 1 36,F 38 0,F 39 6,bX 40 1 38 39,aN 41 1 40,F 42 1,F 43 8,(cj 44 sl 42 43),bC 45 .mul 41 44,bC 46 .add 37 45,F 47 7,bC 48 .add 46 47,F 9 48] alX (R [F 49 5,F 50 6,F 51 8,bC 52 .add 50 51,F 53 9,bg 54 .rem 53 1048576,bX 55 1 49 52,ba 1 55 54] (.ops [F 56 9,bg 57 .quo 56 1048576,F 7 57])))) (.ops [F 30 8,bg 31 .add 30 1,F 8 31])))))))) (.ops [F 20 6,bg 21 .add 20 1,F 6 21])))))) (R [F 58 5,(dP 59 sk 58),F 4 59] .ret))))
def TL:b5:=cx 13 2 [.t 4] (R [bs 4 0] (.seq (R [F 5 1,F 6 0,cp 7 6,bC 8 .lss 5 7] (a6 8 (R [F 9 0,F 10 1,bX 11 1 9 10,aN 12 1 11,F 4 12] .ret) .skip)) (R [bs 4 0] .ret)))
theorem EJ (l:List Int):DI (.own 1 (l.map af))=some (.own 1 (l.map af)):=by
 refine Z ?_;rw[List.all_eq_true];intro e he;obtain⟨d,-,rfl⟩:=List.mem_map.1 he;simp[af,scalar]
theorem vm (n k g sz off len:Nat):cZ n emp (.ref k g sz off len)=none:=by cases n<;>rfl
def Am:=cy D5 λ(l:List Int)=>cW (D l<=1000000) (.own 1 ((fk l).map af))
@[go_sem] theorem Ci (l:List Int)(G:(D l)<=1000000):Am [.ae (l.map af)]=some (.own 1 ((fk l).map af)):=(cK LU l).trans (c6 G _)
theorem aor (T:bk)  (l:List Int) (G:(D l)<=1000000):WP T TI (.own 1 ((fk l).map af)) [.I (.ae (l.map af))]:=by
 refine cH ?_;simp only[TI];have r4:((l.map af).all λe=>D e==1)=true:=by simp[af]
 refine a7 ?_;repeat' (intro h<;>simp only[h,go_sem,go_sem_proc,al]<;>try refine av ?_ ?_)
 refine dG [0] [] (λ(n:Nat) tm mem=>n<=D l/\fk l=fk (l.take n)/\tm 3=.I (.int .i64 n)/\mem 183018=none) (λn=>n) (D l) (by refine⟨bM _,by simp,by simp[go_sem],rfl⟩) ?_;intro vs ms aV aS;simp only[go_sem,go_sem_proc,al] at aV aS;subst aV aS;rintro n tm mem J-⟨aG,bI,ab,TM⟩;simp only[go_sem,go_sem_proc,bf] at J;have ai:=J
 have dm:∀o:List Int,D o<=(D l)->lQ 183018 0 1 0 8 (D o) ((o.map af).flatten.map .I) (some (0,[]))=some (.ref 183018 1 1 0 (D o),some (183018,1,aY af o)):=by
  intro o bu;have:=DO hF wE 183018 0 8 [] o (by simp;omega) (by simp;omega)
  simpa [aY] using this
 have uS:∀(o:List Int) (m:Mem),m 183018=some (1,aY af o)->oP 1 m (.ref 183018 1 1 0 (D o))=some (o.map af):=by
  intro o m hm;have:=aaw hm (bM _);rwa [dE (bM _)] at this
 have aos:∀o:List Int,((o.map af).all λe=>D e==1)=true:=λo=>by simp[af]
 rcases n with _|n
 ·have E:=dm [] (by simp);have bu:=uS [];simp only[cg,abX,mu] at E bu;refine a7 ?_;repeat' (intro h<;>simp only[h,go_sem,go_sem_proc,ai,ab,TM,r4,E,ku,kR,show ¬ ((0:Int)>0) by omega,decide_false,al,show (0:Int).toNat=0 from rfl,show (0:Int)<=0 by omega,fr,List.take_zero,cg,mu]<;>try refine av ?_ ?_)
  rw[bu _ (by simp[a3]),bI];simp[fk]
 ·have hw:IntKind.i64.wrap (((n+1:Nat):Int)-1)=(n:Int):=by rw[eC _];omega
  have O:l[n]?=some l[n]:=bx (by omega);have hD:((n+1:Nat):Int)>0:=by omega
  have hle:n+1<=D l:=aG
  by_cases aR:l[n]=0
  ·refine a7 ?_;repeat' (intro h<;>simp only[h,go_sem,go_sem_proc,ai,ab,hw,O,aR,hD,al,bd,decide_true,af,beq_self_eq_true,bf]<;>try refine av ?_ ?_)
   exact⟨n,by omega,by omega,by rw[bI,RN l n (by omega) aR],rfl,TM⟩
  ·have sm:(l[n]==0)=false:=by simpa using aR
   have E:=dm (l.take (n+1)) (by rw[g7];omega);rw[g7,nE hle,abY] at E;have b0:(List.take (n+1) (l.map af)).length=n+1:=by rw[g7,al];omega
   have abZ:=aos (l.take (n+1));rw[abY] at abZ;refine a7 ?_;repeat' (intro h<;>simp only[h,go_sem,go_sem_proc,ai,ab,TM,hw,O,sm,hD,r4,abZ,hle,E,b0,af,al,bd,decide_true,bf,show (0:Int)<=((n+1:Nat):Int) by omega,gZ,fr]<;>try refine av ?_ ?_)
   have bu:=uS (l.take (n+1)) _ (show a3 (a3 mem 183018 0 []) 183018 1 (aY af (List.take (n+1) l)) 183018=_ by simp[a3])
   rw[g7,nE hle] at bu;rw[bu,bI,RO l n (by omega) aR]
abbrev TN:(List Int)×Nat->List Data:=λ(l,i)=>[.ae (l.map af),.int .i64 i]
def EK:=cy TN λ(l,i)=>cW (D l<=1000000) (.same (.int .i64 (l.getD i 0)))
theorem aot:∀a b,TN a=TN b->a=b:=by
  rintro⟨eE,i1⟩ ⟨aj,i2⟩ h;simp only[bf,Data.ae.injEq,Data.int.injEq] at h;exact eN (map_inj gY _ _ h.1) (by have:=h.2.1.2;dsimp only;omega)
@[go_sem] theorem ab0 (l:List Int)(i:Nat)(G:(D l)<=1000000):EK [.ae (l.map af),.int .i64 i]=some (.same (.int .i64 (l.getD i 0))):=(cK aot (l,i)).trans (c6 G _)
theorem aou (T:bk)  (l:List Int) (i:Nat) (G:(D l)<=1000000):WP T TL (.same (.int .i64 (l.getD i 0))) [.I (.ae (l.map af)),.I (.int .i64 i)]:=by
 refine cH ?_;simp only[TL];rcases hK i (D l) with ao|cf
 ·have O:=bx ao;have X:decide ((i:Int)<(D l:Int))=true:=dn;have aU:l.getD i 0=l[i]:=by rw[ea,O];rfl
  rw[aU];refine a7 ?_;repeat' (intro h<;>simp only[h,go_sem,go_sem_proc,O,X,af,al,bd]<;>try refine av ?_ ?_)
 ·have X:decide ((i:Int)<(D l:Int))=false:=dr;have aU:l.getD i 0=0:=by rw[ea,lr cf];rfl
  rw[aU];refine a7 ?_;repeat' (intro h<;>simp only[h,go_sem,go_sem_proc,X,al]<;>try refine av ?_ ?_)
theorem EL (n i:Nat):(aD n).getD i 0=((n/1048576^i%1048576:Nat):Int):=by
 induction i generalizing n with
 |zero =>
  rcases iU n with h|h
  ·subst h;rfl
  ·rw[tE h,Nat.pow_zero,Nat.div_one];rfl
 |succ i aw =>
  rcases iU n with h|h
  ·subst h;rw[ab1];rfl
  ·rw[tE h];show (aD (n/1048576)).getD i 0=_;rw[aw,ab2,<-Nat.pow_succ']
theorem EM (n i:Nat):n/1048576^i=n/1048576^i%1048576+1048576*(n/1048576^(i+1)):=by
 rw[uZ,<-ab2];omega
theorem An {n k:Nat}(h:(aD n).length<=k):n/1048576^k=0:=Nat.div_eq_of_lt (gA.1 h)
def MV:=cy tO λ(x,y)=>cW ((aD x).length<=100000/\(aD y).length<=100000) (.same (.bool (decide (x<y))))
@[go_sem] theorem aov (x:Nat)(y:Nat)(G:(aD x).length<=100000/\(aD y).length<=100000):MV [bN x,bN y]=some (.same (.bool (decide (x<y)))):=(cK wJ (x,y)).trans (c6 G _)
theorem aow (T:bk)(fO:T sl=aX EK)(x:Nat)(y:Nat)(G:(aD x).length<=100000/\(aD y).length<=100000):WP T TJ (.same (.bool (decide (x<y)))) [.I (bN x),.I (bN y)]:=by
 refine cH ?_;simp only[TJ];obtain⟨O,ak⟩:=G;have l0:∃a5:Nat,a5=max (aD x).length (aD y).length:=⟨_,rfl⟩;obtain⟨a5,l0⟩:=l0;have hC:(if ((aD y).length:Int)>((aD x).length:Int) then ((aD y).length:Int) else ((aD x).length:Int))=(a5:Int):=by split<;>omega
 have z7:IntKind.i64.wrap ((a5:Int)-1)=(a5:Int)-1:=wrap64 _ (by omega) (by omega);have nd:(aD x).length<=1000000:=by omega
 have j7:(aD y).length<=1000000:=by omega
 simp only[go_sem,go_sem_proc,fO,bN,al,hC,z7];refine dG [0,1] [] (λ(i:Nat) tm mem=>i<=a5/\x/1048576^i=y/1048576^i/\tm 5=.I (.int .i64 ((i:Int)-1))) (λi=>i) a5 (by refine⟨bM _,?_,rfl⟩;rw[An (by omega),An (by omega)]) ?_;intro vs ms aV aS;simp only[go_sem,go_sem_proc,fO,bN] at aV aS;subst aV aS;rintro i tm mem J-⟨L,he,bj⟩;simp only[go_sem,go_sem_proc,fO,bf] at J;obtain⟨ai,E⟩:=J;rcases i with _|i
 ·have mB:x=y:=by simpa using he
  have ao:decide (x<y)=false:=dr;rw[ao];simp only[go_sem,go_sem_proc,fO,ai,E,bj,ku,kR,show ¬ ((0:Int)-1>=0) by omega,decide_false]
  repeat' (first|refine av ?_ ?_|fail)<;>intro h<;>simp only[h,go_sem,go_sem_proc,fO,ai,E,bj,ku,kR,show ¬ ((0:Int)-1>=0) by omega,decide_false]
 ·have hw:((i+1:Nat):Int)-1=(i:Int):=by omega
  have cf:decide ((i:Int)>=0)=true:=dn;have aA:=EM x i;have ay:=EM y i;rw[he] at aA;have e9:IntKind.i64.wrap ((i:Int)-1)=(i:Int)-1:=wrap64 _ (by omega) (by omega);have cG:=EL x i;have cO:=EL y i;have dR:=nN (x/1048576^i) (show 0<1048576 by omega);have gQ:=nN (y/1048576^i) (show 0<1048576 by omega);have bU:x/1048576^i<y/1048576^i->x<y:=λh=>ab3 h;have b0:y/1048576^i<x/1048576^i->y<x:=λh=>ab3 h;generalize lZ:x/1048576^i=cA at *;generalize yD:y/1048576^i=fK at *;generalize y/1048576^(i+1)=xc at *;generalize cA%1048576=a at *;generalize fK%1048576=b at *;rcases Nat.lt_trichotomy a b with h|h|h
  ·have bP:((a:Int)==(b:Int))=false:=by simp;omega
   have yL:decide ((a:Int)<(b:Int))=decide (x<y):=by rw[kH (show (a:Int)<(b:Int) by omega),kH (bU (by omega))]
   simp only[go_sem,go_sem_proc,fO,ai,E,bj,hw,cf,cG,cO,nd,j7,bP,yL];repeat' (first|refine av ?_ ?_|fail)<;>intro h<;>simp only[h,go_sem,go_sem_proc,fO,ai,E,bj,hw,cf,cG,cO,nd,j7,bP,yL]
  ·subst h;simp only[go_sem,go_sem_proc,fO,ai,E,bj,hw,cf,cG,cO,nd,j7,e9,beq_self_eq_true];repeat' (first|refine av ?_ ?_|fail)<;>intro h<;>simp only[h,go_sem,go_sem_proc,fO,ai,E,bj,hw,cf,cG,cO,nd,j7,e9,beq_self_eq_true]
   exact⟨i,by omega,by omega,by rw[lZ,yD];omega,rfl⟩
  ·have bP:((a:Int)==(b:Int))=false:=by simp;omega
   have yL:decide ((a:Int)<(b:Int))=decide (x<y):=by rw[oE (show ¬ (a:Int)<(b:Int) by omega),oE (by have:=b0 (by omega);omega)]
   simp only[go_sem,go_sem_proc,fO,ai,E,bj,hw,cf,cG,cO,nd,j7,bP,yL];repeat' (first|refine av ?_ ?_|fail)<;>intro h<;>simp only[h,go_sem,go_sem_proc,fO,ai,E,bj,hw,cf,cG,cO,nd,j7,bP,yL]
theorem TO {o:List Int}{d:Int}(h:en o)(ai:0<=d)(E:d<1048576):en (o++[d]):=Bv.2 ⟨h,Bu.2 ⟨⟨ai,E⟩,by intro d X;cases X⟩⟩
theorem TP (o:List Int)(d:Int):a1 (o++[d])=a1 o+1048576^(D o)*d:=by rw[Bw];simp[a1]
theorem EN {o:List Int}{n:Nat}(h:en o)(aI:a1 o=n):fk o=aD n:=by rw[yj h,aI];rfl
def TQ:=cy tO λ(x,y)=>cW ((aD x).length<=10000/\(aD y).length<=10000) (.same (bN (x+y)))
@[go_sem] theorem aox (x:Nat)(y:Nat)(G:(aD x).length<=10000/\(aD y).length<=10000):TQ [bN x,bN y]=some (.same (bN (x+y))):=(cK wJ (x,y)).trans (c6 G _)
theorem aoy (T:bk)(fO:T sl=aX EK)(fy:T sk=aX Am)(x:Nat)(y:Nat)(G:(aD x).length<=10000/\(aD y).length<=10000):WP T TG (.same (bN (x+y))) [.I (bN x),.I (bN y)]:=by
 refine cH ?_;simp only[TG];obtain⟨O,ak⟩:=G;have l0:∃a5:Nat,a5=max (aD x).length (aD y).length:=⟨_,rfl⟩;obtain⟨a5,l0⟩:=l0;have nd:(aD x).length<=1000000:=by omega
 have j7:(aD y).length<=1000000:=by omega
 simp only[go_sem,go_sem_proc,fO,fy,bN,al];refine dG [0,1] [] (λ((i,c,g,o):Nat×Nat×Nat×List Int) tm mem=>i<=a5+1/\c<=1/\(i=a5+1->c=0)/\D o=i/\en o/\a1 o+1048576^i*((x/1048576^i+y/1048576^i+c:Nat):Int)=((x+y:Nat):Int)/\tm 6=.I (.int .i64 c)/\tm 7=.I (.int .i64 i)/\tm 5=.ref 181038 g 1 0 i/\mem 181038=some (g,aY af o)) (λ(i,_)=>a5+1-i) (0,0,0,[]) (by refine⟨by omega,by omega,by simp,rfl,by simp[en],by simp[a1],rfl,rfl,rfl,rfl⟩) ?_;intro vs ms aV aS;simp only[go_sem,go_sem_proc,fO,fy,bN] at aV aS;subst aV aS;rintro⟨i,c,g,o⟩ tm mem J-⟨L,gq,hc,bu,h3,aI,bH,bA,bj,hm⟩;simp only[go_sem,go_sem_proc,fO,fy,bf] at J;obtain⟨ai,E⟩:=J;have aC:a1 o+1048576^i*((x/1048576^i+y/1048576^i+c:Nat):Int)=((x+y:Nat):Int):=aI
 by_cases I9:i<(aD x).length\/i<(aD y).length\/0<c
 ·have aA:=EM x i;have ay:=EM y i;have cG:=EL x i;have cO:=EL y i;have dR:=nN (x/1048576^i) (show 0<1048576 by omega);have gQ:=nN (y/1048576^i) (show 0<1048576 by omega);have Sy:a5<=i->x/1048576^i=0/\y/1048576^i=0:=λh=>⟨An (by omega),An (by omega)⟩;have fX:(1048576:Int)^(i+1)=1048576^i*1048576:=my _ _;generalize lZ:x/1048576^i=cA at *;generalize yD:y/1048576^i=fK at *;generalize yM:x/1048576^(i+1)=X' at *;generalize EO:y/1048576^(i+1)=Y' at *;generalize aZ:cA%1048576=a at *;generalize ad:fK%1048576=b at *;have w1:IntKind.i64.wrap ((a:Int)+(b:Int))=((a+b:Nat):Int):=by rw[eC _];omega
  have mZ:IntKind.i64.wrap (((a+b:Nat):Int)+(c:Int))=((a+b+c:Nat):Int):=by rw[eC _];omega
  have fE:((a+b+c:Nat):Int).tmod 1048576=(((a+b+c)%1048576:Nat):Int):=by rw[zZ (by omega)];omega
  have gF:IntKind.i64.wrap (((a+b+c:Nat):Int).tdiv 1048576)=(((a+b+c)/1048576:Nat):Int):=by rw[yv (by omega),wrap64 _ (by omega) (by omega)];omega
  have cl:=gu (i:=i) (by omega);have dm:=mw hF wE 181038 g 8 o (((a+b+c)%1048576:Nat):Int) (cs:=[.I (.int .i64 (((a+b+c)%1048576:Nat):Int))]) rfl (by omega) (by omega);rw[bu] at dm
  have aCo:i<=a5:=by
   rcases hK a5 i with h|h
   ·have:=hc (by omega);omega
   ·exact h
  have h2:∃a4:Nat×Nat×Nat×List Int,a5+1-a4.1<a5+1-i/\a4.1<=a5+1/\a4.2.1<=1/\(a4.1=a5+1->a4.2.1=0)/\a4.2.2.2.length=a4.1/\en a4.2.2.2/\a1 a4.2.2.2+1048576^a4.1*((x/1048576^a4.1+y/1048576^a4.1+a4.2.1:Nat):Int)=((x+y:Nat):Int)/\M.I (Data.int .i64 (((a+b+c)/1048576:Nat):Int))=M.I (Data.int .i64 (a4.2.1:Int))/\M.I (Data.int .i64 ((i+1:Nat):Int))=M.I (Data.int .i64 (a4.1:Int))/\M.ref 181038 (g+1) 1 0 (i+1)=M.ref 181038 a4.2.2.1 1 0 a4.1/\some (g+1,aY af (o++[(((a+b+c)%1048576:Nat):Int)]))=some (a4.2.2.1,aY af a4.2.2.2):=by
   refine⟨(i+1,(a+b+c)/1048576,g+1,o++[(((a+b+c)%1048576:Nat):Int)]),by dsimp only;omega,by dsimp only;omega,by dsimp only;omega,?_,by simp[bu],TO h3 (by omega) (by omega),?_,rfl,rfl,rfl,rfl⟩
   ·intro h;dsimp only at h ⊢;have:=Sy (by omega);omega
   ·dsimp only;rw[yM,EO,TP,bu,fX,<-aC];have cV:((cA+fK+c:Nat):Int)=1048576*((X'+Y'+(a+b+c)/1048576:Nat):Int)+(((a+b+c)%1048576:Nat):Int):=by omega
    rw[cV,hP,hQ];omega
  by_cases x7:i<(aD x).length
  ·have d1:decide ((i:Int)<((aD x).length:Int))=true:=dn;simp only[go_sem,go_sem_proc,fO,fy,ai,E,bj,bH,bA,hm,cG,cO,nd,j7,d1,w1,mZ,fE,gF,cl,dm,al];repeat' (first|refine av ?_ ?_|fail)<;>intro h<;>simp only[h,go_sem,go_sem_proc,fO,fy,ai,E,bj,bH,bA,hm,cG,cO,nd,j7,d1,w1,mZ,fE,gF,cl,dm,al]
   exact h2
  ·have d1:decide ((i:Int)<((aD x).length:Int))=false:=dr
   by_cases uR:i<(aD y).length
   ·have d2:decide ((i:Int)<((aD y).length:Int))=true:=dn;simp only[go_sem,go_sem_proc,fO,fy,ai,E,bj,bH,bA,hm,cG,cO,nd,j7,d1,d2,w1,mZ,fE,gF,cl,dm,al];repeat' (first|refine av ?_ ?_|fail)<;>intro h<;>simp only[h,go_sem,go_sem_proc,fO,fy,ai,E,bj,bH,bA,hm,cG,cO,nd,j7,d1,d2,w1,mZ,fE,gF,cl,dm,al]
    exact h2
   ·have d2:decide ((i:Int)<((aD y).length:Int))=false:=dr;have d3:decide ((c:Int)>0)=true:=dn;simp only[go_sem,go_sem_proc,fO,fy,ai,E,bj,bH,bA,hm,cG,cO,nd,j7,d1,d2,d3,w1,mZ,fE,gF,cl,dm,al];repeat' (first|refine av ?_ ?_|fail)<;>intro h<;>simp only[h,go_sem,go_sem_proc,fO,fy,ai,E,bj,bH,bA,hm,cG,cO,nd,j7,d1,d2,d3,w1,mZ,fE,gF,cl,dm,al]
    exact h2
 ·have d1:decide ((i:Int)<((aD x).length:Int))=false:=dr;have d2:decide ((i:Int)<((aD y).length:Int))=false:=dr;have d3:decide ((c:Int)>0)=false:=dr;rw[An (n:=x) (by omega),An (n:=y) (by omega),show c=0 by omega] at aC
  have cz:=Ci o (by omega);rw[EN (n:=x+y) h3 (by simpa using aC)] at cz;have fD:=EJ (aD (x+y));have jM:=pB (n:=5) hF hm;rw[bu] at jM;simp only[go_sem,go_sem_proc,fO,fy,ai,E,bj,bH,bA,hm,d1,d2,d3,cz,fD,jM,vm,pQ,al];repeat' (first|refine av ?_ ?_|fail)<;>intro h<;>simp only[h,go_sem,go_sem_proc,fO,fy,ai,E,bj,bH,bA,hm,d1,d2,d3,cz,fD,jM,vm,pQ,al]
def MW:=cy tO λ(x,y)=>cW ((aD x).length<=10000/\(aD y).length<=10000/\y<=x) (.same (bN (x-y)))
@[go_sem] theorem ab4 (x:Nat)(y:Nat)(G:(aD x).length<=10000/\(aD y).length<=10000/\y<=x):MW [bN x,bN y]=some (.same (bN (x-y))):=(cK wJ (x,y)).trans (c6 G _)
theorem aoz (T:bk)(fO:T sl=aX EK)(fy:T sk=aX Am)(x:Nat)(y:Nat)(G:(aD x).length<=10000/\(aD y).length<=10000/\y<=x):WP T TH (.same (bN (x-y))) [.I (bN x),.I (bN y)]:=by
 refine cH ?_;simp only[TH];obtain⟨O,ak,mB⟩:=G;have nd:(aD x).length<=1000000:=by omega
 have j7:(aD y).length<=1000000:=by omega
 have aaC:(aD y).length<=(aD x).length:=by rw[gA];exact sw mB (gA.1 (bM _))
 simp only[go_sem,go_sem_proc,fO,fy,bN,al];refine dG [0,1] [] (λ((i,c,g,o):Nat×Nat×Nat×List Int) tm mem=>i<=(aD x).length/\c<=1/\y/1048576^i+c<=x/1048576^i/\D o=i/\en o/\a1 o+1048576^i*((x/1048576^i-(y/1048576^i+c):Nat):Int)=((x-y:Nat):Int)/\tm 6=.I (.int .i64 c)/\tm 7=.I (.int .i64 i)/\tm 5=.ref 182032 g 1 0 i/\mem 182032=some (g,aY af o)) (λ(i,_)=>(aD x).length-i) (0,0,0,[]) (by refine⟨by omega,by omega,by simpa using mB,rfl,by simp[en],by simp[a1],rfl,rfl,rfl,rfl⟩) ?_;intro vs ms aV aS;simp only[go_sem,go_sem_proc,fO,fy,bN] at aV aS;subst aV aS;rintro⟨i,c,g,o⟩ tm mem J-⟨L,gq,hle,bu,h3,aI,bH,bA,bj,hm⟩;simp only[go_sem,go_sem_proc,fO,fy,bf] at J;obtain⟨ai,E⟩:=J;have aC:a1 o+1048576^i*((x/1048576^i-(y/1048576^i+c):Nat):Int)=((x-y:Nat):Int):=aI;have PX:y/1048576^i+c<=x/1048576^i:=hle
 by_cases I9:i<(aD x).length
 ·have d1:decide ((i:Int)<((aD x).length:Int))=true:=dn;have aA:=EM x i;have ay:=EM y i;have cG:=EL x i;rw[ea,bx I9] at cG;have gz:(aD x)[i]?=some ((x/1048576^i%1048576:Nat):Int):=by rw[bx I9];exact congrArg some cG
  have cO:=EL y i;have dR:=nN (x/1048576^i) (show 0<1048576 by omega);have gQ:=nN (y/1048576^i) (show 0<1048576 by omega);have fX:(1048576:Int)^(i+1)=1048576^i*1048576:=my _ _;clear cG hle aI;generalize lZ:x/1048576^i=cA at *;generalize yD:y/1048576^i=fK at *;generalize yM:x/1048576^(i+1)=X' at *;generalize EO:y/1048576^(i+1)=Y' at *;generalize aZ:cA%1048576=a at *;generalize ad:fK%1048576=b at *;have w1:IntKind.i64.wrap ((a:Int)-(b:Int))=(a:Int)-(b:Int):=wrap64 _ (by omega) (by omega);have mZ:IntKind.i64.wrap ((a:Int)-(b:Int)-(c:Int))=(a:Int)-(b:Int)-(c:Int):=wrap64 _ (by omega) (by omega);have cl:=gu (i:=i) (by omega);have sI:IntKind.i64.wrap ((a:Int)-(b:Int)-(c:Int)+1048576)=(a:Int)-(b:Int)-(c:Int)+1048576:=wrap64 _ (by omega) (by omega);have dm:=λd:Int=>mw hF wE 182032 g 8 o d (cs:=[.I (.int .i64 d)]) rfl (by omega) (by omega);rw[bu] at dm;rcases jN:decide ((a:Int)-(b:Int)-(c:Int)<0)
  ·have aG:=of_decide_eq_false jN;refine a7 ?_;repeat' (intro h<;>simp only[h,go_sem,go_sem_proc,fO,fy,ai,E,bj,bH,bA,hm,gz,cO,j7,d1,w1,mZ,cl,dm,jN,af,al,bd]<;>try refine av ?_ ?_)
   refine⟨(i+1,0,g+1,o++[(a:Int)-(b:Int)-(c:Int)]),by dsimp only;omega,by dsimp only;omega,by dsimp only;omega,by dsimp only;rw[yM,EO];omega,by simp[bu],TO h3 (by omega) (by omega),?_,rfl,rfl,rfl,rfl⟩
   dsimp only;rw[yM,EO,TP,bu,fX,<-aC];have cV:((cA-(fK+c):Nat):Int)=1048576*((X'-(Y'+0):Nat):Int)+((a:Int)-b-c):=by omega
   rw[cV,hP,hQ];omega
  ·have aG:=of_decide_eq_true jN;refine a7 ?_;repeat' (intro h<;>simp only[h,go_sem,go_sem_proc,fO,fy,ai,E,bj,bH,bA,hm,gz,cO,j7,d1,w1,mZ,cl,sI,dm,jN,af,al,bd]<;>try refine av ?_ ?_)
   refine⟨(i+1,1,g+1,o++[(a:Int)-(b:Int)-(c:Int)+1048576]),by dsimp only;omega,by dsimp only;omega,by dsimp only;omega,by dsimp only;rw[yM,EO];omega,by simp[bu],TO h3 (by omega) (by omega),?_,rfl,rfl,rfl,rfl⟩
   dsimp only;rw[yM,EO,TP,bu,fX,<-aC];have cV:((cA-(fK+c):Nat):Int)=1048576*((X'-(Y'+1):Nat):Int)+((a:Int)-b-c+1048576):=by omega
   have da:∀p bR eF:Int,a1 o+p*bR+p*1048576*eF=a1 o+p*(1048576*eF+bR):=λp bR eF=>by rw[hP p (1048576*eF) bR,<-hQ];omega
   rw[cV];exact da _ _ _
 ·have d1:decide ((i:Int)<((aD x).length:Int))=false:=dr;rw[An (n:=x) (by omega),An (n:=y) (by omega),Nat.zero_sub,ku,sB,tU] at aC;have cz:=Ci o (by omega);rw[EN (n:=x-y) h3 aC] at cz;have fD:=EJ (aD (x-y));have jM:=pB (n:=5) hF hm;rw[bu] at jM;refine a7 ?_;repeat' (intro h<;>simp only[h,go_sem,go_sem_proc,fO,fy,ai,E,bj,bH,bA,hm,d1,cz,fD,jM,vm,pQ,al]<;>try refine av ?_ ?_)
theorem ab5 {b:List Int}{k:Nat}(h:k<D b):b.getD k 0=b[k]:=by rw[ea,bx h];rfl
theorem TR {b:List Int}{k:Nat}(h:(D b)<=k):b.getD k 0=0:=by rw[ea,lr h];rfl
def MX:=cy tO λ(x,y)=>cW ((aD x).length<=10000/\(aD y).length<=10000) (.same (bN (x*y)))
@[go_sem] theorem ab6 (x:Nat)(y:Nat)(G:(aD x).length<=10000/\(aD y).length<=10000):MX [bN x,bN y]=some (.same (bN (x*y))):=(cK wJ (x,y)).trans (c6 G _)
theorem aoA (T:bk)(fO:T sl=aX EK)(fy:T sk=aX Am)(x:Nat)(y:Nat)(G:(aD x).length<=10000/\(aD y).length<=10000):WP T TK (.same (bN (x*y))) [.I (bN x),.I (bN y)]:=by
 refine cH ?_;simp only[TK];obtain⟨O,ak⟩:=G;have ss:=lW x;have qu:=lW y;have u3:=kQ x;have BO:=kQ y;generalize aZ:aD x=a at *;generalize ad:aD y=b at *;have nP:IntKind.i64.wrap ((D a:Int)+(D b:Int))=((D a+D b:Nat):Int):=by rw[eC _];rfl
 have j2:8*(D a+D b)<=140737488355328:=by omega
 have eh:(D a)+D b<=maxLen:=Ea _ (by omega);have Hu:(D b)<=1000000:=by omega
 simp only[go_sem,go_sem_proc,fO,fy,bN,aZ,ad,nP,j2,eh,D9,al]
 refine dG [0,1,5] [] (λ((i,o):Nat×List Int) tm mem=>i<=D a/\D o=D a+D b/\en o/\o.drop (i+D b)=ep (D o-(i+D b)) 0/\a1 o=a1 (a.take i)*y/\tm 6=.I (.int .i64 (i:Nat))/\mem 186015=some (0,aY af o))
  (λ(i,_)=>D a-i) (0,ep (D a+D b) 0) (by
   have aR:∀n,a1 (ep n 0)=0:=by
    intro n
    induction n with
    |zero=>rfl
    |succ n aw=>rw[List.replicate_succ,sj,aw];rfl
   refine⟨fr _,by simp,λd X=>by rw[Ee] at X;omega,by simp,by rw[aR];simp[a1],?_,?_⟩<;>rfl) ?_
 intro vs ms aV aS;simp only[go_sem,go_sem_proc,fO,fy,bN,aZ,ad,nP,al] at aV aS;subst aV aS;rintro⟨i,o⟩ tm mem J-⟨L,bu,h3,rl,iV,bH,hm⟩;simp only[go_sem,go_sem_proc,fO,fy,bf] at J;obtain⟨ai,E,bj⟩:=J;rcases dX (i<D a) with ao|cf
 ·have lX:a[i]?=some a[i]:=bx ao;have zM:=kx ss i ao;have sc:=kv a i ao;generalize a[i]=hq at *;have hT:decide ((i:Int)<(D a:Int))=true:=dn;have z3:IntKind.i64.wrap ((i:Int)+1)=((i+1:Nat):Int):=by rw[eC _];rfl
  simp only[go_sem,go_sem_proc,fO,fy,ai,E,bj,bH,lX,hT,af,al,bd,bf]
  refine dG [0,1,5,6] [] (λ((k,c,o):Nat×Int×List Int) tm mem=>k<=D b+1/\(k=D b+1->c=0)/\D o=D a+D b/\en o/\o.drop (i+max k (D b))=ep (D o-(i+max k (D b))) 0/\0<=c/\c<1048576/\a1 o+1048576^(i+k)*c=a1 (a.take i)*y+1048576^i*(hq*a1 (b.take k)) /\
    tm 8=.I (.int .i64 (k:Nat))/\tm 7=.I (.int .i64 c)/\mem 186015=some (0,aY af o))
   (λ(k,_)=>D b+1-k) (0,0,o) (by refine⟨fr _,by simp,bu,h3,by rw[Nat.zero_max];exact rl,by omega,by omega,by simp[a1,iV],?_,?_,hm⟩<;>rfl) ?_
  intro vs ms aV aS;simp only[go_sem,go_sem_proc,fO,fy,ai,E,bj,bH,af,al] at aV aS;subst aV aS;rintro⟨k,c,o⟩ tm mem J-⟨sb,Ao,bu,h3,rl,j5,gq,iV,bT,bA,hm⟩;simp only[go_sem,go_sem_proc,fO,fy,bf] at J;obtain⟨ai,E,bj,bH⟩:=J;have e9:IntKind.i64.wrap ((k:Int)+1)=((k+1:Nat):Int):=by rw[eC _];rfl
  have iK:IntKind.i64.wrap ((i:Int)+(k:Int))=((i+k:Nat):Int):=by rw[eC _];rfl
  by_cases I9:k<(D b)\/c>0
  ·have Is:k<=D b:=by
    rcases hK (D b) k with h|h
    ·have:=Ao (by omega);omega
    ·exact h
   have oT:i+k<D o:=by omega
   have R4:=kx h3 (i+k) oT
   have Ef:0<=b.getD k 0/\b.getD k 0<1048576:=by
    rcases hK k (D b) with h|h
    ·rw[ab5 h];exact kx qu k h
    ·rw[TR h];omega
   have TS:a1 (b.take (k+1))=a1 (b.take k)+1048576^k*b.getD k 0:=by
    rcases hK k (D b) with h|h
    ·rw[ab5 h];exact kv b k h
    ·rw[TR h,dE (by omega),dE (by omega)];simp
   have uP:k<(D b)\/(k=D b/\o[i+k]=0):=by
    rcases hK k (D b) with h|h
    ·exact .inl h
    ·refine .inr ⟨by omega,aaF rl (by omega) oT⟩
   have Ja:=ab0 b k Hu;generalize b.getD k 0=o2 at *;obtain⟨dD,bY,na,nQ⟩:=aaE R4 zM Ef ⟨j5,gq⟩;have j6:IntKind.i64.wrap (hq*o2)=hq*o2:=wrap64 _ (by omega) (by omega);have yu:IntKind.i64.wrap (o[i+k]+hq*o2)=o[i+k]+hq*o2:=wrap64 _ (by omega) (by omega);have tQ:IntKind.i64.wrap (o[i+k]+hq*o2+c)=o[i+k]+hq*o2+c:=wrap64 _ (by omega) (by omega);have rm:(o[i+k]+hq*o2+c).tmod 1048576=(o[i+k]+hq*o2+c)%1048576:=zZ (by omega);have Eo:IntKind.i64.wrap ((o[i+k]+hq*o2+c).tdiv 1048576)=(o[i+k]+hq*o2+c)/1048576:=by rw[yv (by omega)];exact wrap64 _ (by omega) (by omega)
   have hp:i+k+1<=(aY af o).length:=by rw[pF];omega
   have iN:=Iq o (i+k) oT;have gd:=λd=>wI o (i+k) d oT;have jV:i+k<D a+D b:=by omega
   have h2:∃a4:Nat×Int×List Int,D b+1-a4.1<D b+1-k/\a4.1<=D b+1/\(a4.1=D b+1->a4.2.1=0)/\a4.2.2.length=D a+D b/\en a4.2.2/\a4.2.2.drop (i+max a4.1 (D b))=ep (a4.2.2.length-(i+max a4.1 (D b))) 0/\0<=a4.2.1/\a4.2.1<1048576/\a1 a4.2.2+1048576^(i+a4.1)*a4.2.1=a1 (a.take i)*y+1048576^i*(hq*a1 (b.take a4.1)) /\
     M.I (Data.int .i64 ((k+1:Nat):Int))=M.I (Data.int .i64 (a4.1:Nat))/\M.I (Data.int .i64 ((o[i+k]+hq*o2+c)/1048576))=M.I (Data.int .i64 a4.2.1)/\some (0,aY af (o.set (i+k) ((o[i+k]+hq*o2+c)%1048576)))=some (0,aY af a4.2.2):=by
    refine⟨(k+1,(o[i+k]+hq*o2+c)/1048576,o.set (i+k) ((o[i+k]+hq*o2+c)%1048576)),by dsimp only;omega,by dsimp only;omega,?_,by simp[bu],yr h3 _ (by omega),?_,na,nQ,?_,rfl,rfl,rfl⟩
    ·intro h;dsimp only at h ⊢;rcases uP with H|⟨H,ab⟩
     ·omega
     ·have aoB:o2=0:=by
       have e:=Ja;rw[ab0 b k Hu,TR (by omega)] at e
       simpa using e.symm
      rw[ab,aoB,sB];omega
    ·dsimp only;rcases uP with H|⟨H,ab⟩
     ·rw[TT (by omega)] at rl;rw[TT (by omega),sa (by omega),iM,rl]
     ·rw[TT (by omega),<-H] at rl;rw[Nat.max_eq_left (by omega)];exact aaG rl oT
    ·dsimp only;rw[R1 _ _ _ oT,TS,<-Nat.add_assoc,my,aaD _ _ _ _ _ _ _ iV];rw[hP (hq),hP (1048576^i),Int.pow_add]
     have:(1048576:Int)^i*(hq*(1048576^k*o2))=1048576^i*1048576^k*(hq*o2):=by
      rw[<-hQ (hq),mz (hq) (1048576^k),hQ (1048576^k),<-hQ]
     omega
   by_cases aCp:k<D b
   ·have d1:decide ((k:Int)<(D b:Int))=true:=dn;simp only[go_sem,go_sem_proc,fO,fy,ai,E,bj,bH,bA,bT,hm,lX,Ja,d1,e9,iK,j6,yu,tQ,rm,Eo,jV,hp,iN,gd,af,cI,al,bd,bf];repeat' (first|refine av ?_ ?_|fail)<;>intro h<;>simp only[h,go_sem,go_sem_proc,fO,fy,ai,E,bj,bH,bA,bT,hm,lX,Ja,d1,e9,iK,j6,yu,tQ,rm,Eo,jV,hp,iN,gd,af,cI,al,bd,bf]
    exact h2
   ·have d1:decide ((k:Int)<(D b:Int))=false:=dr;have d2:decide (c>0)=true:=dn;simp only[go_sem,go_sem_proc,fO,fy,ai,E,bj,bH,bA,bT,hm,lX,Ja,d1,d2,e9,iK,j6,yu,tQ,rm,Eo,jV,hp,iN,gd,af,cI,al,bd,bf];repeat' (first|refine av ?_ ?_|fail)<;>intro h<;>simp only[h,go_sem,go_sem_proc,fO,fy,ai,E,bj,bH,bA,bT,hm,lX,Ja,d1,d2,e9,iK,j6,yu,tQ,rm,Eo,jV,hp,iN,gd,af,cI,al,bd,bf]
    exact h2
  ·have d1:decide ((k:Int)<(D b:Int))=false:=dr;have d2:decide (c>0)=false:=dr;have aoC:c=0:=by omega
   rw[aoC,sB,tU,show b.take k=b from dE (by omega),BO] at iV;simp only[go_sem,go_sem_proc,fO,fy,ai,E,bj,bH,bA,bT,hm,d1,d2,z3,al];repeat' (first|refine av ?_ ?_|fail)<;>intro h<;>simp only[h,go_sem,go_sem_proc,fO,fy,ai,E,bj,bH,bA,bT,hm,d1,d2,z3,al]
   refine⟨(i+1,o),by dsimp only;omega,by dsimp only;omega,bu,h3,?_,?_,rfl,rfl⟩
   ·dsimp only;have ab:=congrArg (List.drop (i+1+D b-(i+max k (D b)))) rl;rw[List.drop_drop,List.drop_replicate] at ab;rw[show i+max k (D b)+(i+1+D b-(i+max k (D b)))=i+1+(D b) by omega] at ab
    rw[ab]
    congr 1
    omega
   ·dsimp only;rw[iV,sc,Int.add_mul,hQ]
 ·obtain rfl:i=D a:=by omega
  have hT:decide ((D a:Int)<(D a:Int))=false:=dr;rw[dE (bM _),u3] at iV;have cz:=Ci o (by omega);rw[EN (n:=x*y) h3 (by rw[iV];rfl)] at cz;have fD:=EJ (aD (x*y));have jM:=pB (n:=5) hF hm;rw[bu] at jM;simp only[go_sem,go_sem_proc,fO,fy,ai,E,bj,bH,hm,hT,cz,fD,jM,vm,pQ,bN,al];repeat' (first|refine av ?_ ?_|fail)<;>intro h<;>simp only[h,go_sem,go_sem_proc,fO,fy,ai,E,bj,bH,hm,hT,cz,fD,jM,vm,pQ,bN,al]
def dY.yN:dY->List Nat->dY
 |.seq a _,0::p=>a.yN p
 |.seq _ b,_::p=>b.yN p
 |.cond _ a _,0::p=>a.yN p
 |.cond _ _ b,_::p=>b.yN p
 |.block _ c,_::p=>c.yN p
 |.ghost _ c,_::p=>c.yN p
 |.loop c,_::p=>c.yN p
 |c,_=>c
theorem ab7 {n:Nat}(h:0<n)(E:n<1048576):[(n:Int)]=aD n:=(Bx h E).symm
theorem aoD {n:Nat}(E:n<1048576):fk [(n:Int)]=aD n:=EN (by intro d X;have:=yz.1 X;omega) (by simp[a1])
theorem aoE {d:Int}{r:Nat}(ai:0<=d)(E:d<1048576):fk (d::aD r)=aD (d.toNat+1048576*r):=EN (Bu.2 ⟨⟨ai,E⟩,lW r⟩) (by rw[sj,kQ];omega)
theorem TU {n m k:Nat}(h:n<m*1048576)(hm:(aD m).length<=k):(aD n).length<=k+1:=by
 rw[gA] at *;rw[uZ];exact A8 h (q5 _ (SJ hm))
theorem ab8 (T:bk)(oq:T H4=aX MX)(ot:T LO=aX MV){K:er->a2->Prop}{kk:List fU}(y bZ:Nat)(ak:(aD y).length<=1000)(jK:(aD bZ).length<=1001)(ie:0<y)(aoF:bZ<y*1048576)(v0 v6 yO:M)(tm:Nat->M)(m:Mem)
  (cw:tm 0=v0) (aA:tm 1=.I (.ae ((aD y).map af))) (bL:tm 6=v6) (b1:tm 7=.I (.ae ((aD bZ).map af))) (dq:tm 8=yO) (fb:tm 9=.I (.int .i64 0)) (fL:tm 10=.I (.int .i64 1048576))
  (dp:∀tm',tm' 0=v0->tm' 1=.I (.ae ((aD y).map af))->tm' 6=v6->tm' 7=.I (.ae ((aD bZ).map af))->tm' 8=yO->tm' 9=.I (.int .i64 ((bZ/y:Nat):Int))->b7 T K kk (.exit 2) ⟨tm',m⟩) :
  wp T (I8.body.yN [1,1,1,0,1,0,0,1,0,0,1,1,1,0,0]) (b7 T K kk) ⟨tm,m⟩:=by
 simp only[I8,dY.yN];refine dG [0,1,6,7,8] [] (λ((bG,L):Nat×Nat) tm' m'=>bG<L/\L<=1048576/\bG*y<=bZ/\bZ<L*y/\tm' 9=.I (.int .i64 bG)/\tm' 10=.I (.int .i64 L)/\m'=m) (λ(bG,L)=>L-bG) (0,1048576) (by refine⟨by omega,by omega,by omega,by rw[si];exact aoF,fb,fL,rfl⟩) ?_;intro vs ms aV aS;simp only[go_sem,go_sem_proc,cw,aA,bL,b1,dq] at aV aS;subst aV aS;clear cw aA bL b1 dq fb fL;rintro⟨bG,L⟩ tm m' J hm ⟨aCq,aQ,fg,iq,ix,fH,rfl⟩;simp only[go_sem,go_sem_proc,bf] at J hm;obtain⟨ai,E,bH,bA,bT⟩:=J;have w1:IntKind.i64.wrap ((L:Int)-(bG:Int))=(L:Int)-(bG:Int):=wrap64 _ (by omega) (by omega)
 by_cases I9:L-bG>1
 ·have d1:decide ((L:Int)-(bG:Int)>1)=true:=dn;have mZ:IntKind.i64.wrap ((bG:Int)+(L:Int))=((bG+L:Nat):Int):=by rw[eC _];omega
  have cl:IntKind.i64.wrap (((bG+L:Nat):Int).tdiv 2)=(((bG+L)/2:Nat):Int):=by rw[yv (by omega),wrap64 _ (by omega) (by omega)];omega
  obtain⟨vn,aoG⟩:∃vn:Nat,vn=(bG+L)/2:=⟨_,rfl⟩;rw[<-aoG] at cl;have cz:=ab6 y vn ⟨by omega,by rw[<-ab7 (n:=vn) (by omega) (by omega)];simp⟩
  simp only[bN] at cz;rw[<-ab7 (n:=vn) (by omega) (by omega)] at cz;simp only[eY,cg,af] at cz;have lS:(aD (y*vn)).length<=1001:=TU (ab9 (show vn<1048576 by omega) ie) ak;have fD:=aov bZ (y*vn) ⟨by omega,by omega⟩
  simp only[bN] at fD;rcases X:decide (bZ<y*vn)
  ·have aG:=of_decide_eq_false X;rw[X] at fD;refine a7 ?_;repeat' (intro h<;>simp only[h,go_sem,go_sem_proc,oq,ot,ai,E,bH,bA,bT,ix,fH,w1,mZ,cl,d1,cz,fD]<;>try refine av ?_ ?_)
   exact⟨(vn,L),by dsimp only;omega,by dsimp only;omega,aQ,by dsimp only;rw[si];omega,iq,rfl,rfl⟩
  ·have aG:=of_decide_eq_true X;rw[X] at fD;refine a7 ?_;repeat' (intro h<;>simp only[h,go_sem,go_sem_proc,oq,ot,ai,E,bH,bA,bT,ix,fH,w1,mZ,cl,d1,cz,fD]<;>try refine av ?_ ?_)
   exact⟨(bG,vn),by dsimp only;omega,by dsimp only;omega,by dsimp only;omega,fg,by dsimp only;rw[si];omega,rfl,rfl⟩
 ·have d1:decide ((L:Int)-(bG:Int)>1)=false:=dr
  have a9:bZ/y=bG:=by
   have E:L=bG+1:=by omega
   subst E;exact Nat.div_eq_of_lt_le fg iq
  refine a7 ?_;repeat' (intro h<;>simp only[h,go_sem,go_sem_proc,ai,E,bH,bA,bT,ix,fH,w1,d1]<;>try refine av ?_ ?_)
  refine dp _ ?_ ?_ ?_ ?_ ?_ ?_<;>simp only[eL,dA,if_false,ai,E,bH,bA,bT,ix,a9]
def MY:=cy tO λ(x,y)=>cW ((aD x).length<=1000/\(aD y).length<=1000/\0<y) (.same (.cq [bN (x/y),bN (x%y)]))
@[go_sem] theorem aca (x:Nat)(y:Nat)(G:(aD x).length<=1000/\(aD y).length<=1000/\0<y):MY [bN x,bN y]=some (.same (.cq [bN (x/y),bN (x%y)])):=(cK wJ (x,y)).trans (c6 G _)
theorem aoH (T:bk)(fy:T sk=aX Am)(oq:T H4=aX MX)(ot:T LO=aX MV)(ke:T H3=aX MW)(x:Nat)(y:Nat)(G:(aD x).length<=1000/\(aD y).length<=1000/\0<y):WP T I8 (.same (.cq [bN (x/y),bN (x%y)])) [.I (bN x),.I (bN y)]:=by
 refine cH ?_;simp only[I8];obtain⟨O,ak,ie⟩:=G;have ss:=lW x;have u3:=kQ x;generalize aZ:aD x=a at *;have j2:8*D a<=140737488355328:=by omega
 have eh:(D a)<=maxLen:=Ea _ (by omega);have z7:IntKind.i64.wrap ((D a:Int)-1)=(D a:Int)-1:=wrap64 _ (by omega) (by omega);simp only[go_sem,go_sem_proc,fy,oq,ot,ke,bN,aZ,j2,eh,D9,z7,al]
 refine dG [0,1,6] [] (λ((n,r,Cj,o):Nat×Nat×M×List Int) tm mem=>n<=D a/\D o=D a/\en o/\r<y/\a1 (a.drop n)=y*a1 (o.drop n)+r/\(Cj=.nil/\r=0\/Cj=.I (bN r))/\tm 8=.I (.int .i64 ((n:Nat)-1))/\tm 7=Cj/\mem 180014=some (0,aY af o))
  (λ(n,_)=>n) (D a,0,.nil,ep (D a) 0) (by
   refine⟨bM _,by simp,λd X=>by rw[Ee] at X;omega,ie,by simp[a1],.inl ⟨rfl,rfl⟩,rfl,rfl,rfl⟩) ?_
 intro vs ms aV aS;simp only[go_sem,go_sem_proc,fy,oq,ot,ke,bN,aZ,al] at aV aS;subst aV aS;rintro⟨n,r,Cj,o⟩ tm mem J-⟨aG,bu,h3,Eg,aI,Jb,bT,bA,hm⟩;simp only[go_sem,go_sem_proc,fy,oq,ot,ke,bf] at J;obtain⟨ai,E,bH⟩:=J;rcases n with _|n
 ·have a9:a1 o=((x/y:Nat):Int)/\r=x%y:=by
   rw[mv,mv,u3] at aI;have aA:(x:Int)/(y:Int)=a1 o:=by rw[aI,wL,Int.add_mul_ediv_left _ _ (by omega),Int.ediv_eq_zero_of_lt (by omega) (by omega)];omega
   have ay:(x:Int)%(y:Int)=r:=by rw[aI,wL,Int.add_mul_emod_self_left,Int.emod_eq_of_lt (by omega) (by omega)]
   refine⟨by rw[<-aA];rfl,by omega⟩
  have cz:=Ci o (by omega);rw[EN (n:=x/y) h3 a9.1] at cz;have fD:=EJ (aD (x/y));have jM:=pB (n:=5) hF hm;rw[bu] at jM;rcases Jb with ⟨rfl,oU⟩|rfl
  ·have aR:aD (x%y)=[]:=by rw[<-a9.2,oU];rfl
   simp only[go_sem,go_sem_proc,fy,oq,ot,ke,ai,E,bH,bA,bT,hm,cz,fD,jM,aR,vm,pQ,bN,ku,kR,show ¬ ((0:Int)-1>=0) by omega,decide_false,al,cg]
   repeat' (first|refine av ?_ ?_|fail)<;>intro h<;>simp only[h,go_sem,go_sem_proc,fy,oq,ot,ke,ai,E,bH,bA,bT,hm,cz,fD,jM,aR,vm,pQ,bN,ku,kR,show ¬ ((0:Int)-1>=0) by omega,decide_false,al,cg]
  ·simp only[go_sem,go_sem_proc,fy,oq,ot,ke,ai,E,bH,bA,bT,hm,cz,fD,jM,vm,pQ,bN,ku,kR,show ¬ ((0:Int)-1>=0) by omega,decide_false,al,cg,a9.2]
   repeat' (first|refine av ?_ ?_|fail)<;>intro h<;>simp only[h,go_sem,go_sem_proc,fy,oq,ot,ke,ai,E,bH,bA,bT,hm,cz,fD,jM,vm,pQ,bN,ku,kR,show ¬ ((0:Int)-1>=0) by omega,decide_false,al,cg,a9.2]
 ·have lX:a[n]?=some a[n]:=bx (by omega);have L3:=kx ss n (by omega);have RX:a.drop n=a[n]::a.drop (n+1):=hL (by omega);have jt:n<D o:=by omega
  have RZ:∀e:Int,(o.set n e).drop n=e::o.drop (n+1):=λe=>by
   rw[hL (by simpa using jt),List.getElem_set_self,sa (by omega)]
  generalize a[n]=d at *;have hw:((n+1:Nat):Int)-1=(n:Int):=by omega
  have cf:decide ((n:Int)>=0)=true:=dn;have j6:IntKind.i64.wrap ((n:Int)-1)=(n:Int)-1:=wrap64 _ (by omega) (by omega);have bV:(aD r).length<=1000:=by rw[gA] at *;omega
  obtain⟨bZ,jK⟩:∃bZ:Nat,bZ=d.toNat+1048576*r:=⟨_,rfl⟩
  have MZ:bZ<y*1048576:=by
   have:(r+1)*1048576<=y*1048576:=q5 _ Eg;omega
  have TV:=TU MZ ak;have acb:=aoE (d:=d) (r:=r) L3.1 L3.2;rw[<-jK] at acb;have cz:=Ci (d::aD r) (by rw[kJ];omega);rw[acb] at cz;simp only[eY,af] at cz;have fD:=EJ (aD bZ)
  have xU:∀bz:Nat,lQ 180026 bz 1 1 8 (aD r).length (((aD r).map af).flatten.map .I) (some (bz,[.I (.int .i64 d)]))=some (.ref 180026 (bz+1) 1 0 (1+(aD r).length),some (180026,bz+1,aY af (d::aD r))):=λbz=>by
   have:=DO hF wE 180026 bz 8 [d] (aD r) (by rw[yP];omega) (by rw[yP];omega);exact this
  have aoI:∀(bz:Nat) (m:Mem),m 180026=some (bz,aY af (d::aD r))->cZ 6 m (.ref 180026 bz 1 0 (1+(aD r).length))=some (.ae ((d::aD r).map af)):=λbz m hm=>by
   have:=pB (n:=5) hF hm;rw[kJ,Nat.add_comm (aD r).length 1] at this;exact this
  have r4:(((aD r).map af).all λe=>D e==1)=true:=RU _;have TW:=aoI (gf (mem 180026)+1) (a3 (a3 mem 180026 (gf (mem 180026)) [M.I (.int .i64 d)]) 180026 (gf (mem 180026)+1) (aY af (d::aD r))) (by simp[a3]);have iX:n<D a:=by omega
  obtain⟨bG,fg⟩:∃bG:Nat,bG=bZ/y:=⟨_,rfl⟩;have TX:bG<1048576:=by rw[fg];exact Nat.div_lt_of_lt_mul MZ
  have IP:=Nat.div_add_mod bZ y;have lS:=nN bZ ie;rw[<-fg] at IP;have PR:bZ-y*bG=bZ%y:=by omega
  have aCr:(aD (y*bG)).length<=1001:=TU (ab9 TX ie) ak
  have M0:Am [.ae [[.int .i64 ((bZ/y:Nat):Int)]]]=some (.own 1 ((aD bG).map af)):=by
   have h:=Ci [((bZ/y:Nat):Int)] (by simp);rw[<-fg,aoD TX] at h;rw[<-fg];exact h
  have Jc:=ab6 y bG ⟨by omega,by have:(aD bG).length<=1:=gA.2 (by rw[Nat.pow_one];exact TX);omega⟩
  simp only[bN] at Jc;have EP:=ab4 bZ (y*bG) ⟨by omega,by omega,by omega⟩
  rw[PR] at EP;simp only[bN] at EP;have hp:n+1<=(aY af o).length:=by rw[pF];omega
  have gd:=wI o n ((bZ/y:Nat):Int) jt
  have h2:∃a4:Nat×Nat×M×List Int,a4.1<n+1/\a4.1<=D a/\a4.2.2.2.length=D a/\en a4.2.2.2/\a4.2.1<y/\a1 (a.drop a4.1)=y*a1 (a4.2.2.2.drop a4.1)+a4.2.1/\(a4.2.2.1=.nil/\a4.2.1=0\/a4.2.2.1=.I (.ae ((aD a4.2.1).map af)))/\M.I (Data.int .i64 ((n:Int)-1))=M.I (Data.int .i64 ((a4.1:Int)-1))/\M.I (Data.ae ((aD (bZ%y)).map af))=a4.2.2.1/\some (0,aY af (o.set n ((bZ/y:Nat):Int)))=some (0,aY af a4.2.2.2):=by
   refine⟨(n,bZ%y,.I (bN (bZ%y)),o.set n ((bZ/y:Nat):Int)),by dsimp only;omega,by dsimp only;omega,by simp[bu],yr h3 n (by omega),lS,?_,.inr rfl,rfl,rfl,rfl⟩
   dsimp only;rw[RX,sj,aI,RZ,sj,<-fg];have aA:(bZ:Int)=d+1048576*r:=by omega
   have ay:(y:Int)*bG+(bZ%y:Nat)=bZ:=by exact_mod_cast IP
   have cV:∀v:Int,(y:Int)*(bG+1048576*v)=y*bG+1048576*(y*v):=λv=>by rw[hP,Int.mul_left_comm]
   rw[cV];omega
  have main:Cj=.nil/\r=0\/Cj=.I (bN r):=Jb;rcases main with ⟨rfl,oU⟩|rfl
  ·subst oU;have acd:=xU;simp only[rf,cg,abX,mu] at acd;simp only[rf,mu] at TW;simp only[rf,cg] at cz;simp only[go_sem,go_sem_proc,fy,oq,ot,ke,ai,E,bH,bA,bT,hm,lX,hw,cf,acd,cz,fD,TW,vm,pQ,af,rf,al,bd,cg];refine ab8 T oq ot y bZ ak TV ie MZ (.I (.ae (a.map af))) (.ref 180014 0 1 0 (D a)) (.I (.int .i64 n)) _ _ ?_ ?_ ?_ ?_ ?_ ?_ ?_ ?_
   ·exact ai
   ·exact E
   ·exact bH
   ·rfl
   ·simp only[eL,dA,if_false,bT,hw]
   ·rfl
   ·rfl
   intro tm' e5 cF hW ht hr l3;simp only[go_sem,go_sem_proc,fy,oq,ot,ke,e5,cF,hW,ht,hr,l3,hm,iX,hp,gd,M0,Jc,EP,j6,cI];repeat' (first|refine av ?_ ?_|fail)<;>intro h<;>simp only[h,go_sem,go_sem_proc,fy,oq,ot,ke,e5,cF,hW,ht,hr,l3,hm,iX,hp,gd,M0,Jc,EP,j6,cI]
   exact h2
  ·simp only[go_sem,go_sem_proc,fy,oq,ot,ke,ai,E,bH,bA,bT,hm,lX,hw,cf,xU,r4,cz,fD,TW,vm,pQ,bN,af,al,bd];refine ab8 T oq ot y bZ ak TV ie MZ (.I (.ae (a.map af))) (.ref 180014 0 1 0 (D a)) (.I (.int .i64 n)) _ _ ?_ ?_ ?_ ?_ ?_ ?_ ?_ ?_
   ·exact ai
   ·exact E
   ·exact bH
   ·rfl
   ·simp only[eL,dA,if_false,bT,hw]
   ·rfl
   ·rfl
   intro tm' e5 cF hW ht hr l3;simp only[go_sem,go_sem_proc,fy,oq,ot,ke,e5,cF,hW,ht,hr,l3,hm,iX,hp,gd,M0,Jc,EP,j6,cI];repeat' (first|refine av ?_ ?_|fail)<;>intro h<;>simp only[h,go_sem,go_sem_proc,fy,oq,ot,ke,e5,cF,hW,ht,hr,l3,hm,iX,hp,gd,M0,Jc,EP,j6,cI]
   exact h2
def ER:=cy LY λ(s,l)=>cW (D l<=1000000) (.same (.agg (cC (jv s l))))
@[go_sem] theorem aCs (s:Int)(l:List Int)(G:(D l)<=1000000):ER [.int .i64 s,.ae (l.map af)]=some (.same (.agg (cC (jv s l)))):=(cK aat (s,l)).trans (c6 G _)
theorem aoJ (T:bk)(fy:T sk=aX Am)(s:Int)(l:List Int)(G:(D l)<=1000000):WP T TF (.same (.agg (cC (jv s l)))) [.I (.int .i64 s),.I (.ae (l.map af))]:=by
 refine cH ?_;simp only[TF];have cz:=Ci l G;have fD:=EJ (fk l);refine a7 ?_;repeat' (intro h<;>simp only[h,go_sem,go_sem_proc,fy,cz,fD,al]<;>try refine av ?_ ?_)
 all_goals simp only[jv,cC,cg, *,reduceIte,cR,dc,Bool.or_true,Bool.true_or,Bool.or_false,Bool.false_or,Bool.and_true,iy,ju,ja,jU,beq_self_eq_true,bne]
def ES:=cy zU λ(s,l)=>cW (D l<=1000000) (.same (.bool (dd (s,l))))
@[go_sem] theorem aCt (s:Int)(l:List Int)(G:(D l)<=1000000):ES [.agg [.int .i64 s,.ae (l.map af)]]=some (.same (.bool (dd (s,l)))):=(cK D8 (s,l)).trans (c6 G _)
theorem aoK (T:bk)  (s:Int) (l:List Int) (G:(D l)<=1000000):WP T TB (.same (.bool (dd (s,l)))) [.I (.agg [.int .i64 s,.ae (l.map af)])]:=by
 refine cH ?_;simp only[TB];simp only[go_sem,go_sem_proc,al];refine dG [1] [162001] (λ(i:Nat) tm mem=>i<=D l/\l.all m7=(l.drop i).all m7/\tm 3=.I (.int .i64 i)) (λi=>D l-i) 0 (by refine⟨by omega,by simp,rfl⟩) ?_;intro vs ms aV aS;simp only[go_sem,go_sem_proc,al] at aV aS;subst aV aS;rintro i tm mem J hm ⟨L,aJ,ab⟩;simp only[go_sem,go_sem_proc,bf] at J hm;have E:=J;rcases dX (i<D l) with ao|cf
 ·have X:l.drop i=l[i]::l.drop (i+1):=hL ao;have O:l[i]?=some l[i]:=bx ao;generalize l[i]=x at *;have d1:decide ((i:Int)<(D l:Int))=true:=dn
  have h2:∀b,m7 x=true->b=(l.drop (i+1)).all m7->l.all m7=b:=by
   intro b E H;rw[aJ,X,DL,E,H,iy]
  have Ip:¬ m7 x=true->dd (s,l)=false:=by
   intro E;rw[Bool.not_eq_true] at E;unfold dd;rw[aJ,X,DL,E]
   rfl
  have cl:=gu (i:=i) (by omega);simp only[go_sem,go_sem_proc,E,ab,hm,O,d1,cl,af,al,bd,bf];repeat' (first|refine av ?_ ?_|fail)<;>intro h<;>simp only[h,go_sem,go_sem_proc,E,ab,hm,O,d1,cl,af,al,bd,bf]
  ·rw[Ip λh=>by have:=(IA x).1 h;(simp only[b8,Data.bool.injEq,Data.int.injEq,true_and,decide_eq_true_eq,decide_eq_false_iff_not,jU,beq_iff_eq,beq_eq_false_iff_ne,ne_eq] at*<;> omega)]
  ·exact⟨i+1,by omega,by omega,h2 _ ((IA x).2 (by (simp only[b8,Data.bool.injEq,Data.int.injEq,true_and,decide_eq_true_eq,decide_eq_false_iff_not,jU,beq_iff_eq,beq_eq_false_iff_ne,ne_eq] at*<;> omega))) rfl,rfl⟩
  ·rw[Ip λh=>by have:=(IA x).1 h;(simp only[b8,Data.bool.injEq,Data.int.injEq,true_and,decide_eq_true_eq,decide_eq_false_iff_not,jU,beq_iff_eq,beq_eq_false_iff_ne,ne_eq] at*<;> omega)]
 ·have he:l.drop i=[]:=List.drop_eq_nil_of_le (by omega);rw[he] at aJ;have e1:l.all m7=true:=by rw[aJ];rfl
  have d1:decide ((i:Int)<(D l:Int))=false:=dr;rcases List.eq_nil_or_concat l with rfl|⟨r,x,rfl⟩
  ·have d2:decide ((i:Int)<0)=false:=d1;simp only[go_sem,go_sem_proc,E,ab,hm,d2,mu,ku,kR,beq_self_eq_true,cg,bne];repeat' (first|refine av ?_ ?_|fail)<;>intro h<;>simp only[h,go_sem,go_sem_proc,E,ab,hm,d2,mu,ku,kR,beq_self_eq_true,cg,bne]
   all_goals (refine congrArg (λb=>some (Data.bool b)) ?_;unfold dd;simp;try simp only[decide_eq_true_eq,decide_eq_false_iff_not,beq_iff_eq,beq_eq_false_iff_ne,Ck,ace,beq_eq_false_iff_ne,ne_eq] at *;omega)
  ·rw[List.concat_eq_append] at *;have bP:(((r++[x]).length:Int)==0)=false:=by simp;omega
   have hw:IntKind.i64.wrap (((r++[x]).length:Int)-1)=(D r:Int):=by
    have b0:(r++[x]).length=D r+1:=by simp
    rw[eC _];omega
   have aU:((r++[x]).map af)[D r]?=some [.int .i64 x]:=by simp[af]
   have Y:dd (s,r++[x])=((s==1||s == -1)&&decide (((r++[x]).length:Int)<=60)&&(x != 0)):=by
    unfold dd;rw[e1];simp only[List.getLast?_append,List.getLast?_singleton];simp;have aA:decide (D r<=59)=decide ((D r:Int)+1<=60):=decide_eq_decide.2 (by omega);have ay:(some x != some (0:Int))=(x != 0):=by simp[bne]
    rw[aA,ay]
   rw[Y];simp only[go_sem,go_sem_proc,E,ab,hm,d1,bP,hw,aU,al];repeat' (first|refine av ?_ ?_|fail)<;>intro h<;>simp only[h,go_sem,go_sem_proc,E,ab,hm,d1,bP,hw,aU,al]
   all_goals (refine congrArg (λb=>some (Data.bool b)) ?_;clear aJ e1 Y aU hw J hm E ab d1;rw[pK];simp only[e3,Bool.or_eq_true,decide_eq_true_eq,decide_eq_false_iff_not,beq_iff_eq,beq_eq_false_iff_ne,Ck,ace,ne_eq,jU,false_iff,true_iff] at *;omega)
def TY:=cy zU λ(s,l)=>cW (D l<=1000000) (.same (.agg (cC (jd (s,l)))))
@[go_sem] theorem aCu (s:Int)(l:List Int)(G:(D l)<=1000000):TY [.agg [.int .i64 s,.ae (l.map af)]]=some (.same (.agg (cC (jd (s,l))))):=(cK D8 (s,l)).trans (c6 G _)
theorem aoL (T:bk)(jg:T tI=aX ES)(gw:T tJ=aX ER)(s:Int)(l:List Int)(G:(D l)<=1000000):WP T TC (.same (.agg (cC (jd (s,l))))) [.I (.agg [.int .i64 s,.ae (l.map af)])]:=by
 refine cH ?_;simp only[TC]
 by_cases Y:dd (s,l)=true
 ·obtain⟨z,aR,e⟩:=(jc _).1 Y;have aA:jd (s,l)=bD (-z):=by unfold jd;rw[Z Y,e,ft]
  cases e
  have hw:IntKind.i64.wrap (0-z.sign) = -z.sign:=by
   have:=Int.sign_trichotomy z;rw[eC _];omega
  rw[aA];refine a7 ?_;repeat' (intro h<;>simp only[h,go_sem,go_sem_proc,jg,gw,Y,G,hw,abj,cC]<;>try refine av ?_ ?_)
 ·have Y:dd (s,l)=false:=by simpa using Y
  have aA:jd (s,l)=(0,[]):=by unfold jd;rw[Y];rfl
  rw[aA];refine a7 ?_;repeat' (intro h<;>simp only[h,go_sem,go_sem_proc,jg,gw,Y,G,cC,cg]<;>try refine av ?_ ?_)
theorem acf (n:Int):(n.tmod 1048576).natAbs=n.natAbs%1048576:=by rw[Int.natAbs_tmod];rfl
theorem acg (n:Int):(n.tdiv 1048576).natAbs=n.natAbs/1048576:=by rw[Int.natAbs_tdiv];rfl
def TZ:=cy zT λ(n:Int)=>cW (dz n) (.same (.agg (cC (bD n))))
@[go_sem] theorem aCv (n:Int)(G:dz n):TZ [.int .i64 n]=some (.same (.agg (cC (bD n)))):=(cK D7 n).trans (c6 G _)
theorem aoM (T:bk)(gw:T tJ=aX ER)(n:Int)(G:dz n):WP T TA (.same (.agg (cC (bD n)))) [.I (.int .i64 n)]:=by
 refine cH ?_;simp only[TA];have nG:=G;unfold dz at nG;obtain⟨n6,wg⟩:=nG;have hlen:(aD n.natAbs).length<=60:=gA.2 (wY G);rcases dX (n=0) with rfl|nF
 ·simp only[go_sem,go_sem_proc,gw,cC,beq_self_eq_true];repeat' (first|refine av ?_ ?_|fail)<;>intro h<;>simp only[h,go_sem,go_sem_proc,gw,cC,beq_self_eq_true]
  rfl
 have bP:(n==0)=false:=by simpa using nF
 have Q:∀s:Int,s=n.sign->jv s (aD n.natAbs)=bD n:=λs h=>oX rfl λ_=>h;have tZ:(aD n.natAbs).length<=1000000:=by omega
 rcases dX (n<0) with jN|hD
 ·have xd:=Q (-1) (pG jN).symm;simp only[go_sem,go_sem_proc,gw,bP,jN,decide_true];refine dG [2,3] [144002] (λ((u,g,l):Int×Nat×List Int) tm mem=>u<=0/\n<=u/\aD n.natAbs=l++aD u.natAbs/\tm 0=.I (.int .i64 u)/\tm 4=.ref 144022 g 1 0 (D l)/\mem 144022=some (g,aY af l)) (λ(u,_)=>u.natAbs) (n,0,[]) (by refine⟨by omega,by omega,rfl,rfl,rfl,rfl⟩) ?_;intro vs ms aV aS;simp only[go_sem,go_sem_proc,gw,jN,decide_true] at aV aS;subst aV aS;rintro⟨u,g,l⟩ tm mem J hm ⟨hu,aoN,X,ai,aM,vo⟩;simp only[go_sem,go_sem_proc,gw,bf] at J hm;obtain⟨H,ab⟩:=J;rcases dX (u=0) with rfl|B4
  ·rw[show (0:Int).natAbs=0 from rfl,rf,hO] at X;rw[X] at xd tZ;simp only[go_sem,go_sem_proc,gw,ai,H,ab,aM,hm,vo,xd,tZ,lV hF,om,cC,al,beq_self_eq_true];repeat' (first|refine av ?_ ?_|fail)<;>intro h<;>simp only[h,go_sem,go_sem_proc,gw,ai,H,ab,aM,hm,vo,xd,tZ,lV hF,om,cC,al,beq_self_eq_true]
  ·have yA:(D l)<=60:=by
    have:=congrArg D X;rw[hj] at this;omega
   have wQ:(u==0)=false:=by simpa using B4
   have dm:=λd:Int=>mw hF wE 144022 g 8 l d (cs:=[.I (.int .i64 d)]) rfl (by omega) (by omega);have aA:=acf u;have ay:=acg u;have cV:u.tmod 1048576<=0:=by have:=ach (a:=-u) 1048576 (by omega);rw[Int.neg_tmod] at this;omega
   have da:u.tdiv 1048576<=0/\u<=u.tdiv 1048576:=by
    have:=aci (a:=-u) (b:=1048576) (by omega) (by omega);rw[Int.neg_tdiv] at this;omega
   have nP:IntKind.i64.wrap (u.tdiv 1048576)=u.tdiv 1048576:=wrap64 _ (by omega) (by omega);have e9:IntKind.i64.wrap (0-u.tmod 1048576) = -(u.tmod 1048576):=by rw[eC _];omega
   have tS:=tE (n:=u.natAbs) (by omega)
   have h2:∀d:Int,d=((u.natAbs%1048576:Nat):Int)->∃a4:Int×Nat×List Int,a4.1.natAbs<u.natAbs/\a4.1<=0/\n<=a4.1/\aD n.natAbs=a4.2.2++aD a4.1.natAbs/\M.I (.int .i64 (u.tdiv 1048576))=M.I (.int .i64 a4.1)/\M.ref 144022 (g+1) 1 0 (D l+1)=M.ref 144022 a4.2.1 1 0 a4.2.2.length/\some (g+1,aY af (l++[d]))=some (a4.2.1,aY af a4.2.2):=by
    intro d zw;refine⟨(u.tdiv 1048576,g+1,l++[d]),by dsimp only;omega,by dsimp only;omega,by dsimp only;omega,?_,rfl,by simp,rfl⟩
    dsimp only;rw[X,tS,zw,ay,gK]
    rfl
   by_cases aR:u.tmod 1048576<0
   ·simp only[go_sem,go_sem_proc,gw,ai,H,ab,aM,hm,vo,wQ,dm,nP,e9,aR,decide_true,al,bf];repeat' (first|refine av ?_ ?_|fail)<;>intro h<;>simp only[h,go_sem,go_sem_proc,gw,ai,H,ab,aM,hm,vo,wQ,dm,nP,e9,aR,decide_true,al,bf]
    exact h2 _ (by omega)
   ·simp only[go_sem,go_sem_proc,gw,ai,H,ab,aM,hm,vo,wQ,dm,nP,e9,aR,decide_false,al,bf];repeat' (first|refine av ?_ ?_|fail)<;>intro h<;>simp only[h,go_sem,go_sem_proc,gw,ai,H,ab,aM,hm,vo,wQ,dm,nP,e9,aR,decide_false,al,bf]
    exact h2 _ (by omega)
 ·have xd:=Q 1 (iP (by omega)).symm;simp only[go_sem,go_sem_proc,gw,bP,hD,decide_false];refine dG [2,3] [144002] (λ((u,g,l):Int×Nat×List Int) tm mem=>0<=u/\u<=n/\aD n.natAbs=l++aD u.natAbs/\tm 0=.I (.int .i64 u)/\tm 4=.ref 144022 g 1 0 (D l)/\mem 144022=some (g,aY af l)) (λ(u,_)=>u.natAbs) (n,0,[]) (by refine⟨by omega,by omega,rfl,rfl,rfl,rfl⟩) ?_;intro vs ms aV aS;simp only[go_sem,go_sem_proc,gw,hD,decide_false] at aV aS;subst aV aS;rintro⟨u,g,l⟩ tm mem J hm ⟨hu,aoN,X,ai,aM,vo⟩;simp only[go_sem,go_sem_proc,gw,bf] at J hm;obtain⟨H,ab⟩:=J;rcases dX (u=0) with rfl|B4
  ·rw[show (0:Int).natAbs=0 from rfl,rf,hO] at X;rw[X] at xd tZ;simp only[go_sem,go_sem_proc,gw,ai,H,ab,aM,hm,vo,xd,tZ,lV hF,om,cC,al,beq_self_eq_true];repeat' (first|refine av ?_ ?_|fail)<;>intro h<;>simp only[h,go_sem,go_sem_proc,gw,ai,H,ab,aM,hm,vo,xd,tZ,lV hF,om,cC,al,beq_self_eq_true]
  ·have yA:(D l)<=60:=by
    have:=congrArg D X;rw[hj] at this;omega
   have wQ:(u==0)=false:=by simpa using B4
   have dm:=λd:Int=>mw hF wE 144022 g 8 l d (cs:=[.I (.int .i64 d)]) rfl (by omega) (by omega);have aA:=acf u;have ay:=acg u;have cV:=ach (a:=u) 1048576 (by omega);have da:=aci (a:=u) (b:=1048576) (by omega) (by omega);have nP:IntKind.i64.wrap (u.tdiv 1048576)=u.tdiv 1048576:=wrap64 _ (by omega) (by omega);have tS:=tE (n:=u.natAbs) (by omega);have aR:decide (u.tmod 1048576<0)=false:=dr;simp only[go_sem,go_sem_proc,gw,ai,H,ab,aM,hm,vo,wQ,dm,nP,aR,al,bf];repeat' (first|refine av ?_ ?_|fail)<;>intro h<;>simp only[h,go_sem,go_sem_proc,gw,ai,H,ab,aM,hm,vo,wQ,dm,nP,aR,al,bf]
   refine⟨(u.tdiv 1048576,g+1,l++[u.tmod 1048576]),by dsimp only;omega,by dsimp only;omega,by dsimp only;omega,?_,rfl,by simp,by first|rfl|simp[go_sem]⟩
   dsimp only;rw[X,tS,ay,gK,show u.tmod 1048576=((u.natAbs%1048576:Nat):Int) by omega]
   rfl
def vp (a b:Raw):Bool:=decide (a=b)
def T0:=cy tY λ(s,l,s2,aj)=>cW (D l<=1000000/\D aj<=1000000) (.same (fu (kW (s,l) (s2,aj))))
@[go_sem] theorem aCw (s:Int)(l:List Int)(s2:Int)(aj:List Int)(G:(D l)<=1000000/\D aj<=1000000):T0 [.agg [.int .i64 s,.ae (l.map af)],.agg [.int .i64 s2,.ae (aj.map af)]]=some (.same (fu (kW (s,l) (s2,aj)))):=(cK wU (s,l,s2,aj)).trans (c6 G _)
theorem aoO (T:bk)(jg:T tI=aX ES)(nk:T H2=aX MY)(gw:T tJ=aX ER)(s:Int)(l:List Int)(s2:Int)(aj:List Int)(G:(D l)<=1000000/\D aj<=1000000):WP T TD (.same (fu (kW (s,l) (s2,aj)))) [.I (.agg [.int .i64 s,.ae (l.map af)]),.I (.agg [.int .i64 s2,.ae (aj.map af)])]:=by
 refine cH ?_;simp only[TD];obtain⟨bU,b0⟩:=G
 by_cases Y:dd (s,l)=true
 ·by_cases br:dd (s2,aj)=true
  ·obtain⟨x,O,e⟩:=(jc _).1 Y;obtain⟨y,ak,ay⟩:=(jc _).1 br
   have hm:kW (s,l) (s2,aj)=(bD (iA x.natAbs y.natAbs:Nat),0):=by
    rw[e,ay];unfold kW
    rw[ka O,ka ak,ft,ft]
    rfl
   rw[hm];clear hm
   cases e
   cases ay;have nd:=qz O;have j7:=qz ak;have aU:=IG O ak;generalize lZ:x.natAbs=cA at *;generalize yD:y.natAbs=fK at *;have SC:(aD cA).length<=1000000:=by omega
   simp only[go_sem,go_sem_proc,jg,nk,gw,Y,br,lZ,yD,bU,b0,SC,af,al];refine dG [4] [164004] (λ((a,b):Nat×Nat) tm mem=>a<dH/\b<dH/\iA cA fK=iA a b/\tm 6=.I (.ae ((aD a).map af))/\tm 7=.I (.ae ((aD b).map af))) (λ(_,b)=>b) (cA,fK) (by refine⟨O,ak,rfl,rfl,rfl⟩) ?_;intro vs ms aV aS;simp only[go_sem,go_sem_proc,jg,nk,gw,lZ,yD] at aV aS;subst aV aS;rintro⟨a,b⟩ tm mem J hm ⟨aZ,ad,vd,bH,bA⟩;simp only[go_sem,go_sem_proc,jg,nk,gw,bf] at J hm;have aM:=J;have j3:(aD a).length<=60:=gA.2 aZ;have mD:(aD b).length<=60:=gA.2 ad;rcases iU b with ai|hD
   ·subst ai;have aR:aD 0=[]:=rfl;have SD:(aD a).length<=1000000:=by omega
    rw[Nat.gcd_zero_right] at vd;have Q:jv 1 (aD a)=bD ((a:Nat):Int):=oX (by simp) λaG=>(iP (by omega)).symm;rw[vd];refine a7 ?_;repeat' (intro h<;>simp only[h,go_sem,go_sem_proc,jg,nk,gw,aM,bH,bA,hm,aR,SD,Q,cC,fu,mE,cg,mu,ku,kR,show ¬ ((0:Int)>0) by omega,decide_false]<;>try refine av ?_ ?_)
   ·have bP:decide (((aD b).length:Int)>0)=true:=by
     have:aD b≠[]:=by rw[Ne,yh];omega
     have:=Ac.2 this;exact dn
    have hdiv:=aca a b ⟨by omega,by omega,hD⟩
    simp only[bN] at hdiv;refine a7 ?_;repeat' (intro h<;>simp only[h,go_sem,go_sem_proc,jg,nk,gw,aM,bH,bA,hm,bP,hdiv,al]<;>try refine av ?_ ?_)
    exact⟨(b,a%b),nN _ hD,ad,sw (Nat.mod_le _ _) aZ,by dsimp only;rw[vd,IH a b,Nat.gcd_rec b a,IH],rfl,rfl⟩
  ·have br:dd (s2,aj)=false:=by simpa using br
   have hm:kW (s,l) (s2,aj)=((0,[]),1):=by unfold kW;rw[br,ju];rfl
   rw[hm];refine a7 ?_;repeat' (intro h<;>simp only[h,go_sem,go_sem_proc,jg,nk,gw,Y,br,bU,b0,cC,fu,cg]<;>try refine av ?_ ?_)
 ·have Y:dd (s,l)=false:=by simpa using Y
  have hm:kW (s,l) (s2,aj)=((0,[]),1):=by unfold kW;rw[Y,ja];rfl
  rw[hm];refine a7 ?_;repeat' (intro h<;>simp only[h,go_sem,go_sem_proc,jg,nk,gw,Y,bU,b0,cC,fu,cg]<;>try refine av ?_ ?_)

def T1:=cy tY λ(s,l,s2,aj)=>cW (D l<=1000000/\D aj<=1000000) (.same (gT (jO (s,l) (s2,aj))))
@[go_sem] theorem aCx (s:Int)(l:List Int)(s2:Int)(aj:List Int)(G:(D l)<=1000000/\D aj<=1000000):T1 [.agg [.int .i64 s,.ae (l.map af)],.agg [.int .i64 s2,.ae (aj.map af)]]=some (.same (gT (jO (s,l) (s2,aj)))):=(cK wU (s,l,s2,aj)).trans (c6 G _)
theorem aoP (T:bk)(jg:T tI=aX ES)(nk:T H2=aX MY)(ud:T Q5=aX TQ)(ke:T H3=aX MW)(gw:T tJ=aX ER)(s:Int)(l:List Int)(s2:Int)(aj:List Int)(G:(D l)<=1000000/\D aj<=1000000):WP T TE (.same (gT (jO (s,l) (s2,aj)))) [.I (.agg [.int .i64 s,.ae (l.map af)]),.I (.agg [.int .i64 s2,.ae (aj.map af)])]:=by
 refine cH ?_;simp only[TE];obtain⟨bU,b0⟩:=G
 by_cases Y:dd (s,l)=true
 ·by_cases br:dd (s2,aj)=true
  ·obtain⟨x,O,e⟩:=(jc _).1 Y;obtain⟨y,ak,ay⟩:=(jc _).1 br
   by_cases ie:y=0
   ·have hm:jO (s,l) (s2,aj)=((0,[]),(0,[]),15):=by
     rw[e,ay];unfold jO
     rw[ka O,ka ak,ft,ft,Z (by rfl),Z ie]
    rw[hm]
    cases e
    cases ay;have ai:((y.sign:Int)==0)=true:=by rw[ie];rfl
    simp only[go_sem,go_sem_proc,jg,nk,ud,ke,gw,Y,br,bU,b0,ai,cC,gT,cg];repeat' (first|refine av ?_ ?_|fail)<;>intro h<;>simp only[h,go_sem,go_sem_proc,jg,nk,ud,ke,gw,Y,br,bU,b0,ai,cC,gT,cg]
   ·have hm:jO (s,l) (s2,aj)=(bD (x.fdiv y),bD (x.fmod y),0):=by
     rw[e,ay];exact B0 O ak ie
    rw[hm];clear hm
    cases e
    cases ay;have nd:=qz O;have j7:=qz ak;have sD:(y.sign==0)=false:=by rw[beq_eq_false_iff_ne,Ne,Int.sign_eq_zero_iff_zero];exact ie
    have B1:0<y.natAbs:=by omega
    have E:=qA x;have H:=qA y;have aC:x.sign*y.sign=(x*y).sign:=(pH x y).symm;have ab:=qA (x*y);have hw:IntKind.i64.wrap (x.sign*y.sign)=x.sign*y.sign:=by rw[aC];exact wrap64 _ (by omega) (by omega)
    have hdiv:=aca x.natAbs y.natAbs ⟨by omega,by omega,B1⟩
    simp only[bN] at hdiv;have a9:=EB (y:=y) O ie;have wX:=abt (x:=x) ak ie;have SE:x.natAbs/y.natAbs<dH:=sw (Nat.div_le_self _ _) O;have anp:(aD (x.natAbs/y.natAbs)).length<=60:=gA.2 SE;have B2:x.natAbs%y.natAbs<dH:=Nat.lt_trans (nN _ B1) ak;have anq:(aD (x.natAbs%y.natAbs)).length<=60:=gA.2 B2
    by_cases sE:x.sign*y.sign<0/\x.natAbs%y.natAbs≠0
    ·obtain⟨eq,sF⟩:=Mw sE.1 sE.2
     have bP:(((aD (x.natAbs%y.natAbs)).length:Int)==0)=false:=by
      have:aD (x.natAbs%y.natAbs)≠[]:=by rw[Ne,yh];exact sE.2
      have:=Ac.2 this;rw[beq_eq_false_iff_ne];omega
     have jN:decide (x.sign*y.sign>=0)=false:=oE (by have:=sE.1;omega);have jw:aD 1=[1]:=by simp[aD,wD]
     have anr:(aD 1).length=1:=by rw[jw];rfl
     have nS:=aox (x.natAbs/y.natAbs) 1 ⟨by omega,by omega⟩
     simp only[bN,jw,eY,cg,af] at nS;have kV:=ab4 y.natAbs (x.natAbs%y.natAbs) ⟨by omega,by omega,SJ (nN _ B1)⟩
     simp only[bN] at kV
     have j3:(aD (x.natAbs/y.natAbs+1)).length<=1000000:=by
      have:(x.natAbs/y.natAbs+1)<dH:=by rw[eq] at a9;rw[II,l5] at a9;exact a9
      have:=(gA (k:=60)).2 this;omega
     have mD:(aD (y.natAbs-x.natAbs%y.natAbs)).length<=1000000:=by have:=Ms y.natAbs (x.natAbs%y.natAbs);omega
     have hs:jv (-1) (aD (x.natAbs/y.natAbs+1))=bD (x.fdiv y):=oX (by rw[eq,II,l5]) λ_=>by rw[eq,BZ,iP (show (0:Int)<((x.natAbs/y.natAbs+1:Nat):Int) by exact Ad.2 (Nat.succ_pos _))]
     have h5:jv y.sign (aD (y.natAbs-x.natAbs%y.natAbs))=bD (x.fmod y):=by
      refine oX ?_ λaG=>?_
      ·rw[sF];rcases lH y with ⟨e',ab⟩|⟨e',ab⟩|⟨e',ab⟩<;>rw[e']<;>omega
      ·rw[sF,pH,yE,iP (show (0:Int)<((y.natAbs-x.natAbs%y.natAbs:Nat):Int) by omega),tN]
     simp only[go_sem,go_sem_proc,jg,nk,ud,ke,gw,Y,br,bU,b0,sD,hw,hdiv,bP,jN,nS,kV,j3,mD,hs,h5,af,al,cC,gT,mE];repeat' (first|refine av ?_ ?_|fail)<;>intro h<;>simp only[h,go_sem,go_sem_proc,jg,nk,ud,ke,gw,Y,br,bU,b0,sD,hw,hdiv,bP,jN,nS,kV,j3,mD,hs,h5,af,al,cC,gT,mE]
    ·obtain⟨eq,sF⟩:=Mx ie sE
     have SF:(decide (x.sign*y.sign>=0)=false/\(((aD (x.natAbs%y.natAbs)).length:Int)==0)=true)\/decide (x.sign*y.sign>=0)=true:=by
      by_cases aG:x.sign*y.sign<0
      ·left
       have:x.natAbs%y.natAbs=0:=Decidable.not_not.1 λh=>sE ⟨aG,h⟩;rw[this];exact⟨dr,rfl⟩
      ·right;exact dn
     have j3:(aD (x.natAbs/y.natAbs)).length<=1000000:=by omega
     have mD:(aD (x.natAbs%y.natAbs)).length<=1000000:=by omega
     have hs:jv (x.sign*y.sign) (aD (x.natAbs/y.natAbs))=bD (x.fdiv y):=by
      refine oX ?_ λaG=>?_
      ·rw[eq]
       have B3:∀aF:Nat,(x=0->aF=0)->(x.sign*y.sign*(aF:Int)).natAbs=aF:=by
        intro aF ai;rcases lH x with ⟨e,E⟩|⟨e,E⟩|⟨e,E⟩<;>rcases lH y with ⟨e',ab⟩|⟨e',ab⟩|⟨e',ab⟩<;>rw[e,e']<;>first|omega|(rw[ai E];rfl)
       exact B3 _ λai=>by rw[ai];exact ab1 _
      ·rw[eq,aC,pH,pH,pH,yE,yE,iP (show (0:Int)<((x.natAbs/y.natAbs:Nat):Int) from Ad.2 (DV aG)),tN]
     have h5:jv x.sign (aD (x.natAbs%y.natAbs))=bD (x.fmod y):=by
      refine oX ?_ λaG=>?_
      ·rw[sF]
       have B3:∀aF:Nat,(x=0->aF=0)->(x.sign*(aF:Int)).natAbs=aF:=by
        intro aF ai;rcases lH x with ⟨e,E⟩|⟨e,E⟩|⟨e,E⟩<;>rw[e]<;>first|omega|(rw[ai E];rfl)
       exact B3 _ λai=>by rw[ai];exact Nat.zero_mod _
      ·rw[sF,pH,yE,iP (show (0:Int)<((x.natAbs%y.natAbs:Nat):Int) from Ad.2 (DV aG)),tN]
     rcases SF with ⟨ve,IJ⟩|ve
     ·simp only[go_sem,go_sem_proc,jg,nk,ud,ke,gw,Y,br,bU,b0,sD,hw,hdiv,ve,IJ,j3,mD,hs,h5,af,al,cC,gT,mE];repeat' (first|refine av ?_ ?_|fail)<;>intro h<;>simp only[h,go_sem,go_sem_proc,jg,nk,ud,ke,gw,Y,br,bU,b0,sD,hw,hdiv,ve,IJ,j3,mD,hs,h5,af,al,cC,gT,mE]
     ·simp only[go_sem,go_sem_proc,jg,nk,ud,ke,gw,Y,br,bU,b0,sD,hw,hdiv,ve,j3,mD,hs,h5,af,al,cC,gT,mE];repeat' (first|refine av ?_ ?_|fail)<;>intro h<;>simp only[h,go_sem,go_sem_proc,jg,nk,ud,ke,gw,Y,br,bU,b0,sD,hw,hdiv,ve,j3,mD,hs,h5,af,al,cC,gT,mE]
  ·have br:dd (s2,aj)=false:=by simpa using br
   have hm:jO (s,l) (s2,aj)=((0,[]),(0,[]),1):=by unfold jO;rw[br,ju];rfl
   rw[hm];simp only[go_sem,go_sem_proc,jg,nk,ud,ke,gw,Y,br,bU,b0,cC,gT,cg];repeat' (first|refine av ?_ ?_|fail)<;>intro h<;>simp only[h,go_sem,go_sem_proc,jg,nk,ud,ke,gw,Y,br,bU,b0,cC,gT,cg]
 ·have Y:dd (s,l)=false:=by simpa using Y
  have hm:jO (s,l) (s2,aj)=((0,[]),(0,[]),1):=by unfold jO;rw[Y,ja];rfl
  rw[hm];simp only[go_sem,go_sem_proc,jg,nk,ud,ke,gw,Y,bU,b0,cC,gT,cg];repeat' (first|refine av ?_ ?_|fail)<;>intro h<;>simp only[h,go_sem,go_sem_proc,jg,nk,ud,ke,gw,Y,bU,b0,cC,gT,cg]
def T2:b5:=cx 17 2 [.t 4] (R [dW 2 120002 0,dW 3 120003 1,du 4 false] (R [aW 5 0 2,bp 6 2 5,aW 7 0 3,bp 8 2 7,(cj 9 LG 6 8),F 10 9,⟨some 11,some (10,true),.eX 2 (.t 2)⟩,⟨some 12,some (10,true),.load 2 true (.t 11)⟩,⟨some 13,some (10,true),.eX 2 (.t 3)⟩,⟨some 14,some (10,true),.load 2 true (.t 13)⟩,⟨some 15,some (10,true),.call LG [(.t 12),(.t 14)]⟩,gg 16 10 15,F 4 16] .ret))
def T3:b5:=cx 13 2 [.cell 4 4 true,.t 5] (R [(az 4 (.alloc 124004 [(ah 0),.nil,(ah 0),.nil])),bs 5 0] (R [F 6 0,(dP 7 LH 6),F 8 1,(dP 9 LH 8),(cj 10 QT 7 9),bt 11 0 10,bt 12 1 10,ba 4 4 11,F 5 12] .ret))
def T4:b5:=cx 38 2 [.t 4] (R [dW 2 142002 0,dW 3 142003 1,du 4 false] (.seq (R [aW 6 0 2,aN 7 1 6,aW 8 0 3,aN 9 1 8,bC 10 .neq 7 9,F 11 10,⟨some 12,some (11,false),.eX 1 (.t 2)⟩,⟨some 13,some (11,false),.load 1 false (.t 12)⟩,⟨some 14,some (11,false),.len (.t 13)⟩,⟨some 15,some (11,false),.eX 1 (.t 3)⟩,⟨some 16,some (11,false),.load 1 false (.t 15)⟩,⟨some 17,some (11,false),.len (.t 16)⟩,⟨some 18,some (11,false),.bin .neq (.t 14) (.t 17)⟩,eo 19 11 18] (a6 19 (R [du 4 false] .ret) .skip)) (.seq (R [bs 5 0] (.block 0 (.loop  (.seq (R [F 20 5,aW 21 1 2,aN 22 1 21,cp 23 22,bC 24 .lss 20 23] (a6 24 .skip (.exit 0))) (.seq (.block 1 (fs [aW 27 1 2,aN 28 1 27,F 29 5,bX 30 1 28 29,aN 31 1 30,aW 32 1 3,aN 33 1 32,F 34 5,bX 35 1 33 34,aN 36 1 35,bC 37 .neq 31 36] D4 (a6 37 (R [du 4 false] .ret) .skip))) (.ops [F 25 5,bg 26 .add 25 1,F 5 26])))))) (R [du 4 true] .ret))))
def T5:b5:=cx 57 2 [.cell 4 4 true,.t 5] (R [dW 2 143002 0,dW 3 143003 1,(az 4 (.alloc 143004 [(ah 0),.nil,(ah 0),.nil])),bs 5 0] (.seq (R [bp 14 2 2,(dP 15 tI 14),gv 16 15,F 17 16,⟨some 18,some (17,false),.load 2 true (.t 3)⟩,⟨some 19,some (17,false),.call tI [(.t 18)]⟩,⟨some 20,some (17,false),.un .not (.t 19)⟩,eo 21 17 20] (a6 21 (R [(az 22 (.build [(ah 0),.nil,(ah 0),.nil] [])),ba 4 4 22,bs 5 1] .ret) .skip)) (.seq (R [aW 23 0 3,aN 24 1 23,bg 25 .eql 24 0] (a6 25 (R [(az 26 (.build [(ah 0),.nil,(ah 0),.nil] [])),ba 4 4 26,bs 5 15] .ret) .skip)) (.seq (R [aW 27 0 3,aN 28 1 27,bg 29 .lss 28 0] (a6 29 (R [bp 30 2 2,(dP 31 LK 30),ba 2 2 31] (.ops [bp 32 2 3,(dP 33 LK 32),ba 2 3 33])) .skip)) (R [bp 35 2 2,bp 36 2 3,(cj 37 Q1 35 36),F 34 37,bt 38 0 34,bt 39 1 34,(az 6 (.alloc 143006 [(ah 0),.nil])),ba 2 6 38,F 7 39] (R [bp 41 2 2,bp 42 2 6,(cj 43 LL 41 42),F 40 43,bt 44 0 40,bt 45 1 40,bt 46 2 40,(az 8 (.alloc 143008 [(ah 0),.nil])),(az 9 (.alloc 143009 [(ah 0),.nil])),ba 2 8 44,ba 2 9 45,F 10 46] (R [bp 48 2 3,bp 49 2 6,(cj 50 LL 48 49),F 47 50,bt 51 0 47,bt 52 1 47,bt 53 2 47,(az 11 (.alloc 143011 [(ah 0),.nil])),(az 12 (.alloc 143012 [(ah 0),.nil])),ba 2 11 51,ba 2 12 52,F 13 53] (R [bp 54 2 8,bp 55 2 11,(az 56 (.build [(ah 0),.nil,(ah 0),.nil] [(0,2,(.t 54)),(2,2,(.t 55))])),ba 4 4 56,bs 5 0] .ret))))))))
def T6:=cy tY λ(s,l,s2,aj)=>cW (D l<=1000000/\D aj<=1000000) (.same (ef (g0 (s,l) (s2,aj))))
@[go_sem] theorem aCy (s:Int)(l:List Int)(s2:Int)(aj:List Int)(G:(D l)<=1000000/\D aj<=1000000):T6 [.agg [.int .i64 s,.ae (l.map af)],.agg [.int .i64 s2,.ae (aj.map af)]]=some (.same (ef (g0 (s,l) (s2,aj)))):=(cK wU (s,l,s2,aj)).trans (c6 G _)
theorem aoQ (T:bk)(jg:T tI=aX ES)(Jd:T LK=aX TY)(Je:T Q1=aX T0)(Jf:T LL=aX T1)(s:Int)(l:List Int)(s2:Int)(aj:List Int)(G:(D l)<=1000000/\D aj<=1000000):WP T T5 (.same (ef (g0 (s,l) (s2,aj)))) [.I (.agg [.int .i64 s,.ae (l.map af)]),.I (.agg [.int .i64 s2,.ae (aj.map af)])]:=by
 refine cH ?_;simp only[T5];obtain⟨bU,b0⟩:=G
 by_cases Y:dd (s,l)=true
 ·by_cases br:dd (s2,aj)=true
  ·obtain⟨x,O,e⟩:=(jc _).1 Y;obtain⟨y,ak,ay⟩:=(jc _).1 br
   by_cases ai:y=0
   ·have hm:g0 (s,l) (s2,aj)=(dT,15):=by
     unfold g0;rw[Y,br,ay,ft,Z (by rfl),Z ai]
    rw[hm]
    cases e
    cases ay;have Q:(y.sign==0)=true:=by rw[ai];rfl
    refine a7 ?_;repeat' (intro h<;>simp only[h,go_sem,go_sem_proc,jg,Jd,Je,Jf,Y,br,bU,b0,Q,ef,aK,dT,cg]<;>try refine av ?_ ?_)
   ·have main:∀p q:Int,p.natAbs<dH->q.natAbs<dH->0<q->∃g:Raw,kW (bD p) (bD q)=(g,0)/\g.2.length<=1000000/\jO (bD p) g=(bD (kX p q).num,bD (p.fmod ((iA p.natAbs q.natAbs:Nat):Int)),0)/\jO (bD q) g=(bD (kX p q).den,bD (q.fmod ((iA p.natAbs q.natAbs:Nat):Int)),0):=by
     intro p q aC a9 lC;have nT:=IG aC a9;have Ca:((iA p.natAbs q.natAbs:Nat):Int).natAbs<dH:=by rw[l5];exact nT
     have Mb:=S2 (p:=p) (q:=q) (by omega);obtain⟨E,H⟩:=S0 (p:=p) lC;refine⟨bD ((iA p.natAbs q.natAbs:Nat):Int),?_,mF Ca,?_,?_⟩
     ·unfold kW;rw[ka aC,ka a9,ft,ft];rfl
     ·rw[B0 aC Ca (by omega),E]
     ·rw[B0 a9 Ca (by omega),H]
    have pM:(y.sign==0)=false:=by simpa using ai
    rcases abz ai with jN|hD
    ·have hs:decide (y.sign<0)=true:=by rw[pG jN];rfl
     obtain⟨⟨cG,cO⟩,aU,nT,jw,l2⟩:=main (-x) (-y) (by omega) (by omega) (by omega)
     have hm:g0 (s,l) (s2,aj)=(aE (kX (-x) (-y)),0):=by
      rw[e,ay,yH O ak ai,S3]
     rw[hm];have n6:jd (s,l)=bD (-x):=by unfold jd;rw[Z Y,e,ft]
     have wg:jd (s2,aj)=bD (-y):=by unfold jd;rw[Z br,ay,ft]
     have w2:s2=y.sign:=congrArg ED ay;have hd:(bD (-x)).2.length<=1000000:=mF (by omega);have iB:(bD (-y)).2.length<=1000000:=mF (by omega);clear e ay;unfold aE;generalize bD (-x)=cA at *;generalize bD (-y)=fK at *;obtain⟨bh,cd⟩:=cA;obtain⟨sq,sr⟩:=fK;rw[<-w2] at pM hs;refine a7 ?_;repeat' (intro h<;>simp only[h,go_sem,go_sem_proc,jg,Jd,Je,Jf,Y,br,bU,b0,pM,hs,n6,wg,hd,iB,aU,nT,jw,l2,ef,aK,fu,gT,cC]<;>try refine av ?_ ?_)
    ·have hs:decide (y.sign<0)=false:=by rw[iP hD];rfl
     obtain⟨⟨cG,cO⟩,aU,nT,jw,l2⟩:=main x y O ak hD
     have hm:g0 (s,l) (s2,aj)=(aE (kX x y),0):=by
      rw[e,ay,yH O ak ai]
     rw[hm];have w2:s2=y.sign:=congrArg ED ay;rw[<-e] at aU jw;rw[<-ay] at aU l2;rw[<-w2] at pM hs;unfold aE;refine a7 ?_;repeat' (intro h<;>simp only[h,go_sem,go_sem_proc,jg,Jd,Je,Jf,Y,br,bU,b0,pM,hs,aU,nT,jw,l2,ef,aK,fu,gT,cC]<;>try refine av ?_ ?_)
  ·have br:dd (s2,aj)=false:=by simpa using br
   have hm:g0 (s,l) (s2,aj)=(dT,1):=by unfold g0;rw[br,ju];rfl
   rw[hm];refine a7 ?_;repeat' (intro h<;>simp only[h,go_sem,go_sem_proc,jg,Jd,Je,Jf,Y,br,bU,b0,ef,aK,dT,cg]<;>try refine av ?_ ?_)
 ·have Y:dd (s,l)=false:=by simpa using Y
  have hm:g0 (s,l) (s2,aj)=(dT,1):=by unfold g0;rw[Y,ja];rfl
  rw[hm];refine a7 ?_;repeat' (intro h<;>simp only[h,go_sem,go_sem_proc,jg,Jd,Je,Jf,Y,bU,b0,ef,aK,dT,cg]<;>try refine av ?_ ?_)
def M3:=cy Io λ(p,q)=>cW (dz p/\dz q) (.same (ef (g0 (bD p) (bD q))))
@[go_sem] theorem aoR (p:Int)(q:Int)(G:dz p/\dz q):M3 [.int .i64 p,.int .i64 q]=some (.same (ef (g0 (bD p) (bD q)))):=(cK RS (p,q)).trans (c6 G _)
theorem aoS (T:bk)(aoT:T LH=aX TZ)(aoU:T QT=aX T6)(p:Int)(q:Int)(G:dz p/\dz q):WP T T3 (.same (ef (g0 (bD p) (bD q)))) [.I (.int .i64 p),.I (.int .i64 q)]:=by
 refine cH ?_;simp only[T3];obtain⟨E,H⟩:=G;have eE:(bD p).2.length<=1000000:=mF (wY E);have aj:(bD q).2.length<=1000000:=mF (wY H);generalize fN:bD p=P at *;generalize fi:bD q=aF at *;obtain⟨bh,cd⟩:=P;obtain⟨sq,sr⟩:=aF;refine a7 ?_;repeat' (intro h<;>simp only[h,go_sem,go_sem_proc,aoT,aoU,E,H,fN,fi,eE,aj,cC,ef,aK]<;>try refine av ?_ ?_)
def T7:=cy tY λ(s,l,s2,aj)=>cW (D l<=1000000/\D aj<=1000000) (.same (.bool (vp (s,l) (s2,aj))))
@[go_sem] theorem aCz (s:Int)(l:List Int)(s2:Int)(aj:List Int)(G:(D l)<=1000000/\D aj<=1000000):T7 [.agg [.int .i64 s,.ae (l.map af)],.agg [.int .i64 s2,.ae (aj.map af)]]=some (.same (.bool (vp (s,l) (s2,aj)))):=(cK wU (s,l,s2,aj)).trans (c6 G _)
theorem aoV (T:bk)  (s:Int) (l:List Int) (s2:Int) (aj:List Int) (G:(D l)<=1000000/\D aj<=1000000):WP T T4 (.same (.bool (vp (s,l) (s2,aj)))) [.I (.agg [.int .i64 s,.ae (l.map af)]),.I (.agg [.int .i64 s2,.ae (aj.map af)])]:=by
 refine cH ?_;simp only[T4];obtain⟨bU,b0⟩:=G
 by_cases Q:s=s2
 ·subst Q
  by_cases aq:(D l)=D aj
  ·have aA:(((D l:Nat):Int)==((D aj:Nat):Int))=true:=by simp;omega
   simp only[go_sem,go_sem_proc,beq_self_eq_true,al,aA,cR,bne];refine dG [2,3] [142002,142003] (λ(i:Nat) tm mem=>i<=D l/\l.take i=aj.take i/\tm 5=.I (.int .i64 i)) (λi=>D l-i) 0 (by refine⟨by omega,by simp,rfl⟩) ?_;intro vs ms aV aS;simp only[go_sem,go_sem_proc,al] at aV aS;subst aV aS;rintro i tm mem J hm ⟨L,aJ,bj⟩;simp only[go_sem,go_sem_proc,bf] at J hm;obtain⟨H,ab⟩:=J;obtain⟨bY,na⟩:=hm;rcases dX (i<D l) with ao|cf
   ·have O:l[i]?=some l[i]:=bx ao;have ak:aj[i]?=some aj[i]:=bx (by omega);have n6:l.take (i+1)=l.take i++[l[i]]:=by rw[lA,O];rfl
    have wg:aj.take (i+1)=aj.take i++[aj[i]]:=by rw[lA,ak];rfl
    generalize l[i]=x at *;generalize aj[i]=y at *;have d1:decide ((i:Int)<(D l:Int))=true:=dn;have cl:=gu (i:=i) (by omega)
    by_cases mB:x=y
    ·subst mB;simp only[go_sem,go_sem_proc,H,ab,bj,bY,na,O,ak,d1,cl,af,al,bd,bf,beq_self_eq_true,cR];repeat' (first|refine av ?_ ?_|fail)<;>intro h<;>simp only[h,go_sem,go_sem_proc,H,ab,bj,bY,na,O,ak,d1,cl,af,al,bd,bf,beq_self_eq_true,cR]
     exact⟨i+1,by omega,by omega,by rw[n6,wg,aJ],rfl⟩
    ·have bP:(x==y)=false:=by simpa using mB
     have Y:vp (s,l) (s,aj)=false:=by
      refine oE λh=>mB ?_;rw[fv] at h;rw[h.2,ak] at O;exact (m4 O).symm
     rw[Y];simp only[go_sem,go_sem_proc,H,ab,bj,bY,na,O,ak,d1,cl,bP,af,al,bd,bf,dc];repeat' (first|refine av ?_ ?_|fail)<;>intro h<;>simp only[h,go_sem,go_sem_proc,H,ab,bj,bY,na,O,ak,d1,cl,bP,af,al,bd,bf,dc]
   ·have d1:decide ((i:Int)<(D l:Int))=false:=dr
    have Y:vp (s,l) (s,aj)=true:=by
     refine kH ?_;rw[dE (by omega),dE (by omega)] at aJ;rw[aJ]
    rw[Y];simp only[go_sem,go_sem_proc,H,ab,bj,bY,na,d1,al];repeat' (first|refine av ?_ ?_|fail)<;>intro h<;>simp only[h,go_sem,go_sem_proc,H,ab,bj,bY,na,d1,al]
  ·have aA:(((D l:Nat):Int)==((D aj:Nat):Int))=false:=by simp;omega
   have Y:vp (s,l) (s,aj)=false:=by
    refine oE λh=>aq ?_;rw[fv] at h;rw[h.2]
   rw[Y];simp only[go_sem,go_sem_proc,beq_self_eq_true,al,aA,cR,dc,bne];repeat' (first|refine av ?_ ?_|fail)<;>intro h<;>simp only[h,go_sem,go_sem_proc,beq_self_eq_true,al,aA,cR,dc,bne]
 ·have bP:(s==s2)=false:=by simpa using Q
  have Y:vp (s,l) (s2,aj)=false:=by
   refine oE λh=>Q ?_;rw[fv] at h;exact h.1
  rw[Y];simp only[go_sem,go_sem_proc,bP,al,cR,dc,bne];repeat' (first|refine av ?_ ?_|fail)<;>intro h<;>simp only[h,go_sem,go_sem_proc,bP,al,cR,dc,bne]
def ET (a b:bS):Bool:=decide (a=b)
def M4:=cy Af λ(s,l,s2,aj,cM,bQ,cQ,b6)=>cW (D l<=1000000/\D aj<=1000000/\D bQ<=1000000/\D b6<=1000000) (.same (.bool (ET ((s,l),(s2,aj)) ((cM,bQ),(cQ,b6)))))
@[go_sem] theorem aoW (s:Int)(l:List Int)(s2:Int)(aj:List Int)(cM:Int)(bQ:List Int)(cQ:Int)(b6:List Int)(G:(D l)<=1000000/\D aj<=1000000/\D bQ<=1000000/\D b6<=1000000):M4 [.agg [.int .i64 s,.ae (l.map af),.int .i64 s2,.ae (aj.map af)],.agg [.int .i64 cM,.ae (bQ.map af),.int .i64 cQ,.ae (b6.map af)]]=some (.same (.bool (ET ((s,l),(s2,aj)) ((cM,bQ),(cQ,b6))))):=(cK EE (s,l,s2,aj,cM,bQ,cQ,b6)).trans (c6 G _)
theorem aoX (T:bk)(acj:T LG=aX T7)(s:Int)(l:List Int)(s2:Int)(aj:List Int)(cM:Int)(bQ:List Int)(cQ:Int)(b6:List Int)(G:(D l)<=1000000/\D aj<=1000000/\D bQ<=1000000/\D b6<=1000000):WP T T2 (.same (.bool (ET ((s,l),(s2,aj)) ((cM,bQ),(cQ,b6))))) [.I (.agg [.int .i64 s,.ae (l.map af),.int .i64 s2,.ae (aj.map af)]),.I (.agg [.int .i64 cM,.ae (bQ.map af),.int .i64 cQ,.ae (b6.map af)])]:=by
 refine cH ?_;simp only[T2];obtain⟨bU,b0,hd,iB⟩:=G
 have e:ET ((s,l),(s2,aj)) ((cM,bQ),(cQ,b6))=(vp (s,l) (cM,bQ)&&vp (s2,aj) (cQ,b6)):=by
  unfold ET vp;rw[pK,e3,decide_eq_true_eq,decide_eq_true_eq,decide_eq_true_eq,fv]
 rw[e];rcases E:vp (s,l) (cM,bQ)
 ·refine a7 ?_;repeat' (intro h<;>simp only[h,go_sem,go_sem_proc,acj,bU,b0,hd,iB,E,ja]<;>try refine av ?_ ?_)
 ·refine a7 ?_;repeat' (intro h<;>simp only[h,go_sem,go_sem_proc,acj,bU,b0,hd,iB,E,iy]<;>try refine av ?_ ?_)



end Go.Mini
namespace Go.Mini
open Go
variable {P:Program} {A:Nat->Prop} {w aL:World} {B bo:eH} {mem mem':Mem}
structure mH (P:Program) (f:FuncId) (eF:List M->Mem->Option gO):Prop where
 real:Real P f
 run:∀args mem oK,eF args mem=some oK->∀A w B vs,fj A w B mem->c0 w (cb A B) B args vs->P1 P f vs A w B mem oK
def ru (res:List nz)(bZ:M->Mem->Prop):er->a2->Prop
 |.exit _,_=>False
 |.normal,st=>∃m,oF st res=some m/\bZ m st.mem
 |.ret,st=>∃m,oF st res=some m/\bZ m st.mem
@[go_sem] theorem aCA {res:List nz}{st:a2}(bZ:M->Mem->Prop)(id:Nat):ru res bZ (.exit id) st=False:=bl
@[go_sem] theorem aCB {res:List nz}{st:a2}(bZ:M->Mem->Prop):ru res bZ .normal st=∃m,oF st res=some m/\bZ m st.mem:=bl
@[go_sem] theorem aCC {res:List nz}{st:a2}(bZ:M->Mem->Prop):ru res bZ .ret st=∃m,oF st res=some m/\bZ m st.mem:=bl
theorem T8 {mf:b5}{bZ:M->Mem->Prop}{e:er}{st:a2}(h:ru mf.res bZ e st):Qi mf bZ e st:=by
 cases e with
 |exit id=>exact h
 |normal=>exact h
 |ret=>exact h
theorem T9 {kb : Nat}{own : List Nat}{f : FuncId}{fn : Func}{mf : b5}(aJ : P.funcs[f]? = some fn)(uX : (fn.name == "runtime.NumGoroutine") = false)(aT : rY P kb own fn = some mf): Real P f := by
 cases ad:fn.body with
 |none=>simp[rY,ad] at aT
 |some c=>exact⟨fn,c,aJ,ad,uX⟩
def xe (aF:List M->Mem->Option (M->Mem->Prop))(args:List M)(mem:Mem):Option gO:=(aF args mem).map .rel
@[go_sem] theorem aCD (aF:List M->Mem->Option (M->Mem->Prop))(args:List M)(mem:Mem):xe aF args mem=(aF args mem).map .rel:=bl
theorem Ua {T : bk}{kb : Nat}{own : List Nat}(cz : qm P T)(hm : P.follows .mixedOrders = true){f : FuncId}{fn : Func}{mf : b5}(aJ : P.funcs[f]? = some fn)(uX : (fn.name == "runtime.NumGoroutine") = false)(aT : rY P kb own fn = some { mf with body := erase mf.body })
  {aF:List M->Mem->Option (M->Mem->Prop)} (h:∀args mem bZ,aF args mem=some bZ->(D args)<=mf.n/\wp T mf.body (ru mf.res bZ) ⟨mj args,mem⟩):mH P f (xe aF):=by
 refine⟨T9 aJ uX aT,λargs mem oK iI A w B vs bO aI=>?_⟩;unfold xe at iI;rw[dV] at iI;obtain⟨bZ,jK,rfl⟩:=iI;obtain⟨hlen,yb⟩:=h args mem bZ jK;refine Calls.mono (HJ (Post:=bZ) cz hm aJ aT hlen (λe st J=>T8 J) yb bO aI) λe aL he=>?_;obtain⟨v,m,mem',bo,rfl,Q,q1,aC⟩:=he;exact⟨v,m,mem',bo,rfl,Q,q1,aC⟩
inductive rv (cP:Key->Prop):M->Prop
 |I {d:Data}:rv cP (.I d)
 |nil:rv cP .nil
 |ref {k g sz off len:Nat} (h:¬ cP k):rv cP (.ref k g sz off len)
 |ptr {k g off:Nat} (h:¬ cP k):rv cP (.ptr k g off)
 |fR {f:FuncId} {eW:List M} (h:∀(i:Nat) (m:M),eW[i]?=some m->rv cP m):rv cP (.fR f eW)
 |agg {cs:List M} (h:∀(i:Nat) (m:M),cs[i]?=some m->rv cP m):rv cP (.agg cs)
 |cq {cs:List M} (h:∀(i:Nat) (m:M),cs[i]?=some m->rv cP m):rv cP (.cq cs)
 |no:rv cP .no
 |undef:rv cP .undef
theorem clean_of {cP:Key->Prop}{aP:Nat->Prop}(xf:∀k,cP k->B k=none){m:M}{v:Value}(h:bm w aP B m v):rv cP m:=by
 induction h with
 |I h=>exact .I
 |nil=>exact .nil
 |ref he aU aI=>exact .ref λag=>by rw[xf _ ag] at he;cases he
 |ptr he aU aI=>exact .ptr λag=>by rw[xf _ ag] at he;cases he
 |fR aq X aw=>exact .fR λi m L=>aw i m _ L (bx (by have ao:=(dM.1 L).1;omega))
 |agg aq X aw=>exact .agg λi m L=>aw i m _ L (bx (by have ao:=(dM.1 L).1;omega))
 |cq aq X aw=>exact .cq λi m L=>aw i m _ L (bx (by have ao:=(dM.1 L).1;omega))
 |no=>exact .no
 |undef=>exact .undef
open Classical in
def sJ (cP:Key->Prop)(B:eH):eH:=λk=>if cP k then none else B k
theorem EU {cP:Key->Prop}{b:Nat}(h:qV (sJ cP B) b):qV B b:=by
 obtain⟨k,e,he,ad⟩:=h;unfold sJ at he
 split at he
 ·cases he
 ·exact⟨k,e,he,ad⟩
theorem aoY {cP:Key->Prop}{m:M}{v:Value}(h:bm w (cb A B) B m v)(G:rv cP m):bm w (cb A (sJ cP B)) (sJ cP B) m v:=by
 have at_:∀{k:Key} {e:lh},¬ cP k->B k=some e->sJ cP B k=some e:=λJ he=>by unfold sJ;rw[aa J];exact he
 induction h with
 |I h=>exact .I (h.less λb ad=>ad.imp EU id)
 |nil=>exact .nil
 |ref he aU aI=>cases G with|ref J=>exact .ref (at_ J he) aU aI
 |ptr he aU aI=>cases G with|ptr J=>exact .ptr (at_ J he) aU aI
 |fR aq X aw=>cases G with|fR G=>exact .fR aq λi d v L aI=>aw i d v L aI (G i d L)
 |agg aq X aw=>cases G with|agg G=>exact .agg aq λi d v L aI=>aw i d v L aI (G i d L)
 |cq aq X aw=>cases G with|cq G=>exact .cq aq λi d v L aI=>aw i d v L aI (G i d L)
 |no=>exact .no
 |undef=>exact .undef
theorem ez.drop {cP:Key->Prop}{M5:Mem}(ai:fj A w B mem)(xf:∀k,cP k->mem k=none)(h:ez A w B aL bo mem')(E:∀k,cP k->M5 k=none)(H:∀k,¬ cP k->M5 k=mem' k)
  (G:∀k g cs,M5 k=some (g,cs)->∀m∈cs,(∃d,m=.I d)\/∃e5 Bq r9,mem e5=some (Bq,r9)/\m∈r9):ez A w B aL (sJ cP bo) M5:=by
 have fh:∀k,cP k->B k=none:=λk J=>ai.zk k (xf k J);have at_:∀{k:Key},¬ cP k->sJ cP bo k=bo k:=λJ=>by unfold sJ;rw[aa J]
 have Ub:∀{k:Key},cP k->sJ cP bo k=none:=λJ=>by unfold sJ;rw[Z J]
 refine⟨⟨λk J=>?_,λk k' e e' b he fS ad lp=>?_,λb aZ bu=>h.ed.sep b aZ (EU bu),h.ed.lt,λk g cs J=>?_⟩,⟨h.ml.size,λb ad bu=>?_,λk e he=>?_⟩,h.ax,λb ad=>h.fresh b (EU ad)⟩
 ·by_cases ag:cP k
  ·exact Ub ag
  ·rw[at_ ag];exact h.ed.zk k (by rw[<-H k ag];exact J)
 ·by_cases ag:cP k
  ·rw[Ub ag] at he;cases he
  ·by_cases ts:cP k'
   ·rw[Ub ts] at fS;cases fS
   ·rw[at_ ag] at he;rw[at_ ts] at fS;exact h.ed.inj k k' e e' b he fS ad lp
 ·by_cases ag:cP k
  ·rw[E k ag] at J;cases J
  ·obtain⟨e,he,aU,aG,ad⟩:=h.ed.di k g cs (by rw[<-H k ag];exact J);refine⟨e,by rw[at_ ag];exact he,aU,aG,λb jH=>?_⟩
   obtain⟨vs,T,aQ,aR,hle,Y⟩:=ad b jH;refine⟨vs,T,aQ,aR,hle,λi m L=>?_⟩;obtain⟨v,aI,Bh⟩:=Y i m L;refine⟨v,aI,aoY Bh ?_⟩;rcases G k g cs J m (eU L) with ⟨d,rfl⟩|⟨e5,Bq,r9,r6,gR⟩
   ·exact .I
   ·obtain⟨cw,HG,Mb,nF,rj⟩:=ai.di e5 Bq r9 r6
    cases Ef:cw.di with
    |none=>rw[nF Ef] at gR;cases gR
    |some ra =>
     obtain⟨aCE,aCF,_,_,_,oU⟩:=rj ra Ef;obtain⟨i0,sn⟩:=pD.1 gR;obtain⟨v0,_,aoZ⟩:=oU i0 m sn;exact clean_of fh aoZ
 ·obtain⟨ab,aM⟩:=h.ml.GO b ad bu;exact⟨ab,λO=>aM (EU O)⟩
 ·have ag:¬ cP k:=λag=>by rw[fh k ag] at he;cases he
  rw[at_ ag];exact h.ml.key k e he
def Ap (U:List M->Mem->Option (Data×Key×Nat×Nat×Data))(args:List M)(mem:Mem):Option gO:=(U args mem).map λx => .eK x.1 x.2.1 x.2.2.1 x.2.2.2.1 (.I x.2.2.2.2)
@[go_sem] theorem aCG (U:List M->Mem->Option (Data×Key×Nat×Nat×Data))(args:List M)(mem:Mem):Ap U args mem=(U args mem).map λx => .eK x.1 x.2.1 x.2.2.1 x.2.2.2.1 (.I x.2.2.2.2):=bl
theorem ao0 {T : bk}{kb : Nat}{own : List Nat}(cz : qm P T)(hm : P.follows .mixedOrders = true){f : FuncId}{fn : Func}{mf : b5}(aJ : P.funcs[f]? = some fn)(uX : (fn.name == "runtime.NumGoroutine") = false)(aT : rY P kb own fn = some { mf with body := erase mf.body })
  (cP:Key->Prop) {U:List M->Mem->Option (Data×Key×Nat×Nat×Data)}
  (h:∀args mem r k g i d,U args mem=some (r,k,g,i,d)->(D args)<=mf.n/\(∀j,cP j->mem j=none)/\¬ cP k/\(∃cs,mem k=some (g,cs)) /\
   wp T mf.body (ru mf.res λm mem'=>cZ 6 emp m=some r/\∀j,¬ cP j->mem' j=a3 mem k g ((qf mem k).set i (.I d)) j) ⟨mj args,mem⟩):mH P f (Ap U):=by
 refine⟨T9 aJ uX aT,λargs mem oK iI A w B vs bO aI=>?_⟩;unfold Ap at iI;rw[dV] at iI;obtain⟨⟨r,k,g,i,d⟩,kY,rfl⟩:=iI;obtain⟨hlen,xf,J,⟨cs,jW⟩,yb⟩:=h args mem r k g i d kY;refine Calls.mono (HJ (Post:=λm mem'=>cZ 6 emp m=some r/\∀j,¬ cP j->mem' j=a3 mem k g ((qf mem k).set i (.I d)) j) cz hm aJ aT hlen (λe st J=>T8 J) yb bO aI) λe aL he=>?_;obtain⟨v,m,mem',bo,rfl,Q,q1,X,gR⟩:=he;refine⟨v,sJ cP bo,rfl,Q.drop bO xf (λj ag=>?_) (λj ag=>(gR j ag).symm) ?_,.I ((Qk 6 m v r X q1).less λb ad=>ad.imp EU id)⟩
 ·have:j≠k:=λe=>J (e ▸ ag);simp only[a3,this,if_false];exact xf j ag
 ·intro dk cO wv H m oj
  by_cases g8:dk=k
  ·subst g8;simp only[a3,if_true,b8,fv] at H;obtain⟨-,rfl⟩:=H;rcases EV oj with O|rfl
   ·refine .inr ⟨dk,g,cs,jW,?_⟩
    simpa [qf,jW] using O
   ·exact .inl ⟨d,rfl⟩
  ·simp only[a3,g8,if_false] at H;exact .inr ⟨dk,cO,wv,H,oj⟩
def Uc:Option gO->Option gO->Option gO
 |some x,_=>some x
 |none,e=>e
@[go_sem] theorem aCH (x:gO)(e:Option gO):Uc (some x) e=some x:=bl
@[go_sem] theorem aCI (e:Option gO):Uc none e=e:=bl
def vq (kO:FuncId->Option (List Data->Option et))(ry:FuncId->Option (List M->Mem->Option gO)):bk:=λf args mem=>match ry f with
 |some eF=>Uc (eF args mem) (zL kO f args mem)
 |none=>zL kO f args mem
theorem xg {kO:FuncId->Option (List Data->Option et)}{ry:FuncId->Option (List M->Mem->Option gO)}(h:∀f aO,kO f=some aO->sg P f aO)(Y:∀f eF,ry f=some eF->mH P f eF):qm P (vq kO ry):=by
 intro f args mem oK cz;unfold vq at cz
 split at cz
 ·rename_i eF iI;have Q:=Y f eF iI
  cases O:eF args mem with
  |none =>
   rw[O] at cz;exact ZS h f args mem oK cz
  |some y =>
   rw[O] at cz
   cases cz;exact⟨Q.real,λA w B vs bO aI=>Q.run args mem oK O A w B vs bO aI⟩
 ·exact ZS h f args mem oK cz
theorem HS.ack {f:FuncId}{bz:List M->Mem->Option (M×Mem)}(h:HS P f bz):mH P f (zP bz):=by
 refine⟨h.real,λargs mem oK iI A w B vs bO aI=>?_⟩;unfold zP at iI;rw[dV] at iI;obtain⟨x,O,rfl⟩:=iI;exact h.run args mem x O A w B vs bO aI
section
variable {kO:FuncId->Option (List Data->Option et)} {ry:FuncId->Option (List M->Mem->Option gO)} {f:FuncId}
theorem o3 {aO:List Data->Option et}(h:ry f=none)(b2:kO f=some aO):vq kO ry f=aX aO:=by
 funext args mem
 unfold vq;rw[h];exact congrFun (congrFun (ZV b2) args) mem
theorem Aq {eF:List M->Mem->Option gO}(h:ry f=some eF)(b2:kO f=none):vq kO ry f=eF:=by
 funext args mem
 unfold vq zL;rw[h,b2];dsimp only
 cases eF args mem<;>rfl
theorem EW {aO:List Data->Option et}{bz:List M->Mem->Option (M×Mem)}(h:ry f=some (zP bz))(b2:kO f=some aO):vq kO ry f=yg aO bz:=by
 funext args mem
 unfold vq;rw[h];unfold yg zP;rw[show zL kO f args mem=aX aO args mem from congrFun (congrFun (ZV b2) args) mem];dsimp only
 cases bz args mem<;>rfl
end
def M6 (l:List (FuncId×(List M->Mem->Option gO))):FuncId->Option (List M->Mem->Option gO):=λf=>(l.find? λp=>p.1==f).map (·.2)
theorem xh {l:List (FuncId×(List M->Mem->Option gO))}(h:∀p∈l,mH P p.1 p.2):∀f bz,M6 l f=some bz->mH P f bz:=by
 intro f aO aJ;unfold M6 at aJ;rw[dV] at aJ;obtain⟨p,aC,rfl⟩:=aJ;have E:=List.mem_of_find?_eq_some aC;have H:=List.find?_some aC;have ab:p.1=f:=by simpa using H
 exact ab ▸ h p E
theorem ou:∀p∈([]:List (FuncId×(List M->Mem->Option gO))),mH P p.1 p.2:=by simp
theorem rz {f:FuncId}{aO:List M->Mem->Option gO}{l:List (FuncId×(List M->Mem->Option gO))}(h:mH P f aO)(aq:∀p∈l,mH P p.1 p.2):∀p∈(f,aO)::l,mH P p.1 p.2:=by
 intro p aC;rcases List.mem_cons.1 aC with rfl|aC
 ·exact h
 ·exact aq p aC
open Classical in
def yQ {α:Type}(a5:α->List M->Mem->Prop)(bZ:α->Mem->M->Mem->Prop):List M->Mem->Option (M->Mem->Prop):=λargs mem=>if h:∃a,a5 a args mem then some (bZ (Classical.choose h) mem) else none
theorem ao1 {α:Type}{a5:α->List M->Mem->Prop}{bZ:α->Mem->M->Mem->Prop}(uniq:∀a b args mem,a5 a args mem->a5 b args mem->a=b){a:α}{args:List M}{mem:Mem}(h:a5 a args mem):yQ a5 bZ args mem=some (bZ a mem):=by
 have O:∃b,a5 b args mem:=⟨a,h⟩;unfold yQ;rw[dif_pos O,uniq _ _ _ _ (oQ O) h]
theorem Ud {α:Type}{a5:α->List M->Mem->Prop}{bZ:α->Mem->M->Mem->Prop}{args:List M}{mem:Mem}{x:M->Mem->Prop}(h:yQ a5 bZ args mem=some x):∃a,a5 a args mem/\x=bZ a mem:=by
 unfold yQ at h
 split at h
 ·rename_i O;exact⟨_,oQ O,(m4 h).symm⟩
 ·cases h
end Go.Mini
namespace Go.Mini
open Go
def M7:=cy IV λ(s,l,s2,aj)=>some (.same (.bool (s==0)))
@[go_sem] theorem aCJ (s:Int)(l:List Int)(s2:Int)(aj:List Int):M7 [.agg [.int .i64 s,.ae (l.map af),.int .i64 s2,.ae (aj.map af)]]=some (.same (.bool (s==0))):=cK SZ (s,l,s2,aj)
theorem Jg (T:bk)  (s:Int) (l:List Int) (s2:Int) (aj:List Int):WP T Tj (.same (.bool (s==0))) [.I (.agg [.int .i64 s,.ae (l.map af),.int .i64 s2,.ae (aj.map af)])]:=by
 refine cH ?_;simp only[Tj];refine a7 ?_;repeat' (intro h<;>simp only[h,go_sem,go_sem_proc]<;>try refine av ?_ ?_)
def yR (args:List M)(mem:Mem):Option (Data×Key×Nat×Nat×Data) :=
 match args with
 | [.ptr k g 0,.I (.agg [.int .i64 s,.ae l,.int .i64 s2,.ae aj]),.I (.int .i64 e)]=>match mem k,mem 168004,mem 168006 with
  |some (df,[_,_,.I (.bool c)]),none,none=>if df=g/\k≠168004/\k≠168006 then some (.agg [.int .i64 s,.ae l,.int .i64 s2,.ae aj],k,g,2,.bool (c||e != 0)) else none
  |_,_,_=>none
 |_=>none
def M8 (j:Key):Prop:=j=168004\/j=168006
theorem ao2 (T:bk)(args:List M)(mem:Mem)(r:Data)(k g i:Nat)(d:Data)(h:yR args mem=some (r,k,g,i,d)):
  (D args)<=19/\(∀j,M8 j->mem j=none)/\¬ M8 k/\(∃cs,mem k=some (g,cs)) /\
   wp T ML.body (ru ML.res λm mem'=>cZ 6 emp m=some r/\∀j,¬ M8 j->mem' j=a3 mem k g ((qf mem k).set i (.I d)) j) ⟨mj args,mem⟩:=by
 unfold yR at h
 split at h
 ·rename_i e5 Bq s l s2 aj e
  split at h
  ·rename_i cG a b c hm aM bH
   split at h
   ·rename_i aU;obtain⟨rfl,vr,Jh⟩:=aU;simp only[b8,fv] at h;obtain⟨rfl,rfl,rfl,rfl,rfl⟩:=h;refine⟨by simp,?_,?_,⟨_,hm⟩,?_⟩
    ·rintro j (rfl|rfl)
     ·exact aM
     ·exact bH
    ·rintro (h|h)
     ·exact vr h
     ·exact Jh h
    ·have h2:∀x:Bool,qf mem e5=[a,b,.I (.bool c)]:=λ_=>by simp only[qf,hm]
     have M9:(e5=168004)=False:=eq_false vr;have Na:(e5=168006)=False:=eq_false Jh;have Nb:(168004=e5)=False:=eq_false (Ne.symm vr);have Nc:(168006=e5)=False:=eq_false (Ne.symm Jh);refine wo ?_;simp only[ML]
     cases c
     ·simp only[go_sem,go_sem_proc,hm,aM,bH,M9,Na,Nb,Nc];repeat' (first|refine av ?_ ?_|fail)<;>intro h<;>simp only[h,go_sem,go_sem_proc,hm,aM,bH,M9,Na,Nb,Nc]
      refine⟨_,rfl,by first|rfl|simp[go_sem,cZ],λj ag=>?_⟩
      have Nd:j≠168004:=λh=>ag (.inl h);have Ar:j≠168006:=λh=>ag (.inr h)
      by_cases eR:j=e5<;>simp[a3,qf,hm,Nd,Ar,eR,vr,Jh,bne]
     ·simp only[go_sem,go_sem_proc,hm,aM,bH,M9,Na,Nb,Nc];repeat' (first|refine av ?_ ?_|fail)<;>intro h<;>simp only[h,go_sem,go_sem_proc,hm,aM,bH,M9,Na,Nb,Nc]
      refine⟨_,rfl,by first|rfl|simp[go_sem,cZ],λj ag=>?_⟩
      have Nd:j≠168004:=λh=>ag (.inl h);have Ar:j≠168006:=λh=>ag (.inr h)
      by_cases eR:j=e5<;>simp[a3,qf,hm,Nd,Ar,eR,vr,Jh,bne]
   ·cases h
  ·cases h
 ·cases h
abbrev cX:=Nat×Nat×List bS
def refsOf (N:Nat)(rows:List cX):List M:=rows.map λx => .ref (x.1+900000) x.2.1 4 0 (N+1)
structure yS (go N:Nat) (rows:List cX) (bad:Bool) (mem:Mem):Prop where
 m:mem 129015=some (0,[.ref 129035 go 1 0 N,.I (.int .i64 N),.I (.bool bad)])
 o:mem 129035=some (go,refsOf N rows)
 r:∀x∈rows,mem (x.1+900000)=some (x.2.1,aY aK x.2.2)
structure jh (N:Nat) (rows:List cX):Prop where
 len:(D rows)=N
 Nf:(rows.map (·.1)).Nodup
 row:∀x∈rows,x.2.2.length=N+1/\∀f∈x.2.2,okF f
def EX (k:Nat):Prop:=k<900000/\k≠129015/\k≠129035/\k≠148008/\k≠148010/\k≠148013
def jy (eb:Mem)(go N:Nat)(rows:List cX)(bad:Bool)(mem:Mem):Prop:=yS go N rows bad mem/\∀k,EX k->mem k=eb k
section
variable {eb mem:Mem} {go N:Nat} {rows:List cX} {kZ:Bool}
theorem jy.flag (b:Bool)(h:jy eb go N rows kZ mem):jy eb go N rows b (a3 mem 129015 0 [.ref 129035 go 1 0 N,.I (.int .i64 N),.I (.bool b)]):=by
 refine⟨⟨by simp[a3],by simp[a3,h.1.o],λx O=>?_⟩,λk J=>?_⟩
 ·rw[<-h.1.r x O];exact aa (show ¬ ((x.1+900000:Nat)=129015) by omega)
 ·rw[<-h.2 k J];exact aa J.2.1
theorem jy.own {k g:Nat}{cs:List M}(J:k=148008\/k=148010\/k=148013)(h:jy eb go N rows kZ mem):jy eb go N rows kZ (a3 mem k g cs):=by
 have bP:∀j:Nat,j≠k->a3 mem k g cs j=mem j:=λj ag=>aa ag;refine⟨⟨by rw[bP _ (by omega)];exact h.1.m,by rw[bP _ (by omega)];exact h.1.o,λx O=>by rw[bP _ (by omega)];exact h.1.r x O⟩,λj ag=>?_⟩
 have:=ag.2;rw[bP _ (by omega)];exact h.2 j ag
theorem jy.set {i:Nat}{x:cX}(cU:jh N rows)(L:rows[i]?=some x)(l:List bS)(h:jy eb go N rows kZ mem):jy eb go N (rows.set i (x.1,x.2.1,l)) kZ (a3 mem (x.1+900000) x.2.1 (aY aK l)):=by
 have bP:∀j:Nat,j≠x.1+900000->a3 mem (x.1+900000) x.2.1 (aY aK l) j=mem j:=λj ag=>aa ag;obtain⟨ao,acm⟩:=dM.1 L;refine⟨⟨by rw[bP _ (by omega)];exact h.1.m,?_,λy ak=>?_⟩,λj ag=>?_⟩
 ·rw[bP _ (by omega),h.1.o]
  congr 2
  unfold refsOf;apply q6;intro j;rw[bd,bd,kz]
  by_cases ly:i=j
  ·subst ly;rw[Z rfl,Z ao,L]
   rfl
  ·rw[aa ly]
 ·obtain⟨j,ag⟩:=pD.1 ak;rw[kz] at ag
  by_cases ly:i=j
  ·subst ly;rw[Z rfl,Z ao] at ag
   cases ag;simp[a3]
  ·rw[aa ly] at ag
   have aCK:y.1≠x.1:=by
    intro he;have E:(rows.map (·.1))[j]?=some y.1:=by rw[bd,ag];rfl
    have H:(rows.map (·.1))[i]?=some y.1:=by rw[bd,L,he];rfl
    have aq:i<(rows.map (·.1)).length:=by rw[al];exact ao
    exact ly ((acn aq cU.Nf).1 (H.trans E.symm))
   rw[bP (y.1+900000) (by omega)];exact h.1.r y (eU ag)
 ·have:=ag.1;rw[bP j (by omega)];exact h.2 j ag
theorem jy.swap {i j:Nat}{a b:cX}(L:rows[i]?=some a)(ag:rows[j]?=some b)(h:jy eb go N rows kZ mem):jy eb go N ((rows.set i b).set j a) kZ (a3 (a3 mem 129035 go (refsOf N (rows.set i b))) 129035 go (refsOf N ((rows.set i b).set j a))):=by
 have bP:∀k:Nat,k≠129035->a3 (a3 mem 129035 go (refsOf N (rows.set i b))) 129035 go (refsOf N ((rows.set i b).set j a)) k=mem k:=λk J=>by simp[a3,J]
 refine⟨⟨by rw[bP _ (by omega)];exact h.1.m,by simp[a3],λx O=>?_⟩,λk J=>?_⟩
 ·rw[bP _ (by omega)];apply h.1.r;rcases EV O with O|rfl
  ·rcases EV O with O|rfl
   ·exact O
   ·exact eU ag
  ·exact eU L
 ·rw[bP _ J.2.2.1];exact h.2 k J
theorem jh.set {i:Nat}{x:cX}(cU:jh N rows)(L:rows[i]?=some x){l:List bS}(aq:(D l)=N+1)(aJ:∀f∈l,okF f):jh N (rows.set i (x.1,x.2.1,l)):=by
 obtain⟨ao,acm⟩:=dM.1 L;refine⟨by rw[iM];exact cU.len,?_,λy ak=>?_⟩
 ·have:(rows.set i (x.1,x.2.1,l)).map (·.1)=rows.map (·.1):=by
   rw[xi];apply q6;intro j;rw[kz]
   by_cases ly:i=j
   ·subst ly;rw[Z rfl,al,Z ao,bd,L];rfl
   ·rw[aa ly]
  rw[this];exact cU.Nf
 ·rcases EV ak with ak|rfl
  ·exact cU.row y ak
  ·exact⟨aq,aJ⟩
theorem ao3 {α:Type}{l:List α}{i j:Nat}{a b:α}(L:l[i]?=some a)(ag:l[j]?=some b)(h:l.Nodup):((l.set i b).set j a).Nodup:=by
 obtain⟨jx,rA⟩:=dM.1 L;obtain⟨jV,K5⟩:=dM.1 ag
 have main:∀p q,p<q->q<(D l)->((l.set i b).set j a)[p]?≠((l.set i b).set j a)[q]?:=by
  intro p q Ng a9;rw[kz,kz,kz,kz];have inj:∀p q,p<(D l)->l[p]?=l[q]?->p=q:=λp q aC he=>(acn aC h).1 he;simp only[iM]
  by_cases E:j=p
  ·subst E;have H:¬ j=q:=by omega
   rw[Z rfl,Z jV,aa H]
   by_cases ab:i=q
   ·subst ab;rw[Z rfl,Z jx];intro he;rw[<-L,<-ag] at he;have:=inj _ _ jx he;omega
   ·rw[aa ab,<-L];intro he;exact ab (inj _ _ jx he)
  ·rw[aa E]
   by_cases ab:i=p
   ·subst ab;rw[Z rfl,Z jx]
    by_cases H:j=q
    ·subst H;rw[Z rfl,Z jV,<-L,<-ag];intro he;have:=inj _ _ jV he;omega
    ·rw[aa H,aa (by omega),<-ag];intro he;exact H (inj _ _ jV he)
   ·rw[aa ab]
    by_cases H:j=q
    ·subst H;rw[Z rfl,Z jV,<-L];intro he;exact ab (inj _ _ jx he.symm)
    ·rw[aa H]
     by_cases aM:i=q
     ·subst aM;rw[Z rfl,Z jx,<-ag];intro he;exact E (inj _ _ jV he.symm)
     ·rw[aa aM];intro he;have:=inj _ _ (by omega) he;omega
 refine List.pairwise_iff_getElem.2 λp q aC a9 Ng he=>?_;simp only[iM] at aC a9;refine main p q Ng a9 ?_;rw[bx (by simpa using aC),bx (by simpa using a9),he]
theorem jh.swap {i j:Nat}{a b:cX}(cU:jh N rows)(L:rows[i]?=some a)(ag:rows[j]?=some b):jh N ((rows.set i b).set j a):=by
 refine⟨by rw[iM,iM];exact cU.len,?_,λx O=>?_⟩
 ·rw[xi,xi];exact ao3 (by rw[bd,L];rfl) (by rw[bd,ag];rfl) cU.Nf
 ·rcases EV O with O|rfl
  ·rcases EV O with O|rfl
   ·exact cU.row x O
   ·exact cU.row _ (eU ag)
  ·exact cU.row _ (eU L)
end
theorem ao4 {l:List bS}{i:Nat}{a b c d}(h:l[i]?=some ((a,b),(c,d))):cut (aY aK l) (i*4) 4=some [.I (.int .i64 a),.I (.ae (b.map af)),.I (.int .i64 c),.I (.ae (d.map af))]:=by
 have:=LA mG h (f:=0) (n:=4) (by omega);rw[Nat.add_zero] at this;rw[this]
 rfl
theorem ao5 {N:Nat}{rows:List cX}{i:Nat}{x:cX}(h:rows[i]?=some x):cut (refsOf N rows) i 1=some [.ref (x.1+900000) x.2.1 4 0 (N+1)]:=by
 obtain⟨ao,rfl⟩:=dM.1 h;unfold cut refsOf;rw[Z (by rw[al];omega),<-List.map_drop,hL ao]
 rfl
theorem ao6 {l m:List bS}(h:aY aK l=aY aK m):l=m:=RP mG vl _ _ h (by omega)
def mI (f:bS):Bool:=f.1.1==0
def cellOf (x:cX)(c:Nat):bS:=x.2.2.getD c dT
def findAt (rows:List cX)(r c:Nat):Nat:=r+(rows.drop r).findIdx λx => !mI (cellOf x c)
def iD (fe:bS):List bS->List bS->Bool->List bS×Bool
 |f::dj,p::cS,false=>((oo f (nh fe p).1).1::(iD fe dj cS ((nh fe p).2 != 0||(oo f (nh fe p).1).2 != 0)).1,(iD fe dj cS ((nh fe p).2 != 0||(oo f (nh fe p).1).2 != 0)).2)
 |dj,_,b=>(dj,b)
def ji (fz:List bS)(r c:Nat):Nat->List cX->Bool->List cX×Bool
 |_,[],bad=>([],bad)
 |i,x::xs,bad=>if (i==r||mI (cellOf x c))=true then (x::(ji fz r c (i+1) xs bad).1,(ji fz r c (i+1) xs bad).2) else
  ((x.1,x.2.1,(iD (cellOf x c) x.2.2 fz bad).1)::(ji fz r c (i+1) xs (iD (cellOf x c) x.2.2 fz bad).2).1,(ji fz r c (i+1) xs (iD (cellOf x c) x.2.2 fz bad).2).2)
def hv (I4:bS)(l:List bS):List bS×Bool:=(l.map λf=>(je f I4).1,l.any λf=>(je f I4).2 != 0)
def rowAt (rows:List cX)(i:Nat):cX:=rows.getD i (0,0,[])
def pR (rows:List cX)(i j:Nat):List cX:=(rows.set i (rowAt rows j)).set j (rowAt rows i)
def Cl (rows:List cX)(r c:Nat):List cX:=rows.set r ((rowAt rows r).1,(rowAt rows r).2.1,(hv (cellOf (rowAt rows r) c) (rowAt rows r).2.2).1)
def h7 (rows:List cX)(r c:Nat):Bool×List cX×Bool :=
 if findAt rows r c=(D rows) then (true,rows,false) else
  (false,ji (hv (cellOf (rowAt (pR rows r (findAt rows r c)) r) c) (rowAt (pR rows r (findAt rows r c)) r).2.2).1 r c 0 (Cl (pR rows r (findAt rows r c)) r c)
   (hv (cellOf (rowAt (pR rows r (findAt rows r c)) r) c) (rowAt (pR rows r (findAt rows r c)) r).2.2).2)
theorem ao7 {rows:List cX}{r c i:Nat}{x:cX}(O:rows[i]?=some x)(Y:r<=i)(aR:∀j y,r<=j->j<i->rows[j]?=some y->mI (cellOf y c)=true)(h:mI (cellOf x c)=false):findAt rows r c=i:=by
 unfold findAt;obtain⟨ao,acm⟩:=dM.1 O
 have:(rows.drop r).findIdx (λx => !mI (cellOf x c))=i-r:=by
  rw[List.findIdx_eq (by rw[pA];omega)];refine⟨?_,λj ag=>?_⟩
  ·rw[EY];have:rows[r+(i-r)]?=some x:=by rw[show r+(i-r)=i by omega];exact O
   rw[(dM.1 this).2,h];rfl
  ·rw[EY];have:=aR (r+j) _ (by omega) (by omega) (bx (by omega));rw[this];rfl
 omega
theorem ao8 {rows:List cX}{r c:Nat}(Y:r<=D rows)(aR:∀j y,r<=j->rows[j]?=some y->mI (cellOf y c)=true):findAt rows r c=D rows:=by
 unfold findAt
 have:(rows.drop r).findIdx (λx => !mI (cellOf x c))=(rows.drop r).length:=by
  rw[List.findIdx_eq_length];intro y ak;obtain⟨j,ag⟩:=pD.1 ak;rw[List.getElem?_drop] at ag;rw[aR (r+j) y (by omega) ag];rfl
 rw[this,pA];omega
end Go.Mini
