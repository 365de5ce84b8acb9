/- A part of the proof. -/
import Derived.KernelRfl
import Derived.Test.YtplehnijfhgclaaGreatDoorRows
import Derived.Test.YtplehnijfhgclaaGreatDoorM05
set_option linter.unusedSimpArgs false
set_option linter.unusedVariables false
set_option linter.defProp false
set_option maxRecDepth 100000
set_option maxHeartbeats 4000000
noncomputable section
open Bool renaming and_eq_true->ff,false_and->eO,false_eq_true->cE,false_or->pE,not_false->dc,not_true->c2,or_eq_true->tA,true_and->e0,true_or->qz
open Classical renaming propDecidable->QW
open Decidable renaming em->du
open Int renaming eq_ofNat_of_zero_le->vJ,mul_ne_zero->XE,natAbs_mul->yG,natAbs_natCast->nr,natAbs_neg->rr,toNat_natCast->lX
open List renaming all_eq_true->kA,ext_getElem?->qm,getD_eq_getElem?_getD->dH,getElem?_eq_getElem->bf,getElem?_eq_none->lk,getElem?_map->bg,getElem?_range->r3,getElem?_set->lF,getElem_mem->hb,length->D,length_map->aj,length_nil->mV,length_range->tF,length_replicate->hs,length_set->fk,length_take->gk,map_cons->g0,map_nil->bP,mem_append->h5,mem_cons->kt,mem_map->h7,mem_of_getElem?->cL,mem_or_eq_of_mem_set->nW,mem_replicate->pM,not_mem_nil->LR,range->qj,replicate->ch,take_add_one->ho,take_of_length_le->dF
open List.cons renaming injEq->bl
open Nat renaming add_comm->Hj,le_of_ble_eq_true->p3,le_of_lt->ahT,le_refl->c9,le_trans->iG,lt_or_ge->gY,mul_comm->yf,mul_one->dM,pow_le_pow_right->An,pow_lt_pow_right->ahQ,sub_self->hG,zero_le->dG
open Option renaming map_some->kU
open Option.some renaming inj->mm,injEq->bO
open Prod renaming ext->cz,ext_iff->I2
open Prod.mk renaming injEq->eM
open Rat renaming divInt->lA,divInt_eq_div->ahO,intCast_eq_zero_iff->XB,intCast_mul->XF
namespace Go.Mini
open Go
def th (fed:List Bool)(i:Nat):List cn->Bool->Bool
 | [],b=>b
 |l::r,b=>th fed i r (b||((l.2.1==(i:Int))&&(decide (l.2.2.1.1>0)&&fed.getD l.1.toNat false)))
def pt (cap base:List ax)(ls:List cn):Nat->Nat->List Bool->List Bool
 |0,_,fed=>fed
 |k+1,i,fed=>pt cap base ls k (i+1) (fed.set i (fed.getD i false||(th fed i ls (decide ((base.getD i bC).1.1>0))&&decide ((cap.getD i bC).1.1>0))))
def rQ (cap base:List ax)(ls:List cn):Nat->List Bool->List Bool
 |0,fed=>fed
 |k+1,fed=>rQ cap base ls k (pt cap base ls (D cap) 0 fed)
def Bb (fed:List Bool)(cap:List ax)(i:Nat):ax:=if fed.getD i false=true then cap.getD i bC else hi
def vZ (fed:List Bool)(cap:List ax):List ax:=(qj (D cap)).map (Bb fed cap)
def QM (cap base:List ax)(ls:List cn):List ax×List (List Nat)×Int:=if o6 cap base ls=true then l7 (vZ (rQ cap base ls (D cap) (ch (D cap) false)) cap) base ls else ([],[],1)
def Xp {cap base:List ax}{ls:List cn}:∀(k i:Nat) (fed:List Bool),(pt cap base ls k i fed).length=D fed
 |0,_,_=>rfl
 |k+1,i,fed=>by
  unfold pt;rw[Xp k,fk]
def QN:=bI pW λ(cap,base,ls)=>ca (ox cap base ls) (.same (l8 (QM cap base ls)))
@[go_sem] def aul (cap base ls):=cl QN rfl CQ (cap,base,ls) rfl
def aum (T:bj)(ew:T B7=aG GZ)(dR:T sv=aG A4)(g7:T B9=aG Hd):WF T agr QN:=by
 refine b7 λ(cap,base,ls)=>cq λY=>⟨rfl,b6 ?_⟩;simp only[agr,pW,bX];unfold QM;rcases M:o6 cap base ls
 ·simp only[cE,if_false];refine ah ?_;repeat' (intro (ai:_=_)<;>simp only[ai,go_sem,go_sem_proc,ew,dR,g7,Y,M,l8,bP]<;>try refine ae ?_ ?_)
 ·simp only[if_true];obtain⟨U,aC,Ds,eZ,-,-⟩:=xq M;have j6:=Y;obtain⟨⟨eb,ny⟩,⟨mq,nz⟩,nA⟩:=Y;have y3:(D cap*1<=140737488355328)=True:=eq_true (by omega);have Dk:(1*D cap<=140737488355328)=True:=eq_true (by omega);have y4:(D cap<=maxLen)=True:=eq_true (by unfold maxLen;omega);have Dl:(D cap<=140737488355328)=True:=eq_true (by omega);have a2:=PD (D cap);generalize PM:rQ cap base ls (D cap) (ch (D cap) false)=bI;simp only[go_sem,go_sem_proc,ew,dR,g7,j6,M,y3,Dk,y4,Dl,a2,aj]
  refine cX [1,5,6] [421001,421115] (λ((p,fed):Nat×List Bool) tm m=>p<=D cap/\D fed=D cap/\bI=rQ cap base ls (D cap-p) fed/\tm 7=.J (.int .i64 p)/\m 421020=some (0,aS kN fed)) (λ(p,_)=>D cap-p) (0,ch (D cap) false) (by
   refine⟨dG _,hs,PM.symm,rfl,?_⟩
   ·simp[aV]) ?_
  intro vs ms aK aF;simp only[go_sem,go_sem_proc,ew,dR,g7,aj] at aK aF;subst aK aF;rintro⟨p,fed⟩ tm m R hm ⟨aR,jQ,qq,bM,md⟩;simp only[go_sem,go_sem_proc,ew,dR,g7,bl] at R hm;obtain⟨bo,c3,dp⟩:=R;obtain⟨aY,h2⟩:=hm;rcases du (p<D cap) with ix|aBU
  ·have d0:decide ((p:Int)<(D cap:Int))=true:=c7;have ct:=e2 (i:=p) (by omega);have g2:(D cap)-p=(D cap-(p+1))+1:=by omega
   rw[g2] at qq;replace qq:=qq.trans (rQ.eq_2 ..);generalize Xq:pt cap base ls (D cap) 0 fed=Xr at *;have aBV:(D Xr)=D cap:=by rw[<-Xq,Xp];exact jQ
   simp only[go_sem,go_sem_proc,ew,dR,g7,bo,c3,dp,bM,aY,h2,md,d0]
   refine cX [1,5,6,7] [421001,421115] (λ((i,fd):Nat×List Bool) tm m=>i<=D cap/\D fd=D cap/\Xr=pt cap base ls (D cap-i) i fd/\tm 8=.J (.int .i64 i)/\m 421020=some (0,aS kN fd)) (λ(i,_)=>D cap-i) (0,fed) (by
    refine⟨dG _,jQ,Xq.symm,rfl,md⟩) ?_
   intro vs ms aK aF;simp only[go_sem,go_sem_proc,ew,dR,g7,bo,c3,dp,bM,aY,h2] at aK aF;subst aK aF;clear bo c3 dp bM aY h2 md tm m Xq;rintro⟨i,fd⟩ tm m R hm ⟨ab,Bx,qa,cd,md⟩;simp only[go_sem,go_sem_proc,ew,dR,g7,bl] at R hm;obtain⟨bo,c3,dp,eE⟩:=R;obtain⟨aY,h2⟩:=hm;rcases du (i<D cap) with aq|bD
   ·have d1:decide ((i:Int)<(D cap:Int))=true:=c7;have w1:=e2 (i:=i) (by omega);obtain⟨⟨⟨ck,dC⟩,⟨gv,iF⟩⟩,dh⟩:∃f,cap[i]?=some f:=⟨_,bf aq⟩;obtain⟨⟨⟨bT,cB⟩,⟨et,eD⟩⟩,eJ⟩:∃f,base[i]?=some f:=⟨_,bf (by omega)⟩;obtain⟨j5,dt⟩:∃f,fd[i]?=some f:=⟨_,bf (by omega)⟩;have gc:cap.getD i bC=((ck,dC),(gv,iF)):=by rw[dH,dh];rfl
    have qR:base.getD i bC=((bT,cB),(et,eD)):=by rw[dH,eJ];rfl
    have gl:fd.getD i false=j5:=by rw[dH,dt];rfl
    have hU:=xn dt;have g5:=uB (l:=fd) (k:=i) (by omega);have tX:=λb=>PF (l:=fd) (k:=i) (by omega) b;have g2:(D cap)-i=(D cap-(i+1))+1:=by omega
    rw[g2] at qa;replace qa:=qa.trans (pt.eq_2 ..);rw[gc,qR,gl] at qa;dsimp only at qa;generalize ahk:th fd i ls (decide (bT>0))=ahl at *;simp only[go_sem,go_sem_proc,ew,dR,g7,bo,c3,dp,eE,cd,aY,h2,md,d1,eJ,av,aj,bg]
    refine cX [1,5,6,7,8] [421001,421020,421115] (λ((j,b):Nat×Bool) tm m=>j<=D ls/\ahl=th fd i (ls.drop j) b/\tm 9=.J (.bool b)/\tm 10=.J (.int .i64 j)) (λ(j,_)=>D ls-j) (0,decide (bT>0)) (by
     refine⟨dG _,ahk.symm,rfl,rfl⟩) ?_
    intro vs ms aK aF;simp only[go_sem,go_sem_proc,ew,dR,g7,bo,c3,dp,eE,cd,aY,md,h2,aj] at aK aF;subst aK aF;clear bo c3 dp eE cd aY md h2 tm m ahk;rintro⟨j,b⟩ tm m R hm ⟨aa,oE,di,dz⟩;simp only[go_sem,go_sem_proc,ew,dR,g7,bl] at R hm;obtain⟨bo,c3,dp,eE,fR⟩:=R;obtain⟨aY,md,h2⟩:=hm;rcases du (j<D ls) with hk|CX
    ·have d2:decide ((j:Int)<(D ls:Int))=true:=c7;have ww:=e2 (i:=j) (by omega);obtain⟨⟨a,c,⟨w1,gF⟩,⟨Wu,Wv⟩⟩,He⟩:∃l,ls[j]?=some l:=⟨_,bf hk⟩;obtain⟨ta,gE,-⟩:=eZ _ (cL He);dsimp only at ta gE;obtain⟨a,rfl⟩:=vJ ta;have KW:a<D cap:=by omega
     have k3:ls.drop j=((a:Int),c,((w1,gF),(Wu,Wv)))::ls.drop (j+1):=by
      obtain⟨ag,e⟩:=List.getElem?_eq_some_iff.1 He;rw[List.drop_eq_getElem_cons ag,e]
     rw[k3] at oE;replace oE:=oE.trans (th.eq_2 ..);dsimp only at oE;rw[lX] at oE;rcases b
     ·rw[pE] at oE;rcases gf:(c==(i:Int))
      ·rw[gf,eO] at oE;refine ah ?_;repeat' (intro (ai:_=_)<;>simp only[ai,go_sem,go_sem_proc,ew,dR,g7,bo,c3,dp,eE,fR,di,dz,aY,md,h2,d2,ww,He,gf,fh,av,aj,bg]<;>try refine ae ?_ ?_)
       exact⟨(j+1,false),by dsimp only;omega,by dsimp only;omega,oE,rfl,rfl⟩
      ·rcases ik:decide (w1>0)
       ·rw[gf,ik,e0,eO] at oE;refine ah ?_;repeat' (intro (ai:_=_)<;>simp only[ai,go_sem,go_sem_proc,ew,dR,g7,bo,c3,dp,eE,fR,di,dz,aY,md,h2,d2,ww,He,gf,ik,fh,av,aj,bg]<;>try refine ae ?_ ?_)
        exact⟨(j+1,false),by dsimp only;omega,by dsimp only;omega,oE,rfl,rfl⟩
       ·obtain⟨ahm,eV⟩:∃f,fd[a]?=some f:=⟨_,bf (by omega)⟩;have aun:fd.getD a false=ahm:=by rw[dH,eV];rfl
        have auo:=xn eV;have aup:=uB (l:=fd) (k:=a) (by omega);rw[gf,ik,e0,e0,aun] at oE;refine ah ?_;repeat' (intro (ai:_=_)<;>simp only[ai,go_sem,go_sem_proc,ew,dR,g7,bo,c3,dp,eE,fR,di,dz,aY,md,h2,d2,ww,He,gf,ik,auo,aup,KW,fh,av,dM,aj,bg]<;>try refine ae ?_ ?_)
        exact⟨(j+1,ahm),by dsimp only;omega,by dsimp only;omega,oE,rfl,rfl⟩
     ·rw[qz] at oE;refine ah ?_;repeat' (intro (ai:_=_)<;>simp only[ai,go_sem,go_sem_proc,ew,dR,g7,bo,c3,dp,eE,fR,di,dz,aY,md,h2,d2,ww,He,fh,av,aj,bg]<;>try refine ae ?_ ?_)
      exact⟨(j+1,true),by dsimp only;omega,by dsimp only;omega,oE,rfl,rfl⟩
    ·have d2:decide ((j:Int)<(D ls:Int))=false:=df;have kH:ls.drop j=[]:=List.drop_eq_nil_of_le (by omega);rw[kH] at oE;replace oE:=oE.trans (th.eq_1 ..);subst oE;rcases j5
     ·rw[pE] at qa;rcases ahl
      ·rw[eO] at qa;refine ah ?_;repeat' (intro (ai:_=_)<;>simp only[ai,go_sem,go_sem_proc,ew,dR,g7,bo,c3,dp,eE,fR,di,dz,aY,md,h2,d2,w1,dh,hU,g5,tX,aq,av,dM,aj,bg]<;>try refine ae ?_ ?_)
       exact⟨(i+1,fd.set i false),by dsimp only;omega,by dsimp only;omega,by rw[fk];exact Bx,qa,rfl,rfl⟩
      ·rw[e0] at qa;generalize aU:decide (ck>0)=q at *;refine ah ?_;repeat' (intro (ai:_=_)<;>simp only[ai,go_sem,go_sem_proc,ew,dR,g7,bo,c3,dp,eE,fR,di,dz,aY,md,h2,d2,w1,dh,aU,hU,g5,tX,aq,av,dM,aj,bg]<;>try refine ae ?_ ?_)
       exact⟨(i+1,fd.set i q),by dsimp only;omega,by dsimp only;omega,by rw[fk];exact Bx,qa,rfl,rfl⟩
     ·rw[qz] at qa;refine ah ?_;repeat' (intro (ai:_=_)<;>simp only[ai,go_sem,go_sem_proc,ew,dR,g7,bo,c3,dp,eE,fR,di,dz,aY,md,h2,d2,w1,dh,hU,g5,tX,aq,av,dM,aj,bg]<;>try refine ae ?_ ?_)
      exact⟨(i+1,fd.set i true),by dsimp only;omega,by dsimp only;omega,by rw[fk];exact Bx,qa,rfl,rfl⟩
   ·have d1:decide ((i:Int)<(D cap:Int))=false:=df;have hz:i=D cap:=by omega
    subst hz;rw[hG] at qa;replace qa:=qa.trans (pt.eq_1 ..);subst qa;refine ah ?_;repeat' (intro (ai:_=_)<;>simp only[ai,go_sem,go_sem_proc,ew,dR,g7,bo,c3,dp,eE,cd,aY,md,h2,d1,ct]<;>try refine ae ?_ ?_)
    exact⟨(p+1,Xr),by dsimp only;omega,by dsimp only;omega,Bx,qq,rfl,rfl⟩
  ·have d0:decide ((p:Int)<(D cap:Int))=false:=df;have hz:p=D cap:=by omega
   subst hz;rw[hG] at qq;replace qq:=qq.trans (rQ.eq_1 ..);rw[qq];clear PM qq bI;have auq:(vZ fed cap).length=D cap:=by unfold vZ;rw[aj,tF]
   have aur:∀i,i<(D cap)->(vZ fed cap)[i]?=some (Bb fed cap i):=λi ab=>by
    unfold vZ;rw[bg,r3 ab]
    rfl
   have aus:∀f∈vZ fed cap,okF f:=λf al=>by
    unfold vZ at al;obtain⟨i,ab,rfl⟩:=h7.1 al;rw[List.mem_range] at ab;unfold Bb
    split
    ·rw[dH,bf ab];exact ny _ (hb ab)
    ·exact xm
   generalize Wq:vZ fed cap=pk at *;simp only[go_sem,go_sem_proc,ew,dR,g7,bo,c3,dp,bM,aY,md,h2,d0]
   refine cX [1,5,6] [421001,421020] (λ((i,g):Nat×Nat) tm m=>i<=D cap/\tm 12=.J (.int .i64 i)/\tm 11=.ref 421115 g 4 0 i/\m 421115=some (g,aS av (pk.take i))) (λ(i,_)=>D cap-i) (0,0) (by
    refine⟨dG _,rfl,rfl,?_⟩
    ·simp[aV,aS]) ?_
   intro vs ms aK aF;simp only[go_sem,go_sem_proc,ew,dR,g7,bo,c3,dp,aY,md] at aK aF;subst aK aF;clear bo c3 dp bM aY md h2 tm m;rintro⟨i,g⟩ tm m R hm ⟨ab,eI,dX,h2⟩;simp only[go_sem,go_sem_proc,ew,dR,g7,bl] at R hm;obtain⟨bo,c3,dp⟩:=R;obtain⟨aY,md⟩:=hm;rcases du (i<D cap) with aq|bD
   ·have d1:decide ((i:Int)<(D cap:Int))=true:=c7;have w1:=e2 (i:=i) (by omega);obtain⟨⟨⟨ck,dC⟩,⟨gv,iF⟩⟩,dh⟩:∃f,cap[i]?=some f:=⟨_,bf aq⟩;obtain⟨j5,dt⟩:∃f,fed[i]?=some f:=⟨_,bf (by omega)⟩;have gc:cap.getD i bC=((ck,dC),(gv,iF)):=by rw[dH,dh];rfl
    have gl:fed.getD i false=j5:=by rw[dH,dt];rfl
    have hU:=xn dt;have g5:=uB (l:=fed) (k:=i) (by omega);have zt:=aur i aq;unfold Bb at zt;rw[gc,gl] at zt;have oq:∀db,pk[i]?=some db->pk.take (i+1)=pk.take i++[db]:=λdb h=>by rw[ho,h];rfl
    have b9:(pk.take i).length=i:=by rw[gk];omega
    have c1:=λ(bH:ax) cs iJ=>lq jt vm 421115 g 64 (pk.take i) bH (cs:=cs) iJ (by omega) (by omega);simp only[b9] at c1;have qo:=DJ 0 (by unfold dY;omega);rw[show ee ((0:Int):Rat)=hi from rfl] at qo;generalize hi=nb at *;obtain⟨⟨iP,je⟩,⟨kL,kM⟩⟩:=nb;simp only[av] at qo;rcases j5
    ·simp only[cE,if_false] at zt;have jh:=c1 ((iP,je),(kL,kM)) _ rfl;rw[<-oq _ zt] at jh;simp only[av,g0,bP] at jh;refine ah ?_;repeat' (intro (ai:_=_)<;>simp only[ai,go_sem,go_sem_proc,ew,dR,g7,bo,c3,dp,eI,dX,aY,md,h2,d1,w1,dh,hU,g5,aq,qo,jh,av,dM,aj,bg]<;>try refine ae ?_ ?_)
     exact⟨(i+1,g+1),by dsimp only;omega,by dsimp only;omega,rfl,rfl,rfl⟩
    ·simp only[if_true] at zt;have jh:=c1 ((ck,dC),(gv,iF)) _ rfl;rw[<-oq _ zt] at jh;simp only[av,g0,bP] at jh;refine ah ?_;repeat' (intro (ai:_=_)<;>simp only[ai,go_sem,go_sem_proc,ew,dR,g7,bo,c3,dp,eI,dX,aY,md,h2,d1,w1,dh,hU,g5,aq,jh,av,dM,aj,bg]<;>try refine ae ?_ ?_)
     exact⟨(i+1,g+1),by dsimp only;omega,by dsimp only;omega,rfl,rfl,rfl⟩
   ·have d1:decide ((i:Int)<(D cap:Int))=false:=df;have hz:i=D cap:=by omega
    subst hz;have k5:pk.take (D cap)=pk:=dF (by omega);rw[k5] at h2;have ek:=Xm pk base ls ⟨⟨by omega,aus⟩,⟨mq,nz⟩,nA⟩
    have nc:=λ(K:a8->Prop) (st:a8)=>sl (K:=K) (st:=st) jt 11 421115 g pk;rw[auq] at nc;generalize l7 pk base ls=S at *;obtain⟨l6,Dt,KT⟩:=S;simp only[l8] at ek;refine ah ?_;repeat' (intro (ai:_=_)<;>simp only[ai,go_sem,go_sem_proc,ew,dR,g7,bo,c3,dp,eI,dX,aY,md,h2,d1,nc,ek,l8,aj]<;>try refine ae ?_ ?_)
def QO {l:List Bool}{i j:Nat}(h:i<D l)(b:Bool):(l.set i b).getD j false=if i=j then b else l.getD j false:=by
 rw[dH,dH,lF]
 split
 ·rename_i e;subst e
  first|rfl|(rw[aL h];rfl)
 ·rfl
def kr (a b:List Bool):Prop:=∀i,a.getD i false=true->b.getD i false=true
def kr.refl (a:List Bool):kr a a:=λ_ h=>h
def kr.trans {a b c:List Bool}(h:kr a b)(G:kr b c):kr a c:=λi ab=>G i (h i ab)
def ahn:∀{a b:List Bool},D a=(D b)->kr a b->a≠b->b.count false<a.count false
 | [],[],_,_,h=>absurd rfl h
 | [],_::_,h,_,_=>by cases h
 |_::_,[],h,_,_=>by cases h
 |x::a,y::b,ag,hle,bq=>by
  have Bu:kr a b:=λi ab=>by
   have:=hle (i+1);simp only[List.getD_cons_succ] at this;exact this ab
  have au:=hle 0;simp only[List.getD_cons_zero] at au;have nD:(D a)=D b:=by simpa using ag
  by_cases mK:a=b
  ·subst mK;rcases x<;>rcases y
   ·exact absurd rfl bq
   ·simp
   ·exact absurd (au rfl) (by decide)
   ·exact absurd rfl bq
  ·have:=ahn nD Bu mK;rcases x<;>rcases y
   ·simp;omega
   ·simp;omega
   ·exact absurd (au rfl) (by decide)
   ·simp;omega
section
variable (cap base:List ax) (ls:List cn)
def Bc (fed:List Bool)(i:Nat):Prop:=(cap.getD i bC).1.1>0/\((base.getD i bC).1.1>0\/∃l∈ls,l.2.1=(i:Int)/\l.2.2.1.1>0/\fed.getD l.1.toNat false=true)
def xB (fed:List Bool):Prop:=∀i,i<(D cap)->Bc cap base ls fed i->fed.getD i false=true
end
def Bc.mono {cap base:List ax}{ls:List cn}{a b:List Bool}{i:Nat}(h:Bc cap base ls a i)(hle:kr a b):Bc cap base ls b i:=⟨h.1,h.2.imp id fun⟨l,F,G,ad,aZ⟩=>⟨l,F,G,ad,hle _ aZ⟩⟩
def aho {fed:List Bool}{i:Nat}:∀(ls:List cn) (b:Bool),th fed i ls b=true↔b=true\/∃l∈ls,l.2.1=(i:Int)/\l.2.2.1.1>0/\fed.getD l.1.toNat false=true
 | [],b=>by simp[th]
 |l::r,b=>by
  unfold th;rw[aho r];simp only[tA,ff,beq_iff_eq,decide_eq_true_eq,kt,or_assoc]
  constructor
  ·rintro (h|h|⟨x,F,G⟩)
   ·exact .inl h
   ·exact .inr ⟨l,.inl rfl,h⟩
   ·exact .inr ⟨x,.inr F,G⟩
  ·rintro (h|⟨x,rfl|F,G⟩)
   ·exact .inl h
   ·exact .inr (.inl G)
   ·exact .inr (.inr ⟨x,F,G⟩)
def ahp {cap base:List ax}{ls:List cn}{fed:List Bool}{i:Nat}:(th fed i ls (decide ((base.getD i bC).1.1>0))&&decide ((cap.getD i bC).1.1>0))=true↔Bc cap base ls fed i:=by
 unfold Bc;rw[ff,aho,decide_eq_true_eq,decide_eq_true_eq,And.comm]
def Xs {cap base:List ax}{ls:List cn}:∀(k i:Nat) (fed:List Bool),i+k<=(D fed)->kr fed (pt cap base ls k i fed)
 |0,_,_,_=>kr.refl _
 |k+1,i,fed,h=>by
  unfold pt;refine kr.trans ?_ (Xs k (i+1) _ (by rw[fk];omega));intro j aa;rw[QO (by omega)]
  split
  ·rename_i e;subst e;rw[aa];rfl
  ·exact aa
def ahq {cap base:List ax}{ls:List cn}{b4:List Bool}(eA:xB cap base ls b4):∀(k i:Nat) (fed:List Bool),D fed=(D cap)->i+k<=(D cap)->kr fed b4->kr (pt cap base ls k i fed) b4
 |0,_,_,_,_,h=>h
 |k+1,i,fed,ag,R,h=>by
  unfold pt;refine ahq eA k (i+1) _ (by rw[fk];exact ag) (by omega) ?_;intro j aa;rw[QO (by omega)] at aa
  split at aa
  ·rename_i e;subst e;rw[tA] at aa;rcases aa with aa|aa
   ·exact h _ aa
   ·exact eA i (by omega) ((ahp.1 aa).mono h)
  ·exact h _ aa
def ahr {cap base:List ax}{ls:List cn}:∀(k i:Nat) (fed:List Bool),i+k<=(D fed)->pt cap base ls k i fed=fed->∀j,i<=j->j<i+k->Bc cap base ls fed j->fed.getD j false=true
 |0,_,_,_,_,j,F,G,_=>absurd G (by omega)
 |k+1,i,fed,R,h,j,F,G,M=>by
  unfold pt at h;have bD:=Xs (cap:=cap) (base:=base) (ls:=ls) k (i+1) (fed.set i (fed.getD i false||(th fed i ls (decide ((base.getD i bC).1.1>0))&&decide ((cap.getD i bC).1.1>0)))) (by rw[fk];omega);rw[h] at bD;have ab:=bD i;rw[QO (by omega),aL rfl] at ab
  have ao:(fed.getD i false||(th fed i ls (decide ((base.getD i bC).1.1>0))&&decide ((cap.getD i bC).1.1>0)))=fed.getD i false:=by
   rcases al:fed.getD i false
   ·rcases aU:(false||(th fed i ls (decide ((base.getD i bC).1.1>0))&&decide ((cap.getD i bC).1.1>0)))
    ·rfl
    ·rw[al] at ab;exact absurd (ab aU) (by decide)
   ·rfl
  have Q:fed.set i (fed.getD i false)=fed:=by
   rw[dH,bf (by omega:i<D fed)];exact List.set_getElem_self _
  by_cases hX:i=j
  ·subst hX;rw[<-ao,tA];exact .inr (ahp.2 M)
  ·rw[ao,Q] at h;exact ahr k (i+1) fed (by omega) h j (by omega) (by omega) M
def ahs {cap base:List ax}{ls:List cn}{fed:List Bool}(h:pt cap base ls (D cap) 0 fed=fed):∀k,rQ cap base ls k fed=fed
 |0=>rfl
 |k+1=>by
  unfold rQ;rw[h];exact ahs h k
def aht {cap base:List ax}{ls:List cn}:∀(k:Nat) (fed:List Bool),D fed=(D cap)->fed.count false<=k->xB cap base ls (rQ cap base ls k fed)/\(rQ cap base ls k fed).length=D cap/\∀b4,xB cap base ls b4->kr fed b4->kr (rQ cap base ls k fed) b4
 |0,fed,ag,Y=>by
  refine⟨λi ab _=>?_,ag,λb4 _ h=>h⟩;have au:fed.count false=0:=by omega
  rw[List.count_eq_zero] at au;show fed.getD i false=true;rw[dH,bf (by omega)];rcases h:fed[i]
  ·exact absurd (h ▸ hb _) au
  ·rfl
 |k+1,fed,ag,Y=>by
  by_cases aR:pt cap base ls (D cap) 0 fed=fed
  ·rw[ahs aR];exact⟨λi ab M=>ahr _ 0 fed (by omega) aR i (by omega) (by omega) M,ag,λb4 _ h=>h⟩
  ·have F:=Xs (cap:=cap) (base:=base) (ls:=ls) (D cap) 0 fed (by omega);have G:=Xp (cap:=cap) (base:=base) (ls:=ls) (D cap) 0 fed;have ad:=ahn G.symm F (Ne.symm aR);unfold rQ;obtain⟨cJ,cQ,gU⟩:=aht (base:=base) (ls:=ls) k (pt cap base ls (D cap) 0 fed) (G.trans ag) (by omega);exact⟨cJ,cQ,λb4 eA h=>gU b4 eA (ahq eA _ 0 fed ag (by omega) h)⟩
def ahu {cap:List ax}{i:Nat}{s:List Bool×Bool}(h:(pj cap i s).2=false):pj cap i s=s/\s.2=false/\((cap.getD i bC).1.1>0->s.1.getD i false=true):=by
 unfold pj at h ⊢
 split at h
 ·cases h
 ·rename_i Y;rw[aT Y];refine⟨rfl,h,λaR=>?_⟩;rw[ff,decide_eq_true_eq] at Y;rcases al:s.1.getD i false
  ·exact absurd ⟨by rw[al];rfl,aR⟩ Y
  ·rfl
def ahv {cap base:List ax}{ls:List cn}{b4:List Bool}{i:Nat}{s:List Bool×Bool}(eA:xB cap base ls b4)(ag:s.1.length=D cap)(ab:i<D cap)(h:kr s.1 b4)(M:(cap.getD i bC).1.1>0->Bc cap base ls b4 i):kr (pj cap i s).1 b4/\(pj cap i s).1.length=D cap:=by
 unfold pj
 split
 ·rename_i Y;rw[ff,decide_eq_true_eq] at Y;refine⟨λj aa=>?_,by rw[fk];exact ag⟩
  dsimp only at aa;rw[QO (by omega)] at aa
  split at aa
  ·rename_i e;subst e;exact eA i ab (M Y.2)
  ·exact h _ aa
 ·exact⟨h,ag⟩
def ahw {cap base:List ax}:∀(k i:Nat) (s:List Bool×Bool),(qS cap base k i s).2=false->qS cap base k i s=s/\s.2=false/\∀j,i<=j->j<i+k->(base.getD j bC).1.1>0->(cap.getD j bC).1.1>0->s.1.getD j false=true
 |0,i,s,h=>⟨rfl,h,λj F G=>absurd G (by omega)⟩
 |k+1,i,s,h=>by
  unfold qS at h ⊢;obtain⟨F,G,ad⟩:=ahw k (i+1) _ h
  by_cases U:decide ((base.getD i bC).1.1>0)=true
  ·rw[aL U] at F G ad ⊢;obtain⟨cJ,cQ,gU⟩:=ahu G;rw[cJ] at F ad ⊢;refine⟨F,cQ,λj nX wo QP QQ=>?_⟩
   by_cases e:i=j
   ·subst e;exact gU QQ
   ·exact ad j (by omega) (by omega) QP QQ
  ·rw[aT U] at F G ad ⊢;refine⟨F,G,λj nX wo QP QQ=>?_⟩
   by_cases e:i=j
   ·subst e;exact absurd (mL QP) U
   ·exact ad j (by omega) (by omega) QP QQ
def Xt {cap base:List ax}{ls:List cn}{b4:List Bool}(eA:xB cap base ls b4):∀(k i:Nat) (s:List Bool×Bool),s.1.length=(D cap)->i+k<=(D cap)->kr s.1 b4->kr (qS cap base k i s).1 b4/\(qS cap base k i s).1.length=D cap
 |0,_,_,ag,_,h=>⟨h,ag⟩
 |k+1,i,s,ag,R,h=>by
  unfold qS
  by_cases U:decide ((base.getD i bC).1.1>0)=true
  ·rw[aL U];obtain⟨cJ,cQ⟩:=ahv eA ag (by omega) h λY=>⟨Y,.inl (of_decide_eq_true U)⟩;exact Xt eA k (i+1) _ cQ (by omega) cJ
  ·rw[aT U];exact Xt eA k (i+1) _ ag (by omega) h
def ahx {cap:List ax}:∀(ls:List cn) (s:List Bool×Bool),(rJ cap ls s).2=false->rJ cap ls s=s/\s.2=false/\∀l∈ls,s.1.getD l.1.toNat false=true->l.2.2.1.1>0->(cap.getD l.2.1.toNat bC).1.1>0->s.1.getD l.2.1.toNat false=true
 | [],s,h=>⟨rfl,h,λl ag=>by cases ag⟩
 |l::r,s,h=>by
  unfold rJ at h ⊢;obtain⟨F,G,ad⟩:=ahx r _ h
  by_cases U:(s.1.getD l.1.toNat false&&decide (l.2.2.1.1>0))=true
  ·rw[aL U] at F G ad ⊢;obtain⟨cJ,cQ,gU⟩:=ahu G;rw[cJ] at F ad ⊢;refine⟨F,cQ,λx L al hw zl=>?_⟩;rcases kt.1 L with rfl|L
   ·exact gU zl
   ·exact ad x L al hw zl
  ·rw[aT U] at F G ad ⊢;refine⟨F,G,λx L al hw zl=>?_⟩;rcases kt.1 L with rfl|L
   ·exact absurd (by rw[al,mL hw];rfl) U
   ·exact ad x L al hw zl
def Xu {cap base:List ax}{ahy:List cn}{b4:List Bool}(eA:xB cap base ahy b4):∀(ls:List cn) (s:List Bool×Bool),(∀l∈ls,l∈ahy/\0<=l.2.1/\l.2.1<D cap)->s.1.length=(D cap)->kr s.1 b4->kr (rJ cap ls s).1 b4/\(rJ cap ls s).1.length=D cap
 | [],_,_,ag,h=>⟨h,ag⟩
 |l::r,s,eZ,ag,h=>by
  unfold rJ;obtain⟨i0,i1,i2⟩:=eZ l (by simp)
  by_cases U:(s.1.getD l.1.toNat false&&decide (l.2.2.1.1>0))=true
  ·rw[aL U];rw[ff,decide_eq_true_eq] at U;obtain⟨cJ,cQ⟩:=ahv (i:=l.2.1.toNat) eA ag (by omega) h λY=>⟨Y,.inr ⟨l,i0,by omega,U.2,h _ U.1⟩⟩
   exact Xu eA r _ (λx L=>eZ x (by simp[L])) cQ cJ
  ·rw[aT U];exact Xu eA r _ (λx L=>eZ x (by simp[L])) ag h
def ahz {cap base:List ax}{ls:List cn}(eZ:∀l∈ls,0<=l.2.1/\l.2.1<D cap):∀(k:Nat) (fed:List Bool),D fed=(D cap)->fed.count false<k->xB cap base ls (xr cap base ls k fed)/\(xr cap base ls k fed).length=D cap/\∀b4,xB cap base ls b4->kr fed b4->kr (xr cap base ls k fed) b4
 |0,_,_,h=>absurd h (by omega)
 |k+1,fed,ag,Y=>by
  have BJ:AY (D cap) (fed.count false) (td cap base ls fed):=Wp ls _ (Wo (D cap) 0 (fed,false) ⟨ag,c9 _,λh=>by cases h⟩ (by omega)) eZ
  have hle:∀b4,xB cap base ls b4->kr fed b4->kr (td cap base ls fed).1 b4:=λb4 eA h=>by
   obtain⟨a,b⟩:=Xt eA (D cap) 0 (fed,false) ag (by omega) h;exact (Xu eA ls _ (λl ag=>⟨ag,eZ l ag⟩) b a).1
  have jQ:(td cap base ls fed).2=false->(td cap base ls fed).1=fed/\xB cap base ls fed:=λh=>by
   unfold td at h ⊢;obtain⟨F,G,ad⟩:=ahx ls _ h;obtain⟨cJ,cQ,gU⟩:=ahw (D cap) 0 (fed,false) G;rw[F,cJ];rw[cJ] at ad;refine⟨rfl,λi ab M=>?_⟩;obtain⟨dh,eJ|⟨l,ag,dt,hw,al⟩⟩:=M
   ·exact gU i (by omega) (by omega) eJ dh
   ·have r6:l.2.1.toNat=i:=by omega
    have:=ad l ag al hw (by rw[r6];exact dh);rw[r6] at this;exact this
  unfold xr;rcases aU:(td cap base ls fed).2
  ·simp only[cE,if_false];obtain⟨e,eb⟩:=jQ aU;rw[e];exact⟨eb,ag,λb4 _ h=>h⟩
  ·simp only[if_true];obtain⟨i1,i2,i3⟩:=BJ;have:=i3 aU;obtain⟨cJ,cQ,gU⟩:=ahz eZ k (td cap base ls fed).1 i1 (by omega);exact⟨cJ,cQ,λb4 eA h=>gU b4 eA (hle b4 eA h)⟩
def Xv {fed:List Bool}{j:Nat}:∀(k i:Nat) (c:List ax),j<(D c)->(rK fed k i c)[j]?=if i<=j/\j<i+k/\fed.getD j false=false then some hi else c[j]?
 |0,i,c,aa=>by rw[aT (by omega)];rfl
 |k+1,i,c,aa=>by
  unfold rK
  by_cases al:fed.getD i false=true
  ·rw[aL al,Xv k (i+1) c aa]
   by_cases e:i=j
   ·subst e;rw[aT (by omega),aT (by rw[al];simp)]
   ·congr 1
    exact propext ⟨fun⟨a,b,c⟩=>⟨by omega,by omega,c⟩,fun⟨a,b,c⟩=>⟨by omega,by omega,c⟩⟩
  ·rw[aT al,Xv k (i+1) (c.set i hi) (by rw[fk];exact aa),lF];have Rx:fed.getD i false=false:=by simpa using al
   by_cases e:i=j
   ·subst e;rw[aT (by omega),aL rfl,aL aa,aL ⟨c9 _,by omega,Rx⟩]
   ·rw[aT e]
    congr 1
    exact propext ⟨fun⟨a,b,c⟩=>⟨by omega,by omega,c⟩,fun⟨a,b,c⟩=>⟨by omega,by omega,c⟩⟩
def aut {cap base:List ax}{ls:List cn}(eZ:∀l∈ls,0<=l.2.1/\l.2.1<D cap):vZ (rQ cap base ls (D cap) (ch (D cap) false)) cap=GB cap base ls:=by
 have ag:(ch (D cap) false).length=D cap:=hs
 have aC:∀b4,kr (ch (D cap) false) b4:=λb4 i h=>by
  rw[dH,List.getElem?_replicate] at h
  split at h
  ·cases h
  ·cases h
 have mo:(ch (D cap) false).count false=D cap:=List.count_replicate_self;obtain⟨dx,dW,hR⟩:=aht (cap:=cap) (base:=base) (ls:=ls) (D cap) _ ag (by omega);obtain⟨bT,cB,et⟩:=ahz (base:=base) eZ (D cap+1) _ ag (by omega);have mK:=hR _ bT (aC _);have auu:=et _ dx (aC _);unfold GB PI;generalize rQ cap base ls (D cap) (ch (D cap) false)=A at *;generalize xr cap base ls (D cap+1) (ch (D cap) false)=B at *;refine qm λj=>?_;rcases gY j (D cap) with aa|aa
 ·rw[Xv _ _ _ aa];unfold vZ;rw[bg,r3 aa];have dh:=bf aa;simp only[kU];rcases fa:A.getD j false
  ·have n9:B.getD j false=false:=by
    rcases n9:B.getD j false
    ·rfl
    ·rw[auu j n9] at fa;cases fa
   have:Bb A cap j=hi:=by unfold Bb;rw[fa];rfl
   rw[this,aL ⟨dG _,by omega,n9⟩]
  ·have n9:=mK j fa;have:Bb A cap j=cap.getD j bC:=by unfold Bb;rw[fa];rfl
   rw[this,aT (by rw[n9];simp),dH,dh]
   rfl
 ·have F:(rK B (D cap) 0 cap).length=D cap:=by
   have:∀(k i:Nat) (c:List ax),(rK B k i c).length=D c:=by
    intro k
    induction k with
    |zero=>intro i c;rfl
    |succ k a4=>intro i c;unfold rK;split<;>rw[a4];rw[fk]
   exact this _ _ _
  rw[lk (by unfold vZ;rw[aj,tF];exact aa),lk (by omega)]
def auv (cap base:List ax)(ls:List cn):QM cap base ls=AX cap base ls:=by
 unfold QM AX;rcases M:o6 cap base ls
 ·rfl
 ·obtain⟨-,-,-,eZ,-⟩:=xq M;simp only[if_true];rw[aut λl ag=>⟨(eZ l ag).2.2.1,(eZ l ag).2.2.2.1⟩]
def ahA {cap base:List ax}{ls:List cn}(Y:∀f∈cap,okF f)(U:∀f∈base,okF f)(ag:(D base)=D cap)(aC:(D cap)<=40):∀(k:Nat) (left:List Bool) (rounds:List (List Nat)),(pf cap base ls k left rounds).2.2=0->(pf cap base ls k left rounds).1.length=D cap
 |0,_,_,h=>by cases h
 |k+1,left,rounds,h=>by
  unfold pf at h ⊢
  split at h
  ·rename_i M;rw[aL M]
   split at h
   ·cases h
   ·exact (Pz Y U ag aC).2 M
   ·exact ahA Y U ag aC k _ _ h
  ·cases h
def auw {cap base:List ax}{ls:List cn}(h:ox cap base ls)(he:(l7 cap base ls).2.2=0):(l7 cap base ls).1.length=D cap:=by
 unfold l7 at he ⊢
 split at he
 ·rename_i M;rw[aL M];obtain⟨U,aC,-⟩:=xq M;exact ahA h.1.2 h.2.1.2 U aC _ _ _ he
 ·cases he
def auy {rs:List cb}{n:Int}(h:((mF rs n).2==0)=false):(mF rs n).1=[]:=by
 unfold mF at h ⊢
 split
 ·rename_i M;rw[aL M] at h
  split
  ·rfl
  ·split
   ·rfl
   ·rename_i F G;rw[aT F,aT G] at h
    cases h
 ·rfl
def auz (ls:List cn)(n:Int):Prop:=qQ ls/\(ow ls n=true->(mJ ls n.toNat).all (·.2)=true)
def QR:=bI xe λ(ls,n)=>ca (auz ls n) (.same (rM (xw ls n)))
@[go_sem] def auA (ls n):=cl QR rfl O2 (ls,n) rfl
def auB (T:bj)(h1:T B8=aG GY)(zu:T S9=aG Qo)(g7:T B9=aG Hd)(dR:T sv=aG A4)(im:T E2=aG Lp)(iq:T IN=aG LG):WF T agl QR:=by
 refine b7 λ(ls,n)=>cq λY=>⟨rfl,b6 ?_⟩;simp only[agl,xe,bX];obtain⟨Y,LI⟩:=Y;unfold xw;rcases M:ow ls n
 ·simp only[cE,if_false];refine ah ?_;repeat' (intro (ai:_=_)<;>simp only[ai,go_sem,go_sem_proc,h1,zu,g7,dR,im,iq,Y,M,rM,bP]<;>try refine ae ?_ ?_)
 ·simp only[if_true];obtain⟨au,KI,Ds,eZ⟩:=GC M;have LI:=LI M;obtain⟨n,rfl⟩:=vJ au;simp only[lX] at LI ⊢;have aC:n<=40:=by omega
  have FL:=atg ls n aC;have F:=DJ 1 (by unfold dY;omega);rw[show ee ((1:Int):Rat)=kp from rfl] at F;have Dd:=xm;have vM:=Db;have j6:ox (ch n kp) (ch n hi) ls:=⟨⟨by rw[hs];omega,λf al=>by rw[pM] at al;rw[al.2];exact vM⟩,⟨by rw[hs];omega,λf al=>by rw[pM] at al;rw[al.2];exact Dd⟩,Y⟩
  have cW:=Xm _ _ _ j6;have K3:=K1 j6;have Xw:=auw j6;generalize l7 (ch n kp) (ch n hi) ls=S at *;obtain⟨l6,Dt,KT⟩:=S;dsimp only[l8] at cW K3 Xw;dsimp only;rw[hs] at Xw;have jG:(mJ ls n).length=n:=by unfold mJ;rw[aj,tF]
  have uC:∀i,i<n->(mJ ls n)[i]?=some (mG kp ls n i):=λi ab=>by
   unfold mJ;rw[bg,r3 ab]
   rfl
  have p4:∀x∈mJ ls n,lD x.1:=λx L=>by
   unfold mJ at L;rw[h7] at L;obtain⟨i,ab,rfl⟩:=L;exact zc vM aC
  generalize fa:mJ ls n=A at *;generalize hi=nb at *;generalize kp=aw at *;obtain⟨⟨kq,jK⟩,⟨pd,pe⟩⟩:=aw;simp only[av] at F;rcases Dv:(KT==0)
  ·simp only[cE,if_false];refine ah ?_;repeat' (intro (ai:_=_)<;>simp only[ai,go_sem,go_sem_proc,h1,zu,g7,dR,im,iq,Y,M,FL,cW,Dv,rM,bP,bne,dc]<;>try refine ae ?_ ?_)
  ·simp only[if_true];have aBW:=Xw (by simpa using Dv);rw[LI];simp only[if_true];simp only[go_sem,go_sem_proc,h1,zu,g7,dR,im,iq,Y,M,FL,cW,Dv,bne,c2]
   refine cX [0,1,7] [] (λ((i,g):Nat×Nat) tm m=>i<=n/\(∀x∈l6.take i,(!(x.1.1==0))=false)/\tm 11=.J (.int .i64 i)/\tm 10=.ref 415056 g 5 0 i/\m 415056=some (g,aS cG ((A.take i).map (·.1)))) (λ(i,_)=>n-i) (0,0) (by
    refine⟨dG _,by simp,rfl,?_,?_⟩
    ·simp[gM,aV]
    ·simp[aV,aS,gM]) ?_
   intro vs ms aK aF;simp only[go_sem,go_sem_proc,h1,zu,g7,dR,im,iq,] at aK aF;subst aK aF;rintro⟨i,g⟩ tm m R hm ⟨ab,cZ,dX,dz,tg⟩;simp only[go_sem,go_sem_proc,h1,zu,g7,dR,im,iq,bl] at R hm;obtain⟨er,bo,eE⟩:=R;rcases du (i<n) with aq|bD
   ·have d1:decide ((i:Int)<(n:Int))=true:=c7;have bL:=e2 (i:=i) (by omega);have ahB:i<D l6:=by omega
    have fG:=bf ahB;have jo:=λh=>vn (p:=λx:ax => !(x.1.1==0)) cZ fG h;have ahC:=λ(h:(!(l6[i].1.1==0))=true)=>(List.any_eq_true (p:=λx:ax => !(x.1.1==0))).2 ⟨l6[i],hb ahB,h⟩;generalize l6[i]=y at *;obtain⟨⟨dA,dJ⟩,⟨ep,eB⟩⟩:=y;dsimp only at jo ahC;rcases q:(dA==0)
    ·rw[ahC (by rw[q];rfl)];simp only[if_true];refine ah ?_;repeat' (intro (ai:_=_)<;>simp only[ai,go_sem,go_sem_proc,h1,zu,g7,dR,im,iq,er,bo,eE,dX,dz,tg,hm,d1,bL,fG,q,rM,av,bP,aj,bg,bne,dc]<;>try refine ae ?_ ?_)
    ·have vN:=uC i aq;have dO:=W1 kq jK pd pe ls n i ⟨vM,Y,aC,aq,λl ag _=>by have:=eZ l ag;omega⟩
     have ahD:(mG ((kq,jK),(pd,pe)) ls n i).2=true:=(kA.1 LI) _ (cL vN);generalize mG ((kq,jK),(pd,pe)) ls n i=db at *;have oq:A.take (i+1)=A.take i++[db]:=by rw[ho,vN];rfl
     have zg:(A.take (i+1)).map (·.1)=(A.take i).map (·.1)++[db.1]:=by rw[oq,List.map_append];rfl
     have b9:((A.take i).map (·.1)).length=i:=by rw[aj,gk];omega
     have c1:=λ(bH:cb) cs iJ=>lq m6 (λ_=>rfl) 415056 g 88 ((A.take i).map (·.1)) bH (cs:=cs) iJ (by omega) (by omega);simp only[b9] at c1;clear fa uC;obtain⟨⟨vO,⟨v1,v2⟩,⟨fg,v4⟩⟩,ok⟩:=db;dsimp only at ahD;subst ahD;simp only[cG,av] at dO;have jh:=c1 (vO,((v1,v2),(fg,v4))) _ rfl;simp only[cG,av,g0,bP] at jh;rw[<-zg] at jh;refine ah ?_;repeat' (intro (ai:_=_)<;>simp only[ai,go_sem,go_sem_proc,h1,zu,g7,dR,im,iq,er,bo,eE,dX,dz,tg,hm,d1,bL,fG,q,F,dO,jh,av,aj,bg,bne,c2]<;>try refine ae ?_ ?_)
     exact⟨(i+1,g+1),by dsimp only;omega,by dsimp only;omega,jo (by rw[q];rfl),rfl,rfl,rfl⟩
   ·have d1:decide ((i:Int)<(n:Int))=false:=df;have hz:i=n:=by omega
    subst hz;have k5:A.take i=A:=dF (by omega);have qx:l6.take i=l6:=dF (by omega);rw[k5] at tg;rw[qx] at cZ;have h6:(l6.any λx => !(x.1.1==0))=false:=by rw[List.any_eq_false];intro y ak;rw[cZ y ak];decide
    rw[h6];simp only[cE,if_false]
    have LH:qK (A.map (·.1)):=⟨by rw[aj];omega,λr M=>by
     obtain⟨x,L,rfl⟩:=h7.1 M;exact p4 x L⟩
    have ek:=ahc (A.map (·.1)) i LH;rw[<-ahj LH] at ek;have nc:=λ(K:a8->Prop) (st:a8)=>sl (K:=K) (st:=st) m6 10 415056 g (A.map (·.1));rw[aj,jG] at nc;have ahE:=auy (rs:=A.map (·.1)) (n:=i);generalize mF (A.map (·.1)) i=S at *;obtain⟨aBX,e⟩:=S;dsimp only at ek ahE ⊢;rcases he:(e==0)
    ·rw[ahE he];refine ah ?_;repeat' (intro (ai:_=_)<;>simp only[ai,go_sem,go_sem_proc,h1,zu,g7,dR,im,iq,er,bo,eE,dX,dz,tg,hm,d1,nc,ek,he,rM,bP,bne,dc]<;>try refine ae ?_ ?_)
    ·have sa:e=0:=by simpa using he
     subst sa;refine ah ?_;repeat' (intro (ai:_=_)<;>simp only[ai,go_sem,go_sem_proc,h1,zu,g7,dR,im,iq,er,bo,eE,dX,dz,tg,hm,d1,nc,ek,rM,bP,bne,c2,beq_self_eq_true]<;>try refine ae ?_ ?_)
def ahF:bG:=bV 148 3 [.t 6] (O [cm 3 409003 0,bY 6 false] (O [aB 21 (.call S1 []),E 7 21] (.seq (O [aD 22 3 3,c8 23 S4 22,dT 24 23,E 25 24,dK 26 25 2,fs 27 25 (.call EL [.t 26,.c (bn 4),.c (bn 1)]),ib 28 25 27,cF 29 25 28,E 30 29,dK 31 30 1,gN 32 30 .gtr 31 4,dK 33 30 32,ev 34 33 1,kj 35 33 .leq 34 40,fs 36 30 (.pick (.t 33) (.t 35) (.c (.J (.bool false)))),cF 37 30 36] (bQ 37 [E 38 7,E 6 38])) (O [aD 40 3 3,c8 41 yp 40,E 39 41,aP 42 0 39,aP 43 1 39,aP 44 2 39,E 8 42,E 9 43,E 10 44] (O [aD 46 3 3,c8 47 B9 46,E 45 47,aP 48 0 45,aP 49 1 45,aP 50 2 45,E 11 48,E 12 49,E 13 50] (.seq (O [E 51 10,E 52 13,bt 53 .neq 51 52,E 54 53,dK 55 54 8,dK 56 54 11,fs 57 54 (.call tH [.t 55,.t 56]),ib 58 54 57,cF 59 54 58,E 60 59,dK 61 60 9,dK 62 60 12,fs 63 60 (.call E1 [.t 61,.t 62]),ib 64 60 63,cF 65 60 64] (bQ 65 [bY 6 false])) (O [aD 67 3 3,c8 68 SX 67,E 66 68,aP 69 0 66,aP 70 1 66,aP 71 2 66,E 8 69,E 9 70,E 10 71] (O [aD 73 3 3,c8 74 S7 73,E 72 74,aP 75 0 72,aP 76 1 72,aP 77 2 72,E 11 75,E 12 76,E 13 77] (.seq (O [E 78 10,E 79 13,bt 80 .neq 78 79,E 81 80,dK 82 81 8,dK 83 81 11,fs 84 81 (.call tH [.t 82,.t 83]),ib 85 81 84,cF 86 81 85,E 87 86,dK 88 87 9,dK 89 87 12,fs 90 87 (.call E1 [.t 88,.t 89]),ib 91 87 90,cF 92 87 91] (bQ 92 [bY 6 false])) (O [aE 94 2 3,aJ 95 1 94,E 96 1,bK 97 EZ 95 96,E 93 97,aP 98 0 93,aP 99 1 93,aP 100 2 93,E 14 98,E 15 99,E 16 100] (O [aE 102 2 3,aJ 103 1 102,E 104 1,bK 105 S2 103 104,E 101 105,aP 106 0 101,aP 107 1 101,aP 108 2 101,E 17 106,E 18 107,E 19 108] (O [E 109 16,E 110 19,bt 111 .eql 109 110,E 112 111,ev 113 112 14,ev 114 112 17,fB 115 112 (.call tH [.t 113,.t 114]),fF 116 112 115,E 117 116,ev 118 117 15,ev 119 117 18,fB 120 117 (.call tH [.t 118,.t 119]),fF 121 117 120,E 20 121] (e3 [E 122 7,E 123 122,ev 124 123 20,fF 125 123 124,E 126 125,hI 127 126 2 3,iz 128 126 1 127,ev 129 126 1,ev 130 126 2,fB 131 126 (.call IU [.t 128,.t 129,.t 130]),hI 132 126 2 3,iz 133 126 1 132,ev 134 126 1,ev 135 126 2,fB 136 126 (.call S3 [.t 133,.t 134,.t 135]),fB 137 126 (.beq false (.t 131) (.t 136)),fF 138 126 137,E 139 138,Ca 140 139 3 3,ev 141 139 2,fB 142 139 (.call SW [.t 140,.t 141]),Ca 143 139 3 3,ev 144 139 2,fB 145 139 (.call S6 [.t 143,.t 144]),fB 146 139 (.beq false (.t 142) (.t 145)),fF 147 139 146,E 6 147] alJ .ret)))))))))))))
def ahG:bG:=bV 14 2 [.cell 4 4 true] (O [bR 4 412004 cM] (O [E 8 0,E 9 1,bK 10 IC 8 9,E 7 10,aP 11 0 7,aP 12 1 7,bR 5 412005 cM,a1 4 5 11,E 6 12] (O [aD 13 4 5,a1 4 4 13] .ret)))
def ahH:bG:=bV 169 0 [.t 0] (O [bY 0 false] (O [aB 31 (.call oS [.c (.J (.str [98,97,115,101,32,43,32,114,97,116,101,32,99,32,47,32,50,32,43,32,114,97,116,101,32,100,32,42,32,51]))]),E 30 31,aP 32 0 30,aP 33 1 30,aP 34 2 30,aP 35 3 30,E 1 32,E 2 33,E 3 34,E 4 35] (O [aB 37 (.call oS [.c (.J (.str [49,32,45,32,114,97,116,101,32,99]))]),E 36 37,aP 38 0 36,aP 39 1 36,aP 40 2 36,aP 41 3 36,E 5 38,E 6 39,E 7 40,E 8 41] (O [aB 43 (.call oS [.c (.J (.str [114,97,116,101,32,99,32,42,32,114,97,116,101,32,99]))]),E 42 43,aP 44 0 42,aP 45 1 42,aP 46 2 42,aP 47 3 42,E 9 44,E 10 45,E 11 46,E 12 47] (O [aB 49 (.call oS [.c (.J (.str [102,97,99,116,32,97,32,45,32,102,97,99,116,32,98,32,43,32,114,97,116,101,32,99]))]),E 48 49,aP 50 0 48,aP 51 1 48,aP 52 2 48,aP 53 3 48,E 13 50,E 14 51,E 15 52,E 16 53] (O [aB 54 (.call nI [.c (bn 1),.c (bn 2)]),aB 55 (.build [bn 0,bn 0,bn 0,.nil,bn 0,.nil] [(0,1,.c (bn 0)),(1,1,.c (bn 1)),(2,4,.t 54)]),aB 56 (.call nI [.c (bn 1),.c (bn 1)]),aB 57 (.build [bn 0,bn 0,bn 0,.nil,bn 0,.nil] [(0,1,.c (bn 1)),(1,1,.c (bn 0)),(2,4,.t 56)]),aB 58 (.dN 413058 false [bn 0,bn 0,bn 0,.nil,bn 0,.nil,bn 0,bn 0,bn 0,.nil,bn 0,.nil] 6 2 [(0,6,.t 55),(6,6,.t 57)]),E 17 58] (O [aB 59 (.call nI [.c (bn 1),.c (bn 1)]),aB 60 (.build [bn 0,bn 0,bn 0,.nil,bn 0,.nil] [(0,1,.c (bn 0)),(1,1,.c (bn 1)),(2,4,.t 59)]),aB 61 (.call nI [.c (bn 1),.c (bn 1)]),aB 62 (.build [bn 0,bn 0,bn 0,.nil,bn 0,.nil] [(0,1,.c (bn 1)),(1,1,.c (bn 0)),(2,4,.t 61)]),aB 63 (.dN 413063 false [bn 0,bn 0,bn 0,.nil,bn 0,.nil,bn 0,bn 0,bn 0,.nil,bn 0,.nil] 6 2 [(0,6,.t 60),(6,6,.t 62)]),E 18 63] (O [E 65 17,aB 66 (.call EZ [.t 65,.c (bn 2)]),E 64 66,aP 67 0 64,aP 68 1 64,aP 69 2 64,E 19 67,E 20 68,E 21 69] (O [E 71 18,aB 72 (.call EZ [.t 71,.c (bn 2)]),E 70 72,aP 73 0 70,aP 74 1 70,aP 75 2 70,E 22 73,E 23 74,E 24 75] (O [aB 77 (.call nI [.c (bn 10),.c (bn 1)]),aB 78 (.call nI [.c (bn 10),.c (bn 1)]),aB 79 (.dN 413079 false [bn 0,.nil,bn 0,.nil,bn 0,.nil,bn 0,.nil] 4 2 [(0,4,.t 77),(4,4,.t 78)]),aB 80 (.call nI [.c (bn 1),.c (bn 1)]),aB 81 (.call nI [.c (bn 2),.c (bn 1)]),aB 82 (.dN 413082 false [bn 0,.nil,bn 0,.nil,bn 0,.nil,bn 0,.nil] 4 2 [(0,4,.t 80),(4,4,.t 81)]),E 83 17,aB 84 (.build yq [(0,1,.t 79),(1,1,.t 82),(2,1,.t 83)]),c8 85 yp 84,E 76 85,aP 86 0 76,aP 87 1 76,aP 88 2 76,E 25 86,E 26 87,E 27 88] (O [E 89 4,bd 90 .eql 89 0,E 91 90,ev 92 91 1,fB 93 91 (.call nI [.c (bn 1),.c (bn 2)]),fB 94 91 (.call nI [.c (bn 3),.c (bn 1)]),fB 95 91 (.dN 413095 false [bn 0,.nil,bn 0,.nil,bn 0,.nil,bn 0,.nil] 4 2 [(0,4,.t 93),(4,4,.t 94)]),fB 96 91 (.call tH [.t 92,.t 95]),fF 97 91 96,E 98 97,ev 99 98 2,fB 100 98 (.call nI [.c (bn 1),.c (bn 1)]),fB 101 98 (.dN 413101 false cM 4 1 [(0,4,.t 100)]),fB 102 98 (.call tH [.t 99,.t 101]),fF 103 98 102,E 104 103,ev 105 104 3,fB 106 104 (.build [bn 0,bn 0,bn 0,.J (.str []),.nil] [(0,1,.c (bn 1)),(3,1,.c (.J (.str [98,97,115,101])))]),fB 107 104 (.dN 413107 false [bn 0,bn 0,bn 0,.J (.str []),.nil] 5 1 [(0,5,.t 106)]),fB 108 104 (.call S8 [.t 105,.t 107]),fF 109 104 108,E 110 109,ev 111 110 8,kj 112 110 .eql 111 16,fF 113 110 112,E 114 113,ev 115 114 12,kj 116 114 .eql 115 16,fF 117 114 116,E 118 117,ev 119 118 16,kj 120 118 .eql 119 16,fF 121 118 120,E 28 121] (O [E 122 21,bd 123 .eql 122 0,E 124 123,ev 125 124 19,fB 126 124 (.call nI [.c (bn 4),.c (bn 1)]),fB 127 124 (.call nI [.c (bn 3),.c (bn 1)]),fB 128 124 (.dN 413128 false [bn 0,.nil,bn 0,.nil,bn 0,.nil,bn 0,.nil] 4 2 [(0,4,.t 126),(4,4,.t 127)]),fB 129 124 (.call tH [.t 125,.t 128]),fF 130 124 129,E 131 130,ev 132 131 17,ev 133 131 19,fB 134 131 (.call IU [.t 132,.c (bn 2),.t 133]),fF 135 131 134,E 136 135,ev 137 136 24,kj 138 136 .eql 137 16,fF 139 136 138,E 140 139,ev 141 140 23,fB 142 140 (.call nI [.c (bn 1),.c (bn 1)]),fB 143 140 (.call nI [.c (bn 1),.c (bn 1)]),fB 144 140 (.dN 413144 false [bn 0,.nil,bn 0,.nil,bn 0,.nil,bn 0,.nil] 4 2 [(0,4,.t 142),(4,4,.t 143)]),fB 145 140 (.call tH [.t 141,.t 144]),fF 146 140 145,E 29 146] (O [E 147 28,E 148 147,ev 149 148 29,fF 150 148 149,E 151 150,ev 152 151 27,kj 153 151 .eql 152 0,fF 154 151 153,E 155 154,ev 156 155 25,fB 157 155 (.call nI [.c (bn 6),.c (bn 1)]),fB 158 155 (.call nI [.c (bn 5),.c (bn 1)]),fB 159 155 (.dN 413159 false [bn 0,.nil,bn 0,.nil,bn 0,.nil,bn 0,.nil] 4 2 [(0,4,.t 157),(4,4,.t 158)]),fB 160 155 (.call tH [.t 156,.t 159]),fF 161 155 160,E 162 161,ev 163 162 26,fB 164 162 (.dN 413164 false [bn 0] 1 1 [(0,1,.c (bn 1))]),fB 165 162 (.dN 413165 false [bn 0] 1 1 [(0,1,.c (bn 0))]),fB 166 162 (.dN 413166 false [.nil,.nil] 1 2 [(0,1,.t 164),(1,1,.t 165)]),fB 167 162 (.call E1 [.t 163,.t 166]),fF 168 162 167,E 0 168] .ret)))))))))))))
def ahI:bG:=bV 60 2 [.t 4] (O [cm 2 414002 0,cm 3 414003 1,bY 4 false] (.seq (O [aE 6 0 2,aJ 7 1 6,aE 8 0 3,aJ 9 1 8,bt 10 .neq 7 9,E 11 10,fr 12 11 1 2,fA 13 11 1 12,fr 14 11 1 3,fA 15 11 1 14,nK 16 11 .neq 13 15,cF 17 11 16,E 18 17,fr 19 18 2 2,fA 20 18 1 19,fr 21 18 2 3,fA 22 18 1 21,nK 23 18 .neq 20 22,cF 24 18 23,E 25 24,fr 26 25 3 2,fA 27 25 1 26,fr 28 25 3 3,fA 29 25 1 28,nK 30 25 .neq 27 29,cF 31 25 30,E 32 31,fr 33 32 4 2,fA 34 32 1 33,nJ 35 32 34,fr 36 32 4 3,fA 37 32 1 36,nJ 38 32 37,nK 39 32 .neq 35 38,cF 40 32 39] (bQ 40 [bY 4 false])) (.seq (O [ba 5 0] (dU 0 (.seq (O [E 41 5,aE 42 4 2,aJ 43 1 42,cg 44 43,bt 45 .lss 41 44] (de 45 0)) (.seq (.block 1 (e3 [aE 48 4 2,aJ 49 1 48,E 50 5,bE 51 5 49 50,aD 52 5 51,aE 53 4 3,aJ 54 1 53,E 55 5,bE 56 5 54 55,aD 57 5 56,bK 58 Nv 52 57,dT 59 58] ZV (bQ 59 [bY 4 false]))) (.ops [E 46 5,bd 47 .add 46 1,E 5 47]))))) (O [bY 4 true] .ret))))
def LJ:List UInt8:=[98,97,115,101,32,43,32,114,97,116,101,32,99,32,47,32,50,32,43,32,114,97,116,101,32,100,32,42,32,51]
def LK:List UInt8:=[49,32,45,32,114,97,116,101,32,99]
def LL:List UInt8:=[114,97,116,101,32,99,32,42,32,114,97,116,101,32,99]
def LM:List UInt8:=[102,97,99,116,32,97,32,45,32,102,97,99,116,32,98,32,43,32,114,97,116,101,32,99]
def LN:Data:=.dq [.ar [[.int .i64 1,.ar [[.int .i64 1]],.int .i64 1,.ar [[.int .i64 2]]],[.int .i64 1,.ar [[.int .i64 3]],.int .i64 1,.ar [[.int .i64 1]]]],.ar [[.int .i64 1,.ar [[.int .i64 1]],.int .i64 1,.ar [[.int .i64 1]]]],.ar [[.int .i64 1,.int .i64 0,.int .i64 0,.str [98,97,115,101],.ar []]],.int .i64 0]
def v3:Data:=.dq [.ar [],.ar [],.ar [],.int .i64 16]
open Classical in
def v5:List Data->Option dj:=λds=>if ds=[.str LJ] then some (.same LN) else if ds=[.str LK]\/ds=[.str LL]\/ds=[.str LM] then some (.same v3) else none
def auC:v5 [.str LJ]=some (.same LN):=by unfold v5;rw[aL rfl]
def auD:v5 [.str LK]=some (.same v3):=by
 unfold v5;rw[aT (λh=>by simp only[bl,Data.str.injEq] at h;exact absurd h.1 (by decide)),aL (.inl rfl)]
def auE:v5 [.str LL]=some (.same v3):=by
 unfold v5;rw[aT (λh=>by simp only[bl,Data.str.injEq] at h;exact absurd h.1 (by decide)),aL (.inr (.inl rfl))]
def auF:v5 [.str LM]=some (.same v3):=by
 unfold v5;rw[aT (λh=>by simp only[bl,Data.str.injEq] at h;exact absurd h.1 (by decide)),aL (.inr (.inr rfl))]
def LO:=bI wL λ(p,q)=>ca (dY p/\dY q) (.same (.agg (av (ie (bb p) (bb q)).1)))
@[go_sem] def auG (p q):=cl LO rfl NG (p,q) rfl
def auH (T:bj)(WU:T IC=aG Lf):WF T ahG LO:=by
 refine b7 λ(p,q)=>cq λY=>⟨rfl,b6 ?_⟩;simp only[ahG,wL,bX];generalize hd:ie (bb p) (bb q)=N at *;obtain⟨⟨⟨a,b⟩,⟨c,d⟩⟩,e⟩:=N;refine ah ?_;repeat' (intro h<;>simp only[h,go_sem,go_sem_proc,WU,Y,hd,cR,av]<;>try refine ae ?_ ?_)
abbrev QS:Int×Int×Int×(List UInt8)->List Data:=λ(a,b,c,s)=>[.agg [.int .i64 a,.int .i64 b,.int .i64 c,.str s,.ar []],.agg [.int .i64 a,.int .i64 b,.int .i64 c,.str s,.ar []]]
def QT:=bI QS λ(a,b,c,s)=>some (.same (.bool true))
def auI:∀a b,QS a=QS b->a=b:=by
  rintro⟨dx,bT,ck,s1⟩ ⟨dW,cB,dC,s2⟩ h;simp only[bl,Data.int.injEq,Data.agg.injEq,Data.ar.injEq,Data.bool.injEq,Data.str.injEq,Data.ptr.injEq,Data.dq.injEq,eM,true_and,and_true] at h ⊢
  first|exact h|simpa [I2,and_assoc] using h|grind
@[go_sem] def auJ (a b c s):=sm QT rfl auI (a,b,c,s) rfl
def auK (T:bj):WF T ahI QT:=by
 refine b7 λ(a,b,c,s)=>⟨rfl,b6 ?_⟩;simp only[ahI,QS,bX];simp only[go_sem,go_sem_proc,beq_self_eq_true,bne,c2,mV];refine cX [2,3] [414002,414003] (λ(i:Nat) tm mem=>tm 5=.J (.int .i64 0)) (λi=>i) 0 rfl ?_;intro vs ms aK aF;simp only[go_sem,go_sem_proc] at aK aF;subst aK aF;rintro i tm mem R hm bw;simp only[go_sem,go_sem_proc,bl] at R hm;obtain⟨c5,ej⟩:=R;obtain⟨b0,fJ⟩:=hm;refine ah ?_;repeat' (intro h<;>simp only[h,go_sem,go_sem_proc,c5,ej,bw,b0,fJ,mV,show decide ((0:Int)<((0:Nat):Int))=false from rfl]<;>try refine ae ?_ ?_)
abbrev QU:Int×Int×Int×(List UInt8)->List Data:=λ(a,b,c,s)=>[.ar [[.int .i64 a,.int .i64 b,.int .i64 c,.str s,.ar []]],.ar [[.int .i64 a,.int .i64 b,.int .i64 c,.str s,.ar []]]]
def QV:=bI QU λ(a,b,c,s)=>some (.same (.bool true))
def auL:∀a b,QU a=QU b->a=b:=by
  rintro⟨dx,bT,ck,s1⟩ ⟨dW,cB,dC,s2⟩ h;simp only[bl,Data.int.injEq,Data.agg.injEq,Data.ar.injEq,Data.bool.injEq,Data.str.injEq,Data.ptr.injEq,Data.dq.injEq,eM,true_and,and_true] at h ⊢
  first|exact h|simpa [I2,and_assoc] using h|grind
@[go_sem] def auM (a b c s):=sm QV rfl auL (a,b,c,s) rfl
def auN (T:bj)(LP:T Nv=aG QT):WF T agv QV:=by
 refine b7 λ(a,b,c,s)=>⟨rfl,b6 ?_⟩;simp only[agv,QU,bX];have ek:=auJ a b c s;simp only[go_sem,go_sem_proc,LP,beq_self_eq_true,bne,c2];refine cX [0,1] [] (λ(i:Nat) tm mem=>i<=1/\tm 5=.J (.int .i64 i)) (λi=>1-i) 0 ⟨by omega,rfl⟩ ?_
 intro vs ms aK aF;simp only[go_sem,go_sem_proc,LP,] at aK aF;subst aK aF;rintro i tm mem R hm ⟨ab,bw⟩;simp only[go_sem,go_sem_proc,LP,bl] at R;obtain⟨er,bo⟩:=R;rcases du (i<1) with aq|bD
 ·have au:i=0:=by omega
  subst au;refine ah ?_;repeat' (intro h<;>simp only[h,go_sem,go_sem_proc,LP,er,bo,bw,ek,show decide (((0:Nat):Int)<((1:Nat):Int))=true from rfl]<;>try refine ae ?_ ?_)
  exact⟨1,by omega,by omega,rfl⟩
 ·have au:i=1:=by omega
  subst au;refine ah ?_;repeat' (intro h<;>simp only[h,go_sem,go_sem_proc,LP,er,bo,bw,show decide (((1:Nat):Int)<((1:Nat):Int))=false from rfl]<;>try refine ae ?_ ?_)
end Go.Mini
namespace Go.Mini
open Go Go.Proofs
set_option maxRecDepth 100000 in
def auO:C9 Tryz.prog [45] [169,239,48,50] AR 1000 oS [.J (.str LJ)]=some LN:=by kernel_rfl
def auP:hY Tryz.prog oS (λds=>@ite _ (ds=[.str LJ]) (QW _) (some (.same LN)) none):=Pw _ _ auO
end Go.Mini
namespace Go.Mini
open Go Go.Proofs
set_option maxRecDepth 100000 in
def auQ:C9 Tryz.prog [45] [169,239,48,50] AR 1000 oS [.J (.str LK)]=some v3:=by kernel_rfl
def auR:hY Tryz.prog oS (λds=>@ite _ (ds=[.str LK]) (QW _) (some (.same v3)) none):=Pw _ _ auQ
end Go.Mini
namespace Go.Mini
open Go Go.Proofs
set_option maxRecDepth 100000 in
def auS:C9 Tryz.prog [45] [169,239,48,50] AR 1000 oS [.J (.str LL)]=some v3:=by kernel_rfl
def auT:hY Tryz.prog oS (λds=>@ite _ (ds=[.str LL]) (QW _) (some (.same v3)) none):=Pw _ _ auS
end Go.Mini
namespace Go.Mini
open Go Go.Proofs
set_option maxRecDepth 100000 in
def auU:C9 Tryz.prog [45] [169,239,48,50] AR 1000 oS [.J (.str LM)]=some v3:=by kernel_rfl
def auV:hY Tryz.prog oS (λds=>@ite _ (ds=[.str LM]) (QW _) (some (.same v3)) none):=Pw _ _ auU
end Go.Mini
namespace Go.Mini
open Go Go.Proofs
def auW:hY Tryz.prog oS v5:=⟨aeN,λds r ek=>by
 unfold v5 at ek
 split at ek
 ·rename_i e
  cases ek;exact auP.run ds _ (aL e)
 ·split at ek
  ·rename_i e
   cases ek;rcases e with e|e|e
   ·exact auR.run ds _ (aL e)
   ·exact auT.run ds _ (aL e)
   ·exact auV.run ds _ (aL e)
  ·cases ek⟩
end Go.Mini
namespace Go.Mini
open Go
abbrev ji (p q:Int):ax:=((1,[p]),(1,[q]))
def Bd {p q a b:Int}(F:dY p)(G:dY q)(h:ie (bb p) (bb q)=(ji a b,0)):LO [.int .i64 p,.int .i64 q]=some (.same (.agg [.int .i64 1,.ar [[.int .i64 a]],.int .i64 1,.ar [[.int .i64 b]]])):=by
 rw[auG p q ⟨F,G⟩,h]
 rfl
def zv:List cn:=[(0,1,ji 1 2),(1,0,ji 1 1)]
def LQ:List cn:=[(0,1,ji 1 1),(1,0,ji 1 1)]
def Xx:qQ zv:=⟨by decide,λx L=>by
 simp only[zv,kt,LR,or_false] at L;rcases L with rfl|rfl<;>exact⟨by decide,by decide⟩⟩
def auX:qQ LQ:=⟨by decide,λx L=>by
 simp only[LQ,kt,LR,or_false] at L;rcases L with rfl|rfl<;>exact⟨by decide,by decide⟩⟩
def DQ (a b c d:Int):ih [ji a b,ji c d]:=⟨by simp,λx L=>by
 simp only[kt,LR,or_false] at L;rcases L with rfl|rfl<;>exact⟨by simp[ji],by simp[ji]⟩⟩
def auY (a b:Int):ih [ji a b]:=⟨by simp,λx L=>by
 simp only[kt,LR,or_false] at L;subst L;exact⟨by simp[ji],by simp[ji]⟩⟩
def zw {l:List ax}(h:ih l):GW [.ar (l.map av),.ar (l.map av)]=some (.same (.bool true)):=by
 rw[asX l l ⟨h,h⟩,show Lk l l=true from mL rfl]
abbrev QX:Unit->List Data:=λ(_:Unit)=>[]
def QY:=bI QX λ(_:Unit)=>some (.same (.bool true))
def auZ:∀a b,QX a=QX b->a=b:=by
  intro _ _ _;rfl
@[go_sem] def au0:=sm QY rfl auZ () rfl
def au1 (T:bj)(au2:T oS=aG v5)(au3:T nI=aG LO)(DR:T tH=aG GW)(au4:T S8=aG QV)(DS:T EZ=aG K2)(DT:T IU=aG KX)(fS:T yp=aG Dj)(DU:T E1=aG Ln):WF T ahH QY:=by
 refine b7 λ_=>⟨rfl,b6 ?_⟩;simp only[ahH,QX,bX];have hZ:=auC;have Z:=auD;have b1:=auE;have bZ:=auF;have au5:=Bd (p:=1) (q:=2) (a:=1) (b:=2) (by unfold dY;omega) (by unfold dY;omega) (by decide +kernel);have au6:=Bd (p:=1) (q:=1) (a:=1) (b:=1) (by unfold dY;omega) (by unfold dY;omega) (by decide +kernel);have au7:=Bd (p:=10) (q:=1) (a:=10) (b:=1) (by unfold dY;omega) (by unfold dY;omega) (by decide +kernel);have jK:=Bd (p:=2) (q:=1) (a:=2) (b:=1) (by unfold dY;omega) (by unfold dY;omega) (by decide +kernel);have pd:=Bd (p:=3) (q:=1) (a:=3) (b:=1) (by unfold dY;omega) (by unfold dY;omega) (by decide +kernel);have pe:=Bd (p:=4) (q:=1) (a:=4) (b:=1) (by unfold dY;omega) (by unfold dY;omega) (by decide +kernel);have au8:=Bd (p:=5) (q:=1) (a:=5) (b:=1) (by unfold dY;omega) (by unfold dY;omega) (by decide +kernel);have au9:=Bd (p:=6) (q:=1) (a:=6) (b:=1) (by unfold dY;omega) (by unfold dY;omega) (by decide +kernel);have Xy:=Wy zv 2 Xx;rw[show xw zv 2=([ji 4 1,ji 3 1],[],0) by decide +kernel] at Xy
 have Xz:=Wy LQ 2 auX;rw[show xw LQ 2=([],[ji 1 1,ji 1 1],16) by decide +kernel] at Xz
 have XA:=afe zv 2 [ji 4 1,ji 3 1] ⟨Xx,DQ _ _ _ _⟩;rw[show GD zv 2 [ji 4 1,ji 3 1]=true by decide +kernel] at XA
 have v:=PG [ji 10 1,ji 10 1] [ji 1 1,ji 2 1] zv ⟨DQ _ _ _ _,DQ _ _ _ _,Xx⟩;rw[show l7 [ji 10 1,ji 10 1] [ji 1 1,ji 2 1] zv=([ji 6 1,ji 5 1],[[1],[0]],0) by decide +kernel] at v
 have s1:=zw (DQ 1 2 3 1);have s2:=zw (auY 1 1);have bU:=zw (DQ 4 1 3 1);have bW:=zw (DQ 1 1 1 1);have OO:=zw (DQ 6 1 5 1);have ex:=auM 1 0 0 [98,97,115,101]
 have ed:G3 [[1],[0]]:=⟨by decide,λx L=>by
  simp only[kt,LR,or_false] at L;rcases L with rfl|rfl<;>decide⟩
 have rI:=WX [[1],[0]] [[1],[0]] ⟨ed,ed⟩;rw[beq_self_eq_true] at rI;simp only[LJ,LK,LL,LM,LN,v3] at hZ Z b1 bZ;simp only[ji,zv,LQ,rM,l8,p7,nx,av,aI,fh,g0,bP,show ((1:Nat):Int)=1 from rfl,show ((0:Nat):Int)=0 from rfl] at Xy Xz XA v s1 s2 bU bW OO rI;refine ah ?_;repeat' (intro h<;>simp only[h,go_sem,go_sem_proc,au2,au3,DR,au4,DS,DT,fS,DU,hZ,Z,b1,bZ,au5,au6,au7,jK,pd,pe,au8,au9,Xy,Xz,XA,v,s1,s2,bU,bW,OO,ex,rI,beq_self_eq_true]<;>try refine ae ?_ ?_)
abbrev pv:=Nat->Nat->Rat
def lP (A:pv)(r s:Nat):pv:=λi=>if i=s then A r else if i=r then A s else A i
def Be (A:pv)(r c s:Nat):pv:=λi k=>if i=r then lP A r s r k/lP A r s r c else lP A r s i k-lP A r s i c*(lP A r s r k/lP A r s r c)
def ahJ (A:pv)(r s:Nat):lP A r s r=A s:=by
 unfold lP
 by_cases h:r=s
 ·simp[h]
 ·simp[h]
structure Hf (N:Nat) (a5:pv) (p c:Nat) (uw:Nat->Nat):Prop where
 qw:p<=c
 lt:∀j,j<p->uw j<c
 unit:∀j,j<p->∀i,i<N->a5 i (uw j)=if i=j then 1 else 0
 zero:∀i,p<=i->i<N->∀k,k<c->a5 i k=0
def Hf.free {N p c:Nat}{a5:pv}{uw:Nat->Nat}(h:Hf N a5 p c uw)(a2:∀i,p<=i->i<N->a5 i c=0):Hf N a5 p (c+1) uw :=
 ⟨by have:=h.qw;omega,λj aa=>by have:=h.lt j aa;omega,h.unit,λi ab hd k R=>by
  by_cases K5:k=c
  ·rw[K5];exact a2 i ab hd
  ·exact h.zero i ab hd k (by omega)⟩
def Hf.OT {N p c s:Nat}{a5:pv}{uw:Nat->Nat}(h:Hf N a5 p c uw)(aR:p<N)(Q:p<=s)(A7:s<N)(bq:a5 s c≠0):Hf N (Be a5 p c s) (p+1) (c+1) (λj=>if j=p then c else uw j):=by
 have cW:∀i,i<N->∃a3,a3<N/\lP a5 p s i=a5 a3/\(i<p->a3=i)/\(p<=i->p<=a3):=by
  intro i ab;unfold lP
  by_cases F:i=s
  ·exact⟨p,aR,by rw[aL F],by omega,by omega⟩
  ·by_cases G:i=p
   ·exact⟨s,A7,by rw[aT F,aL G],by omega,by omega⟩
   ·exact⟨i,ab,by rw[aT F,aT G],by omega,by omega⟩
 have ahK:lP a5 p s p c≠0:=by rw[ahJ];exact bq
 have a2:∀i,p<=i->i<N->∀k,k<c->lP a5 p s i k=0:=by
  intro i ab hd k R;obtain⟨a3,F,G,-,aZ⟩:=cW i hd;rw[G];exact h.zero a3 (aZ ab) F k R
 refine⟨by have:=h.qw;omega,λj aa=>?_,λj aa i ab=>?_,λi ab hd k R=>?_⟩
 ·show (if j=p then c else uw j)<c+1
  split
  ·omega
  ·have:=h.lt j (by omega);omega
 ·unfold Be
  by_cases ahL:j=p
  ·simp only[ahL,if_true]
   by_cases xC:i=p
   ·rw[aL xC,aL xC];grind
   ·rw[aT xC,aT xC];grind
  ·simp only[ahL,if_false];have kf:j<p:=by omega
   have aQ:lP a5 p s p (uw j)=0:=a2 p (c9 _) aR _ (h.lt j kf);rw[aQ]
   by_cases xC:i=p
   ·rw[aL xC,aT (by omega)];grind
   ·rw[aT xC];obtain⟨a3,F,G,ad,aZ⟩:=cW i ab;rw[G,h.unit j kf a3 F];rcases gY i p with aq|bD
    ·rw[ad aq];grind
    ·rw[aT (by have:=aZ bD;omega),aT (by omega)];grind
 ·unfold Be;rw[aT (by omega)]
  by_cases K5:k=c
  ·subst K5;grind
  ·rw[a2 i (by omega) hd k (by omega),a2 p (c9 _) aR k (by omega)];grind
def ext (N:Nat)(y:Nat->Rat)(z:Rat):Nat->Rat:=λk=>if k<N then y k else z
def rR (N:Nat)(l:List ax)(q:Nat->Rat):Prop:=l=((qj (N+1)).map q).map ee/\∀k,k<=N->ns (q k)
def LS (N:Nat)(rows:List dn)(a5:pv):Prop:=D rows=N/\∀(i:Nat) x,rows[i]?=some x->rR N x.2.2 (a5 i)
def rR.get {N:Nat}{l:List ax}{q:Nat->Rat}(h:rR N l q){k:Nat}(R:k<=N):l[k]?=some (ee (q k)):=by
 rw[h.1,bg,bg,r3 (by omega)]
 rfl
def rR.len {N:Nat}{l:List ax}{q:Nat->Rat}(h:rR N l q):(D l)=N+1:=by rw[h.1];simp
def rR.ava {N:Nat}{l:List ax}{q:Nat->Rat}(ag:(D l)=N+1)(h:∀k,k<=N->l[k]?=some (ee (q k))/\ns (q k)):rR N l q:=by
 refine⟨?_,λk R=>(h k R).2⟩;apply qm;intro k;rcases gY k (N+1) with R|R
 ·rw[(h k (by omega)).1,bg,bg,r3 R];rfl
 ·rw[lk (by omega),lk (by simp;omega)]
def rR.congr {N:Nat}{l:List ax}{q TI:Nat->Rat}(h:rR N l q)(aU:∀k,k<=N->q k=TI k):rR N l TI :=
 rR.ava h.len λk R=>by rw[<-aU k R];exact⟨h.get R,h.2 k R⟩
def rR.cell {N:Nat}{x:dn}{q:Nat->Rat}(h:rR N x.2.2 q){k:Nat}(R:k<=N):cellOf x k=ee (q k):=UE (h.get R)
def ahM (lG a b:Rat):Bool:=Ui lG b&&FE a (-(lG*b))
def LS.row {N:Nat}{rows:List dn}{a5:pv}(h:LS N rows a5){i:Nat}(ab:i<N):∃x,rows[i]?=some x/\rowAt rows i=x/\rR N x.2.2 (a5 i):=by
 obtain⟨x,L⟩:∃x,rows[i]?=some x:=⟨_,bf (by have:=h.1;omega)⟩;exact⟨x,L,rA L,h.2 i x L⟩
def LS.swap {N:Nat}{rows:List dn}{a5:pv}(h:LS N rows a5){r s:Nat}(M:r<N)(Q:s<N):LS N (mC rows r s) (lP a5 r s):=by
 obtain⟨x,L,ex,Qq⟩:=h.row M;obtain⟨y,ak,xO,avb⟩:=h.row Q;unfold mC;rw[ex,xO];refine⟨by rw[fk,fk];exact h.1,λi z a2=>?_⟩
 rw[lF,lF,fk] at a2;unfold lP
 by_cases F:s=i
 ·rw[aL F,aL (by have:=h.1;omega)] at a2
  cases a2;rw[aL F.symm];exact Qq
 ·rw[aT F] at a2;rw[aT (Ne.symm F)]
  by_cases G:r=i
  ·rw[aL G,aL (by have:=h.1;omega)] at a2
   cases a2;rw[aL G.symm];exact avb
  ·rw[aT G] at a2;rw[aT (Ne.symm G)];exact h.2 i z a2
def avc (N:Nat)(S:pv)(r c:Nat):Prop:=(∀k,k<=N->Uj (S r k) (S r c)=true)/\∀i,i<N->i≠r->S i c≠0->∀k,k<=N->ahM (S i c) (S i k) (S r k/S r c)=true
def ahN {f:ax}(h:cA f=true):f=ee (yR f)/\ns (yR f):=by
 obtain⟨x,L,rfl⟩:=(At _).1 h;rw[anl];exact⟨rfl,L⟩
def ti (N:Nat)(q:Nat->Rat)(b:Nat):Prop:=∃(v:Nat->Int) (d:Int),d≠0/\d.natAbs<=2^b/\∀k,k<=N->q k*(d:Rat)=(v k:Rat)/\(v k).natAbs<=2^b
def ti.mono {N a b:Nat}{q:Nat->Rat}(h:ti N q a)(mK:a<=b):ti N q b:=by
 obtain⟨v,d,F,G,ad⟩:=h;have aR:2^a<=2^b:=An (by omega) mK;exact⟨v,d,F,iG G aR,λk R=>⟨(ad k R).1,iG (ad k R).2 aR⟩⟩
def avd {q:Rat}{v d:Int}(af:d≠0)(h:q*(d:Rat)=(v:Rat)):q.num*d=v*q.den:=by
 have mP:(d:Rat)≠0:=by rw[Ne,XB];exact af
 have e:q=lA v d:=by rw[ahO];grind
 have az:lA q.num q.den=lA v d:=by rw[Rat.num_divInt_den];exact e
 exact (Rat.divInt_eq_divInt_iff (Cy q) af).1 az
def ahP {q:Rat}{v d:Int}(af:d≠0)(h:q*(d:Rat)=(v:Rat)):q.num.natAbs<=v.natAbs/\q.den<=d.natAbs:=by
 have Y:=avd af h
 have uV:q.num.natAbs*d.natAbs=v.natAbs*q.den:=by
  have:=congrArg Int.natAbs Y;rwa [yG,yG,nr] at this
 have zL:q.den∣d.natAbs:=(Nat.Coprime.symm q.reduced).dvd_of_dvd_mul_left ⟨v.natAbs,by rw[uV,yf]⟩
 have TY:0<d.natAbs:=by omega
 have G:=Nat.le_of_dvd TY zL;refine⟨?_,G⟩;obtain⟨m,hm⟩:=zL;rw[hm] at uV;have T2:=q.den_pos
 have ad:q.num.natAbs*m=v.natAbs:=by
  have:q.den*(q.num.natAbs*m)=q.den*v.natAbs:=by rw[yf q.den v.natAbs,<-uV];rw[Nat.mul_left_comm]
  exact Nat.eq_of_mul_eq_mul_left T2 this
 have oK:0<m:=by
  rcases Nat.eq_zero_or_pos m with au|au
  ·rw[au,Nat.mul_zero] at hm;omega
  ·exact au
 rw[<-ad];exact Nat.le_mul_of_pos_right _ oK
def kO (b:Nat)(q:Rat):Prop:=q.num.natAbs<=2^b/\q.den<=2^b
def ti.sz {N b:Nat}{q:Nat->Rat}(h:ti N q b){k:Nat}(R:k<=N):kO b (q k):=by
 obtain⟨v,d,F,G,ad⟩:=h;obtain⟨aQ,az⟩:=ad k R;obtain⟨f1,f2⟩:=ahP F aQ;exact⟨iG f1 az,iG f2 G⟩
def ave (a b c:Nat)(h:a=2^b):a^c=2^(b*c):=by rw[h,<-Nat.pow_mul]
def avf:∃B:Nat,B=1200/\cY=2^B:=⟨20*60,rfl,ave 1048576 20 60 (by decide)⟩
def Bf {z:Int}{b:Nat}(h:z.natAbs<=2^b)(U:b<1200):iD z=true:=by
 obtain⟨B,n9,gA⟩:=avf;unfold iD;rw[gA,decide_eq_true_eq];exact Nat.lt_of_le_of_lt h (ahQ (by omega) (by omega))
def qY {x y:Int}{a b:Nat}(L:x.natAbs<=2^a)(ak:y.natAbs<=2^b):(x*y).natAbs<=2^(a+b):=by
 rw[yG,Nat.pow_add];exact Nat.mul_le_mul L ak
def XC {x y:Int}{a:Nat}(L:x.natAbs<=2^a)(ak:y.natAbs<=2^a):(x+y).natAbs<=2^(a+1):=by
 have:=Int.natAbs_add_le x y;rw[Nat.pow_succ];omega
def kO.mono {a b:Nat}{q:Rat}(h:kO a q)(mK:a<=b):kO b q:=by
 have aR:2^a<=2^b:=An (by omega) mK;exact⟨iG h.1 aR,iG h.2 aR⟩
def avg {x y:Rat}{a b:Nat}(L:kO a x)(ak:kO b y)(h:a+b<1200):Ui x y=true:=by
 unfold Ui;rw[ff];exact⟨Bf (qY L.1 ak.1) h,Bf (qY (x:=(x.den:Int)) (y:=(y.den:Int)) (by simpa using L.2) (by simpa using ak.2)) h⟩
def avh {x y:Rat}{a b:Nat}(L:kO a x)(ak:kO b y)(h:a+b<1200):Uj x y=true:=by
 unfold Uj;rw[ff];exact⟨Bf (qY (y:=(y.den:Int)) L.1 (by simpa using ak.2)) h,Bf (qY (x:=(x.den:Int)) (by simpa using L.2) ak.1) h⟩
def ahR {x y:Rat}{a b:Nat}(L:kO a x)(ak:kO b y)(h:a+b+1<1200):FE x y=true:=by
 unfold FE;have F:=qY (y:=(y.den:Int)) L.1 (by simpa using ak.2);have G:=qY (y:=(x.den:Int)) ak.1 (by simpa using L.2);rw[Hj b a] at G;simp only[ff];exact⟨Bf F (by omega),Bf G (by omega),Bf (XC F G) h,Bf (qY (x:=(x.den:Int)) (y:=(y.den:Int)) (by simpa using L.2) (by simpa using ak.2)) (by omega)⟩
def XD {b:Nat}{q:Rat}(h:kO b q):kO b (-q):=⟨by rw[Rat.neg_num,rr];exact h.1,h.2⟩
def ahS {p q:Int}{b:Nat}(F:p.natAbs<=2^b)(G:q.natAbs<=2^b)(aU:q≠0):kO b (lA p q):=by
 have aBY:(q:Rat)≠0:=by rw[Ne,XB];exact aU
 have:=ahP (q:=lA p q) (v:=p) aU (by rw[ahO];grind);exact⟨iG this.1 F,iG this.2 G⟩
def avi {x y:Rat}{a b:Nat}(L:kO a x)(ak:kO b y):kO (a+b) (x*y):=by
 rw[<-anS];exact ahS (qY L.1 ak.1) (qY (x:=(x.den:Int)) (y:=(y.den:Int)) (by simpa using L.2) (by simpa using ak.2)) (XE (Cy x) (Cy y))
def avj {x y:Rat}{a b:Nat}(L:kO a x)(ak:kO b y):kO (a+b+1) (x+y):=by
 rw[<-abZ];have F:=qY (y:=(y.den:Int)) L.1 (by simpa using ak.2);have G:=qY (y:=(x.den:Int)) ak.1 (by simpa using L.2);rw[Hj b a] at G;have ad:=qY (x:=(x.den:Int)) (y:=(y.den:Int)) (a:=a) (b:=b) (by simpa using L.2) (by simpa using ak.2);exact ahS (XC F G) (iG ad (An (by omega) (by omega))) (XE (Cy x) (Cy y))




def avk {f:ax}(h:pq f 1=true):f.1.2.length<=1/\f.2.2.length<=1:=by
 unfold pq at h;simp only[ff,decide_eq_true_eq] at h;omega
def zx:Nat->Nat
 |0=>80
 |p+1=>2*zx p+1
def QZ:Nat->Nat
 |0=>0
 |p+1=>QZ p+zx p+1
def Bg (N:Nat)(a5:pv)(p:Nat):Prop:=∀i,i<N->ti N (a5 i) (if i<p then QZ p else zx p)
def ti.div {N b r c:Nat}{S:pv}(h:ti N (S r) b)(Y:c<=N)(bq:S r c≠0):ti N (λk=>S r k/S r c) b:=by
 obtain⟨v,d,F,G,ad⟩:=h;obtain⟨aQ,az⟩:=ad c Y;have mP:(d:Rat)≠0:=by rw[Ne,XB];exact F
 have ao:v c≠0:=by
  intro au;rw[au,Rat.intCast_zero] at aQ;rcases Rat.mul_eq_zero.1 aQ with h|h
  ·exact bq h
  ·exact mP h
 refine⟨v,v c,ao,az,λk R=>⟨?_,(ad k R).2⟩⟩;rw[<-(ad k R).1,<-aQ];grind
def ti.elim {N a b c:Nat}{q p:Nat->Rat}(h:ti N q a)(aR:ti N p b)(Y:c<=N):ti N (λk=>q k-q c*p k) (a+b+1):=by
 obtain⟨v,d,F,G,ad⟩:=h;obtain⟨w,e,cJ,cQ,gU⟩:=aR;have hle:2^(a+b)<=2^(a+b+1):=An (by omega) (by omega);refine⟨λk=>v k*e-v c*w k,d*e,XE F cJ,iG (qY G cQ) hle,λk R=>⟨?_,?_⟩⟩
 ·rw[Rat.intCast_sub,XF,XF,XF,<-(ad k R).1,<-(ad c Y).1,<-(gU k R).1];grind
 ·have aY:=qY (ad k R).2 cQ;have b0:=qY (ad c Y).2 (gU k R).2;have fJ:(-(v c*w k)).natAbs<=2^(a+b):=by rw[rr];exact b0
  have:=XC aY fJ;rwa [<-Int.sub_eq_add_neg] at this
def Bg.swap {N p s:Nat}{a5:pv}(h:Bg N a5 p)(aR:p<N)(Q:p<=s)(A7:s<N):Bg N (lP a5 p s) p:=by
 intro i ab;unfold lP
 by_cases F:i=s
 ·rw[aL F];have:=h p aR;rw[aT (by omega)] at this ⊢;exact this
 ·rw[aT F]
  by_cases G:i=p
  ·rw[aL G];have:=h s A7;rw[aT (by omega)] at this ⊢;exact this
  ·rw[aT G];exact h i ab
def Bg.OT {N p c s:Nat}{a5:pv}(h:Bg N a5 p)(aR:p<N)(Q:p<=s)(A7:s<N)(Y:c<=N)(bq:a5 s c≠0):Bg N (Be a5 p c s) (p+1):=by
 have cW:=h.swap aR Q A7;have ahK:lP a5 p s p c≠0:=by rw[ahJ];exact bq
 have zs:=cW p aR;rw[aT (by omega)] at zs;have dV:=zs.div Y ahK;intro i ab
 by_cases xC:i=p
 ·rw[aL (by omega)];have:Be a5 p c s i=λk=>lP a5 p s p k/lP a5 p s p c:=by funext k;unfold Be;rw[aL xC]
  rw[this];exact dV.mono (by show zx p<=QZ p+zx p+1;omega)
 ·have:Be a5 p c s i=λk=>lP a5 p s i k-lP a5 p s i c*(lP a5 p s p k/lP a5 p s p c):=by funext k;unfold Be;rw[aT xC]
  rw[this];have:=(cW i ab).elim dV Y
  by_cases aq:i<p
  ·rw[aL aq] at this;rw[aL (by omega)];exact this
  ·rw[aT aq] at this;rw[aT (by omega)];exact this.mono (by show zx p+zx p+1<=2*zx p+1;omega)
def Bg.ok {N p c:Nat}{S:pv}(h:Bg N S p)(aR:p<N)(abl:p<3)(Y:c<=N)(bq:S p c≠0):avc N S p c:=by
 have U:∀i,i<N->∀k,k<=N->kO 323 (S i k):=by
  intro i ab k R;refine ((h i ab).sz R).mono ?_
  have:zx p<=323/\QZ p<=243:=by
   rcases p with _|_|_|p
   ·decide
   ·decide
   ·decide
   ·omega
  split<;>omega
 have dV:∀k,k<=N->kO 323 (S p k/S p c):=by
  intro k R;have zs:=h p aR;rw[aT (by omega)] at zs;refine ((zs.div Y bq).sz R).mono ?_;rcases p with _|_|_|p
  ·decide
  ·decide
  ·decide
  ·omega
 refine⟨λk R=>avh (U p aR k R) (U p aR c Y) (by omega),λi ab _ _ k R=>?_⟩;unfold ahM;rw[ff];exact⟨avg (U i ab c Y) (dV k R) (by omega),ahR (U i ab k R) (XD (avi (U i ab c Y) (dV k R))) (by omega)⟩
def avl {f:ax}(M:cA f=true)(al:pq f 1=true):kO 20 (yR f):=by
 obtain⟨e,F,G⟩:=ahN M;obtain⟨cJ,cQ⟩:=avk al;rw[e] at cJ cQ;have bo:=fY.1 (show (aH (yR f).num.natAbs).length<=1 from cJ);have c5:=fY.1 (show (aH ((yR f).den:Int).natAbs).length<=1 from cQ);rw[nr] at c5;have qF:(1048576:Nat)^1=2^20:=by decide
 rw[qF] at bo c5;exact⟨ahT bo,ahT c5⟩
def ahU {f:ax}(h:pq f 1=true):okF f:=by
 unfold pq at h;simp only[ff,decide_eq_true_eq] at h;exact⟨by omega,by omega⟩
def avm {l:List ax}{n:Int}(h:qU l n 1=true):(D l:Int)<=n/\∀f∈l,pq f 1=true:=by
 unfold qU at h;simp only[ff,decide_eq_true_eq,kA] at h;exact h
def XG {l:List ax}(h:qU l 4 1=true):ih l:=by
 obtain⟨F,G⟩:=avm h;exact⟨by omega,λf al=>ahU (G f al)⟩
def ahV {ls:List cn}(h:vW ls=true):(D ls)<=10/\∀l∈ls,pq l.2.2 1=true:=by
 unfold vW at h;simp only[ff,decide_eq_true_eq,kA] at h;exact⟨by omega,h.2⟩
def avn {ls:List cn}(h:vW ls=true):qQ ls:=by
 obtain⟨F,G⟩:=ahV h;exact⟨by omega,λl ag=>ahU (G l ag)⟩
def ahW {cap base:List ax}{ls:List cn}(h:GX cap base ls=true):qU cap 4 1=true/\qU base 4 1=true/\vW ls=true:=by
 unfold GX at h;simp only[ff] at h;exact h
def avo {cap base:List ax}{ls:List cn}(h:GX cap base ls=true):ox cap base ls:=by
 obtain⟨F,G,ad⟩:=ahW h;exact⟨XG F,XG G,avn ad⟩
def ahX {b:Nat}{q:Rat}(h:kO b q)(U:b<1200):ns q:=by
 have:=ahQ (a:=2) (by omega) U;have gA:cY=2^1200:=by decide +kernel
 refine⟨?_,?_⟩
 ·have:=h.1;rw[gA];omega
 ·have:=h.2;rw[gA];omega
def XH (to:Int):∀(ls:List cn) (A:List ax) (m:Nat),(∀l∈ls,cA l.2.2=true/\pq l.2.2 1=true/\l.1.toNat<D A)->(∀f∈A,∃q,f=ee q/\kO m q)->m+21*D ls<1200->(n0 to ls A).2=true
 | [],_,_,_,_,_=>rfl
 |l::r,A,m,ag,fa,hm=>by
  rw[List.length_cons] at hm;unfold n0;obtain⟨M,al,aq⟩:=ag l (by simp);have nD:∀x∈r,cA x.2.2=true/\pq x.2.2 1=true/\x.1.toNat<D A:=λx L=>ag x (by simp[L])
  have ahY:∀f∈A,∃q,f=ee q/\kO (m+21) q:=λf al=>by
   obtain⟨q,e,s⟩:=fa f al;exact⟨q,e,s.mono (by omega)⟩
  split
  ·have jG:A.getD l.1.toNat bC∈A:=by
    rw[dH,bf aq];exact hb aq
   obtain⟨x,ex,H6⟩:=fa _ jG;have BD:=avl M al;obtain⟨xO,-⟩:=ahN M
   have Q:kn (A.getD l.1.toNat bC) l.2.2=(ee (x-yR l.2.2),0):=by
    rw[ex];have G:kn (ee x) l.2.2=kn (ee x) (ee (yR l.2.2)):=congrArg _ xO;rw[G,anU (ahX H6 (by omega)) (ahX BD (by omega)),ahR H6 (XD BD) (by omega)]
    rfl
   rw[Q];simp only[beq_self_eq_true,if_true];refine XH to r _ (m+21) (λx L=>by rw[fk];exact nD x L) ?_ (by omega);intro f al;rcases nW al with al|rfl
   ·exact ahY f al
   ·exact⟨_,rfl,by rw[Rat.sub_eq_add_neg];exact avj H6 (XD BD)⟩
  ·exact XH to r A (m+21) nD ahY (by omega)
def ahZ {n:Int}(h:n.natAbs<=1):kO 1 (n:Rat):=⟨by rw[Rat.num_intCast];omega,by rw[Rat.den_intCast];decide⟩
def avp {ls:List cn}{n:Int}(al:vW ls=true)(M:ow ls n=true):(mJ ls n.toNat).all (·.2)=true:=by
 obtain⟨au,KI,-,eZ⟩:=GC M;obtain⟨dz,vV⟩:=ahV al;rw[kA];intro x L;unfold mJ at L;obtain⟨i,ab,rfl⟩:=h7.1 L
 have aN:(n0 i ls (oA n.toNat i)).2=true:=by
  refine XH i ls _ 1 (λl ag=>?_) (λf al=>?_) (by omega)
  ·obtain⟨a,b,-,-,aR⟩:=eZ l ag;refine⟨?_,vV l ag,?_⟩
   ·unfold g4 at aR;rw[ff] at aR;exact aR.1
   ·unfold oA;rw[fk,hs];omega
  ·unfold oA at al;rcases nW al with al|rfl
   ·rw[pM] at al;exact⟨_,al.2,ahZ (by decide)⟩
   ·exact⟨_,rfl,ahZ (by decide)⟩
 unfold mG;rw[aL aN]
def ah0 {cap base:List ax}{ls:List cn}(aC:(D cap)<=40):∀(k:Nat) (left:List Bool) (rounds:List (List Nat)),(∀x∈rounds,D x<=1000000)->(D rounds)+k<=1000000->G3 (pf cap base ls k left rounds).2.1
 |0,_,_,_,_=>⟨by simp[pf],λx L=>by cases L⟩
 |k+1,left,rounds,h,R=>by
  unfold pf
  split
  ·split
   ·exact⟨by simp,λx L=>by cases L⟩
   ·exact⟨by dsimp only;omega,h⟩
   ·rename_i i lv Br;refine ah0 aC k _ _ (λx L=>?_) (by rw[List.length_append,List.length_singleton];omega);rcases h5.1 L with L|L
    ·exact h x L
    ·rw[List.mem_singleton] at L;subst L;have:=PB _ _ _ _ Br;rw[mV] at this;omega
  ·exact⟨by simp,λx L=>by cases L⟩
def XI (cap base:List ax)(ls:List cn):G3 (l7 cap base ls).2.1:=by
 unfold l7
 split
 ·rename_i M;obtain⟨-,aC,-⟩:=xq M;exact ah0 aC _ _ _ (λx L=>by cases L) (by rw[mV];omega)
 ·exact⟨by simp,λx L=>by cases L⟩
def avq {cap base:List ax}{ls:List cn}(h:ox cap base ls):ox (GB cap base ls) base ls:=by
 obtain⟨⟨F,G⟩,ad,aZ⟩:=h;obtain⟨a,b⟩:=PK (fed:=PI cap base ls) (D cap) 0 cap G;exact⟨⟨by unfold GB;omega,b⟩,ad,aZ⟩
def XJ {cap base:List ax}{ls:List cn}(h:ox cap base ls):ih (AX cap base ls).1/\G3 (AX cap base ls).2.1:=by
 unfold AX
 split
 ·exact⟨K1 (avq h),XI _ _ _⟩
 ·exact⟨⟨by simp,λf al=>by cases al⟩,⟨by simp,λx L=>by cases L⟩⟩
def ah1 {ls:List cn}(n:Int)(h:qQ ls):ih (xw ls n).1/\ih (xw ls n).2.1:=by
 have au:ih ([]:List ax):=⟨by simp,λf al=>by cases al⟩
 unfold xw
 split
 ·rename_i M;obtain⟨Kp,aBZ,-⟩:=GC M;have j6:ox (ch n.toNat kp) (ch n.toNat hi) ls:=⟨⟨by rw[hs];omega,λf al=>by rw[pM] at al;rw[al.2];exact Db⟩,⟨by rw[hs];omega,λf al=>by rw[pM] at al;rw[al.2];exact xm⟩,h⟩
  split
  ·split
   ·exact⟨au,K1 j6⟩
   ·split
    ·refine⟨(ae1 ?_).1,au⟩;refine⟨?_,λr M=>?_⟩
     ·unfold mJ;rw[aj,aj,tF];omega
     ·obtain⟨x,L,rfl⟩:=h7.1 M;unfold mJ at L;obtain⟨i,-,rfl⟩:=h7.1 L;exact zc Db (by omega)
    ·exact⟨au,au⟩
  ·exact⟨au,au⟩
 ·exact⟨au,au⟩
abbrev Q0:(List ax)×(List ax)×(List cn)×Int×(List ax)->List Data:=λ(cap,base,ls,n,z)=>[.agg [.ar (cap.map av),.ar (base.map av),.ar (ls.map fh)],.int .i64 n,.ar (z.map av)]
def Q1:=bI Q0 λ(cap,base,ls,n,z)=>some (.same (.bool true))
def avr:∀a b,Q0 a=Q0 b->a=b:=by
  rintro⟨ady,adz,y5,rb,iP⟩ ⟨adA,adB,y6,re,je⟩ h;simp only[bl,Data.agg.injEq,Data.ar.injEq,Data.int.injEq] at h;exact cz (map_inj j1 _ _ h.1.1) (cz (map_inj j1 _ _ h.1.2.1) (cz (map_inj uy _ _ h.1.2.2.1) (cz h.2.1.2 (map_inj j1 _ _ h.2.2.1))))
@[go_sem] def avs (cap base ls n z):=sm Q1 rfl avr (cap,base,ls,n,z) rfl
def avt (T:bj)(LU:T S1=aG QY)(LV:T S4=aG Qj)(zo:T EL=aG Lj)(fS:T yp=aG Dj)(g7:T B9=aG Hd)(DR:T tH=aG GW)(DU:T E1=aG Ln)(LW:T SX=aG PL)(LX:T S7=aG QN)(DS:T EZ=aG K2)(LY:T S2=aG QR)(DT:T IU=aG KX)(LZ:T S3=aG Qr)(L0:T SW=aG PR)(L1:T S6=aG Qs):WF T ahF Q1:=by
 refine b7 λ(cap,base,ls,n,z)=>⟨rfl,b6 ?_⟩;simp only[ahF,Q0,bX];have L2:=au0;have cJ:=as2 cap base ls;have cQ:=asU z 4 1 (by omega);rcases al:GX cap base ls
 ·rw[al] at cJ;refine ah ?_;repeat' (intro h<;>simp only[h,go_sem,go_sem_proc,LU,LV,zo,fS,g7,DR,DU,LW,LX,DS,LY,DT,LZ,L0,L1,L2,cJ,dc]<;>try refine ae ?_ ?_)
 rw[al] at cJ;rcases a2:qU z 4 1
 ·rw[a2] at cQ;refine ah ?_;repeat' (intro h<;>simp only[h,go_sem,go_sem_proc,LU,LV,zo,fS,g7,DR,DU,LW,LX,DS,LY,DT,LZ,L0,L1,L2,cJ,cQ,dc,c2]<;>try refine ae ?_ ?_)
 rw[a2] at cQ;have v7:=avo al;have Hg:=v7.2.2;have Q2:=XG a2;have jQ:=(ahW al).2.2;have dx:=PG cap base ls v7;have dW:=Xm cap base ls v7;have hR:=arR cap base ls v7;have jf:=aul cap base ls v7;rw[auv] at jf;have CW:=Wy ls n Hg;have Kn:=auA ls n ⟨Hg,avp jQ⟩;have ah2:=afe ls n z ⟨Hg,Q2⟩;have ah3:=atr ls n z ⟨Hg,Q2⟩;have ah4:=arY cap base ls z ⟨v7,Q2⟩;have ah5:=att cap base ls z ⟨v7,Q2⟩;have s1:=zw (K1 v7);have s2:=zw (XJ v7).1;have bU:=zw (ah1 n Hg).1;have bW:=zw (ah1 n Hg).2;have gJ:=WX _ _ ⟨XI cap base ls,XI cap base ls⟩;have lp:=WX _ _ ⟨(XJ v7).2,(XJ v7).2⟩;rw[beq_self_eq_true] at gJ lp;generalize l7 cap base ls=P1 at *;generalize AX cap base ls=P2 at *;generalize xw ls n=P3 at *;generalize GD ls n z=P4 at *;generalize KZ cap base ls z=P5 at *;obtain⟨jn,gI,sV⟩:=P1;obtain⟨v1,v2,fg⟩:=P2;obtain⟨w1,gF,bL⟩:=P3;dsimp only[l8,rM] at dx dW hR jf CW Kn s1 s2 bU bW gJ lp;rcases d4:decide (n>4)
 ·refine ah ?_;repeat' (intro h<;>simp only[h,go_sem,go_sem_proc,LU,LV,zo,fS,g7,DR,DU,LW,LX,DS,LY,DT,LZ,L0,L1,L2,cJ,cQ,d4,dx,dW,hR,jf,CW,Kn,ah2,ah3,ah4,ah5,s1,s2,bU,bW,gJ,lp,beq_self_eq_true,c2,bne]<;>try refine ae ?_ ?_)
 ·rcases d40:decide (n<=40)
  ·refine ah ?_;repeat' (intro h<;>simp only[h,go_sem,go_sem_proc,LU,LV,zo,fS,g7,DR,DU,LW,LX,DS,LY,DT,LZ,L0,L1,L2,cJ,cQ,d4,d40,dx,dW,hR,jf,CW,Kn,ah2,ah3,ah4,ah5,s1,s2,bU,bW,gJ,lp,beq_self_eq_true,c2,bne]<;>try refine ae ?_ ?_)
  ·refine ah ?_;repeat' (intro h<;>simp only[h,go_sem,go_sem_proc,LU,LV,zo,fS,g7,DR,DU,LW,LX,DS,LY,DT,LZ,L0,L1,L2,cJ,cQ,d4,d40,beq_self_eq_true,c2,bne]<;>try refine ae ?_ ?_)
end Go.Mini
namespace Go.Mini
open Go Go.Proofs
def ah6:b2 sr JH:=cj 125000 [] (aO AS bS) Tryz.func213 (an6 _ aX)
def XK:b2 B3 FH:=cj 398000 [] (aO AS bS) Tryz.func87 (aoa _ aX)
def avu:b2 vb On:=cj 400000 [] (aO XK bS) Tryz.func129 (aoc _ aX)
def avv:b2 wI Oo:=cj 391000 [] (aO AS bS) Tryz.func88 (aoe _ aX)
def avw:b2 u9 Oq:=cj 387000 [] bS Tryz.func82 (aog _)
def avx:b2 va Ot:=cj 389000 [] (aO XK bS) Tryz.func86 (aoi _ aX)
def avy:b2 SE Ov:=cj 146000 [] (aO ah6 (aO avu (aO avv (aO avw (aO avx bS))))) Tryz.func156 (aoo _ aX (λh=>absurd h (by decide)) (λh=>absurd h (by decide)) (λ_=>aX) (λ_=>aX) (λ_=>aX) (λ_=>aX))
def L3:b2 tI sO:=cj 128000 [] (aO avy bS) Tryz.func81 (aov _ aX)
def avz:b2 Nm Ox:=cj 127000 [] (aO ah6 (aO L3 bS)) Tryz.func215 (aoy _ aX aX)
def avA:b2 SD Oy:=cj 145000 [] (aO avz bS) Tryz.func228 (aoz _ aX)
def avB:b2 Sz OB:=cj 126000 [] (aO avA bS) Tryz.func214 (aoA _ aX)
def avC:b2 Sx OC:=cj 108000 [] (aO avB bS) Tryz.func158 (aoC _ aX)
def avD:nv Tryz.prog z7 (Ay yX):=aoF (mf:=Oj) (kb:=168000) (own:=[]) (vp (u5 bS) (vq m8)) mixed Tryz.func230 (by kernel_rfl) (by kernel_rfl) OG λargs mem r k g i d h=>by
 obtain⟨F,G,ad,aZ,bw⟩:=aoH _ args mem r k g i d h;exact⟨F,G,ad,aZ,bw⟩
def avE:b2 IJ JK:=cj 167000 [] bS Tryz.func229 (aoG _)
def avF:nv Tryz.prog SF (yW JY):=Uu (mf:=w6) (kb:=148000) (own:=[3000106,3000165,3000169]) (vp (u5 (aO avE (aO aeM (aO aeL (aO V6 bS))))) (vq (uh avD m8))) mixed Tryz.func216 (by kernel_rfl) (by kernel_rfl) λargs mem bH h=>by
 obtain⟨a,rfl,⟨F,G,ad,aZ,bw,bA,bM⟩,rfl⟩:=apk h;exact⟨p3 rfl,apb _ (ug rfl rfl) (FM rfl rfl) (ug rfl rfl) (ug rfl rfl) (ug rfl rfl) a.go a.N a.rows a.r a.c mem F G ad aZ bw bA bM⟩
def ah7:b2 EP FZ:=cj 147000 [5] bS Tryz.func78 (apn _)
def avG:b2 SA J3:=vI 129000 [29,34] (aO ah7 bS) (uh avF m8) Tryz.func159 (apG _ aX (FM rfl rfl))
def ah8:b2 IA J9:=cj 109000 [] (aO avC (aO avG bS)) Tryz.func84 (apJ _ aX aX)
def avH:b2 SK OV:=cj 171000 [] bS Tryz.func184 (apN _)
def avI:b2 SG OW:=cj 151000 [] (aO avH bS) Tryz.func108 (apO _ aX)
def ah9:b2 EN Kb:=cj 131000 [] (aO avI bS) Tryz.func45 (apX _ aX)
def L4:b2 ss zj:=cj 183000 [18] bS Tryz.func225 (ar1 _)
def Q3:b2 su Dy:=cj 187000 [] bS Tryz.func226 (ar4 _)
def XL:b2 z9 Dz:=cj 185000 [] (aO Q3 bS) Tryz.func196 (ar5 _ aX)
def aia:b2 IM K4:=cj 181000 [] (aO Q3 (aO L4 bS)) Tryz.func195 (ar6 _ aX aX)
def XM:b2 z8 GN:=cj 182000 [] (aO Q3 (aO L4 bS)) Tryz.func197 (ar7 _ aX aX)
def aib:b2 BZ GP:=cj 186000 [] (aO Q3 (aO L4 bS)) Tryz.func194 (ar8 _ aX aX)
def aic:b2 IL K6:=cj 180000 [26] (aO L4 (aO aib (aO XL (aO XM bS)))) Tryz.func203 (asf _ aX aX aX aX)
def Hh:b2 od zk:=cj 166000 [] (aO L4 bS) Tryz.func192 (ash _ aX)
def zy:b2 kG uD:=cj 162000 [] bS Tryz.func143 (asi _)
def aid:b2 ET K7:=cj 163000 [] (aO zy (aO Hh bS)) Tryz.func190 (asj _ aX aX)
def aie:b2 EO K8:=cj 144000 [] (aO Hh bS) Tryz.func125 (asl _ aX)
def avJ:b2 SV PY:=cj 210000 [] bS Tryz.func204 (asn _)
def aif:b2 B0 K9:=cj 209000 [] bS Tryz.func193 (aso _)
def aih:b2 IS La:=cj 205000 [] (aO zy (aO avJ (aO XL bS))) Tryz.func145 (asq _ aX aX aX)
def aii:b2 II Lb:=cj 164000 [] (aO zy (aO aic (aO Hh bS))) Tryz.func144 (asr _ aX aX aX)
def Q4:b2 qA DC:=cj 202000 [] (aO zy (aO aib (aO Hh (aO aif bS)))) Tryz.func131 (ass _ aX aX aX aX)
def aij:b2 IT Lc:=cj 206000 [] (aO zy (aO aia (aO XL (aO XM (aO Hh (aO aif bS)))))) Tryz.func133 (ast _ aX aX aX aX aX aX)
def avK:b2 SU PZ:=cj 203000 [] (aO zy (aO aid (aO aij bS))) Tryz.func207 (asw _ aX aX aX)
def aik:b2 BX Ld:=cj 165000 [] (aO zy (aO aic (aO aia (aO XM (aO Hh bS))))) Tryz.func191 (asy _ aX aX aX aX aX)
def ail:b2 IF Le:=cj 143000 [] (aO zy (aO aid (aO aii (aO aik bS)))) Tryz.func124 (asz _ aX aX aX aX)
def aim:b2 IC Lf:=cj 124000 [] (aO aie (aO ail bS)) Tryz.func57 (asA _ aX aX)
def avL:b2 Nn P7:=cj 142000 [] bS Tryz.func128 (asB _)
def avM:b2 Sy P9:=cj 120000 [] (aO avL bS) Tryz.func59 (asC _ aX)
def ain:b2 IB Lg:=cj 115000 [] bS Tryz.func17 (asE _)
def zz:b2 kY uE:=cj 196000 [] (aO zy (aO aii (aO aie (aO aih bS)))) Tryz.func70 (asF _ aX aX aX aX)
def Q5:b2 yo DD:=cj 204000 [] (aO ail bS) Tryz.func132 (asH _ aX)
def avN:b2 SP Qd:=cj 198000 [] (aO zz (aO Q4 (aO aij (aO Q5 bS)))) Tryz.func66 (asO _ aX aX aX aX)
def aio:b2 IP Lh:=cj 195000 [] (aO zz (aO Q4 (aO avK (aO Q5 bS)))) Tryz.func150 (asP _ aX aX aX aX)
def aip:b2 IQ Li:=cj 197000 [] (aO zz (aO Q4 (aO Q5 bS))) Tryz.func65 (asQ _ aX aX aX)
def avO:b2 Ns Qe:=cj 207000 [] (aO zz (aO Q4 (aO Q5 bS))) Tryz.func189 (asR _ aX aX aX)
def avP:b2 EM GV:=cj 113000 [] bS Tryz.func209 (asS _)
def aiq:b2 EL Lj:=cj 107000 [] (aO ain bS) Tryz.func23 (asV _ aX)
def air:b2 tH GW:=cj 112000 [] (aO avM bS) Tryz.func14 (asY _ aX)
def avQ:b2 SN Qt:=cj 192000 [] (aO zz bS) Tryz.func151 (atv _ aX)
def avR:b2 Nt Qv:=cj 208000 [] (aO aip (aO aio bS)) Tryz.func227 (atx _ aX aX)
def avS:b2 SQ Qx:=cj 199000 [12,25] bS Tryz.func208 (atC _)
def avT:b2 SR QA:=cj 200000 [20] (aO avO bS) Tryz.func210 (atH _ aX)
def avU:b2 Nr Ly:=cj 201000 [22] (aO avR bS) Tryz.func211 (atL _ aX)
def avV:b2 SO LB:=cj 194000 [21] (aO avS (aO avP (aO avT (aO avU bS)))) Tryz.func152 (atW _ aX aX aX aX)
def ais:b2 IN LG:=cj 189000 [] (aO avQ (aO avV bS)) Tryz.func75 (at1 _ aX aX)
def XN:∀n,hY Tryz.prog EY (Ls n)
 |0=>aeA (mf:=P0) (kb:=278000) (own:=[]) (vp (u5 bS) (vq m8)) mixed Tryz.func153 (by kernel_rfl) (by kernel_rfl) λa r M=>by obtain⟨Y,rfl⟩:=Se M;exact absurd Y.2 (Nat.not_lt_zero _)
 |n+1=>aeA (mf:=P0) (kb:=278000) (own:=[]) (vp (u5 (aO aik (aO aih (aO (XN n) bS)))) (vq m8)) mixed Tryz.func153 (by kernel_rfl) (by kernel_rfl) fun⟨p,q,r,s⟩ x M=>by obtain⟨Y,rfl⟩:=Se M;exact⟨p3 rfl,atn _ (ug rfl rfl) (ug rfl rfl) n (ug rfl rfl) p q r s Y⟩
def avW:hY Tryz.prog EY Lr:=⟨(XN 0).real,λds r h A w vs aq af=>by
 obtain⟨n,aC⟩:=atk h;exact (XN n).run ds r aC A w vs aq af⟩
def XO:b2 Aa G5:=cj 270000 [] (aO zz (aO avW bS)) Tryz.func76 (atp _ aX aX)
def avX:b2 Nu OZ:=cj 402000 [] (aO XK bS) Tryz.func155 (ap1 _ aX)
def avY:b2 Tb O0:=cj 432000 [] (aO avX bS) Tryz.func212 (ap2 _ aX)
def avZ:b2 Ta O1:=cj 431000 [] (aO avY bS) Tryz.func154 (ap3 _ aX)
def XP:b2 B5 F5:=cj 401000 [] (aO avZ bS) Tryz.func80 (ap5 _ aX)
def XQ:b2 B4 F6:=cj 399000 [] (aO XP (aO L3 bS)) Tryz.func62 (ap6 _ aX aX)
def Q6:b2 tL CR:=cj 404000 [] (aO aeK bS) Tryz.func46 (ap7 _ aX)
def av0:nv Tryz.prog SZ (yW KA):=Uu (mf:=Ol) (kb:=397000) (own:=[]) (vp (u5 (aO V6 (aO V5 bS))) (vq m8)) mixed Tryz.func130 (by kernel_rfl) (by kernel_rfl) λargs mem bH h=>by
 obtain⟨a,⟨rfl,bc⟩,rfl⟩:=Uy h;exact⟨p3 rfl,arA _ (ug rfl rfl) (ug rfl rfl) a mem bc⟩
def XR:b2 B2 Gv:=vI 396000 [] bS (uh av0 m8) Tryz.func64 (arD _ (FM rfl rfl))
def ait:b2 IV KE:=cj 395000 [18] (aO Q6 (aO ah9 (aO aeL bS))) Tryz.func83 (arG _ aX aX aX)
def av1:nv Tryz.prog S0 (Kx Wg):=arc (mf:=Om) (kb:=403000) (own:=[]) (vp (u5 (aO ait (aO ah8 bS))) (vq m8)) mixed Tryz.func63 (by kernel_rfl) (by kernel_rfl) (λj:Nat=>j/1000=403) λargs mem d h=>by
 obtain⟨a,⟨rfl,bc⟩,rfl⟩:=arf h;exact⟨p3 rfl,bc.no,arK _ (ug rfl rfl) (ug rfl rfl) a mem bc⟩
def Q7:b2 yp Dj:=vI 394000 [] (aO XQ (aO XR (aO V7 bS))) (uh av1 m8) Tryz.func18 (arM _ aX (FM rfl rfl) aX aX)
def av2:nv Tryz.prog SY (yW KQ):=Uu (mf:=Ok) (kb:=393000) (own:=[]) (vp (u5 bS) (vq m8)) mixed Tryz.func77 (by kernel_rfl) (by kernel_rfl) λargs mem bH h=>by
 obtain⟨a,⟨rfl,bc⟩,rfl⟩:=Uy h;exact⟨p3 rfl,arQ _  a mem bc⟩
def av3:b2 SX PL:=vI 392000 [67] (aO XQ (aO ah7 (aO Q6 (aO Q7 bS)))) (uh av2 m8) Tryz.func26 (arS _ aX (FM rfl rfl) aX aX aX)
def aiu:b2 IU KX:=cj 388000 [] (aO XP (aO L3 (aO Q6 (aO XR (aO V7 bS))))) Tryz.func30 (arX _ aX aX aX aX aX)
def av4:b2 SW PR:=cj 390000 [] (aO XQ (aO L3 (aO XR (aO V7 bS)))) Tryz.func32 (arZ _ aX aX aX aX)
def aiv:b2 EZ K2:=cj 386000 [] (aO XP (aO Q6 (aO ah9 (aO Q7 (aO L3 (aO ait (aO ah8 bS))))))) Tryz.func28 (ar0 _ aX aX aX aX aX aX aX)
def aiw:b2 E0 Ll:=cj 422000 [] (aO zz bS) Tryz.func21 (asZ _ aX)
def av5:b2 S5 Qi:=cj 418000 [] (aO ain bS) Tryz.func61 (as1 _ aX)
def av6:b2 S4 Qj:=cj 417000 [] (aO aiq (aO av5 bS)) Tryz.func16 (as3 _ aX aX)
def XS:b2 B8 GY:=cj 424000 [] (aO aiw bS) Tryz.func85 (as4 _ aX)
def XT:b2 B7 GZ:=cj 423000 [] (aO XS (aO aiw bS)) Tryz.func34 (as5 _ aX aX)
def L5:b2 sv A4:=cj 430000 [] (aO aim bS) Tryz.func79 (ata _ aX)
def XU:b2 B6 G1:=cj 419000 [] (aO aip (aO avN bS)) Tryz.func19 (atb _ aX aX)
def aix:b2 E1 Ln:=cj 426000 [] bS Tryz.func25 (atd _)
def av7:b2 S9 Qo:=cj 428000 [] (aO L5 bS) Tryz.func35 (ath _ aX)
def aiy:b2 E2 Lp:=cj 429000 [] (aO L5 (aO aio bS)) Tryz.func74 (ati _ aX aX)
def av8:b2 S3 Qr:=cj 416000 [] (aO XS (aO zz (aO L5 (aO XU (aO XO bS))))) Tryz.func31 (ats _ aX aX aX aX aX)
def av9:b2 S6 Qs:=cj 420000 [] (aO XT (aO zz (aO XU (aO XO bS)))) Tryz.func33 (atu _ aX aX aX aX)
def XV:b2 B9 Hd:=cj 427000 [] (aO XT (aO aiy (aO ais (aO XU (aO XO bS))))) Tryz.func24 (auk _ aX aX aX aX aX)
def awa:b2 S7 QN:=cj 421000 [] (aO XT (aO L5 (aO XV bS))) Tryz.func27 (aum _ aX aX aX)
def awb:b2 S2 QR:=cj 415000 [] (aO XS (aO av7 (aO XV (aO L5 (aO aiy (aO ais bS)))))) Tryz.func29 (auB _ aX aX aX aX aX aX)
def awc:b2 nI LO:=cj 412000 [] (aO aim bS) Tryz.func37 (auH _ aX)
def awd:b2 Nv QT:=cj 414000 [] bS Tryz.func60 (auK _)
def awe:b2 S8 QV:=cj 425000 [] (aO awd bS) Tryz.func15 (auN _ aX)
def awf:b2 S1 QY:=cj 413000 [] (aO auW (aO awc (aO air (aO awe (aO aiv (aO aiu (aO Q7 (aO aix bS)))))))) Tryz.func9 (au1 _ aX aX aX aX aX aX aX aX)
def awg:b2 alD Q1:=cj 409000 [] (aO awf (aO av6 (aO aiq (aO Q7 (aO XV (aO air (aO aix (aO av3 (aO awa (aO aiv (aO awb (aO aiu (aO av8 (aO av4 (aO av9 bS))))))))))))))) Tryz.func5 (avt _ aX aX aX aX aX aX aX aX aX aX aX aX aX aX aX)
end Go.Mini
namespace Go.Mini
open Go Go.Proofs
def awh {P:Program}{w:World}{e:TypeId}{fuel:Nat}{cs:List Value}{s:List UInt8}{p:List MemPlace}(he:P.underlying e=some .string)(h:DataW.trod (λ_=>()) P w 0 (λ_=>true) false fuel e cs=some (.lit (.string s),p)):cs=[.string ⟨s.toArray⟩]:=by
 cases fuel with
 |zero=>cases h
 |succ f =>
  unfold DataW.trod at h;rw[he] at h
  split at h<;>first|(rename_i F G;cases F;done)|skip
  all_goals first|(cases h;done)|skip
  all_goals simp_all
  all_goals try (obtain⟨-,h,-⟩:=h;subst h;rfl)
def awi {P:Program}{w:World}{t e:TypeId}{fuel n:Nat}{cs:List Value}{eW:List (List UInt8)}{p:List MemPlace}(bN:P.underlying t=some (.array n e))(he:P.underlying e=some .string)(aC:P.cellsOf t=n)(F:P.cellsOf e=1)(gA:(D eW)=n)(h:DataW.trod (λ_=>()) P w 0 (λ_=>true) false fuel t cs=some (.agg (eW.map λs => .lit (.string s)),p)):cs=zA eW:=by
 cases fuel with
 |zero=>cases h
 |succ f =>
  unfold DataW.trod at h;rw[bN] at h;simp only[aC,F] at h
  split at h
  ·rename_i ag;rw[Option.map_eq_some_iff] at h;obtain⟨xs,L,sh⟩:=h;simp only[eM,DataW.agg.injEq] at sh;obtain⟨hm,-⟩:=sh;refine qm λi=>?_;rcases gY i n with ab|ab
   ·obtain⟨y,ak,al⟩:=MX L (i:=i) (x:=i) (by rw[r3 ab]);have zt:eW[i]?=some eW[i]:=bf (by omega);have Q8:(xs.map (·.1))[i]?=some (.lit (.string eW[i])):=by rw[hm,bg,zt];rfl
    rw[bg,ak] at Q8;simp only[kU,bO] at Q8;obtain⟨og,qC⟩:=y;dsimp only at Q8;subst Q8;have Y:=awh he al;rw[dM] at Y
    have:cs[i]?=some (.string ⟨eW[i].toArray⟩):=by
     have ad:((cs.drop i).take 1)[0]?=some (.string ⟨eW[i].toArray⟩):=by rw[Y];rfl
     rw[List.getElem?_take_of_lt (by omega),List.getElem?_drop] at ad;exact ad
    rw[this];unfold zA;rw[bg,zt]
    rfl
   ·rw[lk (by omega),lk (by unfold zA;rw[aj];omega)]
  ·cases h
def awj {W : World}(h : laidMetH Tryz.prog [("consol/lex.signs", YtplehnijfhgclaaGreatDoor.Rows.laid_consol_lex_signs)] W): DX W := by
 have cI : laidMet Tryz.prog [("consol/lex.signs", YtplehnijfhgclaaGreatDoor.Rows.laid_consol_lex_signs)] W := h;obtain⟨cV,⟨g,t,cs,fuel,p,q,aN,bN,ao,ay,aU,rfl⟩,-,Y⟩:=cI;have rp : Tryz.prog.globalNamed "consol/lex.signs" = some 0 := by kernel_rfl
 obtain rfl:=mm (rp.symm.trans aN);have Cz:(Tryz.prog.globals[0]?).map (·.type)=some 262:=by kernel_rfl
 obtain rfl:=mm (Cz.symm.trans bN);have hu:Tryz.prog.underlying 262=some (.array 11 9):=by kernel_rfl
 have he:Tryz.prog.underlying 9=some .string:=by kernel_rfl
 have iJ:=awi (eW:=[[61,61],[59],[44],[61],[60],[43],[45],[42],[47],[40],[41]]) hu he (by kernel_rfl) (by kernel_rfl) rfl ay;have ec:cs.size=11:=by rw[<-Array.length_toList,iJ];rfl
 obtain⟨⟨c,t,Kj⟩,-⟩:=Y 0 0 (by
  rw[List.append_assoc];refine h5.2 (.inl ?_);unfold MemPlace.row;rw[ec];exact h7.2 ⟨0,by simp,rfl⟩)
 unfold World.var? at ao;rw[rp] at ao;simp only[Option.bind_some,Kj,bO] at ao;subst ao;intro b l U;unfold L6 at U
 split at U
 ·rename_i Ad;subst Ad
  cases U;exact⟨t,by rw[Kj,<-iJ]⟩
 ·cases U
end Go.Mini
