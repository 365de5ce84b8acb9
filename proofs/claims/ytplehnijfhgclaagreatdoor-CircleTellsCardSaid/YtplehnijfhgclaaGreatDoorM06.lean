/- A part of the proof. -/
import Derived.KernelRfl
import Derived.Test.YtplehnijfhgclaaGreatDoorRows
import Derived.Test.YtplehnijfhgclaaGreatDoorM05
set_option linter.unusedSimpArgs false
set_option linter.unusedVariables false
set_option linter.defProp false
set_option maxRecDepth 100000
set_option maxHeartbeats 4000000
noncomputable section
open Bool renaming and_eq_true->fe,false_and->eN,false_eq_true->cC,false_or->pE,not_false->db,not_true->cZ,or_eq_true->tz,true_and->eZ,true_or->qz
open Classical renaming propDecidable->QV
open Decidable renaming em->dt
open Int renaming eq_ofNat_of_zero_le->vI,mul_ne_zero->XD,natAbs_mul->yF,natAbs_natCast->nr,natAbs_neg->rr,toNat_natCast->lX
open List renaming all_eq_true->kA,ext_getElem?->qm,getD_eq_getElem?_getD->dG,getElem?_eq_getElem->bc,getElem?_eq_none->lk,getElem?_map->bd,getElem?_range->r3,getElem?_set->lF,getElem_mem->ha,length->D,length_map->ah,length_nil->mV,length_range->tE,length_replicate->hr,length_set->fj,length_take->gj,map_cons->gZ,map_nil->bN,mem_append->h5,mem_cons->kt,mem_map->h7,mem_of_getElem?->cJ,mem_or_eq_of_mem_set->nW,mem_replicate->pM,not_mem_nil->LQ,range->qj,replicate->cf,take_add_one->hn,take_of_length_le->dE
open List.cons renaming injEq->bj
open Nat renaming add_comm->Hi,le_of_ble_eq_true->p3,le_of_lt->ahS,le_refl->c8,le_trans->iG,lt_or_ge->gX,mul_comm->ye,mul_one->dL,pow_le_pow_right->Am,pow_lt_pow_right->ahP,sub_self->hF,zero_le->dF
open Option renaming map_some->kU
open Option.some renaming inj->mm,injEq->bM
open Prod renaming ext->cx,ext_iff->I1
open Prod.mk renaming injEq->eL
open Rat renaming divInt->lA,divInt_eq_div->ahN,intCast_eq_zero_iff->XA,intCast_mul->XE
namespace Go.Mini
open Go
def tg (fed:List Bool)(i:Nat):List cl->Bool->Bool
 | [],b=>b
 |l::r,b=>tg fed i r (b||((l.2.1==(i:Int))&&(decide (l.2.2.1.1>0)&&fed.getD l.1.toNat false)))
def pt (cap base:List av)(ls:List cl):Nat->Nat->List Bool->List Bool
 |0,_,fed=>fed
 |k+1,i,fed=>pt cap base ls k (i+1) (fed.set i (fed.getD i false||(tg fed i ls (decide ((base.getD i bA).1.1>0))&&decide ((cap.getD i bA).1.1>0))))
def rQ (cap base:List av)(ls:List cl):Nat->List Bool->List Bool
 |0,fed=>fed
 |k+1,fed=>rQ cap base ls k (pt cap base ls (D cap) 0 fed)
def Ba (fed:List Bool)(cap:List av)(i:Nat):av:=if fed.getD i false=true then cap.getD i bA else hh
def vY (fed:List Bool)(cap:List av):List av:=(qj (D cap)).map (Ba fed cap)
def QL (cap base:List av)(ls:List cl):List av×List (List Nat)×Int:=if o6 cap base ls=true then l7 (vY (rQ cap base ls (D cap) (cf (D cap) false)) cap) base ls else ([],[],1)
def Xo {cap base:List av}{ls:List cl}:∀(k i:Nat) (fed:List Bool),(pt cap base ls k i fed).length=D fed
 |0,_,_=>rfl
 |k+1,i,fed=>by
  unfold pt;rw[Xo k,fj]
def QM:=bG pW λ(cap,base,ls)=>b8 (ox cap base ls) (.same (l8 (QL cap base ls)))
@[go_sem] def auk (cap base ls):=cj QM rfl CP (cap,base,ls) rfl
def aul (T:bg)(ev:T B6=aE GY)(dQ:T sv=aE A3)(g6:T B8=aE Hc):WF T agq QM:=by
 refine b5 λ(cap,base,ls)=>cn λU=>⟨rfl,b4 ?_⟩;simp only[agq,pW,bV];unfold QL;rcases L:o6 cap base ls
 ·simp only[cC,if_false];refine af ?_;repeat' (intro (ag:_=_)<;>simp only[ag,go_sem,go_sem_proc,ev,dQ,g6,U,L,l8,bN]<;>try refine ab ?_ ?_)
 ·simp only[if_true];obtain⟨R,aA,Dr,eY,-,-⟩:=xp L;have j6:=U;obtain⟨⟨ea,ny⟩,⟨mq,nz⟩,nA⟩:=U;have y2:(D cap*1<=140737488355328)=True:=eq_true (by omega);have Dj:(1*D cap<=140737488355328)=True:=eq_true (by omega);have y3:(D cap<=maxLen)=True:=eq_true (by unfold maxLen;omega);have Dk:(D cap<=140737488355328)=True:=eq_true (by omega);have a0:=PC (D cap);generalize PL:rQ cap base ls (D cap) (cf (D cap) false)=bG;simp only[go_sem,go_sem_proc,ev,dQ,g6,j6,L,y2,Dj,y3,Dk,a0,ah]
  refine cV [1,5,6] [421001,421115] (λ((p,fed):Nat×List Bool) tm m=>p<=D cap/\D fed=D cap/\bG=rQ cap base ls (D cap-p) fed/\tm 7=.I (.int .i64 p)/\m 421020=some (0,aQ kN fed)) (λ(p,_)=>D cap-p) (0,cf (D cap) false) (by
   refine⟨dF _,hr,PL.symm,rfl,?_⟩
   ·simp[aT]) ?_
  intro vs ms aI aD;simp only[go_sem,go_sem_proc,ev,dQ,g6,ah] at aI aD;subst aI aD;rintro⟨p,fed⟩ tm m Q hm ⟨aP,jQ,qq,bK,md⟩;simp only[go_sem,go_sem_proc,ev,dQ,g6,bj] at Q hm;obtain⟨bm,c1,dn⟩:=Q;obtain⟨aW,h2⟩:=hm;rcases dt (p<D cap) with ix|aBT
  ·have d0:decide ((p:Int)<(D cap:Int))=true:=c5;have cq:=e1 (i:=p) (by omega);have g1:(D cap)-p=(D cap-(p+1))+1:=by omega
   rw[g1] at qq;replace qq:=qq.trans (rQ.eq_2 ..);generalize Xp:pt cap base ls (D cap) 0 fed=Xq at *;have aBU:(D Xq)=D cap:=by rw[<-Xp,Xo];exact jQ
   simp only[go_sem,go_sem_proc,ev,dQ,g6,bm,c1,dn,bK,aW,h2,md,d0]
   refine cV [1,5,6,7] [421001,421115] (λ((i,fd):Nat×List Bool) tm m=>i<=D cap/\D fd=D cap/\Xq=pt cap base ls (D cap-i) i fd/\tm 8=.I (.int .i64 i)/\m 421020=some (0,aQ kN fd)) (λ(i,_)=>D cap-i) (0,fed) (by
    refine⟨dF _,jQ,Xp.symm,rfl,md⟩) ?_
   intro vs ms aI aD;simp only[go_sem,go_sem_proc,ev,dQ,g6,bm,c1,dn,bK,aW,h2] at aI aD;subst aI aD;clear bm c1 dn bK aW h2 md tm m Xp;rintro⟨i,fd⟩ tm m Q hm ⟨Z,Bw,qa,ca,md⟩;simp only[go_sem,go_sem_proc,ev,dQ,g6,bj] at Q hm;obtain⟨bm,c1,dn,eD⟩:=Q;obtain⟨aW,h2⟩:=hm;rcases dt (i<D cap) with an|bB
   ·have d1:decide ((i:Int)<(D cap:Int))=true:=c5;have w1:=e1 (i:=i) (by omega);obtain⟨⟨⟨ch,dB⟩,⟨gu,iF⟩⟩,dg⟩:∃f,cap[i]?=some f:=⟨_,bc an⟩;obtain⟨⟨⟨bR,cz⟩,⟨er,eC⟩⟩,eI⟩:∃f,base[i]?=some f:=⟨_,bc (by omega)⟩;obtain⟨j5,dr⟩:∃f,fd[i]?=some f:=⟨_,bc (by omega)⟩;have gc:cap.getD i bA=((ch,dB),(gu,iF)):=by rw[dG,dg];rfl
    have qR:base.getD i bA=((bR,cz),(er,eC)):=by rw[dG,eI];rfl
    have gl:fd.getD i false=j5:=by rw[dG,dr];rfl
    have hT:=xm dr;have g4:=uA (l:=fd) (k:=i) (by omega);have tW:=λb=>PD (l:=fd) (k:=i) (by omega) b;have g1:(D cap)-i=(D cap-(i+1))+1:=by omega
    rw[g1] at qa;replace qa:=qa.trans (pt.eq_2 ..);rw[gc,qR,gl] at qa;dsimp only at qa;generalize ahj:tg fd i ls (decide (bR>0))=ahk at *;simp only[go_sem,go_sem_proc,ev,dQ,g6,bm,c1,dn,eD,ca,aW,h2,md,d1,eI,ar,ah,bd]
    refine cV [1,5,6,7,8] [421001,421020,421115] (λ((j,b):Nat×Bool) tm m=>j<=D ls/\ahk=tg fd i (ls.drop j) b/\tm 9=.I (.bool b)/\tm 10=.I (.int .i64 j)) (λ(j,_)=>D ls-j) (0,decide (bR>0)) (by
     refine⟨dF _,ahj.symm,rfl,rfl⟩) ?_
    intro vs ms aI aD;simp only[go_sem,go_sem_proc,ev,dQ,g6,bm,c1,dn,eD,ca,aW,md,h2,ah] at aI aD;subst aI aD;clear bm c1 dn eD ca aW md h2 tm m ahj;rintro⟨j,b⟩ tm m Q hm ⟨Y,oE,dh,dy⟩;simp only[go_sem,go_sem_proc,ev,dQ,g6,bj] at Q hm;obtain⟨bm,c1,dn,eD,fQ⟩:=Q;obtain⟨aW,md,h2⟩:=hm;rcases dt (j<D ls) with hj|CW
    ·have d2:decide ((j:Int)<(D ls:Int))=true:=c5;have ww:=e1 (i:=j) (by omega);obtain⟨⟨a,c,⟨w1,gE⟩,⟨Wt,Wu⟩⟩,Hd⟩:∃l,ls[j]?=some l:=⟨_,bc hj⟩;obtain⟨s9,gD,-⟩:=eY _ (cJ Hd);dsimp only at s9 gD;obtain⟨a,rfl⟩:=vI s9;have KV:a<D cap:=by omega
     have k3:ls.drop j=((a:Int),c,((w1,gE),(Wt,Wu)))::ls.drop (j+1):=by
      obtain⟨ae,e⟩:=List.getElem?_eq_some_iff.1 Hd;rw[List.drop_eq_getElem_cons ae,e]
     rw[k3] at oE;replace oE:=oE.trans (tg.eq_2 ..);dsimp only at oE;rw[lX] at oE;rcases b
     ·rw[pE] at oE;rcases gd:(c==(i:Int))
      ·rw[gd,eN] at oE;refine af ?_;repeat' (intro (ag:_=_)<;>simp only[ag,go_sem,go_sem_proc,ev,dQ,g6,bm,c1,dn,eD,fQ,dh,dy,aW,md,h2,d2,ww,Hd,gd,fg,ar,ah,bd]<;>try refine ab ?_ ?_)
       exact⟨(j+1,false),by dsimp only;omega,by dsimp only;omega,oE,rfl,rfl⟩
      ·rcases ik:decide (w1>0)
       ·rw[gd,ik,eZ,eN] at oE;refine af ?_;repeat' (intro (ag:_=_)<;>simp only[ag,go_sem,go_sem_proc,ev,dQ,g6,bm,c1,dn,eD,fQ,dh,dy,aW,md,h2,d2,ww,Hd,gd,ik,fg,ar,ah,bd]<;>try refine ab ?_ ?_)
        exact⟨(j+1,false),by dsimp only;omega,by dsimp only;omega,oE,rfl,rfl⟩
       ·obtain⟨ahl,eU⟩:∃f,fd[a]?=some f:=⟨_,bc (by omega)⟩;have aum:fd.getD a false=ahl:=by rw[dG,eU];rfl
        have aun:=xm eU;have auo:=uA (l:=fd) (k:=a) (by omega);rw[gd,ik,eZ,eZ,aum] at oE;refine af ?_;repeat' (intro (ag:_=_)<;>simp only[ag,go_sem,go_sem_proc,ev,dQ,g6,bm,c1,dn,eD,fQ,dh,dy,aW,md,h2,d2,ww,Hd,gd,ik,aun,auo,KV,fg,ar,dL,ah,bd]<;>try refine ab ?_ ?_)
        exact⟨(j+1,ahl),by dsimp only;omega,by dsimp only;omega,oE,rfl,rfl⟩
     ·rw[qz] at oE;refine af ?_;repeat' (intro (ag:_=_)<;>simp only[ag,go_sem,go_sem_proc,ev,dQ,g6,bm,c1,dn,eD,fQ,dh,dy,aW,md,h2,d2,ww,Hd,fg,ar,ah,bd]<;>try refine ab ?_ ?_)
      exact⟨(j+1,true),by dsimp only;omega,by dsimp only;omega,oE,rfl,rfl⟩
    ·have d2:decide ((j:Int)<(D ls:Int))=false:=de;have kH:ls.drop j=[]:=List.drop_eq_nil_of_le (by omega);rw[kH] at oE;replace oE:=oE.trans (tg.eq_1 ..);subst oE;rcases j5
     ·rw[pE] at qa;rcases ahk
      ·rw[eN] at qa;refine af ?_;repeat' (intro (ag:_=_)<;>simp only[ag,go_sem,go_sem_proc,ev,dQ,g6,bm,c1,dn,eD,fQ,dh,dy,aW,md,h2,d2,w1,dg,hT,g4,tW,an,ar,dL,ah,bd]<;>try refine ab ?_ ?_)
       exact⟨(i+1,fd.set i false),by dsimp only;omega,by dsimp only;omega,by rw[fj];exact Bw,qa,rfl,rfl⟩
      ·rw[eZ] at qa;generalize aS:decide (ch>0)=q at *;refine af ?_;repeat' (intro (ag:_=_)<;>simp only[ag,go_sem,go_sem_proc,ev,dQ,g6,bm,c1,dn,eD,fQ,dh,dy,aW,md,h2,d2,w1,dg,aS,hT,g4,tW,an,ar,dL,ah,bd]<;>try refine ab ?_ ?_)
       exact⟨(i+1,fd.set i q),by dsimp only;omega,by dsimp only;omega,by rw[fj];exact Bw,qa,rfl,rfl⟩
     ·rw[qz] at qa;refine af ?_;repeat' (intro (ag:_=_)<;>simp only[ag,go_sem,go_sem_proc,ev,dQ,g6,bm,c1,dn,eD,fQ,dh,dy,aW,md,h2,d2,w1,dg,hT,g4,tW,an,ar,dL,ah,bd]<;>try refine ab ?_ ?_)
      exact⟨(i+1,fd.set i true),by dsimp only;omega,by dsimp only;omega,by rw[fj];exact Bw,qa,rfl,rfl⟩
   ·have d1:decide ((i:Int)<(D cap:Int))=false:=de;have hy:i=D cap:=by omega
    subst hy;rw[hF] at qa;replace qa:=qa.trans (pt.eq_1 ..);subst qa;refine af ?_;repeat' (intro (ag:_=_)<;>simp only[ag,go_sem,go_sem_proc,ev,dQ,g6,bm,c1,dn,eD,ca,aW,md,h2,d1,cq]<;>try refine ab ?_ ?_)
    exact⟨(p+1,Xq),by dsimp only;omega,by dsimp only;omega,Bw,qq,rfl,rfl⟩
  ·have d0:decide ((p:Int)<(D cap:Int))=false:=de;have hy:p=D cap:=by omega
   subst hy;rw[hF] at qq;replace qq:=qq.trans (rQ.eq_1 ..);rw[qq];clear PL qq bG;have aup:(vY fed cap).length=D cap:=by unfold vY;rw[ah,tE]
   have auq:∀i,i<(D cap)->(vY fed cap)[i]?=some (Ba fed cap i):=λi Z=>by
    unfold vY;rw[bd,r3 Z]
    rfl
   have aur:∀f∈vY fed cap,okF f:=λf aj=>by
    unfold vY at aj;obtain⟨i,Z,rfl⟩:=h7.1 aj;rw[List.mem_range] at Z;unfold Ba
    split
    ·rw[dG,bc Z];exact ny _ (ha Z)
    ·exact xl
   generalize Wp:vY fed cap=pk at *;simp only[go_sem,go_sem_proc,ev,dQ,g6,bm,c1,dn,bK,aW,md,h2,d0]
   refine cV [1,5,6] [421001,421020] (λ((i,g):Nat×Nat) tm m=>i<=D cap/\tm 12=.I (.int .i64 i)/\tm 11=.ref 421115 g 4 0 i/\m 421115=some (g,aQ ar (pk.take i))) (λ(i,_)=>D cap-i) (0,0) (by
    refine⟨dF _,rfl,rfl,?_⟩
    ·simp[aT,aQ]) ?_
   intro vs ms aI aD;simp only[go_sem,go_sem_proc,ev,dQ,g6,bm,c1,dn,aW,md] at aI aD;subst aI aD;clear bm c1 dn bK aW md h2 tm m;rintro⟨i,g⟩ tm m Q hm ⟨Z,eH,dW,h2⟩;simp only[go_sem,go_sem_proc,ev,dQ,g6,bj] at Q hm;obtain⟨bm,c1,dn⟩:=Q;obtain⟨aW,md⟩:=hm;rcases dt (i<D cap) with an|bB
   ·have d1:decide ((i:Int)<(D cap:Int))=true:=c5;have w1:=e1 (i:=i) (by omega);obtain⟨⟨⟨ch,dB⟩,⟨gu,iF⟩⟩,dg⟩:∃f,cap[i]?=some f:=⟨_,bc an⟩;obtain⟨j5,dr⟩:∃f,fed[i]?=some f:=⟨_,bc (by omega)⟩;have gc:cap.getD i bA=((ch,dB),(gu,iF)):=by rw[dG,dg];rfl
    have gl:fed.getD i false=j5:=by rw[dG,dr];rfl
    have hT:=xm dr;have g4:=uA (l:=fed) (k:=i) (by omega);have zs:=auq i an;unfold Ba at zs;rw[gc,gl] at zs;have oq:∀da,pk[i]?=some da->pk.take (i+1)=pk.take i++[da]:=λda h=>by rw[hn,h];rfl
    have b7:(pk.take i).length=i:=by rw[gj];omega
    have cY:=λ(bF:av) cs iJ=>lq jt vl 421115 g 64 (pk.take i) bF (cs:=cs) iJ (by omega) (by omega);simp only[b7] at cY;have qo:=DI 0 (by unfold dX;omega);rw[show ed ((0:Int):Rat)=hh from rfl] at qo;generalize hh=nb at *;obtain⟨⟨iP,je⟩,⟨kL,kM⟩⟩:=nb;simp only[ar] at qo;rcases j5
    ·simp only[cC,if_false] at zs;have jh:=cY ((iP,je),(kL,kM)) _ rfl;rw[<-oq _ zs] at jh;simp only[ar,gZ,bN] at jh;refine af ?_;repeat' (intro (ag:_=_)<;>simp only[ag,go_sem,go_sem_proc,ev,dQ,g6,bm,c1,dn,eH,dW,aW,md,h2,d1,w1,dg,hT,g4,an,qo,jh,ar,dL,ah,bd]<;>try refine ab ?_ ?_)
     exact⟨(i+1,g+1),by dsimp only;omega,by dsimp only;omega,rfl,rfl,rfl⟩
    ·simp only[if_true] at zs;have jh:=cY ((ch,dB),(gu,iF)) _ rfl;rw[<-oq _ zs] at jh;simp only[ar,gZ,bN] at jh;refine af ?_;repeat' (intro (ag:_=_)<;>simp only[ag,go_sem,go_sem_proc,ev,dQ,g6,bm,c1,dn,eH,dW,aW,md,h2,d1,w1,dg,hT,g4,an,jh,ar,dL,ah,bd]<;>try refine ab ?_ ?_)
     exact⟨(i+1,g+1),by dsimp only;omega,by dsimp only;omega,rfl,rfl,rfl⟩
   ·have d1:decide ((i:Int)<(D cap:Int))=false:=de;have hy:i=D cap:=by omega
    subst hy;have k5:pk.take (D cap)=pk:=dE (by omega);rw[k5] at h2;have ej:=Xl pk base ls ⟨⟨by omega,aur⟩,⟨mq,nz⟩,nA⟩
    have nc:=λ(K:a6->Prop) (st:a6)=>sl (K:=K) (st:=st) jt 11 421115 g pk;rw[aup] at nc;generalize l7 pk base ls=S at *;obtain⟨l6,Ds,KS⟩:=S;simp only[l8] at ej;refine af ?_;repeat' (intro (ag:_=_)<;>simp only[ag,go_sem,go_sem_proc,ev,dQ,g6,bm,c1,dn,eH,dW,aW,md,h2,d1,nc,ej,l8,ah]<;>try refine ab ?_ ?_)
def QN {l:List Bool}{i j:Nat}(h:i<D l)(b:Bool):(l.set i b).getD j false=if i=j then b else l.getD j false:=by
 rw[dG,dG,lF]
 split
 ·rename_i e;subst e
  first|rfl|(rw[aJ h];rfl)
 ·rfl
def kr (a b:List Bool):Prop:=∀i,a.getD i false=true->b.getD i false=true
def kr.refl (a:List Bool):kr a a:=λ_ h=>h
def kr.trans {a b c:List Bool}(h:kr a b)(G:kr b c):kr a c:=λi Z=>G i (h i Z)
def ahm:∀{a b:List Bool},D a=(D b)->kr a b->a≠b->b.count false<a.count false
 | [],[],_,_,h=>absurd rfl h
 | [],_::_,h,_,_=>by cases h
 |_::_,[],h,_,_=>by cases h
 |x::a,y::b,ae,hle,bo=>by
  have Bt:kr a b:=λi Z=>by
   have:=hle (i+1);simp only[List.getD_cons_succ] at this;exact this Z
  have aq:=hle 0;simp only[List.getD_cons_zero] at aq;have nD:(D a)=D b:=by simpa using ae
  by_cases mK:a=b
  ·subst mK;rcases x<;>rcases y
   ·exact absurd rfl bo
   ·simp
   ·exact absurd (aq rfl) (by decide)
   ·exact absurd rfl bo
  ·have:=ahm nD Bt mK;rcases x<;>rcases y
   ·simp;omega
   ·simp;omega
   ·exact absurd (aq rfl) (by decide)
   ·simp;omega
section
variable (cap base:List av) (ls:List cl)
def Bb (fed:List Bool)(i:Nat):Prop:=(cap.getD i bA).1.1>0/\((base.getD i bA).1.1>0\/∃l∈ls,l.2.1=(i:Int)/\l.2.2.1.1>0/\fed.getD l.1.toNat false=true)
def xA (fed:List Bool):Prop:=∀i,i<(D cap)->Bb cap base ls fed i->fed.getD i false=true
end
def Bb.mono {cap base:List av}{ls:List cl}{a b:List Bool}{i:Nat}(h:Bb cap base ls a i)(hle:kr a b):Bb cap base ls b i:=⟨h.1,h.2.imp id fun⟨l,F,G,aa,aX⟩=>⟨l,F,G,aa,hle _ aX⟩⟩
def ahn {fed:List Bool}{i:Nat}:∀(ls:List cl) (b:Bool),tg fed i ls b=true↔b=true\/∃l∈ls,l.2.1=(i:Int)/\l.2.2.1.1>0/\fed.getD l.1.toNat false=true
 | [],b=>by simp[tg]
 |l::r,b=>by
  unfold tg;rw[ahn r];simp only[tz,fe,beq_iff_eq,decide_eq_true_eq,kt,or_assoc]
  constructor
  ·rintro (h|h|⟨x,F,G⟩)
   ·exact .inl h
   ·exact .inr ⟨l,.inl rfl,h⟩
   ·exact .inr ⟨x,.inr F,G⟩
  ·rintro (h|⟨x,rfl|F,G⟩)
   ·exact .inl h
   ·exact .inr (.inl G)
   ·exact .inr (.inr ⟨x,F,G⟩)
def aho {cap base:List av}{ls:List cl}{fed:List Bool}{i:Nat}:(tg fed i ls (decide ((base.getD i bA).1.1>0))&&decide ((cap.getD i bA).1.1>0))=true↔Bb cap base ls fed i:=by
 unfold Bb;rw[fe,ahn,decide_eq_true_eq,decide_eq_true_eq,And.comm]
def Xr {cap base:List av}{ls:List cl}:∀(k i:Nat) (fed:List Bool),i+k<=(D fed)->kr fed (pt cap base ls k i fed)
 |0,_,_,_=>kr.refl _
 |k+1,i,fed,h=>by
  unfold pt;refine kr.trans ?_ (Xr k (i+1) _ (by rw[fj];omega));intro j Y;rw[QN (by omega)]
  split
  ·rename_i e;subst e;rw[Y];rfl
  ·exact Y
def ahp {cap base:List av}{ls:List cl}{b2:List Bool}(ez:xA cap base ls b2):∀(k i:Nat) (fed:List Bool),D fed=(D cap)->i+k<=(D cap)->kr fed b2->kr (pt cap base ls k i fed) b2
 |0,_,_,_,_,h=>h
 |k+1,i,fed,ae,Q,h=>by
  unfold pt;refine ahp ez k (i+1) _ (by rw[fj];exact ae) (by omega) ?_;intro j Y;rw[QN (by omega)] at Y
  split at Y
  ·rename_i e;subst e;rw[tz] at Y;rcases Y with Y|Y
   ·exact h _ Y
   ·exact ez i (by omega) ((aho.1 Y).mono h)
  ·exact h _ Y
def ahq {cap base:List av}{ls:List cl}:∀(k i:Nat) (fed:List Bool),i+k<=(D fed)->pt cap base ls k i fed=fed->∀j,i<=j->j<i+k->Bb cap base ls fed j->fed.getD j false=true
 |0,_,_,_,_,j,F,G,_=>absurd G (by omega)
 |k+1,i,fed,Q,h,j,F,G,L=>by
  unfold pt at h;have bB:=Xr (cap:=cap) (base:=base) (ls:=ls) k (i+1) (fed.set i (fed.getD i false||(tg fed i ls (decide ((base.getD i bA).1.1>0))&&decide ((cap.getD i bA).1.1>0)))) (by rw[fj];omega);rw[h] at bB;have Z:=bB i;rw[QN (by omega),aJ rfl] at Z
  have al:(fed.getD i false||(tg fed i ls (decide ((base.getD i bA).1.1>0))&&decide ((cap.getD i bA).1.1>0)))=fed.getD i false:=by
   rcases aj:fed.getD i false
   ·rcases aS:(false||(tg fed i ls (decide ((base.getD i bA).1.1>0))&&decide ((cap.getD i bA).1.1>0)))
    ·rfl
    ·rw[aj] at Z;exact absurd (Z aS) (by decide)
   ·rfl
  have O:fed.set i (fed.getD i false)=fed:=by
   rw[dG,bc (by omega:i<D fed)];exact List.set_getElem_self _
  by_cases hW:i=j
  ·subst hW;rw[<-al,tz];exact .inr (aho.2 L)
  ·rw[al,O] at h;exact ahq k (i+1) fed (by omega) h j (by omega) (by omega) L
def ahr {cap base:List av}{ls:List cl}{fed:List Bool}(h:pt cap base ls (D cap) 0 fed=fed):∀k,rQ cap base ls k fed=fed
 |0=>rfl
 |k+1=>by
  unfold rQ;rw[h];exact ahr h k
def ahs {cap base:List av}{ls:List cl}:∀(k:Nat) (fed:List Bool),D fed=(D cap)->fed.count false<=k->xA cap base ls (rQ cap base ls k fed)/\(rQ cap base ls k fed).length=D cap/\∀b2,xA cap base ls b2->kr fed b2->kr (rQ cap base ls k fed) b2
 |0,fed,ae,U=>by
  refine⟨λi Z _=>?_,ae,λb2 _ h=>h⟩;have aq:fed.count false=0:=by omega
  rw[List.count_eq_zero] at aq;show fed.getD i false=true;rw[dG,bc (by omega)];rcases h:fed[i]
  ·exact absurd (h ▸ ha _) aq
  ·rfl
 |k+1,fed,ae,U=>by
  by_cases aP:pt cap base ls (D cap) 0 fed=fed
  ·rw[ahr aP];exact⟨λi Z L=>ahq _ 0 fed (by omega) aP i (by omega) (by omega) L,ae,λb2 _ h=>h⟩
  ·have F:=Xr (cap:=cap) (base:=base) (ls:=ls) (D cap) 0 fed (by omega);have G:=Xo (cap:=cap) (base:=base) (ls:=ls) (D cap) 0 fed;have aa:=ahm G.symm F (Ne.symm aP);unfold rQ;obtain⟨cH,cO,gT⟩:=ahs (base:=base) (ls:=ls) k (pt cap base ls (D cap) 0 fed) (G.trans ae) (by omega);exact⟨cH,cO,λb2 ez h=>gT b2 ez (ahp ez _ 0 fed ae (by omega) h)⟩
def aht {cap:List av}{i:Nat}{s:List Bool×Bool}(h:(pj cap i s).2=false):pj cap i s=s/\s.2=false/\((cap.getD i bA).1.1>0->s.1.getD i false=true):=by
 unfold pj at h ⊢
 split at h
 ·cases h
 ·rename_i U;rw[aR U];refine⟨rfl,h,λaP=>?_⟩;rw[fe,decide_eq_true_eq] at U;rcases aj:s.1.getD i false
  ·exact absurd ⟨by rw[aj];rfl,aP⟩ U
  ·rfl
def ahu {cap base:List av}{ls:List cl}{b2:List Bool}{i:Nat}{s:List Bool×Bool}(ez:xA cap base ls b2)(ae:s.1.length=D cap)(Z:i<D cap)(h:kr s.1 b2)(L:(cap.getD i bA).1.1>0->Bb cap base ls b2 i):kr (pj cap i s).1 b2/\(pj cap i s).1.length=D cap:=by
 unfold pj
 split
 ·rename_i U;rw[fe,decide_eq_true_eq] at U;refine⟨λj Y=>?_,by rw[fj];exact ae⟩
  dsimp only at Y;rw[QN (by omega)] at Y
  split at Y
  ·rename_i e;subst e;exact ez i Z (L U.2)
  ·exact h _ Y
 ·exact⟨h,ae⟩
def ahv {cap base:List av}:∀(k i:Nat) (s:List Bool×Bool),(qS cap base k i s).2=false->qS cap base k i s=s/\s.2=false/\∀j,i<=j->j<i+k->(base.getD j bA).1.1>0->(cap.getD j bA).1.1>0->s.1.getD j false=true
 |0,i,s,h=>⟨rfl,h,λj F G=>absurd G (by omega)⟩
 |k+1,i,s,h=>by
  unfold qS at h ⊢;obtain⟨F,G,aa⟩:=ahv k (i+1) _ h
  by_cases R:decide ((base.getD i bA).1.1>0)=true
  ·rw[aJ R] at F G aa ⊢;obtain⟨cH,cO,gT⟩:=aht G;rw[cH] at F aa ⊢;refine⟨F,cO,λj nX wm QO QP=>?_⟩
   by_cases e:i=j
   ·subst e;exact gT QP
   ·exact aa j (by omega) (by omega) QO QP
  ·rw[aR R] at F G aa ⊢;refine⟨F,G,λj nX wm QO QP=>?_⟩
   by_cases e:i=j
   ·subst e;exact absurd (mL QO) R
   ·exact aa j (by omega) (by omega) QO QP
def Xs {cap base:List av}{ls:List cl}{b2:List Bool}(ez:xA cap base ls b2):∀(k i:Nat) (s:List Bool×Bool),s.1.length=(D cap)->i+k<=(D cap)->kr s.1 b2->kr (qS cap base k i s).1 b2/\(qS cap base k i s).1.length=D cap
 |0,_,_,ae,_,h=>⟨h,ae⟩
 |k+1,i,s,ae,Q,h=>by
  unfold qS
  by_cases R:decide ((base.getD i bA).1.1>0)=true
  ·rw[aJ R];obtain⟨cH,cO⟩:=ahu ez ae (by omega) h λU=>⟨U,.inl (of_decide_eq_true R)⟩;exact Xs ez k (i+1) _ cO (by omega) cH
  ·rw[aR R];exact Xs ez k (i+1) _ ae (by omega) h
def ahw {cap:List av}:∀(ls:List cl) (s:List Bool×Bool),(rJ cap ls s).2=false->rJ cap ls s=s/\s.2=false/\∀l∈ls,s.1.getD l.1.toNat false=true->l.2.2.1.1>0->(cap.getD l.2.1.toNat bA).1.1>0->s.1.getD l.2.1.toNat false=true
 | [],s,h=>⟨rfl,h,λl ae=>by cases ae⟩
 |l::r,s,h=>by
  unfold rJ at h ⊢;obtain⟨F,G,aa⟩:=ahw r _ h
  by_cases R:(s.1.getD l.1.toNat false&&decide (l.2.2.1.1>0))=true
  ·rw[aJ R] at F G aa ⊢;obtain⟨cH,cO,gT⟩:=aht G;rw[cH] at F aa ⊢;refine⟨F,cO,λx J aj hw zk=>?_⟩;rcases kt.1 J with rfl|J
   ·exact gT zk
   ·exact aa x J aj hw zk
  ·rw[aR R] at F G aa ⊢;refine⟨F,G,λx J aj hw zk=>?_⟩;rcases kt.1 J with rfl|J
   ·exact absurd (by rw[aj,mL hw];rfl) R
   ·exact aa x J aj hw zk
def Xt {cap base:List av}{ahx:List cl}{b2:List Bool}(ez:xA cap base ahx b2):∀(ls:List cl) (s:List Bool×Bool),(∀l∈ls,l∈ahx/\0<=l.2.1/\l.2.1<D cap)->s.1.length=(D cap)->kr s.1 b2->kr (rJ cap ls s).1 b2/\(rJ cap ls s).1.length=D cap
 | [],_,_,ae,h=>⟨h,ae⟩
 |l::r,s,eY,ae,h=>by
  unfold rJ;obtain⟨i0,i1,i2⟩:=eY l (by simp)
  by_cases R:(s.1.getD l.1.toNat false&&decide (l.2.2.1.1>0))=true
  ·rw[aJ R];rw[fe,decide_eq_true_eq] at R;obtain⟨cH,cO⟩:=ahu (i:=l.2.1.toNat) ez ae (by omega) h λU=>⟨U,.inr ⟨l,i0,by omega,R.2,h _ R.1⟩⟩
   exact Xt ez r _ (λx J=>eY x (by simp[J])) cO cH
  ·rw[aR R];exact Xt ez r _ (λx J=>eY x (by simp[J])) ae h
def ahy {cap base:List av}{ls:List cl}(eY:∀l∈ls,0<=l.2.1/\l.2.1<D cap):∀(k:Nat) (fed:List Bool),D fed=(D cap)->fed.count false<k->xA cap base ls (xq cap base ls k fed)/\(xq cap base ls k fed).length=D cap/\∀b2,xA cap base ls b2->kr fed b2->kr (xq cap base ls k fed) b2
 |0,_,_,h=>absurd h (by omega)
 |k+1,fed,ae,U=>by
  have BI:AX (D cap) (fed.count false) (tc cap base ls fed):=Wo ls _ (Wn (D cap) 0 (fed,false) ⟨ae,c8 _,λh=>by cases h⟩ (by omega)) eY
  have hle:∀b2,xA cap base ls b2->kr fed b2->kr (tc cap base ls fed).1 b2:=λb2 ez h=>by
   obtain⟨a,b⟩:=Xs ez (D cap) 0 (fed,false) ae (by omega) h;exact (Xt ez ls _ (λl ae=>⟨ae,eY l ae⟩) b a).1
  have jQ:(tc cap base ls fed).2=false->(tc cap base ls fed).1=fed/\xA cap base ls fed:=λh=>by
   unfold tc at h ⊢;obtain⟨F,G,aa⟩:=ahw ls _ h;obtain⟨cH,cO,gT⟩:=ahv (D cap) 0 (fed,false) G;rw[F,cH];rw[cH] at aa;refine⟨rfl,λi Z L=>?_⟩;obtain⟨dg,eI|⟨l,ae,dr,hw,aj⟩⟩:=L
   ·exact gT i (by omega) (by omega) eI dg
   ·have r6:l.2.1.toNat=i:=by omega
    have:=aa l ae aj hw (by rw[r6];exact dg);rw[r6] at this;exact this
  unfold xq;rcases aS:(tc cap base ls fed).2
  ·simp only[cC,if_false];obtain⟨e,ea⟩:=jQ aS;rw[e];exact⟨ea,ae,λb2 _ h=>h⟩
  ·simp only[if_true];obtain⟨i1,i2,i3⟩:=BI;have:=i3 aS;obtain⟨cH,cO,gT⟩:=ahy eY k (tc cap base ls fed).1 i1 (by omega);exact⟨cH,cO,λb2 ez h=>gT b2 ez (hle b2 ez h)⟩
def Xu {fed:List Bool}{j:Nat}:∀(k i:Nat) (c:List av),j<(D c)->(rK fed k i c)[j]?=if i<=j/\j<i+k/\fed.getD j false=false then some hh else c[j]?
 |0,i,c,Y=>by rw[aR (by omega)];rfl
 |k+1,i,c,Y=>by
  unfold rK
  by_cases aj:fed.getD i false=true
  ·rw[aJ aj,Xu k (i+1) c Y]
   by_cases e:i=j
   ·subst e;rw[aR (by omega),aR (by rw[aj];simp)]
   ·congr 1
    exact propext ⟨fun⟨a,b,c⟩=>⟨by omega,by omega,c⟩,fun⟨a,b,c⟩=>⟨by omega,by omega,c⟩⟩
  ·rw[aR aj,Xu k (i+1) (c.set i hh) (by rw[fj];exact Y),lF];have Rw:fed.getD i false=false:=by simpa using aj
   by_cases e:i=j
   ·subst e;rw[aR (by omega),aJ rfl,aJ Y,aJ ⟨c8 _,by omega,Rw⟩]
   ·rw[aR e]
    congr 1
    exact propext ⟨fun⟨a,b,c⟩=>⟨by omega,by omega,c⟩,fun⟨a,b,c⟩=>⟨by omega,by omega,c⟩⟩
def aus {cap base:List av}{ls:List cl}(eY:∀l∈ls,0<=l.2.1/\l.2.1<D cap):vY (rQ cap base ls (D cap) (cf (D cap) false)) cap=GA cap base ls:=by
 have ae:(cf (D cap) false).length=D cap:=hr
 have aA:∀b2,kr (cf (D cap) false) b2:=λb2 i h=>by
  rw[dG,List.getElem?_replicate] at h
  split at h
  ·cases h
  ·cases h
 have mo:(cf (D cap) false).count false=D cap:=List.count_replicate_self;obtain⟨dw,dV,hQ⟩:=ahs (cap:=cap) (base:=base) (ls:=ls) (D cap) _ ae (by omega);obtain⟨bR,cz,er⟩:=ahy (base:=base) eY (D cap+1) _ ae (by omega);have mK:=hQ _ bR (aA _);have aut:=er _ dw (aA _);unfold GA PH;generalize rQ cap base ls (D cap) (cf (D cap) false)=A at *;generalize xq cap base ls (D cap+1) (cf (D cap) false)=B at *;refine qm λj=>?_;rcases gX j (D cap) with Y|Y
 ·rw[Xu _ _ _ Y];unfold vY;rw[bd,r3 Y];have dg:=bc Y;simp only[kU];rcases e9:A.getD j false
  ·have n9:B.getD j false=false:=by
    rcases n9:B.getD j false
    ·rfl
    ·rw[aut j n9] at e9;cases e9
   have:Ba A cap j=hh:=by unfold Ba;rw[e9];rfl
   rw[this,aJ ⟨dF _,by omega,n9⟩]
  ·have n9:=mK j e9;have:Ba A cap j=cap.getD j bA:=by unfold Ba;rw[e9];rfl
   rw[this,aR (by rw[n9];simp),dG,dg]
   rfl
 ·have F:(rK B (D cap) 0 cap).length=D cap:=by
   have:∀(k i:Nat) (c:List av),(rK B k i c).length=D c:=by
    intro k
    induction k with
    |zero=>intro i c;rfl
    |succ k a2=>intro i c;unfold rK;split<;>rw[a2];rw[fj]
   exact this _ _ _
  rw[lk (by unfold vY;rw[ah,tE];exact Y),lk (by omega)]
def auu (cap base:List av)(ls:List cl):QL cap base ls=AW cap base ls:=by
 unfold QL AW;rcases L:o6 cap base ls
 ·rfl
 ·obtain⟨-,-,-,eY,-⟩:=xp L;simp only[if_true];rw[aus λl ae=>⟨(eY l ae).2.2.1,(eY l ae).2.2.2.1⟩]
def ahz {cap base:List av}{ls:List cl}(U:∀f∈cap,okF f)(R:∀f∈base,okF f)(ae:(D base)=D cap)(aA:(D cap)<=40):∀(k:Nat) (left:List Bool) (rounds:List (List Nat)),(pf cap base ls k left rounds).2.2=0->(pf cap base ls k left rounds).1.length=D cap
 |0,_,_,h=>by cases h
 |k+1,left,rounds,h=>by
  unfold pf at h ⊢
  split at h
  ·rename_i L;rw[aJ L]
   split at h
   ·cases h
   ·exact (Py U R ae aA).2 L
   ·exact ahz U R ae aA k _ _ h
  ·cases h
def auv {cap base:List av}{ls:List cl}(h:ox cap base ls)(he:(l7 cap base ls).2.2=0):(l7 cap base ls).1.length=D cap:=by
 unfold l7 at he ⊢
 split at he
 ·rename_i L;rw[aJ L];obtain⟨R,aA,-⟩:=xp L;exact ahz h.1.2 h.2.1.2 R aA _ _ _ he
 ·cases he
def auw {rs:List b9}{n:Int}(h:((mF rs n).2==0)=false):(mF rs n).1=[]:=by
 unfold mF at h ⊢
 split
 ·rename_i L;rw[aJ L] at h
  split
  ·rfl
  ·split
   ·rfl
   ·rename_i F G;rw[aR F,aR G] at h
    cases h
 ·rfl
def auy (ls:List cl)(n:Int):Prop:=qQ ls/\(ow ls n=true->(mJ ls n.toNat).all (·.2)=true)
def QQ:=bG xd λ(ls,n)=>b8 (auy ls n) (.same (rM (xv ls n)))
@[go_sem] def auz (ls n):=cj QQ rfl O1 (ls,n) rfl
def auA (T:bg)(h1:T B7=aE GX)(zt:T S8=aE Qn)(g6:T B8=aE Hc)(dQ:T sv=aE A3)(im:T E1=aE Lo)(iq:T IM=aE LF):WF T agk QQ:=by
 refine b5 λ(ls,n)=>cn λU=>⟨rfl,b4 ?_⟩;simp only[agk,xd,bV];obtain⟨U,LH⟩:=U;unfold xv;rcases L:ow ls n
 ·simp only[cC,if_false];refine af ?_;repeat' (intro (ag:_=_)<;>simp only[ag,go_sem,go_sem_proc,h1,zt,g6,dQ,im,iq,U,L,rM,bN]<;>try refine ab ?_ ?_)
 ·simp only[if_true];obtain⟨aq,KH,Dr,eY⟩:=GB L;have LH:=LH L;obtain⟨n,rfl⟩:=vI aq;simp only[lX] at LH ⊢;have aA:n<=40:=by omega
  have FK:=atf ls n aA;have F:=DI 1 (by unfold dX;omega);rw[show ed ((1:Int):Rat)=kp from rfl] at F;have Dc:=xl;have vL:=Da;have j6:ox (cf n kp) (cf n hh) ls:=⟨⟨by rw[hr];omega,λf aj=>by rw[pM] at aj;rw[aj.2];exact vL⟩,⟨by rw[hr];omega,λf aj=>by rw[pM] at aj;rw[aj.2];exact Dc⟩,U⟩
  have cU:=Xl _ _ _ j6;have K2:=K0 j6;have Xv:=auv j6;generalize l7 (cf n kp) (cf n hh) ls=S at *;obtain⟨l6,Ds,KS⟩:=S;dsimp only[l8] at cU K2 Xv;dsimp only;rw[hr] at Xv;have jG:(mJ ls n).length=n:=by unfold mJ;rw[ah,tE]
  have uB:∀i,i<n->(mJ ls n)[i]?=some (mG kp ls n i):=λi Z=>by
   unfold mJ;rw[bd,r3 Z]
   rfl
  have p4:∀x∈mJ ls n,lD x.1:=λx J=>by
   unfold mJ at J;rw[h7] at J;obtain⟨i,Z,rfl⟩:=J;exact zb vL aA
  generalize e9:mJ ls n=A at *;generalize hh=nb at *;generalize kp=au at *;obtain⟨⟨kq,jK⟩,⟨pd,pe⟩⟩:=au;simp only[ar] at F;rcases Du:(KS==0)
  ·simp only[cC,if_false];refine af ?_;repeat' (intro (ag:_=_)<;>simp only[ag,go_sem,go_sem_proc,h1,zt,g6,dQ,im,iq,U,L,FK,cU,Du,rM,bN,bne,db]<;>try refine ab ?_ ?_)
  ·simp only[if_true];have aBV:=Xv (by simpa using Du);rw[LH];simp only[if_true];simp only[go_sem,go_sem_proc,h1,zt,g6,dQ,im,iq,U,L,FK,cU,Du,bne,cZ]
   refine cV [0,1,7] [] (λ((i,g):Nat×Nat) tm m=>i<=n/\(∀x∈l6.take i,(!(x.1.1==0))=false)/\tm 11=.I (.int .i64 i)/\tm 10=.ref 415056 g 5 0 i/\m 415056=some (g,aQ cE ((A.take i).map (·.1)))) (λ(i,_)=>n-i) (0,0) (by
    refine⟨dF _,by simp,rfl,?_,?_⟩
    ·simp[gL,aT]
    ·simp[aT,aQ,gL]) ?_
   intro vs ms aI aD;simp only[go_sem,go_sem_proc,h1,zt,g6,dQ,im,iq,] at aI aD;subst aI aD;rintro⟨i,g⟩ tm m Q hm ⟨Z,cX,dW,dy,tf⟩;simp only[go_sem,go_sem_proc,h1,zt,g6,dQ,im,iq,bj] at Q hm;obtain⟨ep,bm,eD⟩:=Q;rcases dt (i<n) with an|bB
   ·have d1:decide ((i:Int)<(n:Int))=true:=c5;have bJ:=e1 (i:=i) (by omega);have ahA:i<D l6:=by omega
    have fF:=bc ahA;have jo:=λh=>vm (p:=λx:av => !(x.1.1==0)) cX fF h;have ahB:=λ(h:(!(l6[i].1.1==0))=true)=>(List.any_eq_true (p:=λx:av => !(x.1.1==0))).2 ⟨l6[i],ha ahA,h⟩;generalize l6[i]=y at *;obtain⟨⟨dz,dI⟩,⟨eo,eA⟩⟩:=y;dsimp only at jo ahB;rcases q:(dz==0)
    ·rw[ahB (by rw[q];rfl)];simp only[if_true];refine af ?_;repeat' (intro (ag:_=_)<;>simp only[ag,go_sem,go_sem_proc,h1,zt,g6,dQ,im,iq,ep,bm,eD,dW,dy,tf,hm,d1,bJ,fF,q,rM,ar,bN,ah,bd,bne,db]<;>try refine ab ?_ ?_)
    ·have vM:=uB i an;have dN:=W0 kq jK pd pe ls n i ⟨vL,U,aA,an,λl ae _=>by have:=eY l ae;omega⟩
     have ahC:(mG ((kq,jK),(pd,pe)) ls n i).2=true:=(kA.1 LH) _ (cJ vM);generalize mG ((kq,jK),(pd,pe)) ls n i=da at *;have oq:A.take (i+1)=A.take i++[da]:=by rw[hn,vM];rfl
     have zf:(A.take (i+1)).map (·.1)=(A.take i).map (·.1)++[da.1]:=by rw[oq,List.map_append];rfl
     have b7:((A.take i).map (·.1)).length=i:=by rw[ah,gj];omega
     have cY:=λ(bF:b9) cs iJ=>lq m6 (λ_=>rfl) 415056 g 88 ((A.take i).map (·.1)) bF (cs:=cs) iJ (by omega) (by omega);simp only[b7] at cY;clear e9 uB;obtain⟨⟨vN,⟨v1,v2⟩,⟨ff,v4⟩⟩,ok⟩:=da;dsimp only at ahC;subst ahC;simp only[cE,ar] at dN;have jh:=cY (vN,((v1,v2),(ff,v4))) _ rfl;simp only[cE,ar,gZ,bN] at jh;rw[<-zf] at jh;refine af ?_;repeat' (intro (ag:_=_)<;>simp only[ag,go_sem,go_sem_proc,h1,zt,g6,dQ,im,iq,ep,bm,eD,dW,dy,tf,hm,d1,bJ,fF,q,F,dN,jh,ar,ah,bd,bne,cZ]<;>try refine ab ?_ ?_)
     exact⟨(i+1,g+1),by dsimp only;omega,by dsimp only;omega,jo (by rw[q];rfl),rfl,rfl,rfl⟩
   ·have d1:decide ((i:Int)<(n:Int))=false:=de;have hy:i=n:=by omega
    subst hy;have k5:A.take i=A:=dE (by omega);have qx:l6.take i=l6:=dE (by omega);rw[k5] at tf;rw[qx] at cX;have h6:(l6.any λx => !(x.1.1==0))=false:=by rw[List.any_eq_false];intro y ai;rw[cX y ai];decide
    rw[h6];simp only[cC,if_false]
    have LG:qK (A.map (·.1)):=⟨by rw[ah];omega,λr L=>by
     obtain⟨x,J,rfl⟩:=h7.1 L;exact p4 x J⟩
    have ej:=ahb (A.map (·.1)) i LG;rw[<-ahi LG] at ej;have nc:=λ(K:a6->Prop) (st:a6)=>sl (K:=K) (st:=st) m6 10 415056 g (A.map (·.1));rw[ah,jG] at nc;have ahD:=auw (rs:=A.map (·.1)) (n:=i);generalize mF (A.map (·.1)) i=S at *;obtain⟨aBW,e⟩:=S;dsimp only at ej ahD ⊢;rcases he:(e==0)
    ·rw[ahD he];refine af ?_;repeat' (intro (ag:_=_)<;>simp only[ag,go_sem,go_sem_proc,h1,zt,g6,dQ,im,iq,ep,bm,eD,dW,dy,tf,hm,d1,nc,ej,he,rM,bN,bne,db]<;>try refine ab ?_ ?_)
    ·have sa:e=0:=by simpa using he
     subst sa;refine af ?_;repeat' (intro (ag:_=_)<;>simp only[ag,go_sem,go_sem_proc,h1,zt,g6,dQ,im,iq,ep,bm,eD,dW,dy,tf,hm,d1,nc,ej,rM,bN,bne,cZ,beq_self_eq_true]<;>try refine ab ?_ ?_)
def ahE:bE:=bT 148 3 [.t 6] (M [ck 3 409003 0,bW 6 false] (M [az 21 (.call S0 []),E 7 21] (.seq (M [aB 22 3 3,c6 23 S3 22,dS 24 23,E 25 24,dJ 26 25 2,fr 27 25 (.call EK [.t 26,.c (bl 4),.c (bl 1)]),ib 28 25 27,cD 29 25 28,E 30 29,dJ 31 30 1,gM 32 30 .gtr 31 4,dJ 33 30 32,eu 34 33 1,kj 35 33 .leq 34 40,fr 36 30 (.pick (.t 33) (.t 35) (.c (.I (.bool false)))),cD 37 30 36] (bO 37 [E 38 7,E 6 38])) (M [aB 40 3 3,c6 41 yo 40,E 39 41,aN 42 0 39,aN 43 1 39,aN 44 2 39,E 8 42,E 9 43,E 10 44] (M [aB 46 3 3,c6 47 B8 46,E 45 47,aN 48 0 45,aN 49 1 45,aN 50 2 45,E 11 48,E 12 49,E 13 50] (.seq (M [E 51 10,E 52 13,br 53 .neq 51 52,E 54 53,dJ 55 54 8,dJ 56 54 11,fr 57 54 (.call tG [.t 55,.t 56]),ib 58 54 57,cD 59 54 58,E 60 59,dJ 61 60 9,dJ 62 60 12,fr 63 60 (.call E0 [.t 61,.t 62]),ib 64 60 63,cD 65 60 64] (bO 65 [bW 6 false])) (M [aB 67 3 3,c6 68 SW 67,E 66 68,aN 69 0 66,aN 70 1 66,aN 71 2 66,E 8 69,E 9 70,E 10 71] (M [aB 73 3 3,c6 74 S6 73,E 72 74,aN 75 0 72,aN 76 1 72,aN 77 2 72,E 11 75,E 12 76,E 13 77] (.seq (M [E 78 10,E 79 13,br 80 .neq 78 79,E 81 80,dJ 82 81 8,dJ 83 81 11,fr 84 81 (.call tG [.t 82,.t 83]),ib 85 81 84,cD 86 81 85,E 87 86,dJ 88 87 9,dJ 89 87 12,fr 90 87 (.call E0 [.t 88,.t 89]),ib 91 87 90,cD 92 87 91] (bO 92 [bW 6 false])) (M [aC 94 2 3,aH 95 1 94,E 96 1,bI 97 EY 95 96,E 93 97,aN 98 0 93,aN 99 1 93,aN 100 2 93,E 14 98,E 15 99,E 16 100] (M [aC 102 2 3,aH 103 1 102,E 104 1,bI 105 S1 103 104,E 101 105,aN 106 0 101,aN 107 1 101,aN 108 2 101,E 17 106,E 18 107,E 19 108] (M [E 109 16,E 110 19,br 111 .eql 109 110,E 112 111,eu 113 112 14,eu 114 112 17,fA 115 112 (.call tG [.t 113,.t 114]),fE 116 112 115,E 117 116,eu 118 117 15,eu 119 117 18,fA 120 117 (.call tG [.t 118,.t 119]),fE 121 117 120,E 20 121] (e2 [E 122 7,E 123 122,eu 124 123 20,fE 125 123 124,E 126 125,hH 127 126 2 3,iz 128 126 1 127,eu 129 126 1,eu 130 126 2,fA 131 126 (.call IT [.t 128,.t 129,.t 130]),hH 132 126 2 3,iz 133 126 1 132,eu 134 126 1,eu 135 126 2,fA 136 126 (.call S2 [.t 133,.t 134,.t 135]),fA 137 126 (.beq false (.t 131) (.t 136)),fE 138 126 137,E 139 138,B9 140 139 3 3,eu 141 139 2,fA 142 139 (.call SV [.t 140,.t 141]),B9 143 139 3 3,eu 144 139 2,fA 145 139 (.call S5 [.t 143,.t 144]),fA 146 139 (.beq false (.t 142) (.t 145)),fE 147 139 146,E 6 147] alI .ret)))))))))))))
def ahF:bE:=bT 14 2 [.cell 4 4 true] (M [bP 4 412004 cK] (M [E 8 0,E 9 1,bI 10 IB 8 9,E 7 10,aN 11 0 7,aN 12 1 7,bP 5 412005 cK,aZ 4 5 11,E 6 12] (M [aB 13 4 5,aZ 4 4 13] .ret)))
def ahG:bE:=bT 169 0 [.t 0] (M [bW 0 false] (M [az 31 (.call oS [.c (.I (.str [98,97,115,101,32,43,32,114,97,116,101,32,99,32,47,32,50,32,43,32,114,97,116,101,32,100,32,42,32,51]))]),E 30 31,aN 32 0 30,aN 33 1 30,aN 34 2 30,aN 35 3 30,E 1 32,E 2 33,E 3 34,E 4 35] (M [az 37 (.call oS [.c (.I (.str [49,32,45,32,114,97,116,101,32,99]))]),E 36 37,aN 38 0 36,aN 39 1 36,aN 40 2 36,aN 41 3 36,E 5 38,E 6 39,E 7 40,E 8 41] (M [az 43 (.call oS [.c (.I (.str [114,97,116,101,32,99,32,42,32,114,97,116,101,32,99]))]),E 42 43,aN 44 0 42,aN 45 1 42,aN 46 2 42,aN 47 3 42,E 9 44,E 10 45,E 11 46,E 12 47] (M [az 49 (.call oS [.c (.I (.str [102,97,99,116,32,97,32,45,32,102,97,99,116,32,98,32,43,32,114,97,116,101,32,99]))]),E 48 49,aN 50 0 48,aN 51 1 48,aN 52 2 48,aN 53 3 48,E 13 50,E 14 51,E 15 52,E 16 53] (M [az 54 (.call nI [.c (bl 1),.c (bl 2)]),az 55 (.build [bl 0,bl 0,bl 0,.nil,bl 0,.nil] [(0,1,.c (bl 0)),(1,1,.c (bl 1)),(2,4,.t 54)]),az 56 (.call nI [.c (bl 1),.c (bl 1)]),az 57 (.build [bl 0,bl 0,bl 0,.nil,bl 0,.nil] [(0,1,.c (bl 1)),(1,1,.c (bl 0)),(2,4,.t 56)]),az 58 (.dM 413058 false [bl 0,bl 0,bl 0,.nil,bl 0,.nil,bl 0,bl 0,bl 0,.nil,bl 0,.nil] 6 2 [(0,6,.t 55),(6,6,.t 57)]),E 17 58] (M [az 59 (.call nI [.c (bl 1),.c (bl 1)]),az 60 (.build [bl 0,bl 0,bl 0,.nil,bl 0,.nil] [(0,1,.c (bl 0)),(1,1,.c (bl 1)),(2,4,.t 59)]),az 61 (.call nI [.c (bl 1),.c (bl 1)]),az 62 (.build [bl 0,bl 0,bl 0,.nil,bl 0,.nil] [(0,1,.c (bl 1)),(1,1,.c (bl 0)),(2,4,.t 61)]),az 63 (.dM 413063 false [bl 0,bl 0,bl 0,.nil,bl 0,.nil,bl 0,bl 0,bl 0,.nil,bl 0,.nil] 6 2 [(0,6,.t 60),(6,6,.t 62)]),E 18 63] (M [E 65 17,az 66 (.call EY [.t 65,.c (bl 2)]),E 64 66,aN 67 0 64,aN 68 1 64,aN 69 2 64,E 19 67,E 20 68,E 21 69] (M [E 71 18,az 72 (.call EY [.t 71,.c (bl 2)]),E 70 72,aN 73 0 70,aN 74 1 70,aN 75 2 70,E 22 73,E 23 74,E 24 75] (M [az 77 (.call nI [.c (bl 10),.c (bl 1)]),az 78 (.call nI [.c (bl 10),.c (bl 1)]),az 79 (.dM 413079 false [bl 0,.nil,bl 0,.nil,bl 0,.nil,bl 0,.nil] 4 2 [(0,4,.t 77),(4,4,.t 78)]),az 80 (.call nI [.c (bl 1),.c (bl 1)]),az 81 (.call nI [.c (bl 2),.c (bl 1)]),az 82 (.dM 413082 false [bl 0,.nil,bl 0,.nil,bl 0,.nil,bl 0,.nil] 4 2 [(0,4,.t 80),(4,4,.t 81)]),E 83 17,az 84 (.build yp [(0,1,.t 79),(1,1,.t 82),(2,1,.t 83)]),c6 85 yo 84,E 76 85,aN 86 0 76,aN 87 1 76,aN 88 2 76,E 25 86,E 26 87,E 27 88] (M [E 89 4,bb 90 .eql 89 0,E 91 90,eu 92 91 1,fA 93 91 (.call nI [.c (bl 1),.c (bl 2)]),fA 94 91 (.call nI [.c (bl 3),.c (bl 1)]),fA 95 91 (.dM 413095 false [bl 0,.nil,bl 0,.nil,bl 0,.nil,bl 0,.nil] 4 2 [(0,4,.t 93),(4,4,.t 94)]),fA 96 91 (.call tG [.t 92,.t 95]),fE 97 91 96,E 98 97,eu 99 98 2,fA 100 98 (.call nI [.c (bl 1),.c (bl 1)]),fA 101 98 (.dM 413101 false cK 4 1 [(0,4,.t 100)]),fA 102 98 (.call tG [.t 99,.t 101]),fE 103 98 102,E 104 103,eu 105 104 3,fA 106 104 (.build [bl 0,bl 0,bl 0,.I (.str []),.nil] [(0,1,.c (bl 1)),(3,1,.c (.I (.str [98,97,115,101])))]),fA 107 104 (.dM 413107 false [bl 0,bl 0,bl 0,.I (.str []),.nil] 5 1 [(0,5,.t 106)]),fA 108 104 (.call S7 [.t 105,.t 107]),fE 109 104 108,E 110 109,eu 111 110 8,kj 112 110 .eql 111 16,fE 113 110 112,E 114 113,eu 115 114 12,kj 116 114 .eql 115 16,fE 117 114 116,E 118 117,eu 119 118 16,kj 120 118 .eql 119 16,fE 121 118 120,E 28 121] (M [E 122 21,bb 123 .eql 122 0,E 124 123,eu 125 124 19,fA 126 124 (.call nI [.c (bl 4),.c (bl 1)]),fA 127 124 (.call nI [.c (bl 3),.c (bl 1)]),fA 128 124 (.dM 413128 false [bl 0,.nil,bl 0,.nil,bl 0,.nil,bl 0,.nil] 4 2 [(0,4,.t 126),(4,4,.t 127)]),fA 129 124 (.call tG [.t 125,.t 128]),fE 130 124 129,E 131 130,eu 132 131 17,eu 133 131 19,fA 134 131 (.call IT [.t 132,.c (bl 2),.t 133]),fE 135 131 134,E 136 135,eu 137 136 24,kj 138 136 .eql 137 16,fE 139 136 138,E 140 139,eu 141 140 23,fA 142 140 (.call nI [.c (bl 1),.c (bl 1)]),fA 143 140 (.call nI [.c (bl 1),.c (bl 1)]),fA 144 140 (.dM 413144 false [bl 0,.nil,bl 0,.nil,bl 0,.nil,bl 0,.nil] 4 2 [(0,4,.t 142),(4,4,.t 143)]),fA 145 140 (.call tG [.t 141,.t 144]),fE 146 140 145,E 29 146] (M [E 147 28,E 148 147,eu 149 148 29,fE 150 148 149,E 151 150,eu 152 151 27,kj 153 151 .eql 152 0,fE 154 151 153,E 155 154,eu 156 155 25,fA 157 155 (.call nI [.c (bl 6),.c (bl 1)]),fA 158 155 (.call nI [.c (bl 5),.c (bl 1)]),fA 159 155 (.dM 413159 false [bl 0,.nil,bl 0,.nil,bl 0,.nil,bl 0,.nil] 4 2 [(0,4,.t 157),(4,4,.t 158)]),fA 160 155 (.call tG [.t 156,.t 159]),fE 161 155 160,E 162 161,eu 163 162 26,fA 164 162 (.dM 413164 false [bl 0] 1 1 [(0,1,.c (bl 1))]),fA 165 162 (.dM 413165 false [bl 0] 1 1 [(0,1,.c (bl 0))]),fA 166 162 (.dM 413166 false [.nil,.nil] 1 2 [(0,1,.t 164),(1,1,.t 165)]),fA 167 162 (.call E0 [.t 163,.t 166]),fE 168 162 167,E 0 168] .ret)))))))))))))
def ahH:bE:=bT 60 2 [.t 4] (M [ck 2 414002 0,ck 3 414003 1,bW 4 false] (.seq (M [aC 6 0 2,aH 7 1 6,aC 8 0 3,aH 9 1 8,br 10 .neq 7 9,E 11 10,fq 12 11 1 2,fz 13 11 1 12,fq 14 11 1 3,fz 15 11 1 14,nK 16 11 .neq 13 15,cD 17 11 16,E 18 17,fq 19 18 2 2,fz 20 18 1 19,fq 21 18 2 3,fz 22 18 1 21,nK 23 18 .neq 20 22,cD 24 18 23,E 25 24,fq 26 25 3 2,fz 27 25 1 26,fq 28 25 3 3,fz 29 25 1 28,nK 30 25 .neq 27 29,cD 31 25 30,E 32 31,fq 33 32 4 2,fz 34 32 1 33,nJ 35 32 34,fq 36 32 4 3,fz 37 32 1 36,nJ 38 32 37,nK 39 32 .neq 35 38,cD 40 32 39] (bO 40 [bW 4 false])) (.seq (M [a8 5 0] (dT 0 (.seq (M [E 41 5,aC 42 4 2,aH 43 1 42,cd 44 43,br 45 .lss 41 44] (dd 45 0)) (.seq (.block 1 (e2 [aC 48 4 2,aH 49 1 48,E 50 5,bC 51 5 49 50,aB 52 5 51,aC 53 4 3,aH 54 1 53,E 55 5,bC 56 5 54 55,aB 57 5 56,bI 58 Nu 52 57,dS 59 58] ZU (bO 59 [bW 4 false]))) (.ops [E 46 5,bb 47 .add 46 1,E 5 47]))))) (M [bW 4 true] .ret))))
def LI:List UInt8:=[98,97,115,101,32,43,32,114,97,116,101,32,99,32,47,32,50,32,43,32,114,97,116,101,32,100,32,42,32,51]
def LJ:List UInt8:=[49,32,45,32,114,97,116,101,32,99]
def LK:List UInt8:=[114,97,116,101,32,99,32,42,32,114,97,116,101,32,99]
def LL:List UInt8:=[102,97,99,116,32,97,32,45,32,102,97,99,116,32,98,32,43,32,114,97,116,101,32,99]
def LM:Data:=.dp [.ao [[.int .i64 1,.ao [[.int .i64 1]],.int .i64 1,.ao [[.int .i64 2]]],[.int .i64 1,.ao [[.int .i64 3]],.int .i64 1,.ao [[.int .i64 1]]]],.ao [[.int .i64 1,.ao [[.int .i64 1]],.int .i64 1,.ao [[.int .i64 1]]]],.ao [[.int .i64 1,.int .i64 0,.int .i64 0,.str [98,97,115,101],.ao []]],.int .i64 0]
def vZ:Data:=.dp [.ao [],.ao [],.ao [],.int .i64 16]
open Classical in
def v3:List Data->Option di:=λds=>if ds=[.str LI] then some (.same LM) else if ds=[.str LJ]\/ds=[.str LK]\/ds=[.str LL] then some (.same vZ) else none
def auB:v3 [.str LI]=some (.same LM):=by unfold v3;rw[aJ rfl]
def auC:v3 [.str LJ]=some (.same vZ):=by
 unfold v3;rw[aR (λh=>by simp only[bj,Data.str.injEq] at h;exact absurd h.1 (by decide)),aJ (.inl rfl)]
def auD:v3 [.str LK]=some (.same vZ):=by
 unfold v3;rw[aR (λh=>by simp only[bj,Data.str.injEq] at h;exact absurd h.1 (by decide)),aJ (.inr (.inl rfl))]
def auE:v3 [.str LL]=some (.same vZ):=by
 unfold v3;rw[aR (λh=>by simp only[bj,Data.str.injEq] at h;exact absurd h.1 (by decide)),aJ (.inr (.inr rfl))]
def LN:=bG wK λ(p,q)=>b8 (dX p/\dX q) (.same (.agg (ar (ie (a9 p) (a9 q)).1)))
@[go_sem] def auF (p q):=cj LN rfl NF (p,q) rfl
def auG (T:bg)(WT:T IB=aE Le):WF T ahF LN:=by
 refine b5 λ(p,q)=>cn λU=>⟨rfl,b4 ?_⟩;simp only[ahF,wK,bV];generalize hc:ie (a9 p) (a9 q)=N at *;obtain⟨⟨⟨a,b⟩,⟨c,d⟩⟩,e⟩:=N;refine af ?_;repeat' (intro h<;>simp only[h,go_sem,go_sem_proc,WT,U,hc,cP,ar]<;>try refine ab ?_ ?_)
abbrev QR:Int×Int×Int×(List UInt8)->List Data:=λ(a,b,c,s)=>[.agg [.int .i64 a,.int .i64 b,.int .i64 c,.str s,.ao []],.agg [.int .i64 a,.int .i64 b,.int .i64 c,.str s,.ao []]]
def QS:=bG QR λ(a,b,c,s)=>some (.same (.bool true))
def auH:∀a b,QR a=QR b->a=b:=by
  rintro⟨dw,bR,ch,s1⟩ ⟨dV,cz,dB,s2⟩ h;simp only[bj,Data.int.injEq,Data.agg.injEq,Data.ao.injEq,Data.bool.injEq,Data.str.injEq,Data.ptr.injEq,Data.dp.injEq,eL,true_and,and_true] at h ⊢
  first|exact h|simpa [I1,and_assoc] using h|grind
@[go_sem] def auI (a b c s):=sm QS rfl auH (a,b,c,s) rfl
def auJ (T:bg):WF T ahH QS:=by
 refine b5 λ(a,b,c,s)=>⟨rfl,b4 ?_⟩;simp only[ahH,QR,bV];simp only[go_sem,go_sem_proc,beq_self_eq_true,bne,cZ,mV];refine cV [2,3] [414002,414003] (λ(i:Nat) tm mem=>tm 5=.I (.int .i64 0)) (λi=>i) 0 rfl ?_;intro vs ms aI aD;simp only[go_sem,go_sem_proc] at aI aD;subst aI aD;rintro i tm mem Q hm bt;simp only[go_sem,go_sem_proc,bj] at Q hm;obtain⟨c3,ei⟩:=Q;obtain⟨bY,fI⟩:=hm;refine af ?_;repeat' (intro h<;>simp only[h,go_sem,go_sem_proc,c3,ei,bt,bY,fI,mV,show decide ((0:Int)<((0:Nat):Int))=false from rfl]<;>try refine ab ?_ ?_)
abbrev QT:Int×Int×Int×(List UInt8)->List Data:=λ(a,b,c,s)=>[.ao [[.int .i64 a,.int .i64 b,.int .i64 c,.str s,.ao []]],.ao [[.int .i64 a,.int .i64 b,.int .i64 c,.str s,.ao []]]]
def QU:=bG QT λ(a,b,c,s)=>some (.same (.bool true))
def auK:∀a b,QT a=QT b->a=b:=by
  rintro⟨dw,bR,ch,s1⟩ ⟨dV,cz,dB,s2⟩ h;simp only[bj,Data.int.injEq,Data.agg.injEq,Data.ao.injEq,Data.bool.injEq,Data.str.injEq,Data.ptr.injEq,Data.dp.injEq,eL,true_and,and_true] at h ⊢
  first|exact h|simpa [I1,and_assoc] using h|grind
@[go_sem] def auL (a b c s):=sm QU rfl auK (a,b,c,s) rfl
def auM (T:bg)(LO:T Nu=aE QS):WF T agu QU:=by
 refine b5 λ(a,b,c,s)=>⟨rfl,b4 ?_⟩;simp only[agu,QT,bV];have ej:=auI a b c s;simp only[go_sem,go_sem_proc,LO,beq_self_eq_true,bne,cZ];refine cV [0,1] [] (λ(i:Nat) tm mem=>i<=1/\tm 5=.I (.int .i64 i)) (λi=>1-i) 0 ⟨by omega,rfl⟩ ?_
 intro vs ms aI aD;simp only[go_sem,go_sem_proc,LO,] at aI aD;subst aI aD;rintro i tm mem Q hm ⟨Z,bt⟩;simp only[go_sem,go_sem_proc,LO,bj] at Q;obtain⟨ep,bm⟩:=Q;rcases dt (i<1) with an|bB
 ·have aq:i=0:=by omega
  subst aq;refine af ?_;repeat' (intro h<;>simp only[h,go_sem,go_sem_proc,LO,ep,bm,bt,ej,show decide (((0:Nat):Int)<((1:Nat):Int))=true from rfl]<;>try refine ab ?_ ?_)
  exact⟨1,by omega,by omega,rfl⟩
 ·have aq:i=1:=by omega
  subst aq;refine af ?_;repeat' (intro h<;>simp only[h,go_sem,go_sem_proc,LO,ep,bm,bt,show decide (((1:Nat):Int)<((1:Nat):Int))=false from rfl]<;>try refine ab ?_ ?_)
end Go.Mini
namespace Go.Mini
open Go Go.Proofs
set_option maxRecDepth 100000 in
def auN:C8 Tryz.prog [45] [169,239,48,50] AQ 1000 oS [.I (.str LI)]=some LM:=by kernel_rfl
def auO:hY Tryz.prog oS (λds=>@ite _ (ds=[.str LI]) (QV _) (some (.same LM)) none):=Pv _ _ auN
end Go.Mini
namespace Go.Mini
open Go Go.Proofs
set_option maxRecDepth 100000 in
def auP:C8 Tryz.prog [45] [169,239,48,50] AQ 1000 oS [.I (.str LJ)]=some vZ:=by kernel_rfl
def auQ:hY Tryz.prog oS (λds=>@ite _ (ds=[.str LJ]) (QV _) (some (.same vZ)) none):=Pv _ _ auP
end Go.Mini
namespace Go.Mini
open Go Go.Proofs
set_option maxRecDepth 100000 in
def auR:C8 Tryz.prog [45] [169,239,48,50] AQ 1000 oS [.I (.str LK)]=some vZ:=by kernel_rfl
def auS:hY Tryz.prog oS (λds=>@ite _ (ds=[.str LK]) (QV _) (some (.same vZ)) none):=Pv _ _ auR
end Go.Mini
namespace Go.Mini
open Go Go.Proofs
set_option maxRecDepth 100000 in
def auT:C8 Tryz.prog [45] [169,239,48,50] AQ 1000 oS [.I (.str LL)]=some vZ:=by kernel_rfl
def auU:hY Tryz.prog oS (λds=>@ite _ (ds=[.str LL]) (QV _) (some (.same vZ)) none):=Pv _ _ auT
end Go.Mini
namespace Go.Mini
open Go Go.Proofs
def auV:hY Tryz.prog oS v3:=⟨aeM,λds r ej=>by
 unfold v3 at ej
 split at ej
 ·rename_i e
  cases ej;exact auO.run ds _ (aJ e)
 ·split at ej
  ·rename_i e
   cases ej;rcases e with e|e|e
   ·exact auQ.run ds _ (aJ e)
   ·exact auS.run ds _ (aJ e)
   ·exact auU.run ds _ (aJ e)
  ·cases ej⟩
end Go.Mini
namespace Go.Mini
open Go
abbrev ji (p q:Int):av:=((1,[p]),(1,[q]))
def Bc {p q a b:Int}(F:dX p)(G:dX q)(h:ie (a9 p) (a9 q)=(ji a b,0)):LN [.int .i64 p,.int .i64 q]=some (.same (.agg [.int .i64 1,.ao [[.int .i64 a]],.int .i64 1,.ao [[.int .i64 b]]])):=by
 rw[auF p q ⟨F,G⟩,h]
 rfl
def zu:List cl:=[(0,1,ji 1 2),(1,0,ji 1 1)]
def LP:List cl:=[(0,1,ji 1 1),(1,0,ji 1 1)]
def Xw:qQ zu:=⟨by decide,λx J=>by
 simp only[zu,kt,LQ,or_false] at J;rcases J with rfl|rfl<;>exact⟨by decide,by decide⟩⟩
def auW:qQ LP:=⟨by decide,λx J=>by
 simp only[LP,kt,LQ,or_false] at J;rcases J with rfl|rfl<;>exact⟨by decide,by decide⟩⟩
def DP (a b c d:Int):ih [ji a b,ji c d]:=⟨by simp,λx J=>by
 simp only[kt,LQ,or_false] at J;rcases J with rfl|rfl<;>exact⟨by simp[ji],by simp[ji]⟩⟩
def auX (a b:Int):ih [ji a b]:=⟨by simp,λx J=>by
 simp only[kt,LQ,or_false] at J;subst J;exact⟨by simp[ji],by simp[ji]⟩⟩
def zv {l:List av}(h:ih l):GV [.ao (l.map ar),.ao (l.map ar)]=some (.same (.bool true)):=by
 rw[asW l l ⟨h,h⟩,show Lj l l=true from mL rfl]
abbrev QW:Unit->List Data:=λ(_:Unit)=>[]
def QX:=bG QW λ(_:Unit)=>some (.same (.bool true))
def auY:∀a b,QW a=QW b->a=b:=by
  intro _ _ _;rfl
@[go_sem] def auZ:=sm QX rfl auY () rfl
def au0 (T:bg)(au1:T oS=aE v3)(au2:T nI=aE LN)(DQ:T tG=aE GV)(au3:T S7=aE QU)(DR:T EY=aE K1)(DS:T IT=aE KW)(fR:T yo=aE Di)(DT:T E0=aE Lm):WF T ahG QX:=by
 refine b5 λ_=>⟨rfl,b4 ?_⟩;simp only[ahG,QW,bV];have hZ:=auB;have X:=auC;have bZ:=auD;have bX:=auE;have au4:=Bc (p:=1) (q:=2) (a:=1) (b:=2) (by unfold dX;omega) (by unfold dX;omega) (by decide +kernel);have au5:=Bc (p:=1) (q:=1) (a:=1) (b:=1) (by unfold dX;omega) (by unfold dX;omega) (by decide +kernel);have au6:=Bc (p:=10) (q:=1) (a:=10) (b:=1) (by unfold dX;omega) (by unfold dX;omega) (by decide +kernel);have jK:=Bc (p:=2) (q:=1) (a:=2) (b:=1) (by unfold dX;omega) (by unfold dX;omega) (by decide +kernel);have pd:=Bc (p:=3) (q:=1) (a:=3) (b:=1) (by unfold dX;omega) (by unfold dX;omega) (by decide +kernel);have pe:=Bc (p:=4) (q:=1) (a:=4) (b:=1) (by unfold dX;omega) (by unfold dX;omega) (by decide +kernel);have au7:=Bc (p:=5) (q:=1) (a:=5) (b:=1) (by unfold dX;omega) (by unfold dX;omega) (by decide +kernel);have au8:=Bc (p:=6) (q:=1) (a:=6) (b:=1) (by unfold dX;omega) (by unfold dX;omega) (by decide +kernel);have Xx:=Wx zu 2 Xw;rw[show xv zu 2=([ji 4 1,ji 3 1],[],0) by decide +kernel] at Xx
 have Xy:=Wx LP 2 auW;rw[show xv LP 2=([],[ji 1 1,ji 1 1],16) by decide +kernel] at Xy
 have Xz:=afd zu 2 [ji 4 1,ji 3 1] ⟨Xw,DP _ _ _ _⟩;rw[show GC zu 2 [ji 4 1,ji 3 1]=true by decide +kernel] at Xz
 have v:=PF [ji 10 1,ji 10 1] [ji 1 1,ji 2 1] zu ⟨DP _ _ _ _,DP _ _ _ _,Xw⟩;rw[show l7 [ji 10 1,ji 10 1] [ji 1 1,ji 2 1] zu=([ji 6 1,ji 5 1],[[1],[0]],0) by decide +kernel] at v
 have s1:=zv (DP 1 2 3 1);have s2:=zv (auX 1 1);have bS:=zv (DP 4 1 3 1);have bU:=zv (DP 1 1 1 1);have ON:=zv (DP 6 1 5 1);have ex:=auL 1 0 0 [98,97,115,101]
 have ec:G1 [[1],[0]]:=⟨by decide,λx J=>by
  simp only[kt,LQ,or_false] at J;rcases J with rfl|rfl<;>decide⟩
 have rI:=WW [[1],[0]] [[1],[0]] ⟨ec,ec⟩;rw[beq_self_eq_true] at rI;simp only[LI,LJ,LK,LL,LM,vZ] at hZ X bZ bX;simp only[ji,zu,LP,rM,l8,p7,nx,ar,aG,fg,gZ,bN,show ((1:Nat):Int)=1 from rfl,show ((0:Nat):Int)=0 from rfl] at Xx Xy Xz v s1 s2 bS bU ON rI;refine af ?_;repeat' (intro h<;>simp only[h,go_sem,go_sem_proc,au1,au2,DQ,au3,DR,DS,fR,DT,hZ,X,bZ,bX,au4,au5,au6,jK,pd,pe,au7,au8,Xx,Xy,Xz,v,s1,s2,bS,bU,ON,ex,rI,beq_self_eq_true]<;>try refine ab ?_ ?_)
abbrev pv:=Nat->Nat->Rat
def lP (A:pv)(r s:Nat):pv:=λi=>if i=s then A r else if i=r then A s else A i
def Bd (A:pv)(r c s:Nat):pv:=λi k=>if i=r then lP A r s r k/lP A r s r c else lP A r s i k-lP A r s i c*(lP A r s r k/lP A r s r c)
def ahI (A:pv)(r s:Nat):lP A r s r=A s:=by
 unfold lP
 by_cases h:r=s
 ·simp[h]
 ·simp[h]
structure He (N:Nat) (a3:pv) (p c:Nat) (uv:Nat->Nat):Prop where
 qw:p<=c
 lt:∀j,j<p->uv j<c
 unit:∀j,j<p->∀i,i<N->a3 i (uv j)=if i=j then 1 else 0
 zero:∀i,p<=i->i<N->∀k,k<c->a3 i k=0
def He.free {N p c:Nat}{a3:pv}{uv:Nat->Nat}(h:He N a3 p c uv)(a0:∀i,p<=i->i<N->a3 i c=0):He N a3 p (c+1) uv :=
 ⟨by have:=h.qw;omega,λj Y=>by have:=h.lt j Y;omega,h.unit,λi Z hc k Q=>by
  by_cases K4:k=c
  ·rw[K4];exact a0 i Z hc
  ·exact h.zero i Z hc k (by omega)⟩
def He.OS {N p c s:Nat}{a3:pv}{uv:Nat->Nat}(h:He N a3 p c uv)(aP:p<N)(O:p<=s)(A6:s<N)(bo:a3 s c≠0):He N (Bd a3 p c s) (p+1) (c+1) (λj=>if j=p then c else uv j):=by
 have cU:∀i,i<N->∃a1,a1<N/\lP a3 p s i=a3 a1/\(i<p->a1=i)/\(p<=i->p<=a1):=by
  intro i Z;unfold lP
  by_cases F:i=s
  ·exact⟨p,aP,by rw[aJ F],by omega,by omega⟩
  ·by_cases G:i=p
   ·exact⟨s,A6,by rw[aR F,aJ G],by omega,by omega⟩
   ·exact⟨i,Z,by rw[aR F,aR G],by omega,by omega⟩
 have ahJ:lP a3 p s p c≠0:=by rw[ahI];exact bo
 have a0:∀i,p<=i->i<N->∀k,k<c->lP a3 p s i k=0:=by
  intro i Z hc k Q;obtain⟨a1,F,G,-,aX⟩:=cU i hc;rw[G];exact h.zero a1 (aX Z) F k Q
 refine⟨by have:=h.qw;omega,λj Y=>?_,λj Y i Z=>?_,λi Z hc k Q=>?_⟩
 ·show (if j=p then c else uv j)<c+1
  split
  ·omega
  ·have:=h.lt j (by omega);omega
 ·unfold Bd
  by_cases ahK:j=p
  ·simp only[ahK,if_true]
   by_cases xB:i=p
   ·rw[aJ xB,aJ xB];grind
   ·rw[aR xB,aR xB];grind
  ·simp only[ahK,if_false];have kf:j<p:=by omega
   have aO:lP a3 p s p (uv j)=0:=a0 p (c8 _) aP _ (h.lt j kf);rw[aO]
   by_cases xB:i=p
   ·rw[aJ xB,aR (by omega)];grind
   ·rw[aR xB];obtain⟨a1,F,G,aa,aX⟩:=cU i Z;rw[G,h.unit j kf a1 F];rcases gX i p with an|bB
    ·rw[aa an];grind
    ·rw[aR (by have:=aX bB;omega),aR (by omega)];grind
 ·unfold Bd;rw[aR (by omega)]
  by_cases K4:k=c
  ·subst K4;grind
  ·rw[a0 i (by omega) hc k (by omega),a0 p (c8 _) aP k (by omega)];grind
def ext (N:Nat)(y:Nat->Rat)(z:Rat):Nat->Rat:=λk=>if k<N then y k else z
def rR (N:Nat)(l:List av)(q:Nat->Rat):Prop:=l=((qj (N+1)).map q).map ed/\∀k,k<=N->ns (q k)
def LR (N:Nat)(rows:List dm)(a3:pv):Prop:=D rows=N/\∀(i:Nat) x,rows[i]?=some x->rR N x.2.2 (a3 i)
def rR.get {N:Nat}{l:List av}{q:Nat->Rat}(h:rR N l q){k:Nat}(Q:k<=N):l[k]?=some (ed (q k)):=by
 rw[h.1,bd,bd,r3 (by omega)]
 rfl
def rR.len {N:Nat}{l:List av}{q:Nat->Rat}(h:rR N l q):(D l)=N+1:=by rw[h.1];simp
def rR.au9 {N:Nat}{l:List av}{q:Nat->Rat}(ae:(D l)=N+1)(h:∀k,k<=N->l[k]?=some (ed (q k))/\ns (q k)):rR N l q:=by
 refine⟨?_,λk Q=>(h k Q).2⟩;apply qm;intro k;rcases gX k (N+1) with Q|Q
 ·rw[(h k (by omega)).1,bd,bd,r3 Q];rfl
 ·rw[lk (by omega),lk (by simp;omega)]
def rR.congr {N:Nat}{l:List av}{q TH:Nat->Rat}(h:rR N l q)(aS:∀k,k<=N->q k=TH k):rR N l TH :=
 rR.au9 h.len λk Q=>by rw[<-aS k Q];exact⟨h.get Q,h.2 k Q⟩
def rR.cell {N:Nat}{x:dm}{q:Nat->Rat}(h:rR N x.2.2 q){k:Nat}(Q:k<=N):cellOf x k=ed (q k):=UD (h.get Q)
def ahL (lG a b:Rat):Bool:=Uh lG b&&FD a (-(lG*b))
def LR.row {N:Nat}{rows:List dm}{a3:pv}(h:LR N rows a3){i:Nat}(Z:i<N):∃x,rows[i]?=some x/\rowAt rows i=x/\rR N x.2.2 (a3 i):=by
 obtain⟨x,J⟩:∃x,rows[i]?=some x:=⟨_,bc (by have:=h.1;omega)⟩;exact⟨x,J,rA J,h.2 i x J⟩
def LR.swap {N:Nat}{rows:List dm}{a3:pv}(h:LR N rows a3){r s:Nat}(L:r<N)(O:s<N):LR N (mC rows r s) (lP a3 r s):=by
 obtain⟨x,J,ex,Qp⟩:=h.row L;obtain⟨y,ai,xN,ava⟩:=h.row O;unfold mC;rw[ex,xN];refine⟨by rw[fj,fj];exact h.1,λi z a0=>?_⟩
 rw[lF,lF,fj] at a0;unfold lP
 by_cases F:s=i
 ·rw[aJ F,aJ (by have:=h.1;omega)] at a0
  cases a0;rw[aJ F.symm];exact Qp
 ·rw[aR F] at a0;rw[aR (Ne.symm F)]
  by_cases G:r=i
  ·rw[aJ G,aJ (by have:=h.1;omega)] at a0
   cases a0;rw[aJ G.symm];exact ava
  ·rw[aR G] at a0;rw[aR (Ne.symm G)];exact h.2 i z a0
def avb (N:Nat)(S:pv)(r c:Nat):Prop:=(∀k,k<=N->Ui (S r k) (S r c)=true)/\∀i,i<N->i≠r->S i c≠0->∀k,k<=N->ahL (S i c) (S i k) (S r k/S r c)=true
def ahM {f:av}(h:cy f=true):f=ed (yQ f)/\ns (yQ f):=by
 obtain⟨x,J,rfl⟩:=(As _).1 h;rw[ank];exact⟨rfl,J⟩
def th (N:Nat)(q:Nat->Rat)(b:Nat):Prop:=∃(v:Nat->Int) (d:Int),d≠0/\d.natAbs<=2^b/\∀k,k<=N->q k*(d:Rat)=(v k:Rat)/\(v k).natAbs<=2^b
def th.mono {N a b:Nat}{q:Nat->Rat}(h:th N q a)(mK:a<=b):th N q b:=by
 obtain⟨v,d,F,G,aa⟩:=h;have aP:2^a<=2^b:=Am (by omega) mK;exact⟨v,d,F,iG G aP,λk Q=>⟨(aa k Q).1,iG (aa k Q).2 aP⟩⟩
def avc {q:Rat}{v d:Int}(ad:d≠0)(h:q*(d:Rat)=(v:Rat)):q.num*d=v*q.den:=by
 have mP:(d:Rat)≠0:=by rw[Ne,XA];exact ad
 have e:q=lA v d:=by rw[ahN];grind
 have ax:lA q.num q.den=lA v d:=by rw[Rat.num_divInt_den];exact e
 exact (Rat.divInt_eq_divInt_iff (Cx q) ad).1 ax
def ahO {q:Rat}{v d:Int}(ad:d≠0)(h:q*(d:Rat)=(v:Rat)):q.num.natAbs<=v.natAbs/\q.den<=d.natAbs:=by
 have U:=avc ad h
 have uU:q.num.natAbs*d.natAbs=v.natAbs*q.den:=by
  have:=congrArg Int.natAbs U;rwa [yF,yF,nr] at this
 have zK:q.den∣d.natAbs:=(Nat.Coprime.symm q.reduced).dvd_of_dvd_mul_left ⟨v.natAbs,by rw[uU,ye]⟩
 have TX:0<d.natAbs:=by omega
 have G:=Nat.le_of_dvd TX zK;refine⟨?_,G⟩;obtain⟨m,hm⟩:=zK;rw[hm] at uU;have T1:=q.den_pos
 have aa:q.num.natAbs*m=v.natAbs:=by
  have:q.den*(q.num.natAbs*m)=q.den*v.natAbs:=by rw[ye q.den v.natAbs,<-uU];rw[Nat.mul_left_comm]
  exact Nat.eq_of_mul_eq_mul_left T1 this
 have oK:0<m:=by
  rcases Nat.eq_zero_or_pos m with aq|aq
  ·rw[aq,Nat.mul_zero] at hm;omega
  ·exact aq
 rw[<-aa];exact Nat.le_mul_of_pos_right _ oK
def kO (b:Nat)(q:Rat):Prop:=q.num.natAbs<=2^b/\q.den<=2^b
def th.sz {N b:Nat}{q:Nat->Rat}(h:th N q b){k:Nat}(Q:k<=N):kO b (q k):=by
 obtain⟨v,d,F,G,aa⟩:=h;obtain⟨aO,ax⟩:=aa k Q;obtain⟨f1,f2⟩:=ahO F aO;exact⟨iG f1 ax,iG f2 G⟩
def avd (a b c:Nat)(h:a=2^b):a^c=2^(b*c):=by rw[h,<-Nat.pow_mul]
def ave:∃B:Nat,B=1200/\cW=2^B:=⟨20*60,rfl,avd 1048576 20 60 (by decide)⟩
def Be {z:Int}{b:Nat}(h:z.natAbs<=2^b)(R:b<1200):iD z=true:=by
 obtain⟨B,n9,gz⟩:=ave;unfold iD;rw[gz,decide_eq_true_eq];exact Nat.lt_of_le_of_lt h (ahP (by omega) (by omega))
def qY {x y:Int}{a b:Nat}(J:x.natAbs<=2^a)(ai:y.natAbs<=2^b):(x*y).natAbs<=2^(a+b):=by
 rw[yF,Nat.pow_add];exact Nat.mul_le_mul J ai
def XB {x y:Int}{a:Nat}(J:x.natAbs<=2^a)(ai:y.natAbs<=2^a):(x+y).natAbs<=2^(a+1):=by
 have:=Int.natAbs_add_le x y;rw[Nat.pow_succ];omega
def kO.mono {a b:Nat}{q:Rat}(h:kO a q)(mK:a<=b):kO b q:=by
 have aP:2^a<=2^b:=Am (by omega) mK;exact⟨iG h.1 aP,iG h.2 aP⟩
def avf {x y:Rat}{a b:Nat}(J:kO a x)(ai:kO b y)(h:a+b<1200):Uh x y=true:=by
 unfold Uh;rw[fe];exact⟨Be (qY J.1 ai.1) h,Be (qY (x:=(x.den:Int)) (y:=(y.den:Int)) (by simpa using J.2) (by simpa using ai.2)) h⟩
def avg {x y:Rat}{a b:Nat}(J:kO a x)(ai:kO b y)(h:a+b<1200):Ui x y=true:=by
 unfold Ui;rw[fe];exact⟨Be (qY (y:=(y.den:Int)) J.1 (by simpa using ai.2)) h,Be (qY (x:=(x.den:Int)) (by simpa using J.2) ai.1) h⟩
def ahQ {x y:Rat}{a b:Nat}(J:kO a x)(ai:kO b y)(h:a+b+1<1200):FD x y=true:=by
 unfold FD;have F:=qY (y:=(y.den:Int)) J.1 (by simpa using ai.2);have G:=qY (y:=(x.den:Int)) ai.1 (by simpa using J.2);rw[Hi b a] at G;simp only[fe];exact⟨Be F (by omega),Be G (by omega),Be (XB F G) h,Be (qY (x:=(x.den:Int)) (y:=(y.den:Int)) (by simpa using J.2) (by simpa using ai.2)) (by omega)⟩
def XC {b:Nat}{q:Rat}(h:kO b q):kO b (-q):=⟨by rw[Rat.neg_num,rr];exact h.1,h.2⟩
def ahR {p q:Int}{b:Nat}(F:p.natAbs<=2^b)(G:q.natAbs<=2^b)(aS:q≠0):kO b (lA p q):=by
 have aBX:(q:Rat)≠0:=by rw[Ne,XA];exact aS
 have:=ahO (q:=lA p q) (v:=p) aS (by rw[ahN];grind);exact⟨iG this.1 F,iG this.2 G⟩
def avh {x y:Rat}{a b:Nat}(J:kO a x)(ai:kO b y):kO (a+b) (x*y):=by
 rw[<-anR];exact ahR (qY J.1 ai.1) (qY (x:=(x.den:Int)) (y:=(y.den:Int)) (by simpa using J.2) (by simpa using ai.2)) (XD (Cx x) (Cx y))
def avi {x y:Rat}{a b:Nat}(J:kO a x)(ai:kO b y):kO (a+b+1) (x+y):=by
 rw[<-abY];have F:=qY (y:=(y.den:Int)) J.1 (by simpa using ai.2);have G:=qY (y:=(x.den:Int)) ai.1 (by simpa using J.2);rw[Hi b a] at G;have aa:=qY (x:=(x.den:Int)) (y:=(y.den:Int)) (a:=a) (b:=b) (by simpa using J.2) (by simpa using ai.2);exact ahR (XB F G) (iG aa (Am (by omega) (by omega))) (XD (Cx x) (Cx y))




def avj {f:av}(h:pq f 1=true):f.1.2.length<=1/\f.2.2.length<=1:=by
 unfold pq at h;simp only[fe,decide_eq_true_eq] at h;omega
def zw:Nat->Nat
 |0=>80
 |p+1=>2*zw p+1
def QY:Nat->Nat
 |0=>0
 |p+1=>QY p+zw p+1
def Bf (N:Nat)(a3:pv)(p:Nat):Prop:=∀i,i<N->th N (a3 i) (if i<p then QY p else zw p)
def th.div {N b r c:Nat}{S:pv}(h:th N (S r) b)(U:c<=N)(bo:S r c≠0):th N (λk=>S r k/S r c) b:=by
 obtain⟨v,d,F,G,aa⟩:=h;obtain⟨aO,ax⟩:=aa c U;have mP:(d:Rat)≠0:=by rw[Ne,XA];exact F
 have al:v c≠0:=by
  intro aq;rw[aq,Rat.intCast_zero] at aO;rcases Rat.mul_eq_zero.1 aO with h|h
  ·exact bo h
  ·exact mP h
 refine⟨v,v c,al,ax,λk Q=>⟨?_,(aa k Q).2⟩⟩;rw[<-(aa k Q).1,<-aO];grind
def th.elim {N a b c:Nat}{q p:Nat->Rat}(h:th N q a)(aP:th N p b)(U:c<=N):th N (λk=>q k-q c*p k) (a+b+1):=by
 obtain⟨v,d,F,G,aa⟩:=h;obtain⟨w,e,cH,cO,gT⟩:=aP;have hle:2^(a+b)<=2^(a+b+1):=Am (by omega) (by omega);refine⟨λk=>v k*e-v c*w k,d*e,XD F cH,iG (qY G cO) hle,λk Q=>⟨?_,?_⟩⟩
 ·rw[Rat.intCast_sub,XE,XE,XE,<-(aa k Q).1,<-(aa c U).1,<-(gT k Q).1];grind
 ·have aW:=qY (aa k Q).2 cO;have bY:=qY (aa c U).2 (gT k Q).2;have fI:(-(v c*w k)).natAbs<=2^(a+b):=by rw[rr];exact bY
  have:=XB aW fI;rwa [<-Int.sub_eq_add_neg] at this
def Bf.swap {N p s:Nat}{a3:pv}(h:Bf N a3 p)(aP:p<N)(O:p<=s)(A6:s<N):Bf N (lP a3 p s) p:=by
 intro i Z;unfold lP
 by_cases F:i=s
 ·rw[aJ F];have:=h p aP;rw[aR (by omega)] at this ⊢;exact this
 ·rw[aR F]
  by_cases G:i=p
  ·rw[aJ G];have:=h s A6;rw[aR (by omega)] at this ⊢;exact this
  ·rw[aR G];exact h i Z
def Bf.OS {N p c s:Nat}{a3:pv}(h:Bf N a3 p)(aP:p<N)(O:p<=s)(A6:s<N)(U:c<=N)(bo:a3 s c≠0):Bf N (Bd a3 p c s) (p+1):=by
 have cU:=h.swap aP O A6;have ahJ:lP a3 p s p c≠0:=by rw[ahI];exact bo
 have zr:=cU p aP;rw[aR (by omega)] at zr;have dU:=zr.div U ahJ;intro i Z
 by_cases xB:i=p
 ·rw[aJ (by omega)];have:Bd a3 p c s i=λk=>lP a3 p s p k/lP a3 p s p c:=by funext k;unfold Bd;rw[aJ xB]
  rw[this];exact dU.mono (by show zw p<=QY p+zw p+1;omega)
 ·have:Bd a3 p c s i=λk=>lP a3 p s i k-lP a3 p s i c*(lP a3 p s p k/lP a3 p s p c):=by funext k;unfold Bd;rw[aR xB]
  rw[this];have:=(cU i Z).elim dU U
  by_cases an:i<p
  ·rw[aJ an] at this;rw[aJ (by omega)];exact this
  ·rw[aR an] at this;rw[aR (by omega)];exact this.mono (by show zw p+zw p+1<=2*zw p+1;omega)
def Bf.ok {N p c:Nat}{S:pv}(h:Bf N S p)(aP:p<N)(abk:p<3)(U:c<=N)(bo:S p c≠0):avb N S p c:=by
 have R:∀i,i<N->∀k,k<=N->kO 323 (S i k):=by
  intro i Z k Q;refine ((h i Z).sz Q).mono ?_
  have:zw p<=323/\QY p<=243:=by
   rcases p with _|_|_|p
   ·decide
   ·decide
   ·decide
   ·omega
  split<;>omega
 have dU:∀k,k<=N->kO 323 (S p k/S p c):=by
  intro k Q;have zr:=h p aP;rw[aR (by omega)] at zr;refine ((zr.div U bo).sz Q).mono ?_;rcases p with _|_|_|p
  ·decide
  ·decide
  ·decide
  ·omega
 refine⟨λk Q=>avg (R p aP k Q) (R p aP c U) (by omega),λi Z _ _ k Q=>?_⟩;unfold ahL;rw[fe];exact⟨avf (R i Z c U) (dU k Q) (by omega),ahQ (R i Z k Q) (XC (avh (R i Z c U) (dU k Q))) (by omega)⟩
def avk {f:av}(L:cy f=true)(aj:pq f 1=true):kO 20 (yQ f):=by
 obtain⟨e,F,G⟩:=ahM L;obtain⟨cH,cO⟩:=avj aj;rw[e] at cH cO;have bm:=fX.1 (show (aF (yQ f).num.natAbs).length<=1 from cH);have c3:=fX.1 (show (aF ((yQ f).den:Int).natAbs).length<=1 from cO);rw[nr] at c3;have qF:(1048576:Nat)^1=2^20:=by decide
 rw[qF] at bm c3;exact⟨ahS bm,ahS c3⟩
def ahT {f:av}(h:pq f 1=true):okF f:=by
 unfold pq at h;simp only[fe,decide_eq_true_eq] at h;exact⟨by omega,by omega⟩
def avl {l:List av}{n:Int}(h:qU l n 1=true):(D l:Int)<=n/\∀f∈l,pq f 1=true:=by
 unfold qU at h;simp only[fe,decide_eq_true_eq,kA] at h;exact h
def XF {l:List av}(h:qU l 4 1=true):ih l:=by
 obtain⟨F,G⟩:=avl h;exact⟨by omega,λf aj=>ahT (G f aj)⟩
def ahU {ls:List cl}(h:vV ls=true):(D ls)<=10/\∀l∈ls,pq l.2.2 1=true:=by
 unfold vV at h;simp only[fe,decide_eq_true_eq,kA] at h;exact⟨by omega,h.2⟩
def avm {ls:List cl}(h:vV ls=true):qQ ls:=by
 obtain⟨F,G⟩:=ahU h;exact⟨by omega,λl ae=>ahT (G l ae)⟩
def ahV {cap base:List av}{ls:List cl}(h:GW cap base ls=true):qU cap 4 1=true/\qU base 4 1=true/\vV ls=true:=by
 unfold GW at h;simp only[fe] at h;exact h
def avn {cap base:List av}{ls:List cl}(h:GW cap base ls=true):ox cap base ls:=by
 obtain⟨F,G,aa⟩:=ahV h;exact⟨XF F,XF G,avm aa⟩
def ahW {b:Nat}{q:Rat}(h:kO b q)(R:b<1200):ns q:=by
 have:=ahP (a:=2) (by omega) R;have gz:cW=2^1200:=by decide +kernel
 refine⟨?_,?_⟩
 ·have:=h.1;rw[gz];omega
 ·have:=h.2;rw[gz];omega
def XG (to:Int):∀(ls:List cl) (A:List av) (m:Nat),(∀l∈ls,cy l.2.2=true/\pq l.2.2 1=true/\l.1.toNat<D A)->(∀f∈A,∃q,f=ed q/\kO m q)->m+21*D ls<1200->(n0 to ls A).2=true
 | [],_,_,_,_,_=>rfl
 |l::r,A,m,ae,e9,hm=>by
  rw[List.length_cons] at hm;unfold n0;obtain⟨L,aj,an⟩:=ae l (by simp);have nD:∀x∈r,cy x.2.2=true/\pq x.2.2 1=true/\x.1.toNat<D A:=λx J=>ae x (by simp[J])
  have ahX:∀f∈A,∃q,f=ed q/\kO (m+21) q:=λf aj=>by
   obtain⟨q,e,s⟩:=e9 f aj;exact⟨q,e,s.mono (by omega)⟩
  split
  ·have jG:A.getD l.1.toNat bA∈A:=by
    rw[dG,bc an];exact ha an
   obtain⟨x,ex,H5⟩:=e9 _ jG;have BC:=avk L aj;obtain⟨xN,-⟩:=ahM L
   have O:kn (A.getD l.1.toNat bA) l.2.2=(ed (x-yQ l.2.2),0):=by
    rw[ex];have G:kn (ed x) l.2.2=kn (ed x) (ed (yQ l.2.2)):=congrArg _ xN;rw[G,anT (ahW H5 (by omega)) (ahW BC (by omega)),ahQ H5 (XC BC) (by omega)]
    rfl
   rw[O];simp only[beq_self_eq_true,if_true];refine XG to r _ (m+21) (λx J=>by rw[fj];exact nD x J) ?_ (by omega);intro f aj;rcases nW aj with aj|rfl
   ·exact ahX f aj
   ·exact⟨_,rfl,by rw[Rat.sub_eq_add_neg];exact avi H5 (XC BC)⟩
  ·exact XG to r A (m+21) nD ahX (by omega)
def ahY {n:Int}(h:n.natAbs<=1):kO 1 (n:Rat):=⟨by rw[Rat.num_intCast];omega,by rw[Rat.den_intCast];decide⟩
def avo {ls:List cl}{n:Int}(aj:vV ls=true)(L:ow ls n=true):(mJ ls n.toNat).all (·.2)=true:=by
 obtain⟨aq,KH,-,eY⟩:=GB L;obtain⟨dy,vU⟩:=ahU aj;rw[kA];intro x J;unfold mJ at J;obtain⟨i,Z,rfl⟩:=h7.1 J
 have aL:(n0 i ls (oA n.toNat i)).2=true:=by
  refine XG i ls _ 1 (λl ae=>?_) (λf aj=>?_) (by omega)
  ·obtain⟨a,b,-,-,aP⟩:=eY l ae;refine⟨?_,vU l ae,?_⟩
   ·unfold g3 at aP;rw[fe] at aP;exact aP.1
   ·unfold oA;rw[fj,hr];omega
  ·unfold oA at aj;rcases nW aj with aj|rfl
   ·rw[pM] at aj;exact⟨_,aj.2,ahY (by decide)⟩
   ·exact⟨_,rfl,ahY (by decide)⟩
 unfold mG;rw[aJ aL]
def ahZ {cap base:List av}{ls:List cl}(aA:(D cap)<=40):∀(k:Nat) (left:List Bool) (rounds:List (List Nat)),(∀x∈rounds,D x<=1000000)->(D rounds)+k<=1000000->G1 (pf cap base ls k left rounds).2.1
 |0,_,_,_,_=>⟨by simp[pf],λx J=>by cases J⟩
 |k+1,left,rounds,h,Q=>by
  unfold pf
  split
  ·split
   ·exact⟨by simp,λx J=>by cases J⟩
   ·exact⟨by dsimp only;omega,h⟩
   ·rename_i i lv Bq;refine ahZ aA k _ _ (λx J=>?_) (by rw[List.length_append,List.length_singleton];omega);rcases h5.1 J with J|J
    ·exact h x J
    ·rw[List.mem_singleton] at J;subst J;have:=PA _ _ _ _ Bq;rw[mV] at this;omega
  ·exact⟨by simp,λx J=>by cases J⟩
def XH (cap base:List av)(ls:List cl):G1 (l7 cap base ls).2.1:=by
 unfold l7
 split
 ·rename_i L;obtain⟨-,aA,-⟩:=xp L;exact ahZ aA _ _ _ (λx J=>by cases J) (by rw[mV];omega)
 ·exact⟨by simp,λx J=>by cases J⟩
def avp {cap base:List av}{ls:List cl}(h:ox cap base ls):ox (GA cap base ls) base ls:=by
 obtain⟨⟨F,G⟩,aa,aX⟩:=h;obtain⟨a,b⟩:=PJ (fed:=PH cap base ls) (D cap) 0 cap G;exact⟨⟨by unfold GA;omega,b⟩,aa,aX⟩
def XI {cap base:List av}{ls:List cl}(h:ox cap base ls):ih (AW cap base ls).1/\G1 (AW cap base ls).2.1:=by
 unfold AW
 split
 ·exact⟨K0 (avp h),XH _ _ _⟩
 ·exact⟨⟨by simp,λf aj=>by cases aj⟩,⟨by simp,λx J=>by cases J⟩⟩
def ah0 {ls:List cl}(n:Int)(h:qQ ls):ih (xv ls n).1/\ih (xv ls n).2.1:=by
 have aq:ih ([]:List av):=⟨by simp,λf aj=>by cases aj⟩
 unfold xv
 split
 ·rename_i L;obtain⟨Ko,aBY,-⟩:=GB L;have j6:ox (cf n.toNat kp) (cf n.toNat hh) ls:=⟨⟨by rw[hr];omega,λf aj=>by rw[pM] at aj;rw[aj.2];exact Da⟩,⟨by rw[hr];omega,λf aj=>by rw[pM] at aj;rw[aj.2];exact xl⟩,h⟩
  split
  ·split
   ·exact⟨aq,K0 j6⟩
   ·split
    ·refine⟨(ae0 ?_).1,aq⟩;refine⟨?_,λr L=>?_⟩
     ·unfold mJ;rw[ah,ah,tE];omega
     ·obtain⟨x,J,rfl⟩:=h7.1 L;unfold mJ at J;obtain⟨i,-,rfl⟩:=h7.1 J;exact zb Da (by omega)
    ·exact⟨aq,aq⟩
  ·exact⟨aq,aq⟩
 ·exact⟨aq,aq⟩
abbrev QZ:(List av)×(List av)×(List cl)×Int×(List av)->List Data:=λ(cap,base,ls,n,z)=>[.agg [.ao (cap.map ar),.ao (base.map ar),.ao (ls.map fg)],.int .i64 n,.ao (z.map ar)]
def Q0:=bG QZ λ(cap,base,ls,n,z)=>some (.same (.bool true))
def avq:∀a b,QZ a=QZ b->a=b:=by
  rintro⟨adx,ady,y4,rb,iP⟩ ⟨adz,adA,y5,re,je⟩ h;simp only[bj,Data.agg.injEq,Data.ao.injEq,Data.int.injEq] at h;exact cx (map_inj j1 _ _ h.1.1) (cx (map_inj j1 _ _ h.1.2.1) (cx (map_inj ux _ _ h.1.2.2.1) (cx h.2.1.2 (map_inj j1 _ _ h.2.2.1))))
@[go_sem] def avr (cap base ls n z):=sm Q0 rfl avq (cap,base,ls,n,z) rfl
def avs (T:bg)(LS:T S0=aE QX)(LU:T S3=aE Qi)(zn:T EK=aE Li)(fR:T yo=aE Di)(g6:T B8=aE Hc)(DQ:T tG=aE GV)(DT:T E0=aE Lm)(LV:T SW=aE PK)(LW:T S6=aE QM)(DR:T EY=aE K1)(LX:T S1=aE QQ)(DS:T IT=aE KW)(LY:T S2=aE Qq)(LZ:T SV=aE PQ)(L0:T S5=aE Qr):WF T ahE Q0:=by
 refine b5 λ(cap,base,ls,n,z)=>⟨rfl,b4 ?_⟩;simp only[ahE,QZ,bV];have L1:=auZ;have cH:=as1 cap base ls;have cO:=asT z 4 1 (by omega);rcases aj:GW cap base ls
 ·rw[aj] at cH;refine af ?_;repeat' (intro h<;>simp only[h,go_sem,go_sem_proc,LS,LU,zn,fR,g6,DQ,DT,LV,LW,DR,LX,DS,LY,LZ,L0,L1,cH,db]<;>try refine ab ?_ ?_)
 rw[aj] at cH;rcases a0:qU z 4 1
 ·rw[a0] at cO;refine af ?_;repeat' (intro h<;>simp only[h,go_sem,go_sem_proc,LS,LU,zn,fR,g6,DQ,DT,LV,LW,DR,LX,DS,LY,LZ,L0,L1,cH,cO,db,cZ]<;>try refine ab ?_ ?_)
 rw[a0] at cO;have v5:=avn aj;have Hf:=v5.2.2;have Q1:=XF a0;have jQ:=(ahV aj).2.2;have dw:=PF cap base ls v5;have dV:=Xl cap base ls v5;have hQ:=arQ cap base ls v5;have jf:=auk cap base ls v5;rw[auu] at jf;have CV:=Wx ls n Hf;have Km:=auz ls n ⟨Hf,avo jQ⟩;have ah1:=afd ls n z ⟨Hf,Q1⟩;have ah2:=atq ls n z ⟨Hf,Q1⟩;have ah3:=arX cap base ls z ⟨v5,Q1⟩;have ah4:=ats cap base ls z ⟨v5,Q1⟩;have s1:=zv (K0 v5);have s2:=zv (XI v5).1;have bS:=zv (ah0 n Hf).1;have bU:=zv (ah0 n Hf).2;have gI:=WW _ _ ⟨XH cap base ls,XH cap base ls⟩;have lp:=WW _ _ ⟨(XI v5).2,(XI v5).2⟩;rw[beq_self_eq_true] at gI lp;generalize l7 cap base ls=P1 at *;generalize AW cap base ls=P2 at *;generalize xv ls n=P3 at *;generalize GC ls n z=P4 at *;generalize KY cap base ls z=P5 at *;obtain⟨jn,gH,sV⟩:=P1;obtain⟨v1,v2,ff⟩:=P2;obtain⟨w1,gE,bJ⟩:=P3;dsimp only[l8,rM] at dw dV hQ jf CV Km s1 s2 bS bU gI lp;rcases d4:decide (n>4)
 ·refine af ?_;repeat' (intro h<;>simp only[h,go_sem,go_sem_proc,LS,LU,zn,fR,g6,DQ,DT,LV,LW,DR,LX,DS,LY,LZ,L0,L1,cH,cO,d4,dw,dV,hQ,jf,CV,Km,ah1,ah2,ah3,ah4,s1,s2,bS,bU,gI,lp,beq_self_eq_true,cZ,bne]<;>try refine ab ?_ ?_)
 ·rcases d40:decide (n<=40)
  ·refine af ?_;repeat' (intro h<;>simp only[h,go_sem,go_sem_proc,LS,LU,zn,fR,g6,DQ,DT,LV,LW,DR,LX,DS,LY,LZ,L0,L1,cH,cO,d4,d40,dw,dV,hQ,jf,CV,Km,ah1,ah2,ah3,ah4,s1,s2,bS,bU,gI,lp,beq_self_eq_true,cZ,bne]<;>try refine ab ?_ ?_)
  ·refine af ?_;repeat' (intro h<;>simp only[h,go_sem,go_sem_proc,LS,LU,zn,fR,g6,DQ,DT,LV,LW,DR,LX,DS,LY,LZ,L0,L1,cH,cO,d4,d40,beq_self_eq_true,cZ,bne]<;>try refine ab ?_ ?_)
end Go.Mini
namespace Go.Mini
open Go Go.Proofs
def ah5:b0 sr JG:=cg 125000 [] (aM AR bQ) Tryz.func213 (an5 _ aV)
def XJ:b0 B2 FG:=cg 398000 [] (aM AR bQ) Tryz.func87 (an9 _ aV)
def avt:b0 va Om:=cg 400000 [] (aM XJ bQ) Tryz.func129 (aob _ aV)
def avu:b0 wH On:=cg 391000 [] (aM AR bQ) Tryz.func88 (aod _ aV)
def avv:b0 u7 Oo:=cg 387000 [] bQ Tryz.func82 (aof _)
def avw:b0 u9 Oq:=cg 389000 [] (aM XJ bQ) Tryz.func86 (aoh _ aV)
def avx:b0 SD Ou:=cg 146000 [] (aM ah5 (aM avt (aM avu (aM avv (aM avw bQ))))) Tryz.func156 (aon _ aV (λh=>absurd h (by decide)) (λh=>absurd h (by decide)) (λ_=>aV) (λ_=>aV) (λ_=>aV) (λ_=>aV))
def L2:b0 tH sO:=cg 128000 [] (aM avx bQ) Tryz.func81 (aou _ aV)
def avy:b0 Nl Ow:=cg 127000 [] (aM ah5 (aM L2 bQ)) Tryz.func215 (aox _ aV aV)
def avz:b0 SC Ox:=cg 145000 [] (aM avy bQ) Tryz.func228 (aoy _ aV)
def avA:b0 Sy OA:=cg 126000 [] (aM avz bQ) Tryz.func214 (aoz _ aV)
def avB:b0 Sw OB:=cg 108000 [] (aM avA bQ) Tryz.func158 (aoB _ aV)
def avC:nv Tryz.prog z6 (Ax yW):=aoE (mf:=Oi) (kb:=168000) (own:=[]) (vo (u4 bQ) (vp m8)) mixed Tryz.func230 (by kernel_rfl) (by kernel_rfl) OF λargs mem r k g i d h=>by
 obtain⟨F,G,aa,aX,bt⟩:=aoG _ args mem r k g i d h;exact⟨F,G,aa,aX,bt⟩
def avD:b0 II JJ:=cg 167000 [] bQ Tryz.func229 (aoF _)
def avE:nv Tryz.prog SE (yV JX):=Ut (mf:=w5) (kb:=148000) (own:=[3000106,3000165,3000169]) (vo (u4 (aM avD (aM aeL (aM aeK (aM V5 bQ))))) (vp (ug avC m8))) mixed Tryz.func216 (by kernel_rfl) (by kernel_rfl) λargs mem bF h=>by
 obtain⟨a,rfl,⟨F,G,aa,aX,bt,bx,bK⟩,rfl⟩:=apj h;exact⟨p3 rfl,apa _ (uf rfl rfl) (FL rfl rfl) (uf rfl rfl) (uf rfl rfl) (uf rfl rfl) a.go a.N a.rows a.r a.c mem F G aa aX bt bx bK⟩
def ah6:b0 EO FY:=cg 147000 [5] bQ Tryz.func78 (apm _)
def avF:b0 Sz J2:=vH 129000 [29,34] (aM ah6 bQ) (ug avE m8) Tryz.func159 (apF _ aV (FL rfl rfl))
def ah7:b0 Iz J8:=cg 109000 [] (aM avB (aM avF bQ)) Tryz.func84 (apI _ aV aV)
def avG:b0 SJ OU:=cg 171000 [] bQ Tryz.func184 (apM _)
def avH:b0 SF OV:=cg 151000 [] (aM avG bQ) Tryz.func108 (apN _ aV)
def ah8:b0 EM Ka:=cg 131000 [] (aM avH bQ) Tryz.func45 (apW _ aV)
def L3:b0 ss zi:=cg 183000 [18] bQ Tryz.func225 (ar0 _)
def Q2:b0 su Dx:=cg 187000 [] bQ Tryz.func226 (ar3 _)
def XK:b0 z8 Dy:=cg 185000 [] (aM Q2 bQ) Tryz.func196 (ar4 _ aV)
def ah9:b0 IL K3:=cg 181000 [] (aM Q2 (aM L3 bQ)) Tryz.func195 (ar5 _ aV aV)
def XL:b0 z7 GM:=cg 182000 [] (aM Q2 (aM L3 bQ)) Tryz.func197 (ar6 _ aV aV)
def aia:b0 BY GN:=cg 186000 [] (aM Q2 (aM L3 bQ)) Tryz.func194 (ar7 _ aV aV)
def aib:b0 IK K5:=cg 180000 [26] (aM L3 (aM aia (aM XK (aM XL bQ)))) Tryz.func203 (ase _ aV aV aV aV)
def Hg:b0 od zj:=cg 166000 [] (aM L3 bQ) Tryz.func192 (asg _ aV)
def zx:b0 kG uC:=cg 162000 [] bQ Tryz.func143 (ash _)
def aic:b0 ES K6:=cg 163000 [] (aM zx (aM Hg bQ)) Tryz.func190 (asi _ aV aV)
def aid:b0 EN K7:=cg 144000 [] (aM Hg bQ) Tryz.func125 (asj _ aV)
def avI:b0 SU PX:=cg 210000 [] bQ Tryz.func204 (asm _)
def aie:b0 BZ K8:=cg 209000 [] bQ Tryz.func193 (asn _)
def aif:b0 IQ K9:=cg 205000 [] (aM zx (aM avI (aM XK bQ))) Tryz.func145 (asp _ aV aV aV)
def aih:b0 IH La:=cg 164000 [] (aM zx (aM aib (aM Hg bQ))) Tryz.func144 (asq _ aV aV aV)
def Q3:b0 qA DB:=cg 202000 [] (aM zx (aM aia (aM Hg (aM aie bQ)))) Tryz.func131 (asr _ aV aV aV aV)
def aii:b0 IS Lb:=cg 206000 [] (aM zx (aM ah9 (aM XK (aM XL (aM Hg (aM aie bQ)))))) Tryz.func133 (ass _ aV aV aV aV aV aV)
def avJ:b0 SR PY:=cg 203000 [] (aM zx (aM aic (aM aii bQ))) Tryz.func207 (asv _ aV aV aV)
def aij:b0 BW Lc:=cg 165000 [] (aM zx (aM aib (aM ah9 (aM XL (aM Hg bQ))))) Tryz.func191 (asx _ aV aV aV aV aV)
def aik:b0 IE Ld:=cg 143000 [] (aM zx (aM aic (aM aih (aM aij bQ)))) Tryz.func124 (asy _ aV aV aV aV)
def ail:b0 IB Le:=cg 124000 [] (aM aid (aM aik bQ)) Tryz.func57 (asz _ aV aV)
def avK:b0 Nm P6:=cg 142000 [] bQ Tryz.func128 (asA _)
def avL:b0 Sx P8:=cg 120000 [] (aM avK bQ) Tryz.func59 (asB _ aV)
def aim:b0 IA Lf:=cg 115000 [] bQ Tryz.func17 (asD _)
def zy:b0 kY uD:=cg 196000 [] (aM zx (aM aih (aM aid (aM aif bQ)))) Tryz.func70 (asE _ aV aV aV aV)
def Q4:b0 yn DC:=cg 204000 [] (aM aik bQ) Tryz.func132 (asG _ aV)
def avM:b0 SO Qc:=cg 198000 [] (aM zy (aM Q3 (aM aii (aM Q4 bQ)))) Tryz.func66 (asN _ aV aV aV aV)
def ain:b0 IN Lg:=cg 195000 [] (aM zy (aM Q3 (aM avJ (aM Q4 bQ)))) Tryz.func150 (asO _ aV aV aV aV)
def aio:b0 IP Lh:=cg 197000 [] (aM zy (aM Q3 (aM Q4 bQ))) Tryz.func65 (asP _ aV aV aV)
def avN:b0 Nr Qd:=cg 207000 [] (aM zy (aM Q3 (aM Q4 bQ))) Tryz.func189 (asQ _ aV aV aV)
def avO:b0 EL GU:=cg 113000 [] bQ Tryz.func209 (asR _)
def aip:b0 EK Li:=cg 107000 [] (aM aim bQ) Tryz.func23 (asU _ aV)
def aiq:b0 tG GV:=cg 112000 [] (aM avL bQ) Tryz.func14 (asX _ aV)
def avP:b0 SM Qs:=cg 192000 [] (aM zy bQ) Tryz.func151 (atu _ aV)
def avQ:b0 Ns Qu:=cg 208000 [] (aM aio (aM ain bQ)) Tryz.func227 (atw _ aV aV)
def avR:b0 SP Qw:=cg 199000 [12,25] bQ Tryz.func208 (atB _)
def avS:b0 SQ Qz:=cg 200000 [20] (aM avN bQ) Tryz.func210 (atG _ aV)
def avT:b0 Nq Lx:=cg 201000 [22] (aM avQ bQ) Tryz.func211 (atK _ aV)
def avU:b0 SN LA:=cg 194000 [21] (aM avR (aM avO (aM avS (aM avT bQ)))) Tryz.func152 (atV _ aV aV aV aV)
def air:b0 IM LF:=cg 189000 [] (aM avP (aM avU bQ)) Tryz.func75 (at0 _ aV aV)
def XM:∀n,hY Tryz.prog EX (Lr n)
 |0=>aez (mf:=PZ) (kb:=278000) (own:=[]) (vo (u4 bQ) (vp m8)) mixed Tryz.func153 (by kernel_rfl) (by kernel_rfl) λa r L=>by obtain⟨U,rfl⟩:=Sd L;exact absurd U.2 (Nat.not_lt_zero _)
 |n+1=>aez (mf:=PZ) (kb:=278000) (own:=[]) (vo (u4 (aM aij (aM aif (aM (XM n) bQ)))) (vp m8)) mixed Tryz.func153 (by kernel_rfl) (by kernel_rfl) fun⟨p,q,r,s⟩ x L=>by obtain⟨U,rfl⟩:=Sd L;exact⟨p3 rfl,atm _ (uf rfl rfl) (uf rfl rfl) n (uf rfl rfl) p q r s U⟩
def avV:hY Tryz.prog EX Lq:=⟨(XM 0).real,λds r h A w vs an ad=>by
 obtain⟨n,aA⟩:=atj h;exact (XM n).run ds r aA A w vs an ad⟩
def XN:b0 z9 G4:=cg 270000 [] (aM zy (aM avV bQ)) Tryz.func76 (ato _ aV aV)
def avW:b0 Nt OY:=cg 402000 [] (aM XJ bQ) Tryz.func155 (ap0 _ aV)
def avX:b0 Ta OZ:=cg 432000 [] (aM avW bQ) Tryz.func212 (ap1 _ aV)
def avY:b0 S9 O0:=cg 431000 [] (aM avX bQ) Tryz.func154 (ap2 _ aV)
def XO:b0 B4 F4:=cg 401000 [] (aM avY bQ) Tryz.func80 (ap4 _ aV)
def XP:b0 B3 F5:=cg 399000 [] (aM XO (aM L2 bQ)) Tryz.func62 (ap5 _ aV aV)
def Q5:b0 tK CQ:=cg 404000 [] (aM aeJ bQ) Tryz.func46 (ap6 _ aV)
def avZ:nv Tryz.prog SY (yV Kz):=Ut (mf:=Ok) (kb:=397000) (own:=[]) (vo (u4 (aM V5 (aM V4 bQ))) (vp m8)) mixed Tryz.func130 (by kernel_rfl) (by kernel_rfl) λargs mem bF h=>by
 obtain⟨a,⟨rfl,ba⟩,rfl⟩:=Ux h;exact⟨p3 rfl,arz _ (uf rfl rfl) (uf rfl rfl) a mem ba⟩
def XQ:b0 B1 Gu:=vH 396000 [] bQ (ug avZ m8) Tryz.func64 (arC _ (FL rfl rfl))
def ais:b0 IU KD:=cg 395000 [18] (aM Q5 (aM ah8 (aM aeK bQ))) Tryz.func83 (arF _ aV aV aV)
def av0:nv Tryz.prog SZ (Kw Wf):=arb (mf:=Ol) (kb:=403000) (own:=[]) (vo (u4 (aM ais (aM ah7 bQ))) (vp m8)) mixed Tryz.func63 (by kernel_rfl) (by kernel_rfl) (λj:Nat=>j/1000=403) λargs mem d h=>by
 obtain⟨a,⟨rfl,ba⟩,rfl⟩:=are h;exact⟨p3 rfl,ba.no,arJ _ (uf rfl rfl) (uf rfl rfl) a mem ba⟩
def Q6:b0 yo Di:=vH 394000 [] (aM XP (aM XQ (aM V6 bQ))) (ug av0 m8) Tryz.func18 (arL _ aV (FL rfl rfl) aV aV)
def av1:nv Tryz.prog SX (yV KP):=Ut (mf:=Oj) (kb:=393000) (own:=[]) (vo (u4 bQ) (vp m8)) mixed Tryz.func77 (by kernel_rfl) (by kernel_rfl) λargs mem bF h=>by
 obtain⟨a,⟨rfl,ba⟩,rfl⟩:=Ux h;exact⟨p3 rfl,arP _  a mem ba⟩
def av2:b0 SW PK:=vH 392000 [67] (aM XP (aM ah6 (aM Q5 (aM Q6 bQ)))) (ug av1 m8) Tryz.func26 (arR _ aV (FL rfl rfl) aV aV aV)
def ait:b0 IT KW:=cg 388000 [] (aM XO (aM L2 (aM Q5 (aM XQ (aM V6 bQ))))) Tryz.func30 (arW _ aV aV aV aV aV)
def av3:b0 SV PQ:=cg 390000 [] (aM XP (aM L2 (aM XQ (aM V6 bQ)))) Tryz.func32 (arY _ aV aV aV aV)
def aiu:b0 EY K1:=cg 386000 [] (aM XO (aM Q5 (aM ah8 (aM Q6 (aM L2 (aM ais (aM ah7 bQ))))))) Tryz.func28 (arZ _ aV aV aV aV aV aV aV)
def aiv:b0 EZ Lk:=cg 422000 [] (aM zy bQ) Tryz.func21 (asY _ aV)
def av4:b0 S4 Qh:=cg 418000 [] (aM aim bQ) Tryz.func61 (as0 _ aV)
def av5:b0 S3 Qi:=cg 417000 [] (aM aip (aM av4 bQ)) Tryz.func16 (as2 _ aV aV)
def XR:b0 B7 GX:=cg 424000 [] (aM aiv bQ) Tryz.func85 (as3 _ aV)
def XS:b0 B6 GY:=cg 423000 [] (aM XR (aM aiv bQ)) Tryz.func34 (as4 _ aV aV)
def L4:b0 sv A3:=cg 430000 [] (aM ail bQ) Tryz.func79 (as9 _ aV)
def XT:b0 B5 G0:=cg 419000 [] (aM aio (aM avM bQ)) Tryz.func19 (ata _ aV aV)
def aiw:b0 E0 Lm:=cg 426000 [] bQ Tryz.func25 (atc _)
def av6:b0 S8 Qn:=cg 428000 [] (aM L4 bQ) Tryz.func35 (atg _ aV)
def aix:b0 E1 Lo:=cg 429000 [] (aM L4 (aM ain bQ)) Tryz.func74 (ath _ aV aV)
def av7:b0 S2 Qq:=cg 416000 [] (aM XR (aM zy (aM L4 (aM XT (aM XN bQ))))) Tryz.func31 (atr _ aV aV aV aV aV)
def av8:b0 S5 Qr:=cg 420000 [] (aM XS (aM zy (aM XT (aM XN bQ)))) Tryz.func33 (att _ aV aV aV aV)
def XU:b0 B8 Hc:=cg 427000 [] (aM XS (aM aix (aM air (aM XT (aM XN bQ))))) Tryz.func24 (auj _ aV aV aV aV aV)
def av9:b0 S6 QM:=cg 421000 [] (aM XS (aM L4 (aM XU bQ))) Tryz.func27 (aul _ aV aV aV)
def awa:b0 S1 QQ:=cg 415000 [] (aM XR (aM av6 (aM XU (aM L4 (aM aix (aM air bQ)))))) Tryz.func29 (auA _ aV aV aV aV aV aV)
def awb:b0 nI LN:=cg 412000 [] (aM ail bQ) Tryz.func37 (auG _ aV)
def awc:b0 Nu QS:=cg 414000 [] bQ Tryz.func60 (auJ _)
def awd:b0 S7 QU:=cg 425000 [] (aM awc bQ) Tryz.func15 (auM _ aV)
def awe:b0 S0 QX:=cg 413000 [] (aM auV (aM awb (aM aiq (aM awd (aM aiu (aM ait (aM Q6 (aM aiw bQ)))))))) Tryz.func9 (au0 _ aV aV aV aV aV aV aV aV)
def awf:b0 alC Q0:=cg 409000 [] (aM awe (aM av5 (aM aip (aM Q6 (aM XU (aM aiq (aM aiw (aM av2 (aM av9 (aM aiu (aM awa (aM ait (aM av7 (aM av3 (aM av8 bQ))))))))))))))) Tryz.func5 (avs _ aV aV aV aV aV aV aV aV aV aV aV aV aV aV aV)
end Go.Mini
namespace Go.Mini
open Go Go.Proofs
def awg {P:Program}{w:World}{e:TypeId}{fuel:Nat}{cs:List Value}{s:List UInt8}{p:List MemPlace}(he:P.underlying e=some .string)(h:DataW.trod (λ_=>()) P w 0 (λ_=>true) false fuel e cs=some (.lit (.string s),p)):cs=[.string ⟨s.toArray⟩]:=by
 cases fuel with
 |zero=>cases h
 |succ f =>
  unfold DataW.trod at h;rw[he] at h
  split at h<;>first|(rename_i F G;cases F;done)|skip
  all_goals first|(cases h;done)|skip
  all_goals simp_all
  all_goals try (obtain⟨-,h,-⟩:=h;subst h;rfl)
def awh {P:Program}{w:World}{t e:TypeId}{fuel n:Nat}{cs:List Value}{eV:List (List UInt8)}{p:List MemPlace}(bL:P.underlying t=some (.array n e))(he:P.underlying e=some .string)(aA:P.cellsOf t=n)(F:P.cellsOf e=1)(gz:(D eV)=n)(h:DataW.trod (λ_=>()) P w 0 (λ_=>true) false fuel t cs=some (.agg (eV.map λs => .lit (.string s)),p)):cs=zz eV:=by
 cases fuel with
 |zero=>cases h
 |succ f =>
  unfold DataW.trod at h;rw[bL] at h;simp only[aA,F] at h
  split at h
  ·rename_i ae;rw[Option.map_eq_some_iff] at h;obtain⟨xs,J,sh⟩:=h;simp only[eL,DataW.agg.injEq] at sh;obtain⟨hm,-⟩:=sh;refine qm λi=>?_;rcases gX i n with Z|Z
   ·obtain⟨y,ai,aj⟩:=MW J (i:=i) (x:=i) (by rw[r3 Z]);have zs:eV[i]?=some eV[i]:=bc (by omega);have Q7:(xs.map (·.1))[i]?=some (.lit (.string eV[i])):=by rw[hm,bd,zs];rfl
    rw[bd,ai] at Q7;simp only[kU,bM] at Q7;obtain⟨og,qC⟩:=y;dsimp only at Q7;subst Q7;have U:=awg he aj;rw[dL] at U
    have:cs[i]?=some (.string ⟨eV[i].toArray⟩):=by
     have aa:((cs.drop i).take 1)[0]?=some (.string ⟨eV[i].toArray⟩):=by rw[U];rfl
     rw[List.getElem?_take_of_lt (by omega),List.getElem?_drop] at aa;exact aa
    rw[this];unfold zz;rw[bd,zs]
    rfl
   ·rw[lk (by omega),lk (by unfold zz;rw[ah];omega)]
  ·cases h
def awi {W : World}(h : laidMetH Tryz.prog [("consol/lex.signs", YtplehnijfhgclaaGreatDoor.Rows.laid_consol_lex_signs)] W): DW W := by
 have cG : laidMet Tryz.prog [("consol/lex.signs", YtplehnijfhgclaaGreatDoor.Rows.laid_consol_lex_signs)] W := h;obtain⟨cT,⟨g,t,cs,fuel,p,q,aL,bL,al,aw,aS,rfl⟩,-,U⟩:=cG;have rp : Tryz.prog.globalNamed "consol/lex.signs" = some 0 := by kernel_rfl
 obtain rfl:=mm (rp.symm.trans aL);have Cy:(Tryz.prog.globals[0]?).map (·.type)=some 262:=by kernel_rfl
 obtain rfl:=mm (Cy.symm.trans bL);have hu:Tryz.prog.underlying 262=some (.array 11 9):=by kernel_rfl
 have he:Tryz.prog.underlying 9=some .string:=by kernel_rfl
 have iJ:=awh (eV:=[[61,61],[59],[44],[61],[60],[43],[45],[42],[47],[40],[41]]) hu he (by kernel_rfl) (by kernel_rfl) rfl aw;have eb:cs.size=11:=by rw[<-Array.length_toList,iJ];rfl
 obtain⟨⟨c,t,Ki⟩,-⟩:=U 0 0 (by
  rw[List.append_assoc];refine h5.2 (.inl ?_);unfold MemPlace.row;rw[eb];exact h7.2 ⟨0,by simp,rfl⟩)
 unfold World.var? at al;rw[rp] at al;simp only[Option.bind_some,Ki,bM] at al;subst al;intro b l R;unfold L5 at R
 split at R
 ·rename_i Ac;subst Ac
  cases R;exact⟨t,by rw[Ki,<-iJ]⟩
 ·cases R
end Go.Mini
