/- A part of the proof. -/
import Derived.Test.YtgpioapepokkbaaGreatProg
import Derived.KernelRfl
import Derived.Test.YtgpioapepokkbaaGreatM05
set_option linter.unusedSimpArgs false
set_option linter.unusedVariables false
set_option linter.defProp false
set_option maxRecDepth 100000
set_option maxHeartbeats 4000000
noncomputable section
open Bool renaming and_eq_true->eQ,and_false->hs,eq_iff_iff->kd,false_and->fC,false_or->rY,not_eq_true'->nS,not_false->dd,not_not->acI,not_true->cF,or_false->mM,true_and->g4,true_or->qG
open Classical renaming byContradiction->kE
open Decidable renaming em->dq
open Int renaming toNat_natCast->g9,toNat_zero->rE
open List renaming all_eq_true->ld,any_eq_false->uL,append_assoc->gr,append_nil->fG,concat_eq_append->Ev,cons_append->ky,count_pos_iff->apZ,drop->ft,drop_append->oj,drop_eq_nil_of_le->j0,drop_zero->nG,eq_nil_or_concat->Eu,ext_getElem?->pY,filter_append->ql,filter_cons_of_neg->u5,filter_cons_of_pos->tr,filter_eq_nil_iff->Jz,filter_eq_self->apP,filter_nil->qm,flatten_append->A8,flatten_cons->k5,foldl_append->acu,foldl_cons->Hm,getD_eq_getElem?_getD->ei,getElem?_cons_succ->yC,getElem?_cons_zero->xe,getElem?_drop->lE,getElem?_eq_getElem->bn,getElem?_eq_some_iff->dK,getElem?_map->bo,getElem?_set_self->Hw,getElem_of_mem->Le,length->D,length_append->fO,length_cons->hQ,length_eq_zero_iff->Bt,length_filter_le->nZ,length_map->ar,length_nil->lH,length_replicate->C7,length_set->hL,length_singleton->AZ,length_take->gE,mapM_cons->kr,mapM_nil->VA,map_append->kh,map_congr_left->mH,map_cons->eu,map_drop->Pr,map_map->mK,map_nil->cR,map_take->AU,mem_append->iF,mem_cons->hS,mem_cons_of_mem->g5,mem_cons_self->gK,mem_filter->Bc,mem_map->ef,mem_map_of_mem->u2,mem_of_getElem?->dZ,mem_range->gQ,mem_singleton->vY,pairwise_append->Ps,pairwise_cons->GL,pairwise_singleton->apx,range->dD,range_succ->m5,replicate->dH,replicate_succ->qC,set_eq_take_append_cons_drop->apG,take->fh,take_add_one->hF,take_append->D8,take_append_drop->ui,take_length->mW,take_of_length_le->dt,take_set_of_le->apH,take_succ_cons->vx,take_zero->l3
open List.cons renaming injEq->bh
open Nat renaming add_assoc->qA,le_of_ble_eq_true->qq,le_refl->bM,mul_one->dy,one_mul->BJ,sub_self->lf,sub_zero->ND,zero_add->ks,zero_le->fy
open Option renaming bind_none->nr,bind_some->ng,map_some->iY
open Option.some renaming inj->mD,injEq->cl
open Prod renaming ext->ej
open Prod.mk renaming injEq->e2
open Rat renaming add_zero->rf,intCast_mul->rj,intCast_natCast->o1,intCast_sub->zp,le_refl->gg,mul_zero->oZ,sub_eq_add_neg->MS
namespace Go.Mini
open Go
def ko (cs:List ao)(is:List Int)(aj rk:Int)(k:Nat):List ao:=(dF cs is aj rk k (D is)).set (is.getD k 0).toNat ((cs.getD (is.getD k 0).toNat hJ).1,(cs.getD (is.getD k 0).toNat hJ).2.1,rk,(cs.getD (is.getD k 0).toNat hJ).2.2.2)
def tH (cash:List Int)(cs:List ao)(is:List Int)(aj rk:Int)(k:Nat):Rat:=yg cash (ko cs is aj rk k) (is.getD k 0).toNat
def UW (cash:List Int)(cs:List ao)(is:List Int)(aj rk k:Int):Data:=if h0 cash cs is aj rk=true then (if 0<=k/\k<(D is) then .cP [.int .i64 (if 0<lY cash cs is aj rk k.toNat then (if tH cash cs is aj rk k.toNat<=jj cash cs is aj rk k.toNat then 1 else 2) else 0),.int .i64 0] else .cP [.int .i64 0,.int .i64 4]) else .cP [.int .i64 0,.int .i64 1]
def acr (cs:List ao)(is:List Int)(aj rk:Int)(k:Nat):(ko cs is aj rk k).length=D cs:=by unfold ko;rw[hL,ve]
def ao3 {cash:List Int}{cs:List ao}{is:List Int}{aj rk:Int}(aH:vf cash cs is)(h:yf cash cs is aj rk){k:Nat}(I:k<D is):fv cash (ko cs is aj rk k):=by
 have bH:=Pa h (k:Int) (bM _) I;rw[ae (λh=>h.2 rfl)] at bH;have aa:=aE8 h (aoA h (k:Int) (bM _)) bH;exact⟨aa,aH.1,by rw[acr];exact aH.2.1,λc H=>((gN.1 aa).2.2.2 c H).2.2.2.2.2.2.2⟩
def UX {x y:Rat}:decide (je x y<=0)=decide (x<=y):=by
 have h:=abd (x:=x) (y:=y);rw[kd,decide_eq_true_iff,decide_eq_true_iff];rw[kd,decide_eq_true_iff,decide_eq_true_iff] at h
 constructor
 ·intro F;apply kE;intro G;have:=h.2 (by grind);omega
 ·intro F;apply kE;intro G;have:=h.1 (by omega);grind
def Pl:=bU wR λ(cash,cs,is,aj,rk,k)=>cp (vf cash cs is) (.same (UW cash cs is aj rk k))
@[go_sem] def ao4 (cash cs is aj rk k):=cz Pl rfl Ph (cash,cs,is,aj,rk,k) rfl
def aFz (T:ba)(oG:T EL=aQ Kp)(mq:T Ak=aQ GJ)(rG:T EM=aQ Ki)(rH:T uu=aQ Bw)(eK:T kP=aQ pz):WF T anp Pl:=by
 refine cf λ(cash,cs,is,aj,rk,k)=>cG λH=>⟨rfl,b7 ?_⟩;simp only[anp,wR,b1];have ad:=acp cash cs is aj rk k H;have J:=UU cash cs is aj rk H;unfold UW;unfold Pk at ad;unfold Km at J;rcases h1:h0 cash cs is aj rk
 ·rw[ae (by decide)];rw[ae (by rw[h1];decide)] at ad J;simp only[dB,aU,eA,cR] at ad J;refine ai ?_;repeat' (intro (aw:_=_)<;>simp only[aw,go_sem,go_sem_proc,oG,mq,rG,rH,eK,dB,ad,aU,eA,cR,bne,show ((1:Int)==0)=false from rfl,dd]<;>try refine ah ?_ ?_)
 rw[ab rfl];rw[ab h1] at ad J
 by_cases I:0<=k/\k<D is
 case neg =>
  rw[ae I] at ad ⊢;simp only[dB,aU,eA,cR] at ad J;refine ai ?_;repeat' (intro (aw:_=_)<;>simp only[aw,go_sem,go_sem_proc,oG,mq,rG,rH,eK,dB,ad,aU,eA,cR,bne,show ((4:Int)==0)=false from rfl,dd]<;>try refine ah ?_ ?_)
 rw[ab I] at ad ⊢;obtain⟨k,rfl⟩:∃n:Nat,k=(n:Int):=⟨k.toNat,by omega⟩
 have aq:k<D is:=by omega
 rw[g9] at ad ⊢;rcases a8:decide (0<lY cash cs is aj rk k)
 ·rw[ae (of_decide_eq_false a8)];rw[a8] at ad;generalize ax (lY cash cs is aj rk k)=bC at *;obtain⟨⟨cr,b6⟩,⟨ga,iQ⟩⟩:=bC;simp only[aU,dB] at ad;refine ai ?_;repeat' (intro (aw:_=_)<;>simp only[aw,go_sem,go_sem_proc,oG,mq,rG,rH,eK,dB,ad,bne,beq_self_eq_true,cF,dd]<;>try refine ah ?_ ?_)
 rw[ab (of_decide_eq_true a8)];rw[a8] at ad;have hg:=GF.1 h1;have ee:=ack cash cs is aj rk k ⟨H,h1⟩;have X:=ao3 H hg aq;obtain⟨-,hl⟩:=aco H hg aq;have nF:=H;obtain⟨aH,ht,AK⟩:=H;have Az:=acr cs is aj rk k;have rI:=O9 cash (ko cs is aj rk k) ⟨by omega,by omega,λ_=>X⟩
 unfold sx at rI;rw[ab X.right] at rI;obtain⟨i,Q⟩:∃i,is[k]?=some i:=⟨_,bn aq⟩;have jO:=mj (d:=0) Q;have fB:=hg.bN k aq;have k0:=Kg (cash:=cash) (l:=ko cs is aj rk k) (j:=(is.getD k 0).toNat) (by omega);have fA:=UH X (j:=(is.getD k 0).toNat) (by omega);have nD:(iz cash (ko cs is aj rk k)).length=D cs:=by unfold iz;rw[ar,Az]
 have aY:yg cash (ko cs is aj rk k) (is.getD k 0).toNat=tH cash cs is aj rk k:=rfl;rw[aY] at k0 fA;have bH:=Pa hg (k:Int) (bM _) aq;rw[ae (λh=>h.2 rfl)] at bH;have qX:ko cs is aj rk k=(dF cs is aj rk k (D is)).set (is.getD k 0).toNat ((cs.getD (is.getD k 0).toNat hJ).1,(cs.getD (is.getD k 0).toNat hJ).2.1,rk,(cs.getD (is.getD k 0).toNat hJ).2.2.2):=rfl;rw[jO] at fB k0 bH qX;obtain⟨n,rfl⟩:∃n:Nat,i=(n:Int):=⟨i.toNat,by omega⟩
 rw[g9] at k0 bH qX;have abu:(dF cs is aj rk k (D is)).length=D cs:=ve _ _ _ _ _ _;generalize cs.getD n hJ=c at *;obtain⟨aG,c2,c3,c4⟩:=c;have jx:=aoW bH rk;dsimp only at qX;rw[<-qX] at jx;have cC:=aoV (l:=dF cs is aj rk k (D is)) (k:=n) (by omega);have GK:=acm cash cs is aj rk aq;have g2:=UT cash cs is aj rk (D is);have kS:=zt (iV fA (by omega)) (iV hl (by omega));have hle:=UX (x:=tH cash cs is aj rk k) (y:=jj cash cs is aj rk k);have h6:n<(iz cash (ko cs is aj rk k)).length:=by omega
 have Kl:n<D cs:=by omega
 have acs:=λ(K:bc->Prop) (st:bc)=>oQ (K:=K) (st:=st) n0 11 350034 0 (ko cs is aj rk k);rw[Az] at acs;have Kk:((dF cs is aj rk k (D is)).map bW).flatten.map O.M=a6 bW (dF cs is aj rk k (D is)):=rfl;generalize ny cash (ko cs is aj rk k)=HV at *;generalize iz cash (ko cs is aj rk k)=yc at *;generalize (aB cash (ko cs is aj rk k)).hZ.map o6=FD at *;generalize ko cs is aj rk k=WC at *;generalize dF cs is aj rk k (D is)=XL at *;generalize sA cash cs is aj rk (D is)=IL at *;generalize ax (lY cash cs is aj rk k)=bC at *;generalize ax (jj cash cs is aj rk k)=tR at *;generalize ax (tH cash cs is aj rk k)=aN at *;generalize je (tH cash cs is aj rk k) (jj cash cs is aj rk k)=CQ at *;obtain⟨⟨cr,b6⟩,⟨ga,iQ⟩⟩:=bC;obtain⟨⟨i1,i2⟩,⟨i3,i4⟩⟩:=tR;obtain⟨⟨fu,eg⟩,⟨jg,jR⟩⟩:=aN;simp only[aU,dB] at ad J ee kS;rcases Y:decide (tH cash cs is aj rk k<=jj cash cs is aj rk k)
 ·rw[ae (of_decide_eq_false Y)];rw[Y] at hle;refine ai ?_;repeat' (intro (aw:_=_)<;>simp only[aw,go_sem,go_sem_proc,oG,mq,rG,rH,eK,dB,ad,J,ee,rI,Kk,Q,k0,GK,g2,aq,h6,Kl,abu,Az,jx,cC,acs,kS,hle,aU,aC,bne,beq_self_eq_true,ar,bo,cF,dd]<;>try refine ah ?_ ?_)
 ·rw[ab (of_decide_eq_true Y)];rw[Y] at hle;refine ai ?_;repeat' (intro (aw:_=_)<;>simp only[aw,go_sem,go_sem_proc,oG,mq,rG,rH,eK,dB,ad,J,ee,rI,Kk,Q,k0,GK,g2,aq,h6,Kl,abu,Az,jx,cC,acs,kS,hle,aU,aC,bne,beq_self_eq_true,ar,bo,cF,dd]<;>try refine ah ?_ ?_)
end Go.Mini
namespace Go.Mini
open Classical
def Kq (cs:List ao)(x:Nat->Rat)(i:Nat)(acc:Option Rat)(c:ao):Option Rat :=
 if c.2.1=(i:Int) then acc.bind λs=>if mX s (fK cs (x c.1.toNat) c)=true then some (s+fK cs (x c.1.toNat) c) else none else acc
def yh (cash:List Int)(cs:List ao)(x:Nat->Rat)(i:Nat)(l:List ao):Option Rat:=l.foldl (Kq cs x i) (some ((cash.getD i 0:Int):Rat))
def aFA (cash:List Int)(cs:List ao)(x:Nat->Rat)(i:Nat):yh cash cs x i []=some ((cash.getD i 0:Int):Rat):=rfl
def Pm (cash:List Int)(cs:List ao)(x:Nat->Rat)(i:Nat)(l:List ao)(c:ao):yh cash cs x i (l++[c])=Kq cs x i (yh cash cs x i l) c:=by
 unfold yh;rw[acu];rfl
def vh (cash:List Int)(cs:List ao)(x:Nat->Rat)(i:Nat)(l:List ao):Rat:=((cash.getD i 0:Int):Rat)+cI (l.map cD) λc=>if c.to=(i:Int) then (aB cash cs).hd x c else 0
def aFB {cash:List Int}{cs:List ao}(h:hY cash cs=true)(x:Nat->Rat)(i:Nat)(l:List ao){c:ao}(H:c∈cs):vh cash cs x i (l++[c])=vh cash cs x i l+if c.2.1=(i:Int) then fK cs (x c.1.toNat) c else 0:=by
 unfold vh;rw[kh,N6,<-JC h x H];show _+(_+((if (cD c).to=(i:Int) then (aB cash cs).hd x (cD c) else 0)+0))=_;have e:(cD c).to=c.2.1:=rfl;rw[e,rf];grind
def acv (cash:List Int)(cs:List ao)(x:Nat->Rat):Prop:=∀i,i<(D cash)->yh cash cs x i cs=some (x i)
section
variable {cash:List Int} {cs:List ao} (X:fv cash cs)
include X
def aFC {eS:Nat}(g7:eS=324):0<iU (D cash) (wA cash cs)/\iU (D cash) (wA cash cs)<=2^eS:=by
 have:=X.k3;exact⟨aj3 λk I=>alZ X I,akV (e:=eS) (λk _=>al0 X k) (by omega)⟩
def aFD:∃bb:Nat,0<bb/\(∃a,a<=654/\bb<=2^a)/\(∀i,i<(D cash)->fe bb ((aB cash cs).cW i))/\∀c∈cs,fe bb ((aB cash cs).hd (aB cash cs).cW (cD c)):=by
 obtain⟨bb,F,⟨a,G,af⟩,aS⟩:=alY X;obtain⟨eS,g7⟩:∃eS,eS=324:=⟨_,rfl⟩;obtain⟨iG,h9⟩:=aFC X g7;refine⟨bb*iU (D cash) (wA cash cs),Nat.mul_pos F iG,⟨a+eS,by omega,by rw[Nat.pow_add];exact Nat.mul_le_mul af h9⟩,λi J=>(aS i J).more _,λc H=>?_⟩
 have bt:=al1 X aS H;have I:(cD c).aE<D cash:=X.ok.aE _ (u2 H);refine bt.of_dvd ?_;obtain⟨m,hm⟩:=aj4 (b8:=wA cash cs) I;exact⟨m,by rw[hm,Nat.mul_assoc]⟩
def aFE {i:Nat}(J:i<D cash){l fR:List ao}(ak:cs=l++fR):ec 708 (vh cash cs (aB cash cs).cW i l):=by
 obtain⟨bb,F,⟨a,G,af⟩,-,aS⟩:=aFD X
 have Dj:∀m:List ao,(∀c∈m,c∈cs)->0<=cI (m.map cD) λc=>if c.to=(i:Int) then (aB cash cs).hd (aB cash cs).cW c else 0:=λm hm=>zm λy al=>by
  obtain⟨c,H,rfl⟩:=ef.1 al
  try dsimp only
  split
  ·exact X.ok.aas _ (u2 (hm c H))
  ·exact gg
 have Mw:∀c∈l,c∈cs:=λc H=>by rw[ak];simp[H]
 have nN:∀c∈fR,c∈cs:=λc H=>by rw[ak];simp[H]
 have mN:(0:Rat)<=((cash.getD i 0:Int):Rat):=by have:=(X.cash i).1;exact_mod_cast this
 have Y:fe bb (vh cash cs (aB cash cs).cW i l):=by
  unfold vh;refine (fe.int _ _).add (fe.cI λy al=>?_);obtain⟨c,H,rfl⟩:=ef.1 al
  split
  ·exact aS c (Mw c H)
  ·exact fe.zero _
 have au:0<=vh cash cs (aB cash cs).cW i l:=by
  have:=Dj l Mw;unfold vh;grind
 have hle:vh cash cs (aB cash cs).cW i l<=(aB cash cs).cW i:=by
  rw[(F7 X.ok).1 i J]
  have e:(aB cash cs).wu (aB cash cs).cW i=vh cash cs (aB cash cs).cW i l+cI (fR.map cD) λc=>if c.to=(i:Int) then (aB cash cs).hd (aB cash cs).cW c else 0:=by
   have aD:(aB cash cs).wu (aB cash cs).cW i=((cash.getD i 0:Int):Rat)+cI (cs.map cD) λc=>if c.to=(i:Int) then (aB cash cs).hd (aB cash cs).cW c else 0:=rfl;rw[aD];unfold vh;have bX:cI (cs.map cD) (λc=>if c.to=(i:Int) then (aB cash cs).hd (aB cash cs).cW c else 0)=cI ((l++fR).map cD) λc=>if c.to=(i:Int) then (aB cash cs).hd (aB cash cs).cW c else 0:=by rw[<-ak]
   rw[bX,kh,N6];grind
  have:=Dj fR nN;grind
 exact (Y.sz F af au (e:=54) (Rat.le_trans hle (aAR X J))).mono (by omega)
def ao5:acv cash cs (aB cash cs).cW:=λi J=>by
 have key:∀n (l fR:List ao),D l=n->cs=l++fR->yh cash cs (aB cash cs).cW i l=some (vh cash cs (aB cash cs).cW i l):=by
  intro n
  induction n with
  |zero =>
   intro l fR ak _;have:l=[]:=Bt.1 ak;subst this;rw[aFA];unfold vh;rw[cR,cI,rf]
  |succ n av =>
   intro l fR ak kt;rcases Eu l with au|⟨m,c,rfl⟩
   ·subst au;cases ak
   ·rw[Ev] at *;simp only[fO,AZ] at ak;have H:c∈cs:=by rw[kt];simp
    have hq:cs=m++([c]++fR):=by rw[kt,gr]
    rw[Pm,aFB X.right _ i m H,av m _ (by omega) hq];unfold Kq
    by_cases wE:c.2.1=(i:Int)
    ·rw[ab wE,ab wE,ng,ab];refine Df (aFE X J hq) (b:=482) ?_ (by omega);rw[<-JC X.right _ H];exact Tt X H
    ·rw[ae wE,ae wE,rf]
 have F:=key _ cs [] rfl (by simp);rw[F,(F7 X.ok).1 i J]
 rfl
end
end Go.Mini
namespace Go.Mini
open Go
def ao6 (x:Rat):x*(x.den:Rat)=(x.num:Rat):=by
 have h:(Rat.divInt x.num x.den)=x:=Rat.num_divInt_den x;rw[Rat.divInt_eq_div] at h;have au:((x.den:Int):Rat)≠0:=by have:=x.den_nz;exact_mod_cast this
 have G:(x.num:Rat)/((x.den:Int):Rat)*((x.den:Int):Rat)=(x.num:Rat):=Rat.div_mul_cancel au;rw[h,o1] at G;exact G
def ao7 {x y:Rat}(h:mX x y=true):dc (x+y):=by
 unfold mX at h;simp only[eQ] at h;obtain⟨-,-,af,aS⟩:=h
 have Y:((x.den:Int)*y.den)≠0:=by
  have F:=x.den_nz;have G:=y.den_nz;exact Int.mul_ne_zero (by omega) (by omega)
 have e:(x+y)*(((x.den:Int)*y.den:Int):Rat)=((x.num*y.den+y.num*x.den:Int):Rat):=by
  have az:x*(x.den:Rat)=(x.num:Rat):=ao6 x;have aD:y*(y.den:Rat)=(y.num:Rat):=ao6 y;rw[Rat.intCast_add,rj,rj,rj,o1,o1,<-az,<-aD];grind
 obtain⟨f1,f2⟩:=Dd Y e;have:=q6 af;have:=q6 aS;exact⟨by omega,by omega⟩
def ao8 {x y:Rat}(Q:dc x)(al:dc y):v9 [.agg (aU (ax x)),.agg (aU (ax y))]=some (.same (.cP [.agg (aU (xF (mX x y) (x+y)).1),.int .i64 (xF (mX x y) (x+y)).2])):=by
 have F:=m1 Q;have G:=m1 al;have:=ahg (ax x).1.1 (ax x).1.2 (ax x).2.1 (ax x).2.2 (ax y).1.1 (ax y).1.2 (ax y).2.1 (ax y).2.2 ⟨F.1,F.2,G.1,G.2⟩;exact this.trans (by show some (dx.same (gf (y7 (ax x) (ax y))))=_;rw[Zj Q al];rfl)
def ao9:=bU qc λ(s,l,s2,aI,dP,cS,dU,dk)=>cp (D l<=1000000/\D aI<=1000000/\D cS<=1000000/\D dk<=1000000) (.same (.bool (py ((s,l),(s2,aI)) ((dP,cS),(dU,dk))==0)))
@[go_sem] def aFF (s l s2 aI dP cS dU dk):=cz ao9 rfl CH (s,l,s2,aI,dP,cS,dU,dk) rfl
def mr:List bF->List bF->Bool
 | [],[]=>true
 |a::l,b::m=>(py a b==0)&&mr l m
 |_,_=>false
def apa:∀(a b:List bF),(D a)≠(D b)->mr a b=false
 | [],[],h=>absurd rfl h
 | [],_::_,_=>rfl
 |_::_,[],_=>rfl
 |a::l,b::m,h=>by
  unfold mr;rw[apa l m (by simpa using h),hs]
def aFG {a b:List bF}{i:Nat}{x y:bF}(aO:a[i]?=some x)(ad:b[i]?=some y)(h:mr (a.take i) (b.take i)=true)(H:(py x y==0)=false):mr a b=false:=by
 induction i generalizing a b with
 |zero =>
  cases a with
  |nil=>cases aO
  |cons a l =>
   cases b with
   |nil=>cases ad
   |cons b m =>
    simp only[xe,cl] at aO ad;subst aO ad;rw[mr,H,fC]
 |succ i av =>
  cases a with
  |nil=>cases aO
  |cons a l =>
   cases b with
   |nil=>cases ad
   |cons b m =>
    simp only[yC] at aO ad;rw[vx,vx,mr,eQ] at h;rw[mr,av aO ad h.2,hs]
def aFH {a b:List bF}{i:Nat}{x y:bF}(aO:a[i]?=some x)(ad:b[i]?=some y)(h:mr (a.take i) (b.take i)=true)(H:(py x y==0)=true):mr (a.take (i+1)) (b.take (i+1))=true:=by
 induction i generalizing a b with
 |zero =>
  cases a with
  |nil=>cases aO
  |cons a l =>
   cases b with
   |nil=>cases ad
   |cons b m =>
    simp only[xe,cl] at aO ad;subst aO ad;simp[mr,H]
 |succ i av =>
  cases a with
  |nil=>cases aO
  |cons a l =>
   cases b with
   |nil=>cases ad
   |cons b m =>
    simp only[yC] at aO ad;rw[vx,vx,mr,eQ] at h;rw[vx,vx,mr,h.1,av aO ad h.2];rfl
def apb (T:ba)(f:FuncId)(aL:List Data->Option dx)(cQ:T f=aQ aL)(a b:List bF)(aO:mZ a)(ad:mZ b)(eW:∀cH cY ep fi c6 eB jA lT,D cY<=1000000->(D fi)<=1000000->(D eB)<=1000000->(D lT)<=1000000->aL [.agg [.int .i64 cH,.ay (cY.map aC),.int .i64 ep,.ay (fi.map aC)],.agg [.int .i64 c6,.ay (eB.map aC),.int .i64 jA,.ay (lT.map aC)]]=some (.same (.bool (py ((cH,cY),(ep,fi)) ((c6,eB),(jA,lT))==0)))):WP T QX (.same (.bool (mr a b))) [.M (.ay (a.map aU)),.M (.ay (b.map aU)),.M (.fn f [])]:=by
 refine b7 ?_;simp only[QX];obtain⟨aO,aFI⟩:=aO;obtain⟨ad,aFJ⟩:=ad;rcases ak:((D a:Int)==(D b:Int))
 ·rw[apa a b (by have:=ne_of_beq_false ak;omega)];refine ai ?_;repeat' (intro h<;>simp only[h,go_sem,go_sem_proc,ak,ar,bne,dd]<;>try refine ah ?_ ?_)
 ·have hle:(D a)=D b:=by have:=eq_of_beq ak;omega
  simp only[go_sem,go_sem_proc,ak,ar,bne,cF];refine da [1,2,15,16] [] (λ(i:Nat) tm mem=>i<=D a/\mr (a.take i) (b.take i)=true/\tm 17=.M (.int .i64 i)) (λi=>D a-i) 0 (by refine⟨fy _,by simp[mr],rfl⟩) ?_;intro vs ms aW aR;simp only[go_sem,go_sem_proc,ar] at aW aR;subst aW aR;rintro i tm mem I hm ⟨J,en,nX⟩;simp only[go_sem,go_sem_proc,bh] at I hm;obtain⟨az,aD,tB,pH⟩:=I;rcases dq (i<D a) with aq|ca
  ·have d1:decide ((i:Int)<(D a:Int))=true:=cX;have ct:=e0 (i:=i) (by omega);obtain⟨x,Q⟩:∃x,a[i]?=some x:=⟨_,bn aq⟩;obtain⟨y,al⟩:∃x,b[i]?=some x:=⟨_,bn (by omega)⟩;obtain⟨Du,Dv⟩:=aFI x (dZ Q);obtain⟨Dw,Dx⟩:=aFJ y (dZ al);have c9:=λH=>aFG Q al en H;have gx:=λH=>aFH Q al en H;obtain⟨⟨cH,cY⟩,⟨ep,fi⟩⟩:=x;obtain⟨⟨c6,eB⟩,⟨jA,lT⟩⟩:=y;dsimp only at Du Dv Dw Dx;have qf:=eW cH cY ep fi c6 eB jA lT Du Dv Dw Dx;rcases q:(py ((cH,cY),(ep,fi)) ((c6,eB),(jA,lT))==0)
   ·rw[c9 q];refine ai ?_;repeat' (intro h<;>simp only[h,go_sem,go_sem_proc,az,aD,tB,pH,nX,Q,al,d1,ct,cQ,qf,q,aU,ar,bo,dd]<;>try refine ah ?_ ?_)
   ·refine ai ?_;repeat' (intro h<;>simp only[h,go_sem,go_sem_proc,az,aD,tB,pH,nX,Q,al,d1,ct,cQ,qf,q,aU,ar,bo,cF]<;>try refine ah ?_ ?_)
    exact⟨i+1,by omega,by omega,gx q,rfl⟩
  ·have d1:decide ((i:Int)<(D a:Int))=false:=cA;rw[dt (by omega),dt (by omega)] at en;rw[en];refine ai ?_;repeat' (intro h<;>simp only[h,go_sem,go_sem_proc,az,aD,tB,pH,nX,d1,ar]<;>try refine ah ?_ ?_)
def UY:=bU qc λ(s,l,s2,aI,dP,cS,dU,dk)=>cp (D l<=1000000/\D aI<=1000000/\D cS<=1000000/\D dk<=1000000) (.same (.bool (py ((s,l),(s2,aI)) ((dP,cS),(dU,dk))==0)))
@[go_sem] def aFK (s l s2 aI dP cS dU dk):=cz UY rfl CH (s,l,s2,aI,dP,cS,dU,dk) rfl
def aFL (T:ba)(eK:T kP=aQ pz):WF T ahX UY:=by
 refine cf λ(s,l,s2,aI,dP,cS,dU,dk)=>cG λH=>⟨rfl,b7 ?_⟩;simp only[ahX,qc,b1];obtain⟨Du,Dv,Dw,Dx⟩:=H;refine ai ?_;repeat' (intro h<;>simp only[h,go_sem,go_sem_proc,eK,Du,Dv,Dw,Dx]<;>try refine ah ?_ ?_)
abbrev UZ:(List bF)×(List bF)×FuncId->List Data:=λ(a,b,f)=>[.ay (a.map aU),.ay (b.map aU),.fn f []]
def U0:=bU UZ λ(a,b,f)=>cp (mZ a/\mZ b/\((f=QO/\QO<900000)\/(f=EI/\EI<900000))) (.same (.bool (mr a b)))
def aFM:∀a b,UZ a=UZ b->a=b:=by
  rintro⟨cH,c6,f1⟩ ⟨cY,eB,f2⟩ h;simp only[bh,Data.ay.injEq,Data.fn.injEq,and_true] at h;exact ej (map_inj nq _ _ h.1) (ej (map_inj nq _ _ h.2.1) h.2.2)
@[go_sem] def aFN (a b f):=cz U0 rfl aFM (a,b,f) rfl
def aFO (T:ba)(aFP:QO<900000->T QO=aQ ao9)(aFQ:EI<900000->T EI=aQ UY):WF T QX U0:=by
 refine cf λ(a,b,f)=>cG λH=>⟨rfl,b7 ?_⟩;simp only[QX,UZ,b1];obtain⟨aO,ad,aK⟩:=H;rcases aK with ⟨rfl,J⟩|⟨rfl,J⟩
 ·exact qe (apb T _ _ (aFP J) a b aO ad λcH cY ep fi c6 eB jA lT F G af aS=>aFF cH cY ep fi c6 eB jA lT ⟨F,G,af,aS⟩)
 ·exact qe (apb T _ _ (aFQ J) a b aO ad λcH cY ep fi c6 eB jA lT F G af aS=>aFK cH cY ep fi c6 eB jA lT ⟨F,G,af,aS⟩)
abbrev U1:(List bF)×(List bF)->List Data:=λ(a,b)=>[.ay (a.map aU),.ay (b.map aU)]
def U2:=bU U1 λ(a,b)=>cp (mZ a/\mZ b) (.same (.bool (mr a b)))
def aFR:∀a b,U1 a=U1 b->a=b:=by
  rintro⟨cH,c6⟩ ⟨cY,eB⟩ h;simp only[bh,Data.ay.injEq,and_true] at h;exact ej (map_inj nq _ _ h.1) (map_inj nq _ _ h.2)
@[go_sem] def aFS (a b):=cz U2 rfl aFR (a,b) rfl
def aFT (T:ba)(aFU:T XI=aQ U0):WF T ahQ U2:=by
 refine cf λ(a,b)=>cG λH=>⟨rfl,b7 ?_⟩;simp only[ahQ,U1,b1];have aY:=aFN a b EI ⟨H.1,H.2,.inr ⟨rfl,by decide⟩⟩
 refine ai ?_;repeat' (intro h<;>simp only[h,go_sem,go_sem_proc,aFU,aY]<;>try refine ah ?_ ?_)
def acw (aA:List bF):List Rat:=aA.map CF
structure apc (cash:List Int) (cs:List ao) (aA:List bF):Prop where
 n:(D cash)<=1000000
 c:(D cs)<=1000000
 o:mZ aA
 zw:hY cash cs=true->fv cash cs
 sz:hY cash cs=true->(D aA)=(D cash)->aA.any (uM Ai)=false->∀f∈aA,ec 460 (CF f)
open Classical in
def acx (cash:List Int)(cs:List ao)(x:Nat->Rat):Bool:=decide (acv cash cs x)
open Classical in
def aFV {cash:List Int}{cs:List ao}{x:Nat->Rat}:acx cash cs x=true↔acv cash cs x:=by
 unfold acx;exact decide_eq_true_iff
def acy (cash:List Int)(cs:List ao)(aA:List bF):Bool:=hY cash cs&&(decide (D aA=D cash)&&(!aA.any (uM Ai)&&acx cash cs λi=>(acw aA).getD i 0))
def apd:∀(a b:List Rat),(∀x∈a,dc x)->(∀x∈b,dc x)->(mr (a.map ax) (b.map ax)=true↔a=b)
 | [],[],_,_=>by simp[mr]
 | [],_::_,_,_=>by simp[mr]
 |_::_,[],_,_=>by simp[mr]
 |x::a,y::b,aO,ad=>by
  have av:=apd a b (λz aV=>aO z (g5 _ aV)) λz aV=>ad z (g5 _ aV);rw[eu,eu,mr,eQ,av,bh,RH (aO x gK) (ad y gK)]
  have:(je x y==0)=true↔x=y:=by
   have F:=abd (x:=x) (y:=y);have G:=N9 (x:=x) (y:=y);rw[beq_iff_eq]
   constructor
   ·intro h;rw[h] at F G;have az:¬ y<x:=of_decide_eq_false (F.symm.trans rfl);have aD:¬ x<y:=of_decide_eq_false (G.symm.trans rfl);grind
   ·intro h;have az:¬ y<x:=by grind
    have aD:¬ x<y:=by grind
    rw[lZ az] at F;rw[lZ aD] at G;have:=of_decide_eq_false F;have:=of_decide_eq_false G;omega
  rw[this]
structure Kr (cash:List Int) (cs:List ao) (x:Nat->Rat) (l:List ao) (s:Nat->Rat):Prop where
 a:∀i,i<(D cash)->yh cash cs x i l=some (s i)
 l:∀i,i<(D cash)->dc (s i)
def Kr.skip {cash:List Int}{cs:List ao}{x:Nat->Rat}{l:List ao}{s:Nat->Rat}(h:Kr cash cs x l s){c:ao}(H:c.2.1<0):Kr cash cs x (l++[c]) s:=by
 refine⟨λi J=>?_,h.l⟩;rw[Pm,h.a i J];unfold Kq;rw[ae (by omega)]
def Kr.add {cash:List Int}{cs:List ao}{x:Nat->Rat}{l:List ao}{s:Nat->Rat}(h:Kr cash cs x l s){c:ao}{t:Nat}(H:c.2.1=(t:Int))(I:mX (s t) (fK cs (x c.1.toNat) c)=true):Kr cash cs x (l++[c]) λi=>if i=t then s t+fK cs (x c.1.toNat) c else s i:=by
 refine⟨λi J=>?_,λi J=>?_⟩
 ·rw[Pm,h.a i J];unfold Kq
  by_cases Pn:i=t
  ·subst Pn;rw[ab H,ng,ab I,ab rfl]
  ·rw[ae (by omega),ae Pn]
 ·by_cases Pn:i=t
  ·rw[ab Pn];exact ao7 I
  ·rw[ae Pn];exact h.l i J
def acz {cs:List ao}(cT:∀c∈cs,0<=c.2.2.2/\c.2.2.2<=1000000000000000)(ht:(D cs)<=12){x:Rat}(Q:ec 460 x){c:ao}(H:c∈cs):dc (fK cs x c):=by
 have ad:∀(p:ao->Prop) [DecidablePred p],0<=cJ cs (λc=>if p c then c.2.2.2 else 0)/\cJ cs (λc=>if p c then c.2.2.2 else 0)<=12000000000000000:=λp _=>by
  have:=SS (cs:=cs) (aL:=λc=>if p c then c.2.2.2 else 0) (B:=1000000000000000) (by omega) λc H=>by
   have F:=cT c H
   try dsimp only
   split<;>omega
  omega
 have mg:=ad λc'=>c'.1=c.1/\c'.2.2.1<c.2.2.1;have cB:=ad λc'=>c'.1=c.1/\c'.2.2.1=c.2.2.1;rw[<-alO] at cB;have aO:=cT c H;have Gy:ec 54 ((c.2.2.2:Int):Rat):=Bh (by omega);have J8:ec 54 ((kF cs c.1 c.2.2.1:Int):Rat):=Bh (by omega);have aFW:ec 54 ((cK cs c.1 c.2.2.1:Int):Rat):=Bh (by unfold cK;omega);unfold fK
 split
 ·exact iV Gy (by omega)
 ·have aFX:ec 515 (pos (x-((cK cs c.1 c.2.2.1:Int):Rat))):=by
   unfold pos
   split
   ·exact (show ec 1 0 from⟨by decide,by decide⟩).mono (by omega)
   ·rw[MS];exact (aaT Q (Dg aFW)).mono (by omega)
  by_cases au:((kF cs c.1 c.2.2.1:Int):Rat)=0
  ·rw[au,Rat.div_def,Rat.inv_zero,oZ,Rat.zero_mul];exact iV (show ec 1 0 from⟨by decide,by decide⟩) (by omega)
  ·exact iV (NX (azp Gy J8 au) aFX) (by omega)
abbrev acA:(List Int)×(List ao)×(List bF)->List Data:=λ(cash,cs,aA)=>[.ay (cash.map aC),.ay (cs.map bW),.ay (aA.map aU)]
def ape:=bU acA λ(cash,cs,aA)=>cp (apc cash cs aA) (.same (.bool (acy cash cs aA)))
def aFY:∀a b,acA a=acA b->a=b:=by
  rintro⟨tD,vc,pW⟩ ⟨tE,oh,pX⟩ h;simp only[bh,Data.ay.injEq,and_true] at h;exact ej (map_inj fq _ _ h.1) (ej (map_inj u7 _ _ h.2.1) (map_inj nq _ _ h.2.2))
@[go_sem] def aFZ (cash cs aA):=cz ape rfl aFY (cash,cs,aA) rfl
section
variable {cash:List Int} {cs:List ao} (X:fv cash cs)
include X
def apf:mZ (ny cash cs):=by
 have:=X.k3;exact aa0 (by omega) λi J=>iV (Gb X J) (by omega)
def aF0:(ny cash cs).any (uM Ai)=false/\acw (ny cash cs)=(dD (D cash)).map (aB cash cs).cW:=by
 refine⟨?_,?_⟩
 ·rw[uL];intro f aK;obtain⟨y,al,rfl⟩:=ef.1 aK;obtain⟨i,J,rfl⟩:=ef.1 al;have ku:i<D cash:=gQ.1 J;have ak:=iV (Gb X ku) (by omega);have aH:=N8 X.ok ku;rw[ah5];show ¬ (!eY (ax ((aB cash cs).cW i))||decide ((ax ((aB cash cs).cW i)).1.1<0))=true;rw[Jw ak];have:decide ((aB cash cs).cW i<0)=false:=lZ (by grind);rw[<-alS] at this;have G:decide ((ax ((aB cash cs).cW i)).1.1<0)=false:=this;rw[G];decide
 ·unfold acw ny dz;rw[mK];exact (mH λx _=>Fj x).trans (List.map_id _)
def aF1:apc cash cs (ny cash cs)/\acy cash cs (ny cash cs)=true:=by
 obtain⟨F,G⟩:=aF0 X;have aH:=X.k3;have ht:=X.ts;refine⟨⟨by omega,by omega,apf X,λ_=>X,λ_ _ _ f aK=>?_⟩,?_⟩
 ·obtain⟨y,al,rfl⟩:=ef.1 aK;obtain⟨i,J,rfl⟩:=ef.1 al;rw[Fj];exact (Gb X (gQ.1 J)).mono (by omega)
 ·unfold acy;have ak:(ny cash cs).length=D cash:=rm _ _;rw[X.right,F,h2 ak,g4,g4,dd,g4,aFV,G];intro i J;have Q:=ao5 X i J
  have kt:yh cash cs (λi=>((dD (D cash)).map (aB cash cs).cW).getD i 0) i cs=yh cash cs (aB cash cs).cW i cs:=by
   have aa:=(gN.1 X.right).2.2.2
   have key:∀n (l:List ao),D l=n->(∀c∈l,c∈cs)->yh cash cs (λi=>((dD (D cash)).map (aB cash cs).cW).getD i 0) i l=yh cash cs (aB cash cs).cW i l:=by
    intro n
    induction n with
    |zero=>intro l ak _;rw[Bt.1 ak];rfl
    |succ n av =>
     intro l ak hm;rcases Eu l with au|⟨m,c,rfl⟩
     ·subst au;cases ak
     ·rw[Ev] at *;simp only[fO,AZ] at ak;have H:=aa c (hm c (by simp));rw[Pm,Pm,av m (by omega) λy al=>hm y (by simp[al])];unfold Kq;have:((dD (D cash)).map (aB cash cs).cW).getD c.1.toNat 0=(aB cash cs).cW c.1.toNat:=Bp (aB cash cs).cW 0 (show c.1.toNat<(D cash) by omega);simp only[this]
   exact key _ cs rfl λc H=>H
  rw[kt,Q];show _=some ((bA (D cash) (aB cash cs).cW).getD i 0);rw[Bp (aB cash cs).cW 0 J]
end
def aF2 (l:List (List Nat)):l.map o6=(l.map λr=>r.map λn=>((n:Nat):Int)).map vb:=by
 rw[mK];refine mH λr _=>?_;simp only[o6,vb,Function.comp_apply,mK]
 rfl
def aF3 {x:Rat}(Q:dc x):uJ [.agg (aU (ax x))]=some (.same (.bool true)):=by
 have F:=m1 Q;have:=avL (ax x).1.1 (ax x).1.2 (ax x).2.1 (ax x).2.2 ⟨F.1,F.2⟩;rw[show eY (((ax x).1.1,(ax x).1.2),((ax x).2.1,(ax x).2.2))=true from Jw Q] at this;exact this
structure Ks (cash:List Int) (cs:List ao) (aA cy:List Int) (aP:List (List Int)):Prop where
 s:fv cash cs
 h:ny cash cs=aA.map λn:Int=>ax (n:Rat)
 p:iz cash cs=cy.map λn:Int=>ax (n:Rat)
 f:((aB cash cs).hZ.map λr=>r.map λn=>((n:Nat):Int))=aP
 J:∀n∈aA,fa n
 pi:∀n∈cy,fa n
 o:aCL aP
def Ks.solve {cash:List Int}{cs:List ao}{aA cy:List Int}{aP:List (List Int)}(h:Ks cash cs aA cy aP):Bw [.ay (cash.map aC),.ay (cs.map bW)]=some (.same (.cP [.agg [.ay ((aA.map λn:Int=>ax (n:Rat)).map aU),.ay ((cy.map λn:Int=>ax (n:Rat)).map aU),.ay (aP.map vb)],.int .i64 0])):=by
 have aH:=h.s.k3;have ht:=h.s.ts;have rI:=O9 cash cs ⟨by omega,by omega,λ_=>h.s⟩
 unfold sx at rI;rw[ab h.s.right,h.h,h.p,aF2,h.f] at rI;exact rI
def Ks.fits {cash:List Int}{cs:List ao}{aA cy:List Int}{aP:List (List Int)}(h:Ks cash cs aA cy aP):ape [.ay (cash.map aC),.ay (cs.map bW),.ay ((aA.map λn:Int=>ax (n:Rat)).map aU)]=some (.same (.bool true)):=by
 obtain⟨F,G⟩:=aF1 h.s;have:=aFZ cash cs (ny cash cs) F;rw[G,h.h] at this;exact this
def Ks.small {cash:List Int}{cs:List ao}{aA cy:List Int}{aP:List (List Int)}(h:Ks cash cs aA cy aP):(D aA)<=6/\D cy<=12:=by
 have F:=congrArg D h.h;have G:=congrArg D h.p;unfold ny at F;unfold iz at G;rw[rm,ar] at F;rw[ar,ar] at G;have aH:=h.s.k3;have ht:=h.s.ts;omega
end Go.Mini
namespace Go.Mini
open Classical
def az:Day:=aB [5,0] [(0,1,0,10),(1,-1,0,4)]
def aD:Day:=aB [0,0] [(0,1,1,10),(1,0,1,10)]
def dE:Day:=aB [9] [(0,-1,0,6),(0,-1,1,2),(0,-1,1,4)]
def bX:Day:=aB [0,0] [(0,1,1,10),(1,0,1,10),(0,-1,0,5)]
def c8:Day:=aB [10,30] [(1,-1,0,25)]
def bP:Day:=aB [10,0] [(0,1,0,30)]
def cg:Day:=aB [30,0] [(0,1,0,30)]
end Go.Mini
namespace Go.Mini
open Go

end Go.Mini
namespace Go.Mini
open Classical
section
variable {cash:List Int} {cs:List ao} (X:fv cash cs)
include X
end
end Go.Mini
namespace Go.Mini
open Go
abbrev U3:(List ao)×(List Rat)->List Data:=λ(l,q)=>[.ay (l.map bW),.ay ((q.map ax).map aU)]
def U4:=bU U3 λ(l,q)=>cp (anB l q) (.same (T5 l q))
def aF4:∀a b,U3 a=U3 b->a=b:=by
  rintro⟨eH,fu⟩ ⟨aI,eg⟩ h;simp only[bh,Data.ay.injEq,and_true] at h;exact ej (map_inj u7 _ _ h.1) (map_inj (λx y aX=>se aX) _ _ (map_inj nq _ _ h.2))
@[go_sem] def aF5 (l q):=cz U4 rfl aF4 (l,q) rfl
def aF6 (T:ba)(rz:T LY=aQ OT)(fV:T ma=aQ uJ)(oD:T vN=aQ FZ)(eK:T kP=aQ pz):WF T alc U4:=by
 refine cf λ(l,q)=>cG λH=>⟨rfl,b7 ?_⟩;simp only[alc,U3,b1];obtain⟨how,hlen,jT⟩:=H;have ht:=how.len;have gy:∀c∈l,0<=c.2.2.1/\c.2.2.1<10:=λc H=>by have:=how.c c H;omega
 have hle:((D q:Int)==(D l:Int))=true:=by rw[hlen];exact beq_self_eq_true _
 simp only[go_sem,go_sem_proc,rz,fV,oD,eK,how,hle,ar,bne,cF];refine da [1,19,20] [] (λ(i:Nat) tm m=>i<=D l/\tm 21=.M (.int .i64 i)/\tm 6=.M (.int .i64 (ih l (λi=>q.getD i 0) i))) (λi=>D l-i) 0 (by refine⟨by omega,rfl,rfl⟩) ?_;intro vs ms aW aR;simp only[go_sem,go_sem_proc,rz,fV,oD,eK,ar] at aW aR;subst aW aR;rintro i tm m I-⟨J,pw,bP⟩;simp only[go_sem,go_sem_proc,rz,fV,oD,eK,bh] at I;obtain⟨az,Bx,mm⟩:=I;rcases dq (i<D l) with aq|ca
 ·have d1:decide ((i:Int)<(D l:Int))=true:=cX;have ct:=e0 (i:=i) (by omega);obtain⟨⟨aG,c2,c3,c4⟩,Q⟩:∃c,l[i]?=some c:=⟨_,bn aq⟩;obtain⟨x,al⟩:∃x,q[i]?=some x:=⟨_,bn (by omega)⟩;have H:=how.c _ (dZ Q);have ak:=jT x (dZ al);dsimp only at H;have cn:fa c4:=rn (by omega) (by omega);have cH:=aF3 ak;have cY:=OV cn;have ep:=zt ak (rq cn);have aH:decide (je x ((c4:Int):Rat)<0)=decide (x<((c4:Int):Rat)):=N9;have w6:q.getD i 0=x:=by rw[ei,al];rfl
  have uO:ih l (λi=>q.getD i 0) (i+1)=if x<((c4:Int):Rat) then min (ih l (λi=>q.getD i 0) i) c3 else ih l (λi=>q.getD i 0) i:=by
   rw[ih,Q];dsimp only;rw[w6]
  have apg:(q.map ax)[i]?=some (ax x):=by rw[bo,al];rfl
  generalize q.map ax=QE at *;generalize ax x=aL at *;generalize ax ((c4:Int):Rat)=bC at *;obtain⟨⟨f1,f2⟩,⟨f3,f4⟩⟩:=aL;obtain⟨⟨cr,b6⟩,⟨ga,iQ⟩⟩:=bC;simp only[aU] at cH cY ep;rcases bS:decide (x<((c4:Int):Rat))
  ·rw[bS] at aH;rw[ae (of_decide_eq_false bS)] at uO;refine ai ?_;repeat' (intro h<;>simp only[h,go_sem,go_sem_proc,rz,fV,oD,eK,az,bP,Bx,mm,pw,Q,apg,d1,ct,cH,cY,ep,aH,bW,aU,ar,bo,cF]<;>try refine ah ?_ ?_)
   exact⟨i+1,by omega,by omega,rfl,by rw[uO]⟩
  ·rw[bS] at aH;rw[ab (of_decide_eq_true bS)] at uO;have aF7:(if c3<ih l (λi=>q.getD i 0) i then c3 else ih l (λi=>q.getD i 0) i)=min (ih l (λi=>q.getD i 0) i) c3:=by rw[Int.min_def];split<;>split<;>omega
   refine ai ?_;repeat' (intro h<;>simp only[h,go_sem,go_sem_proc,rz,fV,oD,eK,az,bP,Bx,mm,pw,Q,apg,d1,ct,cH,cY,ep,aH,bW,aU,ar,bo,cF]<;>try refine ah ?_ ?_)
   exact⟨i+1,by omega,by omega,rfl,by rw[uO,aF7]⟩
 ·have d1:decide ((i:Int)<(D l:Int))=false:=cA;obtain rfl:i=D l:=by omega
  have ad:=anA (q:=λi=>q.getD i 0) gy (D l);unfold T5;generalize ih l (λi=>q.getD i 0) (D l)=s at *;rcases bS:(s==10)
  ·rw[ab (by have:=ne_of_beq_false bS;omega)];refine ai ?_;repeat' (intro h<;>simp only[h,go_sem,go_sem_proc,rz,fV,oD,eK,az,bP,Bx,mm,pw,d1,bS,ar]<;>try refine ah ?_ ?_)
  ·rw[ae (by have:=eq_of_beq bS;omega)];refine ai ?_;repeat' (intro h<;>simp only[h,go_sem,go_sem_proc,rz,fV,oD,eK,az,bP,Bx,mm,pw,d1,bS,ar]<;>try refine ah ?_ ?_)
def Bz (cash:List Int)(cs:List ao)(i:Nat):List Rat:=(cE cs i).map λc=>fK cs ((aB cash cs).cW i) c
section
variable {cash:List Int} {cs:List ao} (X:fv cash cs) {i:Nat}
include X
def acB {c:ao}(H:c∈cE cs i):fK cs ((aB cash cs).cW i) c=(aB cash cs).hd (aB cash cs).cW (cD c):=by
 obtain⟨F,G⟩:=n3.1 H;rw[JC X.right _ F,G,g9]
def aF8 {x:Rat}(Q:x∈Bz cash cs i):ec 482 x:=by
 obtain⟨c,H,rfl⟩:=ef.1 Q;rw[acB X H];exact Tt X (n3.1 H).1
def aF9 (J:i<D cash):ih (cE cs i) (λk=>(Bz cash cs i).getD k 0) (cE cs i).length<10↔(aB cash cs).cW i<(aB cash cs).U i 10:=by
 have gy:∀c∈cE cs i,0<=c.2.2.1/\c.2.2.1<10:=λc H=>by have:=(X.own i).c c H;omega
 rw[aCN gy,<-aAQ X.ok (N8 X.ok J)]
 constructor
 ·rintro⟨k,I,c,H,aq⟩;have hm:=dZ H;have e:(Bz cash cs i).getD k 0=fK cs ((aB cash cs).cW i) c:=by unfold Bz;rw[ei,bo,H];rfl
  try dsimp only at aq
  rw[e,acB X hm] at aq;have G:=(n3.1 hm).2;exact⟨cD c,u2 (n3.1 hm).1,by show c.1.toNat=i;omega,aq⟩
 ·rintro⟨b,ad,bw,aq⟩;obtain⟨c,H,rfl⟩:=ef.1 ad;have F:=((gN.1 X.right).2.2.2 c H).1;have hm:c∈cE cs i:=n3.2 ⟨H,by have:c.1.toNat=i:=bw;omega⟩
  obtain⟨k,I,he⟩:=Le hm;have a8:(cE cs i)[k]?=some c:=by rw[bn I,he]
  have e:(Bz cash cs i).getD k 0=fK cs ((aB cash cs).cW i) c:=by unfold Bz;rw[ei,bo,a8];rfl
  refine⟨k,I,c,a8,?_⟩
  try dsimp only
  rw[e,acB X hm];exact aq
end

def zH (l:List ao)(k:Nat):Bool:=l.any λc=>(c.2.2.1==(k:Int))&&decide (c.2.2.2>0)
def U5 (l:List ao)(k:Nat):Nat:=((dD k).filter (zH l)).length
def aGa {cash:List Int}{cs:List ao}(X:fv cash cs)(i k:Nat):U5 (cE cs i) k=(aB cash cs).x1 i k:=by
 unfold U5 Day.x1
 congr 2
 funext r
 have h:=alV X.ok i r;have aa:=(gN.1 X.right).2.2.2;rw[kd,decide_eq_true_eq,h];unfold zH;rw[List.any_eq_true]
 constructor
 ·rintro⟨c,H,F⟩;simp only[eQ,beq_iff_eq,decide_eq_true_eq] at F;obtain⟨G,af⟩:=n3.1 H;refine⟨cD c,u2 G,by show c.1.toNat=i;omega,by show c.2.2.1.toNat=r;omega,?_⟩
  show (0:Rat)<((c.2.2.2:Int):Rat);exact_mod_cast F.2
 ·rintro⟨b,ad,F,G,af⟩;obtain⟨c,H,rfl⟩:=ef.1 ad;have aS:=aa c H;have z8:c.1.toNat=i:=F;have sO:c.2.2.1.toNat=r:=G;refine⟨c,n3.2 ⟨H,by omega⟩,?_⟩
  have aGb:(0:Rat)<((c.2.2.2:Int):Rat):=af;have bt:0<c.2.2.2:=by exact_mod_cast aGb
  simp only[eQ,beq_iff_eq,decide_eq_true_eq];omega


def aGc {n:Int}(h:fa n):CG [.int .i64 n,.int .i64 1]=some (.same (.cP [.agg (aU (ax (n:Rat))),.int .i64 0])):=by
 have:=ahe n 1 ⟨h,To⟩;rw[Ti h] at this;exact this

def aph {x y:Rat}(Q:dc x)(al:dc y):Fy [.agg (aU (ax x)),.agg (aU (ax y))]=some (.same (.bool (decide (x=y)))):=by
 have F:=m1 Q;have G:=m1 al;have h:=axd (ax x).1.1 (ax x).1.2 (ax x).2.1 (ax x).2.2 (ax y).1.1 (ax y).1.2 (ax y).2.1 (ax y).2.2 ⟨F.1,F.2,G.1,G.2⟩
 have e:Sd (((ax x).1.1,(ax x).1.2),((ax x).2.1,(ax x).2.2)) (((ax y).1.1,(ax y).1.2),((ax y).2.1,(ax y).2.2))=decide (x=y):=by
  show decide (ax x=ax y)=_
  by_cases j5:x=y
  ·rw[h2 j5,j5];exact h2 rfl
  ·rw[lZ j5];exact lZ λh=>j5 (se h)
 rw[e] at h;exact h




def aGd {n:Int}(h:fa n):Nf [.int .i64 n,.int .i64 1]=some (.same (.cP [.agg (aU (ax (n:Rat))),.int .i64 0])):=by
 have:=aw8 n 1 ⟨h,To⟩;rw[Ti h] at this;exact this
def api:bu:=bT 292 2 [.t 4] (R [db 2 337002 0,cd 4 false] (R [aM 29 (.call X4 []),E 5 29] (R [bd 30 5 2,dp 31 X6 30,aM 6 (.alloc 337006 [.nil,.nil,.nil,bB 0,bB 0]),bf 5 6 31] (.seq (R [bd 32 5 2,dp 33 X5 32,e4 34 33] (cx 34 [E 35 5,E 4 35])) (.seq (R [bd 36 5 6,dp 37 yN 36,e4 38 37,E 39 38,lG 40 39 5 2,fH 41 39 (.call QT [.t 40]),jb 42 39 41,c5 43 39 42] (eC 43 (eR [E 44 5,E 45 44,r3 46 45 5 6,gv 47 45 (.call yN [.t 46]),r3 48 45 5 2,gv 49 45 (.call QT [.t 48]),gv 50 45 (.beq false (.t 47) (.t 49)),e9 51 45 50,E 4 51] EO .ret) .skip)) (R [E 52 1,aM 53 (.conv .i64 (.t 52)),a0 54 2 2,aJ 55 1 54,b9 56 55,bm 57 .rem 53 56,E 7 57] (R [bd 59 5 6,dp 60 Ak 59,E 58 60,bl 61 0 58,bl 62 1 58,E 8 61,E 9 62] (R [bd 64 5 6,E 65 7,bV 66 EK 64 65,E 63 66,bl 67 0 63,bl 68 1 63,cL 10 337010 dT,bf 4 10 67,E 11 68] (R [bd 69 5 2,aM 70 (.call QU [.t 69,.c (.M (.int .i64 (-1)))]),E 12 70] (R [bd 71 5 2,E 72 7,aM 73 (.m8 337073 4 QU [.t 71,.t 72]),E 13 73] (R [a0 75 0 2,aJ 76 1 75,E 77 12,bV 78 uu 76 77,E 74 78,bl 79 0 74,bl 80 1 74,cL 14 337014 xq,bf 3 14 79,E 15 80] (R [a0 82 0 2,aJ 83 1 82,E 84 13,bV 85 uu 83 84,E 81 85,bl 86 0 81,bl 87 1 81,cL 16 337016 xq,bf 3 16 86,E 17 87] (.seq (R [E 88 9,E 89 15,bm 90 .neq 88 89,E 91 90,fY 92 91 11,fY 93 91 17,p3 94 91 .neq 92 93,c5 95 91 94] (cx 95 [cd 4 false])) (.seq (R [E 96 9,a5 97 .neq 96 0,E 98 97,fY 99 98 11,gu 100 98 .neq 99 0,c5 101 98 100] (cx 101 [E 102 5,E 4 102])) (.seq (R [E 103 8,b9 104 103,a0 105 2 2,aJ 106 1 105,b9 107 106,bm 108 .neq 104 107,E 109 108,fg 110 109 1 14,ew 111 109 1 110,ln 112 109 111,fY 113 109 12,ln 114 109 113,p3 115 109 .neq 112 114,c5 116 109 115,E 117 116,fg 118 117 1 16,ew 119 117 1 118,ln 120 117 119,fY 121 117 13,ln 122 117 121,p3 123 117 .neq 120 122,c5 124 117 123,E 125 124,fg 126 125 0 2,ew 127 125 1 126,fY 128 125 12,lG 129 125 3 14,fH 130 125 (.call QQ [.t 127,.t 128,.t 129]),gu 131 125 .neq 130 0,c5 132 125 131,E 133 132,fg 134 133 0 2,ew 135 133 1 134,fY 136 133 13,lG 137 133 3 16,fH 138 133 (.call QQ [.t 135,.t 136,.t 137]),gu 139 133 .neq 138 0,c5 140 133 139] (cx 140 [cd 4 false])) (.seq (R [bk 18 0] (dY 0 (.seq (R [E 141 18,E 142 8,b9 143 142,bm 144 .lss 141 143] (du 144 0)) (.seq (.block 1 (eR [E 147 8,E 148 18,bs 149 4 147 148,bd 150 4 149,a0 151 1 14,aJ 152 1 151,a0 153 2 2,aJ 154 1 153,E 155 18,bs 156 1 154 155,aJ 157 1 156,bs 158 4 152 157,bd 159 4 158,bV 160 HJ 150 159,e4 161 160] Yc (cx 161 [cd 4 false]))) (.ops [E 145 18,a5 146 .add 145 1,E 18 146]))))) (R [bd 163 5 6,E 164 7,bV 165 EL 163 164,E 162 165,bl 166 0 162,bl 167 1 162,bl 168 2 162,cL 20 337020 dT,E 19 166,bf 4 20 167,E 21 168] (eR [E 170 8,E 171 7,bs 172 4 170 171,bd 173 4 172,bd 174 4 20,bV 175 vG 173 174,E 169 175,bl 176 0 169,bl 177 1 169,cL 22 337022 dT,bf 4 22 176,E 23 177] [[],[],[],[],[],[],[],[],[],[3,4],[],[]] (.seq (eR [bd 178 4 10,a0 179 1 16,aJ 180 1 179,a0 181 2 2,aJ 182 1 181,E 183 7,bs 184 1 182 183,aJ 185 1 184,bs 186 4 180 185,bd 187 4 186,bV 188 HJ 178 187,e4 189 188,E 190 189,fY 191 190 21,gu 192 190 .eql 191 0,fY 193 190 192,dv 194 193 19,r3 195 193 4 10,dv 196 193 8,dv 197 193 7,qO 198 193 4 196 197,r3 199 193 4 198,gv 200 193 (.call kP [.t 195,.t 199]),hG 201 193 .gtr 200 0,gv 202 193 (.beq true (.t 194) (.t 201)),dv 203 193 202,fY 204 203 23,gu 205 203 .eql 204 0,fY 206 203 205,r3 207 206 4 22,r3 208 206 4 10,gv 209 206 (.call kP [.t 207,.t 208]),hG 210 206 .neq 209 0,fH 211 203 (.pick (.t 206) (.t 210) (.c (.M (.bool false)))),gv 212 193 (.pick (.t 203) (.c (.M (.bool true))) (.t 211)),fH 213 190 (.pick (.t 193) (.t 212) (.c (.M (.bool false)))),c5 214 190 213] [[],[],[],[],[],[],[],[],[],[],[],[],[],[],[],[],[],[],[],[],[],[],[],[],[],[],[],[],[],[],[],[],[],[],[],[],[]] (cx 214 [cd 4 false])) (R [bd 216 5 6,E 217 7,bV 218 L7 216 217,E 215 218,bl 219 0 215,bl 220 1 215,E 24 219,E 25 220] (.seq (R [E 221 21,a5 222 .neq 221 0,E 223 222,fY 224 223 25,gu 225 223 .neq 224 0,c5 226 223 225,E 227 226,fY 228 227 19,jb 229 227 228,c5 230 227 229] (cx 230 [E 231 5,E 232 231,dv 233 232 24,hG 234 232 .eql 233 0,e9 235 232 234,E 4 235])) (eR [E 236 13,a0 237 2 2,aJ 238 1 237,E 239 7,bs 240 1 238 239,aJ 241 1 240,a0 242 4 2,aJ 243 1 242,bs 244 4 236 241,a0 245 2 244,bf 1 245 243] EP (R [a0 247 0 2,aJ 248 1 247,E 249 13,bV 250 uu 248 249,E 246 250,bl 251 0 246,bl 252 1 246,cL 26 337026 xq,bf 3 26 251,E 27 252] (.seq (R [E 253 27,a5 254 .neq 253 0,E 255 254,fg 256 255 1 26,ew 257 255 1 256,ln 258 255 257,fY 259 255 13,ln 260 255 259,p3 261 255 .neq 258 260,c5 262 255 261] (cx 262 [cd 4 false])) (eR [a0 263 1 26,aJ 264 1 263,a0 265 2 2,aJ 266 1 265,E 267 7,bs 268 1 266 267,aJ 269 1 268,bs 270 4 264 269,bd 271 4 270,E 272 8,E 273 7,bs 274 4 272 273,bd 275 4 274,bV 276 kP 271 275,a5 277 .leq 276 0,E 28 277] ER (R [E 278 5,E 279 278,dv 280 279 24,hG 281 279 .eql 280 1,dv 282 279 28,gv 283 279 (.beq false (.t 281) (.t 282)),e9 284 279 283,E 285 284,dv 286 285 24,hG 287 285 .eql 286 2,dv 288 285 28,xp 289 285 288,gv 290 285 (.beq false (.t 287) (.t 289)),e9 291 285 290,E 4 291] .ret))))))))))))))))))))))))))
def apj:bu:=bT 87 0 [.t 0] (R [cd 0 false] (R [aM 11 (.ff 338011 false [bB 0] 1 1 [(0,1,.c (bB 10))]),aM 12 (.build lp [(1,1,.c (.M (.int .i64 (-1)))),(3,1,.c (bB 12))]),aM 13 (.build lp [(1,1,.c (.M (.int .i64 (-1)))),(3,1,.c (bB 12))]),aM 14 (.ff 338014 false [bB 0,bB 0,bB 0,bB 0,bB 0,bB 0,bB 0,bB 0] 4 2 [(0,4,.t 12),(4,4,.t 13)]),aM 15 (.ff 338015 false [bB 0,bB 0] 1 2 [(0,1,.c (bB 0)),(1,1,.c (bB 1))]),aM 16 (.build [.nil,.nil,.nil,bB 0,bB 0] [(0,1,.t 11),(1,1,.t 14),(2,1,.t 15),(3,1,.c (bB 500)),(4,1,.c (bB 1))]),aM 1 (.alloc 338001 [.nil,.nil,.nil,bB 0,bB 0]),bf 5 1 16] (R [bd 18 5 1,dp 19 Ak 18,E 17 19,bl 20 0 17,bl 21 1 17,E 2 20,E 3 21] (R [bd 23 5 1,aM 24 (.call EK [.t 23,.c (bB 0)]),E 22 24,bl 25 0 22,bl 26 1 22,cL 4 338004 dT,bf 4 4 25,E 5 26] (R [bd 28 5 1,aM 29 (.call EL [.t 28,.c (bB 0)]),E 27 29,bl 30 0 27,bl 31 1 27,bl 32 2 27,cL 7 338007 dT,E 6 30,bf 4 7 31,E 8 32] (R [bd 34 5 1,aM 35 (.call L7 [.t 34,.c (bB 0)]),E 33 35,bl 36 0 33,bl 37 1 33,E 9 36,E 10 37] (.seq (R [E 38 2,b9 39 38,a5 40 .neq 39 2,E 41 40,lG 42 41 5 1,fH 43 41 (.call yN [.t 42]),jb 44 41 43,c5 45 41 44] (cx 45 [cd 0 false])) (R [E 46 3,a5 47 .eql 46 0,E 48 47,dv 49 48 5,hG 50 48 .eql 49 0,e9 51 48 50,E 52 51,dv 53 52 8,hG 54 52 .eql 53 0,e9 55 52 54,E 56 55,dv 57 56 10,hG 58 56 .eql 57 0,e9 59 56 58,E 60 59,dv 61 60 2,gv 62 60 (.qu 4 (.t 61) (.c (bB 0))),r3 63 60 4 62,gv 64 60 (.call HW [.t 63,.c (bB 5),.c (bB 1)]),e9 65 60 64,E 66 65,dv 67 66 2,gv 68 66 (.qu 4 (.t 67) (.c (bB 1))),r3 69 66 4 68,gv 70 66 (.call HW [.t 69,.c (bB 5),.c (bB 1)]),e9 71 66 70,E 72 71,r3 73 72 4 4,gv 74 72 (.call HW [.t 73,.c (bB 10),.c (bB 1)]),e9 75 72 74,E 76 75,dv 77 76 6,e9 78 76 77,E 79 78,r3 80 79 4 7,gv 81 79 (.call HW [.t 80,.c (bB 5),.c (bB 1)]),e9 82 79 81,E 83 82,dv 84 83 9,hG 85 83 .eql 84 2,e9 86 83 85,E 0 86] .ret))))))))
def apk:bu:=bT 14 1 [.cell 2 5 true] (R [db 1 340001 0,aM 2 (.alloc 340002 [.nil,.nil,.nil,bB 0,bB 0])] (R [a0 3 0 1,aJ 4 1 3,a0 5 1 1,aJ 6 1 5,a0 7 2 1,aJ 8 1 7,a0 9 3 1,aJ 10 1 9,a0 11 4 1,aJ 12 1 11,aM 13 (.build [.nil,.nil,.nil,bB 0,bB 0] [(0,1,.t 4),(1,1,.t 6),(2,1,.t 8),(3,1,.t 10),(4,1,.t 12)]),bf 5 2 13] .ret))
def apl:bu:=bT 18 3 [.t 6] (R [db 3 353003 0,cd 6 false] (R [E 10 1,E 11 2,bV 12 Xn 10 11,E 9 12,bl 13 0 9,bl 14 1 9,cL 7 353007 dT,bf 4 7 13,E 8 14] (R [bd 15 4 3,bd 16 4 7,bV 17 HJ 15 16,E 6 17] .ret)))
def Po (cash:List Int)(cs:List ao)(is:List Int):Bool:=decide (D cash<=5)&&decide (D cs<=8)&&decide (D is<=10)
def aGe {cash:List Int}{cs:List ao}{is:List Int}(h:Po cash cs is=true):vf cash cs is/\D is<=10:=by
 unfold Po at h;simp only[eQ,decide_eq_true_eq] at h;exact⟨⟨by omega,by omega,by omega⟩,h.2⟩
def U6:=bU wQ λ(cash,cs,is,aj,rk)=>some (.same (.bool (Po cash cs is)))
@[go_sem] def aGf (cash cs is aj rk):=pk U6 rfl Pf (cash,cs,is,aj,rk) rfl
def aGg (T:ba):WF T aoB U6:=by
 refine cf λ(cash,cs,is,aj,rk)=>⟨rfl,b7 ?_⟩;simp only[aoB,wQ,b1];have F:decide (D cash<=5)=decide ((D cash:Int)<=5):=by rw[kd,decide_eq_true_iff,decide_eq_true_iff];omega
 have G:decide (D cs<=8)=decide ((D cs:Int)<=8):=by rw[kd,decide_eq_true_iff,decide_eq_true_iff];omega
 have af:decide (D is<=10)=decide ((D is:Int)<=10):=by rw[kd,decide_eq_true_iff,decide_eq_true_iff];omega
 unfold Po;rw[F,G,af];rcases fu:decide ((D cash:Int)<=5)<;>rcases eg:decide ((D cs:Int)<=8)
 all_goals
      refine ai ?_;repeat' (intro h<;>simp only[h,go_sem,go_sem_proc,dB,fu,eg,ar,g4,fC,hs]<;>try refine ah ?_ ?_)
def U7:=bU wQ λ(cash,cs,is,aj,rk)=>some (.same (.agg (dB cash cs is aj rk)))
@[go_sem] def aGh (cash cs is aj rk):=pk U7 rfl Pf (cash,cs,is,aj,rk) rfl
def aGi (T:ba):WF T apk U7:=by
 refine cf λ(cash,cs,is,aj,rk)=>⟨rfl,b7 ?_⟩;simp only[apk,wQ,b1];refine ai ?_;repeat' (intro h<;>simp only[h,go_sem,go_sem_proc,dB]<;>try refine ah ?_ ?_)
abbrev U8:Rat×Int->List Data:=λ(x,p)=>[.agg (aU (ax x)),.int .i64 p,.int .i64 1]
def U9:=bU U8 λ(x,p)=>cp (dc x/\fa p) (.same (.bool (decide (x=(p:Rat)))))
def aGj:∀a b,U8 a=U8 b->a=b:=by
  rintro⟨gR,iG⟩ ⟨fS,h9⟩ h;simp only[bh,Data.agg.injEq,Data.int.injEq,and_true,true_and] at h;exact ej (se (nq _ _ h.1)) h.2
@[go_sem] def apm (x p):=cz U9 rfl aGj (x,p) rfl
def aGk (T:ba)(aGl:T Xn=aQ Nf)(tI:T HJ=aQ Fy):WF T apl U9:=by
 refine cf λ(x,p)=>cG λH=>⟨rfl,b7 ?_⟩;simp only[apl,U8,b1];obtain⟨Q,aF⟩:=H;have cH:=aGd aF;have apn:=aph Q (rq aF);generalize ax x=cU at *;generalize ax (p:Rat)=P at *;obtain⟨⟨gR,fS⟩,⟨kA,q7⟩⟩:=cU;obtain⟨⟨iG,h9⟩,⟨kC,kZ⟩⟩:=P;simp only[aU] at cH apn;refine ai ?_;repeat' (intro h<;>simp only[h,go_sem,go_sem_proc,aGl,tI,cH,apn,aU]<;>try refine ah ?_ ?_)
def apo {cash:List Int}{cs:List ao}{is:List Int}{aj rk:Int}(aH:vf cash cs is)(h:yf cash cs is aj rk){k:Nat}(I:k<D is):dc (jj cash cs is aj rk k)/\dc (oE cash cs is aj rk k)/\dc (lY cash cs is aj rk k):=by
 obtain⟨fA,hl⟩:=aco aH h I;refine⟨iV hl (by omega),iV fA (by omega),?_⟩;unfold lY;rw[MS];exact iV (aaT fA (Dg hl)) (by omega)
def apq {x:Rat}(h:dc x):Fy [.agg (aU (ax x)),.agg (aU (ax x))]=some (.same (.bool true)):=by
 have:=aph h h;rwa [h2 rfl] at this
def oH:List ao:=[(0,-1,0,12),(0,-1,0,12)]
def Va {a:Int}{L:List ao}{j:Nat}(aa:hY [a] L=true)(wE:∀c∈L,c.2.1<0){U S m:Int}(F:(L.getD j hJ).1=0)(mg:cK L (L.getD j hJ).1 (L.getD j hJ).2.2.1=U)(cB:kF L (L.getD j hJ).1 (L.getD j hJ).2.2.1=S)(hm:(L.getD j hJ).2.2.2=m)(au:U<=a)(aq:a-U<S):yg [a] L j=(m:Rat)*((a:Rat)-(U:Rat))/(S:Rat):=by
 have a8:(aB [a] L).cW 0=(a:Rat):=by
  have:=(F7 (aaC aa)).1 0 (by show 0<1;omega);unfold Day.wu Day.fb at this
  rw[this,Jf λc H=>by
   obtain⟨x,Q,rfl⟩:=ef.1 H;have:=wE x Q;exact ae (by show ¬ x.2.1=((0:Nat):Int);omega)]
  rw[rf];rfl
 unfold yg;rw[F,rE,a8]
 have fZ:(0:Rat)<=(a:Rat)-(U:Rat):=by
  rw[<-zp];exact_mod_cast (by omega:(0:Int)<=a-U)
 have bS:(a:Rat)-(U:Rat)<(S:Rat):=by
  rw[<-zp];exact Rat.intCast_lt_intCast.2 aq
 rw[alR (by rw[mg];exact fZ) (by rw[mg,cB];exact bS),mg,cB,hm]
def apr:h0 [10] oH [0,1] 500 1=true:=by decide
def acC:jj [10] oH [0,1] 500 1 0=((5:Int):Rat):=by
 unfold jj;rw[show dF oH [0,1] 500 1 (-1) ([0,1]:List Int).length=[(0,-1,1,6),(0,-1,1,6)] by decide,Va (U:=0) (S:=12) (m:=6) (by decide) (by decide) (by decide) (by decide) (by decide) (by decide) (by decide) (by decide)]
 decide +kernel
def aGm:jj [10] oH [0,1] 500 1 1=((5:Int):Rat):=by
 unfold jj;rw[show dF oH [0,1] 500 1 (-1) ([0,1]:List Int).length=[(0,-1,1,6),(0,-1,1,6)] by decide,Va (U:=0) (S:=12) (m:=6) (by decide) (by decide) (by decide) (by decide) (by decide) (by decide) (by decide) (by decide)]
 decide +kernel
def aps:oE [10] oH [0,1] 500 1 0=((10:Int):Rat):=by
 unfold oE;rw[show dF oH [0,1] 500 1 (0:Nat) ([0,1]:List Int).length=[(0,-1,0,12),(0,-1,1,6)] by decide,Va (U:=0) (S:=12) (m:=12) (by decide) (by decide) (by decide) (by decide) (by decide) (by decide) (by decide) (by decide)]
 decide +kernel
def aGn:¬ tH [10] oH [0,1] 500 1 0<=((5:Int):Rat):=by
 unfold tH;rw[show ko oH [0,1] 500 1 0=[(0,-1,1,12),(0,-1,1,6)] by decide,Va (U:=0) (S:=18) (m:=12) (by decide) (by decide) (by decide) (by decide) (by decide) (by decide) (by decide) (by decide)]
 decide +kernel
def apt:lY [10] oH [0,1] 500 1 0=((5:Int):Rat):=by
 unfold lY;rw[aps,acC]
 decide +kernel
def Pp:vf [10] oH [0,1]:=⟨by decide,by decide,by decide⟩
abbrev Vb:Unit->List Data:=λ(_:Unit)=>[]
def Vc:=bU Vb λ(_:Unit)=>some (.same (.bool true))
def aGo:∀a b,Vb a=Vb b->a=b:=by
  intro _ _ _;rfl
@[go_sem] def aGp:=pk Vc rfl aGo () rfl
def aGq (T:ba)(mq:T Ak=aQ GJ)(pR:T EK=aQ Ko)(oG:T EL=aQ Kp)(tJ:T L7=aQ Pl)(lX:T yN=aQ GG)(aGr:T HW=aQ U9):WF T apj Vc:=by
 refine cf λ_=>⟨rfl,b7 ?_⟩;simp only[apj,Vb,b1];have bS:=UU [10] oH [0,1] 500 1 Pp;have cM:=acn [10] oH [0,1] 500 1 0 Pp;have dj:=acp [10] oH [0,1] 500 1 0 Pp;have iT:=ao4 [10] oH [0,1] 500 1 0 Pp;have nv:=UL [10] oH [0,1] 500 1 Pp;have i5:fa 5:=rn (by omega) (by omega);have i10:fa 10:=rn (by omega) (by omega);have h7:=apm ((5:Int):Rat) 5 ⟨rq i5,i5⟩;have iZ:=apm ((10:Int):Rat) 10 ⟨rq i10,i10⟩;rw[h2 rfl] at h7 iZ;unfold Km at bS;unfold Pj at cM;unfold Pk at dj;unfold UW at iT;rw[ab apr] at bS cM dj iT;rw[apr] at nv;rw[ab (by decide)] at cM dj iT;rw[rE] at cM dj iT
 have cn:sA [10] oH [0,1] 500 1 ([0,1]:List Int).length=[ax ((5:Int):Rat),ax ((5:Int):Rat)]:=by
  show [ax (jj [10] oH [0,1] 500 1 0),ax (jj [10] oH [0,1] 500 1 1)]=_;rw[acC,aGm]
 rw[cn] at bS;rw[aps] at cM;rw[apt,h2 (by decide:(0:Rat)<((5:Int):Rat))] at dj;rw[apt,ab (by decide:(0:Rat)<((5:Int):Rat)),acC,ae aGn] at iT;generalize ax ((5:Int):Rat)=E5 at *;generalize ax ((10:Int):Rat)=E10 at *;obtain⟨⟨cH,cY⟩,⟨ep,fi⟩⟩:=E5;obtain⟨⟨c6,eB⟩,⟨jA,lT⟩⟩:=E10;simp only[dB,oH,aU,eu,cR,aC,bW] at bS cM dj iT nv h7 iZ;have sf:(((2:Nat):Int)==2)=true:=rfl;refine ai ?_;repeat' (intro h<;>simp only[h,go_sem,go_sem_proc,mq,pR,oG,tJ,lX,aGr,bS,cM,dj,iT,nv,h7,iZ,sf,show ((0:Int)<=1)=True from eq_true (by decide),show Int.toNat 1=1 from rfl,aU,eu,cR,hQ,lH,bne,beq_self_eq_true,cF,xe,yC,rE]<;>try refine ah ?_ ?_)
def Pq:=bU yQ λ(a,b)=>some (.same (.bool (decide (a<b))))
@[go_sem] def aGs (a b):=pk Pq rfl Q7 (a,b) rfl
def aGt (T:ba)(Yi:T EC=aQ Mf):WF T afu Pq:=by
 refine cf λ(a,b)=>⟨rfl,b7 ?_⟩;simp only[afu,yQ,b1];refine ai ?_;repeat' (intro h<;>simp only[h,go_sem,go_sem_proc,Yi]<;>try refine ah ?_ ?_)
abbrev Vd:(List Int)×(List Int)->List Data:=λ(l,m)=>[.ay (l.map aC),.ay (m.map aC)]
def Ve:=bU Vd λ(l,m)=>cp (D l<=1000000/\D m<=1000000) (.same (.bool (decide (l=m))))
def aGu:∀a b,Vd a=Vd b->a=b:=by
  rintro⟨eH,dw⟩ ⟨aI,cv⟩ h;simp only[bh,Data.ay.injEq,and_true] at h;exact ej (map_inj fq _ _ h.1) (map_inj fq _ _ h.2)
@[go_sem] def aGv (l m):=cz Ve rfl aGu (l,m) rfl
def aGw (T:ba):WF T afD Ve:=by
 refine cf λ(l,m)=>cG λH=>⟨rfl,b7 ?_⟩;simp only[afD,Vd,b1];obtain⟨F,G⟩:=H;rcases q:((D l:Int)==(D m:Int))
 ·have bE:decide (l=m)=false:=lZ λe=>by rw[e,beq_self_eq_true] at q;cases q
  refine ai ?_;repeat' (intro h<;>simp only[h,go_sem,go_sem_proc,q,bE,ar,bne,dd]<;>try refine ah ?_ ?_)
 have ak:(D l)=D m:=by have:=eq_of_beq q;omega
 simp only[go_sem,go_sem_proc,q,ar,bne,cF];refine da [0,1,12] [] (λ(i:Nat) tm _=>i<=D l/\l.take i=m.take i/\tm 13=.M (.int .i64 i)) (λi=>D l-i) 0 (by refine⟨by omega,by simp,rfl⟩) ?_;intro vs ms aW aR;simp only[go_sem,go_sem_proc,ar] at aW aR;subst aW aR;rintro i tm mem I-⟨J,bz,gL⟩;simp only[go_sem,go_sem_proc,bh] at I;obtain⟨bZ,az,fU⟩:=I;rcases dq (i<D l) with aq|ca
 ·have d3:decide ((i:Int)<(D l:Int))=true:=cX;have ct:=e0 (i:=i) (by omega);obtain⟨x,Q⟩:∃x,l[i]?=some x:=⟨_,bn aq⟩;obtain⟨y,al⟩:∃y,m[i]?=some y:=⟨_,bn (by omega)⟩;rcases eg:(x==y)
  ·have bE:decide (l=m)=false:=lZ λe=>by
    rw[e,al] at Q
    cases Q;rw[beq_self_eq_true] at eg
    cases eg
   refine ai ?_;repeat' (intro h<;>simp only[h,go_sem,go_sem_proc,bZ,az,fU,gL,Q,al,d3,eg,bE,aC,ar,bo,hQ,lH,ks,bne,dd]<;>try refine ah ?_ ?_)
  ·obtain rfl:x=y:=eq_of_beq eg;refine ai ?_;repeat' (intro h<;>simp only[h,go_sem,go_sem_proc,bZ,az,fU,gL,Q,al,d3,ct,eg,aC,ar,bo,hQ,lH,ks,bne,cF]<;>try refine ah ?_ ?_)
   refine⟨i+1,by omega,by omega,?_,rfl⟩
   rw[hF,hF,bz,Q,al]
 ·have d3:decide ((i:Int)<(D l:Int))=false:=cA
  have he:decide (l=m)=true:=h2 (by
   rw[dt (by omega),dt (by omega)] at bz;exact bz)
  refine ai ?_;repeat' (intro h<;>simp only[h,go_sem,go_sem_proc,bZ,az,fU,gL,d3,he,ar]<;>try refine ah ?_ ?_)
def yi (v:Int):List Int->Nat->Int
 | [],_ => -1
 |x::r,i=>if (v==x)=true then (i:Int) else yi v r (i+1)
def apu (v:Int):∀(l:List Int) (i:Nat),decide (yi v l i>=0)=decide (v∈l)
 | [],i=>by simp[yi]
 |x::r,i=>by
  unfold yi;rcases q:(v==x)
  ·rw[ae (by decide),apu v r (i+1)];have:v≠x:=beq_eq_false_iff_ne.1 q;rw[decide_eq_decide];simp[this]
  ·rw[ab rfl];obtain rfl:v=x:=eq_of_beq q;rw[decide_eq_decide];simp
abbrev Kt:(List Int)×Int->List Data:=λ(l,v)=>[.ay (l.map aC),.int .i64 v]
def Vf:=bU Kt λ(l,v)=>cp (D l<=1000000) (.same (.int .i64 (yi v l 0)))
def apv:∀a b,Kt a=Kt b->a=b:=by
  rintro⟨eH,v1⟩ ⟨aI,v2⟩ h;simp only[bh,Data.ay.injEq,Data.int.injEq,and_true,true_and] at h;exact ej (map_inj fq _ _ h.1) h.2
@[go_sem] def aGx (l v):=cz Vf rfl apv (l,v) rfl
def aGy (T:ba):WF T afF Vf:=by
 refine cf λ(l,v)=>cG λH=>⟨rfl,b7 ?_⟩;simp only[afF,Kt,b1];simp only[go_sem,go_sem_proc,ar];refine da [0,1,7] [] (λ(i:Nat) tm _=>i<=D l/\yi v l 0=yi v (l.drop i) i/\tm 8=.M (.int .i64 i)) (λi=>D l-i) 0 (by refine⟨by omega,by simp,rfl⟩) ?_;intro vs ms aW aR;simp only[go_sem,go_sem_proc,ar] at aW aR;subst aW aR;rintro i tm mem I-⟨J,bz,eb⟩;simp only[go_sem,go_sem_proc,bh] at I;obtain⟨bZ,az,cg⟩:=I;rcases dq (i<D l) with aq|ca
 ·have d3:decide ((i:Int)<(D l:Int))=true:=cX;have ct:=e0 (i:=i) (by omega);obtain⟨x,Q⟩:∃x,l[i]?=some x:=⟨_,bn aq⟩;rw[List.drop_eq_getElem_cons aq,(dK.1 Q).2] at bz;have c9:yi v (x::l.drop (i+1)) i=if (v==x)=true then (i:Int) else yi v (l.drop (i+1)) (i+1):=rfl;rw[c9] at bz;rcases eg:(v==x)
  ·rw[eg,ae (by decide)] at bz;refine ai ?_;repeat' (intro h<;>simp only[h,go_sem,go_sem_proc,bZ,az,cg,eb,Q,d3,ct,eg,aC,ar,bo,hQ,lH,ks]<;>try refine ah ?_ ?_)
   exact⟨i+1,by omega,by omega,bz,rfl⟩
  ·rw[eg,ab rfl] at bz;have aV:yi v l 0=(i:Int):=bz;refine ai ?_;repeat' (intro h<;>simp only[h,go_sem,go_sem_proc,bZ,az,cg,eb,Q,d3,eg,aV,aC,ar,bo,hQ,lH,ks]<;>try refine ah ?_ ?_)
 ·have d3:decide ((i:Int)<(D l:Int))=false:=cA;rw[j0 (by omega)] at bz;have aV:yi v l 0 = -1:=bz;refine ai ?_;repeat' (intro h<;>simp only[h,go_sem,go_sem_proc,bZ,az,cg,eb,d3,aV,ar]<;>try refine ah ?_ ?_)
def Vg:=bU Kt λ(l,v)=>cp (D l<=1000000) (.same (.bool (decide (v∈l))))
@[go_sem] def aGz (l v):=cz Vg rfl apv (l,v) rfl
def aGA (T:ba)(aGB:T X3=aQ Vf):WF T afE Vg:=by
 refine cf λ(l,v)=>cG λH=>⟨rfl,b7 ?_⟩;simp only[afE,Kt,b1];have J:=aGx l v H;have hm:=apu v l 0;refine ai ?_;repeat' (intro h<;>simp only[h,go_sem,go_sem_proc,aGB,J,hm]<;>try refine ah ?_ ?_)
section
variable (A bK:List Int) (x y:Int)
def aGC:(A++y::x::bK)[D A+1]?=some x:=by simp
def aGD:(A++y::x::bK)[D A]?=some y:=by simp
def aGE:fh (D A+1) ((A++y::x::bK).map bJ)++[bJ y]++ft (D A+1+1) ((A++y::x::bK).map bJ)=(A++y::y::bK).map bJ:=by
 rw[<-AU,<-Pr]
 have F:fh (D A+1) (A++y::x::bK)=A++[y]:=by
  rw[D8,dt (by omega),show (D A)+1-D A=1 by omega];rfl
 have G:ft (D A+1+1) (A++y::x::bK)=bK:=by
  rw[oj];have:(D A)+1+1-D A=2:=by omega
  rw[this,j0 (by omega)]
  rfl
 rw[F,G];simp
def aGF:fh (D A) ((A++y::y::bK).map bJ)++[bJ x]++ft (D A+1) ((A++y::y::bK).map bJ)=(A++x::y::bK).map bJ:=by
 rw[<-AU,<-Pr];have F:fh (D A) (A++y::y::bK)=A:=List.take_left
 have G:ft (D A+1) (A++y::y::bK)=y::bK:=by
  rw[oj];have:(D A)+1-D A=1:=by omega
  rw[this,j0 (by omega)]
  rfl
 rw[F,G];simp
end
structure DI (l:List Int) (i:Nat) (C A:List Int) (x:Int) (B:List Int):Prop where
 len:(D A)+D B=i
 acD:(A++B).Pairwise (·<=·)
 up:∀b∈B,x<=b
 perm:(A++x::(B++C)).Perm l
def DI.step {l:List Int}{i:Nat}{C A B:List Int}{x y:Int}(h:DI l i C (A++[y]) x B)(j5:x<y):DI l i C A x (y::B):=by
 refine⟨?_,?_,λb ad=>?_,?_⟩
 ·have:=h.len;simp at this ⊢;omega
 ·have:=h.acD;rwa [gr] at this
 ·rcases hS.1 ad with rfl|ad
  ·omega
  ·exact h.up b ad
 ·refine List.Perm.trans ?_ h.perm;rw[gr];refine List.Perm.append_left A ?_;exact List.Perm.swap y x (B++C)
def DI.stop {l:List Int}{i:Nat}{C A B:List Int}{x:Int}(h:DI l i C A x B)(Q:∀a∈A,a<=x):(A++x::B).Pairwise (·<=·):=by
 have X:=Ps.1 h.acD;refine Ps.2 ⟨X.1,GL.2 ⟨h.up,X.2.1⟩,λa aO b ad=>?_⟩;rcases hS.1 ad with rfl|ad
 ·exact Q a aO
 ·exact X.2.2 a aO b ad
def DI.last {l:List Int}{i:Nat}{C A B:List Int}{x y:Int}(h:DI l i C (A++[y]) x B)(j5:¬ x<y):∀a∈A++[y],a<=x:=by
 intro a aO;rcases iF.1 aO with aO|aO
 ·have X:=(Ps.1 (Ps.1 h.acD).1).2.2 a aO y (by simp);omega
 ·simp at aO;omega
def Pt {m:Mem}{k a b:Nat}{x y:List O}:a4 (a4 m k a x) k b y=a4 m k b y:=by
 funext j
 by_cases h:j=k
 ·subst h;rw[iy,iy]
 ·rw[c1 h,c1 h,c1 h]
structure sB where
 l:List Int
 g:Nat
def tK (a:sB)(mem:Mem):Prop:=mem 289040=some (a.g,a.l.map bJ)/\D a.l<=12
def BA (a:sB)(mem:Mem):O->Mem->Prop:=λm mem'=>m=.cP []/\∃s:List Int,s.Perm a.l/\s.Pairwise (·<=·)/\mem'=a4 mem 289040 a.g (s.map bJ)
def Vh:List O->Mem->Option (O->Mem->Prop):=uR (λ(a:sB) args mem=>args=[.ref 289040 a.g 1 0 (D a.l),.M (.int .i64 0),.M (.int .i64 (D a.l))]/\tK a mem) BA
def Vi {a b:sB}{mem:Mem}(F:tK a mem)(G:tK b mem):a=b:=by
 have:=F.1.symm.trans G.1;simp only[cl,e2] at this;obtain⟨l,g⟩:=a;obtain⟨fR,cV⟩:=b;dsimp only at this;rw[this.1,Tl this.2]
def aGG (a:sB)(mem:Mem)(h:tK a mem):Vh [.ref 289040 a.g 1 0 (D a.l),.M (.int .i64 0),.M (.int .i64 (D a.l))] mem=some (BA a mem):=by
 unfold Vh;exact Ng (a:=a) (λa b args mem F G=>Vi F.2 G.2) ⟨rfl,h⟩
def aGH (T:ba)(apw:T QS=aQ Pq)(a:sB)(mem:Mem)(aO:tK a mem):
  wp T Q3.body (me Q3.res (BA a mem)) ⟨iC [.ref 289040 a.g 1 0 (D a.l),.M (.int .i64 0),.M (.int .i64 (D a.l))],mem⟩:=by
 obtain⟨kv,aH⟩:=aO;obtain⟨l,g⟩:=a;dsimp only at kv aH ⊢;refine pf ?_;simp only[Q3];simp only[go_sem,go_sem_proc];have w1:IntKind.i64.wrap ((0:Int)+1)=1:=by rw[ev _];rfl
 simp only[go_sem,go_sem_proc,w1]
 refine da [0,1,2] [] (λ((i,S,C):Nat×List Int×List Int) tm m=>tm 6=.M (.int .i64 ((i+1:Nat):Int))/\(S++C).Perm l/\S.Pairwise (·<=·)/\(D S=i+1\/l=[])/\m=a4 mem 289040 g ((S++C).map bJ)) (λ(i,_,_)=>D l-i) (0,l.take 1,l.drop 1) (by
  refine⟨rfl,by rw[ui],?_,?_,?_⟩
  ·cases l with
   |nil=>exact List.Pairwise.nil
   |cons x r=>exact apx _ _
  ·cases l with
   |nil=>exact .inr rfl
   |cons x r=>exact .inl rfl
  ·rw[ui]
   funext k
   by_cases I:k=289040
   ·subst I;rw[iy];exact kv
   ·rw[c1 I]) ?_
 intro vs ms aW aR;simp only[go_sem,go_sem_proc,w1] at aW aR;subst aW aR;rintro⟨i,S,C⟩ tm m I-⟨bP,aF,X,cB,hm⟩;simp only[go_sem,go_sem_proc,bh] at I;obtain⟨bZ,az,aD⟩:=I;have hlen:=aF.length_eq;rw[fO] at hlen;rcases dq (i+1<D l) with aq|ca
 ·have d1:decide (((i+1:Nat):Int)<(D l:Int))=true:=cX
  have apy:(D S)=i+1:=by
   rcases cB with h|h
   ·exact h
   ·rw[h] at aq;simp at aq
  have ct:IntKind.i64.wrap (((i+1:Nat):Int)+1)=((i+1+1:Nat):Int):=by rw[ev _];omega
  obtain⟨x,jf,rfl⟩:∃x jf,C=x::jf:=by
   cases C with
   |nil=>simp at hlen;omega
   |cons x jf=>exact⟨x,jf,rfl⟩
  simp only[go_sem,go_sem_proc,bZ,az,aD,bP,d1]
  refine da [0,1,2,6] [] (λ((A,B):List Int×List Int) tm m=>tm 7=.M (.int .i64 (D A:Int))/\DI l (i+1) jf A x B/\m=a4 mem 289040 g ((A++x::(B++jf)).map bJ)) (λ(A,_)=>D A) (S,[]) (by
   exact⟨by rw[apy];rfl,⟨by simp;exact apy,by rw[fG];exact X,λb ad=>(by cases ad),aF⟩,hm⟩) ?_
  intro vs ms aW aR;simp only[go_sem,go_sem_proc,bZ,az,aD,bP] at aW aR;subst aW aR;clear bZ az aD bP;rintro⟨A,B⟩ tm m I-⟨cg,sQ,hm⟩;simp only[go_sem,go_sem_proc,bh] at I;obtain⟨bZ,az,aD,bP⟩:=I;subst hm;have CZ:=sQ.len;rcases Eu A with dn|⟨e5,y,dn⟩
  ·subst dn;have d2:decide (((0:Nat):Int)>0)=false:=rfl;have NN:=sQ.stop λa aO=>by cases aO
   have mJ:=sQ.perm;rw[lH] at cg;refine ai ?_;repeat' (intro (aw:_=_)<;>simp only[aw,go_sem,go_sem_proc,bZ,az,aD,bP,cg,d2,ct]<;>try refine ah ?_ ?_)
   refine⟨(i+1,x::B,jf),by dsimp only;omega,rfl,mJ,NN,.inl ?_,rfl⟩
   simp at CZ ⊢;omega
  ·rw[Ev] at dn;subst dn;have fo:e5++[y]++x::(B++jf)=e5++y::x::(B++jf):=by simp
   have DG:(e5++[y]).length=D e5+1:=by simp
   rw[DG] at cg CZ;rw[fo];have d2:decide (((D e5+1:Nat):Int)>0)=true:=cX;have apz:IntKind.i64.wrap (((D e5+1:Nat):Int)-1)=(D e5:Int):=by rw[ev _];omega
   have cm:(D e5+1+1<=D l)=True:=eq_true (by simp at hlen;omega);have js:(D e5+1<=D l)=True:=eq_true (by simp at hlen;omega);have na:(D e5+1<D l)=True:=eq_true (by simp at hlen;omega);have od:(D e5<D l)=True:=eq_true (by simp at hlen;omega);have t1:fh 1 (ft (D e5+1) ((e5++y::x::(B++jf)).map bJ))=[.M (.int .i64 x)]:=x0 (f:=bJ) (aGC e5 (B++jf) x y);have t2:fh 1 (ft (D e5) ((e5++y::x::(B++jf)).map bJ))=[.M (.int .i64 y)]:=x0 (f:=bJ) (aGD e5 (B++jf) x y);have iG:fh (D e5+1) ((e5++y::x::(B++jf)).map bJ)++[O.M (.int .i64 y)]++ft (D e5+1+1) ((e5++y::x::(B++jf)).map bJ)=_:=aGE e5 (B++jf) x y;have h9:fh (D e5) ((e5++y::y::(B++jf)).map bJ)++[O.M (.int .i64 x)]++ft (D e5+1) ((e5++y::y::(B++jf)).map bJ)=_:=aGF e5 (B++jf) x y;have bS:((e5++y::x::(B++jf)).map bJ).length=D l:=by have:=sQ.perm.length_eq;rw[fo] at this;rw[ar,this]
   have cM:((e5++y::y::(B++jf)).map bJ).length=D l:=by rw[<-bS];simp
   have dj:((e5++x::y::(B++jf)).map bJ).length=D l:=by rw[<-bS];simp
   have Vj:Pq [.int .i64 x,.int .i64 y]=some (.same (.bool (decide (x<y)))):=aGs x y;rcases q:decide (x<y)
   ·rw[q] at Vj;have NN:=sQ.stop (sQ.last (of_decide_eq_false q));have mJ:=sQ.perm;generalize apA:(e5++y::x::(B++jf)).map bJ=R1 at *;refine ai ?_;repeat' (intro (aw:_=_)<;>simp only[aw,go_sem,go_sem_proc,apw,bZ,az,aD,bP,cg,d2,apz,ct,cm,js,na,od,t1,t2,bS,Vj,dy]<;>try refine ah ?_ ?_)
    refine⟨(i+1,e5++[y]++x::B,jf),by dsimp only;omega,rfl,?_,NN,.inl ?_,?_⟩
    ·have:e5++[y]++x::B++jf=e5++[y]++x::(B++jf):=by simp
     show (e5++[y]++x::B++jf).Perm l;rw[this];exact mJ
    ·simp at CZ ⊢;omega
    ·rw[<-apA]
     congr 2
     simp
   ·rw[q] at Vj;have c9:=sQ.step (of_decide_eq_true q);generalize apA:(e5++y::x::(B++jf)).map bJ=R1 at *;generalize amO:(e5++y::y::(B++jf)).map bJ=ra at *;generalize aGI:(e5++x::y::(B++jf)).map bJ=R3 at *;refine ai ?_;repeat' (intro (aw:_=_)<;>simp only[aw,go_sem,go_sem_proc,apw,bZ,az,aD,bP,cg,d2,apz,cm,js,na,od,t1,t2,bS,cM,dj,iG,h9,Vj,dy]<;>try refine ah ?_ ?_)
    refine⟨(e5,y::B),by simp,rfl,c9,?_⟩
    rw[Pt,Pt,<-aGI]
    rfl
 ·have d1:decide (((i+1:Nat):Int)<(D l:Int))=false:=cA;refine ai ?_;repeat' (intro (aw:_=_)<;>simp only[aw,go_sem,go_sem_proc,bZ,az,aD,bP,d1]<;>try refine ah ?_ ?_)
  have gT:C=[]:=by
   rcases cB with h|h
   ·exact Bt.1 (by omega)
   ·rw[h] at hlen;simp at hlen;exact hlen.2
  subst gT;rw[fG] at aF hm;exact⟨_,rfl,rfl,S,aF,X,hm⟩
def Pu (n:Nat):Int:=if n=0 then 0 else if n=1 then 1 else if n<=3 then 2 else if n<=7 then 3 else 4
abbrev Ku:Nat->List Data:=λ(n:Nat)=>[.int .u64 (n:Int)]
def Vk:=bU Ku λ(n:Nat)=>cp (n<=12) (.same (.int .i64 (Pu n)))
def apB:∀a b,Ku a=Ku b->a=b:=by
  intro h7 iZ h;simp only[bh,Data.int.injEq,Data.agg.injEq,Data.ay.injEq,Data.bool.injEq,Data.str.injEq,Data.ptr.injEq,Data.cP.injEq,e2,true_and,and_true] at h ⊢
  first|exact h|simpa [Prod.ext_iff,and_assoc] using h|grind
@[go_sem] def aPN (n):=cz Vk rfl apB n rfl
def aGJ (T:ba):WF T ajC Vk:=by
 refine cf λn=>cG λH=>⟨rfl,b7 ?_⟩;simp only[ajC,Ku,b1];have d1:decide ((n:Int)>=4294967296)=false:=cA;have d2:decide ((n:Int)>=65536)=false:=cA;have d3:decide ((n:Int)>=256)=false:=cA;have au:(0<=(n:Int))=True:=eq_true (by omega)
 have Vl:IntKind.u8.wrap (n:Int)=(n:Int):=by
  match n,H with
  |0,_|1,_|2,_|3,_|4,_|5,_|6,_|7,_|8,_|9,_|10,_|11,_|12,_=>rfl
  |n+13,h=>omega
 simp only[go_sem,go_sem_proc,d1,d2,d3,Vl,au,g9];clear d1 d2 d3 au Vl
 match n,H with
 |0,_|1,_|2,_|3,_|4,_|5,_|6,_|7,_|8,_|9,_|10,_|11,_|12,_ =>
  simp only[go_sem,go_sem_proc,xe,yC,iY]
  rfl
 |n+13,h=>omega
def Vm:=bU Ku λ(n:Nat)=>cp (n<=12) (.same (.int .i64 (Pu n)))
@[go_sem] def aGK (n):=cz Vm rfl apB n rfl
def aGL (T:ba)(aGM:T X2=aQ Vk):WF T ajB Vm:=by
 refine cf λn=>cG λH=>⟨rfl,b7 ?_⟩;simp only[ajB,Ku,b1];refine ai ?_;repeat' (intro h<;>simp only[h,go_sem,go_sem_proc,aGM,H]<;>try refine ah ?_ ?_)
def Vn:List O->Mem->Option (O->Mem->Prop):=uR (λ(a:sB) args mem=>args=[.ref 289040 a.g 1 0 (D a.l),.M (.int .i64 0),.M (.int .i64 (D a.l)),.M (.int .i64 (Pu (D a.l)))]/\tK a mem) BA
def aGN (a:sB)(mem:Mem)(h:tK a mem):Vn [.ref 289040 a.g 1 0 (D a.l),.M (.int .i64 0),.M (.int .i64 (D a.l)),.M (.int .i64 (Pu (D a.l)))] mem=some (BA a mem):=by
 unfold Vn;exact Ng (a:=a) (λa b args mem F G=>Vi F.2 G.2) ⟨rfl,h⟩
def aGO (T:ba)(aGP:T X1=ns Vh)(a:sB)(mem:Mem)(aO:tK a mem):
  wp T Q2.body (me Q2.res (BA a mem)) ⟨iC [.ref 289040 a.g 1 0 (D a.l),.M (.int .i64 0),.M (.int .i64 (D a.l)),.M (.int .i64 (Pu (D a.l)))],mem⟩:=by
 have e3:=aGG a mem aO;have aH:=aO.2;refine pf ?_;simp only[Q2];simp only[go_sem,go_sem_proc];refine da [0,1,2] [] (λ(_:Unit) tm m=>m=mem) (λ_=>0) () rfl ?_;intro vs ms aW aR;simp only[go_sem,go_sem_proc] at aW aR;subst aW aR;rintro-tm m I-hm;simp only[go_sem,go_sem_proc,bh] at I;obtain⟨bZ,az,aD⟩:=I;subst hm;have w1:IntKind.i64.wrap ((D a.l:Int)-0)=(D a.l:Int):=by rw[ev _];omega
 have d1:decide ((D a.l:Int)<=12)=true:=cX;simp only[go_sem,go_sem_proc,aGP,bZ,az,aD,w1,d1,e3];rintro zc m' gI;obtain⟨xK,gI⟩:=gI;subst xK;exact⟨_,rfl,rfl,gI⟩
def Vo:List O->Mem->Option (O->Mem->Prop):=uR (λ(a:sB) args mem=>args=[.ref 289040 a.g 1 0 (D a.l)]/\tK a mem) BA
def aGQ (a:sB)(mem:Mem)(h:tK a mem):Vo [.ref 289040 a.g 1 0 (D a.l)] mem=some (BA a mem):=by
 unfold Vo;exact Ng (a:=a) (λa b args mem F G=>Vi F.2 G.2) ⟨rfl,h⟩
def aGR (T:ba)(aGS:T XZ=aQ Vm)(aGT:T L5=ns Vn)(a:sB)(mem:Mem)(aO:tK a mem):
  wp T QZ.body (me QZ.res (BA a mem)) ⟨iC [.ref 289040 a.g 1 0 (D a.l)],mem⟩:=by
 have e3:=aGN a mem aO;have aH:=aO.2;have ad:=aGK (D a.l) aH
 have Vl:IntKind.u64.wrap (D a.l:Int)=(D a.l:Int):=by
  generalize (D a.l)=n at *
  match n,aH with
  |0,_|1,_|2,_|3,_|4,_|5,_|6,_|7,_|8,_|9,_|10,_|11,_|12,_=>rfl
  |n+13,h=>omega
 refine pf ?_;simp only[QZ];simp only[go_sem,go_sem_proc,aGS,aGT,ad,Vl,e3];rintro zc m' gI;obtain⟨xK,gI⟩:=gI;subst xK;exact⟨_,rfl,rfl,gI⟩
def pS:Int->List Int->List Int
 |_,[]=>[]
 |y,x::r=>if x=y then pS x r else x::pS x r
def mu:List Int->List Int
 | []=>[]
 |x::r=>x::pS x r
def apC (x:Int):∀(m:List Int) (z:Int),pS z (m++[x])=pS z m++if x=m.getLast?.getD z then [] else [x]
 | [],z=>by
  by_cases h:x=z
  ·simp[pS,h]
  ·simp[pS,h]
 |a::r,z=>by
  have e:(a::r).getLast?.getD z=r.getLast?.getD a:=by rw[List.getLast?_cons];rfl
  rw[e,ky,pS,pS,apC x r a]
  split
  ·rfl
  ·rfl
def aGU (m:List Int)(y x:Int):mu (m++[y]++[x])=mu (m++[y])++if x=y then [] else [x]:=by
 cases m with
 |nil =>
  by_cases h:x=y
  ·simp[mu,pS,h]
  ·simp[mu,pS,h]
 |cons a r =>
  have:pS a (r++[y]++[x])=pS a (r++[y])++if x=y then [] else [x]:=by
   rw[apC x (r++[y]) a];simp
  simp only[ky,mu,this]
def acE {l:List Int}{q:Nat}{y x:Int}(au:0<q)(al:l[q-1]?=some y)(Q:l[q]?=some x):mu (l.take (q+1))=mu (l.take q)++if x=y then [] else [x]:=by
 have az:l.take q=l.take (q-1)++[y]:=by
  have:q=q-1+1:=by omega
  conv=>lhs;rw[this,hF,al]
  rfl
 have aD:l.take (q+1)=l.take q++[x]:=by rw[hF,Q];rfl
 rw[aD,az];exact aGU _ _ _
def apD:∀(l:List Int) (z:Int),(z::l).Pairwise (·<=·)->(pS z l).Pairwise (·<·)/\(∀x∈pS z l,z<x)/\∀x,x∈pS z l↔x∈l/\x≠z
 | [],z,_=>⟨List.Pairwise.nil,λx h=>(by cases h),λx=>(by simp[pS])⟩
 |a::r,z,h=>by
  have aV:=GL.1 h;obtain⟨F,G,af⟩:=apD r a aV.2;have aO:=GL.1 aV.2;have aPO:=aV.1 a (by simp);rw[pS]
  split
  ·rename_i e;subst e;refine⟨F,G,λx=>?_⟩;rw[af,hS]
   constructor
   ·rintro⟨bS,cM⟩;exact⟨.inr bS,cM⟩
   ·rintro⟨bS|bS,cM⟩
    ·exact absurd bS cM
    ·exact⟨bS,cM⟩
  ·rename_i e;refine⟨GL.2 ⟨G,F⟩,λx Q=>?_,λx=>?_⟩
   ·rcases hS.1 Q with rfl|Q
    ·omega
    ·have:=G x Q;omega
   ·rw[hS,af,hS]
    constructor
    ·rintro (rfl|⟨bS,cM⟩)
     ·exact⟨.inl rfl,e⟩
     ·refine⟨.inr bS,λaPP=>?_⟩;have:=aO.1 x bS;omega
    ·rintro⟨bS|bS,cM⟩
     ·exact .inl bS
     ·by_cases hxa:x=a
      ·exact .inl hxa
      ·exact .inr ⟨bS,hxa⟩
def aGV {l:List Int}(h:l.Pairwise (·<=·)):(mu l).Pairwise (·<·)/\∀x,x∈mu l↔x∈l:=by
 cases l with
 |nil=>exact⟨List.Pairwise.nil,λx=>Iff.rfl⟩
 |cons a r =>
  obtain⟨F,G,af⟩:=apD r a h;refine⟨GL.2 ⟨G,F⟩,λx=>?_⟩;rw[mu,hS,hS,af]
  constructor
  ·rintro (h|⟨h,-⟩)
   ·exact .inl h
   ·exact .inr h
  ·rintro (h|h)
   ·exact .inl h
   ·by_cases Q:x=a
    ·exact .inl Q
    ·exact .inr ⟨h,Q⟩
def apE {K:bc->Prop}{st:bc}(s k g n:Nat)(P:List Int)(Z:List O)(On:oK Z=true)(aH:n=D P):
  Cd K st s k g 1 0 n (some (g,P.map bJ++Z))=K ⟨eN st.tm s (.M (.ay (P.map aC))),kill st.mem k⟩:=by
 subst aH;unfold Cd;dsimp only
 have aO:oK (P.map bJ++Z)=true:=by
  unfold oK at On ⊢;rw[List.all_append,On,Bool.and_true,ld];intro x Q;obtain⟨y,-,rfl⟩:=ef.1 Q
  rfl
 rw[ab ⟨rfl,aO⟩];unfold cut;rw[ks,dy,fO,ar,ab (by omega)];dsimp only;rw[nG,D8,dt (by rw[ar];exact bM _),ar,lf,l3,fG];have e:P.map bJ=((P.map aC).flatten).map O.M:=by rw[JQ];rfl
 rw[e,r1 _ λd=>rfl];dsimp only;have:=xj (sz:=1) (P.map aC) (λx Q=>by obtain⟨y,-,rfl⟩:=ef.1 Q;rfl);rw[ar] at this;rw[this]
def Vp:List O->Mem->Option (Data×Key):=Oc (λ(a:sB) args mem=>args=[.ref 289040 a.g 1 0 (D a.l)]/\tK a mem) (λa=>(.ay ((mu a.l).map aC),289040))
def aGW (a:sB)(mem:Mem)(h:tK a mem):Vp [.ref 289040 a.g 1 0 (D a.l)] mem=some (.ay ((mu a.l).map aC),289040):=by
 unfold Vp;exact aAp (a:=a) (λa b args mem F G=>by rw[Vi F.2 G.2]) ⟨rfl,h⟩
def aGX {l:List Int}{k:Nat}(I:0<k)(ak:k<D l){y x:Int}(al:l[k-1]?=some y)(Q:l[k]?=some x)(bE:x≠y)(h:mu (l.take k)=l.take k):mu (l.take (k+1))=l.take (k+1):=by
 rw[acE I al Q,ae bE,h,hF,Q];rfl
def aGY (T:ba)(a:sB)(mem:Mem)(aO:tK a mem):
  wp T Q0.body (me Q0.res λm mem'=>b5 6 emp m=some (.ay ((mu a.l).map aC))/\∀j,¬ False->mem' j=a4 mem 289040 (bQ mem 289040) [] j) ⟨iC [.ref 289040 a.g 1 0 (D a.l)],mem⟩:=by
 obtain⟨kv,aH⟩:=aO;obtain⟨l,g⟩:=a;dsimp only at kv aH ⊢
 have aK:∀(K:bc->Prop) (st:bc),Cd K st 2 289040 g 1 0 (D l) (some (g,l.map bJ))=K ⟨eN st.tm 2 (.M (.ay (l.map aC))),kill st.mem 289040⟩:=λK st=>by
  have:=apE (K:=K) (st:=st) 2 289040 g (D l) l [] rfl rfl;rwa [fG] at this
 refine pf ?_;simp only[Q0];rcases d0:decide ((D l:Int)<2)
 case true =>
  have H:mu l=l:=by
   have:=of_decide_eq_true d0
   match l,this with
   | [],_=>rfl
   | [x],_=>rfl
   |x::y::r,h=>simp at h;omega
  rw[H];refine ai ?_;repeat' (intro (aw:_=_)<;>simp only[aw,go_sem,go_sem_proc,d0,kv,aK]<;>try refine ah ?_ ?_)
  refine⟨_,rfl,?_,λj _=>?_⟩<;>first|rfl|trivial
 have vq:2<=D l:=by have:=of_decide_eq_false d0;omega
 simp only[go_sem,go_sem_proc,d0]
 refine da [0] [] (λ(k:Nat) tm m=>1<=k/\k<=D l/\tm 3=.M (.int .i64 k)/\m=mem/\mu (l.take k)=l.take k) (λk=>D l-k) 1 (by
  refine⟨by omega,by omega,rfl,rfl,?_⟩
  match l,vq with
  |x::r,_=>rfl) ?_
 intro vs ms aW aR;simp only[go_sem,go_sem_proc] at aW aR;subst aW aR;rintro k tm m I-⟨k2,gF,bX,hm,H⟩;simp only[go_sem,go_sem_proc,bh] at I;have bZ:=I;subst hm;rcases dq (k<D l) with aq|ca
 ·have d1:decide ((k:Int)<(D l:Int))=true:=cX;have ct:=e0 (i:=k) (by omega);have nR:IntKind.i64.wrap ((k:Int)-1)=((k-1:Nat):Int):=by rw[ev _];omega
  obtain⟨x,Q⟩:∃x,l[k]?=some x:=⟨_,bn aq⟩;obtain⟨y,al⟩:∃y,l[k-1]?=some y:=⟨_,bn (by omega)⟩;have t1:fh 1 (ft k (l.map bJ))=[.M (.int .i64 x)]:=x0 (f:=bJ) Q;have t2:fh 1 (ft (k-1) (l.map bJ))=[.M (.int .i64 y)]:=x0 (f:=bJ) al;have cm:(k+1<=D l)=True:=eq_true (by omega);have js:(k-1+1<=D l)=True:=eq_true (by omega);have na:(k<D l)=True:=eq_true aq;have od:(k-1<D l)=True:=eq_true (by omega);have hD:(l.map bJ).length=D l:=ar _;rcases q:(x==y)
  ·have bE:x≠y:=by simpa using q
   have l4:=aGX (by omega) aq al Q bE H;generalize gI:l.map bJ=bK at *;refine ai ?_;repeat' (intro (aw:_=_)<;>simp only[aw,go_sem,go_sem_proc,bZ,bX,kv,t1,t2,d1,ct,nR,cm,js,na,od,hD,q,dy]<;>try refine ah ?_ ?_)
   exact⟨k+1,by omega,by omega,by omega,rfl,l4⟩
  ·have j5:x=y:=by simpa using q
   have aGZ:mu (l.take (k+1))=l.take k:=by rw[acE (by omega) al Q,ab j5,fG,H]
   have hM:(k<=D l/\D l<=D l)=True:=eq_true ⟨by omega,bM _⟩
   simp only[go_sem,go_sem_proc,bZ,bX,kv,t1,t2,d1,nR,cm,js,na,od,hD,hM,q,dy]
   refine da [0,4] [] (λ((d,kk,row):Nat×Nat×List Int) tm m'=>1<=d/\k+d<=D l/\kk<k+d/\D row=D l/\row.take kk=mu (l.take (k+d))/\row.drop (k+d-1)=l.drop (k+d-1)/\tm 5=.M (.int .i64 d)/\tm 3=.M (.int .i64 kk)/\m'=a4 m 289040 g (row.map bJ)) (λ(d,_,_)=>D l-(k+d)) (1,k,l) (by
    refine⟨bM _,by omega,by omega,rfl,aGZ.symm,rfl,rfl,?_,?_⟩
    ·simp only[e8,Nat.reduceEqDiff,if_false];exact bX
    ·funext j
     by_cases ag:j=289040
     ·subst ag;rw[iy];exact kv
     ·rw[c1 ag]) ?_
   intro vs ms aW aR;simp only[go_sem,go_sem_proc,bZ] at aW aR;subst aW aR;clear bZ bX;rintro⟨d,kk,row⟩ tm m' I-⟨j7,mR,D3,b0,gx,qV,c8,bX,oi⟩;simp only[go_sem,go_sem_proc,bh] at I;obtain⟨bZ,dE⟩:=I;subst oi
   have bH:∀j,k+d-1<=j->row[j]?=l[j]?:=λj ag=>by
    have F:row[j]?=(row.drop (k+d-1))[j-(k+d-1)]?:=by rw[lE];congr 1;omega
    have G:l[j]?=(l.drop (k+d-1))[j-(k+d-1)]?:=by rw[lE];congr 1;omega
    rw[F,G,qV]
   rcases dq (k+d<D l) with lg|aPQ
   ·have d2:decide ((d:Int)<((D l-k:Nat):Int))=true:=cX;have Pv:=e0 (i:=d) (by omega);have apF:IntKind.i64.wrap ((d:Int)-1)=((d-1:Nat):Int):=by rw[ev _];omega
    have aG0:=e0 (i:=kk) (by omega);obtain⟨a,lk⟩:∃x,l[k+d]?=some x:=⟨_,bn lg⟩;obtain⟨b,nK⟩:∃y,l[k+d-1]?=some y:=⟨_,bn (by omega)⟩;have TH:=(bH (k+d) (by omega)).trans lk;have aG1:=(bH (k+d-1) (bM _)).trans nK;have s1:fh 1 (ft (k+d) (row.map bJ))=[.M (.int .i64 a)]:=x0 (f:=bJ) TH
    have s2:fh 1 (ft (k+(d-1)) (row.map bJ))=[.M (.int .i64 b)]:=by
     rw[show k+(d-1)=k+d-1 by omega];exact x0 (f:=bJ) aG1
    have c9:=acE (by omega) nK lk;have cr:(d<D l-k)=True:=eq_true (by omega);have b6:(d-1<D l-k)=True:=eq_true (by omega);have ga:(k+d+1<=D l)=True:=eq_true (by omega);have iQ:(k+(d-1)+1<=D l)=True:=eq_true (by omega);have UK:(kk<D l)=True:=eq_true (by omega);have pN:(kk+1<=D l)=True:=eq_true (by omega);have zI:(row.map bJ).length=D l:=by rw[ar,b0]
    rcases eg:(a==b)
    ·have bE:a≠b:=by simpa using eg
     rw[ae bE,<-gx] at c9
     have nW:fh kk (row.map bJ)++[O.M (.int .i64 a)]++ft (kk+1) (row.map bJ)=(row.set kk a).map bJ:=by
      rw[apG,ab (by omega),kh,eu,AU,Pr,gr];rfl
     generalize Pw:row.map bJ=GM at *;refine ai ?_;repeat' (intro (aw:_=_)<;>simp only[aw,go_sem,go_sem_proc,bZ,bX,dE,c8,s1,s2,d2,Pv,apF,aG0,cr,b6,ga,iQ,UK,pN,zI,nW,eg,bne,dd,dy]<;>try refine ah ?_ ?_)
     refine⟨(d+1,kk+1,row.set kk a),by dsimp only;omega,by dsimp only;omega,by dsimp only;omega,by dsimp only;omega,by dsimp only;rw[hL,b0],?_,?_,rfl,rfl,?_⟩
     ·dsimp only;rw[<-qA,c9,hF,apH (bM _),Hw (by omega)];rfl
     ·dsimp only;rw[List.drop_set_of_lt (by omega)];apply pY;intro j;rw[lE,lE];exact bH _ (by omega)
     ·rw[Pt]
    ·have he:a=b:=by simpa using eg
     rw[ab he,fG,<-gx] at c9;generalize Pw:row.map bJ=GM at *;refine ai ?_;repeat' (intro (aw:_=_)<;>simp only[aw,go_sem,go_sem_proc,bZ,bX,dE,c8,s1,s2,d2,Pv,apF,cr,b6,ga,iQ,zI,eg,bne,cF,dy]<;>try refine ah ?_ ?_)
     refine⟨(d+1,kk,row),by dsimp only;omega,by dsimp only;omega,by dsimp only;omega,by dsimp only;omega,b0,?_,?_,rfl,rfl,by rw[Pw]⟩
     ·dsimp only;rw[<-qA,c9]
     ·dsimp only;apply pY;intro j;rw[lE,lE];exact bH _ (by omega)
   ·have d2:decide ((d:Int)<((D l-k:Nat):Int))=false:=cA;have aG2:k+d=D l:=by omega
    rw[aG2,mW] at gx;have jx:(kk<=D l/\D l<=D l)=True:=eq_true ⟨by omega,bM _⟩
    have pJ:(kk+(D l-kk)<=D l)=True:=eq_true (by omega);have BB:(kk<=D l)=True:=eq_true (by omega);have zI:(row.map bJ).length=D l:=by rw[ar,b0]
    have EX:fh kk (row.map bJ)=(mu l).map bJ:=by rw[<-AU,gx]
    have ee:(mu l).length=kk:=by rw[<-gx,gE];omega
    have AL:ft (D l) (row.map bJ)=[]:=j0 (by rw[zI];exact bM _);generalize row.map bJ=GM at *;have aG3:(D l<=D l)=True:=eq_true (bM _)
    have r4:∀n:Nat,(dH n [O.M (.int .i64 0)]).flatten=dH n (O.M (.int .i64 0)):=λn=>by
     induction n with
     |zero=>rfl
     |succ n av=>rw[qC,k5,av,qC];rfl
    have qB:fh kk GM++(dH (D l-kk) [O.M (.int .i64 0)]).flatten++ft (kk+(dH (D l-kk) [O.M (.int .i64 0)]).flatten.length) GM=(mu l).map bJ++(dH (D l-kk) [O.M (.int .i64 0)]).flatten:=by
     rw[r4,C7,show kk+(D l-kk)=(D l) by omega,AL,EX,fG]
    have aG4:=λ(K:bc->Prop) (st:bc)=>apE (K:=K) (st:=st) 2 289040 g kk (mu l) (dH (D l-kk) [O.M (.int .i64 0)]).flatten (by rw[r4];unfold oK;rw[ld];intro x Q;rw[(List.mem_replicate.1 Q).2];rfl) ee.symm;refine ai ?_;repeat' (intro (aw:_=_)<;>simp only[aw,go_sem,go_sem_proc,bZ,bX,dE,c8,d2,pJ,BB,aG3,zI,qB,aG4,show (0<=kk)=True from eq_true (fy _),ND,dy,BJ]<;>try refine ah ?_ ?_)
    exact⟨_,rfl,rfl,λj _=>by by_cases h:j=289040<;>simp[h]⟩
 ·have d1:decide ((k:Int)<(D l:Int))=false:=cA;obtain rfl:k=D l:=by omega
  rw[mW] at H;rw[H];refine ai ?_;repeat' (intro (aw:_=_)<;>simp only[aw,go_sem,go_sem_proc,bZ,bX,kv,d1,aK]<;>try refine ah ?_ ?_)
  refine⟨_,rfl,?_,λj _=>?_⟩<;>first|rfl|trivial
abbrev Vq:(List Int)×(List ao)×(List bF)×(List bF)×(List (List Int))×Int->List Data:=λ(cash,cs,aA,cy,aP,di)=>[.agg (gz cash cs aA cy aP),.int .i64 di]
def Px:=bU Vq λ(cash,cs,aA,cy,aP,di)=>cp (D cy=D cs/\D cs<=2000) (.same (.cP [.ay ((cE cs di).map bW),.ay ((gh cs cy di).map aU)]))
def aG5:∀a b,Vq a=Vq b->a=b:=by
  rintro⟨tD,vc,pW,aG6,Gn,aPR⟩ ⟨tE,oh,pX,aG7,Gp,aPS⟩ h;simp only[bh,Data.agg.injEq,Data.int.injEq,and_true,true_and] at h;obtain⟨cr,b6⟩:=h;obtain⟨rfl,rfl,rfl,rfl,rfl⟩:=Bq cr;rw[b6]
@[go_sem] def apI (cash cs aA cy aP di):=cz Px rfl aG5 (cash,cs,aA,cy,aP,di) rfl
def aG8 (T:ba):WF T ahP Px:=by
 refine cf λ(cash,cs,aA,cy,aP,di)=>cG λH=>⟨rfl,b7 ?_⟩;simp only[ahP,Vq,b1];obtain⟨TS,hlen⟩:=H;simp only[go_sem,go_sem_proc,gz,ar];refine da [1,2,11,12] [298002] (λ((i,g,b6):Nat×Nat×Nat) tm m=>i<=D cs/\tm 13=.M (.int .i64 i)/\tm 6=.ref 298025 g 4 0 (cE (cs.take i) di).length/\tm 7=.ref 298034 b6 4 0 (gh (cs.take i) (cy.take i) di).length/\m 298025=some (g,a6 bW (cE (cs.take i) di))/\m 298034=some (b6,a6 aU (gh (cs.take i) (cy.take i) di))) (λ(i,_,_)=>D cs-i) (0,0,0) (by refine⟨by omega,rfl,rfl,rfl,rfl,rfl⟩) ?_;intro vs ms aW aR;simp only[go_sem,go_sem_proc,gz,ar] at aW aR;subst aW aR;rintro⟨i,g,b6⟩ tm m I hm ⟨J,gL,bP,cg,Vr,Vs⟩;simp only[go_sem,go_sem_proc,bh] at I hm;obtain⟨az,aD,jU,fU⟩:=I;rcases dq (i<D cs) with aq|ca
 ·have d1:decide ((i:Int)<(D cs:Int))=true:=cX;have ct:=e0 (i:=i) (by omega);obtain⟨⟨aG,c2,c3,c4⟩,Q⟩:∃c,cs[i]?=some c:=⟨_,bn aq⟩;obtain⟨⟨⟨iG,h9⟩,⟨kC,kZ⟩⟩,al⟩:∃c,cy[i]?=some c:=⟨_,bn (by omega)⟩;have gx:cs.take (i+1)=cs.take i++[(aG,c2,c3,c4)]:=by rw[hF,Q];rfl
  have aG9:cy.take (i+1)=cy.take i++[((iG,h9),(kC,kZ))]:=by rw[hF,al];rfl
  have ti:(cs.take i).length=(cy.take i).length:=by rw[gE,gE];omega
  have Hp:(cE (cs.take i) di).length<=2000:=by
   have F:=aFt (cs.take i) di;have G:(cs.take i).length<=D cs:=by rw[gE];omega
   omega
  have aPT:(gh (cs.take i) (cy.take i) di).length<=2000:=by
   have F:=anz (cs.take i) (cy.take i) di;have G:(cs.take i).length<=D cs:=by rw[gE];omega
   omega
  have tG:=anx (cs.take i) (cy.take i) (aG,c2,c3,c4) ((iG,h9),(kC,kZ)) di ti;rw[<-gx,<-aG9] at tG;have abB:i<D cy:=by omega
  rcases fu:(aG==di)
  ·have p1:cE (cs.take (i+1)) di=cE (cs.take i) di:=by
    unfold cE;rw[gx,ql,u5 (by simpa using fu),qm,fG]
   rw[ae (by dsimp only;rw[fu];decide),fG] at tG;refine ai ?_;repeat' (intro h<;>simp only[h,go_sem,go_sem_proc,az,aD,jU,fU,gL,bP,cg,hm,Q,al,d1,ct,fu,bW,ar,bo]<;>try refine ah ?_ ?_)
   exact⟨(i+1,g,b6),by dsimp only;omega,by dsimp only;omega,rfl,by rw[p1],by rw[tG],by rw[p1];exact Vr,by rw[tG];exact Vs⟩
  ·have p1:cE (cs.take (i+1)) di=cE (cs.take i) di++[(aG,c2,c3,c4)]:=by
    unfold cE;rw[gx,ql,tr (by simpa using fu),qm]
   rw[ab (by dsimp only;exact fu)] at tG;have dN:=l8 n0 Th 298025 g 32 (cE (cs.take i) di) (aG,c2,c3,c4) (cs:=[.M (.int .i64 aG),.M (.int .i64 c2),.M (.int .i64 c3),.M (.int .i64 c4)]) rfl (by omega) (by omega);rw[<-p1] at dN;have aHa:=λjo kt=>l8 mY Fq 298034 b6 64 (gh (cs.take i) (cy.take i) di) ((iG,h9),(kC,kZ)) (cs:=jo) kt (by omega) (by omega);have acF:=aHa _ rfl;rw[<-tG] at acF;have cm:(cE (cs.take (i+1)) di).length=(cE (cs.take i) di).length+1:=by rw[p1,fO];rfl
   have cC:(gh (cs.take (i+1)) (cy.take (i+1)) di).length=(gh (cs.take i) (cy.take i) di).length+1:=by rw[tG,fO];rfl
   simp only[aU,eu,cR] at acF;refine ai ?_;repeat' (intro h<;>simp only[h,go_sem,go_sem_proc,az,aD,jU,fU,gL,bP,cg,hm,Vr,Vs,Q,al,dN,acF,d1,ct,fu,abB,bW,aU,ar,bo]<;>try refine ah ?_ ?_)
   exact⟨(i+1,g+1,b6+1),by dsimp only;omega,by dsimp only;omega,rfl,by rw[cm],by rw[cC],rfl,rfl⟩
 ·have d1:decide ((i:Int)<(D cs:Int))=false:=cA;obtain rfl:i=D cs:=by omega
  rw[mW,dt (by omega)] at cg Vs;rw[mW] at bP Vr;have Gf:=λ(K:bc->Prop) (st:bc)=>oQ (K:=K) (st:=st) n0 6 298025 g (cE cs di);have TR:=λ(K:bc->Prop) (st:bc)=>oQ (K:=K) (st:=st) mY 7 298034 b6 (gh cs cy di);refine ai ?_;repeat' (intro h<;>simp only[h,go_sem,go_sem_proc,az,aD,jU,fU,gL,bP,cg,Vr,Vs,d1,Gf,TR,ar]<;>try refine ah ?_ ?_)
def Py (cs:List ao)(ps:List Rat)(n:Nat):List Nat:=(dD n).filter λi=>decide (pO cs ps (i:Int)<10)
def kp (cs:List ao)(ps:List Rat)(n:Nat):List Int:=(Py cs ps n).map λi:Nat=>(i:Int)
def apJ (cs:List ao)(ps:List Rat)(n:Nat):kp cs ps (n+1)=kp cs ps n++if pO cs ps (n:Int)<10 then [(n:Int)] else []:=by
 unfold kp Py;rw[m5,ql,kh]
 by_cases h:pO cs ps (n:Int)<10
 ·simp[h]
 ·simp[h]
def Vt (cs:List ao)(ps:List Rat)(n:Nat):(kp cs ps n).length<=n:=by
 unfold kp Py;rw[ar];have:=nZ (λi:Nat=>decide (pO cs ps (i:Int)<10)) (dD n);rwa [List.length_range] at this
abbrev Vu:(List Int)×(List ao)×(List bF)×(List Rat)×(List (List Int))×Int->List Data:=λ(cash,cs,aA,ps,aP,i)=>[.agg (gz cash cs aA (ps.map ax) aP),.int .i64 i]
def Pz:=bU Vu λ(cash,cs,aA,ps,aP,i)=>cp (wL cash cs ps) (.same (.cP [.int .i64 (tC cs ps i),.bool (decide (pO cs ps i<10))]))
def aHb:∀a b,Vu a=Vu b->a=b:=by
  rintro⟨tD,vc,pW,OM,Gn,i1⟩ ⟨tE,oh,pX,ON,Gp,i2⟩ h;simp only[bh,Data.agg.injEq,Data.int.injEq,and_true,true_and] at h;obtain⟨cr,b6⟩:=h;obtain⟨rfl,rfl,rfl,ga,rfl⟩:=Bq cr;rw[b6,map_inj (λ_ _ aX=>se aX) _ _ ga]
@[go_sem] def apK (cash cs aA ps aP i):=cz Pz rfl aHb (cash,cs,aA,ps,aP,i) rfl
def aHc (T:ba)(yj:T L3=aQ Px)(aHd:T XH=aQ U4):WF T ahY Pz:=by
 refine cf λ(cash,cs,aA,ps,aP,i)=>cG λH=>⟨rfl,b7 ?_⟩;simp only[ahY,Vu,b1];have F:=apI cash cs aA (ps.map ax) aP i ⟨by rw[ar];exact H.len,H.l⟩
 rw[abN] at F;have G:=aF5 (cE cs i) (gh cs ps i) (H.short i);rw[aCO] at G;simp only[gz] at F;generalize ((gh cs ps i).map ax).map aU=aN at *;generalize ps.map ax=yc at *;generalize tC cs ps i=eS at *;generalize decide (pO cs ps i<10)=B at *;refine ai ?_;repeat' (intro h<;>simp only[h,go_sem,go_sem_proc,yj,aHd,gz,F,G]<;>try refine ah ?_ ?_)
def aHe {m:Mem}{k g:Nat}{l:List Int}(h:m k=some (g,a6 aC l)):pg 1 m (.ref k g 1 0 (D l))=some (l.map aC):=by
 have hlen:(a6 aC l).length=D l:=by rw[lj iH];omega
 unfold pg;simp only[h,hlen];rw[ab ⟨trivial,trivial⟩,ab ⟨trivial,by omega⟩,dt (by omega)]
 unfold a6;rw[r1 _ λd=>rfl,iY];have:=xj (sz:=1) (l.map aC) (λe he=>by obtain⟨c,-,rfl⟩:=ef.1 he;rfl);rw[ar] at this;rw[this]
abbrev DJ:(List Int)×(List ao)×(List bF)×(List Rat)×(List (List Int))->List Data:=λ(cash,cs,aA,ps,aP)=>[.agg (gz cash cs aA (ps.map ax) aP)]
def PA:=bU DJ λ(cash,cs,aA,ps,aP)=>cp (wL cash cs ps) (.own 1 ((kp cs ps (D cash)).map aC))
def acG:∀a b,DJ a=DJ b->a=b:=by
  rintro⟨tD,vc,pW,OM,Gn⟩ ⟨tE,oh,pX,ON,Gp⟩ h;simp only[bh,Data.agg.injEq,and_true] at h;obtain⟨rfl,rfl,rfl,ga,rfl⟩:=Bq h;rw[map_inj (λ_ _ aX=>se aX) _ _ ga]
@[go_sem] def apL (cash cs aA ps aP):=cz PA rfl acG (cash,cs,aA,ps,aP) rfl
def aHf (T:ba)(DK:T L6=aQ Pz):WF T ahR PA:=by
 refine cf λ(cash,cs,aA,ps,aP)=>cG λH=>⟨rfl,b7 ?_⟩;simp only[ahR,DJ,b1];have aH:=H.n;have he:=λi=>apK cash cs aA ps aP i H;simp only[gz] at he;generalize ps.map ax=yc at *;simp only[go_sem,go_sem_proc,DK,gz,ar];refine da [1,9] [303001] (λ((i,g):Nat×Nat) tm m=>i<=D cash/\tm 10=.M (.int .i64 i)/\tm 3=.ref 303023 g 1 0 (kp cs ps i).length/\m 303023=some (g,a6 aC (kp cs ps i))) (λ(i,_)=>D cash-i) (0,0) (by refine⟨by omega,rfl,rfl,rfl⟩) ?_;intro vs ms aW aR;simp only[go_sem,go_sem_proc,DK,gz,ar] at aW aR;subst aW aR;rintro⟨i,g⟩ tm m I hm ⟨J,eJ,bX,Vv⟩;simp only[go_sem,go_sem_proc,DK,bh] at I hm;obtain⟨az,fI⟩:=I;have Ld:=Vt cs ps i;rcases dq (i<D cash) with aq|ca
 ·have d1:decide ((i:Int)<(D cash:Int))=true:=cX;have ct:=e0 (i:=i) (by omega);have he:=he i;have Kv:=apJ cs ps i;rcases q:decide (pO cs ps (i:Int)<10)
  ·rw[q] at he;rw[ae (of_decide_eq_false q),fG] at Kv;generalize tC cs ps i=eS at *;refine ai ?_;repeat' (intro h<;>simp only[h,go_sem,go_sem_proc,DK,az,bX,fI,eJ,hm,Vv,he,d1,ct,ar]<;>try refine ah ?_ ?_)
   exact⟨(i+1,g),by dsimp only;omega,by dsimp only;omega,rfl,by rw[Kv],by rw[Kv]⟩
  ·rw[q] at he;rw[ab (of_decide_eq_true q)] at Kv;have dN:=l8 iH vE 303023 g 8 (kp cs ps i) (i:Int) (cs:=[.M (.int .i64 (i:Int))]) rfl (by omega) (by omega);rw[<-Kv] at dN;have ak:(kp cs ps (i+1)).length=(kp cs ps i).length+1:=by rw[Kv,fO];rfl
   generalize tC cs ps i=eS at *;refine ai ?_;repeat' (intro h<;>simp only[h,go_sem,go_sem_proc,DK,az,bX,fI,eJ,hm,Vv,he,dN,d1,ct,ar]<;>try refine ah ?_ ?_)
   exact⟨(i+1,g+1),by dsimp only;omega,by dsimp only;omega,rfl,by rw[ak],rfl⟩
 ·have d1:decide ((i:Int)<(D cash:Int))=false:=cA;obtain rfl:i=D cash:=by omega
  refine ai ?_;repeat' (intro h<;>simp only[h,go_sem,go_sem_proc,DK,az,bX,fI,eJ,hm,Vv,d1,ar]<;>try refine ah ?_ ?_)
  exact aHe Vv
def aHg (T:ba)(Vw:T X0=aQ Vg):WF T ahZ Ul:=by
 refine cf λ(a,b,k,x,i,e,set)=>cG λH=>⟨rfl,b7 ?_⟩;simp only[ahZ,Uk,b1];have gT:=aGz set b H;rcases aG:(a==i)
 ·refine ai ?_;repeat' (intro h<;>simp only[h,go_sem,go_sem_proc,Vw,aG,fC]<;>try refine ah ?_ ?_)
 rcases c2:(k==e)
 ·refine ai ?_;repeat' (intro h<;>simp only[h,go_sem,go_sem_proc,Vw,aG,c2,fC,hs]<;>try refine ah ?_ ?_)
 rcases c3:decide (x>0)
 ·refine ai ?_;repeat' (intro h<;>simp only[h,go_sem,go_sem_proc,Vw,aG,c2,c3,fC,hs]<;>try refine ah ?_ ?_)
 ·refine ai ?_;repeat' (intro h<;>simp only[h,go_sem,go_sem_proc,Vw,aG,c2,c3,gT,g4]<;>try refine ah ?_ ?_)
abbrev Vx:(List Int)×(List ao)×(List bF)×(List Rat)×(List (List Int))×Int×(List Int)->List Data:=λ(cash,cs,aA,ps,aP,i,set)=>[.agg (gz cash cs aA (ps.map ax) aP),.int .i64 i,.ay (set.map aC)]
def Vy:=bU Vx λ(cash,cs,aA,ps,aP,i,set)=>cp (wL cash cs ps/\D set<=1000000) (.same (.bool (wK cs ps set i)))
def aHh:∀a b,Vx a=Vx b->a=b:=by
  rintro⟨tD,vc,pW,OM,Gn,i1,anC⟩ ⟨tE,oh,pX,ON,Gp,i2,anD⟩ h;simp only[bh,Data.agg.injEq,Data.int.injEq,Data.ay.injEq,and_true,true_and] at h;obtain⟨cr,b6,iQ⟩:=h;obtain⟨rfl,rfl,rfl,ga,rfl⟩:=Bq cr;rw[b6,map_inj (λ_ _ aX=>se aX) _ _ ga,map_inj fq _ _ iQ]
@[go_sem] def aHi (cash cs aA ps aP i set):=cz Vy rfl aHh (cash,cs,aA,ps,aP,i,set) rfl
def aHj (T:ba)(DK:T L6=aQ Pz)(Gv:T Aj=aQ Gs):WF T ahT Vy:=by
 refine cf λ(cash,cs,aA,ps,aP,i,set)=>cG λH=>⟨rfl,b7 ?_⟩;simp only[ahT,Vx,b1];have F:=apK cash cs aA ps aP i H.1;have G:=Un cs (.Gr i (tC cs ps i) set) ⟨by have:=H.1.l;omega,by decide,H.2⟩
 have e:cs.any (ya (.Gr i (tC cs ps i) set))=wK cs ps set i:=rfl;rw[e] at G;simp only[Br] at G;simp only[gz] at F;generalize ps.map ax=yc at *;generalize tC cs ps i=eS at *;generalize wK cs ps set i=B at *;refine ai ?_;repeat' (intro h<;>simp only[h,go_sem,go_sem_proc,DK,Gv,gz,F,G,b5,pU,nr,scalar]<;>try refine ah ?_ ?_)
def aHk (T:ba)(aHl:T XY=aQ Vy):WF T ahS Gm:=by
 refine cf λ(x,cash,cs,aA,ps,aP,set)=>cG λH=>⟨rfl,b7 ?_⟩;simp only[ahS,Ub,b1];have h:=aHi cash cs aA ps aP x set H;simp only[gz] at h;generalize wK cs ps set x=B at *;generalize ps.map ax=yc at *;refine ai ?_;repeat' (intro (aw:_=_)<;>simp only[aw,go_sem,go_sem_proc,aHl,gz,h]<;>try refine ah ?_ ?_)
structure tL where
 g:Nat
 cr:Nat
 b6:Nat
 L:List Int
 Z:List Int
 cash:List Int
 cs:List ao
 aA:List bF
 ps:List Rat
 aP:List (List Int)
 set:List Int
structure tL.eF (a:tL) (mem:Mem):Prop where
 row:mem 290006=some (a.g,(a.L++a.Z).map bJ)
 day:mem 290001=some (a.cr,(gz a.cash a.cs a.aA (a.ps.map ax) a.aP).map .M)
 st:mem 290004=some (a.b6,[Data.ay (a.set.map aC)].map .M)
 GN:wL a.cash a.cs a.ps
 ay:(D a.set)<=60
 apM:(D a.L)+D a.Z<=60
def tL.args (a:tL):List O:=[.ref 290006 a.g 1 0 (D a.L),.fx uw [.ptr 290001 a.cr 0,.ptr 290004 a.b6 0]]
def stay (cs:List ao)(ps:List Rat)(set L:List Int):List Int:=L.filter λx => !wK cs ps set x
def PB (a:tL)(mem:Mem):O->Mem->Prop:=λm mem'=>∃PC:List Int,D PC+(stay a.cs a.ps a.set a.L).length=D a.L+D a.Z/\m=.ref 290006 a.g 1 0 (stay a.cs a.ps a.set a.L).length/\mem'=a4 mem 290006 a.g ((stay a.cs a.ps a.set a.L++PC).map bJ)
def PD:List O->Mem->Option (O->Mem->Prop):=uR (λ(a:tL) args mem=>args=a.args/\a.eF mem) PB
def aHm:∀a b:Data,O.M a=O.M b->a=b:=λa b h=>by cases h;rfl
def aHn {a b:tL}{mem:Mem}(h:a.args=b.args)(F:a.eF mem)(G:b.eF mem):a=b:=by
 obtain⟨g,cr,b6,L,Z,cash,cs,aA,ps,aP,set⟩:=a;obtain⟨cV,aPU,aPV,aPW,PC,Bg,jo,nb,aPX,JB,aPY⟩:=b;have az:=F.row.symm.trans G.row;have aD:=F.day.symm.trans G.day;have bX:=F.st.symm.trans G.st;simp only[tL.args,bh,O.ref.injEq,and_true,true_and] at h;simp only[cl,e2] at az aD bX;obtain⟨rfl,az⟩:=az;obtain⟨rfl,aD⟩:=aD;obtain⟨rfl,bX⟩:=bX;obtain⟨rfl,rfl,rfl,iT,rfl⟩:=Bq (map_inj aHm _ _ aD);obtain rfl:=map_inj (λ_ _ aX=>se aX) _ _ iT;simp only[eu,cR,bh,O.M.injEq,Data.ay.injEq,and_true] at bX;obtain rfl:=map_inj fq _ _ bX;obtain⟨rfl,rfl⟩:=List.append_inj (Tl az) h.1.2
 rfl
def aHo (a:tL)(mem:Mem)(h:a.eF mem):PD a.args mem=some (PB a mem):=by
 unfold PD;exact Ng (a:=a) (λa b args mem F G=>aHn (F.1.symm.trans G.1) F.2 G.2) ⟨rfl,h⟩
def Vz {n k g:Nat}{mem:Mem}{ds:List Data}(h:mem k=some (g,ds.map .M)):b5 (n+1) mem (.ptr k g 0)=some (.ptr ds):=by
 unfold b5;rw[h];simp only;rw[ab ⟨trivial,fy _⟩,nG,r1 _ λd=>by cases n<;>rfl]
 rfl
def apN {n k g:Nat}{mem:Mem}{L Z:List Int}(h:mem k=some (g,(L++Z).map bJ)):b5 (n+1) mem (.ref k g 1 0 (D L))=some (.ay (L.map aC)):=by
 unfold b5;rw[h];simp only[if_true];unfold cut;rw[ks,dy,ab (by simp),nG,kh,D8,ar,lf,l3,fG,dt (by rw[ar];exact bM _)];have e:L.map bJ=((L.map aC).flatten).map O.M:=by rw[JQ];rfl
 rw[e];simp only;rw[r1 _ λd=>by cases n<;>rfl]
 have:=xj (sz:=1) (L.map aC) (λx Q=>by obtain⟨y,-,rfl⟩:=ef.1 Q;rfl);rw[ar] at this;simp[this]
def aHp {T:ba}(OP:T uw=aQ Gm){a:tL}{mem m:Mem}(aO:a.eF mem)(F:m 290001=mem 290001)(aS:m 290004=mem 290004)(x:Int):
  T uw [.M (.int .i64 x),.ptr 290001 a.cr 0,.ptr 290004 a.b6 0] m=some (.same (.bool (wK a.cs a.ps a.set x))):=by
 have t1:b5 6 m (.ptr 290001 a.cr 0)=some (.ptr (gz a.cash a.cs a.aA (a.ps.map ax) a.aP)):=Vz (F.trans aO.day);have t2:b5 6 m (.ptr 290004 a.b6 0)=some (.ptr [.ay (a.set.map aC)]):=Vz (aS.trans aO.st);have t3:b5 6 m (.M (.int .i64 x))=some (.int .i64 x):=rfl;have eW:=anE x a.cash a.cs a.aA a.ps a.aP a.set ⟨aO.GN,by have:=aO.ay;omega⟩
 have az:[O.M (.int .i64 x),.ptr 290001 a.cr 0,.ptr 290004 a.b6 0].mapM (b5 6 m)=some [.int .i64 x,.ptr (gz a.cash a.cs a.aA (a.ps.map ax) a.aP),.ptr [.ay (a.set.map aC)]]:=by
  simp only[kr,VA,t1,t2,t3];rfl
 have bZ:[O.M (.int .i64 x),.ptr 290001 a.cr 0,.ptr 290004 a.b6 0].mapM (b5 6 emp)=none:=rfl;rw[OP];unfold aQ;rw[bZ,az];show (Gm _).bind xh=_;rw[eW];simp[xh,scalar]
def aHq {T:ba}(rv:T uv=aQ wN){a:tL}{mem:Mem}(aO:a.eF mem):
  T uv a.args mem=some (.same (.int .i64 (oW (λx=>wK a.cs a.ps a.set x) a.L))):=by
 have t1:b5 5 mem (.ptr 290001 a.cr 0)=some (.ptr (gz a.cash a.cs a.aA (a.ps.map ax) a.aP)):=Vz aO.day;have t2:b5 5 mem (.ptr 290004 a.b6 0)=some (.ptr [.ay (a.set.map aC)]):=Vz aO.st;have t3:b5 6 mem (.ref 290006 a.g 1 0 (D a.L))=some (.ay (a.L.map aC)):=apN aO.row
 have t4:b5 6 mem (.fx uw [.ptr 290001 a.cr 0,.ptr 290004 a.b6 0])=some (wM (.Dy a.cash a.cs a.aA a.ps a.aP a.set)):=by
  rw[atg];simp only[kr,VA,t1,t2];rfl
 have ak:=aO.apM;have eW:=anH a.L (.Dy a.cash a.cs a.aA a.ps a.aP a.set) ⟨by omega,by decide,aO.GN,by have:=aO.ay;omega⟩
 have az:a.args.mapM (b5 6 mem)=some [.ay (a.L.map aC),wM (.Dy a.cash a.cs a.aA a.ps a.aP a.set)]:=by
  unfold tL.args;simp only[kr,VA,t3,t4];rfl
 have bZ:a.args.mapM (b5 6 emp)=none:=rfl;rw[rv];unfold aQ;rw[bZ,az];show (wN _).bind xh=_;rw[eW];simp only[ng,xh,scalar,if_true]
 rfl
def apO {p:Int->Bool}{L:List Int}{j:Nat}{x:Int}(h:L[j]?=some x):(L.take (j+1)).filter p=(L.take j).filter p++if p x=true then [x] else []:=by
 rw[hF,h,ql]
 cases aF:p x<;>simp[aF]
def aHr (n:Nat):(dH n [O.M (.int .i64 0)]).flatten=(dH n (0:Int)).map bJ:=by
 induction n with
 |zero=>rfl
 |succ n av=>rw[qC,k5,av,qC];rfl
def aHs (T:ba)(rv:T uv=aQ wN)(OP:T uw=aQ Gm)(a:tL)(mem:Mem)(aO:a.eF mem):
  wp T Q1.body (me Q1.res (PB a mem)) ⟨iC a.args,mem⟩:=by
 have zj:=aHq rv aO;have hE:=λ(m:Mem) (F:m 290001=mem 290001) (aS:m 290004=mem 290004) (x:Int)=>aHp OP aO F aS x;have fo:=aO.row;have OC:=aO.apM;obtain⟨g,cr,b6,L,Z,cash,cs,aA,ps,aP,set⟩:=a;clear aO;unfold PB;simp only[tL.args,stay] at zj hE fo OC ⊢;generalize aF:wK cs ps set=p at *;refine pf ?_;simp only[Q1];rcases aY:(oW (λx=>p x) L == -1)
 case true =>
  have aK:L.filter (λx => !p x)=L:=by
   rw[apP];intro x Q;have:=M3 (λx=>p x) L;rw[eq_of_beq aY] at this;have G:=uL.1 this.symm x Q
   simpa using G
  rw[aK];refine ai ?_;repeat' (intro (aw:_=_)<;>simp only[aw,go_sem,go_sem_proc,zj,aY]<;>try refine ah ?_ ?_)
  exact⟨_,rfl,Z,by omega,rfl,by
   funext k
   by_cases I:k=290006
   ·subst I;rw[iy,fo]
   ·rw[c1 I]⟩
 obtain⟨i0,qP,aPZ,bH,yY⟩:∃i0:Nat,oW (λx=>p x) L=(i0:Int)/\i0<D L/\(∃x,L[i0]?=some x/\p x=true)/\∀x∈L.take i0,p x=false:=by
  unfold oW at aY ⊢
  cases h:L.findIdx? (λx=>p x) with
  |none=>rw[h] at aY;cases aY
  |some i =>
   obtain⟨F,G,af⟩:=List.findIdx?_eq_some_iff_getElem.1 h;refine⟨i,rfl,F,⟨_,bn F,G⟩,λx Q=>?_⟩;obtain⟨j,ag⟩:=List.mem_iff_getElem?.1 Q;rw[List.getElem?_take] at ag
   split at ag
   ·rename_i h8;obtain⟨j1,rfl⟩:=dK.1 ag;have:=af j h8
    simpa using this
   ·cases ag
 rw[qP] at zj aY;have dG:=e0 (i:=i0) (by omega);simp only[go_sem,go_sem_proc,zj,aY,dG]
 refine da [0,1] [] (λ((j,row):Nat×List Int) tm m=>j<=D L/\tm 6=.M (.int .i64 (j:Int))/\tm 5=.M (.int .i64 (((L.take j).filter λx => !p x).length:Int))/\D row=D L+D Z/\row.take ((L.take j).filter λx => !p x).length=(L.take j).filter (λx => !p x)/\row.drop j=(L++Z).drop j/\m=a4 mem 290006 g (row.map bJ)) (λ(j,_)=>D L-j) (i0+1,L++Z) (by
  obtain⟨x,Q,Kw⟩:=bH
  have e:(L.take (i0+1)).filter (λx => !p x)=L.take i0:=by
   rw[apO Q,ae (by rw[Kw];decide),fG,apP];intro y al;rw[yY y al];rfl
  have aD:(L.take i0).length=i0:=by rw[gE];omega
  refine⟨by omega,rfl,?_,by rw[fO],?_,rfl,?_⟩
  ·rw[e,aD];rfl
  ·rw[e,aD,D8,show i0-D L=0 by omega,l3,fG]
  ·funext k
   by_cases I:k=290006
   ·subst I;rw[iy];exact fo
   ·rw[c1 I]) ?_
 intro vs ms aW aR;simp only[go_sem,go_sem_proc] at aW aR;subst aW aR;rintro⟨j,row⟩ tm m I-⟨ag,bP,c8,b0,gx,qV,hm⟩;simp only[go_sem,go_sem_proc,bh] at I;obtain⟨bZ,az⟩:=I;subst hm;have ee:=λ(x:Int)=>hE (a4 mem 290006 g (row.map bJ)) rfl rfl x
 have g2:((L.take j).filter λx => !p x).length<=j:=by
  have F:=nZ (λx => !p x) (L.take j);have G:(L.take j).length<=j:=List.length_take_le _ _;omega
 rcases dq (j<D L) with aq|ca
 ·have d1:decide ((j:Int)<(D L:Int))=true:=cX;obtain⟨x,Q⟩:∃x,L[j]?=some x:=⟨_,bn aq⟩
  have aHt:row[j]?=some x:=by
   have F:row[j]?=(row.drop j)[0]?:=by rw[lE];rfl
   rw[F,qV,lE,Nat.add_zero,List.getElem?_append_left aq,Q]
  have Kx:=apO (p:=λx => !p x) Q;have ee:=ee x;have w1:=e0 (i:=j) (by omega);have s1:fh 1 (ft j (row.map bJ))=[.M (.int .i64 x)]:=x0 (f:=bJ) aHt;have c6:(j<D L)=True:=eq_true aq;have eB:(j+1<=D L+D Z)=True:=eq_true (by omega);have zI:(row.map bJ).length=D L+D Z:=by rw[ar,b0]
  have kz:∀y:List Int,D y=(D row)->(∀k,j+1<=k->y[k]?=row[k]?)->y.drop (j+1)=(L++Z).drop (j+1):=λy BS al=>by
   apply pY;intro k;rw[lE,lE,al _ (by omega)];have F:row[j+1+k]?=(row.drop j)[1+k]?:=by rw[lE];congr 1;omega
   have G:(L++Z)[j+1+k]?=((L++Z).drop j)[1+k]?:=by rw[lE];congr 1;omega
   rw[F,G,qV]
  rcases Kw:p x
  ·rw[Kw] at ee;rw[ab (by rw[Kw];rfl)] at Kx;have gi:((L.take (j+1)).filter λx => !p x).length=((L.take j).filter λx => !p x).length+1:=by rw[Kx,fO];rfl
   generalize aH:((L.take j).filter λx => !p x).length=n at *;have n9:=e0 (i:=n) (by omega);have jA:(n<D L)=True:=eq_true (by omega);have lT:(n+1<=D L+D Z)=True:=eq_true (by omega)
   have nW:fh n (row.map bJ)++[O.M (.int .i64 x)]++ft (n+1) (row.map bJ)=(row.set n x).map bJ:=by
    rw[apG,ab (by omega),kh,eu,AU,Pr,gr];rfl
   generalize Pw:row.map bJ=GM at *;refine ai ?_;repeat' (intro (aw:_=_)<;>simp only[aw,go_sem,go_sem_proc,bZ,az,c8,bP,s1,d1,w1,n9,c6,eB,jA,lT,zI,nW,ee,dd,dy]<;>try refine ah ?_ ?_)
   refine⟨(j+1,row.set n x),by dsimp only;omega,by dsimp only;omega,rfl,?_,?_,?_,?_,?_⟩
   ·rw[gi]
   ·dsimp only;rw[hL,b0]
   ·dsimp only;rw[gi,Kx,hF,apH (bM _),gx,Hw (by omega)];rfl
   ·exact kz _ (hL ..) λk I=>by rw[List.getElem?_set_ne (by omega)]
   ·rw[Pt]
  ·rw[Kw] at ee;rw[ae (by rw[Kw];decide),fG] at Kx;generalize Pw:row.map bJ=GM at *;refine ai ?_;repeat' (intro (aw:_=_)<;>simp only[aw,go_sem,go_sem_proc,bZ,az,c8,bP,s1,d1,w1,c6,eB,zI,ee,cF,dy]<;>try refine ah ?_ ?_)
   exact⟨(j+1,row),by dsimp only;omega,by dsimp only;omega,rfl,by rw[Kx],b0,by rw[Kx];exact gx,kz _ rfl λk I=>rfl,by rw[Pw]⟩
 ·have d1:decide ((j:Int)<(D L:Int))=false:=cA;obtain rfl:j=D L:=by omega
  rw[mW] at c8 gx g2;have hlen:((L.filter λx => !p x).length)<=D L:=g2;generalize eW:L.filter (λx => !p x)=aL at *;have aG:(D aL<=D L)=True:=eq_true hlen;have c2:(D aL+(D L-D aL)<=D L+D Z)=True:=eq_true (by omega);have c3:(D L<=D L)=True:=eq_true (bM _);have zI:(row.map bJ).length=D L+D Z:=by rw[ar,b0]
  have EX:fh (D aL) (row.map bJ)=aL.map bJ:=by rw[<-AU,gx]
  have AL:ft (D L) (row.map bJ)=Z.map bJ:=by rw[<-Pr,qV,List.drop_left]
  have qB:fh (D aL) (row.map bJ)++(dH (D L-D aL) [O.M (.int .i64 0)]).flatten++ft (D aL+(dH (D L-D aL) [O.M (.int .i64 0)]).flatten.length) (row.map bJ)=(aL++(dH (D L-D aL) 0++Z)).map bJ:=by
   rw[aHr,ar,C7,show (D aL)+(D L-D aL)=(D L) by omega,AL,EX,kh,kh,gr]
  generalize row.map bJ=GM at *;refine ai ?_;repeat' (intro (aw:_=_)<;>simp only[aw,go_sem,go_sem_proc,bZ,az,c8,bP,d1,aG,c2,c3,zI,qB,ND,dy,BJ,Nat.zero_mul,ks]<;>try refine ah ?_ ?_)
  exact⟨_,rfl,dH (D L-D aL) 0++Z,by rw[fO,C7];omega,rfl,by rw[Pt];rfl⟩
def jk (cs:List ao)(ps:List Rat)(s:List Int):Nat->List Int
 |0=>s
 |k+1=>stay cs ps (jk cs ps s k) (jk cs ps s k)
def apQ (cs:List ao)(ps:List Rat)(set L:List Int):(stay cs ps set L).length<=D L:=nZ _ _
def aHu (cs:List ao)(ps:List Rat)(s:List Int)(k:Nat):(jk cs ps s k).length<=D s:=by
 induction k with
 |zero=>exact bM _
 |succ k av=>exact Nat.le_trans (apQ ..) av
def VB:=bU DJ λ(cash,cs,aA,ps,aP)=>cp (wL cash cs ps) (.same (.bool (decide (((jk cs ps (kp cs ps (D cash)) (D cash)).length:Int)>0))))
@[go_sem] def aHv (cash cs aA ps aP):=cz VB rfl acG (cash,cs,aA,ps,aP) rfl
def aHw (T:ba)(pT:T L4=aQ PA)(gS:T vK=aQ Ao)(Ky:T XX=ns PD):WF T ahH VB:=by
 refine cf λ(cash,cs,aA,ps,aP)=>cG λH=>⟨rfl,b7 ?_⟩;simp only[ahH,DJ,b1];have aH:=H.n;have kO:=apL cash cs aA ps aP H;have Ld:=Vt cs ps (D cash);have ee:=aHu cs ps (kp cs ps (D cash));have fo:∀l:List Int,a6 aC l=l.map bJ:=λl=>(JQ l).symm;generalize cB:kp cs ps (D cash)=yk at *
 have e3:∀(m:Mem) (g cr b6:Nat) (L Z:List Int),m 290006=some (g,(L++Z).map bJ)->(D L)+D Z<=60->m 290001=some (cr,[.M (.ay (cash.map aC)),.M (.ay (cs.map bW)),.M (.ay (aA.map aU)),.M (.ay ((ps.map ax).map aU)),.M (.ay (aP.map vb))])->PD [.ref 290006 g 1 0 (D L),.fx uw [.ptr 290001 cr 0,.ptr 290004 b6 0]] (a4 (a4 m 290004 b6 [.nil]) 290004 b6 [.M (.ay (L.map aC))])=some (PB ⟨g,cr,b6,L,Z,cash,cs,aA,ps,aP,L⟩ (a4 (a4 m 290004 b6 [.nil]) 290004 b6 [.M (.ay (L.map aC))])):=λm g cr b6 L Z F G af =>
  aHo ⟨g,cr,b6,L,Z,cash,cs,aA,ps,aP,L⟩ _ ⟨F,af,iy,H,by dsimp only;omega,G⟩
 simp only[gz] at kO;generalize aP0:ps.map ax=yc at *;simp only[go_sem,go_sem_proc,pT,gS,Ky,gz,kO,ar]
 refine da [1,9] [290001] (λ((k,g,Z):Nat×Nat×List Int) tm m=>k<=D cash/\tm 10=.M (.int .i64 k)/\tm 3=.ref 290006 g 1 0 (jk cs ps yk k).length/\m 290006=some (g,(jk cs ps yk k++Z).map bJ)/\(jk cs ps yk k).length+D Z<=60) (λ(k,_,_)=>D cash-k) (0,0,[]) (by
  refine⟨by omega,rfl,?_,?_,?_⟩
  ·show _=O.ref 290006 0 1 0 (D yk);simp[e8]
  ·show _=some (0,(yk++[]).map bJ);rw[fG,JQ]
   rfl
  ·show (D yk)+0<=60;omega) ?_
 intro vs ms aW aR;simp only[go_sem,go_sem_proc,pT,gS,Ky,gz,ar] at aW aR;subst aW aR;rintro⟨k,g,Z⟩ tm m I hm ⟨qH,eJ,bX,apR,OC⟩;simp only[go_sem,go_sem_proc,pT,gS,Ky,bh] at I hm;obtain⟨az,fI⟩:=I;rcases dq (k<D cash) with aq|ca
 ·have d1:decide ((k:Int)<(D cash:Int))=true:=cX;have ct:=e0 (i:=k) (by omega);have gJ:jk cs ps yk (k+1)=stay cs ps (jk cs ps yk k) (jk cs ps yk k):=rfl;generalize jk cs ps yk k=S at *;have bz:b5 6 m (.ref 290006 g 1 0 (D S))=some (.ay (S.map aC)):=apN apR;have acH:b5 6 emp (.ref 290006 g 1 0 (D S))=none:=rfl;have gT:=afK S (by omega)
  have Bl:((S.map aC).all λe=>e.all scalar)=true:=by
   rw[ld];intro x Q;obtain⟨y,-,rfl⟩:=ef.1 Q;simp[aC,scalar]
  have aY:=e3 m g 0 (gH (m 290004)) S Z apR OC hm;simp only[go_sem,go_sem_proc,pT,gS,Ky,az,bX,fI,eJ,hm,d1,bz,acH,gT,aY,xh,Bl,nr,ng];rintro r m' ⟨PC,aV,aa,oi⟩;dsimp only at aV aa oi;rw[<-gJ] at aV aa oi;subst aa oi;refine ai ?_;repeat' (intro h<;>simp only[h,go_sem,go_sem_proc,pT,gS,Ky,az,fI,eJ,hm,ct]<;>try refine ah ?_ ?_)
  exact⟨(k+1,g,PC),by dsimp only;omega,by dsimp only;omega,rfl,rfl,rfl,by dsimp only;omega⟩
 ·have d1:decide ((k:Int)<(D cash:Int))=false:=cA;obtain rfl:k=D cash:=by omega
  generalize jk cs ps yk (D cash)=S at *;refine ai ?_;repeat' (intro h<;>simp only[h,go_sem,go_sem_proc,pT,gS,Ky,az,bX,fI,eJ,hm,d1]<;>try refine ah ?_ ?_)
abbrev VC:List Int->List Data:=λ(l:List Int)=>[.ay (l.map aC),.fn xn []]
def VD:=bU VC λ(l:List Int)=>cp (D l<=1000000) (.same (.bool (l.all gW)))
def aHx:∀a b,VC a=VC b->a=b:=by
  intro eH aI h;simp only[bh,Data.ay.injEq,and_true] at h;exact map_inj fq _ _ h
@[go_sem] def aHy (l):=cz VD rfl aHx l rfl
def aHz (T:ba)(OS:T EE=aQ J0):WF T ahM VD:=by
 refine cf λl=>cG λH=>⟨rfl,b7 ?_⟩;simp only[ahM,VC,b1];have h:=abT l .sw ⟨H,by show Ch<900000;decide⟩
 have e:l.any (tF .sw) = !l.all gW:=Gt l gW;rw[e] at h;simp only[wM] at h;refine ai ?_;repeat' (intro (aw:_=_)<;>simp only[aw,go_sem,go_sem_proc,OS,h,b5,pU,nr,scalar,acI]<;>try refine ah ?_ ?_)
abbrev VE:(List ao)×Int->List Data:=λ(l,n)=>[.ay (l.map bW),.fn HU [.ptr [.int .i64 n],.ptr [.fn xn []]]]
def VF:=bU VE λ(l,n)=>cp (D l<=1000000/\0<=n/\n<=1000000) (.same (.bool (l.all (iw n))))
def aHA:∀a b,VE a=VE b->a=b:=by
  rintro⟨eH,h7⟩ ⟨aI,iZ⟩ h;simp only[bh,Data.ay.injEq,Data.fn.injEq,Data.ptr.injEq,Data.int.injEq,and_true,true_and] at h;exact ej (map_inj u7 _ _ h.1) h.2
@[go_sem] def aHB (l n):=cz VF rfl aHA (l,n) rfl
def aHC (T:ba)(Gv:T Aj=aQ Gs):WF T ahN VF:=by
 refine cf λ(l,n)=>cG λH=>⟨rfl,b7 ?_⟩;simp only[ahN,VE,b1];have h:=Un l (.sw n) ⟨H.1,by decide,H.2⟩
 have e:l.any (ya (.sw n)) = !l.all (iw n):=Gt l _;rw[e] at h;simp only[Br] at h;refine ai ?_;repeat' (intro (aw:_=_)<;>simp only[aw,go_sem,go_sem_proc,Gv,h,b5,pU,nr,scalar,acI]<;>try refine ah ?_ ?_)
def BC (f:bF):Bool:=eY f&&decide (f.1.1>=0)
abbrev VG:List bF->List Data:=λ(l:List bF)=>[.ay (l.map aU),.fn EG []]
def VH:=bU VG λ(l:List bF)=>cp (mZ l) (.same (.bool (l.all BC)))
def aHD:∀a b,VG a=VG b->a=b:=by
  intro eH aI h;simp only[bh,Data.ay.injEq,and_true] at h;exact map_inj nq _ _ h
@[go_sem] def apS (l):=cz VH rfl aHD l rfl
def aHE (T:ba)(M5:T LM=aQ IE):WF T ahO VH:=by
 refine cf λl=>cG λH=>⟨rfl,b7 ?_⟩;simp only[ahO,VG,b1];have h:=ah9 l vO ⟨H,.inr (.inr ⟨rfl,by decide⟩)⟩;have e:l.any (uM vO) = !l.all BC:=by rw[ah6];exact Gt l BC
 have Zm:ah4 vO=[.ptr [.fn EG []]]:=ab rfl;rw[e,Zm] at h;refine ai ?_;repeat' (intro (aw:_=_)<;>simp only[aw,go_sem,go_sem_proc,M5,h,b5,pU,nr,scalar,acI]<;>try refine ah ?_ ?_)
def BD (cash:List Int)(cs:List ao)(aA cy:List bF):Bool:=!(decide ((D cash:Int)>60)||(decide ((D cs:Int)>2000)||(!((D aA:Int)==(D cash:Int)) || !((D cy:Int)==(D cs:Int)))))&&(cash.all gW&&(cs.all (iw (D cash))&&(aA.all BC&&cy.all BC)))
abbrev VI:(List Int)×(List ao)×(List bF)×(List bF)×(List (List Int))->List Data:=λ(cash,cs,aA,cy,aP)=>[.agg (gz cash cs aA cy aP)]
def VJ:=bU VI λ(cash,cs,aA,cy,aP)=>cp (D cash<=1000000/\D cs<=1000000/\mZ aA/\mZ cy) (.same (.bool (BD cash cs aA cy)))
def aHF:∀a b,VI a=VI b->a=b:=by
  rintro⟨tD,vc,pW,aG6,Gn⟩ ⟨tE,oh,pX,aG7,Gp⟩ h;simp only[bh,Data.agg.injEq,and_true] at h;obtain⟨rfl,rfl,rfl,rfl,rfl⟩:=Bq h;rfl
@[go_sem] def aHG (cash cs aA cy aP):=cz VJ rfl aHF (cash,cs,aA,cy,aP) rfl
def aHH (T:ba)(DL:T XR=aQ VD)(DM:T XS=aQ VF)(DN:T QR=aQ VH):WF T ahE VJ:=by
 refine cf λ(cash,cs,aA,cy,aP)=>cG λH=>⟨rfl,b7 ?_⟩;simp only[ahE,VI,b1];obtain⟨F,G,af,aS⟩:=H;have cH:=aHy cash F;have cY:=aHB cs (D cash) ⟨G,by omega,by omega⟩
 have ep:=apS aA af;have fi:=apS cy aS;unfold BD;generalize aA.all BC=A3 at *;generalize cy.all BC=A4 at *;generalize cash.all gW=aaH at *;generalize cs.all (iw (D cash))=Jp at *;rcases aG:decide ((D cash:Int)>60)
 case true =>
        refine ai ?_;repeat' (intro h<;>simp only[h,go_sem,go_sem_proc,DL,DM,DN,gz,aG,ar,qG,cF,fC]<;>try refine ah ?_ ?_)
 rcases c2:decide ((D cs:Int)>2000)
 case true =>
        refine ai ?_;repeat' (intro h<;>simp only[h,go_sem,go_sem_proc,DL,DM,DN,gz,aG,c2,ar,qG,rY,cF,fC]<;>try refine ah ?_ ?_)
 rcases c3:((D aA:Int)==(D cash:Int))
 case false =>
        refine ai ?_;repeat' (intro h<;>simp only[h,go_sem,go_sem_proc,DL,DM,DN,gz,aG,c2,c3,ar,bne,qG,rY,cF,dd,fC]<;>try refine ah ?_ ?_)
 rcases c4:((D cy:Int)==(D cs:Int))
 case false =>
        refine ai ?_;repeat' (intro h<;>simp only[h,go_sem,go_sem_proc,DL,DM,DN,gz,aG,c2,c3,c4,ar,bne,qG,Bool.or_true,rY,cF,dd,fC]<;>try refine ah ?_ ?_)
 cases aaH
 ·refine ai ?_;repeat' (intro h<;>simp only[h,go_sem,go_sem_proc,DL,DM,DN,gz,aG,c2,c3,c4,cH,ar,bne,b5,pU,nr,scalar,mM,cF,dd,fC,hs]<;>try refine ah ?_ ?_)
 cases Jp
 ·refine ai ?_;repeat' (intro h<;>simp only[h,go_sem,go_sem_proc,DL,DM,DN,gz,aG,c2,c3,c4,cH,cY,ar,bne,b5,pU,nr,scalar,mM,cF,dd,g4,fC,hs]<;>try refine ah ?_ ?_)
 cases A3
 ·refine ai ?_;repeat' (intro h<;>simp only[h,go_sem,go_sem_proc,DL,DM,DN,gz,aG,c2,c3,c4,cH,cY,ep,ar,bne,b5,pU,nr,scalar,mM,cF,dd,g4,fC,hs]<;>try refine ah ?_ ?_)
 ·refine ai ?_;repeat' (intro h<;>simp only[h,go_sem,go_sem_proc,DL,DM,DN,gz,aG,c2,c3,c4,cH,cY,ep,fi,ar,bne,b5,pU,nr,scalar,mM,cF,dd,g4,fC,hs]<;>try refine ah ?_ ?_)
def zJ (i:Int)(acc:Option Rat)(acJ:ao×Rat):Option Rat:=if acJ.1.2.1=i then acc.bind λs=>if mX s acJ.2=true then some (s+acJ.2) else none else acc
def vi (z:Int)(i:Int)(l:List (ao×Rat)):Option Rat:=l.foldl (zJ i) (some (z:Rat))
def aHI {z i:Int}{l:List (ao×Rat)}{k:Nat}{c:ao×Rat}(h:l[k]?=some c):vi z i (l.take (k+1))=zJ i (vi z i (l.take k)) c:=by
 unfold vi;rw[hF,h,acu];rfl
def aHJ (i:Int)(l:List (ao×Rat)):l.foldl (zJ i) none=none:=by
 induction l with
 |nil=>rfl
 |cons c l av =>
  have:zJ i none c=none:=by unfold zJ;split<;>rfl
  rw[Hm,this,av]
def aHK {z i:Int}{l:List (ao×Rat)}{k:Nat}(h:vi z i (l.take k)=none):vi z i l=none:=by
 have:l=l.take k++l.drop k:=(ui k l).symm;rw[this];unfold vi at *;rw[acu,h,aHJ]
def aHL {z i:Int}(aV:fa z)(l:List (ao×Rat)):∀x,vi z i l=some x->dc x:=by
 unfold vi
 have:∀(l:List (ao×Rat)) (a:Option Rat),(∀x,a=some x->dc x)->∀x,l.foldl (zJ i) a=some x->dc x:=by
  intro l
  induction l with
  |nil=>intro a h;exact h
  |cons c l av =>
   intro a h;refine av _ λx Q=>?_;unfold zJ at Q
   split at Q
   ·cases a with
    |none=>cases Q
    |some s =>
     rw[ng] at Q
     split at Q
     ·rename_i I;rw[<-mD Q];exact ao7 I
     ·cases Q
   ·exact h x Q
 exact this l _ λx Q=>by rw[<-mD Q];exact rq aV
def tM (cash:List Int)(cs:List ao)(aY ps:List Rat)(i:Nat):Int:=match vi (cash.getD i 0) i (cs.zip ps) with
 |none=>6
 |some x=>if x=aY.getD i 0/\gh cs ps i=(cE cs i).map (λc=>fK (cE cs i) x c) then 0 else 24
structure acK (cash:List Int) (cs:List ao) (aY ps:List Rat) (i:Nat):Prop where
 GN:wL cash cs ps
 J:i<D cash
 ak:(D aY)=D cash
 jT:∀x∈aY,dc x
 aP1:fa (cash.getD i 0)
 split:∀x,vi (cash.getD i 0) i (cs.zip ps)=some x->x=aY.getD i 0->Ts (cE cs i) x
def ly.acz {l:List ao}(h:ly l){x:Rat}(Q:ec 460 x){c:ao}(H:c∈l):dc (fK l x c):=Mini.acz (λc H=>by have:=h.c c H;omega) h.len Q H
abbrev VK:(List Int)×(List ao)×(List Rat)×(List Rat)×(List (List Int))×Nat->List Data:=λ(cash,cs,aY,ps,aP,i)=>[.agg (gz cash cs (aY.map ax) (ps.map ax) aP),.int .i64 (i:Int)]
def VL:=bU VK λ(cash,cs,aY,ps,aP,i)=>cp (acK cash cs aY ps i) (.same (.int .i64 (tM cash cs aY ps i)))
def aHM:∀a b,VK a=VK b->a=b:=by
  rintro⟨tD,vc,s6,OM,Gn,i1⟩ ⟨tE,oh,Ik,ON,Gp,i2⟩ h;simp only[bh,Data.agg.injEq,Data.int.injEq,and_true,true_and] at h;obtain⟨h,iQ⟩:=h;obtain⟨rfl,rfl,b6,ga,rfl⟩:=Bq h;rw[map_inj (λ_ _ aX=>se aX) _ _ ga,map_inj (λ_ _ aX=>se aX) _ _ b6,Int.ofNat.inj iQ]
@[go_sem] def aHN (cash cs aY ps aP i):=cz VL rfl aHM (cash,cs,aY,ps,aP,i) rfl
def aHO (T:ba)(su:T Ah=aQ CG)(jd:T vG=aQ v9)(eK:T kP=aQ pz)(yj:T L3=aQ Px)(yd:T L1=aQ OW)(BE:T XT=aQ U2):WF T ahF VL:=by
 refine cf λ(cash,cs,aY,ps,aP,i)=>cG λH=>⟨rfl,b7 ?_⟩;simp only[ahF,VK,b1];obtain⟨N4,J,ak,jT,acL,ja⟩:=H;have hlen:=N4.len;have aHP:=N4.l;obtain⟨z,aV⟩:∃z,cash[i]?=some z:=⟨_,bn J⟩;have Cr:cash.getD i 0=z:=by rw[ei,aV];rfl
 rw[Cr] at acL ja;unfold tM;rw[Cr];have au:=aGc acL;have w9:=aHL (i:=(i:Int)) acL;have aHQ:∀k c p,cs[k]?=some c->ps[k]?=some p->(cs.zip ps)[k]?=some (c,p):=λk c p F G=>List.getElem?_zip_eq_some.2 ⟨F,G⟩;have aP2:(cs.zip ps).length=D cs:=by rw[List.length_zip];omega
 have VM:=apI cash cs (aY.map ax) (ps.map ax) aP i ⟨by rw[ar];exact hlen,aHP⟩
 rw[abN] at VM;simp only[gz] at VM;have aHR:∃x,aY[i]?=some x:=⟨_,bn (by omega)⟩;obtain⟨Q,acM⟩:=aHR;have aHS:aY.getD i 0=Q:=by rw[ei,acM];rfl
 have aHT:=jT Q (dZ acM);have ca:(aY.map ax)[i]?=some (ax Q):=by rw[bo,acM];rfl
 have aHU:∀k,(ps.map ax)[k]?=(ps[k]?).map ax:=λk=>bo;have kW:i<(aY.map ax).length:=by rw[ar];omega
 have aP3:(ps.map ax).length=D cs:=by rw[ar];exact hlen
 rw[aHS] at ja ⊢;generalize aP4:aY.map ax=HQ at *;generalize aP5:ps.map ax=VN at *;have aHV:∃e,e=ax ((z:Int):Rat):=⟨_,rfl⟩;obtain⟨e,he⟩:=aHV;rw[<-he] at au;obtain⟨⟨fA,hl⟩,⟨pM,zx⟩⟩:=e;simp only[aU] at au;simp only[go_sem,go_sem_proc,su,jd,eK,yj,yd,BE,gz,aV,J,au,aC,hQ,lH,ks,ar,bo]
 refine da [1,2,5,25,26] [288002] (λ((k,x,f):Nat×Rat×bF) tm m=>k<=D cs/\tm 27=.M (.int .i64 k)/\vi z i ((cs.zip ps).take k)=some x/\f=ax x/\m 288005=some (0,(aU f).map .M)) (λ(k,_,_)=>D cs-k) (0,((z:Int):Rat),((fA,hl),(pM,zx))) (by
  refine⟨by omega,rfl,rfl,he,rfl⟩) ?_
 intro vs ms aW aR;simp only[go_sem,go_sem_proc,su,jd,eK,yj,yd,BE,gz,ar] at aW aR;subst aW aR;rintro⟨k,x,⟨⟨gR,fS⟩,⟨kA,q7⟩⟩⟩ tm m I hm ⟨qH,lz,nO,ue,GO⟩;simp only[go_sem,go_sem_proc,su,jd,eK,yj,yd,BE,bh] at I hm;obtain⟨az,aD,c8,ix,km⟩:=I;have tT:=w9 ((cs.zip ps).take k) x nO;simp only[aU,eu,cR] at GO;rcases dq (k<D cs) with aq|aP6
 ·have d1:decide ((k:Int)<(D cs:Int))=true:=cX;have ct:=e0 (i:=k) (by omega);obtain⟨⟨aG,c2,c3,c4⟩,H⟩:∃c,cs[k]?=some c:=⟨_,bn aq⟩;obtain⟨p,aF⟩:∃p,ps[k]?=some p:=⟨_,bn (by omega)⟩;have nD:=N4.Dl p (dZ aF);have c9:=aHI (z:=z) (i:=(i:Int)) (aHQ k _ p H aF);rw[nO] at c9;have k0:VN[k]?=some (ax p):=by rw[aHU,aF];rfl
  have wh:k<D VN:=by omega
  have kV:=ao8 tT nD;rw[<-ue] at kV;obtain⟨e,Bm⟩:∃e,e=ax p:=⟨_,rfl⟩;rw[<-Bm] at kV k0;obtain⟨⟨iG,h9⟩,⟨kC,kZ⟩⟩:=e;simp only[aU] at kV;rcases fu:(c2==(i:Int))
  ·have bE:¬ c2=(i:Int):=ne_of_beq_false fu;unfold zJ at c9;rw[ae bE] at c9;refine ai ?_;repeat' (intro (aw:_=_)<;>simp only[aw,go_sem,go_sem_proc,su,jd,eK,yj,yd,BE,az,aD,c8,ix,km,lz,hm,GO,H,d1,ct,fu,bW,ar,bo,bne,dd]<;>try refine ah ?_ ?_)
   exact⟨(k+1,x,((gR,fS),(kA,q7))),by dsimp only;omega,by dsimp only;omega,rfl,c9,ue,rfl⟩
  ·have heq:c2=(i:Int):=eq_of_beq fu;unfold zJ at c9;rw[ab heq,ng] at c9;rcases gF:mX x p
   ·rw[gF] at kV c9;rw[ae (by decide)] at c9;have fp:=aHK c9;rw[fp];have acN:xF false (x+p)=(eA,6):=rfl;simp only[acN,eA] at kV;have b2:((6:Int)==0)=false:=rfl;refine ai ?_;repeat' (intro (aw:_=_)<;>simp only[aw,go_sem,go_sem_proc,su,jd,eK,yj,yd,BE,az,aD,c8,ix,km,lz,hm,GO,H,k0,wh,kV,b2,d1,ct,fu,bW,aU,ar,bo,bne,cF,dd]<;>try refine ah ?_ ?_)
   ·rw[gF] at kV c9;rw[ab rfl] at c9;have acN:xF true (x+p)=(ax (x+p),0):=rfl;simp only[acN] at kV;obtain⟨e,It⟩:∃e,e=ax (x+p):=⟨_,rfl⟩;rw[<-It] at kV;obtain⟨⟨s1,s2⟩,⟨dP,dU⟩⟩:=e;simp only at kV;refine ai ?_;repeat' (intro (aw:_=_)<;>simp only[aw,go_sem,go_sem_proc,su,jd,eK,yj,yd,BE,az,aD,c8,ix,km,lz,hm,GO,H,k0,wh,kV,d1,ct,fu,bW,aU,ar,bo,bne,beq_self_eq_true,cF]<;>try refine ah ?_ ?_)
    exact⟨(k+1,x+p,((s1,s2),(dP,dU))),by dsimp only;omega,by dsimp only;omega,rfl,c9,It,rfl⟩
 ·have d1:decide ((k:Int)<(D cs:Int))=false:=cA;rw[dt (by omega)] at nO;rw[nO];have kS:=zt tT aHT;rw[<-ue] at kS;obtain⟨e,aHW⟩:∃e,e=ax Q:=⟨_,rfl⟩;rw[<-aHW] at kS ca;obtain⟨⟨F,G⟩,⟨af,aS⟩⟩:=e;simp only[aU] at kS;dsimp only;rcases eg:(je x Q==0)
  ·have bE:¬ x=Q:=λh=>by rw[ahk.2 h] at eg;cases eg
   rw[ae (λh=>bE h.1)];refine ai ?_;repeat' (intro (aw:_=_)<;>simp only[aw,go_sem,go_sem_proc,su,jd,eK,yj,yd,BE,az,aD,c8,ix,km,lz,hm,GO,ca,kW,kS,d1,eg,aU,ar,bo,bne,dd]<;>try refine ah ?_ ?_)
  ·have heq:x=Q:=ahk.1 (eq_of_beq eg);have zf:=ja x nO heq;have D4:=anS x (cE cs i) zf;rw[<-ue] at D4;have fz:(cE cs (i:Int)).map (λc=>ax (fK (cE cs i) x c))=((cE cs (i:Int)).map λc=>fK (cE cs i) x c).map ax:=by rw[mK];rfl
   rw[fz] at D4;have Hp:=zf.own.len;have lk:∀y∈gh cs ps (i:Int),dc y:=λy al=>N4.Dl y (T4 al)
   have nK:∀y∈(cE cs (i:Int)).map (λc=>fK (cE cs i) x c),dc y:=λy al=>by
    obtain⟨c,H,rfl⟩:=ef.1 al;exact zf.own.acz zf.sz H
   have e6:=abO cs ps (i:Int) hlen;have Be:=aFS ((gh cs ps (i:Int)).map ax) (((cE cs (i:Int)).map λc=>fK (cE cs i) x c).map ax) ⟨⟨by rw[ar];omega,λf aK=>by obtain⟨y,al,rfl⟩:=ef.1 aK;exact m1 (lk y al)⟩,⟨by rw[ar,ar];omega,λf aK=>by obtain⟨y,al,rfl⟩:=ef.1 aK;exact m1 (nK y al)⟩⟩
   have apT:=apd _ _ lk nK;generalize (gh cs ps (i:Int)).map ax=aHX at *;generalize (((cE cs (i:Int)).map λc=>fK (cE cs i) x c).map ax)=aHY at *;simp only[aU] at D4;rcases jg:mr aHX aHY
   ·rw[jg] at Be;rw[ae (λh=>by rw[apT.2 h.2] at jg;cases jg)];refine ai ?_;repeat' (intro (aw:_=_)<;>simp only[aw,go_sem,go_sem_proc,su,jd,eK,yj,yd,BE,az,aD,c8,ix,km,lz,hm,GO,ca,kW,kS,VM,D4,Be,d1,eg,aU,ar,bo,bne,beq_self_eq_true,cF,dd]<;>try refine ah ?_ ?_)
   ·rw[jg] at Be;rw[ab ⟨heq,apT.1 jg⟩];refine ai ?_;repeat' (intro (aw:_=_)<;>simp only[aw,go_sem,go_sem_proc,su,jd,eK,yj,yd,BE,az,aD,c8,ix,km,lz,hm,GO,ca,kW,kS,VM,D4,Be,d1,eg,aU,ar,bo,bne,beq_self_eq_true,cF,dd]<;>try refine ah ?_ ?_)
def apU:∀{a b:List Int},a.Pairwise (·<·)->b.Pairwise (·<·)->(∀x,x∈a↔x∈b)->a=b
 | [],[],_,_,_=>rfl
 | [],y::b,_,_,h=>by have:=(h y).2 (by simp);cases this
 |x::a,[],_,_,h=>by have:=(h x).1 (by simp);cases this
 |x::a,y::b,aO,ad,h=>by
  have TP:=GL.1 aO;have kK:=GL.1 ad
  have j5:x=y:=by
   have F:=(h x).1 (by simp);have G:=(h y).2 (by simp);rcases hS.1 F with F|F
   ·exact F
   ·rcases hS.1 G with G|G
    ·exact G.symm
    ·have:=TP.1 y G;have:=kK.1 x F;omega
  subst j5;rw[apU TP.2 kK.2 λz=>?_]
  constructor
  ·intro aV;have:=(h z).1 (g5 _ aV);rcases hS.1 this with F|F
   ·have:=TP.1 z aV;omega
   ·exact F
  ·intro aV;have:=(h z).2 (g5 _ aV);rcases hS.1 this with F|F
   ·have:=kK.1 z aV;omega
   ·exact F
def aHZ (cs:List ao)(ps:List Rat)(n:Nat):(kp cs ps n).Pairwise (·<·)/\∀x,x∈kp cs ps n->∃i:Nat,x=(i:Int)/\i<n:=by
 induction n with
 |zero=>exact⟨List.Pairwise.nil,λx h=>by cases h⟩
 |succ n av =>
  obtain⟨F,G⟩:=av;rw[apJ]
  by_cases aY:pO cs ps (n:Int)<10
  ·rw[ab aY];refine⟨Ps.2 ⟨F,apx _ _,λa aO b ad=>?_⟩,λx Q=>?_⟩
   ·obtain⟨i,rfl,J⟩:=G a aO;rw[vY.1 ad];omega
   ·rcases iF.1 Q with Q|Q
    ·obtain⟨i,e,J⟩:=G x Q;exact⟨i,e,by omega⟩
    ·exact⟨n,vY.1 Q,by omega⟩
  ·rw[ae aY,fG];exact⟨F,λx Q=>by obtain⟨i,e,J⟩:=G x Q;exact⟨i,e,by omega⟩⟩
structure acO (cash:List Int) (cs:List ao) (ps:List Rat) (aP:List (List Int)):Prop where
 GN:wL cash cs ps
 len:(D aP)<=1000
 ne:∀r∈aP,r≠[]/\r.Pairwise (·<·)
 names:(D aP.flatten)<=12
 mem:∀x,x∈aP.flatten↔x∈kp cs ps (D cash)
def VO:=bU DJ λ(cash,cs,aA,ps,aP)=>cp (acO cash cs ps aP) (.same (.bool true))
@[go_sem] def aH0 (cash cs aA ps aP):=cz VO rfl acG (cash,cs,aA,ps,aP) rfl
def aH1 (T:ba)(yl:T XU=ns Vo)(ym:T XW=Ob Vp)(pT:T L4=aQ PA)(yn:T XV=aQ Ve):WF T ahG VO:=by
 refine cf λ(cash,cs,aA,ps,aP)=>cG λH=>⟨rfl,b7 ?_⟩;simp only[ahG,DJ,b1];have aH:=H.GN.n;have kO:=apL cash cs aA ps aP H.GN;have Ld:=Vt cs ps (D cash);simp only[gz] at kO;generalize ps.map ax=yc at *;simp only[go_sem,go_sem_proc,yl,ym,pT,yn,gz,ar];refine da [1,10,11] [289001] (λ((i,g):Nat×Nat) tm m=>i<=D aP/\tm 12=.M (.int .i64 i)/\tm 3=.ref 289040 g 1 0 (aP.take i).flatten.length/\m 289040=some (g,a6 aC (aP.take i).flatten)) (λ(i,_)=>D aP-i) (0,0) (by refine⟨by omega,rfl,rfl,rfl⟩) ?_;intro vs ms aW aR;simp only[go_sem,go_sem_proc,yl,ym,pT,yn,gz,ar] at aW aR;subst aW aR;rintro⟨i,g⟩ tm m I hm ⟨J,fU,bX,BF⟩;simp only[go_sem,go_sem_proc,yl,ym,pT,yn,bh] at I hm;obtain⟨az,eJ,jU⟩:=I;rcases dq (i<D aP) with aq|ca
 ·have hlen:=H.len;have d1:decide ((i:Int)<(D aP:Int))=true:=cX;have ct:=e0 (i:=i) (by omega);obtain⟨r,Q⟩:∃r,aP[i]?=some r:=⟨_,bn aq⟩;obtain⟨Cm,bL⟩:=H.ne r (dZ Q);have gx:(aP.take (i+1)).flatten=(aP.take i).flatten++r:=by rw[hF,Q,Option.toList_some,A8];simp
  have aP7:(aP.take i).flatten.length+D r<=12:=by
   have F:aP.flatten=(aP.take (i+1)).flatten++(aP.drop (i+1)).flatten:=by rw[<-A8,ui]
   have G:=H.names;rw[F,gx,fO,fO] at G;omega
  have b0:0<D r:=List.length_pos_iff.2 Cm;simp only[go_sem,go_sem_proc,yl,ym,pT,yn,az,bX,eJ,jU,fU,hm,Q,d1,vb,ar,bo];refine da [1,3,5,10,11,12,16,17] [289001,289040] (λ(k:Nat) tm m=>k<=D r/\tm 18=.M (.int .i64 k)) (λk=>D r-k) 0 (by refine⟨by omega,rfl⟩) ?_;intro vs ms aW aR;simp only[go_sem,go_sem_proc,yl,ym,pT,yn,az,bX,eJ,jU,fU,hm,BF,ar] at aW aR;subst aW aR;clear az bX eJ jU fU hm BF;rintro k tm m I hm ⟨D3,lQ⟩;simp only[go_sem,go_sem_proc,yl,ym,pT,yn,bh] at I hm;obtain⟨az,bX,c8,eJ,jU,fU,pH,nX⟩:=I;obtain⟨dw,BF⟩:=hm;rcases dq (k<D r) with So|axI
  ·have d2:decide ((k:Int)<(D r:Int))=true:=cX;have nR:=e0 (i:=k) (by omega);obtain⟨x,acP⟩:∃x,r[k]?=some x:=⟨_,bn So⟩;rcases Nat.eq_zero_or_pos k with l6|l6
   ·have d3:decide ((k:Int)>0)=false:=cA;refine ai ?_;repeat' (intro h<;>simp only[h,go_sem,go_sem_proc,yl,ym,pT,yn,az,bX,c8,eJ,jU,fU,pH,nX,lQ,dw,BF,acP,d2,d3,nR,aC,ar,bo]<;>try refine ah ?_ ?_)
    exact⟨k+1,by omega,by omega,rfl⟩
   ·have d3:decide ((k:Int)>0)=true:=cX;have Pv:IntKind.i64.wrap ((k:Int)-1)=((k-1:Nat):Int):=by rw[ev _];omega
    obtain⟨y,apV⟩:∃x,r[k-1]?=some x:=⟨_,bn (by omega)⟩
    have lg:y<x:=by
     obtain⟨_,rfl⟩:=dK.1 acP;obtain⟨_,rfl⟩:=dK.1 apV;exact List.pairwise_iff_getElem.1 bL (k-1) k (by omega) So (by omega)
    have d4:decide (x<=y)=false:=cA;have k2:k-1<D r:=by omega
    refine ai ?_;repeat' (intro h<;>simp only[h,go_sem,go_sem_proc,yl,ym,pT,yn,az,bX,c8,eJ,jU,fU,pH,nX,lQ,dw,BF,acP,apV,d2,d3,d4,nR,Pv,k2,aC,ar,bo]<;>try refine ah ?_ ?_)
    exact⟨k+1,by omega,by omega,rfl⟩
  ·have d2:decide ((k:Int)<(D r:Int))=false:=cA;have d5:((D r:Int)==0)=false:=by rw[beq_eq_false_iff_ne];omega
   have dN:mA 289040 g 1 (aP.take i).flatten.length 8 (D r) (a6 aC r) (some (g,a6 aC (aP.take i).flatten))=some (.ref 289040 (g+1) 1 0 ((aP.take i).flatten.length+D r),some (289040,g+1,a6 aC (aP.take (i+1)).flatten)):=by
    have:=En iH vE 289040 g 8 (aP.take i).flatten r (by omega) (by omega);rw[<-gx] at this;exact this
   have Kk:(r.map aC).flatten.map O.M=a6 aC r:=rfl;refine ai ?_;repeat' (intro h<;>simp only[h,go_sem,go_sem_proc,yl,ym,pT,yn,az,bX,c8,eJ,jU,fU,pH,nX,lQ,dw,BF,d2,d5,ct,dN,Kk,Q9,ar]<;>try refine ah ?_ ?_)
   exact⟨(i+1,g+1),by dsimp only;omega,by dsimp only;omega,rfl,by rw[gx,fO],rfl⟩
 ·have d1:decide ((i:Int)<(D aP:Int))=false:=cA;obtain rfl:i=D aP:=by omega
  rw[mW] at bX BF;rw[<-JQ] at BF;have e3:=aGQ ⟨aP.flatten,g⟩ m ⟨BF,H.names⟩;dsimp only at e3;simp only[go_sem,go_sem_proc,yl,ym,pT,yn,az,bX,eJ,jU,fU,hm,d1,e3];rintro zc m' gI;obtain⟨xK,s,aF,zf,oi⟩:=gI;dsimp only at aF oi;subst xK oi;have apW:=aF.length_eq;have sX:=aGW ⟨s,g⟩ (a4 emp 289040 g (s.map bJ)) ⟨iy,by rw[apW];exact H.names⟩
  dsimp only at sX;have ja:=aGV zf;have heq:mu s=kp cs ps (D cash):=apU ja.1 (aHZ cs ps (D cash)).1 λx=>by rw[ja.2,aF.mem_iff];exact H.mem x
  rw[heq,apW] at sX;have apX:=aGv (kp cs ps (D cash)) (kp cs ps (D cash)) ⟨by omega,by omega⟩
  rw[h2 rfl] at apX;have DG:oK (s.map bJ)=true:=by unfold oK;rw[ld];intro x Q;obtain⟨y,-,rfl⟩:=ef.1 Q;rfl
  refine ai ?_;repeat' (intro h<;>simp only[h,go_sem,go_sem_proc,yl,ym,pT,yn,az,bX,eJ,jU,hm,sX,kO,apX,DG,List.set_cons_zero,iY,ar]<;>try refine ah ?_ ?_)
  done
def aH2 {α:Type}(l:List α)(p q:α->Bool):(l.filter λx=>p x||q x).length<=(l.filter p).length+(l.filter q).length:=by
 induction l with
 |nil=>simp
 |cons a l av =>
  simp only[List.filter_cons]
  cases p a<;>cases q a<;>simp<;>omega
def aH3 (n:Nat)(z:Int)(b:Bool):((dD n).filter λk:Nat=>(z==(k:Int))&&b).length<=1:=by
 induction n with
 |zero=>simp
 |succ n av =>
  rw[m5,ql,fO]
  by_cases h:((z==(n:Int))&&b)=true
  ·have au:(dD n).filter (λk:Nat=>(z==(k:Int))&&b)=[]:=by
    rw[Jz];intro k I G;simp only[eQ,beq_iff_eq] at h G;have:=gQ.1 I;omega
   have af:=nZ (λk:Nat=>(z==(k:Int))&&b) [n];rw[au]
   simpa using af
  ·have af:[n].filter (λk:Nat=>(z==(k:Int))&&b)=[]:=by
    rw[Jz];intro k I;rw[vY.1 I];exact h
   rw[af]
   simpa using av
def aH4 (l:List ao):U5 l 10<=D l:=by
 unfold U5
 induction l with
 |nil =>
  have:(dD 10).filter (zH [])=[]:=by rw[Jz];intro k _;simp[zH]
  rw[this];exact bM _
 |cons c l av =>
  have e:(λk=>zH (c::l) k)=λk:Nat=>((c.2.2.1==(k:Int))&&decide (c.2.2.2>0))||zH l k:=by
   funext k
   unfold zH;rw[List.any_cons]
  have F:=aH2 (dD 10) (λk:Nat=>(c.2.2.1==(k:Int))&&decide (c.2.2.2>0)) (zH l);have G:=aH3 10 c.2.2.1 (decide (c.2.2.2>0));have aD:(dD 10).filter (zH (c::l))=(dD 10).filter λk:Nat=>((c.2.2.1==(k:Int))&&decide (c.2.2.2>0))||zH l k:=by rw[<-e]
  rw[aD,hQ];omega
def aH5 (cs:List ao)(n:Nat):fj n (λi=>(cE cs i).length)<=D cs:=by
 induction cs with
 |nil=>exact Nat.le_of_eq (Ta λi _=>rfl)
 |cons c cs av =>
  have e:fj n (λi=>(cE (c::cs) i).length)=fj n (λi=>if c.1=(i:Int) then 1 else 0)+fj n λi=>(cE cs i).length:=by
   rw[<-S9];refine NU λi _=>?_;unfold cE
   by_cases h:c.1=(i:Int)
   ·rw[tr (by simpa using h),ab h,hQ];omega
   ·rw[u5 (by simpa using h),ae h];omega
  have F:fj n (λi=>if c.1=(i:Int) then 1 else 0)<=1:=Tb λi j J ag=>by omega
  rw[e,hQ];omega
def aH6 {n:Nat}{l:List Nat}(h:∀x∈l,x<n):(D l)<=fj n λi=>l.count i:=by
 induction l with
 |nil=>exact fy _
 |cons a l av =>
  have av:=av λx Q=>h x (g5 _ Q);have aO:=h a gK
  have e:fj n (λi=>(a::l).count i)=fj n (λi=>l.count i)+fj n λi=>if i=a then 1 else 0:=by
   rw[<-S9];refine NU λi _=>?_;rw[List.count_cons]
   by_cases J:i=a
   ·subst J;rw[ab rfl,ab (by simp)]
   ·rw[ae J,ae (by simpa using λh=>J h.symm)]
  have F:1<=fj n λi=>if i=a then 1 else 0:=by
   have:=aj2 (N:=n) (λi=>if i=a then 1 else 0) aO;rw[ab rfl] at this;omega
  rw[e,hQ];omega
def DO (cash:List Int)(cs:List ao):List (List Int):=(aB cash cs).hZ.map λr=>r.map λi:Nat=>(i:Int)
def apY (cash:List Int)(cs:List ao):(DO cash cs).flatten=(aB cash cs).hZ.flatten.map λi:Nat=>(i:Int):=by
 unfold DO;rw[List.map_flatten]
def jl (cash:List Int)(cs:List ao):List Rat:=cs.map λc=>fK cs ((aB cash cs).cW c.1.toNat) c
def aH7 (cash:List Int)(cs:List ao):(jl cash cs).map ax=iz cash cs:=by
 unfold jl iz;rw[mK];rfl
def acQ {cash:List Int}{cs:List ao}{i:Nat}:gh cs (jl cash cs) i=Bz cash cs i:=by
 unfold jl Bz;rw[aCM];refine mH λc H=>?_;rw[(n3.1 H).2,g9]
def acR {cash:List Int}{cs:List ao}(X:fv cash cs):wL cash cs (jl cash cs):=by
 have bt:=X.k3;have ht:=X.ts;refine⟨by unfold jl;rw[ar],by omega,by omega,λi=>X.own i,λx Q=>?_⟩
 obtain⟨c,H,rfl⟩:=ef.1 Q;have F:=((gN.1 X.right).2.2.2 c H)
 refine iV (aF8 (i:=c.1.toNat) X (ef.2 ⟨c,n3.2 ⟨H,by omega⟩,rfl⟩)) (by omega)
def acS {cash:List Int}{cs:List ao}(X:fv cash cs){i:Nat}(J:i<D cash):pO cs (jl cash cs) i<10↔(aB cash cs).cW i<(aB cash cs).U i 10:=by
 unfold pO;rw[acQ];exact aF9 X J
def aH8 {cash:List Int}{cs:List ao}(X:fv cash cs):acO cash cs (jl cash cs) (DO cash cs):=by
 obtain⟨bE,IQ⟩:=aAO X.ok;have kz:(aB cash cs).n=D cash:=rfl;have aH:=X.k3
 have aq:∀x∈(aB cash cs).hZ.flatten,x<D cash:=λx Q=>by
  obtain⟨l,ak,tT⟩:=List.mem_flatten.1 Q;exact (bE l ak).2.2 x tT
 have F:=aH6 aq
 have G:fj (D cash) (λi=>(aB cash cs).hZ.flatten.count i)<=fj (D cash) λi=>(cE cs i).length:=azb λi J=>by
  have bS:=(IQ i J).1;have cM:=aGa X i 10;have dj:=aH4 (cE cs i);omega
 have af:=aH5 cs (D cash);have aS:=X.ts
 have g2:(aB cash cs).hZ.length<=60:=by
  have:=ab7 (aB cash cs) (10*(aB cash cs).n) λ_=>10;unfold Day.hZ;omega
 refine⟨acR X,by unfold DO;rw[ar];omega,λr aa=>?_,?_,λx=>?_⟩
 ·obtain⟨l,ak,rfl⟩:=ef.1 aa;obtain⟨bS,cM,-⟩:=bE l ak;exact⟨by simpa using bS,List.pairwise_map.2 (cM.imp λh=>by omega)⟩
 ·rw[apY,ar];omega
 ·rw[apY];unfold kp Py;rw[ef,ef]
  constructor
  ·rintro⟨i,J,rfl⟩;refine⟨i,Bc.2 ⟨gQ.2 (aq i J),h2 ?_⟩,rfl⟩;exact (acS X (aq i J)).2 (((IQ i (aq i J)).2).2 (apZ.2 J))
  ·rintro⟨i,J,rfl⟩;obtain⟨bS,cM⟩:=Bc.1 J;have bS:=gQ.1 bS;exact⟨i,apZ.1 (((IQ i bS).2).1 ((acS X bS).1 (of_decide_eq_true cM))),rfl⟩
def aH9 (cash:List Int)(cs:List ao):(DO cash cs).map vb=(aB cash cs).hZ.map o6:=by
 unfold DO;rw[mK];refine mH λr _=>?_;unfold o6;show vb (r.map λi:Nat=>(i:Int))=_;unfold vb;rw[mK]
 rfl
end Go.Mini
namespace Go.Mini
open Classical
def aIa {d:Day}(Y:d.df){C:Nat->Prop}(F:∃i,C i)(G:∀i,C i->i<d.n/\d.cW i<d.U i 10):¬ d.closed d.jC C:=by
 intro af;obtain⟨g,J,zn,hle⟩:=JA Y;have sO:∀i,C i->i<d.n/\d.jC i<10:=λi h=>⟨(G i h).1,((F7 Y).2 i (G i h).1).2 (G i h).2⟩;have fp:=Tj Y
 have k:=J.aap Y F sO af (d.q d.jC d.cW) (λk=>d.cW k-d.U k (d.jC k)) (λk I _=>by have:=fp k I;grind) λc H _=>by
  have bw:=Y.aE c H;have hw:=Y.qj H;have aH:=fp c.aE bw;unfold Day.q
  by_cases eU:c.rk<d.jC c.aE
  ·rw[ab eU,ab eU,ae (λh=>by have:=h.2;omega)];grind
  ·rw[ae eU,ae eU]
   by_cases ey:c.rk=d.jC c.aE
   ·rw[ab ey,ab ey]
    by_cases gT:C c.aE
    ·rw[ab ⟨gT,ey⟩];unfold Day.cap;rw[ab gT,ey,tl (by grind)];have e:d.U c.aE (d.jC c.aE)-d.U c.aE (d.jC c.aE)=0:=by grind
     rw[e,tl gg,oZ,Rat.zero_add];exact gg
    ·rw[ae (λh=>gT h.1),rf];unfold Day.cap;rw[ae gT];exact Da hw (aam (by have:=hle c.aE bw;grind))
   ·rw[ae ey,ae ey,ae (λh=>ey h.2)];grind
 have az:d.gl C (d.fb (d.q d.jC d.cW))=d.gl C d.cW:=Day.FR λi J _=>(zn i J).symm;have aD:(d.gl C λi=>d.U i (d.jC i)+(d.cW i-d.U i (d.jC i)))=d.gl C d.cW:=Day.FR λi _ _=>by grind
 rw[az,aD] at k;grind
end Go.Mini
namespace Go.Mini
open Go
def rJ (f:Nat->Int):Nat->Int
 |0=>0
 |k+1=>if rJ f k=0 then f k else rJ f k
def ap0 {f:Nat->Int}{k:Nat}(h:rJ f k=0)(I:f k≠0):∀{n:Nat},k<n->rJ f n=f k
 |0,h=>by omega
 |n+1,aH=>by
  by_cases e:k=n
  ·subst e;rw[rJ,ab h]
  ·have:=ap0 h I (n:=n) (by omega);rw[rJ,this,ae I]
def aIb {f:Nat->Int}{n:Nat}(h:rJ f n=0):∀i,i<n->f i=0:=by
 induction n with
 |zero=>intro i J;omega
 |succ n av =>
  rw[rJ] at h
  split at h
  ·rename_i au;intro i J
   by_cases e:i=n
   ·subst e;exact h
   ·exact av au i (by omega)
  ·rename_i au;exact absurd h au
def aIc {f:Nat->Int}{n:Nat}(h:∀i,i<n->f i=0):rJ f n=0:=by
 induction n with
 |zero=>rfl
 |succ n av=>rw[rJ,ab (av λi J=>h i (by omega))];exact h n (by omega)
def VP (cash:List Int)(cs:List ao)(aY ps:List Rat):Int :=
 if BD cash cs (aY.map ax) (ps.map ax)=true then
  (if rJ (tM cash cs aY ps) (D cash)=0 then (if (jk cs ps (kp cs ps (D cash)) (D cash)).length=0 then 0 else 24) else rJ (tM cash cs aY ps) (D cash))
 else 1
structure ap1 (cash:List Int) (cs:List ao) (aY ps:List Rat) (aP:List (List Int)):Prop where
 n:(D cash)<=1000000
 c:(D cs)<=1000000
 h:mZ (aY.map ax)
 p:mZ (ps.map ax)
 sum:BD cash cs (aY.map ax) (ps.map ax)=true->∀i,i<(D cash)->acK cash cs aY ps i
 NO:BD cash cs (aY.map ax) (ps.map ax)=true->(∀i,i<(D cash)->tM cash cs aY ps i=0)->acO cash cs ps aP
abbrev VQ:(List Int)×(List ao)×(List Rat)×(List Rat)×(List (List Int))->List Data:=λ(cash,cs,aY,ps,aP)=>[.ay (cash.map aC),.ay (cs.map bW),.agg [.ay ((aY.map ax).map aU),.ay ((ps.map ax).map aU),.ay (aP.map vb)]]
def PE:=bU VQ λ(cash,cs,aY,ps,aP)=>cp (ap1 cash cs aY ps aP) (.same (.int .i64 (VP cash cs aY ps)))
def aId:∀a b,VQ a=VQ b->a=b:=by
  rintro⟨tD,vc,s6,OM,Gn⟩ ⟨tE,oh,Ik,ON,Gp⟩ h;simp only[bh,Data.agg.injEq,Data.ay.injEq,and_true] at h;obtain⟨F,G,af,aS,bt⟩:=h;rw[map_inj fq _ _ F,map_inj u7 _ _ G,map_inj (λ_ _ aX=>se aX) _ _ (map_inj nq _ _ af),map_inj (λ_ _ aX=>se aX) _ _ (map_inj nq _ _ aS),map_inj anw _ _ bt]
@[go_sem] def aIe (cash cs aY ps aP):=cz PE rfl aId (cash,cs,aY,ps,aP) rfl
def aIf (T:ba)(DP:T XN=aQ VJ)(DQ:T XO=aQ VL)(DR:T XP=aQ VO)(DS:T XQ=aQ VB):WF T ahD PE:=by
 refine cf λ(cash,cs,aY,ps,aP)=>cG λH=>⟨rfl,b7 ?_⟩;simp only[ahD,VQ,b1];have aa:=aHG cash cs (aY.map ax) (ps.map ax) aP ⟨H.n,H.c,H.h,H.p⟩;have nO:=H.sum;have acT:=H.NO;have aP8:=H.n;clear H;unfold VP;rcases gI:BD cash cs (aY.map ax) (ps.map ax)
 ·rw[gI] at aa;rw[ae (by decide)];simp only[gz] at aa;generalize aY.map ax=HQ at *;generalize ps.map ax=VN at *;refine ai ?_;repeat' (intro (aw:_=_)<;>simp only[aw,go_sem,go_sem_proc,DP,DQ,DR,DS,aa,dd]<;>try refine ah ?_ ?_)
 rw[gI] at aa;rw[ab rfl];have X:=λi J=>aHN cash cs aY ps aP i (nO gI i J);have aK:=λh=>aH0 cash cs (aY.map ax) ps aP (acT gI h);have kM:=λh=>aHv cash cs (aY.map ax) ps aP (acT gI h).GN;clear nO acT;have c9:=λk F G af=>ap0 (f:=tM cash cs aY ps) (k:=k) F G (n:=D cash) af;have nx:=aIb (f:=tM cash cs aY ps) (n:=D cash);have Bl:∀k,rJ (tM cash cs aY ps) (k+1)=if rJ (tM cash cs aY ps) k=0 then tM cash cs aY ps k else rJ (tM cash cs aY ps) k:=λk=>rfl;generalize (jk cs ps (kp cs ps (D cash)) (D cash)).length=aIg at *;generalize tM cash cs aY ps=VR at *;generalize aY.map ax=HQ at *;generalize ps.map ax=VN at *;simp only[gz] at aa X aK kM;simp only[go_sem,go_sem_proc,DP,DQ,DR,DS,aa,cF,ar];refine da [7,18] [286007] (λ(k:Nat) tm m=>k<=D cash/\tm 19=.M (.int .i64 k)/\rJ VR k=0) (λk=>D cash-k) 0 (by refine⟨by omega,rfl,rfl⟩) ?_;intro vs ms aW aR;simp only[go_sem,go_sem_proc,DP,DQ,DR,DS,ar] at aW aR;subst aW aR;rintro k tm m I hm ⟨qH,Bx,aV⟩;simp only[go_sem,go_sem_proc,DP,DQ,DR,DS,bh] at I hm;obtain⟨cg,lQ⟩:=I;rcases dq (k<D cash) with aq|ca
 ·have d1:decide ((k:Int)<(D cash:Int))=true:=cX;have ct:=e0 (i:=k) (by omega);have X:=X k aq;have oF:=Bl k;rw[ab aV] at oF;rcases q:(VR k==0)
  ·have bE:VR k≠0:=ne_of_beq_false q;have F:=c9 k aV bE aq;rw[F,ae bE];refine ai ?_;repeat' (intro (aw:_=_)<;>simp only[aw,go_sem,go_sem_proc,DP,DQ,DR,DS,cg,lQ,Bx,hm,X,d1,q,bne,dd]<;>try refine ah ?_ ?_)
  ·have he:VR k=0:=eq_of_beq q;refine ai ?_;repeat' (intro (aw:_=_)<;>simp only[aw,go_sem,go_sem_proc,DP,DQ,DR,DS,cg,lQ,Bx,hm,X,d1,ct,q,bne,cF]<;>try refine ah ?_ ?_)
   exact⟨k+1,by omega,by omega,rfl,by rw[oF,he]⟩
 ·have d1:decide ((k:Int)<(D cash:Int))=false:=cA;obtain rfl:k=D cash:=by omega
  have aK:=aK (nx aV);have kM:=kM (nx aV);rw[ab aV];rcases q:decide ((aIg:Int)>0)
  ·rw[ab (by have:=of_decide_eq_false q;omega)];refine ai ?_;repeat' (intro (aw:_=_)<;>simp only[aw,go_sem,go_sem_proc,DP,DQ,DR,DS,cg,lQ,Bx,hm,aK,kM,d1,q,cF]<;>try refine ah ?_ ?_)
  ·rw[ae (by have:=of_decide_eq_true q;omega)];refine ai ?_;repeat' (intro (aw:_=_)<;>simp only[aw,go_sem,go_sem_proc,DP,DQ,DR,DS,cg,lQ,Bx,hm,aK,kM,d1,q,cF]<;>try refine ah ?_ ?_)
def aIh {l:List ao}{q:Nat->Rat}{k i:Nat}{c:ao}(J:i<k)(H:l[i]?=some c)(aY:q i<(c.2.2.2:Rat)):ih l q k<=c.2.2.1:=by
 induction k with
 |zero=>omega
 |succ k av =>
  have e:ih l q (k+1)=match l[k]? with|some c=>if q k<(c.2.2.2:Rat) then min (ih l q k) c.2.2.1 else ih l q k|none=>ih l q k:=rfl
  rw[e]
  by_cases he:i=k
  ·subst he;rw[H];dsimp only;rw[ab aY];exact Int.min_le_right ..
  ·have av:=av (by omega)
   split
   ·split
    ·exact Int.le_trans (Int.min_le_left ..) av
    ·exact av
   ·exact av
def aIi {l:List ao}{q:Nat->Rat}{k:Nat}(h:ih l q k<10):∃i,i<k/\∃c,l[i]?=some c/\q i<(c.2.2.2:Rat)/\ih l q k=c.2.2.1:=by
 induction k with
 |zero=>exact absurd h (show ¬ (10:Int)<10 by decide)
 |succ k av =>
  have e:ih l q (k+1)=match l[k]? with|some c=>if q k<(c.2.2.2:Rat) then min (ih l q k) c.2.2.1 else ih l q k|none=>ih l q k:=rfl
  rw[e] at h ⊢
  cases I:l[k]? with
  |none =>
   rw[I] at h;obtain⟨i,F,G⟩:=av h;exact⟨i,by omega,G⟩
  |some c =>
   rw[I] at h;dsimp only at h ⊢
   by_cases aY:q k<(c.2.2.2:Rat)
   ·rw[ab aY] at h ⊢
    by_cases hm:ih l q k<c.2.2.1
    ·have aD:min (ih l q k) c.2.2.1=ih l q k:=Int.min_eq_left (by omega);rw[aD] at h ⊢;obtain⟨i,F,G⟩:=av h;exact⟨i,by omega,G⟩
    ·exact⟨k,by omega,c,I,aY,Int.min_eq_right (by omega)⟩
   ·rw[ae aY] at h ⊢;obtain⟨i,F,G⟩:=av h;exact⟨i,by omega,G⟩
def aIj {cash:List Int}{cs:List ao}(X:fv cash cs){ps:List Rat}{x:Nat->Rat}{i:Nat}(J:i<D cash)(gk:gh cs ps i=(cE cs i).map λc=>fK cs (x i) c){r:Nat}(aa:r<10)(fB:(aB cash cs).U i r<=x i)(uF:x i<(aB cash cs).U i (r+1)):pO cs ps i<10/\tC cs ps i=(r:Int):=by
 have Y:=X.ok
 have lU:∀c∈cE cs i,fK cs (x i) c=(aB cash cs).hd x (cD c):=λc H=>by
  obtain⟨F,G⟩:=n3.1 H;rw[JC X.right _ F,G,g9]
 have kR:∀(k:Nat) (c:ao),(cE cs i)[k]?=some c->(gh cs ps i).getD k 0=(aB cash cs).hd x (cD c):=λk c H=>by
  rw[<-lU c (dZ H),gk,ei,bo,H];rfl
 have cB:0<(aB cash cs).S i r:=by
  rw[(aB cash cs).tk] at uF;grind
 obtain⟨b,ad,c6,eB,jA⟩:=(alV Y i _).1 cB;obtain⟨c',l4,rfl⟩:=ef.1 ad;have aP9:=(gN.1 X.right).2.2.2 c' l4;have aQa:c'.1.toNat=i:=c6;have aQb:c'.2.2.1.toNat=r:=eB;have oi:c'∈cE cs i:=n3.2 ⟨l4,by omega⟩
 obtain⟨k',Ns,K7⟩:=Le oi;have ap2:(cE cs i)[k']?=some c':=by rw[bn Ns,K7]
 have aq:(gh cs ps i).getD k' 0<(c'.2.2.2:Rat):=by
  rw[kR k' c' ap2];show (aB cash cs).hd x (cD c')<(cD c').am;unfold Day.hd;rw[c6,eB,ae (by grind)];have hw:=Y.NJ ad jA
  have aQc:(aB cash cs).w (cD c')*(aB cash cs).S i r=(cD c').am:=by
   have h:=Day.C9 (d:=aB cash cs) (c:=cD c') (by rw[c6,eB];exact cB);rw[c6,eB] at h;exact h
  have b2:=Rat.mul_lt_mul_of_pos_left (show x i-(aB cash cs).U i r<(aB cash cs).S i r by rw[(aB cash cs).tk] at uF;grind) hw;rw[tl (by grind)];grind
 have G:pO cs ps i<=c'.2.2.1:=aIh (q:=λk=>(gh cs ps i).getD k 0) Ns ap2 aq;have kO:pO cs ps i<10:=by omega
 refine⟨kO,?_⟩;unfold tC;rw[ab kO];unfold pO at kO G ⊢;obtain⟨k,I,c,H,aY,he⟩:=aIi kO;have hm:=n3.1 (dZ H);have mC:=(gN.1 X.right).2.2.2 c hm.1;have bw:(cD c).aE=i:=by show c.1.toNat=i;omega
 rw[kR k c H] at aY
 have F:¬ (cD c).rk<r:=λaq=>by
  have lU:(aB cash cs).hd x (cD c)=(cD c).am:=by
   unfold Day.hd;rw[ab];rw[bw];have:=Y.uW i (show (cD c).rk+1<=r from aq);grind
  rw[lU] at aY;exact absurd aY Rat.lt_irrefl
 have az:(cD c).rk=c.2.2.1.toNat:=rfl;omega
def aIk {cash:List Int}{cs:List ao}(X:fv cash cs){i:Nat}(J:i<D cash)(h:(aB cash cs).cW i<(aB cash cs).U i 10):tC cs (jl cash cs) i=((aB cash cs).jC i:Int):=by
 have Y:=X.ok;obtain⟨g,hinv,-,hle⟩:=JA Y;have aK:=((F7 Y).2 i J).2 h
 exact (aIj X (x:=(aB cash cs).cW) J acQ aK (Tj Y i J) (by
  have F:=hinv.J i J aK;have G:=hle i J;grind)).2
def ap3 {cs:List ao}{ps:List Rat}{set L:List Int}{x:Int}:x∈stay cs ps set L↔x∈L/\wK cs ps set x=false:=by
 unfold stay;rw[Bc,nS]
def ap4 {cs:List ao}{ps:List Rat}{s:List Int}{x:Int}:∀k,x∈jk cs ps s k->x∈s
 |0,h=>h
 |k+1,h=>ap4 k (ap3.1 h).1
def ap5 (cs:List ao)(ps:List Rat)(s:List Int):∀k,stay cs ps (jk cs ps s k) (jk cs ps s k)=jk cs ps s k\/(jk cs ps s k).length+k<=D s
 |0 => .inr (bM _)
 |k+1=>by
  have e:jk cs ps s (k+1)=stay cs ps (jk cs ps s k) (jk cs ps s k):=rfl;rcases dq (stay cs ps (jk cs ps s k) (jk cs ps s k)=jk cs ps s k) with h|h
  ·left;rw[e,h];exact h
  ·rcases ap5 cs ps s k with F|F
   ·exact absurd F h
   ·right
    have G:=apQ cs ps (jk cs ps s k) (jk cs ps s k);have af:(stay cs ps (jk cs ps s k) (jk cs ps s k)).length≠(jk cs ps s k).length:=λaf=>h (List.Sublist.eq_of_length List.filter_sublist af);rw[e];omega
section
variable {cash:List Int} {cs:List ao} (X:fv cash cs)
include X
def aIl:(jk cs (jl cash cs) (kp cs (jl cash cs) (D cash)) (D cash)).length=0:=by
 have fL:∀x,x∈kp cs (jl cash cs) (D cash)->∃i:Nat,x=(i:Int)/\i<D cash/\(aB cash cs).cW i<(aB cash cs).U i 10:=λx Q=>by
  unfold kp Py at Q;obtain⟨i,J,rfl⟩:=ef.1 Q;obtain⟨bS,cM⟩:=Bc.1 J;have bS:=gQ.1 bS;exact⟨i,rfl,bS,(acS X bS).1 (of_decide_eq_true cM)⟩
 have Ld:=Vt cs (jl cash cs) (D cash);have nn:=λx=>ap4 (cs:=cs) (ps:=jl cash cs) (s:=kp cs (jl cash cs) (D cash)) (x:=x) (D cash);rcases ap5 cs (jl cash cs) (kp cs (jl cash cs) (D cash)) (D cash) with h|h
 ·generalize jk cs (jl cash cs) (kp cs (jl cash cs) (D cash)) (D cash)=C at *;rcases C with _|⟨y,C⟩
  ·rfl
  refine absurd ?_ (aIa X.ok (C:=λi=>(i:Int)∈y::C) ?_ ?_)
  ·intro b ad gT gy uZ;obtain⟨c,H,rfl⟩:=ef.1 ad;have mC:=(gN.1 X.right).2.2.2 c H;have bw:(((cD c).aE:Nat):Int)=c.1:=by show ((c.1.toNat:Nat):Int)=c.1;omega
   rw[bw] at gT;have I:c.1∈stay cs (jl cash cs) (y::C) (y::C):=by rw[h];exact gT
   have ak:=(ap3.1 I).2;obtain⟨i,az,aD,bX⟩:=fL c.1 (nn _ gT);have he:=aIk X aD bX;have J:(cD c).aE=i:=by omega
   rw[J] at gy;unfold wK at ak;rw[uL] at ak;have ak:=ak c H;have aIm:(0:Rat)<(c.2.2.2:Rat):=uZ;have aIn:0<c.2.2.2:=by exact_mod_cast aIm
   have aQd:c.2.2.1.toNat=(aB cash cs).jC i:=gy;have aV:c.2.2.1=tC cs (jl cash cs) c.1:=by rw[az,he];omega
   have wE:c.2.1∈y::C:=Decidable.byContradiction λfp=>ak (by
    simp only[beq_self_eq_true,g4,eQ,beq_iff_eq,decide_eq_true_eq,nS,decide_eq_false_iff_not];exact⟨aV,aIn,fp⟩)
   obtain⟨j,J9,yG,aDU⟩:=fL c.2.1 (nn _ wE);exact⟨j,J9,by show (j:Int)∈y::C;rw[<-J9];exact wE⟩
  ·obtain⟨i,az,aD,bX⟩:=fL y (nn y (by simp));exact⟨i,by show (i:Int)∈y::C;rw[<-az];simp⟩
  ·intro i J;obtain⟨j,az,aD,bX⟩:=fL i (nn i J);obtain rfl:i=j:=by omega
   exact⟨aD,bX⟩
 ·omega
def zK (cash:List Int)(cs:List ao):List Rat:=(dD (D cash)).map (aB cash cs).cW
omit X in
def aIo:(zK cash cs).map ax=ny cash cs:=rfl
omit X in
def ap6 {i:Nat}(J:i<D cash):(zK cash cs).getD i 0=(aB cash cs).cW i:=Bp (aB cash cs).cW 0 J
omit X in
def aIp (z:Int)(i:Int)(aL:ao->Rat)(l:List ao)(a:Option Rat):(l.zip (l.map aL)).foldl (zJ i) a=l.foldl (λa c=>if c.2.1=i then a.bind λs=>if mX s (aL c)=true then some (s+aL c) else none else a) a:=by
 induction l generalizing a with
 |nil=>rfl
 |cons c l av=>rw[eu,List.zip_cons_cons,Hm,Hm,av];rfl
def aIq {i:Nat}(J:i<D cash):vi (cash.getD i 0) i (cs.zip (jl cash cs))=some ((aB cash cs).cW i):=by
 have h:=ao5 X i J;unfold vi jl;rw[aIp (cash.getD i 0)];exact h
omit X in
def aIr {aY ps:List Rat}(aa:hY cash cs=true)(eH:(D aY)=D cash)(aI:(D ps)=D cs)(iG:∀x∈aY,0<=x/\dc x)(h9:∀x∈ps,0<=x/\dc x):BD cash cs (aY.map ax) (ps.map ax)=true:=by
 obtain⟨F,G,af,aS⟩:=gN.1 aa;unfold hY at aa;simp only[eQ] at aa;obtain⟨⟨-,PF⟩,Kd⟩:=aa
 have wF:∀l:List Rat,(∀x∈l,0<=x/\dc x)->(l.map ax).all BC=true:=λl ak=>by
  rw[ld];intro f aK;obtain⟨x,Q,rfl⟩:=ef.1 aK;obtain⟨bS,cM⟩:=ak x Q;unfold BC;rw[Jw cM,g4];have:decide (x<0)=false:=lZ (by grind);rw[<-alS] at this;have dj:=of_decide_eq_false this;exact h2 (show x.num.sign>=0 by omega)
 unfold BD;have ep:cash.all gW=true:=PF;have c6:decide ((D cash:Int)>60)=false:=cA;have eB:decide ((D cs:Int)>2000)=false:=cA;rw[ar,ar,eH,aI,ep,Kd,wF aY iG,wF ps h9,c6,eB];simp
def aIs:BD cash cs ((zK cash cs).map ax) ((jl cash cs).map ax)=true:=by
 refine aIr X.right (by unfold zK;simp) (by unfold jl;simp) (λx Q=>?_) λx Q=>?_
 ·obtain⟨i,J,rfl⟩:=ef.1 Q;have ku:=gQ.1 J;exact⟨N8 X.ok ku,iV (Gb X ku) (by omega)⟩
 ·obtain⟨c,H,rfl⟩:=ef.1 Q;rw[<-JC X.right _ H];exact⟨X.ok.aas _ (u2 H),iV (Tt X H) (by omega)⟩
def aIt {i:Nat}(J:i<D cash):acK cash cs (zK cash cs) (jl cash cs) i:=by
 refine⟨acR X,J,by unfold zK;simp,λx Q=>?_,?_,λx Q he=>?_⟩
 ·obtain⟨j,ag,rfl⟩:=ef.1 Q;exact iV (Gb X (gQ.1 ag)) (by omega)
 ·have:=X.cash i
  constructor<;>omega
 ·rw[he,ap6 J];exact⟨X.own i,N8 X.ok J,(Gb X J).mono (by omega)⟩
def aIu {i:Nat}(J:i<D cash):tM cash cs (zK cash cs) (jl cash cs) i=0:=by
 unfold tM;rw[aIq X J];dsimp only;rw[ab];refine⟨(ap6 J).symm,?_⟩;rw[acQ];unfold Bz;exact mH λc H=>(al4 (n3.1 H).2).symm
def aIv:ap1 cash cs (zK cash cs) (jl cash cs) (DO cash cs):=by
 have aH:=X.k3;have ht:=X.ts
 have G:mZ ((jl cash cs).map ax):=by
  refine⟨by unfold jl;simp;omega,λf aK=>?_⟩
  obtain⟨x,Q,rfl⟩:=ef.1 aK;exact m1 ((acR X).Dl x Q)
 exact⟨by omega,by omega,apf X,G,λ_ i J=>aIt X J,λ_ _=>aH8 X⟩
def aIw:VP cash cs (zK cash cs) (jl cash cs)=0:=by
 unfold VP;rw[ab (aIs X),ab (aIc λi J=>aIu X J),ab (aIl X)]
def ap7:PE [.ay (cash.map aC),.ay (cs.map bW),.agg [.ay ((ny cash cs).map aU),.ay ((iz cash cs).map aU),.ay ((aB cash cs).hZ.map o6)]]=some (.same (.int .i64 0)):=by
 have h:=aIe cash cs (zK cash cs) (jl cash cs) (DO cash cs) (aIv X);rw[aIo,aH7,aH9,aIw X] at h;exact h
end
def acU {k g:Nat}{cs:List ao}{mem:Mem}(hm:mem k=some (g,a6 bW cs))(I:k<200000\/300000<=k):ru (.ref k g 4 0 (D cs)) cs mem:=⟨rfl,λt c H=>by
 have aq:=(dK.1 H).1;refine⟨.ptr k g (0+t*4),?_,λm he=>?_⟩
 ·simp only[vm];rw[ab ⟨aq,trivial⟩]
 ·obtain⟨a,b,c,d⟩:=c;simp only[pc,he k I,hm,if_true,cut,ks];rw[ab (by rw[lj n0];omega),aci H]
  rfl⟩
structure acV (x:List Int×List ao×Nat×Nat) (mem:Mem):Prop where
 ok:O7 x.1 x.2.1
 no:ye mem
 at_:mem x.2.2.1=some (x.2.2.2,a6 bW x.2.1)
 out:x.2.2.1<200000\/300000<=x.2.2.1
def Kz:List O->Mem->Option Data:=Bf (λ(x:List Int×List ao×Nat×Nat) args mem=>args=[.M (.ay (x.1.map aC)),.ref x.2.2.1 x.2.2.2 4 0 x.2.1.length]/\acV x mem) λx=>sx x.1 x.2.1
def ap8 (cash:List Int)(cs:List ao)(k g:Nat)(mem:Mem)(h:acV (cash,cs,k,g) mem):Kz [.M (.ay (cash.map aC)),.ref k g 4 0 (D cs)] mem=some (sx cash cs):=by
 refine Od (a:=(cash,cs,k,g)) ?_ ⟨rfl,h⟩;rintro⟨a,b,c,d⟩ ⟨j2,fk,c',xb⟩ args mem ⟨az,bS⟩ ⟨bX,dj⟩;rw[az] at bX;simp only[bh,O.M.injEq,Data.ay.injEq,O.ref.injEq,and_true,true_and] at bX;obtain⟨F,G,af,aS⟩:=bX;subst G af;have eU:=acU bS.at_ bS.out;have PF:=acU dj.at_ dj.out;dsimp only at eU PF;rw[<-aS] at PF;show sx a b=sx j2 fk;rw[map_inj fq _ _ F,eU.uniq PF]
def aIx (T:ba)(GC:T HO=aQ Gu)(Ke:T LW=ns OG)(DF:T HP=ns Gh)(kG:T om=aQ ss)(eK:T kP=aQ pz)(rv:T uv=aQ wN)(GD:T LX=pL Kc)(x:List Int×List ao×Nat×Nat)(mem:Mem)(aO:acV x mem):
  wp T wb.body (me wb.res λm mem'=>b5 6 emp m=some (sx x.1 x.2.1)/\∀j:Nat,¬ (j/1000=217\/j/1000=228)->mem' j=mem j) ⟨iC [.M (.ay (x.1.map aC)),.ref x.2.2.1 x.2.2.2 4 0 x.2.1.length],mem⟩:=by
 obtain⟨cash,cs,k,g⟩:=x;obtain⟨H,fp,bH,O5⟩:=aO;dsimp only at H bH O5 ⊢;refine aow T GC Ke DF kG eK rv GD cash cs H _ mem fp (acU bH O5) ?_;rw[GC];have I:(a4 mem 217004 0 [.nil,.nil,.nil]) k=some (g,a6 bW cs):=(c1 (by omega)).trans bH;have s7:b5 6 (a4 mem 217004 0 [.nil,.nil,.nil]) (.ref k g 4 0 (D cs))=some (.ay (cs.map bW)):=pj (n:=5) n0 I;have acH:b5 6 emp (.ref k g 4 0 (D cs))=none:=rfl;unfold aQ;simp only[kr,VA,LA,s7,acH];show Lz Gu (some [.ay (cash.map aC),.ay (cs.map bW)])=_;simp only[go_sem,go_sem_proc,H.n,H.c];rw[ab (by simp[scalar])]
def PG (aL:List Data->Option dx)(N:List O->Mem->Option Data)(args:List O)(mem:Mem):Option (List Data)->Option gB
 |some ds=>(aL ds).map Hy
 |none=>pL N args mem
def PH (aL:List Data->Option dx)(N:List O->Mem->Option Data)(args:List O)(mem:Mem):Option gB:=PG aL N args mem (args.mapM (b5 6 emp))
@[go_sem] def aQe (aL:List Data->Option dx)(N:List O->Mem->Option Data)(args:List O)(mem:Mem):PH aL N args mem=PG aL N args mem (args.mapM (b5 6 emp)):=bq
@[go_sem] def aQf (aL:List Data->Option dx)(N:List O->Mem->Option Data)(args:List O)(mem:Mem)(ds:List Data):PG aL N args mem (some ds)=(aL ds).map Hy:=bq
@[go_sem] def aQg (aL:List Data->Option dx)(N:List O->Mem->Option Data)(args:List O)(mem:Mem):PG aL N args mem none=pL N args mem:=bq
def aIy {P:Program}{f:FuncId}{aL:List Data->Option dx}{N:List O->Mem->Option Data}(eW:qJ P f aL)(gi:iO P f (pL N)):iO P f (PH aL N):=by
 refine⟨eW.real,λargs mem oe g7 A w B vs bR aA=>?_⟩;unfold PH at g7
 cases gp:args.mapM (b5 6 emp) with
 |none=>rw[gp] at g7;exact gi.run args mem oe g7 A w B vs bR aA
 |some ds =>
  rw[gp] at g7;simp only[PG,Option.map_eq_some_iff] at g7;obtain⟨r,aa,rfl⟩:=g7;have H:=eW.run ds r aa (b4 A B) w vs (λb ad=>ad.elim (λh=>bR.w0 h) (bR.lt b)) (WX gp aA λm v r=>Ly 6 m v r)
  cases r with
  |same r=>exact H
  |own sz es=>exact H
def aIz {at_:Nat}{n:Nat}(h:0<n):((at_:Int)).tmod (n:Int)=((at_%n:Nat):Int):=by
 rw[Int.tmod_eq_emod_of_nonneg (by omega)];rfl
def aIA {x y:Rat}:decide (je x y>0) = !decide (x<=y):=by
 rw[<-UX,kd,decide_eq_true_iff,nS,decide_eq_false_iff_not];omega
def aIB {x y:Rat}:(je x y==0)=decide (x=y):=by
 have F:=UX (x:=x) (y:=y);have G:=N9 (x:=x) (y:=y);rw[kd,decide_eq_true_iff,decide_eq_true_iff] at F G;rw[kd,beq_iff_eq,decide_eq_true_iff]
 constructor
 ·intro h;have a:=F.1 (by omega);apply kE;intro bE;have:=G.2 (by grind);omega
 ·intro h;have a:=F.2 (by rw[h];exact gg);apply kE;intro bE;have:=G.1 (by omega);grind


def aFd:List ao:=[(1,0,0,5),(0,1,0,5)]
section
variable {cash:List Int} {cs:List ao} (X:fv cash cs)
include X
end
def aIC {x:Rat}:xF false x=(eA,6):=rfl
def aID {x:Rat}:xF true x=(ax x,0):=rfl
def GP {α β:Type}(f:α->Option β):(none:Option α).bind f=none:=bq
def ap9:ye emp:=λ_ _ _=>rfl
def DT {m:Mem}{k g:Nat}{cs:List O}(I:300000<=k):ye (a4 m k g cs)=ye m:=propext ⟨λh j F G=>(c1 (by omega)).symm.trans (h j F G),λh j F G=>(c1 (by omega)).trans (h j F G)⟩
abbrev VS:(List Int)×(List ao)×(List Int)×Int×Int×Nat->List Data:=λ(cash,cs,is,aj,rk,a)=>[.agg (dB cash cs is aj rk),.int .u8 (a:Int)]
def VT:=bU VS λ(cash,cs,is,aj,rk,a)=>cp (a<=255) (.same (.bool true))
def aIE:∀a b,VS a=VS b->a=b:=by
  rintro⟨tD,vc,ab9,aca,acb,cH⟩ ⟨tE,oh,acd,ace,acf,cY⟩ h;simp only[bh,Data.agg.injEq,Data.int.injEq,and_true,true_and] at h;obtain⟨cr,b6⟩:=h;obtain⟨rfl,rfl,rfl,rfl,rfl⟩:=UI cr;rw[Int.ofNat.inj b6]
@[go_sem] def aIF (cash cs is aj rk a):=cz VT rfl aIE (cash,cs,is,aj,rk,a) rfl
def aIG (T:ba)(wS:T X4=aQ Vc)(wT:T X6=aQ U7)(wU:T X5=aQ U6)(lX:T yN=aQ GG)(wV:T QT=aQ UQ)(mq:T Ak=aQ GJ)(pR:T EK=aQ Ko)(wW:T QU=aQ US)(wX:T uu=PH Bw Kz)(wY:T QQ=aQ PE)(tI:T HJ=aQ Fy)(oG:T EL=aQ Kp)(jd:T vG=aQ v9)(eK:T kP=aQ pz)(tJ:T L7=aQ Pl):WF T api VT:=by
 refine cf λ(cash,cs,is,aj,rk,a)=>cG λH=>⟨rfl,b7 ?_⟩;simp only[api,VS,b1];have zw:=aGp;have cr:=aGf cash cs is aj rk;have bN:=aGh cash cs is aj rk;simp only[dB] at cr bN;rcases aK:Po cash cs is
 ·rw[aK] at cr;refine ai ?_;repeat' (intro (aw:_=_)<;>simp only[aw,go_sem,go_sem_proc,wS,wT,wU,lX,wV,mq,pR,wW,wX,wY,tI,oG,jd,eK,tJ,zw,cr,bN,dB,dd]<;>try refine ah ?_ ?_)
 rw[aK] at cr;obtain⟨H,g3⟩:=aGe aK;have DB:=UL cash cs is aj rk H;have vd:=aFm cash cs is aj rk H;rcases h1:h0 cash cs is aj rk
 ·rw[h1] at DB vd;simp only[dB] at DB vd;refine ai ?_;repeat' (intro (aw:_=_)<;>simp only[aw,go_sem,go_sem_proc,wS,wT,wU,lX,wV,mq,pR,wW,wX,wY,tI,oG,jd,eK,tJ,zw,cr,bN,DB,vd,dB,beq_self_eq_true,dd,cF]<;>try refine ah ?_ ?_)
 rw[h1] at DB vd;have hg:=GF.1 h1;have bE:=hg.ne;have nF:=H;obtain⟨aH,ht,AK⟩:=H;have hD:a%(D is)<D is:=Nat.mod_lt _ bE;have aIH:IntKind.i64.wrap (a:Int)=(a:Int):=by rw[ev _]
 have wr:(a:Int).tmod (D is:Int)=((a%(D is):Nat):Int):=aIz bE;have GI:(D is:Int)≠0:=by omega
 generalize a%(D is)=k at *;have iG:=UU cash cs is aj rk nF;have h9:=acn cash cs is aj rk k nF;have kC:=acp cash cs is aj rk k nF;have kZ:=ao4 cash cs is aj rk k nF;have aqa:=ao1 cash cs is aj rk (-1) ⟨nF,h1⟩;have aqb:=ao1 cash cs is aj rk k ⟨nF,h1⟩;unfold Km at iG;unfold Pj at h9;unfold Pk at kC;unfold UW at kZ;rw[ab h1] at iG h9 kC kZ;rw[ab ⟨by omega,by omega⟩,g9] at h9 kC kZ
 have hM:=Kn nF hg (-1);have jx:=Kn nF hg k;have pJ:=ao3 nF hg hD;have gR:=ve cs is aj rk (-1) (D is);have fS:=ve cs is aj rk k (D is);have kA:=acr cs is aj rk k;have acW:=O9 cash (dF cs is aj rk (-1) (D is)) ⟨by omega,by omega,λ_=>hM⟩
 have qI:O7 cash (dF cs is aj rk k (D is)):=⟨by omega,by omega,λ_=>jx⟩
 have aqc:O7 cash (ko cs is aj rk k):=⟨by omega,by omega,λ_=>pJ⟩
 have VU:∀mem:Mem,ye mem->mem 337073=some (0,a6 bW (dF cs is aj rk k (D is)))->Kz [.M (.ay (cash.map aC)),.ref 337073 0 4 0 (dF cs is aj rk k (D is)).length] mem=some (sx cash (dF cs is aj rk k (D is))):=λmem F G=>ap8 cash (dF cs is aj rk k (D is)) 337073 0 mem ⟨qI,F,G,.inr (show 300000<=337073 by decide)⟩;have BG:∀mem:Mem,ye mem->mem 337073=some (0,a6 bW (ko cs is aj rk k))->Kz [.M (.ay (cash.map aC)),.ref 337073 0 4 0 (ko cs is aj rk k).length] mem=some (sx cash (ko cs is aj rk k)):=λmem F G=>ap8 cash (ko cs is aj rk k) 337073 0 mem ⟨aqc,F,G,.inr (show 300000<=337073 by decide)⟩;have aqd:=λ(mem:Mem) (h:mem 337073=some (0,a6 bW (dF cs is aj rk k (D is))))=>pj (n:=5) n0 h;unfold sx at acW VU BG;rw[ab hM.right] at acW;rw[ab jx.right] at VU;rw[ab pJ.right] at BG;have aII:=ap7 hM;have aIJ:=ap7 jx;have fo:((dF cs is aj rk k (D is)).map bW).flatten.map O.M=a6 bW (dF cs is aj rk k (D is)):=rfl;have GK:=λ(i:Nat) (h:i<D is)=>acm cash cs is aj rk h;have g2:=UT cash cs is aj rk (D is);have jT:=λ(i:Nat) (h:i<D is)=>(apo nF hg h).1;obtain⟨eH,aI,cS⟩:=apo nF hg hD;have tG:=λ(i:Nat) (h:i<D is)=>Kg (cash:=cash) (l:=dF cs is aj rk (-1) (D is)) (j:=(is.getD i 0).toNat) (by have:=hg.bN i h;omega);have zL:=Kg (cash:=cash) (l:=dF cs is aj rk k (D is)) (j:=(is.getD k 0).toNat) (by have:=hg.bN k hD;omega);have zM:=Kg (cash:=cash) (l:=ko cs is aj rk k) (j:=(is.getD k 0).toNat) (by have:=hg.bN k hD;omega);have fA:=UH pJ (j:=(is.getD k 0).toNat) (by have:=hg.bN k hD;omega);replace tG:∀i:Nat,i<(D is)->(iz cash (dF cs is aj rk (-1) (D is)))[(is.getD i 0).toNat]?=some (ax (jj cash cs is aj rk i)):=tG;replace zL:(iz cash (dF cs is aj rk k (D is)))[(is.getD k 0).toNat]?=some (ax (oE cash cs is aj rk k)):=zL;replace zM:(iz cash (ko cs is aj rk k))[(is.getD k 0).toNat]?=some (ax (tH cash cs is aj rk k)):=zM;replace fA:ec 482 (tH cash cs is aj rk k):=fA;have qR:(iz cash (dF cs is aj rk (-1) (D is))).length=D cs:=by unfold iz;rw[ar,gR]
 have nJ:(iz cash (dF cs is aj rk k (D is))).length=D cs:=by unfold iz;rw[ar,fS]
 have tv:(iz cash (ko cs is aj rk k)).length=D cs:=by unfold iz;rw[ar,kA]
 have aIK:=hg.bN;obtain⟨i,Q⟩:∃i,is[k]?=some i:=⟨_,bn hD⟩;have jO:=mj (d:=0) Q;have fB:=hg.bN k hD;have bH:=Pa hg (k:Int) (bM _) hD;rw[ae (λh=>h.2 rfl)] at bH;have qX:ko cs is aj rk k=(dF cs is aj rk k (D is)).set (is.getD k 0).toNat ((cs.getD (is.getD k 0).toNat hJ).1,(cs.getD (is.getD k 0).toNat hJ).2.1,rk,(cs.getD (is.getD k 0).toNat hJ).2.2.2):=rfl;rw[jO] at fB zL zM bH qX;obtain⟨n,rfl⟩:∃n:Nat,i=(n:Int):=⟨i.toNat,by omega⟩
 rw[g9] at zL zM bH qX;have h6:n<D cs:=by omega
 generalize cs.getD n hJ=c at *;obtain⟨aG,c2,c3,c4⟩:=c;have BB:=aoW bH rk;dsimp only at qX;rw[<-qX] at BB;have cC:=aoV (l:=dF cs is aj rk k (D is)) (k:=n) (by omega);have sC:=ao8 eH cS;have nO:jj cash cs is aj rk k+lY cash cs is aj rk k=oE cash cs is aj rk k:=by unfold lY;grind
 rw[nO] at sC;have bS:=zt aI eH;have cM:=zt aI aI;have dj:=zt (iV fA (by omega)) eH
 have d1:decide (je (oE cash cs is aj rk k) (jj cash cs is aj rk k)>0)=decide (0<lY cash cs is aj rk k):=by
  rw[aIA,kd,nS,decide_eq_false_iff_not,decide_eq_true_iff];unfold lY;grind
 have d2:(je (oE cash cs is aj rk k) (oE cash cs is aj rk k)==0)=true:=by rw[aIB];exact h2 rfl
 have d3:=UX (x:=tH cash cs is aj rk k) (y:=jj cash cs is aj rk k);have gs:=apq aI;have aIL:=λi h=>apq (jT i h);have ou:=GK k hD;clear hM jx pJ qI aqc qX bH nO fA jT eH aI cS;generalize sA cash cs is aj rk (D is)=IL at *;generalize (aB cash (dF cs is aj rk (-1) (D is))).hZ.map o6=F1 at *;generalize (aB cash (dF cs is aj rk k (D is))).hZ.map o6=F2 at *;generalize (aB cash (ko cs is aj rk k)).hZ.map o6=F3 at *;generalize ny cash (dF cs is aj rk (-1) (D is))=H1 at *;generalize ny cash (dF cs is aj rk k (D is))=H2 at *;generalize ny cash (ko cs is aj rk k)=H3 at *;generalize iz cash (dF cs is aj rk (-1) (D is))=P1 at *;generalize iz cash (dF cs is aj rk k (D is))=P2 at *;generalize iz cash (ko cs is aj rk k)=P3 at *;generalize dF cs is aj rk (-1) (D is)=XA at *;generalize dF cs is aj rk k (D is)=aIM at *;generalize ko cs is aj rk k=WC at *
 have S5:∃oc jr Np Nq z,v9 [.agg (aU (ax (jj cash cs is aj rk k))),.agg (aU (ax (lY cash cs is aj rk k)))]=some (.same (.cP [.agg [.int .i64 oc,.ay (jr.map aC),.int .i64 Np,.ay (Nq.map aC)],.int .i64 z]))/\((z==0)=false\/((oc,jr),(Np,Nq))=ax (oE cash cs is aj rk k)):=by
  generalize mX (jj cash cs is aj rk k) (lY cash cs is aj rk k)=b at sC
  cases b
  ·rw[aIC] at sC;exact⟨0,[],0,[],6,sC,.inl rfl⟩
  ·rw[aID] at sC;exact⟨_,_,_,_,0,sC,.inr rfl⟩
 clear sC;obtain⟨oc,jr,Np,Nq,z,sC,aV⟩:=S5;generalize ax (oE cash cs is aj rk k)=a2 at *;generalize ax (jj cash cs is aj rk k)=tR at *;generalize ax (lY cash cs is aj rk k)=bC at *;generalize ax (tH cash cs is aj rk k)=aN at *;generalize je (oE cash cs is aj rk k) (jj cash cs is aj rk k)=C1 at *;generalize je (oE cash cs is aj rk k) (oE cash cs is aj rk k)=C2 at *;generalize je (tH cash cs is aj rk k) (jj cash cs is aj rk k)=C3 at *;obtain⟨⟨Du,Dv⟩,⟨Dw,Dx⟩⟩:=a2;obtain⟨⟨i1,i2⟩,⟨i3,i4⟩⟩:=tR;obtain⟨⟨ga,iQ⟩,⟨UK,pN⟩⟩:=bC;obtain⟨⟨fu,eg⟩,⟨jg,jR⟩⟩:=aN;simp only[aU] at h9 kC sC bS cM dj gs;simp only[fS] at VU aqd;simp only[kA] at BG;have Bl:scalar (.int .i64 0)=true:=by simp[scalar]
 have nP:=aog 5 337073 0 4 0 (D cs);simp only[dB] at iG h9 kC kZ DB vd aqa aqb;simp only[go_sem,go_sem_proc,wS,wT,wU,lX,wV,mq,pR,wW,wX,wY,tI,oG,jd,eK,tJ,zw,cr,bN,iG,h9,DB,vd,aqa,aqb,acW,VU,aII,aIJ,aqd,nP,GP,Bl,fo,DT,ap9,aIH,wr,GI,g2,gR,fS,qR,nJ,dB,bne,beq_self_eq_true,ar,cF,dd]
 refine da [2,5,6,7,8,10,13,14,16] [337002,337006,337010,337014,337016,337073] (λ(i:Nat) tm m=>i<=D is/\tm 18=.M (.int .i64 i)/\ye m) (λi=>D is-i) 0 (by
  refine⟨fy _,rfl,?_⟩;simp only[DT,ap9,Nat.reduceLeDiff]) ?_
 intro vs ms aW aR;simp only[go_sem,go_sem_proc,wS,wT,wU,lX,wV,mq,pR,wW,wX,wY,tI,oG,jd,eK,tJ,ar] at aW aR;subst aW aR;rintro i tm mem I hm ⟨J,lQ,fp⟩;simp only[go_sem,go_sem_proc,wS,wT,wU,lX,wV,mq,pR,wW,wX,wY,tI,oG,jd,eK,tJ,bh] at I hm;obtain⟨aD,c8,bP,cg,eb,eJ,gL,pF,pH⟩:=I;obtain⟨cv,uK,sy,GQ,GR,GS⟩:=hm;rcases dq (i<D is) with aq|ca
 ·have t1:decide ((i:Int)<(D is:Int))=true:=cX;have ct:=e0 (i:=i) (by omega);have qn:=GK i aq;have uc:=tG i aq;have TT:=aIL i aq;have z5:=aIK i aq;obtain⟨j,ag⟩:∃j,is[i]?=some j:=⟨_,bn aq⟩;rw[mj (d:=0) ag] at uc z5;obtain⟨j,rfl⟩:∃n:Nat,j=(n:Int):=⟨j.toNat,by omega⟩
  rw[g9] at uc;have j1:j<D cs:=by omega
  generalize ax (jj cash cs is aj rk i)=W at *;obtain⟨⟨w1,n9⟩,⟨nR,Pv⟩⟩:=W;simp only[aU] at TT;refine ai ?_;repeat' (intro (aw:_=_)<;>simp only[aw,go_sem,go_sem_proc,wS,wT,wU,lX,wV,mq,pR,wW,wX,wY,tI,oG,jd,eK,tJ,aD,c8,bP,cg,eb,eJ,gL,pF,pH,lQ,cv,uK,sy,GQ,GR,GS,t1,ct,qn,uc,TT,ag,aq,j1,g2,qR,aU,aC,ar,bo,cF]<;>try refine ah ?_ ?_)
  exact⟨i+1,by omega,by omega,rfl,fp⟩
 ·have t1:decide ((i:Int)<(D is:Int))=false:=cA;have md:n<D aIM:=by omega
  rcases ad:decide (0<lY cash cs is aj rk k)
  ·rw[ad] at kC d1;rw[ae (of_decide_eq_false ad)] at kZ;rcases kL:(z==0)
   ·refine ai ?_;repeat' (intro (aw:_=_)<;>simp only[aw,go_sem,go_sem_proc,wS,wT,wU,lX,wV,mq,pR,wW,wX,wY,tI,oG,jd,eK,tJ,aD,c8,bP,cg,eb,eJ,gL,pF,pH,lQ,cv,uK,sy,GQ,GR,GS,t1,fp,DT,g2,ou,Q,hD,h6,nJ,tv,kA,zL,zM,kC,kZ,sC,bS,cM,dj,gs,BG,nP,GP,BB,cC,d1,d2,d3,dB,aU,aC,bne,beq_self_eq_true,ar,bo,cF,dd,md,kL,show ((2:Int)==1)=false from rfl,show ((1:Int)==2)=false from rfl]<;>try refine ah ?_ ?_)
   ·rcases aV with aV|aV
    ·rw[aV] at kL;cases kL
    ·cases aV;refine ai ?_;repeat' (intro (aw:_=_)<;>simp only[aw,go_sem,go_sem_proc,wS,wT,wU,lX,wV,mq,pR,wW,wX,wY,tI,oG,jd,eK,tJ,aD,c8,bP,cg,eb,eJ,gL,pF,pH,lQ,cv,uK,sy,GQ,GR,GS,t1,fp,DT,g2,ou,Q,hD,h6,nJ,tv,kA,zL,zM,kC,kZ,sC,bS,cM,dj,gs,BG,nP,GP,BB,cC,d1,d2,d3,dB,aU,aC,bne,beq_self_eq_true,ar,bo,cF,dd,md,kL,show ((2:Int)==1)=false from rfl,show ((1:Int)==2)=false from rfl]<;>try refine ah ?_ ?_)
  ·rw[ad] at kC d1;rw[ab (of_decide_eq_true ad)] at kZ;rcases Y:decide (tH cash cs is aj rk k<=jj cash cs is aj rk k)
   ·rw[Y] at d3;rw[ae (of_decide_eq_false Y)] at kZ;rcases kL:(z==0)
    ·refine ai ?_;repeat' (intro (aw:_=_)<;>simp only[aw,go_sem,go_sem_proc,wS,wT,wU,lX,wV,mq,pR,wW,wX,wY,tI,oG,jd,eK,tJ,aD,c8,bP,cg,eb,eJ,gL,pF,pH,lQ,cv,uK,sy,GQ,GR,GS,t1,fp,DT,g2,ou,Q,hD,h6,nJ,tv,kA,zL,zM,kC,kZ,sC,bS,cM,dj,gs,BG,nP,GP,BB,cC,d1,d2,d3,dB,aU,aC,bne,beq_self_eq_true,ar,bo,cF,dd,md,kL,show ((2:Int)==1)=false from rfl,show ((1:Int)==2)=false from rfl]<;>try refine ah ?_ ?_)
    ·rcases aV with aV|aV
     ·rw[aV] at kL;cases kL
     ·cases aV;refine ai ?_;repeat' (intro (aw:_=_)<;>simp only[aw,go_sem,go_sem_proc,wS,wT,wU,lX,wV,mq,pR,wW,wX,wY,tI,oG,jd,eK,tJ,aD,c8,bP,cg,eb,eJ,gL,pF,pH,lQ,cv,uK,sy,GQ,GR,GS,t1,fp,DT,g2,ou,Q,hD,h6,nJ,tv,kA,zL,zM,kC,kZ,sC,bS,cM,dj,gs,BG,nP,GP,BB,cC,d1,d2,d3,dB,aU,aC,bne,beq_self_eq_true,ar,bo,cF,dd,md,kL,show ((2:Int)==1)=false from rfl,show ((1:Int)==2)=false from rfl]<;>try refine ah ?_ ?_)
   ·rw[Y] at d3;rw[ab (of_decide_eq_true Y)] at kZ;rcases kL:(z==0)
    ·refine ai ?_;repeat' (intro (aw:_=_)<;>simp only[aw,go_sem,go_sem_proc,wS,wT,wU,lX,wV,mq,pR,wW,wX,wY,tI,oG,jd,eK,tJ,aD,c8,bP,cg,eb,eJ,gL,pF,pH,lQ,cv,uK,sy,GQ,GR,GS,t1,fp,DT,g2,ou,Q,hD,h6,nJ,tv,kA,zL,zM,kC,kZ,sC,bS,cM,dj,gs,BG,nP,GP,BB,cC,d1,d2,d3,dB,aU,aC,bne,beq_self_eq_true,ar,bo,cF,dd,md,kL,show ((2:Int)==1)=false from rfl,show ((1:Int)==2)=false from rfl]<;>try refine ah ?_ ?_)
    ·rcases aV with aV|aV
     ·rw[aV] at kL;cases kL
     ·cases aV;refine ai ?_;repeat' (intro (aw:_=_)<;>simp only[aw,go_sem,go_sem_proc,wS,wT,wU,lX,wV,mq,pR,wW,wX,wY,tI,oG,jd,eK,tJ,aD,c8,bP,cg,eb,eJ,gL,pF,pH,lQ,cv,uK,sy,GQ,GR,GS,t1,fp,DT,g2,ou,Q,hD,h6,nJ,tv,kA,zL,zM,kC,kZ,sC,bS,cM,dj,gs,BG,nP,GP,BB,cC,d1,d2,d3,dB,aU,aC,bne,beq_self_eq_true,ar,bo,cF,dd,md,kL,show ((2:Int)==1)=false from rfl,show ((1:Int)==2)=false from rfl]<;>try refine ah ?_ ?_)
end Go.Mini
namespace Go.Mini
open Go Go.Proofs
def mixed:Tryz.prog.follows .mixedOrders=true:=by kernel_rfl
abbrev b3:=qJ Tryz.prog
def aIN (mf : bu)(kb : Nat)(own : List Nat){α : Type}{args : α -> List Data}{res : α -> Option dx}{l : List (FuncId × (List Data -> Option dx))}{e : List (FuncId × (List O -> Mem -> Option gB))}(ak : ∀ p ∈ l, qJ Tryz.prog p.1 p.2)(he : ∀ p ∈ e, iO Tryz.prog p.1 p.2){f : FuncId}{fn : Func}(aK : Tryz.prog.funcs[f]? = some fn)(h : ∀ a, Qz (res a) fun r => Nat.ble (args a).length mf.n = true /\ wp (uQ (HD l) (IY e)) mf.body (vC mf.res r) ⟨iC ((args a).map .M), emp⟩)(aH : (fn.name == "runtime.NumGoroutine", qz Tryz.prog kb own fn) = (false, some { mf with body := erase mf.body }) := by kernel_rfl): b3 f (bU args res) := aeB (pB (ph ak) (pD he)) mixed aK (congrArg Prod.fst aH) (congrArg Prod.snd aH) fun ds r aa => by
 obtain⟨a,rfl,G⟩:=aeI aa;have af:=h a;rw[G] at af;exact⟨qq af.1,af.2⟩
def aQh (mf : bu)(kb : Nat)(own : List Nat){α : Type}{args : α -> List Data}{res : α -> Option dx}{l : List (FuncId × (List Data -> Option dx))}(ak : ∀ p ∈ l, qJ Tryz.prog p.1 p.2){f : FuncId}{fn : Func}(aK : Tryz.prog.funcs[f]? = some fn)(h : ∀ a, Qz (res a) fun r => Nat.ble (args a).length mf.n = true /\ wp (uQ (HD l) (IY [])) mf.body (vC mf.res r) ⟨iC ((args a).map .M), emp⟩)(aH : (fn.name == "runtime.NumGoroutine", qz Tryz.prog kb own fn) = (false, some { mf with body := erase mf.body }) := by kernel_rfl): b3 f (bU args res) := aIN mf kb own ak ke aK h aH
def wZ (kb : Nat)(own : List Nat){l : List (FuncId × (List Data -> Option dx))}{e : List (FuncId × (List O -> Mem -> Option gB))}(ak : ∀ p ∈ l, qJ Tryz.prog p.1 p.2)(he : ∀ p ∈ e, iO Tryz.prog p.1 p.2){f : FuncId}{fn : Func}(aK : Tryz.prog.funcs[f]? = some fn){mf : bu}{aL : List Data -> Option dx}(h : WF (uQ (HD l) (IY e)) mf aL)(aH : (fn.name == "runtime.NumGoroutine", qz Tryz.prog kb own fn) = (false, some { mf with body := erase mf.body }) := by kernel_rfl): b3 f aL := aeB (pB (ph ak) (pD he)) mixed aK (congrArg Prod.fst aH) (congrArg Prod.snd aH) fun ds r aa => by
 obtain⟨af,aS⟩:=h ds r aa;rw[atr] at aS;exact⟨qq af,aS⟩
def cu (kb : Nat)(own : List Nat){l : List (FuncId × (List Data -> Option dx))}(ak : ∀ p ∈ l, qJ Tryz.prog p.1 p.2){f : FuncId}{fn : Func}(aK : Tryz.prog.funcs[f]? = some fn){mf : bu}{aL : List Data -> Option dx}(h : WF (uQ (HD l) (IY [])) mf aL)(aH : (fn.name == "runtime.NumGoroutine", qz Tryz.prog kb own fn) = (false, some { mf with body := erase mf.body }) := by kernel_rfl): b3 f aL := wZ kb own ak ke aK h aH
def a7 {l7:FuncId->Option (List Data->Option dx)}{tf:FuncId->Option (List O->Mem->Option gB)}{f:FuncId}{aL:List Data->Option dx}(F:tf f=none:=by rfl)(G:l7 f=some aL:=by rfl):uQ l7 tf f=aQ aL:=lu F G
def KA:b3 qN yP:=cu 177000 [] bO Tryz.func190 (auc _)
def KB:iO Tryz.prog qN (Ce vQ):=LJ.aiR (aeW (mf:=HY) (kb:=177000) (own:=[]) (pB (ph bO) (pD ke)) mixed Tryz.func190 (by kernel_rfl) (by kernel_rfl) λargs mem x h=>by
 obtain⟨a,⟨rfl,hm,ak⟩,rfl⟩:=Xh h;exact⟨qq rfl,aud _ a.l a.k a.g mem hm ak⟩)
def aqe:b3 EC Mf:=cu 184000 [] bO Tryz.func194 (aue _)
def aqf:b3 HN Mg:=cu 174000 [] (a1 aqe bO) Tryz.func159 (auf _ a7)
def aIO:b3 XF Q8:=cu 179000 [] bO Tryz.func195 (auh _)
def PI:b3 vK Ao:=cu 156000 [5] bO Tryz.func94 (aui _)
def BH:b3 ll vS:=cu 136000 [] bO Tryz.func146 (auj _)
def KC:b3 pq Ap:=wZ 158000 [] (a1 KA bO) (mh KB ke) Tryz.func150 (aul _ (IX rfl rfl))
def acX:b3 EB H7:=cu 175000 [] (a1 aqf bO) Tryz.func160 (auo _ a7)
def aqg:b3 LR Mj:=wZ 172000 [] (a1 KA bO) (mh KB ke) Tryz.func157 (aup _ (IX rfl rfl))
def aqh:b3 HM Mk:=wZ 173000 [10] (a1 PI (a1 KA bO)) (mh KB ke) Tryz.func158 (aur _ a7 (IX rfl rfl))
def aqi:b3 HL Ml:=wZ 161000 [] (a1 KA bO) (mh KB ke) Tryz.func151 (auu _ (IX rfl rfl))
def aIP:b3 QM Rb:=wZ 176000 [] (a1 KA bO) (mh KB ke) Tryz.func192 (auw _ (IX rfl rfl))
def aIQ:iO Tryz.prog XE (Ce Mr):=LJ.aiR (aeW (mf:=QV) (kb:=178000) (own:=[]) (pB (ph bO) (pD ke)) mixed Tryz.func193 (by kernel_rfl) (by kernel_rfl) λargs mem x h=>by
 obtain⟨a,⟨rfl,H⟩,rfl⟩:=Xh h;exact⟨qq rfl,auF _ a mem H⟩)
def aqj:b3 LP Mu:=wZ 157000 [54] (a1 acX (a1 PI (a1 aIP (a1 KA (a1 aqi bO))))) (mh KB (mh aIQ ke)) Tryz.func156 (auQ _ a7 a7 a7 (IX rfl rfl) a7 (pC rfl rfl))
def acY:b3 vJ Ir:=cu 155000 [] bO Tryz.func149 (avq _)
def aqk:b3 HK MC:=cu 152000 [] (a1 BH (a1 PI (a1 KC bO))) Tryz.func91 (avr _ a7 a7 a7)
def VV:b3 vI E6:=cu 140000 [] (a1 BH (a1 aqi (a1 KC (a1 acY bO)))) Tryz.func85 (avs _ a7 a7 a7 a7)
def aIR:b3 XB Rq:=cu 160000 [] (a1 BH (a1 aIO (a1 aqg (a1 aqh (a1 acX (a1 KC (a1 acY bO))))))) Tryz.func161 (avt _ a7 a7 a7 a7 a7 a7 a7)
def aIS:b3 Xy Rs:=cu 154000 [] (a1 BH (a1 aqf (a1 acX bO))) Tryz.func89 (avu _ a7 a7 a7)
def aql:b3 LN MH:=cu 137000 [] (a1 BH (a1 PI (a1 aqj (a1 KC (a1 acY bO))))) Tryz.func147 (avv _ a7 a7 a7 a7 a7)
def aqm:b3 Ez MJ:=cu 153000 [] (a1 BH (a1 aqj (a1 aqg (a1 aqh (a1 KC bO))))) Tryz.func88 (avx _ a7 a7 a7 a7 a7)
def aIT:b3 QJ Rv:=cu 150000 [] (a1 KC bO) Tryz.func165 (avC _ a7)
def aIU:b3 Xz Rw:=cu 159000 [] (a1 BH bO) Tryz.func189 (avF _ a7)
def aIV:b3 Xr Ry:=cu 138000 [] (a1 aIU bO) Tryz.func148 (avK _ a7)
def BI:b3 ma uJ:=cu 116000 [] (a1 BH (a1 aql (a1 aIV bO))) Tryz.func84 (avM _ a7 a7 a7)
def aqn:b3 LO MQ:=cu 149000 [] (a1 BH (a1 aqk (a1 aql (a1 aqm bO)))) Tryz.func152 (avO _ a7 a7 a7 a7)
def VW:b3 Ah CG:=cu 130000 [] (a1 aIT (a1 aqn bO)) Tryz.func96 (avP _ a7 a7)
def aIW:b3 Xs RD:=cu 139000 [] (a1 VV (a1 aIR bO)) Tryz.func90 (av2 _ a7 a7)
def acZ:b3 Ey Ix:=cu 141000 [] (a1 aqn bO) Tryz.func86 (av4 _ a7)
def PJ:b3 vG v9:=cu 119000 [] (a1 BI (a1 aIW (a1 VV (a1 acZ bO)))) Tryz.func40 (av6 _ a7 a7 a7 a7)
def VX:b3 vH xD:=cu 132000 [] (a1 BI (a1 aqk (a1 PJ bO))) Tryz.func43 (av8 _ a7 a7 a7)
def ac0:b3 xm xE:=cu 134000 [] (a1 BI (a1 VV (a1 acZ bO))) Tryz.func36 (awa _ a7 a7 a7)
def aqo:b3 EA CI:=cu 169000 [] (a1 BI (a1 VV (a1 acZ bO))) Tryz.func155 (awc _ a7 a7 a7)
def zN:b3 kP pz:=cu 135000 [] (a1 BI (a1 aqm (a1 aIS bO))) Tryz.func38 (awi _ a7 a7 a7)
def aqp:b3 uo MZ:=cu 125000 [] (a1 BI bO) Tryz.func233 (awo _ a7)
def aIX:b3 EG RO:=cu 294000 [] (a1 BI bO) Tryz.func116 (awq _ a7)
def aIY:b3 vO RQ:=cu 309000 [] (a1 aIX bO) Tryz.func174 (awt _ a7)
def aIZ:b3 Xv RT:=cu 146000 [] (a1 aqp (a1 aIY bO)) Tryz.func201 (aww _ a7 (λh=>absurd h (by decide)) (λ_=>a7))
def aqq:b3 LM IE:=cu 128000 [] (a1 aIZ bO) Tryz.func173 (awz _ a7)
def aI0:b3 QF RV:=cu 127000 [] (a1 aqp (a1 aqq bO)) Tryz.func235 (awC _ a7 a7)
def aI1:b3 Xu RW:=cu 145000 [] (a1 aI0 bO) Tryz.func239 (awD _ a7)
def aI2:b3 Xo RX:=cu 126000 [] (a1 aI1 bO) Tryz.func234 (awE _ a7)
def aI3:b3 Xl RY:=cu 108000 [] (a1 aI2 bO) Tryz.func224 (awG _ a7)
def aI4:iO Tryz.prog Cf (CS A1):=axh (mf:=RM) (kb:=168000) (own:=[]) (pB (ph bO) (pD ke)) mixed Tryz.func241 (by kernel_rfl) (by kernel_rfl) Sh λargs mem r k g i d h=>by
 obtain⟨F,G,af,aS,bt⟩:=axi _ args mem r k g i d h;exact⟨F,G,af,aS,bt⟩
def aI5:b3 LQ Nh:=cu 167000 [] bO Tryz.func240 (Ni _)
def aI6:iO Tryz.prog Xw (ns Nu):=Fz (mf:=zb) (kb:=148000) (own:=[3000106,3000165,3000169]) (pB (ph (a1 aI5 (a1 aqo (a1 VX (a1 ac0 bO))))) (pD (mh aI4 ke))) mixed Tryz.func237 (by kernel_rfl) (by kernel_rfl) λargs mem bK h=>by
 obtain⟨a,rfl,⟨F,G,af,aS,bt,b2,cb⟩,rfl⟩:=ax0 h;exact⟨qq rfl,axO _ (lu rfl rfl) (pC rfl rfl) (lu rfl rfl) (lu rfl rfl) (lu rfl rfl) a.go a.N a.rows a.r a.c mem F G af aS bt b2 cb⟩
def aI7:b3 QI Nv:=cu 147000 [5] bO Tryz.func236 (ax2 _)
def aI8:b3 Xp Nx:=wZ 129000 [29,34] (a1 aI7 bO) (mh aI6 ke) Tryz.func225 (ayh _ a7 (pC rfl rfl))
def aI9:b3 Xm Sx:=cu 109000 [] (a1 aI3 (a1 aI8 bO)) Tryz.func215 (ayn _ a7 a7)
def aJa:b3 XD Sy:=cu 171000 [] bO Tryz.func232 (ayr _)
def aJb:b3 Xx Sz:=cu 151000 [] (a1 aJa bO) Tryz.func223 (ays _ a7)
def aJc:b3 Xq SB:=cu 131000 [] (a1 aJb bO) Tryz.func214 (ayC _ a7)
def PK:b3 uq AS:=cu 183000 [18] bO Tryz.func188 (awI _)
def VY:b3 ur Fv:=cu 187000 [] bO Tryz.func200 (awL _)
def aJd:b3 QN M6:=cu 185000 [] (a1 VY bO) Tryz.func182 (awN _ a7)
def aJe:b3 XG R4:=cu 181000 [] (a1 VY (a1 PK bO)) Tryz.func181 (awP _ a7 a7)
def aqr:b3 LU M8:=cu 182000 [] (a1 VY (a1 PK bO)) Tryz.func183 (awQ _ a7 a7)
def aJf:b3 LV M9:=cu 186000 [] (a1 VY (a1 PK bO)) Tryz.func170 (awR _ a7 a7)
def aqs:b3 LS Na:=cu 180000 [26] (a1 PK (a1 aJf (a1 aJd (a1 aqr bO)))) Tryz.func187 (awY _ a7 a7 a7 a7)
def VZ:b3 vM Fw:=cu 166000 [] (a1 PK bO) Tryz.func145 (aw0 _ a7)
def V0:b3 vL Fx:=cu 162000 [] bO Tryz.func141 (aw1 _)
def aJg:b3 QK R7:=cu 163000 [] (a1 V0 (a1 VZ bO)) Tryz.func142 (aw2 _ a7 a7)
def aJh:b3 QH R8:=cu 144000 [] (a1 VZ bO) Tryz.func83 (aw3 _ a7)
def aJi:b3 XC R9:=cu 164000 [] (a1 V0 (a1 aqs (a1 VZ bO))) Tryz.func143 (aw5 _ a7 a7 a7)
def aJj:b3 QL Sa:=cu 165000 [] (a1 V0 (a1 aqs (a1 aJe (a1 aqr (a1 VZ bO))))) Tryz.func144 (aw6 _ a7 a7 a7 a7 a7)
def aJk:b3 Xt Sb:=cu 143000 [] (a1 V0 (a1 aJg (a1 aJi (a1 aJj bO)))) Tryz.func82 (aw7 _ a7 a7 a7 a7)
def aJl:b3 Xn Nf:=cu 124000 [] (a1 aJh (a1 aJk bO)) Tryz.func35 (aw9 _ a7 a7)
def aJm:b3 QG Sc:=cu 142000 [] bO Tryz.func55 (axc _)
def aqt:b3 HJ Fy:=cu 120000 [] (a1 aJm bO) Tryz.func19 (axe _ a7)
def GU:b3 om ss:=cu 230000 [] (a1 VW bO) Tryz.func78 (aAc _ a7)
def aqu:b3 vN FZ:=cu 241000 [] (a1 VW bO) Tryz.func153 (aAe _ a7)
def aqv:b3 Cg Ol:=cu 243000 [] bO Tryz.func137 (aA4 _)
def aJn:b3 LZ Ty:=cu 244000 [] (a1 aqv bO) Tryz.func138 (aA7 _ a7)
def aJo:b3 L0 TA:=cu 245000 [] (a1 aqv bO) Tryz.func139 (aBa _ a7)
def aJp:b3 ED T7:=cu 232000 [] (a1 GU (a1 zN bO)) Tryz.func80 (aCR _ a7 a7)
def aqw:b3 L2 OH:=cu 251000 [] bO Tryz.func163 (aCS _)
def aJq:b3 HR T8:=cu 250000 [] (a1 aqw bO) Tryz.func162 (aCU _ a7)
def V1:b3 sZ Gl:=cu 355000 [] bO Tryz.func54 (aCV _)
def aqx:b3 xo OJ:=cu 361000 [] (a1 V1 bO) Tryz.func104 (aCX _ a7)
def aqy:b3 EF OK:=cu 292000 [] bO Tryz.func114 (aCY _)
def aqz:b3 xn OL:=cu 291000 [] (a1 aqy bO) Tryz.func113 (aCZ _ a7)
def aJr:b3 Ch Ua:=cu 307000 [] (a1 aqz bO) Tryz.func171 (aC2 _ a7)
def aqA:b3 L3 Px:=cu 298000 [] bO Tryz.func120 (aG8 _)
def aJs:b3 HT Up:=cu 253000 [] bO Tryz.func191 (aDG _)
def aqB:b3 LY OT:=cu 240000 [] (a1 aJs bO) Tryz.func154 (aDH _ a7)
def aJt:b3 XH U4:=cu 225000 [] (a1 aqB (a1 BI (a1 aqu (a1 zN bO)))) Tryz.func184 (aF6 _ a7 a7 a7 a7)
def aqC:b3 L6 Pz:=cu 313000 [] (a1 aqA (a1 aJt bO)) Tryz.func135 (aHc _ a7 a7)
def aJu:b3 HS Ud:=cu 252000 [] (a1 aqw bO) Tryz.func164 (aDd _ a7)
def aJv:b3 EN Uf:=cu 362000 [] (a1 V1 (a1 aqx bO)) Tryz.func105 (aDg _ a7 a7)
def aJw:b3 HU Uh:=cu 293000 [] (a1 aqy (a1 aqz bO)) Tryz.func115 (aDi _ a7 a7)
def aJx:b3 EH Uj:=cu 308000 [] (a1 aJw bO) Tryz.func172 (aDl _ a7)
def aJy:b3 X3 Vf:=cu 327000 [] bO Tryz.func213 (aGy _)
def aJz:b3 X0 Vg:=cu 315000 [] (a1 aJy bO) Tryz.func180 (aGA _ a7)
def aJA:b3 EJ Ul:=cu 314000 [] (a1 aJz bO) Tryz.func179 (aHg _ a7)
def aJB:b3 XK Um:=cu 254000 [] (a1 aJo (a1 aJu (a1 aJv (a1 aJx (a1 aJA bO))))) Tryz.func167 (aDq _ a7 (λ_=>a7) (λ_=>a7) (λ_=>a7) (λ_=>a7))
def V3:b3 Aj Gs:=cu 247000 [] (a1 aJB bO) Tryz.func107 (aDw _ a7)
def aJC:b3 XY Vy:=cu 306000 [] (a1 aqC (a1 V3 bO)) Tryz.func127 (aHj _ a7 a7)
def aqD:b3 uw Gm:=cu 305000 [] (a1 aJC bO) Tryz.func126 (aHk _ a7)
def V4:b3 uv wN:=cu 231000 [] (a1 aJn (a1 aJq (a1 aqx (a1 aJp (a1 aJr (a1 aqD bO)))))) Tryz.func79 (aC5 _ a7 (λ_=>a7) (λ_=>a7) (λ_=>a7) (λ_=>a7) (λ_=>a7))
def ac1:b3 EE J0:=cu 246000 [] (a1 V4 bO) Tryz.func106 (aDa _ a7)
def aqE:b3 L1 OW:=cu 249000 [] (a1 BI (a1 zN (a1 aqu (a1 aqB (a1 ac0 (a1 aqo (a1 VX bO))))))) Tryz.func87 (aDX _ a7 a7 a7 a7 a7 a7 a7)
def aqF:b3 HO Gu:=cu 227000 [] (a1 ac1 (a1 V3 bO)) Tryz.func75 (aDy _ a7 a7)
def aqG:iO Tryz.prog LX (pL Kc):=Oa (mf:=CN) (kb:=233000) (own:=[]) (pB (ph (a1 aqE bO)) (pD ke)) mixed Tryz.func81 (by kernel_rfl) (by kernel_rfl) (λj:Nat=>j/1000=233) λargs mem d h=>by
 obtain⟨a,⟨rfl,aO⟩,rfl⟩:=Oe h;exact⟨qq rfl,aO.no,aEu _ (lu rfl rfl) a mem aO⟩
def aJD:iO Tryz.prog QP (pL TC):=Oa (mf:=RN) (kb:=255000) (own:=[17]) (pB (ph (a1 GU (a1 aJc (a1 VW (a1 PJ bO))))) (pD ke)) mixed Tryz.func185 (by kernel_rfl) (by kernel_rfl) (λj:Nat=>j/1000=255) λargs mem d h=>by
 obtain⟨a,⟨rfl,aO⟩,rfl⟩:=Oe h;exact⟨qq rfl,aO.no,aBd _ (lu rfl rfl) (lu rfl rfl) (lu rfl rfl) (lu rfl rfl) a.1 a.2 mem aO⟩
def aJE:iO Tryz.prog XM (pL TG):=Oa (mf:=IB) (kb:=256000) (own:=[]) (pB (ph (a1 GU (a1 VX (a1 aI9 bO)))) (pD ke)) mixed Tryz.func186 (by kernel_rfl) (by kernel_rfl) (λj:Nat=>j/1000=256) λargs mem d h=>by
 obtain⟨a,⟨rfl,aO⟩,rfl⟩:=Oe h;exact⟨qq rfl,aO.no,aBt _ (lu rfl rfl) (lu rfl rfl) (lu rfl rfl) a mem aO⟩
def aJF:iO Tryz.prog XJ (pL abx):=Oa (mf:=wc) (kb:=248000) (own:=[]) (pB (ph (a1 GU (a1 ac0 (a1 PJ bO)))) (pD (mh aJD (mh aJE ke)))) mixed Tryz.func140 (by kernel_rfl) (by kernel_rfl) (λj:Nat=>j/1000=248) λargs mem d h=>by
 obtain⟨a,⟨rfl,aO⟩,rfl⟩:=Oe h;exact⟨qq rfl,aO.h7,aB9 _ (lu rfl rfl) (pC rfl rfl) (pC rfl rfl) (lu rfl rfl) (lu rfl rfl) a mem aO⟩
def aqH:iO Tryz.prog HP (ns Gh):=Fz (mf:=IA) (kb:=229000) (own:=[]) (pB (ph (a1 GU (a1 zN bO))) (pD (mh aJF ke))) mixed Tryz.func77 (by kernel_rfl) (by kernel_rfl) λargs mem bK h=>by
 obtain⟨a,⟨rfl,aO⟩,rfl⟩:=FB h;exact⟨qq rfl,aCn _ (pC rfl rfl) (lu rfl rfl) (lu rfl rfl) a mem aO⟩
def aqI:iO Tryz.prog LW (ns OG):=Fz (mf:=CM) (kb:=228000) (own:=[22]) (pB (ph bO) (pD ke)) mixed Tryz.func76 (by kernel_rfl) (by kernel_rfl) λargs mem bK h=>by
 obtain⟨a,⟨rfl,aO⟩,rfl⟩:=FB h;exact⟨qq rfl,aCI _  a.1 a.2.1 a.2.2 mem aO⟩
def V5:b3 uu Bw:=wZ 217000 [] (a1 aqF (a1 GU (a1 zN (a1 V4 bO)))) (mh aqI (mh aqH (mh aqG ke))) Tryz.func33 (aE6 _ a7 (pC rfl rfl) (pC rfl rfl) a7 a7 a7 (pC rfl rfl))
def aJG:b3 EI UY:=cu 310000 [] (a1 zN bO) Tryz.func176 (aFL _ a7)
def aJH:b3 XI U0:=cu 235000 [] (a1 aJG bO) Tryz.func175 (aFO _ (λh=>absurd h (by decide)) (λ_=>a7))
def aJI:b3 QS Pq:=cu 322000 [] (a1 aqe bO) Tryz.func208 (aGt _ a7)
def aJJ:b3 XV Ve:=cu 301000 [] bO Tryz.func123 (aGw _)
def aJK:b3 X7 UJ:=cu 356000 [] (a1 ac1 (a1 V3 bO)) Tryz.func56 (aFb _ a7 a7)
def aqJ:b3 L8 Pb:=cu 357000 [] bO Tryz.func57 (aFe _)
def aqK:b3 L9 Pc:=cu 359000 [] bO Tryz.func59 (aFf _)
def V6:b3 yN GG:=cu 346000 [] (a1 aJK (a1 V1 (a1 aqJ bO))) Tryz.func20 (aFg _ a7 a7 a7)
def aJL:b3 X8 UP:=cu 358000 [] bO Tryz.func58 (aFk _)
def aJM:b3 QT UQ:=cu 347000 [] (a1 aJL (a1 aqK bO)) Tryz.func21 (aFn _ a7 a7)
def aJN:b3 X9 UR:=cu 360000 [5] bO Tryz.func97 (aFq _)
def ac2:b3 EM Ki:=cu 354000 [10] (a1 aJN (a1 aqJ bO)) Tryz.func52 (aFr _ a7 a7)
def aJO:b3 QU US:=cu 352000 [7] (a1 aqK bO) Tryz.func50 (aFs _ a7)
def V7:b3 Ak GJ:=cu 341000 [] (a1 V6 (a1 ac2 (a1 V5 bO))) Tryz.func14 (aFv _ a7 a7 a7)
def ac3:b3 EK Ko:=cu 343000 [] (a1 V6 (a1 V1 (a1 ac2 (a1 V5 bO)))) Tryz.func16 (aFw _ a7 a7 a7 a7)
def ac4:b3 EL Kp:=cu 348000 [] (a1 ac3 (a1 V7 (a1 VX bO))) Tryz.func22 (aFy _ a7 a7 a7)
def aqL:b3 L7 Pl:=cu 350000 [34] (a1 ac4 (a1 V7 (a1 ac2 (a1 V5 (a1 zN bO))))) Tryz.func24 (aFz _ a7 a7 a7 a7 a7)
def aJP:b3 X5 U6:=cu 339000 [] bO Tryz.func12 (aGg _)
def aJQ:b3 X6 U7:=cu 340000 [] bO Tryz.func13 (aGi _)
def aJR:b3 HW U9:=cu 353000 [] (a1 aJl (a1 aqt bO)) Tryz.func51 (aGk _ a7 a7)
def aJS:b3 X4 Vc:=cu 338000 [] (a1 V7 (a1 ac3 (a1 ac4 (a1 aqL (a1 V6 (a1 aJR bO)))))) Tryz.func11 (aGq _ a7 a7 a7 a7 a7 a7)
def aJT:b3 X2 Vk:=cu 326000 [] bO Tryz.func212 (aGJ _)
def aJU:b3 XZ Vm:=cu 312000 [] (a1 aJT bO) Tryz.func178 (aGL _ a7)
def aqM:b3 L4 PA:=cu 303000 [] (a1 aqC bO) Tryz.func73 (aHf _ a7)
def aJV:iO Tryz.prog X1 (ns Vh):=Fz (mf:=Q3) (kb:=316000) (own:=[]) (pB (ph (a1 aJI bO)) (pD ke)) mixed Tryz.func202 (by kernel_rfl) (by kernel_rfl) λargs mem bK h=>by
 obtain⟨a,⟨rfl,aO⟩,rfl⟩:=FB h;exact⟨qq rfl,aGH _ (lu rfl rfl) a mem aO⟩
def aJW:iO Tryz.prog L5 (ns Vn):=Fz (mf:=Q2) (kb:=311000) (own:=[]) (pB (ph bO) (pD (mh aJV ke))) mixed Tryz.func177 (by kernel_rfl) (by kernel_rfl) λargs mem bK h=>by
 obtain⟨a,⟨rfl,aO⟩,rfl⟩:=FB h;exact⟨qq rfl,aGO _ (pC rfl rfl) a mem aO⟩
def aJX:iO Tryz.prog XU (ns Vo):=Fz (mf:=QZ) (kb:=300000) (own:=[]) (pB (ph (a1 aJU bO)) (pD (mh aJW ke))) mixed Tryz.func122 (by kernel_rfl) (by kernel_rfl) λargs mem bK h=>by
 obtain⟨a,⟨rfl,aO⟩,rfl⟩:=FB h;exact⟨qq rfl,aGR _ (lu rfl rfl) (pC rfl rfl) a mem aO⟩
def aJY:iO Tryz.prog XW (Ob Vp):=aAo (mf:=Q0) (kb:=302000) (own:=[]) (pB (ph bO) (pD ke)) mixed Tryz.func124 (by kernel_rfl) (by kernel_rfl) (λ_=>False) λargs mem d k h=>by
 obtain⟨a,⟨rfl,aO⟩,aX⟩:=aAq h
 cases aX;exact⟨qq rfl,λ_ h=>h.elim,λh=>h,aGY _  a mem aO⟩
def aJZ:b3 XP VO:=wZ 289000 [1000000000045] (a1 aqM (a1 aJJ bO)) (mh aJX (mh aJY ke)) Tryz.func65 (aH1 _ (pC rfl rfl) (pC rfl rfl) a7 a7)
def aJ0:b3 XT U2:=cu 299000 [] (a1 aJH bO) Tryz.func121 (aFT _ a7)
def aJ1:iO Tryz.prog XX (ns PD):=Fz (mf:=Q1) (kb:=304000) (own:=[]) (pB (ph (a1 V4 (a1 aqD bO))) (pD ke)) mixed Tryz.func125 (by kernel_rfl) (by kernel_rfl) λargs mem bK h=>by
 obtain⟨a,⟨rfl,aO⟩,rfl⟩:=FB h;exact⟨qq rfl,aHs _ (lu rfl rfl) (lu rfl rfl) a mem aO⟩
def aJ2:b3 XQ VB:=wZ 290000 [6] (a1 aqM (a1 PI bO)) (mh aJ1 ke) Tryz.func66 (aHw _ a7 a7 (pC rfl rfl))
def aJ3:b3 XR VD:=cu 295000 [] (a1 ac1 bO) Tryz.func117 (aHz _ a7)
def aJ4:b3 XS VF:=cu 296000 [] (a1 V3 bO) Tryz.func118 (aHC _ a7)
def aJ5:b3 QR VH:=cu 297000 [] (a1 aqq bO) Tryz.func119 (aHE _ a7)
def aJ6:b3 XN VJ:=cu 287000 [] (a1 aJ3 (a1 aJ4 (a1 aJ5 bO))) Tryz.func63 (aHH _ a7 a7 a7)
def aJ7:b3 XO VL:=cu 288000 [] (a1 VW (a1 PJ (a1 zN (a1 aqA (a1 aqE (a1 aJ0 bO)))))) Tryz.func64 (aHO _ a7 a7 a7 a7 a7 a7)
def aJ8:b3 QQ PE:=cu 286000 [] (a1 aJ6 (a1 aJ7 (a1 aJZ (a1 aJ2 bO)))) Tryz.func28 (aIf _ a7 a7 a7 a7)
def aJ9:iO Tryz.prog uu (pL Kz):=Oa (mf:=wb) (kb:=217000) (own:=[]) (pB (ph (a1 aqF (a1 GU (a1 zN (a1 V4 bO))))) (pD (mh aqI (mh aqH (mh aqG ke))))) mixed Tryz.func33 (by kernel_rfl) (by kernel_rfl) (λj:Nat=>j/1000=217\/j/1000=228) λargs mem d h=>by
 obtain⟨a,⟨rfl,aO⟩,rfl⟩:=Oe h;exact⟨qq rfl,λj ag=>aO.no j (by omega) (by omega),aIx _ (lu rfl rfl) (pC rfl rfl) (pC rfl rfl) (lu rfl rfl) (lu rfl rfl) (lu rfl rfl) (pC rfl rfl) a mem aO⟩
def aKa:iO Tryz.prog uu (PH Bw Kz):=aIy V5 aJ9
def aKb:b3 at5 VT:=wZ 337000 [73] (a1 aJS (a1 aJQ (a1 aJP (a1 V6 (a1 aJM (a1 V7 (a1 ac3 (a1 aJO (a1 aJ8 (a1 aqt (a1 ac4 (a1 PJ (a1 zN (a1 aqL bO)))))))))))))) (mh aKa ke) Tryz.func10 (aIG _ a7 a7 a7 a7 a7 a7 a7 a7 (pC rfl rfl) a7 a7 a7 a7 a7 a7)
end Go.Mini
