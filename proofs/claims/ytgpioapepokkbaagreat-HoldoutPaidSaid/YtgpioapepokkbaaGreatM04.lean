/- A part of the proof. -/
import Derived.Test.YtgpioapepokkbaaGreatM03
set_option linter.unusedSimpArgs false
set_option linter.unusedVariables false
set_option linter.defProp false
set_option maxRecDepth 100000
set_option maxHeartbeats 4000000
noncomputable section
open Bool renaming and_eq_true->eQ,eq_iff_iff->kd,false_and->fC,not_eq_true'->nS,not_true->cF,or_eq_true->sP,or_false->mM,true_and->g4
open Classical renaming byContradiction->kE,choose->vD,choose_spec->oP
open Decidable renaming em->dq
open Int renaming le_refl->S8,mul_ne_zero->AR,natAbs_mul->sb,natAbs_natCast->mV,sign_neg_iff->alw,toNat_natCast->g9,zero_add->Ie,zero_mul->AG
open List renaming any_eq_false->uL,append_assoc->gr,append_inj->HZ,append_nil->fG,append_of_mem->ajZ,cons_append->ky,drop->ft,drop_append->oj,drop_append_of_le_length->amb,drop_eq_nil_of_le->j0,drop_succ_cons->w7,ext_getElem?->pY,filter_append->ql,filter_cons_of_neg->u5,filter_cons_of_pos->tr,filter_eq_nil_iff->Jz,filter_nil->qm,findIdx_getElem->akj,flatMap_append->zr,flatMap_cons->qM,flatMap_def->zs,flatMap_eq_nil_iff->alj,flatMap_nil->Dp,flatten_append->A8,flatten_cons->k5,getD_eq_getElem?_getD->ei,getElem?_append_left->sM,getElem?_append_right->rR,getElem?_cons_zero->xe,getElem?_eq_getElem->bn,getElem?_eq_none->mB,getElem?_eq_some_iff->dK,getElem?_map->bo,getElem?_range->vt,getElem?_replicate->alM,getElem?_set->nT,getElem_drop->I1,getElem_mem->nC,length->D,length_append->fO,length_cons->hQ,length_drop->r0,length_filter_le->nZ,length_map->ar,length_nil->lH,length_range->uj,length_replicate->C7,length_set->hL,length_take->gE,map->zh,map_append->kh,map_congr_left->mH,map_cons->eu,map_map->mK,map_nil->cR,map_replicate->NB,map_set->CT,mem_append->iF,mem_cons->hS,mem_cons_of_mem->g5,mem_cons_self->gK,mem_filter->Bc,mem_flatMap->yE,mem_map->ef,mem_map_of_mem->u2,mem_of_getElem?->dZ,mem_range->gQ,nil_append->ik,range->dD,range_add->amy,range_succ->m5,replicate->dH,replicate_append_replicate->Z9,replicate_succ->qC,set_cons_zero->we,take->fh,take_add_one->hF,take_append_drop->ui,take_append_of_le_length->FL,take_length->mW,take_of_length_le->dt,take_zero->l3,zipWith->aaO,zipWith_cons_cons->akd,zip_cons_cons->akc
open List.cons renaming inj->xx,injEq->bh
open Nat renaming add_comm->zO,add_sub_cancel_left->HF,add_zero->nE,eq_zero_or_pos->jG,exists_eq_add_of_le->ajE,le_mul_of_pos_right->Lf,le_of_eq->zk,le_refl->bM,le_trans->eZ,lt_of_le_of_lt->uz,lt_or_ge->iD,lt_trichotomy->ak4,mul_assoc->FU,mul_comm->sT,mul_le_mul->pI,mul_left_comm->aj8,mul_one->dy,mul_pos->SW,one_le_two_pow->S4,one_pos->aaL,pow_add->xV,pow_le_pow_right->xz,pow_lt_pow_right->akq,pow_succ->xk,reduceEqDiff->dV,sub_self->lf,sub_zero->ND,succ_mul->vw,zero_add->ks,zero_le->fy,zero_mul->Ep
open Option renaming map_eq_some_iff->dS,map_some->iY
open Option.some renaming inj->mD,injEq->cl
open Prod renaming ext->ej,ext_iff->xr
open Prod.mk renaming injEq->e2
open Rat renaming add_zero->rf,den_intCast->alG,divInt->lO,divInt_eq_div->S0,div_def->aak,intCast_add->zo,intCast_eq_zero_iff->ako,intCast_mul->rj,intCast_natCast->o1,intCast_sub->zp,inv_pos->ajM,le_refl->gg,le_trans->xU,lt_iff->abe,mul_comm->wx,mul_eq_zero->aaU,mul_nonneg->aal,mul_pos->NK,mul_zero->oZ,natCast_mul->S3,neg_num->akt,num_eq_zero->aka,num_intCast->alF,one_mul->SV,zero_add->Di,zero_den->aa1,zero_mul->Ji,zero_num->aa2
namespace Go.Mini
open Go
def Z8:∀y:Nat,y<41->bits .and .u64 (y:Int) 4294967295=y:=by decide
def ayq (y:Nat)(h:y<41):(y:Int).fdiv 4294967296=0:=by
 rw[Int.fdiv_eq_ediv_of_nonneg _ (by omega)];omega
abbrev Jc:Nat->List Data:=λ(y:Nat)=>[.int .u64 1,.int .u64 y]
def Sy:=bU Jc λ(y:Nat)=>cp (y<41) (.same (.cP [.int .u64 0,.int .u64 y]))
def ajD:∀a b,Jc a=Jc b->a=b:=by
  intro qR nJ h;simp only[bh,Data.int.injEq] at h;omega
@[go_sem] def aOR (y):=cz Sy rfl ajD y rfl
def ayr (T:ba):WF T ajA Sy:=by
 refine cf λy=>cG λH=>⟨rfl,b7 ?_⟩;simp only[ajA,Jc,b1];have F:=Z8 y H;have G:=ayq y H;have af:=Z8 1 (by omega);have aS:=Z8 0 (by omega);have bt:((1:Int)).fdiv 4294967296=0:=by decide
 have b2:((0:Int)).fdiv 4294967296=0:=by decide
 have hw:∀x:Int,0<=x/\x<18446744073709551616->IntKind.u64.wrap x=x:=λx h=>Af x h;have dG:=hw 0 (by omega);have w1:=hw y (by omega);simp only[Int.natCast_zero,Int.cast_ofNat_Int,Int.natCast_one] at af aS;refine ai ?_;repeat' (intro (aw:_=_)<;>simp only[aw,go_sem,go_sem_proc,F,G,af,aS,bt,b2,dG,w1,show ((32:Int)<0)=False from by simp,if_false,show (2:Int)^min (Int.toNat 32) 64=4294967296 from rfl,Int.one_mul,AG,Int.mul_zero,Int.add_zero,Ie]<;>try refine ah ?_ ?_)
def Sz:=bU Jc λ(y:Nat)=>cp (y<41) (.same (.cP [.int .u64 0,.int .u64 y]))
@[go_sem] def aOS (y):=cz Sz rfl ajD y rfl
def ays (T:ba)(ayt:T XD=aQ Sy):WF T ajz Sz:=by
 refine cf λy=>cG λH=>⟨rfl,b7 ?_⟩;simp only[ajz,Jc,b1];refine ai ?_;repeat' (intro h<;>simp only[h,go_sem,go_sem_proc,ayt,H]<;>try refine ah ?_ ?_)
def sl {α:Type}{A:List α}{k:Nat}(dn:(D A)=k)(n:Nat):(dH n A).flatten.length=n*k:=by
 rw[List.length_flatten,NB,dn,List.sum_replicate_nat]
def ayu {α:Type}{A:List α}{k:Nat}(dn:(D A)=k){q j:Nat}(h:q<=j):(dH j A).flatten.take (q*k)=(dH q A).flatten:=by
 obtain⟨d,rfl⟩:=ajE h;rw[<-Z9,A8,FL (by rw[sl dn];omega),dt (by rw[sl dn];omega)]
def ayv {α:Type}{A:List α}{k:Nat}(dn:(D A)=k){q j:Nat}(h:q<=j):(dH j A).flatten.drop (q*k)=(dH (j-q) A).flatten:=by
 obtain⟨d,rfl⟩:=ajE h;rw[<-Z9,A8,oj,j0 (by rw[sl dn];omega),sl dn,lf,List.drop_zero,ik,HF]
def FM:List O:=[.M (.int .i64 0),.nil,.M (.int .i64 0),.nil]
def qi (A:List O)(N j:Nat):List O:=(dH j A).flatten++(dH (N-j) FM).flatten
def ajF {A:List O}(dn:(D A)=4){N j:Nat}(h:j<=N):(qi A N j).length=N*4:=by
 unfold qi;rw[fO,sl dn,sl (show (D FM)=4 from rfl)];omega
def ajG {A:List O}(dn:(D A)=4){N j q:Nat}(h:j+q<=N):(qi A N j).take (j*4)++(dH q A).flatten++(qi A N j).drop (j*4+q*4)=qi A N (j+q):=by
 unfold qi;rw[FL (by rw[sl dn];omega),dt (by rw[sl dn];omega),oj,j0 (by rw[sl dn];omega),sl dn,HF,ayv (show (D FM)=4 from rfl) (by omega),ik,<-Z9 (n:=j),A8,Nat.sub_sub]
def ayw {A:List O}(dn:(D A)=4){N j:Nat}:(qi A N j).take (j*4)=(dH j A).flatten:=by
 unfold qi;rw[FL (by rw[sl dn];omega),dt (by rw[sl dn];omega)]
def ajH {A:List O}(h:A.all O.one=true)(q:Nat):(dH q A).flatten.all O.one=true:=by
 induction q with
 |zero=>rfl
 |succ n av=>rw[qC,k5,List.all_append,h,av];rfl
def ayx (f:bF)(N:Nat):qi ((aU f).map .M) N N=a6 aU (dH N f):=by
 unfold qi a6;rw[lf,NB];simp only[List.replicate_zero,List.flatten_nil,fG]
 induction N with
 |zero=>rfl
 |succ n av=>rw[qC,k5,qC,k5,kh,av]
def ayy {A:List O}(dn:(D A)=4)(F:A.all O.one=true)(N:Nat):BP 131030 0 4 0 N 1 A (some (0,(dH N FM).flatten))=some (.M (.int .i64 ((min 1 N:Nat):Int)),some (131030,0,qi A N (min 1 N))):=by
 unfold BP;dsimp only;rw[ab ⟨rfl,by rw[sl (show (D FM)=4 from rfl)];omega,F⟩]
 have au:(dH N FM).flatten=qi A N 0:=by simp[qi]
 have bz:A.take (min 1 N*4)=(dH (min 1 N) A).flatten:=by
  rcases jG N with h|h
  ·subst h;simp
  ·rw[show min 1 N=1 by omega];simp[dt (zk dn)]
 have:=ajG dn (N:=N) (j:=0) (q:=min 1 N) (by omega);rw[au,bz];unfold k6;rw[sl dn];simp only[Ep,ks] at this ⊢;rw[this]
def ayz {A:List O}(dn:(D A)=4)(F:A.all O.one=true){N j:Nat}(h:j<N):BP 131030 0 4 (j*4) (N-j) j (dH j A).flatten (some (0,qi A N j))=some (.M (.int .i64 ((min j (N-j):Nat):Int)),some (131030,0,qi A N (j+min j (N-j)))):=by
 unfold BP;dsimp only;rw[ab ⟨rfl,by rw[ajF dn (by omega)];omega,ajH F j⟩]
 rw[ayu dn (show min j (N-j)<=j by omega)];have:=ajG dn (N:=N) (j:=j) (q:=min j (N-j)) (by omega);unfold k6;rw[sl dn,this]
abbrev SA:Int×(List Int)×Int×(List Int)×Nat->List Data:=λ(s,l,s2,aI,N)=>[.ay [[.int .i64 s,.ay (l.map aC),.int .i64 s2,.ay (aI.map aC)]],.int .i64 N]
def SB:=bU SA λ(s,l,s2,aI,N)=>cp (N<41) (.own 4 (dH N (aU ((s,l),(s2,aI)))))
def ayA:∀a b,SA a=SA b->a=b:=by
  rintro⟨s1,eH,E7,E8,aOT⟩ ⟨s2,aI,E9,Fa,aOU⟩ h;simp only[bh,Data.int.injEq,Data.ay.injEq] at h;exact ej h.1.1.1.2 (ej (map_inj fq _ _ h.1.1.2.1) (ej h.1.1.2.2.1.2 (ej (map_inj fq _ _ h.1.1.2.2.2.1) (by have:=h.2.1.2;dsimp only;omega))))
@[go_sem] def ayB (s l s2 aI N):=cz SB rfl ayA (s,l,s2,aI,N) rfl
def ayC (T:ba)(FN:T Xx=aQ Sz):WF T afx SB:=by
 refine cf λ(s,l,s2,aI,N)=>cG λH=>⟨rfl,b7 ?_⟩;simp only[afx,SA,b1];have au:decide ((N:Int)<0)=false:=cA;have hw:IntKind.u64.wrap (N:Int)=N:=Af _ ⟨by omega,by omega⟩
 have aea:IntKind.i64.wrap (N:Int)=N:=wrap64 _ (by omega) (by omega);have qU:IntKind.u64.wrap ((1:Nat):Int)=1:=by decide
 have a8:decide ((N:Int)>9223372036854775807)=false:=cA;have Jd:(64*N<=140737488355328)=True:=eq_true (by omega);have C6:(N<=maxLen)=True:=eq_true (by unfold maxLen;omega);have dn:((aU ((s,l),(s2,aI))).map O.M).length=4:=rfl;have xS:((aU ((s,l),(s2,aI))).map O.M).all O.one=true:=rfl;have BX:=ayy dn xS N;have vz:=λj (h:j<N)=>ayz dn xS h;have NC:(aU ((s,l),(s2,aI))).map O.M=[.M (.int .i64 s),.M (.ay (l.map aC)),.M (.int .i64 s2),.M (.ay (aI.map aC))]:=rfl;simp only[FM] at BX;rw[NC] at BX;simp only[go_sem,go_sem_proc,FN] at BX;simp only[go_sem,go_sem_proc,FN,au,hw,aea,qU,H,a8,Jd,C6,show decide ((0:Int)>0)=false from rfl,BX];rw[NC] at dn xS;have iJ:=ayx ((s,l),(s2,aI)) N;rw[NC] at iJ;simp only[NC] at vz;clear NC BX;generalize [O.M (.int .i64 s),.M (.ay (l.map aC)),.M (.int .i64 s2),.M (.ay (aI.map aC))]=A at *;refine da [7] [] (λ(j:Nat) tm m=>j<=N/\(0<N->0<j)/\tm 8=.M (.int .i64 j)/\m 131030=some (0,qi A N j)) (λj=>N-j) (min 1 N) (by refine⟨by omega,by omega,rfl,?_⟩;simp[a4]) ?_;intro vs ms aW aR;simp only[go_sem,go_sem_proc,FN] at aW aR;subst aW aR;rintro j tm m I hm ⟨ajI,ayD,cN,aaa⟩;simp only[go_sem,go_sem_proc,FN,bh] at I hm;have cb:=I;rcases dq (j<N) with aq|ca
 ·have j1:decide ((j:Int)<(N:Int))=true:=cX;have aH:=vz j aq;have fo:=ayw dn (N:=N) (j:=j);have hlen:(j*4<=(qi A N j).length)=True:=eq_true (by rw[ajF dn ajI];omega);have ayE:(j<=N)=True:=eq_true ajI;have en:=ajH xS j;simp only[go_sem,go_sem_proc,FN,en,xS,fo] at aH;have hv:IntKind.i64.wrap ((j:Int)+((min j (N-j):Nat):Int))=((j+min j (N-j):Nat):Int):=by rw[ev _];omega
  refine ai ?_;repeat' (intro (aw:_=_)<;>simp only[aw,go_sem,go_sem_proc,FN,cb,cN,aaa,j1,fo,hlen,ayE,en,aH,hv,bM,ND,fy]<;>try refine ah ?_ ?_)
  exact⟨j+min j (N-j),by have:=ayD (by omega);omega,by omega,by omega,rfl,rfl⟩
 ·have j1:decide ((j:Int)<(N:Int))=false:=cA;obtain rfl:j=N:=by omega
  rw[iJ] at aaa;have Iv:=lj mY (dH j ((s,l),(s2,aI)));rw[C7] at Iv;refine ai ?_;repeat' (intro (aw:_=_)<;>simp only[aw,go_sem,go_sem_proc,FN,cb,cN,aaa,j1,pg,Iv]<;>try refine ah ?_ ?_)
  rw[ab (bM _),dt (by omega)];unfold a6;rw[r1 _ λd=>rfl];have:=xj (sz:=4) ((dH j ((s,l),(s2,aI))).map aU) (by intro e he;obtain⟨f,-,rfl⟩:=ef.1 he;rfl);rw[ar,C7] at this;rw[iY,this,NB]
def SC:bF:=((0,[]),(1,[1]))
def aab:bF:=((1,[1]),(1,[1]))
def ajJ:ax 0=SC:=by
 unfold ax bY SC;simp[Ew,sY]
def ayF:ax 1=aab:=by
 unfold ax bY aab;simp[Ew]
def NF (rows:List dh)(f N i:Nat):List bF:=(dD N).map λk=>if k<i then (q5 SC (cellOf (rowAt rows k) f)).1 else if k=f then aab else SC
def ayG (rows:List dh)(f N i:Nat):(NF rows f N i).length=N:=by simp[NF]
def aac (rs:List fJ)(n:Int):List bF×Bool :=
 if pA rs n=true then (if ((re true rs).2.2||(re true rs).2.1.length==0)=true then ([],false) else (NF (re true rs).1 ((re true rs).2.1.headD 0) (D rs) ((re true rs).2.1.headD 0),true)) else ([],false)



section
variable {α:Type} {op:α->bF×Int} {e:α->bF}
end
def aad (N:Nat)(rows:List fJ):Prop:=D rows=N/\∀x∈rows,x.1.length=N/\CO x
def aad.set {N:Nat}{rows:List fJ}(h:aad N rows){i:Nat}{x:fJ}(Q:x.1.length=N/\CO x):aad N (rows.set i x):=by
 refine⟨by rw[hL];exact h.1,λy al=>?_⟩
 rcases List.mem_or_eq_of_mem_set al with al|rfl
 ·exact h.2 y al
 ·exact Q




def aae (r:fJ):List bF:=r.1++[r.2]
def C8 (cU:List dh)(bK:List fJ):Prop:=cU.map (·.2.2)=bK.map aae
def C8.len {cU:List dh}{bK:List fJ}(h:C8 cU bK):(D cU)=D bK:=by
 have:=congrArg D h
 simpa using this
def C8.at_ {cU:List dh}{bK:List fJ}(h:C8 cU bK){i:Nat}{x:dh}{r:fJ}(Q:cU[i]?=some x)(aa:bK[i]?=some r):x.2.2=aae r:=by
 have:=congrArg (λl:List (List bF)=>l[i]?) h;simp only[bo,Q,aa,iY,cl] at this;exact this
def C8.set {cU:List dh}{bK:List fJ}(h:C8 cU bK){i:Nat}{x:dh}{r:fJ}(pE:x.2.2=aae r):C8 (cU.set i x) (bK.set i r):=by
 unfold C8 at h ⊢;rw[CT,CT,h,pE]
def bD:Nat->(Nat->Rat)->Rat
 |0,_=>0
 |n+1,f=>bD n f+f n
def kD {n:Nat}{f g:Nat->Rat}(h:∀k,k<n->f k=g k):bD n f=bD n g:=by
 induction n with
 |zero=>rfl
 |succ n av=>rw[bD,bD,av λk I=>h k (by omega),h n (by omega)]
def wo (n:Nat)(f g:Nat->Rat):bD n (λk=>f k+g k)=bD n f+bD n g:=by
 induction n with
 |zero=>simp[bD,rf]
 |succ n av=>rw[bD,bD,bD,av];grind
def A9 (n:Nat)(c:Rat)(f:Nat->Rat):bD n (λk=>c*f k)=c*bD n f:=by
 induction n with
 |zero=>simp[bD,oZ]
 |succ n av=>rw[bD,bD,av];grind
def tj {n:Nat}{f:Nat->Rat}(h:∀k,k<n->f k=0):bD n f=0:=by
 induction n with
 |zero=>rfl
 |succ n av=>rw[bD,av λk I=>h k (by omega),h n (by omega)];exact rf 0
def zl {n:Nat}{f:Nat->Rat}{j:Nat}(ag:j<n)(h:∀k,k<n->k≠j->f k=0):bD n f=f j:=by
 induction n with
 |zero=>omega
 |succ n av =>
  rw[bD]
  by_cases aH:j=n
  ·subst aH;rw[tj λk I=>h k (by omega) (by omega)];grind
  ·rw[av (by omega) λk I=>h k (by omega),h n (by omega) (by omega)];grind
def ayH (n m:Nat)(f:Nat->Nat->Rat):bD n (λi=>bD m (λj=>f i j))=bD m (λj=>bD n (λi=>f i j)):=by
 induction n with
 |zero=>rw[bD,tj];intro k I;rfl
 |succ n av =>
  rw[bD,av,<-wo]
  rfl
abbrev eD:=Nat->Nat->Rat
def m3 (N:Nat)(a y:Nat->Rat):Rat:=bD (N+1) λk=>a k*y k
def hX (N:Nat)(A:eD)(y:Nat->Rat):Prop:=∀i,i<N->m3 N (A i) y=0
def hx (A:eD)(r s:Nat):eD:=λi=>if i=s then A r else if i=r then A s else A i
def o0 (A:eD)(r c s:Nat):eD:=λi k=>if i=r then hx A r s r k/hx A r s r c else hx A r s i k-hx A r s i c*(hx A r s r k/hx A r s r c)
def SD (A:eD)(r s:Nat):hx A r s r=A s:=by
 unfold hx
 by_cases h:r=s
 ·simp[h]
 ·simp[h]
def ayI {N r s:Nat}{A:eD}{y:Nat->Rat}(aa:r<N)(X:s<N):hX N (hx A r s) y↔hX N A y:=by
 unfold hX hx
 constructor
 ·intro h i J
  by_cases F:i=r
  ·have:=h s X;simp at this;rw[F];exact this
  ·by_cases G:i=s
   ·have:=h r aa;rw[G]
    by_cases af:r=s
    ·omega
    ·simp[af] at this;exact this
   ·have:=h i J;simp[F,G] at this;exact this
 ·intro h i J
  by_cases G:i=s
  ·simp[G];exact h r aa
  ·by_cases F:i=r
   ·have:=h s X;rw[ae G,ab F];exact this
   ·simp[F,G];exact h i J
def ayJ (N:Nat)(a b y:Nat->Rat)(x:Rat):m3 N (λk=>a k-x*b k) y=m3 N a y-x*m3 N b y:=by
 unfold m3;have:(λk=>(a k-x*b k)*y k)=λk=>a k*y k+(-x)*(b k*y k):=by funext k;grind
 rw[this,wo,A9];grind
def ajK (N:Nat)(a y:Nat->Rat)(x:Rat):m3 N (λk=>a k/x) y=m3 N a y/x:=by
 unfold m3;have:(λk=>(a k/x)*y k)=λk=>(1/x)*(a k*y k):=by funext k;grind
 rw[this,A9];grind
def aaf {N r s c:Nat}{A:eD}{y:Nat->Rat}(aa:r<N)(X:s<N)(bE:A s c≠0):hX N (o0 A r c s) y↔hX N A y:=by
 rw[<-ayI (A:=A) aa X];have aOV:hx A r s r c≠0:=by rw[SD];exact bE
 generalize cB:hx A r s=S at *
 have d1:∀i,i≠r->m3 N (o0 A r c s i) y=m3 N (S i) y-S i c*(m3 N (S r) y/S r c):=by
  intro i J;have:o0 A r c s i=λk=>S i k-S i c*(S r k/S r c):=by funext k;unfold o0;rw[cB,ae J]
  rw[this,ayJ N (S i) (λk=>S r k/S r c) y (S i c),ajK]
 have d2:m3 N (o0 A r c s r) y=m3 N (S r) y/S r c:=by
  have:o0 A r c s r=λk=>S r k/S r c:=by funext k;unfold o0;rw[cB,ab rfl]
  rw[this,ajK]
 unfold hX
 constructor
 ·intro h
  have au:m3 N (S r) y=0:=by
   have:=h r aa;rw[d2] at this;generalize m3 N (S r) y=d at *;grind
  intro i J
  by_cases si:i=r
  ·rw[si];exact au
  ·have:=h i J;rw[d1 i si,au] at this;generalize m3 N (S i) y=d at *;grind
 ·intro h i J;have au:=h r aa
  by_cases si:i=r
  ·rw[si,d2,au];grind
  ·rw[d1 i si,au,h i J];grind
structure rh (N:Nat) (aN:eD) (p c:Nat) (cy:Nat->Nat):Prop where
 l5:p<=c
 lt:∀j,j<p->cy j<c
 unit:∀j,j<p->∀i,i<N->aN i (cy j)=if i=j then 1 else 0
 zero:∀i,p<=i->i<N->∀k,k<c->aN i k=0
def rh.free {N p c:Nat}{aN:eD}{cy:Nat->Nat}(h:rh N aN p c cy)(aV:∀i,p<=i->i<N->aN i c=0):rh N aN p (c+1) cy :=
 ⟨by have:=h.l5;omega,λj ag=>by have:=h.lt j ag;omega,h.unit,λi J gi k I=>by
  by_cases CR:k=c
  ·rw[CR];exact aV i J gi
  ·exact h.zero i J gi k (by omega)⟩
def rh.FK {N p c s:Nat}{aN:eD}{cy:Nat->Nat}(h:rh N aN p c cy)(aF:p<N)(X:p<=s)(Ba:s<N)(bE:aN s c≠0):rh N (o0 aN p c s) (p+1) (c+1) (λj=>if j=p then c else cy j):=by
 have cB:∀i,i<N->∃bj,bj<N/\hx aN p s i=aN bj/\(i<p->bj=i)/\(p<=i->p<=bj):=by
  intro i J;unfold hx
  by_cases F:i=s
  ·exact⟨p,aF,by rw[ab F],by omega,by omega⟩
  ·by_cases G:i=p
   ·exact⟨s,Ba,by rw[ae F,ab G],by omega,by omega⟩
   ·exact⟨i,J,by rw[ae F,ae G],by omega,by omega⟩
 have aOW:hx aN p s p c≠0:=by rw[SD];exact bE
 have aV:∀i,p<=i->i<N->∀k,k<c->hx aN p s i k=0:=by
  intro i J gi k I;obtain⟨bj,F,G,-,aS⟩:=cB i gi;rw[G];exact h.zero bj (aS J) F k I
 refine⟨by have:=h.l5;omega,λj ag=>?_,λj ag i J=>?_,λi J gi k I=>?_⟩
 ·show (if j=p then c else cy j)<c+1
  split
  ·omega
  ·have:=h.lt j (by omega);omega
 ·unfold o0
  by_cases Je:j=p
  ·simp only[Je,if_true]
   by_cases nu:i=p
   ·rw[ab nu,ab nu];grind
   ·rw[ae nu,ae nu];grind
  ·simp only[Je,if_false];have pV:j<p:=by omega
   have az:hx aN p s p (cy j)=0:=aV p (bM _) aF _ (h.lt j pV);rw[az]
   by_cases nu:i=p
   ·rw[ab nu,ae (by omega)];grind
   ·rw[ae nu];obtain⟨bj,F,G,af,aS⟩:=cB i J;rw[G,h.unit j pV bj F];rcases iD i p with aq|ca
    ·rw[af aq];grind
    ·rw[ae (by have:=aS ca;omega),ae (by omega)];grind
 ·unfold o0;rw[ae (by omega)]
  by_cases CR:k=c
  ·subst CR;grind
  ·rw[aV i (by omega) gi k (by omega),aV p (bM _) aF k (by omega)];grind
def SE (N:Nat)(aN:eD)(cy:Nat->Nat):rh N aN 0 0 cy:=⟨bM _,λj ag=>by omega,λj ag=>by omega,λi J gi k I=>by omega⟩
end Go.Mini
namespace Go.Mini
open Classical
structure er where
 aE:Nat
 to:Int
 rk:Nat
 am:Rat
def FO {a b:Rat}(h:a=b):a<=b:=by rw[h];exact gg
def cI:List er->(er->Rat)->Rat
 | [],_=>0
 |c::l,aL=>aL c+cI l aL
def xT {l:List er}{aL bC:er->Rat}(h:∀c∈l,aL c=bC c):cI l aL=cI l bC:=by
 induction l with
 |nil=>rfl
 |cons c l av=>rw[cI,cI,h c gK,av λx Q=>h x (g5 _ Q)]
def SF (l:List er)(aL bC:er->Rat):cI l (λc=>aL c+bC c)=cI l aL+cI l bC:=by
 induction l with
 |nil=>simp only[cI];grind
 |cons c l av=>rw[cI,cI,cI,av];grind
def NG (l:List er)(aL bC:er->Rat):cI l (λc=>aL c-bC c)=cI l aL-cI l bC:=by
 induction l with
 |nil=>simp only[cI];grind
 |cons c l av=>rw[cI,cI,cI,av];grind
def SG (l:List er)(a:Rat)(aL:er->Rat):cI l (λc=>a*aL c)=a*cI l aL:=by
 induction l with
 |nil=>simp only[cI];grind
 |cons c l av=>rw[cI,cI,av];grind
def Jf {l:List er}{aL:er->Rat}(h:∀c∈l,aL c=0):cI l aL=0:=by
 induction l with
 |nil=>rfl
 |cons c l av=>rw[cI,h c gK,av λx Q=>h x (g5 _ Q)];grind
def FP {l:List er}{aL bC:er->Rat}(h:∀c∈l,aL c<=bC c):cI l aL<=cI l bC:=by
 induction l with
 |nil=>exact gg
 |cons c l av =>
  have F:=h c gK;have G:=av λx Q=>h x (g5 _ Q);rw[cI,cI];grind
def zm {l:List er}{aL:er->Rat}(h:∀c∈l,0<=aL c):0<=cI l aL:=by
 have:=FP (l:=l) (aL:=λ_=>0) (bC:=aL) h;rwa [Jf λ_ _=>rfl] at this
def aag {l:List er}{aL:er->Rat}(h:∀c∈l,0<=aL c)(X:cI l aL<=0):∀c∈l,aL c=0:=by
 induction l with
 |nil=>intro c H;cases H
 |cons c l av =>
  rw[cI] at X;have F:=h c gK;have G:=zm λx Q=>h x (g5 c Q);intro x Q;rcases hS.1 Q with rfl|Q
  ·grind
  ·exact av (λy al=>h y (g5 _ al)) (by grind) x Q
def ayK {l:List er}{aL bC:er->Rat}(h:∀c∈l,aL c<=bC c){k1:er}(H:k1∈l)(aq:aL k1<bC k1):cI l aL<cI l bC:=by
 by_cases X:cI l aL<cI l bC
 ·exact X
 ·have:=aag (l:=l) (aL:=λc=>bC c-aL c) (λc H=>by have:=h c H;grind) (by rw[NG];grind) k1 H;grind
def NH {l:List er}{aL:er->Rat}(h:0<cI l aL):∃c∈l,0<aL c:=by
 apply kE;intro aH
 have:=FP (l:=l) (aL:=aL) (bC:=λ_=>0) λc H=>by
  apply kE;intro G;exact aH ⟨c,H,by grind⟩
 rw[Jf (aL:=λ_=>(0:Rat)) λ_ _=>rfl] at this;grind
def NI {n:Nat}{f g:Nat->Rat}(h:∀k,k<n->f k<=g k):bD n f<=bD n g:=by
 induction n with
 |zero=>exact gg
 |succ n av =>
  have F:=h n (by omega);have G:=av λk I=>h k (by omega);rw[bD,bD];grind
def ajL {n:Nat}{f:Nat->Rat}(h:∀k,k<n->0<=f k):0<=bD n f:=by
 have:=NI (n:=n) (f:=λ_=>0) (g:=f) h;rwa [tj λ_ _=>rfl] at this
def Jg (n:Nat)(f g:Nat->Rat):bD n (λk=>f k-g k)=bD n f-bD n g:=by
 induction n with
 |zero=>simp only[bD];grind
 |succ n av=>rw[bD,bD,bD,av];grind
def ayL {n:Nat}{f:Nat->Rat}(h:∀k,k<n->0<=f k)(X:bD n f<=0):∀k,k<n->f k=0:=by
 induction n with
 |zero=>intro k I;omega
 |succ n av =>
  rw[bD] at X;have F:=h n (by omega);have G:=ajL (n:=n) (f:=f) λk I=>h k (by omega);intro k I
  by_cases Jh:k=n
  ·subst Jh;grind
  ·exact av (λk I=>h k (by omega)) (by grind) k (by omega)
def ri (C:Nat->Prop)(c:er):Prop:=∃i:Nat,c.to=i/\C i
def aah {n:Nat}(C:Nat->Prop)(gT:∀i,C i->i<n)(l:List er)(a:er->Rat):bD n (λi=>if C i then cI l (λc=>if c.to=(i:Int) then a c else 0) else 0)=cI l (λc=>if ri C c then a c else 0):=by
 induction l with
 |nil=>exact tj λk _=>by split<;>rfl
 |cons c l av =>
  rw[cI,<-av]
  have e:(λi:Nat=>if C i then cI (c::l) (λc=>if c.to=(i:Int) then a c else 0) else 0)=λi=>(if C i then (if c.to=(i:Int) then a c else 0) else 0)+(if C i then cI l (λc=>if c.to=(i:Int) then a c else 0) else 0):=by
   funext i
   split
   ·rw[cI]
   ·grind
  rw[e,wo]
  congr 1
  by_cases h:ri C c
  ·obtain⟨i,J,aai⟩:=h
   rw[zl (gT i aai) λk I qH=>by
    split
    ·rw[ae (by omega)]
    ·rfl]
   rw[ab aai,ab J,ab ⟨i,J,aai⟩]
  ·rw[ae h];refine tj λk I=>?_
   split
   ·rw[ae λgF=>h ⟨k,gF,by assumption⟩]
   ·rfl
def aaj {n:Nat}{l:List er}(ak:∀c∈l,c.aE<n)(b:Nat->er->Rat):bD n (λk=>cI l (λc=>if c.aE=k then b k c else 0))=cI l (λc=>b c.aE c):=by
 induction l with
 |nil=>exact tj λk _=>rfl
 |cons c l av =>
  rw[cI,<-av λx Q=>ak x (g5 _ Q)];have e:(λk:Nat=>cI (c::l) (λc=>if c.aE=k then b k c else 0))=λk=>(if c.aE=k then b k c else 0)+cI l (λc=>if c.aE=k then b k c else 0):=rfl;rw[e,wo]
  congr 1
  rw[zl (ak c gK) λk _ I=>ae (Ne.symm I),ab rfl]
structure Day where
 n:Nat
 cash:Nat->Rat
 de:List er
structure Day.df (d:Day):Prop where
 aE:∀c∈d.de,c.aE<d.n
 to:∀c∈d.de,c.to<d.n
 rk:∀c∈d.de,c.rk<10
 am:∀c∈d.de,0<=c.am
 cash:∀i,i<d.n->0<=d.cash i
def Day.U (d:Day)(k r:Nat):Rat:=cI d.de λc=>if c.aE=k/\c.rk<r then c.am else 0
def Day.S (d:Day)(k r:Nat):Rat:=cI d.de λc=>if c.aE=k/\c.rk=r then c.am else 0
def Day.SH (d:Day)(k:Nat):d.U k 0=0:=Jf λc _=>ae (by omega)
def Day.tk (d:Day)(k r:Nat):d.U k (r+1)=d.U k r+d.S k r:=by
 unfold Day.U Day.S;rw[<-SF];refine xT λc _=>?_
 by_cases F:c.aE=k/\c.rk<r
 ·rw[ab ⟨F.1,by omega⟩,ab F,ae (by omega)];grind
 ·rw[ae F]
  by_cases G:c.aE=k/\c.rk=r
  ·rw[ab ⟨G.1,by omega⟩,ab G];grind
  ·rw[ae (by omega),ae G];grind
def Day.df.SI {d:Day}(Y:d.df)(k r:Nat):0<=d.S k r:=zm λc H=>by
 split
 ·exact Y.am c H
 ·exact gg
def Day.df.uW {d:Day}(Y:d.df)(k:Nat){r s:Nat}(h:r<=s):d.U k r<=d.U k s:=by
 induction s with
 |zero =>
      obtain rfl:r=0:=by omega
      exact gg
 |succ s av =>
  by_cases aa:r=s+1
  ·rw[aa];exact gg
  ·have F:=av (by omega);have G:=Y.SI k s;rw[d.tk];grind
def Day.df.ayM {d:Day}(Y:d.df)(k r:Nat):0<=d.U k r:=by
 have:=Y.uW k (fy r);rwa [d.SH] at this
def Day.df.SJ {d:Day}(Y:d.df){c:er}(H:c∈d.de):c.am<=d.S c.aE c.rk:=by
 have:∀l:List er,(∀x∈l,0<=x.am)->c∈l->c.am<=cI l λx=>if x.aE=c.aE/\x.rk=c.rk then x.am else 0:=by
  intro l
  induction l with
  |nil=>intro _ h;cases h
  |cons x l av =>
   intro F G;rw[cI]
   have af:0<=cI l λx=>if x.aE=c.aE/\x.rk=c.rk then x.am else 0:=zm λy al=>by
    split
    ·exact F y (g5 _ al)
    ·exact gg
   rcases hS.1 G with rfl|G
   ·rw[ab ⟨rfl,rfl⟩];grind
   ·have aS:=av (λy al=>F y (g5 _ al)) G;have bt:=F x gK
    split<;>grind
 exact this d.de Y.am H
def Day.w (d:Day)(c:er):Rat:=c.am/d.S c.aE c.rk
def Day.df.qj {d:Day}(Y:d.df){c:er}(H:c∈d.de):0<=d.w c:=by
 unfold Day.w;have F:=Y.am c H;have G:=Y.SI c.aE c.rk;rw[aak]
 exact aal F (by
  rcases Rat.le_iff_lt_or_eq.1 G with h|h
  ·exact Rat.le_of_lt (ajM.2 h)
  ·rw[<-h];exact FO Rat.inv_zero.symm)
def Day.df.NJ {d:Day}(Y:d.df){c:er}(H:c∈d.de)(h:0<c.am):0<d.w c:=by
 unfold Day.w;have G:=Y.SJ H;rw[aak];exact NK h (ajM.2 (by grind))
def Day.Ni {d:Day}{c:er}(h:c.am=0):d.w c=0:=by
 unfold Day.w;rw[h,aak,Ji]
def Day.C9 {d:Day}{c:er}(h:0<d.S c.aE c.rk):d.w c*d.S c.aE c.rk=c.am:=by
 unfold Day.w;grind
def Day.df.NL {d:Day}(Y:d.df)(C:Nat->Prop)(f:Nat->Nat)(cB:∀k,C k->0<d.S k (f k))(x:Nat->Rat):cI d.de (λc=>if C c.aE/\c.rk=f c.aE then d.w c*x c.aE else 0)=bD d.n (λk=>if C k then x k else 0):=by
 rw[<-aaj Y.aE λk c=>if C k/\c.rk=f k then d.w c*x k else 0];refine kD λk I=>?_
 by_cases gT:C k
 ·rw[ab gT];have h5:=cB k gT
  have e:cI d.de (λc=>if c.aE=k then (if C k/\c.rk=f k then d.w c*x k else 0) else 0)=cI d.de λc=>(x k/d.S k (f k))*(if c.aE=k/\c.rk=f k then c.am else 0):=by
   refine xT λc _=>?_
   by_cases F:c.aE=k
   ·by_cases G:c.rk=f k
    ·rw[ab F,ab ⟨gT,G⟩,ab ⟨F,G⟩];unfold Day.w;rw[F,G];grind
    ·rw[ab F,ae (λh=>G h.2),ae (λh=>G h.2)];grind
   ·rw[ae F,ae (λh=>F h.1)];grind
  rw[e,SG];show x k/d.S k (f k)*d.S k (f k)=x k;grind
 ·rw[ae gT]
  exact Jf λc _=>by
   split
   ·rw[ae λh=>gT h.1]
   ·rfl
end Go.Mini
namespace Go.Mini
open Classical
def pos (x:Rat):Rat:=if x<=0 then 0 else x
def Jj (x:Rat):0<=pos x:=by unfold pos;split<;>grind
def SK (x:Rat):x<=pos x:=by unfold pos;split<;>grind
def aam {x y:Rat}(h:x<=y):pos x<=pos y:=by unfold pos;split<;>split<;>grind
def tl {x:Rat}(h:0<=x):pos x=x:=by unfold pos;split<;>grind
def wq {x:Rat}(h:x<=0):pos x=0:=ab h
def Da {a x y:Rat}(aO:0<=a)(h:x<=y):a*x<=a*y:=Rat.mul_le_mul_of_nonneg_left h aO
def uX {a x:Rat}(aO:0<=a)(h:0<=x):0<=a*x:=aal aO h
def Day.q (d:Day)(f:Nat->Nat)(h:Nat->Rat)(c:er):Rat:=if c.rk<f c.aE then c.am else if c.rk=f c.aE then d.w c*pos (h c.aE-d.U c.aE c.rk) else 0
def Day.l (d:Day)(f:Nat->Nat)(P:Nat->Prop)(h:Nat->Rat)(c:er):Rat:=if c.rk<f c.aE then c.am else if c.rk=f c.aE/\P c.aE then d.w c*(h c.aE-d.U c.aE c.rk) else 0
def Day.fb (d:Day)(a:er->Rat)(i:Nat):Rat:=d.cash i+cI d.de λc=>if c.to=(i:Int) then a c else 0
def Day.FQ {d:Day}{a b:er->Rat}(h:∀c∈d.de,a c<=b c)(i:Nat):d.fb a i<=d.fb b i:=by
 unfold Day.fb
 have:=FP (l:=d.de) (aL:=λc=>if c.to=(i:Int) then a c else 0) (bC:=λc=>if c.to=(i:Int) then b c else 0) λc H=>by
  try dsimp only
  split
  ·exact h c H
  ·exact gg
 grind
def Day.ajN {d:Day}{a b:er->Rat}(h:∀c∈d.de,a c=b c)(i:Nat):d.fb a i=d.fb b i:=by
 unfold Day.fb
 congr 1
 exact xT λc H=>by rw[h c H]
def Day.SM (d:Day)(a b:er->Rat)(i:Nat):d.fb a i-d.fb b i=cI d.de λc=>if c.to=(i:Int) then a c-b c else 0:=by
 unfold Day.fb
 have:(λc:er=>if c.to=(i:Int) then a c-b c else 0)=λc=>(if c.to=(i:Int) then a c else 0)-(if c.to=(i:Int) then b c else 0):=by
  funext c;split<;>grind
 rw[this,NG];grind
def Day.gl (d:Day)(C:Nat->Prop)(x:Nat->Rat):Rat:=bD d.n λi=>if C i then x i else 0
def Day.ayN (d:Day)(C:Nat->Prop)(x y:Nat->Rat):d.gl C (λi=>x i-y i)=d.gl C x-d.gl C y:=by
 unfold Day.gl;rw[<-Jg];exact kD λk _=>by split<;>grind
def Day.ayO (d:Day)(C:Nat->Prop)(x y:Nat->Rat):d.gl C (λi=>x i+y i)=d.gl C x+d.gl C y:=by
 unfold Day.gl;rw[<-wo];exact kD λk _=>by split<;>grind
def Day.ajO {d:Day}{C:Nat->Prop}{x y:Nat->Rat}(h:∀i,i<d.n->C i->x i<=y i):d.gl C x<=d.gl C y:=by
 refine NI λk I=>?_
 by_cases H:C k
 ·rw[ab H,ab H];exact h k I H
 ·rw[ae H,ae H];exact gg
def Day.FR {d:Day}{C:Nat->Prop}{x y:Nat->Rat}(h:∀i,i<d.n->C i->x i=y i):d.gl C x=d.gl C y:=by
 refine kD λk I=>?_
 split
 ·exact h k I (by assumption)
 ·rfl
def Day.aan {d:Day}{C:Nat->Prop}(gT:∀i,C i->i<d.n)(a:er->Rat):d.gl C (d.fb a)=d.gl C d.cash+cI d.de λc=>if ri C c then a c else 0:=by
 rw[<-aah C gT];show bD d.n _=bD d.n _+_;rw[<-wo];refine kD λk _=>?_;unfold Day.fb
 split<;>grind
def Day.closed (d:Day)(f:Nat->Nat)(C:Nat->Prop):Prop:=∀c∈d.de,C c.aE->c.rk=f c.aE->0<c.am->ri C c
def Day.cap (d:Day)(f:Nat->Nat)(g:Nat->Rat)(C:Nat->Prop)(k:Nat):Rat:=if C k then d.U k (f k) else g k
section
variable {d:Day} {f:Nat->Nat} {P:Nat->Prop} {h g:Nat->Rat} {C:Nat->Prop} {c:er}
def Day.ajP (F:c.rk<f c.aE):d.l f P h c=c.am:=by unfold Day.l;rw[ab F]
def Day.ajQ (F:c.rk=f c.aE)(G:P c.aE):d.l f P h c=d.w c*(h c.aE-d.U c.aE c.rk):=by
 unfold Day.l;rw[ae (by omega),ab ⟨F,G⟩]
def Day.aao (F:¬ c.rk<f c.aE)(G:¬ (c.rk=f c.aE/\P c.aE)):d.l f P h c=0:=by
 unfold Day.l;rw[ae F,ae G]
def Day.ayP (F:c.rk<f c.aE):d.q f h c=c.am:=by unfold Day.q;rw[ab F]
def Day.ayQ (F:c.rk=f c.aE):d.q f h c=d.w c*pos (h c.aE-d.U c.aE c.rk):=by
 unfold Day.q;rw[ae (by omega),ab F]
def Day.ayR (F:¬ c.rk<f c.aE)(G:¬ c.rk=f c.aE):d.q f h c=0:=by
 unfold Day.q;rw[ae F,ae G]
def NM (h:¬ C c.aE):d.q f (d.cap f g C) c=d.q f g c:=by
 unfold Day.q Day.cap;rw[ae h]
def Jk (h:C c.aE):d.q f (d.cap f g C) c=if c.rk<f c.aE then c.am else 0:=by
 by_cases F:c.rk<f c.aE
 ·rw[ab F,Day.ayP F]
 ·rw[ae F]
  by_cases G:c.rk=f c.aE
  ·rw[Day.ayQ G];unfold Day.cap;rw[ab h,G,wq (by grind),oZ]
  ·rw[Day.ayR F G]
end
structure Inv (d:Day) (f:Nat->Nat) (g:Nat->Rat):Prop where
 le:∀i,f i<=10
 sup:∀i,i<d.n->d.fb (d.q f g) i<=g i
 bN:∀i,i<d.n->f i<10->d.U i (f i)<=g i
 J:∀i,i<d.n->f i<10->g i<d.U i (f i+1)
 de:∀C:Nat->Prop,(∃i,C i)->(∀i,C i->i<d.n/\f i<10)->d.closed f C->d.gl C (d.fb (d.q f (d.cap f g C)))<d.gl C λi=>d.U i (f i)
def Inv.sm {d:Day}{f:Nat->Nat}{g:Nat->Rat}(h:Inv d f g){i:Nat}(J:i<d.n)(aK:f i<10):0<d.S i (f i):=by
 have F:=h.bN i J aK;have G:=h.J i J aK;rw[d.tk] at G;grind
def Inv.start {d:Day}(Y:d.df):Inv d (λ_=>10) (d.fb λc=>c.am) :=
 ⟨λ_=>bM _,λi _=>d.FQ (λc H=>by
  unfold Day.q;rw[ab (Y.rk c H)];exact gg) i,λi _ h=>absurd h (by omega),λi _ h=>absurd h (by omega),λC ⟨i,J⟩ h=>absurd (h i J).2 (by omega)⟩
def Inv.aap {d:Day}{f:Nat->Nat}{g:Nat->Rat}(J:Inv d f g)(Y:d.df){C:Nat->Prop}(F:∃i,C i)(G:∀i,C i->i<d.n/\f i<10)(af:d.closed f C)(L:er->Rat)(e:Nat->Rat)(he:∀k,k<d.n->C k->0<=e k)
  (ha:∀c∈d.de,ri C c->L c<=d.q f (d.cap f g C) c+if C c.aE/\c.rk=f c.aE then d.w c*e c.aE else 0):d.gl C (d.fb L)<d.gl C λi=>d.U i (f i)+e i:=by
 have bS:=J.de C F G af;have gT:∀i,C i->i<d.n:=λi h=>(G i h).1;have cM:=Y.NL C f (λk I=>J.sm (G k I).1 (G k I).2) e;rw[Day.aan gT] at bS ⊢;rw[Day.ayO]
 have dj:cI d.de (λc=>if ri C c then L c else 0)<=cI d.de λc=>(if ri C c then d.q f (d.cap f g C) c else 0)+(if C c.aE/\c.rk=f c.aE then d.w c*e c.aE else 0):=by
  refine FP λc H=>?_
  have au:0<=if C c.aE/\c.rk=f c.aE then d.w c*e c.aE else 0:=by
   split
   ·exact uX (Y.qj H) (he _ (Y.aE c H) (by rename_i h;exact h.1))
   ·exact gg
  by_cases cn:ri C c
  ·rw[ab cn,ab cn];exact ha c H cn
  ·rw[ae cn,ae cn];grind
 rw[SF,cM] at dj;have iT:d.gl C e=bD d.n λk=>if C k then e k else 0:=rfl;rw[<-iT] at dj;grind
structure iv (d:Day) (f:Nat->Nat) (g:Nat->Rat) (P:Nat->Prop) (h:Nat->Rat):Prop where
 gM:∀i,P i->i<d.n/\f i<10
 SN:∀C:Nat->Prop,(∃i,C i)->(∀i,C i->P i)->¬ d.closed f C
 sys:∀i,i<d.n->h i=d.fb (d.l f P h) i
 le:∀i,i<d.n->h i<=g i
 ge:∀i,P i->d.U i (f i)<h i
def D7 {d:Day}{f:Nat->Nat}{g:Nat->Rat}(J:Inv d f g)(Y:d.df){P:Nat->Prop}(gw:∀i,P i->i<d.n/\f i<10)(bx:∀C:Nat->Prop,(∃i,C i)->(∀i,C i->P i)->¬ d.closed f C)(x:Nat->Rat)
  (Q:∀i,i<d.n->(cI d.de λc=>if c.to=(i:Int) then (if c.rk=f c.aE/\P c.aE then d.w c*x c.aE else 0) else 0)<=x i):∀i,i<d.n->0<=x i:=by
 have key:∀i,P i->0<=x i:=by
  intro i0 qP;apply kE;intro lL;obtain⟨C,uY⟩:∃C:Nat->Prop,∀i,C i↔P i/\x i<0:=⟨λi=>P i/\x i<0,λ_=>Iff.rfl⟩;have gT:∀i,C i->i<d.n:=λi h=>(gw i ((uY i).1 h).1).1;refine bx C ⟨i0,(uY i0).2 ⟨qP,by grind⟩⟩ (λi h=>((uY i).1 h).1) ?_
  have az:=aah C gT d.de λc=>if c.rk=f c.aE/\P c.aE then d.w c*x c.aE else 0;have aD:=Y.NL C f (λk I=>J.sm (gw k ((uY k).1 I).1).1 (gw k ((uY k).1 I).1).2) x
  have bX:bD d.n (λi=>if C i then cI d.de (λc=>if c.to=(i:Int) then (if c.rk=f c.aE/\P c.aE then d.w c*x c.aE else 0) else 0) else 0)<=bD d.n (λk=>if C k then x k else 0):=by
   refine NI λk I=>?_
   by_cases H:C k
   ·rw[ab H,ab H];exact Q k I
   ·rw[ae H,ae H];exact gg
  rw[az,<-aD] at bX;have dE:=aag (l:=d.de) (aL:=λc=>(if ri C c then (if c.rk=f c.aE/\P c.aE then d.w c*x c.aE else 0) else 0)-(if C c.aE/\c.rk=f c.aE then d.w c*x c.aE else 0)) (λc H=>?_) (by rw[NG];grind)
  ·intro c H gU gy uZ;apply kE;intro cn;have:=dE c H
   try dsimp only at this
   rw[ae cn,ab ⟨gU,gy⟩] at this;have F:=Y.NJ H uZ;have G:=((uY _).1 gU).2;have af:0<d.w c*(-x c.aE):=NK F (by grind);grind
  ·try dsimp only
   have F:=Y.qj H
   have fz:((if C c.aE/\c.rk=f c.aE then d.w c*x c.aE else 0)=(if c.rk=f c.aE/\P c.aE then d.w c*x c.aE else 0)/\(if C c.aE/\c.rk=f c.aE then d.w c*x c.aE else 0)<=0)\/((if C c.aE/\c.rk=f c.aE then d.w c*x c.aE else 0)=0/\0<=(if c.rk=f c.aE/\P c.aE then d.w c*x c.aE else 0)):=by
    by_cases gU:C c.aE/\c.rk=f c.aE
    ·left
     have G:=(uY _).1 gU.1;have af:0<=d.w c*(-x c.aE):=uX F (by have:=G.2;grind);have aS:c.rk=f c.aE/\P c.aE:=⟨gU.2,G.1⟩;rw[ab gU,ab aS];exact⟨rfl,by grind⟩
    ·right
     rw[ae gU];refine⟨rfl,?_⟩
     split
     ·rename_i G;refine uX F ?_;apply kE;intro h;exact gU ⟨(uY _).2 ⟨G.2,by grind⟩,G.1⟩
     ·exact gg
   generalize (if C c.aE/\c.rk=f c.aE then d.w c*x c.aE else 0)=B at *;generalize (if c.rk=f c.aE/\P c.aE then d.w c*x c.aE else 0)=A at *;rcases fz with ⟨G,af⟩|⟨G,af⟩<;>split<;>grind
 intro i cn;refine xU ?_ (Q i cn);refine zm λc H=>?_
 split
 ·split
  ·rename_i h;exact uX (Y.qj H) (key _ h.2)
  ·exact gg
 ·exact gg
def Day.ayS (d:Day)(f:Nat->Nat)(P:Nat->Prop)(h cj:Nat->Rat)(c:er):d.l f P cj c-d.l f P h c=if c.rk=f c.aE/\P c.aE then d.w c*(cj c.aE-h c.aE) else 0:=by
 unfold Day.l
 by_cases F:c.rk<f c.aE
 ·rw[ab F,ab F,ae (by omega)];grind
 ·rw[ae F,ae F]
  split<;>grind
def ayT {d:Day}{f:Nat->Nat}{g:Nat->Rat}(J:Inv d f g)(Y:d.df){P:Nat->Prop}(gw:∀i,P i->i<d.n/\f i<10)(bx:∀C:Nat->Prop,(∃i,C i)->(∀i,C i->P i)->¬ d.closed f C){h cj:Nat->Rat}
  (e:∀i,i<d.n->h i=d.fb (d.l f P h) i) (e':∀i,i<d.n->cj i=d.fb (d.l f P cj) i):∀i,i<d.n->h i=cj i:=by
 have main:∀h cj:Nat->Rat,(∀i,i<d.n->h i=d.fb (d.l f P h) i)->(∀i,i<d.n->cj i=d.fb (d.l f P cj) i)->∀i,i<d.n->0<=cj i-h i:=by
  intro h cj e e';refine D7 J Y gw bx (λi=>cj i-h i) λi cn=>?_;rw[e i cn,e' i cn,d.SM];refine FO (xT λc H=>?_);rw[d.ayS]
 intro i cn;have F:=main h cj e e' i cn;have G:=main cj h e' e i cn;grind
def ayU {d:Day}{f:Nat->Nat}{g:Nat->Rat}(J:Inv d f g)(Y:d.df){P:Nat->Prop}(gw:∀i,P i->i<d.n/\f i<10)(bx:∀C:Nat->Prop,(∃i,C i)->(∀i,C i->P i)->¬ d.closed f C)(x:Nat->Rat)
  (Q:∀i,i<d.n->x i=cI d.de λc=>if c.to=(i:Int) then (if c.rk=f c.aE/\P c.aE then d.w c*x c.aE else 0) else 0):∀i,i<d.n->x i=0:=by
 intro i cn;have F:=D7 J Y gw bx x (λi cn=>FO (Q i cn).symm) i cn;have G:=D7 J Y gw bx (λi => -x i) (λi cn=>?_) i cn
 ·grind
 ·rw[Q i cn];refine FO ?_;have:∀aL:er->Rat,-(cI d.de aL)=cI d.de λc=>(-1)*aL c:=λaL=>by rw[SG];grind
  rw[this];refine xT λc H=>?_
  split
  ·split<;>grind
  ·grind
def Day.ayV {d:Day}(Y:d.df){f:Nat->Nat}{P:Nat->Prop}{h g:Nat->Rat}(hle:∀i,i<d.n->h i<=g i){c:er}(H:c∈d.de):d.l f P h c<=d.q f g c:=by
 unfold Day.l Day.q
 by_cases F:c.rk<f c.aE
 ·rw[ab F,ab F];exact gg
 ·rw[ae F,ae F]
  by_cases G:c.rk=f c.aE
  ·rw[ab G];have hw:=Y.qj H
   by_cases af:P c.aE
   ·rw[ab ⟨G,af⟩];refine Da hw (xU ?_ (SK _));have:=hle _ (Y.aE c H);grind
   ·rw[ae λh=>af h.2];exact uX hw (Jj _)
  ·rw[ae λh=>G h.1,ae G];exact gg
def iv.start {d:Day}(Y:d.df){f:Nat->Nat}{g:Nat->Rat}(J:Inv d f g){h:Nat->Rat}(X:∀i,i<d.n->h i=d.fb (d.l f (λ_=>False) h) i):iv d f g (λ_=>False) h :=
 ⟨λi h=>h.elim,λC ⟨i,h⟩ cj=>(cj i h).elim,X,λi cn=>by
  rw[X i cn];refine xU (d.FQ (b:=d.q f g) (λc H=>?_) i) (J.sup i cn);unfold Day.l Day.q
  by_cases F:c.rk<f c.aE
  ·rw[ab F,ab F];exact gg
  ·rw[ae F,ae F,ae λh=>h.2]
   split
   ·exact uX (Y.qj H) (Jj _)
   ·exact gg,λi h=>h.elim⟩
def tn (d:Day)(f:Nat->Nat)(P:Nat->Prop)(h:Nat->Rat)(i:Nat):Prop:=P i\/(i<d.n/\f i<10/\d.U i (f i)<h i)
def iv.Jl {d:Day}{f:Nat->Nat}{g:Nat->Rat}{P:Nat->Prop}{h:Nat->Rat}(aF:iv d f g P h):∀i,tn d f P h i->i<d.n/\f i<10:=λi aH=>aH.elim (aF.gM i) λh=>⟨h.1,h.2.1⟩
def iv.aaq {d:Day}{f:Nat->Nat}{g:Nat->Rat}{P:Nat->Prop}{h:Nat->Rat}(aF:iv d f g P h):∀i,tn d f P h i->d.U i (f i)<h i:=λi aH=>aH.elim (aF.ge i) λh=>h.2.2
def iv.ajR {d:Day}(Y:d.df){f:Nat->Nat}{g:Nat->Rat}(J:Inv d f g){P:Nat->Prop}{h:Nat->Rat}(aF:iv d f g P h):∀C:Nat->Prop,(∃i,C i)->(∀i,C i->tn d f P h i)->¬ d.closed f C:=by
 intro C F G af;have aK:∀i,C i->i<d.n/\f i<10:=λi H=>aF.Jl i (G i H)
 have g2:=J.aap Y F aK af (d.l f P h) (λk=>if P k then h k-d.U k (f k) else 0) (λk _ I=>by
  try dsimp only
  split
  ·have:=aF.ge k (by assumption);grind
  ·exact gg) λc H _=>by
   by_cases dj:C c.aE
   ·rw[Jk dj]
    by_cases bS:c.rk<f c.aE
    ·rw[Day.ajP bS,ab bS,ae (λh=>by have:=h.2;omega)];grind
    ·rw[ae bS]
     by_cases cM:c.rk=f c.aE
     ·have nv:C c.aE/\c.rk=f c.aE:=⟨dj,cM⟩;rw[ab nv]
      by_cases iT:P c.aE
      ·rw[Day.ajQ cM iT,ab iT,cM];grind
      ·rw[Day.aao bS (λh=>iT h.2),ae iT];grind
     ·rw[Day.aao bS (λh=>cM h.1),ae λh=>cM h.2];grind
   ·rw[NM dj,ae λh=>dj h.1];have:=Day.ayV Y (P:=P) (f:=f) aF.le H;grind
 have e:d.gl C (d.fb (d.l f P h))=d.gl C h:=Day.FR λi cn _=>(aF.sys i cn).symm;rw[e] at g2
 have:d.gl C (λi=>d.U i (f i)+if P i then h i-d.U i (f i) else 0)<=d.gl C h:=by
  refine Day.ajO λi cn H=>?_;have:=aF.aaq i (G i H)
  split<;>grind
 grind
def iv.next {d:Day}(Y:d.df){f:Nat->Nat}{g:Nat->Rat}(J:Inv d f g){P:Nat->Prop}{h cj:Nat->Rat}(aF:iv d f g P h)(X:∀i,i<d.n->cj i=d.fb (d.l f (tn d f P h) cj) i):iv d f g (tn d f P h) cj:=by
 have bx:=aF.ajR Y J
 have uF:∀i,i<d.n->0<=cj i-h i:=by
  refine D7 J Y aF.Jl bx (λi=>cj i-h i) λi cn=>?_;rw[X i cn,aF.sys i cn,d.SM];refine FP λc H=>?_;have hw:=Y.qj H
  split
  ·unfold Day.l
   by_cases F:c.rk<f c.aE
   ·rw[ab F,ab F,ae (by omega)];grind
   ·rw[ae F,ae F]
    by_cases G:c.rk=f c.aE
    ·by_cases af:tn d f P h c.aE
     ·rw[ab ⟨G,af⟩,ab ⟨G,af⟩]
      by_cases aS:P c.aE
      ·rw[ab ⟨G,aS⟩];grind
      ·rw[ae λh=>aS h.2];have bt:=aF.aaq _ af;have:=uX hw (show 0<=h c.aE-d.U c.aE c.rk by rw[G];grind);grind
     ·rw[ae λh=>af h.2,ae λh=>af h.2,ae λh=>af (.inl h.2)];grind
    ·rw[ae λh=>G h.1,ae λh=>G h.1,ae λh=>G h.1];grind
  ·exact gg
 have hle:∀i,i<d.n->0<=g i-cj i:=by
  refine D7 J Y aF.Jl bx (λi=>g i-cj i) λi cn=>?_;refine xU ?_ (show d.fb (d.q f g) i-cj i<=g i-cj i by have:=J.sup i cn;grind);rw[X i cn,d.SM];refine FP λc H=>?_;have hw:=Y.qj H
  split
  ·unfold Day.l Day.q
   by_cases F:c.rk<f c.aE
   ·rw[ab F,ab F,ae (by omega)];grind
   ·rw[ae F,ae F]
    by_cases G:c.rk=f c.aE
    ·rw[ab G]
     by_cases af:tn d f P h c.aE
     ·rw[ab ⟨G,af⟩,ab ⟨G,af⟩];have:=Da hw (SK (g c.aE-d.U c.aE c.rk));grind
     ·rw[ae λh=>af h.2,ae λh=>af h.2];have:=uX hw (Jj (g c.aE-d.U c.aE c.rk));grind
    ·rw[ae λh=>G h.1,ae G,ae λh=>G h.1];grind
  ·exact gg
 exact⟨aF.Jl,bx,X,λi cn=>by have:=hle i cn;grind,λi aH=>by
  have F:=aF.aaq i aH;have G:=uF i (aF.Jl i aH).1;grind⟩
def iv.stop {d:Day}(Y:d.df){f:Nat->Nat}{g:Nat->Rat}{P:Nat->Prop}{h:Nat->Rat}(aF:iv d f g P h)(J:Inv d f g)(NN:∀i,i<d.n->f i<10->d.U i (f i)<h i->P i):∀i,i<d.n->h i=d.fb (d.q f h) i:=by
 intro i cn;rw[aF.sys i cn];refine d.ajN (λc H=>?_) i;unfold Day.l Day.q
 by_cases F:c.rk<f c.aE
 ·rw[ab F,ab F]
 ·rw[ae F,ae F]
  by_cases G:c.rk=f c.aE
  ·rw[ab G]
   by_cases af:P c.aE
   ·rw[ab ⟨G,af⟩,tl];have:=aF.ge _ af;rw[G];grind
   ·rw[ae λh=>af h.2,wq]
    ·grind
    ·apply kE;intro aH;refine af (NN _ (Y.aE c H) (by rw[<-G];exact Y.rk c H) ?_);rw[<-G];grind
  ·rw[ae λh=>G h.1,ae G]
end Go.Mini
namespace Go.Mini
open Classical
def Day.hd (d:Day)(h:Nat->Rat)(c:er):Rat:=if d.U c.aE (c.rk+1)<=h c.aE then c.am else d.w c*pos (h c.aE-d.U c.aE c.rk)
def Day.df.SO {d:Day}(Y:d.df){c:er}(H:c∈d.de){x:Rat}(h:x<=d.S c.aE c.rk):d.w c*x<=c.am:=by
 have au:=Y.am c H;have F:=Y.SJ H
 by_cases cB:0<d.S c.aE c.rk
 ·have:=Da (Y.qj H) h;rw[Day.C9 cB] at this;exact this
 ·rw[Day.Ni (by grind),Ji];exact au
def Day.df.aar {d:Day}(Y:d.df)(h:Nat->Rat){c:er}(H:c∈d.de):d.hd h c<=c.am:=by
 unfold Day.hd
 split
 ·exact gg
 ·rename_i aH;refine Y.SO H ?_;rw[d.tk] at aH;have:=Y.SI c.aE c.rk;unfold pos
  split<;>grind
def Day.df.aas {d:Day}(Y:d.df)(h:Nat->Rat){c:er}(H:c∈d.de):0<=d.hd h c:=by
 unfold Day.hd
 split
 ·exact Y.am c H
 ·exact uX (Y.qj H) (Jj _)
def Day.df.SP {d:Day}(Y:d.df)(f:Nat->Nat)(h:Nat->Rat){c:er}(H:c∈d.de):0<=d.q f h c:=by
 unfold Day.q
 split
 ·exact Y.am c H
 ·split
  ·exact uX (Y.qj H) (Jj _)
  ·exact gg
def Day.df.aat {d:Day}(Y:d.df){a:er->Rat}(h:∀c∈d.de,0<=a c){i:Nat}(J:i<d.n):0<=d.fb a i:=by
 unfold Day.fb;have F:=Y.cash i J
 have:=zm (l:=d.de) (aL:=λc=>if c.to=(i:Int) then a c else 0) λc H=>by
  try dsimp only
  split
  ·exact h c H
  ·exact gg
 grind
def Day.df.ajS {d:Day}(Y:d.df){f:Nat->Nat}{h g:Nat->Rat}{c:er}(H:c∈d.de)(hle:h c.aE<=g c.aE):d.q f h c<=d.q f g c:=by
 unfold Day.q
 split
 ·exact gg
 ·split
  ·exact Da (Y.qj H) (aam (by grind))
  ·exact gg
def aau (d:Day)(f:Nat->Nat)(h:Nat->Rat)(hc:Nat->Nat):Prop:=(∀i,hc i<=10)/\(∀i,i<d.n->h i<d.U i (f i)->hc i<f i/\d.U i (hc i)<=h i/\h i<d.U i (hc i+1))/\∀i,i<d.n->d.U i (f i)<=h i->hc i=f i
def aav {d:Day}(Y:d.df){f hc:Nat->Nat}{h:Nat->Rat}(aK:aau d f h hc){c:er}(H:c∈d.de):d.q hc h c<=d.q f h c:=by
 obtain⟨-,F,G⟩:=aK;have bw:=Y.aE c H
 by_cases eW:h c.aE<d.U c.aE (f c.aE)
 ·obtain⟨bS,cM,dj⟩:=F _ bw eW;unfold Day.q
  by_cases eU:c.rk<hc c.aE
  ·rw[ab eU,ab (by omega)];exact gg
  ·rw[ae eU]
   by_cases ey:c.rk=hc c.aE
   ·rw[ab ey,ab (by omega)];rw[<-ey] at cM dj;rw[d.tk] at dj;exact Y.SO H (by rw[tl (by grind)];grind)
   ·rw[ae ey];exact Y.SP f h H
 ·have:=G _ bw (by grind);unfold Day.q;rw[this];exact gg
def Inv.NO {d:Day}(Y:d.df){f hc:Nat->Nat}{g h:Nat->Rat}(J:Inv d f g)(zn:∀i,i<d.n->h i=d.fb (d.q f h) i)(hle:∀i,i<d.n->h i<=g i)(aK:aau d f h hc):Inv d hc h:=by
 have fB:∀i,i<d.n->hc i<10->d.U i (hc i)<=h i:=by
  intro i cn C0
  by_cases eW:h i<d.U i (f i)
  ·exact (aK.2.1 i cn eW).2.1
  ·rw[aK.2.2 i cn (by grind)];grind
 have jq:∀i,i<d.n->hc i<10->h i<d.U i (hc i+1):=by
  intro i cn C0
  by_cases eW:h i<d.U i (f i)
  ·exact (aK.2.1 i cn eW).2.2
  ·have e:=aK.2.2 i cn (by grind);rw[e] at C0 ⊢;have:=J.J i cn C0;have:=hle i cn;grind
 have cB:∀i,i<d.n->hc i<10->0<d.S i (hc i):=by
  intro i cn C0;have F:=fB i cn C0;have G:=jq i cn C0;rw[d.tk] at G;grind
 refine⟨aK.1,λi cn=>?_,fB,jq,λC F G af=>?_⟩
 ·exact xU (d.FQ (λc H=>aav Y aK H) i) (FO (zn i cn).symm)
 ·have gT:∀i,C i->i<d.n:=λi H=>(G i H).1
  by_cases hex:∃k,C k/\h k<d.U k (f k)
  ·obtain⟨fZ,l6,eW⟩:=hex;have ajT:=gT fZ l6;obtain⟨c6,eB,jA⟩:=aK.2.1 fZ ajT eW;have q3:=cB fZ ajT (G fZ l6).2;obtain⟨k1,mN,qY⟩:=NH q3
   have ayW:k1.aE=fZ/\k1.rk=hc fZ/\0<k1.am:=by
    by_cases aX:k1.aE=fZ/\k1.rk=hc fZ
    ·rw[ab aX] at qY;exact⟨aX.1,aX.2,qY⟩
    ·rw[ae aX] at qY;exact absurd qY (by grind)
   obtain⟨cH,cY,ep⟩:=ayW;have az:=Day.aan gT (d.q f h);have aD:=Day.aan gT (d.q hc (d.cap hc h C));have bX:d.gl C (d.fb (d.q f h))=d.gl C h:=Day.FR λi cn _=>(zn i cn).symm;have dE:=Y.NL C hc (λk I=>cB k (gT k I) (G k I).2) λk=>h k-d.U k (hc k);have c8:d.gl C (λk=>h k-d.U k (hc k))=bD d.n λk=>if C k then h k-d.U k (hc k) else 0:=rfl;rw[<-c8,d.ayN] at dE
   have bP:cI d.de (λc=>(if ri C c then d.q hc (d.cap hc h C) c else 0)+(if C c.aE/\c.rk=hc c.aE then d.w c*(h c.aE-d.U c.aE (hc c.aE)) else 0))<cI d.de (λc=>if ri C c then d.q f h c else 0):=by
    refine ayK (λc H=>?_) mN ?_
    ·have bw:=Y.aE c H
     by_cases cn:ri C c
     ·rw[ab cn,ab cn]
      by_cases gU:C c.aE
      ·rw[Jk gU]
       by_cases eU:c.rk<hc c.aE
       ·rw[ab eU,ae (by omega)]
        have:c.rk<f c.aE:=by
         by_cases eW:h c.aE<d.U c.aE (f c.aE)
         ·have:=(aK.2.1 _ bw eW).1;omega
         ·rw[<-aK.2.2 _ bw (by grind)];exact eU
        unfold Day.q;rw[ab this];grind
       ·rw[ae eU]
        by_cases ey:c.rk=hc c.aE
        ·rw[ab ⟨gU,ey⟩]
         by_cases eW:h c.aE<d.U c.aE (f c.aE)
         ·obtain⟨bS,cM,dj⟩:=aK.2.1 _ bw eW;unfold Day.q;rw[ab (by omega)];rw[d.tk] at dj;have:=Y.SO H (x:=h c.aE-d.U c.aE (hc c.aE)) (by rw[ey];grind);grind
         ·have e:=aK.2.2 _ bw (by grind);rw[e] at eU ey ⊢;unfold Day.q;rw[ae eU,ab ey,<-ey];have:=Da (Y.qj H) (SK (h c.aE-d.U c.aE c.rk));grind
        ·rw[ae λh=>ey h.2];have:=Y.SP f h H;grind
      ·rw[NM gU,ae λh=>gU h.1];have:=aav Y aK H;grind
     ·rw[ae cn,ae cn]
      by_cases gU:C c.aE/\c.rk=hc c.aE
      ·rw[ab gU]
       have:c.am=0:=by
        have au:=Y.am c H
        by_cases aF:0<c.am
        ·exact absurd (af c H gU.1 gU.2 aF) cn
        ·grind
       rw[Day.Ni this];grind
      ·rw[ae gU];grind
    ·have gU:C k1.aE:=by rw[cH];exact l6
     have gy:k1.rk=hc k1.aE:=by rw[cH];exact cY
     have cn:=af k1 mN gU gy ep;rw[ab cn,ab cn,Jk gU,ae (by omega),ab ⟨gU,gy⟩];unfold Day.q;rw[ab (by rw[cH];omega)];have hw:=Y.NJ mN ep;have YL:=d.C9 (c:=k1) (by rw[cH,cY];exact q3);rw[d.tk] at jA;rw[<-cH,<-gy] at jA;rw[<-gy];have:0<d.w k1*(d.S k1.aE k1.rk-(h k1.aE-d.U k1.aE k1.rk)):=NK hw (by rw[cH] at jA ⊢;grind);grind
   rw[SF,dE] at bP;grind
  ·have yw:∀k,C k->hc k=f k:=λk I=>aK.2.2 k (gT k I) (by
    apply kE;intro aH;exact hex ⟨k,I,by grind⟩)
   have bS:=J.de C F (λi H=>⟨gT i H,by rw[<-yw i H];exact (G i H).2⟩) (λc H gU gy uZ=>af c H gU (by rw[yw _ gU];exact gy) uZ);have cM:d.gl C (λi=>d.U i (hc i))=d.gl C λi=>d.U i (f i):=Day.FR λi _ H=>by rw[yw i H]
   rw[cM]
   have dj:d.gl C (d.fb (d.q hc (d.cap hc h C)))<=d.gl C (d.fb (d.q f (d.cap f g C))):=by
    refine Day.ajO λi _ _=>d.FQ (λc H=>?_) i
    by_cases gU:C c.aE
    ·rw[Jk gU,Jk gU,yw _ gU];exact gg
    ·rw[NM gU,NM gU];exact xU (aav Y aK H) (Y.ajS H (hle _ (Y.aE c H)))
   grind
def Day.wu (d:Day)(h:Nat->Rat)(i:Nat):Rat:=d.fb (d.hd h) i
def ayX {d:Day}(Y:d.df){f:Nat->Nat}{g z:Nat->Rat}(J:Inv d f g)(aV:∀i,i<d.n->z i<=g i){c:er}(H:c∈d.de):d.hd z c<=d.q f z c:=by
 have bw:=Y.aE c H;have gy:=Y.rk c H;unfold Day.q
 by_cases eU:c.rk<f c.aE
 ·rw[ab eU];exact Y.aar z H
 ·rw[ae eU];have g3:f c.aE<10:=by omega
  have F:=J.J _ bw g3;have G:=aV _ bw
  by_cases ey:c.rk=f c.aE
  ·rw[ab ey];unfold Day.hd;rw[ae (by rw[ey];grind)];exact gg
  ·rw[ae ey];have af:=Y.uW c.aE (r:=f c.aE+1) (s:=c.rk) (by omega);have aS:=Y.uW c.aE (r:=c.rk) (s:=c.rk+1) (by omega);unfold Day.hd;rw[ae (by grind),wq (by grind),oZ];exact gg
def Inv.aaw {d:Day}(Y:d.df){f:Nat->Nat}{g h z:Nat->Rat}(J:Inv d f g)(zn:∀i,i<d.n->h i=d.fb (d.q f h) i)(hle:∀i,i<d.n->h i<=g i)(aV:∀i,i<d.n->z i<=d.fb (d.q f z) i):∀i,i<d.n->z i<=h i:=by
 intro i0 qP;apply kE;intro lL;obtain⟨C,uY⟩:∃C:Nat->Prop,∀i,C i↔i<d.n/\h i<z i:=⟨λi=>i<d.n/\h i<z i,λ_=>Iff.rfl⟩;obtain⟨Jm,Bb⟩:∃jf:Nat->Prop,∀i,jf i↔C i/\f i<10:=⟨λi=>C i/\f i<10,λ_=>Iff.rfl⟩;have gT:∀i,C i->i<d.n:=λi h=>((uY i).1 h).1;have Jn:∀i,C i->h i<z i:=λi h=>((uY i).1 h).2;have bE:∃i,C i:=⟨i0,(uY i0).2 ⟨qP,by grind⟩⟩
 have az:=aah C gT d.de λc=>d.q f z c-d.q f h c;have aD:=Y.NL Jm f (λk I=>J.sm (gT k ((Bb k).1 I).1) ((Bb k).1 I).2) λk=>z k-h k
 have bX:d.gl C (λi=>z i-h i)<=bD d.n λi=>if C i then cI d.de (λc=>if c.to=(i:Int) then d.q f z c-d.q f h c else 0) else 0:=by
  refine NI λk I=>?_
  by_cases H:C k
  ·rw[ab H,ab H,<-d.SM,<-zn k I];have F:=aV k I;grind
  ·rw[ae H,ae H];exact gg
 rw[az] at bX
 have dE:bD d.n (λk=>if Jm k then z k-h k else 0)<=d.gl C (λi=>z i-h i):=by
  refine NI λk I=>?_
  by_cases H:C k
  ·rw[ab H];have:=Jn k H
   split<;>grind
  ·rw[ae H,ae λh=>H ((Bb k).1 h).1];exact gg
 have ajU:∀c∈d.de,0<=(if Jm c.aE/\c.rk=f c.aE then d.w c*(z c.aE-h c.aE) else 0)-(if ri C c then d.q f z c-d.q f h c else 0):=by
  intro c H;have hw:=Y.qj H;have bw:=Y.aE c H;have gy:=Y.rk c H
  by_cases F:Jm c.aE/\c.rk=f c.aE
  ·rw[ab F];have G:0<=d.w c*(z c.aE-h c.aE):=uX hw (by have:=Jn _ ((Bb _).1 F.1).1;grind)
   have af:d.q f z c-d.q f h c<=d.w c*(z c.aE-h c.aE):=by
    unfold Day.q;rw[ae (by omega),ab F.2,ae (by omega),ab F.2]
    have aS:pos (z c.aE-d.U c.aE c.rk)-pos (h c.aE-d.U c.aE c.rk)<=z c.aE-h c.aE:=by
     have:=Jn _ ((Bb _).1 F.1).1;unfold pos
     split<;>split<;>grind
    have:=Da hw aS;grind
   split<;>grind
  ·rw[ae F]
   have af:d.q f z c-d.q f h c<=0:=by
    unfold Day.q
    by_cases eU:c.rk<f c.aE
    ·rw[ab eU,ab eU];grind
    ·rw[ae eU,ae eU]
     by_cases ey:c.rk=f c.aE
     ·rw[ab ey,ab ey]
      have aS:z c.aE<=h c.aE:=by
       apply kE;intro aH;exact F ⟨(Bb _).2 ⟨(uY _).2 ⟨bw,by grind⟩,by omega⟩,ey⟩
      have:=Da hw (aam (show z c.aE-d.U c.aE c.rk<=h c.aE-d.U c.aE c.rk by grind));grind
     ·rw[ae ey,ae ey];grind
   split<;>grind
 have ayY:=aag ajU (by rw[NG,aD];grind)
 have aax:∀k,C k->f k<10:=by
  have:bD d.n (λk=>(if C k then z k-h k else 0)-(if Jm k then z k-h k else 0))<=0:=by
   rw[Jg];have:0<=cI d.de λc=>(if Jm c.aE/\c.rk=f c.aE then d.w c*(z c.aE-h c.aE) else 0)-(if ri C c then d.q f z c-d.q f h c else 0):=zm ajU;rw[NG,aD] at this;have bt:d.gl C (λi=>z i-h i)=bD d.n λk=>if C k then z k-h k else 0:=rfl;grind
  have aH:=ayL (λk I=>by
   try dsimp only
   by_cases H:C k
   ·rw[ab H];have:=Jn k H
    split<;>grind
   ·rw[ae H,ae λh=>H ((Bb k).1 h).1];grind) this
  intro k I;apply kE;intro g3;have:=aH k (gT k I)
  try dsimp only at this
  rw[ab I,ae λh=>g3 ((Bb k).1 h).2] at this;have:=Jn k I;grind
 have cn:∀c∈d.de,C c.aE->c.rk=f c.aE->0<c.am->ri C c/\d.U c.aE c.rk<=h c.aE:=by
  intro c H gU gy uZ;have au:=ayY c H;have hw:=Y.NJ H uZ;have aq:=Jn _ gU
  try dsimp only at au
  rw[ab ⟨(Bb _).2 ⟨gU,aax _ gU⟩,gy⟩] at au
  by_cases cn:ri C c
  ·refine⟨cn,?_⟩;rw[ab cn] at au;unfold Day.q at au;rw[ae (by omega),ab gy,ae (by omega),ab gy] at au;apply kE;intro aH;rw[wq (x:=h c.aE-d.U c.aE c.rk) (by grind)] at au
   have aS:0<z c.aE-h c.aE-pos (z c.aE-d.U c.aE c.rk):=by
    unfold pos
    split<;>grind
   have:=NK hw aS;grind
  ·rw[ae cn] at au;have:0<d.w c*(z c.aE-h c.aE):=NK hw (by grind);grind
 have mg:∀k,C k->d.U k (f k)<=h k:=by
  intro k I;have X:=J.sm (gT k I) (aax k I);obtain⟨k1,mN,qY⟩:=NH X
  by_cases aX:k1.aE=k/\k1.rk=f k
  ·rw[ab aX] at qY;have:=(cn k1 mN (by rw[aX.1];exact I) (by rw[aX.1];exact aX.2) qY).2;rwa [aX.1,aX.2] at this
  ·rw[ae aX] at qY;exact absurd qY (by grind)
 have g2:=J.aap Y bE (λi H=>⟨gT i H,aax i H⟩) (λc H gU gy uZ=>(cn c H gU gy uZ).1) (d.q f h) (λk=>h k-d.U k (f k)) (λk _ I=>by have:=mg k I;grind) λc H _=>by
  by_cases gU:C c.aE
  ·rw[Jk gU];unfold Day.q
   by_cases eU:c.rk<f c.aE
   ·rw[ab eU,ab eU,ae (by omega)];grind
   ·rw[ae eU,ae eU]
    by_cases ey:c.rk=f c.aE
    ·rw[ab ey,ab ⟨gU,ey⟩,ey,tl (by have:=mg _ gU;grind)];grind
    ·rw[ae ey,ae λh=>ey h.2];grind
  ·rw[NM gU,ae λh=>gU h.1];have:=Y.ajS (f:=f) H (hle _ (Y.aE c H));grind
 have b2:d.gl C (d.fb (d.q f h))=d.gl C h:=Day.FR λi cn _=>(zn i cn).symm;have cb:d.gl C (λi=>d.U i (f i)+(h i-d.U i (f i)))=d.gl C h:=Day.FR λi _ _=>by grind
 rw[b2,cb] at g2;exact absurd g2 (by grind)
def Inv.final {d:Day}(Y:d.df){f:Nat->Nat}{g h:Nat->Rat}(J:Inv d f g)(zn:∀i,i<d.n->h i=d.fb (d.q f h) i)(hle:∀i,i<d.n->h i<=g i)(fp:∀i,i<d.n->d.U i (f i)<=h i):(∀i,i<d.n->h i=d.wu h i)/\∀i,i<d.n->(f i<10↔h i<d.U i 10):=by
 constructor
 ·intro i cn;rw[zn i cn];unfold Day.wu;have:∀j,j<d.n->h j=d.fb (d.q f h) j:=zn;refine d.ajN (λc H=>?_) i;have bw:=Y.aE c H;have gy:=Y.rk c H;have au:=fp _ bw;unfold Day.q Day.hd
  by_cases eU:c.rk<f c.aE
  ·have:=Y.uW c.aE (r:=c.rk+1) (s:=f c.aE) (by omega);rw[ab eU,ab (by grind)]
  ·rw[ae eU];have g3:f c.aE<10:=by omega
   have F:=J.J _ bw g3;have G:=hle _ bw
   by_cases ey:c.rk=f c.aE
   ·rw[ab ey,ae (by rw[ey];grind)]
   ·have af:=Y.uW c.aE (r:=f c.aE+1) (s:=c.rk) (by omega);have aS:=Y.uW c.aE (r:=c.rk) (s:=c.rk+1) (by omega);rw[ae ey,ae (by grind),wq (by grind),oZ]
 ·intro i cn
  constructor
  ·intro g3;have F:=J.J _ cn g3;have G:=hle _ cn;have af:=Y.uW i (r:=f i+1) (s:=10) (by omega);grind
  ·intro F;apply kE;intro G;have af:=J.le i;have aS:f i=10:=by omega
   have bt:=fp i cn;rw[aS] at bt;grind
end Go.Mini
namespace Go.Mini
open Classical
def nY (d:Day)(f:Nat->Nat)(h:Nat->Rat):Prop:=∃g,Inv d f g/\(∀i,i<d.n->h i=d.fb (d.q f h) i)/\∀i,i<d.n->h i<=g i
def nY.unique {d:Day}(Y:d.df){f:Nat->Nat}{h cj:Nat->Rat}(a:nY d f h)(b:nY d f cj):∀i,i<d.n->h i=cj i:=by
 obtain⟨g,F,G,af⟩:=a;obtain⟨cV,bS,cM,dj⟩:=b;intro i cn;have az:=F.aaw Y G af (z:=cj) (λi J=>FO (cM i J)) i cn;have aD:=bS.aaw Y cM dj (z:=h) (λi J=>FO (G i J)) i cn;grind
def Day.jS (d:Day)(h:Nat->Rat)(i:Nat):Nat->Nat
 |0=>10
 |k+1=>if h i<d.U i (10-(k+1)+1) then 10-(k+1) else Day.jS d h i k
def aay {d:Day}(Y:d.df){h:Nat->Rat}{i:Nat}:∀k,k<=10->d.U i (10-k)<=h i->(d.jS h i k=10/\d.U i 10<=h i)\/(10-k<=d.jS h i k/\d.jS h i k<10/\d.U i (d.jS h i k)<=h i/\h i<d.U i (d.jS h i k+1))
 |0,_,au => .inl ⟨rfl,au⟩
 |k+1,I,au=>by
  unfold Day.jS
  by_cases F:h i<d.U i (10-(k+1)+1)
  ·rw[ab F];exact .inr ⟨bM _,by omega,au,F⟩
  ·rw[ae F];rcases aay Y (h:=h) (i:=i) k (by omega) (by rw[show 10-k=10-(k+1)+1 by omega];grind) with e|⟨az,aD⟩
   ·exact .inl e
   ·exact .inr ⟨by omega,aD⟩
def Day.gM (d:Day)(f:Nat->Nat)(h:Nat->Rat)(i:Nat):Nat:=if i<d.n/\h i<d.U i (f i) then d.jS h i 10 else f i
def aaz {d:Day}(Y:d.df){f:Nat->Nat}{h:Nat->Rat}(hle:∀i,f i<=10)(au:∀i,i<d.n->0<=h i):aau d f h (d.gM f h):=by
 have key:∀i,i<d.n->h i<d.U i (f i)->d.jS h i 10<f i/\d.U i (d.jS h i 10)<=h i/\h i<d.U i (d.jS h i 10+1):=by
  intro i cn eW;have hm:=Y.uW i (hle i);rcases aay Y (h:=h) (i:=i) 10 (bM _) (by rw[lf,d.SH];exact au i cn) with ⟨-,e⟩|⟨-,az,aD,bX⟩
  ·grind
  ·refine⟨?_,aD,bX⟩;apply kE;intro aH;have:=Y.uW i (r:=f i) (s:=d.jS h i 10) (by omega);grind
 refine⟨λi=>?_,λi cn eW=>?_,λi cn eW=>?_⟩
 ·unfold Day.gM
  split
  ·rename_i aX;have:=(key i aX.1 aX.2).1;have:=hle i;omega
  ·exact hle i
 ·unfold Day.gM;rw[ab ⟨cn,eW⟩];exact key i cn eW
 ·unfold Day.gM;rw[ae λaX=>by have:=aX.2;grind]
def nY.NO {d:Day}(Y:d.df){f:Nat->Nat}{h:Nat->Rat}(a:nY d f h):Inv d (d.gM f h) h:=by
 obtain⟨g,F,G,af⟩:=a;exact F.NO Y G af (aaz Y F.le λi cn=>by rw[G i cn];exact Y.aat (λc H=>Y.SP f h H) cn)
def nY.SQ {d:Day}(Y:d.df){f:Nat->Nat}{h:Nat->Rat}(a:nY d f h){i:Nat}(cn:i<d.n):0<=h i:=by
 obtain⟨g,F,G,af⟩:=a;rw[G i cn];exact Y.aat (λc H=>Y.SP f h H) cn
def Day.top (d:Day)(f:Nat->Nat):Nat->Rat:=if h:∃x,nY d f x then vD h else λ_=>0
def Day.ie (d:Day)(f:Nat->Nat):List Nat:=(dD d.n).filter λi=>decide (d.top f i<d.U i (f i))
def Day.rounds (d:Day):Nat->(Nat->Nat)->List (List Nat)×(Nat->Nat)
 |0,f=>([],f)
 |k+1,f=>if d.ie f=[] then ([],f) else (d.ie f::(Day.rounds d k (d.gM f (d.top f))).1,(Day.rounds d k (d.gM f (d.top f))).2)
def Reach (d:Day)(f:Nat->Nat):Prop:=∃g,Inv d f g/\∀z,(∀i,i<d.n->z i<=d.wu z i)->∀i,i<d.n->z i<=g i
def Reach.start {d:Day}(Y:d.df):Reach d λ_=>10:=⟨_,Inv.start Y,λz aV i cn=>xU (aV i cn) (d.FQ (λ_ H=>Y.aar z H) i)⟩
def m4:Nat->(Nat->Nat)->Nat
 |0,_=>0
 |n+1,f=>m4 n f+f n
def ayZ {n:Nat}{f g:Nat->Nat}(h:∀i,i<n->f i<=g i):m4 n f<=m4 n g:=by
 induction n with
 |zero=>exact bM _
 |succ n av =>
  have:=av λi J=>h i (by omega);have:=h n (by omega);simp only[m4];omega
def aaA {n:Nat}{f g:Nat->Nat}(h:∀i,i<n->f i<=g i){j:Nat}(ag:j<n)(aq:f j<g j):m4 n f<m4 n g:=by
 induction n with
 |zero=>omega
 |succ n av =>
  have F:=h n (by omega);simp only[m4]
  by_cases ay0:j=n
  ·subst ay0;have:=ayZ (n:=j) (f:=f) (g:=g) λi J=>h i (by omega);omega
  ·have:=av (λi J=>h i (by omega)) (by omega);omega
def Day.Db {d:Day}{f:Nat->Nat}(h:∃x,nY d f x):nY d f (d.top f):=by
 unfold Day.top;rw[dif_pos h];exact oP h
def Day.NP {d:Day}{f:Nat->Nat}{i:Nat}:i∈d.ie f↔i<d.n/\d.top f i<d.U i (f i):=by
 unfold Day.ie;rw[Bc,gQ,decide_eq_true_eq]
section
variable {d:Day} (Y:d.df) (hex:∀f,Reach d f->∃h,nY d f h)
include Y hex
def ay1 {f:Nat->Nat}(aa:Reach d f){z:Nat->Rat}(aV:∀i,i<d.n->z i<=d.wu z i):∀i,i<d.n->z i<=d.top f i:=by
 obtain⟨g,F,G,af⟩:=Day.Db (hex f aa);obtain⟨cV,bS,cM⟩:=aa;have bz:nY d f (d.top f):=⟨g,F,G,af⟩
 -- the end of the round below cV
 intro i cn;have Ee:=λk I=>xU (aV k I) (d.FQ (λ_ H=>ayX Y bS (cM z aV) H) k);exact F.aaw Y G af Ee i cn
def Reach.next {f:Nat->Nat}(aa:Reach d f):Reach d (d.gM f (d.top f)):=⟨d.top f,(Day.Db (hex f aa)).NO Y,λz aV=>ay1 Y hex aa aV⟩
def aaB {f:Nat->Nat}(aa:Reach d f)(bE:d.ie f≠[]):m4 d.n (d.gM f (d.top f))<m4 d.n f:=by
 obtain⟨i,J⟩:=List.exists_mem_of_ne_nil _ bE;obtain⟨F,G⟩:=Day.NP.1 J;have bz:=Day.Db (hex f aa);obtain⟨g,bS,-⟩:=bz;have aK:=aaz Y bS.le (h:=d.top f) λi cn=>(Day.Db (hex f aa)).SQ Y cn;refine aaA (λj ag=>?_) F (aK.2.1 i F G).1
 by_cases eW:d.top f j<d.U j (f j)
 ·have:=(aK.2.1 j ag eW).1;omega
 ·rw[aK.2.2 j ag (by grind)];exact bM _
def ajV:∀k (f:Nat->Nat),Reach d f->m4 d.n f<=k->Reach d (d.rounds k f).2/\d.ie (d.rounds k f).2=[]
 |0,f,aa,I=>by
  refine⟨aa,?_⟩;apply kE;intro bE;have:=aaB Y hex aa bE;omega
 |k+1,f,aa,I=>by
  unfold Day.rounds
  by_cases bE:d.ie f=[]
  ·rw[ab bE];exact⟨aa,bE⟩
  ·rw[ae bE];have:=aaB Y hex aa bE;exact ajV k _ (aa.next Y hex) (by omega)
end
def Day.ay2 (d:Day){f:Nat->Nat}(h:d.ie f=[]):∀k,d.rounds k f=([],f)
 |0=>rfl
 |k+1=>by unfold Day.rounds;rw[ab h]
end Go.Mini
namespace Go.Mini
abbrev ao:=Int×Int×Int×Int
def iw (n:Int)(c:ao):Bool:=decide (0<=c.1)&&decide (c.1<n)&&decide (-1<=c.2.1)&&decide (c.2.1<n)&&decide (0<=c.2.2.1)&&decide (c.2.2.1<10)&&decide (0<=c.2.2.2)&&decide (c.2.2.2<=1000000000000000)
def hY (cash:List Int)(cs:List ao):Bool:=decide (D cash<=60)&&decide (D cs<=2000)&&cash.all (λx=>decide (0<=x)&&decide (x<=1000000000000000))&&cs.all (iw (D cash))
def cD (c:ao):er:=⟨c.1.toNat,c.2.1,c.2.2.1.toNat,(c.2.2.2:Rat)⟩
def aB (cash:List Int)(cs:List ao):Day:=⟨D cash,λi=>((cash.getD i 0:Int):Rat),cs.map cD⟩
def gN {cash:List Int}{cs:List ao}:hY cash cs=true↔(D cash)<=60/\D cs<=2000/\(∀x∈cash,0<=x/\x<=1000000000000000)/\∀c∈cs,0<=c.1/\c.1<(D cash) /\ -1<=c.2.1/\c.2.1<D cash/\0<=c.2.2.1/\c.2.2.1<10/\0<=c.2.2.2/\c.2.2.2<=1000000000000000:=by
 unfold hY iw;simp only[eQ,decide_eq_true_eq,List.all_eq_true,and_assoc]
def aaC {cash:List Int}{cs:List ao}(h:hY cash cs=true):(aB cash cs).df:=by
 obtain⟨-,-,af,aS⟩:=gN.1 h
 have H:∀x∈(aB cash cs).de,∃c∈cs,x=cD c:=λx Q=>by
  obtain⟨c,H,rfl⟩:=ef.1 Q;exact⟨c,H,rfl⟩
 refine⟨λx Q=>?_,λx Q=>?_,λx Q=>?_,λx Q=>?_,λi J=>?_⟩
 ·obtain⟨c,H,rfl⟩:=H x Q;have:=aS c H;show c.1.toNat<D cash;omega
 ·obtain⟨c,H,rfl⟩:=H x Q;have:=aS c H;show c.2.1<(D cash:Int);omega
 ·obtain⟨c,H,rfl⟩:=H x Q;have:=aS c H;show c.2.2.1.toNat<10;omega
 ·obtain⟨c,H,rfl⟩:=H x Q;have:=(aS c H).2.2.2.2.2.2.1;show (0:Rat)<=(c.2.2.2:Rat);exact_mod_cast this
 ·show (0:Rat)<=((cash.getD i 0:Int):Rat);have ku:i<D cash:=J
  have:0<=cash.getD i 0:=by
   rw[ei,bn ku];exact (af _ (nC ku)).1
  exact_mod_cast this
def cJ:List ao->(ao->Int)->Int
 | [],_=>0
 |c::l,aL=>aL c+cJ l aL
def cK (cs:List ao)(di r:Int):Int:=cJ cs λc=>if c.1=di/\c.2.2.1<r then c.2.2.2 else 0
def SR (cs:List ao)(aL:ao->Int)(bC:er->Rat)(h:∀c∈cs,((aL c:Int):Rat)=bC (cD c)):((cJ cs aL:Int):Rat)=cI (cs.map cD) bC:=by
 induction cs with
 |nil=>rfl
 |cons c l av=>rw[cJ,eu,cI,zo,h c gK,av λx Q=>h x (g5 _ Q)]
def Jo {cs:List ao}{aL bC:ao->Int}(h:∀c∈cs,aL c=bC c):cJ cs aL=cJ cs bC:=by
 induction cs with
 |nil=>rfl
 |cons c l av=>rw[cJ,cJ,h c gK,av λx Q=>h x (g5 _ Q)]
def SS {cs:List ao}{aL:ao->Int}{B:Int}(fz:0<=B)(h:∀c∈cs,0<=aL c/\aL c<=B):0<=cJ cs aL/\cJ cs aL<=D cs*B:=by
 induction cs with
 |nil=>simp[cJ]
 |cons c l av =>
  have F:=h c gK;have G:=av λx Q=>h x (g5 _ Q);simp only[cJ,hQ]
  have:((D l+1:Nat):Int)*B=D l*B+B:=by
   rw[Int.natCast_add,Int.add_mul];simp
  omega
def NQ (a b:List ao)(aL:ao->Int):cJ (a++b) aL=cJ a aL+cJ b aL:=by
 induction a with
 |nil=>simp[cJ]
 |cons c l av=>simp only[ky,cJ,av];omega
def u0 {cash:List Int}{cs:List ao}(h:hY cash cs=true)(i r:Nat):((cK cs i r:Int):Rat)=(aB cash cs).U i r:=by
 refine SR cs _ (λc=>if c.aE=i/\c.rk<r then c.am else 0) λc H=>?_;have:=(gN.1 h).2.2.2 c H;show ((if c.1=(i:Int)/\c.2.2.1<(r:Int) then c.2.2.2 else 0:Int):Rat)=if c.1.toNat=i/\c.2.2.1.toNat<r then (c.2.2.2:Rat) else 0
 by_cases F:c.1=(i:Int)/\c.2.2.1<(r:Int)
 ·rw[ab F,ab (by omega)]
 ·rw[ae F,ae (by omega)];rfl
def SU {cash:List Int}{cs:List ao}(h:hY cash cs=true)(i r:Nat):((cK cs i (r+1:Nat)-cK cs i r:Int):Rat)=(aB cash cs).S i r:=by
 have F:=u0 h i r;have G:=u0 h i (r+1);rw[zp,F,G,Day.tk];grind
def lv (cash:List Int)(cs:List ao)(f:Nat->Nat)(i:Nat):Int:=cash.getD i 0+cJ cs λc=>if c.2.1=(i:Int)/\c.2.2.1<(f c.1.toNat:Int) then c.2.2.2 else 0
def ext (N:Nat)(y:Nat->Rat)(z:Rat):Nat->Rat:=λk=>if k<N then y k else z
def NR (N:Nat)(a y:Nat->Rat)(z:Rat):m3 N a (ext N y z)=bD N (λk=>a k*y k)+a N*z:=by
 unfold m3 ext;rw[bD]
 congr 1
 ·exact kD λk I=>by rw[ab I]
 ·rw[ae (by omega)]
def aaD {N:Nat}{aN:eD}{cy:Nat->Nat}(h:rh N aN N N cy)(ki:∀j,j<N->cy j=j){i:Nat}(J:i<N)(y:Nat->Rat)(z:Rat):m3 N (aN i) (ext N y z)=y i+aN i N*z:=by
 rw[NR]
 congr 1
 have:∀k,k<N->aN i k=if i=k then 1 else 0:=λk I=>by
  have:=h.unit k I i J;rwa [ki k I] at this
 rw[zl J λk I qH=>by rw[this k I,ae (Ne.symm qH),Ji],this i J,ab rfl,SV]
def ajW {N:Nat}{aN:eD}{cy:Nat->Nat}(h:rh N aN N N cy)(ki:∀j,j<N->cy j=j)(y:Nat->Rat):hX N aN (ext N y (-1))↔∀i,i<N->y i=aN i N:=by
 unfold hX
 constructor
 ·intro dn i J;have:=dn i J;rw[aaD h ki J] at this;grind
 ·intro dn i J;rw[aaD h ki J,dn i J];grind
def ay3 {N:Nat}{aN:eD}{cy:Nat->Nat}(h:rh N aN N N cy)(ki:∀j,j<N->cy j=j)(y:Nat->Rat)(dn:hX N aN (ext N y 0)):∀i,i<N->y i=0:=by
 intro i J;have:=dn i J;rw[aaD h ki J] at this;grind
def tp (aN:eD)(c:Nat):Nat->Rat:=λk=>if k<c then 0-aN k c else if k=c then 1 else 0
def ajX {N c:Nat}{aN:eD}{cy:Nat->Nat}(h:rh N aN c c cy)(ki:∀j,j<c->cy j=j)(H:c<N)(aV:∀i,c<=i->i<N->aN i c=0):hX N aN (ext N (tp aN c) 0):=by
 intro i J;rw[NR]
 have main:∀n,c<n->n<=N->bD n (λk=>aN i k*tp aN c k)=bD (c+1) (λk=>aN i k*tp aN c k):=by
  intro n
  induction n with
  |zero=>intro h;omega
  |succ n av =>
   intro F G
   by_cases nF:c=n
   ·rw[nF]
   ·rw[bD,av (by omega) (by omega)];unfold tp;rw[ae (show ¬ n<c by omega),ae (show ¬ n=c by omega)];grind
 rw[main N H (bM _),bD];have I:tp aN c c=1:=by unfold tp;rw[ae (by omega),ab rfl]
 rw[I]
 have hu:∀k,k<c->aN i k=if i=k then 1 else 0:=λk I=>by
  have:=h.unit k I i J;rwa [ki k I] at this
 rcases iD i c with aq|ca
 ·rw[zl aq λk I qH=>by rw[hu k I,ae (Ne.symm qH),Ji],hu i aq,ab rfl]
  unfold tp;rw[ab aq];grind
 ·rw[tj λk I=>by rw[hu k I,ae (by omega),Ji],aV i ca J]
  grind
abbrev fX:=Nat->Rat
def jB (n:Nat)(f:List fX->Rat):List fX->List fX->Rat
 |_,[]=>0
 |pre,c::cs=>c n*f (pre++cs)-jB n f (pre++[c]) cs
def gV:Nat->List fX->Rat
 |0,[]=>1
 |0,_::_=>0
 |n+1,cs=>jB n (gV n) [] cs
def Dc (x y:fX)(a:Rat):fX:=λi=>x i+a*y i
def aaE (f:List fX->Rat):Prop:=∀A B x y a,f (A++Dc x y a::B)=f (A++x::B)+a*f (A++y::B)
def aaF (f:List fX->Rat):Prop:=∀A B z,f (A++z::z::B)=0
def ay4 {n:Nat}{f:List fX->Rat}(h:aaE f)(x y:fX)(a:Rat)(A:List fX):∀cs e5,jB n f (A++Dc x y a::e5) cs=jB n f (A++x::e5) cs+a*jB n f (A++y::e5) cs:=by
 intro cs
 induction cs with
 |nil=>intro e5;simp only[jB];grind
 |cons c cs av =>
  intro e5;have e:=av (e5++[c]);simp only[jB,gr,ky] at e ⊢;rw[h A (e5++cs) x y a,e];grind
def ay5 {n:Nat}{f:List fX->Rat}(h:aaE f)(x y:fX)(a:Rat)(B:List fX):∀A pre,jB n f pre (A++Dc x y a::B)=jB n f pre (A++x::B)+a*jB n f pre (A++y::B):=by
 intro A
 induction A with
 |nil =>
  intro pre;have e:=ay4 (n:=n) h x y a pre B [];simp only[ik,jB];rw[e];simp only[Dc];grind
 |cons c A av =>
  intro pre;have e:=av (pre++[c]);have aD:=h (pre++A) B x y a;simp only[gr] at aD;simp only[ky,jB];rw[e,aD];grind
def FT:∀n,aaE (gV n)
 |0=>by
  intro A B x y a
  cases A<;>simp only[ik,ky,gV]<;>grind
 |n+1=>λA B x y a=>ay5 (FT n) x y a B A []
def ay6 {n:Nat}{f:List fX->Rat}(h:aaF f)(z:fX)(A:List fX):∀cs e5,jB n f (A++z::z::e5) cs=0:=by
 intro cs
 induction cs with
 |nil=>intro e5;rfl
 |cons c cs av =>
  intro e5;have e:=av (e5++[c]);have aD:=h A (e5++cs) z;simp only[jB,gr,ky] at e aD ⊢;rw[e,aD];grind
def ay7 {n:Nat}{f:List fX->Rat}(h:aaF f)(z:fX)(B:List fX):∀A pre,jB n f pre (A++z::z::B)=0:=by
 intro A
 induction A with
 |nil =>
  intro pre;have e:=ay6 (n:=n) h z pre B [];simp only[ik,jB,gr,ky] at e ⊢;rw[e];grind
 |cons c A av =>
  intro pre;have e:=av (pre++[c]);have aD:=h (pre++A) B z;simp only[gr] at aD;simp only[ky,jB];rw[e,aD];grind
def NS:∀n,aaF (gV n)
 |0=>by
  intro A B z
  cases A<;>rfl
 |n+1=>λA B z=>ay7 (NS n) z B A []
def ay8 (n:Nat)(A B:List fX)(x y:fX):gV n (A++x::y::B) = -gV n (A++y::x::B):=by
 have au:=NS n A B (Dc x y 1);have F:=FT n A (Dc x y 1::B) x y 1;rw[au] at F;have G:=FT n (A++[x]) B x y 1;have af:=FT n (A++[y]) B x y 1;simp only[gr,ky,ik] at G af;rw[G,af,NS n A B x,NS n A B y] at F;grind
def ajY (n:Nat)(C:List fX)(z:fX):∀B A,gV n (A++z::(B++z::C))=0:=by
 intro B
 induction B with
 |nil=>intro A;exact NS n A C z
 |cons b B av =>
  intro A;have:=av (A++[b]);simp only[gr,ky,ik] at this ⊢;rw[ay8,this];grind
def aaG {n:Nat}{A B:List fX}{z:fX}(h:z∈A++B):gV n (A++z::B)=0:=by
 rcases iF.1 h with h|h
 ·obtain⟨aaH,Jp,rfl⟩:=ajZ h;have:=ajY n B z Jp aaH
  simpa only [gr,ky] using this
 ·obtain⟨BK,DU,rfl⟩:=ajZ h;exact ajY n DU z BK A
def ay9 {n:Nat}{f:List fX->Rat}{z:fX}(aV:z n=0)(h:∀A B,f (A++z::B)=0):(∀cs A e5,jB n f (A++z::e5) cs=0)/\∀A B pre,jB n f pre (A++z::B)=0:=by
 have F:∀cs A e5,jB n f (A++z::e5) cs=0:=by
  intro cs
  induction cs with
  |nil=>intro A e5;rfl
  |cons c cs av =>
   intro A e5;have e:=av A (e5++[c]);have aD:=h A (e5++cs);simp only[jB,gr,ky] at e aD ⊢;rw[e,aD];grind
 refine⟨F,λA=>?_⟩
 induction A with
 |nil =>
  intro B pre;have e:=F B pre [];simp only[ik,jB];rw[e,aV];grind
 |cons c A av =>
  intro B pre;have e:=av B (pre++[c]);have aD:=h (pre++A) B;simp only[gr] at aD;simp only[ky,jB];rw[e,aD];grind
def aaI:∀n (z:fX),(∀i,i<n->z i=0)->∀A B,gV n (A++z::B)=0
 |0,z,_=>λA B=>by cases A<;>rfl
 |n+1,z,h=>λA B=>(ay9 (h n (by omega)) (aaI n z λi J=>h i (by omega))).2 A B []
def aj0 {n:Nat}{e:fX}(h:∀i,i<n->e i=0)(cs:List fX):gV (n+1) (e::cs)=e n*gV n cs:=by
 show e n*gV n ([]++cs)-jB n (gV n) ([]++[e]) cs=_
 have:∀cs pre,jB n (gV n) (e::pre) cs=0:=by
  intro cs
  induction cs with
  |nil=>intro pre;rfl
  |cons c cs av =>
   intro pre;have az:=av (pre++[c]);have aD:=aaI n e h [] (pre++cs);simp only[jB,ky,ik] at az aD ⊢;rw[az,aD];grind
 simp only[ik];rw[this cs []];grind
def aza {n:Nat}{f:List fX->Rat}{T:fX->fX}(cQ:∀c,T c n=c n)(h:∀l,f (l.map T)=f l):∀cs pre,jB n f (pre.map T) (cs.map T)=jB n f pre cs:=by
 intro cs
 induction cs with
 |nil=>intro pre;rfl
 |cons c cs av =>
  intro pre;have e:=av (pre++[c]);have aD:=h (pre++cs);simp only[kh,eu,cR] at e aD;simp only[eu,jB];rw[e,aD,cQ]
def aaJ:∀n (T:fX->fX),(∀c i,i<n->T c i=c i)->∀l,gV n (l.map T)=gV n l
 |0,T,_=>λl=>by cases l<;>rfl
 |n+1,T,h=>λl=>aza (λc=>h c n (by omega)) (aaJ n T λc i J=>h c i (by omega)) l []
def aj1 {n:Nat}{α:Type}(l:List α)(f g:α->fX)(h:∀a∈l,∀i,i<n->f a i=g a i):gV n (l.map f)=gV n (l.map g):=by
 rw[<-aaJ n (λc i=>if i<n then c i else 0) (λc i J=>ab J),<-aaJ n (λc i=>if i<n then c i else 0) (λc i J=>ab J) (l.map g)];rw[mK,mK]
 congr 1
 apply mH;intro a aO
 funext i
 simp only[Function.comp]
 split
 ·exact h a aO i (by assumption)
 ·rfl
def NT (n:Nat)(A B:List fX)(x:Nat->Rat)(C:Nat->fX):∀m,gV n (A++(λi=>bD m λl=>x l*C l i)::B)=bD m λl=>x l*gV n (A++C l::B)
 |0=>aaI n _ (λi _=>rfl) A B
 |m+1=>by
  have e:=FT n A B (λi=>bD m λl=>x l*C l i) (C m) (x m);rw[NT n A B x C m] at e;exact e
def eL (B:Nat)(x:Rat):Prop:=∃z:Int,x=(z:Rat)/\z.natAbs<=B
def eL.mono {A B:Nat}{x:Rat}(h:eL A x)(ak:A<=B):eL B x:=by obtain⟨z,F,G⟩:=h;exact⟨z,F,by omega⟩
def eL.mul {A B:Nat}{x y:Rat}(Q:eL A x)(al:eL B y):eL (A*B) (x*y):=by
 obtain⟨z,rfl,G⟩:=Q;obtain⟨w,rfl,b6⟩:=al;exact⟨z*w,by rw[rj],by rw[sb];exact pI G b6⟩
def eL.sub {A B:Nat}{x y:Rat}(Q:eL A x)(al:eL B y):eL (A+B) (x-y):=by
 obtain⟨z,rfl,G⟩:=Q;obtain⟨w,rfl,b6⟩:=al;exact⟨z-w,by rw[zp],by omega⟩
def eL.add {A B:Nat}{x y:Rat}(Q:eL A x)(al:eL B y):eL (A+B) (x+y):=by
 obtain⟨z,rfl,G⟩:=Q;obtain⟨w,rfl,b6⟩:=al;exact⟨z+w,by rw[zo],by omega⟩
def eL.zero {B:Nat}:eL B 0:=⟨0,by rfl,by simp⟩
def eL.int (z:Int):eL z.natAbs (z:Rat):=⟨z,rfl,bM _⟩
def eL.sum {B:Nat}{f:Nat->Rat}:∀n,(∀k,k<n->eL B (f k))->eL (n*B) (bD n f)
 |0,_=>eL.zero
 |n+1,h=>by
  have:=(eL.sum n λk I=>h k (by omega)).add (h n (by omega));exact this.mono (by rw[vw];exact bM _)
def eL.of {z:Int}{B:Nat}(h:z.natAbs<=B):eL B (z:Rat):=⟨z,rfl,h⟩
def eL.nat {z:Nat}{B:Nat}(h:z<=B):eL B (z:Rat):=⟨z,(o1 _).symm,by omega⟩
def fj:Nat->(Nat->Nat)->Nat
 |0,_=>0
 |n+1,a=>fj n a+a n
def NU {n:Nat}{a b:Nat->Nat}(h:∀i,i<n->a i=b i):fj n a=fj n b:=by
 induction n with
 |zero=>rfl
 |succ n av=>rw[fj,fj,av λi J=>h i (by omega),h n (by omega)]
def azb {n:Nat}{a b:Nat->Nat}(h:∀i,i<n->a i<=b i):fj n a<=fj n b:=by
 induction n with
 |zero=>exact bM _
 |succ n av=>exact Nat.add_le_add (av λi J=>h i (by omega)) (h n (by omega))
def aj2 {N t:Nat}(b:Nat->Nat)(bz:t<N):fj N b=fj N (λi=>if i=t then 0 else b i)+b t:=by
 induction N with
 |zero=>omega
 |succ N av =>
  by_cases h:t=N
  ·subst h;rw[fj,fj,ab rfl];have:fj t b=fj t λi=>if i=t then 0 else b i:=NU λi J=>by rw[ae (by omega)]
   omega
  ·have:=av (by omega);rw[fj,fj,ae (by omega)];omega
def aaK {N:Nat}{τ:Nat->Nat}:∀{n:Nat} (b:Nat->Nat),(∀i,i<n->τ i<N)->(∀i j,i<n->j<n->τ i=τ j->i=j)->fj n (λi=>b (τ i))<=fj N b
 |0,_,_,_=>fy _
 |n+1,b,F,G=>by
  have av:=aaK (n:=n) (λi=>if i=τ n then 0 else b i) (λi J=>F i (by omega)) λi j J ag=>G i j (by omega) (by omega);rw[aj2 b (F n (by omega)),fj]
  have:fj n (λi=>b (τ i))=fj n λi=>if τ i=τ n then 0 else b (τ i):=NU λi J=>by
   rw[ae λh=>by have:=G i n (by omega) (by omega) h;omega]
  omega
def iU:Nat->(Nat->Nat)->Nat
 |0,_=>1
 |n+1,b8=>iU n b8*b8 n
def aj3 {n:Nat}{b8:Nat->Nat}(h:∀k,k<n->0<b8 k):0<iU n b8:=by
 induction n with
 |zero=>exact aaL
 |succ n av=>exact SW (av λk I=>h k (by omega)) (h n (by omega))
def aaM {n b:Nat}{b8:Nat->Nat}(h:∀k,k<n->b8 k<=2^b):iU n b8<=2^(n*b):=by
 induction n with
 |zero=>simp[iU]
 |succ n av =>
  rw[vw,xV];exact pI (av λk I=>h k (by omega)) (h n (by omega))
def aj4 {n:Nat}{b8:Nat->Nat}{k:Nat}(I:k<n):∃m,iU n b8=b8 k*m:=by
 induction n with
 |zero=>omega
 |succ n av =>
  by_cases Jh:k=n
  ·subst Jh;exact⟨iU k b8,sT _ _⟩
  ·obtain⟨m,hm⟩:=av (by omega);exact⟨m*b8 n,by rw[iU,hm,FU]⟩
def aj5 {p:Nat}{b8:Nat->Nat}(mL:∀k,0<b8 k):∀{N:Nat},p<=N->∃bK,0<bK/\iU N b8=iU p b8*bK/\∀k,p<=k->k<N->∃m,bK=b8 k*m
 |0,h=>⟨1,aaL,by rw[show p=0 by omega];rfl,λk _ h=>by omega⟩
 |N+1,h=>by
  by_cases aF:p=N+1
  ·exact⟨1,aaL,by rw[aF,dy],λk F G=>by omega⟩
  ·obtain⟨bK,au,F,G⟩:=aj5 (p:=p) mL (N:=N) (by omega);refine⟨bK*b8 N,SW au (mL N),by rw[iU,F,FU],λk bS cM=>?_⟩
   by_cases I:k=N
   ·exact⟨bK,by rw[I,sT]⟩
   ·obtain⟨m,hm⟩:=G k bS (by omega);exact⟨m*b8 N,by rw[hm,FU]⟩
abbrev Jq:=fX×(Nat->Nat)
def nw (n:Nat):List Jq->Nat
 | []=>1
 |p::l=>fj n p.2*nw n l
def azc (n:Nat)(a b:List Jq):nw n (a++b)=nw n a*nw n b:=by
 induction a with
 |nil=>simp[nw]
 |cons p l av=>simp only[ky,nw,av,FU]
def aj6 (n:Nat):∀l:List Jq,nw n l<=nw (n+1) l
 | []=>bM _
 |p::l=>pI (Nat.le_add_right _ _) (aj6 n l)
def aj7 {n:Nat}{f:List fX->Rat}(h:∀l:List Jq,(∀p∈l,∀i,i<n->eL (p.2 i) (p.1 i))->eL (nw n l) (f (l.map (·.1)))):
  ∀cs pre:List Jq,(∀p∈pre++cs,∀i,i<n+1->eL (p.2 i) (p.1 i))->∃z:Int,jB n f (pre.map (·.1)) (cs.map (·.1))=(z:Rat)/\z.natAbs+nw n pre*nw n cs<=nw n pre*nw (n+1) cs
 | [],pre,_=>⟨0,rfl,by simp[nw]⟩
 |c::cs,pre,aF=>by
  obtain⟨z,F,G⟩:=aj7 h cs (pre++[c]) (by simpa using aF);obtain⟨y,cr,b6⟩:=h (pre++cs) λp hm i J=>aF p (by simp only[iF,hS] at hm ⊢;rcases hm with hm|hm<;>simp[hm]) i (by omega)
  obtain⟨x,bS,cM⟩:=aF c (by simp) n (by omega);simp only[kh,eu,cR] at F cr;refine⟨x*y-z,?_,?_⟩
  ·simp only[eu,jB];rw[bS,cr,F,zp,rj]
  ·rw[azc] at G b6;simp only[nw,fj,dy] at G ⊢;have cH:(x*y-z).natAbs<=x.natAbs*y.natAbs+z.natAbs:=by rw[<-sb];omega
   have cY:=pI cM (eZ b6 (pI (bM _) (aj6 n cs)));generalize nw n pre=P at *;generalize nw n cs=s at *;generalize nw (n+1) cs=S at *;generalize fj n c.2=L at *;generalize c.2 n=a at *;have az:P*((L+a)*S)=P*L*S+a*(P*S):=by rw[Nat.add_mul,Nat.mul_add,FU,aj8 a]
   have aD:P*(L*s)=P*L*s:=(FU _ _ _).symm;rw[az,aD];omega
def aj9:∀n (l:List Jq),(∀p∈l,∀i,i<n->eL (p.2 i) (p.1 i))->eL (nw n l) (gV n (l.map (·.1)))
 |0,[],_=>⟨1,by rfl,by simp[nw]⟩
 |0,p::l,_=>eL.zero
 |n+1,l,h=>by
  obtain⟨z,F,G⟩:=aj7 (f:=gV n) (aj9 n) l [] (by simpa using h);refine⟨z,F,?_⟩;simp only[nw,Nat.one_mul] at G;omega
open Go
def lx (N:Nat)(l:List bF)(q:Nat->Rat):Prop:=l=((dD (N+1)).map q).map ax/\∀k,k<=N->dc (q k)
def xW (N:Nat)(rows:List dh)(aN:eD):Prop:=D rows=N/\∀(i:Nat) x,rows[i]?=some x->lx N x.2.2 (aN i)
def lx.get {N:Nat}{l:List bF}{q:Nat->Rat}(h:lx N l q){k:Nat}(I:k<=N):l[k]?=some (ax (q k)):=by
 rw[h.1,bo,bo,vt (by omega)]
 rfl
def lx.len {N:Nat}{l:List bF}{q:Nat->Rat}(h:lx N l q):(D l)=N+1:=by rw[h.1];simp
def lx.aaN {N:Nat}{l:List bF}{q:Nat->Rat}(ak:(D l)=N+1)(h:∀k,k<=N->l[k]?=some (ax (q k))/\dc (q k)):lx N l q:=by
 refine⟨?_,λk I=>(h k I).2⟩;apply pY;intro k;rcases iD k (N+1) with I|I
 ·rw[(h k (by omega)).1,bo,bo,vt I];rfl
 ·rw[mB (by omega),mB (by simp;omega)]
def lx.congr {N:Nat}{l:List bF}{q uC:Nat->Rat}(h:lx N l q)(aY:∀k,k<=N->q k=uC k):lx N l uC :=
 lx.aaN h.len λk I=>by rw[<-aY k I];exact⟨h.get I,h.2 k I⟩
def lx.cell {N:Nat}{x:dh}{q:Nat->Rat}(h:lx N x.2.2 q){k:Nat}(I:k<=N):cellOf x k=ax (q k):=ZF (h.get I)
def SX (q:Rat):nU (ax q)=decide (q=0):=by
 unfold nU ax bY;rw[kd,beq_iff_eq,decide_eq_true_eq,Int.sign_eq_zero_iff_zero,aka]
def sn (fE a b:Rat):Bool:=AQ fE b&&mX a (-(fE*b))
def akb {fE a b:Rat}(aK:dc fE)(aO:dc a)(ad:dc b)(h:sn fE a b=true):
  px (ax fE) (ax b)=(ax (fE*b),0)/\q5 (ax a) (ax (fE*b))=(ax (a-fE*b),0)/\dc (a-fE*b):=by
 unfold sn at h;rw[eQ] at h;refine⟨?_,?_,ahi h.2⟩
 ·rw[Zk aK ad,h.1];rfl
 ·rw[RF aO (ahj h.1),h.2];rfl
def azd {fE a b:Rat}(aK:dc fE)(aO:dc a)(ad:dc b)(h:sn fE a b=false):
  ((px (ax fE) (ax b)).2 != 0||(q5 (ax a) (px (ax fE) (ax b)).1).2 != 0)=true:=by
 unfold sn at h;rw[Zk aK ad];rcases F:AQ fE b
 ·rfl
 ·rw[F,g4] at h;show ((q5 (ax a) (ax (fE*b))).2 != 0)=true;rw[RF aO (ahj F),h]
  rfl
def aze {fE:Rat}(aK:dc fE):∀(xX pl:List Rat),D xX=(D pl)->(∀x∈xX,dc x)->(∀x∈pl,dc x) ->
  ((∀q∈xX.zip pl,sn fE q.1 q.2=true)->jz (ax fE) (xX.map ax) (pl.map ax) false=((aaO (λa b=>a-fE*b) xX pl).map ax,false)/\∀x∈aaO (λa b=>a-fE*b) xX pl,dc x) /\
  ((jz (ax fE) (xX.map ax) (pl.map ax) false).2=false->∀q∈xX.zip pl,sn fE q.1 q.2=true):=by
 intro xX
 induction xX with
 |nil=>intro pl ak _ _;cases pl with
  |nil=>exact⟨λ_=>⟨rfl,by simp⟩,λ_=>by simp⟩
  |cons=>cases ak
 |cons a xX av =>
  intro pl ak F G
  cases pl with
  |nil=>cases ak
  |cons b pl =>
   have aO:=F a gK;have ad:=G b gK;obtain⟨i1,i2⟩:=av pl (by simpa using ak) (λx Q=>F x (g5 _ Q)) (λx Q=>G x (g5 _ Q))
   constructor
   ·intro en;obtain⟨az,aD,bX⟩:=akb aK aO ad (en (a,b) (by simp));obtain⟨i3,i4⟩:=i1 λq aY=>en q (by simp only[akc,hS];exact .inr aY);refine⟨?_,λx Q=>?_⟩
    ·simp only[eu,jz,az,aD,akd,bne_self_eq_false,mM,i3]
    ·rw[akd,hS] at Q;rcases Q with rfl|Q
     ·exact bX
     ·exact i4 x Q
   ·intro eO;simp only[eu,jz] at eO;rcases X:sn fE a b
    ·rw[azd aK aO ad X,ZH] at eO
     cases eO
    ·obtain⟨az,aD,bX⟩:=akb aK aO ad X;simp only[az,aD,bne_self_eq_false,mM] at eO;intro q aY;rw[akc,hS] at aY;rcases aY with rfl|aY
     ·exact X
     ·exact i2 eO q aY
def azf (n:Nat)(q p:Nat->Rat):((dD n).map q).zip ((dD n).map p)=(dD n).map λk=>(q k,p k):=by
 rw[List.zip_map',]
def azg (n:Nat)(f:Rat->Rat->Rat)(q p:Nat->Rat):aaO f ((dD n).map q) ((dD n).map p)=(dD n).map λk=>f (q k) (p k):=by
 rw[List.zipWith_map,List.zipWith_self]
def azh {N:Nat}{fE:Rat}{l aI:List bF}{q p:Nat->Rat}(aK:dc fE)(F:lx N l q)(G:lx N aI p):
  ((∀k,k<=N->sn fE (q k) (p k)=true)->(jz (ax fE) l aI false).2=false)/\((jz (ax fE) l aI false).2=false->lx N (jz (ax fE) l aI false).1 (λk=>q k-fE*p k)):=by
 obtain⟨az,aD⟩:=aze aK ((dD (N+1)).map q) ((dD (N+1)).map p) (by simp) (by
  intro x Q;obtain⟨k,I,rfl⟩:=ef.1 Q;exact F.2 k (by have:=gQ.1 I;omega)) (by
  intro x Q;obtain⟨k,I,rfl⟩:=ef.1 Q;exact G.2 k (by have:=gQ.1 I;omega))
 rw[<-F.1,<-G.1] at az aD
 have aV:(∀k,k<=N->sn fE (q k) (p k)=true)↔∀x∈((dD (N+1)).map q).zip ((dD (N+1)).map p),sn fE x.1 x.2=true:=by
  rw[azf];simp only[ef,gQ]
  constructor
  ·rintro h x ⟨k,I,rfl⟩;exact h k (by omega)
  ·intro h k I;exact h (q k,p k) ⟨k,by omega,rfl⟩
 refine⟨λh=>by rw[(az (aV.1 h)).1],λh=>?_⟩
 obtain⟨bX,dE⟩:=az (aD h);rw[bX,azg] at *;exact⟨rfl,λk I=>dE _ (ef.2 ⟨k,gQ.2 (by omega),rfl⟩)⟩
def SY (fW:List bF)(r c:Nat):∀(i:Nat) (l:List dh),(kg fW r c i l true).2=true
 |_,[]=>rfl
 |i,x::xs=>by
  unfold kg
  split
  ·exact SY fW r c (i+1) xs
  ·rw[ZH];exact SY fW r c (i+1) xs
def ake {N r c:Nat}{fW:List bF}{p:Nat->Rat}(aF:lx N fW p)(H:c<=N):∀(i:Nat) (l:List dh) (b8:eD),(∀(j:Nat) x,l[j]?=some x->lx N x.2.2 (b8 (i+j))) ->
  ((∀j,j<(D l)->i+j≠r->b8 (i+j) c≠0->∀k,k<=N->sn (b8 (i+j) c) (b8 (i+j) k) (p k)=true)->(kg fW r c i l false).2=false) /\
  ((kg fW r c i l false).2=false->∀(j:Nat) x,(kg fW r c i l false).1[j]?=some x->lx N x.2.2 (λk=>if i+j=r then b8 (i+j) k else b8 (i+j) k-b8 (i+j) c*p k))
 |i,[],b8,h=>⟨λ_=>rfl,λ_ j x Q=>by simp[kg] at Q⟩
 |i,x::xs,b8,h=>by
  have au:=h 0 x rfl;rw[nE] at au
  obtain⟨akf,SZ⟩:=ake aF H (i+1) xs b8 λj y al=>by
   have:=h (j+1) y al;rwa [show i+(j+1)=i+1+j by omega] at this
  have qB:=au.cell H
  have akg:(∀j,j<(x::xs).length->i+j≠r->b8 (i+j) c≠0->∀k,k<=N->sn (b8 (i+j) c) (b8 (i+j) k) (p k)=true)->∀j,j<(D xs)->i+1+j≠r->b8 (i+1+j) c≠0->∀k,k<=N->sn (b8 (i+1+j) c) (b8 (i+1+j) k) (p k)=true:=by
   intro aX j ag;have:=aX (j+1) (by simpa using ag);rwa [show i+(j+1)=i+1+j by omega] at this
  unfold kg;rw[qB,SX]
  by_cases aV:(i==r||decide (b8 i c=0))=true
  ·rw[ab aV];refine⟨λaX=>akf (akg aX),λad j y al=>?_⟩
   cases j with
   |zero =>
    simp only[xe,cl] at al;subst al;rw[nE];refine au.congr λk I=>?_;simp only[sP,beq_iff_eq,decide_eq_true_eq] at aV
    split
    ·rfl
    ·rcases aV with aV|aV
     ·contradiction
     ·rw[aV];grind
   |succ j =>
    have:=SZ ad j y (by simpa using al);rwa [show i+(j+1)=i+1+j by omega]
  ·rw[ae aV];simp only[sP,beq_iff_eq,decide_eq_true_eq,not_or] at aV;obtain⟨cr,b6⟩:=azh (au.2 c H) au aF
   constructor
   ·intro aX;have af:=cr (aX 0 (by simp) (by simpa using aV.1) (by simpa using aV.2));dsimp only;rw[af];exact akf (akg aX)
   ·intro ad j y al;dsimp only at ad al;rcases qT:(jz (ax (b8 i c)) x.2.2 fW false).2
    ·rw[qT] at ad al
     cases j with
     |zero =>
      simp only[xe,cl] at al;subst al;rw[nE];exact (b6 qT).congr λk I=>by rw[ae aV.1]
     |succ j =>
      have:=SZ ad j y (by simpa using al);rwa [show i+(j+1)=i+1+j by omega]
    ·rw[qT,SY] at ad
     cases ad
def azi {N:Nat}{l:List bF}{q:Nat->Rat}{b:Rat}(h:lx N l q)(ad:dc b)(au:b≠0):
  ((hV (ax b) l).2=false↔∀k,k<=N->xG (q k) b=true)/\((hV (ax b) l).2=false->lx N (hV (ax b) l).1 (λk=>q k/b)):=by
 have az:(hV (ax b) l).2=false↔∀k,k<=N->xG (q k) b=true:=by
  unfold hV;rw[h.1];simp only[uL,ef,gQ]
  constructor
  ·intro aX k I;have:=aX (ax (q k)) ⟨q k,⟨k,by omega,rfl⟩,rfl⟩
   rw[RG (h.2 k I) ad au] at this;rcases Y:xG (q k) b
   ·rw[Y] at this;exact absurd rfl this
   ·rfl
  ·rintro aX _ ⟨_,⟨k,I,rfl⟩,rfl⟩;rw[RG (h.2 k (by omega)) ad au,aX k (by omega)];simp[xF]
 refine⟨az,λaX=>?_⟩;have cT:=az.1 aX;refine lx.aaN (by unfold hV;rw[ar,h.len]) λk I=>⟨?_,awg (cT k I)⟩;unfold hV;rw[bo,h.get I,iY,RG (h.2 k I) ad au,cT k I]
 rfl
def xW.row {N:Nat}{rows:List dh}{aN:eD}(h:xW N rows aN){i:Nat}(J:i<N):∃x,rows[i]?=some x/\rowAt rows i=x/\lx N x.2.2 (aN i):=by
 obtain⟨x,Q⟩:∃x,rows[i]?=some x:=⟨_,bn (by have:=h.1;omega)⟩;exact⟨x,Q,xL Q,h.2 i x Q⟩
def xW.swap {N:Nat}{rows:List dh}{aN:eD}(h:xW N rows aN){r s:Nat}(aa:r<N)(X:s<N):xW N (q9 rows r s) (hx aN r s):=by
 obtain⟨x,Q,ex,ov⟩:=h.row aa;obtain⟨y,al,Wg,azj⟩:=h.row X;unfold q9;rw[ex,Wg];refine⟨by rw[hL,hL];exact h.1,λi z aV=>?_⟩
 rw[nT,nT,hL] at aV;unfold hx
 by_cases F:s=i
 ·rw[ab F,ab (by have:=h.1;omega)] at aV
  cases aV;rw[ab F.symm];exact ov
 ·rw[ae F] at aV;rw[ae (Ne.symm F)]
  by_cases G:r=i
  ·rw[ab G,ab (by have:=h.1;omega)] at aV
   cases aV;rw[ab G.symm];exact azj
  ·rw[ae G] at aV;rw[ae (Ne.symm G)];exact h.2 i z aV
def akh (N:Nat)(S:eD)(r c:Nat):Prop:=(∀k,k<=N->xG (S r k) (S r c)=true)/\∀i,i<N->i≠r->S i c≠0->∀k,k<=N->sn (S i c) (S i k) (S r k/S r c)=true
def aki {N:Nat}{rows:List dh}{aN:eD}(h:xW N rows aN){r c:Nat}(aa:r<N)(H:c<N):
  ((iP rows r c).1=true/\(iP rows r c).2.1=rows/\(iP rows r c).2.2=false/\∀i,r<=i->i<N->aN i c=0) \/
  ((iP rows r c).1=false/\∃s,r<=s/\s<N/\aN s c≠0/\((iP rows r c).2.2=false->xW N (iP rows r c).2.1 (o0 aN r c s))/\(akh N (hx aN r s) r c->(iP rows r c).2.2=false)):=by
 have ak:=h.1;have g2:=ajs rows r c (by omega)
 have nx:∀i x,r<=i->i<findAt rows r c->rows[i]?=some x->nU (cellOf x c)=true:=by
  intro i x rQ ob Q;unfold findAt at ob;have aq:i-r<(rows.drop r).findIdx λx => !nU (cellOf x c):=by omega
  have:=List.not_of_lt_findIdx aq
  have a8:(rows.drop r)[i-r]'(Nat.lt_of_lt_of_le aq List.findIdx_le_length)=x:=by
   rw[I1];have:=(dK.1 Q)
   obtain⟨F,G⟩:=this;simp only[show r+(i-r)=i by omega]
   exact G
  rw[a8] at this
  simpa using this
 unfold iP
 by_cases aK:findAt rows r c=D rows
 ·left
  rw[ab aK];refine⟨rfl,rfl,rfl,λi rQ ob=>?_⟩;obtain⟨x,Q,-,ov⟩:=h.row ob;have:=nx i x rQ (by omega) Q;rw[ov.cell (by omega),SX] at this
  simpa using this
 ·right
  rw[ae aK];refine⟨rfl,findAt rows r c,g2.1,by omega,?_,?_⟩
  ·obtain⟨x,Q,-,ov⟩:=h.row (i:=findAt rows r c) (by omega);have aq:findAt rows r c-r<(rows.drop r).length:=by rw[r0];omega
   have G:(rows.drop r).findIdx (λx => !nU (cellOf x c))<(rows.drop r).length:=by
    unfold findAt at aq;omega
   have af:=akj (w:=G)
   have a8:(rows.drop r)[(rows.drop r).findIdx λx => !nU (cellOf x c)]=x:=by
    rw[I1];exact (dK.1 Q).2
   rw[a8,ov.cell (by omega),SX] at af
   simpa using af
  ·have X:findAt rows r c<N:=by omega
   have A5:=h.swap aa X
   have bE:hx aN r (findAt rows r c) r c≠0:=by
    rw[SD];obtain⟨x,Q,-,ov⟩:=h.row X
    have G:(rows.drop r).findIdx (λx => !nU (cellOf x c))<(rows.drop r).length:=by
     rw[r0];unfold findAt at X;omega
    have af:=akj (w:=G)
    have a8:(rows.drop r)[(rows.drop r).findIdx λx => !nU (cellOf x c)]=x:=by
     rw[I1];exact (dK.1 Q).2
    rw[a8,ov.cell (by omega),SX] at af
    simpa using af
   have Sk:o0 aN r c (findAt rows r c)=λi k=>if i=r then hx aN r (findAt rows r c) r k/hx aN r (findAt rows r c) r c else hx aN r (findAt rows r c) i k-hx aN r (findAt rows r c) i c*(hx aN r (findAt rows r c) r k/hx aN r (findAt rows r c) r c):=rfl;rw[Sk];generalize q9 rows r (findAt rows r c)=ic at *;generalize hx aN r (findAt rows r c)=S at *;obtain⟨x,Q,ex,ov⟩:=A5.row aa;rw[ex,ov.cell (by omega)];obtain⟨d1,d2⟩:=azi ov (ov.2 c (by omega)) bE
   have Aw:FC ic r c=ic.set r (x.1,x.2.1,(hV (ax (S r c)) x.2.2).1):=by
    unfold FC;rw[ex,ov.cell (by omega)]
   rw[Aw]
   have aaP:lx N (hV (ax (S r c)) x.2.2).1 (λk=>S r k/S r c)->∀(j:Nat) y,(ic.set r (x.1,x.2.1,(hV (ax (S r c)) x.2.2).1))[j]?=some y->lx N y.2.2 ((λi=>if i=r then λk=>S r k/S r c else S i) (0+j)):=by
    intro Y j y al;rw[ks];rw[nT] at al
    by_cases ag:r=j
    ·rw[ab ag,ab (by have:=A5.1;omega)] at al
     cases al;dsimp only;rw[ab ag.symm];exact Y
    ·rw[ae ag] at al;dsimp only;rw[ae (Ne.symm ag)];exact A5.2 j y al
   dsimp only;rcases xv:(hV (ax (S r c)) x.2.2).2
   ·have Y:=d2 xv;obtain⟨eU,ey⟩:=ake (r:=r) (c:=c) Y (by omega) 0 (ic.set r (x.1,x.2.1,(hV (ax (S r c)) x.2.2).1)) (λi=>if i=r then λk=>S r k/S r c else S i) (aaP Y)
    constructor
    ·intro ad;refine⟨?_,λi z aV=>?_⟩
     ·have:=congrArg D (Su (hV (ax (S r c)) x.2.2).1 r c 0 (ic.set r (x.1,x.2.1,(hV (ax (S r c)) x.2.2).1)) false);rw[ar,ar,hL] at this;rw[this];exact A5.1
     ·have:=ey ad i z aV;rw[ks] at this;refine this.congr λk I=>?_
      by_cases si:i=r
      ·simp only[ab si]
      ·simp only[ae si]
    ·intro cT;refine eU λj ag NV bE k I=>?_;rw[ks] at *;simp only[ae NV] at bE ⊢;rw[hL,A5.1] at ag;exact cT.2 j ag NV bE k I
   ·constructor
    ·intro ad;rw[SY] at ad
     cases ad
    ·intro cT;rw[d1.2 cT.1] at xv
     cases xv
structure Jr (N:Nat) (aN wv:eD) (rows:List dh) (p c:Nat) (cy:Nat->Nat):Prop where
 enc:xW N rows wv
 red:rh N wv p c cy
 Js:∀y,hX N wv y↔hX N aN y
def azk (stop:Bool)(N:Nat)(akk:eD):∀k c rows free aN p cy,c+k=N->Jr N akk aN rows p c cy->p+D free=c->(stop=true->free=[]/\∀j,j<p->cy j=j) ->
  ∀xY sq,nt stop k c rows free false=(xY,sq,false) ->
  ∃wv p2 c' zq,Jr N akk wv xY p2 c' zq/\(stop=false->c'=N/\p2+D sq=N) /\
   (stop=true->(sq=[]/\c'=N/\p2=N/\∀j,j<N->zq j=j)\/(∃f,sq=[f]/\f<N/\p2=f/\c'=f/\(∀j,j<f->zq j=j)/\∀i,f<=i->i<N->wv i f=0)):=by
 intro k
 induction k with
 |zero =>
  intro c rows free aN p cy H he aF X xY sq Q;simp only[nt,e2,and_true] at Q;obtain⟨rfl,rfl⟩:=Q;refine⟨aN,p,c,cy,he,λ_=>⟨by omega,by omega⟩,λh=>?_⟩
  obtain⟨F,G⟩:=X h;subst F;simp only[lH,nE] at aF;exact .inl ⟨rfl,by omega,by omega,λj ag=>G j (by omega)⟩
 |succ k av =>
  intro c rows free aN p cy H he aF X xY sq Q;have kS:c-D free=p:=by omega
  unfold nt at Q;rw[kS] at Q;rcases aki he.enc (r:=p) (c:=c) (by omega) (by omega) with ⟨F,G,af,aS⟩|⟨F,s,hM,jx,pJ,aS,bt⟩
  ·rw[F,G,af,ab rfl] at Q
   cases stop with
   |true =>
    rw[ab rfl] at Q;simp only[e2,and_true] at Q;obtain⟨rfl,rfl⟩:=Q;obtain⟨cr,b6⟩:=X rfl;subst cr;simp only[lH,nE] at aF;subst aF;exact⟨aN,p,p,cy,he,by simp,λ_ => .inr ⟨p,rfl,by omega,rfl,rfl,b6,aS⟩⟩
   |false =>
    rw[ae (by simp)] at Q;exact av (c+1) rows (free++[c]) aN p cy (by omega) ⟨he.enc,he.red.free aS,he.Js⟩ (by simp;omega) (by simp) xY sq Q
  ·rw[F,ae (by simp)] at Q;rcases ad:(iP rows p c).2.2
   ·rw[ad] at Q;have aaQ:=aS ad;refine av (c+1) _ free (o0 aN p c s) (p+1) (λj=>if j=p then c else cy j) (by omega) ⟨aaQ,he.red.FK (by omega) hM jx pJ,λy=>(aaf (by omega) jx pJ).trans (he.Js y)⟩ (by omega) (λh=>?_) xY sq Q;obtain⟨cr,b6⟩:=X h;refine⟨cr,λj ag=>?_⟩;subst cr;simp only[lH,nE] at aF;show (if j=p then c else cy j)=j
    split
    ·omega
    ·exact b6 j (by omega)
   ·rw[ad,ajp] at Q
    cases Q
def rl (rs:List fJ):eD:=λi k=>if k<(D rs) then CF ((rs.getD i ([],eA)).1.getD k eA) else CF (rs.getD i ([],eA)).2
def akl {f:bF}(h:eY f=true):f=ax (CF f)/\dc (CF f):=by
 obtain⟨x,Q,rfl⟩:=(MN _).1 h;rw[Fj];exact⟨rfl,Q⟩
def azl {rs:List fJ}{n:Int}(h:pA rs n=true):(D rs:Int)=n/\D rs<=40/\∀r∈rs,r.1.length=D rs/\eY r.2=true/\∀f∈r.1,eY f=true:=by
 unfold pA at h;simp only[eQ,nS,decide_eq_false_iff_not,beq_iff_eq] at h;obtain⟨F,G,af,aS⟩:=h;refine⟨af,by omega,λr aa=>?_⟩
 rw[uL] at aS;have:=aS r aa;unfold uN IC at this;simp only[nS,Bool.not_eq_true,Bool.not_eq_false',eQ,beq_iff_eq,uL,Bool.not_eq_false] at this;obtain⟨fu,eg,jg⟩:=this;exact⟨by omega,eg,λf aK=>by simpa using jg f aK⟩
def akm {rs:List fJ}{i:Nat}{r:fJ}(h:rs[i]?=some r):rs.getD i ([],eA)=r:=by
 rw[ei,h];rfl
def akn {rs:List fJ}{n:Int}(h:pA rs n=true):xW (D rs) (hW rs) (rl rs):=by
 obtain⟨aH,aOX,aaP⟩:=azl h;refine⟨FJ rs,λi x Q=>?_⟩
 have J:i<D rs:=by
  have:=(dK.1 Q).1;rwa [FJ] at this
 obtain⟨r,aa⟩:∃r,rs[i]?=some r:=⟨_,bn J⟩;rw[ajk aa] at Q
 cases Q;obtain⟨az,aD,bX⟩:=aaP r (dZ aa);refine lx.aaN (by simp[az]) λk I=>?_;unfold rl;rw[akm aa]
 by_cases gF:k<D rs
 ·rw[ab gF];obtain⟨f,aK⟩:∃f,r.1[k]?=some f:=⟨_,bn (by omega)⟩;obtain⟨fu,eg⟩:=akl (bX f (dZ aK));rw[sM (by omega),aK,ei,aK];exact⟨congrArg some fu,eg⟩
 ·rw[ae gF];obtain⟨fu,eg⟩:=akl aD;rw[rR (by omega),az,show k-D rs=0 by omega]
  exact⟨congrArg some fu,eg⟩
def azm (stop:Bool){rs:List fJ}{n:Int}(h:pA rs n=true){xY:List dh}{sq:List Nat}(Q:re stop rs=(xY,sq,false)):
  ∃wv p2 c' zq,Jr (D rs) (rl rs) wv xY p2 c' zq/\(stop=false->c'=D rs/\p2+D sq=D rs) /\
   (stop=true->(sq=[]/\c'=D rs/\p2=D rs/\∀j,j<(D rs)->zq j=j)\/(∃f,sq=[f]/\f<D rs/\p2=f/\c'=f/\(∀j,j<f->zq j=j)/\∀i,f<=i->i<(D rs)->wv i f=0)) :=
 azk stop (D rs) (rl rs) (D rs) 0 (hW rs) [] (rl rs) 0 (λj=>j) (by omega) ⟨akn h,SE _ _ _,λ_=>Iff.rfl⟩ rfl (λ_=>⟨rfl,λj ag=>by omega⟩) xY sq Q
def NW (N:Nat)(q:Nat->Rat)(b:Nat):Prop:=∃(v:Nat->Int) (d:Int),d≠0/\d.natAbs<=2^b/\∀k,k<=N->q k*(d:Rat)=(v k:Rat)/\(v k).natAbs<=2^b
def NW.mono {N a b:Nat}{q:Nat->Rat}(h:NW N q a)(AV:a<=b):NW N q b:=by
 obtain⟨v,d,F,G,af⟩:=h;have aF:2^a<=2^b:=xz (by omega) AV;exact⟨v,d,F,eZ G aF,λk I=>⟨(af k I).1,eZ (af k I).2 aF⟩⟩
def azn {q:Rat}{v d:Int}(Y:d≠0)(h:q*(d:Rat)=(v:Rat)):q.num*d=v*q.den:=by
 have nB:(d:Rat)≠0:=by rw[Ne,ako];exact Y
 have e:q=lO v d:=by rw[S0];grind
 have aD:lO q.num q.den=lO v d:=by rw[Rat.num_divInt_den];exact e
 exact (Rat.divInt_eq_divInt_iff (xH q) Y).1 aD
def Dd {q:Rat}{v d:Int}(Y:d≠0)(h:q*(d:Rat)=(v:Rat)):q.num.natAbs<=v.natAbs/\q.den<=d.natAbs:=by
 have H:=azn Y h
 have l4:q.num.natAbs*d.natAbs=v.natAbs*q.den:=by
  have:=congrArg Int.natAbs H;rwa [sb,sb,mV] at this
 have BT:q.den∣d.natAbs:=(Nat.Coprime.symm q.reduced).dvd_of_dvd_mul_left ⟨v.natAbs,by rw[l4,sT]⟩
 have YT:0<d.natAbs:=by omega
 have G:=Nat.le_of_dvd YT BT;refine⟨?_,G⟩;obtain⟨m,hm⟩:=BT;rw[hm] at l4;have YW:=q.den_pos
 have af:q.num.natAbs*m=v.natAbs:=by
  have:q.den*(q.num.natAbs*m)=q.den*v.natAbs:=by rw[sT q.den v.natAbs,<-l4];rw[aj8]
  exact Nat.eq_of_mul_eq_mul_left YW this
 have kv:0<m:=by
  rcases jG m with au|au
  ·rw[au,Nat.mul_zero] at hm;omega
  ·exact au
 rw[<-af];exact Lf _ kv
def ec (b:Nat)(q:Rat):Prop:=q.num.natAbs<=2^b/\q.den<=2^b
def NW.sz {N b:Nat}{q:Nat->Rat}(h:NW N q b){k:Nat}(I:k<=N):ec b (q k):=by
 obtain⟨v,d,F,G,af⟩:=h;obtain⟨az,aD⟩:=af k I;obtain⟨f1,f2⟩:=Dd F az;exact⟨eZ f1 aD,eZ f2 G⟩
def azo (a b c:Nat)(h:a=2^b):a^c=2^(b*c):=by rw[h,<-Nat.pow_mul]
def akp:∃B:Nat,B=1200/\ea=2^B:=⟨20*60,rfl,azo 1048576 20 60 (by decide)⟩
def De {z:Int}{b:Nat}(h:z.natAbs<=2^b)(ad:b<1200):iM z=true:=by
 obtain⟨B,fz,ha⟩:=akp;unfold iM;rw[ha,decide_eq_true_eq];exact uz h (akq (by omega) (by omega))
def tq {x y:Int}{a b:Nat}(Q:x.natAbs<=2^a)(al:y.natAbs<=2^b):(x*y).natAbs<=2^(a+b):=by
 rw[sb,xV];exact pI Q al
def akr {x y:Int}{a:Nat}(Q:x.natAbs<=2^a)(al:y.natAbs<=2^a):(x+y).natAbs<=2^(a+1):=by
 have:=Int.natAbs_add_le x y;rw[xk];omega
def ec.mono {a b:Nat}{q:Rat}(h:ec a q)(AV:a<=b):ec b q:=by
 have aF:2^a<=2^b:=xz (by omega) AV;exact⟨eZ h.1 aF,eZ h.2 aF⟩
def aaR {x y:Rat}{a b:Nat}(Q:ec a x)(al:ec b y)(h:a+b<1200):AQ x y=true:=by
 unfold AQ;rw[eQ];exact⟨De (tq Q.1 al.1) h,De (tq (x:=(x.den:Int)) (y:=(y.den:Int)) (by simpa using Q.2) (by simpa using al.2)) h⟩
def aks {x y:Rat}{a b:Nat}(Q:ec a x)(al:ec b y)(h:a+b<1200):xG x y=true:=by
 unfold xG;rw[eQ];exact⟨De (tq (y:=(y.den:Int)) Q.1 (by simpa using al.2)) h,De (tq (x:=(x.den:Int)) (by simpa using Q.2) al.1) h⟩
def Df {x y:Rat}{a b:Nat}(Q:ec a x)(al:ec b y)(h:a+b+1<1200):mX x y=true:=by
 unfold mX;have F:=tq (y:=(y.den:Int)) Q.1 (by simpa using al.2);have G:=tq (y:=(x.den:Int)) al.1 (by simpa using Q.2);rw[zO b a] at G;simp only[eQ];exact⟨De F (by omega),De G (by omega),De (akr F G) h,De (tq (x:=(x.den:Int)) (y:=(y.den:Int)) (by simpa using Q.2) (by simpa using al.2)) (by omega)⟩
def Dg {b:Nat}{q:Rat}(h:ec b q):ec b (-q):=⟨by rw[akt,Int.natAbs_neg];exact h.1,h.2⟩
def aaS {p q:Int}{b:Nat}(F:p.natAbs<=2^b)(G:q.natAbs<=2^b)(aY:q≠0):ec b (lO p q):=by
 have aOY:(q:Rat)≠0:=by rw[Ne,ako];exact aY
 have:=Dd (q:=lO p q) (v:=p) aY (by rw[S0];grind);exact⟨eZ this.1 F,eZ this.2 G⟩
def NX {x y:Rat}{a b:Nat}(Q:ec a x)(al:ec b y):ec (a+b) (x*y):=by
 rw[<-Zh];exact aaS (tq Q.1 al.1) (tq (x:=(x.den:Int)) (y:=(y.den:Int)) (by simpa using Q.2) (by simpa using al.2)) (AR (xH x) (xH y))
def aaT {x y:Rat}{a b:Nat}(Q:ec a x)(al:ec b y):ec (a+b+1) (x+y):=by
 rw[<-Zg];have F:=tq (y:=(y.den:Int)) Q.1 (by simpa using al.2);have G:=tq (y:=(x.den:Int)) al.1 (by simpa using Q.2);rw[zO b a] at G;have af:=tq (x:=(x.den:Int)) (y:=(y.den:Int)) (a:=a) (b:=b) (by simpa using Q.2) (by simpa using al.2);exact aaS (akr F G) (eZ af (xz (by omega) (by omega))) (AR (xH x) (xH y))
def azp {x y:Rat}{a b:Nat}(Q:ec a x)(al:ec b y)(au:y≠0):ec (a+b) (x/y):=by
 rw[<-Zi];have aH:y.num≠0:=λh=>au (aka.1 h);exact aaS (tq (y:=(y.den:Int)) Q.1 (by simpa using al.2)) (tq (x:=(x.den:Int)) (by simpa using Q.2) al.1) (AR (xH x) aH)
def u1 (A:eD)(σ:Nat->Nat)(k:Nat):fX:=λi=>A (σ i) k
def qk:Nat->List Nat
 |0=>[]
 |p+1=>p::qk p
def Dh {k:Nat}:∀{p:Nat},k∈qk p↔k<p
 |0=>by simp[qk]
 |p+1=>by
  simp only[qk,hS,Dh (p:=p)];omega
def aku {l:Nat}:∀{p:Nat},l<p->∃cU gj,qk p=cU++l::gj/\∀m,m∈cU++gj↔m<p/\m≠l
 |0,h=>by omega
 |p+1,h=>by
  by_cases ak:l=p
  ·subst ak;refine⟨[],qk l,rfl,λm=>?_⟩;rw[ik,Dh];omega
  ·obtain⟨cU,gj,F,G⟩:=aku (l:=l) (p:=p) (by omega);refine⟨p::cU,gj,by simp[qk,F],λm=>?_⟩
   rw[ky,hS,G];omega
def sr (A:eD)(σ:Nat->Nat)(p:Nat):List fX:=(qk p).map (u1 A σ)
def S2 {n:Nat}{c c':fX}(cU gj:List fX)(h:∀i,i<n->c i=c' i):gV n (cU++c::gj)=gV n (cU++c'::gj):=by
 have:=aj1 (n:=n) (cU.map (λx=>(x,x))++(c,c')::gj.map (λx=>(x,x))) Prod.fst Prod.snd (λa aO i J=>by
  simp only[iF,hS,ef] at aO;rcases aO with ⟨x,_,rfl⟩|rfl|⟨x,_,rfl⟩
  ·rfl
  ·exact h i J
  ·rfl)
 simpa [Function.comp_def] using this
def akv {A:eD}{σ τ:Nat->Nat}{p:Nat}(h:∀i,i<p->σ i=τ i):gV p (sr A σ p)=gV p (sr A τ p) :=
 aj1 _ _ _ λa _ i J=>by unfold u1;rw[h i J]
def NY (N:Nat)(A aN:eD)(σ:Nat->Nat)(p:Nat):Prop:=∀i,i<N->∀k,p<=k->k<=N->A (σ i) k=(if i<p then 0 else aN i k)+bD p λl=>A (σ i) l*aN l k
def lR (N:Nat)(A aN:eD)(p:Nat):Prop:=∃σ:Nat->Nat,(∀i,i<N->σ i<N)/\(∀i j,i<N->j<N->σ i=σ j->i=j)/\NY N A aN σ p/\gV p (sr A σ p)≠0
def lR.start (N:Nat)(A:eD):lR N A A 0:=by
 refine⟨λi=>i,λi h=>h,λi j _ _ h=>h,λi J k _ I=>?_,?_⟩
 ·rw[ae (by omega)];show A i k=A i k+0;grind
 ·show (1:Rat)≠0;decide
def azq {p:Nat}(a x y:Nat->Rat)(t:Rat):bD p (λl=>a l*(x l-y l*t))=bD p (λl=>a l*x l)-t*bD p λl=>a l*y l:=by
 have:(λl=>a l*(x l-y l*t))=λl=>a l*x l+(-t)*(a l*y l):=by funext l;grind
 rw[this,wo,A9];grind
def lR.step {N p s:Nat}{A aN:eD}(h:lR N A aN p)(aF:p<N)(X:p<=s)(Ba:s<N)(bE:aN s p≠0):lR N A (o0 aN p p s) (p+1):=by
 obtain⟨σ,hσ,Jt,aa,Y⟩:=h
 let π:Nat->Nat:=λi=>if i=s then p else if i=p then s else i
 have hπ:∀i,hx aN p s i=aN (π i):=by
  intro i;show (if i=s then aN p else if i=p then aN s else aN i)=aN (if i=s then p else if i=p then s else i)
  split
  ·rfl
  ·split<;>rfl
 have hπN:∀i,i<N->π i<N:=λi J=>by show (if i=s then p else if i=p then s else i)<N;split<;>(try split)<;>omega
 have hπp:∀i,i<p->π i=i:=λi J=>by show (if i=s then p else if i=p then s else i)=i;rw[ae (by omega),ae (by omega)]
 have hπq:∀i,p<=i->p<=π i:=λi J=>by show p<=(if i=s then p else if i=p then s else i);split<;>(try split)<;>omega
 have hπj:∀i j,π i=π j->i=j:=λi j=>by
  show (if i=s then p else if i=p then s else i)=(if j=s then p else if j=p then s else j)->i=j
  (repeat' split)<;>omega
 have akw:∀i j,i<N->j<N->σ (π i)=σ (π j)->i=j:=λi j J ag h=>hπj i j (Jt _ _ (hπN i J) (hπN j ag) h)
 have cB:NY N A (hx aN p s) (λi=>σ (π i)) p:=by
  intro i J k k2 gF;have:=aa (π i) (hπN i J) k k2 gF;rw[this]
  congr 1
  ·by_cases nu:i<p
   ·rw[ab nu,ab (by rw[hπp i nu];exact nu)]
   ·rw[ae nu,ae (by have:=hπq i (by omega);omega),hπ]
  ·refine kD λl ak=>?_;rw[hπ l,hπp l ak]
 have azr:hx aN p s p p≠0:=by rw[SD];exact bE
 generalize azs:hx aN p s=S at *
 have aY:o0 aN p p s=λi k=>if i=p then S p k/S p p else S i k-S i p*(S p k/S p p):=by
  funext i k;unfold o0;rw[azs]
 rw[aY]
 have nB:gV p (sr A (λi=>σ (π i)) p)≠0:=by
  rw[akv (τ:=σ) λi J=>by show σ (π i)=σ i;rw[hπp i J]]
  exact Y
 have hσ2:∀i,i<N->σ (π i)<N:=λi J=>hσ _ (hπN i J)
 change ∀i,i<N->(λi=>σ (π i)) i<N at hσ2
 change ∀i j,i<N->j<N->(λi=>σ (π i)) i=(λi=>σ (π i)) j->i=j at akw
 generalize hτ:(λi=>σ (π i))=τ at *;refine⟨τ,hσ2,akw,λi J k k2 gF=>?_,?_⟩
 ·have az:=cB i J k (by omega) gF;have aD:=cB i J p (by omega) (by omega);simp only[bD,if_true];rw[kD (g:=λl=>A (τ i) l*(S l k-S l p*(S p k/S p p))) λl ak=>by rw[ae (by omega)],azq]
  generalize bD p (λl=>A (τ i) l*S l k)=cU at *;generalize bD p (λl=>A (τ i) l*S l p)=gj at *
  by_cases F:i<p
  ·rw[ab F] at az aD;rw[ab (by omega)];grind
  ·rw[ae F] at az aD
   by_cases G:i=p
   ·subst G;rw[ab (by omega)];grind
   ·rw[ae (by omega),ae G];grind
 ·have H:gV (p+1) (sr A τ (p+1))=S p p*gV p (sr A τ p):=by
   show gV (p+1) ([]++u1 A τ p::sr A τ p)=_
   rw[S2 (c':=Dc (λi=>if i<p then 0 else S i p) (λi=>bD p λl=>S l p*u1 A τ l i) 1) [] _ λi J=>by
    have:=cB i (by omega) p (by omega) (by omega);show A (τ i) p=(if i<p then 0 else S i p)+1*bD p λl=>S l p*A (τ i) l;rw[this,SV]
    congr 1
    exact kD λl _=>wx _ _]
   rw[FT,NT,tj λl ak=>by
    rw[aaG (by rw[ik];exact u2 (Dh.2 ak))];exact oZ _]
   rw[ik,aj0 λi J=>ab J,ae (by omega)];grind
  rw[H];intro au;rcases aaU.1 au with au|au
  ·exact azr au
  ·exact nB au
def azt {N p l k:Nat}{A aN:eD}{σ:Nat->Nat}(aa:NY N A aN σ p)(aF:p<=N)(ak:l<p)(k2:p<=k)(gF:k<=N):∃cU gj:List Nat,qk p=cU++l::gj/\(∀m∈cU++gj,m<p)/\aN l k*gV p (sr A σ p)=gV p ((cU++k::gj).map (u1 A σ)):=by
 obtain⟨cU,gj,mQ,hm⟩:=aku ak;refine⟨cU,gj,mQ,λm adj=>((hm m).1 adj).1,?_⟩
 ·rw[kh,eu]
  rw[S2 (c':=λi=>bD p λm=>aN m k*u1 A σ m i) _ _ λi J=>by
   have:=aa i (by omega) k k2 gF;rw[ab J] at this;show A (σ i) k=bD p λm=>aN m k*A (σ i) m;rw[this,Di];exact kD λl _=>wx _ _]
  rw[NT,zl ak λm azu hD=>by
   rw[aaG (by rw[<-kh];exact u2 ((hm m).2 ⟨azu,hD⟩))];exact oZ _]
  unfold sr;rw[mQ,kh,eu]
def azv {N p i k:Nat}{A aN:eD}{σ:Nat->Nat}(aa:NY N A aN σ p)(rQ:p<=i)(ob:i<N)(k2:p<=k)(gF:k<=N):aN i k*gV p (sr A σ p)=gV (p+1) ((k::qk p).map (u1 A λj=>if j=p then σ i else σ j)):=by
 have hτ:∀j,j<p->(λj=>if j=p then σ i else σ j) j=σ j:=λj ag=>ae (by omega);have hτp:(λj=>if j=p then σ i else σ j) p=σ i:=ab rfl;generalize (λj=>if j=p then σ i else σ j)=τ at *;show _=gV (p+1) ([]++u1 A τ k::sr A τ p)
 rw[S2 (c':=Dc (λj=>if j<p then 0 else aN i k) (λj=>bD p λl=>aN l k*u1 A τ l j) 1) [] _ λj ag=>by
  show A (τ j) k=(if j<p then 0 else aN i k)+1*bD p λl=>aN l k*A (τ j) l;rw[SV]
  by_cases Je:j<p
  ·have:=aa j (by omega) k k2 gF;rw[ab Je] at this ⊢;rw[hτ j Je,this]
   congr 1
   exact kD λl _=>wx _ _
  ·obtain rfl:j=p:=by omega
   have:=aa i ob k k2 gF;rw[ae (by omega)] at this;rw[ae Je,hτp,this]
   congr 1
   exact kD λl _=>wx _ _]
 rw[FT,NT,tj λl ak=>by
  rw[aaG (by rw[ik];exact u2 (Dh.2 ak))];exact oZ _]
 rw[ik,aj0 λi J=>ab J,ae (by omega),akv λj ag=>(hτ j ag).symm];grind
def azw (n:Nat)(cU gj:List fX)(x:fX)(a:Rat):gV n (cU++(λi=>a*x i)::gj)=a*gV n (cU++x::gj):=by
 have:=NT n cU gj (λ_=>a) (λ_=>x) 1;simp only[bD] at this;rw[Di] at this;rw[<-this];exact S2 cU gj λi _=>(Di _).symm
def akx (n:Nat)(b8:Nat->Rat)(C:Nat->fX):∀(L:List Nat) (cU:List fX),∃a:Rat,((∀k∈L,b8 k≠0)->a≠0)/\gV n (cU++L.map λk=>λi=>b8 k*C k i)=a*gV n (cU++L.map C)
 | [],cU=>⟨1,λ_=>by decide,by rw[SV];rfl⟩
 |k::L,cU=>by
  obtain⟨a,F,G⟩:=akx n b8 C L (cU++[C k]);refine⟨b8 k*a,λh=>?_,?_⟩
  ·intro au;rcases aaU.1 au with au|au
   ·exact h k gK au
   ·exact F (λm hm=>h m (g5 _ hm)) au
  ·simp only[eu,gr,ky,ik] at G ⊢;rw[azw,G,Rat.mul_assoc]
structure u3 (N:Nat) (A:eD) (δ v:Nat):Prop where
 ex:∃(b8:Nat->Nat) (u w:Nat->Int),iU N b8<=2^δ/\(∀k,0<b8 k)/\(∀k,k<N->∃b:Nat->Nat,fj N b<=2*b8 k/\∀i,i<N->eL (b i) (b8 k*A i k))/\(∀k,k<N->(u k).natAbs<=2^v)/\∀i,i<N->(w i).natAbs<=2^v/\A i N=bD N (λk=>A i k*(u k:Rat))+(w i:Rat)
def lS (e:Nat->Nat):List Nat->Nat
 | []=>1
 |m::l=>e m*lS e l
def aky (e:Nat->Nat)(a b:List Nat):lS e (a++b)=lS e a*lS e b:=by
 induction a with
 |nil=>simp[lS]
 |cons p l av=>simp only[ky,lS,av,FU]
def azx {e f:Nat->Nat}{l:List Nat}(h:∀m∈l,e m=f m):lS e l=lS f l:=by
 induction l with
 |nil=>rfl
 |cons m l av=>rw[lS,lS,av λx Q=>h x (g5 _ Q),h m gK]
def akz (b8:Nat->Nat):∀p,lS (λm=>2*b8 m) (qk p)=2^p*iU p b8
 |0=>rfl
 |p+1=>by
  rw[qk,lS,akz b8 p,iU,xk];grind
def aaV {N n:Nat}{A:eD}{e:Nat->Nat}(dn:∀k,k<=N->∃b:Nat->Nat,fj N b<=e k/\∀i,i<N->eL (b i) (A i k)){τ:Nat->Nat}(F:∀i,i<n->τ i<N)(G:∀i j,i<n->j<n->τ i=τ j->i=j)(L:List Nat)(ha:∀m∈L,m<=N):eL (lS e L) (gV n (L.map (u1 A τ))):=by
 have⟨B,fz⟩:∃B:Nat->Nat->Nat,∀k,k<=N->fj N (B k)<=e k/\∀i,i<N->eL (B k i) (A i k):=by
  refine⟨λk=>if h:k<=N then (dn k h).choose else λ_=>0,λk I=>?_⟩;dsimp only;rw[dif_pos I];exact (dn k I).choose_spec
 have h:=aj9 n (L.map λk=>(u1 A τ k,λi=>B k (τ i))) λp aF i J=>by
  obtain⟨m,hm,rfl⟩:=ef.1 aF;exact (fz m (ha m hm)).2 _ (F i J)
 rw[mK] at h;refine eL.mono h ?_;clear h
 induction L with
 |nil=>exact bM _
 |cons m L av =>
  rw[eu,nw,lS];exact pI (eZ (aaK (B m) F G) (fz m (ha m gK)).1) (av λx Q=>ha x (g5 _ Q))
structure azy (N:Nat) (aN:eD) (δ v p:Nat) (b8:Nat->Nat) (u:Nat->Int) (d:Int):Prop where
 d0:d≠0
 pos:∀k,0<b8 k
 akA:iU N b8<=2^δ
 akB:∀k,k<N->(u k).natAbs<=2^v
 Eo:d.natAbs<=2^p*iU p b8
 akC:∀i,i<N->∀k,p<=k->k<N->eL (2^(p+1)*(iU p b8*b8 k)) (aN i k*(b8 k*d))
 val:∀i,i<N->eL (2^p*iU p b8*(N*2^v)) ((aN i N-(if i<p then (u i:Rat) else 0)-bD N λk=>if p<=k then aN i k*(u k:Rat) else 0)*d)
def lR.akD {N p δ v:Nat}{A aN:eD}(dn:u3 N A δ v)(h:lR N A aN p)(aF:p<=N):∃b8 u d,azy N aN δ v p b8 u d:=by
 obtain⟨σ,hσ,Jt,aa,Y⟩:=h;obtain⟨b8,u,w,cH,cY,ep,fi,o2⟩:=dn
 have NZ:∀m,((b8 m:Nat):Rat)≠0:=λm=>by
  have:=cY m;rw[Ne,Rat.natCast_eq_zero_iff];omega
 -- the scaled matrix, with the whole numbers of the values
 have bL:NY N (λi k=>if k<N then b8 k*A i k else (w i:Rat)) (λl k=>if k<N then (if l<p then b8 k*aN l k/b8 l else b8 k*aN l k) else (if l<p then (1:Rat)/b8 l else 1)*(aN l N-(if l<p then (u l:Rat) else 0)-bD N λk=>if p<=k then aN l k*(u k:Rat) else 0)) σ p:=by
  intro i J k k2 gF
  by_cases oY:k<N
  ·have:=aa i J k k2 gF;dsimp only;rw[ab oY,ab oY,this,Rat.mul_add,<-A9]
   congr 1
   ·split<;>grind
   ·refine kD λl ak=>?_;rw[ab oY,ab (by omega),ab ak];have:=NZ l;grind
  ·obtain rfl:k=N:=by omega
   dsimp only;rw[ae oY,ae oY];have az:=aa i J k k2 gF;have aD:=(o2 (σ i) (hσ i J)).2
   have bX:(λm=>A (σ i) m*(u m:Rat))=λm=>(if m<p then A (σ i) m*(u m:Rat) else 0)+if p<=m then A (σ i) m*(u m:Rat) else 0:=by
    funext m
    by_cases hm:m<p
    ·rw[ab hm,ae (by omega),rf]
    ·rw[ae hm,ab (by omega),Di]
   have dE:bD k (λm=>if p<=m then A (σ i) m*(u m:Rat) else 0)=bD k λm=>(if p<=m then (if i<p then 0 else aN i m*(u m:Rat)) else 0)+bD p λl=>A (σ i) l*(if p<=m then aN l m*(u m:Rat) else 0):=kD λm hm=>by
    by_cases mJ:p<=m
    ·rw[ab mJ,ab mJ,aa i J m mJ (by omega),Rat.add_mul]
     congr 1
     ·split<;>grind
     ·rw[wx,<-A9];refine kD λl _=>?_;rw[ab mJ];grind
    ·rw[ae mJ,ae mJ,Di];exact (tj λl _=>by rw[ae mJ,oZ]).symm
   rw[bX,wo,dE,wo,ayH] at aD
   have c8:bD k (λm=>if m<p then A (σ i) m*(u m:Rat) else 0)=bD p λl=>A (σ i) l*(u l:Rat):=by
    have:∀n,p<=n->bD n (λm=>if m<p then A (σ i) m*(u m:Rat) else 0)=bD p λl=>A (σ i) l*(u l:Rat):=by
     intro n
     induction n with
     |zero =>
          intro h;obtain rfl:p=0:=by omega
          rfl
     |succ n av =>
      intro h
      by_cases Dj:p=n+1
      ·rw[Dj];exact kD λm hm=>ab hm
      ·rw[bD,av (by omega),ae (by omega),rf]
    exact this k aF
   rw[c8] at aD
   have bP:(bD p λl=>(λi u4=>if u4<k then (b8 u4:Rat)*A i u4 else (w i:Rat)) (σ i) l*((if l<p then (1:Rat)/b8 l else 1)*(aN l k-(if l<p then (u l:Rat) else 0)-bD k λm=>if p<=m then aN l m*(u m:Rat) else 0)))=bD p (λl=>A (σ i) l*aN l k)-bD p (λl=>A (σ i) l*(u l:Rat))-bD p λl=>bD k λm=>A (σ i) l*(if p<=m then aN l m*(u m:Rat) else 0):=by
    have:∀f g h:Nat->Rat,bD p (λl=>f l-g l-h l)=bD p f-bD p g-bD p h:=λf g h=>by
     have e:(λl=>f l-g l-h l)=λl=>f l+((-1)*g l+(-1)*h l):=by funext l;grind
     rw[e,wo,wo,A9,A9];grind
    rw[<-this];refine kD λl ak=>?_;dsimp only;rw[ab (by omega),ab ak,ab ak,A9];have:=NZ l;grind
   have cg:(bD p λl=>(λi u4=>if u4<k then (b8 u4:Rat)*A i u4 else (w i:Rat)) (σ i) l*(λl u4=>if u4<k then (if l<p then (b8 u4:Rat)*aN l u4/b8 l else b8 u4*aN l u4) else (if l<p then (1:Rat)/b8 l else 1)*(aN l k-(if l<p then (u l:Rat) else 0)-bD k λm=>if p<=m then aN l m*(u m:Rat) else 0)) l k)=bD p (λl=>A (σ i) l*aN l k)-bD p (λl=>A (σ i) l*(u l:Rat))-bD p λl=>bD k λm=>A (σ i) l*(if p<=m then aN l m*(u m:Rat) else 0):=by
    rw[<-bP];refine kD λl ak=>?_;dsimp only;rw[ae (by omega:¬ k<k)]
   dsimp only at cg;rw[cg]
   by_cases nu:i<p
   ·rw[ab nu] at az ⊢;have eb:bD k (λm=>if p<=m then (if i<p then 0 else aN i m*(u m:Rat)) else 0)=0:=tj λm _=>by rw[ab nu];split<;>rfl
    rw[eb] at aD;grind
   ·rw[ae nu] at az ⊢;have eb:bD k (λm=>if p<=m then (if i<p then 0 else aN i m*(u m:Rat)) else 0)=bD k λm=>if p<=m then aN i m*(u m:Rat) else 0:=kD λm _=>by rw[ae nu]
    rw[eb] at aD;rw[ae nu,ae nu];grind
 have mR:gV p (sr (λi k=>if k<N then b8 k*A i k else (w i:Rat)) σ p)≠0:=by
  obtain⟨a,F,G⟩:=akx p (λk=>(b8 k:Rat)) (u1 A σ) (qk p) []
  have N0:sr (λi k=>if k<N then b8 k*A i k else (w i:Rat)) σ p=(qk p).map λk=>λi=>(b8 k:Rat)*u1 A σ k i:=by
   unfold sr;refine mH λm hm=>?_;have:=Dh.1 hm
   funext i
   show (if m<N then (b8 m:Rat)*A (σ i) m else (w (σ i):Rat))=_;rw[ab (by omega)];rfl
  rw[ik,ik] at G;rw[N0,G];intro au;rcases aaU.1 au with au|au
  ·exact F (λm hm=>NZ m) au
  ·exact Y au
 have FV:∀k,k<=N->∃b:Nat->Nat,fj N b<=(if k<N then 2*b8 k else N*2^v)/\∀i,i<N->eL (b i) ((λi k=>if k<N then (b8 k:Rat)*A i k else (w i:Rat)) i k):=by
  intro k I
  by_cases oY:k<N
  ·obtain⟨b,c6,eB⟩:=ep k oY;refine⟨b,by rw[ab oY];exact c6,λi J=>?_⟩
   dsimp only;rw[ab oY];exact eB i J
  ·refine⟨λ_=>2^v,?_,λi J=>?_⟩
   ·rw[ae oY]
    have:∀n,fj n (λ_=>2^v)=n*2^v:=λn=>by
     induction n with
     |zero=>simp[fj]
     |succ n av=>rw[fj,av,vw]
    rw[this];exact bM _
   ·dsimp only;rw[ae oY];exact eL.mono (eL.int _) (o2 i J).1
 generalize aOZ:(λ(i k:Nat)=>if k<N then (b8 k:Rat)*A i k else (w i:Rat))=Jp at *;generalize aaW:(λk=>if k<N then 2*b8 k else N*2^v)=e at *
 have aaX:∀k,k<=N->∃b:Nat->Nat,fj N b<=e k/\∀i,i<N->eL (b i) (Jp i k):=by
  intro k I;rw[<-aaW];exact FV k I
 have aaY:∀m,m<N->e m=2*b8 m:=λm hm=>by rw[<-aaW];exact ab hm
 have azz:e N=N*2^v:=by rw[<-aaW];exact ae (by omega)
 have aaZ:lS e (qk p)=2^p*iU p b8:=by
  rw[<-akz];exact azx λm hm=>aaY m (by have:=Dh.1 hm;omega)
 have hσp:∀i,i<p->σ i<N:=λi J=>hσ i (by omega);have nu:∀i j,i<p->j<p->σ i=σ j->i=j:=λi j J ag=>Jt i j (by omega) (by omega);have tY:=aaV aaX hσp nu (qk p) λm hm=>by have:=Dh.1 hm;omega
 rw[aaZ] at tY;obtain⟨d,Ax,xv⟩:=tY
 change gV p (sr Jp σ p)=(d:Rat) at Ax
 have Cl:d≠0:=by
  intro au;rw[Ax,au] at mR;exact mR (by rfl)
 -- both kinds of rows
 have fB:∀l,l<p->∀k,p<=k->k<=N->∃m:Int,(λl k=>if k<N then (if l<p then (b8 k:Rat)*aN l k/b8 l else b8 k*aN l k) else (if l<p then (1:Rat)/b8 l else 1)*(aN l N-(if l<p then (u l:Rat) else 0)-bD N λk=>if p<=k then aN l k*(u k:Rat) else 0)) l k*(d:Rat)=(m:Rat)/\b8 l*m.natAbs<=2^p*iU p b8*e k:=by
  intro l ak k k2 gF;obtain⟨cU,gj,gR,fS,kA⟩:=azt bL aF ak k2 gF
  have ad:=aaV aaX hσp nu (cU++k::gj) λm hm=>by
   have:m=k\/m∈cU++gj:=by
    simp only[iF,hS] at hm ⊢;rcases hm with h|h|h<;>simp[h]
   rcases this with h|h
   ·omega
   ·have:=fS m h;omega
  obtain⟨m,dw,cv⟩:=ad;rw[Ax,dw] at kA;refine⟨m,kA,?_⟩;have az:lS e (cU++k::gj)=lS e cU*(e k*lS e gj):=by rw[aky,lS]
  have aD:lS e cU*(2*b8 l*lS e gj)=2^p*iU p b8:=by
   rw[<-aaZ,gR,aky,lS,aaY l (by omega)]
  rw[az] at cv;rw[<-aD];generalize lS e cU=x at *;generalize lS e gj=y at *;have bS:=pI (bM (b8 l)) cv;have cM:x*(2*b8 l*y)*e k=b8 l*(x*(e k*y))+b8 l*(x*(e k*y)):=by grind
  rw[cM];omega
 have jq:∀i,p<=i->i<N->∀k,p<=k->k<=N->∃m:Int,(λl k=>if k<N then (if l<p then (b8 k:Rat)*aN l k/b8 l else b8 k*aN l k) else (if l<p then (1:Rat)/b8 l else 1)*(aN l N-(if l<p then (u l:Rat) else 0)-bD N λk=>if p<=k then aN l k*(u k:Rat) else 0)) i k*(d:Rat)=(m:Rat)/\m.natAbs<=2^p*iU p b8*e k:=by
  intro i rQ ob k k2 gF;have akE:=azv bL rQ ob k2 gF
  have hτ:∀j,j<p+1->(λj=>if j=p then σ i else σ j) j<N:=λj ag=>by
   show (if j=p then σ i else σ j)<N
   split
   ·exact hσ i ob
   ·exact hσ j (by omega)
  have hτj:∀j k,j<p+1->k<p+1->(λj=>if j=p then σ i else σ j) j=(λj=>if j=p then σ i else σ j) k->j=k:=λj k ag I=>by
   show (if j=p then σ i else σ j)=(if k=p then σ i else σ k)->j=k;intro h
   by_cases aG:j=p
   ·by_cases c2:k=p
    ·omega
    ·rw[ab aG,ae c2] at h;have:=Jt _ _ ob (by omega) h;omega
   ·by_cases c2:k=p
    ·rw[ae aG,ab c2] at h;have:=Jt _ _ (by omega) ob h;omega
    ·rw[ae aG,ae c2] at h;exact Jt _ _ (by omega) (by omega) h
  obtain⟨m,dw,cv⟩:=aaV aaX hτ hτj (k::qk p) λm hm=>by
   rcases hS.1 hm with h|h
   ·omega
   ·have:=Dh.1 h;omega
  rw[Ax,dw] at akE;refine⟨m,akE,eZ cv ?_⟩;rw[lS,aaZ,sT];exact bM _
 refine⟨b8,u,d,Cl,cY,cH,fi,xv,λi J k k2 gF=>?_,λi J=>?_⟩
 ·have Zl:2^(p+1)*(iU p b8*b8 k)=2^p*iU p b8*e k:=by rw[aaY k gF,xk];grind
  rw[Zl]
  by_cases aq:i<p
  ·obtain⟨m,dw,cv⟩:=fB i aq k k2 (by omega);dsimp only at dw;rw[ab gF,ab aq] at dw;refine⟨b8 i*m,?_,by rw[sb,mV];exact cv⟩
   rw[rj,<-dw,o1];have:=NZ i;grind
  ·obtain⟨m,dw,cv⟩:=jq i (by omega) J k k2 (by omega);dsimp only at dw;rw[ab gF,ae aq] at dw;refine⟨m,?_,cv⟩;rw[<-dw];grind
 ·rw[<-azz]
  by_cases aq:i<p
  ·obtain⟨m,dw,cv⟩:=fB i aq N aF (bM _);dsimp only at dw;rw[ae (by omega:¬ N<N),ab aq,ab aq] at dw;refine⟨b8 i*m,?_,by rw[sb,mV];exact cv⟩
   rw[rj,<-dw,o1,ab aq];have:=NZ i;grind
  ·obtain⟨m,dw,cv⟩:=jq i (by omega) J N aF (bM _);dsimp only at dw;rw[ae (by omega:¬ N<N),ae aq,ae aq] at dw;refine⟨m,?_,cv⟩;rw[<-dw,ae aq];grind
def Ju (N:Nat)(A:eD)(eS aL:Nat):Prop:=∀aN p,p<=N->lR N A aN p->∀i k,i<N->p<=k->k<=N->ec eS (aN i k)/\(k<N->ec aL (aN i k))
def u3.akF {N δ v:Nat}{A:eD}(dn:u3 N A δ v)(gi:N<=7):Ju N A (N+δ+v+4) (N+δ):=by
 intro aN p aF h i k J k2 gF;obtain⟨b8,u,d,aH⟩:=h.akD dn aF;obtain⟨bK,aO0,eU,ey⟩:=aj5 aH.pos aF;have FW:=aH.akA;rw[eU] at FW
 have azA:∀k,p<=k->k<N->iU p b8*b8 k<=iU p b8*bK:=λk F G=>by
  obtain⟨m,hm⟩:=ey k F G;refine pI (bM _) ?_
  have:0<m:=by
   rcases jG m with h|h
   ·rw[h] at hm;omega
   ·exact h
  rw[hm];exact Lf _ this
 have Iw:∀q,q<=N->∀x,x<=2^δ->2^q*x<=2^(N+δ):=λq aY x Q=>by
  rw[xV];exact pI (xz (by omega) aY) Q
 have eW:∀k,p<=k->k<N->ec (N+δ) (aN i k):=λk k2 gF=>by
  obtain⟨z,fA,hl⟩:=aH.akC i J k k2 gF;have aO1:=aH.pos k;obtain⟨f1,f2⟩:=Dd (q:=aN i k) (v:=z) (d:=(b8 k:Int)*d) (AR (by omega) aH.d0) (by rw[<-fA,rj,o1]);have hle:=eZ (azA k k2 gF) FW;refine⟨eZ f1 (eZ hl (Iw _ (by omega) _ hle)),eZ f2 ?_⟩;rw[sb,mV];refine eZ (pI (bM _) aH.Eo) (eZ ?_ (Iw p aF _ hle));exact zk (by grind)
 by_cases oY:k<N
 ·exact⟨(eW k k2 oY).mono (by omega),λ_=>eW k k2 oY⟩
 refine⟨?_,λh=>absurd h oY⟩;obtain rfl:k=N:=by omega
 have hT:=aH.val i J;have fz:∀q,q<=k->2^q*(iU p b8*bK)<=2^(k+δ):=λq aY=>Iw q aY _ FW
 -- the three parts, times d and bK
 have iG:eL (k*2^(k+δ+v)) ((aN i k-(if i<p then (u i:Rat) else 0)-bD k λm=>if p<=m then aN i m*(u m:Rat) else 0)*d*(bK:Rat)):=by
  refine (hT.mul (eL.nat (bM bK))).mono ?_;have:=pI (fz p aF) (bM (k*2^v));refine eZ (zk ?_) (eZ this (zk ?_))
  ·grind
  ·rw[xV 2 (k+δ) v];grind
 have h9:eL (2^(k+δ+v)) ((if i<p then (u i:Rat) else 0)*d*(bK:Rat)):=by
  have hu:eL (2^v) (if i<p then (u i:Rat) else 0):=by
   split
   ·exact eL.mono (eL.int _) (aH.akB i J)
   ·exact eL.zero
  refine ((hu.mul (eL.mono (eL.int d) aH.Eo)).mul (eL.nat (bM bK))).mono ?_;have:=pI (fz p aF) (bM (2^v));refine eZ (zk ?_) (eZ this (zk ?_))
  ·grind
  ·rw[xV 2 (k+δ) v]
 have kC:eL (k*2^(k+δ+v)) ((bD k λm=>if p<=m then aN i m*(u m:Rat) else 0)*d*(bK:Rat)):=by
  have e:(bD k λm=>if p<=m then aN i m*(u m:Rat) else 0)*(d:Rat)*(bK:Rat)=bD k λm=>((d:Rat)*(bK:Rat))*(if p<=m then aN i m*(u m:Rat) else 0):=by
   rw[A9];grind
  rw[e];refine eL.sum k λm hm=>?_
  by_cases mJ:p<=m
  ·rw[ab mJ];obtain⟨y,al⟩:=ey m mJ hm
   have aD:(d:Rat)*(bK:Rat)*(aN i m*(u m:Rat))=(aN i m*((b8 m:Rat)*d))*(y:Rat)*(u m:Rat):=by
    rw[al,S3];grind
   rw[aD];refine (((aH.akC i J m mJ hm).mul (eL.nat (bM y))).mul (eL.mono (eL.int (u m)) (aH.akB m hm))).mono ?_;have:=pI (fz (p+1) (by omega)) (bM (2^v));refine eZ (zk ?_) (eZ this (zk ?_))
   ·rw[al];grind
   ·rw[xV 2 (k+δ) v]
  ·rw[ae mJ,oZ];exact eL.zero
 obtain⟨z,fA,hl⟩:=(iG.add h9).add kC
 have e:aN i k*((d*(bK:Int):Int):Rat)=(z:Rat):=by
  rw[<-fA,rj,o1];grind
 obtain⟨f1,f2⟩:=Dd (AR aH.d0 (by omega)) e;refine⟨eZ f1 (eZ hl ?_),eZ f2 ?_⟩
 ·rw[xV 2 (k+δ+v) 4];generalize 2^(k+δ+v)=cU at *;have:k*cU<=7*cU:=Nat.mul_le_mul_right _ gi;omega
 ·rw[sb,mV];refine eZ (pI aH.Eo (bM bK)) (eZ (zk ?_) (eZ (fz p aF) (xz (by omega) (by omega))));grind
def lR.azB {N δ v:Nat}{A aN:eD}(dn:u3 N A δ v)(h:lR N A aN N):∃bb:Nat,0<bb/\bb<=2^(N+δ)/\∀i,i<N->∃z:Int,aN i N*(bb:Rat)=(z:Rat):=by
 obtain⟨b8,u,d,aH⟩:=h.akD dn (bM N)
 have⟨s,X⟩:∃s:Int,(d.natAbs:Int)=s*d:=by
  rcases Int.natAbs_eq d with e|e
  ·exact⟨1,by omega⟩
  ·exact⟨-1,by omega⟩
 have Y:=aH.d0;refine⟨d.natAbs,by omega,eZ aH.Eo ?_,λi J=>?_⟩
 ·rw[xV];exact pI (bM _) aH.akA
 ·obtain⟨z,fA,-⟩:=aH.val i J;rw[ab J,tj λk I=>ae (by omega)] at fA;refine⟨s*(z+u i*d),?_⟩;have e:((d.natAbs:Nat):Rat)=((d.natAbs:Int):Rat):=(o1 _).symm;rw[e,X,rj,rj,zo,rj,<-fA];grind
def dz (N:Nat)(x:Nat->Rat):List bF:=((dD N).map x).map ax
def rm (N:Nat)(x:Nat->Rat):(dz N x).length=N:=by simp[dz]
def wy {N k:Nat}(x:Nat->Rat)(h:k<N):(dz N x)[k]?=some (ax (x k)):=by
 unfold dz;rw[bo,bo,vt h];rfl
def N1 {N:Nat}{l:List bF}{x:Nat->Rat}(ak:(D l)=N)(h:∀k,k<N->l[k]?=some (ax (x k))):l=dz N x:=by
 apply pY;intro k;rcases iD k N with I|I
 ·rw[h k I,wy x I]
 ·rw[mB (by omega),mB (by rw[rm];omega)]
def Jv {N:Nat}{x y:Nat->Rat}(h:∀k,k<N->x k=y k):dz N x=dz N y :=
 N1 (rm N x) λk I=>by rw[wy x I,h k I]
def aa0 {N:Nat}{x:Nat->Rat}(gi:N<=40)(h:∀k,k<N->dc (x k)):mZ (dz N x):=by
 refine⟨by rw[rm];omega,λf aK=>?_⟩
 obtain⟨k,I⟩:=List.mem_iff_getElem?.1 aK;have oY:k<N:=by have:=(dK.1 I).1;rwa [rm] at this
 rw[wy x oY] at I
 cases I;exact m1 (h k oY)
def akG (N:Nat)(bb:eD)(x:Nat->Rat):Prop:=(∀y,hX N bb (ext N y (-1))↔∀k,k<N->y k=x k)/\∀y,hX N bb (ext N y 0)->∀k,k<N->y k=0
def Dk (N:Nat)(bb:eD):Prop:=∃y,hX N bb (ext N y 0)/\∃k,k<N/\y k≠0
def azC {N:Nat}{rows:List dh}{aN:eD}(h:xW N rows aN):rows.map (wk N)=dz N (λi=>aN i N) :=
 N1 (by rw[ar];exact h.1) λk I=>by
  obtain⟨x,Q,-,ov⟩:=h.row I;rw[bo,Q,iY];unfold wk;rw[ei,ov.get (bM _)]
  rfl
def Jr.Dl {N:Nat}{aN wv:eD}{rows:List dh}{p c:Nat}{cy:Nat->Nat}(h:Jr N aN wv rows p c cy){i k:Nat}(J:i<N)(I:k<=N):dc (wv i k):=by
 obtain⟨x,-,-,ov⟩:=h.enc.row J;exact ov.2 k I
def akH {q:Rat}(h:dc q):mX 0 (-q)=true:=by
 unfold mX;simp only[eQ]
 have F:iM ((-q).num*((0:Rat).den:Int))=true:=by
  rw[akt,aa1];unfold iM;rw[decide_eq_true_eq];have:=h.1;omega
 refine⟨?_,F,?_,?_⟩
 ·rw[aa2,AG];decide +kernel
 ·rw[aa2,AG,Ie];exact F
 ·rw[aa1,Rat.neg_den];unfold iM;rw[decide_eq_true_eq];have:=h.2;omega
def akI:dc 0:=⟨by decide +kernel,by decide +kernel⟩
def azD {N f:Nat}{rows:List dh}{aN:eD}(h:xW N rows aN)(aK:f<N):NF rows f N f=dz N (tp aN f) :=
 N1 (ayG _ _ _ _) λk I=>by
  unfold NF;rw[bo,vt I,iY];unfold tp
  by_cases F:k<f
  ·rw[ab F,ab F];obtain⟨x,-,ex,ov⟩:=h.row (i:=k) (by omega);rw[ex,ov.cell (by omega),<-ajJ,RF akI (ov.2 f (by omega)),akH (ov.2 f (by omega))]
   rfl
  ·rw[ae F,ae F]
   by_cases G:k=f
   ·rw[ab G,ab G,ayF]
   ·rw[ae G,ae G,ajJ]
def aa3 {N:Nat}{bb aN:eD}(h:∀y,hX N aN y↔hX N bb y):∀y z,hX N aN (ext N y z)↔hX N bb (ext N y z):=λ_ _=>h _
def azE {rs:List fJ}{n:Int}(h:pA rs n=true):
  (wm rs n=([],6)) \/
  (∃x,wm rs n=(dz (D rs) x,0)/\aac rs n=([],false)/\(∀k,k<(D rs)->dc (x k))/\akG (D rs) (rl rs) x) \/
  (∃y,wm rs n=([],17)/\aac rs n=(dz (D rs) y,true)/\(∀k,k<(D rs)->dc (y k))/\hX (D rs) (rl rs) (ext (D rs) y 0)/\∃k,k<D rs/\y k=1):=by
 unfold wm aac;rw[ab h];rcases Q:re true rs with ⟨xY,sq,bad⟩
 cases bad
 ·right
  obtain⟨aN,p,c,cy,he,-,X⟩:=azm true h Q;rw[ab h];rcases X rfl with ⟨rfl,rfl,rfl,ki⟩|⟨f,rfl,aK,rfl,rfl,ki,aV⟩
  ·left
   refine⟨λi=>aN i (D rs),?_,rfl,λk I=>he.Dl I (bM _),λy=>?_,λy al=>?_⟩
   ·rw[ae (by simp),ae (by simp),azC he.enc]
   ·rw[<-aa3 he.Js];exact ajW he.red ki y
   ·exact ay3 he.red ki y ((aa3 he.Js y 0).2 al)
  ·right
   refine⟨tp aN c,?_,?_,λk I=>?_,?_,⟨c,aK,by unfold tp;simp⟩⟩
   ·rw[ae (by simp),ab (by simp)]
   ·rw[ae (by simp)];exact congrArg (λl=>(l,true)) (azD he.enc aK)
   ·unfold tp
    split
    ·exact ahi (akH (he.Dl I (by omega)))
    ·split
     ·exact⟨by decide +kernel,by decide +kernel⟩
     ·exact akI
   ·exact (aa3 he.Js _ _).1 (ajX he.red ki aK aV)
 ·left
  rw[ab rfl]
def akJ (aN:eD){N p s:Nat}(aF:p<N)(X:p<=s)(Ba:s<N){i:Nat}(J:i<N):∃bj,bj<N/\hx aN p s i=aN bj:=by
 unfold hx
 by_cases F:i=s
 ·exact⟨p,aF,by rw[ab F]⟩
 ·by_cases G:i=p
  ·exact⟨s,Ba,by rw[ae F,ab G]⟩
  ·exact⟨i,J,by rw[ae F,ae G]⟩
def azF (b:Nat)(p:Prop)[Decidable p]:ec b (if p then 1 else 0):=by
 have ad:1<=2^b:=S4
 split
 ·exact⟨ad,ad⟩
 ·exact⟨fy _,ad⟩
def lR.all {N p eS aL:Nat}{A aN:eD}{cy:Nat->Nat}(fz:Ju N A eS aL)(h:lR N A aN p)(aa:rh N aN p p cy)(ki:∀j,j<p->cy j=j)(aF:p<=N){i k:Nat}(J:i<N)(I:k<=N):ec eS (aN i k):=by
 by_cases S5:k<p
 ·have:=aa.unit k S5 i J;rw[ki k S5] at this;rw[this];exact azF _ _
 ·exact (fz aN p aF h i k J (by omega) I).1
def azG {N p s eS aL:Nat}{A aN:eD}{cy:Nat->Nat}(fz:Ju N A eS aL)(h:lR N A aN p)(aa:rh N aN p p cy)(ki:∀j,j<p->cy j=j)(aF:p<N)(X:p<=s)(Ba:s<N)(bE:aN s p≠0)(jT:2*eS+aL+1<1200):akh N (hx aN p s) p p:=by
 have G:=h.step aF X Ba bE;have bL:=aa.FK aF X Ba bE
 have azH:∀j,j<p+1->(if j=p then p else cy j)=j:=λj ag=>by
  split
  ·omega
  ·exact ki j (by omega)
 have en:∀i,i<N->∀k,k<=N->ec eS (hx aN p s i k):=by
  intro i J k I;obtain⟨bj,F,e⟩:=akJ aN aF X Ba J;rw[e];exact h.all fz aa ki (by omega) F I
 have N0:∀i,i<N->ec aL (hx aN p s i p):=by
  intro i J;obtain⟨bj,F,e⟩:=akJ aN aF X Ba J;rw[e];exact (fz aN p (by omega) h bj p F (bM p) (by omega)).2 aF
 have akK:∀k,k<=N->ec eS (hx aN p s p k/hx aN p s p p):=by
  intro k I;have:=G.all fz bL azH (by omega) (i:=p) aF I;unfold o0 at this;rwa [ab rfl] at this
 refine⟨λk I=>aks (en p aF k I) (N0 p aF) (by omega),λi J _ _ k I=>?_⟩;unfold sn;rw[eQ];exact⟨aaR (N0 i J) (akK k I) (by omega),Df (en i J k I) (Dg (NX (N0 i J) (akK k I))) (by omega)⟩
def azI {N eS aL:Nat}{A:eD}(fz:Ju N A eS aL)(jT:2*eS+aL+1<1200):
  ∀k p rows aN cy,p+k=N->Jr N A aN rows p p cy->lR N A aN p->(∀j,j<p->cy j=j)->(nt true k p rows [] false).2.2=false:=by
 intro k
 induction k with
 |zero=>intro p rows aN cy _ _ _ _;rfl
 |succ k av =>
  intro p rows aN cy aF he Y ki;unfold nt;rw[lH,ND];rcases aki he.enc (r:=p) (c:=p) (by omega) (by omega) with ⟨F,G,af,aS⟩|⟨F,s,hM,jx,pJ,aS,bt⟩
  ·rw[F,G,af,ab rfl,ab rfl]
  ·have cT:=azG fz Y he.red ki (by omega) hM jx pJ jT;have ad:=bt cT;rw[F,ae (by simp),ad];refine av (p+1) _ (o0 aN p p s) (λj=>if j=p then p else cy j) (by omega) ⟨aS ad,he.red.FK (by omega) hM jx pJ,λy=>(aaf (by omega) jx pJ).trans (he.Js y)⟩ (Y.step (by omega) hM jx pJ) λj ag=>?_;show (if j=p then p else cy j)=j
   split
   ·omega
   ·exact ki j (by omega)
def azJ {rs:List fJ}{n:Int}{eS aL:Nat}(h:pA rs n=true)(fz:Ju (D rs) (rl rs) eS aL)(jT:2*eS+aL+1<1200):wm rs n≠([],6):=by
 have Q:(re true rs).2.2=false :=
  azI fz jT (D rs) 0 (hW rs) (rl rs) (λj=>j) (by omega) ⟨akn h,SE _ _ _,λ_=>Iff.rfl⟩ (lR.start _ _) λj ag=>by omega
 unfold wm;rw[ab h,ae (by rw[Q];simp)]
 split
 ·simp
 ·simp
def azK {rs:List fJ}{n:Int}{eS aL:Nat}(h:pA rs n=true)(fz:Ju (D rs) (rl rs) eS aL)(jT:2*eS+aL+1<1200)(X:¬ Dk (D rs) (rl rs)):
  ∃x,wm rs n=(dz (D rs) x,0)/\(∀k,k<(D rs)->dc (x k))/\akG (D rs) (rl rs) x:=by
 rcases azE h with e|⟨x,e,-,F,G⟩|⟨y,-,-,-,F,k,I,al⟩
 ·exact absurd e (azJ h fz jT)
 ·exact⟨x,e,F,G⟩
 ·exact absurd ⟨y,F,k,I,by rw[al];decide⟩ X
def lR.full {N:Nat}{A:eD}(X:¬ Dk N A):∀k p aN cy,p+k=N->rh N aN p p cy->(∀y,hX N aN y↔hX N A y)->lR N A aN p->(∀j,j<p->cy j=j)->∃aN cy,lR N A aN N/\rh N aN N N cy/\(∀j,j<N->cy j=j)/\∀y,hX N aN y↔hX N A y
 |0,p,aN,cy,aF,aa,aO,Y,ki=>by
  obtain rfl:p=N:=by omega
  exact⟨aN,cy,Y,aa,ki,aO⟩
 |k+1,p,aN,cy,aF,aa,aO,Y,ki=>by
  by_cases aV:∀i,p<=i->i<N->aN i p=0
  ·exfalso
   refine X ⟨tp aN p,(aO _).1 (ajX aa ki (by omega) aV),p,by omega,?_⟩
   unfold tp;rw[ae (by omega),ab rfl]
   decide
  ·have⟨s,hM,jx,pJ⟩:∃s,p<=s/\s<N/\aN s p≠0:=by
    apply kE;intro h;exact aV λi F G=>kE λaf=>h ⟨i,F,G,af⟩
   refine lR.full X k (p+1) (o0 aN p p s) (λj=>if j=p then p else cy j) (by omega) (aa.FK (by omega) hM jx pJ) (λy=>(aaf (by omega) jx pJ).trans (aO y)) (Y.step (by omega) hM jx pJ) λj ag=>?_;show (if j=p then p else cy j)=j
   split
   ·omega
   ·exact ki j (by omega)
def akL {N δ v:Nat}{A:eD}(X:¬ Dk N A)(dn:u3 N A δ v){x:Nat->Rat}(Q:hX N A (ext N x (-1))):∃bb:Nat,0<bb/\bb<=2^(N+δ)/\∀i,i<N->∃z:Int,x i*(bb:Rat)=(z:Rat):=by
 obtain⟨aN,cy,⟨σ,F,z8,G,af⟩,-⟩:=lR.full X N 0 A (λj=>j) (by omega) (SE _ _ _) (λ_=>Iff.rfl) (lR.start _ _) (λj ag=>by omega);refine lR.azB (aN:=λi _=>x i) dn ⟨σ,F,z8,λi J k k2 gF=>?_,af⟩;obtain rfl:k=N:=by omega
 rw[ab J];have:=Q (σ i) (F i J);rw[NR] at this;grind
def azL {N:Nat}{A:eD}(X:¬ Dk N A):∃x,hX N A (ext N x (-1)):=by
 obtain⟨aN,cy,-,F,G,af⟩:=lR.full X N 0 A (λj=>j) (by omega) (SE _ _ _) (λ_=>Iff.rfl) (lR.start _ _) (λj ag=>by omega);exact⟨λi=>aN i N,(af _).1 ((ajW F G _).2 λ_ _=>rfl)⟩
end Go.Mini
namespace Go.Mini
open Classical
def Day.W (d:Day)(f:Nat->Nat)(k i:Nat):Rat:=cI d.de λc=>if c.to=(i:Int)/\c.aE=k/\c.rk=f k then d.w c else 0
def Day.st (d:Day)(f:Nat->Nat)(i:Nat):Rat:=d.cash i+cI d.de λc=>if c.to=(i:Int)/\c.rk<f c.aE then c.am else 0
def Day.df.akM {d:Day}(Y:d.df)(f:Nat->Nat)(P:Nat->Prop)(x:Nat->Rat)(i:Nat):(cI d.de λc=>if c.to=(i:Int) then (if c.rk=f c.aE/\P c.aE then d.w c*x c.aE else 0) else 0)=bD d.n λk=>if P k then d.W f k i*x k else 0:=by
 have e:=aaj (n:=d.n) Y.aE λk c=>if c.to=(i:Int) then (if c.rk=f k/\P k then d.w c*x k else 0) else 0;rw[<-e];refine kD λk I=>?_
 by_cases gw:P k
 ·rw[ab gw,wx];unfold Day.W;rw[<-SG];refine xT λc _=>?_
  by_cases F:c.aE=k
  ·by_cases G:c.to=(i:Int)
   ·by_cases af:c.rk=f k
    ·rw[ab F,ab G,ab ⟨af,gw⟩,ab ⟨G,F,af⟩,wx]
    ·rw[ab F,ab G,ae λh=>af h.1,ae λh=>af h.2.2,oZ]
   ·rw[ab F,ae G,ae λh=>G h.1,oZ]
  ·rw[ae F,ae λh=>F h.2.1,oZ]
 ·rw[ae gw];refine Jf λc _=>?_
  split
  ·split
   ·rw[ae λh=>gw h.2]
   ·rfl
  ·rfl
def Day.df.S6 {d:Day}(Y:d.df)(f:Nat->Nat)(P:Nat->Prop)(h:Nat->Rat)(i:Nat):d.fb (d.l f P h) i=d.st f i+bD d.n λk=>if P k then d.W f k i*(h k-d.U k (f k)) else 0:=by
 rw[<-Y.akM f P (λk=>h k-d.U k (f k)) i];unfold Day.fb Day.st;rw[Rat.add_assoc,<-SF]
 congr 1
 refine xT λc _=>?_;unfold Day.l
 by_cases F:c.to=(i:Int)
 ·rw[ab F,ab F]
  by_cases G:c.rk<f c.aE
  ·have af:c.to=(i:Int)/\c.rk<f c.aE:=⟨F,G⟩;have aS:¬ (c.rk=f c.aE/\P c.aE):=λh=>by have:=h.1;omega
   rw[ab G,ab af,ae aS,rf]
  ·have af:¬ (c.to=(i:Int)/\c.rk<f c.aE):=λh=>G h.2;rw[ae G,ae af,Di]
   by_cases aS:c.rk=f c.aE/\P c.aE
   ·rw[ab aS,ab aS,aS.1]
   ·rw[ae aS,ae aS]
 ·have af:¬ (c.to=(i:Int)/\c.rk<f c.aE):=λh=>F h.1;rw[ae F,ae af,ae F,rf]
def Day.Bd (d:Day)(f:Nat->Nat)(P:Nat->Prop):eD:=λi k=>if k<d.n then (if i=k then 1 else 0)-(if P k then d.W f k i else 0) else d.st f i-bD d.n λk=>if P k then d.W f k i*d.U k (f k) else 0
def aa4 {d:Day}(f:Nat->Nat)(P:Nat->Prop)(x:Nat->Rat)(z:Rat){i:Nat}(J:i<d.n):m3 d.n (d.Bd f P i) (ext d.n x z)=x i-(bD d.n λk=>if P k then d.W f k i*x k else 0)+(d.st f i-bD d.n λk=>if P k then d.W f k i*d.U k (f k) else 0)*z:=by
 rw[NR]
 congr 1
 ·have e:=zl (n:=d.n) (f:=λk=>if i=k then x k else 0) (j:=i) J λk _ I=>ae (Ne.symm I);rw[ab rfl] at e;rw[<-e,<-Jg];refine kD λk I=>?_;unfold Day.Bd;rw[ab I]
  split<;>split<;>grind
 ·unfold Day.Bd;rw[ae (by omega)]
def akN {d:Day}(Y:d.df)(f:Nat->Nat)(P:Nat->Prop)(h:Nat->Rat):hX d.n (d.Bd f P) (ext d.n h (-1))↔∀i,i<d.n->h i=d.fb (d.l f P h) i:=by
 have e:∀i,(bD d.n λk=>if P k then d.W f k i*(h k-d.U k (f k)) else 0)=(bD d.n λk=>if P k then d.W f k i*h k else 0)-bD d.n λk=>if P k then d.W f k i*d.U k (f k) else 0:=λi=>by
  rw[<-Jg];refine kD λk _=>?_
  split<;>grind
 unfold hX
 constructor
 ·intro dn i J;have:=dn i J;rw[aa4 f P h _ J] at this;rw[Y.S6,e];grind
 ·intro dn i J;have:=dn i J;rw[Y.S6,e] at this;rw[aa4 f P h _ J];grind
structure Good (d:Day) (f:Nat->Nat) (P:Nat->Prop):Prop where
 ok:d.df
 inv:∃g,Inv d f g
 gM:∀i,P i->i<d.n/\f i<10
 SN:∀C:Nat->Prop,(∃i,C i)->(∀i,C i->P i)->¬ d.closed f C
def Good.akO {d:Day}{f:Nat->Nat}{P:Nat->Prop}(a8:Good d f P){x:Nat->Rat}(Q:∀i,i<d.n->x i=bD d.n λk=>if P k then d.W f k i*x k else 0):∀i,i<d.n->x i=0:=by
 obtain⟨g,J⟩:=a8.inv;exact ayU J a8.ok a8.gM a8.SN x λi cn=>by rw[a8.ok.akM f P x i];exact Q i cn
def Good.akP {d:Day}{f:Nat->Nat}{P:Nat->Prop}(a8:Good d f P):¬ Dk d.n (d.Bd f P):=by
 rintro⟨y,al,k,I,bE⟩;refine bE (a8.akO (x:=y) (λi J=>?_) k I);have:=al i J;rw[aa4 f P y _ J] at this;grind
def Good.ex {d:Day}{f:Nat->Nat}{P:Nat->Prop}(a8:Good d f P):∃h:Nat->Rat,∀i,i<d.n->h i=d.fb (d.l f P h) i:=by
 obtain⟨x,Q⟩:=azL a8.akP;exact⟨x,(akN a8.ok f P x).1 Q⟩
def Good.uniq {d:Day}{f:Nat->Nat}{P:Nat->Prop}(a8:Good d f P){h cj:Nat->Rat}(e:∀i,i<d.n->h i=d.fb (d.l f P h) i)(e':∀i,i<d.n->cj i=d.fb (d.l f P cj) i):∀i,i<d.n->h i=cj i:=by
 obtain⟨g,J⟩:=a8.inv;exact ayT J a8.ok a8.gM a8.SN e e'
def Day.fc (d:Day)(f:Nat->Nat)(P:Nat->Prop):Nat->Rat:=if h:∃x:Nat->Rat,∀i,i<d.n->x i=d.fb (d.l f P x) i then vD h else λ_=>0
def Good.fc {d:Day}{f:Nat->Nat}{P:Nat->Prop}(a8:Good d f P):∀i,i<d.n->d.fc f P i=d.fb (d.l f P (d.fc f P)) i:=by
 have h:=a8.ex;unfold Day.fc;rw[dif_pos h];exact oP h
def azM {l:List Nat}{a k:Nat}(h:k<D l):(l++[a]).getD k 0=l.getD k 0:=by
 rw[ei,ei,sM h]
def azN (l:List Nat)(a:Nat)(aL:Nat->Rat):bD (l++[a]).length (λk=>aL ((l++[a]).getD k 0))=bD (D l) (λk=>aL (l.getD k 0))+aL a:=by
 rw[fO,List.length_singleton,bD]
 congr 1
 ·refine kD λk I=>?_;rw[azM I]
 ·rw[ei,rR (bM _),lf];rfl
def cO (P:Nat->Prop)(n:Nat):List Nat:=(dD n).filter λi=>decide (P i)
def S7 (P:Nat->Prop)(aL:Nat->Rat):∀n,bD (cO P n).length (λk=>aL ((cO P n).getD k 0))=bD n λk=>if P k then aL k else 0
 |0=>rfl
 |n+1=>by
  have av:=S7 P aL n;unfold cO at av ⊢;rw[m5,ql]
  by_cases gw:P n
  ·rw[tr (by simpa using gw),qm,azN,av,bD,ab gw]
  ·rw[u5 (by simpa using gw),qm,fG,av,bD,ae gw,rf]
def xZ {P:Nat->Prop}{n k:Nat}(h:k<(cO P n).length):(cO P n).getD k 0<n/\P ((cO P n).getD k 0):=by
 have hm:(cO P n).getD k 0∈cO P n:=by
  rw[ei,bn h];exact nC h
 unfold cO at hm ⊢;rw[Bc,gQ,decide_eq_true_eq] at hm;exact hm
def Day.u6 (d:Day)(f:Nat->Nat)(p:List Nat):eD:=λi k=>if k<(D p) then (if i=k then 1 else 0)-d.W f (p.getD k 0) (p.getD i 0) else d.st f (p.getD i 0)-d.U (p.getD i 0) (f (p.getD i 0))
def akQ {d:Day}(f:Nat->Nat)(p:List Nat)(x:Nat->Rat)(z:Rat){i:Nat}(J:i<D p):m3 (D p) (d.u6 f p i) (ext (D p) x z)=x i-(bD (D p) λk=>d.W f (p.getD k 0) (p.getD i 0)*x k)+(d.st f (p.getD i 0)-d.U (p.getD i 0) (f (p.getD i 0)))*z:=by
 rw[NR]
 congr 1
 ·have e:=zl (n:=D p) (f:=λk=>if i=k then x k else 0) (j:=i) J λk _ I=>ae (Ne.symm I);rw[ab rfl] at e;rw[<-e,<-Jg];refine kD λk I=>?_;unfold Day.u6;rw[ab I]
  split<;>grind
 ·unfold Day.u6;rw[ae (by omega)]
def Good.small {d:Day}{f:Nat->Nat}{P:Nat->Prop}(a8:Good d f P):¬ Dk (cO P d.n).length (d.u6 f (cO P d.n)):=by
 rintro⟨y,al,k,I,bE⟩
 have F:∀r,r<(cO P d.n).length->y r=bD (cO P d.n).length λk=>d.W f ((cO P d.n).getD k 0) ((cO P d.n).getD r 0)*y k:=λr aa=>by
  have:=al r aa;rw[akQ f _ y _ aa] at this;grind
 have G:=a8.akO (x:=λi=>bD (cO P d.n).length λk=>d.W f ((cO P d.n).getD k 0) i*y k) (λi J=>by
  rw[<-S7 P (λk=>d.W f k i*bD (cO P d.n).length λk'=>d.W f ((cO P d.n).getD k' 0) k*y k') d.n];exact kD λr aa=>by rw[F r aa]) ((cO P d.n).getD k 0) (xZ I).1
 refine bE ?_;rw[F k I];exact G
def Good.akR {d:Day}{f:Nat->Nat}{P:Nat->Prop}(a8:Good d f P):hX (cO P d.n).length (d.u6 f (cO P d.n)) (ext (cO P d.n).length (λk=>d.fc f P ((cO P d.n).getD k 0)-d.U ((cO P d.n).getD k 0) (f ((cO P d.n).getD k 0))) (-1)):=by
 intro r aa;rw[akQ f _ _ _ aa,S7 P (λk=>d.W f k ((cO P d.n).getD r 0)*(d.fc f P k-d.U k (f k))) d.n];have:=a8.fc _ (xZ aa).1;rw[a8.ok.S6] at this;grind
def Good.akS {d:Day}{f:Nat->Nat}{P:Nat->Prop}(a8:Good d f P){i:Nat}(J:i<d.n):d.fc f P i=d.st f i+bD (cO P d.n).length λk=>d.W f ((cO P d.n).getD k 0) i*(d.fc f P ((cO P d.n).getD k 0)-d.U ((cO P d.n).getD k 0) (f ((cO P d.n).getD k 0))):=by
 rw[S7 P (λk=>d.W f k i*(d.fc f P k-d.U k (f k))) d.n,<-a8.ok.S6];exact a8.fc i J
def iv.good {d:Day}(Y:d.df){f:Nat->Nat}{g:Nat->Rat}(J:Inv d f g){P:Nat->Prop}{h:Nat->Rat}(aF:iv d f g P h):Good d f P:=⟨Y,⟨g,J⟩,aF.gM,aF.SN⟩
def Good.none {d:Day}(Y:d.df){f:Nat->Nat}{g:Nat->Rat}(J:Inv d f g):Good d f λ_=>False:=⟨Y,⟨g,J⟩,λ_ h=>h.elim,λ_ ⟨i,h⟩ cj=>(cj i h).elim⟩
def iv.first {d:Day}(Y:d.df){f:Nat->Nat}{g:Nat->Rat}(J:Inv d f g):iv d f g (λ_=>False) (d.fc f λ_=>False):=iv.start Y J (Good.none Y J).fc
def iv.succ {d:Day}(Y:d.df){f:Nat->Nat}{g:Nat->Rat}(J:Inv d f g){P:Nat->Prop}{h:Nat->Rat}(aF:iv d f g P h):iv d f g (tn d f P h) (d.fc f (tn d f P h)):=aF.next Y J (Good.fc ⟨Y,⟨g,J⟩,aF.Jl,aF.ajR Y J⟩)
def idle (d:Day)(P:Nat->Prop):Nat:=m4 d.n λi=>if P i then 0 else 1
def akT {d:Day}{f:Nat->Nat}{P:Nat->Prop}{h:Nat->Rat}{i:Nat}(J:i<d.n)(aK:f i<10)(mg:d.U i (f i)<h i)(gw:¬ P i):idle d (tn d f P h)<idle d P:=by
 refine aaA (j:=i) (λj _=>?_) J ?_
 ·by_cases ag:P j
  ·have F:tn d f P h j:=Or.inl ag;rw[ab F,ab ag];exact bM _
  ·rw[ae ag];split<;>omega
 ·have F:tn d f P h i:=Or.inr ⟨J,aK,mg⟩;rw[ab F,ae gw];omega
def iv.top {d:Day}(Y:d.df){f:Nat->Nat}{g:Nat->Rat}(J:Inv d f g):∀m (P:Nat->Prop) (h:Nat->Rat),idle d P<=m->iv d f g P h->∃h,nY d f h
 |m,P,h,hm,aF=>by
  by_cases X:∀i,i<d.n->f i<10->d.U i (f i)<h i->P i
  ·exact⟨h,g,J,aF.stop Y J X,aF.le⟩
  ·have⟨i,F,G,af,aS⟩:∃i,i<d.n/\f i<10/\d.U i (f i)<h i/\¬ P i:=by
    apply kE;intro aH;exact X λi F G af=>kE λaS=>aH ⟨i,F,G,af,aS⟩
   have aq:=akT (h:=h) F G af aS
   cases m with
   |zero=>omega
   |succ m=>exact iv.top Y J m _ _ (by omega) (aF.succ Y J)
def azO {d:Day}(Y:d.df){f:Nat->Nat}(aa:Reach d f):∃h,nY d f h:=by
 obtain⟨g,J,-⟩:=aa;exact iv.top Y J _ _ _ (bM _) (iv.first Y J)
def iv.akU {d:Day}(Y:d.df){f:Nat->Nat}{g:Nat->Rat}(J:Inv d f g){P:Nat->Prop}{h:Nat->Rat}(aF:iv d f g P h)(X:∀i,i<d.n->f i<10->d.U i (f i)<h i->P i):∀i,i<d.n->h i=d.top f i :=
 have bz:nY d f h:=⟨g,J,aF.stop Y J X,aF.le⟩
 bz.unique Y (Day.Db ⟨h,bz⟩)
end Go.Mini
namespace Go.Mini
open Classical
def fe (bb:Nat)(x:Rat):Prop:=∃z:Int,x*(bb:Rat)=(z:Rat)
def fe.add {bb:Nat}{x y:Rat}(Q:fe bb x)(al:fe bb y):fe bb (x+y):=by
 obtain⟨a,aO⟩:=Q;obtain⟨b,ad⟩:=al;exact⟨a+b,by rw[zo,<-aO,<-ad];grind⟩
def fe.sub {bb:Nat}{x y:Rat}(Q:fe bb x)(al:fe bb y):fe bb (x-y):=by
 obtain⟨a,aO⟩:=Q;obtain⟨b,ad⟩:=al;exact⟨a-b,by rw[zp,<-aO,<-ad];grind⟩
def fe.mul {bb N:Nat}{x y:Rat}(Q:fe bb x)(al:fe N y):fe (bb*N) (x*y):=by
 obtain⟨a,aO⟩:=Q;obtain⟨b,ad⟩:=al;exact⟨a*b,by rw[rj,<-aO,<-ad,S3];grind⟩
def fe.int (bb:Nat)(z:Int):fe bb (z:Rat):=⟨z*bb,by rw[rj,o1]⟩
def fe.zero (bb:Nat):fe bb 0:=⟨0,by rw[Ji];rfl⟩
def fe.more {bb:Nat}{x:Rat}(h:fe bb x)(N:Nat):fe (bb*N) x:=by
 obtain⟨a,aO⟩:=h;exact⟨a*N,by rw[rj,<-aO,S3,o1];grind⟩
def fe.of_dvd {bb N:Nat}{x:Rat}(h:fe bb x)(Y:∃m,N=bb*m):fe N x:=by
 obtain⟨m,rfl⟩:=Y;exact h.more m
def fe.cI {bb:Nat}{l:List er}{aL:er->Rat}(h:∀c∈l,fe bb (aL c)):fe bb (cI l aL):=by
 induction l with
 |nil=>exact fe.zero bb
 |cons c l av=>exact (h c gK).add (av λx Q=>h x (g5 _ Q))
def fe.bD {bb n:Nat}{aL:Nat->Rat}(h:∀k,k<n->fe bb (aL k)):fe bb (bD n aL):=by
 induction n with
 |zero=>exact fe.zero bb
 |succ n av=>exact (av λk I=>h k (by omega)).add (h n (by omega))
def fe.sz {bb a e:Nat}{x:Rat}(h:fe bb x)(kT:0<bb)(N2:bb<=2^a)(au:0<=x)(Q:x<=((2^e:Nat):Rat)):ec (a+e) x:=by
 obtain⟨z,aV⟩:=h;have kL:(0:Rat)<=(z:Rat):=by rw[<-aV];exact aal au (by exact_mod_cast fy bb)
 have azP:(z:Rat)<=((2^e*bb:Nat):Rat):=by
  rw[<-aV,S3];exact Rat.mul_le_mul_of_nonneg_right Q (by exact_mod_cast fy bb)
 have fZ:0<=z:=by exact_mod_cast kL
 have bS:z<=((2^e*bb:Nat):Int):=by exact_mod_cast azP
 obtain⟨f1,f2⟩:=Dd (q:=x) (v:=z) (d:=(bb:Int)) (by omega) (by rw[o1];exact aV);rw[mV] at f2;have cM:z.natAbs<=2^e*bb:=by omega
 refine⟨eZ f1 (eZ cM ?_),eZ f2 (eZ N2 (xz (by omega) (by omega)))⟩;rw[xV,sT (2^a)];exact Nat.mul_le_mul_left _ N2
structure fv (cash:List Int) (cs:List ao):Prop where
 right:hY cash cs=true
 k3:(D cash)<=6
 ts:(D cs)<=12
 am:∀c∈cs,c.2.2.2<=1000000000000000
def fv.ok {cash:List Int}{cs:List ao}(h:fv cash cs):(aB cash cs).df:=aaC h.right
def fv.sum {cash:List Int}{cs:List ao}(h:fv cash cs)(p:ao->Prop)[DecidablePred p]:0<=cJ cs (λc=>if p c then c.2.2.2 else 0)/\cJ cs (λc=>if p c then c.2.2.2 else 0)<=12000000000000000:=by
 have:=SS (cs:=cs) (aL:=λc=>if p c then c.2.2.2 else 0) (B:=1000000000000000) (by omega) λc H=>by
  have F:=h.am c H;have G:=((gN.1 h.right).2.2.2 c H).2.2.2.2.2.2.1
  try dsimp only
  split<;>omega
 have ht:=h.ts;omega
def fv.upto {cash:List Int}{cs:List ao}(h:fv cash cs)(i r:Int):0<=cK cs i r/\cK cs i r<=12000000000000000:=h.sum λc=>c.1=i/\c.2.2.1<r
def azQ {cash:List Int}{cs:List ao}(h:hY cash cs=true)(i:Int){r s:Int}(Ca:r<=s):cK cs i r<=cK cs i s:=by
 have aS:=(gN.1 h).2.2.2
 have:∀l:List ao,(∀c∈l,0<=c.2.2.2)->cJ l (λc=>if c.1=i/\c.2.2.1<r then c.2.2.2 else 0)<=cJ l (λc=>if c.1=i/\c.2.2.1<s then c.2.2.2 else 0):=by
  intro l
  induction l with
  |nil=>intro _;exact S8 _
  |cons c l av =>
   intro ak;have F:=av λx Q=>ak x (g5 _ Q);have G:=ak c gK;simp only[cJ]
   split<;>split<;>omega
 exact this cs λc H=>(aS c H).2.2.2.2.2.2.1
def ig (cs:List ao)(k r:Nat):Nat:=(cK cs k (r+1:Nat)-cK cs k r).toNat
def FX {cash:List Int}{cs:List ao}(h:hY cash cs=true)(k r:Nat):((ig cs k r:Nat):Rat)=(aB cash cs).S k r:=by
 have F:=SU h k r;have G:=azQ h k (r:=r) (s:=(r+1:Nat)) (by omega);rw[<-F,<-o1];unfold ig;rw[Int.toNat_of_nonneg (by omega)]
def fv.FY {cash:List Int}{cs:List ao}(h:fv cash cs)(k r:Nat):ig cs k r<=2^54:=by
 have F:=h.upto k (r+1:Nat);have G:=h.upto k r;unfold ig;omega
def pK (cs:List ao)(f:Nat->Nat)(k i:Nat):Int:=cJ cs λc=>if c.2.1=(i:Int)/\c.1=(k:Int)/\c.2.2.1=(f k:Int) then c.2.2.2 else 0
def azR {cash:List Int}{cs:List ao}(h:hY cash cs=true)(f:Nat->Nat){k:Nat}(i:Nat)(cB:0<(aB cash cs).S k (f k)):(aB cash cs).W f k i*(aB cash cs).S k (f k)=((pK cs f k i:Int):Rat):=by
 unfold Day.W pK
 rw[SR cs _ (λc=>if c.to=(i:Int)/\c.aE=k/\c.rk=f k then c.am else 0) λc H=>by
  have:=(gN.1 h).2.2.2 c H;show ((if c.2.1=(i:Int)/\c.1=(k:Int)/\c.2.2.1=(f k:Int) then c.2.2.2 else 0:Int):Rat)=if c.2.1=(i:Int)/\c.1.toNat=k/\c.2.2.1.toNat=f k then (c.2.2.2:Rat) else 0
  by_cases F:c.2.1=(i:Int)/\c.1=(k:Int)/\c.2.2.1=(f k:Int)
  ·rw[ab F,ab (by omega)]
  ·rw[ae F,ae (by omega)];rfl]
 rw[wx,<-SG];refine xT λc _=>?_
 split
 ·rename_i F;rw[wx];have az:=F.2.1;have aD:=F.2.2;subst az;rw[<-aD] at cB ⊢;exact Day.C9 cB
 ·rw[oZ]
def N3 {cash:List Int}{cs:List ao}(h:hY cash cs=true)(f:Nat->Nat)(i:Nat):((lv cash cs f i:Int):Rat)=(aB cash cs).st f i:=by
 unfold lv Day.st;rw[zo]
 congr 1
 refine SR cs _ (λc=>if c.to=(i:Int)/\c.rk<f c.aE then c.am else 0) λc H=>?_;have:=(gN.1 h).2.2.2 c H;show ((if c.2.1=(i:Int)/\c.2.2.1<(f c.1.toNat:Int) then c.2.2.2 else 0:Int):Rat)=if c.2.1=(i:Int)/\c.2.2.1.toNat<f c.1.toNat then (c.2.2.2:Rat) else 0
 by_cases F:c.2.1=(i:Int)/\c.2.2.1<(f c.1.toNat:Int)
 ·rw[ab F,ab (by omega)]
 ·rw[ae F,ae (by omega)];rfl
def fv.cash {cash:List Int}{cs:List ao}(h:fv cash cs)(i:Nat):0<=cash.getD i 0/\cash.getD i 0<=1000000000000000:=by
 rw[ei]
 cases J:cash[i]? with
 |none=>simp
 |some x=>exact (gN.1 h.right).2.2.1 x (dZ J)
def fv.steady {cash:List Int}{cs:List ao}(h:fv cash cs)(f:Nat->Nat)(i:Nat):0<=lv cash cs f i/\lv cash cs f i<=13000000000000000:=by
 have F:=h.cash i;have G:=h.sum λc=>c.2.1=(i:Int)/\c.2.2.1<(f c.1.toNat:Int);unfold lv;omega
def S9 (n:Nat)(a b:Nat->Nat):fj n (λi=>a i+b i)=fj n a+fj n b:=by
 induction n with
 |zero=>rfl
 |succ n av=>simp only[fj,av];omega
def Ta {n:Nat}{a:Nat->Nat}(h:∀i,i<n->a i=0):fj n a=0:=by
 induction n with
 |zero=>rfl
 |succ n av=>rw[fj,av λi J=>h i (by omega),h n (by omega)]
def akV {n b e:Nat}{b8:Nat->Nat}(h:∀k,k<n->b8 k<=2^b)(he:n*b<=e):iU n b8<=2^e:=eZ (aaM h) (xz (by omega) he)
def Tb {n x:Nat}{p:Nat->Prop}[DecidablePred p](h:∀i j,p i->p j->i=j):fj n (λi=>if p i then x else 0)<=x:=by
 induction n with
 |zero=>exact fy _
 |succ n av =>
  rw[fj]
  by_cases aF:p n
  ·rw[ab aF,Ta λi J=>ae λF=>by have:=h i n F aF;omega]
   omega
  ·rw[ae aF];omega
def akW {cs:List ao}{aL:ao->Int}(h:∀c∈cs,0<=aL c):0<=cJ cs aL:=by
 induction cs with
 |nil=>exact S8 _
 |cons c l av =>
  have F:=av λx Q=>h x (g5 _ Q);have G:=h c gK;simp only[cJ];omega
def akX {cs:List ao}(h:∀c∈cs,0<=c.2.2.2)(f:Nat->Nat)(k i:Nat):0<=pK cs f k i:=akW λc H=>by
 have:=h c H
 split<;>omega
def azS {cs:List ao}(h:∀c∈cs,0<=c.2.2.2)(k r:Nat):ig cs k r=(cJ cs λc=>if c.1=(k:Int)/\c.2.2.1=(r:Int) then c.2.2.2 else 0).toNat:=by
 unfold ig cK
 congr 1
 induction cs with
 |nil=>rfl
 |cons c l av =>
  have F:=av λx Q=>h x (g5 _ Q);simp only[cJ]
  have e:(if c.1=(k:Int)/\c.2.2.1<((r+1:Nat):Int) then c.2.2.2 else 0)-(if c.1=(k:Int)/\c.2.2.1<(r:Int) then c.2.2.2 else 0)=if c.1=(k:Int)/\c.2.2.1=(r:Int) then c.2.2.2 else 0:=by
   (repeat' split)<;>omega
  omega
def azT {cs:List ao}(h:∀c∈cs,0<=c.2.2.2)(f:Nat->Nat)(k N:Nat):fj N (λi=>(pK cs f k i).toNat)<=ig cs k (f k):=by
 rw[azS h]
 induction cs with
 |nil=>exact eZ (zk (Ta λi _=>rfl)) (fy _)
 |cons c l av =>
  have ak:=λx Q=>h x (g5 c Q);have F:=av ak;have G:=h c gK
  have e:fj N (λi=>(pK (c::l) f k i).toNat)=fj N (λi=>if c.2.1=(i:Int)/\c.1=(k:Int)/\c.2.2.1=(f k:Int) then c.2.2.2.toNat else 0)+fj N λi=>(pK l f k i).toNat:=by
   rw[<-S9];refine NU λi _=>?_;have:=akX ak f k i;have az:pK (c::l) f k i=(if c.2.1=(i:Int)/\c.1=(k:Int)/\c.2.2.1=(f k:Int) then c.2.2.2 else 0)+pK l f k i:=rfl;rw[az]
   split<;>omega
  have aS:0<=cJ l λc=>if c.1=(k:Int)/\c.2.2.1=(f k:Int) then c.2.2.2 else 0:=akW λc H=>by
   have:=ak c H
   split<;>omega
  have af:fj N (λi=>if c.2.1=(i:Int)/\c.1=(k:Int)/\c.2.2.1=(f k:Int) then c.2.2.2.toNat else 0)<=if c.1=(k:Int)/\c.2.2.1=(f k:Int) then c.2.2.2.toNat else 0:=by
   by_cases H:c.1=(k:Int)/\c.2.2.1=(f k:Int)
   ·rw[ab H];exact Tb λi j J ag=>by omega
   ·rw[ae H,Ta λi _=>ae λh=>H h.2];exact bM _
  simp only[cJ];rw[e]
  split at af<;>rename_i H
  ·rw[ab H];omega
  ·rw[ae H];omega
section
variable {cash:List Int} {cs:List ao} (X:fv cash cs) {f:Nat->Nat} {P:Nat->Prop} (cB:∀k,P k->0<(aB cash cs).S k (f k))
include X cB
def Tc {k:Nat}(I:P k):0<ig cs k (f k):=by
 have F:=cB k I;rw[<-FX X.right] at F;exact_mod_cast F
def akY {k:Nat}(I:P k)(i:Nat):((ig cs k (f k):Nat):Rat)*(aB cash cs).W f k i=((pK cs f k i:Int):Rat):=by
 rw[FX X.right,wx];exact azR X.right f i (cB k I)
def akZ {k:Nat}(I:P k)(i:Nat)(p:Prop)[Decidable p]:eL ((if p then ig cs k (f k) else 0)+(pK cs f k i).toNat) (((ig cs k (f k):Nat):Rat)*((if p then 1 else 0)-(aB cash cs).W f k i)):=by
 have e:((ig cs k (f k):Nat):Rat)*((if p then 1 else 0)-(aB cash cs).W f k i)=((if p then ig cs k (f k) else 0:Nat):Rat)-((pK cs f k i:Int):Rat):=by
  rw[<-akY X cB I i]
  split<;>grind
 have G:=akX (λc H=>((gN.1 X.right).2.2.2 c H).2.2.2.2.2.2.1) f k i;rw[e];exact (eL.nat (bM _)).sub (eL.of (by omega))
omit cB in
def ak0 {N:Nat}{k:Nat}(τ:Nat->Nat)(t:Nat)(hτ:∀i,i<N->τ i<D cash)(ag:∀i j,i<N->j<N->τ i=τ j->i=j):fj N (λi=>(if i=t then ig cs k (f k) else 0)+(pK cs f k (τ i)).toNat)<=2*ig cs k (f k):=by
 rw[S9];have F:fj N (λi=>if i=t then ig cs k (f k) else 0)<=ig cs k (f k):=Tb λi j J ag=>by omega
 have G:=aaK (λi=>(pK cs f k i).toNat) hτ ag;have af:=azT (λc H=>((gN.1 X.right).2.2.2 c H).2.2.2.2.2.2.1) f k (D cash);omega
omit cB in
def ak1 (i:Nat):(lv cash cs f i-cK cs (i:Nat) (f i)).natAbs<=2^54/\(lv cash cs f i).natAbs<=2^54:=by
 have F:=X.steady f i;have G:=X.upto (i:Nat) (f i);omega
def azU:u3 (D cash) ((aB cash cs).Bd f P) (D cash*54) 54:=by
 have kz:(aB cash cs).n=D cash:=rfl;refine⟨λk=>if P k then ig cs k (f k) else 1,λk=>if P k then cK cs k (f k) else 0,λi=>lv cash cs f i-if P i then cK cs i (f i) else 0,aaM λk _=>?_,λk=>?_,λk I=>?_,λk _=>?_,λi J=>⟨?_,?_⟩⟩
 ·try dsimp only
  split
  ·exact X.FY k _
  ·decide
 ·try dsimp only
  split
  ·exact Tc X cB (by assumption)
  ·omega
 ·by_cases gw:P k
  ·refine⟨λi=>(if i=k then ig cs k (f k) else 0)+(pK cs f k i).toNat,by dsimp only;rw[ab gw];exact ak0 X (λi=>i) k (λi J=>J) λi j _ _ h=>h,λi J=>?_⟩
   unfold Day.Bd;dsimp only;rw[ab gw,ab (show k<(aB cash cs).n from I),ab gw];exact akZ X cB gw i _
  ·refine⟨λi=>if i=k then 1 else 0,by dsimp only;rw[ae gw];exact eZ (Tb λi j J ag=>by omega) (by omega),λi J=>?_⟩
   unfold Day.Bd;dsimp only;rw[ae gw,ab (show k<(aB cash cs).n from I),ae gw];have:(((1:Nat):Rat)*((if i=k then 1 else 0)-0))=((if i=k then 1 else 0:Nat):Rat):=by split<;>simp<;>grind
   rw[this];exact eL.nat (bM _)
 ·try dsimp only
  split
  ·have:=X.upto (k:Nat) (f k);omega
  ·decide
 ·have:=ak1 X (f:=f) i;dsimp only
  split
  ·exact this.1
  ·rw[Int.sub_zero];exact this.2
 ·unfold Day.Bd;rw[ae (by rw[kz];omega),kz]
  have az:(λk=>(if k<(D cash) then (if i=k then 1 else 0)-(if P k then (aB cash cs).W f k i else 0) else (aB cash cs).st f i-bD (D cash) λk=>if P k then (aB cash cs).W f k i*(aB cash cs).U k (f k) else 0)*((if P k then cK cs k (f k) else 0:Int):Rat))=λk=>(if k<(D cash) then (if i=k then ((if P k then cK cs k (f k) else 0:Int):Rat) else 0)-(if P k then (aB cash cs).W f k i*(aB cash cs).U k (f k) else 0) else ((aB cash cs).st f i-bD (D cash) λk=>if P k then (aB cash cs).W f k i*(aB cash cs).U k (f k) else 0)*((if P k then cK cs k (f k) else 0:Int):Rat)):=by
   funext k
   by_cases F:k<D cash
   ·rw[ab F,ab F]
    by_cases G:P k
    ·rw[ab G,ab G,ab G,<-u0 X.right k (f k)]
     split<;>grind
    ·rw[ae G,ae G,ae G]
     split<;>simp<;>grind
   ·rw[ae F,ae F]
  rw[az];rw[kD (g:=λk=>(if i=k then ((if P k then cK cs k (f k) else 0:Int):Rat) else 0)-(if P k then (aB cash cs).W f k i*(aB cash cs).U k (f k) else 0)) λk I=>ab I];rw[Jg,zl J λk _ I=>ae (Ne.symm I),ab rfl,zp,N3 X.right];grind
def aa5 (p:List Nat)(aF:∀k,k<(D p)->P (p.getD k 0)/\p.getD k 0<D cash)(ag:∀i j,i<(D p)->j<(D p)->p.getD i 0=p.getD j 0->i=j):u3 (D p) ((aB cash cs).u6 f p) (D p*54) 54:=by
 refine⟨λk=>if k<(D p) then ig cs (p.getD k 0) (f (p.getD k 0)) else 1,λ_=>0,λi=>lv cash cs f (p.getD i 0)-cK cs (p.getD i 0:Nat) (f (p.getD i 0)),aaM λk I=>?_,λk=>?_,λk I=>?_,λk _=>fy _,λi J=>⟨?_,?_⟩⟩
 ·try dsimp only
  rw[ab I];exact X.FY _ _
 ·try dsimp only
  split
  ·exact Tc X cB (aF k (by assumption)).1
  ·omega
 ·refine⟨λi=>(if i=k then ig cs (p.getD k 0) (f (p.getD k 0)) else 0)+(pK cs f (p.getD k 0) (p.getD i 0)).toNat,by dsimp only;rw[ab I];exact ak0 X (λi=>p.getD i 0) k (λi J=>(aF i J).2) ag,λi J=>?_⟩
  unfold Day.u6;dsimp only;rw[ab I,ab I];exact akZ X cB (aF k I).1 _ _
 ·exact (ak1 X _).1
 ·unfold Day.u6;rw[ae (by omega),tj λk _=>by rw[show ((0:Int):Rat)=0 from rfl,oZ],Di,zp,N3 X.right,u0 X.right]
end
end Go.Mini
namespace Go.Mini
open Go Classical
def iV {b:Nat}{q:Rat}(h:ec b q)(ad:b<1200):dc q:=by
 obtain⟨B,fz,ha⟩:=akp;have:2^b<ea:=by rw[ha];exact akq (by omega) (by omega)
 exact⟨uz h.1 this,uz h.2 this⟩
def rowsOf (N:Nat)(A:eD):List fJ:=(dD N).map λi=>(dz N (A i),ax (A i N))
def Dm (N:Nat)(A:eD):(rowsOf N A).length=N:=by simp[rowsOf]
def ak2 {N i:Nat}(A:eD)(h:i<N):(rowsOf N A)[i]?=some (dz N (A i),ax (A i N)):=by
 unfold rowsOf;rw[bo,vt h];rfl
def azV {N i k:Nat}(A:eD)(J:i<N)(I:k<=N):rl (rowsOf N A) i k=A i k:=by
 unfold rl;rw[akm (ak2 A J),Dm]
 by_cases h:k<N
 ·rw[ab h,ei,wy _ h,Option.getD_some,Fj]
 ·rw[ae h,Fj,show k=N by omega]
def Jw {x:Rat}(h:dc x):eY (ax x)=true:=(MN _).2 ⟨x,h,rfl⟩
def azW {N:Nat}{A:eD}(gi:N<=40)(ak:∀i,i<N->∀k,k<=N->dc (A i k)):pA (rowsOf N A) N=true:=by
 unfold pA
 have af:(rowsOf N A).any (uN N)=false:=by
  rw[uL];intro r aa;obtain⟨i,J,rfl⟩:=ef.1 aa;have J:=gQ.1 J;unfold uN IC;simp only[rm,beq_self_eq_true,g4,Jw (ak i J N (bM _))]
  have:(dz N (A i)).any (λf => !eY f)=false:=by
   rw[uL];intro f aK;unfold dz at aK;obtain⟨x,Q,rfl⟩:=ef.1 aK;obtain⟨k,I,rfl⟩:=ef.1 Q;rw[Jw (ak i J k (by have:=gQ.1 I;omega))]
   decide
  rw[this];decide
 rw[af,Dm];simp only[eQ,nS,decide_eq_false_iff_not,beq_self_eq_true,Bool.not_false,and_true];omega
def azX {N:Nat}{A:eD}(gi:N<=40)(ak:∀i,i<N->∀k,k<=N->dc (A i k)):Fs (rowsOf N A):=by
 refine⟨by rw[Dm];omega,λr aa=>?_⟩
 obtain⟨i,J,rfl⟩:=ef.1 aa;have J:=gQ.1 J;exact⟨aa0 gi λk I=>ak i J k (by omega),m1 (ak i J N (bM _))⟩
def ak3 {N:Nat}{a b y:Nat->Rat}(h:∀k,k<=N->a k=b k):m3 N a y=m3 N b y:=kD λk I=>by rw[h k (by omega)]
def hX.congr {N:Nat}{A B:eD}(h:∀i,i<N->∀k,k<=N->A i k=B i k)(y:Nat->Rat):hX N A y↔hX N B y:=by
 unfold hX
 constructor
 ·intro dn i J;rw[<-ak3 (h i J)];exact dn i J
 ·intro dn i J;rw[ak3 (h i J)];exact dn i J
def u3.congr {N δ v:Nat}{A B:eD}(h:∀i,i<N->∀k,k<=N->A i k=B i k)(X:u3 N A δ v):u3 N B δ v:=by
 obtain⟨b8,u,w,cH,cY,ep,fi,o2⟩:=X;refine⟨b8,u,w,cH,cY,λk I=>?_,fi,λi J=>⟨(o2 i J).1,?_⟩⟩
 ·obtain⟨b,c6,eB⟩:=ep k I;exact⟨b,c6,λi J=>by rw[<-h i J k (by omega)];exact eB i J⟩
 ·rw[<-h i J N (bM _),(o2 i J).2,kD λk I=>by rw[h i J k (by omega)]]
def u3.sz {N δ v:Nat}{A:eD}(X:u3 N A δ v)(gi:N<=7){i k:Nat}(J:i<N)(I:k<=N):ec (N+δ+v+4) (A i k):=(X.akF gi A 0 (fy _) (lR.start N A) i k J (fy _) I).1
def azY {N:Nat}{A:eD}(gi:N<=6)(X:u3 N A (N*54) 54)(azZ:¬ Dk N A){x:Nat->Rat}(Q:hX N A (ext N x (-1))):
  wm (rowsOf N A) N=(dz N x,0)/\pA (rowsOf N A) N=true/\∀k,k<N->dc (x k):=by
 have ak:∀i,i<N->∀k,k<=N->dc (A i k):=λi J k I=>iV (X.sz (by omega) J I) (by omega);have aa:=azW (by omega) ak;have H:∀i,i<N->∀k,k<=N->A i k=rl (rowsOf N A) i k:=λi J k I=>(azV A J I).symm;have jI:=(X.congr H).akF (by omega)
 have az0:¬ Dk N (rl (rowsOf N A)):=by
  rintro⟨y,al,h⟩;exact azZ ⟨y,(hX.congr H _).2 al,h⟩
 obtain⟨y,az,aD,bX⟩:=azK (rs:=rowsOf N A) (n:=N) (eS:=N+N*54+54+4) (aL:=N+N*54) aa (by rw[Dm];exact jI) (by omega) (by rw[Dm];exact az0);rw[Dm] at az aD bX;have j5:∀k,k<N->x k=y k:=λk I=>(bX.1 x).1 ((hX.congr H _).1 Q) k I;exact⟨by rw[az,Jv λk I=>(j5 k I).symm],aa,λk I=>by rw[j5 k I];exact aD k I⟩
def aa6 {P:Nat->Prop}{n i j:Nat}(J:i<(cO P n).length)(ag:j<(cO P n).length)(h:(cO P n).getD i 0=(cO P n).getD j 0):i=j:=by
 have aH:(cO P n).Pairwise (·≠·):=List.Pairwise.filter _ List.nodup_range;rw[List.pairwise_iff_getElem] at aH;rw[ei,ei,bn J,bn ag] at h;rcases ak4 i j with F|F|F
 ·exact absurd h (aH i j J ag F)
 ·exact F
 ·exact absurd h.symm (aH j i ag J F)
structure tt (d:Day) (f:Nat->Nat) (P:Nat->Prop):Prop where
 ok:d.df
 ex:∃g,Inv d f g/\iv d f g P (d.fc f P)
def tt.good {d:Day}{f:Nat->Nat}{P:Nat->Prop}(h:tt d f P):Good d f P:=by
 obtain⟨F,g,G,af⟩:=h;exact af.good F G
def tt.sm {d:Day}{f:Nat->Nat}{P:Nat->Prop}(h:tt d f P):∀k,P k->0<d.S k (f k):=by
 obtain⟨F,g,G,af⟩:=h;exact λk I=>G.sm (af.gM k I).1 (af.gM k I).2
def tt.gt {d:Day}{f:Nat->Nat}{P:Nat->Prop}(h:tt d f P):∀k,P k->d.U k (f k)<d.fc f P k:=by
 obtain⟨F,g,G,af⟩:=h;exact af.ge
def iv.ak5 {d:Day}(Y:d.df){f:Nat->Nat}{g:Nat->Rat}{P:Nat->Prop}{h:Nat->Rat}(J:Inv d f g)(aF:iv d f g P h){c:er}(H:c∈d.de):0<=d.l f P h c/\d.l f P h c<=c.am:=by
 have au:=Y.am c H
 by_cases F:c.rk<f c.aE
 ·rw[Day.ajP F];exact⟨au,gg⟩
 ·by_cases G:c.rk=f c.aE/\P c.aE
  ·rw[Day.ajQ G.1 G.2];have az:=aF.ge _ G.2;have aD:=aF.le _ (Y.aE c H);have bX:=J.J _ (Y.aE c H) (aF.gM _ G.2).2;rw[d.tk] at bX;rw[G.1];exact⟨uX (Y.qj H) (by grind),Y.SO H (by rw[G.1];grind)⟩
  ·rw[Day.aao F G];exact⟨gg,au⟩
def tt.range {d:Day}{f:Nat->Nat}{P:Nat->Prop}(h:tt d f P){i:Nat}(J:i<d.n):0<=d.fc f P i/\d.fc f P i<=d.fb (λc=>c.am) i:=by
 obtain⟨F,g,G,af⟩:=h;rw[af.sys i J];exact⟨F.aat (λc H=>(af.ak5 F G H).1) J,d.FQ (λc H=>(af.ak5 F G H).2) i⟩
def az1 {cash:List Int}{cs:List ao}(X:fv cash cs)(i:Nat):(aB cash cs).fb (λc=>c.am) i<=((2^54:Nat):Rat):=by
 have e:(aB cash cs).fb (λc=>c.am) i=((cash.getD i 0+cJ cs (λc=>if c.2.1=(i:Int) then c.2.2.2 else 0):Int):Rat):=by
  unfold Day.fb;rw[zo]
  congr 1
  refine (SR cs _ (λc=>if c.to=(i:Int) then c.am else 0) λc H=>?_).symm;show ((if c.2.1=(i:Int) then c.2.2.2 else 0:Int):Rat)=if c.2.1=(i:Int) then (c.2.2.2:Rat) else 0
  split<;>rfl
 rw[e];have F:=X.cash i;have G:=X.sum λc=>c.2.1=(i:Int)
 have:cash.getD i 0+cJ cs (λc=>if c.2.1=(i:Int) then c.2.2.2 else 0)<=((2^54:Nat):Int):=by omega
 rw[<-o1];exact_mod_cast this
def Day.df.az2 {d:Day}(Y:d.df)(f:Nat->Nat)(k i:Nat):0<=d.W f k i:=zm λc H=>by
 split
 ·exact Y.qj H
 ·exact gg
def az3 {n t:Nat}{T:Nat->Rat}(h:∀k,k<n->0<=T k)(bz:t<=n):bD t T<=bD n T:=by
 induction n with
 |zero=>rw[show t=0 by omega];exact gg
 |succ n av =>
  by_cases ak6:t=n+1
  ·rw[ak6];exact gg
  ·have F:=av (λk I=>h k (by omega)) (by omega);have G:=h n (by omega);rw[bD];grind
def az4 {N t bb a e:Nat}{s:Rat}{T:Nat->Rat}(kT:0<bb)(N2:bb<=2^a)(q3:0<=s)(Ll:fe bb s)(aa7:∀k,k<N->0<=T k)(ak7:∀k,k<N->fe bb (T k))(Q:s+bD N T<=((2^e:Nat):Rat))(bz:t<=N):ec (a+e) (s+bD t T)/\∀k,k<N->ec (a+e) (T k):=by
 have F:∀t,t<=N->0<=bD t T/\bD t T<=bD N T:=λt bz=>⟨ajL λk I=>aa7 k (by omega),az3 aa7 bz⟩;refine⟨(Ll.add (fe.bD λk I=>ak7 k (by omega))).sz kT N2 (by have:=(F t bz).1;grind) (by have:=(F t bz).2;grind),λk I=>(ak7 k I).sz kT N2 (aa7 k I) ?_⟩;have G:=(F k (by omega)).1;have af:=(F (k+1) (by omega)).2;rw[bD] at af;grind
section
variable {cash:List Int} {cs:List ao} (X:fv cash cs) {f:Nat->Nat} {P:Nat->Prop} (aF:tt (aB cash cs) f P)
include X aF
def Td {i:Nat}(J:i<D cash):0<=(aB cash cs).fc f P i/\(aB cash cs).fc f P i<=((2^54:Nat):Rat):=by
 have h:=aF.range (d:=aB cash cs) J;exact⟨h.1,xU h.2 (az1 X i)⟩
def ak8:∃bb:Nat,0<bb/\(∃a,a<=330/\bb<=2^a)/\∀i,i<(D cash)->fe bb ((aB cash cs).fc f P i):=by
 obtain⟨bb,F,G,af⟩:=akL (N:=D cash) aF.good.akP (azU X aF.sm) ((akN aF.ok f P _).2 aF.good.fc);have aH:=X.k3;exact⟨bb,F,⟨_,by omega,G⟩,af⟩
def ak9 {i:Nat}(J:i<D cash):ec 428 ((aB cash cs).fc f P i):=by
 obtain⟨bb,F,⟨a,au,G⟩,af⟩:=ak8 X aF;have aS:=Td X aF J;exact ((af i J).sz F G aS.1 aS.2).mono (by omega)
def az5:wm (rowsOf (cO P (D cash)).length ((aB cash cs).u6 f (cO P (D cash)))) (cO P (D cash)).length=(dz (cO P (D cash)).length (λk=>(aB cash cs).fc f P ((cO P (D cash)).getD k 0)-(aB cash cs).U ((cO P (D cash)).getD k 0) (f ((cO P (D cash)).getD k 0))),0)/\pA (rowsOf (cO P (D cash)).length ((aB cash cs).u6 f (cO P (D cash)))) (cO P (D cash)).length=true:=by
 have hlen:(cO P (D cash)).length<=6:=by
  have:=nZ (λi=>decide (P i)) (dD (D cash));rw[uj] at this;have:=X.k3;unfold cO;omega
 have:=azY hlen (aa5 X aF.sm _ (λk I=>⟨(xZ I).2,(xZ I).1⟩) λi j J ag=>aa6 J ag) aF.good.small aF.good.akR;exact⟨this.1,this.2.1⟩
def az6:∃bb:Nat,0<bb/\(∃a,a<=330/\bb<=2^a)/\∀k,k<(cO P (D cash)).length->fe bb ((aB cash cs).fc f P ((cO P (D cash)).getD k 0)-(aB cash cs).U ((cO P (D cash)).getD k 0) (f ((cO P (D cash)).getD k 0))):=by
 have hlen:(cO P (D cash)).length<=6:=by
  have:=nZ (λi=>decide (P i)) (dD (D cash));rw[uj] at this;have:=X.k3;unfold cO;omega
 have Dj:cO P (aB cash cs).n=cO P (D cash):=rfl;have ala:=aF.good.akR;have Be:=aF.good.small;rw[Dj] at ala Be;obtain⟨bb,F,G,af⟩:=akL Be (aa5 X aF.sm _ (λk I=>⟨(xZ I).2,(xZ I).1⟩) λi j J ag=>aa6 J ag) ala;exact⟨bb,F,⟨_,by omega,G⟩,af⟩
def Te {k:Nat}(I:P k)(i:Nat):ec 54 ((aB cash cs).W f k i)/\fe (ig cs k (f k)) ((aB cash cs).W f k i):=by
 have e:=akY X aF.sm I i;have au:=Tc X aF.sm I;have F:=X.FY k (f k);have G:=X.sum λc=>c.2.1=(i:Int)/\c.1=(k:Int)/\c.2.2.1=(f k:Int)
 obtain⟨f1,f2⟩:=Dd (q:=(aB cash cs).W f k i) (v:=pK cs f k i) (d:=(ig cs k (f k):Int)) (by omega) (by rw[<-e,o1,wx]);rw[mV] at f2;refine⟨⟨eZ f1 (by unfold pK;omega),eZ f2 (by omega)⟩,pK cs f k i,by rw[<-e,wx]⟩
def az7 {i t:Nat}(J:i<D cash)(bz:t<=(cO P (D cash)).length):
  ec 708 ((aB cash cs).st f i+bD t λk=>(aB cash cs).W f ((cO P (D cash)).getD k 0) i*((aB cash cs).fc f P ((cO P (D cash)).getD k 0)-(aB cash cs).U ((cO P (D cash)).getD k 0) (f ((cO P (D cash)).getD k 0)))) /\
  (∀k,k<(cO P (D cash)).length->ec 438 ((aB cash cs).W f ((cO P (D cash)).getD k 0) i*((aB cash cs).fc f P ((cO P (D cash)).getD k 0)-(aB cash cs).U ((cO P (D cash)).getD k 0) (f ((cO P (D cash)).getD k 0))))) /\
  ∀k,k<(cO P (D cash)).length->ec 384 ((aB cash cs).fc f P ((cO P (D cash)).getD k 0)-(aB cash cs).U ((cO P (D cash)).getD k 0) (f ((cO P (D cash)).getD k 0))):=by
 have hlen:(cO P (D cash)).length<=6:=by
  have:=nZ (λi=>decide (P i)) (dD (D cash));rw[uj] at this;have:=X.k3;unfold cO;omega
 obtain⟨bb,dw,⟨a,gq,cv⟩,p6⟩:=az6 X aF;have fL:∀k,k<(cO P (D cash)).length->(cO P (D cash)).getD k 0<D cash/\P ((cO P (D cash)).getD k 0):=λk I=>xZ I;have Tf:=aF.good.akS (d:=aB cash cs) J;have Dj:cO P (aB cash cs).n=cO P (D cash):=rfl;rw[Dj] at Tf;generalize N4:cO P (D cash)=p at *
 have alb:∀k,k<(D p)->0<=(aB cash cs).fc f P (p.getD k 0)-(aB cash cs).U (p.getD k 0) (f (p.getD k 0)):=λk I=>by
  have:=aF.gt _ (fL k I).2;grind
 have az8:∀k,k<(D p)->(aB cash cs).fc f P (p.getD k 0)-(aB cash cs).U (p.getD k 0) (f (p.getD k 0))<=((2^54:Nat):Rat):=λk I=>by
  have F:=(Td X aF (fL k I).1).2;have G:=aF.ok.ayM (p.getD k 0) (f (p.getD k 0));grind
 have az9:0<iU (D p) λk=>ig cs (p.getD k 0) (f (p.getD k 0)):=aj3 λk I=>Tc X aF.sm (fL k I).2;obtain⟨eS,g7⟩:∃eS,eS=324:=⟨_,rfl⟩;have nD:(iU (D p) λk=>ig cs (p.getD k 0) (f (p.getD k 0)))<=2^eS:=akV (e:=eS) (λk _=>X.FY _ _) (by omega);have c9:=N3 X.right f i;have Tg:=X.steady f i;have aa8:0<=(aB cash cs).st f i:=by rw[<-c9];exact_mod_cast Tg.1
 have aa:=(Td X aF J).2;rw[Tf] at aa
 have N5:(iU (D p) λk=>ig cs (p.getD k 0) (f (p.getD k 0)))*bb<=2^(eS+a):=by
  rw[xV];exact pI nD cv
 have aAa:=az4 (T:=λk=>(aB cash cs).W f (p.getD k 0) i*((aB cash cs).fc f P (p.getD k 0)-(aB cash cs).U (p.getD k 0) (f (p.getD k 0)))) (SW az9 dw) N5 aa8 (by rw[<-c9];exact fe.int _ _) (λk I=>uX (aF.ok.az2 f _ _) (alb k I)) (λk I=>((Te X aF (fL k I).2 i).2.of_dvd (aj4 (b8:=λk=>ig cs (p.getD k 0) (f (p.getD k 0))) I)).mul (p6 k I)) aa bz;have hex:∀k,k<(D p)->ec 384 ((aB cash cs).fc f P (p.getD k 0)-(aB cash cs).U (p.getD k 0) (f (p.getD k 0))):=λk I=>((p6 k I).sz dw cv (alb k I) (az8 k I)).mono (by omega);exact⟨aAa.1.mono (by omega),λk I=>(NX (Te X aF (fL k I).2 i).1 (hex k I)).mono (by omega),hex⟩
end
end Go.Mini
namespace Go.Mini
open Go

def alc:bu:=bT 49 2 [.t 4,.t 5] (R [bk 4 0,cd 5 false] (.seq (R [E 9 0,dp 10 LY 9,e4 11 10,E 12 11,fY 13 12 1,ln 14 12 13,fY 15 12 0,ln 16 12 15,p3 17 12 .neq 14 16,c5 18 12 17] (cx 18 [bk 4 0,cd 5 false])) (R [bk 6 10] (.seq (R [E 19 0,b9 20 19,bk 21 0] (dY 0 (R [bm 22 .lss 21 20] (.seq (du 22 0) (.seq (.block 1 (R [E 23 21,bs 24 4 19 21,bd 25 4 24,cL 8 225008 lp,E 7 23,bf 4 8 25] (.seq (R [E 26 1,E 27 7,bs 28 4 26 27,bd 29 4 28,dp 30 ma 29,e4 31 30] (cx 31 [bk 4 0,cd 5 false])) (eR [E 32 1,E 33 7,bs 34 4 32 33,bd 35 4 34,a0 36 3 8,aJ 37 1 36,dp 38 vN 37,bV 39 kP 35 38,a5 40 .lss 39 0] EO (eC 40 (.ops [E 41 6,a0 42 2 8,aJ 43 1 42,aM 44 (.iB false (.t 41) (.t 43)),E 6 44]) .skip))))) (.ops [a5 45 .add 21 1,E 21 45])))))) (.seq (R [E 46 6,a5 47 .eql 46 10] (cx 47 [bk 4 0,cd 5 false])) (R [E 48 6,E 4 48,cd 5 true] .ret))))))
def ald:bu:=bT 46 1 [.t 2] (R [cd 2 false] (.seq (R [E 5 0,b9 6 5,bk 7 0] (dY 0 (R [bm 8 .lss 7 6] (.seq (du 8 0) (.seq (.block 1 (R [bs 9 4 5 7,bd 10 4 9,cL 4 240004 lp,bf 4 4 10] (eR [a0 11 0 4,aJ 12 1 11,aM 13 (.call HT [.t 12,.c (bB 0),.c (bB 59)]),e4 14 13,E 15 14,fg 16 15 1 4,ew 17 15 1 16,fH 18 15 (.call HT [.t 17,.c (.M (.int .i64 (-1))),.c (bB 59)]),jb 19 15 18,c5 20 15 19,E 21 20,fg 22 21 2 4,ew 23 21 1 22,fH 24 21 (.call HT [.t 23,.c (bB 0),.c (bB 9)]),jb 25 21 24,c5 26 21 25,E 27 26,fg 28 27 3 4,ew 29 27 1 28,fH 30 27 (.call HT [.t 29,.c (bB 0),.c (bB 1000000000000000)]),jb 31 27 30,c5 32 27 31,E 33 32,fg 34 33 0 4,ew 35 33 1 34,fY 36 33 0,fH 37 33 (.qu 4 (.t 36) (.c (bB 0))),fg 38 33 0 37,ew 39 33 1 38,p3 40 33 .neq 35 39,c5 41 33 40] [[],[],[],[],[],[],[],[],[],[],[],[],[],[],[],[],[],[],[],[],[],[],[],[],[],[],[],[],[],[],[]] (cx 41 [cd 2 false])))) (.ops [a5 42 .add 7 1,E 7 42])))))) (R [E 43 0,b9 44 43,a5 45 .leq 44 2000,E 2 45] .ret)))
def ale:bu:=bT 11 1 [.cell 2 4 true] (R [cL 2 241002 dT] (R [E 6 0,aM 7 (.call Ah [.t 6,.c (bB 1)]),E 5 7,bl 8 0 5,bl 9 1 5,cL 3 241003 dT,bf 4 3 8,E 4 9] (R [bd 10 4 3,bf 4 2 10] .ret)))
def Jx:bu:=bT 118 2 [.t 4,.t 5] (R [db 2 249002 0,eo 4,bk 5 0] (.seq (eR [bd 19 4 2,dp 20 ma 19,e4 21 20,E 22 21,lG 23 22 4 2,fH 24 22 (.call vN [.c (bB 0)]),fH 25 22 (.call kP [.t 23,.t 24]),gu 26 22 .lss 25 0,c5 27 22 26,E 28 27,fY 29 28 1,fH 30 28 (.call LY [.t 29]),jb 31 28 30,c5 32 28 31] Mc (cx 32 [eo 4,bk 5 1])) (R [E 33 1,b9 34 33,aM 35 (.mx 249035 dT 64 (.t 34) (.t 34)),E 6 35] (R [bd 36 4 2,cL 7 249007 dT,bf 4 7 36] (.seq (R [bk 37 0] (dY 0 (R [a5 38 .lss 37 10] (.seq (du 38 0) (.seq (.block 1 (R [E 39 37,E 8 39] (R [bk 9 0] (.seq (R [E 40 1,b9 41 40,bk 42 0] (dY 2 (R [bm 43 .lss 42 41] (.seq (du 43 2) (.seq (.block 3 (R [bs 44 4 40 42,bd 45 4 44,cL 11 249011 lp,bf 4 11 45] (R [a0 46 2 11,aJ 47 1 46,E 48 8,bm 49 .eql 47 48] (eC 49 (.ops [E 50 9,a0 51 3 11,aJ 52 1 51,bm 53 .add 50 52,E 9 53]) .skip)))) (.ops [a5 54 .add 42 1,E 42 54])))))) (eR [bd 55 4 7,E 56 9,dp 57 vN 56,bV 58 kP 55 57,a5 59 .geq 58 0,E 12 59] ae7 (.seq (R [E 60 1,b9 61 60,bk 62 0] (dY 4 (R [bm 63 .lss 62 61] (.seq (du 63 4) (.seq (.block 5 (R [E 64 62,bs 65 4 60 62,bd 66 4 65,cL 14 249014 lp,E 13 64,bf 4 14 66] (.seq (R [a0 67 2 14,aJ 68 1 67,E 69 8,bm 70 .neq 68 69] (eC 70 (.exit 5) .skip)) (R [E 71 6,E 72 13,a0 73 3 14,aJ 74 1 73,dp 75 vN 74,bs 76 4 71 72,bf 4 76 75] (.seq (R [E 77 12] (eC 77 (.exit 5) .skip)) (eR [a0 79 3 14,aJ 80 1 79,dp 81 vN 80,bd 82 4 7,bV 83 xm 81 82,E 78 83,bl 84 0 78,bl 85 1 78,cL 15 249015 dT,bf 4 15 84,E 16 85] [[],[],[],[],[],[],[],[],[1,3],[],[]] (.seq (R [E 86 16,a5 87 .eql 86 0] (eC 87 (.mz [E 89 6,E 90 13,bd 91 4 15,E 92 9,dp 93 vN 92,bV 94 EA 91 93,E 88 94,bl 95 0 88,bl 96 1 88,bs 97 4 89 90,bf 4 97 95,E 16 96] ae9) .skip)) (R [E 98 16,a5 99 .neq 98 0] (cx 99 [E 100 16,eo 4,E 5 100]))))))))) (.ops [a5 101 .add 62 1,E 62 101])))))) (.seq (R [E 102 12,e4 103 102] (eC 103 (R [aM 104 (.call vN [.c (bB 0)]),bf 4 7 104] (.exit 1)) .skip)) (eR [bd 106 4 7,E 107 9,dp 108 vN 107,bV 109 vH 106 108,E 105 109,bl 110 0 105,bl 111 1 105,cL 17 249017 dT,bf 4 17 110,E 18 111] [[],[],[],[],[],[],[],[0],[],[]] (.seq (R [E 112 18,a5 113 .neq 112 0] (cx 113 [E 114 18,eo 4,E 5 114])) (.ops [bd 115 4 17,bf 4 7 115])))))))))) (.ops [a5 116 .add 37 1,E 37 116])))))) (.seq (.ghost (.freeze 6) (.ops [E 117 6,E 4 117,bk 5 0])) .ret))))))
def alf:bu:=bT 15 3 [.t 6] (R [cd 6 false] (R [E 7 0,E 8 1,bm 9 .geq 7 8,E 10 9,dv 11 10 0,dv 12 10 2,vP 13 10 .leq 11 12,e9 14 10 13,E 6 14] .ret))


def bW (c:ao):List Data:=[.int .i64 c.1,.int .i64 c.2.1,.int .i64 c.2.2.1,.int .i64 c.2.2.2]
def n0 (c:ao):(bW c).length=4:=rfl
def Th (c:ao):((bW c).map O.M).all O.one=true:=rfl
def u7:∀a b:ao,bW a=bW b->a=b:=by
 rintro⟨cH,cY,ep,fi⟩ ⟨c6,eB,jA,lT⟩ h;simp only[bW,bh,Data.int.injEq,true_and,and_true] at h;obtain⟨rfl,rfl,rfl,rfl⟩:=h
 rfl
def aAb {cs:List ao}{i:Nat}{c:ao}(h:cs[i]?=some c)(aL:ao->Int):cJ (cs.take (i+1)) aL=cJ (cs.take i) aL+aL c:=by
 rw[hF,h,NQ];simp[cJ]
def Jy (cs:List ao):Prop:=D cs<=2000/\∀c∈cs,0<=c.2.2.2/\c.2.2.2<=1000000000000000
def Jy.sum {cs:List ao}(h:Jy cs)(p:ao->Prop)[DecidablePred p](i:Nat):0<=cJ (cs.take i) (λc=>if p c then c.2.2.2 else 0)/\cJ (cs.take i) (λc=>if p c then c.2.2.2 else 0)<=2000000000000000000:=by
 have F:=SS (cs:=cs.take i) (aL:=λc=>if p c then c.2.2.2 else 0) (B:=1000000000000000) (by omega) λc H=>by
  have:=h.2 c (List.mem_of_mem_take H)
  try dsimp only
  split<;>omega
 have G:=h.1;have af:(cs.take i).length<=D cs:=by rw[gE];omega
 omega
def alg {cash:List Int}{cs:List ao}(h:hY cash cs=true):Jy cs :=
 ⟨(gN.1 h).2.1,λc H=>⟨((gN.1 h).2.2.2 c H).2.2.2.2.2.2.1,((gN.1 h).2.2.2 c H).2.2.2.2.2.2.2⟩⟩
def Ti {n:Int}(h:fa n):jN (bY n) (bY 1)=(ax (n:Rat),0):=by
 rw[AM (y2 h) (by decide +kernel) (by decide),S0,show ((1:Int):Rat)=1 from rfl,show (n:Rat)/1=n by grind]
def ss:=bU oo λ(n:Int)=>cp (fa n) (.same (.agg (aU (ax (n:Rat)))))
@[go_sem] def Dn (n):=cz ss rfl An n rfl
def aAc (T:ba)(su:T Ah=aQ CG):WF T ahy ss:=by
 refine cf λn=>cG λH=>⟨rfl,b7 ?_⟩;simp only[ahy,oo,b1];have F:fa 1:=by unfold fa;omega
 have h:=Ti H;generalize ax (n:Rat)=aL at *;obtain⟨⟨a,b⟩,⟨c,d⟩⟩:=aL;refine ai ?_;repeat' (intro (aw:_=_)<;>simp only[aw,go_sem,go_sem_proc,su,H,F,h,gf,aU]<;>try refine ah ?_ ?_)
def FZ:=bU oo λ(n:Int)=>cp (fa n) (.same (.agg (aU (ax (n:Rat)))))
@[go_sem] def aAd (n):=cz FZ rfl An n rfl
def aAe (T:ba)(su:T Ah=aQ CG):WF T ale FZ:=by
 refine cf λn=>cG λH=>⟨rfl,b7 ?_⟩;simp only[ale,oo,b1];have F:fa 1:=by unfold fa;omega
 have h:=Ti H;generalize ax (n:Rat)=aL at *;obtain⟨⟨a,b⟩,⟨c,d⟩⟩:=aL;refine ai ?_;repeat' (intro (aw:_=_)<;>simp only[aw,go_sem,go_sem_proc,su,H,F,h,gf,aU]<;>try refine ah ?_ ?_)
def aAf {x:List Data}(h:Fits [.int .i64,.int .i64,.int .i64,.int .i64] x):∃c:ao,x=bW c:=by
 simp only[Fit,Fits] at h;obtain⟨_,_,rfl,⟨a,rfl,-⟩,_,_,rfl,⟨b,rfl,-⟩,_,_,rfl,⟨c,rfl,-⟩,_,_,rfl,⟨d,rfl,-⟩,rfl⟩:=h;exact⟨(a,b,c,d),rfl⟩
def aAg {es:List (List Data)}(h:∀x∈es,Fit (.st [.int .i64,.int .i64,.int .i64,.int .i64]) x):∃l:List ao,es=l.map bW:=by
 obtain⟨l,e,-⟩:=Xg (e:=bW) (good:=λ_=>True) λx Q=>by
  have:=h x Q;unfold Fit at this;obtain⟨c,rfl⟩:=aAf this;exact⟨c,rfl,trivial⟩
 exact⟨l,e⟩
end Go.Mini
namespace Go.Mini
open Classical
structure Alike (d e:Day):Prop where
 n:d.n=e.n
 cash:d.cash=e.cash
 mem:∀c,c∈d.de↔c∈e.de
 sum:∀aL,cI d.de aL=cI e.de aL
def Alike.symm {d e:Day}(h:Alike d e):Alike e d:=⟨h.n.symm,h.cash.symm,λc=>(h.mem c).symm,λaL=>(h.sum aL).symm⟩
section
variable {d e:Day} (h:Alike d e)
include h
def Alike.U:d.U=e.U:=by funext k r;exact h.sum _
def Alike.S:d.S=e.S:=by funext k r;exact h.sum _
def Alike.w:d.w=e.w:=by funext c;unfold Day.w;rw[h.S]
def Alike.q:d.q=e.q:=by funext f x c;unfold Day.q;rw[h.U,h.w]
def Alike.l:d.l=e.l:=by funext f P x c;unfold Day.l;rw[h.U,h.w]
def Alike.hd:d.hd=e.hd:=by funext x c;unfold Day.hd;rw[h.U,h.w]
def Alike.fb:d.fb=e.fb:=by funext a i;unfold Day.fb;rw[h.cash,h.sum]
def Alike.wu:d.wu=e.wu:=by funext x i;unfold Day.wu;rw[h.fb,h.hd]
def Alike.gl:d.gl=e.gl:=by funext C x;unfold Day.gl;rw[h.n]
def Alike.cap:d.cap=e.cap:=by funext f g C k;unfold Day.cap;rw[h.U]
def Alike.closed (f:Nat->Nat)(C:Nat->Prop):d.closed f C↔e.closed f C:=by
 unfold Day.closed;exact⟨λk c H=>k c ((h.mem c).2 H),λk c H=>k c ((h.mem c).1 H)⟩
def Alike.inv {f:Nat->Nat}{g:Nat->Rat}(a:Inv d f g):Inv e f g:=by
 obtain⟨F,G,af,aS,bt⟩:=a;refine⟨F,λi J=>?_,λi J aK=>?_,λi J aK=>?_,λC gT aAh aAi=>?_⟩
 ·have:=G i (by rw[h.n];exact J);rwa [h.fb,h.q] at this
 ·have:=af i (by rw[h.n];exact J) aK;rwa [h.U] at this
 ·have:=aS i (by rw[h.n];exact J) aK;rwa [h.U] at this
 ·have:=bt C gT (λi J=>by rw[h.n];exact aAh i J) ((h.closed f C).2 aAi);rwa [h.gl,h.fb,h.q,h.cap,h.U] at this
def Alike.ok (a:d.df):e.df:=⟨λc H=>by rw[<-h.n];exact a.aE c ((h.mem c).2 H),λc H=>by rw[<-h.n];exact a.to c ((h.mem c).2 H),λc H=>a.rk c ((h.mem c).2 H),λc H=>a.am c ((h.mem c).2 H),λi J=>by rw[<-h.cash];exact a.cash i (by rw[h.n];exact J)⟩
def Alike.alh {f:Nat->Nat}{x:Nat->Rat}(a:nY d f x):nY e f x:=by
 obtain⟨g,F,G,af⟩:=a;refine⟨g,h.inv F,λi J=>?_,λi J=>af i (by rw[h.n];exact J)⟩;have:=G i (by rw[h.n];exact J);rwa [h.fb,h.q] at this
def Alike.aAj:nY d=nY e:=by
 funext f x
 exact propext ⟨h.alh,h.symm.alh⟩
def Alike.top:d.top=e.top:=by
 funext f
 unfold Day.top;rw[h.aAj]
def Alike.ie:d.ie=e.ie:=by
 funext f
 unfold Day.ie;rw[h.top,h.U,h.n]
def Alike.jS:d.jS=e.jS:=by
 funext x i k
 induction k with
 |zero=>rfl
 |succ k av=>unfold Day.jS;rw[h.U,av]
def Alike.gM:d.gM=e.gM:=by
 funext f x i
 unfold Day.gM;rw[h.n,h.U,h.jS]
def Alike.rounds:d.rounds=e.rounds:=by
 funext k
 induction k with
 |zero=>funext f;rfl
 |succ k av =>
  funext f
  unfold Day.rounds;rw[h.ie,h.gM,h.top,av]
end
def c7 (cs:List ao)(i k:Nat):List ao:=cs.filter λc=>c.1==(i:Int)&&c.2.2.1==(k:Int)
def F6 {cs:List ao}{i k:Nat}{c:ao}:c∈c7 cs i k↔c∈cs/\c.1=(i:Int)/\c.2.2.1=(k:Int):=by
 unfold c7;rw[Bc,eQ,beq_iff_eq,beq_iff_eq]
def dm (n:Nat)(cs:List ao):List ao:=(dD n).flatMap λi=>(dD 10).flatMap λk=>c7 cs i k
def aAk (cs:List ao)(i k j r:Nat):c7 (c7 cs i k) j r=if i=j/\k=r then c7 cs i k else []:=by
 unfold c7;rw[List.filter_filter]
 by_cases h:i=j/\k=r
 ·obtain⟨rfl,rfl⟩:=h;rw[ab ⟨rfl,rfl⟩]
  congr 1
  funext c
  simp
 ·rw[ae h,Jz];intro c _;simp only[eQ,beq_iff_eq];rintro⟨⟨F,G⟩,af,aS⟩;exact h ⟨by omega,by omega⟩
def ali {α:Type}{n i:Nat}(J:i<n)(aL:Nat->List α)(h:∀k,k<n->k≠i->aL k=[]):(dD n).flatMap aL=aL i:=by
 induction n with
 |zero=>omega
 |succ n av =>
  rw[m5,zr,qM,Dp,fG]
  by_cases aH:i=n
  ·subst aH
   have:(dD i).flatMap aL=[]:=by
    rw[alj];intro k I;have:=gQ.1 I;exact h k (by omega) (by omega)
   rw[this,ik]
  ·rw[av (by omega) λk I=>h k (by omega),h n (by omega) (Ne.symm aH),fG]
def alk {α:Type}(l:List α)(aL:α->List ao)(i k:Nat):c7 (l.flatMap aL) i k=l.flatMap λx=>c7 (aL x) i k:=by
 unfold c7
 induction l with
 |nil=>rfl
 |cons a l av=>rw[qM,qM,ql,av]
def alm {n i k:Nat}(cs:List ao)(J:i<n)(I:k<10):c7 (dm n cs) i k=c7 cs i k:=by
 unfold dm;rw[alk];simp only[alk,aAk];rw[ali J,ali I]
 ·rw[ab ⟨rfl,rfl⟩]
 ·intro r _ aa;rw[ae λh=>aa h.2]
 ·intro j _ ag;rw[alj];intro r _;rw[ae λh=>ag h.1]
def aln {n:Nat}{a b:List ao}(h:∀i,i<n->∀k,k<10->c7 a i k=c7 b i k):dm n a=dm n b:=by
 unfold dm;rw[zs,zs]
 congr 1
 refine mH λi J=>?_;rw[zs,zs]
 congr 1
 exact mH λk I=>h i (gQ.1 J) k (gQ.1 I)
def aAl (n:Nat)(cs:List ao):dm n (dm n cs)=dm n cs:=aln λ_ J _ I=>alm cs J I
def aa9 {n:Nat}{cs:List ao}(aa:∀c∈cs,0<=c.1/\c.1<n/\0<=c.2.2.1/\c.2.2.1<10){c:ao}:c∈dm n cs↔c∈cs:=by
 unfold dm;simp only[yE,gQ,F6]
 constructor
 ·rintro⟨i,-,k,-,h,-⟩;exact h
 ·intro H;have:=aa c H;exact⟨c.1.toNat,by omega,c.2.2.1.toNat,by omega,H,by omega,by omega⟩
def N6 (a b:List er)(aL:er->Rat):cI (a++b) aL=cI a aL+cI b aL:=by
 induction a with
 |nil=>simp only[ik,cI];grind
 |cons c l av=>rw[ky,cI,cI,av];grind
def alo (aL:Nat->List ao)(bC:er->Rat)(n:Nat):cI (((dD n).flatMap aL).map cD) bC=bD n λi=>cI ((aL i).map cD) bC:=by
 induction n with
 |zero=>rfl
 |succ n av=>rw[m5,zr,kh,N6,av,bD,qM,Dp,fG]
def aAm {l:List er}(ak:∀c∈l,c.rk<10)(b:Nat->er->Rat):bD 10 (λk=>cI l (λc=>if c.rk=k then b k c else 0))=cI l (λc=>b c.rk c):=by
 induction l with
 |nil=>exact tj λk _=>rfl
 |cons c l av =>
  rw[cI,<-av λx Q=>ak x (g5 _ Q)];have e:(λk:Nat=>cI (c::l) (λc=>if c.rk=k then b k c else 0))=λk=>(if c.rk=k then b k c else 0)+cI l (λc=>if c.rk=k then b k c else 0):=rfl;rw[e,wo]
  congr 1
  rw[zl (ak c gK) λk _ I=>ae (Ne.symm I),ab rfl]
def aba {cs:List ao}(aa:∀c∈cs,0<=c.1/\0<=c.2.2.1)(i k:Nat)(bC:er->Rat):cI ((c7 cs i k).map cD) bC=cI (cs.map cD) λc=>if c.aE=i/\c.rk=k then bC c else 0:=by
 induction cs with
 |nil=>rfl
 |cons c l av =>
  have au:=aa c gK;have av:=av λx Q=>aa x (g5 _ Q);unfold c7 at av ⊢;rw[eu,cI,<-av]
  by_cases h:(cD c).aE=i/\(cD c).rk=k
  ·obtain⟨F,G⟩:=h;have az:c.1=(i:Int):=by have:c.1.toNat=i:=F;omega
   have aD:c.2.2.1=(k:Int):=by have:c.2.2.1.toNat=k:=G;omega
   rw[tr (by simp[az,aD]),eu,cI,ab ⟨F,G⟩]
  ·rw[ae h,u5,Di];intro ad;rw[eQ,beq_iff_eq,beq_iff_eq] at ad;refine h ⟨?_,?_⟩
   ·show c.1.toNat=i;omega
   ·show c.2.2.1.toNat=k;omega
def alp {n:Nat}{cs:List ao}(aa:∀c∈cs,0<=c.1/\c.1<n/\0<=c.2.2.1/\c.2.2.1<10)(bC:er->Rat):cI ((dm n cs).map cD) bC=cI (cs.map cD) bC:=by
 unfold dm;rw[alo]
 have bw:∀c∈cs.map cD,c.aE<n:=λc H=>by
  obtain⟨x,Q,rfl⟩:=ef.1 H;have:=aa x Q;show x.1.toNat<n;omega
 have gy:∀c∈cs.map cD,c.rk<10:=λc H=>by
  obtain⟨x,Q,rfl⟩:=ef.1 H;have:=aa x Q;show x.2.2.1.toNat<10;omega
 have e:(λi=>cI (((dD 10).flatMap λk=>c7 cs i k).map cD) bC)=λi=>cI (cs.map cD) λc=>if c.aE=i then bC c else 0:=by
  funext i
  rw[alo,<-aAm gy λ_ c=>if c.aE=i then bC c else 0]
  congr 1
  funext k
  rw[aba λc H=>⟨(aa c H).1,(aa c H).2.2.1⟩];refine xT λc _=>?_
  by_cases F:c.rk=k
  ·rw[ab F]
   by_cases G:c.aE=i
   ·rw[ab ⟨G,F⟩,ab G]
   ·rw[ae λh=>G h.1,ae G]
  ·rw[ae F,ae λh=>F h.2]
 rw[e,aaj bw λ_ c=>bC c]
def alq {cash:List Int}{cs:List ao}(h:hY cash cs=true):Alike (aB cash cs) (aB cash (dm (D cash) cs)):=by
 have aa:∀c∈cs,0<=c.1/\c.1<D cash/\0<=c.2.2.1/\c.2.2.1<10:=λc H=>by
  have:=(gN.1 h).2.2.2 c H;exact⟨this.1,this.2.1,this.2.2.2.2.1,this.2.2.2.2.2.1⟩
 refine⟨rfl,rfl,λc=>?_,λaL=>(alp aa aL).symm⟩;show c∈cs.map cD↔c∈(dm (D cash) cs).map cD;rw[ef,ef];simp only[aa9 aa]
def alr {n:Nat}{cs:List ao}(aa:∀c∈cs,0<=c.1/\c.1<n/\0<=c.2.2.1/\c.2.2.1<10):(dm n cs).length=D cs:=by
 have F:∀l:List ao,cI (l.map cD) (λ_=>1)=(D l:Rat):=λl=>by
  induction l with
  |nil=>rfl
  |cons a l av=>rw[eu,cI,av,hQ,Rat.natCast_add,Rat.add_comm];rfl
 have:=alp aa λ_=>1;rw[F,F] at this;exact_mod_cast this
def abb {cash:List Int}{cs:List ao}(h:fv cash cs):fv cash (dm (D cash) cs):=by
 have kN:=gN.1 h.right
 have aa:∀c∈cs,0<=c.1/\c.1<D cash/\0<=c.2.2.1/\c.2.2.1<10:=λc H=>by
  have:=kN.2.2.2 c H;exact⟨this.1,this.2.1,this.2.2.2.2.1,this.2.2.2.2.2.1⟩
 refine⟨gN.2 ⟨kN.1,by rw[alr aa];exact kN.2.1,kN.2.2.1,λc H=>kN.2.2.2 c ((aa9 aa).1 H)⟩,h.k3,by rw[alr aa];exact h.ts,λc H=>h.am c ((aa9 aa).1 H)⟩
end Go.Mini
namespace Go.Mini
open Classical
def Day.jC (d:Day):Nat->Nat:=(d.rounds (10*d.n) λ_=>10).2
def Day.hZ (d:Day):List (List Nat):=(d.rounds (10*d.n) λ_=>10).1
def Day.cW (d:Day):Nat->Rat:=d.top d.jC
def als (n k:Nat):m4 n (λ_=>k)=k*n:=by
 induction n with
 |zero=>rfl
 |succ n av=>rw[m4,av,Nat.mul_succ]
section
variable {d:Day} (Y:d.df)
include Y
def Day.df.hex:∀f,Reach d f->∃h,nY d f h:=λ_ aa=>azO Y aa
def N7:Reach d d.jC/\d.ie d.jC=[]:=ajV Y Y.hex (10*d.n) (λ_=>10) (Reach.start Y) (by rw[als];exact bM _)
def JA:nY d d.jC d.cW:=Day.Db (Y.hex _ (N7 Y).1)
def Tj:∀i,i<d.n->d.U i (d.jC i)<=d.cW i:=by
 intro i J;apply kE;intro aH;have:i∈d.ie d.jC:=Day.NP.2 ⟨J,by unfold Day.cW at aH;grind⟩
 rw[(N7 Y).2] at this
 cases this
def F7:(∀i,i<d.n->d.cW i=d.wu d.cW i)/\∀i,i<d.n->(d.jC i<10↔d.cW i<d.U i 10):=by
 obtain⟨g,F,G,af⟩:=JA Y;exact F.final Y G af (Tj Y)
def N8 {i:Nat}(J:i<d.n):0<=d.cW i:=(JA Y).SQ Y J
end
def SI {d:Day}(Y:d.df)(i k:Nat):0<=d.S i k:=zm λc H=>by
 try dsimp only
 split
 ·exact Y.am c H
 ·exact gg
end Go.Mini
namespace Go.Mini
open Go
def F8 {n:Int}{c:ao}:iw n c=true↔0<=c.1/\c.1<n /\ -1<=c.2.1/\c.2.1<n/\0<=c.2.2.1/\c.2.2.1<10/\0<=c.2.2.2/\c.2.2.2<=1000000000000000:=by
 unfold iw;simp only[eQ,decide_eq_true_eq,and_assoc]
def gW (x:Int):Bool:=decide (0<=x)&&decide (x<=1000000000000000)
def F9 {x:Int}:gW x=true↔0<=x/\x<=1000000000000000:=by
 unfold gW;simp only[eQ,decide_eq_true_eq]
def abc (cash:List Int)(cs:List ao):hY cash cs=(decide (D cash<=60)&&decide (D cs<=2000)&&cash.all gW&&cs.all (iw (D cash))):=rfl

def alu {x y:Rat}(Q:dc x)(al:dc y)(h:mX x y=true):v9 [.agg (aU (ax x)),.agg (aU (ax y))]=some (.same (.cP [.agg (aU (ax (x+y))),.int .i64 0])):=by
 have F:=m1 Q;have G:=m1 al;have:=ahg (ax x).1.1 (ax x).1.2 (ax x).2.1 (ax x).2.2 (ax y).1.1 (ax y).1.2 (ax y).2.1 (ax y).2.2 ⟨F.1,F.2,G.1,G.2⟩;have e:y7 (ax x) (ax y)=(ax (x+y),0):=by rw[Zj Q al,h];rfl
 exact this.trans (by show some (dx.same (gf (y7 (ax x) (ax y))))=_;rw[e];rfl)
def Tk {x y:Rat}(Q:dc x)(al:dc y)(h:mX x (-y)=true):xD [.agg (aU (ax x)),.agg (aU (ax y))]=some (.same (.cP [.agg (aU (ax (x-y))),.int .i64 0])):=by
 have F:=m1 Q;have G:=m1 al;have:=av7 (ax x).1.1 (ax x).1.2 (ax x).2.1 (ax x).2.2 (ax y).1.1 (ax y).1.2 (ax y).2.1 (ax y).2.2 ⟨F.1,F.2,G.1,G.2⟩;have e:q5 (ax x) (ax y)=(ax (x-y),0):=by rw[RF Q al,h];rfl
 exact this.trans (by show some (dx.same (gf (q5 (ax x) (ax y))))=_;rw[e];rfl)
def alv {x y:Rat}(Q:dc x)(al:dc y)(h:AQ x y=true):xE [.agg (aU (ax x)),.agg (aU (ax y))]=some (.same (.cP [.agg (aU (ax (x*y))),.int .i64 0])):=by
 have F:=m1 Q;have G:=m1 al;have:=av9 (ax x).1.1 (ax x).1.2 (ax x).2.1 (ax x).2.2 (ax y).1.1 (ax y).1.2 (ax y).2.1 (ax y).2.2 ⟨F.1,F.2,G.1,G.2⟩;have e:px (ax x) (ax y)=(ax (x*y),0):=by rw[Zk Q al,h];rfl
 exact this.trans (by show some (dx.same (gf (px (ax x) (ax y))))=_;rw[e];rfl)
def aAn {x y:Rat}(Q:dc x)(al:dc y)(au:y≠0)(h:xG x y=true):CI [.agg (aU (ax x)),.agg (aU (ax y))]=some (.same (.cP [.agg (aU (ax (x/y))),.int .i64 0])):=by
 have F:=m1 Q;have G:=m1 al;have:=awb (ax x).1.1 (ax x).1.2 (ax x).2.1 (ax x).2.2 (ax y).1.1 (ax y).1.2 (ax y).2.1 (ax y).2.2 ⟨F.1,F.2,G.1,G.2⟩;have e:kX (ax x) (ax y)=(ax (x/y),0):=by rw[RG Q al au,h];rfl
 exact this.trans (by show some (dx.same (gf (kX (ax x) (ax y))))=_;rw[e];rfl)
def zt {x y:Rat}(Q:dc x)(al:dc y):pz [.agg (aU (ax x)),.agg (aU (ax y))]=some (.same (.int .i64 (je x y))):=by
 have F:=m1 Q;have G:=m1 al;have:=ahp (ax x).1.1 (ax x).1.2 (ax x).2.1 (ax x).2.2 (ax y).1.1 (ax y).1.2 (ax y).2.1 (ax y).2.2 ⟨F.1,F.2,G.1,G.2⟩;exact this.trans (by show some (dx.same (.int .i64 (py (ax x) (ax y))))=_;rw[RH Q al])
def abd {x y:Rat}:decide (je x y>0)=decide (y<x):=by
 have F:je x y>0↔y<x:=by
  unfold je;rw[gt_iff_lt,Int.sign_pos_iff,abe];omega
 rw[decide_eq_decide];exact F
def N9 {x y:Rat}:decide (je x y<0)=decide (x<y):=by
 have F:je x y<0↔x<y:=by
  unfold je;rw[alw,abe];omega
 rw[decide_eq_decide];exact F
def alx {x y:Rat}:decide (je x y>=0)=decide (y<=x):=by
 have F:je x y>=0↔y<=x:=by
  unfold je;rw[ge_iff_le,Int.sign_nonneg_iff,Rat.le_iff];omega
 rw[decide_eq_decide];exact F
end Go.Mini
namespace Go.Mini
open Go
variable {P:Program} {A:Nat->Prop} {w aT:World} {B br:e7} {mem mem':Mem}
def pL (N:List O->Mem->Option Data)(args:List O)(mem:Mem):Option gB:=(N args mem).map λd => .rel (Aa (.M d) mem)
@[go_sem] def aO2 (N:List O->Mem->Option Data)(args:List O)(mem:Mem):pL N args mem=(N args mem).map λd => .rel (Aa (.M d) mem):=bq
def Oa {T : ba}{kb : Nat}{own : List Nat}(cQ : qF P T)(hm : P.follows .mixedOrders = true){f : FuncId}{fn : Func}{mf : bu}(aK : P.funcs[f]? = some fn)(uh : (fn.name == "runtime.NumGoroutine") = false)(a3 : qz P kb own fn = some { mf with body := erase mf.body })
  (cZ:Key->Prop) {N:List O->Mem->Option Data}
  (h:∀args mem d,N args mem=some d->(D args)<=mf.n/\(∀j,cZ j->mem j=none) /\
   wp T mf.body (me mf.res λm mem'=>b5 6 emp m=some d/\∀j,¬ cZ j->mem' j=mem j) ⟨iC args,mem⟩):iO P f (pL N):=by
 refine⟨Sf aK uh a3,λargs mem oe g7 A w B vs bR aA=>?_⟩;unfold pL at g7;rw[dS] at g7;obtain⟨d,mg,rfl⟩:=g7;obtain⟨hlen,uP,xg⟩:=h args mem d mg;refine Calls.mono (Hx (Post:=λm mem'=>b5 6 emp m=some d/\∀j,¬ cZ j->mem' j=mem j) cQ hm aK a3 hlen (λe st I=>Se I) xg bR aA) λe aT he=>?_;obtain⟨v,m,mem',br,rfl,X,nb,Y,fL⟩:=he;exact⟨v,.M d,mem,te cZ br,rfl,X.drop bR uP uP (λj ag=>(fL j ag).symm) (λk g cs I m hm => .inr ⟨k,g,cs,I,hm⟩),.M ((Ly 6 m v d Y nb).less λb ad=>ad.imp FA id),rfl,rfl⟩
def Ob (W:List O->Mem->Option (Data×Key))(args:List O)(mem:Mem):Option gB:=(W args mem).map λx => .zQ x.1 x.2
@[go_sem] def aO3 (W:List O->Mem->Option (Data×Key))(args:List O)(mem:Mem):Ob W args mem=(W args mem).map λx => .zQ x.1 x.2:=bq
def aAo {T : ba}{kb : Nat}{own : List Nat}(cQ : qF P T)(hm : P.follows .mixedOrders = true){f : FuncId}{fn : Func}{mf : bu}(aK : P.funcs[f]? = some fn)(uh : (fn.name == "runtime.NumGoroutine") = false)(a3 : qz P kb own fn = some { mf with body := erase mf.body })
  (cZ:Key->Prop) {W:List O->Mem->Option (Data×Key)}
  (h:∀args mem d k,W args mem=some (d,k)->(D args)<=mf.n/\(∀j,cZ j->mem j=none)/\¬ cZ k /\
   wp T mf.body (me mf.res λm mem'=>b5 6 emp m=some d/\∀j,¬ cZ j->mem' j=a4 mem k (bQ mem k) [] j) ⟨iC args,mem⟩):iO P f (Ob W):=by
 refine⟨Sf aK uh a3,λargs mem oe g7 A w B vs bR aA=>?_⟩;unfold Ob at g7;rw[dS] at g7;obtain⟨⟨d,k⟩,mg,rfl⟩:=g7;obtain⟨hlen,uP,I,xg⟩:=h args mem d k mg;refine Calls.mono (Hx (Post:=λm mem'=>b5 6 emp m=some d/\∀j,¬ cZ j->mem' j=a4 mem k (bQ mem k) [] j) cQ hm aK a3 hlen (λe st I=>Se I) xg bR aA) λe aT he=>?_;obtain⟨v,m,mem',br,rfl,X,nb,Y,fL⟩:=he;refine⟨v,te cZ br,rfl,X.drop bR uP (λj ag=>?_) (λj ag=>(fL j ag).symm) ?_,.M ((Ly 6 m v d Y nb).less λb ad=>ad.imp FA id)⟩
 ·have:j≠k:=λe=>I (e ▸ ag);simp only[a4,this,if_false];exact uP j ag
 ·intro cM b6 oh G m nN
  by_cases gF:cM=k
  ·subst gF;simp only[a4,if_true,cl,e2] at G;obtain⟨-,rfl⟩:=G
   cases nN
  ·simp only[a4,gF,if_false] at G;exact .inr ⟨cM,b6,oh,G,nN⟩
open Classical in
def Oc {α:Type}(bb:α->List O->Mem->Prop)(res:α->Data×Key):List O->Mem->Option (Data×Key):=λargs mem=>if h:∃a,bb a args mem then some (res (vD h)) else none
def aAp {α:Type}{bb:α->List O->Mem->Prop}{res:α->Data×Key}(uniq:∀a b args mem,bb a args mem->bb b args mem->res a=res b){a:α}{args:List O}{mem:Mem}(h:bb a args mem):Oc bb res args mem=some (res a):=by
 have Q:∃b,bb b args mem:=⟨a,h⟩;unfold Oc;rw[dif_pos Q,uniq _ _ _ _ (oP Q) h]
def aAq {α:Type}{bb:α->List O->Mem->Prop}{res:α->Data×Key}{args:List O}{mem:Mem}{d:Data×Key}(h:Oc bb res args mem=some d):∃a,bb a args mem/\d=res a:=by
 unfold Oc at h
 split at h
 ·rename_i Q;exact⟨_,oP Q,(mD h).symm⟩
 ·cases h
open Classical in
def Bf {α:Type}(bb:α->List O->Mem->Prop)(res:α->Data):List O->Mem->Option Data:=λargs mem=>if h:∃a,bb a args mem then some (res (vD h)) else none
def Od {α:Type}{bb:α->List O->Mem->Prop}{res:α->Data}(uniq:∀a b args mem,bb a args mem->bb b args mem->res a=res b){a:α}{args:List O}{mem:Mem}(h:bb a args mem):Bf bb res args mem=some (res a):=by
 have Q:∃b,bb b args mem:=⟨a,h⟩;unfold Bf;rw[dif_pos Q,uniq _ _ _ _ (oP Q) h]
def Oe {α:Type}{bb:α->List O->Mem->Prop}{res:α->Data}{args:List O}{mem:Mem}{d:Data}(h:Bf bb res args mem=some d):∃a,bb a args mem/\d=res a:=by
 unfold Bf at h
 split at h
 ·rename_i Q;exact⟨_,oP Q,(mD h).symm⟩
 ·cases h
def aly {α:Type}{bb:α->List O->Mem->Prop}{bK:α->Mem->O->Mem->Prop}(uniq:∀a b args mem,bb a args mem->bb b args mem->bK a mem=bK b mem){a:α}{args:List O}{mem:Mem}(h:bb a args mem):uR bb bK args mem=some (bK a mem):=by
 have Q:∃b,bb b args mem:=⟨a,h⟩;unfold uR;rw[dif_pos Q,uniq _ _ _ _ (oP Q) h]
def aAr {K:bc->Prop}{st:bc}{x:bI}{i k sz kc g off:Nat}{cs:List O}(F:a9 st.tm x=.ptr kc g off)(G:st.mem kc=some (g,cs))(af:cs[off+i]?=some .nil)(aS:k≠kc)
  (h:K ⟨st.tm,a4 (a4 st.mem k (bQ st.mem k) []) kc g (cs.set (off+i) (.ref k (bQ st.mem k) sz 0 0))⟩):lC K st (.PO x i k sz):=by
 simp only[lC,F,G,if_true,af];rw[ab aS];exact h
def aAs {K:bc->Prop}{st:bc}{x:bI}{i kc gc off k g sz o len:Nat}{cc cs:List O}{d:Data}(F:a9 st.tm x=.ptr kc gc off)(G:st.mem kc=some (gc,cc))(af:cc[off+i]?=some (.ref k g sz o len))(aS:st.mem k=some (g,cs))(bt:oK cs=true)(b2:k≠kc)(cb:b5 1 st.mem (.ref k g sz o len)=some d)
  (h:K ⟨st.tm,a4 (kill st.mem k) kc gc (cc.set (off+i) (.M d))⟩):lC K st (.PQ x i):=by
 simp only[lC,F,G,if_true,af,aS];rw[ab ⟨trivial,bt,b2⟩,cb];exact h
def dA (n:Nat)(mem m:Mem):Prop:=∀k,k/1000≠n->m k=mem k
def dA.refl (n:Nat)(mem:Mem):dA n mem mem:=λ_ _=>rfl
def dA.eN {n k g:Nat}{cs:List O}{mem m:Mem}(h:dA n mem m)(I:k/1000=n):dA n mem (a4 m k g cs):=λj ag=>by
 have:j≠k:=λe=>ag (by rw[e];exact I);simp only[a4,this,if_false];exact h j ag
def dA.kill {n k:Nat}{mem m:Mem}(h:dA n mem m)(I:k/1000=n):dA n mem (kill m k):=h.eN I
def dA.at {n:Nat}{mem m:Mem}(h:dA n mem m)(k:Nat)(I:k/1000≠n):m k=mem k:=h k I
def ow (n:Nat)(mem:Mem):Prop:=∀k,k/1000=n->mem k=none
def ow.aE {n alz:Nat}{mem m:Mem}(h:ow n mem)(aK:dA alz mem m)(aH:n≠alz):ow n m:=λk I=>by rw[aK k (by omega)];exact h k I
end Go.Mini
namespace Go.Mini
open Go
def bJ (x:Int):O:=.M (.int .i64 x)
def n1 (b:Bool):O:=.M (.bool b)
def x0 {α:Type}{f:α->O}{l:List α}{k:Nat}{y:α}(h:l[k]?=some y):fh 1 (ft k (l.map f))=[f y]:=by
 obtain⟨ak,rfl⟩:=dK.1 h;rw[<-List.map_drop,List.drop_eq_getElem_cons ak,eu,List.take_succ_cons,l3]
structure Dq (cash:List Int) (cs:List ao) (aP:List Int) (P:List Bool) (g cW gX:Nat) (mem:Mem):Prop where
 r:mem 261029=some (g,[.M (.ay (cash.map aC)),.M (.ay (cs.map bW)),.ref 261042 cW 1 0 (D aP),.ref 261027 gX 1 0 (D P),.M (.bool false)])
 f:mem 261042=some (cW,aP.map bJ)
 p:mem 261027=some (gX,P.map n1)
def Dq.aE {cash:List Int}{cs:List ao}{aP:List Int}{P:List Bool}{g cW gX n:Nat}{mem m:Mem}(h:Dq cash cs aP P g cW gX mem)(aK:dA n mem m)(aH:n≠261):Dq cash cs aP P g cW gX m :=
 ⟨(aK.at 261029 (by omega)).trans h.r,(aK.at 261042 (by omega)).trans h.f,(aK.at 261027 (by omega)).trans h.p⟩
def Tl {a b:List Int}(h:a.map bJ=b.map bJ):a=b:=map_inj (λx y h=>by simpa [bJ] using h) _ _ h
def aAt {a b:List Bool}(h:a.map n1=b.map n1):a=b:=map_inj (λx y h=>by simpa [n1] using h) _ _ h
def Dq.uniq {cash Bg:List Int}{cs jo:List ao}{aP JB:List Int}{P alA:List Bool}{g cW gX cV alB Tm:Nat}{mem:Mem}(h:Dq cash cs aP P g cW gX mem)(cj:Dq Bg jo JB alA cV alB Tm mem):cash=Bg/\cs=jo/\aP=JB/\P=alA/\g=cV/\cW=alB/\gX=Tm:=by
 have F:=h.r;rw[cj.r] at F;simp only[cl,e2,bh,O.M.injEq,Data.ay.injEq,O.ref.injEq,true_and,and_true] at F;obtain⟨az,aD,bX,⟨dE,-⟩,bP,-⟩:=F;have G:=h.f;rw[cj.f] at G;simp only[cl,e2] at G;have af:=h.p;rw[cj.p] at af;simp only[cl,e2] at af;exact⟨(map_inj fq _ _ aD).symm,(map_inj u7 _ _ bX).symm,(Tl G.2).symm,(aAt af.2).symm,az.symm,dE.symm,bP.symm⟩
structure Tn where
 cash:List Int
 cs:List ao
 aP:List Int
 P:List Bool
 g:Nat
 cW:Nat
 gX:Nat
def Tn.eF (a:Tn)(mem:Mem):Prop:=Dq a.cash a.cs a.aP a.P a.g a.cW a.gX mem
def Tn.uniq {a b:Tn}{mem:Mem}(h:a.eF mem)(cj:b.eF mem):a=b:=by
 obtain⟨cH,cY,ep,fi,o2,tu,alC⟩:=a;obtain⟨c6,eB,jA,lT,aAu,alD,alE⟩:=b;have:=Dq.uniq h cj;dsimp only at this;obtain⟨rfl,rfl,rfl,rfl,rfl,rfl,rfl⟩:=this
 rfl
def dA.same {n k g:Nat}{cs:List O}{mem m:Mem}(h:dA n mem m)(hm:mem k=some (g,cs)):dA n mem (a4 m k g cs):=λj ag=>by
 by_cases e:j=k
 ·subst e;simp only[a4,if_true];exact hm.symm
 ·simp only[a4,e,if_false];exact h j ag
def rn {z:Int}(F:-9000000000000000000<=z)(G:z<=9000000000000000000):fa z:=by unfold fa;omega
def Jy.upto {cs:List ao}(h:Jy cs)(i r:Int):0<=cK cs i r/\cK cs i r<=2000000000000000000:=by
 have:=h.sum (λc=>c.1=i/\c.2.2.1<r) (D cs);rw[mW] at this;exact this
def aAv {p q:Int}(aF:fa p)(aY:fa q)(au:q≠0):jN (bY p) (bY q)=(ax ((p:Rat)/(q:Rat)),0):=by
 rw[AM (y2 aF) (y2 aY) au,S0]
def kF (cs:List ao)(i r:Int):Int:=cK cs i (r+1)-cK cs i r
end Go.Mini
namespace Go.Mini
open Go Classical
def bG (aP:List Int)(i:Nat):Nat:=(aP.getD i 10).toNat
def fw (P:List Bool)(i:Nat):Prop:=P.getD i false=true
def Bh {z:Int}{b:Nat}(h:z.natAbs<=2^b):ec b (z:Rat):=⟨by rw[alF];exact h,by rw[alG];exact S4⟩
def aAw {cash:List Int}{cs:List ao}(X:fv cash cs){c:ao}(H:c∈cs):ec 54 ((aB cash cs).w (cD c)):=by
 have aa:=(gN.1 X.right).2.2.2 c H;have uZ:=X.am c H
 by_cases au:c.2.2.2=0
 ·have:(cD c).am=0:=by show ((c.2.2.2:Int):Rat)=0;rw[au];rfl
  rw[Day.Ni this];exact⟨fy _,S4⟩
 ·have cB:=FX X.right (cD c).aE (cD c).rk;have hle:=(aaC X.right).SJ (c:=cD c) (u2 H);rw[<-cB] at hle
  have F:c.2.2.2<=((ig cs (cD c).aE (cD c).rk:Nat):Int):=by
   have:((c.2.2.2:Int):Rat)<=(((ig cs (cD c).aE (cD c).rk:Nat):Int):Rat):=by rw[o1];exact hle
   exact_mod_cast this
  have G:=X.FY (cD c).aE (cD c).rk
  obtain⟨f1,f2⟩:=Dd (q:=(aB cash cs).w (cD c)) (v:=c.2.2.2) (d:=((ig cs (cD c).aE (cD c).rk:Nat):Int)) (by omega) (by
   rw[o1,cB];refine Day.C9 ?_;rw[<-cB];have:0<ig cs (cD c).aE (cD c).rk:=by omega
   exact_mod_cast this)
  rw[mV] at f2;exact⟨by omega,by omega⟩
section
variable {cash:List Int} {cs:List ao} (X:fv cash cs) (f:Nat->Nat) (P:Nat->Prop) (i:Nat) (cB:∀k,P k->0<(aB cash cs).S k (f k))
include X cB
end
end Go.Mini
namespace Go.Mini
open Go
def Of:fa 0:=by unfold fa;omega
def To:fa 1:=by unfold fa;omega
def aAx {N k:Nat}(x:Nat->Rat)(y:Rat):(dz N x).set k (ax y)=dz N λj=>if j=k then y else x j:=by
 refine N1 (by rw[hL,rm]) λj ag=>?_;rw[nT]
 by_cases h:k=j
 ·rw[ab h,ab (by rw[rm];omega),ab h.symm]
 ·rw[ae h,wy _ ag,ae (Ne.symm h)]
def mj {α:Type}{l:List α}{k:Nat}{d x:α}(h:l[k]?=some x):l.getD k d=x:=by rw[ei,h];rfl
def aAy (r:fJ):((qd r).map O.M).all O.one=true:=rfl

def n2 (n:Nat)(p:Nat->Bool):List Bool:=(dD n).map p
def Tp (n:Nat)(p:Nat->Bool):(n2 n p).length=n:=by simp[n2]
def Tq {n i:Nat}(p:Nat->Bool)(h:i<n):(n2 n p)[i]?=some (p i):=by
 unfold n2;rw[bo,vt h];rfl
def aAz {n:Nat}{p q:Nat->Bool}(h:∀i,i<n->p i=q i):n2 n p=n2 n q:=mH λi J=>h i (gQ.1 J)
def Tr {n i:Nat}{p:Nat->Bool}:fw (n2 n p) i↔i<n/\p i=true:=by
 unfold fw;rcases iD i n with h|h
 ·rw[mj (Tq p h)];exact⟨λe=>⟨h,e⟩,λe=>e.2⟩
 ·rw[ei,mB (by rw[Tp];exact h)];simp;omega
def wz (d:Day)(f:Nat->Nat)(h:Nat->Rat)(i:Nat):Bool:=decide (f i<10)&&decide (d.U i (f i)<h i)
def ox (d:Day)(f:Nat->Nat)(h:Nat->Rat)(p:Nat->Bool)(i j:Nat):Bool:=p j||(decide (j<i)&&wz d f h j)
def zu (d:Day)(f:Nat->Nat)(h:Nat->Rat)(p:Nat->Bool)(i:Nat):Bool:=(dD i).any λj => !p j&&wz d f h j
def aAA (d:Day)(f:Nat->Nat)(h:Nat->Rat)(p:Nat->Bool)(i:Nat):zu d f h p (i+1)=(zu d f h p i||(!p i&&wz d f h i)):=by
 unfold zu;rw[m5,List.any_append];simp
def alH (d:Day)(f:Nat->Nat)(h:Nat->Rat)(p:Nat->Bool)(i:Nat):ox d f h p i i=p i:=by
 unfold ox;rw[lZ (Nat.lt_irrefl i),fC,mM]
def alI (d:Day)(f:Nat->Nat)(h:Nat->Rat)(p:Nat->Bool)(i j:Nat):ox d f h p (i+1) j=if j=i then (p i||wz d f h i) else ox d f h p i j:=by
 unfold ox
 by_cases ag:j=i
 ·subst ag;rw[ab rfl,h2 (Nat.lt_succ_self j),g4]
 ·rw[ae ag]
  congr 2
  rw[decide_eq_decide];omega
def aAB {d:Day}{f:Nat->Nat}{h:Nat->Rat}{p:Nat->Bool}:fw (n2 d.n (ox d f h p d.n))=tn d f (fw (n2 d.n p)) h:=by
 funext i
 apply propext;rw[Tr];unfold tn ox wz;rw[Tr]
 constructor
 ·rintro⟨F,G⟩;rw[sP] at G;rcases G with G|G
  ·exact .inl ⟨F,G⟩
  ·simp only[eQ,decide_eq_true_eq] at G;exact .inr ⟨F,G.2⟩
 ·rintro (⟨F,G⟩|⟨F,G⟩)
  ·exact⟨F,by rw[G];rfl⟩
  ·refine⟨F,?_⟩;rw[sP]
   right
   simp only[eQ,decide_eq_true_eq];exact⟨F,G⟩
def aAC {n:Nat}:fw (n2 n λ_=>false)=λ_=>False:=by
 funext i
 apply propext;rw[Tr];simp
def aAD {d:Day}{f:Nat->Nat}{h:Nat->Rat}{p:Nat->Bool}{n:Nat}(hm:zu d f h p n=true):m4 n (λi=>if ox d f h p n i then 0 else 1)<m4 n λi=>if p i then 0 else 1:=by
 unfold zu at hm;rw[List.any_eq_true] at hm;obtain⟨j,ag,G⟩:=hm;have ag:=gQ.1 ag;simp only[eQ,nS] at G;refine aaA (j:=j) (λi J=>?_) ag ?_
 ·unfold ox
  cases p i
  ·try dsimp only
   split<;>simp
  ·simp
 ·unfold ox;rw[G.1,G.2,h2 ag]
  decide
def aAE {d:Day}{f:Nat->Nat}{h:Nat->Rat}{p:Nat->Bool}{n:Nat}(hm:zu d f h p n=false){i:Nat}(J:i<n)(F:f i<10)(G:d.U i (f i)<h i):p i=true:=by
 unfold zu at hm;rw[uL] at hm;have:=hm i (gQ.2 J);unfold wz at this;rw[h2 F,h2 G] at this
 simpa using this
def fK (cs:List ao)(x:Rat)(c:ao):Rat:=if ((cK cs c.1 (c.2.2.1+1):Int):Rat)<=x then (c.2.2.2:Rat) else (c.2.2.2:Rat)/((kF cs c.1 c.2.2.1:Int):Rat)*pos (x-((cK cs c.1 c.2.2.1:Int):Rat))
def JC {cash:List Int}{cs:List ao}(h:hY cash cs=true)(x:Nat->Rat){c:ao}(H:c∈cs):(aB cash cs).hd x (cD c)=fK cs (x c.1.toNat) c:=by
 have aa:=(gN.1 h).2.2.2 c H;obtain⟨aG,c2,c3,c4⟩:=c;dsimp only at aa;obtain⟨aG,rfl⟩:∃k:Nat,aG=(k:Int):=⟨aG.toNat,by omega⟩
 obtain⟨c3,rfl⟩:∃k:Nat,c3=(k:Int):=⟨c3.toNat,by omega⟩
 unfold Day.hd fK Day.w;have F:=u0 h aG (c3+1);have G:=u0 h aG c3;have af:=SU h aG c3;have az:(cD ((aG:Int),c2,(c3:Int),c4)).aE=aG:=g9 aG;have aD:(cD ((aG:Int),c2,(c3:Int),c4)).rk=c3:=g9 c3;have bX:(cD ((aG:Int),c2,(c3:Int),c4)).am=(c4:Rat):=rfl;rw[az,aD,bX,<-F,<-G,<-af]
 rfl
structure ly (l:List ao):Prop where
 len:(D l)<=12
 c:∀c∈l,0<=c.1/\c.1<60 /\ -1<=c.2.1/\c.2.1<60/\0<=c.2.2.1/\c.2.2.1<10/\0<=c.2.2.2/\c.2.2.2<=1000000000000000
 one:∀c∈l,∀c'∈l,c.1=c'.1
def ly.cs {l:List ao}(h:ly l):Jy l:=⟨by have:=h.len;omega,λc H=>by have:=h.c c H;omega⟩
def ml {α:Type}(enc:α->List O)(l:List α):List O:=(l.map enc).flatten
def aAF {α:Type}{enc:α->List O}{sz:Nat}(h:∀a,(enc a).length=sz)(l:List α):(ml enc l).length=D l*sz:=by
 unfold ml
 induction l with
 |nil=>simp
 |cons a l av=>rw[eu,k5,fO,av,h,hQ,vw];omega
def alJ {α:Type}{enc:α->List O}{sz:Nat}(h:∀a,(enc a).length=sz):∀(l:List α) (i:Nat),i<(D l)->∀b,fh (i*sz) (ml enc l)++enc b++ft (i*sz+sz) (ml enc l)=ml enc (l.set i b)
 | [],i,J,b=>absurd J (by simp)
 |a::l,0,_,b=>by
  have aO:=h a;unfold ml;simp only[Ep,ks,l3,ik,eu,k5,we];rw[<-aO,List.drop_left]
 |a::l,i+1,J,b=>by
  have aO:=h a;have av:=alJ h l i (by simpa using J) b;unfold ml at av ⊢;simp only[eu,k5,List.set_cons_succ];rw[<-av,vw,List.take_append,oj,aO];rw[dt (by omega),j0 (by omega),ik];rw[show i*sz+sz-sz=i*sz by omega,show i*sz+sz+sz-sz=i*sz+sz by omega]
  simp only[gr]
def bA {α:Type}(n:Nat)(q:Nat->α):List α:=(dD n).map q
def gY {α:Type}(n:Nat)(q:Nat->α):(bA n q).length=n:=by simp[bA]
def jh {α:Type}{n i:Nat}(q:Nat->α)(h:i<n):(bA n q)[i]?=some (q i):=by
 unfold bA;rw[bo,vt h];rfl
def abf {α:Type}{n:Nat}{l:List α}{q:Nat->α}(ak:(D l)=n)(h:∀i,i<n->l[i]?=some (q i)):l=bA n q:=by
 apply pY;intro i;rcases iD i n with J|J
 ·rw[h i J,jh q J]
 ·rw[mB (by omega),mB (by rw[gY];exact J)]
def Bi {α:Type}{n i:Nat}(q:Nat->α)(b:α):(bA n q).set i b=bA n λj=>if j=i then b else q j:=by
 refine abf (by rw[hL,gY]) λj ag=>?_;rw[nT]
 by_cases h:i=j
 ·rw[ab h,ab (by rw[gY];omega),ab h.symm]
 ·rw[ae h,jh _ ag,ae (Ne.symm h)]
def k4 {α:Type}{n:Nat}{p q:Nat->α}(h:∀i,i<n->p i=q i):bA n p=bA n q:=mH λi J=>h i (gQ.1 J)
def rp:Option bF->List O
 |none=>[.M (.int .i64 0),.nil,.M (.int .i64 0),.nil]
 |some f=>(aU f).map .M
def alK:∀a,(rp a).length=4
 |none=>rfl
 |some _=>rfl
def alL (n:Nat):(dH n [O.M (.int .i64 0),O.nil,O.M (.int .i64 0),O.nil]).flatten=ml rp (bA n λ_=>none):=by
 unfold ml bA;rw[mK]
 congr 1
 apply pY;intro i;rw[bo];rcases iD i n with J|J
 ·rw[vt J,alM,ab J];rfl
 ·rw[mB (by simpa using J),mB (by simpa using J)];rfl
def alN (l:List bF):ml rp (l.map some)=a6 aU l:=by
 unfold ml a6
 induction l with
 |nil=>rfl
 |cons f l av =>
  simp only[eu,k5,kh];rw[av];rfl
def abg {n i:Nat}{q:Nat->Option bF}(h:i<n):(i*4+4<=(ml rp (bA n q)).length)=True:=eq_true (by rw[aAF alK,gY];omega)
def abh {n i:Nat}{q:Nat->Option bF}(h:i<n)(a:Int)(b:List Int)(c:Int)(d:List Int):
  fh (i*4) (ml rp (bA n q))++[O.M (.int .i64 a),.M (.ay (b.map aC)),.M (.int .i64 c),.M (.ay (d.map aC))]++ft (i*4+4) (ml rp (bA n q))=ml rp (bA n λj=>if j=i then some ((a,b),(c,d)) else q j):=by
 rw[<-Bi];exact alJ alK (bA n q) i (by rw[gY];exact h) (some ((a,b),(c,d)))
structure Ts (l:List ao) (x:Rat):Prop where
 own:ly l
 pos:0<=x
 sz:ec 460 x
def ly.less {l:List ao}(h:ly l){c:ao}(H:c∈l)(r:Int):(cJ l λc'=>if c'.2.2.1<r then c'.2.2.2 else 0)=cK l c.1 r:=by
 unfold cK;refine Jo λc' l4=>?_;have:=h.one c' l4 c H
 by_cases F:c'.2.2.1<r
 ·rw[ab F,ab ⟨this,F⟩]
 ·rw[ae F,ae λh=>F h.2]
def abi (l:List ao)(aL bC:ao->Int):cJ l (λc=>aL c+bC c)=cJ l aL+cJ l bC:=by
 induction l with
 |nil=>simp[cJ]
 |cons c l av=>simp only[cJ,av];omega
def ly.same {l:List ao}(h:ly l){c:ao}(H:c∈l)(r:Int):(cJ l λc'=>if c'.2.2.1=r then c'.2.2.2 else 0)=kF l c.1 r:=by
 have F:=h.less H r;have G:=h.less H (r+1)
 have af:(cJ l λc'=>if c'.2.2.1<r+1 then c'.2.2.2 else 0)=(cJ l λc'=>if c'.2.2.1<r then c'.2.2.2 else 0)+cJ l λc'=>if c'.2.2.1=r then c'.2.2.2 else 0:=by
  rw[<-abi];refine Jo λc _=>?_
  by_cases bS:c.2.2.1<r
  ·rw[ab (by omega),ab bS,ae (by omega)];omega
  ·rw[ae bS]
   by_cases cM:c.2.2.1=r
   ·rw[ab (by omega),ab cM];omega
   ·rw[ae (by omega),ae cM];omega
 unfold kF;omega
def ly.bound {l:List ao}(h:ly l)(p:ao->Prop)[DecidablePred p]:0<=cJ l (λc=>if p c then c.2.2.2 else 0)/\cJ l (λc=>if p c then c.2.2.2 else 0)<=12000000000000000:=by
 have:=SS (cs:=l) (aL:=λc=>if p c then c.2.2.2 else 0) (B:=1000000000000000) (by omega) λc H=>by
  have:=h.c c H
  try dsimp only
  split<;>omega
 have:=h.len;omega
def alO (cs:List ao)(i r:Int):kF cs i r=cJ cs λc=>if c.1=i/\c.2.2.1=r then c.2.2.2 else 0:=by
 have af:cK cs i (r+1)=cK cs i r+cJ cs λc=>if c.1=i/\c.2.2.1=r then c.2.2.2 else 0:=by
  unfold cK;rw[<-abi];refine Jo λc _=>?_
  split<;>split<;>split<;>omega
 unfold kF;omega
def aAG {cs:List ao}{aL:ao->Int}(h:∀c∈cs,0<=aL c){c:ao}(H:c∈cs):aL c<=cJ cs aL:=by
 induction cs with
 |nil=>cases H
 |cons a l av =>
  simp only[cJ];have au:=h a gK
  have F:0<=cJ l aL:=by
   have:∀l:List ao,(∀c∈l,0<=aL c)->0<=cJ l aL:=by
    intro l
    induction l with
    |nil=>intro _;exact S8 _
    |cons b l SZ=>intro aX;simp only[cJ];have:=aX b gK;have:=SZ λc H=>aX c (g5 _ H);omega
   exact this l λc H=>h c (g5 _ H)
  rcases hS.1 H with rfl|H
  ·omega
  ·have:=av (λc H=>h c (g5 _ H)) H;omega
def alP {cs:List ao}(h:∀c∈cs,0<=c.2.2.2){c:ao}(H:c∈cs):c.2.2.2<=kF cs c.1 c.2.2.1:=by
 rw[alO];have:=aAG (aL:=λc'=>if c'.1=c.1/\c'.2.2.1=c.2.2.1 then c'.2.2.2 else 0) (λc' l4=>by have:=h c' l4;split<;>omega) H;rwa [ab ⟨rfl,rfl⟩] at this
section
variable {cs:List ao} {x:Rat} {c:ao}
def abj (cs:List ao)(i r:Int):((cK cs i (r+1):Int):Rat)=((cK cs i r:Int):Rat)+((kF cs i r:Int):Rat):=by
 rw[<-zo]
 congr 1
 unfold kF;omega
def alQ (aH:∀c∈cs,0<=c.2.2.2)(H:c∈cs)(h:x-((cK cs c.1 c.2.2.1:Int):Rat)<=0):fK cs x c=0:=by
 unfold fK;have F:=alP aH H;have G:=aH c H;rw[abj]
 split
 ·rename_i af
  have aS:((kF cs c.1 c.2.2.1:Int):Rat)<=((0:Int):Rat):=by
   have:((0:Int):Rat)=0:=rfl;rw[this];generalize ((cK cs c.1 c.2.2.1:Int):Rat)=u at *;grind
  have bt:kF cs c.1 c.2.2.1<=0:=by exact_mod_cast aS
  rw[show c.2.2.2=0 by omega];rfl
 ·rw[wq h,oZ]
def aAH (h:((kF cs c.1 c.2.2.1:Int):Rat)<=x-((cK cs c.1 c.2.2.1:Int):Rat)):fK cs x c=(c.2.2.2:Rat):=by
 unfold fK;rw[abj,ab];generalize ((cK cs c.1 c.2.2.1:Int):Rat)=u at *;generalize ((kF cs c.1 c.2.2.1:Int):Rat)=s at *;grind
def alR (au:0<=x-((cK cs c.1 c.2.2.1:Int):Rat))(h:x-((cK cs c.1 c.2.2.1:Int):Rat)<((kF cs c.1 c.2.2.1:Int):Rat)):fK cs x c=(c.2.2.2:Rat)*(x-((cK cs c.1 c.2.2.1:Int):Rat))/((kF cs c.1 c.2.2.1:Int):Rat):=by
 unfold fK;rw[abj,ae,tl au]
 ·generalize ((cK cs c.1 c.2.2.1:Int):Rat)=u at *;generalize ((kF cs c.1 c.2.2.1:Int):Rat)=s at *;grind
 ·generalize ((cK cs c.1 c.2.2.1:Int):Rat)=u at *;generalize ((kF cs c.1 c.2.2.1:Int):Rat)=s at *;grind
end
def rq {n:Int}(h:fa n):dc (n:Rat):=⟨by rw[alF];exact y2 h,by rw[alG];decide +kernel⟩
def alS {x:Rat}:decide (x.num.sign<0)=decide (x<0):=by
 have:x.num.sign<0↔x<0:=by
  rw[alw,abe,aa2,aa1];omega
 rw[decide_eq_decide];exact this
def ji:ao:=(0,0,0,0)
def Ga (l:List ao)(x:Rat)(j:Nat):bF:=ax (fK l x (l.getD j ji))
def aAI (l:List ao)(x:Rat):(bA (D l) λj=>some (Ga l x j))=(l.map λc=>ax (fK l x c)).map some:=by
 symm
 refine abf (by simp) λi J=>?_;rw[bo,bo,bn J];unfold Ga;rw[mj (bn J)];rfl
end Go.Mini
namespace Go.Mini
open Classical
section
variable {u s a x:Rat} (X:0<=s) (aO:0<=a)
include X aO
end
end Go.Mini
namespace Go.Mini
open Classical
def Day.x1 (d:Day)(i r:Nat):Nat:=((dD r).filter λk=>decide (0<d.S i k)).length
def aAJ (d:Day)(i:Nat){r s:Nat}(h:r<=s):d.x1 i r<=d.x1 i s:=by
 induction s with
 |zero =>
      have:r=0:=by omega
      subst this;exact bM _
 |succ s av =>
  by_cases aa:r=s+1
  ·rw[aa];exact bM _
  ·have:=av (by omega);unfold Day.x1 at *;rw[m5,ql,fO];omega
def aAK (d:Day)(i:Nat){r s:Nat}(h:r<s)(cB:0<d.S i r):d.x1 i r+1<=d.x1 i s:=by
 have F:=aAJ d i (r:=r+1) (s:=s) (by omega);unfold Day.x1 at *;rw[m5,ql,fO,tr (by simpa using cB)] at F;simp only[qm,hQ,lH] at F;omega
def alT (d:Day)(f:Nat->Nat):(d.ie f).Pairwise (·<·):=List.Pairwise.filter _ List.pairwise_lt_range
def aAL (d:Day)(f:Nat->Nat)(i:Nat):(d.ie f).count i=if i∈d.ie f then 1 else 0:=by
 have aAM:(d.ie f).Nodup:=(alT d f).imp λh=>by omega
 rw[aAM.count]
section
variable {d:Day} (Y:d.df)
include Y
def aAN {f:Nat->Nat}(aa:Reach d f){i:Nat}(J:i<d.n):(i∈d.ie f->d.gM f (d.top f) i<f i/\0<d.S i (d.gM f (d.top f) i))/\(i ∉ d.ie f->d.gM f (d.top f) i=f i):=by
 have bz:=Day.Db (Y.hex f aa);have hle:∀i,f i<=10:=by obtain⟨g,bS,-⟩:=bz;exact bS.le
 have aK:=aaz Y hle (h:=d.top f) λi cn=>bz.SQ Y cn
 constructor
 ·intro hm;obtain⟨F,G⟩:=Day.NP.1 hm;have af:=aK.2.1 i F G;refine⟨af.1,?_⟩;have aS:=d.tk i (d.gM f (d.top f) i);grind
 ·intro hm;refine aK.2.2 i J ?_;apply kE;intro aH;exact hm (Day.NP.2 ⟨J,by grind⟩)
def alU:∀k (f:Nat->Nat),Reach d f->(∀l∈(d.rounds k f).1,l≠[]/\l.Pairwise (·<·)/\∀i∈l,i<d.n)/\∀i,i<d.n->(d.rounds k f).1.flatten.count i+d.x1 i ((d.rounds k f).2 i)<=d.x1 i (f i)/\((d.rounds k f).2 i<f i↔0<(d.rounds k f).1.flatten.count i)/\(d.rounds k f).2 i<=f i
 |0,f,aa=>⟨λl ak=>(by cases ak),λi J=>by simp[Day.rounds]⟩
 |k+1,f,aa=>by
  unfold Day.rounds
  by_cases bE:d.ie f=[]
  ·rw[ab bE];exact⟨λl ak=>(by cases ak),λi J=>by simp⟩
  ·rw[ae bE];obtain⟨F,G⟩:=alU k _ (aa.next Y Y.hex);refine⟨λl ak=>?_,λi J=>?_⟩
   ·dsimp only at ak;rcases hS.1 ak with rfl|ak
    ·exact⟨bE,alT d f,λi J=>(Day.NP.1 J).1⟩
    ·exact F l ak
   ·obtain⟨af,aS,bt⟩:=G i J;obtain⟨f1,f2⟩:=aAN Y aa J;dsimp only;rw[k5,List.count_append,aAL]
    by_cases hm:i∈d.ie f
    ·obtain⟨f3,f4⟩:=f1 hm;rw[ab hm];have:=aAK d i f3 f4;refine⟨by omega,?_,by omega⟩
     constructor<;>intro _<;>omega
    ·have f3:=f2 hm;rw[f3] at af aS bt;rw[ae hm];refine⟨by omega,?_,by omega⟩
     rw[aS];omega
def aAO:(∀l∈d.hZ,l≠[]/\l.Pairwise (·<·)/\∀i∈l,i<d.n)/\∀i,i<d.n->d.hZ.flatten.count i<=d.x1 i 10/\(d.cW i<d.U i 10↔0<d.hZ.flatten.count i):=by
 obtain⟨F,G⟩:=alU Y (10*d.n) (λ_=>10) (Reach.start Y);refine⟨F,λi J=>?_⟩;obtain⟨af,aS,bt⟩:=G i J;unfold Day.hZ;refine⟨by omega,?_⟩
 rw[<-aS,<-(F7 Y).2 i J]
 rfl
omit Y in
def aAP {i:Nat}{x:Rat}(au:0<=x):∀k,x<d.U i k->∃r,r<k/\d.U i r<=x/\x<d.U i (r+1):=by
 intro k
 induction k with
 |zero=>intro h;rw[d.SH] at h;grind
 |succ k av =>
  intro h
  by_cases G:x<d.U i k
  ·obtain⟨r,af,aS⟩:=av G;exact⟨r,by omega,aS⟩
  ·exact⟨k,by omega,by grind,h⟩
def aAQ {i:Nat}{x:Nat->Rat}(au:0<=x i):(∃c∈d.de,c.aE=i/\d.hd x c<c.am)↔x i<d.U i 10:=by
 constructor
 ·rintro⟨c,H,rfl,F⟩;apply kE;intro G;have:=Y.uW c.aE (r:=c.rk+1) (s:=10) (by have:=Y.rk c H;omega);unfold Day.hd at F;rw[ab (by grind)] at F;grind
 ·intro F;obtain⟨r,G,af,aS⟩:=aAP au 10 F;have bt:=d.tk i r;have cB:0<d.S i r:=by grind
  obtain⟨c,H,aF⟩:=NH cB
  by_cases hE:c.aE=i/\c.rk=r
  ·obtain⟨rfl,rfl⟩:=hE;rw[ab ⟨rfl,rfl⟩] at aF;refine⟨c,H,rfl,?_⟩;unfold Day.hd;rw[ae (by grind),tl (by grind)];have hw:=Y.NJ H aF;have b2:=Day.C9 cB;have cb:=Rat.mul_lt_mul_of_pos_left (show x c.aE-d.U c.aE c.rk<d.S c.aE c.rk by grind) hw;grind
  ·rw[ae hE] at aF;grind
def alV (i:Nat)(k:Nat):0<d.S i k↔∃c∈d.de,c.aE=i/\c.rk=k/\0<c.am:=by
 constructor
 ·intro h;obtain⟨c,H,aF⟩:=NH h
  by_cases hE:c.aE=i/\c.rk=k
  ·rw[ab hE] at aF;exact⟨c,H,hE.1,hE.2,aF⟩
  ·rw[ae hE] at aF;grind
 ·rintro⟨c,H,rfl,rfl,aF⟩;have:=Y.SJ H;grind
end
end Go.Mini
namespace Go.Mini
open Classical
def Day.times (d:Day)(k:Rat):Day:=⟨d.n,λi=>k*d.cash i,d.de.map λc=>⟨c.aE,c.to,c.rk,k*c.am⟩⟩
section
variable {d:Day} (Y:d.df) {k:Rat} (I:0<k)
include I
end
section
variable {d:Day} (Y:d.df) (di:Nat)
include Y
end
end Go.Mini
namespace Go.Mini
open Classical
def alW {d:Day}(Y:d.df){f:Nat->Nat}{g:Nat->Rat}(J:Inv d f g):∀m (P:Nat->Prop),idle d P<=m->iv d f g P (d.fc f P)->∃P,tt d f P/\∀i,i<d.n->d.fc f P i=d.top f i
 |m,P,hm,aF=>by
  by_cases X:∀i,i<d.n->f i<10->d.U i (f i)<d.fc f P i->P i
  ·exact⟨P,⟨Y,g,J,aF⟩,aF.akU Y J X⟩
  ·have⟨i,F,G,af,aS⟩:∃i,i<d.n/\f i<10/\d.U i (f i)<d.fc f P i/\¬ P i:=by
    apply kE;intro aH;exact X λi F G af=>kE λaS=>aH ⟨i,F,G,af,aS⟩
   have aq:=akT (h:=d.fc f P) F G af aS
   cases m with
   |zero=>omega
   |succ m=>exact alW Y J m _ (by omega) (aF.succ Y J)
def abk {d:Day}(Y:d.df){f:Nat->Nat}(aa:Reach d f):∃P,tt d f P/\∀i,i<d.n->d.fc f P i=d.top f i:=by
 obtain⟨g,J,-⟩:=aa;exact alW Y J _ _ (bM _) (iv.first Y J)
section
variable {cash:List Int} {cs:List ao} (X:fv cash cs)
include X
def alX {f:Nat->Nat}(aa:Reach (aB cash cs) f){i:Nat}(J:i<D cash):ec 428 ((aB cash cs).top f i):=by
 obtain⟨P,aF,he⟩:=abk X.ok aa;rw[<-he i J];exact ak9 X aF J
def Gb {i:Nat}(J:i<D cash):ec 428 ((aB cash cs).cW i):=alX X (N7 X.ok).1 J
def aAR {i:Nat}(J:i<D cash):(aB cash cs).cW i<=((2^54:Nat):Rat):=by
 obtain⟨P,aF,he⟩:=abk X.ok (N7 X.ok).1;have:=(Td X aF J).2;rw[he i J] at this;exact this
def alY:∃bb:Nat,0<bb/\(∃a,a<=330/\bb<=2^a)/\∀i,i<(D cash)->fe bb ((aB cash cs).cW i):=by
 obtain⟨P,aF,he⟩:=abk X.ok (N7 X.ok).1;obtain⟨bb,F,G,af⟩:=ak8 X aF;refine⟨bb,F,G,λi J=>?_⟩;have:=af i J;rw[he i J] at this;exact this
end
section
variable {d:Day} (Y:d.df)
include Y
end
def wA (cash:List Int)(cs:List ao)(k:Nat):Nat:=if (aB cash cs).jC k<10 then ig cs k ((aB cash cs).jC k) else 1
section
variable {cash:List Int} {cs:List ao} (X:fv cash cs)
include X
def alZ {k:Nat}(I:k<D cash):0<wA cash cs k:=by
 unfold wA
 split
 ·rename_i h;obtain⟨g,F,-⟩:=JA X.ok;have G:=F.sm (i:=k) I h;rw[<-FX X.right] at G;exact_mod_cast G
 ·omega
def al0 (k:Nat):wA cash cs k<=2^54:=by
 unfold wA
 split
 ·exact X.FY _ _
 ·exact S4
def al1 {bb:Nat}(kT:∀i,i<(D cash)->fe bb ((aB cash cs).cW i)){c:ao}(H:c∈cs):fe (bb*wA cash cs (cD c).aE) ((aB cash cs).hd (aB cash cs).cW (cD c)):=by
 have Y:=X.ok;have hq:cD c∈(aB cash cs).de:=u2 H;have I:(cD c).aE<D cash:=Y.aE _ hq;have uZ:∀N,fe N (cD c).am:=λN=>fe.int N c.2.2.2;have aV:∀N,fe N (0:Rat):=fe.zero;have mg:=λr s=>@Day.df.uW _ Y (cD c).aE r s;have gy:=Y.rk _ hq;have fp:=Tj Y _ I;unfold Day.hd
 by_cases F:(aB cash cs).U (cD c).aE ((cD c).rk+1)<=(aB cash cs).cW (cD c).aE
 ·rw[ab F];exact uZ _
 ·rw[ae F]
  have aK:(aB cash cs).jC (cD c).aE<10:=by
   refine ((F7 Y).2 _ I).2 ?_;have:=mg ((cD c).rk+1) 10 (by omega);grind
  have aq:(aB cash cs).cW (cD c).aE<(aB cash cs).U (cD c).aE ((aB cash cs).jC (cD c).aE+1):=by
   obtain⟨g,bS,-,dj⟩:=JA Y;have:=bS.J _ I aK;have:=dj _ I;grind
  rcases ak4 (cD c).rk ((aB cash cs).jC (cD c).aE) with G|G|G
  ·have:=mg ((cD c).rk+1) ((aB cash cs).jC (cD c).aE) (by omega);exact absurd (xU this fp) F
  ·have hw:fe (wA cash cs (cD c).aE) ((aB cash cs).w (cD c)):=by
    unfold wA;rw[ab aK];refine⟨c.2.2.2,?_⟩;rw[FX X.right,<-G]
    have:0<(aB cash cs).S (cD c).aE (cD c).rk:=by
     have:=(aB cash cs).tk (cD c).aE ((aB cash cs).jC (cD c).aE);rw[G];grind
    exact Day.C9 this
   have al2:fe bb ((aB cash cs).cW (cD c).aE-(aB cash cs).U (cD c).aE (cD c).rk):=by
    refine (kT _ I).sub ?_;rw[<-u0 X.right];exact fe.int _ _
   rw[tl (by rw[G];grind),sT];exact hw.mul al2
  ·have:=mg ((aB cash cs).jC (cD c).aE+1) (cD c).rk (by omega);rw[wq (by grind),oZ];exact aV _
def Tt {c:ao}(H:c∈cs):ec 482 ((aB cash cs).hd (aB cash cs).cW (cD c)):=by
 obtain⟨bb,F,⟨a,G,af⟩,aS⟩:=alY X;have hq:cD c∈(aB cash cs).de:=u2 H;have I:(cD c).aE<D cash:=X.ok.aE _ hq;have bt:=al1 X aS H;have b2:=alZ X I;have cb:=al0 X (cD c).aE;have cN:bb*wA cash cs (cD c).aE<=2^(a+54):=by rw[xV];exact pI af cb
 have jL:=X.ok.aas (aB cash cs).cW hq
 have g3:(aB cash cs).hd (aB cash cs).cW (cD c)<=((2^50:Nat):Rat):=by
  refine xU (X.ok.aar _ hq) ?_;have:=X.am c H;show ((c.2.2.2:Int):Rat)<=_;have:c.2.2.2<=((2^50:Nat):Int):=by omega
  rw[<-o1];exact Rat.intCast_le_intCast.2 this
 exact (bt.sz (SW F b2) cN jL g3).mono (by omega)
end
end Go.Mini
namespace Go.Mini
open Go
def cE (cs:List ao)(di:Int):List ao:=cs.filter λc=>c.1==di
def aAS (cs:List ao)(di:Int)(p:ao->Prop)[DecidablePred p]:cJ (cE cs di) (λc=>if c.1=di/\p c then c.2.2.2 else 0)=cJ cs λc=>if c.1=di/\p c then c.2.2.2 else 0:=by
 unfold cE
 induction cs with
 |nil=>rfl
 |cons c l av =>
  by_cases h:c.1=di
  ·rw[tr (by simpa using h)];simp only[cJ,av]
  ·rw[u5 (by simpa using h),av];simp only[cJ];rw[ae λaX=>h aX.1];omega
def al3 (cs:List ao)(di r:Int):cK (cE cs di) di r=cK cs di r:=aAS cs di λc=>c.2.2.1<r
def n3 {cs:List ao}{di:Int}{c:ao}:c∈cE cs di↔c∈cs/\c.1=di:=by
 unfold cE;rw[Bc,beq_iff_eq]
def al4 {cs:List ao}{di:Int}{x:Rat}{c:ao}(h:c.1=di):fK (cE cs di) x c=fK cs x c:=by
 unfold fK kF;rw[h,al3,al3]
def aAT (cs:List ao)(di:Int)(x:Rat):((cE cs di).map λc=>ax (fK (cE cs di) x c))=(cE cs di).map λc=>ax (fK cs x c) :=
 mH λc H=>by rw[al4 (n3.1 H).2]
def fv.own {cash:List Int}{cs:List ao}(h:fv cash cs)(di:Int):ly (cE cs di):=by
 have aa:=gN.1 h.right;have aH:=h.k3;refine⟨?_,λc H=>?_,λc H c' l4=>?_⟩
 ·have:=nZ (λc:ao=>c.1==di) cs;have:=h.ts;unfold cE;omega
 ·have F:=aa.2.2.2 c (n3.1 H).1;have G:=h.am c (n3.1 H).1;omega
 ·rw[(n3.1 H).2,(n3.1 l4).2]
def al5 (n:Nat):((iS n).map O.M).all O.one=true:=rfl
def u9 (d:Day)(f:Nat->Nat)(h:Nat->Rat)(i:Nat):List Nat:=(dD i).filter λj=>decide (h j<d.U j (f j))
def aAU (d:Day)(f:Nat->Nat)(h:Nat->Rat)(i:Nat):u9 d f h (i+1)=if h i<d.U i (f i) then u9 d f h i++[i] else u9 d f h i:=by
 unfold u9;rw[m5,ql]
 by_cases aX:h i<d.U i (f i)
 ·rw[ab aX,tr (by simpa using aX),qm]
 ·rw[ae aX,u5 (by simpa using aX),qm,fG]
def aAV (d:Day)(f:Nat->Nat)(h:Nat->Rat)(i:Nat):(u9 d f h i).length<=i:=by
 have:=nZ (λj=>decide (h j<d.U j (f j))) (dD i);rw[uj] at this;exact this
end Go.Mini
namespace Go.Mini
open Classical
def kj (d:Day)(l:List ao)(i:Nat):Rat:=cI (l.map cD) λc=>if c.to=(i:Int) then d.w c else 0
def aAW (d:Day)(i:Nat):kj d [] i=0:=rfl
def al6 (d:Day)(l:List ao)(c:ao)(i:Nat):kj d (l++[c]) i=kj d l i+if c.2.1=(i:Int) then d.w (cD c) else 0:=by
 unfold kj;rw[kh,N6]
 congr 1
 show (if (cD c).to=(i:Int) then d.w (cD c) else 0)+0=_;rw[rf]
 rfl
def aAX {cash:List Int}{cs:List ao}(h:hY cash cs=true)(f:Nat->Nat)(k i:Nat):kj (aB cash cs) (c7 cs k (f k)) i=(aB cash cs).W f k i:=by
 have aa:=(gN.1 h).2.2.2;unfold kj Day.W;rw[aba λc H=>⟨(aa c H).1,(aa c H).2.2.2.2.1⟩];refine xT λc _=>?_
 by_cases F:c.aE=k/\c.rk=f k
 ·rw[ab F]
  by_cases G:c.to=(i:Int)
  ·rw[ab G,ab ⟨G,F⟩]
  ·rw[ae G,ae λh=>G h.1]
 ·rw[ae F,ae λh=>F h.2]
section
variable {cash:List Int} {cs:List ao} (X:fv cash cs) {k r:Nat} (cB:0<(aB cash cs).S k r)
include X cB
def Tu {c:ao}(H:c∈c7 cs k r):fe (ig cs k r) ((aB cash cs).w (cD c))/\0<=(aB cash cs).w (cD c)/\(aB cash cs).w (cD c)=(c.2.2.2:Rat)/((kF cs k r:Int):Rat):=by
 obtain⟨F,G,af⟩:=F6.1 H;have az:(cD c).aE=k:=by show c.1.toNat=k;omega
 have aD:(cD c).rk=r:=by show c.2.2.1.toNat=r;omega
 have hm:cD c∈(aB cash cs).de:=u2 F;refine⟨⟨c.2.2.2,?_⟩,X.ok.qj hm,?_⟩
 ·rw[FX X.right,<-az,<-aD];exact Day.C9 (by rw[az,aD];exact cB)
 ·unfold Day.w kF;rw[az,aD];have:=SU X.right k r;rw[<-this]
  rfl
def aAY {l:List ao}(ak:∃fR,c7 cs k r=l++fR)(i:Nat):ec 54 (kj (aB cash cs) l i):=by
 obtain⟨fR,ak⟩:=ak;have fL:∀c∈l,c∈c7 cs k r:=λc H=>by rw[ak];simp[H]
 have aAZ:∀c∈fR,c∈c7 cs k r:=λc H=>by rw[ak];simp[H]
 have Y:fe (ig cs k r) (kj (aB cash cs) l i):=by
  unfold kj;refine fe.cI λx Q=>?_;obtain⟨c,H,rfl⟩:=ef.1 Q
  split
  ·exact (Tu X cB (fL c H)).1
  ·exact fe.zero _
 have au:∀m:List ao,(∀c∈m,c∈c7 cs k r)->0<=kj (aB cash cs) m i:=λm hm=>zm λx Q=>by
  obtain⟨c,H,rfl⟩:=ef.1 Q
  try dsimp only
  split
  ·exact (Tu X cB (hm c H)).2.1
  ·exact gg
 have F:kj (aB cash cs) l i<=1:=by
  have e:kj (aB cash cs) (c7 cs k r) i=kj (aB cash cs) l i+kj (aB cash cs) fR i:=by
   rw[ak];unfold kj;rw[kh,N6]
  have aD:kj (aB cash cs) (c7 cs k r) i<=cI ((c7 cs k r).map cD) (aB cash cs).w:=FP λx Q=>by
   obtain⟨c,H,rfl⟩:=ef.1 Q;have:=(Tu X cB H).2.1
   split
   ·exact gg
   ·exact this
  have aa:=(gN.1 X.right).2.2.2;rw[aba λc H=>⟨(aa c H).1,(aa c H).2.2.2.2.1⟩] at aD
  have bX:cI (cs.map cD) (λc=>if c.aE=k/\c.rk=r then (aB cash cs).w c else 0)=1:=by
   have I:k<(aB cash cs).n:=by
    obtain⟨c,H,aF⟩:=NH cB
    by_cases hE:c.aE=k/\c.rk=r
    ·rw[<-hE.1];exact X.ok.aE c H
    ·rw[ae hE] at aF;grind
   have:=X.ok.NL (λj=>j=k) (λ_=>r) (λj ag=>by subst ag;exact cB) λ_=>1;rw[zl I (λj _ ag=>by rw[ae ag]),ab rfl] at this;refine (xT λc _=>?_).trans this
   by_cases H:c.aE=k/\c.rk=r
   ·rw[ab H,ab H,Rat.mul_one]
   ·rw[ae H,ae H]
  have:=au fR aAZ;grind
 have gi:0<ig cs k r:=by
  rw[<-FX X.right] at cB;exact_mod_cast cB
 exact (Y.sz gi (X.FY k r) (au l fL) (e:=0) (by rw[show ((2^0:Nat):Rat)=1 from rfl];exact F)).mono (by omega)
end
end Go.Mini
namespace Go.Mini
open Go
def kl (l:List ao):O:=if l=[] then .nil else .M (.ay (l.map bW))
def aA0 {a b:List ao}(h:kl a=kl b):a=b:=by
 unfold kl at h
 by_cases aO:a=[]<;>by_cases ad:b=[]
 ·rw[aO,ad]
 ·rw[ab aO,ae ad] at h;cases h
 ·rw[ae aO,ab ad] at h;cases h
 ·rw[ae aO,ae ad] at h;exact map_inj u7 _ _ (Data.ay.inj (O.M.inj h))
def al7 (l:List ao):pb (kl l)=some (D l):=by
 unfold kl
 split
 ·rename_i h;rw[h];rfl
 ·simp[pb]
def al8 {l:List ao}{n:Nat}{c:ao}(h:l[n]?=some c):vm 4 n (kl l)=some (.M (.ptr (bW c))):=by
 unfold kl
 split
 ·rename_i ak;rw[ak] at h;cases h
 ·simp only[vm,bo,h,iY];rw[ab (n0 c)]
structure oy where
 cash:Int
 de:List (List ao)
 us:List Int
 f:Int
 p:Bool
def fF (x:oy):List O:=bJ x.cash::(x.de.map kl++(x.us.map bJ++[bJ x.f,n1 x.p]))
def oy.x2 (x:oy)(f:Int):oy:=⟨x.cash,x.de,x.us,f,x.p⟩
def oy.sp (x:oy)(p:Bool):oy:=⟨x.cash,x.de,x.us,x.f,p⟩
structure oy.df (x:oy):Prop where
 de:(D x.de)=10
 us:(D x.us)=11
def Dr {x:oy}(h:x.df):(fF x).length=24:=by
 simp[fF,h.de,h.us]
def aA1 {x y:oy}(Q:x.df)(al:y.df)(h:fF x=fF y):x=y:=by
 unfold fF at h;obtain⟨F,G⟩:=xx h;obtain⟨af,aS⟩:=HZ G (by rw[ar,ar,Q.de,al.de]);obtain⟨bt,b2⟩:=HZ aS (by rw[ar,ar,Q.us,al.us]);obtain⟨cb,cN⟩:=xx b2;obtain⟨jL,-⟩:=xx cN;obtain⟨gR,fS,kA,q7,al9⟩:=x;obtain⟨qR,nJ,tv,Gc,aO4⟩:=y;have aD:=map_inj (λa b h=>aA0 h) _ _ af;have bX:=Tl bt;simp only[bJ,n1,O.M.injEq,Data.int.injEq,Data.bool.injEq,true_and] at F cb jL;dsimp only at *;rw[F,aD,bX,cb,jL]
section
variable {x:oy} (h:x.df)
include h
omit h in
def aA2:fh 1 (fF x)=[bJ x.cash]:=rfl
omit h in
def ama {k:Nat}{l:List ao}(I:x.de[k]?=some l):fh 1 (ft (1+k) (fF x))=[kl l]:=by
 have aq:=(dK.1 I).1;unfold fF;rw[zO,w7,amb (by rw[ar];omega),FL (by rw[r0,ar];omega)];exact x0 (f:=kl) I
def Og {k:Nat}{z:Int}(I:x.us[k]?=some z):fh 1 (ft (11+k) (fF x))=[bJ z]:=by
 have aq:=(dK.1 I).1;unfold fF;rw[show 11+k=(10+k)+1 by omega,w7,oj,j0 (by rw[ar,h.de];omega),ar,h.de,ik,show 10+k-10=k by omega,amb (by rw[ar];omega),FL (by rw[r0,ar];omega)]
 exact x0 (f:=bJ) I
def Oh:fh 1 (ft 22 (fF x))=[bJ x.f]:=by
 unfold fF;rw[w7,oj,j0 (by rw[ar,h.de];omega),ar,h.de,ik,oj,j0 (by rw[ar,h.us];omega),ar,h.us]
 rfl
def amc:fh 1 (ft 23 (fF x))=[n1 x.p]:=by
 unfold fF;rw[w7,oj,j0 (by rw[ar,h.de];omega),ar,h.de,ik,oj,j0 (by rw[ar,h.us];omega),ar,h.us]
 rfl
def aA3 (f:Int):fh 22 (fF x)++[O.M (.int .i64 f)]++ft 23 (fF x)=fF (x.x2 f):=by
 have e:fF x=(bJ x.cash::(x.de.map kl++x.us.map bJ))++[bJ x.f,n1 x.p]:=by simp[fF]
 have l:(bJ x.cash::(x.de.map kl++x.us.map bJ)).length=22:=by simp[h.de,h.us]
 rw[e,FL (by omega),dt (by omega),oj,j0 (by omega),l];simp[fF,oy.x2,bJ]
def amd (p:Bool):fh 23 (fF x)++[O.M (.bool p)]++ft 24 (fF x)=fF (x.sp p):=by
 have e:fF x=(bJ x.cash::(x.de.map kl++(x.us.map bJ++[bJ x.f])))++[n1 x.p]:=by simp[fF]
 have l:(bJ x.cash::(x.de.map kl++(x.us.map bJ++[bJ x.f]))).length=23:=by simp[h.de,h.us]
 rw[e,FL (by omega),dt (by omega),oj,j0 (by omega),l];simp[fF,oy.sp,n1]
end
structure c0 where
 cash:List Int
 cs:List ao
 aP:List Int
 P:List Bool
 g:Nat
 gs:List Nat
def c0.gO (a:c0)(i:Nat):oy:=⟨a.cash.getD i 0,bA 10 λk=>c7 a.cs i k,bA 11 λk=>cK a.cs i (k:Nat),a.aP.getD i 10,a.P.getD i false⟩
def c0.x3 (a:c0)(i:Nat):(a.gO i).df:=⟨gY _ _,gY _ _⟩
structure c0.eF (a:c0) (m:Mem):Prop where
 can:a.cs=dm (D a.cash) a.cs
 aP:(D a.aP)=D a.cash
 pl:(D a.P)=D a.cash
 Tv:(D a.gs)=D a.cash
 row:m 228023=some (a.g,bA (D a.cash) λi => .ptr (228500+i) (a.gs.getD i 0) 0)
 dr:∀i,i<(D a.cash)->m (228500+i)=some (a.gs.getD i 0,fF (a.gO i))
def Oi {α:Type}{d:α}{n:Nat}{a b:List α}(aO:(D a)=n)(ad:(D b)=n)(h:∀i,i<n->a.getD i d=b.getD i d):a=b:=by
 apply pY;intro i;rcases iD i n with J|J
 ·have:=h i J;rw[ei,ei,bn (by omega),bn (by omega)] at this;rw[bn (by omega),bn (by omega)];exact congrArg some this
 ·rw[mB (by omega),mB (by omega)]
def ame {α:Type}{n:Nat}{p q:Nat->α}(h:bA n p=bA n q):∀i,i<n->p i=q i:=λi J=>by
 have F:=jh p J;rw[h,jh q J] at F;exact (mD F).symm
def c0.uniq {a b:c0}{m:Mem}(h:a.eF m)(cj:b.eF m):a=b:=by
 obtain⟨cH,cY,ep,fi,o2,tu⟩:=a;obtain⟨c6,eB,jA,lT,aAu,alD⟩:=b;obtain⟨aG,c2,c3,c4,Oj,Ok⟩:=h;obtain⟨d1,d2,d3,d4,d5,d6⟩:=cj;dsimp only at *;rw[Oj,cl,e2] at d5;obtain⟨rfl,fo⟩:=d5
 have aH:(D cH)=D c6:=by
  have:=congrArg D fo;rwa [gY,gY] at this
 rw[<-aH] at fo d1 d2 d3 d4 d6
 have a8:tu=alD:=Oi (d:=0) c4 d4 λi J=>by
  have:=ame fo i J;rw[O.ptr.injEq] at this;exact this.2.1
 subst a8
 have ad:∀i,i<(D cH)->c0.gO ⟨cH,cY,ep,fi,o2,tu⟩ i=c0.gO ⟨c6,eB,jA,lT,o2,tu⟩ i:=λi J=>by
  have F:=Ok i J;rw[d6 i J,cl,e2] at F;exact (aA1 (c0.x3 _ _) (c0.x3 _ _) F.2).symm
 simp only[c0.gO,oy.mk.injEq] at ad;have az:cH=c6:=Oi (d:=0) rfl aH.symm λi J=>(ad i J).1;subst az
 have aD:cY=eB:=by
  rw[aG,d1];exact aln λi J k I=>ame (ad i J).2.1 k I
 have bX:ep=jA:=Oi (d:=10) c2 d2 λi J=>(ad i J).2.2.2.1;have dE:fi=lT:=Oi (d:=false) c3 d3 λi J=>(ad i J).2.2.2.2;rw[aD,bX,dE]
def c0.eF.aE {a:c0}{mem m:Mem}{n:Nat}(h:a.eF mem)(aK:dA n mem m)(aH:n≠228)(bt:(D a.cash)<=6):a.eF m :=
 ⟨h.can,h.aP,h.pl,h.Tv,by rw[aK 228023 (by omega)];exact h.row,λi J=>by rw[aK (228500+i) (by omega)];exact h.dr i J⟩
def amf:bu:=bT 6 1 [.t 2] (R [cd 2 false] (R [E 3 0,dp 4 L2 3,e4 5 4,E 2 5] .ret))
def amg:bu:=bT 9 1 [.t 2] (R [cd 2 false] (R [E 3 0,a5 4 .geq 3 0,E 5 4,dv 6 5 0,hG 7 5 .leq 6 1000000000000000,e9 8 5 7,E 2 8] .ret))
def amh:bu:=bT 42 2 [.t 3] (R [db 2 252002 0,cd 3 false] (R [a0 4 0 2,aJ 5 1 4,a5 6 .lss 5 0,E 7 6,fg 8 7 0 2,ew 9 7 1 8,ew 10 7 1 1,ln 11 7 10,p3 12 7 .geq 9 11,c5 13 7 12,E 14 13,fg 15 14 1 2,ew 16 14 1 15,fH 17 14 (.bin .lss (.t 16) (.c (.M (.int .i64 (-1))))),c5 18 14 17,E 19 18,fg 20 19 1 2,ew 21 19 1 20,ew 22 19 1 1,ln 23 19 22,p3 24 19 .geq 21 23,c5 25 19 24,E 26 25,fg 27 26 2 2,ew 28 26 1 27,gu 29 26 .lss 28 0,c5 30 26 29,E 31 30,fg 32 31 2 2,ew 33 31 1 32,gu 34 31 .geq 33 10,c5 35 31 34,E 36 35,fg 37 36 3 2,ew 38 36 1 37,fH 39 36 (.call L2 [.t 38]),jb 40 36 39,c5 41 36 40,E 3 41] .ret))
abbrev zv:Int×Int×Int->List Data:=λ(x,a,b)=>[.int .i64 x,.int .i64 a,.int .i64 b]
def Ol:=bU zv λ(x,a,b)=>some (.same (.bool (decide (a<=x)&&decide (x<=b))))
def Tw:∀a b,zv a=zv b->a=b:=by
  rintro⟨gR,cH,c6⟩ ⟨fS,cY,eB⟩ h;simp only[bh,Data.int.injEq,Data.agg.injEq,Data.ay.injEq,Data.bool.injEq,Data.str.injEq,Data.ptr.injEq,Data.cP.injEq,e2,true_and,and_true] at h ⊢
  first|exact h|simpa [xr,and_assoc] using h|grind
@[go_sem] def aO5 (x a b):=pk Ol rfl Tw (x,a,b) rfl
def aA4 (T:ba):WF T ahA Ol:=by
 refine cf λ(x,a,b)=>⟨rfl,b7 ?_⟩;simp only[ahA,zv,b1];rcases aG:decide (a<=x)
 ·have c2:decide (x>=a)=false:=aG;refine ai ?_;repeat' (intro h<;>simp only[h,go_sem,go_sem_proc,aG,c2,fC]<;>try refine ah ?_ ?_)
 ·have c2:decide (x>=a)=true:=aG;refine ai ?_;repeat' (intro h<;>simp only[h,go_sem,go_sem_proc,aG,c2,g4]<;>try refine ah ?_ ?_)
abbrev Tx:Int->List Data:=λ(x:Int)=>[.int .i64 x,.ptr [.fn Cg []]]
def Ty:=bU Tx λ(x:Int)=>some (.same (.bool (!gW x)))
def aA5:∀a b,Tx a=Tx b->a=b:=by
  intro gR fS h;simp only[bh,Data.int.injEq,Data.agg.injEq,Data.ay.injEq,Data.bool.injEq,Data.str.injEq,Data.ptr.injEq,Data.cP.injEq,e2,true_and,and_true] at h ⊢
  first|exact h|simpa [xr,and_assoc] using h|grind
@[go_sem] def aA6 (x):=pk Ty rfl aA5 x rfl
def aA7 (T:ba)(abl:T Cg=aQ Ol):WF T ahB Ty:=by
 refine cf λx=>⟨rfl,b7 ?_⟩;simp only[ahB,Tx,b1];unfold gW;refine ai ?_;repeat' (intro h<;>simp only[h,go_sem,go_sem_proc,abl]<;>try refine ah ?_ ?_)
abbrev Tz:Int×Int×Int×Int×Int->List Data:=λ(a,b,k,x,n)=>[.agg [.int .i64 a,.int .i64 b,.int .i64 k,.int .i64 x],.ptr [.fn Cg []],.ptr [.int .i64 n]]
def TA:=bU Tz λ(a,b,k,x,n)=>cp (0<=n/\n<=1000000) (.same (.bool (!iw n (a,b,k,x))))
def aA8:∀a b,Tz a=Tz b->a=b:=by
  rintro⟨cH,c6,bS,gR,h7⟩ ⟨cY,eB,cM,fS,iZ⟩ h;simp only[bh,Data.int.injEq,Data.agg.injEq,Data.ay.injEq,Data.bool.injEq,Data.str.injEq,Data.ptr.injEq,Data.cP.injEq,e2,true_and,and_true] at h ⊢
  first|exact h|simpa [xr,and_assoc] using h|grind
@[go_sem] def aA9 (a b k x n):=cz TA rfl aA8 (a,b,k,x,n) rfl
def aBa (T:ba)(abl:T Cg=aQ Ol):WF T ahC TA:=by
 refine cf λ(a,b,k,x,n)=>cG λH=>⟨rfl,b7 ?_⟩;simp only[ahC,Tz,b1];have w:IntKind.i64.wrap (n-1)=n-1:=by rw[ev _]
 have e:iw n (a,b,k,x)=((decide (0<=a)&&decide (a<=n-1))&&((decide (-1<=b)&&decide (b<=n-1))&&((decide (0<=k)&&decide (k<=9))&&(decide (0<=x)&&decide (x<=1000000000000000))))):=by
  rw[kd,F8];simp only[eQ,decide_eq_true_eq];omega
 rw[e];rcases aG:(decide (0<=a)&&decide (a<=n-1))<;>rcases c2:(decide (-1<=b)&&decide (b<=n-1))<;>rcases c3:(decide (0<=k)&&decide (k<=9))<;>rcases c4:(decide (0<=x)&&decide (x<=1000000000000000))
 all_goals
      refine ai ?_;repeat' (intro h<;>simp only[h,go_sem,go_sem_proc,abl,w,aG,c2,c3,c4]<;>try refine ah ?_ ?_)
structure c0.JD (a:c0):Prop where
 zw:fv a.cash a.cs
 g3:∀x∈a.aP,0<=x/\x<=10
def c0.Om {a:c0}{m:Mem}(h:a.eF m)(aK:a.JD){i:Nat}(J:i<D a.cash):a.aP.getD i 10=(bG a.aP i:Int)/\bG a.aP i<=10:=by
 have ak:=h.aP
 have:a.aP.getD i 10∈a.aP:=by
  rw[ei,bn (by omega)];exact nC _
 have:=aK.g3 _ this;unfold bG;omega
structure abm (x:c0×Nat) (mem:Mem):Prop where
 at_:x.1.eF mem
 no:ow 255 mem
 JE:x.1.JD
 lt:x.2<x.1.cash.length
 f10:bG x.1.aP x.2<10
 S:0<(aB x.1.cash x.1.cs).S x.2 (bG x.1.aP x.2)
def TB (x:c0×Nat):Data:=.cP [.ay ((dz x.1.cash.length λi=>(aB x.1.cash x.1.cs).W (bG x.1.aP) x.2 i).map aU),.bool true]
def TC:List O->Mem->Option Data:=Bf (λ(x:c0×Nat) args mem=>args=[.ptr (228500+x.2) (x.1.gs.getD x.2 0) 0,.M (.int .i64 x.1.cash.length)]/\abm x mem) TB
def aBb (a:c0)(k:Nat)(mem:Mem)(h:abm (a,k) mem):TC [.ptr (228500+k) (a.gs.getD k 0) 0,.M (.int .i64 (D a.cash))] mem=some (TB (a,k)):=by
 refine Od (a:=(a,k)) ?_ ⟨rfl,h⟩;rintro⟨a,i⟩ ⟨b,j⟩ args mem ⟨az,aD⟩ ⟨bX,dE⟩;obtain rfl:=c0.uniq aD.at_ dE.at_;rw[az] at bX;simp only[bh,O.ptr.injEq,O.M.injEq,Data.int.injEq,true_and,and_true] at bX;have F:228500+i=228500+j:=bX.1;have:i=j:=by omega
 rw[this]
def aBc (N:Nat)(aL:bF):(dH N (aU aL)).flatten.map O.M=a6 aU (dH N aL):=by
 unfold a6;rw[NB,List.map_flatten,NB]
def aBd (T:ba)(kG:T om=aQ ss)(aBe:T Xq=aQ SB)(su:T Ah=aQ CG)(jd:T vG=aQ v9)(a:c0)(k:Nat)(mem:Mem)(h:abm (a,k) mem):
  wp T RN.body (me RN.res λm mem'=>b5 6 emp m=some (TB (a,k))/\dA 255 mem mem') ⟨iC [.ptr (228500+k) (a.gs.getD k 0) 0,.M (.int .i64 (D a.cash))],mem⟩:=by
 obtain⟨bH,fp,qn,I,x4,cB⟩:=h;dsimp only at *;obtain⟨X,g3⟩:=qn;have aH:=X.k3;have s4:=bH.dr k I;have uV:=(c0.Om bH ⟨X,g3⟩ I).1;have cT:=a.x3 k;have hlen:=Dr cT;have o3:=Oh cT;rw[show (a.gO k).f=(bG a.aP k:Int) from uV] at o3;have jD:=ama (x:=a.gO k) (k:=bG a.aP k) (l:=c7 a.cs k (bG a.aP k)) (jh _ x4);have Bj:=Og cT (k:=bG a.aP k) (z:=cK a.cs k (bG a.aP k:Nat)) (jh _ (by omega));have aBf:=Og cT (k:=bG a.aP k+1) (z:=cK a.cs k (bG a.aP k+1:Nat)) (jh _ (by omega));have Y9:∀j,228500+k≠255000+j:=λj=>by omega
 generalize fF (a.gO k)=DC at *;have abn:=Dn 0 Of;have aV:dz (D a.cash) (kj (aB a.cash a.cs) [])=dH (D a.cash) (ax ((0:Int):Rat)):=(N1 C7 λj ag=>by rw[alM,ab ag,aAW];rfl).symm;generalize ha:c7 a.cs k (bG a.aP k)=L at *;refine pf ?_;simp only[RN];have va:(228500+k)/1000≠255:=by omega
 have qb:mem 255017=none:=fp 255017 (by decide);have fL:=λc (H:c∈L)=>F6.1 (ha ▸ H:c∈c7 a.cs k (bG a.aP k));have ami:=λc (H:c∈L)=>(Tu X cB (ha ▸ H:c∈c7 a.cs k (bG a.aP k))).2.2;have amj:=λl i (ak:∃fR,L=l++fR)=>aAY X cB (l:=l) (by rw[ha];exact ak) i;have amk:=λi=>aAX X.right (bG a.aP) k i;rw[ha] at amk
 have aO6:(D L)<=12:=by
  have F:=nZ (λc:ao=>c.1==(k:Int)&&c.2.2.1==(bG a.aP k:Int)) a.cs;have G:=X.ts;rw[<-ha];unfold c7;omega
 have aO7:(0:Int)<kF a.cs k (bG a.aP k):=by
  have F:=SU X.right k (bG a.aP k);rw[<-F] at cB;have:(0:Int)<cK a.cs k (bG a.aP k+1:Nat)-cK a.cs k (bG a.aP k):=by exact_mod_cast cB
  exact this
 have aBg:kF a.cs k (bG a.aP k)=cK a.cs k (bG a.aP k+1:Nat)-cK a.cs k (bG a.aP k:Nat):=rfl;have Zn:=X.upto k (bG a.aP k+1:Nat);have Fh:=X.upto k (bG a.aP k:Nat);have aBh:=(gN.1 X.right).2.2.2;generalize dM:228500+k=ed at *;have o4:∀j,ed≠255000+j:=λj=>by omega
 have TD:(ed=255009)=False:=eq_false (o4 9);have aBi:(ed=255010)=False:=eq_false (o4 10);have aBj:(ed=255012)=False:=eq_false (o4 12);have aml:(ed=255017)=False:=eq_false (o4 17);have JF:(ed==255009)=false:=beq_eq_false_iff_ne.2 (o4 9);have aBk:(ed==255010)=false:=beq_eq_false_iff_ne.2 (o4 10);have aBl:(ed==255012)=false:=beq_eq_false_iff_ne.2 (o4 12);have aBm:(ed==255017)=false:=beq_eq_false_iff_ne.2 (o4 17);have d9:(255009==ed)=false:=beq_eq_false_iff_ne.2 (o4 9).symm;have d10:(255010==ed)=false:=beq_eq_false_iff_ne.2 (o4 10).symm;have d12:(255012==ed)=false:=beq_eq_false_iff_ne.2 (o4 12).symm;have d17:(255017==ed)=false:=beq_eq_false_iff_ne.2 (o4 17).symm;have eH:bG a.aP k+1<11:=by omega
 have aI:bG a.aP k<11:=by omega
 have cS:(1+bG a.aP k+1<=24)=True:=eq_true (by omega);have dk:(11+bG a.aP k+1<=24)=True:=eq_true (by omega);have aBn:(11+(bG a.aP k+1)+1<=24)=True:=eq_true (by omega);have wf:IntKind.i64.wrap ((bG a.aP k:Int)+1)=((bG a.aP k+1:Nat):Int):=by rw[ev _];omega
 have lh:=s4;generalize aO8:cK a.cs k (bG a.aP k+1:Nat)=amm at *;generalize aO9:cK a.cs k (bG a.aP k:Nat)=aBo at *;generalize aPa:bG a.aP k=F0 at *;generalize On:ax ((0:Int):Rat)=Z at *;obtain⟨⟨fA,hl⟩,⟨pM,zx⟩⟩:=Z;have abo:=ayB fA hl pM zx (D a.cash) (by omega);have iW:=aBc (D a.cash) ((fA,hl),(pM,zx));simp only[aU] at abn abo iW;have ee:=al7 L;simp only[go_sem,go_sem_proc] at ee;simp only[go_sem,go_sem_proc,kG,abn,aBe,abo,iW,s4,hlen,x4,o3,jD,aml,cS,qb,bJ,dy,ee,C7]
 refine da [0,6,26,27] [] (λ(j:Nat) tm m=>j<=D L/\tm 28=.M (.int .i64 j)/\tm 7=.M (.bool true)/\m 255017=some (0,a6 aU (dz (D a.cash) (kj (aB a.cash a.cs) (L.take j))))/\dA 255 mem m) (λj=>D L-j) 0 (by
  refine⟨by omega,rfl,rfl,?_,(dA.refl _ _).eN (by decide)⟩
  rw[l3,aV];simp[a4,qb,gH]) ?_
 intro vs ms aW aR;simp only[go_sem,go_sem_proc] at aW aR;subst aW aR;clear abn abo iW s4;rintro j tm m I-⟨ag,wB,cg,Oo,bw⟩;simp only[go_sem,go_sem_proc,bh] at I;obtain⟨bZ,bP,km,lz⟩:=I;have ad:=(bw ed va).trans lh;rcases dq (j<D L) with aq|ca
 ·have d1:decide ((j:Int)<(D L:Int))=true:=cX;have ct:=e0 (i:=j) (by omega);obtain⟨⟨aG,c2,c3,c4⟩,Q⟩:∃c,L[j]?=some c:=⟨_,bn aq⟩;have CY:=dZ Q;have mC:=aBh _ (fL _ CY).1;dsimp only at mC;have oX:=al8 Q;simp only[go_sem,go_sem_proc] at oX;have gx:L.take (j+1)=L.take j++[(aG,c2,c3,c4)]:=by rw[hF,Q];rfl
  rcases q:decide (c2<0)
  ·have zW:0<=c2:=by have:=of_decide_eq_false q;omega
   obtain⟨t,rfl⟩:∃t:Nat,c2=(t:Int):=⟨c2.toNat,by omega⟩
   have hw:=ami _ CY;dsimp only at hw;have lF:=aAv (p:=c4) (q:=kF a.cs k F0) (rn (by omega) (by omega)) (rn (by omega) (by omega)) (by omega);rw[<-hw] at lF;have abp:=ahe c4 (kF a.cs k F0) ⟨rn (by omega) (by omega),rn (by omega) (by omega)⟩;rw[lF] at abp;have fA:=amj (L.take j) t ⟨L.drop j,(ui j L).symm⟩;have hl:=aAw X (fL _ CY).1;have kV:=alu (iV fA (by omega)) (iV hl (by omega)) (Df fA hl (by omega))
   have Bk:dz (D a.cash) (kj (aB a.cash a.cs) (L.take (j+1)))=(dz (D a.cash) (kj (aB a.cash a.cs) (L.take j))).set t (ax (kj (aB a.cash a.cs) (L.take j) t+(aB a.cash a.cs).w (cD (aG,(t:Int),c3,c4)))):=by
    rw[aAx];refine Jv λi _=>?_;rw[gx,al6]
    by_cases J:i=t
    ·rw[ab J,ab (by dsimp only;omega),J]
    ·rw[ae J,ae (by dsimp only;omega),rf]
   have aBp:IntKind.i64.wrap (amm-aBo)=kF a.cs k F0:=by rw[wrap64 _ (by omega) (by omega),aBg]
   have Zy:(dz (D a.cash) (kj (aB a.cash a.cs) (L.take j))).length=D a.cash:=rm _ _;have aBq:=wy (N:=D a.cash) (kj (aB a.cash a.cs) (L.take j)) (k:=t) (by omega);clear fA hl amj ami lF hw;generalize ax (kj (aB a.cash a.cs) (L.take j) t+(aB a.cash a.cs).w (cD (aG,(t:Int),c3,c4)))=F1 at *;generalize ax (kj (aB a.cash a.cs) (L.take j) t)=F2 at *;generalize ax ((aB a.cash a.cs).w (cD (aG,(t:Int),c3,c4)))=F3 at *;generalize dz (D a.cash) (kj (aB a.cash a.cs) (L.take j))=bK at *;obtain⟨⟨cH,cY⟩,⟨ep,fi⟩⟩:=F1;obtain⟨⟨f1,f2⟩,⟨f3,f4⟩⟩:=F2;obtain⟨⟨cr,b6⟩,⟨ga,iQ⟩⟩:=F3;have t1:=I3 aBq;have t2:=I2 (l:=bK) (k:=t) (by omega);have t3:=ZG (l:=bK) (k:=t) (by omega) cH cY ep fi;have WN:t<D a.cash:=by omega
   simp only[aU,gf] at abp kV;refine ai ?_;repeat' (intro (aw:_=_)<;>simp only[aw,go_sem,go_sem_proc,su,jd,bZ,bP,cg,km,lz,wB,ad,Oo,oX,hlen,o3,Bj,aBf,wf,aBp,d1,ct,q,abp,kV,t1,t2,t3,WN,x4,eH,aI,cS,dk,aBn,TD,aBi,aBj,aml,JF,aBk,aBl,aBm,d9,d10,d12,d17,bW,bJ,dy,beq_self_eq_true]<;>try refine ah ?_ ?_)
   refine⟨j+1,by omega,by omega,rfl,by rw[Bk],by repeat first|exact bw|refine dA.eN ?_ (by decide)⟩
  ·have zW:c2<0:=of_decide_eq_true q
   have Bk:dz (D a.cash) (kj (aB a.cash a.cs) (L.take (j+1)))=dz (D a.cash) (kj (aB a.cash a.cs) (L.take j)):=Jv λi _=>by
    rw[gx,al6,ae (by dsimp only;omega),rf]
   refine ai ?_;repeat' (intro (aw:_=_)<;>simp only[aw,go_sem,go_sem_proc,bZ,bP,cg,km,lz,wB,ad,Oo,oX,d1,ct,q,bW,dy]<;>try refine ah ?_ ?_)
   refine⟨j+1,by omega,by omega,rfl,by rw[Bk],by repeat first|exact bw|refine dA.eN ?_ (by decide)⟩
 ·have d1:decide ((j:Int)<(D L:Int))=false:=cA;rw[dt (by omega)] at Oo;have Bk:dz (D a.cash) (kj (aB a.cash a.cs) L)=dz (D a.cash) λi=>(aB a.cash a.cs).W (bG a.aP) k i:=Jv λi _=>amk i;rw[Bk] at Oo;have jH:(dz (D a.cash) λi=>(aB a.cash a.cs).W (bG a.aP) k i).length=D a.cash:=rm _ _;have nx:=λ(K:bc->Prop) (st:bc)=>oQ (K:=K) (st:=st) mY 6 255017 0 (dz (D a.cash) λi=>(aB a.cash a.cs).W (bG a.aP) k i);rw[jH] at nx;refine ai ?_;repeat' (intro (aw:_=_)<;>simp only[aw,go_sem,go_sem_proc,bZ,bP,cg,km,lz,wB,ad,Oo,d1,nx]<;>try refine ah ?_ ?_)
  exact⟨_,rfl,rfl,by repeat first|exact bw|refine dA.eN ?_ (by decide)|refine dA.kill ?_ (by decide)⟩
def amn (N:Nat)(x:Nat->Rat):dz (N+1) x=dz N x++[ax (x N)]:=by
 unfold dz;rw[m5,kh,kh];rfl
def wC {l:List O}{k:Nat}{y:O}(h:l[k]?=some y):fh 1 (ft k l)=[y]:=by
 have:=x0 (f:=id) h;rwa [List.map_id] at this
def tw (n:Nat)(W:Nat->Nat->Rat)(k:Nat):List Data:=[.ay ((dz n (W k)).map aU)]
def aBr (T:ba)(kG:T om=aQ ss)(m2:T vH=aQ xD){K:eT->bc->Prop}{kk:List gG}(ez:Mem)(n:Nat)(aH:n<=60)(p:List Nat)(aF:(D p)<=60)(W:Nat->Nat->Rat)(r i:Nat)(J:i<n)(sX:∀k,k<(D p)->ec 54 (W (p.getD k 0) i))(v0 v1 v10 v20 amo amp:O)(bC JG:Nat)(aG c2 c3 c4:O)(amq:Option (Nat×List O))(tm:Nat->O)(m:Mem)
  (bZ:tm 0=v0) (az:tm 1=v1) (aD:tm 2=.M (.ay (p.map iS))) (bX:tm 3=.M (.ay (p.map (tw n W)))) (eJ:tm 10=v10) (jU:tm 11=.M (.int .i64 r)) (fU:tm 12=.M (.int .i64 i)) (gL:tm 13=.ptr 256013 bC 0) (mm:tm 20=v20) (pw:tm 21=amo) (sf:tm 22=amp) (n4:tm 50=.M (.int .i64 (D p))) (n5:tm 51=.M (.int .i64 0)) (JH:m 256013=some (bC,[.ref 256076 JG 4 0 0,aG,c2,c3,c4])) (JI:m 256076=some (JG,[])) (Gd:m 256082=amq) (bw:dA 256 ez m)
  (dM:∀tm' m' amr,tm' 0=v0->tm' 1=v1->tm' 2=.M (.ay (p.map iS))->tm' 3=.M (.ay (p.map (tw n W)))->tm' 10=v10->tm' 13=.ptr 256013 bC 0->tm' 20=v20->tm' 21=amo->tm' 22=amp->m' 256013=some (bC,[.ref 256076 amr 4 0 (D p),aG,c2,c3,c4])->m' 256076=some (amr,a6 aU (dz (D p) λk=>(if r=k then 1 else 0)-W (p.getD k 0) i))->m' 256082=amq->dA 256 ez m'->cw T K kk (.exit 2) ⟨tm',m'⟩) :
  wp T (IB.body.sub [1,1,0,1,0,0,0,1,1,0,0,1,1,0,1,0]) (cw T K kk) ⟨tm,m⟩:=by
 simp only[IB,eh.sub];refine da [0,1,2,3,10,11,12,13,20,21,22,50] [256082] (λ((k,g):Nat×Nat) tm m=>k<=D p/\tm 51=.M (.int .i64 k)/\m 256013=some (bC,[.ref 256076 g 4 0 k,aG,c2,c3,c4])/\m 256076=some (g,a6 aU (dz k λk=>(if r=k then 1 else 0)-W (p.getD k 0) i))/\dA 256 ez m) (λ(k,_)=>D p-k) (0,JG) (by refine⟨by omega,n5,JH,JI,bw⟩) ?_;intro vs ms aW aR;simp only[go_sem,go_sem_proc,bZ,az,aD,bX,eJ,jU,fU,gL,mm,pw,sf,n4,Gd] at aW aR;subst aW aR;clear bZ az aD bX eJ jU fU gL mm pw sf n4 n5 JH JI Gd bw tm m;rintro⟨k,g⟩ tm m I hm ⟨Jh,n5,JH,JI,bw⟩;simp only[go_sem,go_sem_proc,bh] at I hm;obtain⟨bZ,az,aD,bX,eJ,jU,fU,gL,mm,pw,sf,n4⟩:=I;rcases dq (k<D p) with aq|ca
 ·have d1:decide ((k:Int)<(D p:Int))=true:=cX;have ct:=e0 (i:=k) (by omega);obtain⟨wD,Q⟩:∃c,p[k]?=some c:=⟨_,bn aq⟩;have k0:p.getD k 0=wD:=by rw[ei,Q];rfl
  have Oq:=sX k aq;have aW:=amn k λk=>(if r=k then 1 else 0)-W (p.getD k 0) i;have b0:(dz k λk=>(if r=k then 1 else 0)-W (p.getD k 0) i).length=k:=rm _ _;have dN:=λ(aL:bF) cs kt=>l8 mY Fq 256076 g 64 (dz k λk=>(if r=k then 1 else 0)-W (p.getD k 0) i) aL (cs:=cs) kt (by omega) (by omega);simp only[b0] at dN;rw[k0] at Oq aW;have a8:=wy (W wD) J;generalize dz k (λk=>(if r=k then 1 else 0)-W (p.getD k 0) i)=V at *;generalize vZ:dz (k+1) (λk=>(if r=k then 1 else 0)-W (p.getD k 0) i)=V2 at *;clear dM sX;have key:∀o:Int,(o=0\/o=1)->(if r=k then (1:Rat) else 0)=(o:Rat)->True:=λ_ _ _=>trivial;rcases q:((k:Int)==(r:Int))
  ·have gy:¬ r=k:=by have:=ne_of_beq_false q;omega
   have hw:=Dn 0 Of;have X:=Tk (rq Of) (iV Oq (by omega)) (Df (Bh (z:=0) (b:=1) (by decide)) (Dg Oq) (by omega));rw[ae gy,show (0:Rat)=((0:Int):Rat) from rfl] at aW;generalize ax ((0:Int):Rat)=Z at *;generalize ax (W wD i)=eS at *;generalize ax (((0:Int):Rat)-W wD i)=cU at *;obtain⟨⟨fA,hl⟩,⟨pM,zx⟩⟩:=Z;obtain⟨⟨qR,nJ⟩,⟨tv,Gc⟩⟩:=eS;obtain⟨⟨gR,fS⟩,⟨kA,q7⟩⟩:=cU;have tx:=dN ((gR,fS),(kA,q7)) _ rfl;rw[<-aW] at tx;simp only[aU,eu,cR] at tx hw X;refine ai ?_;repeat' (intro h<;>simp only[h,go_sem,go_sem_proc,kG,m2,bZ,az,aD,bX,eJ,jU,fU,gL,mm,pw,sf,n4,n5,JH,JI,hm,d1,ct,q,Q,tw,a8,hw,X,tx,aU,ar,bo,bne,beq_self_eq_true,cF,we]<;>try refine ah ?_ ?_)
   exact⟨(k+1,g+1),by dsimp only;omega,by dsimp only;omega,rfl,rfl,by rw[<-vZ],by repeat first|exact bw|refine dA.eN ?_ (by decide)⟩
  ·have gy:r=k:=by have:=eq_of_beq q;omega
   have hw:=Dn 1 To;have X:=Tk (rq To) (iV Oq (by omega)) (Df (Bh (z:=1) (b:=1) (by decide)) (Dg Oq) (by omega));rw[ab gy,show (1:Rat)=((1:Int):Rat) from rfl] at aW;generalize ax ((1:Int):Rat)=Z at *;generalize ax (W wD i)=eS at *;generalize ax (((1:Int):Rat)-W wD i)=cU at *;obtain⟨⟨fA,hl⟩,⟨pM,zx⟩⟩:=Z;obtain⟨⟨qR,nJ⟩,⟨tv,Gc⟩⟩:=eS;obtain⟨⟨gR,fS⟩,⟨kA,q7⟩⟩:=cU;have tx:=dN ((gR,fS),(kA,q7)) _ rfl;rw[<-aW] at tx;simp only[aU,eu,cR] at tx hw X;refine ai ?_;repeat' (intro h<;>simp only[h,go_sem,go_sem_proc,kG,m2,bZ,az,aD,bX,eJ,jU,fU,gL,mm,pw,sf,n4,n5,JH,JI,hm,d1,ct,q,Q,tw,a8,hw,X,tx,aU,ar,bo,bne,beq_self_eq_true,cF,we]<;>try refine ah ?_ ?_)
   exact⟨(k+1,g+1),by dsimp only;omega,by dsimp only;omega,rfl,rfl,by rw[<-vZ],by repeat first|exact bw|refine dA.eN ?_ (by decide)⟩
 ·have d1:decide ((k:Int)<(D p:Int))=false:=cA;obtain rfl:k=D p:=by omega
  refine ai ?_;repeat' (intro h<;>simp only[h,go_sem,go_sem_proc,bZ,az,aD,bX,eJ,jU,fU,gL,mm,pw,sf,n4,n5,d1]<;>try refine ah ?_ ?_)
  refine dM _ _ g ?_ ?_ ?_ ?_ ?_ ?_ ?_ ?_ ?_ JH JI hm bw<;>simp only[e8,dV,if_false,bZ,az,aD,bX,eJ,gL,mm,pw,sf]
structure abq (a:c0) (mem:Mem):Prop where
 at_:a.eF mem
 no:ow 256 mem
 JE:a.JD
 hd:tt (aB a.cash a.cs) (bG a.aP) (fw a.P)
def c0.p (a:c0):List Nat:=cO (fw a.P) (D a.cash)
def TE (a:c0):List O:=[.ref 228023 a.g 1 0 (D a.cash),.M (.ay ((bA (D a.cash) λi=>lv a.cash a.cs (bG a.aP) i).map aC)),.M (.ay (a.p.map iS)),.M (.ay (a.p.map (tw (D a.cash) λk i=>(aB a.cash a.cs).W (bG a.aP) k i)))]
def c0.xs (a:c0):List bF:=dz (D a.p) λk=>(aB a.cash a.cs).fc (bG a.aP) (fw a.P) (a.p.getD k 0)-(aB a.cash a.cs).U (a.p.getD k 0) (bG a.aP (a.p.getD k 0))
def TF (a:c0):Data:=.cP [.ay (a.xs.map aU),.bool true]
def TG:List O->Mem->Option Data:=Bf (λ(a:c0) args mem=>args=TE a/\abq a mem) TF
def aBs (a:c0)(mem:Mem)(h:abq a mem):TG (TE a) mem=some (TF a):=by
 refine Od (a:=a) ?_ ⟨rfl,h⟩;rintro a b args mem ⟨az,aD⟩ ⟨bX,dE⟩;rw[c0.uniq aD.at_ dE.at_]
def aBt (T:ba)(kG:T om=aQ ss)(m2:T vH=aQ xD)(aBu:T Xm=aQ Sx)(a:c0)(mem:Mem)(aO:abq a mem):
  wp T IB.body (me IB.res λm mem'=>b5 6 emp m=some (TF a)/\dA 256 mem mem') ⟨iC (TE a),mem⟩:=by
 obtain⟨bH,fp,qn,lU⟩:=aO;have uV:=λi=>c0.Om bH qn (i:=i);obtain⟨X,g3⟩:=qn;have aH:=X.k3;have mJ:=λk=>xZ (P:=fw a.P) (n:=D a.cash) (k:=k);have Tf:=az5 X lU;have Bl:=aa5 X lU.sm (cO (fw a.P) (D a.cash)) (λk I=>⟨(xZ I).2,(xZ I).1⟩) λi j J ag=>aa6 J ag;have aBv:=λk (I:fw a.P k) i=>(Te X lU I i).1
 have aPb:(cO (fw a.P) (D a.cash)).length<=6:=by
  unfold cO;exact eZ (nZ _ _) (by rw[uj];exact aH)
 have aBw:mem 256082=none:=fp 256082 (by decide);unfold TE TF c0.xs c0.p;generalize aF:cO (fw a.P) (D a.cash)=p at *;generalize dn:(aB a.cash a.cs).u6 (bG a.aP) p=A at *;generalize aBx:(bA (D a.cash) λi=>lv a.cash a.cs (bG a.aP) i).map aC=ams at *;have aBy:∀i,i<(D a.cash)->ams[i]?=some [.int .i64 (lv a.cash a.cs (bG a.aP) i)]:=λi J=>by rw[<-aBx,bo,jh _ J];rfl
 refine pf ?_;simp only[IB];simp only[go_sem,go_sem_proc,aBw,ar];refine da [0,1,2,3,20,21] [] (λ((r,g):Nat×Nat) tm m=>r<=D p/\tm 22=.M (.int .i64 r)/\tm 10=.ref 256082 g 5 0 r/\m 256082=some (g,a6 qd ((rowsOf (D p) A).take r))/\dA 256 mem m) (λ(r,_)=>D p-r) (0,0) (by refine⟨by omega,rfl,rfl,rfl,(dA.refl _ _).eN (by decide)⟩) ?_;intro vs ms aW aR;simp only[go_sem,go_sem_proc,ar] at aW aR;subst aW aR;rintro⟨r,g⟩ tm m I hm ⟨amt,sf,eJ,Gd,bw⟩;simp only[go_sem,go_sem_proc,bh] at I;obtain⟨bZ,az,aD,bX,mm,pw⟩:=I;rcases dq (r<D p) with aq|ca
 ·have d1:decide ((r:Int)<(D p:Int))=true:=cX;have ct:=e0 (i:=r) (by omega);obtain⟨i,Q⟩:∃c,p[r]?=some c:=⟨_,bn aq⟩;have FW:p.getD r 0=i:=by rw[ei,Q];rfl
  obtain⟨J,aBz⟩:=mJ r aq;rw[FW] at J aBz;obtain⟨qn,x4⟩:=uV i J;have fo:=(bw.at 228023 (by omega)).trans bH.row;have fQ:=(bw.at (228500+i) (by omega)).trans (bH.dr i J);have kN:=wC (jh (λi=>O.ptr (228500+i) (a.gs.getD i 0) 0) J);have b0:(bA (D a.cash) λi=>O.ptr (228500+i) (a.gs.getD i 0) 0).length=D a.cash:=gY _ _;have cT:=a.x3 i;have hlen:=Dr cT;have o3:=Oh cT;rw[show (a.gO i).f=(bG a.aP i:Int) from qn] at o3;have Bj:=Og cT (k:=bG a.aP i) (z:=cK a.cs i (bG a.aP i:Nat)) (jh _ (by omega));have c9:=aBy i J;have c6:=X.steady (bG a.aP) i;have eB:=X.upto i (bG a.aP i);have aBA:IntKind.i64.wrap (lv a.cash a.cs (bG a.aP) i-cK a.cs i (bG a.aP i:Nat))=lv a.cash a.cs (bG a.aP) i-cK a.cs i (bG a.aP i:Nat):=by rw[ev _]
  have hw:=Dn (lv a.cash a.cs (bG a.aP) i-cK a.cs i (bG a.aP i:Nat)) (rn (by omega) (by omega))
  have aBB:A r (D p)=((lv a.cash a.cs (bG a.aP) i-cK a.cs i (bG a.aP i:Nat):Int):Rat):=by
   rw[<-dn];unfold Day.u6;rw[ae (by omega),FW,<-N3 X.right,<-u0 X.right,zp]
  have aBC:∀k,k<(D p)->A r k=(if r=k then 1 else 0)-(aB a.cash a.cs).W (bG a.aP) (p.getD k 0) i:=λk I=>by
   rw[<-dn];unfold Day.u6;rw[ab I,FW]
  have eH:i+1<=D a.cash:=by omega
  have aI:bG a.aP i<11:=by omega
  have cS:(11+bG a.aP i+1<=24)=True:=eq_true (by omega);rw[<-aBB] at hw;generalize va:228500+i=ed at *;generalize fF (a.gO i)=DC at *;generalize (bA (D a.cash) λi=>O.ptr (228500+i) (a.gs.getD i 0) 0)=x5 at *;generalize lv a.cash a.cs (bG a.aP) i=S1 at *;generalize cK a.cs i (bG a.aP i:Nat)=amm at *;generalize bG a.aP i=F0 at *;generalize g7:ax (A r (D p))=eS at *;obtain⟨⟨qR,nJ⟩,⟨tv,Gc⟩⟩:=eS;simp only[aU] at hw;have aBD:(ed==256013)=false:=beq_eq_false_iff_ne.2 (by omega);have aBE:(256013==ed)=false:=beq_eq_false_iff_ne.2 (by omega);have aBF:(ed=256013)=False:=eq_false (by omega);simp only[go_sem,go_sem_proc,kG,bZ,az,aD,bX,eJ,mm,pw,sf,fo,fQ,kN,b0,hlen,o3,Bj,c9,aBA,hw,Q,d1,ct,J,eH,aI,cS,aBD,aBE,aBF,bJ,iS,dy,ar,bo];refine aAr (kc:=256013) (g:=gH (m 256013)) (off:=0) (cs:=[.nil,.M (.int .i64 qR),.M (.ay (nJ.map aC)),.M (.int .i64 tv),.M (.ay (Gc.map aC))]) ?_ ?_ rfl (by decide) ?_
  ·simp only[go_sem,go_sem_proc]
  ·simp[a4]
  simp only[go_sem,go_sem_proc,aD,ar,we];refine aBr T kG m2 mem (D a.cash) (by omega) p (by omega) (λk i=>(aB a.cash a.cs).W (bG a.aP) k i) r i J (λk I=>aBv _ (mJ k I).2 i) (.ref 228023 a.g 1 0 (D a.cash)) (.M (.ay ams)) (.ref 256082 g 5 0 r) (.M (.ay (p.map iS))) (.M (.int .i64 (D p))) (.M (.int .i64 r)) (gH (m 256013)) (gH (m 256076)) (.M (.int .i64 qR)) (.M (.ay (nJ.map aC))) (.M (.int .i64 tv)) (.M (.ay (Gc.map aC))) (some (g,a6 qd ((rowsOf (D p) A).take r))) _ _ ?_ ?_ ?_ ?_ ?_ ?_ ?_ ?_ ?_ ?_ ?_ ?_ ?_ ?_ ?_ ?_ ?_ ?_
  ·simp only[e8,dV,if_false];exact bZ
  ·simp only[e8,dV,if_false];exact az
  ·simp only[e8,dV,if_false];exact aD
  ·simp only[e8,dV,if_false];exact bX
  ·simp only[e8,dV,if_false];exact eJ
  ·simp only[e8,dV,if_false,if_true]
  ·simp only[e8,dV,if_false,if_true]
  ·simp only[e8,dV,if_false,if_true]
  ·simp only[e8,dV,if_false];exact mm
  ·simp only[e8,dV,if_false];exact pw
  ·simp only[e8,dV,if_false];exact sf
  ·simp only[e8,dV,if_false,if_true]
  ·simp only[e8,dV,if_false,if_true]
  ·simp[a4]
  ·simp[a4]
  ·simp only[a4,dV,if_false];exact Gd
  ·repeat first|exact bw|refine dA.eN ?_ (by decide)
  intro tm cv JG fZ bS cM dj r9 E2 abr aBG aBH aBI abt aBJ oz;have aBK:(dz (D p) λk=>(if r=k then 1 else 0)-(aB a.cash a.cs).W (bG a.aP) (p.getD k 0) i)=dz (D p) (A r):=Jv λk I=>(aBC k I).symm;rw[aBK] at abt;clear bZ az aD bX eJ mm pw sf Gd fo fQ kN bw;have dN:=λcs kt=>l8 ah0 aAy 256082 g 88 ((rowsOf (D p) A).take r) (dz (D p) (A r),ax (A r (D p))) (cs:=cs) kt;have ti:((rowsOf (D p) A).take r).length=r:=by rw[gE,Dm];omega
  have gx:(rowsOf (D p) A).take r++[(dz (D p) (A r),ax (A r (D p)))]=(rowsOf (D p) A).take (r+1):=by
   rw[hF,ak2 A aq];rfl
  rw[ti,gx,g7] at dN;have jH:(dz (D p) (A r)).length=D p:=rm _ _;generalize dz (D p) (A r)=V at *;have tx:=dN _ rfl (by omega) (by omega);simp only[aU,qd,eu,cR] at tx;simp only[go_sem,go_sem_proc];refine aAs (kc:=256013) (gc:=gH (m 256013)) (off:=0) (cc:=[.ref 256076 JG 4 0 (D p),.M (.int .i64 qR),.M (.ay (nJ.map aC)),.M (.int .i64 tv),.M (.ay (Gc.map aC))]) (k:=256076) (g:=JG) (sz:=4) (o:=0) (len:=D p) (cs:=a6 aU V) (d:=.ay (V.map aU)) ?_ aBI rfl abt (aeL _ _) (by decide) ?_ ?_
  ·exact E2
  ·have:=pj (n:=0) mY abt;rw[jH] at this;exact this
  refine ai ?_;repeat' (intro h<;>simp only[h,go_sem,go_sem_proc,fZ,bS,cM,dj,r9,E2,abr,aBG,aBH,aBJ,tx,ct,we]<;>try refine ah ?_ ?_)
  exact⟨(r+1,g+1),by dsimp only;omega,by dsimp only;omega,rfl,rfl,rfl,by repeat first|exact oz|refine dA.eN ?_ (by decide)⟩
 ·have d1:decide ((r:Int)<(D p:Int))=false:=cA;have amt:r=D p:=by omega
  have hlen:=Dm (D p) A;rw[dt (by rw[hlen];omega)] at Gd;obtain⟨c6,eB⟩:=Tf;have jT:Fs (rowsOf (D p) A):=azX (by omega) λi J k I=>iV (Bl.sz (by omega) J I) (by omega);have eW:=aym (rowsOf (D p) A) (D p) jT;rw[c6] at eW;dsimp only at eW;have nx:=λ(K:bc->Prop) (st:bc)=>oQ (K:=K) (st:=st) ah0 10 256082 g (rowsOf (D p) A);rw[hlen] at nx;subst amt;refine ai ?_;repeat' (intro h<;>simp only[h,go_sem,go_sem_proc,aBu,bZ,az,aD,bX,eJ,mm,pw,sf,Gd,d1,nx,eW,ar,bne,beq_self_eq_true,cF]<;>try refine ah ?_ ?_)
  exact⟨_,rfl,rfl,by repeat first|exact bw|refine dA.eN ?_ (by decide)|refine dA.kill ?_ (by decide)⟩
end Go.Mini
namespace Go.Mini
open Classical
def tz (cs:List ao)(f:Nat->Nat)(n:Nat):List ao:=(dD n).flatMap λi=>(dD (f i)).flatMap λk=>c7 cs i k
def aBL (aL:Nat->List ao)(r n:Nat)(h:r<=n):((dD n).flatMap λk=>if k<r then aL k else [])=(dD r).flatMap aL:=by
 induction n with
 |zero=>rw[show r=0 by omega];rfl
 |succ n av =>
  rw[m5,zr,qM,Dp,fG]
  by_cases aa:r=n+1
  ·subst aa;rw[ab (by omega),m5,zr,qM,Dp,fG]
   congr 1
   rw[zs,zs]
   congr 1
   exact mH λk I=>ab (by have:=gQ.1 I;omega)
  ·rw[ae (by omega),fG];exact av (by omega)
def amu {α:Type}(l:List α)(aL:α->List ao)(p:ao->Bool):(l.flatMap aL).filter p=l.flatMap λx=>(aL x).filter p:=by
 induction l with
 |nil=>rfl
 |cons a l av=>rw[qM,qM,ql,av]
def aBM {cs:List ao}{f:Nat->Nat}{n:Nat}(aK:∀i,i<n->f i<=10):tz cs f n=(dm n cs).filter λc=>decide (c.2.2.1<(f c.1.toNat:Int)):=by
 unfold tz dm;rw[amu,zs,zs]
 congr 1
 refine mH λi J=>?_;rw[amu,<-aBL (λk=>c7 cs i k) (f i) 10 (aK i (gQ.1 J)),zs,zs]
 congr 1
 refine mH λk _=>?_
 by_cases h:k<f i
 ·rw[ab h];refine (List.filter_eq_self.2 λc H=>?_).symm;obtain⟨-,F,G⟩:=F6.1 H;rw[F,G,g9];exact cX
 ·rw[ae h];refine (Jz.2 λc H=>?_).symm;obtain⟨-,F,G⟩:=F6.1 H;rw[F,G,g9,decide_eq_true_eq];omega
def aBN (cs:List ao)(p:ao->Prop)[DecidablePred p](aL:ao->Int):cJ (cs.filter λc=>decide (p c)) aL=cJ cs λc=>if p c then aL c else 0:=by
 induction cs with
 |nil=>rfl
 |cons c l av =>
  by_cases h:p c
  ·rw[tr (by simpa using h)];simp only[cJ,av,ab h]
  ·rw[u5 (by simpa using h),av];simp only[cJ,ae h];omega
def gZ (j:Nat)(c:ao):Int:=if c.2.1=(j:Int) then c.2.2.2 else 0
def amv {cash:List Int}{cs:List ao}{f:Nat->Nat}(Ot:cs=dm (D cash) cs)(aK:∀i,i<(D cash)->f i<=10)(j:Nat):lv cash cs f j=cash.getD j 0+cJ (tz cs f (D cash)) (gZ j):=by
 rw[aBM aK,<-Ot,aBN cs (λc=>c.2.2.1<(f c.1.toNat:Int))];unfold lv
 congr 1
 refine Jo λc _=>?_;unfold gZ
 by_cases F:c.2.1=(j:Int)
 ·by_cases G:c.2.2.1<(f c.1.toNat:Int)
  ·rw[ab ⟨F,G⟩,ab G,ab F]
  ·rw[ae λh=>G h.2,ae G]
 ·rw[ae λh=>F h.1,ae F]
  split<;>rfl
def aBO {cs:List ao}{f:Nat->Nat}{n:Nat}{c:ao}(h:c∈tz cs f n):c∈cs:=by
 unfold tz at h;simp only[yE] at h;obtain⟨i,-,k,-,H⟩:=h;exact (F6.1 H).1
def kH (cs:List ao)(f:Nat->Nat)(i k t:Nat):List ao:=tz cs f i++(((dD k).flatMap λk=>c7 cs i k)++(c7 cs i k).take t)
def aBP (cs:List ao)(f:Nat->Nat):kH cs f 0 0 0=[]:=rfl
def aBQ (cs:List ao)(f:Nat->Nat)(i k:Nat):kH cs f i k (c7 cs i k).length=kH cs f i (k+1) 0:=by
 unfold kH;rw[mW,l3,fG,m5,zr,qM,Dp,fG]
def aBR (cs:List ao)(f:Nat->Nat)(i:Nat):kH cs f i (f i) 0=kH cs f (i+1) 0 0:=by
 unfold kH tz;rw[l3,l3,fG,m5,zr,qM,Dp,fG];simp
def amw (cs:List ao)(f:Nat->Nat)(n:Nat):kH cs f n 0 0=tz cs f n:=by
 unfold kH;simp
def amx (cs:List ao)(f:Nat->Nat){n i k t:Nat}(J:i<n)(I:k<f i):∃l,tz cs f n=kH cs f i k t++l:=by
 have aH:∃m,n=i+1+m:=⟨n-(i+1),by omega⟩
 obtain⟨m,rfl⟩:=aH;have aK:∃r,f i=k+1+r:=⟨f i-(k+1),by omega⟩
 obtain⟨r,aa⟩:=aK;have TH:∀(a b:Nat) (aL:Nat->List ao),(dD (a+b)).flatMap aL=(dD a).flatMap aL++((dD b).map (a+·)).flatMap aL:=λa b aL=>by rw[amy,zr]
 unfold tz kH;rw[TH,m5,zr,qM,Dp,fG,aa,TH,m5,zr,qM,Dp,fG];refine⟨(c7 cs i k).drop t++(((dD r).map (k+1+·)).flatMap (λk=>c7 cs i k)++((dD m).map (i+1+·)).flatMap λi=>(dD (f i)).flatMap λk=>c7 cs i k),?_⟩;unfold tz;simp only[gr]
 congr 1
 congr 1
 rw[<-gr ((c7 cs i k).take t),ui]
def amz {cash:List Int}{cs:List ao}(h:fv cash cs){f:Nat->Nat}(Ot:cs=dm (D cash) cs)(aK:∀i,i<(D cash)->f i<=10)(j:Nat){l fR:List ao}(ak:tz cs f (D cash)=l++fR):0<=cJ l (gZ j)/\cJ l (gZ j)<=13000000000000000:=by
 have D6:∀m:List ao,(∀c∈m,c∈cs)->0<=cJ m (gZ j):=by
  intro m
  induction m with
  |nil=>intro _;exact S8 _
  |cons c m av =>
   intro hm;have F:=av λy al=>hm y (g5 _ al);have G:=((gN.1 h.right).2.2.2 c (hm c gK)).2.2.2.2.2.2.1;simp only[cJ,gZ] at *
   split<;>omega
 have hm:∀c∈l++fR,c∈cs:=λc H=>aBO (by rw[ak];exact H);have F:=D6 l λc H=>hm c (by simp[H]);have G:=D6 fR λc H=>hm c (by simp[H]);have af:=amv Ot aK j;rw[ak,NQ] at af;have aS:=h.steady f j;have bt:=h.cash j;omega
end Go.Mini
namespace Go.Mini
open Go
def amA {n c:Nat}(H:c<n)(q:Nat->Int)(v:Int):fh c (zh bJ (bA n q))++[O.M (.int .i64 v)]++ft (c+1) (zh bJ (bA n q))=zh bJ (bA n λj=>if j=c then v else q j):=by
 rw[<-Bi,CT,List.set_eq_take_append_cons_drop,ab (by rw[ar,gY];exact H)];simp[bJ]
def amB {n c:Nat}(H:c<n)(q:Nat->Int):fh 1 (ft c (zh bJ (bA n q)))=[.M (.int .i64 (q c))]:=x0 (f:=bJ) (jh q H)
def amC (n:Nat)(q:Nat->Int):(zh bJ (bA n q)).length=n:=by rw[ar,gY]
def TI (l:List ao)(c:ao)(aL:ao->Int):cJ (l++[c]) aL=cJ l aL+aL c:=by
 rw[NQ];simp[cJ]
def aBS (T:ba){K:eT->bc->Prop}{kk:List gG}(ez:Mem)(n:Nat)(aH:n<=60)(L:List ao)(B:Nat->Int)(fz:∀t j,0<=B j+cJ (L.take t) (gZ j)/\B j+cJ (L.take t) (gZ j)<=4000000000000000000)(ha:∀c∈L,c.2.1<n /\ -1<=c.2.1)(abu:(D L)<=2000)(v0 v4 v6 sv AY amD v30 JJ JK amE amF:O)(bC:Nat)(JL JM:Option (Nat×List O))(tm:Nat->O)(m:Mem)
  (bZ:tm 0=v0) (dE:tm 4=v4) (c8:tm 5=.ref 248029 bC 1 0 n) (bP:tm 6=v6) (cg:tm 7=sv) (eb:tm 8=AY) (fI:tm 9=amD) (jE:tm 30=v30) (hy:tm 31=JJ) (hz:tm 32=JK) (n4:tm 50=amE) (n5:tm 51=amF) (qo:tm 59=kl L) (lV:tm 60=.M (.int .i64 (D L))) (tA:tm 61=.M (.int .i64 0))
  (mn:m 248029=some (bC,(bA n B).map bJ)) (n6:m 248094=JL) (n7:m 248098=JM) (bw:dA 248 ez m)
  (dM:∀tm' m',tm' 0=v0->tm' 4=v4->tm' 5=.ref 248029 bC 1 0 n->tm' 6=v6->tm' 7=sv->tm' 8=AY->tm' 9=amD->tm' 30=v30->tm' 31=JJ->tm' 32=JK->tm' 50=amE->tm' 51=amF->m' 248029=some (bC,(bA n λj=>B j+cJ L (gZ j)).map bJ)->m' 248094=JL->m' 248098=JM->dA 248 ez m'->cw T K kk (.exit 4) ⟨tm',m'⟩) :
  wp T (wc.body.sub [1,1,1,1,1,0,1,0,0,0,0,1,1,0,0,1,1,0,1,0,0,1,1,0,0,1,1,0]) (cw T K kk) ⟨tm,m⟩:=by
 simp only[wc,eh.sub]
 refine da [0,4,5,6,7,8,9,30,31,32,50,51,59,60] [248094,248098] (λ(t:Nat) tm m=>t<=D L/\tm 61=.M (.int .i64 t)/\m 248029=some (bC,(bA n λj=>B j+cJ (L.take t) (gZ j)).map bJ)/\dA 248 ez m) (λt=>D L-t) 0 (by
  refine⟨by omega,tA,?_,bw⟩
  rw[mn]
  congr 3
  exact k4 λj _=>by rw[l3];simp[cJ]) ?_
 intro vs ms aW aR;simp only[go_sem,go_sem_proc,bZ,dE,c8,bP,cg,eb,fI,jE,hy,hz,n4,n5,qo,lV,n6,n7] at aW aR;subst aW aR;clear bZ dE c8 bP cg eb fI jE hy hz n4 n5 qo lV tA mn n6 n7 bw tm m;rintro t tm m I hm ⟨ak6,tA,mn,bw⟩;simp only[go_sem,go_sem_proc,bh] at I hm;obtain⟨bZ,dE,c8,bP,cg,eb,fI,jE,hy,hz,n4,n5,qo,lV⟩:=I;obtain⟨n6,n7⟩:=hm;rcases dq (t<D L) with aq|ca
 ·have d1:decide ((t:Int)<(D L:Int))=true:=cX;have ct:=e0 (i:=t) (by omega);obtain⟨⟨aG,c2,c3,c4⟩,Q⟩:∃c,L[t]?=some c:=⟨_,bn aq⟩;have mC:=ha _ (dZ Q);dsimp only at mC;have oX:=al8 Q;simp only[go_sem,go_sem_proc] at oX;have gx:L.take (t+1)=L.take t++[(aG,c2,c3,c4)]:=by rw[hF,Q];rfl
  rcases q:decide (c2>=0)
  ·have zW:c2<0:=by have:=of_decide_eq_false q;omega
   have Bk:(bA n λj=>B j+cJ (L.take (t+1)) (gZ j))=bA n λj=>B j+cJ (L.take t) (gZ j):=k4 λj _=>by
    rw[gx,TI];unfold gZ;rw[ae (by dsimp only;omega)];omega
   refine ai ?_;repeat' (intro h<;>simp only[h,go_sem,go_sem_proc,bZ,dE,c8,bP,cg,eb,fI,jE,hy,hz,n4,n5,qo,lV,tA,mn,n6,n7,oX,d1,ct,q,bW,dy]<;>try refine ah ?_ ?_)
   refine⟨t+1,by omega,by omega,rfl,by rw[Bk],by repeat first|exact bw|refine dA.eN ?_ (by decide)⟩
  ·have zW:0<=c2:=of_decide_eq_true q;obtain⟨i,rfl⟩:∃t:Nat,c2=(t:Int):=⟨c2.toNat,by omega⟩
   have cn:i<n:=by omega
   have lh:=fz t i;have eO:=fz (t+1) i;rw[gx,TI] at eO;have wE:gZ i (aG,(i:Int),c3,c4)=c4:=by unfold gZ;rw[ab rfl]
   rw[wE] at eO;have Ou:IntKind.i64.wrap (B i+cJ (L.take t) (gZ i)+c4)=B i+cJ (L.take t) (gZ i)+c4:=by rw[ev _]
   have Bk:(bA n λj=>B j+cJ (L.take (t+1)) (gZ j))=bA n λj=>if j=i then B i+cJ (L.take t) (gZ i)+c4 else B j+cJ (L.take t) (gZ j):=k4 λj _=>by
    rw[gx,TI]
    by_cases ag:j=i
    ·rw[ab ag,ag,wE];omega
    ·rw[ae ag];have:gZ j (aG,(i:Int),c3,c4)=0:=by unfold gZ;rw[ae (by dsimp only;omega)]
     rw[this];omega
   have t1:=amB cn λj=>B j+cJ (L.take t) (gZ j);have t2:=amC n λj=>B j+cJ (L.take t) (gZ j);have t3:=amA cn (λj=>B j+cJ (L.take t) (gZ j)) (B i+cJ (L.take t) (gZ i)+c4);rw[<-Bk] at t3;have eH:i+1<=n:=by omega
   generalize aA:(bA n λj=>B j+cJ (L.take t) (gZ j)).map bJ=bK at *;generalize pX:(bA n λj=>B j+cJ (L.take (t+1)) (gZ j)).map bJ=ra at *;generalize B i+cJ (L.take t) (gZ i)=S1 at *;refine ai ?_;repeat' (intro h<;>simp only[h,go_sem,go_sem_proc,bZ,dE,c8,bP,cg,eb,fI,jE,hy,hz,n4,n5,qo,lV,tA,mn,n6,n7,oX,d1,ct,q,Ou,t1,t2,t3,cn,eH,bW,dy]<;>try refine ah ?_ ?_)
   refine⟨t+1,by omega,by omega,rfl,by rw[pX],by repeat first|exact bw|refine dA.eN ?_ (by decide)⟩
 ·have d1:decide ((t:Int)<(D L:Int))=false:=cA;rw[dt (by omega)] at mn;refine ai ?_;repeat' (intro h<;>simp only[h,go_sem,go_sem_proc,bZ,dE,c8,bP,cg,eb,fI,jE,hy,hz,n4,n5,qo,lV,tA,d1]<;>try refine ah ?_ ?_)
  refine dM _ _ ?_ ?_ ?_ ?_ ?_ ?_ ?_ ?_ ?_ ?_ ?_ ?_ mn n6 n7 bw<;>simp only[e8,dV,if_false,bZ,dE,c8,bP,cg,eb,fI,jE,hy,hz,n4,n5]
def amG (cs:List ao)(f:Nat->Nat)(i k t:Nat):kH cs f i k t=kH cs f i k 0++(c7 cs i k).take t:=by
 unfold kH;simp
def aBT (T:ba){K:eT->bc->Prop}{kk:List gG}(ez:Mem)(cash:List Int)(cs:List ao)(f:Nat->Nat)(X:fv cash cs)(Ot:cs=dm (D cash) cs)(aK:∀i,i<(D cash)->f i<=10)(i:Nat)(J:i<D cash)(x:oy)(Q:x.df)(ee:∀k,k<10->x.de[k]?=some (c7 cs i k))(B:Nat->Int)(fz:∀j,0<=B j/\B j<=1000000000000000)(ed g:Nat)(va:ed/1000≠248)(kv:ez ed=some (g,fF x))(v0 v4 v6 sv AY v30 JJ JK:O)(bC:Nat)(JL JM:Option (Nat×List O))(tm:Nat->O)(m:Mem)
  (bZ:tm 0=v0) (dE:tm 4=v4) (c8:tm 5=.ref 248029 bC 1 0 (D cash)) (bP:tm 6=v6) (cg:tm 7=sv) (eb:tm 8=AY) (fI:tm 9=.ptr ed g 0) (jE:tm 30=v30) (hy:tm 31=JJ) (hz:tm 32=JK) (n4:tm 50=.M (.int .i64 (f i))) (n5:tm 51=.M (.int .i64 0))
  (mn:m 248029=some (bC,(bA (D cash) λj=>B j+cJ (kH cs f i 0 0) (gZ j)).map bJ)) (n6:m 248094=JL) (n7:m 248098=JM) (bw:dA 248 ez m)
  (dM:∀tm' m',tm' 0=v0->tm' 4=v4->tm' 5=.ref 248029 bC 1 0 (D cash)->tm' 6=v6->tm' 7=sv->tm' 8=AY->tm' 9=.ptr ed g 0->tm' 30=v30->tm' 31=JJ->tm' 32=JK->m' 248029=some (bC,(bA (D cash) λj=>B j+cJ (kH cs f (i+1) 0 0) (gZ j)).map bJ)->m' 248094=JL->m' 248098=JM->dA 248 ez m'->cw T K kk (.exit 2) ⟨tm',m'⟩) :
  wp T (wc.body.sub [1,1,1,1,1,0,1,0,0,0,0,1,1,0,0,1,1,0,1,0]) (cw T K kk) ⟨tm,m⟩:=by
 simp only[wc,eh.sub];have qn:=aK i J;have aH:=X.k3;refine da [0,4,5,6,7,8,9,30,31,32,50] [248094,248098] (λ(k:Nat) tm m=>k<=f i/\tm 51=.M (.int .i64 k)/\m 248029=some (bC,(bA (D cash) λj=>B j+cJ (kH cs f i k 0) (gZ j)).map bJ)/\dA 248 ez m) (λk=>f i-k) 0 (by refine⟨by omega,n5,mn,bw⟩) ?_;intro vs ms aW aR;simp only[go_sem,go_sem_proc,bZ,dE,c8,bP,cg,eb,fI,jE,hy,hz,n4,n6,n7] at aW aR;subst aW aR;clear bZ dE c8 bP cg eb fI jE hy hz n4 n5 mn n6 n7 bw tm m;rintro k tm m I hm ⟨Jh,n5,mn,bw⟩;simp only[go_sem,go_sem_proc,bh] at I hm;obtain⟨bZ,dE,c8,bP,cg,eb,fI,jE,hy,hz,n4⟩:=I;obtain⟨n6,n7⟩:=hm;rcases dq (k<f i) with aq|ca
 ·have d1:decide ((k:Int)<(f i:Int))=true:=cX;have ct:=e0 (i:=k) (by omega);have ad:=(bw ed va).trans kv;have hlen:=Dr Q;have jD:=ama (x:=x) (k:=k) (l:=c7 cs i k) (ee k (by omega));have eH:k<10:=by omega
  have cS:(1+k+1<=24)=True:=eq_true (by omega);have amH:=al7 (c7 cs i k);simp only[go_sem,go_sem_proc] at amH;generalize fF x=DC at *;simp only[go_sem,go_sem_proc,bZ,dE,c8,bP,cg,eb,fI,jE,hy,hz,n4,n5,ad,hlen,jD,d1,eH,cS,amH,dy];refine aBS T ez (D cash) (by omega) (c7 cs i k) (λj=>B j+cJ (kH cs f i k 0) (gZ j)) (λt j=>?_) (λc H=>?_) ?_ v0 v4 v6 sv AY (.ptr ed g 0) v30 JJ JK (.M (.int .i64 (f i))) (.M (.int .i64 k)) bC JL JM _ _ ?_ ?_ ?_ ?_ ?_ ?_ ?_ ?_ ?_ ?_ ?_ ?_ ?_ ?_ ?_ mn n6 n7 bw ?_
  ·obtain⟨l,ak⟩:=amx cs f (n:=D cash) (t:=t) J aq;have F:=amz X Ot aK j ak;rw[amG,NQ] at F;have G:=fz j;omega
  ·have:=(gN.1 X.right).2.2.2 c (F6.1 H).1;omega
  ·have F:=nZ (λc:ao=>c.1==(i:Int)&&c.2.2.1==(k:Int)) cs;have G:=X.ts;unfold c7;omega
  all_goals first|(intro tm' m' fZ iT nv ka jP kU qZ TJ TK TL aBU aBV JN TM TN x6)|(simp only[e8,dV,if_false,if_true,bZ,dE,c8,bP,cg,eb,fI,jE,hy,hz,n4,n5])
  have gJ:(bA (D cash) λj=>B j+cJ (kH cs f i k 0) (gZ j)+cJ (c7 cs i k) (gZ j))=bA (D cash) λj=>B j+cJ (kH cs f i (k+1) 0) (gZ j):=k4 λj _=>by
   rw[<-aBQ,amG cs f i k (c7 cs i k).length,mW,NQ];omega
  rw[gJ] at JN;refine ai ?_;repeat' (intro h<;>simp only[h,go_sem,go_sem_proc,fZ,iT,nv,ka,jP,kU,qZ,TJ,TK,TL,aBU,aBV,TM,TN,ct]<;>try refine ah ?_ ?_)
  refine⟨k+1,by omega,by omega,rfl,JN,x6⟩
 ·have d1:decide ((k:Int)<(f i:Int))=false:=cA;obtain rfl:k=f i:=by omega
  rw[aBR] at mn;refine ai ?_;repeat' (intro h<;>simp only[h,go_sem,go_sem_proc,bZ,dE,c8,bP,cg,eb,fI,jE,hy,hz,n4,n5,d1]<;>try refine ah ?_ ?_)
  refine dM _ _ ?_ ?_ ?_ ?_ ?_ ?_ ?_ ?_ ?_ ?_ mn n6 n7 bw<;>simp only[e8,dV,if_false,bZ,dE,c8,bP,cg,eb,fI,jE,hy,hz]
structure TO (a:c0) (mem:Mem):Prop where
 at_:a.eF mem
 h7:ow 248 mem
 iZ:ow 255 mem
 x7:ow 256 mem
 JE:a.JD
 hd:tt (aB a.cash a.cs) (bG a.aP) (fw a.P)
open Classical in
def amI (P:Nat->Prop)(n:Nat):cO P (n+1)=cO P n++(if P n then [n] else []):=by
 unfold cO;rw[m5,ql]
 by_cases h:P n
 ·rw[ab h,tr (by simpa using h),qm]
 ·rw[ae h,u5 (by simpa using h),qm]
def amJ (P:Nat->Prop)(n:Nat):(cO P n).length<=n:=by
 unfold cO;exact eZ (nZ _ _) (by rw[uj];exact bM _)
def c0.W (a:c0)(k i:Nat):Rat:=(aB a.cash a.cs).W (bG a.aP) k i
def amK (n:Nat)(W:Nat->Nat->Rat)(k:Nat):(tw n W k).length=1:=rfl
def aBW (n:Nat)(W:Nat->Nat->Rat)(k:Nat):((tw n W k).map O.M).all O.one=true:=rfl
def oA (a:c0)(i j:Nat):Int:=(if j<i then a.cash.getD j 0 else 0)+cJ (kH a.cs (bG a.aP) i 0 0) (gZ j)
def aBX (T:ba)(abv:T QP=pL TC){K:eT->bc->Prop}{kk:List gG}(a:c0)(ez:Mem)(aO:TO a ez)(v0 v4 v30:O)(bC pN lA:Nat)(tm:Nat->O)(m:Mem)
  (bZ:tm 0=v0) (dE:tm 4=.M (.int .i64 (D a.cash))) (c8:tm 5=.ref 248029 bC 1 0 (D a.cash)) (bP:tm 6=.ref 248094 pN 1 0 0) (cg:tm 7=.ref 248098 lA 1 0 0) (jE:tm 30=.ref 228023 a.g 1 0 (D a.cash)) (hy:tm 31=.M (.int .i64 (D a.cash))) (hz:tm 32=.M (.int .i64 0))
  (mn:m 248029=some (bC,(bA (D a.cash) λj=>oA a 0 j).map bJ)) (n6:m 248094=some (pN,[])) (n7:m 248098=some (lA,[])) (bw:dA 248 ez m)
  (dM:∀tm' m' amL amM,tm' 0=v0->tm' 4=.M (.int .i64 (D a.cash))->tm' 5=.ref 248029 bC 1 0 (D a.cash)->tm' 6=.ref 248094 amL 1 0 (D a.p)->tm' 7=.ref 248098 amM 1 0 (D a.p)->m' 248029=some (bC,(bA (D a.cash) λj=>oA a (D a.cash) j).map bJ)->m' 248094=some (amL,a6 iS a.p)->m' 248098=some (amM,a6 (tw (D a.cash) a.W) a.p)->dA 248 ez m'->cw T K kk (.exit 0) ⟨tm',m'⟩) :
  wp T (wc.body.sub [1,1,1,1,1,0,1,0,0,0]) (cw T K kk) ⟨tm,m⟩:=by
 have TP:=aO;obtain⟨bH,h7,iZ,x7,wF,lU⟩:=aO;have uV:=λi=>c0.Om bH wF (i:=i);obtain⟨X,g3⟩:=wF;have aH:=X.k3;simp only[wc,eh.sub];refine da [0,4,5,30,31] [] (λ((i,pN,lA):Nat×Nat×Nat) tm m=>i<=D a.cash/\tm 32=.M (.int .i64 i)/\tm 6=.ref 248094 pN 1 0 (cO (fw a.P) i).length/\tm 7=.ref 248098 lA 1 0 (cO (fw a.P) i).length/\m 248029=some (bC,(bA (D a.cash) λj=>oA a i j).map bJ)/\m 248094=some (pN,a6 iS (cO (fw a.P) i))/\m 248098=some (lA,a6 (tw (D a.cash) a.W) (cO (fw a.P) i))/\dA 248 ez m) (λ(i,_)=>D a.cash-i) (0,pN,lA) (by refine⟨by omega,hz,bP,cg,mn,n6,n7,bw⟩) ?_;intro vs ms aW aR;simp only[go_sem,go_sem_proc,bZ,dE,c8,jE,hy] at aW aR;subst aW aR;clear bZ dE c8 bP cg jE hy hz mn n6 n7 bw tm m;rintro⟨i,pN,lA⟩ tm m I-⟨cn,hz,bP,cg,mn,n6,n7,bw⟩;simp only[go_sem,go_sem_proc,bh] at I;obtain⟨bZ,dE,c8,jE,hy⟩:=I;rcases dq (i<D a.cash) with J|ca
 ·have d1:decide ((i:Int)<(D a.cash:Int))=true:=cX;have ct:=e0 (i:=i) (by omega);obtain⟨qn,x4⟩:=uV i J;have fo:=(bw.at 228023 (by omega)).trans bH.row;have s4:=bH.dr i J;have fQ:=(bw.at (228500+i) (by omega)).trans s4;have kN:=wC (jh (λi=>O.ptr (228500+i) (a.gs.getD i 0) 0) J);have b0:(bA (D a.cash) λi=>O.ptr (228500+i) (a.gs.getD i 0) 0).length=D a.cash:=gY _ _;have cT:=a.x3 i;have hlen:=Dr cT;have o3:=Oh cT;have wG:=amc cT;have amN:=aA2 (x:=a.gO i);rw[show (a.gO i).f=(bG a.aP i:Int) from qn] at o3;rw[show (a.gO i).p=a.P.getD i false from rfl] at wG;rw[show (a.gO i).cash=a.cash.getD i 0 from rfl] at amN;have aPc:=X.cash i;have ja:=amx a.cs (bG a.aP) (n:=D a.cash) (i:=i) (k:=0) (t:=0) J
  have aPd:0<=cJ (kH a.cs (bG a.aP) i 0 0) (gZ i)/\cJ (kH a.cs (bG a.aP) i 0 0) (gZ i)<=13000000000000000:=by
   have:∃l,tz a.cs (bG a.aP) (D a.cash)=kH a.cs (bG a.aP) i 0 0++l:=by
    obtain⟨r,aa⟩:∃r,D a.cash=i+r:=⟨D a.cash-i,by omega⟩
    refine⟨((dD r).map (i+·)).flatMap λi=>(dD (bG a.aP i)).flatMap λk=>c7 a.cs i k,?_⟩;rw[amw];unfold tz;rw[aa,amy,zr]
   obtain⟨l,ak⟩:=this;exact amz X bH.can (λi J=>(uV i J).2) i ak
  have aa8:oA a i i=cJ (kH a.cs (bG a.aP) i 0 0) (gZ i):=by unfold oA;rw[ae (by omega)];omega
  have aBY:IntKind.i64.wrap (oA a i i+a.cash.getD i 0)=oA a i i+a.cash.getD i 0:=by rw[ev _]
  have t1:=amB J λj=>oA a i j;have t2:=amC (D a.cash) λj=>oA a i j;have t3:=amA J (λj=>oA a i j) (oA a i i+a.cash.getD i 0)
  have Ge:(bA (D a.cash) λj=>if j=i then oA a i i+a.cash.getD i 0 else oA a i j)=bA (D a.cash) λj=>(if j<i+1 then a.cash.getD j 0 else 0)+cJ (kH a.cs (bG a.aP) i 0 0) (gZ j):=k4 λj _=>by
   by_cases ag:j=i
   ·rw[ab ag,ag,ab (by omega),aa8];omega
   ·rw[ae ag];unfold oA
    by_cases vA:j<i
    ·rw[ab vA,ab (by omega)]
    ·rw[ae vA,ae (by omega)]
  rw[Ge] at t3;have eH:i+1<=D a.cash:=by omega
  have va:(228500+i)/1000≠248:=by omega
  generalize o4:228500+i=ed at *;have aBZ:(ed=248029)=False:=eq_false (by omega);have aB0:(ed==248029)=false:=beq_eq_false_iff_ne.2 (by omega);have aB1:(248029==ed)=false:=beq_eq_false_iff_ne.2 (by omega);have aPe:fF (a.gO i)=fF (a.gO i):=rfl;generalize gI:(bA (D a.cash) λj=>oA a i j).map bJ=bK at *;generalize amO:(bA (D a.cash) λj=>(if j<i+1 then a.cash.getD j 0 else 0)+cJ (kH a.cs (bG a.aP) i 0 0) (gZ j)).map bJ=ra at *;generalize JO:(bA (D a.cash) λi=>O.ptr (228500+i) (a.gs.getD i 0) 0)=x5 at *;generalize Ov:fF (a.gO i)=DC at *;simp only[go_sem,go_sem_proc,bZ,dE,c8,bP,cg,jE,hy,hz,fo,fQ,kN,b0,hlen,o3,wG,amN,mn,t1,t2,t3,aBY,d1,J,eH,aBZ,aB0,aB1,bJ,n1,dy];refine aBT T ez a.cash a.cs (bG a.aP) X bH.can (λi J=>(uV i J).2) i J (a.gO i) cT (λk I=>jh _ I) (λj=>if j<i+1 then a.cash.getD j 0 else 0) (λj=>?_) ed (a.gs.getD i 0) va (by rw[Ov];exact s4) v0 (.M (.int .i64 (D a.cash))) (.ref 248094 pN 1 0 (cO (fw a.P) i).length) (.ref 248098 lA 1 0 (cO (fw a.P) i).length) (.M (.int .i64 i)) (.ref 228023 a.g 1 0 (D a.cash)) (.M (.int .i64 (D a.cash))) (.M (.int .i64 i)) bC (some (pN,a6 iS (cO (fw a.P) i))) (some (lA,a6 (tw (D a.cash) a.W) (cO (fw a.P) i))) _ _ ?_ ?_ ?_ ?_ ?_ ?_ ?_ ?_ ?_ ?_ ?_ ?_ ?_ ?_ ?_ (bw.eN (by decide)) ?_
  ·have:=X.cash j
   split<;>omega
  all_goals first|(intro tm' m' fZ iT nv ka jP kU qZ TJ TK TL JN TM TN x6)|(simp only[e8,dV,if_false,if_true,bZ,dE,c8,bP,cg,jE,hy,hz])|(simp only[a4,dV,if_false,if_true,n6,n7])|skip
  ·rw[<-amO]
  have gJ:(bA (D a.cash) λj=>(if j<i+1 then a.cash.getD j 0 else 0)+cJ (kH a.cs (bG a.aP) (i+1) 0 0) (gZ j))=bA (D a.cash) λj=>oA a (i+1) j:=rfl;rw[gJ] at JN;have eO:=(x6 ed va).trans s4;have pl:=amJ (fw a.P) i;rcases q:a.P.getD i false
  ·have gk:cO (fw a.P) (i+1)=cO (fw a.P) i:=by
    rw[amI,ae (by unfold fw;rw[q];decide),fG]
   rw[q] at wG;refine ai ?_;repeat' (intro h<;>simp only[h,go_sem,go_sem_proc,fZ,iT,nv,ka,jP,kU,qZ,TJ,TK,TL,TM,TN,eO,hlen,wG,ct,n1,dy]<;>try refine ah ?_ ?_)
   exact⟨(i+1,pN,lA),by dsimp only;omega,by dsimp only;omega,rfl,by rw[gk],by rw[gk],JN,by rw[gk],by rw[gk],x6⟩
  ·have gw:fw a.P i:=q
   have gk:cO (fw a.P) (i+1)=cO (fw a.P) i++[i]:=by
    rw[amI,ab gw]
   have aB2:bG a.aP i<10:=by
    obtain⟨F,g,G,af⟩:=lU;exact (af.gM i gw).2
   have kO:=aBb a i m' ⟨bH.aE x6 (by decide) aH,iZ.aE x6 (by decide),⟨X,g3⟩,J,aB2,lU.sm i gw⟩;rw[o4] at kO;have aB3:TB (a,i)=.cP [.ay ((dz (D a.cash) (a.W i)).map aU),.bool true]:=rfl;rw[aB3] at kO;have amP:=l8 zi al5 248094 pN 8 (cO (fw a.P) i) i (cs:=[.M (.int .i64 i)]) rfl (by omega) (by omega);have amQ:=l8 (amK (D a.cash) a.W) (aBW (D a.cash) a.W) 248098 lA 24 (cO (fw a.P) i) i (cs:=[.M (.ay ((dz (D a.cash) (a.W i)).map aU))]) rfl (by omega) (by omega);have cm:(cO (fw a.P) (i+1)).length=(cO (fw a.P) i).length+1:=by rw[gk,fO];rfl
   rw[<-gk] at amP amQ;rw[q] at wG;generalize (dz (D a.cash) (a.W i)).map aU=V at *;refine ai ?_;repeat' (intro h<;>simp only[h,go_sem,go_sem_proc,abv,fZ,iT,nv,ka,jP,kU,qZ,TJ,TK,TL,TM,TN,eO,hlen,wG,kO,amP,amQ,ct,n1,dy,cF]<;>try refine ah ?_ ?_)
   exact⟨(i+1,pN+1,lA+1),by dsimp only;omega,by dsimp only;omega,rfl,by rw[cm],by rw[cm],JN,rfl,rfl,by repeat first|exact x6|refine dA.eN ?_ (by decide)⟩
 ·have d1:decide ((i:Int)<(D a.cash:Int))=false:=cA;obtain rfl:i=D a.cash:=by omega
  refine ai ?_;repeat' (intro h<;>simp only[h,go_sem,go_sem_proc,bZ,dE,c8,bP,cg,jE,hy,hz,d1]<;>try refine ah ?_ ?_)
  refine dM _ _ pN lA ?_ ?_ ?_ ?_ ?_ mn n6 n7 bw<;>simp only[e8,dV,if_false,bZ,dE,c8,bP,cg,c0.p]
end Go.Mini
