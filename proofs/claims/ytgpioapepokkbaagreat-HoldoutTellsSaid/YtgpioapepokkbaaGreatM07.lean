/- A part of the proof. -/
import Derived.Test.YtgpioapepokkbaaGreatProg
import Derived.KernelRfl
import Derived.Test.YtgpioapepokkbaaGreatM06
set_option linter.unusedSimpArgs false
set_option linter.unusedVariables false
set_option linter.defProp false
set_option maxRecDepth 100000
set_option maxHeartbeats 4000000
noncomputable section
open Bool renaming and_eq_true->fC,eq_iff_iff->od,not_false->cA,not_true->b3,true_and->fN
open Classical renaming byContradiction->mN
open Decidable renaming em->dn
open Int renaming toNat_natCast->gK,toNat_zero->sM
open List renaming concat_eq_append->BX,eq_nil_or_concat->BW,getElem?_eq_getElem->bh,getElem?_map->bm,length->D,length_append->gC,length_eq_zero_iff->xY,length_map->al,length_singleton->qI,map_append->kE,map_congr_left->ox,map_cons->eE,map_map->pJ,map_nil->bY,mem_map->gm,mem_map_of_mem->wA,mem_range->ig,range->eM
open List.cons renaming injEq->bj
open Nat renaming le_of_ble_eq_true->sU,le_refl->cl
open Option renaming bind_some->qk
open Prod renaming ext->et
open Rat renaming add_zero->rH,intCast_mul->sC,intCast_natCast->oe,intCast_sub->CZ
namespace Go.Mini
open Go
def LS:=bV vf λ(cash,cs,is,ak,rk)=>cu (q0 cash cs is) (.same (Bj cash cs is ak rk))
@[go_sem] def aer (cash cs is ak rk):=cH LS rfl LK (cash,cs,is,ak,rk) rfl
def aIX (T:ba)(sS:T GD=aK LL)(rU:T GG=aK LO)(rV:T Gy=aK LP):WF T aq5 LS:=by
 refine cp λ(cash,cs,is,ak,rk)=>cT λJ=>⟨rfl,ck ?_⟩;simp only[aq5,vf,cd];have X:=aeh cash cs is ak rk J;unfold Bj;rcases fY:h7 cash cs is ak rk
 ·rw[aa (by decide)];rw[fY] at X;simp only[dm] at X;refine ai ?_;repeat' (intro h<;>simp only[h,go_sem,go_sem_proc,sS,rU,rV,dm,X,bY,cA]<;>try refine ag ?_ ?_)
 rw[Y rfl];rw[fY] at X;have hi:=zF.1 fY;have ew:=aek cash cs is ak rk (-1) ⟨J,fY⟩;have R:=LR J hi (-1);obtain⟨aL,eu,yR⟩:=J;have aq:=vd cs is ak rk (-1) (D is);have ll:=aep cash (eF cs is ak rk (-1) (D is)) ⟨by omega,by omega,λ_=>R⟩
 unfold ye at ll;rw[Y R.right] at ll;have Rf:=λk (I:k<D is)=>LI (cash:=cash) (l:=eF cs is ak rk (-1) (D is)) (j:=(is.getD k 0).toNat) (by have:=hi.b6 k I;omega);have ia:(hy cash (eF cs is ak rk (-1) (D is))).length=D cs:=by unfold hy;rw[al,aq]
 have bq:∀k,ve cash (eF cs is ak rk (-1) (D is)) (is.getD k 0).toNat=kn cash cs is ak rk k:=λk=>rfl;simp only[bq] at Rf;simp only[dm] at X ew;generalize lI cash (eF cs is ak rk (-1) (D is))=wK at *;generalize hy cash (eF cs is ak rk (-1) (D is))=qY at *;generalize (af cash (eF cs is ak rk (-1) (D is))).iI.map om=FD at *;simp only[go_sem,go_sem_proc,sS,rU,rV,dm,X,ew,ll,bne,beq_self_eq_true,b3,al];refine dd [1,4] [342001,342004] (λ((k,g):Nat×Nat) tm m=>k<=D is/\tm 7=.H (.int .i64 k)/\tm 6=.ref 342040 g 4 0 k/\m 342040=some (g,aU az (nj cash cs is ak rk k))) (λ(k,_)=>D is-k) (0,0) (by refine⟨by omega,rfl,rfl,rfl⟩) ?_;intro vs ms aQ aM;simp only[go_sem,go_sem_proc,sS,rU,rV,al] at aQ aM;subst aQ aM;rintro⟨k,g⟩ tm m I hm ⟨O,bS,bt,arU⟩;simp only[go_sem,go_sem_proc,sS,rU,rV,bj] at I hm;obtain⟨au,bK⟩:=I;obtain⟨dg,fE⟩:=hm;have gw:=LQ cash cs is ak rk k;rcases dn (k<D is) with ah|bW
 ·have d1:decide ((k:Int)<(D is:Int))=true:=cX;have bF:=eI (i:=k) (by omega);obtain⟨i,L⟩:∃i,is[k]?=some i:=⟨_,bh ah⟩;have jM:=kW (d:=0) L;have fK:=hi.b6 k ah;have iF:=Rf k ah;rw[jM] at fK iF;obtain⟨n,rfl⟩:∃n:Nat,i=(n:Int):=⟨i.toNat,by omega⟩
  rw[gK] at iF;have ix:n<D qY:=by omega
  have Qy:=arS cash cs is ak rk k;have c9:=λ(aO:bz) jY jD=>kx jj v8 342040 g 64 (nj cash cs is ak rk k) aO (cs:=jY) jD (by omega) (by omega);generalize av (kn cash cs is ak rk k)=aO at *;have c9:=c9 aO _ rfl;rw[<-Qy,gw] at c9;obtain⟨⟨f1,f2⟩,⟨f3,f4⟩⟩:=aO;simp only[az,eE,bY] at c9;refine ai ?_;repeat' (intro h<;>simp only[h,go_sem,go_sem_proc,sS,rU,rV,au,bK,bt,bS,dg,fE,arU,L,iF,c9,ix,d1,bF,az,aI,al,bm]<;>try refine ag ?_ ?_)
  exact⟨(k+1,g+1),by dsimp only;omega,by dsimp only;omega,rfl,rfl,rfl⟩
 ·have d1:decide ((k:Int)<(D is:Int))=false:=b7;obtain rfl:k=D is:=by omega
  have Fs:=λ(K:bc->Prop) (st:bc)=>nB (K:=K) (st:=st) jj 6 342040 g (nj cash cs is ak rk (D is));rw[gw] at Fs;refine ai ?_;repeat' (intro h<;>simp only[h,go_sem,go_sem_proc,sS,rU,rV,au,bK,bt,bS,dg,fE,arU,d1,Fs,al]<;>try refine ag ?_ ?_)
def LU:=bV pw λ(cash,cs,is,ak,rk,k)=>cu (q0 cash cs is) (.same (FB cash cs is ak rk k))
@[go_sem] def aes (cash cs is ak rk k):=cH LU rfl Dg (cash,cs,is,ak,rk,k) rfl
def aIY (T:ba)(rT:T B4=aK Ip)(ni:T uD=aK Ig)(sQ:T GH=aK LM)(sR:T Gw=aK Io):WF T ap1 LU:=by
 refine cp λ(cash,cs,is,ak,rk,k)=>cT λJ=>⟨rfl,ck ?_⟩;simp only[ap1,pw,cd];have X:=WH cash cs is ak rk J;unfold FB;rcases fY:h7 cash cs is ak rk
 ·rw[aa (by decide)];rw[fY] at X;simp only[dm] at X;refine ai ?_;repeat' (intro h<;>simp only[h,go_sem,go_sem_proc,rT,ni,sQ,sR,dm,X,az,cW,bY,cA]<;>try refine ag ?_ ?_)
 rw[Y rfl];rw[fY] at X;have vv:=J;obtain⟨aL,eu,yR⟩:=J;have wl:IntKind.i64.wrap ((D is:Int)-1)=(D is:Int)-1:=by rw[eY _]
 rcases q:(decide (0<=k)&&decide (k<=(D is:Int)-1))
 ·rw[aa (by rw[Bool.and_eq_false_iff,decide_eq_false_iff_not,decide_eq_false_iff_not] at q;omega)];simp only[dm] at X;refine ai ?_;repeat' (intro h<;>simp only[h,go_sem,go_sem_proc,rT,ni,sQ,sR,dm,X,wl,q,az,cW,bY,al,b3,cA]<;>try refine ag ?_ ?_)
 have I:0<=k/\k<D is:=by rw[fC,decide_eq_true_iff,decide_eq_true_iff] at q;omega
 rw[Y I];obtain⟨k,rfl⟩:∃n:Nat,k=(n:Int):=⟨k.toNat,by omega⟩
 have ah:k<D is:=by omega
 have hi:=zF.1 fY;have ew:=aej cash cs is ak rk k ⟨vv,fY⟩;have R:=LR vv hi k;have aq:=vd cs is ak rk k (D is);have ll:=WD cash (eF cs is ak rk k (D is)) ⟨by omega,by omega,λ_=>R⟩
 unfold ye at ll;rw[Y R.right] at ll;obtain⟨i,L⟩:∃i,is[k]?=some i:=⟨_,bh ah⟩;have jM:=kW (d:=0) L;have fK:=hi.b6 k ah;have iF:=LI (cash:=cash) (l:=eF cs is ak rk k (D is)) (j:=(is.getD k 0).toNat) (by omega);have ia:(hy cash (eF cs is ak rk k (D is))).length=D cs:=by unfold hy;rw[al,aq]
 have bq:ve cash (eF cs is ak rk k (D is)) (is.getD k 0).toNat=tX cash cs is ak rk k:=rfl;rw[bq] at iF;rw[jM] at fK iF;obtain⟨n,rfl⟩:∃n:Nat,i=(n:Int):=⟨i.toNat,by omega⟩
 rw[gK] at iF ⊢;simp only[dm] at X ew;have ix:n<(hy cash (eF cs is ak rk k (D is))).length:=by omega
 generalize lI cash (eF cs is ak rk k (D is))=wK at *;generalize hy cash (eF cs is ak rk k (D is))=qY at *;generalize (af cash (eF cs is ak rk k (D is))).iI.map om=FD at *;generalize av (tX cash cs is ak rk k)=aO at *;obtain⟨⟨f1,f2⟩,⟨f3,f4⟩⟩:=aO;refine ai ?_;repeat' (intro h<;>simp only[h,go_sem,go_sem_proc,rT,ni,sQ,sR,dm,X,ew,ll,wl,q,L,iF,ix,az,aI,bne,beq_self_eq_true,al,bm,b3,cA]<;>try refine ag ?_ ?_)
def Rg:=bV pw λ(cash,cs,is,ak,rk,k)=>cu (q0 cash cs is) (.same (FB cash cs is ak rk k))
@[go_sem] def arV (cash cs is ak rk k):=cH Rg rfl Dg (cash,cs,is,ak,rk,k) rfl
def aIZ (T:ba)(sS:T GD=aK LL)(rU:T GG=aK LO)(rV:T Gy=aK LP):WF T aq6 Rg:=by
 refine cp λ(cash,cs,is,ak,rk,k)=>cT λJ=>⟨rfl,ck ?_⟩;simp only[aq6,pw,cd];have X:=aeh cash cs is ak rk J;unfold FB;rcases fY:h7 cash cs is ak rk
 ·rw[aa (by decide)];rw[fY] at X;simp only[dm] at X;refine ai ?_;repeat' (intro h<;>simp only[h,go_sem,go_sem_proc,sS,rU,rV,dm,X,az,cW,bY,cA]<;>try refine ag ?_ ?_)
 rw[Y rfl];rw[fY] at X;have vv:=J;obtain⟨aL,eu,yR⟩:=J;rcases dI:decide (k<0)
 case true =>
  rw[aa (by have:=of_decide_eq_true dI;omega)];simp only[dm] at X;refine ai ?_;repeat' (intro h<;>simp only[h,go_sem,go_sem_proc,sS,rU,rV,dm,X,dI,az,cW,bY,al,b3]<;>try refine ag ?_ ?_)
 rcases ek:decide (k>=(D is:Int))
 case true =>
  rw[aa (by have:=of_decide_eq_true ek;omega)];simp only[dm] at X;refine ai ?_;repeat' (intro h<;>simp only[h,go_sem,go_sem_proc,sS,rU,rV,dm,X,dI,ek,az,cW,bY,al,b3]<;>try refine ag ?_ ?_)
 have I:0<=k/\k<D is:=by have:=of_decide_eq_false dI;have:=of_decide_eq_false ek;omega
 rw[Y I];obtain⟨k,rfl⟩:∃n:Nat,k=(n:Int):=⟨k.toNat,by omega⟩
 have ah:k<D is:=by omega
 have hi:=zF.1 fY;have ew:=aek cash cs is ak rk k ⟨vv,fY⟩;have R:=LR vv hi k;have aq:=vd cs is ak rk k (D is);have ll:=aep cash (eF cs is ak rk k (D is)) ⟨by omega,by omega,λ_=>R⟩
 unfold ye at ll;rw[Y R.right] at ll;obtain⟨i,L⟩:∃i,is[k]?=some i:=⟨_,bh ah⟩;have jM:=kW (d:=0) L;have fK:=hi.b6 k ah;have iF:=LI (cash:=cash) (l:=eF cs is ak rk k (D is)) (j:=(is.getD k 0).toNat) (by omega);have ia:(hy cash (eF cs is ak rk k (D is))).length=D cs:=by unfold hy;rw[al,aq]
 have bq:ve cash (eF cs is ak rk k (D is)) (is.getD k 0).toNat=tX cash cs is ak rk k:=rfl;rw[bq] at iF;rw[jM] at fK iF;obtain⟨n,rfl⟩:∃n:Nat,i=(n:Int):=⟨i.toNat,by omega⟩
 rw[gK] at iF ⊢;simp only[dm] at X ew;have ix:n<(hy cash (eF cs is ak rk k (D is))).length:=by omega
 generalize lI cash (eF cs is ak rk k (D is))=wK at *;generalize hy cash (eF cs is ak rk k (D is))=qY at *;generalize (af cash (eF cs is ak rk k (D is))).iI.map om=FD at *;generalize av (tX cash cs is ak rk k)=aO at *;obtain⟨⟨f1,f2⟩,⟨f3,f4⟩⟩:=aO;refine ai ?_;repeat' (intro h<;>simp only[h,go_sem,go_sem_proc,sS,rU,rV,dm,X,ew,ll,dI,ek,L,iF,ix,az,aI,bne,beq_self_eq_true,al,bm,b3,cA]<;>try refine ag ?_ ?_)
def kX (cash:List Int)(cs:List aB)(is:List Int)(ak rk:Int)(k:Nat):Rat:=tX cash cs is ak rk k-kn cash cs is ak rk k
def FC (cash:List Int)(cs:List aB)(is:List Int)(ak rk k:Int):Data:=if h7 cash cs is ak rk=true then (if 0<=k/\k<(D is) then .dj [.bool (decide (0<kX cash cs is ak rk k.toNat)),.agg (az (av (kX cash cs is ak rk k.toNat))),.int .i64 0] else .dj [.bool false,.agg (az cW),.int .i64 4]) else .dj [.bool false,.agg (az cW),.int .i64 1]
def Rh {cash:List Int}{cs:List aB}{is:List Int}{ak rk:Int}(aL:q0 cash cs is)(h:yf cash cs is ak rk){k:Nat}(I:k<D is):e0 482 (tX cash cs is ak rk k)/\e0 482 (kn cash cs is ak rk k):=by
 have fK:=h.b6 k I;exact⟨WE (LR aL h k) (by rw[vd];omega),WE (LR aL h (-1)) (by rw[vd];omega)⟩
def arW {x:Rat}:decide (x.num.sign>0)=decide (0<x):=by
 have:x.num.sign>0↔0<x:=by
  show 0<x.num.sign↔_;rw[Int.sign_pos_iff,Rat.lt_iff,Rat.zero_num,Rat.zero_den];omega
 rw[decide_eq_decide];exact this
def LV:=bV pw λ(cash,cs,is,ak,rk,k)=>cu (q0 cash cs is) (.same (FC cash cs is ak rk k))
@[go_sem] def aet (cash cs is ak rk k):=cH LV rfl Dg (cash,cs,is,ak,rk,k) rfl
def aI0 (T:ba)(Bk:T GC=aK LU)(sT:T B3=aK Iu)(nL:T xb=aK yU):WF T ap3 LV:=by
 refine cp λ(cash,cs,is,ak,rk,k)=>cT λJ=>⟨rfl,ck ?_⟩;simp only[ap3,pw,cd];have bw:=aes cash cs is ak rk k J;have O:=WT cash cs is ak rk J;unfold FC;unfold FB at bw;unfold Bj at O;rcases fY:h7 cash cs is ak rk
 ·rw[aa (by decide)];rw[aa (by rw[fY];decide)] at bw O;simp only[dm,az,cW,bY] at bw O;refine ai ?_;repeat' (intro h<;>simp only[h,go_sem,go_sem_proc,Bk,sT,nL,dm,bw,O,az,cW,bY,bne,show ((1:Int)==0)=false from rfl,show ((4:Int)==0)=false from rfl,cA]<;>try refine ag ?_ ?_)
 rw[Y rfl];rw[Y fY] at bw O
 by_cases I:0<=k/\k<D is
 case neg =>
  rw[aa I] at bw ⊢;simp only[dm,az,cW,bY] at bw O;refine ai ?_;repeat' (intro h<;>simp only[h,go_sem,go_sem_proc,Bk,sT,nL,dm,bw,O,az,cW,bY,bne,show ((1:Int)==0)=false from rfl,show ((4:Int)==0)=false from rfl,cA]<;>try refine ag ?_ ?_)
 rw[Y I] at bw ⊢;obtain⟨k,rfl⟩:∃n:Nat,k=(n:Int):=⟨k.toNat,by omega⟩
 have ah:k<D is:=by omega
 have hi:=zF.1 fY;obtain⟨fB,gN⟩:=Rh J hi ah;rw[gK] at bw ⊢;have Dj:=WS cash cs is ak rk ah;have gw:=LQ cash cs is ak rk (D is);have Iv:=U9 (hU fB (by omega)) (hU gN (by omega)) (xQ fB (wy gN) (by omega));have bb:tX cash cs is ak rk k-kn cash cs is ak rk k=kX cash cs is ak rk k:=rfl;rw[bb] at Iv;have qG:(av (kX cash cs is ak rk k)).1.1=(kX cash cs is ak rk k).num.sign:=rfl;have ju:=arW (x:=kX cash cs is ak rk k);generalize nj cash cs is ak rk (D is)=IL at *;generalize av (tX cash cs is ak rk k)=a4 at *;generalize av (kn cash cs is ak rk k)=s3 at *;generalize decide (0<kX cash cs is ak rk k)=B at *;generalize av (kX cash cs is ak rk k)=bs at *;generalize (kX cash cs is ak rk k).num.sign=ss at *;obtain⟨⟨qJ,qK⟩,⟨K9,La⟩⟩:=a4;obtain⟨⟨i1,i2⟩,⟨i3,i4⟩⟩:=s3;obtain⟨⟨cU,dc⟩,⟨hj,kV⟩⟩:=bs;dsimp only at qG;subst qG;simp only[az,dm] at bw O Iv;refine ai ?_;repeat' (intro h<;>simp only[h,go_sem,go_sem_proc,Bk,sT,nL,dm,bw,O,Iv,Dj,ju,az,bne,beq_self_eq_true,gw,ah,al,bm,b3]<;>try refine ag ?_ ?_)
def Ri:=bV pw λ(cash,cs,is,ak,rk,k)=>cu (q0 cash cs is) (.same (FC cash cs is ak rk k))
@[go_sem] def arX (cash cs is ak rk k):=cH Ri rfl Dg (cash,cs,is,ak,rk,k) rfl
def aI1 (T:ba)(FE:T NN=aK Rg)(vh:T GA=aK LS)(oL:T yB=aK CK):WF T aq9 Ri:=by
 refine cp λ(cash,cs,is,ak,rk,k)=>cT λJ=>⟨rfl,ck ?_⟩;simp only[aq9,pw,cd];have bw:=arV cash cs is ak rk k J;have O:=aer cash cs is ak rk J;unfold FC;unfold FB at bw;unfold Bj at O;rcases fY:h7 cash cs is ak rk
 ·rw[aa (by decide)];rw[aa (by rw[fY];decide)] at bw O;simp only[dm,az,cW,bY] at bw O;refine ai ?_;repeat' (intro h<;>simp only[h,go_sem,go_sem_proc,FE,vh,oL,dm,bw,O,az,cW,bY,bne,show ((1:Int)==0)=false from rfl,show ((4:Int)==0)=false from rfl,cA]<;>try refine ag ?_ ?_)
 rw[Y rfl];rw[Y fY] at bw O
 by_cases I:0<=k/\k<D is
 case neg =>
  rw[aa I] at bw ⊢;simp only[dm,az,cW,bY] at bw O;refine ai ?_;repeat' (intro h<;>simp only[h,go_sem,go_sem_proc,FE,vh,oL,dm,bw,O,az,cW,bY,bne,show ((1:Int)==0)=false from rfl,show ((4:Int)==0)=false from rfl,cA]<;>try refine ag ?_ ?_)
 rw[Y I] at bw ⊢;obtain⟨k,rfl⟩:∃n:Nat,k=(n:Int):=⟨k.toNat,by omega⟩
 have ah:k<D is:=by omega
 have hi:=zF.1 fY;obtain⟨fB,gN⟩:=Rh J hi ah;rw[gK] at bw ⊢;have Dj:=WS cash cs is ak rk ah;have gw:=LQ cash cs is ak rk (D is);have Iv:=U8 (hU fB (by omega)) (hU gN (by omega)) (xQ fB (wy gN) (by omega));have bb:tX cash cs is ak rk k-kn cash cs is ak rk k=kX cash cs is ak rk k:=rfl;rw[bb] at Iv;have qG:(av (kX cash cs is ak rk k)).1.1=(kX cash cs is ak rk k).num.sign:=rfl;have ju:=arW (x:=kX cash cs is ak rk k);generalize nj cash cs is ak rk (D is)=IL at *;generalize av (tX cash cs is ak rk k)=a4 at *;generalize av (kn cash cs is ak rk k)=s3 at *;generalize decide (0<kX cash cs is ak rk k)=B at *;generalize av (kX cash cs is ak rk k)=bs at *;generalize (kX cash cs is ak rk k).num.sign=ss at *;obtain⟨⟨qJ,qK⟩,⟨K9,La⟩⟩:=a4;obtain⟨⟨i1,i2⟩,⟨i3,i4⟩⟩:=s3;obtain⟨⟨cU,dc⟩,⟨hj,kV⟩⟩:=bs;dsimp only at qG;subst qG;simp only[az,dm] at bw O Iv;refine ai ?_;repeat' (intro h<;>simp only[h,go_sem,go_sem_proc,FE,vh,oL,dm,bw,O,Iv,Dj,ju,az,bne,beq_self_eq_true,gw,ah,al,bm,b3]<;>try refine ag ?_ ?_)
def l7 (cs:List aB)(is:List Int)(ak rk:Int)(k:Nat):List aB:=(eF cs is ak rk k (D is)).set (is.getD k 0).toNat ((cs.getD (is.getD k 0).toNat iN).1,(cs.getD (is.getD k 0).toNat iN).2.1,rk,(cs.getD (is.getD k 0).toNat iN).2.2.2)
def tY (cash:List Int)(cs:List aB)(is:List Int)(ak rk:Int)(k:Nat):Rat:=ve cash (l7 cs is ak rk k) (is.getD k 0).toNat
def LW (cash:List Int)(cs:List aB)(is:List Int)(ak rk k:Int):Data:=if h7 cash cs is ak rk=true then (if 0<=k/\k<(D is) then .dj [.int .i64 (if 0<kX cash cs is ak rk k.toNat then (if tY cash cs is ak rk k.toNat<=kn cash cs is ak rk k.toNat then 1 else 2) else 0),.int .i64 0] else .dj [.int .i64 0,.int .i64 4]) else .dj [.int .i64 0,.int .i64 1]
def aeu (cs:List aB)(is:List Int)(ak rk:Int)(k:Nat):(l7 cs is ak rk k).length=D cs:=by unfold l7;rw[List.length_set,vd]
def arY {cash:List Int}{cs:List aB}{is:List Int}{ak rk:Int}(aL:q0 cash cs is)(h:yf cash cs is ak rk){k:Nat}(I:k<D is):fX cash (l7 cs is ak rk k):=by
 have bH:=Ra h (k:Int) (cl _) I;rw[aa (λh=>h.2 rfl)] at bH;have X:=aIn h (aq3 h (k:Int) (cl _)) bH;exact⟨X,aL.1,by rw[aeu];exact aL.2.1,λc J=>((hL.1 X).2.2.2 c J).2.2.2.2.2.2.2⟩
def arZ {x y:Rat}:decide (lb x y<=0)=decide (x<=y):=by
 have h:=acM (x:=x) (y:=y);rw[od,decide_eq_true_iff,decide_eq_true_iff];rw[od,decide_eq_true_iff,decide_eq_true_iff] at h
 constructor
 ·intro F;apply mN;intro G;have:=h.2 (by grind);omega
 ·intro F;apply mN;intro G;have:=h.1 (by omega);grind
def Rj:=bV pw λ(cash,cs,is,ak,rk,k)=>cu (q0 cash cs is) (.same (LW cash cs is ak rk k))
@[go_sem] def ar0 (cash cs is ak rk k):=cH Rj rfl Dg (cash,cs,is,ak,rk,k) rfl
def aI2 (T:ba)(yg:T GF=aK LV)(sT:T B3=aK Iu)(sQ:T GH=aK LM)(sR:T Gw=aK Io)(kL:T sa=aK v5):WF T ap4 Rj:=by
 refine cp λ(cash,cs,is,ak,rk,k)=>cT λJ=>⟨rfl,ck ?_⟩;simp only[ap4,pw,cd];have ad:=aet cash cs is ak rk k J;have O:=WT cash cs is ak rk J;unfold LW;unfold FC at ad;unfold Bj at O;rcases fY:h7 cash cs is ak rk
 ·rw[aa (by decide)];rw[aa (by rw[fY];decide)] at ad O;simp only[dm,az,cW,bY] at ad O;refine ai ?_;repeat' (intro (ao:_=_)<;>simp only[ao,go_sem,go_sem_proc,yg,sT,sQ,sR,kL,dm,ad,az,cW,bY,bne,show ((1:Int)==0)=false from rfl,cA]<;>try refine ag ?_ ?_)
 rw[Y rfl];rw[Y fY] at ad O
 by_cases I:0<=k/\k<D is
 case neg =>
  rw[aa I] at ad ⊢;simp only[dm,az,cW,bY] at ad O;refine ai ?_;repeat' (intro (ao:_=_)<;>simp only[ao,go_sem,go_sem_proc,yg,sT,sQ,sR,kL,dm,ad,az,cW,bY,bne,show ((4:Int)==0)=false from rfl,cA]<;>try refine ag ?_ ?_)
 rw[Y I] at ad ⊢;obtain⟨k,rfl⟩:∃n:Nat,k=(n:Int):=⟨k.toNat,by omega⟩
 have ah:k<D is:=by omega
 rw[gK] at ad ⊢;rcases bb:decide (0<kX cash cs is ak rk k)
 ·rw[aa (of_decide_eq_false bb)];rw[bb] at ad;generalize av (kX cash cs is ak rk k)=bs at *;obtain⟨⟨cU,dc⟩,⟨hj,kV⟩⟩:=bs;simp only[az,dm] at ad;refine ai ?_;repeat' (intro (ao:_=_)<;>simp only[ao,go_sem,go_sem_proc,yg,sT,sQ,sR,kL,dm,ad,bne,beq_self_eq_true,b3,cA]<;>try refine ag ?_ ?_)
 rw[Y (of_decide_eq_true bb)];rw[bb] at ad;have hi:=zF.1 fY;have ew:=aej cash cs is ak rk k ⟨J,fY⟩;have R:=arY J hi ah;obtain⟨-,gN⟩:=Rh J hi ah;have vv:=J;obtain⟨aL,eu,yR⟩:=J;have uL:=aeu cs is ak rk k;have ll:=WD cash (l7 cs is ak rk k) ⟨by omega,by omega,λ_=>R⟩
 unfold ye at ll;rw[Y R.right] at ll;obtain⟨i,L⟩:∃i,is[k]?=some i:=⟨_,bh ah⟩;have jM:=kW (d:=0) L;have fK:=hi.b6 k ah;have iF:=LI (cash:=cash) (l:=l7 cs is ak rk k) (j:=(is.getD k 0).toNat) (by omega);have fB:=WE R (j:=(is.getD k 0).toNat) (by omega);have ia:(hy cash (l7 cs is ak rk k)).length=D cs:=by unfold hy;rw[al,uL]
 have bq:ve cash (l7 cs is ak rk k) (is.getD k 0).toNat=tY cash cs is ak rk k:=rfl;rw[bq] at iF fB;have bH:=Ra hi (k:Int) (cl _) ah;rw[aa (λh=>h.2 rfl)] at bH;have tk:l7 cs is ak rk k=(eF cs is ak rk k (D is)).set (is.getD k 0).toNat ((cs.getD (is.getD k 0).toNat iN).1,(cs.getD (is.getD k 0).toNat iN).2.1,rk,(cs.getD (is.getD k 0).toNat iN).2.2.2):=rfl;rw[jM] at fK iF bH tk;obtain⟨n,rfl⟩:∃n:Nat,i=(n:Int):=⟨i.toNat,by omega⟩
 rw[gK] at iF bH tk;have Lk:(eF cs is ak rk k (D is)).length=D cs:=vd _ _ _ _ _ _;generalize cs.getD n iN=c at *;obtain⟨ar,c2,c3,c4⟩:=c;have la:=arE bH rk;dsimp only at tk;rw[<-tk] at la;have bO:=arD (l:=eF cs is ak rk k (D is)) (k:=n) (by omega);have Dj:=WS cash cs is ak rk ah;have gw:=LQ cash cs is ak rk (D is);have lV:=Qb (hU fB (by omega)) (hU gN (by omega));have hle:=arZ (x:=tY cash cs is ak rk k) (y:=kn cash cs is ak rk k);have ix:n<(hy cash (l7 cs is ak rk k)).length:=by omega
 have Dh:n<D cs:=by omega
 have Iw:=λ(K:bc->Prop) (st:bc)=>nB (K:=K) (st:=st) p3 11 350034 0 (l7 cs is ak rk k);rw[uL] at Iw;have Is:((eF cs is ak rk k (D is)).map bL).flatten.map M.H=aU bL (eF cs is ak rk k (D is)):=rfl;generalize lI cash (l7 cs is ak rk k)=wK at *;generalize hy cash (l7 cs is ak rk k)=qY at *;generalize (af cash (l7 cs is ak rk k)).iI.map om=FD at *;generalize l7 cs is ak rk k=WC at *;generalize eF cs is ak rk k (D is)=XL at *;generalize nj cash cs is ak rk (D is)=IL at *;generalize av (kX cash cs is ak rk k)=bs at *;generalize av (kn cash cs is ak rk k)=s3 at *;generalize av (tY cash cs is ak rk k)=aR at *;generalize lb (tY cash cs is ak rk k) (kn cash cs is ak rk k)=CQ at *;obtain⟨⟨cU,dc⟩,⟨hj,kV⟩⟩:=bs;obtain⟨⟨i1,i2⟩,⟨i3,i4⟩⟩:=s3;obtain⟨⟨dI,ek⟩,⟨ht,fV⟩⟩:=aR;simp only[az,dm] at ad O ew lV;rcases Z:decide (tY cash cs is ak rk k<=kn cash cs is ak rk k)
 ·rw[aa (of_decide_eq_false Z)];rw[Z] at hle;refine ai ?_;repeat' (intro (ao:_=_)<;>simp only[ao,go_sem,go_sem_proc,yg,sT,sQ,sR,kL,dm,ad,O,ew,ll,Is,L,iF,Dj,gw,ah,ix,Dh,Lk,uL,la,bO,Iw,lV,hle,az,aI,bne,beq_self_eq_true,al,bm,b3,cA]<;>try refine ag ?_ ?_)
 ·rw[Y (of_decide_eq_true Z)];rw[Z] at hle;refine ai ?_;repeat' (intro (ao:_=_)<;>simp only[ao,go_sem,go_sem_proc,yg,sT,sQ,sR,kL,dm,ad,O,ew,ll,Is,L,iF,Dj,gw,ah,ix,Dh,Lk,uL,la,bO,Iw,lV,hle,az,aI,bne,beq_self_eq_true,al,bm,b3,cA]<;>try refine ag ?_ ?_)
end Go.Mini
namespace Go.Mini
open Classical
def LX (cs:List aB)(x:Nat->Rat)(i:Nat)(acc:Option Rat)(c:aB):Option Rat :=
 if c.2.1=(i:Int) then acc.bind λs=>if qF s (gW cs (x c.1.toNat) c)=true then some (s+gW cs (x c.1.toNat) c) else none else acc
def zG (cash:List Int)(cs:List aB)(x:Nat->Rat)(i:Nat)(l:List aB):Option Rat:=l.foldl (LX cs x i) (some ((cash.getD i 0:Int):Rat))
def aI3 (cash:List Int)(cs:List aB)(x:Nat->Rat)(i:Nat):zG cash cs x i []=some ((cash.getD i 0:Int):Rat):=rfl
def Rk (cash:List Int)(cs:List aB)(x:Nat->Rat)(i:Nat)(l:List aB)(c:aB):zG cash cs x i (l++[c])=LX cs x i (zG cash cs x i l) c:=by
 unfold zG;rw[List.foldl_append];rfl
def wO (cash:List Int)(cs:List aB)(x:Nat->Rat)(i:Nat)(l:List aB):Rat:=((cash.getD i 0:Int):Rat)+cC (l.map bP) λc=>if c.to=(i:Int) then (af cash cs).kf x c else 0
def aI4 {cash:List Int}{cs:List aB}(h:hr cash cs=true)(x:Nat->Rat)(i:Nat)(l:List aB){c:aB}(J:c∈cs):wO cash cs x i (l++[c])=wO cash cs x i l+if c.2.1=(i:Int) then gW cs (x c.1.toNat) c else 0:=by
 unfold wO;rw[kE,P1,<-ac6 h x J];show _+(_+((if (bP c).to=(i:Int) then (af cash cs).kf x (bP c) else 0)+0))=_;have e:(bP c).to=c.2.1:=rfl;rw[e,rH];grind
def aev (cash:List Int)(cs:List aB)(x:Nat->Rat):Prop:=∀i,i<(D cash)->zG cash cs x i cs=some (x i)
section
variable {cash:List Int} {cs:List aB} (R:fX cash cs)
include R
def aI5 {eZ:Nat}(gx:eZ=324):0<jo (D cash) (x2 cash cs)/\jo (D cash) (x2 cash cs)<=2^eZ:=by
 have:=R.jV;exact⟨ab2 λk I=>aoC R I,acu (e:=eZ) (λk _=>aoD R k) (by omega)⟩
def aI6:∃bk:Nat,0<bk/\(∃a,a<=654/\bk<=2^a)/\(∀i,i<(D cash)->eV bk ((af cash cs).cL i))/\∀c∈cs,eV bk ((af cash cs).kf (af cash cs).cL (bP c)):=by
 obtain⟨bk,F,⟨a,G,ab⟩,aV⟩:=aoB R;obtain⟨eZ,gx⟩:∃eZ,eZ=324:=⟨_,rfl⟩;obtain⟨hk,hQ⟩:=aI5 R gx;refine⟨bk*jo (D cash) (x2 cash cs),Nat.mul_pos F hk,⟨a+eZ,by omega,by rw[Nat.pow_add];exact Nat.mul_le_mul ab hQ⟩,λi O=>(aV i O).more _,λc J=>?_⟩
 have bu:=aoE R aV J;have I:(bP c).aF<D cash:=R.ok.aF _ (wA J);refine bu.of_dvd ?_;obtain⟨m,hm⟩:=ab6 (cr:=x2 cash cs) I;exact⟨m,by rw[hm,Nat.mul_assoc]⟩
def aI7 {i:Nat}(O:i<D cash){l gb:List aB}(aq:cs=l++gb):e0 708 (wO cash cs (af cash cs).cL i l):=by
 obtain⟨bk,F,⟨a,G,ab⟩,-,aV⟩:=aI6 R
 have E3:∀m:List aB,(∀c∈m,c∈cs)->0<=cC (m.map bP) λc=>if c.to=(i:Int) then (af cash cs).kf (af cash cs).cL c else 0:=λm hm=>AO λy aj=>by
  obtain⟨c,J,rfl⟩:=gm.1 aj
  try dsimp only
  split
  ·exact R.ok.al1 _ (wA (hm c J))
  ·exact Rat.le_refl
 have Oc:∀c∈l,c∈cs:=λc J=>by rw[aq];simp[J]
 have qA:∀c∈gb,c∈cs:=λc J=>by rw[aq];simp[J]
 have jK:(0:Rat)<=((cash.getD i 0:Int):Rat):=by have:=(R.cash i).1;exact_mod_cast this
 have Z:eV bk (wO cash cs (af cash cs).cL i l):=by
  unfold wO;refine (eV.int _ _).add (eV.cC λy aj=>?_);obtain⟨c,J,rfl⟩:=gm.1 aj
  split
  ·exact aV c (Oc c J)
  ·exact eV.zero _
 have ay:0<=wO cash cs (af cash cs).cL i l:=by
  have:=E3 l Oc;unfold wO;grind
 have hle:wO cash cs (af cash cs).cL i l<=(af cash cs).cL i:=by
  rw[(U4 R.ok).1 i O]
  have e:(af cash cs).xN (af cash cs).cL i=wO cash cs (af cash cs).cL i l+cC (gb.map bP) λc=>if c.to=(i:Int) then (af cash cs).kf (af cash cs).cL c else 0:=by
   have aC:(af cash cs).xN (af cash cs).cL i=((cash.getD i 0:Int):Rat)+cC (cs.map bP) λc=>if c.to=(i:Int) then (af cash cs).kf (af cash cs).cL c else 0:=rfl;rw[aC];unfold wO;have bN:cC (cs.map bP) (λc=>if c.to=(i:Int) then (af cash cs).kf (af cash cs).cL c else 0)=cC ((l++gb).map bP) λc=>if c.to=(i:Int) then (af cash cs).kf (af cash cs).cL c else 0:=by rw[<-aq]
   rw[bN,kE,P1];grind
  have:=E3 gb qA;grind
 exact (Z.sz F ab ay (e:=54) (Rat.le_trans hle (aEh R O))).mono (by omega)
def aI8:aev cash cs (af cash cs).cL:=λi O=>by
 have key:∀n (l gb:List aB),D l=n->cs=l++gb->zG cash cs (af cash cs).cL i l=some (wO cash cs (af cash cs).cL i l):=by
  intro n
  induction n with
  |zero =>
   intro l gb aq _;have:l=[]:=xY.1 aq;subst this;rw[aI3];unfold wO;rw[bY,cC,rH]
  |succ n aG =>
   intro l gb aq jD;rcases BW l with ay|⟨m,c,rfl⟩
   ·subst ay;cases aq
   ·rw[BX] at *;simp only[gC,qI] at aq;have J:c∈cs:=by rw[jD];simp
    have fD:cs=m++([c]++gb):=by rw[jD,List.append_assoc]
    rw[Rk,aI4 R.right _ i m J,aG m _ (by omega) fD];unfold LX
    by_cases C6:c.2.1=(i:Int)
    ·rw[Y C6,Y C6,qk,Y];refine xQ (aI7 R O fD) (b:=482) ?_ (by omega);rw[<-ac6 R.right _ J];exact aoF R J
    ·rw[aa C6,aa C6,rH]
 have F:=key _ cs [] rfl (by simp);rw[F,(U4 R.ok).1 i O]
 rfl
end
end Go.Mini
namespace Go.Mini
open Go
def ar1 (x:Rat):x*(x.den:Rat)=(x.num:Rat):=by
 have h:(Rat.divInt x.num x.den)=x:=Rat.num_divInt_den x;rw[Rat.divInt_eq_div] at h;have ay:((x.den:Int):Rat)≠0:=by have:=x.den_nz;exact_mod_cast this
 have G:(x.num:Rat)/((x.den:Int):Rat)*((x.den:Int):Rat)=(x.num:Rat):=Rat.div_mul_cancel ay;rw[h,oe] at G;exact G
def aI9 {x y:Rat}(h:qF x y=true):dH (x+y):=by
 unfold qF at h;simp only[fC] at h;obtain⟨-,-,ab,aV⟩:=h
 have Z:((x.den:Int)*y.den)≠0:=by
  have F:=x.den_nz;have G:=y.den_nz;exact Int.mul_ne_zero (by omega) (by omega)
 have e:(x+y)*(((x.den:Int)*y.den:Int):Rat)=((x.num*y.den+y.num*x.den:Int):Rat):=by
  have au:x*(x.den:Rat)=(x.num:Rat):=ar1 x;have aC:y*(y.den:Rat)=(y.num:Rat):=ar1 y;rw[Rat.intCast_add,sC,sC,sC,oe,oe,<-au,<-aC];grind
 obtain⟨f1,f2⟩:=EZ Z e;have:=pc ab;have:=pc aV;exact⟨by omega,by omega⟩
def aew (aN:List bz):List Rat:=aN.map El
structure ar2 (cash:List Int) (cs:List aB) (aN:List bz):Prop where
 n:(D cash)<=1000000
 c:(D cs)<=1000000
 o:yX aN
 wF:hr cash cs=true->fX cash cs
 sz:hr cash cs=true->(D aN)=(D cash)->aN.any (xz B2)=false->∀f∈aN,e0 460 (El f)
open Classical in
def aex (cash:List Int)(cs:List aB)(x:Nat->Rat):Bool:=decide (aev cash cs x)
open Classical in
def aJa {cash:List Int}{cs:List aB}{x:Nat->Rat}:aex cash cs x=true↔aev cash cs x:=by
 unfold aex;exact decide_eq_true_iff
def aey (cash:List Int)(cs:List aB)(aN:List bz):Bool:=hr cash cs&&(decide (D aN=D cash)&&(!aN.any (xz B2)&&aex cash cs λi=>(aew aN).getD i 0))
structure LY (cash:List Int) (cs:List aB) (x:Nat->Rat) (l:List aB) (s:Nat->Rat):Prop where
 a:∀i,i<(D cash)->zG cash cs x i l=some (s i)
 l:∀i,i<(D cash)->dH (s i)
def LY.skip {cash:List Int}{cs:List aB}{x:Nat->Rat}{l:List aB}{s:Nat->Rat}(h:LY cash cs x l s){c:aB}(J:c.2.1<0):LY cash cs x (l++[c]) s:=by
 refine⟨λi O=>?_,h.l⟩;rw[Rk,h.a i O];unfold LX;rw[aa (by omega)]
def LY.add {cash:List Int}{cs:List aB}{x:Nat->Rat}{l:List aB}{s:Nat->Rat}(h:LY cash cs x l s){c:aB}{t:Nat}(J:c.2.1=(t:Int))(I:qF (s t) (gW cs (x c.1.toNat) c)=true):LY cash cs x (l++[c]) λi=>if i=t then s t+gW cs (x c.1.toNat) c else s i:=by
 refine⟨λi O=>?_,λi O=>?_⟩
 ·rw[Rk,h.a i O];unfold LX
  by_cases Rl:i=t
  ·subst Rl;rw[Y J,qk,Y I,Y rfl]
  ·rw[aa (by omega),aa Rl]
 ·by_cases Rl:i=t
  ·rw[Y Rl];exact aI9 I
  ·rw[aa Rl];exact h.l i O
abbrev aez:(List Int)×(List aB)×(List bz)->List Data:=λ(cash,cs,aN)=>[.ax (cash.map aI),.ax (cs.map bL),.ax (aN.map az)]
def ar3:=bV aez λ(cash,cs,aN)=>cu (ar2 cash cs aN) (.same (.bool (aey cash cs aN)))
def aJb:∀a b,aez a=aez b->a=b:=by
  rintro⟨K5,C0,uj⟩ ⟨K6,uq,uk⟩ h;simp only[bj,Data.ax.injEq,and_true] at h;exact et (map_inj gq _ _ h.1) (et (map_inj tM _ _ h.2.1) (map_inj pS _ _ h.2.2))
@[go_sem] def aJc (cash cs aN):=cH ar3 rfl aJb (cash,cs,aN) rfl
section
variable {cash:List Int} {cs:List aB} (R:fX cash cs)
include R
def aJd:yX (lI cash cs):=by
 have:=R.jV;exact acj (by omega) λi O=>hU (Qp R O) (by omega)
def aJe:(lI cash cs).any (xz B2)=false/\aew (lI cash cs)=(eM (D cash)).map (af cash cs).cL:=by
 refine⟨?_,?_⟩
 ·rw[List.any_eq_false];intro f aH;obtain⟨y,aj,rfl⟩:=gm.1 aH;obtain⟨i,O,rfl⟩:=gm.1 aj;have mD:i<D cash:=ig.1 O;have aq:=hU (Qp R mD) (by omega);have aL:=acI R.ok mD;rw[ajq];show ¬ (!dM (av ((af cash cs).cL i))||decide ((av ((af cash cs).cL i)).1.1<0))=true;rw[PV aq];have:decide ((af cash cs).cL i<0)=false:=kM (by grind);rw[<-aou] at this;have G:decide ((av ((af cash cs).cL i)).1.1<0)=false:=this;rw[G];decide
 ·unfold aew lI c8;rw[pJ];exact (ox λx _=>Hd x).trans (List.map_id _)
def aJf:ar2 cash cs (lI cash cs)/\aey cash cs (lI cash cs)=true:=by
 obtain⟨F,G⟩:=aJe R;have aL:=R.jV;have eu:=R.wE;refine⟨⟨by omega,by omega,aJd R,λ_=>R,λ_ _ _ f aH=>?_⟩,?_⟩
 ·obtain⟨y,aj,rfl⟩:=gm.1 aH;obtain⟨i,O,rfl⟩:=gm.1 aj;rw[Hd];exact (Qp R (ig.1 O)).mono (by omega)
 ·unfold aey;have aq:(lI cash cs).length=D cash:=qT _ _;rw[R.right,F,hN aq,fN,fN,cA,fN,aJa,G];intro i O;have L:=aI8 R i O
  have jD:zG cash cs (λi=>((eM (D cash)).map (af cash cs).cL).getD i 0) i cs=zG cash cs (af cash cs).cL i cs:=by
   have X:=(hL.1 R.right).2.2.2
   have key:∀n (l:List aB),D l=n->(∀c∈l,c∈cs)->zG cash cs (λi=>((eM (D cash)).map (af cash cs).cL).getD i 0) i l=zG cash cs (af cash cs).cL i l:=by
    intro n
    induction n with
    |zero=>intro l aq _;rw[xY.1 aq];rfl
    |succ n aG =>
     intro l aq hm;rcases BW l with ay|⟨m,c,rfl⟩
     ·subst ay;cases aq
     ·rw[BX] at *;simp only[gC,qI] at aq;have J:=X c (hm c (by simp));rw[Rk,Rk,aG m (by omega) λy aj=>hm y (by simp[aj])];unfold LX;have:((eM (D cash)).map (af cash cs).cL).getD c.1.toNat 0=(af cash cs).cL c.1.toNat:=Fv (af cash cs).cL 0 (show c.1.toNat<(D cash) by omega);simp only[this]
   exact key _ cs rfl λc J=>J
  rw[jD,L];show _=some ((bA (D cash) (af cash cs).cL).getD i 0);rw[Fv (af cash cs).cL 0 O]
end
def aJg (l:List (List Nat)):l.map om=(l.map λr=>r.map λn=>((n:Nat):Int)).map Ie:=by
 rw[pJ];refine ox λr _=>?_;simp only[om,Ie,Function.comp_apply,pJ]
 rfl
structure LZ (cash:List Int) (cs:List aB) (aN ei:List Int) (aJ:List (List Int)):Prop where
 s:fX cash cs
 h:lI cash cs=aN.map λn:Int=>av (n:Rat)
 p:hy cash cs=ei.map λn:Int=>av (n:Rat)
 f:((af cash cs).iI.map λr=>r.map λn=>((n:Nat):Int))=aJ
 O:∀n∈aN,eJ n
 pi:∀n∈ei,eJ n
 o:aGf aJ
def LZ.solve {cash:List Int}{cs:List aB}{aN ei:List Int}{aJ:List (List Int)}(h:LZ cash cs aN ei aJ):Io [.ax (cash.map aI),.ax (cs.map bL)]=some (.same (.dj [.agg [.ax ((aN.map λn:Int=>av (n:Rat)).map az),.ax ((ei.map λn:Int=>av (n:Rat)).map az),.ax (aJ.map Ie)],.int .i64 0])):=by
 have aL:=h.s.jV;have eu:=h.s.wE;have ll:=WD cash cs ⟨by omega,by omega,λ_=>h.s⟩
 unfold ye at ll;rw[Y h.s.right,h.h,h.p,aJg,h.f] at ll;exact ll
def LZ.fits {cash:List Int}{cs:List aB}{aN ei:List Int}{aJ:List (List Int)}(h:LZ cash cs aN ei aJ):ar3 [.ax (cash.map aI),.ax (cs.map bL),.ax ((aN.map λn:Int=>av (n:Rat)).map az)]=some (.same (.bool true)):=by
 obtain⟨F,G⟩:=aJf h.s;have:=aJc cash cs (lI cash cs) F;rw[G,h.h] at this;exact this
def LZ.small {cash:List Int}{cs:List aB}{aN ei:List Int}{aJ:List (List Int)}(h:LZ cash cs aN ei aJ):(D aN)<=6/\D ei<=12:=by
 have F:=congrArg D h.h;have G:=congrArg D h.p;unfold lI at F;unfold hy at G;rw[qT,al] at F;rw[al,al] at G;have aL:=h.s.jV;have eu:=h.s.wE;omega
end Go.Mini
namespace Go.Mini
open Classical
def au:Day:=af [5,0] [(0,1,0,10),(1,-1,0,4)]
def aC:Day:=af [0,0] [(0,1,1,10),(1,0,1,10)]
def bK:Day:=af [9] [(0,-1,0,6),(0,-1,1,2),(0,-1,1,4)]
def bN:Day:=af [0,0] [(0,1,1,10),(1,0,1,10),(0,-1,0,5)]
def c6:Day:=af [10,30] [(1,-1,0,25)]
def bt:Day:=af [10,0] [(0,1,0,30)]
def bS:Day:=af [30,0] [(0,1,0,30)]
end Go.Mini
namespace Go.Mini
open Go

end Go.Mini
namespace Go.Mini
open Classical
section
variable {cash:List Int} {cs:List aB} (R:fX cash cs)
include R
end
end Go.Mini
namespace Go.Mini
open Go
section
variable {cash:List Int} {cs:List aB} (R:fX cash cs) {i:Nat}
include R
end






def aeA {x y:Rat}(L:dH x)(aj:dH y):CG [.agg (az (av x)),.agg (az (av y))]=some (.same (.bool (decide (x=y)))):=by
 have F:=mu L;have G:=mu aj;have h:=akj (av x).1.1 (av x).1.2 (av x).2.1 (av x).2.2 (av y).1.1 (av y).1.2 (av y).2.1 (av y).2.2 ⟨F.1,F.2,G.1,G.2⟩
 have e:TL (((av x).1.1,(av x).1.2),((av x).2.1,(av x).2.2)) (((av y).1.1,(av y).1.2),((av y).2.1,(av y).2.2))=decide (x=y):=by
  show decide (av x=av y)=_
  by_cases g0:x=y
  ·rw[hN g0,g0];exact hN rfl
  ·rw[kM g0];exact kM λh=>g0 (Em h)
 rw[e] at h;exact h




def aJh {n:Int}(h:eJ n):Ez [.int .i64 n,.int .i64 1]=some (.same (.dj [.agg (az (av (n:Rat))),.int .i64 0])):=by
 have:=ay2 n 1 ⟨h,Qg⟩;rw[PY h] at this;exact this
def ar4:bJ:=b5 133 2 [.t 4] (Q [c0 2 334002 0,cx 4 false] (Q [aP 25 (.call Y6 []),E 5 25] (.seq (Q [aS 26 5 2,dv 27 Y7 26,fb 28 27] (b4 28 [E 29 5,E 4 29])) (Q [aS 30 5 2,dv 31 Y8 30,aP 6 (.alloc 334006 [.nil,.nil,.nil,bM 0,bM 0]),aT 5 6 31] (Q [aS 33 5 6,dv 34 B3 33,E 32 34,a0 35 0 32,a0 36 1 32,E 7 35,E 8 36] (Q [aS 38 5 2,dv 39 GA 38,E 37 39,a0 40 0 37,a0 41 1 37,E 9 40,E 10 41] (Q [aS 43 5 6,E 44 1,bI 45 GC 43 44,E 42 45,a0 46 0 42,a0 47 1 42,bQ 11 334011 cG,aT 4 11 46,E 12 47] (Q [aS 49 5 2,E 50 1,bI 51 NN 49 50,E 48 51,a0 52 0 48,a0 53 1 48,bQ 13 334013 cG,aT 4 13 52,E 14 53] (.seq (ed [E 54 8,E 55 10,bp 56 .neq 54 55,E 57 56,fr 58 57 12,fr 59 57 14,rm 60 57 .neq 58 59,cv 61 57 60,E 62 61,fr 63 62 7,fr 64 62 9,e3 65 62 (.call Y9 [.t 63,.t 64]),ha 66 62 65,cv 67 62 66,E 68 67,iR 69 68 4 11,iR 70 68 4 13,e3 71 68 (.call DP [.t 69,.t 70]),ha 72 68 71,cv 73 68 72,E 74 73,iR 75 74 5 6,e3 76 74 (.call B4 [.t 75]),iR 77 74 5 2,e3 78 74 (.call GD [.t 77]),e3 79 74 (.beq true (.t 76) (.t 78)),cv 80 74 79] avZ (b4 80 [cx 4 false])) (Q [aS 82 5 6,E 83 1,bI 84 GF 82 83,E 81 84,a0 85 0 81,a0 86 1 81,a0 87 2 81,bQ 16 334016 cG,E 15 85,aT 4 16 86,E 17 87] (Q [aS 89 5 2,E 90 1,bI 91 NO 89 90,E 88 91,a0 92 0 88,a0 93 1 88,a0 94 2 88,bQ 19 334019 cG,E 18 92,aT 4 19 93,E 20 94] (Q [aS 96 5 6,E 97 1,bI 98 NP 96 97,E 95 98,a0 99 0 95,a0 100 1 95,E 21 99,E 22 100] (Q [aS 102 5 2,E 103 1,bI 104 Za 102 103,E 101 104,a0 105 0 101,a0 106 1 101,E 23 105,E 24 106] (Q [E 107 5,E 108 107,eg 109 108 15,eg 110 108 18,h0 111 108 (.beq false (.t 109) (.t 110)),gr 112 108 111,E 113 112,uE 114 113 4 16,uE 115 113 4 19,h0 116 113 (.call DP [.t 114,.t 115]),gr 117 113 116,E 118 117,eg 119 118 17,eg 120 118 20,uF 121 118 .eql 119 120,gr 122 118 121,E 123 122,eg 124 123 21,eg 125 123 23,uF 126 123 .eql 124 125,gr 127 123 126,E 128 127,eg 129 128 22,eg 130 128 24,uF 131 128 .eql 129 130,gr 132 128 131,E 4 132] .ret))))))))))))))
def ar5:bJ:=b5 87 0 [.t 0] (Q [cx 0 false] (Q [aP 11 (.eW 338011 false [bM 0] 1 1 [(0,1,.c (bM 10))]),aP 12 (.build lS [(1,1,.c (.H (.int .i64 (-1)))),(3,1,.c (bM 12))]),aP 13 (.build lS [(1,1,.c (.H (.int .i64 (-1)))),(3,1,.c (bM 12))]),aP 14 (.eW 338014 false [bM 0,bM 0,bM 0,bM 0,bM 0,bM 0,bM 0,bM 0] 4 2 [(0,4,.t 12),(4,4,.t 13)]),aP 15 (.eW 338015 false [bM 0,bM 0] 1 2 [(0,1,.c (bM 0)),(1,1,.c (bM 1))]),aP 16 (.build [.nil,.nil,.nil,bM 0,bM 0] [(0,1,.t 11),(1,1,.t 14),(2,1,.t 15),(3,1,.c (bM 500)),(4,1,.c (bM 1))]),aP 1 (.alloc 338001 [.nil,.nil,.nil,bM 0,bM 0]),aT 5 1 16] (Q [aS 18 5 1,dv 19 B3 18,E 17 19,a0 20 0 17,a0 21 1 17,E 2 20,E 3 21] (Q [aS 23 5 1,aP 24 (.call GC [.t 23,.c (bM 0)]),E 22 24,a0 25 0 22,a0 26 1 22,bQ 4 338004 cG,aT 4 4 25,E 5 26] (Q [aS 28 5 1,aP 29 (.call GF [.t 28,.c (bM 0)]),E 27 29,a0 30 0 27,a0 31 1 27,a0 32 2 27,bQ 7 338007 cG,E 6 30,aT 4 7 31,E 8 32] (Q [aS 34 5 1,aP 35 (.call NP [.t 34,.c (bM 0)]),E 33 35,a0 36 0 33,a0 37 1 33,E 9 36,E 10 37] (.seq (Q [E 38 2,cq 39 38,a3 40 .neq 39 2,E 41 40,iR 42 41 5 1,e3 43 41 (.call B4 [.t 42]),ha 44 41 43,cv 45 41 44] (b4 45 [cx 0 false])) (Q [E 46 3,a3 47 .eql 46 0,E 48 47,eg 49 48 5,k7 50 48 .eql 49 0,gr 51 48 50,E 52 51,eg 53 52 8,k7 54 52 .eql 53 0,gr 55 52 54,E 56 55,eg 57 56 10,k7 58 56 .eql 57 0,gr 59 56 58,E 60 59,eg 61 60 2,h0 62 60 (.q2 4 (.t 61) (.c (bM 0))),uE 63 60 4 62,h0 64 60 (.call Jx [.t 63,.c (bM 5),.c (bM 1)]),gr 65 60 64,E 66 65,eg 67 66 2,h0 68 66 (.q2 4 (.t 67) (.c (bM 1))),uE 69 66 4 68,h0 70 66 (.call Jx [.t 69,.c (bM 5),.c (bM 1)]),gr 71 66 70,E 72 71,uE 73 72 4 4,h0 74 72 (.call Jx [.t 73,.c (bM 10),.c (bM 1)]),gr 75 72 74,E 76 75,eg 77 76 6,gr 78 76 77,E 79 78,uE 80 79 4 7,h0 81 79 (.call Jx [.t 80,.c (bM 5),.c (bM 1)]),gr 82 79 81,E 83 82,eg 84 83 9,k7 85 83 .eql 84 2,gr 86 83 85,E 0 86] .ret))))))))
def ar6:bJ:=b5 14 1 [.cell 2 5 true] (Q [c0 1 340001 0,aP 2 (.alloc 340002 [.nil,.nil,.nil,bM 0,bM 0])] (Q [aD 3 0 1,aA 4 1 3,aD 5 1 1,aA 6 1 5,aD 7 2 1,aA 8 1 7,aD 9 3 1,aA 10 1 9,aD 11 4 1,aA 12 1 11,aP 13 (.build [.nil,.nil,.nil,bM 0,bM 0] [(0,1,.t 4),(1,1,.t 6),(2,1,.t 8),(3,1,.t 10),(4,1,.t 12)]),aT 5 2 13] .ret))
def ar7:bJ:=b5 18 3 [.t 6] (Q [c0 3 353003 0,cx 6 false] (Q [E 10 1,E 11 2,bI 12 B1 10 11,E 9 12,a0 13 0 9,a0 14 1 9,bQ 7 353007 cG,aT 4 7 13,E 8 14] (Q [aS 15 4 3,aS 16 4 7,bI 17 DP 15 16,E 6 17] .ret)))
def WU:=bV pw λ(cash,cs,is,ak,rk,k)=>cu (q0 cash cs is) (.same (LW cash cs is ak rk k))
@[go_sem] def aJi (cash cs is ak rk k):=cH WU rfl Dg (cash,cs,is,ak,rk,k) rfl
def aJj (T:ba)(Bl:T NO=aK Ri)(vh:T GA=aK LS)(rU:T GG=aK LO)(rV:T Gy=aK LP)(gA:T uC=aK xX):WF T ara WU:=by
 refine cp λ(cash,cs,is,ak,rk,k)=>cT λJ=>⟨rfl,ck ?_⟩;simp only[ara,pw,cd];have ad:=arX cash cs is ak rk k J;have O:=aer cash cs is ak rk J;unfold LW;unfold FC at ad;unfold Bj at O;rcases fY:h7 cash cs is ak rk
 ·rw[aa (by decide)];rw[aa (by rw[fY];decide)] at ad O;simp only[dm,az,cW,bY] at ad O;refine ai ?_;repeat' (intro (ao:_=_)<;>simp only[ao,go_sem,go_sem_proc,Bl,vh,rU,rV,gA,dm,ad,az,cW,bY,bne,show ((1:Int)==0)=false from rfl,cA]<;>try refine ag ?_ ?_)
 rw[Y rfl];rw[Y fY] at ad O
 by_cases I:0<=k/\k<D is
 case neg =>
  rw[aa I] at ad ⊢;simp only[dm,az,cW,bY] at ad O;refine ai ?_;repeat' (intro (ao:_=_)<;>simp only[ao,go_sem,go_sem_proc,Bl,vh,rU,rV,gA,dm,ad,az,cW,bY,bne,show ((4:Int)==0)=false from rfl,cA]<;>try refine ag ?_ ?_)
 rw[Y I] at ad ⊢;obtain⟨k,rfl⟩:∃n:Nat,k=(n:Int):=⟨k.toNat,by omega⟩
 have ah:k<D is:=by omega
 rw[gK] at ad ⊢;rcases bb:decide (0<kX cash cs is ak rk k)
 ·rw[aa (of_decide_eq_false bb)];rw[bb] at ad;generalize av (kX cash cs is ak rk k)=bs at *;obtain⟨⟨cU,dc⟩,⟨hj,kV⟩⟩:=bs;simp only[az,dm] at ad;refine ai ?_;repeat' (intro (ao:_=_)<;>simp only[ao,go_sem,go_sem_proc,Bl,vh,rU,rV,gA,dm,ad,bne,beq_self_eq_true,b3,cA]<;>try refine ag ?_ ?_)
 rw[Y (of_decide_eq_true bb)];rw[bb] at ad;have hi:=zF.1 fY;have ew:=aek cash cs is ak rk k ⟨J,fY⟩;have R:=arY J hi ah;obtain⟨-,gN⟩:=Rh J hi ah;have vv:=J;obtain⟨aL,eu,yR⟩:=J;have uL:=aeu cs is ak rk k;have ll:=aep cash (l7 cs is ak rk k) ⟨by omega,by omega,λ_=>R⟩
 unfold ye at ll;rw[Y R.right] at ll;obtain⟨i,L⟩:∃i,is[k]?=some i:=⟨_,bh ah⟩;have jM:=kW (d:=0) L;have fK:=hi.b6 k ah;have iF:=LI (cash:=cash) (l:=l7 cs is ak rk k) (j:=(is.getD k 0).toNat) (by omega);have fB:=WE R (j:=(is.getD k 0).toNat) (by omega);have ia:(hy cash (l7 cs is ak rk k)).length=D cs:=by unfold hy;rw[al,uL]
 have bq:ve cash (l7 cs is ak rk k) (is.getD k 0).toNat=tY cash cs is ak rk k:=rfl;rw[bq] at iF fB;have bH:=Ra hi (k:Int) (cl _) ah;rw[aa (λh=>h.2 rfl)] at bH;have tk:l7 cs is ak rk k=(eF cs is ak rk k (D is)).set (is.getD k 0).toNat ((cs.getD (is.getD k 0).toNat iN).1,(cs.getD (is.getD k 0).toNat iN).2.1,rk,(cs.getD (is.getD k 0).toNat iN).2.2.2):=rfl;rw[jM] at fK iF bH tk;obtain⟨n,rfl⟩:∃n:Nat,i=(n:Int):=⟨i.toNat,by omega⟩
 rw[gK] at iF bH tk;have Lk:(eF cs is ak rk k (D is)).length=D cs:=vd _ _ _ _ _ _;generalize cs.getD n iN=c at *;obtain⟨ar,c2,c3,c4⟩:=c;have la:=arE bH rk;dsimp only at tk;rw[<-tk] at la;have bO:=arD (l:=eF cs is ak rk k (D is)) (k:=n) (by omega);have Dj:=WS cash cs is ak rk ah;have gw:=LQ cash cs is ak rk (D is);have lV:=Qa (hU fB (by omega)) (hU gN (by omega))
 have hle:decide (lb (tY cash cs is ak rk k) (kn cash cs is ak rk k)>0) = !decide (tY cash cs is ak rk k<=kn cash cs is ak rk k):=by
  rw[<-arZ,od,decide_eq_true_iff,Bool.not_eq_true',decide_eq_false_iff_not];omega
 have ix:n<(hy cash (l7 cs is ak rk k)).length:=by omega
 have Dh:n<D cs:=by omega
 have Iw:=λ(K:bc->Prop) (st:bc)=>nB (K:=K) (st:=st) p3 11 351035 0 (l7 cs is ak rk k);rw[uL] at Iw;have Is:((eF cs is ak rk k (D is)).map bL).flatten.map M.H=aU bL (eF cs is ak rk k (D is)):=rfl;generalize lI cash (l7 cs is ak rk k)=wK at *;generalize hy cash (l7 cs is ak rk k)=qY at *;generalize (af cash (l7 cs is ak rk k)).iI.map om=FD at *;generalize l7 cs is ak rk k=WC at *;generalize eF cs is ak rk k (D is)=XL at *;generalize nj cash cs is ak rk (D is)=IL at *;generalize av (kX cash cs is ak rk k)=bs at *;generalize av (kn cash cs is ak rk k)=s3 at *;generalize av (tY cash cs is ak rk k)=aR at *;generalize lb (tY cash cs is ak rk k) (kn cash cs is ak rk k)=CQ at *;obtain⟨⟨cU,dc⟩,⟨hj,kV⟩⟩:=bs;obtain⟨⟨i1,i2⟩,⟨i3,i4⟩⟩:=s3;obtain⟨⟨dI,ek⟩,⟨ht,fV⟩⟩:=aR;simp only[az,dm] at ad O ew lV;rcases Z:decide (tY cash cs is ak rk k<=kn cash cs is ak rk k)
 ·rw[aa (of_decide_eq_false Z)];rw[Z] at hle;refine ai ?_;repeat' (intro (ao:_=_)<;>simp only[ao,go_sem,go_sem_proc,Bl,vh,rU,rV,gA,dm,ad,O,ew,ll,Is,L,iF,Dj,gw,ah,ix,Dh,Lk,uL,la,bO,Iw,lV,hle,az,aI,bne,beq_self_eq_true,al,bm,b3,cA]<;>try refine ag ?_ ?_)
 ·rw[Y (of_decide_eq_true Z)];rw[Z] at hle;refine ai ?_;repeat' (intro (ao:_=_)<;>simp only[ao,go_sem,go_sem_proc,Bl,vh,rU,rV,gA,dm,ad,O,ew,ll,Is,L,iF,Dj,gw,ah,ix,Dh,Lk,uL,la,bO,Iw,lV,hle,az,aI,bne,beq_self_eq_true,al,bm,b3,cA]<;>try refine ag ?_ ?_)
def Rm (cash:List Int)(cs:List aB)(is:List Int):Bool:=decide (D cash<=5)&&decide (D cs<=8)&&decide (D is<=10)
def aJk {cash:List Int}{cs:List aB}{is:List Int}(h:Rm cash cs is=true):q0 cash cs is/\D is<=10:=by
 unfold Rm at h;simp only[fC,decide_eq_true_eq] at h;exact⟨⟨by omega,by omega,by omega⟩,h.2⟩
def WV:=bV vf λ(cash,cs,is,ak,rk)=>some (.same (.bool (Rm cash cs is)))
@[go_sem] def aJl (cash cs is ak rk):=pK WV rfl LK (cash,cs,is,ak,rk) rfl
def aJm (T:ba):WF T aq4 WV:=by
 refine cp λ(cash,cs,is,ak,rk)=>⟨rfl,ck ?_⟩;simp only[aq4,vf,cd];have F:decide (D cash<=5)=decide ((D cash:Int)<=5):=by rw[od,decide_eq_true_iff,decide_eq_true_iff];omega
 have G:decide (D cs<=8)=decide ((D cs:Int)<=8):=by rw[od,decide_eq_true_iff,decide_eq_true_iff];omega
 have ab:decide (D is<=10)=decide ((D is:Int)<=10):=by rw[od,decide_eq_true_iff,decide_eq_true_iff];omega
 unfold Rm;rw[F,G,ab];rcases dI:decide ((D cash:Int)<=5)<;>rcases ek:decide ((D cs:Int)<=8)
 all_goals
      refine ai ?_;repeat' (intro h<;>simp only[h,go_sem,go_sem_proc,dm,dI,ek,al,fN,Bool.false_and,Bool.and_false]<;>try refine ag ?_ ?_)
def WW:=bV vf λ(cash,cs,is,ak,rk)=>some (.same (.agg (dm cash cs is ak rk)))
@[go_sem] def aJn (cash cs is ak rk):=pK WW rfl LK (cash,cs,is,ak,rk) rfl
def aJo (T:ba):WF T ar6 WW:=by
 refine cp λ(cash,cs,is,ak,rk)=>⟨rfl,ck ?_⟩;simp only[ar6,vf,cd];refine ai ?_;repeat' (intro h<;>simp only[h,go_sem,go_sem_proc,dm]<;>try refine ag ?_ ?_)
abbrev WX:List Rat->List Data:=λ(xs:List Rat)=>[.ax ((xs.map av).map az),.ax ((xs.map av).map az)]
def L0:=bV WX λ(xs:List Rat)=>cu (D xs<=1000000/\∀x∈xs,dH x) (.same (.bool true))
def aJp:∀a b,WX a=WX b->a=b:=by
  intro aQN aQO h;exact map_inj (λ_ _=>Em) _ _ (map_inj pS _ _ (by simpa using h))
@[go_sem] def ar8 (xs):=cH L0 rfl aJp xs rfl
def aJq (T:ba)(yh:T DP=aK CG):WF T aq7 L0:=by
 refine cp λxs=>cT λJ=>⟨rfl,ck ?_⟩;simp only[aq7,WX,cd];obtain⟨aq,L⟩:=J;have ad:((D xs:Int)==(D xs:Int))=true:=beq_self_eq_true _;simp only[go_sem,go_sem_proc,yh,al,bne,ad,b3];refine dd [0,1] [] (λ(k:Nat) tm m=>k<=D xs/\tm 5=.H (.int .i64 k)) (λk=>D xs-k) 0 (by refine⟨by omega,rfl⟩) ?_;intro vs ms aQ aM;simp only[go_sem,go_sem_proc,yh,al] at aQ aM;subst aQ aM;rintro k tm m I hm ⟨O,c6⟩;simp only[go_sem,go_sem_proc,yh,bj] at I;obtain⟨bx,au⟩:=I;rcases dn (k<D xs) with ah|bW
 ·have d1:decide ((k:Int)<(D xs:Int))=true:=cX;have bF:=eI (i:=k) (by omega);have aJr:xs[k]?=some xs[k]:=bh ah;have hT:=L _ (List.getElem_mem ah);have Ix:=aeA hT hT;rw[hN rfl] at Ix;generalize xs[k]=x at *;obtain⟨⟨⟨cz,cY⟩,⟨eA,eQ⟩⟩,iU⟩:∃f,av x=f:=⟨_,rfl⟩;rw[iU] at Ix;simp only[az] at Ix;refine ai ?_;repeat' (intro h<;>simp only[h,go_sem,go_sem_proc,yh,bx,au,c6,aJr,iU,Ix,d1,bF,az,al,bm,Option.map_some]<;>try refine ag ?_ ?_)
  exact⟨k+1,by omega,by omega,rfl⟩
 ·have d1:decide ((k:Int)<(D xs:Int))=false:=b7;refine ai ?_;repeat' (intro h<;>simp only[h,go_sem,go_sem_proc,yh,bx,au,c6,d1,al]<;>try refine ag ?_ ?_)
abbrev WY:Rat×Int->List Data:=λ(x,p)=>[.agg (az (av x)),.int .i64 p,.int .i64 1]
def WZ:=bV WY λ(x,p)=>cu (dH x/\eJ p) (.same (.bool (decide (x=(p:Rat)))))
def aJs:∀a b,WY a=WY b->a=b:=by
  rintro⟨fx,hk⟩ ⟨fe,hQ⟩ h;simp only[bj,Data.agg.injEq,Data.int.injEq,and_true,true_and] at h;exact et (Em (pS _ _ h.1)) h.2
@[go_sem] def ar9 (x p):=cH WZ rfl aJs (x,p) rfl
def aJt (T:ba)(HR:T B1=aK Ez)(yh:T DP=aK CG):WF T ar7 WZ:=by
 refine cp λ(x,p)=>cT λJ=>⟨rfl,ck ?_⟩;simp only[ar7,WY,cd];obtain⟨L,aE⟩:=J;have cz:=aJh aE;have Ix:=aeA L (p5 aE);generalize av x=b2 at *;generalize av (p:Rat)=P at *;obtain⟨⟨fx,fe⟩,⟨hH,iE⟩⟩:=b2;obtain⟨⟨hk,hQ⟩,⟨kD,lf⟩⟩:=P;simp only[az] at cz Ix;refine ai ?_;repeat' (intro h<;>simp only[h,go_sem,go_sem_proc,HR,yh,cz,Ix,az]<;>try refine ag ?_ ?_)
def asa {cash:List Int}{cs:List aB}{is:List Int}{ak rk:Int}(aL:q0 cash cs is)(h:yf cash cs is ak rk){k:Nat}(I:k<D is):dH (kn cash cs is ak rk k)/\dH (tX cash cs is ak rk k)/\dH (kX cash cs is ak rk k):=by
 obtain⟨fB,gN⟩:=Rh aL h I;refine⟨hU gN (by omega),hU fB (by omega),?_⟩;unfold kX;rw[Rat.sub_eq_add_neg];exact hU (acb fB (wy gN)) (by omega)
def aJu (cash:List Int)(cs:List aB)(is:List Int)(ak rk:Int)(t:Nat):nj cash cs is ak rk t=((eM t).map (kn cash cs is ak rk)).map av:=by
 unfold nj;rw[pJ];rfl
def aJv {cash:List Int}{cs:List aB}{is:List Int}{ak rk:Int}(aL:q0 cash cs is)(h:yf cash cs is ak rk):L0 [.ax ((nj cash cs is ak rk (D is)).map az),.ax ((nj cash cs is ak rk (D is)).map az)]=some (.same (.bool true)):=by
 rw[aJu]
 exact ar8 _ ⟨by rw[al,List.length_range];exact aL.2.2,λx L=>by
  obtain⟨k,I,rfl⟩:=gm.1 L;exact (asa aL h (ig.1 I)).1⟩
def aJw:L0 [.ax [],.ax []]=some (.same (.bool true)):=ar8 [] ⟨by simp,λx L=>by cases L⟩
def asb {x:Rat}(h:dH x):CG [.agg (az (av x)),.agg (az (av x))]=some (.same (.bool true)):=by
 have:=aeA h h;rwa [hN rfl] at this
def aJx:CG [.agg [.int .i64 0,.ax [],.int .i64 0,.ax []],.agg [.int .i64 0,.ax [],.int .i64 0,.ax []]]=some (.same (.bool true)):=akj 0 [] 0 [] 0 [] 0 [] ⟨by simp,by simp,by simp,by simp⟩
def px:List aB:=[(0,-1,0,12),(0,-1,0,12)]
def W0 {a:Int}{c7:List aB}{j:Nat}(X:hr [a] c7=true)(C6:∀c∈c7,c.2.1<0){U S m:Int}(F:(c7.getD j iN).1=0)(l2:bT c7 (c7.getD j iN).1 (c7.getD j iN).2.2.1=U)(cZ:hg c7 (c7.getD j iN).1 (c7.getD j iN).2.2.1=S)(hm:(c7.getD j iN).2.2.2=m)(ay:U<=a)(ah:a-U<S):ve [a] c7 j=(m:Rat)*((a:Rat)-(U:Rat))/(S:Rat):=by
 have bb:(af [a] c7).cL 0=(a:Rat):=by
  have:=(U4 (KT X)).1 0 (by show 0<1;omega);unfold Day.xN Day.fz at this
  rw[this,HG λc J=>by
   obtain⟨x,L,rfl⟩:=gm.1 J;have:=C6 x L;exact aa (by show ¬ x.2.1=((0:Nat):Int);omega)]
  rw[rH];rfl
 unfold ve;rw[F,sM,bb]
 have eU:(0:Rat)<=(a:Rat)-(U:Rat):=by
  rw[<-CZ];exact_mod_cast (by omega:(0:Int)<=a-U)
 have cy:(a:Rat)-(U:Rat)<(S:Rat):=by
  rw[<-CZ];exact Rat.intCast_lt_intCast.2 ah
 rw[adg (by rw[l2];exact eU) (by rw[l2,cZ];exact cy),l2,cZ,hm]
def asc:h7 [10] px [0,1] 500 1=true:=by decide
def aeB:kn [10] px [0,1] 500 1 0=((5:Int):Rat):=by
 unfold kn;rw[show eF px [0,1] 500 1 (-1) ([0,1]:List Int).length=[(0,-1,1,6),(0,-1,1,6)] by decide,W0 (U:=0) (S:=12) (m:=6) (by decide) (by decide) (by decide) (by decide) (by decide) (by decide) (by decide) (by decide)]
 decide +kernel
def aJy:kn [10] px [0,1] 500 1 1=((5:Int):Rat):=by
 unfold kn;rw[show eF px [0,1] 500 1 (-1) ([0,1]:List Int).length=[(0,-1,1,6),(0,-1,1,6)] by decide,W0 (U:=0) (S:=12) (m:=6) (by decide) (by decide) (by decide) (by decide) (by decide) (by decide) (by decide) (by decide)]
 decide +kernel
def asd:tX [10] px [0,1] 500 1 0=((10:Int):Rat):=by
 unfold tX;rw[show eF px [0,1] 500 1 (0:Nat) ([0,1]:List Int).length=[(0,-1,0,12),(0,-1,1,6)] by decide,W0 (U:=0) (S:=12) (m:=12) (by decide) (by decide) (by decide) (by decide) (by decide) (by decide) (by decide) (by decide)]
 decide +kernel
def aJz:¬ tY [10] px [0,1] 500 1 0<=((5:Int):Rat):=by
 unfold tY;rw[show l7 px [0,1] 500 1 0=[(0,-1,1,12),(0,-1,1,6)] by decide,W0 (U:=0) (S:=18) (m:=12) (by decide) (by decide) (by decide) (by decide) (by decide) (by decide) (by decide) (by decide)]
 decide +kernel
def ase:kX [10] px [0,1] 500 1 0=((5:Int):Rat):=by
 unfold kX;rw[asd,aeB]
 decide +kernel
def Rn:q0 [10] px [0,1]:=⟨by decide,by decide,by decide⟩
abbrev W1:Unit->List Data:=λ(_:Unit)=>[]
def W2:=bV W1 λ(_:Unit)=>some (.same (.bool true))
def aJA:∀a b,W1 a=W1 b->a=b:=by
  intro _ _ _;rfl
@[go_sem] def aJB:=pK W2 rfl aJA () rfl
def aJC (T:ba)(sT:T B3=aK Iu)(Bk:T GC=aK LU)(yg:T GF=aK LV)(L1:T NP=aK Rj)(rT:T B4=aK Ip)(aJD:T Jx=aK WZ):WF T ar5 W2:=by
 refine cp λ_=>⟨rfl,ck ?_⟩;simp only[ar5,W1,cd];have cy:=WT [10] px [0,1] 500 1 Rn;have dw:=aes [10] px [0,1] 500 1 0 Rn;have dW:=aet [10] px [0,1] 500 1 0 Rn;have fW:=ar0 [10] px [0,1] 500 1 0 Rn;have jb:=WH [10] px [0,1] 500 1 Rn;have i5:eJ 5:=mQ (by omega) (by omega);have i10:eJ 10:=mQ (by omega) (by omega);have hB:=ar9 ((5:Int):Rat) 5 ⟨p5 i5,i5⟩;have ib:=ar9 ((10:Int):Rat) 10 ⟨p5 i10,i10⟩;rw[hN rfl] at hB ib;unfold Bj at cy;unfold FB at dw;unfold FC at dW;unfold LW at fW;rw[Y asc] at cy dw dW fW;rw[asc] at jb;rw[Y (by decide)] at dw dW fW;rw[sM] at dw dW fW
 have cP:nj [10] px [0,1] 500 1 ([0,1]:List Int).length=[av ((5:Int):Rat),av ((5:Int):Rat)]:=by
  show [av (kn [10] px [0,1] 500 1 0),av (kn [10] px [0,1] 500 1 1)]=_;rw[aeB,aJy]
 rw[cP] at cy;rw[asd] at dw;rw[ase,hN (by decide:(0:Rat)<((5:Int):Rat))] at dW;rw[ase,Y (by decide:(0:Rat)<((5:Int):Rat)),aeB,aa aJz] at fW;generalize av ((5:Int):Rat)=E5 at *;generalize av ((10:Int):Rat)=E10 at *;obtain⟨⟨cz,cY⟩,⟨eA,eQ⟩⟩:=E5;obtain⟨⟨cQ,dN⟩,⟨gy,g3⟩⟩:=E10;simp only[dm,px,az,eE,bY,aI,bL] at cy dw dW fW jb hB ib;have ts:(((2:Nat):Int)==2)=true:=rfl;refine ai ?_;repeat' (intro h<;>simp only[h,go_sem,go_sem_proc,sT,Bk,yg,L1,rT,aJD,cy,dw,dW,fW,jb,hB,ib,ts,show ((0:Int)<=1)=True from eq_true (by decide),show Int.toNat 1=1 from rfl,az,eE,bY,List.length_cons,List.length_nil,bne,beq_self_eq_true,b3,List.getElem?_cons_zero,List.getElem?_cons_succ,sM]<;>try refine ag ?_ ?_)
def W3:=bV pw λ(cash,cs,is,ak,rk,k)=>some (.same (.bool true))
@[go_sem] def aJE (cash cs is ak rk k):=pK W3 rfl Dg (cash,cs,is,ak,rk,k) rfl
def aJF (T:ba)(W4:T Y6=aK W2)(W5:T Y7=aK WV)(W6:T Y8=aK WW)(sT:T B3=aK Iu)(vh:T GA=aK LS)(Bk:T GC=aK LU)(FE:T NN=aK Rg)(W7:T Y9=aK L0)(yh:T DP=aK CG)(rT:T B4=aK Ip)(sS:T GD=aK LL)(yg:T GF=aK LV)(Bl:T NO=aK Ri)(L1:T NP=aK Rj)(W8:T Za=aK WU):WF T ar4 W3:=by
 refine cp λ(cash,cs,is,ak,rk,k)=>⟨rfl,ck ?_⟩;simp only[ar4,pw,cd];have wF:=aJB;have cU:=aJl cash cs is ak rk;simp only[dm] at cU;rcases aH:Rm cash cs is
 ·rw[aH] at cU;refine ai ?_;repeat' (intro h<;>simp only[h,go_sem,go_sem_proc,W4,W5,W6,sT,vh,Bk,FE,W7,yh,rT,sS,yg,Bl,L1,W8,wF,cU,dm,cA]<;>try refine ag ?_ ?_)
 rw[aH] at cU;obtain⟨J,-⟩:=aJk aH;have b6:=aJn cash cs is ak rk;have hk:=WT cash cs is ak rk J;have dI:=aer cash cs is ak rk J;have hQ:=aes cash cs is ak rk k J;have ek:=arV cash cs is ak rk k J;have kD:=aet cash cs is ak rk k J;have ht:=arX cash cs is ak rk k J;have lf:=ar0 cash cs is ak rk k J;have fV:=aJi cash cs is ak rk k J;have Be:=WH cash cs is ak rk J;have rN:=aeh cash cs is ak rk J;have sz:=aJx;have jQ:∀b:Bool,(b==b)=true:=λb=>by cases b<;>rfl
 unfold Bj at hk dI;unfold FB at hQ ek;unfold FC at kD ht;unfold LW at lf fV;rcases fY:h7 cash cs is ak rk
 ·rw[aa (by rw[fY];decide)] at hk dI hQ ek kD ht lf fV;rw[fY] at Be rN;have W9:=aJw;simp only[dm,az,cW,bY] at b6 hk dI hQ ek kD ht lf fV Be rN;refine ai ?_;repeat' (intro h<;>simp only[h,go_sem,go_sem_proc,W4,W5,W6,sT,vh,Bk,FE,W7,yh,rT,sS,yg,Bl,L1,W8,wF,cU,b6,hk,dI,hQ,ek,kD,ht,lf,fV,Be,rN,sz,W9,dm,jQ,bne,beq_self_eq_true,b3,bY]<;>try refine ag ?_ ?_)
 have hi:=zF.1 fY;have W9:=aJv J hi;rw[Y fY] at hk dI hQ ek kD ht lf fV;rw[fY] at Be rN;generalize nj cash cs is ak rk (D is)=IL at *
 by_cases I:0<=k/\k<D is
 case neg =>
  rw[aa I] at hQ ek kD ht lf fV;simp only[dm,az,cW,bY] at b6 hk dI hQ ek kD ht lf fV Be rN;refine ai ?_;repeat' (intro h<;>simp only[h,go_sem,go_sem_proc,W4,W5,W6,sT,vh,Bk,FE,W7,yh,rT,sS,yg,Bl,L1,W8,wF,cU,b6,hk,dI,hQ,ek,kD,ht,lf,fV,Be,rN,sz,W9,dm,jQ,bne,beq_self_eq_true,b3,bY]<;>try refine ag ?_ ?_)
 rw[Y I] at hQ ek kD ht lf fV;obtain⟨eN,aw,cb⟩:=asa J hi (k:=k.toNat) (by omega);have s2:=asb aw;have c1:=asb cb;generalize (if 0<kX cash cs is ak rk k.toNat then (if tY cash cs is ak rk k.toNat<=kn cash cs is ak rk k.toNat then 1 else 2) else 0:Int)=W at *;generalize decide (0<kX cash cs is ak rk k.toNat)=B at *;generalize av (tX cash cs is ak rk k.toNat)=a4 at *;generalize av (kX cash cs is ak rk k.toNat)=bs at *;obtain⟨⟨cz,cY⟩,⟨eA,eQ⟩⟩:=a4;obtain⟨⟨cQ,dN⟩,⟨gy,g3⟩⟩:=bs;simp only[dm,az] at b6 hk dI hQ ek kD ht lf fV Be rN s2 c1;refine ai ?_;repeat' (intro h<;>simp only[h,go_sem,go_sem_proc,W4,W5,W6,sT,vh,Bk,FE,W7,yh,rT,sS,yg,Bl,L1,W8,wF,cU,b6,hk,dI,hQ,ek,kD,ht,lf,fV,Be,rN,s2,c1,W9,dm,jQ,bne,beq_self_eq_true,b3]<;>try refine ag ?_ ?_)
end Go.Mini
namespace Go.Mini
open Go Go.Proofs
def asf {P : Program}{T : ba}{kb : Nat}{own : List Nat}{α : Type}{args : α -> List Data}{res : α -> Option eb}(di : r6 P T)(hm : P.follows .mixedOrders = true){f : FuncId}{fn : Func}{mf : bJ}(aH : P.funcs[f]? = some fn)(vI : (fn.name == "runtime.NumGoroutine") = false)(a8 : r2 P kb own fn = some { mf with body := erase mf.body })(h : ∀ a r, res a = some r -> (args a).length <= mf.n /\ wp T mf.body (vH mf.res r) ⟨kq ((args a).map .H), emp⟩): qm P f (bV args res) := X6 di hm aH vI a8 fun ds r X => by
 obtain⟨a,rfl,G⟩:=Sb X;exact h a r G
def mixed:Tryz.prog.follows .mixedOrders=true:=by kernel_rfl
abbrev cj:=qm Tryz.prog
def aJG (mf : bJ)(kb : Nat)(own : List Nat){α : Type}{args : α -> List Data}{res : α -> Option eb}{l : List (FuncId × (List Data -> Option eb))}{e : List (FuncId × (List M -> Mem -> Option hA))}(aq : ∀ p ∈ l, qm Tryz.prog p.1 p.2)(he : ∀ p ∈ e, l1 Tryz.prog p.1 p.2){f : FuncId}{fn : Func}(aH : Tryz.prog.funcs[f]? = some fn)(h : ∀ a, Se (res a) fun r => Nat.ble (args a).length mf.n = true /\ wp (wc (Je l) (Kt e)) mf.body (vH mf.res r) ⟨kq ((args a).map .H), emp⟩)(aL : (fn.name == "runtime.NumGoroutine", r2 Tryz.prog kb own fn) = (false, some { mf with body := erase mf.body }) := by kernel_rfl): cj f (bV args res) := X6 (qL (qp aq) (qM he)) mixed aH (congrArg Prod.fst aL) (congrArg Prod.snd aL) fun ds r X => by
 obtain⟨a,rfl,G⟩:=Sb X;have ab:=h a;rw[G] at ab;exact⟨sU ab.1,ab.2⟩
def aQP (mf : bJ)(kb : Nat)(own : List Nat){α : Type}{args : α -> List Data}{res : α -> Option eb}{l : List (FuncId × (List Data -> Option eb))}(aq : ∀ p ∈ l, qm Tryz.prog p.1 p.2){f : FuncId}{fn : Func}(aH : Tryz.prog.funcs[f]? = some fn)(h : ∀ a, Se (res a) fun r => Nat.ble (args a).length mf.n = true /\ wp (wc (Je l) (Kt [])) mf.body (vH mf.res r) ⟨kq ((args a).map .H), emp⟩)(aL : (fn.name == "runtime.NumGoroutine", r2 Tryz.prog kb own fn) = (false, some { mf with body := erase mf.body }) := by kernel_rfl): cj f (bV args res) := aJG mf kb own aq l3 aH h aL
def Bm (kb : Nat)(own : List Nat){l : List (FuncId × (List Data -> Option eb))}{e : List (FuncId × (List M -> Mem -> Option hA))}(aq : ∀ p ∈ l, qm Tryz.prog p.1 p.2)(he : ∀ p ∈ e, l1 Tryz.prog p.1 p.2){f : FuncId}{fn : Func}(aH : Tryz.prog.funcs[f]? = some fn){mf : bJ}{aO : List Data -> Option eb}(h : WF (wc (Je l) (Kt e)) mf aO)(aL : (fn.name == "runtime.NumGoroutine", r2 Tryz.prog kb own fn) = (false, some { mf with body := erase mf.body }) := by kernel_rfl): cj f aO := X6 (qL (qp aq) (qM he)) mixed aH (congrArg Prod.fst aL) (congrArg Prod.snd aL) fun ds r X => by
 obtain⟨ab,aV⟩:=h ds r X;rw[avp] at aV;exact⟨sU ab,aV⟩
def cD (kb : Nat)(own : List Nat){l : List (FuncId × (List Data -> Option eb))}(aq : ∀ p ∈ l, qm Tryz.prog p.1 p.2){f : FuncId}{fn : Func}(aH : Tryz.prog.funcs[f]? = some fn){mf : bJ}{aO : List Data -> Option eb}(h : WF (wc (Je l) (Kt [])) mf aO)(aL : (fn.name == "runtime.NumGoroutine", r2 Tryz.prog kb own fn) = (false, some { mf with body := erase mf.body }) := by kernel_rfl): cj f aO := Bm kb own aq l3 aH h aL
def a6 {mZ:FuncId->Option (List Data->Option eb)}{uW:FuncId->Option (List M->Mem->Option hA)}{f:FuncId}{aO:List Data->Option eb}(F:uW f=none:=by rfl)(G:mZ f=some aO:=by rfl):wc mZ uW f=aK aO:=kC F G
def L2:cj sb Ac:=cD 177000 [] b1 Tryz.func190 (av2 _)
def L3:l1 Tryz.prog sb (DN xe):=Nm.akv (agK (mf:=Jz) (kb:=177000) (own:=[]) (qL (qp b1) (qM l3)) mixed Tryz.func190 (by kernel_rfl) (by kernel_rfl) λargs mem x h=>by
 obtain⟨a,⟨rfl,hm,aq⟩,rfl⟩:=Yr h;exact⟨sU rfl,av3 _ a.l a.k a.g mem hm aq⟩)
def aJH:cj Sp SH:=cD 184000 [] b1 Tryz.func194 (av4 _)
def asg:cj Jr NW:=cD 174000 [] (aW aJH b1) Tryz.func159 (av5 _ a6)
def aJI:cj YM SJ:=cD 179000 [] b1 Tryz.func195 (av8 _)
def Xa:cj z8 DZ:=cD 156000 [5] b1 Tryz.func94 (awa _)
def Dk:cj mj xf:=cD 136000 [] b1 Tryz.func146 (awb _)
def L4:cj qu Ca:=Bm 158000 [] (aW L2 b1) (pU L3 l3) Tryz.func150 (awd _ (Ks rfl rfl))
def aeC:cj Gs JE:=cD 175000 [] (aW asg b1) Tryz.func160 (awg _ a6)
def ash:cj Nw NY:=Bm 172000 [] (aW L2 b1) (pU L3 l3) Tryz.func157 (awh _ (Ks rfl rfl))
def asi:cj Jq NZ:=Bm 173000 [10] (aW Xa (aW L2 b1)) (pU L3 l3) Tryz.func158 (awj _ a6 (Ks rfl rfl))
def asj:cj Jo N0:=Bm 161000 [] (aW L2 b1) (pU L3 l3) Tryz.func151 (awm _ (Ks rfl rfl))
def aJJ:cj So SM:=Bm 176000 [] (aW L2 b1) (pU L3 l3) Tryz.func192 (awo _ (Ks rfl rfl))
def aJK:l1 Tryz.prog YL (DN N5):=Nm.akv (agK (mf:=SA) (kb:=178000) (own:=[]) (qL (qp b1) (qM l3)) mixed Tryz.func193 (by kernel_rfl) (by kernel_rfl) λargs mem x h=>by
 obtain⟨a,⟨rfl,J⟩,rfl⟩:=Yr h;exact⟨sU rfl,aww _ a mem J⟩)
def asl:cj Nt N9:=Bm 157000 [54] (aW aeC (aW Xa (aW aJJ (aW L2 (aW asj b1))))) (pU L3 (pU aJK l3)) Tryz.func156 (awH _ a6 a6 a6 (Ks rfl rfl) a6 (we rfl rfl))
def aeD:cj xd JV:=cD 155000 [] b1 Tryz.func149 (axf _)
def asm:cj Jn Oi:=cD 152000 [] (aW Dk (aW Xa (aW L4 b1))) Tryz.func91 (axg _ a6 a6 a6)
def Xb:cj xc GZ:=cD 140000 [] (aW Dk (aW asj (aW L4 (aW aeD b1)))) Tryz.func85 (axh _ a6 a6 a6 a6)
def aJL:cj YJ S2:=cD 160000 [] (aW Dk (aW aJI (aW ash (aW asi (aW aeC (aW L4 (aW aeD b1))))))) Tryz.func161 (axi _ a6 a6 a6 a6 a6 a6 a6)
def aJM:cj YH S3:=cD 154000 [] (aW Dk (aW asg (aW aeC b1))) Tryz.func89 (axk _ a6 a6 a6)
def asn:cj Nq On:=cD 137000 [] (aW Dk (aW Xa (aW asl (aW L4 (aW aeD b1))))) Tryz.func147 (axl _ a6 a6 a6 a6 a6)
def aso:cj Gp Ot:=cD 153000 [] (aW Dk (aW asl (aW ash (aW asi (aW L4 b1))))) Tryz.func88 (axm _ a6 a6 a6 a6 a6)
def aJN:cj Sn S6:=cD 150000 [] (aW L4 b1) Tryz.func165 (axr _ a6)
def aJO:cj YI S7:=cD 159000 [] (aW Dk b1) Tryz.func189 (axu _ a6)
def aJP:cj YB Ta:=cD 138000 [] (aW aJO b1) Tryz.func148 (axz _ a6)
def Iy:cj o1 Ap:=cD 116000 [] (aW Dk (aW asn (aW aJP b1))) Tryz.func84 (axA _ a6 a6 a6)
def asp:cj Ns Ox:=cD 149000 [] (aW Dk (aW asm (aW asn (aW aso b1)))) Tryz.func152 (axB _ a6 a6 a6 a6)
def aeE:cj Gm J3:=cD 130000 [] (aW aJN (aW asp b1)) Tryz.func96 (axD _ a6 a6)
def aJQ:cj YC Tf:=cD 139000 [] (aW Xb (aW aJL b1)) Tryz.func90 (axP _ a6 a6)
def aeF:cj Gn J4:=cD 141000 [] (aW asp b1) Tryz.func86 (axR _ a6)
def aeG:cj DO Eo:=cD 119000 [] (aW Iy (aW aJQ (aW Xb (aW aeF b1)))) Tryz.func40 (axU _ a6 a6 a6 a6)
def Xc:cj xb yU:=cD 132000 [] (aW Iy (aW asm (aW aeG b1))) Tryz.func43 (axW _ a6 a6 a6)
def aeH:cj yA yV:=cD 134000 [] (aW Iy (aW Xb (aW aeF b1))) Tryz.func36 (axY _ a6 a6 a6)
def asq:cj Gr Ep:=cD 169000 [] (aW Iy (aW Xb (aW aeF b1))) Tryz.func155 (ax0 _ a6 a6 a6)
def Ro:cj sa v5:=cD 135000 [] (aW Iy (aW aso (aW aJM b1))) Tryz.func38 (ax5 _ a6 a6 a6)
def asr:cj vL OH:=cD 125000 [] (aW Iy b1) Tryz.func233 (ayb _ a6)
def aJR:cj YE Tq:=cD 146000 [] (aW asr b1) Tryz.func201 (ayi _ a6 (λh=>absurd h (by decide)) (λh=>absurd h (by decide)))
def aJS:cj Yy OK:=cD 128000 [] (aW aJR b1) Tryz.func173 (aym _ a6)
def aJT:cj Sk Ts:=cD 127000 [] (aW asr (aW aJS b1)) Tryz.func235 (ayp _ a6 a6)
def aJU:cj YD Tt:=cD 145000 [] (aW aJT b1) Tryz.func239 (ayq _ a6)
def aJV:cj Yx Tw:=cD 126000 [] (aW aJU b1) Tryz.func234 (ayr _ a6)
def aJW:cj Yv Tx:=cD 108000 [] (aW aJV b1) Tryz.func224 (ayt _ a6)
def aJX:l1 Tryz.prog DQ (EB CL):=azp (mf:=Tm) (kb:=168000) (own:=[]) (qL (qp b1) (qM l3)) mixed Tryz.func241 (by kernel_rfl) (by kernel_rfl) TR λargs mem r k g i d h=>by
 obtain⟨F,G,ab,aV,bu⟩:=azr _ args mem r k g i d h;exact⟨F,G,ab,aV,bu⟩
def aJY:cj Nv OZ:=cD 167000 [] b1 Tryz.func240 (Hp _)
def aJZ:l1 Tryz.prog YF (tz Pa):=TO (mf:=Ax) (kb:=148000) (own:=[3000106,3000165,3000169]) (qL (qp (aW aJY (aW asq (aW Xc (aW aeH b1))))) (qM (pU aJX l3))) mixed Tryz.func237 (by kernel_rfl) (by kernel_rfl) λargs mem bC h=>by
 obtain⟨a,rfl,⟨F,G,ab,aV,bu,bX,b9⟩,rfl⟩:=az5 h;exact⟨sU rfl,azW _ (kC rfl rfl) (we rfl rfl) (kC rfl rfl) (kC rfl rfl) (kC rfl rfl) a.go a.N a.rows a.r a.c mem F G ab aV bu bX b9⟩
def aJ0:cj Sm Pc:=cD 147000 [5] b1 Tryz.func236 (az7 _)
def aJ1:cj Yz Pg:=Bm 129000 [29,34] (aW aJ0 b1) (pU aJZ l3) Tryz.func225 (aAm _ a6 (we rfl rfl))
def aJ2:cj Yw T8:=cD 109000 [] (aW aJW (aW aJ1 b1)) Tryz.func215 (aAs _ a6 a6)
def aJ3:cj YK T9:=cD 171000 [] b1 Tryz.func232 (aAv _)
def aJ4:cj YG Ua:=cD 151000 [] (aW aJ3 b1) Tryz.func223 (aAw _ a6)
def aJ5:cj YA Ud:=cD 131000 [] (aW aJ4 b1) Tryz.func214 (aAG _ a6)
def Rp:cj vM CA:=cD 183000 [18] b1 Tryz.func188 (ayu _)
def Xd:cj vN Hi:=cD 187000 [] b1 Tryz.func200 (ayx _)
def aeI:cj DS Hj:=cD 185000 [] (aW Xd b1) Tryz.func182 (ayy _ a6)
def ass:cj Ny OL:=cD 181000 [] (aW Xd (aW Rp b1)) Tryz.func181 (ayz _ a6 a6)
def aeJ:cj DR Kh:=cD 182000 [] (aW Xd (aW Rp b1)) Tryz.func183 (ayA _ a6 a6)
def ast:cj Gt Ki:=cD 186000 [] (aW Xd (aW Rp b1)) Tryz.func170 (ayB _ a6 a6)
def asu:cj Nx ON:=cD 180000 [26] (aW Rp (aW ast (aW aeI (aW aeJ b1)))) Tryz.func187 (ayI _ a6 a6 a6 a6)
def L5:cj qv CE:=cD 166000 [] (aW Rp b1) Tryz.func145 (ayK _ a6)
def Dl:cj ml xC:=cD 162000 [] b1 Tryz.func141 (ayL _)
def asv:cj Jp OQ:=cD 163000 [] (aW Dl (aW L5 b1)) Tryz.func142 (ayM _ a6 a6)
def asw:cj Jm OR:=cD 144000 [] (aW L5 b1) Tryz.func83 (ayN _ a6)
def aJ6:cj YU TF:=cD 210000 [] b1 Tryz.func199 (ayP _)
def asx:cj Gv OS:=cD 209000 [] b1 Tryz.func169 (ayQ _)
def asy:cj Nz OT:=cD 205000 [] (aW Dl (aW aJ6 (aW aeI b1))) Tryz.func168 (ayS _ a6 a6 a6)
def asz:cj Nu OU:=cD 164000 [] (aW Dl (aW asu (aW L5 b1))) Tryz.func143 (ayT _ a6 a6 a6)
def aeK:cj yC Kj:=cD 202000 [] (aW Dl (aW ast (aW L5 (aW asx b1)))) Tryz.func109 (ayU _ a6 a6 a6 a6)
def aJ7:cj YT TG:=cD 206000 [] (aW Dl (aW ass (aW aeI (aW aeJ (aW L5 (aW asx b1)))))) Tryz.func129 (ayV _ a6 a6 a6 a6 a6 a6)
def aJ8:cj YS TH:=cD 203000 [] (aW Dl (aW asv (aW aJ7 b1))) Tryz.func110 (ayY _ a6 a6 a6)
def asA:cj Gq OV:=cD 165000 [] (aW Dl (aW asu (aW ass (aW aeJ (aW L5 b1))))) Tryz.func144 (ay0 _ a6 a6 a6 a6 a6)
def asB:cj Nr OW:=cD 143000 [] (aW Dl (aW asv (aW asz (aW asA b1)))) Tryz.func82 (ay1 _ a6 a6 a6 a6)
def Xe:cj B1 Ez:=cD 124000 [] (aW asw (aW asB b1)) Tryz.func35 (ay3 _ a6 a6)
def aJ9:cj Sl TK:=cD 142000 [] b1 Tryz.func55 (ay4 _)
def aeL:cj DP CG:=cD 120000 [] (aW aJ9 b1) Tryz.func19 (ay5 _ a6)
def L6:cj qw CH:=cD 196000 [] (aW Dl (aW asz (aW asw (aW asy b1)))) Tryz.func108 (ay6 _ a6 a6 a6 a6)
def aeM:cj Gu Kl:=cD 204000 [] (aW asB b1) Tryz.func111 (ay8 _ a6)
def Xf:cj yB CK:=cD 195000 [] (aW L6 (aW aeK (aW aJ8 (aW aeM b1)))) Tryz.func60 (azh _ a6 a6 a6 a6)
def aeN:cj DT EA:=cD 197000 [] (aW L6 (aW aeK (aW aeM b1))) Tryz.func133 (azj _ a6 a6 a6)
def asC:cj Js Kn:=cD 207000 [] (aW L6 (aW aeK (aW aeM b1))) Tryz.func134 (azl _ a6 a6 a6)
def aKa:cj Jl Kp:=cD 113000 [] b1 Tryz.func227 (azm _)
def aKb:cj YO Uf:=cD 192000 [] (aW L6 b1) Tryz.func216 (aAL _ a6)
def aKc:cj Sr Uh:=cD 208000 [] (aW aeN (aW Xf b1)) Tryz.func238 (aAN _ a6 a6)
def aKd:cj YQ Uj:=cD 199000 [12,25] b1 Tryz.func226 (aAS _)
def aKe:cj YR Um:=cD 200000 [20] (aW asC b1) Tryz.func228 (aAX _ a6)
def aKf:cj Sq Pr:=cD 201000 [22] (aW aKc b1) Tryz.func229 (aA2 _ a6)
def aKg:cj YP Pt:=cD 194000 [21] (aW aKd (aW aKa (aW aKe (aW aKf b1)))) Tryz.func217 (aBd _ a6 a6 a6 a6)
def aKh:cj YN Uw:=cD 189000 [] (aW aKb (aW aKg b1)) Tryz.func198 (aBj _ a6 a6)
def Xg:cj rl xU:=cD 271000 [] (aW Xe b1) Tryz.func100 (aC2 _ a6)
def L7:cj pM u4:=cD 230000 [] (aW aeE b1) Tryz.func78 (aC3 _ a6)
def aKi:cj z9 K3:=cD 241000 [] (aW aeE b1) Tryz.func153 (aC5 _ a6)
def aKj:cj DW P0:=cD 284000 [] (aW Xe b1) Tryz.func132 (aC7 _ a6)
def Rq:cj sc xV:=cD 272000 [] b1 Tryz.func101 (aDb _)
def aKk:cj Y0 U6:=cD 268000 [] b1 Tryz.func98 (aDk _)
def aeO:∀n,qm Tryz.prog Jw (P5 n)
 |0=>asf (mf:=TI) (kb:=278000) (own:=[]) (qL (qp b1) (qM l3)) mixed Tryz.func112 (by kernel_rfl) (by kernel_rfl) λa r X=>by obtain⟨J,rfl⟩:=Yc X;exact absurd J.2 (Nat.not_lt_zero _)
 |n+1=>asf (mf:=TI) (kb:=278000) (own:=[]) (qL (qp (aW asA (aW asy (aW (aeO n) b1)))) (qM l3)) mixed Tryz.func112 (by kernel_rfl) (by kernel_rfl) fun⟨p,q,r,s⟩ x X=>by obtain⟨J,rfl⟩:=Yc X;exact⟨sU rfl,aDp _ (kC rfl rfl) (kC rfl rfl) n (kC rfl rfl) p q r s J⟩
def aKl:qm Tryz.prog Jw P4:=⟨(aeO 0).real,λds r h A w vs ah Z=>by
 obtain⟨n,aL⟩:=aDm h;exact (aeO n).run ds r aL A w vs ah Z⟩
def Rr:cj uC xX:=cD 270000 [] (aW L6 (aW aKl b1)) Tryz.func61 (aDs _ a6 a6)
def aKm:cj NI Lc:=cD 273000 [] (aW Rq (aW Xg (aW Rr b1))) Tryz.func102 (aDW _ a6 a6 a6)
def aKn:cj Y4 Vo:=cD 282000 [] b1 Tryz.func130 (aD4 _)
def aKo:cj Y5 Vq:=cD 283000 [] b1 Tryz.func131 (aD7 _)
def aKp:cj Y2 Vv:=cD 279000 [] (aW L6 (aW aKn (aW aKo (aW aKj (aW Xf (aW Rr (aW aeN (aW asC b1)))))))) Tryz.func70 (aEd _ a6 a6 a6 a6 a6 a6 a6 a6)
def aKq:cj Sw Qq:=cD 274000 [] (aW aKp b1) Tryz.func103 (aEm _ a6)
def asD:cj DV Qv:=cD 243000 [] b1 Tryz.func137 (aEz _)
def aKr:cj NC VC:=cD 244000 [] (aW asD b1) Tryz.func138 (aEC _ a6)
def aKs:cj ND VE:=cD 245000 [] (aW asD b1) Tryz.func139 (aEF _ a6)
def aKt:cj Gx V5:=cD 232000 [] (aW L7 (aW Ro b1)) Tryz.func80 (aGj _ a6 a6)
def asE:cj NH QJ:=cD 251000 [] b1 Tryz.func163 (aGk _)
def aKu:cj Jt V6:=cD 250000 [] (aW asE b1) Tryz.func162 (aGm _ a6)
def Xh:cj uD Ig:=cD 355000 [] b1 Tryz.func54 (aGn _)
def asF:cj yD QL:=cD 361000 [] (aW Xh b1) Tryz.func104 (aGp _ a6)
def aKv:cj Jv Wd:=cD 253000 [] b1 Tryz.func191 (aG6 _)
def aKw:cj YV We:=cD 240000 [] (aW aKv b1) Tryz.func154 (aG7 _ a6)
def aKx:cj Ju V8:=cD 252000 [] (aW asE b1) Tryz.func164 (aGH _ a6)
def aKy:cj GI Wa:=cD 362000 [] (aW Xh (aW asF b1)) Tryz.func105 (aGK _ a6 a6)
def aKz:cj YY Wb:=cD 254000 [] (aW aKs (aW aKx (aW aKy b1))) Tryz.func167 (aGQ _ a6 (λ_=>a6) (λ_=>a6) (λh=>absurd h (by decide)) (λh=>absurd h (by decide)))
def asG:cj NG QS:=cD 247000 [] (aW aKz b1) Tryz.func107 (aGW _ a6)
def asH:cj DU Fw:=cD 231000 [] (aW aKr (aW aKu (aW asF (aW aKt b1)))) Tryz.func79 (aGy _ a6 (λ_=>a6) (λ_=>a6) (λ_=>a6) (λh=>absurd h (by decide)) (λh=>absurd h (by decide)))
def asI:cj NF QO:=cD 246000 [] (aW asH b1) Tryz.func106 (aGE _ a6)
def aKA:cj YX Wg:=cD 249000 [] (aW Iy (aW Ro (aW aKi (aW aKw (aW aeH (aW asq (aW Xc b1))))))) Tryz.func87 (aHi _ a6 a6 a6 a6 a6 a6 a6)
def aKB:cj NA QT:=cD 227000 [] (aW asI (aW asG b1)) Tryz.func75 (aGY _ a6 a6)
def aKC:l1 Tryz.prog St (po Q1):=HV (mf:=Eu) (kb:=233000) (own:=[]) (qL (qp (aW aKA b1)) (qM l3)) mixed Tryz.func81 (by kernel_rfl) (by kernel_rfl) (λj:Nat=>j/1000=233) λargs mem d h=>by
 obtain⟨a,⟨rfl,aZ⟩,rfl⟩:=HX h;exact⟨sU rfl,aZ.no,aHM _ (kC rfl rfl) a mem aZ⟩
def aKD:l1 Tryz.prog Su (po VG):=HV (mf:=Tn) (kb:=255000) (own:=[17]) (qL (qp (aW L7 (aW aJ5 (aW aeE (aW aeG b1))))) (qM l3)) mixed Tryz.func185 (by kernel_rfl) (by kernel_rfl) (λj:Nat=>j/1000=255) λargs mem d h=>by
 obtain⟨a,⟨rfl,aZ⟩,rfl⟩:=HX h;exact⟨sU rfl,aZ.no,aEI _ (kC rfl rfl) (kC rfl rfl) (kC rfl rfl) (kC rfl rfl) a.1 a.2 mem aZ⟩
def aKE:l1 Tryz.prog YZ (po VK):=HV (mf:=J7) (kb:=256000) (own:=[]) (qL (qp (aW L7 (aW Xc (aW aJ2 b1)))) (qM l3)) mixed Tryz.func186 (by kernel_rfl) (by kernel_rfl) (λj:Nat=>j/1000=256) λargs mem d h=>by
 obtain⟨a,⟨rfl,aZ⟩,rfl⟩:=HX h;exact⟨sU rfl,aZ.no,aEX _ (kC rfl rfl) (kC rfl rfl) (kC rfl rfl) a mem aZ⟩
def aKF:l1 Tryz.prog YW (po ady):=HV (mf:=xy) (kb:=248000) (own:=[]) (qL (qp (aW L7 (aW aeH (aW aeG b1)))) (qM (pU aKD (pU aKE l3)))) mixed Tryz.func140 (by kernel_rfl) (by kernel_rfl) (λj:Nat=>j/1000=248) λargs mem d h=>by
 obtain⟨a,⟨rfl,aZ⟩,rfl⟩:=HX h;exact⟨sU rfl,aZ.hB,aFD _ (kC rfl rfl) (we rfl rfl) (we rfl rfl) (kC rfl rfl) (kC rfl rfl) a mem aZ⟩
def aKG:l1 Tryz.prog NB (tz Ls):=TO (mf:=J6) (kb:=229000) (own:=[]) (qL (qp (aW L7 (aW Ro b1))) (qM (pU aKF l3))) mixed Tryz.func77 (by kernel_rfl) (by kernel_rfl) λargs mem bC h=>by
 obtain⟨a,⟨rfl,aZ⟩,rfl⟩:=TQ h;exact⟨sU rfl,aFR _ (we rfl rfl) (kC rfl rfl) (kC rfl rfl) a mem aZ⟩
def aKH:l1 Tryz.prog Ss (tz V1):=TO (mf:=Et) (kb:=228000) (own:=[22]) (qL (qp b1) (qM l3)) mixed Tryz.func76 (by kernel_rfl) (by kernel_rfl) λargs mem bC h=>by
 obtain⟨a,⟨rfl,aZ⟩,rfl⟩:=TQ h;exact⟨sU rfl,aGb _  a.1 a.2.1 a.2.2 mem aZ⟩
def aKI:l1 Tryz.prog Y3 (po acQ):=HV (mf:=UY) (kb:=280000) (own:=[]) (qL (qp b1) (qM l3)) mixed Tryz.func196 (by kernel_rfl) (by kernel_rfl) (λj:Nat=>j/1000=280) λargs mem d h=>by
 obtain⟨a,⟨rfl,aZ⟩,rfl⟩:=HX h;exact⟨sU rfl,aZ.2.1,aDA _  a.1 a.2 mem aZ.1 aZ.2.1 aZ.2.2.1 aZ.2.2.2.1 aZ.2.2.2.2⟩
def aKJ:l1 Tryz.prog Sx (po Qf):=HV (mf:=UZ) (kb:=281000) (own:=[]) (qL (qp (aW Rq (aW Xe b1))) (qM l3)) mixed Tryz.func197 (by kernel_rfl) (by kernel_rfl) (λj:Nat=>j/1000=281) λargs mem d h=>by
 obtain⟨a,⟨rfl,aZ⟩,rfl⟩:=HX h;exact⟨sU rfl,aZ.2.1,aDC _ (kC rfl rfl) (kC rfl rfl) a mem aZ⟩
def aKK:l1 Tryz.prog Y1 (po ac1):=HV (mf:=E9) (kb:=277000) (own:=[]) (qL (qp (aW Xg (aW Rq (aW Xf (aW aeN (aW aKh b1)))))) (qM (pU aKI (pU aKJ l3)))) mixed Tryz.func166 (by kernel_rfl) (by kernel_rfl) (λj:Nat=>j/1000=277) λargs mem d h=>by
 obtain⟨a,⟨rfl,aZ⟩,rfl⟩:=HX h;exact⟨sU rfl,aZ.cy,aDP _ (we rfl rfl) (kC rfl rfl) (kC rfl rfl) (we rfl rfl) (kC rfl rfl) (kC rfl rfl) (kC rfl rfl) a mem aZ⟩
def aKL:l1 Tryz.prog Sv (tz Vn):=TO (mf:=K1) (kb:=269000) (own:=[]) (qL (qp (aW Xg (aW Rq (aW Rr b1)))) (qM (pU aKK l3))) mixed Tryz.func99 (by kernel_rfl) (by kernel_rfl) λargs mem bC h=>by
 obtain⟨a,⟨rfl,aZ⟩,rfl⟩:=TQ h;exact⟨sU rfl,aD2 _ (we rfl rfl) (kC rfl rfl) (kC rfl rfl) (kC rfl rfl) a mem aZ⟩
def aeP:cj Gw Io:=Bm 217000 [] (aW aKB (aW L7 (aW Ro (aW asH b1)))) (pU aKH (pU aKG (pU aKC l3))) Tryz.func33 (aIl _ a6 (we rfl rfl) (we rfl rfl) a6 a6 a6 (we rfl rfl))
def aeQ:cj Gy LP:=Bm 261000 [] (aW aKk (aW Xg (aW Rq (aW Rr (aW aKm (aW aKq b1)))))) (pU aKL l3) Tryz.func53 (aIU _ a6 (we rfl rfl) a6 a6 a6 a6 a6)
def aKM:cj Zb WG:=cD 356000 [] (aW asI (aW asG b1)) Tryz.func56 (aIq _ a6 a6)
def asJ:cj NQ Rb:=cD 357000 [] b1 Tryz.func57 (aIs _)
def asK:cj NR Rc:=cD 359000 [] b1 Tryz.func59 (aIt _)
def Xi:cj B4 Ip:=cD 346000 [] (aW aKM (aW Xh (aW asJ b1))) Tryz.func20 (aIu _ a6 a6 a6)
def aKN:cj Zc WL:=cD 358000 [] b1 Tryz.func58 (aIx _)
def aeR:cj GD LL:=cD 347000 [] (aW aKN (aW asK b1)) Tryz.func21 (aIy _ a6 a6)
def aKO:cj Zd WM:=cD 360000 [5] b1 Tryz.func97 (aIB _)
def aeS:cj GH LM:=cD 354000 [10] (aW aKO (aW asJ b1)) Tryz.func52 (aIC _ a6 a6)
def aeT:cj GG LO:=cD 352000 [7] (aW asK b1) Tryz.func50 (aID _ a6)
def Xj:cj B3 Iu:=cD 341000 [] (aW Xi (aW aeS (aW aeP b1))) Tryz.func14 (aIW _ a6 a6 a6)
def aeU:cj GA LS:=cD 342000 [] (aW aeR (aW aeT (aW aeQ b1))) Tryz.func15 (aIX _ a6 a6 a6)
def aeV:cj GC LU:=cD 343000 [] (aW Xi (aW Xh (aW aeS (aW aeP b1)))) Tryz.func16 (aIY _ a6 a6 a6 a6)
def asL:cj NN Rg:=cD 344000 [] (aW aeR (aW aeT (aW aeQ b1))) Tryz.func17 (aIZ _ a6 a6 a6)
def aeW:cj GF LV:=cD 348000 [] (aW aeV (aW Xj (aW Xc b1))) Tryz.func22 (aI0 _ a6 a6 a6)
def asM:cj NO Ri:=cD 349000 [] (aW asL (aW aeU (aW Xf b1))) Tryz.func23 (aI1 _ a6 a6 a6)
def asN:cj NP Rj:=cD 350000 [34] (aW aeW (aW Xj (aW aeS (aW aeP (aW Ro b1))))) Tryz.func24 (aI2 _ a6 a6 a6 a6 a6)
def aKP:cj Za WU:=cD 351000 [35] (aW asM (aW aeU (aW aeT (aW aeQ (aW Rr b1))))) Tryz.func25 (aJj _ a6 a6 a6 a6 a6)
def aKQ:cj Y7 WV:=cD 339000 [] b1 Tryz.func12 (aJm _)
def aKR:cj Y8 WW:=cD 340000 [] b1 Tryz.func13 (aJo _)
def aKS:cj Y9 L0:=cD 345000 [] (aW aeL b1) Tryz.func18 (aJq _ a6)
def aKT:cj Jx WZ:=cD 353000 [] (aW Xe (aW aeL b1)) Tryz.func51 (aJt _ a6 a6)
def aKU:cj Y6 W2:=cD 338000 [] (aW Xj (aW aeV (aW aeW (aW asN (aW Xi (aW aKT b1)))))) Tryz.func11 (aJC _ a6 a6 a6 a6 a6 a6)
def aKV:cj avT W3:=cD 334000 [] (aW aKU (aW aKQ (aW aKR (aW Xj (aW aeU (aW aeV (aW asL (aW aKS (aW aeL (aW Xi (aW aeR (aW aeW (aW asM (aW asN (aW aKP b1))))))))))))))) Tryz.func3 (aJF _ a6 a6 a6 a6 a6 a6 a6 a6 a6 a6 a6 a6 a6 a6 a6)
end Go.Mini
