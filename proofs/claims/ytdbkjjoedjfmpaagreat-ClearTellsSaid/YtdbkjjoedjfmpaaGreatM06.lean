/- A part of the proof. -/
import Derived.Test.YtdbkjjoedjfmpaaGreatM05
set_option linter.unusedSimpArgs false
set_option linter.unusedVariables false
set_option maxRecDepth 100000
set_option maxHeartbeats 4000000
noncomputable section
open Bool renaming and_eq_true->fw,and_false->jB,and_true->Ah,eq_iff_iff->AO,false_and->eR,not_false->db,not_true->cw,or_eq_true->yD,or_false->qc,or_true->Ag,true_and->fD
open Decidable renaming em->dc
open Int renaming add_zero->ra,le_refl->ama,toNat_natCast->jE
open List renaming append_assoc->gT,append_inj->Hv,append_nil->gS,drop->iP,drop_append->r0,drop_append_of_le_length->amt,drop_eq_nil_of_le->lO,drop_succ_cons->Dw,ext_getElem?->oR,filter_append->sw,filter_cons_of_neg->tC,filter_cons_of_pos->rB,filter_nil->qE,flatMap_append->xZ,flatMap_cons->qd,flatMap_def->x0,flatMap_nil->Bo,flatten_cons->j1,getD_eq_getElem?_getD->ep,getElem?_append_left->oe,getElem?_append_right->nc,getElem?_cons_succ->NI,getElem?_eq_getElem->bq,getElem?_eq_none->ja,getElem?_eq_some_iff->ej,getElem?_map->bj,getElem?_range->tU,getElem?_replicate->ab4,getElem?_set->lG,getElem_mem->lq,length->D,length_append->fX,length_drop->nE,length_filter_le->pc,length_map->aE,length_range->r1,length_replicate->wk,length_set->jF,length_take->gv,map->nR,map_append->js,map_congr_left->oi,map_cons->ey,map_map->oj,map_nil->cC,map_replicate->Iy,map_set->wb,mem_cons_of_mem->hO,mem_cons_self->g3,mem_map->fO,mem_of_getElem?->dn,mem_of_mem_take->z5,mem_range->iM,nil_append->hX,range->eN,range_add->amR,range_succ->pZ,replicate->et,replicate_succ'->Nk,set_append_left->ann,set_append_right->zf,set_cons_succ->uP,set_cons_zero->mx,set_eq_take_append_cons_drop->Np,take->hY,take_add_one->gB,take_append_drop->vz,take_append_of_le_length->C7,take_length->nQ,take_of_length_le->dp,take_zero->mU
open List.cons renaming inj->xg,injEq->bk
open Nat renaming add_comm->zP,le_refl->cH,le_trans->e4,lt_or_ge->g2,mul_one->dY,reduceEqDiff->cp,succ_mul->py,zero_le->fm
open Option renaming bind_none->se
open Option.some renaming inj->oh,injEq->cL
open Prod renaming ext->dN,ext_iff->Hw
open Prod.mk renaming injEq->fS
open Rat renaming add_zero->iX,den_intCast->ab8,le_refl->gX,num_intCast->ab7,zero_den->MO,zero_num->MP
namespace Go.Mini
open Go
theorem FV:dr 0:=by unfold dr;omega
theorem Sc:dr 1:=by unfold dr;omega
theorem aAc (T:bl)(hQ:T oY=aQ u2){K:eI->bo->Prop}{kk:List fJ}(en:Mem)(n:Nat)(aM:n<=60)(alP rE:R)(bE m8:Nat)(v1 v2 iz v4:R)(Ni:Option (Nat×List R))(tm:Nat->R)(m:Mem)
  (bw:tm 0=alP) (bp:tm 3=.I (.int .i64 n)) (bM:tm 4=rE) (i:Nat) (dw:tm 5=.I (.int .i64 i)) (bH:tm 6=.ptr 277006 bE 0) (b5:tm 7=.I (.int .i64 0)) (gV:m 277006=some (bE,[.ref 277043 m8 4 0 0,v1,v2,iz,v4])) (n0:m 277043=some (m8,[])) (zw:m 277165=Ni) (bD:dJ 277 en m)
  (cZ:∀tm' m' Nj,tm' 0=alP->tm' 3=.I (.int .i64 n)->tm' 4=rE->tm' 5=.I (.int .i64 i)->tm' 6=.ptr 277006 bE 0->m' 277006=some (bE,[.ref 277043 Nj 4 0 n,v1,v2,iz,v4])->m' 277043=some (Nj,aV ar (et n (al ((0:Int):Rat))))->m' 277165=Ni->dJ 277 en m'->cd T K kk (.exit 2) ⟨tm',m'⟩) :
  wp T (Dj.body.sub [1,1,1,0,1,0,0,0,1,0,0,1,0,1,0]) (cd T K kk) ⟨tm,m⟩:=by
 simp only[Dj,er.sub];refine cU [0,3,4,5,6] [277165] (λ((k,g):Nat×Nat) tm m=>k<=n/\tm 7=.I (.int .i64 k)/\m 277006=some (bE,[.ref 277043 g 4 0 k,v1,v2,iz,v4])/\m 277043=some (g,aV ar (et k (al ((0:Int):Rat))))/\dJ 277 en m) (λ(k,_)=>n-k) (0,m8) (by refine⟨by omega,b5,gV,n0,bD⟩) ?_;intro vs ms aJ aH;simp only[go_sem,go_sem_proc,bw,bp,bM,dw,bH,zw] at aJ aH;subst aJ aH;clear bw bp bM dw bH b5 gV n0 zw bD tm m;rintro⟨k,g⟩ tm m L hm ⟨k9,b5,gV,n0,bD⟩;simp only[go_sem,go_sem_proc,bk] at L hm;obtain⟨bw,bp,bM,dw,bH⟩:=L;rcases dc (k<n) with az|b2
 ·have d1:decide ((k:Int)<(n:Int))=true:=cT;have bG:=ec (i:=k) (by omega);have hw:=Dl 0 FV;have cm:(et k (al ((0:Int):Rat))).length=k:=wk;have dv:=λcs jj=>jm iT v5 277043 g 64 (et k (al ((0:Int):Rat))) (al ((0:Int):Rat)) (cs:=cs) jj (by omega) (by omega);rw[cm,<-Nk] at dv;have aLq:=cZ;clear cZ;generalize MK:al ((0:Int):Rat)=rf at *;obtain⟨⟨cE,cO⟩,⟨ei,eS⟩⟩:=rf;have kI:=dv _ rfl;simp only[ar,ey,cC] at kI hw;refine ak ?_;repeat' (intro h<;>simp only[h,go_sem,go_sem_proc,hQ,bw,bp,bM,dw,bH,b5,gV,n0,hm,d1,bG,hw,kI]<;>try refine ai ?_ ?_)
  exact⟨(k+1,g+1),by dsimp only;omega,by dsimp only;omega,rfl,rfl,rfl,by repeat first|exact bD|refine dJ.eb ?_ (by decide)⟩
 ·have d1:decide ((k:Int)<(n:Int))=false:=cl;obtain rfl:k=n:=by omega
  refine ak ?_;repeat' (intro h<;>simp only[h,go_sem,go_sem_proc,bw,bp,bM,dw,bH,b5,d1]<;>try refine ai ?_ ?_)
  refine cZ _ _ g ?_ ?_ ?_ ?_ ?_ gV n0 hm bD<;>simp only[dk,cp,if_false,bw,bp,bM,dw,bH]
theorem Sd {N k:Nat}(x:Nat->Rat)(y:Rat):(cK N x).set k (al y)=cK N λj=>if j=k then y else x j:=by
 refine I4 (by rw[jF,nX]) λj aA=>?_;rw[lG]
 by_cases h:k=j
 ·rw[ad h,ad (by rw[nX];omega),ad h.symm]
 ·rw[ag h,pY _ aA,ag (Ne.symm h)]
theorem FW {α:Type}{l:List α}{k:Nat}{d x:α}(h:l[k]?=some x):l.getD k d=x:=by rw[ep,h];rfl
theorem aAd {E:List Int}{cs:List aG}(h:hk E cs=true)(aq:Nat)(c2:Int)(c3:Nat)(c4:Int):Jc cs ((aq:Int),c2,(c3:Int),c4)=(ao E cs).w (cg ((aq:Int),c2,(c3:Int),c4)):=by
 unfold Jc Day.w;have:=IX h aq c3;show ((c4:Int):Rat)/((gJ cs aq c3:Int):Rat)=((c4:Int):Rat)/(ao E cs).S ((aq:Int)).toNat ((c3:Int)).toNat;rw[jE,jE,<-this]
 rfl
structure Se (a:nu) (mem:Mem):Prop where
 at_:a.e6 mem
 cB:ld 277 mem
 dA:ld 280 mem
 ek:ld 281 mem
 tF:fV a.E a.cs
 aI:(D a.aI)=D a.E
 pl:(D a.P)=D a.E
 f10:∀x∈a.aI,0<=x/\x<=10
 la:rC (ao a.E a.cs) (bb a.aI) (dL a.P)
theorem aAe (T:bl)(hQ:T oY=aQ u2)(lK:T q7=aQ xX)(ab1:T Pz=qG Nh)(uW:T Aq=aQ Fe)(tu:T Cp=aQ Fg){K:eI->bo->Prop}{kk:List fJ}(en:Mem)(a:nu)(aW:Se a en)(i:Nat)(Q:i<D a.E)(rE:R)(bE m8:Nat)(Ni:Option (Nat×List R))(Ke:List R)(tm:Nat->R)(m:Mem)
  (bw:tm 0=.ptr 261029 a.g 0) (bp:tm 3=.I (.int .i64 (D a.E))) (bM:tm 4=rE) (dw:tm 5=.I (.int .i64 i)) (bH:tm 6=.ptr 277006 bE 0) (df:tm 8=.I (.int .i64 0)) (alQ:Ke=(ar (al ((ao a.E a.cs).st (bb a.aI) i))).map .I) (gV:m 277006=some (bE,.ref 277043 m8 4 0 (D a.E)::Ke)) (n0:m 277043=some (m8,aV ar (cK (D a.E) λj=>if i=j then 1 else 0))) (zw:m 277165=Ni) (bD:dJ 277 en m)
  (cZ:∀tm' m',tm' 0=.ptr 261029 a.g 0->tm' 3=.I (.int .i64 (D a.E))->tm' 4=rE->tm' 5=.I (.int .i64 i)->tm' 6=.ptr 277006 bE 0->m' 277006=some (bE,.ref 277043 m8 4 0 (D a.E)::(ar (al ((ao a.E a.cs).pb (bb a.aI) (dL a.P) i (D a.E)))).map .I)->m' 277043=some (m8,aV ar (cK (D a.E) ((ao a.E a.cs).pb (bb a.aI) (dL a.P) i)))->m' 277165=Ni->dJ 277 en m'->cd T K kk (.exit 4) ⟨tm',m'⟩) :
  wp T (Dj.body.sub [1,1,1,0,1,0,0,0,1,0,0,1,1,1,0,1,0]) (cd T K kk) ⟨tm,m⟩:=by
 simp only[Dj,er.sub];obtain⟨E,cs,aI,P,g,b1,eT⟩:=a;obtain⟨bY,hK,iw,n1,U,iI,ia,dS,im⟩:=aW;dsimp only at *;have ab:=U.ok;have aw:=(zu U.right).1;have hZ:=bY.r;have vw:=bY.f;have iQ:=bY.p;dsimp only at hZ vw iQ
 refine cU [0,3,4,5,6] [277165] (λ(t:Nat) tm m=>t<=D cs/\tm 8=.I (.int .i64 t)/\m 277006=some (bE,.ref 277043 m8 4 0 (D E)::(ar (al (pe (ao E cs) (bb aI) (dL P) i ((cs.take t).map cg)))).map .I)/\m 277043=some (m8,aV ar (cK (D E) (mF (ao E cs) (bb aI) (dL P) i ((cs.take t).map cg))))/\dJ 277 en m) (λt=>D cs-t) 0 (by
  refine⟨by omega,df,?_,?_,bD⟩
  ·rw[gV,alQ,mU,cC,alK]
  ·rw[n0,mU,cC]
   congr 3
   exact wC λk _=>(alJ _ _ _ i k).symm) ?_
 intro vs ms aJ aH;simp only[go_sem,go_sem_proc,bw,bp,bM,dw,bH,zw] at aJ aH;subst aJ aH;clear bw bp bM dw bH df gV n0 zw bD alQ tm m;rintro t tm m L hm ⟨ca,df,gV,n0,bD⟩;simp only[go_sem,go_sem_proc,bk] at L hm;obtain⟨bw,bp,bM,dw,bH⟩:=L;have Y:=(bD.at 261029 (by omega)).trans hZ;have aC:=(bD.at 261042 (by omega)).trans vw;have aF:=(bD.at 261027 (by omega)).trans iQ;rcases dc (t<D cs) with az|b2
 ·obtain⟨⟨aq,c2,c3,c4⟩,M⟩:∃c,cs[t]?=some c:=⟨_,bq az⟩;have d1:decide ((t:Int)<(D cs:Int))=true:=cT;have bG:=ec (i:=t) (by omega);have fs:=dn M;have H:=(il.1 U.right).2.2.2 _ fs;dsimp only at H
  have gm:(cs.take (t+1)).map cg=(cs.take t).map cg++[cg (aq,c2,c3,c4)]:=by
   rw[gB,M,js];rfl
  obtain⟨aq,rfl⟩:∃k:Nat,aq=(k:Int):=⟨aq.toNat,by omega⟩
  obtain⟨c3,rfl⟩:∃k:Nat,c3=(k:Int):=⟨c3.toNat,by omega⟩
  obtain⟨b,ah⟩:∃b,P[aq]?=some b:=⟨_,bq (by omega)⟩;obtain⟨y,aj⟩:∃y,aI[aq]?=some y:=⟨_,bq (by omega)⟩;have zx:=wF (f:=h5) ah;have x4:=wF (f:=dR) aj;have oF:=dS y (dn aj);have bJ:aq+1<=D P:=by omega
  have bO:aq<D P:=by omega
  have eH:aq+1<=D aI:=by omega
  have eV:aq<D aI:=by omega
  have ll:bb aI aq=y.toNat:=by unfold bb;rw[FW aj]
  have ts:dL P aq↔b=true:=by unfold dL;rw[FW ah]
  have fv:cg ((aq:Int),c2,(c3:Int),c4)=⟨aq,c2,c3,(c4:Rat)⟩:=by
   show ef.mk ((aq:Int)).toNat c2 ((c3:Int)).toNat (c4:Rat)=_;rw[jE,jE]
  have Nl:pd (bb aI) (dL P) i (cg ((aq:Int),c2,(c3:Int),c4))↔c2=(i:Int)/\(c3:Int)=y/\b=true:=by
   rw[fv];show c2=(i:Int)/\c3=bb aI aq/\dL P aq↔_;rw[ll,ts]
   constructor
   ·rintro⟨G,J,af⟩;exact⟨G,by omega,af⟩
   ·rintro⟨G,J,af⟩;exact⟨G,by omega,af⟩
  have xJ:(¬ pd (bb aI) (dL P) i (cg ((aq:Int),c2,(c3:Int),c4))\/c4=0)->m 277006=some (bE,.ref 277043 m8 4 0 (D E)::(ar (al (pe (ao E cs) (bb aI) (dL P) i ((cs.take (t+1)).map cg)))).map .I)/\m 277043=some (m8,aV ar (cK (D E) (mF (ao E cs) (bb aI) (dL P) i ((cs.take (t+1)).map cg)))):=by
   intro h
   have cW:¬ pd (bb aI) (dL P) i (cg ((aq:Int),c2,(c3:Int),c4))\/(cg ((aq:Int),c2,(c3:Int),c4)).am=0:=h.imp id λh=>by
    show ((c4:Int):Rat)=0;rw[h];rfl
   rw[gm,alO cW,gV];refine⟨rfl,?_⟩;rw[n0]
   congr 3
   exact wC λk _=>(alM cW k).symm
  have wm:∀x,h5 x=.I (.bool x):=λ_=>rfl;have hI:∀x,dR x=.I (.int .i64 x):=λ_=>rfl;rcases av:(c2==(i:Int))
  ·obtain⟨s1,s2⟩:=xJ (.inl λh=>by have:=(Nl.1 h).1;rw[this] at av;simp at av);refine ak ?_;repeat' (intro (ay:_=_)<;>simp only[ay,go_sem,go_sem_proc,bw,bp,bM,dw,bH,df,hm,Y,M,d1,bG,av,bR,aE,bj,bne,db,cw]<;>try refine ai ?_ ?_)
   exact⟨t+1,by omega,by omega,rfl,s1,s2,(bD.eb (by decide)).eb (by decide)⟩
  ·cases b
   ·obtain⟨s1,s2⟩:=xJ (.inl λh=>by have:=(Nl.1 h).2.2;cases this);refine ak ?_;repeat' (intro (ay:_=_)<;>simp only[ay,go_sem,go_sem_proc,bw,bp,bM,dw,bH,df,hm,Y,aC,aF,M,zx,bJ,bO,d1,bG,av,bR,dY,wm,aE,bj,bne,db,cw]<;>try refine ai ?_ ?_)
    exact⟨t+1,by omega,by omega,rfl,s1,s2,(bD.eb (by decide)).eb (by decide)⟩
   ·rcases aB:((c3:Int)==y)
    ·obtain⟨s1,s2⟩:=xJ (.inl λh=>by have:=(Nl.1 h).2.1;rw[this] at aB;simp at aB);refine ak ?_;repeat' (intro (ay:_=_)<;>simp only[ay,go_sem,go_sem_proc,bw,bp,bM,dw,bH,df,hm,Y,aC,aF,M,zx,x4,bJ,bO,eH,eV,d1,bG,av,aB,bR,dY,wm,hI,aE,bj,bne,db,cw]<;>try refine ai ?_ ?_)
     exact⟨t+1,by omega,by omega,rfl,s1,s2,(bD.eb (by decide)).eb (by decide)⟩
    ·rcases ab2:(c4==0)
     ·have E3:c2=(i:Int):=beq_iff_eq.1 av;have yy:(c3:Int)=y:=beq_iff_eq.1 aB;have alR:=Nl.2 ⟨E3,yy,rfl⟩;have dh:=im.pW aq (ts.2 rfl);rw[ll,<-yy,jE,<-IX U.right] at dh
      have alS:0<gJ cs aq c3:=by
       have:(0:Int)<b4 cs aq (c3+1:Nat)-b4 cs aq c3:=by exact_mod_cast dh
       exact this
      have pC:∀m':Mem,dJ 277 en m'->Nh [.ptr 261029 g 0,.agg ((bR ((aq:Int),c2,(c3:Int),c4)).map .I)] m'=some (.agg (ar (al ((ao E cs).w (cg ((aq:Int),c2,(c3:Int),c4)))))):=λm' z7=>by
       rw[<-aAd U.right aq c2 c3 c4];exact az6 ⟨E,cs,.ref 261042 b1 1 0 (D aI),.ref 261027 eT 1 0 (D P),g,((aq:Int),c2,(c3:Int),c4)⟩ m' ⟨(z7.at 261029 (by omega)).trans hZ,n1.aK z7 (by decide),zu U.right,by dsimp only;omega,by dsimp only;omega,by dsimp only;omega,by dsimp only;omega,alS⟩
      have P0:=λ(cQ dd:Nat) (FO vy:List R)=>pC (a9 (a9 m 277009 cQ FO) 277009 dd vy) ((bD.eb (by decide)).eb (by decide));have ns:=U.upto aq c3;have n2:dr (b4 cs aq c3):=iB (by omega) (by omega);have alT:=Dl (b4 cs aq c3) n2;have nL:=RZ cs aq c3 (zu U.right);have k5:=aAa U (bb aI) (dL P) i (cs.take t) (λc H=>z5 H) aq;have k6:=aAb U (bb aI) (dL P) i (cs.take t) λc H=>z5 H;have pf:=Sb U fs;have u4:eA 29 ((b4 cs aq c3:Int):Rat):=sy (by omega);have m2:(cs.take t).length<=12:=by have:=U.qF;rw[gv];omega
      have fQ:=abT (iY k5 (by omega)) (iY pf (by omega)) (zq k5 (wA pf) (by omega));have hg:=alx (iY pf (by omega)) (iY u4 (by omega)) (MH pf u4 (by omega));have wz:=abT (iY k6 (by omega)) (iY (Bk pf u4) (by omega)) (zq k6 (wA (Bk pf u4)) (by omega))
      have u5:cK (D E) (mF (ao E cs) (bb aI) (dL P) i ((cs.take (t+1)).map cg))=(cK (D E) (mF (ao E cs) (bb aI) (dL P) i ((cs.take t).map cg))).set aq (al (mF (ao E cs) (bb aI) (dL P) i ((cs.take t).map cg) aq-(ao E cs).w (cg ((aq:Int),c2,(c3:Int),c4)))):=by
       rw[Sd,gm];refine wC λk _=>?_;rw[alL alR,fv]
       by_cases L:k=aq
       ·rw[ad L,ad L,L]
       ·rw[ag L,ag L]
      have jt:pe (ao E cs) (bb aI) (dL P) i ((cs.take (t+1)).map cg)=pe (ao E cs) (bb aI) (dL P) i ((cs.take t).map cg)-(ao E cs).w (cg ((aq:Int),c2,(c3:Int),c4))*((b4 cs aq c3:Int):Rat):=by
       rw[gm,alN alR,pX U.right,fv]
      have LY:(cK (D E) (mF (ao E cs) (bb aI) (dL P) i ((cs.take t).map cg))).length=D E:=nX _ _;have ab3:=pY (N:=D E) (mF (ao E cs) (bb aI) (dL P) i ((cs.take t).map cg)) (k:=aq) (by omega);have aAf:=congrArg al jt;clear jt xJ cZ Nl k5 k6 pf u4 gm;generalize al (pe (ao E cs) (bb aI) (dL P) i ((cs.take t).map cg)-(ao E cs).w (cg ((aq:Int),c2,(c3:Int),c4))*((b4 cs aq c3:Int):Rat))=F1 at *;generalize al (mF (ao E cs) (bb aI) (dL P) i ((cs.take t).map cg) aq-(ao E cs).w (cg ((aq:Int),c2,(c3:Int),c4)))=F2 at *;generalize al ((ao E cs).w (cg ((aq:Int),c2,(c3:Int),c4))*((b4 cs aq c3:Int):Rat))=F3 at *;generalize al ((b4 cs aq c3:Int):Rat)=F4 at *;generalize al ((ao E cs).w (cg ((aq:Int),c2,(c3:Int),c4)))=F5 at *;generalize al (pe (ao E cs) (bb aI) (dL P) i ((cs.take t).map cg))=F6 at *;generalize al (mF (ao E cs) (bb aI) (dL P) i ((cs.take t).map cg) aq)=F7 at *;generalize cK (D E) (mF (ao E cs) (bb aI) (dL P) i ((cs.take t).map cg))=bU at *;obtain⟨⟨cE,cO⟩,⟨ei,eS⟩⟩:=F1;obtain⟨⟨c0,ee⟩,⟨gz,gW⟩⟩:=F2;obtain⟨⟨f1,f2⟩,⟨f3,f4⟩⟩:=F3;obtain⟨⟨cQ,dd⟩,⟨iK,mz⟩⟩:=F4;obtain⟨⟨cB,dA⟩,⟨ek,gQ⟩⟩:=F5;obtain⟨⟨lE,lF⟩,⟨tj,tk⟩⟩:=F6;obtain⟨⟨ic,kr⟩,⟨o5,o6⟩⟩:=F7;have t1:=A8 ab3;have t2:=wc (l:=bU) (k:=aq) (by omega);have t3:=C1 (l:=bU) (k:=aq) (by omega) c0 ee gz gW;have Kw:aq<D E:=by omega
      simp only[ar,ey,cC,bR] at fQ hg wz P0 alT gV;refine ak ?_;repeat' (intro (ay:_=_)<;>simp only[ay,go_sem,go_sem_proc,hQ,lK,ab1,uW,tu,bw,bp,bM,dw,bH,df,hm,Y,aC,aF,gV,n0,M,zx,x4,bJ,bO,eH,eV,Kw,d1,bG,av,aB,ab2,P0,nL,alT,fQ,hg,wz,t1,t2,t3,bR,dY,wm,hI,aE,bj,bne,db,cw,beq_self_eq_true]<;>try refine ai ?_ ?_)
      refine⟨t+1,by omega,by omega,rfl,by rw[aAf];rfl,by rw[u5],by repeat first|exact bD|refine dJ.same ?_ hZ|refine dJ.eb ?_ (by decide)⟩
     ·obtain⟨s1,s2⟩:=xJ (.inr (beq_iff_eq.1 ab2));refine ak ?_;repeat' (intro (ay:_=_)<;>simp only[ay,go_sem,go_sem_proc,bw,bp,bM,dw,bH,df,hm,Y,aC,aF,M,zx,x4,bJ,bO,eH,eV,d1,bG,av,aB,ab2,bR,dY,wm,hI,aE,bj,bne,db,cw]<;>try refine ai ?_ ?_)
      exact⟨t+1,by omega,by omega,rfl,s1,s2,(bD.eb (by decide)).eb (by decide)⟩
 ·have d1:decide ((t:Int)<(D cs:Int))=false:=cl;rw[dp (by omega)] at gV n0;have G:pe (ao E cs) (bb aI) (dL P) i (cs.map cg)=(ao E cs).pb (bb aI) (dL P) i (D E):=az9 ab;have J:cK (D E) (mF (ao E cs) (bb aI) (dL P) i (cs.map cg))=cK (D E) ((ao E cs).pb (bb aI) (dL P) i):=wC λk L=>az8 (d:=ao E cs) Q L;rw[G] at gV;rw[J] at n0;refine ak ?_;repeat' (intro (ay:_=_)<;>simp only[ay,go_sem,go_sem_proc,bw,bp,bM,dw,bH,df,Y,d1,aE]<;>try refine ai ?_ ?_)
  refine cZ _ _ ?_ ?_ ?_ ?_ ?_ gV n0 hm bD<;>simp only[dk,cp,if_false,bw,bp,bM,dw,bH]
theorem alU (r:b9):((de r).map R.I).all R.one=true:=rfl
theorem aAg {aI:List Int}(h:∀x∈aI,0<=x/\x<=10){i:Nat}(Q:i<D aI):aI.getD i 0=(bb aI i:Int):=by
 unfold bb;rw[ep,ep,bq Q];have:=h _ (lq Q);simp only[Option.getD_some];omega
theorem aAh {E:List Int}{cs:List aG}{aI:List Int}(Y:hk E cs=true)(aw:(D aI)=D E)(h:∀x∈aI,0<=x/\x<=10)(i:Nat):FU E cs aI i=lb E cs (bb aI) i:=by
 unfold FU lb
 congr 1
 refine FD λc H=>?_;have:=(il.1 Y).2.2.2 c H;rw[aAg h (by omega)]
theorem aAi {N i:Nat}(Q:i<N):(et N (al ((0:Int):Rat))).set i (al ((1:Int):Rat))=cK N λj=>if i=j then 1 else 0:=by
 have:et N (al ((0:Int):Rat))=cK N λ_=>0:=I4 wk λk L=>by
  rw[ab4,ad L];rfl
 rw[this,Sd];refine wC λk _=>?_
 by_cases h:k=i
 ·rw[ad h,ad h.symm];rfl
 ·rw[ag h,ag (Ne.symm h)]
def ab5:List R->Mem->Option Data:=zv (λ(a:nu) args mem=>args=[.ptr 261029 a.g 0]/\Se a mem) λa => .X ((cK (D a.E) ((ao a.E a.cs).e0 (bb a.aI) (dL a.P))).map ar)
theorem aAj (a:nu)(mem:Mem)(h:Se a mem):ab5 [.ptr 261029 a.g 0] mem=some (.X ((cK (D a.E) ((ao a.E a.cs).e0 (bb a.aI) (dL a.P))).map ar)):=by
 refine Ja (a:=a) ?_ ⟨rfl,h⟩;rintro a b args mem ⟨av,aB⟩ ⟨bp,bM⟩;rw[nu.uniq aB.at_ bM.at_]
theorem aAk (T:bl)(aAl:T VA=qG abY)(hQ:T oY=aQ u2)(lK:T q7=aQ xX)(ab1:T Pz=qG Nh)(uW:T Aq=aQ Fe)(tu:T Cp=aQ Fg)(aAm:T Vd=aQ aaj)(a:nu)(mem:Mem)(aW:Se a mem):
  wp T Dj.body (pQ Dj.res λm mem'=>dz 6 emp m=some (.X ((cK (D a.E) ((ao a.E a.cs).e0 (bb a.aI) (dL a.P))).map ar))/\dJ 277 mem mem') ⟨lk [.ptr 261029 a.g 0],mem⟩:=by
 have dB:=aW;obtain⟨E,cs,aI,P,g,b1,eT⟩:=a;obtain⟨bY,hK,iw,n1,U,iI,ia,dS,im⟩:=aW;dsimp only at *;have hZ:=bY.r;dsimp only at hZ;have aM:=U.hE;have aAn:mem 277165=none:=hK 277165 (by decide);refine sV ?_;simp only[Dj];generalize dV:(ao E cs).pb (bb aI) (dL P)=A at *;simp only[go_sem,go_sem_proc,hZ,aAn,aE];refine cU [0,3] [] (λ((i,zy):Nat×Nat) tm m=>i<=D E/\tm 5=.I (.int .i64 i)/\tm 4=.ref 277165 zy 5 0 i/\m 277165=some (zy,aV de ((rowsOf (D E) A).take i))/\dJ 277 mem m) (λ(i,_)=>D E-i) (0,0) (by refine⟨by omega,rfl,rfl,rfl,(dJ.refl _ _).eb (by decide)⟩) ?_;intro vs ms aJ aH;simp only[go_sem,go_sem_proc] at aJ aH;subst aJ aH;rintro⟨i,zy⟩ tm m L hm ⟨Q,dw,bM,zw,bD⟩;simp only[go_sem,go_sem_proc,bk] at L;obtain⟨bw,bp⟩:=L;have Y:=(bD.at 261029 (by omega)).trans hZ;rcases dc (i<D E) with az|b2
 ·have d1:decide ((i:Int)<(D E:Int))=true:=cT;have bG:=ec (i:=i) (by omega);have dF:=az3 ⟨E,cs,aI,P,g,b1,eT⟩ i m (tD.aK bY bD (by decide)) (iw.aK bD (by decide)) U.right iI az;dsimp only at dF;have aLr:=U.steady (bb aI) i;rw[aAh U.right iI dS i] at dF;have wH:dr (lb E cs (bb aI) i):=iB (by omega) (by omega);have Sf:=Dl _ wH;rw[FK U.right] at Sf;have G:=Dl 1 Sc;generalize aAo:al ((ao E cs).st (bb aI) i)=SF at *;obtain⟨⟨s1,s2⟩,⟨bK,bL⟩⟩:=SF;simp only[ar] at Sf;simp only[go_sem,go_sem_proc,aAl,hQ,bw,bp,dw,d1,dF,Sf];refine Nf (kc:=277006) (g:=fN (m 277006)) (off:=0) (cs:=[.nil,.I (.int .i64 s1),.I (.X (s2.map ae)),.I (.int .i64 bK),.I (.X (bL.map ae))]) ?_ ?_ rfl (by decide) ?_
  ·simp only[go_sem,go_sem_proc]
  ·simp[a9]
  simp only[go_sem,go_sem_proc,mx];refine aAc T hQ mem (D E) (by omega) (.ptr 261029 g 0) (.ref 277165 zy 5 0 i) (fN (m 277006)) (fN (m 277043)) (.I (.int .i64 s1)) (.I (.X (s2.map ae))) (.I (.int .i64 bK)) (.I (.X (bL.map ae))) (some (zy,aV de ((rowsOf (D E) A).take i))) _ _ ?_ ?_ ?_ i ?_ ?_ ?_ ?_ ?_ ?_ ?_ ?_
  ·simp only[dk,cp,if_false];exact bw
  ·simp only[dk,cp,if_false];exact bp
  ·simp only[dk,cp,if_false];exact bM
  ·simp only[dk,cp,if_false];exact dw
  ·simp only[dk,cp,if_false,if_true]
  ·simp only[dk,cp,if_false,if_true]
  ·simp[a9]
  ·simp[a9]
  ·simp only[a9,cp,if_false];exact zw
  ·repeat first|exact bD|refine dJ.eb ?_ (by decide)
  intro tm b7 m8 ev ek gQ h2 fj lH Dn ab6 jN;have a8:=(jN.at 261029 (by omega)).trans hZ;have cm:(et (D E) (al ((0:Int):Rat))).length=D E:=wk;have w6:=aAi az;clear bw bp bM dw dF Sf zw bD Y;generalize hc:et (D E) (al ((0:Int):Rat))=bU at *;generalize gj:al ((1:Int):Rat)=a2 at *;obtain⟨⟨lE,lF⟩,⟨tj,tk⟩⟩:=a2;have t2:=wc (l:=bU) (k:=i) (by omega);have t3:=C1 (l:=bU) (k:=i) (by omega) lE lF tj tk;simp only[ar] at G;simp only[go_sem,go_sem_proc,hQ,ev,ek,gQ,h2,fj,lH,Dn,a8,G,az,t2,t3];refine aAe T hQ lK ab1 uW tu mem ⟨E,cs,aI,P,g,b1,eT⟩ dB i az (.ref 277165 zy 5 0 i) (fN (m 277006)) m8 (some (zy,aV de ((rowsOf (D E) A).take i))) [.I (.int .i64 s1),.I (.X (s2.map ae)),.I (.int .i64 bK),.I (.X (bL.map ae))] _ _ ?_ ?_ ?_ ?_ ?_ ?_ ?_ ?_ ?_ ?_ ?_ ?_
  ·simp only[dk,cp,if_false];exact ev
  ·simp only[dk,cp,if_false];exact ek
  ·simp only[dk,cp,if_false];exact gQ
  ·simp only[dk,cp,if_false];exact h2
  ·simp only[dk,cp,if_false];exact fj
  ·simp only[dk,cp,if_false,if_true]
  ·dsimp only;rw[aAo];rfl
  ·simp only[a9,cp,if_false];exact lH
  ·simp only[a9,cp,if_true];rw[w6]
  ·simp only[a9,cp,if_false];exact ab6
  ·repeat first|exact jN|refine dJ.eb ?_ (by decide)
  dsimp only;rw[dV];intro tm gG ev ek gQ h2 fj lH Dn ab6 zz;clear w6 t2 t3 G a8;have dv:=λcs jj=>jm qs alU 277165 zy 88 ((rowsOf (D E) A).take i) (cK (D E) (A i),al (A i (D E))) (cs:=cs) jj;have m2:((rowsOf (D E) A).take i).length=i:=by rw[gv,wD];omega
  have gm:(rowsOf (D E) A).take i++[(cK (D E) (A i),al (A i (D E)))]=(rowsOf (D E) A).take (i+1):=by
   rw[gB,abi A az];rfl
  rw[m2,gm] at dv;have iH:(cK (D E) (A i)).length=D E:=nX _ _;generalize cK (D E) (A i)=V at *;generalize al (A i (D E))=jW at *;obtain⟨⟨v1,v2⟩,⟨iz,v4⟩⟩:=jW;have kI:=dv _ rfl (by omega) (by omega);simp only[ar,de,ey,cC] at lH kI;simp only[go_sem,go_sem_proc];refine R7 (kc:=277006) (gc:=fN (m 277006)) (off:=0) (cc:=[.ref 277043 m8 4 0 (D E),.I (.int .i64 v1),.I (.X (v2.map ae)),.I (.int .i64 iz),.I (.X (v4.map ae))]) (k:=277043) (g:=m8) (sz:=4) (o:=0) (len:=D E) (cs:=aV ar V) (d:=.X (V.map ar)) ?_ lH rfl Dn (Ha _ _) (by decide) ?_ ?_
  ·exact fj
  ·have:=jU (n:=0) iT Dn;rw[iH] at this;exact this
  refine ak ?_;repeat' (intro h<;>simp only[h,go_sem,go_sem_proc,ev,ek,gQ,h2,fj,ab6,kI,bG,mx]<;>try refine ai ?_ ?_)
  exact⟨(i+1,zy+1),by dsimp only;omega,by dsimp only;omega,rfl,rfl,rfl,by repeat first|exact zz|refine dJ.eb ?_ (by decide)⟩
 ·have d1:decide ((i:Int)<(D E:Int))=false:=cl;have cI:i=D E:=by omega
  have hlen:=wD (D E) A;rw[dp (by rw[hlen];omega)] at zw;obtain⟨c0,ee⟩:=azd U im;rw[dV] at c0 ee
  have hP:kz (rowsOf (D E) A):=by
   rw[<-dV];exact akV (by omega) λi Q k L=>iY ((abg U im.pW).sz (by omega) Q L) (by omega)
  have dG:=axH (rowsOf (D E) A) (D E) hP;rw[<-axZ hP,c0] at dG;dsimp only at dG;have ke:=λ(K:bo->Prop) (st:bo)=>oW (K:=K) (st:=st) qs 4 277165 zy (rowsOf (D E) A);rw[hlen] at ke;subst cI;refine ak ?_;repeat' (intro h<;>simp only[h,go_sem,go_sem_proc,aAm,bw,bp,bM,dw,Y,zw,d1,ke,dG,bne,beq_self_eq_true,cw]<;>try refine ai ?_ ?_)
  exact⟨_,rfl,rfl,by repeat first|exact bD|refine dJ.same ?_ hZ|refine dJ.eb ?_ (by decide)⟩
def u6 (cs:List aG)(cr:Int)(x:Rat):Nat->Nat
 |0=>10
 |k+1=>if x<((b4 cs cr (10-(k+1)+1:Nat):Int):Rat) then 10-(k+1) else u6 cs cr x k
theorem alV {E:List Int}{cs:List aG}(h:hk E cs=true)(f:Nat->Rat)(i:Nat):∀k,u6 cs i (f i) k=(ao E cs).h4 f i k
 |0=>rfl
 |k+1=>by
  unfold u6 Day.h4;rw[pX h,alV h f i k]
theorem aAp (cs:List aG)(cr:Int)(x:Rat)(k:Nat):u6 cs cr x (k+1)=if x<((b4 cs cr (10-(k+1)+1:Nat):Int):Rat) then 10-(k+1) else u6 cs cr x k:=rfl
abbrev Sg:(List aG)×Int×Rat->List Data:=λ(cs,cr,x)=>[.X (cs.map bR),.int .i64 cr,.agg (ar (al x))]
def Nm:=cn Sg λ(cs,cr,x)=>cN (rD cs/\dx x) (.same (.int .i64 (u6 cs cr x 10)))
theorem alW:∀a b,Sg a=Sg b->a=b:=by
  rintro⟨FO,azt,a5⟩ ⟨vy,azu,bX⟩ h;simp only[bk,Data.X.injEq,Data.int.injEq,Data.agg.injEq,and_true,true_and] at h;exact dN (map_inj sx _ _ h.1) (dN h.2.1 (Xu (np _ _ h.2.2)))
@[go_sem] theorem aAq (cs:List aG)(cr:Int)(x:Rat)(H:rD cs/\dx x):Nm [.X (cs.map bR),.int .i64 cr,.agg (ar (al x))]=some (.same (.int .i64 (u6 cs cr x 10))):=(cz alW (cs,cr,x)).trans (cX H _)
theorem aAr (T:bl)(lK:T q7=aQ xX)(hQ:T oY=aQ u2)(iq:T s4=aQ x1)(cs:List aG)(cr:Int)(x:Rat)(H:rD cs/\dx x):WP T abu (.same (.int .i64 (u6 cs cr x 10))) [.I (.X (cs.map bR)),.I (.int .i64 cr),.I (.agg (ar (al x)))]:=by
 refine cD ?_;simp only[abu];obtain⟨cM,mv⟩:=H;generalize dG:al x=aR at *;obtain⟨⟨cE,cO⟩,⟨ei,eS⟩⟩:=aR;simp only[go_sem,go_sem_proc,ar];refine cU [0,1,5] [273005] (λ(k:Nat) tm m=>k<=10/\tm 7=.I (.int .i64 k)/\u6 cs cr x 10=u6 cs cr x (10-k)) (λk=>10-k) 0 (by refine⟨by omega,rfl,rfl⟩) ?_;intro vs ms aJ aH;simp only[go_sem,go_sem_proc] at aJ aH;subst aJ aH;rintro k tm m L hm ⟨aAs,b5,xW⟩;simp only[go_sem,go_sem_proc,bk] at L hm;obtain⟨bw,av,dw⟩:=L;rcases dc (k<10) with az|b2
 ·have d1:decide ((k:Int)<10)=true:=cT;have bG:=ec (i:=k) (by omega);have ns:=cM.upto cr (k+1:Nat);have n2:dr (b4 cs cr (k+1:Nat)):=iB (by omega) (by omega);have nL:=RZ cs cr (k+1:Nat) cM;have hw:=Dl _ n2;have k0:=Nd mv (y:=((b4 cs cr (k+1:Nat):Int):Rat)) ⟨by rw[ab7];exact td n2,by rw[ab8];decide +kernel⟩
  have b2:decide (jV x ((b4 cs cr (k+1:Nat):Int):Rat)>=0)=decide (((b4 cs cr (k+1:Nat):Int):Rat)<=x):=R6
  have he:u6 cs cr x (10-k)=if x<((b4 cs cr (k+1:Nat):Int):Rat) then k else u6 cs cr x (10-(k+1)):=by
   obtain⟨j,aA⟩:∃j,10-k=j+1:=⟨9-k,by omega⟩
   rw[aA,aAp,show 10-(j+1)=k by omega,show 10-(k+1)=j by omega]
  rw[dG] at k0;generalize ku:al ((b4 cs cr (k+1:Nat):Int):Rat)=bu at *;obtain⟨⟨c0,ee⟩,⟨gz,gW⟩⟩:=bu;simp only[ar] at hw k0
  by_cases M:x<((b4 cs cr (k+1:Nat):Int):Rat)
  ·rw[ad M] at he;have d2:decide (jV x ((b4 cs cr (k+1:Nat):Int):Rat)>=0)=false:=by rw[b2];exact h7 (by grind)
   rw[xW,he];refine ak ?_;repeat' (intro h<;>simp only[h,go_sem,go_sem_proc,lK,hQ,iq,lK,hQ,iq,bw,av,dw,b5,hm,d1,bG,nL,hw,k0,d2]<;>try refine ai ?_ ?_)
  ·rw[ag M] at he;have d2:decide (jV x ((b4 cs cr (k+1:Nat):Int):Rat)>=0)=true:=by rw[b2];exact jw (by grind)
   refine ak ?_;repeat' (intro h<;>simp only[h,go_sem,go_sem_proc,lK,hQ,iq,lK,hQ,iq,bw,av,dw,b5,hm,d1,bG,nL,hw,k0,d2]<;>try refine ai ?_ ?_)
   exact⟨k+1,by omega,by omega,rfl,xW.trans he⟩
 ·have d1:decide ((k:Int)<10)=false:=cl;obtain rfl:k=10:=by omega
  rw[xW];refine ak ?_;repeat' (intro h<;>simp only[h,go_sem,go_sem_proc,lK,hQ,iq,bw,av,dw,b5,hm,d1,u6]<;>try refine ai ?_ ?_)
def fB (n:Nat)(p:Nat->Bool):List Bool:=(eN n).map p
theorem sA (n:Nat)(p:Nat->Bool):(fB n p).length=n:=by simp[fB]
theorem Dp {n i:Nat}(p:Nat->Bool)(h:i<n):(fB n p)[i]?=some (p i):=by
 unfold fB;rw[bj,tU h];rfl
theorem alX {n i:Nat}(p:Nat->Bool)(b:Bool):(fB n p).set i b=fB n λj=>if j=i then b else p j:=by
 apply oR;intro j;rcases g2 j n with aA|aA
 ·rw[Dp _ aA,lG]
  by_cases h:i=j
  ·rw[ad h,ad (by rw[sA];omega),ad h.symm]
  ·rw[ag h,Dp _ aA,ag (Ne.symm h)]
 ·rw[ja (by rw[jF,sA];omega),ja (by rw[sA];omega)]
theorem FX {n:Nat}{p q:Nat->Bool}(h:∀i,i<n->p i=q i):fB n p=fB n q:=oi λi Q=>h i (iM.1 Q)
theorem Nn {n i:Nat}{p:Nat->Bool}:dL (fB n p) i↔i<n/\p i=true:=by
 unfold dL;rcases g2 i n with h|h
 ·rw[FW (Dp p h)];exact⟨λe=>⟨h,e⟩,λe=>e.2⟩
 ·rw[ep,ja (by rw[sA];exact h)];simp;omega
def pg (d:Day)(f:Nat->Nat)(h:Nat->Rat)(i:Nat):Bool:=decide (f i<10)&&decide (d.bI i (f i)<h i)
def hR (d:Day)(f:Nat->Nat)(h:Nat->Rat)(p:Nat->Bool)(i j:Nat):Bool:=p j||(decide (j<i)&&pg d f h j)
def u7 (d:Day)(f:Nat->Nat)(h:Nat->Rat)(p:Nat->Bool)(i:Nat):Bool:=(eN i).any λj => !p j&&pg d f h j
theorem alY (d:Day)(f:Nat->Nat)(h:Nat->Rat)(p:Nat->Bool)(i:Nat):u7 d f h p (i+1)=(u7 d f h p i||(!p i&&pg d f h i)):=by
 unfold u7;rw[pZ,List.any_append];simp
theorem Sh (d:Day)(f:Nat->Nat)(h:Nat->Rat)(p:Nat->Bool)(i:Nat):hR d f h p i i=p i:=by
 unfold hR;rw[h7 (Nat.lt_irrefl i),eR,qc]
theorem ab9 (d:Day)(f:Nat->Nat)(h:Nat->Rat)(p:Nat->Bool)(i j:Nat):hR d f h p (i+1) j=if j=i then (p i||pg d f h i) else hR d f h p i j:=by
 unfold hR
 by_cases aA:j=i
 ·subst aA;rw[ad rfl,jw (Nat.lt_succ_self j),fD]
 ·rw[ag aA]
  congr 2
  rw[decide_eq_decide];omega
structure aAt (a:nu) (mem:Mem):Prop where
 at_:a.e6 mem
 cB:ld 277 mem
 dA:ld 280 mem
 ek:ld 281 mem
 tF:fV a.E a.cs
 aI:(D a.aI)=D a.E
 pl:(D a.P)=D a.E
 f10:∀x∈a.aI,0<=x/\x<=10
theorem aAu (T:bl)(hQ:T oY=aQ u2)(lK:T q7=aQ xX)(iq:T s4=aQ x1){K:eI->bo->Prop}{kk:List fJ}(en:Mem)(a:nu)(p:Nat->Bool)(fi:a.P=fB (D a.E) p)(U:fV a.E a.cs)(iI:(D a.aI)=D a.E)(dS:∀x∈a.aI,0<=x/\x<=10)(h:Nat->Rat)(hP:∀i,i<(D a.E)->dx (h i))(tm:Nat->R)(m:Mem)
  (bY:a.e6 m) (bD:∀k,k≠261027->m k=en k) (bw:tm 0=.ptr 261029 a.g 0) (bp:tm 3=.I (.int .i64 (D a.E))) (dw:tm 5=.I (.X ((cK (D a.E) h).map ar))) (bH:tm 6=.I (.bool false)) (b5:tm 7=.I (.int .i64 0))
  (cZ:∀tm' m',tm' 0=.ptr 261029 a.g 0->tm' 3=.I (.int .i64 (D a.E))->tm' 5=.I (.X ((cK (D a.E) h).map ar))->tm' 6=.I (.bool (u7 (ao a.E a.cs) (bb a.aI) h p (D a.E)))->tD a.E a.cs a.aI (fB (D a.E) (hR (ao a.E a.cs) (bb a.aI) h p (D a.E))) a.g a.b1 a.eT m'->(∀k,k≠261027->m' k=en k)->cd T K kk (.exit 4) ⟨tm',m'⟩) :
  wp T (I6.body.sub [1,1,1,0,0,0,1,0,1,1,0,1,0]) (cd T K kk) ⟨tm,m⟩:=by
 simp only[I6,er.sub];obtain⟨E,cs,aI,P,g,b1,eT⟩:=a;dsimp only at *;subst fi;have aM:=U.hE
 refine cU [0,3,5] [] (λ(i:Nat) tm m=>i<=D E/\tm 7=.I (.int .i64 i)/\tm 6=.I (.bool (u7 (ao E cs) (bb aI) h p i))/\tD E cs aI (fB (D E) (hR (ao E cs) (bb aI) h p i)) g b1 eT m/\∀k,k≠261027->m k=en k) (λi=>D E-i) 0 (by
  refine⟨by omega,b5,bH,?_,bD⟩
  have:fB (D E) (hR (ao E cs) (bb aI) h p 0)=fB (D E) p:=FX λj _=>by
   unfold hR;rw[cl,eR,qc]
  rw[this];exact bY) ?_
 intro vs ms aJ aH;simp only[go_sem,go_sem_proc,bw,bp,dw] at aJ aH;subst aJ aH;clear bw bp dw bH b5 bY bD tm m;rintro i tm m L-⟨Q,b5,bH,bY,bD⟩;simp only[go_sem,go_sem_proc,bk] at L;obtain⟨bw,bp,dw⟩:=L;have Y:=bY.r;have aC:=bY.f;have aF:=bY.p;rw[sA] at Y;rcases dc (i<D E) with az|b2
 ·have d1:decide ((i:Int)<(D E:Int))=true:=cT;have bG:=ec (i:=i) (by omega);obtain⟨y,aj⟩:∃y,aI[i]?=some y:=⟨_,bq (by omega)⟩;have oF:=dS y (dn aj);have ll:bb aI i=y.toNat:=by unfold bb;rw[FW aj]
  obtain⟨y,rfl⟩:∃k:Nat,y=(k:Int):=⟨y.toNat,by omega⟩
  rw[jE] at ll;have x4:=wF (f:=dR) aj;have alZ:=Dp (n:=D E) (hR (ao E cs) (bb aI) h p i) az;rw[Sh] at alZ;have zx:=wF (f:=h5) alZ;have Lr:=alX (n:=D E) (i:=i) (hR (ao E cs) (bb aI) h p i) true;have ed:i+1<=D aI:=by omega
  have aa:i<D aI:=by omega
  have bh:i+1<=D E:=by omega
  have aH:=alY (ao E cs) (bb aI) h p i;have dF:fB (D E) (hR (ao E cs) (bb aI) h p (i+1))=fB (D E) λj=>if j=i then (p i||pg (ao E cs) (bb aI) h i) else hR (ao E cs) (bb aI) h p i j:=FX λj _=>ab9 _ _ _ _ _ _
  have sO:(p i=true\/pg (ao E cs) (bb aI) h i=false)->fB (D E) (hR (ao E cs) (bb aI) h p (i+1))=fB (D E) (hR (ao E cs) (bb aI) h p i):=λaY=>by
   rw[dF];refine FX λj _=>?_
   by_cases aA:j=i
   ·subst aA;rw[ad rfl,Sh];rcases aY with G|G
    ·rw[G];rfl
    ·rw[G,qc]
   ·rw[ag aA]
  have wm:∀x,h5 x=.I (.bool x):=λ_=>rfl;have hI:∀x,dR x=.I (.int .i64 x):=λ_=>rfl;have tG:(fB (D E) (hR (ao E cs) (bb aI) h p i)).length=D E:=sA _ _;rcases d2:decide ((y:Int)<10)
  ·have hV:pg (ao E cs) (bb aI) h i=false:=by
    unfold pg;rw[ll,h7 (by have:=of_decide_eq_false d2;omega),eR]
   rw[hV,jB,qc] at aH;refine ak ?_;repeat' (intro (ay:_=_)<;>simp only[ay,go_sem,go_sem_proc,bw,bp,dw,bH,b5,Y,aC,aF,d1,d2,bG,x4,ed,aa,dY,hI,db,aE]<;>try refine ai ?_ ?_)
   exact⟨i+1,by omega,by omega,rfl,by rw[aH],by rw[sO (.inr hV)];exact bY,bD⟩
  ·rcases oV:p i
   ·rw[oV] at zx;have ns:=U.upto i y;have n2:dr (b4 cs i y):=iB (by omega) (by omega);have nL:=RZ cs i y (zu U.right);have hw:=Dl _ n2;have k0:=Nd (hP i az) (y:=((b4 cs i y:Int):Rat)) ⟨by rw[ab7];exact td n2,by rw[ab8];decide +kernel⟩
    have hL:decide (jV (h i) ((b4 cs i y:Int):Rat)>0)=decide (((b4 cs i y:Int):Rat)<h i):=abV
    have b6:pg (ao E cs) (bb aI) h i=decide (((b4 cs i y:Int):Rat)<h i):=by
     unfold pg;rw[ll,pX U.right,jw (show y<10 by have:=of_decide_eq_true d2;omega),fD]
    rw[<-b6] at hL;have p0:=pY h az;generalize Jd:al (h i)=gf at *;generalize ku:al ((b4 cs i y:Int):Rat)=bu at *;obtain⟨⟨c0,ee⟩,⟨gz,gW⟩⟩:=bu;obtain⟨⟨cE,cO⟩,⟨ei,eS⟩⟩:=gf;simp only[ar] at hw k0;rcases hV:pg (ao E cs) (bb aI) h i
    ·rw[hV] at hL;rw[oV,hV,jB,qc] at aH;refine ak ?_;repeat' (intro (ay:_=_)<;>simp only[ay,go_sem,go_sem_proc,lK,hQ,iq,bw,bp,dw,bH,b5,Y,aC,aF,d1,d2,bG,x4,zx,tG,ed,aa,bh,az,nL,hw,k0,hL,p0,ar,dY,hI,wm,db,cw,aE,bj]<;>try refine ai ?_ ?_)
     exact⟨i+1,by omega,by omega,rfl,by rw[aH],by rw[sO (.inr hV)];exact bY,bD⟩
    ·rw[hV] at hL;rw[oV,hV,db,fD,Ag] at aH
     have jA:lM (nR h5 (fB (D E) (hR (ao E cs) (bb aI) h p i))) i [h5 true]=nR h5 (fB (D E) (hR (ao E cs) (bb aI) h p (i+1))):=by
      rw[dF,hV,oV];have:fB (D E) (λj=>if j=i then (false||true) else hR (ao E cs) (bb aI) h p i j)=(fB (D E) (hR (ao E cs) (bb aI) h p i)).set i true:=Lr.symm;rw[this];unfold lM;rw[wb,Np,ad (by rw[aE,tG];exact az)];simp
     have aAv:hY i (nR h5 (fB (D E) (hR (ao E cs) (bb aI) h p i)))++[R.I (.bool true)]++iP (i+1) (nR h5 (fB (D E) (hR (ao E cs) (bb aI) h p i)))=nR h5 (fB (D E) (hR (ao E cs) (bb aI) h p (i+1))):=jA;refine ak ?_;repeat' (intro (ay:_=_)<;>simp only[ay,go_sem,go_sem_proc,lK,hQ,iq,bw,bp,dw,bH,b5,Y,aC,aF,d1,d2,bG,x4,zx,tG,ed,aa,bh,az,nL,hw,k0,hL,p0,aAv,ar,dY,hI,wm,db,cw,aE,bj]<;>try refine ai ?_ ?_)
     refine⟨i+1,by omega,by omega,rfl,by rw[aH],⟨?_,?_,?_⟩,λk L=>?_⟩
     ·rw[sA];simp only[a9,cp,if_false];exact Y
     ·simp only[a9,cp,if_false];exact aC
     ·simp only[a9,if_true]
     ·simp only[L,if_false];exact bD k L
   ·rw[oV] at zx;rw[oV,cw,eR,qc] at aH;refine ak ?_;repeat' (intro (ay:_=_)<;>simp only[ay,go_sem,go_sem_proc,bw,bp,dw,bH,b5,Y,aC,aF,d1,d2,bG,x4,zx,tG,ed,aa,bh,az,dY,hI,wm,db,cw,aE]<;>try refine ai ?_ ?_)
    exact⟨i+1,by omega,by omega,rfl,by rw[aH],by rw[sO (.inl oV)];exact bY,bD⟩
 ·have d1:decide ((i:Int)<(D E:Int))=false:=cl;obtain rfl:i=D E:=by omega
  refine ak ?_;repeat' (intro (ay:_=_)<;>simp only[ay,go_sem,go_sem_proc,bw,bp,dw,bH,b5,Y,d1]<;>try refine ai ?_ ?_)
  refine cZ _ _ ?_ ?_ ?_ ?_ bY bD<;>simp only[dk,cp,if_false,bw,bp,dw,bH]
theorem al0 {d:Day}{f:Nat->Nat}{h:Nat->Rat}{p:Nat->Bool}:dL (fB d.n (hR d f h p d.n))=tz d f (dL (fB d.n p)) h:=by
 funext i
 apply propext;rw[Nn];unfold tz hR pg;rw[Nn]
 constructor
 ·rintro⟨G,J⟩;rw[yD] at J;rcases J with J|J
  ·exact .inl ⟨G,J⟩
  ·simp only[fw,decide_eq_true_eq] at J;exact .inr ⟨G,J.2⟩
 ·rintro (⟨G,J⟩|⟨G,J⟩)
  ·exact⟨G,by rw[J];rfl⟩
  ·refine⟨G,?_⟩;rw[yD]
   right
   simp only[fw,decide_eq_true_eq];exact⟨G,J⟩
theorem al1 {n:Nat}:dL (fB n λ_=>false)=λ_=>False:=by
 funext i
 apply propext;rw[Nn];simp
theorem al2 {d:Day}{f:Nat->Nat}{h:Nat->Rat}{p:Nat->Bool}{n:Nat}(hm:u7 d f h p n=true):jL n (λi=>if hR d f h p n i then 0 else 1)<jL n λi=>if p i then 0 else 1:=by
 unfold u7 at hm;rw[List.any_eq_true] at hm;obtain⟨j,aA,J⟩:=hm;have aA:=iM.1 aA;simp only[fw,Bool.not_eq_true'] at J;refine aaN (j:=j) (λi Q=>?_) aA ?_
 ·unfold hR
  cases p i
  ·try dsimp only
   split<;>simp
  ·simp
 ·unfold hR;rw[J.1,J.2,jw aA]
  decide
theorem al3 {d:Day}{f:Nat->Nat}{h:Nat->Rat}{p:Nat->Bool}{n:Nat}(hm:u7 d f h p n=false){i:Nat}(Q:i<n)(G:f i<10)(J:d.bI i (f i)<h i):p i=true:=by
 unfold u7 at hm;rw[List.any_eq_false] at hm;have:=hm i (iM.2 Q);unfold pg at this;rw[jw G,jw J] at this
 simpa using this
structure aca (a:nu) (mem:Mem):Prop where
 h:aAt a mem
 inv:∃g,Inv (ao a.E a.cs) (bb a.aI) g
def acb (a:nu)(mem:Mem):R->Mem->Prop:=λm mem'=>m=.I (.X ((cK (D a.E) ((ao a.E a.cs).top (bb a.aI))).map ar))/\∃x2,D x2=D a.E/\tD a.E a.cs a.aI x2 a.g a.b1 a.eT mem'/\∀k,k≠261027->mem' k=mem k
def Si:List R->Mem->Option (R->Mem->Prop):=ze (λ(a:nu) args mem=>args=[.ptr 261029 a.g 0]/\aca a mem) acb
theorem aAw (a:nu)(mem:Mem)(h:aca a mem):Si [.ptr 261029 a.g 0] mem=some (acb a mem):=by
 refine abW (a:=a) ?_ ⟨rfl,h⟩;rintro a b args mem ⟨av,aB⟩ ⟨bp,bM⟩;rw[nu.uniq aB.h.at_ bM.h.at_]
theorem aAx (T:bl)(aAy:T Vy=qG ab5)(hQ:T oY=aQ u2)(lK:T q7=aQ xX)(iq:T s4=aQ x1)(a:nu)(mem:Mem)(aW:aca a mem):
  wp T I6.body (pQ I6.res (acb a mem)) ⟨lk [.ptr 261029 a.g 0],mem⟩:=by
 obtain⟨⟨bY,hK,iw,n1,U,iI,ia,dS⟩,hy,hinv⟩:=aW;have aM:=U.hE;have ab:=U.ok;obtain⟨E,cs,aI,P,g,b1,eT⟩:=a;dsimp only at *;have hZ:=bY.r;have iQ:=bY.p;have vw:=bY.f;dsimp only at hZ iQ vw;rw[ia] at hZ
 have fi:P=fB (D E) λj=>P.getD j false:=by
  apply oR;intro j;rcases g2 j (D E) with aA|aA
  ·rw[Dp _ aA,ep,bq (by omega)];rfl
  ·rw[ja (by omega),ja (by rw[sA];exact aA)]
 refine sV ?_;simp only[I6];simp only[go_sem,go_sem_proc,hZ,aE]
 refine cU [0,3] [] (λ(i:Nat) tm m=>i<=D E/\tm 4=.I (.int .i64 i)/\m 261027=some (eT,(fB (D E) λj=>if j<i then false else P.getD j false).map h5)/\∀k,k≠261027->m k=mem k) (λi=>D E-i) 0 (by
  refine⟨by omega,rfl,?_,λ_ _=>rfl⟩
  rw[iQ]
  congr 2
  rw[fi];exact congrArg _ (FX λj _=>by rw[ag (by omega),<-fi])) ?_
 intro vs ms aJ aH;simp only[go_sem,go_sem_proc] at aJ aH;subst aJ aH;rintro i tm m L-⟨Q,bM,FY,bD⟩;simp only[go_sem,go_sem_proc,bk] at L;obtain⟨bw,bp⟩:=L;have Y:=(bD 261029 (by decide)).trans hZ;rcases dc (i<D E) with az|b2
 ·have d1:decide ((i:Int)<(D E:Int))=true:=cT;have bG:=ec (i:=i) (by omega);have bh:i+1<=D E:=by omega
  have tG:=sA (D E) λj=>if j<i then false else P.getD j false;have Lr:=alX (n:=D E) (i:=i) (λj=>if j<i then false else P.getD j false) false
  have Fa:(fB (D E) λj=>if j=i then false else if j<i then false else P.getD j false)=fB (D E) λj=>if j<i+1 then false else P.getD j false:=FX λj _=>by
   by_cases G:j=i
   ·rw[ad G,ad (by omega)]
   ·rw[ag G]
    by_cases J:j<i
    ·rw[ad J,ad (by omega)]
    ·rw[ag J,ag (by omega)]
  rw[Fa] at Lr
  have jA:hY i (nR h5 (fB (D E) λj=>if j<i then false else P.getD j false))++[R.I (.bool false)]++iP (i+1) (nR h5 (fB (D E) λj=>if j<i then false else P.getD j false))=nR h5 (fB (D E) λj=>if j<i+1 then false else P.getD j false):=by
   rw[<-Lr,wb,Np,ad (by rw[aE,tG];exact az)];simp[h5]
  generalize (fB (D E) λj=>if j<i then false else P.getD j false)=c5 at *;refine ak ?_;repeat' (intro (ay:_=_)<;>simp only[ay,go_sem,go_sem_proc,bw,bp,bM,Y,FY,d1,bG,tG,bh,az,jA,dY,aE]<;>try refine ai ?_ ?_)
  refine⟨i+1,by omega,by omega,rfl,rfl,λk L=>?_⟩
  simp only[L,if_false];exact bD k L
 ·have d1:decide ((i:Int)<(D E:Int))=false:=cl;obtain rfl:i=D E:=by omega
  have Fa:(fB (D E) λj=>if j<(D E) then false else P.getD j false)=fB (D E) λ_=>false:=FX λj aA=>by rw[ad aA]
  rw[Fa] at FY;simp only[go_sem,go_sem_proc,bp,bM,d1]
  refine cU [0,3] [] (λ(p:Nat->Bool) tm m=>tD E cs aI (fB (D E) p) g b1 eT m/\(∀k,k≠261027->m k=mem k)/\rC (ao E cs) (bb aI) (dL (fB (D E) p))) (λp=>jL (D E) λi=>if p i then 0 else 1) (λ_=>false) (by
   refine⟨⟨?_,?_,FY⟩,bD,?_⟩
   ·rw[sA];exact Y
   ·exact (bD 261042 (by decide)).trans vw
   ·rw[al1];exact⟨ab,hy,hinv,iA.first ab hinv⟩) ?_
  intro vs ms aJ aH;simp only[go_sem,go_sem_proc,bw,bp] at aJ aH;subst aJ aH;clear bw bp bM FY bD Y;rintro p tm m L-⟨ue,bD,im⟩;simp only[go_sem,go_sem_proc,bk] at L;obtain⟨bw,bp⟩:=L;have Y:=ue.r
  have gw:∀n,n≠261->ld n mem->ld n m:=λn aM L k k9=>by
   rw[bD k (by rintro rfl;omega)];exact L k k9
  have fK:=aAj ⟨E,cs,aI,fB (D E) p,g,b1,eT⟩ m ⟨ue,gw 277 (by decide) hK,gw 280 (by decide) iw,gw 281 (by decide) n1,U,iI,sA _ _,dS,im⟩;dsimp only at fK;simp only[go_sem,go_sem_proc,aAy,bw,Y,fK,db];refine aAu T hQ lK iq m ⟨E,cs,aI,fB (D E) p,g,b1,eT⟩ p rfl U iI dS ((ao E cs).e0 (bb aI) (dL (fB (D E) p))) (λi Q=>iY (abk U im Q) (by omega)) _ _ ue (λ_ _=>rfl) ?_ ?_ ?_ ?_ ?_ ?_
  ·simp only[dk,cp,if_false];exact bw
  ·simp only[dk,cp,if_false];exact bp
  ·simp only[dk,cp,if_false,if_true]
  ·simp only[dk,cp,if_false,if_true]
  ·simp only[dk,cp,if_false,if_true]
  dsimp only;intro x5 b7 ev ek h2 fj al4 jN;obtain⟨cM,cQ,oc,EL⟩:=im;rcases hm:u7 (ao E cs) (bb aI) ((ao E cs).e0 (bb aI) (dL (fB (D E) p))) p (D E)
  ·rw[hm] at fj;have PV:=EL.aa9 ab oc λi Q G J=>Nn.2 ⟨Q,al3 hm Q G J⟩;rw[wC (N:=D E) PV] at h2;refine ak ?_;repeat' (intro (ay:_=_)<;>simp only[ay,go_sem,go_sem_proc,ev,ek,h2,fj,db]<;>try refine ai ?_ ?_)
   exact⟨_,rfl,rfl,_,sA _ _,al4,λk L=>(jN k L).trans (bD k L)⟩
  ·rw[hm] at fj;refine ak ?_;repeat' (intro (ay:_=_)<;>simp only[ay,go_sem,go_sem_proc,ev,ek,h2,fj,cw]<;>try refine ai ?_ ?_)
   refine⟨_,al2 hm,al4,λk L=>(jN k L).trans (bD k L),?_⟩;have pO:=al0 (d:=ao E cs) (f:=bb aI) (h:=(ao E cs).e0 (bb aI) (dL (fB (D E) p))) (p:=p);have j8:(ao E cs).n=D E:=rfl;rw[j8] at pO;rw[pO];exact⟨ab,cQ,oc,EL.succ ab oc⟩
def dC (cs:List aG)(x:Rat)(c:aG):Rat:=if ((b4 cs c.1 (c.2.2.1+1):Int):Rat)<=x then (c.2.2.2:Rat) else (c.2.2.2:Rat)/((gJ cs c.1 c.2.2.1:Int):Rat)*pos (x-((b4 cs c.1 c.2.2.1:Int):Rat))
theorem acd {E:List Int}{cs:List aG}(h:hk E cs=true)(x:Nat->Rat){c:aG}(H:c∈cs):(ao E cs).la x (cg c)=dC cs (x c.1.toNat) c:=by
 have Y:=(il.1 h).2.2.2 c H;obtain⟨aq,c2,c3,c4⟩:=c;dsimp only at Y;obtain⟨aq,rfl⟩:∃k:Nat,aq=(k:Int):=⟨aq.toNat,by omega⟩
 obtain⟨c3,rfl⟩:∃k:Nat,c3=(k:Int):=⟨c3.toNat,by omega⟩
 unfold Day.la dC Day.w;have G:=pX h aq (c3+1);have J:=pX h aq c3;have af:=IX h aq c3;have av:(cg ((aq:Int),c2,(c3:Int),c4)).aK=aq:=jE aq;have aB:(cg ((aq:Int),c2,(c3:Int),c4)).bP=c3:=jE c3;have bp:(cg ((aq:Int),c2,(c3:Int),c4)).am=(c4:Rat):=rfl;rw[av,aB,bp,<-G,<-J,<-af]
 rfl
structure lf (l:List aG):Prop where
 len:(D l)<=12
 c:∀c∈l,0<=c.1/\c.1<60 /\ -1<=c.2.1/\c.2.1<60/\0<=c.2.2.1/\c.2.2.1<10/\0<=c.2.2.2/\c.2.2.2<=33554432
 one:∀c∈l,∀c'∈l,c.1=c'.1
theorem lf.cs {l:List aG}(h:lf l):rD l:=⟨by have:=h.len;omega,λc H=>by have:=h.c c H;omega⟩
abbrev Sj:List aG->List Data:=λ(l:List aG)=>[.X (l.map bR)]
def ace:=cn Sj λ(l:List aG)=>cN (lf l) (.same (.bool true))
theorem al5:∀a b,Sj a=Sj b->a=b:=by
  intro ed aa h;simp only[bk,Data.X.injEq] at h;exact map_inj sx _ _ h.1
@[go_sem] theorem aLs (l:List aG)(H:lf l):ace [.X (l.map bR)]=some (.same (.bool true)):=(cz al5 l).trans (cX H _)
theorem aAz (T:bl)  (l:List aG) (H:lf l):WP T abx (.same (.bool true)) [.I (.X (l.map bR))]:=by
 refine cD ?_;simp only[abx];have hlen:=H.len;have d0:decide ((D l:Int)>2000)=false:=cl;simp only[go_sem,go_sem_proc,d0,aE];refine cU [0] [] (λ(i:Nat) tm m=>i<=D l/\tm 3=.I (.int .i64 i)) (λi=>D l-i) 0 (by refine⟨by omega,rfl⟩) ?_;intro vs ms aJ aH;simp only[go_sem,go_sem_proc] at aJ aH;subst aJ aH;rintro i tm m L hm ⟨Q,bp⟩;simp only[go_sem,go_sem_proc,bk] at L;have bw:=L;rcases dc (i<D l) with az|b2
 ·have d1:decide ((i:Int)<(D l:Int))=true:=cT;have bG:=ec (i:=i) (by omega);obtain⟨⟨aq,c2,c3,c4⟩,M⟩:∃c,l[i]?=some c:=⟨_,bq az⟩;obtain⟨⟨k5,k6,pf,u4⟩,a3⟩:∃c,l[0]?=some c:=⟨_,bq (by omega)⟩;have kV:=H.c _ (dn M);have yA:=H.one _ (dn M) _ (dn a3);dsimp only at kV yA;subst yA;have fQ:decide (aq<0)=false:=cl;have hg:decide (aq>=60)=false:=cl;have wz:decide (c2 < -1)=false:=cl;have kE:decide (c2>=60)=false:=cl;have al6:decide (c3<0)=false:=cl;have lH:decide (c3>=10)=false:=cl;have qH:decide (c4<0)=false:=cl;have FZ:decide (c4>1000000000000000)=false:=cl;have nA:0<D l:=by omega
  refine ak ?_;repeat' (intro h<;>simp only[h,go_sem,go_sem_proc,bw,bp,M,a3,d1,bG,fQ,hg,wz,kE,al6,lH,qH,FZ,nA,bR,aE,bj,Int.toNat_zero,bne,beq_self_eq_true,cw]<;>try refine ai ?_ ?_)
  exact⟨i+1,by omega,by omega,rfl⟩
 ·have d1:decide ((i:Int)<(D l:Int))=false:=cl;refine ak ?_;repeat' (intro h<;>simp only[h,go_sem,go_sem_proc,bw,bp,d1,aE]<;>try refine ai ?_ ?_)
abbrev acf:(List aG)×Int->List Data:=λ(l,r)=>[.X (l.map bR),.int .i64 r]
def acg:=cn acf λ(l,r)=>cN (rD l) (.same (.c1 [.int .i64 (cF l λc=>if c.2.2.1<r then c.2.2.2 else 0),.int .i64 (cF l λc=>if c.2.2.1=r then c.2.2.2 else 0)]))
theorem aAA:∀a b,acf a=acf b->a=b:=by
  rintro⟨ed,eF⟩ ⟨aa,eU⟩ h;simp only[bk,Data.X.injEq,Data.int.injEq,true_and,and_true] at h;exact dN (map_inj sx _ _ h.1) h.2
@[go_sem] theorem aAB (l:List aG)(r:Int)(H:rD l):acg [.X (l.map bR),.int .i64 r]=some (.same (.c1 [.int .i64 (cF l λc=>if c.2.2.1<r then c.2.2.2 else 0),.int .i64 (cF l λc=>if c.2.2.1=r then c.2.2.2 else 0)])):=(cz aAA (l,r)).trans (cX H _)
theorem aAC (T:bl)  (l:List aG) (r:Int) (H:rD l):WP T aby (.same (.c1 [.int .i64 (cF l λc=>if c.2.2.1<r then c.2.2.2 else 0),.int .i64 (cF l λc=>if c.2.2.1=r then c.2.2.2 else 0)])) [.I (.X (l.map bR)),.I (.int .i64 r)]:=by
 refine cD ?_;simp only[aby];have hlen:=H.1;simp only[go_sem,go_sem_proc];refine cU [0,1] [] (λ(i:Nat) tm m=>i<=D l/\tm 8=.I (.int .i64 i)/\tm 6=.I (.int .i64 (cF (l.take i) λc=>if c.2.2.1<r then c.2.2.2 else 0))/\tm 7=.I (.int .i64 (cF (l.take i) λc=>if c.2.2.1=r then c.2.2.2 else 0))) (λi=>D l-i) 0 (by refine⟨by omega,rfl,rfl,rfl⟩) ?_;intro vs ms aJ aH;simp only[go_sem,go_sem_proc] at aJ aH;subst aJ aH;rintro i tm m L hm ⟨Q,df,bH,b5⟩;simp only[go_sem,go_sem_proc,bk] at L;obtain⟨bw,av⟩:=L;rcases dc (i<D l) with az|b2
 ·have d1:decide ((i:Int)<(D l:Int))=true:=cT;have bG:=ec (i:=i) (by omega);obtain⟨⟨aq,c2,c3,c4⟩,M⟩:∃c,l[i]?=some c:=⟨_,bq az⟩;have kV:=H.2 _ (dn M);have s1:=H.sum (λc=>c.2.2.1<r) i;have s2:=H.sum (λc=>c.2.2.1=r) i;have t1:=MR M λc=>if c.2.2.1<r then c.2.2.2 else 0;have t2:=MR M λc=>if c.2.2.1=r then c.2.2.2 else 0;generalize cF (l.take i) (λc=>if c.2.2.1<r then c.2.2.2 else 0)=a at *;generalize cF (l.take i) (λc=>if c.2.2.1=r then c.2.2.2 else 0)=b at *;dsimp only at kV t1 t2;have m0:IntKind.i64.wrap (a+c4)=a+c4:=by rw[fh _]
  have ach:IntKind.i64.wrap (b+c4)=b+c4:=by rw[fh _]
  rcases fQ:decide (c3<r)
  ·rw[ag (of_decide_eq_false fQ),ra] at t1;rcases hg:(c3==r)
   ·rw[ag (by simpa using hg),ra] at t2;refine ak ?_;repeat' (intro h<;>simp only[h,go_sem,go_sem_proc,bw,av,bH,b5,df,M,d1,bG,m0,ach,fQ,hg,bR,aE,bj]<;>try refine ai ?_ ?_)
    exact⟨i+1,by omega,by omega,rfl,by rw[t1],by rw[t2]⟩
   ·rw[ad (beq_iff_eq.1 hg)] at t2;refine ak ?_;repeat' (intro h<;>simp only[h,go_sem,go_sem_proc,bw,av,bH,b5,df,M,d1,bG,m0,ach,fQ,hg,bR,aE,bj]<;>try refine ai ?_ ?_)
    exact⟨i+1,by omega,by omega,rfl,by rw[t1],by rw[t2]⟩
  ·have hg:(c3==r)=false:=by have:=of_decide_eq_true fQ;simp;omega
   rw[ad (of_decide_eq_true fQ)] at t1;rw[ag (by simpa using hg),ra] at t2;refine ak ?_;repeat' (intro h<;>simp only[h,go_sem,go_sem_proc,bw,av,bH,b5,df,M,d1,bG,m0,ach,fQ,hg,bR,aE,bj]<;>try refine ai ?_ ?_)
   exact⟨i+1,by omega,by omega,rfl,by rw[t1],by rw[t2]⟩
 ·have d1:decide ((i:Int)<(D l:Int))=false:=cl;rw[dp (by omega)] at bH b5;refine ak ?_;repeat' (intro h<;>simp only[h,go_sem,go_sem_proc,bw,av,bH,b5,df,d1,aE]<;>try refine ai ?_ ?_)
def l7 {α:Type}(enc:α->List R)(l:List α):List R:=(l.map enc).flatten
theorem aAD {α:Type}{enc:α->List R}{sz:Nat}(h:∀a,(enc a).length=sz)(l:List α):(l7 enc l).length=D l*sz:=by
 unfold l7
 induction l with
 |nil=>simp
 |cons a l aN=>rw[ey,j1,fX,aN,h,List.length_cons,py];omega
theorem al7 {α:Type}{enc:α->List R}{sz:Nat}(h:∀a,(enc a).length=sz):∀(l:List α) (i:Nat),i<(D l)->∀b,hY (i*sz) (l7 enc l)++enc b++iP (i*sz+sz) (l7 enc l)=l7 enc (l.set i b)
 | [],i,Q,b=>absurd Q (by simp)
 |a::l,0,_,b=>by
  have aW:=h a;unfold l7;simp only[Nat.zero_mul,Nat.zero_add,mU,hX,ey,j1,mx];rw[<-aW,List.drop_left]
 |a::l,i+1,Q,b=>by
  have aW:=h a;have aN:=al7 h l i (by simpa using Q) b;unfold l7 at aN ⊢;simp only[ey,j1,uP];rw[<-aN,py,List.take_append,r0,aW];rw[dp (by omega),lO (by omega),hX];rw[show i*sz+sz-sz=i*sz by omega,show i*sz+sz+sz-sz=i*sz+sz by omega]
  simp only[gT]
def bA {α:Type}(n:Nat)(q:Nat->α):List α:=(eN n).map q
theorem fZ {α:Type}(n:Nat)(q:Nat->α):(bA n q).length=n:=by simp[bA]
theorem jf {α:Type}{n i:Nat}(q:Nat->α)(h:i<n):(bA n q)[i]?=some (q i):=by
 unfold bA;rw[bj,tU h];rfl
theorem Nq {α:Type}{n:Nat}{l:List α}{q:Nat->α}(aw:(D l)=n)(h:∀i,i<n->l[i]?=some (q i)):l=bA n q:=by
 apply oR;intro i;rcases g2 i n with Q|Q
 ·rw[h i Q,jf q Q]
 ·rw[ja (by omega),ja (by rw[fZ];exact Q)]
theorem zA {α:Type}{n i:Nat}(q:Nat->α)(b:α):(bA n q).set i b=bA n λj=>if j=i then b else q j:=by
 refine Nq (by rw[jF,fZ]) λj aA=>?_;rw[lG]
 by_cases h:i=j
 ·rw[ad h,ad (by rw[fZ];omega),ad h.symm]
 ·rw[ag h,jf _ aA,ag (Ne.symm h)]
theorem iC {α:Type}{n:Nat}{p q:Nat->α}(h:∀i,i<n->p i=q i):bA n p=bA n q:=oi λi Q=>h i (iM.1 Q)
def qI:Option a7->List R
 |none=>[.I (.int .i64 0),.nil,.I (.int .i64 0),.nil]
 |some f=>(ar f).map .I
theorem al8:∀a,(qI a).length=4
 |none=>rfl
 |some _=>rfl
theorem aci (n:Nat):(et n [R.I (.int .i64 0),R.nil,R.I (.int .i64 0),R.nil]).flatten=l7 qI (bA n λ_=>none):=by
 unfold l7 bA;rw[oj]
 congr 1
 apply oR;intro i;rw[bj];rcases g2 i n with Q|Q
 ·rw[tU Q,ab4,ad Q];rfl
 ·rw[ja (by simpa using Q),ja (by simpa using Q)];rfl
theorem acj (l:List a7):l7 qI (l.map some)=aV ar l:=by
 unfold l7 aV
 induction l with
 |nil=>rfl
 |cons f l aN =>
  simp only[ey,j1,js];rw[aN];rfl
theorem Sk {n i:Nat}{q:Nat->Option a7}(h:i<n):(i*4+4<=(l7 qI (bA n q)).length)=True:=eq_true (by rw[aAD al8,fZ];omega)
theorem Sl {n i:Nat}{q:Nat->Option a7}(h:i<n)(a:Int)(b:List Int)(c:Int)(d:List Int):
  hY (i*4) (l7 qI (bA n q))++[R.I (.int .i64 a),.I (.X (b.map ae)),.I (.int .i64 c),.I (.X (d.map ae))]++iP (i*4+4) (l7 qI (bA n q))=l7 qI (bA n λj=>if j=i then some ((a,b),(c,d)) else q j):=by
 rw[<-zA];exact al7 al8 (bA n q) i (by rw[fZ];exact h) (some ((a,b),(c,d)))
structure Bq (l:List aG) (x:Rat):Prop where
 own:lf l
 pos:0<=x
 sz:eA 460 x
theorem lf.less {l:List aG}(h:lf l){c:aG}(H:c∈l)(r:Int):(cF l λc'=>if c'.2.2.1<r then c'.2.2.2 else 0)=b4 l c.1 r:=by
 unfold b4;refine FD λc' kV=>?_;have:=h.one c' kV c H
 by_cases G:c'.2.2.1<r
 ·rw[ad G,ad ⟨this,G⟩]
 ·rw[ag G,ag λh=>G h.2]
theorem ack (l:List aG)(aR bE:aG->Int):cF l (λc=>aR c+bE c)=cF l aR+cF l bE:=by
 induction l with
 |nil=>simp[cF]
 |cons c l aN=>simp only[cF,aN];omega
theorem lf.same {l:List aG}(h:lf l){c:aG}(H:c∈l)(r:Int):(cF l λc'=>if c'.2.2.1=r then c'.2.2.2 else 0)=gJ l c.1 r:=by
 have G:=h.less H r;have J:=h.less H (r+1)
 have af:(cF l λc'=>if c'.2.2.1<r+1 then c'.2.2.2 else 0)=(cF l λc'=>if c'.2.2.1<r then c'.2.2.2 else 0)+cF l λc'=>if c'.2.2.1=r then c'.2.2.2 else 0:=by
  rw[<-ack];refine FD λc _=>?_
  by_cases cB:c.2.2.1<r
  ·rw[ad (by omega),ad cB,ag (by omega)];omega
  ·rw[ag cB]
   by_cases dA:c.2.2.1=r
   ·rw[ad (by omega),ad dA];omega
   ·rw[ag (by omega),ag dA];omega
 unfold gJ;omega
theorem lf.bound {l:List aG}(h:lf l)(p:aG->Prop)[DecidablePred p]:0<=cF l (λc=>if p c then c.2.2.2 else 0)/\cF l (λc=>if p c then c.2.2.2 else 0)<=536870912:=by
 have:=RA (cs:=l) (aR:=λc=>if p c then c.2.2.2 else 0) (B:=33554432) (by omega) λc H=>by
  have:=h.c c H
  try dsimp only
  split<;>omega
 have:=h.len;omega
theorem al9 (cs:List aG)(i r:Int):gJ cs i r=cF cs λc=>if c.1=i/\c.2.2.1=r then c.2.2.2 else 0:=by
 have af:b4 cs i (r+1)=b4 cs i r+cF cs λc=>if c.1=i/\c.2.2.1=r then c.2.2.2 else 0:=by
  unfold b4;rw[<-ack];refine FD λc _=>?_
  split<;>split<;>split<;>omega
 unfold gJ;omega
theorem aAE {cs:List aG}{aR:aG->Int}(h:∀c∈cs,0<=aR c){c:aG}(H:c∈cs):aR c<=cF cs aR:=by
 induction cs with
 |nil=>cases H
 |cons a l aN =>
  simp only[cF];have ax:=h a g3
  have G:0<=cF l aR:=by
   have:∀l:List aG,(∀c∈l,0<=aR c)->0<=cF l aR:=by
    intro l
    induction l with
    |nil=>intro _;exact ama _
    |cons b l RF=>intro aY;simp only[cF];have:=aY b g3;have:=RF λc H=>aY c (hO _ H);omega
   exact this l λc H=>h c (hO _ H)
  rcases List.mem_cons.1 H with rfl|H
  ·omega
  ·have:=aN (λc H=>h c (hO _ H)) H;omega
theorem amb {cs:List aG}(h:∀c∈cs,0<=c.2.2.2){c:aG}(H:c∈cs):c.2.2.2<=gJ cs c.1 c.2.2.1:=by
 rw[al9];have:=aAE (aR:=λc'=>if c'.1=c.1/\c'.2.2.1=c.2.2.1 then c'.2.2.2 else 0) (λc' kV=>by have:=h c' kV;split<;>omega) H;rwa [ad ⟨rfl,rfl⟩] at this
section
variable {cs:List aG} {x:Rat} {c:aG}
theorem acm (cs:List aG)(i r:Int):((b4 cs i (r+1):Int):Rat)=((b4 cs i r:Int):Rat)+((gJ cs i r:Int):Rat):=by
 rw[<-Rat.intCast_add]
 congr 1
 unfold gJ;omega
theorem acn (aM:∀c∈cs,0<=c.2.2.2)(H:c∈cs)(h:x-((b4 cs c.1 c.2.2.1:Int):Rat)<=0):dC cs x c=0:=by
 unfold dC;have G:=amb aM H;have J:=aM c H;rw[acm]
 split
 ·rename_i af
  have aT:((gJ cs c.1 c.2.2.1:Int):Rat)<=((0:Int):Rat):=by
   have:((0:Int):Rat)=0:=rfl;rw[this];generalize ((b4 cs c.1 c.2.2.1:Int):Rat)=u at *;grind
  have bx:gJ cs c.1 c.2.2.1<=0:=by exact_mod_cast aT
  rw[show c.2.2.2=0 by omega];rfl
 ·rw[wv h,Rat.mul_zero]
theorem amc (h:((gJ cs c.1 c.2.2.1:Int):Rat)<=x-((b4 cs c.1 c.2.2.1:Int):Rat)):dC cs x c=(c.2.2.2:Rat):=by
 unfold dC;rw[acm,ad];generalize ((b4 cs c.1 c.2.2.1:Int):Rat)=u at *;generalize ((gJ cs c.1 c.2.2.1:Int):Rat)=s at *;grind
theorem amd (ax:0<=x-((b4 cs c.1 c.2.2.1:Int):Rat))(h:x-((b4 cs c.1 c.2.2.1:Int):Rat)<((gJ cs c.1 c.2.2.1:Int):Rat)):dC cs x c=(c.2.2.2:Rat)*(x-((b4 cs c.1 c.2.2.1:Int):Rat))/((gJ cs c.1 c.2.2.1:Int):Rat):=by
 unfold dC;rw[acm,ag,zo ax]
 ·generalize ((b4 cs c.1 c.2.2.1:Int):Rat)=u at *;generalize ((gJ cs c.1 c.2.2.1:Int):Rat)=s at *;grind
 ·generalize ((b4 cs c.1 c.2.2.1:Int):Rat)=u at *;generalize ((gJ cs c.1 c.2.2.1:Int):Rat)=s at *;grind
end
theorem Sm {n:Int}(h:dr n):RY [.int .i64 n,.int .i64 1]=some (.same (.agg (ar (al (n:Rat))))):=by
 have:=azq n 1 ⟨h,Sc⟩;rw[MS h] at this;exact this
theorem oI {n:Int}(h:dr n):dx (n:Rat):=⟨by rw[ab7];exact td h,by rw[ab8];decide +kernel⟩
theorem aAF {x:Rat}:decide (x.num.sign<=0)=decide (x<=0):=by
 have:x.num.sign<=0↔x<=0:=by
  rw[Int.sign_nonpos_iff,Rat.le_iff,MP,MO];omega
 rw[decide_eq_decide];exact this
theorem aco {x:Rat}:decide (x.num.sign<0)=decide (x<0):=by
 have:x.num.sign<0↔x<0:=by
  rw[Int.sign_neg_iff,Rat.lt_iff,MP,MO];omega
 rw[decide_eq_decide];exact this
def ju:aG:=(0,0,0,0)
def qJ (l:List aG)(x:Rat)(j:Nat):a7:=al (dC l x (l.getD j ju))
theorem ame (l:List aG)(x:Rat):(bA (D l) λj=>some (qJ l x j))=(l.map λc=>al (dC l x c)).map some:=by
 symm
 refine Nq (by simp) λi Q=>?_;rw[bj,bj,bq Q];unfold qJ;rw[FW (bq Q)];rfl
abbrev Sn:Rat×(List aG)->List Data:=λ(x,l)=>[.agg (ar (al x)),.X (l.map bR)]
def acp:=cn Sn λ(x,l)=>cN (Bq l x) (.same (.c1 [.X ((l.map λc=>al (dC l x c)).map ar),.int .i64 0]))
theorem amf:∀a b,Sn a=Sn b->a=b:=by
  rintro⟨a5,ed⟩ ⟨bX,aa⟩ h;simp only[bk,Data.X.injEq,Data.agg.injEq,and_true] at h;exact dN (Xu (np _ _ h.1)) (map_inj sx _ _ h.2)
@[go_sem] theorem aAG (x:Rat)(l:List aG)(H:Bq l x):acp [.agg (ar (al x)),.X (l.map bR)]=some (.same (.c1 [.X ((l.map λc=>al (dC l x c)).map ar),.int .i64 0])):=(cz amf (x,l)).trans (cX H _)
theorem aAH (T:bl)(fr:T mm=aQ v8)(Nr:T VB=aQ ace)(F8:T VC=aQ acg)(F9:T Cq=aQ RY)(uW:T Aq=aQ Fe)(iq:T s4=aQ x1)(tu:T Cp=aQ Fg)(xN:T Hn=aQ L0)(x:Rat)(l:List aG)(H:Bq l x):WP T abw (.same (.c1 [.X ((l.map λc=>al (dC l x c)).map ar),.int .i64 0])) [.I (.agg (ar (al x))),.I (.X (l.map bR))]:=by
 refine cD ?_;simp only[abw];obtain⟨how,qq,qb⟩:=H;have hP:=iY qb (by omega);have hlen:=how.len;have acq:=FL hP;have vZ:(al x).1.1=x.num.sign:=rfl;have pM:decide (x.num.sign<0)=false:=by rw[aco];exact h7 (by grind)
 have bS:=jY hP;have jA:=ame l x;generalize dG:al x=aR at *;obtain⟨⟨cE,cO⟩,⟨ei,eS⟩⟩:=aR;dsimp only at vZ bS;subst vZ;have om:(64*D l<=140737488355328)=True:=eq_true (by omega);have tt:(D l<=maxLen)=True:=eq_true (by unfold maxLen;omega);have a3:=aci (D l);have Lv:(bA (D l) λj=>if j<0 then some (qJ l x j) else none)=bA (D l) λ_=>none:=iC λj _=>ag (by omega);rw[<-Lv] at a3;simp only[go_sem,go_sem_proc,fr,Nr,ar,acq,bS.1,bS.2,how,pM,om,tt,a3,aE,cw,db];refine cU [1,2,6] [279002] (λ(i:Nat) tm m=>i<=D l/\tm 7=.I (.int .i64 i)/\m 279030=some (0,l7 qI (bA (D l) λj=>if j<i then some (qJ l x j) else none))) (λi=>D l-i) 0 (by refine⟨by omega,rfl,rfl⟩) ?_;intro vs ms aJ aH;simp only[go_sem,go_sem_proc] at aJ aH;subst aJ aH;rintro i tm m L hm ⟨Q,b5,Ns⟩;simp only[go_sem,go_sem_proc,bk] at L hm;obtain⟨av,aB,bH⟩:=L;rcases dc (i<D l) with az|b2
 ·have d1:decide ((i:Int)<(D l:Int))=true:=cT;have bG:=ec (i:=i) (by omega);obtain⟨c,M⟩:∃c,l[i]?=some c:=⟨_,bq az⟩;have fs:=dn M;have kV:=how.c _ fs;have So:=aAB l c.2.2.1 how.cs;rw[how.less fs,how.same fs] at So;have aAI:=how.bound (λc'=>c'.2.2.1<c.2.2.1);rw[how.less fs] at aAI;have acr:=how.bound (λc'=>c'.2.2.1=c.2.2.1);rw[how.same fs] at acr;have n2:dr (b4 l c.1 c.2.2.1):=iB (by omega) (by omega);have wH:dr (gJ l c.1 c.2.2.1):=iB (by omega) (by omega);have Nt:dr c.2.2.2:=iB (by omega) (by omega);have Je:=Sm n2;have x6:=Sm wH;have Br:=Sm Nt;have f0:=Sm FV;have Sp:eA 29 ((b4 l c.1 c.2.2.1:Int):Rat):=sy (by omega);have Dq:eA 29 ((gJ l c.1 c.2.2.1:Int):Rat):=sy (by omega);have x7:eA 29 ((c.2.2.2:Int):Rat):=sy (by omega);have fQ:=abT hP (oI n2) (zq qb (wA Sp) (by omega));have u9:eA 490 (x-((b4 l c.1 c.2.2.1:Int):Rat)):=by rw[Rat.sub_eq_add_neg];exact (MI qb (wA Sp)).mono (by omega)
  have xu:=iY u9 (by omega);have hg:=Nd xu (oI wH);have aM:∀c∈l,0<=c.2.2.2:=λc H=>(how.c c H).2.2.2.2.2.2.1;have Sq:qJ l x i=al (dC l x c):=by unfold qJ;rw[FW M]
  have kF:=λa b c d=>Sl (q:=λj=>if j<i then some (qJ l x j) else none) az a b c d;have Dr:=Sk (q:=λj=>if j<i then some (qJ l x j) else none) az
  have oU:∀aR:a7,aR=al (dC l x c)->(bA (D l) λj=>if j=i then some aR else if j<i then some (qJ l x j) else none)=bA (D l) λj=>if j<i+1 then some (qJ l x j) else none:=by
   intro aR dG;refine iC λj _=>?_
   by_cases G:j=i
   ·rw[ad G,ad (by omega),G,Sq,dG]
   ·rw[ag G]
    by_cases J:j<i
    ·rw[ad J,ad (by omega)]
    ·rw[ag J,ag (by omega)]
  have amg:(al (x-((b4 l c.1 c.2.2.1:Int):Rat))).1.1=(x-((b4 l c.1 c.2.2.1:Int):Rat)).num.sign:=rfl;have zm:decide ((x-((b4 l c.1 c.2.2.1:Int):Rat)).num.sign<=0)=decide (x-((b4 l c.1 c.2.2.1:Int):Rat)<=0):=aAF;have b2:decide (jV (x-((b4 l c.1 c.2.2.1:Int):Rat)) ((gJ l c.1 c.2.2.1:Int):Rat)>=0)=decide (((gJ l c.1 c.2.2.1:Int):Rat)<=x-((b4 l c.1 c.2.2.1:Int):Rat)):=R6;have aAJ:=acn (x:=x) aM fs;have aAK:=amc (cs:=l) (x:=x) (c:=c);have pp:=amd (cs:=l) (x:=x) (c:=c);have ea:=λax=>alx (oI Nt) xu (MH x7 u9 ax);have b7:=λax G=>azY (iY (Bk x7 u9) G) (oI wH) ax (aa0 (Bk x7 u9) Dq (by omega));have ea:=ea (by omega);have b7:=λax=>b7 ax (by omega);rw[dG] at fQ;obtain⟨aq,c2,c3,c4⟩:=c;dsimp only at *;generalize x-((b4 l aq c3:Int):Rat)=r at *;generalize aLt:al r=Fr at *;obtain⟨⟨eF,eU⟩,⟨Sr,rE⟩⟩:=Fr;dsimp only at amg;subst amg;rcases cB:decide (r<=0)
  ·have aLu:=of_decide_eq_false cB;rw[cB] at zm;rcases dA:decide (((gJ l aq c3:Int):Rat)<=r)
   ·have amh:=of_decide_eq_false dA;rw[dA] at b2;have acs:((gJ l aq c3:Int):Rat)≠0:=by grind
    have im:=pp (by grind) (by grind);have b7:=b7 acs;have aM:=oU (al (((c4:Int):Rat)*r/((gJ l aq c3:Int):Rat))) (by rw[im]);generalize al (((c4:Int):Rat)*r/((gJ l aq c3:Int):Rat))=G1 at *;generalize al (((c4:Int):Rat)*r)=G2 at *;generalize al ((gJ l aq c3:Int):Rat)=G3 at *;generalize al ((b4 l aq c3:Int):Rat)=G4 at *;generalize al ((c4:Int):Rat)=G5 at *;obtain⟨⟨cQ,dd⟩,⟨iK,mz⟩⟩:=G1;obtain⟨⟨G,J⟩,⟨af,aT⟩⟩:=G2;obtain⟨⟨i1,i2⟩,⟨i3,i4⟩⟩:=G3;obtain⟨⟨Ds,acu⟩,⟨acv,A5⟩⟩:=G4;obtain⟨⟨hK,iw⟩,⟨n1,tp⟩⟩:=G5;simp only[ar] at Je x6 Br fQ hg ea b7;have dF:=kF cQ dd iK mz;rw[aM] at dF;refine ak ?_;repeat' (intro h<;>simp only[h,go_sem,go_sem_proc,fr,Nr,F8,F9,uW,iq,tu,xN,F8,F9,uW,iq,tu,xN,av,aB,bH,b5,hm,Ns,M,d1,bG,az,So,Je,x6,Br,fQ,hg,ea,b7,zm,b2,Dr,dF,bR,aE,bj,bne,beq_self_eq_true,cw]<;>try refine ai ?_ ?_)
    exact⟨i+1,by omega,by omega,rfl,rfl⟩
   ·rw[dA] at b2;have im:=aAK (of_decide_eq_true dA);have aM:=oU (al ((c4:Int):Rat)) (by rw[im]);generalize al ((gJ l aq c3:Int):Rat)=G3 at *;generalize al ((b4 l aq c3:Int):Rat)=G4 at *;generalize al ((c4:Int):Rat)=G5 at *;obtain⟨⟨i1,i2⟩,⟨i3,i4⟩⟩:=G3;obtain⟨⟨Ds,acu⟩,⟨acv,A5⟩⟩:=G4;obtain⟨⟨hK,iw⟩,⟨n1,tp⟩⟩:=G5;simp only[ar] at Je x6 Br fQ hg;have dF:=kF hK iw n1 tp;rw[aM] at dF;refine ak ?_;repeat' (intro h<;>simp only[h,go_sem,go_sem_proc,fr,Nr,F8,F9,uW,iq,tu,xN,F8,F9,uW,iq,tu,xN,av,aB,bH,b5,hm,Ns,M,d1,bG,az,So,Je,x6,Br,fQ,hg,zm,b2,Dr,dF,bR,aE,bj,bne,beq_self_eq_true,cw]<;>try refine ai ?_ ?_)
    exact⟨i+1,by omega,by omega,rfl,rfl⟩
  ·rw[cB] at zm;have im:=aAJ (of_decide_eq_true cB);have aM:=oU (al ((0:Int):Rat)) (by rw[im];rfl);generalize al ((b4 l aq c3:Int):Rat)=G4 at *;generalize al ((0:Int):Rat)=G5 at *;obtain⟨⟨Ds,acu⟩,⟨acv,A5⟩⟩:=G4;obtain⟨⟨hK,iw⟩,⟨n1,tp⟩⟩:=G5;simp only[ar] at Je f0 fQ;have dF:=kF hK iw n1 tp;rw[aM] at dF;refine ak ?_;repeat' (intro h<;>simp only[h,go_sem,go_sem_proc,fr,Nr,F8,F9,uW,iq,tu,xN,F8,F9,uW,iq,tu,xN,av,aB,bH,b5,hm,Ns,M,d1,bG,az,So,Je,f0,fQ,zm,Dr,dF,bR,aE,bj,bne,beq_self_eq_true,cw]<;>try refine ai ?_ ?_)
   exact⟨i+1,by omega,by omega,rfl,rfl⟩
 ·have d1:decide ((i:Int)<(D l:Int))=false:=cl;obtain rfl:i=D l:=by omega
  have dB:(bA (D l) λj=>if j<(D l) then some (qJ l x j) else none)=bA (D l) λj=>some (qJ l x j):=iC λj aA=>ad aA;rw[dB,jA,acj] at Ns;have ke:=λ(K:bo->Prop) (st:bo)=>oW (K:=K) (st:=st) iT 6 279030 0 (l.map λc=>al (dC l x c));rw[aE] at ke;refine ak ?_;repeat' (intro h<;>simp only[h,go_sem,go_sem_proc,fr,Nr,F8,F9,uW,iq,tu,xN,av,aB,bH,b5,hm,d1,Ns,ke,aE]<;>try refine ai ?_ ?_)
def c7 (cs:List aG)(cr:Int):List aG:=cs.filter λc=>c.1==cr
theorem aAL (cs:List aG)(cr:Int)(p:aG->Prop)[DecidablePred p]:cF (c7 cs cr) (λc=>if c.1=cr/\p c then c.2.2.2 else 0)=cF cs λc=>if c.1=cr/\p c then c.2.2.2 else 0:=by
 unfold c7
 induction cs with
 |nil=>rfl
 |cons c l aN =>
  by_cases h:c.1=cr
  ·rw[rB (by simpa using h)];simp only[cF,aN]
  ·rw[tC (by simpa using h),aN];simp only[cF];rw[ag λaY=>h aY.1];omega
theorem ami (cs:List aG)(cr r:Int):b4 (c7 cs cr) cr r=b4 cs cr r:=aAL cs cr λc=>c.2.2.1<r
theorem Dt {cs:List aG}{cr:Int}{c:aG}:c∈c7 cs cr↔c∈cs/\c.1=cr:=by
 unfold c7;rw[List.mem_filter,beq_iff_eq]
theorem aAM {cs:List aG}{cr:Int}{x:Rat}{c:aG}(h:c.1=cr):dC (c7 cs cr) x c=dC cs x c:=by
 unfold dC gJ;rw[h,ami,ami]
theorem amj (cs:List aG)(cr:Int)(x:Rat):((c7 cs cr).map λc=>al (dC (c7 cs cr) x c))=(c7 cs cr).map λc=>al (dC cs x c) :=
 oi λc H=>by rw[aAM (Dt.1 H).2]
structure acw (cs:List aG) (cr:Int) (x:Rat):Prop where
 s:Bq (c7 cs cr) x
 l:(D cs)<=2000
theorem fV.own {E:List Int}{cs:List aG}(h:fV E cs)(cr:Int):lf (c7 cs cr):=by
 have Y:=il.1 h.right;have aM:=h.hE;refine⟨?_,λc H=>?_,λc H c' kV=>?_⟩
 ·have:=pc (λc:aG=>c.1==cr) cs;have:=h.qF;unfold c7;omega
 ·have G:=Y.2.2.2 c (Dt.1 H).1;have J:=h.am c (Dt.1 H).1;omega
 ·rw[(Dt.1 H).2,(Dt.1 kV).2]
def Jf:=cn Sg λ(cs,cr,x)=>cN (acw cs cr x) (.same (.c1 [.X (((c7 cs cr).map λc=>al (dC cs x c)).map ar),.int .i64 0]))
@[go_sem] theorem amk (cs:List aG)(cr:Int)(x:Rat)(H:acw cs cr x):Jf [.X (cs.map bR),.int .i64 cr,.agg (ar (al x))]=some (.same (.c1 [.X (((c7 cs cr).map λc=>al (dC cs x c)).map ar),.int .i64 0])):=(cz alW (cs,cr,x)).trans (cX H _)
theorem aAN (T:bl)(Ss:T Vz=aQ acp)(cs:List aG)(cr:Int)(x:Rat)(H:acw cs cr x):WP T abv (.same (.c1 [.X (((c7 cs cr).map λc=>al (dC cs x c)).map ar),.int .i64 0])) [.I (.X (cs.map bR)),.I (.int .i64 cr),.I (.agg (ar (al x)))]:=by
 refine cD ?_;simp only[abv];obtain⟨U,hlen⟩:=H;have dG:=aAG x (c7 cs cr) U;rw[amj] at dG;generalize ku:al x=bu at *;obtain⟨⟨cE,cO⟩,⟨ei,eS⟩⟩:=bu;simp only[ar] at dG;simp only[go_sem,go_sem_proc,ar];refine cU [0,1,5] [274005] (λ((i,g):Nat×Nat) tm m=>i<=D cs/\tm 9=.I (.int .i64 i)/\tm 8=.ref 274029 g 4 0 (c7 (cs.take i) cr).length/\m 274029=some (g,aV bR (c7 (cs.take i) cr))) (λ(i,_)=>D cs-i) (0,0) (by refine⟨by omega,rfl,rfl,rfl⟩) ?_;intro vs ms aJ aH;simp only[go_sem,go_sem_proc] at aJ aH;subst aJ aH;rintro⟨i,g⟩ tm m L hm ⟨Q,eB,df,jv⟩;simp only[go_sem,go_sem_proc,bk] at L hm;obtain⟨bw,av,dw⟩:=L;rcases dc (i<D cs) with az|b2
 ·have d1:decide ((i:Int)<(D cs:Int))=true:=cT;have bG:=ec (i:=i) (by omega);obtain⟨⟨aq,c2,c3,c4⟩,M⟩:∃c,cs[i]?=some c:=⟨_,bq az⟩;have gm:cs.take (i+1)=cs.take i++[(aq,c2,c3,c4)]:=by rw[gB,M];rfl
  have D6:(c7 (cs.take i) cr).length<=2000:=by
   have G:=pc (λc:aG=>c.1==cr) (cs.take i);have J:(cs.take i).length<=D cs:=by rw[gv];omega
   unfold c7;omega
  rcases fQ:(aq==cr)
  ·have p7:c7 (cs.take (i+1)) cr=c7 (cs.take i) cr:=by
    unfold c7;rw[gm,sw,tC (by simpa using fQ),qE,gS]
   refine ak ?_;repeat' (intro h<;>simp only[h,go_sem,go_sem_proc,Ss,bw,av,dw,df,eB,hm,jv,M,d1,bG,fQ,bR,aE,bj]<;>try refine ai ?_ ?_)
   exact⟨(i+1,g),by dsimp only;omega,by dsimp only;omega,rfl,by rw[p7],by rw[p7]⟩
  ·have p7:c7 (cs.take (i+1)) cr=c7 (cs.take i) cr++[(aq,c2,c3,c4)]:=by
    unfold c7;rw[gm,sw,rB (by simpa using fQ),qE]
   have dv:=jm Dk RW 274029 g 32 (c7 (cs.take i) cr) (aq,c2,c3,c4) (cs:=[.I (.int .i64 aq),.I (.int .i64 c2),.I (.int .i64 c3),.I (.int .i64 c4)]) rfl (by omega) (by omega);rw[<-p7] at dv;have bJ:(c7 (cs.take (i+1)) cr).length=(c7 (cs.take i) cr).length+1:=by rw[p7,fX];rfl
   refine ak ?_;repeat' (intro h<;>simp only[h,go_sem,go_sem_proc,Ss,bw,av,dw,df,eB,hm,jv,M,d1,bG,fQ,dv,bR,aE,bj]<;>try refine ai ?_ ?_)
   exact⟨(i+1,g+1),by dsimp only;omega,by dsimp only;omega,rfl,by rw[bJ],rfl⟩
 ·have d1:decide ((i:Int)<(D cs:Int))=false:=cl;rw[dp (by omega)] at df jv;have ke:=λ(K:bo->Prop) (st:bo)=>oW (K:=K) (st:=st) Dk 8 274029 g (c7 cs cr);refine ak ?_;repeat' (intro h<;>simp only[h,go_sem,go_sem_proc,Ss,Ss,bw,av,dw,df,eB,hm,d1,jv,ke,dG,aE]<;>try refine ai ?_ ?_)
theorem acx (n:Nat):((hj n).map R.I).all R.one=true:=rfl
def n3 (d:Day)(f:Nat->Nat)(h:Nat->Rat)(i:Nat):List Nat:=(eN i).filter λj=>decide (h j<d.bI j (f j))
theorem aml (d:Day)(f:Nat->Nat)(h:Nat->Rat)(i:Nat):n3 d f h (i+1)=if h i<d.bI i (f i) then n3 d f h i++[i] else n3 d f h i:=by
 unfold n3;rw[pZ,sw]
 by_cases aY:h i<d.bI i (f i)
 ·rw[ad aY,rB (by simpa using aY),qE]
 ·rw[ag aY,tC (by simpa using aY),qE,gS]
theorem amm (d:Day)(f:Nat->Nat)(h:Nat->Rat)(i:Nat):(n3 d f h i).length<=i:=by
 have:=pc (λj=>decide (h j<d.bI j (f j))) (eN i);rw[r1] at this;exact this
structure aAO (E:List Int) (cs:List aG) (aI:List Int) (h:Nat->Rat) (g b1:Nat) (cS ir:R) (m:Mem):Prop where
 r:∃x,m 261029=some (g,[.I (.X (E.map ae)),.I (.X (cs.map bR)),.ref 261042 b1 1 0 (D aI),cS,x])
 f:m 261042=some (b1,aI.map dR)
 c:m 261006=some (0,[.I (.X ((cK (D E) h).map ar)),.nil,ir])
theorem aAP (T:bl)(hQ:T oY=aQ u2)(lK:T q7=aQ xX)(iq:T s4=aQ x1){K:eI->bo->Prop}{kk:List fJ}(E:List Int)(cs:List aG)(U:fV E cs)(aI:List Int)(iI:(D aI)=D E)(dS:∀x∈aI,0<=x/\x<=10)(h:Nat->Rat)(hP:∀i,i<(D E)->dx (h i))(g b1 jK:Nat)(cS ir:R)(tm:Nat->R)(m:Mem)
  (bY:aAO E cs aI h g b1 cS ir m) (bw:tm 0=.I (.X (E.map ae))) (av:tm 1=.I (.X (cs.map bR))) (bM:tm 4=.ptr 261004 0 0) (bH:tm 6=.ptr 261006 0 0) (b5:tm 7=.ptr 261029 g 0) (eB:tm 9=.ref 261080 jK 1 0 0) (fq:tm 10=.I (.int .i64 0)) (Bs:m 261080=some (jK,[]))
  (cZ:∀tm' m' amn,tm' 0=.I (.X (E.map ae))->tm' 1=.I (.X (cs.map bR))->tm' 4=.ptr 261004 0 0->tm' 6=.ptr 261006 0 0->tm' 7=.ptr 261029 g 0->tm' 9=.ref 261080 amn 1 0 (n3 (ao E cs) (bb aI) h (D E)).length->m' 261080=some (amn,aV hj (n3 (ao E cs) (bb aI) h (D E)))->(∀k,k≠261080->m' k=m k)->cd T K kk (.exit 4) ⟨tm',m'⟩) :
  wp T (u1.body.sub [1,1,1,1,1,0,0,0,0,1,1,1,0,1,0,0]) (cd T K kk) ⟨tm,m⟩:=by
 simp only[u1,er.sub];obtain⟨⟨iD,hZ⟩,vw,ix⟩:=bY;have aM:=U.hE;generalize p4:m=jl at *;refine cU [0,1,4,6,7] [] (λ((i,sB):Nat×Nat) tm m=>i<=D E/\tm 10=.I (.int .i64 i)/\tm 9=.ref 261080 sB 1 0 (n3 (ao E cs) (bb aI) h i).length/\m 261080=some (sB,aV hj (n3 (ao E cs) (bb aI) h i))/\∀k,k≠261080->m k=jl k) (λ(i,_)=>D E-i) (0,jK) (by refine⟨by omega,fq,eB,Bs,λ_ _=>rfl⟩) ?_;intro vs ms aJ aH;simp only[go_sem,go_sem_proc,bw,av,bM,bH,b5] at aJ aH;subst aJ aH;clear bw av bM bH b5 eB fq p4 Bs tm;rintro⟨i,sB⟩ tm ea L-⟨Q,fq,eB,Bs,bD⟩;simp only[go_sem,go_sem_proc,bk] at L;obtain⟨bw,av,bM,bH,b5⟩:=L;have Y:=(bD 261029 (by decide)).trans hZ;have aC:=(bD 261042 (by decide)).trans vw;have H:=(bD 261006 (by decide)).trans ix;rcases dc (i<D E) with az|b2
 ·have d1:decide ((i:Int)<(D E:Int))=true:=cT;have bG:=ec (i:=i) (by omega);obtain⟨y,aj⟩:∃y,aI[i]?=some y:=⟨_,bq (by omega)⟩;have oF:=dS y (dn aj);have ll:bb aI i=y.toNat:=by unfold bb;rw[FW aj]
  obtain⟨y,rfl⟩:∃k:Nat,y=(k:Int):=⟨y.toNat,by omega⟩
  rw[jE] at ll;have x4:=wF (f:=dR) aj;have ed:i+1<=D aI:=by omega
  have aa:i<D aI:=by omega
  have ns:=U.upto i y;have n2:dr (b4 cs i y):=iB (by omega) (by omega);have nL:=RZ cs i y (zu U.right);have hw:=Dl _ n2;have k0:=Nd (hP i az) (oI n2);have fz:decide (jV (h i) ((b4 cs i y:Int):Rat)<0)=decide (h i<((b4 cs i y:Int):Rat)):=R5;have zs:=pX U.right i y;have sC:=aml (ao E cs) (bb aI) h i;rw[ll,<-zs] at sC;have p0:=pY h az;have St:=amm (ao E cs) (bb aI) h i;have dv:=jm uT acx 261080 sB 8 (n3 (ao E cs) (bb aI) h i) i (cs:=[.I (.int .i64 i)]) rfl (by omega) (by omega);have hI:∀x,dR x=.I (.int .i64 x):=λ_=>rfl;generalize Jd:al (h i)=gf at *;generalize ku:al ((b4 cs i y:Int):Rat)=bu at *;obtain⟨⟨c0,ee⟩,⟨gz,gW⟩⟩:=bu;obtain⟨⟨cE,cO⟩,⟨ei,eS⟩⟩:=gf;simp only[ar] at hw k0;rcases fQ:decide (h i<((b4 cs i y:Int):Rat))
  ·rw[fQ] at fz;rw[ag (of_decide_eq_false fQ)] at sC;refine ak ?_;repeat' (intro (ay:_=_)<;>simp only[ay,go_sem,go_sem_proc,lK,hQ,iq,bw,av,bM,bH,b5,eB,fq,Y,aC,H,d1,bG,x4,ed,aa,nL,hw,k0,fz,p0,hI,ar,dY,aE,bj]<;>try refine ai ?_ ?_)
   exact⟨(i+1,sB),by dsimp only;omega,by dsimp only;omega,rfl,by rw[sC],by rw[sC];exact Bs,bD⟩
  ·rw[fQ] at fz;rw[ad (of_decide_eq_true fQ)] at sC;rw[<-sC] at dv;have bJ:(n3 (ao E cs) (bb aI) h (i+1)).length=(n3 (ao E cs) (bb aI) h i).length+1:=by rw[sC,fX];rfl
   refine ak ?_;repeat' (intro (ay:_=_)<;>simp only[ay,go_sem,go_sem_proc,lK,hQ,iq,bw,av,bM,bH,b5,eB,fq,Y,aC,H,Bs,d1,bG,x4,ed,aa,nL,hw,k0,fz,p0,hI,dv,ar,dY,aE,bj]<;>try refine ai ?_ ?_)
   refine⟨(i+1,sB+1),by dsimp only;omega,by dsimp only;omega,rfl,by rw[bJ],rfl,λk L=>?_⟩
   simp only[L,if_false];exact bD k L
 ·have d1:decide ((i:Int)<(D E:Int))=false:=cl;obtain rfl:i=D E:=by omega
  refine ak ?_;repeat' (intro (ay:_=_)<;>simp only[ay,go_sem,go_sem_proc,bw,av,bM,bH,b5,eB,fq,d1,aE]<;>try refine ai ?_ ?_)
  refine cZ _ _ sB ?_ ?_ ?_ ?_ ?_ ?_ Bs bD<;>simp only[dk,cp,if_false,bw,av,bM,bH,b5,eB]
def wI (d:Day)(f:Nat->Nat)(h:Nat->Rat)(aR:List Nat)(n:Nat):List Int:=bA n λi=>((if i∈aR then d.h4 h i 10 else f i:Nat):Int)
theorem aAQ (T:bl)(Du:T Lb=aQ Nm){K:eI->bo->Prop}{kk:List fJ}(E:List Int)(cs:List aG)(U:fV E cs)(f:Nat->Nat)(h:Nat->Rat)(hP:∀i,i<(D E)->dx (h i))(aR:List Nat)(dG:∀i∈aR,i<D E)(aAR:(D aR)<=D E)(g b1 jK:Nat)(cS ir iD:R)(tm:Nat->R)(m:Mem)
  (hZ:m 261029=some (g,[.I (.X (E.map ae)),.I (.X (cs.map bR)),.ref 261042 b1 1 0 (D E),cS,iD])) (vw:m 261042=some (b1,(bA (D E) λi=>(f i:Int)).map dR)) (ix:m 261006=some (0,[.I (.X ((cK (D E) h).map ar)),.nil,ir])) (bw:tm 0=.I (.X (E.map ae))) (av:tm 1=.I (.X (cs.map bR))) (bM:tm 4=.ptr 261004 0 0) (bH:tm 6=.ptr 261006 0 0) (b5:tm 7=.ptr 261029 g 0) (eB:tm 9=.ref 261080 jK 1 0 (D aR)) (iW:tm 11=.I (.int .i64 0)) (Bs:m 261080=some (jK,aV hj aR))
  (cZ:∀tm' m',tm' 0=.I (.X (E.map ae))->tm' 1=.I (.X (cs.map bR))->tm' 4=.ptr 261004 0 0->tm' 6=.ptr 261006 0 0->tm' 7=.ptr 261029 g 0->tm' 9=.ref 261080 jK 1 0 (D aR)->m' 261042=some (b1,(wI (ao E cs) f h aR (D E)).map dR)->(∀k,k≠261042->m' k=m k)->cd T K kk (.exit 6) ⟨tm',m'⟩) :
  wp T (u1.body.sub [1,1,1,1,1,0,0,0,0,1,1,1,1,1,0,1,0]) (cd T K kk) ⟨tm,m⟩:=by
 simp only[u1,er.sub];have aM:=U.hE;generalize p4:m=jl at *
 refine cU [0,1,4,6,7,9] [] (λ(j:Nat) tm m=>j<=D aR/\tm 11=.I (.int .i64 j)/\m 261042=some (b1,(wI (ao E cs) f h (aR.take j) (D E)).map dR)/\∀k,k≠261042->m k=jl k) (λj=>D aR-j) 0 (by
  refine⟨by omega,iW,?_,λ_ _=>rfl⟩
  rw[vw];have:(bA (D E) λi=>(f i:Int))=wI (ao E cs) f h (aR.take 0) (D E):=iC λi _=>by rw[mU,ag (by simp)]
  rw[this]) ?_
 intro vs ms aJ aH;simp only[go_sem,go_sem_proc,bw,av,bM,bH,b5,eB] at aJ aH;subst aJ aH;clear bw av bM bH b5 eB iW p4 vw tm;rintro j tm ea L-⟨aA,iW,aC,bD⟩;simp only[go_sem,go_sem_proc,bk] at L;obtain⟨bw,av,bM,bH,b5,eB⟩:=L;have Y:=(bD 261029 (by decide)).trans hZ;have H:=(bD 261006 (by decide)).trans ix;have amo:=(bD 261080 (by decide)).trans Bs;rcases dc (j<D aR) with az|b2
 ·have d1:decide ((j:Int)<(D aR:Int))=true:=cT;have bG:=ec (i:=j) (by omega);obtain⟨i,M⟩:∃c,aR[j]?=some c:=⟨_,bq az⟩;have Q:=dG i (dn M);have xW:=aAq cs i (h i) ⟨zu U.right,hP i Q⟩;rw[alV U.right h i 10] at xW;have p0:=pY h Q
  have nf:hY 1 (iP j (aV hj aR))=[.I (.int .i64 i)]:=by
   have:aV hj aR=aR.map λn:Nat=>R.I (.int .i64 (n:Int)):=by
    unfold aV;clear M dG aAR az aA d1 cZ eB amo Bs aC
    induction aR with
    |nil=>rfl
    |cons a l aN=>simp only[ey,j1,js];rw[aN];rfl
   rw[this];exact wF M
  have cm:(aV hj aR).length=D aR:=by rw[kX uT];omega
  have tG:(wI (ao E cs) f h (aR.take j) (D E)).length=D E:=fZ _ _;have gm:aR.take (j+1)=aR.take j++[i]:=by rw[gB,M];rfl
  have jA:hY i (nR dR (wI (ao E cs) f h (aR.take j) (D E)))++[R.I (.int .i64 ((ao E cs).h4 h i 10))]++iP (i+1) (nR dR (wI (ao E cs) f h (aR.take j) (D E)))=nR dR (wI (ao E cs) f h (aR.take (j+1)) (D E)):=by
   have e:wI (ao E cs) f h (aR.take (j+1)) (D E)=(wI (ao E cs) f h (aR.take j) (D E)).set i (((ao E cs).h4 h i 10:Nat):Int):=by
    unfold wI;rw[zA,gm];refine iC λk _=>?_
    by_cases L:k=i
    ·subst L;rw[ad (by simp),ad rfl]
    ·rw[ag L]
     congr 1
     by_cases hm:k∈aR.take j
     ·rw[ad (by simp[hm]),ad hm]
     ·rw[ag (by simp[hm,L]),ag hm]
   rw[e,wb,Np,ad (by rw[aE,tG];exact Q)];simp[dR]
  have ed:i+1<=D E:=by omega
  have aa:j+1<=D aR:=by omega
  generalize wI (ao E cs) f h (aR.take j) (D E)=c5 at *;generalize Jd:al (h i)=gf at *;obtain⟨⟨cE,cO⟩,⟨ei,eS⟩⟩:=gf;simp only[ar] at xW;refine ak ?_;repeat' (intro (ay:_=_)<;>simp only[ay,go_sem,go_sem_proc,Du,bw,av,bM,bH,b5,eB,iW,Y,aC,H,amo,d1,bG,Q,az,nf,cm,tG,ed,aa,xW,p0,jA,ar,dY,aE,bj]<;>try refine ai ?_ ?_)
  refine⟨j+1,by omega,by omega,rfl,rfl,λk L=>?_⟩
  simp only[L,if_false];exact bD k L
 ·have d1:decide ((j:Int)<(D aR:Int))=false:=cl;obtain rfl:j=D aR:=by omega
  rw[nQ] at aC;refine ak ?_;repeat' (intro (ay:_=_)<;>simp only[ay,go_sem,go_sem_proc,bw,av,bM,bH,b5,eB,iW,d1,aE]<;>try refine ai ?_ ?_)
  refine cZ _ _ ?_ ?_ ?_ ?_ ?_ ?_ aC bD<;>simp only[dk,cp,if_false,bw,av,bM,bH,b5,eB]
end Go.Mini
namespace Go.Mini
open Classical
def kh (d:Day)(l:List aG)(i:Nat):Rat:=b3 (l.map cg) λc=>if c.to=(i:Int) then d.w c else 0
theorem aAS (d:Day)(i:Nat):kh d [] i=0:=rfl
theorem amp (d:Day)(l:List aG)(c:aG)(i:Nat):kh d (l++[c]) i=kh d l i+if c.2.1=(i:Int) then d.w (cg c) else 0:=by
 unfold kh;rw[js,MW]
 congr 1
 show (if (cg c).to=(i:Int) then d.w (cg c) else 0)+0=_;rw[iX]
 rfl
theorem aAT {E:List Int}{cs:List aG}(h:hk E cs=true)(f:Nat->Nat)(k i:Nat):kh (ao E cs) (dE cs k (f k)) i=(ao E cs).W f k i:=by
 have Y:=(il.1 h).2.2.2;unfold kh Day.W;rw[abM λc H=>⟨(Y c H).1,(Y c H).2.2.2.2.1⟩];refine wu λc _=>?_
 by_cases G:c.aK=k/\c.bP=f k
 ·rw[ad G]
  by_cases J:c.to=(i:Int)
  ·rw[ad J,ad ⟨J,G⟩]
  ·rw[ag J,ag λh=>J h.1]
 ·rw[ag G,ag λh=>G h.2]
section
variable {E:List Int} {cs:List aG} (U:fV E cs) {k r:Nat} (dh:0<(ao E cs).S k r)
include U dh
theorem Su {c:aG}(H:c∈dE cs k r):ft (kf cs k r) ((ao E cs).w (cg c))/\0<=(ao E cs).w (cg c)/\(ao E cs).w (cg c)=(c.2.2.2:Rat)/((gJ cs k r:Int):Rat):=by
 obtain⟨G,J,af⟩:=FR.1 H;have av:(cg c).aK=k:=by show c.1.toNat=k;omega
 have aB:(cg c).bP=r:=by show c.2.2.1.toNat=r;omega
 have hm:cg c∈(ao E cs).dI:=List.mem_map_of_mem G;refine⟨⟨c.2.2.2,?_⟩,U.ok.ry hm,?_⟩
 ·rw[FJ U.right,<-av,<-aB];exact Day.IK (by rw[av,aB];exact dh)
 ·unfold Day.w gJ;rw[av,aB];have:=IX U.right k r;rw[<-this]
  rfl
theorem aAU {l:List aG}(aw:∃fI,dE cs k r=l++fI)(i:Nat):eA 29 (kh (ao E cs) l i):=by
 obtain⟨fI,aw⟩:=aw;have hJ:∀c∈l,c∈dE cs k r:=λc H=>by rw[aw];simp[H]
 have aAV:∀c∈fI,c∈dE cs k r:=λc H=>by rw[aw];simp[H]
 have ab:ft (kf cs k r) (kh (ao E cs) l i):=by
  unfold kh;refine ft.b3 λx M=>?_;obtain⟨c,H,rfl⟩:=fO.1 M
  split
  ·exact (Su U dh (hJ c H)).1
  ·exact ft.zero _
 have ax:∀m:List aG,(∀c∈m,c∈dE cs k r)->0<=kh (ao E cs) m i:=λm hm=>zn λx M=>by
  obtain⟨c,H,rfl⟩:=fO.1 M
  try dsimp only
  split
  ·exact (Su U dh (hm c H)).2.1
  ·exact gX
 have G:kh (ao E cs) l i<=1:=by
  have e:kh (ao E cs) (dE cs k r) i=kh (ao E cs) l i+kh (ao E cs) fI i:=by
   rw[aw];unfold kh;rw[js,MW]
  have aB:kh (ao E cs) (dE cs k r) i<=b3 ((dE cs k r).map cg) (ao E cs).w:=Fz λx M=>by
   obtain⟨c,H,rfl⟩:=fO.1 M;have:=(Su U dh H).2.1
   split
   ·exact gX
   ·exact this
  have Y:=(il.1 U.right).2.2.2;rw[abM λc H=>⟨(Y c H).1,(Y c H).2.2.2.2.1⟩] at aB
  have bp:b3 (cs.map cg) (λc=>if c.aK=k/\c.bP=r then (ao E cs).w c else 0)=1:=by
   have L:k<(ao E cs).n:=by
    obtain⟨c,H,aF⟩:=aas dh
    by_cases nB:c.aK=k/\c.bP=r
    ·rw[<-nB.1];exact U.ok.aK c H
    ·rw[ag nB] at aF;grind
   have:=U.ok.Mx (λj=>j=k) (λ_=>r) (λj aA=>by subst aA;exact dh) λ_=>1;rw[Bg L (λj _ aA=>by rw[ag aA]),ad rfl] at this;refine (wu λc _=>?_).trans this
   by_cases H:c.aK=k/\c.bP=r
   ·rw[ad H,ad H,Rat.mul_one]
   ·rw[ag H,ag H]
  have:=ax fI aAV;grind
 have fK:0<kf cs k r:=by
  rw[<-FJ U.right] at dh;exact_mod_cast dh
 exact (ab.sz fK (U.Di k r) (ax l hJ) (e:=0) (by rw[show ((2^0:Nat):Rat)=1 from rfl];exact G)).mono (by omega)
end
end Go.Mini
namespace Go.Mini
open Go
def ki (l:List aG):R:=if l=[] then .nil else .I (.X (l.map bR))
theorem aAW {a b:List aG}(h:ki a=ki b):a=b:=by
 unfold ki at h
 by_cases aW:a=[]<;>by_cases ah:b=[]
 ·rw[aW,ah]
 ·rw[ad aW,ag ah] at h;cases h
 ·rw[ag aW,ad ah] at h;cases h
 ·rw[ag aW,ag ah] at h;exact map_inj sx _ _ (Data.X.inj (R.I.inj h))
theorem amq (l:List aG):qP (ki l)=some (D l):=by
 unfold ki
 split
 ·rename_i h;rw[h];rfl
 ·simp[qP]
theorem amr {l:List aG}{n:Nat}{c:aG}(h:l[n]?=some c):zR 4 n (ki l)=some (.I (.ptr (bR c))):=by
 unfold ki
 split
 ·rename_i aw;rw[aw] at h;cases h
 ·simp only[zR,bj,h,Option.map_some];rw[ad (Dk c)]
structure oJ where
 E:Int
 dI:List (List aG)
 us:List Int
 f:Int
 p:Bool
def fW (x:oJ):List R:=dR x.E::(x.dI.map ki++(x.us.map dR++[dR x.f,h5 x.p]))
def oJ.x8 (x:oJ)(f:Int):oJ:=⟨x.E,x.dI,x.us,f,x.p⟩
def oJ.sp (x:oJ)(p:Bool):oJ:=⟨x.E,x.dI,x.us,x.f,p⟩
structure oJ.dO (x:oJ):Prop where
 dI:(D x.dI)=10
 us:(D x.us)=11
theorem Dv {x:oJ}(h:x.dO):(fW x).length=24:=by
 simp[fW,h.dI,h.us]
theorem aAX {x y:oJ}(M:x.dO)(aj:y.dO)(h:fW x=fW y):x=y:=by
 unfold fW at h;obtain⟨G,J⟩:=xg h;obtain⟨af,aT⟩:=Hv J (by rw[aE,aE,M.dI,aj.dI]);obtain⟨bx,b0⟩:=Hv aT (by rw[aE,aE,M.us,aj.us]);obtain⟨bV,cu⟩:=xg b0;obtain⟨eK,-⟩:=xg cu;obtain⟨a5,bX,cS,eC,iD⟩:=x;obtain⟨lz,mW,tv,tw,aLv⟩:=y;have aB:=map_inj (λa b h=>aAW h) _ _ af;have bp:=alA bx;simp only[dR,h5,R.I.injEq,Data.int.injEq,Data.bool.injEq,true_and] at G bV eK;dsimp only at *;rw[G,aB,bp,bV,eK]
section
variable {x:oJ} (h:x.dO)
include h
omit h in
theorem aAY:hY 1 (fW x)=[dR x.E]:=rfl
omit h in
theorem ams {k:Nat}{l:List aG}(L:x.dI[k]?=some l):hY 1 (iP (1+k) (fW x))=[ki l]:=by
 have az:=(ej.1 L).1;unfold fW;rw[zP,Dw,amt (by rw[aE];omega),C7 (by rw[nE,aE];omega)];exact wF (f:=ki) L
theorem Nu {k:Nat}{z:Int}(L:x.us[k]?=some z):hY 1 (iP (11+k) (fW x))=[dR z]:=by
 have az:=(ej.1 L).1;unfold fW;rw[show 11+k=(10+k)+1 by omega,Dw,r0,lO (by rw[aE,h.dI];omega),aE,h.dI,hX,show 10+k-10=k by omega,amt (by rw[aE];omega),C7 (by rw[nE,aE];omega)]
 exact wF (f:=dR) L
theorem Nv:hY 1 (iP 22 (fW x))=[dR x.f]:=by
 unfold fW;rw[Dw,r0,lO (by rw[aE,h.dI];omega),aE,h.dI,hX,r0,lO (by rw[aE,h.us];omega),aE,h.us]
 rfl
theorem amu:hY 1 (iP 23 (fW x))=[h5 x.p]:=by
 unfold fW;rw[Dw,r0,lO (by rw[aE,h.dI];omega),aE,h.dI,hX,r0,lO (by rw[aE,h.us];omega),aE,h.us]
 rfl
theorem aAZ (f:Int):hY 22 (fW x)++[R.I (.int .i64 f)]++iP 23 (fW x)=fW (x.x8 f):=by
 have e:fW x=(dR x.E::(x.dI.map ki++x.us.map dR))++[dR x.f,h5 x.p]:=by simp[fW]
 have l:(dR x.E::(x.dI.map ki++x.us.map dR)).length=22:=by simp[h.dI,h.us]
 rw[e,C7 (by omega),dp (by omega),r0,lO (by omega),l];simp[fW,oJ.x8,dR]
theorem amv (p:Bool):hY 23 (fW x)++[R.I (.bool p)]++iP 24 (fW x)=fW (x.sp p):=by
 have e:fW x=(dR x.E::(x.dI.map ki++(x.us.map dR++[dR x.f])))++[h5 x.p]:=by simp[fW]
 have l:(dR x.E::(x.dI.map ki++(x.us.map dR++[dR x.f]))).length=23:=by simp[h.dI,h.us]
 rw[e,C7 (by omega),dp (by omega),r0,lO (by omega),l];simp[fW,oJ.sp,h5]
end
structure dy where
 E:List Int
 cs:List aG
 aI:List Int
 P:List Bool
 g:Nat
 gs:List Nat
def dy.gR (a:dy)(i:Nat):oJ:=⟨a.E.getD i 0,bA 10 λk=>dE a.cs i k,bA 11 λk=>b4 a.cs i (k:Nat),a.aI.getD i 10,a.P.getD i false⟩
theorem dy.x9 (a:dy)(i:Nat):(a.gR i).dO:=⟨fZ _ _,fZ _ _⟩
structure dy.e6 (a:dy) (m:Mem):Prop where
 can:a.cs=dX (D a.E) a.cs
 aI:(D a.aI)=D a.E
 pl:(D a.P)=D a.E
 Sv:(D a.gs)=D a.E
 row:m 228023=some (a.g,bA (D a.E) λi => .ptr (228500+i) (a.gs.getD i 0) 0)
 eo:∀i,i<(D a.E)->m (228500+i)=some (a.gs.getD i 0,fW (a.gR i))
theorem Nw {α:Type}{d:α}{n:Nat}{a b:List α}(aW:(D a)=n)(ah:(D b)=n)(h:∀i,i<n->a.getD i d=b.getD i d):a=b:=by
 apply oR;intro i;rcases g2 i n with Q|Q
 ·have:=h i Q;rw[ep,ep,bq (by omega),bq (by omega)] at this;rw[bq (by omega),bq (by omega)];exact congrArg some this
 ·rw[ja (by omega),ja (by omega)]
theorem amw {α:Type}{n:Nat}{p q:Nat->α}(h:bA n p=bA n q):∀i,i<n->p i=q i:=λi Q=>by
 have G:=jf p Q;rw[h,jf q Q] at G;exact (oh G).symm
theorem dy.uniq {a b:dy}{m:Mem}(h:a.e6 m)(cW:b.e6 m):a=b:=by
 obtain⟨cE,cO,ei,eS,wG,tE⟩:=a;obtain⟨c0,ee,gz,gW,az1,alF⟩:=b;obtain⟨aq,c2,c3,c4,M0,M5⟩:=h;obtain⟨d1,d2,d3,d4,d5,d6⟩:=cW;dsimp only at *;rw[M0,cL,fS] at d5;obtain⟨rfl,gd⟩:=d5
 have aM:(D cE)=D c0:=by
  have:=congrArg D gd;rwa [fZ,fZ] at this
 rw[<-aM] at gd d1 d2 d3 d4 d6
 have bz:tE=alF:=Nw (d:=0) c4 d4 λi Q=>by
  have:=amw gd i Q;rw[R.ptr.injEq] at this;exact this.2.1
 subst bz
 have ah:∀i,i<(D cE)->dy.gR ⟨cE,cO,ei,eS,wG,tE⟩ i=dy.gR ⟨c0,ee,gz,gW,wG,tE⟩ i:=λi Q=>by
  have G:=M5 i Q;rw[d6 i Q,cL,fS] at G;exact (aAX (dy.x9 _ _) (dy.x9 _ _) G.2).symm
 simp only[dy.gR,oJ.mk.injEq] at ah;have av:cE=c0:=Nw (d:=0) rfl aM.symm λi Q=>(ah i Q).1;subst av
 have aB:cO=ee:=by
  rw[aq,d1];exact alb λi Q k L=>amw (ah i Q).2.1 k L
 have bp:ei=gz:=Nw (d:=10) c2 d2 λi Q=>(ah i Q).2.2.2.1;have bM:eS=gW:=Nw (d:=false) c3 d3 λi Q=>(ah i Q).2.2.2.2;rw[aB,bp,bM]
theorem dy.e6.aK {a:dy}{mem m:Mem}{n:Nat}(h:a.e6 mem)(aC:dJ n mem m)(aM:n≠228)(bx:(D a.E)<=5):a.e6 m :=
 ⟨h.can,h.aI,h.pl,h.Sv,by rw[aC 228023 (by omega)];exact h.row,λi Q=>by rw[aC (228500+i) (by omega)];exact h.eo i Q⟩
def acy:bZ:=cj 6 1 [.t 2] (O [cq 2 false] (O [F 3 0,(dM 4 K9 3),ff 5 4,F 2 5] .ret))
def acz:bZ:=cj 9 1 [.t 2] (O [cq 2 false] (O [F 3 0,a6 4 .geq 3 0,F 5 4,⟨some 6,some (5,true),.bT (.t 0)⟩,⟨some 7,some (5,true),.bin .leq (.t 6) (.c (Z 1000000000000000))⟩,gN 8 5 7,F 2 8] .ret))
def acA:bZ:=cj 42 2 [.t 3] (O [dq 2 252002 0,cq 3 false] (O [aO 4 0 2,aL 5 1 4,a6 6 .lss 5 0,F 7 6,⟨some 8,some (7,false),.dt 0 (.t 2)⟩,⟨some 9,some (7,false),.load 1 false (.t 8)⟩,⟨some 10,some (7,false),.load 1 false (.t 1)⟩,⟨some 11,some (7,false),.len (.t 10)⟩,⟨some 12,some (7,false),.bin .geq (.t 9) (.t 11)⟩,cR 13 7 12,F 14 13,⟨some 15,some (14,false),.dt 1 (.t 2)⟩,⟨some 16,some (14,false),.load 1 false (.t 15)⟩,⟨some 17,some (14,false),.bin .lss (.t 16) (.c (.I (.int .i64 (-1))))⟩,cR 18 14 17,F 19 18,⟨some 20,some (19,false),.dt 1 (.t 2)⟩,⟨some 21,some (19,false),.load 1 false (.t 20)⟩,⟨some 22,some (19,false),.load 1 false (.t 1)⟩,⟨some 23,some (19,false),.len (.t 22)⟩,⟨some 24,some (19,false),.bin .geq (.t 21) (.t 23)⟩,cR 25 19 24,F 26 25,⟨some 27,some (26,false),.dt 2 (.t 2)⟩,⟨some 28,some (26,false),.load 1 false (.t 27)⟩,⟨some 29,some (26,false),.bin .lss (.t 28) (.c (Z 0))⟩,cR 30 26 29,F 31 30,⟨some 32,some (31,false),.dt 2 (.t 2)⟩,⟨some 33,some (31,false),.load 1 false (.t 32)⟩,⟨some 34,some (31,false),.bin .geq (.t 33) (.c (Z 10))⟩,cR 35 31 34,F 36 35,⟨some 37,some (36,false),.dt 3 (.t 2)⟩,⟨some 38,some (36,false),.load 1 false (.t 37)⟩,⟨some 39,some (36,false),.call K9 [(.t 38)]⟩,⟨some 40,some (36,false),.un .not (.t 39)⟩,cR 41 36 40,F 3 41] .ret))
abbrev Sw:Int×Int×Int->List Data:=λ(x,a,b)=>[.int .i64 x,.int .i64 a,.int .i64 b]
def Sx:=cn Sw λ(x,a,b)=>some (.same (.bool (decide (a<=x)&&decide (x<=b))))
theorem amx:∀a b,Sw a=Sw b->a=b:=by
  rintro⟨a5,cE,c0⟩ ⟨bX,cO,ee⟩ h;simp only[bk,Data.int.injEq,fS,true_and,and_true] at h ⊢
  first|exact h|simpa [Hw,and_assoc] using h|grind
@[go_sem] theorem aLw (x:Int)(a:Int)(b:Int):Sx [.int .i64 x,.int .i64 a,.int .i64 b]=some (.same (.bool (decide (a<=x)&&decide (x<=b)))):=cz amx (x,a,b)
theorem aA0 (T:bl)  (x:Int) (a:Int) (b:Int):WP T XV (.same (.bool (decide (a<=x)&&decide (x<=b)))) [.I (.int .i64 x),.I (.int .i64 a),.I (.int .i64 b)]:=by
 refine cD ?_;simp only[XV];rcases aq:decide (a<=x)
 ·have c2:decide (x>=a)=false:=aq;refine ak ?_;repeat' (intro h<;>simp only[h,go_sem,go_sem_proc,aq,c2,eR]<;>try refine ai ?_ ?_)
 ·have c2:decide (x>=a)=true:=aq;refine ak ?_;repeat' (intro h<;>simp only[h,go_sem,go_sem_proc,aq,c2,fD]<;>try refine ai ?_ ?_)
abbrev acB:Int->List Data:=λ(x:Int)=>[.int .i64 x,.ptr [.fn vE []]]
def acC:=cn acB λ(x:Int)=>some (.same (.bool (!kg x)))
theorem aA1:∀a b,acB a=acB b->a=b:=by
  intro a5 bX h;simp only[bk,Data.int.injEq,true_and,and_true] at h ⊢
  first|exact h|simpa [Hw,and_assoc] using h|grind
@[go_sem] theorem aLx (x:Int):acC [.int .i64 x,.ptr [.fn vE []]]=some (.same (.bool (!kg x))):=cz aA1 x
theorem aA2 (T:bl)(acD:T vE=aQ Sx)(x:Int):WP T XW (.same (.bool (!kg x))) [.I (.int .i64 x),.I (.ptr [.fn vE []])]:=by
 refine cD ?_;simp only[XW];unfold kg;refine ak ?_;repeat' (intro h<;>simp only[h,go_sem,go_sem_proc,acD]<;>try refine ai ?_ ?_)
abbrev acE:Int×Int×Int×Int×Int->List Data:=λ(a,b,k,x,n)=>[.agg [.int .i64 a,.int .i64 b,.int .i64 k,.int .i64 x],.ptr [.fn vE []],.ptr [.int .i64 n]]
def acF:=cn acE λ(a,b,k,x,n)=>cN (0<=n/\n<=1000000) (.same (.bool (!l6 n (a,b,k,x))))
theorem aA3:∀a b,acE a=acE b->a=b:=by
  rintro⟨cE,c0,cB,a5,hK⟩ ⟨cO,ee,dA,bX,iw⟩ h;simp only[bk,Data.int.injEq,Data.agg.injEq,Data.ptr.injEq,fS,true_and,and_true] at h ⊢
  first|exact h|simpa [Hw,and_assoc] using h|grind
@[go_sem] theorem aLy (a:Int)(b:Int)(k:Int)(x:Int)(n:Int)(H:0<=n/\n<=1000000):acF [.agg [.int .i64 a,.int .i64 b,.int .i64 k,.int .i64 x],.ptr [.fn vE []],.ptr [.int .i64 n]]=some (.same (.bool (!l6 n (a,b,k,x)))):=(cz aA3 (a,b,k,x,n)).trans (cX H _)
theorem aA4 (T:bl)(acD:T vE=aQ Sx)(a:Int)(b:Int)(k:Int)(x:Int)(n:Int)(H:0<=n/\n<=1000000):WP T XX (.same (.bool (!l6 n (a,b,k,x)))) [.I (.agg [.int .i64 a,.int .i64 b,.int .i64 k,.int .i64 x]),.I (.ptr [.fn vE []]),.I (.ptr [.int .i64 n])]:=by
 refine cD ?_;simp only[XX];have w:IntKind.i64.wrap (n-1)=n-1:=by rw[fh _]
 have e:l6 n (a,b,k,x)=((decide (0<=a)&&decide (a<=n-1))&&((decide (-1<=b)&&decide (b<=n-1))&&((decide (0<=k)&&decide (k<=9))&&(decide (0<=x)&&decide (x<=1000000000000000))))):=by
  rw[AO,MZ];simp only[fw,decide_eq_true_eq];omega
 rw[e];rcases aq:(decide (0<=a)&&decide (a<=n-1))<;>rcases c2:(decide (-1<=b)&&decide (b<=n-1))<;>rcases c3:(decide (0<=k)&&decide (k<=9))<;>rcases c4:(decide (0<=x)&&decide (x<=1000000000000000))
 all_goals
      refine ak ?_;repeat' (intro h<;>simp only[h,go_sem,go_sem_proc,acD,w,aq,c2,c3,c4]<;>try refine ai ?_ ?_)
abbrev acG:Int×(List a7)×Nat->List Data:=λ(z,h,i)=>[.int .i64 z,.ptr [.X (h.map ar)],.ptr [.int .i64 i]]
def acH:=cn acG λ(z,h,i)=>cN (dr z/\i<D h/\hC h) (.same (.bool (decide (k7 (h.getD i dD) (al (z:Rat))<0))))
theorem aA5:∀a b,acG a=acG b->a=b:=by
  rintro⟨k5,G,i1⟩ ⟨k6,J,i2⟩ h;simp only[bk,Data.int.injEq,Data.ptr.injEq,Data.X.injEq,and_true,true_and] at h;exact dN h.1 (dN (map_inj np _ _ h.2.1) (by have:=h.2.2;dsimp only;omega))
@[go_sem] theorem aA6 (z:Int)(h:List a7)(i:Nat)(H:dr z/\i<D h/\hC h):acH [.int .i64 z,.ptr [.X (h.map ar)],.ptr [.int .i64 i]]=some (.same (.bool (decide (k7 (h.getD i dD) (al (z:Rat))<0)))):=(cz aA5 (z,h,i)).trans (cX H _)
theorem aA7 (T:bl)(iE:T ou=aQ u3)(kJ:T pF=aQ vY)(z:Int)(h:List a7)(i:Nat)(H:dr z/\i<D h/\hC h):WP T XS (.same (.bool (decide (k7 (h.getD i dD) (al (z:Rat))<0)))) [.I (.int .i64 z),.I (.ptr [.X (h.map ar)]),.I (.ptr [.int .i64 i])]:=by
 refine cD ?_;simp only[XS];obtain⟨a3,Q,cM⟩:=H;have hw:=Bn z a3;obtain⟨x,M⟩:∃x,h[i]?=some x:=⟨_,bq Q⟩;have HX:h.getD i dD=x:=by rw[ep,M];rfl
 obtain⟨lE,lF⟩:=cM.2 x (dn M);obtain⟨tj,tk⟩:=jY (oI a3);rw[HX];generalize al (z:Rat)=rf at *;obtain⟨⟨cE,cO⟩,⟨ei,eS⟩⟩:=rf;obtain⟨⟨c0,ee⟩,⟨gz,gW⟩⟩:=x;have qk:=ahY c0 ee gz gW cE cO ei eS ⟨lE,lF,tj,tk⟩;simp only[ar] at hw;refine ak ?_;repeat' (intro (ay:_=_)<;>simp only[ay,go_sem,go_sem_proc,iE,kJ,hw,M,qk,ar,aE,bj]<;>try refine ai ?_ ?_)
def Sy:=cn xb λ(x:Int)=>some (.same (.bool (kg x)))
@[go_sem] theorem aLz (x:Int):Sy [.int .i64 x]=some (.same (.bool (kg x))):=cz At x
theorem aA8 (T:bl)  (x:Int):WP T acz (.same (.bool (kg x))) [.I (.int .i64 x)]:=by
 refine cD ?_;simp only[acz];unfold kg;rcases aq:decide (0<=x)
 ·have c2:decide (x>=0)=false:=aq;refine ak ?_;repeat' (intro h<;>simp only[h,go_sem,go_sem_proc,aq,c2,eR]<;>try refine ai ?_ ?_)
 ·have c2:decide (x>=0)=true:=aq;refine ak ?_;repeat' (intro h<;>simp only[h,go_sem,go_sem_proc,aq,c2,fD]<;>try refine ai ?_ ?_)
def acI:=cn xb λ(x:Int)=>some (.same (.bool (!kg x)))
@[go_sem] theorem aLA (x:Int):acI [.int .i64 x]=some (.same (.bool (!kg x))):=cz At x
theorem aA9 (T:bl)(Nx:T K9=aQ Sy)(x:Int):WP T acy (.same (.bool (!kg x))) [.I (.int .i64 x)]:=by
 refine cD ?_;simp only[acy];refine ak ?_;repeat' (intro h<;>simp only[h,go_sem,go_sem_proc,Nx]<;>try refine ai ?_ ?_)
inductive Bt where
 |right
 |day
 |solve (h:List a7) (i:Nat)
def tH:Bt->Data
 |.right => .fn K7 [.ptr [.fn vE []]]
 |.day => .fn Pv []
 |.solve h i => .fn K4 [.ptr [.X (h.map ar)],.ptr [.int .i64 i]]
theorem aBa:∀a b:Bt,tH a=tH b->a=b:=by
 rintro (_|_|⟨h,i⟩) (_|_|⟨cW,bm⟩) e
 all_goals first|rfl|(simp[tH,K7,Pv,K4] at e;done)|skip
 simp only[tH,Data.fn.injEq,bk,Data.ptr.injEq,Data.X.injEq,Data.int.injEq,and_true,true_and] at e;rw[map_inj np _ _ e.1,show i=bm by omega]
def kK:Bt->Int->Bool
 |.right,x => !kg x
 |.day,x => !kg x
 |.solve h i,x=>decide (k7 (h.getD i dD) (al (x:Rat))<0)
def Jg (l:List Int):Bt->Prop
 |.right=>True
 |.day=>True
 |.solve h i=>i<D h/\hC h/\∀x∈l,dr x
abbrev Sz:(List Int)×Bt->List Data:=λ(l,c)=>[.X (l.map ae),tH c]
def Jh:=cn Sz λ(l,c)=>cN (D l<=1000000/\Jg l c) (.same (.int .i64 (oE (kK c) l)))
theorem amy:∀a b,Sz a=Sz b->a=b:=by
  rintro⟨ed,aq⟩ ⟨aa,c2⟩ h;simp only[bk,Data.X.injEq,and_true] at h;exact dN (map_inj gx _ _ h.1) (aBa _ _ h.2)
@[go_sem] theorem aBb (l:List Int)(c:Bt)(H:(D l)<=1000000/\Jg l c):Jh [.X (l.map ae),tH c]=some (.same (.int .i64 (oE (kK c) l))):=(cz amy (l,c)).trans (cX H _)
theorem aBc (T:bl)(Bu:T K7=aQ acC)(Bv:T Pv=aQ acI)(Bw:T K4=aQ acH)(l:List Int)(c:Bt)(H:(D l)<=1000000/\Jg l c):WP T V7 (.same (.int .i64 (oE (kK c) l))) [.I (.X (l.map ae)),.I (tH c)]:=by
 refine cD ?_;simp only[V7];obtain⟨aw,cM⟩:=H
 cases c with
 |right =>
  simp only[go_sem,go_sem_proc,tH,aE];refine cU [0,1,7] [] (λ(i:Nat) tm mem=>i<=D l/\(∀x∈l.take i,kK .right x=false)/\tm 8=.I (.int .i64 i)) (λi=>D l-i) 0 (by refine⟨fm _,by simp,rfl⟩) ?_;intro vs ms aJ aH;simp only[go_sem,go_sem_proc] at aJ aH;subst aJ aH;rintro i tm mem L hm ⟨Q,dB,cu⟩;simp only[go_sem,go_sem_proc,bk] at L hm;obtain⟨ax,G,bV⟩:=L;rcases dc (i<D l) with az|b2
  ·have M:=bq az;have bY:=λh=>CQ (p:=kK .right) dB M h;have hd:=λh=>AY (p:=kK .right) dB M h;generalize l[i]=x at *;have fz:decide ((i:Int)<(D l:Int))=true:=cT;have hw:=ec (i:=i) (by omega);rcases ah:kK .right x
   ·have Y:kg x=true:=by simpa [kK] using ah
    refine ak ?_;repeat' (intro (ay:_=_)<;>simp only[ay,go_sem,go_sem_proc,Bu,Bv,Bw,ax,G,bV,cu,M,fz,hw,Y,ae,aE,bj,cw]<;>try refine ai ?_ ?_)
    exact⟨i+1,by omega,by omega,hd ah,rfl⟩
   ·have Y:kg x=false:=by simpa [kK] using ah
    rw[bY ah];refine ak ?_;repeat' (intro (ay:_=_)<;>simp only[ay,go_sem,go_sem_proc,Bu,Bv,Bw,ax,G,bV,cu,M,fz,hw,Y,ae,aE,bj,db]<;>try refine ai ?_ ?_)
  ·have fz:decide ((i:Int)<(D l:Int))=false:=cl;obtain rfl:i=D l:=by omega
   rw[nQ] at dB;rw[E6 dB];refine ak ?_;repeat' (intro (ay:_=_)<;>simp only[ay,go_sem,go_sem_proc,Bu,Bv,Bw,ax,G,bV,cu,fz,aE]<;>try refine ai ?_ ?_)
 |day =>
  simp only[go_sem,go_sem_proc,tH,aE];refine cU [0,1,7] [] (λ(i:Nat) tm mem=>i<=D l/\(∀x∈l.take i,kK .day x=false)/\tm 8=.I (.int .i64 i)) (λi=>D l-i) 0 (by refine⟨fm _,by simp,rfl⟩) ?_;intro vs ms aJ aH;simp only[go_sem,go_sem_proc] at aJ aH;subst aJ aH;rintro i tm mem L hm ⟨Q,dB,cu⟩;simp only[go_sem,go_sem_proc,bk] at L hm;obtain⟨ax,G,bV⟩:=L;rcases dc (i<D l) with az|b2
  ·have M:=bq az;have bY:=λh=>CQ (p:=kK .day) dB M h;have hd:=λh=>AY (p:=kK .day) dB M h;generalize l[i]=x at *;have fz:decide ((i:Int)<(D l:Int))=true:=cT;have hw:=ec (i:=i) (by omega);rcases ah:kK .day x
   ·have Y:kg x=true:=by simpa [kK] using ah
    refine ak ?_;repeat' (intro (ay:_=_)<;>simp only[ay,go_sem,go_sem_proc,Bu,Bv,Bw,ax,G,bV,cu,M,fz,hw,Y,ae,aE,bj,cw]<;>try refine ai ?_ ?_)
    exact⟨i+1,by omega,by omega,hd ah,rfl⟩
   ·have Y:kg x=false:=by simpa [kK] using ah
    rw[bY ah];refine ak ?_;repeat' (intro (ay:_=_)<;>simp only[ay,go_sem,go_sem_proc,Bu,Bv,Bw,ax,G,bV,cu,M,fz,hw,Y,ae,aE,bj,db]<;>try refine ai ?_ ?_)
  ·have fz:decide ((i:Int)<(D l:Int))=false:=cl;obtain rfl:i=D l:=by omega
   rw[nQ] at dB;rw[E6 dB];refine ak ?_;repeat' (intro (ay:_=_)<;>simp only[ay,go_sem,go_sem_proc,Bu,Bv,Bw,ax,G,bV,cu,fz,aE]<;>try refine ai ?_ ?_)
 |solve h k =>
  obtain⟨rZ,xI,aBd⟩:=cM;simp only[go_sem,go_sem_proc,tH,aE];refine cU [0,1,7] [] (λ(i:Nat) tm mem=>i<=D l/\(∀x∈l.take i,kK (.solve h k) x=false)/\tm 8=.I (.int .i64 i)) (λi=>D l-i) 0 (by refine⟨fm _,by simp,rfl⟩) ?_;intro vs ms aJ aH;simp only[go_sem,go_sem_proc] at aJ aH;subst aJ aH;rintro i tm mem L hm ⟨Q,dB,cu⟩;simp only[go_sem,go_sem_proc,bk] at L hm;obtain⟨ax,G,bV⟩:=L;rcases dc (i<D l) with az|b2
  ·have M:=bq az;have SA:=aBd _ (lq az);have bY:=λaY=>CQ (p:=kK (.solve h k)) dB M aY;have hd:=λaY=>AY (p:=kK (.solve h k)) dB M aY;generalize l[i]=x at *;have dG:=aA6 x h k ⟨SA,rZ,xI⟩;have fz:decide ((i:Int)<(D l:Int))=true:=cT;have hw:=ec (i:=i) (by omega);rcases ah:kK (.solve h k) x
   ·have Y:=ah;simp only[kK] at Y;rw[Y] at dG;refine ak ?_;repeat' (intro (ay:_=_)<;>simp only[ay,go_sem,go_sem_proc,Bu,Bv,Bw,ax,G,bV,cu,M,fz,hw,dG,ae,aE,bj]<;>try refine ai ?_ ?_)
    exact⟨i+1,by omega,by omega,hd ah,rfl⟩
   ·have Y:=ah;simp only[kK] at Y;rw[Y] at dG;rw[bY ah];refine ak ?_;repeat' (intro (ay:_=_)<;>simp only[ay,go_sem,go_sem_proc,Bu,Bv,Bw,ax,G,bV,cu,M,fz,hw,dG,ae,aE,bj]<;>try refine ai ?_ ?_)
  ·have fz:decide ((i:Int)<(D l:Int))=false:=cl;obtain rfl:i=D l:=by omega
   rw[nQ] at dB;rw[E6 dB];refine ak ?_;repeat' (intro (ay:_=_)<;>simp only[ay,go_sem,go_sem_proc,Bu,Bv,Bw,ax,G,bV,cu,fz,aE]<;>try refine ai ?_ ?_)
def acJ:=cn Sz λ(l,c)=>cN (D l<=1000000/\Jg l c) (.same (.bool (l.any (kK c))))
@[go_sem] theorem aBe (l:List Int)(c:Bt)(H:(D l)<=1000000/\Jg l c):acJ [.X (l.map ae),tH c]=some (.same (.bool (l.any (kK c)))):=(cz amy (l,c)).trans (cX H _)
theorem aBf (T:bl)(zB:T Ev=aQ Jh)(l:List Int)(c:Bt)(H:(D l)<=1000000/\Jg l c):WP T V9 (.same (.bool (l.any (kK c)))) [.I (.X (l.map ae)),.I (tH c)]:=by
 refine cD ?_;simp only[V9];rw[<-Ql];refine ak ?_;repeat' (intro h<;>simp only[h,go_sem,go_sem_proc,zB,H]<;>try refine ai ?_ ?_)
abbrev acK:Int×Int×Int×Int×(List Int)->List Data:=λ(a,b,k,x,E)=>[.agg [.int .i64 a,.int .i64 b,.int .i64 k,.int .i64 x],.ptr [.X (E.map ae)]]
def acL:=cn acK λ(a,b,k,x,E)=>cN (D E<=1000000) (.same (.bool (!l6 (D E) (a,b,k,x))))
theorem aBg:∀a b,acK a=acK b->a=b:=by
  rintro⟨cE,c0,cB,a5,abJ⟩ ⟨cO,ee,dA,bX,abK⟩ h;simp only[bk,Data.agg.injEq,Data.int.injEq,Data.ptr.injEq,Data.X.injEq,and_true,true_and] at h;obtain⟨⟨G,J,af,aT⟩,bx⟩:=h;rw[G,J,af,aT,map_inj gx _ _ bx]
@[go_sem] theorem aLB (a:Int)(b:Int)(k:Int)(x:Int)(E:List Int)(H:(D E)<=1000000):acL [.agg [.int .i64 a,.int .i64 b,.int .i64 k,.int .i64 x],.ptr [.X (E.map ae)]]=some (.same (.bool (!l6 (D E) (a,b,k,x)))):=(cz aBg (a,b,k,x,E)).trans (cX H _)
theorem aBh (T:bl)(Nx:T K9=aQ Sy)(a:Int)(b:Int)(k:Int)(x:Int)(E:List Int)(H:(D E)<=1000000):WP T acA (.same (.bool (!l6 (D E) (a,b,k,x)))) [.I (.agg [.int .i64 a,.int .i64 b,.int .i64 k,.int .i64 x]),.I (.ptr [.X (E.map ae)])]:=by
 refine cD ?_;simp only[acA]
 by_cases Y:l6 (D E) (a,b,k,x)=true
 ·have wU:=MZ.1 Y;dsimp only at wU;have aq:decide (a<0)=false:=cl;have c2:decide (a>=(D E:Int))=false:=cl;have c3:decide (b < -1)=false:=cl;have c4:decide (b>=(D E:Int))=false:=cl;have M0:decide (k<0)=false:=cl;have M5:decide (k>=10)=false:=cl;have FT:kg x=true:=R2.2 (by omega);refine ak ?_;repeat' (intro h<;>simp only[h,go_sem,go_sem_proc,Nx,Y,aq,c2,c3,c4,M0,M5,FT,aE,cw]<;>try refine ai ?_ ?_)
 ·have aC:l6 (D E) (a,b,k,x)=false:=by simpa using Y
  rw[MZ] at Y;dsimp only at Y;rcases FT:kg x
  ·refine ak ?_;repeat' (intro h<;>simp only[h,go_sem,go_sem_proc,Nx,aC,FT,aE,cw,db]<;>try refine ai ?_ ?_)
  ·have aLC:=R2.1 FT;refine ak ?_;repeat' (intro h<;>simp only[h,go_sem,go_sem_proc,Nx,aC,FT,aE,cw,db]<;>try refine ai ?_ ?_)
   all_goals (exfalso;simp only[decide_eq_false_iff_not] at *;omega)
inductive zC where
 |right (n:Int)
 |day (E:List Int)
def va:zC->Data
 |.right n => .fn K8 [.ptr [.fn vE []],.ptr [.int .i64 n]]
 |.day E => .fn Pw [.ptr [.X (E.map ae)]]
theorem aBi:∀a b:zC,va a=va b->a=b:=by
 rintro (n|c) (abX|c') e
 all_goals first|(simp[va,K8,Pw] at e;done)|skip
 ·simp only[va,Data.fn.injEq,bk,Data.ptr.injEq,Data.int.injEq,and_true,true_and] at e;rw[e]
 ·simp only[va,Data.fn.injEq,bk,Data.ptr.injEq,Data.X.injEq,and_true,true_and] at e;rw[map_inj gx _ _ e]
def Ga:zC->Int
 |.right n=>n
 |.day E=>D E
def ph (c:zC)(x:aG):Bool:=!l6 (Ga c) x
def Ji (c:zC):Prop:=0<=Ga c/\Ga c<=1000000
abbrev SB:(List aG)×zC->List Data:=λ(l,c)=>[.X (l.map bR),va c]
def acM:=cn SB λ(l,c)=>cN (D l<=1000000/\Ji c) (.same (.int .i64 (oE (ph c) l)))
theorem amz:∀a b,SB a=SB b->a=b:=by
  rintro⟨ed,aq⟩ ⟨aa,c2⟩ h;simp only[bk,Data.X.injEq,and_true] at h;exact dN (map_inj sx _ _ h.1) (aBi _ _ h.2)
@[go_sem] theorem aLD (l:List aG)(c:zC)(H:(D l)<=1000000/\Ji c):acM [.X (l.map bR),va c]=some (.same (.int .i64 (oE (ph c) l))):=(cz amz (l,c)).trans (cX H _)
theorem aBj (T:bl)(Jj:T K8=aQ acF)(Jk:T Pw=aQ acL)(l:List aG)(c:zC)(H:(D l)<=1000000/\Ji c):WP T Wb (.same (.int .i64 (oE (ph c) l))) [.I (.X (l.map bR)),.I (va c)]:=by
 refine cD ?_;simp only[Wb];obtain⟨aw,cM⟩:=H
 cases c with
 |right n =>
  have aM:0<=n/\n<=1000000:=cM;simp only[go_sem,go_sem_proc,va,aE];refine cU [0,1,7] [] (λ(i:Nat) tm mem=>i<=D l/\(∀x∈l.take i,ph (.right n) x=false)/\tm 8=.I (.int .i64 i)) (λi=>D l-i) 0 (by refine⟨fm _,by simp,rfl⟩) ?_;intro vs ms aJ aH;simp only[go_sem,go_sem_proc] at aJ aH;subst aJ aH;rintro i tm mem L hm ⟨Q,dB,cu⟩;simp only[go_sem,go_sem_proc,bk] at L hm;obtain⟨ax,G,bV⟩:=L;rcases dc (i<D l) with az|b2
  ·have M:=bq az;have bY:=λh=>CQ (p:=ph (.right n)) dB M h;have hd:=λh=>AY (p:=ph (.right n)) dB M h;generalize l[i]=x at *;obtain⟨a,b,k,z⟩:=x;have fz:decide ((i:Int)<(D l:Int))=true:=cT;have hw:=ec (i:=i) (by omega);rcases ah:ph (.right n) (a,b,k,z)
   ·have Y:l6 n (a,b,k,z)=true:=by simpa [ph,Ga] using ah
    refine ak ?_;repeat' (intro (ay:_=_)<;>simp only[ay,go_sem,go_sem_proc,Jj,Jk,ax,G,bV,cu,M,fz,hw,Y,aM,bR,aE,bj,cw]<;>try refine ai ?_ ?_)
    exact⟨i+1,by omega,by omega,hd ah,rfl⟩
   ·have Y:l6 n (a,b,k,z)=false:=by simpa [ph,Ga] using ah
    rw[bY ah];refine ak ?_;repeat' (intro (ay:_=_)<;>simp only[ay,go_sem,go_sem_proc,Jj,Jk,ax,G,bV,cu,M,fz,hw,Y,aM,bR,aE,bj,db]<;>try refine ai ?_ ?_)
  ·have fz:decide ((i:Int)<(D l:Int))=false:=cl;obtain rfl:i=D l:=by omega
   rw[nQ] at dB;rw[E6 dB];refine ak ?_;repeat' (intro (ay:_=_)<;>simp only[ay,go_sem,go_sem_proc,Jj,Jk,ax,G,bV,cu,fz,aE]<;>try refine ai ?_ ?_)
 |day E =>
  have aM:(D E)<=1000000:=by have h:(D E:Int)<=1000000:=cM.2;omega
  simp only[go_sem,go_sem_proc,va,aE];refine cU [0,1,7] [] (λ(i:Nat) tm mem=>i<=D l/\(∀x∈l.take i,ph (.day E) x=false)/\tm 8=.I (.int .i64 i)) (λi=>D l-i) 0 (by refine⟨fm _,by simp,rfl⟩) ?_;intro vs ms aJ aH;simp only[go_sem,go_sem_proc] at aJ aH;subst aJ aH;rintro i tm mem L hm ⟨Q,dB,cu⟩;simp only[go_sem,go_sem_proc,bk] at L hm;obtain⟨ax,G,bV⟩:=L;rcases dc (i<D l) with az|b2
  ·have M:=bq az;have bY:=λh=>CQ (p:=ph (.day E)) dB M h;have hd:=λh=>AY (p:=ph (.day E)) dB M h;generalize l[i]=x at *;obtain⟨a,b,k,z⟩:=x;have fz:decide ((i:Int)<(D l:Int))=true:=cT;have hw:=ec (i:=i) (by omega);rcases ah:ph (.day E) (a,b,k,z)
   ·have Y:l6 (D E) (a,b,k,z)=true:=by simpa [ph,Ga] using ah
    refine ak ?_;repeat' (intro (ay:_=_)<;>simp only[ay,go_sem,go_sem_proc,Jj,Jk,ax,G,bV,cu,M,fz,hw,Y,aM,bR,aE,bj,cw]<;>try refine ai ?_ ?_)
    exact⟨i+1,by omega,by omega,hd ah,rfl⟩
   ·have Y:l6 (D E) (a,b,k,z)=false:=by simpa [ph,Ga] using ah
    rw[bY ah];refine ak ?_;repeat' (intro (ay:_=_)<;>simp only[ay,go_sem,go_sem_proc,Jj,Jk,ax,G,bV,cu,M,fz,hw,Y,aM,bR,aE,bj,db]<;>try refine ai ?_ ?_)
  ·have fz:decide ((i:Int)<(D l:Int))=false:=cl;obtain rfl:i=D l:=by omega
   rw[nQ] at dB;rw[E6 dB];refine ak ?_;repeat' (intro (ay:_=_)<;>simp only[ay,go_sem,go_sem_proc,Jj,Jk,ax,G,bV,cu,fz,aE]<;>try refine ai ?_ ?_)
def acN:=cn SB λ(l,c)=>cN (D l<=1000000/\Ji c) (.same (.bool (l.any (ph c))))
@[go_sem] theorem aBk (l:List aG)(c:zC)(H:(D l)<=1000000/\Ji c):acN [.X (l.map bR),va c]=some (.same (.bool (l.any (ph c)))):=(cz amz (l,c)).trans (cX H _)
theorem aBl (T:bl)(aBm:T Vt=aQ acM)(l:List aG)(c:zC)(H:(D l)<=1000000/\Ji c):WP T Wa (.same (.bool (l.any (ph c)))) [.I (.X (l.map bR)),.I (va c)]:=by
 refine cD ?_;simp only[Wa];rw[<-Ql];refine ak ?_;repeat' (intro h<;>simp only[h,go_sem,go_sem_proc,aBm,H]<;>try refine ai ?_ ?_)
theorem amA {α:Type}(l:List α)(p:α->Bool):l.any (λx => !p x) = !l.all p:=by
 induction l with
 |nil=>rfl
 |cons a l aN=>rw[List.any_cons,List.all_cons,aN];cases p a<;>rfl
def SC:=cn FP λ(E,cs)=>cN (D E<=1000000/\D cs<=1000000) (.same (.bool (hk E cs)))
@[go_sem] theorem aLE (E:List Int)(cs:List aG)(H:(D E)<=1000000/\D cs<=1000000):SC [.X (E.map ae),.X (cs.map bR)]=some (.same (.bool (hk E cs))):=(cz MV (E,cs)).trans (cX H _)
theorem aBn (T:bl)(amB:T Vp=aQ acJ)(amC:T Vq=aQ acN)(E:List Int)(cs:List aG)(H:(D E)<=1000000/\D cs<=1000000):WP T XQ (.same (.bool (hk E cs))) [.I (.X (E.map ae)),.I (.X (cs.map bR))]:=by
 refine cD ?_;simp only[XQ];obtain⟨G,J⟩:=H;rw[alq];have dV:=aBe E .right ⟨G,trivial⟩;have kp:=aBk cs (.right (D E)) ⟨J,by show (0:Int)<=(D E:Int);omega,by show (D E:Int)<=1000000;omega⟩
 have av:E.any (kK .right) = !E.all kg:=amA E kg;have aB:cs.any (ph (.right (D E))) = !cs.all (l6 (D E)):=amA cs _;rw[av] at dV;rw[aB] at kp;simp only[tH] at dV;simp only[va] at kp;have d1:decide (D E<=60)=decide ((D E:Int)<=60):=by rw[AO,decide_eq_true_iff,decide_eq_true_iff];omega
 have d2:decide (D cs<=2000)=decide ((D cs:Int)<=2000):=by rw[AO,decide_eq_true_iff,decide_eq_true_iff];omega
 rw[d1,d2];rcases fQ:decide ((D E:Int)<=60)<;>rcases hg:decide ((D cs:Int)<=2000)<;>rcases wz:E.all kg<;>rcases kE:cs.all (l6 (D E))
 all_goals rw[wz] at dV
 all_goals rw[kE] at kp
 all_goals
      simp only[go_sem,go_sem_proc,amB,amC,dV,kp,fQ,hg,aE,cw,db,Ah,jB,dz,se,scalar];repeat' (first|refine ai ?_ ?_|fail)<;>intro h<;>simp only[h,go_sem,go_sem_proc,amB,amC,dV,kp,fQ,hg,aE,cw,db,Ah,jB,dz,BT,se,scalar]
structure dy.Jl (a:dy):Prop where
 tF:fV a.E a.cs
 dS:∀x∈a.aI,0<=x/\x<=10
theorem dy.Ny {a:dy}{m:Mem}(h:a.e6 m)(aC:a.Jl){i:Nat}(Q:i<D a.E):a.aI.getD i 10=(bb a.aI i:Int)/\bb a.aI i<=10:=by
 have aw:=h.aI
 have:a.aI.getD i 10∈a.aI:=by
  rw[ep,bq (by omega)];exact lq _
 have:=aC.dS _ this;unfold bb;omega
structure acO (x:dy×Nat) (mem:Mem):Prop where
 at_:x.1.e6 mem
 no:ld 255 mem
 Jm:x.1.Jl
 lt:x.2<x.1.E.length
 f10:bb x.1.aI x.2<10
 S:0<(ao x.1.E x.1.cs).S x.2 (bb x.1.aI x.2)
def SD (x:dy×Nat):Data:=.c1 [.X ((cK x.1.E.length λi=>(ao x.1.E x.1.cs).W (bb x.1.aI) x.2 i).map ar),.bool true]
def SE:List R->Mem->Option Data:=zv (λ(x:dy×Nat) args mem=>args=[.ptr (228500+x.2) (x.1.gs.getD x.2 0) 0,.I (.int .i64 x.1.E.length)]/\acO x mem) SD
theorem aBo (a:dy)(k:Nat)(mem:Mem)(h:acO (a,k) mem):SE [.ptr (228500+k) (a.gs.getD k 0) 0,.I (.int .i64 (D a.E))] mem=some (SD (a,k)):=by
 refine Ja (a:=(a,k)) ?_ ⟨rfl,h⟩;rintro⟨a,i⟩ ⟨b,j⟩ args mem ⟨av,aB⟩ ⟨bp,bM⟩;obtain rfl:=dy.uniq aB.at_ bM.at_;rw[av] at bp;simp only[bk,R.ptr.injEq,and_true] at bp;have G:228500+i=228500+j:=bp.1;have:i=j:=by omega
 rw[this]
theorem aBp (N:Nat)(aR:a7):(et N (ar aR)).flatten.map R.I=aV ar (et N aR):=by
 unfold aV;rw[Iy,List.map_flatten,Iy]
theorem aBq (T:bl)(iE:T ou=aQ u3)(aBr:T U0=aQ ZS)(MT:T El=aQ LH)(pN:T yP=aQ AR)(a:dy)(k:Nat)(mem:Mem)(h:acO (a,k) mem):
  wp T Qj.body (pQ Qj.res λm mem'=>dz 6 emp m=some (SD (a,k))/\dJ 255 mem mem') ⟨lk [.ptr (228500+k) (a.gs.getD k 0) 0,.I (.int .i64 (D a.E))],mem⟩:=by
 obtain⟨bY,gw,sD,L,tI,dh⟩:=h;dsimp only at *;obtain⟨U,dS⟩:=sD;have aM:=U.hE;have s8:=bY.eo k L;have qy:=(dy.Ny bY ⟨U,dS⟩ L).1;have cM:=a.x9 k;have hlen:=Dv cM;have qK:=Nv cM;rw[show (a.gR k).f=(bb a.aI k:Int) from qy] at qK;have Dx:=ams (x:=a.gR k) (k:=bb a.aI k) (l:=dE a.cs k (bb a.aI k)) (jf _ tI);have Bx:=Nu cM (k:=bb a.aI k) (z:=b4 a.cs k (bb a.aI k:Nat)) (jf _ (by omega));have aBs:=Nu cM (k:=bb a.aI k+1) (z:=b4 a.cs k (bb a.aI k+1:Nat)) (jf _ (by omega));have Xg:∀j,228500+k≠255000+j:=λj=>by omega
 generalize fW (a.gR k)=DC at *;have acP:=Bn 0 FV;have a3:cK (D a.E) (kh (ao a.E a.cs) [])=et (D a.E) (al ((0:Int):Rat)):=(I4 wk λj aA=>by rw[ab4,ad aA,aAS];rfl).symm;generalize fP:dE a.cs k (bb a.aI k)=c5 at *;refine sV ?_;simp only[Qj];have vb:(228500+k)/1000≠255:=by omega
 have nm:mem 255017=none:=gw 255017 (by decide);have hJ:=λc (H:c∈c5)=>FR.1 (fP ▸ H:c∈dE a.cs k (bb a.aI k));have amD:=λc (H:c∈c5)=>(Su U dh (fP ▸ H:c∈dE a.cs k (bb a.aI k))).2.2;have amE:=λl i (aw:∃fI,c5=l++fI)=>aAU U dh (l:=l) (by rw[fP];exact aw) i;have amF:=λi=>aAT U.right (bb a.aI) k i;rw[fP] at amF
 have aLF:(D c5)<=12:=by
  have G:=pc (λc:aG=>c.1==(k:Int)&&c.2.2.1==(bb a.aI k:Int)) a.cs;have J:=U.qF;rw[<-fP];unfold dE;omega
 have alS:(0:Int)<gJ a.cs k (bb a.aI k):=by
  have G:=IX U.right k (bb a.aI k);rw[<-G] at dh;have:(0:Int)<b4 a.cs k (bb a.aI k+1:Nat)-b4 a.cs k (bb a.aI k):=by exact_mod_cast dh
  exact this
 have aBt:gJ a.cs k (bb a.aI k)=b4 a.cs k (bb a.aI k+1:Nat)-b4 a.cs k (bb a.aI k:Nat):=rfl;have XJ:=U.upto k (bb a.aI k+1:Nat);have EV:=U.upto k (bb a.aI k:Nat);have aBu:=(il.1 U.right).2.2.2;generalize cZ:228500+k=eE at *;have pj:∀j,eE≠255000+j:=λj=>by omega
 have SG:(eE=255009)=False:=eq_false (pj 9);have aBv:(eE=255010)=False:=eq_false (pj 10);have aBw:(eE=255012)=False:=eq_false (pj 12);have amG:(eE=255017)=False:=eq_false (pj 17);have SH:(eE==255009)=false:=beq_eq_false_iff_ne.2 (pj 9);have aBx:(eE==255010)=false:=beq_eq_false_iff_ne.2 (pj 10);have aBy:(eE==255012)=false:=beq_eq_false_iff_ne.2 (pj 12);have aBz:(eE==255017)=false:=beq_eq_false_iff_ne.2 (pj 17);have d9:(255009==eE)=false:=beq_eq_false_iff_ne.2 (pj 9).symm;have d10:(255010==eE)=false:=beq_eq_false_iff_ne.2 (pj 10).symm;have d12:(255012==eE)=false:=beq_eq_false_iff_ne.2 (pj 12).symm;have d17:(255017==eE)=false:=beq_eq_false_iff_ne.2 (pj 17).symm;have ed:bb a.aI k+1<11:=by omega
 have aa:bb a.aI k<11:=by omega
 have bh:(1+bb a.aI k+1<=24)=True:=eq_true (by omega);have br:(11+bb a.aI k+1<=24)=True:=eq_true (by omega);have aBA:(11+(bb a.aI k+1)+1<=24)=True:=eq_true (by omega);have wf:IntKind.i64.wrap ((bb a.aI k:Int)+1)=((bb a.aI k+1:Nat):Int):=by rw[fh _];omega
 have lv:=s8;generalize aLG:b4 a.cs k (bb a.aI k+1:Nat)=rF at *;generalize aLH:b4 a.cs k (bb a.aI k:Nat)=zD at *;generalize aLI:bb a.aI k=F0 at *;generalize MK:al ((0:Int):Rat)=rf at *;obtain⟨⟨k5,k6⟩,⟨pf,u4⟩⟩:=rf;have acQ:=aw6 k5 k6 pf u4 (D a.E) (by omega);have jk:=aBp (D a.E) ((k5,k6),(pf,u4));simp only[ar] at acP acQ jk;have fv:=amq c5;simp only[go_sem,go_sem_proc] at fv;simp only[go_sem,go_sem_proc,iE,acP,aBr,acQ,jk,s8,hlen,tI,qK,Dx,amG,bh,nm,dR,dY,fv,wk]
 refine cU [0,6,26,27] [] (λ(j:Nat) tm m=>j<=D c5/\tm 28=.I (.int .i64 j)/\tm 7=.I (.bool true)/\m 255017=some (0,aV ar (cK (D a.E) (kh (ao a.E a.cs) (c5.take j))))/\dJ 255 mem m) (λj=>D c5-j) 0 (by
  refine⟨by omega,rfl,rfl,?_,(dJ.refl _ _).eb (by decide)⟩
  rw[mU,a3];simp[a9]) ?_
 intro vs ms aJ aH;simp only[go_sem,go_sem_proc] at aJ aH;subst aJ aH;clear acP acQ jk s8;rintro j tm m L-⟨aA,wJ,b5,n4,bD⟩;simp only[go_sem,go_sem_proc,bk] at L;obtain⟨bw,bH,pk,pn⟩:=L;have ah:=(bD eE vb).trans lv;rcases dc (j<D c5) with az|b2
 ·have d1:decide ((j:Int)<(D c5:Int))=true:=cT;have bG:=ec (i:=j) (by omega);obtain⟨⟨aq,c2,c3,c4⟩,M⟩:∃c,c5[j]?=some c:=⟨_,bq az⟩;have It:=dn M;have iG:=aBu _ (hJ _ It).1;dsimp only at iG;have xD:=amr M;simp only[go_sem,go_sem_proc] at xD;have gm:c5.take (j+1)=c5.take j++[(aq,c2,c3,c4)]:=by rw[gB,M];rfl
  rcases q:decide (c2<0)
  ·have zZ:0<=c2:=by have:=of_decide_eq_false q;omega
   obtain⟨t,rfl⟩:∃t:Nat,c2=(t:Int):=⟨c2.toNat,by omega⟩
   have hw:=amD _ It;dsimp only at hw;have hV:=alI (p:=c4) (q:=gJ a.cs k F0) (iB (by omega) (by omega)) (iB (by omega) (by omega)) (by omega);rw[<-hw] at hV;have Nz:=atY c4 (gJ a.cs k F0) ⟨iB (by omega) (by omega),iB (by omega) (by omega)⟩;rw[hV] at Nz;have k5:=amE (c5.take j) t ⟨c5.drop j,(vz j c5).symm⟩;have k6:=Sb U (hJ _ It).1;have hN:=aly (iY k5 (by omega)) (iY k6 (by omega)) (zq k5 k6 (by omega))
   have u5:cK (D a.E) (kh (ao a.E a.cs) (c5.take (j+1)))=(cK (D a.E) (kh (ao a.E a.cs) (c5.take j))).set t (al (kh (ao a.E a.cs) (c5.take j) t+(ao a.E a.cs).w (cg (aq,(t:Int),c3,c4)))):=by
    rw[Sd];refine wC λi _=>?_;rw[gm,amp]
    by_cases Q:i=t
    ·rw[ad Q,ad (by dsimp only;omega),Q]
    ·rw[ag Q,ag (by dsimp only;omega),iX]
   have aBB:IntKind.i64.wrap (rF-zD)=gJ a.cs k F0:=by rw[wrap64 _ (by omega) (by omega),aBt]
   have LY:(cK (D a.E) (kh (ao a.E a.cs) (c5.take j))).length=D a.E:=nX _ _;have ab3:=pY (N:=D a.E) (kh (ao a.E a.cs) (c5.take j)) (k:=t) (by omega);clear k5 k6 amE amD hV hw;generalize al (kh (ao a.E a.cs) (c5.take j) t+(ao a.E a.cs).w (cg (aq,(t:Int),c3,c4)))=F1 at *;generalize al (kh (ao a.E a.cs) (c5.take j) t)=F2 at *;generalize al ((ao a.E a.cs).w (cg (aq,(t:Int),c3,c4)))=F3 at *;generalize cK (D a.E) (kh (ao a.E a.cs) (c5.take j))=bU at *;obtain⟨⟨cE,cO⟩,⟨ei,eS⟩⟩:=F1;obtain⟨⟨f1,f2⟩,⟨f3,f4⟩⟩:=F2;obtain⟨⟨cQ,dd⟩,⟨iK,mz⟩⟩:=F3;have t1:=A8 ab3;have t2:=wc (l:=bU) (k:=t) (by omega);have t3:=C1 (l:=bU) (k:=t) (by omega) cE cO ei eS;have Kw:t<D a.E:=by omega
   simp only[ar,cG] at Nz hN;refine ak ?_;repeat' (intro (ay:_=_)<;>simp only[ay,go_sem,go_sem_proc,MT,pN,bw,bH,b5,pk,pn,wJ,ah,n4,xD,hlen,qK,Bx,aBs,wf,aBB,d1,bG,q,Nz,hN,t1,t2,t3,Kw,tI,ed,aa,bh,br,aBA,SG,aBv,aBw,amG,SH,aBx,aBy,aBz,d9,d10,d12,d17,bR,dR,dY,beq_self_eq_true]<;>try refine ai ?_ ?_)
   refine⟨j+1,by omega,by omega,rfl,by rw[u5],by repeat first|exact bD|refine dJ.eb ?_ (by decide)⟩
  ·have zZ:c2<0:=of_decide_eq_true q
   have u5:cK (D a.E) (kh (ao a.E a.cs) (c5.take (j+1)))=cK (D a.E) (kh (ao a.E a.cs) (c5.take j)):=wC λi _=>by
    rw[gm,amp,ag (by dsimp only;omega),iX]
   refine ak ?_;repeat' (intro (ay:_=_)<;>simp only[ay,go_sem,go_sem_proc,bw,bH,b5,pk,pn,wJ,ah,n4,xD,d1,bG,q,bR,dY]<;>try refine ai ?_ ?_)
   refine⟨j+1,by omega,by omega,rfl,by rw[u5],by repeat first|exact bD|refine dJ.eb ?_ (by decide)⟩
 ·have d1:decide ((j:Int)<(D c5:Int))=false:=cl;rw[dp (by omega)] at n4;have u5:cK (D a.E) (kh (ao a.E a.cs) c5)=cK (D a.E) λi=>(ao a.E a.cs).W (bb a.aI) k i:=wC λi _=>amF i;rw[u5] at n4;have iH:(cK (D a.E) λi=>(ao a.E a.cs).W (bb a.aI) k i).length=D a.E:=nX _ _;have ke:=λ(K:bo->Prop) (st:bo)=>oW (K:=K) (st:=st) iT 6 255017 0 (cK (D a.E) λi=>(ao a.E a.cs).W (bb a.aI) k i);rw[iH] at ke;refine ak ?_;repeat' (intro (ay:_=_)<;>simp only[ay,go_sem,go_sem_proc,bw,bH,b5,pk,pn,wJ,ah,n4,d1,ke]<;>try refine ai ?_ ?_)
  exact⟨_,rfl,rfl,by repeat first|exact bD|refine dJ.eb ?_ (by decide)|refine dJ.kill ?_ (by decide)⟩
theorem acR (N:Nat)(x:Nat->Rat):cK (N+1) x=cK N x++[al (x N)]:=by
 unfold cK;rw[pZ,js,js];rfl
theorem wK {l:List R}{k:Nat}{y:R}(h:l[k]?=some y):hY 1 (iP k l)=[y]:=by
 have:=wF (f:=id) h;rwa [List.map_id] at this
def tJ (n:Nat)(W:Nat->Nat->Rat)(k:Nat):List Data:=[.X ((cK n (W k)).map ar)]
theorem aBC (T:bl)(iE:T ou=aQ u3)(tr:T yQ=aQ AS){K:eI->bo->Prop}{kk:List fJ}(en:Mem)(n:Nat)(aM:n<=60)(p:List Nat)(aF:(D p)<=60)(W:Nat->Nat->Rat)(r i:Nat)(Q:i<n)(yK:∀k,k<(D p)->eA 30 (W (p.getD k 0) i))(v0 v1 v10 v20 amH amI:R)(bE m8:Nat)(aq c2 c3 c4:R)(amJ:Option (Nat×List R))(tm:Nat->R)(m:Mem)
  (bw:tm 0=v0) (av:tm 1=v1) (aB:tm 2=.I (.X (p.map hj))) (bp:tm 3=.I (.X (p.map (tJ n W)))) (fq:tm 10=v10) (iW:tm 11=.I (.int .i64 r)) (fo:tm 12=.I (.int .i64 i)) (gu:tm 13=.ptr 256013 bE 0) (po:tm 20=v20) (uE:tm 21=amH) (uF:tm 22=amI) (mB:tm 50=.I (.int .i64 (D p))) (n5:tm 51=.I (.int .i64 0)) (rG:m 256013=some (bE,[.ref 256076 m8 4 0 0,aq,c2,c3,c4])) (n0:m 256076=some (m8,[])) (Gb:m 256082=amJ) (bD:dJ 256 en m)
  (cZ:∀tm' m' Nj,tm' 0=v0->tm' 1=v1->tm' 2=.I (.X (p.map hj))->tm' 3=.I (.X (p.map (tJ n W)))->tm' 10=v10->tm' 13=.ptr 256013 bE 0->tm' 20=v20->tm' 21=amH->tm' 22=amI->m' 256013=some (bE,[.ref 256076 Nj 4 0 (D p),aq,c2,c3,c4])->m' 256076=some (Nj,aV ar (cK (D p) λk=>(if r=k then 1 else 0)-W (p.getD k 0) i))->m' 256082=amJ->dJ 256 en m'->cd T K kk (.exit 2) ⟨tm',m'⟩) :
  wp T (HZ.body.sub [1,1,0,1,0,0,0,1,1,0,0,1,1,0,1,0]) (cd T K kk) ⟨tm,m⟩:=by
 simp only[HZ,er.sub];refine cU [0,1,2,3,10,11,12,13,20,21,22,50] [256082] (λ((k,g):Nat×Nat) tm m=>k<=D p/\tm 51=.I (.int .i64 k)/\m 256013=some (bE,[.ref 256076 g 4 0 k,aq,c2,c3,c4])/\m 256076=some (g,aV ar (cK k λk=>(if r=k then 1 else 0)-W (p.getD k 0) i))/\dJ 256 en m) (λ(k,_)=>D p-k) (0,m8) (by refine⟨by omega,n5,rG,n0,bD⟩) ?_;intro vs ms aJ aH;simp only[go_sem,go_sem_proc,bw,av,aB,bp,fq,iW,fo,gu,po,uE,uF,mB,Gb] at aJ aH;subst aJ aH;clear bw av aB bp fq iW fo gu po uE uF mB n5 rG n0 Gb bD tm m;rintro⟨k,g⟩ tm m L hm ⟨k9,n5,rG,n0,bD⟩;simp only[go_sem,go_sem_proc,bk] at L hm;obtain⟨bw,av,aB,bp,fq,iW,fo,gu,po,uE,uF,mB⟩:=L;rcases dc (k<D p) with az|b2
 ·have d1:decide ((k:Int)<(D p:Int))=true:=cT;have bG:=ec (i:=k) (by omega);obtain⟨wL,M⟩:∃c,p[k]?=some c:=⟨_,bq az⟩;have C4:p.getD k 0=wL:=by rw[ep,M];rfl
  have NA:=yK k az;have aJ:=acR k λk=>(if r=k then 1 else 0)-W (p.getD k 0) i;have cm:(cK k λk=>(if r=k then 1 else 0)-W (p.getD k 0) i).length=k:=nX _ _;have dv:=λ(aR:a7) cs jj=>jm iT v5 256076 g 64 (cK k λk=>(if r=k then 1 else 0)-W (p.getD k 0) i) aR (cs:=cs) jj (by omega) (by omega);simp only[cm] at dv;rw[C4] at NA aJ;have bz:=pY (W wL) Q;generalize cK k (λk=>(if r=k then 1 else 0)-W (p.getD k 0) i)=V at *;generalize mu:cK (k+1) (λk=>(if r=k then 1 else 0)-W (p.getD k 0) i)=V2 at *;clear cZ yK;have key:∀o:Int,(o=0\/o=1)->(if r=k then (1:Rat) else 0)=(o:Rat)->True:=λ_ _ _=>trivial;rcases q:((k:Int)==(r:Int))
  ·have kd:¬ r=k:=by have:=ne_of_beq_false q;omega
   have hw:=Bn 0 FV;have U:=abU (oI FV) (iY NA (by omega)) (zq (sy (z:=0) (b:=1) (by decide)) (wA NA) (by omega));rw[ag kd,show (0:Rat)=((0:Int):Rat) from rfl] at aJ;generalize al ((0:Int):Rat)=rf at *;generalize al (W wL i)=jW at *;generalize al (((0:Int):Rat)-W wL i)=bu at *;obtain⟨⟨k5,k6⟩,⟨pf,u4⟩⟩:=rf;obtain⟨⟨lz,mW⟩,⟨tv,tw⟩⟩:=jW;obtain⟨⟨a5,bX⟩,⟨cS,eC⟩⟩:=bu;have kI:=dv ((a5,bX),(cS,eC)) _ rfl;rw[<-aJ] at kI;simp only[ar,ey,cC] at kI hw U;refine ak ?_;repeat' (intro h<;>simp only[h,go_sem,go_sem_proc,iE,tr,bw,av,aB,bp,fq,iW,fo,gu,po,uE,uF,mB,n5,rG,n0,hm,d1,bG,q,M,tJ,bz,hw,U,kI,ar,aE,bj,bne,beq_self_eq_true,cw,mx]<;>try refine ai ?_ ?_)
   exact⟨(k+1,g+1),by dsimp only;omega,by dsimp only;omega,rfl,rfl,by rw[<-mu],by repeat first|exact bD|refine dJ.eb ?_ (by decide)⟩
  ·have kd:r=k:=by have:=eq_of_beq q;omega
   have hw:=Bn 1 Sc;have U:=abU (oI Sc) (iY NA (by omega)) (zq (sy (z:=1) (b:=1) (by decide)) (wA NA) (by omega));rw[ad kd,show (1:Rat)=((1:Int):Rat) from rfl] at aJ;generalize al ((1:Int):Rat)=rf at *;generalize al (W wL i)=jW at *;generalize al (((1:Int):Rat)-W wL i)=bu at *;obtain⟨⟨k5,k6⟩,⟨pf,u4⟩⟩:=rf;obtain⟨⟨lz,mW⟩,⟨tv,tw⟩⟩:=jW;obtain⟨⟨a5,bX⟩,⟨cS,eC⟩⟩:=bu;have kI:=dv ((a5,bX),(cS,eC)) _ rfl;rw[<-aJ] at kI;simp only[ar,ey,cC] at kI hw U;refine ak ?_;repeat' (intro h<;>simp only[h,go_sem,go_sem_proc,iE,tr,bw,av,aB,bp,fq,iW,fo,gu,po,uE,uF,mB,n5,rG,n0,hm,d1,bG,q,M,tJ,bz,hw,U,kI,ar,aE,bj,bne,beq_self_eq_true,cw,mx]<;>try refine ai ?_ ?_)
   exact⟨(k+1,g+1),by dsimp only;omega,by dsimp only;omega,rfl,rfl,by rw[<-mu],by repeat first|exact bD|refine dJ.eb ?_ (by decide)⟩
 ·have d1:decide ((k:Int)<(D p:Int))=false:=cl;obtain rfl:k=D p:=by omega
  refine ak ?_;repeat' (intro h<;>simp only[h,go_sem,go_sem_proc,bw,av,aB,bp,fq,iW,fo,gu,po,uE,uF,mB,n5,d1]<;>try refine ai ?_ ?_)
  refine cZ _ _ g ?_ ?_ ?_ ?_ ?_ ?_ ?_ ?_ ?_ rG n0 hm bD<;>simp only[dk,cp,if_false,bw,av,aB,bp,fq,gu,po,uE,uF]
structure acS (a:dy) (mem:Mem):Prop where
 at_:a.e6 mem
 no:ld 256 mem
 Jm:a.Jl
 la:rC (ao a.E a.cs) (bb a.aI) (dL a.P)
def dy.p (a:dy):List Nat:=dm (dL a.P) (D a.E)
def SI (a:dy):List R:=[.ref 228023 a.g 1 0 (D a.E),.I (.X ((bA (D a.E) λi=>lb a.E a.cs (bb a.aI) i).map ae)),.I (.X (a.p.map hj)),.I (.X (a.p.map (tJ (D a.E) λk i=>(ao a.E a.cs).W (bb a.aI) k i)))]
def dy.xs (a:dy):List a7:=cK (D a.p) λk=>(ao a.E a.cs).e0 (bb a.aI) (dL a.P) (a.p.getD k 0)-(ao a.E a.cs).bI (a.p.getD k 0) (bb a.aI (a.p.getD k 0))
def SJ (a:dy):Data:=.c1 [.X (a.xs.map ar),.bool true]
def SK:List R->Mem->Option Data:=zv (λ(a:dy) args mem=>args=SI a/\acS a mem) SJ
theorem aBD (a:dy)(mem:Mem)(h:acS a mem):SK (SI a) mem=some (SJ a):=by
 refine Ja (a:=a) ?_ ⟨rfl,h⟩;rintro a b args mem ⟨av,aB⟩ ⟨bp,bM⟩;rw[dy.uniq aB.at_ bM.at_]
theorem aBE (T:bl)(iE:T ou=aQ u3)(tr:T yQ=aQ AS)(aBF:T UU=aQ ZI)(a:dy)(mem:Mem)(aW:acS a mem):
  wp T HZ.body (pQ HZ.res λm mem'=>dz 6 emp m=some (SJ a)/\dJ 256 mem mem') ⟨lk (SI a),mem⟩:=by
 obtain⟨bY,gw,sD,im⟩:=aW;have qy:=λi=>dy.Ny bY sD (i:=i);obtain⟨U,dS⟩:=sD;have aM:=U.hE;have G6:=λk=>Dh (P:=dL a.P) (n:=D a.E) (k:=k);have RS:=aze U im;have acT:=abh U im.pW (dm (dL a.P) (D a.E)) λk L=>(Dh L).2;have aBG:=λk (L:dL a.P k) i=>(abl U im L i).1
 have aLJ:(dm (dL a.P) (D a.E)).length<=5:=by
  unfold dm;exact e4 (pc _ _) (by rw[r1];exact aM)
 have aBH:mem 256082=none:=gw 256082 (by decide);unfold SI SJ dy.xs dy.p;generalize aF:dm (dL a.P) (D a.E)=p at *;generalize dV:(ao a.E a.cs).u0 (bb a.aI) p=A at *;generalize aBI:(bA (D a.E) λi=>lb a.E a.cs (bb a.aI) i).map ae=amK at *;have aBJ:∀i,i<(D a.E)->amK[i]?=some [.int .i64 (lb a.E a.cs (bb a.aI) i)]:=λi Q=>by rw[<-aBI,bj,jf _ Q];rfl
 refine sV ?_;simp only[HZ];simp only[go_sem,go_sem_proc,aBH,aE];refine cU [0,1,2,3,20,21] [] (λ((r,g):Nat×Nat) tm m=>r<=D p/\tm 22=.I (.int .i64 r)/\tm 10=.ref 256082 g 5 0 r/\m 256082=some (g,aV de ((rowsOf (D p) A).take r))/\dJ 256 mem m) (λ(r,_)=>D p-r) (0,0) (by refine⟨by omega,rfl,rfl,rfl,(dJ.refl _ _).eb (by decide)⟩) ?_;intro vs ms aJ aH;simp only[go_sem,go_sem_proc] at aJ aH;subst aJ aH;rintro⟨r,g⟩ tm m L hm ⟨amL,uF,fq,Gb,bD⟩;simp only[go_sem,go_sem_proc,bk] at L;obtain⟨bw,av,aB,bp,po,uE⟩:=L;rcases dc (r<D p) with az|b2
 ·have d1:decide ((r:Int)<(D p:Int))=true:=cT;have bG:=ec (i:=r) (by omega);obtain⟨i,M⟩:∃c,p[r]?=some c:=⟨_,bq az⟩;have uX:p.getD r 0=i:=by rw[ep,M];rfl
  obtain⟨Q,aBK⟩:=G6 r az;rw[uX] at Q aBK;obtain⟨sD,tI⟩:=qy i Q;have gd:=(bD.at 228023 (by omega)).trans bY.row;have gh:=(bD.at (228500+i) (by omega)).trans (bY.eo i Q);have j7:=wK (jf (λi=>R.ptr (228500+i) (a.gs.getD i 0) 0) Q);have cm:(bA (D a.E) λi=>R.ptr (228500+i) (a.gs.getD i 0) 0).length=D a.E:=fZ _ _;have cM:=a.x9 i;have hlen:=Dv cM;have qK:=Nv cM;rw[show (a.gR i).f=(bb a.aI i:Int) from sD] at qK;have Bx:=Nu cM (k:=bb a.aI i) (z:=b4 a.cs i (bb a.aI i:Nat)) (jf _ (by omega));have dF:=aBJ i Q;have c0:=U.steady (bb a.aI) i;have ee:=U.upto i (bb a.aI i);have aBL:IntKind.i64.wrap (lb a.E a.cs (bb a.aI) i-b4 a.cs i (bb a.aI i:Nat))=lb a.E a.cs (bb a.aI) i-b4 a.cs i (bb a.aI i:Nat):=by rw[fh _]
  have hw:=Bn (lb a.E a.cs (bb a.aI) i-b4 a.cs i (bb a.aI i:Nat)) (iB (by omega) (by omega))
  have aBM:A r (D p)=((lb a.E a.cs (bb a.aI) i-b4 a.cs i (bb a.aI i:Nat):Int):Rat):=by
   rw[<-dV];unfold Day.u0;rw[ag (by omega),uX,<-FK U.right,<-pX U.right,Rat.intCast_sub]
  have aBN:∀k,k<(D p)->A r k=(if r=k then 1 else 0)-(ao a.E a.cs).W (bb a.aI) (p.getD k 0) i:=λk L=>by
   rw[<-dV];unfold Day.u0;rw[ad L,uX]
  have ed:i+1<=D a.E:=by omega
  have aa:bb a.aI i<11:=by omega
  have bh:(11+bb a.aI i+1<=24)=True:=eq_true (by omega);rw[<-aBM] at hw;generalize vb:228500+i=eE at *;generalize fW (a.gR i)=DC at *;generalize (bA (D a.E) λi=>R.ptr (228500+i) (a.gs.getD i 0) 0)=ya at *;generalize lb a.E a.cs (bb a.aI) i=S1 at *;generalize b4 a.cs i (bb a.aI i:Nat)=rF at *;generalize bb a.aI i=F0 at *;generalize gF:al (A r (D p))=jW at *;obtain⟨⟨lz,mW⟩,⟨tv,tw⟩⟩:=jW;simp only[ar] at hw;have aBO:(eE==256013)=false:=beq_eq_false_iff_ne.2 (by omega);have aLK:(256013==eE)=false:=beq_eq_false_iff_ne.2 (by omega);have aLL:(eE=256013)=False:=eq_false (by omega);simp only[go_sem,go_sem_proc,iE,bw,av,po,uE,uF,gd,gh,j7,cm,hlen,qK,Bx,dF,aBL,hw,M,d1,Q,ed,aa,bh,aBO,dR,hj,dY,bj];refine Nf (kc:=256013) (g:=fN (m 256013)) (off:=0) (cs:=[.nil,.I (.int .i64 lz),.I (.X (mW.map ae)),.I (.int .i64 tv),.I (.X (tw.map ae))]) ?_ ?_ rfl (by decide) ?_
  ·simp only[go_sem,go_sem_proc]
  ·simp[a9]
  simp only[go_sem,go_sem_proc,aB,aE,mx];refine aBC T iE tr mem (D a.E) (by omega) p (by omega) (λk i=>(ao a.E a.cs).W (bb a.aI) k i) r i Q (λk L=>aBG _ (G6 k L).2 i) (.ref 228023 a.g 1 0 (D a.E)) (.I (.X amK)) (.ref 256082 g 5 0 r) (.I (.X (p.map hj))) (.I (.int .i64 (D p))) (.I (.int .i64 r)) (fN (m 256013)) (fN (m 256076)) (.I (.int .i64 lz)) (.I (.X (mW.map ae))) (.I (.int .i64 tv)) (.I (.X (tw.map ae))) (some (g,aV de ((rowsOf (D p) A).take r))) _ _ ?_ ?_ ?_ ?_ ?_ ?_ ?_ ?_ ?_ ?_ ?_ ?_ ?_ ?_ ?_ ?_ ?_ ?_
  ·simp only[dk,cp,if_false];exact bw
  ·simp only[dk,cp,if_false];exact av
  ·simp only[dk,cp,if_false];exact aB
  ·simp only[dk,cp,if_false];exact bp
  ·simp only[dk,cp,if_false];exact fq
  ·simp only[dk,cp,if_false,if_true]
  ·simp only[dk,cp,if_false,if_true]
  ·simp only[dk,cp,if_false,if_true]
  ·simp only[dk,cp,if_false];exact po
  ·simp only[dk,cp,if_false];exact uE
  ·simp only[dk,cp,if_false];exact uF
  ·simp only[dk,cp,if_false,if_true]
  ·simp only[dk,cp,if_false,if_true]
  ·simp[a9]
  ·simp[a9]
  ·simp only[a9,cp,if_false];exact Gb
  ·repeat first|exact bD|refine dJ.eb ?_ (by decide)
  intro tm b7 m8 ev cB dA ek oy r9 acU aBP aBQ Jn Dn aBR jN;have aBS:(cK (D p) λk=>(if r=k then 1 else 0)-(ao a.E a.cs).W (bb a.aI) (p.getD k 0) i)=cK (D p) (A r):=wC λk L=>(aBN k L).symm;rw[aBS] at Dn;clear bw av aB bp fq po uE uF Gb gd gh j7 bD;have dv:=λcs jj=>jm qs alU 256082 g 88 ((rowsOf (D p) A).take r) (cK (D p) (A r),al (A r (D p))) (cs:=cs) jj;have m2:((rowsOf (D p) A).take r).length=r:=by rw[gv,wD];omega
  have gm:(rowsOf (D p) A).take r++[(cK (D p) (A r),al (A r (D p)))]=(rowsOf (D p) A).take (r+1):=by
   rw[gB,abi A az];rfl
  rw[m2,gm,gF] at dv;have iH:(cK (D p) (A r)).length=D p:=nX _ _;generalize cK (D p) (A r)=V at *;have kI:=dv _ rfl (by omega) (by omega);simp only[ar,de,ey,cC] at kI;simp only[go_sem,go_sem_proc];refine R7 (kc:=256013) (gc:=fN (m 256013)) (off:=0) (cc:=[.ref 256076 m8 4 0 (D p),.I (.int .i64 lz),.I (.X (mW.map ae)),.I (.int .i64 tv),.I (.X (tw.map ae))]) (k:=256076) (g:=m8) (sz:=4) (o:=0) (len:=D p) (cs:=aV ar V) (d:=.X (V.map ar)) ?_ Jn rfl Dn (Ha _ _) (by decide) ?_ ?_
  ·exact r9
  ·have:=jU (n:=0) iT Dn;rw[iH] at this;exact this
  refine ak ?_;repeat' (intro h<;>simp only[h,go_sem,go_sem_proc,ev,cB,dA,ek,oy,r9,acU,aBP,aBQ,aBR,kI,bG,mx]<;>try refine ai ?_ ?_)
  exact⟨(r+1,g+1),by dsimp only;omega,by dsimp only;omega,rfl,rfl,rfl,by repeat first|exact jN|refine dJ.eb ?_ (by decide)⟩
 ·have d1:decide ((r:Int)<(D p:Int))=false:=cl;have amL:r=D p:=by omega
  have hlen:=wD (D p) A;rw[dp (by rw[hlen];omega)] at Gb;obtain⟨c0,ee⟩:=RS;have hP:kz (rowsOf (D p) A):=akV (by omega) λi Q k L=>iY (acT.sz (by omega) Q L) (by omega);have dG:=awS (rowsOf (D p) A) (D p) hP;rw[c0] at dG;dsimp only at dG;have ke:=λ(K:bo->Prop) (st:bo)=>oW (K:=K) (st:=st) qs 10 256082 g (rowsOf (D p) A);rw[hlen] at ke;subst amL;refine ak ?_;repeat' (intro h<;>simp only[h,go_sem,go_sem_proc,aBF,bw,av,aB,bp,fq,po,uE,uF,Gb,d1,ke,dG,aE,bne,beq_self_eq_true,cw]<;>try refine ai ?_ ?_)
  exact⟨_,rfl,rfl,by repeat first|exact bD|refine dJ.eb ?_ (by decide)|refine dJ.kill ?_ (by decide)⟩
end Go.Mini
namespace Go.Mini
open Classical
def tK (cs:List aG)(f:Nat->Nat)(n:Nat):List aG:=(eN n).flatMap λi=>(eN (f i)).flatMap λk=>dE cs i k
theorem aBT (aR:Nat->List aG)(r n:Nat)(h:r<=n):((eN n).flatMap λk=>if k<r then aR k else [])=(eN r).flatMap aR:=by
 induction n with
 |zero=>rw[show r=0 by omega];rfl
 |succ n aN =>
  rw[pZ,xZ,qd,Bo,gS]
  by_cases Y:r=n+1
  ·subst Y;rw[ad (by omega),pZ,xZ,qd,Bo,gS]
   congr 1
   rw[x0,x0]
   congr 1
   exact oi λk L=>ad (by have:=iM.1 L;omega)
  ·rw[ag (by omega),gS];exact aN (by omega)
theorem amM {α:Type}(l:List α)(aR:α->List aG)(p:aG->Bool):(l.flatMap aR).filter p=l.flatMap λx=>(aR x).filter p:=by
 induction l with
 |nil=>rfl
 |cons a l aN=>rw[qd,qd,sw,aN]
theorem aBU {cs:List aG}{f:Nat->Nat}{n:Nat}(aC:∀i,i<n->f i<=10):tK cs f n=(dX n cs).filter λc=>decide (c.2.2.1<(f c.1.toNat:Int)):=by
 unfold tK dX;rw[amM,x0,x0]
 congr 1
 refine oi λi Q=>?_;rw[amM,<-aBT (λk=>dE cs i k) (f i) 10 (aC i (iM.1 Q)),x0,x0]
 congr 1
 refine oi λk _=>?_
 by_cases h:k<f i
 ·rw[ad h];refine (List.filter_eq_self.2 λc H=>?_).symm;obtain⟨-,G,J⟩:=FR.1 H;rw[G,J,jE];exact cT
 ·rw[ag h];refine (List.filter_eq_nil_iff.2 λc H=>?_).symm;obtain⟨-,G,J⟩:=FR.1 H;rw[G,J,jE,decide_eq_true_eq];omega
theorem aBV (cs:List aG)(p:aG->Prop)[DecidablePred p](aR:aG->Int):cF (cs.filter λc=>decide (p c)) aR=cF cs λc=>if p c then aR c else 0:=by
 induction cs with
 |nil=>rfl
 |cons c l aN =>
  by_cases h:p c
  ·rw[rB (by simpa using h)];simp only[cF,aN,ad h]
  ·rw[tC (by simpa using h),aN];simp only[cF,ag h];omega
def gZ (j:Nat)(c:aG):Int:=if c.2.1=(j:Int) then c.2.2.2 else 0
theorem amN {E:List Int}{cs:List aG}{f:Nat->Nat}(NB:cs=dX (D E) cs)(aC:∀i,i<(D E)->f i<=10)(j:Nat):lb E cs f j=E.getD j 0+cF (tK cs f (D E)) (gZ j):=by
 rw[aBU aC,<-NB,aBV cs (λc=>c.2.2.1<(f c.1.toNat:Int))];unfold lb
 congr 1
 refine FD λc _=>?_;unfold gZ
 by_cases G:c.2.1=(j:Int)
 ·by_cases J:c.2.2.1<(f c.1.toNat:Int)
  ·rw[ad ⟨G,J⟩,ad J,ad G]
  ·rw[ag λh=>J h.2,ag J]
 ·rw[ag λh=>G h.1,ag G]
  split<;>rfl
theorem aBW {cs:List aG}{f:Nat->Nat}{n:Nat}{c:aG}(h:c∈tK cs f n):c∈cs:=by
 unfold tK at h;simp only[List.mem_flatMap] at h;obtain⟨i,-,k,-,H⟩:=h;exact (FR.1 H).1
def kL (cs:List aG)(f:Nat->Nat)(i k t:Nat):List aG:=tK cs f i++(((eN k).flatMap λk=>dE cs i k)++(dE cs i k).take t)
theorem aBX (cs:List aG)(f:Nat->Nat):kL cs f 0 0 0=[]:=rfl
theorem aBY (cs:List aG)(f:Nat->Nat)(i k:Nat):kL cs f i k (dE cs i k).length=kL cs f i (k+1) 0:=by
 unfold kL;rw[nQ,mU,gS,pZ,xZ,qd,Bo,gS]
theorem aBZ (cs:List aG)(f:Nat->Nat)(i:Nat):kL cs f i (f i) 0=kL cs f (i+1) 0 0:=by
 unfold kL tK;rw[mU,mU,gS,pZ,xZ,qd,Bo,gS];simp
theorem amO (cs:List aG)(f:Nat->Nat)(n:Nat):kL cs f n 0 0=tK cs f n:=by
 unfold kL;simp
theorem amP (cs:List aG)(f:Nat->Nat){n i k t:Nat}(Q:i<n)(L:k<f i):∃l,tK cs f n=kL cs f i k t++l:=by
 have aM:∃m,n=i+1+m:=⟨n-(i+1),by omega⟩
 obtain⟨m,rfl⟩:=aM;have aC:∃r,f i=k+1+r:=⟨f i-(k+1),by omega⟩
 obtain⟨r,Y⟩:=aC;have amQ:∀(a b:Nat) (aR:Nat->List aG),(eN (a+b)).flatMap aR=(eN a).flatMap aR++((eN b).map (a+·)).flatMap aR:=λa b aR=>by rw[amR,xZ]
 unfold tK kL;rw[amQ,pZ,xZ,qd,Bo,gS,Y,amQ,pZ,xZ,qd,Bo,gS];refine⟨(dE cs i k).drop t++(((eN r).map (k+1+·)).flatMap (λk=>dE cs i k)++((eN m).map (i+1+·)).flatMap λi=>(eN (f i)).flatMap λk=>dE cs i k),?_⟩;unfold tK;simp only[gT]
 congr 1
 congr 1
 rw[<-gT ((dE cs i k).take t),vz]
theorem amS {E:List Int}{cs:List aG}(h:fV E cs){f:Nat->Nat}(NB:cs=dX (D E) cs)(aC:∀i,i<(D E)->f i<=10)(j:Nat){l fI:List aG}(aw:tK cs f (D E)=l++fI):0<=cF l (gZ j)/\cF l (gZ j)<=1000000536870912:=by
 have GM:∀m:List aG,(∀c∈m,c∈cs)->0<=cF m (gZ j):=by
  intro m
  induction m with
  |nil=>intro _;exact ama _
  |cons c m aN =>
   intro hm;have G:=aN λy aj=>hm y (hO _ aj);have J:=((il.1 h.right).2.2.2 c (hm c g3)).2.2.2.2.2.2.1;simp only[cF,gZ] at *
   split<;>omega
 have hm:∀c∈l++fI,c∈cs:=λc H=>aBW (by rw[aw];exact H);have G:=GM l λc H=>hm c (by simp[H]);have J:=GM fI λc H=>hm c (by simp[H]);have af:=amN NB aC j;rw[aw,MA] at af;have aT:=h.steady f j;have bx:=h.E j;omega
end Go.Mini
namespace Go.Mini
open Go
theorem acV {n c:Nat}(H:c<n)(q:Nat->Int)(v:Int):hY c (nR dR (bA n q))++[R.I (.int .i64 v)]++iP (c+1) (nR dR (bA n q))=nR dR (bA n λj=>if j=c then v else q j):=by
 rw[<-zA,wb,Np,ad (by rw[aE,fZ];exact H)];simp[dR]
theorem acW {n c:Nat}(H:c<n)(q:Nat->Int):hY 1 (iP c (nR dR (bA n q)))=[.I (.int .i64 (q c))]:=wF (f:=dR) (jf q H)
theorem acX (n:Nat)(q:Nat->Int):(nR dR (bA n q)).length=n:=by rw[aE,fZ]
theorem SM (l:List aG)(c:aG)(aR:aG->Int):cF (l++[c]) aR=cF l aR+aR c:=by
 rw[MA];simp[cF]
theorem aB0 (T:bl){K:eI->bo->Prop}{kk:List fJ}(en:Mem)(n:Nat)(aM:n<=60)(c5:List aG)(B:Nat->Int)(kp:∀t j,0<=B j+cF (c5.take t) (gZ j)/\B j+cF (c5.take t) (gZ j)<=4000000000000000000)(fP:∀c∈c5,c.2.1<n /\ -1<=c.2.1)(aLM:(D c5)<=2000)(v0 v4 v6 sE A1 amT v30 Jo Jp amU amV:R)(bE:Nat)(Jq Jr:Option (Nat×List R))(tm:Nat->R)(m:Mem)
  (bw:tm 0=v0) (bM:tm 4=v4) (dw:tm 5=.ref 248029 bE 1 0 n) (bH:tm 6=v6) (b5:tm 7=sE) (df:tm 8=A1) (eB:tm 9=amT) (jZ:tm 30=v30) (kM:tm 31=Jo) (kN:tm 32=Jp) (mB:tm 50=amU) (n5:tm 51=amV) (qL:tm 59=ki c5) (l8:tm 60=.I (.int .i64 (D c5))) (tL:tm 61=.I (.int .i64 0))
  (jv:m 248029=some (bE,(bA n B).map dR)) (n6:m 248094=Jq) (n7:m 248098=Jr) (bD:dJ 248 en m)
  (cZ:∀tm' m',tm' 0=v0->tm' 4=v4->tm' 5=.ref 248029 bE 1 0 n->tm' 6=v6->tm' 7=sE->tm' 8=A1->tm' 9=amT->tm' 30=v30->tm' 31=Jo->tm' 32=Jp->tm' 50=amU->tm' 51=amV->m' 248029=some (bE,(bA n λj=>B j+cF c5 (gZ j)).map dR)->m' 248094=Jq->m' 248098=Jr->dJ 248 en m'->cd T K kk (.exit 4) ⟨tm',m'⟩) :
  wp T (v3.body.sub [1,1,1,1,1,0,1,0,0,0,0,1,1,0,0,1,1,0,1,0,0,1,1,0,0,1,1,0]) (cd T K kk) ⟨tm,m⟩:=by
 simp only[v3,er.sub]
 refine cU [0,4,5,6,7,8,9,30,31,32,50,51,59,60] [248094,248098] (λ(t:Nat) tm m=>t<=D c5/\tm 61=.I (.int .i64 t)/\m 248029=some (bE,(bA n λj=>B j+cF (c5.take t) (gZ j)).map dR)/\dJ 248 en m) (λt=>D c5-t) 0 (by
  refine⟨by omega,tL,?_,bD⟩
  rw[jv]
  congr 3
  exact iC λj _=>by rw[mU];simp[cF]) ?_
 intro vs ms aJ aH;simp only[go_sem,go_sem_proc,bw,bM,dw,bH,b5,df,eB,jZ,kM,kN,mB,n5,qL,l8,n6,n7] at aJ aH;subst aJ aH;clear bw bM dw bH b5 df eB jZ kM kN mB n5 qL l8 tL jv n6 n7 bD tm m;rintro t tm m L hm ⟨ak0,tL,jv,bD⟩;simp only[go_sem,go_sem_proc,bk] at L hm;obtain⟨bw,bM,dw,bH,b5,df,eB,jZ,kM,kN,mB,n5,qL,l8⟩:=L;obtain⟨n6,n7⟩:=hm;rcases dc (t<D c5) with az|b2
 ·have d1:decide ((t:Int)<(D c5:Int))=true:=cT;have bG:=ec (i:=t) (by omega);obtain⟨⟨aq,c2,c3,c4⟩,M⟩:∃c,c5[t]?=some c:=⟨_,bq az⟩;have iG:=fP _ (dn M);dsimp only at iG;have xD:=amr M;simp only[go_sem,go_sem_proc] at xD;have gm:c5.take (t+1)=c5.take t++[(aq,c2,c3,c4)]:=by rw[gB,M];rfl
  rcases q:decide (c2>=0)
  ·have zZ:c2<0:=by have:=of_decide_eq_false q;omega
   have u5:(bA n λj=>B j+cF (c5.take (t+1)) (gZ j))=bA n λj=>B j+cF (c5.take t) (gZ j):=iC λj _=>by
    rw[gm,SM];unfold gZ;rw[ag (by dsimp only;omega)];omega
   refine ak ?_;repeat' (intro h<;>simp only[h,go_sem,go_sem_proc,bw,bM,dw,bH,b5,df,eB,jZ,kM,kN,mB,n5,qL,l8,tL,jv,n6,n7,xD,d1,bG,q,bR,dY]<;>try refine ai ?_ ?_)
   refine⟨t+1,by omega,by omega,rfl,by rw[u5],by repeat first|exact bD|refine dJ.eb ?_ (by decide)⟩
  ·have zZ:0<=c2:=of_decide_eq_true q;obtain⟨i,rfl⟩:∃t:Nat,c2=(t:Int):=⟨c2.toNat,by omega⟩
   have cI:i<n:=by omega
   have lv:=kp t i;have e5:=kp (t+1) i;rw[gm,SM] at e5;have Gc:gZ i (aq,(i:Int),c3,c4)=c4:=by unfold gZ;rw[ad rfl]
   rw[Gc] at e5;have Bz:IntKind.i64.wrap (B i+cF (c5.take t) (gZ i)+c4)=B i+cF (c5.take t) (gZ i)+c4:=by rw[fh _]
   have u5:(bA n λj=>B j+cF (c5.take (t+1)) (gZ j))=bA n λj=>if j=i then B i+cF (c5.take t) (gZ i)+c4 else B j+cF (c5.take t) (gZ j):=iC λj _=>by
    rw[gm,SM]
    by_cases aA:j=i
    ·rw[ad aA,aA,Gc];omega
    ·rw[ag aA];have:gZ j (aq,(i:Int),c3,c4)=0:=by unfold gZ;rw[ag (by dsimp only;omega)]
     rw[this];omega
   have t1:=acW cI λj=>B j+cF (c5.take t) (gZ j);have t2:=acX n λj=>B j+cF (c5.take t) (gZ j);have t3:=acV cI (λj=>B j+cF (c5.take t) (gZ j)) (B i+cF (c5.take t) (gZ i)+c4);rw[<-u5] at t3;have ed:i+1<=n:=by omega
   generalize aD:(bA n λj=>B j+cF (c5.take t) (gZ j)).map dR=bU at *;generalize rS:(bA n λj=>B j+cF (c5.take (t+1)) (gZ j)).map dR=qu at *;generalize B i+cF (c5.take t) (gZ i)=S1 at *;refine ak ?_;repeat' (intro h<;>simp only[h,go_sem,go_sem_proc,bw,bM,dw,bH,b5,df,eB,jZ,kM,kN,mB,n5,qL,l8,tL,jv,n6,n7,xD,d1,bG,q,Bz,t1,t2,t3,cI,ed,bR,dY]<;>try refine ai ?_ ?_)
   refine⟨t+1,by omega,by omega,rfl,by rw[rS],by repeat first|exact bD|refine dJ.eb ?_ (by decide)⟩
 ·have d1:decide ((t:Int)<(D c5:Int))=false:=cl;rw[dp (by omega)] at jv;refine ak ?_;repeat' (intro h<;>simp only[h,go_sem,go_sem_proc,bw,bM,dw,bH,b5,df,eB,jZ,kM,kN,mB,n5,qL,l8,tL,d1]<;>try refine ai ?_ ?_)
  refine cZ _ _ ?_ ?_ ?_ ?_ ?_ ?_ ?_ ?_ ?_ ?_ ?_ ?_ jv n6 n7 bD<;>simp only[dk,cp,if_false,bw,bM,dw,bH,b5,df,eB,jZ,kM,kN,mB,n5]
theorem amW (cs:List aG)(f:Nat->Nat)(i k t:Nat):kL cs f i k t=kL cs f i k 0++(dE cs i k).take t:=by
 unfold kL;simp
theorem aB1 (T:bl){K:eI->bo->Prop}{kk:List fJ}(en:Mem)(E:List Int)(cs:List aG)(f:Nat->Nat)(U:fV E cs)(NB:cs=dX (D E) cs)(aC:∀i,i<(D E)->f i<=10)(i:Nat)(Q:i<D E)(x:oJ)(M:x.dO)(fv:∀k,k<10->x.dI[k]?=some (dE cs i k))(B:Nat->Int)(kp:∀j,0<=B j/\B j<=1000000000000000)(eE g:Nat)(vb:eE/1000≠248)(p4:en eE=some (g,fW x))(v0 v4 v6 sE A1 v30 Jo Jp:R)(bE:Nat)(Jq Jr:Option (Nat×List R))(tm:Nat->R)(m:Mem)
  (bw:tm 0=v0) (bM:tm 4=v4) (dw:tm 5=.ref 248029 bE 1 0 (D E)) (bH:tm 6=v6) (b5:tm 7=sE) (df:tm 8=A1) (eB:tm 9=.ptr eE g 0) (jZ:tm 30=v30) (kM:tm 31=Jo) (kN:tm 32=Jp) (mB:tm 50=.I (.int .i64 (f i))) (n5:tm 51=.I (.int .i64 0))
  (jv:m 248029=some (bE,(bA (D E) λj=>B j+cF (kL cs f i 0 0) (gZ j)).map dR)) (n6:m 248094=Jq) (n7:m 248098=Jr) (bD:dJ 248 en m)
  (cZ:∀tm' m',tm' 0=v0->tm' 4=v4->tm' 5=.ref 248029 bE 1 0 (D E)->tm' 6=v6->tm' 7=sE->tm' 8=A1->tm' 9=.ptr eE g 0->tm' 30=v30->tm' 31=Jo->tm' 32=Jp->m' 248029=some (bE,(bA (D E) λj=>B j+cF (kL cs f (i+1) 0 0) (gZ j)).map dR)->m' 248094=Jq->m' 248098=Jr->dJ 248 en m'->cd T K kk (.exit 2) ⟨tm',m'⟩) :
  wp T (v3.body.sub [1,1,1,1,1,0,1,0,0,0,0,1,1,0,0,1,1,0,1,0]) (cd T K kk) ⟨tm,m⟩:=by
 simp only[v3,er.sub];have sD:=aC i Q;have aM:=U.hE;refine cU [0,4,5,6,7,8,9,30,31,32,50] [248094,248098] (λ(k:Nat) tm m=>k<=f i/\tm 51=.I (.int .i64 k)/\m 248029=some (bE,(bA (D E) λj=>B j+cF (kL cs f i k 0) (gZ j)).map dR)/\dJ 248 en m) (λk=>f i-k) 0 (by refine⟨by omega,n5,jv,bD⟩) ?_;intro vs ms aJ aH;simp only[go_sem,go_sem_proc,bw,bM,dw,bH,b5,df,eB,jZ,kM,kN,mB,n6,n7] at aJ aH;subst aJ aH;clear bw bM dw bH b5 df eB jZ kM kN mB n5 jv n6 n7 bD tm m;rintro k tm m L hm ⟨k9,n5,jv,bD⟩;simp only[go_sem,go_sem_proc,bk] at L hm;obtain⟨bw,bM,dw,bH,b5,df,eB,jZ,kM,kN,mB⟩:=L;obtain⟨n6,n7⟩:=hm;rcases dc (k<f i) with az|b2
 ·have d1:decide ((k:Int)<(f i:Int))=true:=cT;have bG:=ec (i:=k) (by omega);have ah:=(bD eE vb).trans p4;have hlen:=Dv M;have Dx:=ams (x:=x) (k:=k) (l:=dE cs i k) (fv k (by omega));have ed:k<10:=by omega
  have bh:(1+k+1<=24)=True:=eq_true (by omega);have amX:=amq (dE cs i k);simp only[go_sem,go_sem_proc] at amX;generalize fW x=DC at *;simp only[go_sem,go_sem_proc,eB,mB,n5,ah,hlen,Dx,d1,ed,bh,amX,dY];refine aB0 T en (D E) (by omega) (dE cs i k) (λj=>B j+cF (kL cs f i k 0) (gZ j)) (λt j=>?_) (λc H=>?_) ?_ v0 v4 v6 sE A1 (.ptr eE g 0) v30 Jo Jp (.I (.int .i64 (f i))) (.I (.int .i64 k)) bE Jq Jr _ _ ?_ ?_ ?_ ?_ ?_ ?_ ?_ ?_ ?_ ?_ ?_ ?_ ?_ ?_ ?_ jv n6 n7 bD ?_
  ·obtain⟨l,aw⟩:=amP cs f (n:=D E) (t:=t) Q az;have G:=amS U NB aC j aw;rw[amW,MA] at G;have J:=kp j;omega
  ·have:=(il.1 U.right).2.2.2 c (FR.1 H).1;omega
  ·have G:=pc (λc:aG=>c.1==(i:Int)&&c.2.2.1==(k:Int)) cs;have J:=U.qF;unfold dE;omega
  all_goals first|(intro tm' m' ev gQ h2 fj iy jq kv SN SO SP Ms aB2 wM SQ SR yb)|(simp only[dk,cp,if_false,if_true,bw,bM,dw,bH,b5,df,eB,jZ,kM,kN,mB,n5])
  have hd:(bA (D E) λj=>B j+cF (kL cs f i k 0) (gZ j)+cF (dE cs i k) (gZ j))=bA (D E) λj=>B j+cF (kL cs f i (k+1) 0) (gZ j):=iC λj _=>by
   rw[<-aBY,amW cs f i k (dE cs i k).length,nQ,MA];omega
  rw[hd] at wM;refine ak ?_;repeat' (intro h<;>simp only[h,go_sem,go_sem_proc,ev,gQ,h2,fj,iy,jq,kv,SN,SO,SP,Ms,aB2,SQ,SR,bG]<;>try refine ai ?_ ?_)
  refine⟨k+1,by omega,by omega,rfl,wM,yb⟩
 ·have d1:decide ((k:Int)<(f i:Int))=false:=cl;obtain rfl:k=f i:=by omega
  rw[aBZ] at jv;refine ak ?_;repeat' (intro h<;>simp only[h,go_sem,go_sem_proc,bw,bM,dw,bH,b5,df,eB,jZ,kM,kN,mB,n5,d1]<;>try refine ai ?_ ?_)
  refine cZ _ _ ?_ ?_ ?_ ?_ ?_ ?_ ?_ ?_ ?_ ?_ jv n6 n7 bD<;>simp only[dk,cp,if_false,bw,bM,dw,bH,b5,df,eB,jZ,kM,kN]
structure SS (a:dy) (mem:Mem):Prop where
 at_:a.e6 mem
 hK:ld 248 mem
 iw:ld 255 mem
 n1:ld 256 mem
 Jm:a.Jl
 la:rC (ao a.E a.cs) (bb a.aI) (dL a.P)
open Classical in
theorem amY (P:Nat->Prop)(n:Nat):dm P (n+1)=dm P n++(if P n then [n] else []):=by
 unfold dm;rw[pZ,sw]
 by_cases h:P n
 ·rw[ad h,rB (by simpa using h),qE]
 ·rw[ag h,tC (by simpa using h),qE]
theorem amZ (P:Nat->Prop)(n:Nat):(dm P n).length<=n:=by
 unfold dm;exact e4 (pc _ _) (by rw[r1];exact cH _)
def dy.W (a:dy)(k i:Nat):Rat:=(ao a.E a.cs).W (bb a.aI) k i
theorem am0 (n:Nat)(W:Nat->Nat->Rat)(k:Nat):(tJ n W k).length=1:=rfl
theorem aB3 (n:Nat)(W:Nat->Nat->Rat)(k:Nat):((tJ n W k).map R.I).all R.one=true:=rfl
def oK (a:dy)(i j:Nat):Int:=(if j<i then a.E.getD j 0 else 0)+cF (kL a.cs (bb a.aI) i 0 0) (gZ j)
theorem aB4 (T:bl)(acY:T Px=qG SE){K:eI->bo->Prop}{kk:List fJ}(a:dy)(en:Mem)(aW:SS a en)(v0 v4 v30:R)(bE sF lL:Nat)(tm:Nat->R)(m:Mem)
  (bw:tm 0=v0) (bM:tm 4=.I (.int .i64 (D a.E))) (dw:tm 5=.ref 248029 bE 1 0 (D a.E)) (bH:tm 6=.ref 248094 sF 1 0 0) (b5:tm 7=.ref 248098 lL 1 0 0) (jZ:tm 30=.ref 228023 a.g 1 0 (D a.E)) (kM:tm 31=.I (.int .i64 (D a.E))) (kN:tm 32=.I (.int .i64 0))
  (jv:m 248029=some (bE,(bA (D a.E) λj=>oK a 0 j).map dR)) (n6:m 248094=some (sF,[])) (n7:m 248098=some (lL,[])) (bD:dJ 248 en m)
  (cZ:∀tm' m' am1 am2,tm' 0=v0->tm' 4=.I (.int .i64 (D a.E))->tm' 5=.ref 248029 bE 1 0 (D a.E)->tm' 6=.ref 248094 am1 1 0 (D a.p)->tm' 7=.ref 248098 am2 1 0 (D a.p)->m' 248029=some (bE,(bA (D a.E) λj=>oK a (D a.E) j).map dR)->m' 248094=some (am1,aV hj a.p)->m' 248098=some (am2,aV (tJ (D a.E) a.W) a.p)->dJ 248 en m'->cd T K kk (.exit 0) ⟨tm',m'⟩) :
  wp T (v3.body.sub [1,1,1,1,1,0,1,0,0,0]) (cd T K kk) ⟨tm,m⟩:=by
 have aLN:=aW;obtain⟨bY,hK,iw,n1,BA,im⟩:=aW;have qy:=λi=>dy.Ny bY BA (i:=i);obtain⟨U,dS⟩:=BA;have aM:=U.hE;simp only[v3,er.sub];refine cU [0,4,5,30,31] [] (λ((i,sF,lL):Nat×Nat×Nat) tm m=>i<=D a.E/\tm 32=.I (.int .i64 i)/\tm 6=.ref 248094 sF 1 0 (dm (dL a.P) i).length/\tm 7=.ref 248098 lL 1 0 (dm (dL a.P) i).length/\m 248029=some (bE,(bA (D a.E) λj=>oK a i j).map dR)/\m 248094=some (sF,aV hj (dm (dL a.P) i))/\m 248098=some (lL,aV (tJ (D a.E) a.W) (dm (dL a.P) i))/\dJ 248 en m) (λ(i,_)=>D a.E-i) (0,sF,lL) (by refine⟨by omega,kN,bH,b5,jv,n6,n7,bD⟩) ?_;intro vs ms aJ aH;simp only[go_sem,go_sem_proc,bw,bM,dw,jZ,kM] at aJ aH;subst aJ aH;clear bw bM dw bH b5 jZ kM kN jv n6 n7 bD tm m;rintro⟨i,sF,lL⟩ tm m L-⟨cI,kN,bH,b5,jv,n6,n7,bD⟩;simp only[go_sem,go_sem_proc,bk] at L;obtain⟨bw,bM,dw,jZ,kM⟩:=L;rcases dc (i<D a.E) with Q|b2
 ·have d1:decide ((i:Int)<(D a.E:Int))=true:=cT;have bG:=ec (i:=i) (by omega);obtain⟨sD,tI⟩:=qy i Q;have gd:=(bD.at 228023 (by omega)).trans bY.row;have s8:=bY.eo i Q;have gh:=(bD.at (228500+i) (by omega)).trans s8;have j7:=wK (jf (λi=>R.ptr (228500+i) (a.gs.getD i 0) 0) Q);have cm:(bA (D a.E) λi=>R.ptr (228500+i) (a.gs.getD i 0) 0).length=D a.E:=fZ _ _;have cM:=a.x9 i;have hlen:=Dv cM;have qK:=Nv cM;have yc:=amu cM;have am3:=aAY (x:=a.gR i);rw[show (a.gR i).f=(bb a.aI i:Int) from sD] at qK;rw[show (a.gR i).p=a.P.getD i false from rfl] at yc;rw[show (a.gR i).E=a.E.getD i 0 from rfl] at am3;have abZ:=U.E i;have jA:=amP a.cs (bb a.aI) (n:=D a.E) (i:=i) (k:=0) (t:=0) Q
  have aLO:0<=cF (kL a.cs (bb a.aI) i 0 0) (gZ i)/\cF (kL a.cs (bb a.aI) i 0 0) (gZ i)<=1000000536870912:=by
   have:∃l,tK a.cs (bb a.aI) (D a.E)=kL a.cs (bb a.aI) i 0 0++l:=by
    obtain⟨r,Y⟩:∃r,D a.E=i+r:=⟨D a.E-i,by omega⟩
    refine⟨((eN r).map (i+·)).flatMap λi=>(eN (bb a.aI i)).flatMap λk=>dE a.cs i k,?_⟩;rw[amO];unfold tK;rw[Y,amR,xZ]
   obtain⟨l,aw⟩:=this;exact amS U bY.can (λi Q=>(qy i Q).2) i aw
  have abm:oK a i i=cF (kL a.cs (bb a.aI) i 0 0) (gZ i):=by unfold oK;rw[ag (by omega)];omega
  have aB5:IntKind.i64.wrap (oK a i i+a.E.getD i 0)=oK a i i+a.E.getD i 0:=by rw[fh _]
  have t1:=acW Q λj=>oK a i j;have t2:=acX (D a.E) λj=>oK a i j;have t3:=acV Q (λj=>oK a i j) (oK a i i+a.E.getD i 0)
  have Gd:(bA (D a.E) λj=>if j=i then oK a i i+a.E.getD i 0 else oK a i j)=bA (D a.E) λj=>(if j<i+1 then a.E.getD j 0 else 0)+cF (kL a.cs (bb a.aI) i 0 0) (gZ j):=iC λj _=>by
   by_cases aA:j=i
   ·rw[ad aA,aA,ad (by omega),abm];omega
   ·rw[ag aA];unfold oK
    by_cases vu:j<i
    ·rw[ad vu,ad (by omega)]
    ·rw[ag vu,ag (by omega)]
  rw[Gd] at t3;have ed:i+1<=D a.E:=by omega
  have vb:(228500+i)/1000≠248:=by omega
  generalize pj:228500+i=eE at *;have aB6:(eE=248029)=False:=eq_false (by omega);have aLP:(eE==248029)=false:=beq_eq_false_iff_ne.2 (by omega);have aLQ:(248029==eE)=false:=beq_eq_false_iff_ne.2 (by omega);have aLR:fW (a.gR i)=fW (a.gR i):=rfl;generalize hc:(bA (D a.E) λj=>oK a i j).map dR=bU at *;generalize acZ:(bA (D a.E) λj=>(if j<i+1 then a.E.getD j 0 else 0)+cF (kL a.cs (bb a.aI) i 0 0) (gZ j)).map dR=qu at *;generalize Js:(bA (D a.E) λi=>R.ptr (228500+i) (a.gs.getD i 0) 0)=ya at *;generalize NC:fW (a.gR i)=DC at *;simp only[go_sem,go_sem_proc,dw,jZ,kM,kN,gd,gh,j7,cm,hlen,qK,am3,jv,t1,t2,t3,aB5,d1,Q,ed,aB6,dR,dY];refine aB1 T en a.E a.cs (bb a.aI) U bY.can (λi Q=>(qy i Q).2) i Q (a.gR i) cM (λk L=>jf _ L) (λj=>if j<i+1 then a.E.getD j 0 else 0) (λj=>?_) eE (a.gs.getD i 0) vb (by rw[NC];exact s8) v0 (.I (.int .i64 (D a.E))) (.ref 248094 sF 1 0 (dm (dL a.P) i).length) (.ref 248098 lL 1 0 (dm (dL a.P) i).length) (.I (.int .i64 i)) (.ref 228023 a.g 1 0 (D a.E)) (.I (.int .i64 (D a.E))) (.I (.int .i64 i)) bE (some (sF,aV hj (dm (dL a.P) i))) (some (lL,aV (tJ (D a.E) a.W) (dm (dL a.P) i))) _ _ ?_ ?_ ?_ ?_ ?_ ?_ ?_ ?_ ?_ ?_ ?_ ?_ ?_ ?_ ?_ (bD.eb (by decide)) ?_
  ·have:=U.E j
   split<;>omega
  all_goals first|(intro tm' m' ev gQ h2 fj iy jq kv SN SO SP wM SQ SR yb)|(simp only[dk,cp,if_false,if_true,bw,bM,dw,bH,b5,jZ,kM,kN])|(simp only[a9,cp,if_false,if_true,n6,n7])|skip
  ·rw[<-acZ]
  have hd:(bA (D a.E) λj=>(if j<i+1 then a.E.getD j 0 else 0)+cF (kL a.cs (bb a.aI) (i+1) 0 0) (gZ j))=bA (D a.E) λj=>oK a (i+1) j:=rfl;rw[hd] at wM;have e5:=(yb eE vb).trans s8;have pl:=amZ (dL a.P) i;rcases q:a.P.getD i false
  ·have gO:dm (dL a.P) (i+1)=dm (dL a.P) i:=by
    rw[amY,ag (by unfold dL;rw[q];decide),gS]
   rw[q] at yc;refine ak ?_;repeat' (intro h<;>simp only[h,go_sem,go_sem_proc,ev,gQ,h2,fj,iy,jq,kv,SN,SO,SP,SQ,SR,e5,hlen,yc,bG,h5,dY]<;>try refine ai ?_ ?_)
   exact⟨(i+1,sF,lL),by dsimp only;omega,by dsimp only;omega,rfl,by rw[gO],by rw[gO],wM,by rw[gO],by rw[gO],yb⟩
  ·have fi:dL a.P i:=q
   have gO:dm (dL a.P) (i+1)=dm (dL a.P) i++[i]:=by
    rw[amY,ad fi]
   have aB7:bb a.aI i<10:=by
    obtain⟨G,g,J,af⟩:=im;exact (af.ez i fi).2
   have pC:=aBo a i m' ⟨bY.aK yb (by decide) aM,iw.aK yb (by decide),⟨U,dS⟩,Q,aB7,im.pW i fi⟩;rw[pj] at pC;have aB8:SD (a,i)=.c1 [.X ((cK (D a.E) (a.W i)).map ar),.bool true]:=rfl;rw[aB8] at pC;have am4:=jm uT acx 248094 sF 8 (dm (dL a.P) i) i (cs:=[.I (.int .i64 i)]) rfl (by omega) (by omega);have am5:=jm (am0 (D a.E) a.W) (aB3 (D a.E) a.W) 248098 lL 24 (dm (dL a.P) i) i (cs:=[.I (.X ((cK (D a.E) (a.W i)).map ar))]) rfl (by omega) (by omega);have bJ:(dm (dL a.P) (i+1)).length=(dm (dL a.P) i).length+1:=by rw[gO,fX];rfl
   rw[<-gO] at am4 am5;rw[q] at yc;generalize (cK (D a.E) (a.W i)).map ar=V at *;refine ak ?_;repeat' (intro h<;>simp only[h,go_sem,go_sem_proc,acY,ev,gQ,h2,fj,iy,jq,kv,SN,SO,SP,SQ,SR,e5,hlen,yc,pC,am4,am5,bG,h5,dY,cw]<;>try refine ai ?_ ?_)
   exact⟨(i+1,sF+1,lL+1),by dsimp only;omega,by dsimp only;omega,rfl,by rw[bJ],by rw[bJ],wM,rfl,rfl,by repeat first|exact yb|refine dJ.eb ?_ (by decide)⟩
 ·have d1:decide ((i:Int)<(D a.E:Int))=false:=cl;obtain rfl:i=D a.E:=by omega
  refine ak ?_;repeat' (intro h<;>simp only[h,go_sem,go_sem_proc,bw,bM,dw,bH,b5,jZ,kM,kN,d1]<;>try refine ai ?_ ?_)
  refine cZ _ _ sF lL ?_ ?_ ?_ ?_ ?_ jv n6 n7 bD<;>simp only[dk,cp,if_false,bw,bM,dw,bH,b5,dy.p]
theorem aB9 (T:bl)(rl:T xa=aQ y3)(pN:T yP=aQ AR){K:eI->bo->Prop}{kk:List fJ}(en:Mem)(n:Nat)(p:List Nat)(aF:(D p)<=60)(W:Nat->Nat->Rat)(bu:Nat->Rat)(i:Nat)(Q:i<n)(m9:Rat)(a3:∀t,t<=(D p)->eA 440 (m9+cJ t λk=>W (p.getD k 0) i*bu k))(dK:∀k,k<(D p)->eA 440 (W (p.getD k 0) i*bu k)/\eA 30 (W (p.getD k 0) i)/\eA 295 (bu k))(am6 am7 am8 am9:R)(bE:Nat)(ana:Option (Nat×List R))(tm:Nat->R)(m:Mem)
  (bH:tm 6=.I (.X (p.map hj))) (b5:tm 7=.I (.X (p.map (tJ n W)))) (kj:tm 15=.I (.X ((cK (D p) bu).map ar))) (o7:tm 17=am6) (C6:tm 18=.I (.int .i64 i)) (po:tm 20=.ptr 248020 bE 0) (zE:tm 110=am7) (zF:tm 111=am8) (rm:tm 112=am9) (ND:tm 120=.I (.int .i64 (D p))) (NF:tm 121=.I (.int .i64 0))
  (Jt:m 248020=some (bE,(ar (al m9)).map .I)) (NG:m 248156=ana) (bD:dJ 248 en m)
  (cZ:∀tm' m',tm' 6=.I (.X (p.map hj))->tm' 7=.I (.X (p.map (tJ n W)))->tm' 15=.I (.X ((cK (D p) bu).map ar))->tm' 17=am6->tm' 20=.ptr 248020 bE 0->tm' 110=am7->tm' 111=am8->tm' 112=am9->m' 248020=some (bE,(ar (al (m9+cJ (D p) λk=>W (p.getD k 0) i*bu k))).map .I)->m' 248156=ana->dJ 248 en m'->cd T K kk (.exit 8) ⟨tm',m'⟩) :
  wp T (v3.body.sub [1,1,1,1,1,1,1,1,1,0,1,0,0,0,1,1,0,0,1,1,0,1,0]) (cd T K kk) ⟨tm,m⟩:=by
 simp only[v3,er.sub]
 refine cU [6,7,15,17,18,20,110,111,112,120] [248156] (λ(k:Nat) tm m=>k<=D p/\tm 121=.I (.int .i64 k)/\m 248020=some (bE,(ar (al (m9+cJ k λk=>W (p.getD k 0) i*bu k))).map .I)/\dJ 248 en m) (λk=>D p-k) 0 (by
  refine⟨by omega,NF,?_,bD⟩
  rw[Jt,cJ,iX]) ?_
 intro vs ms aJ aH;simp only[go_sem,go_sem_proc,bH,b5,kj,o7,C6,po,zE,zF,rm,ND,NG] at aJ aH;subst aJ aH;clear bH b5 kj o7 C6 po zE zF rm ND NF Jt NG bD tm m;rintro k tm m L hm ⟨k9,NF,Jt,bD⟩;simp only[go_sem,go_sem_proc,bk] at L hm;obtain⟨bH,b5,kj,o7,C6,po,zE,zF,rm,ND⟩:=L;rcases dc (k<D p) with az|b2
 ·have d1:decide ((k:Int)<(D p:Int))=true:=cT;have bG:=ec (i:=k) (by omega);obtain⟨wL,M⟩:∃c,p[k]?=some c:=⟨_,bq az⟩;have C4:p.getD k 0=wL:=by rw[ep,M];rfl
  obtain⟨k5,k6,pf⟩:=dK k az;have ac0:=a3 k (by omega);rw[C4] at k5 k6;have hmul:=alz (iY k6 (by omega)) (iY pf (by omega)) (MH k6 pf (by omega));have hN:=aly (iY ac0 (by omega)) (iY k5 (by omega)) (zq ac0 k5 (by omega))
  have U:(m9+cJ (k+1) λk=>W (p.getD k 0) i*bu k)=m9+cJ k (λk=>W (p.getD k 0) i*bu k)+W wL i*bu k:=by
   rw[cJ,C4];grind
  have bz:=pY (W wL) Q;have aCa:=pY bu az;rw[<-U] at hN;clear ac0 k5 k6 pf dK a3 U cZ;generalize al (m9+cJ k λk=>W (p.getD k 0) i*bu k)=F1 at *;generalize aCb:al (m9+cJ (k+1) λk=>W (p.getD k 0) i*bu k)=F2 at *;generalize al (W wL i*bu k)=F3 at *;generalize al (W wL i)=F4 at *;generalize al (bu k)=F5 at *;obtain⟨⟨cE,cO⟩,⟨ei,eS⟩⟩:=F1;obtain⟨⟨c0,ee⟩,⟨gz,gW⟩⟩:=F2;obtain⟨⟨f1,f2⟩,⟨f3,f4⟩⟩:=F3;obtain⟨⟨cQ,dd⟩,⟨iK,mz⟩⟩:=F4;obtain⟨⟨cB,dA⟩,⟨ek,gQ⟩⟩:=F5;simp only[ar,ey,cC] at hmul hN Jt;refine ak ?_;repeat' (intro h<;>simp only[h,go_sem,go_sem_proc,rl,pN,bH,b5,kj,o7,C6,po,zE,zF,rm,ND,NF,Jt,hm,d1,bG,M,tJ,bz,aCa,hmul,hN,ar,aE,bj,bne,beq_self_eq_true,cw]<;>try refine ai ?_ ?_)
  refine⟨k+1,by omega,by omega,rfl,by rw[aCb],by repeat first|exact bD|refine dJ.eb ?_ (by decide)⟩
 ·have d1:decide ((k:Int)<(D p:Int))=false:=cl;obtain rfl:k=D p:=by omega
  refine ak ?_;repeat' (intro h<;>simp only[h,go_sem,go_sem_proc,bH,b5,kj,o7,C6,po,zE,zF,rm,ND,NF,d1]<;>try refine ai ?_ ?_)
  refine cZ _ _ ?_ ?_ ?_ ?_ ?_ ?_ ?_ ?_ Jt hm bD<;>simp only[dk,cp,if_false,bH,b5,kj,o7,po,zE,zF,rm]
def SU (a:dy):Data:=.c1 [.X ((cK (D a.E) ((ao a.E a.cs).e0 (bb a.aI) (dL a.P))).map ar),.bool true]
def ac1:List R->Mem->Option Data:=zv (λ(a:dy) args mem=>args=[.ref 228023 a.g 1 0 (D a.E)]/\SS a mem) SU
theorem aCc (a:dy)(mem:Mem)(h:SS a mem):ac1 [.ref 228023 a.g 1 0 (D a.E)] mem=some (SU a):=by
 refine Ja (a:=a) ?_ ⟨rfl,h⟩;rintro a b args mem ⟨av,aB⟩ ⟨bp,bM⟩;rw[dy.uniq aB.at_ bM.at_]
theorem anb (l:List Int):l.map dR=aV ae l:=by
 unfold aV
 induction l with
 |nil=>rfl
 |cons a l aN=>rw[ey,ey,j1,js,<-aN];rfl
theorem anc (n:Nat):(et n [R.I (.int .i64 0)]).flatten=(bA n λ_=>(0:Int)).map dR:=by
 induction n with
 |zero=>rfl
 |succ n aN=>rw[Nk,List.flatten_append,aN];simp[bA,pZ,dR]
theorem aCd (T:bl)(iE:T ou=aQ u3)(acY:T Px=qG SE)(aCe:T Vu=qG SK)(rl:T xa=aQ y3)(pN:T yP=aQ AR)(a:dy)(mem:Mem)(aW:SS a mem):
  wp T v3.body (pQ v3.res λm mem'=>dz 6 emp m=some (SU a)/\dJ 248 mem mem') ⟨lk [.ref 228023 a.g 1 0 (D a.E)],mem⟩:=by
 have bY:=aW.at_;have U:=aW.Jm.tF;have im:=aW.la;have aM:=U.hE;have Bb:(8*D a.E<=140737488355328)=True:=eq_true (by omega);have tt:(D a.E<=maxLen)=True:=eq_true (by unfold maxLen;omega);have ane:mem 248094=none:=aW.hK 248094 (by decide);have anf:mem 248098=none:=aW.hK 248098 (by decide);have Q2:mem 248029=none:=aW.hK 248029 (by decide);have a3:=anc (D a.E)
 have sS:(bA (D a.E) λj=>oK a 0 j)=bA (D a.E) λ_=>(0:Int):=iC λj _=>by
  unfold oK;rw[ag (by omega),aBX];rfl
 refine sV ?_;simp only[v3];simp only[go_sem,go_sem_proc,Bb,tt,ane,anf,Q2,a3];refine aB4 T acY a mem aW (.ref 228023 a.g 1 0 (D a.E)) (.ref 228023 a.g 1 0 (D a.E)) (.ref 228023 a.g 1 0 (D a.E)) 0 0 0 _ _ ?_ ?_ ?_ ?_ ?_ ?_ ?_ ?_ ?_ ?_ ?_ ((((dJ.refl _ _).eb (by decide)).eb (by decide)).eb (by decide)) ?_
 all_goals first|(intro tm m sF lL ev gQ h2 fj iy jv n6 n7 bD)|(simp only[dk,cp,if_false,if_true];done)|(simp only[dk,cp,if_false];rfl)|(simp only[a9,cp,if_false,if_true,sS])|skip
 have dF:(bA (D a.E) λj=>oK a (D a.E) j)=bA (D a.E) λi=>lb a.E a.cs (bb a.aI) i:=iC λj aA=>by
  unfold oK;rw[ad aA,amO,amN bY.can λi Q=>(dy.Ny bY aW.Jm Q).2]
 rw[dF,anb] at jv;have fK:∀jx,dJ 248 mem jx->SK [.ref 228023 a.g 1 0 (D a.E),.I (.X ((bA (D a.E) λi=>lb a.E a.cs (bb a.aI) i).map ae)),.I (.X (a.p.map hj)),.I (.X (a.p.map (tJ (D a.E) a.W)))] jx=some (.c1 [.X (a.xs.map ar),.bool true]):=λjx h=>aBD a jx ⟨bY.aK h (by decide) aM,aW.n1.aK h (by decide),aW.Jm,im⟩;have ang:(bA (D a.E) λi=>lb a.E a.cs (bb a.aI) i).length=D a.E:=fZ _ _;have aCf:∀i,i<(D a.E)->(bA (D a.E) λi=>lb a.E a.cs (bb a.aI) i)[i]?=some (lb a.E a.cs (bb a.aI) i):=λi Q=>jf _ Q;generalize aLS:(bA (D a.E) λi=>lb a.E a.cs (bb a.aI) i)=ST at *;have ac2:=λ(K:bo->Prop) (st:bo)=>oW (K:=K) (st:=st) jD 5 248029 0 ST;rw[ang] at ac2;have anh:=λ(K:bo->Prop) (st:bo)=>oW (K:=K) (st:=st) uT 6 248094 sF a.p;have ani:=λ(K:bo->Prop) (st:bo)=>oW (K:=K) (st:=st) (am0 (D a.E) a.W) 7 248098 lL a.p;have anj:=λcQ dd iK aq c2 c3=>fK (a9 (a9 (a9 m 248029 cQ aq) 248094 dd c2) 248098 iK c3) (((bD.eb (by decide)).eb (by decide)).eb (by decide));simp only[go_sem,go_sem_proc,aCe,ev,h2,fj,iy,jv,n6,n7,ac2,anh,ani,anj,ang,aE,cw];have ia:(D a.p)<=D a.E:=amZ _ _;have gO:=λi (Q:i<D a.E) t (ca:t<=D a.p)=>azg U im Q ca;have ac3:=λi (Q:i<D a.E)=>im.good.akR (d:=ao a.E a.cs) Q;have Ge:dm (dL a.P) (ao a.E a.cs).n=a.p:=rfl;have aCg:dm (dL a.P) (D a.E)=a.p:=rfl;have qb:a.xs=cK (D a.p) λk=>(ao a.E a.cs).e0 (bb a.aI) (dL a.P) (a.p.getD k 0)-(ao a.E a.cs).bI (a.p.getD k 0) (bb a.aI (a.p.getD k 0)):=rfl;rw[Ge] at ac3;rw[aCg] at gO;rw[qb];generalize ku:(λk=>(ao a.E a.cs).e0 (bb a.aI) (dL a.P) (a.p.getD k 0)-(ao a.E a.cs).bI (a.p.getD k 0) (bb a.aI (a.p.getD k 0)))=bu at *;have A0:∀k,(ao a.E a.cs).e0 (bb a.aI) (dL a.P) (a.p.getD k 0)-(ao a.E a.cs).bI (a.p.getD k 0) (bb a.aI (a.p.getD k 0))=bu k:=λk=>congrFun ku k;simp only[A0] at gO ac3;have zs:=λi=>FK U.right (bb a.aI) i;have ank:=λi=>U.steady (bb a.aI) i;clear ac2 anh ani fK anj qb ku A0 ev gQ h2 fj iy jv n6 n7 ane anf Q2 a3 sS Bb tt
 refine cU [6,7,15,110,111] [] (λ((i,g):Nat×Nat) tm jx=>i<=D a.E/\tm 112=.I (.int .i64 i)/\tm 17=.ref 248156 g 4 0 i/\jx 248156=some (g,aV ar (cK i ((ao a.E a.cs).e0 (bb a.aI) (dL a.P))))/\dJ 248 mem jx) (λ(i,_)=>D a.E-i) (0,fN (m 248156)) (by
  refine⟨by omega,rfl,rfl,by simp[a9];rfl,by repeat first|exact bD|refine dJ.eb ?_ (by decide)⟩) ?_
 intro vs ms aJ aH;simp only[go_sem,go_sem_proc] at aJ aH;subst aJ aH;clear bD m tm;rintro⟨i,g⟩ tm m L-⟨cI,rm,o7,NG,bD⟩;simp only[go_sem,go_sem_proc,bk] at L;obtain⟨bH,b5,kj,zE,zF⟩:=L;rcases dc (i<D a.E) with Q|b2
 ·have d1:decide ((i:Int)<(D a.E:Int))=true:=cT;have bG:=ec (i:=i) (by omega);have aCh:=aCf i Q;have hw:=Bn _ (iB (z:=lb a.E a.cs (bb a.aI) i) (by have:=ank i;omega) (by have:=ank i;omega));rw[zs] at hw;have ac4:=gO i Q;have aCi:=ac3 i Q;generalize pM:(ao a.E a.cs).st (bb a.aI) i=m9 at *;generalize gF:al m9=jW at *;obtain⟨⟨lz,mW⟩,⟨tv,tw⟩⟩:=jW;simp only[ar] at hw;simp only[go_sem,go_sem_proc,iE,bH,zE,zF,rm,d1,aCh,hw,ae,aE,bj];refine aB9 T rl pN mem (D a.E) a.p (by omega) a.W bu i Q m9 (λt ca=>(ac4 t ca).1) (λk L=>⟨(ac4 0 (by omega)).2.1 k L,(abl U im (Dh L).2 i).1,(ac4 0 (by omega)).2.2 k L⟩) (.ref 248156 g 4 0 i) (.I (.X (ST.map ae))) (.I (.int .i64 (D a.E))) (.I (.int .i64 i)) (fN (m 248020)) (some (g,aV ar (cK i ((ao a.E a.cs).e0 (bb a.aI) (dL a.P))))) _ _ ?_ ?_ ?_ ?_ ?_ ?_ ?_ ?_ ?_ ?_ ?_ ?_ ?_ ((bD.eb (by decide)).eb (by decide)) ?_
  all_goals first|(intro tm' m' fj iy ac5 aCj acU aCk aCl Zo ac6 aCm yb)|(simp only[dk,cp,if_false,if_true,bH,b5,kj,o7,zE,zF,rm];done)|(simp only[a9,cp,if_false,if_true,NG];done)|(simp only[a9,if_true];rw[gF];rfl)
  have aCn:m9+(cJ (D a.p) λk=>a.W (a.p.getD k 0) i*bu k)=(ao a.E a.cs).e0 (bb a.aI) (dL a.P) i:=aCi.symm;rw[aCn] at ac6;have aJ:=acR i ((ao a.E a.cs).e0 (bb a.aI) (dL a.P));have cm:(cK i ((ao a.E a.cs).e0 (bb a.aI) (dL a.P))).length=i:=nX _ _;have dv:=λ(aR:a7) cs jj=>jm iT v5 248156 g 64 (cK i ((ao a.E a.cs).e0 (bb a.aI) (dL a.P))) aR (cs:=cs) jj (by omega) (by omega);simp only[cm] at dv;generalize cK i ((ao a.E a.cs).e0 (bb a.aI) (dL a.P))=V at *;generalize mu:cK (i+1) ((ao a.E a.cs).e0 (bb a.aI) (dL a.P))=V2 at *;generalize al ((ao a.E a.cs).e0 (bb a.aI) (dL a.P) i)=aR at *;obtain⟨⟨cE,cO⟩,⟨ei,eS⟩⟩:=aR;have kI:=dv ((cE,cO),(ei,eS)) _ rfl;rw[<-aJ] at kI;simp only[ar,ey,cC] at kI ac6;refine ak ?_;repeat' (intro (ay:_=_)<;>simp only[ay,go_sem,go_sem_proc,fj,iy,ac5,aCj,acU,aCk,aCl,Zo,ac6,aCm,kI,bG]<;>try refine ai ?_ ?_)
  exact⟨(i+1,g+1),by dsimp only;omega,by dsimp only;omega,rfl,rfl,by rw[<-mu],by repeat first|exact yb|refine dJ.eb ?_ (by decide)⟩
 ·have d1:decide ((i:Int)<(D a.E:Int))=false:=cl;obtain rfl:i=D a.E:=by omega
  have iH:(cK (D a.E) ((ao a.E a.cs).e0 (bb a.aI) (dL a.P))).length=D a.E:=nX _ _;have ke:=λ(K:bo->Prop) (st:bo)=>oW (K:=K) (st:=st) iT 17 248156 g (cK (D a.E) ((ao a.E a.cs).e0 (bb a.aI) (dL a.P)));rw[iH] at ke;refine ak ?_;repeat' (intro (ay:_=_)<;>simp only[ay,go_sem,go_sem_proc,bH,b5,kj,o7,zE,zF,rm,NG,d1,ke]<;>try refine ai ?_ ?_)
  exact⟨_,rfl,rfl,by repeat first|exact bD|refine dJ.eb ?_ (by decide)|refine dJ.kill ?_ (by decide)⟩
def dy.hS (a:dy)(p:Nat->Bool):dy:={ a with P:=fB (D a.E) p }
theorem dy.SV (a:dy)(p:Nat->Bool){i:Nat}(Q:i<D a.E):(a.hS p).gR i=(a.gR i).sp (p i):=by
 have:(fB (D a.E) p).getD i false=p i:=by rw[ep,Dp _ Q];rfl
 unfold dy.gR dy.hS oJ.sp;dsimp only;rw[this]
theorem dy.e6.anl {a:dy}{m:Mem}{p:Nat->Bool}(h:(a.hS p).e6 m){i:Nat}(Q:i<D a.E)(b:Bool):(a.hS λj=>if j=i then b else p j).e6 (a9 m (228500+i) (a.gs.getD i 0) (fW ((a.gR i).sp b))):=by
 refine⟨h.can,h.aI,sA _ _,h.Sv,?_,λj aA=>?_⟩
 ·have:=h.row;simp only[a9];rw[ag (show ¬ ((228023:Nat)=228500+i) by omega)];exact this
 ·rw[dy.SV a _ aA];simp only[a9]
  by_cases kW:j=i
  ·subst kW;rw[ad rfl,ad rfl]
   rfl
  ·rw[ag (show ¬ ((228500+j:Nat)=228500+i) by omega),ag kW];have:=h.eo j aA;rw[dy.SV a _ aA] at this;exact this
theorem dy.aCo {a:dy}(h:(D a.P)=D a.E):a.hS (λj=>a.P.getD j false)=a:=by
 have:fB (D a.E) (λj=>a.P.getD j false)=a.P:=by
  refine Nw (d:=false) (sA _ _) h λj aA=>?_;rw[ep,Dp _ aA];rfl
 unfold dy.hS;rw[this]
theorem dy.Ju (a:dy){p q:Nat->Bool}(h:∀i,i<(D a.E)->p i=q i):a.hS p=a.hS q:=by
 unfold dy.hS;rw[FX h]
def yd (n:Nat)(mem m:Mem):Prop:=∀k,(∀i,i<n->k≠228500+i)->m k=mem k
theorem yd.eb {n i g:Nat}{cs:List R}{mem m:Mem}(h:yd n mem m)(Q:i<n):yd n mem (a9 m (228500+i) g cs):=λk L=>by
 simp only[a9];rw[ag (L i Q)];exact h k L
theorem yd.no {n j:Nat}{mem m:Mem}(h:yd n mem m)(aM:n<=5)(aA:j≠228)(hm:ld j mem):ld j m:=λk L=>by
 rw[h k λi Q=>by omega]
 exact hm k L
theorem aCp (T:bl)(iE:T ou=aQ u3)(kJ:T pF=aQ vY){K:eI->bo->Prop}{kk:List fJ}(en:Mem)(a:dy)(p:Nat->Bool)(BA:a.Jl)(h:Nat->Rat)(hP:∀i,i<(D a.E)->dx (h i))(tm:Nat->R)(m:Mem)
  (bY:(a.hS p).e6 m) (bD:yd (D a.E) en m) (bw:tm 0=.ref 228023 a.g 1 0 (D a.E)) (bH:tm 6=.I (.X ((cK (D a.E) h).map ar))) (df:tm 8=.I (.bool false)) (wJ:tm 28=.ref 228023 a.g 1 0 (D a.E)) (Dy:tm 29=.I (.int .i64 (D a.E))) (jZ:tm 30=.I (.int .i64 0))
  (cZ:∀tm' m',tm' 0=.ref 228023 a.g 1 0 (D a.E)->tm' 6=.I (.X ((cK (D a.E) h).map ar))->tm' 8=.I (.bool (u7 (ao a.E a.cs) (bb a.aI) h p (D a.E)))->(a.hS (hR (ao a.E a.cs) (bb a.aI) h p (D a.E))).e6 m'->yd (D a.E) en m'->cd T K kk (.exit 4) ⟨tm',m'⟩) :
  wp T (HY.body.sub [1,1,0,0,0,1,1,1,0,1,0]) (cd T K kk) ⟨tm,m⟩:=by
 simp only[HY,er.sub];obtain⟨U,dS⟩:=BA;have aM:=U.hE
 refine cU [0,6,28,29] [] (λ(i:Nat) tm m=>i<=D a.E/\tm 30=.I (.int .i64 i)/\tm 8=.I (.bool (u7 (ao a.E a.cs) (bb a.aI) h p i))/\(a.hS (hR (ao a.E a.cs) (bb a.aI) h p i)).e6 m/\yd (D a.E) en m) (λi=>D a.E-i) 0 (by
  refine⟨by omega,jZ,df,?_,bD⟩
  have:a.hS (hR (ao a.E a.cs) (bb a.aI) h p 0)=a.hS p:=a.Ju λj _=>by
   unfold hR;rw[cl,eR,qc]
  rw[this];exact bY) ?_
 intro vs ms aJ aH;simp only[go_sem,go_sem_proc,bw,bH,wJ,Dy] at aJ aH;subst aJ aH;clear bw bH df wJ Dy jZ bY bD tm m;rintro i tm m L-⟨Q,jZ,df,bY,bD⟩;simp only[go_sem,go_sem_proc,bk] at L;obtain⟨bw,bH,wJ,Dy⟩:=L;rcases dc (i<D a.E) with az|b2
 ·have d1:decide ((i:Int)<(D a.E:Int))=true:=cT;have bG:=ec (i:=i) (by omega);have sD:a.aI.getD i 10=(bb a.aI i:Int)/\bb a.aI i<=10:=dy.Ny (a:=a.hS (hR (ao a.E a.cs) (bb a.aI) h p i)) bY ⟨U,dS⟩ az;obtain⟨sD,tI⟩:=sD;have gd:m 228023=some (a.g,bA (D a.E) λi => .ptr (228500+i) (a.gs.getD i 0) 0):=bY.row;have gh:m (228500+i)=some (a.gs.getD i 0,fW ((a.hS (hR (ao a.E a.cs) (bb a.aI) h p i)).gR i)):=bY.eo i az;rw[dy.SV a _ az,Sh] at gh;have j7:=wK (jf (λi=>R.ptr (228500+i) (a.gs.getD i 0) 0) az);have cm:(bA (D a.E) λi=>R.ptr (228500+i) (a.gs.getD i 0) 0).length=D a.E:=fZ _ _;have cM:((a.gR i).sp (p i)).dO:=⟨(a.x9 i).dI,(a.x9 i).us⟩;have hlen:=Dv cM;have qK:hY 1 (iP 22 (fW ((a.gR i).sp (p i))))=[dR (bb a.aI i:Int)]:=(Nv cM).trans (congrArg (λx=>[dR x]) sD);have yc:hY 1 (iP 23 (fW ((a.gR i).sp (p i))))=[h5 (p i)]:=amu cM;have Bx:=Nu cM (k:=bb a.aI i) (z:=b4 a.cs i (bb a.aI i:Nat)) (jf _ (by omega));have e7:_=fW ((a.gR i).sp true):=amv cM true;have kF:=bY.anl az true;have aH:=alY (ao a.E a.cs) (bb a.aI) h p i
  have sO:(p i=true\/pg (ao a.E a.cs) (bb a.aI) h i=false)->a.hS (hR (ao a.E a.cs) (bb a.aI) h p (i+1))=a.hS (hR (ao a.E a.cs) (bb a.aI) h p i):=λaY=>a.Ju λj _=>by
   rw[ab9]
   by_cases aA:j=i
   ·subst aA;rw[ad rfl,Sh];rcases aY with G|G
    ·rw[G];rfl
    ·rw[G,qc]
   ·rw[ag aA]
  have ed:i+1<=D a.E:=by omega
  have aa:bb a.aI i<11:=by omega
  have bh:(11+bb a.aI i+1<=24)=True:=eq_true (by omega);have br:(23+1<=24)=True:=eq_true (by omega);generalize Js:(bA (D a.E) λi=>R.ptr (228500+i) (a.gs.getD i 0) 0)=ya at *;have pj:228500+i=228500+i:=rfl;generalize vb:228500+i=eE at *;generalize NC:fW ((a.gR i).sp (p i))=DC at *;rcases d2:decide ((bb a.aI i:Int)<10)
  ·have hV:pg (ao a.E a.cs) (bb a.aI) h i=false:=by
    unfold pg;rw[h7 (by have:=of_decide_eq_false d2;omega),eR]
   rw[hV,jB,qc] at aH;refine ak ?_;repeat' (intro (ay:_=_)<;>simp only[ay,go_sem,go_sem_proc,bw,bH,df,wJ,Dy,jZ,gd,gh,j7,cm,hlen,qK,d1,d2,bG,az,ed,dR,h5,dY]<;>try refine ai ?_ ?_)
   exact⟨i+1,by omega,by omega,rfl,by rw[aH],by rw[sO (.inr hV)];exact bY,bD⟩
  ·rcases oV:p i
   ·rw[oV] at yc;have ns:=U.upto i (bb a.aI i);have n2:dr (b4 a.cs i (bb a.aI i:Nat)):=iB (by omega) (by omega);have hw:=Bn _ n2;have k0:=I8 (hP i az) (oI n2);have hL:decide (jV (h i) ((b4 a.cs i (bb a.aI i:Nat):Int):Rat)>0)=decide (((b4 a.cs i (bb a.aI i:Nat):Int):Rat)<h i):=abV
    have b6:pg (ao a.E a.cs) (bb a.aI) h i=decide (((b4 a.cs i (bb a.aI i:Nat):Int):Rat)<h i):=by
     unfold pg;rw[pX U.right,jw (show bb a.aI i<10 by have:=of_decide_eq_true d2;omega),fD]
    rw[<-b6] at hL;have p0:=pY h az;generalize Jd:al (h i)=gf at *;generalize ku:al ((b4 a.cs i (bb a.aI i:Nat):Int):Rat)=bu at *;obtain⟨⟨c0,ee⟩,⟨gz,gW⟩⟩:=bu;obtain⟨⟨cE,cO⟩,⟨ei,eS⟩⟩:=gf;simp only[ar] at hw k0;rcases hV:pg (ao a.E a.cs) (bb a.aI) h i
    ·rw[hV] at hL;rw[oV,hV,jB,qc] at aH;refine ak ?_;repeat' (intro (ay:_=_)<;>simp only[ay,go_sem,go_sem_proc,iE,kJ,bw,bH,df,wJ,Dy,jZ,gd,gh,j7,cm,hlen,qK,yc,Bx,d1,d2,bG,az,ed,aa,bh,hw,k0,hL,p0,ar,dR,h5,dY,db,cw,aE,bj]<;>try refine ai ?_ ?_)
     exact⟨i+1,by omega,by omega,rfl,by rw[aH],by rw[sO (.inr hV)];exact bY,bD⟩
    ·rw[hV] at hL;rw[oV,hV,db,fD,Ag] at aH
     have hd:a.hS (hR (ao a.E a.cs) (bb a.aI) h p (i+1))=a.hS λj=>if j=i then true else hR (ao a.E a.cs) (bb a.aI) h p i j:=a.Ju λj _=>by
      rw[ab9,hV,Ag]
     rw[<-hd] at kF;have jN:=bD.eb (g:=a.gs.getD i 0) (cs:=fW ((a.gR i).sp true)) az;rw[vb] at jN;refine ak ?_;repeat' (intro (ay:_=_)<;>simp only[ay,go_sem,go_sem_proc,iE,kJ,bw,bH,df,wJ,Dy,jZ,gd,gh,j7,cm,hlen,qK,yc,Bx,e7,d1,d2,bG,az,ed,aa,bh,br,hw,k0,hL,p0,ar,dR,h5,dY,db,cw,aE,bj]<;>try refine ai ?_ ?_)
     exact⟨i+1,by omega,by omega,rfl,by rw[aH],kF,jN⟩
   ·rw[oV] at yc;rw[oV,cw,eR,qc] at aH;refine ak ?_;repeat' (intro (ay:_=_)<;>simp only[ay,go_sem,go_sem_proc,bw,bH,df,wJ,Dy,jZ,gd,gh,j7,cm,hlen,qK,yc,d1,d2,bG,az,ed,dR,h5,dY,cw]<;>try refine ai ?_ ?_)
    exact⟨i+1,by omega,by omega,rfl,by rw[aH],by rw[sO (.inl oV)];exact bY,bD⟩
 ·have d1:decide ((i:Int)<(D a.E:Int))=false:=cl;obtain rfl:i=D a.E:=by omega
  refine ak ?_;repeat' (intro (ay:_=_)<;>simp only[ay,go_sem,go_sem_proc,bw,bH,df,wJ,Dy,jZ,d1]<;>try refine ai ?_ ?_)
  refine cZ _ _ ?_ ?_ ?_ bY bD<;>simp only[dk,cp,if_false,bw,bH,df]
structure ac7 (a:dy) (mem:Mem):Prop where
 at_:a.e6 mem
 hK:ld 248 mem
 iw:ld 255 mem
 n1:ld 256 mem
 Jm:a.Jl
 inv:∃g,Inv (ao a.E a.cs) (bb a.aI) g
def SW (a:dy)(mem:Mem):R->Mem->Prop:=λm mem'=>m=.c1 [.I (.X ((cK (D a.E) ((ao a.E a.cs).top (bb a.aI))).map ar)),.I (.bool true)]/\∃p,(a.hS p).e6 mem'/\yd (D a.E) mem mem'
def NH:List R->Mem->Option (R->Mem->Prop):=ze (λ(a:dy) args mem=>args=[.ref 228023 a.g 1 0 (D a.E)]/\ac7 a mem) SW
theorem aCq (a:dy)(mem:Mem)(h:ac7 a mem):NH [.ref 228023 a.g 1 0 (D a.E)] mem=some (SW a mem):=by
 refine abW (a:=a) ?_ ⟨rfl,h⟩;rintro a b args mem ⟨av,aB⟩ ⟨bp,bM⟩;rw[dy.uniq aB.at_ bM.at_]
theorem aCr (T:bl)(aCs:T Vr=qG ac1)(iE:T ou=aQ u3)(kJ:T pF=aQ vY)(a:dy)(mem:Mem)(aW:ac7 a mem):
  wp T HY.body (pQ HY.res (SW a mem)) ⟨lk [.ref 228023 a.g 1 0 (D a.E)],mem⟩:=by
 obtain⟨anm,hK,iw,n1,BA,hy,hinv⟩:=aW;have U:=BA.tF;have aM:=U.hE;have ab:=U.ok;refine sV ?_;simp only[HY];simp only[go_sem,go_sem_proc]
 refine cU [0,11,12] [] (λ(i:Nat) tm m=>i<=D a.E/\tm 13=.I (.int .i64 i)/\(a.hS λj=>if j<i then false else a.P.getD j false).e6 m/\yd (D a.E) mem m) (λi=>D a.E-i) 0 (by
  refine⟨by omega,rfl,?_,λ_ _=>rfl⟩
  have:(a.hS λj=>if j<0 then false else a.P.getD j false)=a:=(a.Ju λj _=>by rw[ag (by omega)]).trans (dy.aCo anm.pl);rw[this];exact anm) ?_
 intro vs ms aJ aH;simp only[go_sem,go_sem_proc] at aJ aH;subst aJ aH;rintro i tm m L-⟨Q,gu,bY,bD⟩;simp only[go_sem,go_sem_proc,bk] at L;obtain⟨bw,iW,fo⟩:=L;rcases dc (i<D a.E) with az|b2
 ·have d1:decide ((i:Int)<(D a.E:Int))=true:=cT;have bG:=ec (i:=i) (by omega);have gd:m 228023=some (a.g,bA (D a.E) λi => .ptr (228500+i) (a.gs.getD i 0) 0):=bY.row;have gh:m (228500+i)=some (a.gs.getD i 0,_):=bY.eo i az;rw[dy.SV a _ az] at gh;have j7:=wK (jf (λi=>R.ptr (228500+i) (a.gs.getD i 0) 0) az);have cm:(bA (D a.E) λi=>R.ptr (228500+i) (a.gs.getD i 0) 0).length=D a.E:=fZ _ _;have cM:((a.gR i).sp (if i<i then false else a.P.getD i false)).dO:=⟨(a.x9 i).dI,(a.x9 i).us⟩;have hlen:=Dv cM;have e7:_=fW ((a.gR i).sp false):=amv cM false;have kF:=bY.anl az false;have jN:=bD.eb (g:=a.gs.getD i 0) (cs:=fW ((a.gR i).sp false)) az
  have hd:(a.hS λj=>if j<i+1 then false else a.P.getD j false)=a.hS λj=>if j=i then false else if j<i then false else a.P.getD j false:=a.Ju λj _=>by
   by_cases G:j=i
   ·rw[ad G,ad (by omega)]
   ·rw[ag G]
    by_cases J:j<i
    ·rw[ad J,ad (by omega)]
    ·rw[ag J,ag (by omega)]
  rw[<-hd] at kF;have ed:i+1<=D a.E:=by omega
  have br:(23+1<=24)=True:=eq_true (by omega);generalize Js:(bA (D a.E) λi=>R.ptr (228500+i) (a.gs.getD i 0) 0)=ya at *;generalize vb:228500+i=eE at *;generalize NC:fW ((a.gR i).sp (if i<i then false else a.P.getD i false))=DC at *;refine ak ?_;repeat' (intro (ay:_=_)<;>simp only[ay,go_sem,go_sem_proc,bw,iW,fo,gu,gd,gh,j7,cm,hlen,e7,d1,bG,az,ed,br,dR,h5,dY]<;>try refine ai ?_ ?_)
  exact⟨i+1,by omega,by omega,rfl,kF,jN⟩
 ·have d1:decide ((i:Int)<(D a.E:Int))=false:=cl;obtain rfl:i=D a.E:=by omega
  have hd:(a.hS λj=>if j<(D a.E) then false else a.P.getD j false)=a.hS λ_=>false:=a.Ju λj aA=>by rw[ad aA]
  rw[hd] at bY;simp only[go_sem,go_sem_proc,fo,gu,d1]
  refine cU [0] [] (λ(p:Nat->Bool) tm m=>(a.hS p).e6 m/\yd (D a.E) mem m/\rC (ao a.E a.cs) (bb a.aI) (dL (fB (D a.E) p))) (λp=>jL (D a.E) λi=>if p i then 0 else 1) (λ_=>false) (by
   refine⟨bY,bD,?_⟩;rw[al1];exact⟨ab,hy,hinv,iA.first ab hinv⟩) ?_
  intro vs ms aJ aH;simp only[go_sem,go_sem_proc,bw] at aJ aH;subst aJ aH;clear bw iW fo gu bD bY;rintro p tm m bw-⟨bY,bD,im⟩;simp only[go_sem,go_sem_proc,bk] at bw;have fK:=aCc (a.hS p) m ⟨bY,bD.no aM (by decide) hK,bD.no aM (by decide) iw,bD.no aM (by decide) n1,⟨BA.tF,BA.dS⟩,im⟩;have fP:SU (a.hS p)=.c1 [.X ((cK (D a.E) ((ao a.E a.cs).e0 (bb a.aI) (dL (fB (D a.E) p)))).map ar),.bool true]:=rfl;rw[fP,show (a.hS p).g=a.g from rfl,show (a.hS p).E=a.E from rfl] at fK;simp only[go_sem,go_sem_proc,aCs,bw,fK,cw];refine aCp T iE kJ m a p BA ((ao a.E a.cs).e0 (bb a.aI) (dL (fB (D a.E) p))) (λi Q=>iY (abk U im Q) (by omega)) _ _ bY (λ_ _=>rfl) ?_ ?_ ?_ ?_ ?_ ?_ ?_
  all_goals first|(intro x5 b7 ev fj jq z8 jN)|(simp only[dk,cp,if_false,if_true,bw];done)
  obtain⟨cM,cQ,oc,EL⟩:=im;rcases hm:u7 (ao a.E a.cs) (bb a.aI) ((ao a.E a.cs).e0 (bb a.aI) (dL (fB (D a.E) p))) p (D a.E)
  ·rw[hm] at jq;have PV:=EL.aa9 ab oc λi Q G J=>Nn.2 ⟨Q,al3 hm Q G J⟩;rw[wC (N:=D a.E) PV] at fj;refine ak ?_;repeat' (intro (ay:_=_)<;>simp only[ay,go_sem,go_sem_proc,ev,fj,jq,db]<;>try refine ai ?_ ?_)
   exact⟨_,rfl,rfl,_,z8,λk L=>(jN k L).trans (bD k L)⟩
  ·rw[hm] at jq;refine ak ?_;repeat' (intro (ay:_=_)<;>simp only[ay,go_sem,go_sem_proc,ev,fj,jq,cw]<;>try refine ai ?_ ?_)
   refine⟨_,al2 hm,z8,λk L=>(jN k L).trans (bD k L),?_⟩;have pO:=al0 (d:=ao a.E a.cs) (f:=bb a.aI) (h:=(ao a.E a.cs).e0 (bb a.aI) (dL (fB (D a.E) p))) (p:=p);have j8:(ao a.E a.cs).n=D a.E:=rfl;rw[j8] at pO;rw[pO];exact⟨ab,cQ,oc,EL.succ ab oc⟩
def h6 (c:Int)(q:Nat->R)(us:Nat->Int)(f:Int)(p:Bool):List R:=dR c::(bA 10 q++((bA 11 us).map dR++[dR f,h5 p]))
theorem SX (c:Int)(q:Nat->R)(us:Nat->Int)(f:Int)(p:Bool):(h6 c q us f p).length=24:=by
 simp[h6,fZ]
theorem ac8 {c:Int}{q:Nat->R}{us:Nat->Int}{f:Int}{p:Bool}{k:Nat}(L:k<10):(h6 c q us f p)[1+k]?=some (q k):=by
 unfold h6;rw[zP,NI,oe (by rw[fZ];exact L)];exact jf q L
theorem aCt {c:Int}{q:Nat->R}{us:Nat->Int}{f:Int}{p:Bool}{k:Nat}(L:k<10):hY 1 (iP (1+k) (h6 c q us f p))=[q k]:=wK (ac8 L)
theorem aCu {c:Int}{q:Nat->R}{us:Nat->Int}{f:Int}{p:Bool}{k:Nat}(L:k<11):hY 1 (iP (11+k) (h6 c q us f p))=[.I (.int .i64 (us k))]:=by
 refine wK ?_;unfold h6;rw[show 11+k=(10+k)+1 by omega,NI,nc (by rw[fZ];omega),fZ,oe (by rw[aE,fZ];omega),show 10+k-10=k by omega,bj,jf us L]
 rfl
theorem SY {l:List R}{k:Nat}{v:R}(L:k<D l):hY k l++[v]++iP (k+1) l=l.set k v:=by
 rw[Np,ad L];simp
theorem ac9 {c:Int}{q:Nat->R}{us:Nat->Int}{f:Int}{p:Bool}{k:Nat}(L:k<10)(v:R):(h6 c q us f p).set (1+k) v=h6 c (λj=>if j=k then v else q j) us f p:=by
 unfold h6;rw[zP,uP,ann _ _ (by rw[fZ];exact L),zA]
theorem aCv {c:Int}{q:Nat->R}{us:Nat->Int}{f:Int}{p:Bool}{k:Nat}(L:k<11)(v:Int):(h6 c q us f p).set (11+k) (.I (.int .i64 v))=h6 c q (λj=>if j=k then v else us j) f p:=by
 unfold h6;rw[show 11+k=(10+k)+1 by omega,uP,zf _ _ (by rw[fZ];omega),fZ,ann _ _ (by rw[aE,fZ];omega),show 10+k-10=k by omega,<-zA,wb]
 rfl
theorem BB {c:Int}{q uu:Nat->R}{us ano:Nat->Int}{f:Int}{p:Bool}(h:∀k,k<10->q k=uu k)(cW:∀k,k<11->us k=ano k):h6 c q us f p=h6 c uu ano f p:=by
 unfold h6;rw[iC h,iC cW]
theorem anp (T:bl){K:eI->bo->Prop}{kk:List fJ}(jl:Mem)(eE SZ sB:Nat)(c:Int)(q:Nat->R)(us:Nat->Int)(aq c2:Int)(r:Nat)(am:Int)(Y:r<10)(ah:∀j,0<=us j/\us j<=4000000000000000000)(xQ:0<=am/\am<=1000000000000000)(pj:eE≠228009)(anq anr ans ant:R)(tm:Nat->R)(m:Mem)
  (dw:tm 5=anq) (eB:tm 9=.ptr 228009 sB 0) (fq:tm 10=.ptr eE SZ 0) (iW:tm 11=.I (.int .i64 (r+1:Nat))) (mG:tm 25=anr) (pk:tm 26=ans) (pn:tm 27=ant) (Mo:jl 228009=some (sB,[.I (.int .i64 aq),.I (.int .i64 c2),.I (.int .i64 r),.I (.int .i64 am)])) (Jv:m eE=some (SZ,h6 c q us 10 false)) (bD:∀k,k≠eE->m k=jl k)
  (cZ:∀tm' m',tm' 5=anq->tm' 25=anr->tm' 26=ans->tm' 27=ant->m' eE=some (SZ,h6 c q (λj=>us j+if r<j then am else 0) 10 false)->(∀k,k≠eE->m' k=jl k)->cd T K kk (.exit 4) ⟨tm',m'⟩) :
  wp T (CO.body.sub [1,1,1,0,1,0,0,1,1,0,0,1,1,1,1,0]) (cd T K kk) ⟨tm,m⟩:=by
 simp only[CO,er.sub]
 refine cU [5,9,10,25,26,27] [] (λ(k:Nat) tm m=>r<k/\k<=11/\tm 11=.I (.int .i64 k)/\m eE=some (SZ,h6 c q (λj=>us j+if r<j/\j<k then am else 0) 10 false)/\∀k,k≠eE->m k=jl k) (λk=>11-k) (r+1) (by
  refine⟨by omega,by omega,iW,?_,bD⟩
  rw[Jv]
  congr 2
  exact BB (λ_ _=>rfl) λj _=>by rw[ag (by omega)];omega) ?_
 intro vs ms aJ aH;simp only[go_sem,go_sem_proc,dw,eB,fq,mG,pk,pn] at aJ aH;subst aJ aH;clear dw eB fq iW mG pk pn Jv bD tm m;rintro k tm m L-⟨kd,aLT,iW,Jv,bD⟩;simp only[go_sem,go_sem_proc,bk] at L;obtain⟨dw,eB,fq,mG,pk,pn⟩:=L;have aCw:=(bD 228009 (Ne.symm pj)).trans Mo;rcases dc (k<=10) with az|b2
 ·have d1:decide ((k:Int)<=10)=true:=cT;have bG:=ec (i:=k) (by omega);have hlen:=SX c q (λj=>us j+if r<j/\j<k then am else 0) 10 false;have bz:=aCu (c:=c) (q:=q) (us:=λj=>us j+if r<j/\j<k then am else 0) (f:=10) (p:=false) (k:=k) (by omega);have dF:=(SY (l:=h6 c q (λj=>us j+if r<j/\j<k then am else 0) 10 false) (k:=11+k) (v:=.I (.int .i64 (us k+am))) (by rw[SX];omega)).trans (aCv (by omega) (us k+am))
  have hd:h6 c q (λj=>if j=k then us k+am else us j+if r<j/\j<k then am else 0) 10 false=h6 c q (λj=>us j+if r<j/\j<k+1 then am else 0) 10 false:=BB (λ_ _=>rfl) λj _=>by
   by_cases aA:j=k
   ·rw[ad aA,aA,ad ⟨kd,by omega⟩]
   ·rw[ag aA]
    by_cases J:r<j/\j<k
    ·rw[ad J,ad ⟨J.1,by omega⟩]
    ·rw[ag J,ag (by omega)]
  rw[hd] at dF;rw[ag (by omega),ra] at bz;have Bz:IntKind.i64.wrap (us k+am)=us k+am:=by have:=ah k;rw[fh _]
  have aa:k<11:=by omega
  have bh:(11+k+1<=24)=True:=eq_true (by omega);have SH:(eE==228009)=false:=beq_eq_false_iff_ne.2 pj;have anu:(228009==eE)=false:=beq_eq_false_iff_ne.2 (Ne.symm pj);generalize h6 c q (λj=>us j+if r<j/\j<k then am else 0) 10 false=D1 at *;generalize rn:h6 c q (λj=>us j+if r<j/\j<k+1 then am else 0) 10 false=D2 at *;refine ak ?_;repeat' (intro h<;>simp only[h,go_sem,go_sem_proc,dw,eB,fq,iW,mG,pk,pn,aCw,Jv,d1,bG,hlen,bz,dF,Bz,aa,bh,SH,anu,dY]<;>try refine ai ?_ ?_)
  refine⟨k+1,by omega,by omega,by omega,rfl,by rw[rn],λj aA=>?_⟩
  simp only[aA,if_false];exact bD j aA
 ·have d1:decide ((k:Int)<=10)=false:=cl;obtain rfl:k=11:=by omega
  have hd:h6 c q (λj=>us j+if r<j/\j<11 then am else 0) 10 false=h6 c q (λj=>us j+if r<j then am else 0) 10 false:=BB (λ_ _=>rfl) λj aA=>by
   by_cases J:r<j
   ·rw[ad ⟨J,aA⟩,ad J]
   ·rw[ag (by omega),ag J]
  rw[hd] at Jv;refine ak ?_;repeat' (intro h<;>simp only[h,go_sem,go_sem_proc,dw,eB,fq,iW,mG,pk,pn,d1]<;>try refine ai ?_ ?_)
  refine cZ _ _ ?_ ?_ ?_ ?_ Jv bD<;>simp only[dk,cp,if_false,dw,mG,pk,pn]
def oL (l:List aG)(fk:Nat->Nat->Nat)(i k:Nat):R:=if dE l i k=[] then .nil else .ref (228600+10*i+k) (fk i k) 4 0 (dE l i k).length
structure zG (E:List Int) (l:List aG) (g:Nat) (gs:Nat->Nat) (fk:Nat->Nat->Nat) (m:Mem):Prop where
 row:m 228023=some (g,bA (D E) λi => .ptr (228500+i) (gs i) 0)
 eo:∀i,i<(D E)->m (228500+i)=some (gs i,h6 (E.getD i 0) (oL l fk i) (λk=>b4 l i (k:Nat)) 10 false)
 Gf:∀i k,i<(D E)->k<10->dE l i k≠[]->m (228600+10*i+k)=some (fk i k,aV bR (dE l i k))
theorem aCx (l:List aG)(c:aG)(i k:Nat):dE (l++[c]) i k=if c.1=(i:Int)/\c.2.2.1=(k:Int) then dE l i k++[c] else dE l i k:=by
 unfold dE;rw[sw]
 by_cases h:c.1=(i:Int)/\c.2.2.1=(k:Int)
 ·rw[ad h,rB (by simp[h.1,h.2]),qE]
 ·rw[ag h,tC (by simpa using h),qE,gS]
theorem NJ (l:List aG)(aq c2 c3 c4:Int)(i k:Nat):dE (l++[(aq,c2,c3,c4)]) i k=if aq=(i:Int)/\c3=(k:Int) then dE l i k++[(aq,c2,c3,c4)] else dE l i k:=aCx l _ i k
theorem aCy (l:List aG)(c:aG)(i r:Int):b4 (l++[c]) i r=b4 l i r+if c.1=i/\c.2.2.1<r then c.2.2.2 else 0:=by
 unfold b4;rw[SM]
theorem anv (l:List aG)(aq c2 c3 c4 i r:Int):b4 (l++[(aq,c2,c3,c4)]) i r=b4 l i r+if aq=i/\c3<r then c4 else 0:=aCy l _ i r
theorem zG.next {E:List Int}{l:List aG}{g:Nat}{gs:Nat->Nat}{fk:Nat->Nat->Nat}{m m':Mem}(h:zG E l g gs fk m)(aM:(D E)<=5){aq c3:Nat}{c2 c4:Int}(gb:aq<D E)(sa:c3<10)(rH:Nat)
  (gd:m' 228023=m 228023) (aCz:∀i,i<(D E)->i≠aq->m' (228500+i)=m (228500+i)) (gh:m' (228500+aq)=some (gs aq,h6 (E.getD aq 0) (λk=>if k=c3 then .ref (228600+10*aq+c3) rH 4 0 ((dE l aq c3).length+1) else oL l fk aq k) (λk=>b4 l aq (k:Nat)+if c3<k then c4 else 0) 10 false))
  (S0:m' (228600+10*aq+c3)=some (rH,aV bR (dE l aq c3++[((aq:Int),c2,(c3:Int),c4)]))) (aCA:∀i k,i<(D E)->k<10->¬ (i=aq/\k=c3)->m' (228600+10*i+k)=m (228600+10*i+k)):zG E (l++[((aq:Int),c2,(c3:Int),c4)]) g gs (λi k=>if i=aq/\k=c3 then rH else fk i k) m':=by
 refine⟨by rw[gd];exact h.row,λi Q=>?_,λi k Q L b6=>?_⟩
 ·by_cases hic:i=aq
  ·subst hic;rw[gh]
   congr 2
   refine BB (λk L=>?_) λk L=>?_
   ·unfold oL
    by_cases CT:k=c3
    ·subst CT;have av:dE (l++[((i:Int),c2,(k:Int),c4)]) i k=dE l i k++[((i:Int),c2,(k:Int),c4)]:=by rw[NJ,ad ⟨rfl,rfl⟩]
     rw[av,ad rfl,ag (by simp),fX];simp
    ·have av:dE (l++[((i:Int),c2,(c3:Int),c4)]) i k=dE l i k:=by rw[NJ,ag (by omega)]
     rw[ag CT,av];dsimp only;rw[ag (show ¬ (i=i/\k=c3) by omega)]
   ·rw[anv]
    by_cases ib:c3<k
    ·rw[ad ib,ad (by omega)]
    ·rw[ag ib,ag (by omega)]
  ·rw[aCz i Q hic,h.eo i Q]
   congr 2
   refine BB (λk L=>?_) λk L=>?_
   ·unfold oL;have av:dE (l++[((aq:Int),c2,(c3:Int),c4)]) i k=dE l i k:=by rw[NJ,ag (by omega)]
    rw[av];dsimp only;rw[ag (show ¬ (i=aq/\k=c3) by omega)]
   ·rw[anv,ag (by omega),ra]
 ·by_cases hic:i=aq/\k=c3
  ·obtain⟨rfl,rfl⟩:=hic;have av:dE (l++[((i:Int),c2,(k:Int),c4)]) i k=dE l i k++[((i:Int),c2,(k:Int),c4)]:=by rw[NJ,ad ⟨rfl,rfl⟩]
   rw[av,ad ⟨rfl,rfl⟩];exact S0
  ·have av:dE (l++[((aq:Int),c2,(c3:Int),c4)]) i k=dE l i k:=by rw[NJ,ag (by omega)]
   rw[av] at b6 ⊢;rw[ag hic,aCA i k Q L hic];exact h.Gf i k Q L b6
theorem ada {K:bo->Prop}{tm:Nat->R}{mem mem':Mem}(h:sL mem mem')(cZ:∀bn,bn=mem'->K ⟨tm,bn⟩):kn K ⟨tm,mem⟩ .many:=⟨mem',.step h (.refl _),cZ _ rfl⟩
theorem adb {K:bo->Prop}{tm:Nat->R}{mem:Mem}(cZ:∀bn,bn=mem->K ⟨tm,bn⟩):kn K ⟨tm,mem⟩ .many:=⟨mem,.refl _,cZ _ rfl⟩
theorem jg {m:Mem}{k g:Nat}{cs:List R}:a9 m k g cs k=some (g,cs):=by simp[a9]
theorem dg {m:Mem}{k j g:Nat}{cs:List R}(h:k≠j):a9 m j g cs k=m k:=by
 simp only[a9];rw[ag h]
theorem aCB (T:bl){K:eI->bo->Prop}{kk:List fJ}(en:Mem)(E:List Int)(cs:List aG)(U:fV E cs)(g:Nat)(gs:Nat->Nat)(fk:Nat->Nat->Nat)(tm:Nat->R)(m:Mem)
  (dw:tm 5=.ref 228023 g 1 0 (D E)) (mG:tm 25=.I (.X (cs.map bR))) (pk:tm 26=.I (.int .i64 (D cs))) (pn:tm 27=.I (.int .i64 0)) (bY:zG E [] g gs fk m) (bD:dJ 228 en m)
  (cZ:∀tm' m' aCC,tm' 5=.ref 228023 g 1 0 (D E)->zG E cs g gs aCC m'->dJ 228 en m'->cd T K kk (.exit 2) ⟨tm',m'⟩) :
  wp T (CO.body.sub [1,1,1,0,1,0]) (cd T K kk) ⟨tm,m⟩:=by
 simp only[CO,er.sub];have aM:=U.hE;have Y:=(il.1 U.right).2.2.2;have eP:=U.qF;refine cU [5,25,26] [] (λ((t,fk):Nat×(Nat->Nat->Nat)) tm m=>t<=D cs/\tm 27=.I (.int .i64 t)/\zG E (cs.take t) g gs fk m/\dJ 228 en m) (λ(t,_)=>D cs-t) (0,fk) (by refine⟨by omega,pn,by rw[mU];exact bY,bD⟩) ?_;intro vs ms aJ aH;simp only[go_sem,go_sem_proc,dw,mG,pk] at aJ aH;subst aJ aH;clear dw mG pk pn bY bD tm m;rintro⟨t,fk⟩ tm m L-⟨ca,pn,bY,bD⟩;simp only[go_sem,go_sem_proc,bk] at L;obtain⟨dw,mG,pk⟩:=L;rcases dc (t<D cs) with az|b2
 ·have d1:decide ((t:Int)<(D cs:Int))=true:=cT;have bG:=ec (i:=t) (by omega);obtain⟨⟨aq,c2,c3,c4⟩,M⟩:∃c,cs[t]?=some c:=⟨_,bq az⟩;have iG:=Y _ (dn M);dsimp only at iG;obtain⟨aq,rfl⟩:∃k:Nat,aq=(k:Int):=⟨aq.toNat,by omega⟩
  obtain⟨c3,rfl⟩:∃k:Nat,c3=(k:Int):=⟨c3.toNat,by omega⟩
  have gm:cs.take (t+1)=cs.take t++[((aq:Int),c2,(c3:Int),c4)]:=by rw[gB,M];rfl
  generalize aw:cs.take t=l at *;have tG:(D l)<=12:=by rw[<-aw,gv];omega
  have gb:aq<D E:=by omega
  have sa:c3<10:=by omega
  have gd:=bY.row;have gh:=bY.eo aq gb;have j7:=wK (jf (λi=>R.ptr (228500+i) (gs i) 0) gb);have cm:(bA (D E) λi=>R.ptr (228500+i) (gs i) 0).length=D E:=fZ _ _;have hlen:=SX (E.getD aq 0) (oL l fk aq) (λk=>b4 l aq (k:Nat)) 10 false;have Dx:=aCt (c:=E.getD aq 0) (q:=oL l fk aq) (us:=λk=>b4 l aq (k:Nat)) (f:=10) (p:=false) sa;have e7:=λv=>(SY (l:=h6 (E.getD aq 0) (oL l fk aq) (λk=>b4 l aq (k:Nat)) 10 false) (k:=1+c3) (v:=v) (by rw[SX];omega)).trans (ac9 sa v);have ed:aq+1<=D E:=by omega
  have bh:(1+c3+1<=24)=True:=eq_true (by omega);have w1:=ec (i:=c3) (by omega);generalize Js:(bA (D E) λi=>R.ptr (228500+i) (gs i) 0)=ya at *;generalize NC:h6 (E.getD aq 0) (oL l fk aq) (λk=>b4 l aq (k:Nat)) 10 false=DC at *;generalize vb:228500+aq=eE at *;have SG:(eE=228009)=False:=eq_false (by omega);have aCD:(eE=228048)=False:=eq_false (by omega);have SH:(eE==228009)=false:=beq_eq_false_iff_ne.2 (by omega);have anu:(228009==eE)=false:=beq_eq_false_iff_ne.2 (by omega);have aLU:(eE==228048)=false:=beq_eq_false_iff_ne.2 (by omega);have aLV:(228048==eE)=false:=beq_eq_false_iff_ne.2 (by omega);have p3:(1<=maxLen)=True:=eq_true (by decide);have aLW:=λj=>(zu U.right).upto aq j
  have EW:∀j:Nat,0<=b4 l aq (j:Nat)/\b4 l aq (j:Nat)<=4000000000000000000:=λj=>by
   have:=(zu U.right).sum (λc=>c.1=(aq:Int)/\c.2.2.1<(j:Int)) t;rw[aw] at this;unfold b4;omega
  generalize S2:228600+10*aq+c3=kO at *;have cE:(228009=eE)=False:=eq_false (by omega);have cO:(228009=kO)=False:=eq_false (by omega);have ei:(228048=kO)=False:=eq_false (by omega);have eS:(228048=eE)=False:=eq_false (by omega);have wG:(kO=eE)=False:=eq_false (by omega);have tE:(eE=kO)=False:=eq_false (by omega);have alE:(kO=228009)=False:=eq_false (by omega);have aLX:(kO=228048)=False:=eq_false (by omega);have aCE:(228009=228048)=False:=eq_false (by omega)
  have tail:∀(tm':Nat->R) (M2:Mem) (rH sB:Nat),tm' 5=.ref 228023 g 1 0 (D E)->tm' 25=.I (.X (cs.map bR))->tm' 26=.I (.int .i64 (D cs))->tm' 27=.I (.int .i64 t)->M2 eE=some (gs aq,h6 (E.getD aq 0) (λk=>if k=c3 then .ref kO rH 4 0 ((dE l aq c3).length+1) else oL l fk aq k) (λk=>b4 l aq (k:Nat)  + if c3<k then c4 else 0) 10 false)->M2 kO=some (rH,aV bR (dE l aq c3++[((aq:Int),c2,(c3:Int),c4)]))->(∀k:Nat,k≠228009->k≠228048->k≠eE->k≠kO->M2 k=m k)->zG E (cs.take (t+1)) g gs (λi k=>if i=aq/\k=c3 then rH else fk i k) M2/\dJ 228 en M2:=by
   intro tm' M2 rH sB h2 Jw Jx Jy Gg NK n8;rw[gm];refine⟨zG.next bY aM gb sa rH ?_ (λi Q b6=>?_) ?_ ?_ λi k Q L b6=>?_,λk L=>?_⟩
   ·exact n8 228023 (by omega) (by omega) (by omega) (by omega)
   ·exact n8 (228500+i) (by omega) (by omega) (by omega) (by omega)
   ·rw[vb,S2];exact Gg
   ·rw[S2];exact NK
   ·exact n8 (228600+10*i+k) (by omega) (by omega) (by omega) (by omega)
   ·rw[n8 k (by omega) (by omega) (by omega) (by omega)];exact bD k L
  by_cases iR:dE l aq c3=[]
  ·have fs:oL l fk aq c3=.nil:=by unfold oL;rw[ad iR]
   rw[fs] at Dx;simp only[go_sem,go_sem_proc,p3,dw,mG,pk,pn,M,gd,gh,j7,cm,hlen,Dx,e7,d1,ed,bh,gb,sa,SG,aCD,bR,dY,bj];refine ada (sL.Ou eE (gs aq) _ (1+c3) 228048 (fN (m 228048)) 4 0 1 _ kO jg (ac8 sa |>.trans (by rw[ad rfl])) ((dg (by omega)).trans jg) (by show (228048:Nat)≠eE;omega) (by show kO≠(228048:Nat);omega) (by show kO≠eE;omega)) ?_;intro M2 fp;rw[ac9 sa] at fp
   have NL:M2 228009=some (fN (m 228009),[.I (.int .i64 aq),.I (.int .i64 c2),.I (.int .i64 c3),.I (.int .i64 c4)]):=by
    rw[fp];simp only[B8,cE,cO,aCE,if_false,if_true]
   have Gg:∃rH,M2 eE=some (gs aq,h6 (E.getD aq 0) (λk=>if k=c3 then .ref kO rH 4 0 ((dE l aq c3).length+1) else oL l fk aq k) (λk=>b4 l aq (k:Nat)) 10 false)/\M2 kO=some (rH,aV bR (dE l aq c3++[((aq:Int),c2,(c3:Int),c4)])):=by
    rw[iR];apply Exists.intro;apply And.intro
    rotate_left
    ·rw[fp];simp only[B8,wG,if_false,if_true];rfl
    ·rw[fp];simp only[B8,if_true]
     congr 2
     refine BB (λk _=>?_) λ_ _=>rfl
     by_cases L:k=c3
     ·rw[ad L,ad L];rfl
     ·rw[ag L,ag L,ag L]
   obtain⟨rH,Gg,NK⟩:=Gg
   have n8:∀k:Nat,k≠228009->k≠228048->k≠eE->k≠kO->M2 k=m k:=λk G J af aT=>by
    rw[fp];simp only[B8,G,J,af,aT,if_false]
   clear fp;simp only[go_sem,go_sem_proc,NL,w1];refine anp T M2 eE (gs aq) (fN (m 228009)) (E.getD aq 0) (λk=>if k=c3 then .ref kO rH 4 0 ((dE l aq c3).length+1) else oL l fk aq k) (λk=>b4 l aq (k:Nat)) aq c2 c3 c4 sa EW (by omega) (by omega) (.ref 228023 g 1 0 (D E)) (.I (.X (cs.map bR))) (.I (.int .i64 (D cs))) (.I (.int .i64 t)) _ _ ?_ ?_ ?_ ?_ ?_ ?_ ?_ NL Gg (λ_ _=>rfl) ?_
   all_goals first|(intro tm' m' h2 Jw Jx Jy ade NM)|(simp only[dk,cp,if_false,if_true,dw,mG,pk,pn];done)
   have jc:=tail tm' m' rH 0 h2 Jw Jx Jy ade (by rw[NM kO (by omega)];exact NK) λk G J af aT=>by rw[NM k af];exact n8 k G J af aT
   refine ak ?_;repeat' (intro h<;>simp only[h,go_sem,go_sem_proc,h2,Jw,Jx,Jy,bG]<;>try refine ai ?_ ?_)
   exact⟨(t+1,λi k=>if i=aq/\k=c3 then rH else fk i k),by dsimp only;omega,by dsimp only;omega,rfl,jc.1,jc.2⟩
  ·have fs:oL l fk aq c3=.ref kO (fk aq c3) 4 0 (dE l aq c3).length:=by unfold oL;rw[ag iR,S2]
   rw[fs] at Dx;have S0:=bY.Gf aq c3 gb sa iR;rw[S2] at S0;have fv:(dE l aq c3).length<=12:=e4 (pc _ _) tG;have dv:=jm Dk RW kO (fk aq c3) 32 (dE l aq c3) ((aq:Int),c2,(c3:Int),c4) (cs:=[.I (.int .i64 aq),.I (.int .i64 c2),.I (.int .i64 c3),.I (.int .i64 c4)]) rfl (by omega) (by omega);have az2:(kO==228009)=false:=beq_eq_false_iff_ne.2 (by omega);have aCF:(228009==kO)=false:=beq_eq_false_iff_ne.2 (by omega);have aLY:(kO==eE)=false:=beq_eq_false_iff_ne.2 (by omega);have aLZ:(eE==kO)=false:=beq_eq_false_iff_ne.2 (by omega);simp only[go_sem,go_sem_proc,dw,mG,pk,pn,M,gd,gh,j7,cm,hlen,Dx,e7,d1,ed,bh,gb,sa,SG,tE,alE,aCF,S0,dv,bR,dY,bj];refine adb ?_;intro M2 fp
   have NL:M2 228009=some (fN (m 228009),[.I (.int .i64 aq),.I (.int .i64 c2),.I (.int .i64 c3),.I (.int .i64 c4)]):=by
    rw[fp];simp only[B8,cE,cO,if_false,if_true]
   have Gg:M2 eE=some (gs aq,h6 (E.getD aq 0) (λk=>if k=c3 then .ref kO (fk aq c3+1) 4 0 ((dE l aq c3).length+1) else oL l fk aq k) (λk=>b4 l aq (k:Nat)) 10 false):=by
    rw[fp];simp only[B8,if_true]
   have NK:M2 kO=some (fk aq c3+1,aV bR (dE l aq c3++[((aq:Int),c2,(c3:Int),c4)])):=by
    rw[fp];simp only[B8,wG,if_false,if_true]
   have n8:∀k:Nat,k≠228009->k≠228048->k≠eE->k≠kO->M2 k=m k:=λk G J af aT=>by
    rw[fp];simp only[B8,G,af,aT,if_false]
   clear fp;simp only[go_sem,go_sem_proc,NL,w1];refine anp T M2 eE (gs aq) (fN (m 228009)) (E.getD aq 0) (λk=>if k=c3 then .ref kO (fk aq c3+1) 4 0 ((dE l aq c3).length+1) else oL l fk aq k) (λk=>b4 l aq (k:Nat)) aq c2 c3 c4 sa EW (by omega) (by omega) (.ref 228023 g 1 0 (D E)) (.I (.X (cs.map bR))) (.I (.int .i64 (D cs))) (.I (.int .i64 t)) _ _ ?_ ?_ ?_ ?_ ?_ ?_ ?_ NL Gg (λ_ _=>rfl) ?_
   all_goals first|(intro tm' m' h2 Jw Jx Jy ade NM)|(simp only[dk,cp,if_false,if_true,dw,mG,pk,pn];done)
   have jc:=tail tm' m' (fk aq c3+1) 0 h2 Jw Jx Jy ade (by rw[NM kO (by omega)];exact NK) λk G J af aT=>by rw[NM k af];exact n8 k G J af aT
   refine ak ?_;repeat' (intro h<;>simp only[h,go_sem,go_sem_proc,h2,Jw,Jx,Jy,bG]<;>try refine ai ?_ ?_)
   exact⟨(t+1,λi k=>if i=aq/\k=c3 then fk aq c3+1 else fk i k),by dsimp only;omega,by dsimp only;omega,rfl,jc.1,jc.2⟩
 ·have d1:decide ((t:Int)<(D cs:Int))=false:=cl;rw[dp (by omega)] at bY;refine ak ?_;repeat' (intro h<;>simp only[h,go_sem,go_sem_proc,dw,mG,pk,pn,d1]<;>try refine ai ?_ ?_)
  refine cZ _ _ fk ?_ bY bD;simp only[dk,cp,if_false,dw]
theorem tR.trans {a b c:Mem}(h:tR a b)(cW:tR b c):tR a c:=by
 induction h with
 |refl=>exact cW
 |step G _ aN=>exact .step G (aN cW)
theorem anw {K:bo->Prop}{tm:Nat->R}{mem mem':Mem}(h:tR mem mem')(cZ:K ⟨tm,mem'⟩):kn K ⟨tm,mem⟩ .many:=⟨mem',h,cZ⟩
def wN (l:List aG)(fk:Nat->Nat->Nat)(d i k:Nat):R:=if 10*i+k<d then ki (dE l i k) else oL l fk i k
structure ye (E:List Int) (l:List aG) (g:Nat) (gs:Nat->Nat) (fk:Nat->Nat->Nat) (d:Nat) (m:Mem):Prop where
 row:m 228023=some (g,bA (D E) λi => .ptr (228500+i) (gs i) 0)
 eo:∀i,i<(D E)->m (228500+i)=some (gs i,h6 (E.getD i 0) (wN l fk d i) (λk=>b4 l i (k:Nat)) 10 false)
 Gf:∀i k,i<(D E)->k<10->d<=10*i+k->dE l i k≠[]->m (228600+10*i+k)=some (fk i k,aV bR (dE l i k))
theorem ye.step {E:List Int}{l:List aG}{g:Nat}{gs:Nat->Nat}{fk:Nat->Nat->Nat}{d:Nat}{m:Mem}(h:ye E l g gs fk d m)(aM:(D E)<=5)(ab:d<10*D E):∃m',tR m m'/\ye E l g gs fk (d+1) m'/\dJ 228 m m':=by
 obtain⟨i,k,Q,L,rfl⟩:∃i k,i<D E/\k<10/\d=10*i+k:=⟨d/10,d%10,by omega,by omega,by omega⟩
 have adf:∀j r,j<(D E)->r<10->¬ (j=i/\r=k)->wN l fk (10*i+k+1) j r=wN l fk (10*i+k) j r:=λj r aA Y b6=>by
  unfold wN
  by_cases G:10*j+r<10*i+k
  ·rw[ad G,ad (by omega)]
  ·rw[ag G,ag (by omega)]
 by_cases H:dE l i k=[]
 ·refine⟨m,.refl m,⟨h.row,λj aA=>?_,λj r aA Y ab b6=>h.Gf j r aA Y (by omega) b6⟩,dJ.refl _ _⟩;rw[h.eo j aA]
  congr 2
  refine BB (λr Y=>?_) λ_ _=>rfl
  by_cases MG:j=i/\r=k
  ·obtain⟨rfl,rfl⟩:=MG;unfold wN;rw[ag (by omega),ad (by omega)];unfold oL ki;rw[ad H,ad H]
  ·exact (adf j r aA Y MG).symm
 ·have ah:=h.eo i Q;have fv:=h.Gf i k Q L (cH _) H
  have EG:wN l fk (10*i+k) i k=.ref (228600+10*i+k) (fk i k) 4 0 (dE l i k).length:=by
   unfold wN;rw[ag (by omega)];unfold oL;rw[ag H]
  have mq:=ac8 (c:=E.getD i 0) (q:=wN l fk (10*i+k) i) (us:=λk=>b4 l i (k:Nat)) (f:=10) (p:=false) L;rw[EG] at mq;have vN:dz 1 m (.ref (228600+10*i+k) (fk i k) 4 0 (dE l i k).length)=some (.X ((dE l i k).map bR)):=jU (n:=0) Dk fv;refine⟨_,.step (sL.Ov (228500+i) (gs i) _ (1+k) (228600+10*i+k) (fk i k) 4 0 (dE l i k).length _ (.X ((dE l i k).map bR)) ah mq fv (by show (228600+10*i+k:Nat)≠228500+i;omega) vN) (.refl _),⟨?_,λj aA=>?_,λj r aA Y ab b6=>?_⟩,λx M=>?_⟩
  ·rw[dg (by show (228023:Nat)≠228500+i;omega)];unfold kill;rw[dg (by show (228023:Nat)≠228600+10*i+k;omega)];exact h.row
  ·by_cases kW:j=i
   ·subst kW;rw[jg,ac9 L]
    congr 2
    refine BB (λr Y=>?_) λ_ _=>rfl
    by_cases kd:r=k
    ·subst kd;rw[ad rfl];unfold wN;rw[ad (by omega)];unfold ki;rw[ag H]
    ·rw[ag kd];exact (adf j r aA Y (by omega)).symm
   ·rw[dg (by show (228500+j:Nat)≠228500+i;omega)];unfold kill;rw[dg (by show (228500+j:Nat)≠228600+10*i+k;omega),h.eo j aA]
    congr 2
    refine BB (λr Y=>(adf j r aA Y (by omega)).symm) λ_ _=>rfl
  ·rw[dg (by show (228600+10*j+r:Nat)≠228500+i;omega)];unfold kill;rw[dg (by show (228600+10*j+r:Nat)≠228600+10*i+k;omega)];exact h.Gf j r aA Y (by omega) b6
  ·have vv:x/1000≠228:=M;rw[dg (by show x≠228500+i;omega)];unfold kill;rw[dg (by show x≠228600+10*i+k;omega)]
theorem ye.all {E:List Int}{l:List aG}{g:Nat}{gs:Nat->Nat}{fk:Nat->Nat->Nat}(aM:(D E)<=5):∀r d m,d+r=10*(D E)->ye E l g gs fk d m->∃m',tR m m'/\ye E l g gs fk (10*D E) m'/\dJ 228 m m'
 |0,d,m,ab,h=>⟨m,.refl m,by rw[<-ab];exact h,dJ.refl _ _⟩
 |r+1,d,m,ab,h=>by
  obtain⟨ea,G,J,af⟩:=h.step aM (by omega);obtain⟨b7,cB,dA,ek⟩:=ye.all aM r (d+1) ea (by omega) J;exact⟨b7,G.trans cB,dA,λx M=>(ek x M).trans (af x M)⟩
theorem zG.aCG {E:List Int}{l:List aG}{g:Nat}{gs:Nat->Nat}{fk:Nat->Nat->Nat}{m:Mem}(h:zG E l g gs fk m):ye E l g gs fk 0 m :=
 ⟨h.row,λi Q=>by
  rw[h.eo i Q]
  congr 2,λi k Q L _ b6=>h.Gf i k Q L b6⟩
def zH (E:List Int)(cs:List aG)(g:Nat)(gs:Nat->Nat):dy:=⟨E,dX (D E) cs,bA (D E) λ_=>10,fB (D E) λ_=>false,g,bA (D E) gs⟩
theorem aCH {E:List Int}{cs:List aG}(h:fV E cs)(i r:Nat):b4 (dX (D E) cs) i r=b4 cs i r:=by
 have G:=pX h.right i r;have J:=pX (abN h).right i r;rw[<-(ale h.right).bI,<-G] at J;exact_mod_cast J
theorem BC {α:Type}{n i:Nat}(q:Nat->α)(d:α)(h:i<n):(bA n q).getD i d=q i:=by
 rw[ep,jf q h];rfl
theorem ye.at {E:List Int}{cs:List aG}(U:fV E cs){g:Nat}{gs:Nat->Nat}{fk:Nat->Nat->Nat}{m:Mem}(h:ye E cs g gs fk (10*D E) m):(zH E cs g gs).e6 m:=by
 refine⟨(azE _ _).symm,fZ _ _,sA _ _,fZ _ _,?_,λi Q=>?_⟩
 ·refine h.row.trans ?_
  congr 2
  exact iC λi Q=>by
   show R.ptr (228500+i) (gs i) 0=R.ptr (228500+i) ((bA (D E) gs).getD i 0) 0;rw[BC gs 0 Q]
 ·have lR:i<D E:=Q;refine (h.eo i lR).trans ?_;have av:(zH E cs g gs).gs.getD i 0=gs i:=BC gs 0 lR;rw[av]
  congr 2
  have aB:(bA (D E) λ_=>(10:Int)).getD i 10=10:=BC _ _ lR;have bp:(fB (D E) λ_=>false).getD i false=false:=by rw[ep,Dp _ lR];rfl
  have bM:fW ((zH E cs g gs).gR i)=dR (E.getD i 0)::((bA 10 λk=>dE (dX (D E) cs) i k).map ki++((bA 11 λk=>b4 (dX (D E) cs) i (k:Nat)).map dR++[dR ((bA (D E) λ_=>(10:Int)).getD i 10),h5 ((fB (D E) λ_=>false).getD i false)])):=rfl;rw[bM,aB,bp];unfold h6
  have dw:(bA 10 λk=>dE (dX (D E) cs) i k).map ki=bA 10 (wN cs fk (10*D E) i):=by
   unfold bA;rw[oj];refine oi λk L=>?_;have aiR:=iM.1 L;show ki (dE (dX (D E) cs) i k)=wN cs fk (10*D E) i k;rw[ala cs lR aiR];unfold wN;rw[ad (by omega)]
  have bH:(bA 11 λk=>b4 (dX (D E) cs) i (k:Nat))=bA 11 λk=>b4 cs i (k:Nat):=iC λk _=>aCH U i k;rw[dw,bH]
theorem adg {α:Type}(n:Nat)(q:Nat->α):bA (n+1) q=bA n q++[q n]:=by
 unfold bA;rw[pZ,js];rfl
structure adh (x:List Int×List aG) (mem:Mem):Prop where
 tF:fV x.1 x.2
 no:ld 228 mem
def adi (x:List Int×List aG)(mem:Mem):R->Mem->Prop:=λm mem'=>∃g gs,m=.ref 228023 g 1 0 x.1.length/\(zH x.1 x.2 g gs).e6 mem'/\dJ 228 mem mem'
def adj:List R->Mem->Option (R->Mem->Prop):=ze (λ(x:List Int×List aG) args mem=>args=[.I (.X (x.1.map ae)),.I (.X (x.2.map bR))]/\adh x mem) adi
theorem aCI (E:List Int)(cs:List aG)(mem:Mem)(h:adh (E,cs) mem):adj [.I (.X (E.map ae)),.I (.X (cs.map bR))] mem=some (adi (E,cs) mem):=by
 refine abW (a:=(E,cs)) ?_ ⟨rfl,h⟩;rintro⟨a,b⟩ ⟨c,d⟩ args mem ⟨av,aB⟩ ⟨bp,bM⟩;rw[av] at bp;simp only[bk,R.I.injEq,Data.X.injEq,and_true] at bp;obtain⟨G,J⟩:=bp;rw[map_inj gx _ _ G,map_inj sx _ _ J]
def anx (_:Nat):R:=.nil
def anz (_:Nat):Int:=0
theorem aCJ (T:bl)(E:List Int)(cs:List aG)(mem:Mem)(aW:adh (E,cs) mem):
  wp T CO.body (pQ CO.res (adi (E,cs) mem)) ⟨lk [.I (.X (E.map ae)),.I (.X (cs.map bR))],mem⟩:=by
 obtain⟨U,gw⟩:=aW;dsimp only at U;have aM:=U.hE;have aCK:mem 228023=none:=gw 228023 (by decide);refine sV ?_;simp only[CO];simp only[go_sem,go_sem_proc,aCK,aE]
 refine cU [1,12,13] [] (λ((i,g,gs):Nat×Nat×(Nat->Nat)) tm m=>i<=D E/\tm 14=.I (.int .i64 i)/\tm 5=.ref 228023 g 1 0 i/\m 228023=some (g,bA i λj => .ptr (228500+j) (gs j) 0)/\(∀j,j<i->m (228500+j)=some (gs j,h6 (E.getD j 0) anx anz 10 false))/\dJ 228 mem m) (λ(i,_)=>D E-i) (0,0,λ_=>0) (by
  refine⟨by omega,rfl,rfl,by simp[a9];rfl,λj aA=>by omega,(dJ.refl _ _).eb (by decide)⟩) ?_
 intro vs ms aJ aH;simp only[go_sem,go_sem_proc] at aJ aH;subst aJ aH;rintro⟨i,g,gs⟩ tm m L-⟨Q,qv,dw,gd,gh,bD⟩;simp only[go_sem,go_sem_proc,bk] at L;obtain⟨av,fo,gu⟩:=L;rcases dc (i<D E) with az|b2
 ·have d1:decide ((i:Int)<(D E:Int))=true:=cT;have bG:=ec (i:=i) (by omega);obtain⟨y,aj⟩:∃y,E[i]?=some y:=⟨_,bq az⟩;have AV:E.getD i 0=y:=by rw[ep,aj];rfl
  have cm:(bA i λj=>R.ptr (228500+j) (gs j) 0).length=i:=fZ _ _;have gm:hY i (bA i λj=>R.ptr (228500+j) (gs j) 0)=bA i λj=>R.ptr (228500+j) (gs j) 0:=dp (by omega);have ed:((i+1)*8<=140737488355328)=True:=eq_true (by omega);have aa:(i+1<=maxLen)=True:=eq_true (by unfold maxLen;omega);have bh:(i<=i)=True:=eq_true (cH _)
  have dv:kS 228023 g 1 i 8 1 [.ptr 228021 (fN (m 228021)) 0] (some (g,bA i λj=>R.ptr (228500+j) (gs j) 0))=some (.ref 228023 (g+1) 1 0 (i+1),some (228023,g+1,(bA i λj=>R.ptr (228500+j) (gs j) 0)++[.ptr 228021 (fN (m 228021)) 0])):=by
   unfold kS;dsimp only;rw[ad ⟨rfl,by rw[fZ];omega,by omega,by unfold maxLen;omega,rfl⟩,dY,gm]
  generalize Js:(bA i λj=>R.ptr (228500+j) (gs j) 0)=ya at *;simp only[go_sem,go_sem_proc,dw,fo,gu,qv,gd,aj,dv,d1,ae,dY,bj]
  have A2:(ya++[R.ptr 228021 (fN (m 228021)) 0])[i]?=some (.ptr 228021 (fN (m 228021)) 0):=by
   rw[nc (by omega),cm];simp
  have cE:(228021=228022)=False:=eq_false (by decide);refine ada (sL.aeo 228023 (g+1) _ i 228021 (fN (m 228021)) 0 _ (228500+i) jg A2 ((dg (by decide)).trans ((dg (by decide)).trans jg)) (by decide) (by show (228500+i:Nat)≠228021;omega) (by show (228500+i:Nat)≠228023;omega)) ?_;intro M2 fp
  have kF:∀p,(ya++[R.ptr 228021 (fN (m 228021)) 0]).set i p=ya++[p]:=λp=>by
   rw[zf _ _ (by omega),cm,Nat.sub_self];rfl
  rw[kF] at fp
  obtain⟨Jz,anA,aCL⟩:∃Jz,M2 228023=some (g+1,ya++[.ptr (228500+i) Jz 0])/\M2 (228500+i)=some (Jz,h6 y anx anz 10 false):=by
   apply Exists.intro;apply And.intro
   rotate_left
   ·rw[fp,dg (by show (228500+i:Nat)≠228023;omega),jg];rfl
   ·rw[fp,jg]
  have n8:∀k:Nat,k≠228021->k≠228022->k≠228023->k≠228500+i->M2 k=m k:=λk G J af aT=>by
   rw[fp,dg af,dg aT,dg G,dg af,dg J,dg G]
  clear fp
  have hd:ya++[R.ptr (228500+i) Jz 0]=bA (i+1) λj => .ptr (228500+j) (if j=i then Jz else gs j) 0:=by
   rw[adg,ad rfl,<-Js]
   congr 1
   exact iC λj aA=>by rw[ag (by omega)]
  rw[hd] at anA;refine ak ?_;repeat' (intro h<;>simp only[h,go_sem,go_sem_proc,av,fo,gu,qv,bG]<;>try refine ai ?_ ?_)
  refine⟨(i+1,g+1,λj=>if j=i then Jz else gs j),by dsimp only;omega,by dsimp only;omega,rfl,rfl,anA,λj aA=>?_,λk L=>?_⟩
  ·by_cases kW:j=i
   ·subst kW;dsimp only;rw[ad rfl,aCL,AV]
   ·dsimp only;rw[ag kW,n8 (228500+j) (by omega) (by omega) (by omega) (by omega)];exact gh j (by dsimp only at aA;omega)
  ·rw[n8 k (by omega) (by omega) (by omega) (by omega)];exact bD k L
 ·have d1:decide ((i:Int)<(D E:Int))=false:=cl;obtain rfl:i=D E:=by omega
  simp only[go_sem,go_sem_proc,av,gu,qv,d1,aE];refine aCB T mem E cs U g gs (λ_ _=>0) _ _ ?_ ?_ ?_ ?_ ⟨gd,λj aA=>?_,λj k aA L b6=>absurd rfl b6⟩ bD ?_
  all_goals first|(intro tm' m' fk h2 bY yb)|(simp only[dk,cp,if_false,if_true,dw];done)|skip
  ·rw[gh j aA]
   congr 2
  obtain⟨b7,G,J,af⟩:=ye.all aM (10*D E) 0 m' (by omega) bY.aCG;simp only[go_sem,go_sem_proc];refine anw G ?_;refine ak ?_;repeat' (intro h<;>simp only[h,go_sem,go_sem_proc,h2]<;>try refine ai ?_ ?_)
  exact⟨_,rfl,g,gs,rfl,J.at U,λk L=>(af k L).trans (yb k L)⟩
end Go.Mini
