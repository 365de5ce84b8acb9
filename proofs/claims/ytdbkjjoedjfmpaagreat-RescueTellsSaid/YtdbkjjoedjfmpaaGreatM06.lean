/- A part of the proof. -/
import Derived.Test.YtdbkjjoedjfmpaaGreatM05
set_option linter.unusedSimpArgs false
set_option linter.unusedVariables false
set_option maxRecDepth 100000
set_option maxHeartbeats 4000000
noncomputable section
open Bool renaming and_eq_true->gb,and_false->jB,and_true->sU,eq_iff_iff->ym,false_and->fr,not_eq_true'->vy,not_false->cp,not_true->bT,or_eq_true->zn,or_false->lA,or_true->pR,true_and->fP
open Decidable renaming em->dk
open Int renaming add_zero->k9,le_refl->alF,toNat_natCast->iY
open List renaming append_assoc->hd,append_inj->H0,append_nil->gD,drop->jn,drop_append->sV,drop_append_of_le_length->alX,drop_eq_nil_of_le->mA,drop_succ_cons->D4,ext_getElem?->pJ,filter_append->rE,filter_cons_of_neg->pv,filter_cons_of_pos->oK,filter_nil->pt,flatMap_append->yP,flatMap_cons->q6,flatMap_def->yQ,flatMap_nil->B0,flatten_cons->lZ,getD_eq_getElem?_getD->ez,getElem?_append_left->oZ,getElem?_append_right->nK,getElem?_cons_succ->amZ,getElem?_eq_getElem->bB,getElem?_eq_none->iD,getElem?_eq_some_iff->eg,getElem?_map->aW,getElem?_range->uV,getElem?_replicate->abZ,getElem?_set->mo,getElem_mem->nM,length->D,length_append->gj,length_drop->oi,length_filter_le->mO,length_map->ah,length_range->sW,length_replicate->yC,length_set->kd,length_take->fU,map->oD,map_append->kg,map_congr_left->pP,map_cons->eI,map_map->pQ,map_nil->b6,map_replicate->I7,map_set->w7,mem_cons_of_mem->h3,mem_cons_self->g0,mem_map->gE,mem_of_getElem?->dS,mem_range->jC,nil_append->ir,range->eY,range_add->ams,range_succ->sx,replicate->en,set_append_left->am0,set_append_right->z2,set_cons_succ->s9,set_cons_zero->kP,set_eq_take_append_cons_drop->N9,take->iu,take_add_one->g2,take_append_drop->CK,take_append_of_le_length->DB,take_length->kN,take_of_length_le->dH,take_zero->ma
open List.cons renaming inj->x8,injEq->bf
open Nat renaming add_comm->AA,le_refl->cI,le_trans->eP,lt_or_ge->hn,mul_one->cD,reduceEqDiff->cx,succ_mul->qq,zero_le->fA
open Option renaming bind_none->m5
open Option.some renaming inj->pL,injEq->cO
open Prod renaming ext->ei,ext_iff->H2
open Prod.mk renaming injEq->fJ
open Rat renaming add_zero->pr,den_intCast->ab3,le_refl->g8,num_intCast->ab2,zero_den->NJ,zero_num->NK
namespace Go.Mini
open Go
theorem alo (r:b9):((cM r).map R.I).all R.one=true:=rfl
theorem azt {aJ:List Int}(h:∀x∈aJ,0<=x/\x<=10){i:Nat}(U:i<D aJ):aJ.getD i 0=(a9 aJ i:Int):=by
 unfold a9;rw[ez,ez,bB U];have:=h _ (nM U);simp only[Option.getD_some];omega
theorem azu {E:List Int}{cs:List aB}{aJ:List Int}(X:g9 E cs=true)(az:(D aJ)=D E)(h:∀x∈aJ,0<=x/\x<=10)(i:Nat):Gu E cs aJ i=lR E cs (a9 aJ) i:=by
 unfold Gu lR
 congr 1
 refine Gg λc H=>?_;have:=(hB.1 X).2.2.2 c H;rw[azt h (by omega)]
theorem azv {N i:Nat}(U:i<N):(en N (aq ((0:Int):Rat))).set i (aq ((1:Int):Rat))=c8 N λj=>if i=j then 1 else 0:=by
 have:en N (aq ((0:Int):Rat))=c8 N λ_=>0:=Jv yC λk L=>by
  rw[abZ,ad L];rfl
 rw[this,abW];refine xi λk _=>?_
 by_cases h:k=i
 ·rw[ad h,ad h.symm];rfl
 ·rw[ag h,ag (Ne.symm h)]
def ab0:List R->Mem->Option Data:=Ag (λ(a:n0) args mem=>args=[.ptr 261029 a.g 0]/\SJ a mem) λa => .Y ((c8 (D a.E) ((ak a.E a.cs).e4 (a9 a.aJ) (dK a.P))).map aw)
theorem azw (a:n0)(mem:Mem)(h:SJ a mem):ab0 [.ptr 261029 a.g 0] mem=some (.Y ((c8 (D a.E) ((ak a.E a.cs).e4 (a9 a.aJ) (dK a.P))).map aw)):=by
 refine JD (a:=a) ?_ ⟨rfl,h⟩;rintro a b args mem ⟨ay,aA⟩ ⟨bQ,bL⟩;rw[n0.uniq aA.at_ bL.at_]
theorem azx (T:bm)(azy:T Wd=rF abT)(gu:T q8=aO yN)(gG:T r6=aO yO)(SK:T PX=rF N2)(kh:T x0=aO Dq)(qN:T CS=aO FK)(azz:T VL=aO aal)(a:n0)(mem:Mem)(a4:SJ a mem):
  wp T DS.body (qG DS.res λm mem'=>dx 6 emp m=some (.Y ((c8 (D a.E) ((ak a.E a.cs).e4 (a9 a.aJ) (dK a.P))).map aw))/\dG 277 mem mem') ⟨l1 [.ptr 261029 a.g 0],mem⟩:=by
 have dO:=a4;obtain⟨E,cs,aJ,P,g,ct,eW⟩:=a;obtain⟨bW,h0,iE,nh,Q,jg,j7,dj,iT⟩:=a4;dsimp only at *;have iw:=bW.r;dsimp only at iw;have aM:=Q.hV;have azA:mem 277165=none:=h0 277165 (by decide);refine tQ ?_;simp only[DS];generalize dL:(ak E cs).qa (a9 aJ) (dK P)=A at *;simp only[go_sem,go_sem_proc,iw,azA,ah];refine c9 [0,3] [] (λ((i,Ai):Nat×Nat) tm m=>i<=D E/\tm 5=.I (.int .i64 i)/\tm 4=.ref 277165 Ai 5 0 i/\m 277165=some (Ai,aS cM ((rowsOf (D E) A).take i))/\dG 277 mem m) (λ(i,_)=>D E-i) (0,0) (by refine⟨by omega,rfl,rfl,rfl,(dG.refl _ _).dW (by decide)⟩) ?_;intro vs ms aK aF;simp only[go_sem,go_sem_proc,ah] at aK aF;subst aK aF;rintro⟨i,Ai⟩ tm m L hm ⟨U,da,bL,Ah,bC⟩;simp only[go_sem,go_sem_proc,bf] at L;obtain⟨bu,bQ⟩:=L;have X:=(bC.at 261029 (by omega)).trans iw;rcases dk (i<D E) with av|b4
 ·have d1:decide ((i:Int)<(D E:Int))=true:=c5;have bl:=eu (i:=i) (by omega);have dq:=azg ⟨E,cs,aJ,P,g,ct,eW⟩ i m (uI.aE bW bC (by decide)) (iE.aE bC (by decide)) Q.right jg av;dsimp only at dq;have aKt:=Q.steady (a9 aJ) i;rw[azu Q.right jg dj i] at dq;have xo:df (lR E cs (a9 aJ) i):=lT (by omega) (by omega);have SM:=Gq _ xo;rw[Gm Q.right] at SM;have G:=Gq 1 JG;generalize azB:aq ((ak E cs).st (a9 aJ) i)=SF at *;obtain⟨⟨s1,s2⟩,⟨bY,b7⟩⟩:=SF;simp only[aw] at SM;simp only[go_sem,go_sem_proc,azy,gu,bu,bQ,bL,da,X,d1,dq,SM];refine N1 (kc:=277006) (g:=gd (m 277006)) (off:=0) (cs:=[.nil,.I (.int .i64 s1),.I (.Y (s2.map ae)),.I (.int .i64 bY),.I (.Y (b7.map ae))]) ?_ ?_ rfl (by decide) ?_
  ·simp only[go_sem,go_sem_proc]
  ·simp[a5]
  simp only[go_sem,go_sem_proc,kP];refine azp T gu mem (D E) (by omega) (.ptr 261029 g 0) (.ref 277165 Ai 5 0 i) (gd (m 277006)) (gd (m 277043)) (.I (.int .i64 s1)) (.I (.Y (s2.map ae))) (.I (.int .i64 bY)) (.I (.Y (b7.map ae))) (some (Ai,aS cM ((rowsOf (D E) A).take i))) _ _ ?_ ?_ ?_ i ?_ ?_ ?_ ?_ ?_ ?_ ?_ ?_
  ·simp only[dv,cx,if_false];exact bu
  ·simp only[dv,cx,if_false];exact bQ
  ·simp only[dv,cx,if_false];exact bL
  ·simp only[dv,cx,if_false];exact da
  ·simp only[dv,cx,if_false,if_true]
  ·simp only[dv,cx,if_false,if_true]
  ·simp[a5]
  ·simp[a5]
  ·simp only[a5,cx,if_false];exact Ah
  ·repeat first|exact bC|refine dG.dW ?_ (by decide)
  intro tm bX nH ej eo gh iP eD js DY ab1 km;have aZ:=(km.at 261029 (by omega)).trans iw;have cg:(en (D E) (aq ((0:Int):Rat))).length=D E:=yC;have xV:=azv av;clear bu bQ bL da dq SM Ah bC X;generalize iF:en (D E) (aq ((0:Int):Rat))=bV at *;generalize gi:aq ((1:Int):Rat)=a0 at *;obtain⟨⟨p1,p2⟩,⟨JH,JI⟩⟩:=a0;have t2:=z1 (l:=bV) (k:=i) (by omega);have t3:=FP (l:=bV) (k:=i) (by omega) p1 p2 JH JI;simp only[aw] at G;simp only[go_sem,go_sem_proc,gu,ej,eo,gh,iP,eD,js,DY,aZ,G,av,t2,t3];refine azr T gu gG SK kh qN mem ⟨E,cs,aJ,P,g,ct,eW⟩ dO i av (.ref 277165 Ai 5 0 i) (gd (m 277006)) nH (some (Ai,aS cM ((rowsOf (D E) A).take i))) [.I (.int .i64 s1),.I (.Y (s2.map ae)),.I (.int .i64 bY),.I (.Y (b7.map ae))] _ _ ?_ ?_ ?_ ?_ ?_ ?_ ?_ ?_ ?_ ?_ ?_ ?_
  ·simp only[dv,cx,if_false];exact ej
  ·simp only[dv,cx,if_false];exact eo
  ·simp only[dv,cx,if_false];exact gh
  ·simp only[dv,cx,if_false];exact iP
  ·simp only[dv,cx,if_false];exact eD
  ·simp only[dv,cx,if_false,if_true]
  ·dsimp only;rw[azB];rfl
  ·simp only[a5,cx,if_false];exact js
  ·simp only[a5,cx,if_true];rw[xV]
  ·simp only[a5,cx,if_false];exact ab1
  ·repeat first|exact km|refine dG.dW ?_ (by decide)
  dsimp only;rw[dL];intro tm g4 ej eo gh iP eD js DY ab1 Aj;clear xV t2 t3 G aZ;have cW:=λcs kq=>ka rj alo 277165 Ai 88 ((rowsOf (D E) A).take i) (c8 (D E) (A i),aq (A i (D E))) (cs:=cs) kq;have kQ:((rowsOf (D E) A).take i).length=i:=by rw[fU,xj];omega
  have fR:(rowsOf (D E) A).take i++[(c8 (D E) (A i),aq (A i (D E)))]=(rowsOf (D E) A).take (i+1):=by
   rw[g2,abh A av];rfl
  rw[kQ,fR] at cW;have kr:(c8 (D E) (A i)).length=D E:=qQ _ _;generalize c8 (D E) (A i)=V at *;generalize aq (A i (D E))=kz at *;obtain⟨⟨v1,v2⟩,⟨jb,v4⟩⟩:=kz;have mP:=cW _ rfl (by omega) (by omega);simp only[aw,cM,eI,b6] at js mP;simp only[go_sem,go_sem_proc];refine SB (kc:=277006) (gc:=gd (m 277006)) (off:=0) (cc:=[.ref 277043 nH 4 0 (D E),.I (.int .i64 v1),.I (.Y (v2.map ae)),.I (.int .i64 jb),.I (.Y (v4.map ae))]) (k:=277043) (g:=nH) (sz:=4) (o:=0) (len:=D E) (cs:=aS aw V) (d:=.Y (V.map aw)) ?_ js rfl DY (HH _ _) (by decide) ?_ ?_
  ·exact eD
  ·have:=kt (n:=0) jS DY;rw[kr] at this;exact this
  refine a1 ?_;repeat' (intro h<;>simp only[h,go_sem,go_sem_proc,ej,eo,gh,iP,eD,ab1,mP,bl,kP]<;>try refine al ?_ ?_)
  exact⟨(i+1,Ai+1),by dsimp only;omega,by dsimp only;omega,rfl,rfl,rfl,by repeat first|exact Aj|refine dG.dW ?_ (by decide)⟩
 ·have d1:decide ((i:Int)<(D E:Int))=false:=cu;have cJ:i=D E:=by omega
  have hlen:=xj (D E) A;rw[dH (by rw[hlen];omega)] at Ah;obtain⟨c0,et⟩:=ayx Q iT;rw[dL] at c0 et
  have ic:lf (rowsOf (D E) A):=by
   rw[<-dL];exact akx (by omega) λi U k L=>je ((abf Q iT.qP).sz (by omega) U L) (by omega)
  have dw:=aw0 (rowsOf (D E) A) (D E) ic;rw[<-axi ic,c0] at dw;dsimp only at dw;have jF:=λ(K:bg->Prop) (st:bg)=>k6 (K:=K) (st:=st) rj 4 277165 Ai (rowsOf (D E) A);rw[hlen] at jF;subst cJ;refine a1 ?_;repeat' (intro h<;>simp only[h,go_sem,go_sem_proc,azz,bu,bQ,bL,da,X,Ah,d1,jF,dw,bne,beq_self_eq_true,bT]<;>try refine al ?_ ?_)
  exact⟨_,rfl,rfl,by repeat first|exact bC|refine dG.same ?_ iw|refine dG.dW ?_ (by decide)⟩
def vT (cs:List aB)(who:Int)(x:Rat):Nat->Nat
 |0=>10
 |k+1=>if x<((b0 cs who (10-(k+1)+1:Nat):Int):Rat) then 10-(k+1) else vT cs who x k
theorem alp {E:List Int}{cs:List aB}(h:g9 E cs=true)(f:Nat->Rat)(i:Nat):∀k,vT cs i (f i) k=(ak E cs).jd f i k
 |0=>rfl
 |k+1=>by
  unfold vT Day.jd;rw[ps h,alp h f i k]
theorem azC (cs:List aB)(who:Int)(x:Rat)(k:Nat):vT cs who x (k+1)=if x<((b0 cs who (10-(k+1)+1:Nat):Int):Rat) then 10-(k+1) else vT cs who x k:=rfl
abbrev SN:(List aB)×Int×Rat->List Data:=λ(cs,who,x)=>[.Y (cs.map bw),.int .i64 who,.agg (aw (aq x))]
def N7:=cy SN λ(cs,who,x)=>cT (sB cs/\dX x) (.same (.int .i64 (vT cs who x 10)))
theorem alq:∀a b,SN a=SN b->a=b:=by
  rintro⟨DU,Sp,bb⟩ ⟨u1,Sq,b3⟩ h;simp only[bf,Data.Y.injEq,Data.int.injEq,Data.agg.injEq,and_true,true_and] at h;exact ei (map_inj sA _ _ h.1) (ei h.2.1 (QE (uk _ _ h.2.2)))
@[go_sem] theorem azD (cs:List aB)(who:Int)(x:Rat)(H:sB cs/\dX x):N7 [.Y (cs.map bw),.int .i64 who,.agg (aw (aq x))]=some (.same (.int .i64 (vT cs who x 10))):=(cF alq (cs,who,x)).trans (cY H _)
theorem azE (T:bm)(gG:T r6=aO yO)(gu:T q8=aO yN)(gm:T wM=aO Af)(cs:List aB)(who:Int)(x:Rat)(H:sB cs/\dX x):WP T abq (.same (.int .i64 (vT cs who x 10))) [.I (.Y (cs.map bw)),.I (.int .i64 who),.I (.agg (aw (aq x)))]:=by
 refine cH ?_;simp only[abq];obtain⟨cR,lH⟩:=H;generalize dw:aq x=aR at *;obtain⟨⟨cE,cS⟩,⟨dU,eN⟩⟩:=aR;simp only[go_sem,go_sem_proc,gG,gu,gm,aw];refine c9 [0,1,5] [273005] (λ(k:Nat) tm m=>k<=10/\tm 7=.I (.int .i64 k)/\vT cs who x 10=vT cs who x (10-k)) (λk=>10-k) 0 (by refine⟨by omega,rfl,rfl⟩) ?_;intro vs ms aK aF;simp only[go_sem,go_sem_proc,gG,gu,gm,aw] at aK aF;subst aK aF;rintro k tm m L hm ⟨azF,bJ,xe⟩;simp only[go_sem,go_sem_proc,gG,gu,gm,bf] at L hm;obtain⟨bu,ay,da⟩:=L;rcases dk (k<10) with av|b4
 ·have d1:decide ((k:Int)<10)=true:=c5;have bl:=eu (i:=k) (by omega);have oC:=cR.upto who (k+1:Nat);have oO:df (b0 cs who (k+1:Nat)):=lT (by omega) (by omega);have mj:=Sr cs who (k+1:Nat) cR;have hw:=Gq _ oO;have iy:=Sy lH (y:=((b0 cs who (k+1:Nat):Int):Rat)) ⟨by rw[ab2];exact uh oO,by rw[ab3];decide +kernel⟩
  have b4:decide (mI x ((b0 cs who (k+1:Nat):Int):Rat)>=0)=decide (((b0 cs who (k+1:Nat):Int):Rat)<=x):=SA
  have he:vT cs who x (10-k)=if x<((b0 cs who (k+1:Nat):Int):Rat) then k else vT cs who x (10-(k+1)):=by
   obtain⟨j,ax⟩:∃j,10-k=j+1:=⟨9-k,by omega⟩
   rw[ax,azC,show 10-(j+1)=k by omega,show 10-(k+1)=j by omega]
  rw[dw] at iy;generalize jN:aq ((b0 cs who (k+1:Nat):Int):Rat)=cr at *;obtain⟨⟨c0,et⟩,⟨gN,hz⟩⟩:=cr;simp only[aw] at hw iy
  by_cases M:x<((b0 cs who (k+1:Nat):Int):Rat)
  ·rw[ad M] at he;have d2:decide (mI x ((b0 cs who (k+1:Nat):Int):Rat)>=0)=false:=by rw[b4];exact kY (by grind)
   rw[xe,he];refine a1 ?_;repeat' (intro h<;>simp only[h,go_sem,go_sem_proc,gG,gu,gm,gG,gu,gm,bu,ay,da,bJ,hm,d1,bl,mj,hw,iy,d2]<;>try refine al ?_ ?_)
  ·rw[ag M] at he;have d2:decide (mI x ((b0 cs who (k+1:Nat):Int):Rat)>=0)=true:=by rw[b4];exact jw (by grind)
   refine a1 ?_;repeat' (intro h<;>simp only[h,go_sem,go_sem_proc,gG,gu,gm,gG,gu,gm,bu,ay,da,bJ,hm,d1,bl,mj,hw,iy,d2]<;>try refine al ?_ ?_)
   exact⟨k+1,by omega,by omega,rfl,xe.trans he⟩
 ·have d1:decide ((k:Int)<10)=false:=cu;obtain rfl:k=10:=by omega
  rw[xe];refine a1 ?_;repeat' (intro h<;>simp only[h,go_sem,go_sem_proc,gG,gu,gm,bu,ay,da,bJ,hm,d1,vT]<;>try refine al ?_ ?_)
def fE (n:Nat)(p:Nat->Bool):List Bool:=(eY n).map p
theorem tq (n:Nat)(p:Nat->Bool):(fE n p).length=n:=by simp[fE]
theorem DZ {n i:Nat}(p:Nat->Bool)(h:i<n):(fE n p)[i]?=some (p i):=by
 unfold fE;rw[aW,uV h];rfl
theorem alr {n i:Nat}(p:Nat->Bool)(b:Bool):(fE n p).set i b=fE n λj=>if j=i then b else p j:=by
 apply pJ;intro j;rcases hn j n with ax|ax
 ·rw[DZ _ ax,mo]
  by_cases h:i=j
  ·rw[ad h,ad (by rw[tq];omega),ad h.symm]
  ·rw[ag h,DZ _ ax,ag (Ne.symm h)]
 ·rw[iD (by rw[kd,tq];omega),iD (by rw[tq];omega)]
theorem Gw {n:Nat}{p q:Nat->Bool}(h:∀i,i<n->p i=q i):fE n p=fE n q:=pP λi U=>h i (jC.1 U)
theorem N8 {n i:Nat}{p:Nat->Bool}:dK (fE n p) i↔i<n/\p i=true:=by
 unfold dK;rcases hn i n with h|h
 ·rw[Gv (DZ p h)];exact⟨λe=>⟨h,e⟩,λe=>e.2⟩
 ·rw[ez,iD (by rw[tq];exact h)];simp;omega
def qd (d:Day)(f:Nat->Nat)(h:Nat->Rat)(i:Nat):Bool:=decide (f i<10)&&decide (d.bZ i (f i)<h i)
def ie (d:Day)(f:Nat->Nat)(h:Nat->Rat)(p:Nat->Bool)(i j:Nat):Bool:=p j||(decide (j<i)&&qd d f h j)
def vU (d:Day)(f:Nat->Nat)(h:Nat->Rat)(p:Nat->Bool)(i:Nat):Bool:=(eY i).any λj => !p j&&qd d f h j
theorem als (d:Day)(f:Nat->Nat)(h:Nat->Rat)(p:Nat->Bool)(i:Nat):vU d f h p (i+1)=(vU d f h p i||(!p i&&qd d f h i)):=by
 unfold vU;rw[sx,List.any_append];simp
theorem SO (d:Day)(f:Nat->Nat)(h:Nat->Rat)(p:Nat->Bool)(i:Nat):ie d f h p i i=p i:=by
 unfold ie;rw[kY (Nat.lt_irrefl i),fr,lA]
theorem ab4 (d:Day)(f:Nat->Nat)(h:Nat->Rat)(p:Nat->Bool)(i j:Nat):ie d f h p (i+1) j=if j=i then (p i||qd d f h i) else ie d f h p i j:=by
 unfold ie
 by_cases ax:j=i
 ·subst ax;rw[ad rfl,jw (Nat.lt_succ_self j),fP]
 ·rw[ag ax]
  congr 2
  rw[decide_eq_decide];omega
structure azG (a:n0) (mem:Mem):Prop where
 at_:a.fb mem
 cL:lS 277 mem
 dN:lS 280 mem
 eo:lS 281 mem
 vS:e5 a.E a.cs
 aJ:(D a.aJ)=D a.E
 pl:(D a.P)=D a.E
 f10:∀x∈a.aJ,0<=x/\x<=10
theorem azH (T:bm)(gu:T q8=aO yN)(gG:T r6=aO yO)(gm:T wM=aO Af){K:eF->bg->Prop}{kk:List fB}(eh:Mem)(a:n0)(p:Nat->Bool)(fs:a.P=fE (D a.E) p)(Q:e5 a.E a.cs)(jg:(D a.aJ)=D a.E)(dj:∀x∈a.aJ,0<=x/\x<=10)(h:Nat->Rat)(ic:∀i,i<(D a.E)->dX (h i))(tm:Nat->R)(m:Mem)
  (bW:a.fb m) (bC:∀k,k≠261027->m k=eh k) (bu:tm 0=.ptr 261029 a.g 0) (bQ:tm 3=.I (.int .i64 (D a.E))) (da:tm 5=.I (.Y ((c8 (D a.E) h).map aw))) (bj:tm 6=.I (.bool false)) (bJ:tm 7=.I (.int .i64 0))
  (cX:∀tm' m',tm' 0=.ptr 261029 a.g 0->tm' 3=.I (.int .i64 (D a.E))->tm' 5=.I (.Y ((c8 (D a.E) h).map aw))->tm' 6=.I (.bool (vU (ak a.E a.cs) (a9 a.aJ) h p (D a.E)))->uI a.E a.cs a.aJ (fE (D a.E) (ie (ak a.E a.cs) (a9 a.aJ) h p (D a.E))) a.g a.ct a.eW m'->(∀k,k≠261027->m' k=eh k)->cj T K kk (.exit 4) ⟨tm',m'⟩) :
  wp T (Jx.body.sub [1,1,1,0,0,0,1,0,1,1,0,1,0]) (cj T K kk) ⟨tm,m⟩:=by
 simp only[Jx,ep.sub];obtain⟨E,cs,aJ,P,g,ct,eW⟩:=a;dsimp only at *;subst fs;have aM:=Q.hV
 refine c9 [0,3,5] [] (λ(i:Nat) tm m=>i<=D E/\tm 7=.I (.int .i64 i)/\tm 6=.I (.bool (vU (ak E cs) (a9 aJ) h p i))/\uI E cs aJ (fE (D E) (ie (ak E cs) (a9 aJ) h p i)) g ct eW m/\∀k,k≠261027->m k=eh k) (λi=>D E-i) 0 (by
  refine⟨by omega,bJ,bj,?_,bC⟩
  have:fE (D E) (ie (ak E cs) (a9 aJ) h p 0)=fE (D E) p:=Gw λj _=>by
   unfold ie;rw[cu,fr,lA]
  rw[this];exact bW) ?_
 intro vs ms aK aF;simp only[go_sem,go_sem_proc,bu,bQ,da] at aK aF;subst aK aF;clear bu bQ da bj bJ bW bC tm m;rintro i tm m L-⟨U,bJ,bj,bW,bC⟩;simp only[go_sem,go_sem_proc,bf] at L;obtain⟨bu,bQ,da⟩:=L;have X:=bW.r;have aD:=bW.f;have aC:=bW.p;rw[tq] at X;rcases dk (i<D E) with av|b4
 ·have d1:decide ((i:Int)<(D E:Int))=true:=c5;have bl:=eu (i:=i) (by omega);obtain⟨y,ao⟩:∃y,aJ[i]?=some y:=⟨_,bB (by omega)⟩;have qK:=dj y (dS ao);have l3:a9 aJ i=y.toNat:=by unfold a9;rw[Gv ao]
  obtain⟨y,rfl⟩:∃k:Nat,y=(k:Int):=⟨y.toNat,by omega⟩
  rw[iY] at l3;have px:=xm (f:=db) ao;have alu:=DZ (n:=D E) (ie (ak E cs) (a9 aJ) h p i) av;rw[SO] at alu;have rG:=xm (f:=hi) alu;have L5:=alr (n:=D E) (i:=i) (ie (ak E cs) (a9 aJ) h p i) true;have dr:i+1<=D aJ:=by omega
  have aa:i<D aJ:=by omega
  have bo:i+1<=D E:=by omega
  have aF:=als (ak E cs) (a9 aJ) h p i;have dq:fE (D E) (ie (ak E cs) (a9 aJ) h p (i+1))=fE (D E) λj=>if j=i then (p i||qd (ak E cs) (a9 aJ) h i) else ie (ak E cs) (a9 aJ) h p i j:=Gw λj _=>ab4 _ _ _ _ _ _
  have tJ:(p i=true\/qd (ak E cs) (a9 aJ) h i=false)->fE (D E) (ie (ak E cs) (a9 aJ) h p (i+1))=fE (D E) (ie (ak E cs) (a9 aJ) h p i):=λaX=>by
   rw[dq];refine Gw λj _=>?_
   by_cases ax:j=i
   ·subst ax;rw[ad rfl,SO];rcases aX with G|G
    ·rw[G];rfl
    ·rw[G,lA]
   ·rw[ag ax]
  have p4:∀x,hi x=.I (.bool x):=λ_=>rfl;have gH:∀x,db x=.I (.int .i64 x):=λ_=>rfl;have rH:(fE (D E) (ie (ak E cs) (a9 aJ) h p i)).length=D E:=tq _ _;rcases d2:decide ((y:Int)<10)
  ·have h9:qd (ak E cs) (a9 aJ) h i=false:=by
    unfold qd;rw[l3,kY (by have:=of_decide_eq_false d2;omega),fr]
   rw[h9,jB,lA] at aF;simp only[go_sem,go_sem_proc,bu,bQ,da,bj,bJ,X,aD,aC,d1,d2,bl,px,dr,aa,cD,gH,cp,ah];repeat' (first|refine al ?_ ?_|fail)<;>intro h<;>simp only[h,go_sem,go_sem_proc,bu,bQ,da,bj,bJ,X,aD,aC,d1,d2,bl,px,dr,aa,cD,gH,cp,ah]
   exact⟨i+1,by omega,by omega,rfl,by rw[aF],by rw[tJ (.inr h9)];exact bW,bC⟩
  ·rcases q3:p i
   ·rw[q3] at rG;have oC:=Q.upto i y;have oO:df (b0 cs i y):=lT (by omega) (by omega);have mj:=Sr cs i y (Ad Q.right);have hw:=Gq _ oO;have iy:=Sy (ic i av) (y:=((b0 cs i y:Int):Rat)) ⟨by rw[ab2];exact uh oO,by rw[ab3];decide +kernel⟩
    have g1:decide (mI (h i) ((b0 cs i y:Int):Rat)>0)=decide (((b0 cs i y:Int):Rat)<h i):=ak4
    have b5:qd (ak E cs) (a9 aJ) h i=decide (((b0 cs i y:Int):Rat)<h i):=by
     unfold qd;rw[l3,ps Q.right,jw (show y<10 by have:=of_decide_eq_true d2;omega),fP]
    rw[<-b5] at g1;have ni:=p9 h av;generalize SP:aq (h i)=gI at *;generalize jN:aq ((b0 cs i y:Int):Rat)=cr at *;obtain⟨⟨c0,et⟩,⟨gN,hz⟩⟩:=cr;obtain⟨⟨cE,cS⟩,⟨dU,eN⟩⟩:=gI;simp only[aw] at hw iy;rcases h9:qd (ak E cs) (a9 aJ) h i
    ·rw[h9] at g1;rw[q3,h9,jB,lA] at aF;simp only[go_sem,go_sem_proc,gG,gu,gm,bu,bQ,da,bj,bJ,X,aD,aC,d1,d2,bl,px,rG,rH,dr,aa,bo,av,mj,hw,iy,g1,ni,aw,cD,gH,p4,cp,bT,ah,aW];repeat' (first|refine al ?_ ?_|fail)<;>intro h<;>simp only[h,go_sem,go_sem_proc,gG,gu,gm,bu,bQ,da,bj,bJ,X,aD,aC,d1,d2,bl,px,rG,rH,dr,aa,bo,av,mj,hw,iy,g1,ni,aw,cD,gH,p4,cp,bT,ah,aW]
     exact⟨i+1,by omega,by omega,rfl,by rw[aF],by rw[tJ (.inr h9)];exact bW,bC⟩
    ·rw[h9] at g1;rw[q3,h9,cp,fP,pR] at aF
     have jA:mz (oD hi (fE (D E) (ie (ak E cs) (a9 aJ) h p i))) i [hi true]=oD hi (fE (D E) (ie (ak E cs) (a9 aJ) h p (i+1))):=by
      rw[dq,h9,q3];have:fE (D E) (λj=>if j=i then (false||true) else ie (ak E cs) (a9 aJ) h p i j)=(fE (D E) (ie (ak E cs) (a9 aJ) h p i)).set i true:=L5.symm;rw[this];unfold mz;rw[w7,N9,ad (by rw[ah,rH];exact av)];simp
     have alv:iu i (oD hi (fE (D E) (ie (ak E cs) (a9 aJ) h p i)))++[R.I (.bool true)]++jn (i+1) (oD hi (fE (D E) (ie (ak E cs) (a9 aJ) h p i)))=oD hi (fE (D E) (ie (ak E cs) (a9 aJ) h p (i+1))):=jA;simp only[go_sem,go_sem_proc,gG,gu,gm,bu,bQ,da,bj,bJ,X,aD,aC,d1,d2,bl,px,rG,rH,dr,aa,bo,av,mj,hw,iy,g1,ni,alv,aw,cD,gH,p4,cp,bT,ah,aW];repeat' (first|refine al ?_ ?_|fail)<;>intro h<;>simp only[h,go_sem,go_sem_proc,gG,gu,gm,bu,bQ,da,bj,bJ,X,aD,aC,d1,d2,bl,px,rG,rH,dr,aa,bo,av,mj,hw,iy,g1,ni,alv,aw,cD,gH,p4,cp,bT,ah,aW]
     refine⟨i+1,by omega,by omega,rfl,by rw[aF],⟨?_,?_,?_⟩,λk L=>?_⟩
     ·rw[tq];simp only[a5,cx,if_false];exact X
     ·simp only[a5,cx,if_false];exact aD
     ·simp only[a5,if_true]
     ·simp only[a5,L,if_false];exact bC k L
   ·rw[q3] at rG;rw[q3,bT,fr,lA] at aF;simp only[go_sem,go_sem_proc,bu,bQ,da,bj,bJ,X,aD,aC,d1,d2,bl,px,rG,rH,dr,aa,bo,av,cD,gH,p4,cp,bT,ah];repeat' (first|refine al ?_ ?_|fail)<;>intro h<;>simp only[h,go_sem,go_sem_proc,bu,bQ,da,bj,bJ,X,aD,aC,d1,d2,bl,px,rG,rH,dr,aa,bo,av,cD,gH,p4,cp,bT,ah]
    exact⟨i+1,by omega,by omega,rfl,by rw[aF],by rw[tJ (.inl q3)];exact bW,bC⟩
 ·have d1:decide ((i:Int)<(D E:Int))=false:=cu;obtain rfl:i=D E:=by omega
  simp only[go_sem,go_sem_proc,bu,bQ,da,bj,bJ,X,d1];repeat' (first|refine al ?_ ?_|fail)<;>intro h<;>simp only[h,go_sem,go_sem_proc,bu,bQ,da,bj,bJ,X,d1]
  refine cX _ _ ?_ ?_ ?_ ?_ bW bC<;>simp only[dv,cx,if_false,bu,bQ,da,bj]
theorem alw {d:Day}{f:Nat->Nat}{h:Nat->Rat}{p:Nat->Bool}:dK (fE d.n (ie d f h p d.n))=uE d f (dK (fE d.n p)) h:=by
 funext i
 apply propext;rw[N8];unfold uE ie qd;rw[N8]
 constructor
 ·rintro⟨G,J⟩;rw[zn] at J;rcases J with J|J
  ·exact .inl ⟨G,J⟩
  ·simp only[gb,decide_eq_true_eq] at J;exact .inr ⟨G,J.2⟩
 ·rintro (⟨G,J⟩|⟨G,J⟩)
  ·exact⟨G,by rw[J];rfl⟩
  ·refine⟨G,?_⟩;rw[zn]
   right
   simp only[gb,decide_eq_true_eq];exact⟨G,J⟩
theorem alx {n:Nat}:dK (fE n λ_=>false)=λ_=>False:=by
 funext i
 apply propext;rw[N8];simp
theorem aly {d:Day}{f:Nat->Nat}{h:Nat->Rat}{p:Nat->Bool}{n:Nat}(hm:vU d f h p n=true):kj n (λi=>if ie d f h p n i then 0 else 1)<kj n λi=>if p i then 0 else 1:=by
 unfold vU at hm;rw[List.any_eq_true] at hm;obtain⟨j,ax,J⟩:=hm;have ax:=jC.1 ax;simp only[gb,vy] at J;refine aaM (j:=j) (λi U=>?_) ax ?_
 ·unfold ie
  cases p i
  ·try dsimp only
   split<;>simp
  ·simp
 ·unfold ie;rw[J.1,J.2,jw ax]
  decide
theorem alz {d:Day}{f:Nat->Nat}{h:Nat->Rat}{p:Nat->Bool}{n:Nat}(hm:vU d f h p n=false){i:Nat}(U:i<n)(G:f i<10)(J:d.bZ i (f i)<h i):p i=true:=by
 unfold vU at hm;rw[List.any_eq_false] at hm;have:=hm i (jC.2 U);unfold qd at this;rw[jw G,jw J] at this
 simpa using this
structure ab5 (a:n0) (mem:Mem):Prop where
 h:azG a mem
 inv:∃g,Inv (ak a.E a.cs) (a9 a.aJ) g
def ab6 (a:n0)(mem:Mem):R->Mem->Prop:=λm mem'=>m=.I (.Y ((c8 (D a.E) ((ak a.E a.cs).top (a9 a.aJ))).map aw))/\∃yR,D yR=D a.E/\uI a.E a.cs a.aJ yR a.g a.ct a.eW mem'/\∀k,k≠261027->mem' k=mem k
def SQ:List R->Mem->Option (R->Mem->Prop):=zZ (λ(a:n0) args mem=>args=[.ptr 261029 a.g 0]/\ab5 a mem) ab6
theorem azI (a:n0)(mem:Mem)(h:ab5 a mem):SQ [.ptr 261029 a.g 0] mem=some (ab6 a mem):=by
 refine abR (a:=a) ?_ ⟨rfl,h⟩;rintro a b args mem ⟨ay,aA⟩ ⟨bQ,bL⟩;rw[n0.uniq aA.h.at_ bL.h.at_]
theorem azJ (T:bm)(azK:T Wb=rF ab0)(gu:T q8=aO yN)(gG:T r6=aO yO)(gm:T wM=aO Af)(a:n0)(mem:Mem)(a4:ab5 a mem):
  wp T Jx.body (qG Jx.res (ab6 a mem)) ⟨l1 [.ptr 261029 a.g 0],mem⟩:=by
 obtain⟨⟨bW,h0,iE,nh,Q,jg,j7,dj⟩,r0,hinv⟩:=a4;have aM:=Q.hV;have ab:=Q.ok;obtain⟨E,cs,aJ,P,g,ct,eW⟩:=a;dsimp only at *;have iw:=bW.r;have iJ:=bW.p;have wA:=bW.f;dsimp only at iw iJ wA;rw[j7] at iw
 have fs:P=fE (D E) λj=>P.getD j false:=by
  apply pJ;intro j;rcases hn j (D E) with ax|ax
  ·rw[DZ _ ax,ez,bB (by omega)];rfl
  ·rw[iD (by omega),iD (by rw[tq];exact ax)]
 refine tQ ?_;simp only[Jx];simp only[go_sem,go_sem_proc,iw,ah]
 refine c9 [0,3] [] (λ(i:Nat) tm m=>i<=D E/\tm 4=.I (.int .i64 i)/\m 261027=some (eW,(fE (D E) λj=>if j<i then false else P.getD j false).map hi)/\∀k,k≠261027->m k=mem k) (λi=>D E-i) 0 (by
  refine⟨by omega,rfl,?_,λ_ _=>rfl⟩
  rw[iJ]
  congr 2
  rw[fs];exact congrArg _ (Gw λj _=>by rw[ag (by omega),<-fs])) ?_
 intro vs ms aK aF;simp only[go_sem,go_sem_proc,ah] at aK aF;subst aK aF;rintro i tm m L-⟨U,bL,B2,bC⟩;simp only[go_sem,go_sem_proc,bf] at L;obtain⟨bu,bQ⟩:=L;have X:=(bC 261029 (by decide)).trans iw;rcases dk (i<D E) with av|b4
 ·have d1:decide ((i:Int)<(D E:Int))=true:=c5;have bl:=eu (i:=i) (by omega);have bo:i+1<=D E:=by omega
  have rH:=tq (D E) λj=>if j<i then false else P.getD j false;have L5:=alr (n:=D E) (i:=i) (λj=>if j<i then false else P.getD j false) false
  have FG:(fE (D E) λj=>if j=i then false else if j<i then false else P.getD j false)=fE (D E) λj=>if j<i+1 then false else P.getD j false:=Gw λj _=>by
   by_cases G:j=i
   ·rw[ad G,ad (by omega)]
   ·rw[ag G]
    by_cases J:j<i
    ·rw[ad J,ad (by omega)]
    ·rw[ag J,ag (by omega)]
  rw[FG] at L5
  have jA:iu i (oD hi (fE (D E) λj=>if j<i then false else P.getD j false))++[R.I (.bool false)]++jn (i+1) (oD hi (fE (D E) λj=>if j<i then false else P.getD j false))=oD hi (fE (D E) λj=>if j<i+1 then false else P.getD j false):=by
   rw[<-L5,w7,N9,ad (by rw[ah,rH];exact av)];simp[hi]
  generalize (fE (D E) λj=>if j<i then false else P.getD j false)=cz at *;simp only[go_sem,go_sem_proc,bu,bQ,bL,X,B2,d1,bl,rH,bo,av,jA,cD,ah];repeat' (first|refine al ?_ ?_|fail)<;>intro h<;>simp only[h,go_sem,go_sem_proc,bu,bQ,bL,X,B2,d1,bl,rH,bo,av,jA,cD,ah]
  refine⟨i+1,by omega,by omega,rfl,rfl,λk L=>?_⟩
  simp only[a5,L,if_false];exact bC k L
 ·have d1:decide ((i:Int)<(D E:Int))=false:=cu;obtain rfl:i=D E:=by omega
  have FG:(fE (D E) λj=>if j<(D E) then false else P.getD j false)=fE (D E) λ_=>false:=Gw λj ax=>by rw[ad ax]
  rw[FG] at B2;simp only[go_sem,go_sem_proc,bu,bQ,bL,X,d1]
  refine c9 [0,3] [] (λ(p:Nat->Bool) tm m=>uI E cs aJ (fE (D E) p) g ct eW m/\(∀k,k≠261027->m k=mem k)/\sy (ak E cs) (a9 aJ) (dK (fE (D E) p))) (λp=>kj (D E) λi=>if p i then 0 else 1) (λ_=>false) (by
   refine⟨⟨?_,?_,B2⟩,bC,?_⟩
   ·rw[tq];exact X
   ·exact (bC 261042 (by decide)).trans wA
   ·rw[alx];exact⟨ab,r0,hinv,jc.first ab hinv⟩) ?_
  intro vs ms aK aF;simp only[go_sem,go_sem_proc,bu,bQ] at aK aF;subst aK aF;clear bu bQ bL B2 bC X;rintro p tm m L-⟨u6,bC,iT⟩;simp only[go_sem,go_sem_proc,bf] at L;obtain⟨bu,bQ⟩:=L;have X:=u6.r
  have hE:∀n,n≠261->lS n mem->lS n m:=λn aM L k mq=>by
   rw[bC k (by rintro rfl;omega)];exact L k mq
  have fM:=azw ⟨E,cs,aJ,fE (D E) p,g,ct,eW⟩ m ⟨u6,hE 277 (by decide) h0,hE 280 (by decide) iE,hE 281 (by decide) nh,Q,jg,tq _ _,dj,iT⟩;dsimp only at fM;simp only[go_sem,go_sem_proc,azK,bu,bQ,X,fM,cp];refine azH T gu gG gm m ⟨E,cs,aJ,fE (D E) p,g,ct,eW⟩ p rfl Q jg dj ((ak E cs).e4 (a9 aJ) (dK (fE (D E) p))) (λi U=>je (abj Q iT U) (by omega)) _ _ u6 (λ_ _=>rfl) ?_ ?_ ?_ ?_ ?_ ?_
  ·simp only[dv,cx,if_false];exact bu
  ·simp only[dv,cx,if_false];exact bQ
  ·simp only[dv,cx,if_false,if_true]
  ·simp only[dv,cx,if_false,if_true]
  ·simp only[dv,cx,if_false,if_true]
  dsimp only;intro xp bX ej eo iP eD alA km;obtain⟨cR,dh,ob,Ff⟩:=iT;rcases hm:vU (ak E cs) (a9 aJ) ((ak E cs).e4 (a9 aJ) (dK (fE (D E) p))) p (D E)
  ·rw[hm] at eD;have Qg:=Ff.aa8 ab ob λi U G J=>N8.2 ⟨U,alz hm U G J⟩;rw[xi (N:=D E) Qg] at iP;simp only[go_sem,go_sem_proc,ej,eo,iP,eD,cp];repeat' (first|refine al ?_ ?_|fail)<;>intro h<;>simp only[h,go_sem,go_sem_proc,ej,eo,iP,eD,cp]
   exact⟨_,rfl,rfl,_,tq _ _,alA,λk L=>(km k L).trans (bC k L)⟩
  ·rw[hm] at eD;simp only[go_sem,go_sem_proc,ej,eo,iP,eD,bT];repeat' (first|refine al ?_ ?_|fail)<;>intro h<;>simp only[h,go_sem,go_sem_proc,ej,eo,iP,eD,bT]
   refine⟨_,aly hm,alA,λk L=>(km k L).trans (bC k L),?_⟩;have vz:=alw (d:=ak E cs) (f:=a9 aJ) (h:=(ak E cs).e4 (a9 aJ) (dK (fE (D E) p))) (p:=p);have kM:(ak E cs).n=D E:=rfl;rw[kM] at vz;rw[vz];exact⟨ab,dh,ob,Ff.succ ab ob⟩
def fY (cs:List aB)(x:Rat)(c:aB):Rat:=if ((b0 cs c.1 (c.2.2.1+1):Int):Rat)<=x then (c.2.2.2:Rat) else (c.2.2.2:Rat)/((hj cs c.1 c.2.2.1:Int):Rat)*pos (x-((b0 cs c.1 c.2.2.1:Int):Rat))
theorem alB {E:List Int}{cs:List aB}(h:g9 E cs=true)(x:Nat->Rat){c:aB}(H:c∈cs):(ak E cs).jE x (ca c)=fY cs (x c.1.toNat) c:=by
 have X:=(hB.1 h).2.2.2 c H;obtain⟨au,c2,c3,c4⟩:=c;dsimp only at X;obtain⟨au,rfl⟩:∃k:Nat,au=(k:Int):=⟨au.toNat,by omega⟩
 obtain⟨c3,rfl⟩:∃k:Nat,c3=(k:Int):=⟨c3.toNat,by omega⟩
 unfold Day.jE fY Day.w;have G:=ps h au (c3+1);have J:=ps h au c3;have af:=Jp h au c3;have ay:(ca ((au:Int),c2,(c3:Int),c4)).aE=au:=iY au;have aA:(ca ((au:Int),c2,(c3:Int),c4)).bM=c3:=iY c3;have bQ:(ca ((au:Int),c2,(c3:Int),c4)).am=(c4:Rat):=rfl;rw[ay,aA,bQ,<-G,<-J,<-af]
 rfl
structure lU (l:List aB):Prop where
 len:(D l)<=12
 c:∀c∈l,0<=c.1/\c.1<60 /\ -1<=c.2.1/\c.2.1<60/\0<=c.2.2.1/\c.2.2.1<10/\0<=c.2.2.2/\c.2.2.2<=33554432
 one:∀c∈l,∀c'∈l,c.1=c'.1
theorem lU.cs {l:List aB}(h:lU l):sB l:=⟨by have:=h.len;omega,λc H=>by have:=h.c c H;omega⟩
abbrev SS:List aB->List Data:=λ(l:List aB)=>[.Y (l.map bw)]
def ab7:=cy SS λ(l:List aB)=>cT (lU l) (.same (.bool true))
theorem alC:∀a b,SS a=SS b->a=b:=by
  intro dr aa h;simp only[bf,Data.Y.injEq] at h;exact map_inj sA _ _ h.1
@[go_sem] theorem aKu (l:List aB)(H:lU l):ab7 [.Y (l.map bw)]=some (.same (.bool true)):=(cF alC l).trans (cY H _)
theorem azL (T:bm)  (l:List aB) (H:lU l):WP T abu (.same (.bool true)) [.I (.Y (l.map bw))]:=by
 refine cH ?_;simp only[abu];have hlen:=H.len;have d0:decide ((D l:Int)>2000)=false:=cu;simp only[go_sem,go_sem_proc,d0,ah];refine c9 [0] [] (λ(i:Nat) tm m=>i<=D l/\tm 3=.I (.int .i64 i)) (λi=>D l-i) 0 (by refine⟨by omega,rfl⟩) ?_;intro vs ms aK aF;simp only[go_sem,go_sem_proc,ah] at aK aF;subst aK aF;rintro i tm m L hm ⟨U,bQ⟩;simp only[go_sem,go_sem_proc,bf] at L;have bu:=L;rcases dk (i<D l) with av|b4
 ·have d1:decide ((i:Int)<(D l:Int))=true:=c5;have bl:=eu (i:=i) (by omega);obtain⟨⟨au,c2,c3,c4⟩,M⟩:∃c,l[i]?=some c:=⟨_,bB av⟩;obtain⟨⟨jq,iL,n2,sC⟩,a2⟩:∃c,l[0]?=some c:=⟨_,bB (by omega)⟩;have ly:=H.c _ (dS M);have zj:=H.one _ (dS M) _ (dS a2);dsimp only at ly zj;subst zj;have ev:decide (au<0)=false:=cu;have gg:decide (au>=60)=false:=cu;have tj:decide (c2 < -1)=false:=cu;have ja:decide (c2>=60)=false:=cu;have ab8:decide (c3<0)=false:=cu;have js:decide (c3>=10)=false:=cu;have qe:decide (c4<0)=false:=cu;have B3:decide (c4>1000000000000000)=false:=cu;have od:0<D l:=by omega
  refine a1 ?_;repeat' (intro h<;>simp only[h,go_sem,go_sem_proc,bu,bQ,M,a2,d1,bl,ev,gg,tj,ja,ab8,js,qe,B3,od,bw,ah,aW,Int.toNat_zero,bne,beq_self_eq_true,bT]<;>try refine al ?_ ?_)
  exact⟨i+1,by omega,by omega,rfl⟩
 ·have d1:decide ((i:Int)<(D l:Int))=false:=cu;refine a1 ?_;repeat' (intro h<;>simp only[h,go_sem,go_sem_proc,bu,bQ,d1,ah]<;>try refine al ?_ ?_)
abbrev ab9:(List aB)×Int->List Data:=λ(l,r)=>[.Y (l.map bw),.int .i64 r]
def aca:=cy ab9 λ(l,r)=>cT (sB l) (.same (.cB [.int .i64 (cl l λc=>if c.2.2.1<r then c.2.2.2 else 0),.int .i64 (cl l λc=>if c.2.2.1=r then c.2.2.2 else 0)]))
theorem azM:∀a b,ab9 a=ab9 b->a=b:=by
  rintro⟨dr,eS⟩ ⟨aa,eO⟩ h;simp only[bf,Data.Y.injEq,Data.int.injEq,true_and,and_true] at h;exact ei (map_inj sA _ _ h.1) h.2
@[go_sem] theorem azN (l:List aB)(r:Int)(H:sB l):aca [.Y (l.map bw),.int .i64 r]=some (.same (.cB [.int .i64 (cl l λc=>if c.2.2.1<r then c.2.2.2 else 0),.int .i64 (cl l λc=>if c.2.2.1=r then c.2.2.2 else 0)])):=(cF azM (l,r)).trans (cY H _)
theorem azO (T:bm)  (l:List aB) (r:Int) (H:sB l):WP T abv (.same (.cB [.int .i64 (cl l λc=>if c.2.2.1<r then c.2.2.2 else 0),.int .i64 (cl l λc=>if c.2.2.1=r then c.2.2.2 else 0)])) [.I (.Y (l.map bw)),.I (.int .i64 r)]:=by
 refine cH ?_;simp only[abv];have hlen:=H.1;simp only[go_sem,go_sem_proc,ah];refine c9 [0,1] [] (λ(i:Nat) tm m=>i<=D l/\tm 8=.I (.int .i64 i)/\tm 6=.I (.int .i64 (cl (l.take i) λc=>if c.2.2.1<r then c.2.2.2 else 0))/\tm 7=.I (.int .i64 (cl (l.take i) λc=>if c.2.2.1=r then c.2.2.2 else 0))) (λi=>D l-i) 0 (by refine⟨by omega,rfl,rfl,rfl⟩) ?_;intro vs ms aK aF;simp only[go_sem,go_sem_proc,ah] at aK aF;subst aK aF;rintro i tm m L hm ⟨U,dg,bj,bJ⟩;simp only[go_sem,go_sem_proc,bf] at L;obtain⟨bu,ay⟩:=L;rcases dk (i<D l) with av|b4
 ·have d1:decide ((i:Int)<(D l:Int))=true:=c5;have bl:=eu (i:=i) (by omega);obtain⟨⟨au,c2,c3,c4⟩,M⟩:∃c,l[i]?=some c:=⟨_,bB av⟩;have ly:=H.2 _ (dS M);have s1:=H.sum (λc=>c.2.2.1<r) i;have s2:=H.sum (λc=>c.2.2.1=r) i;have t1:=NO M λc=>if c.2.2.1<r then c.2.2.2 else 0;have t2:=NO M λc=>if c.2.2.1=r then c.2.2.2 else 0;generalize cl (l.take i) (λc=>if c.2.2.1<r then c.2.2.2 else 0)=a at *;generalize cl (l.take i) (λc=>if c.2.2.1=r then c.2.2.2 else 0)=b at *;dsimp only at ly t1 t2;have jr:IntKind.i64.wrap (a+c4)=a+c4:=by rw[e7 _]
  have acb:IntKind.i64.wrap (b+c4)=b+c4:=by rw[e7 _]
  rcases ev:decide (c3<r)
  ·rw[ag (of_decide_eq_false ev),k9] at t1;rcases gg:(c3==r)
   ·rw[ag (by simpa using gg),k9] at t2;refine a1 ?_;repeat' (intro h<;>simp only[h,go_sem,go_sem_proc,bu,ay,bj,bJ,dg,M,d1,bl,jr,acb,ev,gg,bw,ah,aW]<;>try refine al ?_ ?_)
    exact⟨i+1,by omega,by omega,rfl,by rw[t1],by rw[t2]⟩
   ·rw[ad (beq_iff_eq.1 gg)] at t2;refine a1 ?_;repeat' (intro h<;>simp only[h,go_sem,go_sem_proc,bu,ay,bj,bJ,dg,M,d1,bl,jr,acb,ev,gg,bw,ah,aW]<;>try refine al ?_ ?_)
    exact⟨i+1,by omega,by omega,rfl,by rw[t1],by rw[t2]⟩
  ·have gg:(c3==r)=false:=by have:=of_decide_eq_true ev;simp;omega
   rw[ad (of_decide_eq_true ev)] at t1;rw[ag (by simpa using gg),k9] at t2;refine a1 ?_;repeat' (intro h<;>simp only[h,go_sem,go_sem_proc,bu,ay,bj,bJ,dg,M,d1,bl,jr,acb,ev,gg,bw,ah,aW]<;>try refine al ?_ ?_)
   exact⟨i+1,by omega,by omega,rfl,by rw[t1],by rw[t2]⟩
 ·have d1:decide ((i:Int)<(D l:Int))=false:=cu;rw[dH (by omega)] at bj bJ;refine a1 ?_;repeat' (intro h<;>simp only[h,go_sem,go_sem_proc,bu,ay,bj,bJ,dg,d1,ah]<;>try refine al ?_ ?_)
def mQ {α:Type}(enc:α->List R)(l:List α):List R:=(l.map enc).flatten
theorem azP {α:Type}{enc:α->List R}{sz:Nat}(h:∀a,(enc a).length=sz)(l:List α):(mQ enc l).length=D l*sz:=by
 unfold mQ
 induction l with
 |nil=>simp
 |cons a l aH=>rw[eI,lZ,gj,aH,h,List.length_cons,qq];omega
theorem alD {α:Type}{enc:α->List R}{sz:Nat}(h:∀a,(enc a).length=sz):∀(l:List α) (i:Nat),i<(D l)->∀b,iu (i*sz) (mQ enc l)++enc b++jn (i*sz+sz) (mQ enc l)=mQ enc (l.set i b)
 | [],i,U,b=>absurd U (by simp)
 |a::l,0,_,b=>by
  have a4:=h a;unfold mQ;simp only[Nat.zero_mul,Nat.zero_add,ma,ir,eI,lZ,kP];rw[<-a4,List.drop_left]
 |a::l,i+1,U,b=>by
  have a4:=h a;have aH:=alD h l i (by simpa using U) b;unfold mQ at aH ⊢;simp only[eI,lZ,s9];rw[<-aH,qq,List.take_append,sV,a4];rw[dH (by omega),mA (by omega),ir];rw[show i*sz+sz-sz=i*sz by omega,show i*sz+sz+sz-sz=i*sz+sz by omega]
  simp only[hd]
def bx {α:Type}(n:Nat)(q:Nat->α):List α:=(eY n).map q
theorem gn {α:Type}(n:Nat)(q:Nat->α):(bx n q).length=n:=by simp[bx]
theorem jX {α:Type}{n i:Nat}(q:Nat->α)(h:i<n):(bx n q)[i]?=some (q i):=by
 unfold bx;rw[aW,uV h];rfl
theorem Oa {α:Type}{n:Nat}{l:List α}{q:Nat->α}(az:(D l)=n)(h:∀i,i<n->l[i]?=some (q i)):l=bx n q:=by
 apply pJ;intro i;rcases hn i n with U|U
 ·rw[h i U,jX q U]
 ·rw[iD (by omega),iD (by rw[gn];exact U)]
theorem Ak {α:Type}{n i:Nat}(q:Nat->α)(b:α):(bx n q).set i b=bx n λj=>if j=i then b else q j:=by
 refine Oa (by rw[kd,gn]) λj ax=>?_;rw[mo]
 by_cases h:i=j
 ·rw[ad h,ad (by rw[gn];omega),ad h.symm]
 ·rw[ag h,jX _ ax,ag (Ne.symm h)]
theorem h6 {α:Type}{n:Nat}{p q:Nat->α}(h:∀i,i<n->p i=q i):bx n p=bx n q:=pP λi U=>h i (jC.1 U)
def rI:Option bG->List R
 |none=>[.I (.int .i64 0),.nil,.I (.int .i64 0),.nil]
 |some f=>(aw f).map .I
theorem alE:∀a,(rI a).length=4
 |none=>rfl
 |some _=>rfl
theorem acd (n:Nat):(en n [R.I (.int .i64 0),R.nil,R.I (.int .i64 0),R.nil]).flatten=mQ rI (bx n λ_=>none):=by
 unfold mQ bx;rw[pQ]
 congr 1
 apply pJ;intro i;rw[aW];rcases hn i n with U|U
 ·rw[uV U,abZ,ad U];rfl
 ·rw[iD (by simpa using U),iD (by simpa using U)];rfl
theorem ace (l:List bG):mQ rI (l.map some)=aS aw l:=by
 unfold mQ aS
 induction l with
 |nil=>rfl
 |cons f l aH =>
  simp only[eI,lZ,kg];rw[aH];rfl
theorem SU {n i:Nat}{q:Nat->Option bG}(h:i<n):(i*4+4<=(mQ rI (bx n q)).length)=True:=eq_true (by rw[azP alE,gn];omega)
theorem SV {n i:Nat}{q:Nat->Option bG}(h:i<n)(a:Int)(b:List Int)(c:Int)(d:List Int):
  iu (i*4) (mQ rI (bx n q))++[R.I (.int .i64 a),.I (.Y (b.map ae)),.I (.int .i64 c),.I (.Y (d.map ae))]++jn (i*4+4) (mQ rI (bx n q))=mQ rI (bx n λj=>if j=i then some ((a,b),(c,d)) else q j):=by
 rw[<-Ak];exact alD alE (bx n q) i (by rw[gn];exact h) (some ((a,b),(c,d)))
structure B4 (l:List aB) (x:Rat):Prop where
 own:lU l
 pos:0<=x
 sz:eJ 460 x
theorem lU.less {l:List aB}(h:lU l){c:aB}(H:c∈l)(r:Int):(cl l λc'=>if c'.2.2.1<r then c'.2.2.2 else 0)=b0 l c.1 r:=by
 unfold b0;refine Gg λc' ly=>?_;have:=h.one c' ly c H
 by_cases G:c'.2.2.1<r
 ·rw[ad G,ad ⟨this,G⟩]
 ·rw[ag G,ag λh=>G h.2]
theorem acf (l:List aB)(aR bD:aB->Int):cl l (λc=>aR c+bD c)=cl l aR+cl l bD:=by
 induction l with
 |nil=>simp[cl]
 |cons c l aH=>simp only[cl,aH];omega
theorem lU.same {l:List aB}(h:lU l){c:aB}(H:c∈l)(r:Int):(cl l λc'=>if c'.2.2.1=r then c'.2.2.2 else 0)=hj l c.1 r:=by
 have G:=h.less H r;have J:=h.less H (r+1)
 have af:(cl l λc'=>if c'.2.2.1<r+1 then c'.2.2.2 else 0)=(cl l λc'=>if c'.2.2.1<r then c'.2.2.2 else 0)+cl l λc'=>if c'.2.2.1=r then c'.2.2.2 else 0:=by
  rw[<-acf];refine Gg λc _=>?_
  by_cases cL:c.2.2.1<r
  ·rw[ad (by omega),ad cL,ag (by omega)];omega
  ·rw[ag cL]
   by_cases dN:c.2.2.1=r
   ·rw[ad (by omega),ad dN];omega
   ·rw[ag (by omega),ag dN];omega
 unfold hj;omega
theorem lU.bound {l:List aB}(h:lU l)(p:aB->Prop)[DecidablePred p]:0<=cl l (λc=>if p c then c.2.2.2 else 0)/\cl l (λc=>if p c then c.2.2.2 else 0)<=536870912:=by
 have:=Jo (cs:=l) (aR:=λc=>if p c then c.2.2.2 else 0) (B:=33554432) (by omega) λc H=>by
  have:=h.c c H
  try dsimp only
  split<;>omega
 have:=h.len;omega
theorem azQ (cs:List aB)(i r:Int):hj cs i r=cl cs λc=>if c.1=i/\c.2.2.1=r then c.2.2.2 else 0:=by
 have af:b0 cs i (r+1)=b0 cs i r+cl cs λc=>if c.1=i/\c.2.2.1=r then c.2.2.2 else 0:=by
  unfold b0;rw[<-acf];refine Gg λc _=>?_
  split<;>split<;>split<;>omega
 unfold hj;omega
theorem azR {cs:List aB}{aR:aB->Int}(h:∀c∈cs,0<=aR c){c:aB}(H:c∈cs):aR c<=cl cs aR:=by
 induction cs with
 |nil=>cases H
 |cons a l aH =>
  simp only[cl];have aj:=h a g0
  have G:0<=cl l aR:=by
   have:∀l:List aB,(∀c∈l,0<=aR c)->0<=cl l aR:=by
    intro l
    induction l with
    |nil=>intro _;exact alF _
    |cons b l R8=>intro aX;simp only[cl];have:=aX b g0;have:=R8 λc H=>aX c (h3 _ H);omega
   exact this l λc H=>h c (h3 _ H)
  rcases List.mem_cons.1 H with rfl|H
  ·omega
  ·have:=aH (λc H=>h c (h3 _ H)) H;omega
theorem alG {cs:List aB}(h:∀c∈cs,0<=c.2.2.2){c:aB}(H:c∈cs):c.2.2.2<=hj cs c.1 c.2.2.1:=by
 rw[azQ];have:=azR (aR:=λc'=>if c'.1=c.1/\c'.2.2.1=c.2.2.1 then c'.2.2.2 else 0) (λc' ly=>by have:=h c' ly;split<;>omega) H;rwa [ad ⟨rfl,rfl⟩] at this
section
variable {cs:List aB} {x:Rat} {c:aB}
theorem acg (cs:List aB)(i r:Int):((b0 cs i (r+1):Int):Rat)=((b0 cs i r:Int):Rat)+((hj cs i r:Int):Rat):=by
 rw[<-Rat.intCast_add]
 congr 1
 unfold hj;omega
theorem ach (aM:∀c∈cs,0<=c.2.2.2)(H:c∈cs)(h:x-((b0 cs c.1 c.2.2.1:Int):Rat)<=0):fY cs x c=0:=by
 unfold fY;have G:=alG aM H;have J:=aM c H;rw[acg]
 split
 ·rename_i af
  have aP:((hj cs c.1 c.2.2.1:Int):Rat)<=((0:Int):Rat):=by
   have:((0:Int):Rat)=0:=rfl;rw[this];generalize ((b0 cs c.1 c.2.2.1:Int):Rat)=u at *;grind
  have bh:hj cs c.1 c.2.2.1<=0:=by exact_mod_cast aP
  rw[show c.2.2.2=0 by omega];rfl
 ·rw[vM h,Rat.mul_zero]
theorem alH (h:((hj cs c.1 c.2.2.1:Int):Rat)<=x-((b0 cs c.1 c.2.2.1:Int):Rat)):fY cs x c=(c.2.2.2:Rat):=by
 unfold fY;rw[acg,ad];generalize ((b0 cs c.1 c.2.2.1:Int):Rat)=u at *;generalize ((hj cs c.1 c.2.2.1:Int):Rat)=s at *;grind
theorem alI (aj:0<=x-((b0 cs c.1 c.2.2.1:Int):Rat))(h:x-((b0 cs c.1 c.2.2.1:Int):Rat)<((hj cs c.1 c.2.2.1:Int):Rat)):fY cs x c=(c.2.2.2:Rat)*(x-((b0 cs c.1 c.2.2.1:Int):Rat))/((hj cs c.1 c.2.2.1:Int):Rat):=by
 unfold fY;rw[acg,ag,yF aj]
 ·generalize ((b0 cs c.1 c.2.2.1:Int):Rat)=u at *;generalize ((hj cs c.1 c.2.2.1:Int):Rat)=s at *;grind
 ·generalize ((b0 cs c.1 c.2.2.1:Int):Rat)=u at *;generalize ((hj cs c.1 c.2.2.1:Int):Rat)=s at *;grind
end
theorem SW {n:Int}(h:df n):So [.int .i64 n,.int .i64 1]=some (.same (.agg (aw (aq (n:Rat))))):=by
 have:=ayK n 1 ⟨h,JG⟩;rw[Gp h] at this;exact this
theorem n3 {n:Int}(h:df n):dX (n:Rat):=⟨by rw[ab2];exact uh h,by rw[ab3];decide +kernel⟩
theorem azS {x:Rat}:decide (x.num.sign<=0)=decide (x<=0):=by
 have:x.num.sign<=0↔x<=0:=by
  rw[Int.sign_nonpos_iff,Rat.le_iff,NK,NJ];omega
 rw[decide_eq_decide];exact this
theorem SX {x:Rat}:decide (x.num.sign<0)=decide (x<0):=by
 have:x.num.sign<0↔x<0:=by
  rw[Int.sign_neg_iff,Rat.lt_iff,NK,NJ];omega
 rw[decide_eq_decide];exact this
def jY:aB:=(0,0,0,0)
def rJ (l:List aB)(x:Rat)(j:Nat):bG:=aq (fY l x (l.getD j jY))
theorem alJ (l:List aB)(x:Rat):(bx (D l) λj=>some (rJ l x j))=(l.map λc=>aq (fY l x c)).map some:=by
 symm
 refine Oa (by simp) λi U=>?_;rw[aW,aW,bB U];unfold rJ;rw[Gv (bB U)];rfl
abbrev SY:Rat×(List aB)->List Data:=λ(x,l)=>[.agg (aw (aq x)),.Y (l.map bw)]
def aci:=cy SY λ(x,l)=>cT (B4 l x) (.same (.cB [.Y ((l.map λc=>aq (fY l x c)).map aw),.int .i64 0]))
theorem alK:∀a b,SY a=SY b->a=b:=by
  rintro⟨bb,dr⟩ ⟨b3,aa⟩ h;simp only[bf,Data.Y.injEq,Data.agg.injEq,and_true] at h;exact ei (QE (uk _ _ h.1)) (map_inj sA _ _ h.2)
@[go_sem] theorem azT (x:Rat)(l:List aB)(H:B4 l x):aci [.agg (aw (aq x)),.Y (l.map bw)]=some (.same (.cB [.Y ((l.map λc=>aq (fY l x c)).map aw),.int .i64 0])):=(cF alK (x,l)).trans (cY H _)
theorem azU (T:bm)(fS:T qy=aO Dp)(Gx:T We=aO ab7)(Al:T Wf=aO aca)(Am:T CU=aO So)(kh:T x0=aO Dq)(gm:T wM=aO Af)(qN:T CS=aO FK)(rA:T HU=aO MJ)(x:Rat)(l:List aB)(H:B4 l x):WP T abt (.same (.cB [.Y ((l.map λc=>aq (fY l x c)).map aw),.int .i64 0])) [.I (.agg (aw (aq x))),.I (.Y (l.map bw))]:=by
 refine cH ?_;simp only[abt];obtain⟨how,pZ,q5⟩:=H;have ic:=je q5 (by omega);have hlen:=how.len;have acj:=NM ic;have oB:(aq x).1.1=x.num.sign:=rfl;have qC:decide (x.num.sign<0)=false:=by rw[SX];exact kY (by grind)
 have bS:=lP ic;have jA:=alJ l x;generalize dw:aq x=aR at *;obtain⟨⟨cE,cS⟩,⟨dU,eN⟩⟩:=aR;dsimp only at oB bS;subst oB;have o1:(64*D l<=140737488355328)=True:=eq_true (by omega);have w9:(D l<=maxLen)=True:=eq_true (by unfold maxLen;omega);have a2:=acd (D l);have L8:(bx (D l) λj=>if j<0 then some (rJ l x j) else none)=bx (D l) λ_=>none:=h6 λj _=>ag (by omega);rw[<-L8] at a2;simp only[go_sem,go_sem_proc,fS,Gx,Al,Am,kh,gm,qN,rA,aw,acj,bS.1,bS.2,how,qC,o1,w9,a2,ah,bT,cp];refine c9 [1,2,6] [279002] (λ(i:Nat) tm m=>i<=D l/\tm 7=.I (.int .i64 i)/\m 279030=some (0,mQ rI (bx (D l) λj=>if j<i then some (rJ l x j) else none))) (λi=>D l-i) 0 (by refine⟨by omega,rfl,rfl⟩) ?_;intro vs ms aK aF;simp only[go_sem,go_sem_proc,fS,Gx,Al,Am,kh,gm,qN,rA,aw,ah] at aK aF;subst aK aF;rintro i tm m L hm ⟨U,bJ,Ob⟩;simp only[go_sem,go_sem_proc,fS,Gx,Al,Am,kh,gm,qN,rA,bf] at L hm;obtain⟨ay,aA,bj⟩:=L;rcases dk (i<D l) with av|b4
 ·have d1:decide ((i:Int)<(D l:Int))=true:=c5;have bl:=eu (i:=i) (by omega);obtain⟨c,M⟩:∃c,l[i]?=some c:=⟨_,bB av⟩;have fc:=dS M;have ly:=how.c _ fc;have SZ:=azN l c.2.2.1 how.cs;rw[how.less fc,how.same fc] at SZ;have azV:=how.bound (λc'=>c'.2.2.1<c.2.2.1);rw[how.less fc] at azV;have ack:=how.bound (λc'=>c'.2.2.1=c.2.2.1);rw[how.same fc] at ack;have oO:df (b0 l c.1 c.2.2.1):=lT (by omega) (by omega);have xo:df (hj l c.1 c.2.2.1):=lT (by omega) (by omega);have Oc:df c.2.2.2:=lT (by omega) (by omega);have JJ:=SW oO;have xq:=SW xo;have B5:=SW Oc;have f0:=SW xn;have alL:eJ 29 ((b0 l c.1 c.2.2.1:Int):Rat):=tn (by omega);have JK:eJ 29 ((hj l c.1 c.2.2.1:Int):Rat):=tn (by omega);have D0:eJ 29 ((c.2.2.2:Int):Rat):=tn (by omega);have ev:=Sw ic (n3 oO) (xg q5 (uH alL) (by omega));have vV:eJ 490 (x-((b0 l c.1 c.2.2.1:Int):Rat)):=by rw[Rat.sub_eq_add_neg];exact (NC q5 (uH alL)).mono (by omega)
  have yn:=je vV (by omega);have gg:=Sy yn (n3 xo);have aM:∀c∈l,0<=c.2.2.2:=λc H=>(how.c c H).2.2.2.2.2.2.1;have S0:rJ l x i=aq (fY l x c):=by unfold rJ;rw[Gv M]
  have lj:=λa b c d=>SV (q:=λj=>if j<i then some (rJ l x j) else none) av a b c d;have B6:=SU (q:=λj=>if j<i then some (rJ l x j) else none) av
  have pO:∀aR:bG,aR=aq (fY l x c)->(bx (D l) λj=>if j=i then some aR else if j<i then some (rJ l x j) else none)=bx (D l) λj=>if j<i+1 then some (rJ l x j) else none:=by
   intro aR dw;refine h6 λj _=>?_
   by_cases G:j=i
   ·rw[ad G,ad (by omega),G,S0,dw]
   ·rw[ag G]
    by_cases J:j<i
    ·rw[ad J,ad (by omega)]
    ·rw[ag J,ag (by omega)]
  have alM:(aq (x-((b0 l c.1 c.2.2.1:Int):Rat))).1.1=(x-((b0 l c.1 c.2.2.1:Int):Rat)).num.sign:=rfl;have z4:decide ((x-((b0 l c.1 c.2.2.1:Int):Rat)).num.sign<=0)=decide (x-((b0 l c.1 c.2.2.1:Int):Rat)<=0):=azS;have b4:decide (mI (x-((b0 l c.1 c.2.2.1:Int):Rat)) ((hj l c.1 c.2.2.1:Int):Rat)>=0)=decide (((hj l c.1 c.2.2.1:Int):Rat)<=x-((b0 l c.1 c.2.2.1:Int):Rat)):=SA;have azW:=ach (x:=x) aM fc;have azX:=alH (cs:=l) (x:=x) (c:=c);have pp:=alI (cs:=l) (x:=x) (c:=c);have ef:=λaj=>ak1 (n3 Oc) yn (NB D0 vV aj);have bX:=λaj G=>azc (je (DM D0 vV) G) (n3 xo) aj (aaY (DM D0 vV) JK (by omega));have ef:=ef (by omega);have bX:=λaj=>bX aj (by omega);rw[dw] at ev;obtain⟨au,c2,c3,c4⟩:=c;dsimp only at *;generalize x-((b0 l au c3:Int):Rat)=r at *;generalize aKv:aq r=Fr at *;obtain⟨⟨eS,eO⟩,⟨aKw,tp⟩⟩:=Fr;dsimp only at alM;subst alM;rcases cL:decide (r<=0)
  ·have aKx:=of_decide_eq_false cL;rw[cL] at z4;rcases dN:decide (((hj l au c3:Int):Rat)<=r)
   ·have alN:=of_decide_eq_false dN;rw[dN] at b4;have acm:((hj l au c3:Int):Rat)≠0:=by grind
    have iT:=pp (by grind) (by grind);have bX:=bX acm;have aM:=pO (aq (((c4:Int):Rat)*r/((hj l au c3:Int):Rat))) (by rw[iT]);generalize aq (((c4:Int):Rat)*r/((hj l au c3:Int):Rat))=G1 at *;generalize aq (((c4:Int):Rat)*r)=G2 at *;generalize aq ((hj l au c3:Int):Rat)=G3 at *;generalize aq ((b0 l au c3:Int):Rat)=G4 at *;generalize aq ((c4:Int):Rat)=G5 at *;obtain⟨⟨dh,dC⟩,⟨ji,m9⟩⟩:=G1;obtain⟨⟨G,J⟩,⟨af,aP⟩⟩:=G2;obtain⟨⟨i1,i2⟩,⟨i3,i4⟩⟩:=G3;obtain⟨⟨An,acn⟩,⟨aco,BI⟩⟩:=G4;obtain⟨⟨h0,iE⟩,⟨nh,si⟩⟩:=G5;simp only[aw] at JJ xq B5 ev gg ef bX;have dq:=lj dh dC ji m9;rw[aM] at dq;refine a1 ?_;repeat' (intro h<;>simp only[h,go_sem,go_sem_proc,fS,Gx,Al,Am,kh,gm,qN,rA,Al,Am,kh,gm,qN,rA,ay,aA,bj,bJ,hm,Ob,M,d1,bl,av,SZ,JJ,xq,B5,ev,gg,ef,bX,z4,b4,B6,dq,bw,ah,aW,bne,beq_self_eq_true,bT]<;>try refine al ?_ ?_)
    exact⟨i+1,by omega,by omega,rfl,rfl⟩
   ·rw[dN] at b4;have iT:=azX (of_decide_eq_true dN);have aM:=pO (aq ((c4:Int):Rat)) (by rw[iT]);generalize aq ((hj l au c3:Int):Rat)=G3 at *;generalize aq ((b0 l au c3:Int):Rat)=G4 at *;generalize aq ((c4:Int):Rat)=G5 at *;obtain⟨⟨i1,i2⟩,⟨i3,i4⟩⟩:=G3;obtain⟨⟨An,acn⟩,⟨aco,BI⟩⟩:=G4;obtain⟨⟨h0,iE⟩,⟨nh,si⟩⟩:=G5;simp only[aw] at JJ xq B5 ev gg;have dq:=lj h0 iE nh si;rw[aM] at dq;refine a1 ?_;repeat' (intro h<;>simp only[h,go_sem,go_sem_proc,fS,Gx,Al,Am,kh,gm,qN,rA,Al,Am,kh,gm,qN,rA,ay,aA,bj,bJ,hm,Ob,M,d1,bl,av,SZ,JJ,xq,B5,ev,gg,z4,b4,B6,dq,bw,ah,aW,bne,beq_self_eq_true,bT]<;>try refine al ?_ ?_)
    exact⟨i+1,by omega,by omega,rfl,rfl⟩
  ·rw[cL] at z4;have iT:=azW (of_decide_eq_true cL);have aM:=pO (aq ((0:Int):Rat)) (by rw[iT];rfl);generalize aq ((b0 l au c3:Int):Rat)=G4 at *;generalize aq ((0:Int):Rat)=G5 at *;obtain⟨⟨An,acn⟩,⟨aco,BI⟩⟩:=G4;obtain⟨⟨h0,iE⟩,⟨nh,si⟩⟩:=G5;simp only[aw] at JJ f0 ev;have dq:=lj h0 iE nh si;rw[aM] at dq;refine a1 ?_;repeat' (intro h<;>simp only[h,go_sem,go_sem_proc,fS,Gx,Al,Am,kh,gm,qN,rA,Al,Am,kh,gm,qN,rA,ay,aA,bj,bJ,hm,Ob,M,d1,bl,av,SZ,JJ,f0,ev,z4,B6,dq,bw,ah,aW,bne,beq_self_eq_true,bT]<;>try refine al ?_ ?_)
   exact⟨i+1,by omega,by omega,rfl,rfl⟩
 ·have d1:decide ((i:Int)<(D l:Int))=false:=cu;obtain rfl:i=D l:=by omega
  have dO:(bx (D l) λj=>if j<(D l) then some (rJ l x j) else none)=bx (D l) λj=>some (rJ l x j):=h6 λj ax=>ad ax;rw[dO,jA,ace] at Ob;have jF:=λ(K:bg->Prop) (st:bg)=>k6 (K:=K) (st:=st) jS 6 279030 0 (l.map λc=>aq (fY l x c));rw[ah] at jF;refine a1 ?_;repeat' (intro h<;>simp only[h,go_sem,go_sem_proc,fS,Gx,Al,Am,kh,gm,qN,rA,ay,aA,bj,bJ,hm,d1,Ob,jF,ah]<;>try refine al ?_ ?_)
def cf (cs:List aB)(who:Int):List aB:=cs.filter λc=>c.1==who
theorem azY (cs:List aB)(who:Int)(p:aB->Prop)[DecidablePred p]:cl (cf cs who) (λc=>if c.1=who/\p c then c.2.2.2 else 0)=cl cs λc=>if c.1=who/\p c then c.2.2.2 else 0:=by
 unfold cf
 induction cs with
 |nil=>rfl
 |cons c l aH =>
  by_cases h:c.1=who
  ·rw[oK (by simpa using h)];simp only[cl,aH]
  ·rw[pv (by simpa using h),aH];simp only[cl];rw[ag λaX=>h aX.1];omega
theorem alO (cs:List aB)(who r:Int):b0 (cf cs who) who r=b0 cs who r:=azY cs who λc=>c.2.2.1<r
theorem tr {cs:List aB}{who:Int}{c:aB}:c∈cf cs who↔c∈cs/\c.1=who:=by
 unfold cf;rw[List.mem_filter,beq_iff_eq]
theorem azZ {cs:List aB}{who:Int}{x:Rat}{c:aB}(h:c.1=who):fY (cf cs who) x c=fY cs x c:=by
 unfold fY hj;rw[h,alO,alO]
theorem alP (cs:List aB)(who:Int)(x:Rat):((cf cs who).map λc=>aq (fY (cf cs who) x c))=(cf cs who).map λc=>aq (fY cs x c) :=
 pP λc H=>by rw[azZ (tr.1 H).2]
structure acp (cs:List aB) (who:Int) (x:Rat):Prop where
 s:B4 (cf cs who) x
 l:(D cs)<=2000
theorem e5.own {E:List Int}{cs:List aB}(h:e5 E cs)(who:Int):lU (cf cs who):=by
 have X:=hB.1 h.right;have aM:=h.hV;refine⟨?_,λc H=>?_,λc H c' ly=>?_⟩
 ·have:=mO (λc:aB=>c.1==who) cs;have:=h.qR;unfold cf;omega
 ·have G:=X.2.2.2 c (tr.1 H).1;have J:=h.am c (tr.1 H).1;omega
 ·rw[(tr.1 H).2,(tr.1 ly).2]
def S2:=cy SN λ(cs,who,x)=>cT (acp cs who x) (.same (.cB [.Y (((cf cs who).map λc=>aq (fY cs x c)).map aw),.int .i64 0]))
@[go_sem] theorem az0 (cs:List aB)(who:Int)(x:Rat)(H:acp cs who x):S2 [.Y (cs.map bw),.int .i64 who,.agg (aw (aq x))]=some (.same (.cB [.Y (((cf cs who).map λc=>aq (fY cs x c)).map aw),.int .i64 0])):=(cF alq (cs,who,x)).trans (cY H _)
theorem az1 (T:bm)(Gy:T Wc=aO aci)(cs:List aB)(who:Int)(x:Rat)(H:acp cs who x):WP T abr (.same (.cB [.Y (((cf cs who).map λc=>aq (fY cs x c)).map aw),.int .i64 0])) [.I (.Y (cs.map bw)),.I (.int .i64 who),.I (.agg (aw (aq x)))]:=by
 refine cH ?_;simp only[abr];obtain⟨Q,hlen⟩:=H;have dw:=azT x (cf cs who) Q;rw[alP] at dw;generalize jN:aq x=cr at *;obtain⟨⟨cE,cS⟩,⟨dU,eN⟩⟩:=cr;simp only[aw] at dw;simp only[go_sem,go_sem_proc,Gy,aw];refine c9 [0,1,5] [274005] (λ((i,g):Nat×Nat) tm m=>i<=D cs/\tm 9=.I (.int .i64 i)/\tm 8=.ref 274029 g 4 0 (cf (cs.take i) who).length/\m 274029=some (g,aS bw (cf (cs.take i) who))) (λ(i,_)=>D cs-i) (0,0) (by refine⟨by omega,rfl,rfl,rfl⟩) ?_;intro vs ms aK aF;simp only[go_sem,go_sem_proc,Gy,aw] at aK aF;subst aK aF;rintro⟨i,g⟩ tm m L hm ⟨U,dz,dg,jG⟩;simp only[go_sem,go_sem_proc,Gy,bf] at L hm;obtain⟨bu,ay,da⟩:=L;rcases dk (i<D cs) with av|b4
 ·have d1:decide ((i:Int)<(D cs:Int))=true:=c5;have bl:=eu (i:=i) (by omega);obtain⟨⟨au,c2,c3,c4⟩,M⟩:∃c,cs[i]?=some c:=⟨_,bB av⟩;have fR:cs.take (i+1)=cs.take i++[(au,c2,c3,c4)]:=by rw[g2,M];rfl
  have Ew:(cf (cs.take i) who).length<=2000:=by
   have G:=mO (λc:aB=>c.1==who) (cs.take i);have J:(cs.take i).length<=D cs:=by rw[fU];omega
   unfold cf;omega
  rcases ev:(au==who)
  ·have kG:cf (cs.take (i+1)) who=cf (cs.take i) who:=by
    unfold cf;rw[fR,rE,pv (by simpa using ev),pt,gD]
   refine a1 ?_;repeat' (intro h<;>simp only[h,go_sem,go_sem_proc,Gy,bu,ay,da,dg,dz,hm,jG,M,d1,bl,ev,bw,ah,aW]<;>try refine al ?_ ?_)
   exact⟨(i+1,g),by dsimp only;omega,by dsimp only;omega,rfl,by rw[kG],by rw[kG]⟩
  ·have kG:cf (cs.take (i+1)) who=cf (cs.take i) who++[(au,c2,c3,c4)]:=by
    unfold cf;rw[fR,rE,oK (by simpa using ev),pt]
   have cW:=ka yM NN 274029 g 32 (cf (cs.take i) who) (au,c2,c3,c4) (cs:=[.I (.int .i64 au),.I (.int .i64 c2),.I (.int .i64 c3),.I (.int .i64 c4)]) rfl (by omega) (by omega);rw[<-kG] at cW;have bt:(cf (cs.take (i+1)) who).length=(cf (cs.take i) who).length+1:=by rw[kG,gj];rfl
   refine a1 ?_;repeat' (intro h<;>simp only[h,go_sem,go_sem_proc,Gy,bu,ay,da,dg,dz,hm,jG,M,d1,bl,ev,cW,bw,ah,aW]<;>try refine al ?_ ?_)
   exact⟨(i+1,g+1),by dsimp only;omega,by dsimp only;omega,rfl,by rw[bt],rfl⟩
 ·have d1:decide ((i:Int)<(D cs:Int))=false:=cu;rw[dH (by omega)] at dg jG;have jF:=λ(K:bg->Prop) (st:bg)=>k6 (K:=K) (st:=st) yM 8 274029 g (cf cs who);refine a1 ?_;repeat' (intro h<;>simp only[h,go_sem,go_sem_proc,Gy,Gy,bu,ay,da,dg,dz,hm,d1,jG,jF,dw,ah]<;>try refine al ?_ ?_)
theorem acq (n:Nat):((hK n).map R.I).all R.one=true:=rfl
def oP (d:Day)(f:Nat->Nat)(h:Nat->Rat)(i:Nat):List Nat:=(eY i).filter λj=>decide (h j<d.bZ j (f j))
theorem alQ (d:Day)(f:Nat->Nat)(h:Nat->Rat)(i:Nat):oP d f h (i+1)=if h i<d.bZ i (f i) then oP d f h i++[i] else oP d f h i:=by
 unfold oP;rw[sx,rE]
 by_cases aX:h i<d.bZ i (f i)
 ·rw[ad aX,oK (by simpa using aX),pt]
 ·rw[ag aX,pv (by simpa using aX),pt,gD]
theorem alR (d:Day)(f:Nat->Nat)(h:Nat->Rat)(i:Nat):(oP d f h i).length<=i:=by
 have:=mO (λj=>decide (h j<d.bZ j (f j))) (eY i);rw[sW] at this;exact this
structure az2 (E:List Int) (cs:List aB) (aJ:List Int) (h:Nat->Rat) (g ct:Nat) (c7 jZ:R) (m:Mem):Prop where
 r:∃x,m 261029=some (g,[.I (.Y (E.map ae)),.I (.Y (cs.map bw)),.ref 261042 ct 1 0 (D aJ),c7,x])
 f:m 261042=some (ct,aJ.map db)
 c:m 261006=some (0,[.I (.Y ((c8 (D E) h).map aw)),.nil,jZ])
theorem az3 (T:bm)(gu:T q8=aO yN)(gG:T r6=aO yO)(gm:T wM=aO Af){K:eF->bg->Prop}{kk:List fB}(E:List Int)(cs:List aB)(Q:e5 E cs)(aJ:List Int)(jg:(D aJ)=D E)(dj:∀x∈aJ,0<=x/\x<=10)(h:Nat->Rat)(ic:∀i,i<(D E)->dX (h i))(g ct ki:Nat)(c7 jZ:R)(tm:Nat->R)(m:Mem)
  (bW:az2 E cs aJ h g ct c7 jZ m) (bu:tm 0=.I (.Y (E.map ae))) (ay:tm 1=.I (.Y (cs.map bw))) (bL:tm 4=.ptr 261004 0 0) (bj:tm 6=.ptr 261006 0 0) (bJ:tm 7=.ptr 261029 g 0) (dz:tm 9=.ref 261080 ki 1 0 0) (dY:tm 10=.I (.int .i64 0)) (Ao:m 261080=some (ki,[]))
  (cX:∀tm' m' alS,tm' 0=.I (.Y (E.map ae))->tm' 1=.I (.Y (cs.map bw))->tm' 4=.ptr 261004 0 0->tm' 6=.ptr 261006 0 0->tm' 7=.ptr 261029 g 0->tm' 9=.ref 261080 alS 1 0 (oP (ak E cs) (a9 aJ) h (D E)).length->m' 261080=some (alS,aS hK (oP (ak E cs) (a9 aJ) h (D E)))->(∀k,k≠261080->m' k=m k)->cj T K kk (.exit 4) ⟨tm',m'⟩) :
  wp T (vQ.body.sub [1,1,1,1,1,0,0,0,0,1,1,1,0,1,0,0]) (cj T K kk) ⟨tm,m⟩:=by
 simp only[vQ,ep.sub];obtain⟨⟨kn,iw⟩,wA,iv⟩:=bW;have aM:=Q.hV;generalize qY:m=kK at *;refine c9 [0,1,4,6,7] [] (λ((i,ts):Nat×Nat) tm m=>i<=D E/\tm 10=.I (.int .i64 i)/\tm 9=.ref 261080 ts 1 0 (oP (ak E cs) (a9 aJ) h i).length/\m 261080=some (ts,aS hK (oP (ak E cs) (a9 aJ) h i))/\∀k,k≠261080->m k=kK k) (λ(i,_)=>D E-i) (0,ki) (by refine⟨by omega,dY,dz,Ao,λ_ _=>rfl⟩) ?_;intro vs ms aK aF;simp only[go_sem,go_sem_proc,bu,ay,bL,bj,bJ] at aK aF;subst aK aF;clear bu ay bL bj bJ dz dY qY Ao tm;rintro⟨i,ts⟩ tm ef L-⟨U,dY,dz,Ao,bC⟩;simp only[go_sem,go_sem_proc,bf] at L;obtain⟨bu,ay,bL,bj,bJ⟩:=L;have X:=(bC 261029 (by decide)).trans iw;have aD:=(bC 261042 (by decide)).trans wA;have H:=(bC 261006 (by decide)).trans iv;rcases dk (i<D E) with av|b4
 ·have d1:decide ((i:Int)<(D E:Int))=true:=c5;have bl:=eu (i:=i) (by omega);obtain⟨y,ao⟩:∃y,aJ[i]?=some y:=⟨_,bB (by omega)⟩;have qK:=dj y (dS ao);have l3:a9 aJ i=y.toNat:=by unfold a9;rw[Gv ao]
  obtain⟨y,rfl⟩:∃k:Nat,y=(k:Int):=⟨y.toNat,by omega⟩
  rw[iY] at l3;have px:=xm (f:=db) ao;have dr:i+1<=D aJ:=by omega
  have aa:i<D aJ:=by omega
  have oC:=Q.upto i y;have oO:df (b0 cs i y):=lT (by omega) (by omega);have mj:=Sr cs i y (Ad Q.right);have hw:=Gq _ oO;have iy:=Sy (ic i av) (n3 oO);have ee:decide (mI (h i) ((b0 cs i y:Int):Rat)<0)=decide (h i<((b0 cs i y:Int):Rat)):=abQ;have z9:=ps Q.right i y;have tt:=alQ (ak E cs) (a9 aJ) h i;rw[l3,<-z9] at tt;have ni:=p9 h av;have S3:=alR (ak E cs) (a9 aJ) h i;have cW:=ka vH acq 261080 ts 8 (oP (ak E cs) (a9 aJ) h i) i (cs:=[.I (.int .i64 i)]) rfl (by omega) (by omega);have gH:∀x,db x=.I (.int .i64 x):=λ_=>rfl;generalize SP:aq (h i)=gI at *;generalize jN:aq ((b0 cs i y:Int):Rat)=cr at *;obtain⟨⟨c0,et⟩,⟨gN,hz⟩⟩:=cr;obtain⟨⟨cE,cS⟩,⟨dU,eN⟩⟩:=gI;simp only[aw] at hw iy;rcases ev:decide (h i<((b0 cs i y:Int):Rat))
  ·rw[ev] at ee;rw[ag (of_decide_eq_false ev)] at tt;simp only[go_sem,go_sem_proc,gG,gu,gm,bu,ay,bL,bj,bJ,dz,dY,X,aD,H,d1,bl,px,dr,aa,mj,hw,iy,ee,ni,gH,aw,cD,ah,aW];repeat' (first|refine al ?_ ?_|fail)<;>intro h<;>simp only[h,go_sem,go_sem_proc,gG,gu,gm,bu,ay,bL,bj,bJ,dz,dY,X,aD,H,d1,bl,px,dr,aa,mj,hw,iy,ee,ni,gH,aw,cD,ah,aW]
   exact⟨(i+1,ts),by dsimp only;omega,by dsimp only;omega,rfl,by rw[tt],by rw[tt];exact Ao,bC⟩
  ·rw[ev] at ee;rw[ad (of_decide_eq_true ev)] at tt;rw[<-tt] at cW;have bt:(oP (ak E cs) (a9 aJ) h (i+1)).length=(oP (ak E cs) (a9 aJ) h i).length+1:=by rw[tt,gj];rfl
   simp only[go_sem,go_sem_proc,gG,gu,gm,bu,ay,bL,bj,bJ,dz,dY,X,aD,H,Ao,d1,bl,px,dr,aa,mj,hw,iy,ee,ni,gH,cW,aw,cD,ah,aW];repeat' (first|refine al ?_ ?_|fail)<;>intro h<;>simp only[h,go_sem,go_sem_proc,gG,gu,gm,bu,ay,bL,bj,bJ,dz,dY,X,aD,H,Ao,d1,bl,px,dr,aa,mj,hw,iy,ee,ni,gH,cW,aw,cD,ah,aW]
   refine⟨(i+1,ts+1),by dsimp only;omega,by dsimp only;omega,rfl,by rw[bt],rfl,λk L=>?_⟩
   simp only[a5,L,if_false];exact bC k L
 ·have d1:decide ((i:Int)<(D E:Int))=false:=cu;obtain rfl:i=D E:=by omega
  simp only[go_sem,go_sem_proc,bu,ay,bL,bj,bJ,dz,dY,d1,ah];repeat' (first|refine al ?_ ?_|fail)<;>intro h<;>simp only[h,go_sem,go_sem_proc,bu,ay,bL,bj,bJ,dz,dY,d1,ah]
  refine cX _ _ ts ?_ ?_ ?_ ?_ ?_ ?_ Ao bC<;>simp only[dv,cx,if_false,bu,ay,bL,bj,bJ,dz]
def xr (d:Day)(f:Nat->Nat)(h:Nat->Rat)(aR:List Nat)(n:Nat):List Int:=bx n λi=>((if i∈aR then d.jd h i 10 else f i:Nat):Int)
theorem az4 (T:bm)(n4:T LO=aO N7){K:eF->bg->Prop}{kk:List fB}(E:List Int)(cs:List aB)(Q:e5 E cs)(f:Nat->Nat)(h:Nat->Rat)(ic:∀i,i<(D E)->dX (h i))(aR:List Nat)(dw:∀i∈aR,i<D E)(az5:(D aR)<=D E)(g ct ki:Nat)(c7 jZ kn:R)(tm:Nat->R)(m:Mem)
  (iw:m 261029=some (g,[.I (.Y (E.map ae)),.I (.Y (cs.map bw)),.ref 261042 ct 1 0 (D E),c7,kn])) (wA:m 261042=some (ct,(bx (D E) λi=>(f i:Int)).map db)) (iv:m 261006=some (0,[.I (.Y ((c8 (D E) h).map aw)),.nil,jZ])) (bu:tm 0=.I (.Y (E.map ae))) (ay:tm 1=.I (.Y (cs.map bw))) (bL:tm 4=.ptr 261004 0 0) (bj:tm 6=.ptr 261006 0 0) (bJ:tm 7=.ptr 261029 g 0) (dz:tm 9=.ref 261080 ki 1 0 (D aR)) (h4:tm 11=.I (.int .i64 0)) (Ao:m 261080=some (ki,aS hK aR))
  (cX:∀tm' m',tm' 0=.I (.Y (E.map ae))->tm' 1=.I (.Y (cs.map bw))->tm' 4=.ptr 261004 0 0->tm' 6=.ptr 261006 0 0->tm' 7=.ptr 261029 g 0->tm' 9=.ref 261080 ki 1 0 (D aR)->m' 261042=some (ct,(xr (ak E cs) f h aR (D E)).map db)->(∀k,k≠261042->m' k=m k)->cj T K kk (.exit 6) ⟨tm',m'⟩) :
  wp T (vQ.body.sub [1,1,1,1,1,0,0,0,0,1,1,1,1,1,0,1,0]) (cj T K kk) ⟨tm,m⟩:=by
 simp only[vQ,ep.sub];have aM:=Q.hV;generalize qY:m=kK at *
 refine c9 [0,1,4,6,7,9] [] (λ(j:Nat) tm m=>j<=D aR/\tm 11=.I (.int .i64 j)/\m 261042=some (ct,(xr (ak E cs) f h (aR.take j) (D E)).map db)/\∀k,k≠261042->m k=kK k) (λj=>D aR-j) 0 (by
  refine⟨by omega,h4,?_,λ_ _=>rfl⟩
  rw[wA];have:(bx (D E) λi=>(f i:Int))=xr (ak E cs) f h (aR.take 0) (D E):=h6 λi _=>by rw[ma,ag (by simp)]
  rw[this]) ?_
 intro vs ms aK aF;simp only[go_sem,go_sem_proc,bu,ay,bL,bj,bJ,dz] at aK aF;subst aK aF;clear bu ay bL bj bJ dz h4 qY wA tm;rintro j tm ef L-⟨ax,h4,aD,bC⟩;simp only[go_sem,go_sem_proc,bf] at L;obtain⟨bu,ay,bL,bj,bJ,dz⟩:=L;have X:=(bC 261029 (by decide)).trans iw;have H:=(bC 261006 (by decide)).trans iv;have acr:=(bC 261080 (by decide)).trans Ao;rcases dk (j<D aR) with av|b4
 ·have d1:decide ((j:Int)<(D aR:Int))=true:=c5;have bl:=eu (i:=j) (by omega);obtain⟨i,M⟩:∃c,aR[j]?=some c:=⟨_,bB av⟩;have U:=dw i (dS M);have xe:=azD cs i (h i) ⟨Ad Q.right,ic i U⟩;rw[alp Q.right h i 10] at xe;have ni:=p9 h U
  have nr:iu 1 (jn j (aS hK aR))=[.I (.int .i64 i)]:=by
   have:aS hK aR=aR.map λn:Nat=>R.I (.int .i64 (n:Int)):=by
    unfold aS;clear M dw az5 av ax d1 cX dz acr Ao aD
    induction aR with
    |nil=>rfl
    |cons a l aH=>simp only[eI,lZ,kg];rw[aH];rfl
   rw[this];exact xm M
  have cg:(aS hK aR).length=D aR:=by rw[lB vH];omega
  have rH:(xr (ak E cs) f h (aR.take j) (D E)).length=D E:=gn _ _;have fR:aR.take (j+1)=aR.take j++[i]:=by rw[g2,M];rfl
  have jA:iu i (oD db (xr (ak E cs) f h (aR.take j) (D E)))++[R.I (.int .i64 ((ak E cs).jd h i 10))]++jn (i+1) (oD db (xr (ak E cs) f h (aR.take j) (D E)))=oD db (xr (ak E cs) f h (aR.take (j+1)) (D E)):=by
   have e:xr (ak E cs) f h (aR.take (j+1)) (D E)=(xr (ak E cs) f h (aR.take j) (D E)).set i (((ak E cs).jd h i 10:Nat):Int):=by
    unfold xr;rw[Ak,fR];refine h6 λk _=>?_
    by_cases L:k=i
    ·subst L;rw[ad (by simp),ad rfl]
    ·rw[ag L]
     congr 1
     by_cases hm:k∈aR.take j
     ·rw[ad (by simp[hm]),ad hm]
     ·rw[ag (by simp[hm,L]),ag hm]
   rw[e,w7,N9,ad (by rw[ah,rH];exact U)];simp[db]
  have dr:i+1<=D E:=by omega
  have aa:j+1<=D aR:=by omega
  generalize xr (ak E cs) f h (aR.take j) (D E)=cz at *;generalize SP:aq (h i)=gI at *;obtain⟨⟨cE,cS⟩,⟨dU,eN⟩⟩:=gI;simp only[aw] at xe;simp only[go_sem,go_sem_proc,n4,bu,ay,bL,bj,bJ,dz,h4,X,aD,H,acr,d1,bl,U,av,nr,cg,rH,dr,aa,xe,ni,jA,aw,cD,ah,aW];repeat' (first|refine al ?_ ?_|fail)<;>intro h<;>simp only[h,go_sem,go_sem_proc,n4,bu,ay,bL,bj,bJ,dz,h4,X,aD,H,acr,d1,bl,U,av,nr,cg,rH,dr,aa,xe,ni,jA,aw,cD,ah,aW]
  refine⟨j+1,by omega,by omega,rfl,rfl,λk L=>?_⟩
  simp only[a5,L,if_false];exact bC k L
 ·have d1:decide ((j:Int)<(D aR:Int))=false:=cu;obtain rfl:j=D aR:=by omega
  rw[kN] at aD;simp only[go_sem,go_sem_proc,bu,ay,bL,bj,bJ,dz,h4,d1,ah];repeat' (first|refine al ?_ ?_|fail)<;>intro h<;>simp only[h,go_sem,go_sem_proc,bu,ay,bL,bj,bJ,dz,h4,d1,ah]
  refine cX _ _ ?_ ?_ ?_ ?_ ?_ ?_ aD bC<;>simp only[dv,cx,if_false,bu,ay,bL,bj,bJ,dz]
end Go.Mini
namespace Go.Mini
open Classical
def kT (d:Day)(l:List aB)(i:Nat):Rat:=ck (l.map ca) λc=>if c.to=(i:Int) then d.w c else 0
theorem az6 (d:Day)(i:Nat):kT d [] i=0:=rfl
theorem alT (d:Day)(l:List aB)(c:aB)(i:Nat):kT d (l++[c]) i=kT d l i+if c.2.1=(i:Int) then d.w (ca c) else 0:=by
 unfold kT;rw[kg,NQ]
 congr 1
 show (if (ca c).to=(i:Int) then d.w (ca c) else 0)+0=_;rw[pr]
 rfl
theorem az7 {E:List Int}{cs:List aB}(h:g9 E cs=true)(f:Nat->Nat)(k i:Nat):kT (ak E cs) (dA cs k (f k)) i=(ak E cs).W f k i:=by
 have X:=(hB.1 h).2.2.2;unfold kT Day.W;rw[abJ λc H=>⟨(X c H).1,(X c H).2.2.2.2.1⟩];refine uD λc _=>?_
 by_cases G:c.aE=k/\c.bM=f k
 ·rw[ad G]
  by_cases J:c.to=(i:Int)
  ·rw[ad J,ad ⟨J,G⟩]
  ·rw[ag J,ag λh=>J h.1]
 ·rw[ag G,ag λh=>G h.2]
section
variable {E:List Int} {cs:List aB} (Q:e5 E cs) {k r:Nat} (dn:0<(ak E cs).S k r)
include Q dn
theorem S4 {c:aB}(H:c∈dA cs k r):fv (kS cs k r) ((ak E cs).w (ca c))/\0<=(ak E cs).w (ca c)/\(ak E cs).w (ca c)=(c.2.2.2:Rat)/((hj cs k r:Int):Rat):=by
 obtain⟨G,J,af⟩:=Gs.1 H;have ay:(ca c).aE=k:=by show c.1.toNat=k;omega
 have aA:(ca c).bM=r:=by show c.2.2.1.toNat=r;omega
 have hm:ca c∈(ak E cs).dt:=List.mem_map_of_mem G;refine⟨⟨c.2.2.2,?_⟩,Q.ok.su hm,?_⟩
 ·rw[Gl Q.right,<-ay,<-aA];exact Day.Ji (by rw[ay,aA];exact dn)
 ·unfold Day.w hj;rw[ay,aA];have:=Jp Q.right k r;rw[<-this]
  rfl
theorem az8 {l:List aB}(az:∃fL,dA cs k r=l++fL)(i:Nat):eJ 29 (kT (ak E cs) l i):=by
 obtain⟨fL,az⟩:=az;have ia:∀c∈l,c∈dA cs k r:=λc H=>by rw[az];simp[H]
 have az9:∀c∈fL,c∈dA cs k r:=λc H=>by rw[az];simp[H]
 have ab:fv (kS cs k r) (kT (ak E cs) l i):=by
  unfold kT;refine fv.ck λx M=>?_;obtain⟨c,H,rfl⟩:=gE.1 M
  split
  ·exact (S4 Q dn (ia c H)).1
  ·exact fv.zero _
 have aj:∀m:List aB,(∀c∈m,c∈dA cs k r)->0<=kT (ak E cs) m i:=λm hm=>z5 λx M=>by
  obtain⟨c,H,rfl⟩:=gE.1 M
  try dsimp only
  split
  ·exact (S4 Q dn (hm c H)).2.1
  ·exact g8
 have G:kT (ak E cs) l i<=1:=by
  have e:kT (ak E cs) (dA cs k r) i=kT (ak E cs) l i+kT (ak E cs) fL i:=by
   rw[az];unfold kT;rw[kg,NQ]
  have aA:kT (ak E cs) (dA cs k r) i<=ck ((dA cs k r).map ca) (ak E cs).w:=Gc λx M=>by
   obtain⟨c,H,rfl⟩:=gE.1 M;have:=(S4 Q dn H).2.1
   split
   ·exact g8
   ·exact this
  have X:=(hB.1 Q.right).2.2.2;rw[abJ λc H=>⟨(X c H).1,(X c H).2.2.2.2.1⟩] at aA
  have bQ:ck (cs.map ca) (λc=>if c.aE=k/\c.bM=r then (ak E cs).w c else 0)=1:=by
   have L:k<(ak E cs).n:=by
    obtain⟨c,H,aC⟩:=aat dn
    by_cases oe:c.aE=k/\c.bM=r
    ·rw[<-oe.1];exact Q.ok.aE c H
    ·rw[ag oe] at aC;grind
   have:=Q.ok.Nl (λj=>j=k) (λ_=>r) (λj ax=>by subst ax;exact dn) λ_=>1;rw[BV L (λj _ ax=>by rw[ag ax]),ad rfl] at this;refine (uD λc _=>?_).trans this
   by_cases H:c.aE=k/\c.bM=r
   ·rw[ad H,ad H,Rat.mul_one]
   ·rw[ag H,ag H]
  have:=aj fL az9;grind
 have fM:0<kS cs k r:=by
  rw[<-Gl Q.right] at dn;exact_mod_cast dn
 exact (ab.sz fM (Q.DR k r) (aj l ia) (e:=0) (by rw[show ((2^0:Nat):Rat)=1 from rfl];exact G)).mono (by omega)
end
end Go.Mini
namespace Go.Mini
open Go
def kU (l:List aB):R:=if l=[] then .nil else .I (.Y (l.map bw))
theorem aAa {a b:List aB}(h:kU a=kU b):a=b:=by
 unfold kU at h
 by_cases a4:a=[]<;>by_cases ai:b=[]
 ·rw[a4,ai]
 ·rw[ad a4,ag ai] at h;cases h
 ·rw[ag a4,ad ai] at h;cases h
 ·rw[ag a4,ag ai] at h;exact map_inj sA _ _ (Data.Y.inj (R.I.inj h))
theorem alU (l:List aB):rN (kU l)=some (D l):=by
 unfold kU
 split
 ·rename_i h;rw[h];rfl
 ·simp[rN]
theorem alV {l:List aB}{n:Nat}{c:aB}(h:l[n]?=some c):AE 4 n (kU l)=some (.I (.ptr (bw c))):=by
 unfold kU
 split
 ·rename_i az;rw[az] at h;cases h
 ·simp only[AE,aW,h,Option.map_some];rw[ad (yM c)]
structure py where
 E:Int
 dt:List (List aB)
 us:List Int
 f:Int
 p:Bool
def fZ (x:py):List R:=db x.E::(x.dt.map kU++(x.us.map db++[db x.f,hi x.p]))
def py.yU (x:py)(f:Int):py:=⟨x.E,x.dt,x.us,f,x.p⟩
def py.sp (x:py)(p:Bool):py:=⟨x.E,x.dt,x.us,x.f,p⟩
structure py.dF (x:py):Prop where
 dt:(D x.dt)=10
 us:(D x.us)=11
theorem D3 {x:py}(h:x.dF):(fZ x).length=24:=by
 simp[fZ,h.dt,h.us]
theorem aAb {x y:py}(M:x.dF)(ao:y.dF)(h:fZ x=fZ y):x=y:=by
 unfold fZ at h;obtain⟨G,J⟩:=x8 h;obtain⟨af,aP⟩:=H0 J (by rw[ah,ah,M.dt,ao.dt]);obtain⟨bh,bK⟩:=H0 aP (by rw[ah,ah,M.us,ao.us]);obtain⟨bE,bP⟩:=x8 bK;obtain⟨eA,-⟩:=x8 bP;obtain⟨bb,b3,c7,eV,kn⟩:=x;obtain⟨nv,o4,vK,vL,aKy⟩:=y;have aA:=map_inj (λa b h=>aAa h) _ _ af;have bQ:=ak5 bh;simp only[db,hi,R.I.injEq,Data.int.injEq,Data.bool.injEq,true_and] at G bE eA;dsimp only at *;rw[G,aA,bQ,bE,eA]
section
variable {x:py} (h:x.dF)
include h
omit h in
theorem aAc:iu 1 (fZ x)=[db x.E]:=rfl
omit h in
theorem alW {k:Nat}{l:List aB}(L:x.dt[k]?=some l):iu 1 (jn (1+k) (fZ x))=[kU l]:=by
 have av:=(eg.1 L).1;unfold fZ;rw[AA,D4,alX (by rw[ah];omega),DB (by rw[oi,ah];omega)];exact xm (f:=kU) L
theorem Od {k:Nat}{z:Int}(L:x.us[k]?=some z):iu 1 (jn (11+k) (fZ x))=[db z]:=by
 have av:=(eg.1 L).1;unfold fZ;rw[show 11+k=(10+k)+1 by omega,D4,sV,mA (by rw[ah,h.dt];omega),ah,h.dt,ir,show 10+k-10=k by omega,alX (by rw[ah];omega),DB (by rw[oi,ah];omega)]
 exact xm (f:=db) L
theorem Oe:iu 1 (jn 22 (fZ x))=[db x.f]:=by
 unfold fZ;rw[D4,sV,mA (by rw[ah,h.dt];omega),ah,h.dt,ir,sV,mA (by rw[ah,h.us];omega),ah,h.us]
 rfl
theorem alY:iu 1 (jn 23 (fZ x))=[hi x.p]:=by
 unfold fZ;rw[D4,sV,mA (by rw[ah,h.dt];omega),ah,h.dt,ir,sV,mA (by rw[ah,h.us];omega),ah,h.us]
 rfl
theorem aAd (f:Int):iu 22 (fZ x)++[R.I (.int .i64 f)]++jn 23 (fZ x)=fZ (x.yU f):=by
 have e:fZ x=(db x.E::(x.dt.map kU++x.us.map db))++[db x.f,hi x.p]:=by simp[fZ]
 have l:(db x.E::(x.dt.map kU++x.us.map db)).length=22:=by simp[h.dt,h.us]
 rw[e,DB (by omega),dH (by omega),sV,mA (by omega),l];simp[fZ,py.yU,db]
theorem alZ (p:Bool):iu 23 (fZ x)++[R.I (.bool p)]++jn 24 (fZ x)=fZ (x.sp p):=by
 have e:fZ x=(db x.E::(x.dt.map kU++(x.us.map db++[db x.f])))++[hi x.p]:=by simp[fZ]
 have l:(db x.E::(x.dt.map kU++(x.us.map db++[db x.f]))).length=23:=by simp[h.dt,h.us]
 rw[e,DB (by omega),dH (by omega),sV,mA (by omega),l];simp[fZ,py.sp,hi]
end
structure du where
 E:List Int
 cs:List aB
 aJ:List Int
 P:List Bool
 g:Nat
 gs:List Nat
def du.ha (a:du)(i:Nat):py:=⟨a.E.getD i 0,bx 10 λk=>dA a.cs i k,bx 11 λk=>b0 a.cs i (k:Nat),a.aJ.getD i 10,a.P.getD i false⟩
theorem du.yV (a:du)(i:Nat):(a.ha i).dF:=⟨gn _ _,gn _ _⟩
structure du.fb (a:du) (m:Mem):Prop where
 can:a.cs=dV (D a.E) a.cs
 aJ:(D a.aJ)=D a.E
 pl:(D a.P)=D a.E
 S5:(D a.gs)=D a.E
 row:m 228023=some (a.g,bx (D a.E) λi => .ptr (228500+i) (a.gs.getD i 0) 0)
 ek:∀i,i<(D a.E)->m (228500+i)=some (a.gs.getD i 0,fZ (a.ha i))
theorem Of {α:Type}{d:α}{n:Nat}{a b:List α}(a4:(D a)=n)(ai:(D b)=n)(h:∀i,i<n->a.getD i d=b.getD i d):a=b:=by
 apply pJ;intro i;rcases hn i n with U|U
 ·have:=h i U;rw[ez,ez,bB (by omega),bB (by omega)] at this;rw[bB (by omega),bB (by omega)];exact congrArg some this
 ·rw[iD (by omega),iD (by omega)]
theorem al0 {α:Type}{n:Nat}{p q:Nat->α}(h:bx n p=bx n q):∀i,i<n->p i=q i:=λi U=>by
 have G:=jX p U;rw[h,jX q U] at G;exact (pL G).symm
theorem du.uniq {a b:du}{m:Mem}(h:a.fb m)(cv:b.fb m):a=b:=by
 obtain⟨cE,cS,dU,eN,vR,uJ⟩:=a;obtain⟨c0,et,gN,hz,azf,ala⟩:=b;obtain⟨au,c2,c3,c4,NT,NU⟩:=h;obtain⟨d1,d2,d3,d4,d5,d6⟩:=cv;dsimp only at *;rw[NT,cO,fJ] at d5;obtain⟨rfl,fh⟩:=d5
 have aM:(D cE)=D c0:=by
  have:=congrArg D fh;rwa [gn,gn] at this
 rw[<-aM] at fh d1 d2 d3 d4 d6
 have bq:uJ=ala:=Of (d:=0) c4 d4 λi U=>by
  have:=al0 fh i U;rw[R.ptr.injEq] at this;exact this.2.1
 subst bq
 have ai:∀i,i<(D cE)->du.ha ⟨cE,cS,dU,eN,vR,uJ⟩ i=du.ha ⟨c0,et,gN,hz,vR,uJ⟩ i:=λi U=>by
  have G:=NU i U;rw[d6 i U,cO,fJ] at G;exact (aAb (du.yV _ _) (du.yV _ _) G.2).symm
 simp only[du.ha,py.mk.injEq] at ai;have ay:cE=c0:=Of (d:=0) rfl aM.symm λi U=>(ai i U).1;subst ay
 have aA:cS=et:=by
  rw[au,d1];exact akL λi U k L=>al0 (ai i U).2.1 k L
 have bQ:dU=gN:=Of (d:=10) c2 d2 λi U=>(ai i U).2.2.2.1;have bL:eN=hz:=Of (d:=false) c3 d3 λi U=>(ai i U).2.2.2.2;rw[aA,bQ,bL]
theorem du.fb.aE {a:du}{mem m:Mem}{n:Nat}(h:a.fb mem)(aD:dG n mem m)(aM:n≠228)(bh:(D a.E)<=5):a.fb m :=
 ⟨h.can,h.aJ,h.pl,h.S5,by rw[aD 228023 (by omega)];exact h.row,λi U=>by rw[aD (228500+i) (by omega)];exact h.ek i U⟩
def Og:b1:=cq 107 3 [.cell 6 4 true,.t 7] (O [(ar 6 (.alloc 221006 [(Z 0),.nil,(Z 0),.nil])),ba 7 0] (.seq (O [F 18 0,F 19 1,(b2 20 VZ 18 19),fu 21 20,F 22 21,⟨some 23,some (22,false),.b8 (.t 2)⟩,⟨some 24,some (22,false),.bin .lss (.t 23) (.c (Z 0))⟩,c6 25 22 24,F 26 25,⟨some 27,some (26,false),.b8 (.t 2)⟩,⟨some 28,some (26,false),.b8 (.t 0)⟩,⟨some 29,some (26,false),.len (.t 28)⟩,⟨some 30,some (26,false),.bin .geq (.t 27) (.t 29)⟩,c6 31 26 30] (aQ 31 (O [(ar 32 (.build [(Z 0),.nil,(Z 0),.nil] [])),aT 4 6 32,ba 7 1] .ret) .skip)) (O [F 33 0,(ar 34 (.oX 221034 1 wK [(.t 33)])),F 8 34,ba 9 0] (O [ec 10] (.seq (O [F 35 1,cC 36 35,ba 37 0] (.block 0 (.ghost (.nn 10 221048 4) (.loop  (O [bA 38 .lss 37 36] (.seq (aQ 38 .skip (.exit 0)) (.seq (.block 1 (O [bI 39 4 35 37,aY 40 4 39,(ar 12 (.alloc 221012 [(Z 0),(Z 0),(Z 0),(Z 0)])),aT 4 12 40] (.seq (O [aI 41 0 12,aG 42 1 41,F 43 2,bA 44 .neq 42 43] (aQ 44 (O [F 45 10,aY 46 4 12,(ar 47 (.eL 221047 false [(Z 0),(Z 0),(Z 0),(Z 0)] 4 1 [(0,4,(.t 46))])),(ar 48 (.app 221048 [(Z 0),(Z 0),(Z 0),(Z 0)] 32 (.t 45) (.t 47))),F 10 48] (.exit 1)) .skip)) (O [F 49 9,aI 50 3 12,aG 51 1 50,bA 52 .add 49 51,F 9 52] (O [aI 53 1 12,aG 54 1 53,a7 55 .geq 54 0] (aQ 55 (.my [F 56 8,aI 57 1 12,aG 58 1 57,bI 59 1 56 58,aG 60 1 59,aI 61 3 12,aG 62 1 61,bA 63 .add 60 62,bI 64 1 56 58,aT 1 64 63] LP) .skip)))))) (.ops [a7 65 .add 37 1,F 37 65])))))))) (.seq (O [F 66 8,(dT 67 V0 66),a7 68 .gtr 67 1000000000000000] (aQ 68 (O [(ar 69 (.build [(Z 0),.nil,(Z 0),.nil] [])),aT 4 6 69,ba 7 6] .ret) .skip)) (.seq (.ghost (.freeze 8) (.ghost (.freeze 10) (.ops [F 71 8,F 72 10,(b2 73 VU 71 72),F 70 73,a6 74 0 70,a6 75 1 70,(ar 13 (.alloc 221013 [.nil,.nil,.nil])),aT 3 13 74,F 14 75]))) (.seq (O [F 76 14,a7 77 .neq 76 0] (aQ 77 (O [(ar 78 (.build [(Z 0),.nil,(Z 0),.nil] [])),aT 4 6 78,ba 7 6] .ret) .skip)) (O [F 80 9,(ar 81 (.call zx [(.t 80),(.c (Z 1))])),F 79 81,a6 82 0 79,a6 83 1 79,(ar 15 (.alloc 221015 [(Z 0),.nil,(Z 0),.nil])),aT 4 15 82,F 16 83] (eT [aY 85 4 15,aI 86 0 13,aG 87 1 86,F 88 2,bI 89 4 87 88,aY 90 4 89,(b2 91 wH 85 90),F 84 91,a6 92 0 84,a6 93 1 84,(ar 17 (.alloc 221017 [(Z 0),.nil,(Z 0),.nil])),aT 4 17 92,F 14 93] [[],[],[],[],[],[],[],[],[],[],[0,2,5],[],[]] (.seq (.block 2 (O [F 95 14,a7 96 .neq 95 0,F 94 96] (aQ 94 (O [(ar 97 (.build [(Z 0),.nil,(Z 0),.nil] [])),aT 4 6 97,ba 7 6] .ret) (O [aI 99 0 17,aI 100 0 99,aG 101 1 100,a7 102 .lss 101 0,F 98 102] (aQ 98 (O [(ar 103 (.call zx [(.c (Z 0)),(.c (Z 1))])),a6 104 0 103,a6 105 1 103,aT 4 6 104,F 7 105] .ret) .skip))))) (O [aY 106 4 17,aT 4 6 106,ba 7 0] .ret))))))))))))
def acs:b1:=cq 21 2 [.t 4] (O [dB 2 238002 0,dd 4 false] (.seq (O [aG 5 1 2,cC 6 5,a7 7 .gtr 6 60,F 8 7,⟨some 9,some (8,false),.b8 (.t 1)⟩,⟨some 10,some (8,false),.len (.t 9)⟩,⟨some 11,some (8,false),.bin .gtr (.t 10) (.c (Z 2000))⟩,c6 12 8 11,F 13 12,⟨some 14,some (13,false),.load 1 false (.t 2)⟩,⟨some 15,some (13,false),.call LI [(.t 14),(.c (.gX LK []))]⟩,c6 16 13 15] (aQ 16 (O [dd 4 false] .ret) .skip)) (O [F 17 1,(ar 18 (.wg LM [(.t 2)])),(b2 19 LJ 17 18),fu 20 19,F 4 20] .ret)))
def acu:b1:=cq 6 1 [.t 2] (O [dd 2 false] (O [F 3 0,(dT 4 LL 3),fu 5 4,F 2 5] .ret))
def acv:b1:=cq 9 1 [.t 2] (O [dd 2 false] (O [F 3 0,a7 4 .geq 3 0,F 5 4,⟨some 6,some (5,true),.b8 (.t 0)⟩,⟨some 7,some (5,true),.bin .leq (.t 6) (.c (Z 1000000000000000))⟩,hF 8 5 7,F 2 8] .ret))
def acw:b1:=cq 42 2 [.t 3] (O [dB 2 252002 0,dd 3 false] (O [aI 4 0 2,aG 5 1 4,a7 6 .lss 5 0,F 7 6,⟨some 8,some (7,false),.dQ 0 (.t 2)⟩,⟨some 9,some (7,false),.load 1 false (.t 8)⟩,⟨some 10,some (7,false),.load 1 false (.t 1)⟩,⟨some 11,some (7,false),.len (.t 10)⟩,⟨some 12,some (7,false),.bin .geq (.t 9) (.t 11)⟩,c6 13 7 12,F 14 13,⟨some 15,some (14,false),.dQ 1 (.t 2)⟩,⟨some 16,some (14,false),.load 1 false (.t 15)⟩,⟨some 17,some (14,false),.bin .lss (.t 16) (.c (.I (.int .i64 (-1))))⟩,c6 18 14 17,F 19 18,⟨some 20,some (19,false),.dQ 1 (.t 2)⟩,⟨some 21,some (19,false),.load 1 false (.t 20)⟩,⟨some 22,some (19,false),.load 1 false (.t 1)⟩,⟨some 23,some (19,false),.len (.t 22)⟩,⟨some 24,some (19,false),.bin .geq (.t 21) (.t 23)⟩,c6 25 19 24,F 26 25,⟨some 27,some (26,false),.dQ 2 (.t 2)⟩,⟨some 28,some (26,false),.load 1 false (.t 27)⟩,⟨some 29,some (26,false),.bin .lss (.t 28) (.c (Z 0))⟩,c6 30 26 29,F 31 30,⟨some 32,some (31,false),.dQ 2 (.t 2)⟩,⟨some 33,some (31,false),.load 1 false (.t 32)⟩,⟨some 34,some (31,false),.bin .geq (.t 33) (.c (Z 10))⟩,c6 35 31 34,F 36 35,⟨some 37,some (36,false),.dQ 3 (.t 2)⟩,⟨some 38,some (36,false),.load 1 false (.t 37)⟩,⟨some 39,some (36,false),.call LL [(.t 38)]⟩,⟨some 40,some (36,false),.un .not (.t 39)⟩,c6 41 36 40,F 3 41] .ret))
abbrev S6:Int×Int×Int->List Data:=λ(x,a,b)=>[.int .i64 x,.int .i64 a,.int .i64 b]
def S7:=cy S6 λ(x,a,b)=>some (.same (.bool (decide (a<=x)&&decide (x<=b))))
theorem al1:∀a b,S6 a=S6 b->a=b:=by
  rintro⟨bb,cE,c0⟩ ⟨b3,cS,et⟩ h;simp only[bf,Data.int.injEq,Data.agg.injEq,Data.Y.injEq,Data.bool.injEq,Data.str.injEq,Data.ptr.injEq,Data.cB.injEq,fJ,true_and,and_true] at h ⊢
  first|exact h|simpa [H2,and_assoc] using h|grind
@[go_sem] theorem aKz (x:Int)(a:Int)(b:Int):S7 [.int .i64 x,.int .i64 a,.int .i64 b]=some (.same (.bool (decide (a<=x)&&decide (x<=b)))):=cF al1 (x,a,b)
theorem aAe (T:bm)  (x:Int) (a:Int) (b:Int):WP T Yf (.same (.bool (decide (a<=x)&&decide (x<=b)))) [.I (.int .i64 x),.I (.int .i64 a),.I (.int .i64 b)]:=by
 refine cH ?_;simp only[Yf];rcases au:decide (a<=x)
 ·have c2:decide (x>=a)=false:=au;refine a1 ?_;repeat' (intro h<;>simp only[h,go_sem,go_sem_proc,au,c2,fr]<;>try refine al ?_ ?_)
 ·have c2:decide (x>=a)=true:=au;refine a1 ?_;repeat' (intro h<;>simp only[h,go_sem,go_sem_proc,au,c2,fP]<;>try refine al ?_ ?_)
abbrev acx:Int->List Data:=λ(x:Int)=>[.int .i64 x,.ptr [.fn wL []]]
def acy:=cy acx λ(x:Int)=>some (.same (.bool (!jW x)))
theorem aAf:∀a b,acx a=acx b->a=b:=by
  intro bb b3 h;simp only[bf,Data.int.injEq,Data.agg.injEq,Data.Y.injEq,Data.bool.injEq,Data.str.injEq,Data.ptr.injEq,Data.cB.injEq,fJ,true_and,and_true] at h ⊢
  first|exact h|simpa [H2,and_assoc] using h|grind
@[go_sem] theorem aKA (x:Int):acy [.int .i64 x,.ptr [.fn wL []]]=some (.same (.bool (!jW x))):=cF aAf x
theorem aAg (T:bm)(acz:T wL=aO S7)(x:Int):WP T Yg (.same (.bool (!jW x))) [.I (.int .i64 x),.I (.ptr [.fn wL []])]:=by
 refine cH ?_;simp only[Yg];unfold jW;refine a1 ?_;repeat' (intro h<;>simp only[h,go_sem,go_sem_proc,acz]<;>try refine al ?_ ?_)
abbrev acA:Int×Int×Int×Int×Int->List Data:=λ(a,b,k,x,n)=>[.agg [.int .i64 a,.int .i64 b,.int .i64 k,.int .i64 x],.ptr [.fn wL []],.ptr [.int .i64 n]]
def acB:=cy acA λ(a,b,k,x,n)=>cT (0<=n/\n<=1000000) (.same (.bool (!lQ n (a,b,k,x))))
theorem aAh:∀a b,acA a=acA b->a=b:=by
  rintro⟨cE,c0,cL,bb,h0⟩ ⟨cS,et,dN,b3,iE⟩ h;simp only[bf,Data.int.injEq,Data.agg.injEq,Data.Y.injEq,Data.bool.injEq,Data.str.injEq,Data.ptr.injEq,Data.cB.injEq,fJ,true_and,and_true] at h ⊢
  first|exact h|simpa [H2,and_assoc] using h|grind
@[go_sem] theorem aKB (a:Int)(b:Int)(k:Int)(x:Int)(n:Int)(H:0<=n/\n<=1000000):acB [.agg [.int .i64 a,.int .i64 b,.int .i64 k,.int .i64 x],.ptr [.fn wL []],.ptr [.int .i64 n]]=some (.same (.bool (!lQ n (a,b,k,x)))):=(cF aAh (a,b,k,x,n)).trans (cY H _)
theorem aAi (T:bm)(acz:T wL=aO S7)(a:Int)(b:Int)(k:Int)(x:Int)(n:Int)(H:0<=n/\n<=1000000):WP T Yh (.same (.bool (!lQ n (a,b,k,x)))) [.I (.agg [.int .i64 a,.int .i64 b,.int .i64 k,.int .i64 x]),.I (.ptr [.fn wL []]),.I (.ptr [.int .i64 n])]:=by
 refine cH ?_;simp only[Yh];have w:IntKind.i64.wrap (n-1)=n-1:=by rw[e7 _]
 have e:lQ n (a,b,k,x)=((decide (0<=a)&&decide (a<=n-1))&&((decide (-1<=b)&&decide (b<=n-1))&&((decide (0<=k)&&decide (k<=9))&&(decide (0<=x)&&decide (x<=1000000000000000))))):=by
  rw[ym,NS];simp only[gb,decide_eq_true_eq];omega
 rw[e];rcases au:(decide (0<=a)&&decide (a<=n-1))<;>rcases c2:(decide (-1<=b)&&decide (b<=n-1))<;>rcases c3:(decide (0<=k)&&decide (k<=9))<;>rcases c4:(decide (0<=x)&&decide (x<=1000000000000000))
 all_goals
      refine a1 ?_;repeat' (intro h<;>simp only[h,go_sem,go_sem_proc,acz,w,au,c2,c3,c4]<;>try refine al ?_ ?_)
abbrev acC:Int×(List bG)×Nat->List Data:=λ(z,h,i)=>[.int .i64 z,.ptr [.Y (h.map aw)],.ptr [.int .i64 i]]
def acD:=cy acC λ(z,h,i)=>cT (df z/\i<D h/\rk h) (.same (.bool (decide (pf (h.getD i c1) (aq (z:Rat))<0))))
theorem aAj:∀a b,acC a=acC b->a=b:=by
  rintro⟨jq,G,i1⟩ ⟨iL,J,i2⟩ h;simp only[bf,Data.int.injEq,Data.ptr.injEq,Data.Y.injEq,and_true,true_and] at h;exact ei h.1 (ei (map_inj uk _ _ h.2.1) (by have:=h.2.2;dsimp only;omega))
@[go_sem] theorem aAk (z:Int)(h:List bG)(i:Nat)(H:df z/\i<D h/\rk h):acD [.int .i64 z,.ptr [.Y (h.map aw)],.ptr [.int .i64 i]]=some (.same (.bool (decide (pf (h.getD i c1) (aq (z:Rat))<0)))):=(cF aAj (z,h,i)).trans (cY H _)
theorem aAl (T:bm)(ig:T qz=aO xk)(hW:T u9=aO zS)(z:Int)(h:List bG)(i:Nat)(H:df z/\i<D h/\rk h):WP T Yd (.same (.bool (decide (pf (h.getD i c1) (aq (z:Rat))<0)))) [.I (.int .i64 z),.I (.ptr [.Y (h.map aw)]),.I (.ptr [.int .i64 i])]:=by
 refine cH ?_;simp only[Yd];obtain⟨a2,U,cR⟩:=H;have hw:=DT z a2;obtain⟨x,M⟩:∃x,h[i]?=some x:=⟨_,bB U⟩;have Iz:h.getD i c1=x:=by rw[ez,M];rfl
 obtain⟨p1,p2⟩:=cR.2 x (dS M);obtain⟨JH,JI⟩:=lP (n3 a2);rw[Iz];generalize aq (z:Rat)=nW at *;obtain⟨⟨cE,cS⟩,⟨dU,eN⟩⟩:=nW;obtain⟨⟨c0,et⟩,⟨gN,hz⟩⟩:=x;have yc:=ahx c0 et gN hz cE cS dU eN ⟨p1,p2,JH,JI⟩;simp only[aw] at hw;simp only[go_sem,go_sem_proc,ig,hW,hw,M,yc,aw,ah,aW];repeat' (first|refine al ?_ ?_|fail)<;>intro h<;>simp only[h,go_sem,go_sem_proc,ig,hW,hw,M,yc,aw,ah,aW]
def S8:=cy x2 λ(x:Int)=>some (.same (.bool (jW x)))
@[go_sem] theorem aKC (x:Int):S8 [.int .i64 x]=some (.same (.bool (jW x))):=cF Bd x
theorem aAm (T:bm)  (x:Int):WP T acv (.same (.bool (jW x))) [.I (.int .i64 x)]:=by
 refine cH ?_;simp only[acv];unfold jW;rcases au:decide (0<=x)
 ·have c2:decide (x>=0)=false:=au;refine a1 ?_;repeat' (intro h<;>simp only[h,go_sem,go_sem_proc,au,c2,fr]<;>try refine al ?_ ?_)
 ·have c2:decide (x>=0)=true:=au;refine a1 ?_;repeat' (intro h<;>simp only[h,go_sem,go_sem_proc,au,c2,fP]<;>try refine al ?_ ?_)
def acE:=cy x2 λ(x:Int)=>some (.same (.bool (!jW x)))
@[go_sem] theorem aKD (x:Int):acE [.int .i64 x]=some (.same (.bool (!jW x))):=cF Bd x
theorem aAn (T:bm)(Oh:T LL=aO S8)(x:Int):WP T acu (.same (.bool (!jW x))) [.I (.int .i64 x)]:=by
 refine cH ?_;simp only[acu];refine a1 ?_;repeat' (intro h<;>simp only[h,go_sem,go_sem_proc,Oh]<;>try refine al ?_ ?_)
inductive B7 where
 |right
 |day
 |solve (h:List bG) (i:Nat)
def tu:B7->Data
 |.right => .fn LG [.ptr [.fn wL []]]
 |.day => .fn LK []
 |.solve h i => .fn LF [.ptr [.Y (h.map aw)],.ptr [.int .i64 i]]
theorem aAo:∀a b:B7,tu a=tu b->a=b:=by
 rintro (_|_|⟨h,i⟩) (_|_|⟨cv,bn⟩) e
 all_goals first|rfl|(simp[tu,LG,LK,LF] at e;done)|skip
 simp only[tu,Data.fn.injEq,bf,Data.ptr.injEq,Data.Y.injEq,Data.int.injEq,and_true,true_and] at e;rw[map_inj uk _ _ e.1,show i=bn by omega]
def kV:B7->Int->Bool
 |.right,x => !jW x
 |.day,x => !jW x
 |.solve h i,x=>decide (pf (h.getD i c1) (aq (x:Rat))<0)
def JL (l:List Int):B7->Prop
 |.right=>True
 |.day=>True
 |.solve h i=>i<D h/\rk h/\∀x∈l,df x
abbrev S9:(List Int)×B7->List Data:=λ(l,c)=>[.Y (l.map ae),tu c]
def JM:=cy S9 λ(l,c)=>cT (D l<=1000000/\JL l c) (.same (.int .i64 (pg (kV c) l)))
theorem al2:∀a b,S9 a=S9 b->a=b:=by
  rintro⟨dr,au⟩ ⟨aa,c2⟩ h;simp only[bf,Data.Y.injEq,and_true] at h;exact ei (map_inj hp _ _ h.1) (aAo _ _ h.2)
@[go_sem] theorem aAp (l:List Int)(c:B7)(H:(D l)<=1000000/\JL l c):JM [.Y (l.map ae),tu c]=some (.same (.int .i64 (pg (kV c) l))):=(cF al2 (l,c)).trans (cY H _)
theorem aAq (T:bm)(lV:T LG=aO acy)(lW:T LK=aO acE)(lX:T LF=aO acD)(l:List Int)(c:B7)(H:(D l)<=1000000/\JL l c):WP T WK (.same (.int .i64 (pg (kV c) l))) [.I (.Y (l.map ae)),.I (tu c)]:=by
 refine cH ?_;simp only[WK];obtain⟨az,cR⟩:=H
 cases c with
 |right =>
  simp only[go_sem,go_sem_proc,lV,lW,lX,tu,ah];refine c9 [0,1,7] [] (λ(i:Nat) tm mem=>i<=D l/\(∀x∈l.take i,kV .right x=false)/\tm 8=.I (.int .i64 i)) (λi=>D l-i) 0 (by refine⟨fA _,by simp,rfl⟩) ?_;intro vs ms aK aF;simp only[go_sem,go_sem_proc,lV,lW,lX,ah] at aK aF;subst aK aF;rintro i tm mem L hm ⟨U,dO,bP⟩;simp only[go_sem,go_sem_proc,lV,lW,lX,bf] at L hm;obtain⟨aj,G,bE⟩:=L;rcases dk (i<D l) with av|b4
  ·have M:=bB av;have bW:=λh=>Dh (p:=kV .right) dO M h;have hD:=λh=>BB (p:=kV .right) dO M h;generalize l[i]=x at *;have ee:decide ((i:Int)<(D l:Int))=true:=c5;have hw:=eu (i:=i) (by omega);rcases ai:kV .right x
   ·have X:jW x=true:=by simpa [kV] using ai
    simp only[go_sem,go_sem_proc,lV,lW,lX,aj,G,bE,bP,M,ee,hw,X,ae,ah,aW,bT];repeat' (first|refine al ?_ ?_|fail)<;>intro h<;>simp only[h,go_sem,go_sem_proc,lV,lW,lX,aj,G,bE,bP,M,ee,hw,X,ae,ah,aW,bT]
    exact⟨i+1,by omega,by omega,hD ai,rfl⟩
   ·have X:jW x=false:=by simpa [kV] using ai
    rw[bW ai];simp only[go_sem,go_sem_proc,lV,lW,lX,aj,G,bE,bP,M,ee,hw,X,ae,ah,aW,cp];repeat' (first|refine al ?_ ?_|fail)<;>intro h<;>simp only[h,go_sem,go_sem_proc,lV,lW,lX,aj,G,bE,bP,M,ee,hw,X,ae,ah,aW,cp]
  ·have ee:decide ((i:Int)<(D l:Int))=false:=cu;obtain rfl:i=D l:=by omega
   rw[kN] at dO;rw[FE dO];simp only[go_sem,go_sem_proc,lV,lW,lX,aj,G,bE,bP,ee,ah];repeat' (first|refine al ?_ ?_|fail)<;>intro h<;>simp only[h,go_sem,go_sem_proc,lV,lW,lX,aj,G,bE,bP,ee,ah]
 |day =>
  simp only[go_sem,go_sem_proc,lV,lW,lX,tu,ah];refine c9 [0,1,7] [] (λ(i:Nat) tm mem=>i<=D l/\(∀x∈l.take i,kV .day x=false)/\tm 8=.I (.int .i64 i)) (λi=>D l-i) 0 (by refine⟨fA _,by simp,rfl⟩) ?_;intro vs ms aK aF;simp only[go_sem,go_sem_proc,lV,lW,lX,ah] at aK aF;subst aK aF;rintro i tm mem L hm ⟨U,dO,bP⟩;simp only[go_sem,go_sem_proc,lV,lW,lX,bf] at L hm;obtain⟨aj,G,bE⟩:=L;rcases dk (i<D l) with av|b4
  ·have M:=bB av;have bW:=λh=>Dh (p:=kV .day) dO M h;have hD:=λh=>BB (p:=kV .day) dO M h;generalize l[i]=x at *;have ee:decide ((i:Int)<(D l:Int))=true:=c5;have hw:=eu (i:=i) (by omega);rcases ai:kV .day x
   ·have X:jW x=true:=by simpa [kV] using ai
    simp only[go_sem,go_sem_proc,lV,lW,lX,aj,G,bE,bP,M,ee,hw,X,ae,ah,aW,bT];repeat' (first|refine al ?_ ?_|fail)<;>intro h<;>simp only[h,go_sem,go_sem_proc,lV,lW,lX,aj,G,bE,bP,M,ee,hw,X,ae,ah,aW,bT]
    exact⟨i+1,by omega,by omega,hD ai,rfl⟩
   ·have X:jW x=false:=by simpa [kV] using ai
    rw[bW ai];simp only[go_sem,go_sem_proc,lV,lW,lX,aj,G,bE,bP,M,ee,hw,X,ae,ah,aW,cp];repeat' (first|refine al ?_ ?_|fail)<;>intro h<;>simp only[h,go_sem,go_sem_proc,lV,lW,lX,aj,G,bE,bP,M,ee,hw,X,ae,ah,aW,cp]
  ·have ee:decide ((i:Int)<(D l:Int))=false:=cu;obtain rfl:i=D l:=by omega
   rw[kN] at dO;rw[FE dO];simp only[go_sem,go_sem_proc,lV,lW,lX,aj,G,bE,bP,ee,ah];repeat' (first|refine al ?_ ?_|fail)<;>intro h<;>simp only[h,go_sem,go_sem_proc,lV,lW,lX,aj,G,bE,bP,ee,ah]
 |solve h k =>
  obtain⟨EE,yx,aAr⟩:=cR;simp only[go_sem,go_sem_proc,lV,lW,lX,tu,ah];refine c9 [0,1,7] [] (λ(i:Nat) tm mem=>i<=D l/\(∀x∈l.take i,kV (.solve h k) x=false)/\tm 8=.I (.int .i64 i)) (λi=>D l-i) 0 (by refine⟨fA _,by simp,rfl⟩) ?_;intro vs ms aK aF;simp only[go_sem,go_sem_proc,lV,lW,lX,ah] at aK aF;subst aK aF;rintro i tm mem L hm ⟨U,dO,bP⟩;simp only[go_sem,go_sem_proc,lV,lW,lX,bf] at L hm;obtain⟨aj,G,bE⟩:=L;rcases dk (i<D l) with av|b4
  ·have M:=bB av;have aAs:=aAr _ (nM av);have bW:=λaX=>Dh (p:=kV (.solve h k)) dO M aX;have hD:=λaX=>BB (p:=kV (.solve h k)) dO M aX;generalize l[i]=x at *;have dw:=aAk x h k ⟨aAs,EE,yx⟩;have ee:decide ((i:Int)<(D l:Int))=true:=c5;have hw:=eu (i:=i) (by omega);rcases ai:kV (.solve h k) x
   ·have X:=ai;simp only[kV] at X;rw[X] at dw;simp only[go_sem,go_sem_proc,lV,lW,lX,aj,G,bE,bP,M,ee,hw,dw,ae,ah,aW];repeat' (first|refine al ?_ ?_|fail)<;>intro h<;>simp only[h,go_sem,go_sem_proc,lV,lW,lX,aj,G,bE,bP,M,ee,hw,dw,ae,ah,aW]
    exact⟨i+1,by omega,by omega,hD ai,rfl⟩
   ·have X:=ai;simp only[kV] at X;rw[X] at dw;rw[bW ai];simp only[go_sem,go_sem_proc,lV,lW,lX,aj,G,bE,bP,M,ee,hw,dw,ae,ah,aW];repeat' (first|refine al ?_ ?_|fail)<;>intro h<;>simp only[h,go_sem,go_sem_proc,lV,lW,lX,aj,G,bE,bP,M,ee,hw,dw,ae,ah,aW]
  ·have ee:decide ((i:Int)<(D l:Int))=false:=cu;obtain rfl:i=D l:=by omega
   rw[kN] at dO;rw[FE dO];simp only[go_sem,go_sem_proc,lV,lW,lX,aj,G,bE,bP,ee,ah];repeat' (first|refine al ?_ ?_|fail)<;>intro h<;>simp only[h,go_sem,go_sem_proc,lV,lW,lX,aj,G,bE,bP,ee,ah]
def Ta:=cy S9 λ(l,c)=>cT (D l<=1000000/\JL l c) (.same (.bool (l.any (kV c))))
@[go_sem] theorem al3 (l:List Int)(c:B7)(H:(D l)<=1000000/\JL l c):Ta [.Y (l.map ae),tu c]=some (.same (.bool (l.any (kV c)))):=(cF al2 (l,c)).trans (cY H _)
theorem aAt (T:bm)(qS:T EZ=aO JM)(l:List Int)(c:B7)(H:(D l)<=1000000/\JL l c):WP T WM (.same (.bool (l.any (kV c)))) [.I (.Y (l.map ae)),.I (tu c)]:=by
 refine cH ?_;simp only[WM];rw[<-QS];refine a1 ?_;repeat' (intro h<;>simp only[h,go_sem,go_sem_proc,qS,H]<;>try refine al ?_ ?_)
abbrev acF:Int×Int×Int×Int×(List Int)->List Data:=λ(a,b,k,x,E)=>[.agg [.int .i64 a,.int .i64 b,.int .i64 k,.int .i64 x],.ptr [.Y (E.map ae)]]
def acG:=cy acF λ(a,b,k,x,E)=>cT (D E<=1000000) (.same (.bool (!lQ (D E) (a,b,k,x))))
theorem aAu:∀a b,acF a=acF b->a=b:=by
  rintro⟨cE,c0,cL,bb,abG⟩ ⟨cS,et,dN,b3,abH⟩ h;simp only[bf,Data.agg.injEq,Data.int.injEq,Data.ptr.injEq,Data.Y.injEq,and_true,true_and] at h;obtain⟨⟨G,J,af,aP⟩,bh⟩:=h;rw[G,J,af,aP,map_inj hp _ _ bh]
@[go_sem] theorem aKE (a:Int)(b:Int)(k:Int)(x:Int)(E:List Int)(H:(D E)<=1000000):acG [.agg [.int .i64 a,.int .i64 b,.int .i64 k,.int .i64 x],.ptr [.Y (E.map ae)]]=some (.same (.bool (!lQ (D E) (a,b,k,x)))):=(cF aAu (a,b,k,x,E)).trans (cY H _)
theorem aAv (T:bm)(Oh:T LL=aO S8)(a:Int)(b:Int)(k:Int)(x:Int)(E:List Int)(H:(D E)<=1000000):WP T acw (.same (.bool (!lQ (D E) (a,b,k,x)))) [.I (.agg [.int .i64 a,.int .i64 b,.int .i64 k,.int .i64 x]),.I (.ptr [.Y (E.map ae)])]:=by
 refine cH ?_;simp only[acw]
 by_cases X:lQ (D E) (a,b,k,x)=true
 ·have sN:=NS.1 X;dsimp only at sN;have au:decide (a<0)=false:=cu;have c2:decide (a>=(D E:Int))=false:=cu;have c3:decide (b < -1)=false:=cu;have c4:decide (b>=(D E:Int))=false:=cu;have NT:decide (k<0)=false:=cu;have NU:decide (k>=10)=false:=cu;have Gt:jW x=true:=St.2 (by omega);refine a1 ?_;repeat' (intro h<;>simp only[h,go_sem,go_sem_proc,Oh,X,au,c2,c3,c4,NT,NU,Gt,ah,bT]<;>try refine al ?_ ?_)
 ·have aD:lQ (D E) (a,b,k,x)=false:=by simpa using X
  rw[NS] at X;dsimp only at X;rcases Gt:jW x
  ·refine a1 ?_;repeat' (intro h<;>simp only[h,go_sem,go_sem_proc,Oh,aD,Gt,ah,bT,cp]<;>try refine al ?_ ?_)
  ·have aKF:=St.1 Gt;refine a1 ?_;repeat' (intro h<;>simp only[h,go_sem,go_sem_proc,Oh,aD,Gt,ah,bT,cp]<;>try refine al ?_ ?_)
   all_goals (exfalso;simp only[decide_eq_false_iff_not] at *;omega)
inductive Ap where
 |right (n:Int)
 |day (E:List Int)
def uK:Ap->Data
 |.right n => .fn LH [.ptr [.fn wL []],.ptr [.int .i64 n]]
 |.day E => .fn LM [.ptr [.Y (E.map ae)]]
theorem aAw:∀a b:Ap,uK a=uK b->a=b:=by
 rintro (n|c) (abS|c') e
 all_goals first|(simp[uK,LH,LM] at e;done)|skip
 ·simp only[uK,Data.fn.injEq,bf,Data.ptr.injEq,Data.int.injEq,and_true,true_and] at e;rw[e]
 ·simp only[uK,Data.fn.injEq,bf,Data.ptr.injEq,Data.Y.injEq,and_true,true_and] at e;rw[map_inj hp _ _ e]
def Gz:Ap->Int
 |.right n=>n
 |.day E=>D E
def pz (c:Ap)(x:aB):Bool:=!lQ (Gz c) x
def JN (c:Ap):Prop:=0<=Gz c/\Gz c<=1000000
abbrev Tb:(List aB)×Ap->List Data:=λ(l,c)=>[.Y (l.map bw),uK c]
def acH:=cy Tb λ(l,c)=>cT (D l<=1000000/\JN c) (.same (.int .i64 (pg (pz c) l)))
theorem al4:∀a b,Tb a=Tb b->a=b:=by
  rintro⟨dr,au⟩ ⟨aa,c2⟩ h;simp only[bf,Data.Y.injEq,and_true] at h;exact ei (map_inj sA _ _ h.1) (aAw _ _ h.2)
@[go_sem] theorem aKG (l:List aB)(c:Ap)(H:(D l)<=1000000/\JN c):acH [.Y (l.map bw),uK c]=some (.same (.int .i64 (pg (pz c) l))):=(cF al4 (l,c)).trans (cY H _)
theorem aAx (T:bm)(qT:T LH=aO acB)(qU:T LM=aO acG)(l:List aB)(c:Ap)(H:(D l)<=1000000/\JN c):WP T WO (.same (.int .i64 (pg (pz c) l))) [.I (.Y (l.map bw)),.I (uK c)]:=by
 refine cH ?_;simp only[WO];obtain⟨az,cR⟩:=H
 cases c with
 |right n =>
  have aM:0<=n/\n<=1000000:=cR;simp only[go_sem,go_sem_proc,qT,qU,uK,ah];refine c9 [0,1,7] [] (λ(i:Nat) tm mem=>i<=D l/\(∀x∈l.take i,pz (.right n) x=false)/\tm 8=.I (.int .i64 i)) (λi=>D l-i) 0 (by refine⟨fA _,by simp,rfl⟩) ?_;intro vs ms aK aF;simp only[go_sem,go_sem_proc,qT,qU,ah] at aK aF;subst aK aF;rintro i tm mem L hm ⟨U,dO,bP⟩;simp only[go_sem,go_sem_proc,qT,qU,bf] at L hm;obtain⟨aj,G,bE⟩:=L;rcases dk (i<D l) with av|b4
  ·have M:=bB av;have bW:=λh=>Dh (p:=pz (.right n)) dO M h;have hD:=λh=>BB (p:=pz (.right n)) dO M h;generalize l[i]=x at *;obtain⟨a,b,k,z⟩:=x;have ee:decide ((i:Int)<(D l:Int))=true:=c5;have hw:=eu (i:=i) (by omega);rcases ai:pz (.right n) (a,b,k,z)
   ·have X:lQ n (a,b,k,z)=true:=by simpa [pz,Gz] using ai
    simp only[go_sem,go_sem_proc,qT,qU,aj,G,bE,bP,M,ee,hw,X,aM,bw,ah,aW,bT];repeat' (first|refine al ?_ ?_|fail)<;>intro h<;>simp only[h,go_sem,go_sem_proc,qT,qU,aj,G,bE,bP,M,ee,hw,X,aM,bw,ah,aW,bT]
    exact⟨i+1,by omega,by omega,hD ai,rfl⟩
   ·have X:lQ n (a,b,k,z)=false:=by simpa [pz,Gz] using ai
    rw[bW ai];simp only[go_sem,go_sem_proc,qT,qU,aj,G,bE,bP,M,ee,hw,X,aM,bw,ah,aW,cp];repeat' (first|refine al ?_ ?_|fail)<;>intro h<;>simp only[h,go_sem,go_sem_proc,qT,qU,aj,G,bE,bP,M,ee,hw,X,aM,bw,ah,aW,cp]
  ·have ee:decide ((i:Int)<(D l:Int))=false:=cu;obtain rfl:i=D l:=by omega
   rw[kN] at dO;rw[FE dO];simp only[go_sem,go_sem_proc,qT,qU,aj,G,bE,bP,ee,ah];repeat' (first|refine al ?_ ?_|fail)<;>intro h<;>simp only[h,go_sem,go_sem_proc,qT,qU,aj,G,bE,bP,ee,ah]
 |day E =>
  have aM:(D E)<=1000000:=by have h:(D E:Int)<=1000000:=cR.2;omega
  simp only[go_sem,go_sem_proc,qT,qU,uK,ah];refine c9 [0,1,7] [] (λ(i:Nat) tm mem=>i<=D l/\(∀x∈l.take i,pz (.day E) x=false)/\tm 8=.I (.int .i64 i)) (λi=>D l-i) 0 (by refine⟨fA _,by simp,rfl⟩) ?_;intro vs ms aK aF;simp only[go_sem,go_sem_proc,qT,qU,ah] at aK aF;subst aK aF;rintro i tm mem L hm ⟨U,dO,bP⟩;simp only[go_sem,go_sem_proc,qT,qU,bf] at L hm;obtain⟨aj,G,bE⟩:=L;rcases dk (i<D l) with av|b4
  ·have M:=bB av;have bW:=λh=>Dh (p:=pz (.day E)) dO M h;have hD:=λh=>BB (p:=pz (.day E)) dO M h;generalize l[i]=x at *;obtain⟨a,b,k,z⟩:=x;have ee:decide ((i:Int)<(D l:Int))=true:=c5;have hw:=eu (i:=i) (by omega);rcases ai:pz (.day E) (a,b,k,z)
   ·have X:lQ (D E) (a,b,k,z)=true:=by simpa [pz,Gz] using ai
    simp only[go_sem,go_sem_proc,qT,qU,aj,G,bE,bP,M,ee,hw,X,aM,bw,ah,aW,bT];repeat' (first|refine al ?_ ?_|fail)<;>intro h<;>simp only[h,go_sem,go_sem_proc,qT,qU,aj,G,bE,bP,M,ee,hw,X,aM,bw,ah,aW,bT]
    exact⟨i+1,by omega,by omega,hD ai,rfl⟩
   ·have X:lQ (D E) (a,b,k,z)=false:=by simpa [pz,Gz] using ai
    rw[bW ai];simp only[go_sem,go_sem_proc,qT,qU,aj,G,bE,bP,M,ee,hw,X,aM,bw,ah,aW,cp];repeat' (first|refine al ?_ ?_|fail)<;>intro h<;>simp only[h,go_sem,go_sem_proc,qT,qU,aj,G,bE,bP,M,ee,hw,X,aM,bw,ah,aW,cp]
  ·have ee:decide ((i:Int)<(D l:Int))=false:=cu;obtain rfl:i=D l:=by omega
   rw[kN] at dO;rw[FE dO];simp only[go_sem,go_sem_proc,qT,qU,aj,G,bE,bP,ee,ah];repeat' (first|refine al ?_ ?_|fail)<;>intro h<;>simp only[h,go_sem,go_sem_proc,qT,qU,aj,G,bE,bP,ee,ah]
def Tc:=cy Tb λ(l,c)=>cT (D l<=1000000/\JN c) (.same (.bool (l.any (pz c))))
@[go_sem] theorem al5 (l:List aB)(c:Ap)(H:(D l)<=1000000/\JN c):Tc [.Y (l.map bw),uK c]=some (.same (.bool (l.any (pz c)))):=(cF al4 (l,c)).trans (cY H _)
theorem aAy (T:bm)(aAz:T V5=aO acH)(l:List aB)(c:Ap)(H:(D l)<=1000000/\JN c):WP T WN (.same (.bool (l.any (pz c)))) [.I (.Y (l.map bw)),.I (uK c)]:=by
 refine cH ?_;simp only[WN];rw[<-QS];refine a1 ?_;repeat' (intro h<;>simp only[h,go_sem,go_sem_proc,aAz,H]<;>try refine al ?_ ?_)
theorem Td {α:Type}(l:List α)(p:α->Bool):l.any (λx => !p x) = !l.all p:=by
 induction l with
 |nil=>rfl
 |cons a l aH=>rw[List.any_cons,List.all_cons,aH];cases p a<;>rfl
def acI:=cy DV λ(E,cs)=>cT (D E<=1000000/\D cs<=1000000) (.same (.bool (g9 E cs)))
@[go_sem] theorem aKH (E:List Int)(cs:List aB)(H:(D E)<=1000000/\D cs<=1000000):acI [.Y (E.map ae),.Y (cs.map bw)]=some (.same (.bool (g9 E cs))):=(cF Jy (E,cs)).trans (cY H _)
theorem aAA (T:bm)(acJ:T LI=aO Ta)(acK:T LJ=aO Tc)(E:List Int)(cs:List aB)(H:(D E)<=1000000/\D cs<=1000000):WP T Yb (.same (.bool (g9 E cs))) [.I (.Y (E.map ae)),.I (.Y (cs.map bw))]:=by
 refine cH ?_;simp only[Yb];obtain⟨G,J⟩:=H;rw[abP];have dL:=al3 E .right ⟨G,trivial⟩;have jK:=al5 cs (.right (D E)) ⟨J,by show (0:Int)<=(D E:Int);omega,by show (D E:Int)<=1000000;omega⟩
 have ay:E.any (kV .right) = !E.all jW:=Td E jW;have aA:cs.any (pz (.right (D E))) = !cs.all (lQ (D E)):=Td cs _;rw[ay] at dL;rw[aA] at jK;simp only[tu] at dL;simp only[uK] at jK;have d1:decide (D E<=60)=decide ((D E:Int)<=60):=by rw[ym,decide_eq_true_iff,decide_eq_true_iff];omega
 have d2:decide (D cs<=2000)=decide ((D cs:Int)<=2000):=by rw[ym,decide_eq_true_iff,decide_eq_true_iff];omega
 rw[d1,d2];rcases ev:decide ((D E:Int)<=60)<;>rcases gg:decide ((D cs:Int)<=2000)<;>rcases tj:E.all jW<;>rcases ja:cs.all (lQ (D E))
 all_goals rw[tj] at dL
 all_goals rw[ja] at jK
 all_goals
      refine a1 ?_;repeat' (intro h<;>simp only[h,go_sem,go_sem_proc,acJ,acK,dL,jK,ev,gg,ah,bT,cp,sU,jB,dx,y9,m5,scalar]<;>try refine al ?_ ?_)
def acL:=cy DV λ(E,cs)=>cT (D E<=1000000/\D cs<=1000000) (.same (.bool (g9 E cs)))
@[go_sem] theorem aAB (E:List Int)(cs:List aB)(H:(D E)<=1000000/\D cs<=1000000):acL [.Y (E.map ae),.Y (cs.map bw)]=some (.same (.bool (g9 E cs))):=(cF Jy (E,cs)).trans (cY H _)
theorem aAC (T:bm)(acJ:T LI=aO Ta)(acK:T LJ=aO Tc)(E:List Int)(cs:List aB)(H:(D E)<=1000000/\D cs<=1000000):WP T acs (.same (.bool (g9 E cs))) [.I (.Y (E.map ae)),.I (.Y (cs.map bw))]:=by
 refine cH ?_;simp only[acs];obtain⟨G,J⟩:=H;rw[abP];have dL:=al3 E .day ⟨G,trivial⟩;have jK:=al5 cs (.day E) ⟨J,by show (0:Int)<=(D E:Int);omega,by show (D E:Int)<=1000000;omega⟩
 have ay:E.any (kV .day) = !E.all jW:=Td E jW;have aA:cs.any (pz (.day E)) = !cs.all (lQ (D E)):=Td cs _;rw[ay] at dL;rw[aA] at jK;simp only[tu] at dL;simp only[uK] at jK;have d1:decide (D E<=60) = !decide ((D E:Int)>60):=by rw[ym,decide_eq_true_iff,vy,decide_eq_false_iff_not];omega
 have d2:decide (D cs<=2000) = !decide ((D cs:Int)>2000):=by rw[ym,decide_eq_true_iff,vy,decide_eq_false_iff_not];omega
 rw[d1,d2];rcases ev:decide ((D E:Int)>60)<;>rcases gg:decide ((D cs:Int)>2000)<;>rcases tj:E.all jW<;>rcases ja:cs.all (lQ (D E))
 all_goals rw[tj] at dL
 all_goals rw[ja] at jK
 all_goals
      refine a1 ?_;repeat' (intro h<;>simp only[h,go_sem,go_sem_proc,acJ,acK,dL,jK,ev,gg,ah,bT,cp,sU,jB,dx,y9,m5,scalar]<;>try refine al ?_ ?_)
structure du.JO (a:du):Prop where
 vS:e5 a.E a.cs
 dj:∀x∈a.aJ,0<=x/\x<=10
theorem du.Oi {a:du}{m:Mem}(h:a.fb m)(aD:a.JO){i:Nat}(U:i<D a.E):a.aJ.getD i 10=(a9 a.aJ i:Int)/\a9 a.aJ i<=10:=by
 have az:=h.aJ
 have:a.aJ.getD i 10∈a.aJ:=by
  rw[ez,bB (by omega)];exact nM _
 have:=aD.dj _ this;unfold a9;omega
structure acM (x:du×Nat) (mem:Mem):Prop where
 at_:x.1.fb mem
 no:lS 255 mem
 JP:x.1.JO
 lt:x.2<x.1.E.length
 f10:a9 x.1.aJ x.2<10
 S:0<(ak x.1.E x.1.cs).S x.2 (a9 x.1.aJ x.2)
def Te (x:du×Nat):Data:=.cB [.Y ((c8 x.1.E.length λi=>(ak x.1.E x.1.cs).W (a9 x.1.aJ) x.2 i).map aw),.bool true]
def Tf:List R->Mem->Option Data:=Ag (λ(x:du×Nat) args mem=>args=[.ptr (228500+x.2) (x.1.gs.getD x.2 0) 0,.I (.int .i64 x.1.E.length)]/\acM x mem) Te
theorem aAD (a:du)(k:Nat)(mem:Mem)(h:acM (a,k) mem):Tf [.ptr (228500+k) (a.gs.getD k 0) 0,.I (.int .i64 (D a.E))] mem=some (Te (a,k)):=by
 refine JD (a:=(a,k)) ?_ ⟨rfl,h⟩;rintro⟨a,i⟩ ⟨b,j⟩ args mem ⟨ay,aA⟩ ⟨bQ,bL⟩;obtain rfl:=du.uniq aA.at_ bL.at_;rw[ay] at bQ;simp only[bf,R.ptr.injEq,R.I.injEq,Data.int.injEq,true_and,and_true] at bQ;have G:228500+i=228500+j:=bQ.1;have:i=j:=by omega
 rw[this]
theorem aAE (N:Nat)(aR:bG):(en N (aw aR)).flatten.map R.I=aS aw (en N aR):=by
 unfold aS;rw[I7,List.map_flatten,I7]
theorem aAF (T:bm)(ig:T qz=aO xk)(aAG:T Vy=aO ZY)(nZ:T zx=aO Fx)(zO:T CN=aO Fy)(a:du)(k:Nat)(mem:Mem)(h:acM (a,k) mem):
  wp T QQ.body (qG QQ.res λm mem'=>dx 6 emp m=some (Te (a,k))/\dG 255 mem mem') ⟨l1 [.ptr (228500+k) (a.gs.getD k 0) 0,.I (.int .i64 (D a.E))],mem⟩:=by
 obtain⟨bW,hE,tv,L,nI,dn⟩:=h;dsimp only at *;obtain⟨Q,dj⟩:=tv;have aM:=Q.hV;have uc:=bW.ek k L;have ta:=(du.Oi bW ⟨Q,dj⟩ L).1;have cR:=a.yV k;have hlen:=D3 cR;have nj:=Oe cR;rw[show (a.ha k).f=(a9 a.aJ k:Int) from ta] at nj;have D5:=alW (x:=a.ha k) (k:=a9 a.aJ k) (l:=dA a.cs k (a9 a.aJ k)) (jX _ nI);have uL:=Od cR (k:=a9 a.aJ k) (z:=b0 a.cs k (a9 a.aJ k:Nat)) (jX _ (by omega));have al6:=Od cR (k:=a9 a.aJ k+1) (z:=b0 a.cs k (a9 a.aJ k+1:Nat)) (jX _ (by omega));have XJ:∀j,228500+k≠255000+j:=λj=>by omega
 generalize fZ (a.ha k)=DC at *;have acN:=DT 0 xn;have a2:c8 (D a.E) (kT (ak a.E a.cs) [])=en (D a.E) (aq ((0:Int):Rat)):=(Jv yC λj ax=>by rw[abZ,ad ax,az6];rfl).symm;generalize fo:dA a.cs k (a9 a.aJ k)=cz at *;refine tQ ?_;simp only[QQ];have vW:(228500+k)/1000≠255:=by omega
 have jR:mem 255017=none:=hE 255017 (by decide);have ia:=λc (H:c∈cz)=>Gs.1 (fo ▸ H:c∈dA a.cs k (a9 a.aJ k));have al7:=λc (H:c∈cz)=>(S4 Q dn (fo ▸ H:c∈dA a.cs k (a9 a.aJ k))).2.2;have al8:=λl i (az:∃fL,cz=l++fL)=>az8 Q dn (l:=l) (by rw[fo];exact az) i;have al9:=λi=>az7 Q.right (a9 a.aJ) k i;rw[fo] at al9
 have aKI:(D cz)<=12:=by
  have G:=mO (λc:aB=>c.1==(k:Int)&&c.2.2.1==(a9 a.aJ k:Int)) a.cs;have J:=Q.qR;rw[<-fo];unfold dA;omega
 have aln:(0:Int)<hj a.cs k (a9 a.aJ k):=by
  have G:=Jp Q.right k (a9 a.aJ k);rw[<-G] at dn;have:(0:Int)<b0 a.cs k (a9 a.aJ k+1:Nat)-b0 a.cs k (a9 a.aJ k):=by exact_mod_cast dn
  exact this
 have aAH:hj a.cs k (a9 a.aJ k)=b0 a.cs k (a9 a.aJ k+1:Nat)-b0 a.cs k (a9 a.aJ k:Nat):=rfl;have X5:=Q.upto k (a9 a.aJ k+1:Nat);have Fq:=Q.upto k (a9 a.aJ k:Nat);have aAI:=(hB.1 Q.right).2.2.2;generalize cX:228500+k=eH at *;have qf:∀j,eH≠255000+j:=λj=>by omega
 have Oj:(eH=255009)=False:=eq_false (qf 9);have ama:(eH=255010)=False:=eq_false (qf 10);have amb:(eH=255012)=False:=eq_false (qf 12);have acO:(eH=255017)=False:=eq_false (qf 17);have GA:(eH==255009)=false:=beq_eq_false_iff_ne.2 (qf 9);have amc:(eH==255010)=false:=beq_eq_false_iff_ne.2 (qf 10);have amd:(eH==255012)=false:=beq_eq_false_iff_ne.2 (qf 12);have ame:(eH==255017)=false:=beq_eq_false_iff_ne.2 (qf 17);have d9:(255009==eH)=false:=beq_eq_false_iff_ne.2 (qf 9).symm;have d10:(255010==eH)=false:=beq_eq_false_iff_ne.2 (qf 10).symm;have d12:(255012==eH)=false:=beq_eq_false_iff_ne.2 (qf 12).symm;have d17:(255017==eH)=false:=beq_eq_false_iff_ne.2 (qf 17).symm;have dr:a9 a.aJ k+1<11:=by omega
 have aa:a9 a.aJ k<11:=by omega
 have bo:(1+a9 a.aJ k+1<=24)=True:=eq_true (by omega);have bH:(11+a9 a.aJ k+1<=24)=True:=eq_true (by omega);have amf:(11+(a9 a.aJ k+1)+1<=24)=True:=eq_true (by omega);have wf:IntKind.i64.wrap ((a9 a.aJ k:Int)+1)=((a9 a.aJ k+1:Nat):Int):=by rw[e7 _];omega
 have k5:=uc;generalize aKJ:b0 a.cs k (a9 a.aJ k+1:Nat)=Tg at *;generalize aKK:b0 a.cs k (a9 a.aJ k:Nat)=aAJ at *;generalize aKL:a9 a.aJ k=F0 at *;generalize NF:aq ((0:Int):Rat)=nW at *;obtain⟨⟨jq,iL⟩,⟨n2,sC⟩⟩:=nW;have acP:=awp jq iL n2 sC (D a.E) (by omega);have hc:=aAE (D a.E) ((jq,iL),(n2,sC));simp only[aw] at acN acP hc;have eC:=alU cz;simp only[go_sem,go_sem_proc] at eC;simp only[go_sem,go_sem_proc,ig,acN,aAG,acP,hc,uc,hlen,nI,nj,D5,acO,bo,jR,db,cD,eC,yC]
 refine c9 [0,6,26,27] [] (λ(j:Nat) tm m=>j<=D cz/\tm 28=.I (.int .i64 j)/\tm 7=.I (.bool true)/\m 255017=some (0,aS aw (c8 (D a.E) (kT (ak a.E a.cs) (cz.take j))))/\dG 255 mem m) (λj=>D cz-j) 0 (by
  refine⟨by omega,rfl,rfl,?_,(dG.refl _ _).dW (by decide)⟩
  rw[ma,a2];simp[a5,jR,gd]) ?_
 intro vs ms aK aF;simp only[go_sem,go_sem_proc] at aK aF;subst aK aF;clear acN acP hc uc;rintro j tm m L-⟨ax,pA,bJ,mv,bC⟩;simp only[go_sem,go_sem_proc,bf] at L;obtain⟨bu,bj,n5,n6⟩:=L;have ai:=(bC eH vW).trans k5;rcases dk (j<D cz) with av|b4
 ·have d1:decide ((j:Int)<(D cz:Int))=true:=c5;have bl:=eu (i:=j) (by omega);obtain⟨⟨au,c2,c3,c4⟩,M⟩:∃c,cz[j]?=some c:=⟨_,bB av⟩;have I2:=dS M;have jf:=aAI _ (ia _ I2).1;dsimp only at jf;have uv:=alV M;simp only[go_sem,go_sem_proc] at uv;have fR:cz.take (j+1)=cz.take j++[(au,c2,c3,c4)]:=by rw[g2,M];rfl
  rcases q:decide (c2<0)
  ·have wm:0<=c2:=by have:=of_decide_eq_false q;omega
   obtain⟨t,rfl⟩:∃t:Nat,c2=(t:Int):=⟨c2.toNat,by omega⟩
   have hw:=al7 _ I2;dsimp only at hw;have h9:=alc (p:=c4) (q:=hj a.cs k F0) (lT (by omega) (by omega)) (lT (by omega) (by omega)) (by omega);rw[<-hw] at h9;have Th:=ahl c4 (hj a.cs k F0) ⟨lT (by omega) (by omega),lT (by omega) (by omega)⟩;rw[h9] at Th;have jq:=al8 (cz.take j) t ⟨cz.drop j,(CK j cz).symm⟩;have iL:=SI Q (ia _ I2).1;have lI:=ak2 (je jq (by omega)) (je iL (by omega)) (xg jq iL (by omega))
   have yT:c8 (D a.E) (kT (ak a.E a.cs) (cz.take (j+1)))=(c8 (D a.E) (kT (ak a.E a.cs) (cz.take j))).set t (aq (kT (ak a.E a.cs) (cz.take j) t+(ak a.E a.cs).w (ca (au,(t:Int),c3,c4)))):=by
    rw[abW];refine xi λi _=>?_;rw[fR,alT]
    by_cases U:i=t
    ·rw[ad U,ad (by dsimp only;omega),U]
    ·rw[ag U,ag (by dsimp only;omega),pr]
   have amg:IntKind.i64.wrap (Tg-aAJ)=hj a.cs k F0:=by rw[wrap64 _ (by omega) (by omega),aAH]
   have MC:(c8 (D a.E) (kT (ak a.E a.cs) (cz.take j))).length=D a.E:=qQ _ _;have abY:=p9 (N:=D a.E) (kT (ak a.E a.cs) (cz.take j)) (k:=t) (by omega);clear jq iL al8 al7 h9 hw;generalize aq (kT (ak a.E a.cs) (cz.take j) t+(ak a.E a.cs).w (ca (au,(t:Int),c3,c4)))=F1 at *;generalize aq (kT (ak a.E a.cs) (cz.take j) t)=F2 at *;generalize aq ((ak a.E a.cs).w (ca (au,(t:Int),c3,c4)))=F3 at *;generalize c8 (D a.E) (kT (ak a.E a.cs) (cz.take j))=bV at *;obtain⟨⟨cE,cS⟩,⟨dU,eN⟩⟩:=F1;obtain⟨⟨f1,f2⟩,⟨f3,f4⟩⟩:=F2;obtain⟨⟨dh,dC⟩,⟨ji,m9⟩⟩:=F3;have t1:=FO abY;have t2:=z1 (l:=bV) (k:=t) (by omega);have t3:=FP (l:=bV) (k:=t) (by omega) cE cS dU eN;have EC:t<D a.E:=by omega
   simp only[aw,cQ] at Th lI;simp only[go_sem,go_sem_proc,nZ,zO,bu,bj,bJ,n5,n6,pA,ai,mv,uv,hlen,nj,uL,al6,wf,amg,d1,bl,q,Th,lI,t1,t2,t3,EC,nI,dr,aa,bo,bH,amf,Oj,ama,amb,acO,GA,amc,amd,ame,d9,d10,d12,d17,bw,db,cD,beq_self_eq_true];repeat' (first|refine al ?_ ?_|fail)<;>intro h<;>simp only[h,go_sem,go_sem_proc,nZ,zO,bu,bj,bJ,n5,n6,pA,ai,mv,uv,hlen,nj,uL,al6,wf,amg,d1,bl,q,Th,lI,t1,t2,t3,EC,nI,dr,aa,bo,bH,amf,Oj,ama,amb,acO,GA,amc,amd,ame,d9,d10,d12,d17,bw,db,cD,beq_self_eq_true]
   refine⟨j+1,by omega,by omega,rfl,by rw[yT],by repeat first|exact bC|refine dG.dW ?_ (by decide)⟩
  ·have wm:c2<0:=of_decide_eq_true q
   have yT:c8 (D a.E) (kT (ak a.E a.cs) (cz.take (j+1)))=c8 (D a.E) (kT (ak a.E a.cs) (cz.take j)):=xi λi _=>by
    rw[fR,alT,ag (by dsimp only;omega),pr]
   simp only[go_sem,go_sem_proc,bu,bj,bJ,n5,n6,pA,ai,mv,uv,d1,bl,q,bw,cD];repeat' (first|refine al ?_ ?_|fail)<;>intro h<;>simp only[h,go_sem,go_sem_proc,bu,bj,bJ,n5,n6,pA,ai,mv,uv,d1,bl,q,bw,cD]
   refine⟨j+1,by omega,by omega,rfl,by rw[yT],by repeat first|exact bC|refine dG.dW ?_ (by decide)⟩
 ·have d1:decide ((j:Int)<(D cz:Int))=false:=cu;rw[dH (by omega)] at mv;have yT:c8 (D a.E) (kT (ak a.E a.cs) cz)=c8 (D a.E) λi=>(ak a.E a.cs).W (a9 a.aJ) k i:=xi λi _=>al9 i;rw[yT] at mv;have kr:(c8 (D a.E) λi=>(ak a.E a.cs).W (a9 a.aJ) k i).length=D a.E:=qQ _ _;have jF:=λ(K:bg->Prop) (st:bg)=>k6 (K:=K) (st:=st) jS 6 255017 0 (c8 (D a.E) λi=>(ak a.E a.cs).W (a9 a.aJ) k i);rw[kr] at jF;simp only[go_sem,go_sem_proc,bu,bj,bJ,n5,n6,pA,ai,mv,d1,jF];repeat' (first|refine al ?_ ?_|fail)<;>intro h<;>simp only[h,go_sem,go_sem_proc,bu,bj,bJ,n5,n6,pA,ai,mv,d1,jF]
  exact⟨_,rfl,rfl,by repeat first|exact bC|refine dG.dW ?_ (by decide)|refine dG.kill ?_ (by decide)⟩
theorem amh (N:Nat)(x:Nat->Rat):c8 (N+1) x=c8 N x++[aq (x N)]:=by
 unfold c8;rw[sx,kg,kg];rfl
theorem xt {l:List R}{k:Nat}{y:R}(h:l[k]?=some y):iu 1 (jn k l)=[y]:=by
 have:=xm (f:=id) h;rwa [List.map_id] at this
def uM (n:Nat)(W:Nat->Nat->Rat)(k:Nat):List Data:=[.Y ((c8 n (W k)).map aw)]
theorem aAK (T:bm)(ig:T qz=aO xk)(iO:T wH=aO zN){K:eF->bg->Prop}{kk:List fB}(eh:Mem)(n:Nat)(aM:n<=60)(p:List Nat)(aC:(D p)<=60)(W:Nat->Nat->Rat)(r i:Nat)(U:i<n)(zt:∀k,k<(D p)->eJ 30 (W (p.getD k 0) i))(v0 v1 v10 v20 ami amj:R)(bD nH:Nat)(au c2 c3 c4:R)(amk:Option (Nat×List R))(tm:Nat->R)(m:Mem)
  (bu:tm 0=v0) (ay:tm 1=v1) (aA:tm 2=.I (.Y (p.map hK))) (bQ:tm 3=.I (.Y (p.map (uM n W)))) (dY:tm 10=v10) (h4:tm 11=.I (.int .i64 r)) (gq:tm 12=.I (.int .i64 i)) (hy:tm 13=.ptr 256013 bD 0) (qg:tm 20=v20) (vt:tm 21=ami) (vu:tm 22=amj) (nc:tm 50=.I (.int .i64 (D p))) (oQ:tm 51=.I (.int .i64 0)) (JQ:m 256013=some (bD,[.ref 256076 nH 4 0 0,au,c2,c3,c4])) (n1:m 256076=some (nH,[])) (GC:m 256082=amk) (bC:dG 256 eh m)
  (cX:∀tm' m' N4,tm' 0=v0->tm' 1=v1->tm' 2=.I (.Y (p.map hK))->tm' 3=.I (.Y (p.map (uM n W)))->tm' 10=v10->tm' 13=.ptr 256013 bD 0->tm' 20=v20->tm' 21=ami->tm' 22=amj->m' 256013=some (bD,[.ref 256076 N4 4 0 (D p),au,c2,c3,c4])->m' 256076=some (N4,aS aw (c8 (D p) λk=>(if r=k then 1 else 0)-W (p.getD k 0) i))->m' 256082=amk->dG 256 eh m'->cj T K kk (.exit 2) ⟨tm',m'⟩) :
  wp T (IB.body.sub [1,1,0,1,0,0,0,1,1,0,0,1,1,0,1,0]) (cj T K kk) ⟨tm,m⟩:=by
 simp only[IB,ep.sub];refine c9 [0,1,2,3,10,11,12,13,20,21,22,50] [256082] (λ((k,g):Nat×Nat) tm m=>k<=D p/\tm 51=.I (.int .i64 k)/\m 256013=some (bD,[.ref 256076 g 4 0 k,au,c2,c3,c4])/\m 256076=some (g,aS aw (c8 k λk=>(if r=k then 1 else 0)-W (p.getD k 0) i))/\dG 256 eh m) (λ(k,_)=>D p-k) (0,nH) (by refine⟨by omega,oQ,JQ,n1,bC⟩) ?_;intro vs ms aK aF;simp only[go_sem,go_sem_proc,bu,ay,aA,bQ,dY,h4,gq,hy,qg,vt,vu,nc,GC] at aK aF;subst aK aF;clear bu ay aA bQ dY h4 gq hy qg vt vu nc oQ JQ n1 GC bC tm m;rintro⟨k,g⟩ tm m L hm ⟨mq,oQ,JQ,n1,bC⟩;simp only[go_sem,go_sem_proc,bf] at L hm;obtain⟨bu,ay,aA,bQ,dY,h4,gq,hy,qg,vt,vu,nc⟩:=L;rcases dk (k<D p) with av|b4
 ·have d1:decide ((k:Int)<(D p:Int))=true:=c5;have bl:=eu (i:=k) (by omega);obtain⟨xu,M⟩:∃c,p[k]?=some c:=⟨_,bB av⟩;have Dw:p.getD k 0=xu:=by rw[ez,M];rfl
  have Ok:=zt k av;have aK:=amh k λk=>(if r=k then 1 else 0)-W (p.getD k 0) i;have cg:(c8 k λk=>(if r=k then 1 else 0)-W (p.getD k 0) i).length=k:=qQ _ _;have cW:=λ(aR:bG) cs kq=>ka jS yo 256076 g 64 (c8 k λk=>(if r=k then 1 else 0)-W (p.getD k 0) i) aR (cs:=cs) kq (by omega) (by omega);simp only[cg] at cW;rw[Dw] at Ok aK;have bq:=p9 (W xu) U;generalize c8 k (λk=>(if r=k then 1 else 0)-W (p.getD k 0) i)=V at *;generalize mF:c8 (k+1) (λk=>(if r=k then 1 else 0)-W (p.getD k 0) i)=V2 at *;clear cX zt;have key:∀o:Int,(o=0\/o=1)->(if r=k then (1:Rat) else 0)=(o:Rat)->True:=λ_ _ _=>trivial;rcases q:((k:Int)==(r:Int))
  ·have kR:¬ r=k:=by have:=ne_of_beq_false q;omega
   have hw:=DT 0 xn;have Q:=Sx (n3 xn) (je Ok (by omega)) (xg (tn (z:=0) (b:=1) (by decide)) (uH Ok) (by omega));rw[ag kR,show (0:Rat)=((0:Int):Rat) from rfl] at aK;generalize aq ((0:Int):Rat)=nW at *;generalize aq (W xu i)=kz at *;generalize aq (((0:Int):Rat)-W xu i)=cr at *;obtain⟨⟨jq,iL⟩,⟨n2,sC⟩⟩:=nW;obtain⟨⟨nv,o4⟩,⟨vK,vL⟩⟩:=kz;obtain⟨⟨bb,b3⟩,⟨c7,eV⟩⟩:=cr;have mP:=cW ((bb,b3),(c7,eV)) _ rfl;rw[<-aK] at mP;simp only[aw,eI,b6] at mP hw Q;refine a1 ?_;repeat' (intro h<;>simp only[h,go_sem,go_sem_proc,ig,iO,bu,ay,aA,bQ,dY,h4,gq,hy,qg,vt,vu,nc,oQ,JQ,n1,hm,d1,bl,q,M,uM,bq,hw,Q,mP,aw,ah,aW,bne,beq_self_eq_true,bT,kP]<;>try refine al ?_ ?_)
   exact⟨(k+1,g+1),by dsimp only;omega,by dsimp only;omega,rfl,rfl,by rw[<-mF],by repeat first|exact bC|refine dG.dW ?_ (by decide)⟩
  ·have kR:r=k:=by have:=eq_of_beq q;omega
   have hw:=DT 1 JG;have Q:=Sx (n3 JG) (je Ok (by omega)) (xg (tn (z:=1) (b:=1) (by decide)) (uH Ok) (by omega));rw[ad kR,show (1:Rat)=((1:Int):Rat) from rfl] at aK;generalize aq ((1:Int):Rat)=nW at *;generalize aq (W xu i)=kz at *;generalize aq (((1:Int):Rat)-W xu i)=cr at *;obtain⟨⟨jq,iL⟩,⟨n2,sC⟩⟩:=nW;obtain⟨⟨nv,o4⟩,⟨vK,vL⟩⟩:=kz;obtain⟨⟨bb,b3⟩,⟨c7,eV⟩⟩:=cr;have mP:=cW ((bb,b3),(c7,eV)) _ rfl;rw[<-aK] at mP;simp only[aw,eI,b6] at mP hw Q;refine a1 ?_;repeat' (intro h<;>simp only[h,go_sem,go_sem_proc,ig,iO,bu,ay,aA,bQ,dY,h4,gq,hy,qg,vt,vu,nc,oQ,JQ,n1,hm,d1,bl,q,M,uM,bq,hw,Q,mP,aw,ah,aW,bne,beq_self_eq_true,bT,kP]<;>try refine al ?_ ?_)
   exact⟨(k+1,g+1),by dsimp only;omega,by dsimp only;omega,rfl,rfl,by rw[<-mF],by repeat first|exact bC|refine dG.dW ?_ (by decide)⟩
 ·have d1:decide ((k:Int)<(D p:Int))=false:=cu;obtain rfl:k=D p:=by omega
  refine a1 ?_;repeat' (intro h<;>simp only[h,go_sem,go_sem_proc,bu,ay,aA,bQ,dY,h4,gq,hy,qg,vt,vu,nc,oQ,d1]<;>try refine al ?_ ?_)
  refine cX _ _ g ?_ ?_ ?_ ?_ ?_ ?_ ?_ ?_ ?_ JQ n1 hm bC<;>simp only[dv,cx,if_false,bu,ay,aA,bQ,dY,hy,qg,vt,vu]
structure acQ (a:du) (mem:Mem):Prop where
 at_:a.fb mem
 no:lS 256 mem
 JP:a.JO
 jE:sy (ak a.E a.cs) (a9 a.aJ) (dK a.P)
def du.p (a:du):List Nat:=dm (dK a.P) (D a.E)
def Ti (a:du):List R:=[.ref 228023 a.g 1 0 (D a.E),.I (.Y ((bx (D a.E) λi=>lR a.E a.cs (a9 a.aJ) i).map ae)),.I (.Y (a.p.map hK)),.I (.Y (a.p.map (uM (D a.E) λk i=>(ak a.E a.cs).W (a9 a.aJ) k i)))]
def du.xs (a:du):List bG:=c8 (D a.p) λk=>(ak a.E a.cs).e4 (a9 a.aJ) (dK a.P) (a.p.getD k 0)-(ak a.E a.cs).bZ (a.p.getD k 0) (a9 a.aJ (a.p.getD k 0))
def Tj (a:du):Data:=.cB [.Y (a.xs.map aw),.bool true]
def Tk:List R->Mem->Option Data:=Ag (λ(a:du) args mem=>args=Ti a/\acQ a mem) Tj
theorem aAL (a:du)(mem:Mem)(h:acQ a mem):Tk (Ti a) mem=some (Tj a):=by
 refine JD (a:=a) ?_ ⟨rfl,h⟩;rintro a b args mem ⟨ay,aA⟩ ⟨bQ,bL⟩;rw[du.uniq aA.at_ bL.at_]
theorem aAM (T:bm)(ig:T qz=aO xk)(iO:T wH=aO zN)(aAN:T Vu=aO ZO)(a:du)(mem:Mem)(a4:acQ a mem):
  wp T IB.body (qG IB.res λm mem'=>dx 6 emp m=some (Tj a)/\dG 256 mem mem') ⟨l1 (Ti a),mem⟩:=by
 obtain⟨bW,hE,tv,iT⟩:=a4;have ta:=λi=>du.Oi bW tv (i:=i);obtain⟨Q,dj⟩:=tv;have aM:=Q.hV;have HA:=λk=>DQ (P:=dK a.P) (n:=D a.E) (k:=k);have Sj:=ayy Q iT;have aAO:=abg Q iT.qP (dm (dK a.P) (D a.E)) λk L=>(DQ L).2;have aAP:=λk (L:dK a.P k) i=>(abk Q iT L i).1
 have aKM:(dm (dK a.P) (D a.E)).length<=5:=by
  unfold dm;exact eP (mO _ _) (by rw[sW];exact aM)
 have aAQ:mem 256082=none:=hE 256082 (by decide);unfold Ti Tj du.xs du.p;generalize aC:dm (dK a.P) (D a.E)=p at *;generalize dL:(ak a.E a.cs).vP (a9 a.aJ) p=A at *;generalize aAR:(bx (D a.E) λi=>lR a.E a.cs (a9 a.aJ) i).map ae=aml at *;have aAS:∀i,i<(D a.E)->aml[i]?=some [.int .i64 (lR a.E a.cs (a9 a.aJ) i)]:=λi U=>by rw[<-aAR,aW,jX _ U];rfl
 refine tQ ?_;simp only[IB];simp only[go_sem,go_sem_proc,aAQ,ah];refine c9 [0,1,2,3,20,21] [] (λ((r,g):Nat×Nat) tm m=>r<=D p/\tm 22=.I (.int .i64 r)/\tm 10=.ref 256082 g 5 0 r/\m 256082=some (g,aS cM ((rowsOf (D p) A).take r))/\dG 256 mem m) (λ(r,_)=>D p-r) (0,0) (by refine⟨by omega,rfl,rfl,rfl,(dG.refl _ _).dW (by decide)⟩) ?_;intro vs ms aK aF;simp only[go_sem,go_sem_proc,ah] at aK aF;subst aK aF;rintro⟨r,g⟩ tm m L hm ⟨amm,vu,dY,GC,bC⟩;simp only[go_sem,go_sem_proc,bf] at L;obtain⟨bu,ay,aA,bQ,qg,vt⟩:=L;rcases dk (r<D p) with av|b4
 ·have d1:decide ((r:Int)<(D p:Int))=true:=c5;have bl:=eu (i:=r) (by omega);obtain⟨i,M⟩:∃c,p[r]?=some c:=⟨_,bB av⟩;have yD:p.getD r 0=i:=by rw[ez,M];rfl
  obtain⟨U,aAT⟩:=HA r av;rw[yD] at U aAT;obtain⟨tv,nI⟩:=ta i U;have fh:=(bC.at 228023 (by omega)).trans bW.row;have fz:=(bC.at (228500+i) (by omega)).trans (bW.ek i U);have iG:=xt (jX (λi=>R.ptr (228500+i) (a.gs.getD i 0) 0) U);have cg:(bx (D a.E) λi=>R.ptr (228500+i) (a.gs.getD i 0) 0).length=D a.E:=gn _ _;have cR:=a.yV i;have hlen:=D3 cR;have nj:=Oe cR;rw[show (a.ha i).f=(a9 a.aJ i:Int) from tv] at nj;have uL:=Od cR (k:=a9 a.aJ i) (z:=b0 a.cs i (a9 a.aJ i:Nat)) (jX _ (by omega));have dq:=aAS i U;have c0:=Q.steady (a9 a.aJ) i;have et:=Q.upto i (a9 a.aJ i);have aAU:IntKind.i64.wrap (lR a.E a.cs (a9 a.aJ) i-b0 a.cs i (a9 a.aJ i:Nat))=lR a.E a.cs (a9 a.aJ) i-b0 a.cs i (a9 a.aJ i:Nat):=by rw[e7 _]
  have hw:=DT (lR a.E a.cs (a9 a.aJ) i-b0 a.cs i (a9 a.aJ i:Nat)) (lT (by omega) (by omega))
  have aAV:A r (D p)=((lR a.E a.cs (a9 a.aJ) i-b0 a.cs i (a9 a.aJ i:Nat):Int):Rat):=by
   rw[<-dL];unfold Day.vP;rw[ag (by omega),yD,<-Gm Q.right,<-ps Q.right,Rat.intCast_sub]
  have aAW:∀k,k<(D p)->A r k=(if r=k then 1 else 0)-(ak a.E a.cs).W (a9 a.aJ) (p.getD k 0) i:=λk L=>by
   rw[<-dL];unfold Day.vP;rw[ad L,yD]
  have dr:i+1<=D a.E:=by omega
  have aa:a9 a.aJ i<11:=by omega
  have bo:(11+a9 a.aJ i+1<=24)=True:=eq_true (by omega);rw[<-aAV] at hw;generalize vW:228500+i=eH at *;generalize fZ (a.ha i)=DC at *;generalize (bx (D a.E) λi=>R.ptr (228500+i) (a.gs.getD i 0) 0)=yW at *;generalize lR a.E a.cs (a9 a.aJ) i=S1 at *;generalize b0 a.cs i (a9 a.aJ i:Nat)=Tg at *;generalize a9 a.aJ i=F0 at *;generalize gQ:aq (A r (D p))=kz at *;obtain⟨⟨nv,o4⟩,⟨vK,vL⟩⟩:=kz;simp only[aw] at hw;have aAX:(eH==256013)=false:=beq_eq_false_iff_ne.2 (by omega);have aAY:(256013==eH)=false:=beq_eq_false_iff_ne.2 (by omega);have aAZ:(eH=256013)=False:=eq_false (by omega);simp only[go_sem,go_sem_proc,ig,bu,ay,aA,bQ,dY,qg,vt,vu,fh,fz,iG,cg,hlen,nj,uL,dq,aAU,hw,M,d1,bl,U,dr,aa,bo,aAX,aAY,aAZ,db,hK,cD,ah,aW];refine N1 (kc:=256013) (g:=gd (m 256013)) (off:=0) (cs:=[.nil,.I (.int .i64 nv),.I (.Y (o4.map ae)),.I (.int .i64 vK),.I (.Y (vL.map ae))]) ?_ ?_ rfl (by decide) ?_
  ·simp only[go_sem,go_sem_proc]
  ·simp[a5]
  simp only[go_sem,go_sem_proc,aA,ah,kP];refine aAK T ig iO mem (D a.E) (by omega) p (by omega) (λk i=>(ak a.E a.cs).W (a9 a.aJ) k i) r i U (λk L=>aAP _ (HA k L).2 i) (.ref 228023 a.g 1 0 (D a.E)) (.I (.Y aml)) (.ref 256082 g 5 0 r) (.I (.Y (p.map hK))) (.I (.int .i64 (D p))) (.I (.int .i64 r)) (gd (m 256013)) (gd (m 256076)) (.I (.int .i64 nv)) (.I (.Y (o4.map ae))) (.I (.int .i64 vK)) (.I (.Y (vL.map ae))) (some (g,aS cM ((rowsOf (D p) A).take r))) _ _ ?_ ?_ ?_ ?_ ?_ ?_ ?_ ?_ ?_ ?_ ?_ ?_ ?_ ?_ ?_ ?_ ?_ ?_
  ·simp only[dv,cx,if_false];exact bu
  ·simp only[dv,cx,if_false];exact ay
  ·simp only[dv,cx,if_false];exact aA
  ·simp only[dv,cx,if_false];exact bQ
  ·simp only[dv,cx,if_false];exact dY
  ·simp only[dv,cx,if_false,if_true]
  ·simp only[dv,cx,if_false,if_true]
  ·simp only[dv,cx,if_false,if_true]
  ·simp only[dv,cx,if_false];exact qg
  ·simp only[dv,cx,if_false];exact vt
  ·simp only[dv,cx,if_false];exact vu
  ·simp only[dv,cx,if_false,if_true]
  ·simp only[dv,cx,if_false,if_true]
  ·simp[a5]
  ·simp[a5]
  ·simp only[a5,cx,if_false];exact GC
  ·repeat first|exact bC|refine dG.dW ?_ (by decide)
  intro tm bX nH ej cL dN eo iK r8 Tl aA0 aA1 aA2 DY aA3 km;have aA4:(c8 (D p) λk=>(if r=k then 1 else 0)-(ak a.E a.cs).W (a9 a.aJ) (p.getD k 0) i)=c8 (D p) (A r):=xi λk L=>(aAW k L).symm;rw[aA4] at DY;clear bu ay aA bQ dY qg vt vu GC fh fz iG bC;have cW:=λcs kq=>ka rj alo 256082 g 88 ((rowsOf (D p) A).take r) (c8 (D p) (A r),aq (A r (D p))) (cs:=cs) kq;have kQ:((rowsOf (D p) A).take r).length=r:=by rw[fU,xj];omega
  have fR:(rowsOf (D p) A).take r++[(c8 (D p) (A r),aq (A r (D p)))]=(rowsOf (D p) A).take (r+1):=by
   rw[g2,abh A av];rfl
  rw[kQ,fR,gQ] at cW;have kr:(c8 (D p) (A r)).length=D p:=qQ _ _;generalize c8 (D p) (A r)=V at *;have mP:=cW _ rfl (by omega) (by omega);simp only[aw,cM,eI,b6] at mP;simp only[go_sem,go_sem_proc];refine SB (kc:=256013) (gc:=gd (m 256013)) (off:=0) (cc:=[.ref 256076 nH 4 0 (D p),.I (.int .i64 nv),.I (.Y (o4.map ae)),.I (.int .i64 vK),.I (.Y (vL.map ae))]) (k:=256076) (g:=nH) (sz:=4) (o:=0) (len:=D p) (cs:=aS aw V) (d:=.Y (V.map aw)) ?_ aA2 rfl DY (HH _ _) (by decide) ?_ ?_
  ·exact r8
  ·have:=kt (n:=0) jS DY;rw[kr] at this;exact this
  refine a1 ?_;repeat' (intro h<;>simp only[h,go_sem,go_sem_proc,ej,cL,dN,eo,iK,r8,Tl,aA0,aA1,aA3,mP,bl,kP]<;>try refine al ?_ ?_)
  exact⟨(r+1,g+1),by dsimp only;omega,by dsimp only;omega,rfl,rfl,rfl,by repeat first|exact km|refine dG.dW ?_ (by decide)⟩
 ·have d1:decide ((r:Int)<(D p:Int))=false:=cu;have amm:r=D p:=by omega
  have hlen:=xj (D p) A;rw[dH (by rw[hlen];omega)] at GC;obtain⟨c0,et⟩:=Sj;have ic:lf (rowsOf (D p) A):=akx (by omega) λi U k L=>je (aAO.sz (by omega) U L) (by omega);have dw:=awb (rowsOf (D p) A) (D p) ic;rw[c0] at dw;dsimp only at dw;have jF:=λ(K:bg->Prop) (st:bg)=>k6 (K:=K) (st:=st) rj 10 256082 g (rowsOf (D p) A);rw[hlen] at jF;subst amm;refine a1 ?_;repeat' (intro h<;>simp only[h,go_sem,go_sem_proc,aAN,bu,ay,aA,bQ,dY,qg,vt,vu,GC,d1,jF,dw,ah,bne,beq_self_eq_true,bT]<;>try refine al ?_ ?_)
  exact⟨_,rfl,rfl,by repeat first|exact bC|refine dG.dW ?_ (by decide)|refine dG.kill ?_ (by decide)⟩
end Go.Mini
namespace Go.Mini
open Classical
def uN (cs:List aB)(f:Nat->Nat)(n:Nat):List aB:=(eY n).flatMap λi=>(eY (f i)).flatMap λk=>dA cs i k
theorem aA5 (aR:Nat->List aB)(r n:Nat)(h:r<=n):((eY n).flatMap λk=>if k<r then aR k else [])=(eY r).flatMap aR:=by
 induction n with
 |zero=>rw[show r=0 by omega];rfl
 |succ n aH =>
  rw[sx,yP,q6,B0,gD]
  by_cases X:r=n+1
  ·subst X;rw[ad (by omega),sx,yP,q6,B0,gD]
   congr 1
   rw[yQ,yQ]
   congr 1
   exact pP λk L=>ad (by have:=jC.1 L;omega)
  ·rw[ag (by omega),gD];exact aH (by omega)
theorem amn {α:Type}(l:List α)(aR:α->List aB)(p:aB->Bool):(l.flatMap aR).filter p=l.flatMap λx=>(aR x).filter p:=by
 induction l with
 |nil=>rfl
 |cons a l aH=>rw[q6,q6,rE,aH]
theorem aA6 {cs:List aB}{f:Nat->Nat}{n:Nat}(aD:∀i,i<n->f i<=10):uN cs f n=(dV n cs).filter λc=>decide (c.2.2.1<(f c.1.toNat:Int)):=by
 unfold uN dV;rw[amn,yQ,yQ]
 congr 1
 refine pP λi U=>?_;rw[amn,<-aA5 (λk=>dA cs i k) (f i) 10 (aD i (jC.1 U)),yQ,yQ]
 congr 1
 refine pP λk _=>?_
 by_cases h:k<f i
 ·rw[ad h];refine (List.filter_eq_self.2 λc H=>?_).symm;obtain⟨-,G,J⟩:=Gs.1 H;rw[G,J,iY];exact c5
 ·rw[ag h];refine (List.filter_eq_nil_iff.2 λc H=>?_).symm;obtain⟨-,G,J⟩:=Gs.1 H;rw[G,J,iY,decide_eq_true_eq];omega
theorem aA7 (cs:List aB)(p:aB->Prop)[DecidablePred p](aR:aB->Int):cl (cs.filter λc=>decide (p c)) aR=cl cs λc=>if p c then aR c else 0:=by
 induction cs with
 |nil=>rfl
 |cons c l aH =>
  by_cases h:p c
  ·rw[oK (by simpa using h)];simp only[cl,aH,ad h]
  ·rw[pv (by simpa using h),aH];simp only[cl,ag h];omega
def eX (j:Nat)(c:aB):Int:=if c.2.1=(j:Int) then c.2.2.2 else 0
theorem amo {E:List Int}{cs:List aB}{f:Nat->Nat}(Ol:cs=dV (D E) cs)(aD:∀i,i<(D E)->f i<=10)(j:Nat):lR E cs f j=E.getD j 0+cl (uN cs f (D E)) (eX j):=by
 rw[aA6 aD,<-Ol,aA7 cs (λc=>c.2.2.1<(f c.1.toNat:Int))];unfold lR
 congr 1
 refine Gg λc _=>?_;unfold eX
 by_cases G:c.2.1=(j:Int)
 ·by_cases J:c.2.2.1<(f c.1.toNat:Int)
  ·rw[ad ⟨G,J⟩,ad J,ad G]
  ·rw[ag λh=>J h.2,ag J]
 ·rw[ag λh=>G h.1,ag G]
  split<;>rfl
theorem aA8 {cs:List aB}{f:Nat->Nat}{n:Nat}{c:aB}(h:c∈uN cs f n):c∈cs:=by
 unfold uN at h;simp only[List.mem_flatMap] at h;obtain⟨i,-,k,-,H⟩:=h;exact (Gs.1 H).1
def ln (cs:List aB)(f:Nat->Nat)(i k t:Nat):List aB:=uN cs f i++(((eY k).flatMap λk=>dA cs i k)++(dA cs i k).take t)
theorem aA9 (cs:List aB)(f:Nat->Nat):ln cs f 0 0 0=[]:=rfl
theorem aBa (cs:List aB)(f:Nat->Nat)(i k:Nat):ln cs f i k (dA cs i k).length=ln cs f i (k+1) 0:=by
 unfold ln;rw[kN,ma,gD,sx,yP,q6,B0,gD]
theorem aBb (cs:List aB)(f:Nat->Nat)(i:Nat):ln cs f i (f i) 0=ln cs f (i+1) 0 0:=by
 unfold ln uN;rw[ma,ma,gD,sx,yP,q6,B0,gD];simp
theorem amp (cs:List aB)(f:Nat->Nat)(n:Nat):ln cs f n 0 0=uN cs f n:=by
 unfold ln;simp
theorem amq (cs:List aB)(f:Nat->Nat){n i k t:Nat}(U:i<n)(L:k<f i):∃l,uN cs f n=ln cs f i k t++l:=by
 have aM:∃m,n=i+1+m:=⟨n-(i+1),by omega⟩
 obtain⟨m,rfl⟩:=aM;have aD:∃r,f i=k+1+r:=⟨f i-(k+1),by omega⟩
 obtain⟨r,X⟩:=aD;have amr:∀(a b:Nat) (aR:Nat->List aB),(eY (a+b)).flatMap aR=(eY a).flatMap aR++((eY b).map (a+·)).flatMap aR:=λa b aR=>by rw[ams,yP]
 unfold uN ln;rw[amr,sx,yP,q6,B0,gD,X,amr,sx,yP,q6,B0,gD];refine⟨(dA cs i k).drop t++(((eY r).map (k+1+·)).flatMap (λk=>dA cs i k)++((eY m).map (i+1+·)).flatMap λi=>(eY (f i)).flatMap λk=>dA cs i k),?_⟩;unfold uN;simp only[hd]
 congr 1
 congr 1
 rw[<-hd ((dA cs i k).take t),CK]
theorem amt {E:List Int}{cs:List aB}(h:e5 E cs){f:Nat->Nat}(Ol:cs=dV (D E) cs)(aD:∀i,i<(D E)->f i<=10)(j:Nat){l fL:List aB}(az:uN cs f (D E)=l++fL):0<=cl l (eX j)/\cl l (eX j)<=1000000536870912:=by
 have Hm:∀m:List aB,(∀c∈m,c∈cs)->0<=cl m (eX j):=by
  intro m
  induction m with
  |nil=>intro _;exact alF _
  |cons c m aH =>
   intro hm;have G:=aH λy ao=>hm y (h3 _ ao);have J:=((hB.1 h.right).2.2.2 c (hm c g0)).2.2.2.2.2.2.1;simp only[cl,eX] at *
   split<;>omega
 have hm:∀c∈l++fL,c∈cs:=λc H=>aA8 (by rw[az];exact H);have G:=Hm l λc H=>hm c (by simp[H]);have J:=Hm fL λc H=>hm c (by simp[H]);have af:=amo Ol aD j;rw[az,Nt] at af;have aP:=h.steady f j;have bh:=h.E j;omega
end Go.Mini
namespace Go.Mini
open Go
theorem Tm {n c:Nat}(H:c<n)(q:Nat->Int)(v:Int):iu c (oD db (bx n q))++[R.I (.int .i64 v)]++jn (c+1) (oD db (bx n q))=oD db (bx n λj=>if j=c then v else q j):=by
 rw[<-Ak,w7,N9,ad (by rw[ah,gn];exact H)];simp[db]
theorem Tn {n c:Nat}(H:c<n)(q:Nat->Int):iu 1 (jn c (oD db (bx n q)))=[.I (.int .i64 (q c))]:=xm (f:=db) (jX q H)
theorem To (n:Nat)(q:Nat->Int):(oD db (bx n q)).length=n:=by rw[ah,gn]
theorem Aq (l:List aB)(c:aB)(aR:aB->Int):cl (l++[c]) aR=cl l aR+aR c:=by
 rw[Nt];simp[cl]
theorem aBc (T:bm){K:eF->bg->Prop}{kk:List fB}(eh:Mem)(n:Nat)(aM:n<=60)(cz:List aB)(B:Nat->Int)(jK:∀t j,0<=B j+cl (cz.take t) (eX j)/\B j+cl (cz.take t) (eX j)<=4000000000000000000)(fo:∀c∈cz,c.2.1<n /\ -1<=c.2.1)(aKN:(D cz)<=2000)(v0 v4 v6 tx BF amu v30 JR JS amv amw:R)(bD:Nat)(JT JU:Option (Nat×List R))(tm:Nat->R)(m:Mem)
  (bu:tm 0=v0) (bL:tm 4=v4) (da:tm 5=.ref 248029 bD 1 0 n) (bj:tm 6=v6) (bJ:tm 7=tx) (dg:tm 8=BF) (dz:tm 9=amu) (iU:tm 30=v30) (j0:tm 31=JR) (j1:tm 32=JS) (nc:tm 50=amv) (oQ:tm 51=amw) (pB:tm 59=kU cz) (lo:tm 60=.I (.int .i64 (D cz))) (uO:tm 61=.I (.int .i64 0))
  (jG:m 248029=some (bD,(bx n B).map db)) (oR:m 248094=JT) (oS:m 248098=JU) (bC:dG 248 eh m)
  (cX:∀tm' m',tm' 0=v0->tm' 4=v4->tm' 5=.ref 248029 bD 1 0 n->tm' 6=v6->tm' 7=tx->tm' 8=BF->tm' 9=amu->tm' 30=v30->tm' 31=JR->tm' 32=JS->tm' 50=amv->tm' 51=amw->m' 248029=some (bD,(bx n λj=>B j+cl cz (eX j)).map db)->m' 248094=JT->m' 248098=JU->dG 248 eh m'->cj T K kk (.exit 4) ⟨tm',m'⟩) :
  wp T (w4.body.sub [1,1,1,1,1,0,1,0,0,0,0,1,1,0,0,1,1,0,1,0,0,1,1,0,0,1,1,0]) (cj T K kk) ⟨tm,m⟩:=by
 simp only[w4,ep.sub]
 refine c9 [0,4,5,6,7,8,9,30,31,32,50,51,59,60] [248094,248098] (λ(t:Nat) tm m=>t<=D cz/\tm 61=.I (.int .i64 t)/\m 248029=some (bD,(bx n λj=>B j+cl (cz.take t) (eX j)).map db)/\dG 248 eh m) (λt=>D cz-t) 0 (by
  refine⟨by omega,uO,?_,bC⟩
  rw[jG]
  congr 3
  exact h6 λj _=>by rw[ma];simp[cl]) ?_
 intro vs ms aK aF;simp only[go_sem,go_sem_proc,bu,bL,da,bj,bJ,dg,dz,iU,j0,j1,nc,oQ,pB,lo,oR,oS] at aK aF;subst aK aF;clear bu bL da bj bJ dg dz iU j0 j1 nc oQ pB lo uO jG oR oS bC tm m;rintro t tm m L hm ⟨Ab,uO,jG,bC⟩;simp only[go_sem,go_sem_proc,bf] at L hm;obtain⟨bu,bL,da,bj,bJ,dg,dz,iU,j0,j1,nc,oQ,pB,lo⟩:=L;obtain⟨oR,oS⟩:=hm;rcases dk (t<D cz) with av|b4
 ·have d1:decide ((t:Int)<(D cz:Int))=true:=c5;have bl:=eu (i:=t) (by omega);obtain⟨⟨au,c2,c3,c4⟩,M⟩:∃c,cz[t]?=some c:=⟨_,bB av⟩;have jf:=fo _ (dS M);dsimp only at jf;have uv:=alV M;simp only[go_sem,go_sem_proc] at uv;have fR:cz.take (t+1)=cz.take t++[(au,c2,c3,c4)]:=by rw[g2,M];rfl
  rcases q:decide (c2>=0)
  ·have wm:c2<0:=by have:=of_decide_eq_false q;omega
   have yT:(bx n λj=>B j+cl (cz.take (t+1)) (eX j))=bx n λj=>B j+cl (cz.take t) (eX j):=h6 λj _=>by
    rw[fR,Aq];unfold eX;rw[ag (by dsimp only;omega)];omega
   refine a1 ?_;repeat' (intro h<;>simp only[h,go_sem,go_sem_proc,bu,bL,da,bj,bJ,dg,dz,iU,j0,j1,nc,oQ,pB,lo,uO,jG,oR,oS,uv,d1,bl,q,bw,cD]<;>try refine al ?_ ?_)
   refine⟨t+1,by omega,by omega,rfl,by rw[yT],by repeat first|exact bC|refine dG.dW ?_ (by decide)⟩
  ·have wm:0<=c2:=of_decide_eq_true q;obtain⟨i,rfl⟩:∃t:Nat,c2=(t:Int):=⟨c2.toNat,by omega⟩
   have cJ:i<n:=by omega
   have k5:=jK t i;have e1:=jK (t+1) i;rw[fR,Aq] at e1;have GD:eX i (au,(i:Int),c3,c4)=c4:=by unfold eX;rw[ad rfl]
   rw[GD] at e1;have B8:IntKind.i64.wrap (B i+cl (cz.take t) (eX i)+c4)=B i+cl (cz.take t) (eX i)+c4:=by rw[e7 _]
   have yT:(bx n λj=>B j+cl (cz.take (t+1)) (eX j))=bx n λj=>if j=i then B i+cl (cz.take t) (eX i)+c4 else B j+cl (cz.take t) (eX j):=h6 λj _=>by
    rw[fR,Aq]
    by_cases ax:j=i
    ·rw[ad ax,ax,GD];omega
    ·rw[ag ax];have:eX j (au,(i:Int),c3,c4)=0:=by unfold eX;rw[ag (by dsimp only;omega)]
     rw[this];omega
   have t1:=Tn cJ λj=>B j+cl (cz.take t) (eX j);have t2:=To n λj=>B j+cl (cz.take t) (eX j);have t3:=Tm cJ (λj=>B j+cl (cz.take t) (eX j)) (B i+cl (cz.take t) (eX i)+c4);rw[<-yT] at t3;have dr:i+1<=n:=by omega
   generalize aN:(bx n λj=>B j+cl (cz.take t) (eX j)).map db=bV at *;generalize rV:(bx n λj=>B j+cl (cz.take (t+1)) (eX j)).map db=rq at *;generalize B i+cl (cz.take t) (eX i)=S1 at *;refine a1 ?_;repeat' (intro h<;>simp only[h,go_sem,go_sem_proc,bu,bL,da,bj,bJ,dg,dz,iU,j0,j1,nc,oQ,pB,lo,uO,jG,oR,oS,uv,d1,bl,q,B8,t1,t2,t3,cJ,dr,bw,cD]<;>try refine al ?_ ?_)
   refine⟨t+1,by omega,by omega,rfl,by rw[rV],by repeat first|exact bC|refine dG.dW ?_ (by decide)⟩
 ·have d1:decide ((t:Int)<(D cz:Int))=false:=cu;rw[dH (by omega)] at jG;refine a1 ?_;repeat' (intro h<;>simp only[h,go_sem,go_sem_proc,bu,bL,da,bj,bJ,dg,dz,iU,j0,j1,nc,oQ,pB,lo,uO,d1]<;>try refine al ?_ ?_)
  refine cX _ _ ?_ ?_ ?_ ?_ ?_ ?_ ?_ ?_ ?_ ?_ ?_ ?_ jG oR oS bC<;>simp only[dv,cx,if_false,bu,bL,da,bj,bJ,dg,dz,iU,j0,j1,nc,oQ]
theorem amx (cs:List aB)(f:Nat->Nat)(i k t:Nat):ln cs f i k t=ln cs f i k 0++(dA cs i k).take t:=by
 unfold ln;simp
theorem aBd (T:bm){K:eF->bg->Prop}{kk:List fB}(eh:Mem)(E:List Int)(cs:List aB)(f:Nat->Nat)(Q:e5 E cs)(Ol:cs=dV (D E) cs)(aD:∀i,i<(D E)->f i<=10)(i:Nat)(U:i<D E)(x:py)(M:x.dF)(eC:∀k,k<10->x.dt[k]?=some (dA cs i k))(B:Nat->Int)(jK:∀j,0<=B j/\B j<=1000000000000000)(eH g:Nat)(vW:eH/1000≠248)(qY:eh eH=some (g,fZ x))(v0 v4 v6 tx BF v30 JR JS:R)(bD:Nat)(JT JU:Option (Nat×List R))(tm:Nat->R)(m:Mem)
  (bu:tm 0=v0) (bL:tm 4=v4) (da:tm 5=.ref 248029 bD 1 0 (D E)) (bj:tm 6=v6) (bJ:tm 7=tx) (dg:tm 8=BF) (dz:tm 9=.ptr eH g 0) (iU:tm 30=v30) (j0:tm 31=JR) (j1:tm 32=JS) (nc:tm 50=.I (.int .i64 (f i))) (oQ:tm 51=.I (.int .i64 0))
  (jG:m 248029=some (bD,(bx (D E) λj=>B j+cl (ln cs f i 0 0) (eX j)).map db)) (oR:m 248094=JT) (oS:m 248098=JU) (bC:dG 248 eh m)
  (cX:∀tm' m',tm' 0=v0->tm' 4=v4->tm' 5=.ref 248029 bD 1 0 (D E)->tm' 6=v6->tm' 7=tx->tm' 8=BF->tm' 9=.ptr eH g 0->tm' 30=v30->tm' 31=JR->tm' 32=JS->m' 248029=some (bD,(bx (D E) λj=>B j+cl (ln cs f (i+1) 0 0) (eX j)).map db)->m' 248094=JT->m' 248098=JU->dG 248 eh m'->cj T K kk (.exit 2) ⟨tm',m'⟩) :
  wp T (w4.body.sub [1,1,1,1,1,0,1,0,0,0,0,1,1,0,0,1,1,0,1,0]) (cj T K kk) ⟨tm,m⟩:=by
 simp only[w4,ep.sub];have tv:=aD i U;have aM:=Q.hV;refine c9 [0,4,5,6,7,8,9,30,31,32,50] [248094,248098] (λ(k:Nat) tm m=>k<=f i/\tm 51=.I (.int .i64 k)/\m 248029=some (bD,(bx (D E) λj=>B j+cl (ln cs f i k 0) (eX j)).map db)/\dG 248 eh m) (λk=>f i-k) 0 (by refine⟨by omega,oQ,jG,bC⟩) ?_;intro vs ms aK aF;simp only[go_sem,go_sem_proc,bu,bL,da,bj,bJ,dg,dz,iU,j0,j1,nc,oR,oS] at aK aF;subst aK aF;clear bu bL da bj bJ dg dz iU j0 j1 nc oQ jG oR oS bC tm m;rintro k tm m L hm ⟨mq,oQ,jG,bC⟩;simp only[go_sem,go_sem_proc,bf] at L hm;obtain⟨bu,bL,da,bj,bJ,dg,dz,iU,j0,j1,nc⟩:=L;obtain⟨oR,oS⟩:=hm;rcases dk (k<f i) with av|b4
 ·have d1:decide ((k:Int)<(f i:Int))=true:=c5;have bl:=eu (i:=k) (by omega);have ai:=(bC eH vW).trans qY;have hlen:=D3 M;have D5:=alW (x:=x) (k:=k) (l:=dA cs i k) (eC k (by omega));have dr:k<10:=by omega
  have bo:(1+k+1<=24)=True:=eq_true (by omega);have amy:=alU (dA cs i k);simp only[go_sem,go_sem_proc] at amy;generalize fZ x=DC at *;simp only[go_sem,go_sem_proc,bu,bL,da,bj,bJ,dg,dz,iU,j0,j1,nc,oQ,ai,hlen,D5,d1,dr,bo,amy,cD];refine aBc T eh (D E) (by omega) (dA cs i k) (λj=>B j+cl (ln cs f i k 0) (eX j)) (λt j=>?_) (λc H=>?_) ?_ v0 v4 v6 tx BF (.ptr eH g 0) v30 JR JS (.I (.int .i64 (f i))) (.I (.int .i64 k)) bD JT JU _ _ ?_ ?_ ?_ ?_ ?_ ?_ ?_ ?_ ?_ ?_ ?_ ?_ ?_ ?_ ?_ jG oR oS bC ?_
  ·obtain⟨l,az⟩:=amq cs f (n:=D E) (t:=t) U av;have G:=amt Q Ol aD j az;rw[amx,Nt] at G;have J:=jK j;omega
  ·have:=(hB.1 Q.right).2.2.2 c (Gs.1 H).1;omega
  ·have G:=mO (λc:aB=>c.1==(i:Int)&&c.2.2.1==(k:Int)) cs;have J:=Q.qR;unfold dA;omega
  all_goals first|(intro tm' m' ej gh iP eD hv gR gS Tp Tq Tr Jd aBe xv Ts Tt yX)|(simp only[dv,cx,if_false,if_true,bu,bL,da,bj,bJ,dg,dz,iU,j0,j1,nc,oQ])
  have hD:(bx (D E) λj=>B j+cl (ln cs f i k 0) (eX j)+cl (dA cs i k) (eX j))=bx (D E) λj=>B j+cl (ln cs f i (k+1) 0) (eX j):=h6 λj _=>by
   rw[<-aBa,amx cs f i k (dA cs i k).length,kN,Nt];omega
  rw[hD] at xv;refine a1 ?_;repeat' (intro h<;>simp only[h,go_sem,go_sem_proc,ej,gh,iP,eD,hv,gR,gS,Tp,Tq,Tr,Jd,aBe,Ts,Tt,bl]<;>try refine al ?_ ?_)
  refine⟨k+1,by omega,by omega,rfl,xv,yX⟩
 ·have d1:decide ((k:Int)<(f i:Int))=false:=cu;obtain rfl:k=f i:=by omega
  rw[aBb] at jG;refine a1 ?_;repeat' (intro h<;>simp only[h,go_sem,go_sem_proc,bu,bL,da,bj,bJ,dg,dz,iU,j0,j1,nc,oQ,d1]<;>try refine al ?_ ?_)
  refine cX _ _ ?_ ?_ ?_ ?_ ?_ ?_ ?_ ?_ ?_ ?_ jG oR oS bC<;>simp only[dv,cx,if_false,bu,bL,da,bj,bJ,dg,dz,iU,j0,j1]
structure Tu (a:du) (mem:Mem):Prop where
 at_:a.fb mem
 h0:lS 248 mem
 iE:lS 255 mem
 nh:lS 256 mem
 JP:a.JO
 jE:sy (ak a.E a.cs) (a9 a.aJ) (dK a.P)
open Classical in
theorem amz (P:Nat->Prop)(n:Nat):dm P (n+1)=dm P n++(if P n then [n] else []):=by
 unfold dm;rw[sx,rE]
 by_cases h:P n
 ·rw[ad h,oK (by simpa using h),pt]
 ·rw[ag h,pv (by simpa using h),pt]
theorem amA (P:Nat->Prop)(n:Nat):(dm P n).length<=n:=by
 unfold dm;exact eP (mO _ _) (by rw[sW];exact cI _)
def du.W (a:du)(k i:Nat):Rat:=(ak a.E a.cs).W (a9 a.aJ) k i
theorem amB (n:Nat)(W:Nat->Nat->Rat)(k:Nat):(uM n W k).length=1:=rfl
theorem aBf (n:Nat)(W:Nat->Nat->Rat)(k:Nat):((uM n W k).map R.I).all R.one=true:=rfl
def pC (a:du)(i j:Nat):Int:=(if j<i then a.E.getD j 0 else 0)+cl (ln a.cs (a9 a.aJ) i 0 0) (eX j)
theorem aBg (T:bm)(acR:T PU=rF Tf){K:eF->bg->Prop}{kk:List fB}(a:du)(eh:Mem)(a4:Tu a eh)(v0 v4 v30:R)(bD tz mw:Nat)(tm:Nat->R)(m:Mem)
  (bu:tm 0=v0) (bL:tm 4=.I (.int .i64 (D a.E))) (da:tm 5=.ref 248029 bD 1 0 (D a.E)) (bj:tm 6=.ref 248094 tz 1 0 0) (bJ:tm 7=.ref 248098 mw 1 0 0) (iU:tm 30=.ref 228023 a.g 1 0 (D a.E)) (j0:tm 31=.I (.int .i64 (D a.E))) (j1:tm 32=.I (.int .i64 0))
  (jG:m 248029=some (bD,(bx (D a.E) λj=>pC a 0 j).map db)) (oR:m 248094=some (tz,[])) (oS:m 248098=some (mw,[])) (bC:dG 248 eh m)
  (cX:∀tm' m' amC amD,tm' 0=v0->tm' 4=.I (.int .i64 (D a.E))->tm' 5=.ref 248029 bD 1 0 (D a.E)->tm' 6=.ref 248094 amC 1 0 (D a.p)->tm' 7=.ref 248098 amD 1 0 (D a.p)->m' 248029=some (bD,(bx (D a.E) λj=>pC a (D a.E) j).map db)->m' 248094=some (amC,aS hK a.p)->m' 248098=some (amD,aS (uM (D a.E) a.W) a.p)->dG 248 eh m'->cj T K kk (.exit 0) ⟨tm',m'⟩) :
  wp T (w4.body.sub [1,1,1,1,1,0,1,0,0,0]) (cj T K kk) ⟨tm,m⟩:=by
 have aKO:=a4;obtain⟨bW,h0,iE,nh,B9,iT⟩:=a4;have ta:=λi=>du.Oi bW B9 (i:=i);obtain⟨Q,dj⟩:=B9;have aM:=Q.hV;simp only[w4,ep.sub];refine c9 [0,4,5,30,31] [] (λ((i,tz,mw):Nat×Nat×Nat) tm m=>i<=D a.E/\tm 32=.I (.int .i64 i)/\tm 6=.ref 248094 tz 1 0 (dm (dK a.P) i).length/\tm 7=.ref 248098 mw 1 0 (dm (dK a.P) i).length/\m 248029=some (bD,(bx (D a.E) λj=>pC a i j).map db)/\m 248094=some (tz,aS hK (dm (dK a.P) i))/\m 248098=some (mw,aS (uM (D a.E) a.W) (dm (dK a.P) i))/\dG 248 eh m) (λ(i,_)=>D a.E-i) (0,tz,mw) (by refine⟨by omega,j1,bj,bJ,jG,oR,oS,bC⟩) ?_;intro vs ms aK aF;simp only[go_sem,go_sem_proc,bu,bL,da,iU,j0] at aK aF;subst aK aF;clear bu bL da bj bJ iU j0 j1 jG oR oS bC tm m;rintro⟨i,tz,mw⟩ tm m L-⟨cJ,j1,bj,bJ,jG,oR,oS,bC⟩;simp only[go_sem,go_sem_proc,bf] at L;obtain⟨bu,bL,da,iU,j0⟩:=L;rcases dk (i<D a.E) with U|b4
 ·have d1:decide ((i:Int)<(D a.E:Int))=true:=c5;have bl:=eu (i:=i) (by omega);obtain⟨tv,nI⟩:=ta i U;have fh:=(bC.at 228023 (by omega)).trans bW.row;have uc:=bW.ek i U;have fz:=(bC.at (228500+i) (by omega)).trans uc;have iG:=xt (jX (λi=>R.ptr (228500+i) (a.gs.getD i 0) 0) U);have cg:(bx (D a.E) λi=>R.ptr (228500+i) (a.gs.getD i 0) 0).length=D a.E:=gn _ _;have cR:=a.yV i;have hlen:=D3 cR;have nj:=Oe cR;have tA:=alY cR;have amE:=aAc (x:=a.ha i);rw[show (a.ha i).f=(a9 a.aJ i:Int) from tv] at nj;rw[show (a.ha i).p=a.P.getD i false from rfl] at tA;rw[show (a.ha i).E=a.E.getD i 0 from rfl] at amE;have abU:=Q.E i;have jA:=amq a.cs (a9 a.aJ) (n:=D a.E) (i:=i) (k:=0) (t:=0) U
  have aKP:0<=cl (ln a.cs (a9 a.aJ) i 0 0) (eX i)/\cl (ln a.cs (a9 a.aJ) i 0 0) (eX i)<=1000000536870912:=by
   have:∃l,uN a.cs (a9 a.aJ) (D a.E)=ln a.cs (a9 a.aJ) i 0 0++l:=by
    obtain⟨r,X⟩:∃r,D a.E=i+r:=⟨D a.E-i,by omega⟩
    refine⟨((eY r).map (i+·)).flatMap λi=>(eY (a9 a.aJ i)).flatMap λk=>dA a.cs i k,?_⟩;rw[amp];unfold uN;rw[X,ams,yP]
   obtain⟨l,az⟩:=this;exact amt Q bW.can (λi U=>(ta i U).2) i az
  have abl:pC a i i=cl (ln a.cs (a9 a.aJ) i 0 0) (eX i):=by unfold pC;rw[ag (by omega)];omega
  have aBh:IntKind.i64.wrap (pC a i i+a.E.getD i 0)=pC a i i+a.E.getD i 0:=by rw[e7 _]
  have t1:=Tn U λj=>pC a i j;have t2:=To (D a.E) λj=>pC a i j;have t3:=Tm U (λj=>pC a i j) (pC a i i+a.E.getD i 0)
  have GF:(bx (D a.E) λj=>if j=i then pC a i i+a.E.getD i 0 else pC a i j)=bx (D a.E) λj=>(if j<i+1 then a.E.getD j 0 else 0)+cl (ln a.cs (a9 a.aJ) i 0 0) (eX j):=h6 λj _=>by
   by_cases ax:j=i
   ·rw[ad ax,ax,ad (by omega),abl];omega
   ·rw[ag ax];unfold pC
    by_cases wy:j<i
    ·rw[ad wy,ad (by omega)]
    ·rw[ag wy,ag (by omega)]
  rw[GF] at t3;have dr:i+1<=D a.E:=by omega
  have vW:(228500+i)/1000≠248:=by omega
  generalize qf:228500+i=eH at *;have aBi:(eH=248029)=False:=eq_false (by omega);have aBj:(eH==248029)=false:=beq_eq_false_iff_ne.2 (by omega);have aBk:(248029==eH)=false:=beq_eq_false_iff_ne.2 (by omega);have aKQ:fZ (a.ha i)=fZ (a.ha i):=rfl;generalize iF:(bx (D a.E) λj=>pC a i j).map db=bV at *;generalize aBl:(bx (D a.E) λj=>(if j<i+1 then a.E.getD j 0 else 0)+cl (ln a.cs (a9 a.aJ) i 0 0) (eX j)).map db=rq at *;generalize JV:(bx (D a.E) λi=>R.ptr (228500+i) (a.gs.getD i 0) 0)=yW at *;generalize Om:fZ (a.ha i)=DC at *;simp only[go_sem,go_sem_proc,bu,bL,da,bj,bJ,iU,j0,j1,fh,fz,iG,cg,hlen,nj,tA,amE,jG,t1,t2,t3,aBh,d1,U,dr,aBi,aBj,aBk,db,hi,cD];refine aBd T eh a.E a.cs (a9 a.aJ) Q bW.can (λi U=>(ta i U).2) i U (a.ha i) cR (λk L=>jX _ L) (λj=>if j<i+1 then a.E.getD j 0 else 0) (λj=>?_) eH (a.gs.getD i 0) vW (by rw[Om];exact uc) v0 (.I (.int .i64 (D a.E))) (.ref 248094 tz 1 0 (dm (dK a.P) i).length) (.ref 248098 mw 1 0 (dm (dK a.P) i).length) (.I (.int .i64 i)) (.ref 228023 a.g 1 0 (D a.E)) (.I (.int .i64 (D a.E))) (.I (.int .i64 i)) bD (some (tz,aS hK (dm (dK a.P) i))) (some (mw,aS (uM (D a.E) a.W) (dm (dK a.P) i))) _ _ ?_ ?_ ?_ ?_ ?_ ?_ ?_ ?_ ?_ ?_ ?_ ?_ ?_ ?_ ?_ (bC.dW (by decide)) ?_
  ·have:=Q.E j
   split<;>omega
  all_goals first|(intro tm' m' ej gh iP eD hv gR gS Tp Tq Tr xv Ts Tt yX)|(simp only[dv,cx,if_false,if_true,bu,bL,da,bj,bJ,iU,j0,j1])|(simp only[a5,cx,if_false,if_true,oR,oS])|skip
  ·rw[<-aBl]
  have hD:(bx (D a.E) λj=>(if j<i+1 then a.E.getD j 0 else 0)+cl (ln a.cs (a9 a.aJ) (i+1) 0 0) (eX j))=bx (D a.E) λj=>pC a (i+1) j:=rfl;rw[hD] at xv;have e1:=(yX eH vW).trans uc;have pl:=amA (dK a.P) i;rcases q:a.P.getD i false
  ·have g6:dm (dK a.P) (i+1)=dm (dK a.P) i:=by
    rw[amz,ag (by unfold dK;rw[q];decide),gD]
   rw[q] at tA;refine a1 ?_;repeat' (intro h<;>simp only[h,go_sem,go_sem_proc,ej,gh,iP,eD,hv,gR,gS,Tp,Tq,Tr,Ts,Tt,e1,hlen,tA,bl,hi,cD]<;>try refine al ?_ ?_)
   exact⟨(i+1,tz,mw),by dsimp only;omega,by dsimp only;omega,rfl,by rw[g6],by rw[g6],xv,by rw[g6],by rw[g6],yX⟩
  ·have fs:dK a.P i:=q
   have g6:dm (dK a.P) (i+1)=dm (dK a.P) i++[i]:=by
    rw[amz,ad fs]
   have aBm:a9 a.aJ i<10:=by
    obtain⟨G,g,J,af⟩:=iT;exact (af.gr i fs).2
   have o2:=aAD a i m' ⟨bW.aE yX (by decide) aM,iE.aE yX (by decide),⟨Q,dj⟩,U,aBm,iT.qP i fs⟩;rw[qf] at o2;have aBn:Te (a,i)=.cB [.Y ((c8 (D a.E) (a.W i)).map aw),.bool true]:=rfl;rw[aBn] at o2;have amF:=ka vH acq 248094 tz 8 (dm (dK a.P) i) i (cs:=[.I (.int .i64 i)]) rfl (by omega) (by omega);have amG:=ka (amB (D a.E) a.W) (aBf (D a.E) a.W) 248098 mw 24 (dm (dK a.P) i) i (cs:=[.I (.Y ((c8 (D a.E) (a.W i)).map aw))]) rfl (by omega) (by omega);have bt:(dm (dK a.P) (i+1)).length=(dm (dK a.P) i).length+1:=by rw[g6,gj];rfl
   rw[<-g6] at amF amG;rw[q] at tA;generalize (c8 (D a.E) (a.W i)).map aw=V at *;refine a1 ?_;repeat' (intro h<;>simp only[h,go_sem,go_sem_proc,acR,ej,gh,iP,eD,hv,gR,gS,Tp,Tq,Tr,Ts,Tt,e1,hlen,tA,o2,amF,amG,bl,hi,cD,bT]<;>try refine al ?_ ?_)
   exact⟨(i+1,tz+1,mw+1),by dsimp only;omega,by dsimp only;omega,rfl,by rw[bt],by rw[bt],xv,rfl,rfl,by repeat first|exact yX|refine dG.dW ?_ (by decide)⟩
 ·have d1:decide ((i:Int)<(D a.E:Int))=false:=cu;obtain rfl:i=D a.E:=by omega
  refine a1 ?_;repeat' (intro h<;>simp only[h,go_sem,go_sem_proc,bu,bL,da,bj,bJ,iU,j0,j1,d1]<;>try refine al ?_ ?_)
  refine cX _ _ tz mw ?_ ?_ ?_ ?_ ?_ jG oR oS bC<;>simp only[dv,cx,if_false,bu,bL,da,bj,bJ,du.p]
theorem aBo (T:bm)(m8:T xZ=aO zP)(zO:T CN=aO Fy){K:eF->bg->Prop}{kk:List fB}(eh:Mem)(n:Nat)(p:List Nat)(aC:(D p)<=60)(W:Nat->Nat->Rat)(cr:Nat->Rat)(i:Nat)(U:i<n)(xw:Rat)(a2:∀t,t<=(D p)->eJ 440 (xw+cN t λk=>W (p.getD k 0) i*cr k))(dy:∀k,k<(D p)->eJ 440 (W (p.getD k 0) i*cr k)/\eJ 30 (W (p.getD k 0) i)/\eJ 295 (cr k))(amH amI amJ amK:R)(bD:Nat)(amL:Option (Nat×List R))(tm:Nat->R)(m:Mem)
  (bj:tm 6=.I (.Y (p.map hK))) (bJ:tm 7=.I (.Y (p.map (uM n W)))) (qh:tm 15=.I (.Y ((c8 (D p) cr).map aw))) (ry:tm 17=amH) (Dx:tm 18=.I (.int .i64 i)) (qg:tm 20=.ptr 248020 bD 0) (yY:tm 110=amI) (yZ:tm 111=amJ) (rr:tm 112=amK) (On:tm 120=.I (.int .i64 (D p))) (Oo:tm 121=.I (.int .i64 0))
  (JW:m 248020=some (bD,(aw (aq xw)).map .I)) (JX:m 248156=amL) (bC:dG 248 eh m)
  (cX:∀tm' m',tm' 6=.I (.Y (p.map hK))->tm' 7=.I (.Y (p.map (uM n W)))->tm' 15=.I (.Y ((c8 (D p) cr).map aw))->tm' 17=amH->tm' 20=.ptr 248020 bD 0->tm' 110=amI->tm' 111=amJ->tm' 112=amK->m' 248020=some (bD,(aw (aq (xw+cN (D p) λk=>W (p.getD k 0) i*cr k))).map .I)->m' 248156=amL->dG 248 eh m'->cj T K kk (.exit 8) ⟨tm',m'⟩) :
  wp T (w4.body.sub [1,1,1,1,1,1,1,1,1,0,1,0,0,0,1,1,0,0,1,1,0,1,0]) (cj T K kk) ⟨tm,m⟩:=by
 simp only[w4,ep.sub]
 refine c9 [6,7,15,17,18,20,110,111,112,120] [248156] (λ(k:Nat) tm m=>k<=D p/\tm 121=.I (.int .i64 k)/\m 248020=some (bD,(aw (aq (xw+cN k λk=>W (p.getD k 0) i*cr k))).map .I)/\dG 248 eh m) (λk=>D p-k) 0 (by
  refine⟨by omega,Oo,?_,bC⟩
  rw[JW,cN,pr]) ?_
 intro vs ms aK aF;simp only[go_sem,go_sem_proc,bj,bJ,qh,ry,Dx,qg,yY,yZ,rr,On,JX] at aK aF;subst aK aF;clear bj bJ qh ry Dx qg yY yZ rr On Oo JW JX bC tm m;rintro k tm m L hm ⟨mq,Oo,JW,bC⟩;simp only[go_sem,go_sem_proc,bf] at L hm;obtain⟨bj,bJ,qh,ry,Dx,qg,yY,yZ,rr,On⟩:=L;rcases dk (k<D p) with av|b4
 ·have d1:decide ((k:Int)<(D p:Int))=true:=c5;have bl:=eu (i:=k) (by omega);obtain⟨xu,M⟩:∃c,p[k]?=some c:=⟨_,bB av⟩;have Dw:p.getD k 0=xu:=by rw[ez,M];rfl
  obtain⟨jq,iL,n2⟩:=dy k av;have acS:=a2 k (by omega);rw[Dw] at jq iL;have hmul:=ak3 (je iL (by omega)) (je n2 (by omega)) (NB iL n2 (by omega));have lI:=ak2 (je acS (by omega)) (je jq (by omega)) (xg acS jq (by omega))
  have Q:(xw+cN (k+1) λk=>W (p.getD k 0) i*cr k)=xw+cN k (λk=>W (p.getD k 0) i*cr k)+W xu i*cr k:=by
   rw[cN,Dw];grind
  have bq:=p9 (W xu) U;have aBp:=p9 cr av;rw[<-Q] at lI;clear acS jq iL n2 dy a2 Q cX;generalize aq (xw+cN k λk=>W (p.getD k 0) i*cr k)=F1 at *;generalize aBq:aq (xw+cN (k+1) λk=>W (p.getD k 0) i*cr k)=F2 at *;generalize aq (W xu i*cr k)=F3 at *;generalize aq (W xu i)=F4 at *;generalize aq (cr k)=F5 at *;obtain⟨⟨cE,cS⟩,⟨dU,eN⟩⟩:=F1;obtain⟨⟨c0,et⟩,⟨gN,hz⟩⟩:=F2;obtain⟨⟨f1,f2⟩,⟨f3,f4⟩⟩:=F3;obtain⟨⟨dh,dC⟩,⟨ji,m9⟩⟩:=F4;obtain⟨⟨cL,dN⟩,⟨eo,gh⟩⟩:=F5;simp only[aw,eI,b6] at hmul lI JW;refine a1 ?_;repeat' (intro h<;>simp only[h,go_sem,go_sem_proc,m8,zO,bj,bJ,qh,ry,Dx,qg,yY,yZ,rr,On,Oo,JW,hm,d1,bl,M,uM,bq,aBp,hmul,lI,aw,ah,aW,bne,beq_self_eq_true,bT]<;>try refine al ?_ ?_)
  refine⟨k+1,by omega,by omega,rfl,by rw[aBq],by repeat first|exact bC|refine dG.dW ?_ (by decide)⟩
 ·have d1:decide ((k:Int)<(D p:Int))=false:=cu;obtain rfl:k=D p:=by omega
  refine a1 ?_;repeat' (intro h<;>simp only[h,go_sem,go_sem_proc,bj,bJ,qh,ry,Dx,qg,yY,yZ,rr,On,Oo,d1]<;>try refine al ?_ ?_)
  refine cX _ _ ?_ ?_ ?_ ?_ ?_ ?_ ?_ ?_ JW hm bC<;>simp only[dv,cx,if_false,bj,bJ,qh,ry,qg,yY,yZ,rr]
def Tv (a:du):Data:=.cB [.Y ((c8 (D a.E) ((ak a.E a.cs).e4 (a9 a.aJ) (dK a.P))).map aw),.bool true]
def acT:List R->Mem->Option Data:=Ag (λ(a:du) args mem=>args=[.ref 228023 a.g 1 0 (D a.E)]/\Tu a mem) Tv
theorem aBr (a:du)(mem:Mem)(h:Tu a mem):acT [.ref 228023 a.g 1 0 (D a.E)] mem=some (Tv a):=by
 refine JD (a:=a) ?_ ⟨rfl,h⟩;rintro a b args mem ⟨ay,aA⟩ ⟨bQ,bL⟩;rw[du.uniq aA.at_ bL.at_]
theorem GG (l:List Int):l.map db=aS ae l:=by
 unfold aS
 induction l with
 |nil=>rfl
 |cons a l aH=>rw[eI,eI,lZ,kg,<-aH];rfl
theorem aBs (n:Nat):(en n [R.I (.int .i64 0)]).flatten=(bx n λ_=>(0:Int)).map db:=by
 induction n with
 |zero=>rfl
 |succ n aH=>rw[List.replicate_succ',List.flatten_append,aH];simp[bx,sx,db]
theorem aBt (T:bm)(ig:T qz=aO xk)(acR:T PU=rF Tf)(aBu:T V6=rF Tk)(m8:T xZ=aO zP)(zO:T CN=aO Fy)(a:du)(mem:Mem)(a4:Tu a mem):
  wp T w4.body (qG w4.res λm mem'=>dx 6 emp m=some (Tv a)/\dG 248 mem mem') ⟨l1 [.ref 228023 a.g 1 0 (D a.E)],mem⟩:=by
 have bW:=a4.at_;have Q:=a4.JP.vS;have iT:=a4.jE;have aM:=Q.hV;have DD:(8*D a.E<=140737488355328)=True:=eq_true (by omega);have w9:(D a.E<=maxLen)=True:=eq_true (by unfold maxLen;omega);have amM:mem 248094=none:=a4.h0 248094 (by decide);have amN:mem 248098=none:=a4.h0 248098 (by decide);have Ry:mem 248029=none:=a4.h0 248029 (by decide);have a2:=aBs (D a.E)
 have wx:(bx (D a.E) λj=>pC a 0 j)=bx (D a.E) λ_=>(0:Int):=h6 λj _=>by
  unfold pC;rw[ag (by omega),aA9];rfl
 refine tQ ?_;simp only[w4];simp only[go_sem,go_sem_proc,DD,w9,amM,amN,Ry,a2];refine aBg T acR a mem a4 (.ref 228023 a.g 1 0 (D a.E)) (.ref 228023 a.g 1 0 (D a.E)) (.ref 228023 a.g 1 0 (D a.E)) 0 0 0 _ _ ?_ ?_ ?_ ?_ ?_ ?_ ?_ ?_ ?_ ?_ ?_ ((((dG.refl _ _).dW (by decide)).dW (by decide)).dW (by decide)) ?_
 all_goals first|(intro tm m tz mw ej gh iP eD hv jG oR oS bC)|(simp only[dv,cx,if_false,if_true];done)|(simp only[dv,cx,if_false,if_true];rfl)|(simp only[a5,cx,if_false,if_true,wx])|skip
 have dq:(bx (D a.E) λj=>pC a (D a.E) j)=bx (D a.E) λi=>lR a.E a.cs (a9 a.aJ) i:=h6 λj ax=>by
  unfold pC;rw[ad ax,amp,amo bW.can λi U=>(du.Oi bW a4.JP U).2]
 rw[dq,GG] at jG;have fM:∀jH,dG 248 mem jH->Tk [.ref 228023 a.g 1 0 (D a.E),.I (.Y ((bx (D a.E) λi=>lR a.E a.cs (a9 a.aJ) i).map ae)),.I (.Y (a.p.map hK)),.I (.Y (a.p.map (uM (D a.E) a.W)))] jH=some (.cB [.Y (a.xs.map aw),.bool true]):=λjH h=>aAL a jH ⟨bW.aE h (by decide) aM,a4.nh.aE h (by decide),a4.JP,iT⟩;have amO:(bx (D a.E) λi=>lR a.E a.cs (a9 a.aJ) i).length=D a.E:=gn _ _;have aBv:∀i,i<(D a.E)->(bx (D a.E) λi=>lR a.E a.cs (a9 a.aJ) i)[i]?=some (lR a.E a.cs (a9 a.aJ) i):=λi U=>jX _ U;generalize aKR:(bx (D a.E) λi=>lR a.E a.cs (a9 a.aJ) i)=ST at *;have acU:=λ(K:bg->Prop) (st:bg)=>k6 (K:=K) (st:=st) hO 5 248029 0 ST;rw[amO] at acU;have amP:=λ(K:bg->Prop) (st:bg)=>k6 (K:=K) (st:=st) vH 6 248094 tz a.p;have amQ:=λ(K:bg->Prop) (st:bg)=>k6 (K:=K) (st:=st) (amB (D a.E) a.W) 7 248098 mw a.p;have amR:=λdh dC ji au c2 c3=>fM (a5 (a5 (a5 m 248029 dh au) 248094 dC c2) 248098 ji c3) (((bC.dW (by decide)).dW (by decide)).dW (by decide));simp only[go_sem,go_sem_proc,aBu,ej,gh,iP,eD,hv,jG,oR,oS,acU,amP,amQ,amR,amO,ah,bT];have j7:(D a.p)<=D a.E:=amA _ _;have g6:=λi (U:i<D a.E) t (cm:t<=D a.p)=>ayA Q iT U cm;have acV:=λi (U:i<D a.E)=>iT.good.akt (d:=ak a.E a.cs) U;have GH:dm (dK a.P) (ak a.E a.cs).n=a.p:=rfl;have aBw:dm (dK a.P) (D a.E)=a.p:=rfl;have q5:a.xs=c8 (D a.p) λk=>(ak a.E a.cs).e4 (a9 a.aJ) (dK a.P) (a.p.getD k 0)-(ak a.E a.cs).bZ (a.p.getD k 0) (a9 a.aJ (a.p.getD k 0)):=rfl;rw[GH] at acV;rw[aBw] at g6;rw[q5];generalize jN:(λk=>(ak a.E a.cs).e4 (a9 a.aJ) (dK a.P) (a.p.getD k 0)-(ak a.E a.cs).bZ (a.p.getD k 0) (a9 a.aJ (a.p.getD k 0)))=cr at *;have BE:∀k,(ak a.E a.cs).e4 (a9 a.aJ) (dK a.P) (a.p.getD k 0)-(ak a.E a.cs).bZ (a.p.getD k 0) (a9 a.aJ (a.p.getD k 0))=cr k:=λk=>congrFun jN k;simp only[BE] at g6 acV;have z9:=λi=>Gm Q.right (a9 a.aJ) i;have amS:=λi=>Q.steady (a9 a.aJ) i;clear acU amP amQ fM amR q5 jN BE ej gh iP eD hv jG oR oS amM amN Ry a2 wx DD w9
 refine c9 [6,7,15,110,111] [] (λ((i,g):Nat×Nat) tm jH=>i<=D a.E/\tm 112=.I (.int .i64 i)/\tm 17=.ref 248156 g 4 0 i/\jH 248156=some (g,aS aw (c8 i ((ak a.E a.cs).e4 (a9 a.aJ) (dK a.P))))/\dG 248 mem jH) (λ(i,_)=>D a.E-i) (0,gd (m 248156)) (by
  refine⟨by omega,rfl,rfl,by simp[a5];rfl,by repeat first|exact bC|refine dG.dW ?_ (by decide)⟩) ?_
 intro vs ms aK aF;simp only[go_sem,go_sem_proc] at aK aF;subst aK aF;clear bC m tm;rintro⟨i,g⟩ tm m L-⟨cJ,rr,ry,JX,bC⟩;simp only[go_sem,go_sem_proc,bf] at L;obtain⟨bj,bJ,qh,yY,yZ⟩:=L;rcases dk (i<D a.E) with U|b4
 ·have d1:decide ((i:Int)<(D a.E:Int))=true:=c5;have bl:=eu (i:=i) (by omega);have aBx:=aBv i U;have hw:=DT _ (lT (z:=lR a.E a.cs (a9 a.aJ) i) (by have:=amS i;omega) (by have:=amS i;omega));rw[z9] at hw;have acW:=g6 i U;have aBy:=acV i U;generalize qC:(ak a.E a.cs).st (a9 a.aJ) i=xw at *;generalize gQ:aq xw=kz at *;obtain⟨⟨nv,o4⟩,⟨vK,vL⟩⟩:=kz;simp only[aw] at hw;simp only[go_sem,go_sem_proc,ig,bj,bJ,qh,ry,yY,yZ,rr,d1,aBx,hw,ae,ah,aW];refine aBo T m8 zO mem (D a.E) a.p (by omega) a.W cr i U xw (λt cm=>(acW t cm).1) (λk L=>⟨(acW 0 (by omega)).2.1 k L,(abk Q iT (DQ L).2 i).1,(acW 0 (by omega)).2.2 k L⟩) (.ref 248156 g 4 0 i) (.I (.Y (ST.map ae))) (.I (.int .i64 (D a.E))) (.I (.int .i64 i)) (gd (m 248020)) (some (g,aS aw (c8 i ((ak a.E a.cs).e4 (a9 a.aJ) (dK a.P))))) _ _ ?_ ?_ ?_ ?_ ?_ ?_ ?_ ?_ ?_ ?_ ?_ ?_ ?_ ((bC.dW (by decide)).dW (by decide)) ?_
  all_goals first|(intro tm' m' eD hv Tw amT Tl amU amV MU Tx amW yX)|(simp only[dv,cx,if_false,if_true,bj,bJ,qh,ry,yY,yZ,rr];done)|(simp only[a5,cx,if_false,if_true,JX];done)|(simp only[a5,if_true];rw[gQ];rfl)
  have aBz:xw+(cN (D a.p) λk=>a.W (a.p.getD k 0) i*cr k)=(ak a.E a.cs).e4 (a9 a.aJ) (dK a.P) i:=aBy.symm;rw[aBz] at Tx;have aK:=amh i ((ak a.E a.cs).e4 (a9 a.aJ) (dK a.P));have cg:(c8 i ((ak a.E a.cs).e4 (a9 a.aJ) (dK a.P))).length=i:=qQ _ _;have cW:=λ(aR:bG) cs kq=>ka jS yo 248156 g 64 (c8 i ((ak a.E a.cs).e4 (a9 a.aJ) (dK a.P))) aR (cs:=cs) kq (by omega) (by omega);simp only[cg] at cW;generalize c8 i ((ak a.E a.cs).e4 (a9 a.aJ) (dK a.P))=V at *;generalize mF:c8 (i+1) ((ak a.E a.cs).e4 (a9 a.aJ) (dK a.P))=V2 at *;generalize aq ((ak a.E a.cs).e4 (a9 a.aJ) (dK a.P) i)=aR at *;obtain⟨⟨cE,cS⟩,⟨dU,eN⟩⟩:=aR;have mP:=cW ((cE,cS),(dU,eN)) _ rfl;rw[<-aK] at mP;simp only[aw,eI,b6] at mP Tx;simp only[go_sem,go_sem_proc,eD,hv,Tw,amT,Tl,amU,amV,MU,Tx,amW,mP,bl];repeat' (first|refine al ?_ ?_|fail)<;>intro h<;>simp only[h,go_sem,go_sem_proc,eD,hv,Tw,amT,Tl,amU,amV,MU,Tx,amW,mP,bl]
  exact⟨(i+1,g+1),by dsimp only;omega,by dsimp only;omega,rfl,rfl,by rw[<-mF],by repeat first|exact yX|refine dG.dW ?_ (by decide)⟩
 ·have d1:decide ((i:Int)<(D a.E:Int))=false:=cu;obtain rfl:i=D a.E:=by omega
  have kr:(c8 (D a.E) ((ak a.E a.cs).e4 (a9 a.aJ) (dK a.P))).length=D a.E:=qQ _ _;have jF:=λ(K:bg->Prop) (st:bg)=>k6 (K:=K) (st:=st) jS 17 248156 g (c8 (D a.E) ((ak a.E a.cs).e4 (a9 a.aJ) (dK a.P)));rw[kr] at jF;simp only[go_sem,go_sem_proc,bj,bJ,qh,ry,yY,yZ,rr,JX,d1,jF];repeat' (first|refine al ?_ ?_|fail)<;>intro h<;>simp only[h,go_sem,go_sem_proc,bj,bJ,qh,ry,yY,yZ,rr,JX,d1,jF]
  exact⟨_,rfl,rfl,by repeat first|exact bC|refine dG.dW ?_ (by decide)|refine dG.kill ?_ (by decide)⟩
def du.ih (a:du)(p:Nat->Bool):du:={ a with P:=fE (D a.E) p }
theorem du.Ty (a:du)(p:Nat->Bool){i:Nat}(U:i<D a.E):(a.ih p).ha i=(a.ha i).sp (p i):=by
 have:(fE (D a.E) p).getD i false=p i:=by rw[ez,DZ _ U];rfl
 unfold du.ha du.ih py.sp;dsimp only;rw[this]
theorem du.fb.amX {a:du}{m:Mem}{p:Nat->Bool}(h:(a.ih p).fb m){i:Nat}(U:i<D a.E)(b:Bool):(a.ih λj=>if j=i then b else p j).fb (a5 m (228500+i) (a.gs.getD i 0) (fZ ((a.ha i).sp b))):=by
 refine⟨h.can,h.aJ,tq _ _,h.S5,?_,λj ax=>?_⟩
 ·have:=h.row;simp only[a5];rw[ag (show ¬ ((228023:Nat)=228500+i) by omega)];exact this
 ·rw[du.Ty a _ ax];simp only[a5]
  by_cases lz:j=i
  ·subst lz;rw[ad rfl,ad rfl]
   rfl
  ·rw[ag (show ¬ ((228500+j:Nat)=228500+i) by omega),ag lz];have:=h.ek j ax;rw[du.Ty a _ ax] at this;exact this
theorem du.aBA {a:du}(h:(D a.P)=D a.E):a.ih (λj=>a.P.getD j false)=a:=by
 have:fE (D a.E) (λj=>a.P.getD j false)=a.P:=by
  refine Of (d:=false) (tq _ _) h λj ax=>?_;rw[ez,DZ _ ax];rfl
 unfold du.ih;rw[this]
theorem du.JY (a:du){p q:Nat->Bool}(h:∀i,i<(D a.E)->p i=q i):a.ih p=a.ih q:=by
 unfold du.ih;rw[Gw h]
def y0 (n:Nat)(mem m:Mem):Prop:=∀k,(∀i,i<n->k≠228500+i)->m k=mem k
theorem y0.dW {n i g:Nat}{cs:List R}{mem m:Mem}(h:y0 n mem m)(U:i<n):y0 n mem (a5 m (228500+i) g cs):=λk L=>by
 simp only[a5];rw[ag (L i U)];exact h k L
theorem y0.no {n j:Nat}{mem m:Mem}(h:y0 n mem m)(aM:n<=5)(ax:j≠228)(hm:lS j mem):lS j m:=λk L=>by
 rw[h k λi U=>by omega]
 exact hm k L
theorem aBB (T:bm)(ig:T qz=aO xk)(hW:T u9=aO zS){K:eF->bg->Prop}{kk:List fB}(eh:Mem)(a:du)(p:Nat->Bool)(B9:a.JO)(h:Nat->Rat)(ic:∀i,i<(D a.E)->dX (h i))(tm:Nat->R)(m:Mem)
  (bW:(a.ih p).fb m) (bC:y0 (D a.E) eh m) (bu:tm 0=.ref 228023 a.g 1 0 (D a.E)) (bj:tm 6=.I (.Y ((c8 (D a.E) h).map aw))) (dg:tm 8=.I (.bool false)) (pA:tm 28=.ref 228023 a.g 1 0 (D a.E)) (vX:tm 29=.I (.int .i64 (D a.E))) (iU:tm 30=.I (.int .i64 0))
  (cX:∀tm' m',tm' 0=.ref 228023 a.g 1 0 (D a.E)->tm' 6=.I (.Y ((c8 (D a.E) h).map aw))->tm' 8=.I (.bool (vU (ak a.E a.cs) (a9 a.aJ) h p (D a.E)))->(a.ih (ie (ak a.E a.cs) (a9 a.aJ) h p (D a.E))).fb m'->y0 (D a.E) eh m'->cj T K kk (.exit 4) ⟨tm',m'⟩) :
  wp T (IA.body.sub [1,1,0,0,0,1,1,1,0,1,0]) (cj T K kk) ⟨tm,m⟩:=by
 simp only[IA,ep.sub];obtain⟨Q,dj⟩:=B9;have aM:=Q.hV
 refine c9 [0,6,28,29] [] (λ(i:Nat) tm m=>i<=D a.E/\tm 30=.I (.int .i64 i)/\tm 8=.I (.bool (vU (ak a.E a.cs) (a9 a.aJ) h p i))/\(a.ih (ie (ak a.E a.cs) (a9 a.aJ) h p i)).fb m/\y0 (D a.E) eh m) (λi=>D a.E-i) 0 (by
  refine⟨by omega,iU,dg,?_,bC⟩
  have:a.ih (ie (ak a.E a.cs) (a9 a.aJ) h p 0)=a.ih p:=a.JY λj _=>by
   unfold ie;rw[cu,fr,lA]
  rw[this];exact bW) ?_
 intro vs ms aK aF;simp only[go_sem,go_sem_proc,bu,bj,pA,vX] at aK aF;subst aK aF;clear bu bj dg pA vX iU bW bC tm m;rintro i tm m L-⟨U,iU,dg,bW,bC⟩;simp only[go_sem,go_sem_proc,bf] at L;obtain⟨bu,bj,pA,vX⟩:=L;rcases dk (i<D a.E) with av|b4
 ·have d1:decide ((i:Int)<(D a.E:Int))=true:=c5;have bl:=eu (i:=i) (by omega);have tv:a.aJ.getD i 10=(a9 a.aJ i:Int)/\a9 a.aJ i<=10:=du.Oi (a:=a.ih (ie (ak a.E a.cs) (a9 a.aJ) h p i)) bW ⟨Q,dj⟩ av;obtain⟨tv,nI⟩:=tv;have fh:m 228023=some (a.g,bx (D a.E) λi => .ptr (228500+i) (a.gs.getD i 0) 0):=bW.row;have fz:m (228500+i)=some (a.gs.getD i 0,fZ ((a.ih (ie (ak a.E a.cs) (a9 a.aJ) h p i)).ha i)):=bW.ek i av;rw[du.Ty a _ av,SO] at fz;have iG:=xt (jX (λi=>R.ptr (228500+i) (a.gs.getD i 0) 0) av);have cg:(bx (D a.E) λi=>R.ptr (228500+i) (a.gs.getD i 0) 0).length=D a.E:=gn _ _;have cR:((a.ha i).sp (p i)).dF:=⟨(a.yV i).dt,(a.yV i).us⟩;have hlen:=D3 cR;have nj:iu 1 (jn 22 (fZ ((a.ha i).sp (p i))))=[db (a9 a.aJ i:Int)]:=(Oe cR).trans (congrArg (λx=>[db x]) tv);have tA:iu 1 (jn 23 (fZ ((a.ha i).sp (p i))))=[hi (p i)]:=alY cR;have uL:=Od cR (k:=a9 a.aJ i) (z:=b0 a.cs i (a9 a.aJ i:Nat)) (jX _ (by omega));have eZ:_=fZ ((a.ha i).sp true):=alZ cR true;have lj:=bW.amX av true;have aF:=als (ak a.E a.cs) (a9 a.aJ) h p i
  have tJ:(p i=true\/qd (ak a.E a.cs) (a9 a.aJ) h i=false)->a.ih (ie (ak a.E a.cs) (a9 a.aJ) h p (i+1))=a.ih (ie (ak a.E a.cs) (a9 a.aJ) h p i):=λaX=>a.JY λj _=>by
   rw[ab4]
   by_cases ax:j=i
   ·subst ax;rw[ad rfl,SO];rcases aX with G|G
    ·rw[G];rfl
    ·rw[G,lA]
   ·rw[ag ax]
  have dr:i+1<=D a.E:=by omega
  have aa:a9 a.aJ i<11:=by omega
  have bo:(11+a9 a.aJ i+1<=24)=True:=eq_true (by omega);have bH:(23+1<=24)=True:=eq_true (by omega);generalize JV:(bx (D a.E) λi=>R.ptr (228500+i) (a.gs.getD i 0) 0)=yW at *;have qf:228500+i=228500+i:=rfl;generalize vW:228500+i=eH at *;generalize Om:fZ ((a.ha i).sp (p i))=DC at *;rcases d2:decide ((a9 a.aJ i:Int)<10)
  ·have h9:qd (ak a.E a.cs) (a9 a.aJ) h i=false:=by
    unfold qd;rw[kY (by have:=of_decide_eq_false d2;omega),fr]
   rw[h9,jB,lA] at aF;simp only[go_sem,go_sem_proc,bu,bj,dg,pA,vX,iU,fh,fz,iG,cg,hlen,nj,d1,d2,bl,av,dr,db,hi,cD];repeat' (first|refine al ?_ ?_|fail)<;>intro h<;>simp only[h,go_sem,go_sem_proc,bu,bj,dg,pA,vX,iU,fh,fz,iG,cg,hlen,nj,d1,d2,bl,av,dr,db,hi,cD]
   exact⟨i+1,by omega,by omega,rfl,by rw[aF],by rw[tJ (.inr h9)];exact bW,bC⟩
  ·rcases q3:p i
   ·rw[q3] at tA;have oC:=Q.upto i (a9 a.aJ i);have oO:df (b0 a.cs i (a9 a.aJ i:Nat)):=lT (by omega) (by omega);have hw:=DT _ oO;have iy:=Sz (ic i av) (n3 oO);have g1:decide (mI (h i) ((b0 a.cs i (a9 a.aJ i:Nat):Int):Rat)>0)=decide (((b0 a.cs i (a9 a.aJ i:Nat):Int):Rat)<h i):=ak4
    have b5:qd (ak a.E a.cs) (a9 a.aJ) h i=decide (((b0 a.cs i (a9 a.aJ i:Nat):Int):Rat)<h i):=by
     unfold qd;rw[ps Q.right,jw (show a9 a.aJ i<10 by have:=of_decide_eq_true d2;omega),fP]
    rw[<-b5] at g1;have ni:=p9 h av;generalize SP:aq (h i)=gI at *;generalize jN:aq ((b0 a.cs i (a9 a.aJ i:Nat):Int):Rat)=cr at *;obtain⟨⟨c0,et⟩,⟨gN,hz⟩⟩:=cr;obtain⟨⟨cE,cS⟩,⟨dU,eN⟩⟩:=gI;simp only[aw] at hw iy;rcases h9:qd (ak a.E a.cs) (a9 a.aJ) h i
    ·rw[h9] at g1;rw[q3,h9,jB,lA] at aF;simp only[go_sem,go_sem_proc,ig,hW,bu,bj,dg,pA,vX,iU,fh,fz,iG,cg,hlen,nj,tA,uL,d1,d2,bl,av,dr,aa,bo,hw,iy,g1,ni,aw,db,hi,cD,cp,bT,ah,aW];repeat' (first|refine al ?_ ?_|fail)<;>intro h<;>simp only[h,go_sem,go_sem_proc,ig,hW,bu,bj,dg,pA,vX,iU,fh,fz,iG,cg,hlen,nj,tA,uL,d1,d2,bl,av,dr,aa,bo,hw,iy,g1,ni,aw,db,hi,cD,cp,bT,ah,aW]
     exact⟨i+1,by omega,by omega,rfl,by rw[aF],by rw[tJ (.inr h9)];exact bW,bC⟩
    ·rw[h9] at g1;rw[q3,h9,cp,fP,pR] at aF
     have hD:a.ih (ie (ak a.E a.cs) (a9 a.aJ) h p (i+1))=a.ih λj=>if j=i then true else ie (ak a.E a.cs) (a9 a.aJ) h p i j:=a.JY λj _=>by
      rw[ab4,h9,pR]
     rw[<-hD] at lj;have km:=bC.dW (g:=a.gs.getD i 0) (cs:=fZ ((a.ha i).sp true)) av;rw[vW] at km;simp only[go_sem,go_sem_proc,ig,hW,bu,bj,dg,pA,vX,iU,fh,fz,iG,cg,hlen,nj,tA,uL,eZ,d1,d2,bl,av,dr,aa,bo,bH,hw,iy,g1,ni,aw,db,hi,cD,cp,bT,ah,aW];repeat' (first|refine al ?_ ?_|fail)<;>intro h<;>simp only[h,go_sem,go_sem_proc,ig,hW,bu,bj,dg,pA,vX,iU,fh,fz,iG,cg,hlen,nj,tA,uL,eZ,d1,d2,bl,av,dr,aa,bo,bH,hw,iy,g1,ni,aw,db,hi,cD,cp,bT,ah,aW]
     exact⟨i+1,by omega,by omega,rfl,by rw[aF],lj,km⟩
   ·rw[q3] at tA;rw[q3,bT,fr,lA] at aF;simp only[go_sem,go_sem_proc,bu,bj,dg,pA,vX,iU,fh,fz,iG,cg,hlen,nj,tA,d1,d2,bl,av,dr,db,hi,cD,bT];repeat' (first|refine al ?_ ?_|fail)<;>intro h<;>simp only[h,go_sem,go_sem_proc,bu,bj,dg,pA,vX,iU,fh,fz,iG,cg,hlen,nj,tA,d1,d2,bl,av,dr,db,hi,cD,bT]
    exact⟨i+1,by omega,by omega,rfl,by rw[aF],by rw[tJ (.inl q3)];exact bW,bC⟩
 ·have d1:decide ((i:Int)<(D a.E:Int))=false:=cu;obtain rfl:i=D a.E:=by omega
  simp only[go_sem,go_sem_proc,bu,bj,dg,pA,vX,iU,d1];repeat' (first|refine al ?_ ?_|fail)<;>intro h<;>simp only[h,go_sem,go_sem_proc,bu,bj,dg,pA,vX,iU,d1]
  refine cX _ _ ?_ ?_ ?_ bW bC<;>simp only[dv,cx,if_false,bu,bj,dg]
structure acX (a:du) (mem:Mem):Prop where
 at_:a.fb mem
 h0:lS 248 mem
 iE:lS 255 mem
 nh:lS 256 mem
 JP:a.JO
 inv:∃g,Inv (ak a.E a.cs) (a9 a.aJ) g
def Tz (a:du)(mem:Mem):R->Mem->Prop:=λm mem'=>m=.cB [.I (.Y ((c8 (D a.E) ((ak a.E a.cs).top (a9 a.aJ))).map aw)),.I (.bool true)]/\∃p,(a.ih p).fb mem'/\y0 (D a.E) mem mem'
def Oq:List R->Mem->Option (R->Mem->Prop):=zZ (λ(a:du) args mem=>args=[.ref 228023 a.g 1 0 (D a.E)]/\acX a mem) Tz
theorem aBC (a:du)(mem:Mem)(h:acX a mem):Oq [.ref 228023 a.g 1 0 (D a.E)] mem=some (Tz a mem):=by
 refine abR (a:=a) ?_ ⟨rfl,h⟩;rintro a b args mem ⟨ay,aA⟩ ⟨bQ,bL⟩;rw[du.uniq aA.at_ bL.at_]
theorem aBD (T:bm)(aBE:T V3=rF acT)(ig:T qz=aO xk)(hW:T u9=aO zS)(a:du)(mem:Mem)(a4:acX a mem):
  wp T IA.body (qG IA.res (Tz a mem)) ⟨l1 [.ref 228023 a.g 1 0 (D a.E)],mem⟩:=by
 obtain⟨amY,h0,iE,nh,B9,r0,hinv⟩:=a4;have Q:=B9.vS;have aM:=Q.hV;have ab:=Q.ok;refine tQ ?_;simp only[IA];simp only[go_sem,go_sem_proc]
 refine c9 [0,11,12] [] (λ(i:Nat) tm m=>i<=D a.E/\tm 13=.I (.int .i64 i)/\(a.ih λj=>if j<i then false else a.P.getD j false).fb m/\y0 (D a.E) mem m) (λi=>D a.E-i) 0 (by
  refine⟨by omega,rfl,?_,λ_ _=>rfl⟩
  have:(a.ih λj=>if j<0 then false else a.P.getD j false)=a:=(a.JY λj _=>by rw[ag (by omega)]).trans (du.aBA amY.pl);rw[this];exact amY) ?_
 intro vs ms aK aF;simp only[go_sem,go_sem_proc] at aK aF;subst aK aF;rintro i tm m L-⟨U,hy,bW,bC⟩;simp only[go_sem,go_sem_proc,bf] at L;obtain⟨bu,h4,gq⟩:=L;rcases dk (i<D a.E) with av|b4
 ·have d1:decide ((i:Int)<(D a.E:Int))=true:=c5;have bl:=eu (i:=i) (by omega);have fh:m 228023=some (a.g,bx (D a.E) λi => .ptr (228500+i) (a.gs.getD i 0) 0):=bW.row;have fz:m (228500+i)=some (a.gs.getD i 0,_):=bW.ek i av;rw[du.Ty a _ av] at fz;have iG:=xt (jX (λi=>R.ptr (228500+i) (a.gs.getD i 0) 0) av);have cg:(bx (D a.E) λi=>R.ptr (228500+i) (a.gs.getD i 0) 0).length=D a.E:=gn _ _;have cR:((a.ha i).sp (if i<i then false else a.P.getD i false)).dF:=⟨(a.yV i).dt,(a.yV i).us⟩;have hlen:=D3 cR;have eZ:_=fZ ((a.ha i).sp false):=alZ cR false;have lj:=bW.amX av false;have km:=bC.dW (g:=a.gs.getD i 0) (cs:=fZ ((a.ha i).sp false)) av
  have hD:(a.ih λj=>if j<i+1 then false else a.P.getD j false)=a.ih λj=>if j=i then false else if j<i then false else a.P.getD j false:=a.JY λj _=>by
   by_cases G:j=i
   ·rw[ad G,ad (by omega)]
   ·rw[ag G]
    by_cases J:j<i
    ·rw[ad J,ad (by omega)]
    ·rw[ag J,ag (by omega)]
  rw[<-hD] at lj;have dr:i+1<=D a.E:=by omega
  have bH:(23+1<=24)=True:=eq_true (by omega);generalize JV:(bx (D a.E) λi=>R.ptr (228500+i) (a.gs.getD i 0) 0)=yW at *;generalize vW:228500+i=eH at *;generalize Om:fZ ((a.ha i).sp (if i<i then false else a.P.getD i false))=DC at *;simp only[go_sem,go_sem_proc,bu,h4,gq,hy,fh,fz,iG,cg,hlen,eZ,d1,bl,av,dr,bH,db,hi,cD];repeat' (first|refine al ?_ ?_|fail)<;>intro h<;>simp only[h,go_sem,go_sem_proc,bu,h4,gq,hy,fh,fz,iG,cg,hlen,eZ,d1,bl,av,dr,bH,db,hi,cD]
  exact⟨i+1,by omega,by omega,rfl,lj,km⟩
 ·have d1:decide ((i:Int)<(D a.E:Int))=false:=cu;obtain rfl:i=D a.E:=by omega
  have hD:(a.ih λj=>if j<(D a.E) then false else a.P.getD j false)=a.ih λ_=>false:=a.JY λj ax=>by rw[ad ax]
  rw[hD] at bW;simp only[go_sem,go_sem_proc,bu,h4,gq,hy,d1]
  refine c9 [0] [] (λ(p:Nat->Bool) tm m=>(a.ih p).fb m/\y0 (D a.E) mem m/\sy (ak a.E a.cs) (a9 a.aJ) (dK (fE (D a.E) p))) (λp=>kj (D a.E) λi=>if p i then 0 else 1) (λ_=>false) (by
   refine⟨bW,bC,?_⟩;rw[alx];exact⟨ab,r0,hinv,jc.first ab hinv⟩) ?_
  intro vs ms aK aF;simp only[go_sem,go_sem_proc,bu] at aK aF;subst aK aF;clear bu h4 gq hy bC bW;rintro p tm m bu-⟨bW,bC,iT⟩;simp only[go_sem,go_sem_proc,bf] at bu;have fM:=aBr (a.ih p) m ⟨bW,bC.no aM (by decide) h0,bC.no aM (by decide) iE,bC.no aM (by decide) nh,⟨B9.vS,B9.dj⟩,iT⟩;have fo:Tv (a.ih p)=.cB [.Y ((c8 (D a.E) ((ak a.E a.cs).e4 (a9 a.aJ) (dK (fE (D a.E) p)))).map aw),.bool true]:=rfl;rw[fo,show (a.ih p).g=a.g from rfl,show (a.ih p).E=a.E from rfl] at fM;simp only[go_sem,go_sem_proc,aBE,bu,fM,bT];refine aBB T ig hW m a p B9 ((ak a.E a.cs).e4 (a9 a.aJ) (dK (fE (D a.E) p))) (λi U=>je (abj Q iT U) (by omega)) _ _ bW (λ_ _=>rfl) ?_ ?_ ?_ ?_ ?_ ?_ ?_
  all_goals first|(intro xp bX ej eD gR AV km)|(simp only[dv,cx,if_false,if_true,bu];done)
  obtain⟨cR,dh,ob,Ff⟩:=iT;rcases hm:vU (ak a.E a.cs) (a9 a.aJ) ((ak a.E a.cs).e4 (a9 a.aJ) (dK (fE (D a.E) p))) p (D a.E)
  ·rw[hm] at gR;have Qg:=Ff.aa8 ab ob λi U G J=>N8.2 ⟨U,alz hm U G J⟩;rw[xi (N:=D a.E) Qg] at eD;simp only[go_sem,go_sem_proc,ej,eD,gR,cp];repeat' (first|refine al ?_ ?_|fail)<;>intro h<;>simp only[h,go_sem,go_sem_proc,ej,eD,gR,cp]
   exact⟨_,rfl,rfl,_,AV,λk L=>(km k L).trans (bC k L)⟩
  ·rw[hm] at gR;simp only[go_sem,go_sem_proc,ej,eD,gR,bT];repeat' (first|refine al ?_ ?_|fail)<;>intro h<;>simp only[h,go_sem,go_sem_proc,ej,eD,gR,bT]
   refine⟨_,aly hm,AV,λk L=>(km k L).trans (bC k L),?_⟩;have vz:=alw (d:=ak a.E a.cs) (f:=a9 a.aJ) (h:=(ak a.E a.cs).e4 (a9 a.aJ) (dK (fE (D a.E) p))) (p:=p);have kM:(ak a.E a.cs).n=D a.E:=rfl;rw[kM] at vz;rw[vz];exact⟨ab,dh,ob,Ff.succ ab ob⟩
def iB (c:Int)(q:Nat->R)(us:Nat->Int)(f:Int)(p:Bool):List R:=db c::(bx 10 q++((bx 11 us).map db++[db f,hi p]))
theorem TA (c:Int)(q:Nat->R)(us:Nat->Int)(f:Int)(p:Bool):(iB c q us f p).length=24:=by
 simp[iB,gn]
theorem acY {c:Int}{q:Nat->R}{us:Nat->Int}{f:Int}{p:Bool}{k:Nat}(L:k<10):(iB c q us f p)[1+k]?=some (q k):=by
 unfold iB;rw[AA,amZ,oZ (by rw[gn];exact L)];exact jX q L
theorem aBF {c:Int}{q:Nat->R}{us:Nat->Int}{f:Int}{p:Bool}{k:Nat}(L:k<10):iu 1 (jn (1+k) (iB c q us f p))=[q k]:=xt (acY L)
theorem aBG {c:Int}{q:Nat->R}{us:Nat->Int}{f:Int}{p:Bool}{k:Nat}(L:k<11):iu 1 (jn (11+k) (iB c q us f p))=[.I (.int .i64 (us k))]:=by
 refine xt ?_;unfold iB;rw[show 11+k=(10+k)+1 by omega,amZ,nK (by rw[gn];omega),gn,oZ (by rw[ah,gn];omega),show 10+k-10=k by omega,aW,jX us L]
 rfl
theorem TB {l:List R}{k:Nat}{v:R}(L:k<D l):iu k l++[v]++jn (k+1) l=l.set k v:=by
 rw[N9,ad L];simp
theorem acZ {c:Int}{q:Nat->R}{us:Nat->Int}{f:Int}{p:Bool}{k:Nat}(L:k<10)(v:R):(iB c q us f p).set (1+k) v=iB c (λj=>if j=k then v else q j) us f p:=by
 unfold iB;rw[AA,s9,am0 _ _ (by rw[gn];exact L),Ak]
theorem aBH {c:Int}{q:Nat->R}{us:Nat->Int}{f:Int}{p:Bool}{k:Nat}(L:k<11)(v:Int):(iB c q us f p).set (11+k) (.I (.int .i64 v))=iB c q (λj=>if j=k then v else us j) f p:=by
 unfold iB;rw[show 11+k=(10+k)+1 by omega,s9,z2 _ _ (by rw[gn];omega),gn,am0 _ _ (by rw[ah,gn];omega),show 10+k-10=k by omega,<-Ak,w7]
 rfl
theorem Ca {c:Int}{q vj:Nat->R}{us am1:Nat->Int}{f:Int}{p:Bool}(h:∀k,k<10->q k=vj k)(cv:∀k,k<11->us k=am1 k):iB c q us f p=iB c vj am1 f p:=by
 unfold iB;rw[h6 h,h6 cv]
theorem am2 (T:bm){K:eF->bg->Prop}{kk:List fB}(kK:Mem)(eH TC ts:Nat)(c:Int)(q:Nat->R)(us:Nat->Int)(au c2:Int)(r:Nat)(am:Int)(X:r<10)(ai:∀j,0<=us j/\us j<=4000000000000000000)(yG:0<=am/\am<=1000000000000000)(qf:eH≠228009)(am3 am4 am5 am6:R)(tm:Nat->R)(m:Mem)
  (da:tm 5=am3) (dz:tm 9=.ptr 228009 ts 0) (dY:tm 10=.ptr eH TC 0) (h4:tm 11=.I (.int .i64 (r+1:Nat))) (lY:tm 25=am4) (n5:tm 26=am5) (n6:tm 27=am6) (Nd:kK 228009=some (ts,[.I (.int .i64 au),.I (.int .i64 c2),.I (.int .i64 r),.I (.int .i64 am)])) (JZ:m eH=some (TC,iB c q us 10 false)) (bC:∀k,k≠eH->m k=kK k)
  (cX:∀tm' m',tm' 5=am3->tm' 25=am4->tm' 26=am5->tm' 27=am6->m' eH=some (TC,iB c q (λj=>us j+if r<j then am else 0) 10 false)->(∀k,k≠eH->m' k=kK k)->cj T K kk (.exit 4) ⟨tm',m'⟩) :
  wp T (Df.body.sub [1,1,1,0,1,0,0,1,1,0,0,1,1,1,1,0]) (cj T K kk) ⟨tm,m⟩:=by
 simp only[Df,ep.sub]
 refine c9 [5,9,10,25,26,27] [] (λ(k:Nat) tm m=>r<k/\k<=11/\tm 11=.I (.int .i64 k)/\m eH=some (TC,iB c q (λj=>us j+if r<j/\j<k then am else 0) 10 false)/\∀k,k≠eH->m k=kK k) (λk=>11-k) (r+1) (by
  refine⟨by omega,by omega,h4,?_,bC⟩
  rw[JZ]
  congr 2
  exact Ca (λ_ _=>rfl) λj _=>by rw[ag (by omega)];omega) ?_
 intro vs ms aK aF;simp only[go_sem,go_sem_proc,da,dz,dY,lY,n5,n6] at aK aF;subst aK aF;clear da dz dY h4 lY n5 n6 JZ bC tm m;rintro k tm m L-⟨kR,aKS,h4,JZ,bC⟩;simp only[go_sem,go_sem_proc,bf] at L;obtain⟨da,dz,dY,lY,n5,n6⟩:=L;have aBI:=(bC 228009 (Ne.symm qf)).trans Nd;rcases dk (k<=10) with av|b4
 ·have d1:decide ((k:Int)<=10)=true:=c5;have bl:=eu (i:=k) (by omega);have hlen:=TA c q (λj=>us j+if r<j/\j<k then am else 0) 10 false;have bq:=aBG (c:=c) (q:=q) (us:=λj=>us j+if r<j/\j<k then am else 0) (f:=10) (p:=false) (k:=k) (by omega);have dq:=(TB (l:=iB c q (λj=>us j+if r<j/\j<k then am else 0) 10 false) (k:=11+k) (v:=.I (.int .i64 (us k+am))) (by rw[TA];omega)).trans (aBH (by omega) (us k+am))
  have hD:iB c q (λj=>if j=k then us k+am else us j+if r<j/\j<k then am else 0) 10 false=iB c q (λj=>us j+if r<j/\j<k+1 then am else 0) 10 false:=Ca (λ_ _=>rfl) λj _=>by
   by_cases ax:j=k
   ·rw[ad ax,ax,ad ⟨kR,by omega⟩]
   ·rw[ag ax]
    by_cases J:r<j/\j<k
    ·rw[ad J,ad ⟨J.1,by omega⟩]
    ·rw[ag J,ag (by omega)]
  rw[hD] at dq;rw[ag (by omega),k9] at bq;have B8:IntKind.i64.wrap (us k+am)=us k+am:=by have:=ai k;rw[e7 _]
  have aa:k<11:=by omega
  have bo:(11+k+1<=24)=True:=eq_true (by omega);have GA:(eH==228009)=false:=beq_eq_false_iff_ne.2 qf;have TD:(228009==eH)=false:=beq_eq_false_iff_ne.2 (Ne.symm qf);generalize iB c q (λj=>us j+if r<j/\j<k then am else 0) 10 false=D1 at *;generalize sm:iB c q (λj=>us j+if r<j/\j<k+1 then am else 0) 10 false=D2 at *;refine a1 ?_;repeat' (intro h<;>simp only[h,go_sem,go_sem_proc,da,dz,dY,h4,lY,n5,n6,aBI,JZ,d1,bl,hlen,bq,dq,B8,aa,bo,GA,TD,cD]<;>try refine al ?_ ?_)
  refine⟨k+1,by omega,by omega,by omega,rfl,by rw[sm],λj ax=>?_⟩
  simp only[a5,ax,if_false];exact bC j ax
 ·have d1:decide ((k:Int)<=10)=false:=cu;obtain rfl:k=11:=by omega
  have hD:iB c q (λj=>us j+if r<j/\j<11 then am else 0) 10 false=iB c q (λj=>us j+if r<j then am else 0) 10 false:=Ca (λ_ _=>rfl) λj ax=>by
   by_cases J:r<j
   ·rw[ad ⟨J,ax⟩,ad J]
   ·rw[ag (by omega),ag J]
  rw[hD] at JZ;refine a1 ?_;repeat' (intro h<;>simp only[h,go_sem,go_sem_proc,da,dz,dY,h4,lY,n5,n6,d1]<;>try refine al ?_ ?_)
  refine cX _ _ ?_ ?_ ?_ ?_ JZ bC<;>simp only[dv,cx,if_false,da,lY,n5,n6]
def pD (l:List aB)(fl:Nat->Nat->Nat)(i k:Nat):R:=if dA l i k=[] then .nil else .ref (228600+10*i+k) (fl i k) 4 0 (dA l i k).length
structure Ar (E:List Int) (l:List aB) (g:Nat) (gs:Nat->Nat) (fl:Nat->Nat->Nat) (m:Mem):Prop where
 row:m 228023=some (g,bx (D E) λi => .ptr (228500+i) (gs i) 0)
 ek:∀i,i<(D E)->m (228500+i)=some (gs i,iB (E.getD i 0) (pD l fl i) (λk=>b0 l i (k:Nat)) 10 false)
 GI:∀i k,i<(D E)->k<10->dA l i k≠[]->m (228600+10*i+k)=some (fl i k,aS bw (dA l i k))
theorem aBJ (l:List aB)(c:aB)(i k:Nat):dA (l++[c]) i k=if c.1=(i:Int)/\c.2.2.1=(k:Int) then dA l i k++[c] else dA l i k:=by
 unfold dA;rw[rE]
 by_cases h:c.1=(i:Int)/\c.2.2.1=(k:Int)
 ·rw[ad h,oK (by simp[h.1,h.2]),pt]
 ·rw[ag h,pv (by simpa using h),pt,gD]
theorem Ot (l:List aB)(au c2 c3 c4:Int)(i k:Nat):dA (l++[(au,c2,c3,c4)]) i k=if au=(i:Int)/\c3=(k:Int) then dA l i k++[(au,c2,c3,c4)] else dA l i k:=aBJ l _ i k
theorem aBK (l:List aB)(c:aB)(i r:Int):b0 (l++[c]) i r=b0 l i r+if c.1=i/\c.2.2.1<r then c.2.2.2 else 0:=by
 unfold b0;rw[Aq]
theorem am7 (l:List aB)(au c2 c3 c4 i r:Int):b0 (l++[(au,c2,c3,c4)]) i r=b0 l i r+if au=i/\c3<r then c4 else 0:=aBK l _ i r
theorem Ar.next {E:List Int}{l:List aB}{g:Nat}{gs:Nat->Nat}{fl:Nat->Nat->Nat}{m m':Mem}(h:Ar E l g gs fl m)(aM:(D E)<=5){au c3:Nat}{c2 c4:Int}(gv:au<D E)(re:c3<10)(sD:Nat)
  (fh:m' 228023=m 228023) (aBL:∀i,i<(D E)->i≠au->m' (228500+i)=m (228500+i)) (fz:m' (228500+au)=some (gs au,iB (E.getD au 0) (λk=>if k=c3 then .ref (228600+10*au+c3) sD 4 0 ((dA l au c3).length+1) else pD l fl au k) (λk=>b0 l au (k:Nat)+if c3<k then c4 else 0) 10 false))
  (TE:m' (228600+10*au+c3)=some (sD,aS bw (dA l au c3++[((au:Int),c2,(c3:Int),c4)]))) (aBM:∀i k,i<(D E)->k<10->¬ (i=au/\k=c3)->m' (228600+10*i+k)=m (228600+10*i+k)):Ar E (l++[((au:Int),c2,(c3:Int),c4)]) g gs (λi k=>if i=au/\k=c3 then sD else fl i k) m':=by
 refine⟨by rw[fh];exact h.row,λi U=>?_,λi k U L b5=>?_⟩
 ·by_cases Cb:i=au
  ·subst Cb;rw[fz]
   congr 2
   refine Ca (λk L=>?_) λk L=>?_
   ·unfold pD
    by_cases Dk:k=c3
    ·subst Dk;have ay:dA (l++[((i:Int),c2,(k:Int),c4)]) i k=dA l i k++[((i:Int),c2,(k:Int),c4)]:=by rw[Ot,ad ⟨rfl,rfl⟩]
     rw[ay,ad rfl,ag (by simp),gj];simp
    ·have ay:dA (l++[((i:Int),c2,(c3:Int),c4)]) i k=dA l i k:=by rw[Ot,ag (by omega)]
     rw[ag Dk,ay];dsimp only;rw[ag (show ¬ (i=i/\k=c3) by omega)]
   ·rw[am7]
    by_cases jJ:c3<k
    ·rw[ad jJ,ad (by omega)]
    ·rw[ag jJ,ag (by omega)]
  ·rw[aBL i U Cb,h.ek i U]
   congr 2
   refine Ca (λk L=>?_) λk L=>?_
   ·unfold pD;have ay:dA (l++[((au:Int),c2,(c3:Int),c4)]) i k=dA l i k:=by rw[Ot,ag (by omega)]
    rw[ay];dsimp only;rw[ag (show ¬ (i=au/\k=c3) by omega)]
   ·rw[am7,ag (by omega),k9]
 ·by_cases Cb:i=au/\k=c3
  ·obtain⟨rfl,rfl⟩:=Cb;have ay:dA (l++[((i:Int),c2,(k:Int),c4)]) i k=dA l i k++[((i:Int),c2,(k:Int),c4)]:=by rw[Ot,ad ⟨rfl,rfl⟩]
   rw[ay,ad ⟨rfl,rfl⟩];exact TE
  ·have ay:dA (l++[((au:Int),c2,(c3:Int),c4)]) i k=dA l i k:=by rw[Ot,ag (by omega)]
   rw[ay] at b5 ⊢;rw[ag Cb,aBM i k U L Cb];exact h.GI i k U L b5
theorem ac0 {K:bg->Prop}{tm:Nat->R}{mem mem':Mem}(h:tG mem mem')(cX:∀bp,bp=mem'->K ⟨tm,bp⟩):k1 K ⟨tm,mem⟩ .many:=⟨mem',.step h (.refl _),cX _ rfl⟩
theorem ac1 {K:bg->Prop}{tm:Nat->R}{mem:Mem}(cX:∀bp,bp=mem->K ⟨tm,bp⟩):k1 K ⟨tm,mem⟩ .many:=⟨mem,.refl _,cX _ rfl⟩
theorem j2 {m:Mem}{k g:Nat}{cs:List R}:a5 m k g cs k=some (g,cs):=by simp[a5]
theorem de {m:Mem}{k j g:Nat}{cs:List R}(h:k≠j):a5 m j g cs k=m k:=by
 simp only[a5];rw[ag h]
theorem aBN (T:bm){K:eF->bg->Prop}{kk:List fB}(eh:Mem)(E:List Int)(cs:List aB)(Q:e5 E cs)(g:Nat)(gs:Nat->Nat)(fl:Nat->Nat->Nat)(tm:Nat->R)(m:Mem)
  (da:tm 5=.ref 228023 g 1 0 (D E)) (lY:tm 25=.I (.Y (cs.map bw))) (n5:tm 26=.I (.int .i64 (D cs))) (n6:tm 27=.I (.int .i64 0)) (bW:Ar E [] g gs fl m) (bC:dG 228 eh m)
  (cX:∀tm' m' aBO,tm' 5=.ref 228023 g 1 0 (D E)->Ar E cs g gs aBO m'->dG 228 eh m'->cj T K kk (.exit 2) ⟨tm',m'⟩) :
  wp T (Df.body.sub [1,1,1,0,1,0]) (cj T K kk) ⟨tm,m⟩:=by
 simp only[Df,ep.sub];have aM:=Q.hV;have X:=(hB.1 Q.right).2.2.2;have eG:=Q.qR;refine c9 [5,25,26] [] (λ((t,fl):Nat×(Nat->Nat->Nat)) tm m=>t<=D cs/\tm 27=.I (.int .i64 t)/\Ar E (cs.take t) g gs fl m/\dG 228 eh m) (λ(t,_)=>D cs-t) (0,fl) (by refine⟨by omega,n6,by rw[ma];exact bW,bC⟩) ?_;intro vs ms aK aF;simp only[go_sem,go_sem_proc,da,lY,n5] at aK aF;subst aK aF;clear da lY n5 n6 bW bC tm m;rintro⟨t,fl⟩ tm m L-⟨cm,n6,bW,bC⟩;simp only[go_sem,go_sem_proc,bf] at L;obtain⟨da,lY,n5⟩:=L;rcases dk (t<D cs) with av|b4
 ·have d1:decide ((t:Int)<(D cs:Int))=true:=c5;have bl:=eu (i:=t) (by omega);obtain⟨⟨au,c2,c3,c4⟩,M⟩:∃c,cs[t]?=some c:=⟨_,bB av⟩;have jf:=X _ (dS M);dsimp only at jf;obtain⟨au,rfl⟩:∃k:Nat,au=(k:Int):=⟨au.toNat,by omega⟩
  obtain⟨c3,rfl⟩:∃k:Nat,c3=(k:Int):=⟨c3.toNat,by omega⟩
  have fR:cs.take (t+1)=cs.take t++[((au:Int),c2,(c3:Int),c4)]:=by rw[g2,M];rfl
  generalize az:cs.take t=l at *;have rH:(D l)<=12:=by rw[<-az,fU];omega
  have gv:au<D E:=by omega
  have re:c3<10:=by omega
  have fh:=bW.row;have fz:=bW.ek au gv;have iG:=xt (jX (λi=>R.ptr (228500+i) (gs i) 0) gv);have cg:(bx (D E) λi=>R.ptr (228500+i) (gs i) 0).length=D E:=gn _ _;have hlen:=TA (E.getD au 0) (pD l fl au) (λk=>b0 l au (k:Nat)) 10 false;have D5:=aBF (c:=E.getD au 0) (q:=pD l fl au) (us:=λk=>b0 l au (k:Nat)) (f:=10) (p:=false) re;have eZ:=λv=>(TB (l:=iB (E.getD au 0) (pD l fl au) (λk=>b0 l au (k:Nat)) 10 false) (k:=1+c3) (v:=v) (by rw[TA];omega)).trans (acZ re v);have dr:au+1<=D E:=by omega
  have bo:(1+c3+1<=24)=True:=eq_true (by omega);have w1:=eu (i:=c3) (by omega);generalize JV:(bx (D E) λi=>R.ptr (228500+i) (gs i) 0)=yW at *;generalize Om:iB (E.getD au 0) (pD l fl au) (λk=>b0 l au (k:Nat)) 10 false=DC at *;generalize vW:228500+au=eH at *;have Oj:(eH=228009)=False:=eq_false (by omega);have am8:(eH=228048)=False:=eq_false (by omega);have GA:(eH==228009)=false:=beq_eq_false_iff_ne.2 (by omega);have TD:(228009==eH)=false:=beq_eq_false_iff_ne.2 (by omega);have am9:(eH==228048)=false:=beq_eq_false_iff_ne.2 (by omega);have ana:(228048==eH)=false:=beq_eq_false_iff_ne.2 (by omega);have pH:(1<=maxLen)=True:=eq_true (by decide);have aKT:=λj=>(Ad Q.right).upto au j
  have Fs:∀j:Nat,0<=b0 l au (j:Nat)/\b0 l au (j:Nat)<=4000000000000000000:=λj=>by
   have:=(Ad Q.right).sum (λc=>c.1=(au:Int)/\c.2.2.1<(j:Int)) t;rw[az] at this;unfold b0;omega
  generalize TF:228600+10*au+c3=lp at *;have cE:(228009=eH)=False:=eq_false (by omega);have cS:(228009=lp)=False:=eq_false (by omega);have dU:(228048=lp)=False:=eq_false (by omega);have eN:(228048=eH)=False:=eq_false (by omega);have vR:(lp=eH)=False:=eq_false (by omega);have uJ:(eH=lp)=False:=eq_false (by omega);have ak9:(lp=228009)=False:=eq_false (by omega);have aBP:(lp=228048)=False:=eq_false (by omega);have anb:(228009=228048)=False:=eq_false (by omega)
  have tail:∀(tm':Nat->R) (M2:Mem) (sD ts:Nat),tm' 5=.ref 228023 g 1 0 (D E)->tm' 25=.I (.Y (cs.map bw))->tm' 26=.I (.int .i64 (D cs))->tm' 27=.I (.int .i64 t)->M2 eH=some (gs au,iB (E.getD au 0) (λk=>if k=c3 then .ref lp sD 4 0 ((dA l au c3).length+1) else pD l fl au k) (λk=>b0 l au (k:Nat)  + if c3<k then c4 else 0) 10 false)->M2 lp=some (sD,aS bw (dA l au c3++[((au:Int),c2,(c3:Int),c4)]))->(∀k:Nat,k≠228009->k≠228048->k≠eH->k≠lp->M2 k=m k)->Ar E (cs.take (t+1)) g gs (λi k=>if i=au/\k=c3 then sD else fl i k) M2/\dG 228 eh M2:=by
   intro tm' M2 sD ts iP J0 J1 J2 GJ Ou oT;rw[fR];refine⟨Ar.next bW aM gv re sD ?_ (λi U b5=>?_) ?_ ?_ λi k U L b5=>?_,λk L=>?_⟩
   ·exact oT 228023 (by omega) (by omega) (by omega) (by omega)
   ·exact oT (228500+i) (by omega) (by omega) (by omega) (by omega)
   ·rw[vW,TF];exact GJ
   ·rw[TF];exact Ou
   ·exact oT (228600+10*i+k) (by omega) (by omega) (by omega) (by omega)
   ·rw[oT k (by omega) (by omega) (by omega) (by omega)];exact bC k L
  by_cases ix:dA l au c3=[]
  ·have fc:pD l fl au c3=.nil:=by unfold pD;rw[ad ix]
   rw[fc] at D5;simp only[go_sem,go_sem_proc,pH,da,lY,n5,n6,M,fh,fz,iG,cg,hlen,D5,eZ,d1,dr,bo,gv,re,Oj,am8,GA,TD,am9,ana,bw,cD,ah,aW];refine ac0 (tG.O1 eH (gs au) _ (1+c3) 228048 (gd (m 228048)) 4 0 1 _ lp j2 (acY re |>.trans (by rw[ad rfl])) ((de (by omega)).trans j2) (by show (228048:Nat)≠eH;omega) (by show lp≠(228048:Nat);omega) (by show lp≠eH;omega)) ?_;intro M2 fN;rw[acZ re] at fN
   have Ov:M2 228009=some (gd (m 228009),[.I (.int .i64 au),.I (.int .i64 c2),.I (.int .i64 c3),.I (.int .i64 c4)]):=by
    rw[fN];simp only[CC,cE,cS,anb,if_false,if_true]
   have GJ:∃sD,M2 eH=some (gs au,iB (E.getD au 0) (λk=>if k=c3 then .ref lp sD 4 0 ((dA l au c3).length+1) else pD l fl au k) (λk=>b0 l au (k:Nat)) 10 false)/\M2 lp=some (sD,aS bw (dA l au c3++[((au:Int),c2,(c3:Int),c4)])):=by
    rw[ix];apply Exists.intro;apply And.intro
    rotate_left
    ·rw[fN];simp only[CC,vR,if_false,if_true];rfl
    ·rw[fN];simp only[CC,if_true]
     congr 2
     refine Ca (λk _=>?_) λ_ _=>rfl
     by_cases L:k=c3
     ·rw[ad L,ad L];rfl
     ·rw[ag L,ag L,ag L]
   obtain⟨sD,GJ,Ou⟩:=GJ
   have oT:∀k:Nat,k≠228009->k≠228048->k≠eH->k≠lp->M2 k=m k:=λk G J af aP=>by
    rw[fN];simp only[CC,G,J,af,aP,if_false]
   clear fN;simp only[go_sem,go_sem_proc,Ov,w1,cE];refine am2 T M2 eH (gs au) (gd (m 228009)) (E.getD au 0) (λk=>if k=c3 then .ref lp sD 4 0 ((dA l au c3).length+1) else pD l fl au k) (λk=>b0 l au (k:Nat)) au c2 c3 c4 re Fs (by omega) (by omega) (.ref 228023 g 1 0 (D E)) (.I (.Y (cs.map bw))) (.I (.int .i64 (D cs))) (.I (.int .i64 t)) _ _ ?_ ?_ ?_ ?_ ?_ ?_ ?_ Ov GJ (λ_ _=>rfl) ?_
   all_goals first|(intro tm' m' iP J0 J1 J2 ac2 Ow)|(simp only[dv,cx,if_false,if_true,da,lY,n5,n6];done)
   have jD:=tail tm' m' sD 0 iP J0 J1 J2 ac2 (by rw[Ow lp (by omega)];exact Ou) λk G J af aP=>by rw[Ow k af];exact oT k G J af aP
   refine a1 ?_;repeat' (intro h<;>simp only[h,go_sem,go_sem_proc,iP,J0,J1,J2,bl]<;>try refine al ?_ ?_)
   exact⟨(t+1,λi k=>if i=au/\k=c3 then sD else fl i k),by dsimp only;omega,by dsimp only;omega,rfl,jD.1,jD.2⟩
  ·have fc:pD l fl au c3=.ref lp (fl au c3) 4 0 (dA l au c3).length:=by unfold pD;rw[ag ix,TF]
   rw[fc] at D5;have TE:=bW.GI au c3 gv re ix;rw[TF] at TE;have eC:(dA l au c3).length<=12:=eP (mO _ _) rH;have cW:=ka yM NN lp (fl au c3) 32 (dA l au c3) ((au:Int),c2,(c3:Int),c4) (cs:=[.I (.int .i64 au),.I (.int .i64 c2),.I (.int .i64 c3),.I (.int .i64 c4)]) rfl (by omega) (by omega);have alb:(lp==228009)=false:=beq_eq_false_iff_ne.2 (by omega);have aBQ:(228009==lp)=false:=beq_eq_false_iff_ne.2 (by omega);have aBR:(lp==eH)=false:=beq_eq_false_iff_ne.2 (by omega);have aBS:(eH==lp)=false:=beq_eq_false_iff_ne.2 (by omega);simp only[go_sem,go_sem_proc,pH,da,lY,n5,n6,M,fh,fz,iG,cg,hlen,D5,eZ,d1,dr,bo,gv,re,Oj,am8,GA,TD,am9,ana,dU,vR,uJ,ak9,aBP,alb,aBQ,aBR,aBS,TE,cW,bw,cD,ah,aW];refine ac1 ?_;intro M2 fN
   have Ov:M2 228009=some (gd (m 228009),[.I (.int .i64 au),.I (.int .i64 c2),.I (.int .i64 c3),.I (.int .i64 c4)]):=by
    rw[fN];simp only[CC,cE,cS,anb,if_false,if_true]
   have GJ:M2 eH=some (gs au,iB (E.getD au 0) (λk=>if k=c3 then .ref lp (fl au c3+1) 4 0 ((dA l au c3).length+1) else pD l fl au k) (λk=>b0 l au (k:Nat)) 10 false):=by
    rw[fN];simp only[CC,if_true]
   have Ou:M2 lp=some (fl au c3+1,aS bw (dA l au c3++[((au:Int),c2,(c3:Int),c4)])):=by
    rw[fN];simp only[CC,vR,if_false,if_true]
   have oT:∀k:Nat,k≠228009->k≠228048->k≠eH->k≠lp->M2 k=m k:=λk G J af aP=>by
    rw[fN];simp only[CC,G,af,aP,if_false]
   clear fN;simp only[go_sem,go_sem_proc,Ov,w1,cE];refine am2 T M2 eH (gs au) (gd (m 228009)) (E.getD au 0) (λk=>if k=c3 then .ref lp (fl au c3+1) 4 0 ((dA l au c3).length+1) else pD l fl au k) (λk=>b0 l au (k:Nat)) au c2 c3 c4 re Fs (by omega) (by omega) (.ref 228023 g 1 0 (D E)) (.I (.Y (cs.map bw))) (.I (.int .i64 (D cs))) (.I (.int .i64 t)) _ _ ?_ ?_ ?_ ?_ ?_ ?_ ?_ Ov GJ (λ_ _=>rfl) ?_
   all_goals first|(intro tm' m' iP J0 J1 J2 ac2 Ow)|(simp only[dv,cx,if_false,if_true,da,lY,n5,n6];done)
   have jD:=tail tm' m' (fl au c3+1) 0 iP J0 J1 J2 ac2 (by rw[Ow lp (by omega)];exact Ou) λk G J af aP=>by rw[Ow k af];exact oT k G J af aP
   refine a1 ?_;repeat' (intro h<;>simp only[h,go_sem,go_sem_proc,iP,J0,J1,J2,bl]<;>try refine al ?_ ?_)
   exact⟨(t+1,λi k=>if i=au/\k=c3 then fl au c3+1 else fl i k),by dsimp only;omega,by dsimp only;omega,rfl,jD.1,jD.2⟩
 ·have d1:decide ((t:Int)<(D cs:Int))=false:=cu;rw[dH (by omega)] at bW;refine a1 ?_;repeat' (intro h<;>simp only[h,go_sem,go_sem_proc,da,lY,n5,n6,d1]<;>try refine al ?_ ?_)
  refine cX _ _ fl ?_ bW bC;simp only[dv,cx,if_false,da]
theorem uS.trans {a b c:Mem}(h:uS a b)(cv:uS b c):uS a c:=by
 induction h with
 |refl=>exact cv
 |step G _ aH=>exact .step G (aH cv)
theorem anc {K:bg->Prop}{tm:Nat->R}{mem mem':Mem}(h:uS mem mem')(cX:K ⟨tm,mem'⟩):k1 K ⟨tm,mem⟩ .many:=⟨mem',h,cX⟩
def xx (l:List aB)(fl:Nat->Nat->Nat)(d i k:Nat):R:=if 10*i+k<d then kU (dA l i k) else pD l fl i k
structure y1 (E:List Int) (l:List aB) (g:Nat) (gs:Nat->Nat) (fl:Nat->Nat->Nat) (d:Nat) (m:Mem):Prop where
 row:m 228023=some (g,bx (D E) λi => .ptr (228500+i) (gs i) 0)
 ek:∀i,i<(D E)->m (228500+i)=some (gs i,iB (E.getD i 0) (xx l fl d i) (λk=>b0 l i (k:Nat)) 10 false)
 GI:∀i k,i<(D E)->k<10->d<=10*i+k->dA l i k≠[]->m (228600+10*i+k)=some (fl i k,aS bw (dA l i k))
theorem y1.step {E:List Int}{l:List aB}{g:Nat}{gs:Nat->Nat}{fl:Nat->Nat->Nat}{d:Nat}{m:Mem}(h:y1 E l g gs fl d m)(aM:(D E)<=5)(ab:d<10*D E):∃m',uS m m'/\y1 E l g gs fl (d+1) m'/\dG 228 m m':=by
 obtain⟨i,k,U,L,rfl⟩:∃i k,i<D E/\k<10/\d=10*i+k:=⟨d/10,d%10,by omega,by omega,by omega⟩
 have ac3:∀j r,j<(D E)->r<10->¬ (j=i/\r=k)->xx l fl (10*i+k+1) j r=xx l fl (10*i+k) j r:=λj r ax X b5=>by
  unfold xx
  by_cases G:10*j+r<10*i+k
  ·rw[ad G,ad (by omega)]
  ·rw[ag G,ag (by omega)]
 by_cases H:dA l i k=[]
 ·refine⟨m,.refl m,⟨h.row,λj ax=>?_,λj r ax X ab b5=>h.GI j r ax X (by omega) b5⟩,dG.refl _ _⟩;rw[h.ek j ax]
  congr 2
  refine Ca (λr X=>?_) λ_ _=>rfl
  by_cases Nz:j=i/\r=k
  ·obtain⟨rfl,rfl⟩:=Nz;unfold xx;rw[ag (by omega),ad (by omega)];unfold pD kU;rw[ad H,ad H]
  ·exact (ac3 j r ax X Nz).symm
 ·have ai:=h.ek i U;have eC:=h.GI i k U L (cI _) H
  have E9:xx l fl (10*i+k) i k=.ref (228600+10*i+k) (fl i k) 4 0 (dA l i k).length:=by
   unfold xx;rw[ag (by omega)];unfold pD;rw[ag H]
  have hr:=acY (c:=E.getD i 0) (q:=xx l fl (10*i+k) i) (us:=λk=>b0 l i (k:Nat)) (f:=10) (p:=false) L;rw[E9] at hr;have wT:dx 1 m (.ref (228600+10*i+k) (fl i k) 4 0 (dA l i k).length)=some (.Y ((dA l i k).map bw)):=kt (n:=0) yM eC;refine⟨_,.step (tG.O2 (228500+i) (gs i) _ (1+k) (228600+10*i+k) (fl i k) 4 0 (dA l i k).length _ (.Y ((dA l i k).map bw)) ai hr eC (by show (228600+10*i+k:Nat)≠228500+i;omega) wT) (.refl _),⟨?_,λj ax=>?_,λj r ax X ab b5=>?_⟩,λx M=>?_⟩
  ·rw[de (by show (228023:Nat)≠228500+i;omega)];unfold kill;rw[de (by show (228023:Nat)≠228600+10*i+k;omega)];exact h.row
  ·by_cases lz:j=i
   ·subst lz;rw[j2,acZ L]
    congr 2
    refine Ca (λr X=>?_) λ_ _=>rfl
    by_cases kR:r=k
    ·subst kR;rw[ad rfl];unfold xx;rw[ad (by omega)];unfold kU;rw[ag H]
    ·rw[ag kR];exact (ac3 j r ax X (by omega)).symm
   ·rw[de (by show (228500+j:Nat)≠228500+i;omega)];unfold kill;rw[de (by show (228500+j:Nat)≠228600+10*i+k;omega),h.ek j ax]
    congr 2
    refine Ca (λr X=>(ac3 j r ax X (by omega)).symm) λ_ _=>rfl
  ·rw[de (by show (228600+10*j+r:Nat)≠228500+i;omega)];unfold kill;rw[de (by show (228600+10*j+r:Nat)≠228600+10*i+k;omega)];exact h.GI j r ax X (by omega) b5
  ·have wz:x/1000≠228:=M;rw[de (by show x≠228500+i;omega)];unfold kill;rw[de (by show x≠228600+10*i+k;omega)]
theorem y1.all {E:List Int}{l:List aB}{g:Nat}{gs:Nat->Nat}{fl:Nat->Nat->Nat}(aM:(D E)<=5):∀r d m,d+r=10*(D E)->y1 E l g gs fl d m->∃m',uS m m'/\y1 E l g gs fl (10*D E) m'/\dG 228 m m'
 |0,d,m,ab,h=>⟨m,.refl m,by rw[<-ab];exact h,dG.refl _ _⟩
 |r+1,d,m,ab,h=>by
  obtain⟨ef,G,J,af⟩:=h.step aM (by omega);obtain⟨bX,cL,dN,eo⟩:=y1.all aM r (d+1) ef (by omega) J;exact⟨bX,G.trans cL,dN,λx M=>(eo x M).trans (af x M)⟩
theorem Ar.aBT {E:List Int}{l:List aB}{g:Nat}{gs:Nat->Nat}{fl:Nat->Nat->Nat}{m:Mem}(h:Ar E l g gs fl m):y1 E l g gs fl 0 m :=
 ⟨h.row,λi U=>by
  rw[h.ek i U]
  congr 2,λi k U L _ b5=>h.GI i k U L b5⟩
def As (E:List Int)(cs:List aB)(g:Nat)(gs:Nat->Nat):du:=⟨E,dV (D E) cs,bx (D E) λ_=>10,fE (D E) λ_=>false,g,bx (D E) gs⟩
theorem aBU {E:List Int}{cs:List aB}(h:e5 E cs)(i r:Nat):b0 (dV (D E) cs) i r=b0 cs i r:=by
 have G:=ps h.right i r;have J:=ps (abK h).right i r;rw[<-(akO h.right).bZ,<-G] at J;exact_mod_cast J
theorem Cc {α:Type}{n i:Nat}(q:Nat->α)(d:α)(h:i<n):(bx n q).getD i d=q i:=by
 rw[ez,jX q h];rfl
theorem y1.at {E:List Int}{cs:List aB}(Q:e5 E cs){g:Nat}{gs:Nat->Nat}{fl:Nat->Nat->Nat}{m:Mem}(h:y1 E cs g gs fl (10*D E) m):(As E cs g gs).fb m:=by
 refine⟨(ayW _ _).symm,gn _ _,tq _ _,gn _ _,?_,λi U=>?_⟩
 ·refine h.row.trans ?_
  congr 2
  exact h6 λi U=>by
   show R.ptr (228500+i) (gs i) 0=R.ptr (228500+i) ((bx (D E) gs).getD i 0) 0;rw[Cc gs 0 U]
 ·have mB:i<D E:=U;refine (h.ek i mB).trans ?_;have ay:(As E cs g gs).gs.getD i 0=gs i:=Cc gs 0 mB;rw[ay]
  congr 2
  have aA:(bx (D E) λ_=>(10:Int)).getD i 10=10:=Cc _ _ mB;have bQ:(fE (D E) λ_=>false).getD i false=false:=by rw[ez,DZ _ mB];rfl
  have bL:fZ ((As E cs g gs).ha i)=db (E.getD i 0)::((bx 10 λk=>dA (dV (D E) cs) i k).map kU++((bx 11 λk=>b0 (dV (D E) cs) i (k:Nat)).map db++[db ((bx (D E) λ_=>(10:Int)).getD i 10),hi ((fE (D E) λ_=>false).getD i false)])):=rfl;rw[bL,aA,bQ];unfold iB
  have da:(bx 10 λk=>dA (dV (D E) cs) i k).map kU=bx 10 (xx cs fl (10*D E) i):=by
   unfold bx;rw[pQ];refine pP λk L=>?_;have aio:=jC.1 L;show kU (dA (dV (D E) cs) i k)=xx cs fl (10*D E) i k;rw[akK cs mB aio];unfold xx;rw[ad (by omega)]
  have bj:(bx 11 λk=>b0 (dV (D E) cs) i (k:Nat))=bx 11 λk=>b0 cs i (k:Nat):=h6 λk _=>aBU Q i k;rw[da,bj]
theorem ane {α:Type}(n:Nat)(q:Nat->α):bx (n+1) q=bx n q++[q n]:=by
 unfold bx;rw[sx,kg];rfl
structure ac4 (x:List Int×List aB) (mem:Mem):Prop where
 vS:e5 x.1 x.2
 no:lS 228 mem
def ac5 (x:List Int×List aB)(mem:Mem):R->Mem->Prop:=λm mem'=>∃g gs,m=.ref 228023 g 1 0 x.1.length/\(As x.1 x.2 g gs).fb mem'/\dG 228 mem mem'
def ac6:List R->Mem->Option (R->Mem->Prop):=zZ (λ(x:List Int×List aB) args mem=>args=[.I (.Y (x.1.map ae)),.I (.Y (x.2.map bw))]/\ac4 x mem) ac5
theorem aBV (E:List Int)(cs:List aB)(mem:Mem)(h:ac4 (E,cs) mem):ac6 [.I (.Y (E.map ae)),.I (.Y (cs.map bw))] mem=some (ac5 (E,cs) mem):=by
 refine abR (a:=(E,cs)) ?_ ⟨rfl,h⟩;rintro⟨a,b⟩ ⟨c,d⟩ args mem ⟨ay,aA⟩ ⟨bQ,bL⟩;rw[ay] at bQ;simp only[bf,R.I.injEq,Data.Y.injEq,and_true] at bQ;obtain⟨G,J⟩:=bQ;rw[map_inj hp _ _ G,map_inj sA _ _ J]
def anf (_:Nat):R:=.nil
def ang (_:Nat):Int:=0
theorem aBW (T:bm)(E:List Int)(cs:List aB)(mem:Mem)(a4:ac4 (E,cs) mem):
  wp T Df.body (qG Df.res (ac5 (E,cs) mem)) ⟨l1 [.I (.Y (E.map ae)),.I (.Y (cs.map bw))],mem⟩:=by
 obtain⟨Q,hE⟩:=a4;dsimp only at Q;have aM:=Q.hV;have aBX:mem 228023=none:=hE 228023 (by decide);refine tQ ?_;simp only[Df];simp only[go_sem,go_sem_proc,aBX,ah]
 refine c9 [1,12,13] [] (λ((i,g,gs):Nat×Nat×(Nat->Nat)) tm m=>i<=D E/\tm 14=.I (.int .i64 i)/\tm 5=.ref 228023 g 1 0 i/\m 228023=some (g,bx i λj => .ptr (228500+j) (gs j) 0)/\(∀j,j<i->m (228500+j)=some (gs j,iB (E.getD j 0) anf ang 10 false))/\dG 228 mem m) (λ(i,_)=>D E-i) (0,0,λ_=>0) (by
  refine⟨by omega,rfl,rfl,by simp[a5];rfl,λj ax=>by omega,(dG.refl _ _).dW (by decide)⟩) ?_
 intro vs ms aK aF;simp only[go_sem,go_sem_proc] at aK aF;subst aK aF;rintro⟨i,g,gs⟩ tm m L-⟨U,IW,da,fh,fz,bC⟩;simp only[go_sem,go_sem_proc,bf] at L;obtain⟨ay,gq,hy⟩:=L;rcases dk (i<D E) with av|b4
 ·have d1:decide ((i:Int)<(D E:Int))=true:=c5;have bl:=eu (i:=i) (by omega);obtain⟨y,ao⟩:∃y,E[i]?=some y:=⟨_,bB av⟩;have Mq:E.getD i 0=y:=by rw[ez,ao];rfl
  have cg:(bx i λj=>R.ptr (228500+j) (gs j) 0).length=i:=gn _ _;have fR:iu i (bx i λj=>R.ptr (228500+j) (gs j) 0)=bx i λj=>R.ptr (228500+j) (gs j) 0:=dH (by omega);have dr:((i+1)*8<=140737488355328)=True:=eq_true (by omega);have aa:(i+1<=maxLen)=True:=eq_true (by unfold maxLen;omega);have bo:(i<=i)=True:=eq_true (cI _)
  have cW:lr 228023 g 1 i 8 1 [.ptr 228021 (gd (m 228021)) 0] (some (g,bx i λj=>R.ptr (228500+j) (gs j) 0))=some (.ref 228023 (g+1) 1 0 (i+1),some (228023,g+1,(bx i λj=>R.ptr (228500+j) (gs j) 0)++[.ptr 228021 (gd (m 228021)) 0])):=by
   unfold lr;dsimp only;rw[ad ⟨rfl,by rw[gn];omega,by omega,by unfold maxLen;omega,rfl⟩,cD,fR]
  generalize JV:(bx i λj=>R.ptr (228500+j) (gs j) 0)=yW at *;simp only[go_sem,go_sem_proc,ay,da,gq,hy,IW,fh,ao,cg,cW,d1,ae,cD,ah,aW]
  have BG:(yW++[R.ptr 228021 (gd (m 228021)) 0])[i]?=some (.ptr 228021 (gd (m 228021)) 0):=by
   rw[nK (by omega),cg];simp
  have cE:(228021=228022)=False:=eq_false (by decide);refine ac0 (tG.ad8 228023 (g+1) _ i 228021 (gd (m 228021)) 0 _ (228500+i) j2 BG ((de (by decide)).trans ((de (by decide)).trans j2)) (by decide) (by show (228500+i:Nat)≠228021;omega) (by show (228500+i:Nat)≠228023;omega)) ?_;intro M2 fN
  have lj:∀p,(yW++[R.ptr 228021 (gd (m 228021)) 0]).set i p=yW++[p]:=λp=>by
   rw[z2 _ _ (by omega),cg,Nat.sub_self];rfl
  rw[lj] at fN
  obtain⟨J3,anh,aBY⟩:∃J3,M2 228023=some (g+1,yW++[.ptr (228500+i) J3 0])/\M2 (228500+i)=some (J3,iB y anf ang 10 false):=by
   apply Exists.intro;apply And.intro
   rotate_left
   ·rw[fN,de (by show (228500+i:Nat)≠228023;omega),j2];rfl
   ·rw[fN,j2]
  have oT:∀k:Nat,k≠228021->k≠228022->k≠228023->k≠228500+i->M2 k=m k:=λk G J af aP=>by
   rw[fN,de af,de aP,de G,de af,de J,de G]
  clear fN
  have hD:yW++[R.ptr (228500+i) J3 0]=bx (i+1) λj => .ptr (228500+j) (if j=i then J3 else gs j) 0:=by
   rw[ane,ad rfl,<-JV]
   congr 1
   exact h6 λj ax=>by rw[ag (by omega)]
  rw[hD] at anh;refine a1 ?_;repeat' (intro h<;>simp only[h,go_sem,go_sem_proc,ay,gq,hy,IW,bl]<;>try refine al ?_ ?_)
  refine⟨(i+1,g+1,λj=>if j=i then J3 else gs j),by dsimp only;omega,by dsimp only;omega,rfl,rfl,anh,λj ax=>?_,λk L=>?_⟩
  ·by_cases lz:j=i
   ·subst lz;dsimp only;rw[ad rfl,aBY,Mq]
   ·dsimp only;rw[ag lz,oT (228500+j) (by omega) (by omega) (by omega) (by omega)];exact fz j (by dsimp only at ax;omega)
  ·rw[oT k (by omega) (by omega) (by omega) (by omega)];exact bC k L
 ·have d1:decide ((i:Int)<(D E:Int))=false:=cu;obtain rfl:i=D E:=by omega
  simp only[go_sem,go_sem_proc,ay,da,gq,hy,IW,d1,ah];refine aBN T mem E cs Q g gs (λ_ _=>0) _ _ ?_ ?_ ?_ ?_ ⟨fh,λj ax=>?_,λj k ax L b5=>absurd rfl b5⟩ bC ?_
  all_goals first|(intro tm' m' fl iP bW yX)|(simp only[dv,cx,if_false,if_true,ay,da];done)|skip
  ·rw[fz j ax]
   congr 2
  obtain⟨bX,G,J,af⟩:=y1.all aM (10*D E) 0 m' (by omega) bW.aBT;simp only[go_sem,go_sem_proc];refine anc G ?_;refine a1 ?_;repeat' (intro h<;>simp only[h,go_sem,go_sem_proc,iP]<;>try refine al ?_ ?_)
  exact⟨_,rfl,g,gs,rfl,J.at Q,λk L=>(af k L).trans (yX k L)⟩
end Go.Mini
