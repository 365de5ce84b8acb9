/- A part of the proof. -/
import Derived.Test.YtdbkjjoedjfmpaaGreatProg
import Derived.KernelRfl
import Derived.Test.YtdbkjjoedjfmpaaGreatM06
set_option linter.unusedSimpArgs false
set_option linter.unusedVariables false
set_option maxRecDepth 100000
set_option maxHeartbeats 4000000
noncomputable section
open Bool renaming and_eq_true->fw,and_false->jB,false_and->eR,not_eq_true'->I0,not_false->db,not_true->cw,true_and->fD
open Decidable renaming em->dc
open Int renaming ofNat_le->aos,toNat_natCast->jE
open List renaming all_eq_true->pz,any_eq_false->wi,append_nil->gS,concat_eq_append->yO,drop_succ_cons->Dw,drop_zero->nD,eq_nil_or_concat->yN,filter_append->sw,filter_cons_of_neg->tC,filter_cons_of_pos->rB,filter_nil->qE,flatten_cons->j1,foldl_append->anX,getD_eq_getElem?_getD->ep,getElem?_append_left->oe,getElem?_append_right->nc,getElem?_cons_succ->NI,getElem?_cons_zero->Cc,getElem?_eq_getElem->bq,getElem?_eq_some_iff->ej,getElem?_map->bj,getElem_mem->lq,length->D,length_append->fX,length_cons->jO,length_eq_zero_iff->x3,length_filter_le->pc,length_map->aE,length_nil->nC,length_range->r1,length_replicate->wk,length_singleton->sg,length_take->gv,mapM_cons->ny,map_append->js,map_congr_left->oi,map_cons->ey,map_id->an6,map_map->oj,map_nil->cC,mem_cons_of_mem->hO,mem_cons_self->g3,mem_map->fO,mem_map_of_mem->Bl,mem_of_getElem?->dn,mem_range->iM,range->eN,replicate->et,replicate_succ->sR,replicate_succ'->Nk,set_cons_succ->uP,set_cons_zero->mx,take_add_one->gB,take_append_drop->vz,take_of_length_le->dp,take_succ_cons->sW,take_zero->mU
open List.cons renaming injEq->bk
open Nat renaming le_of_ble_eq_true->tO,le_of_lt->HV,le_refl->cH,le_trans->e4,mul_one->dY,reduceEqDiff->cp,sub_self->jy,zero_le->fm
open Option renaming bind_none->se,bind_some->yH,map_some->lu
open Option.some renaming injEq->cL
open Prod renaming ext->dN
open Rat renaming add_zero->iX,div_def->IJ,intCast_add->Bj,intCast_mul->sq,intCast_natCast->nW,mul_zero->sn,sub_eq_add_neg->CM,zero_add->qD,zero_mul->Bh
namespace Go.Mini
open Go
def rI (l:List aG)(r:Int):Int:=cF l λc=>if c.2.2.1<r then c.2.2.2 else 0
def g0 (l:List aG)(r:Int):Int:=cF l λc=>if c.2.2.1=r then c.2.2.2 else 0
theorem anB (l:List aG)(r:Int):rI l (r+1)=rI l r+g0 l r:=by
 unfold rI g0;rw[<-ack];refine FD λc _=>?_
 by_cases G:c.2.2.1<r
 ·rw[ad G,ad (by omega),ag (by omega)];omega
 ·by_cases J:c.2.2.1=r
  ·rw[ad (by omega),ag G,ad J];omega
  ·rw[ag (by omega),ag G,ag J];rfl
def hl (l:List aG)(x:Rat)(k:Nat):Rat:=pos (x-((rI l k:Int):Rat))
theorem lf.adk {l:List aG}(h:lf l)(r:Int):0<=g0 l r/\g0 l r<=536870912:=h.bound λc=>c.2.2.1=r
theorem lf.aCM {l:List aG}(h:lf l)(r:Int):0<=rI l r/\rI l r<=536870912:=h.bound λc=>c.2.2.1<r
theorem aCN (l:List aG)(x:Rat)(k:Nat):0<=hl l x k:=IL _
theorem aCO {l:List aG}(h:lf l){x:Rat}(M:0<=x):hl l x 0=x:=by
 have:rI l (0:Nat)=0:=by
  unfold rI
  have:(cF l λc=>if c.2.2.1<((0:Nat):Int) then c.2.2.2 else 0)=cF l λ_=>0:=FD λc H=>by
   have:=(h.c c H).2.2.2.2.1;rw[ag (by omega)]
  rw[this];clear h this
  induction l with
  |nil=>rfl
  |cons c l aN=>simp only[cF,aN];omega
 unfold hl;rw[this,zo]<;>grind
theorem aCP {l:List aG}(h:lf l){x:Rat}{k:Nat}(he:((g0 l k:Int):Rat)<=hl l x k):hl l x (k+1)=hl l x k-((g0 l k:Int):Rat):=by
 have G:=anB l k;have ax:=(h.adk k).1;have aL0:(0:Rat)<=((g0 l k:Int):Rat):=by exact_mod_cast ax
 unfold hl at *;rw[show ((k+1:Nat):Int)=(k:Int)+1 by omega,G,Bj]
 by_cases aF:x-((rI l k:Int):Rat)<=0
 ·have av:=wv aF;rw[av] at he ⊢;rw[wv (by grind)];grind
 ·have av:=zo (x:=x-((rI l k:Int):Rat)) (by grind);rw[av] at he ⊢;rw[zo (by grind)];grind
theorem aCQ {l:List aG}{x:Rat}{k:Nat}(he:¬ ((g0 l k:Int):Rat)<=hl l x k):hl l x (k+1)=0:=by
 have G:=anB l k;have J:=Ru (x-((rI l k:Int):Rat));unfold hl at *;rw[show ((k+1:Nat):Int)=(k:Int)+1 by omega,G,Bj,wv (by grind)]
section
variable {l:List aG} (h:lf l) {x:Rat} {k:Nat} {c:aG} (H:c∈l) (L:c.2.2.1=k)
include h H L
theorem anC:b4 l c.1 c.2.2.1=rI l k/\gJ l c.1 c.2.2.1=g0 l k:=by
 rw[L];exact⟨(h.less H k).symm,(h.same H k).symm⟩
theorem aCR (he:((g0 l k:Int):Rat)<=hl l x k):dC l x c=(c.2.2.2:Rat):=by
 obtain⟨av,aB⟩:=anC h H L;have aM:∀c∈l,0<=c.2.2.2:=λc H=>(h.c c H).2.2.2.2.2.2.1
 by_cases aF:x-((rI l k:Int):Rat)<=0
 ·have ax:hl l x k=0:=wv aF;rw[ax] at he;have dh:g0 l k<=0:=by exact_mod_cast he
  have aW:=amb aM H;rw[aB] at aW;have aL1:=aM c H;rw[acn aM H (by rw[av];exact aF),show c.2.2.2=0 by omega];rfl
 ·refine amc ?_;rw[av,aB];unfold hl at he;rwa [zo (by grind)] at he
theorem aCS (he:¬ ((g0 l k:Int):Rat)<=hl l x k):dC l x c=(c.2.2.2:Rat)*hl l x k/((g0 l k:Int):Rat):=by
 obtain⟨av,aB⟩:=anC h H L;have aM:∀c∈l,0<=c.2.2.2:=λc H=>(h.c c H).2.2.2.2.2.2.1
 by_cases aF:x-((rI l k:Int):Rat)<=0
 ·have ax:hl l x k=0:=wv aF;rw[acn aM H (by rw[av];exact aF),ax,sn,IJ,Bh]
 ·have ax:hl l x k=x-((rI l k:Int):Rat):=zo (by grind);rw[amd (by rw[av];grind) (by rw[av,aB,<-ax];grind),av,aB,ax]
end
theorem anD {l:List aG}{x:Rat}(h:Bq l x)(k:Nat):eA 490 (hl l x k):=by
 have fP:=h.own.aCM k;unfold hl pos
 split
 ·exact (show eA 1 0 from⟨by decide,by decide⟩).mono (by omega)
 ·rw[CM];exact (MI h.sz (wA (sy (z:=rI l k) (b:=29) (by omega)))).mono (by omega)
def adl:=cn Sw λ(x,a,b)=>some (.same (.bool (decide (a<=x)&&decide (x<=b))))
@[go_sem] theorem aL2 (x:Int)(a:Int)(b:Int):adl [.int .i64 x,.int .i64 a,.int .i64 b]=some (.same (.bool (decide (a<=x)&&decide (x<=b)))):=cz amx (x,a,b)
theorem aCT (T:bl)  (x:Int) (a:Int) (b:Int):WP T abC (.same (.bool (decide (a<=x)&&decide (x<=b)))) [.I (.int .i64 x),.I (.int .i64 a),.I (.int .i64 b)]:=by
 refine cD ?_;simp only[abC];rcases aq:decide (a<=x)
 ·have c2:decide (x>=a)=false:=aq;refine ak ?_;repeat' (intro h<;>simp only[h,go_sem,go_sem_proc,aq,c2,eR]<;>try refine ai ?_ ?_)
 ·have c2:decide (x>=a)=true:=aq;refine ak ?_;repeat' (intro h<;>simp only[h,go_sem,go_sem_proc,aq,c2,fD]<;>try refine ai ?_ ?_)
def adm:=cn Sj λ(l:List aG)=>cN (lf l) (.same (.bool true))
@[go_sem] theorem aL3 (l:List aG)(H:lf l):adm [.X (l.map bR)]=some (.same (.bool true)):=(cz al5 l).trans (cX H _)
theorem aCU (T:bl)(anE:T Hq=aQ adl)(l:List aG)(H:lf l):WP T abA (.same (.bool true)) [.I (.X (l.map bR))]:=by
 refine cD ?_;simp only[abA];have aw:=H.len;simp only[go_sem,go_sem_proc,aE];refine cU [0,5,6] [] (λ(i:Nat) tm mem=>i<=D l/\tm 7=.I (.int .i64 i)) (λi=>D l-i) 0 (by refine⟨by omega,rfl⟩) ?_;intro vs ms aJ aH;simp only[go_sem,go_sem_proc] at aJ aH;subst aJ aH;rintro i tm mem L hm ⟨Q,bV⟩;simp only[go_sem,go_sem_proc,bk] at L hm;obtain⟨ax,bx,b0⟩:=L;rcases dc (i<D l) with az|b2
 ·have d1:decide ((i:Int)<(D l:Int))=true:=cT;have bG:=ec (i:=i) (by omega);obtain⟨⟨aq,c2,c3,c4⟩,M⟩:∃c,l[i]?=some c:=⟨_,bq az⟩;obtain⟨⟨cE,cO,ei,eS⟩,qq⟩:∃c,l[0]?=some c:=⟨_,bq (by omega)⟩;have nB:=H.c _ (dn M);have yA:=H.one _ (dn M) _ (dn qq);dsimp only at nB yA;subst yA;have fQ:(decide (0<=aq)&&decide (aq<=59))=true:=by simp only[fw,decide_eq_true_eq];omega
  have hg:(decide (-1<=c2)&&decide (c2<=59))=true:=by simp only[fw,decide_eq_true_eq];omega
  have wz:(decide (0<=c3)&&decide (c3<=9))=true:=by simp only[fw,decide_eq_true_eq];omega
  have kE:(decide (0<=c4)&&decide (c4<=1000000000000000))=true:=by simp only[fw,decide_eq_true_eq];omega
  refine ak ?_;repeat' (intro h<;>simp only[h,go_sem,go_sem_proc,anE,ax,bx,b0,bV,M,qq,d1,bG,fQ,hg,wz,kE,bR,bne,beq_self_eq_true,cw,aE,bj]<;>try refine ai ?_ ?_)
  exact⟨i+1,by omega,by omega,rfl⟩
 ·have d1:decide ((i:Int)<(D l:Int))=false:=cl;have d2:decide ((D l:Int)<=2000)=true:=cT;refine ak ?_;repeat' (intro h<;>simp only[h,go_sem,go_sem_proc,anE,ax,bx,b0,bV,d1,d2,aE]<;>try refine ai ?_ ?_)
theorem aCV (T:bl){K:eI->bo->Prop}{kk:List fJ}(l:List aG)(aw:lf l)(k:Nat)(v1 v6 sE:R)(Gh:R)(bX ir anF:Option (Nat×List R))(tm:Nat->R)(m:Mem)
  (av:tm 1=v1) (bH:tm 6=v6) (b5:tm 7=sE) (df:tm 8=.I (.int .i64 k)) (eB:tm 9=.I (.int .i64 0)) (oM:tm 37=Gh) (JA:tm 40=.I (.X (l.map bR))) (BD:tm 41=.I (.int .i64 (D l))) (zI:tm 42=.I (.int .i64 0)) (b7:m 249002=bX) (lC:m 249007=ir) (pq:m 249035=anF)
  (cZ:∀tm' m',tm' 1=v1->tm' 6=v6->tm' 7=sE->tm' 8=.I (.int .i64 k)->tm' 9=.I (.int .i64 (g0 l k))->tm' 37=Gh->m' 249002=bX->m' 249007=ir->m' 249035=anF->cd T K kk (.exit 2) ⟨tm',m'⟩) :
  wp T (FM.body.sub [1,1,1,1,0,1,0,0,1,1,0,0,1,1,0,1,0]) (cd T K kk) ⟨tm,m⟩:=by
 simp only[FM,er.sub];have ah:=λt=>aw.cs.sum (λc=>c.2.2.1=(k:Int)) t;have hlen:=aw.len;refine cU [1,6,7,8,37,40,41] [249002,249007,249035] (λ(t:Nat) tm m=>t<=D l/\tm 42=.I (.int .i64 t)/\tm 9=.I (.int .i64 (g0 (l.take t) k))) (λt=>D l-t) 0 (by refine⟨by omega,zI,eB⟩) ?_;intro vs ms aJ aH;simp only[go_sem,go_sem_proc,av,bH,b5,df,oM,JA,BD,b7,lC,pq] at aJ aH;subst aJ aH;clear av bH b5 df eB oM JA BD zI b7 lC pq tm m;rintro t tm m L hm ⟨ca,zI,eB⟩;simp only[go_sem,go_sem_proc,bk] at L hm;obtain⟨av,bH,b5,df,oM,JA,BD⟩:=L;obtain⟨b7,lC,pq⟩:=hm;rcases dc (t<D l) with az|b2
 ·have d1:decide ((t:Int)<(D l:Int))=true:=cT;have bG:=ec (i:=t) (by omega);obtain⟨⟨aq,c2,c3,c4⟩,M⟩:∃c,l[t]?=some c:=⟨_,bq az⟩
  have dF:g0 (l.take (t+1)) k=g0 (l.take t) k+if c3=(k:Int) then c4 else 0:=by
   unfold g0;rw[MR M]
  have G:=ah t;have J:=ah (t+1);have ahb:g0 (l.take t) k=cF (l.take t) λc=>if c.2.2.1=(k:Int) then c.2.2.2 else 0:=rfl;have aCW:g0 (l.take (t+1)) k=cF (l.take (t+1)) λc=>if c.2.2.1=(k:Int) then c.2.2.2 else 0:=rfl;rw[<-ahb] at G;rw[<-aCW] at J;rcases q:(c3==(k:Int))
  ·rw[ag (by have:=ne_of_beq_false q;omega),Int.add_zero] at dF;refine ak ?_;repeat' (intro h<;>simp only[h,go_sem,go_sem_proc,av,bH,b5,df,eB,oM,JA,BD,zI,b7,lC,pq,M,d1,bG,q,bR,aE,bj]<;>try refine ai ?_ ?_)
   exact⟨t+1,by omega,by omega,rfl,by rw[dF]⟩
  ·rw[ad (by have:=eq_of_beq q;omega)] at dF;have Bz:IntKind.i64.wrap (g0 (l.take t) k+c4)=g0 (l.take (t+1)) k:=by rw[dF,wrap64 _ (by omega) (by omega)]
   refine ak ?_;repeat' (intro h<;>simp only[h,go_sem,go_sem_proc,av,bH,b5,df,eB,oM,JA,BD,zI,b7,lC,pq,M,d1,bG,q,Bz,bR,aE,bj]<;>try refine ai ?_ ?_)
   exact⟨t+1,by omega,by omega,rfl,rfl⟩
 ·have d1:decide ((t:Int)<(D l:Int))=false:=cl;rw[dp (by omega)] at eB;refine ak ?_;repeat' (intro h<;>simp only[h,go_sem,go_sem_proc,av,bH,b5,df,eB,oM,JA,BD,zI,d1]<;>try refine ai ?_ ?_)
  refine cZ _ _ ?_ ?_ ?_ ?_ ?_ ?_ b7 lC pq<;>simp only[dk,cp,if_false,av,bH,b5,df,eB,oM]
def l9 (l:List aG)(x:Rat)(k t j:Nat):Option a7:=if (l.getD j ju).2.2.1<(k:Int)\/((l.getD j ju).2.2.1=(k:Int)/\j<t) then some (qJ l x j) else none
theorem aCX (l:List aG)(h:lf l)(x:Rat):(bA (D l) λj=>l9 l x 0 0 j)=bA (D l) λ_=>none:=iC λj aA=>by
 have:=(h.c _ (dn (bq aA))).2.2.2.2.1;have e:l.getD j ju=l[j]:=by rw[ep,bq aA];rfl
 unfold l9;rw[e,ag (by omega)]
theorem aCY (l:List aG)(x:Rat)(k:Nat):(bA (D l) λj=>l9 l x k (D l) j)=bA (D l) λj=>l9 l x (k+1) 0 j:=iC λj aA=>by
 unfold l9
 by_cases h:(l.getD j ju).2.2.1<((k+1:Nat):Int)
 ·rw[ad (by omega),ad (.inl h)]
 ·rw[ag (by omega),ag (by omega)]
theorem aCZ (l:List aG)(h:lf l)(x:Rat):(bA (D l) λj=>l9 l x 10 0 j)=bA (D l) λj=>some (qJ l x j):=iC λj aA=>by
 have:=(h.c _ (dn (bq aA))).2.2.2.2.2.1;have e:l.getD j ju=l[j]:=by rw[ep,bq aA];rfl
 unfold l9;rw[e,ad (.inl (by omega))]
theorem S3 {n:Int}(h:dr n):MU [.int .i64 n]=some (.same (.agg (ar (al (n:Rat))))):=azm n h
theorem aC0 (T:bl)(BE:T yS=aQ MU)(rl:T xa=aQ y3)(zj:T Ep=aQ E1){K:eI->bo->Prop}{kk:List fJ}(l:List aG)(x:Rat)(jA:Bq l x)(k:Nat)(bE lL:Nat)(v1 Gh:R)(bX:Option (Nat×List R))(tm:Nat->R)(m:Mem)
  (av:tm 1=v1) (bH:tm 6=.ref 249035 bE 4 0 (D l)) (b5:tm 7=.ptr 249007 lL 0) (df:tm 8=.I (.int .i64 k)) (eB:tm 9=.I (.int .i64 (g0 l k))) (fo:tm 12=.I (.bool (decide (((g0 l k:Int):Rat)<=hl l x k)))) (oM:tm 37=Gh) (l8:tm 60=.I (.X (l.map bR))) (tL:tm 61=.I (.int .i64 (D l))) (Gi:tm 62=.I (.int .i64 0)) (b7:m 249002=bX) (lC:m 249007=some (lL,(ar (al (hl l x k))).map .I)) (pq:m 249035=some (bE,l7 qI (bA (D l) λj=>l9 l x k 0 j)))
  (cZ:∀tm' m',tm' 1=v1->tm' 6=.ref 249035 bE 4 0 (D l)->tm' 7=.ptr 249007 lL 0->tm' 9=.I (.int .i64 (g0 l k))->tm' 12=.I (.bool (decide (((g0 l k:Int):Rat)<=hl l x k)))->tm' 37=Gh->m' 249002=bX->m' 249007=some (lL,(ar (al (hl l x k))).map .I)->m' 249035=some (bE,l7 qI (bA (D l) λj=>l9 l x (k+1) 0 j))->cd T K kk (.exit 4) ⟨tm',m'⟩) :
  wp T (FM.body.sub [1,1,1,1,0,1,0,0,1,1,0,0,1,1,1,1,0,1,0]) (cd T K kk) ⟨tm,m⟩:=by
 simp only[FM,er.sub];have how:=jA.own;have hlen:=how.len;refine cU [1,6,7,8,9,12,37,60,61] [249002,249007] (λ(t:Nat) tm m=>t<=D l/\tm 62=.I (.int .i64 t)/\m 249035=some (bE,l7 qI (bA (D l) λj=>l9 l x k t j))) (λt=>D l-t) 0 (by refine⟨by omega,Gi,pq⟩) ?_;intro vs ms aJ aH;simp only[go_sem,go_sem_proc,av,bH,b5,df,eB,fo,oM,l8,tL,b7,lC] at aJ aH;subst aJ aH;clear av bH b5 df eB fo oM l8 tL Gi b7 lC pq tm m;rintro t tm m L hm ⟨ca,Gi,pq⟩;simp only[go_sem,go_sem_proc,bk] at L hm;obtain⟨av,bH,b5,df,eB,fo,oM,l8,tL⟩:=L;obtain⟨b7,lC⟩:=hm;rcases dc (t<D l) with az|b2
 ·have d1:decide ((t:Int)<(D l:Int))=true:=cT;have bG:=ec (i:=t) (by omega);obtain⟨⟨aq,c2,c3,c4⟩,M⟩:∃c,l[t]?=some c:=⟨_,bq az⟩;have fs:=dn M;have kV:=how.c _ fs;dsimp only at kV;have z3:l.getD t ju=(aq,c2,c3,c4):=by rw[ep,M];rfl
  have Dr:=Sk (q:=λj=>l9 l x k t j) az;rcases q:(c3==(k:Int))
  ·have b6:c3≠(k:Int):=ne_of_beq_false q
   have hd:(bA (D l) λj=>l9 l x k (t+1) j)=bA (D l) λj=>l9 l x k t j:=iC λj _=>by
    unfold l9
    by_cases aA:j=t
    ·subst aA;rw[z3];dsimp only
     by_cases G:c3<(k:Int)
     ·rw[ad (.inl G),ad (.inl G)]
     ·rw[ag (by omega),ag (by omega)]
    ·by_cases G:(l.getD j ju).2.2.1<(k:Int)\/((l.getD j ju).2.2.1=(k:Int)/\j<t)
     ·rw[ad G,ad (by omega)]
     ·rw[ag G,ag (by omega)]
   refine ak ?_;repeat' (intro h<;>simp only[h,go_sem,go_sem_proc,av,bH,b5,df,eB,fo,oM,l8,tL,Gi,b7,lC,M,d1,bG,q,bR,bne,db,aE,bj]<;>try refine ai ?_ ?_)
   exact⟨t+1,by omega,by omega,rfl,by rw[hd];exact pq⟩
  ·have adn:c3=(k:Int):=eq_of_beq q;have kF:=λa b c d=>Sl (q:=λj=>l9 l x k t j) az a b c d
   have oU:∀aR:a7,aR=qJ l x t->(bA (D l) λj=>if j=t then some aR else l9 l x k t j)=bA (D l) λj=>l9 l x k (t+1) j:=by
    intro aR dG;refine iC λj _=>?_
    by_cases aA:j=t
    ·subst aA;rw[ad rfl];unfold l9;rw[z3,ad (.inr ⟨adn,by omega⟩),dG]
    ·rw[ag aA];unfold l9
     by_cases G:(l.getD j ju).2.2.1<(k:Int)\/((l.getD j ju).2.2.1=(k:Int)/\j<t)
     ·rw[ad G,ad (by omega)]
     ·rw[ag G,ag (by omega)]
   have Sq:qJ l x t=al (dC l x (aq,c2,c3,c4)):=by unfold qJ;rw[z3]
   have Nt:dr c4:=iB (by omega) (by omega);have Br:=S3 Nt;rcases dA:decide (((g0 l k:Int):Rat)<=hl l x k)
   ·have amh:=of_decide_eq_false dA;have acr:=how.adk k;have wH:dr (g0 l k):=iB (by omega) (by omega);have x6:=S3 wH;have u9:=anD jA k;have x7:eA 29 ((c4:Int):Rat):=sy (by omega);have Dq:eA 29 ((g0 l k:Int):Rat):=sy (by omega);have acs:((g0 l k:Int):Rat)≠0:=by have:=aCN l x k;grind
    have f1:=alz (oI Nt) (iY u9 (by omega)) (MH x7 u9 (by omega));have f2:=azZ (iY (Bk x7 u9) (by omega)) (oI wH) acs (aa0 (Bk x7 u9) Dq (by omega));have im:=aCS how fs adn amh;dsimp only at im;have aC1:=λa b c d=>Sl (q:=λj=>if j=t then some ((a,b),(c,d)) else l9 l x k t j) az;have aC2:=λa b c d=>Sk (q:=λj=>if j=t then some ((a,b),(c,d)) else l9 l x k t j) az;have aM:=oU (al (((c4:Int):Rat)*hl l x k/((g0 l k:Int):Rat))) (by rw[Sq,im])
    have aC3:∀aR anG:a7,(bA (D l) λj=>if j=t then some aR else if j=t then some anG else l9 l x k t j)=bA (D l) λj=>if j=t then some aR else l9 l x k t j:=λaR anG=>iC λj _=>by
     by_cases aA:j=t
     ·rw[ad aA,ad aA]
     ·rw[ag aA,ag aA,ag aA]
    clear u9 x7 Dq;generalize al (((c4:Int):Rat)*hl l x k/((g0 l k:Int):Rat))=G1 at *;generalize al (((c4:Int):Rat)*hl l x k)=G2 at *;generalize al ((g0 l k:Int):Rat)=G3 at *;generalize ado:al (hl l x k)=G4 at *;generalize al ((c4:Int):Rat)=G5 at *;obtain⟨⟨cQ,dd⟩,⟨iK,mz⟩⟩:=G1;obtain⟨⟨G,J⟩,⟨af,aT⟩⟩:=G2;obtain⟨⟨i1,i2⟩,⟨i3,i4⟩⟩:=G3;obtain⟨⟨Ds,acu⟩,⟨acv,A5⟩⟩:=G4;obtain⟨⟨hK,iw⟩,⟨n1,tp⟩⟩:=G5;simp only[ar,ey,cC] at Br x6 f1 f2 lC;have dF:=kF hK iw n1 tp;have RT:=aC1 hK iw n1 tp cQ dd iK mz;have Z3:=aC2 hK iw n1 tp;rw[aC3,aM] at RT;refine ak ?_;repeat' (intro h<;>simp only[h,go_sem,go_sem_proc,BE,rl,zj,av,bH,b5,df,eB,fo,oM,l8,tL,Gi,b7,lC,pq,M,d1,bG,az,q,dA,Br,x6,f1,f2,Dr,Z3,dF,RT,bR,aE,bj,bne,beq_self_eq_true,cw,db]<;>try refine ai ?_ ?_)
    exact⟨t+1,by omega,rfl,by omega,rfl,rfl⟩
   ·have im:=aCR how fs adn (of_decide_eq_true dA);dsimp only at im;have aM:=oU (al ((c4:Int):Rat)) (by rw[Sq,im]);generalize al ((c4:Int):Rat)=G5 at *;obtain⟨⟨hK,iw⟩,⟨n1,tp⟩⟩:=G5;simp only[ar] at Br;have dF:=kF hK iw n1 tp;rw[aM] at dF;refine ak ?_;repeat' (intro h<;>simp only[h,go_sem,go_sem_proc,BE,av,bH,b5,df,eB,fo,oM,l8,tL,Gi,b7,lC,pq,M,d1,bG,az,q,dA,Br,Dr,dF,bR,aE,bj,bne,beq_self_eq_true,cw,db]<;>try refine ai ?_ ?_)
    exact⟨t+1,by omega,by omega,rfl,rfl⟩
 ·have d1:decide ((t:Int)<(D l:Int))=false:=cl;obtain rfl:t=D l:=by omega
  rw[aCY] at pq;refine ak ?_;repeat' (intro h<;>simp only[h,go_sem,go_sem_proc,av,bH,b5,df,eB,fo,oM,l8,tL,Gi,d1]<;>try refine ai ?_ ?_)
  refine cZ _ _ ?_ ?_ ?_ ?_ ?_ ?_ b7 lC pq<;>simp only[dk,cp,if_false,av,bH,b5,eB,fo,oM]
def adp:=cn Sn λ(x,l)=>cN (Bq l x) (.same (.c1 [.X ((l.map λc=>al (dC l x c)).map ar),.int .i64 0]))
@[go_sem] theorem aC4 (x:Rat)(l:List aG)(H:Bq l x):adp [.agg (ar (al x)),.X (l.map bR)]=some (.same (.c1 [.X ((l.map λc=>al (dC l x c)).map ar),.int .i64 0])):=(cz amf (x,l)).trans (cX H _)
theorem aC5 (T:bl)(hB:T lT=aQ vS)(kJ:T pF=aQ vY)(BE:T yS=aQ MU)(S4:T Vo=aQ adm)(rl:T xa=aQ y3)(zj:T Ep=aQ E1)(tr:T yQ=aQ AS)(x:Rat)(l:List aG)(H:Bq l x):WP T FM (.same (.c1 [.X ((l.map λc=>al (dC l x c)).map ar),.int .i64 0])) [.I (.agg (ar (al x))),.I (.X (l.map bR))]:=by
 refine cD ?_;simp only[FM];have nB:=H;obtain⟨how,qq,qb⟩:=H;have hP:=iY qb (by omega);have hlen:=how.len;have acq:=FL hP;have A2:=I8 hP (oI FV);have aC6:decide (jV x ((0:Int):Rat)<0)=false:=by rw[R5];exact h7 (by have:((0:Int):Rat)=0:=rfl;grind)
 have bS:=jY hP;have jA:=ame l x;have f0:=S3 FV;have hZ:=aCO how qq;have gO:=aCX l how x;have a3:=aci (D l);rw[<-gO] at a3;have om:(64*D l<=140737488355328)=True:=eq_true (by omega);have tt:(D l<=maxLen)=True:=eq_true (by unfold maxLen;omega);generalize dG:al x=aR at *;generalize MK:al ((0:Int):Rat)=rf at *;obtain⟨⟨cE,cO⟩,⟨ei,eS⟩⟩:=aR;obtain⟨⟨k5,k6⟩,⟨pf,u4⟩⟩:=rf;simp only[ar] at f0 A2;simp only[go_sem,go_sem_proc,hB,kJ,BE,S4,ar,acq,bS.1,bS.2,f0,A2,aC6,how,om,tt,a3,aE,cw,db];refine cU [1,6,7] [249002] (λ(k:Nat) tm m=>k<=10/\tm 37=.I (.int .i64 k)/\m 249007=some (0,(ar (al (hl l x k))).map .I)/\m 249035=some (0,l7 qI (bA (D l) λj=>l9 l x k 0 j))) (λk=>10-k) 0 (by refine⟨by omega,rfl,by rw[hZ,dG];rfl,rfl⟩) ?_;intro vs ms aJ aH;simp only[go_sem,go_sem_proc] at aJ aH;subst aJ aH;rintro k tm m L hm ⟨aAs,oM,lC,pq⟩;simp only[go_sem,go_sem_proc,bk] at L hm;obtain⟨av,bH,b5⟩:=L;rcases dc (k<10) with az|b2
 ·have d1:decide ((k:Int)<10)=true:=cT;have bG:=ec (i:=k) (by omega);simp only[go_sem,go_sem_proc,av,oM,d1,aE];refine aCV T l how k (.I (.X (l.map bR))) (.ref 249035 0 4 0 (D l)) (.ptr 249007 0 0) (.I (.int .i64 k)) _ (some (0,(ar (al (hl l x k))).map .I)) (some (0,l7 qI (bA (D l) λj=>l9 l x k 0 j))) _ _ ?_ ?_ ?_ ?_ ?_ ?_ ?_ ?_ ?_ hm lC pq ?_
  all_goals first|(intro tm' m' cB fj iy jq kv anH hg qH anI)|(simp only[dk,cp,if_false,if_true,av,bH,b5,oM];done)
  have acr:=how.adk k;have wH:dr (g0 l k):=iB (by omega) (by omega);have x6:=S3 wH;have u9:=anD nB k;have xu:=iY u9 (by omega);have Dq:eA 29 ((g0 l k:Int):Rat):=sy (by omega);have qk:=I8 xu (oI wH);have HJ:decide (jV (hl l x k) ((g0 l k:Int):Rat)>=0)=decide (((g0 l k:Int):Rat)<=hl l x k):=R6;have mY:=abU xu (oI wH) (zq u9 (wA Dq) (by omega));have I2:=λ(K:eI->bo->Prop) (kk:List fJ) bE lL v1 Gh bX tm m=>aC0 T BE rl zj (K:=K) (kk:=kk) l x nB k bE lL v1 Gh bX tm m;have xW:((g0 l k:Int):Rat)<=hl l x k->al (hl l x (k+1))=al (hl l x k-((g0 l k:Int):Rat)):=λh=>by rw[aCP how h]
  have gw:¬ ((g0 l k:Int):Rat)<=hl l x k->al (hl l x (k+1))=((k5,k6),(pf,u4)):=λh=>by rw[aCQ h,<-MK];rfl
  generalize al (hl l x k-((g0 l k:Int):Rat))=G1 at *;generalize aL4:al (hl l x k)=G2 at *;generalize al ((g0 l k:Int):Rat)=G3 at *;generalize ado:al (hl l x (k+1))=G4 at *;obtain⟨⟨cQ,dd⟩,⟨iK,mz⟩⟩:=G1;obtain⟨⟨G,J⟩,⟨af,aT⟩⟩:=G2;obtain⟨⟨i1,i2⟩,⟨i3,i4⟩⟩:=G3;simp only[ar,ey,cC] at x6 qk mY qH;simp only[go_sem,go_sem_proc,kJ,BE,cB,fj,iy,kv,anH,hg,qH,anI,x6,qk,HJ,aE];refine I2 _ _ 0 0 (.I (.X (l.map bR))) (.I (.int .i64 k)) _ _ _ ?_ ?_ ?_ ?_ ?_ ?_ ?_ ?_ ?_ ?_ hg ?_ anI ?_
  all_goals first|(intro x5 b7 Ds CY S5 S6 S7 anJ eU BF anK)|(simp only[dk,cp,if_false,if_true,cB,fj,iy,jq,kv,anH];done)|(rw[qH];rfl)
  simp only[ar,ey,cC] at BF;clear I2;rcases q:decide (((g0 l k:Int):Rat)<=hl l x k)
  ·have he:=gw (of_decide_eq_false q);rw[q] at S7;refine ak ?_;repeat' (intro (ay:_=_)<;>simp only[ay,go_sem,go_sem_proc,hB,kJ,BE,S4,rl,zj,tr,Ds,CY,S5,S6,S7,anJ,eU,BF,anK,f0,bG,db,cw]<;>try refine ai ?_ ?_)
   exact⟨k+1,by omega,by omega,rfl,by rw[ado,he];rfl,rfl⟩
  ·have he:=xW (of_decide_eq_true q);rw[q] at S7;refine ak ?_;repeat' (intro (ay:_=_)<;>simp only[ay,go_sem,go_sem_proc,hB,kJ,BE,S4,rl,zj,tr,Ds,CY,S5,S6,S7,anJ,eU,BF,anK,x6,mY,bG,bne,beq_self_eq_true,db,cw]<;>try refine ai ?_ ?_)
   exact⟨k+1,by omega,by omega,rfl,by rw[ado,he];rfl,rfl⟩
 ·have d1:decide ((k:Int)<10)=false:=cl;obtain rfl:k=10:=by omega
  rw[aCZ l how x,jA,acj] at pq;have ke:=λ(K:bo->Prop) (st:bo)=>oW (K:=K) (st:=st) iT 6 249035 0 (l.map λc=>al (dC l x c));rw[aE] at ke;refine ak ?_;repeat' (intro (ay:_=_)<;>simp only[ay,go_sem,go_sem_proc,hB,kJ,BE,S4,rl,zj,tr,av,bH,b5,oM,hm,d1,pq,ke,aE]<;>try refine ai ?_ ?_)
theorem S8 {fH gq n:Nat}(key:Nat->Nat)(uu:Nat->R)(S9:∀i,i<n->key i≠fH)(Kd:∀i j,i<n->j<n->key i=key j->i=j):∀r d (q:Nat->R) (m:Mem),d+r=n->m fH=some (gq,bA n q)->(∀i,i<d->q i=uu i) ->
  (∀i,d<=i->i<n->q i=uu i\/∃g sz len cs x,q i=.ref (key i) g sz 0 len/\m (key i)=some (g,cs)/\(∀b7:Mem,b7 (key i)=some (g,cs)->dz 1 b7 (.ref (key i) g sz 0 len)=some x)/\uu i=.I x) ->
  ∃m',tR m m'/\m' fH=some (gq,bA n uu)/\∀k:Nat,k≠fH->(∀i,i<n->k≠key i)->m' k=m k
 |0,d,q,m,ab,G,J,_=>⟨m,.refl m,by rw[G,iC λi Q=>J i (by omega)],λ_ _ _=>rfl⟩
 |r+1,d,q,m,ab,G,J,af=>by
  rcases af d (cH _) (by omega) with he|⟨g,sz,len,cs,x,av,aB,bp,bM⟩
  ·obtain⟨m',cB,dA,ek⟩:=S8 key uu S9 Kd r (d+1) q m (by omega) G (λi Q=>by
    by_cases hI:i=d
    ·rw[hI];exact he
    ·exact J i (by omega)) λi Q cI=>af i (by omega) cI
   exact⟨m',cB,dA,ek⟩
  ·have j8:d<n:=by omega
   have mq:(bA n q)[d]?=some (.ref (key d) g sz 0 len):=by rw[jf q j8,av]
   have jR:=sL.Ov fH gq _ d (key d) g sz 0 len cs x G mq aB (S9 d j8) (bp m aB);have hV:a9 (kill m (key d)) fH gq ((bA n q).set d (.I x)) fH=some (gq,bA n λj=>if j=d then .I x else q j):=by rw[jg,zA]
   obtain⟨m',cB,dA,ek⟩:=S8 key uu S9 Kd r (d+1) (λj=>if j=d then .I x else q j) _ (by omega) hV (λi Q=>by
    by_cases hI:i=d
    ·rw[ad hI,hI,bM]
    ·rw[ag hI];exact J i (by omega)) λi Q cI=>by
     rw[ag (by omega)];rcases af i (by omega) cI with he|⟨eg,eQ,aeD,qV,jT,f1,f2,f3,f4⟩
     ·exact .inl he
     ·refine .inr ⟨eg,eQ,aeD,qV,jT,f1,?_,f3,f4⟩;rw[dg (S9 i cI)];unfold kill;rw[dg λaY=>by have:=Kd i d cI j8 aY;omega]
      exact f2
   refine⟨m',.step jR cB,dA,λk L rX=>?_⟩;rw[ek k L rX,dg L];unfold kill;rw[dg (rX d j8)]
def gD (l:List aG)(i:Nat):List Nat:=(eN (D l)).filter λj=>(l.getD j ju).1==(i:Int)
theorem adq (l:List aG)(c:aG)(i:Nat):gD (l++[c]) i=if c.1=(i:Int) then gD l i++[D l] else gD l i:=by
 unfold gD;have av:(l++[c]).getD (D l) ju=c:=by rw[ep,nc (cH _),jy];rfl
 have aB:(eN (D l)).filter (λj=>((l++[c]).getD j ju).1==(i:Int))=(eN (D l)).filter λj=>(l.getD j ju).1==(i:Int):=List.filter_congr λj aA=>by
  rw[ep,oe (iM.1 aA),<-ep]
 rw[fX,sg,List.range_succ,sw,aB]
 by_cases h:c.1=(i:Int)
 ·rw[ad h,rB (by rw[av];simpa using h),qE]
 ·rw[ag h,tC (by rw[av];simpa using h),qE,gS]
theorem adr {l:List aG}{i j:Nat}:j∈gD l i↔j<D l/\(l.getD j ju).1=(i:Int):=by
 unfold gD;rw[List.mem_filter,iM,beq_iff_eq]
theorem ads (l:List aG)(c:aG)(i:Nat):c7 (l++[c]) i=if c.1=(i:Int) then c7 l i++[c] else c7 l i:=by
 unfold c7;rw[sw]
 by_cases h:c.1=(i:Int)
 ·rw[ad h,rB (by simpa using h),qE]
 ·rw[ag h,tC (by simpa using h),qE,gS]
theorem anL (l:List aG)(i:Nat):c7 l i=(gD l i).map λj=>l.getD j ju:=by
 have:∀n (l:List aG),D l=n->c7 l i=(gD l i).map λj=>l.getD j ju:=by
  intro n
  induction n with
  |zero =>
   intro l aw;have:l=[]:=x3.1 aw;subst this;rfl
  |succ n aN =>
   intro l aw;rcases yN l with ax|⟨fI,c,rfl⟩
   ·subst ax;cases aw
   ·rw[yO] at *;simp only[fX,sg] at aw;have av:(fI++[c]).getD (D fI) ju=c:=by rw[ep,nc (cH _),jy];rfl
    have aB:(gD fI i).map (λj=>(fI++[c]).getD j ju)=(gD fI i).map λj=>fI.getD j ju:=oi λj aA=>by
     rw[ep,oe (adr.1 aA).1,<-ep]
    rw[ads,adq]
    by_cases h:c.1=(i:Int)
    ·rw[ad h,ad h,js,aB,aN fI (by omega)];show _=_++[(fI++[c]).getD (D fI) ju];rw[av]
    ·rw[ag h,ag h,aB,aN fI (by omega)]
 exact this _ l rfl
theorem Ta (l:List aG)(i:Nat):(gD l i).length=(c7 l i).length:=by rw[anL,aE]
theorem aC7 (l:List aG)(i:Nat):(gD l i).length<=D l:=by
 unfold gD;exact e4 (pc _ _) (by rw[r1];exact cH _)
def mh (l:List aG)(gc:Nat->Nat)(i:Nat):R:=if c7 l i=[] then .nil else .ref (233600+i) (gc i) 4 0 (c7 l i).length
def pp (l:List aG)(eT:Nat->Nat)(i:Nat):R:=if c7 l i=[] then .nil else .ref (233700+i) (eT i) 1 0 (c7 l i).length
structure JB (n:Nat) (l:List aG) (gc eT:Nat->Nat) (m:Mem):Prop where
 eF:m 233019=some (0,bA n (mh l gc))
 eU:m 233022=some (0,bA n (pp l eT))
 cB:∀i,i<n->c7 l i≠[]->m (233600+i)=some (gc i,aV bR (c7 l i))
 dA:∀i,i<n->c7 l i≠[]->m (233700+i)=some (eT i,aV hj (gD l i))
theorem JB.next {n:Nat}{l:List aG}{gc eT:Nat->Nat}{m m':Mem}(h:JB n l gc eT m)(aM:n<=5){aq:Nat}{c2 c3 c4:Int}(cQ dd:Nat)
  (G:m' 233019=some (0,bA n λi=>if i=aq then .ref (233600+aq) cQ 4 0 ((c7 l aq).length+1) else mh l gc i)) (J:m' 233022=some (0,bA n λi=>if i=aq then .ref (233700+aq) dd 1 0 ((c7 l aq).length+1) else pp l eT i))
  (af:m' (233600+aq)=some (cQ,aV bR (c7 l aq++[((aq:Int),c2,c3,c4)]))) (aT:m' (233700+aq)=some (dd,aV hj (gD l aq++[D l])))
  (bS:∀i,i<n->i≠aq->m' (233600+i)=m (233600+i)/\m' (233700+i)=m (233700+i)):JB n (l++[((aq:Int),c2,c3,c4)]) (λi=>if i=aq then cQ else gc i) (λi=>if i=aq then dd else eT i) m':=by
 have Tb:∀i:Nat,i≠aq->c7 (l++[((aq:Int),c2,c3,c4)]) i=c7 l i:=λi Q=>by rw[ads,ag (by show ¬ ((aq:Int)=(i:Int));omega)]
 have PR:∀i:Nat,i≠aq->gD (l++[((aq:Int),c2,c3,c4)]) i=gD l i:=λi Q=>by rw[adq,ag (by show ¬ ((aq:Int)=(i:Int));omega)]
 have so:c7 (l++[((aq:Int),c2,c3,c4)]) aq=c7 l aq++[((aq:Int),c2,c3,c4)]:=by rw[ads,ad rfl]
 have sp:gD (l++[((aq:Int),c2,c3,c4)]) aq=gD l aq++[D l]:=by rw[adq,ad rfl]
 refine⟨?_,?_,λi Q b6=>?_,λi Q b6=>?_⟩
 ·rw[G]
  congr 2
  refine iC λi Q=>?_;unfold mh
  by_cases H:i=aq
  ·subst H;rw[so,ad rfl,ag (by simp),fX];dsimp only;rw[ad rfl];rfl
  ·rw[Tb i H,ag H];dsimp only;rw[ag H]
 ·rw[J]
  congr 2
  refine iC λi Q=>?_;unfold pp
  by_cases H:i=aq
  ·subst H;rw[so,ad rfl,ag (by simp),fX];dsimp only;rw[ad rfl];rfl
  ·rw[Tb i H,ag H];dsimp only;rw[ag H]
 ·by_cases H:i=aq
  ·subst H;rw[ad rfl,so];exact af
  ·rw[Tb i H] at b6 ⊢;rw[ag H,(bS i Q H).1];exact h.cB i Q b6
 ·by_cases H:i=aq
  ·subst H;rw[ad rfl,sp];exact aT
  ·rw[Tb i H] at b6;rw[PR i H,ag H,(bS i Q H).2];exact h.dA i Q b6
structure BG (cs:List aG) (h:List Rat):Prop where
 len:(D cs)<=12
 n:(D h)<=5
 c:∀c∈cs,0<=c.1/\c.1<(D h) /\ -1<=c.2.1/\c.2.1<60/\0<=c.2.2.1/\c.2.2.1<10/\0<=c.2.2.2/\c.2.2.2<=33554432
 x:∀x∈h,0<=x/\eA 460 x
theorem aC8 {K:bo->Prop}{tm:Nat->R}{mem J8 mem':Mem}(h:sL mem J8)(J:sL J8 mem')(cZ:∀bn,bn=mem'->K ⟨tm,bn⟩):kn K ⟨tm,mem⟩ .many:=⟨mem',.step h (.step J (.refl _)),cZ _ rfl⟩
theorem aC9 (T:bl){K:eI->bo->Prop}{kk:List fJ}(cs:List aG)(h:List Rat)(aF:BG cs h)(v1:R)(tm:Nat->R)(m:Mem)
  (bw:tm 0=.I (.X (cs.map bR))) (av:tm 1=v1) (bH:tm 6=.ref 233019 0 1 0 (D h)) (b5:tm 7=.ref 233022 0 1 0 (D h)) (Dz:tm 23=.I (.X (cs.map bR))) (DA:tm 24=.I (.int .i64 (D cs))) (mG:tm 25=.I (.int .i64 0)) (kP:m 233057=none) (gc eT:Nat->Nat) (bY:JB (D h) [] gc eT m)
  (cZ:∀tm' m' J9 R8,tm' 0=.I (.X (cs.map bR))->tm' 1=v1->tm' 6=.ref 233019 0 1 0 (D h)->tm' 7=.ref 233022 0 1 0 (D h)->m' 233057=none->JB (D h) cs J9 R8 m'->cd T K kk (.exit 0) ⟨tm',m'⟩) :
  wp T (E5.body.sub [1,1,1,0,1,0]) (cd T K kk) ⟨tm,m⟩:=by
 simp only[E5,er.sub];have aM:=aF.n;have eP:=aF.len;refine cU [0,1,6,7,23,24] [233057] (λ((t,gc,eT):Nat×(Nat->Nat)×(Nat->Nat)) tm m=>t<=D cs/\tm 25=.I (.int .i64 t)/\JB (D h) (cs.take t) gc eT m) (λ(t,_)=>D cs-t) (0,gc,eT) (by refine⟨by omega,mG,by rw[mU];exact bY⟩) ?_;intro vs ms aJ aH;simp only[go_sem,go_sem_proc,bw,av,bH,b5,Dz,DA,kP] at aJ aH;subst aJ aH;clear bw av bH b5 Dz DA mG kP bY tm m;rintro⟨t,gc,eT⟩ tm m L kP ⟨ca,mG,bY⟩;simp only[go_sem,go_sem_proc,bk] at L kP;obtain⟨bw,av,bH,b5,Dz,DA⟩:=L;rcases dc (t<D cs) with az|b2
 ·have d1:decide ((t:Int)<(D cs:Int))=true:=cT;have bG:=ec (i:=t) (by omega);obtain⟨⟨aq,c2,c3,c4⟩,M⟩:∃c,cs[t]?=some c:=⟨_,bq az⟩;have iG:=aF.c _ (dn M);dsimp only at iG;obtain⟨aq,rfl⟩:∃k:Nat,aq=(k:Int):=⟨aq.toNat,by omega⟩
  have gm:cs.take (t+1)=cs.take t++[((aq:Int),c2,c3,c4)]:=by rw[gB,M];rfl
  have m2:(cs.take t).length=t:=by rw[gv];omega
  generalize aw:cs.take t=l at *;have gb:aq<D h:=by omega
  have eF:=bY.eF;have eU:=bY.eU;have cQ:=wK (jf (mh l gc) gb);have dd:=wK (jf (pp l eT) gb);have hK:(bA (D h) (mh l gc)).length=D h:=fZ _ _;have iw:(bA (D h) (pp l eT)).length=D h:=fZ _ _;have s1:=λv=>(SY (l:=bA (D h) (mh l gc)) (k:=aq) (v:=v) (by rw[fZ];exact gb)).trans (zA (mh l gc) v);have s2:=λv=>(SY (l:=bA (D h) (pp l eT)) (k:=aq) (v:=v) (by rw[fZ];exact gb)).trans (zA (pp l eT) v);have ed:aq+1<=D h:=by omega
  have p3:(1<=maxLen)=True:=eq_true (by decide);have D6:(c7 l aq).length<=12:=e4 (pc _ _) (by omega);have ia:=Ta l aq;have Tc:∀i,i<(D h)->233600+i≠233009/\233600+i≠233019/\233600+i≠233022/\233600+i≠233043/\233600+i≠233051/\233600+i≠233700+aq/\233600+i≠233057:=λi Q=>by omega
  have Td:∀i,i<(D h)->233700+i≠233009/\233700+i≠233019/\233700+i≠233022/\233700+i≠233043/\233700+i≠233051/\233700+i≠233600+aq/\233700+i≠233057:=λi Q=>by omega
  by_cases iR:c7 l aq=[]
  ·have adt:mh l gc aq=.nil:=by unfold mh;rw[ad iR]
   have adu:pp l eT aq=.nil:=by unfold pp;rw[ad iR]
   have Ge:gD l aq=[]:=x3.1 (by rw[ia,iR];rfl);rw[adt] at cQ;rw[adu] at dd;simp only[go_sem,go_sem_proc,p3,bH,b5,Dz,DA,mG,M,eF,eU,cQ,dd,hK,iw,s1,s2,d1,ed,gb,bR,dY,bj];obtain⟨f11,f12,f13,f14,f15,f16,f17⟩:=Tc aq gb;obtain⟨f21,f22,f23,f24,f25,f26,f27⟩:=Td aq gb
   refine aC8 (sL.Ou 233019 0 _ aq 233043 (fN (m 233043)) 4 0 1 _ (233600+aq) ((dg (by decide)).trans jg) ((jf _ gb).trans (by rw[ad rfl])) ((dg (by decide)).trans ((dg (by decide)).trans ((dg (by decide)).trans jg))) (by decide) f14 f12)
    (sL.Ou 233022 0 _ aq 233051 (fN (m 233051)) 1 0 1 _ (233700+aq) ((dg (by decide)).trans ((dg (Ne.symm f13)).trans ((dg (by decide)).trans jg))) ((jf _ gb).trans (by rw[ad rfl])) ((dg (by decide)).trans ((dg (Ne.symm f15)).trans ((dg (by decide)).trans ((dg (by decide)).trans ((dg (by decide)).trans jg))))) (by decide) f25 f23) ?_
   intro M2 fp
   have n8:∀k:Nat,k≠233009->k≠233019->k≠233022->k≠233043->k≠233051->k≠233600+aq->k≠233700+aq->M2 k=m k:=λk eK xh xf anM anN aDa aDb=>by
    rw[fp,dg xf,dg aDb,dg anN,dg xh,dg aDa,dg anM,dg xf,dg xh,dg anN,dg anM,dg eK,dg eK]
   obtain⟨Te,wj,rp⟩:∃Te,M2 233019=some (0,bA (D h) λi=>if i=aq then .ref (233600+aq) Te 4 0 ((c7 l aq).length+1) else mh l gc i)/\M2 (233600+aq)=some (Te,aV bR (c7 l aq++[((aq:Int),c2,c3,c4)])):=by
    rw[iR];apply Exists.intro;apply And.intro
    rotate_left
    ·rw[fp,dg f13,dg f16,dg f15,dg f12,jg];rfl
    ·rw[fp,dg (by decide),dg (Ne.symm f22),dg (by decide),jg,zA]
     congr 2
     refine iC λi _=>?_
     by_cases Q:i=aq
     ·rw[ad Q,ad Q];rfl
     ·rw[ag Q,ag Q,ag Q]
   obtain⟨Tf,NN,Gd⟩:∃Tf,M2 233022=some (0,bA (D h) λi=>if i=aq then .ref (233700+aq) Tf 1 0 ((c7 l aq).length+1) else pp l eT i)/\M2 (233700+aq)=some (Tf,aV hj (gD l aq++[D l])):=by
    rw[iR,Ge,m2];apply Exists.intro;apply And.intro
    rotate_left
    ·rw[fp,dg f23,jg];rfl
    ·rw[fp,jg,zA]
     congr 2
     refine iC λi _=>?_
     by_cases Q:i=aq
     ·rw[ad Q,ad Q];rfl
     ·rw[ag Q,ag Q,ag Q]
   have jc:=bY.next (m':=M2) aM Te Tf wj NN rp Gd λi Q b6=>⟨by
    obtain⟨cE,cO,ei,eS,wG,tE,-⟩:=Tc i Q;exact n8 _ cE cO ei eS wG (by omega) tE,by
    obtain⟨cE,cO,ei,eS,wG,tE,-⟩:=Td i Q;exact n8 _ cE cO ei eS wG tE (by omega)⟩
   have adv:M2 233057=none:=(n8 233057 (by decide) (by decide) (by decide) (by decide) (by decide) (Ne.symm f17) (Ne.symm f27)).trans kP;clear fp n8 wj rp NN Gd;refine ak ?_;repeat' (intro (ay:_=_)<;>simp only[ay,go_sem,go_sem_proc,bw,av,bH,b5,Dz,DA,mG,bG,adv]<;>try refine ai ?_ ?_)
   exact⟨(t+1,_,_),by dsimp only;omega,by dsimp only;omega,rfl,by rw[gm];exact jc⟩
  ·have adt:mh l gc aq=.ref (233600+aq) (gc aq) 4 0 (c7 l aq).length:=by unfold mh;rw[ag iR]
   have adu:pp l eT aq=.ref (233700+aq) (eT aq) 1 0 (gD l aq).length:=by unfold pp;rw[ag iR,ia]
   rw[adt] at cQ;rw[adu] at dd;have cB:=bY.cB aq gb iR;have dA:=bY.dA aq gb iR;have UJ:=jm Dk RW (233600+aq) (gc aq) 32 (c7 l aq) ((aq:Int),c2,c3,c4) (cs:=[.I (.int .i64 aq),.I (.int .i64 c2),.I (.int .i64 c3),.I (.int .i64 c4)]) rfl (by omega) (by omega);have Hb:=jm uT ai0 (233700+aq) (eT aq) 8 (gD l aq) (D l) (cs:=[.I (.int .i64 t)]) (by rw[m2];rfl) (by omega) (by omega);obtain⟨f11,f12,f13,f14,f15,f16,f17⟩:=Tc aq gb;obtain⟨f21,f22,f23,f24,f25,f26,f27⟩:=Td aq gb;have aL5:(233600+aq)=233600+aq:=rfl;generalize dV:233600+aq=A at *;generalize kp:233700+aq=B at *;have NO:A≠B:=f16;have fQ:(A==233009)=false:=beq_eq_false_iff_ne.2 f11;have aDc:(233009==A)=false:=beq_eq_false_iff_ne.2 (Ne.symm f11);have hg:(A==233019)=false:=beq_eq_false_iff_ne.2 f12;have aL6:(233019==A)=false:=beq_eq_false_iff_ne.2 (Ne.symm f12);have wz:(A==233022)=false:=beq_eq_false_iff_ne.2 f13;have aL7:(233022==A)=false:=beq_eq_false_iff_ne.2 (Ne.symm f13);have kE:(A==233043)=false:=beq_eq_false_iff_ne.2 f14;have aL8:(233043==A)=false:=beq_eq_false_iff_ne.2 (Ne.symm f14);have al6:(A==233051)=false:=beq_eq_false_iff_ne.2 f15;have aL9:(233051==A)=false:=beq_eq_false_iff_ne.2 (Ne.symm f15);have lH:(A==B)=false:=beq_eq_false_iff_ne.2 NO;have aMa:(B==A)=false:=beq_eq_false_iff_ne.2 (Ne.symm NO);have ic:(B==233009)=false:=beq_eq_false_iff_ne.2 f21;have aDd:(233009==B)=false:=beq_eq_false_iff_ne.2 (Ne.symm f21);have kr:(B==233019)=false:=beq_eq_false_iff_ne.2 f22;have aMb:(233019==B)=false:=beq_eq_false_iff_ne.2 (Ne.symm f22);have o5:(B==233022)=false:=beq_eq_false_iff_ne.2 f23;have aMc:(233022==B)=false:=beq_eq_false_iff_ne.2 (Ne.symm f23);have o6:(B==233043)=false:=beq_eq_false_iff_ne.2 f24;have aMd:(233043==B)=false:=beq_eq_false_iff_ne.2 (Ne.symm f24);have aMe:(B==233051)=false:=beq_eq_false_iff_ne.2 f25;have aMf:(233051==B)=false:=beq_eq_false_iff_ne.2 (Ne.symm f25);have a5:(A=233009)=False:=eq_false f11;have bX:(B=233009)=False:=eq_false f21;have cS:(B=A)=False:=eq_false (Ne.symm NO);have eC:(233019=A)=False:=eq_false (Ne.symm f12);have iD:(233019=B)=False:=eq_false (Ne.symm f22);have jh:(233022=A)=False:=eq_false (Ne.symm f13);have ir:(233022=B)=False:=eq_false (Ne.symm f23);have aDe:(233009=A)=False:=eq_false (Ne.symm f11);have aMg:(233009=B)=False:=eq_false (Ne.symm f21);have aMh:(A=B)=False:=eq_false NO;simp only[go_sem,go_sem_proc,bH,b5,Dz,DA,mG,M,eF,eU,cQ,dd,hK,iw,s1,s2,d1,ed,gb,cB,dA,UJ,Hb,fQ,aDc,wz,aDd,a5,bX,cS,eC,iD,jh,ir,aDe,bR,dY,bj];refine adb ?_;intro M2 fp
   have n8:∀k:Nat,k≠233009->k≠233019->k≠233022->k≠A->k≠B->M2 k=m k:=λk eK xh xf dV kp=>by
    rw[fp,dg xf,dg xh,dg kp,dg dV,dg eK,dg eK]
   have wj:M2 233019=some (0,bA (D h) λi=>if i=aq then .ref A (gc aq+1) 4 0 ((c7 l aq).length+1) else mh l gc i):=by
    rw[fp,dg (by decide),jg]
   have rp:M2 A=some (gc aq+1,aV bR (c7 l aq++[((aq:Int),c2,c3,c4)])):=by
    rw[fp,dg f13,dg f12,dg NO,jg]
   have NN:M2 233022=some (0,bA (D h) λi=>if i=aq then .ref B (eT aq+1) 1 0 ((c7 l aq).length+1) else pp l eT i):=by
    rw[fp,jg,ia]
   have Gd:M2 B=some (eT aq+1,aV hj (gD l aq++[D l])):=by
    rw[fp,dg f23,dg f22,jg]
   have jc:=bY.next (m':=M2) aM (c2:=c2) (c3:=c3) (c4:=c4) (gc aq+1) (eT aq+1) (by rw[dV];exact wj) (by rw[kp];exact NN) (by rw[dV];exact rp) (by rw[kp];exact Gd) λi Q b6=>⟨by
    obtain⟨cE,cO,ei,eS,wG,tE,-⟩:=Tc i Q;exact n8 _ cE cO ei (by omega) tE,by
    obtain⟨cE,cO,ei,eS,wG,tE,-⟩:=Td i Q;exact n8 _ cE cO ei tE (by omega)⟩
   have adv:M2 233057=none:=(n8 233057 (by decide) (by decide) (by decide) (Ne.symm f17) (Ne.symm f27)).trans kP;clear fp n8 wj rp NN Gd;refine ak ?_;repeat' (intro (ay:_=_)<;>simp only[ay,go_sem,go_sem_proc,bw,av,bH,b5,Dz,DA,mG,bG,adv]<;>try refine ai ?_ ?_)
   exact⟨(t+1,_,_),by dsimp only;omega,by dsimp only;omega,rfl,by rw[gm];exact jc⟩
 ·have d1:decide ((t:Int)<(D cs:Int))=false:=cl;rw[dp (by omega)] at bY;refine ak ?_;repeat' (intro (ay:_=_)<;>simp only[ay,go_sem,go_sem_proc,bw,av,bH,b5,Dz,DA,mG,d1]<;>try refine ai ?_ ?_)
  refine cZ _ _ gc eT ?_ ?_ ?_ ?_ kP bY<;>simp only[dk,cp,if_false,bw,av,bH,b5]
def zJ (l:List Nat):R:=if l=[] then .nil else .I (.X (l.map hj))
theorem aDf (l:List Nat):qP (zJ l)=some (D l):=by
 unfold zJ
 split
 ·rename_i h;rw[h];rfl
 ·simp[qP]
theorem aDg {l:List Nat}{n y:Nat}(h:l[n]?=some y):zR 1 n (zJ l)=some (.I (.ptr (hj y))):=by
 unfold zJ
 split
 ·rename_i aw;rw[aw] at h;cases h
 ·simp only[zR,bj,h,lu]
  rfl
theorem aDh (l:List aG)(n:Nat)(m:Mem):dz n m (ki l)=some (.X (l.map bR)):=by
 unfold ki
 split
 ·rename_i h;rw[h];exact arw n
 ·exact O8 n _
def JC (cs:List aG)(h:List Rat)(j:Nat):a7:=al (dC cs (h.getD (cs.getD j ju).1.toNat 0) (cs.getD j ju))
def qM (cs:List aG)(h:List Rat)(i t j:Nat):Option a7:=if (cs.getD j ju).1<(i:Int)\/((cs.getD j ju).1=(i:Int)/\j∈(gD cs i).take t) then some (JC cs h j) else none
theorem aDi (cs:List aG)(h:List Rat)(i:Nat):(bA (D cs) λj=>qM cs h i (gD cs i).length j)=bA (D cs) λj=>qM cs h (i+1) 0 j:=iC λj aA=>by
 unfold qM;rw[List.take_length,mU];have hm:=adr (l:=cs) (i:=i) (j:=j)
 by_cases G:(cs.getD j ju).1<(i:Int)
 ·rw[ad (.inl G),ad (.inl (by omega))]
 ·by_cases J:(cs.getD j ju).1=(i:Int)
  ·rw[ad (.inr ⟨J,hm.2 ⟨aA,J⟩⟩),ad (.inl (by omega))]
  ·rw[ag (λaY=>aY.elim G λx=>J x.1),ag (λaY=>aY.elim (by omega) λx=>by simpa using x.2)]
theorem aDj (cs:List aG)(h:List Rat)(aF:BG cs h):(bA (D cs) λj=>qM cs h 0 0 j)=bA (D cs) λ_=>none:=iC λj aA=>by
 have:=(aF.c _ (dn (bq aA))).1;have e:cs.getD j ju=cs[j]:=by rw[ep,bq aA];rfl
 unfold qM;rw[e,mU,ag (λaY=>aY.elim (by omega) λx=>by simpa using x.2)]
theorem aDk (cs:List aG)(h:List Rat)(aF:BG cs h):(bA (D cs) λj=>qM cs h (D h) 0 j)=(cs.map λc=>al (dC cs (h.getD c.1.toNat 0) c)).map some:=by
 refine (Nq (by simp) λj aA=>?_).symm;have:=(aF.c _ (dn (bq aA))).2.1;have e:cs.getD j ju=cs[j]:=by rw[ep,bq aA];rfl
 unfold qM;rw[bj,bj,bq aA,e,ad (.inl this)];unfold JC;rw[e];rfl
theorem aDl (T:bl){K:eI->bo->Prop}{kk:List fJ}(cs:List aG)(h:List Rat)(aF:BG cs h)(i:Nat)(Q:i<D h)(v1 sE anO anP anQ:R)(anR anS:Option (Nat×List R))(tm:Nat->R)(m:Mem)
  (av:tm 1=v1) (b5:tm 7=sE) (fq:tm 10=.ref 233057 0 4 0 (D cs)) (gu:tm 13=.I (.X (((c7 cs i).map λc=>al (dC cs (h.getD i 0) c)).map ar))) (zK:tm 58=anO) (qL:tm 59=anP) (l8:tm 60=anQ) (NP:tm 79=zJ (gD cs i)) (NQ:tm 80=.I (.int .i64 (gD cs i).length)) (NR:tm 81=.I (.int .i64 0)) (DB:m 233019=anR) (DD:m 233022=anS) (kP:m 233057=some (0,l7 qI (bA (D cs) λj=>qM cs h i 0 j)))
  (cZ:∀tm' m',tm' 1=v1->tm' 7=sE->tm' 10=.ref 233057 0 4 0 (D cs)->tm' 58=anO->tm' 59=anP->tm' 60=anQ->m' 233019=anR->m' 233022=anS->m' 233057=some (0,l7 qI (bA (D cs) λj=>qM cs h (i+1) 0 j))->cd T K kk (.exit 4) ⟨tm',m'⟩) :
  wp T (E5.body.sub [1,1,1,1,1,0,1,0,0,1,1,0,0,1,1,1,1,0]) (cd T K kk) ⟨tm,m⟩:=by
 simp only[E5,er.sub];have eP:=aF.len;have ia:=aC7 cs i;refine cU [1,7,10,13,58,59,60,79,80] [233019,233022] (λ(k:Nat) tm m=>k<=(gD cs i).length/\tm 81=.I (.int .i64 k)/\m 233057=some (0,l7 qI (bA (D cs) λj=>qM cs h i k j))) (λk=>(gD cs i).length-k) 0 (by refine⟨by omega,NR,kP⟩) ?_;intro vs ms aJ aH;simp only[go_sem,go_sem_proc,av,b5,fq,gu,zK,qL,l8,NP,NQ,DB,DD] at aJ aH;subst aJ aH;clear av b5 fq gu zK qL l8 NP NQ NR DB DD kP tm m;rintro k tm m L hm ⟨xI,NR,kP⟩;simp only[go_sem,go_sem_proc,bk] at L hm;obtain⟨av,b5,fq,gu,zK,qL,l8,NP,NQ⟩:=L;obtain⟨DB,DD⟩:=hm;rcases dc (k<(gD cs i).length) with az|b2
 ·have d1:decide ((k:Int)<((gD cs i).length:Int))=true:=cT;have bG:=ec (i:=k) (by omega);obtain⟨y,aj⟩:∃y,(gD cs i)[k]?=some y:=⟨_,bq az⟩;obtain⟨DX,anT⟩:=adr.1 (dn aj);have xD:=aDg aj;simp only[go_sem,go_sem_proc,dY] at xD
  have adw:((c7 cs i).map λc=>al (dC cs (h.getD i 0) c))[k]?=some (JC cs h y):=by
   rw[anL,bj,bj,aj];unfold JC;rw[anT,jE];rfl
  have Dr:=Sk (q:=λj=>qM cs h i k j) DX;have kF:=λa b c d=>Sl (q:=λj=>qM cs h i k j) DX a b c d
  have hd:∀aR:a7,aR=JC cs h y->(bA (D cs) λj=>if j=y then some aR else qM cs h i k j)=bA (D cs) λj=>qM cs h i (k+1) j:=λaR dG=>iC λj _=>by
   have gm:(gD cs i).take (k+1)=(gD cs i).take k++[y]:=by rw[gB,aj];rfl
   by_cases aA:j=y
   ·subst aA;rw[ad rfl];unfold qM;rw[gm,ad (.inr ⟨anT,by simp⟩),dG]
   ·rw[ag aA];unfold qM;rw[gm]
    by_cases G:(cs.getD j ju).1<(i:Int)\/((cs.getD j ju).1=(i:Int)/\j∈(gD cs i).take k)
    ·rw[ad G,ad (G.imp id λx=>⟨x.1,by simp[x.2]⟩)]
    ·rw[ag G,ag λaY=>G (aY.imp id λx=>⟨x.1,by simpa [aA] using x.2⟩)]
  have aM:=hd _ rfl;clear cZ;generalize ((c7 cs i).map λc=>al (dC cs (h.getD i 0) c))=yf at *;generalize JC cs h y=aR at *;obtain⟨⟨cE,cO⟩,⟨ei,eS⟩⟩:=aR;have dF:=kF cE cO ei eS;rw[aM] at dF;refine ak ?_;repeat' (intro (ay:_=_)<;>simp only[ay,go_sem,go_sem_proc,av,b5,fq,gu,zK,qL,l8,NP,NQ,NR,DB,DD,kP,d1,bG,xD,adw,Dr,dF,DX,hj,ar,dY,aE,bj]<;>try refine ai ?_ ?_)
  exact⟨k+1,by omega,by omega,rfl,rfl⟩
 ·have d1:decide ((k:Int)<((gD cs i).length:Int))=false:=cl;obtain rfl:k=(gD cs i).length:=by omega
  rw[aDi] at kP;refine ak ?_;repeat' (intro (ay:_=_)<;>simp only[ay,go_sem,go_sem_proc,av,b5,fq,gu,zK,qL,l8,NP,NQ,NR,d1]<;>try refine ai ?_ ?_)
  refine cZ _ _ ?_ ?_ ?_ ?_ ?_ ?_ DB DD kP<;>simp only[dk,cp,if_false,av,b5,fq,zK,qL,l8]
theorem aDm (n:Nat):(et n [R.nil]).flatten=bA n λ_ => .nil:=by
 induction n with
 |zero=>rfl
 |succ n aN=>rw[Nk,List.flatten_append,aN,adg];rfl
theorem aDn {a b:List Rat}(h:(a.map al).map ar=(b.map al).map ar):a=b:=map_inj (λ_ _ h=>Xu h) _ _ (map_inj np _ _ h)
abbrev adx:(List aG)×(List Rat)->List Data:=λ(cs,h)=>[.X (cs.map bR),.X ((h.map al).map ar)]
def NS:=cn adx λ(cs,h)=>cN (BG cs h) (.same (.c1 [.X ((cs.map λc=>al (dC cs (h.getD c.1.toNat 0) c)).map ar),.bool true]))
theorem aDo:∀a b,adx a=adx b->a=b:=by
  rintro⟨FO,G⟩ ⟨vy,J⟩ h;simp only[bk,Data.X.injEq,and_true] at h;exact dN (map_inj sx _ _ h.1) (aDn h.2)
@[go_sem] theorem anU (cs:List aG)(h:List Rat)(H:BG cs h):NS [.X (cs.map bR),.X ((h.map al).map ar)]=some (.same (.c1 [.X ((cs.map λc=>al (dC cs (h.getD c.1.toNat 0) c)).map ar),.bool true])):=(cz aDo (cs,h)).trans (cX H _)
theorem aDp (T:bl)(ady:T Vs=aQ adp)(cs:List aG)(h:List Rat)(H:BG cs h):WP T E5 (.same (.c1 [.X ((cs.map λc=>al (dC cs (h.getD c.1.toNat 0) c)).map ar),.bool true])) [.I (.X (cs.map bR)),.I (.X ((h.map al).map ar))]:=by
 refine cD ?_;simp only[E5];have aM:=H.n;have eP:=H.len;have Bb:(24*D h<=140737488355328)=True:=eq_true (by omega);have tt:(D h<=maxLen)=True:=eq_true (by unfold maxLen;omega);have adz:(64*D cs<=140737488355328)=True:=eq_true (by omega);have aDq:(D cs<=maxLen)=True:=eq_true (by unfold maxLen;omega);have a3:=aDm (D h);have RQ:=aci (D cs);rw[<-aDj cs h H] at RQ;simp only[go_sem,go_sem_proc,Bb,tt,a3,aE];refine aC9 T cs h H (.I (.X ((h.map al).map ar))) _ _ ?_ ?_ ?_ ?_ ?_ ?_ ?_ ?_ (λ_=>0) (λ_=>0) ⟨?_,?_,λi Q b6=>absurd rfl b6,λi Q b6=>absurd rfl b6⟩ ?_
 all_goals first|(intro tm m gc eT ev cB fj iy kP bY)|(simp only[dk,cp,if_false,if_true];done)|(simp only[dk,cp,if_false];rfl)|(simp only[a9,cp,if_false,if_true];rfl)|skip
 obtain⟨ea,G,J,af⟩:=S8 (λi=>233600+i) (λi=>ki (c7 cs i)) (λi Q=>by omega) (λi j _ _ he=>by omega) (D h) 0 (mh cs gc) m (by omega) bY.eF (λi Q=>by omega) λi _ Q=>by
  by_cases iR:c7 cs i=[]
  ·refine .inl ?_;unfold mh ki;rw[ad iR,ad iR]
  ·refine .inr ⟨gc i,4,(c7 cs i).length,aV bR (c7 cs i),.X ((c7 cs i).map bR),?_,bY.cB i Q iR,λb7 o0=>jU (n:=0) Dk o0,?_⟩
   ·unfold mh;rw[ag iR]
   ·unfold ki;rw[ag iR]
 have xf:ea 233022=some (0,bA (D h) (pp cs eT)):=(af 233022 (by decide) λi Q=>by omega).trans bY.eU;have anV:ea 233057=none:=(af 233057 (by decide) λi Q=>by omega).trans kP
 obtain⟨b7,cQ,dd,iK⟩:=S8 (λi=>233700+i) (λi=>zJ (gD cs i)) (λi Q=>by omega) (λi j _ _ he=>by omega) (D h) 0 (pp cs eT) ea (by omega) xf (λi Q=>by omega) λi _ Q=>by
  by_cases iR:c7 cs i=[]
  ·refine .inl ?_;have Ge:gD cs i=[]:=x3.1 (by rw[Ta,iR];rfl);unfold pp zJ;rw[ad iR,ad Ge]
  ·have Ge:gD cs i≠[]:=λaY=>iR (x3.1 (by rw[<-Ta,aY];rfl));refine .inr ⟨eT i,1,(c7 cs i).length,aV hj (gD cs i),.X ((gD cs i).map hj),?_,?_,λb7 o0=>by rw[<-Ta];exact jU (n:=0) uT o0,?_⟩
   ·unfold pp;rw[ag iR]
   ·exact (af (233700+i) (by omega) λj aA=>by omega).trans (bY.dA i Q iR)
   ·unfold zJ;rw[ag Ge]
 have Tg:b7 233019=some (0,bA (D h) λi=>ki (c7 cs i)):=(iK 233019 (by decide) λi Q=>by omega).trans J;have BH:b7 233057=none:=(iK 233057 (by decide) λi Q=>by omega).trans anV;simp only[go_sem,go_sem_proc];refine anw (G.trans cQ) ?_;clear G J af cQ iK xf anV bY kP;simp only[go_sem,go_sem_proc,ev,fj,adz,aDq,RQ,BH,aE];refine cU [1,7,10,58,59] [233019,233022] (λ(i:Nat) tm m=>i<=D h/\tm 60=.I (.int .i64 i)/\m 233057=some (0,l7 qI (bA (D cs) λj=>qM cs h i 0 j))) (λi=>D h-i) 0 (by refine⟨by omega,rfl,by simp[a9]⟩) ?_;intro vs ms aJ aH;simp only[go_sem,go_sem_proc,cB,iy,Tg,dd] at aJ aH;subst aJ aH;clear ev cB fj iy Tg BH dd tm m ea b7;rintro i tm m L hm ⟨Q,l8,kP⟩;simp only[go_sem,go_sem_proc,bk] at L hm;obtain⟨av,b5,fq,zK,qL⟩:=L;obtain⟨DB,DD⟩:=hm;rcases dc (i<D h) with az|b2
 ·have d1:decide ((i:Int)<(D h:Int))=true:=cT;have bG:=ec (i:=i) (by omega);obtain⟨x,M⟩:∃x,h[i]?=some x:=⟨_,bq az⟩;have HX:h.getD i 0=x:=by rw[ep,M];rfl
  have qq:=H.x x (dn M)
  have p7:lf (c7 cs i):=⟨e4 (pc _ _) eP,λc fs=>by
   have G:=H.c c (Dt.1 fs).1;omega,λc fs c' aDr=>by rw[(Dt.1 fs).2,(Dt.1 aDr).2]⟩
  have dG:=aC4 x (c7 cs i) ⟨p7,qq.1,qq.2⟩;rw[amj,<-HX] at dG;rw[<-HX] at M;have eF:=wK (jf (λi=>ki (c7 cs i)) az);have eU:=wK (jf (λi=>zJ (gD cs i)) az);have hK:(bA (D h) λi=>ki (c7 cs i)).length=D h:=fZ _ _;have iw:(bA (D h) λi=>zJ (gD cs i)).length=D h:=fZ _ _;have ed:i+1<=D h:=by omega
  have vN:=aDh (c7 cs i) 6;have anW:=aDf (gD cs i);simp only[go_sem,go_sem_proc] at anW;generalize ku:al (h.getD i 0)=bu at *;obtain⟨⟨cE,cO⟩,⟨ei,eS⟩⟩:=bu;simp only[ar] at dG;simp only[go_sem,go_sem_proc,ady,av,b5,zK,qL,l8,DB,DD,d1,eF,eU,hK,iw,ed,az,M,ku,vN,dG,anW,ar,dY,bj,bne,beq_self_eq_true,cw];refine aDl T cs h H i az (.I (.X ((h.map al).map ar))) (.ref 233022 0 1 0 (D h)) (.ref 233019 0 1 0 (D h)) (.I (.int .i64 (D h))) (.I (.int .i64 i)) _ _ _ _ ?_ ?_ ?_ ?_ ?_ ?_ ?_ ?_ ?_ ?_ DB DD kP ?_
  all_goals first|(intro tm' m' cB iy oy aDs aDt aDu Tg aDv BH)|(simp only[dk,cp,if_false,if_true,av,b5,fq,zK,qL,l8];done)
  refine ak ?_;repeat' (intro (ay:_=_)<;>simp only[ay,go_sem,go_sem_proc,ady,cB,iy,oy,aDs,aDt,aDu,Tg,aDv,BH,bG]<;>try refine ai ?_ ?_)
  exact⟨i+1,by omega,by omega,rfl,rfl⟩
 ·have d1:decide ((i:Int)<(D h:Int))=false:=cl;obtain rfl:i=D h:=by omega
  rw[aDk cs h H,acj] at kP;have ke:=λ(K:bo->Prop) (st:bo)=>oW (K:=K) (st:=st) iT 10 233057 0 (cs.map λc=>al (dC cs (h.getD c.1.toNat 0) c));rw[aE] at ke;refine ak ?_;repeat' (intro (ay:_=_)<;>simp only[ay,go_sem,go_sem_proc,ady,av,b5,fq,zK,qL,l8,d1,kP,ke,aE]<;>try refine ai ?_ ?_)
end Go.Mini
namespace Go.Mini
open Classical
def yg (cs:List aG)(x:Nat->Rat)(i:Nat)(acc:Option Rat)(c:aG):Option Rat :=
 if c.2.1=(i:Int) then acc.bind λs=>if l0 s (dC cs (x c.1.toNat) c)=true then some (s+dC cs (x c.1.toNat) c) else none else acc
def n9 (E:List Int)(cs:List aG)(x:Nat->Rat)(i:Nat)(l:List aG):Option Rat:=l.foldl (yg cs x i) (some ((E.getD i 0:Int):Rat))
theorem adA (E:List Int)(cs:List aG)(x:Nat->Rat)(i:Nat):n9 E cs x i []=some ((E.getD i 0:Int):Rat):=rfl
theorem Gj (E:List Int)(cs:List aG)(x:Nat->Rat)(i:Nat)(l:List aG)(c:aG):n9 E cs x i (l++[c])=yg cs x i (n9 E cs x i l) c:=by
 unfold n9;rw[anX];rfl
theorem aDw (cs:List aG)(x:Nat->Rat)(i:Nat)(l:List aG):l.foldl (yg cs x i) none=none:=by
 induction l with
 |nil=>rfl
 |cons c l aN =>
  have:yg cs x i none c=none:=by unfold yg;split<;>rfl
  rw[List.foldl_cons,this,aN]
theorem anY {E:List Int}{cs:List aG}{x:Nat->Rat}{i:Nat}{l:List aG}(h:n9 E cs x i l=none)(m:List aG):n9 E cs x i (l++m)=none:=by
 unfold n9 at *;rw[anX,h,aDw]
def vc (E:List Int)(cs:List aG)(x:Nat->Rat)(i:Nat)(l:List aG):Rat:=((E.getD i 0:Int):Rat)+b3 (l.map cg) λc=>if c.to=(i:Int) then (ao E cs).la x c else 0
theorem aDx {E:List Int}{cs:List aG}(h:hk E cs=true)(x:Nat->Rat)(i:Nat)(l:List aG){c:aG}(H:c∈cs):vc E cs x i (l++[c])=vc E cs x i l+if c.2.1=(i:Int) then dC cs (x c.1.toNat) c else 0:=by
 unfold vc;rw[js,MW,<-acd h x H];show _+(_+((if (cg c).to=(i:Int) then (ao E cs).la x (cg c) else 0)+0))=_;have e:(cg c).to=c.2.1:=rfl;rw[e,iX];grind
def Gk (E:List Int)(cs:List aG)(x:Nat->Rat):Prop:=∀i,i<(D E)->n9 E cs x i cs=some (x i)
section
variable {E:List Int} {cs:List aG} (U:fV E cs)
include U
theorem aDy:0<nY (D E) (wE E cs)/\nY (D E) (wE E cs)<=2^145:=by
 refine⟨aba λk L=>alm U L,e4 (abc λk _=>aln U k) (Nat.pow_le_pow_right (by omega) ?_)⟩;have:=U.hE;omega
theorem aDz:∃bn:Nat,0<bn/\(∃a,a<=547/\bn<=2^a)/\(∀i,i<(D E)->ft bn ((ao E cs).b1 i))/\∀c∈cs,ft bn ((ao E cs).la (ao E cs).b1 (cg c)):=by
 obtain⟨bn,G,⟨a,J,af⟩,aT⟩:=alk U;obtain⟨ic,kr⟩:=aDy U;refine⟨bn*nY (D E) (wE E cs),Nat.mul_pos G ic,⟨a+145,by omega,by rw[Nat.pow_add];exact Nat.mul_le_mul af kr⟩,λi Q=>(aT i Q).more _,λc H=>?_⟩
 have bx:=alo U aT H;have L:(cg c).aK<D E:=U.ok.aK _ (Bl H);refine bx.of_dvd ?_;obtain⟨m,hm⟩:=abd (c9:=wE E cs) L;exact⟨m,by rw[hm,Nat.mul_assoc]⟩
theorem aDA {i:Nat}(Q:i<D E){l fI:List aG}(aw:cs=l++fI):eA 598 (vc E cs (ao E cs).b1 i l):=by
 obtain⟨bn,G,⟨a,J,af⟩,-,aT⟩:=aDz U
 have I5:∀m:List aG,(∀c∈m,c∈cs)->0<=b3 (m.map cg) λc=>if c.to=(i:Int) then (ao E cs).la (ao E cs).b1 c else 0:=λm hm=>zn λy aj=>by
  obtain⟨c,H,rfl⟩:=fO.1 aj
  try dsimp only
  split
  ·exact U.ok.ajX _ (Bl (hm c H))
  ·exact Rat.le_refl
 have Ls:∀c∈l,c∈cs:=λc H=>by rw[aw];simp[H]
 have o0:∀c∈fI,c∈cs:=λc H=>by rw[aw];simp[H]
 have ix:(0:Rat)<=((E.getD i 0:Int):Rat):=by have:=(U.E i).1;exact_mod_cast this
 have ab:ft bn (vc E cs (ao E cs).b1 i l):=by
  unfold vc;refine (ft.int _ _).add (ft.b3 λy aj=>?_);obtain⟨c,H,rfl⟩:=fO.1 aj
  split
  ·exact aT c (Ls c H)
  ·exact ft.zero _
 have ax:0<=vc E cs (ao E cs).b1 i l:=by
  have:=I5 l Ls;unfold vc;grind
 have hle:vc E cs (ao E cs).b1 i l<=(ao E cs).b1 i:=by
  rw[(R1 U.ok).1 i Q]
  have e:(ao E cs).FC (ao E cs).b1 i=vc E cs (ao E cs).b1 i l+b3 (fI.map cg) λc=>if c.to=(i:Int) then (ao E cs).la (ao E cs).b1 c else 0:=by
   have aB:(ao E cs).FC (ao E cs).b1 i=((E.getD i 0:Int):Rat)+b3 (cs.map cg) λc=>if c.to=(i:Int) then (ao E cs).la (ao E cs).b1 c else 0:=rfl;rw[aB];unfold vc;have bp:b3 (cs.map cg) (λc=>if c.to=(i:Int) then (ao E cs).la (ao E cs).b1 c else 0)=b3 ((l++fI).map cg) λc=>if c.to=(i:Int) then (ao E cs).la (ao E cs).b1 c else 0:=by rw[<-aw]
   rw[bp,js,MW];grind
  have:=I5 fI o0;grind
 exact (ab.sz G af ax (e:=51) (Rat.le_trans hle (azM U Q))).mono (by omega)
theorem aDB:Gk E cs (ao E cs).b1:=λi Q=>by
 have key:∀n (l fI:List aG),D l=n->cs=l++fI->n9 E cs (ao E cs).b1 i l=some (vc E cs (ao E cs).b1 i l):=by
  intro n
  induction n with
  |zero =>
   intro l fI aw _;have:l=[]:=x3.1 aw;subst this;rw[adA];unfold vc;rw[cC,b3,iX]
  |succ n aN =>
   intro l fI aw jj;rcases yN l with ax|⟨m,c,rfl⟩
   ·subst ax;cases aw
   ·rw[yO] at *;simp only[fX,sg] at aw;have H:c∈cs:=by rw[jj];simp
    have fs:cs=m++([c]++fI):=by rw[jj,List.append_assoc]
    rw[Gj,aDx U.right _ i m H,aN m _ (by omega) fs];unfold yg
    by_cases Gc:c.2.1=(i:Int)
    ·rw[ad Gc,ad Gc,yH,ad];refine zq (aDA U Q fs) (b:=482) ?_ (by omega);rw[<-acd U.right _ H];exact alp U H
    ·rw[ag Gc,ag Gc,iX]
 have G:=key _ cs [] rfl (by simp);rw[G,(R1 U.ok).1 i Q]
 rfl
end
end Go.Mini
namespace Go.Mini
open Go
theorem anZ (x:Rat):x*(x.den:Rat)=(x.num:Rat):=by
 have h:(Rat.divInt x.num x.den)=x:=Rat.num_divInt_den x;rw[Rat.divInt_eq_div] at h;have ax:((x.den:Int):Rat)≠0:=by have:=x.den_nz;exact_mod_cast this
 have J:(x.num:Rat)/((x.den:Int):Rat)*((x.den:Int):Rat)=(x.num:Rat):=Rat.div_mul_cancel ax;rw[h,nW] at J;exact J
theorem an0 {x y:Rat}(h:l0 x y=true):dx (x+y):=by
 unfold l0 at h;simp only[fw] at h;obtain⟨-,-,af,aT⟩:=h
 have ab:((x.den:Int)*y.den)≠0:=by
  have G:=x.den_nz;have J:=y.den_nz;exact Int.mul_ne_zero (by omega) (by omega)
 have e:(x+y)*(((x.den:Int)*y.den:Int):Rat)=((x.num*y.den+y.num*x.den:Int):Rat):=by
  have av:x*(x.den:Rat)=(x.num:Rat):=anZ x;have aB:y*(y.den:Rat)=(y.num:Rat):=anZ y;rw[Bj,sq,sq,sq,nW,nW,<-av,<-aB];grind
 obtain⟨f1,f2⟩:=Dd ab e;have:=oD af;have:=oD aT;exact⟨by omega,by omega⟩
theorem aDC {x y:Rat}(M:dx x)(aj:dx y):AR [.agg (ar (al x)),.agg (ar (al y))]=some (.same (.c1 [.agg (ar (uG (l0 x y) (x+y)).1),.int .i64 (uG (l0 x y) (x+y)).2])):=by
 have G:=jY M;have J:=jY aj;have:=ahO (al x).1.1 (al x).1.2 (al x).2.1 (al x).2.2 (al y).1.1 (al y).1.2 (al y).2.1 (al y).2.2 ⟨G.1,G.2,J.1,J.2⟩;exact this.trans (by show some (eL.same (cG (oC (al x) (al y))))=_;rw[Qe M aj];rfl)
theorem aDD {x y:Rat}(M:dx x)(aj:dx y):LZ [.agg (ar (al x)),.agg (ar (al y))]=some (.same (.c1 [.agg (ar (uG (l0 x y) (x+y)).1),.int .i64 (uG (l0 x y) (x+y)).2])):=by
 have G:=jY M;have J:=jY aj;have:=avz (al x).1.1 (al x).1.2 (al x).2.1 (al x).2.2 (al y).1.1 (al y).1.2 (al y).2.1 (al y).2.2 ⟨G.1,G.2,J.1,J.2⟩;exact this.trans (by show some (eL.same (cG (oC (al x) (al y))))=_;rw[Qe M aj];rfl)
def adB:=cn tg λ(s,l,s2,aa,bK,bh,bL,br)=>cN (D l<=1000000/\D aa<=1000000/\D bh<=1000000/\D br<=1000000) (.same (.bool (k7 ((s,l),(s2,aa)) ((bK,bh),(bL,br))==0)))
@[go_sem] theorem aMi (s:Int)(l:List Int)(s2:Int)(aa:List Int)(bK:Int)(bh:List Int)(bL:Int)(br:List Int)(H:(D l)<=1000000/\D aa<=1000000/\D bh<=1000000/\D br<=1000000):adB [.agg [.int .i64 s,.X (l.map ae),.int .i64 s2,.X (aa.map ae)],.agg [.int .i64 bK,.X (bh.map ae),.int .i64 bL,.X (br.map ae)]]=some (.same (.bool (k7 ((s,l),(s2,aa)) ((bK,bh),(bL,br))==0))):=(cz vU (s,l,s2,aa,bK,bh,bL,br)).trans (cX H _)
theorem aDE (T:bl)(kJ:T pF=aQ vY)(s:Int)(l:List Int)(s2:Int)(aa:List Int)(bK:Int)(bh:List Int)(bL:Int)(br:List Int)(H:(D l)<=1000000/\D aa<=1000000/\D bh<=1000000/\D br<=1000000):WP T XU (.same (.bool (k7 ((s,l),(s2,aa)) ((bK,bh),(bL,br))==0))) [.I (.agg [.int .i64 s,.X (l.map ae),.int .i64 s2,.X (aa.map ae)]),.I (.agg [.int .i64 bK,.X (bh.map ae),.int .i64 bL,.X (br.map ae)])]:=by
 refine cD ?_;simp only[XU];obtain⟨lE,lF,tj,tk⟩:=H;refine ak ?_;repeat' (intro h<;>simp only[h,go_sem,go_sem_proc,kJ,lE,lF,tj,tk]<;>try refine ai ?_ ?_)
def ma:List a7->List a7->Bool
 | [],[]=>true
 |a::l,b::m=>(k7 a b==0)&&ma l m
 |_,_=>false
theorem an1:∀(a b:List a7),(D a)≠(D b)->ma a b=false
 | [],[],h=>absurd rfl h
 | [],_::_,_=>rfl
 |_::_,[],_=>rfl
 |a::l,b::m,h=>by
  unfold ma;rw[an1 l m (by simpa using h),jB]
theorem aDF {a b:List a7}{i:Nat}{x y:a7}(aW:a[i]?=some x)(ah:b[i]?=some y)(h:ma (a.take i) (b.take i)=true)(H:(k7 x y==0)=false):ma a b=false:=by
 induction i generalizing a b with
 |zero =>
  cases a with
  |nil=>cases aW
  |cons a l =>
   cases b with
   |nil=>cases ah
   |cons b m =>
    simp only[Cc,cL] at aW ah;subst aW ah;rw[ma,H,eR]
 |succ i aN =>
  cases a with
  |nil=>cases aW
  |cons a l =>
   cases b with
   |nil=>cases ah
   |cons b m =>
    simp only[NI] at aW ah;rw[sW,sW,ma,fw] at h;rw[ma,aN aW ah h.2,jB]
theorem aDG {a b:List a7}{i:Nat}{x y:a7}(aW:a[i]?=some x)(ah:b[i]?=some y)(h:ma (a.take i) (b.take i)=true)(H:(k7 x y==0)=true):ma (a.take (i+1)) (b.take (i+1))=true:=by
 induction i generalizing a b with
 |zero =>
  cases a with
  |nil=>cases aW
  |cons a l =>
   cases b with
   |nil=>cases ah
   |cons b m =>
    simp only[Cc,cL] at aW ah;subst aW ah;simp[ma,H]
 |succ i aN =>
  cases a with
  |nil=>cases aW
  |cons a l =>
   cases b with
   |nil=>cases ah
   |cons b m =>
    simp only[NI] at aW ah;rw[sW,sW,ma,fw] at h;rw[sW,sW,ma,h.1,aN aW ah h.2];rfl
abbrev adC:(List a7)×(List a7)->List Data:=λ(a,b)=>[.X (a.map ar),.X (b.map ar),.fn Hp []]
def adD:=cn adC λ(a,b)=>cN (hC a/\hC b) (.same (.bool (ma a b)))
theorem aDH:∀a b,adC a=adC b->a=b:=by
  rintro⟨cE,c0⟩ ⟨cO,ee⟩ h;simp only[bk,Data.X.injEq,and_true] at h;exact dN (map_inj np _ _ h.1) (map_inj np _ _ h.2)
@[go_sem] theorem aDI (a:List a7)(b:List a7)(H:hC a/\hC b):adD [.X (a.map ar),.X (b.map ar),.fn Hp []]=some (.same (.bool (ma a b))):=(cz aDH (a,b)).trans (cX H _)
theorem aDJ (T:bl)(Th:T Hp=aQ adB)(a:List a7)(b:List a7)(H:hC a/\hC b):WP T V8 (.same (.bool (ma a b))) [.I (.X (a.map ar)),.I (.X (b.map ar)),.I (.fn Hp [])]:=by
 refine cD ?_;simp only[V8];obtain⟨⟨aW,aDK⟩,⟨ah,aDL⟩⟩:=H;rcases aw:((D a:Int)==(D b:Int))
 ·rw[an1 a b (by have:=ne_of_beq_false aw;omega)];refine ak ?_;repeat' (intro h<;>simp only[h,go_sem,go_sem_proc,Th,aw,aE,bne,db]<;>try refine ai ?_ ?_)
 ·have hle:(D a)=D b:=by have:=eq_of_beq aw;omega
  simp only[go_sem,go_sem_proc,aw,aE,bne,cw];refine cU [1,2,15,16] [] (λ(i:Nat) tm mem=>i<=D a/\ma (a.take i) (b.take i)=true/\tm 17=.I (.int .i64 i)) (λi=>D a-i) 0 (by refine⟨fm _,by simp[ma],rfl⟩) ?_;intro vs ms aJ aH;simp only[go_sem,go_sem_proc] at aJ aH;subst aJ aH;rintro i tm mem L hm ⟨Q,dB,o7⟩;simp only[go_sem,go_sem_proc,bk] at L hm;obtain⟨av,aB,kj,uR⟩:=L;rcases dc (i<D a) with az|b2
  ·have d1:decide ((i:Int)<(D a:Int))=true:=cT;have bG:=ec (i:=i) (by omega);obtain⟨x,M⟩:∃x,a[i]?=some x:=⟨_,bq az⟩;obtain⟨y,aj⟩:∃x,b[i]?=some x:=⟨_,bq (by omega)⟩;obtain⟨lE,lF⟩:=aDK x (dn M);obtain⟨tj,tk⟩:=aDL y (dn aj);have dF:=λH=>aDF M aj dB H;have gm:=λH=>aDG M aj dB H;obtain⟨⟨cE,cO⟩,⟨ei,eS⟩⟩:=x;obtain⟨⟨c0,ee⟩,⟨gz,gW⟩⟩:=y;dsimp only at lE lF tj tk;rcases q:(k7 ((cE,cO),(ei,eS)) ((c0,ee),(gz,gW))==0)
   ·rw[dF q];refine ak ?_;repeat' (intro h<;>simp only[h,go_sem,go_sem_proc,Th,av,aB,kj,uR,o7,M,aj,d1,bG,lE,lF,tj,tk,q,ar,aE,bj,db]<;>try refine ai ?_ ?_)
   ·refine ak ?_;repeat' (intro h<;>simp only[h,go_sem,go_sem_proc,Th,av,aB,kj,uR,o7,M,aj,d1,bG,lE,lF,tj,tk,q,ar,aE,bj,cw]<;>try refine ai ?_ ?_)
    exact⟨i+1,by omega,by omega,gm q,rfl⟩
  ·have d1:decide ((i:Int)<(D a:Int))=false:=cl;rw[dp (by omega),dp (by omega)] at dB;rw[dB];refine ak ?_;repeat' (intro h<;>simp only[h,go_sem,go_sem_proc,Th,av,aB,kj,uR,o7,d1,aE]<;>try refine ai ?_ ?_)
theorem aDM {α:Type}(p:α->Bool)(l:List α)(k:Nat)(L:k<D l)(h:∀j (aA:j<k),p (l[j]'(by omega))=false)(J:p l[k]=true):oE p l=k :=
 CQ (λx M=>by
  obtain⟨j,aA⟩:=List.mem_iff_getElem?.1 M;rw[List.getElem?_take] at aA
  by_cases fY:j<k
  ·rw[ad fY,bq (by omega),cL] at aA;rw[<-aA];exact h j fY
  ·rw[ag fY] at aA;cases aA) (bq L) J
theorem an2 {d:Day}{h:Nat->Rat}{i:Nat}:∀k,k<=10->d.h4 h i k<10->(∀j,10-k<=j->j<d.h4 h i k->d.bI i (j+1)<=h i)/\h i<d.bI i (d.h4 h i k+1)/\10-k<=d.h4 h i k
 |0,_,G=>by rw[Day.h4] at G;omega
 |k+1,L,G=>by
  rw[Day.h4] at G ⊢
  by_cases H:h i<d.bI i (10-(k+1)+1)
  ·rw[ad H] at G ⊢;exact⟨λj J af=>by omega,H,cH _⟩
  ·rw[ag H] at G ⊢;obtain⟨cB,dA,ek⟩:=an2 k (by omega) G;refine⟨λj J af=>?_,dA,by omega⟩
   by_cases aA:j=10-(k+1)
   ·rw[aA];grind
   ·exact cB j (by omega) af
theorem aDN {E:List Int}{cs:List aG}(U:fV E cs)(h:Nat->Rat)(n i:Nat)(Q:i<n)(hP:dx (h i))(aC:(ao E cs).h4 h i 10<10):oE (kK (.solve (cK n h) i)) (bA 10 λk=>b4 cs i (k+1:Nat))=((ao E cs).h4 h i 10:Int):=by
 obtain⟨G,J,af⟩:=an2 10 (cH _) aC;have ns:=λk:Nat=>U.upto i k
 have aF:∀k:Nat,kK (.solve (cK n h) i) (b4 cs i (k+1:Nat))=decide (h i<(ao E cs).bI i (k+1)):=λk=>by
  have ab:(cK n h).getD i dD=al (h i):=by rw[ep,pY h Q];rfl
  have n2:dr (b4 cs i (k+1:Nat)):=iB (by have:=ns (k+1);omega) (by have:=ns (k+1);omega);simp only[kK];rw[ab,LM hP (oI n2),R5,pX U.right]
 refine aDM _ _ _ (by rw[fZ];exact aC) (λj aA=>?_) ?_
 ·have e:=jf (λk=>b4 cs i (k+1:Nat)) (show j<10 by omega);rw[bq (by rw[fZ];omega),cL] at e;rw[e,aF];exact h7 (by have:=G j (by omega) aA;grind)
 ·have e:=jf (λk=>b4 cs i (k+1:Nat)) aC;rw[bq (by rw[fZ];omega),cL] at e;rw[e,aF];exact jw J
def dy.wf (a:dy)(f:Nat->Nat):dy:={ a with aI:=bA (D a.E) λi=>(f i:Int) }
theorem dy.adE (a:dy)(f:Nat->Nat){i:Nat}(Q:i<D a.E):(a.wf f).gR i=(a.gR i).x8 (f i):=by
 have:(bA (D a.E) λi=>(f i:Int)).getD i 10=(f i:Int):=BC _ _ Q;unfold dy.gR dy.wf oJ.x8;dsimp only;rw[this]
theorem dy.e6.aDO {a:dy}{m:Mem}{f:Nat->Nat}(h:(a.wf f).e6 m){i:Nat}(Q:i<D a.E)(r:Nat):(a.wf λj=>if j=i then r else f j).e6 (a9 m (228500+i) (a.gs.getD i 0) (fW ((a.gR i).x8 r))):=by
 refine⟨h.can,fZ _ _,h.pl,h.Sv,?_,λj aA=>?_⟩
 ·have:=h.row;simp only[a9];rw[ag (show ¬ ((228023:Nat)=228500+i) by omega)];exact this
 ·rw[dy.adE a _ aA];simp only[a9]
  by_cases kW:j=i
  ·subst kW;rw[ad rfl,ad rfl]
   rfl
  ·rw[ag (show ¬ ((228500+j:Nat)=228500+i) by omega),ag kW];have:=h.eo j aA;rw[dy.adE a _ aA] at this;exact this
theorem dy.Ti (a:dy){p q:Nat->Nat}(h:∀i,i<(D a.E)->p i=q i):a.wf p=a.wf q:=by
 unfold dy.wf;rw[iC λi Q=>by rw[h i Q]]
theorem aDP {n i:Nat}(f:Nat->Nat)(h:i<n):bb (bA n λi=>(f i:Int)) i=f i:=by
 unfold bb;rw[BC _ _ h,jE]
theorem aDQ {x:oJ}(h:x.dO){k g:Nat}{m:Mem}(hm:m k=some (g,fW x))(n:Nat):dz (n+1) m (.ref k g 1 12 10)=some (.X (x.us.tail.map ae)):=by
 have e:cut (fW x) 12 10=some (x.us.tail.map dR):=by
  unfold cut;rw[ad (by rw[Dv h];omega)]
  congr 1
  obtain⟨c,dI,us,f,p⟩:=x;obtain⟨G,J⟩:=h;dsimp only at G J
  cases us with
  |nil=>cases J
  |cons u us =>
   have aw:(D us)=10:=by simpa using J
   unfold fW;dsimp only;rw[Dw,List.drop_append,List.drop_eq_nil_of_le (by rw[aE];omega),aE,G,List.nil_append,ey];rw[show 11-10=1 from rfl,List.cons_append,Dw,nD,List.take_append_of_le_length (by rw[aE];omega),dp (by rw[aE];omega)]
   rfl
 have aB:∀l:List Int,(l.map dR).mapM (dz n m)=some (l.map λz=>Data.int .i64 z):=by
  intro l
  induction l with
  |nil=>rfl
  |cons a l aN =>
   rw[ey,ny,aN];rw[show dz n m (dR a)=some (.int .i64 a) from O8 n _]
   rfl
 have bp:∀l:List Int,chunk 1 (D l) (l.map λz=>Data.int .i64 z)=l.map ae:=by
  intro l
  induction l with
  |nil=>rfl
  |cons a l aN=>simp only[jO,ey,chunk,sW,mU,Dw,nD,aN];rfl
 have aw:(D x.us.tail)=10:=by rw[List.length_tail,h.us]
 unfold dz;rw[hm];dsimp only;rw[ad rfl,dY,e];dsimp only;rw[aB];have:=bp x.us.tail;rw[aw] at this;rw[lu,this]
theorem dy.e6.up {a:dy}{m:Mem}(h:a.e6 m)(aM:(D a.E)<=5){k g:Nat}{cs:List R}(L:k/1000≠228):a.e6 (a9 m k g cs) :=
 ⟨h.can,h.aI,h.pl,h.Sv,by rw[dg (by omega)];exact h.row,λi Q=>by rw[dg (by omega)];exact h.eo i Q⟩
theorem aDR {α:Type}(n:Nat)(q:Nat->α):(bA (n+1) q).tail=bA n λk=>q (k+1):=by
 unfold bA;rw[List.range_succ_eq_map,ey,List.tail_cons,oj]
 rfl
theorem an3 {m:Mem}{k g:Nat}{d:Data}(hm:m k=some (g,[.I d]))(n:Nat):dz (n+1) m (.ptr k g 0)=some (.ptr [d]):=by
 unfold dz;rw[hm];dsimp only;rw[ad ⟨rfl,fm _⟩,nD,ny,O8]
 rfl
theorem adF (n k g sz o l:Nat):dz (n+1) emp (.ref k g sz o l)=none:=by
 unfold dz;rfl
def wO (d:Day)(f:Nat->Nat)(h:Nat->Rat)(i j:Nat):Nat:=if j<i then d.ez f h j else f j
theorem aDS (T:bl)(iE:T ou=aQ u3)(kJ:T pF=aQ vY)(zB:T Ev=aQ Jh){K:eI->bo->Prop}{kk:List fJ}(a:dy)(U:fV a.E a.cs)(f:Nat->Nat)(aC:∀i,i<(D a.E)->f i<=10)(h:Nat->Rat)(hP:∀i,i<(D a.E)->dx (h i))(ax:∀i,i<(D a.E)->0<=h i)(jl:Mem)(v1 v4 sE:R)(NT adG:Nat)(tm:Nat->R)(m:Mem)
  (av:tm 1=v1) (bM:tm 4=v4) (bH:tm 6=.ref 228023 a.g 1 0 (D a.E)) (b5:tm 7=sE) (df:tm 8=.ptr 217008 NT 0) (fq:tm 10=.ref 217057 adG 1 0 0) (kM:tm 31=.ref 228023 a.g 1 0 (D a.E)) (kN:tm 32=.I (.int .i64 (D a.E))) (JD:tm 33=.I (.int .i64 0))
  (bY:(a.wf f).e6 m) (sd:jl 217008=some (NT,[.I (.X ((cK (D a.E) h).map ar))])) (kP:m 217057=some (adG,[])) (bD:∀k,k/1000≠228->k≠217011->k≠217057->m k=jl k)
  (cZ:∀tm' m' eg,tm' 1=v1->tm' 4=v4->tm' 6=.ref 228023 a.g 1 0 (D a.E)->tm' 7=sE->tm' 8=.ptr 217008 NT 0->tm' 10=.ref 217057 eg 1 0 (n3 (ao a.E a.cs) f h (D a.E)).length->m' 217057=some (eg,aV hj (n3 (ao a.E a.cs) f h (D a.E)))->(a.wf ((ao a.E a.cs).ez f h)).e6 m'->(∀k,k/1000≠228->k≠217011->k≠217057->m' k=jl k)->cd T K kk (.exit 2) ⟨tm',m'⟩) :
  wp T (E4.body.sub [1,1,1,1,0,0,0,0,1,1,1,0,1,0,0]) (cd T K kk) ⟨tm,m⟩:=by
 simp only[E4,er.sub];have aM:=U.hE;have ab:=U.ok
 refine cU [1,4,6,7,8,31,32] [] (λ((i,g):Nat×Nat) tm m=>i<=D a.E/\tm 33=.I (.int .i64 i)/\tm 10=.ref 217057 g 1 0 (n3 (ao a.E a.cs) f h i).length/\m 217057=some (g,aV hj (n3 (ao a.E a.cs) f h i))/\(a.wf (wO (ao a.E a.cs) f h i)).e6 m/\∀k,k/1000≠228->k≠217011->k≠217057->m k=jl k) (λ(i,_)=>D a.E-i) (0,adG) (by
  refine⟨by omega,JD,fq,kP,?_,bD⟩
  rw[a.Ti (q:=f) λj _=>by unfold wO;rw[ag (by omega)]]
  exact bY) ?_
 intro vs ms aJ aH;simp only[go_sem,go_sem_proc,av,bM,bH,b5,df,kM,kN] at aJ aH;subst aJ aH;clear av bM bH b5 df fq kM kN JD bY kP bD tm m;rintro⟨i,g⟩ tm m L-⟨Q,JD,fq,kP,bY,bD⟩;simp only[go_sem,go_sem_proc,bk] at L;obtain⟨av,bM,bH,b5,df,kM,kN⟩:=L;rcases dc (i<D a.E) with az|b2
 ·have d1:decide ((i:Int)<(D a.E:Int))=true:=cT;have bG:=ec (i:=i) (by omega);have tI:=aC i az;have sD:wO (ao a.E a.cs) f h i i=f i:=by unfold wO;rw[ag (by omega)]
  have gd:m 228023=some (a.g,bA (D a.E) λi => .ptr (228500+i) (a.gs.getD i 0) 0):=bY.row;have gh:m (228500+i)=some (a.gs.getD i 0,_):=bY.eo i az;rw[dy.adE a _ az,sD] at gh;have FZ:=(bD 217008 (by decide) (by decide) (by decide)).trans sd;have j7:=wK (jf (λi=>R.ptr (228500+i) (a.gs.getD i 0) 0) az);have cm:(bA (D a.E) λi=>R.ptr (228500+i) (a.gs.getD i 0) 0).length=D a.E:=fZ _ _;have cM:((a.gR i).x8 (f i)).dO:=⟨(a.x9 i).dI,(a.x9 i).us⟩;have hlen:=Dv cM;have qK:List.take 1 (List.drop 22 (fW ((a.gR i).x8 (f i))))=[dR (f i:Int)]:=Nv cM;have Bx:=Nu cM (k:=f i) (z:=b4 a.cs i (f i:Nat)) (jf _ (by omega));have e7:_=fW ((a.gR i).x8 ((ao a.E a.cs).h4 h i 10)):=aAZ cM ((ao a.E a.cs).h4 h i 10:Nat);have ed:i+1<=D a.E:=by omega
  have aa:f i<11:=by omega
  have bh:(11+f i+1<=24)=True:=eq_true (by omega);have ns:=U.upto i (f i);have n2:dr (b4 a.cs i (f i:Nat)):=iB (by omega) (by omega);have hw:=Bn _ n2;have k0:=I8 (hP i az) (oI n2);have zs:=pX U.right i (f i);have HJ:decide (jV (h i) ((b4 a.cs i (f i:Nat):Int):Rat)>=0)=decide (((b4 a.cs i (f i:Nat):Int):Rat)<=h i):=R6;have sC:=aml (ao a.E a.cs) f h i;rw[<-zs] at sC;have p0:=pY h az;have St:=amm (ao a.E a.cs) f h i;have dv:=jm uT acx 217057 g 8 (n3 (ao a.E a.cs) f h i) i (cs:=[.I (.int .i64 i)]) rfl (by omega) (by omega);have an4:=λ(b7:Mem) (o0:b7 (228500+i)=some (a.gs.getD i 0,fW ((a.gR i).x8 (f i)))) n=>aDQ cM o0 n;have aDT:((a.gR i).x8 (f i)).us.tail=bA 10 λk=>b4 a.cs i (k+1:Nat):=aDR 10 _;simp only[aDT] at an4
  have adH:¬ h i<((b4 a.cs i (f i:Nat):Int):Rat)->a.wf (wO (ao a.E a.cs) f h (i+1))=a.wf (wO (ao a.E a.cs) f h i):=λaY=>a.Ti λj _=>by
   unfold wO
   by_cases aA:j=i
   ·subst aA;rw[ad (by omega),ag (by omega)];unfold Day.ez;rw[ag (by rw[<-zs];exact λx=>aY x.2)]
   ·by_cases vu:j<i
    ·rw[ad vu,ad (by omega)]
    ·rw[ag vu,ag (by omega)]
  have aDU:h i<((b4 a.cs i (f i:Nat):Int):Rat)->a.wf (wO (ao a.E a.cs) f h (i+1))=a.wf (λj=>if j=i then (ao a.E a.cs).h4 h i 10 else wO (ao a.E a.cs) f h i j):=λaY=>a.Ti λj _=>by
   unfold wO
   by_cases aA:j=i
   ·subst aA;rw[ad (by omega),ad rfl];unfold Day.ez;rw[ad ⟨az,by rw[<-zs];exact aY⟩]
   ·rw[ag aA]
    by_cases vu:j<i
    ·rw[ad vu,ad (by omega)]
    ·rw[ag vu,ag (by omega)]
  have kF:=λ(bn:Mem) (e2:(a.wf (wO (ao a.E a.cs) f h i)).e6 bn)=>e2.aDO az ((ao a.E a.cs).h4 h i 10)
  have uO:h i<((b4 a.cs i (f i:Nat):Int):Rat)->(ao a.E a.cs).h4 h i 10<10:=λaY=>by
   rw[zs] at aY;have:=ab.xP i tI;rcases aaL ab (h:=h) (i:=i) 10 (cH _) (by rw[jy,Day.II];exact ax i az) with ⟨-,e⟩|⟨-,e,-⟩
   ·grind
   ·exact e
  have aDV:=λaY=>aDN U h (D a.E) i az (hP i az) (uO aY)
  have Mk:=aBb (bA 10 λk=>b4 a.cs i (k+1:Nat)) (.solve (cK (D a.E) h) i) ⟨by rw[fZ];omega,by rw[nX];exact az,RL (by omega) hP,λx M=>by
   obtain⟨k,-,rfl⟩:=fO.1 M;have:=U.upto i (k+1:Nat);exact iB (by omega) (by omega)⟩
  simp only[tH] at Mk;generalize aMj:(bA 10 λk=>b4 a.cs i (k+1:Nat))=SL at *;generalize Js:(bA (D a.E) λi=>R.ptr (228500+i) (a.gs.getD i 0) 0)=ya at *;have aDW:(228500+i)/1000=228:=by omega
  generalize vb:228500+i=eE at *;generalize NC:fW ((a.gR i).x8 (f i))=DC at *;have an5:(eE=217011)=False:=eq_false (by omega);have aDX:(eE=217057)=False:=eq_false (by omega);have aDY:(217057=eE)=False:=eq_false (by omega);have aMk:al (h i)=al (h i):=rfl;generalize Jd:al (h i)=gf at *;generalize ku:al ((b4 a.cs i (f i:Nat):Int):Rat)=bu at *;obtain⟨⟨c0,ee⟩,⟨gz,gW⟩⟩:=bu;obtain⟨⟨cE,cO⟩,⟨ei,eS⟩⟩:=gf;simp only[ar] at hw k0;rcases fQ:decide (((b4 a.cs i (f i:Nat):Int):Rat)<=h i)
  ·have aY:h i<((b4 a.cs i (f i:Nat):Int):Rat):=by have:=of_decide_eq_false fQ;grind
   rw[ad aY] at sC;rw[<-sC] at dv;rw[aDV aY] at Mk;simp only[<-aDU aY] at kF;have bJ:(n3 (ao a.E a.cs) f h (i+1)).length=(n3 (ao a.E a.cs) f h i).length+1:=by rw[sC,fX];rfl
   have aDZ:∀b7:Mem,b7 217008=some (NT,[.I (.X ((cK (D a.E) h).map ar))])->dz 5 b7 (.ptr 217008 NT 0)=some (.ptr [.X ((cK (D a.E) h).map ar)]):=λb7 o0=>an3 o0 4;have aD0:∀(b7:Mem) (g:Nat),b7 217011=some (g,[.I (.int .i64 i)])->dz 5 b7 (.ptr 217011 g 0)=some (.ptr [.int .i64 i]):=λb7 g o0=>an3 o0 4;have aD1:=adF 5 eE (a.gs.getD i 0) 1 12 10;refine ak ?_;repeat' (intro (ay:_=_)<;>simp only[ay,go_sem,go_sem_proc,iE,kJ,zB,av,bM,bH,b5,df,fq,kM,kN,JD,gd,gh,FZ,kP,j7,cm,hlen,qK,Bx,e7,ed,aa,bh,az,hw,k0,HJ,fQ,p0,dv,an4,Mk,aDZ,aD0,aD1,an5,aDX,aDY,d1,bG,ar,dR,dY,aE,bj,se,scalar,BT,Int.reduceLE,Int.reduceToNat]<;>try refine ai ?_ ?_)
   refine⟨(i+1,g+1),by dsimp only;omega,by dsimp only;omega,rfl,by rw[bJ],rfl,kF _ (((bY.up aM (by decide)).up aM (by decide)).up aM (by decide)),λk G J af=>?_⟩
   rw[ag (show ¬ k=eE by intro L;rw[L] at G;exact G aDW),ag af,ag J,ag J];exact bD k G J af
  ·have aY:¬ h i<((b4 a.cs i (f i:Nat):Int):Rat):=by have:=of_decide_eq_true fQ;grind
   rw[ag aY] at sC;refine ak ?_;repeat' (intro (ay:_=_)<;>simp only[ay,go_sem,go_sem_proc,iE,kJ,av,bM,bH,b5,df,fq,kM,kN,JD,gd,gh,FZ,j7,cm,hlen,qK,Bx,ed,aa,bh,az,hw,k0,HJ,fQ,p0,an5,d1,bG,ar,dR,dY,aE,bj]<;>try refine ai ?_ ?_)
   refine⟨(i+1,g),by dsimp only;omega,by dsimp only;omega,rfl,by rw[sC],by rw[sC];exact kP,?_,λk G J af=>?_⟩
   ·rw[adH aY];exact (bY.up aM (by decide)).up aM (by decide)
   ·rw[ag J,ag J];exact bD k G J af
 ·have d1:decide ((i:Int)<(D a.E:Int))=false:=cl;obtain rfl:i=D a.E:=by omega
  rw[a.Ti (q:=(ao a.E a.cs).ez f h) λj aA=>by unfold wO;rw[ad aA]] at bY
  refine ak ?_;repeat' (intro (ay:_=_)<;>simp only[ay,go_sem,go_sem_proc,av,bM,bH,b5,df,fq,kM,kN,JD,d1]<;>try refine ai ?_ ?_)
  refine cZ _ _ g ?_ ?_ ?_ ?_ ?_ ?_ kP bY bD<;>simp only[dk,cp,if_false,av,bM,bH,b5,df,fq]
def p1 (aD:List a7):List Rat:=aD.map pK
structure DE (E:List Int) (cs:List aG) (aD:List a7):Prop where
 n:(D E)<=1000000
 c:(D cs)<=1000000
 o:hC aD
 tF:hk E cs=true->fV E cs
 sz:hk E cs=true->(D aD)=(D E)->aD.any (lD mn)=false->∀f∈aD,eA 460 (pK f)
open Classical in
def zL (E:List Int)(cs:List aG)(x:Nat->Rat):Bool:=decide (Gk E cs x)
open Classical in
theorem adI {E:List Int}{cs:List aG}{x:Nat->Rat}:zL E cs x=true↔Gk E cs x:=by
 unfold zL;exact decide_eq_true_iff
open Classical in
theorem adJ {E:List Int}{cs:List aG}{x:Nat->Rat}(h:¬ Gk E cs x):zL E cs x=false:=by
 unfold zL;exact h7 h
def yh (E:List Int)(cs:List aG)(aD:List a7):Bool:=hk E cs&&(decide (D aD=D E)&&(!aD.any (lD mn)&&zL E cs λi=>(p1 aD).getD i 0))
theorem adK {aD:List a7}(h:aD.any (lD mn)=false):aD=(p1 aD).map al/\∀x∈p1 aD,0<=x/\dx x:=by
 rw[wi] at h
 have G:∀f∈aD,f=al (pK f)/\dx (pK f)/\0<=pK f:=λf aC=>by
  have J:=h f aC;rw[H0] at J;simp only[Bool.or_eq_true,I0,decide_eq_true_eq,not_or] at J;obtain⟨af,aT⟩:=J;have bx:=RG (f:=f) (by simpa using af);refine⟨bx.1,bx.2,?_⟩;rw[bx.1] at aT;have:¬ (pK f).num.sign<0:=aT;have b0:decide ((pK f).num.sign<0)=decide (pK f<0):=aco;have bV:decide ((pK f).num.sign<0)=false:=h7 this;rw[b0] at bV;have:=of_decide_eq_false bV;grind
 refine⟨?_,λx M=>?_⟩
 ·unfold p1;rw[oj];refine (an6 aD).symm.trans (oi λf aC=>?_);exact (G f aC).1
 ·obtain⟨f,aC,rfl⟩:=fO.1 M;exact⟨(G f aC).2.2,(G f aC).2.1⟩
theorem an7:∀(a b:List Rat),(∀x∈a,dx x)->(∀x∈b,dx x)->(ma (a.map al) (b.map al)=true↔a=b)
 | [],[],_,_=>by simp[ma]
 | [],_::_,_,_=>by simp[ma]
 |_::_,[],_,_=>by simp[ma]
 |x::a,y::b,aW,ah=>by
  have aN:=an7 a b (λz a3=>aW z (hO _ a3)) λz a3=>ah z (hO _ a3);rw[ey,ey,ma,fw,aN,bk,LM (aW x g3) (ah y g3)]
  have:(jV x y==0)=true↔x=y:=by
   have G:=abV (x:=x) (y:=y);have J:=R5 (x:=x) (y:=y);rw[beq_iff_eq]
   constructor
   ·intro h;rw[h] at G J;have av:¬ y<x:=of_decide_eq_false (G.symm.trans rfl);have aB:¬ x<y:=of_decide_eq_false (J.symm.trans rfl);grind
   ·intro h;have av:¬ y<x:=by grind
    have aB:¬ x<y:=by grind
    rw[h7 av] at G;rw[h7 aB] at J;have:=of_decide_eq_false G;have:=of_decide_eq_false J;omega
  rw[this]
structure DF (E:List Int) (cs:List aG) (x:Nat->Rat) (l:List aG) (s:Nat->Rat):Prop where
 a:∀i,i<(D E)->n9 E cs x i l=some (s i)
 l:∀i,i<(D E)->dx (s i)
theorem DF.skip {E:List Int}{cs:List aG}{x:Nat->Rat}{l:List aG}{s:Nat->Rat}(h:DF E cs x l s){c:aG}(H:c.2.1<0):DF E cs x (l++[c]) s:=by
 refine⟨λi Q=>?_,h.l⟩;rw[Gj,h.a i Q];unfold yg;rw[ag (by omega)]
theorem DF.add {E:List Int}{cs:List aG}{x:Nat->Rat}{l:List aG}{s:Nat->Rat}(h:DF E cs x l s){c:aG}{t:Nat}(H:c.2.1=(t:Int))(L:l0 (s t) (dC cs (x c.1.toNat) c)=true):DF E cs x (l++[c]) λi=>if i=t then s t+dC cs (x c.1.toNat) c else s i:=by
 refine⟨λi Q=>?_,λi Q=>?_⟩
 ·rw[Gj,h.a i Q];unfold yg
  by_cases NU:i=t
  ·subst NU;rw[ad H,yH,ad L,ad rfl]
  ·rw[ag (by omega),ag NU]
 ·by_cases NU:i=t
  ·rw[ad NU];exact an0 L
  ·rw[ag NU];exact h.l i Q
theorem aD2 {E:List Int}{cs:List aG}{x:Nat->Rat}{l m:List aG}{s:Nat->Rat}(h:DF E cs x l s){c:aG}{t:Nat}(ca:t<D E)(H:c.2.1=(t:Int))(L:l0 (s t) (dC cs (x c.1.toNat) c)=false)(aw:cs=(l++[c])++m):¬ Gk E cs x:=λaC=>by
 have G:=aC t ca
 have J:n9 E cs x t (l++[c])=none:=by
  rw[Gj,h.a t ca];unfold yg;rw[ad H,yH,L];rfl
 have af:=anY J m;rw[<-aw,G] at af
 cases af
theorem an8 {cs:List aG}(cM:∀c∈cs,0<=c.2.2.2/\c.2.2.2<=33554432)(eP:(D cs)<=12){x:Rat}(M:eA 460 x){c:aG}(H:c∈cs):dx (dC cs x c):=by
 have ah:∀(p:aG->Prop) [DecidablePred p],0<=cF cs (λc=>if p c then c.2.2.2 else 0)/\cF cs (λc=>if p c then c.2.2.2 else 0)<=536870912:=λp _=>by
  have:=RA (cs:=cs) (aR:=λc=>if p c then c.2.2.2 else 0) (B:=33554432) (by omega) λc H=>by
   have G:=cM c H
   try dsimp only
   split<;>omega
  omega
 have ns:=ah λc'=>c'.1=c.1/\c'.2.2.1<c.2.2.1;have dh:=ah λc'=>c'.1=c.1/\c'.2.2.1=c.2.2.1;rw[<-al9] at dh;have aW:=cM c H;have x7:eA 29 ((c.2.2.2:Int):Rat):=sy (by omega);have Dq:eA 29 ((gJ cs c.1 c.2.2.1:Int):Rat):=sy (by omega);have Sp:eA 29 ((b4 cs c.1 c.2.2.1:Int):Rat):=sy (by unfold b4;omega);unfold dC
 split
 ·exact iY x7 (by omega)
 ·have aD3:eA 490 (pos (x-((b4 cs c.1 c.2.2.1:Int):Rat))):=by
   unfold pos
   split
   ·exact (show eA 1 0 from⟨by decide,by decide⟩).mono (by omega)
   ·rw[CM];exact (MI M (wA Sp)).mono (by omega)
  by_cases ax:((gJ cs c.1 c.2.2.1:Int):Rat)=0
  ·rw[ax,IJ,Rat.inv_zero,sn,Bh];exact iY (show eA 1 0 from⟨by decide,by decide⟩) (by omega)
  ·exact iY (Bk (ayG x7 Dq ax) aD3) (by omega)
abbrev NV:(List Int)×(List aG)×(List a7)->List Data:=λ(E,cs,aD)=>[.X (E.map ae),.X (cs.map bR),.X (aD.map ar)]
def NW:=cn NV λ(E,cs,aD)=>cN (DE E cs aD) (.same (.bool (yh E cs aD)))
theorem adL:∀a b,NV a=NV b->a=b:=by
  rintro⟨abJ,FO,rR⟩ ⟨abK,vy,rS⟩ h;simp only[bk,Data.X.injEq,and_true] at h;exact dN (map_inj gx _ _ h.1) (dN (map_inj sx _ _ h.2.1) (map_inj np _ _ h.2.2))
@[go_sem] theorem an9 (E:List Int)(cs:List aG)(aD:List a7)(H:DE E cs aD):NW [.X (E.map ae),.X (cs.map bR),.X (aD.map ar)]=some (.same (.bool (yh E cs aD))):=(cz adL (E,cs,aD)).trans (cX H _)
theorem aD4 (T:bl)(tM:T K3=aQ SC)(uH:T KQ=aQ Qn)(vd:T K5=aQ NS)(iE:T ou=aQ u3)(pN:T yP=aQ AR)(DG:T Vn=aQ adD)(E:List Int)(cs:List aG)(aD:List a7)(H:DE E cs aD):WP T XP (.same (.bool (yh E cs aD))) [.I (.X (E.map ae)),.I (.X (cs.map bR)),.I (.X (aD.map ar))]:=by
 refine cD ?_;simp only[XP];obtain⟨mR,ix,bS,pP,fg⟩:=H;have w4:=auA aD mn ⟨bS,.inr rfl⟩;unfold yh;rcases Y:hk E cs
 ·rw[eR];refine ak ?_;repeat' (intro (ay:_=_)<;>simp only[ay,go_sem,go_sem_proc,tM,uH,vd,iE,pN,DG,mR,ix,Y,db]<;>try refine ai ?_ ?_)
 ·rw[fD];rcases aw:((D aD:Int)==(D E:Int))
  ·rw[h7 (show ¬ (D aD)=(D E) by have:=ne_of_beq_false aw;omega),eR];refine ak ?_;repeat' (intro (ay:_=_)<;>simp only[ay,go_sem,go_sem_proc,tM,uH,vd,iE,pN,DG,mR,ix,Y,aw,aE,bne,db,cw]<;>try refine ai ?_ ?_)
  ·have hle:(D aD)=D E:=by have:=eq_of_beq aw;omega
   rw[jw hle,fD];rcases aW:aD.any (lD mn)
   ·rw[aW] at w4;rw[db,fD];have U:=pP Y;have aM:=U.hE;have eP:=U.qF;obtain⟨NX,qi⟩:=adK aW;have EH:=fg Y hle aW;have iH:(p1 aD).length=D E:=by unfold p1;rw[aE];exact hle
    have jr:=(il.1 Y).2.2.2
    have ts:BG cs (p1 aD):=⟨eP,by rw[iH];exact aM,λc H=>by
     have G:=jr c H;have J:=U.am c H;rw[iH];omega,λx M=>⟨(qi x M).1,by
     obtain⟨f,aC,rfl⟩:=fO.1 M;exact EH f aC⟩⟩
    have BI:=anU cs (p1 aD) ts;rw[<-NX] at BI
    have adM:∀c∈cs,dx (dC cs ((p1 aD).getD c.1.toNat 0) c):=λc H=>by
     have G:=jr c H;refine an8 (λc H=>⟨(jr c H).2.2.2.2.2.2.1,U.am c H⟩) eP ?_ H;refine (ts.x _ ?_).2;rw[ep,bq (by rw[iH];omega)];exact lq _
    generalize HG:p1 aD=bu at *;simp only[go_sem,go_sem_proc,tM,uH,vd,mR,ix,Y,aw,w4,BI,aE,bne,db,cw];refine cU [1,2,8,41,42] [] (λ((i,g):Nat×Nat) tm m=>i<=D E/\tm 43=.I (.int .i64 i)/\tm 10=.ref 218051 g 4 0 i/\m 218051=some (g,aV ar (cK i λj=>((E.getD j 0:Int):Rat)))) (λ(i,_)=>D E-i) (0,0) (by refine⟨by omega,rfl,rfl,rfl⟩) ?_;intro vs ms aJ aH;simp only[go_sem,go_sem_proc] at aJ aH;subst aJ aH;rintro⟨i,g⟩ tm m L-⟨Q,adN,fq,DH⟩;simp only[go_sem,go_sem_proc,bk] at L;obtain⟨av,aB,df,BD,zI⟩:=L;rcases dc (i<D E) with az|b2
    ·have d1:decide ((i:Int)<(D E:Int))=true:=cT;have bG:=ec (i:=i) (by omega);obtain⟨y,aj⟩:∃y,E[i]?=some y:=⟨_,bq az⟩;have AV:E.getD i 0=y:=by rw[ep,aj];rfl
     have oF:=(il.1 Y).2.2.1 y (dn aj);have hw:=Bn y (iB (by omega) (by omega));have aJ:=acR i λj=>((E.getD j 0:Int):Rat)
     rw[AV] at aJ;have cm:(cK i λj=>((E.getD j 0:Int):Rat)).length=i:=nX _ _;have dv:=λ(aR:a7) cs jj=>jm iT v5 218051 g 64 (cK i λj=>((E.getD j 0:Int):Rat)) aR (cs:=cs) jj (by omega) (by omega);simp only[cm] at dv;generalize al ((y:Int):Rat)=aR at *;obtain⟨⟨cE,cO⟩,⟨ei,eS⟩⟩:=aR;have kI:=dv ((cE,cO),(ei,eS)) _ rfl;rw[<-aJ] at kI;simp only[ar,ey,cC] at kI hw;refine ak ?_;repeat' (intro (ay:_=_)<;>simp only[ay,go_sem,go_sem_proc,tM,uH,vd,iE,pN,DG,av,aB,df,fq,BD,zI,adN,DH,aj,d1,bG,hw,kI,ae,aE,bj]<;>try refine ai ?_ ?_)
     exact⟨(i+1,g+1),by dsimp only;omega,by dsimp only;omega,rfl,rfl,rfl⟩
    ·have d1:decide ((i:Int)<(D E:Int))=false:=cl;obtain rfl:i=D E:=by omega
     simp only[go_sem,go_sem_proc,av,zI,adN,d1,aE]
     refine cU [2,8,10,53,54] [] (λ((t,s):Nat×(Nat->Rat)) tm m=>t<=D cs/\tm 55=.I (.int .i64 t)/\m 218051=some (g,aV ar (cK (D E) s))/\DF E cs (λi=>bu.getD i 0) (cs.take t) s) (λ(t,_)=>D cs-t) (0,λj=>((E.getD j 0:Int):Rat)) (by
      refine⟨by omega,rfl,DH,⟨λi Q=>by rw[mU,adA],λi Q=>oI (iB (by have:=U.E i;omega) (by have:=U.E i;omega))⟩⟩) ?_
     intro vs ms aJ aH;simp only[go_sem,go_sem_proc,aB,df,fq] at aJ aH;subst aJ aH;clear av aB df fq BD zI adN DH w4 BI tm m;rintro⟨t,s⟩ tm m L-⟨ca,Tj,DH,ve⟩;simp only[go_sem,go_sem_proc,bk] at L;obtain⟨aB,df,fq,Tk,Tl⟩:=L;rcases dc (t<D cs) with az|aMl
     ·have d1:decide ((t:Int)<(D cs:Int))=true:=cT;have bG:=ec (i:=t) (by omega);obtain⟨⟨aq,c2,c3,c4⟩,M⟩:∃c,cs[t]?=some c:=⟨_,bq az⟩;have fs:=dn M;have iG:=jr _ fs;have ia:=adM _ fs;dsimp only at iG ia;have gm:cs.take (t+1)=cs.take t++[(aq,c2,c3,c4)]:=by rw[gB,M];rfl
      rcases q:decide (c2<0)
      ·obtain⟨j,rfl⟩:∃j:Nat,c2=(j:Int):=⟨c2.toNat,by have:=of_decide_eq_false q;omega⟩
       have aA:j<D E:=by omega
       have vt:=ve.l j aA;have hN:=aDC vt ia;have p0:=pY s aA;have aMm:(cK (D E) s).length=D E:=nX _ _;rcases L:l0 (s j) (dC cs (bu.getD aq.toNat 0) (aq,(j:Int),c3,c4))
       ·have adH:¬ Gk E cs λi=>bu.getD i 0:=aD2 ve aA (c:=(aq,(j:Int),c3,c4)) rfl L (m:=cs.drop (t+1)) (by rw[<-gm,vz]);rw[adJ adH];rw[L] at hN;have rZ:uG false (s j+dC cs (bu.getD aq.toNat 0) (aq,(j:Int),c3,c4))=(dD,6):=rfl;rw[rZ] at hN;generalize cK (D E) s=bU at *;generalize fi:al (dC cs (bu.getD aq.toNat 0) (aq,(j:Int),c3,c4))=P at *;generalize al (s j)=F1 at *;obtain⟨⟨ic,kr⟩,⟨o5,o6⟩⟩:=P;obtain⟨⟨f1,f2⟩,⟨f3,f4⟩⟩:=F1;have t1:=A8 p0;have t2:=wc (l:=bU) (k:=j) (by omega);simp only[ar,dD] at hN;have Dm:((6:Int)==0)=false:=rfl;refine ak ?_;repeat' (intro (ay:_=_)<;>simp only[ay,go_sem,go_sem_proc,tM,uH,vd,iE,pN,DG,aB,df,fq,Tk,Tl,Tj,DH,M,fi,d1,q,aA,hN,t1,t2,bR,ar,aE,bj,cC,Dm,bne,db]<;>try refine ai ?_ ?_)
       ·have pO:=ve.add (c:=(aq,(j:Int),c3,c4)) rfl L;rw[<-gm] at pO;dsimp only at pO;rw[L] at hN;have rZ:uG true (s j+dC cs (bu.getD aq.toNat 0) (aq,(j:Int),c3,c4))=(al (s j+dC cs (bu.getD aq.toNat 0) (aq,(j:Int),c3,c4)),0):=rfl;rw[rZ] at hN;have u5:=Sd (N:=D E) (k:=j) s (s j+dC cs (bu.getD aq.toNat 0) (aq,(j:Int),c3,c4));generalize acZ:cK (D E) (λi=>if i=j then s j+dC cs (bu.getD aq.toNat 0) (aq,(j:Int),c3,c4) else s i)=qu at *;generalize cK (D E) s=bU at *;generalize al (s j+dC cs (bu.getD aq.toNat 0) (aq,(j:Int),c3,c4))=aZ at *;generalize fi:al (dC cs (bu.getD aq.toNat 0) (aq,(j:Int),c3,c4))=P at *;generalize al (s j)=F1 at *;obtain⟨⟨ic,kr⟩,⟨o5,o6⟩⟩:=P;obtain⟨⟨f1,f2⟩,⟨f3,f4⟩⟩:=F1;obtain⟨⟨cQ,dd⟩,⟨iK,mz⟩⟩:=aZ;have t1:=A8 p0;have t2:=wc (l:=bU) (k:=j) (by omega);have t3:=C1 (l:=bU) (k:=j) (by omega) cQ dd iK mz;rw[u5] at t3;simp only[ar] at hN;refine ak ?_;repeat' (intro (ay:_=_)<;>simp only[ay,go_sem,go_sem_proc,tM,uH,vd,iE,pN,DG,aB,df,fq,Tk,Tl,Tj,DH,M,fi,d1,bG,q,aA,hN,t1,t2,t3,bR,ar,aE,bj,bne,beq_self_eq_true,cw]<;>try refine ai ?_ ?_)
        exact⟨(t+1,λi=>if i=j then s j+dC cs (bu.getD aq.toNat 0) (aq,(j:Int),c3,c4) else s i),by dsimp only;omega,by dsimp only;omega,rfl,by rw[acZ],pO⟩
      ·have pO:=ve.skip (c:=(aq,c2,c3,c4)) (of_decide_eq_true q);rw[<-gm] at pO;refine ak ?_;repeat' (intro (ay:_=_)<;>simp only[ay,go_sem,go_sem_proc,tM,uH,vd,iE,pN,DG,aB,df,fq,Tk,Tl,Tj,DH,M,d1,bG,q,bR,aE,bj]<;>try refine ai ?_ ?_)
       exact⟨(t+1,s),by dsimp only;omega,by dsimp only;omega,rfl,rfl,pO⟩
     ·have d1:decide ((t:Int)<(D cs:Int))=false:=cl;rw[dp (by omega)] at ve;have aD5:hC (cK (D E) s):=RL (by omega) ve.l;have dG:=aDI (cK (D E) s) aD ⟨aD5,bS⟩
      have he:ma (cK (D E) s) aD=zL E cs λi=>bu.getD i 0:=by
       have G:=an7 (bA (D E) s) bu (λx M=>by
        obtain⟨i,Q,rfl⟩:=fO.1 M;exact ve.l i (iM.1 Q)) λx M=>(qi x M).2
       rw[<-NX] at G
       have J:ma (cK (D E) s) aD=true↔Gk E cs λi=>bu.getD i 0:=by
        refine G.trans ⟨λh=>?_,λh=>?_⟩
        ·intro i Q;rw[ve.a i Q,<-h];show some (s i)=some ((bA (D E) s).getD i 0);rw[BC s 0 Q]
        ·refine (Nq iH λi Q=>?_).symm;have af:=h i Q;rw[ve.a i Q,cL] at af;rw[af];show bu[i]?=some (bu.getD i 0);rw[ep,bq (by omega)]
         rfl
       rw[Bool.eq_iff_iff,adI];exact J
      rw[he] at dG;have gi:=jU (n:=5) iT DH;rw[nX] at gi;refine ak ?_;repeat' (intro (ay:_=_)<;>simp only[ay,go_sem,go_sem_proc,tM,uH,vd,iE,pN,DG,aB,df,fq,Tk,Tl,Tj,d1,dG,gi,adF,se,scalar,aE]<;>try refine ai ?_ ?_)
   ·rw[aW] at w4;rw[cw,eR];refine ak ?_;repeat' (intro (ay:_=_)<;>simp only[ay,go_sem,go_sem_proc,tM,uH,vd,iE,pN,DG,mR,ix,Y,aw,w4,aE,bne,db,cw]<;>try refine ai ?_ ?_)
theorem aoa {n:Nat}{f:Nat->Nat}(h:∀i,n<=i->f i=10):bb (bA n λi=>(f i:Int))=f:=by
 funext i
 by_cases Q:i<n
 ·exact aDP f Q
 ·unfold bb;rw[ep,List.getElem?_eq_none (by rw[fZ];omega),h i (by omega)];rfl
theorem aob {d:Day}{f:Nat->Nat}{h:Nat->Rat}(dS:∀i,d.n<=i->f i=10):∀i,d.n<=i->d.ez f h i=10:=λi Q=>by
 unfold Day.ez;rw[ag λx=>by omega,dS i Q]
theorem NY (d:Day):∀k f,(d.rounds k f).1.length<=k
 |0,f=>cH _
 |k+1,f=>by
  rw[Day.rounds]
  split
  ·exact fm _
  ·have:=NY d k (d.ez f (d.top f));simp only[jO];omega
def na (l:List Nat):List Data:=[.X (l.map hj)]
theorem Tm (l:List Nat):(na l).length=1:=rfl
theorem aoc (l:List Nat):((na l).map R.I).all R.one=true:=rfl
def zM (done:List (List Nat))(g:Nat):R:=if done=[] then .nil else .ref 217077 g 1 0 (D done)
structure aod (E:List Int) (cs:List aG) (g:Nat) (gs:Nat->Nat) (f:Nat->Nat) (done:List (List Nat)) (gE:Nat) (m:Mem):Prop where
 at_:∃p,(((zH E cs g gs).wf f).hS p).e6 m
 out:∃lL,lL=0/\m 217007=some (lL,[.nil,.nil,zM done gE])
 row:done≠[]->m 217077=some (gE,aV na done)
 no:∀k:Nat,k/1000≠217->k/1000≠228->m k=none
 f10:∀i,D E<=i->f i=10
 reach:Reach (ao E (dX (D E) cs)) f
 fM:∃r,jL (D E) f<=r/\(ao E (dX (D E) cs)).fM=done++((ao E (dX (D E) cs)).rounds r f).1/\(ao E (dX (D E) cs)).mE=((ao E (dX (D E) cs)).rounds r f).2
theorem aD6 (T:bl)(JE:T Pu=uL NH)(iE:T ou=aQ u3)(kJ:T pF=aQ vY)(zB:T Ev=aQ Jh){K:eI->bo->Prop}{kk:List fJ}(E:List Int)(cs:List aG)(pM:fV E cs)(g:Nat)(gs:Nat->Nat)(v1:R)(tm:Nat->R)(m:Mem)
  (av:tm 1=v1) (bM:tm 4=.ptr 217004 0 0) (bH:tm 6=.ref 228023 g 1 0 (D E)) (b5:tm 7=.ptr 217007 0 0) (fx:m 217004=some (0,[.nil,.nil,.nil])) (bY:aod E cs g gs (λ_=>10) [] 0 m)
  (cZ:∀tm' m' gE,tm' 1=v1->tm' 4=.ptr 217004 0 0->tm' 7=.ptr 217007 0 0->m' 217004=some (0,[.nil,.nil,.nil])->m' 217007=some (0,[.I (.X ((cK (D E) (ao E (dX (D E) cs)).b1).map ar)),.nil,zM (ao E (dX (D E) cs)).fM gE])->((ao E (dX (D E) cs)).fM≠[]->m' 217077=some (gE,aV na (ao E (dX (D E) cs)).fM))->cd T K kk (.exit 0) ⟨tm',m'⟩) :
  wp T (E4.body.sub [1,1,1,1,0,0]) (cd T K kk) ⟨tm,m⟩:=by
 simp only[E4,er.sub];have U:=abN pM;have aM:=U.hE;have ab:=U.ok;refine cU [1,4,6,7] [217004] (λ((f,done,gE):(Nat->Nat)×List (List Nat)×Nat) tm m=>aod E cs g gs f done gE m) (λ(f,_)=>jL (D E) f) (λ_=>10,[],0) (by exact bY) ?_;intro vs ms aJ aH;simp only[go_sem,go_sem_proc,av,bM,bH,b5,fx] at aJ aH;subst aJ aH;clear av bM bH b5 fx bY tm m;rintro⟨f,done,gE⟩ tm m L fx bY;simp only[go_sem,go_sem_proc,bk] at L fx;obtain⟨av,bM,bH,b5⟩:=L;obtain⟨⟨p,bY⟩,⟨lL,rfl,NZ⟩,gd,gw,tI,N0,r,EE,a8,rb⟩:=bY;dsimp only at *;have ll:=aoa tI;have iG:=N0;obtain⟨N1,hinv,-⟩:=N0
 have fC:=aCq (((zH E cs g gs).wf f).hS p) m ⟨bY,λk L=>gw k (by omega) (by omega),λk L=>gw k (by omega) (by omega),λk L=>gw k (by omega) (by omega),⟨U,λx M=>by
  obtain⟨i,-,rfl⟩:=fO.1 M;have:=hinv.le i;omega⟩,⟨N1,by show Inv (ao E (dX (D E) cs)) (bb (bA (D E) λi=>(f i:Int))) N1;rw[ll];exact hinv⟩⟩
 have aoe:NH [.ref 228023 g 1 0 (D E)] m=some (SW (((zH E cs g gs).wf f).hS p) m):=fC;simp only[go_sem,go_sem_proc,JE,bH,aoe];have ca:=Day.zp (ab.hex f iG);have hP:∀i,i<(D E)->dx ((ao E (dX (D E) cs)).top f i):=λi Q=>iY (abR U iG Q) (by omega);have ax:∀i,i<(D E)->0<=(ao E (dX (D E) cs)).top f i:=λi Q=>ca.Rx ab Q;rintro adO mem' ⟨jr,qa,wY,BJ⟩
 have aD7:adO=.c1 [.I (.X ((cK (D E) ((ao E (dX (D E) cs)).top f)).map ar)),.I (.bool true)]:=by
  rw[jr];show R.c1 [.I (.X ((cK (D E) ((ao E (dX (D E) cs)).top (bb (bA (D E) λi=>(f i:Int))))).map ar)),.I (.bool true)]=_;rw[ll]
 clear jr fC aoe;subst aD7;have gj:∀k:Nat,k/1000≠228->mem' k=m k:=λk L=>BJ k λi Q=>by have:i<D E:=Q;omega
 have kE:=(gj 217004 (by decide)).trans fx;have qH:=(gj 217007 (by decide)).trans NZ;have Fw:(ao E (dX (D E) cs)).eO f=n3 (ao E (dX (D E) cs)) f ((ao E (dX (D E) cs)).top f) (D E):=rfl
 have N2:(ao E (dX (D E) cs)).eO f=[]->(ao E (dX (D E) cs)).fM=done/\(ao E (dX (D E) cs)).b1=(ao E (dX (D E) cs)).top f:=λh=>by
  have:=(ao E (dX (D E) cs)).IV h r;rw[this,gS] at a8;rw[this] at rb;exact⟨a8,by unfold Day.b1;rw[rb]⟩
 have oU:(ao E (dX (D E) cs)).eO f≠[]->jL (D E) ((ao E (dX (D E) cs)).ez f ((ao E (dX (D E) cs)).top f))<jL (D E) f/\Reach (ao E (dX (D E) cs)) ((ao E (dX (D E) cs)).ez f ((ao E (dX (D E) cs)).top f))/\(∀i,D E<=i->(ao E (dX (D E) cs)).ez f ((ao E (dX (D E) cs)).top f) i=10)/\∃r,jL (D E) ((ao E (dX (D E) cs)).ez f ((ao E (dX (D E) cs)).top f))<=r/\(ao E (dX (D E) cs)).fM=(done++[(ao E (dX (D E) cs)).eO f])++((ao E (dX (D E) cs)).rounds r ((ao E (dX (D E) cs)).ez f ((ao E (dX (D E) cs)).top f))).1/\(ao E (dX (D E) cs)).mE=((ao E (dX (D E) cs)).rounds r ((ao E (dX (D E) cs)).ez f ((ao E (dX (D E) cs)).top f))).2:=λb6=>by
  have az:=Ry ab ab.hex iG b6;have fz:jL (D E) ((ao E (dX (D E) cs)).ez f ((ao E (dX (D E) cs)).top f))<jL (D E) f:=az;refine⟨fz,iG.next ab ab.hex,aob (d:=ao E (dX (D E) cs)) tI,?_⟩
  cases r with
  |zero=>omega
  |succ r =>
   rw[Day.rounds,ag b6] at a8 rb;exact⟨r,by omega,by rw[a8];simp,rb⟩
 generalize p2:ao E (dX (D E) cs)=d at *;generalize qe:(cK (D E) (d.top f)).map ar=V at *;simp only[go_sem,go_sem_proc,bH,cw];subst p2;rw[<-qe];refine aDS T iE kJ zB ((zH E cs g gs).hS qa) U f (λi _=>hinv.le i) ((ao E (dX (D E) cs)).top f) hP ax _ v1 (.ptr 217004 0 0) (.ptr 217007 0 0) (fN (mem' 217008)) (fN (mem' 217057)) _ _ ?_ ?_ ?_ ?_ ?_ ?_ ?_ ?_ ?_ (((show ((((zH E cs g gs).hS qa).wf f)).e6 mem' from wY).up aM (by decide)).up aM (by decide)|>.up aM (by decide)) ?_ ?_ (λ_ _ _ _=>rfl) ?_
 all_goals first|(intro x5 b7 dd cB gQ fj iy jq oy BH z8 jN)|(simp only[dk,cp,if_false,if_true,av,bM,bH,b5];done)|(simp only[dk,cp,if_false,if_true];rfl)|(simp only[dk,cp,if_false,bH];rfl)|(simp only[a9,cp,if_false,if_true];done)|(simp only[a9,cp,if_false,if_true];rfl)|skip
 replace oy:x5 10=.ref 217057 dd 1 0 ((ao E (dX (D E) cs)).eO f).length:=oy;replace BH:b7 217057=some (dd,aV hj ((ao E (dX (D E) cs)).eO f)):=BH;replace fj:x5 6=.ref 228023 g 1 0 (D E):=fj;replace z8:(((zH E cs g gs).hS qa).wf ((ao E (dX (D E) cs)).ez f ((ao E (dX (D E) cs)).top f))).e6 b7:=z8;have rE:b7 217004=some (0,[.nil,.nil,.nil]):=(jN 217004 (by decide) (by decide) (by decide)).trans (by simp only[a9,cp,if_false];exact kE);have BF:b7 217007=some (0,[.nil,.nil,zM done gE]):=(jN 217007 (by decide) (by decide) (by decide)).trans (by simp only[a9,cp,if_false];exact qH);have aD8:b7 217008=some (fN (mem' 217008),[.I (.X V)]):=(jN 217008 (by decide) (by decide) (by decide)).trans (by simp only[a9,cp,if_false,if_true];rw[qe]);have aof:done≠[]->b7 217077=some (gE,aV na done):=λh=>(jN 217077 (by decide) (by decide) (by decide)).trans (by simp only[a9,cp,if_false];exact (gj 217077 (by decide)).trans (gd h));have mb:∀(k j:Nat),k/1000≠217->j/1000=217->k≠j:=λk j G J h=>G (h ▸ J)
 have Tn:∀k:Nat,k/1000≠217->k/1000≠228->b7 k=none:=λk G J=>(jN k J (mb k _ G (by decide)) (mb k _ G (by decide))).trans (by
  rw[dg (mb k _ G (by decide)),dg (mb k _ G (by decide)),dg (mb k _ G (by decide))];exact (gj k J).trans (gw k G J))
 clear jN gj wY BJ kE qH NZ gd gw fx av bM bH b5 a8 rb
 by_cases b6:(ao E (dX (D E) cs)).eO f=[]
 ·obtain⟨G,J⟩:=N2 b6;rw[b6] at oy;rw[G,J] at cZ;have nA:(((0:Nat):Int)==0)=true:=rfl;simp only[go_sem,go_sem_proc,cB,gQ,fj,iy,jq,oy,rE,BF,aD8,nA,nC];refine cZ _ _ gE ?_ ?_ ?_ ?_ ?_ λh=>?_
  ·simp only[dk,cp,if_false];exact cB
  ·simp only[dk,cp,if_false];exact gQ
  ·simp only[dk,cp,if_false];exact iy
  ·simp only[a9,cp,if_false];exact rE
  ·simp only[a9,cp,if_true];rw[qe]
  ·simp only[a9,cp,if_false];exact aof h
 ·obtain⟨G,J,af,aT⟩:=oU b6;have St:((ao E (dX (D E) cs)).eO f).length<=5:=e4 (pc _ _) (by rw[r1];exact aM)
  have nA:((((ao E (dX (D E) cs)).eO f).length:Int)==0)=false:=by
   have:((ao E (dX (D E) cs)).eO f).length≠0:=λh=>b6 (x3.1 h);rw[beq_eq_false_iff_ne];omega
  have ke:=λ(K:bo->Prop) (st:bo)=>oW (K:=K) (st:=st) uT 10 217057 dd ((ao E (dX (D E) cs)).eO f);have p3:(1<=maxLen)=True:=eq_true (by decide);generalize T9:(ao E (dX (D E) cs)).eO f=aI at *;clear N2 oU cZ;have aog:∀(bn:Mem),(∀k:Nat,k/1000≠217->bn k=b7 k)->∀k:Nat,k/1000≠217->k/1000≠228->bn k=none:=λbn e2 k G J=>(e2 k G).trans (Tn k G J)
  by_cases j8:done=[]
  ·subst j8;have yi:zM [] gE=.nil:=rfl;rw[yi] at BF;simp only[go_sem,go_sem_proc,cB,gQ,fj,iy,oy,rE,BF,BH,nA,ke,p3];refine⟨(_,[aI],fN (b7 217077)),G,⟨⟨qa,((z8.up aM (by decide)).up aM (by decide)).up aM (by decide)⟩,⟨0,rfl,?_⟩,λ_=>?_,?_,af,J,aT⟩⟩
   ·rw[jg];rfl
   ·rw[dg (by decide),jg];rfl
   ·exact aog _ λk L=>by rw[dg (mb k _ L (by decide)),dg (mb k _ L (by decide)),dg (mb k _ L (by decide))]
  ·have yi:zM done gE=.ref 217077 gE 1 0 (D done):=by unfold zM;rw[ag j8]
   rw[yi] at BF;have To:=aof j8
   have Ed:(D done)+1<=50:=by
    obtain⟨zX,-,bx,-⟩:=aT;have b0:=NY (ao E (dX (D E) cs)) (10*(ao E (dX (D E) cs)).n) λ_=>10;have bV:(ao E (dX (D E) cs)).fM.length<=10*D E:=b0;rw[bx] at bV;simp only[fX,sg] at bV;omega
   have dv:=jm Tm aoc 217077 gE 24 done aI (cs:=[.I (.X (aI.map hj))]) rfl (by omega) (by omega);simp only[go_sem,go_sem_proc,cB,gQ,fj,iy,oy,rE,BF,BH,To,nA,ke,dv];refine⟨(_,done++[aI],gE+1),G,⟨⟨qa,((z8.up aM (by decide)).up aM (by decide)).up aM (by decide)⟩,⟨0,rfl,?_⟩,λ_=>?_,?_,af,J,aT⟩⟩
   ·rw[jg];unfold zM;rw[ag (by simp),fX];rfl
   ·rw[dg (by decide),jg]
   ·exact aog _ λk L=>by rw[dg (mb k _ L (by decide)),dg (mb k _ L (by decide)),dg (mb k _ L (by decide))]
structure aoh (E:List Int) (cs:List aG) (b1 eT:Nat) (f:Nat->Nat) (done:List (List Nat)) (gE:Nat) (m:Mem):Prop where
 at_:∃P,D P=D E/\tD E cs (bA (D E) λi=>(f i:Int)) P 0 b1 eT m
 out:∃x,m 261006=some (0,[x,.nil,.ref 261117 gE 1 0 (D done)])
 row:m 261117=some (gE,aV na done)
 no:∀k:Nat,k/1000≠261->m k=none
 f10:∀i,D E<=i->f i=10
 reach:Reach (ao E cs) f
 fM:∃r,jL (D E) f<=r/\(ao E cs).fM=done++((ao E cs).rounds r f).1/\(ao E cs).mE=((ao E cs).rounds r f).2
theorem aD9 {d:Day}{f:Nat->Nat}{n:Nat}(aM:d.n=n):wI d f (d.top f) (d.eO f) n=bA n λi=>(d.ez f (d.top f) i:Int):=iC λi Q=>by
 unfold Day.ez
 by_cases h:i∈d.eO f
 ·rw[ad h,ad (Day.Db.1 h)]
 ·rw[ag h,ag λaY=>h (Day.Db.2 aY)]
theorem aEa (T:bl)(JF:T Py=uL Si)(hQ:T oY=aQ u2)(lK:T q7=aQ xX)(iq:T s4=aQ x1)(Du:T Lb=aQ Nm){K:eI->bo->Prop}{kk:List fJ}(E:List Int)(cs:List aG)(U:fV E cs)(b1 eT:Nat)(tm:Nat->R)(m:Mem)
  (bw:tm 0=.I (.X (E.map ae))) (av:tm 1=.I (.X (cs.map bR))) (bM:tm 4=.ptr 261004 0 0) (bH:tm 6=.ptr 261006 0 0) (b5:tm 7=.ptr 261029 0 0) (fx:m 261004=some (0,[.nil,.nil,.nil])) (bY:aoh E cs b1 eT (λ_=>10) [] 0 m)
  (cZ:∀tm' m' gE,tm' 1=.I (.X (cs.map bR))->tm' 4=.ptr 261004 0 0->tm' 6=.ptr 261006 0 0->m' 261004=some (0,[.nil,.nil,.nil])->m' 261006=some (0,[.I (.X ((cK (D E) (ao E cs).b1).map ar)),.nil,.ref 261117 gE 1 0 (ao E cs).fM.length])->m' 261117=some (gE,aV na (ao E cs).fM)->cd T K kk (.exit 2) ⟨tm',m'⟩) :
  wp T (u1.body.sub [1,1,1,1,1,0,0]) (cd T K kk) ⟨tm,m⟩:=by
 simp only[u1,er.sub];have aM:=U.hE;have ab:=U.ok;refine cU [0,1,4,6,7] [261004] (λ((f,done,gE):(Nat->Nat)×List (List Nat)×Nat) tm m=>aoh E cs b1 eT f done gE m) (λ(f,_)=>jL (D E) f) (λ_=>10,[],0) (by exact bY) ?_;intro vs ms aJ aH;simp only[go_sem,go_sem_proc,bw,av,bM,bH,b5,fx] at aJ aH;subst aJ aH;clear bw av bM bH b5 fx bY tm m;rintro⟨f,done,gE⟩ tm m L fx bY;simp only[go_sem,go_sem_proc,bk] at L fx;obtain⟨bw,av,bM,bH,b5⟩:=L;obtain⟨⟨P,aEb,bY⟩,⟨jh,NZ⟩,gd,gw,tI,N0,r,EE,a8,rb⟩:=bY;dsimp only at *;have ll:=aoa tI;have iG:=N0;obtain⟨N1,hinv,-⟩:=N0
 have aoi:∀x∈(bA (D E) λi=>(f i:Int)),0<=x/\x<=10:=λx M=>by
  obtain⟨i,-,rfl⟩:=fO.1 M;have:=hinv.le i;omega
 have fC:=aAw ⟨E,cs,bA (D E) λi=>(f i:Int),P,0,b1,eT⟩ m ⟨⟨bY,λk L=>gw k (by omega),λk L=>gw k (by omega),λk L=>gw k (by omega),U,fZ _ _,aEb,aoi⟩,⟨N1,by show Inv (ao E cs) (bb (bA (D E) λi=>(f i:Int))) N1;rw[ll];exact hinv⟩⟩
 dsimp only at fC;have ca:=Day.zp (ab.hex f iG);have hP:∀i,i<(D E)->dx ((ao E cs).top f i):=λi Q=>iY (abR U iG Q) (by omega);simp only[go_sem,go_sem_proc,JF,bH,b5,fC];rintro adO mem' ⟨jr,x2,aoj,wY,BJ⟩;dsimp only at jr aoj wY BJ;rw[ll] at jr;subst jr;have kE:=(BJ 261004 (by decide)).trans fx;have lH:=(BJ 261006 (by decide)).trans NZ;have BK:=(BJ 261117 (by decide)).trans gd;have wM:=wY.r;rw[fZ] at wM
 have N2:(ao E cs).eO f=[]->(ao E cs).fM=done/\(ao E cs).b1=(ao E cs).top f:=λh=>by
  have:=(ao E cs).IV h r;rw[this,gS] at a8;rw[this] at rb;exact⟨a8,by unfold Day.b1;rw[rb]⟩
 have oU:(ao E cs).eO f≠[]->jL (D E) ((ao E cs).ez f ((ao E cs).top f))<jL (D E) f/\Reach (ao E cs) ((ao E cs).ez f ((ao E cs).top f))/\(∀i,D E<=i->(ao E cs).ez f ((ao E cs).top f) i=10)/\∃r,jL (D E) ((ao E cs).ez f ((ao E cs).top f))<=r/\(ao E cs).fM=(done++[(ao E cs).eO f])++((ao E cs).rounds r ((ao E cs).ez f ((ao E cs).top f))).1/\(ao E cs).mE=((ao E cs).rounds r ((ao E cs).ez f ((ao E cs).top f))).2:=λb6=>by
  have az:=Ry ab ab.hex iG b6;have fz:jL (D E) ((ao E cs).ez f ((ao E cs).top f))<jL (D E) f:=az;refine⟨fz,iG.next ab ab.hex,aob (d:=ao E cs) tI,?_⟩
  cases r with
  |zero=>omega
  |succ r =>
   rw[Day.rounds,ag b6] at a8 rb;exact⟨r,by omega,by rw[a8];simp,rb⟩
 simp only[go_sem,go_sem_proc,b5,lH,wM];have qy:bb (bA (D E) λi=>(f i:Int))=f:=ll;refine aAP T hQ lK iq E cs U (bA (D E) λi=>(f i:Int)) (fZ _ _) aoi ((ao E cs).top f) hP 0 b1 (fN (mem' 261080)) (.ref 261027 eT 1 0 (D x2)) (.ref 261117 gE 1 0 (D done)) _ _ ⟨⟨.I (.bool false),?_⟩,?_,?_⟩ ?_ ?_ ?_ ?_ ?_ ?_ ?_ ?_ ?_
 all_goals first|(intro x5 b7 sB ev cB gQ fj iy kv N3 jN)|(simp only[dk,cp,if_false,if_true,bw,av,bM,bH,b5];done)|(simp only[a9,cp,if_false,if_true];done)|(simp only[a9,cp,if_false];rw[fZ];exact wM)|(simp only[a9,cp,if_false];exact wY.f)|skip
 rw[qy] at kv N3;have Fw:n3 (ao E cs) f ((ao E cs).top f) (D E)=(ao E cs).eO f:=rfl;rw[Fw] at kv N3;have rE:b7 261004=some (0,[.nil,.nil,.nil]):=(jN 261004 (by decide)).trans (by simp only[a9,cp,if_false];exact kE);have Tp:b7 261006=some (0,[.I (.X ((cK (D E) ((ao E cs).top f)).map ar)),.nil,.ref 261117 gE 1 0 (D done)]):=(jN 261006 (by decide)).trans (by simp only[a9,cp,if_false,if_true]);have adP:b7 261117=some (gE,aV na done):=(jN 261117 (by decide)).trans (by simp only[a9,cp,if_false];exact BK);have adQ:b7 261029=some (0,[.I (.X (E.map ae)),.I (.X (cs.map bR)),.ref 261042 b1 1 0 (D E),.ref 261027 eT 1 0 (D x2),.I (.bool false)]):=(jN 261029 (by decide)).trans (by simp only[a9,cp,if_false];exact wM);have aok:b7 261042=some (b1,(bA (D E) λi=>(f i:Int)).map dR):=(jN 261042 (by decide)).trans (by simp only[a9,cp,if_false];exact wY.f);have aol:b7 261027=some (eT,x2.map h5):=(jN 261027 (by decide)).trans (by simp only[a9,cp,if_false];exact wY.p);have mb:∀(k j:Nat),k/1000≠261->j/1000=261->k≠j:=λk j G J h=>G (h ▸ J)
 have Tn:∀k:Nat,k/1000≠261->b7 k=none:=λk G=>(jN k (mb k _ G (by decide))).trans (by
  rw[dg (mb k _ G (by decide)),dg (mb k _ G (by decide)),BJ k (mb k _ G (by decide))];exact gw k G)
 clear jN wY BJ kE lH BK wM NZ gd gw fx bw av bM bH b5 a8 rb fC
 by_cases b6:(ao E cs).eO f=[]
 ·obtain⟨G,J⟩:=N2 b6;rw[b6] at kv;rw[G,J] at cZ;have nA:(((0:Nat):Int)==0)=true:=rfl;simp only[go_sem,go_sem_proc,ev,cB,gQ,fj,iy,kv,nA,nC];refine cZ _ _ gE ?_ ?_ ?_ rE Tp adP<;>simp only[dk,cp,if_false,cB,gQ,fj]
 ·obtain⟨G,J,af,aT⟩:=oU b6;have St:((ao E cs).eO f).length<=D E:=e4 (pc _ _) (by rw[r1];exact cH _);have yi:∀i∈(ao E cs).eO f,i<D E:=λi Q=>(Day.Db.1 Q).1
  have nA:((((ao E cs).eO f).length:Int)==0)=false:=by
   have:((ao E cs).eO f).length≠0:=λh=>b6 (x3.1 h);rw[beq_eq_false_iff_ne];omega
  simp only[go_sem,go_sem_proc,ev,cB,gQ,fj,iy,kv,nA];refine aAQ T Du E cs U f ((ao E cs).top f) hP ((ao E cs).eO f) yi St 0 b1 sB (.ref 261027 eT 1 0 (D x2)) (.ref 261117 gE 1 0 (D done)) (.I (.bool false)) _ _ adQ aok Tp ?_ ?_ ?_ ?_ ?_ ?_ ?_ N3 ?_
  all_goals first|(intro Zs gG aEc Ds A5 CY S5 S6 aom zz)|(simp only[dk,cp,if_false,if_true,ev,cB,gQ,fj,iy,kv];done)
  have aEd:=aD9 (d:=ao E cs) (f:=f) (n:=D E) rfl;rw[aEd] at aom;have bL:=(zz 261004 (by decide)).trans rE;have Zr:=(zz 261006 (by decide)).trans Tp;have aEe:=(zz 261117 (by decide)).trans adP;have aEf:=(zz 261029 (by decide)).trans adQ;have aEg:=(zz 261027 (by decide)).trans aol;have aEh:=(zz 261080 (by decide)).trans N3;have aEi:∀k:Nat,k/1000≠261->gG k=none:=λk G=>(zz k (mb k _ G (by decide))).trans (Tn k G);clear zz rE Tp adP adQ aol N3 Tn aok cZ N2 oU
  have Ed:(D done)+1<=50:=by
   obtain⟨zX,-,bx,-⟩:=aT;have b0:=NY (ao E cs) (10*(ao E cs).n) λ_=>10;have bV:(ao E cs).fM.length<=10*D E:=b0;rw[bx] at bV;simp only[fX,sg] at bV;omega
  generalize (ao E cs).eO f=aI at *;have ke:=λ(K:bo->Prop) (st:bo)=>oW (K:=K) (st:=st) uT 9 261080 sB aI;have dv:=jm Tm aoc 261117 gE 24 done aI (cs:=[.I (.X (aI.map hj))]) rfl (by omega) (by omega);simp only[go_sem,go_sem_proc,aEc,Ds,A5,CY,S5,S6,bL,Zr,aEe,aEh,ke,dv];refine⟨((ao E cs).ez f ((ao E cs).top f),done++[aI],gE+1),G,⟨⟨x2,aoj,⟨?_,?_,?_⟩⟩,⟨.I (.X ((cK (D E) ((ao E cs).top f)).map ar)),?_⟩,?_,?_,af,J,aT⟩⟩
  ·rw[dg (by decide),dg (by decide),dg (by decide),aEf,fZ]
  ·rw[dg (by decide),dg (by decide),dg (by decide)];exact aom
  ·rw[dg (by decide),dg (by decide),dg (by decide)];exact aEg
  ·rw[jg,fX];rfl
  ·rw[dg (by decide),jg]
  ·intro k L;rw[dg (mb k _ L (by decide)),dg (mb k _ L (by decide)),dg (mb k _ L (by decide))];exact aEi k L
theorem Alike.b1 {d e:Day}(h:Alike d e):d.b1=e.b1:=by unfold Day.b1 Day.mE;rw[h.top,h.rounds,h.n]
theorem Alike.fM {d e:Day}(h:Alike d e):d.fM=e.fM:=by unfold Day.fM;rw[h.rounds,h.n]
structure Gl (E:List Int) (cs:List aG):Prop where
 n:(D E)<=1000000
 c:(D cs)<=1000000
 tF:hk E cs=true->fV E cs
def mH (E:List Int)(cs:List aG):List a7:=cs.map λc=>al (dC cs ((ao E cs).b1 c.1.toNat) c)
def mI (E:List Int)(cs:List aG):List a7:=cK (D E) (ao E cs).b1
def yj (E:List Int)(cs:List aG):Data:=if hk E cs=true then .c1 [.agg [.X ((mI E cs).map ar),.X ((mH E cs).map ar),.X ((ao E cs).fM.map na)],.int .i64 0] else .c1 [.agg [.X [],.X [],.X []],.int .i64 1]
theorem aEj {E:List Int}{cs:List aG}(U:fV E cs):BG cs ((eN (D E)).map (ao E cs).b1):=by
 have Y:=(il.1 U.right).2.2.2;have aM:=U.hE;refine⟨U.qF,by simp;exact aM,λc H=>?_,λx M=>?_⟩
 ·have G:=Y c H;have J:=U.am c H;rw[aE,r1];omega
 ·obtain⟨i,Q,rfl⟩:=fO.1 M;have lR:=iM.1 Q;exact⟨abP U.ok lR,(MY U lR).mono (by omega)⟩
theorem aEk {E:List Int}{cs:List aG}(U:fV E cs):(cs.map λc=>al (dC cs (((eN (D E)).map (ao E cs).b1).getD c.1.toNat 0) c))=mH E cs:=oi λc H=>by
 have G:=(il.1 U.right).2.2.2 c H;have:((eN (D E)).map (ao E cs).b1).getD c.1.toNat 0=(ao E cs).b1 c.1.toNat:=BC (ao E cs).b1 0 (show c.1.toNat<(D E) by omega);rw[this]
def JG:=cn FP λ(E,cs)=>cN (Gl E cs) (.same (yj E cs))
@[go_sem] theorem adR (E:List Int)(cs:List aG)(H:Gl E cs):JG [.X (E.map ae),.X (cs.map bR)]=some (.same (yj E cs)):=(cz MV (E,cs)).trans (cX H _)
theorem aEl (T:bl)(tM:T K3=aQ SC)(Tq:T Vm=uL adj)(JE:T Pu=uL NH)(iE:T ou=aQ u3)(kJ:T pF=aQ vY)(zB:T Ev=aQ Jh)(vd:T K5=aQ NS)(E:List Int)(cs:List aG)(H:Gl E cs):WP T E4 (.same (yj E cs)) [.I (.X (E.map ae)),.I (.X (cs.map bR))]:=by
 refine cD ?_;simp only[E4];obtain⟨mR,ix,pP⟩:=H;unfold yj;rcases Y:hk E cs
 ·rw[ag (by decide)];refine ak ?_;repeat' (intro (ay:_=_)<;>simp only[ay,go_sem,go_sem_proc,tM,Tq,JE,iE,kJ,zB,vd,mR,ix,Y,db]<;>try refine ai ?_ ?_)
 ·rw[ad rfl];have U:=pP Y;have aM:=U.hE;have N4:=ale Y
  have gw:ld 228 (a9 emp 217004 0 [R.nil,R.nil,R.nil]):=λk L=>by
   rw[dg (by rintro rfl;omega)];rfl
  have fC:=aCI E cs (a9 emp 217004 0 [R.nil,R.nil,R.nil]) ⟨U,gw⟩;simp only[go_sem,go_sem_proc,tM,Tq,mR,ix,Y,fC,cw];rintro adO m ⟨g,gs,rfl,bY,bD⟩;dsimp only at bY;have fx:m 217004=some (0,[.nil,.nil,.nil]):=(bD 217004 (by decide)).trans jg;have lC:m 217007=none:=(bD 217007 (by decide)).trans (dg (by decide));simp only[go_sem,go_sem_proc,lC];refine aD6 T JE iE kJ zB E cs U g gs (.I (.X (cs.map bR))) _ _ ?_ ?_ ?_ ?_ ?_ ⟨⟨λ_=>false,?_⟩,⟨0,rfl,?_⟩,λh=>absurd rfl h,?_,λ_ _=>rfl,Reach.start (abN U).ok,⟨10*D E,?_,rfl,rfl⟩⟩ ?_
  all_goals first|(intro x5 b7 gE cB gQ iy kE qH To)|(simp only[dk,cp,if_false,if_true];done)|(simp only[dk,cp,if_false];rfl)|(simp only[a9,cp,if_false,if_true];done)|(simp only[a9,cp,if_false,if_true];rfl)|(simp only[a9,cp,if_false];exact fx)|skip
  ·exact bY.up aM (by decide)
  ·intro k G J;rw[dg (by rintro rfl;exact G (by decide)),bD k J,dg (by rintro rfl;exact G (by decide))];rfl
  ·rw[abO];exact cH _
  rw[<-N4.b1,<-N4.fM] at qH;rw[<-N4.fM] at To;have BI:=anU cs ((eN (D E)).map (ao E cs).b1) (aEj U);rw[aEk U] at BI;replace BI:NS [.X (cs.map bR),.X ((mI E cs).map ar)]=some (.same (.c1 [.X ((mH E cs).map ar),.bool true])):=BI;replace qH:b7 217007=some (0,[.I (.X ((mI E cs).map ar)),.nil,zM (ao E cs).fM gE]):=qH;generalize mI E cs=DI at *;generalize mH E cs=yf at *;generalize (ao E cs).fM=tN at *;clear N4 fC bY bD fx lC
  by_cases qy:tN=[]
  ·subst qy;replace qH:b7 217007=some (0,[.I (.X (DI.map ar)),.nil,.nil]):=qH;simp only[go_sem,go_sem_proc];refine adb ?_;rintro bn rfl;refine ak ?_;repeat' (intro (ay:_=_)<;>simp only[ay,go_sem,go_sem_proc,tM,Tq,JE,iE,kJ,zB,vd,cB,gQ,iy,kE,qH,BI,cw,cC]<;>try refine ai ?_ ?_)
  ·have FZ:=To qy;have yi:zM tN gE=.ref 217077 gE 1 0 (D tN):=by unfold zM;rw[ag qy]
   rw[yi] at qH;simp only[go_sem,go_sem_proc];refine ada (sL.Ov 217007 0 _ 2 217077 gE 1 0 (D tN) _ (.X (tN.map na)) qH rfl FZ (by decide) (jU (n:=0) Tm FZ)) ?_;intro bn e2;have aEm:bn 217007=some (0,[.I (.X (DI.map ar)),.nil,.I (.X (tN.map na))]):=by rw[e2,jg];rfl
   have uK:bn 217004=some (0,[.nil,.nil,.nil]):=by
    rw[e2,dg (by decide)];unfold kill;rw[dg (by decide)];exact kE
   clear e2;refine ak ?_;repeat' (intro (ay:_=_)<;>simp only[ay,go_sem,go_sem_proc,tM,Tq,JE,iE,kJ,zB,vd,cB,gQ,iy,uK,aEm,BI,cw]<;>try refine ai ?_ ?_)
theorem Tr (a b:List aG)(w:Int):c7 (a++b) w=c7 a w++c7 b w:=by unfold c7;rw[sw]
theorem aon {cs:List aG}{i:Nat}{c:aG}(h:cs[i]?=some c):(c7 cs c.1)[(c7 (cs.take i) c.1).length]?=some c:=by
 have e:cs=cs.take i++(c::cs.drop (i+1)):=by
  obtain⟨az,H⟩:=ej.1 h;have:=List.drop_eq_getElem_cons az;rw[H] at this;rw[<-this,vz]
 have aB:c7 cs c.1=c7 (cs.take i) c.1++c7 (c::cs.drop (i+1)) c.1:=by
  rw[<-Tr,<-e]
 rw[aB,nc (cH _),jy];unfold c7;rw[rB (by simp)];rfl
theorem aoo (cs:List aG)(w:Int):(c7 cs w).length<=D cs:=by unfold c7;exact pc _ _
theorem aEn (T:bl){K:eI->bo->Prop}{kk:List fJ}(cs:List aG)(aw:(D cs)<=12)(i:Nat)(c:aG)(H:cs[i]?=some c)(v4 v6 Ts:R)(eC jh Gm yk:Option (Nat×List R))(tm:Nat->R)(m:Mem)
  (av:tm 1=.I (.X (cs.map bR))) (bM:tm 4=v4) (bH:tm 6=v6) (fo:tm 12=.I (.int .i64 i)) (gu:tm 13=Ts) (kj:tm 15=.I (.int .i64 0)) (uR:tm 16=.I (.int .i64 0)) (fx:m 261004=eC) (gV:m 261006=jh) (n4:m 261117=Gm) (j0:m 261172=yk)
  (cZ:∀tm' m',tm' 1=.I (.X (cs.map bR))->tm' 4=v4->tm' 6=v6->tm' 12=.I (.int .i64 i)->tm' 13=Ts->tm' 15=.I (.int .i64 (c7 (cs.take i) c.1).length)->m' 261004=eC->m' 261006=jh->m' 261117=Gm->m' 261172=yk->cd T K kk (.exit 10) ⟨tm',m'⟩) :
  wp T (u1.body.sub [1,1,1,1,1,1,0,1,0,0,1,0,0,1,1,1,0,1,0]) (cd T K kk) ⟨tm,m⟩:=by
 simp only[u1,er.sub];have Q:=(ej.1 H).1;refine cU [1,4,6,12,13] [261004,261006,261117,261172] (λ(k:Nat) tm m=>k<=i/\tm 16=.I (.int .i64 k)/\tm 15=.I (.int .i64 (c7 (cs.take k) c.1).length)) (λk=>i-k) 0 (by refine⟨by omega,uR,kj⟩) ?_;intro vs ms aJ aH;simp only[go_sem,go_sem_proc,av,bM,bH,fo,gu,fx,gV,n4,j0] at aJ aH;subst aJ aH;clear av bM bH fo gu kj uR fx gV n4 j0 tm m;rintro k tm m L hm ⟨k9,uR,kj⟩;simp only[go_sem,go_sem_proc,bk] at L hm;obtain⟨av,bM,bH,fo,gu⟩:=L;obtain⟨fx,gV,n4,j0⟩:=hm;rcases dc (k<i) with az|b2
 ·have d1:decide ((k:Int)<(i:Int))=true:=cT;have bG:=ec (i:=k) (by omega);obtain⟨⟨cE,cO,ei,eS⟩,M⟩:∃c,cs[k]?=some c:=⟨_,bq (by omega)⟩;have gm:cs.take (k+1)=cs.take k++[(cE,cO,ei,eS)]:=by rw[gB,M];rfl
  have D6:=aoo (cs.take k) c.1;rw[gv] at D6;have m0:IntKind.i64.wrap (((c7 (cs.take k) c.1).length:Int)+1)=(((c7 (cs.take k) c.1).length+1:Nat):Int):=by rw[fh _];omega
  obtain⟨aq,c2,c3,c4⟩:=c;dsimp only at *;rcases q:(cE==aq)
  ·have U:c7 (cs.take (k+1)) aq=c7 (cs.take k) aq:=by
    rw[gm,Tr];have:c7 [(cE,cO,ei,eS)] aq=[]:=by unfold c7;rw[tC (by simpa using q)];rfl
    rw[this,gS]
   refine ak ?_;repeat' (intro h<;>simp only[h,go_sem,go_sem_proc,av,bM,bH,fo,gu,kj,uR,fx,gV,n4,j0,M,H,d1,bG,q,bR,aE,bj]<;>try refine ai ?_ ?_)
   exact⟨k+1,by omega,by omega,rfl,by rw[U]⟩
  ·have U:(c7 (cs.take (k+1)) aq).length=(c7 (cs.take k) aq).length+1:=by
    rw[gm,Tr];have:c7 [(cE,cO,ei,eS)] aq=[(cE,cO,ei,eS)]:=by unfold c7;rw[rB (by simpa using q)];rfl
    rw[this,fX];rfl
   refine ak ?_;repeat' (intro h<;>simp only[h,go_sem,go_sem_proc,av,bM,bH,fo,gu,kj,uR,fx,gV,n4,j0,M,H,d1,bG,m0,q,bR,aE,bj]<;>try refine ai ?_ ?_)
   exact⟨k+1,by omega,by omega,rfl,by rw[U]⟩
 ·have d1:decide ((k:Int)<(i:Int))=false:=cl;obtain rfl:k=i:=by omega
  refine ak ?_;repeat' (intro h<;>simp only[h,go_sem,go_sem_proc,av,bM,bH,fo,gu,kj,uR,d1]<;>try refine ai ?_ ?_)
  refine cZ _ _ ?_ ?_ ?_ ?_ ?_ ?_ fx gV n4 j0<;>simp only[dk,cp,if_false,av,bM,bH,fo,gu,kj]
theorem aEo (T:bl)(qN:T Ew=aQ Jf){K:eI->bo->Prop}{kk:List fJ}(E:List Int)(cs:List aG)(U:fV E cs)(adS:R)(hy:Nat)(eC Gm:Option (Nat×List R))(tm:Nat->R)(m:Mem)
  (av:tm 1=.I (.X (cs.map bR))) (bM:tm 4=.ptr 261004 0 0) (bH:tm 6=.ptr 261006 0 0) (fo:tm 12=.I (.int .i64 0)) (fx:m 261004=eC) (gV:m 261006=some (0,[.I (.X ((mI E cs).map ar)),.ref 261172 hy 4 0 0,adS])) (n4:m 261117=Gm) (j0:m 261172=some (hy,[]))
  (cZ:∀tm' m' g,tm' 4=.ptr 261004 0 0->tm' 6=.ptr 261006 0 0->m' 261004=eC->m' 261006=some (0,[.I (.X ((mI E cs).map ar)),.ref 261172 g 4 0 (mH E cs).length,adS])->m' 261117=Gm->m' 261172=some (g,aV ar (mH E cs))->cd T K kk (.exit 8) ⟨tm',m'⟩) :
  wp T (u1.body.sub [1,1,1,1,1,1,0,1,0]) (cd T K kk) ⟨tm,m⟩:=by
 simp only[u1,er.sub];have eP:=U.qF;have jr:=(il.1 U.right).2.2.2;have ia:(mH E cs).length=D cs:=by unfold mH;rw[aE]
 refine cU [1,4,6] [261004,261117] (λ((i,g):Nat×Nat) tm m=>i<=D cs/\tm 12=.I (.int .i64 i)/\m 261006=some (0,[.I (.X ((mI E cs).map ar)),.ref 261172 g 4 0 i,adS])/\m 261172=some (g,aV ar ((mH E cs).take i))) (λ(i,_)=>D cs-i) (0,hy) (by refine⟨by omega,fo,gV,j0⟩) ?_;intro vs ms aJ aH;simp only[go_sem,go_sem_proc,av,bM,bH,fx,n4] at aJ aH;subst aJ aH;clear av bM bH fo fx gV n4 j0 tm m;rintro⟨i,g⟩ tm m L hm ⟨Q,fo,gV,j0⟩;simp only[go_sem,go_sem_proc,bk] at L hm;obtain⟨av,bM,bH⟩:=L;obtain⟨fx,n4⟩:=hm;rcases dc (i<D cs) with az|b2
 ·have d1:decide ((i:Int)<(D cs:Int))=true:=cT;have bG:=ec (i:=i) (by omega);obtain⟨⟨aq,c2,c3,c4⟩,M⟩:∃c,cs[i]?=some c:=⟨_,bq az⟩;have iG:=jr _ (dn M);dsimp only at iG;obtain⟨aq,rfl⟩:∃k:Nat,aq=(k:Int):=⟨aq.toNat,by omega⟩
  have gb:aq<D E:=by omega
  have dG:=amk cs aq ((ao E cs).b1 aq) ⟨⟨U.own aq,abP U.ok gb,(MY U gb).mono (by omega)⟩,by omega⟩
  have p0:(mI E cs)[aq]?=some (al ((ao E cs).b1 aq)):=pY _ gb;have aop:=aon M;dsimp only at aop
  have aEp:(mH E cs)[i]?=some (al (dC cs ((ao E cs).b1 aq) ((aq:Int),c2,c3,c4))):=by
   unfold mH;rw[bj,M,lu,jE]
  have adw:((c7 cs aq).map λc=>al (dC cs ((ao E cs).b1 aq) c))[(c7 (cs.take i) aq).length]?=some (al (dC cs ((ao E cs).b1 aq) ((aq:Int),c2,c3,c4))):=by
   rw[bj,aop];rfl
  have gm:(mH E cs).take (i+1)=(mH E cs).take i++[al (dC cs ((ao E cs).b1 aq) ((aq:Int),c2,c3,c4))]:=by rw[gB,aEp];rfl
  have m2:((mH E cs).take i).length=i:=by rw[gv,ia];omega
  have dv:=λ(aR:a7) qV jj=>jm iT v5 261172 g 64 ((mH E cs).take i) aR (cs:=qV) jj (by omega) (by omega);rw[m2] at dv;have aoq:=λ(K:eI->bo->Prop) (kk:List fJ) v4 v6 Ts eC jh Gm yk tm m=>aEn T (K:=K) (kk:=kk) cs eP i _ M v4 v6 Ts eC jh Gm yk tm m;dsimp only at aoq;generalize ((c7 cs aq).map λc=>al (dC cs ((ao E cs).b1 aq) c))=yf at *;generalize al (dC cs ((ao E cs).b1 aq) ((aq:Int),c2,c3,c4))=P at *;generalize al ((ao E cs).b1 aq)=gf at *;generalize mI E cs=DI at *;obtain⟨⟨ic,kr⟩,⟨o5,o6⟩⟩:=P;obtain⟨⟨cE,cO⟩,⟨ei,eS⟩⟩:=gf;have kI:=dv ((ic,kr),(o5,o6)) _ rfl;rw[<-gm] at kI;simp only[ar,ey,cC] at dG kI;simp only[go_sem,go_sem_proc,qN,av,bH,fo,gV,M,d1,p0,dG,bR,ar,aE,bj,bne,beq_self_eq_true,cw];refine aoq _ _ (.ptr 261004 0 0) (.ptr 261006 0 0) (.I (.X (yf.map ar))) _ _ _ _ _ _ ?_ ?_ ?_ ?_ ?_ ?_ ?_ fx gV n4 j0 ?_
  all_goals first|(intro x5 b7 cB gQ fj mZ r9 ac5 kE lH BK zN)|(simp only[dk,cp,if_false,if_true,av,bM,bH,fo];done)
  refine ak ?_;repeat' (intro h<;>simp only[h,go_sem,go_sem_proc,cB,gQ,fj,mZ,r9,ac5,kE,lH,BK,zN,adw,kI,bG,ar,aE,bj,uP,mx]<;>try refine ai ?_ ?_)
  exact⟨(i+1,g+1),by dsimp only;omega,by dsimp only;omega,rfl,rfl,rfl⟩
 ·have d1:decide ((i:Int)<(D cs:Int))=false:=cl;rw[dp (by rw[ia];omega)] at j0;have pV:i=(mH E cs).length:=by rw[ia];omega
  rw[pV] at gV;refine ak ?_;repeat' (intro h<;>simp only[h,go_sem,go_sem_proc,av,bM,bH,fo,d1,aE]<;>try refine ai ?_ ?_)
  refine cZ _ _ g ?_ ?_ fx gV n4 j0<;>simp only[dk,cp,if_false,bM,bH]
theorem adT {E:List Int}{cs:List aG}:xY E cs=true↔(D E)<=5/\D cs<=12/\(∀x∈E,1000000<x->1000000000000000<x)/\∀c∈cs,1000000<c.2.2.2->1000000000000000<c.2.2.2:=by
 have aC:∀m:Int,nZ m=true↔(1000000<m->1000000000000000<m):=λm=>by
  unfold nZ
  by_cases G:m>1000000<;>by_cases J:m<=1000000000000000<;>simp[G,J]<;>omega
 unfold xY;simp only[fw,I0,decide_eq_false_iff_not,pz,aC]
 constructor
 ·rintro⟨G,J,af,aT⟩;exact⟨by omega,by omega,af,aT⟩
 ·rintro⟨G,J,af,aT⟩;exact⟨by omega,by omega,af,aT⟩
theorem aEq {E:List Int}{cs:List aG}(aC:xY E cs=true)(Y:hk E cs=true):(∀x∈E,0<=x/\x<=1000000)/\∀c∈cs,0<=c.2.2.2/\c.2.2.2<=1000000:=by
 obtain⟨-,-,af,aT⟩:=adT.1 aC;obtain⟨-,-,bx,b0⟩:=il.1 Y;refine⟨λx M=>?_,λc H=>?_⟩
 ·have:=af x M;have:=bx x M;omega
 ·have:=aT c H;have:=b0 c H;omega
theorem aor {E:List Int}{cs:List aG}(aC:xY E cs=true)(Y:hk E cs=true):fV E cs:=by
 obtain⟨G,J,-,-⟩:=adT.1 aC;exact⟨Y,G,J,λc H=>by have:=(aEq aC Y).2 c H;omega⟩
theorem adU {E:List Int}{cs:List aG}(aC:xY E cs=true):Gl E cs:=by
 obtain⟨G,J,-,-⟩:=adT.1 aC;exact⟨by omega,by omega,aor aC⟩
theorem aEr {f:a7}{d:Nat}(Y:di f=true)(aC:zc f d=true):eA (20*d) (pK f):=by
 obtain⟨e,G,J⟩:=RG Y;unfold zc at aC;simp only[fw,decide_eq_true_eq] at aC;obtain⟨cQ,dd⟩:=aC;rw[e] at cQ dd;have cB:=gC.1 (show (aP (pK f).num.natAbs).length<=d from aos.1 cQ);have dA:=gC.1 (show (aP ((pK f).den:Int).natAbs).length<=d from aos.1 dd);rw[Int.natAbs_natCast] at dA;have vI:(1048576:Nat)^d=2^(20*d):=by rw[Nat.pow_mul]
 rw[vI] at cB dA;exact⟨HV cB,HV dA⟩
theorem aEs {l:List a7}{n d:Int}(aM:n<=1000)(ab:d<=1000)(h:v9 l n d=true):hC l:=by
 unfold v9 zc at h;simp only[fw,decide_eq_true_eq,pz] at h;exact⟨by omega,λf aC=>⟨by have:=h.2 f aC;omega,by have:=h.2 f aC;omega⟩⟩
theorem aot {E:List Int}{cs:List aG}{aD:List a7}(aC:xY E cs=true)(aY:v9 aD 6 2=true):DE E cs aD:=by
 have H:=adU aC;refine⟨H.n,H.c,aEs (by omega) (by omega) aY,H.tF,λ_ _ aW f yi=>?_⟩;obtain⟨G,J⟩:=adK aW
 have qy:di f=true:=by
  rw[G] at yi;obtain⟨x,M,rfl⟩:=fO.1 yi;exact FL (J x M).2
 unfold v9 at aY;simp only[fw,decide_eq_true_eq,pz] at aY;exact (aEr (d:=2) qy (aY.2 f yi)).mono (by omega)
section
variable {E:List Int} {cs:List aG} (U:fV E cs)
include U
theorem aou:hC (mI E cs):=by
 have:=U.hE;exact RL (by omega) λi Q=>iY (MY U Q) (by omega)
theorem aEt:(mI E cs).any (lD mn)=false/\p1 (mI E cs)=(eN (D E)).map (ao E cs).b1:=by
 refine⟨?_,?_⟩
 ·rw[wi];intro f aC;obtain⟨y,aj,rfl⟩:=fO.1 aC;obtain⟨i,Q,rfl⟩:=fO.1 aj;have lR:i<D E:=iM.1 Q;have aw:=iY (MY U lR) (by omega);have aM:=abP U.ok lR;rw[H0];show ¬ (!di (al ((ao E cs).b1 i))||decide ((al ((ao E cs).b1 i)).1.1<0))=true;rw[FL aw];have:decide ((ao E cs).b1 i<0)=false:=h7 (by grind);rw[<-aco] at this;have J:decide ((al ((ao E cs).b1 i)).1.1<0)=false:=this;rw[J];decide
 ·unfold p1 mI cK;rw[oj];exact (oi λx _=>EX x).trans (an6 _)
theorem aEu:DE E cs (mI E cs)/\yh E cs (mI E cs)=true:=by
 obtain⟨G,J⟩:=aEt U;have aM:=U.hE;have eP:=U.qF;refine⟨⟨by omega,by omega,aou U,λ_=>U,λ_ _ _ f aC=>?_⟩,?_⟩
 ·obtain⟨y,aj,rfl⟩:=fO.1 aC;obtain⟨i,Q,rfl⟩:=fO.1 aj;rw[EX];exact (MY U (iM.1 Q)).mono (by omega)
 ·unfold yh;have aw:(mI E cs).length=D E:=nX _ _;rw[U.right,G,jw aw,fD,fD,db,fD,adI,J];intro i Q;have M:=aDB U i Q
  have jj:n9 E cs (λi=>((eN (D E)).map (ao E cs).b1).getD i 0) i cs=n9 E cs (ao E cs).b1 i cs:=by
   have Y:=(il.1 U.right).2.2.2
   have key:∀n (l:List aG),D l=n->(∀c∈l,c∈cs)->n9 E cs (λi=>((eN (D E)).map (ao E cs).b1).getD i 0) i l=n9 E cs (ao E cs).b1 i l:=by
    intro n
    induction n with
    |zero=>intro l aw _;rw[x3.1 aw];rfl
    |succ n aN =>
     intro l aw hm;rcases yN l with ax|⟨m,c,rfl⟩
     ·subst ax;cases aw
     ·rw[yO] at *;simp only[fX,sg] at aw;have H:=Y c (hm c (by simp));rw[Gj,Gj,aN m (by omega) λy aj=>hm y (by simp[aj])];unfold yg;have:((eN (D E)).map (ao E cs).b1).getD c.1.toNat 0=(ao E cs).b1 c.1.toNat:=BC (ao E cs).b1 0 (show c.1.toNat<(D E) by omega);simp only[this]
   exact key _ cs rfl λc H=>H
  rw[jj,M];show _=some ((bA (D E) (ao E cs).b1).getD i 0);rw[BC (ao E cs).b1 0 Q]
end
def oa (l:List Int):List Data:=[.X (l.map ae)]
theorem adV:∀a b:List Int,oa a=oa b->a=b:=by
 intro a b h;simp only[oa,bk,Data.X.injEq,and_true] at h;exact map_inj gx _ _ h
def yl (a:List (List Int)):Prop:=D a<=1000000/\∀l∈a,D l<=1000000
theorem aov (l:List (List Nat)):l.map na=(l.map λr=>r.map λn=>((n:Nat):Int)).map oa:=by
 rw[oj];refine oi λr _=>?_;simp only[na,oa,Function.comp_apply,oj]
 rfl
theorem aow {x:Rat}(M:dx x):vS [.agg (ar (al x))]=some (.same (.bool true)):=by
 have G:=jY M;have:=atV (al x).1.1 (al x).1.2 (al x).2.1 (al x).2.2 ⟨G.1,G.2⟩;rw[show di (((al x).1.1,(al x).1.2),((al x).2.1,(al x).2.2))=true from FL M] at this;exact this
theorem aox {n:Int}(h:dr n):RX [.int .i64 n]=some (.same (.agg (ar (al (n:Rat))))):=azo n h
theorem adW (x:Rat):jV x x=0:=ahT.2 rfl
abbrev adX:(List (List Int))×(List (List Int))->List Data:=λ(a,b)=>[.X (a.map oa),.X (b.map oa)]
def Tt:=cn adX λ(a,b)=>cN (yl a/\yl b) (.same (.bool (a==b)))
theorem aEv:∀a b,adX a=adX b->a=b:=by
  rintro⟨cE,c0⟩ ⟨cO,ee⟩ h;simp only[bk,Data.X.injEq,and_true] at h;exact dN (map_inj adV _ _ h.1) (map_inj adV _ _ h.2)
@[go_sem] theorem aoy (a:List (List Int))(b:List (List Int))(H:yl a/\yl b):Tt [.X (a.map oa),.X (b.map oa)]=some (.same (.bool (a==b))):=(cz aEv (a,b)).trans (cX H _)
theorem aEw (T:bl)  (a:List (List Int)) (b:List (List Int)) (H:yl a/\yl b):WP T abo (.same (.bool (a==b))) [.I (.X (a.map oa)),.I (.X (b.map oa))]:=by
 refine cD ?_;simp only[abo];obtain⟨⟨aMn,aab⟩,⟨aMo,aMp⟩⟩:=H;rcases aw:((D a:Int)==(D b:Int))
 ·have sf:(a==b)=false:=by rw[beq_eq_false_iff_ne];rintro rfl;simp at aw
  rw[sf];refine ak ?_;repeat' (intro h<;>simp only[h,go_sem,go_sem_proc,aw,aE,bne,db]<;>try refine ai ?_ ?_)
 ·have hle:(D a)=D b:=by have:=eq_of_beq aw;omega
  simp only[go_sem,go_sem_proc,aw,aE,bne,cw];refine cU [0,1] [] (λ(i:Nat) tm mem=>i<=D a/\a.take i=b.take i/\tm 5=.I (.int .i64 i)) (λi=>D a-i) 0 (by refine⟨fm _,by simp,rfl⟩) ?_;intro vs ms aJ aH;simp only[go_sem,go_sem_proc] at aJ aH;subst aJ aH;rintro i tm mem L hm ⟨Q,dB,dw⟩;simp only[go_sem,go_sem_proc,bk] at L hm;obtain⟨bw,av⟩:=L;rcases dc (i<D a) with az|b2
  ·have d1:decide ((i:Int)<(D a:Int))=true:=cT;have bG:=ec (i:=i) (by omega);obtain⟨x,M⟩:∃x,a[i]?=some x:=⟨_,bq az⟩;obtain⟨y,aj⟩:∃x,b[i]?=some x:=⟨_,bq (by omega)⟩;have aMq:=aab x (dn M);rcases q:((D x:Int)==(D y:Int))
   ·have sf:(a==b)=false:=by rw[beq_eq_false_iff_ne];rintro rfl;rw[M] at aj;cases aj;simp at q
    rw[sf];refine ak ?_;repeat' (intro h<;>simp only[h,go_sem,go_sem_proc,bw,av,dw,M,aj,d1,q,oa,aE,bj,bne,db]<;>try refine ai ?_ ?_)
   ·have g4:(D x)=D y:=by have:=eq_of_beq q;omega
    simp only[go_sem,go_sem_proc,bw,av,dw,M,aj,d1,q,oa,aE,bj,bne,cw];refine cU [0,1,5] [] (λ(k:Nat) tm mem=>k<=D x/\x.take k=y.take k/\tm 6=.I (.int .i64 k)) (λk=>D x-k) 0 (by refine⟨fm _,by simp,rfl⟩) ?_;intro vs ms aJ aH;simp only[go_sem,go_sem_proc,bw,av,dw] at aJ aH;subst aJ aH;clear bw av dw hm tm mem;rintro k tm mem L hm ⟨rX,adY,bH⟩;simp only[go_sem,go_sem_proc,bk] at L hm;obtain⟨bw,av,dw⟩:=L;rcases dc (k<D x) with aEx|aMr
    ·have d2:decide ((k:Int)<(D x:Int))=true:=cT;have m0:=ec (i:=k) (by omega);obtain⟨u,hu⟩:∃u,x[k]?=some u:=⟨_,bq aEx⟩;obtain⟨v,aD⟩:∃u,y[k]?=some u:=⟨_,bq (by omega)⟩;rcases hg:(u==v)
     ·have sf:(a==b)=false:=by
       rw[beq_eq_false_iff_ne];rintro rfl;rw[M] at aj
       cases aj;rw[hu] at aD
       cases aD;simp at hg
      rw[sf];refine ak ?_;repeat' (intro h<;>simp only[h,go_sem,go_sem_proc,bw,av,dw,bH,M,aj,hu,aD,d2,hg,oa,ae,aE,bj,bne,db]<;>try refine ai ?_ ?_)
     ·have aEy:u=v:=by simpa using hg
      refine ak ?_;repeat' (intro h<;>simp only[h,go_sem,go_sem_proc,bw,av,dw,bH,M,aj,hu,aD,d2,m0,hg,oa,ae,aE,bj,bne,cw]<;>try refine ai ?_ ?_)
      exact⟨k+1,by omega,by omega,by rw[gB,gB,adY,hu,aD,aEy],rfl⟩
    ·have d2:decide ((k:Int)<(D x:Int))=false:=cl;rw[dp (by omega),dp (by omega)] at adY;refine ak ?_;repeat' (intro h<;>simp only[h,go_sem,go_sem_proc,bw,av,dw,bH,M,d2,bG,oa,aE,bj]<;>try refine ai ?_ ?_)
     exact⟨i+1,by omega,by omega,by rw[gB,gB,dB,M,aj,adY],rfl⟩
  ·have d1:decide ((i:Int)<(D a:Int))=false:=cl;rw[dp (by omega),dp (by omega)] at dB;have sf:(a==b)=true:=by rw[dB];exact beq_self_eq_true _
   rw[sf];refine ak ?_;repeat' (intro h<;>simp only[h,go_sem,go_sem_proc,bw,av,dw,d1,aE]<;>try refine ai ?_ ?_)
structure vf (E:List Int) (cs:List aG) (aD da:List Int) (aI:List (List Int)):Prop where
 s:fV E cs
 h:mI E cs=aD.map λn:Int=>al (n:Rat)
 p:mH E cs=da.map λn:Int=>al (n:Rat)
 f:((ao E cs).fM.map λr=>r.map λn=>((n:Nat):Int))=aI
 Q:∀n∈aD,dr n
 pi:∀n∈da,dr n
 o:yl aI
theorem vf.solve {E:List Int}{cs:List aG}{aD da:List Int}{aI:List (List Int)}(h:vf E cs aD da aI):JG [.X (E.map ae),.X (cs.map bR)]=some (.same (.c1 [.agg [.X ((aD.map λn:Int=>al (n:Rat)).map ar),.X ((da.map λn:Int=>al (n:Rat)).map ar),.X (aI.map oa)],.int .i64 0])):=by
 have aM:=h.s.hE;have eP:=h.s.qF;have ym:=adR E cs ⟨by omega,by omega,λ_=>h.s⟩
 unfold yj at ym;rw[ad h.s.right,h.h,h.p,aov,h.f] at ym;exact ym
theorem vf.fits {E:List Int}{cs:List aG}{aD da:List Int}{aI:List (List Int)}(h:vf E cs aD da aI):NW [.X (E.map ae),.X (cs.map bR),.X ((aD.map λn:Int=>al (n:Rat)).map ar)]=some (.same (.bool true)):=by
 obtain⟨G,J⟩:=aEu h.s;have:=an9 E cs (mI E cs) G;rw[J,h.h] at this;exact this
theorem vf.small {E:List Int}{cs:List aG}{aD da:List Int}{aI:List (List Int)}(h:vf E cs aD da aI):(D aD)<=5/\D da<=12:=by
 have G:=congrArg D h.h;have J:=congrArg D h.p;unfold mI at G;unfold mH at J;rw[nX,aE] at G;rw[aE,aE] at J;have aM:=h.s.hE;have eP:=h.s.qF;omega
abbrev adZ:(List Int)×(List aG)×(List Int)×(List Int)×(List (List Int))->List Data:=λ(E,cs,aD,da,aI)=>[.X (E.map ae),.X (cs.map bR),.X (aD.map ae),.X (da.map ae),.X (aI.map oa)]
def ad0:=cn adZ λ(E,cs,aD,da,aI)=>cN (vf E cs aD da aI) (.same (.bool true))
theorem aEz:∀a b,adZ a=adZ b->a=b:=by
  rintro⟨abJ,FO,rR,aEA,aEB⟩ ⟨abK,vy,rS,aEC,aED⟩ h;simp only[bk,Data.X.injEq,and_true] at h;exact dN (map_inj gx _ _ h.1) (dN (map_inj sx _ _ h.2.1) (dN (map_inj gx _ _ h.2.2.1) (dN (map_inj gx _ _ h.2.2.2.1) (map_inj adV _ _ h.2.2.2.2))))
@[go_sem] theorem Tu (E:List Int)(cs:List aG)(aD:List Int)(da:List Int)(aI:List (List Int))(H:vf E cs aD da aI):ad0 [.X (E.map ae),.X (cs.map bR),.X (aD.map ae),.X (da.map ae),.X (aI.map oa)]=some (.same (.bool true)):=(cz aEz (E,cs,aD,da,aI)).trans (cX H _)
theorem aEE (T:bl)(yn:T Eu=aQ JG)(JH:T K6=aQ Tt)(ad1:T Pt=aQ RX)(kJ:T pF=aQ vY)(hB:T lT=aQ vS)(DJ:T K2=aQ NW)(E:List Int)(cs:List aG)(aD:List Int)(da:List Int)(aI:List (List Int))(H:vf E cs aD da aI):WP T abF (.same (.bool true)) [.I (.X (E.map ae)),.I (.X (cs.map bR)),.I (.X (aD.map ae)),.I (.X (da.map ae)),.I (.X (aI.map oa))]:=by
 refine cD ?_;simp only[abF];have ym:=H.solve;have aEF:=H.fits;have aoz:=aoy aI aI ⟨H.o,H.o⟩;rw[beq_self_eq_true] at aoz;obtain⟨ed,aa⟩:=H.small;have jQ:=H.Q;have oV:=H.pi;clear H;simp only[go_sem,go_sem_proc,yn,JH,ym,aoz,aE,bne,beq_self_eq_true,cw];refine cU [0,1,2,3,11] [226011] (λ(i:Nat) tm mem=>i<=D aD/\tm 13=.I (.int .i64 i)) (λi=>D aD-i) 0 (by refine⟨fm _,rfl⟩) ?_;intro vs ms aJ aH;simp only[go_sem,go_sem_proc] at aJ aH;subst aJ aH;rintro i tm mem L hm ⟨Q,gu⟩;simp only[go_sem,go_sem_proc,bk] at L hm;obtain⟨bw,av,aB,bp,iW⟩:=L;rcases dc (i<D aD) with az|b2
 ·have d1:decide ((i:Int)<(D aD:Int))=true:=cT;have bG:=ec (i:=i) (by omega);obtain⟨n,aM⟩:∃n,aD[i]?=some n:=⟨_,bq az⟩;have cI:=jQ n (dn aM);have aw:=oI cI;have cE:=aox cI;have cO:=I8 aw aw;have ei:=aow aw;rw[adW] at cO;generalize dG:al ((n:Int):Rat)=aR at *;obtain⟨⟨f1,f2⟩,⟨f3,f4⟩⟩:=aR;simp only[ar] at cE cO ei;refine ak ?_;repeat' (intro h<;>simp only[h,go_sem,go_sem_proc,yn,JH,ad1,kJ,hB,DJ,bw,av,aB,bp,iW,gu,hm,aM,dG,d1,bG,cE,cO,ei,ar,ae,aE,bj,bne,beq_self_eq_true,cw]<;>try refine ai ?_ ?_)
  exact⟨i+1,by omega,by omega,rfl⟩
 ·have d1:decide ((i:Int)<(D aD:Int))=false:=cl;simp only[go_sem,go_sem_proc,aB,gu,d1,aE];refine cU [0,1,3,11] [226011] (λ(i:Nat) tm mem=>i<=D da/\tm 14=.I (.int .i64 i)) (λi=>D da-i) 0 (by refine⟨fm _,rfl⟩) ?_;intro vs ms aJ aH;simp only[go_sem,go_sem_proc,bw,av,bp,iW,hm] at aJ aH;subst aJ aH;clear bw av aB bp iW gu hm d1 tm mem;rintro i tm mem L hm ⟨Q,qv⟩;simp only[go_sem,go_sem_proc,bk] at L hm;obtain⟨bw,av,bp,iW⟩:=L;rcases dc (i<D da) with az|b2
  ·have d1:decide ((i:Int)<(D da:Int))=true:=cT;have bG:=ec (i:=i) (by omega);obtain⟨n,aM⟩:∃n,da[i]?=some n:=⟨_,bq az⟩;have cI:=oV n (dn aM);have aw:=oI cI;have cE:=aox cI;have cO:=I8 aw aw;have ei:=aow aw;rw[adW] at cO;generalize dG:al ((n:Int):Rat)=aR at *;obtain⟨⟨f1,f2⟩,⟨f3,f4⟩⟩:=aR;simp only[ar] at cE cO ei;refine ak ?_;repeat' (intro h<;>simp only[h,go_sem,go_sem_proc,yn,JH,ad1,kJ,hB,DJ,bw,av,bp,iW,qv,hm,aM,dG,d1,bG,cE,cO,ei,ar,ae,aE,bj,bne,beq_self_eq_true,cw]<;>try refine ai ?_ ?_)
   exact⟨i+1,by omega,by omega,rfl⟩
  ·have d1:decide ((i:Int)<(D da:Int))=false:=cl;refine ak ?_;repeat' (intro h<;>simp only[h,go_sem,go_sem_proc,yn,JH,ad1,kJ,hB,DJ,bw,av,bp,iW,qv,hm,d1,aEF,aE]<;>try refine ai ?_ ?_)
end Go.Mini
namespace Go.Mini
open Classical
theorem N5 {d:Day}{f:Nat->Nat}{l:List Nat}(h:d.eO f=l)(aw:l≠[])(k:Nat):(d.rounds (k+1) f).1=l::(d.rounds k (d.ez f (d.top f))).1/\(d.rounds (k+1) f).2=(d.rounds k (d.ez f (d.top f))).2:=by
 rw[Day.rounds,ag (by rw[h];exact aw),h];exact⟨rfl,rfl⟩
theorem Gn {d:Day}(aM:d.n=2)(f:Nat->Nat):d.eO f=(if d.top f 0<d.bI 0 (f 0) then [0] else [])++if d.top f 1<d.bI 1 (f 1) then [1] else []:=by
 unfold Day.eO;rw[aM,show eN 2=[0,1] from rfl]
 by_cases ax:d.top f 0<d.bI 0 (f 0)<;>by_cases G:d.top f 1<d.bI 1 (f 1)<;>simp[ax,G]
theorem aoA {d:Day}(aM:d.n=1)(f:Nat->Nat):d.eO f=(if d.top f 0<d.bI 0 (f 0) then [0] else []):=by
 unfold Day.eO;rw[aM,show eN 1=[0] from rfl]
 by_cases ax:d.top f 0<d.bI 0 (f 0)<;>simp[ax]
theorem Tv {d:Day}{f:Nat->Nat}{h:Nat->Rat}{i:Nat}(aY:¬ h i<d.bI i (f i)):d.ez f h i=f i:=ag λx=>aY x.2
theorem N6 {d:Day}{f:Nat->Nat}{h:Nat->Rat}{i r:Nat}(Q:i<d.n)(aY:h i<d.bI i (f i))(Y:r<10)(G:∀j,j<r->d.bI i (j+1)<=h i)(J:h i<d.bI i (r+1)):d.ez f h i=r:=by
 unfold Day.ez;rw[ad ⟨Q,aY⟩]
 have:∀k,k<=10->10-k<=r->d.h4 h i k=r:=by
  intro k
  induction k with
  |zero=>intro _ h;omega
  |succ k aN =>
   intro L hle;rw[Day.h4]
   by_cases he:10-(k+1)=r
   ·rw[ad (by rw[he];exact J),he]
   ·rw[ag (by have:=G (10-(k+1)) (by omega);grind)];exact aN (by omega) (by omega)
 exact this 10 (by omega) (by omega)
theorem sG {d:Day}(ab:d.dO){f:Nat->Nat}(Y:Reach d f):∀i,i<d.n->d.top f i=d.eZ (d.q f (d.top f)) i:=by
 obtain⟨g,G,J,af⟩:=Day.zp (ab.hex f Y);exact J
theorem aEG {d:Day}(aM:d.n=2){f1:Nat->Nat}{l:List Nat}(h:d.eO (λ_=>10)=l)(aw:l≠[])(aC:d.ez (λ_=>10) (d.top λ_=>10)=f1)(G:d.eO f1=[]):d.fM=[l]/\d.b1=d.top f1:=by
 have J:=N5 h aw 19;rw[aC,d.IV G] at J;unfold Day.fM Day.b1 Day.mE;rw[aM];exact⟨J.1,by rw[show 10*2=19+1 from rfl,J.2]⟩
theorem aEH {d:Day}(aM:d.n=1){f1:Nat->Nat}{l:List Nat}(h:d.eO (λ_=>10)=l)(aw:l≠[])(aC:d.ez (λ_=>10) (d.top λ_=>10)=f1)(G:d.eO f1=[]):d.fM=[l]/\d.b1=d.top f1:=by
 have J:=N5 h aw 9;rw[aC,d.IV G] at J;unfold Day.fM Day.b1 Day.mE;rw[aM];exact⟨J.1,by rw[show 10*1=9+1 from rfl,J.2]⟩
def av:Day:=ao [5,0] [(0,1,0,10),(1,-1,0,4)]
theorem aEI:av.dO:=IW (by decide)
theorem Gp:av.dI=[⟨0,1,0,10⟩,⟨1,-1,0,4⟩]:=rfl
theorem aEJ:av.E 0=5/\av.E 1=0:=⟨rfl,rfl⟩
theorem aEK:av.b1 0=5/\av.b1 1=5/\av.fM=[[0]]:=by
 have ab:=aEI;obtain⟨h3,aq⟩:=aEJ;have vg:=Reach.start ab;have zD:∀r,0<r->av.bI 0 r=10:=λr Y=>by simp[Gp,Day.bI,b3,iX,Y]
 have rF:∀r,0<r->av.bI 1 r=4:=λr Y=>by simp[Gp,Day.bI,b3,iX,qD,Y]
 have aEL:av.S 0 0=10:=by simp[Gp,Day.S,b3,iX]
 have eW:av.w ⟨0,1,0,10⟩=1:=by simp only[Day.w,aEL];decide +kernel
 have t0:av.top (λ_=>10) 0=5:=by rw[sG ab vg 0 (by decide)];simp[Gp,Day.eZ,Day.q,b3,h3,iX]
 have t1:av.top (λ_=>10) 1=10:=by rw[sG ab vg 1 (by decide)];simp[Gp,Day.eZ,Day.q,b3,aq,iX,qD]
 have f1:av.eO (λ_=>10)=[0]:=by
  rw[Gn rfl,t0,t1,zD 10 (by omega),rF 10 (by omega),ad (by decide +kernel),ag (by decide +kernel)];rfl
 have eF:=vg.next ab ab.hex
 have hy:av.ez (λ_=>10) (av.top λ_=>10) 0=0:=N6 (by decide) (by rw[t0,zD 10 (by omega)];decide +kernel) (by omega) (λj aA=>by omega) (by rw[t0,zD 1 (by omega)];decide +kernel);have cQ:av.ez (λ_=>10) (av.top λ_=>10) 1=10:=Tv (by rw[t1,rF 10 (by omega)];decide +kernel);generalize dG:av.ez (λ_=>10) (av.top λ_=>10)=aR at *;have m9:av.top aR 0=5:=by rw[sG ab eF 0 (by decide)];simp[Gp,Day.eZ,Day.q,b3,h3,iX]
 have s1:av.top aR 1=5:=by
  rw[sG ab eF 1 (by decide)];have aF:pos (5-0)=5:=by decide +kernel
  simp[Gp,Day.eZ,Day.q,b3,aq,hy,eW,m9,av.II,aF,iX,qD]
  try grind
 have f2:av.eO aR=[]:=by
  rw[Gn rfl,m9,s1,hy,cQ,av.II,rF 10 (by omega),ag (by decide +kernel),ag (by decide +kernel)];rfl
 obtain⟨G,J⟩:=aEG rfl f1 (by decide) dG f2;rw[J];exact⟨m9,s1,G⟩
def aB:Day:=ao [0,0] [(0,1,1,10),(1,0,1,10)]
theorem aEM:aB.dO:=IW (by decide)
theorem Tw:aB.dI=[⟨0,1,1,10⟩,⟨1,0,1,10⟩]:=rfl
theorem aEN:aB.E 0=0/\aB.E 1=0:=⟨rfl,rfl⟩
theorem aEO:aB.b1 0=10/\aB.b1 1=10/\aB.fM=[]:=by
 have ab:=aEM;obtain⟨h3,aq⟩:=aEN;have vg:=Reach.start ab;have zD:∀r,1<r->aB.bI 0 r=10:=λr Y=>by simp[Tw,Day.bI,b3,iX,Y]
 have rF:∀r,1<r->aB.bI 1 r=10:=λr Y=>by simp[Tw,Day.bI,b3,iX,qD,Y]
 have t0:aB.top (λ_=>10) 0=10:=by rw[sG ab vg 0 (by decide)];simp[Tw,Day.eZ,Day.q,b3,h3,iX,qD]
 have t1:aB.top (λ_=>10) 1=10:=by rw[sG ab vg 1 (by decide)];simp[Tw,Day.eZ,Day.q,b3,aq,iX,qD]
 have f1:aB.eO (λ_=>10)=[]:=by
  rw[Gn rfl,t0,t1,zD 10 (by omega),rF 10 (by omega),ag (by decide +kernel)];rfl
 have G:=aB.IV f1 (10*aB.n);unfold Day.b1 Day.mE Day.fM;rw[G];exact⟨t0,t1,rfl⟩
def bM:Day:=ao [9] [(0,-1,0,6),(0,-1,1,2),(0,-1,1,4)]
theorem aEP:bM.dO:=IW (by decide)
theorem Tx:bM.dI=[⟨0,-1,0,6⟩,⟨0,-1,1,2⟩,⟨0,-1,1,4⟩]:=rfl
theorem aEQ:bM.E 0=9:=rfl
theorem aER:bM.b1 0=9/\bM.fM=[[0]]:=by
 have ab:=aEP;have h3:=aEQ;have vg:=Reach.start ab;have aoB:∀f,Reach bM f->bM.top f 0=9:=λf Y=>by rw[sG ab Y 0 (by decide)];simp[Tx,Day.eZ,Day.q,b3,h3,iX]
 have aoC:bM.bI 0 10=12:=by simp only[Tx,Day.bI,b3];decide +kernel
 have rF:bM.bI 0 1=6:=by simp only[Tx,Day.bI,b3];decide +kernel
 have aES:bM.bI 0 2=12:=by simp only[Tx,Day.bI,b3];decide +kernel
 have t0:=aoB _ vg
 have f1:bM.eO (λ_=>10)=[0]:=by
  rw[aoA rfl,t0,aoC,ad (by decide +kernel)]
 have eF:=vg.next ab ab.hex
 have hy:bM.ez (λ_=>10) (bM.top λ_=>10) 0=1:=N6 (by decide) (by rw[t0,aoC];decide +kernel) (by omega) (λj aA=>by rw[show j=0 by omega,t0,rF];decide +kernel) (by rw[t0,aES];decide +kernel);generalize dG:bM.ez (λ_=>10) (bM.top λ_=>10)=aR at *;have m9:=aoB _ eF
 have f2:bM.eO aR=[]:=by
  rw[aoA rfl,m9,hy,rF,ag (by decide +kernel)]
 obtain⟨G,J⟩:=aEH rfl f1 (by decide) dG f2;rw[J];exact⟨m9,G⟩
theorem aET {d:Day}(aM:d.n=2){f1 f2 f3:Nat->Nat}{ed aa bh:List Nat}(G:d.eO (λ_=>10)=ed)(bJ:ed≠[])(zl:d.ez (λ_=>10) (d.top λ_=>10)=f1)(J:d.eO f1=aa)(bO:aa≠[])(aEU:d.ez f1 (d.top f1)=f2)(af:d.eO f2=bh)(eH:bh≠[])(aEV:d.ez f2 (d.top f2)=f3)(aT:d.eO f3=[]):d.fM=[ed,aa,bh]/\d.b1=d.top f3:=by
 have cB:=N5 G bJ 19;have dA:=N5 J bO 18;have ek:=N5 af eH 17;rw[zl] at cB;rw[aEU] at dA;rw[aEV,d.IV aT] at ek;unfold Day.fM Day.b1 Day.mE;rw[aM];refine⟨?_,?_⟩
 ·rw[show 10*2=19+1 from rfl,cB.1,show 19=18+1 from rfl,dA.1,show 18=17+1 from rfl,ek.1]
 ·rw[show 10*2=19+1 from rfl,cB.2,show 19=18+1 from rfl,dA.2,show 18=17+1 from rfl,ek.2]
def bp:Day:=ao [0,0] [(0,1,1,10),(1,0,1,10),(0,-1,0,5)]
theorem aEW:bp.dO:=IW (by decide)
theorem sH:bp.dI=[⟨0,1,1,10⟩,⟨1,0,1,10⟩,⟨0,-1,0,5⟩]:=rfl
theorem aEX:bp.E 0=0/\bp.E 1=0:=⟨rfl,rfl⟩
theorem pos_eq {x y:Rat}(h:x=pos y):(y<=0/\x=0)\/(0<=y/\x=y):=by
 unfold pos at h
 split at h
 ·left;constructor<;>grind
 ·right;constructor<;>grind
theorem aEY:bp.b1 0=0/\bp.b1 1=0/\bp.fM=[[0],[1],[0]]:=by
 have ab:=aEW;obtain⟨h3,aq⟩:=aEX;have vg:=Reach.start ab;have DK:bp.bI 0 1=5:=by simp only[sH,Day.bI,b3];decide +kernel
 have aEZ:bp.bI 0 2=15:=by simp only[sH,Day.bI,b3];decide +kernel
 have zD:bp.bI 0 10=15:=by simp only[sH,Day.bI,b3];decide +kernel
 have JI:bp.bI 1 1=0:=by simp only[sH,Day.bI,b3];decide +kernel
 have aE0:bp.bI 1 2=10:=by simp only[sH,Day.bI,b3];decide +kernel
 have rF:bp.bI 1 10=10:=by simp only[sH,Day.bI,b3];decide +kernel
 have aE1:bp.S 0 1=10:=by simp only[sH,Day.S,b3];decide +kernel
 have aE2:bp.S 1 1=10:=by simp only[sH,Day.S,b3];decide +kernel
 have eW:bp.w ⟨0,1,1,10⟩=1:=by simp only[Day.w,aE1];decide +kernel
 have w1:bp.w ⟨1,0,1,10⟩=1:=by simp only[Day.w,aE2];decide +kernel
 have t0:bp.top (λ_=>10) 0=10:=by rw[sG ab vg 0 (by decide)];simp[sH,Day.eZ,Day.q,b3,h3,iX,qD]
 have t1:bp.top (λ_=>10) 1=10:=by rw[sG ab vg 1 (by decide)];simp[sH,Day.eZ,Day.q,b3,aq,iX,qD]
 have f1:bp.eO (λ_=>10)=[0]:=by
  rw[Gn rfl,t0,t1,zD,rF,ad (by decide +kernel),ag (by decide +kernel)];rfl
 have eF:=vg.next ab ab.hex
 have hy:bp.ez (λ_=>10) (bp.top λ_=>10) 0=1:=N6 (by decide) (by rw[t0,zD];decide +kernel) (by omega) (λj aA=>by rw[show j=0 by omega,t0,DK];decide +kernel) (by rw[t0,aEZ];decide +kernel);have cQ:bp.ez (λ_=>10) (bp.top λ_=>10) 1=10:=Tv (by rw[t1,rF];decide +kernel);generalize dG:bp.ez (λ_=>10) (bp.top λ_=>10)=aR at *;have m9:bp.top aR 0=10:=by rw[sG ab eF 0 (by decide)];simp[sH,Day.eZ,Day.q,b3,h3,cQ,iX,qD]
 have s1:bp.top aR 1=5:=by
  have aF:pos (10-5)=5:=by decide +kernel
  rw[sG ab eF 1 (by decide)];simp[sH,Day.eZ,Day.q,b3,aq,hy,eW,m9,DK,aF,iX,qD]
  try grind
 have f2:bp.eO aR=[1]:=by
  rw[Gn rfl,m9,s1,hy,cQ,DK,rF,ag (by decide +kernel),ad (by decide +kernel)];rfl
 have eU:=eF.next ab ab.hex
 have ev:bp.ez aR (bp.top aR) 0=1:=(Tv (by rw[m9,hy,DK];decide +kernel)).trans hy;have cB:bp.ez aR (bp.top aR) 1=1:=N6 (by decide) (by rw[s1,cQ,rF];decide +kernel) (by omega) (λj aA=>by rw[show j=0 by omega,s1,JI];decide +kernel) (by rw[s1,aE0];decide +kernel);generalize ot:bp.ez aR (bp.top aR)=bE at *;have a4:=sG ab eU 0 (by decide);have a5:=sG ab eU 1 (by decide);simp[sH,Day.eZ,Day.q,b3,h3,aq,ev,cB,eW,w1,DK,JI,iX,qD,Rat.one_mul] at a4 a5
 have v:bp.top bE 0=0/\bp.top bE 1=0:=by
  rcases pos_eq a4 with ⟨lz,mW⟩|⟨lz,mW⟩<;>rcases pos_eq a5 with ⟨k5,k6⟩|⟨k5,k6⟩<;>constructor<;>grind
 obtain⟨v0,v1⟩:=v
 have f3:bp.eO bE=[0]:=by
  rw[Gn rfl,v0,v1,ev,cB,DK,JI,ad (by decide +kernel),ag (by decide +kernel)];rfl
 have Sr:=eU.next ab ab.hex
 have jl:bp.ez bE (bp.top bE) 0=0:=N6 (by decide) (by rw[v0,ev,DK];decide +kernel) (by omega) (λj aA=>by omega) (by rw[v0,DK];decide +kernel);have ea:bp.ez bE (bp.top bE) 1=1:=(Tv (by rw[v1,cB,JI];decide +kernel)).trans cB;generalize Jd:bp.ez bE (bp.top bE)=gf at *
 have ic:bp.top gf 1=0:=by
  rw[sG ab Sr 1 (by decide)];simp[sH,Day.eZ,Day.q,b3,aq,jl,iX]
 have aoD:bp.top gf 0=0:=by
  have aF:pos (0-0)=0:=by decide +kernel
  rw[sG ab Sr 0 (by decide)];simp[sH,Day.eZ,Day.q,b3,h3,ea,w1,ic,JI,aF,iX]
 have f4:bp.eO gf=[]:=by
  rw[Gn rfl,aoD,ic,jl,ea,bp.II,JI,ag (by decide +kernel)];rfl
 obtain⟨G,J⟩:=aET rfl f1 (by decide) dG f2 (by decide) ot f3 (by decide) Jd f4;rw[J];exact⟨aoD,ic,G⟩
def dw:Day:=ao [10,30] [(1,-1,0,25)]
def bH:Day:=ao [10,0] [(0,1,0,30)]
def b5:Day:=ao [30,0] [(0,1,0,30)]
end Go.Mini
namespace Go.Mini
open Go
theorem aE3:vf [5,0] [(0,1,0,10),(1,-1,0,4)] [5,5] [5,4] [[0]]:=by
 obtain⟨hy,cQ,dd⟩:=aEK;refine⟨⟨by decide,by decide,by decide,by decide⟩,?_,?_,?_,λn aM=>?_,λn aM=>?_,by decide,by decide⟩
 ·show [al (av.b1 0),al (av.b1 1)]=_;rw[hy,cQ];rfl
 ·show [al (dC _ (av.b1 0) _),al (dC _ (av.b1 1) _)]=_;rw[hy,cQ,show dC [(0,1,0,10),(1,-1,0,4)] 5 (0,1,0,10)=5 by decide +kernel,show dC [(0,1,0,10),(1,-1,0,4)] 5 (1,-1,0,4)=4 by decide +kernel];rfl
 ·show av.fM.map _=_;rw[dd];rfl
 ·simp at aM;subst aM;exact iB (by omega) (by omega)
 ·simp at aM;rcases aM with rfl|rfl<;>exact iB (by omega) (by omega)
theorem aE4:vf [0,0] [(0,1,1,10),(1,0,1,10)] [10,10] [10,10] []:=by
 obtain⟨hy,cQ,dd⟩:=aEO;refine⟨⟨by decide,by decide,by decide,by decide⟩,?_,?_,?_,λn aM=>?_,λn aM=>?_,by decide,by decide⟩
 ·show [al (aB.b1 0),al (aB.b1 1)]=_;rw[hy,cQ];rfl
 ·show [al (dC _ (aB.b1 0) _),al (dC _ (aB.b1 1) _)]=_;rw[hy,cQ,show dC [(0,1,1,10),(1,0,1,10)] 10 (0,1,1,10)=10 by decide +kernel,show dC [(0,1,1,10),(1,0,1,10)] 10 (1,0,1,10)=10 by decide +kernel];rfl
 ·show aB.fM.map _=_;rw[dd];rfl
 ·simp at aM;subst aM;exact iB (by omega) (by omega)
 ·simp at aM;subst aM;exact iB (by omega) (by omega)
theorem aE5:vf [0,0] [(0,1,1,10),(1,0,1,10),(0,-1,0,5)] [0,0] [0,0,0] [[0],[1],[0]]:=by
 obtain⟨hy,cQ,dd⟩:=aEY;refine⟨⟨by decide,by decide,by decide,by decide⟩,?_,?_,?_,λn aM=>?_,λn aM=>?_,by decide,by decide⟩
 ·show [al (bp.b1 0),al (bp.b1 1)]=_;rw[hy,cQ];rfl
 ·show [al (dC _ (bp.b1 0) _),al (dC _ (bp.b1 1) _),al (dC _ (bp.b1 0) _)]=_;rw[hy,cQ,show dC [(0,1,1,10),(1,0,1,10),(0,-1,0,5)] 0 (0,1,1,10)=0 by decide +kernel,show dC [(0,1,1,10),(1,0,1,10),(0,-1,0,5)] 0 (1,0,1,10)=0 by decide +kernel,show dC [(0,1,1,10),(1,0,1,10),(0,-1,0,5)] 0 (0,-1,0,5)=0 by decide +kernel];rfl
 ·show bp.fM.map _=_;rw[dd];rfl
 ·simp at aM;subst aM;exact iB (by omega) (by omega)
 ·simp at aM;subst aM;exact iB (by omega) (by omega)
theorem aE6:vf [9] [(0,-1,0,6),(0,-1,1,2),(0,-1,1,4)] [9] [6,1,2] [[0]]:=by
 obtain⟨hy,dd⟩:=aER;refine⟨⟨by decide,by decide,by decide,by decide⟩,?_,?_,?_,λn aM=>?_,λn aM=>?_,by decide,by decide⟩
 ·show [al (bM.b1 0)]=_;rw[hy];rfl
 ·show [al (dC _ (bM.b1 0) _),al (dC _ (bM.b1 0) _),al (dC _ (bM.b1 0) _)]=_;rw[hy,show dC [(0,-1,0,6),(0,-1,1,2),(0,-1,1,4)] 9 (0,-1,0,6)=6 by decide +kernel,show dC [(0,-1,0,6),(0,-1,1,2),(0,-1,1,4)] 9 (0,-1,1,2)=1 by decide +kernel,show dC [(0,-1,0,6),(0,-1,1,2),(0,-1,1,4)] 9 (0,-1,1,4)=2 by decide +kernel];rfl
 ·show bM.fM.map _=_;rw[dd];rfl
 ·simp at aM;subst aM;exact iB (by omega) (by omega)
 ·simp at aM;rcases aM with rfl|rfl|rfl<;>exact iB (by omega) (by omega)
abbrev ad2:Unit->List Data:=λ(_:Unit)=>[]
def ad3:=cn ad2 λ(_:Unit)=>some (.same (.bool true))
theorem aE7:∀a b,ad2 a=ad2 b->a=b:=by
  intro _ _ _;rfl
@[go_sem] theorem aE8 :ad3 []=some (.same (.bool true)):=cz aE7 ()
theorem aE9 (T:bl)(aFa:T Ho=aQ ad0)(yn:T Eu=aQ JG):WP T abD (.same (.bool true)) []:=by
 refine cD ?_;simp only[abD];have cB:=Tu _ _ _ _ _ aE3;have dA:=Tu _ _ _ _ _ aE4;have ek:=Tu _ _ _ _ _ aE5;have gQ:=Tu _ _ _ _ _ aE6;have h2:=adR [-1] [] ⟨by decide,by decide,λh=>absurd h (by decide)⟩
 have fj:yj [-1] []=.c1 [.agg [.X [],.X [],.X []],.int .i64 1]:=ag (by decide);rw[fj] at h2;simp only[ey,cC,ae,bR,oa] at cB dA ek gQ h2;have gi:dz 6 (a9 emp 215019 0 [.I (.int .i64 0),.I (.int .i64 1),.I (.int .i64 1),.I (.int .i64 10),.I (.int .i64 1),.I (.int .i64 0),.I (.int .i64 1),.I (.int .i64 10)]) (.ref 215019 0 4 0 2)=some (.X [[.int .i64 0,.int .i64 1,.int .i64 1,.int .i64 10],[.int .i64 1,.int .i64 0,.int .i64 1,.int .i64 10]]):=rfl;have dv:kS 215019 0 4 2 32 1 [.I (.int .i64 0),.I (.int .i64 (-1)),.I (.int .i64 0),.I (.int .i64 5)] (some (0,[.I (.int .i64 0),.I (.int .i64 1),.I (.int .i64 1),.I (.int .i64 10),.I (.int .i64 1),.I (.int .i64 0),.I (.int .i64 1),.I (.int .i64 10)]))=some (.ref 215019 1 4 0 3,some (215019,1,[.I (.int .i64 0),.I (.int .i64 1),.I (.int .i64 1),.I (.int .i64 10),.I (.int .i64 1),.I (.int .i64 0),.I (.int .i64 1),.I (.int .i64 10),.I (.int .i64 0),.I (.int .i64 (-1)),.I (.int .i64 0),.I (.int .i64 5)])):=jm Dk RW 215019 0 32 [(0,1,1,10),(1,0,1,10)] (0,-1,0,5) rfl (by decide) (by decide);have rn:dz 6 (a9 (a9 emp 215019 0 [.I (.int .i64 0),.I (.int .i64 1),.I (.int .i64 1),.I (.int .i64 10),.I (.int .i64 1),.I (.int .i64 0),.I (.int .i64 1),.I (.int .i64 10)]) 215019 1 [.I (.int .i64 0),.I (.int .i64 1),.I (.int .i64 1),.I (.int .i64 10),.I (.int .i64 1),.I (.int .i64 0),.I (.int .i64 1),.I (.int .i64 10),.I (.int .i64 0),.I (.int .i64 (-1)),.I (.int .i64 0),.I (.int .i64 5)]) (.ref 215019 1 4 0 3)=some (.X [[.int .i64 0,.int .i64 1,.int .i64 1,.int .i64 10],[.int .i64 1,.int .i64 0,.int .i64 1,.int .i64 10],[.int .i64 0,.int .i64 (-1),.int .i64 0,.int .i64 5]]):=rfl;refine ak ?_;repeat' (intro (ay:_=_)<;>simp only[ay,go_sem,go_sem_proc,aFa,yn,cB,dA,ek,gQ,h2,gi,dv,rn,adF,se,scalar,beq_self_eq_true]<;>try refine ai ?_ ?_)

theorem aFb (n:Nat):(et n [R.I (.bool false)]).flatten=(et n false).map h5:=by
 induction n with
 |zero=>rfl
 |succ n aN=>rw[sR,j1,aN,sR];rfl
def ad4:=cn FP λ(E,cs)=>cN (Gl E cs) (.same (yj E cs))
@[go_sem] theorem aFc (E:List Int)(cs:List aG)(H:Gl E cs):ad4 [.X (E.map ae),.X (cs.map bR)]=some (.same (yj E cs)):=(cz MV (E,cs)).trans (cX H _)
theorem aFd (T:bl)(vh:T La=aQ R3)(JF:T Py=uL Si)(hQ:T oY=aQ u2)(lK:T q7=aQ xX)(iq:T s4=aQ x1)(Du:T Lb=aQ Nm)(qN:T Ew=aQ Jf)(E:List Int)(cs:List aG)(H:Gl E cs):WP T u1 (.same (yj E cs)) [.I (.X (E.map ae)),.I (.X (cs.map bR))]:=by
 refine cD ?_;simp only[u1];obtain⟨mR,ix,pP⟩:=H;unfold yj;rcases Y:hk E cs
 ·rw[ag (by decide)];refine ak ?_;repeat' (intro (ay:_=_)<;>simp only[ay,go_sem,go_sem_proc,vh,JF,hQ,lK,iq,Du,qN,Y,db]<;>try refine ai ?_ ?_)
 ·rw[ad rfl];have U:=pP Y;have aM:=U.hE;have Bb:(D E*1<=140737488355328)=True:=eq_true (by omega);have aMs:(1*D E<=140737488355328)=True:=eq_true (by omega);have tt:(D E<=maxLen)=True:=eq_true (by unfold maxLen;omega);have adz:(D E<=140737488355328)=True:=eq_true (by omega);have a3:=aFb (D E);simp only[go_sem,go_sem_proc,vh,Y,tt,adz,a3,cw,aE,Nat.one_mul];refine Nf (kc:=261029) (g:=0) (off:=0) (cs:=[.I (.X (E.map ae)),.I (.X (cs.map bR)),.nil,.ref 261027 0 1 0 (D E),.I (.bool false)]) (by simp only[bC,dk,if_true]) (by dsimp only;exact jg) rfl (by decide) ?_;simp only[go_sem,go_sem_proc];refine Nf (kc:=261006) (g:=0) (off:=0) (cs:=[.nil,.nil,.nil]) (by simp only[bC,dk,cp,if_false,if_true]) (by simp only[a9,cp,if_false,if_true]) rfl (by decide) ?_;simp only[go_sem,go_sem_proc,mx,uP]
  refine cU [0,1,4,6,7] [261004,261006,261027,261117] (λ((i,g):Nat×Nat) tm m=>i<=D E/\tm 8=.I (.int .i64 i)/\m 261029=some (0,[.I (.X (E.map ae)),.I (.X (cs.map bR)),.ref 261042 g 1 0 i,.ref 261027 0 1 0 (D E),.I (.bool false)])/\m 261042=some (g,aV ae (et i 10))/\∀k:Nat,k/1000≠261->m k=none) (λ(i,_)=>D E-i) (0,0) (by
   refine⟨by omega,rfl,by simp[a9],by simp[a9];rfl,λk L=>?_⟩
   have mb:∀(j:Nat),j/1000=261->k≠j:=λj J h=>L (h ▸ J)
   repeat rw[dg (mb _ (by decide))]
   rfl) ?_
  intro vs ms aJ aH;simp only[go_sem,go_sem_proc] at aJ aH;subst aJ aH;rintro⟨i,g⟩ tm m L hm ⟨Q,df,jv,ad5,gw⟩;simp only[go_sem,go_sem_proc,bk] at L hm;obtain⟨bw,av,bM,bH,b5⟩:=L;obtain⟨fx,gV,FY,n4⟩:=hm;rcases dc (i<D E) with az|b2
  ·have d1:decide ((i:Int)<(D E:Int))=true:=cT;have bG:=ec (i:=i) (by omega);have cm:(et i (10:Int)).length=i:=wk;have dv:=jm jD (λ_=>rfl) 261042 g 8 (et i (10:Int)) 10 (cs:=[.I (.int .i64 10)]) rfl (by omega) (by omega);rw[cm,<-Nk] at dv;refine ak ?_;repeat' (intro (ay:_=_)<;>simp only[ay,go_sem,go_sem_proc,vh,JF,hQ,lK,iq,Du,qN,bw,av,bM,bH,b5,df,fx,gV,FY,n4,jv,ad5,d1,bG,dv,aE,mx,uP]<;>try refine ai ?_ ?_)
   refine⟨(i+1,g+1),by dsimp only;omega,by dsimp only;omega,rfl,rfl,rfl,λk L=>?_⟩
   have mb:∀(j:Nat),j/1000=261->k≠j:=λj J h=>L (h ▸ J);rw[ag (mb 261029 (by decide)),ag (mb 261042 (by decide))];exact gw k L
  ·have d1:decide ((i:Int)<(D E:Int))=false:=cl;obtain rfl:i=D E:=by omega
   have D4:(et (D E) (10:Int))=bA (D E) λ_=>((10:Nat):Int):=Nq wk λi Q=>by rw[List.getElem?_replicate,ad Q];rfl
   have cm:(et (D E) false).length=D E:=wk;have iI:(bA (D E) λ_=>((10:Nat):Int)).length=D E:=fZ _ _;rw[D4,<-anb] at ad5;simp only[go_sem,go_sem_proc,bw,df,d1,aE];refine aEa T JF hQ lK iq Du E cs U g 0 _ _ ?_ ?_ ?_ ?_ ?_ fx ⟨⟨et (D E) false,cm,⟨?_,?_,?_⟩⟩,⟨.nil,?_⟩,?_,gw,λ_ _=>rfl,Reach.start U.ok,⟨10*D E,?_,rfl,rfl⟩⟩ ?_
   all_goals first|(intro x5 b7 gE cB gQ fj kE lH BK)|(simp only[dk,cp,if_false,bw,av,bM,bH,b5];done)|skip
   ·rw[iI,cm];exact jv
   ·exact ad5
   ·exact FY
   ·exact gV
   ·exact n4
   ·rw[abO];exact cH _
   have aMt:(ao E cs).fM.length<=50:=by
    have:=NY (ao E cs) (10*(ao E cs).n) λ_=>10;have e:(ao E cs).n=D E:=rfl;unfold Day.fM;omega
   replace lH:b7 261006=some (0,[.I (.X ((mI E cs).map ar)),.nil,.ref 261117 gE 1 0 (ao E cs).fM.length]):=lH;simp only[go_sem,go_sem_proc];refine Nf (kc:=261006) (g:=0) (off:=0) (cs:=[.I (.X ((mI E cs).map ar)),.nil,.ref 261117 gE 1 0 (ao E cs).fM.length]) fj lH rfl (by decide) ?_;simp only[go_sem,go_sem_proc,mx,uP];refine aEo T qN E cs U (.ref 261117 gE 1 0 (ao E cs).fM.length) (cy b7 261172) (some (0,[.nil,.nil,.nil])) (some (gE,aV na (ao E cs).fM)) _ _ ?_ ?_ ?_ ?_ ?_ ?_ ?_ ?_ ?_
   all_goals first|(intro Zs gG iK gQ fj kE lH BK zN)|(simp only[dk,cp,if_false,if_true,cB,gQ,fj];done)|skip
   ·rw[dg (by decide),dg (by decide)];exact kE
   ·rw[jg];rfl
   ·rw[dg (by decide),dg (by decide)];exact BK
   ·rw[dg (by decide),jg];rfl
   generalize mI E cs=DI at *;generalize mH E cs=yf at *;generalize (ao E cs).fM=tN at *;simp only[go_sem,go_sem_proc];refine R7 (kc:=261006) (gc:=0) (off:=0) (cc:=[.I (.X (DI.map ar)),.ref 261172 iK 4 0 (D yf),.ref 261117 gE 1 0 (D tN)]) (k:=261172) (g:=iK) (sz:=4) (o:=0) (len:=D yf) (cs:=aV ar yf) (d:=.X (yf.map ar)) ?_ lH rfl zN (Ha _ _) (by decide) (jU (n:=0) iT zN) ?_
   ·exact fj
   simp only[go_sem,go_sem_proc,mx,uP]
   have aoE:∀bE,(a9 (kill gG 261172) 261006 0 [.I (.X (DI.map ar)),.I (.X (yf.map ar)),.ref 261117 gE 1 0 (D tN)]) 261117=bE↔gG 261117=bE:=λbE=>by
    rw[dg (by decide)];unfold kill;rw[dg (by decide)]
   refine R7 (kc:=261006) (gc:=0) (off:=0) (cc:=[.I (.X (DI.map ar)),.I (.X (yf.map ar)),.ref 261117 gE 1 0 (D tN)]) (k:=261117) (g:=gE) (sz:=1) (o:=0) (len:=D tN) (cs:=aV na tN) (d:=.X (tN.map na)) ?_ (by dsimp only;exact jg) rfl ((aoE _).2 BK) (Ha _ _) (by decide) (jU (n:=0) Tm ((aoE _).2 BK)) ?_
   ·exact fj
   refine ak ?_;repeat' (intro (ay:_=_)<;>simp only[ay,go_sem,go_sem_proc,vh,JF,hQ,lK,iq,Du,qN,gQ,fj,kE,mx,uP]<;>try refine ai ?_ ?_)
abbrev ad6:(List a7)×(List a7)×(List (List Nat))->List Data:=λ(aD,da,aI)=>[.agg [.X (aD.map ar),.X (da.map ar),.X (aI.map na)],.agg [.X (aD.map ar),.X (da.map ar),.X (aI.map na)]]
def ad7:=cn ad6 λ(aD,da,aI)=>cN (hC aD/\hC da/\yl (aI.map λr=>r.map λn=>((n:Nat):Int))) (.same (.bool true))
theorem aFe:∀a b,ad6 a=ad6 b->a=b:=by
  rintro⟨rR,aEA,aEB⟩ ⟨rS,aEC,aED⟩ h;simp only[bk,Data.agg.injEq,Data.X.injEq,and_true] at h;exact dN (map_inj np _ _ h.1.1) (dN (map_inj np _ _ h.1.2.1) (map_inj (λa b aY=>by simp only[na,bk,Data.X.injEq,and_true] at aY;exact map_inj (λx y g4=>by simp only[hj,bk,Data.int.injEq,true_and,and_true] at g4;exact Int.ofNat.inj g4) _ _ aY) _ _ h.1.2.2))
@[go_sem] theorem aoF (aD:List a7)(da:List a7)(aI:List (List Nat))(H:hC aD/\hC da/\yl (aI.map λr=>r.map λn=>((n:Nat):Int))):ad7 [.agg [.X (aD.map ar),.X (da.map ar),.X (aI.map na)],.agg [.X (aD.map ar),.X (da.map ar),.X (aI.map na)]]=some (.same (.bool true)):=(cz aFe (aD,da,aI)).trans (cX H _)
theorem aFf (T:bl)(aFg:T Pk=aQ Y8)(JH:T K6=aQ Tt)(aD:List a7)(da:List a7)(aI:List (List Nat))(H:hC aD/\hC da/\yl (aI.map λr=>r.map λn=>((n:Nat):Int))):WP T abp (.same (.bool true)) [.I (.agg [.X (aD.map ar),.X (da.map ar),.X (aI.map na)]),.I (.agg [.X (aD.map ar),.X (da.map ar),.X (aI.map na)])]:=by
 refine cD ?_;simp only[abp];obtain⟨G,J,af⟩:=H;have cE:=aiu aD aD ⟨G,G⟩;have cO:=aiu da da ⟨J,J⟩;have e:∀l:List a7,CW l l=true:=λl=>by unfold CW;simp
 have ei:=aoy _ _ ⟨af,af⟩;rw[<-aov,beq_self_eq_true] at ei;rw[e] at cE cO;refine ak ?_;repeat' (intro h<;>simp only[h,go_sem,go_sem_proc,aFg,JH,cE,cO,ei]<;>try refine ai ?_ ?_)
def Ty (l:List a7):List Data:=[.X (l.map ar)]
def yo (l:List a7):R:=.I (.X (l.map ar))
theorem aFh (l:List a7):(Ty l).length=1:=rfl
theorem aFi (l:List a7):((Ty l).map R.I).all R.one=true:=rfl
theorem aFj (l:List (List a7)):aV Ty l=l.map yo:=by
 unfold aV
 induction l with
 |nil=>rfl
 |cons a l aN=>rw[ey,j1,js,aN];rfl
def oN (cs:List aG)(bu:List Rat)(i:Nat):List a7:=(c7 cs i).map λc=>al (dC cs (bu.getD i 0) c)
theorem aFk {cs:List aG}{bu:List Rat}{k:Nat}{c:aG}(M:cs[k]?=some c)(ax:0<=c.1):(oN cs bu c.1.toNat)[(c7 (cs.take k) c.1.toNat).length]?=some (al (dC cs (bu.getD c.1.toNat 0) c)):=by
 have h:=aon M;have e:((c.1.toNat:Nat):Int)=c.1:=by omega
 unfold oN;rw[bj,e,h];rfl
def ob (cs:List aG)(k:Nat):Nat->Int:=λj=>((c7 (cs.take k) j).length:Int)
theorem aFl (T:bl)(yp:T Pq=aQ LZ){K:eI->bo->Prop}{kk:List fJ}(E:List Int)(cs:List aG)(U:fV E cs)(bu:List Rat)(aoG:(D bu)=D E)(ia:∀c∈cs,dx (dC cs (bu.getD c.1.toNat 0) c))(i:Nat)(Q:i<D E)(v0 v2:R)(yk:Nat)(Gq N7:Nat)(tm:Nat->R)(m:Mem)
  (bw:tm 0=v0) (av:tm 1=.I (.X (cs.map bR))) (aB:tm 2=v2) (df:tm 8=.ref 263072 yk 1 0 (D E)) (fo:tm 12=.I (.int .i64 i)) (gu:tm 13=.ptr 263013 Gq 0) (qv:tm 14=.ref 263086 N7 1 0 (D E)) (kj:tm 15=.I (.int .i64 0)) (j0:m 263072=some (yk,(bA (D E) (oN cs bu)).map yo)) (rG:m 263013=some (Gq,(ar (al ((E.getD i 0:Int):Rat))).map .I)) (JJ:m 263086=some (N7,(bA (D E) (ob cs 0)).map dR))
  (cZ:∀tm' m' s,n9 E cs (λj=>bu.getD j 0) i cs=some s->dx s->tm' 0=v0->tm' 1=.I (.X (cs.map bR))->tm' 2=v2->tm' 8=.ref 263072 yk 1 0 (D E)->tm' 12=.I (.int .i64 i)->tm' 13=.ptr 263013 Gq 0->m' 263072=some (yk,(bA (D E) (oN cs bu)).map yo)->m' 263013=some (Gq,(ar (al s)).map .I)->cd T K kk (.exit 6) ⟨tm',m'⟩)
  (hc:∀tm' m',n9 E cs (λj=>bu.getD j 0) i cs=none->tm' 6=.I (.bool false)->cd T K kk .ret ⟨tm',m'⟩) :
  wp T (Bm.body.sub [1,1,1,1,1,0,1,0,0,1,0,0,1,1,0,1,0]) (cd T K kk) ⟨tm,m⟩:=by
 simp only[Bm,er.sub];have aM:=U.hE;have eP:=U.qF;have jr:=(il.1 U.right).2.2.2
 refine cU [0,1,2,8,12,13,14] [263072] (λ((k,s):Nat×Rat) tm m=>k<=D cs/\tm 15=.I (.int .i64 k)/\n9 E cs (λj=>bu.getD j 0) i (cs.take k)=some s/\dx s/\m 263013=some (Gq,(ar (al s)).map .I)/\m 263086=some (N7,(bA (D E) (ob cs k)).map dR)) (λ(k,_)=>D cs-k) (0,((E.getD i 0:Int):Rat)) (by
  refine⟨by omega,kj,by rw[mU,adA],oI (iB (by have:=U.E i;omega) (by have:=U.E i;omega)),rG,JJ⟩) ?_
 intro vs ms aJ aH;simp only[go_sem,go_sem_proc,bw,av,aB,df,fo,gu,qv,j0] at aJ aH;subst aJ aH;clear bw av aB df fo gu qv kj j0 rG JJ tm m;rintro⟨k,s⟩ tm m L hm ⟨k9,kj,ve,vt,rG,JJ⟩;simp only[go_sem,go_sem_proc,bk] at L hm;obtain⟨bw,av,aB,df,fo,gu,qv⟩:=L;have j0:=hm;rcases dc (k<D cs) with az|b2
 ·have d1:decide ((k:Int)<(D cs:Int))=true:=cT;have bG:=ec (i:=k) (by omega);obtain⟨⟨aq,c2,c3,c4⟩,M⟩:∃c,cs[k]?=some c:=⟨_,bq az⟩;have fs:=dn M;have iG:=jr _ fs;dsimp only at iG;obtain⟨aq,rfl⟩:∃t:Nat,aq=(t:Int):=⟨aq.toNat,by omega⟩
  have gb:aq<D E:=by omega
  have gm:cs.take (k+1)=cs.take k++[((aq:Int),c2,c3,c4)]:=by rw[gB,M];rfl
  have N4:ob cs k aq<=12/\0<=ob cs k aq:=by
   unfold ob;have G:=aoo (cs.take k) aq;have J:(cs.take k).length<=D cs:=by rw[gv];omega
   omega
  have dG:(bA (D E) (ob cs (k+1)))=bA (D E) λj=>if j=aq then ob cs k aq+1 else ob cs k j:=iC λj _=>by
   unfold ob;rw[gm,Tr,fX]
   by_cases aA:j=aq
   ·subst aA;have:c7 [((j:Int),c2,c3,c4)] j=[((j:Int),c2,c3,c4)]:=by unfold c7;rw[rB (by simp)];rfl
    rw[ad rfl,this];simp
   ·have:c7 [((aq:Int),c2,c3,c4)] j=[]:=by unfold c7;rw[tC (by simp;omega)];rfl
    rw[ag aA,this];simp
  have Bz:IntKind.i64.wrap (ob cs k aq+1)=ob cs k aq+1:=by rw[fh _]
  have t1:=acW gb (ob cs k);have t2:=acX (D E) (ob cs k);have t3:=acV gb (ob cs k) (ob cs k aq+1);rw[<-dG] at t3;have ed:aq+1<=D E:=by omega
  have lQ:List.take 1 (List.drop aq ((bA (D E) (oN cs bu)).map yo))=[yo (oN cs bu aq)]:=wF (f:=yo) (jf _ gb);have ho:((bA (D E) (oN cs bu)).map yo).length=D E:=by rw[aE,fZ]
  have we:=aFk (bu:=bu) M (by dsimp only;omega);dsimp only at we;rw[jE] at we;have zi:ob cs k aq=(((c7 (cs.take k) aq).length:Nat):Int):=rfl;have CZ:=ia _ fs;dsimp only at CZ;rw[jE] at CZ;have jR:=Gj E cs (λj=>bu.getD j 0) i (cs.take k) ((aq:Int),c2,c3,c4);rw[<-gm,ve] at jR;unfold yg at jR;dsimp only at jR;rw[jE] at jR;generalize aMu:(bA (D E) (ob cs k)).map dR=bU at *;generalize aoH:(bA (D E) (ob cs (k+1))).map dR=qu at *;generalize (bA (D E) (oN cs bu)).map yo=PP at *;rcases q:(c2==(i:Int))
  ·rw[ag (by simpa using q)] at jR;generalize ob cs k aq=A at *;refine ak ?_;repeat' (intro h<;>simp only[h,go_sem,go_sem_proc,bw,av,aB,df,fo,gu,qv,kj,rG,j0,JJ,M,d1,bG,Bz,q,t1,t2,t3,gb,ed,bR,dY,aE,bj]<;>try refine ai ?_ ?_)
   exact⟨(k+1,s),by dsimp only;omega,by dsimp only;omega,rfl,jR,vt,rfl,by rw[aoH]⟩
  ·rw[ad (by simpa using q),yH] at jR;have hN:=aDD vt CZ;rcases ib:l0 s (dC cs (bu.getD aq 0) ((aq:Int),c2,c3,c4))
   ·rw[ib] at jR hN;rw[ag (by decide)] at jR
    have ad8:n9 E cs (λj=>bu.getD j 0) i cs=none:=by
     have:=anY jR (cs.drop (k+1));rwa [vz] at this
    have rZ:uG false (s+dC cs (bu.getD aq 0) ((aq:Int),c2,c3,c4))=(dD,6):=rfl;rw[rZ] at hN;generalize al s=S at *;generalize al (dC cs (bu.getD aq 0) ((aq:Int),c2,c3,c4))=P at *;generalize oN cs bu aq=PL at *;obtain⟨⟨s1,s2⟩,⟨bK,bL⟩⟩:=S;obtain⟨⟨ic,kr⟩,⟨o5,o6⟩⟩:=P;simp only[ar,dD,ey,cC] at hN rG;have Dm:((6:Int)==0)=false:=rfl;refine ak ?_;repeat' (intro h<;>simp only[h,go_sem,go_sem_proc,yp,bw,av,aB,df,fo,gu,qv,kj,rG,j0,JJ,M,d1,q,t1,t2,lQ,ho,we,zi,yo,hN,gb,ed,bR,ar,dY,aE,bj,Dm,bne,db]<;>try refine ai ?_ ?_)
    exact hc _ _ ad8 (by simp only[dk,cp,if_false,if_true])
   ·rw[ib] at jR hN;rw[ad rfl] at jR;have aFm:=an0 ib;have rZ:uG true (s+dC cs (bu.getD aq 0) ((aq:Int),c2,c3,c4))=(al (s+dC cs (bu.getD aq 0) ((aq:Int),c2,c3,c4)),0):=rfl;rw[rZ] at hN;generalize s+dC cs (bu.getD aq 0) ((aq:Int),c2,c3,c4)=Kl at *;generalize aFn:al Kl=S' at *;generalize al s=S at *;generalize al (dC cs (bu.getD aq 0) ((aq:Int),c2,c3,c4))=P at *;generalize oN cs bu aq=PL at *;obtain⟨⟨s1,s2⟩,⟨bK,bL⟩⟩:=S;obtain⟨⟨ic,kr⟩,⟨o5,o6⟩⟩:=P;obtain⟨⟨eF,eU⟩,⟨Sr,rE⟩⟩:=S';simp only[ar,ey,cC] at hN rG;rw[zi] at t1 t3 Bz;refine ak ?_;repeat' (intro h<;>simp only[h,go_sem,go_sem_proc,yp,bw,av,aB,df,fo,gu,qv,kj,rG,j0,JJ,M,d1,bG,Bz,q,t1,t2,t3,lQ,ho,we,yo,hN,gb,ed,bR,ar,dY,aE,bj,bne,beq_self_eq_true,cw]<;>try refine ai ?_ ?_)
    exact⟨(k+1,Kl),by dsimp only;omega,by dsimp only;omega,rfl,jR,aFm,by rw[aFn],by rw[aoH]⟩
 ·have d1:decide ((k:Int)<(D cs:Int))=false:=cl;rw[dp (by omega)] at ve;refine ak ?_;repeat' (intro h<;>simp only[h,go_sem,go_sem_proc,bw,av,aB,df,fo,gu,qv,kj,d1,aE]<;>try refine ai ?_ ?_)
  refine cZ _ _ s ve vt ?_ ?_ ?_ ?_ ?_ ?_ j0 rG<;>simp only[dk,cp,if_false,bw,av,aB,df,fo,gu]
theorem aFo (f:a7)(h:okF f):v8 [.agg (ar f)]=some (.same (.bool (di f))):=avp f.1.1 f.1.2 f.2.1 f.2.2 ⟨h.1,h.2⟩
theorem aFp {n:Int}(h:dr n):u2 [.int .i64 n]=some (.same (.agg (ar (al (n:Rat))))):=Dl n h
theorem aFq {l:List a7}{i:Nat}{f:a7}(M:l[i]?=some f)(h:(!di f||decide (f.1.1<0))=true):l.any (lD mn)=true:=by
 rw[List.any_eq_true];exact⟨f,dn M,by rw[H0];exact h⟩
theorem aFr {E:List Int}{cs:List aG}{x:Nat->Rat}{i:Nat}(Q:i<D E){s:Rat}(h:n9 E cs x i cs=some s)(b6:s≠x i):zL E cs x=false:=adJ λaC=>by
 have:=aC i Q;rw[h,cL] at this;exact b6 this
theorem aFs (T:bl)(fr:T mm=aQ v8){K:eI->bo->Prop}{kk:List fJ}(aD:List a7)(bS:hC aD)(v0 v1:R)(tm:Nat->R)(m:Mem)
  (bw:tm 0=v0) (av:tm 1=v1) (aB:tm 2=.I (.X (aD.map ar))) (b5:tm 7=.I (.int .i64 0))
  (cZ:∀tm' m',aD.any (lD mn)=false->tm' 0=v0->tm' 1=v1->tm' 2=.I (.X (aD.map ar))->cd T K kk (.exit 0) ⟨tm',m'⟩)
  (hc:∀tm' m',aD.any (lD mn)=true->tm' 6=.I (.bool false)->cd T K kk .ret ⟨tm',m'⟩) :
  wp T (Bm.body.sub [1,1,0,1,0]) (cd T K kk) ⟨tm,m⟩:=by
 simp only[Bm,er.sub];obtain⟨aw,Nz⟩:=bS;refine cU [0,1,2] [] (λ(i:Nat) tm m=>i<=D aD/\tm 7=.I (.int .i64 i)/\(aD.take i).any (lD mn)=false) (λi=>D aD-i) 0 (by refine⟨by omega,b5,by simp⟩) ?_;intro vs ms aJ aH;simp only[go_sem,go_sem_proc,bw,av,aB] at aJ aH;subst aJ aH;clear bw av aB b5 tm m;rintro i tm m L-⟨Q,b5,gw⟩;simp only[go_sem,go_sem_proc,bk] at L;obtain⟨bw,av,aB⟩:=L;rcases dc (i<D aD) with az|b2
 ·have d1:decide ((i:Int)<(D aD:Int))=true:=cT;have bG:=ec (i:=i) (by omega);obtain⟨f,M⟩:∃f,aD[i]?=some f:=⟨_,bq az⟩;have b1:=aFo f (Nz f (dn M));have uj:=aFq M
  have jR:(!di f||decide (f.1.1<0))=false->(aD.take (i+1)).any (lD mn)=false:=λh=>by
   rw[gB,M,Option.toList_some,List.any_append,gw];have:lD mn f=false:=by rw[H0];exact h
   simp[this]
  generalize di f=b at *;obtain⟨⟨f1,f2⟩,⟨f3,f4⟩⟩:=f;simp only[ar] at b1;dsimp only at uj jR
  cases b
  ·refine ak ?_;repeat' (intro (ay:_=_)<;>simp only[ay,go_sem,go_sem_proc,fr,bw,av,aB,b5,M,b1,d1,ar,aE,bj,db]<;>try refine ai ?_ ?_)
   exact hc _ _ (uj rfl) (by simp only[dk,cp,if_false,if_true])
  ·rcases q:decide (f1<0)
   ·refine ak ?_;repeat' (intro (ay:_=_)<;>simp only[ay,go_sem,go_sem_proc,fr,bw,av,aB,b5,M,b1,d1,bG,q,ar,aE,bj,cw]<;>try refine ai ?_ ?_)
    exact⟨i+1,by omega,by omega,rfl,jR (by rw[q];rfl)⟩
   ·refine ak ?_;repeat' (intro (ay:_=_)<;>simp only[ay,go_sem,go_sem_proc,fr,bw,av,aB,b5,M,b1,d1,q,ar,aE,bj,cw]<;>try refine ai ?_ ?_)
    exact hc _ _ (uj (by rw[q];rfl)) (by simp only[dk,cp,if_false,if_true])
 ·have d1:decide ((i:Int)<(D aD:Int))=false:=cl;rw[dp (by omega)] at gw;refine ak ?_;repeat' (intro (ay:_=_)<;>simp only[ay,go_sem,go_sem_proc,bw,av,aB,b5,d1,aE]<;>try refine ai ?_ ?_)
  refine cZ _ _ gw ?_ ?_ ?_<;>simp only[dk,cp,if_false,bw,av,aB]
theorem aFt (T:bl)(qN:T Ew=aQ Jf){K:eI->bo->Prop}{kk:List fJ}(E:List Int)(cs:List aG)(U:fV E cs)(bu:List Rat)(aoG:(D bu)=D E)(aFu:∀x∈bu,0<=x/\eA 460 x)(v0:R)(hy:Nat)(tm:Nat->R)(m:Mem)
  (bw:tm 0=v0) (av:tm 1=.I (.X (cs.map bR))) (aB:tm 2=.I (.X ((bu.map al).map ar))) (df:tm 8=.ref 263072 hy 1 0 0) (eB:tm 9=.I (.int .i64 0)) (j0:m 263072=some (hy,[]))
  (cZ:∀tm' m' g,tm' 0=v0->tm' 1=.I (.X (cs.map bR))->tm' 2=.I (.X ((bu.map al).map ar))->tm' 8=.ref 263072 g 1 0 (D E)->m' 263072=some (g,(bA (D E) (oN cs bu)).map yo)->cd T K kk (.exit 2) ⟨tm',m'⟩) :
  wp T (Bm.body.sub [1,1,1,1,0,1,0,0]) (cd T K kk) ⟨tm,m⟩:=by
 simp only[Bm,er.sub];have aM:=U.hE;have eP:=U.qF;refine cU [0,1,2] [] (λ((i,g):Nat×Nat) tm m=>i<=D E/\tm 9=.I (.int .i64 i)/\tm 8=.ref 263072 g 1 0 i/\m 263072=some (g,aV Ty (bA i (oN cs bu)))) (λ(i,_)=>D E-i) (0,hy) (by refine⟨by omega,eB,df,j0⟩) ?_;intro vs ms aJ aH;simp only[go_sem,go_sem_proc,bw,av,aB] at aJ aH;subst aJ aH;clear bw av aB df eB j0 tm m;rintro⟨i,g⟩ tm m L-⟨Q,eB,df,j0⟩;simp only[go_sem,go_sem_proc,bk] at L;obtain⟨bw,av,aB⟩:=L;have Fx:(bu.map al).length=D E:=by rw[aE,aoG]
 rcases dc (i<D E) with az|b2
 ·have d1:decide ((i:Int)<(D E:Int))=true:=cT;have bG:=ec (i:=i) (by omega);obtain⟨x,M⟩:∃x,bu[i]?=some x:=⟨_,bq (by omega)⟩;have Ox:=aFu x (dn M);have Tz:bu.getD i 0=x:=by rw[ep,M];rfl
  have hex:(bu.map al)[i]?=some (al x):=by rw[bj,M];rfl
  have aF:=amk cs i x ⟨⟨U.own i,Ox.1,Ox.2⟩,by omega⟩
  have uX:((c7 cs i).map λc=>al (dC cs x c))=oN cs bu i:=by unfold oN;rw[Tz]
  rw[uX] at aF;have acT:=adg i (oN cs bu);have tG:(bA i (oN cs bu)).length=i:=fZ _ _;have dv:=jm aFh aFi 263072 g 24 (bA i (oN cs bu)) (oN cs bu i) (cs:=[.I (.X ((oN cs bu i).map ar))]) rfl (by omega) (by omega);rw[tG,<-acT] at dv;generalize bu.map al=XE at *;generalize al x=aR at *;generalize oN cs bu i=PL at *;obtain⟨⟨f1,f2⟩,⟨f3,f4⟩⟩:=aR;simp only[ar] at aF;refine ak ?_;repeat' (intro h<;>simp only[h,go_sem,go_sem_proc,qN,bw,av,aB,df,eB,j0,hex,Fx,aF,d1,bG,dv,ar,aE,bj,bne,beq_self_eq_true,cw]<;>try refine ai ?_ ?_)
  exact⟨(i+1,g+1),by dsimp only;omega,by dsimp only;omega,rfl,rfl,rfl⟩
 ·have d1:decide ((i:Int)<(D E:Int))=false:=cl;obtain rfl:i=D E:=by omega
  rw[aFj] at j0;refine ak ?_;repeat' (intro h<;>simp only[h,go_sem,go_sem_proc,bw,av,aB,df,eB,Fx,d1,aE]<;>try refine ai ?_ ?_)
  refine cZ _ _ g ?_ ?_ ?_ ?_ j0<;>simp only[dk,cp,if_false,bw,av,aB,df]
def ad9:=cn NV λ(E,cs,aD)=>cN (DE E cs aD) (.same (.bool (yh E cs aD)))
@[go_sem] theorem aFv (E:List Int)(cs:List aG)(aD:List a7)(H:DE E cs aD):ad9 [.X (E.map ae),.X (cs.map bR),.X (aD.map ar)]=some (.same (.bool (yh E cs aD))):=(cz adL (E,cs,aD)).trans (cX H _)
theorem aFw (T:bl)(vh:T La=aQ R3)(fr:T mm=aQ v8)(qN:T Ew=aQ Jf)(hQ:T oY=aQ u2)(yp:T Pq=aQ LZ)(iq:T s4=aQ x1)(E:List Int)(cs:List aG)(aD:List a7)(H:DE E cs aD):WP T Bm (.same (.bool (yh E cs aD))) [.I (.X (E.map ae)),.I (.X (cs.map bR)),.I (.X (aD.map ar))]:=by
 refine cD ?_;simp only[Bm];obtain⟨mR,ix,bS,pP,fg⟩:=H;have JK:=azN E cs;unfold yh;rcases Y:hk E cs
 ·rw[Y] at JK;rw[eR];refine ak ?_;repeat' (intro (ay:_=_)<;>simp only[ay,go_sem,go_sem_proc,vh,fr,qN,hQ,yp,iq,JK,db]<;>try refine ai ?_ ?_)
 rw[Y] at JK;rw[fD];rcases aw:((D aD:Int)==(D E:Int))
 ·rw[h7 (show ¬ (D aD)=(D E) by have:=ne_of_beq_false aw;omega),eR];refine ak ?_;repeat' (intro (ay:_=_)<;>simp only[ay,go_sem,go_sem_proc,vh,fr,qN,hQ,yp,iq,JK,aw,aE,bne,db,cw]<;>try refine ai ?_ ?_)
 have hle:(D aD)=D E:=by have:=eq_of_beq aw;omega
 rw[jw hle,fD];have U:=pP Y;have aM:=U.hE;have eP:=U.qF;generalize BL:(!aD.any (lD mn)&&zL E cs λi=>(p1 aD).getD i 0)=RB;simp only[go_sem,go_sem_proc,vh,JK,aw,aE,bne,db,cw];refine aFs T fr aD bS (.I (.X (E.map ae))) (.I (.X (cs.map bR))) _ _ ?_ ?_ ?_ ?_ ?_ ?_
 all_goals first|(intro x5 b7 aW ev cB dA)|(intro x5 b7 aW fj)|(simp only[dk,cp,if_false,if_true];done)|(simp only[dk,cp,if_false];rfl)
 case refine_6 =>
  rw[aW,cw,eR] at BL;subst BL;refine ak ?_;repeat' (intro (ay:_=_)<;>simp only[ay,go_sem,go_sem_proc,vh,fr,qN,hQ,yp,iq,fj]<;>try refine ai ?_ ?_)
 rw[aW,db,fD] at BL;obtain⟨NX,qi⟩:=adK aW;have EH:=fg Y hle aW;have iH:(p1 aD).length=D E:=by unfold p1;rw[aE];exact hle
 have jr:=(il.1 Y).2.2.2
 have SA:∀x∈p1 aD,eA 460 x:=λx M=>by
  obtain⟨f,aC,rfl⟩:=fO.1 M;exact EH f aC
 have adM:∀c∈cs,dx (dC cs ((p1 aD).getD c.1.toNat 0) c):=λc H=>by
  have G:=jr c H;refine an8 (λc H=>⟨(jr c H).2.2.2.2.2.2.1,U.am c H⟩) eP ?_ H;refine SA _ ?_;rw[ep,bq (by rw[iH];omega)];exact lq _
 generalize HG:p1 aD=bu at *;rw[NX] at dA;simp only[go_sem,go_sem_proc];refine aFt T qN E cs U bu iH (λx M=>⟨(qi x M).1,SA x M⟩) (.I (.X (E.map ae))) (fN (b7 263072)) _ _ ?_ ?_ ?_ ?_ ?_ ?_ ?_
 all_goals first|(intro Zs gG g ev cB dA jq zN)|(simp only[dk,cp,if_false,if_true,ev,cB,dA];done)|(exact jg)|skip
 have Fx:(bu.map al).length=D E:=by rw[aE,iH]
 simp only[go_sem,go_sem_proc];refine cU [0,1,2,8] [263072] (λ(i:Nat) tm m=>i<=D E/\tm 12=.I (.int .i64 i)/\∀j,j<i->n9 E cs (λi=>bu.getD i 0) j cs=some (bu.getD j 0)) (λi=>D E-i) 0 (by refine⟨by omega,rfl,λj aA=>by omega⟩) ?_;intro vs ms aJ aH;simp only[go_sem,go_sem_proc,ev,cB,dA,jq,zN] at aJ aH;subst aJ aH;clear ev cB dA jq zN aW NX EH fg bS JK aw HG;rintro i tm m L hm ⟨Q,fo,dB⟩;simp only[go_sem,go_sem_proc,bk] at L hm;obtain⟨bw,av,aB,df⟩:=L;have j0:=hm;rcases dc (i<D E) with az|b2
 ·have d1:decide ((i:Int)<(D E:Int))=true:=cT;have bG:=ec (i:=i) (by omega);obtain⟨y,aj⟩:∃y,E[i]?=some y:=⟨_,bq az⟩;have AV:E.getD i 0=y:=by rw[ep,aj];rfl
  have oF:=(il.1 Y).2.2.1 y (dn aj);have hw:=aFp (n:=y) (iB (by omega) (by omega));obtain⟨x,M⟩:∃x,bu[i]?=some x:=⟨_,bq (by omega)⟩;have Tz:bu.getD i 0=x:=by rw[ep,M];rfl
  have hex:(bu.map al)[i]?=some (al x):=by rw[bj,M];rfl
  have vn:=(qi x (dn M)).2;have Bb:(8*D E<=140737488355328)=True:=eq_true (by omega);have tt:(D E<=maxLen)=True:=eq_true (by unfold maxLen;omega);have a3:=anc (D E);have sS:(bA (D E) λ_=>(0:Int))=bA (D E) (ob cs 0):=iC λj _=>by unfold ob;rw[mU];rfl
  rw[sS] at a3;have FI:=λ(K:eI->bo->Prop) (kk:List fJ) v0 v2 yk Gq N7 tm m=>aFl T yp (K:=K) (kk:=kk) E cs U bu iH adM i az v0 v2 yk Gq N7 tm m;rw[AV] at FI;have qk:=λs (h:dx s)=>Nd h vn;generalize aMv:bu.map al=XE at *;generalize al x=aR at *;generalize al ((y:Int):Rat)=g8 at *;obtain⟨⟨f1,f2⟩,⟨f3,f4⟩⟩:=aR;obtain⟨⟨lz,mW⟩,⟨tv,tw⟩⟩:=g8;simp only[ar] at hw qk FI;simp only[go_sem,go_sem_proc,hQ,bw,aB,fo,aj,d1,Fx,hw,Bb,tt,a3,ae,aE,bj];refine FI _ _ (.I (.X (E.map ae))) (.I (.X (XE.map ar))) g (fN (m 263013)) (fN (m 263086)) _ _ ?_ ?_ ?_ ?_ ?_ ?_ ?_ ?_ ?_ ?_ ?_ ?_ ?_
  all_goals first|(intro aFx fx s ta aFy ev cB dA jq mZ r9 zN Jn)|(intro aFx fx ad8 fj)|(simp only[dk,cp,if_false,if_true,bw,av,aB,df,fo];done)|(simp only[a9,cp,if_false,if_true,j0];done)|(simp only[a9,cp,if_false,if_true];rfl)|skip
  ·have qk:=qk s aFy;rcases q:(jV s x==0)
   ·have b6:s≠x:=λh=>by rw[h,adW] at q;exact absurd q (by decide)
    rw[aFr az ta (by rw[Tz];exact b6)] at BL;subst BL;generalize al s=S at *;obtain⟨⟨s1,s2⟩,⟨bK,bL⟩⟩:=S;simp only[ey,cC] at qk Jn;refine ak ?_;repeat' (intro (ay:_=_)<;>simp only[ay,go_sem,go_sem_proc,vh,fr,qN,hQ,yp,iq,ev,cB,dA,jq,mZ,r9,zN,Jn,hex,qk,q,ar,aE,bj,bne,db]<;>try refine ai ?_ ?_)
   ·have HR:s=x:=ahT.1 (by simpa using q);generalize al s=S at *;obtain⟨⟨s1,s2⟩,⟨bK,bL⟩⟩:=S;simp only[ey,cC] at qk Jn;refine ak ?_;repeat' (intro (ay:_=_)<;>simp only[ay,go_sem,go_sem_proc,vh,fr,qN,hQ,yp,iq,ev,cB,dA,jq,mZ,r9,zN,Jn,hex,qk,q,bG,ar,aE,bj,bne,cw]<;>try refine ai ?_ ?_)
    refine⟨i+1,by omega,by omega,rfl,λj aA=>?_⟩
    rcases Nat.lt_succ_iff_lt_or_eq.1 aA with h|h
    ·exact dB j h
    ·subst h;rw[ta,HR,Tz]
  ·have gw:zL E cs (λi=>bu.getD i 0)=false:=adJ λaC=>by
    have:=aC i az;rw[ad8] at this
    cases this
   rw[gw] at BL;subst BL;refine ak ?_;repeat' (intro (ay:_=_)<;>simp only[ay,go_sem,go_sem_proc,vh,fr,qN,hQ,yp,iq,fj]<;>try refine ai ?_ ?_)
 ·have d1:decide ((i:Int)<(D E:Int))=false:=cl;have:zL E cs (λi=>bu.getD i 0)=true:=adI.2 λj aA=>dB j (by omega);rw[this] at BL;subst BL;refine ak ?_;repeat' (intro (ay:_=_)<;>simp only[ay,go_sem,go_sem_proc,vh,fr,qN,hQ,yp,iq,bw,av,aB,df,fo,Fx,d1,aE]<;>try refine ai ?_ ?_)
theorem aFz {E:List Int}{cs:List aG}(U:fV E cs):hC (mH E cs):=by
 have eP:=U.qF;refine⟨by unfold mH;rw[aE];omega,λf aC=>?_⟩
 unfold mH at aC;obtain⟨c,H,rfl⟩:=fO.1 aC;rw[<-acd U.right _ H];exact jY (iY (alp U H) (by omega))
theorem aFA {E:List Int}{cs:List aG}(U:fV E cs):yl ((ao E cs).fM.map λr=>r.map λn=>((n:Nat):Int)):=by
 obtain⟨b6,-⟩:=azL U.ok;have aM:=U.hE;have G:=NY (ao E cs) (10*(ao E cs).n) λ_=>10;have e:(ao E cs).n=D E:=rfl;refine⟨by rw[aE];unfold Day.fM;omega,λr Y=>?_⟩
 obtain⟨q,bF,rfl⟩:=fO.1 Y;obtain⟨-,J,af⟩:=b6 q bF
 have key:(D q)<=(ao E cs).n:=by
  have L:∀k (h:k<D q),k<=q[k]:=by
   intro k
   induction k with
   |zero=>intro h;omega
   |succ k aN =>
    intro h;have cE:=aN (by omega);have cO:=List.pairwise_iff_getElem.1 J k (k+1) (by omega) h (by omega);omega
  by_cases ax:(D q)=0
  ·omega
  ·have cE:=L (D q-1) (by omega);have cO:=af _ (lq (show (D q)-1<(D q) by omega));omega
 rw[aE];omega
def aea:=cn NV λ(E,cs,o)=>some (.same (.bool true))
@[go_sem] theorem aFB (E:List Int)(cs:List aG)(o:List a7):aea [.X (E.map ae),.X (cs.map bR),.X (o.map ar)]=some (.same (.bool true)):=cz adL (E,cs,o)
theorem aFC (T:bl)(TA:T Vk=aQ ad3)(TB:T Vl=aQ abI)(TC:T US=aQ Y6)(yn:T Eu=aQ JG)(TD:T Vv=aQ ad4)(TE:T Vw=aQ ad7)(DJ:T K2=aQ NW)(TF:T Vx=aQ ad9)(E:List Int)(cs:List aG)(o:List a7):WP T abG (.same (.bool true)) [.I (.X (E.map ae)),.I (.X (cs.map bR)),.I (.X (o.map ar))]:=by
 refine cD ?_;simp only[abG];have tF:=aE8;have cQ:=azw E cs;have dd:=avJ o 6 2 (by omega);rcases aC:xY E cs
 ·rw[aC] at cQ;refine ak ?_;repeat' (intro h<;>simp only[h,go_sem,go_sem_proc,TA,TB,TC,yn,TD,TE,DJ,TF,tF,cQ,db]<;>try refine ai ?_ ?_)
 rw[aC] at cQ;rcases M:v9 o 6 2
 ·rw[M] at dd;refine ak ?_;repeat' (intro h<;>simp only[h,go_sem,go_sem_proc,TA,TB,TC,yn,TD,TE,DJ,TF,tF,cQ,dd,db,cw]<;>try refine ai ?_ ?_)
 rw[M] at dd;have ym:=adR E cs (adU aC);have N8:=aFc E cs (adU aC);have aoI:=an9 E cs o (aot aC M);have aoJ:=aFv E cs o (aot aC M);generalize yh E cs o=fb at *;unfold yj at ym N8;rcases Y:hk E cs
 ·rw[ag (by rw[Y];decide)] at ym N8;have TG:=aoF [] [] [] ⟨⟨by decide,λf aC=>by cases aC⟩,⟨by decide,λf aC=>by cases aC⟩,⟨by decide,by decide⟩⟩
  simp only[cC] at TG;refine ak ?_;repeat' (intro h<;>simp only[h,go_sem,go_sem_proc,TA,TB,TC,yn,TD,TE,DJ,TF,tF,cQ,dd,ym,N8,TG,aoI,aoJ,beq_self_eq_true,cw]<;>try refine ai ?_ ?_)
 rw[ad Y] at ym N8;have U:=aor aC Y;have TG:=aoF (mI E cs) (mH E cs) (ao E cs).fM ⟨aou U,aFz U,aFA U⟩;generalize mI E cs=DI at *;generalize mH E cs=yf at *;generalize (ao E cs).fM=tN at *;refine ak ?_;repeat' (intro h<;>simp only[h,go_sem,go_sem_proc,TA,TB,TC,yn,TD,TE,DJ,TF,tF,cQ,dd,ym,N8,TG,aoI,aoJ,beq_self_eq_true,cw]<;>try refine ai ?_ ?_)
end Go.Mini
namespace Go.Mini
open Go Go.Proofs
theorem aoK {P : Program}{T : bl}{kb : Nat}{own : List Nat}{α : Type}{args : α -> List Data}{res : α -> Option eL}(dK : q0 P T)(hm : P.follows .mixedOrders = true){f : FuncId}{fn : Func}{mf : bZ}(aC : P.funcs[f]? = some fn)(ud : (fn.name == "runtime.NumGoroutine") = false)(bc : sN P kb own fn = some { mf with body := erase mf.body })(h : ∀ a r, res a = some r -> (args a).length <= mf.n /\ wp T mf.body (Cf mf.res r) ⟨lk ((args a).map .I), emp⟩): q2 P f (cn args res) := afR dK hm aC ud bc fun ds r Y => by
 obtain⟨a,rfl,J⟩:=Uz Y;exact h a r J
theorem mixed:Tryz.prog.follows .mixedOrders=true:=by kernel_rfl
abbrev aeb:Option eL->(eL->Prop)->Prop
 |some r,aZ=>aZ r
 |none,_=>True
theorem c8 {c:Prop}{r:eL}{aZ:eL->Prop}(h:c->aZ r):aeb (cN c r) aZ:=by
 by_cases H:c
 ·rw[cX H];exact h H
 ·have:cN c r=none:=ag H;rw[this];trivial
abbrev cA:=q2 Tryz.prog
theorem zO (mf : bZ)(kb : Nat)(own : List Nat){α : Type}{args : α -> List Data}{res : α -> Option eL}{l : List (FuncId × (List Data -> Option eL))}{e : List (FuncId × (List R -> Mem -> Option h8))}(aw : ∀ p ∈ l, q2 Tryz.prog p.1 p.2)(he : ∀ p ∈ e, l2 Tryz.prog p.1 p.2){f : FuncId}{fn : Func}(aC : Tryz.prog.funcs[f]? = some fn)(h : ∀ a, aeb (res a) fun r => Nat.ble (args a).length mf.n = true /\ wp (xC (Pa l) (QP e)) mf.body (Cf mf.res r) ⟨lk ((args a).map .I), emp⟩)(aM : (fn.name == "runtime.NumGoroutine", sN Tryz.prog kb own fn) = (false, some { mf with body := erase mf.body }) := by kernel_rfl): cA f (cn args res) := afR (rh (q4 aw) (ri he)) mixed aC (congrArg Prod.fst aM) (congrArg Prod.snd aM) fun ds r Y => by
 obtain⟨a,rfl,J⟩:=Uz Y;have af:=h a;rw[J] at af;exact⟨tO af.1,af.2⟩
theorem cP (mf : bZ)(kb : Nat)(own : List Nat){α : Type}{args : α -> List Data}{res : α -> Option eL}{l : List (FuncId × (List Data -> Option eL))}(aw : ∀ p ∈ l, q2 Tryz.prog p.1 p.2){f : FuncId}{fn : Func}(aC : Tryz.prog.funcs[f]? = some fn)(h : ∀ a, aeb (res a) fun r => Nat.ble (args a).length mf.n = true /\ wp (xC (Pa l) (QP [])) mf.body (Cf mf.res r) ⟨lk ((args a).map .I), emp⟩)(aM : (fn.name == "runtime.NumGoroutine", sN Tryz.prog kb own fn) = (false, some { mf with body := erase mf.body }) := by kernel_rfl): cA f (cn args res) := zO mf kb own aw l3 aC h aM
theorem bd {mi:FuncId->Option (List Data->Option eL)}{tn:FuncId->Option (List R->Mem->Option h8)}{f:FuncId}{aR:List Data->Option eL}(G:tn f=none:=by rfl)(J:mi f=some aR:=by rfl):xC mi tn f=aQ aR:=jX G J
theorem JL:cA q6 As:=cP Ey 177000 [] cf Tryz.func158 λa4=>c8 λH=>⟨rfl,asj _  a4 H⟩
theorem JM:l2 Tryz.prog q6 (Ck vF):=KM.aiv (agd (mf:=Ey) (kb:=177000) (own:=[]) (rh (q4 cf) (ri l3)) mixed Tryz.func158 (by kernel_rfl) (by kernel_rfl) λargs mem x h=>by
 obtain⟨a,⟨rfl,hm,aw⟩,rfl⟩:=UP h;exact⟨tO rfl,asl _ a.l a.k a.g mem hm aw⟩)
theorem aFD:cA Pp Wg:=cP VY 184000 [] cf Tryz.func160 λa4=>⟨rfl,asm _  a4⟩
theorem aoL:cA Hm PG:=cP VW 174000 [] (a0 aFD cf) Tryz.func113 fun⟨a4,a5⟩=>⟨rfl,asn _ bd a4 a5⟩
theorem aFE:cA Vc Wh:=cP VX 179000 [] cf Tryz.func161 λa4=>c8 λH=>⟨rfl,asq _  a4 H⟩
theorem TH:cA yR Ez:=cP V6 156000 [5] cf Tryz.func60 λa4=>c8 λH=>⟨rfl,ass _  a4 H⟩
theorem BM:cA lx xd:=cP VF 136000 [] cf Tryz.func91 fun⟨a4,a5⟩=>c8 λH=>⟨rfl,ast _  a4 a5 H⟩
theorem JN:cA pG Cs:=zO VO 158000 [] (a0 JL cf) (pR JM l3) Tryz.func110 fun⟨a4,a5⟩=>c8 λH=>⟨rfl,asv _ (Il rfl rfl) a4 a5 H⟩
theorem aec:cA Er Lg:=cP VU 175000 [] (a0 aoL cf) Tryz.func114 fun⟨a4,a5⟩=>c8 λH=>⟨rfl,asy _ bd a4 a5 H⟩
theorem aoM:cA KX PJ:=zO VS 172000 [] (a0 JL cf) (pR JM l3) Tryz.func111 fun⟨a4,a5⟩=>c8 λH=>⟨rfl,asz _ (Il rfl rfl) a4 a5 H⟩
theorem aoN:cA Hl PK:=zO VT 173000 [10] (a0 TH (a0 JL cf)) (pR JM l3) Tryz.func112 fun⟨a4,a5⟩=>c8 λH=>⟨rfl,asB _ bd (Il rfl rfl) a4 a5 H⟩
theorem aoO:cA Hj PM:=zO VR 161000 [] (a0 JL cf) (pR JM l3) Tryz.func118 fun⟨a4,a5⟩=>c8 λH=>⟨rfl,asE _ (Il rfl rfl) a4 a5 H⟩
theorem aFF:cA Po Wy:=zO VV 176000 [] (a0 JL cf) (pR JM l3) Tryz.func157 fun⟨a4,a5⟩=>c8 λH=>⟨rfl,asG _ (Il rfl rfl) a4 a5 H⟩
theorem aFG:l2 Tryz.prog Vb (Ck Ll):=KM.aiv (agd (mf:=PC) (kb:=178000) (own:=[]) (rh (q4 cf) (ri l3)) mixed Tryz.func159 (by kernel_rfl) (by kernel_rfl) λargs mem x h=>by
 obtain⟨a,⟨rfl,H⟩,rfl⟩:=UP h;exact⟨tO rfl,asO _ a mem H⟩)
theorem aoP:cA KU PU:=zO VN 157000 [54] (a0 aec (a0 TH (a0 aFF (a0 JL (a0 aoO cf))))) (pR JM (pR aFG l3)) Tryz.func109 fun⟨a4,a5⟩=>c8 λH=>⟨rfl,as0 _ bd bd bd (Il rfl rfl) bd (wa rfl rfl) a4 a5 H⟩
theorem aed:cA vD Lx:=cP VM 155000 [] cf Tryz.func117 fun⟨a4,a5,bX⟩=>⟨rfl,aty _  a4 a5 bX⟩
theorem aoQ:cA Hi P2:=cP VJ 152000 [] (a0 BM (a0 TH (a0 JN cf))) Tryz.func74 fun⟨a4,a5⟩=>c8 λH=>⟨rfl,atz _ bd bd bd a4 a5 H⟩
theorem TI:cA vC HP:=cP VH 140000 [] (a0 BM (a0 aoO (a0 JN (a0 aed cf)))) Tryz.func76 fun⟨a4,a5,bX,cS⟩=>c8 λH=>⟨rfl,atA _ bd bd bd bd a4 a5 bX cS H⟩
theorem aFH:cA U9 W4:=cP VQ 160000 [] (a0 BM (a0 aFE (a0 aoM (a0 aoN (a0 aec (a0 JN (a0 aed cf))))))) Tryz.func116 fun⟨a4,a5,bX,cS⟩=>c8 λH=>⟨rfl,atB _ bd bd bd bd bd bd bd a4 a5 bX cS H⟩
theorem aFI:cA U7 W5:=cP VL 154000 [] (a0 BM (a0 aoL (a0 aec cf))) Tryz.func69 fun⟨a4,a5,bX,cS⟩=>c8 λH=>⟨rfl,atD _ bd bd bd a4 a5 bX cS H⟩
theorem aoR:cA KR P3:=cP VG 137000 [] (a0 BM (a0 TH (a0 aoP (a0 JN (a0 aed cf))))) Tryz.func92 fun⟨a4,a5,bX,cS⟩=>c8 λH=>⟨rfl,atE _ bd bd bd bd bd a4 a5 bX cS H⟩
theorem aoS:cA En P6:=cP VK 153000 [] (a0 BM (a0 aoP (a0 aoM (a0 aoN (a0 JN cf))))) Tryz.func68 fun⟨a4,a5,bX,cS⟩=>c8 λH=>⟨rfl,atF _ bd bd bd bd bd a4 a5 bX cS H⟩
theorem aFJ:cA Pn Xc:=cP VI 150000 [] (a0 JN cf) Tryz.func106 λa4=>c8 λH=>⟨rfl,atK _ bd a4 H⟩
theorem aFK:cA U8 Xe:=cP VP 159000 [] (a0 BM cf) Tryz.func147 fun⟨a4,a5⟩=>c8 λH=>⟨rfl,atN _ bd a4 a5 H⟩
theorem aFL:cA U1 Xv:=cP Xp 138000 [] (a0 aFK cf) Tryz.func93 fun⟨a4,a5⟩=>c8 λH=>⟨rfl,atU _ bd a4 a5 H⟩
theorem BN:cA lT vS:=cP Xj 116000 [] (a0 BM (a0 aoR (a0 aFL cf))) Tryz.func52 fun⟨a4,a5,bX,cS⟩=>c8 λH=>⟨rfl,atW _ bd bd bd a4 a5 bX cS H⟩
theorem aoT:cA KT Qd:=cP Xs 149000 [] (a0 BM (a0 aoQ (a0 aoR (a0 aoS cf)))) Tryz.func105 fun⟨a4,a5,bX,cS⟩=>c8 λH=>⟨rfl,atX _ bd bd bd bd a4 a5 bX cS H⟩
theorem aee:cA El LH:=cP Xl 130000 [] (a0 aFJ (a0 aoT cf)) Tryz.func62 fun⟨a4,a5⟩=>c8 λH=>⟨rfl,atZ _ bd bd a4 a5 H⟩
theorem aFM:cA U2 XB:=cP Xq 139000 [] (a0 TI (a0 aFH cf)) Tryz.func75 fun⟨a4,a5,bX,cS,eC,iD,jh,ir⟩=>c8 λH=>⟨rfl,aub _ bd bd a4 a5 bX cS eC iD jh ir H⟩
theorem aef:cA Em LJ:=cP Xr 141000 [] (a0 aoT cf) Tryz.func77 fun⟨a4,a5,bX,cS,eC,iD⟩=>c8 λH=>⟨rfl,aud _ bd a4 a5 bX cS eC iD H⟩
theorem TJ:cA yP AR:=cP Xk 119000 [] (a0 BN (a0 aFM (a0 TI (a0 aef cf)))) Tryz.func30 fun⟨a4,a5,bX,cS,eC,iD,jh,ir⟩=>c8 λH=>⟨rfl,auf _ bd bd bd bd a4 a5 bX cS eC iD jh ir H⟩
theorem aeg:cA yQ AS:=cP Xm 132000 [] (a0 BN (a0 aoQ (a0 TJ cf))) Tryz.func29 fun⟨a4,a5,bX,cS,eC,iD,jh,ir⟩=>c8 λH=>⟨rfl,auh _ bd bd bd a4 a5 bX cS eC iD jh ir H⟩
theorem aeh:cA xa y3:=cP Xn 134000 [] (a0 BN (a0 TI (a0 aef cf))) Tryz.func72 fun⟨a4,a5,bX,cS,eC,iD,jh,ir⟩=>c8 λH=>⟨rfl,auj _ bd bd bd a4 a5 bX cS eC iD jh ir H⟩
theorem aoU:cA Ep E1:=cP Xt 169000 [] (a0 BN (a0 TI (a0 aef cf))) Tryz.func73 fun⟨a4,a5,bX,cS,eC,iD,jh,ir⟩=>c8 λH=>⟨rfl,aul _ bd bd bd a4 a5 bX cS eC iD jh ir H⟩
theorem JO:cA pF vY:=cP Xo 135000 [] (a0 BN (a0 aoS (a0 aFI cf))) Tryz.func22 fun⟨a4,a5,bX,cS,eC,iD,jh,ir⟩=>c8 λH=>⟨rfl,auq _ bd bd bd a4 a5 bX cS eC iD jh ir H⟩
theorem aoV:cA nH Qk:=cP XM 125000 [] (a0 BN cf) Tryz.func203 fun⟨a4,a5,bX,cS⟩=>c8 λH=>⟨rfl,auw _ bd a4 a5 bX cS H⟩
theorem aFN:cA mn XY:=cP XT 234000 [] (a0 BN cf) Tryz.func51 fun⟨a4,a5,bX,cS⟩=>c8 λH=>⟨rfl,auy _ bd a4 a5 bX cS H⟩
theorem aFO:cA U4 XZ:=cP V4 146000 [] (a0 aoV (a0 aFN cf)) Tryz.func94 fun⟨a4,a5⟩=>c8 λH=>⟨rfl,auz _ bd bd a4 a5 H⟩
theorem aoW:cA KQ Qn:=cP V0 128000 [] (a0 aFO cf) Tryz.func53 fun⟨a4,a5⟩=>c8 λH=>⟨rfl,auB _ bd a4 a5 H⟩
theorem aFP:cA Cl X1:=cP XN 127000 [] (a0 aoV (a0 aoW cf)) Tryz.func205 fun⟨a4,a5,bX,cS,eC,iD⟩=>c8 λH=>⟨rfl,auE _ bd bd a4 a5 bX cS eC iD H⟩
theorem aFQ:cA U3 X2:=cP V3 145000 [] (a0 aFP cf) Tryz.func210 fun⟨a4,a5⟩=>c8 λH=>⟨rfl,auF _ bd a4 a5 H⟩
theorem aFR:cA UY X4:=cP VZ 126000 [] (a0 aFQ cf) Tryz.func204 fun⟨a4,a5⟩=>c8 λH=>⟨rfl,auG _ bd a4 a5 H⟩
theorem aFS:cA UT X5:=cP XK 108000 [] (a0 aFR cf) Tryz.func190 fun⟨a4,a5⟩=>c8 λH=>⟨rfl,auI _ bd a4 a5 H⟩
theorem aFT:l2 Tryz.prog Cm (CX A4):=avP (mf:=Qi) (kb:=168000) (own:=[]) (rh (q4 cf) (ri l3)) mixed Tryz.func212 (by kernel_rfl) (by kernel_rfl) QS λargs mem r k g i d h=>by
 obtain⟨G,J,af,aT,bx⟩:=avS _ args mem r k g i d h;exact⟨G,J,af,aT,bx⟩
theorem aFU:cA KW QR:=cP XO 167000 [] cf Tryz.func211 fun⟨a4,a5,bX,cS⟩=>⟨rfl,Fk _  a4 a5 bX cS⟩
theorem aFV:l2 Tryz.prog U5 (uL Md):=QN (mf:=y7) (kb:=148000) (own:=[3000106,3000165,3000169]) (rh (q4 (a0 aFU (a0 aoU (a0 aeg (a0 aeh cf))))) (ri (pR aFT l3))) mixed Tryz.func207 (by kernel_rfl) (by kernel_rfl) λargs mem bU h=>by
 obtain⟨a,rfl,⟨G,J,af,aT,bx,b0,bV⟩,rfl⟩:=aww h;exact⟨tO rfl,awn _ (jX rfl rfl) (wa rfl rfl) (jX rfl rfl) (jX rfl rfl) (jX rfl rfl) a.go a.N a.rows a.r a.c mem G J af aT bx b0 bV⟩
theorem aFW:cA Pm QZ:=cP V5 147000 [5] cf Tryz.func206 λa4=>c8 λH=>⟨rfl,awy _  a4 H⟩
theorem aFX:cA UZ Q5:=zO LR 129000 [29,34] (a0 aFW cf) (pR aFV l3) Tryz.func191 fun⟨a4,a5,bX⟩=>c8 λH=>⟨rfl,awN _ bd (wa rfl rfl) a4 a5 bX H⟩
theorem aFY:cA UU ZI:=cP XL 109000 [] (a0 aFS (a0 aFX cf)) Tryz.func172 fun⟨a4,a5⟩=>c8 λH=>⟨rfl,awT _ bd bd a4 a5 H⟩
theorem aFZ:cA Va ZO:=cP ZM 171000 [] cf Tryz.func202 λa4=>c8 λH=>⟨rfl,awW _  a4 H⟩
theorem aF0:cA U6 ZP:=cP ZL 151000 [] (a0 aFZ cf) Tryz.func189 λa4=>c8 λH=>⟨rfl,awX _ bd a4 H⟩
theorem aF1:cA U0 ZS:=cP V1 131000 [] (a0 aF0 cf) Tryz.func171 fun⟨a4,a5,bX,cS,eC⟩=>c8 λH=>⟨rfl,aw7 _ bd a4 a5 bX cS eC H⟩
theorem N9:cA uh CR:=cP Yf 183000 [18] cf Tryz.func175 λa4=>c8 λH=>⟨rfl,auM _  a4 H⟩
theorem TK:cA ui H4:=cP Yi 187000 [] cf Tryz.func176 fun⟨a4,a5⟩=>c8 λH=>⟨rfl,auP _  a4 a5 H⟩
theorem aei:cA Co H7:=cP Yg 185000 [] (a0 TK cf) Tryz.func151 fun⟨a4,a5⟩=>c8 λH=>⟨rfl,auQ _ bd a4 a5 H⟩
theorem aoX:cA KZ Qt:=cP Yd 181000 [] (a0 TK (a0 N9 cf)) Tryz.func154 fun⟨a4,a5⟩=>c8 λH=>⟨rfl,auR _ bd bd a4 a5 H⟩
theorem aej:cA Cn LV:=cP Ye 182000 [] (a0 TK (a0 N9 cf)) Tryz.func155 fun⟨a4,a5⟩=>c8 λH=>⟨rfl,auS _ bd bd a4 a5 H⟩
theorem aoY:cA Es LW:=cP Yh 186000 [] (a0 TK (a0 N9 cf)) Tryz.func153 fun⟨a4,a5⟩=>c8 λH=>⟨rfl,auT _ bd bd a4 a5 H⟩
theorem aoZ:cA KY Qv:=cP LU 180000 [26] (a0 N9 (a0 aoY (a0 aei (a0 aej cf)))) Tryz.func148 fun⟨a4,a5⟩=>c8 λH=>⟨rfl,au0 _ bd bd bd bd a4 a5 H⟩
theorem JP:cA pH CU:=cP Yc 166000 [] (a0 N9 cf) Tryz.func149 fun⟨a4,a5⟩=>c8 λH=>⟨rfl,au2 _ bd a4 a5 H⟩
theorem BO:cA ly xw:=cP X8 162000 [] cf Tryz.func95 fun⟨a4,a5⟩=>c8 λH=>⟨rfl,au3 _  a4 a5 H⟩
theorem ao0:cA Hk Qy:=cP X9 163000 [] (a0 BO (a0 JP cf)) Tryz.func156 fun⟨a4,a5⟩=>c8 λH=>⟨rfl,au4 _ bd bd a4 a5 H⟩
theorem ao1:cA Hh Qz:=cP X7 144000 [] (a0 JP cf) Tryz.func98 λa4=>c8 λH=>⟨rfl,au5 _ bd a4 H⟩
theorem aF2:cA Vj YC:=cP Yo 210000 [] cf Tryz.func150 fun⟨a4,a5,bX,cS⟩=>c8 λH=>⟨rfl,au7 _  a4 a5 bX cS H⟩
theorem ao2:cA Et QA:=cP Yn 209000 [] cf Tryz.func152 fun⟨a4,a5⟩=>⟨rfl,au8 _  a4 a5⟩
theorem ao3:cA K0 QB:=cP Yl 205000 [] (a0 BO (a0 aF2 (a0 aei cf))) Tryz.func97 fun⟨a4,a5,bX,cS⟩=>c8 λH=>⟨rfl,ava _ bd bd bd a4 a5 bX cS H⟩
theorem ao4:cA KV QC:=cP Ya 164000 [] (a0 BO (a0 aoZ (a0 JP cf))) Tryz.func96 fun⟨a4,a5,bX,cS⟩=>c8 λH=>⟨rfl,avb _ bd bd bd a4 a5 bX cS H⟩
theorem TL:cA r2 Ia:=cP Yj 202000 [] (a0 BO (a0 aoY (a0 JP (a0 ao2 cf)))) Tryz.func99 fun⟨a4,a5,bX,cS⟩=>c8 λH=>⟨rfl,avc _ bd bd bd bd a4 a5 bX cS H⟩
theorem ao5:cA K1 QD:=cP Ym 206000 [] (a0 BO (a0 aoX (a0 aei (a0 aej (a0 JP (a0 ao2 cf)))))) Tryz.func100 fun⟨a4,a5,bX,cS⟩=>c8 λH=>⟨rfl,avd _ bd bd bd bd bd bd a4 a5 bX cS H⟩
theorem aF3:cA Vi YE:=cP Yk 203000 [] (a0 BO (a0 ao0 (a0 ao5 cf))) Tryz.func108 fun⟨a4,a5,bX,cS⟩=>c8 λH=>⟨rfl,avg _ bd bd bd a4 a5 bX cS H⟩
theorem ao6:cA Eo QE:=cP Yb 165000 [] (a0 BO (a0 aoZ (a0 aoX (a0 aej (a0 JP cf))))) Tryz.func142 fun⟨a4,a5,bX,cS⟩=>c8 λH=>⟨rfl,avi _ bd bd bd bd bd a4 a5 bX cS H⟩
theorem ao7:cA KS QG:=cP YJ 143000 [] (a0 BO (a0 ao0 (a0 ao4 (a0 ao6 cf)))) Tryz.func107 fun⟨a4,a5,bX,cS⟩=>c8 λH=>⟨rfl,avj _ bd bd bd bd a4 a5 bX cS H⟩
theorem TM:cA Ap Ib:=cP YH 124000 [] (a0 ao1 (a0 ao7 cf)) Tryz.func64 fun⟨a4,a5⟩=>c8 λH=>⟨rfl,avk _ bd bd a4 a5 H⟩
theorem aF4:cA Pl YR:=cP YI 142000 [] cf Tryz.func67 fun⟨a4,a5,bX,cS⟩=>c8 λH=>⟨rfl,avl _  a4 a5 bX cS H⟩
theorem aF5:cA UX YS:=cP YG 120000 [] (a0 aF4 cf) Tryz.func19 fun⟨a4,a5,bX,cS,eC,iD,jh,ir⟩=>c8 λH=>⟨rfl,avm _ bd a4 a5 bX cS eC iD jh ir H⟩
theorem aF6:cA UW YU:=cP YF 115000 [] cf Tryz.func35 fun⟨a4,a5,bX,cS,eC⟩=>⟨rfl,avo _  a4 a5 bX cS eC⟩
theorem DL:cA mm v8:=cP YL 196000 [] (a0 BO (a0 ao4 (a0 ao1 (a0 ao3 cf)))) Tryz.func56 fun⟨a4,a5,bX,cS⟩=>c8 λH=>⟨rfl,avq _ bd bd bd bd a4 a5 bX cS H⟩
theorem TN:cA Ar Ig:=cP YO 204000 [] (a0 ao7 cf) Tryz.func101 fun⟨a4,a5,bX,cS,eC⟩=>c8 λH=>⟨rfl,avs _ bd a4 a5 bX cS eC H⟩
theorem aF7:cA Pq LZ:=cP YN 198000 [] (a0 DL (a0 TL (a0 ao5 (a0 TN cf)))) Tryz.func57 fun⟨a4,a5,bX,cS,eC,iD,jh,ir⟩=>c8 λH=>⟨rfl,avA _ bd bd bd bd a4 a5 bX cS eC iD jh ir H⟩
theorem aek:cA Aq Fe:=cP YK 195000 [] (a0 DL (a0 TL (a0 aF3 (a0 TN cf)))) Tryz.func66 fun⟨a4,a5,bX,cS,eC,iD,jh,ir⟩=>c8 λH=>⟨rfl,avC _ bd bd bd bd a4 a5 bX cS eC iD jh ir H⟩
theorem ael:cA Cp Fg:=cP YM 197000 [] (a0 DL (a0 TL (a0 TN cf))) Tryz.func140 fun⟨a4,a5,bX,cS,eC,iD,jh,ir⟩=>c8 λH=>⟨rfl,avE _ bd bd bd a4 a5 bX cS eC iD jh ir H⟩
theorem ao8:cA Hn L0:=cP YP 207000 [] (a0 DL (a0 TL (a0 TN cf))) Tryz.func146 fun⟨a4,a5,bX,cS,eC,iD,jh,ir⟩=>c8 λH=>⟨rfl,avG _ bd bd bd a4 a5 bX cS eC iD jh ir H⟩
theorem aF8:cA Hg L1:=cP YY 113000 [] cf Tryz.func193 fun⟨a4,a5,bX,cS⟩=>⟨rfl,avH _  a4 a5 bX cS⟩
theorem aF9:cA US Y6:=cP YW 107000 [] (a0 aF6 cf) Tryz.func10 fun⟨a4,a5,bX⟩=>c8 λH=>⟨rfl,avK _ bd a4 a5 bX H⟩
theorem aGa:cA Pk Y8:=cP YX 112000 [] (a0 aF5 cf) Tryz.func28 fun⟨a4,a5⟩=>c8 λH=>⟨rfl,avM _ bd a4 a5 H⟩
theorem aGb:cA Ve ZX:=cP Y0 192000 [] (a0 DL cf) Tryz.func173 fun⟨a4,a5⟩=>c8 λH=>⟨rfl,axc _ bd a4 a5 H⟩
theorem aGc:cA Ps Z0:=cP Y4 208000 [] (a0 ael (a0 aek cf)) Tryz.func208 fun⟨a4,a5,bX⟩=>c8 λH=>⟨rfl,axe _ bd bd a4 a5 bX H⟩
theorem aGd:cA Vg Z2:=cP Y1 199000 [12,25] cf Tryz.func192 λa4=>c8 λH=>⟨rfl,axj _  a4 H⟩
theorem aGe:cA Vh Z6:=cP Y2 200000 [20] (a0 ao8 cf) Tryz.func194 fun⟨a4,a5⟩=>c8 λH=>⟨rfl,axo _ bd a4 a5 H⟩
theorem aGf:cA Pr Re:=cP Y3 201000 [22] (a0 aGc cf) Tryz.func195 fun⟨a4,a5,bX⟩=>c8 λH=>⟨rfl,axt _ bd a4 a5 bX H⟩
theorem aGg:cA Vf Rj:=cP Fh 194000 [21] (a0 aGd (a0 aF8 (a0 aGe (a0 aGf cf)))) Tryz.func174 fun⟨a4,a5⟩=>c8 λH=>⟨rfl,axC _ bd bd bd bd a4 a5 H⟩
theorem aGh:cA Vd aaj:=cP YZ 189000 [] (a0 aGb (a0 aGg cf)) Tryz.func141 fun⟨a4,a5⟩=>c8 λH=>⟨rfl,axI _ bd bd a4 a5 H⟩
theorem Oa:cA oY u2:=cP abr 271000 [] (a0 TM cf) Tryz.func46 λa4=>c8 λH=>⟨rfl,azk _ bd a4 H⟩
theorem Gr:cA ou u3:=cP XR 230000 [] (a0 aee cf) Tryz.func39 λa4=>c8 λH=>⟨rfl,azl _ bd a4 H⟩
theorem aGi:cA yS MU:=cP abB 241000 [] (a0 aee cf) Tryz.func70 λa4=>c8 λH=>⟨rfl,azn _ bd a4 H⟩
theorem aGj:cA Pt RX:=cP abE 219000 [] (a0 TM cf) Tryz.func24 λa4=>c8 λH=>⟨rfl,azp _ bd a4 H⟩
theorem aGk:cA Cq RY:=cP abz 284000 [] (a0 TM cf) Tryz.func145 fun⟨a4,a5⟩=>c8 λH=>⟨rfl,azr _ bd a4 a5 H⟩
theorem Ob:cA q7 xX:=cP abt 272000 [] cf Tryz.func47 fun⟨a4,a5,bX⟩=>c8 λH=>⟨rfl,azv _  a4 a5 bX H⟩
theorem aGl:cA Vl abI:=cP abn 216000 [] cf Tryz.func9 fun⟨a4,a5⟩=>⟨rfl,azx _  a4 a5⟩
theorem ao9:cA La R3:=cP abq 268000 [] cf Tryz.func43 fun⟨a4,a5⟩=>⟨rfl,azO _  a4 a5⟩
theorem aem:∀n,q2 Tryz.prog Hr (M8 n)
 |0=>aoK (mf:=QF) (kb:=278000) (own:=[]) (rh (q4 cf) (ri l3)) mixed Tryz.func89 (by kernel_rfl) (by kernel_rfl) λa r Y=>by obtain⟨H,rfl⟩:=UA Y;exact absurd H.2 (Nat.not_lt_zero _)
 |n+1=>aoK (mf:=QF) (kb:=278000) (own:=[]) (rh (q4 (a0 ao6 (a0 ao3 (a0 (aem n) cf)))) (ri l3)) mixed Tryz.func89 (by kernel_rfl) (by kernel_rfl) fun⟨p,q,r,s⟩ x Y=>by obtain⟨H,rfl⟩:=UA Y;exact⟨tO rfl,azU _ (jX rfl rfl) (jX rfl rfl) n (jX rfl rfl) p q r s H⟩
theorem aGm:q2 Tryz.prog Hr M7:=⟨(aem 0).real,λds r h A w vs az ab=>by
 obtain⟨n,aM⟩:=azR h;exact (aem n).run ds r aM A w vs az ab⟩
theorem Oc:cA s4 x1:=cP YQ 270000 [] (a0 DL (a0 aGm cf)) Tryz.func45 fun⟨a4,a5,bX,cS,eC,iD,jh,ir⟩=>c8 λH=>⟨rfl,azX _ bd bd a4 a5 bX cS eC iD jh ir H⟩
theorem aGn:cA Lb Nm:=cP abu 273000 [] (a0 Ob (a0 Oa (a0 Oc cf))) Tryz.func48 fun⟨a4,a5,bX⟩=>c8 λH=>⟨rfl,aAr _ bd bd bd a4 a5 bX H⟩
theorem aGo:cA VB ace:=cP abx 282000 [] cf Tryz.func143 λa4=>c8 λH=>⟨rfl,aAz _  a4 H⟩
theorem aGp:cA VC acg:=cP aby 283000 [] cf Tryz.func144 fun⟨a4,a5⟩=>c8 λH=>⟨rfl,aAC _  a4 a5 H⟩
theorem aGq:cA Vz acp:=cP abw 279000 [] (a0 DL (a0 aGo (a0 aGp (a0 aGk (a0 aek (a0 Oc (a0 ael (a0 ao8 cf)))))))) Tryz.func90 fun⟨a4,a5⟩=>c8 λH=>⟨rfl,aAH _ bd bd bd bd bd bd bd bd a4 a5 H⟩
theorem apa:cA Ew Jf:=cP abv 274000 [] (a0 aGq cf) Tryz.func49 fun⟨a4,a5,bX⟩=>c8 λH=>⟨rfl,aAN _ bd a4 a5 bX H⟩
theorem apb:cA vE Sx:=cP XV 243000 [] cf Tryz.func82 fun⟨a4,a5,bX⟩=>⟨rfl,aA0 _  a4 a5 bX⟩
theorem aGr:cA K7 acC:=cP XW 244000 [] (a0 apb cf) Tryz.func83 λa4=>⟨rfl,aA2 _ bd a4⟩
theorem aGs:cA K8 acF:=cP XX 245000 [] (a0 apb cf) Tryz.func84 fun⟨a4,a5,bX,cS,eC⟩=>c8 λH=>⟨rfl,aA4 _ bd a4 a5 bX cS eC H⟩
theorem aGt:cA K4 acH:=cP XS 232000 [] (a0 Gr (a0 JO cf)) Tryz.func41 fun⟨a4,a5,bX⟩=>c8 λH=>⟨rfl,aA7 _ bd bd a4 a5 bX H⟩
theorem apc:cA K9 Sy:=cP acz 251000 [] cf Tryz.func103 λa4=>⟨rfl,aA8 _  a4⟩
theorem aGu:cA Pv acI:=cP acy 250000 [] (a0 apc cf) Tryz.func102 λa4=>⟨rfl,aA9 _ bd a4⟩
theorem apd:cA Ev Jh:=cP V7 231000 [] (a0 aGr (a0 aGu (a0 aGt cf))) Tryz.func40 fun⟨a4,a5⟩=>c8 λH=>⟨rfl,aBc _ bd bd bd a4 a5 H⟩
theorem aGv:cA Vp acJ:=cP V9 246000 [] (a0 apd cf) Tryz.func85 fun⟨a4,a5⟩=>c8 λH=>⟨rfl,aBf _ bd a4 a5 H⟩
theorem aGw:cA Hq adl:=cP abC 253000 [] cf Tryz.func115 fun⟨a4,a5,bX⟩=>⟨rfl,aCT _  a4 a5 bX⟩
theorem aGx:cA Vo adm:=cP abA 240000 [] (a0 aGw cf) Tryz.func71 λa4=>c8 λH=>⟨rfl,aCU _ bd a4 H⟩
theorem aGy:cA Vs adp:=cP FM 249000 [] (a0 BN (a0 JO (a0 aGi (a0 aGx (a0 aeh (a0 aoU (a0 aeg cf))))))) Tryz.func26 fun⟨a4,a5⟩=>c8 λH=>⟨rfl,aC5 _ bd bd bd bd bd bd bd a4 a5 H⟩
theorem aGz:cA Pw acL:=cP acA 252000 [] (a0 apc cf) Tryz.func104 fun⟨a4,a5,bX,cS,eC⟩=>c8 λH=>⟨rfl,aBh _ bd a4 a5 bX cS eC H⟩
theorem aGA:cA Vt acM:=cP Wb 254000 [] (a0 aGs (a0 aGz cf)) Tryz.func135 fun⟨a4,a5⟩=>c8 λH=>⟨rfl,aBj _ bd bd a4 a5 H⟩
theorem aGB:cA Vq acN:=cP Wa 247000 [] (a0 aGA cf) Tryz.func86 fun⟨a4,a5⟩=>c8 λH=>⟨rfl,aBl _ bd a4 a5 H⟩
theorem ape:cA K3 SC:=cP XQ 227000 [] (a0 aGv (a0 aGB cf)) Tryz.func36 fun⟨a4,a5⟩=>c8 λH=>⟨rfl,aBn _ bd bd a4 a5 H⟩
theorem apf:cA K5 NS:=cP E5 233000 [] (a0 aGy cf) Tryz.func42 fun⟨a4,a5⟩=>c8 λH=>⟨rfl,aDp _ bd a4 a5 H⟩
theorem aGC:l2 Tryz.prog Px (qG SE):=I9 (mf:=Qj) (kb:=255000) (own:=[17]) (rh (q4 (a0 Gr (a0 aF1 (a0 aee (a0 TJ cf))))) (ri l3)) mixed Tryz.func136 (by kernel_rfl) (by kernel_rfl) (λj=>j/1000=255) λargs mem d h=>by
 obtain⟨a,⟨rfl,aW⟩,rfl⟩:=Jb h;exact⟨tO rfl,aW.no,aBq _ (jX rfl rfl) (jX rfl rfl) (jX rfl rfl) (jX rfl rfl) a.1 a.2 mem aW⟩
theorem aGD:l2 Tryz.prog Vu (qG SK):=I9 (mf:=HZ) (kb:=256000) (own:=[]) (rh (q4 (a0 Gr (a0 aeg (a0 aFY cf)))) (ri l3)) mixed Tryz.func137 (by kernel_rfl) (by kernel_rfl) (λj=>j/1000=256) λargs mem d h=>by
 obtain⟨a,⟨rfl,aW⟩,rfl⟩:=Jb h;exact⟨tO rfl,aW.no,aBE _ (jX rfl rfl) (jX rfl rfl) (jX rfl rfl) a mem aW⟩
theorem aGE:l2 Tryz.prog Vr (qG ac1):=I9 (mf:=v3) (kb:=248000) (own:=[]) (rh (q4 (a0 Gr (a0 aeh (a0 TJ cf)))) (ri (pR aGC (pR aGD l3)))) mixed Tryz.func87 (by kernel_rfl) (by kernel_rfl) (λj=>j/1000=248) λargs mem d h=>by
 obtain⟨a,⟨rfl,aW⟩,rfl⟩:=Jb h;exact⟨tO rfl,aW.hK,aCd _ (jX rfl rfl) (wa rfl rfl) (wa rfl rfl) (jX rfl rfl) (jX rfl rfl) a mem aW⟩
theorem aGF:l2 Tryz.prog Pu (uL NH):=QN (mf:=HY) (kb:=229000) (own:=[]) (rh (q4 (a0 Gr (a0 JO cf))) (ri (pR aGE l3))) mixed Tryz.func38 (by kernel_rfl) (by kernel_rfl) λargs mem bU h=>by
 obtain⟨a,⟨rfl,aW⟩,rfl⟩:=QQ h;exact⟨tO rfl,aCr _ (wa rfl rfl) (jX rfl rfl) (jX rfl rfl) a mem aW⟩
theorem aGG:l2 Tryz.prog Vm (uL adj):=QN (mf:=CO) (kb:=228000) (own:=[22]) (rh (q4 cf) (ri l3)) mixed Tryz.func37 (by kernel_rfl) (by kernel_rfl) λargs mem bU h=>by
 obtain⟨a,⟨rfl,aW⟩,rfl⟩:=QQ h;exact⟨tO rfl,aCJ _  a.1 a.2 mem aW⟩
theorem aGH:l2 Tryz.prog VA (qG abY):=I9 (mf:=RU) (kb:=280000) (own:=[]) (rh (q4 cf) (ri l3)) mixed Tryz.func138 (by kernel_rfl) (by kernel_rfl) (λj=>j/1000=280) λargs mem d h=>by
 obtain⟨a,⟨rfl,aW⟩,rfl⟩:=Jb h;exact⟨tO rfl,aW.2.1,az5 _  a.1 a.2 mem aW.1 aW.2.1 aW.2.2.1 aW.2.2.2.1 aW.2.2.2.2⟩
theorem aGI:l2 Tryz.prog Pz (qG Nh):=I9 (mf:=RV) (kb:=281000) (own:=[]) (rh (q4 (a0 Ob (a0 TM cf))) (ri l3)) mixed Tryz.func139 (by kernel_rfl) (by kernel_rfl) (λj=>j/1000=281) λargs mem d h=>by
 obtain⟨a,⟨rfl,aW⟩,rfl⟩:=Jb h;exact⟨tO rfl,aW.2.1,az7 _ (jX rfl rfl) (jX rfl rfl) a mem aW⟩
theorem aGJ:l2 Tryz.prog Vy (qG ab5):=I9 (mf:=Dj) (kb:=277000) (own:=[]) (rh (q4 (a0 Oa (a0 Ob (a0 aek (a0 ael (a0 aGh cf)))))) (ri (pR aGH (pR aGI l3)))) mixed Tryz.func88 (by kernel_rfl) (by kernel_rfl) (λj=>j/1000=277) λargs mem d h=>by
 obtain⟨a,⟨rfl,aW⟩,rfl⟩:=Jb h;exact⟨tO rfl,aW.cB,aAk _ (wa rfl rfl) (jX rfl rfl) (jX rfl rfl) (wa rfl rfl) (jX rfl rfl) (jX rfl rfl) (jX rfl rfl) a mem aW⟩
theorem aGK:l2 Tryz.prog Py (uL Si):=QN (mf:=I6) (kb:=269000) (own:=[]) (rh (q4 (a0 Oa (a0 Ob (a0 Oc cf)))) (ri (pR aGJ l3))) mixed Tryz.func44 (by kernel_rfl) (by kernel_rfl) λargs mem bU h=>by
 obtain⟨a,⟨rfl,aW⟩,rfl⟩:=QQ h;exact⟨tO rfl,aAx _ (wa rfl rfl) (jX rfl rfl) (jX rfl rfl) (jX rfl rfl) a mem aW⟩
theorem aen:cA Eu JG:=zO E4 217000 [] (a0 ape (a0 Gr (a0 JO (a0 apd (a0 apf cf))))) (pR aGG (pR aGF l3)) Tryz.func11 fun⟨a4,a5⟩=>c8 λH=>⟨rfl,aEl _ bd (wa rfl rfl) (wa rfl rfl) bd bd bd bd a4 a5 H⟩
theorem aGL:cA Hp adB:=cP XU 236000 [] (a0 JO cf) Tryz.func55 fun⟨a4,a5,bX,cS,eC,iD,jh,ir⟩=>c8 λH=>⟨rfl,aDE _ bd a4 a5 bX cS eC iD jh ir H⟩
theorem aGM:cA Vn adD:=cP V8 235000 [] (a0 aGL cf) Tryz.func54 fun⟨a4,a5⟩=>c8 λH=>⟨rfl,aDJ _ bd a4 a5 H⟩
theorem apg:cA K2 NW:=cP XP 218000 [] (a0 ape (a0 aoW (a0 apf (a0 Gr (a0 TJ (a0 aGM cf)))))) Tryz.func14 fun⟨a4,a5,bX⟩=>c8 λH=>⟨rfl,aD4 _ bd bd bd bd bd bd a4 a5 bX H⟩
theorem aph:cA K6 Tt:=cP abo 242000 [] cf Tryz.func50 fun⟨a4,a5⟩=>c8 λH=>⟨rfl,aEw _  a4 a5 H⟩
theorem aGN:cA Ho ad0:=cP abF 226000 [] (a0 aen (a0 aph (a0 aGj (a0 JO (a0 BN (a0 apg cf)))))) Tryz.func34 fun⟨a4,a5,bX,cS,eC⟩=>c8 λH=>⟨rfl,aEE _ bd bd bd bd bd bd a4 a5 bX cS eC H⟩
theorem aGO:cA Vk ad3:=cP abD 215000 [19] (a0 aGN (a0 aen cf)) Tryz.func8 λ_=>⟨rfl,aE9 _ bd bd⟩
theorem aGP:cA Vv ad4:=zO u1 261000 [] (a0 ao9 (a0 Oa (a0 Ob (a0 Oc (a0 aGn (a0 apa cf)))))) (pR aGK l3) Tryz.func12 fun⟨a4,a5⟩=>c8 λH=>⟨rfl,aFd _ bd (wa rfl rfl) bd bd bd bd bd a4 a5 H⟩
theorem aGQ:cA Vw ad7:=cP abp 262000 [] (a0 aGa (a0 aph cf)) Tryz.func13 fun⟨a4,a5,bX⟩=>c8 λH=>⟨rfl,aFf _ bd bd a4 a5 bX H⟩
theorem aGR:cA Vx ad9:=cP Bm 263000 [] (a0 ao9 (a0 DL (a0 apa (a0 Oa (a0 aF7 (a0 Oc cf)))))) Tryz.func15 fun⟨a4,a5,bX⟩=>c8 λH=>⟨rfl,aFw _ bd bd bd bd bd bd a4 a5 bX H⟩
theorem aGS:cA asc aea:=cP abG 257000 [] (a0 aGO (a0 aGl (a0 aF9 (a0 aen (a0 aGP (a0 aGQ (a0 apg (a0 aGR cf)))))))) Tryz.func3 fun⟨a4,a5,bX⟩=>⟨rfl,aFC _ bd bd bd bd bd bd bd bd a4 a5 bX⟩
end Go.Mini
