/- A part of the proof. -/
import Derived.Test.YtdbkjjoedjfmpaaGreatM03
set_option linter.unusedSimpArgs false
set_option linter.unusedVariables false
set_option maxRecDepth 100000
set_option maxHeartbeats 4000000
noncomputable section
open Bool renaming and_eq_true->fw,and_false->jB,and_true->Ah,eq_iff_iff->AO,false_and->eR,false_eq_true->j3,not_false->db,not_true->cw,or_true->Ag,true_and->fD
open Classical renaming choose_spec->q3
open Decidable renaming em->dc
open Int renaming natAbs_natCast->k4,natAbs_neg->xq
open List renaming all_append->QJ,all_cons->w7,any_eq_false->wi,any_eq_true->ajg,append_assoc->gT,append_nil->gS,drop->iP,drop_append->r0,drop_eq_getElem_cons->h9,drop_eq_nil_of_le->lO,drop_zero->nD,ext_getElem?->oR,findIdx_eq->aiB,findIdx_eq_length->aiC,findIdx_le_length->ai3,findIdx_map->ajL,flatten_append->Q8,flatten_cons->j1,getD_eq_getElem?_getD->ep,getElem?_append_left->oe,getElem?_append_right->nc,getElem?_drop->qX,getElem?_eq_getElem->bq,getElem?_eq_none->ja,getElem?_eq_some_iff->ej,getElem?_inj->aiA,getElem?_map->bj,getElem?_set->lG,getElem?_zipIdx->Q0,getElem_drop->C0,getElem_mem->lq,length->D,length_append->fX,length_cons->jO,length_drop->nE,length_map->aE,length_replicate->wk,length_set->jF,length_take->gv,length_zip->ajq,map->nR,mapM_cons->ny,map_append->js,map_cons->ey,map_map->oj,map_nil->cC,map_replicate->Iy,map_set->wb,mem_append->jb,mem_cons->lS,mem_cons_of_mem->hO,mem_cons_self->g3,mem_iff_getElem?->yJ,mem_map->fO,mem_of_getElem?->dn,mem_of_mem_drop->Lp,mem_or_eq_of_mem_set->Fj,mem_singleton->xk,nil_append->hX,range->eN,replicate->et,replicate_append_replicate->ZQ,replicate_succ->sR,set_append_right->zf,set_cons_succ->uP,set_cons_zero->mx,set_set->aiK,take->hY,take_add_one->gB,take_append_of_le_length->C7,take_length->nQ,take_of_length_le->dp,take_succ_cons->sW
open List.cons renaming injEq->bk
open Nat renaming add_sub_cancel_left->Hc,add_zero->lP,eq_zero_or_pos->ko,exists_eq_add_of_le->aja,gcd->gU,le_refl->cH,lt_or_ge->g2,mul_one->dY,reduceEqDiff->cp,reduceLeDiff->aiJ,sub_self->jy,zero_le->fm
open Option renaming map_eq_some_iff->e1,map_some->lu
open Option.some renaming inj->oh,injEq->cL
open Prod renaming ext->dN,fst->oB
open Prod.mk renaming injEq->fS
open Rat renaming add_zero->iX,divInt->lZ
namespace Go.Mini
open Go
def QG:=cn qm λ(s,l,s2,aa)=>cN (D l<=1000000/\D aa<=1000000) (.same (cG (gH (s,l) (s2,aa))))
@[go_sem] theorem aKK (s:Int)(l:List Int)(s2:Int)(aa:List Int)(H:(D l)<=1000000/\D aa<=1000000):QG [.agg [.int .i64 s,.X (l.map ae)],.agg [.int .i64 s2,.X (aa.map ae)]]=some (.same (cG (gH (s,l) (s2,aa)))):=(cz sb (s,l,s2,aa)).trans (cX H _)
theorem avj (T:bl)(gn:T ly=aQ xw)(CV:T Hk=aQ Qy)(za:T KV=aQ QC)(zb:T Eo=aQ QE)(s:Int)(l:List Int)(s2:Int)(aa:List Int)(H:(D l)<=1000000/\D aa<=1000000):WP T YJ (.same (cG (gH (s,l) (s2,aa)))) [.I (.agg [.int .i64 s,.X (l.map ae)]),.I (.agg [.int .i64 s2,.X (aa.map ae)])]:=by
 refine cD ?_;simp only[YJ];obtain⟨bJ,bO⟩:=H
 by_cases Y:dj (s,l)=true
 ·by_cases a8:dj (s2,aa)=true
  ·obtain⟨x,M,e⟩:=(hM _).1 Y;obtain⟨y,aj,aB⟩:=(hM _).1 a8
   by_cases ax:y=0
   ·have hm:gH (s,l) (s2,aa)=(dD,15):=by
     unfold gH;rw[Y,a8,aB,e8,ad (by rfl),ad ax]
    rw[hm]
    cases e
    cases aB;have U:(y.sign==0)=true:=by rw[ax];rfl
    refine ak ?_;repeat' (intro h<;>simp only[h,go_sem,go_sem_proc,gn,CV,za,zb,Y,a8,bJ,bO,U,cG,ar,dD,cC]<;>try refine ai ?_ ?_)
   ·have main:∀p q:Int,p.natAbs<dQ->q.natAbs<dQ->0<q->∃g:Raw,lB (bf p) (bf q)=(g,0)/\g.2.length<=1000000/\k3 (bf p) g=(bf (lZ p q).num,bf (p.fmod ((gU p.natAbs q.natAbs:Nat):Int)),0)/\k3 (bf q) g=(bf (lZ p q).den,bf (q.fmod ((gU p.natAbs q.natAbs:Nat):Int)),0):=by
     intro p q aF bF mX;have nn:=HT aF bF;have E0:((gU p.natAbs q.natAbs:Nat):Int).natAbs<dQ:=by rw[k4];exact nn
     have xl:=Xy (p:=p) (q:=q) (by omega);obtain⟨G,J⟩:=Xx (p:=p) mX;refine⟨bf ((gU p.natAbs q.natAbs:Nat):Int),?_,jI E0,?_,?_⟩
     ·unfold lB;rw[kx aF,kx bF,e8,e8];rfl
     ·rw[AH aF E0 (by omega),G]
     ·rw[AH bF E0 (by omega),J]
    have pM:(y.sign==0)=false:=by simpa using ax
    rcases Int.lt_or_gt_of_ne ax with mr|iF
    ·have iS:decide (y.sign<0)=true:=by rw[Int.sign_eq_neg_one_of_neg mr];rfl
     obtain⟨⟨cQ,dd⟩,bz,nn,kt,lX⟩:=main (-x) (-y) (by omega) (by omega) (by omega)
     have hm:gH (s,l) (s2,aa)=(al (lZ (-x) (-y)),0):=by
      rw[e,aB,AP M aj ax,Rat.neg_divInt_neg]
     rw[hm];have wT:hf (s,l)=bf (-x):=by unfold hf;rw[ad Y,e,e8]
     have vo:hf (s2,aa)=bf (-y):=by unfold hf;rw[ad a8,aB,e8]
     have CL:s2=y.sign:=congrArg oB aB;have eH:(bf (-x)).2.length<=1000000:=jI (by omega);have eV:(bf (-y)).2.length<=1000000:=jI (by omega);clear e aB;unfold al;generalize bf (-x)=bu at *;generalize bf (-y)=g8 at *;obtain⟨a5,bX⟩:=bu;obtain⟨lz,mW⟩:=g8;rw[<-CL] at pM iS;refine ak ?_;repeat' (intro h<;>simp only[h,go_sem,go_sem_proc,gn,CV,za,zb,Y,a8,bJ,bO,pM,iS,wT,vo,eH,eV,bz,nn,kt,lX,cG,ar,dZ,jH,ck]<;>try refine ai ?_ ?_)
    ·have iS:decide (y.sign<0)=false:=by rw[Int.sign_eq_one_of_pos iF];rfl
     obtain⟨⟨cQ,dd⟩,bz,nn,kt,lX⟩:=main x y M aj iF
     have hm:gH (s,l) (s2,aa)=(al (lZ x y),0):=by
      rw[e,aB,AP M aj ax]
     rw[hm];have CL:s2=y.sign:=congrArg oB aB;rw[<-e] at bz kt;rw[<-aB] at bz lX;rw[<-CL] at pM iS;unfold al;refine ak ?_;repeat' (intro h<;>simp only[h,go_sem,go_sem_proc,gn,CV,za,zb,Y,a8,bJ,bO,pM,iS,bz,nn,kt,lX,cG,ar,dZ,jH,ck]<;>try refine ai ?_ ?_)
  ·have a8:dj (s2,aa)=false:=by simpa using a8
   have hm:gH (s,l) (s2,aa)=(dD,1):=by unfold gH;rw[a8,jB];rfl
   rw[hm];refine ak ?_;repeat' (intro h<;>simp only[h,go_sem,go_sem_proc,gn,CV,za,zb,Y,a8,bJ,bO,cG,ar,dD,cC]<;>try refine ai ?_ ?_)
 ·have Y:dj (s,l)=false:=by simpa using Y
  have hm:gH (s,l) (s2,aa)=(dD,1):=by unfold gH;rw[Y,eR];rfl
  rw[hm];refine ak ?_;repeat' (intro h<;>simp only[h,go_sem,go_sem_proc,gn,CV,za,zb,Y,bJ,bO,cG,ar,dD,cC]<;>try refine ai ?_ ?_)
def Ib:=cn Hx λ(p,q)=>cN (dr p/\dr q) (.same (cG (gH (bf p) (bf q))))
@[go_sem] theorem aKL (p:Int)(q:Int)(H:dr p/\dr q):Ib [.int .i64 p,.int .i64 q]=some (.same (cG (gH (bf p) (bf q)))):=(cz PH (p,q)).trans (cX H _)
theorem avk (T:bl)(Ic:T Hh=aQ Qz)(QH:T KS=aQ QG)(p:Int)(q:Int)(H:dr p/\dr q):WP T YH (.same (cG (gH (bf p) (bf q)))) [.I (.int .i64 p),.I (.int .i64 q)]:=by
 refine cD ?_;simp only[YH];obtain⟨G,J⟩:=H;have ed:(bf p).2.length<=1000000:=jI (td G);have aa:(bf q).2.length<=1000000:=jI (td J);generalize fi:bf p=P at *;generalize fC:bf q=aZ at *;obtain⟨a5,bX⟩:=P;obtain⟨lz,mW⟩:=aZ;refine ak ?_;repeat' (intro h<;>simp only[h,go_sem,go_sem_proc,Ic,QH,G,J,fi,fC,ed,aa,ck,cG,ar]<;>try refine ai ?_ ?_)
def YR:=cn qm λ(s,l,s2,aa)=>cN (D l<=1000000/\D aa<=1000000) (.same (.bool (o4 (s,l) (s2,aa))))
@[go_sem] theorem aKM (s:Int)(l:List Int)(s2:Int)(aa:List Int)(H:(D l)<=1000000/\D aa<=1000000):YR [.agg [.int .i64 s,.X (l.map ae)],.agg [.int .i64 s2,.X (aa.map ae)]]=some (.same (.bool (o4 (s,l) (s2,aa)))):=(cz sb (s,l,s2,aa)).trans (cX H _)
theorem avl (T:bl)  (s:Int) (l:List Int) (s2:Int) (aa:List Int) (H:(D l)<=1000000/\D aa<=1000000):WP T YI (.same (.bool (o4 (s,l) (s2,aa)))) [.I (.agg [.int .i64 s,.X (l.map ae)]),.I (.agg [.int .i64 s2,.X (aa.map ae)])]:=by
 refine cD ?_;simp only[YI];obtain⟨bJ,bO⟩:=H
 by_cases U:s=s2
 ·subst U
  by_cases aw:(D l)=D aa
  ·have av:(((D l:Nat):Int)==((D aa:Nat):Int))=true:=by simp;omega
   simp only[go_sem,go_sem_proc,beq_self_eq_true,aE,av,cw,bne];refine cU [2,3] [142002,142003] (λ(i:Nat) tm mem=>i<=D l/\l.take i=aa.take i/\tm 5=.I (.int .i64 i)) (λi=>D l-i) 0 (by refine⟨by omega,by simp,rfl⟩) ?_;intro vs ms aJ aH;simp only[go_sem,go_sem_proc] at aJ aH;subst aJ aH;rintro i tm mem L hm ⟨Q,aC,bx⟩;simp only[go_sem,go_sem_proc,bk] at L hm;obtain⟨J,af⟩:=L;obtain⟨b7,gG⟩:=hm;rcases dc (i<D l) with az|b2
   ·have M:l[i]?=some l[i]:=bq az;have aj:aa[i]?=some aa[i]:=bq (by omega);have wT:l.take (i+1)=l.take i++[l[i]]:=by rw[gB,M];rfl
    have vo:aa.take (i+1)=aa.take i++[aa[i]]:=by rw[gB,aj];rfl
    generalize l[i]=x at *;generalize aa[i]=y at *;have d1:decide ((i:Int)<(D l:Int))=true:=cT;have bG:=ec (i:=i) (by omega)
    by_cases g4:x=y
    ·subst g4;refine ak ?_;repeat' (intro (ay:_=_)<;>simp only[ay,go_sem,go_sem_proc,J,af,bx,b7,gG,M,aj,d1,bG,ae,aE,bj,bk,beq_self_eq_true,cw]<;>try refine ai ?_ ?_)
     exact⟨i+1,by omega,by omega,by rw[wT,vo,aC],rfl⟩
    ·have b6:(x==y)=false:=by simpa using g4
     have Y:o4 (s,l) (s,aa)=false:=by
      refine h7 λh=>g4 ?_;rw[fS] at h;rw[h.2,aj] at M;exact (oh M).symm
     rw[Y];refine ak ?_;repeat' (intro (ay:_=_)<;>simp only[ay,go_sem,go_sem_proc,J,af,bx,b7,gG,M,aj,d1,bG,b6,ae,aE,bj,bk,db]<;>try refine ai ?_ ?_)
   ·have d1:decide ((i:Int)<(D l:Int))=false:=cl
    have Y:o4 (s,l) (s,aa)=true:=by
     refine jw ?_;rw[dp (by omega),dp (by omega)] at aC;rw[aC]
    rw[Y];refine ak ?_;repeat' (intro (ay:_=_)<;>simp only[ay,go_sem,go_sem_proc,J,af,bx,b7,gG,d1,aE]<;>try refine ai ?_ ?_)
  ·have av:(((D l:Nat):Int)==((D aa:Nat):Int))=false:=by simp;omega
   have Y:o4 (s,l) (s,aa)=false:=by
    refine h7 λh=>aw ?_;rw[fS] at h;rw[h.2]
   rw[Y];refine ak ?_;repeat' (intro (ay:_=_)<;>simp only[ay,go_sem,go_sem_proc,beq_self_eq_true,aE,av,cw,db,bne]<;>try refine ai ?_ ?_)
 ·have b6:(s==s2)=false:=by simpa using U
  have Y:o4 (s,l) (s2,aa)=false:=by
   refine h7 λh=>U ?_;rw[fS] at h;exact h.1
  rw[Y];refine ak ?_;repeat' (intro (ay:_=_)<;>simp only[ay,go_sem,go_sem_proc,b6,aE,cw,db,bne]<;>try refine ai ?_ ?_)
def Ie (a b:a7):Bool:=decide (a=b)
def YS:=cn tg λ(s,l,s2,aa,bK,bh,bL,br)=>cN (D l<=1000000/\D aa<=1000000/\D bh<=1000000/\D br<=1000000) (.same (.bool (Ie ((s,l),(s2,aa)) ((bK,bh),(bL,br)))))
@[go_sem] theorem aKN (s:Int)(l:List Int)(s2:Int)(aa:List Int)(bK:Int)(bh:List Int)(bL:Int)(br:List Int)(H:(D l)<=1000000/\D aa<=1000000/\D bh<=1000000/\D br<=1000000):YS [.agg [.int .i64 s,.X (l.map ae),.int .i64 s2,.X (aa.map ae)],.agg [.int .i64 bK,.X (bh.map ae),.int .i64 bL,.X (br.map ae)]]=some (.same (.bool (Ie ((s,l),(s2,aa)) ((bK,bh),(bL,br))))):=(cz vU (s,l,s2,aa,bK,bh,bL,br)).trans (cX H _)
theorem avm (T:bl)(air:T Pl=aQ YR)(s:Int)(l:List Int)(s2:Int)(aa:List Int)(bK:Int)(bh:List Int)(bL:Int)(br:List Int)(H:(D l)<=1000000/\D aa<=1000000/\D bh<=1000000/\D br<=1000000):WP T YG (.same (.bool (Ie ((s,l),(s2,aa)) ((bK,bh),(bL,br))))) [.I (.agg [.int .i64 s,.X (l.map ae),.int .i64 s2,.X (aa.map ae)]),.I (.agg [.int .i64 bK,.X (bh.map ae),.int .i64 bL,.X (br.map ae)])]:=by
 refine cD ?_;simp only[YG];obtain⟨bJ,bO,eH,eV⟩:=H
 have e:Ie ((s,l),(s2,aa)) ((bK,bh),(bL,br))=(o4 (s,l) (bK,bh)&&o4 (s2,aa) (bL,br)):=by
  unfold Ie o4;rw[AO,fw,decide_eq_true_eq,decide_eq_true_eq,decide_eq_true_eq,fS]
 rw[e];rcases G:o4 (s,l) (bK,bh)
 ·refine ak ?_;repeat' (intro h<;>simp only[h,go_sem,go_sem_proc,air,bJ,bO,eH,eV,G,eR]<;>try refine ai ?_ ?_)
 ·refine ak ?_;repeat' (intro h<;>simp only[h,go_sem,go_sem_proc,air,bJ,bO,eH,eV,G,fD]<;>try refine ai ?_ ?_)
def zc (f:a7)(n:Int):Bool:=decide ((f.1.2.length:Int)<=n)&&decide ((f.2.2.length:Int)<=n)
abbrev YT:Int×(List Int)×Int×(List Int)×Int->List Data:=λ(s,l,s2,aa,n)=>[.agg [.int .i64 s,.X (l.map ae),.int .i64 s2,.X (aa.map ae)],.int .i64 n]
def YU:=cn YT λ(s,l,s2,aa,n)=>some (.same (.bool (zc ((s,l),(s2,aa)) n)))
theorem avn:∀a b,YT a=YT b->a=b:=by
  rintro⟨s1,ed,CE,AE,hK⟩ ⟨s2,aa,CF,AF,iw⟩ h;simp only[bk,Data.agg.injEq,Data.int.injEq,Data.X.injEq] at h;exact dN h.1.1.2 (dN (map_inj gx _ _ h.1.2.1) (dN h.1.2.2.1.2 (dN (map_inj gx _ _ h.1.2.2.2.1) h.2.1.2)))
@[go_sem] theorem aKO (s:Int)(l:List Int)(s2:Int)(aa:List Int)(n:Int):YU [.agg [.int .i64 s,.X (l.map ae),.int .i64 s2,.X (aa.map ae)],.int .i64 n]=some (.same (.bool (zc ((s,l),(s2,aa)) n))):=cz avn (s,l,s2,aa,n)
theorem avo (T:bl)  (s:Int) (l:List Int) (s2:Int) (aa:List Int) (n:Int):WP T YF (.same (.bool (zc ((s,l),(s2,aa)) n))) [.I (.agg [.int .i64 s,.X (l.map ae),.int .i64 s2,.X (aa.map ae)]),.I (.int .i64 n)]:=by
 refine cD ?_;simp only[YF];unfold zc;rcases G:decide ((D l:Int)<=n)
 ·refine ak ?_;repeat' (intro h<;>simp only[h,go_sem,go_sem_proc,G,aE,eR]<;>try refine ai ?_ ?_)
 ·refine ak ?_;repeat' (intro h<;>simp only[h,go_sem,go_sem_proc,G,aE,fD]<;>try refine ai ?_ ?_)
def v8:=cn CK λ(s,l,s2,aa)=>cN (D l<=1000000/\D aa<=1000000) (.same (.bool (di ((s,l),(s2,aa)))))
@[go_sem] theorem avp (s:Int)(l:List Int)(s2:Int)(aa:List Int)(H:(D l)<=1000000/\D aa<=1000000):v8 [.agg [.int .i64 s,.X (l.map ae),.int .i64 s2,.X (aa.map ae)]]=some (.same (.bool (di ((s,l),(s2,aa))))):=(cz HW (s,l,s2,aa)).trans (cX H _)
theorem avq (T:bl)(gn:T ly=aQ xw)(za:T KV=aQ QC)(Ic:T Hh=aQ Qz)(A3:T K0=aQ QB)(s:Int)(l:List Int)(s2:Int)(aa:List Int)(H:(D l)<=1000000/\D aa<=1000000):WP T YL (.same (.bool (di ((s,l),(s2,aa))))) [.I (.agg [.int .i64 s,.X (l.map ae),.int .i64 s2,.X (aa.map ae)])]:=by
 refine cD ?_;simp only[YL];obtain⟨bJ,bO⟩:=H
 by_cases Y:dj (s,l)=true
 ·by_cases a8:dj (s2,aa)=true
  ·obtain⟨x,M,e⟩:=(hM _).1 Y;obtain⟨y,aj,aB⟩:=(hM _).1 a8
   have bz:lB (s,l) (s2,aa)=(bf ((gU x.natAbs y.natAbs:Nat):Int),0):=by
    unfold lB;rw[Y,a8,e,aB,e8,e8];rfl
   have nn:=HT M aj;have rR:g6 (s,l)=x:=by rw[e,e8]
   have rS:g6 (s2,aa)=y:=by rw[aB,e8]
   have hc:di ((s,l),(s2,aa))=((s2==1)&&(gU x.natAbs y.natAbs==1)):=by
    show (dj (s,l)&&(dj (s2,aa)&&((s2==1)&&(gU (g6 (s,l)).natAbs (g6 (s2,aa)).natAbs==1))))=_;rw[Y,a8,rR,rS];simp only[fD]
   have CL:s2=y.sign:=congrArg oB aB;have ahE:=nO y;rw[hc];have gb:oA (bf ((gU x.natAbs y.natAbs:Nat):Int)) (bf 1)=gl ((gU x.natAbs y.natAbs:Nat):Int) 1:=LB (by rw[k4];exact nn) (td (by unfold dr;omega))
   have bS:(gl ((gU x.natAbs y.natAbs:Nat):Int) 1==0)=(gU x.natAbs y.natAbs==1):=by
    generalize gU x.natAbs y.natAbs=bE;rw[AO,beq_iff_eq,beq_iff_eq];rcases Int.lt_trichotomy (bE:Int) 1 with h|h|h
    ·rw[AG h];omega
    ·rw[h,HS];omega
    ·rw[EP h];omega
   have Xw:((bf ((gU x.natAbs y.natAbs:Nat):Int)).2).length<=1000000:=jI (by rw[k4];exact nn);have oc:dr 1:=by unfold dr;omega
   have W6:(bf 1).2.length<=1000000:=jI (td oc);rcases U:decide (s2<1)
   ·have iS:(s2==1)=true:=by have:=of_decide_eq_false U;rw[beq_iff_eq];omega
    rw[iS,fD,<-bS];generalize gl ((gU x.natAbs y.natAbs:Nat):Int) 1=C at *;generalize bf ((gU x.natAbs y.natAbs:Nat):Int)=bE at *;generalize gj:bf 1=a2 at *;obtain⟨cQ,dd⟩:=bE;obtain⟨lE,lF⟩:=a2;refine ak ?_;repeat' (intro (ay:_=_)<;>simp only[ay,go_sem,go_sem_proc,gn,za,Ic,A3,Y,a8,bJ,bO,U,bz,Xw,oc,W6,gb,gj,dZ,ck]<;>try refine ai ?_ ?_)
   ·have iS:(s2==1)=false:=by have:=of_decide_eq_true U;rw[beq_eq_false_iff_ne];omega
    rw[iS,eR];refine ak ?_;repeat' (intro (ay:_=_)<;>simp only[ay,go_sem,go_sem_proc,gn,za,Ic,A3,Y,a8,bJ,bO,U]<;>try refine ai ?_ ?_)
  ·have a8:dj (s2,aa)=false:=by simpa using a8
   have hc:di ((s,l),(s2,aa))=false:=by unfold di;simp[a8]
   rw[hc];refine ak ?_;repeat' (intro (ay:_=_)<;>simp only[ay,go_sem,go_sem_proc,gn,za,Ic,A3,Y,a8,bJ,bO]<;>try refine ai ?_ ?_)
 ·have Y:dj (s,l)=false:=by simpa using Y
  have hc:di ((s,l),(s2,aa))=false:=by unfold di;simp[Y]
  rw[hc];refine ak ?_;repeat' (intro (ay:_=_)<;>simp only[ay,go_sem,go_sem_proc,gn,za,Ic,A3,Y,bJ,bO]<;>try refine ai ?_ ?_)
def xA (b:Bool)(p q:Raw):a7×Int:=if b=true then (dD,6) else gH p q
abbrev YV:Int×(List Int)×Int×(List Int)×Bool->List Data:=λ(s,l,s2,aa,b)=>[.agg [.int .i64 s,.X (l.map ae)],.agg [.int .i64 s2,.X (aa.map ae)],.bool b]
def Ig:=cn YV λ(s,l,s2,aa,b)=>cN (D l<=1000000/\D aa<=1000000) (.same (cG (xA b (s,l) (s2,aa))))
theorem avr:∀a b,YV a=YV b->a=b:=by
  rintro⟨s1,ed,CE,AE,c0⟩ ⟨s2,aa,CF,AF,ee⟩ h;simp only[bk,Data.agg.injEq,Data.int.injEq,Data.X.injEq,Data.bool.injEq] at h;exact dN h.1.1.2 (dN (map_inj gx _ _ h.1.2.1) (dN h.2.1.1.2 (dN (map_inj gx _ _ h.2.1.2.1) h.2.2.1)))
@[go_sem] theorem aKP (s:Int)(l:List Int)(s2:Int)(aa:List Int)(b:Bool)(H:(D l)<=1000000/\D aa<=1000000):Ig [.agg [.int .i64 s,.X (l.map ae)],.agg [.int .i64 s2,.X (aa.map ae)],.bool b]=some (.same (cG (xA b (s,l) (s2,aa)))):=(cz avr (s,l,s2,aa,b)).trans (cX H _)
theorem avs (T:bl)(QH:T KS=aQ QG)(s:Int)(l:List Int)(s2:Int)(aa:List Int)(b:Bool)(H:(D l)<=1000000/\D aa<=1000000):WP T YO (.same (cG (xA b (s,l) (s2,aa)))) [.I (.agg [.int .i64 s,.X (l.map ae)]),.I (.agg [.int .i64 s2,.X (aa.map ae)]),.I (.bool b)]:=by
 refine cD ?_;simp only[YO];obtain⟨bJ,bO⟩:=H
 cases b
 ·refine ak ?_;repeat' (intro h<;>simp only[h,go_sem,go_sem_proc,QH,bJ,bO,xA,cG,ar]<;>try refine ai ?_ ?_)
 ·refine ak ?_;repeat' (intro h<;>simp only[h,go_sem,go_sem_proc,QH,bJ,bO,xA,cG,ar,dD,cC]<;>try refine ai ?_ ?_)
def Ih (bu g8 aZ gf:Raw×Int):a7×Int:=xA (!((bu.2==0)&&((g8.2==0)&&((aZ.2==0)&&(gf.2==0))))) gf.1 aZ.1
def Ii (P aZ:Raw×Int):a7×Int:=xA (!((P.2==0)&&(aZ.2==0))) P.1 aZ.1
theorem avt {a b:a7}(aW:di a=true)(ah:di b=true):hA a b=Ii (mulR a.1 b.1) (mulR a.2 b.2):=by
 unfold hA sc Ii xA;rw[ad aW,ad ah]
 cases G:((mulR a.1 b.1).2==0)<;>cases J:((mulR a.2 b.2).2==0)<;>rfl
theorem avu {a b:a7}(aW:di a=true)(ah:di b=true):fE a b=if (b.1.1==0)=true then (dD,15) else Ii (mulR a.1 b.2) (mulR a.2 b.1):=by
 unfold fE sc Ii xA;rw[ad aW,ad ah]
 cases G:((mulR a.1 b.2).2==0)<;>cases J:((mulR a.2 b.1).2==0)<;>rfl
theorem ais {a b:a7}(aW:di a=true)(ah:di b=true):oC a b=Ih (mulR a.1 b.2) (mulR b.1 a.2) (mulR a.2 b.2) (ky (mulR a.1 b.2).1 (mulR b.1 a.2).1):=by
 unfold oC sc vT Ih xA;rw[ad aW,ad ah];rcases G:((mulR a.1 b.2).2==0)<;>rcases J:((mulR b.1 a.2).2==0)<;>rcases af:((mulR a.2 b.2).2==0)<;>rcases aT:((ky (mulR a.1 b.2).1 (mulR b.1 a.2).1).2==0)<;>simp_all
theorem QI {z:Int}:((o1 z).2==0)=hr z:=by
 rcases h:hr z
 ·rw[AU h];rfl
 ·rw[vX h];rfl
theorem avv {a b:Int}(aW:a.natAbs<dQ)(ah:b.natAbs<dQ):(mulR (hf (bf a)) (bf b))=o1 (-(a*b)):=by
 rw[YD aW,uA (by rw[xq];exact aW) ah,Int.neg_mul]
theorem ait (z:Int):hr (-z)=hr z:=by unfold hr;rw[xq]
theorem avw {a b:a7}(aW:di a=true)(ah:di b=true):jJ a b=Ih (mulR a.1 b.2) (mulR b.1 a.2) (mulR a.2 b.2) (v7 (mulR a.1 b.2).1 (mulR b.1 a.2).1):=by
 obtain⟨x,M,rfl⟩:=(AM _).1 aW;obtain⟨y,aj,rfl⟩:=(AM _).1 ah
 have avx:di (hf (al y).1,(al y).2)=true:=by
  have:(hf (al y).1,(al y).2)=al (-y):=by
   unfold al;dsimp only;rw[YD aj.1]
   rfl
  rw[this];exact xr (ahQ aj)
 unfold jJ;rw[ad aW,ad ah,ais aW avx];unfold Ih xA;show (if (!(((mulR (bf x.num) (bf y.den)).2==0)&&(((mulR (hf (bf y.num)) (bf x.den)).2==0)&&(((mulR (bf x.den) (bf y.den)).2==0)&&((ky (mulR (bf x.num) (bf y.den)).1 (mulR (hf (bf y.num)) (bf x.den)).1).2==0)))))=true then (dD,6) else gH (ky (mulR (bf x.num) (bf y.den)).1 (mulR (hf (bf y.num)) (bf x.den)).1).1 (mulR (bf x.den) (bf y.den)).1)=(if (!(((mulR (bf x.num) (bf y.den)).2==0)&&(((mulR (bf y.num) (bf x.den)).2==0)&&(((mulR (bf x.den) (bf y.den)).2==0)&&((v7 (mulR (bf x.num) (bf y.den)).1 (mulR (bf y.num) (bf x.den)).1).2==0)))))=true then (dD,6) else gH (v7 (mulR (bf x.num) (bf y.den)).1 (mulR (bf y.num) (bf x.den)).1).1 (mulR (bf x.den) (bf y.den)).1);rw[uA M.1 (pL aj),avv aj.1 (pL M),uA aj.1 (pL M),uA (pL M) (pL aj),QI,QI,QI,QI,ait];rcases G:hr (x.num*y.den)
 ·rfl
 ·rcases J:hr (y.num*x.den)
  ·rfl
  ·rw[vX G,vX J,vX (by rw[ait];exact J)];dsimp only;rw[Lz (oD G) (by rw[xq];exact oD J),avf (oD G) (oD J)]
   rfl
theorem avy (a b:Raw):(v7 a b).1.2.length<=1000000:=by
 unfold v7
 split
 ·exact Xz _ _
 ·simp
def LZ:=cn tg λ(s,l,s2,aa,bK,bh,bL,br)=>cN (D l<=1000000/\D aa<=1000000/\D bh<=1000000/\D br<=1000000) (.same (cG (oC ((s,l),(s2,aa)) ((bK,bh),(bL,br)))))
@[go_sem] theorem avz (s:Int)(l:List Int)(s2:Int)(aa:List Int)(bK:Int)(bh:List Int)(bL:Int)(br:List Int)(H:(D l)<=1000000/\D aa<=1000000/\D bh<=1000000/\D br<=1000000):LZ [.agg [.int .i64 s,.X (l.map ae),.int .i64 s2,.X (aa.map ae)],.agg [.int .i64 bK,.X (bh.map ae),.int .i64 bL,.X (br.map ae)]]=some (.same (cG (oC ((s,l),(s2,aa)) ((bK,bh),(bL,br))))):=(cz vU (s,l,s2,aa,bK,bh,bL,br)).trans (cX H _)
theorem avA (T:bl)(fr:T mm=aQ v8)(kB:T r2=aQ Ia)(y9:T K1=aQ QD)(kC:T Ar=aQ Ig)(s:Int)(l:List Int)(s2:Int)(aa:List Int)(bK:Int)(bh:List Int)(bL:Int)(br:List Int)(H:(D l)<=1000000/\D aa<=1000000/\D bh<=1000000/\D br<=1000000):WP T YN (.same (cG (oC ((s,l),(s2,aa)) ((bK,bh),(bL,br))))) [.I (.agg [.int .i64 s,.X (l.map ae),.int .i64 s2,.X (aa.map ae)]),.I (.agg [.int .i64 bK,.X (bh.map ae),.int .i64 bL,.X (br.map ae)])]:=by
 refine cD ?_;simp only[YN];obtain⟨bJ,bO,eH,eV⟩:=H
 by_cases Y:di ((s,l),(s2,aa))=true
 ·by_cases a8:di ((bK,bh),(bL,br))=true
  ·rw[ais Y a8];dsimp only;have ea:=qp (s,l) (bL,br);have b7:=qp (bK,bh) (s2,aa);have gG:=qp (s2,aa) (bL,br);generalize jd:mulR (s,l) (bL,br)=M1 at *;generalize fp:mulR (bK,bh) (s2,aa)=M2 at *;generalize xB:mulR (s2,aa) (bL,br)=M3 at *;obtain⟨⟨cE,cO⟩,av⟩:=M1;obtain⟨⟨c0,ee⟩,aB⟩:=M2;obtain⟨⟨aq,c2⟩,bp⟩:=M3;dsimp only at *;have fx:=Xz (cE,cO) (c0,ee);generalize uK:ky (cE,cO) (c0,ee)=M4 at *;obtain⟨⟨d1,d2⟩,bM⟩:=M4;unfold Ih;dsimp only at *;rcases G:(av==0)
   ·refine ak ?_;repeat' (intro h<;>simp only[h,go_sem,go_sem_proc,fr,kB,y9,kC,bJ,bO,eH,eV,Y,a8,jd,fp,xB,uK,ea,b7,gG,fx,G,dZ,ck,cG,ar,db,cw,bne,eR]<;>try refine ai ?_ ?_)
   ·rcases J:(aB==0)
    ·refine ak ?_;repeat' (intro h<;>simp only[h,go_sem,go_sem_proc,fr,kB,y9,kC,bJ,bO,eH,eV,Y,a8,jd,fp,xB,uK,ea,b7,gG,fx,G,J,dZ,ck,cG,ar,db,cw,bne,eR,fD]<;>try refine ai ?_ ?_)
    ·rcases af:(bp==0)
     ·refine ak ?_;repeat' (intro h<;>simp only[h,go_sem,go_sem_proc,fr,kB,y9,kC,bJ,bO,eH,eV,Y,a8,jd,fp,xB,uK,ea,b7,gG,fx,G,J,af,dZ,ck,cG,ar,db,cw,bne,eR,fD]<;>try refine ai ?_ ?_)
     ·rcases aT:(bM==0)
      ·refine ak ?_;repeat' (intro h<;>simp only[h,go_sem,go_sem_proc,fr,kB,y9,kC,bJ,bO,eH,eV,Y,a8,jd,fp,xB,uK,ea,b7,gG,fx,G,J,af,aT,dZ,ck,cG,ar,db,cw,bne,eR,fD]<;>try refine ai ?_ ?_)
      ·refine ak ?_;repeat' (intro h<;>simp only[h,go_sem,go_sem_proc,fr,kB,y9,kC,bJ,bO,eH,eV,Y,a8,jd,fp,xB,uK,ea,b7,gG,fx,G,J,af,aT,dZ,ck,cG,ar,db,cw,bne,eR,fD]<;>try refine ai ?_ ?_)
  ·have a8:di ((bK,bh),(bL,br))=false:=by simpa using a8
   unfold oC;rw[ad Y,ag (by simp[a8])];refine ak ?_;repeat' (intro h<;>simp only[h,go_sem,go_sem_proc,fr,kB,y9,kC,bJ,bO,eH,eV,Y,a8,cG,ar,dD,cC]<;>try refine ai ?_ ?_)
 ·have Y:di ((s,l),(s2,aa))=false:=by simpa using Y
  unfold oC;rw[ag (by simp[Y])];refine ak ?_;repeat' (intro h<;>simp only[h,go_sem,go_sem_proc,fr,kB,y9,kC,bJ,bO,eH,eV,Y,cG,ar,dD,cC]<;>try refine ai ?_ ?_)
def Fe:=cn tg λ(s,l,s2,aa,bK,bh,bL,br)=>cN (D l<=1000000/\D aa<=1000000/\D bh<=1000000/\D br<=1000000) (.same (cG (jJ ((s,l),(s2,aa)) ((bK,bh),(bL,br)))))
@[go_sem] theorem avB (s:Int)(l:List Int)(s2:Int)(aa:List Int)(bK:Int)(bh:List Int)(bL:Int)(br:List Int)(H:(D l)<=1000000/\D aa<=1000000/\D bh<=1000000/\D br<=1000000):Fe [.agg [.int .i64 s,.X (l.map ae),.int .i64 s2,.X (aa.map ae)],.agg [.int .i64 bK,.X (bh.map ae),.int .i64 bL,.X (br.map ae)]]=some (.same (cG (jJ ((s,l),(s2,aa)) ((bK,bh),(bL,br))))):=(cz vU (s,l,s2,aa,bK,bh,bL,br)).trans (cX H _)
theorem avC (T:bl)(fr:T mm=aQ v8)(kB:T r2=aQ Ia)(Ff:T Vi=aQ YE)(kC:T Ar=aQ Ig)(s:Int)(l:List Int)(s2:Int)(aa:List Int)(bK:Int)(bh:List Int)(bL:Int)(br:List Int)(H:(D l)<=1000000/\D aa<=1000000/\D bh<=1000000/\D br<=1000000):WP T YK (.same (cG (jJ ((s,l),(s2,aa)) ((bK,bh),(bL,br))))) [.I (.agg [.int .i64 s,.X (l.map ae),.int .i64 s2,.X (aa.map ae)]),.I (.agg [.int .i64 bK,.X (bh.map ae),.int .i64 bL,.X (br.map ae)])]:=by
 refine cD ?_;simp only[YK];obtain⟨bJ,bO,eH,eV⟩:=H
 by_cases Y:di ((s,l),(s2,aa))=true
 ·by_cases a8:di ((bK,bh),(bL,br))=true
  ·rw[avw Y a8];dsimp only;have ea:=qp (s,l) (bL,br);have b7:=qp (bK,bh) (s2,aa);have gG:=qp (s2,aa) (bL,br);generalize jd:mulR (s,l) (bL,br)=M1 at *;generalize fp:mulR (bK,bh) (s2,aa)=M2 at *;generalize xB:mulR (s2,aa) (bL,br)=M3 at *;obtain⟨⟨cE,cO⟩,av⟩:=M1;obtain⟨⟨c0,ee⟩,aB⟩:=M2;obtain⟨⟨aq,c2⟩,bp⟩:=M3;dsimp only at *;have fx:=avy (cE,cO) (c0,ee);generalize uK:v7 (cE,cO) (c0,ee)=M4 at *;obtain⟨⟨d1,d2⟩,bM⟩:=M4;unfold Ih;dsimp only at *;rcases G:(av==0)
   ·refine ak ?_;repeat' (intro h<;>simp only[h,go_sem,go_sem_proc,fr,kB,Ff,kC,bJ,bO,eH,eV,Y,a8,jd,fp,xB,uK,ea,b7,gG,fx,G,dZ,ck,cG,ar,db,cw,bne,eR]<;>try refine ai ?_ ?_)
   ·rcases J:(aB==0)
    ·refine ak ?_;repeat' (intro h<;>simp only[h,go_sem,go_sem_proc,fr,kB,Ff,kC,bJ,bO,eH,eV,Y,a8,jd,fp,xB,uK,ea,b7,gG,fx,G,J,dZ,ck,cG,ar,db,cw,bne,eR,fD]<;>try refine ai ?_ ?_)
    ·rcases af:(bp==0)
     ·refine ak ?_;repeat' (intro h<;>simp only[h,go_sem,go_sem_proc,fr,kB,Ff,kC,bJ,bO,eH,eV,Y,a8,jd,fp,xB,uK,ea,b7,gG,fx,G,J,af,dZ,ck,cG,ar,db,cw,bne,eR,fD]<;>try refine ai ?_ ?_)
     ·rcases aT:(bM==0)
      ·refine ak ?_;repeat' (intro h<;>simp only[h,go_sem,go_sem_proc,fr,kB,Ff,kC,bJ,bO,eH,eV,Y,a8,jd,fp,xB,uK,ea,b7,gG,fx,G,J,af,aT,dZ,ck,cG,ar,db,cw,bne,eR,fD]<;>try refine ai ?_ ?_)
      ·refine ak ?_;repeat' (intro h<;>simp only[h,go_sem,go_sem_proc,fr,kB,Ff,kC,bJ,bO,eH,eV,Y,a8,jd,fp,xB,uK,ea,b7,gG,fx,G,J,af,aT,dZ,ck,cG,ar,db,cw,bne,eR,fD]<;>try refine ai ?_ ?_)
  ·have a8:di ((bK,bh),(bL,br))=false:=by simpa using a8
   unfold jJ;rw[ad Y,ag (by simp[a8])];refine ak ?_;repeat' (intro h<;>simp only[h,go_sem,go_sem_proc,fr,kB,Ff,kC,bJ,bO,eH,eV,Y,a8,cG,ar,dD,cC]<;>try refine ai ?_ ?_)
 ·have Y:di ((s,l),(s2,aa))=false:=by simpa using Y
  unfold jJ;rw[ag (by simp[Y])];refine ak ?_;repeat' (intro h<;>simp only[h,go_sem,go_sem_proc,fr,kB,Ff,kC,bJ,bO,eH,eV,Y,cG,ar,dD,cC]<;>try refine ai ?_ ?_)
def Fg:=cn tg λ(s,l,s2,aa,bK,bh,bL,br)=>cN (D l<=1000000/\D aa<=1000000/\D bh<=1000000/\D br<=1000000) (.same (cG (hA ((s,l),(s2,aa)) ((bK,bh),(bL,br)))))
@[go_sem] theorem avD (s:Int)(l:List Int)(s2:Int)(aa:List Int)(bK:Int)(bh:List Int)(bL:Int)(br:List Int)(H:(D l)<=1000000/\D aa<=1000000/\D bh<=1000000/\D br<=1000000):Fg [.agg [.int .i64 s,.X (l.map ae),.int .i64 s2,.X (aa.map ae)],.agg [.int .i64 bK,.X (bh.map ae),.int .i64 bL,.X (br.map ae)]]=some (.same (cG (hA ((s,l),(s2,aa)) ((bK,bh),(bL,br))))):=(cz vU (s,l,s2,aa,bK,bh,bL,br)).trans (cX H _)
theorem avE (T:bl)(fr:T mm=aQ v8)(kB:T r2=aQ Ia)(kC:T Ar=aQ Ig)(s:Int)(l:List Int)(s2:Int)(aa:List Int)(bK:Int)(bh:List Int)(bL:Int)(br:List Int)(H:(D l)<=1000000/\D aa<=1000000/\D bh<=1000000/\D br<=1000000):WP T YM (.same (cG (hA ((s,l),(s2,aa)) ((bK,bh),(bL,br))))) [.I (.agg [.int .i64 s,.X (l.map ae),.int .i64 s2,.X (aa.map ae)]),.I (.agg [.int .i64 bK,.X (bh.map ae),.int .i64 bL,.X (br.map ae)])]:=by
 refine cD ?_;simp only[YM];obtain⟨bJ,bO,eH,eV⟩:=H
 by_cases Y:di ((s,l),(s2,aa))=true
 ·by_cases a8:di ((bK,bh),(bL,br))=true
  ·rw[avt Y a8];dsimp only;have ea:=qp (s,l) (bK,bh);have b7:=qp (s2,aa) (bL,br);generalize jd:mulR (s,l) (bK,bh)=M1 at *;generalize fp:mulR (s2,aa) (bL,br)=M2 at *;obtain⟨⟨cE,cO⟩,av⟩:=M1;obtain⟨⟨c0,ee⟩,aB⟩:=M2;unfold Ii;dsimp only at *;rcases G:(av==0)
   ·refine ak ?_;repeat' (intro h<;>simp only[h,go_sem,go_sem_proc,fr,kB,kC,bJ,bO,eH,eV,Y,a8,jd,fp,ea,b7,G,dZ,ck,cG,ar,db,cw,bne,eR]<;>try refine ai ?_ ?_)
   ·rcases J:(aB==0)
    ·refine ak ?_;repeat' (intro h<;>simp only[h,go_sem,go_sem_proc,fr,kB,kC,bJ,bO,eH,eV,Y,a8,jd,fp,ea,b7,G,J,dZ,ck,cG,ar,db,cw,bne,eR,fD]<;>try refine ai ?_ ?_)
    ·refine ak ?_;repeat' (intro h<;>simp only[h,go_sem,go_sem_proc,fr,kB,kC,bJ,bO,eH,eV,Y,a8,jd,fp,ea,b7,G,J,dZ,ck,cG,ar,db,cw,bne,eR,fD]<;>try refine ai ?_ ?_)
  ·have a8:di ((bK,bh),(bL,br))=false:=by simpa using a8
   unfold hA;rw[ad Y,ag (by simp[a8])];refine ak ?_;repeat' (intro h<;>simp only[h,go_sem,go_sem_proc,fr,kB,kC,bJ,bO,eH,eV,Y,a8,cG,ar,dD,cC]<;>try refine ai ?_ ?_)
 ·have Y:di ((s,l),(s2,aa))=false:=by simpa using Y
  unfold hA;rw[ag (by simp[Y])];refine ak ?_;repeat' (intro h<;>simp only[h,go_sem,go_sem_proc,fr,kB,kC,bJ,bO,eH,eV,Y,cG,ar,dD,cC]<;>try refine ai ?_ ?_)
def L0:=cn tg λ(s,l,s2,aa,bK,bh,bL,br)=>cN (D l<=1000000/\D aa<=1000000/\D bh<=1000000/\D br<=1000000) (.same (cG (fE ((s,l),(s2,aa)) ((bK,bh),(bL,br)))))
@[go_sem] theorem avF (s:Int)(l:List Int)(s2:Int)(aa:List Int)(bK:Int)(bh:List Int)(bL:Int)(br:List Int)(H:(D l)<=1000000/\D aa<=1000000/\D bh<=1000000/\D br<=1000000):L0 [.agg [.int .i64 s,.X (l.map ae),.int .i64 s2,.X (aa.map ae)],.agg [.int .i64 bK,.X (bh.map ae),.int .i64 bL,.X (br.map ae)]]=some (.same (cG (fE ((s,l),(s2,aa)) ((bK,bh),(bL,br))))):=(cz vU (s,l,s2,aa,bK,bh,bL,br)).trans (cX H _)
theorem avG (T:bl)(fr:T mm=aQ v8)(kB:T r2=aQ Ia)(kC:T Ar=aQ Ig)(s:Int)(l:List Int)(s2:Int)(aa:List Int)(bK:Int)(bh:List Int)(bL:Int)(br:List Int)(H:(D l)<=1000000/\D aa<=1000000/\D bh<=1000000/\D br<=1000000):WP T YP (.same (cG (fE ((s,l),(s2,aa)) ((bK,bh),(bL,br))))) [.I (.agg [.int .i64 s,.X (l.map ae),.int .i64 s2,.X (aa.map ae)]),.I (.agg [.int .i64 bK,.X (bh.map ae),.int .i64 bL,.X (br.map ae)])]:=by
 refine cD ?_;simp only[YP];obtain⟨bJ,bO,eH,eV⟩:=H
 by_cases Y:di ((s,l),(s2,aa))=true
 ·by_cases a8:di ((bK,bh),(bL,br))=true
  ·rw[avu Y a8];dsimp only;rcases ax:(bK==0)
   ·rw[ag (by simp)];have ea:=qp (s,l) (bL,br);have b7:=qp (s2,aa) (bK,bh);generalize jd:mulR (s,l) (bL,br)=M1 at *;generalize fp:mulR (s2,aa) (bK,bh)=M2 at *;obtain⟨⟨cE,cO⟩,av⟩:=M1;obtain⟨⟨c0,ee⟩,aB⟩:=M2;unfold Ii;dsimp only at *;rcases G:(av==0)
    ·refine ak ?_;repeat' (intro h<;>simp only[h,go_sem,go_sem_proc,fr,kB,kC,bJ,bO,eH,eV,Y,a8,ax,jd,fp,ea,b7,G,dZ,ck,cG,ar,db,cw,bne,eR]<;>try refine ai ?_ ?_)
    ·rcases J:(aB==0)
     ·refine ak ?_;repeat' (intro h<;>simp only[h,go_sem,go_sem_proc,fr,kB,kC,bJ,bO,eH,eV,Y,a8,ax,jd,fp,ea,b7,G,J,dZ,ck,cG,ar,db,cw,bne,eR,fD]<;>try refine ai ?_ ?_)
     ·refine ak ?_;repeat' (intro h<;>simp only[h,go_sem,go_sem_proc,fr,kB,kC,bJ,bO,eH,eV,Y,a8,ax,jd,fp,ea,b7,G,J,dZ,ck,cG,ar,db,cw,bne,eR,fD]<;>try refine ai ?_ ?_)
   ·rw[ad rfl];refine ak ?_;repeat' (intro h<;>simp only[h,go_sem,go_sem_proc,fr,kB,kC,bJ,bO,eH,eV,Y,a8,ax,cG,ar,dD,cC]<;>try refine ai ?_ ?_)
  ·have a8:di ((bK,bh),(bL,br))=false:=by simpa using a8
   unfold fE;rw[ad Y,ag (by simp[a8])];refine ak ?_;repeat' (intro h<;>simp only[h,go_sem,go_sem_proc,fr,kB,kC,bJ,bO,eH,eV,Y,a8,cG,ar,dD,cC]<;>try refine ai ?_ ?_)
 ·have Y:di ((s,l),(s2,aa))=false:=by simpa using Y
  unfold fE;rw[ag (by simp[Y])];refine ak ?_;repeat' (intro h<;>simp only[h,go_sem,go_sem_proc,fr,kB,kC,bJ,bO,eH,eV,Y,cG,ar,dD,cC]<;>try refine ai ?_ ?_)
def YW:bZ:=cj 30 3 [.t 6] (O [cq 6 false] (.seq (O [bg 7 0] (.block 0 (.loop  (.seq (O [F 8 7,F 9 0,cb 10 9,bt 11 .lss 8 10,F 12 11,⟨some 13,some (12,true),.bT (.t 7)⟩,⟨some 14,some (12,true),.bT (.t 1)⟩,⟨some 15,some (12,true),.bin .leq (.t 13) (.t 14)⟩,gN 16 12 15] (aS 16 .skip (.exit 0))) (.seq (.block 1 (O [F 19 0,F 20 7,bB 21 4 19 20,aU 22 4 21,F 23 2,(bW 24 UW 22 23),ff 25 24] (aS 25 (O [cq 6 false] .ret) .skip))) (.ops [F 17 7,a6 18 .add 17 1,F 7 18])))))) (O [F 26 0,cb 27 26,F 28 1,bt 29 .leq 27 28,F 6 29] .ret)))
def YX:bZ:=cj 27 2 [.t 4] (O [cq 4 false] (.seq (O [F 6 0,cb 7 6,F 8 1,cb 9 8,bt 10 .neq 7 9] (aS 10 (O [cq 4 false] .ret) .skip)) (.seq (O [bg 5 0] (.block 0 (.loop  (.seq (O [F 11 5,F 12 0,cb 13 12,bt 14 .lss 11 13] (aS 14 .skip (.exit 0))) (.seq (.block 1 (eG [F 17 0,F 18 5,bB 19 4 17 18,aU 20 4 19,F 21 1,F 22 5,bB 23 4 21 22,aU 24 4 23,(bW 25 UX 20 24),ff 26 25] Lc (aS 26 (O [cq 4 false] .ret) .skip))) (.ops [F 15 5,a6 16 .add 15 1,F 5 16])))))) (O [cq 4 true] .ret))))
def YY:bZ:=cj 7 1 [.t 2] (O [dq 1 113001 0,cq 2 false] (O [aO 3 0 1,aO 4 0 3,aL 5 1 4,a6 6 .eql 5 0,F 2 6] .ret))
def YZ:bZ:=cj 41 2 [.t 4,.t 5] (O [eu 4,bg 5 0] (.seq (O [F 11 0,F 12 1,(bW 13 Ve 11 12),ff 14 13] (aS 14 (O [eu 4,bg 5 1] .ret) .skip)) (O [F 16 0,F 17 1,(au 18 (.call Vf [(.t 16),(.t 17),(.c (.I (.bool true)))])),F 15 18,ba 19 0 15,ba 20 1 15,ba 21 2 15,F 6 19,F 7 20,F 8 21] (.seq (O [F 22 8,ff 23 22] (aS 23 (O [eu 4,bg 5 6] .ret) .skip)) (.seq (O [F 24 7,cb 25 24,a6 26 .gtr 25 0] (aS 26 (O [eu 4,bg 5 17] .ret) .skip)) (O [eu 9] (.seq (O [bg 10 0] (.block 0 (.ghost (.mM 9 189039 4) (.loop  (.seq (O [F 27 10,F 28 1,bt 29 .lss 27 28] (aS 29 .skip (.exit 0))) (.seq (.block 1 (.ops [F 32 9,F 33 6,F 34 10,bB 35 5 33 34,aO 36 1 35,aU 37 4 36,(au 38 (.dU 189038 false [(Z 0),.nil,(Z 0),.nil] 4 1 [(0,4,(.t 37))])),(au 39 (.app 189039 [(Z 0),.nil,(Z 0),.nil] 64 (.t 32) (.t 38))),F 9 39])) (.ops [F 30 10,a6 31 .add 30 1,F 10 31]))))))) (O [F 40 9,F 4 40,bg 5 0] .ret))))))))
def Y0:bZ:=cj 56 2 [.t 4] (O [cq 4 false] (.seq (O [F 7 1,a6 8 .lss 7 0,F 9 8,⟨some 10,some (9,false),.bT (.t 1)⟩,⟨some 11,some (9,false),.bin .gtr (.t 10) (.c (Z 40))⟩,cR 12 9 11,F 13 12,⟨some 14,some (13,false),.bT (.t 0)⟩,⟨some 15,some (13,false),.len (.t 14)⟩,⟨some 16,some (13,false),.bT (.t 1)⟩,⟨some 17,some (13,false),.bin .neq (.t 15) (.t 16)⟩,cR 18 13 17] (aS 18 (O [cq 4 false] .ret) .skip)) (.seq (O [bg 5 0] (.block 0 (.loop  (.seq (O [F 19 5,F 20 1,bt 21 .lss 19 20] (aS 21 .skip (.exit 0))) (.seq (.block 1 (.seq (O [F 24 0,F 25 5,bB 26 5 24 25,aO 27 0 26,aL 28 1 27,cb 29 28,F 30 1,bt 31 .neq 29 30,F 32 31,⟨some 33,some (32,false),.bT (.t 0)⟩,⟨some 34,some (32,false),.bT (.t 5)⟩,⟨some 35,some (32,false),.ht 5 (.t 33) (.t 34)⟩,⟨some 36,some (32,false),.dt 1 (.t 35)⟩,⟨some 37,some (32,false),.load 4 true (.t 36)⟩,⟨some 38,some (32,false),.call mm [(.t 37)]⟩,⟨some 39,some (32,false),.un .not (.t 38)⟩,cR 40 32 39] (aS 40 (O [cq 4 false] .ret) .skip)) (O [bg 6 0] (.block 2 (.loop  (.seq (O [F 41 6,F 42 1,bt 43 .lss 41 42] (aS 43 .skip (.exit 2))) (.seq (.block 3 (O [F 46 0,F 47 5,bB 48 5 46 47,aO 49 0 48,aL 50 1 49,F 51 6,bB 52 4 50 51,aU 53 4 52,(dM 54 mm 53),ff 55 54] (aS 55 (O [cq 4 false] .ret) .skip))) (.ops [F 44 6,a6 45 .add 44 1,F 6 45])))))))) (.ops [F 22 5,a6 23 .add 22 1,F 5 23])))))) (O [cq 4 true] .ret))))
def Fh:bZ:=cj 132 3 [.t 6,.t 7,.t 8] (O [eu 6,eu 7,cq 8 false] (O [F 20 0,(au 21 (.oO 194021 5 Vg [(.t 20)])),F 9 21] (O [eu 10] (O [bg 11 0] (.seq (O [bg 12 0] (.block 0 (.ghost (.mM 10 194050 1) (.loop  (.seq (O [F 22 12,F 23 1,bt 24 .lss 22 23] (aS 24 .skip (.exit 0))) (.seq (.block 1 (.seq (.ghost (.move) (.ops [F 27 11,F 13 27])) (.seq (.block 2 (.loop  (.seq (O [F 28 13,F 29 1,bt 30 .lss 28 29,F 31 30,⟨some 32,some (31,true),.bT (.t 9)⟩,⟨some 33,some (31,true),.bT (.t 13)⟩,⟨some 34,some (31,true),.ht 5 (.t 32) (.t 33)⟩,⟨some 35,some (31,true),.dt 0 (.t 34)⟩,⟨some 36,some (31,true),.load 1 false (.t 35)⟩,⟨some 37,some (31,true),.bT (.t 12)⟩,⟨some 38,some (31,true),.ht 4 (.t 36) (.t 37)⟩,⟨some 39,some (31,true),.load 4 true (.t 38)⟩,⟨some 40,some (31,true),.call Hg [(.t 39)]⟩,gN 41 31 40] (aS 41 .skip (.exit 2))) (.block 3 (.ops [F 42 13,a6 43 .add 42 1,F 13 43]))))) (.seq (.seq (.ghost (.move) (.ops [F 44 13,F 45 1,bt 46 .eql 44 45])) (aS 46 (O [F 47 10,F 48 12,(au 49 (.dU 194049 false [(Z 0)] 1 1 [(0,1,(.t 48))])),(au 50 (.app 194050 [(Z 0)] 8 (.t 47) (.t 49))),F 10 50] (.seq (O [F 51 2] (aS 51 (O [F 52 9,F 53 10,F 6 52,F 7 53,cq 8 true] .ret) .skip)) (.exit 1))) .skip)) (.seq (.ghost (.move) (.ops [F 54 9,F 55 11,bB 56 5 54 55,aU 57 5 56,(au 14 (.alloc 194014 [.nil,(Z 0),.nil,(Z 0),.nil])),aX 5 14 57])) (O [F 58 9,F 59 11,F 60 9,F 61 13,bB 62 5 60 61,aU 63 5 62,bB 64 5 58 59,aX 5 64 63] (O [F 65 9,F 66 13,aU 67 5 14,bB 68 5 65 66,aX 5 68 67] (O [F 70 9,F 71 11,bB 72 5 70 71,aU 73 5 72,F 74 1,F 75 12,(qf 76 Vh 73 74 75),F 69 76,ba 77 0 69,ba 78 1 69,(au 15 (.alloc 194015 [.nil,(Z 0),.nil,(Z 0),.nil])),aX 5 15 77,F 16 78] (.seq (.seq (.ghost (.move) (.ops [F 79 16,ff 80 79])) (aS 80 (O [F 81 9,F 82 10,F 6 81,F 7 82,cq 8 false] .ret) .skip)) (O [F 83 9,F 84 11,aU 85 5 15,bB 86 5 83 84,aX 5 86 85] (.seq (O [bg 17 0] (.block 4 (.loop  (.seq (O [F 87 17,F 88 1,bt 89 .lss 87 88] (aS 89 .skip (.exit 4))) (.seq (.block 5 (.seq (O [F 92 17,F 93 11,bt 94 .eql 92 93,F 95 94,⟨some 96,some (95,false),.bT (.t 9)⟩,⟨some 97,some (95,false),.bT (.t 17)⟩,⟨some 98,some (95,false),.ht 5 (.t 96) (.t 97)⟩,⟨some 99,some (95,false),.dt 0 (.t 98)⟩,⟨some 100,some (95,false),.load 1 false (.t 99)⟩,⟨some 101,some (95,false),.bT (.t 12)⟩,⟨some 102,some (95,false),.ht 4 (.t 100) (.t 101)⟩,⟨some 103,some (95,false),.load 4 true (.t 102)⟩,⟨some 104,some (95,false),.call Hg [(.t 103)]⟩,cR 105 95 104] (aS 105 (.exit 5) .skip)) (eG [F 107 9,F 108 17,bB 109 5 107 108,aU 110 5 109,F 111 9,F 112 11,bB 113 5 111 112,aU 114 5 113,F 115 1,F 116 12,(Cr 117 Pr 110 114 115 116),F 106 117,ba 118 0 106,ba 119 1 106,(au 18 (.alloc 194018 [.nil,(Z 0),.nil,(Z 0),.nil])),aX 5 18 118,F 19 119] [[],[],[],[],[],[],[],[],[],[],[],[],[],[],[3,7],[],[]] (.seq (O [F 120 19,ff 121 120] (aS 121 (O [F 122 9,F 123 10,F 6 122,F 7 123,cq 8 false] .ret) .skip)) (.ops [F 124 9,F 125 17,aU 126 5 18,bB 127 5 124 125,aX 5 127 126]))))) (.ops [F 90 17,a6 91 .add 90 1,F 17 91])))))) (.ops [F 128 11,a6 129 .add 128 1,F 11 129])))))))))))) (.ops [F 25 12,a6 26 .add 25 1,F 12 26]))))))) (O [F 130 9,F 131 10,F 6 130,F 7 131,cq 8 true] .ret))))))
def Y1:bZ:=cj 28 1 [.t 2] (O [eu 2] (O [eu 3] (.seq (O [bg 4 0] (.block 0 (.ghost (.mM 3 199026 5) (.loop  (.seq (O [F 5 4,F 6 0,cb 7 6,bt 8 .lss 5 7] (aS 8 .skip (.exit 0))) (.seq (.block 1 (.mN [F 11 3,(au 12 (.dU 199012 true [] 4 0 [])),F 13 0,F 14 4,bB 15 5 13 14,aO 16 0 15,aL 17 1 16,(au 18 (.app 199018 [(Z 0),.nil,(Z 0),.nil] 64 (.t 12) (.t 17))),F 19 0,F 20 4,bB 21 5 19 20,aO 22 1 21,aU 23 4 22,(au 24 (.build [.nil,(Z 0),.nil,(Z 0),.nil] [(0,1,(.t 18)),(1,4,(.t 23))])),(au 25 (.dU 199025 true [.nil,(Z 0),.nil,(Z 0),.nil] 5 1 [(0,5,(.t 24))])),(au 26 (.app 199026 [.nil,(Z 0),.nil,(Z 0),.nil] 88 (.t 11) (.t 25))),F 3 26] [[],[],[],[],[],[],[1],[],[],[],[],[],[1,7],[],[],[],[]])) (.ghost (.move) (.ops [F 9 4,a6 10 .add 9 1,F 4 10])))))))) (O [F 27 3,F 2 27] .ret))))
def Y2:bZ:=cj 60 3 [.cell 6 5 true,.t 7] (O [dq 3 200003 0,(au 6 (.alloc 200006 [.nil,(Z 0),.nil,(Z 0),.nil])),cq 7 false] (O [aO 15 0 3,aL 16 1 15,F 17 2,bB 18 4 16 17,aU 19 4 18,(au 8 (.alloc 200008 [(Z 0),.nil,(Z 0),.nil])),aX 4 8 19] (O [(au 20 (.dU 200020 true [] 4 0 [])),aO 21 0 3,aL 22 1 21,(au 23 (.app 200023 [(Z 0),.nil,(Z 0),.nil] 64 (.t 20) (.t 22))),(au 24 (.build [.nil,(Z 0),.nil,(Z 0),.nil] [(0,1,(.t 23))])),(au 9 (.alloc 200009 [.nil,(Z 0),.nil,(Z 0),.nil])),aX 5 9 24] (.seq (O [bg 10 0] (.block 0 (.loop  (.seq (O [F 25 10,F 26 1,bt 27 .lss 25 26] (aS 27 .skip (.exit 0))) (.seq (.block 1 (eG [aO 31 0 3,aL 32 1 31,F 33 10,bB 34 4 32 33,aU 35 4 34,aU 36 4 8,(bW 37 Hn 35 36),F 30 37,ba 38 0 30,ba 39 1 30,(au 11 (.alloc 200011 [(Z 0),.nil,(Z 0),.nil])),aX 4 11 38,F 12 39] [[],[],[],[],[],[],[],[],[],[],[1,4,5],[],[]] (.seq (O [F 40 12,a6 41 .neq 40 0] (aS 41 (O [aU 42 5 9,aX 5 6 42,cq 7 false] .ret) .skip)) (.ops [aO 43 0 9,aL 44 1 43,F 45 10,aU 46 4 11,bB 47 4 44 45,aX 4 47 46])))) (.ops [F 28 10,a6 29 .add 28 1,F 10 29])))))) (O [aO 49 1 3,aU 50 4 49,aU 51 4 8,(bW 52 Hn 50 51),F 48 52,ba 53 0 48,ba 54 1 48,(au 13 (.alloc 200013 [(Z 0),.nil,(Z 0),.nil])),aX 4 13 53,F 14 54] (O [aU 55 4 13,aO 56 1 9,aX 4 56 55] (O [aU 57 5 9,F 58 14,a6 59 .eql 58 0,aX 5 6 57,F 7 59] .ret)))))))
def Y3:bZ:=cj 69 4 [.cell 8 5 true,.t 9] (O [dq 4 201004 0,dq 5 201005 1,(au 8 (.alloc 201008 [.nil,(Z 0),.nil,(Z 0),.nil])),cq 9 false] (O [aO 17 0 4,aL 18 1 17,F 19 3,bB 20 4 18 19,aU 21 4 20,(au 10 (.alloc 201010 [(Z 0),.nil,(Z 0),.nil])),aX 4 10 21] (O [(au 22 (.dU 201022 true [] 4 0 [])),aO 23 0 4,aL 24 1 23,(au 25 (.app 201025 [(Z 0),.nil,(Z 0),.nil] 64 (.t 22) (.t 24))),(au 26 (.build [.nil,(Z 0),.nil,(Z 0),.nil] [(0,1,(.t 25))])),(au 11 (.alloc 201011 [.nil,(Z 0),.nil,(Z 0),.nil])),aX 5 11 26] (.seq (O [bg 12 0] (.block 0 (.loop  (.seq (O [F 27 12,F 28 2,bt 29 .lss 27 28] (aS 29 .skip (.exit 0))) (.seq (.block 1 (eG [aO 33 0 4,aL 34 1 33,F 35 12,bB 36 4 34 35,aU 37 4 36,aU 38 4 10,aO 39 0 5,aL 40 1 39,F 41 12,bB 42 4 40 41,aU 43 4 42,(qf 44 Ps 37 38 43),F 32 44,ba 45 0 32,ba 46 1 32,(au 13 (.alloc 201013 [(Z 0),.nil,(Z 0),.nil])),aX 4 13 45,F 14 46] [[],[],[],[],[],[],[],[],[],[],[],[],[],[],[],[1,4,5,7,10],[],[]] (.seq (O [F 47 14,a6 48 .neq 47 0] (aS 48 (O [aU 49 5 11,aX 5 8 49,cq 9 false] .ret) .skip)) (.ops [aO 50 0 11,aL 51 1 50,F 52 12,aU 53 4 13,bB 54 4 51 52,aX 4 54 53])))) (.ops [F 30 12,a6 31 .add 30 1,F 12 31])))))) (O [aO 56 1 4,aU 57 4 56,aU 58 4 10,aO 59 1 5,aU 60 4 59,(qf 61 Ps 57 58 60),F 55 61,ba 62 0 55,ba 63 1 55,(au 15 (.alloc 201015 [(Z 0),.nil,(Z 0),.nil])),aX 4 15 62,F 16 63] (O [aU 64 4 15,aO 65 1 11,aX 4 65 64] (O [aU 66 5 11,F 67 16,a6 68 .eql 67 0,aX 5 8 66,F 9 68] .ret)))))))
def Y4:bZ:=cj 30 3 [.cell 6 4 true,.t 7] (O [dq 3 208003 0,dq 4 208004 1,dq 5 208005 2,(au 6 (.alloc 208006 [(Z 0),.nil,(Z 0),.nil])),bg 7 0] (O [aU 13 4 4,aU 14 4 5,(bW 15 Cp 13 14),F 12 15,ba 16 0 12,ba 17 1 12,(au 8 (.alloc 208008 [(Z 0),.nil,(Z 0),.nil])),aX 4 8 16,F 9 17] (.seq (O [F 18 9,a6 19 .neq 18 0] (aS 19 (O [(au 20 (.build [(Z 0),.nil,(Z 0),.nil] [])),F 21 9,aX 4 6 20,F 7 21] .ret) .skip)) (O [aU 23 4 3,aU 24 4 8,(bW 25 Aq 23 24),F 22 25,ba 26 0 22,ba 27 1 22,(au 10 (.alloc 208010 [(Z 0),.nil,(Z 0),.nil])),aX 4 10 26,F 11 27] (O [aU 28 4 10,F 29 11,aX 4 6 28,F 7 29] .ret)))))
def L1:=cn CK λ(s,l,s2,aa)=>some (.same (.bool (s==0)))
@[go_sem] theorem aKQ (s:Int)(l:List Int)(s2:Int)(aa:List Int):L1 [.agg [.int .i64 s,.X (l.map ae),.int .i64 s2,.X (aa.map ae)]]=some (.same (.bool (s==0))):=cz HW (s,l,s2,aa)
theorem avH (T:bl)  (s:Int) (l:List Int) (s2:Int) (aa:List Int):WP T YY (.same (.bool (s==0))) [.I (.agg [.int .i64 s,.X (l.map ae),.int .i64 s2,.X (aa.map ae)])]:=by
 refine cD ?_;simp only[YY];refine ak ?_;repeat' (intro h<;>simp only[h,go_sem,go_sem_proc,aE]<;>try refine ai ?_ ?_)
def v9 (l:List a7)(n d:Int):Bool:=decide ((D l:Int)<=n)&&l.all λf=>zc f d
theorem Fi {α:Type}{p:α->Bool}{l:List α}{i:Nat}{x:α}(M:l[i]?=some x):(l.take (i+1)).all p=((l.take i).all p&&p x):=by
 rw[gB,M,QJ];simp
theorem L2 {α:Type}{p:α->Bool}{l:List α}{i:Nat}{x:α}(M:l[i]?=some x)(h:p x=false):l.all p=false:=by
 rw[List.all_eq_false];exact⟨x,dn M,by simp[h]⟩
abbrev Y5:(List a7)×Int×Int->List Data:=λ(l,n,d)=>[.X (l.map ar),.int .i64 n,.int .i64 d]
def Y6:=cn Y5 λ(l,n,d)=>cN (n<=1000000) (.same (.bool (v9 l n d)))
theorem avI:∀a b,Y5 a=Y5 b->a=b:=by
  rintro⟨ed,hK,d1⟩ ⟨aa,iw,d2⟩ h;simp only[bk,Data.int.injEq,Data.X.injEq] at h;exact dN (map_inj np _ _ h.1) (dN h.2.1.2 h.2.2.1.2)
@[go_sem] theorem avJ (l:List a7)(n:Int)(d:Int)(H:n<=1000000):Y6 [.X (l.map ar),.int .i64 n,.int .i64 d]=some (.same (.bool (v9 l n d))):=(cz avI (l,n,d)).trans (cX H _)
theorem avK (T:bl)(QK:T UW=aQ YU)(l:List a7)(n:Int)(d:Int)(H:n<=1000000):WP T YW (.same (.bool (v9 l n d))) [.I (.X (l.map ar)),.I (.int .i64 n),.I (.int .i64 d)]:=by
 refine cD ?_;simp only[YW];simp only[go_sem,go_sem_proc];refine cU [0,1,2] [] (λ(i:Nat) tm mem=>i<=D l/\(l.take i).all (λf=>zc f d)=true/\tm 7=.I (.int .i64 i)) (λi=>D l-i) 0 (by refine⟨by omega,by simp,rfl⟩) ?_;intro vs ms aJ aH;simp only[go_sem,go_sem_proc] at aJ aH;subst aJ aH;rintro i tm mem L hm ⟨Q,aC,bV⟩;simp only[go_sem,go_sem_proc,bk] at L;obtain⟨ax,G,J⟩:=L
 by_cases E9:i<D l/\(i:Int)<=n
 ·obtain⟨az,cI⟩:=E9;obtain⟨⟨⟨a,b⟩,⟨c,e⟩⟩,M⟩:∃f,l[i]?=some f:=⟨_,bq az⟩;have d1:decide ((i:Int)<(D l:Int))=true:=cT;have d2:decide ((i:Int)<=n)=true:=jw cI;have bG:=ec (i:=i) (by omega);rcases QL:zc ((a,b),(c,e)) d
  ·have Y:v9 l n d=false:=by unfold v9;rw[L2 M QL,jB]
   rw[Y];refine ak ?_;repeat' (intro h<;>simp only[h,go_sem,go_sem_proc,QK,ax,G,J,bV,M,d1,d2,bG,QL,ar,aE,bj]<;>try refine ai ?_ ?_)
  ·refine ak ?_;repeat' (intro h<;>simp only[h,go_sem,go_sem_proc,QK,ax,G,J,bV,M,d1,d2,bG,QL,ar,aE,bj]<;>try refine ai ?_ ?_)
   exact⟨i+1,by omega,by omega,by rw[Fi M,aC,QL];rfl,rfl⟩
 ·have Y:v9 l n d=decide ((D l:Int)<=n):=by
   unfold v9
   by_cases Ij:(D l:Int)<=n
   ·have:i=D l:=by omega
    rw[this,nQ] at aC;rw[aC,Ah]
   ·rw[h7 Ij,eR]
  rw[Y];rcases d1:decide ((i:Int)<(D l:Int))
  ·refine ak ?_;repeat' (intro h<;>simp only[h,go_sem,go_sem_proc,QK,ax,G,J,bV,d1,aE]<;>try refine ai ?_ ?_)
  ·have d2:decide ((i:Int)<=n)=false:=h7 (by have:=of_decide_eq_true d1;omega);refine ak ?_;repeat' (intro h<;>simp only[h,go_sem,go_sem_proc,QK,ax,G,J,bV,d1,d2,aE]<;>try refine ai ?_ ?_)
def CW (a b:List a7):Bool:=decide (a=b)
abbrev Y7:(List a7)×(List a7)->List Data:=λ(l,aa)=>[.X (l.map ar),.X (aa.map ar)]
def Y8:=cn Y7 λ(l,aa)=>cN (hC l/\hC aa) (.same (.bool (CW l aa)))
theorem avL:∀a b,Y7 a=Y7 b->a=b:=by
  rintro⟨ed,AE⟩ ⟨aa,AF⟩ h;simp only[bk,Data.X.injEq] at h;exact dN (map_inj np _ _ h.1) (map_inj np _ _ h.2.1)
@[go_sem] theorem aiu (l:List a7)(aa:List a7)(H:hC l/\hC aa):Y8 [.X (l.map ar),.X (aa.map ar)]=some (.same (.bool (CW l aa))):=(cz avL (l,aa)).trans (cX H _)
theorem avM (T:bl)(QM:T UX=aQ YS)(l:List a7)(aa:List a7)(H:hC l/\hC aa):WP T YX (.same (.bool (CW l aa))) [.I (.X (l.map ar)),.I (.X (aa.map ar))]:=by
 refine cD ?_;simp only[YX];obtain⟨⟨bJ,OL⟩,bO,T6⟩:=H
 by_cases aw:(D l)=D aa
 ·have av:(((D l:Nat):Int)==((D aa:Nat):Int))=true:=by simp;omega
  simp only[go_sem,go_sem_proc,aE,av,cw,bne];refine cU [0,1] [] (λ(i:Nat) tm mem=>i<=D l/\l.take i=aa.take i/\tm 5=.I (.int .i64 i)) (λi=>D l-i) 0 (by refine⟨by omega,by simp,rfl⟩) ?_;intro vs ms aJ aH;simp only[go_sem,go_sem_proc] at aJ aH;subst aJ aH;rintro i tm mem L hm ⟨Q,aC,bx⟩;simp only[go_sem,go_sem_proc,bk] at L;obtain⟨ax,G⟩:=L;rcases dc (i<D l) with az|b2
  ·obtain⟨⟨⟨a,b⟩,⟨c,e⟩⟩,M⟩:∃f,l[i]?=some f:=⟨_,bq az⟩;obtain⟨⟨⟨j4,fy⟩,⟨c',e'⟩⟩,aj⟩:∃f,aa[i]?=some f:=⟨_,bq (by omega)⟩;obtain⟨lE,lF⟩:=OL _ (dn M);obtain⟨tj,tk⟩:=T6 _ (dn aj);dsimp only at lE lF tj tk;have d1:decide ((i:Int)<(D l:Int))=true:=cT;have bG:=ec (i:=i) (by omega);rcases U:Ie ((a,b),(c,e)) ((j4,fy),(c',e'))
   ·have Y:CW l aa=false:=by
     refine h7 λh=>of_decide_eq_false U ?_;rw[h,aj] at M;exact (oh M).symm
    rw[Y];refine ak ?_;repeat' (intro (ay:_=_)<;>simp only[ay,go_sem,go_sem_proc,QM,ax,G,bx,M,aj,d1,bG,lE,lF,tj,tk,U,ar,aE,bj]<;>try refine ai ?_ ?_)
   ·refine ak ?_;repeat' (intro (ay:_=_)<;>simp only[ay,go_sem,go_sem_proc,QM,ax,G,bx,M,aj,d1,bG,lE,lF,tj,tk,U,ar,aE,bj]<;>try refine ai ?_ ?_)
    exact⟨i+1,by omega,by omega,by rw[gB,gB,M,aj,aC,of_decide_eq_true U],rfl⟩
  ·have d1:decide ((i:Int)<(D l:Int))=false:=cl
   have Y:CW l aa=true:=by
    refine jw ?_;rw[dp (by omega),dp (by omega)] at aC;exact aC
   rw[Y];refine ak ?_;repeat' (intro (ay:_=_)<;>simp only[ay,go_sem,go_sem_proc,QM,ax,G,bx,d1,aE]<;>try refine ai ?_ ?_)
 ·have av:(((D l:Nat):Int)==((D aa:Nat):Int))=false:=by simp;omega
  have Y:CW l aa=false:=h7 λh=>aw (by rw[h]);rw[Y];refine ak ?_;repeat' (intro (ay:_=_)<;>simp only[ay,go_sem,go_sem_proc,QM,aE,av,db,bne]<;>try refine ai ?_ ?_)
end Go.Mini
namespace Go.Mini
open Go
variable {P:Program} {A:Nat->Prop} {w a1:World} {B bQ:fu} {mem mem':Mem}
structure l2 (P:Program) (f:FuncId) (jW:List R->Mem->Option h8):Prop where
 real:Real P f
 run:∀args mem p8,jW args mem=some p8->∀A w B vs,ga A w B mem->dW w (cV A B) B args vs->Ub P f vs A w B mem p8
def pQ (res:List pv)(bU:R->Mem->Prop):eI->bo->Prop
 |.exit _,_=>False
 |.normal,st=>∃m,qS st res=some m/\bU m st.mem
 |.ret,st=>∃m,qS st res=some m/\bU m st.mem
@[go_sem] theorem aKR {res:List pv}{st:bo}(bU:R->Mem->Prop)(id:Nat):pQ res bU (.exit id) st=False:=b8
@[go_sem] theorem aKS {res:List pv}{st:bo}(bU:R->Mem->Prop):pQ res bU .normal st=∃m,qS st res=some m/\bU m st.mem:=b8
@[go_sem] theorem aKT {res:List pv}{st:bo}(bU:R->Mem->Prop):pQ res bU .ret st=∃m,qS st res=some m/\bU m st.mem:=b8
theorem Y9 {mf:bZ}{bU:R->Mem->Prop}{e:eI}{st:bo}(h:pQ mf.res bU e st):Us mf bU e st:=by
 cases e with
 |exit id=>exact h
 |normal=>exact h
 |ret=>exact h
theorem Za {kb : Nat}{own : List Nat}{f : FuncId}{fn : Func}{mf : bZ}(aC : P.funcs[f]? = some fn)(ud : (fn.name == "runtime.NumGoroutine") = false)(bc : sN P kb own fn = some mf): Real P f := by
 cases ah:fn.body with
 |none=>simp[sN,ah] at bc
 |some c=>exact⟨fn,c,aC,ah,ud⟩
def uL (aZ:List R->Mem->Option (R->Mem->Prop))(args:List R)(mem:Mem):Option h8:=(aZ args mem).map .rel
@[go_sem] theorem aKU (aZ:List R->Mem->Option (R->Mem->Prop))(args:List R)(mem:Mem):uL aZ args mem=(aZ args mem).map .rel:=b8
theorem QN {T : bl}{kb : Nat}{own : List Nat}(dK : q0 P T)(hm : P.follows .mixedOrders = true){f : FuncId}{fn : Func}{mf : bZ}(aC : P.funcs[f]? = some fn)(ud : (fn.name == "runtime.NumGoroutine") = false)(bc : sN P kb own fn = some { mf with body := erase mf.body })
  {aZ:List R->Mem->Option (R->Mem->Prop)} (h:∀args mem bU,aZ args mem=some bU->(D args)<=mf.n/\wp T mf.body (pQ mf.res bU) ⟨lk args,mem⟩):l2 P f (uL aZ):=by
 refine⟨Za aC ud bc,λargs mem p8 gF A w B vs ct aD=>?_⟩;unfold uL at gF;rw[e1] at gF;obtain⟨bU,hc,rfl⟩:=gF;obtain⟨hlen,Af⟩:=h args mem bU hc;refine Calls.mono (KD (Post:=bU) dK hm aC bc hlen (λe st L=>Y9 L) Af ct aD) λe a1 he=>?_;obtain⟨v,m,mem',bQ,rfl,U,sP,aF⟩:=he;exact⟨v,m,mem',bQ,rfl,U,sP,aF⟩
inductive tl (dT:Key->Prop):R->Prop
 |I {d:Data}:tl dT (.I d)
 |nil:tl dT .nil
 |ref {k g sz off len:Nat} (h:¬ dT k):tl dT (.ref k g sz off len)
 |ptr {k g off:Nat} (h:¬ dT k):tl dT (.ptr k g off)
 |gK {f:FuncId} {hb:List R} (h:∀(i:Nat) (m:R),hb[i]?=some m->tl dT m):tl dT (.gK f hb)
 |agg {cs:List R} (h:∀(i:Nat) (m:R),cs[i]?=some m->tl dT m):tl dT (.agg cs)
 |c1 {cs:List R} (h:∀(i:Nat) (m:R),cs[i]?=some m->tl dT m):tl dT (.c1 cs)
 |no:tl dT .no
 |undef:tl dT .undef
theorem clean_of {dT:Key->Prop}{a2:Nat->Prop}(zd:∀k,dT k->B k=none){m:R}{v:Value}(h:bN w a2 B m v):tl dT m:=by
 induction h with
 |I h=>exact .I
 |nil=>exact .nil
 |ref he bz aD=>exact .ref λaA=>by rw[zd _ aA] at he;cases he
 |ptr he bz aD=>exact .ptr λaA=>by rw[zd _ aA] at he;cases he
 |gK aw ab aN=>exact .gK λi m Q=>aN i m _ Q (bq (by have az:=(ej.1 Q).1;omega))
 |agg aw ab aN=>exact .agg λi m Q=>aN i m _ Q (bq (by have az:=(ej.1 Q).1;omega))
 |c1 aw ab aN=>exact .c1 λi m Q=>aN i m _ Q (bq (by have az:=(ej.1 Q).1;omega))
 |no=>exact .no
 |undef=>exact .undef
open Classical in
def uM (dT:Key->Prop)(B:fu):fu:=λk=>if dT k then none else B k
theorem Ik {dT:Key->Prop}{b:Nat}(h:sJ (uM dT B) b):sJ B b:=by
 obtain⟨k,e,he,ah⟩:=h;unfold uM at he
 split at he
 ·cases he
 ·exact⟨k,e,he,ah⟩
theorem avN {dT:Key->Prop}{m:R}{v:Value}(h:bN w (cV A B) B m v)(H:tl dT m):bN w (cV A (uM dT B)) (uM dT B) m v:=by
 have at_:∀{k:Key} {e:mJ},¬ dT k->B k=some e->uM dT B k=some e:=λL he=>by unfold uM;rw[ag L];exact he
 induction h with
 |I h=>exact .I (h.less λb ah=>ah.imp Ik id)
 |nil=>exact .nil
 |ref he bz aD=>cases H with|ref L=>exact .ref (at_ L he) bz aD
 |ptr he bz aD=>cases H with|ptr L=>exact .ptr (at_ L he) bz aD
 |gK aw ab aN=>cases H with|gK H=>exact .gK aw λi d v Q aD=>aN i d v Q aD (H i d Q)
 |agg aw ab aN=>cases H with|agg H=>exact .agg aw λi d v Q aD=>aN i d v Q aD (H i d Q)
 |c1 aw ab aN=>cases H with|c1 H=>exact .c1 aw λi d v Q aD=>aN i d v Q aD (H i d Q)
 |no=>exact .no
 |undef=>exact .undef
theorem fl.drop {dT:Key->Prop}{QO:Mem}(ax:ga A w B mem)(zd:∀k,dT k->mem k=none)(h:fl A w B a1 bQ mem')(G:∀k,dT k->QO k=none)(J:∀k,¬ dT k->QO k=mem' k)
  (H:∀k g cs,QO k=some (g,cs)->∀m∈cs,(∃d,m=.I d)\/∃ev hy tX,mem ev=some (hy,tX)/\m∈tX):fl A w B a1 (uM dT bQ) QO:=by
 have kp:∀k,dT k->B k=none:=λk L=>ax.BP k (zd k L);have at_:∀{k:Key},¬ dT k->uM dT bQ k=bQ k:=λL=>by unfold uM;rw[ag L]
 have Zb:∀{k:Key},dT k->uM dT bQ k=none:=λL=>by unfold uM;rw[ad L]
 refine⟨⟨λk L=>?_,λk k' e e' b he gL ah mP=>?_,λb aW bS=>h.eX.sep b aW (Ik bS),h.eX.lt,λk g cs L=>?_⟩,⟨h.nw.size,λb ah bS=>?_,λk e he=>?_⟩,h.aK,λb ah=>h.fresh b (Ik ah)⟩
 ·by_cases aA:dT k
  ·exact Zb aA
  ·rw[at_ aA];exact h.eX.BP k (by rw[<-J k aA];exact L)
 ·by_cases aA:dT k
  ·rw[Zb aA] at he;cases he
  ·by_cases vq:dT k'
   ·rw[Zb vq] at gL;cases gL
   ·rw[at_ aA] at he;rw[at_ vq] at gL;exact h.eX.inj k k' e e' b he gL ah mP
 ·by_cases aA:dT k
  ·rw[G k aA] at L;cases L
  ·obtain⟨e,he,bz,aM,ah⟩:=h.eX.eo k g cs (by rw[<-J k aA];exact L);refine⟨e,by rw[at_ aA];exact he,bz,aM,λb kT=>?_⟩
   obtain⟨vs,T,aY,a3,hle,Y⟩:=ah b kT;refine⟨vs,T,aY,a3,hle,λi m Q=>?_⟩;obtain⟨v,aD,D0⟩:=Y i m Q;refine⟨v,aD,avN D0 ?_⟩;rcases H k g cs L m (dn Q) with ⟨d,rfl⟩|⟨ev,hy,tX,p4,hJ⟩
   ·exact .I
   ·obtain⟨bw,Kz,xl,mR,s8⟩:=ax.eo ev hy tX p4
    cases HC:bw.eo with
    |none=>rw[mR HC] at hJ;cases hJ
    |some sZ =>
     obtain⟨aKV,aKW,_,_,_,hZ⟩:=s8 sZ HC;obtain⟨i0,s5⟩:=yJ.1 hJ;obtain⟨v0,_,avO⟩:=hZ i0 m s5;exact clean_of kp avO
 ·obtain⟨af,aT⟩:=h.nw.JS b ah bS;exact⟨af,λM=>aT (Ik M)⟩
 ·have aA:¬ dT k:=λaA=>by rw[kp k aA] at he;cases he
  rw[at_ aA];exact h.nw.key k e he
def CX (bI:List R->Mem->Option (Data×Key×Nat×Nat×Data))(args:List R)(mem:Mem):Option h8:=(bI args mem).map λx => .eb x.1 x.2.1 x.2.2.1 x.2.2.2.1 (.I x.2.2.2.2)
@[go_sem] theorem aKX (bI:List R->Mem->Option (Data×Key×Nat×Nat×Data))(args:List R)(mem:Mem):CX bI args mem=(bI args mem).map λx => .eb x.1 x.2.1 x.2.2.1 x.2.2.2.1 (.I x.2.2.2.2):=b8
theorem avP {T : bl}{kb : Nat}{own : List Nat}(dK : q0 P T)(hm : P.follows .mixedOrders = true){f : FuncId}{fn : Func}{mf : bZ}(aC : P.funcs[f]? = some fn)(ud : (fn.name == "runtime.NumGoroutine") = false)(bc : sN P kb own fn = some { mf with body := erase mf.body })
  (dT:Key->Prop) {bI:List R->Mem->Option (Data×Key×Nat×Nat×Data)}
  (h:∀args mem r k g i d,bI args mem=some (r,k,g,i,d)->(D args)<=mf.n/\(∀j,dT j->mem j=none)/\¬ dT k/\(∃cs,mem k=some (g,cs)) /\
   wp T mf.body (pQ mf.res λm mem'=>dz 6 emp m=some r/\∀j,¬ dT j->mem' j=a9 mem k g ((vj mem k).set i (.I d)) j) ⟨lk args,mem⟩):l2 P f (CX bI):=by
 refine⟨Za aC ud bc,λargs mem p8 gF A w B vs ct aD=>?_⟩;unfold CX at gF;rw[e1] at gF;obtain⟨⟨r,k,g,i,d⟩,ns,rfl⟩:=gF;obtain⟨hlen,zd,L,⟨cs,jj⟩,Af⟩:=h args mem r k g i d ns;refine Calls.mono (KD (Post:=λm mem'=>dz 6 emp m=some r/\∀j,¬ dT j->mem' j=a9 mem k g ((vj mem k).set i (.I d)) j) dK hm aC bc hlen (λe st L=>Y9 L) Af ct aD) λe a1 he=>?_;obtain⟨v,m,mem',bQ,rfl,U,sP,ab,hJ⟩:=he;refine⟨v,uM dT bQ,rfl,U.drop ct zd (λj aA=>?_) (λj aA=>(hJ j aA).symm) ?_,.I ((Ut 6 m v r ab sP).less λb ah=>ah.imp Ik id)⟩
 ·have:j≠k:=λe=>L (e ▸ aA);simp only[a9,this,if_false];exact zd j aA
 ·intro dA dd vy J m o0
  by_cases ib:dA=k
  ·subst ib;simp only[a9,if_true,cL,fS] at J;obtain⟨-,rfl⟩:=J;rcases Fj o0 with M|rfl
   ·refine .inr ⟨dA,g,cs,jj,?_⟩
    simpa [vj,jj] using M
   ·exact .inl ⟨d,rfl⟩
  ·simp only[a9,ib,if_false] at J;exact .inr ⟨dA,dd,vy,J,o0⟩
def avQ:Option h8->Option h8->Option h8
 |some x,_=>some x
 |none,e=>e
def xC (mi:FuncId->Option (List Data->Option eL))(tn:FuncId->Option (List R->Mem->Option h8)):bl:=λf args mem=>match tn f with
 |some jW=>avQ (jW args mem) (Cg mi f args mem)
 |none=>Cg mi f args mem
theorem rh {mi:FuncId->Option (List Data->Option eL)}{tn:FuncId->Option (List R->Mem->Option h8)}(h:∀f aR,mi f=some aR->q2 P f aR)(Y:∀f jW,tn f=some jW->l2 P f jW):q0 P (xC mi tn):=by
 intro f args mem p8 dK;unfold xC at dK
 split at dK
 ·rename_i jW gF;have U:=Y f jW gF
  cases M:jW args mem with
  |none =>
   rw[M] at dK;exact afW h f args mem p8 dK
  |some y =>
   rw[M] at dK
   cases dK;exact⟨U.real,λA w B vs ct aD=>U.run args mem p8 M A w B vs ct aD⟩
 ·exact afW h f args mem p8 dK
theorem KM.aiv {f:FuncId}{bE:List R->Mem->Option (R×Mem)}(h:KM P f bE):l2 P f (Ck bE):=by
 refine⟨h.real,λargs mem p8 gF A w B vs ct aD=>?_⟩;unfold Ck at gF;rw[e1] at gF;obtain⟨x,M,rfl⟩:=gF;exact h.run args mem x M A w B vs ct aD
section
variable {mi:FuncId->Option (List Data->Option eL)} {tn:FuncId->Option (List R->Mem->Option h8)} {f:FuncId}
theorem jX {aR:List Data->Option eL}(h:tn f=none)(cW:mi f=some aR):xC mi tn f=aQ aR:=by
 funext args mem
 unfold xC;rw[h];exact congrFun (congrFun (af1 cW) args) mem
theorem wa {jW:List R->Mem->Option h8}(h:tn f=some jW)(cW:mi f=none):xC mi tn f=jW:=by
 funext args mem
 unfold xC Cg;rw[h,cW];dsimp only
 cases jW args mem<;>rfl
theorem Il {aR:List Data->Option eL}{bE:List R->Mem->Option (R×Mem)}(h:tn f=some (Ck bE))(cW:mi f=some aR):xC mi tn f=Aj aR bE:=by
 funext args mem
 unfold xC;rw[h];unfold Aj Ck;rw[show Cg mi f args mem=aQ aR args mem from congrFun (congrFun (af1 cW) args) mem];dsimp only
 cases bE args mem<;>rfl
end
def QP (l:List (FuncId×(List R->Mem->Option h8))):FuncId->Option (List R->Mem->Option h8):=λf=>(l.find? λp=>p.1==f).map (·.2)
theorem ri {l:List (FuncId×(List R->Mem->Option h8))}(h:∀p∈l,l2 P p.1 p.2):∀f bE,QP l f=some bE->l2 P f bE:=by
 intro f aR aC;unfold QP at aC;rw[e1] at aC;obtain⟨p,aF,rfl⟩:=aC;have G:=List.mem_of_find?_eq_some aF;have J:=List.find?_some aF;have af:p.1=f:=by simpa using J
 exact af ▸ h p G
theorem l3:∀p∈([]:List (FuncId×(List R->Mem->Option h8))),l2 P p.1 p.2:=by simp
theorem pR {f:FuncId}{aR:List R->Mem->Option h8}{l:List (FuncId×(List R->Mem->Option h8))}(h:l2 P f aR)(aw:∀p∈l,l2 P p.1 p.2):∀p∈(f,aR)::l,l2 P p.1 p.2:=by
 intro p aF;rcases lS.1 aF with rfl|aF
 ·exact h
 ·exact aw p aF
open Classical in
def ze {α:Type}(bn:α->List R->Mem->Prop)(bU:α->Mem->R->Mem->Prop):List R->Mem->Option (R->Mem->Prop):=λargs mem=>if h:∃a,bn a args mem then some (bU (Classical.choose h) mem) else none
theorem avR {α:Type}{bn:α->List R->Mem->Prop}{bU:α->Mem->R->Mem->Prop}(uniq:∀a b args mem,bn a args mem->bn b args mem->a=b){a:α}{args:List R}{mem:Mem}(h:bn a args mem):ze bn bU args mem=some (bU a mem):=by
 have M:∃b,bn b args mem:=⟨a,h⟩;unfold ze;rw[dif_pos M,uniq _ _ _ _ (q3 M) h]
theorem QQ {α:Type}{bn:α->List R->Mem->Prop}{bU:α->Mem->R->Mem->Prop}{args:List R}{mem:Mem}{x:R->Mem->Prop}(h:ze bn bU args mem=some x):∃a,bn a args mem/\x=bU a mem:=by
 unfold ze at h
 split at h
 ·rename_i M;exact⟨_,q3 M,(oh h).symm⟩
 ·cases h
end Go.Mini
namespace Go.Mini
open Go
def QR:=cn CK λ(s,l,s2,aa)=>some (.same (.bool (s==0)))
@[go_sem] theorem aKY (s:Int)(l:List Int)(s2:Int)(aa:List Int):QR [.agg [.int .i64 s,.X (l.map ae),.int .i64 s2,.X (aa.map ae)]]=some (.same (.bool (s==0))):=cz HW (s,l,s2,aa)
theorem Fk (T:bl)  (s:Int) (l:List Int) (s2:Int) (aa:List Int):WP T XO (.same (.bool (s==0))) [.I (.agg [.int .i64 s,.X (l.map ae),.int .i64 s2,.X (aa.map ae)])]:=by
 refine cD ?_;simp only[XO];refine ak ?_;repeat' (intro h<;>simp only[h,go_sem,go_sem_proc]<;>try refine ai ?_ ?_)
def A4 (args:List R)(mem:Mem):Option (Data×Key×Nat×Nat×Data) :=
 match args with
 | [.ptr k g 0,.I (.agg [.int .i64 s,.X l,.int .i64 s2,.X aa]),.I (.int .i64 e)]=>match mem k,mem 168004,mem 168006 with
  |some (eg,[_,_,.I (.bool c)]),none,none=>if eg=g/\k≠168004/\k≠168006 then some (.agg [.int .i64 s,.X l,.int .i64 s2,.X aa],k,g,2,.bool (c||e != 0)) else none
  |_,_,_=>none
 |_=>none
def QS (j:Key):Prop:=j=168004\/j=168006
theorem avS (T:bl)(args:List R)(mem:Mem)(r:Data)(k g i:Nat)(d:Data)(h:A4 args mem=some (r,k,g,i,d)):
  (D args)<=19/\(∀j,QS j->mem j=none)/\¬ QS k/\(∃cs,mem k=some (g,cs)) /\
   wp T Qi.body (pQ Qi.res λm mem'=>dz 6 emp m=some r/\∀j,¬ QS j->mem' j=a9 mem k g ((vj mem k).set i (.I d)) j) ⟨lk args,mem⟩:=by
 unfold A4 at h
 split at h
 ·rename_i ev hy s l s2 aa e
  split at h
  ·rename_i cQ a b c hm aT b0
   split at h
   ·rename_i bz;obtain⟨rfl,tp,L3⟩:=bz;simp only[cL,fS] at h;obtain⟨rfl,rfl,rfl,rfl,rfl⟩:=h;refine⟨by simp,?_,?_,⟨_,hm⟩,?_⟩
    ·rintro j (rfl|rfl)
     ·exact aT
     ·exact b0
    ·rintro (h|h)
     ·exact tp h
     ·exact L3 h
    ·have jc:∀x:Bool,vj mem ev=[a,b,.I (.bool c)]:=λ_=>by simp only[vj,hm]
     have aiw:(ev=168004)=False:=eq_false tp;have aix:(ev=168006)=False:=eq_false L3;have aiy:(168004=ev)=False:=eq_false (Ne.symm tp);have aiz:(168006=ev)=False:=eq_false (Ne.symm L3);refine sV ?_;simp only[Qi]
     cases c
     ·refine ak ?_;repeat' (intro (ay:_=_)<;>simp only[ay,go_sem,go_sem_proc,hm,aT,b0,aiw,aix,aiy,aiz]<;>try refine ai ?_ ?_)
      refine⟨_,rfl,by first|rfl|simp[go_sem,dz],λj aA=>?_⟩
      have A5:j≠168004:=λh=>aA (.inl h);have CY:j≠168006:=λh=>aA (.inr h)
      by_cases fY:j=ev<;>simp[A5,CY,fY,L3]
     ·refine ak ?_;repeat' (intro (ay:_=_)<;>simp only[ay,go_sem,go_sem_proc,hm,aT,b0,aiw,aix,aiy,aiz]<;>try refine ai ?_ ?_)
      refine⟨_,rfl,by first|rfl|simp[go_sem,dz],λj aA=>?_⟩
      have A5:j≠168004:=λh=>aA (.inl h);have CY:j≠168006:=λh=>aA (.inr h)
      by_cases fY:j=ev<;>simp[A5,CY,fY,L3]
   ·cases h
  ·cases h
 ·cases h
abbrev dH:=Nat×Nat×List a7
def refsOf (N:Nat)(rows:List dH):List R:=rows.map λx => .ref (x.1+900000) x.2.1 4 0 (N+1)
structure A6 (go N:Nat) (rows:List dH) (bad:Bool) (mem:Mem):Prop where
 m:mem 129015=some (0,[.ref 129035 go 1 0 N,.I (.int .i64 N),.I (.bool bad)])
 o:mem 129035=some (go,refsOf N rows)
 r:∀x∈rows,mem (x.1+900000)=some (x.2.1,aV ar x.2.2)
structure ka (N:Nat) (rows:List dH):Prop where
 len:(D rows)=N
 QT:(rows.map (·.1)).Nodup
 row:∀x∈rows,x.2.2.length=N+1/\∀f∈x.2.2,okF f
def Im (k:Nat):Prop:=k<900000/\k≠129015/\k≠129035/\k≠148008/\k≠148010/\k≠148013
def kD (en:Mem)(go N:Nat)(rows:List dH)(bad:Bool)(mem:Mem):Prop:=A6 go N rows bad mem/\∀k,Im k->mem k=en k
section
variable {en mem:Mem} {go N:Nat} {rows:List dH} {mw:Bool}
theorem kD.flag (b:Bool)(h:kD en go N rows mw mem):kD en go N rows b (a9 mem 129015 0 [.ref 129035 go 1 0 N,.I (.int .i64 N),.I (.bool b)]):=by
 refine⟨⟨by simp[a9],by simp[a9,h.1.o],λx M=>?_⟩,λk L=>?_⟩
 ·rw[<-h.1.r x M];exact ag (show ¬ ((x.1+900000:Nat)=129015) by omega)
 ·rw[<-h.2 k L];exact ag L.2.1
theorem kD.own {k g:Nat}{cs:List R}(L:k=148008\/k=148010\/k=148013)(h:kD en go N rows mw mem):kD en go N rows mw (a9 mem k g cs):=by
 have b6:∀j:Nat,j≠k->a9 mem k g cs j=mem j:=λj aA=>ag aA;refine⟨⟨by rw[b6 _ (by omega)];exact h.1.m,by rw[b6 _ (by omega)];exact h.1.o,λx M=>by rw[b6 _ (by omega)];exact h.1.r x M⟩,λj aA=>?_⟩
 have:=aA.2;rw[b6 _ (by omega)];exact h.2 j aA
theorem kD.set {i:Nat}{x:dH}(cM:ka N rows)(Q:rows[i]?=some x)(l:List a7)(h:kD en go N rows mw mem):kD en go N (rows.set i (x.1,x.2.1,l)) mw (a9 mem (x.1+900000) x.2.1 (aV ar l)):=by
 have b6:∀j:Nat,j≠x.1+900000->a9 mem (x.1+900000) x.2.1 (aV ar l) j=mem j:=λj aA=>ag aA;obtain⟨az,Zc⟩:=ej.1 Q;refine⟨⟨by rw[b6 _ (by omega)];exact h.1.m,?_,λy aj=>?_⟩,λj aA=>?_⟩
 ·rw[b6 _ (by omega),h.1.o]
  congr 2
  unfold refsOf;apply oR;intro j;rw[bj,bj,lG]
  by_cases mT:i=j
  ·subst mT;rw[ad rfl,ad az,Q]
   rfl
  ·rw[ag mT]
 ·obtain⟨j,aA⟩:=yJ.1 aj;rw[lG] at aA
  by_cases mT:i=j
  ·subst mT;rw[ad rfl,ad az] at aA
   cases aA;simp[a9]
  ·rw[ag mT] at aA
   have aKZ:y.1≠x.1:=by
    intro he;have G:(rows.map (·.1))[j]?=some y.1:=by rw[bj,aA];rfl
    have J:(rows.map (·.1))[i]?=some y.1:=by rw[bj,Q,he];rfl
    have aw:i<(rows.map (·.1)).length:=by rw[aE];exact az
    exact mT ((aiA aw cM.QT).1 (J.trans G.symm))
   rw[b6 (y.1+900000) (by omega)];exact h.1.r y (dn aA)
 ·have:=aA.1;rw[b6 j (by omega)];exact h.2 j aA
theorem kD.swap {i j:Nat}{a b:dH}(Q:rows[i]?=some a)(aA:rows[j]?=some b)(h:kD en go N rows mw mem):kD en go N ((rows.set i b).set j a) mw (a9 (a9 mem 129035 go (refsOf N (rows.set i b))) 129035 go (refsOf N ((rows.set i b).set j a))):=by
 have b6:∀k:Nat,k≠129035->a9 (a9 mem 129035 go (refsOf N (rows.set i b))) 129035 go (refsOf N ((rows.set i b).set j a)) k=mem k:=λk L=>by simp[a9,L]
 refine⟨⟨by rw[b6 _ (by omega)];exact h.1.m,by simp[a9],λx M=>?_⟩,λk L=>?_⟩
 ·rw[b6 _ (by omega)];apply h.1.r;rcases Fj M with M|rfl
  ·rcases Fj M with M|rfl
   ·exact M
   ·exact dn aA
  ·exact dn Q
 ·rw[b6 _ L.2.2.1];exact h.2 k L
theorem ka.set {i:Nat}{x:dH}(cM:ka N rows)(Q:rows[i]?=some x){l:List a7}(aw:(D l)=N+1)(aC:∀f∈l,okF f):ka N (rows.set i (x.1,x.2.1,l)):=by
 obtain⟨az,Zc⟩:=ej.1 Q;refine⟨by rw[jF];exact cM.len,?_,λy aj=>?_⟩
 ·have:(rows.set i (x.1,x.2.1,l)).map (·.1)=rows.map (·.1):=by
   rw[wb];apply oR;intro j;rw[lG]
   by_cases mT:i=j
   ·subst mT;rw[ad rfl,aE,ad az,bj,Q];rfl
   ·rw[ag mT]
  rw[this];exact cM.QT
 ·rcases Fj aj with aj|rfl
  ·exact cM.row y aj
  ·exact⟨aw,aC⟩
theorem avT {α:Type}{l:List α}{i j:Nat}{a b:α}(Q:l[i]?=some a)(aA:l[j]?=some b)(h:l.Nodup):((l.set i b).set j a).Nodup:=by
 obtain⟨lY,xD⟩:=ej.1 Q;obtain⟨nb,OE⟩:=ej.1 aA
 have main:∀p q,p<q->q<(D l)->((l.set i b).set j a)[p]?≠((l.set i b).set j a)[q]?:=by
  intro p q CZ bF;rw[lG,lG,lG,lG];have inj:∀p q,p<(D l)->l[p]?=l[q]?->p=q:=λp q aF he=>(aiA aF h).1 he;simp only[jF]
  by_cases G:j=p
  ·subst G;have J:¬ j=q:=by omega
   rw[ad rfl,ad nb,ag J]
   by_cases af:i=q
   ·subst af;rw[ad rfl,ad lY];intro he;rw[<-Q,<-aA] at he;have:=inj _ _ lY he;omega
   ·rw[ag af,<-Q];intro he;exact af (inj _ _ lY he)
  ·rw[ag G]
   by_cases af:i=p
   ·subst af;rw[ad rfl,ad lY]
    by_cases J:j=q
    ·subst J;rw[ad rfl,ad nb,<-Q,<-aA];intro he;have:=inj _ _ nb he;omega
    ·rw[ag J,ag (by omega),<-aA];intro he;exact J (inj _ _ nb he)
   ·rw[ag af]
    by_cases J:j=q
    ·subst J;rw[ad rfl,ad nb,<-Q];intro he;exact af (inj _ _ lY he.symm)
    ·rw[ag J]
     by_cases aT:i=q
     ·subst aT;rw[ad rfl,ad lY,<-aA];intro he;exact G (inj _ _ nb he.symm)
     ·rw[ag aT];intro he;have:=inj _ _ (by omega) he;omega
 refine List.pairwise_iff_getElem.2 λp q aF bF CZ he=>?_;simp only[jF] at aF bF;refine main p q CZ bF ?_;rw[bq (by simpa using aF),bq (by simpa using bF),he]
theorem ka.swap {i j:Nat}{a b:dH}(cM:ka N rows)(Q:rows[i]?=some a)(aA:rows[j]?=some b):ka N ((rows.set i b).set j a):=by
 refine⟨by rw[jF,jF];exact cM.len,?_,λx M=>?_⟩
 ·rw[wb,wb];exact avT (by rw[bj,Q];rfl) (by rw[bj,aA];rfl) cM.QT
 ·rcases Fj M with M|rfl
  ·rcases Fj M with M|rfl
   ·exact cM.row x M
   ·exact cM.row _ (dn aA)
  ·exact cM.row _ (dn Q)
end
theorem avU {l:List a7}{i:Nat}{a b c d}(h:l[i]?=some ((a,b),(c,d))):cut (aV ar l) (i*4) 4=some [.I (.int .i64 a),.I (.X (b.map ae)),.I (.int .i64 c),.I (.X (d.map ae))]:=by
 have:=Pb iT h (f:=0) (n:=4) (by omega);rw[lP] at this;rw[this]
 rfl
theorem avV {N:Nat}{rows:List dH}{i:Nat}{x:dH}(h:rows[i]?=some x):cut (refsOf N rows) i 1=some [.ref (x.1+900000) x.2.1 4 0 (N+1)]:=by
 obtain⟨az,rfl⟩:=ej.1 h;unfold cut refsOf;rw[ad (by rw[aE];omega),<-List.map_drop,h9 az]
 rfl
theorem avW {l m:List a7}(h:aV ar l=aV ar m):l=m:=We iT np _ _ h (by omega)
def gP (f:a7):Bool:=f.1.1==0
def cellOf (x:dH)(c:Nat):a7:=x.2.2.getD c dD
def findAt (rows:List dH)(r c:Nat):Nat:=r+(rows.drop r).findIdx λx => !gP (cellOf x c)
def h0 (fA:a7):List a7->List a7->Bool->List a7×Bool
 |f::eh,p::dP,false=>((jJ f (hA fA p).1).1::(h0 fA eh dP ((hA fA p).2 != 0||(jJ f (hA fA p).1).2 != 0)).1,(h0 fA eh dP ((hA fA p).2 != 0||(jJ f (hA fA p).1).2 != 0)).2)
 |eh,_,b=>(eh,b)
def ih (fU:List a7)(r c:Nat):Nat->List dH->Bool->List dH×Bool
 |_,[],bad=>([],bad)
 |i,x::xs,bad=>if (i==r||gP (cellOf x c))=true then (x::(ih fU r c (i+1) xs bad).1,(ih fU r c (i+1) xs bad).2) else
  ((x.1,x.2.1,(h0 (cellOf x c) x.2.2 fU bad).1)::(ih fU r c (i+1) xs (h0 (cellOf x c) x.2.2 fU bad).2).1,(ih fU r c (i+1) xs (h0 (cellOf x c) x.2.2 fU bad).2).2)
def g9 (LQ:a7)(l:List a7):List a7×Bool:=(l.map λf=>(fE f LQ).1,l.any λf=>(fE f LQ).2 != 0)
def rowAt (rows:List dH)(i:Nat):dH:=rows.getD i (0,0,[])
def m1 (rows:List dH)(i j:Nat):List dH:=(rows.set i (rowAt rows j)).set j (rowAt rows i)
def A7 (rows:List dH)(r c:Nat):List dH:=rows.set r ((rowAt rows r).1,(rowAt rows r).2.1,(g9 (cellOf (rowAt rows r) c) (rowAt rows r).2.2).1)
def h1 (rows:List dH)(r c:Nat):Bool×List dH×Bool :=
 if findAt rows r c=(D rows) then (true,rows,false) else
  (false,ih (g9 (cellOf (rowAt (m1 rows r (findAt rows r c)) r) c) (rowAt (m1 rows r (findAt rows r c)) r).2.2).1 r c 0 (A7 (m1 rows r (findAt rows r c)) r c)
   (g9 (cellOf (rowAt (m1 rows r (findAt rows r c)) r) c) (rowAt (m1 rows r (findAt rows r c)) r).2.2).2)
theorem avX {rows:List dH}{r c i:Nat}{x:dH}(M:rows[i]?=some x)(Y:r<=i)(a3:∀j y,r<=j->j<i->rows[j]?=some y->gP (cellOf y c)=true)(h:gP (cellOf x c)=false):findAt rows r c=i:=by
 unfold findAt;obtain⟨az,Zc⟩:=ej.1 M
 have:(rows.drop r).findIdx (λx => !gP (cellOf x c))=i-r:=by
  rw[aiB (by rw[nE];omega)];refine⟨?_,λj aA=>?_⟩
  ·rw[C0];have:rows[r+(i-r)]?=some x:=by rw[show r+(i-r)=i by omega];exact M
   rw[(ej.1 this).2,h];rfl
  ·rw[C0];have:=a3 (r+j) _ (by omega) (by omega) (bq (by omega));rw[this];rfl
 omega
theorem avY {rows:List dH}{r c:Nat}(Y:r<=D rows)(a3:∀j y,r<=j->rows[j]?=some y->gP (cellOf y c)=true):findAt rows r c=D rows:=by
 unfold findAt
 have:(rows.drop r).findIdx (λx => !gP (cellOf x c))=(rows.drop r).length:=by
  rw[aiC];intro y aj;obtain⟨j,aA⟩:=yJ.1 aj;rw[qX] at aA;rw[a3 (r+j) y (by omega) aA];rfl
 rw[this,nE];omega
theorem jY {x:Rat}(h:dx x):okF (al x):=⟨jI h.1,jI (pL h)⟩
theorem rj:okF dD:=⟨by simp[dD],by simp[dD]⟩
theorem avZ (p q:Raw):okF (gH p q).1:=by
 unfold gH
 split
 ·rename_i h;rw[fw] at h;obtain⟨x,M,av⟩:=(hM _).1 h.1;obtain⟨y,aj,aB⟩:=(hM _).1 h.2
  split
  ·exact rj
  ·rw[av,aB,e8,e8];exact jY (Qc M aj)
 ·exact rj
theorem Zd (p q:Raw×Int):okF (sc p q).1:=by
 unfold sc
 split
 ·split
  ·exact avZ _ _
  ·exact rj
 ·exact rj
theorem av0 (a b:a7):okF (oC a b).1:=by
 unfold oC
 split
 ·split
  ·exact Zd _ _
  ·exact rj
 ·exact rj
theorem Ze (a b:a7):okF (jJ a b).1:=by
 unfold jJ
 split
 ·split
  ·exact av0 _ _
  ·exact rj
 ·exact rj
theorem aiD (a b:a7):okF (hA a b).1:=by
 unfold hA
 split
 ·split
  ·exact Zd _ _
  ·exact rj
 ·exact rj
theorem QU (a b:a7):okF (fE a b).1:=by
 unfold fE
 split
 ·split
  ·split
   ·exact rj
   ·exact Zd _ _
  ·exact rj
 ·exact rj
theorem Zf {x:dH}{c:Nat}{f:a7}(h:x.2.2[c]?=some f):cellOf x c=f:=by
 unfold cellOf;rw[ep,h]
 rfl
theorem tq {rows:List dH}{i:Nat}{x:dH}(h:rows[i]?=some x):rowAt rows i=x:=by
 unfold rowAt;rw[ep,h]
 rfl
theorem wc {l:List a7}{k:Nat}(h:k<D l):(k*4+4<=(aV ar l).length)=True:=eq_true (by rw[kX iT];omega)
theorem A8 {l:List a7}{k:Nat}{a b c d}(h:l[k]?=some ((a,b),(c,d))):hY 4 (iP (k*4) (aV ar l))=[.I (.int .i64 a),.I (.X (b.map ae)),.I (.int .i64 c),.I (.X (d.map ae))]:=by
 have:=avU h;unfold cut at this;rw[ad (by rw[kX iT];have:=(ej.1 h).1;omega)] at this;exact oh this
theorem C1 {l:List a7}{k:Nat}(h:k<D l)(a:Int)(b:List Int)(c:Int)(d:List Int):
  hY (k*4) (aV ar l)++[R.I (.int .i64 a),.I (.X (b.map ae)),.I (.int .i64 c),.I (.X (d.map ae))]++iP (k*4+4) (aV ar l)=aV ar (l.set k ((a,b),(c,d))):=by
 rw[<-UC iT h]
 rfl
theorem Fl {N:Nat}{rows:List dH}{i:Nat}(h:i<D rows):(i+1<=(refsOf N rows).length)=True:=eq_true (by unfold refsOf;rw[aE];omega)
theorem Io {N:Nat}{rows:List dH}{i:Nat}{x:dH}(h:rows[i]?=some x):hY 1 (iP i (refsOf N rows))=[.ref (x.1+900000) x.2.1 4 0 (N+1)]:=by
 have:=avV (N:=N) h;unfold cut at this;rw[ad (by unfold refsOf;rw[aE];have:=(ej.1 h).1;omega)] at this;exact oh this
theorem aiE {N:Nat}{rows:List dH}{i:Nat}(h:i<D rows)(b:dH):hY i (refsOf N rows)++[R.ref (b.1+900000) b.2.1 4 0 (N+1)]++iP (i+1) (refsOf N rows)=refsOf N (rows.set i b):=by
 unfold refsOf;rw[wb,List.set_eq_take_append_cons_drop,ad (by rw[aE];exact h),gT]
 rfl
theorem aiF (fA:a7):∀(l p:List a7) (b:Bool),(h0 fA l p b).1.length=D l
 | [],_,_=>by simp[h0]
 |f::eh,[],b=>by cases b<;>simp[h0]
 |f::eh,p::dP,true=>by simp[h0]
 |f::eh,p::dP,false=>by simp[h0,aiF fA eh dP]
theorem L4 (fA:a7)(l p:List a7):h0 fA l p true=(l,true):=by
 cases l<;>cases p<;>simp[h0]
theorem aiG (fA:a7)(p:List a7)(b:Bool):h0 fA [] p b=([],b):=by
 cases b<;>simp[h0]
theorem av1 {α:Type}(f:α->α){l:List α}{k:Nat}{x:α}(h:l[k]?=some x):((l.take k).map f++l.drop k).set k (f x)=(l.take (k+1)).map f++l.drop (k+1):=by
 obtain⟨az,M⟩:=ej.1 h;have aw:((l.take k).map f).length=k:=by rw[aE,gv];omega
 rw[zf _ _ (by omega),aw,jy,h9 az,mx,gB,h,js,gT]
 rfl
theorem av2 {α:Type}(f:α->α){l:List α}{k:Nat}:((l.take k).map f++l.drop k)[k]?=l[k]?:=by
 rcases g2 k (D l) with h|h
 ·have aw:((l.take k).map f).length=k:=by rw[aE,gv];omega
  rw[nc (by omega),aw,jy,qX,lP]
 ·rw[ja h,ja (by rw[fX,aE,gv,nE];omega)]
theorem L5 {α:Type}{rows:List α}{r i:Nat}{x rk:α}(M:rows[i]?=some x)(my:rows[r]?=some rk):((rows.set r x).set i rk)[r]?=some x:=by
 have G:=(ej.1 M).1;have J:=(ej.1 my).1;rw[lG,lG,jF]
 by_cases h:i=r
 ·subst h;rw[M] at my
  cases my;rw[ad rfl,ad G]
 ·rw[ag h,ad rfl,ad J]
theorem Zg {α:Type}{l:List α}{i:Nat}{x:α}(h:l[i]?=some x):l.set i x=l:=by
 obtain⟨az,M⟩:=ej.1 h;apply oR;intro j;rw[lG]
 by_cases mT:i=j
 ·subst mT;rw[ad rfl,ad az,h]
 ·rw[ag mT]
theorem av3 (a b:Nat):(!(a+900000==129015)||decide (2<b*4))=true:=by
 have:(a+900000==129015)=false:=by simp
 rw[this];rfl
theorem Zh:Im 168004:=by unfold Im;omega
theorem Zi:Im 168006:=by unfold Im;omega
def er.sub:er->List Nat->er
 |.seq a _,0::p=>a.sub p
 |.seq _ b,_::p=>b.sub p
 |.cond _ a _,0::p=>a.sub p
 |.cond _ _ b,_::p=>b.sub p
 |.block _ c,_::p=>c.sub p
 |.ghost _ c,_::p=>c.sub p
 |.loop c,_::p=>c.sub p
 |c,_=>c
def av4 (f:a7):List R:=[.I (.int .i64 f.1.1),.I (.X (f.1.2.map ae)),.I (.int .i64 f.2.1),.I (.X (f.2.2.map ae))]
theorem av5 (T:bl)(zg:T Cm=CX A4)(tr:T yQ=aQ AS)(rl:T xa=aQ y3){K:eI->bo->Prop}{kk:List fJ}
  (go N r c i2:Nat) (mem:Mem) (C2:mem 168004=none) (C3:mem 168006=none) (fK:N<=40) (qu:List dH) (pS:ka N qu) (x y:dH) (fU:List a7) (oF:qu[i2]?=some y) (a8:qu[r]?=some (x.1,x.2.1,fU)) (Fm:i2≠r) (oG:r<N) (mw:Bool)
  (cQ:Int) (dd:List Int) (iK:Int) (mz:List Int) (nn:okF ((cQ,dd),(iK,mz))) (tm:Nat->R) (m:Mem) (bE:Nat)
  (bw:tm 0=.ptr 129015 0 0) (av:tm 1=.I (.int .i64 r)) (aB:tm 2=.I (.int .i64 c)) (fo:tm 12=.ref (y.1+900000) y.2.1 4 0 (N+1)) (gu:tm 13=.ptr 148013 bE 0) (rm:tm 112=.ref 129035 go 1 0 N) (L6:tm 113=.I (.int .i64 N)) (L7:tm 114=.I (.int .i64 i2)) (qv:tm 14=.I (.int .i64 0))
  (em:m 148013=some (bE,[.I (.int .i64 cQ),.I (.X (dd.map ae)),.I (.int .i64 iK),.I (.X (mz.map ae))])) (gO:kD mem go N qu mw m)
  (cZ:∀tm' m' l b,tm' 0=.ptr 129015 0 0->tm' 1=.I (.int .i64 r)->tm' 2=.I (.int .i64 c)->tm' 112=.ref 129035 go 1 0 N->tm' 113=.I (.int .i64 N)->tm' 114=.I (.int .i64 i2)->(l,b)=h0 ((cQ,dd),(iK,mz)) y.2.2 fU mw->ka N (qu.set i2 (y.1,y.2.1,l))->kD mem go N (qu.set i2 (y.1,y.2.1,l)) b m'->cd T K kk (.exit 6) ⟨tm',m'⟩) :
  wp T (y7.body.sub [1,1,1,1,1,1,1,0,1,0,0,1,1,0,0,1,1,1,1,0]) (cd T K kk) ⟨tm,m⟩:=by
 simp only[y7,er.sub];have av6:i2<N:=by rw[<-pS.len];exact (ej.1 oF).1
 obtain⟨DX,QV⟩:=pS.row y (dn oF);have av7:qu.set i2 (y.1,y.2.1,[]++y.2.2.drop 0)=qu:=Zg oF
 refine cU [0,1,2,12,13,112,113,114] [148013] (λ((k,pre,b):Nat×List a7×Bool) tm m=>k<=N+1/\D pre=k/\(∀f∈pre,okF f)/\h0 ((cQ,dd),(iK,mz)) y.2.2 fU mw=(pre++(h0 ((cQ,dd),(iK,mz)) (y.2.2.drop k) (fU.drop k) b).1,(h0 ((cQ,dd),(iK,mz)) (y.2.2.drop k) (fU.drop k) b).2)/\tm 14=.I (.int .i64 k)/\kD mem go N (qu.set i2 (y.1,y.2.1,pre++y.2.2.drop k)) b m) (λ(k,_,_)=>N+1-k) (0,[],mw) (by
  refine⟨fm _,rfl,(by simp),rfl,qv,?_⟩;rw[av7];exact gO) ?_
 intro vs ms aJ aH;simp only[go_sem,go_sem_proc,bw,av,aB,fo,gu,rm,L6,L7,em] at aJ aH;subst aJ aH;clear bw av aB fo gu rm L6 L7 em qv gO tm m;rintro⟨ek,pre,b⟩ tm gG L hm ⟨aK0,AB,ts,L8,Cy,uN⟩;simp only[go_sem,go_sem_proc,bk] at L hm;obtain⟨ax,G,J,eP,jG,xE,xF,xG⟩:=L;have av8:(pre++y.2.2.drop ek).length=N+1:=by rw[fX,nE];omega
 have Ip:ka N (qu.set i2 (y.1,y.2.1,pre++y.2.2.drop ek)):=pS.set oF av8 λf aC=>by
  rw[jb] at aC;rcases aC with aC|aC
  ·exact ts f aC
  ·exact QV f (Lp aC)
 have aiH:(qu.set i2 (y.1,y.2.1,pre++y.2.2.drop ek))[i2]?=some (y.1,y.2.1,pre++y.2.2.drop ek):=by
  rw[lG,ad rfl,ad (by rw[pS.len];exact av6)]
 have rb:(qu.set i2 (y.1,y.2.1,pre++y.2.2.drop ek))[r]?=some (x.1,x.2.1,fU):=by
  rw[lG,ag Fm];exact a8
 have xH:=uN.1.m;have zh:=uN.1.o;rcases dc (ek<N+1) with av9|aK1
 ·have xI:decide ((ek:Int)<((N+1:Nat):Int))=true:=cT
  cases b
  ·obtain⟨⟨⟨cE,cO⟩,⟨ei,eS⟩⟩,uO⟩:∃f,y.2.2[ek]?=some f:=⟨_,bq (by omega)⟩;have aK2:(D fU)=N+1:=(pS.row _ (dn a8)).1;obtain⟨⟨⟨ic,kr⟩,⟨o5,o6⟩⟩,C4⟩:∃f,fU[ek]?=some f:=⟨_,bq (by omega)⟩;have ll:=QV _ (dn uO);have aiI:=(pS.row _ (dn a8)).2 _ (dn C4)
   have Zj:(pre++y.2.2.drop ek)[ek]?=some ((cE,cO),(ei,eS)):=by
    rw[nc (by omega),AB,jy,qX,lP,uO]
   have kt:y.2.2.drop ek=((cE,cO),(ei,eS))::y.2.2.drop (ek+1):=by
    obtain⟨aw,e⟩:=ej.1 uO;rw[h9 aw,e]
   have lX:fU.drop ek=((ic,kr),(o5,o6))::fU.drop (ek+1):=by
    obtain⟨aw,e⟩:=ej.1 C4;rw[h9 aw,e]
   have hV:∀s:a7,(pre++y.2.2.drop ek).set ek s=(pre++[s])++y.2.2.drop (ek+1):=λs=>by
    rw[zf _ _ (by omega),AB,jy,kt,mx,gT];rfl
   have awa:=uN.1.r _ (dn aiH);have awb:=uN.1.r _ (dn rb);have kE:gG 168004=none:=(uN.2 _ Zh).trans C2;have lH:gG 168006=none:=(uN.2 _ Zi).trans C3;have t1:=Io (N:=N) rb;have t2:=Fl (N:=N) (rows:=qu.set i2 (y.1,y.2.1,pre++y.2.2.drop ek)) (i:=r) (by rw[Ip.len];exact oG);have t3:=A8 Zj;have t4:=wc (l:=pre++y.2.2.drop ek) (k:=ek) (by omega);have t5:=A8 C4;have t6:=wc (l:=fU) (k:=ek) (by omega);have ni:=ec (i:=ek) (by omega);have Zk:=aiD ((cQ,dd),(iK,mz)) ((ic,kr),(o5,o6));have Zl:=Ze ((cE,cO),(ei,eS)) (hA ((cQ,dd),(iK,mz)) ((ic,kr),(o5,o6))).1;have L9:=L8;rw[kt,lX] at L9;simp only[h0] at L9;generalize e2:hA ((cQ,dd),(iK,mz)) ((ic,kr),(o5,o6))=bn at *;obtain⟨⟨⟨lQ,ho⟩,⟨we,zi⟩⟩,av⟩:=bn;dsimp only at Zl L9 Zk;generalize dh:jJ ((cE,cO),(ei,eS)) ((lQ,ho),(we,zi))=S at *;obtain⟨⟨⟨v1,v2⟩,⟨iz,v4⟩⟩,aB⟩:=S;dsimp only at Zl L9;have t7:=C1 (l:=pre++y.2.2.drop ek) (k:=ek) (by omega) v1 v2 iz v4;refine ak ?_;repeat' (intro h<;>simp only[h,go_sem,go_sem_proc,zg,rl,tr,ax,G,J,eP,jG,Cy,xE,xF,xG,hm,xH,zh,awa,awb,kE,lH,t1,t2,t3,t4,t5,t6,t7,xI,av9,oG,ni,e2,dh,ll.1,ll.2,aiI.1,aiI.2,nn.1,nn.2,Zk.1,Zk.2,av4,cG,ar,dY,A4,uP,mx,decide_true,decide_false,aiJ,ne_eq,not_false_eq_true,and_self]<;>try refine ai ?_ ?_)
   have dw:=kD.set Ip aiH ((pre++y.2.2.drop ek).set ek ((v1,v2),(iz,v4))) ((uN.flag (av != 0)).flag (av != 0||aB != 0));rw[aiK,hV] at dw;refine⟨av3 _ _,(ek+1,pre++[((v1,v2),(iz,v4))],(av != 0||aB != 0)),by dsimp only;omega,by dsimp only;omega,by simp[AB],?_,?_,rfl,?_⟩
   ·intro f aC;rw[jb,xk] at aC;rcases aC with aC|rfl
    ·exact ts f aC
    ·exact Zl
   ·rw[L9];dsimp only;rw[gT]
    rfl
   ·dsimp only;rw[hV];exact dw
  ·rw[L4] at L8;refine ak ?_;repeat' (intro h<;>simp only[h,go_sem,go_sem_proc,ax,G,J,eP,jG,Cy,xE,xF,xG,xH,zh,xI]<;>try refine ai ?_ ?_)
   refine cZ _ _ (pre++y.2.2.drop ek) true ?_ ?_ ?_ ?_ ?_ ?_ L8.symm Ip uN<;>simp only[dk,cp,if_false,ax,G,J,xE,xF,xG]
 ·have xI:decide ((ek:Int)<((N+1:Nat):Int))=false:=cl;have p6:y.2.2.drop ek=[]:=lO (by omega);rw[p6,aiG,<-p6] at L8;refine ak ?_;repeat' (intro h<;>simp only[h,go_sem,go_sem_proc,ax,G,J,eP,jG,Cy,xE,xF,xG,xH,zh,xI]<;>try refine ai ?_ ?_)
  refine cZ _ _ (pre++y.2.2.drop ek) b ?_ ?_ ?_ ?_ ?_ ?_ L8.symm Ip uN<;>simp only[dk,cp,if_false,ax,G,J,xE,xF,xG]
theorem awc (T:bl)(C5:T KW=aQ QR)(zg:T Cm=CX A4)(tr:T yQ=aQ AS)(rl:T xa=aQ y3){K:eI->bo->Prop}{kk:List fJ}
  (go N r c:Nat) (mem:Mem) (C2:mem 168004=none) (C3:mem 168006=none) (fK:N<=40) (oG:r<N) (Fo:c<N+1) (e3:List dH) (Fp:ka N e3) (x:dH) (fU:List a7) (qo:e3[r]?=some (x.1,x.2.1,fU)) (Iq:Bool) (tm:Nat->R) (m:Mem)
  (bw:tm 0=.ptr 129015 0 0) (av:tm 1=.I (.int .i64 r)) (aB:tm 2=.I (.int .i64 c)) (rm:tm 112=.ref 129035 go 1 0 N) (L6:tm 113=.I (.int .i64 N)) (L7:tm 114=.I (.int .i64 0)) (gO:kD mem go N e3 Iq m)
  (cZ:∀tm' m',kD mem go N (ih fU r c 0 e3 Iq).1 (ih fU r c 0 e3 Iq).2 m'->cd T K kk (.exit 4) ⟨tm',m'⟩) :
  wp T (y7.body.sub [1,1,1,1,1,1,1,0,1,0]) (cd T K kk) ⟨tm,m⟩:=by
 simp only[y7,er.sub]
 refine cU [0,1,2,112,113] [] (λ((i2,qw,mw):Nat×List dH×Bool) tm m=>i2<=N/\D qw=i2/\ih fU r c 0 e3 Iq=(qw++(ih fU r c i2 (e3.drop i2) mw).1,(ih fU r c i2 (e3.drop i2) mw).2)/\ka N (qw++e3.drop i2)/\(qw++e3.drop i2)[r]?=some (x.1,x.2.1,fU)/\tm 114=.I (.int .i64 i2)/\kD mem go N (qw++e3.drop i2) mw m) (λ(i2,_,_)=>N-i2) (0,[],Iq) (by
  exact⟨fm _,rfl,rfl,Fp,qo,L7,gO⟩) ?_
 intro vs ms aJ aH;simp only[go_sem,go_sem_proc,bw,av,aB,rm,L6] at aJ aH;subst aJ aH;clear bw av aB rm L6 L7 gO tm m;rintro⟨i2,qw,mw⟩ tm b7 L hm ⟨rP,j8,ln,pS,a8,xG,wg⟩;simp only[go_sem,go_sem_proc,bk] at L hm;obtain⟨ax,G,J,xE,xF⟩:=L;have xH:=wg.1.m;have zh:=wg.1.o;have aK3:(D e3)=N:=Fp.len;rcases dc (i2<N) with QW|aK4
 ·obtain⟨y,aj⟩:∃y,e3[i2]?=some y:=⟨_,bq (by omega)⟩
  have ux:e3.drop i2=y::e3.drop (i2+1):=by
   obtain⟨aw,rfl⟩:=ej.1 aj;exact h9 aw
  have oF:(qw++e3.drop i2)[i2]?=some y:=by
   rw[nc (by omega),j8,jy,qX,lP,aj]
  obtain⟨DX,QV⟩:=pS.row y (dn oF);have Zm:=wg.1.r y (dn oF);obtain⟨⟨⟨cQ,dd⟩,⟨iK,mz⟩⟩,bz⟩:∃f,y.2.2[c]?=some f:=⟨_,bq (by omega)⟩;have xp:=Zf bz;have t1:=Io (N:=N) oF;have t2:=Fl (N:=N) (rows:=qw++e3.drop i2) (i:=i2) (by rw[pS.len];exact QW);have t3:=A8 bz;have t4:=wc (l:=y.2.2) (k:=c) (by omega);have lY:decide ((i2:Int)<(N:Int))=true:=cT;have hw:=ec (i:=i2) (by omega)
  have zY:∀z:dH,(qw++[z])++e3.drop (i2+1)=(qw++e3.drop i2).set i2 z:=λz=>by
   rw[zf _ _ (by omega),j8,jy,ux,mx,gT];rfl
  have Ir:(qw++[y])++e3.drop (i2+1)=qw++e3.drop i2:=by rw[zY];exact Zg oF
  have xJ:∀b:Bool,(b=true->i2=r\/(cQ==0)=true)->b=true->ih fU r c 0 e3 Iq=((qw++[y])++(ih fU r c (i2+1) (e3.drop (i2+1)) mw).1,(ih fU r c (i2+1) (e3.drop (i2+1)) mw).2):=by
   intro b ah Fa
   have Zn:(i2==r||gP (cellOf y c))=true:=by
    rcases ah Fa with h|h
    ·rw[h,beq_self_eq_true];rfl
    ·rw[xp];have:gP ((cQ,dd),(iK,mz))=true:=h;rw[this,Ag]
   rw[ln,ux];simp only[ih];rw[ad Zn,gT]
   rfl
  rcases pT:((i2:Int)==(r:Int))
  ·have Fm:i2≠r:=by intro h;rw[h] at pT;simp at pT
   rcases QX:(cQ==0)
   ·have nn:okF ((cQ,dd),(iK,mz)):=QV _ (dn bz);simp only[go_sem,go_sem_proc,C5,G,J,xE,xF,xG,zh,Zm,t1,t2,t3,t4,QW,lY,Fo,pT,QX,dY];refine av5 T zg tr rl go N r c i2 mem C2 C3 fK (qw++e3.drop i2) pS x y fU oF a8 Fm oG mw cQ dd iK mz nn _ _ (fN (b7 148013)) ?_ ?_ ?_ ?_ ?_ ?_ ?_ ?_ ?_ ?_ ((wg.own (.inr (.inr rfl))).own (.inr (.inr rfl))) ?_
    ·exact ax
    ·exact G
    ·exact J
    ·rfl
    ·rfl
    ·exact xE
    ·exact xF
    ·exact xG
    ·rfl
    ·simp[a9]
    ·intro tm' m' l b ev cB dA Zo awd awe r6 Ip uN;refine ak ?_;repeat' (intro (ay:_=_)<;>simp only[ay,go_sem,go_sem_proc,ax,G,J,ev,cB,dA,Zo,awd,awe,hw]<;>try refine ai ?_ ?_)
     refine⟨(i2+1,qw++[(y.1,y.2.1,l)],b),by dsimp only;omega,by dsimp only;omega,by simp[j8],?_,by dsimp only;rw[zY];exact Ip,by dsimp only;rw[zY,lG,ag Fm];exact a8,rfl,?_⟩
     ·have Zn:¬ (i2==r||gP (cellOf y c))=true:=by
       rw[xp];have G:gP ((cQ,dd),(iK,mz))=false:=QX;have J:(i2==r)=false:=by simpa using Fm
       rw[G,J];simp
      rw[ln,ux];simp only[ih];rw[ag Zn,xp,<-r6,gT]
      rfl
     ·dsimp only;rw[zY];exact uN
   ·refine ak ?_;repeat' (intro (ay:_=_)<;>simp only[ay,go_sem,go_sem_proc,C5,ax,G,J,xE,xF,xG,xH,zh,Zm,t1,t2,t3,t4,QW,lY,Fo,hw,pT,QX,dY]<;>try refine ai ?_ ?_)
    refine⟨(i2+1,qw++[y],mw),by dsimp only;omega,by dsimp only;omega,by simp[j8],xJ true (λ_ => .inr QX) rfl,by dsimp only;rw[Ir];exact pS,by dsimp only;rw[Ir];exact a8,rfl,?_⟩
    dsimp only;rw[Ir];exact (wg.own (.inr (.inr rfl))).own (.inr (.inr rfl))
  ·have Fm:i2=r:=by have h:=beq_iff_eq.1 pT;omega
   refine ak ?_;repeat' (intro (ay:_=_)<;>simp only[ay,go_sem,go_sem_proc,C5,ax,G,J,xE,xF,xG,xH,zh,Zm,t1,t2,t3,t4,QW,lY,Fo,hw,pT,dY]<;>try refine ai ?_ ?_)
   refine⟨(i2+1,qw++[y],mw),by dsimp only;omega,by dsimp only;omega,by simp[j8],xJ true (λ_ => .inl Fm) rfl,by dsimp only;rw[Ir];exact pS,by dsimp only;rw[Ir];exact a8,rfl,?_⟩
   dsimp only;rw[Ir];exact (wg.own (.inr (.inr rfl))).own (.inr (.inr rfl))
 ·have cI:i2=N:=by omega
  have lY:decide ((i2:Int)<(N:Int))=false:=cl;have OZ:e3.drop i2=[]:=lO (by omega);rw[OZ] at ln wg;simp only[ih,gS] at ln wg;rw[ln] at cZ;refine ak ?_;repeat' (intro (ay:_=_)<;>simp only[ay,go_sem,go_sem_proc,ax,G,J,xE,xF,xG,xH,zh,lY]<;>try refine ai ?_ ?_)
  exact cZ _ _ wg
theorem awf (T:bl)(zg:T Cm=CX A4)(zj:T Ep=aQ E1){K:eI->bo->Prop}{kk:List fJ}
  (go N r c:Nat) (mem:Mem) (C2:mem 168004=none) (C3:mem 168006=none) (fK:N<=40) (oG:r<N) (gp:List dH) (Is:ka N gp) (x:dH) (uQ:gp[r]?=some x) (f1:Int) (f2:List Int) (f3:Int) (f4:List Int) (iI:okF ((f1,f2),(f3,f4))) (tm:Nat->R) (m:Mem) (bE:Nat)
  (bw:tm 0=.ptr 129015 0 0) (av:tm 1=.I (.int .i64 r)) (aB:tm 2=.I (.int .i64 c)) (df:tm 8=.ptr 148008 bE 0) (aiL:tm 85=.ref (x.1+900000) x.2.1 4 0 (N+1)) (aiM:tm 86=.I (.int .i64 ((N+1:Nat):Int))) (aiN:tm 87=.I (.int .i64 0))
  (em:m 148008=some (bE,[.I (.int .i64 f1),.I (.X (f2.map ae)),.I (.int .i64 f3),.I (.X (f4.map ae))])) (gO:kD mem go N gp false m)
  (cZ:∀tm' m',tm' 0=.ptr 129015 0 0->tm' 1=.I (.int .i64 r)->tm' 2=.I (.int .i64 c)->ka N (gp.set r (x.1,x.2.1,(g9 ((f1,f2),(f3,f4)) x.2.2).1))->kD mem go N (gp.set r (x.1,x.2.1,(g9 ((f1,f2),(f3,f4)) x.2.2).1)) (g9 ((f1,f2),(f3,f4)) x.2.2).2 m'->cd T K kk (.exit 2) ⟨tm',m'⟩) :
  wp T (y7.body.sub [1,1,1,1,1,1,0,1,0]) (cd T K kk) ⟨tm,m⟩:=by
 simp only[y7,er.sub];obtain⟨vn,xK⟩:=Is.row x (dn uQ)
 have awg:∀l:List a7,(gp.set r (x.1,x.2.1,l))[r]?=some (x.1,x.2.1,l):=λl=>by
  rw[lG,ad rfl,ad (by rw[Is.len];exact oG)]
 refine cU [0,1,2,8,85,86] [148008] (λ(k:Nat) tm m=>k<=N+1/\tm 87=.I (.int .i64 k)/\kD mem go N (gp.set r (x.1,x.2.1,(x.2.2.take k).map (λf=>(fE f ((f1,f2),(f3,f4))).1)++x.2.2.drop k)) ((x.2.2.take k).any λf=>(fE f ((f1,f2),(f3,f4))).2 != 0) m) (λk=>N+1-k) 0 (by
  refine⟨fm _,aiN,?_⟩;have e:gp.set r (x.1,x.2.1,(x.2.2.take 0).map (λf=>(fE f ((f1,f2),(f3,f4))).1)++x.2.2.drop 0)=gp:=Zg uQ;rw[e];exact gO) ?_
 intro vs ms aJ aH;simp only[go_sem,go_sem_proc,bw,av,aB,df,aiL,aiM,em] at aJ aH;subst aJ aH;clear bw av aB df aiL aiM aiN em gO tm m;rintro k tm m L hm ⟨Zp,aiO,gO⟩;simp only[go_sem,go_sem_proc,bk] at L hm;obtain⟨ax,G,J,cu,aiP,aiQ⟩:=L
 have fv:((x.2.2.take k).map (λf=>(fE f ((f1,f2),(f3,f4))).1)++x.2.2.drop k).length=N+1:=by
  rw[fX,aE,gv,nE];omega
 have Fp:ka N (gp.set r (x.1,x.2.1,(x.2.2.take k).map (λf=>(fE f ((f1,f2),(f3,f4))).1)++x.2.2.drop k)):=by
  refine Is.set uQ fv λf aC=>?_;rw[jb] at aC;rcases aC with aC|aC
  ·obtain⟨hh,-,rfl⟩:=fO.1 aC;exact QU _ _
  ·exact xK f (Lp aC)
 have qo:=awg ((x.2.2.take k).map (λf=>(fE f ((f1,f2),(f3,f4))).1)++x.2.2.drop k);rcases dc (k<N+1) with Zq|awh
 ·obtain⟨⟨⟨cE,cO⟩,⟨ei,eS⟩⟩,uO⟩:∃f,x.2.2[k]?=some f:=⟨_,bq (by omega)⟩;have Zj:=(av2 (λf=>(fE f ((f1,f2),(f3,f4))).1) (l:=x.2.2) (k:=k)).trans uO;have hV:=av1 (λf=>(fE f ((f1,f2),(f3,f4))).1) uO
  have w4:(x.2.2.take (k+1)).any (λf=>(fE f ((f1,f2),(f3,f4))).2 != 0)=((x.2.2.take k).any (λf=>(fE f ((f1,f2),(f3,f4))).2 != 0)||(fE ((cE,cO),(ei,eS)) ((f1,f2),(f3,f4))).2 != 0):=by
   rw[gB,uO,List.any_append];simp
  obtain⟨awi,awj⟩:=xK _ (dn uO);generalize (x.2.2.take k).map (λf=>(fE f ((f1,f2),(f3,f4))).1)++x.2.2.drop k=cur at *;generalize ((x.2.2.take k).any λf=>(fE f ((f1,f2),(f3,f4))).2 != 0)=mw at *;have xH:=gO.1.m;have zh:=gO.1.o;have awk:=gO.1.r _ (dn qo);have kE:m 168004=none:=(gO.2 _ Zh).trans C2;have lH:m 168006=none:=(gO.2 _ Zi).trans C3;have t1:=Io (N:=N) qo;have t2:=Fl (N:=N) (rows:=gp.set r (x.1,x.2.1,cur)) (i:=r) (by rw[Fp.len];exact oG);have t3:=A8 Zj;have t4:=wc (l:=cur) (k:=k) (by omega);have xI:decide ((k:Int)<((N+1:Nat):Int))=true:=cT;have hw:=ec (i:=k) (by omega);generalize qe:fE ((cE,cO),(ei,eS)) ((f1,f2),(f3,f4))=V at *;obtain⟨⟨⟨v1,v2⟩,⟨iz,v4⟩⟩,uC⟩:=V;dsimp only at hV w4;have t5:=C1 (l:=cur) (k:=k) (by omega) v1 v2 iz v4;refine ak ?_;repeat' (intro h<;>simp only[h,go_sem,go_sem_proc,zg,zj,ax,G,J,cu,aiP,aiQ,aiO,hm,xH,zh,awk,kE,lH,t1,t2,t3,t4,t5,xI,Zq,oG,hw,qe,awi,awj,iI.1,iI.2,cG,ar,dY,A4,uP,mx,decide_true,decide_false,aiJ,ne_eq,not_false_eq_true,and_self]<;>try refine ai ?_ ?_)
  have av:=kD.set Fp qo (cur.set k ((v1,v2),(iz,v4))) (((gO.own (k:=148010) (g:=fN (m 148010)) (cs:=[R.I (Data.int IntKind.i64 0),R.nil,R.I (Data.int IntKind.i64 0),R.nil]) (.inr (.inl rfl))).own (k:=148010) (g:=fN (m 148010)) (cs:=[R.I (Data.int IntKind.i64 cE),R.I (Data.X (nR ae cO)),R.I (Data.int IntKind.i64 ei),R.I (Data.X (nR ae eS))]) (.inr (.inl rfl))).flag (mw||uC != 0));rw[aiK,hV] at av;refine⟨k+1,by omega,by omega,rfl,?_⟩
  show kD mem go N _ ((x.2.2.take (k+1)).any λf=>(fE f ((f1,f2),(f3,f4))).2 != 0) _;rw[w4,hV];exact av
 ·have aiR:k=N+1:=by omega
  have awl:(x.2.2.take k).map (λf=>(fE f ((f1,f2),(f3,f4))).1)++x.2.2.drop k=(g9 ((f1,f2),(f3,f4)) x.2.2).1:=by
   unfold g9;rw[dp (by omega),lO (by omega),gS]
  have awm:((x.2.2.take k).any λf=>(fE f ((f1,f2),(f3,f4))).2 != 0)=(g9 ((f1,f2),(f3,f4)) x.2.2).2:=by
   unfold g9;rw[dp (by omega)]
  rw[awl] at Fp gO;rw[awm] at gO;have xI:decide ((k:Int)<((N+1:Nat):Int))=false:=cl;refine ak ?_;repeat' (intro h<;>simp only[h,go_sem,go_sem_proc,ax,G,J,cu,aiP,aiQ,aiO,hm,xI]<;>try refine ai ?_ ?_)
  refine cZ _ _ ?_ ?_ ?_ Fp gO<;>simp only[dk,cp,if_false,ax,G,J]
theorem awn (T:bl)(C5:T KW=aQ QR)(zg:T Cm=CX A4)(zj:T Ep=aQ E1)(tr:T yQ=aQ AS)(rl:T xa=aQ y3)
  (go N:Nat) (rows:List dH) (r c:Nat) (en:Mem) (cM:ka N rows) (bY:A6 go N rows false en) (C2:en 168004=none) (C3:en 168006=none) (fK:N<=40) (iG:r<=c) (wh:c<N) :
  wp T y7.body (pQ y7.res λm mem'=>m=.I (.bool (h1 rows r c).1)/\kD en go N (h1 rows r c).2.1 (h1 rows r c).2.2 mem') ⟨lk [.ptr 129015 0 0,.I (.int .i64 r),.I (.int .i64 c)],en⟩:=by
 refine sV ?_;simp only[y7];simp only[go_sem,go_sem_proc];refine cU [0,1,2] [] (λ(i:Nat) tm mem=>r<=i/\i<=N/\(∀j y,r<=j->j<i->rows[j]?=some y->gP (cellOf y c)=true)/\tm 7=.I (.int .i64 i)/\mem=en) (λi=>N-i) r (by refine⟨cH _,by omega,λj y G J=>by omega,rfl,rfl⟩) ?_;intro vs ms aJ aH;simp only[go_sem,go_sem_proc] at aJ aH;subst aJ aH;rintro i tm mem L hm ⟨j7,Ma,a3,bV,rfl⟩;simp only[go_sem,go_sem_proc,bk] at L hm;obtain⟨ax,G,J⟩:=L;have xL:=bY.m;have Mb:=bY.o;have hlen:=cM.len;rcases dc (i<N) with az|b2
 ·have M:∃x,rows[i]?=some x:=⟨_,bq (by omega)⟩;obtain⟨x,M⟩:=M;obtain⟨vn,xK⟩:=cM.row x (dn M);have It:=bY.r x (dn M);have aC:∃f,x.2.2[c]?=some f:=⟨_,bq (by omega)⟩;obtain⟨⟨⟨f1,f2⟩,⟨f3,f4⟩⟩,aC⟩:=aC;have aiS:=Io (N:=N) M;have aiT:=Fl (N:=N) (rows:=rows) (i:=i) (by omega);have aiU:=A8 aC;have xM:=wc (l:=x.2.2) (k:=c) (by omega);have nf:=Zf aC;have fz:decide ((i:Int)<(N:Int))=true:=cT;have Fo:c<N+1:=by omega
  rcases mV:(f1==0)
  ·have Mc:findAt rows r c=i:=avX M j7 a3 (by rw[nf];exact mV);obtain⟨rk,my⟩:∃x,rows[r]?=some x:=⟨_,bq (by omega)⟩
   have jt:h1 rows r c=(false,ih (g9 ((f1,f2),(f3,f4)) x.2.2).1 r c 0 (((rows.set r x).set i rk).set r (x.1,x.2.1,(g9 ((f1,f2),(f3,f4)) x.2.2).1)) (g9 ((f1,f2),(f3,f4)) x.2.2).2):=by
    unfold h1 A7;rw[ag (by omega),Mc];have:rowAt (m1 rows r i) r=x:=tq (by unfold m1;rw[tq M,tq my];exact L5 M my);rw[this,nf];unfold m1;rw[tq M,tq my]
   rw[jt];clear jt;have Is:ka N ((rows.set r x).set i rk):=cM.swap my M;have awo:kD mem go N ((rows.set r x).set i rk) false _:=kD.swap my M ⟨bY,λ_ _=>rfl⟩;have uQ:((rows.set r x).set i rk)[r]?=some x:=L5 M my;have oG:r<N:=by omega
   have s1:=Io (N:=N) my;have s2:=Fl (N:=N) (rows:=rows) (i:=r) (by omega);have bK:=aiE (N:=N) (rows:=rows) (i:=r) (by omega) x;have bL:=Fl (N:=N) (rows:=rows.set r x) (i:=i) (by rw[jF];omega);have awp:=aiE (N:=N) (rows:=rows.set r x) (i:=i) (by rw[jF];omega) rk;have Zr:=Io (N:=N) uQ;have awq:=Fl (N:=N) (rows:=(rows.set r x).set i rk) (i:=r) (by rw[jF,jF];omega);generalize qx:(rows.set r x).set i rk=gp at *;have iI:=xK _ (dn aC);have aK5:decide ((i:Int)<(N:Int))=true:=fz;have awr:((i:Int)==(N:Int))=false:=by simp;omega
   simp only[go_sem,go_sem_proc,C5,ax,G,J,bV,xL,Mb,It,aiS,aiT,aiU,xM,az,fz,Fo,mV,dY,oG,s1,s2,bK,bL,awp,Zr,awq,awr];refine awf T zg zj go N r c mem C2 C3 fK oG gp Is x uQ f1 f2 f3 f4 iI _ _ (fN (mem 148008)) ?_ ?_ ?_ ?_ ?_ ?_ ?_ ?_ ((awo.own (.inl rfl)).own (.inl rfl)) ?_
   ·exact ax
   ·exact G
   ·exact J
   ·rfl
   ·rfl
   ·rfl
   ·rfl
   ·simp[a9]
   intro tm' m' ev cB dA pS wg;have xH:=wg.1.m
   have a8:(gp.set r (x.1,x.2.1,(g9 ((f1,f2),(f3,f4)) x.2.2).1))[r]?=some (x.1,x.2.1,(g9 ((f1,f2),(f3,f4)) x.2.2).1):=by
    rw[lG,ad rfl,ad (by rw[Is.len];exact oG)]
   simp only[go_sem,go_sem_proc,ev,xH];refine awc T C5 zg tr rl go N r c mem C2 C3 fK oG Fo _ pS x _ a8 _ _ _ ?_ ?_ ?_ ?_ ?_ ?_ wg ?_
   ·exact ev
   ·exact cB
   ·exact dA
   ·rfl
   ·rfl
   ·rfl
   intro Zs gG uN;refine ak ?_;repeat' (intro h<;>simp only[h,go_sem,go_sem_proc]<;>try refine ai ?_ ?_)
   exact⟨_,rfl,rfl,uN⟩
  ·have hw:=ec (i:=i) (by omega);refine ak ?_;repeat' (intro h<;>simp only[h,go_sem,go_sem_proc,C5,zg,ax,G,J,bV,xL,Mb,It,aiS,aiT,aiU,xM,az,fz,Fo,mV,hw,dY]<;>try refine ai ?_ ?_)
   refine⟨i+1,by omega,by omega,by omega,?_,rfl⟩
   intro j y aws vu aj
   by_cases kW:j=i
   ·subst kW;rw[M] at aj
    cases aj;rw[nf];exact mV
   ·exact a3 j y aws (by omega) aj
 ·have awt:i=N:=by omega
  subst awt;have fz:decide ((i:Int)<(i:Int))=false:=cl;have qy:=avY (rows:=rows) (r:=r) (c:=c) (by omega) (λj y aA aj=>a3 j y aA (by have:=(ej.1 aj).1;omega) aj);have aF:h1 rows r c=(true,rows,false):=by unfold h1;rw[ad qy]
  rw[aF];refine ak ?_;repeat' (intro h<;>simp only[h,go_sem,go_sem_proc,C5,zg,ax,G,J,bV,xL,Mb,fz,beq_self_eq_true]<;>try refine ai ?_ ?_)
  exact⟨_,rfl,rfl,bY,λ_ _=>rfl⟩
structure QY where
 go:Nat
 N:Nat
 rows:List dH
 r:Nat
 c:Nat
def Zt (a:QY)(mem:Mem):Prop:=ka a.N a.rows/\A6 a.go a.N a.rows false mem/\mem 168004=none/\mem 168006=none/\a.N<=40/\a.r<=a.c/\a.c<a.N
def Zu (a:QY)(mem:Mem):R->Mem->Prop:=λm mem'=>m=.I (.bool (h1 a.rows a.r a.c).1)/\kD mem a.go a.N (h1 a.rows a.r a.c).2.1 (h1 a.rows a.r a.c).2.2 mem'
def Md:List R->Mem->Option (R->Mem->Prop):=ze (λ(a:QY) args mem=>args=[.ptr 129015 0 0,.I (.int .i64 a.r),.I (.int .i64 a.c)]/\Zt a mem) Zu
theorem awu {N:Nat}{a b:List dH}(h:refsOf N a=refsOf N b):a.map (λx=>(x.1,x.2.1))=b.map λx=>(x.1,x.2.1):=by
 induction a generalizing b with
 |nil=>cases b with
  |nil=>rfl
  |cons y r=>simp[refsOf] at h
 |cons x a aN=>cases b with
  |nil=>simp[refsOf] at h
  |cons y b =>
   simp only[refsOf,ey,bk,R.ref.injEq] at h;have G:x.1=y.1:=by have:=h.1.1;simp only[Key] at this;omega
   simp only[ey,bk,fS];exact⟨⟨G,h.1.2.1⟩,aN h.2⟩
theorem awv (a:QY)(mem:Mem)(h:Zt a mem):Md [.ptr 129015 0 0,.I (.int .i64 a.r),.I (.int .i64 a.c)] mem=some (Zu a mem):=by
 unfold Md;refine avR (a:=a) ?_ ⟨rfl,h⟩;rintro a b args mem ⟨G,J,af,_⟩ ⟨aT,bx,b0,_⟩;rw[G] at aT;simp only[bk,R.I.injEq,Data.int.injEq,true_and,and_true] at aT;have hm:=af.m;rw[b0.m] at hm;simp only[cL,fS,bk,R.ref.injEq,true_and,and_true] at hm;obtain⟨⟨bz,aM⟩,-⟩:=hm;have bS:=af.o;rw[b0.o] at bS;simp only[cL,fS] at bS;obtain⟨eM,aK6,Zv,cE,cO⟩:=a;obtain⟨aK7,aK8,Zw,c0,ee⟩:=b;dsimp only at *;subst bz aM
 have Y:Zw=Zv:=by
  have bV:=awu bS.2;have aw:(D Zw)=D Zv:=by have:=congrArg D bV;simpa using this
  apply List.ext_getElem aw;intro i oc rP;have cu:(Zw.map λx=>(x.1,x.2.1))[i]?=(Zv.map λx=>(x.1,x.2.1))[i]?:=by rw[bV]
  rw[bj,bj,bq oc,bq rP] at cu;simp only[lu,cL,fS] at cu;have eF:=b0.r _ (lq oc);have eU:=af.r _ (lq rP);rw[cu.1,eU] at eF;simp only[cL,fS] at eF;have:=avW eF.2;exact dN cu.1 (dN cu.2 this.symm)
 subst Y;have av:cE=c0:=by omega
 have aB:cO=ee:=by omega
 subst av aB
 rfl
theorem aww {args:List R}{mem:Mem}{bU:R->Mem->Prop}(h:Md args mem=some bU):∃a,args=[.ptr 129015 0 0,.I (.int .i64 a.r),.I (.int .i64 a.c)]/\Zt a mem/\bU=Zu a mem:=by
 obtain⟨a,⟨G,J⟩,af⟩:=QQ h;exact⟨a,G,J,af⟩
theorem Me (l:List a7):((l.map ar).all λe=>D e==4)=true:=by simp[ar]
abbrev Zx:List a7->List Data:=λ(l:List a7)=>[.X (l.map ar)]
def QZ:=cn Zx λ(l:List a7)=>cN (D l<=1000000) (.own 4 (l.map ar))
theorem awx:∀a b,Zx a=Zx b->a=b:=by
  intro ed aa h;exact map_inj np _ _ (by simpa using h)
@[go_sem] theorem aK9 (l:List a7)(H:(D l)<=1000000):QZ [.X (l.map ar)]=some (.own 4 (l.map ar)):=(cz awx l).trans (cX H _)
theorem awy (T:bl)  (l:List a7) (H:(D l)<=1000000):WP T V5 (.own 4 (l.map ar)) [.I (.X (l.map ar))]:=by
 refine cD ?_;simp only[V5]
 have dv:kS 147005 0 4 0 64 (D l) ((l.map ar).flatten.map .I) (some (0,[]))=some (.ref 147005 1 4 0 (D l),some (147005,1,aV ar l)):=by
  have:=Ci iT v5 147005 0 64 [] l (by simp;omega) (by simp;omega)
  simpa [aV] using this
 have hlen:(aV ar l).length=D l*4:=kX iT l;refine ak ?_;repeat' (intro h<;>simp only[h,go_sem,go_sem_proc,Me,dv,aE]<;>try refine ai ?_ ?_)
 rintro b ah
 cases b
 ·refine ak ?_;repeat' (intro h<;>simp only[h,go_sem,go_sem_proc,Me,dv,aE,uc,hlen]<;>try refine ai ?_ ?_)
  rw[ad (by omega),dp (by omega)];unfold aV;rw[Ef _ λd=>rfl];have:=Cj (sz:=4) (l.map ar) (by intro e he;obtain⟨f,-,rfl⟩:=fO.1 he;rfl);rw[aE] at this;simp[this]
 ·cases l with
  |nil =>
       refine ak ?_;repeat' (intro h<;>simp only[h,go_sem,go_sem_proc,uc,cC]<;>try refine ai ?_ ?_)
  |cons x r=>simp at ah
def hi (rs:List b9):List dH:=rs.zipIdx.map λp=>(p.2,0,p.1.1++[p.1.2])
theorem Fq (rs:List b9):(hi rs).length=D rs:=by simp[hi]
theorem aiV {rs:List b9}{i:Nat}{r:b9}(h:rs[i]?=some r):(hi rs)[i]?=some (i,0,r.1++[r.2]):=by
 unfold hi;rw[bj,Q0,h];simp
theorem Zy {rs:List b9}{i:Nat}{r:b9}(h:rs[i]?=some r):(hi rs).take (i+1)=(hi rs).take i++[(i,0,r.1++[r.2])]:=by
 rw[gB,aiV h]
 rfl
theorem awz {rs:List b9}{i:Nat}{x:dH}(h:x∈(hi rs).take i):x.1<i/\x.2.1=0:=by
 obtain⟨j,aA⟩:=yJ.1 h;rw[List.getElem?_take] at aA
 split at aA
 ·rename_i kW;unfold hi at aA;rw[bj,Q0] at aA
  cases Y:rs[j]? with
  |none=>rw[Y] at aA;cases aA
  |some r =>
   rw[Y] at aA;simp only[lu,cL] at aA;subst aA;exact⟨by simpa using kW,rfl⟩
 ·cases aA
theorem awA (N:Nat)(a b:List dH):refsOf N (a++b)=refsOf N a++refsOf N b:=by simp[refsOf]
theorem Iu (N:Nat)(a:List dH):(refsOf N a).length=D a:=by simp[refsOf]
structure A9 (N:Nat) (rs:List b9) (i go:Nat) (mem:Mem):Prop where
 z:i=0->mem 129015=some (0,[.nil,.I (.int .i64 N),.I (.bool false)])
 p:0<i->mem 129015=some (0,[.ref 129035 go 1 0 i,.I (.int .i64 N),.I (.bool false)])/\mem 129035=some (go,refsOf N ((hi rs).take i))
 r:∀x∈(hi rs).take i,mem (x.1+900000)=some (x.2.1,aV ar x.2.2)
 n:∀j:Nat,i<=j->mem (j+900000)=none
 a:mem 168004=none
 b:mem 168006=none
theorem aiW (l:List a7):(l.map ar).flatten.map R.I=aV ar l:=rfl
theorem awB (bE:Nat)(l:List a7)(v1:Int)(v2:List Int)(iz:Int)(v4:List Int)(h:(D l)<=1000000):kS 129029 bE 4 (D l) 64 1 [.I (.int .i64 v1),.I (.X (v2.map ae)),.I (.int .i64 iz),.I (.X (v4.map ae))] (some (bE,aV ar l))=some (.ref 129029 (bE+1) 4 0 (D l+1),some (129029,bE+1,aV ar (l++[((v1,v2),(iz,v4))]))) :=
 jm iT v5 129029 bE 64 l ((v1,v2),(iz,v4)) rfl (by omega) (by omega)
theorem awC (N bE i g:Nat)(a:List dH)(Q:(D a)=i)(h:i<=1000)(m:R)(hm:m=.ref 129029 g 4 0 (N+1)):kS 129035 bE 1 i 24 1 [m] (some (bE,refsOf N a))=some (.ref 129035 (bE+1) 1 0 (i+1),some (129035,bE+1,refsOf N a++[m])):=by
 subst hm;unfold kS;dsimp only;rw[ad ⟨rfl,by rw[Iu];omega,by omega,by unfold maxLen;omega,rfl⟩,dp (by rw[Iu];omega)]
theorem awD {N i go go' bE:Nat}{rs:List b9}{r:b9}{m m':Mem}(ah:A9 N rs i go m)(Y:rs[i]?=some r)(yZ:m' 129015=some (0,[.ref 129035 go' 1 0 (i+1),.I (.int .i64 N),.I (.bool false)]))(aC:∀k:Nat,900000<=k\/k=168004\/k=168006->m' k=m k):
  A9 N rs (i+1) go' (a9 (a9 (a9 m' 129029 (cy m' 129029) []) (i+900000) (cy m' (i+900000)) (aV ar (r.1++[r.2]))) 129035 go' ((refsOf N ((hi rs).take i)++[R.ref 129029 bE 4 0 (N+1)]).set i (R.ref (i+900000) (cy m' (i+900000)) 4 0 (N+1)))):=by
 have az:=(ej.1 Y).1
 have bz:cy m' (i+900000)=0:=by
  unfold cy;rw[aC _ (.inl (by omega)),ah.n i (cH _)]
 have m2:(refsOf N ((hi rs).take i)).length=i:=by rw[Iu,gv,Fq];omega
 rw[bz]
 have kF:(refsOf N ((hi rs).take i)++[R.ref 129029 bE 4 0 (N+1)]).set i (.ref (i+900000) 0 4 0 (N+1))=refsOf N ((hi rs).take (i+1)):=by
  rw[zf _ _ (by omega),m2,jy,mx,Zy Y,awA]
  rfl
 rw[kF];have Mf:∀(k:Nat),k≠129029->k≠129035->k≠i+900000->a9 (a9 (a9 m' 129029 (cy m' 129029) []) (i+900000) 0 (aV ar (r.1++[r.2]))) 129035 go' (refsOf N ((hi rs).take (i+1))) k=m' k:=λk G J af=>by simp[a9,G,J,af]
 refine⟨λh=>by omega,λ_=>⟨by rw[Mf _ (by omega) (by omega) (by omega)];exact yZ,by simp[a9]⟩,λx M=>?_,λj aA=>?_,?_,?_⟩
 ·rw[Zy Y,jb,xk] at M;rcases M with M|rfl
  ·obtain⟨pD,uy⟩:=awz M;rw[Mf _ (by omega) (by omega) (by omega),aC _ (.inl (by omega))];exact ah.r x M
  ·have J:(i+900000:Nat)≠129035:=by omega
   simp[a9]
 ·rw[Mf _ (by omega) (by omega) (by omega),aC _ (.inl (by omega))];exact ah.n j (by omega)
 ·rw[Mf _ (by omega) (by omega) (by omega),aC _ (.inr (.inl rfl))];exact ah.a
 ·rw[Mf _ (by omega) (by omega) (by omega),aC _ (.inr (.inr rfl))];exact ah.b
theorem aiX {K:bo->Prop}{tm:Nat->R}{N i go:Nat}(go' bE:Nat){rs:List b9}{r:b9}{m m':Mem}(ah:A9 N rs i go m)(Y:rs[i]?=some r)(yZ:m' 129015=some (0,[.ref 129035 go' 1 0 (i+1),.I (.int .i64 N),.I (.bool false)]))
  (Q1:m' 129035=some (go',refsOf N ((hi rs).take i)++[.ref 129029 bE 4 0 (N+1)])) (Q2:m' 129029=some (bE,aV ar (r.1++[r.2]))) (aC:∀k:Nat,900000<=k\/k=168004\/k=168006->m' k=m k) (h:∀bn,A9 N rs (i+1) go' bn->K ⟨tm,bn⟩):kn K ⟨tm,m'⟩ .move:=by
 have az:=(ej.1 Y).1;have m2:(refsOf N ((hi rs).take i)).length=i:=by rw[Iu,gv,Fq];omega
 exact arF 129035 i 129029 (i+900000) Q1 (by rw[nc (by omega),m2,jy];rfl) Q2 (by omega) (show (i+900000:Nat)≠129029 by omega) (show (i+900000:Nat)≠129035 by omega) (h _ (awD ah Y yZ aC))
theorem l4 {m:Mem}{k g:Nat}{cs:List R}{j:Nat}(h:j≠k):a9 m k g cs j=m j:=ag h
theorem awE (T:bl)(zk:T Pm=aQ QZ){K:eI->bo->Prop}{kk:List fJ}(N:Nat)(rs:List b9)(stop:Bool)(fK:N<=40)(hlen:(D rs)=N)(w6:∀r∈rs,r.1.length=N/\k8 r)(tm:Nat->R)(m:Mem)
  (av:tm 1=.I (.int .i64 N)) (aB:tm 2=.I (.bool stop)) (df:tm 8=.ptr 129015 0 0) (uR:tm 16=.I (.X (rs.map de))) (o7:tm 17=.I (.int .i64 N)) (C6:tm 18=.I (.int .i64 0)) (ah:A9 N rs 0 0 m)
  (cZ:∀tm' m' go,tm' 1=.I (.int .i64 N)->tm' 2=.I (.bool stop)->tm' 8=.ptr 129015 0 0->A9 N rs N go m'->cd T K kk (.exit 0) ⟨tm',m'⟩) :
  wp T (LR.body.sub [1,1,0,1,0]) (cd T K kk) ⟨tm,m⟩:=by
 simp only[LR,er.sub];refine cU [1,2,8,16,17] [] (λ((i,go):Nat×Nat) tm m=>i<=N/\tm 18=.I (.int .i64 i)/\A9 N rs i go m) (λ(i,_)=>N-i) (0,0) (by exact⟨fm _,C6,ah⟩) ?_;intro vs ms aJ aH;simp only[go_sem,go_sem_proc,av,aB,df,uR,o7] at aJ aH;subst aJ aH;clear av aB df uR o7 C6 ah tm m;rintro⟨i,go⟩ tm m L hm ⟨Ma,nJ,ah⟩;simp only[go_sem,go_sem_proc,bk] at L hm;obtain⟨G,J,cu,uz,nm⟩:=L;rcases dc (i<N) with az|b2
 ·obtain⟨⟨A,⟨v1,v2⟩,⟨iz,v4⟩⟩,Y⟩:∃r,rs[i]?=some r:=⟨_,bq (by omega)⟩;obtain⟨si,⟨aiY,pU⟩,uS,mu⟩:=w6 _ (dn Y);dsimp only at si aiY pU uS mu;have lY:decide ((i:Int)<(N:Int))=true:=cT;have hw:=ec (i:=i) (by omega);have dv:∀bE,kS 129029 bE 4 N 64 1 _ _=_:=λbE=>si ▸ awB bE A v1 v2 iz v4 aiY;have aiZ:N<=1000000:=by omega
  have iv:(1<=maxLen)=True:=eq_true (by unfold maxLen;omega);have aLa:=Zy Y;have m2:((hi rs).take i).length=i:=by rw[gv,Fq];omega
  rcases ko i with ax|iF
  ·have xL:=ah.z ax;refine ak ?_;repeat' (intro h<;>simp only[h,go_sem,go_sem_proc,zk,G,J,cu,uz,nm,nJ,xL,lY,Y,hw,aiZ,si,dv,iv,aiW,aE,bj,de,ar,decide_true,decide_false,ne_eq,not_false_eq_true,and_self]<;>try refine ai ?_ ?_)
   refine aiX (fN (m 129035)) (fN (m 129029)+1) ah Y (by simp[a9,ax]) (by simp[a9,ax,refsOf]) (by simp[a9]) (λk L=>?_) λbn kp=>?_
   ·rw[l4 (by omega),l4 (by omega),l4 (by omega),l4 (by omega),l4 (by omega),l4 (by omega),l4 (by omega)]
   ·refine ak ?_;repeat' (intro h<;>simp only[h,go_sem,go_sem_proc,G,J,cu,uz,nm,nJ,hw]<;>try refine ai ?_ ?_)
    exact⟨(i+1,fN (m 129035)),by dsimp only;omega,by dsimp only;omega,rfl,kp⟩
  ·obtain⟨xL,Mb⟩:=ah.p iF;have awF:=awC N go i (fN (m 129029)+1) ((hi rs).take i) m2 (by omega) _ rfl;refine ak ?_;repeat' (intro h<;>simp only[h,go_sem,go_sem_proc,zk,G,J,cu,uz,nm,nJ,xL,Mb,lY,Y,hw,aiZ,si,dv,awF,aiW,aE,bj,de,ar,decide_true,decide_false,ne_eq,not_false_eq_true,and_self]<;>try refine ai ?_ ?_)
   refine aiX (go+1) (fN (m 129029)+1) ah Y (by simp[a9]) (by simp[a9]) (by simp[a9]) (λk L=>?_) λbn kp=>?_
   ·rw[l4 (by omega),l4 (by omega),l4 (by omega),l4 (by omega),l4 (by omega),l4 (by omega),l4 (by omega)]
   ·refine ak ?_;repeat' (intro h<;>simp only[h,go_sem,go_sem_proc,G,J,cu,uz,nm,nJ,hw]<;>try refine ai ?_ ?_)
    exact⟨(i+1,go+1),by dsimp only;omega,by dsimp only;omega,rfl,kp⟩
 ·have lY:decide ((i:Int)<(N:Int))=false:=cl;obtain rfl:i=N:=by omega
  refine ak ?_;repeat' (intro h<;>simp only[h,go_sem,go_sem_proc,G,J,cu,uz,nm,nJ,lY]<;>try refine ai ?_ ?_)
  refine cZ _ _ go ?_ ?_ ?_ ah<;>simp only[dk,cp,if_false,G,J,cu]
def kG (stop:Bool):Nat->Nat->List dH->List Nat->Bool->List dH×List Nat×Bool
 |0,_,rows,free,bad=>(rows,free,bad)
 |_+1,_,rows,free,true=>(rows,free,true)
 |k+1,c,rows,free,false =>
  if (h1 rows (c-D free) c).1=true then
   (if stop=true then ((h1 rows (c-D free) c).2.1,free++[c],(h1 rows (c-D free) c).2.2) else kG stop k (c+1) (h1 rows (c-D free) c).2.1 (free++[c]) (h1 rows (c-D free) c).2.2)
  else kG stop k (c+1) (h1 rows (c-D free) c).2.1 free (h1 rows (c-D free) c).2.2
theorem Q3 (stop:Bool)(k c:Nat)(rows:List dH)(free:List Nat):kG stop k c rows free true=(rows,free,true):=by
 cases k<;>rfl
def hj (n:Nat):List Data:=[.int .i64 n]
theorem uT (n:Nat):(hj n).length=1:=rfl
theorem ai0 (n:Nat):((hj n).map R.I).all R.one=true:=rfl
def Zz (N:Nat)(rows:List dH)(bad:Bool):Data:=.ptr [.X (rows.map λx=>[.X (x.2.2.map ar)]),.int .i64 N,.bool bad]
def Iv (N:Nat)(p:List dH×List Nat×Bool):Data:=.c1 [Zz N p.1 p.2.2,.X (p.2.1.map hj)]
theorem Q4 (fU:List a7)(r c:Nat):∀(i:Nat) (l:List dH) (b:Bool),(ih fU r c i l b).1.map (λx=>(x.1,x.2.1,x.2.2.length))=l.map λx=>(x.1,x.2.1,x.2.2.length)
 |_,[],_=>rfl
 |i,x::xs,b=>by
  unfold ih
  split
  ·simp only[ey,Q4 fU r c (i+1) xs b]
  ·simp only[ey,Q4 fU r c (i+1) xs,aiF]
theorem ai1 (fA:a7):∀(l p:List a7) (b:Bool),(∀f∈l,okF f)->∀f∈(h0 fA l p b).1,okF f
 | [],p,b,h=>by rw[aiG];exact h
 |f::eh,[],b,h=>by cases b<;>(simp only[h0];exact h)
 |f::eh,p::dP,true,h=>by simp only[h0];exact h
 |f::eh,p::dP,false,h=>by
  simp only[h0];intro g bz;rcases lS.1 bz with rfl|bz
  ·exact Ze _ _
  ·exact ai1 fA eh dP _ (λx M=>h x (hO _ M)) g bz
theorem ZA (fU:List a7)(r c:Nat):∀(i:Nat) (l:List dH) (b:Bool),(∀x∈l,∀f∈x.2.2,okF f)->∀x∈(ih fU r c i l b).1,∀f∈x.2.2,okF f
 |_,[],_,h=>h
 |i,x::xs,b,h=>by
  unfold ih
  split
  ·intro y aj;rcases lS.1 aj with rfl|aj
   ·exact h _ g3
   ·exact ZA fU r c (i+1) xs b (λz a3=>h z (hO _ a3)) y aj
  ·intro y aj;rcases lS.1 aj with rfl|aj
   ·exact ai1 _ _ _ _ (h _ g3)
   ·exact ZA fU r c (i+1) xs _ (λz a3=>h z (hO _ a3)) y aj
theorem ai2 (rows:List dH)(r c:Nat)(Y:r<=D rows):r<=findAt rows r c/\findAt rows r c<=D rows:=by
 unfold findAt;have:=ai3 (p:=λx => !gP (cellOf x c)) (xs:=rows.drop r);rw[nE] at this;omega
theorem ka.Fs {N:Nat}{rows:List dH}(h:ka N rows){r c:Nat}(Y:r<N):ka N (h1 rows r c).2.1:=by
 unfold h1
 split
 ·exact h
 ·rename_i b6;have iI:=ai2 rows r c (by rw[h.len];omega);have aw:=h.len;obtain⟨x,M⟩:∃x,rows[findAt rows r c]?=some x:=⟨_,bq (by omega)⟩;obtain⟨rk,my⟩:∃x,rows[r]?=some x:=⟨_,bq (by omega)⟩
  have qx:ka N (m1 rows r (findAt rows r c)):=by
   unfold m1;rw[tq M,tq my];exact h.swap my M
  have uQ:(m1 rows r (findAt rows r c))[r]?=some x:=by
   unfold m1;rw[tq M,tq my];exact L5 M my
  generalize m1 rows r (findAt rows r c)=gp at *;obtain⟨vn,xK⟩:=qx.row x (dn uQ)
  have ow:ka N (A7 gp r c):=by
   unfold A7;rw[tq uQ];refine qx.set uQ (by simp[g9,vn]) λf aC=>?_;obtain⟨g,-,rfl⟩:=fO.1 aC;exact QU _ _
  generalize A7 gp r c=e3 at *;have pC:=Q4 (g9 (cellOf (rowAt gp r) c) (rowAt gp r).2.2).1 r c 0 e3 (g9 (cellOf (rowAt gp r) c) (rowAt gp r).2.2).2;have cM:=ZA (g9 (cellOf (rowAt gp r) c) (rowAt gp r).2.2).1 r c 0 e3 (g9 (cellOf (rowAt gp r) c) (rowAt gp r).2.2).2 λx M=>(ow.row x M).2;dsimp only;generalize (ih (g9 (cellOf (rowAt gp r) c) (rowAt gp r).2.2).1 r c 0 e3 (g9 (cellOf (rowAt gp r) c) (rowAt gp r).2.2).2).1=el at *;refine⟨?_,?_,λy aj=>⟨?_,cM y aj⟩⟩
  ·have:=congrArg D pC;rw[aE,aE] at this;rw[this,ow.len]
  ·have G:el.map (·.1)=e3.map (·.1):=by
    have:=congrArg (nR λp:Nat×Nat×Nat=>p.1) pC
    simpa [oj,Function.comp_def] using this
   rw[G];exact ow.QT
  ·have G:el.map (λx=>x.2.2.length)=e3.map λx=>x.2.2.length:=by
    have:=congrArg (nR λp:Nat×Nat×Nat=>p.2.2) pC
    simpa [oj,Function.comp_def] using this
   have J:y.2.2.length∈e3.map λx=>x.2.2.length:=by rw[<-G];exact fO.2 ⟨y,aj,rfl⟩
   obtain⟨z,a3,e⟩:=fO.1 J;rw[<-e];exact (ow.row z a3).1
theorem awG {n k g N:Nat}{mem:Mem}{l:List a7}(aw:(D l)=N+1)(hm:mem k=some (g,aV ar l)):dz (n+1) mem (.ref k g 4 0 (N+1))=some (.X (l.map ar)):=by
 rw[<-aw];exact jU iT hm
theorem awH {n N:Nat}{mem:Mem}{rows:List dH}(h:∀x∈rows,mem (x.1+900000)=some (x.2.1,aV ar x.2.2))(aw:∀x∈rows,x.2.2.length=N+1):(refsOf N rows).mapM (dz (n+1) mem)=some (rows.map λx => .X (x.2.2.map ar)):=by
 unfold refsOf
 induction rows with
 |nil=>rfl
 |cons x xs aN =>
  have G:=awG (n:=n) (aw x g3) (h x g3);have J:=aN (λy aj=>h y (hO _ aj)) λy aj=>aw y (hO _ aj);simp only[ey,ny,G,J]
  rfl
theorem ZB {n N go:Nat}{mem:Mem}{rows:List dH}{bad:Bool}(cM:ka N rows)(h:A6 go N rows bad mem):dz (n+3) mem (.ptr 129015 0 0)=some (Zz N rows bad):=by
 have G:=awH (n:=n) h.r λx M=>(cM.row x M).1
 have J:dz (n+2) mem (.ref 129035 go 1 0 N)=some (.X (rows.map λx=>[.X (x.2.2.map ar)])):=by
  unfold dz;rw[h.o];simp only[if_true];unfold cut;rw[ad (by rw[Iu,cM.len];omega),nD,dp (by rw[Iu,cM.len];omega)];dsimp only;rw[G];have:=Cj (sz:=1) (rows.map λx=>[Data.X (x.2.2.map ar)]) (by intro e he;obtain⟨x,-,rfl⟩:=fO.1 he;rfl);rw[aE,cM.len] at this;simp only[lu,cL,Data.X.injEq]
  have iI:∀l:List dH,(l.map λx=>Data.X (x.2.2.map ar))=(l.map λx=>[Data.X (x.2.2.map ar)]).flatten:=by
   intro l
   induction l with
   |nil=>rfl
   |cons x xs aN=>simp only[ey,j1,aN];rfl
  rw[iI,this]
 unfold dz;rw[h.m];simp only[if_true,nD,ny,List.mapM_nil,J,true_and,fm];simp only[O8]
 rfl
theorem A9.awI {N go:Nat}{rs:List b9}{m:Mem}(aw:(D rs)=N)(fK:0<N)(h:A9 N rs N go m):A6 go N (hi rs) false m:=by
 have ca:(hi rs).take N=hi rs:=dp (by rw[Fq];omega);have aF:=h.p fK;rw[ca] at aF;exact⟨aF.1,aF.2,by have:=h.r;rw[ca] at this;exact this⟩
theorem A6.other {go N:Nat}{rows:List dH}{bad:Bool}{mem:Mem}{k g:Nat}{cs:List R}(h:A6 go N rows bad mem)(G:k≠129015)(J:k≠129035)(af:k<900000):A6 go N rows bad (a9 mem k g cs) :=
 ⟨(l4 (Ne.symm G)).trans h.m,(l4 (Ne.symm J)).trans h.o,λx M=>(l4 (show (x.1+900000:Nat)≠k by omega)).trans (h.r x M)⟩
theorem ai4 {N:Nat}{rs:List b9}(aw:(D rs)=N)(h:∀r∈rs,r.1.length=N/\k8 r):ka N (hi rs):=by
 refine⟨by rw[Fq,aw],?_,λx M=>?_⟩
 ·have:(hi rs).map (·.1)=eN (D rs):=by
   unfold hi;rw[oj];apply oR;intro i;rw[bj,Q0];rcases g2 i (D rs) with h|h
   ·rw[bq h];simp[h]
   ·rw[ja h];simp[h]
  rw[this];exact List.nodup_range
 ·unfold hi at M;obtain⟨⟨r,i⟩,aF,rfl⟩:=fO.1 M;have Y:=List.fst_mem_of_mem_zipIdx aF;obtain⟨G,J,af⟩:=h r Y;refine⟨by simp[G],λf aC=>?_⟩
  rw[jb,xk] at aC;rcases aC with aC|rfl
  ·exact J.2 f aC
  ·exact af
abbrev ZC:(List b9)×Int×Bool->List Data:=λ(rs,n,stop)=>[.X (rs.map de),.int .i64 n,.bool stop]
def Q5:=cn ZC λ(rs,n,stop)=>cN ((D rs:Int)=n/\D rs<=40/\∀r∈rs,r.1.length=D rs/\k8 r) (.same (Iv (D rs) (kG stop (D rs) 0 (hi rs) [] false)))
theorem awJ:∀a b,ZC a=ZC b->a=b:=by
  rintro⟨Qp,hK,awK⟩ ⟨Qq,iw,awL⟩ h;simp only[bk,Data.X.injEq,Data.int.injEq,Data.bool.injEq] at h;exact dN (map_inj CP _ _ h.1) (dN h.2.1.2 h.2.2.1)
@[go_sem] theorem awM (rs:List b9)(n:Int)(stop:Bool)(H:(D rs:Int)=n/\D rs<=40/\∀r∈rs,r.1.length=D rs/\k8 r):Q5 [.X (rs.map de),.int .i64 n,.bool stop]=some (.same (Iv (D rs) (kG stop (D rs) 0 (hi rs) [] false))):=(cz awJ (rs,n,stop)).trans (cX H _)
theorem awN (T:bl)(zk:T Pm=aQ QZ)(Ft:T U5=uL Md)(rs:List b9)(n:Int)(stop:Bool)(H:(D rs:Int)=n/\D rs<=40/\∀r∈rs,r.1.length=D rs/\k8 r):WP T LR (.same (Iv (D rs) (kG stop (D rs) 0 (hi rs) [] false))) [.I (.X (rs.map de)),.I (.int .i64 n),.I (.bool stop)]:=by
 refine cD ?_;simp only[LR];obtain⟨aM,fK,w6⟩:=H;subst aM;simp only[go_sem,go_sem_proc,aE];generalize ZD:(D rs)=N at *;refine awE T zk N rs stop fK ZD w6 _ _ rfl rfl rfl rfl rfl rfl ⟨λ_=>by simp[a9],λh=>by omega,λx M=>by simp at M,λj _=>l4 (show (j+900000:Nat)≠129015 by omega),l4 (by omega),l4 (by omega)⟩ ?_
 intro tm m go G J cu ah;rcases ko N with ax|iF
 ·have hZ:rs=[]:=List.eq_nil_of_length_eq_zero (by omega);have a3:=ah.z ax;subst ax;subst hZ;simp only[go_sem,go_sem_proc];refine cU [1,2,8] [129015] (λ(_:Unit) tm' m'=>tm' 11=.ref 129061 (fN (m 129061)) 1 0 0/\m' 129061=some (fN (m 129061),[])/\tm' 12=.I (.int .i64 0)) (λ_=>0) () (by refine⟨rfl,?_,rfl⟩;simp[a9]) ?_;intro vs ms aJ aH;simp only[go_sem,go_sem_proc,G,J,cu,a3] at aJ aH;subst aJ aH;rintro _ tm' m' L hm ⟨pI,Mg,mZ⟩;simp only[go_sem,go_sem_proc,bk] at L hm;obtain⟨cB,dA,jq⟩:=L;refine ak ?_;repeat' (intro (ay:_=_)<;>simp only[ay,go_sem,go_sem_proc,zk,Ft,cB,dA,jq,hm,pI,Mg,mZ,show decide ((0:Int)<((0:Nat):Int))=false from rfl,dz,yt,nD]<;>try refine ai ?_ ?_)
  rfl
 ·have Ba:=ah.awI ZD iF;have cM:=ai4 ZD w6;have Mh:=ah.a;have Mi:=ah.b;clear ah;simp only[go_sem,go_sem_proc]
  refine cU [1,2,8] [] (λ((c,rows,free,bad,g):Nat×List dH×List Nat×Bool×Nat) tm m=>c<=N/\D free<=c/\kG stop N 0 (hi rs) [] false=kG stop (N-c) c rows free bad/\ka N rows/\A6 go N rows bad m/\m 168004=none/\m 168006=none/\tm 11=.ref 129061 g 1 0 (D free)/\m 129061=some (g,aV hj free)/\tm 12=.I (.int .i64 c)) (λ(c,_,_,_,_)=>N-c) (0,hi rs,[],false,fN (m 129061)) (by
   refine⟨fm _,cH _,rfl,cM,⟨?_,?_,λx M=>?_⟩,?_,?_,rfl,?_,rfl⟩
   ·rw[l4 (by omega)];exact Ba.m
   ·rw[l4 (by omega)];exact Ba.o
   ·rw[l4 (show (x.1+900000:Nat)≠129061 by omega)];exact Ba.r x M
   ·rw[l4 (by omega)];exact Mh
   ·rw[l4 (by omega)];exact Mi
   ·simp[a9,aV]) ?_
  intro vs ms aJ aH;simp only[go_sem,go_sem_proc,G,J,cu] at aJ aH;subst aJ aH;clear G J cu Ba Mh Mi;rintro⟨c,rows,free,bad,g⟩ tm m L hm ⟨wh,aLb,ln,cM,Ba,Mh,Mi,pI,Mg,mZ⟩;simp only[go_sem,go_sem_proc,bk] at L hm;obtain⟨G,J,cu⟩:=L;have xL:=Ba.m
  have W0:kG stop N 0 (hi rs) [] false=(rows,free,bad)->((dz 5 m (.ptr 129015 0 0)).bind λd=>(dz 5 m (.ref 129061 g 1 0 (D free))).bind λe=>some (Data.c1 [d,e]))=some (Iv N (kG stop N 0 (hi rs) [] false)):=by
   intro h;rw[h,ZB (n:=2) cM Ba,jU uT Mg]
   rfl
  have uU:=ZB (n:=2) cM Ba;have rn:=jU (n:=4) uT Mg;rcases dc (c<N) with az|b2
  ·have fv:decide ((c:Int)<(N:Int))=true:=cT
   cases bad
   ·have s7:IntKind.i64.wrap ((c:Int)-(D free:Int))=((c-D free:Nat):Int):=by rw[fh _];omega
    have hz:=ec (i:=c) (by omega);have fC:=awv ⟨go,N,rows,c-D free,c⟩ m ⟨cM,Ba,Mh,Mi,fK,Nat.sub_le _ _,az⟩;dsimp only at fC;have ZE:N-c=(N-(c+1))+1:=by omega
    rw[ZE] at ln;simp only[kG] at ln;have ts:=cM.Fs (r:=c-D free) (c:=c) (by omega);simp only[go_sem,go_sem_proc,Ft,G,cu,pI,mZ,xL,fv,s7,fC];intro Fb m' hc;obtain⟨LX,gO⟩:=hc;dsimp only at LX gO;subst LX;have kE:m' 168004=none:=(gO.2 _ Zh).trans Mh;have lH:m' 168006=none:=(gO.2 _ Zi).trans Mi;have ZF:m' 129061=some (g,aV hj free):=(gO.2 129061 (by unfold Im;omega)).trans Mg;have dv:kS 129061 g 1 (D free) 8 1 [.I (.int .i64 c)] (some (g,aV hj free))=_:=jm uT ai0 129061 g 8 free c rfl (by omega) (by omega);generalize aLc:h1 rows (c-D free) c=da at *;obtain⟨awO,ai5,ai6⟩:=da;dsimp only at *
    cases awO
    ·simp only[j3,if_false] at ln;refine ak ?_;repeat' (intro (ay:_=_)<;>simp only[ay,go_sem,go_sem_proc,zk,Ft,G,J,cu,pI,mZ,hz]<;>try refine ai ?_ ?_)
     exact⟨(c+1,ai5,free,ai6,g),by dsimp only;omega,by dsimp only;omega,by dsimp only;omega,ln,ts,gO.1,kE,lH,rfl,ZF,rfl⟩
    ·simp only[if_true] at ln;have ai7:=gO.1.other (k:=129061) (g:=g+1) (cs:=aV hj (free++[c])) (by omega) (by omega) (by omega)
     cases stop
     ·simp only[j3,if_false] at ln;refine ak ?_;repeat' (intro (ay:_=_)<;>simp only[ay,go_sem,go_sem_proc,zk,Ft,G,J,cu,pI,mZ,hz,ZF,dv]<;>try refine ai ?_ ?_)
      exact⟨(c+1,ai5,free++[c],ai6,g+1),by dsimp only;omega,by dsimp only;omega,by simp;omega,ln,ts,ai7,kE,lH,by simp,rfl,rfl⟩
     ·simp only[if_true] at ln;refine ak ?_;repeat' (intro (ay:_=_)<;>simp only[ay,go_sem,go_sem_proc,zk,Ft,G,J,cu,pI,mZ,hz,ZF,dv]<;>try refine ai ?_ ?_)
      have zl:(D free)+1=(free++[c]).length:=by simp
      rw[ZB (n:=2) ts ai7,zl,jU (n:=4) uT (g:=g+1) (l:=free++[c]) (by simp[a9]),ln]
      rfl
   ·rw[Q3] at ln;refine ak ?_;repeat' (intro (ay:_=_)<;>simp only[ay,go_sem,go_sem_proc,zk,Ft,G,J,cu,pI,mZ,xL,fv,uU,rn]<;>try refine ai ?_ ?_)
    rw[ln]
    rfl
  ·have fv:decide ((c:Int)<(N:Int))=false:=cl;have ZE:N-c=0:=by omega
   rw[ZE] at ln;simp only[kG] at ln;refine ak ?_;repeat' (intro (ay:_=_)<;>simp only[ay,go_sem,go_sem_proc,zk,Ft,G,J,cu,pI,mZ,xL,fv,uU,rn]<;>try refine ai ?_ ?_)
   rw[ln]
   rfl
theorem Q6 {rs:List b9}{n:Int}(bS:kz rs)(h:ig rs n=true):(D rs:Int)=n/\D rs<=40/\∀r∈rs,r.1.length=D rs/\k8 r:=by
 unfold ig at h;simp only[fw,Bool.not_eq_true',decide_eq_false_iff_not,beq_iff_eq] at h;obtain⟨G,J,af,aT⟩:=h;refine⟨af,by omega,λr Y=>⟨?_,bS.2 r Y⟩⟩
 rw[wi] at aT;have:=aT r Y;unfold kA at this;simp at this;omega
theorem ZG {stop:Bool}{N:Nat}:∀(k c:Nat) (rows:List dH) (free:List Nat) (bad:Bool),c+k=N->ka N rows->ka N (kG stop k c rows free bad).1
 |0,_,rows,_,_,_,h=>h
 |k+1,c,rows,free,true,H,h=>h
 |k+1,c,rows,free,false,H,h=>by
  have aF:=h.Fs (r:=c-D free) (c:=c) (by omega);unfold kG
  split
  ·split
   ·exact aF
   ·exact ZG k (c+1) _ _ _ (by omega) aF
  ·exact ZG k (c+1) _ _ _ (by omega) aF
def oH (stop:Bool)(rs:List b9):List dH×List Nat×Bool:=kG stop (D rs) 0 (hi rs) [] false
theorem ZH (stop:Bool):∀(k c:Nat) (rows:List dH) (free:List Nat) (bad:Bool),(kG stop k c rows free bad).2.1.length<=D free+k
 |0,_,_,_,_=>by simp[kG]
 |k+1,c,rows,free,true=>by simp[kG]
 |k+1,c,rows,free,false=>by
  unfold kG
  split
  ·split
   ·simp
   ·have:=ZH stop k (c+1) (h1 rows (c-D free) c).2.1 (free++[c]) (h1 rows (c-D free) c).2.2;simp at this;omega
  ·have:=ZH stop k (c+1) (h1 rows (c-D free) c).2.1 free (h1 rows (c-D free) c).2.2;omega
theorem awP (stop:Bool)(rs:List b9):(oH stop rs).2.1.length<=D rs:=by
 have:=ZH stop (D rs) 0 (hi rs) [] false;unfold oH
 simpa using this
theorem awQ {rs:List b9}{stop:Bool}(h:∀r∈rs,r.1.length=D rs/\k8 r):ka (D rs) (oH stop rs).1:=ZG _ _ _ _ _ (by omega) (ai4 rfl h)
def uV (N:Nat)(x:dH):a7:=x.2.2.getD N dD
def o8 (rs:List b9)(n:Int):List a7×Int :=
 if ig rs n=true then (if (oH true rs).2.2=true then ([],6) else if (oH true rs).2.1.length>0 then ([],17) else ((oH true rs).1.map (uV (D rs)),0)) else ([],1)
theorem awR {N:Nat}{x:dH}{f:a7}(h:x.2.2[N]?=some f):uV N x=f:=by
 unfold uV;rw[ep,h]
 rfl
def ZI:=cn H2 λ(rs,n)=>cN (kz rs) (.same (.c1 [.X ((o8 rs n).1.map ar),.int .i64 (o8 rs n).2]))
@[go_sem] theorem awS (rs:List b9)(n:Int)(H:kz rs):ZI [.X (rs.map de),.int .i64 n]=some (.same (.c1 [.X ((o8 rs n).1.map ar),.int .i64 (o8 rs n).2])):=(cz Qr (rs,n)).trans (cX H _)
theorem awT (T:bl)(Iw:T UT=aQ X5)(Ix:T UZ=aQ Q5)(rs:List b9)(n:Int)(H:kz rs):WP T XL (.same (.c1 [.X ((o8 rs n).1.map ar),.int .i64 (o8 rs n).2])) [.I (.X (rs.map de)),.I (.int .i64 n)]:=by
 refine cD ?_;simp only[XL];unfold o8;rcases Y:ig rs n
 ·refine ak ?_;repeat' (intro h<;>simp only[h,go_sem,go_sem_proc,Iw,Ix,H,Y,cC]<;>try refine ai ?_ ?_)
 ·have cM:=awQ (stop:=true) (Q6 H Y).2.2;have dG:Q5 [.X (rs.map de),.int .i64 n,.bool true]=some (.same (Iv (D rs) (oH true rs))):=awM rs n true (Q6 H Y);have iI:=awP true rs;obtain⟨aM,fK,-⟩:=Q6 H Y;rcases fi:oH true rs with ⟨rows,free,bad⟩;rw[fi] at iI cM dG;dsimp only at iI cM;simp only[Iv,Zz] at dG
  cases bad
  ·cases free with
   |nil =>
    simp only[go_sem,go_sem_proc,Iw,Ix,H,Y,dG,aE,show decide (((0:Nat):Int)>0)=false from rfl,cC];rw[ag (by simp)];refine cU [1,33,34] [] (λ((i,g):Nat×Nat) tm m=>i<=D rs/\tm 35=.I (.int .i64 i)/\tm 8=.ref 109045 g 4 0 i/\m 109045=some (g,aV ar ((rows.take i).map (uV (D rs))))) (λ(i,_)=>D rs-i) (0,0) (by refine⟨fm _,rfl,rfl,?_⟩;simp[a9,aV]) ?_;intro vs ms aJ aH;simp only[go_sem,go_sem_proc] at aJ aH;subst aJ aH;rintro⟨i,g⟩ tm m L hm ⟨Ma,Q1,cu,ZJ⟩;simp only[go_sem,go_sem_proc,bk] at L hm;obtain⟨G,P8,ai8⟩:=L;have cm:=cM.len;rcases dc (i<D rs) with az|b2
    ·obtain⟨x,M⟩:∃x,rows[i]?=some x:=⟨_,bq (by omega)⟩;obtain⟨vn,xK⟩:=cM.row x (dn M);obtain⟨⟨⟨cE,cO⟩,⟨ei,eS⟩⟩,uO⟩:∃f,x.2.2[D rs]?=some f:=⟨_,bq (by omega)⟩;have oq:=awR uO;have m2:((rows.take i).map (uV (D rs))).length=i:=by rw[aE,gv];omega
     have dv:=jm iT v5 109045 g 64 ((rows.take i).map (uV (D rs))) ((cE,cO),(ei,eS)) (cs:=[.I (.int .i64 cE),.I (.X (cO.map ae)),.I (.int .i64 ei),.I (.X (eS.map ae))]) rfl (by omega) (by omega);rw[m2] at dv
     have Mj:(rows.take (i+1)).map (uV (D rs))=(rows.take i).map (uV (D rs))++[((cE,cO),(ei,eS))]:=by
      rw[gB,M,js];simp[oq]
     have lY:decide ((i:Int)<(D rs:Int))=true:=cT;have ZK:decide ((i:Int)<(D rows:Int))=true:=cT;have hw:=ec (i:=i) (by omega);have mR:decide (0<=n)=true:=cT;have Mk:n=((D rs:Nat):Int):=aM.symm;refine ak ?_;repeat' (intro h<;>simp only[h,go_sem,go_sem_proc,Iw,Ix,G,P8,ai8,Q1,cu,ZJ,M,uO,dv,lY,ZK,hw,Mk,aE,bj,ar]<;>try refine ai ?_ ?_)
     exact⟨(i+1,g+1),by dsimp only;omega,by dsimp only;omega,rfl,rfl,by dsimp only;rw[Mj]⟩
    ·have cI:i=D rs:=by omega
     have ZK:decide ((i:Int)<(D rows:Int))=false:=cl;have dB:rows.take i=rows:=dp (by omega);rw[dB] at ZJ
     have gi:∀n,dz (n+1) m (.ref 109045 g 4 0 i)=some (.X ((rows.map (uV (D rs))).map ar)):=λn=>by
      have:=jU (n:=n) iT ZJ;rw[show (rows.map (uV (D rs))).length=i by rw[aE];omega] at this
      exact this
     have awU:=gi 4;refine ak ?_;repeat' (intro h<;>simp only[h,go_sem,go_sem_proc,Iw,Ix,G,P8,ai8,Q1,cu,ZK,awU]<;>try refine ai ?_ ?_)
   |cons f eh =>
    have hL:decide ((((f::eh).length:Nat):Int)>0)=true:=jw (by simp only[jO];omega);simp only[jO] at hL;refine ak ?_;repeat' (intro h<;>simp only[h,go_sem,go_sem_proc,Iw,Ix,H,Y,dG,aE,hL,cC]<;>try refine ai ?_ ?_)
    rw[ad (by omega)]
    rfl
  ·refine ak ?_;repeat' (intro h<;>simp only[h,go_sem,go_sem_proc,Iw,Ix,H,Y,dG,aE,cC]<;>try refine ai ?_ ?_)
def ZL:bZ:=cj 30 2 [.t 4,.t 5] (O [(au 4 (.bT (.c (.I (.int .u64 0))))),(au 5 (.bT (.c (.I (.int .u64 0)))))] (.seq (.cond (.c (.I (.bool false))) (O [F 11 0,(au 12 (.conv .u32 (.t 11))),F 13 1,(au 14 (.conv .u32 (.t 13))),(bW 15 asb 12 14),F 10 15,ba 16 0 10,ba 17 1 10,F 6 16,F 7 17] (O [F 18 6,(au 19 (.conv .u64 (.t 18))),F 20 7,(au 21 (.conv .u64 (.t 20))),F 4 19,F 5 21] .ret)) .skip) (O [F 23 0,F 24 1,(bW 25 Va 23 24),F 22 25,ba 26 0 22,ba 27 1 22,F 8 26,F 9 27] (O [F 28 8,F 29 9,F 4 28,F 5 29] .ret))))
def ZM:bZ:=cj 51 2 [.t 4,.t 5] (O [(au 4 (.bT (.c (.I (.int .u64 0))))),(au 5 (.bT (.c (.I (.int .u64 0)))))] (O [F 14 0,(au 15 (.bin .and (.t 14) (.c (.I (.int .u64 4294967295))))),F 6 15] (O [F 16 0,(au 17 (.bin .shr (.t 16) (.c (.I (.int .u64 32))))),F 7 17] (O [F 18 1,(au 19 (.bin .and (.t 18) (.c (.I (.int .u64 4294967295))))),F 8 19] (O [F 20 1,(au 21 (.bin .shr (.t 20) (.c (.I (.int .u64 32))))),F 9 21] (O [F 22 6,F 23 8,bt 24 .mul 22 23,F 10 24] (O [F 25 7,F 26 8,bt 27 .mul 25 26,F 28 10,(au 29 (.bin .shr (.t 28) (.c (.I (.int .u64 32))))),bt 30 .add 27 29,F 11 30] (O [F 31 11,(au 32 (.bin .and (.t 31) (.c (.I (.int .u64 4294967295))))),F 12 32] (O [F 33 11,(au 34 (.bin .shr (.t 33) (.c (.I (.int .u64 32))))),F 13 34] (O [F 35 12,F 36 6,F 37 9,bt 38 .mul 36 37,bt 39 .add 35 38,F 12 39] (O [F 40 7,F 41 9,bt 42 .mul 40 41,F 43 13,bt 44 .add 42 43,F 45 12,(au 46 (.bin .shr (.t 45) (.c (.I (.int .u64 32))))),bt 47 .add 44 46,F 4 47] (O [F 48 0,F 49 1,bt 50 .mul 48 49,F 5 50] .ret))))))))))))
theorem ZN:∀y:Nat,y<41->bits .and .u64 (y:Int) 4294967295=y:=by decide
theorem awV (y:Nat)(h:y<41):(y:Int).fdiv 4294967296=0:=by
 rw[Int.fdiv_eq_ediv_of_nonneg _ (by omega)];omega
abbrev Q7:Nat->List Data:=λ(y:Nat)=>[.int .u64 1,.int .u64 y]
def ZO:=cn Q7 λ(y:Nat)=>cN (y<41) (.same (.c1 [.int .u64 0,.int .u64 y]))
theorem ai9:∀a b,Q7 a=Q7 b->a=b:=by
  intro lz mW h;simp only[bk,Data.int.injEq] at h;omega
@[go_sem] theorem aLd (y:Nat)(H:y<41):ZO [.int .u64 1,.int .u64 y]=some (.same (.c1 [.int .u64 0,.int .u64 y])):=(cz ai9 y).trans (cX H _)
theorem awW (T:bl)  (y:Nat) (H:y<41):WP T ZM (.same (.c1 [.int .u64 0,.int .u64 y])) [.I (.int .u64 1),.I (.int .u64 y)]:=by
 refine cD ?_;simp only[ZM];have G:=ZN y H;have J:=awV y H;have af:=ZN 1 (by omega);have aT:=ZN 0 (by omega);have bx:((1:Int)).fdiv 4294967296=0:=by decide
 have b0:((0:Int)).fdiv 4294967296=0:=by decide
 have hw:∀x:Int,0<=x/\x<18446744073709551616->IntKind.u64.wrap x=x:=λx h=>An x h;have eW:=hw 0 (by omega);have w1:=hw y (by omega);simp only[Int.cast_ofNat_Int] at af aT;refine ak ?_;repeat' (intro (ay:_=_)<;>simp only[ay,go_sem,go_sem_proc,G,J,af,aT,bx,b0,eW,w1,show ((32:Int)<0)=False from by simp,if_false,show (2:Int)^min (Int.toNat 32) 64=4294967296 from rfl,Int.one_mul,Int.zero_mul,Int.mul_zero,Int.add_zero,Int.zero_add]<;>try refine ai ?_ ?_)
def ZP:=cn Q7 λ(y:Nat)=>cN (y<41) (.same (.c1 [.int .u64 0,.int .u64 y]))
@[go_sem] theorem aLe (y:Nat)(H:y<41):ZP [.int .u64 1,.int .u64 y]=some (.same (.c1 [.int .u64 0,.int .u64 y])):=(cz ai9 y).trans (cX H _)
theorem awX (T:bl)(awY:T Va=aQ ZO)(y:Nat)(H:y<41):WP T ZL (.same (.c1 [.int .u64 0,.int .u64 y])) [.I (.int .u64 1),.I (.int .u64 y)]:=by
 refine cD ?_;simp only[ZL];refine ak ?_;repeat' (intro h<;>simp only[h,go_sem,go_sem_proc,awY,H]<;>try refine ai ?_ ?_)
theorem sj {α:Type}{A:List α}{k:Nat}(dV:(D A)=k)(n:Nat):(et n A).flatten.length=n*k:=by
 rw[List.length_flatten,Iy,dV,List.sum_replicate_nat]
theorem awZ {α:Type}{A:List α}{k:Nat}(dV:(D A)=k){q j:Nat}(h:q<=j):(et j A).flatten.take (q*k)=(et q A).flatten:=by
 obtain⟨d,rfl⟩:=aja h;rw[<-ZQ,Q8,C7 (by rw[sj dV];omega),dp (by rw[sj dV];omega)]
theorem aw0 {α:Type}{A:List α}{k:Nat}(dV:(D A)=k){q j:Nat}(h:q<=j):(et j A).flatten.drop (q*k)=(et (j-q) A).flatten:=by
 obtain⟨d,rfl⟩:=aja h;rw[<-ZQ,Q8,r0,lO (by rw[sj dV];omega),sj dV,jy,nD,hX,Hc]
def Fu:List R:=[.I (.int .i64 0),.nil,.I (.int .i64 0),.nil]
def qz (A:List R)(N j:Nat):List R:=(et j A).flatten++(et (N-j) Fu).flatten
theorem ajb {A:List R}(dV:(D A)=4){N j:Nat}(h:j<=N):(qz A N j).length=N*4:=by
 unfold qz;rw[fX,sj dV,sj (show (D Fu)=4 from rfl)];omega
theorem ajc {A:List R}(dV:(D A)=4){N j q:Nat}(h:j+q<=N):(qz A N j).take (j*4)++(et q A).flatten++(qz A N j).drop (j*4+q*4)=qz A N (j+q):=by
 unfold qz;rw[C7 (by rw[sj dV];omega),dp (by rw[sj dV];omega),r0,lO (by rw[sj dV];omega),sj dV,Hc,aw0 (show (D Fu)=4 from rfl) (by omega),hX,<-ZQ (n:=j),Q8,Nat.sub_sub]
theorem aw1 {A:List R}(dV:(D A)=4){N j:Nat}:(qz A N j).take (j*4)=(et j A).flatten:=by
 unfold qz;rw[C7 (by rw[sj dV];omega),dp (by rw[sj dV];omega)]
theorem ajd {A:List R}(h:A.all R.one=true)(q:Nat):(et q A).flatten.all R.one=true:=by
 induction q with
 |zero=>rfl
 |succ n aN=>rw[sR,j1,QJ,h,aN];rfl
theorem aw2 (f:a7)(N:Nat):qz ((ar f).map .I) N N=aV ar (et N f):=by
 unfold qz aV;rw[jy,Iy];simp only[List.replicate_zero,List.flatten_nil,gS]
 induction N with
 |zero=>rfl
 |succ n aN=>rw[sR,j1,sR,j1,js,aN]
theorem aw3 {A:List R}(dV:(D A)=4)(G:A.all R.one=true)(N:Nat):BV 131030 0 4 0 N 1 A (some (0,(et N Fu).flatten))=some (.I (.int .i64 ((min 1 N:Nat):Int)),some (131030,0,qz A N (min 1 N))):=by
 unfold BV;dsimp only;rw[ad ⟨rfl,by rw[sj (show (D Fu)=4 from rfl)];omega,G⟩]
 have ax:(et N Fu).flatten=qz A N 0:=by simp[qz]
 have ca:A.take (min 1 N*4)=(et (min 1 N) A).flatten:=by
  rcases ko N with h|h
  ·subst h;simp
  ·rw[show min 1 N=1 by omega];simp[dp (Nat.le_of_eq dV)]
 have:=ajc dV (N:=N) (j:=0) (q:=min 1 N) (by omega);rw[ax,ca];unfold lM;rw[sj dV];simp only[Nat.zero_mul,Nat.zero_add] at this ⊢;rw[this]
theorem aw4 {A:List R}(dV:(D A)=4)(G:A.all R.one=true){N j:Nat}(h:j<N):BV 131030 0 4 (j*4) (N-j) j (et j A).flatten (some (0,qz A N j))=some (.I (.int .i64 ((min j (N-j):Nat):Int)),some (131030,0,qz A N (j+min j (N-j)))):=by
 unfold BV;dsimp only;rw[ad ⟨rfl,by rw[ajb dV (by omega)];omega,ajd G j⟩]
 rw[awZ dV (show min j (N-j)<=j by omega)];have:=ajc dV (N:=N) (j:=j) (q:=min j (N-j)) (by omega);unfold lM;rw[sj dV,this]
abbrev ZR:Int×(List Int)×Int×(List Int)×Nat->List Data:=λ(s,l,s2,aa,N)=>[.X [[.int .i64 s,.X (l.map ae),.int .i64 s2,.X (aa.map ae)]],.int .i64 N]
def ZS:=cn ZR λ(s,l,s2,aa,N)=>cN (N<41) (.own 4 (et N (ar ((s,l),(s2,aa)))))
theorem aw5:∀a b,ZR a=ZR b->a=b:=by
  rintro⟨s1,ed,CE,AE,aLf⟩ ⟨s2,aa,CF,AF,aLg⟩ h;simp only[bk,Data.int.injEq,Data.X.injEq] at h;exact dN h.1.1.1.2 (dN (map_inj gx _ _ h.1.1.2.1) (dN h.1.1.2.2.1.2 (dN (map_inj gx _ _ h.1.1.2.2.2.1) (by have:=h.2.1.2;dsimp only;omega))))
@[go_sem] theorem aw6 (s:Int)(l:List Int)(s2:Int)(aa:List Int)(N:Nat)(H:N<41):ZS [.X [[.int .i64 s,.X (l.map ae),.int .i64 s2,.X (aa.map ae)]],.int .i64 N]=some (.own 4 (et N (ar ((s,l),(s2,aa))))):=(cz aw5 (s,l,s2,aa,N)).trans (cX H _)
theorem aw7 (T:bl)(ZT:T U6=aQ ZP)(s:Int)(l:List Int)(s2:Int)(aa:List Int)(N:Nat)(H:N<41):WP T V1 (.own 4 (et N (ar ((s,l),(s2,aa))))) [.I (.X [[.int .i64 s,.X (l.map ae),.int .i64 s2,.X (aa.map ae)]]),.I (.int .i64 N)]:=by
 refine cD ?_;simp only[V1];have ax:decide ((N:Int)<0)=false:=cl;have hw:IntKind.u64.wrap (N:Int)=N:=An _ ⟨by omega,by omega⟩
 have afs:IntKind.i64.wrap (N:Int)=N:=wrap64 _ (by omega) (by omega);have s7:IntKind.u64.wrap ((1:Nat):Int)=1:=by decide
 have bz:decide ((N:Int)>9223372036854775807)=false:=cl;have Bb:(64*N<=140737488355328)=True:=eq_true (by omega);have tt:(N<=maxLen)=True:=eq_true (by unfold maxLen;omega);have dV:((ar ((s,l),(s2,aa))).map R.I).length=4:=rfl;have wj:((ar ((s,l),(s2,aa))).map R.I).all R.one=true:=rfl;have B3:=aw3 dV wj N;have oU:=λj (h:j<N)=>aw4 dV wj h;have Ml:(ar ((s,l),(s2,aa))).map R.I=[.I (.int .i64 s),.I (.X (l.map ae)),.I (.int .i64 s2),.I (.X (aa.map ae))]:=rfl;simp only[Fu] at B3;rw[Ml] at B3;simp only[go_sem,go_sem_proc] at B3;simp only[go_sem,go_sem_proc,ZT,ax,hw,afs,s7,H,bz,Bb,tt,show decide ((0:Int)>0)=false from rfl,B3];rw[Ml] at dV wj;have jc:=aw2 ((s,l),(s2,aa)) N;rw[Ml] at jc;simp only[Ml] at oU;clear Ml B3;generalize [R.I (.int .i64 s),.I (.X (l.map ae)),.I (.int .i64 s2),.I (.X (aa.map ae))]=A at *;refine cU [7] [] (λ(j:Nat) tm m=>j<=N/\(0<N->0<j)/\tm 8=.I (.int .i64 j)/\m 131030=some (0,qz A N j)) (λj=>N-j) (min 1 N) (by refine⟨by omega,by omega,rfl,?_⟩;simp[a9]) ?_;intro vs ms aJ aH;simp only[go_sem,go_sem_proc] at aJ aH;subst aJ aH;rintro j tm m L hm ⟨aje,aw8,cu,ZU⟩;simp only[go_sem,go_sem_proc,bk] at L hm;have bV:=L;rcases dc (j<N) with az|b2
 ·have nb:decide ((j:Int)<(N:Int))=true:=cT;have aM:=oU j az;have gd:=aw1 dV (N:=N) (j:=j);have hlen:(j*4<=(qz A N j).length)=True:=eq_true (by rw[ajb dV aje];omega);have aw9:(j<=N)=True:=eq_true aje;have dB:=ajd wj j;simp only[go_sem,go_sem_proc,dB,gd] at aM;have hz:IntKind.i64.wrap ((j:Int)+((min j (N-j):Nat):Int))=((j+min j (N-j):Nat):Int):=by rw[fh _];omega
  refine ak ?_;repeat' (intro (ay:_=_)<;>simp only[ay,go_sem,go_sem_proc,ZT,bV,cu,ZU,nb,gd,hlen,aw9,dB,aM,hz,cH,Nat.sub_zero,fm]<;>try refine ai ?_ ?_)
  exact⟨j+min j (N-j),by have:=aw8 (by omega);omega,by omega,by omega,rfl,rfl⟩
 ·have nb:decide ((j:Int)<(N:Int))=false:=cl;obtain rfl:j=N:=by omega
  rw[jc] at ZU;have AJ:=kX iT (et j ((s,l),(s2,aa)));rw[wk] at AJ;refine ak ?_;repeat' (intro (ay:_=_)<;>simp only[ay,go_sem,go_sem_proc,ZT,bV,cu,ZU,nb,uc,AJ]<;>try refine ai ?_ ?_)
  rw[ad (cH _),dp (by omega)];unfold aV;rw[Ef _ λd=>rfl];have:=Cj (sz:=4) ((et j ((s,l),(s2,aa))).map ar) (by intro e he;obtain⟨f,-,rfl⟩:=fO.1 he;rfl);rw[aE,wk] at this;rw[lu,this,Iy]
def Q9:a7:=((0,[]),(1,[1]))
def ZV:a7:=((1,[1]),(1,[1]))
theorem ajf:al 0=Q9:=by
 unfold al bf Q9;simp[Ej,ug]
theorem axa:al 1=ZV:=by
 unfold al bf ZV;simp[Ej]
def Mm (rows:List dH)(f N i:Nat):List a7:=(eN N).map λk=>if k<i then (jJ Q9 (cellOf (rowAt rows k) f)).1 else if k=f then ZV else Q9
theorem axb (rows:List dH)(f N i:Nat):(Mm rows f N i).length=N:=by simp[Mm]
def ZW (rs:List b9)(n:Int):List a7×Bool :=
 if ig rs n=true then (if ((oH true rs).2.2||(oH true rs).2.1.length==0)=true then ([],false) else (Mm (oH true rs).1 ((oH true rs).2.1.headD 0) (D rs) ((oH true rs).2.1.headD 0),true)) else ([],false)

def ZX:=cn H2 λ(rs,n)=>cN (kz rs) (.same (.bool (ig rs n)))
@[go_sem] theorem aLh (rs:List b9)(n:Int)(H:kz rs):ZX [.X (rs.map de),.int .i64 n]=some (.same (.bool (ig rs n))):=(cz Qr (rs,n)).trans (cX H _)
theorem axc (T:bl)(fr:T mm=aQ v8)(rs:List b9)(n:Int)(H:kz rs):WP T Y0 (.same (.bool (ig rs n))) [.I (.X (rs.map de)),.I (.int .i64 n)]:=by
 refine cD ?_;simp only[Y0];rcases G:decide (n<0)
 case true =>
  have Y:ig rs n=false:=by unfold ig;rw[G];rfl
  rw[Y];refine ak ?_;repeat' (intro (ay:_=_)<;>simp only[ay,go_sem,go_sem_proc,fr,G,aE]<;>try refine ai ?_ ?_)
 rcases J:decide (n>40)
 case true =>
  have Y:ig rs n=false:=by unfold ig;rw[G,J];rfl
  rw[Y];refine ak ?_;repeat' (intro (ay:_=_)<;>simp only[ay,go_sem,go_sem_proc,fr,G,J,aE]<;>try refine ai ?_ ?_)
 rcases af:((D rs:Int)==n)
 case false =>
  have Y:ig rs n=false:=by unfold ig;rw[G,J,af];rfl
  rw[Y];refine ak ?_;repeat' (intro (ay:_=_)<;>simp only[ay,go_sem,go_sem_proc,fr,G,J,af,aE,db,bne]<;>try refine ai ?_ ?_)
 have aM:n=D rs:=(beq_iff_eq.1 af).symm;have hc:ig rs n = !(rs.any (kA n)):=by unfold ig;rw[G,J,af];rfl
 have fK:(D rs)<=40:=by have:=of_decide_eq_false J;omega
 rw[hc];simp only[go_sem,go_sem_proc,G,J,af,aE,cw,bne];refine cU [0,1] [] (λ(i:Nat) tm mem=>i<=D rs/\(∀r∈rs.take i,kA n r=false)/\tm 5=.I (.int .i64 i)) (λi=>D rs-i) 0 (by refine⟨fm _,by simp,rfl⟩) ?_;intro vs ms aJ aH;simp only[go_sem,go_sem_proc] at aJ aH;subst aJ aH;rintro i tm mem L-⟨Q,dB,bx⟩;simp only[go_sem,go_sem_proc,bk] at L;obtain⟨ax,w5⟩:=L;rcases dc (i<D rs) with az|b2
 ·obtain⟨⟨A,⟨a,b⟩,⟨c,e⟩⟩,M⟩:∃f,rs[i]?=some f:=⟨_,bq az⟩;obtain⟨⟨si,pU⟩,uS,mu⟩:=H.2 _ (dn M);dsimp only at si pU uS mu;have d1:decide ((i:Int)<n)=true:=cT;have bG:=ec (i:=i) (by omega)
  have uj:kA n (A,((a,b),(c,e)))=true->(!(rs.any (kA n)))=false:=λh=>by
   rw[ajg.2 ⟨_,dn M,h⟩];rfl
  rcases aw:((D A:Int)==n)
  ·rw[uj (by unfold kA;rw[aw];rfl)];refine ak ?_;repeat' (intro (ay:_=_)<;>simp only[ay,go_sem,go_sem_proc,fr,ax,w5,bx,d1,M,aw,de,ar,aE,bj,db,bne]<;>try refine ai ?_ ?_)
  rcases aD:di ((a,b),(c,e))
  ·rw[uj (by unfold kA;rw[aw,aD];rfl)];refine ak ?_;repeat' (intro (ay:_=_)<;>simp only[ay,go_sem,go_sem_proc,fr,ax,w5,bx,d1,M,aw,aD,uS,mu,de,ar,aE,bj,db,cw,bne]<;>try refine ai ?_ ?_)
  have Ij:(D A:Int)=n:=beq_iff_eq.1 aw;simp only[go_sem,go_sem_proc,fr,ax,w5,bx,d1,M,aw,aD,uS,mu,de,ar,aE,bj,db,cw,bne];refine cU [0,1,5] [] (λ(k:Nat) tm mem=>k<=D A/\(∀f∈A.take k,y8 f=false)/\tm 6=.I (.int .i64 k)) (λk=>D A-k) 0 (by refine⟨fm _,by simp,rfl⟩) ?_;intro vs ms aJ aH;simp only[go_sem,go_sem_proc,ax,w5,bx] at aJ aH;subst aJ aH;rintro k tm' mem' L-⟨rX,ZY,b0⟩;simp only[go_sem,go_sem_proc,bk] at L;obtain⟨ev,cB,h2⟩:=L;rcases dc (k<D A) with Zq|awh
  ·obtain⟨⟨⟨u,v⟩,⟨x,y⟩⟩,aj⟩:∃f,A[k]?=some f:=⟨_,bq Zq⟩;obtain⟨lE,lF⟩:=pU _ (dn aj);dsimp only at lE lF;have d2:decide ((k:Int)<n)=true:=cT;have m0:=ec (i:=k) (by omega);rcases aC:di ((u,v),(x,y))
   ·rw[uj (by unfold kA;rw[aw,aD,ajg.2 ⟨_,dn aj,by unfold y8;rw[aC];rfl⟩];rfl)];refine ak ?_;repeat' (intro (ay:_=_)<;>simp only[ay,go_sem,go_sem_proc,fr,ev,cB,h2,b0,d2,M,aj,aC,lE,lF,de,ar,aE,bj,db]<;>try refine ai ?_ ?_)
   ·simp only[go_sem,go_sem_proc,fr,ev,cB,h2,b0,d2,M,aj,aC,lE,lF,m0,de,ar,bj,cw];exact⟨k+1,by omega,by omega,AY ZY aj (by unfold y8;rw[aC];rfl),rfl⟩
  ·have d2:decide ((k:Int)<n)=false:=cl;rw[dp (by omega)] at ZY;simp only[go_sem,go_sem_proc,ev,cB,h2,b0,d2,bG];exact⟨i+1,by omega,by omega,AY dB M (by unfold kA;rw[aw,aD,wi.2 λf aC=>by rw[ZY f aC];simp];rfl),rfl⟩
 ·obtain rfl:i=D rs:=by omega
  have d1:decide ((D rs:Int)<n)=false:=cl;rw[dp (by omega)] at dB;have:rs.any (kA n)=false:=wi.2 λr Y=>by rw[dB r Y];simp
  rw[this];simp only[go_sem,go_sem_proc,w5,bx,d1,db]
def iU (a fA b:a7):a7×Int:=if ((hA fA b).2==0)=true then jJ a (hA fA b).1 else (dD,(hA fA b).2)
abbrev ZZ:a7×a7×a7->List Data:=λ(a,f,b)=>[.agg (ar a),.agg (ar f),.agg (ar b)]
def Z0:=cn ZZ λ(a,f,b)=>cN (okF a/\okF f/\okF b) (.same (cG (iU a f b)))
theorem axd:∀a b,ZZ a=ZZ b->a=b:=by
  rintro⟨cE,f1,c0⟩ ⟨cO,f2,ee⟩ h;simp only[bk,Data.agg.injEq] at h;exact dN (np _ _ h.1) (dN (np _ _ h.2.1) (np _ _ h.2.2.1))
@[go_sem] theorem ajh (a:a7)(f:a7)(b:a7)(H:okF a/\okF f/\okF b):Z0 [.agg (ar a),.agg (ar f),.agg (ar b)]=some (.same (cG (iU a f b))):=(cz axd (a,f,b)).trans (cX H _)
theorem axe (T:bl)(tu:T Cp=aQ Fg)(uW:T Aq=aQ Fe)(a:a7)(f:a7)(b:a7)(H:okF a/\okF f/\okF b):WP T Y4 (.same (cG (iU a f b))) [.I (.agg (ar a)),.I (.agg (ar f)),.I (.agg (ar b))]:=by
 refine cD ?_;simp only[Y4];obtain⟨⟨cE,cO⟩,⟨f1,f2⟩,⟨c0,ee⟩⟩:=H;obtain⟨⟨s,l⟩,⟨s2,aa⟩⟩:=a;obtain⟨⟨t,m⟩,⟨t2,b7⟩⟩:=f;obtain⟨⟨u,k⟩,⟨ho,dA⟩⟩:=b;dsimp only at cE cO f1 f2 c0 ee;have bS:=aiD ((t,m),(t2,b7)) ((u,k),(ho,dA));unfold iU;rcases e2:hA ((t,m),(t2,b7)) ((u,k),(ho,dA)) with ⟨⟨⟨ic,kr⟩,⟨o5,o6⟩⟩,Bc⟩;rw[e2] at bS;obtain⟨lE,lF⟩:=bS;dsimp only at lE lF;rcases aF:(Bc==0)
 ·simp only[go_sem,go_sem_proc,tu,e2,f1,f2,c0,ee,aF,ar,cG,dD,cC,db,bne]
 ·simp only[go_sem,go_sem_proc,tu,uW,e2,cE,cO,f1,f2,c0,ee,lE,lF,aF,ar,cG,cw,bne]
theorem axf {k bE i:Nat}{l:List b9}{a b c d e:R}(h:(D l)=i)(Q:i<=1000)(bS:[a,b,c,d,e].all R.one=true):kS k bE 5 i 88 1 [a,b,c,d,e] (some (bE,aV de l))=some (.ref k (bE+1) 5 0 (i+1),some (k,bE+1,aV de l++[a,b,c,d,e])):=by
 unfold kS;dsimp only;rw[ad ⟨rfl,by rw[kX qs];omega,by omega,by unfold maxLen;omega,bS⟩,dp (by rw[kX qs];omega)]
theorem axg {l:List b9}{i:Nat}(h:(D l)=i)(x:R)(A:List a7)(a:Int)(b:List Int)(c:Int)(d:List Int):
  (aV de l++[x,.I (.int .i64 a),.I (.X (b.map ae)),.I (.int .i64 c),.I (.X (d.map ae))]).set (i*5) (.I (.X (A.map ar)))=aV de (l++[(A,((a,b),(c,d)))]):=by
 have aw:(aV de l).length=i*5:=by rw[kX qs,h]
 rw[zf _ _ (by omega),aw,jy,mx];unfold aV;rw[js,Q8,js]
 rfl
abbrev Z1:List b9->List Data:=λ(rs:List b9)=>[.X (rs.map de)]
def Z2:=cn Z1 λ(rs:List b9)=>cN (D rs<=1000/\kz rs) (.own 5 (rs.map de))
theorem axh:∀a b,Z1 a=Z1 b->a=b:=by
  intro Qp Qq h;exact map_inj CP _ _ (by simpa using h)
@[go_sem] theorem axi (rs:List b9)(H:(D rs)<=1000/\kz rs):Z2 [.X (rs.map de)]=some (.own 5 (rs.map de)):=(cz axh rs).trans (cX H _)
theorem axj (T:bl)  (rs:List b9) (H:(D rs)<=1000/\kz rs):WP T Y1 (.own 5 (rs.map de)) [.I (.X (rs.map de))]:=by
 refine cD ?_;simp only[Y1];obtain⟨fK,H⟩:=H;simp only[go_sem,go_sem_proc];refine cU [0] [] (λ((i,g):Nat×Nat) tm mem=>i<=D rs/\tm 4=.I (.int .i64 i)/\tm 3=.ref 199026 g 5 0 i/\mem 199026=some (g,aV de (rs.take i))) (λ(i,_)=>D rs-i) (0,0) (by refine⟨fm _,rfl,rfl,rfl⟩) ?_;intro vs ms aJ aH;simp only[go_sem,go_sem_proc] at aJ aH;subst aJ aH;rintro⟨i,g⟩ tm mem L-⟨Q,aT,af,Ra⟩;simp only[go_sem,go_sem_proc,bk] at L;have ax:=L;rcases dc (i<D rs) with az|b2
 ·obtain⟨⟨A,⟨a,b⟩,⟨c,e⟩⟩,M⟩:∃f,rs[i]?=some f:=⟨_,bq az⟩;obtain⟨⟨si,pU⟩,uS,mu⟩:=H.2 _ (dn M);dsimp only at si pU uS mu;have d1:decide ((i:Int)<(D rs:Int))=true:=cT;have bG:=ec (i:=i) (by omega);have m2:(rs.take i).length=i:=by rw[gv];omega
  have dv:∀bE,kS 199012 bE 4 0 64 (D A) ((A.map ar).flatten.map .I) (some (bE,[]))=some (.ref 199012 (bE+1) 4 0 (D A),some (199012,bE+1,aV ar A)):=λbE=>by
   have:=Ci iT v5 199012 bE 64 [] A (by simp;omega) (by simp;omega)
   simpa [aV] using this
  have oT:=Me A;have axk:=λ(x:R) (M:R.one x=true)=>axf (k:=199026) (bE:=g) (a:=x) (b:=.I (.int .i64 a)) (c:=.I (.X (b.map ae))) (d:=.I (.int .i64 c)) (e:=.I (.X (e.map ae))) m2 (by omega) (by simp only[w7,M];rfl);have axl:=λ(bE n:Nat)=>axk (.ref 199012 bE 4 0 n) rfl;simp only[go_sem,go_sem_proc,ax,af,aT,Ra,M,d1,dv,oT,axl,de,ar,aE,bj];have Z3:(aV de (rs.take i)).length=i*5:=by rw[kX qs,m2]
  refine arG 199026 (i*5) 199012 (g:=fN (mem 199012)+1) (sz:=4) (off:=0) (len:=D A) (cs:=aV ar A) (d:=.X (A.map ar)) (by simp only[a9];rfl) (by rw[nc (by omega),Z3,jy];rfl) (by simp[a9]) (Ha _ _) (by decide) ?_ ?_
  ·exact jU (n:=0) iT (by simp[a9])
  ·have vt:=axg m2 (.ref 199012 (fN (mem 199012)+1) 4 0 (D A)) A a b c e;have Mj:rs.take i++[(A,((a,b),(c,e)))]=rs.take (i+1):=by rw[gB,M];rfl
   rw[vt,Mj];simp only[go_sem,go_sem_proc,ax,af,aT,Ra,bG];exact⟨(i+1,g+1),by dsimp only;omega,by dsimp only;omega,rfl,rfl,rfl⟩
 ·obtain rfl:i=D rs:=by omega
  have d1:decide ((D rs:Int)<(D rs:Int))=false:=cl;rw[nQ] at Ra;have hlen:(aV de rs).length=D rs*5:=kX qs rs;simp only[go_sem,go_sem_proc,ax,af,aT,d1,aE];unfold uc;dsimp only;rw[Ra];simp only[and_self,if_true];rw[ad ⟨trivial,by omega⟩,dp (by omega)]
  unfold aV;rw[Ef _ λd=>rfl];have:=Cj (sz:=5) (rs.map de) (by intro x M;obtain⟨f,-,rfl⟩:=fO.1 M;rfl);rw[aE] at this;simp[this]
def m3 {α:Type}(op:α->a7×Int)(e:α->a7):List α->List a7×Bool
 | []=>([],true)
 |a::r=>if ((op a).2==0)=true then ((op a).1::(m3 op e r).1,(m3 op e r).2) else ((a::r).map e,false)
section
variable {α:Type} {op:α->a7×Int} {e:α->a7}
theorem Rb:∀{l:List α},(∀a∈l,(op a).2=0)->m3 op e l=(l.map λa=>(op a).1,true)
 | [],_=>rfl
 |a::r,h=>by
  unfold m3;rw[ad (by rw[h a g3];rfl),Rb λb ah=>h b (hO _ ah)]
  rfl
theorem Z4:∀{l:List α} {k:Nat} {a:α},(∀a∈l.take k,(op a).2=0)->l[k]?=some a->((op a).2==0)=false->m3 op e l=((l.take k).map (λa=>(op a).1)++(l.drop k).map e,false)
 | [],k,a,_,h,_=>by simp at h
 |b::r,0,a,_,h,aC=>by
  simp only[List.getElem?_cons_zero,cL] at h;subst h;unfold m3;rw[aC];simp
 |b::r,k+1,a,h,M,aC=>by
  have:=Z4 (l:=r) (k:=k) (λc H=>h c (by rw[sW];exact hO _ H)) (by simpa using M) aC;unfold m3;rw[ad (by rw[h b (by rw[sW];exact g3)];rfl),this];simp
theorem aji {l:List α}{k:Nat}{a:α}(h:l[k]?=some a):((l.take k).map (λa=>(op a).1)++(l.drop k).map e).set k (op a).1=(l.take (k+1)).map (λa=>(op a).1)++(l.drop (k+1)).map e:=by
 obtain⟨az,M⟩:=ej.1 h;have aw:((l.take k).map λa=>(op a).1).length=k:=by rw[aE,gv];omega
 rw[zf _ _ (by omega),aw,jy,h9 az,ey,mx,gB,h,js,gT]
 rfl
theorem ajj {l:List α}{k:Nat}:((l.take k).map (λa=>(op a).1)++(l.drop k).map e).length=D l:=by
 rw[fX,aE,aE,gv,nE];omega
end
def ij (x:b9)(c:Nat):b9×Bool :=
 if (m3 (λa=>fE a (x.1.getD c dD)) id x.1).2=true then (((m3 (λa=>fE a (x.1.getD c dD)) id x.1).1,(fE x.2 (x.1.getD c dD)).1),(fE x.2 (x.1.getD c dD)).2==0)
 else (((m3 (λa=>fE a (x.1.getD c dD)) id x.1).1,dD),false)
abbrev Z5:b9×Nat->List Data:=λ(x,c)=>[.agg (de x),.int .i64 (x.1.length:Nat),.int .i64 c]
def Z6:=cn Z5 λ(x,c)=>cN (k8 x/\x.1.length<=1000/\c<x.1.length) (.same (.c1 [.agg (de (ij x c).1),.bool (ij x c).2]))
theorem axm:∀a b,Z5 a=Z5 b->a=b:=by
  rintro⟨a5,aq⟩ ⟨bX,c2⟩ h;simp only[bk,Data.agg.injEq,Data.int.injEq] at h;exact dN (CP _ _ h.1) (by have:=h.2.2.1.2;dsimp only;omega)
@[go_sem] theorem axn (x:b9)(c:Nat)(H:k8 x/\x.1.length<=1000/\c<x.1.length):Z6 [.agg (de x),.int .i64 (x.1.length:Nat),.int .i64 c]=some (.same (.c1 [.agg (de (ij x c).1),.bool (ij x c).2])):=(cz axm (x,c)).trans (cX H _)
theorem axo (T:bl)(xN:T Hn=aQ L0)(x:b9)(c:Nat)(H:k8 x/\x.1.length<=1000/\c<x.1.length):WP T Y2 (.same (.c1 [.agg (de (ij x c).1),.bool (ij x c).2])) [.I (.agg (de x)),.I (.int .i64 (x.1.length:Nat)),.I (.int .i64 c)]:=by
 refine cD ?_;simp only[Y2];obtain⟨⟨⟨-,pU⟩,uS,mu⟩,fK,wh⟩:=H;obtain⟨A,⟨v1,v2⟩,⟨iz,v4⟩⟩:=x;dsimp only at pU uS mu fK wh ⊢;obtain⟨⟨⟨c0,ee⟩,⟨gz,gW⟩⟩,ah⟩:∃f,A[c]?=some f:=⟨_,bq wh⟩;obtain⟨Rc,Rd⟩:=pU _ (dn ah);dsimp only at Rc Rd;have wm:A.getD c dD=((c0,ee),(gz,gW)):=by rw[ep,ah];rfl
 unfold ij;dsimp only;rw[wm]
 have dv:kS 200020 0 4 0 64 (D A) ((A.map ar).flatten.map .I) (some (0,[]))=some (.ref 200020 1 4 0 (D A),some (200020,1,aV ar A)):=by
  have:=Ci iT v5 200020 0 64 [] A (by simp;omega) (by simp;omega)
  simpa [aV] using this
 have oT:=Me A
 have gi:∀(c5:List a7),D c5=(D A)->∀n (m:Mem),m 200020=some (1,aV ar c5)->dz (n+1) m (.ref 200020 1 4 0 (D A))=some (.X (c5.map ar)):=λc5 fP n m hm=>by
  have:=jU (n:=n) iT hm;rw[fP] at this;exact this
 simp only[go_sem,go_sem_proc,ah,dv,oT,de,ar,aE,bj];refine cU [1,3,6,8,9] [200003,200006,200008,200009] (λ(k:Nat) tm mem=>k<=D A/\(∀a∈A.take k,(fE a ((c0,ee),(gz,gW))).2=0)/\tm 10=.I (.int .i64 k)/\mem 200020=some (1,aV ar ((A.take k).map (λa=>(fE a ((c0,ee),(gz,gW))).1)++(A.drop k).map id))) (λk=>D A-k) 0 (by refine⟨fm _,by simp,rfl,?_⟩;simp[a9]) ?_;intro vs ms aJ aH;simp only[go_sem,go_sem_proc] at aJ aH;subst aJ aH;rintro k tm mem L hm ⟨axp,dB,dS,Mn⟩;simp only[go_sem,go_sem_proc,bk] at L hm;obtain⟨G,af,b0,cu,eK⟩:=L;obtain⟨gG,gV,sd,Mo⟩:=hm;rcases dc (k<D A) with az|b2
 ·obtain⟨⟨⟨cE,cO⟩,⟨ei,eS⟩⟩,M⟩:∃f,A[k]?=some f:=⟨_,bq az⟩;obtain⟨lE,lF⟩:=pU _ (dn M);dsimp only at lE lF;have d1:decide ((k:Int)<(D A:Int))=true:=cT;have bG:=ec (i:=k) (by omega);rcases e2:fE ((cE,cO),(ei,eS)) ((c0,ee),(gz,gW)) with ⟨⟨⟨ic,kr⟩,⟨o5,o6⟩⟩,Bc⟩;have fP:=ajj (op:=λa=>fE a ((c0,ee),(gz,gW))) (e:=id) (l:=A) (k:=k);rcases aF:(Bc==0)
  ·have hu:=Z4 (op:=λa=>fE a ((c0,ee),(gz,gW))) (e:=id) dB M (by rw[e2];exact aF);rw[hu];simp only[go_sem,go_sem_proc,xN,G,af,b0,cu,eK,dS,gG,gV,sd,Mo,d1,M,lE,lF,Rc,Rd,e2,aF,ar,cG,dD,cC,bj,db,bne];rw[gi _ fP 3 _ (by simp[a9,Mn])]
   rfl
  ·have iQ:Bc=0:=beq_iff_eq.1 aF;subst iQ;have kF:=aji (op:=λa=>fE a ((c0,ee),(gz,gW))) (e:=id) M;rw[e2] at kF;have fz:k<((A.take k).map (λa=>(fE a ((c0,ee),(gz,gW))).1)++(A.drop k).map id).length:=by rw[fP];exact az
   have dF:=C1 fz ic kr o5 o6;rw[kF] at dF;have Ij:=wc fz;simp only[go_sem,go_sem_proc,xN,G,af,b0,cu,eK,dS,gG,gV,sd,Mo,Mn,d1,bG,az,M,lE,lF,Rc,Rd,e2,dF,Ij,ar,cG,bj,beq_self_eq_true,cw,bne]
   exact⟨k+1,by omega,by omega,λa aW=>by
    rw[gB,M,jb] at aW;rcases aW with aW|aW
    ·exact dB a aW
    ·simp at aW;rw[aW,e2],rfl,rfl⟩
 ·obtain rfl:k=D A:=by omega
  have d1:decide ((D A:Int)<(D A:Int))=false:=cl;rw[nQ] at dB Mn;have hu:=Rb (op:=λa=>fE a ((c0,ee),(gz,gW))) (e:=id) dB;rw[hu];rw[List.drop_length,cC,gS] at Mn;rcases e2:fE ((v1,v2),(iz,v4)) ((c0,ee),(gz,gW)) with ⟨⟨⟨ic,kr⟩,⟨o5,o6⟩⟩,Bc⟩;simp only[go_sem,go_sem_proc,xN,G,af,b0,cu,eK,dS,gG,gV,sd,Mo,d1,uS,mu,Rc,Rd,e2,ar,cG];rw[gi (A.map λa=>(fE a ((c0,ee),(gz,gW))).1) (by simp) 3 _ (by simp[a9,Mn])]
  rfl
def nS (x y:b9)(c:Nat):b9×Bool :=
 if (m3 (λa:a7×a7=>iU a.1 (x.1.getD c dD) a.2) oB (x.1.zip y.1)).2=true then (((m3 (λa:a7×a7=>iU a.1 (x.1.getD c dD) a.2) oB (x.1.zip y.1)).1,(iU x.2 (x.1.getD c dD) y.2).1),(iU x.2 (x.1.getD c dD) y.2).2==0)
 else (((m3 (λa:a7×a7=>iU a.1 (x.1.getD c dD) a.2) oB (x.1.zip y.1)).1,dD),false)
theorem ajk (a f b:a7):okF (iU a f b).1:=by
 unfold iU
 split
 ·exact Ze _ _
 ·exact rj
theorem axq {l m:List a7}(h:(D l)=D m):(l.zip m).map oB=l:=by
 rw[List.map_fst_zip (by omega)]
abbrev Z7:b9×b9×Nat->List Data:=λ(x,y,c)=>[.agg (de x),.agg (de y),.int .i64 (x.1.length:Nat),.int .i64 c]
def Re:=cn Z7 λ(x,y,c)=>cN (k8 x/\k8 y/\x.1.length<=1000/\y.1.length=x.1.length/\c<x.1.length) (.same (.c1 [.agg (de (nS x y c).1),.bool (nS x y c).2]))
theorem axr:∀a b,Z7 a=Z7 b->a=b:=by
  rintro⟨a5,lz,aq⟩ ⟨bX,mW,c2⟩ h;simp only[bk,Data.agg.injEq,Data.int.injEq] at h;exact dN (CP _ _ h.1) (dN (CP _ _ h.2.1) (by have:=h.2.2.2.1.2;dsimp only;omega))
@[go_sem] theorem axs (x:b9)(y:b9)(c:Nat)(H:k8 x/\k8 y/\x.1.length<=1000/\y.1.length=x.1.length/\c<x.1.length):Re [.agg (de x),.agg (de y),.int .i64 (x.1.length:Nat),.int .i64 c]=some (.same (.c1 [.agg (de (nS x y c).1),.bool (nS x y c).2])):=(cz axr (x,y,c)).trans (cX H _)
theorem axt (T:bl)(Z8:T Ps=aQ Z0)(x:b9)(y:b9)(c:Nat)(H:k8 x/\k8 y/\x.1.length<=1000/\y.1.length=x.1.length/\c<x.1.length):WP T Y3 (.same (.c1 [.agg (de (nS x y c).1),.bool (nS x y c).2])) [.I (.agg (de x)),.I (.agg (de y)),.I (.int .i64 (x.1.length:Nat)),.I (.int .i64 c)]:=by
 refine cD ?_;simp only[Y3];obtain⟨⟨⟨-,pU⟩,uS,mu⟩,⟨⟨-,ajl⟩,ajm,ajn⟩,fK,Rf,wh⟩:=H;obtain⟨A,⟨v1,v2⟩,⟨iz,v4⟩⟩:=x;obtain⟨B,⟨lQ,ho⟩,⟨we,zi⟩⟩:=y;dsimp only at pU uS mu ajl ajm ajn fK Rf wh ⊢;obtain⟨⟨⟨c0,ee⟩,⟨gz,gW⟩⟩,ah⟩:∃f,A[c]?=some f:=⟨_,bq wh⟩;have ajo:=pU _ (dn ah);have wm:A.getD c dD=((c0,ee),(gz,gW)):=by rw[ep,ah];rfl
 unfold nS;dsimp only;rw[wm];have ajp:(A.zip B).length=D A:=by rw[ajq];omega
 have dv:kS 201022 0 4 0 64 (D A) ((A.map ar).flatten.map .I) (some (0,[]))=some (.ref 201022 1 4 0 (D A),some (201022,1,aV ar A)):=by
  have:=Ci iT v5 201022 0 64 [] A (by simp;omega) (by simp;omega)
  simpa [aV] using this
 have oT:=Me A
 have gi:∀(c5:List a7),D c5=(D A)->∀n (m:Mem),m 201022=some (1,aV ar c5)->dz (n+1) m (.ref 201022 1 4 0 (D A))=some (.X (c5.map ar)):=λc5 fP n m hm=>by
  have:=jU (n:=n) iT hm;rw[fP] at this;exact this
 simp only[go_sem,go_sem_proc,ah,dv,oT,de,ar,aE,bj];refine cU [2,4,5,8,10,11] [201004,201005,201008,201010,201011] (λ(k:Nat) tm mem=>k<=D A/\(∀a∈(A.zip B).take k,(iU a.1 ((c0,ee),(gz,gW)) a.2).2=0)/\tm 12=.I (.int .i64 k)/\mem 201022=some (1,aV ar (((A.zip B).take k).map (λa=>(iU a.1 ((c0,ee),(gz,gW)) a.2).1)++((A.zip B).drop k).map oB))) (λk=>D A-k) 0 (by refine⟨fm _,by simp,rfl,?_⟩;simp only[List.take_zero,nD,cC,hX,axq Rf.symm];simp[a9]) ?_;intro vs ms aJ aH;simp only[go_sem,go_sem_proc] at aJ aH;subst aJ aH;rintro k tm mem L hm ⟨axp,dB,eP,xx⟩;simp only[go_sem,go_sem_proc,bk] at L hm;obtain⟨J,aT,bx,cu,dS,hp⟩:=L;obtain⟨fx,AW,sd,Z9,aaa⟩:=hm;rcases dc (k<D A) with az|b2
 ·obtain⟨⟨⟨cE,cO⟩,⟨ei,eS⟩⟩,M⟩:∃f,A[k]?=some f:=⟨_,bq az⟩;obtain⟨⟨⟨aq,c2⟩,⟨c3,c4⟩⟩,aj⟩:∃f,B[k]?=some f:=⟨_,bq (by omega)⟩;have aab:=pU _ (dn M);have axu:=ajl _ (dn aj);have a3:(A.zip B)[k]?=some (((cE,cO),(ei,eS)),((aq,c2),(c3,c4))):=by rw[List.getElem?_zip_eq_some];exact⟨M,aj⟩
  have d1:decide ((k:Int)<(D A:Int))=true:=cT;have bG:=ec (i:=k) (by omega);have xM:=ajh ((cE,cO),(ei,eS)) ((c0,ee),(gz,gW)) ((aq,c2),(c3,c4)) ⟨aab,ajo,axu⟩;rcases e2:iU ((cE,cO),(ei,eS)) ((c0,ee),(gz,gW)) ((aq,c2),(c3,c4)) with ⟨⟨⟨ic,kr⟩,⟨o5,o6⟩⟩,Bc⟩;rw[e2] at xM;simp only[ar,cG] at xM;have fP:=ajj (op:=λa:a7×a7=>iU a.1 ((c0,ee),(gz,gW)) a.2) (e:=oB) (l:=A.zip B) (k:=k);rw[ajp] at fP;rcases aF:(Bc==0)
  ·have hu:=Z4 (op:=λa:a7×a7=>iU a.1 ((c0,ee),(gz,gW)) a.2) (e:=oB) dB a3 (by dsimp only;rw[e2];exact aF);rw[hu];simp only[go_sem,go_sem_proc,Z8,J,aT,bx,cu,dS,hp,eP,fx,AW,sd,Z9,aaa,d1,M,aj,xM,aF,ar,dD,cC,bj,db,bne];rw[gi _ fP 3 _ (by simp[a9,xx])]
   rfl
  ·have iQ:Bc=0:=beq_iff_eq.1 aF;subst iQ;have kF:=aji (op:=λa:a7×a7=>iU a.1 ((c0,ee),(gz,gW)) a.2) (e:=oB) a3;dsimp only at kF;rw[e2] at kF;have fz:k<(((A.zip B).take k).map (λa=>(iU a.1 ((c0,ee),(gz,gW)) a.2).1)++((A.zip B).drop k).map oB).length:=by rw[fP];exact az
   have dF:=C1 fz ic kr o5 o6;rw[kF] at dF;have Ij:=wc fz;simp only[go_sem,go_sem_proc,Z8,J,aT,bx,cu,dS,hp,eP,fx,AW,sd,Z9,aaa,xx,d1,bG,az,M,aj,xM,dF,Ij,ar,bj,beq_self_eq_true,cw,bne]
   exact⟨k+1,by omega,by omega,λa aW=>by
    rw[gB,a3,jb] at aW;rcases aW with aW|aW
    ·exact dB a aW
    ·simp at aW;rw[aW,e2],rfl,rfl⟩
 ·obtain rfl:k=D A:=by omega
  have d1:decide ((D A:Int)<(D A:Int))=false:=cl;have gm:(A.zip B).take (D A)=A.zip B:=dp (by omega);have vK:(A.zip B).drop (D A)=[]:=lO (by omega);rw[gm] at dB;rw[gm,vK,cC,gS] at xx;have hu:=Rb (op:=λa:a7×a7=>iU a.1 ((c0,ee),(gz,gW)) a.2) (e:=oB) dB;rw[hu];have xM:=ajh ((v1,v2),(iz,v4)) ((c0,ee),(gz,gW)) ((lQ,ho),(we,zi)) ⟨⟨uS,mu⟩,ajo,⟨ajm,ajn⟩⟩;rcases e2:iU ((v1,v2),(iz,v4)) ((c0,ee),(gz,gW)) ((lQ,ho),(we,zi)) with ⟨⟨⟨ic,kr⟩,⟨o5,o6⟩⟩,Bc⟩;rw[e2] at xM;simp only[ar,cG] at xM;simp only[go_sem,go_sem_proc,Z8,J,aT,bx,cu,dS,hp,eP,fx,AW,sd,Z9,aaa,d1,xM];rw[gi ((A.zip B).map λa=>(iU a.1 ((c0,ee),(gz,gW)) a.2).1) (by rw[aE];exact ajp) 3 _ (by simp[a9,xx])]
  rfl
def iV (x:b9)(c:Nat):a7:=x.1.getD c dD
def gA (rows:List b9)(r c:Nat):Nat:=r+(rows.drop r).findIdx λx => !gP (iV x c)
def sk (rows:List b9)(i:Nat):b9:=rows.getD i ([],dD)
def hs (p:b9)(r c:Nat):Nat->List b9->List b9×Bool
 |_,[]=>([],true)
 |i,x::xs=>if (i==r||gP (iV x c))=true then (x::(hs p r c (i+1) xs).1,(hs p r c (i+1) xs).2)
  else if (nS x p c).2=true then ((nS x p c).1::(hs p r c (i+1) xs).1,(hs p r c (i+1) xs).2) else (x::xs,false)
def mA (rows:List b9)(i j:Nat):List b9:=(rows.set i (sk rows j)).set j (sk rows i)
def m4 (stop:Bool):Nat->Nat->List b9->Nat->List Nat->List b9×List Nat×Bool
 |0,_,rows,_,free=>(rows,free,true)
 |k+1,c,rows,r,free =>
  if gA rows r c=(D rows) then (if stop=true then (rows,free++[c],true) else m4 stop k (c+1) rows r (free++[c]))
  else if (ij (sk (mA rows r (gA rows r c)) r) c).2=true then
   (if (hs (ij (sk (mA rows r (gA rows r c)) r) c).1 r c 0 ((mA rows r (gA rows r c)).set r (ij (sk (mA rows r (gA rows r c)) r) c).1)).2=true then
    m4 stop k (c+1) (hs (ij (sk (mA rows r (gA rows r c)) r) c).1 r c 0 ((mA rows r (gA rows r c)).set r (ij (sk (mA rows r (gA rows r c)) r) c).1)).1 (r+1) free
   else ((hs (ij (sk (mA rows r (gA rows r c)) r) c).1 r c 0 ((mA rows r (gA rows r c)).set r (ij (sk (mA rows r (gA rows r c)) r) c).1)).1,free,false))
  else (mA rows r (gA rows r c),free,false)
def o9 (N:Nat)(rows:List b9):Prop:=D rows=N/\∀x∈rows,x.1.length=N/\k8 x
theorem axv {rows:List b9}{r c i:Nat}{x:b9}(M:rows[i]?=some x)(Y:r<=i)(a3:∀j y,r<=j->j<i->rows[j]?=some y->gP (iV y c)=true)(h:gP (iV x c)=false):gA rows r c=i:=by
 unfold gA;obtain⟨az,Zc⟩:=ej.1 M
 have:(rows.drop r).findIdx (λx => !gP (iV x c))=i-r:=by
  rw[aiB (by rw[nE];omega)];refine⟨?_,λj aA=>?_⟩
  ·rw[C0];have:rows[r+(i-r)]?=some x:=by rw[show r+(i-r)=i by omega];exact M
   rw[(ej.1 this).2,h];rfl
  ·rw[C0];have:=a3 (r+j) _ (by omega) (by omega) (bq (by omega));rw[this];rfl
 omega
theorem axw {rows:List b9}{r c:Nat}(Y:r<=D rows)(a3:∀j y,r<=j->rows[j]?=some y->gP (iV y c)=true):gA rows r c=D rows:=by
 unfold gA
 have:(rows.drop r).findIdx (λx => !gP (iV x c))=(rows.drop r).length:=by
  rw[aiC];intro y aj;obtain⟨j,aA⟩:=yJ.1 aj;rw[qX] at aA;rw[a3 (r+j) y (by omega) aA];rfl
 rw[this,nE];omega
theorem C8 {rows:List b9}{i:Nat}{x:b9}(h:rows[i]?=some x):sk rows i=x:=by
 unfold sk;rw[ep,h];rfl
theorem ajr {x:b9}{c:Nat}{f:a7}(h:x.1[c]?=some f):iV x c=f:=by
 unfold iV;rw[ep,h];rfl
theorem Iz {l:List b9}{k:Nat}(h:k<D l):(k*5+5<=(aV de l).length)=True:=eq_true (by rw[kX qs];omega)
theorem ajs {l:List b9}{k:Nat}(h:k<D l):(k*5+1<=(aV de l).length)=True:=eq_true (by rw[kX qs];omega)
theorem Rg {l:List b9}{k:Nat}(h:k<D l)(A:List a7)(a:Int)(b:List Int)(c:Int)(d:List Int):
  hY (k*5) (aV de l)++[R.I (.X (A.map ar)),R.I (.int .i64 a),.I (.X (b.map ae)),.I (.int .i64 c),.I (.X (d.map ae))]++iP (k*5+5) (aV de l)=aV de (l.set k (A,((a,b),(c,d)))):=by
 rw[<-UC qs h]
 rfl
theorem IA {l:List b9}{k:Nat}{A a b c d}(h:l[k]?=some (A,((a,b),(c,d)))):hY 5 (iP (k*5) (aV de l))=[R.I (.X (A.map ar)),R.I (.int .i64 a),.I (.X (b.map ae)),.I (.int .i64 c),.I (.X (d.map ae))]:=by
 have sT:=Pb qs h (f:=0) (n:=5) (by omega);unfold cut at sT;rw[ad (by rw[kX qs];have:=(ej.1 h).1;omega)] at sT;exact oh sT
theorem ajt {l:List b9}{k:Nat}{A a b c d}(h:l[k]?=some (A,((a,b),(c,d)))):hY 1 (iP (k*5) (aV de l))=[R.I (.X (A.map ar))]:=by
 have:=congrArg (hY 1) (IA h);rw[List.take_take] at this;exact this
theorem Rh {K:bo->Prop}{tm:Nat->R}{m:Mem}(P:(Nat->R)->Mem->Prop)(ax:P tm m)(h:∀tm m,P tm m->K ⟨tm,m⟩):kn K ⟨tm,m⟩ .move:=arE (h tm m ax)
theorem aac {α:Type}{op:α->a7×Int}{e:α->a7}:∀l:List α,(m3 op e l).1.length=D l
 | []=>rfl
 |a::r=>by
  unfold m3
  split
  ·simp[aac r]
  ·simp
theorem aad {α:Type}{op:α->a7×Int}{e:α->a7}(G:∀a,okF (op a).1):∀l:List α,(∀a∈l,okF (e a))->∀f∈(m3 op e l).1,okF f
 | [],_,f,aC=>by simp[m3] at aC
 |a::r,h,f,aC=>by
  unfold m3 at aC
  split at aC
  ·rcases lS.1 aC with rfl|aC
   ·exact G a
   ·exact aad G r (λb ah=>h b (hO _ ah)) f aC
  ·obtain⟨b,ah,rfl⟩:=fO.1 aC;exact h b ah
theorem aae {N:Nat}{x:b9}(h:x.1.length=N/\k8 x)(c:Nat):(ij x c).1.1.length=N/\k8 (ij x c).1:=by
 obtain⟨aw,⟨wj,rp⟩,qe⟩:=h;have G:∀f∈(m3 (λa=>fE a (x.1.getD c dD)) id x.1).1,okF f:=aad (λa=>QU _ _) x.1 rp;have J:=aac (op:=λa=>fE a (x.1.getD c dD)) (e:=id) x.1;unfold ij
 split
 ·exact⟨by dsimp only;omega,⟨⟨by dsimp only;omega,G⟩,QU _ _⟩⟩
 ·exact⟨by dsimp only;omega,⟨⟨by dsimp only;omega,G⟩,rj⟩⟩
theorem aju {N:Nat}{x y:b9}(h:x.1.length=N/\k8 x)(aj:y.1.length=N)(c:Nat):(nS x y c).1.1.length=N/\k8 (nS x y c).1:=by
 obtain⟨aw,⟨wj,rp⟩,qe⟩:=h;have a3:(x.1.zip y.1).length=N:=by rw[ajq];omega
 have G:∀f∈(m3 (λa:a7×a7=>iU a.1 (x.1.getD c dD) a.2) oB (x.1.zip y.1)).1,okF f:=aad (λa=>ajk _ _ _) _ λa aW=>rp _ (List.of_mem_zip aW).1;have J:=aac (op:=λa:a7×a7=>iU a.1 (x.1.getD c dD) a.2) (e:=oB) (x.1.zip y.1);unfold nS
 split
 ·exact⟨by dsimp only;omega,⟨⟨by dsimp only;omega,G⟩,ajk _ _ _⟩⟩
 ·exact⟨by dsimp only;omega,⟨⟨by dsimp only;omega,G⟩,rj⟩⟩
theorem Mp {N:Nat}{p:b9}{r c:Nat}(aF:p.1.length=N):∀(i:Nat) (l:List b9),(∀x∈l,x.1.length=N/\k8 x)->(hs p r c i l).1.length=D l/\∀x∈(hs p r c i l).1,x.1.length=N/\k8 x
 |_,[],h=>⟨rfl,h⟩
 |i,x::xs,h=>by
  obtain⟨i1,i2⟩:=Mp (r:=r) (c:=c) aF (i+1) xs λy aj=>h y (hO _ aj);unfold hs
  split
  ·refine⟨by simp[i1],λy aj=>?_⟩
   rcases lS.1 aj with rfl|aj
   ·exact h _ g3
   ·exact i2 y aj
  ·split
   ·refine⟨by simp[i1],λy aj=>?_⟩
    rcases lS.1 aj with rfl|aj
    ·exact aju (h _ g3) aF c
    ·exact i2 y aj
   ·exact⟨rfl,h⟩
theorem o9.set {N:Nat}{rows:List b9}(h:o9 N rows){i:Nat}{x:b9}(M:x.1.length=N/\k8 x):o9 N (rows.set i x):=by
 refine⟨by rw[jF];exact h.1,λy aj=>?_⟩
 rcases Fj aj with aj|rfl
 ·exact h.2 y aj
 ·exact M
theorem ajv {p x:b9}{r c i:Nat}{xs:List b9}(h:(i==r||gP (iV x c))=true):hs p r c i (x::xs)=(x::(hs p r c (i+1) xs).1,(hs p r c (i+1) xs).2):=by rw[hs,ad h]
theorem ajw {p x:b9}{r c i:Nat}{xs:List b9}(h:¬ ((i==r||gP (iV x c))=true))(J:(nS x p c).2=true):hs p r c i (x::xs)=((nS x p c).1::(hs p r c (i+1) xs).1,(hs p r c (i+1) xs).2):=by rw[hs,ag h,ad J]
theorem ajx {p x:b9}{r c i:Nat}{xs:List b9}(h:¬ ((i==r||gP (iV x c))=true))(J:(nS x p c).2=false):hs p r c i (x::xs)=(x::xs,false):=by rw[hs,ag h,ag (by rw[J];simp)]
theorem axx (T:bl)(wo:T Hg=aQ L1){K:eI->bo->Prop}{kk:List fJ}(N g r c:Nat)(rows:List b9)(stop:Bool)(v10:R)(cM:o9 N rows)(Y:r<=N)(H:c<N)(fK:N<=40)(tm:Nat->R)(m:Mem)
  (av:tm 1=.I (.int .i64 N)) (aB:tm 2=.I (.bool stop)) (eB:tm 9=.ref 194021 g 5 0 N) (fq:tm 10=v10) (iW:tm 11=.I (.int .i64 r)) (fo:tm 12=.I (.int .i64 c)) (gu:tm 13=.I (.int .i64 r)) (em:m 194021=some (g,aV de rows))
  (cZ:∀tm',tm' 1=.I (.int .i64 N)->tm' 2=.I (.bool stop)->tm' 9=.ref 194021 g 5 0 N->tm' 10=v10->tm' 11=.I (.int .i64 r)->tm' 12=.I (.int .i64 c)->tm' 13=.I (.int .i64 (gA rows r c:Nat))->cd T K kk (.exit 2) ⟨tm',m⟩) :
  wp T (Fh.body.uI [1,1,1,1,0,1,0,0,0,1,0,0,1,0,0]) (cd T K kk) ⟨tm,m⟩:=by
 simp only[Fh,er.uI];refine cU [1,2,9,10,11,12] [] (λ(i:Nat) tm' m'=>r<=i/\i<=N/\(∀j y,r<=j->j<i->rows[j]?=some y->gP (iV y c)=true)/\tm' 13=.I (.int .i64 i)/\m'=m) (λi=>N-i) r (by refine⟨cH _,Y,λj y G J=>by omega,gu,rfl⟩) ?_;intro vs ms aJ aH;simp only[go_sem,go_sem_proc,av,aB,eB,fq,iW,fo] at aJ aH;subst aJ aH;clear av aB eB fq iW fo gu tm;rintro i tm m' L-⟨j7,Ma,a3,jG,rfl⟩;simp only[go_sem,go_sem_proc,bk] at L;obtain⟨G,J,eK,dS,hp,eP⟩:=L;have aw:=cM.1;rcases dc (i<N) with az|b2
 ·obtain⟨⟨A,⟨v1,v2⟩,⟨iz,v4⟩⟩,M⟩:∃x,rows[i]?=some x:=⟨_,bq (by omega)⟩;obtain⟨si,-⟩:=cM.2 _ (dn M);dsimp only at si;obtain⟨⟨⟨f1,f2⟩,⟨f3,f4⟩⟩,aC⟩:∃f,A[c]?=some f:=⟨_,bq (by omega)⟩;have nf:iV (A,((v1,v2),(iz,v4))) c=((f1,f2),(f3,f4)):=ajr aC;have xl:=ajt M;have nA:=ajs (l:=rows) (k:=i) (by omega);have d1:decide ((i:Int)<(N:Int))=true:=cT;have ajy:c<D A:=by omega
  have bG:=ec (i:=i) (by omega);rcases mV:(f1==0)
  ·have Mc:gA rows r c=i:=axv M j7 a3 (by rw[nf];exact mV);rw[Mc] at cZ;simp only[go_sem,go_sem_proc,wo,G,eK,eP,jG,em,d1,az,xl,nA,aC,mV,ar,bj,lP];refine cZ _ ?_ ?_ ?_ ?_ ?_ ?_ ?_<;>simp only[dk,cp,if_false,G,J,eK,dS,hp,eP,jG]
  ·simp only[go_sem,go_sem_proc,wo,G,J,eK,dS,hp,eP,jG,em,d1,bG,az,xl,nA,aC,mV,ar,bj,lP];refine⟨i+1,by omega,by omega,by omega,λj y G J aj=>?_,rfl⟩
   rcases g2 j i with h|h
   ·exact a3 j y G h aj
   ·obtain rfl:j=i:=by omega
    rw[M] at aj
    cases aj;rw[nf];exact mV
 ·obtain rfl:i=N:=by omega
  have d1:decide ((i:Int)<(i:Int))=false:=cl;have Mc:gA rows r c=i:=by rw[axw (by omega) λj y G aj=>a3 j y G (by have:=(ej.1 aj).1;omega) aj,aw]
  rw[Mc] at cZ;simp only[go_sem,go_sem_proc,G,jG,d1];refine cZ _ ?_ ?_ ?_ ?_ ?_ ?_ ?_<;>simp only[dk,cp,if_false,G,J,eK,dS,hp,eP,jG]
theorem axy (T:bl)(wo:T Hg=aQ L1)(Fv:T Pr=aQ Re){K:eI->bo->Prop}{kk:List fJ}(N g r c:Nat)(e3:List b9)(p:b9)(stop:Bool)(v10:R)(aaf:Option (Nat×List R))(cM:o9 N e3)(aF:e3[r]?=some p)(H:c<N)(fK:N<=40)(tm:Nat->R)(m:Mem)
  (av:tm 1=.I (.int .i64 N)) (aB:tm 2=.I (.bool stop)) (eB:tm 9=.ref 194021 g 5 0 N) (fq:tm 10=v10) (iW:tm 11=.I (.int .i64 r)) (fo:tm 12=.I (.int .i64 c)) (o7:tm 17=.I (.int .i64 0)) (em:m 194021=some (g,aV de e3)) (mB:m 194050=aaf)
  (cZ:(hs p r c 0 e3).2=true->∀tm' m',tm' 1=.I (.int .i64 N)->tm' 2=.I (.bool stop)->tm' 9=.ref 194021 g 5 0 N->tm' 10=v10->tm' 11=.I (.int .i64 r)->tm' 12=.I (.int .i64 c)->m' 194021=some (g,aV de (hs p r c 0 e3).1)->m' 194050=aaf->cd T K kk (.exit 4) ⟨tm',m'⟩)
  (dG:(hs p r c 0 e3).2=false->∀tm' m',tm' 6=.ref 194021 g 5 0 N->tm' 7=v10->tm' 8=.I (.bool false)->m' 194021=some (g,aV de (hs p r c 0 e3).1)->m' 194050=aaf->cd T K kk .ret ⟨tm',m'⟩) :
  wp T (Fh.body.uI [1,1,1,1,0,1,0,0,0,1,0,0,1,1,1,1,1,1,1,1,1,0,1,0]) (cd T K kk) ⟨tm,m⟩:=by
 simp only[Fh,er.uI];refine cU [1,2,9,10,11,12] [194050] (λ((i,pre):Nat×List b9) tm' m'=>i<=N/\D pre=i/\(∀x∈pre,x.1.length=N/\k8 x)/\(r<i->pre[r]?=some p)/\hs p r c 0 e3=(pre++(hs p r c i (e3.drop i)).1,(hs p r c i (e3.drop i)).2)/\tm' 17=.I (.int .i64 i)/\m' 194021=some (g,aV de (pre++e3.drop i))) (λ(i,_)=>N-i) (0,[]) (by refine⟨fm _,rfl,by simp,λh=>by omega,by simp,o7,by simpa using em⟩) ?_;intro vs ms aJ aH;simp only[go_sem,go_sem_proc,av,aB,eB,fq,iW,fo,mB] at aJ aH;subst aJ aH;clear av aB eB fq iW fo o7 em mB tm m;rintro⟨i,pre⟩ tm m L hm ⟨Ma,ia,AB,uX,IB,nm,te⟩;simp only[go_sem,go_sem_proc,bk] at L hm;obtain⟨G,J,eK,dS,hp,eP⟩:=L;have aw:=cM.1;rcases dc (i<N) with az|b2
 ·obtain⟨⟨A,⟨v1,v2⟩,⟨iz,v4⟩⟩,M⟩:∃x,e3[i]?=some x:=⟨_,bq (by omega)⟩;obtain⟨si,pU⟩:=cM.2 _ (dn M);dsimp only at si
  have ux:e3.drop i=(A,((v1,v2),(iz,v4)))::e3.drop (i+1):=by
   obtain⟨B1,e⟩:=ej.1 M;rw[h9 B1,e]
  have A2:(pre++e3.drop i)[i]?=some (A,((v1,v2),(iz,v4))):=by rw[nc (by omega),ia,jy,ux];rfl
  have fv:(pre++e3.drop i).length=N:=by rw[fX,nE];omega
  have d1:decide ((i:Int)<(N:Int))=true:=cT;have bG:=ec (i:=i) (by omega)
  have xJ:(i==r||gP (iV (A,((v1,v2),(iz,v4))) c))=true->∃bm:Nat×List b9,N-bm.1<N-i/\bm.1<=N/\bm.2.length=bm.1/\(∀x∈bm.2,x.1.length=N/\k8 x)/\(r<bm.1->bm.2[r]?=some p)/\hs p r c 0 e3=(bm.2++(hs p r c bm.1 (e3.drop bm.1)).1,(hs p r c bm.1 (e3.drop bm.1)).2)/\R.I (.int .i64 ((i+1:Nat):Int))=R.I (.int .i64 (bm.1:Nat))/\some (g,aV de (pre++e3.drop i))=some (g,aV de (bm.2++e3.drop bm.1)):=by
   intro U;refine⟨(i+1,pre++[(A,((v1,v2),(iz,v4)))]),by dsimp only;omega,by dsimp only;omega,by simp[ia],λx vv=>?_,λh=>?_,?_,rfl,?_⟩
   ·rcases jb.1 vv with h|h
    ·exact AB x h
    ·rw[xk] at h;rw[h];exact⟨si,pU⟩
   ·dsimp only at h ⊢;rcases g2 r i with cW|cW
    ·rw[oe (by omega)];exact uX cW
    ·obtain rfl:r=i:=by omega
     rw[nc (by omega),ia,jy];rw[aF] at M;rw[oh M];rfl
   ·dsimp only;rw[IB,ux,ajv U,gT]
    rfl
   ·dsimp only;rw[ux,gT];rfl
  by_cases pT:i=r
  ·have ah:((i:Int)==(r:Int))=true:=by rw[beq_iff_eq];omega
   simp only[go_sem,go_sem_proc,G,J,eK,dS,hp,eP,nm,hm,te,d1,bG,ah];exact xJ (by rw[show (i==r)=true by simpa using pT];rfl)
  have ah:((i:Int)==(r:Int))=false:=by rw[beq_eq_false_iff_ne];omega
  obtain⟨⟨⟨f1,f2⟩,⟨f3,f4⟩⟩,aC⟩:∃f,A[c]?=some f:=⟨_,bq (by omega)⟩;have nf:iV (A,((v1,v2),(iz,v4))) c=((f1,f2),(f3,f4)):=ajr aC;have xl:=ajt A2;have nA:=ajs (l:=pre++e3.drop i) (k:=i) (by omega);have ajy:c<D A:=by omega
  rcases mV:(f1==0)
  case true =>
   simp only[go_sem,go_sem_proc,wo,G,J,eK,dS,hp,eP,nm,hm,te,d1,bG,ah,az,xl,nA,aC,mV,ar,bj,lP];exact xJ (by rw[nf,show gP ((f1,f2),(f3,f4))=true from mV,Ag])
  have oG:r<N:=by have:=(ej.1 aF).1;omega
  have qo:(pre++e3.drop i)[r]?=some p:=by
   rcases g2 r i with cW|cW
   ·rw[oe (by omega)];exact uX cW
   ·rw[nc (by omega),qX,ia,show i+(r-i)=r by omega];exact aF
  obtain⟨aag,ts⟩:=cM.2 _ (dn aF);have ue:=axs (A,((v1,v2),(iz,v4))) p c ⟨pU,ts,by dsimp only;omega,by dsimp only;omega,ajy⟩
  have m5:=aju (N:=N) (x:=(A,((v1,v2),(iz,v4)))) (y:=p) ⟨si,pU⟩ aag c;dsimp only at ue;rw[si] at ue;obtain⟨P,⟨lQ,ho⟩,⟨we,zi⟩⟩:=p;rcases ku:nS (A,((v1,v2),(iz,v4))) (P,((lQ,ho),(we,zi))) c with ⟨⟨rq,⟨a5,bX⟩,⟨cS,eC⟩⟩,ok⟩;rw[ku] at ue m5;simp only[de,ar] at ue;have KA:=IA A2;have Fw:=IA qo;have mv:=Iz (l:=pre++e3.drop i) (k:=i) (by omega);have AJ:=Iz (l:=pre++e3.drop i) (k:=r) (by omega)
  have zm:¬ ((i==r||gP (iV (A,((v1,v2),(iz,v4))) c))=true):=by
   rw[nf,show gP ((f1,f2),(f3,f4))=false from mV,Bool.or_false]
   simpa using pT
  cases ok
  ·have jr:hs (P,((lQ,ho),(we,zi))) r c 0 e3=(pre++e3.drop i,false):=by
    rw[IB,ux,ajx zm (by rw[ku])]
   rw[jr] at dG;simp only[go_sem,go_sem_proc,wo,Fv,G,eK,dS,hp,eP,nm,te,d1,ah,az,oG,xl,nA,aC,mV,KA,Fw,mv,AJ,ue,ar,bj,lP,db];refine dG rfl _ _ ?_ ?_ ?_ ?_ ?_<;>first|rfl|(simp[eK,dS];done)|(simp[a9,te,hm];done)
  ·have HR:=Rg (l:=pre++e3.drop i) (k:=i) (by omega) rq a5 bX cS eC
   have xn:(pre++e3.drop i).set i (rq,((a5,bX),(cS,eC)))=(pre++[(rq,((a5,bX),(cS,eC)))])++e3.drop (i+1):=by
    rw[zf _ _ (by omega),ia,jy,ux,mx,gT]
    rfl
   rw[xn] at HR;simp only[go_sem,go_sem_proc,wo,Fv,G,J,eK,dS,hp,eP,nm,hm,te,d1,bG,ah,az,oG,xl,nA,aC,mV,KA,Fw,mv,AJ,ue,HR,ar,bj,lP,cw];refine⟨(i+1,pre++[(rq,((a5,bX),(cS,eC)))]),by dsimp only;omega,by dsimp only;omega,by simp[ia],λx vv=>?_,λh=>?_,?_,rfl,rfl⟩
   ·rcases jb.1 vv with h|h
    ·exact AB x h
    ·rw[xk] at h;rw[h];exact m5
   ·dsimp only at h ⊢;rw[oe (by omega)];exact uX (by omega)
   ·dsimp only;rw[IB,ux,ajw zm (by rw[ku]),ku,gT]
    rfl
 ·obtain rfl:i=N:=by omega
  have d1:decide ((i:Int)<(i:Int))=false:=cl;have j8:e3.drop i=[]:=lO (by omega);rw[j8] at te IB;simp only[hs,gS] at IB te;rw[IB] at cZ;simp only[go_sem,go_sem_proc,G,nm,d1];refine cZ rfl _ _ ?_ ?_ ?_ ?_ ?_ ?_ te hm<;>simp only[dk,cp,if_false,G,J,eK,dS,hp,eP]
def sl (n:Nat):List Data:=[.int .i64 n]
theorem Ri (n:Nat):(sl n).length=1:=rfl
theorem axz (n:Nat):((sl n).map R.I).all R.one=true:=rfl
theorem ajz {stop:Bool}{k c r:Nat}{rows:List b9}{free:List Nat}(h:gA rows r c=D rows):m4 stop (k+1) c rows r free=if stop=true then (rows,free++[c],true) else m4 stop k (c+1) rows r (free++[c]):=by rw[m4,ad h]
theorem ajA {stop:Bool}{k c r:Nat}{rows:List b9}{free:List Nat}{gp:List b9}{x:b9}(h:gA rows r c≠(D rows))(U:mA rows r (gA rows r c)=gp)(M:sk gp r=x):m4 stop (k+1) c rows r free =
  if (ij x c).2=true then (if (hs (ij x c).1 r c 0 (gp.set r (ij x c).1)).2=true then m4 stop k (c+1) (hs (ij x c).1 r c 0 (gp.set r (ij x c).1)).1 (r+1) free else ((hs (ij x c).1 r c 0 (gp.set r (ij x c).1)).1,free,false)) else (gp,free,false):=by rw[m4,ag h,U,M]
def Bd (bu:List b9×List Nat×Bool):Data:=.c1 [.X (bu.1.map de),.X (bu.2.1.map sl),.bool bu.2.2]
theorem aah (rows:List b9)(r c:Nat)(Y:r<=D rows):r<=gA rows r c/\gA rows r c<=D rows:=by
 unfold gA;have:=ai3 (p:=λx => !gP (iV x c)) (xs:=rows.drop r);rw[nE] at this;omega
abbrev aai:(List b9)×Bool->List Data:=λ(rs,stop)=>[.X (rs.map de),.int .i64 (D rs:Nat),.bool stop]
def Rj:=cn aai λ(rs,stop)=>cN (o9 (D rs) rs/\D rs<=40) (.same (Bd (m4 stop (D rs) 0 rs 0 [])))
theorem axA:∀a b,aai a=aai b->a=b:=by
  rintro⟨Qp,awK⟩ ⟨Qq,awL⟩ h;simp only[bk,Data.X.injEq,Data.bool.injEq] at h;exact dN (map_inj CP _ _ h.1) h.2.2.1
@[go_sem] theorem axB (rs:List b9)(stop:Bool)(H:o9 (D rs) rs/\D rs<=40):Rj [.X (rs.map de),.int .i64 (D rs:Nat),.bool stop]=some (.same (Bd (m4 stop (D rs) 0 rs 0 []))):=(cz axA (rs,stop)).trans (cX H _)
theorem axC (T:bl)(Rk:T Vg=aQ Z2)(wo:T Hg=aQ L1)(Rl:T Vh=aQ Z6)(Fv:T Pr=aQ Re)(rs:List b9)(stop:Bool)(H:o9 (D rs) rs/\D rs<=40):WP T Fh (.same (Bd (m4 stop (D rs) 0 rs 0 []))) [.I (.X (rs.map de)),.I (.int .i64 (D rs:Nat)),.I (.bool stop)]:=by
 refine cD ?_;simp only[Fh];obtain⟨cM,fK⟩:=H;have axD:kz rs:=⟨by omega,λr Y=>(cM.2 r Y).2⟩
 have qk:=axi rs ⟨by omega,axD⟩
 have gd:((rs.map de).flatten.map R.I)=aV de rs:=rfl;have Lv:m4 stop (D rs) 0 rs 0 []=m4 stop (D rs) 0 rs 0 []:=rfl;generalize axE:(D rs)=N at *;generalize Fx:m4 stop N 0 rs 0 []=jW at Lv ⊢;simp only[go_sem,go_sem_proc,Rk,qk,gd,aE,axE];refine cU [1,2,9] [] (λ((c,r,jK,rows,free):Nat×Nat×Nat×List b9×List Nat) tm m=>c<=N/\r+D free=c/\o9 N rows/\jW=m4 stop (N-c) c rows r free/\tm 12=.I (.int .i64 c)/\tm 11=.I (.int .i64 r)/\tm 10=.ref 194050 jK 1 0 (D free)/\m 194021=some (0,aV de rows)/\m 194050=some (jK,aV sl free)) (λ(c,_)=>N-c) (0,0,0,rs,[]) (by refine⟨fm _,rfl,cM,?_,rfl,rfl,rfl,?_,?_⟩<;>first|exact Fx.symm|rfl) ?_
 intro vs ms aJ aH;simp only[go_sem,go_sem_proc] at aJ aH;subst aJ aH;rintro⟨c,r,jK,rows,free⟩ tm m L-⟨wh,iG,IC,gF,eP,hp,dS,rr,sm⟩;simp only[go_sem,go_sem_proc,bk] at L;obtain⟨G,J,eK⟩:=L;have aw:=IC.1;rcases dc (c<N) with az|b2
 ·have d1:decide ((c:Int)<(N:Int))=true:=cT;have bG:=ec (i:=c) (by omega);have m0:=ec (i:=r) (by omega);obtain⟨k,L⟩:∃k,N-c=k+1:=⟨N-c-1,by omega⟩
  rw[L] at gF;simp only[go_sem,go_sem_proc,G,eP,d1];refine Rh (λtm m=>tm 1=.I (.int .i64 N)/\tm 2=.I (.bool stop)/\tm 9=.ref 194021 0 5 0 N/\tm 10=.ref 194050 jK 1 0 (D free)/\tm 11=.I (.int .i64 r)/\tm 12=.I (.int .i64 c)/\m 194021=some (0,aV de rows)/\m 194050=some (jK,aV sl free)) (by refine⟨?_,?_,?_,?_,?_,?_,?_,?_⟩<;>first|rfl|assumption|simp only[go_sem,go_sem_proc,Rk,wo,Rl,Fv,G,J,eK,dS,hp,eP]) ?_
  clear G J eK dS hp eP rr sm tm m;rintro tm m ⟨G,J,eK,dS,hp,eP,rr,sm⟩;simp only[go_sem,go_sem_proc,hp];refine axx T wo N 0 r c rows stop (.ref 194050 jK 1 0 (D free)) IC (by omega) az fK _ _ ?_ ?_ ?_ ?_ ?_ ?_ ?_ ?_ ?_
  ·simp only[go_sem,go_sem_proc,G]
  ·simp only[go_sem,go_sem_proc,J]
  ·simp only[go_sem,go_sem_proc,eK]
  ·simp only[go_sem,go_sem_proc,dS]
  ·simp only[go_sem,go_sem_proc,hp]
  ·simp only[go_sem,go_sem_proc,eP]
  ·rfl
  ·exact rr
  intro tm' cB dA kv oy pI mZ r9;have bY:=aah rows r c (by omega);rw[aw] at bY;simp only[go_sem,go_sem_proc];refine Rh (λtm m=>tm 1=.I (.int .i64 N)/\tm 2=.I (.bool stop)/\tm 9=.ref 194021 0 5 0 N/\tm 10=.ref 194050 jK 1 0 (D free)/\tm 11=.I (.int .i64 r)/\tm 12=.I (.int .i64 c)/\tm 13=.I (.int .i64 (gA rows r c:Nat))/\m 194021=some (0,aV de rows)/\m 194050=some (jK,aV sl free)) ⟨cB,dA,kv,oy,pI,mZ,r9,rr,sm⟩ ?_;clear G J eK dS hp eP cB dA kv oy pI mZ r9 rr sm tm tm' m;rintro tm m ⟨G,J,eK,dS,hp,eP,jG,rr,sm⟩
  by_cases aC:gA rows r c=N
  ·have d2:((((gA rows r c:Nat):Int))==(N:Int))=true:=by rw[beq_iff_eq];omega
   have dv:=jm Ri axz 194050 jK 8 free c (cs:=[.I (.int .i64 c)]) rfl (by omega) (by omega);rw[ajz (by rw[aw];exact aC)] at gF
   cases stop
   ·rw[ag (by simp)] at gF;simp only[go_sem,go_sem_proc,G,J,eK,dS,hp,eP,jG,rr,sm,d2,dv,bG];exact⟨(c+1,r,jK+1,rows,free++[c]),by dsimp only;omega,by dsimp only;omega,by simp;omega,IC,by dsimp only;rw[gF,show N-(c+1)=k by omega],rfl,rfl,by simp,rfl,rfl⟩
   ·rw[ad rfl] at gF
    have uU:∀n (m:Mem),m 194021=some (0,aV de rows)->dz (n+1) m (.ref 194021 0 5 0 N)=some (.X (rows.map de)):=λn m hm=>by
     have:=jU (n:=n) qs hm;rwa [aw] at this
    have rn:∀n (m:Mem),m 194050=some (jK+1,aV sl (free++[c]))->dz (n+1) m (.ref 194050 (jK+1) 1 0 (D free+1))=some (.X ((free++[c]).map sl)):=λn m hm=>by
     have:=jU (n:=n) Ri hm;rwa [fX,List.length_singleton] at this
    rw[gF];simp only[go_sem,go_sem_proc,G,J,eK,dS,eP,jG,sm,d2,dv,Bd];rw[uU 4 _ (by simp[a9,rr]),rn 4 _ (by simp[a9])]
    rfl
  ·have d2:((((gA rows r c:Nat):Int))==(N:Int))=false:=by rw[beq_eq_false_iff_ne];omega
   generalize U:gA rows r c=s at *;have wq:s<N:=by omega
   have oG:r<N:=by omega
   obtain⟨⟨rq,⟨a5,bX⟩,⟨cS,eC⟩⟩,M⟩:∃x,rows[s]?=some x:=⟨_,bq (by omega)⟩;obtain⟨⟨Mq,⟨lz,mW⟩,⟨tv,tw⟩⟩,aj⟩:∃x,rows[r]?=some x:=⟨_,bq (by omega)⟩
   have qx:mA rows r (gA rows r c)=(rows.set r (rq,((a5,bX),(cS,eC)))).set s (Mq,((lz,mW),(tv,tw))):=by
    unfold mA;rw[U,C8 M,C8 aj]
   have uQ:((rows.set r (rq,((a5,bX),(cS,eC)))).set s (Mq,((lz,mW),(tv,tw))))[r]?=some (rq,((a5,bX),(cS,eC))):=by
    rw[lG,lG,jF]
    by_cases h:s=r
    ·subst h;rw[M] at aj;rw[ad rfl,ad (by omega)];exact aj.symm
    ·rw[ag h,ad rfl,ad (by omega)]
   have xK:=IC.2 _ (dn M);have ajB:o9 N ((rows.set r (rq,((a5,bX),(cS,eC)))).set s (Mq,((lz,mW),(tv,tw)))):=(IC.set xK).set (IC.2 _ (dn aj));rw[ajA (by rw[U,aw];exact aC) qx (C8 uQ)] at gF;have gq:=IA M;have ajC:=IA aj;have AX:=Iz (l:=rows) (k:=s) (by omega);have CN:=Iz (l:=rows) (k:=r) (by omega);have s1:=Rg (l:=rows) (k:=r) (by omega) rq a5 bX cS eC;have ajD:=Iz (l:=rows.set r (rq,((a5,bX),(cS,eC)))) (k:=s) (by rw[jF];omega);have s2:=Rg (l:=rows.set r (rq,((a5,bX),(cS,eC)))) (k:=s) (by rw[jF];omega) Mq lz mW tv tw;generalize aLi:(rows.set r (rq,((a5,bX),(cS,eC)))).set s (Mq,((lz,mW),(tv,tw)))=gp at *;have vt:=ajB.1;simp only[go_sem,go_sem_proc,G,jG,d2];refine Rh (λtm m=>tm 1=.I (.int .i64 N)/\tm 2=.I (.bool stop)/\tm 9=.ref 194021 0 5 0 N/\tm 10=.ref 194050 jK 1 0 (D free)/\tm 11=.I (.int .i64 r)/\tm 12=.I (.int .i64 c)/\tm 13=.I (.int .i64 s)/\m 194021=some (0,aV de rows)/\m 194050=some (jK,aV sl free)) (by refine⟨?_,?_,?_,?_,?_,?_,?_,?_,?_⟩<;>first|rfl|assumption|simp only[go_sem,go_sem_proc,Rk,wo,Rl,Fv,G,J,eK,dS,hp,eP,jG]) ?_
   clear G J eK dS hp eP jG rr sm tm m;rintro tm m ⟨G,J,eK,dS,hp,eP,jG,rr,sm⟩;have ajE:=IA uQ;have ajF:=Iz (l:=gp) (k:=r) (by omega);have vn:(D rq)=N:=xK.1;have ow:=axn (rq,((a5,bX),(cS,eC))) c ⟨xK.2,by dsimp only;omega,by dsimp only;omega⟩
   have g5:=aae xK c;dsimp only at ow;rw[vn] at ow;rcases ku:ij (rq,((a5,bX),(cS,eC))) c with ⟨⟨C9,⟨av,aB⟩,⟨bp,bM⟩⟩,ok⟩;rw[ku] at ow g5 gF;simp only[de,ar] at ow;simp only[go_sem,go_sem_proc,Rl,G,eK,hp,eP,jG,rr,wq,oG,gq,ajC,AX,CN,s1,ajD,s2,ajE,ajF,ow];refine Rh (λtm m=>tm 1=.I (.int .i64 N)/\tm 2=.I (.bool stop)/\tm 9=.ref 194021 0 5 0 N/\tm 10=.ref 194050 jK 1 0 (D free)/\tm 11=.I (.int .i64 r)/\tm 12=.I (.int .i64 c)/\tm 16=.I (.bool ok)/\m 194021=some (0,aV de gp)/\m 194050=some (jK,aV sl free)/\∃q,tm 15=.ptr 194015 q 0/\m 194015=some (q,[.I (.X (C9.map ar)),.I (.int .i64 av),.I (.X (aB.map ae)),.I (.int .i64 bp),.I (.X (bM.map ae))])) (by refine⟨?_,?_,?_,?_,?_,?_,?_,?_,?_,fN (m 194015),?_,?_⟩<;>first|rfl|assumption|simp only[go_sem,go_sem_proc,Rk,wo,Rl,Fv,G,J,eK,dS,hp,eP,sm]) ?_
   clear G J eK dS hp eP jG rr sm tm m gq ajC AX CN s1 ajD s2 ajE ow;rintro tm m ⟨G,J,eK,dS,hp,eP,uz,rr,sm,q,yZ,axF⟩
   have uU:∀(rows:List b9),D rows=N->∀n (m:Mem),m 194021=some (0,aV de rows)->dz (n+1) m (.ref 194021 0 5 0 N)=some (.X (rows.map de)):=λrows aw n m hm=>by
    have:=jU (n:=n) qs hm;rwa [aw] at this
   have rn:∀n (m:Mem),m 194050=some (jK,aV sl free)->dz (n+1) m (.ref 194050 jK 1 0 (D free))=some (.X (free.map sl)):=λn m hm=>jU (n:=n) Ri hm
   cases ok
   ·rw[ag (by simp)] at gF;rw[gF];simp only[go_sem,go_sem_proc,eK,dS,uz,Bd,db];rw[uU gp vt 4 _ rr,rn 4 _ sm]
    rfl
   ·rw[ad rfl] at gF;have bK:=Rg (l:=gp) (k:=r) (by omega) C9 av aB bp bM;have Mr:=ajB.set (i:=r) g5;have axG:(gp.set r (C9,((av,aB),(bp,bM))))[r]?=some (C9,((av,aB),(bp,bM))):=by rw[lG,ad rfl,ad (by omega)]
    simp only[go_sem,go_sem_proc,eK,hp,uz,yZ,axF,rr,oG,ajF,bK,cw];refine axy T wo Fv N 0 r c (gp.set r (C9,((av,aB),(bp,bM)))) (C9,((av,aB),(bp,bM))) stop (.ref 194050 jK 1 0 (D free)) (some (jK,aV sl free)) Mr axG az fK _ _ ?_ ?_ ?_ ?_ ?_ ?_ ?_ ?_ ?_ ?_ ?_
    ·simp only[go_sem,go_sem_proc,G]
    ·simp only[go_sem,go_sem_proc,J]
    ·simp only[go_sem,go_sem_proc,eK]
    ·simp only[go_sem,go_sem_proc,dS]
    ·simp only[go_sem,go_sem_proc,hp]
    ·simp only[go_sem,go_sem_proc,eP]
    ·rfl
    ·simp only[go_sem,go_sem_proc]
    ·simp only[go_sem,go_sem_proc,sm]
    ·intro jr tm' m' cB dA kv oy pI mZ oo Ms;rw[jr,ad rfl] at gF;have m5:=Mp (p:=(C9,((av,aB),(bp,bM)))) (r:=r) (c:=c) g5.1 0 _ Mr.2;simp only[go_sem,go_sem_proc,cB,dA,kv,oy,pI,mZ,oo,Ms,bG,m0];exact⟨(c+1,r+1,jK,_,free),by dsimp only;omega,by dsimp only;omega,by dsimp only;omega,⟨m5.1.trans Mr.1,m5.2⟩,by dsimp only;rw[gF,show N-(c+1)=k by omega],rfl,rfl,rfl,rfl,rfl⟩
    ·intro jr tm' m' fj iy jq oo Ms;rw[jr,ag (by simp)] at gF;have m5:=Mp (p:=(C9,((av,aB),(bp,bM)))) (r:=r) (c:=c) g5.1 0 _ Mr.2;rw[gF];simp only[go_sem,go_sem_proc,fj,iy,jq,Bd];rw[uU _ (m5.1.trans Mr.1) 4 _ oo,rn 4 _ Ms]
     rfl
 ·obtain rfl:c=N:=by omega
  have d1:decide ((c:Int)<(c:Int))=false:=cl
  have uU:∀n (m:Mem),m 194021=some (0,aV de rows)->dz (n+1) m (.ref 194021 0 5 0 c)=some (.X (rows.map de)):=λn m hm=>by
   have:=jU (n:=n) qs hm;rwa [aw] at this
  have rn:∀n (m:Mem),m 194050=some (jK,aV sl free)->dz (n+1) m (.ref 194050 jK 1 0 (D free))=some (.X (free.map sl)):=λn m hm=>jU (n:=n) Ri hm;rw[jy] at gF;simp only[m4] at gF;rw[gF];simp only[go_sem,go_sem_proc,G,eK,dS,eP,d1,Bd];rw[uU 4 _ rr,rn 4 _ sm]
  rfl
theorem ajG {rs:List b9}{n:Int}(bS:kz rs)(h:ig rs n=true):n=(D rs:Nat)/\D rs<=40/\o9 (D rs) rs:=by
 obtain⟨G,J,af⟩:=Q6 bS h;exact⟨G.symm,J,rfl,af⟩
theorem Rm {N:Nat}(stop:Bool):∀(k c:Nat) (rows:List b9) (r:Nat) (free:List Nat),c+k=N->r<=c->o9 N rows->o9 N (m4 stop k c rows r free).1
 |0,c,rows,r,free,_,_,h=>h
 |k+1,c,rows,r,free,H,iG,h=>by
  have aw:=h.1;unfold m4
  split
  ·split
   ·exact h
   ·exact Rm stop k (c+1) rows r _ (by omega) (by omega) h
  ·rename_i b6
   have hJ:∀i,i<(D rows)->sk rows i∈rows:=λi Q=>by
    have M:rows[i]?=some rows[i]:=bq Q;rw[C8 M];exact lq Q
   have Y:r<D rows:=by omega
   have hle:=aah rows r c (by omega);have U:gA rows r c<D rows:=by omega
   have qx:o9 N (mA rows r (gA rows r c)):=by
    unfold mA;exact (h.set (h.2 _ (hJ _ U))).set (h.2 _ (hJ _ Y))
   have vt:(mA rows r (gA rows r c)).length=D rows:=by unfold mA;rw[jF,jF]
   have my:sk (mA rows r (gA rows r c)) r∈mA rows r (gA rows r c):=by
    have M:(mA rows r (gA rows r c))[r]?=some _:=bq (by omega);rw[C8 M];exact lq _
   have ab:=aae (qx.2 _ my) c
   split
   ·have ow:=qx.set (i:=r) ab;have m5:=Mp (p:=(ij (sk (mA rows r (gA rows r c)) r) c).1) (r:=r) (c:=c) ab.1 0 _ ow.2
    split
    ·exact Rm stop k (c+1) _ (r+1) free (by omega) (by omega) ⟨m5.1.trans ow.1,m5.2⟩
    ·exact⟨m5.1.trans ow.1,m5.2⟩
   ·exact qx
def tx (stop:Bool)(rs:List b9):List b9×List Nat×Bool:=m4 stop (D rs) 0 rs 0 []
def Be (rs:List b9)(n:Int):List a7×Int:=if ig rs n=true then (if (tx true rs).2.2=true then (if (tx true rs).2.1.length>0 then ([],17) else ((tx true rs).1.map (·.2),0)) else ([],6)) else ([],1)
def aaj:=cn H2 λ(rs,n)=>cN (kz rs) (.same (.c1 [.X ((Be rs n).1.map ar),.int .i64 (Be rs n).2]))
@[go_sem] theorem axH (rs:List b9)(n:Int)(H:kz rs):aaj [.X (rs.map de),.int .i64 n]=some (.same (.c1 [.X ((Be rs n).1.map ar),.int .i64 (Be rs n).2])):=(cz Qr (rs,n)).trans (cX H _)
theorem axI (T:bl)(Rn:T Ve=aQ ZX)(aak:T Vf=aQ Rj)(rs:List b9)(n:Int)(H:kz rs):WP T YZ (.same (.c1 [.X ((Be rs n).1.map ar),.int .i64 (Be rs n).2])) [.I (.X (rs.map de)),.I (.int .i64 n)]:=by
 refine cD ?_;simp only[YZ];unfold Be;rcases Y:ig rs n
 ·simp only[go_sem,go_sem_proc,Rn,H,Y,db,cC]
 ·obtain⟨rfl,fK,cM⟩:=ajG H Y;have dG:=axB rs true ⟨cM,fK⟩;have m5:=Rm true (D rs) 0 rs 0 [] (by omega) (by omega) cM
  change Rj [.X (rs.map de),.int .i64 (D rs:Nat),.bool true]=some (.same (Bd (tx true rs))) at dG
  change o9 (D rs) (tx true rs).1 at m5
  rcases fi:tx true rs with ⟨rows,free,ok⟩;rw[fi] at m5 dG;dsimp only at m5;simp only[Bd] at dG;have cm:=m5.1
  cases ok
  ·simp only[go_sem,go_sem_proc,Rn,aak,H,Y,dG,cw,db,cC]
  ·cases free with
   |cons f eh =>
    have hL:decide ((((f::eh).length:Nat):Int)>0)=true:=jw (by simp only[jO];omega);simp only[jO] at hL;simp only[go_sem,go_sem_proc,Rn,aak,H,Y,dG,hL,aE,cw,cC];rw[ad (by simp)]
    all_goals rfl
   |nil =>
    simp only[go_sem,go_sem_proc,Rn,aak,H,Y,dG,show decide (((0:Nat):Int)>0)=false from rfl,cC,List.length_nil,cw];rw[ag (by simp)];refine cU [1,6] [] (λ((i,g):Nat×Nat) tm m=>i<=D rs/\tm 10=.I (.int .i64 i)/\tm 9=.ref 189039 g 4 0 i/\m 189039=some (g,aV ar ((rows.take i).map (·.2)))) (λ(i,_)=>D rs-i) (0,0) (by refine⟨fm _,rfl,rfl,rfl⟩) ?_;intro vs ms aJ aH;simp only[go_sem,go_sem_proc] at aJ aH;subst aJ aH;rintro⟨i,g⟩ tm m L-⟨Ma,dS,eK,aal⟩;simp only[go_sem,go_sem_proc,bk] at L;obtain⟨G,b0⟩:=L;rcases dc (i<D rs) with az|b2
    ·obtain⟨⟨A,⟨cE,cO⟩,⟨ei,eS⟩⟩,M⟩:∃x,rows[i]?=some x:=⟨_,bq (by omega)⟩;have m2:((rows.take i).map (·.2)).length=i:=by rw[aE,gv];omega
     have dv:=jm iT v5 189039 g 64 ((rows.take i).map (·.2)) ((cE,cO),(ei,eS)) (cs:=[.I (.int .i64 cE),.I (.X (cO.map ae)),.I (.int .i64 ei),.I (.X (eS.map ae))]) rfl (by omega) (by omega);rw[m2] at dv
     have Mj:(rows.take i).map (·.2)++[((cE,cO),(ei,eS))]=(rows.take (i+1)).map (·.2):=by
      rw[gB,M,js];rfl
     rw[Mj] at dv;have d1:decide ((i:Int)<(D rs:Int))=true:=cT;have bG:=ec (i:=i) (by omega);simp only[go_sem,go_sem_proc,G,b0,eK,dS,aal,M,dv,d1,bG,de,ar,bj];exact⟨(i+1,g+1),by dsimp only;omega,by dsimp only;omega,rfl,rfl,rfl⟩
    ·obtain rfl:i=D rs:=by omega
     have d1:decide ((D rs:Int)<(D rs:Int))=false:=cl;have dB:rows.take (D rs)=rows:=dp (by omega);rw[dB] at aal
     have gi:∀n,dz (n+1) m (.ref 189039 g 4 0 (D rs))=some (.X ((rows.map (·.2)).map ar)):=λn=>by
      have:=jU (n:=n) iT aal;rw[show (rows.map (·.2)).length=(D rs) by rw[aE];omega] at this
      exact this
     have axJ:=gi 4;simp only[go_sem,go_sem_proc,G,eK,dS,d1];rw[axJ]
     rfl

def l5 (r:b9):List a7:=r.1++[r.2]
def mC (bu:List dH)(bU:List b9):Prop:=bu.map (·.2.2)=bU.map l5
theorem mC.len {bu:List dH}{bU:List b9}(h:mC bu bU):(D bu)=D bU:=by
 have:=congrArg D h
 simpa using this
theorem mC.at_ {bu:List dH}{bU:List b9}(h:mC bu bU){i:Nat}{x:dH}{r:b9}(M:bu[i]?=some x)(Y:bU[i]?=some r):x.2.2=l5 r:=by
 have:=congrArg (λl:List (List a7)=>l[i]?) h;simp only[bj,M,Y,lu,cL] at this;exact this
theorem aam {N c:Nat}{x:dH}{r:b9}(h:x.2.2=l5 r)(aw:r.1.length=N)(H:c<N):cellOf x c=iV r c:=by
 unfold cellOf iV;rw[h,ep,ep];unfold l5;rw[oe (by omega)]
theorem aan {α:Type}{op:α->a7×Int}{e:α->a7}:∀l:List α,(m3 op e l).2=l.all λa=>(op a).2==0
 | []=>rfl
 |a::r=>by
  unfold m3;rw[w7];rcases h:((op a).2==0)
  ·rfl
  ·simp only[if_true,fD];exact aan r
theorem ajH {α:Type}{op:α->a7×Int}{e:α->a7}{l:List α}(h:(l.all λa=>(op a).2==0)=true):(m3 op e l).1=l.map λa=>(op a).1:=by
 rw[Rb λa aW=>by have:=List.all_eq_true.1 h a aW;simpa using this]
theorem axK {α:Type}(f:α->Int)(l:List α):(l.any λa=>f a != 0) = !(l.all λa=>f a==0):=by
 rw[List.not_all_eq_any_not]
 rfl
theorem axL (r:b9)(c:Nat):(g9 (iV r c) (l5 r)).2 = !(ij r c).2/\((ij r c).2=true->(g9 (iV r c) (l5 r)).1=l5 (ij r c).1):=by
 have H:r.1.getD c dD=iV r c:=rfl;unfold g9 ij l5;rw[H,axK,QJ,aan];rcases h:(r.1.all λa=>(fE a (iV r c)).2==0)
 ·simp
 ·rw[ajH h];simp
theorem ajI (a f b:a7):((iU a f b).2==0)=((hA f b).2==0&&(jJ a (hA f b).1).2==0):=by
 unfold iU;rcases h:((hA f b).2==0)
 ·simp only[j3,if_false,eR,h]
 ·simp only[if_true,fD]
theorem axM {a f b:a7}(h:((iU a f b).2==0)=true):(iU a f b).1=(jJ a (hA f b).1).1:=by
 rw[ajI,fw] at h;unfold iU;rw[ad h.1]
theorem ajJ (f:a7):∀(l p:List a7),D l=(D p)->(h0 f l p false).2 = !((l.zip p).all λa=>(iU a.1 f a.2).2==0)/\(((l.zip p).all λa=>(iU a.1 f a.2).2==0)=true->(h0 f l p false).1=(l.zip p).map λa=>(iU a.1 f a.2).1)
 | [],[],_=>by simp[h0]
 |a::l,[],h=>by simp at h
 | [],b::p,h=>by simp at h
 |a::l,b::p,h=>by
  obtain⟨i1,i2⟩:=ajJ f l p (by simpa using h)
  have iI:((hA f b).2 != 0||(jJ a (hA f b).1).2 != 0) = !((iU a f b).2==0):=by
   rw[ajI];simp only[bne,Bool.not_and]
  simp only[h0,List.zip_cons_cons,w7,ey];rw[iI];rcases L:((iU a f b).2==0)
  ·rw[db,L4];simp
  ·rw[cw];refine⟨by rw[i1];simp,λaY=>?_⟩
   rw[fD] at aY;rw[i2 aY,axM L]
theorem axN {x p:b9}(h:x.1.length=p.1.length)(c:Nat):(h0 (iV x c) (l5 x) (l5 p) false).2 = !(nS x p c).2/\((nS x p c).2=true->(h0 (iV x c) (l5 x) (l5 p) false).1=l5 (nS x p c).1):=by
 have H:x.1.getD c dD=iV x c:=rfl;obtain⟨cQ,dd⟩:=ajJ (iV x c) (l5 x) (l5 p) (by simp[l5,h])
 have a3:(l5 x).zip (l5 p)=x.1.zip p.1++[(x.2,p.2)]:=by
  unfold l5;rw[List.zip_append h]
  rfl
 rw[a3,QJ] at cQ dd;unfold nS;rw[H,aan];rcases L:((x.1.zip p.1).all λa:a7×a7=>(iU a.1 (iV x c) a.2).2==0)
 ·rw[L] at cQ;simp only[eR,db] at cQ;rw[cQ];simp
 ·rw[L] at cQ dd;simp only[w7,List.all_nil,Ah,fD] at cQ dd;rw[cQ,ajH L];simp only[if_true];refine⟨trivial,λaY=>?_⟩;rw[dd aY,js]
  rfl
theorem Ro (fU:List a7)(r c:Nat):∀(i:Nat) (l:List dH),(ih fU r c i l true).2=true
 |_,[]=>rfl
 |i,x::xs=>by
  unfold ih
  split
  ·exact Ro fU r c (i+1) xs
  ·rw[L4];exact Ro fU r c (i+1) xs
theorem ajK {N r c:Nat}{p:b9}(aF:p.1.length=N)(H:c<N):∀(i:Nat) (bu:List dH) (bU:List b9),mC bu bU->(∀y∈bU,y.1.length=N) ->
  (ih (l5 p) r c i bu false).2 = !(hs p r c i bU).2/\((hs p r c i bU).2=true->mC (ih (l5 p) r c i bu false).1 (hs p r c i bU).1)
 |i,[],[],_,_=>by simp[ih,hs,mC]
 |i,x::bu,[],h,_=>by simp[mC] at h
 |i,[],y::bU,h,_=>by simp[mC] at h
 |i,x::bu,y::bU,h,aw=>by
  unfold mC at h;rw[ey,ey,bk] at h;obtain⟨g4,axO⟩:=h;have Rf:=aw y g3;obtain⟨i1,i2⟩:=ajK (r:=r) aF H (i+1) bu bU axO λz a3=>aw z (hO _ a3);have nf:=aam g4 Rf H;unfold ih;rw[nf,g4]
  by_cases U:(i==r||gP (iV y c))=true
  ·rw[ad U,ajv U];refine⟨i1,λaY=>?_⟩;have:=i2 aY;unfold mC at this ⊢;rw[ey,ey,this,g4]
  ·rw[ag U];obtain⟨cQ,dd⟩:=axN (x:=y) (p:=p) (by omega) c;rcases L:(nS y p c).2
   ·rw[ajx U L];rw[L] at cQ;dsimp only;rw[cQ,db,Ro];simp
   ·rw[ajw U L];rw[L] at cQ;dsimp only;rw[cQ,cw];refine⟨i1,λaY=>?_⟩;have:=i2 aY;unfold mC at this ⊢;rw[ey,ey,this,dd L]
theorem axP {N r c:Nat}{bu:List dH}{bU:List b9}(h:mC bu bU)(aw:∀y∈bU,y.1.length=N)(H:c<N):findAt bu r c=gA bU r c:=by
 have a3:(bu.drop r).map (λx => !gP (cellOf x c))=(bU.drop r).map λx => !gP (iV x c):=by
  apply oR;intro i;rw[bj,bj,qX,qX];have hlen:=h.len;rcases g2 (r+i) (D bU) with Q|Q
  ·have M:bu[r+i]?=some bu[r+i]:=bq (by omega);have Y:bU[r+i]?=some bU[r+i]:=bq Q;rw[M,Y,lu,lu,aam (h.at_ M Y) (aw _ (lq Q)) H]
  ·rw[ja (by omega),ja Q]
   rfl
 have G:∀(l:List dH),(l.findIdx λx => !gP (cellOf x c))=(l.map λx => !gP (cellOf x c)).findIdx id:=λl=>by rw[ajL];rfl
 have J:∀(l:List b9),(l.findIdx λx => !gP (iV x c))=(l.map λx => !gP (iV x c)).findIdx id:=λl=>by rw[ajL];rfl
 unfold findAt gA;rw[G,J,a3]
theorem mC.set {bu:List dH}{bU:List b9}(h:mC bu bU){i:Nat}{x:dH}{r:b9}(my:x.2.2=l5 r):mC (bu.set i x) (bU.set i r):=by
 unfold mC at h ⊢;rw[wb,wb,h,my]
theorem aao (stop:Bool){N:Nat}:∀(k c:Nat) (bu:List dH) (bU:List b9) (r:Nat) (free:List Nat),c+k=N->r+D free=c->mC bu bU->o9 N bU ->
  (kG stop k c bu free false).2.2 = !(m4 stop k c bU r free).2.2/\((m4 stop k c bU r free).2.2=true->mC (kG stop k c bu free false).1 (m4 stop k c bU r free).1/\(kG stop k c bu free false).2.1=(m4 stop k c bU r free).2.1)
 |0,c,bu,bU,r,free,_,_,h,_=>⟨rfl,λ_=>⟨h,rfl⟩⟩
 |k+1,c,bu,bU,r,free,H,Y,h,cM=>by
  have wh:c<N:=by omega
  have axQ:∀y∈bU,y.1.length=N:=λy aj=>(cM.2 y aj).1;have hlen:=h.len;have LY:=cM.1;have ajM:=axP (r:=r) h axQ wh;have qo:c-D free=r:=by omega
  unfold kG;rw[qo]
  by_cases aC:gA bU r c=D bU
  ·have aF:h1 bu r c=(true,bu,false):=by unfold h1;rw[ajM,ad (by rw[hlen];exact aC)]
   rw[ajz aC,aF];rw[ad rfl]
   cases stop
   ·rw[ag (by simp),ag (by simp)];exact aao false k (c+1) bu bU r (free++[c]) (by omega) (by simp;omega) h cM
   ·rw[ad rfl,ad rfl];exact⟨rfl,λ_=>⟨h,rfl⟩⟩
  ·have aF:h1 bu r c=(false,ih (g9 (cellOf (rowAt (m1 bu r (gA bU r c)) r) c) (rowAt (m1 bu r (gA bU r c)) r).2.2).1 r c 0 (A7 (m1 bu r (gA bU r c)) r c) (g9 (cellOf (rowAt (m1 bu r (gA bU r c)) r) c) (rowAt (m1 bu r (gA bU r c)) r).2.2).2):=by unfold h1;rw[ajM,ag (by rw[hlen];exact aC)]
   rw[aF];rw[ag (by simp)];have hle:=aah bU r c (by omega);generalize U:gA bU r c=s at *;have wq:s<N:=by omega
   have oG:r<N:=by omega
   obtain⟨xs,qb⟩:∃x,bu[s]?=some x:=⟨_,bq (by omega)⟩;obtain⟨ys,Eg⟩:∃x,bU[s]?=some x:=⟨_,bq (by omega)⟩;obtain⟨rk,my⟩:∃x,bu[r]?=some x:=⟨_,bq (by omega)⟩;obtain⟨ID,oF⟩:∃x,bU[r]?=some x:=⟨_,bq (by omega)⟩;have qx:m1 bu r s=(bu.set r xs).set s rk:=by unfold m1;rw[tq qb,tq my]
   have axR:mA bU r s=(bU.set r ys).set s ID:=by unfold mA;rw[C8 Eg,C8 oF]
   have axS:mC ((bu.set r xs).set s rk) ((bU.set r ys).set s ID):=(h.set (h.at_ qb Eg)).set (h.at_ my oF);have axT:((bu.set r xs).set s rk)[r]?=some xs:=L5 qb my;have axU:((bU.set r ys).set s ID)[r]?=some ys:=L5 Eg oF;have g4:=h.at_ qb Eg;have aap:=cM.2 _ (dn Eg);have axV:o9 N ((bU.set r ys).set s ID):=(cM.set aap).set (cM.2 _ (dn oF));rw[ajA (by rw[U];exact aC) (by rw[U];exact axR) (C8 axU)];unfold A7;rw[qx,tq axT,g4,aam g4 aap.1 wh];obtain⟨d1,d2⟩:=axL ys c;rcases ab:(ij ys c).2
   ·rw[ab] at d1;rw[d1,db,ag (by simp)];have ah:=λl=>Ro (g9 (iV ys c) (l5 ys)).1 r c 0 l;rw[ah,Q3];exact⟨rfl,λaY=>absurd aY (by simp)⟩
   ·rw[ab] at d1;rw[d1,cw,ad rfl,d2 ab];have g5:=aae aap c;have axW:mC (((bu.set r xs).set s rk).set r (xs.1,xs.2.1,l5 (ij ys c).1)) (((bU.set r ys).set s ID).set r (ij ys c).1):=axS.set rfl;have pS:=axV.set (i:=r) g5;obtain⟨eF,eU⟩:=ajK (r:=r) g5.1 wh 0 _ _ axW λy aj=>(pS.2 y aj).1;have m5:=Mp (p:=(ij ys c).1) (r:=r) (c:=c) g5.1 0 _ pS.2;rcases jr:(hs (ij ys c).1 r c 0 (((bU.set r ys).set s ID).set r (ij ys c).1)).2
    ·rw[jr] at eF;rw[eF,db,Q3,ag (by simp)];exact⟨rfl,λaY=>absurd aY (by simp)⟩
    ·rw[jr] at eF;rw[eF,cw,ad rfl];exact aao stop k (c+1) _ _ (r+1) free (by omega) (by omega) (eU jr) ⟨m5.1.trans pS.1,m5.2⟩
theorem axX (rs:List b9):mC (hi rs) rs:=by
 unfold mC hi;rw[oj];apply oR;intro i;rw[bj,bj,Q0]
 cases rs[i]?<;>rfl
theorem axY (stop:Bool){rs:List b9}(cM:o9 (D rs) rs):(oH stop rs).2.2 = !(tx stop rs).2.2/\((tx stop rs).2.2=true->mC (oH stop rs).1 (tx stop rs).1/\(oH stop rs).2.1=(tx stop rs).2.1) :=
 aao stop (D rs) 0 (hi rs) rs 0 [] (by omega) rfl (axX rs) cM
theorem axZ {rs:List b9}(bS:kz rs)(n:Int):o8 rs n=Be rs n:=by
 unfold o8 Be;rcases Y:ig rs n
 ·rfl
 obtain⟨rfl,fK,cM⟩:=ajG bS Y;obtain⟨G,J⟩:=axY true cM;have m5:=Rm true (D rs) 0 rs 0 [] (by omega) (by omega) cM
 change o9 (D rs) (tx true rs).1 at m5
 rcases dK:(tx true rs).2.2
 ·rw[G,dK];rfl
 ·obtain⟨af,aT⟩:=J dK;rw[G,dK,aT];simp only[if_true,cw,j3,if_false]
  split
  ·rfl
  ·rw[fS];refine⟨?_,rfl⟩;apply oR;intro i;rw[bj,bj];have hlen:=af.len;rcases g2 i (tx true rs).1.length with Q|Q
   ·have M:(oH true rs).1[i]?=some _:=bq (by omega);have aj:(tx true rs).1[i]?=some _:=bq Q;rw[M,aj,lu,lu];have he:=af.at_ M aj;have aw:=(m5.2 _ (dn aj)).1;unfold uV;rw[he];unfold l5;rw[ep,nc (by omega),aw,jy]
    rfl
   ·rw[ja (by omega),ja Q];rfl
def cJ:Nat->(Nat->Rat)->Rat
 |0,_=>0
 |n+1,f=>cJ n f+f n
theorem nT {n:Nat}{f g:Nat->Rat}(h:∀k,k<n->f k=g k):cJ n f=cJ n g:=by
 induction n with
 |zero=>rfl
 |succ n aN=>rw[cJ,cJ,aN λk L=>h k (by omega),h n (by omega)]
theorem Fy (n:Nat)(f g:Nat->Rat):cJ n (λk=>f k+g k)=cJ n f+cJ n g:=by
 induction n with
 |zero=>simp[cJ,iX]
 |succ n aN=>rw[cJ,cJ,cJ,aN];grind
theorem IE (n:Nat)(c:Rat)(f:Nat->Rat):cJ n (λk=>c*f k)=c*cJ n f:=by
 induction n with
 |zero=>simp[cJ,Rat.mul_zero]
 |succ n aN=>rw[cJ,cJ,aN];grind
theorem Bf {n:Nat}{f:Nat->Rat}(h:∀k,k<n->f k=0):cJ n f=0:=by
 induction n with
 |zero=>rfl
 |succ n aN=>rw[cJ,aN λk L=>h k (by omega),h n (by omega)];exact iX 0
theorem Bg {n:Nat}{f:Nat->Rat}{j:Nat}(aA:j<n)(h:∀k,k<n->k≠j->f k=0):cJ n f=f j:=by
 induction n with
 |zero=>omega
 |succ n aN =>
  rw[cJ]
  by_cases aM:j=n
  ·subst aM;rw[Bf λk L=>h k (by omega) (by omega)];grind
  ·rw[aN (by omega) λk L=>h k (by omega),h n (by omega) (by omega)];grind
abbrev e9:=Nat->Nat->Rat
def m6 (N:Nat)(a y:Nat->Rat):Rat:=cJ (N+1) λk=>a k*y k
def ik (N:Nat)(A:e9)(y:Nat->Rat):Prop:=∀i,i<N->m6 N (A i) y=0
def hD (A:e9)(r s:Nat):e9:=λi=>if i=s then A r else if i=r then A s else A i
def pa (A:e9)(r c s:Nat):e9:=λi k=>if i=r then hD A r s r k/hD A r s r c else hD A r s i k-hD A r s i c*(hD A r s r k/hD A r s r c)
theorem Rp (A:e9)(r s:Nat):hD A r s r=A s:=by
 unfold hD
 by_cases h:r=s
 ·simp[h]
 ·simp[h]
theorem ax0 {N r s:Nat}{A:e9}{y:Nat->Rat}(Y:r<N)(U:s<N):ik N (hD A r s) y↔ik N A y:=by
 unfold ik hD
 constructor
 ·intro h i Q
  by_cases G:i=r
  ·have:=h s U;simp at this;rw[G];exact this
  ·by_cases J:i=s
   ·have:=h r Y;rw[J]
    by_cases af:r=s
    ·omega
    ·simp[af] at this;exact this
   ·have:=h i Q;simp[G,J] at this;exact this
 ·intro h i Q
  by_cases J:i=s
  ·simp[J];exact h r Y
  ·by_cases G:i=r
   ·have:=h s U;rw[ag J,ad G];exact this
   ·simp[G,J];exact h i Q
theorem ax1 (N:Nat)(a b y:Nat->Rat)(x:Rat):m6 N (λk=>a k-x*b k) y=m6 N a y-x*m6 N b y:=by
 unfold m6;have:(λk=>(a k-x*b k)*y k)=λk=>a k*y k+(-x)*(b k*y k):=by funext k;grind
 rw[this,Fy,IE];grind
theorem ajN (N:Nat)(a y:Nat->Rat)(x:Rat):m6 N (λk=>a k/x) y=m6 N a y/x:=by
 unfold m6;have:(λk=>(a k/x)*y k)=λk=>(1/x)*(a k*y k):=by funext k;grind
 rw[this,IE];grind
theorem aaq {N r s c:Nat}{A:e9}{y:Nat->Rat}(Y:r<N)(U:s<N)(b6:A s c≠0):ik N (pa A r c s) y↔ik N A y:=by
 rw[<-ax0 (A:=A) Y U];have aLj:hD A r s r c≠0:=by rw[Rp];exact b6
 generalize dh:hD A r s=S at *
 have d1:∀i,i≠r->m6 N (pa A r c s i) y=m6 N (S i) y-S i c*(m6 N (S r) y/S r c):=by
  intro i Q;have:pa A r c s i=λk=>S i k-S i c*(S r k/S r c):=by funext k;unfold pa;rw[dh,ag Q]
  rw[this,ax1 N (S i) (λk=>S r k/S r c) y (S i c),ajN]
 have d2:m6 N (pa A r c s r) y=m6 N (S r) y/S r c:=by
  have:pa A r c s r=λk=>S r k/S r c:=by funext k;unfold pa;rw[dh,ad rfl]
  rw[this,ajN]
 unfold ik
 constructor
 ·intro h
  have ax:m6 N (S r) y=0:=by
   have:=h r Y;rw[d2] at this;generalize m6 N (S r) y=d at *;grind
  intro i Q
  by_cases pT:i=r
  ·rw[pT];exact ax
  ·have:=h i Q;rw[d1 i pT,ax] at this;generalize m6 N (S i) y=d at *;grind
 ·intro h i Q;have ax:=h r Y
  by_cases pT:i=r
  ·rw[pT,d2,ax];grind
  ·rw[d1 i pT,ax,h i Q];grind
structure ru (N:Nat) (aZ:e9) (p c:Nat) (da:Nat->Nat):Prop where
 mh:p<=c
 lt:∀j,j<p->da j<c
 unit:∀j,j<p->∀i,i<N->aZ i (da j)=if i=j then 1 else 0
 zero:∀i,p<=i->i<N->∀k,k<c->aZ i k=0
theorem ru.free {N p c:Nat}{aZ:e9}{da:Nat->Nat}(h:ru N aZ p c da)(a3:∀i,p<=i->i<N->aZ i c=0):ru N aZ p (c+1) da :=
 ⟨by have:=h.mh;omega,λj aA=>by have:=h.lt j aA;omega,h.unit,λi Q fK k L=>by
  by_cases CT:k=c
  ·rw[CT];exact a3 i Q fK
  ·exact h.zero i Q fK k (by omega)⟩
theorem ru.Fs {N p c s:Nat}{aZ:e9}{da:Nat->Nat}(h:ru N aZ p c da)(aF:p<N)(U:p<=s)(wq:s<N)(b6:aZ s c≠0):ru N (pa aZ p c s) (p+1) (c+1) (λj=>if j=p then c else da j):=by
 have dh:∀i,i<N->∃bm,bm<N/\hD aZ p s i=aZ bm/\(i<p->bm=i)/\(p<=i->p<=bm):=by
  intro i Q;unfold hD
  by_cases G:i=s
  ·exact⟨p,aF,by rw[ad G],by omega,by omega⟩
  ·by_cases J:i=p
   ·exact⟨s,wq,by rw[ag G,ad J],by omega,by omega⟩
   ·exact⟨i,Q,by rw[ag G,ag J],by omega,by omega⟩
 have aLk:hD aZ p s p c≠0:=by rw[Rp];exact b6
 have a3:∀i,p<=i->i<N->∀k,k<c->hD aZ p s i k=0:=by
  intro i Q fK k L;obtain⟨bm,G,J,-,aT⟩:=dh i fK;rw[J];exact h.zero bm (aT Q) G k L
 refine⟨by have:=h.mh;omega,λj aA=>?_,λj aA i Q=>?_,λi Q fK k L=>?_⟩
 ·show (if j=p then c else da j)<c+1
  split
  ·omega
  ·have:=h.lt j (by omega);omega
 ·unfold pa
  by_cases IF:j=p
  ·simp only[IF,if_true]
   by_cases pV:i=p
   ·rw[ad pV,ad pV];grind
   ·rw[ag pV,ag pV];grind
  ·simp only[IF,if_false];have vq:j<p:=by omega
   have av:hD aZ p s p (da j)=0:=a3 p (cH _) aF _ (h.lt j vq);rw[av]
   by_cases pV:i=p
   ·rw[ad pV,ag (by omega)];grind
   ·rw[ag pV];obtain⟨bm,G,J,af,aT⟩:=dh i Q;rw[J,h.unit j vq bm G];rcases g2 i p with az|b2
    ·rw[af az];grind
    ·rw[ag (by have:=aT b2;omega),ag (by omega)];grind
 ·unfold pa;rw[ag (by omega)]
  by_cases CT:k=c
  ·subst CT;grind
  ·rw[a3 i (by omega) fK k (by omega),a3 p (cH _) aF k (by omega)];grind
theorem Rq (N:Nat)(aZ:e9)(da:Nat->Nat):ru N aZ 0 0 da:=⟨cH _,λj aA=>by omega,λj aA=>by omega,λi Q fK k L=>by omega⟩
end Go.Mini
